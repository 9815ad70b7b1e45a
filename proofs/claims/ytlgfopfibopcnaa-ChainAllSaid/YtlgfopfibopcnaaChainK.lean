/-
  Two chains, the package's and the reference's, side by side.
-/
import Derived.Test.YtlgfopfibopcnaaRefChain3
namespace Go.Proofs.Ytlgfopfibopcnaa
open Go Go.RowKit Go.Maps Go.Sort
set_option linter.unusedVariables false

theorem ChainAt.more {w : World} {C bt bf n n' : Nat} {L : List (Int × Int)} (h : ChainAt w C bt bf n L) (hn : n ≤ n') : ChainAt w C bt bf n' L := by
  obtain ⟨D, hown, hD⟩ := h.own_t
  obtain ⟨E, hown', hE⟩ := h.own_f
  exact ⟨h.pt, h.pf, h.lt, h.ne, ⟨D, hown.mono hn, hD⟩, ⟨E, hown'.mono hn, hE⟩, h.nf, h.ns, h.wf, h.ends⟩

theorem Ends.perm {L M : List (Int × Int)} (hp : M.Perm L) {a : Int} {k : Nat} {z : Int} (h : Ends L a k z) : Ends M a k z := by
  induction h with
  | stop a ha => exact .stop a (fun hm => ha ((hp.map Prod.fst).mem_iff.1 hm))
  | step a b k z hm hr ih => exact .step a b k z (hp.mem_iff.2 hm) ih

theorem fst_unique {L L' : List (Int × Int)} (h : FstRises L) (h' : FstRises L') (hp : L.Perm L') : L = L' := by
  have hn := h.nodup
  refine List.Perm.eq_of_pairwise (le := fun a b => decide (a.1 ≤ b.1) = true) (fun a b ha hb h1 h2 => ?_) (h.imp fun {a b} h => by simp; omega) (h'.imp fun {a b} h => by simp; omega) hp
  simp at h1 h2
  obtain ⟨a1, a2⟩ := a
  obtain ⟨b1, b2⟩ := b
  have e1 : a1 = b1 := by simp at h1 h2; omega
  subst e1
  rw [fst_one hn ha (hp.mem_iff.2 hb)]

theorem callee_both {L M : List (Int × Int)} (hp : M.Perm L) (hr : FstRises M) (a : Int) (ha : (Lit.int .i64 a).wf = true) : ∃ (x : Int) (y : Bool),
    (∀ w C bt bf n, ChainAt w C bt bf n L → Calls Try.prog 47 #[.pointer (some ⟨C, 0, none⟩), .int .i64 a] w fun r w' => r = .returned (.tuple #[.int .i64 x, .bool y]) ∧ w' = w) ∧
    (∀ w base R, RChainAt w base R M → Calls Try.prog 48 #[.pointer (some ⟨R, 0, none⟩), .int .i64 a] w fun r w' => r = .returned (.tuple #[.int .i64 x, .bool y]) ∧ w' = w) := by
  by_cases h : a ∈ L.map Prod.fst
  · obtain ⟨⟨a', b⟩, hm, rfl⟩ := List.mem_map.1 h
    exact ⟨b, true, fun w C bt bf n hC => callee_some C bt bf n L a' b w hC hm ha, fun w base R hR => rcallee_some base R M a' b w hR hr.nodup (hp.mem_iff.2 hm)⟩
  · exact ⟨0, false, fun w C bt bf n hC => callee_none C bt bf n L a w hC h ha, fun w base R hR => rcallee_none base R M a w hR (fun hm => h ((hp.map Prod.fst).mem_iff.1 hm))⟩

theorem caller_both {L M : List (Int × Int)} (hp : M.Perm L) (hs : (L.map Prod.snd).Nodup) (a : Int) (ha : (Lit.int .i64 a).wf = true) : ∃ (x : Int) (y : Bool),
    (∀ w C bt bf n, ChainAt w C bt bf n L → Calls Try.prog 45 #[.pointer (some ⟨C, 0, none⟩), .int .i64 a] w fun r w' => r = .returned (.tuple #[.int .i64 x, .bool y]) ∧ w' = w) ∧
    (∀ w base R, RChainAt w base R M → Calls Try.prog 46 #[.pointer (some ⟨R, 0, none⟩), .int .i64 a] w fun r w' => r = .returned (.tuple #[.int .i64 x, .bool y]) ∧ w' = w) := by
  have hs' : (M.map Prod.snd).Nodup := (hp.map Prod.snd).nodup_iff.2 hs
  by_cases h : a ∈ L.map Prod.snd
  · obtain ⟨⟨b, a'⟩, hm, rfl⟩ := List.mem_map.1 h
    exact ⟨b, true, fun w C bt bf n hC => caller_some C bt bf n L a' b w hC (mem_back.2 hm) ha, fun w base R hR => rcaller_some base R M a' b w hR hs' (hp.mem_iff.2 hm)⟩
  · exact ⟨0, false, fun w C bt bf n hC => caller_none C bt bf n L a w hC (by rw [back_fst]; exact h) ha, fun w base R hR => rcaller_none base R M a w hR (fun hm => h ((hp.map Prod.snd).mem_iff.1 hm))⟩

set_option maxRecDepth 100000 in
set_option maxHeartbeats 4000000 in
theorem rcall_no (base R : Nat) (M : List (Int × Int)) (f t : Int) (w : World) (h : RChainAt w base R M) (hr : FstRises M) (hns : (M.map Prod.snd).Nodup) {kt : Nat} {zt : Int} (he : Ends M t kt zt) (hno : f = t ∨ f ∈ M.map Prod.fst ∨ t ∈ M.map Prod.snd ∨ zt = f) (hM : M.length ≤ 1000) :
    Calls Try.prog 44 #[.pointer (some ⟨R, 0, none⟩), .int .i64 f, .int .i64 t] w fun r w' => r = .returned (.bool false) ∧ w' = w := by
  have hL := rlast_calls base R M t kt zt w h hr.nodup he (by omega)
  have hE : ∃ (x : Int), Calls Try.prog 48 #[.pointer (some ⟨R, 0, none⟩), .int .i64 f] w fun r w' => r = .returned (.tuple #[.int .i64 x, .bool (decide (f ∈ M.map Prod.fst))]) ∧ w' = w := by
    by_cases h1 : f ∈ M.map Prod.fst
    · obtain ⟨⟨a', b⟩, hm, e⟩ := List.mem_map.1 h1
      simp only at e
      subst e
      rw [decide_eq_true h1]
      exact ⟨b, rcallee_some base R M _ b w h hr.nodup hm⟩
    · rw [decide_eq_false h1]
      exact ⟨0, rcallee_none base R M f w h h1⟩
  have hR : ∃ (x : Int), Calls Try.prog 46 #[.pointer (some ⟨R, 0, none⟩), .int .i64 t] w fun r w' => r = .returned (.tuple #[.int .i64 x, .bool (decide (t ∈ M.map Prod.snd))]) ∧ w' = w := by
    by_cases h1 : t ∈ M.map Prod.snd
    · obtain ⟨⟨b, a'⟩, hm, e⟩ := List.mem_map.1 h1
      simp only at e
      subst e
      rw [decide_eq_true h1]
      exact ⟨b, rcaller_some base R M _ b w h hns hm⟩
    · rw [decide_eq_false h1]
      exact ⟨0, rcaller_none base R M t w h h1⟩
  obtain ⟨x1, hE⟩ := hE
  obtain ⟨x2, hR⟩ := hR
  have hcase : (decide (f ∈ M.map Prod.fst) = true ∧ True) ∨ (decide (f ∈ M.map Prod.fst) = false ∧ decide (t ∈ M.map Prod.snd) = true) ∨ (decide (f ∈ M.map Prod.fst) = false ∧ decide (t ∈ M.map Prod.snd) = false ∧ (f == t) = true) ∨ (decide (f ∈ M.map Prod.fst) = false ∧ decide (t ∈ M.map Prod.snd) = false ∧ (f == t) = false ∧ (zt == f) = true) := by
    by_cases h1 : f ∈ M.map Prod.fst
    · exact .inl ⟨decide_eq_true h1, trivial⟩
    · by_cases h2 : t ∈ M.map Prod.snd
      · exact .inr (.inl ⟨decide_eq_false h1, decide_eq_true h2⟩)
      · by_cases h3 : f = t
        · exact .inr (.inr (.inl ⟨decide_eq_false h1, decide_eq_false h2, by simp [h3]⟩))
        · have h4 : zt = f := by
            rcases hno with h | h | h | h
            · exact absurd h h3
            · exact absurd h h1
            · exact absurd h h2
            · exact h
          exact .inr (.inr (.inr ⟨decide_eq_false h1, decide_eq_false h2, by simp [h3], by simp [h4]⟩))
  clear hno he h
  generalize decide (f ∈ M.map Prod.fst) = d1 at hE hcase
  generalize decide (t ∈ M.map Prod.snd) = d2 at hR hcase
  rcases hcase with ⟨rfl, _⟩ | ⟨rfl, rfl⟩ | ⟨rfl, rfl, h3⟩ | ⟨rfl, rfl, h3, h4⟩
  all_goals
    go_enter Try.func44, Try.ntmps44
    go_wp2_with (first
      | (go_at_call 48; refine hE.mono ?_; rintro r w1 ⟨rfl, hw1⟩; rw [hw1]; clear hw1 w1)
      | (go_at_call 46; refine hR.mono ?_; rintro r w1 ⟨rfl, hw1⟩; rw [hw1]; clear hw1 w1)
      | (go_at_call 51; refine hL.mono ?_; rintro r w1 ⟨rfl, hw1⟩; rw [hw1]; clear hw1 w1)
      | go_in)
    go_ret
    exact ⟨rfl, rfl⟩

/-- What is behind a call at both. -/
theorem call_both {w : World} {C bt bf n base R : Nat} {L M : List (Int × Int)} (hC : ChainAt w C bt bf n L) (hp : M.Perm L) (hr : FstRises M) (f t : Int) (hf : (Lit.int .i64 f).wf = true) (ht : (Lit.int .i64 t).wf = true) (hn : n ≤ 900) (hl : L.length ≤ n) : ∃ (ans : Bool) (L' : List (Int × Int)), L'.length ≤ n + 1 ∧
    Calls Try.prog 43 #[.pointer (some ⟨C, 0, none⟩), .int .i64 f, .int .i64 t] w (fun r w' => r = .returned (.bool ans) ∧ ChainAt w' C bt bf (n + 1) L' ∧ GrowBut w w' [bt, bf]) ∧
    ∀ w1, RChainAt w1 base R M → base ≤ w1.heap.size → Calls Try.prog 44 #[.pointer (some ⟨R, 0, none⟩), .int .i64 f, .int .i64 t] w1 fun r w' => r = .returned (.bool ans) ∧ (∃ M', M'.Perm L' ∧ FstRises M' ∧ RChainAt w' base R M') ∧ GrowBut w1 w' [R] := by
  obtain ⟨kt, zt, he⟩ := hC.ends t
  have hM : M.length ≤ 1000 := by have := hp.length_eq; omega
  have hns : (M.map Prod.snd).Nodup := (hp.map Prod.snd).nodup_iff.2 hC.ns
  have hfM := (hp.map Prod.fst).mem_iff (a := f)
  have htM := (hp.map Prod.snd).mem_iff (a := t)
  by_cases hno : f = t ∨ f ∈ L.map Prod.fst ∨ t ∈ L.map Prod.snd ∨ zt = f
  · refine ⟨false, L, by omega, (call_no C bt bf n L f t w hC hf ht he hno).mono fun r w' ⟨hr', hw⟩ => ⟨hr', by rw [hw]; exact hC.more (by omega), by rw [hw]; exact .refl _ _⟩, fun w1 hR hb => (rcall_no base R M f t w1 hR hr hns (he.perm hp) (by rw [hfM, htM]; exact hno) hM).mono fun r w' ⟨hr', hw⟩ => ⟨hr', by rw [hw]; exact ⟨M, hp, hr, hR⟩, by rw [hw]; exact .refl _ _⟩⟩
  · have h1 : f ≠ t := fun h => hno (.inl h)
    have h2 : f ∉ L.map Prod.fst := fun h => hno (.inr (.inl h))
    have h3 : t ∉ L.map Prod.snd := fun h => hno (.inr (.inr (.inl h)))
    have h4 : zt ≠ f := fun h => hno (.inr (.inr (.inr h)))
    refine ⟨true, (f, t) :: L, by simp; omega, call_ok C bt bf n L f t w hC hf ht h1 h2 h3 he h4 (by omega), fun w1 hR hb => (rcall_ok base R M f t w1 hR hr hns h1 (by rw [hfM]; exact h2) (by rw [htM]; exact h3) (he.perm hp) h4 hM hb).mono fun r w' ⟨hr', M', hp', hr'', hR', hg⟩ => ⟨hr', ⟨M', hp'.trans (List.Perm.cons _ hp), hr'', hR'⟩, hg⟩⟩

theorem answer_both {w : World} {C bt bf n base R : Nat} {L M : List (Int × Int)} (hC : ChainAt w C bt bf n L) (hp : M.Perm L) (hr : FstRises M) (f : Int) (hf : (Lit.int .i64 f).wf = true) (hn : n ≤ 900) (hl : L.length ≤ n) : ∃ (x : Int) (y : Bool) (L' : List (Int × Int)), L'.length ≤ n + 1 ∧
    Calls Try.prog 41 #[.pointer (some ⟨C, 0, none⟩), .int .i64 f] w (fun r w' => r = .returned (.tuple #[.int .i64 x, .bool y]) ∧ ChainAt w' C bt bf (n + 1) L' ∧ GrowBut w w' [bt, bf]) ∧
    ∀ w1, RChainAt w1 base R M → base ≤ w1.heap.size → Calls Try.prog 42 #[.pointer (some ⟨R, 0, none⟩), .int .i64 f] w1 fun r w' => r = .returned (.tuple #[.int .i64 x, .bool y]) ∧ (∃ M', M'.Perm L' ∧ FstRises M' ∧ RChainAt w' base R M') ∧ GrowBut w1 w' [R] := by
  have hM : M.length ≤ 1000 := by have := hp.length_eq; omega
  have hns : (M.map Prod.snd).Nodup := (hp.map Prod.snd).nodup_iff.2 hC.ns
  by_cases h : f ∈ L.map Prod.snd
  · obtain ⟨⟨b, a'⟩, hm, e⟩ := List.mem_map.1 h
    simp only at e
    subst e
    refine ⟨b, true, cutTo L a', ?_, (answer_some C bt bf n L b a' w hC hm).mono fun r w' ⟨hr', hC', hg⟩ => ⟨hr', hC'.more (by omega), hg⟩, fun w1 hR hb => (ranswer_some base R M a' b w1 hR hns (hp.mem_iff.2 hm) hM hb).mono fun r w' ⟨hr', hR', hg⟩ => ⟨hr', ⟨_, hp.filter _, List.Pairwise.sublist List.filter_sublist hr, hR'⟩, hg⟩⟩
    have := List.length_filter_le (fun p : Int × Int => decide (p.2 ≠ a')) L
    unfold cutTo
    omega
  · refine ⟨0, false, L, by omega, (answer_none C bt bf n L f w hC hf h).mono fun r w' ⟨hr', hw⟩ => ⟨hr', by rw [hw]; exact hC.more (by omega), by rw [hw]; exact .refl _ _⟩, fun w1 hR hb => (ranswer_none base R M f w1 hR (fun hm => h ((hp.map Prod.snd).mem_iff.1 hm))).mono fun r w' ⟨hr', hw⟩ => ⟨hr', by rw [hw]; exact ⟨M, hp, hr, hR⟩, by rw [hw]; exact .refl _ _⟩⟩

/-- Both chains. -/
structure Both (w0 w : World) (C bt bf R base n : Nat) (L : List (Int × Int)) : Prop where
  ch : ChainAt w C bt bf n L
  ref : ∃ M, M.Perm L ∧ FstRises M ∧ RChainAt w base R M
  len : L.length ≤ n
  low : w0.heap.size ≤ C ∧ w0.heap.size ≤ bt ∧ w0.heap.size ≤ bf ∧ w0.heap.size ≤ R
  lt : C < base ∧ bt < base ∧ bf < base ∧ R < base
  ne : R ≠ C ∧ R ≠ bt ∧ R ≠ bf
  size : base ≤ w.heap.size
  grow : GrowBut w0 w []

theorem Both.kept {w0 w w' : World} {C bt bf R base n : Nat} {L : List (Int × Int)} (h : Both w0 w C bt bf R base n L) (hg : GrowBut w w' []) : Both w0 w' C bt bf R base n L := by
  obtain ⟨M, h1, h2, h3⟩ := h.ref
  exact ⟨h.ch.kept hg (by simp) (by simp) (by simp), ⟨M, h1, h2, h3.kept hg (by simp) (by simp)⟩, h.len, h.low, h.lt, h.ne, Nat.le_trans h.size hg.size, h.grow.trans hg⟩

theorem Both.step {w0 w w1 w2 : World} {C bt bf R base n : Nat} {L L' : List (Int × Int)} (h : Both w0 w C bt bf R base n L) (hl : L'.length ≤ n + 1) (hC : ChainAt w1 C bt bf (n + 1) L') (hg : GrowBut w w1 [bt, bf]) (hR : ∃ M', M'.Perm L' ∧ FstRises M' ∧ RChainAt w2 base R M') (hg2 : GrowBut w1 w2 [R]) : Both w0 w2 C bt bf R base (n + 1) L' := by
  have hne := h.ne
  have hlow := h.low
  exact ⟨hC.kept hg2 (by simpa using fun e => hne.1 e.symm) (by simpa using fun e => hne.2.1 e.symm) (by simpa using fun e => hne.2.2 e.symm), hR, hl, h.low, h.lt, h.ne, Nat.le_trans h.size (Nat.le_trans hg.size hg2.size),
    h.grow.from ((hg.mono (l' := [bt, bf, R]) (by simp)).trans (hg2.mono (by simp))) (fun x hx => .inr (by simp at hx; omega))⟩

theorem Both.mid {w0 w w1 : World} {C bt bf R base n : Nat} {L M : List (Int × Int)} (h : Both w0 w C bt bf R base n L) (hM : RChainAt w base R M) (hg : GrowBut w w1 [bt, bf]) : RChainAt w1 base R M ∧ base ≤ w1.heap.size :=
  ⟨hM.kept hg (by have := h.ne; simp; omega) (fun x hx => by have := h.lt; simp at hx; omega), Nat.le_trans h.size hg.size⟩

/-! ### A chain that is not there -/
set_option maxRecDepth 100000 in
theorem caller_nil (a : Int) (w : World) : Calls Try.prog 45 #[.pointer none, .int .i64 a] w fun r w' => r = .returned (.tuple #[.int .i64 0, .bool false]) ∧ w' = w := by
  go_enter Try.func45, Try.ntmps45
  go_wp2_with go_in
  go_ret2
  exact ⟨rfl, rfl⟩

set_option maxRecDepth 100000 in
theorem callee_nil (a : Int) (w : World) : Calls Try.prog 47 #[.pointer none, .int .i64 a] w fun r w' => r = .returned (.tuple #[.int .i64 0, .bool false]) ∧ w' = w := by
  go_enter Try.func47, Try.ntmps47
  go_wp2_with go_in
  go_ret2
  exact ⟨rfl, rfl⟩

set_option maxRecDepth 100000 in
theorem answer_nil (a : Int) (w : World) : Calls Try.prog 41 #[.pointer none, .int .i64 a] w fun r w' => r = .returned (.tuple #[.int .i64 0, .bool false]) ∧ w' = w := by
  have hC := caller_nil a w
  go_enter Try.func41, Try.ntmps41
  go_wp2_with (first
    | (go_at_call 45; refine hC.mono ?_; rintro r w1 ⟨rfl, hw1⟩; rw [hw1]; clear hw1 w1)
    | go_in)
  go_ret2
  exact ⟨rfl, rfl⟩

set_option maxRecDepth 100000 in
theorem call_nil (w : World) : Calls Try.prog 43 #[.pointer none, .int .i64 1, .int .i64 2] w fun r w' => r = .returned (.bool false) ∧ w' = w := by
  go_enter Try.func43, Try.ntmps43
  go_wp2_with go_in
  go_ret
  exact ⟨rfl, rfl⟩

set_option maxRecDepth 100000 in
theorem last_nil (a : Int) (w : World) : Calls Try.prog 50 #[.pointer none, .int .i64 a] w fun r w' => r = .returned (.int .i64 a) ∧ w' = w := by
  go_enter Try.func50, Try.ntmps50
  go_wp2_with go_in
  go_loopw [1] (fun v wr => v = .int .i64 a ∧ wr = w) (fun _ _ => 0)
  case atStart => exact ⟨rfl, rfl⟩
  case round =>
    obtain ⟨rfl, rfl⟩ := hrel
    go_wp2_with (first
      | (go_at_call 47; refine (callee_nil a _).mono ?_; rintro r w1 ⟨rfl, hw1⟩; rw [hw1]; clear hw1 w1)
      | go_in)
    go_ret
    exact ⟨rfl, rfl⟩

set_option maxRecDepth 100000 in
theorem links_nil (w : World) : Calls Try.prog 49 #[.pointer none] w fun r w' => r = .returned (.slice none 0 0) ∧ w' = w := by
  go_enter Try.func49, Try.ntmps49
  go_wp2_with go_in
  go_ret
  exact ⟨rfl, rfl⟩

theorem eqPair (x y : Int) (w : World) : (Op.equalIn 10000 32 (.agg #[.int .i64 x, .int .i64 y]) (.agg #[.int .i64 x, .int .i64 y])).run Try.prog w = .ok true w :=
  Go.Am.equalIn_ints 9998 _ Try.underlying32 Try.underlying3 (by kernel_rfl) rfl (fun u hu => by simp at hu; rcases hu with rfl | rfl <;> exact ⟨_, _, rfl⟩) w

end Go.Proofs.Ytlgfopfibopcnaa
