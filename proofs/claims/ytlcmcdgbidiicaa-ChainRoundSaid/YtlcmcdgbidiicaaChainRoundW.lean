/-
  ChainRound: the walk.
-/
import Derived.Test.YtlcmcdgbidiicaaChainL
import Derived.Test.YtlcmcdgbidiicaaChainB
import Derived.Test.YtlcmcdgbidiicaaRecs10
import Derived.Deep.Cut
import Derived.BigQuiet
namespace Go.Proofs.Ytlcmcdgbidiicaa
open Go Go.RowKit Go.Maps Go.Am
set_option linter.unusedVariables false

theorem wf_small {k : Nat} (h : k < 1000) : (Lit.int .i64 (k : Int)).wf = true := by
  simp only [Lit.wf, Bool.and_eq_true, decide_eq_true_eq]
  have hm : IntKind.i64.min = -9223372036854775808 := by decide
  have hM : IntKind.i64.max = 9223372036854775807 := by decide
  rw [hm, hM]
  omega

theorem six_of (x : Int) : ∃ s : Nat, (wrap64 (x.tmod 6 + 6)).tmod 6 = (s : Int) ∧ s < 6 := by
  have h1 : -6 < x.tmod 6 ∧ x.tmod 6 < 6 := by
    have := Int.tmod_lt_of_pos x (b := 6) (by decide)
    have := Int.lt_tmod_of_pos x (b := 6) (by decide)
    omega
  generalize x.tmod 6 = y at h1
  have : y = -5 ∨ y = -4 ∨ y = -3 ∨ y = -2 ∨ y = -1 ∨ y = 0 ∨ y = 1 ∨ y = 2 ∨ y = 3 ∨ y = 4 ∨ y = 5 := by omega
  rcases this with rfl | rfl | rfl | rfl | rfl | rfl | rfl | rfl | rfl | rfl | rfl
  · exact ⟨1, by decide +kernel, by decide⟩
  · exact ⟨2, by decide +kernel, by decide⟩
  · exact ⟨3, by decide +kernel, by decide⟩
  · exact ⟨4, by decide +kernel, by decide⟩
  · exact ⟨5, by decide +kernel, by decide⟩
  · exact ⟨0, by decide +kernel, by decide⟩
  · exact ⟨1, by decide +kernel, by decide⟩
  · exact ⟨2, by decide +kernel, by decide⟩
  · exact ⟨3, by decide +kernel, by decide⟩
  · exact ⟨4, by decide +kernel, by decide⟩
  · exact ⟨5, by decide +kernel, by decide⟩

/-- All of six. -/
def Small (L : List (Int × Int)) : Prop := ∀ p ∈ L, (0 ≤ p.1 ∧ p.1 < 6) ∧ 0 ≤ p.2 ∧ p.2 < 6

theorem ChainAt.mono {w : World} {C bt bf n n' : Nat} {L : List (Int × Int)} (h : ChainAt w C bt bf n L) (hn : n ≤ n') : ChainAt w C bt bf n' L := by
  obtain ⟨D, hown, hD⟩ := h.own_t
  obtain ⟨E, hown', hE⟩ := h.own_f
  exact ⟨h.pt, h.pf, h.lt, h.ne, ⟨D, hown.mono hn, hD⟩, ⟨E, hown'.mono hn, hE⟩, h.nf, h.ns, h.wf, h.ends⟩

theorem ChainAt.blt {w : World} {C bt bf n : Nat} {L : List (Int × Int)} (h : ChainAt w C bt bf n L) : bt < w.heap.size ∧ bf < w.heap.size := by
  obtain ⟨D, hown, hD⟩ := h.own_t
  obtain ⟨E, hown', hE⟩ := h.own_f
  exact ⟨hown.lt, hown'.lt⟩

theorem answer_any (C bt bf n : Nat) (L : List (Int × Int)) (f : Nat) (w : World) (h : ChainAt w C bt bf n L) (hs : Small L) (hf : f < 6) :
    Calls Try.prog 41 #[.pointer (some ⟨C, 0, none⟩), .int .i64 f] w fun r w' => ∃ u L', r = .returned u ∧ ChainAt w' C bt bf (n + 1) L' ∧ Small L' ∧ GrowBut w w' [bt, bf] := by
  by_cases hm : (f : Int) ∈ L.map Prod.snd
  · obtain ⟨p, hp, e⟩ := List.mem_map.1 hm
    obtain ⟨a, b⟩ := p
    simp only at e
    subst e
    exact (answer_some C bt bf n L a f w h hp).mono fun r w' ⟨he, hA, hg⟩ => ⟨_, _, he, hA.mono (by omega), fun p hp => hs p (mem_cutTo.1 hp).1, hg⟩
  · exact (answer_none C bt bf n L f w h (wf_small (by omega)) hm).mono fun r w' ⟨he, hw⟩ => ⟨_, L, he, by rw [hw]; exact h.mono (by omega), hs, by rw [hw]; exact .refl _ _⟩

theorem call_any (C bt bf n : Nat) (L : List (Int × Int)) (f t : Nat) (w : World) (h : ChainAt w C bt bf n L) (hs : Small L) (hf : f < 6) (ht : t < 6) (hn : n ≤ 1000) :
    Calls Try.prog 43 #[.pointer (some ⟨C, 0, none⟩), .int .i64 f, .int .i64 t] w fun r w' => ∃ u L', r = .returned u ∧ ChainAt w' C bt bf (n + 1) L' ∧ Small L' ∧ GrowBut w w' [bt, bf] := by
  obtain ⟨k, z, he⟩ := h.ends (t : Int)
  by_cases hno : (f : Int) = t ∨ (f : Int) ∈ L.map Prod.fst ∨ (t : Int) ∈ L.map Prod.snd ∨ z = f
  · exact (call_no C bt bf n L f t w h (wf_small (by omega)) (wf_small (by omega)) he hno).mono fun r w' ⟨he, hw⟩ => ⟨_, L, he, by rw [hw]; exact h.mono (by omega), hs, by rw [hw]; exact .refl _ _⟩
  · have h1 : (f : Int) ≠ t := fun e => hno (.inl e)
    have h2 : (f : Int) ∉ L.map Prod.fst := fun e => hno (.inr (.inl e))
    have h3 : (t : Int) ∉ L.map Prod.snd := fun e => hno (.inr (.inr (.inl e)))
    have h4 : z ≠ f := fun e => hno (.inr (.inr (.inr e)))
    exact (call_ok C bt bf n L f t w h (wf_small (by omega)) (wf_small (by omega)) h1 h2 h3 he h4 (by omega)).mono fun r w' ⟨he, hA, hg⟩ => ⟨_, _, he, hA, fun p hp => by
      rcases List.mem_cons.1 hp with rfl | hp
      · simp; omega
      · exact hs p hp, hg⟩

/-- A row of the harness's own. -/
def RowV (w : World) (N m : Nat) (F : Nat → Value) : Prop := ∀ j, j < m → w.cell? ⟨N, j, none⟩ = some (F j) ∧ w.frozen? ⟨N, j, none⟩ = false

theorem cellV_same {w : World} {B i : Nat} {x v : Value} (h : w.cell? ⟨B, i, none⟩ = some x) : (w.setCell ⟨B, i, none⟩ v).cell? ⟨B, i, none⟩ = some v := by
  go_simp

theorem cellV_off {w : World} {B i j : Nat} {x v : Value} (h : w.cell? ⟨B, i, none⟩ = some x) (hne : i ≠ j) : (w.setCell ⟨B, j, none⟩ v).cell? ⟨B, i, none⟩ = some x := by
  have hne' : ¬ j = i := fun e => hne e.symm
  go_simp

theorem frozenV {w : World} {B i j : Nat} {v : Value} : (w.setCell ⟨B, j, none⟩ v).frozen? ⟨B, i, none⟩ = w.frozen? ⟨B, i, none⟩ := by
  go_simp

theorem RowV.set {w : World} {N m : Nat} {F : Nat → Value} (h : RowV w N m F) (p : Nat) (v : Value) : RowV (w.setCell ⟨N, p, none⟩ v) N m (fun j => if j = p then v else F j) := fun j hj => by
  refine ⟨?_, by rw [frozenV]; exact (h j hj).2⟩
  by_cases e : j = p
  · subst e
    show _ = some (if j = j then v else F j)
    rw [if_pos rfl]; exact cellV_same (h j hj).1
  · show _ = some (if j = p then v else F j)
    rw [if_neg e]; exact cellV_off (h j hj).1 e

theorem RowV.kept {w w' : World} {N m : Nat} {F : Nat → Value} {l : List Nat} (h : RowV w N m F) (hg : GrowBut w w' l) (hl : N < w.heap.size) (hN : N ∉ l) : RowV w' N m F := fun j hj => ⟨hg.cell (h j hj).1 hN, hg.frozen hl (h j hj).2 hN⟩

theorem RowV.eq {w : World} {N m : Nat} {F G : Nat → Value} (h : RowV w N m F) (he : ∀ j, j < m → F j = G j) : RowV w N m G := fun j hj => by rw [← he j hj]; exact h j hj

/-- Whom one waits for, or -1. -/
def nx (P : List (Int × Int)) (j : Nat) : Int := ((P.find? fun p => p.1 == (j : Int)).map Prod.snd).getD (-1)

theorem nx_not {P : List (Int × Int)} {j : Nat} (h : (j : Int) ∉ P.map Prod.fst) : nx P j = -1 := by
  unfold nx
  rw [List.find?_eq_none.2 (fun p hp e => h (List.mem_map.2 ⟨p, hp, by simpa using e⟩))]
  rfl

theorem nx_mem {P : List (Int × Int)} (hn : (P.map Prod.fst).Nodup) {j : Nat} {b : Int} (h : ((j : Int), b) ∈ P) : nx P j = b := by
  unfold nx
  cases hf : P.find? (fun p => p.1 == (j : Int)) with
  | none =>
    have := List.find?_eq_none.1 hf _ h
    simp at this
  | some p =>
    have h1 := List.mem_of_find?_eq_some hf
    have h2 : p.1 = (j : Int) := by simpa using List.find?_some hf
    obtain ⟨x, y⟩ := p
    simp only at h2
    subst h2
    simpa using fst_one hn h1 h

theorem nx_snoc {P : List (Int × Int)} {a b : Int} (h : a ∉ P.map Prod.fst) (j : Nat) : nx (P ++ [(a, b)]) j = if (j : Int) = a then b else nx P j := by
  by_cases e : (j : Int) = a
  · rw [if_pos e]
    unfold nx
    rw [List.find?_append, List.find?_eq_none.2 (fun p hp e' => h (by rw [← e]; exact List.mem_map.2 ⟨p, hp, by simpa using e'⟩))]
    simp [e]
  · rw [if_neg e]
    unfold nx
    rw [List.find?_append]
    cases hf : P.find? (fun p => p.1 == (j : Int)) with
    | some p => simp
    | none =>
      simp
      rw [if_neg (fun e' => e e'.symm)]
      rfl

/-- The harness's row says the links. -/
def NextIs (w : World) (N : Nat) (L : List (Int × Int)) : Prop := ∀ x : Nat, x < 6 → (∀ b, ((x : Int), b) ∈ L → w.cell? ⟨N, x, none⟩ = some (.int .i64 b)) ∧ ((x : Int) ∉ L.map Prod.fst → w.cell? ⟨N, x, none⟩ = some (.int .i64 (-1)))

theorem take_one {M : List (Int × Int)} {k : Nat} (hk : k < M.length) {a b : Int} (e : M[k] = (a, b)) : M.take (k + 1) = M.take k ++ [(a, b)] := by
  rw [List.take_add_one, List.getElem?_eq_getElem hk, e]; rfl

theorem fst_fresh {M : List (Int × Int)} (hn : (M.map Prod.fst).Nodup) {k : Nat} (hk : k < M.length) {a b : Int} (e : M[k] = (a, b)) : a ∉ (M.take k).map Prod.fst := by
  have h1 : (M.take (k + 1)).map Prod.fst = (M.take k).map Prod.fst ++ [a] := by rw [take_one hk e]; simp
  have h2 : ((M.take (k + 1)).map Prod.fst).Nodup := List.Nodup.sublist (List.Sublist.map _ (List.take_sublist _ _)) hn
  rw [h1] at h2
  exact fun hm => (List.nodup_append.1 h2).2.2 a hm a (by simp) rfl

theorem snd_fresh {M : List (Int × Int)} (hn : (M.map Prod.snd).Nodup) {k : Nat} (hk : k < M.length) {a b : Int} (e : M[k] = (a, b)) : b ∉ (M.take k).map Prod.snd := by
  have h1 : (M.take (k + 1)).map Prod.snd = (M.take k).map Prod.snd ++ [b] := by rw [take_one hk e]; simp
  have h2 : ((M.take (k + 1)).map Prod.snd).Nodup := List.Nodup.sublist (List.Sublist.map _ (List.take_sublist _ _)) hn
  rw [h1] at h2
  exact fun hm => (List.nodup_append.1 h2).2.2 b hm b (by simp) rfl

set_option maxRecDepth 100000 in
set_option maxHeartbeats 4000000 in
theorem chainRound_walk (n : Nat) (p : Option Addr) (cap : Nat) (w : World) (hz : ∀ i, i < n → ∃ g off, p = some ⟨g, off, none⟩ ∧ g < w.heap.size ∧ ∃ cs : List Value, Deed10 cs ∧ cs.length = 3 ∧ ∀ j, j < 3 → w.cell? ⟨g, off + i * 3 + j, none⟩ = cs[j]?) :
    Calls Try.prog 7 #[.slice p n cap] w fun e w' => e = .returned (.bool true) ∧ w.grownBy w' none := by
  by_cases h40 : 40 < n
  · have h1 : (40 : Int) < (n : Int) := by omega
    go_enter Try.func7, Try.ntmps7
    go_wp2_with (first
      | (go_at_call 39; refine (begunChain_true _).mono ?_; rintro e w1 ⟨rfl, hb1⟩)
      | go_in)
    go_ret
    exact ⟨rfl, (GrowBut.of_below hb1).keepAll⟩
  have h1 : ¬ (40 : Int) < (n : Int) := by omega
  go_enter Try.func7, Try.ntmps7
  go_wp2_with (first
    | (go_at_call 39; refine (begunChain_true _).mono ?_; rintro e w1 ⟨rfl, hb1⟩)
    | (go_at_call 40; refine (newChain_calls w1).mono ?_; rintro e w2 ⟨C, bt, bf, rfl, hC2, hClo, htlo, hflo, hg2⟩)
    | go_in)
  have hw2 : GrowBut w w2 [] := (GrowBut.of_below hb1).trans hg2
  have hs1 := hb1.size
  have hlow : w.heap.size ≤ C ∧ w.heap.size ≤ bt ∧ w.heap.size ≤ bf := by omega
  clear hClo htlo hflo
  go_loopw [4] (fun v4 wx => ∃ (i : Nat) (L : List (Int × Int)), v4 = .int .i64 i ∧ i ≤ n ∧ ChainAt wx C bt bf i L ∧ Small L ∧ GrowBut w wx []) (fun v4 _ => n - (match v4 with | .int _ k => k.toNat | _ => 0))
  case atStart => exact ⟨0, [], rfl, by omega, hC2, fun p hp => (by cases hp), hw2⟩
  case round =>
    obtain ⟨i, L, rfl, hi, hCh, hSm, hG⟩ := hrel
    by_cases hlt : i < n
    · obtain ⟨ga, off, rfl, hga, cs, ⟨ka, fa, ta, rfl, hka, hfa, hta⟩, _, hcz⟩ := hz i hlt
      have c0 : wr.cell? ⟨ga, off + i * 3, none⟩ = some (.int .i64 ka) := hG.cell (hcz 0 (by decide)) (by simp)
      have c1 : wr.cell? ⟨ga, off + i * 3 + 1, none⟩ = some (.int .i64 fa) := hG.cell (hcz 1 (by decide)) (by simp)
      have c2 : wr.cell? ⟨ga, off + i * 3 + 2, none⟩ = some (.int .i64 ta) := hG.cell (hcz 2 (by decide)) (by simp)
      clear hcz hz
      have hlt' : (i : Int) < (n : Int) := by omega
      obtain ⟨f, hf, hf6⟩ := six_of fa
      obtain ⟨t, ht, ht6⟩ := six_of ta
      go_upto_region 9 with go_in
      go_quiet (fail)
      have hGq : GrowBut wr (wr.drewN nq) [] := GrowBut.drewN wr nq []
      replace hCh := hCh.kept hGq (by simp) (by simp) (by simp)
      replace hG := hG.trans hGq
      replace c0 := hGq.cell c0 (by simp)
      clear c1 c2 hf ht
      generalize wr.drewN nq = wq at hCh hG c0 ⊢
      clear hGq
      by_cases hk : ka.tmod 5 = 4
      · have hA := answer_any C bt bf i L f wq hCh hSm hf6
        go_upto_region 13 with (first
          | (go_at_call 41; refine hA.mono ?_; rintro r w3 ⟨u0, L', rfl, hC3, hS3, hg3⟩)
          | go_in)
        have hG3 : GrowBut w w3 [] := hG.from hg3 (fun x hx => .inr (by simp at hx; omega))
        have hLk := linksM_calls C bt bf (i + 1) L' w3 hC3 (by omega)
        clear hA hCh hSm hG c0
        go_wp2_with (first
          | (go_at_call 49; refine hLk.mono ?_; rintro r w4 ⟨v7, M, rfl, hPM, ⟨q7, cap7, rfl, hrow⟩, hg4⟩)
          | go_in)
        have hC4 := hC3.kept hg4 (by simp) (by simp) (by simp)
        have hG4 := hG3.trans hg4
        have hSM : Small M := fun p hp => hS3 p (hPM.mem_iff.1 hp)
        have hnf : (M.map Prod.fst).Nodup := (hPM.map _).nodup_iff.2 hC3.nf
        have hns : (M.map Prod.snd).Nodup := (hPM.map _).nodup_iff.2 hC3.ns
        have hrow4 : ∀ k (hk : k < M.length), ∃ g, q7 = some ⟨g, 0, none⟩ ∧ g < w4.heap.size ∧ w4.cell? ⟨g, k * 2, none⟩ = some (.int .i64 (M[k]).1) ∧ w4.cell? ⟨g, k * 2 + 1, none⟩ = some (.int .i64 (M[k]).2) := fun k hk => by
          obtain ⟨g, e, _, h2, h3, h4⟩ := hrow k hk
          exact ⟨g, e, h2, h3, h4⟩
        have hMl : M.length ≤ 6 := by
          have := nodup_len (M.map Prod.fst) [0, 1, 2, 3, 4, 5] hnf (fun v hv => by
            obtain ⟨p, hp, rfl⟩ := List.mem_map.1 hv
            have := (hSM p hp).1
            have : p.1 = 0 ∨ p.1 = 1 ∨ p.1 = 2 ∨ p.1 = 3 ∨ p.1 = 4 ∨ p.1 = 5 := by omega
            simpa using this)
          simpa using this
        have hClt := hC4.lt
        have hblt := hC4.blt
        have hg4s := hG4.size
        clear hrow hLk hC3 hG3 hg3 hg4
        have hr1 : RowV ((w4.alloc (.cells #[.int .i64 0, .int .i64 0, .int .i64 0, .int .i64 0, .int .i64 0, .int .i64 0] 74)).alloc (.cells #[.bool false, .bool false, .bool false, .bool false, .bool false, .bool false] 75)) w4.heap.size 6 (fun j => if j < 0 then .int .i64 (-1) else .int .i64 0) := fun j hj => by
          have : j = 0 ∨ j = 1 ∨ j = 2 ∨ j = 3 ∨ j = 4 ∨ j = 5 := by omega
          rcases this with rfl | rfl | rfl | rfl | rfl | rfl <;> constructor <;> go_simp
        have hr2 : RowV ((w4.alloc (.cells #[.int .i64 0, .int .i64 0, .int .i64 0, .int .i64 0, .int .i64 0, .int .i64 0] 74)).alloc (.cells #[.bool false, .bool false, .bool false, .bool false, .bool false, .bool false] 75)) (w4.heap.size + 1) 6 (fun j => .bool (decide ((j : Int) ∈ (M.take 0).map Prod.snd))) := fun j hj => by
          have : j = 0 ∨ j = 1 ∨ j = 2 ∨ j = 3 ∨ j = 4 ∨ j = 5 := by omega
          rcases this with rfl | rfl | rfl | rfl | rfl | rfl <;> constructor <;> simp <;> go_simp
        have hGa : GrowBut w4 ((w4.alloc (.cells #[.int .i64 0, .int .i64 0, .int .i64 0, .int .i64 0, .int .i64 0, .int .i64 0] 74)).alloc (.cells #[.bool false, .bool false, .bool false, .bool false, .bool false, .bool false] 75)) [] := (GrowBut.alloc _ _ _).trans (GrowBut.alloc _ _ _)
        have hsz : w4.heap.size + 1 < ((w4.alloc (.cells #[.int .i64 0, .int .i64 0, .int .i64 0, .int .i64 0, .int .i64 0, .int .i64 0] 74)).alloc (.cells #[.bool false, .bool false, .bool false, .bool false, .bool false, .bool false] 75)).heap.size := by simp
        generalize (w4.alloc (.cells #[.int .i64 0, .int .i64 0, .int .i64 0, .int .i64 0, .int .i64 0, .int .i64 0] 74)).alloc (.cells #[.bool false, .bool false, .bool false, .bool false, .bool false, .bool false] 75) = wa at hr1 hr2 hGa hsz ⊢
        obtain ⟨N, hN⟩ : ∃ N, N = w4.heap.size := ⟨_, rfl⟩
        obtain ⟨N2, hN2⟩ : ∃ N2, N2 = w4.heap.size + 1 := ⟨_, rfl⟩
        rw [← hN2] at hr2 hsz ⊢
        rw [← hN] at hr1 ⊢
        have hNN : ¬ N = N2 := by omega
        have hNN' : ¬ N2 = N := by omega
        have hNa : N < wa.heap.size := by omega
        have hNlo : w4.heap.size ≤ N := by omega
        have hN2lo : w4.heap.size ≤ N2 := by omega
        clear hN hN2
        go_loopw [10] (fun v10 wx => ∃ k : Nat, v10 = .int .i64 k ∧ k ≤ 6 ∧ RowV wx N 6 (fun j => if j < k then .int .i64 (-1) else .int .i64 0) ∧ GrowBut wa wx [N]) (fun v10 _ => 6 - (match v10 with | .int _ k => k.toNat | _ => 0))
        case atStart => exact ⟨0, rfl, by omega, hr1, .refl _ _⟩
        case round =>
          obtain ⟨k, rfl, hk6, hrv, hgv⟩ := hrel
          by_cases hlk : k < 6
          · have hlk' : (k : Int) < 6 := by omega
            obtain ⟨e1, e2⟩ := hrv k hlk
            simp only [Nat.lt_irrefl, if_false] at e1
            have hset := hrv.set k (.int .i64 (-1))
            go_wp2_with go_in
            exact ⟨⟨k + 1, by simp, by omega, hset.eq (fun j hj => by
              by_cases h1 : j = k
              · subst h1; simp
              · by_cases h2 : j < k
                · have h3 : j < k + 1 := by omega
                  simp [h1, h2, h3]
                · have h3 : ¬ j < k + 1 := by omega
                  simp [h1, h2, h3]), hgv.trans (GrowBut.setCell _ ⟨N, k, none⟩ _)⟩, by simp; omega⟩
          · have hk : k = 6 := by omega
            subst hk
            have hlk' : ¬ ((6 : Nat) : Int) < 6 := by omega
            simp only [Int.cast_ofNat_Int] at hlk'
            have hr1' : RowV wr N 6 (fun j => .int .i64 (nx (M.take 0) j)) := hrv.eq (fun j hj => by rw [if_pos hj, nx_not (by simp)])
            have hr2' := hr2.kept hgv hsz (by simpa using hNN')
            have hgv2 : GrowBut wa wr [N, N2] := hgv.mono (by simp)
            go_wp2_with go_in
            go_loopw [11] (fun v11 wx => ∃ k : Nat, v11 = .int .i64 k ∧ k ≤ M.length ∧ RowV wx N 6 (fun j => .int .i64 (nx (M.take k) j)) ∧ RowV wx N2 6 (fun j => .bool (decide ((j : Int) ∈ (M.take k).map Prod.snd))) ∧ GrowBut wa wx [N, N2]) (fun v11 _ => M.length - (match v11 with | .int _ k => k.toNat | _ => 0))
            case atStart => exact ⟨0, rfl, by omega, hr1', hr2', hgv2⟩
            case round =>
              obtain ⟨k, rfl, hkM, hra, hrb, hgx⟩ := hrel
              by_cases hlm : k < M.length
              · have hlm' : (k : Int) < (M.length : Int) := by omega
                have hk6i : (k : Int) < 6 := by omega
                obtain ⟨g, rfl, hgl, d0, d1⟩ := hrow4 k hlm
                have hsm := hSM M[k] (List.getElem_mem hlm)
                obtain ⟨an, bn, hab, ha6, hb6⟩ : ∃ an bn : Nat, M[k] = ((an : Int), (bn : Int)) ∧ an < 6 ∧ bn < 6 := ⟨(M[k]).1.toNat, (M[k]).2.toNat, by ext <;> simp <;> omega, by omega, by omega⟩
                have hfa := fst_fresh hnf hlm hab
                have hfb := snd_fresh hns hlm hab
                have htk := take_one hlm hab
                rw [hab] at d0 d1
                have hgN : g ∉ [N, N2] := by simp; omega
                replace d0 := hgx.cell (hGa.cell d0 (by simp)) hgN
                replace d1 := hgx.cell (hGa.cell d1 (by simp)) hgN
                have e1 : wr.cell? ⟨N, an, none⟩ = some (.int .i64 (nx (M.take k) an)) := (hra an ha6).1
                have e2 := (hra an ha6).2
                have f1 : wr.cell? ⟨N2, bn, none⟩ = some (.bool (decide ((bn : Int) ∈ (M.take k).map Prod.snd))) := (hrb bn hb6).1
                have f2 := (hrb bn hb6).2
                rw [nx_not hfa] at e1
                rw [decide_eq_false hfb] at f1
                have ha6' : (an : Int) < 6 := by omega
                have hb6' : (bn : Int) < 6 := by omega
                go_upto_region 23 with go_in
                go_quiet (fail)
                have hGd : GrowBut wr (wr.drewN nq) [] := GrowBut.drewN wr nq []
                have hNl2 : N < wr.heap.size := Nat.lt_of_lt_of_le hNa hgx.size
                have hN2l2 : N2 < wr.heap.size := Nat.lt_of_lt_of_le hsz hgx.size
                replace hra := hra.kept hGd hNl2 (by simp)
                replace hrb := hrb.kept hGd hN2l2 (by simp)
                replace e1 := hGd.cell e1 (by simp)
                replace f1 := hGd.cell f1 (by simp)
                replace e2 := hGd.frozen hNl2 e2 (by simp)
                replace f2 := hGd.frozen hN2l2 f2 (by simp)
                replace hgx := hgx.trans (hGd.mono (fun x hx => nomatch hx))
                have hNl3 := Nat.lt_of_lt_of_le hNl2 hGd.size
                have hN2l3 := Nat.lt_of_lt_of_le hN2l2 hGd.size
                clear d0 d1
                generalize wr.drewN nq = wd at hra hrb e1 f1 e2 f2 hgx hNl3 hN2l3 ⊢
                clear hGd hNl2 hN2l2
                have hs1 := GrowBut.setCell wd ⟨N, an, none⟩ (.int .i64 bn)
                have hs2 := GrowBut.setCell (wd.setCell ⟨N, an, none⟩ (.int .i64 bn)) ⟨N2, bn, none⟩ (.bool true)
                have g1 := hs1.cell f1 (by simpa using hNN')
                have g2 := hs1.frozen hN2l3 f2 (by simpa using hNN')
                have hsa := (hra.set an (.int .i64 bn)).kept hs2 (by have := hs1.size; omega) (by simpa using hNN)
                have hsb := (hrb.kept hs1 hN2l3 (by simpa using hNN')).set bn (.bool true)
                have ha0 : ¬ (an : Int) < 0 := by omega
                have ha5 : ¬ (5 : Int) < (an : Int) := by omega
                have hb0 : ¬ (bn : Int) < 0 := by omega
                have hb5 : ¬ (5 : Int) < (bn : Int) := by omega
                go_wp2_with go_in
                exact ⟨⟨k + 1, by simp, by omega, hsa.eq (fun j hj => by
                  rw [htk, nx_snoc hfa]
                  by_cases h1 : j = an
                  · subst h1; simp
                  · have h2 : ¬ (j : Int) = (an : Int) := by omega
                    simp [h1, h2]), hsb.eq (fun j hj => by
                  rw [htk]
                  by_cases h1 : j = bn
                  · subst h1; simp
                  · have h2 : ¬ (j : Int) = (bn : Int) := by omega
                    simp [h1, h2]), (hgx.trans (hs1.mono (by simp))).trans (hs2.mono (by simp))⟩, by simp; omega⟩
              · have hkM' : k = M.length := by omega
                subst hkM'
                rw [List.take_length] at hra
                have hNext : NextIs wr N L' := fun x hx => by
                  have hc : wr.cell? ⟨N, x, none⟩ = some (.int .i64 (nx M x)) := (hra x hx).1
                  refine ⟨fun b hb => ?_, fun hno => ?_⟩
                  · rw [nx_mem hnf (hPM.mem_iff.2 hb)] at hc; exact hc
                  · rw [nx_not (fun hm => hno ((hPM.map Prod.fst).mem_iff.1 hm))] at hc; exact hc
                have hCr := (hC4.kept hGa (by simp) (by simp) (by simp)).kept hgx (by simp; omega) (by simp; omega) (by simp; omega)
                have hGr : GrowBut w wr [] := (hG4.trans hGa).from hgx (fun x hx => .inr (by simp at hx; omega))
                have hge : ¬ ((M.length : Nat) : Int) < (M.length : Int) := by omega
                clear hra hrb hgx hr1' hr2' hgv2 hrow4 hrv hgv hr1 hr2
                go_wp2_with go_in
                generalize hwc : wr = wc at hNext hCr hGr ⊢
                clear hwc
                go_loopw [14] (fun v14 wx => ∃ k : Nat, v14 = .int .i64 k ∧ k ≤ 6 ∧ wx = wc) (fun v14 _ => 6 - (match v14 with | .int _ k => k.toNat | _ => 0))
                case atStart => exact ⟨0, rfl, by omega, rfl⟩
                case round =>
                  obtain ⟨k, rfl, hk6', rfl⟩ := hrel
                  by_cases hlk2 : k < 6
                  · have hlk2' : (k : Int) < 6 := by omega
                    obtain ⟨K, z, he⟩ := hCr.ends (k : Int)
                    have hK := he.short hCr.nf (fun p hp => (hS3 p hp).2) (by omega)
                    have hLa := last_calls C bt bf (i + 1) L' k K z _ hCr he (wf_small (by omega))
                    go_wp2_with go_in
                    go_loopw [15, 16] (fun v15 v16 wy => ∃ x m j : Nat, v15 = .int .i64 x ∧ v16 = .int .i64 m ∧ Ends L' x j z ∧ m + j = K ∧ x < 6 ∧ wy = wr) (fun _ v16 _ => 7 - (match v16 with | .int _ k => k.toNat | _ => 0))
                    case atStart => exact ⟨k, 0, K, rfl, rfl, he, by omega, hlk2, rfl⟩
                    case round =>
                      obtain ⟨x, m, j, rfl, rfl, hex, hmj, hx6, rfl⟩ := hrel
                      have hx6' : (x : Int) < 6 := by omega
                      have hnx := hNext x hx6
                      have hm6 : ¬ (6 : Int) < (m : Int) := by omega
                      have hm5 : (m : Int) ≤ 5 := by omega
                      cases hex with
                      | stop _ hno =>
                        have hc := hnx.2 hno
                        go_wp2_with (first
                          | (go_at_call 50; refine hLa.mono ?_; rintro r w5 ⟨rfl, hw5⟩; rw [hw5]; clear hw5 w5)
                          | go_in)
                        exact ⟨⟨k + 1, by simp, by omega, by simp⟩, by simp; omega⟩
                      | step _ b j z hm hr =>
                        have hsb := (hS3 _ hm).2
                        obtain ⟨bn, rfl⟩ : ∃ bn : Nat, b = (bn : Int) := ⟨b.toNat, by simp at hsb; omega⟩
                        have hc := hnx.1 _ hm
                        have hb6 : bn < 6 := by simp at hsb; omega
                        go_wp2_with go_in
                        exact ⟨⟨bn, m + 1, j, by simp, by simp, hr, by omega, hb6, by simp⟩, by simp; omega⟩
                  · have hk : k = 6 := by omega
                    subst hk
                    have hlk2' : ¬ ((6 : Nat) : Int) < 6 := by omega
                    simp only [Int.cast_ofNat_Int] at hlk2'
                    go_wp2_with go_in
                    exact ⟨⟨i + 1, L', by simp, by omega, hCr, hS3, hGr⟩, by simp; omega⟩
      · have hA := call_any C bt bf i L f t wq hCh hSm hf6 ht6 (by omega)
        go_upto_region 13 with (first
          | (go_at_call 43; refine hA.mono ?_; rintro r w3 ⟨u0, L', rfl, hC3, hS3, hg3⟩)
          | go_in)
        have hG3 : GrowBut w w3 [] := hG.from hg3 (fun x hx => .inr (by simp at hx; omega))
        have hLk := linksM_calls C bt bf (i + 1) L' w3 hC3 (by omega)
        clear hA hCh hSm hG c0
        go_wp2_with (first
          | (go_at_call 49; refine hLk.mono ?_; rintro r w4 ⟨v7, M, rfl, hPM, ⟨q7, cap7, rfl, hrow⟩, hg4⟩)
          | go_in)
        have hC4 := hC3.kept hg4 (by simp) (by simp) (by simp)
        have hG4 := hG3.trans hg4
        have hSM : Small M := fun p hp => hS3 p (hPM.mem_iff.1 hp)
        have hnf : (M.map Prod.fst).Nodup := (hPM.map _).nodup_iff.2 hC3.nf
        have hns : (M.map Prod.snd).Nodup := (hPM.map _).nodup_iff.2 hC3.ns
        have hrow4 : ∀ k (hk : k < M.length), ∃ g, q7 = some ⟨g, 0, none⟩ ∧ g < w4.heap.size ∧ w4.cell? ⟨g, k * 2, none⟩ = some (.int .i64 (M[k]).1) ∧ w4.cell? ⟨g, k * 2 + 1, none⟩ = some (.int .i64 (M[k]).2) := fun k hk => by
          obtain ⟨g, e, _, h2, h3, h4⟩ := hrow k hk
          exact ⟨g, e, h2, h3, h4⟩
        have hMl : M.length ≤ 6 := by
          have := nodup_len (M.map Prod.fst) [0, 1, 2, 3, 4, 5] hnf (fun v hv => by
            obtain ⟨p, hp, rfl⟩ := List.mem_map.1 hv
            have := (hSM p hp).1
            have : p.1 = 0 ∨ p.1 = 1 ∨ p.1 = 2 ∨ p.1 = 3 ∨ p.1 = 4 ∨ p.1 = 5 := by omega
            simpa using this)
          simpa using this
        have hClt := hC4.lt
        have hblt := hC4.blt
        have hg4s := hG4.size
        clear hrow hLk hC3 hG3 hg3 hg4
        have hr1 : RowV ((w4.alloc (.cells #[.int .i64 0, .int .i64 0, .int .i64 0, .int .i64 0, .int .i64 0, .int .i64 0] 74)).alloc (.cells #[.bool false, .bool false, .bool false, .bool false, .bool false, .bool false] 75)) w4.heap.size 6 (fun j => if j < 0 then .int .i64 (-1) else .int .i64 0) := fun j hj => by
          have : j = 0 ∨ j = 1 ∨ j = 2 ∨ j = 3 ∨ j = 4 ∨ j = 5 := by omega
          rcases this with rfl | rfl | rfl | rfl | rfl | rfl <;> constructor <;> go_simp
        have hr2 : RowV ((w4.alloc (.cells #[.int .i64 0, .int .i64 0, .int .i64 0, .int .i64 0, .int .i64 0, .int .i64 0] 74)).alloc (.cells #[.bool false, .bool false, .bool false, .bool false, .bool false, .bool false] 75)) (w4.heap.size + 1) 6 (fun j => .bool (decide ((j : Int) ∈ (M.take 0).map Prod.snd))) := fun j hj => by
          have : j = 0 ∨ j = 1 ∨ j = 2 ∨ j = 3 ∨ j = 4 ∨ j = 5 := by omega
          rcases this with rfl | rfl | rfl | rfl | rfl | rfl <;> constructor <;> simp <;> go_simp
        have hGa : GrowBut w4 ((w4.alloc (.cells #[.int .i64 0, .int .i64 0, .int .i64 0, .int .i64 0, .int .i64 0, .int .i64 0] 74)).alloc (.cells #[.bool false, .bool false, .bool false, .bool false, .bool false, .bool false] 75)) [] := (GrowBut.alloc _ _ _).trans (GrowBut.alloc _ _ _)
        have hsz : w4.heap.size + 1 < ((w4.alloc (.cells #[.int .i64 0, .int .i64 0, .int .i64 0, .int .i64 0, .int .i64 0, .int .i64 0] 74)).alloc (.cells #[.bool false, .bool false, .bool false, .bool false, .bool false, .bool false] 75)).heap.size := by simp
        generalize (w4.alloc (.cells #[.int .i64 0, .int .i64 0, .int .i64 0, .int .i64 0, .int .i64 0, .int .i64 0] 74)).alloc (.cells #[.bool false, .bool false, .bool false, .bool false, .bool false, .bool false] 75) = wa at hr1 hr2 hGa hsz ⊢
        obtain ⟨N, hN⟩ : ∃ N, N = w4.heap.size := ⟨_, rfl⟩
        obtain ⟨N2, hN2⟩ : ∃ N2, N2 = w4.heap.size + 1 := ⟨_, rfl⟩
        rw [← hN2] at hr2 hsz ⊢
        rw [← hN] at hr1 ⊢
        have hNN : ¬ N = N2 := by omega
        have hNN' : ¬ N2 = N := by omega
        have hNa : N < wa.heap.size := by omega
        have hNlo : w4.heap.size ≤ N := by omega
        have hN2lo : w4.heap.size ≤ N2 := by omega
        clear hN hN2
        go_loopw [10] (fun v10 wx => ∃ k : Nat, v10 = .int .i64 k ∧ k ≤ 6 ∧ RowV wx N 6 (fun j => if j < k then .int .i64 (-1) else .int .i64 0) ∧ GrowBut wa wx [N]) (fun v10 _ => 6 - (match v10 with | .int _ k => k.toNat | _ => 0))
        case atStart => exact ⟨0, rfl, by omega, hr1, .refl _ _⟩
        case round =>
          obtain ⟨k, rfl, hk6, hrv, hgv⟩ := hrel
          by_cases hlk : k < 6
          · have hlk' : (k : Int) < 6 := by omega
            obtain ⟨e1, e2⟩ := hrv k hlk
            simp only [Nat.lt_irrefl, if_false] at e1
            have hset := hrv.set k (.int .i64 (-1))
            go_wp2_with go_in
            exact ⟨⟨k + 1, by simp, by omega, hset.eq (fun j hj => by
              by_cases h1 : j = k
              · subst h1; simp
              · by_cases h2 : j < k
                · have h3 : j < k + 1 := by omega
                  simp [h1, h2, h3]
                · have h3 : ¬ j < k + 1 := by omega
                  simp [h1, h2, h3]), hgv.trans (GrowBut.setCell _ ⟨N, k, none⟩ _)⟩, by simp; omega⟩
          · have hk : k = 6 := by omega
            subst hk
            have hlk' : ¬ ((6 : Nat) : Int) < 6 := by omega
            simp only [Int.cast_ofNat_Int] at hlk'
            have hr1' : RowV wr N 6 (fun j => .int .i64 (nx (M.take 0) j)) := hrv.eq (fun j hj => by rw [if_pos hj, nx_not (by simp)])
            have hr2' := hr2.kept hgv hsz (by simpa using hNN')
            have hgv2 : GrowBut wa wr [N, N2] := hgv.mono (by simp)
            go_wp2_with go_in
            go_loopw [11] (fun v11 wx => ∃ k : Nat, v11 = .int .i64 k ∧ k ≤ M.length ∧ RowV wx N 6 (fun j => .int .i64 (nx (M.take k) j)) ∧ RowV wx N2 6 (fun j => .bool (decide ((j : Int) ∈ (M.take k).map Prod.snd))) ∧ GrowBut wa wx [N, N2]) (fun v11 _ => M.length - (match v11 with | .int _ k => k.toNat | _ => 0))
            case atStart => exact ⟨0, rfl, by omega, hr1', hr2', hgv2⟩
            case round =>
              obtain ⟨k, rfl, hkM, hra, hrb, hgx⟩ := hrel
              by_cases hlm : k < M.length
              · have hlm' : (k : Int) < (M.length : Int) := by omega
                have hk6i : (k : Int) < 6 := by omega
                obtain ⟨g, rfl, hgl, d0, d1⟩ := hrow4 k hlm
                have hsm := hSM M[k] (List.getElem_mem hlm)
                obtain ⟨an, bn, hab, ha6, hb6⟩ : ∃ an bn : Nat, M[k] = ((an : Int), (bn : Int)) ∧ an < 6 ∧ bn < 6 := ⟨(M[k]).1.toNat, (M[k]).2.toNat, by ext <;> simp <;> omega, by omega, by omega⟩
                have hfa := fst_fresh hnf hlm hab
                have hfb := snd_fresh hns hlm hab
                have htk := take_one hlm hab
                rw [hab] at d0 d1
                have hgN : g ∉ [N, N2] := by simp; omega
                replace d0 := hgx.cell (hGa.cell d0 (by simp)) hgN
                replace d1 := hgx.cell (hGa.cell d1 (by simp)) hgN
                have e1 : wr.cell? ⟨N, an, none⟩ = some (.int .i64 (nx (M.take k) an)) := (hra an ha6).1
                have e2 := (hra an ha6).2
                have f1 : wr.cell? ⟨N2, bn, none⟩ = some (.bool (decide ((bn : Int) ∈ (M.take k).map Prod.snd))) := (hrb bn hb6).1
                have f2 := (hrb bn hb6).2
                rw [nx_not hfa] at e1
                rw [decide_eq_false hfb] at f1
                have ha6' : (an : Int) < 6 := by omega
                have hb6' : (bn : Int) < 6 := by omega
                go_upto_region 23 with go_in
                go_quiet (fail)
                have hGd : GrowBut wr (wr.drewN nq) [] := GrowBut.drewN wr nq []
                have hNl2 : N < wr.heap.size := Nat.lt_of_lt_of_le hNa hgx.size
                have hN2l2 : N2 < wr.heap.size := Nat.lt_of_lt_of_le hsz hgx.size
                replace hra := hra.kept hGd hNl2 (by simp)
                replace hrb := hrb.kept hGd hN2l2 (by simp)
                replace e1 := hGd.cell e1 (by simp)
                replace f1 := hGd.cell f1 (by simp)
                replace e2 := hGd.frozen hNl2 e2 (by simp)
                replace f2 := hGd.frozen hN2l2 f2 (by simp)
                replace hgx := hgx.trans (hGd.mono (fun x hx => nomatch hx))
                have hNl3 := Nat.lt_of_lt_of_le hNl2 hGd.size
                have hN2l3 := Nat.lt_of_lt_of_le hN2l2 hGd.size
                clear d0 d1
                generalize wr.drewN nq = wd at hra hrb e1 f1 e2 f2 hgx hNl3 hN2l3 ⊢
                clear hGd hNl2 hN2l2
                have hs1 := GrowBut.setCell wd ⟨N, an, none⟩ (.int .i64 bn)
                have hs2 := GrowBut.setCell (wd.setCell ⟨N, an, none⟩ (.int .i64 bn)) ⟨N2, bn, none⟩ (.bool true)
                have g1 := hs1.cell f1 (by simpa using hNN')
                have g2 := hs1.frozen hN2l3 f2 (by simpa using hNN')
                have hsa := (hra.set an (.int .i64 bn)).kept hs2 (by have := hs1.size; omega) (by simpa using hNN)
                have hsb := (hrb.kept hs1 hN2l3 (by simpa using hNN')).set bn (.bool true)
                have ha0 : ¬ (an : Int) < 0 := by omega
                have ha5 : ¬ (5 : Int) < (an : Int) := by omega
                have hb0 : ¬ (bn : Int) < 0 := by omega
                have hb5 : ¬ (5 : Int) < (bn : Int) := by omega
                go_wp2_with go_in
                exact ⟨⟨k + 1, by simp, by omega, hsa.eq (fun j hj => by
                  rw [htk, nx_snoc hfa]
                  by_cases h1 : j = an
                  · subst h1; simp
                  · have h2 : ¬ (j : Int) = (an : Int) := by omega
                    simp [h1, h2]), hsb.eq (fun j hj => by
                  rw [htk]
                  by_cases h1 : j = bn
                  · subst h1; simp
                  · have h2 : ¬ (j : Int) = (bn : Int) := by omega
                    simp [h1, h2]), (hgx.trans (hs1.mono (by simp))).trans (hs2.mono (by simp))⟩, by simp; omega⟩
              · have hkM' : k = M.length := by omega
                subst hkM'
                rw [List.take_length] at hra
                have hNext : NextIs wr N L' := fun x hx => by
                  have hc : wr.cell? ⟨N, x, none⟩ = some (.int .i64 (nx M x)) := (hra x hx).1
                  refine ⟨fun b hb => ?_, fun hno => ?_⟩
                  · rw [nx_mem hnf (hPM.mem_iff.2 hb)] at hc; exact hc
                  · rw [nx_not (fun hm => hno ((hPM.map Prod.fst).mem_iff.1 hm))] at hc; exact hc
                have hCr := (hC4.kept hGa (by simp) (by simp) (by simp)).kept hgx (by simp; omega) (by simp; omega) (by simp; omega)
                have hGr : GrowBut w wr [] := (hG4.trans hGa).from hgx (fun x hx => .inr (by simp at hx; omega))
                have hge : ¬ ((M.length : Nat) : Int) < (M.length : Int) := by omega
                clear hra hrb hgx hr1' hr2' hgv2 hrow4 hrv hgv hr1 hr2
                go_wp2_with go_in
                generalize hwc : wr = wc at hNext hCr hGr ⊢
                clear hwc
                go_loopw [14] (fun v14 wx => ∃ k : Nat, v14 = .int .i64 k ∧ k ≤ 6 ∧ wx = wc) (fun v14 _ => 6 - (match v14 with | .int _ k => k.toNat | _ => 0))
                case atStart => exact ⟨0, rfl, by omega, rfl⟩
                case round =>
                  obtain ⟨k, rfl, hk6', rfl⟩ := hrel
                  by_cases hlk2 : k < 6
                  · have hlk2' : (k : Int) < 6 := by omega
                    obtain ⟨K, z, he⟩ := hCr.ends (k : Int)
                    have hK := he.short hCr.nf (fun p hp => (hS3 p hp).2) (by omega)
                    have hLa := last_calls C bt bf (i + 1) L' k K z _ hCr he (wf_small (by omega))
                    go_wp2_with go_in
                    go_loopw [15, 16] (fun v15 v16 wy => ∃ x m j : Nat, v15 = .int .i64 x ∧ v16 = .int .i64 m ∧ Ends L' x j z ∧ m + j = K ∧ x < 6 ∧ wy = wr) (fun _ v16 _ => 7 - (match v16 with | .int _ k => k.toNat | _ => 0))
                    case atStart => exact ⟨k, 0, K, rfl, rfl, he, by omega, hlk2, rfl⟩
                    case round =>
                      obtain ⟨x, m, j, rfl, rfl, hex, hmj, hx6, rfl⟩ := hrel
                      have hx6' : (x : Int) < 6 := by omega
                      have hnx := hNext x hx6
                      have hm6 : ¬ (6 : Int) < (m : Int) := by omega
                      have hm5 : (m : Int) ≤ 5 := by omega
                      cases hex with
                      | stop _ hno =>
                        have hc := hnx.2 hno
                        go_wp2_with (first
                          | (go_at_call 50; refine hLa.mono ?_; rintro r w5 ⟨rfl, hw5⟩; rw [hw5]; clear hw5 w5)
                          | go_in)
                        exact ⟨⟨k + 1, by simp, by omega, by simp⟩, by simp; omega⟩
                      | step _ b j z hm hr =>
                        have hsb := (hS3 _ hm).2
                        obtain ⟨bn, rfl⟩ : ∃ bn : Nat, b = (bn : Int) := ⟨b.toNat, by simp at hsb; omega⟩
                        have hc := hnx.1 _ hm
                        have hb6 : bn < 6 := by simp at hsb; omega
                        go_wp2_with go_in
                        exact ⟨⟨bn, m + 1, j, by simp, by simp, hr, by omega, hb6, by simp⟩, by simp; omega⟩
                  · have hk : k = 6 := by omega
                    subst hk
                    have hlk2' : ¬ ((6 : Nat) : Int) < 6 := by omega
                    simp only [Int.cast_ofNat_Int] at hlk2'
                    go_wp2_with go_in
                    exact ⟨⟨i + 1, L', by simp, by omega, hCr, hS3, hGr⟩, by simp; omega⟩
    · have hge : ¬ (i : Int) < (n : Int) := by omega
      go_wp2_with go_in
      go_ret
      exact ⟨rfl, hG.keepAll⟩

end Go.Proofs.Ytlcmcdgbidiicaa
