/-
  The reference's chain: Call (insertion into a row of pairs, in a region that draws).
-/
import Derived.Test.YtlgfopfibopcnaaRefChain
import Derived.Test.YtlgfopfibopcnaaHeldX
import Derived.BigRegion
namespace Go.Proofs.Ytlgfopfibopcnaa
open Go Go.RowKit Go.Maps Go.Sort
set_option linter.unusedVariables false

theorem ownsRow_emptyN {w : World} {base g size : Nat} {e : TypeId} (hb : base ≤ g) (h : w.heap[g]? = some (.cells #[] e (0, 0))) : w.ownsRow base e size (.slice (some ⟨g, 0, none⟩) 0 0) 0 [] :=
  ⟨by simp, .inr ⟨g, 0, #[], rfl, hb, h, Nat.le_refl _, by decide, by simp, by simp⟩⟩

theorem own_conv {w : World} {base n n' size : Nat} {e : TypeId} {v : Value} {xs xs' : List Value} (h : w.ownsRow base e size v n xs) (e1 : n = n') (e2 : xs = xs') : w.ownsRow base e size v n' xs' := by
  subst e1 e2
  exact h

theorem add_zeroX (b j : Nat) : Addr.add ⟨b, 0, none⟩ j = ⟨b, j, none⟩ := by unfold Addr.add; split <;> simp_all

theorem pair_newX (w : World) (f t : Int) (e : TypeId) : ∀ j u, ([.int .i64 f, .int .i64 t] : List Value)[j]? = some u → (w.alloc (.cells #[.int .i64 f, .int .i64 t] e)).cell? ⟨w.heap.size, j, none⟩ = some u := fun j u hj => by
  rcases j with _ | _ | j <;> simp at hj <;> subst hj <;> simp [World.cell?_alloc_new]

theorem _root_.Go.World.ownsRow.room2 {w : World} {base n m cap g : Nat} {e : TypeId} {xs : List Value} (h : w.ownsRow base e 2 (.slice (some ⟨g, 0, none⟩) m cap) n xs) : m ≤ cap := by
  rcases h.2 with ⟨h1, _⟩ | ⟨g', cap', cur, e1, _, _, h3, _⟩
  · cases h1
  · cases e1; exact h3

theorem row_flat {w : World} {base n cap g : Nat} {e : TypeId} {xs : List Value} (h : w.ownsRow base e 2 (.slice (some ⟨g, 0, none⟩) n cap) n xs) : ∀ j u, xs[j]? = some u → w.cell? ⟨g, j, none⟩ = some u := fun j u hj => by
  rcases h.2 with ⟨h1, _⟩ | ⟨g', cap', cur, e1, hb, hh, h1, h2, h3, h4⟩
  · cases h1
  · cases e1
    rw [← h4] at hj
    have hj' := (List.getElem?_eq_some_iff.1 hj).1
    rw [List.getElem?_take_of_lt (by simp at hj'; omega)] at hj
    simp only [World.cell?, hh]
    simpa using hj

theorem flat_take (M : List (Int × Int)) (i : Nat) {j : Nat} {u : Value} (h : ((M.take i).flatMap encL)[j]? = some u) : (M.flatMap encL)[j]? = some u := by
  have e : M.flatMap encL = (M.take i).flatMap encL ++ (M.drop i).flatMap encL := by rw [← List.flatMap_append, List.take_append_drop]
  rw [e, List.getElem?_append_left (List.getElem?_eq_some_iff.1 h).1]
  exact h

theorem flat_drop (M : List (Int × Int)) {i : Nat} (hi : i ≤ M.length) {j : Nat} {u : Value} (h : ((M.drop i).flatMap encL)[j]? = some u) : (M.flatMap encL)[i * 2 + j]? = some u := by
  have e : M.flatMap encL = (M.take i).flatMap encL ++ (M.drop i).flatMap encL := by rw [← List.flatMap_append, List.take_append_drop]
  have hl : ((M.take i).flatMap encL).length = i * 2 := by rw [flatL_len]; simp; omega
  rw [e, List.getElem?_append_right (by omega), hl, show i * 2 + j - i * 2 = j by omega]
  exact h

theorem fst_insert {L : List (Int × Int)} (h : FstRises L) {i : Nat} {x : Int × Int} (hb : ∀ j (hj : j < L.length), j < i → (L[j]).1 < x.1) (ha : ∀ j (hj : j < L.length), i ≤ j → x.1 < (L[j]).1) : FstRises (L.take i ++ x :: L.drop i) := by
  have h1 : ∀ a ∈ L.take i, a.1 < x.1 := fun a hm => by
    obtain ⟨j, hj, rfl⟩ := List.getElem_of_mem hm
    rw [List.getElem_take]
    exact hb j (by simp at hj; omega) (by simp at hj; omega)
  have h2 : ∀ b ∈ L.drop i, x.1 < b.1 := fun b hm => by
    obtain ⟨j, hj, rfl⟩ := List.getElem_of_mem hm
    rw [List.getElem_drop]
    exact ha (i + j) (by simp at hj; omega) (by omega)
  refine List.pairwise_append.2 ⟨List.Pairwise.sublist (List.take_sublist _ _) h, List.pairwise_cons.2 ⟨h2, List.Pairwise.sublist (List.drop_sublist _ _) h⟩, fun a hA b hB => ?_⟩
  rcases List.mem_cons.1 hB with rfl | hB
  · exact h1 a hA
  · exact Int.lt_trans (h1 a hA) (h2 b hB)

theorem FstRises.nodup {L : List (Int × Int)} (h : FstRises L) : (L.map Prod.fst).Nodup :=
  List.pairwise_map.2 (h.imp fun {a b} h => by omega)

theorem RChainAt.stored {w w' : World} {base R : Nat} {M M' : List (Int × Int)} {v : Value} (h : RChainAt w base R M) (hb : base ≤ w.heap.size) (hg : GrowBut w w' []) (hrow : w'.ownsRow w.heap.size 32 2 v M'.length (M'.flatMap encL)) : RChainAt (w'.setCell ⟨R, 0, none⟩ v) base R M' := by
  have hR := h.lt
  obtain ⟨v0, hc, _⟩ := h.ex
  have hc' := hg.cell hc (by simp)
  have hgs := GrowBut.setCell w' ⟨R, 0, none⟩ v
  refine ⟨⟨v, ?_, ?_⟩, ?_, by have := hg.size; simp; omega, h.low⟩
  · go_simp
  · have h1 := hgs.row hrow (fun j hj hm => by have := (hrow.lt j hj).1; simp at hm; omega)
    refine ⟨h1.1, ?_⟩
    rcases h1.2 with h2 | ⟨g, cap, cur, e1, e2, e3⟩
    · exact .inl h2
    · exact .inr ⟨g, cap, cur, e1, by omega, e3⟩
  · have := hg.frozen hR h.fz (by simp)
    go_simp

theorem RC.fin {w w40 : World} {base R : Nat} {f t : Int} {M M' : List (Int × Int)} {v : Value} (h : RChainAt w base R M) (hb0 : base ≤ w.heap.size) (hp : M'.Perm ((f, t) :: M)) (hr : FstRises M') (hg : GrowBut w w40 []) (hrow : w40.ownsRow w.heap.size 32 2 v M'.length (M'.flatMap encL)) :
    Ending.returned (.bool true) = .returned (.bool true) ∧ ∃ M', M'.Perm ((f, t) :: M) ∧ FstRises M' ∧ RChainAt (w40.setCell ⟨R, 0, none⟩ v) base R M' ∧ GrowBut w (w40.setCell ⟨R, 0, none⟩ v) [R] :=
  ⟨rfl, M', hp, hr, RChainAt.stored h hb0 hg hrow, (hg.mono (by simp)).trans (GrowBut.setCell _ _ _)⟩

set_option maxRecDepth 1000000 in
set_option maxHeartbeats 8000000 in
set_option linter.unusedSimpArgs false in
theorem rcall_ok (base R : Nat) (M : List (Int × Int)) (f t : Int) (w : World) (h : RChainAt w base R M) (hr : FstRises M) (hns : (M.map Prod.snd).Nodup) (hne : f ≠ t) (hnf : f ∉ M.map Prod.fst) (hnt : t ∉ M.map Prod.snd) {kt : Nat} {zt : Int} (he : Ends M t kt zt) (hzt : zt ≠ f) (hM : M.length ≤ 1000) (hb0 : base ≤ w.heap.size) :
    Calls Try.prog 44 #[.pointer (some ⟨R, 0, none⟩), .int .i64 f, .int .i64 t] w fun r w' => r = .returned (.bool true) ∧ ∃ M', M'.Perm ((f, t) :: M) ∧ FstRises M' ∧ RChainAt w' base R M' ∧ GrowBut w w' [R] := by
  obtain ⟨i0, hi, hz0, hz1, hz2⟩ := info_parts infoL
  have hE := rcallee_none base R M f w h hnf
  have hR := rcaller_none base R M t w h hnt
  have hL := rlast_calls base R M t kt zt w h hr.nodup he (by omega)
  have hfz := h.fz
  have hRlt := h.lt
  obtain ⟨q, cap, hc, hrow, hcap, hcm, hf⟩ := h.form
  have hzt' : ¬ zt = f := hzt
  have hne' : ¬ f = t := hne
  have hb1 : (f == t) = false := beq_eq_false_iff_ne.2 hne
  have hb2 : (zt == f) = false := beq_eq_false_iff_ne.2 hzt
  go_enter Try.func44, Try.ntmps44
  go_wp2_with (first
    | (go_at_call 48; refine hE.mono ?_; rintro r w1 ⟨rfl, hw1⟩; rw [hw1]; clear hw1 w1)
    | (go_at_call 46; refine hR.mono ?_; rintro r w1 ⟨rfl, hw1⟩; rw [hw1]; clear hw1 w1)
    | (go_at_call 51; refine hL.mono ?_; rintro r w1 ⟨rfl, hw1⟩; rw [hw1]; clear hw1 w1)
    | go_in)
  clear hE hR hL hb1 hb2
  rcases hf with ⟨rfl, rfl, rfl⟩ | ⟨g, rfl, hbg, hgl, hcells⟩
  · have hlen : ¬ ((0 : Nat) : Int) < 0 := by omega
    simp only [List.length_nil] at hc hrow hcap
    go_loopw [11] (fun v11 wy => v11 = .int .i64 0 ∧ wy = w) (fun _ _ => 0)
    case atStart => exact ⟨rfl, rfl⟩
    case round =>
      obtain ⟨rfl, rfl⟩ := hrel
      go_upto_region 8 with go_in
      refine wp_viaE (ι := Value × Value × Value × Value × Value) (fun x w' => ∃ g5 cap5 w40, x.2.2.2.2 = (.slice (some ⟨g5, 0, none⟩) (0 + (1)) cap5) ∧ w' = w40.setCell ⟨R, 0, none⟩ (.slice (some ⟨g5, 0, none⟩) (0 + (1)) cap5) ∧ GrowBut wr w40 [] ∧ w40.ownsRow wr.heap.size 32 2 (.slice (some ⟨g5, 0, none⟩) (0 + (1)) cap5) (0 + (1)) ([.int .i64 f, .int .i64 t])) (fun x a => (((((((((((((((((((((((a.put (some 61) (.pointer (some ⟨R, 0, none⟩))).put (some 62) (x.1)).put (some 63) (.pointer (some ⟨R, 0, none⟩))).put (some 64) (.pointer (some ⟨R, 0, none⟩))).put (some 65) (.pointer (some ⟨R, 0, none⟩))).put (some 66) (.slice none 0 0)).put (some 67) (.int .i64 0)).put (some 68) (.slice none 0 0)).put (some 69) (x.2.1)).put (some 70) (.int .i64 f)).put (some 71) (.int .i64 t)).put (some 72) (.agg #[.int .i64 f, .int .i64 t])).put (some 73) (x.2.2.1)).put (some 74) (x.2.2.2.1)).put (some 75) (.pointer (some ⟨R, 0, none⟩))).put (some 76) (.pointer (some ⟨R, 0, none⟩))).put (some 77) (.pointer (some ⟨R, 0, none⟩))).put (some 78) (.slice none 0 0)).put (some 79) (.int .i64 0)).put (some 80) (.slice none 0 0)).put (some 81) (x.2.2.2.2)).put (some 82) (.pointer (some ⟨R, 0, none⟩))).put (some 83) (.pointer (some ⟨R, 0, none⟩)))) ?_ ?_
      · intro Q0 hQ0
        simp only [List.getElem_toArray, List.getElem_cons_succ, List.getElem_cons_zero, Act.put, List.setIfInBounds_toArray, List.set_cons_succ, List.set_cons_zero] at hQ0
        refine wp_region_X 23 (fun w' => w'.cell? ⟨R, 0, none⟩ = some (.slice none 0 0)) (by kernel_rfl) ?_
        have g0 : GrowBut wr wr.drew [] := GrowBut.drew _ _
        have c0 := g0.cell hc (by simp)
        have s0 := g0.size
        generalize wr.drew = w0 at g0 c0 s0 ⊢
        refine wpAnyX_take [0] (i := 0) (v := .pointer (some ⟨R, 0, none⟩)) rfl (by kernel_rfl) (by kernel_rfl) (by kernel_rfl) (by kernel_rfl) (by kernel_rfl) (by kernel_rfl) (fun _ _ _ h => h) (Or.inl ⟨by rfl, fun w' hw' => (by dsimp only at hw'; go_simp)⟩) c0 ?_
        simp only [List.getElem_toArray, List.getElem_cons_succ, List.getElem_cons_zero, Act.put, List.setIfInBounds_toArray, List.set_cons_succ, List.set_cons_zero]
        refine wpAnyX_take [2] (i := 2) (v := .pointer (some ⟨R, 0, none⟩)) rfl (by kernel_rfl) (by kernel_rfl) (by kernel_rfl) (by kernel_rfl) (by kernel_rfl) (by kernel_rfl) (fun _ _ _ h => h) (Or.inl ⟨by rfl, fun w' hw' => (by dsimp only at hw'; go_simp)⟩) c0 ?_
        simp only [List.getElem_toArray, List.getElem_cons_succ, List.getElem_cons_zero, Act.put, List.setIfInBounds_toArray, List.set_cons_succ, List.set_cons_zero]
        refine wpAnyX_take [3] (i := 3) (v := .pointer (some ⟨R, 0, none⟩)) rfl (by kernel_rfl) (by kernel_rfl) (by kernel_rfl) (by kernel_rfl) (by kernel_rfl) (by kernel_rfl) (fun _ _ _ h => h) (Or.inl ⟨by rfl, fun w' hw' => (by dsimp only at hw'; go_simp)⟩) c0 ?_
        simp only [List.getElem_toArray, List.getElem_cons_succ, List.getElem_cons_zero, Act.put, List.setIfInBounds_toArray, List.set_cons_succ, List.set_cons_zero]
        refine wpAnyX_take [4] (i := 4) (v := .pointer (some ⟨R, 0, none⟩)) rfl (by kernel_rfl) (by kernel_rfl) (by kernel_rfl) (by kernel_rfl) (by kernel_rfl) (by kernel_rfl) (fun _ _ _ h => h) (Or.inl ⟨by rfl, fun w' hw' => (by dsimp only at hw'; go_simp)⟩) c0 ?_
        simp only [List.getElem_toArray, List.getElem_cons_succ, List.getElem_cons_zero, Act.put, List.setIfInBounds_toArray, List.set_cons_succ, List.set_cons_zero]
        refine wpAnyX_take [5] (i := 5) (v := .slice none 0 0) rfl (by kernel_rfl) (by kernel_rfl) (by kernel_rfl) (by kernel_rfl) (by kernel_rfl) (by kernel_rfl) (fun _ _ _ h => h) (Or.inl ⟨by rfl, fun w' hw' => (by dsimp only at hw'; go_simp)⟩) c0 ?_
        simp only [List.getElem_toArray, List.getElem_cons_succ, List.getElem_cons_zero, Act.put, List.setIfInBounds_toArray, List.set_cons_succ, List.set_cons_zero]
        refine wpAnyX_take [6] (i := 6) (v := .int .i64 0) rfl (by kernel_rfl) (by kernel_rfl) (by kernel_rfl) (by kernel_rfl) (by kernel_rfl) (by kernel_rfl) (fun _ _ _ h => h) (Or.inl ⟨by rfl, fun w' hw' => (by dsimp only at hw'; go_simp)⟩) c0 ?_
        simp only [List.getElem_toArray, List.getElem_cons_succ, List.getElem_cons_zero, Act.put, List.setIfInBounds_toArray, List.set_cons_succ, List.set_cons_zero]
        refine wpAnyX_take [7] (i := 7) (v := .slice none 0 0) rfl (by kernel_rfl) (by kernel_rfl) (by kernel_rfl) (by kernel_rfl) (by kernel_rfl) (by kernel_rfl) (fun _ _ _ h => h) (Or.inl ⟨by rfl, fun w' hw' => (by dsimp only at hw'; go_simp)⟩) c0 ?_
        simp only [List.getElem_toArray, List.getElem_cons_succ, List.getElem_cons_zero, Act.put, List.setIfInBounds_toArray, List.set_cons_succ, List.set_cons_zero]
        refine wpAnyX_take [9] (i := 9) (v := .int .i64 f) rfl (by kernel_rfl) (by kernel_rfl) (by kernel_rfl) (by kernel_rfl) (by kernel_rfl) (by kernel_rfl) (fun _ _ _ h => h) (Or.inl ⟨by rfl, fun w' hw' => (by dsimp only at hw'; go_simp)⟩) c0 ?_
        simp only [List.getElem_toArray, List.getElem_cons_succ, List.getElem_cons_zero, Act.put, List.setIfInBounds_toArray, List.set_cons_succ, List.set_cons_zero]
        refine wpAnyX_take [10] (i := 10) (v := .int .i64 t) rfl (by kernel_rfl) (by kernel_rfl) (by kernel_rfl) (by kernel_rfl) (by kernel_rfl) (by kernel_rfl) (fun _ _ _ h => h) (Or.inl ⟨by rfl, fun w' hw' => (by dsimp only at hw'; go_simp)⟩) c0 ?_
        simp only [List.getElem_toArray, List.getElem_cons_succ, List.getElem_cons_zero, Act.put, List.setIfInBounds_toArray, List.set_cons_succ, List.set_cons_zero]
        refine wpAnyX_take [11] (i := 11) (v := .agg #[.int .i64 f, .int .i64 t]) rfl (by kernel_rfl) (by kernel_rfl) (by kernel_rfl) (by kernel_rfl) (by kernel_rfl) (by kernel_rfl) (fun _ _ _ h => h) (Or.inl ⟨by rfl, fun w' hw' => (by dsimp only at hw'; go_simp)⟩) c0 ?_
        simp only [List.getElem_toArray, List.getElem_cons_succ, List.getElem_cons_zero, Act.put, List.setIfInBounds_toArray, List.set_cons_succ, List.set_cons_zero]
        refine wpAnyX_take [14] (i := 14) (v := .pointer (some ⟨R, 0, none⟩)) rfl (by kernel_rfl) (by kernel_rfl) (by kernel_rfl) (by kernel_rfl) (by kernel_rfl) (by kernel_rfl) (fun _ _ _ h => h) (Or.inl ⟨by rfl, fun w' hw' => (by dsimp only at hw'; go_simp)⟩) c0 ?_
        simp only [List.getElem_toArray, List.getElem_cons_succ, List.getElem_cons_zero, Act.put, List.setIfInBounds_toArray, List.set_cons_succ, List.set_cons_zero]
        refine wpAnyX_take [15] (i := 15) (v := .pointer (some ⟨R, 0, none⟩)) rfl (by kernel_rfl) (by kernel_rfl) (by kernel_rfl) (by kernel_rfl) (by kernel_rfl) (by kernel_rfl) (fun _ _ _ h => h) (Or.inl ⟨by rfl, fun w' hw' => (by dsimp only at hw'; go_simp)⟩) c0 ?_
        simp only [List.getElem_toArray, List.getElem_cons_succ, List.getElem_cons_zero, Act.put, List.setIfInBounds_toArray, List.set_cons_succ, List.set_cons_zero]
        refine wpAnyX_take [16] (i := 16) (v := .pointer (some ⟨R, 0, none⟩)) rfl (by kernel_rfl) (by kernel_rfl) (by kernel_rfl) (by kernel_rfl) (by kernel_rfl) (by kernel_rfl) (fun _ _ _ h => h) (Or.inl ⟨by rfl, fun w' hw' => (by dsimp only at hw'; go_simp)⟩) c0 ?_
        simp only [List.getElem_toArray, List.getElem_cons_succ, List.getElem_cons_zero, Act.put, List.setIfInBounds_toArray, List.set_cons_succ, List.set_cons_zero]
        refine wpAnyX_take [17] (i := 17) (v := .slice none 0 0) rfl (by kernel_rfl) (by kernel_rfl) (by kernel_rfl) (by kernel_rfl) (by kernel_rfl) (by kernel_rfl) (fun _ _ _ h => h) (Or.inl ⟨by rfl, fun w' hw' => (by dsimp only at hw'; go_simp)⟩) c0 ?_
        simp only [List.getElem_toArray, List.getElem_cons_succ, List.getElem_cons_zero, Act.put, List.setIfInBounds_toArray, List.set_cons_succ, List.set_cons_zero]
        refine wpAnyX_take [18] (i := 18) (v := .int .i64 0) rfl (by kernel_rfl) (by kernel_rfl) (by kernel_rfl) (by kernel_rfl) (by kernel_rfl) (by kernel_rfl) (fun _ _ _ h => h) (Or.inl ⟨by rfl, fun w' hw' => (by dsimp only at hw'; go_simp)⟩) c0 ?_
        simp only [List.getElem_toArray, List.getElem_cons_succ, List.getElem_cons_zero, Act.put, List.setIfInBounds_toArray, List.set_cons_succ, List.set_cons_zero]
        refine wpAnyX_take [19] (i := 19) (v := .slice none 0 0) rfl (by kernel_rfl) (by kernel_rfl) (by kernel_rfl) (by kernel_rfl) (by kernel_rfl) (by kernel_rfl) (fun _ _ _ h => h) (Or.inl ⟨by rfl, fun w' hw' => (by dsimp only at hw'; go_simp)⟩) c0 ?_
        simp only [List.getElem_toArray, List.getElem_cons_succ, List.getElem_cons_zero, Act.put, List.setIfInBounds_toArray, List.set_cons_succ, List.set_cons_zero]
        refine wpAnyX_all (rs := [1, 12]) (by kernel_rfl) (by simp) (fun i hi => ?_)
        simp only [List.mem_cons, List.not_mem_nil, or_false] at hi
        rcases hi with rfl | rfl
        · refine wpOp_alloc (by rfl) (by rfl) (n := 0) (cs := #[]) (t := 32) (by go_simp) ?_
          intro wa1 ba1 gga1 oa1 la1 ha1
          have ga1 := g0.trans gga1
          have ca1 := ga1.cell hc (by simp)
          have ooa1 := Nat.le_trans g0.size oa1
          have ra1 := ownsRow_emptyN (size := 2) ooa1 ha1
          refine ⟨.inr ca1, ?_⟩
          simp only [List.getElem_toArray, List.getElem_cons_succ, List.getElem_cons_zero, Act.put, List.setIfInBounds_toArray, List.set_cons_succ, List.set_cons_zero]
          refine wpAnyX_all (rs := [8, 12]) (by kernel_rfl) (by simp) (fun i hi => ?_)
          simp only [List.mem_cons, List.not_mem_nil, or_false] at hi
          rcases hi with rfl | rfl
          · refine wpOp_append_none (by rfl) (by rfl) _ _ 22 (by rfl) 32 i0 Try.underlying22 hi ⟨ba1, 0, none⟩ 0 0 (by go_simp) (by go_simp) (Nat.le_refl _) ?_
            refine ⟨.inr ca1, ?_⟩
            simp only [List.getElem_toArray, List.getElem_cons_succ, List.getElem_cons_zero, Act.put, List.setIfInBounds_toArray, List.set_cons_succ, List.set_cons_zero]
            refine wpAnyX_all (rs := [12]) (by kernel_rfl) (by simp) (fun i hi => ?_)
            simp only [List.mem_cons, List.not_mem_nil, or_false] at hi
            subst hi
            refine wpOp_alloc (by rfl) (by rfl) (n := 1) (cs := #[.int .i64 f, .int .i64 t]) (t := 32) (by go_simp) ?_
            intro wa2 ba2 gga2 oa2 la2 ha2
            have ga2 := ga1.trans gga2
            have ca2 := ga2.cell hc (by simp)
            have ooa2 := Nat.le_trans ga1.size oa2
            have ra2 := gga2.row ra1 (fun j hj => by simp)
            have xa2 := cells_of_block ha2
            have na2 : ba1 ≠ ba2 := by have := la1; omega
            refine ⟨.inr ca2, ?_⟩
            simp only [List.getElem_toArray, List.getElem_cons_succ, List.getElem_cons_zero, Act.put, List.setIfInBounds_toArray, List.set_cons_succ, List.set_cons_zero]
            refine wpAnyX_all (rs := [13]) (by kernel_rfl) (by simp) (fun i hi => ?_)
            simp only [List.mem_cons, List.not_mem_nil, or_false] at hi
            subst hi
            refine wpOp_appendF (by rfl) (by rfl) _ _ 22 (by rfl) wr.heap.size 32 i0 (.agg #[.int .i64 0, .int .i64 0]) 2 16 Try.underlying22 hi hz0 hz1 hz2 rfl (by decide) (.slice (some ⟨ba1, 0, none⟩) 0 0) (0) ([]) (by go_simp) ra2 ⟨ba2, 0, none⟩ (1) 1 ([.int .i64 f, .int .i64 t]) (by go_simp) rfl (fun j u hj => by rw [add_zeroX]; exact xa2 j u hj) (by simp [Value.oneCell']) (by unfold maxLen; omega) (by omega) ga2.size (by omega) ?_
            intro bp3 capp3 wp3 ownp3 roomp3 growp3
            have rp3 : wp3.ownsRow wr.heap.size 32 2 (.slice (some ⟨bp3, 0, none⟩) (0 + (1)) capp3) (0 + (1)) ([.int .i64 f, .int .i64 t]) := own_conv ownp3 rfl (by simp)
            have gp3 := ga2.from (.of_rowX growp3) (fun x hx => .inr (ra2.lt x (by simpa using hx)).1)
            have cp3 := gp3.cell hc (by simp)
            clear ownp3
            refine ⟨.inr cp3, ?_⟩
            simp only [List.getElem_toArray, List.getElem_cons_succ, List.getElem_cons_zero, Act.put, List.setIfInBounds_toArray, List.set_cons_succ, List.set_cons_zero]
            refine wpAnyX_all (rs := [20]) (by kernel_rfl) (by simp) (fun i hi => ?_)
            simp only [List.mem_cons, List.not_mem_nil, or_false] at hi
            subst hi
            refine wpOp_append_none (by rfl) (by rfl) _ _ 22 (by rfl) 32 i0 Try.underlying22 hi ⟨bp3, 0, none⟩ (0 + (1)) capp3 (by go_simp) (by go_simp) roomp3 ?_
            refine ⟨.inr cp3, ?_⟩
            simp only [List.getElem_toArray, List.getElem_cons_succ, List.getElem_cons_zero, Act.put, List.setIfInBounds_toArray, List.set_cons_succ, List.set_cons_zero]
            refine wpAnyX_take [22, 21] (i := 21) (v := .pointer (some ⟨R, 0, none⟩)) rfl (by kernel_rfl) (by kernel_rfl) (by kernel_rfl) (by kernel_rfl) (by kernel_rfl) (by kernel_rfl) (fun _ _ _ h => h) (Or.inl ⟨by rfl, fun w' hw' => (by dsimp only at hw'; go_simp)⟩) cp3 ?_
            simp only [List.getElem_toArray, List.getElem_cons_succ, List.getElem_cons_zero, Act.put, List.setIfInBounds_toArray, List.set_cons_succ, List.set_cons_zero]
            refine wpAnyX_take [22] (i := 22) (v := .pointer (some ⟨R, 0, none⟩)) rfl (by kernel_rfl) (by kernel_rfl) (by kernel_rfl) (by kernel_rfl) (by kernel_rfl) (by kernel_rfl) (fun _ _ _ h => h) (Or.inl ⟨by rfl, fun w' hw' => (by dsimp only at hw'; go_simp)⟩) cp3 ?_
            simp only [List.getElem_toArray, List.getElem_cons_succ, List.getElem_cons_zero, Act.put, List.setIfInBounds_toArray, List.set_cons_succ, List.set_cons_zero]
            refine wpAnyX_all (rs := [23]) (by kernel_rfl) (by simp) (fun i hi => ?_)
            simp only [List.mem_cons, List.not_mem_nil, or_false] at hi
            subst hi
            have f40 := gp3.frozen hRlt hfz (by simp)
            refine wpOp_skip (by rfl) (by rfl) (w' := wp3.setCell ⟨R, 0, none⟩ (.slice (some ⟨bp3, 0, none⟩) (0 + (1)) capp3)) (by go_simp) ?_
            refine ⟨.inl rfl, ?_⟩
            simp only [List.getElem_toArray, List.getElem_cons_succ, List.getElem_cons_zero, Act.put, List.setIfInBounds_toArray, List.set_cons_succ, List.set_cons_zero]
            refine wpAnyX_done (by kernel_rfl) ?_ _
            have hq := hQ0 ((.slice (some ⟨ba1, 0, none⟩) 0 0), (.slice (some ⟨ba1, 0, none⟩) 0 0), (.slice (some ⟨ba2, 0, none⟩) 1 1), (.slice (some ⟨bp3, 0, none⟩) (0 + (1)) capp3), (.slice (some ⟨bp3, 0, none⟩) (0 + (1)) capp3)) _ ⟨bp3, capp3, wp3, rfl, rfl, gp3, rp3⟩
            simp only at hq
            exact hq
          · refine wpOp_alloc (by rfl) (by rfl) (n := 1) (cs := #[.int .i64 f, .int .i64 t]) (t := 32) (by go_simp) ?_
            intro wa2 ba2 gga2 oa2 la2 ha2
            have ga2 := ga1.trans gga2
            have ca2 := ga2.cell hc (by simp)
            have ooa2 := Nat.le_trans ga1.size oa2
            have ra2 := gga2.row ra1 (fun j hj => by simp)
            have xa2 := cells_of_block ha2
            have na2 : ba1 ≠ ba2 := by have := la1; omega
            refine ⟨.inr ca2, ?_⟩
            simp only [List.getElem_toArray, List.getElem_cons_succ, List.getElem_cons_zero, Act.put, List.setIfInBounds_toArray, List.set_cons_succ, List.set_cons_zero]
            refine wpAnyX_all (rs := [8]) (by kernel_rfl) (by simp) (fun i hi => ?_)
            simp only [List.mem_cons, List.not_mem_nil, or_false] at hi
            subst hi
            refine wpOp_append_none (by rfl) (by rfl) _ _ 22 (by rfl) 32 i0 Try.underlying22 hi ⟨ba1, 0, none⟩ 0 0 (by go_simp) (by go_simp) (Nat.le_refl _) ?_
            refine ⟨.inr ca2, ?_⟩
            simp only [List.getElem_toArray, List.getElem_cons_succ, List.getElem_cons_zero, Act.put, List.setIfInBounds_toArray, List.set_cons_succ, List.set_cons_zero]
            refine wpAnyX_all (rs := [13]) (by kernel_rfl) (by simp) (fun i hi => ?_)
            simp only [List.mem_cons, List.not_mem_nil, or_false] at hi
            subst hi
            refine wpOp_appendF (by rfl) (by rfl) _ _ 22 (by rfl) wr.heap.size 32 i0 (.agg #[.int .i64 0, .int .i64 0]) 2 16 Try.underlying22 hi hz0 hz1 hz2 rfl (by decide) (.slice (some ⟨ba1, 0, none⟩) 0 0) (0) ([]) (by go_simp) ra2 ⟨ba2, 0, none⟩ (1) 1 ([.int .i64 f, .int .i64 t]) (by go_simp) rfl (fun j u hj => by rw [add_zeroX]; exact xa2 j u hj) (by simp [Value.oneCell']) (by unfold maxLen; omega) (by omega) ga2.size (by omega) ?_
            intro bp3 capp3 wp3 ownp3 roomp3 growp3
            have rp3 : wp3.ownsRow wr.heap.size 32 2 (.slice (some ⟨bp3, 0, none⟩) (0 + (1)) capp3) (0 + (1)) ([.int .i64 f, .int .i64 t]) := own_conv ownp3 rfl (by simp)
            have gp3 := ga2.from (.of_rowX growp3) (fun x hx => .inr (ra2.lt x (by simpa using hx)).1)
            have cp3 := gp3.cell hc (by simp)
            clear ownp3
            refine ⟨.inr cp3, ?_⟩
            simp only [List.getElem_toArray, List.getElem_cons_succ, List.getElem_cons_zero, Act.put, List.setIfInBounds_toArray, List.set_cons_succ, List.set_cons_zero]
            refine wpAnyX_all (rs := [20]) (by kernel_rfl) (by simp) (fun i hi => ?_)
            simp only [List.mem_cons, List.not_mem_nil, or_false] at hi
            subst hi
            refine wpOp_append_none (by rfl) (by rfl) _ _ 22 (by rfl) 32 i0 Try.underlying22 hi ⟨bp3, 0, none⟩ (0 + (1)) capp3 (by go_simp) (by go_simp) roomp3 ?_
            refine ⟨.inr cp3, ?_⟩
            simp only [List.getElem_toArray, List.getElem_cons_succ, List.getElem_cons_zero, Act.put, List.setIfInBounds_toArray, List.set_cons_succ, List.set_cons_zero]
            refine wpAnyX_take [22, 21] (i := 21) (v := .pointer (some ⟨R, 0, none⟩)) rfl (by kernel_rfl) (by kernel_rfl) (by kernel_rfl) (by kernel_rfl) (by kernel_rfl) (by kernel_rfl) (fun _ _ _ h => h) (Or.inl ⟨by rfl, fun w' hw' => (by dsimp only at hw'; go_simp)⟩) cp3 ?_
            simp only [List.getElem_toArray, List.getElem_cons_succ, List.getElem_cons_zero, Act.put, List.setIfInBounds_toArray, List.set_cons_succ, List.set_cons_zero]
            refine wpAnyX_take [22] (i := 22) (v := .pointer (some ⟨R, 0, none⟩)) rfl (by kernel_rfl) (by kernel_rfl) (by kernel_rfl) (by kernel_rfl) (by kernel_rfl) (by kernel_rfl) (fun _ _ _ h => h) (Or.inl ⟨by rfl, fun w' hw' => (by dsimp only at hw'; go_simp)⟩) cp3 ?_
            simp only [List.getElem_toArray, List.getElem_cons_succ, List.getElem_cons_zero, Act.put, List.setIfInBounds_toArray, List.set_cons_succ, List.set_cons_zero]
            refine wpAnyX_all (rs := [23]) (by kernel_rfl) (by simp) (fun i hi => ?_)
            simp only [List.mem_cons, List.not_mem_nil, or_false] at hi
            subst hi
            have f40 := gp3.frozen hRlt hfz (by simp)
            refine wpOp_skip (by rfl) (by rfl) (w' := wp3.setCell ⟨R, 0, none⟩ (.slice (some ⟨bp3, 0, none⟩) (0 + (1)) capp3)) (by go_simp) ?_
            refine ⟨.inl rfl, ?_⟩
            simp only [List.getElem_toArray, List.getElem_cons_succ, List.getElem_cons_zero, Act.put, List.setIfInBounds_toArray, List.set_cons_succ, List.set_cons_zero]
            refine wpAnyX_done (by kernel_rfl) ?_ _
            have hq := hQ0 ((.slice (some ⟨ba1, 0, none⟩) 0 0), (.slice (some ⟨ba1, 0, none⟩) 0 0), (.slice (some ⟨ba2, 0, none⟩) 1 1), (.slice (some ⟨bp3, 0, none⟩) (0 + (1)) capp3), (.slice (some ⟨bp3, 0, none⟩) (0 + (1)) capp3)) _ ⟨bp3, capp3, wp3, rfl, rfl, gp3, rp3⟩
            simp only at hq
            exact hq
        · refine wpOp_alloc (by rfl) (by rfl) (n := 1) (cs := #[.int .i64 f, .int .i64 t]) (t := 32) (by go_simp) ?_
          intro wa1 ba1 gga1 oa1 la1 ha1
          have ga1 := g0.trans gga1
          have ca1 := ga1.cell hc (by simp)
          have ooa1 := Nat.le_trans g0.size oa1
          have xa1 := cells_of_block ha1
          refine ⟨.inr ca1, ?_⟩
          simp only [List.getElem_toArray, List.getElem_cons_succ, List.getElem_cons_zero, Act.put, List.setIfInBounds_toArray, List.set_cons_succ, List.set_cons_zero]
          refine wpAnyX_all (rs := [1]) (by kernel_rfl) (by simp) (fun i hi => ?_)
          simp only [List.mem_cons, List.not_mem_nil, or_false] at hi
          subst hi
          refine wpOp_alloc (by rfl) (by rfl) (n := 0) (cs := #[]) (t := 32) (by go_simp) ?_
          intro wa2 ba2 gga2 oa2 la2 ha2
          have ga2 := ga1.trans gga2
          have ca2 := ga2.cell hc (by simp)
          have ooa2 := Nat.le_trans ga1.size oa2
          have ra2 := ownsRow_emptyN (size := 2) ooa2 ha2
          have xa2 := fun j u hj => gga2.cell (xa1 j u hj) (by simp)
          have na2 : ba1 ≠ ba2 := by have := la1; omega
          refine ⟨.inr ca2, ?_⟩
          simp only [List.getElem_toArray, List.getElem_cons_succ, List.getElem_cons_zero, Act.put, List.setIfInBounds_toArray, List.set_cons_succ, List.set_cons_zero]
          refine wpAnyX_all (rs := [8]) (by kernel_rfl) (by simp) (fun i hi => ?_)
          simp only [List.mem_cons, List.not_mem_nil, or_false] at hi
          subst hi
          refine wpOp_append_none (by rfl) (by rfl) _ _ 22 (by rfl) 32 i0 Try.underlying22 hi ⟨ba2, 0, none⟩ 0 0 (by go_simp) (by go_simp) (Nat.le_refl _) ?_
          refine ⟨.inr ca2, ?_⟩
          simp only [List.getElem_toArray, List.getElem_cons_succ, List.getElem_cons_zero, Act.put, List.setIfInBounds_toArray, List.set_cons_succ, List.set_cons_zero]
          refine wpAnyX_all (rs := [13]) (by kernel_rfl) (by simp) (fun i hi => ?_)
          simp only [List.mem_cons, List.not_mem_nil, or_false] at hi
          subst hi
          refine wpOp_appendF (by rfl) (by rfl) _ _ 22 (by rfl) wr.heap.size 32 i0 (.agg #[.int .i64 0, .int .i64 0]) 2 16 Try.underlying22 hi hz0 hz1 hz2 rfl (by decide) (.slice (some ⟨ba2, 0, none⟩) 0 0) (0) ([]) (by go_simp) ra2 ⟨ba1, 0, none⟩ (1) 1 ([.int .i64 f, .int .i64 t]) (by go_simp) rfl (fun j u hj => by rw [add_zeroX]; exact xa2 j u hj) (by simp [Value.oneCell']) (by unfold maxLen; omega) (by omega) ga2.size (by omega) ?_
          intro bp3 capp3 wp3 ownp3 roomp3 growp3
          have rp3 : wp3.ownsRow wr.heap.size 32 2 (.slice (some ⟨bp3, 0, none⟩) (0 + (1)) capp3) (0 + (1)) ([.int .i64 f, .int .i64 t]) := own_conv ownp3 rfl (by simp)
          have gp3 := ga2.from (.of_rowX growp3) (fun x hx => .inr (ra2.lt x (by simpa using hx)).1)
          have cp3 := gp3.cell hc (by simp)
          clear ownp3
          refine ⟨.inr cp3, ?_⟩
          simp only [List.getElem_toArray, List.getElem_cons_succ, List.getElem_cons_zero, Act.put, List.setIfInBounds_toArray, List.set_cons_succ, List.set_cons_zero]
          refine wpAnyX_all (rs := [20]) (by kernel_rfl) (by simp) (fun i hi => ?_)
          simp only [List.mem_cons, List.not_mem_nil, or_false] at hi
          subst hi
          refine wpOp_append_none (by rfl) (by rfl) _ _ 22 (by rfl) 32 i0 Try.underlying22 hi ⟨bp3, 0, none⟩ (0 + (1)) capp3 (by go_simp) (by go_simp) roomp3 ?_
          refine ⟨.inr cp3, ?_⟩
          simp only [List.getElem_toArray, List.getElem_cons_succ, List.getElem_cons_zero, Act.put, List.setIfInBounds_toArray, List.set_cons_succ, List.set_cons_zero]
          refine wpAnyX_take [22, 21] (i := 21) (v := .pointer (some ⟨R, 0, none⟩)) rfl (by kernel_rfl) (by kernel_rfl) (by kernel_rfl) (by kernel_rfl) (by kernel_rfl) (by kernel_rfl) (fun _ _ _ h => h) (Or.inl ⟨by rfl, fun w' hw' => (by dsimp only at hw'; go_simp)⟩) cp3 ?_
          simp only [List.getElem_toArray, List.getElem_cons_succ, List.getElem_cons_zero, Act.put, List.setIfInBounds_toArray, List.set_cons_succ, List.set_cons_zero]
          refine wpAnyX_take [22] (i := 22) (v := .pointer (some ⟨R, 0, none⟩)) rfl (by kernel_rfl) (by kernel_rfl) (by kernel_rfl) (by kernel_rfl) (by kernel_rfl) (by kernel_rfl) (fun _ _ _ h => h) (Or.inl ⟨by rfl, fun w' hw' => (by dsimp only at hw'; go_simp)⟩) cp3 ?_
          simp only [List.getElem_toArray, List.getElem_cons_succ, List.getElem_cons_zero, Act.put, List.setIfInBounds_toArray, List.set_cons_succ, List.set_cons_zero]
          refine wpAnyX_all (rs := [23]) (by kernel_rfl) (by simp) (fun i hi => ?_)
          simp only [List.mem_cons, List.not_mem_nil, or_false] at hi
          subst hi
          have f40 := gp3.frozen hRlt hfz (by simp)
          refine wpOp_skip (by rfl) (by rfl) (w' := wp3.setCell ⟨R, 0, none⟩ (.slice (some ⟨bp3, 0, none⟩) (0 + (1)) capp3)) (by go_simp) ?_
          refine ⟨.inl rfl, ?_⟩
          simp only [List.getElem_toArray, List.getElem_cons_succ, List.getElem_cons_zero, Act.put, List.setIfInBounds_toArray, List.set_cons_succ, List.set_cons_zero]
          refine wpAnyX_done (by kernel_rfl) ?_ _
          have hq := hQ0 ((.slice (some ⟨ba2, 0, none⟩) 0 0), (.slice (some ⟨ba2, 0, none⟩) 0 0), (.slice (some ⟨ba1, 0, none⟩) 1 1), (.slice (some ⟨bp3, 0, none⟩) (0 + (1)) capp3), (.slice (some ⟨bp3, 0, none⟩) (0 + (1)) capp3)) _ ⟨bp3, capp3, wp3, rfl, rfl, gp3, rp3⟩
          simp only at hq
          exact hq
      rintro ⟨v62, v69, v73, v74, v81⟩ w' ⟨g5, cap5, w40, hv, hw', g40, own40⟩
      have e0 : 0 + (1) = 1 := by omega
      rw [e0] at own40 hv hw'
      clear e0
      have e1 : 1 = [(f, t)].length := by simp
      have e2 : ([.int .i64 f, .int .i64 t] : List Value) = [(f, t)].flatMap encL := by
        simp [encL]
      rw [hw']
      clear hw' w'
      simp only at hv
      subst hv
      simp only [List.getElem_toArray, List.getElem_cons_succ, List.getElem_cons_zero, Act.put, List.setIfInBounds_toArray, List.set_cons_succ, List.set_cons_zero]
      go_wp2_with go_in
      go_ret
      exact RC.fin h hb0 (List.Perm.refl _) (List.pairwise_singleton _ _) g40 (own_conv own40 e1 e2)
  · have hflat := row_flat hrow
    have hcapI : (cap : Int) ≤ 9223372036854775807 := by unfold maxLen at hcm; omega
    have hlenI : (M.length : Int) ≤ 1000 := by omega
    have hlc : (M.length : Int) ≤ (cap : Int) := by omega
    go_loopw [11] (fun v11 wy => ∃ i : Nat, v11 = .int .i64 i ∧ i ≤ M.length ∧ (∀ j (hj : j < M.length), j < i → (M[j]).1 < f) ∧ wy = w) (fun v11 _ => M.length - (match v11 with | .int _ k => k.toNat | _ => 0))
    case atStart => exact ⟨0, rfl, by omega, fun j hj h0 => by omega, rfl⟩
    case round =>
      obtain ⟨i, rfl, hiL, hbelow, hwy⟩ := hrel
      subst hwy
      by_cases hgo : ∃ h1 : i < M.length, (M[i]).1 < f
      · obtain ⟨h1, h2⟩ := hgo
        have h1' : (i : Int) < (M.length : Int) := by omega
        have hci := (hcells i h1).1
        have hbel : ∀ j (hj : j < M.length), j < i + 1 → (M[j]).1 < f := fun j hj hji => by
          by_cases e : j = i
          · subst e; exact h2
          · exact hbelow j hj (by omega)
        generalize (M[i]).1 = y at hci h2
        clear hcells hbelow hflat
        go_wp2_with go_in
        exact ⟨⟨i + 1, by simp, by omega, hbel, trivial⟩, by simp; omega⟩
      · have hex : ¬ (i : Int) < (M.length : Int) ∨ ((i : Int) < (M.length : Int) ∧ ∃ y, wr.cell? ⟨g, i * 2, none⟩ = some (.int .i64 y) ∧ ¬ y < f) := by
          by_cases h1 : i < M.length
          · exact .inr ⟨by omega, _, (hcells i h1).1, fun h2 => hgo ⟨h1, h2⟩⟩
          · exact .inl (by omega)
        have habove : ∀ j (hj : j < M.length), i ≤ j → f < (M[j]).1 := fun j hj hij => by
          have h1 : i < M.length := by omega
          have h2 : ¬ (M[i]).1 < f := fun h2 => hgo ⟨h1, h2⟩
          have h3 : (M[i]).1 ≠ f := fun e => hnf (List.mem_map.2 ⟨_, List.getElem_mem h1, e⟩)
          by_cases e : j = i
          · subst e; omega
          · have h4 := List.pairwise_iff_getElem.1 hr i j h1 hj (by omega)
            omega
        have rins : FstRises (M.take i ++ (f, t) :: M.drop i) := fst_insert hr hbelow habove
        have pins : (M.take i ++ (f, t) :: M.drop i).Perm ((f, t) :: M) := by
          have h1 : (M.take i ++ (f, t) :: M.drop i).Perm ((f, t) :: (M.take i ++ M.drop i)) := List.perm_middle
          rwa [List.take_append_drop] at h1
        clear hbelow habove hcells
        have hi2 : (i : Int) ≤ (M.length : Int) := by omega
        have hi3 : (i : Int) ≤ (cap : Int) := by omega
        have hnews1 : ∀ W, GrowBut wr W [] → ∀ j u, ((M.take i).flatMap encL)[j]? = some u → W.cell? (Addr.add ⟨g, 0, none⟩ j) = some u := fun W hW j u hj => by
          have e1 : (Addr.add ⟨g, 0, none⟩ j) = ⟨g, j, none⟩ := by unfold Addr.add; split <;> simp_all
          rw [e1]
          exact hW.cell (hflat j u (flat_take M i hj)) (by simp)
        have hnews2 : ∀ W, GrowBut wr W [] → ∀ j u, ((M.drop i).flatMap encL)[j]? = some u → W.cell? (Addr.add ⟨g, i * 2, none⟩ j) = some u := fun W hW j u hj => by
          have e1 : (Addr.add ⟨g, i * 2, none⟩ j) = ⟨g, i * 2 + j, none⟩ := by unfold Addr.add; split <;> simp_all
          rw [e1]
          exact hW.cell (hflat _ u (flat_drop M hiL hj)) (by simp)
        have hone : ∀ (l : List (Int × Int)) (u : Value), u ∈ l.flatMap encL → u.oneCell' = true := fun l u hu => by
          obtain ⟨a, _, ha⟩ := List.mem_flatMap.1 hu
          simp [encL] at ha
          rcases ha with rfl | rfl <;> rfl
        clear hflat
        have hci : cap = i ∨ ¬ cap = i := by omega
        rcases hci with hci | hci
        · have hend : ¬ (i : Int) < (M.length : Int) := by omega
          have hci' := hci.symm
          subst hci'
          clear hex hci
          go_upto_region 8 with go_in
          refine wp_viaE (ι := Value × Value × Value × Value × Value) (fun x w' => ∃ g5 cap5 w40, x.2.2.2.2 = (.slice (some ⟨g5, 0, none⟩) (0 + (i) + (1) + (0)) cap5) ∧ w' = w40.setCell ⟨R, 0, none⟩ (.slice (some ⟨g5, 0, none⟩) (0 + (i) + (1) + (0)) cap5) ∧ GrowBut wr w40 [] ∧ w40.ownsRow wr.heap.size 32 2 (.slice (some ⟨g5, 0, none⟩) (0 + (i) + (1) + (0)) cap5) (0 + (i) + (1) + (0)) ((M.take i).flatMap encL ++ [.int .i64 f, .int .i64 t])) (fun x a => (((((((((((((((((((((((a.put (some 61) (.pointer (some ⟨R, 0, none⟩))).put (some 62) (x.1)).put (some 63) (.pointer (some ⟨R, 0, none⟩))).put (some 64) (.pointer (some ⟨R, 0, none⟩))).put (some 65) (.pointer (some ⟨R, 0, none⟩))).put (some 66) (.slice (some ⟨g, 0, none⟩) M.length i)).put (some 67) (.int .i64 i)).put (some 68) (.slice (some ⟨g, 0, none⟩) i i)).put (some 69) (x.2.1)).put (some 70) (.int .i64 f)).put (some 71) (.int .i64 t)).put (some 72) (.agg #[.int .i64 f, .int .i64 t])).put (some 73) (x.2.2.1)).put (some 74) (x.2.2.2.1)).put (some 75) (.pointer (some ⟨R, 0, none⟩))).put (some 76) (.pointer (some ⟨R, 0, none⟩))).put (some 77) (.pointer (some ⟨R, 0, none⟩))).put (some 78) (.slice (some ⟨g, 0, none⟩) M.length i)).put (some 79) (.int .i64 i)).put (some 80) (.slice (some ⟨g, 0, none⟩) 0 0)).put (some 81) (x.2.2.2.2)).put (some 82) (.pointer (some ⟨R, 0, none⟩))).put (some 83) (.pointer (some ⟨R, 0, none⟩)))) ?_ ?_
          · intro Q0 hQ0
            simp only [List.getElem_toArray, List.getElem_cons_succ, List.getElem_cons_zero, Act.put, List.setIfInBounds_toArray, List.set_cons_succ, List.set_cons_zero] at hQ0
            refine wp_region_X 23 (fun w' => w'.cell? ⟨R, 0, none⟩ = some (.slice (some ⟨g, 0, none⟩) M.length i)) (by kernel_rfl) ?_
            have g0 : GrowBut wr wr.drew [] := GrowBut.drew _ _
            have c0 := g0.cell hc (by simp)
            have s0 := g0.size
            generalize wr.drew = w0 at g0 c0 s0 ⊢
            refine wpAnyX_take [0] (i := 0) (v := .pointer (some ⟨R, 0, none⟩)) rfl (by kernel_rfl) (by kernel_rfl) (by kernel_rfl) (by kernel_rfl) (by kernel_rfl) (by kernel_rfl) (fun _ _ _ h => h) (Or.inl ⟨by rfl, fun w' hw' => (by dsimp only at hw'; go_simp)⟩) c0 ?_
            simp only [List.getElem_toArray, List.getElem_cons_succ, List.getElem_cons_zero, Act.put, List.setIfInBounds_toArray, List.set_cons_succ, List.set_cons_zero]
            refine wpAnyX_take [2] (i := 2) (v := .pointer (some ⟨R, 0, none⟩)) rfl (by kernel_rfl) (by kernel_rfl) (by kernel_rfl) (by kernel_rfl) (by kernel_rfl) (by kernel_rfl) (fun _ _ _ h => h) (Or.inl ⟨by rfl, fun w' hw' => (by dsimp only at hw'; go_simp)⟩) c0 ?_
            simp only [List.getElem_toArray, List.getElem_cons_succ, List.getElem_cons_zero, Act.put, List.setIfInBounds_toArray, List.set_cons_succ, List.set_cons_zero]
            refine wpAnyX_take [3] (i := 3) (v := .pointer (some ⟨R, 0, none⟩)) rfl (by kernel_rfl) (by kernel_rfl) (by kernel_rfl) (by kernel_rfl) (by kernel_rfl) (by kernel_rfl) (fun _ _ _ h => h) (Or.inl ⟨by rfl, fun w' hw' => (by dsimp only at hw'; go_simp)⟩) c0 ?_
            simp only [List.getElem_toArray, List.getElem_cons_succ, List.getElem_cons_zero, Act.put, List.setIfInBounds_toArray, List.set_cons_succ, List.set_cons_zero]
            refine wpAnyX_take [4] (i := 4) (v := .pointer (some ⟨R, 0, none⟩)) rfl (by kernel_rfl) (by kernel_rfl) (by kernel_rfl) (by kernel_rfl) (by kernel_rfl) (by kernel_rfl) (fun _ _ _ h => h) (Or.inl ⟨by rfl, fun w' hw' => (by dsimp only at hw'; go_simp)⟩) c0 ?_
            simp only [List.getElem_toArray, List.getElem_cons_succ, List.getElem_cons_zero, Act.put, List.setIfInBounds_toArray, List.set_cons_succ, List.set_cons_zero]
            refine wpAnyX_take [5] (i := 5) (v := .slice (some ⟨g, 0, none⟩) M.length i) rfl (by kernel_rfl) (by kernel_rfl) (by kernel_rfl) (by kernel_rfl) (by kernel_rfl) (by kernel_rfl) (fun _ _ _ h => h) (Or.inl ⟨by rfl, fun w' hw' => (by dsimp only at hw'; go_simp)⟩) c0 ?_
            simp only [List.getElem_toArray, List.getElem_cons_succ, List.getElem_cons_zero, Act.put, List.setIfInBounds_toArray, List.set_cons_succ, List.set_cons_zero]
            refine wpAnyX_take [6] (i := 6) (v := .int .i64 i) rfl (by kernel_rfl) (by kernel_rfl) (by kernel_rfl) (by kernel_rfl) (by kernel_rfl) (by kernel_rfl) (fun _ _ _ h => h) (Or.inl ⟨by rfl, fun w' hw' => (by dsimp only at hw'; go_simp)⟩) c0 ?_
            simp only [List.getElem_toArray, List.getElem_cons_succ, List.getElem_cons_zero, Act.put, List.setIfInBounds_toArray, List.set_cons_succ, List.set_cons_zero]
            refine wpAnyX_take [7] (i := 7) (v := .slice (some ⟨g, 0, none⟩) i i) rfl (by kernel_rfl) (by kernel_rfl) (by kernel_rfl) (by kernel_rfl) (by kernel_rfl) (by kernel_rfl) (fun _ _ _ h => h) (Or.inl ⟨by rfl, fun w' hw' => (by dsimp only at hw'; go_simp)⟩) c0 ?_
            simp only [List.getElem_toArray, List.getElem_cons_succ, List.getElem_cons_zero, Act.put, List.setIfInBounds_toArray, List.set_cons_succ, List.set_cons_zero]
            refine wpAnyX_take [9] (i := 9) (v := .int .i64 f) rfl (by kernel_rfl) (by kernel_rfl) (by kernel_rfl) (by kernel_rfl) (by kernel_rfl) (by kernel_rfl) (fun _ _ _ h => h) (Or.inl ⟨by rfl, fun w' hw' => (by dsimp only at hw'; go_simp)⟩) c0 ?_
            simp only [List.getElem_toArray, List.getElem_cons_succ, List.getElem_cons_zero, Act.put, List.setIfInBounds_toArray, List.set_cons_succ, List.set_cons_zero]
            refine wpAnyX_take [10] (i := 10) (v := .int .i64 t) rfl (by kernel_rfl) (by kernel_rfl) (by kernel_rfl) (by kernel_rfl) (by kernel_rfl) (by kernel_rfl) (fun _ _ _ h => h) (Or.inl ⟨by rfl, fun w' hw' => (by dsimp only at hw'; go_simp)⟩) c0 ?_
            simp only [List.getElem_toArray, List.getElem_cons_succ, List.getElem_cons_zero, Act.put, List.setIfInBounds_toArray, List.set_cons_succ, List.set_cons_zero]
            refine wpAnyX_take [11] (i := 11) (v := .agg #[.int .i64 f, .int .i64 t]) rfl (by kernel_rfl) (by kernel_rfl) (by kernel_rfl) (by kernel_rfl) (by kernel_rfl) (by kernel_rfl) (fun _ _ _ h => h) (Or.inl ⟨by rfl, fun w' hw' => (by dsimp only at hw'; go_simp)⟩) c0 ?_
            simp only [List.getElem_toArray, List.getElem_cons_succ, List.getElem_cons_zero, Act.put, List.setIfInBounds_toArray, List.set_cons_succ, List.set_cons_zero]
            refine wpAnyX_take [14] (i := 14) (v := .pointer (some ⟨R, 0, none⟩)) rfl (by kernel_rfl) (by kernel_rfl) (by kernel_rfl) (by kernel_rfl) (by kernel_rfl) (by kernel_rfl) (fun _ _ _ h => h) (Or.inl ⟨by rfl, fun w' hw' => (by dsimp only at hw'; go_simp)⟩) c0 ?_
            simp only [List.getElem_toArray, List.getElem_cons_succ, List.getElem_cons_zero, Act.put, List.setIfInBounds_toArray, List.set_cons_succ, List.set_cons_zero]
            refine wpAnyX_take [15] (i := 15) (v := .pointer (some ⟨R, 0, none⟩)) rfl (by kernel_rfl) (by kernel_rfl) (by kernel_rfl) (by kernel_rfl) (by kernel_rfl) (by kernel_rfl) (fun _ _ _ h => h) (Or.inl ⟨by rfl, fun w' hw' => (by dsimp only at hw'; go_simp)⟩) c0 ?_
            simp only [List.getElem_toArray, List.getElem_cons_succ, List.getElem_cons_zero, Act.put, List.setIfInBounds_toArray, List.set_cons_succ, List.set_cons_zero]
            refine wpAnyX_take [16] (i := 16) (v := .pointer (some ⟨R, 0, none⟩)) rfl (by kernel_rfl) (by kernel_rfl) (by kernel_rfl) (by kernel_rfl) (by kernel_rfl) (by kernel_rfl) (fun _ _ _ h => h) (Or.inl ⟨by rfl, fun w' hw' => (by dsimp only at hw'; go_simp)⟩) c0 ?_
            simp only [List.getElem_toArray, List.getElem_cons_succ, List.getElem_cons_zero, Act.put, List.setIfInBounds_toArray, List.set_cons_succ, List.set_cons_zero]
            refine wpAnyX_take [17] (i := 17) (v := .slice (some ⟨g, 0, none⟩) M.length i) rfl (by kernel_rfl) (by kernel_rfl) (by kernel_rfl) (by kernel_rfl) (by kernel_rfl) (by kernel_rfl) (fun _ _ _ h => h) (Or.inl ⟨by rfl, fun w' hw' => (by dsimp only at hw'; go_simp)⟩) c0 ?_
            simp only [List.getElem_toArray, List.getElem_cons_succ, List.getElem_cons_zero, Act.put, List.setIfInBounds_toArray, List.set_cons_succ, List.set_cons_zero]
            refine wpAnyX_take [18] (i := 18) (v := .int .i64 i) rfl (by kernel_rfl) (by kernel_rfl) (by kernel_rfl) (by kernel_rfl) (by kernel_rfl) (by kernel_rfl) (fun _ _ _ h => h) (Or.inl ⟨by rfl, fun w' hw' => (by dsimp only at hw'; go_simp)⟩) c0 ?_
            simp only [List.getElem_toArray, List.getElem_cons_succ, List.getElem_cons_zero, Act.put, List.setIfInBounds_toArray, List.set_cons_succ, List.set_cons_zero]
            refine wpAnyX_take [19] (i := 19) (v := .slice (some ⟨g, 0, none⟩) 0 0) rfl (by kernel_rfl) (by kernel_rfl) (by kernel_rfl) (by kernel_rfl) (by kernel_rfl) (by kernel_rfl) (fun _ _ _ h => h) (Or.inl ⟨by rfl, fun w' hw' => (by dsimp only at hw'; go_simp)⟩) c0 ?_
            simp only [List.getElem_toArray, List.getElem_cons_succ, List.getElem_cons_zero, Act.put, List.setIfInBounds_toArray, List.set_cons_succ, List.set_cons_zero]
            refine wpAnyX_all (rs := [1, 12]) (by kernel_rfl) (by simp) (fun i hi => ?_)
            simp only [List.mem_cons, List.not_mem_nil, or_false] at hi
            rcases hi with rfl | rfl
            · refine wpOp_alloc (by rfl) (by rfl) (n := 0) (cs := #[]) (t := 32) (by go_simp) ?_
              intro wa1 ba1 gga1 oa1 la1 ha1
              have ga1 := g0.trans gga1
              have ca1 := ga1.cell hc (by simp)
              have ooa1 := Nat.le_trans g0.size oa1
              have ra1 := ownsRow_emptyN (size := 2) ooa1 ha1
              refine ⟨.inr ca1, ?_⟩
              simp only [List.getElem_toArray, List.getElem_cons_succ, List.getElem_cons_zero, Act.put, List.setIfInBounds_toArray, List.set_cons_succ, List.set_cons_zero]
              refine wpAnyX_all (rs := [8, 12]) (by kernel_rfl) (by simp) (fun i hi => ?_)
              simp only [List.mem_cons, List.not_mem_nil, or_false] at hi
              rcases hi with rfl | rfl
              · refine wpOp_append (by rfl) (by rfl) _ _ 22 (by rfl) wr.heap.size 32 i0 (.agg #[.int .i64 0, .int .i64 0]) 2 16 Try.underlying22 hi hz0 hz1 hz2 rfl (by decide) (.slice (some ⟨ba1, 0, none⟩) 0 0) (0) ([]) (by go_simp) ra1 ⟨g, 0, none⟩ (i) i ((M.take i).flatMap encL) (by go_simp) (by rw [flatL_len]; simp; omega) (hnews1 _ ga1) (hone _) (by unfold maxLen; omega) (by omega) ga1.size  ?_
                intro vp2 wp2 ownp2 growp2 atp2
                have rp2 : wp2.ownsRow wr.heap.size 32 2 vp2 (0 + (i)) ((M.take i).flatMap encL) := own_conv ownp2 rfl (by simp)
                have gp2 := ga1.from (.of_rowX growp2) (fun x hx => .inr (ra1.lt x (by simpa using hx)).1)
                have cp2 := gp2.cell hc (by simp)
                clear ownp2
                refine ⟨.inr cp2, ?_⟩
                simp only [List.getElem_toArray, List.getElem_cons_succ, List.getElem_cons_zero, Act.put, List.setIfInBounds_toArray, List.set_cons_succ, List.set_cons_zero]
                refine wpAnyX_all (rs := [12]) (by kernel_rfl) (by simp) (fun i hi => ?_)
                simp only [List.mem_cons, List.not_mem_nil, or_false] at hi
                subst hi
                refine wpOp_alloc (by rfl) (by rfl) (n := 1) (cs := #[.int .i64 f, .int .i64 t]) (t := 32) (by go_simp) ?_
                intro wa3 ba3 gga3 oa3 la3 ha3
                have ga3 := gp2.trans gga3
                have ca3 := ga3.cell hc (by simp)
                have ooa3 := Nat.le_trans gp2.size oa3
                have ra3 := gga3.row rp2 (fun j hj => by simp)
                have xa3 := cells_of_block ha3
                refine ⟨.inr ca3, ?_⟩
                simp only [List.getElem_toArray, List.getElem_cons_succ, List.getElem_cons_zero, Act.put, List.setIfInBounds_toArray, List.set_cons_succ, List.set_cons_zero]
                refine wpAnyX_all (rs := [13]) (by kernel_rfl) (by simp) (fun i hi => ?_)
                simp only [List.mem_cons, List.not_mem_nil, or_false] at hi
                subst hi
                refine wpOp_appendF (by rfl) (by rfl) _ _ 22 (by rfl) wr.heap.size 32 i0 (.agg #[.int .i64 0, .int .i64 0]) 2 16 Try.underlying22 hi hz0 hz1 hz2 rfl (by decide) vp2 (0 + (i)) ((M.take i).flatMap encL) (by go_simp) ra3 ⟨ba3, 0, none⟩ (1) 1 ([.int .i64 f, .int .i64 t]) (by go_simp) rfl (fun j u hj => by rw [add_zeroX]; exact xa3 j u hj) (by simp [Value.oneCell']) (by unfold maxLen; omega) (by omega) ga3.size (by omega) ?_
                intro bp4 capp4 wp4 ownp4 roomp4 growp4
                have rp4 : wp4.ownsRow wr.heap.size 32 2 (.slice (some ⟨bp4, 0, none⟩) (0 + (i) + (1)) capp4) (0 + (i) + (1)) ((M.take i).flatMap encL ++ [.int .i64 f, .int .i64 t]) := own_conv ownp4 rfl (by simp)
                have gp4 := ga3.from (.of_rowX growp4) (fun x hx => .inr (ra3.lt x (by simpa using hx)).1)
                have cp4 := gp4.cell hc (by simp)
                clear ownp4
                refine ⟨.inr cp4, ?_⟩
                simp only [List.getElem_toArray, List.getElem_cons_succ, List.getElem_cons_zero, Act.put, List.setIfInBounds_toArray, List.set_cons_succ, List.set_cons_zero]
                refine wpAnyX_all (rs := [20]) (by kernel_rfl) (by simp) (fun i hi => ?_)
                simp only [List.mem_cons, List.not_mem_nil, or_false] at hi
                subst hi
                refine wpOp_appendF (by rfl) (by rfl) _ _ 22 (by rfl) wr.heap.size 32 i0 (.agg #[.int .i64 0, .int .i64 0]) 2 16 Try.underlying22 hi hz0 hz1 hz2 rfl (by decide) (.slice (some ⟨bp4, 0, none⟩) (0 + (i) + (1)) capp4) (0 + (i) + (1)) ((M.take i).flatMap encL ++ [.int .i64 f, .int .i64 t]) (by go_simp) rp4 ⟨g, 0, none⟩ (0) 0 ([]) (by go_simp) rfl (fun j u hj => by simp at hj) (fun u hu => by cases hu) (by unfold maxLen; omega) (by omega) gp4.size (by omega) ?_
                intro bp5 capp5 wp5 ownp5 roomp5 growp5
                have rp5 : wp5.ownsRow wr.heap.size 32 2 (.slice (some ⟨bp5, 0, none⟩) (0 + (i) + (1) + (0)) capp5) (0 + (i) + (1) + (0)) ((M.take i).flatMap encL ++ [.int .i64 f, .int .i64 t]) := own_conv ownp5 rfl (by simp)
                have gp5 := gp4.from (.of_rowX growp5) (fun x hx => .inr (rp4.lt x (by simpa using hx)).1)
                have cp5 := gp5.cell hc (by simp)
                clear ownp5
                refine ⟨.inr cp5, ?_⟩
                simp only [List.getElem_toArray, List.getElem_cons_succ, List.getElem_cons_zero, Act.put, List.setIfInBounds_toArray, List.set_cons_succ, List.set_cons_zero]
                refine wpAnyX_take [22, 21] (i := 21) (v := .pointer (some ⟨R, 0, none⟩)) rfl (by kernel_rfl) (by kernel_rfl) (by kernel_rfl) (by kernel_rfl) (by kernel_rfl) (by kernel_rfl) (fun _ _ _ h => h) (Or.inl ⟨by rfl, fun w' hw' => (by dsimp only at hw'; go_simp)⟩) cp5 ?_
                simp only [List.getElem_toArray, List.getElem_cons_succ, List.getElem_cons_zero, Act.put, List.setIfInBounds_toArray, List.set_cons_succ, List.set_cons_zero]
                refine wpAnyX_take [22] (i := 22) (v := .pointer (some ⟨R, 0, none⟩)) rfl (by kernel_rfl) (by kernel_rfl) (by kernel_rfl) (by kernel_rfl) (by kernel_rfl) (by kernel_rfl) (fun _ _ _ h => h) (Or.inl ⟨by rfl, fun w' hw' => (by dsimp only at hw'; go_simp)⟩) cp5 ?_
                simp only [List.getElem_toArray, List.getElem_cons_succ, List.getElem_cons_zero, Act.put, List.setIfInBounds_toArray, List.set_cons_succ, List.set_cons_zero]
                refine wpAnyX_all (rs := [23]) (by kernel_rfl) (by simp) (fun i hi => ?_)
                simp only [List.mem_cons, List.not_mem_nil, or_false] at hi
                subst hi
                have f40 := gp5.frozen hRlt hfz (by simp)
                refine wpOp_skip (by rfl) (by rfl) (w' := wp5.setCell ⟨R, 0, none⟩ (.slice (some ⟨bp5, 0, none⟩) (0 + (i) + (1) + (0)) capp5)) (by go_simp) ?_
                refine ⟨.inl rfl, ?_⟩
                simp only [List.getElem_toArray, List.getElem_cons_succ, List.getElem_cons_zero, Act.put, List.setIfInBounds_toArray, List.set_cons_succ, List.set_cons_zero]
                refine wpAnyX_done (by kernel_rfl) ?_ _
                have hq := hQ0 ((.slice (some ⟨ba1, 0, none⟩) 0 0), vp2, (.slice (some ⟨ba3, 0, none⟩) 1 1), (.slice (some ⟨bp4, 0, none⟩) (0 + (i) + (1)) capp4), (.slice (some ⟨bp5, 0, none⟩) (0 + (i) + (1) + (0)) capp5)) _ ⟨bp5, capp5, wp5, rfl, rfl, gp5, rp5⟩
                simp only at hq
                exact hq
              · refine wpOp_alloc (by rfl) (by rfl) (n := 1) (cs := #[.int .i64 f, .int .i64 t]) (t := 32) (by go_simp) ?_
                intro wa2 ba2 gga2 oa2 la2 ha2
                have ga2 := ga1.trans gga2
                have ca2 := ga2.cell hc (by simp)
                have ooa2 := Nat.le_trans ga1.size oa2
                have ra2 := gga2.row ra1 (fun j hj => by simp)
                have xa2 := cells_of_block ha2
                have na2 : ba1 ≠ ba2 := by have := la1; omega
                refine ⟨.inr ca2, ?_⟩
                simp only [List.getElem_toArray, List.getElem_cons_succ, List.getElem_cons_zero, Act.put, List.setIfInBounds_toArray, List.set_cons_succ, List.set_cons_zero]
                refine wpAnyX_all (rs := [8]) (by kernel_rfl) (by simp) (fun i hi => ?_)
                simp only [List.mem_cons, List.not_mem_nil, or_false] at hi
                subst hi
                refine wpOp_append (by rfl) (by rfl) _ _ 22 (by rfl) wr.heap.size 32 i0 (.agg #[.int .i64 0, .int .i64 0]) 2 16 Try.underlying22 hi hz0 hz1 hz2 rfl (by decide) (.slice (some ⟨ba1, 0, none⟩) 0 0) (0) ([]) (by go_simp) ra2 ⟨g, 0, none⟩ (i) i ((M.take i).flatMap encL) (by go_simp) (by rw [flatL_len]; simp; omega) (hnews1 _ ga2) (hone _) (by unfold maxLen; omega) (by omega) ga2.size  ?_
                intro vp3 wp3 ownp3 growp3 atp3
                have rp3 : wp3.ownsRow wr.heap.size 32 2 vp3 (0 + (i)) ((M.take i).flatMap encL) := own_conv ownp3 rfl (by simp)
                have gp3 := ga2.from (.of_rowX growp3) (fun x hx => .inr (ra2.lt x (by simpa using hx)).1)
                have cp3 := gp3.cell hc (by simp)
                have xp3 := fun j u hj => growp3.cell (xa2 j u hj) (by have h1 := na2; simp [Value.ownBlock]; omega)
                clear ownp3
                refine ⟨.inr cp3, ?_⟩
                simp only [List.getElem_toArray, List.getElem_cons_succ, List.getElem_cons_zero, Act.put, List.setIfInBounds_toArray, List.set_cons_succ, List.set_cons_zero]
                refine wpAnyX_all (rs := [13]) (by kernel_rfl) (by simp) (fun i hi => ?_)
                simp only [List.mem_cons, List.not_mem_nil, or_false] at hi
                subst hi
                refine wpOp_appendF (by rfl) (by rfl) _ _ 22 (by rfl) wr.heap.size 32 i0 (.agg #[.int .i64 0, .int .i64 0]) 2 16 Try.underlying22 hi hz0 hz1 hz2 rfl (by decide) vp3 (0 + (i)) ((M.take i).flatMap encL) (by go_simp) rp3 ⟨ba2, 0, none⟩ (1) 1 ([.int .i64 f, .int .i64 t]) (by go_simp) rfl (fun j u hj => by rw [add_zeroX]; exact xp3 j u hj) (by simp [Value.oneCell']) (by unfold maxLen; omega) (by omega) gp3.size (by omega) ?_
                intro bp4 capp4 wp4 ownp4 roomp4 growp4
                have rp4 : wp4.ownsRow wr.heap.size 32 2 (.slice (some ⟨bp4, 0, none⟩) (0 + (i) + (1)) capp4) (0 + (i) + (1)) ((M.take i).flatMap encL ++ [.int .i64 f, .int .i64 t]) := own_conv ownp4 rfl (by simp)
                have gp4 := gp3.from (.of_rowX growp4) (fun x hx => .inr (rp3.lt x (by simpa using hx)).1)
                have cp4 := gp4.cell hc (by simp)
                clear ownp4
                refine ⟨.inr cp4, ?_⟩
                simp only [List.getElem_toArray, List.getElem_cons_succ, List.getElem_cons_zero, Act.put, List.setIfInBounds_toArray, List.set_cons_succ, List.set_cons_zero]
                refine wpAnyX_all (rs := [20]) (by kernel_rfl) (by simp) (fun i hi => ?_)
                simp only [List.mem_cons, List.not_mem_nil, or_false] at hi
                subst hi
                refine wpOp_appendF (by rfl) (by rfl) _ _ 22 (by rfl) wr.heap.size 32 i0 (.agg #[.int .i64 0, .int .i64 0]) 2 16 Try.underlying22 hi hz0 hz1 hz2 rfl (by decide) (.slice (some ⟨bp4, 0, none⟩) (0 + (i) + (1)) capp4) (0 + (i) + (1)) ((M.take i).flatMap encL ++ [.int .i64 f, .int .i64 t]) (by go_simp) rp4 ⟨g, 0, none⟩ (0) 0 ([]) (by go_simp) rfl (fun j u hj => by simp at hj) (fun u hu => by cases hu) (by unfold maxLen; omega) (by omega) gp4.size (by omega) ?_
                intro bp5 capp5 wp5 ownp5 roomp5 growp5
                have rp5 : wp5.ownsRow wr.heap.size 32 2 (.slice (some ⟨bp5, 0, none⟩) (0 + (i) + (1) + (0)) capp5) (0 + (i) + (1) + (0)) ((M.take i).flatMap encL ++ [.int .i64 f, .int .i64 t]) := own_conv ownp5 rfl (by simp)
                have gp5 := gp4.from (.of_rowX growp5) (fun x hx => .inr (rp4.lt x (by simpa using hx)).1)
                have cp5 := gp5.cell hc (by simp)
                clear ownp5
                refine ⟨.inr cp5, ?_⟩
                simp only [List.getElem_toArray, List.getElem_cons_succ, List.getElem_cons_zero, Act.put, List.setIfInBounds_toArray, List.set_cons_succ, List.set_cons_zero]
                refine wpAnyX_take [22, 21] (i := 21) (v := .pointer (some ⟨R, 0, none⟩)) rfl (by kernel_rfl) (by kernel_rfl) (by kernel_rfl) (by kernel_rfl) (by kernel_rfl) (by kernel_rfl) (fun _ _ _ h => h) (Or.inl ⟨by rfl, fun w' hw' => (by dsimp only at hw'; go_simp)⟩) cp5 ?_
                simp only [List.getElem_toArray, List.getElem_cons_succ, List.getElem_cons_zero, Act.put, List.setIfInBounds_toArray, List.set_cons_succ, List.set_cons_zero]
                refine wpAnyX_take [22] (i := 22) (v := .pointer (some ⟨R, 0, none⟩)) rfl (by kernel_rfl) (by kernel_rfl) (by kernel_rfl) (by kernel_rfl) (by kernel_rfl) (by kernel_rfl) (fun _ _ _ h => h) (Or.inl ⟨by rfl, fun w' hw' => (by dsimp only at hw'; go_simp)⟩) cp5 ?_
                simp only [List.getElem_toArray, List.getElem_cons_succ, List.getElem_cons_zero, Act.put, List.setIfInBounds_toArray, List.set_cons_succ, List.set_cons_zero]
                refine wpAnyX_all (rs := [23]) (by kernel_rfl) (by simp) (fun i hi => ?_)
                simp only [List.mem_cons, List.not_mem_nil, or_false] at hi
                subst hi
                have f40 := gp5.frozen hRlt hfz (by simp)
                refine wpOp_skip (by rfl) (by rfl) (w' := wp5.setCell ⟨R, 0, none⟩ (.slice (some ⟨bp5, 0, none⟩) (0 + (i) + (1) + (0)) capp5)) (by go_simp) ?_
                refine ⟨.inl rfl, ?_⟩
                simp only [List.getElem_toArray, List.getElem_cons_succ, List.getElem_cons_zero, Act.put, List.setIfInBounds_toArray, List.set_cons_succ, List.set_cons_zero]
                refine wpAnyX_done (by kernel_rfl) ?_ _
                have hq := hQ0 ((.slice (some ⟨ba1, 0, none⟩) 0 0), vp3, (.slice (some ⟨ba2, 0, none⟩) 1 1), (.slice (some ⟨bp4, 0, none⟩) (0 + (i) + (1)) capp4), (.slice (some ⟨bp5, 0, none⟩) (0 + (i) + (1) + (0)) capp5)) _ ⟨bp5, capp5, wp5, rfl, rfl, gp5, rp5⟩
                simp only at hq
                exact hq
            · refine wpOp_alloc (by rfl) (by rfl) (n := 1) (cs := #[.int .i64 f, .int .i64 t]) (t := 32) (by go_simp) ?_
              intro wa1 ba1 gga1 oa1 la1 ha1
              have ga1 := g0.trans gga1
              have ca1 := ga1.cell hc (by simp)
              have ooa1 := Nat.le_trans g0.size oa1
              have xa1 := cells_of_block ha1
              refine ⟨.inr ca1, ?_⟩
              simp only [List.getElem_toArray, List.getElem_cons_succ, List.getElem_cons_zero, Act.put, List.setIfInBounds_toArray, List.set_cons_succ, List.set_cons_zero]
              refine wpAnyX_all (rs := [1]) (by kernel_rfl) (by simp) (fun i hi => ?_)
              simp only [List.mem_cons, List.not_mem_nil, or_false] at hi
              subst hi
              refine wpOp_alloc (by rfl) (by rfl) (n := 0) (cs := #[]) (t := 32) (by go_simp) ?_
              intro wa2 ba2 gga2 oa2 la2 ha2
              have ga2 := ga1.trans gga2
              have ca2 := ga2.cell hc (by simp)
              have ooa2 := Nat.le_trans ga1.size oa2
              have ra2 := ownsRow_emptyN (size := 2) ooa2 ha2
              have xa2 := fun j u hj => gga2.cell (xa1 j u hj) (by simp)
              have na2 : ba1 ≠ ba2 := by have := la1; omega
              refine ⟨.inr ca2, ?_⟩
              simp only [List.getElem_toArray, List.getElem_cons_succ, List.getElem_cons_zero, Act.put, List.setIfInBounds_toArray, List.set_cons_succ, List.set_cons_zero]
              refine wpAnyX_all (rs := [8]) (by kernel_rfl) (by simp) (fun i hi => ?_)
              simp only [List.mem_cons, List.not_mem_nil, or_false] at hi
              subst hi
              refine wpOp_append (by rfl) (by rfl) _ _ 22 (by rfl) wr.heap.size 32 i0 (.agg #[.int .i64 0, .int .i64 0]) 2 16 Try.underlying22 hi hz0 hz1 hz2 rfl (by decide) (.slice (some ⟨ba2, 0, none⟩) 0 0) (0) ([]) (by go_simp) ra2 ⟨g, 0, none⟩ (i) i ((M.take i).flatMap encL) (by go_simp) (by rw [flatL_len]; simp; omega) (hnews1 _ ga2) (hone _) (by unfold maxLen; omega) (by omega) ga2.size  ?_
              intro vp3 wp3 ownp3 growp3 atp3
              have rp3 : wp3.ownsRow wr.heap.size 32 2 vp3 (0 + (i)) ((M.take i).flatMap encL) := own_conv ownp3 rfl (by simp)
              have gp3 := ga2.from (.of_rowX growp3) (fun x hx => .inr (ra2.lt x (by simpa using hx)).1)
              have cp3 := gp3.cell hc (by simp)
              have xp3 := fun j u hj => growp3.cell (xa2 j u hj) (by have h1 := na2; simp [Value.ownBlock]; omega)
              clear ownp3
              refine ⟨.inr cp3, ?_⟩
              simp only [List.getElem_toArray, List.getElem_cons_succ, List.getElem_cons_zero, Act.put, List.setIfInBounds_toArray, List.set_cons_succ, List.set_cons_zero]
              refine wpAnyX_all (rs := [13]) (by kernel_rfl) (by simp) (fun i hi => ?_)
              simp only [List.mem_cons, List.not_mem_nil, or_false] at hi
              subst hi
              refine wpOp_appendF (by rfl) (by rfl) _ _ 22 (by rfl) wr.heap.size 32 i0 (.agg #[.int .i64 0, .int .i64 0]) 2 16 Try.underlying22 hi hz0 hz1 hz2 rfl (by decide) vp3 (0 + (i)) ((M.take i).flatMap encL) (by go_simp) rp3 ⟨ba1, 0, none⟩ (1) 1 ([.int .i64 f, .int .i64 t]) (by go_simp) rfl (fun j u hj => by rw [add_zeroX]; exact xp3 j u hj) (by simp [Value.oneCell']) (by unfold maxLen; omega) (by omega) gp3.size (by omega) ?_
              intro bp4 capp4 wp4 ownp4 roomp4 growp4
              have rp4 : wp4.ownsRow wr.heap.size 32 2 (.slice (some ⟨bp4, 0, none⟩) (0 + (i) + (1)) capp4) (0 + (i) + (1)) ((M.take i).flatMap encL ++ [.int .i64 f, .int .i64 t]) := own_conv ownp4 rfl (by simp)
              have gp4 := gp3.from (.of_rowX growp4) (fun x hx => .inr (rp3.lt x (by simpa using hx)).1)
              have cp4 := gp4.cell hc (by simp)
              clear ownp4
              refine ⟨.inr cp4, ?_⟩
              simp only [List.getElem_toArray, List.getElem_cons_succ, List.getElem_cons_zero, Act.put, List.setIfInBounds_toArray, List.set_cons_succ, List.set_cons_zero]
              refine wpAnyX_all (rs := [20]) (by kernel_rfl) (by simp) (fun i hi => ?_)
              simp only [List.mem_cons, List.not_mem_nil, or_false] at hi
              subst hi
              refine wpOp_appendF (by rfl) (by rfl) _ _ 22 (by rfl) wr.heap.size 32 i0 (.agg #[.int .i64 0, .int .i64 0]) 2 16 Try.underlying22 hi hz0 hz1 hz2 rfl (by decide) (.slice (some ⟨bp4, 0, none⟩) (0 + (i) + (1)) capp4) (0 + (i) + (1)) ((M.take i).flatMap encL ++ [.int .i64 f, .int .i64 t]) (by go_simp) rp4 ⟨g, 0, none⟩ (0) 0 ([]) (by go_simp) rfl (fun j u hj => by simp at hj) (fun u hu => by cases hu) (by unfold maxLen; omega) (by omega) gp4.size (by omega) ?_
              intro bp5 capp5 wp5 ownp5 roomp5 growp5
              have rp5 : wp5.ownsRow wr.heap.size 32 2 (.slice (some ⟨bp5, 0, none⟩) (0 + (i) + (1) + (0)) capp5) (0 + (i) + (1) + (0)) ((M.take i).flatMap encL ++ [.int .i64 f, .int .i64 t]) := own_conv ownp5 rfl (by simp)
              have gp5 := gp4.from (.of_rowX growp5) (fun x hx => .inr (rp4.lt x (by simpa using hx)).1)
              have cp5 := gp5.cell hc (by simp)
              clear ownp5
              refine ⟨.inr cp5, ?_⟩
              simp only [List.getElem_toArray, List.getElem_cons_succ, List.getElem_cons_zero, Act.put, List.setIfInBounds_toArray, List.set_cons_succ, List.set_cons_zero]
              refine wpAnyX_take [22, 21] (i := 21) (v := .pointer (some ⟨R, 0, none⟩)) rfl (by kernel_rfl) (by kernel_rfl) (by kernel_rfl) (by kernel_rfl) (by kernel_rfl) (by kernel_rfl) (fun _ _ _ h => h) (Or.inl ⟨by rfl, fun w' hw' => (by dsimp only at hw'; go_simp)⟩) cp5 ?_
              simp only [List.getElem_toArray, List.getElem_cons_succ, List.getElem_cons_zero, Act.put, List.setIfInBounds_toArray, List.set_cons_succ, List.set_cons_zero]
              refine wpAnyX_take [22] (i := 22) (v := .pointer (some ⟨R, 0, none⟩)) rfl (by kernel_rfl) (by kernel_rfl) (by kernel_rfl) (by kernel_rfl) (by kernel_rfl) (by kernel_rfl) (fun _ _ _ h => h) (Or.inl ⟨by rfl, fun w' hw' => (by dsimp only at hw'; go_simp)⟩) cp5 ?_
              simp only [List.getElem_toArray, List.getElem_cons_succ, List.getElem_cons_zero, Act.put, List.setIfInBounds_toArray, List.set_cons_succ, List.set_cons_zero]
              refine wpAnyX_all (rs := [23]) (by kernel_rfl) (by simp) (fun i hi => ?_)
              simp only [List.mem_cons, List.not_mem_nil, or_false] at hi
              subst hi
              have f40 := gp5.frozen hRlt hfz (by simp)
              refine wpOp_skip (by rfl) (by rfl) (w' := wp5.setCell ⟨R, 0, none⟩ (.slice (some ⟨bp5, 0, none⟩) (0 + (i) + (1) + (0)) capp5)) (by go_simp) ?_
              refine ⟨.inl rfl, ?_⟩
              simp only [List.getElem_toArray, List.getElem_cons_succ, List.getElem_cons_zero, Act.put, List.setIfInBounds_toArray, List.set_cons_succ, List.set_cons_zero]
              refine wpAnyX_done (by kernel_rfl) ?_ _
              have hq := hQ0 ((.slice (some ⟨ba2, 0, none⟩) 0 0), vp3, (.slice (some ⟨ba1, 0, none⟩) 1 1), (.slice (some ⟨bp4, 0, none⟩) (0 + (i) + (1)) capp4), (.slice (some ⟨bp5, 0, none⟩) (0 + (i) + (1) + (0)) capp5)) _ ⟨bp5, capp5, wp5, rfl, rfl, gp5, rp5⟩
              simp only at hq
              exact hq
          rintro ⟨v62, v69, v73, v74, v81⟩ w' ⟨g5, cap5, w40, hv, hw', g40, own40⟩
          have e0 : 0 + (i) + (1) + (0) = i + 1 := by omega
          rw [e0] at own40 hv hw'
          clear e0
          have e1 : i + 1 = (M.take i ++ (f, t) :: M.drop i).length := by simp; omega
          have e2 : ((M.take i).flatMap encL ++ [.int .i64 f, .int .i64 t] : List Value) = (M.take i ++ (f, t) :: M.drop i).flatMap encL := by
            rw [List.drop_eq_nil_of_le (show M.length ≤ i by omega)]; simp [encL]
          rw [hw']
          clear hw' w'
          simp only at hv
          subst hv
          simp only [List.getElem_toArray, List.getElem_cons_succ, List.getElem_cons_zero, Act.put, List.setIfInBounds_toArray, List.set_cons_succ, List.set_cons_zero]
          go_wp2_with go_in
          go_ret
          exact RC.fin h hb0 pins rins g40 (own_conv own40 e1 e2)
        rcases hex with hend | ⟨hend, y, hcy, hny⟩
        all_goals
          go_upto_region 8 with go_in
          refine wp_viaE (ι := Value × Value × Value × Value × Value) (fun x w' => ∃ g5 cap5 w40, x.2.2.2.2 = (.slice (some ⟨g5, 0, none⟩) (0 + (i) + (1) + (M.length - i)) cap5) ∧ w' = w40.setCell ⟨R, 0, none⟩ (.slice (some ⟨g5, 0, none⟩) (0 + (i) + (1) + (M.length - i)) cap5) ∧ GrowBut wr w40 [] ∧ w40.ownsRow wr.heap.size 32 2 (.slice (some ⟨g5, 0, none⟩) (0 + (i) + (1) + (M.length - i)) cap5) (0 + (i) + (1) + (M.length - i)) ((M.take i).flatMap encL ++ [.int .i64 f, .int .i64 t] ++ (M.drop i).flatMap encL)) (fun x a => (((((((((((((((((((((((a.put (some 61) (.pointer (some ⟨R, 0, none⟩))).put (some 62) (x.1)).put (some 63) (.pointer (some ⟨R, 0, none⟩))).put (some 64) (.pointer (some ⟨R, 0, none⟩))).put (some 65) (.pointer (some ⟨R, 0, none⟩))).put (some 66) (.slice (some ⟨g, 0, none⟩) M.length cap)).put (some 67) (.int .i64 i)).put (some 68) (.slice (some ⟨g, 0, none⟩) i cap)).put (some 69) (x.2.1)).put (some 70) (.int .i64 f)).put (some 71) (.int .i64 t)).put (some 72) (.agg #[.int .i64 f, .int .i64 t])).put (some 73) (x.2.2.1)).put (some 74) (x.2.2.2.1)).put (some 75) (.pointer (some ⟨R, 0, none⟩))).put (some 76) (.pointer (some ⟨R, 0, none⟩))).put (some 77) (.pointer (some ⟨R, 0, none⟩))).put (some 78) (.slice (some ⟨g, 0, none⟩) M.length cap)).put (some 79) (.int .i64 i)).put (some 80) (.slice (some ⟨g, i * 2, none⟩) (M.length - i) (cap - i))).put (some 81) (x.2.2.2.2)).put (some 82) (.pointer (some ⟨R, 0, none⟩))).put (some 83) (.pointer (some ⟨R, 0, none⟩)))) ?_ ?_
          · intro Q0 hQ0
            simp only [List.getElem_toArray, List.getElem_cons_succ, List.getElem_cons_zero, Act.put, List.setIfInBounds_toArray, List.set_cons_succ, List.set_cons_zero] at hQ0
            refine wp_region_X 23 (fun w' => w'.cell? ⟨R, 0, none⟩ = some (.slice (some ⟨g, 0, none⟩) M.length cap)) (by kernel_rfl) ?_
            have g0 : GrowBut wr wr.drew [] := GrowBut.drew _ _
            have c0 := g0.cell hc (by simp)
            have s0 := g0.size
            generalize wr.drew = w0 at g0 c0 s0 ⊢
            refine wpAnyX_take [0] (i := 0) (v := .pointer (some ⟨R, 0, none⟩)) rfl (by kernel_rfl) (by kernel_rfl) (by kernel_rfl) (by kernel_rfl) (by kernel_rfl) (by kernel_rfl) (fun _ _ _ h => h) (Or.inl ⟨by rfl, fun w' hw' => (by dsimp only at hw'; go_simp)⟩) c0 ?_
            simp only [List.getElem_toArray, List.getElem_cons_succ, List.getElem_cons_zero, Act.put, List.setIfInBounds_toArray, List.set_cons_succ, List.set_cons_zero]
            refine wpAnyX_take [2] (i := 2) (v := .pointer (some ⟨R, 0, none⟩)) rfl (by kernel_rfl) (by kernel_rfl) (by kernel_rfl) (by kernel_rfl) (by kernel_rfl) (by kernel_rfl) (fun _ _ _ h => h) (Or.inl ⟨by rfl, fun w' hw' => (by dsimp only at hw'; go_simp)⟩) c0 ?_
            simp only [List.getElem_toArray, List.getElem_cons_succ, List.getElem_cons_zero, Act.put, List.setIfInBounds_toArray, List.set_cons_succ, List.set_cons_zero]
            refine wpAnyX_take [3] (i := 3) (v := .pointer (some ⟨R, 0, none⟩)) rfl (by kernel_rfl) (by kernel_rfl) (by kernel_rfl) (by kernel_rfl) (by kernel_rfl) (by kernel_rfl) (fun _ _ _ h => h) (Or.inl ⟨by rfl, fun w' hw' => (by dsimp only at hw'; go_simp)⟩) c0 ?_
            simp only [List.getElem_toArray, List.getElem_cons_succ, List.getElem_cons_zero, Act.put, List.setIfInBounds_toArray, List.set_cons_succ, List.set_cons_zero]
            refine wpAnyX_take [4] (i := 4) (v := .pointer (some ⟨R, 0, none⟩)) rfl (by kernel_rfl) (by kernel_rfl) (by kernel_rfl) (by kernel_rfl) (by kernel_rfl) (by kernel_rfl) (fun _ _ _ h => h) (Or.inl ⟨by rfl, fun w' hw' => (by dsimp only at hw'; go_simp)⟩) c0 ?_
            simp only [List.getElem_toArray, List.getElem_cons_succ, List.getElem_cons_zero, Act.put, List.setIfInBounds_toArray, List.set_cons_succ, List.set_cons_zero]
            refine wpAnyX_take [5] (i := 5) (v := .slice (some ⟨g, 0, none⟩) M.length cap) rfl (by kernel_rfl) (by kernel_rfl) (by kernel_rfl) (by kernel_rfl) (by kernel_rfl) (by kernel_rfl) (fun _ _ _ h => h) (Or.inl ⟨by rfl, fun w' hw' => (by dsimp only at hw'; go_simp)⟩) c0 ?_
            simp only [List.getElem_toArray, List.getElem_cons_succ, List.getElem_cons_zero, Act.put, List.setIfInBounds_toArray, List.set_cons_succ, List.set_cons_zero]
            refine wpAnyX_take [6] (i := 6) (v := .int .i64 i) rfl (by kernel_rfl) (by kernel_rfl) (by kernel_rfl) (by kernel_rfl) (by kernel_rfl) (by kernel_rfl) (fun _ _ _ h => h) (Or.inl ⟨by rfl, fun w' hw' => (by dsimp only at hw'; go_simp)⟩) c0 ?_
            simp only [List.getElem_toArray, List.getElem_cons_succ, List.getElem_cons_zero, Act.put, List.setIfInBounds_toArray, List.set_cons_succ, List.set_cons_zero]
            refine wpAnyX_take [7] (i := 7) (v := .slice (some ⟨g, 0, none⟩) i cap) rfl (by kernel_rfl) (by kernel_rfl) (by kernel_rfl) (by kernel_rfl) (by kernel_rfl) (by kernel_rfl) (fun _ _ _ h => h) (Or.inl ⟨by rfl, fun w' hw' => (by dsimp only at hw'; go_simp)⟩) c0 ?_
            simp only [List.getElem_toArray, List.getElem_cons_succ, List.getElem_cons_zero, Act.put, List.setIfInBounds_toArray, List.set_cons_succ, List.set_cons_zero]
            refine wpAnyX_take [9] (i := 9) (v := .int .i64 f) rfl (by kernel_rfl) (by kernel_rfl) (by kernel_rfl) (by kernel_rfl) (by kernel_rfl) (by kernel_rfl) (fun _ _ _ h => h) (Or.inl ⟨by rfl, fun w' hw' => (by dsimp only at hw'; go_simp)⟩) c0 ?_
            simp only [List.getElem_toArray, List.getElem_cons_succ, List.getElem_cons_zero, Act.put, List.setIfInBounds_toArray, List.set_cons_succ, List.set_cons_zero]
            refine wpAnyX_take [10] (i := 10) (v := .int .i64 t) rfl (by kernel_rfl) (by kernel_rfl) (by kernel_rfl) (by kernel_rfl) (by kernel_rfl) (by kernel_rfl) (fun _ _ _ h => h) (Or.inl ⟨by rfl, fun w' hw' => (by dsimp only at hw'; go_simp)⟩) c0 ?_
            simp only [List.getElem_toArray, List.getElem_cons_succ, List.getElem_cons_zero, Act.put, List.setIfInBounds_toArray, List.set_cons_succ, List.set_cons_zero]
            refine wpAnyX_take [11] (i := 11) (v := .agg #[.int .i64 f, .int .i64 t]) rfl (by kernel_rfl) (by kernel_rfl) (by kernel_rfl) (by kernel_rfl) (by kernel_rfl) (by kernel_rfl) (fun _ _ _ h => h) (Or.inl ⟨by rfl, fun w' hw' => (by dsimp only at hw'; go_simp)⟩) c0 ?_
            simp only [List.getElem_toArray, List.getElem_cons_succ, List.getElem_cons_zero, Act.put, List.setIfInBounds_toArray, List.set_cons_succ, List.set_cons_zero]
            refine wpAnyX_take [14] (i := 14) (v := .pointer (some ⟨R, 0, none⟩)) rfl (by kernel_rfl) (by kernel_rfl) (by kernel_rfl) (by kernel_rfl) (by kernel_rfl) (by kernel_rfl) (fun _ _ _ h => h) (Or.inl ⟨by rfl, fun w' hw' => (by dsimp only at hw'; go_simp)⟩) c0 ?_
            simp only [List.getElem_toArray, List.getElem_cons_succ, List.getElem_cons_zero, Act.put, List.setIfInBounds_toArray, List.set_cons_succ, List.set_cons_zero]
            refine wpAnyX_take [15] (i := 15) (v := .pointer (some ⟨R, 0, none⟩)) rfl (by kernel_rfl) (by kernel_rfl) (by kernel_rfl) (by kernel_rfl) (by kernel_rfl) (by kernel_rfl) (fun _ _ _ h => h) (Or.inl ⟨by rfl, fun w' hw' => (by dsimp only at hw'; go_simp)⟩) c0 ?_
            simp only [List.getElem_toArray, List.getElem_cons_succ, List.getElem_cons_zero, Act.put, List.setIfInBounds_toArray, List.set_cons_succ, List.set_cons_zero]
            refine wpAnyX_take [16] (i := 16) (v := .pointer (some ⟨R, 0, none⟩)) rfl (by kernel_rfl) (by kernel_rfl) (by kernel_rfl) (by kernel_rfl) (by kernel_rfl) (by kernel_rfl) (fun _ _ _ h => h) (Or.inl ⟨by rfl, fun w' hw' => (by dsimp only at hw'; go_simp)⟩) c0 ?_
            simp only [List.getElem_toArray, List.getElem_cons_succ, List.getElem_cons_zero, Act.put, List.setIfInBounds_toArray, List.set_cons_succ, List.set_cons_zero]
            refine wpAnyX_take [17] (i := 17) (v := .slice (some ⟨g, 0, none⟩) M.length cap) rfl (by kernel_rfl) (by kernel_rfl) (by kernel_rfl) (by kernel_rfl) (by kernel_rfl) (by kernel_rfl) (fun _ _ _ h => h) (Or.inl ⟨by rfl, fun w' hw' => (by dsimp only at hw'; go_simp)⟩) c0 ?_
            simp only [List.getElem_toArray, List.getElem_cons_succ, List.getElem_cons_zero, Act.put, List.setIfInBounds_toArray, List.set_cons_succ, List.set_cons_zero]
            refine wpAnyX_take [18] (i := 18) (v := .int .i64 i) rfl (by kernel_rfl) (by kernel_rfl) (by kernel_rfl) (by kernel_rfl) (by kernel_rfl) (by kernel_rfl) (fun _ _ _ h => h) (Or.inl ⟨by rfl, fun w' hw' => (by dsimp only at hw'; go_simp)⟩) c0 ?_
            simp only [List.getElem_toArray, List.getElem_cons_succ, List.getElem_cons_zero, Act.put, List.setIfInBounds_toArray, List.set_cons_succ, List.set_cons_zero]
            refine wpAnyX_take [19] (i := 19) (v := .slice (some ⟨g, i * 2, none⟩) (M.length - i) (cap - i)) rfl (by kernel_rfl) (by kernel_rfl) (by kernel_rfl) (by kernel_rfl) (by kernel_rfl) (by kernel_rfl) (fun _ _ _ h => h) (Or.inl ⟨by rfl, fun w' hw' => (by dsimp only at hw'; go_simp)⟩) c0 ?_
            simp only [List.getElem_toArray, List.getElem_cons_succ, List.getElem_cons_zero, Act.put, List.setIfInBounds_toArray, List.set_cons_succ, List.set_cons_zero]
            refine wpAnyX_all (rs := [1, 12]) (by kernel_rfl) (by simp) (fun i hi => ?_)
            simp only [List.mem_cons, List.not_mem_nil, or_false] at hi
            rcases hi with rfl | rfl
            · refine wpOp_alloc (by rfl) (by rfl) (n := 0) (cs := #[]) (t := 32) (by go_simp) ?_
              intro wa1 ba1 gga1 oa1 la1 ha1
              have ga1 := g0.trans gga1
              have ca1 := ga1.cell hc (by simp)
              have ooa1 := Nat.le_trans g0.size oa1
              have ra1 := ownsRow_emptyN (size := 2) ooa1 ha1
              refine ⟨.inr ca1, ?_⟩
              simp only [List.getElem_toArray, List.getElem_cons_succ, List.getElem_cons_zero, Act.put, List.setIfInBounds_toArray, List.set_cons_succ, List.set_cons_zero]
              refine wpAnyX_all (rs := [8, 12]) (by kernel_rfl) (by simp) (fun i hi => ?_)
              simp only [List.mem_cons, List.not_mem_nil, or_false] at hi
              rcases hi with rfl | rfl
              · refine wpOp_append (by rfl) (by rfl) _ _ 22 (by rfl) wr.heap.size 32 i0 (.agg #[.int .i64 0, .int .i64 0]) 2 16 Try.underlying22 hi hz0 hz1 hz2 rfl (by decide) (.slice (some ⟨ba1, 0, none⟩) 0 0) (0) ([]) (by go_simp) ra1 ⟨g, 0, none⟩ (i) cap ((M.take i).flatMap encL) (by go_simp) (by rw [flatL_len]; simp; omega) (hnews1 _ ga1) (hone _) (by unfold maxLen; omega) (by omega) ga1.size  ?_
                intro vp2 wp2 ownp2 growp2 atp2
                have rp2 : wp2.ownsRow wr.heap.size 32 2 vp2 (0 + (i)) ((M.take i).flatMap encL) := own_conv ownp2 rfl (by simp)
                have gp2 := ga1.from (.of_rowX growp2) (fun x hx => .inr (ra1.lt x (by simpa using hx)).1)
                have cp2 := gp2.cell hc (by simp)
                clear ownp2
                refine ⟨.inr cp2, ?_⟩
                simp only [List.getElem_toArray, List.getElem_cons_succ, List.getElem_cons_zero, Act.put, List.setIfInBounds_toArray, List.set_cons_succ, List.set_cons_zero]
                refine wpAnyX_all (rs := [12]) (by kernel_rfl) (by simp) (fun i hi => ?_)
                simp only [List.mem_cons, List.not_mem_nil, or_false] at hi
                subst hi
                refine wpOp_alloc (by rfl) (by rfl) (n := 1) (cs := #[.int .i64 f, .int .i64 t]) (t := 32) (by go_simp) ?_
                intro wa3 ba3 gga3 oa3 la3 ha3
                have ga3 := gp2.trans gga3
                have ca3 := ga3.cell hc (by simp)
                have ooa3 := Nat.le_trans gp2.size oa3
                have ra3 := gga3.row rp2 (fun j hj => by simp)
                have xa3 := cells_of_block ha3
                refine ⟨.inr ca3, ?_⟩
                simp only [List.getElem_toArray, List.getElem_cons_succ, List.getElem_cons_zero, Act.put, List.setIfInBounds_toArray, List.set_cons_succ, List.set_cons_zero]
                refine wpAnyX_all (rs := [13]) (by kernel_rfl) (by simp) (fun i hi => ?_)
                simp only [List.mem_cons, List.not_mem_nil, or_false] at hi
                subst hi
                refine wpOp_appendF (by rfl) (by rfl) _ _ 22 (by rfl) wr.heap.size 32 i0 (.agg #[.int .i64 0, .int .i64 0]) 2 16 Try.underlying22 hi hz0 hz1 hz2 rfl (by decide) vp2 (0 + (i)) ((M.take i).flatMap encL) (by go_simp) ra3 ⟨ba3, 0, none⟩ (1) 1 ([.int .i64 f, .int .i64 t]) (by go_simp) rfl (fun j u hj => by rw [add_zeroX]; exact xa3 j u hj) (by simp [Value.oneCell']) (by unfold maxLen; omega) (by omega) ga3.size (by omega) ?_
                intro bp4 capp4 wp4 ownp4 roomp4 growp4
                have rp4 : wp4.ownsRow wr.heap.size 32 2 (.slice (some ⟨bp4, 0, none⟩) (0 + (i) + (1)) capp4) (0 + (i) + (1)) ((M.take i).flatMap encL ++ [.int .i64 f, .int .i64 t]) := own_conv ownp4 rfl (by simp)
                have gp4 := ga3.from (.of_rowX growp4) (fun x hx => .inr (ra3.lt x (by simpa using hx)).1)
                have cp4 := gp4.cell hc (by simp)
                clear ownp4
                refine ⟨.inr cp4, ?_⟩
                simp only [List.getElem_toArray, List.getElem_cons_succ, List.getElem_cons_zero, Act.put, List.setIfInBounds_toArray, List.set_cons_succ, List.set_cons_zero]
                refine wpAnyX_all (rs := [20]) (by kernel_rfl) (by simp) (fun i hi => ?_)
                simp only [List.mem_cons, List.not_mem_nil, or_false] at hi
                subst hi
                refine wpOp_appendF (by rfl) (by rfl) _ _ 22 (by rfl) wr.heap.size 32 i0 (.agg #[.int .i64 0, .int .i64 0]) 2 16 Try.underlying22 hi hz0 hz1 hz2 rfl (by decide) (.slice (some ⟨bp4, 0, none⟩) (0 + (i) + (1)) capp4) (0 + (i) + (1)) ((M.take i).flatMap encL ++ [.int .i64 f, .int .i64 t]) (by go_simp) rp4 ⟨g, i * 2, none⟩ (M.length - i) (cap - i) ((M.drop i).flatMap encL) (by go_simp) (by rw [flatL_len]; simp) (hnews2 _ gp4) (hone _) (by unfold maxLen; omega) (by omega) gp4.size (by omega) ?_
                intro bp5 capp5 wp5 ownp5 roomp5 growp5
                have rp5 : wp5.ownsRow wr.heap.size 32 2 (.slice (some ⟨bp5, 0, none⟩) (0 + (i) + (1) + (M.length - i)) capp5) (0 + (i) + (1) + (M.length - i)) ((M.take i).flatMap encL ++ [.int .i64 f, .int .i64 t] ++ (M.drop i).flatMap encL) := own_conv ownp5 rfl (by simp)
                have gp5 := gp4.from (.of_rowX growp5) (fun x hx => .inr (rp4.lt x (by simpa using hx)).1)
                have cp5 := gp5.cell hc (by simp)
                clear ownp5
                refine ⟨.inr cp5, ?_⟩
                simp only [List.getElem_toArray, List.getElem_cons_succ, List.getElem_cons_zero, Act.put, List.setIfInBounds_toArray, List.set_cons_succ, List.set_cons_zero]
                refine wpAnyX_take [22, 21] (i := 21) (v := .pointer (some ⟨R, 0, none⟩)) rfl (by kernel_rfl) (by kernel_rfl) (by kernel_rfl) (by kernel_rfl) (by kernel_rfl) (by kernel_rfl) (fun _ _ _ h => h) (Or.inl ⟨by rfl, fun w' hw' => (by dsimp only at hw'; go_simp)⟩) cp5 ?_
                simp only [List.getElem_toArray, List.getElem_cons_succ, List.getElem_cons_zero, Act.put, List.setIfInBounds_toArray, List.set_cons_succ, List.set_cons_zero]
                refine wpAnyX_take [22] (i := 22) (v := .pointer (some ⟨R, 0, none⟩)) rfl (by kernel_rfl) (by kernel_rfl) (by kernel_rfl) (by kernel_rfl) (by kernel_rfl) (by kernel_rfl) (fun _ _ _ h => h) (Or.inl ⟨by rfl, fun w' hw' => (by dsimp only at hw'; go_simp)⟩) cp5 ?_
                simp only [List.getElem_toArray, List.getElem_cons_succ, List.getElem_cons_zero, Act.put, List.setIfInBounds_toArray, List.set_cons_succ, List.set_cons_zero]
                refine wpAnyX_all (rs := [23]) (by kernel_rfl) (by simp) (fun i hi => ?_)
                simp only [List.mem_cons, List.not_mem_nil, or_false] at hi
                subst hi
                have f40 := gp5.frozen hRlt hfz (by simp)
                refine wpOp_skip (by rfl) (by rfl) (w' := wp5.setCell ⟨R, 0, none⟩ (.slice (some ⟨bp5, 0, none⟩) (0 + (i) + (1) + (M.length - i)) capp5)) (by go_simp) ?_
                refine ⟨.inl rfl, ?_⟩
                simp only [List.getElem_toArray, List.getElem_cons_succ, List.getElem_cons_zero, Act.put, List.setIfInBounds_toArray, List.set_cons_succ, List.set_cons_zero]
                refine wpAnyX_done (by kernel_rfl) ?_ _
                have hq := hQ0 ((.slice (some ⟨ba1, 0, none⟩) 0 0), vp2, (.slice (some ⟨ba3, 0, none⟩) 1 1), (.slice (some ⟨bp4, 0, none⟩) (0 + (i) + (1)) capp4), (.slice (some ⟨bp5, 0, none⟩) (0 + (i) + (1) + (M.length - i)) capp5)) _ ⟨bp5, capp5, wp5, rfl, rfl, gp5, rp5⟩
                simp only at hq
                exact hq
              · refine wpOp_alloc (by rfl) (by rfl) (n := 1) (cs := #[.int .i64 f, .int .i64 t]) (t := 32) (by go_simp) ?_
                intro wa2 ba2 gga2 oa2 la2 ha2
                have ga2 := ga1.trans gga2
                have ca2 := ga2.cell hc (by simp)
                have ooa2 := Nat.le_trans ga1.size oa2
                have ra2 := gga2.row ra1 (fun j hj => by simp)
                have xa2 := cells_of_block ha2
                have na2 : ba1 ≠ ba2 := by have := la1; omega
                refine ⟨.inr ca2, ?_⟩
                simp only [List.getElem_toArray, List.getElem_cons_succ, List.getElem_cons_zero, Act.put, List.setIfInBounds_toArray, List.set_cons_succ, List.set_cons_zero]
                refine wpAnyX_all (rs := [8]) (by kernel_rfl) (by simp) (fun i hi => ?_)
                simp only [List.mem_cons, List.not_mem_nil, or_false] at hi
                subst hi
                refine wpOp_append (by rfl) (by rfl) _ _ 22 (by rfl) wr.heap.size 32 i0 (.agg #[.int .i64 0, .int .i64 0]) 2 16 Try.underlying22 hi hz0 hz1 hz2 rfl (by decide) (.slice (some ⟨ba1, 0, none⟩) 0 0) (0) ([]) (by go_simp) ra2 ⟨g, 0, none⟩ (i) cap ((M.take i).flatMap encL) (by go_simp) (by rw [flatL_len]; simp; omega) (hnews1 _ ga2) (hone _) (by unfold maxLen; omega) (by omega) ga2.size  ?_
                intro vp3 wp3 ownp3 growp3 atp3
                have rp3 : wp3.ownsRow wr.heap.size 32 2 vp3 (0 + (i)) ((M.take i).flatMap encL) := own_conv ownp3 rfl (by simp)
                have gp3 := ga2.from (.of_rowX growp3) (fun x hx => .inr (ra2.lt x (by simpa using hx)).1)
                have cp3 := gp3.cell hc (by simp)
                have xp3 := fun j u hj => growp3.cell (xa2 j u hj) (by have h1 := na2; simp [Value.ownBlock]; omega)
                clear ownp3
                refine ⟨.inr cp3, ?_⟩
                simp only [List.getElem_toArray, List.getElem_cons_succ, List.getElem_cons_zero, Act.put, List.setIfInBounds_toArray, List.set_cons_succ, List.set_cons_zero]
                refine wpAnyX_all (rs := [13]) (by kernel_rfl) (by simp) (fun i hi => ?_)
                simp only [List.mem_cons, List.not_mem_nil, or_false] at hi
                subst hi
                refine wpOp_appendF (by rfl) (by rfl) _ _ 22 (by rfl) wr.heap.size 32 i0 (.agg #[.int .i64 0, .int .i64 0]) 2 16 Try.underlying22 hi hz0 hz1 hz2 rfl (by decide) vp3 (0 + (i)) ((M.take i).flatMap encL) (by go_simp) rp3 ⟨ba2, 0, none⟩ (1) 1 ([.int .i64 f, .int .i64 t]) (by go_simp) rfl (fun j u hj => by rw [add_zeroX]; exact xp3 j u hj) (by simp [Value.oneCell']) (by unfold maxLen; omega) (by omega) gp3.size (by omega) ?_
                intro bp4 capp4 wp4 ownp4 roomp4 growp4
                have rp4 : wp4.ownsRow wr.heap.size 32 2 (.slice (some ⟨bp4, 0, none⟩) (0 + (i) + (1)) capp4) (0 + (i) + (1)) ((M.take i).flatMap encL ++ [.int .i64 f, .int .i64 t]) := own_conv ownp4 rfl (by simp)
                have gp4 := gp3.from (.of_rowX growp4) (fun x hx => .inr (rp3.lt x (by simpa using hx)).1)
                have cp4 := gp4.cell hc (by simp)
                clear ownp4
                refine ⟨.inr cp4, ?_⟩
                simp only [List.getElem_toArray, List.getElem_cons_succ, List.getElem_cons_zero, Act.put, List.setIfInBounds_toArray, List.set_cons_succ, List.set_cons_zero]
                refine wpAnyX_all (rs := [20]) (by kernel_rfl) (by simp) (fun i hi => ?_)
                simp only [List.mem_cons, List.not_mem_nil, or_false] at hi
                subst hi
                refine wpOp_appendF (by rfl) (by rfl) _ _ 22 (by rfl) wr.heap.size 32 i0 (.agg #[.int .i64 0, .int .i64 0]) 2 16 Try.underlying22 hi hz0 hz1 hz2 rfl (by decide) (.slice (some ⟨bp4, 0, none⟩) (0 + (i) + (1)) capp4) (0 + (i) + (1)) ((M.take i).flatMap encL ++ [.int .i64 f, .int .i64 t]) (by go_simp) rp4 ⟨g, i * 2, none⟩ (M.length - i) (cap - i) ((M.drop i).flatMap encL) (by go_simp) (by rw [flatL_len]; simp) (hnews2 _ gp4) (hone _) (by unfold maxLen; omega) (by omega) gp4.size (by omega) ?_
                intro bp5 capp5 wp5 ownp5 roomp5 growp5
                have rp5 : wp5.ownsRow wr.heap.size 32 2 (.slice (some ⟨bp5, 0, none⟩) (0 + (i) + (1) + (M.length - i)) capp5) (0 + (i) + (1) + (M.length - i)) ((M.take i).flatMap encL ++ [.int .i64 f, .int .i64 t] ++ (M.drop i).flatMap encL) := own_conv ownp5 rfl (by simp)
                have gp5 := gp4.from (.of_rowX growp5) (fun x hx => .inr (rp4.lt x (by simpa using hx)).1)
                have cp5 := gp5.cell hc (by simp)
                clear ownp5
                refine ⟨.inr cp5, ?_⟩
                simp only [List.getElem_toArray, List.getElem_cons_succ, List.getElem_cons_zero, Act.put, List.setIfInBounds_toArray, List.set_cons_succ, List.set_cons_zero]
                refine wpAnyX_take [22, 21] (i := 21) (v := .pointer (some ⟨R, 0, none⟩)) rfl (by kernel_rfl) (by kernel_rfl) (by kernel_rfl) (by kernel_rfl) (by kernel_rfl) (by kernel_rfl) (fun _ _ _ h => h) (Or.inl ⟨by rfl, fun w' hw' => (by dsimp only at hw'; go_simp)⟩) cp5 ?_
                simp only [List.getElem_toArray, List.getElem_cons_succ, List.getElem_cons_zero, Act.put, List.setIfInBounds_toArray, List.set_cons_succ, List.set_cons_zero]
                refine wpAnyX_take [22] (i := 22) (v := .pointer (some ⟨R, 0, none⟩)) rfl (by kernel_rfl) (by kernel_rfl) (by kernel_rfl) (by kernel_rfl) (by kernel_rfl) (by kernel_rfl) (fun _ _ _ h => h) (Or.inl ⟨by rfl, fun w' hw' => (by dsimp only at hw'; go_simp)⟩) cp5 ?_
                simp only [List.getElem_toArray, List.getElem_cons_succ, List.getElem_cons_zero, Act.put, List.setIfInBounds_toArray, List.set_cons_succ, List.set_cons_zero]
                refine wpAnyX_all (rs := [23]) (by kernel_rfl) (by simp) (fun i hi => ?_)
                simp only [List.mem_cons, List.not_mem_nil, or_false] at hi
                subst hi
                have f40 := gp5.frozen hRlt hfz (by simp)
                refine wpOp_skip (by rfl) (by rfl) (w' := wp5.setCell ⟨R, 0, none⟩ (.slice (some ⟨bp5, 0, none⟩) (0 + (i) + (1) + (M.length - i)) capp5)) (by go_simp) ?_
                refine ⟨.inl rfl, ?_⟩
                simp only [List.getElem_toArray, List.getElem_cons_succ, List.getElem_cons_zero, Act.put, List.setIfInBounds_toArray, List.set_cons_succ, List.set_cons_zero]
                refine wpAnyX_done (by kernel_rfl) ?_ _
                have hq := hQ0 ((.slice (some ⟨ba1, 0, none⟩) 0 0), vp3, (.slice (some ⟨ba2, 0, none⟩) 1 1), (.slice (some ⟨bp4, 0, none⟩) (0 + (i) + (1)) capp4), (.slice (some ⟨bp5, 0, none⟩) (0 + (i) + (1) + (M.length - i)) capp5)) _ ⟨bp5, capp5, wp5, rfl, rfl, gp5, rp5⟩
                simp only at hq
                exact hq
            · refine wpOp_alloc (by rfl) (by rfl) (n := 1) (cs := #[.int .i64 f, .int .i64 t]) (t := 32) (by go_simp) ?_
              intro wa1 ba1 gga1 oa1 la1 ha1
              have ga1 := g0.trans gga1
              have ca1 := ga1.cell hc (by simp)
              have ooa1 := Nat.le_trans g0.size oa1
              have xa1 := cells_of_block ha1
              refine ⟨.inr ca1, ?_⟩
              simp only [List.getElem_toArray, List.getElem_cons_succ, List.getElem_cons_zero, Act.put, List.setIfInBounds_toArray, List.set_cons_succ, List.set_cons_zero]
              refine wpAnyX_all (rs := [1]) (by kernel_rfl) (by simp) (fun i hi => ?_)
              simp only [List.mem_cons, List.not_mem_nil, or_false] at hi
              subst hi
              refine wpOp_alloc (by rfl) (by rfl) (n := 0) (cs := #[]) (t := 32) (by go_simp) ?_
              intro wa2 ba2 gga2 oa2 la2 ha2
              have ga2 := ga1.trans gga2
              have ca2 := ga2.cell hc (by simp)
              have ooa2 := Nat.le_trans ga1.size oa2
              have ra2 := ownsRow_emptyN (size := 2) ooa2 ha2
              have xa2 := fun j u hj => gga2.cell (xa1 j u hj) (by simp)
              have na2 : ba1 ≠ ba2 := by have := la1; omega
              refine ⟨.inr ca2, ?_⟩
              simp only [List.getElem_toArray, List.getElem_cons_succ, List.getElem_cons_zero, Act.put, List.setIfInBounds_toArray, List.set_cons_succ, List.set_cons_zero]
              refine wpAnyX_all (rs := [8]) (by kernel_rfl) (by simp) (fun i hi => ?_)
              simp only [List.mem_cons, List.not_mem_nil, or_false] at hi
              subst hi
              refine wpOp_append (by rfl) (by rfl) _ _ 22 (by rfl) wr.heap.size 32 i0 (.agg #[.int .i64 0, .int .i64 0]) 2 16 Try.underlying22 hi hz0 hz1 hz2 rfl (by decide) (.slice (some ⟨ba2, 0, none⟩) 0 0) (0) ([]) (by go_simp) ra2 ⟨g, 0, none⟩ (i) cap ((M.take i).flatMap encL) (by go_simp) (by rw [flatL_len]; simp; omega) (hnews1 _ ga2) (hone _) (by unfold maxLen; omega) (by omega) ga2.size  ?_
              intro vp3 wp3 ownp3 growp3 atp3
              have rp3 : wp3.ownsRow wr.heap.size 32 2 vp3 (0 + (i)) ((M.take i).flatMap encL) := own_conv ownp3 rfl (by simp)
              have gp3 := ga2.from (.of_rowX growp3) (fun x hx => .inr (ra2.lt x (by simpa using hx)).1)
              have cp3 := gp3.cell hc (by simp)
              have xp3 := fun j u hj => growp3.cell (xa2 j u hj) (by have h1 := na2; simp [Value.ownBlock]; omega)
              clear ownp3
              refine ⟨.inr cp3, ?_⟩
              simp only [List.getElem_toArray, List.getElem_cons_succ, List.getElem_cons_zero, Act.put, List.setIfInBounds_toArray, List.set_cons_succ, List.set_cons_zero]
              refine wpAnyX_all (rs := [13]) (by kernel_rfl) (by simp) (fun i hi => ?_)
              simp only [List.mem_cons, List.not_mem_nil, or_false] at hi
              subst hi
              refine wpOp_appendF (by rfl) (by rfl) _ _ 22 (by rfl) wr.heap.size 32 i0 (.agg #[.int .i64 0, .int .i64 0]) 2 16 Try.underlying22 hi hz0 hz1 hz2 rfl (by decide) vp3 (0 + (i)) ((M.take i).flatMap encL) (by go_simp) rp3 ⟨ba1, 0, none⟩ (1) 1 ([.int .i64 f, .int .i64 t]) (by go_simp) rfl (fun j u hj => by rw [add_zeroX]; exact xp3 j u hj) (by simp [Value.oneCell']) (by unfold maxLen; omega) (by omega) gp3.size (by omega) ?_
              intro bp4 capp4 wp4 ownp4 roomp4 growp4
              have rp4 : wp4.ownsRow wr.heap.size 32 2 (.slice (some ⟨bp4, 0, none⟩) (0 + (i) + (1)) capp4) (0 + (i) + (1)) ((M.take i).flatMap encL ++ [.int .i64 f, .int .i64 t]) := own_conv ownp4 rfl (by simp)
              have gp4 := gp3.from (.of_rowX growp4) (fun x hx => .inr (rp3.lt x (by simpa using hx)).1)
              have cp4 := gp4.cell hc (by simp)
              clear ownp4
              refine ⟨.inr cp4, ?_⟩
              simp only [List.getElem_toArray, List.getElem_cons_succ, List.getElem_cons_zero, Act.put, List.setIfInBounds_toArray, List.set_cons_succ, List.set_cons_zero]
              refine wpAnyX_all (rs := [20]) (by kernel_rfl) (by simp) (fun i hi => ?_)
              simp only [List.mem_cons, List.not_mem_nil, or_false] at hi
              subst hi
              refine wpOp_appendF (by rfl) (by rfl) _ _ 22 (by rfl) wr.heap.size 32 i0 (.agg #[.int .i64 0, .int .i64 0]) 2 16 Try.underlying22 hi hz0 hz1 hz2 rfl (by decide) (.slice (some ⟨bp4, 0, none⟩) (0 + (i) + (1)) capp4) (0 + (i) + (1)) ((M.take i).flatMap encL ++ [.int .i64 f, .int .i64 t]) (by go_simp) rp4 ⟨g, i * 2, none⟩ (M.length - i) (cap - i) ((M.drop i).flatMap encL) (by go_simp) (by rw [flatL_len]; simp) (hnews2 _ gp4) (hone _) (by unfold maxLen; omega) (by omega) gp4.size (by omega) ?_
              intro bp5 capp5 wp5 ownp5 roomp5 growp5
              have rp5 : wp5.ownsRow wr.heap.size 32 2 (.slice (some ⟨bp5, 0, none⟩) (0 + (i) + (1) + (M.length - i)) capp5) (0 + (i) + (1) + (M.length - i)) ((M.take i).flatMap encL ++ [.int .i64 f, .int .i64 t] ++ (M.drop i).flatMap encL) := own_conv ownp5 rfl (by simp)
              have gp5 := gp4.from (.of_rowX growp5) (fun x hx => .inr (rp4.lt x (by simpa using hx)).1)
              have cp5 := gp5.cell hc (by simp)
              clear ownp5
              refine ⟨.inr cp5, ?_⟩
              simp only [List.getElem_toArray, List.getElem_cons_succ, List.getElem_cons_zero, Act.put, List.setIfInBounds_toArray, List.set_cons_succ, List.set_cons_zero]
              refine wpAnyX_take [22, 21] (i := 21) (v := .pointer (some ⟨R, 0, none⟩)) rfl (by kernel_rfl) (by kernel_rfl) (by kernel_rfl) (by kernel_rfl) (by kernel_rfl) (by kernel_rfl) (fun _ _ _ h => h) (Or.inl ⟨by rfl, fun w' hw' => (by dsimp only at hw'; go_simp)⟩) cp5 ?_
              simp only [List.getElem_toArray, List.getElem_cons_succ, List.getElem_cons_zero, Act.put, List.setIfInBounds_toArray, List.set_cons_succ, List.set_cons_zero]
              refine wpAnyX_take [22] (i := 22) (v := .pointer (some ⟨R, 0, none⟩)) rfl (by kernel_rfl) (by kernel_rfl) (by kernel_rfl) (by kernel_rfl) (by kernel_rfl) (by kernel_rfl) (fun _ _ _ h => h) (Or.inl ⟨by rfl, fun w' hw' => (by dsimp only at hw'; go_simp)⟩) cp5 ?_
              simp only [List.getElem_toArray, List.getElem_cons_succ, List.getElem_cons_zero, Act.put, List.setIfInBounds_toArray, List.set_cons_succ, List.set_cons_zero]
              refine wpAnyX_all (rs := [23]) (by kernel_rfl) (by simp) (fun i hi => ?_)
              simp only [List.mem_cons, List.not_mem_nil, or_false] at hi
              subst hi
              have f40 := gp5.frozen hRlt hfz (by simp)
              refine wpOp_skip (by rfl) (by rfl) (w' := wp5.setCell ⟨R, 0, none⟩ (.slice (some ⟨bp5, 0, none⟩) (0 + (i) + (1) + (M.length - i)) capp5)) (by go_simp) ?_
              refine ⟨.inl rfl, ?_⟩
              simp only [List.getElem_toArray, List.getElem_cons_succ, List.getElem_cons_zero, Act.put, List.setIfInBounds_toArray, List.set_cons_succ, List.set_cons_zero]
              refine wpAnyX_done (by kernel_rfl) ?_ _
              have hq := hQ0 ((.slice (some ⟨ba2, 0, none⟩) 0 0), vp3, (.slice (some ⟨ba1, 0, none⟩) 1 1), (.slice (some ⟨bp4, 0, none⟩) (0 + (i) + (1)) capp4), (.slice (some ⟨bp5, 0, none⟩) (0 + (i) + (1) + (M.length - i)) capp5)) _ ⟨bp5, capp5, wp5, rfl, rfl, gp5, rp5⟩
              simp only at hq
              exact hq
          rintro ⟨v62, v69, v73, v74, v81⟩ w' ⟨g5, cap5, w40, hv, hw', g40, own40⟩
          have e0 : 0 + (i) + (1) + (M.length - i) = i + (M.length - i + 1) := by omega
          rw [e0] at own40 hv hw'
          clear e0
          have e1 : i + (M.length - i + 1) = (M.take i ++ (f, t) :: M.drop i).length := by simp; omega
          have e2 : ((M.take i).flatMap encL ++ [.int .i64 f, .int .i64 t] ++ (M.drop i).flatMap encL : List Value) = (M.take i ++ (f, t) :: M.drop i).flatMap encL := by
            simp [encL]
          rw [hw']
          clear hw' w'
          simp only at hv
          subst hv
          simp only [List.getElem_toArray, List.getElem_cons_succ, List.getElem_cons_zero, Act.put, List.setIfInBounds_toArray, List.set_cons_succ, List.set_cons_zero]
          go_wp2_with go_in
          go_ret
          exact RC.fin h hb0 pins rins g40 (own_conv own40 e1 e2)

end Go.Proofs.Ytlgfopfibopcnaa
