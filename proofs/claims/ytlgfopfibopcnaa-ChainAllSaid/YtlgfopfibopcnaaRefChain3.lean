/-
  The reference's chain: Answer.
-/
import Derived.Test.YtlgfopfibopcnaaRefChain2
import Derived.Laws.BitsLemmas
namespace Go.Proofs.Ytlgfopfibopcnaa
open Go Go.RowKit Go.Maps Go.Sort
set_option linter.unusedVariables false

theorem cut_mid {M : List (Int × Int)} (hn : (M.map Prod.snd).Nodup) {i : Nat} (hi : i < M.length) {a : Int} (he : (M[i]).2 = a) : M.take i ++ M.drop (i + 1) = cutTo M a := by
  have e : M = M.take i ++ M[i] :: M.drop (i + 1) := by rw [List.getElem_cons_drop, List.take_append_drop]
  have h1 : ∀ p ∈ M.take i, p.2 ≠ a := fun p hp hpa => by
    obtain ⟨j, hj, rfl⟩ := List.getElem_of_mem hp
    rw [List.getElem_take] at hpa
    simp at hj
    exact List.pairwise_iff_getElem.1 hn j i (by simp; omega) (by simpa using hi) (by omega) (by simp [hpa, he])
  have h2 : ∀ p ∈ M.drop (i + 1), p.2 ≠ a := fun p hp hpa => by
    obtain ⟨j, hj, rfl⟩ := List.getElem_of_mem hp
    rw [List.getElem_drop] at hpa
    simp at hj
    exact List.pairwise_iff_getElem.1 hn i (i + 1 + j) (by simpa using hi) (by simp; omega) (by omega) (by simp [hpa, he])
  unfold cutTo
  conv => rhs; rw [e]
  rw [List.filter_append, List.filter_cons]
  rw [List.filter_eq_self.2 (fun p hp => by simpa using h1 p hp), List.filter_eq_self.2 (fun p hp => by simpa using h2 p hp)]
  simp [he]

set_option maxRecDepth 100000 in
set_option maxHeartbeats 4000000 in
theorem ranswer_none (base R : Nat) (M : List (Int × Int)) (a : Int) (w : World) (h : RChainAt w base R M) (hm : a ∉ M.map Prod.snd) :
    Calls Try.prog 42 #[.pointer (some ⟨R, 0, none⟩), .int .i64 a] w fun r w' => r = .returned (.tuple #[.int .i64 0, .bool false]) ∧ w' = w := by
  obtain ⟨q, cap, hc, hrow, hcap, hcm, hf⟩ := h.form
  clear hrow
  go_enter Try.func42, Try.ntmps42
  go_wp2_with go_in
  go_loopw [6] (fun v6 wr => ∃ i : Nat, v6 = .int .i64 i ∧ i ≤ M.length ∧ wr = w) (fun v6 _ => M.length - (match v6 with | .int _ k => k.toNat | _ => 0))
  case atStart => exact ⟨0, rfl, by omega, rfl⟩
  case round =>
    obtain ⟨i, rfl, hi, rfl⟩ := hrel
    have hbig : (M.length : Int) ≤ 9223372036854775807 := by unfold maxLen at hcm; omega
    by_cases hlt : i < M.length
    · obtain ⟨g, rfl, hb, hgl, hcells⟩ : ∃ g, q = some ⟨g, 0, none⟩ ∧ base ≤ g ∧ g < wr.heap.size ∧ ∀ i (hi : i < M.length), wr.cell? ⟨g, i * 2, none⟩ = some (.int .i64 (M[i]).1) ∧ wr.cell? ⟨g, i * 2 + 1, none⟩ = some (.int .i64 (M[i]).2) := by
        rcases hf with ⟨rfl, _⟩ | h1
        · simp at hlt
        · exact h1
      have hxy := hcells i hlt
      have he : ¬ (M[i]).2 = a := fun e => hm (List.mem_map.2 ⟨_, List.getElem_mem hlt, e⟩)
      have hlt' : (i : Int) < (M.length : Int) := by omega
      generalize (M[i]).2 = y at hxy he
      generalize (M[i]).1 = x at hxy
      obtain ⟨hx, hy⟩ := hxy
      clear hcells hf
      go_wp2_with go_in
      exact ⟨⟨i + 1, by simp, by omega, trivial⟩, by simp; omega⟩
    · have hge : ¬ (i : Int) < (M.length : Int) := by omega
      clear hf
      go_wp2_with go_in
      go_ret2
      exact ⟨rfl, rfl⟩

set_option maxRecDepth 1000000 in
set_option maxHeartbeats 4000000 in
set_option linter.unusedSimpArgs false in
theorem ranswer_some (base R : Nat) (M : List (Int × Int)) (a b : Int) (w : World) (h : RChainAt w base R M) (hn : (M.map Prod.snd).Nodup) (hm : (b, a) ∈ M) (hM : M.length ≤ 1000) (hb0 : base ≤ w.heap.size) :
    Calls Try.prog 42 #[.pointer (some ⟨R, 0, none⟩), .int .i64 a] w fun r w' => r = .returned (.tuple #[.int .i64 b, .bool true]) ∧ RChainAt w' base R (cutTo M a) ∧ GrowBut w w' [R] := by
  obtain ⟨i0, hi, hz0, hz1, hz2⟩ := info_parts infoL
  have hfz := h.fz
  have hRlt := h.lt
  obtain ⟨q, cap, hc, hrow, hcap, hcm, hf⟩ := h.form
  have hlenI : (M.length : Int) ≤ 1000 := by omega
  go_enter Try.func42, Try.ntmps42
  go_wp2_with go_in
  go_loopw [6] (fun v6 wy => ∃ i : Nat, v6 = .int .i64 i ∧ i ≤ M.length ∧ (∀ j (hj : j < M.length), j < i → (M[j]).2 ≠ a) ∧ wy = w) (fun v6 _ => M.length - (match v6 with | .int _ k => k.toNat | _ => 0))
  case atStart => exact ⟨0, rfl, by omega, fun j hj h0 => by omega, rfl⟩
  case round =>
    obtain ⟨i, rfl, hiL, hbef, hwy⟩ := hrel
    subst hwy
    by_cases hlt : i < M.length
    · obtain ⟨g, rfl, hbg, hgl, hcells⟩ : ∃ g, q = some ⟨g, 0, none⟩ ∧ base ≤ g ∧ g < wr.heap.size ∧ ∀ i (hi : i < M.length), wr.cell? ⟨g, i * 2, none⟩ = some (.int .i64 (M[i]).1) ∧ wr.cell? ⟨g, i * 2 + 1, none⟩ = some (.int .i64 (M[i]).2) := by
        rcases hf with ⟨rfl, _⟩ | h1
        · simp at hlt
        · exact h1
      have hflat := row_flat hrow
      have hxy := hcells i hlt
      have hmi : M[i] ∈ M := List.getElem_mem hlt
      have hlt' : (i : Int) < (M.length : Int) := by omega
      by_cases he : (M[i]).2 = a
      · have hb2 : (M[i]).1 = b := fst_one (L := back M) (by rw [back_fst]; exact hn) (a := a) (mem_back.2 (by rw [← he]; exact hmi)) (mem_back.2 hm)
        have hcut : ∀ X, X = M.take i ++ M.drop (i + 1) → X = cutTo M a := fun X hX => hX.trans (cut_mid hn hlt he)
        rw [he, hb2] at hxy
        obtain ⟨hx, hy⟩ := hxy
        clear hcells hbef hf hmi hb2 he
        have hcapI : (cap : Int) ≤ 9223372036854775807 := by unfold maxLen at hcm; omega
        have hlc : (M.length : Int) ≤ (cap : Int) := by omega
        have hi2 : (i : Int) + 1 ≤ (M.length : Int) := by omega
        have hi3 : (i : Int) + 1 ≤ (cap : Int) := by omega
        have hnews1 : ∀ W, GrowBut wr W [] → ∀ j u, ((M.take i).flatMap encL)[j]? = some u → W.cell? (Addr.add ⟨g, 0, none⟩ j) = some u := fun W hW j u hj => by
          rw [add_zeroX]
          exact hW.cell (hflat j u (flat_take M i hj)) (by simp)
        have hnews2 : ∀ W, GrowBut wr W [] → ∀ j u, ((M.drop (i + 1)).flatMap encL)[j]? = some u → W.cell? (Addr.add ⟨g, (i + 1) * 2, none⟩ j) = some u := fun W hW j u hj => by
          have e1 : (Addr.add ⟨g, (i + 1) * 2, none⟩ j) = ⟨g, (i + 1) * 2 + j, none⟩ := by unfold Addr.add; split <;> simp_all
          rw [e1]
          exact hW.cell (hflat _ u (flat_drop M hlt hj)) (by simp)
        have hone : ∀ (l : List (Int × Int)) (u : Value), u ∈ l.flatMap encL → u.oneCell' = true := fun l u hu => by
          obtain ⟨a, _, ha⟩ := List.mem_flatMap.1 hu
          simp [encL] at ha
          rcases ha with rfl | rfl <;> rfl
        clear hflat
        have hw1 : IntKind.i64.wrap ((i : Int) + 1) = (i : Int) + 1 := by rw [IntKind.wrap_i64]; omega
        have hf1 : ¬ ((i : Int) + 1 < (i : Int)) := by omega
        have hf2 : ¬ ((i : Int) + 1 < 0) := by omega
        have hf3 : ¬ ((M.length : Int) < (i : Int) + 1) := by omega
        have hf4 : ¬ (cap < M.length) := by omega
        have hf5 : ¬ (M.length < i + 1) := by omega
        have hf6 : ¬ (cap < i) := by omega
        have hf7 : ¬ ((cap : Int) < (M.length : Int)) := by omega
        have hf8 : ¬ ((cap : Int) < (i : Int)) := by omega
        have hci : cap = i + 1 ∨ ¬ cap = i + 1 := by omega
        rcases hci with hci | hci
        · subst hci
          go_upto_region 6 with go_in
          refine wp_viaE (ι := Value × Value × Value) (fun x w' => ∃ g5 cap5 w40, x.2.2 = (.slice (some ⟨g5, 0, none⟩) (0 + (i) + (0)) cap5) ∧ w' = w40.setCell ⟨R, 0, none⟩ (.slice (some ⟨g5, 0, none⟩) (0 + (i) + (0)) cap5) ∧ GrowBut wr w40 [] ∧ w40.ownsRow wr.heap.size 32 2 (.slice (some ⟨g5, 0, none⟩) (0 + (i) + (0)) cap5) (0 + (i) + (0)) ((M.take i).flatMap encL)) (fun x a => (((((((((((((((((((a.put (some 35) (.pointer (some ⟨R, 0, none⟩))).put (some 36) (x.1)).put (some 37) (.pointer (some ⟨R, 0, none⟩))).put (some 38) (.pointer (some ⟨R, 0, none⟩))).put (some 39) (.pointer (some ⟨R, 0, none⟩))).put (some 40) (.slice (some ⟨g, 0, none⟩) M.length (i + 1))).put (some 41) (.int .i64 i)).put (some 42) (.slice (some ⟨g, 0, none⟩) i (i + 1))).put (some 43) (x.2.1)).put (some 44) (.pointer (some ⟨R, 0, none⟩))).put (some 45) (.pointer (some ⟨R, 0, none⟩))).put (some 46) (.pointer (some ⟨R, 0, none⟩))).put (some 47) (.slice (some ⟨g, 0, none⟩) M.length (i + 1))).put (some 48) (.int .i64 i)).put (some 49) (.int .i64 ((i : Int) + 1))).put (some 50) (.slice (some ⟨g, 0, none⟩) 0 0)).put (some 51) (x.2.2)).put (some 52) (.pointer (some ⟨R, 0, none⟩))).put (some 53) (.pointer (some ⟨R, 0, none⟩)))) ?_ ?_
          · intro Q0 hQ0
            simp only [List.getElem_toArray, List.getElem_cons_succ, List.getElem_cons_zero, Act.put, List.setIfInBounds_toArray, List.set_cons_succ, List.set_cons_zero] at hQ0
            refine wp_region_X 19 (fun w' => w'.cell? ⟨R, 0, none⟩ = some (.slice (some ⟨g, 0, none⟩) M.length (i + 1))) (by kernel_rfl) ?_
            have g0 : GrowBut wr wr.drew [] := GrowBut.drew _ _
            have c0 := g0.cell hc (by simp)
            have s0 := g0.size
            generalize wr.drew = w0 at g0 c0 s0 ⊢
            refine wpAnyX_take [0] (i := 0) (v := .pointer (some ⟨R, 0, none⟩)) rfl (by kernel_rfl) (by kernel_rfl) (by kernel_rfl) (by kernel_rfl) (by kernel_rfl) (by kernel_rfl) (fun _ _ _ h => h) (Or.inl ⟨by rfl, fun w' hw' => (by dsimp only at hw'; go_simp)⟩) c0 ?_
            simp only [List.getElem_toArray, List.getElem_cons_succ, List.getElem_cons_zero, Act.put, List.setIfInBounds_toArray, List.set_cons_succ, List.set_cons_zero]
            refine wpAnyX_take [2] (i := 2) (v := .pointer (some ⟨R, 0, none⟩)) rfl (by kernel_rfl) (by kernel_rfl) (by kernel_rfl) (by kernel_rfl) (by kernel_rfl) (by kernel_rfl) (fun _ _ _ h => h) (Or.inl ⟨by rfl, fun w' hw' => (by dsimp only at hw'; go_simp)⟩) c0 ?_
            simp only [List.getElem_toArray, List.getElem_cons_succ, List.getElem_cons_zero, Act.put, List.setIfInBounds_toArray, List.set_cons_succ, List.set_cons_zero]
            refine wpAnyX_take [3] (i := 3) (v := .pointer (some ⟨R, 0, none⟩)) rfl (by kernel_rfl) (by kernel_rfl) (by kernel_rfl) (by kernel_rfl) (by kernel_rfl) (by kernel_rfl) (fun _ _ _ h => h) (Or.inl ⟨by rfl, fun w' hw' => (by dsimp only at hw'; go_simp)⟩) c0 ?_
            simp only [List.getElem_toArray, List.getElem_cons_succ, List.getElem_cons_zero, Act.put, List.setIfInBounds_toArray, List.set_cons_succ, List.set_cons_zero]
            refine wpAnyX_take [4] (i := 4) (v := .pointer (some ⟨R, 0, none⟩)) rfl (by kernel_rfl) (by kernel_rfl) (by kernel_rfl) (by kernel_rfl) (by kernel_rfl) (by kernel_rfl) (fun _ _ _ h => h) (Or.inl ⟨by rfl, fun w' hw' => (by dsimp only at hw'; go_simp)⟩) c0 ?_
            simp only [List.getElem_toArray, List.getElem_cons_succ, List.getElem_cons_zero, Act.put, List.setIfInBounds_toArray, List.set_cons_succ, List.set_cons_zero]
            refine wpAnyX_take [5] (i := 5) (v := .slice (some ⟨g, 0, none⟩) M.length (i + 1)) rfl (by kernel_rfl) (by kernel_rfl) (by kernel_rfl) (by kernel_rfl) (by kernel_rfl) (by kernel_rfl) (fun _ _ _ h => h) (Or.inl ⟨by rfl, fun w' hw' => (by dsimp only at hw'; go_simp)⟩) c0 ?_
            simp only [List.getElem_toArray, List.getElem_cons_succ, List.getElem_cons_zero, Act.put, List.setIfInBounds_toArray, List.set_cons_succ, List.set_cons_zero]
            refine wpAnyX_take [6] (i := 6) (v := .int .i64 i) rfl (by kernel_rfl) (by kernel_rfl) (by kernel_rfl) (by kernel_rfl) (by kernel_rfl) (by kernel_rfl) (fun _ _ _ h => h) (Or.inl ⟨by rfl, fun w' hw' => (by dsimp only at hw'; go_simp)⟩) c0 ?_
            simp only [List.getElem_toArray, List.getElem_cons_succ, List.getElem_cons_zero, Act.put, List.setIfInBounds_toArray, List.set_cons_succ, List.set_cons_zero]
            refine wpAnyX_take [7] (i := 7) (v := .slice (some ⟨g, 0, none⟩) i (i + 1)) rfl (by kernel_rfl) (by kernel_rfl) (by kernel_rfl) (by kernel_rfl) (by kernel_rfl) (by kernel_rfl) (fun _ _ _ h => h) (Or.inl ⟨by rfl, fun w' hw' => (by dsimp only at hw'; go_simp)⟩) c0 ?_
            simp only [List.getElem_toArray, List.getElem_cons_succ, List.getElem_cons_zero, Act.put, List.setIfInBounds_toArray, List.set_cons_succ, List.set_cons_zero]
            refine wpAnyX_take [9] (i := 9) (v := .pointer (some ⟨R, 0, none⟩)) rfl (by kernel_rfl) (by kernel_rfl) (by kernel_rfl) (by kernel_rfl) (by kernel_rfl) (by kernel_rfl) (fun _ _ _ h => h) (Or.inl ⟨by rfl, fun w' hw' => (by dsimp only at hw'; go_simp)⟩) c0 ?_
            simp only [List.getElem_toArray, List.getElem_cons_succ, List.getElem_cons_zero, Act.put, List.setIfInBounds_toArray, List.set_cons_succ, List.set_cons_zero]
            refine wpAnyX_take [10] (i := 10) (v := .pointer (some ⟨R, 0, none⟩)) rfl (by kernel_rfl) (by kernel_rfl) (by kernel_rfl) (by kernel_rfl) (by kernel_rfl) (by kernel_rfl) (fun _ _ _ h => h) (Or.inl ⟨by rfl, fun w' hw' => (by dsimp only at hw'; go_simp)⟩) c0 ?_
            simp only [List.getElem_toArray, List.getElem_cons_succ, List.getElem_cons_zero, Act.put, List.setIfInBounds_toArray, List.set_cons_succ, List.set_cons_zero]
            refine wpAnyX_take [11] (i := 11) (v := .pointer (some ⟨R, 0, none⟩)) rfl (by kernel_rfl) (by kernel_rfl) (by kernel_rfl) (by kernel_rfl) (by kernel_rfl) (by kernel_rfl) (fun _ _ _ h => h) (Or.inl ⟨by rfl, fun w' hw' => (by dsimp only at hw'; go_simp)⟩) c0 ?_
            simp only [List.getElem_toArray, List.getElem_cons_succ, List.getElem_cons_zero, Act.put, List.setIfInBounds_toArray, List.set_cons_succ, List.set_cons_zero]
            refine wpAnyX_take [12] (i := 12) (v := .slice (some ⟨g, 0, none⟩) M.length (i + 1)) rfl (by kernel_rfl) (by kernel_rfl) (by kernel_rfl) (by kernel_rfl) (by kernel_rfl) (by kernel_rfl) (fun _ _ _ h => h) (Or.inl ⟨by rfl, fun w' hw' => (by dsimp only at hw'; go_simp)⟩) c0 ?_
            simp only [List.getElem_toArray, List.getElem_cons_succ, List.getElem_cons_zero, Act.put, List.setIfInBounds_toArray, List.set_cons_succ, List.set_cons_zero]
            refine wpAnyX_take [13] (i := 13) (v := .int .i64 i) rfl (by kernel_rfl) (by kernel_rfl) (by kernel_rfl) (by kernel_rfl) (by kernel_rfl) (by kernel_rfl) (fun _ _ _ h => h) (Or.inl ⟨by rfl, fun w' hw' => (by dsimp only at hw'; go_simp)⟩) c0 ?_
            simp only [List.getElem_toArray, List.getElem_cons_succ, List.getElem_cons_zero, Act.put, List.setIfInBounds_toArray, List.set_cons_succ, List.set_cons_zero]
            refine wpAnyX_take [14] (i := 14) (v := .int .i64 ((i : Int) + 1)) rfl (by kernel_rfl) (by kernel_rfl) (by kernel_rfl) (by kernel_rfl) (by kernel_rfl) (by kernel_rfl) (fun _ _ _ h => h) (Or.inl ⟨by rfl, fun w' hw' => (by dsimp only at hw'; go_simp)⟩) c0 ?_
            simp only [List.getElem_toArray, List.getElem_cons_succ, List.getElem_cons_zero, Act.put, List.setIfInBounds_toArray, List.set_cons_succ, List.set_cons_zero]
            refine wpAnyX_take [15] (i := 15) (v := .slice (some ⟨g, 0, none⟩) 0 0) rfl (by kernel_rfl) (by kernel_rfl) (by kernel_rfl) (by kernel_rfl) (by kernel_rfl) (by kernel_rfl) (fun _ _ _ h => h) (Or.inl ⟨by rfl, fun w' hw' => (by dsimp only at hw'; go_simp)⟩) c0 ?_
            simp only [List.getElem_toArray, List.getElem_cons_succ, List.getElem_cons_zero, Act.put, List.setIfInBounds_toArray, List.set_cons_succ, List.set_cons_zero]
            refine wpAnyX_all (rs := [1]) (by kernel_rfl) (by simp) (fun i2 hi2 => ?_)
            simp only [List.mem_cons, List.not_mem_nil, or_false] at hi2
            subst hi2
            refine wpOp_alloc (by rfl) (by rfl) (n := 0) (cs := #[]) (t := 32) (by go_simp) ?_
            intro wa1 ba1 gga1 oa1 la1 ha1
            have ga1 := g0.trans gga1
            have ca1 := ga1.cell hc (by simp)
            have ooa1 := Nat.le_trans g0.size oa1
            have ra1 := ownsRow_emptyN (size := 2) ooa1 ha1
            refine ⟨.inr ca1, ?_⟩
            simp only [List.getElem_toArray, List.getElem_cons_succ, List.getElem_cons_zero, Act.put, List.setIfInBounds_toArray, List.set_cons_succ, List.set_cons_zero]
            refine wpAnyX_all (rs := [8]) (by kernel_rfl) (by simp) (fun i2 hi2 => ?_)
            simp only [List.mem_cons, List.not_mem_nil, or_false] at hi2
            subst hi2
            refine wpOp_appendN (by rfl) (by rfl) _ _ 22 (by rfl) wr.heap.size 32 i0 (.agg #[.int .i64 0, .int .i64 0]) 2 16 Try.underlying22 hi hz0 hz1 hz2 rfl (by decide) (.slice (some ⟨ba1, 0, none⟩) 0 0) (0) ([]) (by go_simp) ra1 ⟨g, 0, none⟩ (i) (i + 1) ((M.take i).flatMap encL) (by go_simp) (by rw [flatL_len]; simp; omega) (hnews1 _ ga1) (hone _) (by unfold maxLen; omega) (by omega) ga1.size (fun e => by cases e) ?_
            intro bp2 capp2 wp2 ownp2 roomp2 growp2
            have rp2 : wp2.ownsRow wr.heap.size 32 2 (.slice (some ⟨bp2, 0, none⟩) (0 + (i)) capp2) (0 + (i)) ((M.take i).flatMap encL) := own_conv ownp2 rfl (by simp)
            have gp2 := ga1.from (.of_rowX growp2) (fun x hx => .inr (ra1.lt x (by simpa using hx)).1)
            have cp2 := gp2.cell hc (by simp)
            clear ownp2
            refine ⟨.inr cp2, ?_⟩
            simp only [List.getElem_toArray, List.getElem_cons_succ, List.getElem_cons_zero, Act.put, List.setIfInBounds_toArray, List.set_cons_succ, List.set_cons_zero]
            refine wpAnyX_all (rs := [16]) (by kernel_rfl) (by simp) (fun i2 hi2 => ?_)
            simp only [List.mem_cons, List.not_mem_nil, or_false] at hi2
            subst hi2
            refine wpOp_appendN (by rfl) (by rfl) _ _ 22 (by rfl) wr.heap.size 32 i0 (.agg #[.int .i64 0, .int .i64 0]) 2 16 Try.underlying22 hi hz0 hz1 hz2 rfl (by decide) (.slice (some ⟨bp2, 0, none⟩) (0 + (i)) capp2) (0 + (i)) ((M.take i).flatMap encL) (by go_simp) rp2 ⟨g, 0, none⟩ (0) 0 ([]) (by go_simp) rfl (fun j u hj => by simp at hj) (fun u hu => by cases hu) (by unfold maxLen; omega) (by omega) gp2.size (fun e => by cases e) ?_
            intro bp3 capp3 wp3 ownp3 roomp3 growp3
            have rp3 : wp3.ownsRow wr.heap.size 32 2 (.slice (some ⟨bp3, 0, none⟩) (0 + (i) + (0)) capp3) (0 + (i) + (0)) ((M.take i).flatMap encL) := own_conv ownp3 rfl (by simp)
            have gp3 := gp2.from (.of_rowX growp3) (fun x hx => .inr (rp2.lt x (by simpa using hx)).1)
            have cp3 := gp3.cell hc (by simp)
            clear ownp3
            refine ⟨.inr cp3, ?_⟩
            simp only [List.getElem_toArray, List.getElem_cons_succ, List.getElem_cons_zero, Act.put, List.setIfInBounds_toArray, List.set_cons_succ, List.set_cons_zero]
            refine wpAnyX_take [18, 17] (i := 17) (v := .pointer (some ⟨R, 0, none⟩)) rfl (by kernel_rfl) (by kernel_rfl) (by kernel_rfl) (by kernel_rfl) (by kernel_rfl) (by kernel_rfl) (fun _ _ _ h => h) (Or.inl ⟨by rfl, fun w' hw' => (by dsimp only at hw'; go_simp)⟩) cp3 ?_
            simp only [List.getElem_toArray, List.getElem_cons_succ, List.getElem_cons_zero, Act.put, List.setIfInBounds_toArray, List.set_cons_succ, List.set_cons_zero]
            refine wpAnyX_take [18] (i := 18) (v := .pointer (some ⟨R, 0, none⟩)) rfl (by kernel_rfl) (by kernel_rfl) (by kernel_rfl) (by kernel_rfl) (by kernel_rfl) (by kernel_rfl) (fun _ _ _ h => h) (Or.inl ⟨by rfl, fun w' hw' => (by dsimp only at hw'; go_simp)⟩) cp3 ?_
            simp only [List.getElem_toArray, List.getElem_cons_succ, List.getElem_cons_zero, Act.put, List.setIfInBounds_toArray, List.set_cons_succ, List.set_cons_zero]
            refine wpAnyX_all (rs := [19]) (by kernel_rfl) (by simp) (fun i2 hi2 => ?_)
            simp only [List.mem_cons, List.not_mem_nil, or_false] at hi2
            subst hi2
            have f40 := gp3.frozen hRlt hfz (by simp)
            refine wpOp_skip (by rfl) (by rfl) (w' := wp3.setCell ⟨R, 0, none⟩ (.slice (some ⟨bp3, 0, none⟩) (0 + (i) + (0)) capp3)) (by go_simp) ?_
            refine ⟨.inl rfl, ?_⟩
            simp only [List.getElem_toArray, List.getElem_cons_succ, List.getElem_cons_zero, Act.put, List.setIfInBounds_toArray, List.set_cons_succ, List.set_cons_zero]
            refine wpAnyX_done (by kernel_rfl) ?_ _
            have hq := hQ0 ((.slice (some ⟨ba1, 0, none⟩) 0 0), (.slice (some ⟨bp2, 0, none⟩) (0 + (i)) capp2), (.slice (some ⟨bp3, 0, none⟩) (0 + (i) + (0)) capp3)) _ ⟨bp3, capp3, wp3, rfl, rfl, gp3, rp3⟩
            simp only at hq
            exact hq
          rintro ⟨v36, v43, v51⟩ w' ⟨g5, cap5, w40, hv, hw', g40, own40⟩
          have e0 : 0 + (i) + (0) = i := by omega
          rw [e0] at own40 hv hw'
          clear e0
          rw [hw']
          clear hw' w'
          simp only at hv
          subst hv
          simp only [List.getElem_toArray, List.getElem_cons_succ, List.getElem_cons_zero, Act.put, List.setIfInBounds_toArray, List.set_cons_succ, List.set_cons_zero]
          go_wp2_with go_in
          go_ret2
          have e1 : i = (M.take i ++ M.drop (i + 1)).length := by simp; omega
          have e2 : ((M.take i).flatMap encL : List Value) = (M.take i ++ M.drop (i + 1)).flatMap encL := by
            rw [List.drop_eq_nil_of_le (show M.length ≤ i + 1 by omega)]; simp
          have e3 := hcut _ rfl
          exact ⟨rfl, by rw [← e3]; exact RChainAt.stored h hb0 g40 (own_conv own40 e1 e2), (g40.mono (by simp)).trans (GrowBut.setCell _ _ _)⟩
        · go_upto_region 6 with go_in
          refine wp_viaE (ι := Value × Value × Value) (fun x w' => ∃ g5 cap5 w40, x.2.2 = (.slice (some ⟨g5, 0, none⟩) (0 + (i) + (M.length - (i + 1))) cap5) ∧ w' = w40.setCell ⟨R, 0, none⟩ (.slice (some ⟨g5, 0, none⟩) (0 + (i) + (M.length - (i + 1))) cap5) ∧ GrowBut wr w40 [] ∧ w40.ownsRow wr.heap.size 32 2 (.slice (some ⟨g5, 0, none⟩) (0 + (i) + (M.length - (i + 1))) cap5) (0 + (i) + (M.length - (i + 1))) ((M.take i).flatMap encL ++ (M.drop (i + 1)).flatMap encL)) (fun x a => (((((((((((((((((((a.put (some 35) (.pointer (some ⟨R, 0, none⟩))).put (some 36) (x.1)).put (some 37) (.pointer (some ⟨R, 0, none⟩))).put (some 38) (.pointer (some ⟨R, 0, none⟩))).put (some 39) (.pointer (some ⟨R, 0, none⟩))).put (some 40) (.slice (some ⟨g, 0, none⟩) M.length cap)).put (some 41) (.int .i64 i)).put (some 42) (.slice (some ⟨g, 0, none⟩) i cap)).put (some 43) (x.2.1)).put (some 44) (.pointer (some ⟨R, 0, none⟩))).put (some 45) (.pointer (some ⟨R, 0, none⟩))).put (some 46) (.pointer (some ⟨R, 0, none⟩))).put (some 47) (.slice (some ⟨g, 0, none⟩) M.length cap)).put (some 48) (.int .i64 i)).put (some 49) (.int .i64 ((i : Int) + 1))).put (some 50) (.slice (some ⟨g, (i + 1) * 2, none⟩) (M.length - (i + 1)) (cap - (i + 1)))).put (some 51) (x.2.2)).put (some 52) (.pointer (some ⟨R, 0, none⟩))).put (some 53) (.pointer (some ⟨R, 0, none⟩)))) ?_ ?_
          · intro Q0 hQ0
            simp only [List.getElem_toArray, List.getElem_cons_succ, List.getElem_cons_zero, Act.put, List.setIfInBounds_toArray, List.set_cons_succ, List.set_cons_zero] at hQ0
            refine wp_region_X 19 (fun w' => w'.cell? ⟨R, 0, none⟩ = some (.slice (some ⟨g, 0, none⟩) M.length cap)) (by kernel_rfl) ?_
            have g0 : GrowBut wr wr.drew [] := GrowBut.drew _ _
            have c0 := g0.cell hc (by simp)
            have s0 := g0.size
            generalize wr.drew = w0 at g0 c0 s0 ⊢
            refine wpAnyX_take [0] (i := 0) (v := .pointer (some ⟨R, 0, none⟩)) rfl (by kernel_rfl) (by kernel_rfl) (by kernel_rfl) (by kernel_rfl) (by kernel_rfl) (by kernel_rfl) (fun _ _ _ h => h) (Or.inl ⟨by rfl, fun w' hw' => (by dsimp only at hw'; go_simp)⟩) c0 ?_
            simp only [List.getElem_toArray, List.getElem_cons_succ, List.getElem_cons_zero, Act.put, List.setIfInBounds_toArray, List.set_cons_succ, List.set_cons_zero]
            refine wpAnyX_take [2] (i := 2) (v := .pointer (some ⟨R, 0, none⟩)) rfl (by kernel_rfl) (by kernel_rfl) (by kernel_rfl) (by kernel_rfl) (by kernel_rfl) (by kernel_rfl) (fun _ _ _ h => h) (Or.inl ⟨by rfl, fun w' hw' => (by dsimp only at hw'; go_simp)⟩) c0 ?_
            simp only [List.getElem_toArray, List.getElem_cons_succ, List.getElem_cons_zero, Act.put, List.setIfInBounds_toArray, List.set_cons_succ, List.set_cons_zero]
            refine wpAnyX_take [3] (i := 3) (v := .pointer (some ⟨R, 0, none⟩)) rfl (by kernel_rfl) (by kernel_rfl) (by kernel_rfl) (by kernel_rfl) (by kernel_rfl) (by kernel_rfl) (fun _ _ _ h => h) (Or.inl ⟨by rfl, fun w' hw' => (by dsimp only at hw'; go_simp)⟩) c0 ?_
            simp only [List.getElem_toArray, List.getElem_cons_succ, List.getElem_cons_zero, Act.put, List.setIfInBounds_toArray, List.set_cons_succ, List.set_cons_zero]
            refine wpAnyX_take [4] (i := 4) (v := .pointer (some ⟨R, 0, none⟩)) rfl (by kernel_rfl) (by kernel_rfl) (by kernel_rfl) (by kernel_rfl) (by kernel_rfl) (by kernel_rfl) (fun _ _ _ h => h) (Or.inl ⟨by rfl, fun w' hw' => (by dsimp only at hw'; go_simp)⟩) c0 ?_
            simp only [List.getElem_toArray, List.getElem_cons_succ, List.getElem_cons_zero, Act.put, List.setIfInBounds_toArray, List.set_cons_succ, List.set_cons_zero]
            refine wpAnyX_take [5] (i := 5) (v := .slice (some ⟨g, 0, none⟩) M.length cap) rfl (by kernel_rfl) (by kernel_rfl) (by kernel_rfl) (by kernel_rfl) (by kernel_rfl) (by kernel_rfl) (fun _ _ _ h => h) (Or.inl ⟨by rfl, fun w' hw' => (by dsimp only at hw'; go_simp)⟩) c0 ?_
            simp only [List.getElem_toArray, List.getElem_cons_succ, List.getElem_cons_zero, Act.put, List.setIfInBounds_toArray, List.set_cons_succ, List.set_cons_zero]
            refine wpAnyX_take [6] (i := 6) (v := .int .i64 i) rfl (by kernel_rfl) (by kernel_rfl) (by kernel_rfl) (by kernel_rfl) (by kernel_rfl) (by kernel_rfl) (fun _ _ _ h => h) (Or.inl ⟨by rfl, fun w' hw' => (by dsimp only at hw'; go_simp)⟩) c0 ?_
            simp only [List.getElem_toArray, List.getElem_cons_succ, List.getElem_cons_zero, Act.put, List.setIfInBounds_toArray, List.set_cons_succ, List.set_cons_zero]
            refine wpAnyX_take [7] (i := 7) (v := .slice (some ⟨g, 0, none⟩) i cap) rfl (by kernel_rfl) (by kernel_rfl) (by kernel_rfl) (by kernel_rfl) (by kernel_rfl) (by kernel_rfl) (fun _ _ _ h => h) (Or.inl ⟨by rfl, fun w' hw' => (by dsimp only at hw'; go_simp)⟩) c0 ?_
            simp only [List.getElem_toArray, List.getElem_cons_succ, List.getElem_cons_zero, Act.put, List.setIfInBounds_toArray, List.set_cons_succ, List.set_cons_zero]
            refine wpAnyX_take [9] (i := 9) (v := .pointer (some ⟨R, 0, none⟩)) rfl (by kernel_rfl) (by kernel_rfl) (by kernel_rfl) (by kernel_rfl) (by kernel_rfl) (by kernel_rfl) (fun _ _ _ h => h) (Or.inl ⟨by rfl, fun w' hw' => (by dsimp only at hw'; go_simp)⟩) c0 ?_
            simp only [List.getElem_toArray, List.getElem_cons_succ, List.getElem_cons_zero, Act.put, List.setIfInBounds_toArray, List.set_cons_succ, List.set_cons_zero]
            refine wpAnyX_take [10] (i := 10) (v := .pointer (some ⟨R, 0, none⟩)) rfl (by kernel_rfl) (by kernel_rfl) (by kernel_rfl) (by kernel_rfl) (by kernel_rfl) (by kernel_rfl) (fun _ _ _ h => h) (Or.inl ⟨by rfl, fun w' hw' => (by dsimp only at hw'; go_simp)⟩) c0 ?_
            simp only [List.getElem_toArray, List.getElem_cons_succ, List.getElem_cons_zero, Act.put, List.setIfInBounds_toArray, List.set_cons_succ, List.set_cons_zero]
            refine wpAnyX_take [11] (i := 11) (v := .pointer (some ⟨R, 0, none⟩)) rfl (by kernel_rfl) (by kernel_rfl) (by kernel_rfl) (by kernel_rfl) (by kernel_rfl) (by kernel_rfl) (fun _ _ _ h => h) (Or.inl ⟨by rfl, fun w' hw' => (by dsimp only at hw'; go_simp)⟩) c0 ?_
            simp only [List.getElem_toArray, List.getElem_cons_succ, List.getElem_cons_zero, Act.put, List.setIfInBounds_toArray, List.set_cons_succ, List.set_cons_zero]
            refine wpAnyX_take [12] (i := 12) (v := .slice (some ⟨g, 0, none⟩) M.length cap) rfl (by kernel_rfl) (by kernel_rfl) (by kernel_rfl) (by kernel_rfl) (by kernel_rfl) (by kernel_rfl) (fun _ _ _ h => h) (Or.inl ⟨by rfl, fun w' hw' => (by dsimp only at hw'; go_simp)⟩) c0 ?_
            simp only [List.getElem_toArray, List.getElem_cons_succ, List.getElem_cons_zero, Act.put, List.setIfInBounds_toArray, List.set_cons_succ, List.set_cons_zero]
            refine wpAnyX_take [13] (i := 13) (v := .int .i64 i) rfl (by kernel_rfl) (by kernel_rfl) (by kernel_rfl) (by kernel_rfl) (by kernel_rfl) (by kernel_rfl) (fun _ _ _ h => h) (Or.inl ⟨by rfl, fun w' hw' => (by dsimp only at hw'; go_simp)⟩) c0 ?_
            simp only [List.getElem_toArray, List.getElem_cons_succ, List.getElem_cons_zero, Act.put, List.setIfInBounds_toArray, List.set_cons_succ, List.set_cons_zero]
            refine wpAnyX_take [14] (i := 14) (v := .int .i64 ((i : Int) + 1)) rfl (by kernel_rfl) (by kernel_rfl) (by kernel_rfl) (by kernel_rfl) (by kernel_rfl) (by kernel_rfl) (fun _ _ _ h => h) (Or.inl ⟨by rfl, fun w' hw' => (by dsimp only at hw'; go_simp)⟩) c0 ?_
            simp only [List.getElem_toArray, List.getElem_cons_succ, List.getElem_cons_zero, Act.put, List.setIfInBounds_toArray, List.set_cons_succ, List.set_cons_zero]
            refine wpAnyX_take [15] (i := 15) (v := .slice (some ⟨g, (i + 1) * 2, none⟩) (M.length - (i + 1)) (cap - (i + 1))) rfl (by kernel_rfl) (by kernel_rfl) (by kernel_rfl) (by kernel_rfl) (by kernel_rfl) (by kernel_rfl) (fun _ _ _ h => h) (Or.inl ⟨by rfl, fun w' hw' => (by dsimp only at hw'; go_simp)⟩) c0 ?_
            simp only [List.getElem_toArray, List.getElem_cons_succ, List.getElem_cons_zero, Act.put, List.setIfInBounds_toArray, List.set_cons_succ, List.set_cons_zero]
            refine wpAnyX_all (rs := [1]) (by kernel_rfl) (by simp) (fun i2 hi2 => ?_)
            simp only [List.mem_cons, List.not_mem_nil, or_false] at hi2
            subst hi2
            refine wpOp_alloc (by rfl) (by rfl) (n := 0) (cs := #[]) (t := 32) (by go_simp) ?_
            intro wa1 ba1 gga1 oa1 la1 ha1
            have ga1 := g0.trans gga1
            have ca1 := ga1.cell hc (by simp)
            have ooa1 := Nat.le_trans g0.size oa1
            have ra1 := ownsRow_emptyN (size := 2) ooa1 ha1
            refine ⟨.inr ca1, ?_⟩
            simp only [List.getElem_toArray, List.getElem_cons_succ, List.getElem_cons_zero, Act.put, List.setIfInBounds_toArray, List.set_cons_succ, List.set_cons_zero]
            refine wpAnyX_all (rs := [8]) (by kernel_rfl) (by simp) (fun i2 hi2 => ?_)
            simp only [List.mem_cons, List.not_mem_nil, or_false] at hi2
            subst hi2
            refine wpOp_appendN (by rfl) (by rfl) _ _ 22 (by rfl) wr.heap.size 32 i0 (.agg #[.int .i64 0, .int .i64 0]) 2 16 Try.underlying22 hi hz0 hz1 hz2 rfl (by decide) (.slice (some ⟨ba1, 0, none⟩) 0 0) (0) ([]) (by go_simp) ra1 ⟨g, 0, none⟩ (i) cap ((M.take i).flatMap encL) (by go_simp) (by rw [flatL_len]; simp; omega) (hnews1 _ ga1) (hone _) (by unfold maxLen; omega) (by omega) ga1.size (fun e => by cases e) ?_
            intro bp2 capp2 wp2 ownp2 roomp2 growp2
            have rp2 : wp2.ownsRow wr.heap.size 32 2 (.slice (some ⟨bp2, 0, none⟩) (0 + (i)) capp2) (0 + (i)) ((M.take i).flatMap encL) := own_conv ownp2 rfl (by simp)
            have gp2 := ga1.from (.of_rowX growp2) (fun x hx => .inr (ra1.lt x (by simpa using hx)).1)
            have cp2 := gp2.cell hc (by simp)
            clear ownp2
            refine ⟨.inr cp2, ?_⟩
            simp only [List.getElem_toArray, List.getElem_cons_succ, List.getElem_cons_zero, Act.put, List.setIfInBounds_toArray, List.set_cons_succ, List.set_cons_zero]
            refine wpAnyX_all (rs := [16]) (by kernel_rfl) (by simp) (fun i2 hi2 => ?_)
            simp only [List.mem_cons, List.not_mem_nil, or_false] at hi2
            subst hi2
            refine wpOp_appendN (by rfl) (by rfl) _ _ 22 (by rfl) wr.heap.size 32 i0 (.agg #[.int .i64 0, .int .i64 0]) 2 16 Try.underlying22 hi hz0 hz1 hz2 rfl (by decide) (.slice (some ⟨bp2, 0, none⟩) (0 + (i)) capp2) (0 + (i)) ((M.take i).flatMap encL) (by go_simp) rp2 ⟨g, (i + 1) * 2, none⟩ (M.length - (i + 1)) (cap - (i + 1)) ((M.drop (i + 1)).flatMap encL) (by go_simp) (by rw [flatL_len]; simp) (hnews2 _ gp2) (hone _) (by unfold maxLen; omega) (by omega) gp2.size (fun e => by cases e) ?_
            intro bp3 capp3 wp3 ownp3 roomp3 growp3
            have rp3 : wp3.ownsRow wr.heap.size 32 2 (.slice (some ⟨bp3, 0, none⟩) (0 + (i) + (M.length - (i + 1))) capp3) (0 + (i) + (M.length - (i + 1))) ((M.take i).flatMap encL ++ (M.drop (i + 1)).flatMap encL) := own_conv ownp3 rfl (by simp)
            have gp3 := gp2.from (.of_rowX growp3) (fun x hx => .inr (rp2.lt x (by simpa using hx)).1)
            have cp3 := gp3.cell hc (by simp)
            clear ownp3
            refine ⟨.inr cp3, ?_⟩
            simp only [List.getElem_toArray, List.getElem_cons_succ, List.getElem_cons_zero, Act.put, List.setIfInBounds_toArray, List.set_cons_succ, List.set_cons_zero]
            refine wpAnyX_take [18, 17] (i := 17) (v := .pointer (some ⟨R, 0, none⟩)) rfl (by kernel_rfl) (by kernel_rfl) (by kernel_rfl) (by kernel_rfl) (by kernel_rfl) (by kernel_rfl) (fun _ _ _ h => h) (Or.inl ⟨by rfl, fun w' hw' => (by dsimp only at hw'; go_simp)⟩) cp3 ?_
            simp only [List.getElem_toArray, List.getElem_cons_succ, List.getElem_cons_zero, Act.put, List.setIfInBounds_toArray, List.set_cons_succ, List.set_cons_zero]
            refine wpAnyX_take [18] (i := 18) (v := .pointer (some ⟨R, 0, none⟩)) rfl (by kernel_rfl) (by kernel_rfl) (by kernel_rfl) (by kernel_rfl) (by kernel_rfl) (by kernel_rfl) (fun _ _ _ h => h) (Or.inl ⟨by rfl, fun w' hw' => (by dsimp only at hw'; go_simp)⟩) cp3 ?_
            simp only [List.getElem_toArray, List.getElem_cons_succ, List.getElem_cons_zero, Act.put, List.setIfInBounds_toArray, List.set_cons_succ, List.set_cons_zero]
            refine wpAnyX_all (rs := [19]) (by kernel_rfl) (by simp) (fun i2 hi2 => ?_)
            simp only [List.mem_cons, List.not_mem_nil, or_false] at hi2
            subst hi2
            have f40 := gp3.frozen hRlt hfz (by simp)
            refine wpOp_skip (by rfl) (by rfl) (w' := wp3.setCell ⟨R, 0, none⟩ (.slice (some ⟨bp3, 0, none⟩) (0 + (i) + (M.length - (i + 1))) capp3)) (by go_simp) ?_
            refine ⟨.inl rfl, ?_⟩
            simp only [List.getElem_toArray, List.getElem_cons_succ, List.getElem_cons_zero, Act.put, List.setIfInBounds_toArray, List.set_cons_succ, List.set_cons_zero]
            refine wpAnyX_done (by kernel_rfl) ?_ _
            have hq := hQ0 ((.slice (some ⟨ba1, 0, none⟩) 0 0), (.slice (some ⟨bp2, 0, none⟩) (0 + (i)) capp2), (.slice (some ⟨bp3, 0, none⟩) (0 + (i) + (M.length - (i + 1))) capp3)) _ ⟨bp3, capp3, wp3, rfl, rfl, gp3, rp3⟩
            simp only at hq
            exact hq
          rintro ⟨v36, v43, v51⟩ w' ⟨g5, cap5, w40, hv, hw', g40, own40⟩
          have e0 : 0 + (i) + (M.length - (i + 1)) = i + (M.length - (i + 1)) := by omega
          rw [e0] at own40 hv hw'
          clear e0
          rw [hw']
          clear hw' w'
          simp only at hv
          subst hv
          simp only [List.getElem_toArray, List.getElem_cons_succ, List.getElem_cons_zero, Act.put, List.setIfInBounds_toArray, List.set_cons_succ, List.set_cons_zero]
          go_wp2_with go_in
          go_ret2
          have e1 : i + (M.length - (i + 1)) = (M.take i ++ M.drop (i + 1)).length := by simp; omega
          have e2 : ((M.take i).flatMap encL ++ (M.drop (i + 1)).flatMap encL : List Value) = (M.take i ++ M.drop (i + 1)).flatMap encL := by
            simp
          have e3 := hcut _ rfl
          exact ⟨rfl, by rw [← e3]; exact RChainAt.stored h hb0 g40 (own_conv own40 e1 e2), (g40.mono (by simp)).trans (GrowBut.setCell _ _ _)⟩
      · have hbef' : ∀ j (hj : j < M.length), j < i + 1 → (M[j]).2 ≠ a := fun j hj hji => by
          by_cases e : j = i
          · subst e; exact he
          · exact hbef j hj (by omega)
        generalize (M[i]).2 = y at hxy he
        generalize (M[i]).1 = x at hxy
        obtain ⟨hx, hy⟩ := hxy
        clear hcells hbef hf hmi hflat
        go_wp2_with go_in
        exact ⟨⟨i + 1, by simp, by omega, hbef', trivial⟩, by simp; omega⟩
    · exfalso
      obtain ⟨j, hj, e⟩ := List.getElem_of_mem hm
      exact hbef j hj (by omega) (by rw [e])

end Go.Proofs.Ytlgfopfibopcnaa
