/-
  graft: Tables.
-/
import Derived.Test.YtdhnfhhmacjajaaJ7
import Derived.KernelRfl

namespace Go.Proofs.Ytdhnfhhmacjajaa
open Go Go.RowKit Go.Maps Go.Am Go.Shelf Go.Sort
set_option linter.unusedVariables false
set_option linter.unusedSimpArgs false

theorem perm_of_sub : ∀ {A B : List Int}, A.Nodup → B.Nodup → (∀ x ∈ A, x ∈ B) → B.length ≤ A.length → A.Perm B
  | [], B, _, _, _, hl => by
    have : B = [] := List.eq_nil_of_length_eq_zero (by simpa using hl)
    rw [this]
  | a :: A, B, hA, hB, hs, hl => by
    have hn := List.nodup_cons.1 hA
    have ha : a ∈ B := hs a (by simp)
    have hp := List.length_pos_of_mem ha
    have ih := perm_of_sub (A := A) (B := B.erase a) hn.2 (hB.erase a) (fun x hx => (List.mem_erase_of_ne (fun e : x = a => hn.1 (by rw [← e]; exact hx))).2 (hs x (by simp [hx]))) (by rw [List.length_erase_of_mem ha]; simp at hl; omega)
    exact (ih.cons a).trans (List.perm_cons_erase ha).symm

theorem takenL_mem (fro : Int) (tk : Nat → Bool) (x : Int) : ∀ k, x ∈ takenL fro tk k ↔ ∃ i : Nat, i < k ∧ x = fro + i ∧ tk i = true
  | 0 => by simp [takenL]
  | k + 1 => by
    unfold takenL
    by_cases h : tk k = true
    · rw [if_pos h, List.mem_append, takenL_mem fro tk x k, List.mem_singleton]
      constructor
      · rintro (⟨i, hi, r⟩ | rfl)
        · exact ⟨i, by omega, r⟩
        · exact ⟨k, by omega, rfl, h⟩
      · rintro ⟨i, hi, rfl, r⟩
        by_cases e : i = k
        · subst e; exact .inr rfl
        · exact .inl ⟨i, by omega, rfl, r⟩
    · rw [if_neg h, takenL_mem fro tk x k]
      constructor
      · rintro ⟨i, hi, r⟩; exact ⟨i, by omega, r⟩
      · rintro ⟨i, hi, rfl, r⟩
        by_cases e : i = k
        · subst e; exact absurd r h
        · exact ⟨i, by omega, rfl, r⟩

theorem takenL_rises (fro : Int) (tk : Nat → Bool) : ∀ k, (takenL fro tk k).Pairwise (· < ·)
  | 0 => by simp [takenL]
  | k + 1 => by
    unfold takenL
    split
    · refine List.pairwise_append.2 ⟨takenL_rises fro tk k, by simp, fun a ha b hb => ?_⟩
      obtain ⟨i, hi, rfl, _⟩ := (takenL_mem fro tk a k).1 ha
      simp only [List.mem_singleton] at hb
      subst hb
      omega
    · exact takenL_rises fro tk k

theorem nodup_map_on {f : Int → Int} : ∀ {l : List Int}, l.Nodup → (∀ x ∈ l, ∀ y ∈ l, f x = f y → x = y) → (l.map f).Nodup
  | [], _, _ => by simp
  | a :: l, h, hf => by
    have hn := List.nodup_cons.1 h
    refine List.nodup_cons.2 ⟨fun hm => ?_, nodup_map_on hn.2 (fun x hx y hy => hf x (by simp [hx]) y (by simp [hy]))⟩
    obtain ⟨y, hy, e⟩ := List.mem_map.1 hm
    have := hf y (by simp [hy]) a (by simp) e
    subst this
    exact hn.1 hy

/-- The frames of a tree's tables, in a row. -/
def codes (F : LfF) : List Int := -1 :: (midsL F 256 ++ (endsL F 256).map (fun g => 1000 + g))

theorem codes_nodup (F : LfF) : (codes F).Nodup := by
  unfold codes
  have hm : ∀ x ∈ midsL F 256, 0 ≤ x ∧ x < 16 := fun x hx => by
    obtain ⟨g, hg, rfl, _⟩ := (mem_midsL F x 256).1 hx
    omega
  have he : ∀ x ∈ endsL F 256, 0 ≤ x := fun x hx => by
    obtain ⟨g, hg, rfl, _⟩ := (mem_endsL F x 256).1 hx
    omega
  refine List.nodup_cons.2 ⟨fun h => ?_, List.nodup_append.2 ⟨nodup_midsL F 256, ?_, fun a ha b hb => ?_⟩⟩
  · rcases List.mem_append.1 h with h | h
    · have := hm _ h; omega
    · obtain ⟨g, hg, e⟩ := List.mem_map.1 h
      have := he _ hg; omega
  · exact nodup_map_on (nodup_endsL F 256) (fun a _ b _ h => by omega)
  · obtain ⟨g, hg, rfl⟩ := List.mem_map.1 hb
    have := hm _ ha
    have := he _ hg
    omega

theorem tables_perm {fro : Int} {n root : Nat} {tk : Nat → Bool} {F : LfF} {MI EN : TbF} {ow : Int → Int} (hmk : ∀ a, (MI a).isSome = true ↔ a ∈ midsL F 256) (hek : ∀ g, (EN g).isSome = true ↔ g ∈ endsL F 256) (hG : GI fro n tk (comb root MI EN) ow (tabsN F)) :
    ((root : Int) :: ((midsL F 256).map (fun a => (MI a).getD 0) ++ (endsL F 256).map (fun g => (EN g).getD 0))).Perm (takenL fro tk n) := by
  have hval : ∀ x ∈ codes F, ∃ f, comb root MI EN x = some f := fun x hx => by
    unfold codes at hx
    rcases List.mem_cons.1 hx with rfl | hx
    · exact ⟨_, comb_root _ _ _⟩
    · rcases List.mem_append.1 hx with hx | hx
      · obtain ⟨f, hf⟩ := Option.isSome_iff_exists.1 ((hmk x).2 hx)
        obtain ⟨g, hg, rfl, _⟩ := (mem_midsL F x 256).1 hx
        exact ⟨f, by rw [comb_mid _ _ _ (by omega) (by omega)]; exact hf⟩
      · obtain ⟨g, hg, rfl⟩ := List.mem_map.1 hx
        obtain ⟨f, hf⟩ := Option.isSome_iff_exists.1 ((hek g).2 hg)
        obtain ⟨g', hg', rfl, _⟩ := (mem_endsL F g 256).1 hg
        exact ⟨f, by rw [comb_end _ _ _ (by omega)]; exact hf⟩
  have hmap : (root : Int) :: ((midsL F 256).map (fun a => (MI a).getD 0) ++ (endsL F 256).map (fun g => (EN g).getD 0)) = (codes F).map (fun x => (comb root MI EN x).getD 0) := by
    unfold codes
    rw [List.map_cons, comb_root, List.map_append, List.map_map]
    congr 1
    congr 1
    · refine List.map_congr_left fun a ha => ?_
      obtain ⟨g, hg, rfl, _⟩ := (mem_midsL F a 256).1 ha
      rw [comb_mid _ _ _ (by omega) (by omega)]
    · refine List.map_congr_left fun g hg => ?_
      obtain ⟨g', hg', rfl, _⟩ := (mem_endsL F g 256).1 hg
      simp only [Function.comp]
      rw [comb_end _ _ _ (by omega)]
  rw [hmap]
  refine perm_of_sub (nodup_map_on (codes_nodup F) (fun x hx y hy e => ?_)) ((takenL_rises fro tk n).imp fun h => by omega) (fun v hv => ?_) ?_
  · obtain ⟨f, hf⟩ := hval x hx
    obtain ⟨f', hf'⟩ := hval y hy
    simp only [hf, hf', Option.getD_some] at e
    subst e
    exact hG.one hf hf'
  · obtain ⟨x, hx, rfl⟩ := List.mem_map.1 hv
    obtain ⟨f, hf⟩ := hval x hx
    obtain ⟨i, hi, rfl, ht, _⟩ := hG.fr x f hf
    exact (takenL_mem fro tk _ n).2 ⟨i, hi, by rw [hf]; rfl, ht⟩
  · rw [takenL_len, hG.cnt]
    unfold codes tabsN
    simp
    omega

theorem sort_taken {fro : Int} {n : Nat} {tk : Nat → Bool} {vs : List Int} (h : vs.Perm (takenL fro tk n)) : vs.mergeSort (fun x y => decide (x ≤ y)) = takenL fro tk n := by
  refine (mergeSort_of_perm_i h).trans ?_
  refine List.mergeSort_of_pairwise ((takenL_rises fro tk n).imp fun h => ?_)
  simp only [decide_eq_true_eq]; omega

/-- What has been put into the row: of the root, and of so many kinds of tables. -/
def allV (root : Nat) (F : LfF) (MI EN : TbF) : Nat → List Int
  | 0 => [(root : Int)]
  | 1 => (root : Int) :: (midsL F 256).map (fun a => (MI a).getD 0)
  | _ => (root : Int) :: ((midsL F 256).map (fun a => (MI a).getD 0) ++ (endsL F 256).map (fun g => (EN g).getD 0))

set_option maxRecDepth 100000 in
set_option maxHeartbeats 8000000 in
theorem tablesG (t M L S Tk : Nat) (nf : Nat) (sec : Int) (mem : Nat → Int) (fro : Int) (n : Nat) (tk : Nat → Bool) (root b bm be nh nt : Nat) (F : LfF) (MI EN : TbF) (ow : Int → Int) (w : World)
    (hT : TreeAt w t M L S Tk nf sec mem fro n tk root b bm be nh nt F MI EN) (hmk : ∀ a, (MI a).isSome = true ↔ a ∈ midsL F 256) (hek : ∀ g, (EN g).isSome = true ↔ g ∈ endsL F 256) (hG : GI fro n tk (comb root MI EN) ow (tabsN F)) :
    Calls Try.prog 21 #[.pointer (some ⟨t, 0, none⟩)] w fun e w' => ∃ v, e = .returned v ∧ w'.ownsRow w.heap.size 3 1 v (takenL fro tk n).length ((takenL fro tk n).map (Value.int .i64)) ∧ GrowBut w w' [] := by
  have hperm := tables_perm hmk hek hG
  have c2 := hT.c2
  go_enter Try.func21, Try.ntmps21
  go_upto_region 4 with fail
  have hG0 := (GrowBut.alloc w (.cells #[.int .i64 root] 3) []).trans (GrowBut.drew _ [])
  have hrow0 : (w.alloc (.cells #[.int .i64 root] 3)).drew.ownsRow w.heap.size 3 1 (.slice (some ⟨w.heap.size, 0, none⟩) 1 1) 1 [.int .i64 root] := (World.ownsRow_lit (base := w.heap.size) (e := 3) (size := 1) w #[.int .i64 root] 1 (Nat.le_refl _) (by unfold maxLen; omega) rfl).kept (GrowBut.drew _ []).keepAll (Classical.em _)
  have hT1 := hT.keep0 hG0
  have c4 := hT1.c4
  have c5 := hT1.c5
  generalize hw1 : w.alloc (.cells #[.int .i64 root] 3) = w1 at *
  have htw : t < w1.heap.size := by
    have : t < w1.drew.heap.size := cell_ltG c4
    simpa using this
  have hgZ := (GrowBut.alloc w1 (.cells #[.map (some bm), .map (some be)] 67) []).trans (GrowBut.drew _ [])
  have c4' : w1.cell? ⟨t, 4, none⟩ = some (.map (some bm)) := c4
  have c5' : w1.cell? ⟨t, 5, none⟩ = some (.map (some be)) := c5
  have d4 := hgZ.cell c4' (by simp)
  have d5 := hgZ.cell c5' (by simp)
  go_region_held3 (fun w' => w'.cell? ⟨t, 4, none⟩ = some (.map (some bm)) ∧ w'.cell? ⟨t, 5, none⟩ = some (.map (some be))) (first | go_keep | (exact ⟨d4, d5⟩)) (fail)
  have z0 : (w1.alloc (.cells #[.map (some bm), .map (some be)] 67)).drew.cell? ⟨w1.heap.size, 0, none⟩ = some (.map (some bm)) := by go_simp
  have z1 : (w1.alloc (.cells #[.map (some bm), .map (some be)] 67)).drew.cell? ⟨w1.heap.size, 1, none⟩ = some (.map (some be)) := by go_simp
  have hG1 : GrowBut w w1 [] := by rw [← hw1]; exact .alloc _ _ _
  have hT2 := (hT.keep0 hG1).keep0 hgZ
  have hrow2 : (w1.alloc (.cells #[.map (some bm), .map (some be)] 67)).drew.ownsRow w.heap.size 3 1 (.slice (some ⟨w.heap.size, 0, none⟩) 1 1) (allV root F MI EN 0).length ((allV root F MI EN 0).map (Value.int .i64)) := by
    have : w1.ownsRow w.heap.size 3 1 (.slice (some ⟨w.heap.size, 0, none⟩) 1 1) 1 [.int .i64 root] := hrow0
    exact this.kept hgZ.keepAll (Classical.em _)
  have hGw2 := hG1.trans hgZ
  have hsz1 : w.heap.size < w1.heap.size := by rw [← hw1]; simp
  have hszZ : w1.heap.size < (w1.alloc (.cells #[.map (some bm), .map (some be)] 67)).drew.heap.size := by simp
  clear hw1 hG0 hrow0 hT1 c4 c5 c4' c5' d4 d5 hgZ c2
  generalize (w1.alloc (.cells #[.map (some bm), .map (some be)] 67)).drew = w2 at *
  generalize w1.heap.size = Z at *
  obtain ⟨i0, hi, hz0, hz1, hz2⟩ := info_parts infoI
  have hHK : HideG ((∀ a, (MI a).isSome = true ↔ a ∈ midsL F 256) ∧ (∀ g, (EN g).isSome = true ↔ g ∈ endsL F 256)) := ⟨hmk, hek⟩
  clear hmk hek
  have hml := midsL_len F 256
  have hel := endsL_len F 256
  have hvl : ∀ j, j ≤ 2 → (allV root F MI EN j).length ≤ 520 := fun j hj => by
    rcases j with _ | _ | _ | j <;> simp only [allV, List.length_cons, List.length_map, List.length_append, List.length_nil] <;> omega
  go_wp2_with fail
  go_loopw [3, 25] (fun v3 v25 wr => ∃ (j : Nat) (vs : List Int), v25 = .int .i64 j ∧ j ≤ 2 ∧ wr.ownsRow w.heap.size 3 1 v3 vs.length (vs.map (Value.int .i64)) ∧ vs.Perm (allV root F MI EN j) ∧ v3.ownBlock ≠ some Z ∧ w2.heap.size ≤ wr.heap.size ∧ wr.cell? ⟨Z, 0, none⟩ = some (.map (some bm)) ∧ wr.cell? ⟨Z, 1, none⟩ = some (.map (some be)) ∧ GrowBut w wr []) (fun _ v25 _ => 2 - natOf v25)
  case atStart => exact ⟨0, _, rfl, by omega, hrow2, .refl _, by simp [Value.ownBlock]; omega, Nat.le_refl _, z0, z1, hGw2⟩
  case round =>
    obtain ⟨j, vs, rfl, hj, hrow, hpj, hnZ, hsw, y0, y1, hG⟩ := hrel
    have hszr := hG.size
    by_cases hlt : j < 2
    · have hlt' : (j : Int) < 2 := by omega
      obtain ⟨bT, T, L, hcj, hTab, hLn, hLm, hstep, hbT⟩ : ∃ (bT : Nat) (T : TbF) (L : List Int), wr.cell? ⟨Z, j, none⟩ = some (.map (some bT)) ∧ TabAt wr .i64 3 bT nt (tabI T) ∧ L.Nodup ∧ (∀ x, x ∈ L ↔ (T x).isSome = true) ∧ allV root F MI EN (j + 1) = allV root F MI EN j ++ L.map (fun x => (T x).getD 0) ∧ bT < w.heap.size := by
        have hj2 : j = 0 ∨ j = 1 := by omega
        rcases hj2 with rfl | rfl
        · exact ⟨bm, MI, midsL F 256, y0, hT.mids.kept hG (by simp), nodup_midsL F 256, fun x => (hHK.out.1 x).symm, by simp [allV], hT.mids.blt⟩
        · exact ⟨be, EN, endsL F 256, y1, hT.ends.kept hG (by simp), nodup_endsL F 256, fun x => (hHK.out.2 x).symm, by simp [allV], hT.ends.blt⟩
      have hvs := hpj.length_eq
      have hv1 := hvl j hj
      have hv2 := hvl (j + 1) (by omega)
      rw [hstep, List.length_append, List.length_map] at hv2
      have hHL : HideG (∀ x, x ∈ L ↔ (T x).isSome = true) := hLm
      clear hLm
      go_wp2_with (first
        | (at_range; refine wpList_rangeT rfl _ 67 rfl hTab keyI3 Try.underlying67 rfl ?_; intro w5 cnt5 hrg5 hcn5 hg5 hs5)
        | fail)
      try go_frame
      have hrow5 := hrow.kept hg5.keepAll (Classical.em _)
      have hG5 := hG.trans hg5
      have hZ0 := hg5.cell y0 (by simp)
      have hZ1 := hg5.cell y1 (by simp)
      have hs5' : wr.heap.size < w5.heap.size := by omega
      have hnr5 := hrg5.row hrow5
      clear hs5
      have hZR : Z < wr.heap.size := cell_ltG y0
      generalize hRR : wr.heap.size = R at *
      clear hRR
      go_loopw [3] (fun v3 wx => ∃ left cnt ks, RangeT wx .i64 3 bT R nt (tabI T) left cnt ∧ wx.ownsRow w.heap.size 3 1 v3 (vs ++ ks.map (fun x => (T x).getD 0)).length ((vs ++ ks.map (fun x => (T x).getD 0)).map (Value.int .i64)) ∧ Coll (tabI T) left ks ∧ v3.ownBlock ≠ some Z ∧ R < wx.heap.size ∧ wx.cell? ⟨Z, 0, none⟩ = some (.map (some bm)) ∧ wx.cell? ⟨Z, 1, none⟩ = some (.map (some be)) ∧ GrowBut w wx []) (fun _ wx => wx.rangeLeft bT R)
      case atStart => exact ⟨_, cnt5, [], hrg5, by simpa using hrow5, Coll.start _, hnZ, hs5', hZ0, hZ1, hG5⟩
      case round =>
        obtain ⟨left, cnt, ks, hrg, hrow, hC, hnZ, hsx, y0, y1, hG⟩ := hrel
        have hle : ks.length ≤ L.length := hC.len (fun x hx => (hHL.out x).2 (by rw [(tabI_val T x).2] at hx; exact hx))
        go_wp2_with (first
          | (at_next; refine wpList_nextT rfl _ rfl keyI3 Try.underlying3 rfl hrg ?_ ?_)
          | fail)
        · intro hl
          have hpk := hC.perm hl hLn (fun x => by rw [hHL.out x, (tabI_val T x).2])
          have hp' : (vs ++ ks.map (fun x => (T x).getD 0)).Perm (allV root F MI EN (j + 1)) := by
            rw [hstep]
            exact List.Perm.append hpj (hpk.map _)
          clear hl hC hpk hstep
          go_wp2_with fail
          go_roundw
          case rel => exact ⟨j + 1, _, by simp, by omega, hrow, hp', hnZ, by omega, y0, y1, hG⟩
          case measure => simp [natOf]; omega
        · intro x c w6 cnt6 hwx hlx hfx hrg6 hlt6 hg6 hs6 hen
          have hC6 := hC.step hlx (by rw [hfx]; rfl)
          obtain ⟨v, hv, rfl⟩ : ∃ v, T x = some v ∧ Value.int .i64 v = c := by
            unfold tabI at hfx
            exact Option.map_eq_some_iff.1 hfx
          have hrow6 := hrow.kept (w' := w6) (row := some R) ⟨hg6.os, hg6.tape, hg6.output, hg6.size, fun j hj hn => hg6.block j hj (by simpa using fun e => hn (by rw [e]))⟩ (.inr (fun e => hrg.row hrow e.symm))
          have hG6 := hG.from hg6 (l := []) (fun x hx => .inr (by simp at hx; omega))
          have hlow : ∀ x ∈ u3.ownBlock.toList, w.heap.size ≤ x := fun x hx => (hrow.lt x (by simpa using hx)).1
          have hnr := hrg6.row hrow6
          have hs6' : R < w6.heap.size := by omega
          have hZr : Z ≠ R := by omega
          have y06 := hg6.cell y0 (by simpa using hZr)
          have y16 := hg6.cell y1 (by simpa using hZr)
          have hvx : (T x).getD 0 = v := by rw [hv]; rfl
          have hlen6 : (vs ++ ks.map (fun x => (T x).getD 0)).length ≤ 600 := by simp; omega
          have hnext : ∀ (v' : Value) (w8 : World), w8.ownsRow w.heap.size 3 1 v' ((vs ++ ks.map (fun x => (T x).getD 0)).length + 1) ((vs ++ ks.map (fun x => (T x).getD 0)).map (Value.int .i64) ++ [.int .i64 v]) → w8.ownsRow w.heap.size 3 1 v' (vs ++ (ks ++ [x]).map (fun x => (T x).getD 0)).length ((vs ++ (ks ++ [x]).map (fun x => (T x).getD 0)).map (Value.int .i64)) := fun v' w8 h8 => by
            rw [List.map_append, ← List.append_assoc, List.map_singleton, hvx, List.map_append, List.length_append]
            exact h8
          clear hfx hlx hC hrow hs6 hv hvx hstep
          generalize hVV : vs ++ ks.map (fun x => (T x).getD 0) = VV at hrow6 hlen6 hnext
          go_wp2_with (first
            | (at_builtin; refine wpList_append_own_at _ rfl _ _ 23 rfl w.heap.size 3 i0 (.int .i64 0) 1 8 Try.underlying23 hi hz0 hz1 hz2 rfl (by decide) u3 _ _ rfl (hrow6.alloc _) ⟨w6.heap.size, 0, none⟩ 1 1 [.int .i64 v] rfl rfl (cell_one_new _ _ _) (by simp [Value.oneCell']) (by unfold maxLen at *; omega) (by omega) (by simp; omega) ?_; intro v' w8 hown8 hg8 hnil8 hat8; go_frame)
            | fail)
          have hG8 := (GrowBut.alloc w6 (.cells #[.int .i64 v] 3) _).trans (GrowBut.of_rowG (o := u3.ownBlock) hg8)
          have hrg8 := hrg6.kept hG8 (fun hb => by have := hlow _ hb; omega) (fun hb => hnr (by simpa using (Option.mem_toList.1 hb).symm))
          have hsz8 := hG8.size
          have hZu : Z ∉ u3.ownBlock.toList := fun hb => hnZ (by simpa using hb)
          have hnZ8 : v'.ownBlock ≠ some Z := by
            rcases hat8 with h8 | h8
            · rw [h8]; exact hnZ
            · rw [h8]; simp; omega
          go_roundw
          case rel => exact ⟨_, cnt6, ks ++ [x], hrg8, hnext _ _ hown8, hC6, hnZ8, by omega, hG8.cell y06 hZu, hG8.cell y16 hZu, hG6.from hG8 (fun x hx => .inr (hlow x hx))⟩
          case measure => rw [hrg8.left_eq, hrg.left_eq]; exact hlt6
    · have hj2 : j = 2 := by omega
      subst hj2
      have hp2 := hpj.trans hperm
      have hS := sortRow hrow (by have := hvl 2 (by omega); rw [← hpj.length_eq] at this; omega)
      rw [sort_taken hp2, hp2.length_eq] at hS
      have hlow : ∀ x ∈ u3.ownBlock.toList, w.heap.size ≤ x := fun x hx => (hrow.lt x (by simpa using hx)).1
      clear hrow hpj hperm hp2 hHK
      go_wp2_with (first
        | (go_at_call 40; refine hS.mono ?_; rintro e w5 ⟨rfl, hrow5, hg5⟩)
        | fail)
      go_ret
      exact ⟨_, rfl, hrow5, hG.from hg5 (fun x hx => .inr (hlow x hx))⟩

end Go.Proofs.Ytdhnfhhmacjajaa


/-
  ram.New, stock.New, graft.New.
-/
namespace Go.Proofs.Ytdhnfhhmacjajaa
open Go Go.RowKit Go.Maps Go.Am Go.Shelf
set_option linter.unusedVariables false
set_option linter.unusedSimpArgs false

theorem make_row {t e : TypeId} {c : Value} {k : Nat} (ht : Try.prog.underlying t = some (.slice e)) (hk : 0 < k ∧ k ≤ 128) (h : (Try.prog.info? e).map (fun i => (i.zero.map Value.cells, i.size, i.bytes)) = some (some (Array.replicate k c), k, k)) (n : Nat) (hn : n ≤ 240) : ∃ A : Array Value, (∀ i, i < n * k → A[i]? = some c) ∧
    ∀ w, (Instr.makeSlice t (.int .i64 n) (.int .i64 n)).run Try.prog w = .ok (.slice (some ⟨w.heap.size, 0, none⟩) n n) (w.alloc (.cells A e)) := by
  obtain ⟨i0, h1, h2⟩ := Option.map_eq_some_iff.1 h
  simp only [Prod.mk.injEq] at h2
  obtain ⟨h2, h3, h4⟩ := h2
  obtain ⟨z, hz, hzc⟩ := Option.map_eq_some_iff.1 h2
  have hb : n * k ≤ 240 * 128 := Nat.mul_le_mul hn hk.2
  refine ⟨madeCells z.cells (n * k), fun i hi => ?_, fun w => ?_⟩
  · rw [hzc]
    unfold madeCells
    rw [Array.getElem?_map, Array.getElem?_range, if_pos hi]
    have hm : i % (Array.replicate k c).size < (Array.replicate k c).size := Nat.mod_lt _ (by simp; omega)
    simp only [Option.map_some]
    rw [getElem!_pos (Array.replicate k c) _ hm, Array.getElem_replicate]
  · have hb2 : ((k : Nat) : Int) * (n : Int) ≤ 281474976710656 := by
      have : ((k * n : Nat) : Int) ≤ ((240 * 128 : Nat) : Int) := Int.ofNat_le.2 (by rw [Nat.mul_comm]; exact hb)
      rw [Int.natCast_mul] at this
      omega
    have h5 := run_makeSlice (P := Try.prog) w t e i0 _ ht h1 hz .i64 .i64 (n : Int) (n : Int) (by omega) (by omega) (by rw [h3]; simp only [Int.toNat_natCast]; omega) (by rw [h4]; exact hb2) (by omega)
    rw [h3] at h5
    simpa using h5

set_option maxRecDepth 100000 in
set_option maxHeartbeats 4000000 in
theorem stockNew (fro : Int) (n : Nat) (w : World) (h0 : 0 ≤ fro ∧ fro ≤ 240) (hn : 0 < n ∧ n ≤ 240) :
    Calls Try.prog 11 #[.int .i64 fro, .int .i64 n] w fun e w' => ∃ S T, e = .returned (.pointer (some ⟨S, 0, none⟩)) ∧ StockAt w' S T fro n (fun _ => false) ∧ w.heap.size ≤ S ∧ w.heap.size ≤ T ∧ GrowBut w w' [] := by
  have h1 : max fro 0 = fro := by omega
  have h2 : min fro 240 = fro := by omega
  have h3 : max (n : Int) 0 = (n : Int) := by omega
  have h4 : min (n : Int) 240 = (n : Int) := by omega
  obtain ⟨A, hA, hM⟩ := make_row (t := 61) (e := 4) (c := .bool false) (k := 1) Try.underlying61 (by omega) (by kernel_rfl) n hn.2
  go_enter Try.func11, Try.ntmps11
  go_wp2_with go_in
  go_ret
  refine ⟨w.heap.size + 1, w.heap.size, rfl, ⟨by go_simp, by go_simp, fun i hi => ?_, fun i hi => by go_simp, by omega, by simp; omega, hn.2, h0⟩, by omega, by omega, (GrowBut.alloc _ _ _).trans (GrowBut.alloc _ _ _)⟩
  have hc : (w.alloc (.cells A 4)).cell? ⟨w.heap.size, i, none⟩ = some (.bool false) := by
    rw [World.cell?_alloc_new]
    exact hA i (by omega)
  exact (GrowBut.alloc (w.alloc (.cells A 4)) _ []).cell hc (by simp)

set_option maxRecDepth 100000 in
set_option maxHeartbeats 4000000 in
theorem ramNew (nf : Nat) (sec : Nat) (w : World) (hn : 0 < nf ∧ nf ≤ 240) (hs : sec ≤ nf) :
    Calls Try.prog 10 #[.int .i64 nf, .int .i64 sec] w fun e w' => ∃ M L, e = .returned (.pointer (some ⟨M, 0, none⟩)) ∧ RamAt w' M L nf sec (fun _ => 0) ∧ w.heap.size ≤ M ∧ w.heap.size ≤ L ∧ GrowBut w w' [] := by
  have h1 : max (nf : Int) 0 = (nf : Int) := by omega
  have h2 : min (nf : Int) 240 = (nf : Int) := by omega
  have h3 : max (sec : Int) 0 = (sec : Int) := by omega
  have h4 : min (sec : Int) (nf : Int) = (sec : Int) := by omega
  obtain ⟨A, hA, hM⟩ := make_row (t := 58) (e := 105) (c := .int .u8 0) (k := 128) Try.underlying58 (by omega) (by kernel_rfl) nf hn.2
  go_enter Try.func10, Try.ntmps10
  go_wp2_with go_in
  go_ret
  refine ⟨w.heap.size + 1, w.heap.size, rfl, ⟨by go_simp, by go_simp, fun i hi => ?_, fun i hi => by go_simp, by omega, by simp; omega, by omega, fun i => by omega⟩, by omega, by omega, (GrowBut.alloc _ _ _).trans (GrowBut.alloc _ _ _)⟩
  have hc : (w.alloc (.cells A 105)).cell? ⟨w.heap.size, i, none⟩ = some (.int .u8 0) := by
    rw [World.cell?_alloc_new]
    exact hA i hi
  exact (GrowBut.alloc (w.alloc (.cells A 105)) _ []).cell hc (by simp)

/-- Nothing lies anywhere. -/
def noneL : LfF := fun _ => none

theorem anyG_none (g : Int) : ∀ n, anyG noneL g n = false
  | 0 => rfl
  | n + 1 => by simp [anyG, anyG_none g n, noneL]

theorem midsL_none : ∀ n, midsL noneL n = []
  | 0 => rfl
  | n + 1 => by unfold midsL; rw [if_neg (by rw [anyG_none]; simp)]; exact midsL_none n

theorem endsL_none : ∀ n, endsL noneL n = []
  | 0 => rfl
  | n + 1 => by unfold endsL; rw [if_neg (by rw [anyG_none]; simp)]; exact endsL_none n

theorem tabsN_none : tabsN noneL = 1 := by unfold tabsN; rw [midsL_none, endsL_none]; rfl

theorem noneL_ok : LfOk noneL := ⟨fun k l h => (by cases h), fun k l h => (by cases h), fun k l h => (by cases h)⟩

set_option maxRecDepth 100000 in
set_option maxHeartbeats 8000000 in
theorem newG (M L S Tk : Nat) (nf : Nat) (sec fro : Int) (n : Nat) (mem : Nat → Int) (X : List Nat) (w : World) (hR : RamAt w M L nf sec mem) (hS : StockAt w S Tk fro n (fun _ => false)) (hfit : fro + n ≤ nf) (hn : 0 < n) (hX : ∀ x ∈ X, x < w.heap.size)
    (hL : L ≠ S ∧ L ≠ Tk) (hTM : Tk ≠ M) :
    Calls Try.prog 12 #[.pointer (some ⟨M, 0, none⟩), .pointer (some ⟨S, 0, none⟩)] w fun e w' => ∃ A : GA, e = .returned (.tuple #[.pointer (some ⟨A.t, 0, none⟩), .bool true]) ∧ A.M = M ∧ A.L = L ∧ A.S = S ∧ A.Tk = Tk ∧ A.nf = nf ∧ A.sec = sec ∧ A.fro = fro ∧ A.n = n ∧
      w.heap.size ≤ A.t ∧ w.heap.size ≤ A.bm ∧ w.heap.size ≤ A.be ∧ GrAt w' A X 0 noneL ∧ GrowBut w w' [L, Tk] := by
  have hTk := stockTake S Tk fro n (fun _ => false) w hS ⟨0, hn, rfl⟩
  have hsm := hS.small
  have hrl := hR.lt
  have hsl := hS.lt
  have hmm := @run_makeMap Try.prog
  go_enter Try.func12, Try.ntmps12
  go_upto_region 6 with (first
    | (go_at_call 28; refine hTk.mono ?_; rintro e w1 ⟨i, hi, hti, rfl, hK1, hg1⟩)
    | fail)
  have hfN : ((frN fro i : Nat) : Int) = fro + i := by unfold frN; omega
  have hfl : frN fro i < nf := by omega
  have hR1 := hR.kept hg1 (by simpa using hTM.symm) (by simpa using hL.2)
  have hC := ramClear M L nf sec mem (frN fro i) w1 hR1 hfl
  rw [← hfN]
  have hHF : HideG (((frN fro i : Nat) : Int) = fro + i) := hfN
  have hg1s := hg1.size
  clear hfN
  generalize frN fro i = root at hfl hC hHF ⊢
  go_wp2_with (first
    | (go_at_call 29; refine hC.mono ?_; rintro e w2 ⟨rfl, hR2, hg2⟩)
    | go_in)
  go_ret2
  clear hmm hTk hC
  have hg2s := hg2.size
  have hm0 := TabAt.made w2 .i64 3
  have hG0 := GrowBut.alloc w2 (.map #[] 0) []
  have hm1 := TabAt.made (w2.alloc (.map #[] 0)) .i64 3
  have hG1 := GrowBut.alloc (w2.alloc (.map #[] 0)) (.map #[] 0) []
  have hm2 := TabAt.made ((w2.alloc (.map #[] 0)).alloc (.map #[] 0)) .i64 3
  have hG2 := GrowBut.alloc ((w2.alloc (.map #[] 0)).alloc (.map #[] 0)) (.map #[] 0) []
  simp only [World.size_alloc] at hm1 hm2
  have hS2 := hK1.kept hg2 (by simpa using hL.1.symm) (by simpa using hL.2.symm)
  have hGt := GrowBut.alloc (((w2.alloc (.map #[] 0)).alloc (.map #[] 0)).alloc (.map #[] 0)) (.cells #[.pointer (some ⟨M, 0, none⟩), .pointer (some ⟨S, 0, none⟩), .int .i64 root, .map (some w2.heap.size), .map (some (w2.heap.size + 1)), .map (some (w2.heap.size + 1 + 1))] 69) []
  have hGa := ((hG0.trans hG1).trans hG2).trans hGt
  have hroot := hHF.out
  have e0 : (fun _ => none) = tabL noneL := rfl
  have e1 : (fun _ => none) = tabI (fun _ => none) := rfl
  refine ⟨⟨w2.heap.size + 1 + 1 + 1, M, L, S, Tk, nf, sec, fro, n, root, w2.heap.size + 1, w2.heap.size + 1 + 1⟩, rfl, rfl, rfl, rfl, rfl, rfl, rfl, rfl, rfl, by dsimp only; omega, by dsimp only; omega, by dsimp only; omega, ?_, ((hg1.mono (by simp)).trans (hg2.mono (by simp))).trans (hGa.mono (by simp))⟩
  refine ⟨fun x hx => ?_, clearM mem root, setB (fun _ => false) i true, w2.heap.size, 0, 0, fun _ => none, fun _ => none, fun _ => -1, ?_, fun a => ?_, fun g => ?_, ?_, ?_, fun hx => ?_, Nat.le_refl _, Nat.le_refl _⟩
  · have := hX x hx
    have := hGa.size
    omega
  · refine ⟨⟨by go_simp, by go_simp, hR2.kept hGa (by simp) (by simp), hS2.kept hGa (by simp) (by simp), hfit, ⟨by show L ≠ w2.heap.size + 1 + 1 + 1; omega, hL.1, hL.2⟩, ⟨by show Tk ≠ w2.heap.size + 1 + 1 + 1; omega, hTM⟩⟩, by go_simp, by go_simp, by go_simp, by go_simp, by go_simp, ?_, ?_, ?_, ?_, ?_, ?_, by show w2.heap.size + 1 ≠ w2.heap.size + 1 + 1; omega, noneL_ok, hfl, ?_⟩
    · exact e0 ▸ hm0.kept (((hG1.trans hG2).trans hGt)) (by simp)
    · exact e1 ▸ hm1.kept (hG2.trans hGt) (by simp)
    · exact e1 ▸ hm2.kept hGt (by simp)
    · exact ⟨by show w2.heap.size ≠ w2.heap.size + 1 + 1 + 1; omega, by show w2.heap.size ≠ M; omega, by show w2.heap.size ≠ L; omega, by show w2.heap.size ≠ S; omega, by show w2.heap.size ≠ Tk; omega, by show w2.heap.size ≠ w2.heap.size + 1; omega, by show w2.heap.size ≠ w2.heap.size + 1 + 1; omega⟩
    · exact ⟨by show w2.heap.size + 1 ≠ w2.heap.size + 1 + 1 + 1; omega, by show w2.heap.size + 1 ≠ M; omega, by show w2.heap.size + 1 ≠ L; omega, by show w2.heap.size + 1 ≠ S; omega, by show w2.heap.size + 1 ≠ Tk; omega⟩
    · exact ⟨by show w2.heap.size + 1 + 1 ≠ w2.heap.size + 1 + 1 + 1; omega, by show w2.heap.size + 1 + 1 ≠ M; omega, by show w2.heap.size + 1 + 1 ≠ L; omega, by show w2.heap.size + 1 + 1 ≠ S; omega, by show w2.heap.size + 1 + 1 ≠ Tk; omega⟩
    · exact ⟨by show w2.heap.size + 1 + 1 + 1 ≠ M; omega, by show w2.heap.size + 1 + 1 + 1 ≠ S; omega⟩
  · rw [midsL_none]; simp
  · rw [endsL_none]; simp
  · rw [tabsN_none]
    refine ⟨fun x f hx => ?_, ?_⟩
    · unfold comb at hx
      by_cases e : x = -1
      · rw [if_pos e] at hx
        simp only [Option.some.injEq] at hx
        exact ⟨i, hi, by rw [← hx]; exact hroot, by simp [setB], e.symm⟩
      · rw [if_neg e] at hx
        split at hx <;> cases hx
    · have h1 : ∀ k, cntB (fun _ => false) k = 0 := fun k => by
        induction k with
        | zero => rfl
        | succ k ih => simp [cntB, ih]
      show cntB (setB (fun _ => false) i true) n = 1
      rw [cntB_take _ i rfl n hi, h1]
  · refine ⟨fun a ha => ?_, fun g hg f hf => (by cases hf), fun g hg f hf => (by cases hf)⟩
    rw [wordF_clear _ _ ha, if_pos rfl]
    rfl
  · have := hX _ hx
    omega

end Go.Proofs.Ytdhnfhhmacjajaa


/-
  graft: what laws ask of lengths.
-/
namespace Go.Proofs.Ytdhnfhhmacjajaa
open Go Go.RowKit Go.Maps Go.Am Go.Shelf
set_option linter.unusedVariables false
set_option linter.unusedSimpArgs false

theorem row_slice {w : World} {base : Nat} {v : Value} {L : List Int} (hrow : w.ownsRow base 3 1 v L.length (L.map (Value.int .i64))) : ∃ s c, v = .slice s L.length c := by
  rcases hrow.2 with ⟨rfl, hz⟩ | ⟨g, cap, cur, rfl, _⟩
  · rw [hz]; exact ⟨_, _, rfl⟩
  · exact ⟨_, _, rfl⟩

theorem allLen (A : GA) (X : List Nat) (k : Nat) (F : LfF) (w : World) (h : GrAt w A X k F) :
    Calls Try.prog 26 #[.pointer (some ⟨A.t, 0, none⟩)] w fun e w' => ∃ s c, e = .returned (.slice s (allP F).length c) ∧ GrowBut w w' [] := by
  refine (allG A X k F w h).mono ?_
  rintro e w' ⟨v, rfl, hrow, hg⟩
  obtain ⟨s, c, rfl⟩ := row_slice hrow
  exact ⟨s, c, rfl, hg⟩

theorem tablesLen (A : GA) (X : List Nat) (k : Nat) (F : LfF) (w : World) (h : GrAt w A X k F) :
    Calls Try.prog 21 #[.pointer (some ⟨A.t, 0, none⟩)] w fun e w' => ∃ s c, e = .returned (.slice s (tabsN F) c) ∧ GrowBut w w' [] := by
  obtain ⟨mem, tk, b, nh, nt, MI, EN, ow, hT, h1, h2, h3, h4, h5, h6, h7⟩ := h.tree
  refine (tablesG _ _ _ _ _ _ _ mem _ _ tk _ b _ _ nh nt F MI EN ow w hT h1 h2 h3).mono ?_
  rintro e w' ⟨v, rfl, hrow, hg⟩
  obtain ⟨s, c, rfl⟩ := row_slice hrow
  rw [takenL_len, h3.cnt]
  exact ⟨s, c, rfl, hg⟩

theorem leftG (A : GA) (X : List Nat) (k : Nat) (F : LfF) (w : World) (h : GrAt w A X k F) :
    Calls Try.prog 24 #[.pointer (some ⟨A.S, 0, none⟩)] w fun e w' => e = .returned (.int .i64 ((A.n : Int) - (tabsN F : Int))) ∧ GrowBut w w' [] := by
  obtain ⟨mem, tk, b, nh, nt, MI, EN, ow, hT, h1, h2, h3, h4, h5, h6, h7⟩ := h.tree
  have := stockLeft A.S A.Tk A.fro A.n tk w hT.st.stock
  rw [h3.cnt] at this
  exact this

open Classical in
theorem tabs_put_le (F : LfF) (p : Int) (l : Int × Int) : tabsN (putL F p l) ≤ tabsN F + 2 := by
  have h := sameOff_put F p l (p / 16) rfl
  have h1 := len_step (nodup_midsL F 256) (nodup_midsL (putL F p l) 256) h.mids
  have h2 := len_step (nodup_endsL F 256) (nodup_endsL (putL F p l) 256) h.ends
  unfold tabsN
  split at h1 <;> split at h1 <;> split at h2 <;> split at h2 <;> omega

theorem del_put_none (p : Int) (l : Int × Int) : delL (putL noneL p l) p = noneL := by
  funext x; unfold delL putL noneL; by_cases e : x = p <;> simp [e]

theorem put_put (F : LfF) (p : Int) (l l' : Int × Int) : putL (putL F p l) p l' = putL F p l' := by
  funext x; unfold putL; by_cases e : x = p <;> simp [e]

theorem put_same (F : LfF) (p : Int) (l : Int × Int) : putL F p l p = some l := by simp [putL]

theorem put_other (F : LfF) (p : Int) (l : Int × Int) {x : Int} (h : x ≠ p) : putL F p l x = F x := by simp [putL, h]

theorem allP_none : allP noneL = [] := by
  unfold allP noneL
  rw [List.filter_eq_nil_iff]
  intro a _
  simp

open Classical in
theorem allP_put {F : LfF} (h : LfOk F) {p : Int} {l : Int × Int} (hm : MayL p l) : (allP (putL F p l)).length = (allP F).length + (if (F p).isSome then 0 else 1) := by
  have h' := h.put hm
  have hl := len_step (a := p) (allP_nodup F) (allP_nodup (putL F p l)) (fun x hx => by rw [mem_allP h', mem_allP h, put_other F p l hx])
  have e1 : p ∈ allP (putL F p l) := by rw [mem_allP h', put_same]; rfl
  rw [if_pos e1] at hl
  by_cases e : (F p).isSome = true
  · rw [if_pos ((mem_allP h).2 e)] at hl
    rw [if_pos e]
    omega
  · rw [if_neg (fun h2 => e ((mem_allP h).1 h2))] at hl
    rw [if_neg e]
    omega

end Go.Proofs.Ytdhnfhhmacjajaa


/-
  slot.Take, walk.Path, walk.entry.
-/
namespace Go.Proofs.Ytdhnfhhmacjajaa
open Go Go.RowKit Go.Maps Go.Am Go.Shelf
set_option linter.unusedVariables false
set_option linter.unusedSimpArgs false

theorem mayS_dec {k f p : Nat} (h : MayS k f p) : slotN k f p % 4 = k ∧ slotN k f p / 4096 % 256 = f ∧ slotN k f p / 4 % 8 = p := by
  have := mayS_le h
  unfold slotN; omega

theorem grow3 (w : World) (B : Nat) (a b c : Value) : GrowBut w (((w.setCell ⟨B, 0, none⟩ a).setCell ⟨B, 1, none⟩ b).setCell ⟨B, 2, none⟩ c) [B] :=
  ((GrowBut.setCell w ⟨B, 0, none⟩ a).trans (GrowBut.setCell (w.setCell ⟨B, 0, none⟩ a) ⟨B, 1, none⟩ b)).trans (GrowBut.setCell ((w.setCell ⟨B, 0, none⟩ a).setCell ⟨B, 1, none⟩ b) ⟨B, 2, none⟩ c)

theorem frozen3 {w : World} {B j : Nat} (a b c : Value) (h : w.frozen? ⟨B, j, none⟩ = false) : (((w.setCell ⟨B, 0, none⟩ a).setCell ⟨B, 1, none⟩ b).setCell ⟨B, 2, none⟩ c).frozen? ⟨B, j, none⟩ = false := by
  rw [frozen_set, frozen_set, frozen_set]; exact h

theorem set3 {w : World} {B : Nat} {x0 x1 x2 a b c : Value} (r0 : w.cell? ⟨B, 0, none⟩ = some x0) (r1 : w.cell? ⟨B, 1, none⟩ = some x1) (r2 : w.cell? ⟨B, 2, none⟩ = some x2) :
    (((w.setCell ⟨B, 0, none⟩ a).setCell ⟨B, 1, none⟩ b).setCell ⟨B, 2, none⟩ c).cell? ⟨B, 0, none⟩ = some a ∧ (((w.setCell ⟨B, 0, none⟩ a).setCell ⟨B, 1, none⟩ b).setCell ⟨B, 2, none⟩ c).cell? ⟨B, 1, none⟩ = some b ∧ (((w.setCell ⟨B, 0, none⟩ a).setCell ⟨B, 1, none⟩ b).setCell ⟨B, 2, none⟩ c).cell? ⟨B, 2, none⟩ = some c :=
  ⟨cell_setO (cell_setO (cell_setS r0) (by decide)) (by decide), cell_setO (cell_setS (cell_setO r1 (by decide))) (by decide), cell_setS (cell_setO (cell_setO r2 (by decide)) (by decide))⟩

set_option maxRecDepth 100000 in
set_option maxHeartbeats 4000000 in
theorem slotTake (k f p : Nat) (w : World) (h : MayS k f p) : Calls Try.prog 55 #[.int .u64 (slotN k f p)] w fun e w' => e = .returned (.tuple #[slotV k f p, .int .i64 0]) ∧ GrowBut w w' [] := by
  obtain ⟨q1, q2, q3⟩ := mayS_dec h
  obtain ⟨b1, b2, b3⟩ := mayS_le h
  have hv := slotN_lt h
  have hM := fun w1 => slotMay k f p w1 h
  have hP := fun w1 => slotPut k f p w1 h
  generalize slotN k f p = v at q1 q2 q3 hv hP ⊢
  have a1 : bits .and .u64 (v : Int) 3 = (k : Int) := by
    have := u64_and_nat v 3 (by omega) (by omega)
    rw [show (3 : Nat) = 2 ^ 2 - 1 by rfl, Nat.and_two_pow_sub_one_eq_mod, show v % 2 ^ 2 = k by omega] at this
    simpa using this
  have a2 : bits .and .u64 ((v : Int) / 4096) 255 = (f : Int) := by
    have := u64_and_nat (v / 4096) 255 (by omega) (by omega)
    rw [show (255 : Nat) = 2 ^ 8 - 1 by rfl, Nat.and_two_pow_sub_one_eq_mod, show v / 4096 % 2 ^ 8 = f by omega] at this
    simpa using this
  have a3 : bits .and .u64 ((v : Int) / 4) 7 = (p : Int) := by
    have := u64_and_nat (v / 4) 7 (by omega) (by omega)
    rw [show (7 : Nat) = 2 ^ 3 - 1 by rfl, Nat.and_two_pow_sub_one_eq_mod, show v / 4 % 2 ^ 3 = p by omega] at this
    simpa using this
  have w1 := IntWalk.i64_in (k : Int) (by omega)
  have w2 := IntWalk.i64_in (f : Int) (by omega)
  have w3 := IntWalk.i64_in (p : Int) (by omega)
  clear q1 q2 q3
  unfold slotV at hM hP ⊢
  have hcells : ∀ w9, GrowBut ((w.alloc (.cells #[.int .i64 0, .int .i64 0, .int .i64 0] 86)).alloc (.cells #[.int .i64 k, .int .i64 f, .int .i64 p] 86)) w9 [] →
      w9.cell? ⟨w.heap.size + 1, 0, none⟩ = some (.int .i64 k) ∧ w9.cell? ⟨w.heap.size + 1, 1, none⟩ = some (.int .i64 f) ∧ w9.cell? ⟨w.heap.size + 1, 2, none⟩ = some (.int .i64 p) ∧
      w9.cell? ⟨w.heap.size, 0, none⟩ = some (.int .i64 0) ∧ w9.cell? ⟨w.heap.size, 1, none⟩ = some (.int .i64 0) ∧ w9.cell? ⟨w.heap.size, 2, none⟩ = some (.int .i64 0) ∧ w9.frozen? ⟨w.heap.size, 0, none⟩ = false ∧ w9.frozen? ⟨w.heap.size, 1, none⟩ = false ∧ w9.frozen? ⟨w.heap.size, 2, none⟩ = false := fun w9 hg =>
    ⟨hg.cell (by go_simp) (by simp), hg.cell (by go_simp) (by simp), hg.cell (by go_simp) (by simp), hg.cell (by go_simp) (by simp), hg.cell (by go_simp) (by simp), hg.cell (by go_simp) (by simp), hg.frozen (by simp; omega) (by go_simp) (by simp), hg.frozen (by simp; omega) (by go_simp) (by simp), hg.frozen (by simp; omega) (by go_simp) (by simp)⟩
  go_enter Try.func55, Try.ntmps55
  go_upto_region 4 with (first
    | (go_at_call 71; refine (hM _).mono ?_; rintro e w5 ⟨rfl, hg5⟩; obtain ⟨x0, x1, x2, _⟩ := hcells w5 hg5)
    | (go_at_call 58; refine (hP _).mono ?_; rintro e w6 ⟨rfl, hg6⟩; obtain ⟨z0, z1, z2, r0, r1, r2, f0, f1, f2⟩ := hcells w6 (hg5.trans hg6))
    | go_in)
  have hgA : GrowBut w w6 [] := (((GrowBut.alloc _ _ _).trans (GrowBut.alloc _ _ _)).trans hg5).trans hg6
  have hB0 : w.heap.size ≤ w.heap.size := Nat.le_refl _
  have hne : ¬ w.heap.size = w.heap.size + 1 := by omega
  have hne' : ¬ w.heap.size + 1 = w.heap.size := by omega
  clear hcells hM hP hg5 hg6 x0 x1 x2
  generalize w.heap.size + 1 = B1 at z0 z1 z2 hne hne' ⊢
  generalize hB : w.heap.size = B0 at r0 r1 r2 f0 f1 f2 hne hne' ⊢
  clear hB0
  have hB0 : w.heap.size ≤ B0 := by omega
  clear hB
  go_wp2_with fail
  have hGs := grow3 w6 B0 (.int .i64 (k : Int)) (.int .i64 (f : Int)) (.int .i64 (p : Int))
  refine bodyPost_ret_by (v := .tuple #[.agg #[.int .i64 k, .int .i64 f, .int .i64 p], .int .i64 0]) ?_ rfl ?_
  · simp only [results, Try.f55]; go_simp
  · exact ⟨rfl, hgA.from hGs (fun x hx => .inr (by simp at hx; omega))⟩

end Go.Proofs.Ytdhnfhhmacjajaa


/-
  walk.entry.
-/
namespace Go.Proofs.Ytdhnfhhmacjajaa
open Go Go.RowKit Go.Maps Go.Am Go.Shelf
set_option linter.unusedVariables false
set_option linter.unusedSimpArgs false

set_option maxRecDepth 100000 in
set_option maxHeartbeats 4000000 in
theorem entryG (M L nf : Nat) (sec : Int) (mem : Nat → Int) (t n a b c : Nat) (w : World) (hR : RamAt w M L nf sec mem) (ht : t < nf) (hn : n < 16) (hw : wordF mem t n = slotN a b c) (h : MayS a b c) :
    Calls Try.prog 41 #[.pointer (some ⟨M, 0, none⟩), .int .i64 t, .int .i64 n] w fun e w' => e = .returned (.tuple #[slotV a b c, .bool true]) ∧ GrowBut w w' [] := by
  have hga := GrowBut.alloc w (.cells #[.int .i64 0, .int .i64 0, .int .i64 0] 86) []
  have hW := ramWord M L nf sec mem t n _ (hR.kept hga (by simp) (by simp)) ht hn
  rw [hw] at hW
  have hT := slotTake a b c (w.alloc (.cells #[.int .i64 0, .int .i64 0, .int .i64 0] 86)) h
  unfold slotV at hT ⊢
  generalize slotN a b c = v at hW hT
  go_enter Try.func41, Try.ntmps41
  go_upto_region 2 with (first
    | (go_at_call 54; refine hW.mono ?_; rintro e w5 ⟨rfl, hww⟩; rw [hww]; clear hww w5)
    | fail)
  have r0 : (w.alloc (.cells #[.int .i64 0, .int .i64 0, .int .i64 0] 86)).cell? ⟨w.heap.size, 0, none⟩ = some (.int .i64 0) := by go_simp
  have r1 : (w.alloc (.cells #[.int .i64 0, .int .i64 0, .int .i64 0] 86)).cell? ⟨w.heap.size, 1, none⟩ = some (.int .i64 0) := by go_simp
  have r2 : (w.alloc (.cells #[.int .i64 0, .int .i64 0, .int .i64 0] 86)).cell? ⟨w.heap.size, 2, none⟩ = some (.int .i64 0) := by go_simp
  have f0 : (w.alloc (.cells #[.int .i64 0, .int .i64 0, .int .i64 0] 86)).frozen? ⟨w.heap.size, 0, none⟩ = false := by go_simp
  have f1 : (w.alloc (.cells #[.int .i64 0, .int .i64 0, .int .i64 0] 86)).frozen? ⟨w.heap.size, 1, none⟩ = false := by go_simp
  have f2 : (w.alloc (.cells #[.int .i64 0, .int .i64 0, .int .i64 0] 86)).frozen? ⟨w.heap.size, 2, none⟩ = false := by go_simp
  have hlt : w.heap.size < (w.alloc (.cells #[.int .i64 0, .int .i64 0, .int .i64 0] 86)).heap.size := by simp
  have hsz : w.heap.size ≤ w.heap.size := Nat.le_refl _
  generalize w.alloc (.cells #[.int .i64 0, .int .i64 0, .int .i64 0] 86) = w1 at *
  generalize hB : w.heap.size = B0 at r0 r1 r2 f0 f1 f2 hlt ⊢
  have hB0 : w.heap.size ≤ B0 := by omega
  clear hB hsz hW
  go_upto_region 5 with (first
    | (go_at_call 55; refine hT.mono ?_; rintro e w5 ⟨rfl, hg5⟩; have r0' := hg5.cell r0 (by simp); have r1' := hg5.cell r1 (by simp); have r2' := hg5.cell r2 (by simp); have f0' := hg5.frozen (a := ⟨B0, 0, none⟩) hlt f0 (by simp); have f1' := hg5.frozen (a := ⟨B0, 1, none⟩) hlt f1 (by simp); have f2' := hg5.frozen (a := ⟨B0, 2, none⟩) hlt f2 (by simp))
    | fail)
  have hGs := grow3 w5 B0 (.int .i64 (a : Int)) (.int .i64 (b : Int)) (.int .i64 (c : Int))
  obtain ⟨s0, s1, s2⟩ := set3 (a := .int .i64 (a : Int)) (b := .int .i64 (b : Int)) (c := .int .i64 (c : Int)) r0' r1' r2'
  have g0 := frozen3 (.int .i64 (a : Int)) (.int .i64 (b : Int)) (.int .i64 (c : Int)) f0'
  have g1 := frozen3 (.int .i64 (a : Int)) (.int .i64 (b : Int)) (.int .i64 (c : Int)) f1'
  have g2 := frozen3 (.int .i64 (a : Int)) (.int .i64 (b : Int)) (.int .i64 (c : Int)) f2'
  generalize ((w5.setCell ⟨B0, 0, none⟩ (.int .i64 a)).setCell ⟨B0, 1, none⟩ (.int .i64 b)).setCell ⟨B0, 2, none⟩ (.int .i64 c) = w6 at *
  clear r0 r1 r2 f0 f1 f2 r0' r1' r2' f0' f1' f2' hT
  go_wp2_with fail
  have hGt := grow3 w6 B0 (.int .i64 (a : Int)) (.int .i64 (b : Int)) (.int .i64 (c : Int))
  refine bodyPost_ret_by (v := .tuple #[.agg #[.int .i64 a, .int .i64 b, .int .i64 c], .bool true]) ?_ rfl ?_
  · simp only [results, Try.f41]; go_simp
  · exact ⟨rfl, ((hga.trans hg5).from hGs (fun x hx => .inr (by simp at hx; omega))).from hGt (fun x hx => .inr (by simp at hx; omega))⟩

end Go.Proofs.Ytdhnfhhmacjajaa


/-
  walk.Path, walk.Walk.
-/
namespace Go.Proofs.Ytdhnfhhmacjajaa
open Go Go.RowKit Go.Maps Go.Am Go.Shelf
set_option linter.unusedVariables false
set_option linter.unusedSimpArgs false

set_option maxRecDepth 100000 in
set_option maxHeartbeats 4000000 in
theorem pathIn (p : Nat) (w : World) (hp : p < 4096) : Calls Try.prog 38 #[.int .i64 p] w fun e w' => e = .returned (.tuple #[.int .i64 ((p : Int) / 256), .int .i64 ((p : Int) / 16 % 16), .int .i64 ((p : Int) % 16), .bool true]) ∧ w' = w := by
  have h1 : decide ((p : Int) < 0) = false := decide_eq_false (by omega)
  have h2 : decide ((4096 : Int) ≤ (p : Int)) = false := decide_eq_false (by omega)
  have h3 : decide (4096 ≤ p) = false := decide_eq_false (by omega)
  go_enter Try.func38, Try.ntmps38
  go_wp2_with fail
  refine bodyPost_ret_by (v := .tuple #[.int .i64 ((p : Int) / 256), .int .i64 ((p : Int) / 16 % 16), .int .i64 ((p : Int) % 16), .bool true]) ?_ rfl ?_
  · simp only [results, Try.f38]; go_simp
  · exact ⟨rfl, rfl⟩

end Go.Proofs.Ytdhnfhhmacjajaa
