/-
  BellAll: the walk.
-/
import Derived.Test.YtlgfopfibopcnaaBellS
import Derived.Test.YtlgfopfibopcnaaBellN
import Derived.Test.YtlgfopfibopcnaaBellB
import Derived.Test.YtlgfopfibopcnaaRecs
import Derived.Deep.Cut
import Derived.Deep.RegionHeld3
import Derived.BigQuiet
import Derived.BigRegion
namespace Go.Proofs.Ytlgfopfibopcnaa
open Go Go.RowKit Go.Maps Go.Am
set_option linter.unusedVariables false

theorem nine_of (x : Int) : ∃ s : Nat, (wrap64 (x.tmod 9 + 9)).tmod 9 = (s : Int) ∧ s < 9 := by
  have h1 : -9 < x.tmod 9 ∧ x.tmod 9 < 9 := by
    have := Int.tmod_lt_of_pos x (b := 9) (by decide)
    have := Int.lt_tmod_of_pos x (b := 9) (by decide)
    omega
  generalize x.tmod 9 = y at h1
  have : y = -8 ∨ y = -7 ∨ y = -6 ∨ y = -5 ∨ y = -4 ∨ y = -3 ∨ y = -2 ∨ y = -1 ∨ y = 0 ∨ y = 1 ∨ y = 2 ∨ y = 3 ∨ y = 4 ∨ y = 5 ∨ y = 6 ∨ y = 7 ∨ y = 8 := by omega
  rcases this with rfl | rfl | rfl | rfl | rfl | rfl | rfl | rfl | rfl | rfl | rfl | rfl | rfl | rfl | rfl | rfl | rfl
  · exact ⟨1, by decide +kernel, by decide⟩
  · exact ⟨2, by decide +kernel, by decide⟩
  · exact ⟨3, by decide +kernel, by decide⟩
  · exact ⟨4, by decide +kernel, by decide⟩
  · exact ⟨5, by decide +kernel, by decide⟩
  · exact ⟨6, by decide +kernel, by decide⟩
  · exact ⟨7, by decide +kernel, by decide⟩
  · exact ⟨8, by decide +kernel, by decide⟩
  · exact ⟨0, by decide +kernel, by decide⟩
  · exact ⟨1, by decide +kernel, by decide⟩
  · exact ⟨2, by decide +kernel, by decide⟩
  · exact ⟨3, by decide +kernel, by decide⟩
  · exact ⟨4, by decide +kernel, by decide⟩
  · exact ⟨5, by decide +kernel, by decide⟩
  · exact ⟨6, by decide +kernel, by decide⟩
  · exact ⟨7, by decide +kernel, by decide⟩
  · exact ⟨8, by decide +kernel, by decide⟩

theorem wf_u64B {a : Int} (h : (Lit.int .u64 a).wf = true) : 0 ≤ a ∧ a < 18446744073709551616 := by
  simp only [Lit.wf, Bool.and_eq_true, decide_eq_true_eq] at h
  have hm : IntKind.u64.min = 0 := by decide
  have hM : IntKind.u64.max = 18446744073709551615 := by decide
  rw [hm, hM] at h
  omega

theorem row_form {w : World} {base k : Nat} {v : Value} {L : List Int} (hrow : w.ownsRow base 3 1 v k (L.map (Value.int .i64))) (hk : L.length = k) : (v = .slice none 0 0 ∧ k = 0) ∨ ∃ g cap, v = .slice (some ⟨g, 0, none⟩) k cap ∧ ∀ i, i < k → w.cell? ⟨g, i, none⟩ = some (.int .i64 (L.getD i 0)) := by
  rcases hrow.2 with ⟨rfl, hz⟩ | ⟨g, cap, cur, rfl, hbase, hb, h1, h2, h3, h4⟩
  · exact .inl ⟨rfl, hz⟩
  · refine .inr ⟨g, cap, rfl, fun i hi => ?_⟩
    have h5 : (cur.toList.take (k * 1))[i]? = (L.map (Value.int .i64))[i]? := by rw [h4]
    rw [List.getElem?_take_of_lt (by omega), List.getElem?_map] at h5
    have h6 : L[i]? = some (L.getD i 0) := by rw [List.getD_eq_getElem?_getD, List.getElem?_eq_getElem (by omega)]; rfl
    rw [h6] at h5
    simp only [World.cell?, hb]
    simpa using h5

theorem row_head {w : World} {base k : Nat} {v : Value} {xs : List Value} (hrow : w.ownsRow base 3 1 v k xs) : k ≤ maxLen ∧ ∃ q cq, v = .slice q k cq := by
  rcases hrow.2 with ⟨rfl, hz⟩ | ⟨g, cap, cur, rfl, hbase, hb, h1, h2, h3, h4⟩
  · exact ⟨by omega, none, 0, by rw [hz]⟩
  · exact ⟨by omega, _, _, rfl⟩

set_option maxRecDepth 100000 in
set_option maxHeartbeats 8000000 in
theorem bellAll_walk (n : Nat) (p : Option Addr) (cap : Nat) (w : World) (hz : ∀ i, i < n → ∃ g off, p = some ⟨g, off, none⟩ ∧ g < w.heap.size ∧ ∃ cs : List Value, Deed17 cs ∧ cs.length = 4 ∧ ∀ j, j < 4 → w.cell? ⟨g, off + i * 4 + j, none⟩ = cs[j]?) :
    Calls Try.prog 6 #[.slice p n cap] w fun e w' => e = .returned (.bool true) ∧ w.grownBy w' none := by
  by_cases h60 : 60 < n
  · have h1 : (60 : Int) < (n : Int) := by omega
    go_enter Try.func6, Try.ntmps6
    go_wp2_with (first
      | (go_at_call 52; refine (begunBell_true _).mono ?_; rintro e w1 ⟨rfl, hb1⟩)
      | go_in)
    go_ret
    exact ⟨rfl, (GrowBut.of_below hb1).keepAll⟩
  have h1 : ¬ (60 : Int) < (n : Int) := by omega
  go_enter Try.func6, Try.ntmps6
  go_wp2_with (first
    | (go_at_call 52; refine (begunBell_true _).mono ?_; rintro e w1 ⟨rfl, hb1⟩)
    | (go_at_call 53; refine (newBell_calls w1).mono ?_; rintro e w2 ⟨B, b, rfl, hB2, hBlo, hblo, hg2⟩)
    | (go_at_call 54; refine (rnew_calls w2).mono ?_; rintro e w3 ⟨R, m, rfl, hR3, hRlo, hmlo, hg3⟩)
    | go_in)
  have hs1 := hb1.size
  have hs2 := hg2.size
  have hT0 : TwoB w w3 B b R m 0 0 [] [] [B, b] [R, m] := by
    have hBl := hB2.lt
    have hbl := hB2.blt
    refine ⟨⟨0, [], hB2.kept hg3 (by simp) (by simp) (fun e he => by cases he), Nat.le_refl _, fun e he => (by cases he), rfl, rfl⟩, ⟨0, [], hR3, Nat.le_refl _, fun e he => (by cases he), rfl, rfl⟩, fun x hx => ?_, fun x hx => ?_, fun x hx => ?_, ((GrowBut.of_below hb1).trans hg2).trans hg3⟩
    · simp at hx ⊢; omega
    · simp at hx; omega
    · simp at hx; omega
  clear hB2 hR3 hg2 hg3 hBlo hblo hRlo hmlo hs1 hs2 hb1
  go_loopw [5] (fun v5 wr => ∃ (i : Nat) (p : List PB) (F G : List Nat), v5 = .int .i64 i ∧ i ≤ n ∧ TwoB w wr B b R m i i p p F G) (fun v5 _ => n - (match v5 with | .int _ k => k.toNat | _ => 0))
  case atStart => exact ⟨0, [], _, _, rfl, by omega, hT0⟩
  case round =>
    obtain ⟨i, p, F, G, rfl, hi, hT⟩ := hrel
    by_cases hlt : i < n
    · obtain ⟨ga, off, rfl, hga, cs, ⟨ka, wa', fa, ba, rfl, hka, hwa, hfa, hba⟩, _, hcz⟩ := hz i hlt
      have hba' := wf_u64B hba
      obtain ⟨bits, rfl⟩ : ∃ bits : Nat, ba = (bits : Int) := ⟨ba.toNat, by omega⟩
      have hb64 : bits < 18446744073709551616 := by omega
      have c0 : wr.cell? ⟨ga, off + i * 4, none⟩ = some (.int .i64 ka) := hT.grow.cell (hcz 0 (by decide)) (by simp)
      have c1 : wr.cell? ⟨ga, off + i * 4 + 1, none⟩ = some (.int .i64 wa') := hT.grow.cell (hcz 1 (by decide)) (by simp)
      have c2 : wr.cell? ⟨ga, off + i * 4 + 2, none⟩ = some (.int .i64 fa) := hT.grow.cell (hcz 2 (by decide)) (by simp)
      have c3 : wr.cell? ⟨ga, off + i * 4 + 3, none⟩ = some (.int .u64 bits) := hT.grow.cell (hcz 3 (by decide)) (by simp)
      clear hcz hz hba hba'
      have hlt' : (i : Int) < (n : Int) := by omega
      have hi9 : i ≤ 900 := by omega
      obtain ⟨s, hs, hs9⟩ := nine_of ka
      have hTa := hT.kept (GrowBut.alloc wr (.cells #[.int .i64 ka, .int .i64 wa', .int .i64 fa, .int .u64 bits] 78) [])
      have co0 : (wr.alloc (.cells #[.int .i64 ka, .int .i64 wa', .int .i64 fa, .int .u64 bits] 78)).cell? ⟨wr.heap.size, 0, none⟩ = some (.int .i64 ka) := by go_simp
      have co1 : (wr.alloc (.cells #[.int .i64 ka, .int .i64 wa', .int .i64 fa, .int .u64 bits] 78)).cell? ⟨wr.heap.size, 1, none⟩ = some (.int .i64 wa') := by go_simp
      have co2 : (wr.alloc (.cells #[.int .i64 ka, .int .i64 wa', .int .i64 fa, .int .u64 bits] 78)).cell? ⟨wr.heap.size, 2, none⟩ = some (.int .i64 fa) := by go_simp
      have co3 : (wr.alloc (.cells #[.int .i64 ka, .int .i64 wa', .int .i64 fa, .int .u64 bits] 78)).cell? ⟨wr.heap.size, 3, none⟩ = some (.int .u64 bits) := by go_simp
      have hoF : wr.heap.size ∉ F := fun hx => by have := hT.one.lt _ hx; omega
      have hoG : wr.heap.size ∉ G := fun hx => by have := hT.two.lt _ hx; omega
      go_upto_region 10 with go_in
      generalize wr.alloc (.cells #[.int .i64 ka, .int .i64 wa', .int .i64 fa, .int .u64 bits] 78) = wx at hTa co0 co1 co2 co3 ⊢
      clear c0 c1 c2 c3 hT
      generalize wr.heap.size = o at co0 co1 co2 co3 hoF hoG ⊢
      have hs9' : s = 0 ∨ s = 1 ∨ s = 2 ∨ s = 3 ∨ s = 4 ∨ s = 5 ∨ s = 6 ∨ s = 7 ∨ s = 8 := by omega
      rcases hs9' with rfl | rfl | rfl | rfl | rfl | rfl | rfl | rfl | rfl <;> simp only [Int.cast_ofNat_Int] at hs
      · go_upto_region 21 with go_in
        have hTd := hTa.kept (GrowBut.drew wx [])
        go_region_held3 (fun w' => w'.cell? ⟨o, 1, none⟩ = some (.int .i64 wa') ∧ w'.cell? ⟨o, 2, none⟩ = some (.int .i64 fa) ∧ w'.cell? ⟨o, 3, none⟩ = some (.int .u64 bits)) (first | go_keep | (exact ⟨d1, d2, d3⟩) | (exact ⟨e1, e2, e3⟩))
          (first
            | (go_at_call 55; refine (wMake B b i p F wa' _ hTd.one hwa hi9).mono ?_; rintro e w5 ⟨rfl, hW5⟩; obtain ⟨hg5, F5, hT5⟩ := hTd.left hW5; have d1 := hg5.cell co1 hoF; have d2 := hg5.cell co2 hoF; have d3 := hg5.cell co3 hoF)
            | (go_at_call 56; refine (xMake R m i p G wa' _ hT5.two hwa hi9).mono ?_; rintro e w6 ⟨rfl, hW6⟩; obtain ⟨hg6, G6, hT6⟩ := hT5.right hW6; have e1 := hg6.cell d1 hoG; have e2 := hg6.cell d2 hoG; have e3 := hg6.cell d3 hoG)
            | fail)
        obtain ⟨F6, hF6⟩ : ∃ F6, F6 = F5 := ⟨_, rfl⟩
        subst hF6
        clear hTd hTa co0 co1 co2 co3 hT5 hW5 hW6 d1 d2 d3 e3
        generalize (makeF p wa').2 = p' at hT6
        generalize (makeF p wa').1 = er
        go_upto_region 38 with go_in
        have hTq : ∀ nq, TwoB w (w6.drewN nq) B b R m (i + 1) (i + 1) p' p' F6 G6 := fun nq => hT6.kept (GrowBut.drewN w6 nq [])
        go_quiet (first
          | (go_at_call 69; refine Calls.quiet_of_same (wBound B b (i + 1) p' F6 wa' fa _ (hTq _).one hwa hfa))
          | (go_at_call 70; refine Calls.quiet_of_same (xBound R m (i + 1) p' G6 wa' fa _ (hTq _).two hwa hfa))
          | fail)
        go_wp2_with go_in
        exact ⟨⟨i + 1, p', F6, G6, by simp, by omega, hTq _⟩, by simp; omega⟩
      · go_upto_region 23 with go_in
        have hTd := hTa.kept (GrowBut.drew wx [])
        go_region_held3 (fun w' => w'.cell? ⟨o, 1, none⟩ = some (.int .i64 wa') ∧ w'.cell? ⟨o, 2, none⟩ = some (.int .i64 fa) ∧ w'.cell? ⟨o, 3, none⟩ = some (.int .u64 bits)) (first | go_keep | (exact ⟨d1, d2, d3⟩) | (exact ⟨e1, e2, e3⟩))
          (first
            | (go_at_call 57; refine (wUnmake B b i p F wa' _ hTd.one hwa hi9).mono ?_; rintro e w5 ⟨rfl, hW5⟩; obtain ⟨hg5, F5, hT5⟩ := hTd.left hW5; have d1 := hg5.cell co1 hoF; have d2 := hg5.cell co2 hoF; have d3 := hg5.cell co3 hoF)
            | (go_at_call 58; refine (xUnmake R m i p G wa' _ hT5.two hwa hi9).mono ?_; rintro e w6 ⟨rfl, hW6⟩; obtain ⟨hg6, G6, hT6⟩ := hT5.right hW6; have e1 := hg6.cell d1 hoG; have e2 := hg6.cell d2 hoG; have e3 := hg6.cell d3 hoG)
            | fail)
        obtain ⟨F6, hF6⟩ : ∃ F6, F6 = F5 := ⟨_, rfl⟩
        subst hF6
        clear hTd hTa co0 co1 co2 co3 hT5 hW5 hW6 d1 d2 d3 e3
        generalize (unmakeF p wa').2 = p' at hT6
        generalize (unmakeF p wa').1 = er
        go_upto_region 38 with go_in
        have hTq : ∀ nq, TwoB w (w6.drewN nq) B b R m (i + 1) (i + 1) p' p' F6 G6 := fun nq => hT6.kept (GrowBut.drewN w6 nq [])
        go_quiet (first
          | (go_at_call 69; refine Calls.quiet_of_same (wBound B b (i + 1) p' F6 wa' fa _ (hTq _).one hwa hfa))
          | (go_at_call 70; refine Calls.quiet_of_same (xBound R m (i + 1) p' G6 wa' fa _ (hTq _).two hwa hfa))
          | fail)
        go_wp2_with go_in
        exact ⟨⟨i + 1, p', F6, G6, by simp, by omega, hTq _⟩, by simp; omega⟩
      · go_upto_region 26 with go_in
        have hTd := hTa.kept (GrowBut.drew wx [])
        go_region_held3 (fun w' => w'.cell? ⟨o, 1, none⟩ = some (.int .i64 wa') ∧ w'.cell? ⟨o, 2, none⟩ = some (.int .i64 fa) ∧ w'.cell? ⟨o, 3, none⟩ = some (.int .u64 bits)) (first | go_keep | (exact ⟨d1, d2, d3⟩) | (exact ⟨e1, e2, e3⟩))
          (first
            | (go_at_call 59; refine (wBind B b i p F wa' fa bits _ hTd.one hwa hfa hb64 hi9).mono ?_; rintro e w5 ⟨rfl, hW5⟩; obtain ⟨hg5, F5, hT5⟩ := hTd.left hW5; have d1 := hg5.cell co1 hoF; have d2 := hg5.cell co2 hoF; have d3 := hg5.cell co3 hoF)
            | (go_at_call 60; refine (xBind R m i p G wa' fa bits _ hT5.two hwa hfa hb64 hi9).mono ?_; rintro e w6 ⟨rfl, hW6⟩; obtain ⟨hg6, G6, hT6⟩ := hT5.right hW6; have e1 := hg6.cell d1 hoG; have e2 := hg6.cell d2 hoG; have e3 := hg6.cell d3 hoG)
            | fail)
        obtain ⟨F6, hF6⟩ : ∃ F6, F6 = F5 := ⟨_, rfl⟩
        subst hF6
        clear hTd hTa co0 co1 co2 co3 hT5 hW5 hW6 d1 d2 d3 e3
        generalize (bindF p wa' fa bits).2 = p' at hT6
        generalize (bindF p wa' fa bits).1 = er
        go_upto_region 38 with go_in
        have hTq : ∀ nq, TwoB w (w6.drewN nq) B b R m (i + 1) (i + 1) p' p' F6 G6 := fun nq => hT6.kept (GrowBut.drewN w6 nq [])
        go_quiet (first
          | (go_at_call 69; refine Calls.quiet_of_same (wBound B b (i + 1) p' F6 wa' fa _ (hTq _).one hwa hfa))
          | (go_at_call 70; refine Calls.quiet_of_same (xBound R m (i + 1) p' G6 wa' fa _ (hTq _).two hwa hfa))
          | fail)
        go_wp2_with go_in
        exact ⟨⟨i + 1, p', F6, G6, by simp, by omega, hTq _⟩, by simp; omega⟩
      · go_upto_region 26 with go_in
        have hTd := hTa.kept (GrowBut.drew wx [])
        go_region_held3 (fun w' => w'.cell? ⟨o, 1, none⟩ = some (.int .i64 wa') ∧ w'.cell? ⟨o, 2, none⟩ = some (.int .i64 fa) ∧ w'.cell? ⟨o, 3, none⟩ = some (.int .u64 bits)) (first | go_keep | (exact ⟨d1, d2, d3⟩) | (exact ⟨e1, e2, e3⟩))
          (first
            | (go_at_call 59; refine (wBind B b i p F wa' fa bits _ hTd.one hwa hfa hb64 hi9).mono ?_; rintro e w5 ⟨rfl, hW5⟩; obtain ⟨hg5, F5, hT5⟩ := hTd.left hW5; have d1 := hg5.cell co1 hoF; have d2 := hg5.cell co2 hoF; have d3 := hg5.cell co3 hoF)
            | (go_at_call 60; refine (xBind R m i p G wa' fa bits _ hT5.two hwa hfa hb64 hi9).mono ?_; rintro e w6 ⟨rfl, hW6⟩; obtain ⟨hg6, G6, hT6⟩ := hT5.right hW6; have e1 := hg6.cell d1 hoG; have e2 := hg6.cell d2 hoG; have e3 := hg6.cell d3 hoG)
            | fail)
        obtain ⟨F6, hF6⟩ : ∃ F6, F6 = F5 := ⟨_, rfl⟩
        subst hF6
        clear hTd hTa co0 co1 co2 co3 hT5 hW5 hW6 d1 d2 d3 e3
        generalize (bindF p wa' fa bits).2 = p' at hT6
        generalize (bindF p wa' fa bits).1 = er
        go_upto_region 38 with go_in
        have hTq : ∀ nq, TwoB w (w6.drewN nq) B b R m (i + 1) (i + 1) p' p' F6 G6 := fun nq => hT6.kept (GrowBut.drewN w6 nq [])
        go_quiet (first
          | (go_at_call 69; refine Calls.quiet_of_same (wBound B b (i + 1) p' F6 wa' fa _ (hTq _).one hwa hfa))
          | (go_at_call 70; refine Calls.quiet_of_same (xBound R m (i + 1) p' G6 wa' fa _ (hTq _).two hwa hfa))
          | fail)
        go_wp2_with go_in
        exact ⟨⟨i + 1, p', F6, G6, by simp, by omega, hTq _⟩, by simp; omega⟩
      · go_upto_region 28 with go_in
        have hTd := hTa.kept (GrowBut.drew wx [])
        go_region_held3 (fun w' => w'.cell? ⟨o, 1, none⟩ = some (.int .i64 wa') ∧ w'.cell? ⟨o, 2, none⟩ = some (.int .i64 fa) ∧ w'.cell? ⟨o, 3, none⟩ = some (.int .u64 bits)) (first | go_keep | (exact ⟨d1, d2, d3⟩) | (exact ⟨e1, e2, e3⟩))
          (first
            | (go_at_call 61; refine (wUnbind B b i p F wa' fa bits _ hTd.one hwa hfa hb64 hi9).mono ?_; rintro e w5 ⟨rfl, hW5⟩; obtain ⟨hg5, F5, hT5⟩ := hTd.left hW5; have d1 := hg5.cell co1 hoF; have d2 := hg5.cell co2 hoF; have d3 := hg5.cell co3 hoF)
            | (go_at_call 62; refine (xUnbind R m i p G wa' fa bits _ hT5.two hwa hfa hb64 hi9).mono ?_; rintro e w6 ⟨rfl, hW6⟩; obtain ⟨hg6, G6, hT6⟩ := hT5.right hW6; have e1 := hg6.cell d1 hoG; have e2 := hg6.cell d2 hoG; have e3 := hg6.cell d3 hoG)
            | fail)
        obtain ⟨F6, hF6⟩ : ∃ F6, F6 = F5 := ⟨_, rfl⟩
        subst hF6
        clear hTd hTa co0 co1 co2 co3 hT5 hW5 hW6 d1 d2 d3 e3
        generalize (unbindF p wa' fa bits).2 = p' at hT6
        generalize (unbindF p wa' fa bits).1 = er
        go_upto_region 38 with go_in
        have hTq : ∀ nq, TwoB w (w6.drewN nq) B b R m (i + 1) (i + 1) p' p' F6 G6 := fun nq => hT6.kept (GrowBut.drewN w6 nq [])
        go_quiet (first
          | (go_at_call 69; refine Calls.quiet_of_same (wBound B b (i + 1) p' F6 wa' fa _ (hTq _).one hwa hfa))
          | (go_at_call 70; refine Calls.quiet_of_same (xBound R m (i + 1) p' G6 wa' fa _ (hTq _).two hwa hfa))
          | fail)
        go_wp2_with go_in
        exact ⟨⟨i + 1, p', F6, G6, by simp, by omega, hTq _⟩, by simp; omega⟩
      · go_upto_region 31 with go_in
        have hTd := hTa.kept (GrowBut.drew wx [])
        go_region_held3 (fun w' => w'.cell? ⟨o, 1, none⟩ = some (.int .i64 wa') ∧ w'.cell? ⟨o, 2, none⟩ = some (.int .i64 fa) ∧ w'.cell? ⟨o, 3, none⟩ = some (.int .u64 bits)) (first | go_keep | (exact ⟨d1, d2, d3⟩) | (exact ⟨e1, e2, e3⟩))
          (first
            | (go_at_call 63; refine (wRing B b i p F wa' fa bits _ hTd.one hwa hfa hb64 hi9).mono ?_; rintro e w5 ⟨rfl, hW5⟩; obtain ⟨hg5, F5, hT5⟩ := hTd.left hW5; have d1 := hg5.cell co1 hoF; have d2 := hg5.cell co2 hoF; have d3 := hg5.cell co3 hoF)
            | (go_at_call 64; refine (xRing R m i p G wa' fa bits _ hT5.two hwa hfa hb64 hi9).mono ?_; rintro e w6 ⟨rfl, hW6⟩; obtain ⟨hg6, G6, hT6⟩ := hT5.right hW6; have e1 := hg6.cell d1 hoG; have e2 := hg6.cell d2 hoG; have e3 := hg6.cell d3 hoG)
            | fail)
        obtain ⟨F6, hF6⟩ : ∃ F6, F6 = F5 := ⟨_, rfl⟩
        subst hF6
        clear hTd hTa co0 co1 co2 co3 hT5 hW5 hW6 d1 d2 d3 e3
        generalize (ringF p wa' fa bits).2 = p' at hT6
        generalize (ringF p wa' fa bits).1 = er
        go_upto_region 38 with go_in
        have hTq : ∀ nq, TwoB w (w6.drewN nq) B b R m (i + 1) (i + 1) p' p' F6 G6 := fun nq => hT6.kept (GrowBut.drewN w6 nq [])
        go_quiet (first
          | (go_at_call 69; refine Calls.quiet_of_same (wBound B b (i + 1) p' F6 wa' fa _ (hTq _).one hwa hfa))
          | (go_at_call 70; refine Calls.quiet_of_same (xBound R m (i + 1) p' G6 wa' fa _ (hTq _).two hwa hfa))
          | fail)
        go_wp2_with go_in
        exact ⟨⟨i + 1, p', F6, G6, by simp, by omega, hTq _⟩, by simp; omega⟩
      · go_upto_region 31 with go_in
        have hTd := hTa.kept (GrowBut.drew wx [])
        go_region_held3 (fun w' => w'.cell? ⟨o, 1, none⟩ = some (.int .i64 wa') ∧ w'.cell? ⟨o, 2, none⟩ = some (.int .i64 fa) ∧ w'.cell? ⟨o, 3, none⟩ = some (.int .u64 bits)) (first | go_keep | (exact ⟨d1, d2, d3⟩) | (exact ⟨e1, e2, e3⟩))
          (first
            | (go_at_call 63; refine (wRing B b i p F wa' fa bits _ hTd.one hwa hfa hb64 hi9).mono ?_; rintro e w5 ⟨rfl, hW5⟩; obtain ⟨hg5, F5, hT5⟩ := hTd.left hW5; have d1 := hg5.cell co1 hoF; have d2 := hg5.cell co2 hoF; have d3 := hg5.cell co3 hoF)
            | (go_at_call 64; refine (xRing R m i p G wa' fa bits _ hT5.two hwa hfa hb64 hi9).mono ?_; rintro e w6 ⟨rfl, hW6⟩; obtain ⟨hg6, G6, hT6⟩ := hT5.right hW6; have e1 := hg6.cell d1 hoG; have e2 := hg6.cell d2 hoG; have e3 := hg6.cell d3 hoG)
            | fail)
        obtain ⟨F6, hF6⟩ : ∃ F6, F6 = F5 := ⟨_, rfl⟩
        subst hF6
        clear hTd hTa co0 co1 co2 co3 hT5 hW5 hW6 d1 d2 d3 e3
        generalize (ringF p wa' fa bits).2 = p' at hT6
        generalize (ringF p wa' fa bits).1 = er
        go_upto_region 38 with go_in
        have hTq : ∀ nq, TwoB w (w6.drewN nq) B b R m (i + 1) (i + 1) p' p' F6 G6 := fun nq => hT6.kept (GrowBut.drewN w6 nq [])
        go_quiet (first
          | (go_at_call 69; refine Calls.quiet_of_same (wBound B b (i + 1) p' F6 wa' fa _ (hTq _).one hwa hfa))
          | (go_at_call 70; refine Calls.quiet_of_same (xBound R m (i + 1) p' G6 wa' fa _ (hTq _).two hwa hfa))
          | fail)
        go_wp2_with go_in
        exact ⟨⟨i + 1, p', F6, G6, by simp, by omega, hTq _⟩, by simp; omega⟩
      · go_upto_region 38 with (first
          | (go_at_call 65; refine (wHear B b i p F wa' _ hTa.one hwa hi9).mono ?_; rintro e w5 ⟨rfl, hW5⟩; obtain ⟨hg5, F5, hT5⟩ := hTa.left hW5; have d1 := hg5.cell co1 hoF; have d2 := hg5.cell co2 hoF)
          | (go_at_call 66; refine (xHear R m i p G wa' _ hT5.two hwa hi9).mono ?_; rintro e w6 ⟨rfl, hW6⟩; obtain ⟨hg6, G6, hT6⟩ := hT5.right hW6; have e1 := hg6.cell d1 hoG; have e2 := hg6.cell d2 hoG)
          | go_in)
        obtain ⟨F6, hF6⟩ : ∃ F6, F6 = F5 := ⟨_, rfl⟩
        subst hF6
        clear hTa co0 co1 co2 co3 hT5 hW5 hW6 d1 d2
        generalize (hearF p wa').2.2 = p' at hT6
        generalize (hearF p wa').2.1 = er
        generalize (hearF p wa').1 = hv
        go_upto_region 38 with go_in
        have hTq : ∀ nq, TwoB w (w6.drewN nq) B b R m (i + 1) (i + 1) p' p' F6 G6 := fun nq => hT6.kept (GrowBut.drewN w6 nq [])
        go_quiet (first
          | (go_at_call 69; refine Calls.quiet_of_same (wBound B b (i + 1) p' F6 wa' fa _ (hTq _).one hwa hfa))
          | (go_at_call 70; refine Calls.quiet_of_same (xBound R m (i + 1) p' G6 wa' fa _ (hTq _).two hwa hfa))
          | fail)
        go_wp2_with go_in
        exact ⟨⟨i + 1, p', F6, G6, by simp, by omega, hTq _⟩, by simp; omega⟩
      · go_wp2_with (first
          | (go_at_call 67; refine (wNews B b i p F _ hTa.one hi9).mono ?_; rintro e w5 ⟨v13, L, rfl, hris, hp5, hrow5, hW5⟩; obtain ⟨hg5, F5, hT5⟩ := hTa.left hW5; have d1 := hg5.cell co1 hoF; have d2 := hg5.cell co2 hoF)
          | (go_at_call 68; refine (xNews R m i p G _ hT5.two hi9).mono ?_; rintro e w6 ⟨v14, L', rfl, hris', hp6, hrow6, hW6⟩; obtain ⟨hg6, G6, hT6⟩ := hT5.right hW6; have e1 := hg6.cell d1 hoG; have e2 := hg6.cell d2 hoG; obtain rfl : L = L' := rises_unique hris hris' (hp5.trans hp6.symm); have hrow5' := hg6.row hrow5 (fun j hj hG => by have h1 := (hrow5.lt j hj).1; have h2 := hTa.two.lt j hG; omega); have hca := row_form hrow5' rfl; have hcb := row_form hrow6 rfl; obtain ⟨hLm, q1, cq1, rfl⟩ := row_head hrow5'; obtain ⟨_, q2, cq2, rfl⟩ := row_head hrow6; clear hrow5 hrow6 hrow5')
          | go_in)
        obtain ⟨F6, hF6⟩ : ∃ F6, F6 = F5 := ⟨_, rfl⟩
        subst hF6
        clear hTa co0 co1 co2 co3 hT5 hW5 hW6 d1 d2 hp5 hp6 hris hris'
        generalize hushF p = p' at hT6
        go_loopw [15] (fun v15 wy => ∃ k : Nat, v15 = .int .i64 k ∧ k ≤ L.length ∧ GrowBut w6 wy []) (fun v15 _ => L.length - (match v15 with | .int _ k => k.toNat | _ => 0))
        case atStart => exact ⟨0, rfl, by omega, .refl _ _⟩
        case round =>
          obtain ⟨k, rfl, hk, hgk⟩ := hrel
          by_cases hkl : k < L.length
          · obtain ⟨gq, rfl, hcg⟩ : ∃ g, q1 = some ⟨g, 0, none⟩ ∧ w6.cell? ⟨g, k, none⟩ = some (.int .i64 (L.getD k 0)) := by
              rcases hca with ⟨_, h0⟩ | ⟨g, cap, e, h3⟩
              · omega
              · cases e; exact ⟨g, rfl, h3 k hkl⟩
            obtain ⟨gp, rfl, hch⟩ : ∃ g, q2 = some ⟨g, 0, none⟩ ∧ w6.cell? ⟨g, k, none⟩ = some (.int .i64 (L.getD k 0)) := by
              rcases hcb with ⟨_, h0⟩ | ⟨g, cap, e, h3⟩
              · omega
              · cases e; exact ⟨g, rfl, h3 k hkl⟩
            have hc1 := hgk.cell hcg (by simp)
            have hc2 := hgk.cell hch (by simp)
            generalize L.getD k 0 = l0 at hc1 hc2
            have hkl' : (k : Int) < (L.length : Int) := by omega
            have hk1 : (k : Int) ≤ 9223372036854775806 := by unfold maxLen at hLm; omega
            clear hca hcb hcg hch
            go_wp2_with go_in
            go_quiet (fail)
            go_wp2_with go_in
            exact ⟨⟨k + 1, by simp, by omega, hgk.trans (GrowBut.drewN _ _ _)⟩, by simp; omega⟩
          · have hge : ¬ (k : Int) < (L.length : Int) := by omega
            replace hT6 := hT6.kept hgk
            replace e1 := hgk.cell e1 (by simp)
            replace e2 := hgk.cell e2 (by simp)
            clear hca hcb
            go_upto_region 38 with go_in
            have hTq : ∀ nq, TwoB w (wr.drewN nq) B b R m (i + 1) (i + 1) p' p' F6 G6 := fun nq => hT6.kept (GrowBut.drewN wr nq [])
            go_quiet (first
              | (go_at_call 69; refine Calls.quiet_of_same (wBound B b (i + 1) p' F6 wa' fa _ (hTq _).one hwa hfa))
              | (go_at_call 70; refine Calls.quiet_of_same (xBound R m (i + 1) p' G6 wa' fa _ (hTq _).two hwa hfa))
              | fail)
            go_wp2_with go_in
            exact ⟨⟨i + 1, p', F6, G6, by simp, by omega, hTq _⟩, by simp; omega⟩
    · have hge : ¬ (i : Int) < (n : Int) := by omega
      have hgw := hT.grow
      clear hT hz
      go_wp2_with (first
        | (go_at_call 65; refine (hear_nil _).mono ?_; rintro e w7 ⟨rfl, hw7⟩; rw [hw7]; clear hw7 w7)
        | (go_at_call 55; refine (make_nil _).mono ?_; rintro e w7 ⟨rfl, hw7⟩; rw [hw7]; clear hw7 w7)
        | (go_at_call 69; refine (bound_nil _).mono ?_; rintro e w7 ⟨rfl, hw7⟩; rw [hw7]; clear hw7 w7)
        | (go_at_call 67; refine (news_nil _).mono ?_; rintro e w7 ⟨rfl, hw7⟩; rw [hw7]; clear hw7 w7)
        | (go_at_call 63; refine (ring_nil _).mono ?_; rintro e w7 ⟨rfl, hw7⟩; rw [hw7]; clear hw7 w7)
        | go_in)
      go_ret
      exact ⟨rfl, hgw.keepAll⟩

end Go.Proofs.Ytlgfopfibopcnaa
