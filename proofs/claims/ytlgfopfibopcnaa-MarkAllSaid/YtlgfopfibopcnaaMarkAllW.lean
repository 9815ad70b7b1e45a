/-
  MarkAll: the walk.
-/
import Derived.Test.YtlgfopfibopcnaaMarkU
import Derived.Test.YtlgfopfibopcnaaMarkB
import Derived.Deep.Cut
import Derived.Deep.RegionHeld3
import Derived.BigQuiet
import Derived.BigRegion
namespace Go.Proofs.Ytlgfopfibopcnaa
open Go Go.RowKit Go.Maps Go.Am
set_option linter.unusedVariables false

theorem MTwo.dropped0 {w0 w w' : World} {B b R base i : Nat} {g : Nat → Int} {L : List Int} {sv : Value} {S : List Int} (h : MTwo w0 w B b R base i g L sv S) (hM : MarksAt w' B b i g L) (hg : GrowBut w w' [b]) : MTwo w0 w' B b R base i g L sv S := by
  have hlt := h.lt
  refine ⟨hM, h.r.kept hg (by have := h.ne; simp; omega) (fun x hx => by simp at hx; omega), h.er, h.len, hg.row h.seen (fun j hj hm => by have h1 := (h.seen.lt j hj).1; simp at hm; omega), h.swf, h.slen, fun v j hv hj => ?_, h.low, h.lt, h.ne, Nat.le_trans h.size hg.size, h.grow.from hg (fun x hx => .inr (by have := h.low; simp at hx; omega))⟩
  obtain ⟨v0, hc, _⟩ := h.r.ex
  have h1 := hg.cell hc (by have := h.ne; simp; omega)
  rw [h1] at hv
  cases hv
  exact h.apart _ j hc hj

set_option maxRecDepth 100000 in
set_option maxHeartbeats 8000000 in
theorem markAll_walk (n : Nat) (p : Option Addr) (cap : Nat) (any : Int) (w : World) (hz : ∀ i, i < n → ∃ g off, p = some ⟨g, off, none⟩ ∧ g < w.heap.size ∧ ∃ cs : List Value, PairQ cs ∧ cs.length = 2 ∧ ∀ j, j < 2 → w.cell? ⟨g, off + i * 2 + j, none⟩ = cs[j]?) (hany : (Lit.int .u64 any).wf = true) :
    Calls Try.prog 3 #[.slice p n cap, .int .u64 any] w fun e w' => e = .returned (.bool true) ∧ w.grownBy w' none := by
  by_cases h60 : 60 < n
  · have h1 : (60 : Int) < (n : Int) := by omega
    go_enter Try.func3, Try.ntmps3
    go_wp2_with (first
      | (go_at_call 18; refine (begunMark_true _).mono ?_; rintro e w1 ⟨rfl, hb1⟩)
      | go_in)
    go_ret
    exact ⟨rfl, (GrowBut.of_below hb1).keepAll⟩
  have h1 : ¬ (60 : Int) < (n : Int) := by omega
  go_enter Try.func3, Try.ntmps3
  go_wp2_with (first
    | (go_at_call 18; refine (begunMark_true _).mono ?_; rintro e w1 ⟨rfl, hb1⟩)
    | (go_at_call 19; refine (newM_calls w1).mono ?_; rintro e w2 ⟨B, b, rfl, hM2, hBlo, hblo, hg2⟩)
    | go_in)
  have hs1 := hb1.size
  have hs2 := hg2.size
  have hBl := hM2.lt
  have hbl := hM2.blt
  have hga := GrowBut.alloc w2 (.cells #[.int .u64 0, .int .u64 0, .int .u64 0, .int .u64 0, .int .u64 0, .int .u64 0, .slice none 0 0] 31) []
  have hT0 : MTwo w (w2.alloc (.cells #[.int .u64 0, .int .u64 0, .int .u64 0, .int .u64 0, .int .u64 0, .int .u64 0, .slice none 0 0] 31)) B b w2.heap.size (w2.heap.size + 1) 0 (fun _ => 0) [] (.slice none 0 0) [] := by
    refine ⟨hM2.kept hga (by simp) (by simp), ⟨fun k hk => ?_, fun k hk => ?_, ⟨.slice none 0 0, by go_simp, World.ownsRow_nil _ _ _ _⟩, by simp, by omega, fun x hx => (by cases hx), List.nodup_nil, by simp⟩, fun s => List.Pairwise.nil, by simp, World.ownsRow_nil _ _ _ _, fun x hx => (by cases hx), by simp, fun v j hv hj => (by simp [Value.ownBlock]), by omega, by omega, by omega, by simp, ((GrowBut.of_below hb1).trans hg2).trans hga⟩
    · have : k = 0 ∨ k = 1 ∨ k = 2 ∨ k = 3 ∨ k = 4 ∨ k = 5 := by omega
      rcases this with rfl | rfl | rfl | rfl | rfl | rfl <;> go_simp
    · have : k = 0 ∨ k = 1 ∨ k = 2 ∨ k = 3 ∨ k = 4 ∨ k = 5 ∨ k = 6 := by omega
      rcases this with rfl | rfl | rfl | rfl | rfl | rfl | rfl <;> go_simp
  generalize w2.alloc (.cells #[.int .u64 0, .int .u64 0, .int .u64 0, .int .u64 0, .int .u64 0, .int .u64 0, .slice none 0 0] 31) = wa at hT0 ⊢
  generalize hbase : w2.heap.size + 1 = base at hT0
  generalize w2.heap.size = R at hT0 ⊢
  clear hbase hga hbl hBl hs2 hs1 hM2 hBlo hblo hg2
  go_loopw [7, 8] (fun v7 v8 wr => ∃ (i : Nat) (g : Nat → Int) (L S : List Int), v8 = .int .i64 i ∧ i ≤ n ∧ MTwo w wr B b R base i g L v7 S) (fun _ v8 _ => n - (match v8 with | .int _ k => k.toNat | _ => 0))
  case atStart => exact ⟨0, _, [], [], rfl, by omega, hT0⟩
  case round =>
    obtain ⟨i, g, L, S, rfl, hi, hT⟩ := hrel
    obtain ⟨q, cq, rfl⟩ := rowU_len hT.seen
    by_cases hlt : i < n
    · obtain ⟨ga, off, rfl, hga, cs, hpq, hcl, hcz⟩ := hz i hlt
      obtain ⟨ka, sa, rfl⟩ := hpq hcl
      have c0 : wr.cell? ⟨ga, off + i * 2, none⟩ = some (.int .i64 ka) := hT.grow.cell (hcz 0 (by decide)) (by simp)
      have c1 : wr.cell? ⟨ga, off + i * 2 + 1, none⟩ = some (.int .i64 sa) := hT.grow.cell (hcz 1 (by decide)) (by simp)
      clear hcz hz hpq hcl
      have hlt' : (i : Int) < (n : Int) := by omega
      have hlow := hT.low
      have hgaB : ga ∉ [B, b] := by
        obtain ⟨hl1, hl2, -, -⟩ := hlow
        intro hm
        rcases List.mem_cons.1 hm with e1 | hm
        · rw [e1] at hga; omega
        · rcases List.mem_cons.1 hm with e1 | hm
          · rw [e1] at hga; omega
          · cases hm
      have h3 := i64_and3 ka
      have h63 := i64_and63 sa
      have hSi : S.length ≤ i := hT.slen
      have hSI : (S.length : Int) ≤ 60 := by have := hT.slen; omega
      by_cases hpos : ka % 4 > 0
      · skip
        obtain ⟨x, e, g', L', hl', he', hxw, hA, hB⟩ := give_both (base := base) (R := R) hT.m hT.er sa (by omega) hT.len
        go_upto_region 15 with (first
          | (go_at_call 20; refine hA.mono ?_; rintro r w5 ⟨rfl, hM5, hg5⟩; obtain ⟨hR5, hb5⟩ := hT.mid hg5; have hB5 := hB w5 hR5 hb5; have d1 := hg5.cell c1 hgaB)
          | (go_at_call 21; refine hB5.mono ?_; rintro r w6 ⟨rfl, hR6, hg6, hN6⟩; have hT6 := hT.step hl' he' hM5 hg5 hR6 hg6 hN6)
          | go_in)
        clear hA hB hB5 hM5 hR5 hR6 hN6 hT c0 c1 d1
        by_cases he0 : e = 0
        · subst he0
          obtain ⟨i0, hi0, hz0, hz1, hz2⟩ := info_parts infoM
          have hsn := hT6.seen
          have hsz := hT6.size
          have hsl := hT6.slen
          go_upto_region 20 with (first
            | (at_builtin; refine wpList_append_own_at _ rfl _ _ 29 rfl base 23 i0 (.int .u64 0) 1 8 Try.underlying29 hi0 hz0 hz1 hz2 rfl (by decide) _ _ _ rfl (hsn.alloc _) ⟨w6.heap.size, 0, none⟩ 1 1 [.int .u64 x] rfl rfl (cell_one_new _ _ _) (by simp [Value.oneCell']) (by unfold maxLen; omega) (by omega) (by simp; omega) ?_; intro v7 w7 own7 g7 nil7 at7)
            | go_in)
          have hT7 := hT6.noted hxw (by omega) ((GrowBut.alloc w6 (.cells #[.int .u64 x] 23) _).trans (GrowBut.of_rowM g7)) (by simpa using own7) (by
            rcases at7 with h | h
            · exact .inl h
            · exact .inr ⟨_, h, by simp⟩)
          clear hT6 hsn g7 own7 at7 nil7
          obtain ⟨w6', hw6⟩ : ∃ w6', w6' = w7 := ⟨_, rfl⟩
          subst hw6
          go_wp2_with go_in
          go_loopw [14] (fun v14 wy => ∃ s : Int, v14 = .int .i64 s ∧ -1 ≤ s ∧ s ≤ 7 ∧ GrowBut w6' wy []) (fun v14 _ => (7 - (match v14 with | .int _ s => s | _ => 0)).toNat)
          case atStart => exact ⟨-1, rfl, by omega, by omega, .refl _ _⟩
          case round =>
            obtain ⟨s, rfl, hs1, hs7, hgy⟩ := hrel
            have hTy := hT7.kept hgy
            by_cases hsl : s ≤ 6
            · have hO := ofS_calls B b (i + 1) g' L' s wr hTy.m (by omega)
              have hRk := fun w7 (hg : GrowBut wr w7 []) => rofM_calls base R g' L'.reverse s w7 (hTy.r.kept hg (by simp) (by simp))
              go_upto_region 24 with (first
                | (go_at_call 24; refine hO.mono ?_; rintro r w7 ⟨v15, R1, rfl, hRp, hRr, hRow, hg7⟩; have hO2 := hRk w7 hg7)
                | (go_at_call 25; refine hO2.mono ?_; rintro r w8 ⟨v16, rfl, hrow8, hg8⟩)
                | go_in)
              obtain rfl := of_same hRp hRr hTy.er
              have hg78 := hg7.trans hg8
              have hT8 := hTy.kept hg78
              have hin : ∀ x ∈ ofWho L'.reverse s, x ∈ L' := fun x hx => by
                have := (List.mem_filter.1 hx).1
                simpa using this
              have hwfK : ∀ x ∈ ofWho L'.reverse s, (Lit.int .u64 x).wf = true := fun x hx => hTy.r.wf x (List.mem_filter.1 hx).1
              have hlen : (ofWho L'.reverse s).length ≤ 1000 := by
                have h1 : (ofWho L'.reverse s).length ≤ L'.reverse.length := List.length_filter_le _ _
                have h2 := hTy.len
                rw [List.length_reverse] at h1
                omega
              have hca : (∃ q cq, v15 = .slice q (ofWho L'.reverse s).length cq ∧ ∀ k (hk : k < (ofWho L'.reverse s).length), ∃ r, q = some ⟨r, 0, none⟩ ∧ w8.cell? ⟨r, k, none⟩ = some (.int .u64 (ofWho L'.reverse s)[k])) := by
                rcases hRow with ⟨h0, rfl⟩ | ⟨r, cap', rfl, _, _, _, _, _, hcells⟩
                · exact ⟨none, 0, by rw [h0]; rfl, fun k hk => by rw [h0] at hk; simp at hk⟩
                · exact ⟨_, _, rfl, fun k hk => ⟨r, rfl, hg8.cell (hcells k _ (List.getElem?_eq_getElem hk)) (by simp)⟩⟩
              have hcb : (∃ q cq, v16 = .slice q (ofWho L'.reverse s).length cq ∧ ∀ k (hk : k < (ofWho L'.reverse s).length), ∃ r, q = some ⟨r, 0, none⟩ ∧ w8.cell? ⟨r, k, none⟩ = some (.int .u64 (ofWho L'.reverse s)[k])) := by
                rcases hrow8.2 with ⟨rfl, hz⟩ | ⟨r, cap', cur, rfl, _, hbk, _, _, _, h4⟩
                · exact ⟨none, 0, by rw [hz], fun k hk => by omega⟩
                · refine ⟨_, _, rfl, fun k hk => ⟨r, rfl, ?_⟩⟩
                  have h5 : (cur.toList.take ((ofWho L'.reverse s).length * 1))[k]? = ((ofWho L'.reverse s).map (Value.int .u64))[k]? := by rw [h4]
                  rw [List.getElem?_take_of_lt (by omega), List.getElem?_map, List.getElem?_eq_getElem hk] at h5
                  simp only [World.cell?, hbk]
                  simpa using h5
              obtain ⟨q5, cq5, rfl, hx5⟩ := hca
              obtain ⟨q6, cq6, rfl, hx6⟩ := hcb
              clear hRow hrow8 hO hRk hO2 hRp hRr
              generalize ofWho L'.reverse s = F at hin hwfK hlen hx5 hx6
              have hFI : (F.length : Int) ≤ 1000 := by omega
              go_wp2_with go_in
              go_loopw [17] (fun v17 wz => ∃ k : Nat, v17 = .int .i64 k ∧ k ≤ F.length ∧ GrowBut w8 wz []) (fun v17 _ => F.length - (match v17 with | .int _ k => k.toNat | _ => 0))
              case atStart => exact ⟨0, rfl, by omega, .refl _ _⟩
              case round =>
                obtain ⟨k, rfl, hk, hgk⟩ := hrel
                by_cases hkl : k < F.length
                · obtain ⟨r5, rfl, hc5⟩ := hx5 k hkl
                  obtain ⟨r6, rfl, hc6⟩ := hx6 k hkl
                  have hm := hin _ (List.getElem_mem hkl)
                  have hw := hwfK _ (List.getElem_mem hkl)
                  replace hc5 := hgk.cell hc5 (by simp)
                  replace hc6 := hgk.cell hc6 (by simp)
                  have hTk := hT8.kept hgk
                  generalize F[k] = x at hc5 hc6 hm hw
                  have hIs : ∀ nq, Calls Try.prog 26 #[.pointer (some ⟨B, 0, none⟩), .int .u64 x] (wr.drewN nq) fun r w' => r = .returned (.bool true) ∧ w' = wr.drewN nq := fun nq => by
                    have := isM_calls B b (i + 1) g' L' x (wr.drewN nq) (hTk.m.kept (GrowBut.drewN _ _ []) (by simp) (by simp)) hw
                    rwa [decide_eq_true hm] at this
                  have hkl' : (k : Int) < (F.length : Int) := by omega
                  clear hx5 hx6 hin hwfK hm
                  go_wp2_with go_in
                  go_quiet (first
                    | (go_at_call 26; refine Calls.quiet_of_same (hIs _))
                    | fail)
                  go_wp2_with go_in
                  exact ⟨⟨k + 1, by simp, by omega, hgk.trans (GrowBut.drewN _ _ _)⟩, by simp; omega⟩
                · have hge : ¬ (k : Int) < (F.length : Int) := by omega
                  clear hx5 hx6 hin hwfK
                  go_wp2_with go_in
                  exact ⟨⟨s + 1, by simp, by omega, by omega, (hgy.trans hg78).trans hgk⟩, by simp; omega⟩
            · have hge : ¬ s ≤ 6 := hsl
              have hI1 := isM_calls B b (i + 1) g' L' any wr hTy.m hany
              have hI2 := ris_calls base R g' L'.reverse any wr hTy.r
              rw [show decide (any ∈ L'.reverse) = decide (any ∈ L') by simp] at hI2
              generalize decide (any ∈ L') = ans at hI1 hI2
              have hz0 : (0 : Int) ∉ L' := fun hm => by
                obtain ⟨q, j, h1, h2, h3, h4⟩ := hTy.m.of 0 hm
                omega
              have hD := dropM_calls B b (i + 1) g' L' 0 wr hTy.m (by decide)
              rw [decide_eq_false hz0, List.erase_of_not_mem hz0] at hD
              have hfin := fun w7 (hM7 : MarksAt w7 B b (i + 1) g' L') (hg7 : GrowBut wr w7 [b]) => hTy.dropped0 hM7 hg7
              go_wp2_with (first
                | (go_at_call 26; refine hI1.mono ?_; rintro r w9 ⟨rfl, hw9⟩; rw [hw9]; clear hw9 w9)
                | (go_at_call 27; refine hI2.mono ?_; rintro r w9 ⟨rfl, hw9⟩; rw [hw9]; clear hw9 w9)
                | (go_at_call 22; refine hD.mono ?_; rintro r w7 ⟨rfl, hM7, hg7⟩)
                | go_in)
              exact ⟨⟨i + 1, g', L', _, by simp, by omega, hfin w7 hM7 hg7⟩, by simp; omega⟩
        · have heb : (e == 0) = false := by simpa using he0
          go_upto_region 20 with go_in
          go_wp2_with go_in
          go_loopw [14] (fun v14 wy => ∃ s : Int, v14 = .int .i64 s ∧ -1 ≤ s ∧ s ≤ 7 ∧ GrowBut w6 wy []) (fun v14 _ => (7 - (match v14 with | .int _ s => s | _ => 0)).toNat)
          case atStart => exact ⟨-1, rfl, by omega, by omega, .refl _ _⟩
          case round =>
            obtain ⟨s, rfl, hs1, hs7, hgy⟩ := hrel
            have hTy := hT6.kept hgy
            by_cases hsl : s ≤ 6
            · have hO := ofS_calls B b (i + 1) g' L' s wr hTy.m (by omega)
              have hRk := fun w7 (hg : GrowBut wr w7 []) => rofM_calls base R g' L'.reverse s w7 (hTy.r.kept hg (by simp) (by simp))
              go_upto_region 24 with (first
                | (go_at_call 24; refine hO.mono ?_; rintro r w7 ⟨v15, R1, rfl, hRp, hRr, hRow, hg7⟩; have hO2 := hRk w7 hg7)
                | (go_at_call 25; refine hO2.mono ?_; rintro r w8 ⟨v16, rfl, hrow8, hg8⟩)
                | go_in)
              obtain rfl := of_same hRp hRr hTy.er
              have hg78 := hg7.trans hg8
              have hT8 := hTy.kept hg78
              have hin : ∀ x ∈ ofWho L'.reverse s, x ∈ L' := fun x hx => by
                have := (List.mem_filter.1 hx).1
                simpa using this
              have hwfK : ∀ x ∈ ofWho L'.reverse s, (Lit.int .u64 x).wf = true := fun x hx => hTy.r.wf x (List.mem_filter.1 hx).1
              have hlen : (ofWho L'.reverse s).length ≤ 1000 := by
                have h1 : (ofWho L'.reverse s).length ≤ L'.reverse.length := List.length_filter_le _ _
                have h2 := hTy.len
                rw [List.length_reverse] at h1
                omega
              have hca : (∃ q cq, v15 = .slice q (ofWho L'.reverse s).length cq ∧ ∀ k (hk : k < (ofWho L'.reverse s).length), ∃ r, q = some ⟨r, 0, none⟩ ∧ w8.cell? ⟨r, k, none⟩ = some (.int .u64 (ofWho L'.reverse s)[k])) := by
                rcases hRow with ⟨h0, rfl⟩ | ⟨r, cap', rfl, _, _, _, _, _, hcells⟩
                · exact ⟨none, 0, by rw [h0]; rfl, fun k hk => by rw [h0] at hk; simp at hk⟩
                · exact ⟨_, _, rfl, fun k hk => ⟨r, rfl, hg8.cell (hcells k _ (List.getElem?_eq_getElem hk)) (by simp)⟩⟩
              have hcb : (∃ q cq, v16 = .slice q (ofWho L'.reverse s).length cq ∧ ∀ k (hk : k < (ofWho L'.reverse s).length), ∃ r, q = some ⟨r, 0, none⟩ ∧ w8.cell? ⟨r, k, none⟩ = some (.int .u64 (ofWho L'.reverse s)[k])) := by
                rcases hrow8.2 with ⟨rfl, hz⟩ | ⟨r, cap', cur, rfl, _, hbk, _, _, _, h4⟩
                · exact ⟨none, 0, by rw [hz], fun k hk => by omega⟩
                · refine ⟨_, _, rfl, fun k hk => ⟨r, rfl, ?_⟩⟩
                  have h5 : (cur.toList.take ((ofWho L'.reverse s).length * 1))[k]? = ((ofWho L'.reverse s).map (Value.int .u64))[k]? := by rw [h4]
                  rw [List.getElem?_take_of_lt (by omega), List.getElem?_map, List.getElem?_eq_getElem hk] at h5
                  simp only [World.cell?, hbk]
                  simpa using h5
              obtain ⟨q5, cq5, rfl, hx5⟩ := hca
              obtain ⟨q6, cq6, rfl, hx6⟩ := hcb
              clear hRow hrow8 hO hRk hO2 hRp hRr
              generalize ofWho L'.reverse s = F at hin hwfK hlen hx5 hx6
              have hFI : (F.length : Int) ≤ 1000 := by omega
              go_wp2_with go_in
              go_loopw [17] (fun v17 wz => ∃ k : Nat, v17 = .int .i64 k ∧ k ≤ F.length ∧ GrowBut w8 wz []) (fun v17 _ => F.length - (match v17 with | .int _ k => k.toNat | _ => 0))
              case atStart => exact ⟨0, rfl, by omega, .refl _ _⟩
              case round =>
                obtain ⟨k, rfl, hk, hgk⟩ := hrel
                by_cases hkl : k < F.length
                · obtain ⟨r5, rfl, hc5⟩ := hx5 k hkl
                  obtain ⟨r6, rfl, hc6⟩ := hx6 k hkl
                  have hm := hin _ (List.getElem_mem hkl)
                  have hw := hwfK _ (List.getElem_mem hkl)
                  replace hc5 := hgk.cell hc5 (by simp)
                  replace hc6 := hgk.cell hc6 (by simp)
                  have hTk := hT8.kept hgk
                  generalize F[k] = x at hc5 hc6 hm hw
                  have hIs : ∀ nq, Calls Try.prog 26 #[.pointer (some ⟨B, 0, none⟩), .int .u64 x] (wr.drewN nq) fun r w' => r = .returned (.bool true) ∧ w' = wr.drewN nq := fun nq => by
                    have := isM_calls B b (i + 1) g' L' x (wr.drewN nq) (hTk.m.kept (GrowBut.drewN _ _ []) (by simp) (by simp)) hw
                    rwa [decide_eq_true hm] at this
                  have hkl' : (k : Int) < (F.length : Int) := by omega
                  clear hx5 hx6 hin hwfK hm
                  go_wp2_with go_in
                  go_quiet (first
                    | (go_at_call 26; refine Calls.quiet_of_same (hIs _))
                    | fail)
                  go_wp2_with go_in
                  exact ⟨⟨k + 1, by simp, by omega, hgk.trans (GrowBut.drewN _ _ _)⟩, by simp; omega⟩
                · have hge : ¬ (k : Int) < (F.length : Int) := by omega
                  clear hx5 hx6 hin hwfK
                  go_wp2_with go_in
                  exact ⟨⟨s + 1, by simp, by omega, by omega, (hgy.trans hg78).trans hgk⟩, by simp; omega⟩
            · have hge : ¬ s ≤ 6 := hsl
              have hI1 := isM_calls B b (i + 1) g' L' any wr hTy.m hany
              have hI2 := ris_calls base R g' L'.reverse any wr hTy.r
              rw [show decide (any ∈ L'.reverse) = decide (any ∈ L') by simp] at hI2
              generalize decide (any ∈ L') = ans at hI1 hI2
              have hz0 : (0 : Int) ∉ L' := fun hm => by
                obtain ⟨q, j, h1, h2, h3, h4⟩ := hTy.m.of 0 hm
                omega
              have hD := dropM_calls B b (i + 1) g' L' 0 wr hTy.m (by decide)
              rw [decide_eq_false hz0, List.erase_of_not_mem hz0] at hD
              have hfin := fun w7 (hM7 : MarksAt w7 B b (i + 1) g' L') (hg7 : GrowBut wr w7 [b]) => hTy.dropped0 hM7 hg7
              go_wp2_with (first
                | (go_at_call 26; refine hI1.mono ?_; rintro r w9 ⟨rfl, hw9⟩; rw [hw9]; clear hw9 w9)
                | (go_at_call 27; refine hI2.mono ?_; rintro r w9 ⟨rfl, hw9⟩; rw [hw9]; clear hw9 w9)
                | (go_at_call 22; refine hD.mono ?_; rintro r w7 ⟨rfl, hM7, hg7⟩)
                | go_in)
              exact ⟨⟨i + 1, g', L', _, by simp, by omega, hfin w7 hM7 hg7⟩, by simp; omega⟩
      · by_cases hS : S = []
        · have hS0 : (S.length : Int) = 0 := by simp [hS]
          clear hS
          obtain ⟨x, e, g', L', hl', he', hxw, hA, hB⟩ := give_both (base := base) (R := R) hT.m hT.er sa (by omega) hT.len
          go_upto_region 15 with (first
            | (go_at_call 20; refine hA.mono ?_; rintro r w5 ⟨rfl, hM5, hg5⟩; obtain ⟨hR5, hb5⟩ := hT.mid hg5; have hB5 := hB w5 hR5 hb5; have d1 := hg5.cell c1 hgaB)
            | (go_at_call 21; refine hB5.mono ?_; rintro r w6 ⟨rfl, hR6, hg6, hN6⟩; have hT6 := hT.step hl' he' hM5 hg5 hR6 hg6 hN6)
            | go_in)
          clear hA hB hB5 hM5 hR5 hR6 hN6 hT c0 c1 d1
          by_cases he0 : e = 0
          · subst he0
            obtain ⟨i0, hi0, hz0, hz1, hz2⟩ := info_parts infoM
            have hsn := hT6.seen
            have hsz := hT6.size
            have hsl := hT6.slen
            go_upto_region 20 with (first
              | (at_builtin; refine wpList_append_own_at _ rfl _ _ 29 rfl base 23 i0 (.int .u64 0) 1 8 Try.underlying29 hi0 hz0 hz1 hz2 rfl (by decide) _ _ _ rfl (hsn.alloc _) ⟨w6.heap.size, 0, none⟩ 1 1 [.int .u64 x] rfl rfl (cell_one_new _ _ _) (by simp [Value.oneCell']) (by unfold maxLen; omega) (by omega) (by simp; omega) ?_; intro v7 w7 own7 g7 nil7 at7)
              | go_in)
            have hT7 := hT6.noted hxw (by omega) ((GrowBut.alloc w6 (.cells #[.int .u64 x] 23) _).trans (GrowBut.of_rowM g7)) (by simpa using own7) (by
              rcases at7 with h | h
              · exact .inl h
              · exact .inr ⟨_, h, by simp⟩)
            clear hT6 hsn g7 own7 at7 nil7
            obtain ⟨w6', hw6⟩ : ∃ w6', w6' = w7 := ⟨_, rfl⟩
            subst hw6
            go_wp2_with go_in
            go_loopw [14] (fun v14 wy => ∃ s : Int, v14 = .int .i64 s ∧ -1 ≤ s ∧ s ≤ 7 ∧ GrowBut w6' wy []) (fun v14 _ => (7 - (match v14 with | .int _ s => s | _ => 0)).toNat)
            case atStart => exact ⟨-1, rfl, by omega, by omega, .refl _ _⟩
            case round =>
              obtain ⟨s, rfl, hs1, hs7, hgy⟩ := hrel
              have hTy := hT7.kept hgy
              by_cases hsl : s ≤ 6
              · have hO := ofS_calls B b (i + 1) g' L' s wr hTy.m (by omega)
                have hRk := fun w7 (hg : GrowBut wr w7 []) => rofM_calls base R g' L'.reverse s w7 (hTy.r.kept hg (by simp) (by simp))
                go_upto_region 24 with (first
                  | (go_at_call 24; refine hO.mono ?_; rintro r w7 ⟨v15, R1, rfl, hRp, hRr, hRow, hg7⟩; have hO2 := hRk w7 hg7)
                  | (go_at_call 25; refine hO2.mono ?_; rintro r w8 ⟨v16, rfl, hrow8, hg8⟩)
                  | go_in)
                obtain rfl := of_same hRp hRr hTy.er
                have hg78 := hg7.trans hg8
                have hT8 := hTy.kept hg78
                have hin : ∀ x ∈ ofWho L'.reverse s, x ∈ L' := fun x hx => by
                  have := (List.mem_filter.1 hx).1
                  simpa using this
                have hwfK : ∀ x ∈ ofWho L'.reverse s, (Lit.int .u64 x).wf = true := fun x hx => hTy.r.wf x (List.mem_filter.1 hx).1
                have hlen : (ofWho L'.reverse s).length ≤ 1000 := by
                  have h1 : (ofWho L'.reverse s).length ≤ L'.reverse.length := List.length_filter_le _ _
                  have h2 := hTy.len
                  rw [List.length_reverse] at h1
                  omega
                have hca : (∃ q cq, v15 = .slice q (ofWho L'.reverse s).length cq ∧ ∀ k (hk : k < (ofWho L'.reverse s).length), ∃ r, q = some ⟨r, 0, none⟩ ∧ w8.cell? ⟨r, k, none⟩ = some (.int .u64 (ofWho L'.reverse s)[k])) := by
                  rcases hRow with ⟨h0, rfl⟩ | ⟨r, cap', rfl, _, _, _, _, _, hcells⟩
                  · exact ⟨none, 0, by rw [h0]; rfl, fun k hk => by rw [h0] at hk; simp at hk⟩
                  · exact ⟨_, _, rfl, fun k hk => ⟨r, rfl, hg8.cell (hcells k _ (List.getElem?_eq_getElem hk)) (by simp)⟩⟩
                have hcb : (∃ q cq, v16 = .slice q (ofWho L'.reverse s).length cq ∧ ∀ k (hk : k < (ofWho L'.reverse s).length), ∃ r, q = some ⟨r, 0, none⟩ ∧ w8.cell? ⟨r, k, none⟩ = some (.int .u64 (ofWho L'.reverse s)[k])) := by
                  rcases hrow8.2 with ⟨rfl, hz⟩ | ⟨r, cap', cur, rfl, _, hbk, _, _, _, h4⟩
                  · exact ⟨none, 0, by rw [hz], fun k hk => by omega⟩
                  · refine ⟨_, _, rfl, fun k hk => ⟨r, rfl, ?_⟩⟩
                    have h5 : (cur.toList.take ((ofWho L'.reverse s).length * 1))[k]? = ((ofWho L'.reverse s).map (Value.int .u64))[k]? := by rw [h4]
                    rw [List.getElem?_take_of_lt (by omega), List.getElem?_map, List.getElem?_eq_getElem hk] at h5
                    simp only [World.cell?, hbk]
                    simpa using h5
                obtain ⟨q5, cq5, rfl, hx5⟩ := hca
                obtain ⟨q6, cq6, rfl, hx6⟩ := hcb
                clear hRow hrow8 hO hRk hO2 hRp hRr
                generalize ofWho L'.reverse s = F at hin hwfK hlen hx5 hx6
                have hFI : (F.length : Int) ≤ 1000 := by omega
                go_wp2_with go_in
                go_loopw [17] (fun v17 wz => ∃ k : Nat, v17 = .int .i64 k ∧ k ≤ F.length ∧ GrowBut w8 wz []) (fun v17 _ => F.length - (match v17 with | .int _ k => k.toNat | _ => 0))
                case atStart => exact ⟨0, rfl, by omega, .refl _ _⟩
                case round =>
                  obtain ⟨k, rfl, hk, hgk⟩ := hrel
                  by_cases hkl : k < F.length
                  · obtain ⟨r5, rfl, hc5⟩ := hx5 k hkl
                    obtain ⟨r6, rfl, hc6⟩ := hx6 k hkl
                    have hm := hin _ (List.getElem_mem hkl)
                    have hw := hwfK _ (List.getElem_mem hkl)
                    replace hc5 := hgk.cell hc5 (by simp)
                    replace hc6 := hgk.cell hc6 (by simp)
                    have hTk := hT8.kept hgk
                    generalize F[k] = x at hc5 hc6 hm hw
                    have hIs : ∀ nq, Calls Try.prog 26 #[.pointer (some ⟨B, 0, none⟩), .int .u64 x] (wr.drewN nq) fun r w' => r = .returned (.bool true) ∧ w' = wr.drewN nq := fun nq => by
                      have := isM_calls B b (i + 1) g' L' x (wr.drewN nq) (hTk.m.kept (GrowBut.drewN _ _ []) (by simp) (by simp)) hw
                      rwa [decide_eq_true hm] at this
                    have hkl' : (k : Int) < (F.length : Int) := by omega
                    clear hx5 hx6 hin hwfK hm
                    go_wp2_with go_in
                    go_quiet (first
                      | (go_at_call 26; refine Calls.quiet_of_same (hIs _))
                      | fail)
                    go_wp2_with go_in
                    exact ⟨⟨k + 1, by simp, by omega, hgk.trans (GrowBut.drewN _ _ _)⟩, by simp; omega⟩
                  · have hge : ¬ (k : Int) < (F.length : Int) := by omega
                    clear hx5 hx6 hin hwfK
                    go_wp2_with go_in
                    exact ⟨⟨s + 1, by simp, by omega, by omega, (hgy.trans hg78).trans hgk⟩, by simp; omega⟩
              · have hge : ¬ s ≤ 6 := hsl
                have hI1 := isM_calls B b (i + 1) g' L' any wr hTy.m hany
                have hI2 := ris_calls base R g' L'.reverse any wr hTy.r
                rw [show decide (any ∈ L'.reverse) = decide (any ∈ L') by simp] at hI2
                generalize decide (any ∈ L') = ans at hI1 hI2
                have hz0 : (0 : Int) ∉ L' := fun hm => by
                  obtain ⟨q, j, h1, h2, h3, h4⟩ := hTy.m.of 0 hm
                  omega
                have hD := dropM_calls B b (i + 1) g' L' 0 wr hTy.m (by decide)
                rw [decide_eq_false hz0, List.erase_of_not_mem hz0] at hD
                have hfin := fun w7 (hM7 : MarksAt w7 B b (i + 1) g' L') (hg7 : GrowBut wr w7 [b]) => hTy.dropped0 hM7 hg7
                go_wp2_with (first
                  | (go_at_call 26; refine hI1.mono ?_; rintro r w9 ⟨rfl, hw9⟩; rw [hw9]; clear hw9 w9)
                  | (go_at_call 27; refine hI2.mono ?_; rintro r w9 ⟨rfl, hw9⟩; rw [hw9]; clear hw9 w9)
                  | (go_at_call 22; refine hD.mono ?_; rintro r w7 ⟨rfl, hM7, hg7⟩)
                  | go_in)
                exact ⟨⟨i + 1, g', L', _, by simp, by omega, hfin w7 hM7 hg7⟩, by simp; omega⟩
          · have heb : (e == 0) = false := by simpa using he0
            go_upto_region 20 with go_in
            go_wp2_with go_in
            go_loopw [14] (fun v14 wy => ∃ s : Int, v14 = .int .i64 s ∧ -1 ≤ s ∧ s ≤ 7 ∧ GrowBut w6 wy []) (fun v14 _ => (7 - (match v14 with | .int _ s => s | _ => 0)).toNat)
            case atStart => exact ⟨-1, rfl, by omega, by omega, .refl _ _⟩
            case round =>
              obtain ⟨s, rfl, hs1, hs7, hgy⟩ := hrel
              have hTy := hT6.kept hgy
              by_cases hsl : s ≤ 6
              · have hO := ofS_calls B b (i + 1) g' L' s wr hTy.m (by omega)
                have hRk := fun w7 (hg : GrowBut wr w7 []) => rofM_calls base R g' L'.reverse s w7 (hTy.r.kept hg (by simp) (by simp))
                go_upto_region 24 with (first
                  | (go_at_call 24; refine hO.mono ?_; rintro r w7 ⟨v15, R1, rfl, hRp, hRr, hRow, hg7⟩; have hO2 := hRk w7 hg7)
                  | (go_at_call 25; refine hO2.mono ?_; rintro r w8 ⟨v16, rfl, hrow8, hg8⟩)
                  | go_in)
                obtain rfl := of_same hRp hRr hTy.er
                have hg78 := hg7.trans hg8
                have hT8 := hTy.kept hg78
                have hin : ∀ x ∈ ofWho L'.reverse s, x ∈ L' := fun x hx => by
                  have := (List.mem_filter.1 hx).1
                  simpa using this
                have hwfK : ∀ x ∈ ofWho L'.reverse s, (Lit.int .u64 x).wf = true := fun x hx => hTy.r.wf x (List.mem_filter.1 hx).1
                have hlen : (ofWho L'.reverse s).length ≤ 1000 := by
                  have h1 : (ofWho L'.reverse s).length ≤ L'.reverse.length := List.length_filter_le _ _
                  have h2 := hTy.len
                  rw [List.length_reverse] at h1
                  omega
                have hca : (∃ q cq, v15 = .slice q (ofWho L'.reverse s).length cq ∧ ∀ k (hk : k < (ofWho L'.reverse s).length), ∃ r, q = some ⟨r, 0, none⟩ ∧ w8.cell? ⟨r, k, none⟩ = some (.int .u64 (ofWho L'.reverse s)[k])) := by
                  rcases hRow with ⟨h0, rfl⟩ | ⟨r, cap', rfl, _, _, _, _, _, hcells⟩
                  · exact ⟨none, 0, by rw [h0]; rfl, fun k hk => by rw [h0] at hk; simp at hk⟩
                  · exact ⟨_, _, rfl, fun k hk => ⟨r, rfl, hg8.cell (hcells k _ (List.getElem?_eq_getElem hk)) (by simp)⟩⟩
                have hcb : (∃ q cq, v16 = .slice q (ofWho L'.reverse s).length cq ∧ ∀ k (hk : k < (ofWho L'.reverse s).length), ∃ r, q = some ⟨r, 0, none⟩ ∧ w8.cell? ⟨r, k, none⟩ = some (.int .u64 (ofWho L'.reverse s)[k])) := by
                  rcases hrow8.2 with ⟨rfl, hz⟩ | ⟨r, cap', cur, rfl, _, hbk, _, _, _, h4⟩
                  · exact ⟨none, 0, by rw [hz], fun k hk => by omega⟩
                  · refine ⟨_, _, rfl, fun k hk => ⟨r, rfl, ?_⟩⟩
                    have h5 : (cur.toList.take ((ofWho L'.reverse s).length * 1))[k]? = ((ofWho L'.reverse s).map (Value.int .u64))[k]? := by rw [h4]
                    rw [List.getElem?_take_of_lt (by omega), List.getElem?_map, List.getElem?_eq_getElem hk] at h5
                    simp only [World.cell?, hbk]
                    simpa using h5
                obtain ⟨q5, cq5, rfl, hx5⟩ := hca
                obtain ⟨q6, cq6, rfl, hx6⟩ := hcb
                clear hRow hrow8 hO hRk hO2 hRp hRr
                generalize ofWho L'.reverse s = F at hin hwfK hlen hx5 hx6
                have hFI : (F.length : Int) ≤ 1000 := by omega
                go_wp2_with go_in
                go_loopw [17] (fun v17 wz => ∃ k : Nat, v17 = .int .i64 k ∧ k ≤ F.length ∧ GrowBut w8 wz []) (fun v17 _ => F.length - (match v17 with | .int _ k => k.toNat | _ => 0))
                case atStart => exact ⟨0, rfl, by omega, .refl _ _⟩
                case round =>
                  obtain ⟨k, rfl, hk, hgk⟩ := hrel
                  by_cases hkl : k < F.length
                  · obtain ⟨r5, rfl, hc5⟩ := hx5 k hkl
                    obtain ⟨r6, rfl, hc6⟩ := hx6 k hkl
                    have hm := hin _ (List.getElem_mem hkl)
                    have hw := hwfK _ (List.getElem_mem hkl)
                    replace hc5 := hgk.cell hc5 (by simp)
                    replace hc6 := hgk.cell hc6 (by simp)
                    have hTk := hT8.kept hgk
                    generalize F[k] = x at hc5 hc6 hm hw
                    have hIs : ∀ nq, Calls Try.prog 26 #[.pointer (some ⟨B, 0, none⟩), .int .u64 x] (wr.drewN nq) fun r w' => r = .returned (.bool true) ∧ w' = wr.drewN nq := fun nq => by
                      have := isM_calls B b (i + 1) g' L' x (wr.drewN nq) (hTk.m.kept (GrowBut.drewN _ _ []) (by simp) (by simp)) hw
                      rwa [decide_eq_true hm] at this
                    have hkl' : (k : Int) < (F.length : Int) := by omega
                    clear hx5 hx6 hin hwfK hm
                    go_wp2_with go_in
                    go_quiet (first
                      | (go_at_call 26; refine Calls.quiet_of_same (hIs _))
                      | fail)
                    go_wp2_with go_in
                    exact ⟨⟨k + 1, by simp, by omega, hgk.trans (GrowBut.drewN _ _ _)⟩, by simp; omega⟩
                  · have hge : ¬ (k : Int) < (F.length : Int) := by omega
                    clear hx5 hx6 hin hwfK
                    go_wp2_with go_in
                    exact ⟨⟨s + 1, by simp, by omega, by omega, (hgy.trans hg78).trans hgk⟩, by simp; omega⟩
              · have hge : ¬ s ≤ 6 := hsl
                have hI1 := isM_calls B b (i + 1) g' L' any wr hTy.m hany
                have hI2 := ris_calls base R g' L'.reverse any wr hTy.r
                rw [show decide (any ∈ L'.reverse) = decide (any ∈ L') by simp] at hI2
                generalize decide (any ∈ L') = ans at hI1 hI2
                have hz0 : (0 : Int) ∉ L' := fun hm => by
                  obtain ⟨q, j, h1, h2, h3, h4⟩ := hTy.m.of 0 hm
                  omega
                have hD := dropM_calls B b (i + 1) g' L' 0 wr hTy.m (by decide)
                rw [decide_eq_false hz0, List.erase_of_not_mem hz0] at hD
                have hfin := fun w7 (hM7 : MarksAt w7 B b (i + 1) g' L') (hg7 : GrowBut wr w7 [b]) => hTy.dropped0 hM7 hg7
                go_wp2_with (first
                  | (go_at_call 26; refine hI1.mono ?_; rintro r w9 ⟨rfl, hw9⟩; rw [hw9]; clear hw9 w9)
                  | (go_at_call 27; refine hI2.mono ?_; rintro r w9 ⟨rfl, hw9⟩; rw [hw9]; clear hw9 w9)
                  | (go_at_call 22; refine hD.mono ?_; rintro r w7 ⟨rfl, hM7, hg7⟩)
                  | go_in)
                exact ⟨⟨i + 1, g', L', _, by simp, by omega, hfin w7 hM7 hg7⟩, by simp; omega⟩
        · have hS0 : ¬ (S.length : Int) = 0 := by have := List.length_pos_iff.2 hS; omega
          obtain ⟨k, hk, hkS⟩ := pick_of sa (m := S.length) (List.length_pos_iff.2 hS) (by omega)
          have hkI : (k : Int) < (S.length : Int) := by omega
          rcases hT.seen.2 with ⟨hv, hz0⟩ | ⟨gs, cap', cur, hv, hbk0, hbk, _, _, _, h4⟩
          · omega
          cases hv
          have hcs : wr.cell? ⟨gs, k, none⟩ = some (.int .u64 S[k]) := by
            have h5 : (cur.toList.take (S.length * 1))[k]? = (S.map (Value.int .u64))[k]? := by rw [h4]
            rw [List.getElem?_take_of_lt (by omega), List.getElem?_map, List.getElem?_eq_getElem hkS] at h5
            simp only [World.cell?, hbk]
            simpa using h5
          have hgsB : gs ∉ [B, b] := by
            obtain ⟨hl1, hl2, -⟩ := hT.lt
            intro hm
            rcases List.mem_cons.1 hm with e1 | hm
            · rw [e1] at hbk0; omega
            · rcases List.mem_cons.1 hm with e1 | hm
              · rw [e1] at hbk0; omega
              · cases hm
          have hxw : (Lit.int .u64 S[k]).wf = true := hT.swf _ (List.getElem_mem hkS)
          generalize S[k] = x at hcs hxw
          clear hbk h4
          go_upto_region 18 with go_in
          have hTd := hT.kept (GrowBut.drew wr [])
          obtain ⟨hl', he', hA, hB⟩ := drop_both (base := base) (R := R) hTd.m hTd.er x hxw hTd.len
          generalize decide (x ∈ L) = ans at hA hB
          generalize L.erase x = L' at hl' he' hA hB
          go_region_held3 (fun w' => w'.cell? ⟨gs, k, none⟩ = some (.int .u64 x)) (first | go_keep | (exact d1) | (exact e1))
            (first
              | (go_at_call 22; refine hA.mono ?_; rintro r w5 ⟨rfl, hM5, hg5⟩; obtain ⟨hR5, hb5⟩ := hTd.mid hg5; have hB5 := hB w5 hR5 hb5; have d1 := hg5.cell hcs hgsB)
              | (go_at_call 23; refine hB5.mono ?_; rintro r w6 ⟨rfl, hR6, hg6, hN6⟩; have hT6 := hTd.step hl' he' hM5 hg5 hR6 hg6 hN6; have e1 : w6.cell? ⟨gs, k, none⟩ = some (.int .u64 x) := hg6.cell d1 (by have := hT.lt; simp; omega))
              | fail)
          clear hA hB hB5 hM5 hR5 hR6 hN6 hT hTd c0 c1 d1 e1 hcs
          go_wp2_with go_in
          go_loopw [14] (fun v14 wy => ∃ s : Int, v14 = .int .i64 s ∧ -1 ≤ s ∧ s ≤ 7 ∧ GrowBut w6 wy []) (fun v14 _ => (7 - (match v14 with | .int _ s => s | _ => 0)).toNat)
          case atStart => exact ⟨-1, rfl, by omega, by omega, .refl _ _⟩
          case round =>
            obtain ⟨s, rfl, hs1, hs7, hgy⟩ := hrel
            have hTy := hT6.kept hgy
            by_cases hsl : s ≤ 6
            · have hO := ofS_calls B b (i + 1) g L' s wr hTy.m (by omega)
              have hRk := fun w7 (hg : GrowBut wr w7 []) => rofM_calls base R g L'.reverse s w7 (hTy.r.kept hg (by simp) (by simp))
              go_upto_region 24 with (first
                | (go_at_call 24; refine hO.mono ?_; rintro r w7 ⟨v15, R1, rfl, hRp, hRr, hRow, hg7⟩; have hO2 := hRk w7 hg7)
                | (go_at_call 25; refine hO2.mono ?_; rintro r w8 ⟨v16, rfl, hrow8, hg8⟩)
                | go_in)
              obtain rfl := of_same hRp hRr hTy.er
              have hg78 := hg7.trans hg8
              have hT8 := hTy.kept hg78
              have hin : ∀ x ∈ ofWho L'.reverse s, x ∈ L' := fun x hx => by
                have := (List.mem_filter.1 hx).1
                simpa using this
              have hwfK : ∀ x ∈ ofWho L'.reverse s, (Lit.int .u64 x).wf = true := fun x hx => hTy.r.wf x (List.mem_filter.1 hx).1
              have hlen : (ofWho L'.reverse s).length ≤ 1000 := by
                have h1 : (ofWho L'.reverse s).length ≤ L'.reverse.length := List.length_filter_le _ _
                have h2 := hTy.len
                rw [List.length_reverse] at h1
                omega
              have hca : (∃ q cq, v15 = .slice q (ofWho L'.reverse s).length cq ∧ ∀ k (hk : k < (ofWho L'.reverse s).length), ∃ r, q = some ⟨r, 0, none⟩ ∧ w8.cell? ⟨r, k, none⟩ = some (.int .u64 (ofWho L'.reverse s)[k])) := by
                rcases hRow with ⟨h0, rfl⟩ | ⟨r, cap', rfl, _, _, _, _, _, hcells⟩
                · exact ⟨none, 0, by rw [h0]; rfl, fun k hk => by rw [h0] at hk; simp at hk⟩
                · exact ⟨_, _, rfl, fun k hk => ⟨r, rfl, hg8.cell (hcells k _ (List.getElem?_eq_getElem hk)) (by simp)⟩⟩
              have hcb : (∃ q cq, v16 = .slice q (ofWho L'.reverse s).length cq ∧ ∀ k (hk : k < (ofWho L'.reverse s).length), ∃ r, q = some ⟨r, 0, none⟩ ∧ w8.cell? ⟨r, k, none⟩ = some (.int .u64 (ofWho L'.reverse s)[k])) := by
                rcases hrow8.2 with ⟨rfl, hz⟩ | ⟨r, cap', cur, rfl, _, hbk, _, _, _, h4⟩
                · exact ⟨none, 0, by rw [hz], fun k hk => by omega⟩
                · refine ⟨_, _, rfl, fun k hk => ⟨r, rfl, ?_⟩⟩
                  have h5 : (cur.toList.take ((ofWho L'.reverse s).length * 1))[k]? = ((ofWho L'.reverse s).map (Value.int .u64))[k]? := by rw [h4]
                  rw [List.getElem?_take_of_lt (by omega), List.getElem?_map, List.getElem?_eq_getElem hk] at h5
                  simp only [World.cell?, hbk]
                  simpa using h5
              obtain ⟨q5, cq5, rfl, hx5⟩ := hca
              obtain ⟨q6, cq6, rfl, hx6⟩ := hcb
              clear hRow hrow8 hO hRk hO2 hRp hRr
              generalize ofWho L'.reverse s = F at hin hwfK hlen hx5 hx6
              have hFI : (F.length : Int) ≤ 1000 := by omega
              go_wp2_with go_in
              go_loopw [17] (fun v17 wz => ∃ k : Nat, v17 = .int .i64 k ∧ k ≤ F.length ∧ GrowBut w8 wz []) (fun v17 _ => F.length - (match v17 with | .int _ k => k.toNat | _ => 0))
              case atStart => exact ⟨0, rfl, by omega, .refl _ _⟩
              case round =>
                obtain ⟨k, rfl, hk, hgk⟩ := hrel
                by_cases hkl : k < F.length
                · obtain ⟨r5, rfl, hc5⟩ := hx5 k hkl
                  obtain ⟨r6, rfl, hc6⟩ := hx6 k hkl
                  have hm := hin _ (List.getElem_mem hkl)
                  have hw := hwfK _ (List.getElem_mem hkl)
                  replace hc5 := hgk.cell hc5 (by simp)
                  replace hc6 := hgk.cell hc6 (by simp)
                  have hTk := hT8.kept hgk
                  generalize F[k] = x at hc5 hc6 hm hw
                  have hIs : ∀ nq, Calls Try.prog 26 #[.pointer (some ⟨B, 0, none⟩), .int .u64 x] (wr.drewN nq) fun r w' => r = .returned (.bool true) ∧ w' = wr.drewN nq := fun nq => by
                    have := isM_calls B b (i + 1) g L' x (wr.drewN nq) (hTk.m.kept (GrowBut.drewN _ _ []) (by simp) (by simp)) hw
                    rwa [decide_eq_true hm] at this
                  have hkl' : (k : Int) < (F.length : Int) := by omega
                  clear hx5 hx6 hin hwfK hm
                  go_wp2_with go_in
                  go_quiet (first
                    | (go_at_call 26; refine Calls.quiet_of_same (hIs _))
                    | fail)
                  go_wp2_with go_in
                  exact ⟨⟨k + 1, by simp, by omega, hgk.trans (GrowBut.drewN _ _ _)⟩, by simp; omega⟩
                · have hge : ¬ (k : Int) < (F.length : Int) := by omega
                  clear hx5 hx6 hin hwfK
                  go_wp2_with go_in
                  exact ⟨⟨s + 1, by simp, by omega, by omega, (hgy.trans hg78).trans hgk⟩, by simp; omega⟩
            · have hge : ¬ s ≤ 6 := hsl
              have hI1 := isM_calls B b (i + 1) g L' any wr hTy.m hany
              have hI2 := ris_calls base R g L'.reverse any wr hTy.r
              rw [show decide (any ∈ L'.reverse) = decide (any ∈ L') by simp] at hI2
              generalize decide (any ∈ L') = ans at hI1 hI2
              have hz0 : (0 : Int) ∉ L' := fun hm => by
                obtain ⟨q, j, h1, h2, h3, h4⟩ := hTy.m.of 0 hm
                omega
              have hD := dropM_calls B b (i + 1) g L' 0 wr hTy.m (by decide)
              rw [decide_eq_false hz0, List.erase_of_not_mem hz0] at hD
              have hfin := fun w7 (hM7 : MarksAt w7 B b (i + 1) g L') (hg7 : GrowBut wr w7 [b]) => hTy.dropped0 hM7 hg7
              go_wp2_with (first
                | (go_at_call 26; refine hI1.mono ?_; rintro r w9 ⟨rfl, hw9⟩; rw [hw9]; clear hw9 w9)
                | (go_at_call 27; refine hI2.mono ?_; rintro r w9 ⟨rfl, hw9⟩; rw [hw9]; clear hw9 w9)
                | (go_at_call 22; refine hD.mono ?_; rintro r w7 ⟨rfl, hM7, hg7⟩)
                | go_in)
              exact ⟨⟨i + 1, g, L', _, by simp, by omega, hfin w7 hM7 hg7⟩, by simp; omega⟩
    · have hge : ¬ (i : Int) < (n : Int) := by omega
      have hgw := hT.grow
      clear hT hz
      have hS1 := fun w => sender_calls any hany w
      have hS2 := fun w => rsender_calls any hany w
      go_wp2_with (first
        | (go_at_call 20; refine (giveM_nil _).mono ?_; rintro r w9 ⟨rfl, hw9⟩; rw [hw9]; clear hw9 w9)
        | (go_at_call 22; refine (dropM_nil _).mono ?_; rintro r w9 ⟨rfl, hw9⟩; rw [hw9]; clear hw9 w9)
        | (go_at_call 26; refine (isM_nil _).mono ?_; rintro r w9 ⟨rfl, hw9⟩; rw [hw9]; clear hw9 w9)
        | (go_at_call 24; refine (ofM_nil _).mono ?_; rintro r w9 ⟨rfl, hw9⟩; rw [hw9]; clear hw9 w9)
        | (go_at_call 28; refine (hS1 _).mono ?_; rintro r w9 ⟨rfl, hw9⟩; rw [hw9]; clear hw9 w9)
        | (go_at_call 29; refine (hS2 _).mono ?_; rintro r w9 ⟨rfl, hw9⟩; rw [hw9]; clear hw9 w9)
        | go_in)
      go_ret
      exact ⟨rfl, hgw.keepAll⟩

end Go.Proofs.Ytlgfopfibopcnaa
