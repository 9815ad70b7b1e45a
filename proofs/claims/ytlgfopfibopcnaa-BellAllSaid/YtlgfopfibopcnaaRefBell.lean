/-
  The reference's bells: what its methods do.
-/
import Derived.Test.YtlgfopfibopcnaaBellR
namespace Go.Proofs.Ytlgfopfibopcnaa
open Go Go.RowKit Go.Maps Go.Am Go.Sort
set_option linter.unusedVariables false

theorem zeroPR (w : World) : (zeroValue 203).run Try.prog w = .ok (.pointer none) w := by kernel_rfl

set_option maxRecDepth 100000 in
set_option maxHeartbeats 4000000 in
theorem rof_none (B b n : Nat) (l : List BSet) (who : Int) (from_ : Int) (bits : Nat) (w : World) (h : BellsAt w B b n l) (he : who ∉ l.map BSet.who) (hk : (Lit.int .i64 who).wf = true) :
    Calls Try.prog 163 #[.pointer (some ⟨B, 0, none⟩), .int .i64 who, .int .i64 from_, .int .u64 bits] w fun r w' => r = .returned (.tuple #[.pointer none, .int .i64 (-6)]) ∧ w' = w := by
  obtain ⟨DM, hownM, hatM, hhasM⟩ := h.own
  have hptr := h.ptr
  obtain ⟨v, ps, hlook, hv⟩ := hownM.lookup law3K Try.underlying195 (zeroPR w) (zd := .held (.pointer none)) (zp := []) rfl (keyJ hk)
  rw [atKey_of_not_has (by rw [hhasM]; simpa using he)] at hv
  obtain ⟨_, hv, _⟩ := ptrR_inv hv
  cases hv
  go_enter Try.func163, Try.ntmps163
  go_wp2_with go_in
  go_ret2
  exact ⟨rfl, rfl⟩

set_option maxRecDepth 100000 in
set_option maxHeartbeats 4000000 in
theorem rof_zero (B b n : Nat) (l : List BSet) (e : BSet) (from_ : Int) (w : World) (h : BellsAt w B b n l) (he : e ∈ l) (hk : (Lit.int .i64 e.who).wf = true) :
    Calls Try.prog 163 #[.pointer (some ⟨B, 0, none⟩), .int .i64 e.who, .int .i64 from_, .int .u64 (0 : Nat)] w fun r w' => r = .returned (.tuple #[.pointer none, .int .i64 (-2)]) ∧ w' = w := by
  obtain ⟨DM, hownM, hatM, hhasM⟩ := h.own
  have hptr := h.ptr
  obtain ⟨v, ps, hlook, hv⟩ := hownM.lookup law3K Try.underlying195 (zeroPR w) (zd := .held (.pointer none)) (zp := []) rfl (keyJ hk)
  rw [hatM e he] at hv
  obtain ⟨_, hv, _⟩ := ptrR_inv hv
  cases hv
  generalize e.who = who at hk hlook ⊢
  generalize e.S = S at hlook
  go_enter Try.func163, Try.ntmps163
  go_wp2_with go_in
  go_ret2
  exact ⟨rfl, rfl⟩

set_option maxRecDepth 100000 in
set_option maxHeartbeats 4000000 in
theorem rof_denied (B b n : Nat) (l : List BSet) (e : BSet) (from_ : Int) (bits : Nat) (w : World) (h : BellsAt w B b n l) (he : e ∈ l) (hk : (Lit.int .i64 e.who).wf = true) (hf : (Lit.int .i64 from_).wf = true) (hb : bits < 18446744073709551616) (h0 : bits ≠ 0) (hin : bits &&& (18446744073709551615 - e.fr from_) ≠ 0) :
    Calls Try.prog 163 #[.pointer (some ⟨B, 0, none⟩), .int .i64 e.who, .int .i64 from_, .int .u64 bits] w fun r w' => r = .returned (.tuple #[.pointer none, .int .i64 (-6)]) ∧ w' = w := by
  obtain ⟨DM, hownM, hatM, hhasM⟩ := h.own
  have hptr := h.ptr
  obtain ⟨v, ps, hlook, hv⟩ := hownM.lookup law3K Try.underlying195 (zeroPR w) (zd := .held (.pointer none)) (zp := []) rfl (keyJ hk)
  rw [hatM e he] at hv
  obtain ⟨_, hv, _⟩ := ptrR_inv hv
  cases hv
  obtain ⟨c0, c1, c2, f1, f2, hlt, ⟨D, hown, hD⟩, hrl⟩ := h.sets e he
  obtain ⟨c, hrun, hat, hwc⟩ := hown.lookup_int law3K Try.underlying200 Try.underlying23 (zeroU w) (keyJ hf)
  rw [hD.atKey] at hat
  obtain rfl : (e.fr from_ : Int) = c := by simpa using hat
  have hfl := hD.lt from_
  have hB0 : ¬ (bits : Int) = 0 := by omega
  generalize e.who = who at hk hlook ⊢
  generalize e.S = S at hlook c0
  generalize e.f = f at c0 hrun
  generalize e.fr from_ = ff at hrun hin hfl
  have hN := u64_andNot_nat bits ff hb hfl
  generalize bits &&& (18446744073709551615 - ff) = an at hN hin
  have hA0 : ¬ (an : Int) = 0 := by omega
  go_enter Try.func163, Try.ntmps163
  go_wp2_with go_in
  go_ret2
  exact ⟨rfl, rfl⟩

set_option maxRecDepth 100000 in
set_option maxHeartbeats 4000000 in
theorem rof_calls (B b n : Nat) (l : List BSet) (e : BSet) (from_ : Int) (bits : Nat) (w : World) (h : BellsAt w B b n l) (he : e ∈ l) (hk : (Lit.int .i64 e.who).wf = true) (hf : (Lit.int .i64 from_).wf = true) (hb : bits < 18446744073709551616) (h0 : bits ≠ 0) (hin : bits &&& (18446744073709551615 - e.fr from_) = 0) :
    Calls Try.prog 163 #[.pointer (some ⟨B, 0, none⟩), .int .i64 e.who, .int .i64 from_, .int .u64 bits] w fun r w' => r = .returned (.tuple #[.pointer (some ⟨e.S, 0, none⟩), .int .i64 0]) ∧ w' = w := by
  obtain ⟨DM, hownM, hatM, hhasM⟩ := h.own
  have hptr := h.ptr
  obtain ⟨v, ps, hlook, hv⟩ := hownM.lookup law3K Try.underlying195 (zeroPR w) (zd := .held (.pointer none)) (zp := []) rfl (keyJ hk)
  rw [hatM e he] at hv
  obtain ⟨_, hv, _⟩ := ptrR_inv hv
  cases hv
  obtain ⟨c0, c1, c2, f1, f2, hlt, ⟨D, hown, hD⟩, hrl⟩ := h.sets e he
  obtain ⟨c, hrun, hat, hwc⟩ := hown.lookup_int law3K Try.underlying200 Try.underlying23 (zeroU w) (keyJ hf)
  rw [hD.atKey] at hat
  obtain rfl : (e.fr from_ : Int) = c := by simpa using hat
  have hfl := hD.lt from_
  have hB0 : ¬ (bits : Int) = 0 := by omega
  generalize e.who = who at hk hlook ⊢
  generalize e.S = S at hlook c0 ⊢
  generalize e.f = f at c0 hrun
  generalize e.fr from_ = ff at hrun hin hfl
  have hN := u64_andNot_nat bits ff hb hfl
  rw [hin] at hN
  go_enter Try.func163, Try.ntmps163
  go_wp2_with go_in
  go_ret2
  exact ⟨rfl, rfl⟩

set_option maxRecDepth 100000 in
set_option maxHeartbeats 4000000 in
theorem rall_calls (e : BSet) (w : World) (h : SetAt w e) (hn : e.n ≤ 1000) :
    Calls Try.prog 162 #[.pointer (some ⟨e.S, 0, none⟩)] w fun r w' => r = .returned (.int .u64 (orAll e.K e.fr)) ∧ GrowBut w w' [] := by
  obtain ⟨D, hown, hD⟩ := h.own
  have c0 := h.from_
  have hfl := hown.lt
  generalize e.S = S at c0 ⊢
  generalize e.f = f at c0 hown hfl
  go_enter Try.func162, Try.ntmps162
  go_wp2_with (first
    | (at_range; refine wpList_range_own _ rfl _ 200 rfl 3 23 law3K Try.underlying200 _ f e.n _ rfl hown ?_; intro w0 hrg0 hg0 hs0)
    | go_in)
  go_frame
  go_loopw [3] (fun v wr => ∃ (left : Lit → Bool) (cnt : Nat) (ss : List Int), v = .int .u64 (orAll ss e.fr) ∧ wr.ranges Try.prog 3 (plainElem Try.prog 23) f w.heap.size e.n D left cnt ∧
      ss.Nodup ∧ (∀ x, x ∈ ss ↔ x ∈ e.K ∧ left (kJ x) = false) ∧ GrowBut w wr []) (fun _ wr => wr.rangeLeft f w.heap.size)
  case atStart => exact ⟨_, _, [], rfl, hrg0, List.nodup_nil, fun x => by rw [hD.has]; simp, .of_none hg0⟩
  case round =>
    obtain ⟨left, cnt, ss, rfl, hrg, hnd, hss, hG⟩ := hrel
    go_wp2_with (first
      | (at_next; refine wpList_next_ranges_ii _ rfl _ rfl 3 23 .i64 .u64 law3K Try.underlying3 Try.underlying23 f w.heap.size e.n _ _ _ rfl hrg ?_ ?_)
      | go_in)
    · intro hc0 hl0
      go_wp2_with go_in
      go_ret
      have hp : ss.Perm e.K := (List.perm_ext_iff_of_nodup hnd hD.nodup).2 fun x => by rw [hss x, hl0]; simp
      exact ⟨by rw [orAll_perm e.fr hp]; rfl, hG⟩
    · intro x c w2 cnt2 hwx hwc hlk hat hrg2 hlt hg2 hs2 hen
      have hxK : x ∈ e.K := by simpa using (hD.has x).symm.trans (has_true_of_atKey hat)
      obtain rfl : (e.fr x : Int) = c := by
        have := hD.at_ x hxK .nil
        rw [hat] at this
        simpa using this.symm
      have hor := u64_or_nat (orAll ss e.fr) (e.fr x) (orAll_lt hD.lt) (hD.lt x)
      have hx : x ∉ ss := fun hm => by have := ((hss x).1 hm).2; rw [hlk] at this; cases this
      have hGw2 := hG.from (.of_some hg2) (fun x hx => .inr (by simp at hx; omega))
      clear hs2
      generalize hq : orAll ss e.fr = q at hor
      go_wp2_with go_in
      refine ⟨⟨_, cnt2, x :: ss, ?_, hrg2, List.nodup_cons.2 ⟨hx, hnd⟩, fun y => ?_, hGw2⟩, by rw [hrg2.left_eq, hrg.left_eq]; exact hlt⟩
      · show _ = Value.int .u64 ((e.fr x ||| orAll ss e.fr : Nat) : Int)
        rw [hq, Nat.or_comm]
      · by_cases hy : y = x
        · subst hy; simp [hxK, Lit.sameKey]
        · simp [hss y, hy, Lit.sameKey]

set_option maxRecDepth 100000 in
set_option maxHeartbeats 4000000 in
theorem rnew_calls (w : World) : Calls Try.prog 54 #[] w fun e w' => ∃ B b, e = .returned (.pointer (some ⟨B, 0, none⟩)) ∧ BellsAt w' B b 0 [] ∧ w.heap.size ≤ B ∧ w.heap.size ≤ b ∧ GrowBut w w' [] := by
  go_enter Try.func54, Try.ntmps54
  have hmm := @run_makeMap Try.prog
  go_wp2_with go_in
  clear hmm
  go_ret
  refine ⟨_, _, rfl, ⟨by go_simp, by simp, by simp, ⟨.map [], (World.ownsMap_made w Try.prog 3 ptrR).alloc _, fun e he => (by cases he), fun k => by simp [Maps.has_eq]⟩, fun e he => (by cases he), List.nodup_nil, fun e he => (by cases he), fun e he => (by cases he), fun e he => (by cases he)⟩, by simp, Nat.le_refl _, (GrowBut.alloc w _ []).trans (GrowBut.alloc _ _ [])⟩

set_option maxRecDepth 100000 in
set_option maxHeartbeats 4000000 in
theorem rmake_has (B b n : Nat) (l : List BSet) (e : BSet) (w : World) (h : BellsAt w B b n l) (he : e ∈ l) (hk : (Lit.int .i64 e.who).wf = true) :
    Calls Try.prog 56 #[.pointer (some ⟨B, 0, none⟩), .int .i64 e.who] w fun r w' => r = .returned (.int .i64 (-6)) ∧ w' = w := by
  obtain ⟨DM, hownM, hatM, hhasM⟩ := h.own
  have hptr := h.ptr
  obtain ⟨v, ps, hlook, hv⟩ := hownM.lookup law3K Try.underlying195 (zeroPR w) (zd := .held (.pointer none)) (zp := []) rfl (keyJ hk)
  rw [hatM e he] at hv
  obtain ⟨_, hv, _⟩ := ptrR_inv hv
  cases hv
  generalize e.who = who at hk hlook ⊢
  generalize e.S = S at hlook
  go_enter Try.func56, Try.ntmps56
  go_wp2_with go_in
  go_ret
  exact ⟨rfl, rfl⟩

set_option maxRecDepth 100000 in
set_option maxHeartbeats 4000000 in
theorem rmake_calls (B b n : Nat) (l : List BSet) (who : Int) (w : World) (h : BellsAt w B b n l) (he : who ∉ l.map BSet.who) (hk : (Lit.int .i64 who).wf = true) (hn : n ≤ 1000) :
    Calls Try.prog 56 #[.pointer (some ⟨B, 0, none⟩), .int .i64 who] w fun r w' => r = .returned (.int .i64 0) ∧ ∃ S f, BellsAt w' B b (n + 1) (l ++ [newB who S f]) ∧ w.heap.size ≤ S ∧ w.heap.size ≤ f ∧ GrowBut w w' [b] := by
  obtain ⟨DM, hownM, hatM, hhasM⟩ := h.own
  have hptr := h.ptr
  obtain ⟨v, ps, hlook, hv⟩ := hownM.lookup law3K Try.underlying195 (zeroPR w) (zd := .held (.pointer none)) (zp := []) rfl (keyJ hk)
  rw [atKey_of_not_has (by rw [hhasM]; simpa using he)] at hv
  obtain ⟨_, hv, _⟩ := ptrR_inv hv
  cases hv
  obtain ⟨D, hown, hat, hhas⟩ := h.own
  have hbl := hown.lt
  go_enter Try.func56, Try.ntmps56
  have hmm := @run_makeMap Try.prog
  go_wp2_with (first
    | (at_mapUpdate; refine wpList_mapUpdate_own _ rfl _ _ _ 195 rfl 3 203 law3K Try.underlying195 ptrR b n D rfl ((hown.alloc _).alloc _) (by unfold maxLen; omega) _ _ (kJ who) rfl rfl (keyJ hk) _ [] rfl ?_; intro w2 hown2 hg2)
    | go_in)
  clear hmm
  go_ret
  have hG2 := GrowBut.of_some hg2
  have hG1 := (GrowBut.alloc w (.map #[] 0) []).trans (GrowBut.alloc _ (.cells #[.map (some w.heap.size), .int .u64 0, .bool false] 205) [])
  have hown2' : w2.ownsMap Try.prog 3 ptrR b (n + 1) (D.put (kJ who) (.held (.pointer (some ⟨w.heap.size + 1, 0, none⟩)))) := hown2
  have hG : GrowBut w w2 [b] := (hG1.mono (fun x hx => nomatch hx)).trans hG2
  have hBl := h.lt
  have hne := h.ne
  have hnewS : SetAt w2 (newB who (w.heap.size + 1) w.heap.size) := by
    have hz1 : ((w.alloc (.map #[] 0)).alloc (.cells #[.map (some w.heap.size), .int .u64 0, .bool false] 205)).frozen? ⟨w.heap.size + 1, 1, none⟩ = false := by go_simp
    have hz2 : ((w.alloc (.map #[] 0)).alloc (.cells #[.map (some w.heap.size), .int .u64 0, .bool false] 205)).frozen? ⟨w.heap.size + 1, 2, none⟩ = false := by go_simp
    have hnb : w.heap.size + 1 ∉ [b] := by simp; omega
    have hlt2 : w.heap.size + 1 < ((w.alloc (.map #[] 0)).alloc (.cells #[.map (some w.heap.size), .int .u64 0, .bool false] 205)).heap.size := by simp
    have hc0 : ((w.alloc (.map #[] 0)).alloc (.cells #[.map (some w.heap.size), .int .u64 0, .bool false] 205)).cell? ⟨w.heap.size + 1, 0, none⟩ = some (.map (some w.heap.size)) := by go_simp
    have hc1 : ((w.alloc (.map #[] 0)).alloc (.cells #[.map (some w.heap.size), .int .u64 0, .bool false] 205)).cell? ⟨w.heap.size + 1, 1, none⟩ = some (.int .u64 0) := by go_simp
    have hc2 : ((w.alloc (.map #[] 0)).alloc (.cells #[.map (some w.heap.size), .int .u64 0, .bool false] 205)).cell? ⟨w.heap.size + 1, 2, none⟩ = some (.bool false) := by go_simp
    exact ⟨hG2.cell hc0 hnb, hG2.cell hc1 hnb, hG2.cell hc2 hnb, hG2.frozen hlt2 hz1 hnb, hG2.frozen hlt2 hz2 hnb, Nat.lt_of_lt_of_le hlt2 hG2.size,
      ⟨.map [], hG2.map ((World.ownsMap_made w Try.prog 3 (plainElem Try.prog 23)).alloc _) (by show w.heap.size ∉ [b]; simp; omega), FromIs.empty⟩, by simp [newB]⟩
  have hold : ∀ e ∈ l, e.S < w.heap.size ∧ e.f < w.heap.size := fun e he => by
    obtain ⟨D', hown', _⟩ := (h.sets e he).own
    exact ⟨(h.sets e he).lt, hown'.lt⟩
  have hmem : ∀ x ∈ l ++ [newB who (w.heap.size + 1) w.heap.size], x ∈ l ∨ x = newB who (w.heap.size + 1) w.heap.size := fun x hx => by simpa using hx
  refine ⟨rfl, w.heap.size + 1, w.heap.size, ⟨hG2.cell (w := (w.alloc _).alloc _) (hG1.cell hptr (by simp)) (by simpa using hne), Nat.lt_of_lt_of_le hBl hG.size, hne, ⟨_, hown2', fun x hx z => ?_, fun k => ?_⟩, fun x hx => ?_, ?_, fun x hx y hy hxy => ?_, fun x hx y hy => ?_, fun x hx => ?_⟩, by omega, Nat.le_refl _, hG⟩
  · rcases hmem x hx with hx | rfl
    · rw [atKey_put_other (kJ_ne fun e => he (by rw [← e]; exact List.mem_map_of_mem hx))]
      exact hat x hx z
    · exact atKey_put_same hown.isMap (by trivial) _ z
  · by_cases e : k = who
    · subst e
      rw [has_put_same hown.isMap (by trivial)]
      simp [newB]
    · rw [has_put_other (kJ_ne e), hhas]
      simp [newB, e]
  · rcases hmem x hx with hx | rfl
    · exact (h.sets x hx).kept hG (by simpa using (h.sep3 x hx).2.1) (by simpa using (h.sep3 x hx).2.2.2)
    · exact hnewS
  · rw [List.map_append]
    exact List.nodup_append.2 ⟨h.whos, by simp, fun a ha b hb => by simp [newB] at hb; subst hb; exact fun e => he (e ▸ ha)⟩
  · rcases hmem x hx with hx | rfl <;> rcases hmem y hy with hy | rfl
    · exact h.sep1 x hx y hy hxy
    · have := hold x hx; simp [newB]; omega
    · have := hold y hy; simp [newB]; omega
    · exact absurd rfl hxy
  · rcases hmem x hx with hx | rfl <;> rcases hmem y hy with hy | rfl
    · exact h.sep2 x hx y hy
    · have := hold x hx; simp [newB]; omega
    · have := hold y hy; simp [newB]; omega
    · simp [newB]
  · rcases hmem x hx with hx | rfl
    · exact h.sep3 x hx
    · simp [newB]; omega

set_option maxRecDepth 100000 in
set_option maxHeartbeats 4000000 in
theorem runmake_none (B b n : Nat) (l : List BSet) (who : Int) (w : World) (h : BellsAt w B b n l) (he : who ∉ l.map BSet.who) (hk : (Lit.int .i64 who).wf = true) :
    Calls Try.prog 58 #[.pointer (some ⟨B, 0, none⟩), .int .i64 who] w fun r w' => r = .returned (.int .i64 (-6)) ∧ w' = w := by
  obtain ⟨DM, hownM, hatM, hhasM⟩ := h.own
  have hptr := h.ptr
  obtain ⟨v, ps, hlook, hv⟩ := hownM.lookup law3K Try.underlying195 (zeroPR w) (zd := .held (.pointer none)) (zp := []) rfl (keyJ hk)
  rw [atKey_of_not_has (by rw [hhasM]; simpa using he)] at hv
  obtain ⟨_, hv, _⟩ := ptrR_inv hv
  cases hv
  go_enter Try.func58, Try.ntmps58
  go_wp2_with go_in
  go_ret
  exact ⟨rfl, rfl⟩

set_option maxRecDepth 100000 in
set_option maxHeartbeats 4000000 in
theorem runmake_calls (B b n : Nat) (l : List BSet) (e : BSet) (w : World) (h : BellsAt w B b n l) (he : e ∈ l) (hk : (Lit.int .i64 e.who).wf = true) (h0 : orAll e.K e.fr = 0) (hn : e.n ≤ 1000) :
    Calls Try.prog 58 #[.pointer (some ⟨B, 0, none⟩), .int .i64 e.who] w fun r w' => r = .returned (.int .i64 0) ∧ BellsAt w' B b n (l.filter fun x => decide (x.who ≠ e.who)) ∧ GrowBut w w' [b] := by
  obtain ⟨DM, hownM, hatM, hhasM⟩ := h.own
  have hptr := h.ptr
  obtain ⟨v, ps, hlook, hv⟩ := hownM.lookup law3K Try.underlying195 (zeroPR w) (zd := .held (.pointer none)) (zp := []) rfl (keyJ hk)
  rw [hatM e he] at hv
  obtain ⟨_, hv, _⟩ := ptrR_inv hv
  cases hv
  have hB := rall_calls e w (h.sets e he) hn
  rw [h0] at hB
  have hkeep : ∀ w1, GrowBut w w1 [] → BellsAt w1 B b n l := fun w1 hg => h.kept hg (by simp) (by simp) (fun e he => by simp)
  generalize e.who = who at hk hlook ⊢
  generalize e.S = S at hlook hB
  go_enter Try.func58, Try.ntmps58
  go_wp2_with (first
    | (go_at_call 162; refine hB.mono ?_; rintro r w1 ⟨rfl, hg1⟩; have hB1 := hkeep w1 hg1; obtain ⟨D, hown, hat, hhas⟩ := hB1.own; have hptr1 := hB1.ptr)
    | (at_delete; refine wpList_delete_own _ rfl _ _ 195 3 rfl 203 law3K Try.underlying195 _ b n D rfl hown _ _ rfl (keyJ hk) ?_; intro w2 hown2 hturn2)
    | go_in)
  go_ret
  exact ⟨rfl, hB1.drop hat hhas who hown2 (.of_some hturn2.grown), (hg1.mono (by simp)).trans (.of_some hturn2.grown)⟩

set_option maxRecDepth 100000 in
set_option maxHeartbeats 4000000 in
theorem runmake_bound (B b n : Nat) (l : List BSet) (e : BSet) (w : World) (h : BellsAt w B b n l) (he : e ∈ l) (hk : (Lit.int .i64 e.who).wf = true) (h0 : orAll e.K e.fr ≠ 0) (hn : e.n ≤ 1000) :
    Calls Try.prog 58 #[.pointer (some ⟨B, 0, none⟩), .int .i64 e.who] w fun r w' => r = .returned (.int .i64 (-6)) ∧ GrowBut w w' [] := by
  obtain ⟨DM, hownM, hatM, hhasM⟩ := h.own
  have hptr := h.ptr
  obtain ⟨v, ps, hlook, hv⟩ := hownM.lookup law3K Try.underlying195 (zeroPR w) (zd := .held (.pointer none)) (zp := []) rfl (keyJ hk)
  rw [hatM e he] at hv
  obtain ⟨_, hv, _⟩ := ptrR_inv hv
  cases hv
  have hB := rall_calls e w (h.sets e he) hn
  generalize orAll e.K e.fr = all at hB h0
  have ha : ¬ (all : Int) = 0 := by omega
  generalize e.who = who at hk hlook ⊢
  generalize e.S = S at hlook hB
  go_enter Try.func58, Try.ntmps58
  go_wp2_with (first
    | (go_at_call 162; refine hB.mono ?_; rintro r w1 ⟨rfl, hg1⟩)
    | go_in)
  go_ret
  exact ⟨rfl, hg1⟩

set_option maxRecDepth 100000 in
set_option maxHeartbeats 4000000 in
theorem rbind_none (B b n : Nat) (l : List BSet) (who : Int) (from_ : Int) (bits : Nat) (w : World) (h : BellsAt w B b n l) (he : who ∉ l.map BSet.who) (hk : (Lit.int .i64 who).wf = true) :
    Calls Try.prog 60 #[.pointer (some ⟨B, 0, none⟩), .int .i64 who, .int .i64 from_, .int .u64 bits] w fun r w' => r = .returned (.int .i64 (-6)) ∧ w' = w := by
  obtain ⟨DM, hownM, hatM, hhasM⟩ := h.own
  have hptr := h.ptr
  obtain ⟨v, ps, hlook, hv⟩ := hownM.lookup law3K Try.underlying195 (zeroPR w) (zd := .held (.pointer none)) (zp := []) rfl (keyJ hk)
  rw [atKey_of_not_has (by rw [hhasM]; simpa using he)] at hv
  obtain ⟨_, hv, _⟩ := ptrR_inv hv
  cases hv
  go_enter Try.func60, Try.ntmps60
  go_wp2_with go_in
  go_ret
  exact ⟨rfl, rfl⟩

set_option maxRecDepth 100000 in
set_option maxHeartbeats 4000000 in
theorem rbind_zero (B b n : Nat) (l : List BSet) (e : BSet) (from_ : Int) (w : World) (h : BellsAt w B b n l) (he : e ∈ l) (hk : (Lit.int .i64 e.who).wf = true) :
    Calls Try.prog 60 #[.pointer (some ⟨B, 0, none⟩), .int .i64 e.who, .int .i64 from_, .int .u64 (0 : Nat)] w fun r w' => r = .returned (.int .i64 (-2)) ∧ w' = w := by
  obtain ⟨DM, hownM, hatM, hhasM⟩ := h.own
  have hptr := h.ptr
  obtain ⟨v, ps, hlook, hv⟩ := hownM.lookup law3K Try.underlying195 (zeroPR w) (zd := .held (.pointer none)) (zp := []) rfl (keyJ hk)
  rw [hatM e he] at hv
  obtain ⟨_, hv, _⟩ := ptrR_inv hv
  cases hv
  generalize e.who = who at hk hlook ⊢
  generalize e.S = S at hlook
  go_enter Try.func60, Try.ntmps60
  go_wp2_with go_in
  go_ret
  exact ⟨rfl, rfl⟩

set_option maxRecDepth 100000 in
set_option maxHeartbeats 4000000 in
theorem rbind_denied (B b n : Nat) (l : List BSet) (e : BSet) (from_ : Int) (bits : Nat) (w : World) (h : BellsAt w B b n l) (he : e ∈ l) (hk : (Lit.int .i64 e.who).wf = true) (hb : bits < 18446744073709551616) (h0 : bits ≠ 0) (hfree : orAll e.K e.fr &&& bits ≠ 0) (hn : e.n ≤ 1000) :
    Calls Try.prog 60 #[.pointer (some ⟨B, 0, none⟩), .int .i64 e.who, .int .i64 from_, .int .u64 bits] w fun r w' => r = .returned (.int .i64 (-6)) ∧ GrowBut w w' [] := by
  obtain ⟨DM, hownM, hatM, hhasM⟩ := h.own
  have hptr := h.ptr
  obtain ⟨v, ps, hlook, hv⟩ := hownM.lookup law3K Try.underlying195 (zeroPR w) (zd := .held (.pointer none)) (zp := []) rfl (keyJ hk)
  rw [hatM e he] at hv
  obtain ⟨_, hv, _⟩ := ptrR_inv hv
  cases hv
  have hS := h.sets e he
  have hB := rall_calls e w hS hn
  have hB0 : ¬ (bits : Int) = 0 := by omega
  have hA := u64_and_nat (orAll e.K e.fr) bits (orAll_lt (by obtain ⟨D, hown, hD⟩ := hS.own; exact hD.lt)) hb
  generalize e.who = who at hk hlook ⊢
  generalize e.S = S at hlook hB
  generalize orAll e.K e.fr = all at hB hA hfree
  generalize all &&& bits = an at hA hfree
  have hA0 : ¬ (an : Int) = 0 := by omega
  go_enter Try.func60, Try.ntmps60
  go_wp2_with (first
    | (go_at_call 162; refine hB.mono ?_; rintro r w1 ⟨rfl, hg1⟩)
    | go_in)
  go_ret
  exact ⟨rfl, hg1⟩

set_option maxRecDepth 100000 in
set_option maxHeartbeats 4000000 in
theorem rbind_calls (B b n : Nat) (l : List BSet) (e : BSet) (from_ : Int) (bits : Nat) (w : World) (h : BellsAt w B b n l) (he : e ∈ l) (hk : (Lit.int .i64 e.who).wf = true) (hf : (Lit.int .i64 from_).wf = true) (hb : bits < 18446744073709551616) (h0 : bits ≠ 0)
    (hfree : orAll e.K e.fr &&& bits = 0) (hn : e.n ≤ 1000) :
    Calls Try.prog 60 #[.pointer (some ⟨B, 0, none⟩), .int .i64 e.who, .int .i64 from_, .int .u64 bits] w fun r w' => r = .returned (.int .i64 0) ∧ BellsAt w' B b n (updB l e.who (bindB from_ bits)) ∧ GrowBut w w' [e.f] := by
  obtain ⟨DM, hownM, hatM, hhasM⟩ := h.own
  have hptr := h.ptr
  obtain ⟨v, ps, hlook, hv⟩ := hownM.lookup law3K Try.underlying195 (zeroPR w) (zd := .held (.pointer none)) (zp := []) rfl (keyJ hk)
  rw [hatM e he] at hv
  obtain ⟨_, hv, _⟩ := ptrR_inv hv
  cases hv
  have hS := h.sets e he
  have hB := rall_calls e w hS hn
  have hor : e.fr from_ ||| bits < 18446744073709551616 := by
    obtain ⟨D, hown, hD⟩ := hS.own
    exact Nat.or_lt_two_pow (n := 64) (hD.lt from_) hb
  have hu := fun w' => h.upd (w' := w') he (bindB from_ bits) (fun e => ⟨rfl, rfl, rfl⟩) (t := [e.f])
  have hkeep : ∀ w1, GrowBut w w1 [] → SetAt w1 e ∧ w1.cell? ⟨e.S, 0, none⟩ = some (.map (some e.f)) := fun w1 hg => ⟨hS.kept hg (by simp) (by simp), hg.cell hS.from_ (by simp)⟩
  have hB0 : ¬ (bits : Int) = 0 := by omega
  have hA := u64_and_nat (orAll e.K e.fr) bits (orAll_lt (by obtain ⟨D, hown, hD⟩ := hS.own; exact hD.lt)) hb
  rw [hfree] at hA
  have hR := u64_or_nat (e.fr from_) bits (by obtain ⟨D, hown, hD⟩ := hS.own; exact hD.lt from_) hb
  generalize hee : e.who = who at hk hlook ⊢
  generalize hes : e.S = S at hlook hB hkeep
  generalize hef : e.f = f at hkeep ⊢
  generalize orAll e.K e.fr = all at hB hA
  generalize hff : e.fr from_ = ff at hor hR
  go_enter Try.func60, Try.ntmps60
  go_upto_region 8 with (first
    | (go_at_call 162; refine hB.mono ?_; rintro r w1 ⟨rfl, hg1⟩)
    | go_in)
  obtain ⟨hS1, c0⟩ := hkeep w1 hg1
  obtain ⟨D, hown, hD⟩ := hS1.own
  rw [hef] at hown
  obtain ⟨c, hrun, hat, hwc⟩ := hown.drew.lookup_int law3K Try.underlying200 Try.underlying23 (zeroU w1.drew) (keyJ hf)
  rw [hD.atKey, hff] at hat
  obtain rfl : (ff : Int) = c := by simpa using hat
  have hwf : (Lit.int .u64 ((ff ||| bits : Nat) : Int)).wf = true := by
    simp only [Lit.wf, Bool.and_eq_true, decide_eq_true_eq]
    have hm : IntKind.u64.min = 0 := by decide
    have hM : IntKind.u64.max = 18446744073709551615 := by decide
    rw [hm, hM]
    omega
  go_still_tail 13, (by kernel_rfl)
  change wpList _ _ _ _ _ w1.drew
  go_wp2_with (first
    | (at_mapUpdate; refine wpList_mapUpdate_own _ rfl _ _ _ 200 rfl 3 23 law3K Try.underlying200 (plainElem Try.prog 23) f e.n D rfl hown.drew (by unfold maxLen; omega) _ _ (kJ from_) rfl rfl (keyJ hf) (.lit (.int .u64 ((ff ||| bits : Nat) : Int))) [] (plainElem_int Try.underlying23 hwf) ?_; intro w2 hown2 hg2)
    | go_in)
  go_ret
  subst hee hes hff hef
  have hG2 := (GrowBut.drew w1 _).trans (GrowBut.of_some hg2)
  have hG : GrowBut w w2 [e.f] := (hg1.mono (fun x hx => nomatch hx)).trans hG2
  have hne : e.S ∉ [e.f] := by simpa using h.sep2 e he e he
  exact ⟨rfl, hu _ hG (by simp) ⟨hG2.cell hS1.from_ hne, hG2.cell hS1.rung hne, hG2.cell hS1.fresh hne, hG2.frozen hS1.lt hS1.fz1 hne, hG2.frozen hS1.lt hS1.fz2 hne, Nat.lt_of_lt_of_le hS1.lt hG2.size, ⟨_, hown2, hD.put hown.isMap from_ hor⟩, hS1.rlt⟩, hG⟩

set_option maxRecDepth 100000 in
set_option maxHeartbeats 4000000 in
theorem runbind_none (B b n : Nat) (l : List BSet) (who : Int) (from_ : Int) (bits : Nat) (w : World) (h : BellsAt w B b n l) (he : who ∉ l.map BSet.who) (hk : (Lit.int .i64 who).wf = true) :
    Calls Try.prog 62 #[.pointer (some ⟨B, 0, none⟩), .int .i64 who, .int .i64 from_, .int .u64 bits] w fun r w' => r = .returned (.int .i64 (-6)) ∧ w' = w := by
  have hO := rof_none B b n l who from_ bits w h he hk
  go_enter Try.func62, Try.ntmps62
  go_wp2_with (first
    | (go_at_call 163; refine hO.mono ?_; rintro r w1 ⟨rfl, hw1⟩; rw [hw1]; clear hw1 w1)
    | go_in)
  go_ret
  exact ⟨rfl, rfl⟩

set_option maxRecDepth 100000 in
set_option maxHeartbeats 4000000 in
theorem runbind_zero (B b n : Nat) (l : List BSet) (e : BSet) (from_ : Int) (w : World) (h : BellsAt w B b n l) (he : e ∈ l) (hk : (Lit.int .i64 e.who).wf = true) :
    Calls Try.prog 62 #[.pointer (some ⟨B, 0, none⟩), .int .i64 e.who, .int .i64 from_, .int .u64 (0 : Nat)] w fun r w' => r = .returned (.int .i64 (-2)) ∧ w' = w := by
  have hO := rof_zero B b n l e from_ w h he hk
  generalize e.who = who at hk hO ⊢
  go_enter Try.func62, Try.ntmps62
  go_wp2_with (first
    | (go_at_call 163; refine hO.mono ?_; rintro r w1 ⟨rfl, hw1⟩; rw [hw1]; clear hw1 w1)
    | go_in)
  go_ret
  exact ⟨rfl, rfl⟩

set_option maxRecDepth 100000 in
set_option maxHeartbeats 4000000 in
theorem runbind_denied (B b n : Nat) (l : List BSet) (e : BSet) (from_ : Int) (bits : Nat) (w : World) (h : BellsAt w B b n l) (he : e ∈ l) (hk : (Lit.int .i64 e.who).wf = true) (hf : (Lit.int .i64 from_).wf = true) (hb : bits < 18446744073709551616) (h0 : bits ≠ 0) (hin : bits &&& (18446744073709551615 - e.fr from_) ≠ 0) :
    Calls Try.prog 62 #[.pointer (some ⟨B, 0, none⟩), .int .i64 e.who, .int .i64 from_, .int .u64 bits] w fun r w' => r = .returned (.int .i64 (-6)) ∧ w' = w := by
  have hO := rof_denied B b n l e from_ bits w h he hk hf hb h0 hin
  generalize e.who = who at hk hO ⊢
  go_enter Try.func62, Try.ntmps62
  go_wp2_with (first
    | (go_at_call 163; refine hO.mono ?_; rintro r w1 ⟨rfl, hw1⟩; rw [hw1]; clear hw1 w1)
    | go_in)
  go_ret
  exact ⟨rfl, rfl⟩

set_option maxRecDepth 100000 in
set_option maxHeartbeats 4000000 in
theorem rring_none (B b n : Nat) (l : List BSet) (who : Int) (from_ : Int) (bits : Nat) (w : World) (h : BellsAt w B b n l) (he : who ∉ l.map BSet.who) (hk : (Lit.int .i64 who).wf = true) :
    Calls Try.prog 64 #[.pointer (some ⟨B, 0, none⟩), .int .i64 who, .int .i64 from_, .int .u64 bits] w fun r w' => r = .returned (.int .i64 (-6)) ∧ w' = w := by
  have hO := rof_none B b n l who from_ bits w h he hk
  go_enter Try.func64, Try.ntmps64
  go_wp2_with (first
    | (go_at_call 163; refine hO.mono ?_; rintro r w1 ⟨rfl, hw1⟩; rw [hw1]; clear hw1 w1)
    | go_in)
  go_ret
  exact ⟨rfl, rfl⟩

set_option maxRecDepth 100000 in
set_option maxHeartbeats 4000000 in
theorem rring_zero (B b n : Nat) (l : List BSet) (e : BSet) (from_ : Int) (w : World) (h : BellsAt w B b n l) (he : e ∈ l) (hk : (Lit.int .i64 e.who).wf = true) :
    Calls Try.prog 64 #[.pointer (some ⟨B, 0, none⟩), .int .i64 e.who, .int .i64 from_, .int .u64 (0 : Nat)] w fun r w' => r = .returned (.int .i64 (-2)) ∧ w' = w := by
  have hO := rof_zero B b n l e from_ w h he hk
  generalize e.who = who at hk hO ⊢
  go_enter Try.func64, Try.ntmps64
  go_wp2_with (first
    | (go_at_call 163; refine hO.mono ?_; rintro r w1 ⟨rfl, hw1⟩; rw [hw1]; clear hw1 w1)
    | go_in)
  go_ret
  exact ⟨rfl, rfl⟩

set_option maxRecDepth 100000 in
set_option maxHeartbeats 4000000 in
theorem rring_denied (B b n : Nat) (l : List BSet) (e : BSet) (from_ : Int) (bits : Nat) (w : World) (h : BellsAt w B b n l) (he : e ∈ l) (hk : (Lit.int .i64 e.who).wf = true) (hf : (Lit.int .i64 from_).wf = true) (hb : bits < 18446744073709551616) (h0 : bits ≠ 0) (hin : bits &&& (18446744073709551615 - e.fr from_) ≠ 0) :
    Calls Try.prog 64 #[.pointer (some ⟨B, 0, none⟩), .int .i64 e.who, .int .i64 from_, .int .u64 bits] w fun r w' => r = .returned (.int .i64 (-6)) ∧ w' = w := by
  have hO := rof_denied B b n l e from_ bits w h he hk hf hb h0 hin
  generalize e.who = who at hk hO ⊢
  go_enter Try.func64, Try.ntmps64
  go_wp2_with (first
    | (go_at_call 163; refine hO.mono ?_; rintro r w1 ⟨rfl, hw1⟩; rw [hw1]; clear hw1 w1)
    | go_in)
  go_ret
  exact ⟨rfl, rfl⟩

set_option maxRecDepth 100000 in
set_option maxHeartbeats 4000000 in
theorem runbind_busy (B b n : Nat) (l : List BSet) (e : BSet) (from_ : Int) (bits : Nat) (w : World) (h : BellsAt w B b n l) (he : e ∈ l) (hk : (Lit.int .i64 e.who).wf = true) (hf : (Lit.int .i64 from_).wf = true) (hb : bits < 18446744073709551616) (h0 : bits ≠ 0) (hin : bits &&& (18446744073709551615 - e.fr from_) = 0) (hru : e.rung &&& bits ≠ 0) :
    Calls Try.prog 62 #[.pointer (some ⟨B, 0, none⟩), .int .i64 e.who, .int .i64 from_, .int .u64 bits] w fun r w' => r = .returned (.int .i64 (-4)) ∧ w' = w := by
  have hO := rof_calls B b n l e from_ bits w h he hk hf hb h0 hin
  obtain ⟨c0, c1, c2, f1, f2, hlt, ⟨D, hown, hD⟩, hrl⟩ := h.sets e he
  have hM := u64_and_nat e.rung bits hrl hb
  generalize e.rung &&& bits = an at hM hru
  have hA0 : ¬ (an : Int) = 0 := by omega
  generalize e.who = who at hk hO ⊢
  generalize e.S = S at hO c0 c1
  generalize e.rung = rg at c1 hM hrl
  go_enter Try.func62, Try.ntmps62
  go_wp2_with (first
    | (go_at_call 163; refine hO.mono ?_; rintro r w1 ⟨rfl, hw1⟩; rw [hw1]; clear hw1 w1)
    | go_in)
  go_ret
  exact ⟨rfl, rfl⟩

set_option maxRecDepth 100000 in
set_option maxHeartbeats 4000000 in
theorem runbind_calls (B b n : Nat) (l : List BSet) (e : BSet) (from_ : Int) (bits : Nat) (w : World) (h : BellsAt w B b n l) (he : e ∈ l) (hk : (Lit.int .i64 e.who).wf = true) (hf : (Lit.int .i64 from_).wf = true) (hb : bits < 18446744073709551616) (h0 : bits ≠ 0)
    (hin : bits &&& (18446744073709551615 - e.fr from_) = 0) (hru : e.rung &&& bits = 0) (hn : e.n ≤ 1000) :
    Calls Try.prog 62 #[.pointer (some ⟨B, 0, none⟩), .int .i64 e.who, .int .i64 from_, .int .u64 bits] w fun r w' => r = .returned (.int .i64 0) ∧ BellsAt w' B b n (updB l e.who (unbindB from_ bits)) ∧ GrowBut w w' [e.f] := by
  have hO := rof_calls B b n l e from_ bits w h he hk hf hb h0 hin
  have hS := h.sets e he
  have hu := fun w' => h.upd (w' := w') he (unbindB from_ bits) (fun e => ⟨rfl, rfl, rfl⟩) (t := [e.f])
  obtain ⟨c0, c1, c2, f1, f2, hlt, ⟨D, hown, hD⟩, hrl⟩ := h.sets e he
  obtain ⟨c, hrun, hat, hwc⟩ := hown.drew.lookup_int law3K Try.underlying200 Try.underlying23 (zeroU w.drew) (keyJ hf)
  rw [hD.atKey] at hat
  obtain rfl : (e.fr from_ : Int) = c := by simpa using hat
  have hfl := hD.lt from_
  have hor : e.fr from_ &&& (18446744073709551615 - bits) < 18446744073709551616 := Nat.lt_of_le_of_lt Nat.and_le_left hfl
  have hB0 : ¬ (bits : Int) = 0 := by omega
  have hne : e.S ∉ [e.f] := by simpa using h.sep2 e he e he
  generalize hee : e.who = who at hk hO ⊢
  generalize hes : e.S = S at hO c0 c1
  generalize hef : e.f = f at c0 hrun hown ⊢
  generalize hff : e.fr from_ = ff at hrun hin hfl hor
  generalize e.rung = rg at c1 hrl hru
  have hN := u64_andNot_nat bits ff hb hfl
  rw [hin] at hN
  have hM := u64_and_nat rg bits hrl hb
  rw [hru] at hM
  have hR := u64_andNot_nat ff bits hfl hb
  have hwf : (Lit.int .u64 ((ff &&& (18446744073709551615 - bits) : Nat) : Int)).wf = true := by
    simp only [Lit.wf, Bool.and_eq_true, decide_eq_true_eq]
    have hm : IntKind.u64.min = 0 := by decide
    have hM : IntKind.u64.max = 18446744073709551615 := by decide
    rw [hm, hM]
    omega
  go_enter Try.func62, Try.ntmps62
  go_upto_region 6 with (first
    | (go_at_call 163; refine hO.mono ?_; rintro r w1 ⟨rfl, hw1⟩; rw [hw1]; clear hw1 w1)
    | go_in)
  go_still_tail 13, (by kernel_rfl)
  change wpList _ _ _ _ _ w.drew
  go_wp2_with (first
    | (at_mapUpdate; refine wpList_mapUpdate_own _ rfl _ _ _ 200 rfl 3 23 law3K Try.underlying200 (plainElem Try.prog 23) f e.n D rfl hown.drew (by unfold maxLen; omega) _ _ (kJ from_) rfl rfl (keyJ hf) (.lit (.int .u64 ((ff &&& (18446744073709551615 - bits) : Nat) : Int))) [] (plainElem_int Try.underlying23 hwf) ?_; intro w2 hown2 hg2)
    | go_in)
  go_ret
  subst hee hes hff hef
  have hG2 := (GrowBut.drew w _).trans (GrowBut.of_some hg2)
  exact ⟨rfl, hu _ hG2 (by simp) ⟨hG2.cell hS.from_ hne, hG2.cell hS.rung hne, hG2.cell hS.fresh hne, hG2.frozen hS.lt hS.fz1 hne, hG2.frozen hS.lt hS.fz2 hne, Nat.lt_of_lt_of_le hS.lt hG2.size, ⟨_, hown2, hD.put hown.isMap from_ hor⟩, hS.rlt⟩, hG2⟩

set_option maxRecDepth 100000 in
set_option maxHeartbeats 4000000 in
theorem rring_calls (B b n : Nat) (l : List BSet) (e : BSet) (from_ : Int) (bits : Nat) (w : World) (h : BellsAt w B b n l) (he : e ∈ l) (hk : (Lit.int .i64 e.who).wf = true) (hf : (Lit.int .i64 from_).wf = true) (hb : bits < 18446744073709551616) (h0 : bits ≠ 0)
    (hin : bits &&& (18446744073709551615 - e.fr from_) = 0) :
    Calls Try.prog 64 #[.pointer (some ⟨B, 0, none⟩), .int .i64 e.who, .int .i64 from_, .int .u64 bits] w fun r w' => r = .returned (.int .i64 0) ∧ BellsAt w' B b n (updB l e.who fun e => { e with rung := e.rung ||| bits, fresh := true }) ∧ GrowBut w w' [e.S] := by
  have hO := rof_calls B b n l e from_ bits w h he hk hf hb h0 hin
  have hS := h.sets e he
  have hor : e.rung ||| bits < 18446744073709551616 := Nat.or_lt_two_pow (n := 64) hS.rlt hb
  have ht := hS.turned (h.sep2 e he e he) (r := e.rung ||| bits) hor true
  have hu := fun w' => h.upd (w' := w') he (fun e => { e with rung := e.rung ||| bits, fresh := true }) (fun e => ⟨rfl, rfl, rfl⟩) (t := [e.S])
  obtain ⟨c0, c1, c2, f1, f2, hlt, ⟨D, hown, hD⟩, hrl⟩ := hS
  obtain ⟨c, hrun, hat, hwc⟩ := hown.lookup_int law3K Try.underlying200 Try.underlying23 (zeroU w) (keyJ hf)
  rw [hD.atKey] at hat
  obtain rfl : (e.fr from_ : Int) = c := by simpa using hat
  have hfl := hD.lt from_
  have hB0 : ¬ (bits : Int) = 0 := by omega
  generalize hee : e.who = who at hk hO ⊢
  generalize hes : e.S = S at hO c0 c1 c2 f1 f2 hlt ⊢
  generalize e.f = f at c0 hrun
  generalize e.fr from_ = ff at hrun hin hfl
  generalize hrg : e.rung = rg at c1 hor hrl
  have hN := u64_andNot_nat bits ff hb hfl
  rw [hin] at hN
  have hR := u64_or_nat rg bits hrl hb
  go_enter Try.func64, Try.ntmps64
  go_wp2_with (first
    | (go_at_call 163; refine hO.mono ?_; rintro r w1 ⟨rfl, hw1⟩; rw [hw1]; clear hw1 w1)
    | go_in)
  go_ret
  subst hee hes hrg
  exact ⟨rfl, hu _ ht.2 (by simp) ht.1, ht.2⟩

set_option maxRecDepth 100000 in
set_option maxHeartbeats 4000000 in
theorem rhear_none (B b n : Nat) (l : List BSet) (who : Int) (w : World) (h : BellsAt w B b n l) (he : who ∉ l.map BSet.who) (hk : (Lit.int .i64 who).wf = true) :
    Calls Try.prog 66 #[.pointer (some ⟨B, 0, none⟩), .int .i64 who] w fun r w' => r = .returned (.tuple #[.int .u64 (0 : Nat), .int .i64 (-6)]) ∧ w' = w := by
  obtain ⟨DM, hownM, hatM, hhasM⟩ := h.own
  have hptr := h.ptr
  obtain ⟨v, ps, hlook, hv⟩ := hownM.lookup law3K Try.underlying195 (zeroPR w) (zd := .held (.pointer none)) (zp := []) rfl (keyJ hk)
  rw [atKey_of_not_has (by rw [hhasM]; simpa using he)] at hv
  obtain ⟨_, hv, _⟩ := ptrR_inv hv
  cases hv
  go_enter Try.func66, Try.ntmps66
  go_wp2_with go_in
  go_ret2
  exact ⟨rfl, rfl⟩

set_option maxRecDepth 100000 in
set_option maxHeartbeats 4000000 in
theorem rhear_calls (B b n : Nat) (l : List BSet) (e : BSet) (w : World) (h : BellsAt w B b n l) (he : e ∈ l) (hk : (Lit.int .i64 e.who).wf = true) :
    Calls Try.prog 66 #[.pointer (some ⟨B, 0, none⟩), .int .i64 e.who] w fun r w' => r = .returned (.tuple #[.int .u64 e.rung, .int .i64 0]) ∧ BellsAt w' B b n (updB l e.who fun e => { e with rung := 0, fresh := false }) ∧ GrowBut w w' [e.S] := by
  obtain ⟨DM, hownM, hatM, hhasM⟩ := h.own
  have hptr := h.ptr
  obtain ⟨v, ps, hlook, hv⟩ := hownM.lookup law3K Try.underlying195 (zeroPR w) (zd := .held (.pointer none)) (zp := []) rfl (keyJ hk)
  rw [hatM e he] at hv
  obtain ⟨_, hv, _⟩ := ptrR_inv hv
  cases hv
  have hS := h.sets e he
  have ht := hS.turned (h.sep2 e he e he) (r := 0) (by decide) false
  have hu := fun w' => h.upd (w' := w') he (fun e => { e with rung := 0, fresh := false }) (fun e => ⟨rfl, rfl, rfl⟩) (t := [e.S])
  obtain ⟨c0, c1, c2, f1, f2, hlt, _, _⟩ := hS
  generalize hee : e.who = who at hk hlook ⊢
  generalize hes : e.S = S at hlook c0 c1 c2 f1 f2 hlt ⊢
  generalize e.rung = rg at c1 ⊢
  go_enter Try.func66, Try.ntmps66
  go_wp2_with go_in
  go_ret2
  subst hee hes
  exact ⟨rfl, hu _ ht.2 (by simp) ht.1, ht.2⟩

set_option maxRecDepth 100000 in
set_option maxHeartbeats 4000000 in
theorem rbound_none (B b n : Nat) (l : List BSet) (who : Int) (from_ : Int) (w : World) (h : BellsAt w B b n l) (he : who ∉ l.map BSet.who) (hk : (Lit.int .i64 who).wf = true) :
    Calls Try.prog 70 #[.pointer (some ⟨B, 0, none⟩), .int .i64 who, .int .i64 from_] w fun r w' => r = .returned (.int .u64 (0 : Nat)) ∧ w' = w := by
  obtain ⟨DM, hownM, hatM, hhasM⟩ := h.own
  have hptr := h.ptr
  obtain ⟨v, ps, hlook, hv⟩ := hownM.lookup law3K Try.underlying195 (zeroPR w) (zd := .held (.pointer none)) (zp := []) rfl (keyJ hk)
  rw [atKey_of_not_has (by rw [hhasM]; simpa using he)] at hv
  obtain ⟨_, hv, _⟩ := ptrR_inv hv
  cases hv
  go_enter Try.func70, Try.ntmps70
  go_wp2_with go_in
  go_ret
  exact ⟨rfl, rfl⟩

set_option maxRecDepth 100000 in
set_option maxHeartbeats 4000000 in
theorem rboundOf_calls (B b n : Nat) (l : List BSet) (e : BSet) (from_ : Int) (w : World) (h : BellsAt w B b n l) (he : e ∈ l) (hk : (Lit.int .i64 e.who).wf = true) (hf : (Lit.int .i64 from_).wf = true) :
    Calls Try.prog 70 #[.pointer (some ⟨B, 0, none⟩), .int .i64 e.who, .int .i64 from_] w fun r w' => r = .returned (.int .u64 (e.fr from_)) ∧ w' = w := by
  obtain ⟨DM, hownM, hatM, hhasM⟩ := h.own
  have hptr := h.ptr
  obtain ⟨v, ps, hlook, hv⟩ := hownM.lookup law3K Try.underlying195 (zeroPR w) (zd := .held (.pointer none)) (zp := []) rfl (keyJ hk)
  rw [hatM e he] at hv
  obtain ⟨_, hv, _⟩ := ptrR_inv hv
  cases hv
  obtain ⟨c0, c1, c2, f1, f2, hlt, ⟨D, hown, hD⟩, hrl⟩ := h.sets e he
  obtain ⟨c, hrun, hat, hwc⟩ := hown.lookup_int law3K Try.underlying200 Try.underlying23 (zeroU w) (keyJ hf)
  rw [hD.atKey] at hat
  obtain rfl : (e.fr from_ : Int) = c := by simpa using hat
  have hfl := hD.lt from_
  generalize e.who = who at hk hlook ⊢
  generalize e.S = S at hlook c0
  generalize e.f = f at c0 hrun
  generalize e.fr from_ = ff at hrun ⊢
  go_enter Try.func70, Try.ntmps70
  go_wp2_with go_in
  go_ret
  exact ⟨rfl, rfl⟩

end Go.Proofs.Ytlgfopfibopcnaa
