/-
  Package bell: what else its methods do: Unmake, Unbind, and what is refused.
-/
import Derived.Test.YtlgfopfibopcnaaBellP
namespace Go.Proofs.Ytlgfopfibopcnaa
open Go Go.RowKit Go.Maps Go.Am Go.Sort
set_option linter.unusedVariables false

set_option maxRecDepth 100000 in
set_option maxHeartbeats 2000000 in
theorem unmake_none (B b n : Nat) (l : List BSet) (who : Int) (w : World) (h : BellsAt w B b n l) (he : who ∉ l.map BSet.who) (hk : (Lit.int .i64 who).wf = true) :
    Calls Try.prog 57 #[.pointer (some ⟨B, 0, none⟩), .int .i64 who] w fun r w' => r = .returned (.int .i64 (-6)) ∧ w' = w := by
  have hO := ofB_none B b n l who w h he hk
  go_enter Try.func57, Try.ntmps57
  go_wp2_with (first
    | (go_at_call 160; refine hO.mono ?_; rintro r w1 ⟨rfl, hw1⟩; rw [hw1]; clear hw1 w1)
    | go_in)
  go_ret
  exact ⟨rfl, rfl⟩

set_option maxRecDepth 100000 in
set_option maxHeartbeats 2000000 in
theorem bind_none (B b n : Nat) (l : List BSet) (who : Int) (from_ : Int) (bits : Nat) (w : World) (h : BellsAt w B b n l) (he : who ∉ l.map BSet.who) (hk : (Lit.int .i64 who).wf = true) :
    Calls Try.prog 59 #[.pointer (some ⟨B, 0, none⟩), .int .i64 who, .int .i64 from_, .int .u64 bits] w fun r w' => r = .returned (.int .i64 (-6)) ∧ w' = w := by
  have hO := ofB_none B b n l who w h he hk
  go_enter Try.func59, Try.ntmps59
  go_wp2_with (first
    | (go_at_call 160; refine hO.mono ?_; rintro r w1 ⟨rfl, hw1⟩; rw [hw1]; clear hw1 w1)
    | go_in)
  go_ret
  exact ⟨rfl, rfl⟩

set_option maxRecDepth 100000 in
set_option maxHeartbeats 2000000 in
theorem unbind_none (B b n : Nat) (l : List BSet) (who : Int) (from_ : Int) (bits : Nat) (w : World) (h : BellsAt w B b n l) (he : who ∉ l.map BSet.who) (hk : (Lit.int .i64 who).wf = true) :
    Calls Try.prog 61 #[.pointer (some ⟨B, 0, none⟩), .int .i64 who, .int .i64 from_, .int .u64 bits] w fun r w' => r = .returned (.int .i64 (-6)) ∧ w' = w := by
  have hO := ofB_none B b n l who w h he hk
  go_enter Try.func61, Try.ntmps61
  go_wp2_with (first
    | (go_at_call 160; refine hO.mono ?_; rintro r w1 ⟨rfl, hw1⟩; rw [hw1]; clear hw1 w1)
    | go_in)
  go_ret
  exact ⟨rfl, rfl⟩

set_option maxRecDepth 100000 in
set_option maxHeartbeats 2000000 in
theorem ring_none (B b n : Nat) (l : List BSet) (who : Int) (from_ : Int) (bits : Nat) (w : World) (h : BellsAt w B b n l) (he : who ∉ l.map BSet.who) (hk : (Lit.int .i64 who).wf = true) :
    Calls Try.prog 63 #[.pointer (some ⟨B, 0, none⟩), .int .i64 who, .int .i64 from_, .int .u64 bits] w fun r w' => r = .returned (.int .i64 (-6)) ∧ w' = w := by
  have hO := ofB_none B b n l who w h he hk
  go_enter Try.func63, Try.ntmps63
  go_wp2_with (first
    | (go_at_call 160; refine hO.mono ?_; rintro r w1 ⟨rfl, hw1⟩; rw [hw1]; clear hw1 w1)
    | go_in)
  go_ret
  exact ⟨rfl, rfl⟩

set_option maxRecDepth 100000 in
set_option maxHeartbeats 2000000 in
theorem hear_none (B b n : Nat) (l : List BSet) (who : Int) (w : World) (h : BellsAt w B b n l) (he : who ∉ l.map BSet.who) (hk : (Lit.int .i64 who).wf = true) :
    Calls Try.prog 65 #[.pointer (some ⟨B, 0, none⟩), .int .i64 who] w fun r w' => r = .returned (.tuple #[.int .u64 (0 : Nat), .int .i64 (-6)]) ∧ w' = w := by
  have hO := ofB_none B b n l who w h he hk
  go_enter Try.func65, Try.ntmps65
  go_wp2_with (first
    | (go_at_call 160; refine hO.mono ?_; rintro r w1 ⟨rfl, hw1⟩; rw [hw1]; clear hw1 w1)
    | go_in)
  go_ret2
  exact ⟨rfl, rfl⟩

set_option maxRecDepth 100000 in
set_option maxHeartbeats 2000000 in
theorem bound_none (B b n : Nat) (l : List BSet) (who : Int) (from_ : Int) (w : World) (h : BellsAt w B b n l) (he : who ∉ l.map BSet.who) (hk : (Lit.int .i64 who).wf = true) :
    Calls Try.prog 69 #[.pointer (some ⟨B, 0, none⟩), .int .i64 who, .int .i64 from_] w fun r w' => r = .returned (.int .u64 (0 : Nat)) ∧ w' = w := by
  have hO := ofB_none B b n l who w h he hk
  go_enter Try.func69, Try.ntmps69
  go_wp2_with (first
    | (go_at_call 160; refine hO.mono ?_; rintro r w1 ⟨rfl, hw1⟩; rw [hw1]; clear hw1 w1)
    | go_in)
  go_ret
  exact ⟨rfl, rfl⟩

set_option maxRecDepth 100000 in
set_option maxHeartbeats 2000000 in
theorem make_has (B b n : Nat) (l : List BSet) (e : BSet) (w : World) (h : BellsAt w B b n l) (he : e ∈ l) (hk : (Lit.int .i64 e.who).wf = true) :
    Calls Try.prog 55 #[.pointer (some ⟨B, 0, none⟩), .int .i64 e.who] w fun r w' => r = .returned (.int .i64 (-6)) ∧ w' = w := by
  have hO := ofB_calls B b n l e w h he hk
  generalize e.who = who at hk hO ⊢
  generalize e.S = S at hO
  go_enter Try.func55, Try.ntmps55
  go_wp2_with (first
    | (go_at_call 160; refine hO.mono ?_; rintro r w1 ⟨rfl, hw1⟩; rw [hw1]; clear hw1 w1)
    | go_in)
  go_ret
  exact ⟨rfl, rfl⟩

theorem BellsAt.drop {w w' : World} {B b n : Nat} {l : List BSet} (h : BellsAt w B b n l) {D : DataW Value} (hat : ∀ e ∈ l, ∀ z, D.atKey (kJ e.who) z = .held (.pointer (some ⟨e.S, 0, none⟩))) (hhas : ∀ k, Maps.has D (kJ k) = decide (k ∈ l.map BSet.who))
    (who : Int) (hown' : w'.ownsMap Try.prog 3 ptrR b n (D.del (kJ who))) (hg : GrowBut w w' [b]) : BellsAt w' B b n (l.filter fun x => decide (x.who ≠ who)) := by
  have hsub : ∀ x ∈ l.filter (fun x => decide (x.who ≠ who)), x ∈ l ∧ x.who ≠ who := fun x hx => by simpa using hx
  refine ⟨hg.cell h.ptr (by simpa using h.ne), Nat.lt_of_lt_of_le h.lt hg.size, h.ne, ⟨_, hown', fun x hx z => ?_, fun k => ?_⟩, fun x hx => ?_, List.Nodup.sublist (List.Sublist.map _ List.filter_sublist) h.whos, fun x hx y hy hxy => ?_, fun x hx y hy => ?_, fun x hx => ?_⟩
  · rw [atKey_del_other (kJ_ne (hsub x hx).2)]
    exact hat x (hsub x hx).1 z
  · by_cases hk : k = who
    · subst hk
      rw [has_del_same]
      symm
      rw [decide_eq_false_iff_not]
      intro hm
      obtain ⟨x, hx, e1⟩ := List.mem_map.1 hm
      exact (hsub x hx).2 e1
    · rw [has_del_other (kJ_ne hk), hhas]
      congr 1
      rw [eq_iff_iff, List.mem_map, List.mem_map]
      constructor
      · rintro ⟨x, hx, e1⟩
        exact ⟨x, by simp [hx, e1, hk], e1⟩
      · rintro ⟨x, hx, e1⟩
        exact ⟨x, (hsub x hx).1, e1⟩
  · have h3 := h.sep3 x (hsub x hx).1
    exact (h.sets x (hsub x hx).1).kept hg (by simpa using h3.2.1) (by simpa using h3.2.2.2)
  · exact h.sep1 x (hsub x hx).1 y (hsub y hy).1 hxy
  · exact h.sep2 x (hsub x hx).1 y (hsub y hy).1
  · exact h.sep3 x (hsub x hx).1

set_option maxRecDepth 100000 in
set_option maxHeartbeats 2000000 in
theorem unmake_calls (B b n : Nat) (l : List BSet) (e : BSet) (w : World) (h : BellsAt w B b n l) (he : e ∈ l) (hk : (Lit.int .i64 e.who).wf = true) (h0 : orAll e.K e.fr = 0) (hn : e.n ≤ 1000) :
    Calls Try.prog 57 #[.pointer (some ⟨B, 0, none⟩), .int .i64 e.who] w fun r w' => r = .returned (.int .i64 0) ∧ BellsAt w' B b n (l.filter fun x => decide (x.who ≠ e.who)) ∧ GrowBut w w' [b] := by
  have hO := ofB_calls B b n l e w h he hk
  have hB := bound_calls e w (h.sets e he) hn
  rw [h0] at hB
  have hkeep : ∀ w1, GrowBut w w1 [] → BellsAt w1 B b n l := fun w1 hg => h.kept hg (by simp) (by simp) (fun e he => by simp)
  generalize e.who = who at hk hO ⊢
  generalize e.S = S at hO hB
  go_enter Try.func57, Try.ntmps57
  go_wp2_with (first
    | (go_at_call 160; refine hO.mono ?_; rintro r w1 ⟨rfl, hw1⟩; rw [hw1]; clear hw1 w1)
    | (go_at_call 161; refine hB.mono ?_; rintro r w1 ⟨rfl, hg1⟩; have hB1 := hkeep w1 hg1; obtain ⟨D, hown, hat, hhas⟩ := hB1.own; have hptr := hB1.ptr)
    | (at_delete; refine wpList_delete_own _ rfl _ _ 192 3 rfl 198 law3K Try.underlying192 _ b n D rfl hown _ _ rfl (keyJ hk) ?_; intro w2 hown2 hturn2)
    | go_in)
  go_ret
  exact ⟨rfl, hB1.drop hat hhas who hown2 (.of_some hturn2.grown), (hg1.mono (by simp)).trans (.of_some hturn2.grown)⟩

set_option maxRecDepth 100000 in
set_option maxHeartbeats 2000000 in
theorem unmake_bound (B b n : Nat) (l : List BSet) (e : BSet) (w : World) (h : BellsAt w B b n l) (he : e ∈ l) (hk : (Lit.int .i64 e.who).wf = true) (h0 : orAll e.K e.fr ≠ 0) (hn : e.n ≤ 1000) :
    Calls Try.prog 57 #[.pointer (some ⟨B, 0, none⟩), .int .i64 e.who] w fun r w' => r = .returned (.int .i64 (-6)) ∧ GrowBut w w' [] := by
  have hO := ofB_calls B b n l e w h he hk
  have hB := bound_calls e w (h.sets e he) hn
  generalize orAll e.K e.fr = all at hB h0
  have ha : ¬ (all : Int) = 0 := by omega
  generalize e.who = who at hk hO ⊢
  generalize e.S = S at hO hB
  go_enter Try.func57, Try.ntmps57
  go_wp2_with (first
    | (go_at_call 160; refine hO.mono ?_; rintro r w1 ⟨rfl, hw1⟩; rw [hw1]; clear hw1 w1)
    | (go_at_call 161; refine hB.mono ?_; rintro r w1 ⟨rfl, hg1⟩)
    | go_in)
  go_ret
  exact ⟨rfl, hg1⟩

/-- Bells bound to one no more. -/
def unbindB (from_ : Int) (bits : Nat) (e : BSet) : BSet := { e with n := e.n + 1, K := addK e.K from_, fr := fun x => if x = from_ then e.fr from_ &&& (18446744073709551615 - bits) else e.fr x }

set_option maxRecDepth 100000 in
set_option maxHeartbeats 2000000 in
theorem unbind_zero (B b n : Nat) (l : List BSet) (e : BSet) (from_ : Int) (w : World) (h : BellsAt w B b n l) (he : e ∈ l) (hk : (Lit.int .i64 e.who).wf = true) :
    Calls Try.prog 61 #[.pointer (some ⟨B, 0, none⟩), .int .i64 e.who, .int .i64 from_, .int .u64 (0 : Nat)] w fun r w' => r = .returned (.int .i64 (-2)) ∧ w' = w := by
  have hO := ofB_calls B b n l e w h he hk
  generalize e.who = who at hk hO ⊢
  generalize e.S = S at hO
  go_enter Try.func61, Try.ntmps61
  go_wp2_with (first
    | (go_at_call 160; refine hO.mono ?_; rintro r w1 ⟨rfl, hw1⟩; rw [hw1]; clear hw1 w1)
    | go_in)
  go_ret
  exact ⟨rfl, rfl⟩

set_option maxRecDepth 100000 in
set_option maxHeartbeats 2000000 in
theorem unbind_denied (B b n : Nat) (l : List BSet) (e : BSet) (from_ : Int) (bits : Nat) (w : World) (h : BellsAt w B b n l) (he : e ∈ l) (hk : (Lit.int .i64 e.who).wf = true) (hf : (Lit.int .i64 from_).wf = true) (hb : bits < 18446744073709551616) (h0 : bits ≠ 0) (hin : bits &&& (18446744073709551615 - e.fr from_) ≠ 0) :
    Calls Try.prog 61 #[.pointer (some ⟨B, 0, none⟩), .int .i64 e.who, .int .i64 from_, .int .u64 bits] w fun r w' => r = .returned (.int .i64 (-6)) ∧ w' = w := by
  have hO := ofB_calls B b n l e w h he hk
  obtain ⟨c0, c1, c2, f1, f2, hlt, ⟨D, hown, hD⟩, hrl⟩ := h.sets e he
  obtain ⟨c, hrun, hat, hwc⟩ := hown.lookup_int law3K Try.underlying200 Try.underlying23 (zeroU w) (keyJ hf)
  rw [hD.atKey] at hat
  obtain rfl : (e.fr from_ : Int) = c := by simpa using hat
  have hfl := hD.lt from_
  have hB0 : ¬ (bits : Int) = 0 := by omega
  generalize e.who = who at hk hO ⊢
  generalize e.S = S at hO c0 c1
  generalize e.f = f at c0 hrun
  generalize e.fr from_ = ff at hrun hin hfl
  generalize e.rung = rg at c1 hrl 
  have hN := u64_andNot_nat bits ff hb hfl
  generalize bits &&& (18446744073709551615 - ff) = an at hN hin
  have hA0 : ¬ (an : Int) = 0 := by omega
  go_enter Try.func61, Try.ntmps61
  go_wp2_with (first
    | (go_at_call 160; refine hO.mono ?_; rintro r w1 ⟨rfl, hw1⟩; rw [hw1]; clear hw1 w1)
    | go_in)
  go_ret
  exact ⟨rfl, rfl⟩

set_option maxRecDepth 100000 in
set_option maxHeartbeats 2000000 in
theorem unbind_busy (B b n : Nat) (l : List BSet) (e : BSet) (from_ : Int) (bits : Nat) (w : World) (h : BellsAt w B b n l) (he : e ∈ l) (hk : (Lit.int .i64 e.who).wf = true) (hf : (Lit.int .i64 from_).wf = true) (hb : bits < 18446744073709551616) (h0 : bits ≠ 0) (hin : bits &&& (18446744073709551615 - e.fr from_) = 0) (hru : e.rung &&& bits ≠ 0) :
    Calls Try.prog 61 #[.pointer (some ⟨B, 0, none⟩), .int .i64 e.who, .int .i64 from_, .int .u64 bits] w fun r w' => r = .returned (.int .i64 (-4)) ∧ w' = w := by
  have hO := ofB_calls B b n l e w h he hk
  obtain ⟨c0, c1, c2, f1, f2, hlt, ⟨D, hown, hD⟩, hrl⟩ := h.sets e he
  obtain ⟨c, hrun, hat, hwc⟩ := hown.lookup_int law3K Try.underlying200 Try.underlying23 (zeroU w) (keyJ hf)
  rw [hD.atKey] at hat
  obtain rfl : (e.fr from_ : Int) = c := by simpa using hat
  have hfl := hD.lt from_
  have hB0 : ¬ (bits : Int) = 0 := by omega
  generalize e.who = who at hk hO ⊢
  generalize e.S = S at hO c0 c1
  generalize e.f = f at c0 hrun
  generalize e.fr from_ = ff at hrun hin hfl
  generalize e.rung = rg at c1 hrl hru
  have hN := u64_andNot_nat bits ff hb hfl
  rw [hin] at hN
  have hM := u64_and_nat rg bits hrl hb
  generalize rg &&& bits = an at hM hru
  have hA0 : ¬ (an : Int) = 0 := by omega
  go_enter Try.func61, Try.ntmps61
  go_wp2_with (first
    | (go_at_call 160; refine hO.mono ?_; rintro r w1 ⟨rfl, hw1⟩; rw [hw1]; clear hw1 w1)
    | go_in)
  go_ret
  exact ⟨rfl, rfl⟩

set_option maxRecDepth 100000 in
set_option maxHeartbeats 4000000 in
theorem unbind_calls (B b n : Nat) (l : List BSet) (e : BSet) (from_ : Int) (bits : Nat) (w : World) (h : BellsAt w B b n l) (he : e ∈ l) (hk : (Lit.int .i64 e.who).wf = true) (hf : (Lit.int .i64 from_).wf = true) (hb : bits < 18446744073709551616) (h0 : bits ≠ 0)
    (hin : bits &&& (18446744073709551615 - e.fr from_) = 0) (hru : e.rung &&& bits = 0) (hn : e.n ≤ 1000) :
    Calls Try.prog 61 #[.pointer (some ⟨B, 0, none⟩), .int .i64 e.who, .int .i64 from_, .int .u64 bits] w fun r w' => r = .returned (.int .i64 0) ∧ BellsAt w' B b n (updB l e.who (unbindB from_ bits)) ∧ GrowBut w w' [e.f] := by
  have hO := ofB_calls B b n l e w h he hk
  have hS := h.sets e he
  have hu := fun w' => h.upd (w' := w') he (unbindB from_ bits) (fun e => ⟨rfl, rfl, rfl⟩) (t := [e.f])
  obtain ⟨c0, c1, c2, f1, f2, hlt, ⟨D, hown, hD⟩, hrl⟩ := h.sets e he
  obtain ⟨c, hrun, hat, hwc⟩ := hown.lookup_int law3K Try.underlying200 Try.underlying23 (zeroU w) (keyJ hf)
  rw [hD.atKey] at hat
  obtain rfl : (e.fr from_ : Int) = c := by simpa using hat
  have hfl := hD.lt from_
  have hor : e.fr from_ &&& (18446744073709551615 - bits) < 18446744073709551616 := Nat.lt_of_le_of_lt Nat.and_le_left hfl
  have hB0 : ¬ (bits : Int) = 0 := by omega
  have hne : e.S ∉ [e.f] := by simpa using h.sep2 e he e he
  generalize hee : e.who = who at hk hO ⊢
  generalize hes : e.S = S at hO c0 c1
  generalize hef : e.f = f at c0 hrun hown ⊢
  generalize hff : e.fr from_ = ff at hrun hin hfl hor
  generalize e.rung = rg at c1 hrl hru
  have hN := u64_andNot_nat bits ff hb hfl
  rw [hin] at hN
  have hM := u64_and_nat rg bits hrl hb
  rw [hru] at hM
  have hR := u64_andNot_nat ff bits hfl hb
  have hwf : (Lit.int .u64 ((ff &&& (18446744073709551615 - bits) : Nat) : Int)).wf = true := by
    simp only [Lit.wf, Bool.and_eq_true, decide_eq_true_eq]
    have hm : IntKind.u64.min = 0 := by decide
    have hM : IntKind.u64.max = 18446744073709551615 := by decide
    rw [hm, hM]
    omega
  go_enter Try.func61, Try.ntmps61
  go_wp2_with (first
    | (go_at_call 160; refine hO.mono ?_; rintro r w1 ⟨rfl, hw1⟩; rw [hw1]; clear hw1 w1)
    | (at_mapUpdate; refine wpList_mapUpdate_own _ rfl _ _ _ 200 rfl 3 23 law3K Try.underlying200 (plainElem Try.prog 23) f e.n D rfl hown (by unfold maxLen; omega) _ _ (kJ from_) rfl rfl (keyJ hf) (.lit (.int .u64 ((ff &&& (18446744073709551615 - bits) : Nat) : Int))) [] (plainElem_int Try.underlying23 hwf) ?_; intro w2 hown2 hg2)
    | go_in)
  go_ret
  subst hee hes hff hef
  have hG2 := GrowBut.of_some hg2
  exact ⟨rfl, hu _ hG2 (by simp) ⟨hG2.cell hS.from_ hne, hG2.cell hS.rung hne, hG2.cell hS.fresh hne, hG2.frozen hS.lt hS.fz1 hne, hG2.frozen hS.lt hS.fz2 hne, Nat.lt_of_lt_of_le hS.lt hG2.size, ⟨_, hown2, hD.put hown.isMap from_ hor⟩, hS.rlt⟩, hG2⟩

end Go.Proofs.Ytlgfopfibopcnaa
