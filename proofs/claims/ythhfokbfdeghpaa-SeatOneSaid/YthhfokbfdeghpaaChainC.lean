/-
  Package chain: the contracts of its methods.
-/
import Derived.Test.YthhfokbfdeghpaaLinks2
import Derived.Test.YthhfokbfdeghpaaGrow
import Derived.Deep.Cut
import Derived.WideKeyEntry
import Derived.BigRegion
namespace Go.Proofs.Ythhfokbfdeghpaa
open Go Go.RowKit Go.Maps Go.Am
set_option linter.unusedVariables false

abbrev kC (k : Int) : Lit := .int .i64 k

theorem keyC {k : Int} (hk : (Lit.int .i64 k).wf = true) : keyOf Try.prog 3 (.int .i64 k) = some (kC k) := keyOf_int_mk Try.underlying3 hk

theorem kC_ne {x y : Int} (h : x ≠ y) : kC x ≠ kC y := fun e => by cases e; exact h rfl

theorem zeroI (w : World) : (zeroValue 3).run Try.prog w = .ok (.int .i64 0) w := by kernel_rfl

/-! ### Chains, as lists of links -/
/-- From a so many steps to z, where nobody is waited for. -/
inductive Ends (L : List (Int × Int)) : Int → Nat → Int → Prop
  | stop (a : Int) : a ∉ L.map Prod.fst → Ends L a 0 a
  | step (a b : Int) (k : Nat) (z : Int) : (a, b) ∈ L → Ends L b k z → Ends L a (k + 1) z

theorem fst_one {L : List (Int × Int)} (hn : (L.map Prod.fst).Nodup) {a b b' : Int} (h : (a, b) ∈ L) (h' : (a, b') ∈ L) : b = b' := by
  induction L with
  | nil => cases h
  | cons p L ih =>
    rw [List.map_cons] at hn
    have hn' := List.nodup_cons.1 hn
    rcases List.mem_cons.1 h with e | h
    · rcases List.mem_cons.1 h' with e' | h'
      · rw [← e] at e'; cases e'; rfl
      · exact absurd (List.mem_map_of_mem (f := Prod.fst) h') (by rw [← e] at hn'; exact hn'.1)
    · rcases List.mem_cons.1 h' with e' | h'
      · exact absurd (List.mem_map_of_mem (f := Prod.fst) h) (by rw [← e'] at hn'; exact hn'.1)
      · exact ih hn'.2 h h'

theorem Ends.one {L : List (Int × Int)} (hn : (L.map Prod.fst).Nodup) {a : Int} {k : Nat} {z : Int} (h : Ends L a k z) : ∀ {k' : Nat} {z' : Int}, Ends L a k' z' → k = k' ∧ z = z' := by
  induction h with
  | stop a ha =>
    intro k' z' h'
    cases h' with
    | stop _ _ => exact ⟨rfl, rfl⟩
    | step _ b k z hm _ => exact absurd (List.mem_map_of_mem (f := Prod.fst) hm) ha
  | step a b k z hm hr ih =>
    intro k' z' h'
    cases h' with
    | stop _ ha => exact absurd (List.mem_map_of_mem (f := Prod.fst) hm) ha
    | step _ b' k' z' hm' hr' =>
      have := fst_one hn hm hm'
      subst this
      obtain ⟨h1, h2⟩ := ih hr'
      exact ⟨by rw [h1], h2⟩

theorem Ends.lift {L : List (Int × Int)} {f t : Int} (hf : f ∉ L.map Prod.fst) {a : Int} {k : Nat} {z : Int} (h : Ends L a k z) (hz : z ≠ f) : Ends ((f, t) :: L) a k z := by
  induction h with
  | stop a ha => exact .stop a (by simp only [List.map_cons, List.mem_cons, not_or]; exact ⟨hz, ha⟩)
  | step a b k z hm hr ih => exact .step a b k z (List.mem_cons_of_mem _ hm) (ih hz)

theorem Ends.cons {L : List (Int × Int)} {f t : Int} (hf : f ∉ L.map Prod.fst) {kt : Nat} {zt : Int} (ht : Ends L t kt zt) (hzt : zt ≠ f) {a : Int} {k : Nat} {z : Int} (h : Ends L a k z) : ∃ k' z', Ends ((f, t) :: L) a k' z' := by
  induction h with
  | stop a ha =>
    by_cases e : a = f
    · subst e; exact ⟨_, _, .step a t kt zt (by simp) (ht.lift hf hzt)⟩
    · exact ⟨0, a, .stop a (by simp only [List.map_cons, List.mem_cons, not_or]; exact ⟨e, ha⟩)⟩
  | step a b k z hm hr ih =>
    obtain ⟨k', z', h'⟩ := ih
    exact ⟨_, _, .step a b k' z' (List.mem_cons_of_mem _ hm) h'⟩

/-- Without whoever waits for f. -/
def cutTo (L : List (Int × Int)) (f : Int) : List (Int × Int) := L.filter fun p => p.2 ≠ f

theorem Ends.cut {L : List (Int × Int)} (hn : (L.map Prod.fst).Nodup) (f : Int) {a : Int} {k : Nat} {z : Int} (h : Ends L a k z) : ∃ k' z', Ends (cutTo L f) a k' z' := by
  induction h with
  | stop a ha => exact ⟨0, a, .stop a (fun hm => ha (by
      obtain ⟨p, hp, e⟩ := List.mem_map.1 hm
      exact List.mem_map.2 ⟨p, (List.mem_filter.1 hp).1, e⟩))⟩
  | step a b k z hm hr ih =>
    by_cases e : b = f
    · subst e
      refine ⟨0, a, .stop a (fun hm' => ?_)⟩
      obtain ⟨p, hp, e⟩ := List.mem_map.1 hm'
      have h1 := (List.mem_filter.1 hp).1
      have h2 := (List.mem_filter.1 hp).2
      obtain ⟨x, y⟩ := p
      simp only at e
      subst e
      have := fst_one hn hm h1
      subst this
      simp at h2
    · obtain ⟨k', z', h'⟩ := ih
      exact ⟨_, _, .step a b k' z' (List.mem_filter.2 ⟨hm, by simpa using e⟩) h'⟩

theorem nodup_len {α : Type} [DecidableEq α] : ∀ (l l0 : List α), l.Nodup → (∀ x ∈ l, x ∈ l0) → l.length ≤ l0.length
  | [], _, _, _ => Nat.zero_le _
  | x :: r, l0, hn, hs => by
    have hx := hs x (by simp)
    have hn' := List.nodup_cons.1 hn
    have := nodup_len r (l0.erase x) hn'.2 (fun y hy => (List.mem_erase_of_ne (fun e => hn'.1 (by rw [← e]; exact hy))).2 (hs y (by simp [hy])))
    rw [List.length_erase_of_mem hx] at this
    have h0 := List.length_pos_of_mem hx
    simp only [List.length_cons]
    omega

theorem Ends.road {L : List (Int × Int)} (hn : (L.map Prod.fst).Nodup) {a : Int} {k : Nat} {z : Int} (h : Ends L a k z) : ∃ vs : List Int, vs.length = k + 1 ∧ vs.Nodup ∧ (∀ v ∈ vs, v = a ∨ v ∈ L.map Prod.snd) ∧ ∀ v ∈ vs, ∃ j, j ≤ k ∧ Ends L v j z := by
  induction h with
  | stop a ha => exact ⟨[a], rfl, by simp, fun v hv => .inl (by simpa using hv), fun v hv => ⟨0, Nat.le_refl _, by simp at hv; subst hv; exact .stop _ ha⟩⟩
  | step a b k z hm hr ih =>
    obtain ⟨vs, h1, h2, h3, h4⟩ := ih
    have hst : Ends L a (k + 1) z := .step a b k z hm hr
    refine ⟨a :: vs, by simp [h1], List.nodup_cons.2 ⟨fun hv => ?_, h2⟩, fun v hv => ?_, fun v hv => ?_⟩
    · obtain ⟨j, hj, he⟩ := h4 a hv
      have := (hst.one hn he).1
      omega
    · rcases List.mem_cons.1 hv with e | hv
      · exact .inl e
      · rcases h3 v hv with e | e
        · subst e; exact .inr (List.mem_map.2 ⟨_, hm, rfl⟩)
        · exact .inr e
    · rcases List.mem_cons.1 hv with e | hv
      · subst e; exact ⟨k + 1, Nat.le_refl _, hst⟩
      · obtain ⟨j, hj, he⟩ := h4 v hv
        exact ⟨j, by omega, he⟩

theorem Ends.short {L : List (Int × Int)} (hn : (L.map Prod.fst).Nodup) (hs : ∀ p ∈ L, 0 ≤ p.2 ∧ p.2 < 6) {a : Int} (ha : 0 ≤ a ∧ a < 6) {k : Nat} {z : Int} (h : Ends L a k z) : k ≤ 5 := by
  obtain ⟨vs, h1, h2, h3, _⟩ := h.road hn
  have := nodup_len vs [0, 1, 2, 3, 4, 5] h2 (fun v hv => by
    have : 0 ≤ v ∧ v < 6 := by
      rcases h3 v hv with rfl | hm
      · exact ha
      · obtain ⟨p, hp, rfl⟩ := List.mem_map.1 hm
        exact hs p hp
    have : v = 0 ∨ v = 1 ∨ v = 2 ∨ v = 3 ∨ v = 4 ∨ v = 5 := by omega
    simpa using this)
  simp at this
  omega

/-! ### In memory -/
/-- The map says the links. -/
structure Says (D : DataW Unit) (L : List (Int × Int)) : Prop where
  has : ∀ k, Maps.has D (kC k) = decide (k ∈ L.map Prod.fst)
  at_ : ∀ p ∈ L, ∀ z, D.atKey (kC p.1) z = .lit (.int .i64 p.2)

theorem Says.put {D : DataW Unit} {L : List (Int × Int)} (h : Says D L) (hm : IsMap D) {f t : Int} (hf : f ∉ L.map Prod.fst) : Says (D.put (kC f) (.lit (.int .i64 t))) ((f, t) :: L) := by
  refine ⟨fun k => ?_, fun p hp z => ?_⟩
  · by_cases e : k = f
    · subst e; rw [has_put_same hm (by trivial)]; simp
    · rw [has_put_other (kC_ne e), h.has]; simp [e]
  · rcases List.mem_cons.1 hp with rfl | hp
    · exact atKey_put_same hm (by trivial) _ z
    · rw [atKey_put_other (kC_ne fun e => hf (by rw [← e]; exact List.mem_map_of_mem (f := Prod.fst) hp))]
      exact h.at_ p hp z

theorem Says.del {D : DataW Unit} {L L' : List (Int × Int)} (h : Says D L) (f : Int) (hL : ∀ p, p ∈ L' ↔ p ∈ L ∧ p.1 ≠ f) : Says (D.del (kC f)) L' := by
  refine ⟨fun k => ?_, fun p hp z => ?_⟩
  · by_cases e : k = f
    · subst e
      rw [has_del_same]
      symm
      rw [decide_eq_false_iff_not]
      intro hm
      obtain ⟨p, hp, e⟩ := List.mem_map.1 hm
      exact ((hL p).1 hp).2 e
    · rw [has_del_other (kC_ne e), h.has]
      refine decide_eq_decide.2 ?_
      rw [List.mem_map, List.mem_map]
      constructor
      · rintro ⟨p, hp, rfl⟩; exact ⟨p, (hL p).2 ⟨hp, e⟩, rfl⟩
      · rintro ⟨p, hp, rfl⟩; exact ⟨p, ((hL p).1 hp).1, rfl⟩
  · have := (hL p).1 hp
    rw [atKey_del_other (kC_ne this.2)]
    exact h.at_ p this.1 z

def back (L : List (Int × Int)) : List (Int × Int) := L.map fun p => (p.2, p.1)

theorem back_fst (L : List (Int × Int)) : (back L).map Prod.fst = L.map Prod.snd := by simp [back, List.map_map, Function.comp_def]

theorem mem_back {L : List (Int × Int)} {a b : Int} : (a, b) ∈ back L ↔ (b, a) ∈ L := by
  unfold back
  rw [List.mem_map]
  constructor
  · rintro ⟨p, hp, e⟩; cases e; exact hp
  · intro h; exact ⟨_, h, rfl⟩

structure ChainAt (w : World) (C bt bf n : Nat) (L : List (Int × Int)) : Prop where
  pt : w.cell? ⟨C, 0, none⟩ = some (.map (some bt))
  pf : w.cell? ⟨C, 1, none⟩ = some (.map (some bf))
  lt : C < w.heap.size
  ne : C ≠ bt ∧ C ≠ bf ∧ bt ≠ bf
  own_t : ∃ D : DataW Unit, w.ownsMap Try.prog 3 (plainElem Try.prog 3) bt n D ∧ Says D L
  own_f : ∃ D : DataW Unit, w.ownsMap Try.prog 3 (plainElem Try.prog 3) bf n D ∧ Says D (back L)
  nf : (L.map Prod.fst).Nodup
  ns : (L.map Prod.snd).Nodup
  wf : ∀ p ∈ L, (Lit.int .i64 p.1).wf = true ∧ (Lit.int .i64 p.2).wf = true
  ends : ∀ a, ∃ k z, Ends L a k z

theorem ChainAt.kept {w w' : World} {C bt bf n : Nat} {L : List (Int × Int)} {l : List Nat} (h : ChainAt w C bt bf n L) (hg : GrowBut w w' l) (h1 : C ∉ l) (h2 : bt ∉ l) (h3 : bf ∉ l) : ChainAt w' C bt bf n L := by
  obtain ⟨D, hown, hD⟩ := h.own_t
  obtain ⟨E, hown', hE⟩ := h.own_f
  exact ⟨hg.cell h.pt h1, hg.cell h.pf h1, Nat.lt_of_lt_of_le h.lt hg.size, h.ne, ⟨D, hg.map hown h2, hD⟩, ⟨E, hg.map hown' h3, hE⟩, h.nf, h.ns, h.wf, h.ends⟩

set_option maxRecDepth 100000 in
set_option maxHeartbeats 2000000 in
theorem callee_some (C bt bf n : Nat) (L : List (Int × Int)) (a b : Int) (w : World) (h : ChainAt w C bt bf n L) (hm : (a, b) ∈ L) (ha : (Lit.int .i64 a).wf = true) :
    Calls Try.prog 116 #[.pointer (some ⟨C, 0, none⟩), .int .i64 a] w fun r w' => r = .returned (.tuple #[.int .i64 b, .bool true]) ∧ w' = w := by
  have hpt := h.pt
  obtain ⟨D, hown, hD⟩ := h.own_t
  have hh : Maps.has D (kC a) = true := by rw [hD.has]; exact decide_eq_true (List.mem_map_of_mem (f := Prod.fst) hm)
  have hat := hD.at_ _ hm (.lit (.int .i64 0))
  go_enter Try.func116, Try.ntmps116
  go_wp2_with (first
    | (at_lookup; refine wpList_lookup_own_ok_int _ rfl _ _ 183 rfl 3 3 .i64 law3L Try.underlying183 Try.underlying3 (zeroI _) bt n D rfl hown _ _ rfl (keyC ha) ?_; intro c hc hwc; rw [hh]; rw [hat] at hc; obtain rfl : b = c := (by simpa using hc))
    | go_in)
  go_ret2
  exact ⟨rfl, rfl⟩

set_option maxRecDepth 100000 in
set_option maxHeartbeats 2000000 in
theorem callee_none (C bt bf n : Nat) (L : List (Int × Int)) (a : Int) (w : World) (h : ChainAt w C bt bf n L) (hm : a ∉ (L).map Prod.fst) (ha : (Lit.int .i64 a).wf = true) :
    Calls Try.prog 116 #[.pointer (some ⟨C, 0, none⟩), .int .i64 a] w fun r w' => r = .returned (.tuple #[.int .i64 0, .bool false]) ∧ w' = w := by
  have hpt := h.pt
  obtain ⟨D, hown, hD⟩ := h.own_t
  have hh : Maps.has D (kC a) = false := by rw [hD.has]; exact decide_eq_false hm
  have hat := atKey_of_not_has hh (.lit (.int .i64 0))
  go_enter Try.func116, Try.ntmps116
  go_wp2_with (first
    | (at_lookup; refine wpList_lookup_own_ok_int _ rfl _ _ 183 rfl 3 3 .i64 law3L Try.underlying183 Try.underlying3 (zeroI _) bt n D rfl hown _ _ rfl (keyC ha) ?_; intro c hc hwc; rw [hh]; rw [hat] at hc; obtain rfl : 0 = c := (by simpa using hc))
    | go_in)
  go_ret2
  exact ⟨rfl, rfl⟩

set_option maxRecDepth 100000 in
set_option maxHeartbeats 2000000 in
theorem caller_some (C bt bf n : Nat) (L : List (Int × Int)) (a b : Int) (w : World) (h : ChainAt w C bt bf n L) (hm : (a, b) ∈ back L) (ha : (Lit.int .i64 a).wf = true) :
    Calls Try.prog 94 #[.pointer (some ⟨C, 0, none⟩), .int .i64 a] w fun r w' => r = .returned (.tuple #[.int .i64 b, .bool true]) ∧ w' = w := by
  have hpt := h.pf
  obtain ⟨D, hown, hD⟩ := h.own_f
  have hh : Maps.has D (kC a) = true := by rw [hD.has]; exact decide_eq_true (List.mem_map_of_mem (f := Prod.fst) hm)
  have hat := hD.at_ _ hm (.lit (.int .i64 0))
  go_enter Try.func94, Try.ntmps94
  go_wp2_with (first
    | (at_lookup; refine wpList_lookup_own_ok_int _ rfl _ _ 183 rfl 3 3 .i64 law3L Try.underlying183 Try.underlying3 (zeroI _) bf n D rfl hown _ _ rfl (keyC ha) ?_; intro c hc hwc; rw [hh]; rw [hat] at hc; obtain rfl : b = c := (by simpa using hc))
    | go_in)
  go_ret2
  exact ⟨rfl, rfl⟩

set_option maxRecDepth 100000 in
set_option maxHeartbeats 2000000 in
theorem caller_none (C bt bf n : Nat) (L : List (Int × Int)) (a : Int) (w : World) (h : ChainAt w C bt bf n L) (hm : a ∉ (back L).map Prod.fst) (ha : (Lit.int .i64 a).wf = true) :
    Calls Try.prog 94 #[.pointer (some ⟨C, 0, none⟩), .int .i64 a] w fun r w' => r = .returned (.tuple #[.int .i64 0, .bool false]) ∧ w' = w := by
  have hpt := h.pf
  obtain ⟨D, hown, hD⟩ := h.own_f
  have hh : Maps.has D (kC a) = false := by rw [hD.has]; exact decide_eq_false hm
  have hat := atKey_of_not_has hh (.lit (.int .i64 0))
  go_enter Try.func94, Try.ntmps94
  go_wp2_with (first
    | (at_lookup; refine wpList_lookup_own_ok_int _ rfl _ _ 183 rfl 3 3 .i64 law3L Try.underlying183 Try.underlying3 (zeroI _) bf n D rfl hown _ _ rfl (keyC ha) ?_; intro c hc hwc; rw [hh]; rw [hat] at hc; obtain rfl : 0 = c := (by simpa using hc))
    | go_in)
  go_ret2
  exact ⟨rfl, rfl⟩

/-- How many steps. -/
noncomputable def stepsOf (L : List (Int × Int)) (a : Int) : Nat := open Classical in if h : ∃ k z, Ends L a k z then h.choose else 0

theorem stepsOf_eq {L : List (Int × Int)} (hn : (L.map Prod.fst).Nodup) {a : Int} {k : Nat} {z : Int} (h : Ends L a k z) : stepsOf L a = k := by
  have hx : ∃ k z, Ends L a k z := ⟨k, z, h⟩
  unfold stepsOf
  rw [dif_pos hx]
  obtain ⟨z', h'⟩ := hx.choose_spec
  exact (h'.one hn h).1

theorem Ends.wf {L : List (Int × Int)} (hw : ∀ p ∈ L, (Lit.int .i64 p.1).wf = true ∧ (Lit.int .i64 p.2).wf = true) {a : Int} {k : Nat} {z : Int} (h : Ends L a k z) : (Lit.int .i64 a).wf = true → (Lit.int .i64 z).wf = true := by
  induction h with
  | stop a ha => exact id
  | step a b k z hm hr ih => exact fun _ => ih (hw _ hm).2

set_option maxRecDepth 100000 in
set_option maxHeartbeats 4000000 in
theorem last_calls (C bt bf n : Nat) (L : List (Int × Int)) (a : Int) (k : Nat) (z : Int) (w : World) (h : ChainAt w C bt bf n L) (he : Ends L a k z) (ha : (Lit.int .i64 a).wf = true) :
    Calls Try.prog 93 #[.pointer (some ⟨C, 0, none⟩), .int .i64 a] w fun r w' => r = .returned (.int .i64 z) ∧ w' = w := by
  go_enter Try.func93, Try.ntmps93
  go_wp2_with go_in
  go_loopw [1] (fun v wr => ∃ (x : Int) (j : Nat), v = .int .i64 x ∧ Ends L x j z ∧ (Lit.int .i64 x).wf = true ∧ wr = w) (fun v _ => match v with | .int _ x => stepsOf L x | _ => 0)
  case atStart => exact ⟨a, k, rfl, he, ha, rfl⟩
  case round =>
    obtain ⟨x, j, rfl, hex, hx, rfl⟩ := hrel
    have hst := stepsOf_eq h.nf hex
    cases hex with
    | stop _ hnot =>
      have hC := callee_none C bt bf n L z wr h hnot hx
      go_wp2_with (first
        | (go_at_call 116; refine hC.mono ?_; rintro r w1 ⟨rfl, hw1⟩; rw [hw1]; clear hw1 w1)
        | go_in)
      go_ret
      exact ⟨rfl, rfl⟩
    | step _ b j z hm hr =>
      have hC := callee_some C bt bf n L x b wr h hm hx
      go_wp2_with (first
        | (go_at_call 116; refine hC.mono ?_; rintro r w1 ⟨rfl, hw1⟩; rw [hw1]; clear hw1 w1)
        | go_in)
      have hsb := stepsOf_eq h.nf hr
      exact ⟨⟨b, j, rfl, hr, (h.wf _ hm).2, trivial⟩, by simp [hst, hsb]⟩

set_option maxRecDepth 100000 in
set_option maxHeartbeats 2000000 in
theorem newChain_calls (w : World) : Calls Try.prog 90 #[] w fun e w' => ∃ C bt bf, e = .returned (.pointer (some ⟨C, 0, none⟩)) ∧ ChainAt w' C bt bf 0 [] ∧ w.heap.size ≤ C ∧ w.heap.size ≤ bt ∧ w.heap.size ≤ bf ∧ GrowBut w w' [] := by
  go_enter Try.func90, Try.ntmps90
  have hmm := @run_makeMap Try.prog
  go_wp2_with go_in
  clear hmm
  go_ret
  have hG : ∀ o1 o2 o3, GrowBut w (((w.alloc o1).alloc o2).alloc o3) [] := fun o1 o2 o3 => (GrowBut.alloc w _ []).trans ((GrowBut.alloc _ _ []).trans (GrowBut.alloc _ _ []))
  have hsays : Says (.map []) [] := ⟨fun k => by simp [Maps.has_eq], fun p hp => (by cases hp)⟩
  have hs1 : (w.alloc (.map #[] 0)).heap.size = w.heap.size + 1 := by simp
  have hs2 : ((w.alloc (.map #[] 0)).alloc (.map #[] 0)).heap.size = w.heap.size + 1 + 1 := by simp
  have o1 := ((World.ownsMap_made w Try.prog 3 (plainElem (H := Unit) Try.prog 3)).alloc (.map #[] 0)).alloc (.cells #[.map (some w.heap.size), .map (some (w.heap.size + 1))] 185)
  have o2 := (World.ownsMap_made (w.alloc (.map #[] 0)) Try.prog 3 (plainElem (H := Unit) Try.prog 3)).alloc (.cells #[.map (some w.heap.size), .map (some (w.heap.size + 1))] 185)
  rw [hs1] at o2
  exact ⟨w.heap.size + 1 + 1, w.heap.size, w.heap.size + 1, by rfl, ⟨by go_simp, by go_simp, by simp, ⟨by omega, by omega, by omega⟩, ⟨.map [], o1, hsays⟩, ⟨.map [], o2, hsays⟩, List.nodup_nil, List.nodup_nil, fun p hp => (by cases hp), fun a => ⟨0, a, .stop a (by simp)⟩⟩, by omega, Nat.le_refl _, by omega, hG _ _ _⟩

open Go.WideElems Go.ChangeMaps in
/-- An entry that is not there is made, then filled. -/
theorem own_entry {H : Type} {w : World} {b n : Nat} {D : DataW H} {t e : TypeId} {R : Value → Option (DataW H × List MemPlace)} (hown : w.ownsMap Try.prog 3 R b n D) (ht : Try.prog.underlying t = some (.map 3 e)) {z : Value} (hz : ∀ u : World, (zeroValue e).run Try.prog u = .ok z u) (hn : n < maxLen) {key val : Value} {kl : Lit} (hkey : keyOf Try.prog 3 key = some kl)
    (hno : Maps.has D kl = false) {d : DataW H} {ps : List MemPlace} (hv : R val = some (d, ps)) :
    ∃ (st : Nat) (w1 w3 : World), (Instr.mapEntry t (.map (some b)) key).run Try.prog w = .ok (.tuple #[z, goInt st]) w1 ∧ w.grownBy w1 (some b) ∧ w1.heap.size = w.heap.size ∧
      (Instr.entryStore t (.map (some b)) (goInt st) val).run Try.prog w1 = .ok () w3 ∧ w3.ownsMap Try.prog 3 R b (n + 1) (D.put kl d) ∧ w1.grownBy w3 (some b) ∧ w.grownBy w3 (some b) := by
  obtain ⟨w', hrun', hown', hg'⟩ := hown.update law3L ht hn hkey hv
  obtain ⟨es, clock, hb, F, hs, rfl⟩ := hown
  obtain ⟨s1, s2, _⟩ := F.stamped
  have hmiss : ∀ x ∈ es.toList, x.key ≠ key := by
    rcases Maps.fit_look false law3L ht (hz w) hb F hkey with ⟨_, h2, _⟩ | ⟨e0, y, _, _, _, _, hat, _⟩
    · exact h2
    · rw [has_true_of_atKey hat] at hno; cases hno
  obtain h1 : (Instr.findKey 3 key es.toList).run Try.prog w = .ok none w := by
    rcases law3L.find w hkey es.toList F.keys with ⟨h1, _⟩ | ⟨j, e0, _, h2, h3⟩
    · exact h1
    · exact absurd h3 (hmiss e0 (List.mem_of_getElem? h2))
  have hlb : b < w.heap.size := (Array.getElem?_eq_some_iff.1 hb).1
  have hb1 : (setBlock w b (.map (es.push ⟨key, z, clock⟩) (clock + 1))).heap[b]? = some (.map (es.push ⟨key, z, clock⟩) (clock + 1)) := heap_setBlock_same hb _
  have e1 : (Instr.mapEntry t (.map (some b)) key).run Try.prog w = .ok (.tuple #[z, goInt clock]) (setBlock w b (.map (es.push ⟨key, z, clock⟩) (clock + 1))) := by
    simp [Instr.mapEntry, run_underlying ht, MapKept.run_getObj_map hb, law3L.check w false hkey, h1, hz, MapKept.run_setObj_map _ hb, Result.andThen, setBlock]
  have e2 : (Instr.mapUpdate t (.map (some b)) key val).run Try.prog w = .ok () (setBlock w b (.map (es.push ⟨key, val, clock⟩) (clock + 1))) := by
    simp [Instr.mapUpdate, run_underlying ht, MapKept.run_getObj_map hb, law3L.check w false hkey, h1, MapKept.run_setObj_map _ hb, Result.andThen, setBlock]
  have hidx : (es.push ⟨key, z, clock⟩).findIdx? (fun e => ((e.born : Nat) : Int) == ((clock : Nat) : Int)) = some es.size := by
    rw [findIdx_arr]
    exact findIdx_born (l := (es.push ⟨key, z, clock⟩).toList) (j := es.size) (e0 := ⟨key, z, clock⟩) (by
      simp only [Array.toList_push, List.map_append, List.map_cons, List.map_nil]
      refine List.nodup_append.2 ⟨s2, by simp, fun a ha c hc e1 => ?_⟩
      simp only [List.mem_singleton] at hc
      obtain ⟨x, hx, rfl⟩ := List.mem_map.1 ha
      have := s1 x hx
      omega) (by simp)
  have hmod : (es.push ⟨key, z, clock⟩).modify es.size (fun e => { e with val := val }) = es.push ⟨key, val, clock⟩ := by
    apply Array.ext'
    rw [Array.toList_modify, Array.toList_push, Array.toList_push, ← Array.length_toList, modify_last]
  have e3' : ∀ u : World, u.heap[b]? = some (.map (es.push ⟨key, z, clock⟩) (clock + 1)) → (Instr.entryStore t (.map (some b)) (goInt clock) val).run Try.prog u = .ok () (setBlock u b (.map (es.push ⟨key, val, clock⟩) (clock + 1))) := fun u hu => by
    simp [Instr.entryStore, MapKept.run_getObj_map hu, asInt, asIntOf, goInt, hidx, hmod, MapKept.run_setObj_map _ hu, Result.andThen, setBlock]
  have e3 := e3' _ hb1
  have hw' : w' = setBlock w b (.map (es.push ⟨key, val, clock⟩) (clock + 1)) := by
    rw [e2] at hrun'
    cases hrun'
    rfl
  have hb3 : (setBlock (setBlock w b (.map (es.push ⟨key, z, clock⟩) (clock + 1))) b (.map (es.push ⟨key, val, clock⟩) (clock + 1))).heap[b]? = some (.map (es.push ⟨key, val, clock⟩) (clock + 1)) := heap_setBlock_same hb1 _
  have g1 : w.grownBy (setBlock w b (.map (es.push ⟨key, z, clock⟩) (clock + 1))) (some b) := ⟨rfl, rfl, rfl, by simp [setBlock], fun i _ hi => heap_setBlock_other hb _ (fun e => hi (by rw [e]))⟩
  have g3 : (setBlock w b (.map (es.push ⟨key, z, clock⟩) (clock + 1))).grownBy (setBlock (setBlock w b (.map (es.push ⟨key, z, clock⟩) (clock + 1))) b (.map (es.push ⟨key, val, clock⟩) (clock + 1))) (some b) := ⟨rfl, rfl, rfl, by simp [setBlock], fun i _ hi => heap_setBlock_other hb1 _ (fun e => hi (by rw [e]))⟩
  refine ⟨clock, _, _, e1, g1, by simp [setBlock], e3, ?_, g3, ⟨rfl, rfl, rfl, by simp [setBlock], fun i hi hne => by rw [g3.block i (by simpa [setBlock] using hi) hne, g1.block i hi hne]⟩⟩
  rw [hw'] at hown'
  obtain ⟨es', clock', hbb, r⟩ := hown'
  rw [heap_setBlock_same hb] at hbb
  cases hbb
  exact ⟨_, _, hb3, r⟩

theorem Ends.of_call {L : List (Int × Int)} (h : ∀ a, ∃ k z, Ends L a k z) {f t : Int} (hf : f ∉ L.map Prod.fst) (hz : ∀ k z, Ends L t k z → z ≠ f) : ∀ a, ∃ k z, Ends ((f, t) :: L) a k z := fun a => by
  obtain ⟨kt, zt, ht⟩ := h t
  obtain ⟨k, z, ha⟩ := h a
  exact Ends.cons hf ht (hz _ _ ht) ha

set_option maxRecDepth 100000 in
set_option maxHeartbeats 4000000 in
theorem call_ok (C bt bf n : Nat) (L : List (Int × Int)) (f t : Int) (w : World) (h : ChainAt w C bt bf n L) (hf : (Lit.int .i64 f).wf = true) (ht : (Lit.int .i64 t).wf = true) (hne : f ≠ t) (hnf : f ∉ L.map Prod.fst) (hnt : t ∉ L.map Prod.snd) {kt : Nat} {zt : Int} (he : Ends L t kt zt) (hzt : zt ≠ f) (hn : n ≤ 100000) :
    Calls Try.prog 97 #[.pointer (some ⟨C, 0, none⟩), .int .i64 f, .int .i64 t] w fun r w' => r = .returned (.bool true) ∧ ChainAt w' C bt bf (n + 1) ((f, t) :: L) ∧ GrowBut w w' [bt, bf] := by
  have hpt := h.pt
  have hpf := h.pf
  obtain ⟨D, hown, hD⟩ := h.own_t
  obtain ⟨E, hown', hE⟩ := h.own_f
  have hh : Maps.has D (kC f) = false := by rw [hD.has]; exact decide_eq_false hnf
  have hh' : Maps.has E (kC t) = false := by rw [hE.has, back_fst]; exact decide_eq_false hnt
  have hL := last_calls C bt bf n L t kt zt w h he ht
  have hne' : ¬ f = t := hne
  have hzt' : ¬ zt = f := hzt
  go_enter Try.func97, Try.ntmps97
  go_upto_region 7 with (first
    | (at_lookup; refine wpList_lookup_own_ok_int _ rfl _ _ 183 rfl 3 3 .i64 law3L Try.underlying183 Try.underlying3 (zeroI _) bt n D rfl hown _ _ rfl (keyC hf) ?_; intro c hc hwc; rw [hh]; clear hc)
    | (at_lookup; refine wpList_lookup_own_ok_int _ rfl _ _ 183 rfl 3 3 .i64 law3L Try.underlying183 Try.underlying3 (zeroI _) bf n E rfl hown' _ _ rfl (keyC ht) ?_; intro c' hc' hwc'; rw [hh']; clear hc')
    | (go_at_call 93; refine hL.mono ?_; rintro r w1 ⟨rfl, hw1⟩; rw [hw1]; clear hw1 w1)
    | go_in)
  have hptd : w.drew.cell? ⟨C, 0, none⟩ = some (.map (some bt)) := hpt
  have hpfd : w.drew.cell? ⟨C, 1, none⟩ = some (.map (some bf)) := hpf
  have hne3 := h.ne
  obtain ⟨st1, u1, u3, r1, g1, z1, r2, own3, g3, g13⟩ := own_entry hown.drew Try.underlying183 zeroI (by unfold maxLen; omega) (keyC hf) hh (plainElem_int Try.underlying3 ht)
  have hownf3 : u3.ownsMap Try.prog 3 (plainElem Try.prog 3) bf n E := (GrowBut.of_some g13).map hown'.drew (by simpa using fun e => hne3.2.2 e.symm)
  obtain ⟨st2, u4, u5, r3, g4, z4, r4, own5, g5, g35⟩ := own_entry hownf3 Try.underlying183 zeroI (by unfold maxLen; omega) (keyC ht) hh' (plainElem_int Try.underlying3 hf)
  simp only [goInt] at r1 r2 r3 r4
  go_region
  go_wp2_with go_in
  go_ret
  have hG : GrowBut w u5 [bt, bf] := (GrowBut.drew w _).trans (((GrowBut.of_some g13).mono (by simp)).trans ((GrowBut.of_some g35).mono (by simp)))
  have ownt5 := (GrowBut.of_some g35).map own3 (by simpa using hne3.2.2)
  refine ⟨rfl, ⟨hG.cell hpt (by simp; omega), hG.cell hpf (by simp; omega), Nat.lt_of_lt_of_le h.lt hG.size, hne3, ⟨_, ownt5, hD.put hown.isMap hnf⟩, ⟨_, own5, hE.put hown'.isMap (by rw [back_fst]; exact hnt)⟩, ?_, ?_, fun p hp => ?_, ?_⟩, hG⟩
  · rw [List.map_cons]; exact List.nodup_cons.2 ⟨hnf, h.nf⟩
  · rw [List.map_cons]; exact List.nodup_cons.2 ⟨hnt, h.ns⟩
  · rcases List.mem_cons.1 hp with rfl | hp
    · exact ⟨hf, ht⟩
    · exact h.wf p hp
  · exact Ends.of_call h.ends hnf (fun k z hz e => hzt ((he.one h.nf hz).2.trans e))

set_option maxRecDepth 100000 in
set_option maxHeartbeats 4000000 in
theorem call_no (C bt bf n : Nat) (L : List (Int × Int)) (f t : Int) (w : World) (h : ChainAt w C bt bf n L) (hf : (Lit.int .i64 f).wf = true) (ht : (Lit.int .i64 t).wf = true) {kt : Nat} {zt : Int} (he : Ends L t kt zt) (hno : f = t ∨ f ∈ L.map Prod.fst ∨ t ∈ L.map Prod.snd ∨ zt = f) :
    Calls Try.prog 97 #[.pointer (some ⟨C, 0, none⟩), .int .i64 f, .int .i64 t] w fun r w' => r = .returned (.bool false) ∧ w' = w := by
  have hpt := h.pt
  have hpf := h.pf
  obtain ⟨D, hown, hD⟩ := h.own_t
  obtain ⟨E, hown', hE⟩ := h.own_f
  have hh := hD.has f
  have hh' := hE.has t
  rw [back_fst] at hh'
  have hL := last_calls C bt bf n L t kt zt w h he ht
  by_cases hne : f = t
  · subst hne
    go_enter Try.func97, Try.ntmps97
    go_wp2_with go_in
    go_ret
    exact ⟨rfl, rfl⟩
  have hne' : ¬ f = t := hne
  have hL2 : ∀ c c' : Int, True := fun _ _ => trivial
  by_cases h1 : f ∈ L.map Prod.fst
  · rw [decide_eq_true h1] at hh
    generalize decide (t ∈ L.map Prod.snd) = b2 at hh'
    go_enter Try.func97, Try.ntmps97
    go_wp2_with (first
      | (at_lookup; refine wpList_lookup_own_ok_int _ rfl _ _ 183 rfl 3 3 .i64 law3L Try.underlying183 Try.underlying3 (zeroI _) bt n D rfl hown _ _ rfl (keyC hf) ?_; intro c hc hwc; rw [hh]; clear hc)
      | (at_lookup; refine wpList_lookup_own_ok_int _ rfl _ _ 183 rfl 3 3 .i64 law3L Try.underlying183 Try.underlying3 (zeroI _) bf n E rfl hown' _ _ rfl (keyC ht) ?_; intro c' hc' hwc'; rw [hh']; clear hc')
      | go_in)
    go_ret
    exact ⟨rfl, rfl⟩
  rw [decide_eq_false h1] at hh
  by_cases h2 : t ∈ L.map Prod.snd
  · rw [decide_eq_true h2] at hh'
    go_enter Try.func97, Try.ntmps97
    go_wp2_with (first
      | (at_lookup; refine wpList_lookup_own_ok_int _ rfl _ _ 183 rfl 3 3 .i64 law3L Try.underlying183 Try.underlying3 (zeroI _) bt n D rfl hown _ _ rfl (keyC hf) ?_; intro c hc hwc; rw [hh]; clear hc)
      | (at_lookup; refine wpList_lookup_own_ok_int _ rfl _ _ 183 rfl 3 3 .i64 law3L Try.underlying183 Try.underlying3 (zeroI _) bf n E rfl hown' _ _ rfl (keyC ht) ?_; intro c' hc' hwc'; rw [hh']; clear hc')
      | go_in)
    go_ret
    exact ⟨rfl, rfl⟩
  rw [decide_eq_false h2] at hh'
  obtain rfl : zt = f := by
    rcases hno with h3 | h3 | h3 | h3
    · exact absurd h3 hne
    · exact absurd h3 h1
    · exact absurd h3 h2
    · exact h3
  go_enter Try.func97, Try.ntmps97
  go_wp2_with (first
    | (at_lookup; refine wpList_lookup_own_ok_int _ rfl _ _ 183 rfl 3 3 .i64 law3L Try.underlying183 Try.underlying3 (zeroI _) bt n D rfl hown _ _ rfl (keyC hf) ?_; intro c hc hwc; rw [hh]; clear hc)
    | (at_lookup; refine wpList_lookup_own_ok_int _ rfl _ _ 183 rfl 3 3 .i64 law3L Try.underlying183 Try.underlying3 (zeroI _) bf n E rfl hown' _ _ rfl (keyC ht) ?_; intro c' hc' hwc'; rw [hh']; clear hc')
    | (go_at_call 93; refine hL.mono ?_; rintro r w1 ⟨rfl, hw1⟩; rw [hw1]; clear hw1 w1)
    | go_in)
  go_ret
  exact ⟨rfl, rfl⟩

set_option maxRecDepth 100000 in
set_option maxHeartbeats 4000000 in
theorem answer_none (C bt bf n : Nat) (L : List (Int × Int)) (f : Int) (w : World) (h : ChainAt w C bt bf n L) (hf : (Lit.int .i64 f).wf = true) (hno : f ∉ L.map Prod.snd) :
    Calls Try.prog 100 #[.pointer (some ⟨C, 0, none⟩), .int .i64 f] w fun r w' => r = .returned (.tuple #[.int .i64 0, .bool false]) ∧ w' = w := by
  have hC := caller_none C bt bf n L f w h (by rw [back_fst]; exact hno) hf
  go_enter Try.func100, Try.ntmps100
  go_wp2_with (first
    | (go_at_call 94; refine hC.mono ?_; rintro r w1 ⟨rfl, hw1⟩; rw [hw1]; clear hw1 w1)
    | go_in)
  go_ret2
  exact ⟨rfl, rfl⟩

theorem mem_cutTo {L : List (Int × Int)} {f : Int} {p : Int × Int} : p ∈ cutTo L f ↔ p ∈ L ∧ p.2 ≠ f := by
  unfold cutTo; rw [List.mem_filter]; simp

set_option maxRecDepth 100000 in
set_option maxHeartbeats 4000000 in
theorem answer_some (C bt bf n : Nat) (L : List (Int × Int)) (a f : Int) (w : World) (h : ChainAt w C bt bf n L) (hm : (a, f) ∈ L) :
    Calls Try.prog 100 #[.pointer (some ⟨C, 0, none⟩), .int .i64 f] w fun r w' => r = .returned (.tuple #[.int .i64 a, .bool true]) ∧ ChainAt w' C bt bf n (cutTo L f) ∧ GrowBut w w' [bt, bf] := by
  have hw := h.wf _ hm
  have hC := caller_some C bt bf n L f a w h (mem_back.2 hm) hw.2
  have hpt := h.pt
  have hpf := h.pf
  have hne3 := h.ne
  obtain ⟨D, hown, hD⟩ := h.own_t
  obtain ⟨E, hown', hE⟩ := h.own_f
  have hk : ∀ w2, w.mapTurned w2 bt → w2.cell? ⟨C, 1, none⟩ = some (.map (some bf)) ∧ w2.ownsMap Try.prog 3 (plainElem Try.prog 3) bf n E := fun w2 ht => ⟨(GrowBut.of_some ht.grown).cell hpf (by simpa using hne3.1), (GrowBut.of_some ht.grown).map hown' (by simpa using fun e => hne3.2.2 e.symm)⟩
  go_enter Try.func100, Try.ntmps100
  go_wp2_with (first
    | (go_at_call 94; refine hC.mono ?_; rintro r w1 ⟨rfl, hw1⟩; rw [hw1]; clear hw1 w1)
    | (at_delete; refine wpList_delete_own _ rfl _ _ 183 3 rfl 3 law3L Try.underlying183 _ bt n D rfl hown _ _ rfl (keyC hw.1) ?_; intro w2 hown2 hturn2; obtain ⟨hpf2, hown2'⟩ := hk w2 hturn2; clear hk)
    | (at_delete; refine wpList_delete_own _ rfl _ _ 183 3 rfl 3 law3L Try.underlying183 _ bf n E rfl hown2' _ _ rfl (keyC hw.2) ?_; intro w3 hown3 hturn3)
    | go_in)
  go_ret2
  have hG : GrowBut w w3 [bt, bf] := ((GrowBut.of_some hturn2.grown).mono (by simp)).trans ((GrowBut.of_some hturn3.grown).mono (by simp))
  have ownt := (GrowBut.of_some hturn3.grown).map hown2 (by simpa using hne3.2.2)
  have honly : ∀ p ∈ L, p.2 = f ↔ p.1 = a := fun p hp => by
    constructor
    · intro e
      have h1 : (f, p.1) ∈ back L := mem_back.2 (by rw [← e]; exact hp)
      have h2 : (f, a) ∈ back L := mem_back.2 hm
      exact fst_one (by rw [back_fst]; exact h.ns) h1 h2
    · intro e
      have h1 : (a, p.2) ∈ L := by rw [← e]; exact hp
      exact fst_one h.nf h1 hm
  refine ⟨rfl, ⟨hG.cell hpt (by simp; omega), hG.cell hpf (by simp; omega), Nat.lt_of_lt_of_le h.lt hG.size, hne3, ⟨_, ownt, hD.del a (fun p => ?_)⟩, ⟨_, hown3, hE.del f (fun p => ?_)⟩, ?_, ?_, fun p hp => h.wf p (mem_cutTo.1 hp).1, fun b => ?_⟩, hG⟩
  · rw [mem_cutTo]
    constructor
    · rintro ⟨h1, h2⟩; exact ⟨h1, fun e => h2 ((honly p h1).2 e)⟩
    · rintro ⟨h1, h2⟩; exact ⟨h1, fun e => h2 ((honly p h1).1 e)⟩
  · obtain ⟨x, y⟩ := p
    rw [mem_back, mem_back, mem_cutTo]
  · exact List.Nodup.sublist (List.Sublist.map _ List.filter_sublist) h.nf
  · exact List.Nodup.sublist (List.Sublist.map _ List.filter_sublist) h.ns
  · obtain ⟨k, z, hb⟩ := h.ends b
    exact hb.cut h.nf f

end Go.Proofs.Ythhfokbfdeghpaa
