/-
  The reference's bank: Who.
-/
import Derived.Test.YtlgfopfibopcnaaBankC
import Derived.Test.YtlgfopfibopcnaaGrow
import Derived.Lib.SlKeysI
import Derived.Deep.Cut
import Derived.Test.YtlgfopfibopcnaaAppX
import Derived.BigQuiet
import Derived.BigRegion
namespace Go.Proofs.Ytlgfopfibopcnaa
open Go Go.RowKit Go.Maps Go.Am Go.Lib
set_option linter.unusedVariables false
set_option linter.unnecessarySimpa false

theorem infoW : (Try.prog.info? 3).map (fun i => (i.zero, i.size, i.bytes)) = some (some (.int .i64 0), 1, 8) := by kernel_rfl

/-- Rising. -/
def Rises (L : List Int) : Prop := L.Pairwise (· < ·)

theorem getD_memW {l : List Int} {k : Nat} (h : k < l.length) : l.getD k 0 ∈ l := by
  rw [List.getD_eq_getElem?_getD, List.getElem?_eq_getElem h]; simp

theorem getD_eqW {l : List Int} {k : Nat} (h : k < l.length) : l.getD k 0 = l[k] := by
  rw [List.getD_eq_getElem?_getD, List.getElem?_eq_getElem h]; rfl

theorem rises_insert {L : List Int} (h : Rises L) {i : Nat} {x : Int} (hi : i ≤ L.length) (hb : ∀ j, j < i → L.getD j 0 < x) (ha : ∀ j, i ≤ j → j < L.length → x < L.getD j 0) : Rises (L.take i ++ x :: L.drop i) := by
  have h1 : ∀ a ∈ L.take i, a < x := fun a hm => by
    obtain ⟨j, hj, rfl⟩ := List.getElem_of_mem hm
    have hj' : j < i := by simp at hj; omega
    rw [List.getElem_take]
    have := hb j hj'
    rwa [getD_eqW (by omega)] at this
  have h2 : ∀ b ∈ L.drop i, x < b := fun b hm => by
    obtain ⟨j, hj, rfl⟩ := List.getElem_of_mem hm
    have hj' : i + j < L.length := by simp at hj; omega
    rw [List.getElem_drop]
    have := ha (i + j) (by omega) hj'
    rwa [getD_eqW hj'] at this
  refine List.pairwise_append.2 ⟨List.Pairwise.sublist (List.take_sublist _ _) h, List.pairwise_cons.2 ⟨h2, List.Pairwise.sublist (List.drop_sublist _ _) h⟩, fun a hA b hB => ?_⟩
  rcases List.mem_cons.1 hB with rfl | hB
  · exact h1 a hA
  · exact Int.lt_trans (h1 a hA) (h2 b hB)

theorem perm_insert (L : List Int) (i : Nat) (x : Int) : (L.take i ++ x :: L.drop i).Perm (L ++ [x]) := by
  have h1 : (L.take i ++ x :: L.drop i).Perm (x :: (L.take i ++ L.drop i)) := List.perm_middle
  rw [List.take_append_drop] at h1
  exact h1.trans (List.perm_append_singleton x L).symm

theorem CollectedI.permW {H : Type} {D0 : DataW H} {left : Lit → Bool} {ss ss' : List Int} (h : CollectedI D0 left ss) (hp : ss'.Perm ss) : CollectedI D0 left ss' :=
  ⟨hp.nodup_iff.2 h.1, fun x => by rw [hp.mem_iff]; exact h.2 x⟩

theorem ownsRow_base {w : World} {base base' n : Nat} {e : TypeId} {v : Value} {xs : List Value} (h : w.ownsRow base e 1 v n xs) (hb : base' ≤ base) : w.ownsRow base' e 1 v n xs := by
  refine ⟨h.1, ?_⟩
  rcases h.2 with h1 | ⟨g, cap, cur, e1, e2, e3⟩
  · exact .inl h1
  · exact .inr ⟨g, cap, cur, e1, by omega, e3⟩

set_option maxRecDepth 100000 in
set_option maxHeartbeats 4000000 in
theorem refWho_calls (R m n : Nat) (E : DataW Value) (w : World) (hR : w.cell? ⟨R, 0, none⟩ = some (.map (some m))) (hown : w.ownsMap Try.prog 3 regsR m n E) (hn : n ≤ 1000) :
    Calls Try.prog 38 #[.pointer (some ⟨R, 0, none⟩)] w fun r w' => ∃ (v : Value) (L : List Int), r = .returned v ∧ L.Perm (intKeys E) ∧ Rises L ∧ w'.ownsRow w.heap.size 3 1 v L.length (L.map (Value.int .i64)) ∧ GrowBut w w' [] := by
  obtain ⟨i0, hi, hz0, hz1, hz2⟩ := info_parts infoW
  have hml := hown.lt
  have hDn := hown.size_le
  go_enter Try.func38, Try.ntmps38
  go_wp2_with (first
    | (at_range; refine wpList_range_own _ rfl _ 44 rfl 3 48 law3B Try.underlying44 _ m n _ rfl hown ?_; intro w0 hrg0 hg0 hs0)
    | go_in)
  go_frame
  go_loopw [3] (fun v wr => ∃ (left : Lit → Bool) (cnt : Nat) (L : List Int), wr.ranges Try.prog 3 regsR m w.heap.size n E left cnt ∧ L.length + cnt ≤ Maps.size E ∧
      wr.ownsRow w.heap.size 3 1 v L.length (L.map (Value.int .i64)) ∧ (L = [] → v = .slice none 0 0) ∧ Rises L ∧ CollectedI E left L ∧ GrowBut w wr [])
    (fun _ wr => wr.rangeLeft m w.heap.size)
  case atStart => exact ⟨_, _, [], hrg0, by simp, World.ownsRow_nil _ _ _ _, fun _ => rfl, List.Pairwise.nil, CollectedI.start E, .of_none hg0⟩
  case round =>
    obtain ⟨left, cnt, L, hrg, hcs, hrow, hnil, hris, hC, hG⟩ := hrel
    go_wp2_with (first
      | (at_next; refine wpList_next_ranges _ rfl _ rfl 3 law3B regsR (Value.int .i64) (fun v : Value => v) (fun key kl hk => by obtain ⟨x, hx, _⟩ := Maps.keyOf_int_inv Try.underlying3 hk; exact ⟨x, hx⟩) (fun v y hv => ⟨v, rfl⟩) m w.heap.size n _ _ _ rfl hrg ?_ ?_)
      | go_in)
    · intro hc0 hl0
      go_wp2_with go_in
      go_ret
      exact ⟨_, L, rfl, hC.perm hown law3B Try.underlying3 hl0, hris, hrow, hG⟩
    · intro x c kl yd yp w2 cnt2 hkey hlk hv hat hrg2 hlt hg2 hs2 hen
      obtain ⟨x', ex, rfl, hwx⟩ := Maps.keyOf_int_inv Try.underlying3 hkey
      cases ex
      have hrow2 := hrow.kept hg2 (Or.inr (row_ne_iter hrow hrg).symm)
      have hG2 := hG.from (.of_some hg2) (l := []) (fun x hx => .inr (by simp at hx; omega))
      have hnew : x ∉ L := fun hx => by have := ((hC.2 x).1 hx).2; rw [hlk] at this; cases this
      clear hs2
      by_cases hL0 : L = []
      · subst hL0
        obtain rfl := hnil rfl
        go_wp2_with go_in
        go_loopw [5] (fun v5 wy => v5 = .int .i64 0 ∧ wy = w2) (fun _ _ => 0)
        case atStart => exact ⟨rfl, rfl⟩
        case round =>
          obtain ⟨rfl, rfl⟩ := hrel
          have hA : ((wr.alloc (.cells #[] 3)).alloc (.cells #[.int .i64 x] 3)).drew.heap[wr.heap.size]? = some (.cells #[] 3 (0, 0)) := by
            have := heap_alloc_old (wr.alloc (.cells #[] 3)) (.cells #[.int .i64 x] 3) (k := wr.heap.size) (by simp)
            exact this.trans (heap_alloc_new _ _)
          have hB : ((wr.alloc (.cells #[.int .i64 x] 3)).alloc (.cells #[] 3)).drew.heap[wr.heap.size + 1]? = some (.cells #[] 3 (0, 0)) := by
            have := heap_alloc_new (wr.alloc (.cells #[.int .i64 x] 3)) (.cells #[] 3)
            rwa [show (wr.alloc (.cells #[.int .i64 x] 3)).heap.size = wr.heap.size + 1 by simp] at this
          have GB : GrowBut wr ((wr.alloc (.cells #[.int .i64 x] 3)).alloc (.cells #[] 3)).drew [] := ((GrowBut.alloc _ _ _).trans (.alloc _ _ _)).trans (.drew _ _)
          have GC : GrowBut wr ((wr.alloc (.cells #[] 3)).alloc (.cells #[.int .i64 x] 3)).drew [] := ((GrowBut.alloc _ _ _).trans (.alloc _ _ _)).trans (.drew _ _)
          have cB : ((wr.alloc (.cells #[.int .i64 x] 3)).alloc (.cells #[] 3)).drew.cell? ⟨wr.heap.size, 0, none⟩ = some (.int .i64 x) := by go_simp
          have cC : ((wr.alloc (.cells #[] 3)).alloc (.cells #[.int .i64 x] 3)).drew.cell? ⟨wr.heap.size + 1, 0, none⟩ = some (.int .i64 x) := by go_simp
          have sB := GB.size
          have sC := GC.size
          have hbs := hG2.size
          have hC' := hC.step hlk hat
          go_upto_region 8 with go_in
          go_region_law (first
            | (refine step_append_none rfl _ _ 55 rfl 3 i0 Try.underlying55 hi _ _ _ rfl rfl (by first | exact Nat.le_refl _ | omega) ?_)
            | (refine step_append_own rfl _ _ 55 rfl wr.heap.size 3 i0 (.int .i64 0) 1 8 Try.underlying55 hi hz0 hz1 hz2 rfl (by decide) (.slice (some ⟨wr.heap.size, 0, none⟩) 0 0) 0 [] rfl (ownsRow_empty (by omega) hA) _ 1 1 [.int .i64 x] rfl rfl (fun j u hj => by rcases j with _ | j <;> simp at hj; subst hj; simpa [Addr.add] using cC) (by simp [Value.oneCell']) (by decide) (by decide) sC ?_; intro v36 w36 own36 g36 nil36 at36; have G36 : GrowBut wr w36 [] := GrowBut.from GC (.of_rowX g36) (fun x hx => .inr (by simp [Value.ownBlock] at hx; omega)); obtain ⟨g5, cap5, rfl, hg5, hl5⟩ := own36.form (by omega); have hcap5 := own36.roomX)
            | (refine step_append_own rfl _ _ 55 rfl wr.heap.size 3 i0 (.int .i64 0) 1 8 Try.underlying55 hi hz0 hz1 hz2 rfl (by decide) (.slice (some ⟨wr.heap.size + 1, 0, none⟩) 0 0) 0 [] rfl (ownsRow_empty (by omega) hB) _ 1 1 [.int .i64 x] rfl rfl (fun j u hj => by rcases j with _ | j <;> simp at hj; subst hj; simpa [Addr.add] using cB) (by simp [Value.oneCell']) (by decide) (by decide) sB ?_; intro v36 w36 own36 g36 nil36 at36; have G36 : GrowBut wr w36 [] := GrowBut.from GB (.of_rowX g36) (fun x hx => .inr (by simp [Value.ownBlock] at hx; omega)); obtain ⟨g5, cap5, rfl, hg5, hl5⟩ := own36.form (by omega); have hcap5 := own36.roomX)
            | fail)
          all_goals
            have hrow36 : w36.ownsRow w.heap.size 3 1 (.slice (some ⟨g5, 0, none⟩) 1 cap5) [x].length ([x].map (Value.int .i64)) := ownsRow_base (base := wr.heap.size) (by simpa using own36) (by omega)
            have hrg36 := hrg2.kept G36.keepAll (by simp) (by simp)
            simp only [List.getElem_toArray, List.getElem_cons_succ, List.getElem_cons_zero, Act.put, List.setIfInBounds_toArray, List.set_cons_succ, List.set_cons_zero]
            go_wp2_with go_in
            exact ⟨⟨_, cnt2, [x], hrg36, by simp at hcs ⊢; omega, hrow36, fun h => by simp at h, List.pairwise_singleton _ _, by simpa using hC', hG2.trans G36⟩, by rw [hrg36.left_eq, hrg.left_eq]; exact hlt⟩
      · have hLpos : 0 < L.length := by cases L with | nil => exact absurd rfl hL0 | cons a r => simp
        rcases hrow2.2 with ⟨rfl, hz⟩ | ⟨g, cap, cur, rfl, hbase, hb, q1, q2, q3, q4⟩
        · omega
        have hgl : g < w2.heap.size := (Array.getElem?_eq_some_iff.1 hb).1
        have hcells : ∀ j, j < L.length → w2.cell? ⟨g, j, none⟩ = some (.int .i64 (L.getD j 0)) := fun j hj => by
          have h5 : (cur.toList.take (L.length * 1))[j]? = (L.map (Value.int .i64))[j]? := by rw [q4]
          rw [List.getElem?_take_of_lt (by omega), List.getElem?_map] at h5
          have h6 : L[j]? = some (L.getD j 0) := by rw [List.getD_eq_getElem?_getD, List.getElem?_eq_getElem (by omega)]; rfl
          rw [h6] at h5
          simp only [World.cell?, hb]
          simpa using h5
        have hlen0 : ¬ ((L.length : Nat) : Int) = 0 := by omega
        have hcap : (L.length : Int) ≤ (cap : Int) := by omega
        have hlenS : L.length ≤ 1000 := by omega
        have hlenI : (L.length : Int) ≤ 1000 := by omega
        have hcapI : (cap : Int) ≤ 9223372036854775807 := by unfold maxLen at q2; omega
        go_wp2_with go_in
        go_loopw [5] (fun v5 wy => ∃ i : Nat, v5 = .int .i64 i ∧ i ≤ L.length ∧ (∀ j, j < i → L.getD j 0 < x) ∧ wy = w2) (fun v5 _ => L.length - (match v5 with | .int _ k => k.toNat | _ => 0))
        case atStart => exact ⟨0, rfl, by omega, fun j hj => by omega, rfl⟩
        case round =>
          obtain ⟨i, rfl, hiL, hbelow, rfl⟩ := hrel
          by_cases hgo : i < L.length ∧ L.getD i 0 < x
          · obtain ⟨h1, h2⟩ := hgo
            have h1' : (i : Int) < (L.length : Int) := by omega
            have hci := hcells i h1
            have hbel : ∀ j, j < i + 1 → L.getD j 0 < x := fun j hj => by
              by_cases e : j = i
              · subst e; exact h2
              · exact hbelow j (by omega)
            generalize L.getD i 0 = y at hci h2
            clear hcells hbelow
            go_wp2_with go_in
            exact ⟨⟨i + 1, by simp, by omega, hbel, by simp⟩, by simp; omega⟩
          · have hex : ¬ (i : Int) < (L.length : Int) ∨ ((i : Int) < (L.length : Int) ∧ ∃ y, wr.cell? ⟨g, i, none⟩ = some (.int .i64 y) ∧ ¬ y < x) := by
              by_cases h1 : i < L.length
              · exact .inr ⟨by omega, _, hcells i h1, fun h2 => hgo ⟨h1, h2⟩⟩
              · exact .inl (by omega)
            have habove : ∀ j, i ≤ j → j < L.length → x < L.getD j 0 := fun j hij hj => by
              have h1 : i < L.length := by omega
              have h2 : ¬ L.getD i 0 < x := fun h2 => hgo ⟨h1, h2⟩
              have h3 : L.getD i 0 ≠ x := fun e => hnew (e ▸ getD_memW h1)
              by_cases e : j = i
              · subst e; omega
              · have h4 := List.pairwise_iff_getElem.1 hris i j h1 hj (by omega)
                rw [getD_eqW h1] at h2 h3
                rw [getD_eqW hj]
                omega
            have hris' := rises_insert hris hiL hbelow habove
            have hC' := CollectedI.permW (hC.step hlk hat) (perm_insert L i x)
            clear hbelow habove
            have hi2 : (i : Int) ≤ (L.length : Int) := by omega
            have hi3 : (i : Int) ≤ (cap : Int) := by omega
            have hnews1 : ∀ W, GrowBut wr W [] → ∀ j u, ((L.take i).map (Value.int .i64))[j]? = some u → W.cell? (Addr.add ⟨g, 0, none⟩ j) = some u := fun W hW j u hj => by
              have hj' : j < i := by have := (List.getElem?_eq_some_iff.1 hj).1; simp at this; omega
              have e1 : (Addr.add ⟨g, 0, none⟩ j) = ⟨g, j, none⟩ := by unfold Addr.add; split <;> simp_all
              rw [e1]
              rw [List.getElem?_map, List.getElem?_take_of_lt hj', List.getElem?_eq_getElem (by omega)] at hj
              have := hW.cell (hcells j (by omega)) (by simp)
              rw [this, List.getD_eq_getElem?_getD, List.getElem?_eq_getElem (by omega)]
              simpa using hj
            have hnews2 : ∀ W, GrowBut wr W [] → ∀ j u, ((L.drop i).map (Value.int .i64))[j]? = some u → W.cell? (Addr.add ⟨g, i, none⟩ j) = some u := fun W hW j u hj => by
              have hj' : i + j < L.length := by have := (List.getElem?_eq_some_iff.1 hj).1; simp at this; omega
              have e1 : (Addr.add ⟨g, i, none⟩ j) = ⟨g, i + j, none⟩ := by unfold Addr.add; split <;> simp_all
              rw [e1]
              rw [List.getElem?_map, List.getElem?_drop, List.getElem?_eq_getElem (by omega)] at hj
              have := hW.cell (hcells (i + j) (by omega)) (by simp)
              rw [this, List.getD_eq_getElem?_getD, List.getElem?_eq_getElem (by omega)]
              simpa using hj
            have hA : (wr.alloc (.cells #[] 3)).drew.heap[wr.heap.size]? = some (.cells #[] 3 (0, 0)) := heap_alloc_new _ _
            have hB : ((wr.alloc (.cells #[.int .i64 x] 3)).alloc (.cells #[] 3)).drew.heap[wr.heap.size + 1]? = some (.cells #[] 3 (0, 0)) := by
              have := heap_alloc_new (wr.alloc (.cells #[.int .i64 x] 3)) (.cells #[] 3)
              rwa [show (wr.alloc (.cells #[.int .i64 x] 3)).heap.size = wr.heap.size + 1 by simp] at this
            have hCC : ((wr.alloc (.cells #[] 3)).alloc (.cells #[.int .i64 x] 3)).drew.heap[wr.heap.size]? = some (.cells #[] 3 (0, 0)) := by
              have := heap_alloc_old (wr.alloc (.cells #[] 3)) (.cells #[.int .i64 x] 3) (k := wr.heap.size) (by simp)
              exact this.trans (heap_alloc_new _ _)
            have GA : GrowBut wr (wr.alloc (.cells #[] 3)).drew [] := (GrowBut.alloc _ _ _).trans (.drew _ _)
            have GB : GrowBut wr ((wr.alloc (.cells #[.int .i64 x] 3)).alloc (.cells #[] 3)).drew [] := ((GrowBut.alloc _ _ _).trans (.alloc _ _ _)).trans (.drew _ _)
            have GC : GrowBut wr ((wr.alloc (.cells #[] 3)).alloc (.cells #[.int .i64 x] 3)).drew [] := ((GrowBut.alloc _ _ _).trans (.alloc _ _ _)).trans (.drew _ _)
            have cB : ((wr.alloc (.cells #[.int .i64 x] 3)).alloc (.cells #[] 3)).drew.cell? ⟨wr.heap.size, 0, none⟩ = some (.int .i64 x) := by go_simp
            have cC : ((wr.alloc (.cells #[] 3)).alloc (.cells #[.int .i64 x] 3)).drew.cell? ⟨wr.heap.size + 1, 0, none⟩ = some (.int .i64 x) := by go_simp
            have hone : ∀ (l : List Int) (u : Value), u ∈ l.map (Value.int .i64) → u.oneCell' = true := fun l u hu => by
              obtain ⟨a, _, rfl⟩ := List.mem_map.1 hu
              rfl
            have hbs := hG2.size
            have sA := GA.size
            have sB := GB.size
            have sC := GC.size
            have hci : cap = i ∨ ¬ cap = i := by omega
            clear hcells
            have hnews3 : cap = i → ∀ W, GrowBut wr W [] → ∀ j u, ((L.drop i).map (Value.int .i64))[j]? = some u → W.cell? (Addr.add ⟨g, 0, none⟩ j) = some u := fun hci W hW j u hj => by
              have hj' := (List.getElem?_eq_some_iff.1 hj).1
              simp at hj'
              omega
            rcases hci with hci | hci
            · have hend : ¬ (i : Int) < (L.length : Int) := by omega
              have hci' := hci.symm
              subst hci'
              clear hex hci
              go_upto_region 8 with go_in
              go_region_law (first
                | (refine step_append_own rfl _ _ 55 rfl wr.heap.size 3 i0 (.int .i64 0) 1 8 Try.underlying55 hi hz0 hz1 hz2 rfl (by decide) (.slice (some ⟨wr.heap.size, 0, none⟩) 0 0) 0 [] rfl (ownsRow_empty (by omega) hA) ⟨g, 0, none⟩ i _ ((L.take i).map (Value.int .i64)) rfl (by simp; omega) (hnews1 _ GA) (hone _) (by unfold maxLen; omega) (by omega) sA ?_; intro v33 w33 own33 g33 nil33 at33; have own33' : w33.ownsRow wr.heap.size 3 1 v33 i ((L.take i).map (Value.int .i64)) := (by simpa using own33); have G33 : GrowBut wr w33 [] := GrowBut.from GA (.of_rowX g33) (fun x hx => .inr (by simp [Value.ownBlock] at hx; omega)); have s33 := G33.size; clear own33 g33)
                | (refine step_append_own rfl _ _ 55 rfl wr.heap.size 3 i0 (.int .i64 0) 1 8 Try.underlying55 hi hz0 hz1 hz2 rfl (by decide) (.slice (some ⟨wr.heap.size, 0, none⟩) 0 0) 0 [] rfl (ownsRow_empty (by omega) hCC) ⟨g, 0, none⟩ i _ ((L.take i).map (Value.int .i64)) rfl (by simp; omega) (hnews1 _ GC) (hone _) (by unfold maxLen; omega) (by omega) sC ?_; intro v33 w33 own33 g33 nil33 at33; have own33' : w33.ownsRow wr.heap.size 3 1 v33 i ((L.take i).map (Value.int .i64)) := (by simpa using own33); have G33 : GrowBut wr w33 [] := GrowBut.from GC (.of_rowX g33) (fun x hx => .inr (by simp [Value.ownBlock] at hx; omega)); have s33 := G33.size; have x33 : w33.cell? ⟨wr.heap.size + 1, 0, none⟩ = some (.int .i64 x) := g33.cell cC (by simp [Value.ownBlock]); clear own33 g33)
                | (refine step_append_own rfl _ _ 55 rfl wr.heap.size 3 i0 (.int .i64 0) 1 8 Try.underlying55 hi hz0 hz1 hz2 rfl (by decide) (.slice (some ⟨wr.heap.size + 1, 0, none⟩) 0 0) 0 [] rfl (ownsRow_empty (by omega) hB) ⟨g, 0, none⟩ i _ ((L.take i).map (Value.int .i64)) rfl (by simp; omega) (hnews1 _ GB) (hone _) (by unfold maxLen; omega) (by omega) sB ?_; intro v33 w33 own33 g33 nil33 at33; have own33' : w33.ownsRow wr.heap.size 3 1 v33 i ((L.take i).map (Value.int .i64)) := (by simpa using own33); have G33 : GrowBut wr w33 [] := GrowBut.from GB (.of_rowX g33) (fun x hx => .inr (by simp [Value.ownBlock] at hx; omega)); have s33 := G33.size; have x33 : w33.cell? ⟨wr.heap.size, 0, none⟩ = some (.int .i64 x) := g33.cell cB (by simp [Value.ownBlock]); clear own33 g33)
                | (refine step_append_own rfl _ _ 55 rfl wr.heap.size 3 i0 (.int .i64 0) 1 8 Try.underlying55 hi hz0 hz1 hz2 rfl (by decide) v33 i ((L.take i).map (Value.int .i64)) rfl (own33'.alloc _) ⟨w33.heap.size, 0, none⟩ 1 1 [.int .i64 x] rfl rfl (cell_one_new _ _ _) (by simp [Value.oneCell']) (by unfold maxLen; omega) (by omega) (by simp; omega) ?_; intro v36 w36 own36 g36 nil36 at36; have own36' : w36.ownsRow wr.heap.size 3 1 v36 (i + 1) ((L.take i ++ [x]).map (Value.int .i64)) := (by simpa using own36); have G36 : GrowBut wr w36 [] := (G33.trans (GrowBut.alloc _ _ _)).from (.of_rowX g36) (fun x hx => .inr (own33'.lt x (by simpa using hx)).1); have s36 := G36.size; clear own36 g36)
                | (refine step_append_own rfl _ _ 55 rfl wr.heap.size 3 i0 (.int .i64 0) 1 8 Try.underlying55 hi hz0 hz1 hz2 rfl (by decide) v33 i ((L.take i).map (Value.int .i64)) rfl own33' _ 1 1 [.int .i64 x] rfl rfl (fun j u hj => by rcases j with _ | j <;> simp at hj; subst hj; simpa [Addr.add] using x33) (by simp [Value.oneCell']) (by unfold maxLen; omega) (by omega) s33 ?_; intro v36 w36 own36 g36 nil36 at36; have own36' : w36.ownsRow wr.heap.size 3 1 v36 (i + 1) ((L.take i ++ [x]).map (Value.int .i64)) := (by simpa using own36); have G36 : GrowBut wr w36 [] := G33.from (.of_rowX g36) (fun x hx => .inr (own33'.lt x (by simpa using hx)).1); have s36 := G36.size; clear own36 g36)
                | (refine step_append_own rfl _ _ 55 rfl wr.heap.size 3 i0 (.int .i64 0) 1 8 Try.underlying55 hi hz0 hz1 hz2 rfl (by decide) v36 (i + 1) ((L.take i ++ [x]).map (Value.int .i64)) rfl own36' ⟨g, 0, none⟩ 0 _ [] rfl rfl (fun j u hj => by simp at hj) (fun u hu => by cases hu) (by unfold maxLen; omega) (by omega) s36 ?_; intro v40 w40 own40 g40 nil40 at40; have G40 : GrowBut wr w40 [] := G36.from (.of_rowX g40) (fun x hx => .inr (own36'.lt x (by simpa using hx)).1))
                | fail)
              all_goals
                have hrow40 : w40.ownsRow w.heap.size 3 1 v40 (L.take i ++ x :: L.drop i).length ((L.take i ++ x :: L.drop i).map (Value.int .i64)) := (by
                  have e1 : i + 1 + 0 = (L.take i ++ x :: L.drop i).length := by simp; omega
                  rw [← e1]
                  refine ownsRow_base (base := wr.heap.size) ?_ (by omega)
                  simpa [List.drop_eq_nil_of_le (show L.length ≤ i by omega)] using own40)
                have hrg40 := hrg2.kept G40.keepAll (by simp) (by simp)
                go_wp2_with go_in
                exact ⟨⟨_, cnt2, hrg40, _, by simp; omega, hrow40, by simp, hris', hC', hG2.trans G40⟩, by rw [hrg40.left_eq, hrg.left_eq]; exact hlt⟩
            rcases hex with hend | ⟨hend, y, hcy, hny⟩
            all_goals
              go_upto_region 8 with go_in
              go_region_law (first
                | (refine step_append_own rfl _ _ 55 rfl wr.heap.size 3 i0 (.int .i64 0) 1 8 Try.underlying55 hi hz0 hz1 hz2 rfl (by decide) (.slice (some ⟨wr.heap.size, 0, none⟩) 0 0) 0 [] rfl (ownsRow_empty (by omega) hA) ⟨g, 0, none⟩ i _ ((L.take i).map (Value.int .i64)) rfl (by simp; omega) (hnews1 _ GA) (hone _) (by unfold maxLen; omega) (by omega) sA ?_; intro v33 w33 own33 g33 nil33 at33; have own33' : w33.ownsRow wr.heap.size 3 1 v33 i ((L.take i).map (Value.int .i64)) := (by simpa using own33); have G33 : GrowBut wr w33 [] := GrowBut.from GA (.of_rowX g33) (fun x hx => .inr (by simp [Value.ownBlock] at hx; omega)); have s33 := G33.size; clear own33 g33)
                | (refine step_append_own rfl _ _ 55 rfl wr.heap.size 3 i0 (.int .i64 0) 1 8 Try.underlying55 hi hz0 hz1 hz2 rfl (by decide) (.slice (some ⟨wr.heap.size, 0, none⟩) 0 0) 0 [] rfl (ownsRow_empty (by omega) hCC) ⟨g, 0, none⟩ i _ ((L.take i).map (Value.int .i64)) rfl (by simp; omega) (hnews1 _ GC) (hone _) (by unfold maxLen; omega) (by omega) sC ?_; intro v33 w33 own33 g33 nil33 at33; have own33' : w33.ownsRow wr.heap.size 3 1 v33 i ((L.take i).map (Value.int .i64)) := (by simpa using own33); have G33 : GrowBut wr w33 [] := GrowBut.from GC (.of_rowX g33) (fun x hx => .inr (by simp [Value.ownBlock] at hx; omega)); have s33 := G33.size; have x33 : w33.cell? ⟨wr.heap.size + 1, 0, none⟩ = some (.int .i64 x) := g33.cell cC (by simp [Value.ownBlock]); clear own33 g33)
                | (refine step_append_own rfl _ _ 55 rfl wr.heap.size 3 i0 (.int .i64 0) 1 8 Try.underlying55 hi hz0 hz1 hz2 rfl (by decide) (.slice (some ⟨wr.heap.size + 1, 0, none⟩) 0 0) 0 [] rfl (ownsRow_empty (by omega) hB) ⟨g, 0, none⟩ i _ ((L.take i).map (Value.int .i64)) rfl (by simp; omega) (hnews1 _ GB) (hone _) (by unfold maxLen; omega) (by omega) sB ?_; intro v33 w33 own33 g33 nil33 at33; have own33' : w33.ownsRow wr.heap.size 3 1 v33 i ((L.take i).map (Value.int .i64)) := (by simpa using own33); have G33 : GrowBut wr w33 [] := GrowBut.from GB (.of_rowX g33) (fun x hx => .inr (by simp [Value.ownBlock] at hx; omega)); have s33 := G33.size; have x33 : w33.cell? ⟨wr.heap.size, 0, none⟩ = some (.int .i64 x) := g33.cell cB (by simp [Value.ownBlock]); clear own33 g33)
                | (refine step_append_own rfl _ _ 55 rfl wr.heap.size 3 i0 (.int .i64 0) 1 8 Try.underlying55 hi hz0 hz1 hz2 rfl (by decide) v33 i ((L.take i).map (Value.int .i64)) rfl (own33'.alloc _) ⟨w33.heap.size, 0, none⟩ 1 1 [.int .i64 x] rfl rfl (cell_one_new _ _ _) (by simp [Value.oneCell']) (by unfold maxLen; omega) (by omega) (by simp; omega) ?_; intro v36 w36 own36 g36 nil36 at36; have own36' : w36.ownsRow wr.heap.size 3 1 v36 (i + 1) ((L.take i ++ [x]).map (Value.int .i64)) := (by simpa using own36); have G36 : GrowBut wr w36 [] := (G33.trans (GrowBut.alloc _ _ _)).from (.of_rowX g36) (fun x hx => .inr (own33'.lt x (by simpa using hx)).1); have s36 := G36.size; clear own36 g36)
                | (refine step_append_own rfl _ _ 55 rfl wr.heap.size 3 i0 (.int .i64 0) 1 8 Try.underlying55 hi hz0 hz1 hz2 rfl (by decide) v33 i ((L.take i).map (Value.int .i64)) rfl own33' _ 1 1 [.int .i64 x] rfl rfl (fun j u hj => by rcases j with _ | j <;> simp at hj; subst hj; simpa [Addr.add] using x33) (by simp [Value.oneCell']) (by unfold maxLen; omega) (by omega) s33 ?_; intro v36 w36 own36 g36 nil36 at36; have own36' : w36.ownsRow wr.heap.size 3 1 v36 (i + 1) ((L.take i ++ [x]).map (Value.int .i64)) := (by simpa using own36); have G36 : GrowBut wr w36 [] := G33.from (.of_rowX g36) (fun x hx => .inr (own33'.lt x (by simpa using hx)).1); have s36 := G36.size; clear own36 g36)
                | (refine step_append_own rfl _ _ 55 rfl wr.heap.size 3 i0 (.int .i64 0) 1 8 Try.underlying55 hi hz0 hz1 hz2 rfl (by decide) v36 (i + 1) ((L.take i ++ [x]).map (Value.int .i64)) rfl own36' ⟨g, i, none⟩ (L.length - i) _ ((L.drop i).map (Value.int .i64)) rfl (by simp) (hnews2 _ G36) (hone _) (by unfold maxLen; omega) (by omega) s36 ?_; intro v40 w40 own40 g40 nil40 at40; have G40 : GrowBut wr w40 [] := G36.from (.of_rowX g40) (fun x hx => .inr (own36'.lt x (by simpa using hx)).1))
                | fail)
              all_goals
                have hrow40 : w40.ownsRow w.heap.size 3 1 v40 (L.take i ++ x :: L.drop i).length ((L.take i ++ x :: L.drop i).map (Value.int .i64)) := (by
                  have e1 : i + 1 + (L.length - i) = (L.take i ++ x :: L.drop i).length := by simp; omega
                  rw [← e1]
                  refine ownsRow_base (base := wr.heap.size) ?_ (by omega)
                  simpa using own40)
                have hrg40 := hrg2.kept G40.keepAll (by simp) (by simp)
                go_wp2_with go_in
                exact ⟨⟨_, cnt2, hrg40, _, by simp; omega, hrow40, by simp, hris', hC', hG2.trans G40⟩, by rw [hrg40.left_eq, hrg.left_eq]; exact hlt⟩

end Go.Proofs.Ytlgfopfibopcnaa
