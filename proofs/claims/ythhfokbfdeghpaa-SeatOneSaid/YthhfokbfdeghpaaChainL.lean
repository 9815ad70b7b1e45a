/-
  chain.Links: which links it tells, in some order.
-/
import Derived.Test.YthhfokbfdeghpaaChainC
namespace Go.Proofs.Ythhfokbfdeghpaa
open Go Go.RowKit Go.Maps Go.Sort Go.Shelf Go.Lib
set_option linter.unusedVariables false

theorem permIn_perm {α : Type} [Inhabited α] {d d' : Array α} (h : PermIn 0 d.size d d') : d'.toList.Perm d.toList := by
  have h1 := h.2.2
  have e1 : d'.extract 0 d.size = d' := by rw [← h.1]; exact Array.extract_size
  have e2 : d.extract 0 d.size = d := Array.extract_size
  rwa [e1, e2] at h1

/-- The row of links. -/
def LinksRow (w w' : World) (M : List (Int × Int)) (v : Value) : Prop := ∃ (q : Option Addr) (cap : Nat), v = .slice q M.length cap ∧
  ∀ i (hi : i < M.length), ∃ g, q = some ⟨g, 0, none⟩ ∧ w.heap.size ≤ g ∧ g < w'.heap.size ∧ w'.cell? ⟨g, i * 2, none⟩ = some (.int .i64 (M[i]).1) ∧ w'.cell? ⟨g, i * 2 + 1, none⟩ = some (.int .i64 (M[i]).2)

theorem cells_of_holds {w : World} {g : Nat} {d : Array (Int × Int)} (h : HoldsK encL 2 w g 0 d) (i : Nat) (hi : i < d.toList.length) : w.cell? ⟨g, i * 2, none⟩ = some (.int .i64 (d.toList[i]).1) ∧ w.cell? ⟨g, i * 2 + 1, none⟩ = some (.int .i64 (d.toList[i]).2) := by
  have hi' : i < d.size := by simpa using hi
  have h0 := (h (i * 2) (by simp; omega)).1
  have h1 := (h (i * 2 + 1) (by simp; omega)).1
  rw [get_flatK encL 2 d _ (by omega)] at h0 h1
  rw [show i * 2 / 2 = i by omega, show i * 2 % 2 = 0 by omega, Nat.zero_add] at h0
  rw [show (i * 2 + 1) / 2 = i by omega, show (i * 2 + 1) % 2 = 1 by omega, Nat.zero_add] at h1
  have e : d[i]! = d.toList[i] := by rw [getElem!_pos d i hi']; simp
  rw [e] at h0 h1
  exact ⟨h0, h1⟩

set_option maxRecDepth 100000 in
set_option maxHeartbeats 4000000 in
theorem linksM_calls (C bt bf n : Nat) (L : List (Int × Int)) (w : World) (h : ChainAt w C bt bf n L) (hn : n ≤ 100000) :
    Calls Try.prog 101 #[.pointer (some ⟨C, 0, none⟩)] w fun e w' => ∃ v M, e = .returned v ∧ M.Perm L ∧ LinksRow w w' M v ∧ GrowBut w w' [] := by
  obtain ⟨i0, hi, hz0, hz1, hz2⟩ := info_parts infoL
  obtain ⟨D0, hown, hD⟩ := h.own_t
  have c0 := h.pt
  have hbl := hown.lt
  have hDn := hown.size_le
  go_enter Try.func101, Try.ntmps101
  go_wp2_with (first
    | (at_range; refine wpList_range_own _ rfl _ 183 rfl 3 3 law3L Try.underlying183 _ bt n _ rfl hown ?_; intro w0 hrg0 hg0 hs0)
    | go_in)
  go_frame
  go_loopw [2] (fun v wr => ∃ (left : Lit → Bool) (cnt : Nat) (ps : List (Int × Int)), wr.ranges Try.prog 3 (plainElem Try.prog 3) bt w.heap.size n D0 left cnt ∧ ps.length + cnt ≤ Maps.size D0 ∧
      wr.ownsRow w.heap.size 95 2 v ps.length (ps.flatMap encL) ∧ (ps = [] → v = .slice none 0 0) ∧ CollectedI D0 left (ps.map (·.1)) ∧ (∀ p ∈ ps, p ∈ L) ∧ GrowBut w wr [])
    (fun _ wr => wr.rangeLeft bt w.heap.size)
  case atStart => exact ⟨_, _, [], hrg0, by simp, World.ownsRow_nil _ _ _ _, fun _ => rfl, CollectedI.start D0, fun p hp => (by cases hp), .of_none hg0⟩
  case round =>
    obtain ⟨left, cnt, ps, hrg, hcs, hrow, hne, hC, hps, hG⟩ := hrel
    go_wp2_with (first
      | (at_next; refine wpList_next_ranges_ii _ rfl _ rfl 3 3 .i64 .i64 law3L Try.underlying3 Try.underlying3 bt w.heap.size n _ _ _ rfl hrg ?_ ?_)
      | go_in)
    · intro hc0 hl0
      have hperm : ps.Perm L := by
        have hnd : ps.Nodup := List.Pairwise.of_map (fun p : Int × Int => p.1) (fun a b hne e => hne (by rw [e])) hC.1
        have hndL : L.Nodup := List.Pairwise.of_map Prod.fst (fun a b hne e => hne (by rw [e])) h.nf
        refine (List.perm_ext_iff_of_nodup hnd hndL).2 fun p => ⟨hps p, fun hp => ?_⟩
        have h1 : p.1 ∈ ps.map (·.1) := (hC.2 p.1).2 ⟨by rw [hD.has]; exact decide_eq_true (List.mem_map_of_mem (f := Prod.fst) hp), hl0 _⟩
        obtain ⟨p', hp', e⟩ := List.mem_map.1 h1
        have h2 := hps p' hp'
        obtain ⟨x, y⟩ := p
        obtain ⟨x', y'⟩ := p'
        simp only at e
        subst e
        rw [fst_one h.nf hp h2]
        exact hp'
      rcases hrow.2 with ⟨rfl, hz⟩ | ⟨g, cap, cur, rfl, hbase, hb, h1, h2, h3, h4⟩
      · have hc := AnyF.slices_SortFunc_none Try.sortL none 0 (.func (.func 120) #[] #[]) wr
        change Calls Try.prog 119 _ _ _ at hc
        go_wp2_with (go_at_call 119; refine hc.mono ?_; rintro e w' ⟨rfl, rfl⟩)
        go_ret
        exact ⟨_, ps, rfl, hperm, ⟨none, 0, by rw [hz]; rfl, fun i hi => by omega⟩, hG⟩
      · have hH : HoldsK encL 2 wr g 0 ps.toArray := holdsL hb h4
        have hgl : g < wr.heap.size := (Array.getElem?_eq_some_iff.1 hb).1
        have hc : Calls Try.prog 119 #[.slice (some ⟨g, 0, none⟩) ps.length cap, .func (.func 120) #[] #[]] wr fun e w' => e = .returned (.tuple #[]) ∧ wr.grownBy w' (some g) ∧ ∃ d' : Array (Int × Int), d'.toList.Perm ps ∧ HoldsK encL 2 w' g 0 d' := by
          have hc0 := sort_callsL g 0 cap ps.toArray wr hH hgl (by simp; omega)
          rw [List.size_toArray] at hc0
          refine Calls.mono hc0 ?_
          intro e w' hq
          obtain ⟨he, d', nn, os, hpi, hw'⟩ := hq
          have hp' := permIn_perm (d := ps.toArray) (by simpa using hpi)
          refine ⟨he, ?_, d', by simpa using hp', ?_⟩
          · rw [hw']; exact grownByL d'
          · rw [hw']
            exact holdsK_grow encL 2 _ os g 0 d' (by simpa [putRowK] using hgl) (holdsK_putRowK encL 2 _ g 0 ps.toArray d' hH (by simpa using hpi.1))
        clear hH hne
        go_wp2_with (go_at_call 119; refine hc.mono ?_; rintro e w' ⟨rfl, hgr, d', hpd, hHd⟩)
        go_ret
        have hlen : d'.toList.length = ps.length := hpd.length_eq
        exact ⟨_, d'.toList, rfl, hpd.trans hperm, ⟨_, cap, by rw [hlen]; rfl, fun i hi => ⟨g, rfl, hbase, Nat.lt_of_lt_of_le hgl hgr.size, (cells_of_holds hHd i hi).1, (cells_of_holds hHd i hi).2⟩⟩, hG.from (.of_some hgr) (fun x hx => .inr (by simp at hx; omega))⟩
    · intro x c w2 cnt2 hwx hwc hlk hat hrg2 hlt hg2 hs2 hen
      have hrow2 := hrow.kept hg2 (Or.inr (row_ne_iter hrow hrg).symm)
      have hxc : (x, c) ∈ L := by
        have h1 : x ∈ L.map Prod.fst := by simpa using (hD.has x).symm.trans (has_true_of_atKey hat)
        obtain ⟨p, hp, e⟩ := List.mem_map.1 h1
        have h2 := hD.at_ p hp .nil
        rw [e, hat] at h2
        obtain ⟨a, b⟩ := p
        simp only at e h2
        subst e
        obtain rfl : c = b := by simpa using h2
        exact hp
      have hG2 := hG.from (.of_some hg2) (l := []) (fun x hx => .inr (by simp at hx; omega))
      clear hs2
      go_wp2_with (first
        | (at_builtin; refine wpList_append_own _ rfl _ _ 93 rfl w.heap.size 95 i0 (.agg #[.int .i64 0, .int .i64 0]) 2 16 Try.underlying93 hi hz0 hz1 hz2 rfl (by decide) _ _ _ rfl (hrow2.alloc _) ⟨w2.heap.size, 0, none⟩ 1 1 [.int .i64 x, .int .i64 c] rfl rfl (fun j u hj => by rcases j with _ | _ | j <;> simp at hj <;> subst hj <;> simp [Addr.add, World.cell?_alloc_new]) (by simp [Value.oneCell']) (by unfold maxLen at *; omega) (by omega) (by have := hG2.size; simp; omega) ?_; intro v' w3 hown' hg3 hnil3; go_frame)
        | go_in)
      have hrg3 := (hrg2.alloc _).kept hg3 (row_ne_low hrow2 hbl) (row_ne_iter hrow2 hrg2)
      go_roundw
      case rel =>
        refine ⟨_, cnt2, ps ++ [(x, c)], hrg3, by simp; omega, by simpa [encL] using hown', fun h => by simp at h, ?_, fun p hp => ?_, ?_⟩
        · rw [List.map_append]; exact hC.step hlk hat
        · rcases List.mem_append.1 hp with hp | hp
          · exact hps p hp
          · simp at hp; subst hp; exact hxc
        · refine (hG2.trans (GrowBut.alloc _ _ [])).from (l' := _) (b := _) (GrowBut.mk hg3.os hg3.tape hg3.output hg3.size (fun j hj hnj => hg3.block j hj (fun e => hnj (Option.mem_toList.2 e.symm)))) (fun j hj => .inr (hrow2.lt j (Option.mem_toList.1 hj)).1)
      case measure => rw [hrg3.left_eq, hrg.left_eq]; exact hlt

end Go.Proofs.Ythhfokbfdeghpaa
