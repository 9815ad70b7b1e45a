/-
  Package span: the pages of rows, whatever rows they are.
-/
import Derived.Test.YtonbcchdaboigaaTab
import Derived.Test.YtonbcchdaboigaaSpanV
import Derived.Deep.Cut
namespace Go.Proofs.Ytonbcchdaboigaa
open Go Go.RowKit Go.Maps Go.Am
set_option linter.unusedVariables false

/-- May this row be, behind those pages? -/
def okG (out : List Int) (s : Int × Int) : Bool := decide (1 ≤ s.2) && decide (s.2 ≤ 40 - (out.length : Int)) && decide (0 ≤ s.1) && decide (s.1 ≤ 4096 - s.2) && (List.range s.2.toNat).all fun k : Nat => decide (s.1 + (k : Int) ∉ out)

/-- A row's first pages. -/
def rowK (p : Int) (k : Nat) : List Int := (List.range k).map fun i : Nat => p + (i : Int)

theorem rowK_succ (p : Int) (k : Nat) : rowK p (k + 1) = rowK p k ++ [p + (k : Int)] := by simp [rowK, List.range_succ]

theorem rowK_len (p : Int) (k : Nat) : (rowK p k).length = k := by simp [rowK]

theorem mem_rowK {p : Int} {k : Nat} {x : Int} : x ∈ rowK p k ↔ p ≤ x ∧ x < p + k := by
  unfold rowK
  rw [List.mem_map]
  constructor
  · rintro ⟨i, hi, rfl⟩; have := List.mem_range.1 hi; omega
  · rintro ⟨h1, h2⟩; exact ⟨(x - p).toNat, List.mem_range.2 (by omega), by omega⟩

/-- The pages of rows; none: they may not be. -/
def pagesG : List (Int × Int) → List Int → Option (List Int)
  | [], out => some out
  | s :: l, out => if okG out s then pagesG l (out ++ rowK s.1 s.2.toNat) else none

/-- Rows that come in. -/
def SpansIn (w : World) (s : Option Addr) (b off : Nat) (l : List (Int × Int)) : Prop := 0 < l.length → s = some ⟨b, off, none⟩ ∧ ∀ j, j < l.length → w.cell? ⟨b, off + j * 2, none⟩ = some (.int .i64 (l.getD j (0, 0)).1) ∧ w.cell? ⟨b, off + j * 2 + 1, none⟩ = some (.int .i64 (l.getD j (0, 0)).2) ∧ (Lit.int .i64 (l.getD j (0, 0)).1).wf = true ∧ (Lit.int .i64 (l.getD j (0, 0)).2).wf = true

theorem SpansIn.kept {w w' : World} {s : Option Addr} {b off : Nat} {l : List (Int × Int)} {L : List Nat} (h : SpansIn w s b off l) (hg : GrowBut w w' L) (hn : 0 < l.length → b ∉ L) : SpansIn w' s b off l := fun h0 => by
  obtain ⟨h1, h2⟩ := h h0
  exact ⟨h1, fun j hj => ⟨hg.cell (h2 j hj).1 (hn h0), hg.cell (h2 j hj).2.1 (hn h0), (h2 j hj).2.2⟩⟩

/-- The pages seen so far. -/
def seenS (l : List Int) : Int → Option Value := fun k => if k ∈ l then some (.bool true) else none

theorem seenS_snoc (l : List Int) (x : Int) : putT (seenS l) x (.bool true) = seenS (l ++ [x]) := by
  funext k; unfold putT seenS; by_cases e : k = x <;> simp [e]

theorem seenS_at (l : List Int) (x : Int) : (seenS l x).getD (.bool false) = .bool (decide (x ∈ l)) := by
  unfold seenS; by_cases e : x ∈ l <;> simp [e]

theorem keyW : Keyed Try.prog 3 := int_keyed Try.underlying3

theorem boolW (w : World) : (zeroValue 4).run Try.prog w = .ok (.bool false) w := by kernel_rfl

theorem infoW : (Try.prog.info? 3).map (fun i => (i.zero, i.size, i.bytes)) = some (some (.int .i64 0), 1, 8) := by kernel_rfl

theorem wf_small {a : Int} (h0 : 0 ≤ a) (h1 : a < 1000000) : (Lit.int .i64 a).wf = true := by
  simp only [Lit.wf, Bool.and_eq_true, decide_eq_true_eq]
  have hm : IntKind.i64.min = -9223372036854775808 := by decide
  have hM : IntKind.i64.max = 9223372036854775807 := by decide
  rw [hm, hM]
  omega

theorem cell_lt {w : World} {a : Addr} {v : Value} (h : w.cell? a = some v) : a.block < w.heap.size := by
  by_cases h2 : a.block < w.heap.size
  · exact h2
  · exfalso
    have h3 : w.heap[a.block]? = none := Array.getElem?_eq_none (by omega)
    simp [World.cell?, h3] at h

theorem drop_cons {l : List (Int × Int)} {j : Nat} (h : j < l.length) : l.drop j = l.getD j (0, 0) :: l.drop (j + 1) := by
  rw [List.drop_eq_getElem_cons h, List.getD_eq_getElem?_getD, List.getElem?_eq_getElem h]; rfl

theorem okG_iff {out : List Int} {s : Int × Int} : okG out s = true ↔ 1 ≤ s.2 ∧ s.2 ≤ 40 - (out.length : Int) ∧ 0 ≤ s.1 ∧ s.1 ≤ 4096 - s.2 ∧ ∀ k : Nat, k < s.2.toNat → s.1 + (k : Int) ∉ out := by
  unfold okG
  simp only [Bool.and_eq_true, decide_eq_true_eq, List.all_eq_true, List.mem_range]
  constructor
  · rintro ⟨⟨⟨⟨h1, h2⟩, h3⟩, h4⟩, h5⟩; exact ⟨h1, h2, h3, h4, h5⟩
  · rintro ⟨h1, h2, h3, h4, h5⟩; exact ⟨⟨⟨⟨h1, h2⟩, h3⟩, h4⟩, h5⟩

theorem okG_no {out : List Int} {s : Int × Int} (h : ¬ (1 ≤ s.2 ∧ s.2 ≤ 40 - (out.length : Int) ∧ 0 ≤ s.1 ∧ s.1 ≤ 4096 - s.2 ∧ ∀ k : Nat, k < s.2.toNat → s.1 + (k : Int) ∉ out)) : okG out s = false := by
  cases hk : okG out s with
  | false => rfl
  | true => exact absurd (okG_iff.1 hk) h

theorem pagesG_no {l : List (Int × Int)} {out : List Int} {s : Int × Int} (h : okG out s = false) : pagesG (s :: l) out = none := by
  show (if okG out s = true then _ else none) = none
  rw [h]; rfl

theorem pagesG_yes {l : List (Int × Int)} {out : List Int} {s : Int × Int} (h : okG out s = true) : pagesG (s :: l) out = pagesG l (out ++ rowK s.1 s.2.toNat) := by
  show (if okG out s = true then pagesG l (out ++ rowK s.1 s.2.toNat) else none) = _
  rw [if_pos h]

/-- What span.pages tells. -/
def PagesTold (w w' : World) (e : Ending) (l : List (Int × Int)) : Prop := ∃ v ok, e = .returned (.tuple #[v, .bool ok]) ∧ GrowBut w w' [] ∧ ((ok = true ∧ ∃ out, pagesG l [] = some out ∧ w'.ownsRow w.heap.size 3 1 v out.length (out.map (Value.int .i64))) ∨ (ok = false ∧ pagesG l [] = none ∧ v = .slice none 0 0))

theorem row_low {w : World} {base base' : Nat} {e : TypeId} {size n : Nat} {v : Value} {xs : List Value} (h : w.ownsRow base e size v n xs) (hb : base' ≤ base) : w.ownsRow base' e size v n xs := h.mono hb

set_option maxRecDepth 100000 in
set_option maxHeartbeats 4000000 in
theorem pagesG_calls (s : Option Addr) (b off c : Nat) (l : List (Int × Int)) (w : World) (hS : SpansIn w s b off l) (h1 : 1 ≤ l.length) (h8 : l.length ≤ 8) :
    Calls Try.prog 71 #[.slice s l.length c] w fun e w' => PagesTold w w' e l := by
  obtain ⟨i0, hi, hz0, hz1, hz2⟩ := info_parts infoW
  have hl0 : ((l.length : Int) == 0) = false := by rw [beq_eq_false_iff_ne]; omega
  have hl8 : decide (8 < (l.length : Int)) = false := decide_eq_false (by omega)
  have hl8' : ¬ 8 < l.length := by omega
  have hl0' : ¬ l.length = 0 := by omega
  obtain ⟨rfl, hcs⟩ := hS (by omega)
  have hbl := cell_lt (hcs 0 (by omega)).1
  simp only at hbl
  have hmm := @run_makeMap Try.prog
  go_enter Try.func71, Try.ntmps71
  go_wp2_with fail
  clear hmm
  have hM0 := TabAt.made w .i64 3
  have hG0 := GrowBut.alloc w (.map #[] 0) []
  have hsz : w.heap.size < (w.alloc (.map #[] 0)).heap.size := by simp
  have hSe : (fun _ => none) = seenS [] := by funext k; simp [seenS]
  rw [hSe] at hM0
  generalize w.alloc (.map #[] 0) = w1 at hM0 hG0 hsz ⊢
  generalize hMM : w.heap.size = M at hM0 hsz hbl ⊢
  have hL0 := World.ownsRow_nil w1 w1.heap.size 3 1
  go_loopw [2, 19] (fun v2 v19 wx => ∃ (j : Nat) (out : List Int), v19 = .int .i64 j ∧ j ≤ l.length ∧ pagesG l [] = pagesG (l.drop j) out ∧ out.length ≤ 40 ∧ wx.ownsRow w1.heap.size 3 1 v2 out.length (out.map (Value.int .i64)) ∧ TabAt wx .i64 3 M out.length (seenS out) ∧ GrowBut w1 wx [M]) (fun _ v19 _ => l.length - intOf v19)
  case atStart => exact ⟨0, [], rfl, by omega, rfl, by simp, hL0, hM0, .refl _ _⟩
  case round =>
    obtain ⟨j, out, rfl, hj, hpg, hol, hrow, hT, hG⟩ := hrel
    have hGw : GrowBut w wr [] := hG0.from hG (fun x hx => .inr (by simp at hx; omega))
    by_cases hlt : j < l.length
    · have hlt' : (j : Int) < (l.length : Int) := by omega
      obtain ⟨c0, c1, hw0, hw1⟩ := hcs j hlt
      replace c0 := hG.cell (hG0.cell c0 (by simp)) (by simp; omega)
      replace c1 := hG.cell (hG0.cell c1 (by simp)) (by simp; omega)
      rw [drop_cons hlt] at hpg
      clear hw0 hw1
      generalize l.getD j (0, 0) = sp at c0 c1 hpg
      obtain ⟨p, n⟩ := sp
      simp only at c0 c1
      obtain ⟨sv, cv, rfl⟩ := row_form hrow
      by_cases hA : n < 1
      · have dA : decide (n < 1) = true := decide_eq_true hA
        go_wp2_with fail
        go_ret2
        exact ⟨_, _, rfl, hGw.trans (GrowBut.alloc _ _ _), .inr ⟨rfl, by rw [hpg]; exact pagesG_no (okG_no (by rintro ⟨h1, h2, h3, h4, h5⟩; simp only at h1 h2 h3 h4; omega)), rfl⟩⟩
      have dA : decide (n < 1) = false := decide_eq_false hA
      by_cases hB : 40 - (out.length : Int) < n
      · have dB : decide (40 - (out.length : Int) < n) = true := decide_eq_true hB
        go_wp2_with fail
        go_ret2
        exact ⟨_, _, rfl, hGw.trans (GrowBut.alloc _ _ _), .inr ⟨rfl, by rw [hpg]; exact pagesG_no (okG_no (by rintro ⟨h1, h2, h3, h4, h5⟩; simp only at h1 h2 h3 h4; omega)), rfl⟩⟩
      have dB : decide (40 - (out.length : Int) < n) = false := decide_eq_false hB
      by_cases hC : p < 0
      · have dC : decide (p < 0) = true := decide_eq_true hC
        go_wp2_with fail
        go_ret2
        exact ⟨_, _, rfl, hGw.trans (GrowBut.alloc _ _ _), .inr ⟨rfl, by rw [hpg]; exact pagesG_no (okG_no (by rintro ⟨h1, h2, h3, h4, h5⟩; simp only at h1 h2 h3 h4; omega)), rfl⟩⟩
      have dC : decide (p < 0) = false := decide_eq_false hC
      by_cases hD : 4096 - n < p
      · have dD : decide (4096 - n < p) = true := decide_eq_true hD
        go_wp2_with fail
        go_ret2
        exact ⟨_, _, rfl, hGw.trans (GrowBut.alloc _ _ _), .inr ⟨rfl, by rw [hpg]; exact pagesG_no (okG_no (by rintro ⟨h1, h2, h3, h4, h5⟩; simp only at h1 h2 h3 h4; omega)), rfl⟩⟩
      have dD : decide (4096 - n < p) = false := decide_eq_false hD
      obtain ⟨P, rfl⟩ : ∃ P : Nat, p = P := ⟨p.toNat, by omega⟩
      obtain ⟨N, rfl⟩ : ∃ N : Nat, n = N := ⟨n.toNat, by omega⟩
      go_wp2_with fail
      have hb0 : (wr.alloc (.cells #[.int .i64 P, .int .i64 N] 64)).cell? ⟨wr.heap.size, 0, none⟩ = some (.int .i64 P) := by go_simp
      have hb1 : (wr.alloc (.cells #[.int .i64 P, .int .i64 N] 64)).cell? ⟨wr.heap.size, 1, none⟩ = some (.int .i64 N) := by go_simp
      have hga := GrowBut.alloc wr (.cells #[.int .i64 P, .int .i64 N] 64) []
      have hT1 := hT.kept hga (by simp)
      have hrow1 := hga.row hrow (by simp)
      have hGa := hG.trans (hga.mono (by simp))
      have hsz2 : wr.heap.size < (wr.alloc (.cells #[.int .i64 P, .int .i64 N] 64)).heap.size := by simp
      have hws := hG.size
      have hrowlt := hrow.lt
      clear hga hT hrow hG c0 c1 hcs hS
      generalize wr.alloc (.cells #[.int .i64 P, .int .i64 N] 64) = w2 at hb0 hb1 hT1 hrow1 hGa hsz2 ⊢
      generalize wr.heap.size = Bx at hb0 hb1 hsz2 hws hrowlt ⊢
      have hB1 : N ≤ 40 := by omega
      have hB2 : P + N ≤ 4096 := by omega
      have hB3 : out.length + N ≤ 40 := by omega
      go_loopw [2, 49] (fun v2 v49 wx => ∃ k : Nat, v49 = .int .i64 k ∧ k ≤ N ∧ (∀ i : Nat, i < k → (P : Int) + i ∉ out) ∧ wx.ownsRow w1.heap.size 3 1 v2 (out.length + k) ((out ++ rowK P k).map (Value.int .i64)) ∧ TabAt wx .i64 3 M (out.length + k) (seenS (out ++ rowK P k)) ∧
        wx.cell? ⟨Bx, 0, none⟩ = some (.int .i64 P) ∧ wx.cell? ⟨Bx, 1, none⟩ = some (.int .i64 N) ∧ Bx ∉ v2.ownBlock.toList ∧ GrowBut w1 wx [M]) (fun _ v49 _ => N - intOf v49)
      case atStart =>
        have e : rowK (P : Int) 0 = [] := rfl
        exact ⟨0, rfl, by omega, fun i hi => by omega, by rw [e, List.append_nil]; exact hrow1, by rw [e, List.append_nil]; exact hT1, hb0, hb1, fun hx => by have := (hrowlt Bx (by simpa using hx)).2; omega, hGa⟩
      case round =>
        obtain ⟨k, rfl, hk, hno, hrow, hT, c0, c1, hBn, hG⟩ := hrel
        have hGw2 : GrowBut w wr [] := hG0.from hG (fun x hx => .inr (by simp at hx; omega))
        by_cases hlk : k < N
        · have hlk' : (k : Int) < (N : Int) := by omega
          have hwx : (Lit.int .i64 ((P : Int) + k)).wf = true := wf_small (by omega) (by omega)
          have hls := hT.look (t := 104) (e := 4) keyW Try.underlying3 Try.underlying104 (boolW _) hwx
          have hni : (P : Int) + k ∉ rowK P k := by rw [mem_rowK]; omega
          by_cases hin : (P : Int) + k ∈ out
          · have e : (seenS (out ++ rowK P k) ((P : Int) + k)).getD (.bool false) = .bool true := by
              rw [seenS_at, decide_eq_true (List.mem_append.2 (.inl hin))]
            rw [e] at hls
            clear e hrow1 hT1
            go_wp2_with fail
            go_ret2
            exact ⟨_, _, rfl, hGw2, .inr ⟨rfl, by rw [hpg]; exact pagesG_no (okG_no (by rintro ⟨_, _, _, _, h5⟩; exact h5 k (by simp only; omega) hin)), rfl⟩⟩
          · have e : (seenS (out ++ rowK P k) ((P : Int) + k)).getD (.bool false) = .bool false := by
              rw [seenS_at, decide_eq_false (fun h => by rcases List.mem_append.1 h with h | h; exact hin h; exact hni h)]
            rw [e] at hls
            have hsn := seenS_snoc (out ++ rowK P k) ((P : Int) + k)
            rw [List.append_assoc, ← rowK_succ] at hsn
            have hlo2 : ∀ x ∈ u2.ownBlock.toList, w1.heap.size ≤ x := fun x hx => (hrow.lt x (by simpa using hx)).1
            have hkeep : ∀ w3, GrowBut wr w3 [M] → w3.cell? ⟨Bx, 0, none⟩ = some (.int .i64 P) ∧ w3.cell? ⟨Bx, 1, none⟩ = some (.int .i64 N) ∧ w3.ownsRow w1.heap.size 3 1 u2 (out.length + k) ((out ++ rowK P k).map (Value.int .i64)) ∧ w1.heap.size ≤ w3.heap.size := fun w3 h =>
              ⟨h.cell c0 (by simp; omega), h.cell c1 (by simp; omega), h.row hrow (fun j hj => by have := (hrow.lt j hj).1; simp; omega), by have := hG.size; have := h.size; omega⟩
            go_wp2_with (first
              | (at_mapUpdate; (refine wpList_putT rfl _ _ _ 104 rfl hT keyW Try.underlying3 Try.underlying104 (by omega) rfl ((P : Int) + k) (.bool true) rfl rfl hwx ?_; intro w3 hT3 hg3; rw [hsn] at hT3; obtain ⟨d0, d1, hrow3, hs3⟩ := hkeep w3 hg3))
              | (at_builtin; (refine wpList_append_own_at _ rfl _ _ 23 rfl w1.heap.size 3 i0 (.int .i64 0) 1 8 Try.underlying23 hi hz0 hz1 hz2 rfl (by decide) _ _ _ rfl (hrow3.alloc _) ⟨w3.heap.size, 0, none⟩ 1 1 [.int .i64 ((P : Int) + k)] rfl rfl (cell_one_new _ _ _) (by simp [Value.oneCell']) (by unfold maxLen at *; omega) (by omega) (by simp; omega) ?_; intro v' w4 hown4 hg4 hnil4 hat4; go_frame))
              | fail)
            have hg4' := (GrowBut.alloc w3 (.cells #[.int .i64 ((P : Int) + k)] 3) _).trans (GrowBut.of_rowZ (o := u2.ownBlock) hg4)
            have hMn : M ∉ u2.ownBlock.toList := fun hx => by have := hlo2 M hx; omega
            have hs3' := hg3.size
            have hBx := cell_lt c0
            refine ⟨⟨k + 1, by simp, by omega, fun i hi => ?_, ?_, hT3.kept hg4' hMn, hg4'.cell d0 hBn, hg4'.cell d1 hBn, ?_, (hG.trans hg3).from hg4' (fun x hx => .inr (hlo2 x hx))⟩, by simp [intOf]; omega⟩
            · by_cases e : i = k
              · subst e; exact hin
              · exact hno i (by omega)
            · rw [rowK_succ, ← List.append_assoc, List.map_append]; exact hown4
            · intro hx
              have hx' : v'.ownBlock = some Bx := by simpa using hx
              have hat5 : v'.ownBlock = u2.ownBlock ∨ v'.ownBlock = some (w3.alloc (.cells #[.int .i64 ((P : Int) + k)] 3)).heap.size := hat4
              rcases hat5 with h | h
              · rw [hx'] at h; exact hBn (by simpa using h.symm)
              · rw [hx'] at h; simp only [Option.some.injEq] at h; simp at h; simp only at hBx; omega
        · have hge : ¬ (k : Int) < (N : Int) := by omega
          have hkN : k = N := by omega
          subst hkN
          have hok : okG out ((P : Int), (k : Int)) = true := okG_iff.2 ⟨by simp only; omega, by simp only; omega, by simp only; omega, by simp only; omega, fun i hi => hno i (by simp only at hi; omega)⟩
          rw [pagesG_yes hok] at hpg
          have e : rowK ((P : Int), (k : Int)).1 ((P : Int), (k : Int)).2.toNat = rowK P k := by simp
          rw [e] at hpg
          have hlen : (out ++ rowK (P : Int) k).length = out.length + k := by rw [List.length_append, rowK_len]
          clear e
          go_wp2_with fail
          exact ⟨⟨j + 1, out ++ rowK P k, by simp, by omega, hpg, by omega, by rw [hlen]; exact hrow, by rw [hlen]; exact hT, hG⟩, by simp [intOf]; omega⟩
    · have hjl : j = l.length := by omega
      subst hjl
      rw [List.drop_length] at hpg
      have hge : ¬ (l.length : Int) < (l.length : Int) := by omega
      go_wp2_with fail
      go_ret2
      exact ⟨_, _, rfl, hGw, .inl ⟨rfl, out, hpg, row_low hrow (by omega)⟩⟩

end Go.Proofs.Ytonbcchdaboigaa
