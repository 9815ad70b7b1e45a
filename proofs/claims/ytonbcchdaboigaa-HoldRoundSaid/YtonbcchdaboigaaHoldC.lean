/-
  Package hold: its methods' contracts.
-/
import Derived.Test.YtonbcchdaboigaaTab
import Derived.Deep.Cut
namespace Go.Proofs.Ytonbcchdaboigaa
open Go Go.RowKit Go.Maps Go.Am
set_option linter.unusedVariables false

/-- A page as it is held. -/
structure PageR where
  frame : Int
  perm : Int
  state : Int
  mark : Int
deriving DecidableEq

def encP (p : PageR) : Value := .agg #[.int .i64 p.frame, .int .i64 p.perm, .int .i64 p.state, .int .u64 p.mark]

abbrev PgF := Int → Option PageR

def tabP (f : PgF) : Int → Option Value := fun k => (f k).map encP

def putP (f : PgF) (k : Int) (p : PageR) : PgF := fun x => if x = k then some p else f x

def delP (f : PgF) (k : Int) : PgF := fun x => if x = k then none else f x

theorem tabP_put (f : PgF) (k : Int) (p : PageR) : putT (tabP f) k (encP p) = tabP (putP f k p) := by
  funext x; unfold putT tabP putP; by_cases e : x = k <;> simp [e]

theorem tabP_del (f : PgF) (k : Int) : delT (tabP f) k = tabP (delP f k) := by
  funext x; unfold delT tabP delP; by_cases e : x = k <;> simp [e]

theorem keyH : Keyed Try.prog 3 := int_keyed Try.underlying3

theorem zeroP (w : World) : (zeroValue 46).run Try.prog w = .ok (encP ⟨0, 0, 0, 0⟩) w := by kernel_rfl

/-- A hold is at B: its row of maps at g, so many parts, their maps' blocks bs, what they say fs; at most n stores each. -/
structure HoldAt (w : World) (B g cap m n : Nat) (bs : Nat → Nat) (fs : Nat → PgF) : Prop where
  cell : w.cell? ⟨B, 0, none⟩ = some (.slice (some ⟨g, 0, none⟩) m cap)
  maps : ∀ i, i < m → w.cell? ⟨g, i, none⟩ = some (.map (some (bs i)))
  tabs : ∀ i, i < m → TabAt w .i64 3 (bs i) n (tabP (fs i))
  apart : ∀ i j, i < m → j < m → bs i = bs j → i = j
  neB : ∀ i, i < m → bs i ≠ B ∧ bs i ≠ g
  lt : B < w.heap.size ∧ g < w.heap.size
  rng : ∀ i, i < m → ∀ k r, fs i k = some r → 0 ≤ k ∧ k < 3840
  wf : ∀ i, i < m → ∀ k r, fs i k = some r → (Lit.int .i64 r.frame).wf = true ∧ (Lit.int .i64 r.perm).wf = true ∧ (Lit.int .i64 r.state).wf = true ∧ (Lit.int .u64 r.mark).wf = true

theorem HoldAt.kept {w w' : World} {B g cap m n : Nat} {bs : Nat → Nat} {fs : Nat → PgF} {l : List Nat} (h : HoldAt w B g cap m n bs fs) (hg : GrowBut w w' l) (h1 : B ∉ l) (h2 : g ∉ l) (h3 : ∀ i, i < m → bs i ∉ l) : HoldAt w' B g cap m n bs fs :=
  ⟨hg.cell h.cell h1, fun i hi => hg.cell (h.maps i hi) h2, fun i hi => (h.tabs i hi).kept hg (h3 i hi), h.apart, h.neB, ⟨Nat.lt_of_lt_of_le h.lt.1 hg.size, Nat.lt_of_lt_of_le h.lt.2 hg.size⟩, h.rng, h.wf⟩

/-- What is said of one part turns. -/
def setF (fs : Nat → PgF) (i : Nat) (f : PgF) : Nat → PgF := fun j => if j = i then f else fs j

theorem setF_same (fs : Nat → PgF) (i : Nat) (f : PgF) : setF fs i f i = f := by simp [setF]

theorem setF_self (fs : Nat → PgF) (i : Nat) : setF fs i (fs i) = fs := by
  funext j; unfold setF; by_cases e : j = i <;> simp [e]

theorem HoldAt.turned {w w' : World} {B g cap m n n' : Nat} {bs : Nat → Nat} {fs : Nat → PgF} (h : HoldAt w B g cap m n bs fs) (i : Nat) (hi : i < m) (hg : GrowBut w w' [bs i]) {f : PgF} (ht : TabAt w' .i64 3 (bs i) n' (tabP f)) (hn : n ≤ n')
    (hr : ∀ k r, f k = some r → 0 ≤ k ∧ k < 3840) (hw : ∀ k r, f k = some r → (Lit.int .i64 r.frame).wf = true ∧ (Lit.int .i64 r.perm).wf = true ∧ (Lit.int .i64 r.state).wf = true ∧ (Lit.int .u64 r.mark).wf = true) : HoldAt w' B g cap m n' bs (setF fs i f) := by
  have hne := h.neB i hi
  refine ⟨hg.cell h.cell (by simp; omega), fun j hj => hg.cell (h.maps j hj) (by simp; omega), fun j hj => ?_, h.apart, h.neB, ⟨Nat.lt_of_lt_of_le h.lt.1 hg.size, Nat.lt_of_lt_of_le h.lt.2 hg.size⟩, fun j hj => ?_, fun j hj => ?_⟩
  · unfold setF
    by_cases e : j = i
    · subst e; simpa using ht
    · simp only [e, if_false]
      exact ((h.tabs j hj).kept hg (by simp; exact fun e' => e (h.apart j i hj hi e'))).mono hn
  · unfold setF
    by_cases e : j = i
    · subst e; simpa using hr
    · simp only [e, if_false]; exact h.rng j hj
  · unfold setF
    by_cases e : j = i
    · subst e; simpa using hw
    · simp only [e, if_false]; exact h.wf j hj

set_option maxRecDepth 100000 in
set_option maxHeartbeats 2000000 in
theorem of_in (B g cap m n : Nat) (bs : Nat → Nat) (fs : Nat → PgF) (i : Nat) (w : World) (h : HoldAt w B g cap m n bs fs) (hi : i < m) (hm : m ≤ 1000) :
    Calls Try.prog 80 #[.pointer (some ⟨B, 0, none⟩), .int .i64 i] w fun e w' => e = .returned (.map (some (bs i))) ∧ w' = w := by
  have hc := h.cell
  have hm' := h.maps i hi
  have h0 : ¬ (i : Int) < 0 := by omega
  have h1 : ¬ (m : Int) ≤ (i : Int) := by omega
  go_enter Try.func80, Try.ntmps80
  go_wp2_with go_in
  go_ret
  exact ⟨rfl, rfl⟩

set_option maxRecDepth 100000 in
set_option maxHeartbeats 2000000 in
theorem of_out (B g cap m n : Nat) (bs : Nat → Nat) (fs : Nat → PgF) (i : Int) (w : World) (h : HoldAt w B g cap m n bs fs) (hi : ¬ (0 ≤ i ∧ i < m)) (hm : m ≤ 1000) :
    Calls Try.prog 80 #[.pointer (some ⟨B, 0, none⟩), .int .i64 i] w fun e w' => e = .returned (.map none) ∧ w' = w := by
  have hc := h.cell
  by_cases h0 : i < 0
  · go_enter Try.func80, Try.ntmps80
    go_wp2_with go_in
    go_ret
    exact ⟨rfl, rfl⟩
  · have h1 : (m : Int) ≤ i := by omega
    go_enter Try.func80, Try.ntmps80
    go_wp2_with go_in
    go_ret
    exact ⟨rfl, rfl⟩

theorem tab_val (f : PgF) (k : Int) : ((tabP f k).getD (encP ⟨0, 0, 0, 0⟩)) = encP ((f k).getD ⟨0, 0, 0, 0⟩) ∧ (tabP f k).isSome = (f k).isSome := by
  unfold tabP; cases f k <;> simp

set_option maxRecDepth 100000 in
set_option maxHeartbeats 2000000 in
theorem eqMap (b : Nat) (w : World) : (binOp .eql 119 (.map (some b)) (.map none)).run Try.prog w = .ok (.bool false) w := by kernel_rfl

set_option maxRecDepth 100000 in
set_option maxHeartbeats 2000000 in
theorem get_in (B g cap m n : Nat) (bs : Nat → Nat) (fs : Nat → PgF) (i : Nat) (k : Int) (w : World) (h : HoldAt w B g cap m n bs fs) (hi : i < m) (hm : m ≤ 1000) (hk : (Lit.int .i64 k).wf = true) :
    Calls Try.prog 31 #[.pointer (some ⟨B, 0, none⟩), .int .i64 i, .int .i64 k] w fun e w' => e = .returned (.tuple #[encP ((fs i k).getD ⟨0, 0, 0, 0⟩), .bool (fs i k).isSome]) ∧ GrowBut w w' [] := by
  have hG := GrowBut.alloc w (.cells #[.int .i64 0, .int .i64 0, .int .i64 0, .int .u64 0] 46) []
  have h1 := h.kept hG (by simp) (by simp) (by simp)
  have hO := of_in B g cap m n bs fs i _ h1 hi hm
  have hL := (h1.tabs i hi).look_ok (t := 119) (e := 46) keyH Try.underlying3 Try.underlying119 (zeroP _) hk
  rw [(tab_val _ _).1, (tab_val _ _).2] at hL
  generalize (fs i k).getD ⟨0, 0, 0, 0⟩ = r at hL ⊢
  generalize (fs i k).isSome = b at hL ⊢
  unfold encP at hL ⊢
  clear hG
  go_enter Try.func31, Try.ntmps31
  go_wp2_with (first
    | (go_at_call 80; refine hO.mono ?_; rintro e w1 ⟨rfl, hw1⟩; rw [hw1]; clear hw1 w1)
    | go_in)
  refine bodyPost_ret_by (v := .tuple #[.agg #[.int .i64 r.frame, .int .i64 r.perm, .int .i64 r.state, .int .u64 r.mark], .bool b]) ?_ rfl ?_
  · simp only [results, Try.f31]; go_simp
  · exact ⟨rfl, (GrowBut.alloc _ _ _).trans (GrowBut.alloc _ _ _)⟩

set_option maxRecDepth 100000 in
set_option maxHeartbeats 2000000 in
theorem get_out (B g cap m n : Nat) (bs : Nat → Nat) (fs : Nat → PgF) (i : Int) (k : Int) (w : World) (h : HoldAt w B g cap m n bs fs) (hi : ¬ (0 ≤ i ∧ i < m)) (hm : m ≤ 1000) (hk : (Lit.int .i64 k).wf = true) :
    Calls Try.prog 31 #[.pointer (some ⟨B, 0, none⟩), .int .i64 i, .int .i64 k] w fun e w' => e = .returned (.tuple #[encP ⟨0, 0, 0, 0⟩, .bool false]) ∧ GrowBut w w' [] := by
  have hG := GrowBut.alloc w (.cells #[.int .i64 0, .int .i64 0, .int .i64 0, .int .u64 0] 46) []
  have h1 := h.kept hG (by simp) (by simp) (by simp)
  have hO := of_out B g cap m n bs fs i _ h1 hi hm
  have hN := Maps.look_nil (P := Try.prog) (t := 119) true keyH Try.underlying119 (zeroP (w.alloc (.cells #[.int .i64 0, .int .i64 0, .int .i64 0, .int .u64 0] 46))) (keyOf_int_mk Try.underlying3 hk)
  rw [if_pos rfl] at hN
  unfold encP at hN ⊢
  clear hG
  go_enter Try.func31, Try.ntmps31
  go_wp2_with (first
    | (go_at_call 80; refine hO.mono ?_; rintro e w1 ⟨rfl, hw1⟩; rw [hw1]; clear hw1 w1)
    | go_in)
  refine bodyPost_ret_by (v := .tuple #[.agg #[.int .i64 0, .int .i64 0, .int .i64 0, .int .u64 0], .bool false]) ?_ rfl ?_
  · simp only [results, Try.f31]; go_simp
  · exact ⟨rfl, (GrowBut.alloc _ _ _).trans (GrowBut.alloc _ _ _)⟩

theorem cell_lt {w : World} {a : Addr} {v : Value} (h : w.cell? a = some v) : a.block < w.heap.size := by
  by_cases h2 : a.block < w.heap.size
  · exact h2
  · exfalso
    have h3 : w.heap[a.block]? = none := Array.getElem?_eq_none (by omega)
    simp [World.cell?, h3] at h

/-- Pages that come in. -/
def RowIn (w : World) (b off : Nat) (zs : List Int) : Prop := ∀ j, j < zs.length → w.cell? ⟨b, off + j, none⟩ = some (.int .i64 (zs.getD j 0)) ∧ (Lit.int .i64 (zs.getD j 0)).wf = true

/-- The pages seen so far. -/
def seenT (l : List Int) : Int → Option Value := fun k => if k ∈ l then some (.bool true) else none

theorem seenT_snoc (l : List Int) (x : Int) : putT (seenT l) x (.bool true) = seenT (l ++ [x]) := by
  funext k; unfold putT seenT; by_cases e : k = x <;> simp [e]

theorem fieldS (a b c d : Int) (w : World) : (Instr.field 46 (.agg #[.int .i64 a, .int .i64 b, .int .i64 c, .int .u64 d]) 2).run Try.prog w = .ok (.int .i64 c) w := by kernel_rfl

theorem boolZ (w : World) : (zeroValue 4).run Try.prog w = .ok (.bool false) w := by kernel_rfl

/-- Pages let. -/
def giveF (f : PgF) (l : List Int) (st mk : Int) : PgF := fun k => if k ∈ l then (f k).map (fun r => ⟨r.frame, r.perm, st, mk⟩) else f k

theorem giveF_snoc {f : PgF} {l : List Int} {st mk x : Int} {r : PageR} (h : f x = some r) : putP (giveF f l st mk) x ⟨r.frame, r.perm, st, mk⟩ = giveF f (l ++ [x]) st mk := by
  funext k; unfold putP giveF
  by_cases e : k = x
  · subst e; simp [h]
  · simp [e]

theorem stw {kind st : Int} (h : (kind = 1 ∧ st = 2) ∨ (kind ≠ 1 ∧ st = 3)) : (Lit.int .i64 st).wf = true := by
  rcases h with ⟨_, rfl⟩ | ⟨_, rfl⟩ <;> decide

/-- A whole number in a value. -/
def intN : Value → Nat
  | .int _ k => k.toNat
  | _ => 0

theorem take_snoc {l : List Int} {j : Nat} (h : j < l.length) : l.take (j + 1) = l.take j ++ [l.getD j 0] := by
  rw [List.take_add_one, List.getElem?_eq_getElem h, List.getD_eq_getElem?_getD, List.getElem?_eq_getElem h]; rfl

theorem getD_mem {l : List Int} {j : Nat} (h : j < l.length) : l.getD j 0 ∈ l := by
  rw [List.getD_eq_getElem?_getD, List.getElem?_eq_getElem h]; simp

theorem not_mem_take {l : List Int} (hn : l.Nodup) {j : Nat} (h : j < l.length) : l.getD j 0 ∉ l.take j := by
  intro hm
  have h1 : (l.take (j + 1)).Nodup := hn.sublist (List.take_sublist _ _)
  rw [take_snoc h] at h1
  exact (List.nodup_append.1 h1).2.2 _ hm _ (by simp) rfl

set_option maxRecDepth 100000 in
set_option maxHeartbeats 4000000 in
theorem give_ok (B g cap m n : Nat) (bs : Nat → Nat) (fs : Nat → PgF) (i : Nat) (b off c : Nat) (zs : List Int) (kind mark : Int) (w : World) (h : HoldAt w B g cap m n bs fs) (hi : i < m) (hm : m ≤ 1000) (hn : n ≤ 100000) (hz : RowIn w b off zs) (hl : zs.length ≤ 100) (h0 : 0 < zs.length)
    (hkind : 1 ≤ kind ∧ kind ≤ 3) (st : Int) (hst : (kind = 1 ∧ st = 2) ∨ (kind ≠ 1 ∧ st = 3)) (hmark : (Lit.int .u64 mark).wf = true) (hnb : ∀ i, i < m → bs i ≠ b) (hown : ∀ x ∈ zs, ∃ r, fs i x = some r ∧ r.state = 1) (hnd : zs.Nodup) :
    Calls Try.prog 24 #[.pointer (some ⟨B, 0, none⟩), .int .i64 i, .slice (some ⟨b, off, none⟩) zs.length c, .int .i64 kind, .int .u64 mark] w fun e w' => e = .returned (.int .i64 0) ∧ HoldAt w' B g cap m (n + zs.length) bs (setF fs i (giveF (fs i) zs st mark)) ∧ GrowBut w w' [bs i] := by
  have hO := of_in B g cap m n bs fs i w h hi hm
  have hk1 : decide (kind < 1) = false := decide_eq_false (by omega)
  have hk3 : decide (3 < kind) = false := decide_eq_false (by omega)
  have hl0 : ((zs.length : Int) == 0) = false := by rw [beq_eq_false_iff_ne]; omega
  have hmm := @run_makeMap Try.prog
  have heq := eqMap (bs i)
  go_enter Try.func24, Try.ntmps24
  go_wp2_with (first
    | (go_at_call 80; refine hO.mono ?_; rintro e w1 ⟨rfl, hw1⟩; rw [hw1]; clear hw1 w1)
    | go_in)
  clear hmm heq hO
  have hT0 := (h.tabs i hi)
  have hS0 := TabAt.made w .i64 3
  have hG0 := GrowBut.alloc w (.map #[] 0) []
  have hT1 := hT0.kept hG0 (by simp)
  have hbl := hT0.blt
  generalize hSw : w.alloc (.map #[] 0) = w1 at hS0 hG0 hT1 ⊢
  have hsw1 : w.heap.size < w1.heap.size := by rw [← hSw]; simp
  generalize hS : w.heap.size = S at hS0 hbl hsw1 ⊢
  have hSe : (fun _ => none) = seenT (zs.take 0) := by funext k; simp [seenT]
  rw [hSe] at hS0
  go_loopw [39] (fun v39 wx => ∃ j : Nat, v39 = .int .i64 j ∧ j ≤ zs.length ∧ TabAt wx .i64 3 S j (seenT (zs.take j)) ∧ GrowBut w1 wx [S]) (fun v39 _ => zs.length - intN v39)
  case atStart => exact ⟨0, rfl, by omega, hS0, .refl _ _⟩
  case round =>
    obtain ⟨j, rfl, hj, hSj, hG⟩ := hrel
    by_cases hlt : j < zs.length
    · have hlt' : (j : Int) < (zs.length : Int) := by omega
      have hzj := hz j hlt
      have hbS : ¬ b = S := by have := cell_lt hzj.1; simp only at this; omega
      have c0 := hG.cell (hG0.cell hzj.1 (by simp)) (by simpa using hbS)
      have hTj := hT1.kept hG (by simp; omega)
      obtain ⟨r, hr, hrs⟩ := hown _ (getD_mem hlt)
      have hlk := hTj.look (t := 119) (e := 46) keyH Try.underlying3 Try.underlying119 (zeroP _) hzj.2
      rw [(tab_val _ _).1, hr] at hlk
      have hls := hSj.look (t := 104) (e := 4) keyH Try.underlying3 Try.underlying104 (boolZ _) hzj.2
      have hnot : (seenT (zs.take j) (zs.getD j 0)).getD (.bool false) = .bool false := by unfold seenT; rw [if_neg (not_mem_take hnd hlt)]; rfl
      rw [hnot] at hls
      have hsn := seenT_snoc (zs.take j) (zs.getD j 0)
      rw [← take_snoc hlt] at hsn
      have hwx := hzj.2
      clear hnot hr hTj hzj
      generalize zs.getD j 0 = x at c0 hlk hls hsn hwx
      obtain ⟨rf, rp, rs, rm⟩ := r
      simp only at hrs
      subst hrs
      simp only [encP, Option.getD_some] at hlk
      have hfd := fieldS rf rp 1 rm
      go_wp2_with (first
        | (at_mapUpdate; refine wpList_putT rfl _ _ _ 104 rfl hSj keyH Try.underlying3 Try.underlying104 (by omega) rfl x (.bool true) rfl rfl hwx ?_; intro w3 hS3 hg3; rw [hsn] at hS3)
        | go_in)
      exact ⟨⟨j + 1, by simp, by omega, hS3, hG.trans hg3⟩, by simp [intN]; omega⟩
    · have hge : ¬ (j : Int) < (zs.length : Int) := by omega
      have hjl : j = zs.length := by omega
      subst hjl
      have hT2 := hT1.kept hG (by simp; omega)
      have hG2 : GrowBut w wr [] := hG0.from hG (fun x hx => .inr (by simp at hx; omega))
      clear hSj hG hT1 hG0 hsw1
      go_wp2_with go_in
      have hTe : tabP (fs i) = tabP (giveF (fs i) (zs.take 0) st mark) := by funext k; simp [giveF, tabP]
      rw [hTe] at hT2
      clear hTe
      go_loopw [58] (fun v58 wx => ∃ j : Nat, v58 = .int .i64 j ∧ j ≤ zs.length ∧ TabAt wx .i64 3 (bs i) (n + j) (tabP (giveF (fs i) (zs.take j) st mark)) ∧ GrowBut w wx [bs i]) (fun v58 _ => zs.length - intN v58)
      case atStart => exact ⟨0, rfl, by omega, hT2, hG2.mono (by simp)⟩
      case round =>
        obtain ⟨j, rfl, hj, hTj, hG⟩ := hrel
        by_cases hlt : j < zs.length
        · have hlt' : (j : Int) < (zs.length : Int) := by omega
          have hzj := hz j hlt
          have hbS : ¬ b = bs i := fun e => hnb i hi e.symm
          have c0 := hG.cell hzj.1 (by simpa using hbS)
          obtain ⟨r, hr, hrs⟩ := hown _ (getD_mem hlt)
          have hwx := hzj.2
          have hlk := hTj.look (t := 119) (e := 46) keyH Try.underlying3 Try.underlying119 (zeroP _) hwx
          have hgv : giveF (fs i) (zs.take j) st mark (zs.getD j 0) = some r := by unfold giveF; rw [if_neg (not_mem_take hnd hlt), hr]
          rw [(tab_val _ _).1, hgv] at hlk
          have hsn := tabP_put (giveF (fs i) (zs.take j) st mark) (zs.getD j 0) ⟨r.frame, r.perm, st, mark⟩
          rw [giveF_snoc hr, ← take_snoc hlt] at hsn
          clear hgv hr hzj
          generalize zs.getD j 0 = x at c0 hlk hsn hwx
          obtain ⟨rf, rp, rs, rm⟩ := r
          simp only [encP, Option.getD_some] at hlk hsn
          rcases hst with ⟨hki, rfl⟩ | ⟨hki, rfl⟩
          · have hkb : (kind == 1) = true := by rw [hki]; rfl
            clear hki
            go_wp2_with (first
              | (at_mapUpdate; go_loud (refine wpList_putT rfl _ _ _ 119 rfl (hTj.kept (GrowBut.alloc _ _ []) (by simp)) keyH Try.underlying3 Try.underlying119 (by omega) rfl x (.agg #[.int .i64 rf, .int .i64 rp, .int .i64 2, .int .u64 mark]) rfl rfl hwx ?_; intro w3 hT3 hg3; rw [hsn] at hT3))
              | go_in)
            exact ⟨⟨j + 1, by simp, by omega, hT3, hG.trans ((GrowBut.alloc _ _ _).trans hg3)⟩, by simp [intN]; omega⟩
          · have hkb : (kind == 1) = false := by rw [beq_eq_false_iff_ne]; exact hki
            clear hki
            go_wp2_with (first
              | (at_mapUpdate; go_loud (refine wpList_putT rfl _ _ _ 119 rfl (hTj.kept (GrowBut.alloc _ _ []) (by simp)) keyH Try.underlying3 Try.underlying119 (by omega) rfl x (.agg #[.int .i64 rf, .int .i64 rp, .int .i64 3, .int .u64 mark]) rfl rfl hwx ?_; intro w3 hT3 hg3; rw [hsn] at hT3))
              | go_in)
            exact ⟨⟨j + 1, by simp, by omega, hT3, hG.trans ((GrowBut.alloc _ _ _).trans hg3)⟩, by simp [intN]; omega⟩
        · have hge : ¬ (j : Int) < (zs.length : Int) := by omega
          have hjl : j = zs.length := by omega
          subst hjl
          rw [List.take_length] at hTj
          go_wp2_with go_in
          go_ret
          refine ⟨rfl, h.turned i hi hG hTj (by omega) (fun k r hk => ?_) (fun k r hk => ?_), hG⟩
          · unfold giveF at hk
            split at hk
            · obtain ⟨r', hr', rfl⟩ := Option.map_eq_some_iff.1 hk
              exact h.rng i hi k r' hr'
            · exact h.rng i hi k r hk
          · unfold giveF at hk
            split at hk
            · obtain ⟨r', hr', rfl⟩ := Option.map_eq_some_iff.1 hk
              have hw' := h.wf i hi k r' hr'
              exact ⟨hw'.1, hw'.2.1, stw hst, hmark⟩
            · exact h.wf i hi k r hk


set_option maxRecDepth 100000 in
set_option maxHeartbeats 4000000 in
theorem give_denied (B g cap m n : Nat) (bs : Nat → Nat) (fs : Nat → PgF) (i : Nat) (b off c : Nat) (zs : List Int) (kind mark : Int) (w : World) (h : HoldAt w B g cap m n bs fs) (hi : i < m) (hm : m ≤ 1000) (hn : n ≤ 100000) (hz : RowIn w b off zs) (hl : zs.length ≤ 100)
    (hkind : 1 ≤ kind ∧ kind ≤ 3) (hnb : ∀ i, i < m → bs i ≠ b) (j0 : Nat) (hj0 : j0 < zs.length) (hgood : ∀ j, j < j0 → (∃ r, fs i (zs.getD j 0) = some r ∧ r.state = 1) ∧ zs.getD j 0 ∉ zs.take j)
    (hbad : ((fs i (zs.getD j0 0)).getD ⟨0, 0, 0, 0⟩).state ≠ 1 ∨ zs.getD j0 0 ∈ zs.take j0) :
    Calls Try.prog 24 #[.pointer (some ⟨B, 0, none⟩), .int .i64 i, .slice (some ⟨b, off, none⟩) zs.length c, .int .i64 kind, .int .u64 mark] w fun e w' => e = .returned (.int .i64 (-6)) ∧ GrowBut w w' [] := by
  have hO := of_in B g cap m n bs fs i w h hi hm
  have hk1 : decide (kind < 1) = false := decide_eq_false (by omega)
  have hk3 : decide (3 < kind) = false := decide_eq_false (by omega)
  have hl0 : ((zs.length : Int) == 0) = false := by rw [beq_eq_false_iff_ne]; omega
  have hmm := @run_makeMap Try.prog
  have heq := eqMap (bs i)
  go_enter Try.func24, Try.ntmps24
  go_wp2_with (first
    | (go_at_call 80; refine hO.mono ?_; rintro e w1 ⟨rfl, hw1⟩; rw [hw1]; clear hw1 w1)
    | go_in)
  clear hmm heq hO
  have hT0 := (h.tabs i hi)
  have hS0 := TabAt.made w .i64 3
  have hG0 := GrowBut.alloc w (.map #[] 0) []
  have hT1 := hT0.kept hG0 (by simp)
  have hbl := hT0.blt
  generalize hSw : w.alloc (.map #[] 0) = w1 at hS0 hG0 hT1 ⊢
  have hsw1 : w.heap.size < w1.heap.size := by rw [← hSw]; simp
  generalize hS : w.heap.size = S at hS0 hbl hsw1 ⊢
  have hSe : (fun _ => none) = seenT (zs.take 0) := by funext k; simp [seenT]
  rw [hSe] at hS0
  go_loopw [39] (fun v39 wx => ∃ j : Nat, v39 = .int .i64 j ∧ j ≤ j0 ∧ TabAt wx .i64 3 S j (seenT (zs.take j)) ∧ GrowBut w1 wx [S]) (fun v39 _ => j0 - intN v39)
  case atStart => exact ⟨0, rfl, by omega, hS0, .refl _ _⟩
  case round =>
    obtain ⟨j, rfl, hj, hSj, hG⟩ := hrel
    have hlt : j < zs.length := by omega
    have hlt' : (j : Int) < (zs.length : Int) := by omega
    have hzj := hz j hlt
    have hbS : ¬ b = S := by have := cell_lt hzj.1; simp only at this; omega
    have c0 := hG.cell (hG0.cell hzj.1 (by simp)) (by simpa using hbS)
    have hTj := hT1.kept hG (by simp; omega)
    have hlk := hTj.look (t := 119) (e := 46) keyH Try.underlying3 Try.underlying119 (zeroP _) hzj.2
    rw [(tab_val _ _).1] at hlk
    have hls := hSj.look (t := 104) (e := 4) keyH Try.underlying3 Try.underlying104 (boolZ _) hzj.2
    have hwx := hzj.2
    have hnb' : S ∉ ([] : List Nat) := by simp
    have hGw : GrowBut w wr [] := hG0.from hG (fun x hx => .inr (by simp at hx; omega))
    by_cases hjj : j < j0
    · obtain ⟨⟨r, hr, hrs⟩, hnt⟩ := hgood j hjj
      rw [hr] at hlk
      have hnot : (seenT (zs.take j) (zs.getD j 0)).getD (.bool false) = .bool false := by unfold seenT; rw [if_neg hnt]; rfl
      rw [hnot] at hls
      have hsn := seenT_snoc (zs.take j) (zs.getD j 0)
      rw [← take_snoc hlt] at hsn
      clear hnot hr hTj hzj hgood hbad hnt
      generalize zs.getD j 0 = x at c0 hlk hls hsn hwx
      obtain ⟨rf, rp, rs, rm⟩ := r
      simp only at hrs
      subst hrs
      simp only [encP, Option.getD_some] at hlk
      have hfd := fieldS rf rp 1 rm
      go_wp2_with (first
        | (at_mapUpdate; refine wpList_putT rfl _ _ _ 104 rfl hSj keyH Try.underlying3 Try.underlying104 (by omega) rfl x (.bool true) rfl rfl hwx ?_; intro w3 hS3 hg3; rw [hsn] at hS3)
        | go_in)
      exact ⟨⟨j + 1, by simp, by omega, hS3, hG.trans hg3⟩, by simp [intN]; omega⟩
    · obtain rfl : j = j0 := by omega
      clear hgood
      generalize (fs i (zs.getD j 0)).getD ⟨0, 0, 0, 0⟩ = r at hlk hbad
      obtain ⟨rf, rp, rs, rm⟩ := r
      simp only [encP] at hlk hbad
      have hfd := fieldS rf rp rs rm
      by_cases hrs : rs = 1
      · subst hrs
        have hin := hbad.resolve_left (by simp)
        have hyes : (seenT (zs.take j) (zs.getD j 0)).getD (.bool false) = .bool true := by unfold seenT; rw [if_pos hin]; rfl
        rw [hyes] at hls
        clear hbad hin hyes hzj
        generalize zs.getD j 0 = x at c0 hlk hls hwx
        go_wp2_with go_in
        go_ret
        exact ⟨rfl, hGw⟩
      · have hrb : (rs == 1) = false := by rw [beq_eq_false_iff_ne]; exact hrs
        clear hbad hzj hls
        generalize zs.getD j 0 = x at c0 hlk hwx
        go_wp2_with go_in
        go_ret
        exact ⟨rfl, hGw⟩

set_option maxRecDepth 100000 in
set_option maxHeartbeats 4000000 in
theorem give_none (B g cap m n : Nat) (bs : Nat → Nat) (fs : Nat → PgF) (i : Nat) (s : Option Addr) (c : Nat) (kind mark : Int) (w : World) (h : HoldAt w B g cap m n bs fs) (hi : i < m) (hm : m ≤ 1000) (hkind : 1 ≤ kind ∧ kind ≤ 3) :
    Calls Try.prog 24 #[.pointer (some ⟨B, 0, none⟩), .int .i64 i, .slice s 0 c, .int .i64 kind, .int .u64 mark] w fun e w' => e = .returned (.int .i64 (-2)) ∧ GrowBut w w' [] := by
  have hO := of_in B g cap m n bs fs i w h hi hm
  have hk1 : decide (kind < 1) = false := decide_eq_false (by omega)
  have hk3 : decide (3 < kind) = false := decide_eq_false (by omega)
  have heq := eqMap (bs i)
  go_enter Try.func24, Try.ntmps24
  go_wp2_with (first
    | (go_at_call 80; refine hO.mono ?_; rintro e w1 ⟨rfl, hw1⟩; rw [hw1]; clear hw1 w1)
    | go_in)
  go_ret
  exact ⟨rfl, .refl _ _⟩

end Go.Proofs.Ytonbcchdaboigaa
