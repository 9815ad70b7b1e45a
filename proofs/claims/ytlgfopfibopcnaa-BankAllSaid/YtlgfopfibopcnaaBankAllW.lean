/-
  BankAll: the walk.
-/
import Derived.Test.YtlgfopfibopcnaaBankN
import Derived.Test.YtlgfopfibopcnaaBankB
import Derived.Test.YtlgfopfibopcnaaRecs11
import Derived.Deep.Cut
import Derived.Deep.RegionWith
import Derived.BigQuiet
import Derived.BigRegion
namespace Go.Proofs.Ytlgfopfibopcnaa
open Go Go.RowKit Go.Maps Go.Am Go.Lib
set_option linter.unusedVariables false

/-- The bank and the reference's bank hold the same. -/
structure TwoAt (w : World) (lo B b R N i : Nat) (nb nr : Nat) (m : Option Nat) (D E : DataW Value) : Prop where
  bank : BankAt w B b nb D
  ref : RefAt w R m nr E
  like : Like D E
  few : nb ≤ i ∧ nr ≤ i
  low : lo ≤ B ∧ lo ≤ b ∧ lo ≤ R ∧ B < N ∧ b < N ∧ R < N
  ne : R ≠ B ∧ R ≠ b
  top : ∀ k, m = some k → N ≤ k
  size : N ≤ w.heap.size

theorem TwoAt.kept {w w' : World} {lo B b R N i nb nr : Nat} {m : Option Nat} {D E : DataW Value} (h : TwoAt w lo B b R N i nb nr m D E) (hg : GrowBut w w' []) : TwoAt w' lo B b R N i nb nr m D E :=
  ⟨h.bank.kept hg.keepAll (by simp) (by simp), h.ref.kept hg (by simp) (fun b _ => by simp), h.like, h.few, h.low, h.ne, h.top, Nat.le_trans h.size hg.size⟩

/-- What is asked of a piece of code that ends in its text's order. -/
def onlyN (Q : Act → World → Prop) : Exit → Act → World → Prop
  | .normal, a, w => Q a w
  | _, _, _ => False

/-- A piece of code that ends in one act, whatever the order: what follows is walked once. -/
theorem wp_via {P : Program} {c : Code} {K : Exit → Act → World → Prop} {a : Act} {w : World} (F : World → Prop) (f : Act → Act) (reg : ∀ Q : Act → World → Prop, (∀ w', F w' → Q (f a) w') → c.wp P (onlyN Q) a w) (cont : ∀ w', F w' → K .normal (f a) w') : c.wp P K a w :=
  Code.wp_mono (fun e a' w' h => by
    cases e with
    | normal => exact h
    | _ => exact h.elim) (reg (K .normal) cont)

/-- Reading the reference's map, there or not. -/
theorem RefAt.look {w : World} {R n : Nat} {m : Option Nat} {E : DataW Value} (h : RefAt w R m n E) {k : Int} (hk : (Lit.int .i64 k).wf = true) :
    ∃ y0 y1 y2 y3 y4 y5 y6 y7 : Int, (Instr.lookup 44 (.map m) (.int .i64 k) true).run Try.prog w = .ok (.tuple #[.agg #[.int .u64 y0, .int .u64 y1, .int .u64 y2, .int .u64 y3, .int .u64 y4, .int .u64 y5, .int .u64 y6, .int .u64 y7], .bool (Maps.has E (kI k))]) w ∧
      E.atKey (kI k) (.held zeroRegs) = .held (.agg #[.int .u64 y0, .int .u64 y1, .int .u64 y2, .int .u64 y3, .int .u64 y4, .int .u64 y5, .int .u64 y6, .int .u64 y7]) := by
  have hown := h.own
  cases m with
  | none =>
    obtain rfl : E = .map [] := hown
    refine ⟨0, 0, 0, 0, 0, 0, 0, 0, look_nil true law3B Try.underlying44 (zeroR w) (keyI hk), rfl⟩
  | some b =>
    obtain ⟨v, ps, hr, hv⟩ := hown.2.look_ok law3B Try.underlying44 (zeroR w) (regsR_mk zeroRegs_is) (keyI hk)
    obtain ⟨⟨x0, x1, x2, x3, x4, x5, x6, x7, rfl⟩, hat, _⟩ := regsR_inv hv
    exact ⟨_, _, _, _, _, _, _, _, hr, hat⟩

theorem RefAt.lookAll {w : World} {R n : Nat} {m : Option Nat} {E : DataW Value} (h : RefAt w R m n E) {k : Int} (hk : (Lit.int .i64 k).wf = true) :
    ∃ y0 y1 y2 y3 y4 y5 y6 y7 : Int, E.atKey (kI k) (.held zeroRegs) = .held (.agg #[.int .u64 y0, .int .u64 y1, .int .u64 y2, .int .u64 y3, .int .u64 y4, .int .u64 y5, .int .u64 y6, .int .u64 y7]) ∧
      ∀ w', GrowBut w w' [] → (Instr.lookup 44 (.map m) (.int .i64 k) true).run Try.prog w' = .ok (.tuple #[.agg #[.int .u64 y0, .int .u64 y1, .int .u64 y2, .int .u64 y3, .int .u64 y4, .int .u64 y5, .int .u64 y6, .int .u64 y7], .bool (Maps.has E (kI k))]) w' := by
  obtain ⟨y0, y1, y2, y3, y4, y5, y6, y7, _, hat⟩ := h.look hk
  refine ⟨y0, y1, y2, y3, y4, y5, y6, y7, hat, fun w' hg => ?_⟩
  obtain ⟨z0, z1, z2, z3, z4, z5, z6, z7, hr, hat'⟩ := (h.kept hg (by simp) (fun b _ => by simp)).look hk
  rw [hat] at hat'
  simp only [DataW.held.injEq, Value.agg.injEq, Array.mk.injEq, List.cons.injEq, Value.int.injEq, true_and, and_true] at hat'
  obtain ⟨rfl, rfl, rfl, rfl, rfl, rfl, rfl, rfl⟩ := hat'
  exact hr

/-- Drop: whether there is a map or not. -/
theorem refDropO (R n : Nat) (m : Option Nat) (k : Int) (E : DataW Value) (w : World) (h : RefAt w R m n E) (hk : (Lit.int .i64 k).wf = true) :
    Calls Try.prog 33 #[.pointer (some ⟨R, 0, none⟩), .int .i64 k] w fun e w' => e = .returned (.bool (Maps.has E (kI k))) ∧ RefAt w' R m n (E.del (kI k)) ∧ GrowBut w w' m.toList := by
  cases m with
  | none =>
    refine (refDrop_none R n k E w h hk).mono ?_
    rintro e w' ⟨rfl, hg⟩
    obtain rfl : E = .map [] := h.own
    exact ⟨rfl, h.kept hg (by simp) (fun b hb => by cases hb), hg⟩
  | some b => exact refDrop_some R b n k E w h hk

theorem TwoAt.dropped {w w1 w2 : World} {lo B b R N i nb nr : Nat} {m : Option Nat} {D E : DataW Value} (h : TwoAt w lo B b R N i nb nr m D E) (k : Int) (h1 : BankAt w1 B b nb (D.del (kI k))) (h2 : RefAt w2 R m nr (E.del (kI k))) (hg1 : w.grownBy w1 (some b)) (hg2 : GrowBut w1 w2 m.toList) :
    TwoAt w2 lo B b R N (i + 1) nb nr m (D.del (kI k)) (E.del (kI k)) := by
  have hl := h.low
  refine ⟨⟨hg2.cell h1.ptr ?_, Nat.lt_of_lt_of_le h1.lt hg2.size, h1.ne, hg2.map h1.own ?_⟩, h2, h.like.del k, ⟨by have := h.few; omega, by have := h.few; omega⟩, hl, h.ne, h.top, Nat.le_trans h.size (Nat.le_trans hg1.size hg2.size)⟩
  · cases hm : m with
    | none => simp
    | some q => have := h.top q hm; simp; omega
  · cases hm : m with
    | none => simp
    | some q => have := h.top q hm; simp; omega

/-- Registers in memory. -/
structure BoxAt (w : World) (S : Nat) (x0 x1 x2 x3 x4 x5 x6 x7 : Int) : Prop where
  c0 : w.cell? ⟨S, 0, none⟩ = some (.int .u64 x0)
  c1 : w.cell? ⟨S, 1, none⟩ = some (.int .u64 x1)
  c2 : w.cell? ⟨S, 2, none⟩ = some (.int .u64 x2)
  c3 : w.cell? ⟨S, 3, none⟩ = some (.int .u64 x3)
  c4 : w.cell? ⟨S, 4, none⟩ = some (.int .u64 x4)
  c5 : w.cell? ⟨S, 5, none⟩ = some (.int .u64 x5)
  c6 : w.cell? ⟨S, 6, none⟩ = some (.int .u64 x6)
  c7 : w.cell? ⟨S, 7, none⟩ = some (.int .u64 x7)

theorem BoxAt.kept {w w' : World} {S : Nat} {x0 x1 x2 x3 x4 x5 x6 x7 : Int} {row : Option Nat} (h : BoxAt w S x0 x1 x2 x3 x4 x5 x6 x7) (hg : w.grownBy w' row) (hne : some S ≠ row) : BoxAt w' S x0 x1 x2 x3 x4 x5 x6 x7 :=
  ⟨hg.cell h.c0 hne, hg.cell h.c1 hne, hg.cell h.c2 hne, hg.cell h.c3 hne, hg.cell h.c4 hne, hg.cell h.c5 hne, hg.cell h.c6 hne, hg.cell h.c7 hne⟩

theorem key1 (k : Int) : WideAt.IsKeyLit (kI k) := by trivial

theorem boxAt_new (w : World) (t : TypeId) (x0 x1 x2 x3 x4 x5 x6 x7 : Int) : BoxAt (w.alloc (.cells #[.int .u64 x0, .int .u64 x1, .int .u64 x2, .int .u64 x3, .int .u64 x4, .int .u64 x5, .int .u64 x6, .int .u64 x7] t)) w.heap.size x0 x1 x2 x3 x4 x5 x6 x7 := by
  constructor <;> go_simp

theorem intKeys_nodup {H : Type} {w : World} {b n : Nat} {D : DataW H} {R : Value → Option (DataW H × List MemPlace)} (hown : w.ownsMap Try.prog 3 R b n D) : (intKeys D).Nodup := by
  obtain ⟨es, hD, hpw, _⟩ := hown.entries law3B
  obtain ⟨es', hD', hko⟩ := hown.keysOf
  obtain rfl : es = es' := by rw [hD] at hD'; simpa using hD'
  subst hD
  have hk : ∀ p ∈ es, ∃ x, p.1 = .int .i64 x := fun p hp => by
    obtain ⟨v, hv⟩ := hko p hp
    obtain ⟨x, _, hx, _⟩ := Maps.keyOf_int_inv Try.underlying3 hv
    exact ⟨x, hx⟩
  change List.Nodup (List.map _ es)
  refine List.pairwise_map.2 (hpw.imp_of_mem fun {p q} hp' hq' hne e => hne ?_)
  obtain ⟨a, ha⟩ := hk p hp'
  obtain ⟨b, hb⟩ := hk q hq'
  rw [ha, hb] at e ⊢
  exact congrArg _ e

theorem eqRegs (x0 x1 x2 x3 x4 x5 x6 x7 : Int) (w : World) : (Op.equalIn 10000 48 (regs x0 x1 x2 x3 x4 x5 x6 x7) (regs x0 x1 x2 x3 x4 x5 x6 x7)).run Try.prog w = .ok true w :=
  equalIn_ints 9998 _ Try.underlying48 Try.underlying23 (by kernel_rfl) rfl (fun u hu => by simp at hu; rcases hu with rfl | rfl | rfl | rfl | rfl | rfl | rfl | rfl <;> exact ⟨_, _, rfl⟩) w

theorem sortR_eq {ss L : List Int} (hL : Rises L) (hs : ss.Nodup) (hm : ∀ x, x ∈ ss ↔ x ∈ L) : ss.mergeSort (fun x y => decide (x ≤ y)) = L := by
  have hn : L.Nodup := hL.imp fun {a b} h => by omega
  have hp : ss.Perm L := (List.perm_ext_iff_of_nodup hs hn).2 hm
  refine List.Perm.eq_of_pairwise (le := fun a b => decide (a ≤ b) = true) (fun a b _ _ h1 h2 => ?_) (List.pairwise_mergeSort (fun a b c h1 h2 => by simp at *; omega) (fun a b => by simp; omega) ss) (hL.imp fun {a b} h => by simp; omega) ((List.mergeSort_perm ss _).trans hp)
  simp at h1 h2
  omega

theorem fourB_of (x : Int) : ∃ s : Nat, (wrap64 (x.tmod 4 + 4)).tmod 4 = (s : Int) ∧ s < 4 := by
  have h1 : -4 < x.tmod 4 ∧ x.tmod 4 < 4 := by
    have := Int.tmod_lt_of_pos x (b := 4) (by decide)
    have := Int.lt_tmod_of_pos x (b := 4) (by decide)
    omega
  generalize x.tmod 4 = y at h1
  have : y = -3 ∨ y = -2 ∨ y = -1 ∨ y = 0 ∨ y = 1 ∨ y = 2 ∨ y = 3 := by omega
  rcases this with rfl | rfl | rfl | rfl | rfl | rfl | rfl
  · exact ⟨1, by decide +kernel, by decide⟩
  · exact ⟨2, by decide +kernel, by decide⟩
  · exact ⟨3, by decide +kernel, by decide⟩
  · exact ⟨0, by decide +kernel, by decide⟩
  · exact ⟨1, by decide +kernel, by decide⟩
  · exact ⟨2, by decide +kernel, by decide⟩
  · exact ⟨3, by decide +kernel, by decide⟩

set_option maxRecDepth 100000 in
set_option maxHeartbeats 4000000 in
theorem bankAll_walk (n : Nat) (p : Option Addr) (cap : Nat) (who : Int) (w : World) (hz : ∀ i, i < n → ∃ g off, p = some ⟨g, off, none⟩ ∧ g < w.heap.size ∧ ∃ cs : List Value, Deed11 cs ∧ cs.length = 10 ∧ ∀ j, j < 10 → w.cell? ⟨g, off + i * 10 + j, none⟩ = cs[j]?) (hwho : (Lit.int .i64 who).wf = true) :
    Calls Try.prog 4 #[.slice p n cap, .int .i64 who] w fun e w' => e = .returned (.bool true) ∧ w.grownBy w' none := by
  by_cases h40 : 40 < n
  · have h1 : (40 : Int) < (n : Int) := by omega
    go_enter Try.func4, Try.ntmps4
    go_wp2_with (first
      | (go_at_call 30; refine (begunBank_true _).mono ?_; rintro e w1 ⟨rfl, hb1⟩)
      | go_in)
    go_ret
    exact ⟨rfl, (GrowBut.of_below hb1).keepAll⟩
  have h1 : ¬ (40 : Int) < (n : Int) := by omega
  go_enter Try.func4, Try.ntmps4
  go_wp2_with (first
    | (go_at_call 30; refine (begunBank_true _).mono ?_; rintro e w1 ⟨rfl, hb1⟩)
    | (go_at_call 31; refine (newBank_calls _).mono ?_; rintro e w2 ⟨B, b, rfl, hB, hB1, hb2, hg2⟩)
    | go_in)
  have hw2 : GrowBut w (w2.alloc (.cells #[.map none] 46)) [] := ((GrowBut.of_below hb1).trans (.of_none hg2)).trans (.alloc _ _ _)
  have hs1 := hb1.size
  have hs2 := hg2.size
  have hBl := hB.lt
  have hbl := hB.own.lt
  have hT0 : TwoAt (w2.alloc (.cells #[.map none] 46)) w.heap.size B b w2.heap.size (w2.heap.size + 1) 0 0 0 none (.map []) (.map []) :=
    ⟨hB.kept (World.grownBy_alloc _ _ none) (by simp) (by simp), ⟨by go_simp, by go_simp, by simp, rfl⟩, fun x => ⟨rfl, fun z => rfl⟩, ⟨Nat.le_refl _, Nat.le_refl _⟩, ⟨by omega, by omega, by omega, by omega, by omega, by omega⟩, ⟨by omega, by omega⟩, fun k hk => (by cases hk), by simp⟩
  generalize w2.alloc (.cells #[.map none] 46) = wa at hT0 hw2 ⊢
  generalize hN : w2.heap.size + 1 = N at hT0
  generalize w2.heap.size = R at hT0 hN ⊢
  clear hN hbl hBl hs2 hg2 hb2 hB1 hB
  go_loopw [7] (fun v7 wr => ∃ (i nb nr : Nat) (m : Option Nat) (D E : DataW Value), v7 = .int .i64 i ∧ i ≤ n ∧ TwoAt wr w.heap.size B b R N i nb nr m D E ∧ GrowBut w wr []) (fun v7 _ => n - (match v7 with | .int _ k => k.toNat | _ => 0))
  case atStart => exact ⟨0, 0, 0, none, _, _, rfl, by omega, hT0, hw2⟩
  case round =>
    obtain ⟨i, nb, nr, m, D, E, rfl, hi, hT, hG⟩ := hrel
    by_cases hlt : i < n
    · obtain ⟨ga, off, rfl, hga, cs, ⟨ka, wa', x0, x1, x2, x3, x4, x5, x6, x7, rfl, hka, hwa⟩, _, hcz⟩ := hz i hlt
      have c0 : wr.cell? ⟨ga, off + i * 10, none⟩ = some (.int .i64 ka) := hG.cell (hcz 0 (by decide)) (by simp)
      have c1 : wr.cell? ⟨ga, off + i * 10 + 1, none⟩ = some (.int .i64 wa') := hG.cell (hcz 1 (by decide)) (by simp)
      have c2 : wr.cell? ⟨ga, off + i * 10 + 2, none⟩ = some (.int .u64 x0) := hG.cell (hcz 2 (by decide)) (by simp)
      have c3 : wr.cell? ⟨ga, off + i * 10 + 3, none⟩ = some (.int .u64 x1) := hG.cell (hcz 3 (by decide)) (by simp)
      have c4 : wr.cell? ⟨ga, off + i * 10 + 4, none⟩ = some (.int .u64 x2) := hG.cell (hcz 4 (by decide)) (by simp)
      have c5 : wr.cell? ⟨ga, off + i * 10 + 5, none⟩ = some (.int .u64 x3) := hG.cell (hcz 5 (by decide)) (by simp)
      have c6 : wr.cell? ⟨ga, off + i * 10 + 6, none⟩ = some (.int .u64 x4) := hG.cell (hcz 6 (by decide)) (by simp)
      have c7 : wr.cell? ⟨ga, off + i * 10 + 7, none⟩ = some (.int .u64 x5) := hG.cell (hcz 7 (by decide)) (by simp)
      have c8 : wr.cell? ⟨ga, off + i * 10 + 8, none⟩ = some (.int .u64 x6) := hG.cell (hcz 8 (by decide)) (by simp)
      have c9 : wr.cell? ⟨ga, off + i * 10 + 9, none⟩ = some (.int .u64 x7) := hG.cell (hcz 9 (by decide)) (by simp)
      clear hcz hz
      have hlt' : (i : Int) < (n : Int) := by omega
      obtain ⟨s, hs, hs4⟩ := fourB_of ka
      have hGa := GrowBut.alloc wr (.cells #[.int .i64 ka, .int .i64 wa', .int .u64 x0, .int .u64 x1, .int .u64 x2, .int .u64 x3, .int .u64 x4, .int .u64 x5, .int .u64 x6, .int .u64 x7] 50) []
      have hTa := hT.kept hGa
      by_cases hs3 : s = 3
      · subst hs3
        go_upto_region 11 with go_in
        have hd1 := hTa.bank
        have hlow := hTa.low
        have hsz := hTa.size
        have co : (wr.alloc (.cells #[.int .i64 ka, .int .i64 wa', .int .u64 x0, .int .u64 x1, .int .u64 x2, .int .u64 x3, .int .u64 x4, .int .u64 x5, .int .u64 x6, .int .u64 x7] 50)).cell? ⟨wr.heap.size, 1, none⟩ = some (.int .i64 wa') := by go_simp
        generalize wr.alloc (.cells #[.int .i64 ka, .int .i64 wa', .int .u64 x0, .int .u64 x1, .int .u64 x2, .int .u64 x3, .int .u64 x4, .int .u64 x5, .int .u64 x6, .int .u64 x7] 50) = wx at hGa hTa hd1 hsz co ⊢
        have hws : wr.heap.size ≠ b := by have := hT.size; omega
        have hwm : ∀ q, m = some q → wr.heap.size ≠ q := fun q hq => by
          have h1 := hT.ref.own
          subst hq
          have := h1.2.lt
          omega
        have hTd := hTa.kept (GrowBut.drew wx [])
        have hl1 := (hTa.like wa').1
        refine wp_via (fun w' => ∃ w5, BankAt w5 B b nb (D.del (kI wa')) ∧ wx.drew.grownBy w5 (some b) ∧ RefAt w' R m nr (E.del (kI wa')) ∧ GrowBut w5 w' m.toList ∧ w5.cell? ⟨wr.heap.size, 1, none⟩ = some (.int .i64 wa')) (fun a => ((((((((a.put (some 47) (.pointer (some ⟨B, 0, none⟩))).put (some 48) (.pointer (some ⟨wr.heap.size, 1, none⟩))).put (some 49) (.int .i64 wa')).put (some 50) (.bool (Maps.has E (kI wa')))).put (some 51) (.pointer (some ⟨R, 0, none⟩))).put (some 52) (.pointer (some ⟨wr.heap.size, 1, none⟩))).put (some 53) (.int .i64 wa')).put (some 54) (.bool (Maps.has E (kI wa')))).put (some 55) (.bool false)) ?_ ?_
        · intro Q0 hQ0
          simp only [Act.put, List.setIfInBounds_toArray, List.set_cons_succ, List.set_cons_zero] at hQ0
          go_region_with (first
            | (go_at_call 32; refine (drop_calls B b nb wa' D _ hTd.bank hwa).mono ?_; rintro e w5 ⟨rfl, hB5, hg5⟩; have co5 := hg5.cell co (by simpa using hws))
            | (go_at_call 33; refine (refDropO R nr m wa' E _ (hTd.ref.kept (.of_some hg5) (by have := hTa.ne; simp; omega) (fun q hq => by have := hTa.top q hq; simp; omega)) hwa).mono ?_; rintro e w6 ⟨rfl, hR6, hg6⟩)
            | fail)
          all_goals
            simp only [List.getElem_toArray, List.getElem_cons_succ, List.getElem_cons_zero, Act.put, List.setIfInBounds_toArray, List.set_cons_succ, List.set_cons_zero]
            exact hQ0 _ ⟨w5, hB5, hg5, hR6, hg6, co5⟩
        rintro w6 ⟨w5, hB5, hg5, hR6, hg6, co5⟩
        have hT5 := hTd.dropped wa' hB5 hR6 hg5 hg6
        have hG5 : GrowBut w w6 [] := (hG.trans hGa).from ((GrowBut.drew wx [b]).trans (.of_some hg5) |>.mono (l' := b :: m.toList) (by simp) |>.trans (hg6.mono (fun x hx => List.mem_cons_of_mem _ hx))) (fun x hx => by
          rw [List.mem_cons] at hx
          rcases hx with rfl | hx
          · right; omega
          · cases hm : m with
            | none => rw [hm] at hx; cases hx
            | some q => rw [hm] at hx; simp at hx; have := hTa.top q hm; right; omega)
        have co6 : w6.cell? ⟨wr.heap.size, 1, none⟩ = some (.int .i64 wa') := hg6.cell co5 (by
          cases hm : m with
          | none => simp
          | some q => simpa using hwm q hm)
        clear hB5 hR6 hg5 hg6 hTd hTa hd1 hl1 hT co co5 hGa
        generalize D.del (kI wa') = D5 at hT5
        generalize E.del (kI wa') = E5 at hT5
        obtain ⟨nb5, nr5, m5, hnb, hnr, hm5⟩ : ∃ (nb5 nr5 : Nat) (m5 : Option Nat), nb = nb5 ∧ nr = nr5 ∧ m = m5 := ⟨_, _, _, rfl, rfl, rfl⟩
        rw [hnb, hnr, hm5] at hT5
        simp only [Act.put, List.setIfInBounds_toArray, List.set_cons_succ, List.set_cons_zero]
        obtain ⟨y0, y1, y2, y3, y4, y5, y6, y7, haty, hlookY⟩ := hT5.ref.lookAll hwa
        obtain ⟨t0, t1, t2, t3, t4, t5, t6, t7, hatt, hlookT⟩ := hT5.ref.lookAll hwho
        have hq1 := (hT5.like wa').1
        have hq2 := (hT5.like who).1
        go_upto_region 16 with (first
          | (go_at_call 36; refine (load_calls B b nb5 wa' D5 _ hT5.bank hwa).mono ?_; rintro e w7 ⟨v7, rfl, ⟨z0, z1, z2, z3, z4, z5, z6, z7, rfl⟩, hat7, hg7⟩; have hz7 := hat7.symm.trans (((hT5.like wa').2 _).trans haty); simp only [DataW.held.injEq, Value.agg.injEq, Array.mk.injEq, List.cons.injEq, Value.int.injEq, true_and, and_true] at hz7; obtain ⟨rfl, rfl, rfl, rfl, rfl, rfl, rfl, rfl⟩ := hz7; have hG8 := (GrowBut.of_none (l := []) hg7).trans (GrowBut.alloc w7 (.cells #[.int .u64 z0, .int .u64 z1, .int .u64 z2, .int .u64 z3, .int .u64 z4, .int .u64 z5, .int .u64 z6, .int .u64 z7] 48) []))
          | go_in)
        have hT8 := hT5.kept hG8
        have co8 := hG8.cell co6 (by simp)
        have hk8 : (w7.alloc (.cells #[.int .u64 z0, .int .u64 z1, .int .u64 z2, .int .u64 z3, .int .u64 z4, .int .u64 z5, .int .u64 z6, .int .u64 z7] 48)).cell? ⟨w7.heap.size, 0, none⟩ = some (.int .u64 z0) := by go_simp
        have hx8 := boxAt_new w7 48 z0 z1 z2 z3 z4 z5 z6 z7
        have hs7 : w7.heap.size < (w7.alloc (.cells #[.int .u64 z0, .int .u64 z1, .int .u64 z2, .int .u64 z3, .int .u64 z4, .int .u64 z5, .int .u64 z6, .int .u64 z7] 48)).heap.size := by simp
        generalize hX : w7.heap.size = X at hx8 hs7
        generalize w7.alloc (.cells #[.int .u64 z0, .int .u64 z1, .int .u64 z2, .int .u64 z3, .int .u64 z4, .int .u64 z5, .int .u64 z6, .int .u64 z7] 48) = w8 at hG8 hT8 co8 hx8 hs7 ⊢
        clear hk8
        have hG8a := (hG8.trans (GrowBut.alloc w8 (.cells #[.int .u64 0, .int .u64 0, .int .u64 0, .int .u64 0, .int .u64 0, .int .u64 0, .int .u64 0, .int .u64 0] 48) [])).trans (GrowBut.drew _ [])
        have hl8 := hlookY _ (hG8.trans (GrowBut.drew w8 []))
        have hl8a := hlookY _ hG8a
        have hR8 := (hT5.kept (hG8.trans (GrowBut.drew w8 []))).ref.ptr
        have hR8a := (hT5.kept hG8a).ref.ptr
        have co8d := (hG8.trans (GrowBut.drew w8 [])).cell co6 (by simp)
        have co8a := hG8a.cell co6 (by simp)
        clear hX
        go_region
        have hG9 := (hG8.trans (GrowBut.alloc w8 (.cells #[.int .u64 z0, .int .u64 z1, .int .u64 z2, .int .u64 z3, .int .u64 z4, .int .u64 z5, .int .u64 z6, .int .u64 z7] 48) [])).trans (GrowBut.drew _ [])
        have hT9 := hT5.kept hG9
        have hx9 := hx8.kept (((GrowBut.alloc w8 (.cells #[.int .u64 z0, .int .u64 z1, .int .u64 z2, .int .u64 z3, .int .u64 z4, .int .u64 z5, .int .u64 z6, .int .u64 z7] 48) []).trans (GrowBut.drew _ [])).keepAll) (by simp)
        have hy9 := (boxAt_new w8 48 z0 z1 z2 z3 z4 z5 z6 z7).kept ((GrowBut.drew (w8.alloc (.cells #[.int .u64 z0, .int .u64 z1, .int .u64 z2, .int .u64 z3, .int .u64 z4, .int .u64 z5, .int .u64 z6, .int .u64 z7] 48)) []).keepAll) (by simp)
        have hs9 : w8.heap.size < (w8.alloc (.cells #[.int .u64 z0, .int .u64 z1, .int .u64 z2, .int .u64 z3, .int .u64 z4, .int .u64 z5, .int .u64 z6, .int .u64 z7] 48)).drew.heap.size := by simp
        clear hl8 hl8a hR8 hR8a co8d co8a hG8a hT8 co8 hx8
        generalize (w8.alloc (.cells #[.int .u64 z0, .int .u64 z1, .int .u64 z2, .int .u64 z3, .int .u64 z4, .int .u64 z5, .int .u64 z6, .int .u64 z7] 48)).drew = w9 at hG9 hT9 hx9 hy9 hs9 ⊢
        generalize w8.heap.size = Y at hy9 hs9 hs7 ⊢
        clear hG8
        go_upto_region 18 with (first
          | (go_at_call 36; refine (load_calls B b nb5 who D5 _ hT9.bank hwho).mono ?_; rintro e w10 ⟨v7, rfl, ⟨r0, r1, r2, r3, r4, r5, r6, r7, rfl⟩, hat10, hg10⟩; have hz10 := hat10.symm.trans (((hT5.like who).2 _).trans hatt); simp only [DataW.held.injEq, Value.agg.injEq, Array.mk.injEq, List.cons.injEq, Value.int.injEq, true_and, and_true] at hz10; obtain ⟨rfl, rfl, rfl, rfl, rfl, rfl, rfl, rfl⟩ := hz10; have hG11 := (GrowBut.of_none (l := []) hg10).trans (GrowBut.alloc w10 (.cells #[.int .u64 r0, .int .u64 r1, .int .u64 r2, .int .u64 r3, .int .u64 r4, .int .u64 r5, .int .u64 r6, .int .u64 r7] 48) []))
          | go_in)
        have hG12 := hG9.trans hG11
        have hR11 := (hT5.kept hG12).ref.ptr
        have hl11 := hlookT _ hG12
        have hx11 := hx9.kept hG11.keepAll (by simp)
        have hy11 := hy9.kept hG11.keepAll (by simp)
        have hu11 := boxAt_new w10 48 r0 r1 r2 r3 r4 r5 r6 r7
        have hs11 := hG11.size
        have hs10 : w10.heap.size < (w10.alloc (.cells #[.int .u64 r0, .int .u64 r1, .int .u64 r2, .int .u64 r3, .int .u64 r4, .int .u64 r5, .int .u64 r6, .int .u64 r7] 48)).heap.size := by simp
        generalize w10.alloc (.cells #[.int .u64 r0, .int .u64 r1, .int .u64 r2, .int .u64 r3, .int .u64 r4, .int .u64 r5, .int .u64 r6, .int .u64 r7] 48) = w11 at hG12 hR11 hl11 hx11 hy11 hu11 hs11 hs10 ⊢
        generalize w10.heap.size = Z at hu11 hs10 ⊢
        clear hG11 hx9 hy9 hT9 hG9 hs9
        go_upto_region 19 with go_in
        have hGv := GrowBut.alloc w11 (.cells #[.int .u64 r0, .int .u64 r1, .int .u64 r2, .int .u64 r3, .int .u64 r4, .int .u64 r5, .int .u64 r6, .int .u64 r7] 48) []
        have hT12 := hT5.kept (hG12.trans hGv)
        have hx12 := hx11.kept hGv.keepAll (by simp)
        have hy12 := hy11.kept hGv.keepAll (by simp)
        have hu12 := hu11.kept hGv.keepAll (by simp)
        have hv12 := boxAt_new w11 48 r0 r1 r2 r3 r4 r5 r6 r7
        have hGG := (hG5.trans hG12).trans hGv
        generalize w11.alloc (.cells #[.int .u64 r0, .int .u64 r1, .int .u64 r2, .int .u64 r3, .int .u64 r4, .int .u64 r5, .int .u64 r6, .int .u64 r7] 48) = w12 at hT12 hx12 hy12 hu12 hv12 hGG ⊢
        clear hG12 hGv hx11 hy11 hu11 hR11 hl11
        generalize w11.heap.size = V at hv12 ⊢
        clear hlookY hlookT
        go_upto_region 20 with (first
          | (go_at_call 37; refine (who_calls B b nb5 D5 _ hT12.bank (by have := hT12.few; omega)).mono ?_; rintro e w13 ⟨v13, ss, rfl, hp13, hrow13, hnil13, hg13⟩)
          | (go_at_call 38; refine (refWhoO R nr5 m5 E5 _ (hT12.ref.kept (.of_none hg13) (l := []) (by simp) (fun b _ => by simp)) (by have := hT12.few; omega)).mono ?_; rintro e w14 ⟨v14, L, rfl, hp14, hris14, hrow14, hg14⟩)
          | go_in)
        have hGw := (GrowBut.of_none (l := []) hg13).trans hg14
        have hB14 := hT12.kept hGw
        have hmem : ∀ x, x ∈ ss ↔ x ∈ L := fun x => by rw [hp13.mem_iff, hp14.mem_iff, mem_intKeysR hT12.bank.own x, hT12.ref.mem_keys x, (hT12.like x).1]
        have hLs := sortR_eq hris14 (hp13.nodup_iff.2 (intKeys_nodup hT12.bank.own)) hmem
        have hrow13' := hg14.row hrow13 (fun j _ => by simp)
        have hss : ss.length = L.length := by rw [← hLs, List.length_mergeSort]
        rw [hLs, hss] at hrow13'
        have hLn : L.length ≤ 1000 := by
          have h1 := hp13.length_eq
          have h2 := hT12.bank.own.size_le
          have h3 := hT12.few
          obtain ⟨es, hD, _⟩ := hT12.bank.own.entries law3B
          rw [hD] at h1 h2
          simp [intKeys, Maps.size] at h1 h2
          omega
        have hca := row_cellsR hrow13' rfl
        have hcb := row_cellsR hrow14 rfl
        have hka : ∃ q cq, v13 = .slice q L.length cq := by
          rcases hca with ⟨rfl, h0⟩ | ⟨g, cq, rfl, _⟩
          · exact ⟨none, 0, by rw [h0]⟩
          · exact ⟨_, _, rfl⟩
        have hkb : ∃ q cq, v14 = .slice q L.length cq := by
          rcases hcb with ⟨rfl, h0⟩ | ⟨g, cq, rfl, _⟩
          · exact ⟨none, 0, by rw [h0]⟩
          · exact ⟨_, _, rfl⟩
        obtain ⟨q1, cq1, rfl⟩ := hka
        obtain ⟨q2, cq2, rfl⟩ := hkb
        have hGG14 := hGG.trans hGw
        obtain ⟨e0, e1, e2, e3, e4, e5, e6, e7⟩ := hx12.kept hGw.keepAll (by simp)
        obtain ⟨f0, f1, f2, f3, f4, f5, f6, f7⟩ := hy12.kept hGw.keepAll (by simp)
        obtain ⟨g0, g1, g2, g3, g4, g5, g6, g7⟩ := hu12.kept hGw.keepAll (by simp)
        obtain ⟨i0, i1, i2, i3, i4, i5, i6, i7⟩ := hv12.kept hGw.keepAll (by simp)
        have hqx := eqRegs z0 z1 z2 z3 z4 z5 z6 z7
        have hqy := eqRegs r0 r1 r2 r3 r4 r5 r6 r7
        clear hx12 hy12 hu12 hv12 hrow13 hrow13' hrow14 hp13 hp14 hris14 hLs hmem hnil13 hT12 hG5
        go_wp2_with go_in
        go_loopw [19] (fun v19 wy => ∃ k : Nat, v19 = .int .i64 k ∧ k ≤ L.length ∧ GrowBut w14 wy []) (fun v19 _ => L.length - (match v19 with | .int _ k => k.toNat | _ => 0))
        case atStart => exact ⟨0, rfl, by omega, .refl _ _⟩
        case round =>
          obtain ⟨k, rfl, hk, hgk⟩ := hrel
          by_cases hkl : k < L.length
          · obtain ⟨gq, rfl, hcg⟩ : ∃ g, q1 = some ⟨g, 0, none⟩ ∧ w14.cell? ⟨g, k, none⟩ = some (.int .i64 (L.getD k 0)) := by
              rcases hca with ⟨_, h0⟩ | ⟨g, cap, e, _, _, h3⟩
              · omega
              · cases e; exact ⟨g, rfl, h3 k hkl⟩
            obtain ⟨gp, rfl, hch⟩ : ∃ g, q2 = some ⟨g, 0, none⟩ ∧ w14.cell? ⟨g, k, none⟩ = some (.int .i64 (L.getD k 0)) := by
              rcases hcb with ⟨_, h0⟩ | ⟨g, cap, e, _, _, h3⟩
              · omega
              · cases e; exact ⟨g, rfl, h3 k hkl⟩
            have hc1 := hgk.cell hcg (by simp)
            have hc2 := hgk.cell hch (by simp)
            generalize L.getD k 0 = l0 at hc1 hc2
            have hkl' : (k : Int) < (L.length : Int) := by omega
            have hk1 : (k : Int) ≤ 1000 := by omega
            clear hca hcb hcg hch
            go_wp2_with go_in
            go_quiet (fail)
            go_wp2_with go_in
            exact ⟨⟨k + 1, by simp, by omega, hgk.trans (GrowBut.drewN _ _ _)⟩, by simp; omega⟩
          · have hge : ¬ (k : Int) < (L.length : Int) := by omega
            go_wp2_with go_in
            exact ⟨⟨i + 1, nb5, nr5, m5, D5, E5, by simp, by omega, hB14.kept hgk, hGG14.trans hgk⟩, by simp; omega⟩
      · have hs3' : ¬ (s : Int) = 3 := by omega
        have hd1 := hTa.bank
        have hlow := hTa.low
        have hsz := hTa.size
        have hfew := hTa.few
        have co : (wr.alloc (.cells #[.int .i64 ka, .int .i64 wa', .int .u64 x0, .int .u64 x1, .int .u64 x2, .int .u64 x3, .int .u64 x4, .int .u64 x5, .int .u64 x6, .int .u64 x7] 50)).cell? ⟨wr.heap.size, 1, none⟩ = some (.int .i64 wa') := by go_simp
        have o0 : (wr.alloc (.cells #[.int .i64 ka, .int .i64 wa', .int .u64 x0, .int .u64 x1, .int .u64 x2, .int .u64 x3, .int .u64 x4, .int .u64 x5, .int .u64 x6, .int .u64 x7] 50)).cell? ⟨wr.heap.size, 2, none⟩ = some (.int .u64 x0) := by go_simp
        have o1 : (wr.alloc (.cells #[.int .i64 ka, .int .i64 wa', .int .u64 x0, .int .u64 x1, .int .u64 x2, .int .u64 x3, .int .u64 x4, .int .u64 x5, .int .u64 x6, .int .u64 x7] 50)).cell? ⟨wr.heap.size, 3, none⟩ = some (.int .u64 x1) := by go_simp
        have o2 : (wr.alloc (.cells #[.int .i64 ka, .int .i64 wa', .int .u64 x0, .int .u64 x1, .int .u64 x2, .int .u64 x3, .int .u64 x4, .int .u64 x5, .int .u64 x6, .int .u64 x7] 50)).cell? ⟨wr.heap.size, 4, none⟩ = some (.int .u64 x2) := by go_simp
        have o3 : (wr.alloc (.cells #[.int .i64 ka, .int .i64 wa', .int .u64 x0, .int .u64 x1, .int .u64 x2, .int .u64 x3, .int .u64 x4, .int .u64 x5, .int .u64 x6, .int .u64 x7] 50)).cell? ⟨wr.heap.size, 5, none⟩ = some (.int .u64 x3) := by go_simp
        have o4 : (wr.alloc (.cells #[.int .i64 ka, .int .i64 wa', .int .u64 x0, .int .u64 x1, .int .u64 x2, .int .u64 x3, .int .u64 x4, .int .u64 x5, .int .u64 x6, .int .u64 x7] 50)).cell? ⟨wr.heap.size, 6, none⟩ = some (.int .u64 x4) := by go_simp
        have o5 : (wr.alloc (.cells #[.int .i64 ka, .int .i64 wa', .int .u64 x0, .int .u64 x1, .int .u64 x2, .int .u64 x3, .int .u64 x4, .int .u64 x5, .int .u64 x6, .int .u64 x7] 50)).cell? ⟨wr.heap.size, 7, none⟩ = some (.int .u64 x5) := by go_simp
        have o6 : (wr.alloc (.cells #[.int .i64 ka, .int .i64 wa', .int .u64 x0, .int .u64 x1, .int .u64 x2, .int .u64 x3, .int .u64 x4, .int .u64 x5, .int .u64 x6, .int .u64 x7] 50)).cell? ⟨wr.heap.size, 8, none⟩ = some (.int .u64 x6) := by go_simp
        have o7 : (wr.alloc (.cells #[.int .i64 ka, .int .i64 wa', .int .u64 x0, .int .u64 x1, .int .u64 x2, .int .u64 x3, .int .u64 x4, .int .u64 x5, .int .u64 x6, .int .u64 x7] 50)).cell? ⟨wr.heap.size, 9, none⟩ = some (.int .u64 x7) := by go_simp
        have hws : wr.heap.size ≠ b := by have := hT.size; omega
        have hwR : wr.heap.size ∉ [R] := by have := hT.size; simp; omega
        have hBR : R ≠ B ∧ R ≠ b := hTa.ne
        go_upto_region 15 with (first
          | (go_at_call 34; refine (save_calls B b nb wa' _ D _ hTa.bank hwa ⟨_, _, _, _, _, _, _, _, rfl⟩ (by unfold maxLen; omega)).mono ?_; rintro e w5 ⟨rfl, hB5, hg5⟩; have co5 := hg5.cell co (by simpa using hws); have p0 := hg5.cell o0 (by simpa using hws); have p1 := hg5.cell o1 (by simpa using hws); have p2 := hg5.cell o2 (by simpa using hws); have p3 := hg5.cell o3 (by simpa using hws); have p4 := hg5.cell o4 (by simpa using hws); have p5 := hg5.cell o5 (by simpa using hws); have p6 := hg5.cell o6 (by simpa using hws); have p7 := hg5.cell o7 (by simpa using hws); clear co o0 o1 o2 o3 o4 o5 o6 o7)
          | (go_at_call 35; refine (refSave_calls R nr m wa' _ E _ (hTa.ref.kept (.of_some hg5) (by simp; omega) (fun q hq => by have := hTa.top q hq; simp; omega)) hwa ⟨_, _, _, _, _, _, _, _, rfl⟩ (by omega)).mono ?_; rintro e w6 ⟨rfl, m', n', E', hm', hn', hR6, hlike, hg6⟩)
          | go_in)
        have hs5 := hg5.size
        have hT5 : TwoAt w6 w.heap.size B b R N (i + 1) (nb + 1) n' (some m') (D.put (kI wa') (.held (.agg #[.int .u64 x0, .int .u64 x1, .int .u64 x2, .int .u64 x3, .int .u64 x4, .int .u64 x5, .int .u64 x6, .int .u64 x7]))) E' :=
          ⟨⟨hg6.cell hB5.ptr (by simp; omega), Nat.lt_of_lt_of_le hB5.lt hg6.size, hB5.ne, hg6.map hB5.own (by simp; omega)⟩, hR6, fun x => ⟨((hTa.like.put hTa.bank.own.isMap hTa.ref.isMap wa' _) x).1.trans (hlike x).1.symm, fun z => (((hTa.like.put hTa.bank.own.isMap hTa.ref.isMap wa' _) x).2 z).trans ((hlike x).2 z).symm⟩, ⟨by omega, by omega⟩, hlow, hBR, fun k hk => by cases hk; omega, by have := hg6.size; omega⟩
        have hG5 : GrowBut w w6 [] := (hG.trans hGa).from ((GrowBut.of_some hg5).mono (l' := [b, R]) (by simp) |>.trans (hg6.mono (by simp))) (fun x hx => by
          simp at hx
          rcases hx with rfl | rfl
          · right; omega
          · right; omega)
        have co6 : w6.cell? ⟨wr.heap.size, 1, none⟩ = some (.int .i64 wa') := hg6.cell co5 hwR
        clear hB5 hR6 hg5 hg6 hTa hd1 hT co5 hGa hlike hs5 p0 p1 p2 p3 p4 p5 p6 p7
        generalize D.put (kI wa') (.held (.agg #[.int .u64 x0, .int .u64 x1, .int .u64 x2, .int .u64 x3, .int .u64 x4, .int .u64 x5, .int .u64 x6, .int .u64 x7])) = D5 at hT5
        obtain ⟨nb5, nr5, m5, E5, hnb, hnr, hm5, hE5⟩ : ∃ (nb5 nr5 : Nat) (m5 : Option Nat) (E5 : DataW Value), nb + 1 = nb5 ∧ n' = nr5 ∧ some m' = m5 ∧ E' = E5 := ⟨_, _, _, _, rfl, rfl, rfl, rfl⟩
        rw [hnb, hnr, hm5, hE5] at hT5
        obtain ⟨y0, y1, y2, y3, y4, y5, y6, y7, haty, hlookY⟩ := hT5.ref.lookAll hwa
        obtain ⟨t0, t1, t2, t3, t4, t5, t6, t7, hatt, hlookT⟩ := hT5.ref.lookAll hwho
        have hq1 := (hT5.like wa').1
        have hq2 := (hT5.like who).1
        go_upto_region 16 with (first
          | (go_at_call 36; refine (load_calls B b nb5 wa' D5 _ hT5.bank hwa).mono ?_; rintro e w7 ⟨v7, rfl, ⟨z0, z1, z2, z3, z4, z5, z6, z7, rfl⟩, hat7, hg7⟩; have hz7 := hat7.symm.trans (((hT5.like wa').2 _).trans haty); simp only [DataW.held.injEq, Value.agg.injEq, Array.mk.injEq, List.cons.injEq, Value.int.injEq, true_and, and_true] at hz7; obtain ⟨rfl, rfl, rfl, rfl, rfl, rfl, rfl, rfl⟩ := hz7; have hG8 := (GrowBut.of_none (l := []) hg7).trans (GrowBut.alloc w7 (.cells #[.int .u64 z0, .int .u64 z1, .int .u64 z2, .int .u64 z3, .int .u64 z4, .int .u64 z5, .int .u64 z6, .int .u64 z7] 48) []))
          | go_in)
        have hT8 := hT5.kept hG8
        have co8 := hG8.cell co6 (by simp)
        have hk8 : (w7.alloc (.cells #[.int .u64 z0, .int .u64 z1, .int .u64 z2, .int .u64 z3, .int .u64 z4, .int .u64 z5, .int .u64 z6, .int .u64 z7] 48)).cell? ⟨w7.heap.size, 0, none⟩ = some (.int .u64 z0) := by go_simp
        have hx8 := boxAt_new w7 48 z0 z1 z2 z3 z4 z5 z6 z7
        have hs7 : w7.heap.size < (w7.alloc (.cells #[.int .u64 z0, .int .u64 z1, .int .u64 z2, .int .u64 z3, .int .u64 z4, .int .u64 z5, .int .u64 z6, .int .u64 z7] 48)).heap.size := by simp
        generalize hX : w7.heap.size = X at hx8 hs7
        generalize w7.alloc (.cells #[.int .u64 z0, .int .u64 z1, .int .u64 z2, .int .u64 z3, .int .u64 z4, .int .u64 z5, .int .u64 z6, .int .u64 z7] 48) = w8 at hG8 hT8 co8 hx8 hs7 ⊢
        clear hk8
        have hG8a := (hG8.trans (GrowBut.alloc w8 (.cells #[.int .u64 0, .int .u64 0, .int .u64 0, .int .u64 0, .int .u64 0, .int .u64 0, .int .u64 0, .int .u64 0] 48) [])).trans (GrowBut.drew _ [])
        have hl8 := hlookY _ (hG8.trans (GrowBut.drew w8 []))
        have hl8a := hlookY _ hG8a
        have hR8 := (hT5.kept (hG8.trans (GrowBut.drew w8 []))).ref.ptr
        have hR8a := (hT5.kept hG8a).ref.ptr
        have co8d := (hG8.trans (GrowBut.drew w8 [])).cell co6 (by simp)
        have co8a := hG8a.cell co6 (by simp)
        clear hX
        go_region
        have hG9 := (hG8.trans (GrowBut.alloc w8 (.cells #[.int .u64 z0, .int .u64 z1, .int .u64 z2, .int .u64 z3, .int .u64 z4, .int .u64 z5, .int .u64 z6, .int .u64 z7] 48) [])).trans (GrowBut.drew _ [])
        have hT9 := hT5.kept hG9
        have hx9 := hx8.kept (((GrowBut.alloc w8 (.cells #[.int .u64 z0, .int .u64 z1, .int .u64 z2, .int .u64 z3, .int .u64 z4, .int .u64 z5, .int .u64 z6, .int .u64 z7] 48) []).trans (GrowBut.drew _ [])).keepAll) (by simp)
        have hy9 := (boxAt_new w8 48 z0 z1 z2 z3 z4 z5 z6 z7).kept ((GrowBut.drew (w8.alloc (.cells #[.int .u64 z0, .int .u64 z1, .int .u64 z2, .int .u64 z3, .int .u64 z4, .int .u64 z5, .int .u64 z6, .int .u64 z7] 48)) []).keepAll) (by simp)
        have hs9 : w8.heap.size < (w8.alloc (.cells #[.int .u64 z0, .int .u64 z1, .int .u64 z2, .int .u64 z3, .int .u64 z4, .int .u64 z5, .int .u64 z6, .int .u64 z7] 48)).drew.heap.size := by simp
        clear hl8 hl8a hR8 hR8a co8d co8a hG8a hT8 co8 hx8
        generalize (w8.alloc (.cells #[.int .u64 z0, .int .u64 z1, .int .u64 z2, .int .u64 z3, .int .u64 z4, .int .u64 z5, .int .u64 z6, .int .u64 z7] 48)).drew = w9 at hG9 hT9 hx9 hy9 hs9 ⊢
        generalize w8.heap.size = Y at hy9 hs9 hs7 ⊢
        clear hG8
        go_upto_region 18 with (first
          | (go_at_call 36; refine (load_calls B b nb5 who D5 _ hT9.bank hwho).mono ?_; rintro e w10 ⟨v7, rfl, ⟨r0, r1, r2, r3, r4, r5, r6, r7, rfl⟩, hat10, hg10⟩; have hz10 := hat10.symm.trans (((hT5.like who).2 _).trans hatt); simp only [DataW.held.injEq, Value.agg.injEq, Array.mk.injEq, List.cons.injEq, Value.int.injEq, true_and, and_true] at hz10; obtain ⟨rfl, rfl, rfl, rfl, rfl, rfl, rfl, rfl⟩ := hz10; have hG11 := (GrowBut.of_none (l := []) hg10).trans (GrowBut.alloc w10 (.cells #[.int .u64 r0, .int .u64 r1, .int .u64 r2, .int .u64 r3, .int .u64 r4, .int .u64 r5, .int .u64 r6, .int .u64 r7] 48) []))
          | go_in)
        have hG12 := hG9.trans hG11
        have hR11 := (hT5.kept hG12).ref.ptr
        have hl11 := hlookT _ hG12
        have hx11 := hx9.kept hG11.keepAll (by simp)
        have hy11 := hy9.kept hG11.keepAll (by simp)
        have hu11 := boxAt_new w10 48 r0 r1 r2 r3 r4 r5 r6 r7
        have hs11 := hG11.size
        have hs10 : w10.heap.size < (w10.alloc (.cells #[.int .u64 r0, .int .u64 r1, .int .u64 r2, .int .u64 r3, .int .u64 r4, .int .u64 r5, .int .u64 r6, .int .u64 r7] 48)).heap.size := by simp
        generalize w10.alloc (.cells #[.int .u64 r0, .int .u64 r1, .int .u64 r2, .int .u64 r3, .int .u64 r4, .int .u64 r5, .int .u64 r6, .int .u64 r7] 48) = w11 at hG12 hR11 hl11 hx11 hy11 hu11 hs11 hs10 ⊢
        generalize w10.heap.size = Z at hu11 hs10 ⊢
        clear hG11 hx9 hy9 hT9 hG9 hs9
        go_upto_region 19 with go_in
        have hGv := GrowBut.alloc w11 (.cells #[.int .u64 r0, .int .u64 r1, .int .u64 r2, .int .u64 r3, .int .u64 r4, .int .u64 r5, .int .u64 r6, .int .u64 r7] 48) []
        have hT12 := hT5.kept (hG12.trans hGv)
        have hx12 := hx11.kept hGv.keepAll (by simp)
        have hy12 := hy11.kept hGv.keepAll (by simp)
        have hu12 := hu11.kept hGv.keepAll (by simp)
        have hv12 := boxAt_new w11 48 r0 r1 r2 r3 r4 r5 r6 r7
        have hGG := (hG5.trans hG12).trans hGv
        generalize w11.alloc (.cells #[.int .u64 r0, .int .u64 r1, .int .u64 r2, .int .u64 r3, .int .u64 r4, .int .u64 r5, .int .u64 r6, .int .u64 r7] 48) = w12 at hT12 hx12 hy12 hu12 hv12 hGG ⊢
        clear hG12 hGv hx11 hy11 hu11 hR11 hl11
        generalize w11.heap.size = V at hv12 ⊢
        clear hlookY hlookT
        go_upto_region 20 with (first
          | (go_at_call 37; refine (who_calls B b nb5 D5 _ hT12.bank (by have := hT12.few; omega)).mono ?_; rintro e w13 ⟨v13, ss, rfl, hp13, hrow13, hnil13, hg13⟩)
          | (go_at_call 38; refine (refWhoO R nr5 m5 E5 _ (hT12.ref.kept (.of_none hg13) (l := []) (by simp) (fun b _ => by simp)) (by have := hT12.few; omega)).mono ?_; rintro e w14 ⟨v14, L, rfl, hp14, hris14, hrow14, hg14⟩)
          | go_in)
        have hGw := (GrowBut.of_none (l := []) hg13).trans hg14
        have hB14 := hT12.kept hGw
        have hmem : ∀ x, x ∈ ss ↔ x ∈ L := fun x => by rw [hp13.mem_iff, hp14.mem_iff, mem_intKeysR hT12.bank.own x, hT12.ref.mem_keys x, (hT12.like x).1]
        have hLs := sortR_eq hris14 (hp13.nodup_iff.2 (intKeys_nodup hT12.bank.own)) hmem
        have hrow13' := hg14.row hrow13 (fun j _ => by simp)
        have hss : ss.length = L.length := by rw [← hLs, List.length_mergeSort]
        rw [hLs, hss] at hrow13'
        have hLn : L.length ≤ 1000 := by
          have h1 := hp13.length_eq
          have h2 := hT12.bank.own.size_le
          have h3 := hT12.few
          obtain ⟨es, hD, _⟩ := hT12.bank.own.entries law3B
          rw [hD] at h1 h2
          simp [intKeys, Maps.size] at h1 h2
          omega
        have hca := row_cellsR hrow13' rfl
        have hcb := row_cellsR hrow14 rfl
        have hka : ∃ q cq, v13 = .slice q L.length cq := by
          rcases hca with ⟨rfl, h0⟩ | ⟨g, cq, rfl, _⟩
          · exact ⟨none, 0, by rw [h0]⟩
          · exact ⟨_, _, rfl⟩
        have hkb : ∃ q cq, v14 = .slice q L.length cq := by
          rcases hcb with ⟨rfl, h0⟩ | ⟨g, cq, rfl, _⟩
          · exact ⟨none, 0, by rw [h0]⟩
          · exact ⟨_, _, rfl⟩
        obtain ⟨q1, cq1, rfl⟩ := hka
        obtain ⟨q2, cq2, rfl⟩ := hkb
        have hGG14 := hGG.trans hGw
        obtain ⟨e0, e1, e2, e3, e4, e5, e6, e7⟩ := hx12.kept hGw.keepAll (by simp)
        obtain ⟨f0, f1, f2, f3, f4, f5, f6, f7⟩ := hy12.kept hGw.keepAll (by simp)
        obtain ⟨g0, g1, g2, g3, g4, g5, g6, g7⟩ := hu12.kept hGw.keepAll (by simp)
        obtain ⟨i0, i1, i2, i3, i4, i5, i6, i7⟩ := hv12.kept hGw.keepAll (by simp)
        have hqx := eqRegs z0 z1 z2 z3 z4 z5 z6 z7
        have hqy := eqRegs r0 r1 r2 r3 r4 r5 r6 r7
        clear hx12 hy12 hu12 hv12 hrow13 hrow13' hrow14 hp13 hp14 hris14 hLs hmem hnil13 hT12 hG5
        go_wp2_with go_in
        go_loopw [19] (fun v19 wy => ∃ k : Nat, v19 = .int .i64 k ∧ k ≤ L.length ∧ GrowBut w14 wy []) (fun v19 _ => L.length - (match v19 with | .int _ k => k.toNat | _ => 0))
        case atStart => exact ⟨0, rfl, by omega, .refl _ _⟩
        case round =>
          obtain ⟨k, rfl, hk, hgk⟩ := hrel
          by_cases hkl : k < L.length
          · obtain ⟨gq, rfl, hcg⟩ : ∃ g, q1 = some ⟨g, 0, none⟩ ∧ w14.cell? ⟨g, k, none⟩ = some (.int .i64 (L.getD k 0)) := by
              rcases hca with ⟨_, h0⟩ | ⟨g, cap, e, _, _, h3⟩
              · omega
              · cases e; exact ⟨g, rfl, h3 k hkl⟩
            obtain ⟨gp, rfl, hch⟩ : ∃ g, q2 = some ⟨g, 0, none⟩ ∧ w14.cell? ⟨g, k, none⟩ = some (.int .i64 (L.getD k 0)) := by
              rcases hcb with ⟨_, h0⟩ | ⟨g, cap, e, _, _, h3⟩
              · omega
              · cases e; exact ⟨g, rfl, h3 k hkl⟩
            have hc1 := hgk.cell hcg (by simp)
            have hc2 := hgk.cell hch (by simp)
            generalize L.getD k 0 = l0 at hc1 hc2
            have hkl' : (k : Int) < (L.length : Int) := by omega
            have hk1 : (k : Int) ≤ 1000 := by omega
            clear hca hcb hcg hch
            go_wp2_with go_in
            go_quiet (fail)
            go_wp2_with go_in
            exact ⟨⟨k + 1, by simp, by omega, hgk.trans (GrowBut.drewN _ _ _)⟩, by simp; omega⟩
          · have hge : ¬ (k : Int) < (L.length : Int) := by omega
            go_wp2_with go_in
            exact ⟨⟨i + 1, nb5, nr5, m5, D5, E5, by simp, by omega, hB14.kept hgk, hGG14.trans hgk⟩, by simp; omega⟩
    · have hge : ¬ (i : Int) < (n : Int) := by omega
      go_wp2_with (first
        | (go_at_call 34; refine (saveN_calls 1 1 0 0 0 0 0 0 0 _).mono ?_; rintro e w5 ⟨rfl, hg5⟩)
        | (go_at_call 36; refine (loadN_calls 1 _).mono ?_; rintro e w6 ⟨rfl, hg6⟩; unfold zeroRegs)
        | (go_at_call 32; refine (dropN_calls 1 _).mono ?_; rintro e w7 ⟨rfl, hg7⟩)
        | (go_at_call 37; refine (whoN_calls _).mono ?_; rintro e w8 ⟨rfl, hg8⟩)
        | go_in)
      go_ret
      exact ⟨rfl, (((((hG.trans hg5).trans hg6).trans (GrowBut.alloc _ _ _)).trans hg7).trans hg8).keepAll⟩

end Go.Proofs.Ytlgfopfibopcnaa
