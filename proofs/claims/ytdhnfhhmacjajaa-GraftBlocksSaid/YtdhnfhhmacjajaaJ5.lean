/-
  Maps of values: what a map's block says, as a function of its key.
-/
import Derived.Test.YtdhnfhhmacjajaaJ4
import Derived.Deep.Light
import Derived.Deep.Cut
import Derived.Deep.RegionHeld3
import Derived.BigRegion
import Derived.Lib.SliceRun
import Derived.Laws.IdiomCopy
import Derived.Laws.Slices
import Derived.Shelf.Slices.Turned
import Derived.Shelf.Lay
import Derived.Ground.NamesProg

namespace Go.Proofs.Ytdhnfhhmacjajaa
open Go Go.RowKit Go.Maps Go.Am
set_option linter.unusedVariables false
set_option linter.unusedSimpArgs false

/-- An element reads as itself. -/
def selfE (v : Value) : Option (DataW Value × List MemPlace) := some (.held v, [])

/-- The map's datum says f. -/
structure Tab (q : IntKind) (D : DataW Value) (f : Int → Option Value) : Prop where
  has : ∀ k, Maps.has D (.int q k) = (f k).isSome
  at_ : ∀ k v, f k = some v → ∀ z, D.atKey (.int q k) z = .held v

def putT (f : Int → Option Value) (k : Int) (v : Value) : Int → Option Value := fun x => if x = k then some v else f x

def delT (f : Int → Option Value) (k : Int) : Int → Option Value := fun x => if x = k then none else f x

theorem lit_ne {q : IntKind} {x y : Int} (h : x ≠ y) : Lit.int q x ≠ Lit.int q y := fun e => by cases e; exact h rfl

theorem Tab.empty (q : IntKind) : Tab q (.map []) (fun _ => none) := ⟨fun k => by simp [Maps.has_eq], fun k v h => by cases h⟩

theorem Tab.put {q : IntKind} {D : DataW Value} {f : Int → Option Value} (h : Tab q D f) (hm : IsMap D) (k : Int) (v : Value) : Tab q (D.put (.int q k) (.held v)) (putT f k v) := by
  refine ⟨fun x => ?_, fun x u hx z => ?_⟩
  · by_cases e : x = k
    · subst e; rw [has_put_same hm (by trivial)]; simp [putT]
    · rw [has_put_other (lit_ne e), h.has]; simp [putT, e]
  · by_cases e : x = k
    · subst e
      simp only [putT, if_true, Option.some.injEq] at hx
      subst hx
      exact atKey_put_same hm (by trivial) _ z
    · simp only [putT, e, if_false] at hx
      rw [atKey_put_other (lit_ne e)]
      exact h.at_ x u hx z

theorem Tab.del {q : IntKind} {D : DataW Value} {f : Int → Option Value} (h : Tab q D f) (k : Int) : Tab q (D.del (.int q k)) (delT f k) := by
  refine ⟨fun x => ?_, fun x u hx z => ?_⟩
  · by_cases e : x = k
    · subst e; rw [has_del_same]; simp [delT]
    · rw [has_del_other (lit_ne e), h.has]; simp [delT, e]
  · by_cases e : x = k
    · subst e; simp [delT] at hx
    · simp only [delT, e, if_false] at hx
      rw [atKey_del_other (lit_ne e)]
      exact h.at_ x u hx z

theorem Tab.get {q : IntKind} {D : DataW Value} {f : Int → Option Value} (h : Tab q D f) (k : Int) (z : Value) : D.atKey (.int q k) (.held z) = .held ((f k).getD z) := by
  cases hk : f k with
  | none => rw [atKey_of_not_has (by rw [h.has, hk]; rfl)]; rfl
  | some v => rw [h.at_ k v hk]; rfl

/-- Block b is a map that says f; so many stores at most. -/
structure TabAt (w : World) (q : IntKind) (kt : TypeId) (b n : Nat) (f : Int → Option Value) : Prop where
  own : ∃ D, w.ownsMap Try.prog kt selfE b n D ∧ Tab q D f

theorem TabAt.kept {w w' : World} {q : IntKind} {kt : TypeId} {b n : Nat} {f : Int → Option Value} {l : List Nat} (h : TabAt w q kt b n f) (hg : GrowBut w w' l) (hb : b ∉ l) : TabAt w' q kt b n f := by
  obtain ⟨D, hown, hD⟩ := h.own
  exact ⟨D, hg.map hown hb, hD⟩

theorem TabAt.blt {w : World} {q : IntKind} {kt : TypeId} {b n : Nat} {f : Int → Option Value} (h : TabAt w q kt b n f) : b < w.heap.size := by
  obtain ⟨D, hown, hD⟩ := h.own
  exact hown.lt

theorem TabAt.mono {w : World} {q : IntKind} {kt : TypeId} {b n m : Nat} {f : Int → Option Value} (h : TabAt w q kt b n f) (hn : n ≤ m) : TabAt w q kt b m f := by
  obtain ⟨D, hown, hD⟩ := h.own
  exact ⟨D, hown.mono hn, hD⟩

theorem TabAt.made (w : World) (q : IntKind) (kt : TypeId) : TabAt (w.alloc (.map #[] 0)) q kt w.heap.size 0 (fun _ => none) :=
  ⟨.map [], World.ownsMap_made w Try.prog kt selfE, .empty q⟩

theorem TabAt.look {w : World} {q : IntKind} {kt e t : TypeId} {b n : Nat} {f : Int → Option Value} (h : TabAt w q kt b n f) (K : Keyed Try.prog kt) (hk : Try.prog.underlying kt = some (.int q)) (ht : Try.prog.underlying t = some (.map kt e)) {z : Value} (hz : (zeroValue e).run Try.prog w = .ok z w) {x : Int} (hx : (Lit.int q x).wf = true) :
    (Instr.lookup t (.map (some b)) (.int q x) false).run Try.prog w = .ok ((f x).getD z) w := by
  obtain ⟨D, hown, hD⟩ := h.own
  obtain ⟨v, ps, hrun, hv⟩ := hown.lookup (zd := .held z) (zp := []) K ht hz rfl (keyOf_int_mk hk hx)
  rw [hD.get x z] at hv
  simp only [selfE, Option.some.injEq, Prod.mk.injEq, DataW.held.injEq] at hv
  rw [hrun, hv.1]

theorem TabAt.look_ok {w : World} {q : IntKind} {kt e t : TypeId} {b n : Nat} {f : Int → Option Value} (h : TabAt w q kt b n f) (K : Keyed Try.prog kt) (hk : Try.prog.underlying kt = some (.int q)) (ht : Try.prog.underlying t = some (.map kt e)) {z : Value} (hz : (zeroValue e).run Try.prog w = .ok z w) {x : Int} (hx : (Lit.int q x).wf = true) :
    (Instr.lookup t (.map (some b)) (.int q x) true).run Try.prog w = .ok (.tuple #[(f x).getD z, .bool (f x).isSome]) w := by
  obtain ⟨D, hown, hD⟩ := h.own
  obtain ⟨v, ps, hrun, hv⟩ := hown.look_ok (zd := .held z) (zp := []) K ht hz rfl (keyOf_int_mk hk hx)
  rw [hD.get x z] at hv
  simp only [selfE, Option.some.injEq, Prod.mk.injEq, DataW.held.injEq] at hv
  rw [hrun, hv.1, hD.has]

theorem TabAt.upd {w : World} {q : IntKind} {kt e t : TypeId} {b n : Nat} {f : Int → Option Value} (h : TabAt w q kt b n f) (K : Keyed Try.prog kt) (hk : Try.prog.underlying kt = some (.int q)) (ht : Try.prog.underlying t = some (.map kt e)) (hn : n ≤ 1000000) {x : Int} (hx : (Lit.int q x).wf = true) (v : Value) :
    ∃ w', (Instr.mapUpdate t (.map (some b)) (.int q x) v).run Try.prog w = .ok () w' ∧ TabAt w' q kt b (n + 1) (putT f x v) ∧ GrowBut w w' [b] ∧ w.mapTurned w' b := by
  obtain ⟨D, hown, hD⟩ := h.own
  obtain ⟨w', hrun, hown', ht'⟩ := hown.store K ht (by unfold maxLen; omega) (keyOf_int_mk hk hx) (d := .held v) (ps := []) rfl
  exact ⟨w', hrun, ⟨_, hown', hD.put hown.isMap x v⟩, .of_some ht'.grown, ht'⟩

theorem wpList_putT {w : World} {ops : Array Oper} {rest : List Oper} {o : Oper} {a : Act} {Q : Exit → Act → World → Prop}
    (hg : o.guard = none) (m x v : Operand) (t : TypeId) (hop : o.op = Op.mapUpdate t m x v) {q : IntKind} {kt e : TypeId} {b n : Nat} {f : Int → Option Value}
    (h : TabAt w q kt b n f) (K : Keyed Try.prog kt) (hk : Try.prog.underlying kt = some (.int q)) (ht : Try.prog.underlying t = some (.map kt e)) (hn : n ≤ 1000000)
    (hm : a.eval m = .map (some b)) (k : Int) (val : Value) (hx : a.eval x = .int q k) (hv : a.eval v = val) (hwf : (Lit.int q k).wf = true)
    (hK : ∀ w', TabAt w' q kt b (n + 1) (putT f k val) → GrowBut w w' [b] → wpList Try.prog ops Q rest (a.put o.dst undef) w') :
    wpList Try.prog ops Q (o :: rest) a w := by
  obtain ⟨D, hown, hD⟩ := h.own
  exact wpList_mapUpdate_own w hg m x v t hop kt e K ht selfE b n D hm hown (by unfold maxLen; omega) _ _ _ hx hv (keyOf_int_mk hk hwf) (.held val) [] rfl (fun w' h1 h2 => hK w' ⟨_, h1, hD.put hown.isMap k val⟩ (.of_some h2))

theorem wpList_delT {w : World} {ops : Array Oper} {rest : List Oper} {o : Oper} {a : Act} {Q : Exit → Act → World → Prop}
    (hg : o.guard = none) (m x : Operand) (t kt : TypeId) (hop : o.op = Op.call { callee := Callee.builtin Builtin.delete, args := #[m, x], argTypes := #[t, kt] }) {q : IntKind} {e : TypeId} {b n : Nat} {f : Int → Option Value}
    (h : TabAt w q kt b n f) (K : Keyed Try.prog kt) (hk : Try.prog.underlying kt = some (.int q)) (ht : Try.prog.underlying t = some (.map kt e))
    (hm : a.eval m = .map (some b)) (k : Int) (hx : a.eval x = .int q k) (hwf : (Lit.int q k).wf = true)
    (hK : ∀ w', TabAt w' q kt b n (delT f k) → GrowBut w w' [b] → wpList Try.prog ops Q rest (a.put o.dst (.tuple #[])) w') :
    wpList Try.prog ops Q (o :: rest) a w := by
  obtain ⟨D, hown, hD⟩ := h.own
  exact wpList_delete_own w hg m x t kt hop e K ht selfE b n D hm hown _ _ hx (keyOf_int_mk hk hwf) (fun w' h1 h2 => hK w' ⟨_, h1, hD.del k⟩ (.of_some h2.grown))

end Go.Proofs.Ytdhnfhhmacjajaa


/-
  Package stock: which frames are taken.
-/
namespace Go.Proofs.Ytdhnfhhmacjajaa
open Go Go.RowKit Go.Maps Go.Am
set_option linter.unusedVariables false
set_option linter.unusedSimpArgs false

/-- A stock is at S: its row at T, so many frames from fro on, which are taken: tk. -/
structure StockAt (w : World) (S T : Nat) (fro : Int) (n : Nat) (tk : Nat → Bool) : Prop where
  c0 : w.cell? ⟨S, 0, none⟩ = some (.int .i64 fro)
  c1 : w.cell? ⟨S, 1, none⟩ = some (.slice (some ⟨T, 0, none⟩) n n)
  cells : ∀ i, i < n → w.cell? ⟨T, i, none⟩ = some (.bool (tk i))
  fz : ∀ i, i < n → w.frozen? ⟨T, i, none⟩ = false
  ne : S ≠ T
  lt : S < w.heap.size ∧ T < w.heap.size
  small : n ≤ 240 ∧ 0 ≤ fro ∧ fro ≤ 240

theorem StockAt.kept {w w' : World} {S T n : Nat} {fro : Int} {tk : Nat → Bool} {l : List Nat} (h : StockAt w S T fro n tk) (hg : GrowBut w w' l) (h1 : S ∉ l) (h2 : T ∉ l) : StockAt w' S T fro n tk :=
  ⟨hg.cell h.c0 h1, hg.cell h.c1 h1, fun i hi => hg.cell (h.cells i hi) h2, fun i hi => hg.frozen h.lt.2 (h.fz i hi) h2, h.ne, ⟨Nat.lt_of_lt_of_le h.lt.1 hg.size, Nat.lt_of_lt_of_le h.lt.2 hg.size⟩, h.small⟩

/-- One of them turns. -/
def setB (tk : Nat → Bool) (i : Nat) (b : Bool) : Nat → Bool := fun j => if j = i then b else tk j

theorem cell_setS {w : World} {B i : Nat} {v u : Value} (h : w.cell? ⟨B, i, none⟩ = some u) : (w.setCell ⟨B, i, none⟩ v).cell? ⟨B, i, none⟩ = some v := by go_simp

theorem cell_setO {w : World} {B i j : Nat} {v u : Value} (h : w.cell? ⟨B, j, none⟩ = some u) (hne : j ≠ i) : (w.setCell ⟨B, i, none⟩ v).cell? ⟨B, j, none⟩ = some u := by
  have hne' : ¬ i = j := fun e => hne e.symm
  go_simp

theorem frozen_set {w : World} {B i j : Nat} {v : Value} : (w.setCell ⟨B, i, none⟩ v).frozen? ⟨B, j, none⟩ = w.frozen? ⟨B, j, none⟩ := by go_simp

theorem StockAt.set {w : World} {S T n : Nat} {fro : Int} {tk : Nat → Bool} (h : StockAt w S T fro n tk) {i : Nat} (hi : i < n) (b : Bool) : StockAt (w.setCell ⟨T, i, none⟩ (.bool b)) S T fro n (setB tk i b) := by
  have hg := GrowBut.setCell w ⟨T, i, none⟩ (.bool b)
  refine ⟨hg.cell h.c0 (by simpa using h.ne), hg.cell h.c1 (by simpa using h.ne), fun j hj => ?_, fun j hj => ?_, h.ne, ⟨Nat.lt_of_lt_of_le h.lt.1 hg.size, Nat.lt_of_lt_of_le h.lt.2 hg.size⟩, h.small⟩
  · unfold setB
    by_cases e : j = i
    · subst e; simpa using cell_setS (h.cells j hj)
    · simpa [e] using cell_setO (h.cells j hj) e
  · rw [frozen_set]; exact h.fz j hj

/-- A whole number in a value. -/
def natOf : Value → Nat
  | .int _ k => k.toNat
  | _ => 0

set_option maxRecDepth 100000 in
set_option maxHeartbeats 2000000 in
theorem stockTake (S T : Nat) (fro : Int) (n : Nat) (tk : Nat → Bool) (w : World) (h : StockAt w S T fro n tk) (hs : ∃ i, i < n ∧ tk i = false) :
    Calls Try.prog 28 #[.pointer (some ⟨S, 0, none⟩)] w fun e w' => ∃ i : Nat, i < n ∧ tk i = false ∧ e = .returned (.tuple #[.int .i64 (fro + i), .bool true]) ∧ StockAt w' S T fro n (setB tk i true) ∧ GrowBut w w' [T] := by
  have c0 := h.c0
  have c1 := h.c1
  have hsm := h.small
  have hne : ¬ S = T := h.ne
  have hne' : ¬ T = S := fun e => h.ne e.symm
  go_enter Try.func28, Try.ntmps28
  go_wp2_with fail
  go_loopw [13] (fun v13 wx => ∃ j : Nat, v13 = .int .i64 j ∧ j ≤ n ∧ (∀ i, i < j → tk i = true) ∧ wx = w) (fun v13 _ => n - natOf v13)
  case atStart => exact ⟨0, rfl, by omega, fun i hi => absurd hi (by omega), rfl⟩
  case round =>
    obtain ⟨j, rfl, hj, hall, rfl⟩ := hrel
    by_cases hlt : j < n
    · have hlt' : (j : Int) < (n : Int) := by omega
      have hcj := h.cells j hlt
      have hfj := h.fz j hlt
      cases htk : tk j with
      | false =>
        rw [htk] at hcj
        clear hall hs
        go_wp2_with fail
        go_ret2
        exact ⟨j, hlt, htk, rfl, h.set hlt true, GrowBut.setCell _ _ _⟩
      | true =>
        rw [htk] at hcj
        have hall' : ∀ i, i < j + 1 → tk i = true := fun i hi => by
          by_cases e : i = j
          · rw [e]; exact htk
          · exact hall i (by omega)
        clear hall hs htk
        go_wp2_with fail
        exact ⟨⟨j + 1, by simp, by omega, hall', trivial⟩, by simp [natOf]; omega⟩
    · exfalso
      obtain ⟨i, hi, hf⟩ := hs
      rw [hall i (by omega)] at hf
      cases hf

/-- No frame is left. -/
theorem setB_same (tk : Nat → Bool) (i : Nat) (b : Bool) : setB tk i b i = b := by simp [setB]

set_option maxRecDepth 100000 in
set_option maxHeartbeats 2000000 in
theorem stockBack (S T : Nat) (fro : Int) (n : Nat) (tk : Nat → Bool) (i : Nat) (x : Int) (w : World) (h : StockAt w S T fro n tk) (hi : i < n) (ht : tk i = true) (hx : x = fro + i) :
    Calls Try.prog 56 #[.pointer (some ⟨S, 0, none⟩), .int .i64 x] w fun e w' => e = .returned (.bool true) ∧ StockAt w' S T fro n (setB tk i false) ∧ GrowBut w w' [T] := by
  have c0 := h.c0
  have c1 := h.c1
  have hsm := h.small
  have hci := h.cells i hi
  have hne : ¬ S = T := h.ne
  have hne' : ¬ T = S := fun e => h.ne e.symm
  have hfi := h.fz i hi
  rw [ht] at hci
  have h1 : decide (x < fro) = false := decide_eq_false (by omega)
  have h2 : x - fro = (i : Int) := by omega
  have h3 : decide ((n : Int) ≤ (i : Int)) = false := decide_eq_false (by omega)
  have h5 : decide (n ≤ i) = false := decide_eq_false (by omega)
  have h6 : ¬ (n : Int) ≤ (i : Int) := by omega
  have h4 := IntWalk.i64_in (i : Int) (by omega)
  clear hx
  go_enter Try.func56, Try.ntmps56
  go_upto_region 1 with fail
  go_quiet (fail)
  go_wp2_with fail
  clear h1 h3 h5 h6 ht
  go_region
  go_wp2_with fail
  go_ret
  exact ⟨rfl, (h.kept (GrowBut.drewN w _ []) (by simp) (by simp)).set hi false, (GrowBut.drewN _ _ _).trans (GrowBut.setCell _ _ _)⟩

theorem GrowBut.of_rowG {a b : World} {o : Option Nat} (h : a.grownBy b o) : GrowBut a b o.toList :=
  ⟨h.os, h.tape, h.output, h.size, fun j hj hn => h.block j hj (fun e => hn (by rw [← e]; simp))⟩

/-- How many are taken, of the first k. -/
def cntB (tk : Nat → Bool) : Nat → Nat
  | 0 => 0
  | k + 1 => cntB tk k + (if tk k then 1 else 0)

theorem cntB_le (tk : Nat → Bool) : ∀ k, cntB tk k ≤ k
  | 0 => Nat.le_refl _
  | k + 1 => by have := cntB_le tk k; unfold cntB; split <;> omega

theorem cntB_off (tk : Nat → Bool) (i : Nat) (b : Bool) : ∀ k, k ≤ i → cntB (setB tk i b) k = cntB tk k
  | 0, _ => rfl
  | k + 1, hk => by
    unfold cntB
    rw [cntB_off tk i b k (by omega)]
    simp [setB, show k ≠ i by omega]

theorem cntB_take (tk : Nat → Bool) (i : Nat) (hf : tk i = false) : ∀ k, i < k → cntB (setB tk i true) k = cntB tk k + 1
  | 0, h => absurd h (by omega)
  | k + 1, h => by
    unfold cntB
    by_cases e : i = k
    · subst e
      rw [cntB_off tk i true i (Nat.le_refl _), hf]; simp [setB]
    · rw [cntB_take tk i hf k (by omega)]
      simp only [setB, show k ≠ i by omega, if_false]
      omega

theorem cntB_back (tk : Nat → Bool) (i : Nat) (hf : tk i = true) : ∀ k, i < k → cntB (setB tk i false) k + 1 = cntB tk k
  | 0, h => absurd h (by omega)
  | k + 1, h => by
    unfold cntB
    by_cases e : i = k
    · subst e
      rw [cntB_off tk i false i (Nat.le_refl _), hf]; simp [setB]
    · have h9 := cntB_back tk i hf k (by omega)
      have e9 : setB tk i false k = tk k := by simp [setB, show k ≠ i by omega]
      rw [e9]
      omega

theorem cntB_free (tk : Nat → Bool) : ∀ k, cntB tk k < k → ∃ i, i < k ∧ tk i = false
  | 0, h => absurd h (by omega)
  | k + 1, h => by
    unfold cntB at h
    cases hk : tk k with
    | false => exact ⟨k, by omega, hk⟩
    | true =>
      rw [hk] at h
      obtain ⟨i, hi, hf⟩ := cntB_free tk k (by simp at h; omega)
      exact ⟨i, by omega, hf⟩

/-- The frames that are taken, of the first k. -/
def takenL (fro : Int) (tk : Nat → Bool) : Nat → List Int
  | 0 => []
  | k + 1 => if tk k then takenL fro tk k ++ [fro + k] else takenL fro tk k

theorem takenL_len (fro : Int) (tk : Nat → Bool) : ∀ k, (takenL fro tk k).length = cntB tk k
  | 0 => rfl
  | k + 1 => by
    have := takenL_len fro tk k
    unfold takenL cntB
    split <;> simp [this]

theorem infoI : (Try.prog.info? 3).map (fun i => (i.zero, i.size, i.bytes)) = some (some (.int .i64 0), 1, 8) := by kernel_rfl

set_option maxRecDepth 100000 in
set_option maxHeartbeats 4000000 in
theorem stockTaken (S T : Nat) (fro : Int) (n : Nat) (tk : Nat → Bool) (w : World) (h : StockAt w S T fro n tk) :
    Calls Try.prog 35 #[.pointer (some ⟨S, 0, none⟩)] w fun e w' => ∃ v, e = .returned v ∧ w'.ownsRow w.heap.size 3 1 v (cntB tk n) ((takenL fro tk n).map (Value.int .i64)) ∧ GrowBut w w' [] := by
  have hsm := h.small
  have c0 := h.c0
  have c1 := h.c1
  obtain ⟨i0, hi, hz0, hz1, hz2⟩ := info_parts infoI
  go_enter Try.func35, Try.ntmps35
  go_wp2_with fail
  go_loopw [2, 12] (fun v2 v12 wx => ∃ j : Nat, v12 = .int .i64 j ∧ j ≤ n ∧ wx.ownsRow w.heap.size 3 1 v2 (cntB tk j) ((takenL fro tk j).map (Value.int .i64)) ∧ GrowBut w wx []) (fun _ v12 _ => n - natOf v12)
  case atStart => exact ⟨0, rfl, by omega, World.ownsRow_nil _ _ _ _, .refl _ _⟩
  case round =>
    obtain ⟨j, rfl, hj, hrow, hG⟩ := hrel
    have hle := cntB_le tk j
    have hsz := hG.size
    by_cases hlt : j < n
    · have hlt' : (j : Int) < (n : Int) := by omega
      have hk := h.kept hG (by simp) (by simp)
      have d0 := hk.c0
      have d1 := hk.c1
      have hcj := hk.cells j hlt
      have hxj := IntWalk.i64_in (fro + (j : Int)) (by omega)
      cases htk : tk j with
      | false =>
        have e1 : cntB tk (j + 1) = cntB tk j := by simp [cntB, htk]
        have e2 : takenL fro tk (j + 1) = takenL fro tk j := by simp [takenL, htk]
        rw [htk] at hcj
        clear hk
        go_wp2_with fail
        exact ⟨⟨j + 1, by simp, by omega, by rw [e1, e2]; exact hrow, hG⟩, by simp [natOf]; omega⟩
      | true =>
        have e1 : cntB tk (j + 1) = cntB tk j + 1 := by simp [cntB, htk]
        have e2 : takenL fro tk (j + 1) = takenL fro tk j ++ [fro + (j : Int)] := by simp [takenL, htk]
        rw [htk] at hcj
        clear hk
        go_wp2_with (first
          | (at_builtin; refine wpList_append_own _ rfl _ _ 23 rfl w.heap.size 3 i0 (.int .i64 0) 1 8 Try.underlying23 hi hz0 hz1 hz2 rfl (by decide) _ _ _ rfl (hrow.alloc _) ⟨wr.heap.size, 0, none⟩ 1 1 [.int .i64 (fro + (j : Int))] rfl rfl (cell_one_new _ _ _) (by simp [Value.oneCell']) (by unfold maxLen at *; omega) (by omega) (by simp; omega) ?_; intro v' w4 hown4 hg4 hnil4; go_frame)
          | fail)
        have hoth : ∀ x ∈ u2.ownBlock.toList, w.heap.size ≤ x := fun x hx => (hrow.lt x (by simpa using hx)).1
        have hG4 := (GrowBut.alloc wr (.cells #[.int .i64 (fro + (j : Int))] 3) _).trans (GrowBut.of_rowG (o := u2.ownBlock) hg4)
        exact ⟨⟨j + 1, by simp, by omega, by rw [e1, e2]; simpa using hown4, hG.from hG4 (fun x hx => .inr (hoth x hx))⟩, by simp [natOf]; omega⟩
    · have hjn : j = n := by omega
      subst hjn
      go_wp2_with fail
      go_ret
      exact ⟨_, rfl, hrow, hG⟩

theorem takenCap (S T : Nat) (fro : Int) (n : Nat) (tk : Nat → Bool) (w : World) (h : StockAt w S T fro n tk) :
    Calls Try.prog 35 #[.pointer (some ⟨S, 0, none⟩)] w fun e w' => ∃ s c, e = .returned (.slice s (cntB tk n) c) ∧ GrowBut w w' [] := by
  refine (stockTaken S T fro n tk w h).mono ?_
  rintro e w' ⟨v, rfl, hrow, hg⟩
  rcases hrow.2 with ⟨rfl, hz⟩ | ⟨g, cap, cur, rfl, _⟩
  · rw [hz]; exact ⟨_, _, rfl, hg⟩
  · exact ⟨_, _, rfl, hg⟩

set_option maxRecDepth 100000 in
set_option maxHeartbeats 4000000 in
theorem stockLeft (S T : Nat) (fro : Int) (n : Nat) (tk : Nat → Bool) (w : World) (h : StockAt w S T fro n tk) :
    Calls Try.prog 24 #[.pointer (some ⟨S, 0, none⟩)] w fun e w' => e = .returned (.int .i64 ((n : Int) - (cntB tk n : Int))) ∧ GrowBut w w' [] := by
  have hsm := h.small
  have c1 := h.c1
  have hle := cntB_le tk n
  have hwr := IntWalk.i64_in ((n : Int) - (cntB tk n : Int)) (by omega)
  go_enter Try.func24, Try.ntmps24
  go_upto_region 3 with fail
  have hTd := takenCap S T fro n tk w.drew (h.kept (GrowBut.drew w []) (by simp) (by simp))
  go_region_held3 (fun w' => w'.cell? ⟨S, 1, none⟩ = some (.slice (some ⟨T, 0, none⟩) n n)) (first | go_keep | (exact d1))
    (first
      | (go_at_call 35; refine hTd.mono ?_; rintro e w5 ⟨s, c, rfl, hg5⟩; have d1 := hg5.cell (a := ⟨S, 1, none⟩) c1 (by simp))
      | fail)
  go_wp2_with fail
  go_ret
  exact ⟨rfl, (GrowBut.drew w []).trans hg5⟩

end Go.Proofs.Ytdhnfhhmacjajaa


/-
  Package ram: frames of bytes.
-/
namespace Go.Proofs.Ytdhnfhhmacjajaa
open Go Go.RowKit Go.Maps Go.Am
set_option linter.unusedVariables false
set_option linter.unusedSimpArgs false

/-- Frames are at M: their bytes at L, so many frames, the first sec are secure; what they say: mem. -/
structure RamAt (w : World) (M L : Nat) (nf : Nat) (sec : Int) (mem : Nat → Int) : Prop where
  c0 : w.cell? ⟨M, 0, none⟩ = some (.slice (some ⟨L, 0, none⟩) nf nf)
  c1 : w.cell? ⟨M, 1, none⟩ = some (.int .i64 sec)
  cells : ∀ i, i < nf * 128 → w.cell? ⟨L, i, none⟩ = some (.int .u8 (mem i))
  fz : ∀ i, i < nf * 128 → w.frozen? ⟨L, i, none⟩ = false
  ne : M ≠ L
  lt : M < w.heap.size ∧ L < w.heap.size
  small : 0 < nf ∧ nf ≤ 240 ∧ 0 ≤ sec ∧ sec ≤ 240
  byte : ∀ i, 0 ≤ mem i ∧ mem i < 256

theorem RamAt.kept {w w' : World} {M L nf : Nat} {sec : Int} {mem : Nat → Int} {l : List Nat} (h : RamAt w M L nf sec mem) (hg : GrowBut w w' l) (h1 : M ∉ l) (h2 : L ∉ l) : RamAt w' M L nf sec mem :=
  ⟨hg.cell h.c0 h1, hg.cell h.c1 h1, fun i hi => hg.cell (h.cells i hi) h2, fun i hi => hg.frozen h.lt.2 (h.fz i hi) h2, h.ne, ⟨Nat.lt_of_lt_of_le h.lt.1 hg.size, Nat.lt_of_lt_of_le h.lt.2 hg.size⟩, h.small, h.byte⟩

theorem lenF : Try.prog.arrayLen 105 = 128 := by kernel_rfl

theorem sizeF (w : World) : (Go.sizeOf (Try.prog.elem 105)).run Try.prog w = .ok 1 w := by kernel_rfl

theorem arrF : Try.prog.underlying 105 = some (.array (Try.prog.arrayLen 105) (Try.prog.elem 105)) := by kernel_rfl

theorem run_cut (L o off n : Nat) (w : World) (h0 : 0 < n) (h1 : off + n ≤ 128) :
    (Instr.sliceAt 105 (.pointer (some ⟨L, o, none⟩)) (some (.int .i64 off)) (some (.int .i64 ((off : Int) + n))) (some (.int .i64 ((off : Int) + n)))).run Try.prog w = .ok (.slice (some ⟨L, o + off, none⟩) n n) w := by
  rw [run_sliceAt_array_lhm w _ _ arrF .i64 .i64 .i64 off ((off : Int) + n) ((off : Int) + n) (by omega) (by omega) (by omega) (by rw [lenF]; omega), sizeF]
  simp only [Result.andThen, slicedAt]
  have e1 : ((off : Int) + n).toNat = off + n := by omega
  have e2 : ((off : Int)).toNat = off := by omega
  rw [e1, e2, if_neg (by omega)]
  simp [Addr.add]

set_option maxRecDepth 100000 in
set_option maxHeartbeats 4000000 in
theorem ramAt_in (M L nf : Nat) (sec : Int) (mem : Nat → Int) (f off n : Nat) (w : World) (h : RamAt w M L nf sec mem) (hf : f < nf) (h0 : 0 < n) (ho : off + n ≤ 128) :
    Calls Try.prog 43 #[.pointer (some ⟨M, 0, none⟩), .bool true, .int .i64 f, .int .i64 off, .int .i64 n] w fun e w' => e = .returned (.slice (some ⟨L, f * 128 + off, none⟩) n n) ∧ w' = w := by
  have hsm := h.small
  have c0 := h.c0
  have c1 := h.c1
  have h1 : decide ((f : Int) < 0) = false := decide_eq_false (by omega)
  have h2 : decide ((nf : Int) ≤ (f : Int)) = false := decide_eq_false (by omega)
  have h2' : decide (nf ≤ f) = false := decide_eq_false (by omega)
  have h3 : decide ((off : Int) < 0) = false := decide_eq_false (by omega)
  have h4 : decide ((n : Int) < 0) = false := decide_eq_false (by omega)
  have h5 : decide ((128 : Int) < (off : Int)) = false := decide_eq_false (by omega)
  have h6 : decide ((128 : Int) - (off : Int) < (n : Int)) = false := decide_eq_false (by omega)
  have h7 := IntWalk.i64_in ((128 : Int) - (off : Int)) (by omega)
  have h8 := IntWalk.i64_in ((off : Int) + (n : Int)) (by omega)
  have hc := run_cut L (f * 128) off n w h0 ho
  go_enter Try.func43, Try.ntmps43
  go_wp2_with fail
  go_ret
  exact ⟨rfl, rfl⟩

theorem eqSl (L o n : Nat) (w : World) : (binOp .eql 49 (.slice (some ⟨L, o, none⟩) n n) (.slice none 0 0)).run Try.prog w = .ok (.bool false) w := by kernel_rfl

/-- A frame's bytes are noughts. -/
def clearM (mem : Nat → Int) (f : Nat) : Nat → Int := fun i => if f * 128 ≤ i ∧ i < f * 128 + 128 then 0 else mem i

theorem underB : Try.prog.underlying 49 = some (.slice 5) := by kernel_rfl

theorem zeroB (w : World) : (zeroValue 5).run Try.prog w = .ok (.int .u8 0) w := by kernel_rfl

theorem getElem?_replicate_lt {v : Value} {n j : Nat} (h : j < n) : (List.replicate n v)[j]? = some v := by simp [h]

theorem GrowBut.setCells (L : Nat) : ∀ (vs : List Value) (o : Nat) (w : World), GrowBut w (w.setCells L o vs) [L]
  | [], _, w => .refl _ _
  | v :: r, o, w => (GrowBut.setCell w ⟨L, o, none⟩ v).trans (GrowBut.setCells L r (o + 1) _)

theorem RamAt.cleared {w : World} {M L nf : Nat} {sec : Int} {mem : Nat → Int} (h : RamAt w M L nf sec mem) {f : Nat} (hf : f < nf) : RamAt (w.setCells L (f * 128) (List.replicate 128 (.int .u8 0))) M L nf sec (clearM mem f) ∧ GrowBut w (w.setCells L (f * 128) (List.replicate 128 (.int .u8 0))) [L] := by
  have hG := GrowBut.setCells L (List.replicate 128 (.int .u8 0)) (f * 128) w
  refine ⟨⟨hG.cell h.c0 (by simpa using h.ne), hG.cell h.c1 (by simpa using h.ne), fun i hi => ?_, fun i hi => by rw [World.frozen?_setCells]; exact h.fz i hi, h.ne, ⟨Nat.lt_of_lt_of_le h.lt.1 hG.size, Nat.lt_of_lt_of_le h.lt.2 hG.size⟩, h.small, fun i => ?_⟩, hG⟩
  · unfold clearM
    by_cases e : f * 128 ≤ i ∧ i < f * 128 + 128
    · rw [if_pos e]
      have := World.cell?_setCells_in L (List.replicate 128 (.int .u8 0)) (f * 128) w (fun j hj => by rw [h.cells (f * 128 + j) (by simp at hj; omega)]; rfl) (i - f * 128) (by simp; omega)
      rw [show f * 128 + (i - f * 128) = i by omega] at this
      rw [this]; exact congrArg some (List.getElem_replicate ..)
    · rw [if_neg e, World.cell?_setCells_out _ _ _ _ _ (fun _ _ => by simp; omega)]
      exact h.cells i hi
  · unfold clearM
    split
    · omega
    · exact h.byte i

set_option maxRecDepth 100000 in
set_option maxHeartbeats 4000000 in
theorem ramClear (M L nf : Nat) (sec : Int) (mem : Nat → Int) (f : Nat) (w : World) (h : RamAt w M L nf sec mem) (hf : f < nf) :
    Calls Try.prog 29 #[.pointer (some ⟨M, 0, none⟩), .int .i64 f] w fun e w' => e = .returned (.int .i64 0) ∧ RamAt w' M L nf sec (clearM mem f) ∧ GrowBut w w' [L] := by
  have hA := ramAt_in M L nf sec mem f 0 128 w h hf (by omega) (by omega)
  rw [Nat.add_zero] at hA
  have he := eqSl L (f * 128) 128 w
  have hcl : ∀ ty, (Builtin.clear_ #[49] ty #[.slice (some ⟨L, f * 128, none⟩) 128 128]).run Try.prog w = .ok (.tuple #[]) (w.setCells L (f * 128) (List.replicate 128 (.int .u8 0))) :=
    fun ty => Lib.run_clear_slice w _ _ ty (.int .u8 0) underB zeroB rfl rfl L (f * 128) 128 128 (by omega) (fun j hj => by rw [h.cells (f * 128 + j) (by omega)]; rfl) (fun j hj => h.fz (f * 128 + j) (by omega))
  obtain ⟨hE1, hE2⟩ := h.cleared hf
  generalize w.setCells L (f * 128) (List.replicate 128 (.int .u8 0)) = wc at hcl hE1 hE2
  go_enter Try.func29, Try.ntmps29
  go_wp2_with (first
    | (go_at_call 43; refine hA.mono ?_; rintro e w1 ⟨rfl, hw1⟩; rw [hw1]; clear hw1 w1)
    | fail)
  go_ret
  exact ⟨rfl, hE1, hE2⟩

/-- A word's bytes are written, so many of them. -/
def setM (mem : Nat → Int) (o : Nat) (v : Nat) (j : Nat) : Nat → Int := fun i => if o ≤ i ∧ i < o + j then ((v / 256 ^ (i - o) % 256 : Nat) : Int) else mem i

theorem setM_zero (mem : Nat → Int) (o v : Nat) : setM mem o v 0 = mem := by
  funext i; unfold setM; rw [if_neg (by omega)]

theorem RamAt.set {w : World} {M L nf : Nat} {sec : Int} {mem : Nat → Int} {o v j : Nat} (h : RamAt w M L nf sec (setM mem o v j)) (hi : o + j < nf * 128) :
    RamAt (w.setCell ⟨L, o + j, none⟩ (.int .u8 ((v / 256 ^ j % 256 : Nat) : Int))) M L nf sec (setM mem o v (j + 1)) := by
  have hG := GrowBut.setCell w ⟨L, o + j, none⟩ (.int .u8 ((v / 256 ^ j % 256 : Nat) : Int))
  refine ⟨hG.cell h.c0 (by simpa using h.ne), hG.cell h.c1 (by simpa using h.ne), fun i hi => ?_, fun i hi => by rw [frozen_set]; exact h.fz i hi, h.ne, ⟨Nat.lt_of_lt_of_le h.lt.1 hG.size, Nat.lt_of_lt_of_le h.lt.2 hG.size⟩, h.small, fun i => ?_⟩
  · by_cases e : i = o + j
    · subst e
      have hs : setM mem o v (j + 1) (o + j) = ((v / 256 ^ j % 256 : Nat) : Int) := by
        unfold setM; rw [if_pos (by omega), show o + j - o = j by omega]
      rw [hs]; exact cell_setS (h.cells _ hi)
    · have hs : setM mem o v (j + 1) i = setM mem o v j i := by
        unfold setM
        by_cases e2 : o ≤ i ∧ i < o + j
        · rw [if_pos e2, if_pos (by omega)]
        · rw [if_neg e2, if_neg (by omega)]
      rw [hs]; exact cell_setO (h.cells i hi) e
  · have hb := h.byte i
    by_cases e : i = o + j
    · subst e
      unfold setM; rw [if_pos (by omega)]
      have := Nat.mod_lt (v / 256 ^ (o + j - o)) (show 256 > 0 by omega)
      omega
    · have hs : setM mem o v (j + 1) i = setM mem o v j i := by
        unfold setM
        by_cases e2 : o ≤ i ∧ i < o + j
        · rw [if_pos e2, if_pos (by omega)]
        · rw [if_neg e2, if_neg (by omega)]
      rw [hs]; exact hb

set_option maxRecDepth 100000 in
set_option maxHeartbeats 4000000 in
theorem ramWordOf (k : Nat) (w : World) (hk : k < 16) : Calls Try.prog 70 #[.int .i64 k] w fun e w' => e = .returned (.int .i64 ((k * 8 : Nat) : Int)) ∧ w' = w := by
  have h1 : decide ((k : Int) < 0) = false := decide_eq_false (by omega)
  have h2 : decide ((16 : Int) ≤ (k : Int)) = false := decide_eq_false (by omega)
  have h3 := IntWalk.i64_in ((k : Int) * 8) (by omega)
  go_enter Try.func70, Try.ntmps70
  go_wp2_with fail
  go_ret
  exact ⟨by simp, rfl⟩

set_option maxRecDepth 100000 in
set_option maxHeartbeats 4000000 in
theorem ramSetWord (M L nf : Nat) (sec : Int) (mem : Nat → Int) (f k v : Nat) (w : World) (h : RamAt w M L nf sec mem) (hf : f < nf) (hk : k < 16) (hv : v < 18446744073709551616) :
    Calls Try.prog 57 #[.pointer (some ⟨M, 0, none⟩), .bool true, .int .i64 f, .int .i64 k, .int .u64 v] w fun e w' => e = .returned (.int .i64 0) ∧ RamAt w' M L nf sec (setM mem (f * 128 + k * 8) v 8) ∧ GrowBut w w' [L] := by
  have hW := ramWordOf k w hk
  have hA := ramAt_in M L nf sec mem f (k * 8) 8 w h hf (by omega) (by omega)
  have he := eqSl L (f * 128 + k * 8) 8 w
  have hle : f * 128 + k * 8 + 8 ≤ nf * 128 := by omega
  have h0 : RamAt w M L nf sec (setM mem (f * 128 + k * 8) v 0) := by rw [setM_zero]; exact h
  generalize f * 128 + k * 8 = o at hA he hle h0 ⊢
  go_enter Try.func57, Try.ntmps57
  go_wp2_with (first
    | (go_at_call 70; refine hW.mono ?_; rintro e w1 ⟨rfl, hw1⟩; rw [hw1]; clear hw1 w1)
    | (go_at_call 43; refine hA.mono ?_; rintro e w1 ⟨rfl, hw1⟩; rw [hw1]; clear hw1 w1)
    | fail)
  go_loopw [23] (fun v23 wx => ∃ j : Nat, v23 = .int .i64 j ∧ j ≤ 8 ∧ RamAt wx M L nf sec (setM mem o v j) ∧ GrowBut w wx [L]) (fun v23 _ => 8 - natOf v23)
  case atStart => exact ⟨0, rfl, by omega, h0, .refl _ _⟩
  case round =>
    obtain ⟨j, rfl, hj, hR, hG⟩ := hrel
    by_cases hlt : j < 8
    · have hlt' : (j : Int) < 8 := by omega
      have hcj := hR.cells (o + j) (by omega)
      have hfj := hR.fz (o + j) (by omega)
      have hm := IntWalk.i64_in (8 * (j : Int)) (by omega)
      have he2 : ((v : Int) / 2 ^ (8 * j) % 256) = ((v / 256 ^ j % 256 : Nat) : Int) := by
        rw [show (256 : Nat) ^ j = 2 ^ (8 * j) by rw [Nat.pow_mul]]
        push_cast
        rfl
      have hS := hR.set (by omega)
      rw [← he2] at hS
      have hG2 := hG.trans (GrowBut.setCell wr ⟨L, o + j, none⟩ (.int .u8 ((v : Int) / 2 ^ (8 * j) % 256)))
      clear he2
      go_wp2_with fail
      exact ⟨⟨j + 1, by simp, by omega, hS, hG2⟩, by simp [natOf]; omega⟩
    · have hjn : j = 8 := by omega
      subst hjn
      go_wp2_with fail
      go_ret
      exact ⟨rfl, hR, hG⟩

/-- The upper bytes of a word, so many of them. -/
def wordT (mem : Nat → Int) (o : Nat) : Nat → Nat
  | 0 => 0
  | k + 1 => wordT mem o k * 256 + (mem (o + 7 - k)).toNat

theorem wordT_lt {mem : Nat → Int} (hb : ∀ i, 0 ≤ mem i ∧ mem i < 256) (o : Nat) : ∀ k, wordT mem o k < 256 ^ k
  | 0 => by simp [wordT]
  | k + 1 => by
    have h1 := wordT_lt hb o k
    have h2 := hb (o + 7 - k)
    unfold wordT
    rw [Nat.pow_succ]
    have : (mem (o + 7 - k)).toNat < 256 := by omega
    omega

/-- A word of a frame. -/
def wordF (mem : Nat → Int) (f k : Nat) : Nat := wordT mem (f * 128 + k * 8) 8

set_option maxRecDepth 100000 in
set_option maxHeartbeats 4000000 in
theorem ramWord (M L nf : Nat) (sec : Int) (mem : Nat → Int) (f k : Nat) (w : World) (h : RamAt w M L nf sec mem) (hf : f < nf) (hk : k < 16) :
    Calls Try.prog 54 #[.pointer (some ⟨M, 0, none⟩), .bool true, .int .i64 f, .int .i64 k] w fun e w' => e = .returned (.tuple #[.int .u64 (wordF mem f k), .int .i64 0]) ∧ w' = w := by
  have hW := ramWordOf k w hk
  have hA := ramAt_in M L nf sec mem f (k * 8) 8 w h hf (by omega) (by omega)
  have he := eqSl L (f * 128 + k * 8) 8 w
  have hle : f * 128 + k * 8 + 8 ≤ nf * 128 := by omega
  unfold wordF
  generalize f * 128 + k * 8 = o at hA he hle ⊢
  go_enter Try.func54, Try.ntmps54
  go_wp2_with (first
    | (go_at_call 70; refine hW.mono ?_; rintro e w1 ⟨rfl, hw1⟩; rw [hw1]; clear hw1 w1)
    | (go_at_call 43; refine hA.mono ?_; rintro e w1 ⟨rfl, hw1⟩; rw [hw1]; clear hw1 w1)
    | fail)
  go_loopw [11, 12] (fun v11 v12 wx => ∃ j : Nat, v12 = .int .i64 (7 - (j : Int)) ∧ j ≤ 8 ∧ v11 = .int .u64 (wordT mem o j) ∧ wx = w) (fun _ v12 _ => (match v12 with | .int _ k => (k + 1).toNat | _ => 0))
  case atStart => exact ⟨0, rfl, by omega, rfl, rfl⟩
  case round =>
    obtain ⟨j, rfl, hj, rfl, rfl⟩ := hrel
    by_cases hlt : j < 8
    · obtain ⟨m, hm⟩ : ∃ m : Nat, m = 7 - j := ⟨_, rfl⟩
      have hcj := h.cells (o + m) (by omega)
      have hb := h.byte (o + m)
      have h7 : 7 - (j : Int) = (m : Int) := by omega
      have hT := wordT_lt h.byte o j
      have hp : 256 ^ j ≤ 72057594037927936 := by
        have := Nat.pow_le_pow_right (show 256 > 0 by omega) (show j ≤ 7 by omega)
        simpa using this
      obtain ⟨c, hc⟩ : ∃ c : Nat, mem (o + m) = (c : Int) := ⟨(mem (o + m)).toNat, by omega⟩
      have hc2 : c < 256 := by omega
      have hsucc : wordT mem o (j + 1) = wordT mem o j * 256 + c := by
        show wordT mem o j * 256 + (mem (o + 7 - j)).toNat = _
        rw [show o + 7 - j = o + m by omega, hc]; simp
      have hor : wordT mem o j * 256 ||| c = wordT mem o j * 256 + c := by
        have := Nat.shiftLeft_add_eq_or_of_lt (i := 8) (b := c) (by omega) (wordT mem o j)
        rw [Nat.shiftLeft_eq] at this
        simpa using this.symm
      rw [hc] at hcj
      rw [← hor] at hsucc
      have hlT : wordT mem o j < 72057594037927936 := by omega
      have hor2 := u64_or_nat (wordT mem o j * 256) c (by omega) (by omega)
      rw [← hsucc] at hor2
      generalize wordT mem o j = T at hlT hor2 ⊢
      generalize hTs : wordT mem o (j + 1) = Ts at hor2
      have hw1 := IntWalk.u64_in ((T : Int) * 256) (by omega)
      have hw2 := IntWalk.u64_in (c : Int) (by omega)
      have hor3 : bits .or .u64 ((T : Int) * 256) (c : Int) = (Ts : Int) := by simpa using hor2
      have hmw := IntWalk.i64_in ((m : Int) - 1) (by omega)
      rw [h7]
      have hmj : m + j ≤ 7 ∧ 7 ≤ m + j := by omega
      clear hsucc hor hor2 hc hT hp h7 hb hm
      go_wp2_with fail
      refine ⟨⟨j + 1, ?_, by omega, ?_, trivial⟩, ?_⟩
      · simp; omega
      · rw [hTs]
      · show ((m : Int) - 1 + 1).toNat < ((m : Int) + 1).toNat
        omega
    · have hjn : j = 8 := by omega
      subst hjn
      go_wp2_with fail
      go_ret2
      exact ⟨rfl, rfl⟩

end Go.Proofs.Ytdhnfhhmacjajaa


/-
  Package slot: entries of tables as numbers.
-/
namespace Go.Proofs.Ytdhnfhhmacjajaa
open Go Go.RowKit Go.Maps Go.Am
set_option linter.unusedVariables false
set_option linter.unusedSimpArgs false

/-- An entry of a table: kind, frame, permissions. -/
def slotV (k f p : Nat) : Value := .agg #[.int .i64 k, .int .i64 f, .int .i64 p]

def MayS (k f p : Nat) : Prop := (k = 0 ∧ f = 0 ∧ p = 0) ∨ (k = 1 ∧ f < 240 ∧ p = 0) ∨ (k = 2 ∧ f < 240 ∧ 1 ≤ p ∧ p ≤ 7) ∨ (k = 3 ∧ f < 240 ∧ 1 ≤ p ∧ p ≤ 7)

def slotN (k f p : Nat) : Nat := k + 4 * p + 4096 * f

set_option maxRecDepth 100000 in
set_option maxHeartbeats 4000000 in
theorem slotMay (k f p : Nat) (w : World) (h : MayS k f p) : Calls Try.prog 71 #[slotV k f p] w fun e w' => e = .returned (.bool true) ∧ GrowBut w w' [] := by
  unfold slotV
  rcases h with ⟨rfl, rfl, rfl⟩ | ⟨rfl, hf, rfl⟩ | ⟨rfl, hf, hp, hp7⟩ | ⟨rfl, hf, hp, hp7⟩
  · go_enter Try.func71, Try.ntmps71
    go_wp2_with go_in
    go_ret
    exact ⟨rfl, .alloc _ _ _⟩
  · have h1 : decide ((f : Int) < 240) = true := decide_eq_true (by omega)
    have h2 : decide ((0 : Int) ≤ (f : Int)) = true := decide_eq_true (by omega)
    go_enter Try.func71, Try.ntmps71
    go_wp2_with go_in
    go_ret
    exact ⟨rfl, .alloc _ _ _⟩
  · have h1 : decide ((f : Int) < 240) = true := decide_eq_true (by omega)
    have h2 : decide ((0 : Int) ≤ (f : Int)) = true := decide_eq_true (by omega)
    have h3 : decide ((1 : Int) ≤ (p : Int)) = true := decide_eq_true (by omega)
    have h4 : decide ((p : Int) ≤ 7) = true := decide_eq_true (by omega)
    go_enter Try.func71, Try.ntmps71
    go_wp2_with go_in
    go_ret
    exact ⟨rfl, .alloc _ _ _⟩
  · have h1 : decide ((f : Int) < 240) = true := decide_eq_true (by omega)
    have h2 : decide ((0 : Int) ≤ (f : Int)) = true := decide_eq_true (by omega)
    have h3 : decide ((1 : Int) ≤ (p : Int)) = true := decide_eq_true (by omega)
    have h4 : decide ((p : Int) ≤ 7) = true := decide_eq_true (by omega)
    go_enter Try.func71, Try.ntmps71
    go_wp2_with go_in
    go_ret
    exact ⟨rfl, .alloc _ _ _⟩

theorem mayS_le {k f p : Nat} (h : MayS k f p) : k < 4 ∧ p < 8 ∧ f < 240 := by unfold MayS at h; omega

theorem or_low (a b n : Nat) (h : b < 2 ^ n) : a * 2 ^ n ||| b = a * 2 ^ n + b := by
  have := Nat.shiftLeft_add_eq_or_of_lt h a
  rw [Nat.shiftLeft_eq] at this
  exact this.symm

set_option maxRecDepth 100000 in
set_option maxHeartbeats 4000000 in
theorem slotPut (k f p : Nat) (w : World) (h : MayS k f p) : Calls Try.prog 58 #[slotV k f p] w fun e w' => e = .returned (.int .u64 (slotN k f p)) ∧ GrowBut w w' [] := by
  have hM := fun w1 => slotMay k f p w1 h
  obtain ⟨hk, hp, hf⟩ := mayS_le h
  have hw1 := IntWalk.u64_in (k : Int) (by omega)
  have hw2 := IntWalk.u64_in (p : Int) (by omega)
  have hw3 := IntWalk.u64_in (f : Int) (by omega)
  have hw4 := IntWalk.u64_in ((p : Int) * 4) (by omega)
  have hw5 := IntWalk.u64_in ((f : Int) * 4096) (by omega)
  have ho1 : bits .or .u64 (k : Int) ((p : Int) * 4) = ((p * 4 + k : Nat) : Int) := by
    have := u64_or_nat k (p * 4) (by omega) (by omega)
    rw [Nat.or_comm, show p * 4 = p * 2 ^ 2 by omega, or_low p k 2 (by omega)] at this
    simpa using this
  have ho2 : bits .or .u64 ((p * 4 + k : Nat) : Int) ((f : Int) * 4096) = ((slotN k f p : Nat) : Int) := by
    have := u64_or_nat (p * 4 + k) (f * 4096) (by omega) (by omega)
    rw [Nat.or_comm, show f * 4096 = f * 2 ^ 12 by omega, or_low f (p * 4 + k) 12 (by omega)] at this
    rw [show slotN k f p = f * 2 ^ 12 + (p * 4 + k) by unfold slotN; omega]
    simpa using this
  generalize slotN k f p = N at ho2 ⊢
  generalize hQ : p * 4 + k = Q at ho1 ho2
  unfold slotV at hM ⊢
  clear h
  go_enter Try.func58, Try.ntmps58
  go_wp2_with (first
    | (go_at_call 71; refine (hM _).mono ?_; rintro e w1 ⟨rfl, hg1⟩; have hk0 := hg1.cell (a := ⟨w.heap.size, 0, none⟩) (v := .int .i64 k) (by go_simp) (by simp); have hk1 := hg1.cell (a := ⟨w.heap.size, 1, none⟩) (v := .int .i64 f) (by go_simp) (by simp); have hk2 := hg1.cell (a := ⟨w.heap.size, 2, none⟩) (v := .int .i64 p) (by go_simp) (by simp))
    | fail)
  go_ret
  exact ⟨rfl, (GrowBut.alloc _ _ _).trans hg1⟩

end Go.Proofs.Ytdhnfhhmacjajaa


/-
  graft.group and graft.plan, of any map of leaves.
-/
namespace Go.Proofs.Ytdhnfhhmacjajaa
open Go Go.RowKit Go.Maps Go.Am
set_option linter.unusedVariables false
set_option linter.unusedSimpArgs false

abbrev LfF := Int → Option (Int × Int)

def leafV (l : Int × Int) : Value := .agg #[.int .i64 l.1, .int .i64 l.2]

def tabL (F : LfF) : Int → Option Value := fun k => (F k).map leafV

def putL (F : LfF) (k : Int) (l : Int × Int) : LfF := fun x => if x = k then some l else F x

def delL (F : LfF) (k : Int) : LfF := fun x => if x = k then none else F x

theorem tabL_put (F : LfF) (k : Int) (l : Int × Int) : putT (tabL F) k (leafV l) = tabL (putL F k l) := by
  funext x; unfold putT tabL putL; by_cases e : x = k <;> simp [e]

theorem tabL_del (F : LfF) (k : Int) : delT (tabL F) k = tabL (delL F k) := by
  funext x; unfold delT tabL delL; by_cases e : x = k <;> simp [e]

theorem tabL_val (F : LfF) (k : Int) : ((tabL F k).getD (leafV (0, 0))) = leafV ((F k).getD (0, 0)) ∧ (tabL F k).isSome = (F k).isSome := by
  unfold tabL; cases F k <;> simp

theorem keyI3 : Keyed Try.prog 3 := int_keyed Try.underlying3

theorem zeroLf (w : World) : (zeroValue 39).run Try.prog w = .ok (leafV (0, 0)) w := by kernel_rfl

/-- Such leaves as may be. -/
structure LfOk (F : LfF) : Prop where
  rng : ∀ k l, F k = some l → 0 ≤ k ∧ k < 4096
  fr : ∀ k l, F k = some l → 0 ≤ l.1 ∧ l.1 < 240
  pm : ∀ k l, F k = some l → 1 ≤ l.2 ∧ l.2 ≤ 7

/-- Is one of the first so many of sixteen pages there? -/
def anyG (F : LfF) (g : Int) : Nat → Bool
  | 0 => false
  | n + 1 => anyG F g n || (F (g * 16 + n)).isSome

def okG (F : LfF) (g : Int) (i : Nat) : Bool := (F (g * 16 + i)).isSome && (((F (g * 16 + i)).getD (0, 0)).2 == ((F (g * 16)).getD (0, 0)).2) && (((F (g * 16 + i)).getD (0, 0)).1 == ((F (g * 16)).getD (0, 0)).1 + i)

/-- Are the first so many of sixteen pages a block? -/
def wholeG (F : LfF) (g : Int) : Nat → Bool
  | 0 => (F (g * 16)).isSome
  | n + 1 => wholeG F g n && okG F g n

theorem wfI {x : Int} (h0 : -9223372036854775808 ≤ x) (h1 : x < 9223372036854775808) : (Lit.int .i64 x).wf = true := WalkArith.wf_i64 (by omega)

theorem getD_rng {F : LfF} (h : LfOk F) (k : Int) : 0 ≤ ((F k).getD (0, 0)).1 ∧ ((F k).getD (0, 0)).1 < 240 ∧ 0 ≤ ((F k).getD (0, 0)).2 ∧ ((F k).getD (0, 0)).2 ≤ 7 := by
  cases hk : F k with
  | none => simp
  | some l =>
    have h1 := h.fr k l hk
    have h2 := h.pm k l hk
    simp; omega

set_option maxRecDepth 100000 in
set_option maxHeartbeats 8000000 in
theorem group_all (b n : Nat) (g : Int) (F : LfF) (w : World) (h : TabAt w .i64 3 b n (tabL F)) (hF : LfOk F) (hg0 : 0 ≤ g) (hg1 : g < 100000) :
    Calls Try.prog 50 #[.map (some b), .int .i64 g] w fun e w' => e = .returned (.tuple #[.bool (anyG F g 16), .bool (wholeG F g 16)]) ∧ GrowBut w w' [] := by
  have hL := h.look_ok (t := 66) (e := 39) keyI3 Try.underlying3 Try.underlying66 (zeroLf _) (x := g * 16) (wfI (by omega) (by omega))
  rw [(tabL_val _ _).1, (tabL_val _ _).2] at hL
  have hr0 := getD_rng hF (g * 16)
  have hm := IntWalk.i64_in (g * 16) (by omega)
  have hbl := h.blt
  generalize hfst : (F (g * 16)).getD (0, 0) = fst at hL hr0
  obtain ⟨f0, p0⟩ := fst
  simp only at hr0
  have hw0 : (F (g * 16)).isSome = wholeG F g 0 := rfl
  rw [hw0] at hL
  generalize hwz : wholeG F g 0 = wz at hL
  unfold leafV at hL
  simp only at hL
  go_enter Try.func50, Try.ntmps50
  go_wp2_with go_in
  go_loopw [4, 5, 17] (fun v4 v5 v17 wr => ∃ i : Nat, v17 = .int .i64 i ∧ i ≤ 16 ∧ v4 = .bool (anyG F g i) ∧ v5 = .bool (wholeG F g i) ∧ wr.cell? ⟨w.heap.size, 0, none⟩ = some (.int .i64 f0) ∧ wr.cell? ⟨w.heap.size, 1, none⟩ = some (.int .i64 p0) ∧ w.heap.size < wr.heap.size ∧ GrowBut w wr []) (fun _ _ v17 wr => 16 - natOf v17)
  case atStart => exact ⟨0, rfl, by omega, rfl, by rw [hwz], by simp, by simp, by simp, .alloc _ _ _⟩
  case round =>
    obtain ⟨i, rfl, hi, rfl, rfl, hc0, hc1, hsz, hG⟩ := hrel
    by_cases hlt : i < 16
    · have hlt' : (i : Int) < 16 := by omega
      have hLi := (h.kept hG (by simp)).look_ok (t := 66) (e := 39) keyI3 Try.underlying3 Try.underlying66 (zeroLf _) (x := g * 16 + i) (wfI (by omega) (by omega))
      rw [(tabL_val _ _).1, (tabL_val _ _).2] at hLi
      have hri := getD_rng hF (g * 16 + i)
      have hmi := IntWalk.i64_in (g * 16 + i) (by omega)
      have hmf := IntWalk.i64_in (f0 + i) (by omega)
      have e1 : anyG F g (i + 1) = (anyG F g i || (F (g * 16 + i)).isSome) := rfl
      have e2 : wholeG F g (i + 1) = (wholeG F g i && okG F g i) := rfl
      unfold okG at e2
      rw [hfst] at e2
      generalize (F (g * 16 + i)).getD (0, 0) = lf at hLi hri e2
      obtain ⟨f1, p1⟩ := lf
      simp only at hri e2
      generalize (F (g * 16 + i)).isSome = now at hLi e1 e2
      unfold leafV at hLi
      simp only at hLi
      have hN : (w : World) → True := fun _ => trivial
      have hend : ∀ w3, wr.heap.size ≤ w3.heap.size → GrowBut wr w3 [] → w3.cell? ⟨w.heap.size, 0, none⟩ = some (.int .i64 f0) ∧ w3.cell? ⟨w.heap.size, 1, none⟩ = some (.int .i64 p0) ∧ w.heap.size < w3.heap.size ∧ GrowBut w w3 [] := fun w3 hs hg => ⟨hg.cell hc0 (by simp), hg.cell hc1 (by simp), by omega, hG.trans hg⟩
      generalize anyG F g i = a4 at e1 ⊢
      generalize wholeG F g i = x5 at e2 ⊢
      clear hfst hw0 hwz h hF hL
      have hsplit : ∀ (a x : Bool), anyG F g (i + 1) = a → wholeG F g (i + 1) = x → ∀ w3, wr.heap.size ≤ w3.heap.size → GrowBut wr w3 [] → (∃ i_1 : Nat, Value.int .i64 ((i : Int) + 1) = .int .i64 i_1 ∧ i_1 ≤ 16 ∧ Value.bool a = .bool (anyG F g i_1) ∧ Value.bool x = .bool (wholeG F g i_1) ∧ w3.cell? ⟨w.heap.size, 0, none⟩ = some (.int .i64 f0) ∧ w3.cell? ⟨w.heap.size, 1, none⟩ = some (.int .i64 p0) ∧ w.heap.size < w3.heap.size ∧ GrowBut w w3 []) ∧ 16 - natOf (.int .i64 ((i : Int) + 1)) < 16 - natOf (.int .i64 (i : Int)) := by
        intro a x ha hx w3 hs hg
        exact ⟨⟨i + 1, by simp, by omega, by rw [ha], by rw [hx], hend w3 hs hg⟩, by simp [natOf]; omega⟩
      clear hend
      cases now with
      | false =>
        simp only [Bool.or_false, Bool.false_and, Bool.and_false] at e1 e2
        cases a4 <;> cases x5
        all_goals
          go_wp2_with go_in
          exact hsplit _ _ e1 e2 _ (by simp) (.alloc _ _ _)
      | true =>
        simp only [Bool.or_true, Bool.true_and] at e1 e2
        cases x5 with
        | false =>
          simp only [Bool.false_and] at e2
          cases a4
          all_goals
            go_wp2_with go_in
            exact hsplit _ _ e1 e2 _ (by simp) (.alloc _ _ _)
        | true =>
          simp only [Bool.true_and] at e2
          by_cases hp : p1 = p0
          · have hpb : (p1 == p0) = true := by rw [hp]; simp
            rw [hpb] at e2
            clear hp
            by_cases hf : f1 = f0 + (i : Int)
            · have hfb : (f1 == f0 + (i : Int)) = true := by rw [hf]; simp
              rw [hfb] at e2
              clear hf
              cases a4
              all_goals
                go_wp2_with go_in
                exact hsplit _ _ e1 e2 _ (by simp) (.alloc _ _ _)
            · have hfb : (f1 == f0 + (i : Int)) = false := by rw [beq_eq_false_iff_ne]; exact hf
              rw [hfb] at e2
              clear hf
              cases a4
              all_goals
                go_wp2_with go_in
                exact hsplit _ _ e1 e2 _ (by simp) (.alloc _ _ _)
          · have hpb : (p1 == p0) = false := by rw [beq_eq_false_iff_ne]; exact hp
            rw [hpb] at e2
            clear hp
            cases a4
            all_goals
              go_wp2_with go_in
              exact hsplit _ _ e1 e2 _ (by simp) (.alloc _ _ _)
    · have hi16 : i = 16 := by omega
      subst hi16
      go_wp2_with fail
      go_ret2
      exact ⟨rfl, hG⟩

end Go.Proofs.Ytdhnfhhmacjajaa


/-
  graft.plan: the numbers of the tables that a map's tree has.
-/
namespace Go.Proofs.Ytdhnfhhmacjajaa
open Go Go.RowKit Go.Maps Go.Am Go.Shelf
set_option linter.unusedVariables false
set_option linter.unusedSimpArgs false

shelf_lay Lays.n107 Nm 107 at Try as Try.contL

theorem contains_row (base : Nat) (v : Value) (ms : List Int) (x : Int) (w : World) (hbig : ms.length ≤ 9223372036854775807) (hrow : w.ownsRow base 3 1 v ms.length (ms.map (Value.int .i64))) :
    Calls Try.prog 39 #[v, .int .i64 x] w fun e w' => e = .returned (.bool (ms.contains x)) ∧ w' = w := by
  rcases hrow.2 with ⟨rfl, hz⟩ | ⟨g, cap, cur, rfl, hbase, hb, h1, h2, h3, h4⟩
  · have : ms = [] := List.eq_nil_of_length_eq_zero hz
    subst this
    exact Any.slices_Contains_int_empty Try.contL none 0 x w
  · have h := Any.slices_Contains_int Try.contL g 0 ms.length cap ms x w (Nat.le_refl _) hbig (fun j hj => by
      have h5 : (cur.toList.take (ms.length * 1))[j]? = (ms.map (Value.int .i64))[j]? := by rw [h4]
      rw [List.getElem?_take_of_lt (by omega), List.getElem?_map] at h5
      simp only [World.cell?, hb, Nat.zero_add]
      simpa [hj] using h5)
    rw [List.take_length] at h
    exact h

def endsL (F : LfF) : Nat → List Int
  | 0 => []
  | n + 1 => if anyG F n 16 && !wholeG F n 16 then endsL F n ++ [(n : Int)] else endsL F n

def midsL (F : LfF) : Nat → List Int
  | 0 => []
  | n + 1 => if anyG F n 16 then (if (midsL F n).contains ((n : Int) / 16) then midsL F n else midsL F n ++ [(n : Int) / 16]) else midsL F n

theorem endsL_len (F : LfF) : ∀ n, (endsL F n).length ≤ n
  | 0 => Nat.le_refl _
  | n + 1 => by
    have := endsL_len F n
    unfold endsL
    split
    · simp; omega
    · omega

theorem midsL_len (F : LfF) : ∀ n, (midsL F n).length ≤ n
  | 0 => Nat.le_refl _
  | n + 1 => by
    have := midsL_len F n
    unfold midsL
    split
    · split
      · omega
      · simp; omega
    · omega

/-- Two slices of two blocks, or nil. -/
def ApartV (a b : Value) : Prop := a.ownBlock = none ∨ b.ownBlock = none ∨ a.ownBlock ≠ b.ownBlock

theorem ApartV.keeps {a b : Value} (h : ApartV a b) : b.ownBlock = none ∨ b.ownBlock ≠ a.ownBlock := by
  rcases h with h | h | h
  · rw [h]; exact Classical.em _
  · exact .inl h
  · exact .inr (Ne.symm h)

theorem ApartV.symm {a b : Value} (h : ApartV a b) : ApartV b a := by
  rcases h with h | h | h
  · exact .inr (.inl h)
  · exact .inl h
  · exact .inr (.inr (Ne.symm h))

theorem ApartV.grew {a a' b : Value} {w : World} {n base : Nat} {xs : List Value} (h : ApartV a b) (hr : w.ownsRow base 3 1 b n xs) (ha : a'.ownBlock = a.ownBlock ∨ a'.ownBlock = some w.heap.size) : ApartV a' b := by
  rcases ha with ha | ha
  · unfold ApartV at *; rw [ha]; exact h
  · cases hb : b.ownBlock with
    | none => exact .inr (.inl hb)
    | some j =>
      refine .inr (.inr ?_)
      rw [ha, hb]
      have := (hr.lt j hb).2
      intro e
      cases e
      omega

theorem GrowBut.toSome {w w' : World} (h : GrowBut w w' []) : w.grownBy w' none := h.keepAll

set_option maxRecDepth 100000 in
set_option maxHeartbeats 8000000 in
theorem plan_all (b n : Nat) (F : LfF) (w : World) (h : TabAt w .i64 3 b n (tabL F)) (hF : LfOk F) :
    Calls Try.prog 37 #[.map (some b)] w fun e w' => ∃ v2 v3, e = .returned (.tuple #[v2, v3]) ∧ w'.ownsRow w.heap.size 3 1 v2 (midsL F 256).length ((midsL F 256).map (Value.int .i64)) ∧ w'.ownsRow w.heap.size 3 1 v3 (endsL F 256).length ((endsL F 256).map (Value.int .i64)) ∧ ApartV v2 v3 ∧ GrowBut w w' [] := by
  obtain ⟨i0, hi, hz0, hz1, hz2⟩ := info_parts infoI
  have hbl := h.blt
  go_enter Try.func37, Try.ntmps37
  go_wp2_with go_in
  go_loopw [2, 3, 8] (fun v2 v3 v8 wr => ∃ i : Nat, v8 = .int .i64 i ∧ i ≤ 256 ∧ wr.ownsRow w.heap.size 3 1 v2 (midsL F i).length ((midsL F i).map (Value.int .i64)) ∧ wr.ownsRow w.heap.size 3 1 v3 (endsL F i).length ((endsL F i).map (Value.int .i64)) ∧ ApartV v2 v3 ∧ GrowBut w wr []) (fun _ _ v8 wr => 256 - natOf v8)
  case atStart => exact ⟨0, rfl, by omega, World.ownsRow_nil _ _ _ _, World.ownsRow_nil _ _ _ _, .inl rfl, .refl _ _⟩
  case round =>
    obtain ⟨i, rfl, hi6, hrow2, hrow3, hap, hnx⟩ := hrel
    have hml := midsL_len F i
    have hel := endsL_len F i
    have hns := hnx.size
    by_cases hlt : i < 256
    · have hgr := group_all b n (i : Int) F wr (h.kept hnx (by simp)) hF (by omega) (by omega)
      have hcon := fun W (h : W.ownsRow w.heap.size 3 1 u2 (midsL F i).length ((midsL F i).map (Value.int .i64))) => contains_row w.heap.size u2 (midsL F i) ((i : Int) / 16) W (by omega) h
      have em0 : midsL F (i + 1) = if anyG F i 16 then (if (midsL F i).contains ((i : Int) / 16) then midsL F i else midsL F i ++ [(i : Int) / 16]) else midsL F i := rfl
      have ee0 : endsL F (i + 1) = if anyG F i 16 && !wholeG F i 16 then endsL F i ++ [(i : Int)] else endsL F i := rfl
      generalize anyG F (i : Int) 16 = som at hgr em0 ee0
      generalize wholeG F (i : Int) 16 = who at hgr ee0
      generalize (midsL F i).contains ((i : Int) / 16) = has at hcon em0
      have hmeas : 256 - natOf (.int .i64 ((i : Int) + 1)) < 256 - natOf (.int .i64 (i : Int)) := by simp [natOf]; omega
      have hlt' : (i : Int) < 256 := by omega
      have hend : ∀ v2 v3 w', w'.ownsRow w.heap.size 3 1 v2 (midsL F (i + 1)).length ((midsL F (i + 1)).map (Value.int .i64)) → w'.ownsRow w.heap.size 3 1 v3 (endsL F (i + 1)).length ((endsL F (i + 1)).map (Value.int .i64)) → ApartV v2 v3 → GrowBut w w' [] →
          (∃ i_1 : Nat, Value.int .i64 ((i : Int) + 1) = .int .i64 i_1 ∧ i_1 ≤ 256 ∧ w'.ownsRow w.heap.size 3 1 v2 (midsL F i_1).length ((midsL F i_1).map (Value.int .i64)) ∧ w'.ownsRow w.heap.size 3 1 v3 (endsL F i_1).length ((endsL F i_1).map (Value.int .i64)) ∧ ApartV v2 v3 ∧ GrowBut w w' []) ∧ 256 - natOf (.int .i64 ((i : Int) + 1)) < 256 - natOf (.int .i64 (i : Int)) :=
        fun v2 v3 w' h1 h2 h3 h4 => ⟨⟨i + 1, by simp, by omega, h1, h2, h3, h4⟩, hmeas⟩
      have hlow2 : ∀ j, u2.ownBlock = some j → w.heap.size ≤ j := fun j hj => (hrow2.lt j hj).1
      have hlow3 : ∀ j, u3.ownBlock = some j → w.heap.size ≤ j := fun j hj => (hrow3.lt j hj).1
      have hgb : ∀ {a c : World} {o : Option Nat}, w.heap.size ≤ a.heap.size → GrowBut w a [] → a.grownBy c o → (∀ j, o = some j → w.heap.size ≤ j) → GrowBut w c [] := fun {a c o} _ h1 h2 h3 => h1.from (GrowBut.of_rowG h2) (fun x hx => .inr (h3 x (by simpa using hx)))
      cases som with
      | false =>
        simp only [Bool.false_and, Bool.false_eq_true, if_false] at em0 ee0
        go_wp2_with (first
          | (go_at_call 50; refine hgr.mono ?_; rintro e w4 ⟨rfl, hb4⟩)
          | go_in)
        exact hend _ _ _ (by rw [em0]; exact hrow2.kept hb4.keepAll (Classical.em _)) (by rw [ee0]; exact hrow3.kept hb4.keepAll (Classical.em _)) hap (hnx.trans hb4)
      | true =>
        simp only [Bool.true_and, if_true] at em0 ee0
        cases has with
        | false =>
          simp only [Bool.false_eq_true, if_false] at em0
          cases who with
          | true =>
            simp only [Bool.not_true, Bool.false_eq_true, if_false] at ee0
            go_wp2_with (first
              | (go_at_call 50; refine hgr.mono ?_; rintro e w4 ⟨rfl, hb4⟩; have hrow24 := hrow2.kept hb4.keepAll (Classical.em _); have hrow34 := hrow3.kept hb4.keepAll (Classical.em _); have hcon4 := hcon w4 hrow24)
              | (go_at_call 39; refine hcon4.mono ?_; rintro e w5 ⟨rfl, hww⟩; rw [hww]; clear hww w5)
              | (at_builtin; refine wpList_append_own_at _ rfl _ _ 23 rfl w.heap.size 3 i0 (.int .i64 0) 1 8 Try.underlying23 hi hz0 hz1 hz2 rfl (by decide) u2 _ _ rfl (hrow24.alloc _) ⟨w4.heap.size, 0, none⟩ 1 1 [.int .i64 ((i : Int) / 16)] rfl rfl (cell_one_new _ _ _) (by simp [Value.oneCell']) (by unfold maxLen; omega) (by omega) (by have := hb4.size; simp; omega) ?_; intro v2' w6 hown2' hg6 hnil2 hat2; have hrow36 := (hrow34.alloc (.cells #[.int .i64 ((i : Int) / 16)] 3)).kept hg6 hap.keeps; have hap6 : ApartV v2' u3 := hap.grew (hrow34.alloc (.cells #[.int .i64 ((i : Int) / 16)] 3)) hat2)
              | go_in)
            have hsz4 := hb4.size
            exact hend _ _ _ (by rw [em0]; simpa using hown2') (by rw [ee0]; exact hrow36) hap6 (hgb (by simp; omega) ((hnx.trans hb4).trans (.alloc _ _ _)) hg6 hlow2)
          | false =>
            simp only [Bool.not_false, if_true] at ee0
            go_wp2_with (first
              | (go_at_call 50; refine hgr.mono ?_; rintro e w4 ⟨rfl, hb4⟩; have hrow24 := hrow2.kept hb4.keepAll (Classical.em _); have hrow34 := hrow3.kept hb4.keepAll (Classical.em _); have hcon4 := hcon w4 hrow24)
              | (go_at_call 39; refine hcon4.mono ?_; rintro e w5 ⟨rfl, hww⟩; rw [hww]; clear hww w5)
              | (at_builtin; refine wpList_append_own_at _ rfl _ _ 23 rfl w.heap.size 3 i0 (.int .i64 0) 1 8 Try.underlying23 hi hz0 hz1 hz2 rfl (by decide) u2 _ _ rfl (hrow24.alloc _) ⟨w4.heap.size, 0, none⟩ 1 1 [.int .i64 ((i : Int) / 16)] rfl rfl (cell_one_new _ _ _) (by simp [Value.oneCell']) (by unfold maxLen; omega) (by omega) (by have := hb4.size; simp; omega) ?_; intro v2' w6 hown2' hg6 hnil2 hat2; have hrow36 := (hrow34.alloc (.cells #[.int .i64 ((i : Int) / 16)] 3)).kept hg6 hap.keeps; have hap6 : ApartV v2' u3 := hap.grew (hrow34.alloc (.cells #[.int .i64 ((i : Int) / 16)] 3)) hat2)
              | (at_builtin; have _t := hg6; refine wpList_append_own_at _ rfl _ _ 23 rfl w.heap.size 3 i0 (.int .i64 0) 1 8 Try.underlying23 hi hz0 hz1 hz2 rfl (by decide) u3 _ _ rfl (hrow36.alloc _) ⟨w6.heap.size, 0, none⟩ 1 1 [.int .i64 (i : Int)] rfl rfl (cell_one_new _ _ _) (by simp [Value.oneCell']) (by unfold maxLen; omega) (by omega) (by have := hb4.size; have := hg6.size; simp at this ⊢; omega) ?_; intro v3' w8 hown3' hg8 hnil3 hat3)
              | go_in)
            have hsz4 := hb4.size
            have hsz6 := hg6.size
            simp only [World.size_alloc] at hsz6
            exact hend _ _ _ (by rw [em0]; simpa using (hown2'.alloc (.cells #[.int .i64 (i : Int)] 3)).kept hg8 hap6.symm.keeps) (by rw [ee0]; simpa using hown3') (hap6.symm.grew (hown2'.alloc (.cells #[.int .i64 (i : Int)] 3)) hat3).symm
              (hgb (by simp; omega) ((hgb (by simp; omega) ((hnx.trans hb4).trans (.alloc _ _ _)) hg6 hlow2).trans (.alloc _ _ _)) hg8 hlow3)
        | true =>
          simp only [if_true] at em0
          cases who with
          | true =>
            simp only [Bool.not_true, Bool.false_eq_true, if_false] at ee0
            go_wp2_with (first
              | (go_at_call 50; refine hgr.mono ?_; rintro e w4 ⟨rfl, hb4⟩; have hrow24 := hrow2.kept hb4.keepAll (Classical.em _); have hrow34 := hrow3.kept hb4.keepAll (Classical.em _); have hcon4 := hcon w4 hrow24)
              | (go_at_call 39; refine hcon4.mono ?_; rintro e w5 ⟨rfl, hww⟩; rw [hww]; clear hww w5)
              | go_in)
            exact hend _ _ _ (by rw [em0]; exact hrow24) (by rw [ee0]; exact hrow34) hap (hnx.trans hb4)
          | false =>
            simp only [Bool.not_false, if_true] at ee0
            go_wp2_with (first
              | (go_at_call 50; refine hgr.mono ?_; rintro e w4 ⟨rfl, hb4⟩; have hrow24 := hrow2.kept hb4.keepAll (Classical.em _); have hrow34 := hrow3.kept hb4.keepAll (Classical.em _); have hcon4 := hcon w4 hrow24)
              | (go_at_call 39; refine hcon4.mono ?_; rintro e w5 ⟨rfl, hww⟩; rw [hww]; clear hww w5)
              | (at_builtin; refine wpList_append_own_at _ rfl _ _ 23 rfl w.heap.size 3 i0 (.int .i64 0) 1 8 Try.underlying23 hi hz0 hz1 hz2 rfl (by decide) u3 _ _ rfl (hrow34.alloc _) ⟨w4.heap.size, 0, none⟩ 1 1 [.int .i64 (i : Int)] rfl rfl (cell_one_new _ _ _) (by simp [Value.oneCell']) (by unfold maxLen; omega) (by omega) (by have := hb4.size; simp; omega) ?_; intro v3' w8 hown3' hg8 hnil3 hat3)
              | go_in)
            have hsz4 := hb4.size
            exact hend _ _ _ (by rw [em0]; exact (hrow24.alloc (.cells #[.int .i64 (i : Int)] 3)).kept hg8 hap.symm.keeps) (by rw [ee0]; simpa using hown3') (hap.symm.grew (hrow24.alloc (.cells #[.int .i64 (i : Int)] 3)) hat3).symm
              (hgb (by simp; omega) ((hnx.trans hb4).trans (.alloc _ _ _)) hg8 hlow3)
    · have hi256 : i = 256 := by omega
      subst hi256
      clear hlt
      go_wp2_with fail
      go_ret2
      exact ⟨_, _, rfl, hrow2, hrow3, hap, hnx⟩

end Go.Proofs.Ytdhnfhhmacjajaa
