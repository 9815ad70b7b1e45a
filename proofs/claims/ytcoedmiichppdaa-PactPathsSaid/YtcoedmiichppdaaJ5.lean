/-
  Maps of values: what a map's block says, as a function of its key.
-/
import Derived.Test.YtcoedmiichppdaaJ4
import Derived.Lib.SlKeysI
import Derived.Laws.OwnMore
import Derived.Deep.Onto
import Derived.Deep.Cut
import Derived.BigRegion
import Derived.IntWalk
import Derived.Maps.RangeRun

namespace Go.Proofs.Ytcoedmiichppdaa
open Go Go.RowKit Go.Maps Go.Am
set_option linter.unusedVariables false
set_option linter.unusedSimpArgs false

/-- An element reads as itself. -/
def selfE (v : Value) : Option (DataW Value × List MemPlace) := some (.held v, [])

/-- The map's datum says f. -/
structure Tab (q : IntKind) (D : DataW Value) (f : Int → Option Value) : Prop where
  has : ∀ k, Maps.has D (.int q k) = (f k).isSome
  at_ : ∀ k v, f k = some v → ∀ z, D.atKey (.int q k) z = .held v

def putT (f : Int → Option Value) (k : Int) (v : Value) : Int → Option Value := fun x => if x = k then some v else f x

def delT (f : Int → Option Value) (k : Int) : Int → Option Value := fun x => if x = k then none else f x

theorem lit_ne {q : IntKind} {x y : Int} (h : x ≠ y) : Lit.int q x ≠ Lit.int q y := fun e => by cases e; exact h rfl

theorem Tab.empty (q : IntKind) : Tab q (.map []) (fun _ => none) := ⟨fun k => by simp [Maps.has_eq], fun k v h => by cases h⟩

theorem Tab.put {q : IntKind} {D : DataW Value} {f : Int → Option Value} (h : Tab q D f) (hm : IsMap D) (k : Int) (v : Value) : Tab q (D.put (.int q k) (.held v)) (putT f k v) := by
  refine ⟨fun x => ?_, fun x u hx z => ?_⟩
  · by_cases e : x = k
    · subst e; rw [has_put_same hm (by trivial)]; simp [putT]
    · rw [has_put_other (lit_ne e), h.has]; simp [putT, e]
  · by_cases e : x = k
    · subst e
      simp only [putT, if_true, Option.some.injEq] at hx
      subst hx
      exact atKey_put_same hm (by trivial) _ z
    · simp only [putT, e, if_false] at hx
      rw [atKey_put_other (lit_ne e)]
      exact h.at_ x u hx z

theorem Tab.del {q : IntKind} {D : DataW Value} {f : Int → Option Value} (h : Tab q D f) (k : Int) : Tab q (D.del (.int q k)) (delT f k) := by
  refine ⟨fun x => ?_, fun x u hx z => ?_⟩
  · by_cases e : x = k
    · subst e; rw [has_del_same]; simp [delT]
    · rw [has_del_other (lit_ne e), h.has]; simp [delT, e]
  · by_cases e : x = k
    · subst e; simp [delT] at hx
    · simp only [delT, e, if_false] at hx
      rw [atKey_del_other (lit_ne e)]
      exact h.at_ x u hx z

theorem Tab.get {q : IntKind} {D : DataW Value} {f : Int → Option Value} (h : Tab q D f) (k : Int) (z : Value) : D.atKey (.int q k) (.held z) = .held ((f k).getD z) := by
  cases hk : f k with
  | none => rw [atKey_of_not_has (by rw [h.has, hk]; rfl)]; rfl
  | some v => rw [h.at_ k v hk]; rfl

/-- Block b is a map that says f; so many stores at most. -/
structure TabAt (w : World) (q : IntKind) (kt : TypeId) (b n : Nat) (f : Int → Option Value) : Prop where
  own : ∃ D, w.ownsMap Try.prog kt selfE b n D ∧ Tab q D f

theorem TabAt.kept {w w' : World} {q : IntKind} {kt : TypeId} {b n : Nat} {f : Int → Option Value} {l : List Nat} (h : TabAt w q kt b n f) (hg : GrowBut w w' l) (hb : b ∉ l) : TabAt w' q kt b n f := by
  obtain ⟨D, hown, hD⟩ := h.own
  exact ⟨D, hg.map hown hb, hD⟩

theorem TabAt.blt {w : World} {q : IntKind} {kt : TypeId} {b n : Nat} {f : Int → Option Value} (h : TabAt w q kt b n f) : b < w.heap.size := by
  obtain ⟨D, hown, hD⟩ := h.own
  exact hown.lt

theorem TabAt.mono {w : World} {q : IntKind} {kt : TypeId} {b n m : Nat} {f : Int → Option Value} (h : TabAt w q kt b n f) (hn : n ≤ m) : TabAt w q kt b m f := by
  obtain ⟨D, hown, hD⟩ := h.own
  exact ⟨D, hown.mono hn, hD⟩

theorem TabAt.made (w : World) (q : IntKind) (kt : TypeId) : TabAt (w.alloc (.map #[] 0)) q kt w.heap.size 0 (fun _ => none) :=
  ⟨.map [], World.ownsMap_made w Try.prog kt selfE, .empty q⟩

theorem TabAt.look {w : World} {q : IntKind} {kt e t : TypeId} {b n : Nat} {f : Int → Option Value} (h : TabAt w q kt b n f) (K : Keyed Try.prog kt) (hk : Try.prog.underlying kt = some (.int q)) (ht : Try.prog.underlying t = some (.map kt e)) {z : Value} (hz : (zeroValue e).run Try.prog w = .ok z w) {x : Int} (hx : (Lit.int q x).wf = true) :
    (Instr.lookup t (.map (some b)) (.int q x) false).run Try.prog w = .ok ((f x).getD z) w := by
  obtain ⟨D, hown, hD⟩ := h.own
  obtain ⟨v, ps, hrun, hv⟩ := hown.lookup (zd := .held z) (zp := []) K ht hz rfl (keyOf_int_mk hk hx)
  rw [hD.get x z] at hv
  simp only [selfE, Option.some.injEq, Prod.mk.injEq, DataW.held.injEq] at hv
  rw [hrun, hv.1]

theorem TabAt.look_ok {w : World} {q : IntKind} {kt e t : TypeId} {b n : Nat} {f : Int → Option Value} (h : TabAt w q kt b n f) (K : Keyed Try.prog kt) (hk : Try.prog.underlying kt = some (.int q)) (ht : Try.prog.underlying t = some (.map kt e)) {z : Value} (hz : (zeroValue e).run Try.prog w = .ok z w) {x : Int} (hx : (Lit.int q x).wf = true) :
    (Instr.lookup t (.map (some b)) (.int q x) true).run Try.prog w = .ok (.tuple #[(f x).getD z, .bool (f x).isSome]) w := by
  obtain ⟨D, hown, hD⟩ := h.own
  obtain ⟨v, ps, hrun, hv⟩ := hown.look_ok (zd := .held z) (zp := []) K ht hz rfl (keyOf_int_mk hk hx)
  rw [hD.get x z] at hv
  simp only [selfE, Option.some.injEq, Prod.mk.injEq, DataW.held.injEq] at hv
  rw [hrun, hv.1, hD.has]

theorem TabAt.upd {w : World} {q : IntKind} {kt e t : TypeId} {b n : Nat} {f : Int → Option Value} (h : TabAt w q kt b n f) (K : Keyed Try.prog kt) (hk : Try.prog.underlying kt = some (.int q)) (ht : Try.prog.underlying t = some (.map kt e)) (hn : n ≤ 1000000) {x : Int} (hx : (Lit.int q x).wf = true) (v : Value) :
    ∃ w', (Instr.mapUpdate t (.map (some b)) (.int q x) v).run Try.prog w = .ok () w' ∧ TabAt w' q kt b (n + 1) (putT f x v) ∧ GrowBut w w' [b] ∧ w.mapTurned w' b := by
  obtain ⟨D, hown, hD⟩ := h.own
  obtain ⟨w', hrun, hown', ht'⟩ := hown.store K ht (by unfold maxLen; omega) (keyOf_int_mk hk hx) (d := .held v) (ps := []) rfl
  exact ⟨w', hrun, ⟨_, hown', hD.put hown.isMap x v⟩, .of_some ht'.grown, ht'⟩

theorem wpList_putT {w : World} {ops : Array Oper} {rest : List Oper} {o : Oper} {a : Act} {Q : Exit → Act → World → Prop}
    (hg : o.guard = none) (m x v : Operand) (t : TypeId) (hop : o.op = Op.mapUpdate t m x v) {q : IntKind} {kt e : TypeId} {b n : Nat} {f : Int → Option Value}
    (h : TabAt w q kt b n f) (K : Keyed Try.prog kt) (hk : Try.prog.underlying kt = some (.int q)) (ht : Try.prog.underlying t = some (.map kt e)) (hn : n ≤ 1000000)
    (hm : a.eval m = .map (some b)) (k : Int) (val : Value) (hx : a.eval x = .int q k) (hv : a.eval v = val) (hwf : (Lit.int q k).wf = true)
    (hK : ∀ w', TabAt w' q kt b (n + 1) (putT f k val) → GrowBut w w' [b] → wpList Try.prog ops Q rest (a.put o.dst undef) w') :
    wpList Try.prog ops Q (o :: rest) a w := by
  obtain ⟨D, hown, hD⟩ := h.own
  exact wpList_mapUpdate_own w hg m x v t hop kt e K ht selfE b n D hm hown (by unfold maxLen; omega) _ _ _ hx hv (keyOf_int_mk hk hwf) (.held val) [] rfl (fun w' h1 h2 => hK w' ⟨_, h1, hD.put hown.isMap k val⟩ (.of_some h2))

theorem wpList_delT {w : World} {ops : Array Oper} {rest : List Oper} {o : Oper} {a : Act} {Q : Exit → Act → World → Prop}
    (hg : o.guard = none) (m x : Operand) (t kt : TypeId) (hop : o.op = Op.call { callee := Callee.builtin Builtin.delete, args := #[m, x], argTypes := #[t, kt] }) {q : IntKind} {e : TypeId} {b n : Nat} {f : Int → Option Value}
    (h : TabAt w q kt b n f) (K : Keyed Try.prog kt) (hk : Try.prog.underlying kt = some (.int q)) (ht : Try.prog.underlying t = some (.map kt e))
    (hm : a.eval m = .map (some b)) (k : Int) (hx : a.eval x = .int q k) (hwf : (Lit.int q k).wf = true)
    (hK : ∀ w', TabAt w' q kt b n (delT f k) → GrowBut w w' [b] → wpList Try.prog ops Q rest (a.put o.dst (.tuple #[])) w') :
    wpList Try.prog ops Q (o :: rest) a w := by
  obtain ⟨D, hown, hD⟩ := h.own
  exact wpList_delete_own w hg m x t kt hop e K ht selfE b n D hm hown _ _ hx (keyOf_int_mk hk hwf) (fun w' h1 h2 => hK w' ⟨_, h1, hD.del k⟩ (.of_some h2.grown))

end Go.Proofs.Ytcoedmiichppdaa


/-
  Rows, sets and small numbers: what every package's text needs.
-/
namespace Go.Proofs.Ytcoedmiichppdaa
open Go Go.RowKit Go.Maps Go.Am
set_option linter.unusedVariables false
set_option linter.unusedSimpArgs false

/-- The pages seen so far. -/
def seenS (l : List Int) : Int → Option Value := fun k => if k ∈ l then some (.bool true) else none

theorem seenS_snoc (l : List Int) (x : Int) : putT (seenS l) x (.bool true) = seenS (l ++ [x]) := by
  funext k; unfold putT seenS; by_cases e : k = x <;> simp [e]

theorem seenS_at (l : List Int) (x : Int) : (seenS l x).getD (.bool false) = .bool (decide (x ∈ l)) := by
  unfold seenS; by_cases e : x ∈ l <;> simp [e]

theorem keyW : Keyed Try.prog 3 := int_keyed Try.underlying3

theorem boolW (w : World) : (zeroValue 4).run Try.prog w = .ok (.bool false) w := by kernel_rfl

theorem infoW : (Try.prog.info? 3).map (fun i => (i.zero, i.size, i.bytes)) = some (some (.int .i64 0), 1, 8) := by kernel_rfl

theorem wf_small {a : Int} (h0 : 0 ≤ a) (h1 : a < 1000000) : (Lit.int .i64 a).wf = true := by
  simp only [Lit.wf, Bool.and_eq_true, decide_eq_true_eq]
  have hm : IntKind.i64.min = -9223372036854775808 := by decide
  have hM : IntKind.i64.max = 9223372036854775807 := by decide
  rw [hm, hM]
  omega

theorem cell_lt {w : World} {a : Addr} {v : Value} (h : w.cell? a = some v) : a.block < w.heap.size := by
  by_cases h2 : a.block < w.heap.size
  · exact h2
  · exfalso
    have h3 : w.heap[a.block]? = none := Array.getElem?_eq_none (by omega)
    simp [World.cell?, h3] at h

/-- A whole number in a value. -/
def intOf : Value → Nat
  | .int _ k => k.toNat
  | _ => 0

/-- What a row of that length looks like. -/
theorem row_form {w : World} {base : Nat} {e : TypeId} {size n : Nat} {v : Value} {xs : List Value} (h : w.ownsRow base e size v n xs) : ∃ s cap, v = .slice s n cap := by
  rcases h.2 with ⟨rfl, rfl⟩ | ⟨g, cap, _, rfl, _⟩
  · exact ⟨_, _, rfl⟩
  · exact ⟨_, _, rfl⟩

theorem row_block {w : World} {base : Nat} {e : TypeId} {size n : Nat} {v : Value} {xs : List Value} (h : w.ownsRow base e size v n xs) (hn : 0 < n) : ∃ g cap, v = .slice (some ⟨g, 0, none⟩) n cap ∧ base ≤ g ∧ g < w.heap.size := by
  rcases h.2 with ⟨rfl, rfl⟩ | ⟨g, cap, _, rfl, hb, hg, _⟩
  · omega
  · exact ⟨_, _, rfl, hb, (Array.getElem?_eq_some_iff.1 hg).1⟩

theorem row_low {w : World} {base base' : Nat} {e : TypeId} {size n : Nat} {v : Value} {xs : List Value} (h : w.ownsRow base e size v n xs) (hb : base' ≤ base) : w.ownsRow base' e size v n xs := h.mono hb

theorem GrowBut.of_rowZ {a b : World} {o : Option Nat} (h : a.grownBy b o) : GrowBut a b o.toList :=
  ⟨h.os, h.tape, h.output, h.size, fun j hj hn => h.block j hj (fun e => hn (by rw [← e]; simp))⟩

theorem cell_two_new (w : World) (x y : Value) (t : TypeId) : ∀ (j : Nat) u, ([x, y] : List Value)[j]? = some u → (w.alloc (.cells #[x, y] t)).cell? ((⟨w.heap.size, 0, none⟩ : Addr).add j) = some u := by
  intro j u h
  match j with
  | 0 => simp at h; subst h; simp only [Addr.add]; go_simp
  | 1 => simp at h; subst h; simp only [Addr.add]; go_simp
  | n + 2 => simp at h

/-- How many keys. -/
theorem TabAt.len_run {w : World} {b n : Nat} {out : List Int} (h : TabAt w .i64 3 b n (seenS out)) (hn : out.Nodup) : (Builtin.len_ #[103] 3 #[.map (some b)]).run Try.prog w = .ok (.int .i64 out.length) w := by
  obtain ⟨D, hown, hD⟩ := h.own
  have hlen := hown.len Try.underlying103 3
  obtain ⟨es, rfl, hpw, _⟩ := hown.entries keyW
  obtain ⟨es', hD', hko⟩ := hown.keysOf
  obtain rfl : es = es' := by simpa using hD'
  have hp : out.Perm (intKeys (.map es)) := perm_intKeys hpw (fun p hp => by obtain ⟨v, hv⟩ := hko p hp; obtain ⟨x, _, hx, _⟩ := Maps.keyOf_i64 Try.underlying3 hv; exact ⟨x, hx⟩) hn (fun x => by
    rw [hD.has]; unfold seenS; by_cases e : x ∈ out <;> simp [e])
  have e1 : Maps.size (DataW.map es) = out.length := by
    rw [hp.length_eq]; simp [Maps.size_eq, intKeys]
  rw [e1] at hlen
  exact hlen

theorem rowI_open {w : World} {base : Nat} {v : Value} {L : List Int} (hrow : w.ownsRow base 3 1 v L.length (L.map (Value.int .i64))) : ∃ s cap g, v = .slice s L.length cap ∧ (0 < L.length → s = some ⟨g, 0, none⟩ ∧ ∀ i, i < L.length → w.cell? ⟨g, i, none⟩ = some (.int .i64 (L.getD i 0))) := by
  obtain ⟨s, cap, rfl⟩ := row_form hrow
  rcases Nat.eq_zero_or_pos L.length with h0 | h0
  · exact ⟨s, cap, 0, rfl, fun h => by omega⟩
  · obtain ⟨g, cap', hv, _, hgl⟩ := row_block hrow h0
    cases hv
    refine ⟨_, _, g, rfl, fun _ => ⟨rfl, fun i hi => ?_⟩⟩
    rw [hrow.cellAt i (by omega), List.getElem?_map, List.getD_eq_getElem?_getD, List.getElem?_eq_getElem hi]; rfl

/-- A row of numbers. -/
def RowJ (w : World) (s : Option Addr) (g : Nat) (zs : List Int) : Prop := 0 < zs.length → s = some ⟨g, 0, none⟩ ∧ ∀ i, i < zs.length → w.cell? ⟨g, i, none⟩ = some (.int .i64 (zs.getD i 0))

theorem RowJ.kept {w w' : World} {s : Option Addr} {g : Nat} {zs : List Int} (h : RowJ w s g zs) (hg : GrowBut w w' []) : RowJ w' s g zs := fun h0 => ⟨(h h0).1, fun i hi => hg.cell ((h h0).2 i hi) (by simp)⟩

theorem take_succ_getD {l : List Int} {j : Nat} (h : j < l.length) : l.take (j + 1) = l.take j ++ [l.getD j 0] := by
  rw [List.take_add_one, List.getElem?_eq_getElem h, List.getD_eq_getElem?_getD, List.getElem?_eq_getElem h]; rfl

theorem seenS_del (l : List Int) (hn : l.Nodup) (x : Int) : delT (seenS l) x = seenS (l.erase x) := by
  funext k
  unfold delT seenS
  by_cases e : k = x
  · subst e; simp [hn.mem_erase_iff]
  · simp [e, hn.mem_erase_iff]

end Go.Proofs.Ytcoedmiichppdaa


/-
  The document's paths (presidioref18): On, Path where it leads somewhere.
-/
namespace Go.Proofs.Ytcoedmiichppdaa
open Go Go.RowKit Go.Maps Go.Am
set_option linter.unusedVariables false
set_option linter.unusedSimpArgs false

/-- The edge that an event is. -/
def onN (x : Int × Nat) (e : Int) : Option (Int × Nat) :=
  if x.1 = 0 ∧ x.2 = 0 ∧ e = 1 then some (1, 0)
  else if x.1 = 1 ∧ x.2 = 0 ∧ e = 2 then some (2, 0)
  else if x.1 = 1 ∧ x.2 = 0 ∧ e = 7 then some (0, 0)
  else if x.1 = 2 ∧ e = 3 then some (2, x.2 + 1)
  else if x.1 = 2 ∧ 0 < x.2 ∧ e = 4 then some (2, x.2 - 1)
  else if x.1 = 2 ∧ x.2 = 0 ∧ (e = 5 ∨ e = 6) then some (0, 0)
  else none

/-- Where events lead. -/
def pathN (l : List Int) : Option (Int × Nat) := l.foldl (fun x e => x.bind (onN · e)) (some (0, 0))

theorem pathN_snoc (l : List Int) (e : Int) : pathN (l ++ [e]) = (pathN l).bind (onN · e) := by simp [pathN]

theorem pathN_take {l : List Int} {x : Int × Nat} (h : pathN l = some x) : ∀ j, j ≤ l.length → ∃ y, pathN (l.take j) = some y := by
  have key : ∀ n j, j + n = l.length → ∃ y, pathN (l.take j) = some y := by
    intro n
    induction n with
    | zero => intro j hj; rw [List.take_of_length_le (by omega)]; exact ⟨x, h⟩
    | succ n ih =>
      intro j hj
      obtain ⟨y, hy⟩ := ih (j + 1) (by omega)
      rw [take_succ_getD (by omega), pathN_snoc] at hy
      cases hp : pathN (l.take j) with
      | none => rw [hp] at hy; simp at hy
      | some z => exact ⟨z, rfl⟩
  intro j hj
  exact key (l.length - j) j (by omega)

set_option maxRecDepth 100000 in
set_option maxHeartbeats 4000000 in
theorem on_calls (x y : Int × Nat) (e : Int) (w : World) (h : onN x e = some y) (hx : x.2 ≤ 1000) : Calls Try.prog 82 #[.int .i64 x.1, .int .i64 x.2, .int .i64 e] w fun r w' => r = .returned (.tuple #[.int .i64 y.1, .int .i64 y.2, .bool true]) ∧ w' = w := by
  obtain ⟨s, n⟩ := x
  unfold onN at h
  simp only at h hx ⊢
  split at h
  · rename_i hc
    obtain ⟨rfl, rfl, rfl⟩ := hc
    cases h
    go_enter Try.func82, Try.ntmps82
    go_wp2_with fail
    refine bodyPost_ret_by (v := .tuple #[(.int .i64 1), (.int .i64 0), .bool true]) (by simp only [results, Try.f82]; go_simp) rfl ?_
    exact ⟨rfl, rfl⟩
  split at h
  · rename_i _ hc
    obtain ⟨rfl, rfl, rfl⟩ := hc
    cases h
    go_enter Try.func82, Try.ntmps82
    go_wp2_with fail
    refine bodyPost_ret_by (v := .tuple #[(.int .i64 2), (.int .i64 0), .bool true]) (by simp only [results, Try.f82]; go_simp) rfl ?_
    exact ⟨rfl, rfl⟩
  split at h
  · rename_i _ _ hc
    obtain ⟨rfl, rfl, rfl⟩ := hc
    cases h
    go_enter Try.func82, Try.ntmps82
    go_wp2_with fail
    refine bodyPost_ret_by (v := .tuple #[(.int .i64 0), (.int .i64 0), .bool true]) (by simp only [results, Try.f82]; go_simp) rfl ?_
    exact ⟨rfl, rfl⟩
  split at h
  · rename_i _ _ _ hc
    obtain ⟨rfl, rfl⟩ := hc
    cases h
    have h0 : (0 : Int) ≤ (n : Int) := by omega
    have hw := IntWalk.i64_in ((n : Int) + 1) (by omega)
    go_enter Try.func82, Try.ntmps82
    go_wp2_with fail
    refine bodyPost_ret_by (v := .tuple #[(.int .i64 2), (.int .i64 ((n : Int) + 1)), .bool true]) (by simp only [results, Try.f82]; go_simp) rfl ?_
    exact ⟨by simp, rfl⟩
  split at h
  · rename_i _ _ _ _ hc
    obtain ⟨rfl, hn, rfl⟩ := hc
    cases h
    have h0 : (0 : Int) ≤ (n : Int) := by omega
    have h1 : (0 : Int) < (n : Int) := by omega
    have hd : (n : Int) - 1 = ((n - 1 : Nat) : Int) := by omega
    have hw := IntWalk.i64_in ((n - 1 : Nat) : Int) (by omega)
    generalize n - 1 = q at hd hw ⊢
    go_enter Try.func82, Try.ntmps82
    go_wp2_with fail
    refine bodyPost_ret_by (v := .tuple #[(.int .i64 2), (.int .i64 q), .bool true]) (by simp only [results, Try.f82]; go_simp) rfl ?_
    exact ⟨rfl, rfl⟩
  split at h
  · rename_i _ _ _ _ _ hc
    obtain ⟨rfl, rfl, he⟩ := hc
    cases h
    rcases he with rfl | rfl
    · go_enter Try.func82, Try.ntmps82
      go_wp2_with fail
      refine bodyPost_ret_by (v := .tuple #[(.int .i64 0), (.int .i64 0), .bool true]) (by simp only [results, Try.f82]; go_simp) rfl ?_
      exact ⟨rfl, rfl⟩
    · go_enter Try.func82, Try.ntmps82
      go_wp2_with fail
      refine bodyPost_ret_by (v := .tuple #[(.int .i64 0), (.int .i64 0), .bool true]) (by simp only [results, Try.f82]; go_simp) rfl ?_
      exact ⟨rfl, rfl⟩
  · cases h

theorem onN_small {x y : Int × Nat} {e : Int} (h : onN x e = some y) : y.2 ≤ x.2 + 1 := by
  obtain ⟨s, n⟩ := x
  unfold onN at h
  simp only at h ⊢
  split at h
  · cases h; simp
  split at h
  · cases h; simp
  split at h
  · cases h; simp
  split at h
  · cases h; simp
  split at h
  · cases h; simp; omega
  split at h
  · cases h; simp
  · cases h

theorem pathN_small {l : List Int} {x : Int × Nat} (h : pathN l = some x) : ∀ j y, j ≤ l.length → pathN (l.take j) = some y → y.2 ≤ j := by
  intro j
  induction j with
  | zero => intro y _ hy; simp [pathN] at hy; subst hy; simp
  | succ j ih =>
    intro y hj hy
    rw [take_succ_getD (by omega), pathN_snoc] at hy
    obtain ⟨z, hz⟩ := pathN_take h j (by omega)
    rw [hz] at hy
    have := ih z (by omega) hz
    have := onN_small (x := z) hy
    omega

set_option maxRecDepth 100000 in
set_option maxHeartbeats 4000000 in
theorem path_calls (l : List Int) (x : Int × Nat) (w : World) {base : Nat} {v : Value} (hrow : w.ownsRow base 3 1 v l.length (l.map (Value.int .i64))) (h : pathN l = some x) (hl : l.length ≤ 1000) : Calls Try.prog 41 #[v] w fun r w' => r = .returned (.tuple #[.int .i64 x.1, .int .i64 x.2, .bool true]) ∧ w' = w := by
  obtain ⟨s, cap, g, rfl, hcs⟩ := rowI_open hrow
  go_enter Try.func41, Try.ntmps41
  go_wp2_with fail
  go_loopw [5, 6, 7] (fun v5 v6 v7 wx => ∃ (j : Nat) (y : Int × Nat), v7 = .int .i64 j ∧ j ≤ l.length ∧ pathN (l.take j) = some y ∧ v5 = .int .i64 y.1 ∧ v6 = .int .i64 y.2 ∧ wx = w) (fun _ _ v7 _ => l.length - intOf v7)
  case atStart => exact ⟨0, (0, 0), rfl, by omega, rfl, rfl, rfl, rfl⟩
  case round =>
    obtain ⟨j, y, rfl, hj, hy, rfl, rfl, rfl⟩ := hrel
    by_cases hlt : j < l.length
    · have hlt' : (j : Int) < (l.length : Int) := by omega
      obtain ⟨rfl, hc⟩ := hcs (by omega)
      have c0 := hc j hlt
      obtain ⟨z, hz⟩ := pathN_take h (j + 1) (by omega)
      have hz' := hz
      rw [take_succ_getD hlt, pathN_snoc, hy] at hz'
      have hsm := pathN_small h j y (by omega) hy
      have hOn := on_calls y z (l.getD j 0) wr hz' (by omega)
      clear hz' hc hcs hrow h hy
      generalize l.getD j 0 = e at c0 hOn
      go_wp2_with (first
        | (go_at_call 82; (refine hOn.mono ?_; clear hOn; rintro r w1 ⟨rfl, rfl⟩))
        | fail)
      exact ⟨⟨j + 1, z, by simp, by omega, hz, by first | rfl | trivial, by first | rfl | trivial, by first | rfl | trivial⟩, by simp [intOf]; omega⟩
    · have hge : ¬ (j : Int) < (l.length : Int) := by omega
      have hjl : j = l.length := by omega
      rw [hjl, List.take_length, h] at hy
      cases hy
      clear h hrow hcs
      go_wp2_with fail
      refine bodyPost_ret_by (v := .tuple #[.int .i64 x.1, .int .i64 x.2, .bool true]) (by simp only [results, Try.f41]; go_simp) rfl ?_
      exact ⟨rfl, rfl⟩

end Go.Proofs.Ytcoedmiichppdaa


/-
  What code and calls come to, from an abstract state: some of many abstract ends. Rules, one for each kind of code.
-/
namespace Go.Am
open Go Go.RowKit
set_option linter.unusedVariables false
set_option linter.unusedSimpArgs false

/-- No name is given from the state's own ones on, below `M`. -/
def Room (M : Nat) (ρ : Ren) (s : AState) : Prop := s.next ≤ M ∧ Fresh ρ s.next M

theorem Room.fresh {M : Nat} {ρ : Ren} {s : AState} (h : Room M ρ s) {m : Nat} (hm : m ≤ M) : Fresh ρ s.next m := h.2.mono (Nat.le_refl _) hm

abbrev CK := AExit → AAct → AState → Prop
abbrev VK := AVal → AState → Prop

section
variable {σ : Syms} {N0 : Nat} {w0 : World} {P : Program} {M : Nat}

theorem Room.post {ρ ρ' : Ren} {s s' : AState} {w w' : World} (h : Room M ρ s) (k : Post σ N0 w0 ρ s w ρ' s' w') (hm : s'.next ≤ M) : Room M ρ' s' := ⟨hm, k.fresh h.2⟩

def OutK (M : Nat) (σ : Syms) (N0 : Nat) (w0 : World) (ρ : Ren) (s : AState) (w : World) (K : CK) : Exit → Act → World → Prop :=
  fun e2 act' w' => ∃ e a' s', K e a' s' ∧ s'.next ≤ M ∧ Out σ N0 w0 ρ s w e a' s' e2 act' w'

theorem OutK.of {ρ ρ1 : Ren} {s s1 : AState} {w w1 : World} {K : CK} (h : Post σ N0 w0 ρ s w ρ1 s1 w1) (hc : Room M ρ s) (h1 : s1.next ≤ M) {e2 : Exit} {act' : Act} {w' : World} (hq : OutK M σ N0 w0 ρ1 s1 w1 K e2 act' w') : OutK M σ N0 w0 ρ s w K e2 act' w' := by
  obtain ⟨e, a', s', hk, hm, ho⟩ := hq
  exact ⟨e, a', s', hk, hm, ho.of h (hc.fresh h1)⟩

theorem OutK.mono {ρ : Ren} {s : AState} {w : World} {K K' : CK} (hk : ∀ e a s, K e a s → K' e a s) {e2 : Exit} {act' : Act} {w' : World} (hq : OutK M σ N0 w0 ρ s w K e2 act' w') : OutK M σ N0 w0 ρ s w K' e2 act' w' := by
  obtain ⟨e, a', s', h, ho⟩ := hq
  exact ⟨e, a', s', hk _ _ _ h, ho⟩

/-- What code comes to. -/
def CodeTo (M : Nat) (P : Program) (σ : Syms) (N0 : Nat) (w0 : World) (c : Code) (a : AAct) (s : AState) (K : CK) : Prop :=
  ∀ ρ w act, ARel σ ρ a act → WRel σ N0 w0 ρ s w → Room M ρ s → c.wp P (OutK M σ N0 w0 ρ s w K) act w

/-- What a call comes to. -/
def CallTo (M : Nat) (P : Program) (σ : Syms) (N0 : Nat) (w0 : World) (f : FuncId) (args : List AVal) (s : AState) (K : VK) : Prop :=
  ∀ ρ w (us : Array Value), WRel σ N0 w0 ρ s w → Room M ρ s → VRels σ ρ args us.toList →
    Calls P f us w (fun e w' => ∃ v s', K v s' ∧ s'.next ≤ M ∧ ∃ u ρ', e = .returned u ∧ VRel σ ρ' v u ∧ Post σ N0 w0 ρ s w ρ' s' w')

/-- What operations come to, one behind the other. -/
def OpsTo (M : Nat) (P : Program) (σ : Syms) (N0 : Nat) (w0 : World) (ops : Array Oper) (l : List Oper) (a : AAct) (s : AState) (K : AAct → AState → Prop) : Prop :=
  ∀ ρ w act (Q : Exit → Act → World → Prop), ARel σ ρ a act → WRel σ N0 w0 ρ s w → Room M ρ s → (∀ act' w' a' s' ρ', K a' s' → s'.next ≤ M → ARel σ ρ' a' act' → Post σ N0 w0 ρ s w ρ' s' w' → Q .normal act' w') → wpList P ops Q l act w

/-- What comes of code inside a scope. -/
def InScopeTo (M : Nat) (P : Program) (σ : Syms) (N0 : Nat) (w0 : World) (body c : Code) (a : AAct) (s : AState) (K : CK) : Prop :=
  ∀ ρ w act, ARel σ ρ a act → WRel σ N0 w0 ρ s w → Room M ρ s → ∀ b k cs, Comes' P (lone (b.at act (.code c :: .inScope body :: k)) cs w) b k cs (OutK M σ N0 w0 ρ s w K)

theorem CodeTo.mono {c : Code} {a : AAct} {s : AState} {K K' : CK} (h : CodeTo M P σ N0 w0 c a s K) (hk : ∀ e a s, K e a s → K' e a s) : CodeTo M P σ N0 w0 c a s K' :=
  fun ρ w act ha hw hc => wp_mono (h ρ w act ha hw hc) fun _ _ _ hq => hq.mono hk

theorem CallTo.mono {f : FuncId} {args : List AVal} {s : AState} {K K' : VK} (h : CallTo M P σ N0 w0 f args s K) (hk : ∀ v s, K v s → K' v s) : CallTo M P σ N0 w0 f args s K' :=
  fun ρ w us hw hc hv => (h ρ w us hw hc hv).mono fun e w' ⟨v, s', h1, h2⟩ => ⟨v, s', hk _ _ h1, h2⟩

theorem CodeTo.of_run {rec : Rec} (hrec : RunOk P σ N0 w0 rec) {c : Code} {a a' : AAct} {s s' : AState} {e : AExit} {K : CK} (h : rec (.code c a) s = .ok (.out e a', s')) (hm : s'.next ≤ M) (hk : K e a' s') : CodeTo M P σ N0 w0 c a s K :=
  fun ρ w act ha hw hc => wp_mono (hrec.code _ _ _ _ _ _ h ρ w act ha hw (hc.fresh hm)) fun _ _ _ hq => ⟨e, a', s', hk, hm, hq⟩

theorem CallTo.of_run {rec : Rec} (hrec : RunOk P σ N0 w0 rec) {f : FuncId} {args : List AVal} {s s' : AState} {v : AVal} {K : VK} (hf : plainFn P f = true) (h : rec (.call f args) s = .ok (.val v, s')) (hm : s'.next ≤ M) (hk : K v s') : CallTo M P σ N0 w0 f args s K := by
  intro ρ w us hw hc hv
  obtain ⟨v', e1, hcall⟩ := hrec.call _ _ _ _ _ h hf ρ w us hw (hc.fresh hm) hv
  cases e1
  exact hcall.mono fun e w' hq => ⟨v, s', hk, hm, hq⟩

theorem CallTo.of_prim {f : FuncId} {p : List AVal → AState → R (AVal × AState)} (hp : PrimOk P σ N0 w0 f p) {args : List AVal} {s s' : AState} {v : AVal} {K : VK} (h : p args s = .ok (v, s')) (hm : s'.next ≤ M) (hk : K v s') : CallTo M P σ N0 w0 f args s K :=
  fun ρ w us hw hc hv => (hp.sound _ _ _ _ h ρ w us hw (hc.fresh hm) hv).mono fun e w' hq => ⟨v, s', hk, hm, hq⟩

theorem OutK.one {ρ : Ren} {s : AState} {w : World} {K : CK} {e : AExit} {a : AAct} {act : Act} (hk : K e a s) (ha : ARel σ ρ a act) (hw : WRel σ N0 w0 ρ s w) (hc : Room M ρ s) : OutK M σ N0 w0 ρ s w K e.to act w :=
  ⟨e, a, s, hk, hc.1, rfl, ρ, ha, Post.refl hw⟩

theorem CodeTo.skip {a : AAct} {s : AState} {K : CK} (h : K .normal a s) : CodeTo M P σ N0 w0 .skip a s K := fun ρ w act ha hw hc => wp_skip (OutK.one h ha hw hc)
theorem CodeTo.label {l : Nat} {a : AAct} {s : AState} {K : CK} (h : K .normal a s) : CodeTo M P σ N0 w0 (.label l) a s K := fun ρ w act ha hw hc => wp_label (OutK.one h ha hw hc)
theorem CodeTo.exit {id : Nat} {a : AAct} {s : AState} {K : CK} (h : K (.exit id) a s) : CodeTo M P σ N0 w0 (.exit id) a s K := fun ρ w act ha hw hc => wp_exit (OutK.one h ha hw hc)
theorem CodeTo.goto {l : Nat} {a : AAct} {s : AState} {K : CK} (h : K (.goto l) a s) : CodeTo M P σ N0 w0 (.goto l) a s K := fun ρ w act ha hw hc => wp_goto (OutK.one h ha hw hc)
theorem CodeTo.ret {a : AAct} {s : AState} {K : CK} (h : K .ret a s) : CodeTo M P σ N0 w0 .ret a s K := fun ρ w act ha hw hc => wp_ret (OutK.one h ha hw hc)

/-- What follows code in a row: the second part, where the first one ends as it should. -/
def Then (M : Nat) (P : Program) (σ : Syms) (N0 : Nat) (w0 : World) (y : Code) (K : CK) : CK
  | .normal, a, s => CodeTo M P σ N0 w0 y a s K
  | e, a, s => K e a s

theorem CodeTo.seq {x y : Code} {a : AAct} {s : AState} {K : CK} (h : CodeTo M P σ N0 w0 x a s (Then M P σ N0 w0 y K)) : CodeTo M P σ N0 w0 (.seq x y) a s K := by
  intro ρ w act ha hw hc
  refine wp_seq (wp_mono (h ρ w act ha hw hc) fun e2 act1 w1 hq => ?_)
  obtain ⟨e, a1, s1, hk, hm, rfl, ρ1, ha1, hP⟩ := hq
  cases e with
  | normal => exact wp_mono (hk ρ1 w1 act1 ha1 hP.wrel (hc.post hP hm)) fun _ _ _ hq => hq.of hP hc hm
  | exit id => exact ⟨_, a1, s1, hk, hm, rfl, ρ1, ha1, hP⟩
  | goto l => exact ⟨_, a1, s1, hk, hm, rfl, ρ1, ha1, hP⟩
  | ret => exact ⟨_, a1, s1, hk, hm, rfl, ρ1, ha1, hP⟩

theorem CodeTo.cond {c : Operand} {x y : Code} {a : AAct} {s : AState} {K : CK} {b : Bool} (hb : aev a c = .ok (.lit (.bool b))) (h : CodeTo M P σ N0 w0 (bif b then x else y) a s K) : CodeTo M P σ N0 w0 (.cond c x y) a s K := by
  intro ρ w act ha hw hc
  have hcv : act.eval c = .bool b := asBoolLit_ok (a := .lit (.bool b)) rfl (aev_of c (fun t v _ hv => ha.get t v hv) _ hb)
  refine wp_cond hcv ?_
  cases b with
  | true => exact h ρ w act ha hw hc
  | false => exact h ρ w act ha hw hc

/-- Behind a block. -/
def OutOf (id : Nat) (K : CK) : CK
  | .exit id', a, s => K (bif Nat.beq id' id then .normal else .exit id') a s
  | e, a, s => K e a s

theorem CodeTo.block {id : Nat} {x : Code} {a : AAct} {s : AState} {K : CK} (h : CodeTo M P σ N0 w0 x a s (OutOf id K)) : CodeTo M P σ N0 w0 (.block id x) a s K := by
  intro ρ w act ha hw hc
  refine wp_block (wp_mono (h ρ w act ha hw hc) fun e2 act1 w1 hq => ?_)
  obtain ⟨e, a1, s1, hk, hm, rfl, ρ1, ha1, hP⟩ := hq
  cases e with
  | exit id' =>
    by_cases hid : id' = id
    · subst hid
      have : Nat.beq id' id' = true := Nat.beq_refl _
      simp only [AExit.to, Exit.inBlock, if_true]
      simp only [OutOf, this, cond_true] at hk
      exact ⟨_, a1, s1, hk, hm, rfl, ρ1, ha1, hP⟩
    · have : Nat.beq id' id = false := by
        cases hq : Nat.beq id' id with
        | false => rfl
        | true => exact absurd (Nat.eq_of_beq_eq_true hq) hid
      simp only [AExit.to, Exit.inBlock, hid, if_false]
      simp only [OutOf, this, cond_false] at hk
      exact ⟨_, a1, s1, hk, hm, rfl, ρ1, ha1, hP⟩
  | normal => exact ⟨_, a1, s1, hk, hm, rfl, ρ1, ha1, hP⟩
  | goto l => exact ⟨_, a1, s1, hk, hm, rfl, ρ1, ha1, hP⟩
  | ret => exact ⟨_, a1, s1, hk, hm, rfl, ρ1, ha1, hP⟩

/-- Behind a round. -/
def Round (J : AAct → AState → Prop) (K : CK) : CK
  | .normal, a, s => J a s
  | e, a, s => K e a s

theorem CodeTo.loop {x : Code} {J : Nat → AAct → AState → Prop} {K : CK} (hb : ∀ n a s, J n a s → CodeTo M P σ N0 w0 x a s (Round (fun a s => ∃ m, m < n ∧ J m a s) K)) :
    ∀ n a s, J n a s → CodeTo M P σ N0 w0 (.loop x) a s K := by
  have key : ∀ n a s, J n a s → ∀ ρ w act, ARel σ ρ a act → WRel σ N0 w0 ρ s w → Room M ρ s → ∀ b k cs, Comes' P (lone (b.at act (.code x :: .inLoop x :: k)) cs w) b k cs (OutK M σ N0 w0 ρ s w K) := by
    intro n
    induction n using Nat.strongRecOn with
    | _ n ih =>
      intro a s hJ ρ w act ha hw hc b k cs
      obtain ⟨e2, act1, w1, ⟨e, a1, s1, hk, hm, hq, ρ1, ha1, hP⟩, harr⟩ := hb n a s hJ ρ w act ha hw hc b (.inLoop x :: k) cs
      cases e with
      | normal =>
        subst hq
        obtain ⟨m, hmn, hJ1⟩ := hk
        obtain ⟨e3, act2, w2, hq2, harr2⟩ := ih m hmn a1 s1 hJ1 ρ1 w1 act1 ha1 hP.wrel (hc.post hP hm) b k cs
        exact ⟨e3, act2, w2, hq2.of hP hc hm, .of_steps (Steps.trans harr (.one step_inLoop)) harr2⟩
      | exit id => subst hq; exact ⟨_, act1, w1, ⟨_, a1, s1, hk, hm, rfl, ρ1, ha1, hP⟩, .pass (x := .inLoop x) rfl (fun _ _ => .inl (by simp [AExit.to])) harr⟩
      | goto l => subst hq; exact ⟨_, act1, w1, ⟨_, a1, s1, hk, hm, rfl, ρ1, ha1, hP⟩, .pass (x := .inLoop x) rfl (fun _ _ => .inl (by simp [AExit.to])) harr⟩
      | ret => subst hq; exact ⟨_, act1, w1, ⟨_, a1, s1, hk, hm, rfl, ρ1, ha1, hP⟩, .pass (x := .inLoop x) rfl (fun _ _ => .inl (by simp [AExit.to])) harr⟩
  intro n a s hJ ρ w act ha hw hc b k cs
  obtain ⟨e2, act', w', hq, harr⟩ := key n a s hJ ρ w act ha hw hc b k cs
  exact ⟨e2, act', w', hq, .of_steps (.one step_loop) harr⟩

/-- Behind a part of a scope. -/
def Scoped (M : Nat) (P : Program) (σ : Syms) (N0 : Nat) (w0 : World) (body : Code) (K : CK) : CK
  | .goto l, a, s => match findLabel body l with
    | some rest => InScopeTo M P σ N0 w0 body rest a s K
    | none => K (.goto l) a s
  | e, a, s => K e a s

theorem InScopeTo.of {body c : Code} {a : AAct} {s : AState} {K : CK} (h : CodeTo M P σ N0 w0 c a s (Scoped M P σ N0 w0 body K)) : InScopeTo M P σ N0 w0 body c a s K := by
  intro ρ w act ha hw hc b k cs
  obtain ⟨e2, act1, w1, ⟨e, a1, s1, hk, hm, hq, ρ1, ha1, hP⟩, harr⟩ := h ρ w act ha hw hc b (.inScope body :: k) cs
  cases e with
  | normal => subst hq; exact ⟨.normal, act1, w1, ⟨_, a1, s1, hk, hm, rfl, ρ1, ha1, hP⟩, Steps.trans harr (.one step_inScope)⟩
  | exit id => subst hq; exact ⟨.exit id, act1, w1, ⟨_, a1, s1, hk, hm, rfl, ρ1, ha1, hP⟩, fun k' hk => harr k' (by simp [exitTo, hk])⟩
  | ret => subst hq; exact ⟨.ret, act1, w1, ⟨_, a1, s1, hk, hm, rfl, ρ1, ha1, hP⟩, harr⟩
  | goto l =>
    subst hq
    simp only [Scoped] at hk
    split at hk
    · rename_i rest hl
      obtain ⟨e3, act2, w2, hq2, harr2⟩ := hk ρ1 w1 act1 ha1 hP.wrel (hc.post hP hm) b k cs
      exact ⟨e3, act2, w2, hq2.of hP hc hm, .of_steps (harr _ (by simp [gotoIn, hl])) harr2⟩
    · rename_i hl
      exact ⟨.goto l, act1, w1, ⟨_, a1, s1, hk, hm, rfl, ρ1, ha1, hP⟩, fun k' hk => harr k' (by simp [gotoIn, hl, hk])⟩

theorem CodeTo.scope {x : Code} {a : AAct} {s : AState} {K : CK} (h : InScopeTo M P σ N0 w0 x x a s K) : CodeTo M P σ N0 w0 (.scope x) a s K := by
  intro ρ w act ha hw hc b k cs
  obtain ⟨e2, act', w', hq, harr⟩ := h ρ w act ha hw hc b k cs
  exact ⟨e2, act', w', hq, .of_steps (.one step_scope) harr⟩

theorem CodeTo.region {id : Nat} {ops : Array Oper} {a : AAct} {s : AState} {K : CK} (h : OpsTo M P σ N0 w0 ops ops.toList a s (K .normal)) : CodeTo M P σ N0 w0 (.region id ops false) a s K :=
  fun ρ w act ha hw hc => wp_region_list (h ρ w act _ ha hw hc fun act' w' a' s' ρ' hk hm h1 h2 => ⟨.normal, a', s', hk, hm, rfl, ρ', h1, h2⟩)

/-! ### Operations -/
theorem OpsTo.nil {ops : Array Oper} {a : AAct} {s : AState} {K : AAct → AState → Prop} (h : K a s) : OpsTo M P σ N0 w0 ops [] a s K :=
  fun ρ w act Q ha hw hc hQ => hQ act w a s ρ h hc.1 ha (Post.refl hw)

theorem OpsTo.mono {ops : Array Oper} {l : List Oper} {a : AAct} {s : AState} {K K' : AAct → AState → Prop} (h : OpsTo M P σ N0 w0 ops l a s K) (hk : ∀ a s, K a s → K' a s) : OpsTo M P σ N0 w0 ops l a s K' :=
  fun ρ w act Q ha hw hc hQ => h ρ w act Q ha hw hc fun act' w' a' s' ρ' h1 hm h2 h3 => hQ act' w' a' s' ρ' (hk _ _ h1) hm h2 h3

theorem OpsTo.behind {ops : Array Oper} {l : List Oper} {ρ ρ1 : Ren} {s s1 : AState} {w w1 : World} {a1 : AAct} {act1 : Act} {K : AAct → AState → Prop} {Q : Exit → Act → World → Prop} (h : OpsTo M P σ N0 w0 ops l a1 s1 K)
    (ha : ARel σ ρ1 a1 act1) (hP : Post σ N0 w0 ρ s w ρ1 s1 w1) (hc : Room M ρ s) (hm : s1.next ≤ M) (hQ : ∀ act' w' a' s' ρ', K a' s' → s'.next ≤ M → ARel σ ρ' a' act' → Post σ N0 w0 ρ s w ρ' s' w' → Q .normal act' w') : wpList P ops Q l act1 w1 :=
  h ρ1 w1 act1 Q ha hP.wrel (hc.post hP hm) fun act' w' a' s' ρ' h1 hm2 h2 h3 => hQ act' w' a' s' ρ' h1 hm2 h2 (hP.trans (hc.fresh hm) h3)

/-- An operation that the machine runs. -/
theorem OpsTo.step {rec : Rec} (hrec : RunOk P σ N0 w0 rec) {ops : Array Oper} {o : Oper} {l : List Oper} {a a1 : AAct} {s s1 : AState} {K : AAct → AState → Prop} (h1 : stepOp P rec ops.toList o a s = .ok (a1, s1)) (hm : s1.next ≤ M)
    (h : OpsTo M P σ N0 w0 ops l a1 s1 K) : OpsTo M P σ N0 w0 ops (o :: l) a s K := by
  intro ρ w act Q ha hw hc hQ
  unfold stepOp at h1
  replace h1 := R.bind_ok' h1
  obtain ⟨b, hb, h1⟩ := h1
  have hwant : Region.wanted o (yielded ops act.tmps) = b := wantedA_ok hb fun t v _ hv => ha.get t v hv
  show (if Region.wanted o (yielded ops act.tmps) then _ else _)
  rw [hwant]
  cases b with
  | true =>
    rw [cond_true] at h1
    replace h1 := R.bind_ok' h1
    obtain ⟨⟨v, s2⟩, hx, h1⟩ := h1
    replace h1 := R.bind_ok' h1
    obtain ⟨a2, hp, h1⟩ := h1
    cases h1
    simp only [if_true]
    refine .inl (exec_sound hrec.toRec (r := (v, s2)) hw (hc.fresh hm) (fun x _ => aev_of x fun t v _ hv => ha.get t v hv) hx fun u w' ρ' hv hP => ?_)
    exact h.behind (ha.put hP.ext hv hp) hP hc hm hQ
  | false =>
    rw [cond_false] at h1
    replace h1 := R.bind_ok' h1
    obtain ⟨a2, hp, h1⟩ := h1
    cases h1
    simp only [Bool.false_eq_true, if_false]
    exact h.behind (ha.put (Ext.refl _) VRel.undef hp) (Post.refl hw) hc hc.1 hQ

/-- A call of a function. -/
theorem OpsTo.call {ops : Array Oper} {o : Oper} {l : List Oper} {a : AAct} {s s1 : AState} {f : FuncId} {args : List AVal} {K : AAct → AState → Prop} (hg : wantedA ops.toList a o = .ok true) (h1 : aop P (aev a) o s = .ok (.enter f args, s1)) (hm : s1.next ≤ M)
    (h : CallTo M P σ N0 w0 f args s fun v s2 => ∃ a2, a.put o.dst v = .ok a2 ∧ OpsTo M P σ N0 w0 ops l a2 s2 K) : OpsTo M P σ N0 w0 ops (o :: l) a s K := by
  intro ρ w act Q ha hw hc hQ
  have hwant : Region.wanted o (yielded ops act.tmps) = true := wantedA_ok hg fun t v _ hv => ha.get t v hv
  show (if Region.wanted o (yielded ops act.tmps) then _ else _)
  rw [hwant]
  simp only [if_true]
  left
  unfold Oper.wp
  rcases aop_sound hw (hc.fresh hm) (fun x _ => aev_of x fun t v _ hv => ha.get t v hv) h1 (by simp) with ⟨v', e1, _⟩ | ⟨f', args', us, e1, e2, hp, hv, hr⟩
  · cases e1
  · cases e1
    rw [hr, Oper.upon_enter]
    refine (h ρ w us hw hc hv).mono fun e w' ⟨v, s2, ⟨a2, hp2, hk⟩, hm2, u, ρ', he, h3, h4⟩ => ?_
    subst he
    exact hk.behind (ha.put h4.ext h3 hp2) h4 hc hm2 hQ

/-! ### The next one of a ranged map -/
/-- What comes next of a ranged map: whichever is left. -/
theorem OpsTo.next {ops : Array Oper} {o : Oper} {it : Operand} {l : List Oper} {a : AAct} {s : AState} {r m since last c : Nat} {seen : List Nat} {es : List AEntry} {K : AAct → AState → Prop} (hg : wantedA ops.toList a o = .ok true) (ho : o.op = .next it false)
    (hit : aev a it = .ok (.ptr r 0)) (hr : s.heap.get r = some (.iter (some m) since seen last)) (hm : s.heap.get m = some (.map es c)) (hold : es.all (fun e => decide (e.born < since)) = true) (hsl : since ≤ last)
    (hdone : leftA es seen = [] → ∃ a1, a.put o.dst (.tup [.lit (.bool false)]) = .ok a1 ∧ OpsTo M P σ N0 w0 ops l a1 s K)
    (hmore : ∀ e ∈ leftA es seen, vOne e.key = true ∧ ∃ s1 a1, s.write r (.iter (some m) since (seen ++ [e.born]) c) = .ok s1 ∧ a.put o.dst (.tup [.lit (.bool true), .lit e.key, e.val]) = .ok a1 ∧ OpsTo M P σ N0 w0 ops l a1 s1 K) :
    OpsTo M P σ N0 w0 ops (o :: l) a s K := by
  intro ρ w act Q ha hw hc hQ
  have hwant : Region.wanted o (yielded ops act.tmps) = true := wantedA_ok hg fun t v _ hv => ha.get t v hv
  show (if Region.wanted o (yielded ops act.tmps) then _ else _)
  rw [hwant]
  simp only [if_true]
  left
  obtain ⟨L, hL, hp⟩ := aev_of (σ := σ) (ρ := ρ) it (fun t v _ hv => ha.get t v hv) _ hit
  obtain ⟨hi0, m', hi1, hi2⟩ := hw.heap _ _ hr L hL
  cases m' with
  | none => exact hi2.elim
  | some bm =>
    obtain ⟨M1, hM, rfl⟩ := hi2
    obtain ⟨ms, hm1, hm2⟩ := hw.heap _ _ hm M1 hM
    have hleft := ERels.left (σ := σ) (ρ := ρ) seen hm2
    have hlen : (leftOf ms seen.toArray).toList = ms.toList.filter fun e => !seen.toArray.contains e.born := by unfold leftOf; rw [Array.toList_filter]
    have hold' : ∀ x ∈ ms.toList, x.born < since := fun x hx => by
      obtain ⟨e, he, _, h2, _⟩ := hm2.mem x hx
      rw [h2]
      simpa using List.all_eq_true.1 hold e he
    unfold Oper.wp
    have hex : ∀ (u : Value) (w' : World), (Instr.next (.pointer (some ⟨L.blk, 0, none⟩)) false o.type).run P w = .ok u w' → (execOp act.eval o).run P w = .ok (.value u) w' := fun u w' h => by
      unfold execOp
      rw [ho]
      show Sem.run P (do pure (Next.value (← Instr.next (act.eval it) false o.type))) w = _
      rw [hp, hi0, Nat.add_zero, Sem.run_bind, h]
      rfl
    rcases run_next_at (P := P) w o.type L.blk M1.blk since last seen.toArray ms c hi1 hm1 hold' hsl with ⟨h0, hrun⟩ | ⟨e, he, w1, hw1, hrun⟩
    · rw [hex _ _ hrun, Oper.upon_value]
      have : leftA es seen = [] := by
        have h1 := hleft.length
        rw [← hlen, Array.length_toList, h0] at h1
        exact List.length_eq_zero_iff.1 h1.symm
      obtain ⟨a1, hp1, hk⟩ := hdone this
      exact hk.behind (ha.put (Ext.refl _) (v := .tup [.lit (.bool false)]) (u := .tuple #[.bool false]) ⟨#[.bool false], rfl, .bool false, [], rfl, ⟨rfl, rfl⟩, rfl⟩ hp1) (Post.refl hw) hc hc.1 hQ
    · rw [hex _ _ hrun, Oper.upon_value]
      rw [hlen] at he
      obtain ⟨e', he', k1, k2, k3⟩ := hleft.mem e he
      obtain ⟨hk1, s1, a1, hs1, hp1, hk⟩ := hmore e' he'
      have hro : s.ro ≤ r := (write_ok' hs1).1
      have hN := (hw.rng r L hL).2.1 hro
      have hlt := (hw.rng r L hL).1
      have e1 : w1.heap = w.heap := by rcases hw1 with rfl | rfl <;> rfl
      have hbl : Below N0 w (ChangeMaps.setBlock w1 L.blk (.mapIter (some M1.blk) since (seen.toArray.push e.born) c)) := by
        have hb1 : Below N0 w w1 := by rcases hw1 with rfl | rfl; exact Below.refl _ _; exact (Below.refl _ _).drew
        refine ⟨hb1.os, hb1.tape, hb1.output, by simp [ChangeMaps.setBlock, e1], fun k hk => ?_⟩
        simp only [ChangeMaps.setBlock, e1]
        rw [Array.getElem?_setIfInBounds, if_neg (by omega)]
      have hP := Post.write hw hs1 (by rw [hr]; simp) hL hbl (by simp [ChangeMaps.setBlock, e1]) (fun k hk => by
        simp only [ChangeMaps.setBlock, e1]
        rw [Array.getElem?_setIfInBounds, if_neg (fun h => hk h.symm)]) (show ORel σ ρ L true _ (.iter (some m) since (seen ++ [e'.born]) c) from
        ⟨hi0, some M1.blk, by simp [ChangeMaps.setBlock, e1, hlt, k2], M1, hM, rfl⟩)
      refine hk.behind (ha.put (Ext.refl _) (v := .tup [.lit (.bool true), .lit e'.key, e'.val]) (u := .tuple #[.bool true, e.key, e.val]) ⟨#[.bool true, e.key, e.val], rfl, .bool true, [e.key, e.val], rfl, ⟨rfl, rfl⟩, e.key, [e.val], rfl, ⟨k1, hk1⟩, e.val, [], rfl, k3, rfl⟩ hp1) hP hc (by rw [(write_ok' hs1).2.1]; exact hc.1) hQ

/-! ### Calls -/
theorem CallTo.body {f : FuncId} {args : List AVal} {s : AState} {K : VK} {fn : Func} {body : Code} {t : Tr AVal} (hfn : P.funcs[f]? = some fn) (hb : fn.body = some body) (hn : Nat.ble args.length fn.ntmps = true ∧ Nat.ble fn.ntmps lim = true)
    (ht : ∀ j, t.get j = if 0 ≤ j ∧ j < 0 + args.length then args[j - 0]? else (Tr.leaf : Tr AVal).get j)
    (h : CodeTo M P σ N0 w0 body ⟨t, fn.ntmps⟩ s fun e a s' => (e = .normal ∨ e = .ret) ∧ ∃ vs, resA P a s' fn.results.toList = .ok vs ∧ K (retA vs) s') : CallTo M P σ N0 w0 f args s K := by
  intro ρ w us hw hc hv
  have hn1 := Nat.le_of_ble_eq_true hn.1
  have hn2 := Nat.le_of_ble_eq_true hn.2
  have ha := ARel.init (n := fn.ntmps) hv hn1 ht
  refine calls_of_wp hfn hb ?_
  refine wp_mono (h ρ w _ ha hw hc) fun e2 act' w' ⟨e, a', s', ⟨he, vs, hr, hk⟩, hm, h8, ρ', h9, h10⟩ => ?_
  obtain ⟨u, h11, h12⟩ := results_ok h9 h10.wrel hr
  have hb : act'.defers = [] ∧ ∃ v, (results fn act'.tmps).run P w' = .ok v w' ∧ ∃ v' s', K v' s' ∧ s'.next ≤ M ∧ ∃ u ρ', Ending.returned v = .returned u ∧ VRel σ ρ' v' u ∧ Post σ N0 w0 ρ s w ρ' s' w' :=
    ⟨h9.defers, u, h11, _, s', hk, hm, u, ρ', rfl, h12, h10⟩
  rcases he with rfl | rfl
  · cases h8; exact hb
  · cases h8; exact hb

/-- A loop, round by round. -/
def LoopTo (M : Nat) (P : Program) (σ : Syms) (N0 : Nat) (w0 : World) (x : Code) (a : AAct) (s : AState) (K : CK) : Prop :=
  ∀ ρ w act, ARel σ ρ a act → WRel σ N0 w0 ρ s w → Room M ρ s → ∀ b k cs, Comes' P (lone (b.at act (.code x :: .inLoop x :: k)) cs w) b k cs (OutK M σ N0 w0 ρ s w K)

theorem LoopTo.of {x : Code} {a : AAct} {s : AState} {K : CK} (h : CodeTo M P σ N0 w0 x a s (Round (fun a s => LoopTo M P σ N0 w0 x a s K) K)) : LoopTo M P σ N0 w0 x a s K := by
  intro ρ w act ha hw hc b k cs
  obtain ⟨e2, act1, w1, ⟨e, a1, s1, hk, hm, hq, ρ1, ha1, hP⟩, harr⟩ := h ρ w act ha hw hc b (.inLoop x :: k) cs
  cases e with
  | normal =>
    subst hq
    obtain ⟨e3, act2, w2, hq2, harr2⟩ := hk ρ1 w1 act1 ha1 hP.wrel (hc.post hP hm) b k cs
    exact ⟨e3, act2, w2, hq2.of hP hc hm, .of_steps (Steps.trans harr (.one step_inLoop)) harr2⟩
  | exit id => subst hq; exact ⟨_, act1, w1, ⟨_, a1, s1, hk, hm, rfl, ρ1, ha1, hP⟩, .pass (x := .inLoop x) rfl (fun _ _ => .inl (by simp [AExit.to])) harr⟩
  | goto l => subst hq; exact ⟨_, act1, w1, ⟨_, a1, s1, hk, hm, rfl, ρ1, ha1, hP⟩, .pass (x := .inLoop x) rfl (fun _ _ => .inl (by simp [AExit.to])) harr⟩
  | ret => subst hq; exact ⟨_, act1, w1, ⟨_, a1, s1, hk, hm, rfl, ρ1, ha1, hP⟩, .pass (x := .inLoop x) rfl (fun _ _ => .inl (by simp [AExit.to])) harr⟩

theorem CodeTo.loopTo {x : Code} {a : AAct} {s : AState} {K : CK} (h : LoopTo M P σ N0 w0 x a s K) : CodeTo M P σ N0 w0 (.loop x) a s K := by
  intro ρ w act ha hw hc b k cs
  obtain ⟨e2, act', w', hq, harr⟩ := h ρ w act ha hw hc b k cs
  exact ⟨e2, act', w', hq, .of_steps (.one step_loop) harr⟩

/-- A region that draws its order, run by the machine. -/
theorem CodeTo.draw {rec : Rec} (hrec : RunOk P σ N0 w0 rec) (hmx : P.follows .mixedOrders = true) {id : Nat} {ops : Array Oper} {a a1 : AAct} {s s1 : AState} {K : CK} (h : drawRun P rec ops.toList a s = .ok (a1, s1)) (hm : s1.next ≤ M) (hk : K .normal a1 s1) :
    CodeTo M P σ N0 w0 (.region id ops true) a s K :=
  fun ρ w act ha hw hc => draw_sound hrec.toRec hmx h ha hw (hc.fresh hm) fun act' w' ρ' h2 h3 => ⟨.normal, a1, s1, hk, hm, rfl, ρ', h2, h3⟩

end
end Go.Am


/-
  The machine that looks at every order in which a map may be ranged over; definitions.
-/
namespace Go.Am
open Go Go.RowKit
set_option linter.unusedVariables false
set_option linter.unusedSimpArgs false
noncomputable section

abbrev XRec (β : Type) := Task → AState → (Done → AState → R β) → R β

/-- All of them come to the same. -/
def allSame {α β : Type} (eq : β → β → Bool) (f : α → R β) (r : β) : List α → R β
  | [] => .ok r
  | x :: l => match f x with
    | .ok y => bif eq r y then allSame eq f r l else .fail "the order counts"
    | .fail w => .fail w

def nextX {β : Type} (eq : β → β → Bool) (ev : Operand → R AVal) (it : Operand) (s : AState) (k : AVal → AState → R β) : R β := do
  let (r, o) ← asPtr (← ev it)
  guardR (Nat.beq o 0) "next"
  match ← s.get r with
  | .iter none _ _ _ => k (.tup [.lit (.bool false)]) s
  | .iter (some m) since seen last => match ← s.get m with
    | .map es c => do
      guardR (Nat.ble since last && es.all fun e => Nat.blt e.born since) "next: new ones"
      let one : AEntry → R β := fun e => do
        guardR (vOne e.key) "next: key"
        let s1 ← s.write r (.iter (some m) since (seen ++ [e.born]) c)
        k (.tup [.lit (.bool true), .lit e.key, e.val]) s1
      match leftA es seen with
      | [] => k (.tup [.lit (.bool false)]) s
      | e :: l => do
        let r ← one e
        allSame eq one r l
    | _ => .fail "next"
  | _ => .fail "next"

/-- A comparison of two unknown numbers. -/
def unsure (op : Op) (vs : List AVal) : Bool := match op, vs with
  | .binOp .lss _ _ _ _, [.sym _, .sym _] => true
  | _, _ => false

def unsureR (op : Op) (vs : R (List AVal)) : Bool := match vs with
  | .ok vs => unsure op vs
  | .fail _ => false

def otherX (P : Program) (both : Bool) {β : Type} (eq : β → β → Bool) (rec : Rec) (ev : Operand → R AVal) (o : Oper) (s : AState) (k : AVal → AState → R β) : R β :=
  match aop P ev o s with
  | .ok (.val v, s1) => k v s1
  | .ok _ => .fail "a choice"
  | .fail w => bif both && unsureR o.op (evs ev o.op.operands.toList) then do
      let r ← k (.lit (.bool true)) s
      allSame eq (fun b => k (.lit (.bool b)) s) r [false]
    else do
      let p ← askA rec ev o s w
      k p.1 p.2

def callX (P : Program) {β : Type} (rec : Rec) (X : XRec β) (ev : Operand → R AVal) (o : Oper) (c : Call) (s : AState) (k : AVal → AState → R β) : R β :=
  match opCall P ev c s with
  | .ok (.val v, s1) => k v s1
  | .ok (.enter f args, s1) => X (.call f args) s1 fun d s2 => match d with
    | .val v => k v s2
    | _ => .fail "call"
  | .ok _ => .fail "a choice"
  | .fail w => do
    let p ← askA rec ev o s w
    k p.1 p.2

def opX (P : Program) (both : Bool) {β : Type} (eq : β → β → Bool) (rec : Rec) (X : XRec β) (ev : Operand → R AVal) (o : Oper) (s : AState) (k : AVal → AState → R β) : R β :=
  match o.op with
  | .next it false => nextX eq ev it s k
  | .call c => callX P rec X ev o c s k
  | _ => otherX P both eq rec ev o s k

def opsX (P : Program) (both : Bool) (M : Nat) {β : Type} (eq : β → β → Bool) (rec : Rec) (X : XRec β) (ops : List Oper) : List Oper → AAct → AState → (AAct → AState → R β) → R β
  | [], a, s, k => k a s
  | o :: rest, a, s, k => do
    let w ← wantedA ops a o
    bif w then opX P both eq rec X (aev a) o s fun v s1 => bif Nat.ble s1.next M then do
        let a1 ← a.put o.dst v
        opsX P both M eq rec X ops rest a1 s1 k
      else .fail "too many blocks"
    else do
      let a1 ← a.put o.dst aundef
      opsX P both M eq rec X ops rest a1 s k

def stepX (P : Program) (both : Bool) (M : Nat) (prims : Prims) {β : Type} (eq : β → β → Bool) (rec : Rec) (X : XRec β) : XRec β
  | .call f args, s, k => match prims f with
    | some p => do
      let (v, s1) ← p args s
      bif Nat.ble s1.next M then k (.val v) s1 else .fail "too many blocks"
    | none => do
      let fn ← R.of "no such function" P.funcs[f]?
      let body ← R.of "no body" fn.body
      guardR (Nat.ble args.length fn.ntmps && Nat.ble fn.ntmps lim) "call"
      initTmps args (nat_lit 0) .leaf fun t => X (.code body ⟨t, fn.ntmps⟩) s fun d s1 =>
        let fin : AAct → R β := fun a => do
          match ← resA P a s1 fn.results.toList with
          | [v] => k (.val v) s1
          | vs => k (.val (.tup vs)) s1
        match d with
        | .out .normal a => fin a
        | .out .ret a => fin a
        | _ => .fail "jump"
  | .code c a, s, k => match c with
    | .skip | .label _ => k (.out .normal a) s
    | .region _ ops d => bif d then do
        let p ← drawRun P rec ops.toList a s
        bif Nat.ble p.2.next M then k (.out .normal p.1) p.2 else .fail "too many blocks"
      else opsX P both M eq rec X ops.toList ops.toList a s fun a1 s1 => k (.out .normal a1) s1
    | .seq x y => X (.code x a) s fun d s1 => match d with
      | .out .normal a1 => X (.code y a1) s1 k
      | d => k d s1
    | .cond c x y => do
      let b ← asBoolLit (← aev a c)
      X (.code (bif b then x else y) a) s k
    | .block id x => X (.code x a) s fun d s1 => match d with
      | .out (.exit id') a1 => k (.out (bif Nat.beq id' id then .normal else .exit id') a1) s1
      | d => k d s1
    | .loop x => X (.code x a) s fun d s1 => match d with
      | .out .normal a1 => X (.code (.loop x) a1) s1 k
      | d => k d s1
    | .exit id => k (.out (.exit id) a) s
    | .goto l => k (.out (.goto l) a) s
    | .ret => k (.out .ret a) s
    | .scope x => X (.inscope x x a) s k
    | _ => .fail "code"
  | .ask o vs, s, k => .fail "ask"
  | .inscope body c a, s, k => X (.code c a) s fun d s1 => match d with
    | .out (.goto l) a1 => match findLabel body l with
      | some rest => X (.inscope body rest a1) s1 k
      | none => k (.out (.goto l) a1) s1
    | d => k d s1

def runX (P : Program) (both : Bool) (M : Nat) (prims : Prims) {β : Type} (eq : β → β → Bool) (rec : Rec) (n : Nat) : XRec β :=
  Nat.rec (fun _ _ _ => .fail "fuel") (fun _ ih => stepX P both M prims eq rec ih) n

end
end Go.Am


/-
  The machine that looks at every order is sound.
-/
namespace Go.Am
open Go Go.RowKit
set_option linter.unusedVariables false
set_option linter.unusedSimpArgs false

section
variable {σ : Syms} {N0 : Nat} {w0 : World} {P : Program} {M : Nat} {both : Bool} {β : Type} {eq : β → β → Bool} {rec : Rec} {X : XRec β} {prims : Prims}

structure XOk (M : Nat) (P : Program) (σ : Syms) (N0 : Nat) (w0 : World) {β : Type} (X : XRec β) : Prop where
  call : ∀ f args s k r, X (.call f args) s k = .ok r → plainFn P f = true → CallTo M P σ N0 w0 f args s (fun v s' => k (.val v) s' = .ok r)
  code : ∀ c a s k r, X (.code c a) s k = .ok r → CodeTo M P σ N0 w0 c a s (fun e a s' => k (.out e a) s' = .ok r)
  loop : ∀ x a s k r, X (.code (.loop x) a) s k = .ok r → LoopTo M P σ N0 w0 x a s (fun e a s' => k (.out e a) s' = .ok r)
  scope : ∀ body c a s k r, X (.inscope body c a) s k = .ok r → InScopeTo M P σ N0 w0 body c a s (fun e a s' => k (.out e a) s' = .ok r)

theorem allSame_ok (heq : ∀ x y, eq x y = true → x = y) {α : Type} {f : α → R β} {r q : β} : ∀ {l : List α}, allSame eq f r l = .ok q → q = r ∧ ∀ x ∈ l, f x = .ok r
  | [], h => by cases h; exact ⟨rfl, fun x hx => by cases hx⟩
  | x :: l, h => by
    unfold allSame at h
    split at h
    · rename_i y hy
      cases hq : eq r y with
      | false => rw [hq] at h; cases h
      | true =>
        rw [hq, cond_true] at h
        obtain ⟨h1, h2⟩ := allSame_ok heq h
        have := heq _ _ hq
        subst this
        refine ⟨h1, fun z hz => ?_⟩
        rcases List.mem_cons.1 hz with rfl | hz
        · exact hy
        · exact h2 z hz
    · cases h

theorem R.ok_bind {α β : Type} {x : α} {f : α → R β} : (R.ok x >>= f) = f x := rfl

theorem stepOp_of {ops : List Oper} {o : Oper} {a a1 : AAct} {s s1 : AState} {v : AVal} (hg : wantedA ops a o = .ok true) (hx : execA P rec (aev a) o s = .ok (v, s1)) (hp : a.put o.dst v = .ok a1) : stepOp P rec ops o a s = .ok (a1, s1) := by
  unfold stepOp
  rw [hg, R.ok_bind, cond_true, hx, R.ok_bind, hp, R.ok_bind]

theorem opCall_enter {ev : Operand → R AVal} {c : Call} {s s1 : AState} {f : FuncId} {args : List AVal} (h : opCall P ev c s = .ok (.enter f args, s1)) : s1 = s ∧ plainFn P f = true := by
  unfold opCall at h
  replace h := R.bind_ok' h
  obtain ⟨args', h1, h⟩ := h
  split at h
  · replace h := R.bind_ok' h
    obtain ⟨⟨v, s2⟩, h2, h⟩ := h
    obtain ⟨h3, _⟩ := okv_ok h
    cases h3
  · replace h := R.bind_ok' h
    obtain ⟨fv, h2, h⟩ := h
    split at h
    · replace h := R.bind_ok' h
      obtain ⟨_, h3, h⟩ := h
      cases h
      exact ⟨rfl, guardR_ok h3⟩
    · cases h
  · cases h

theorem nextX_ok (hrec : RunOk P σ N0 w0 rec) (heq : ∀ x y, eq x y = true → x = y) {ops : Array Oper} {o : Oper} {l : List Oper} {a : AAct} {s : AState} {it : Operand} {k : AVal → AState → R β} {r : β} {K : AAct → AState → Prop} (ho : o.op = .next it false)
    (hg : wantedA ops.toList a o = .ok true) (h : nextX eq (aev a) it s k = .ok r) (hk : ∀ v s1, k v s1 = .ok r → s1.next ≤ M ∧ ∃ a1, a.put o.dst v = .ok a1 ∧ OpsTo M P σ N0 w0 ops l a1 s1 K) : OpsTo M P σ N0 w0 ops (o :: l) a s K := by
  unfold nextX at h
  replace h := R.bind_ok' h
  obtain ⟨x, h1, h⟩ := h
  replace h := R.bind_ok' h
  obtain ⟨⟨rr, oo⟩, h2, h⟩ := h
  replace h := R.bind_ok' h
  obtain ⟨_, h3, h⟩ := h
  replace h := R.bind_ok' h
  obtain ⟨ob, h4, h⟩ := h
  have h3 := Nat.eq_of_beq_eq_true (guardR_ok h3)
  replace h3 : oo = 0 := h3
  subst h3
  have hit : aev a it = .ok (.ptr rr 0) := by
    rw [h1]
    unfold asPtr at h2
    split at h2
    · cases h2; rfl
    · cases h2
  split at h
  · rename_i since seen last
    obtain ⟨hm, a1, hp, hK⟩ := hk _ _ h
    refine OpsTo.step hrec (stepOp_of (v := .tup [.lit (.bool false)]) hg ?_ hp) hm hK
    have : aop P (aev a) o s = .ok (.val (.tup [.lit (.bool false)]), s) := by
      unfold aop
      rw [ho]
      show opNext (aev a) it s = _
      unfold opNext
      rw [hit]
      show (s.get rr).bind _ = _
      rw [h4]
      rfl
    unfold execA
    rw [this]
  · rename_i m since seen last
    replace h := R.bind_ok' h
    obtain ⟨mo, h5, h⟩ := h
    split at h
    · rename_i es c
      replace h := R.bind_ok' h
      obtain ⟨_, h6, h⟩ := h
      have h6 := guardR_ok h6
      simp only [Bool.and_eq_true] at h6
      have hsl := Nat.le_of_ble_eq_true h6.1
      have hold : es.all (fun e => decide (e.born < since)) = true := by
        rw [List.all_eq_true]
        intro e he
        have := List.all_eq_true.1 h6.2 e he
        exact decide_eq_true (Nat.le_of_ble_eq_true this)
      have one : ∀ (e : AEntry), (do
          guardR (vOne e.key) "next: key"
          let s1 ← s.write rr (.iter (some m) since (seen ++ [e.born]) c)
          k (.tup [.lit (.bool true), .lit e.key, e.val]) s1 : R β) = .ok r → vOne e.key = true ∧ ∃ s1 a1, s.write rr (.iter (some m) since (seen ++ [e.born]) c) = .ok s1 ∧ a.put o.dst (.tup [.lit (.bool true), .lit e.key, e.val]) = .ok a1 ∧ OpsTo M P σ N0 w0 ops l a1 s1 K := fun e h => by
        replace h := R.bind_ok' h
        obtain ⟨_, h7, h⟩ := h
        replace h := R.bind_ok' h
        obtain ⟨s1, h8, h⟩ := h
        obtain ⟨_, a1, hp, hK⟩ := hk _ _ h
        exact ⟨guardR_ok h7, s1, a1, h8, hp, hK⟩
      refine OpsTo.next hg ho hit (get_ok h4) (get_ok h5) hold hsl (fun hl => ?_) fun e he => ?_
      · rw [hl] at h
        obtain ⟨_, a1, hp, hK⟩ := hk _ _ h
        exact ⟨a1, hp, hK⟩
      · split at h
        · rename_i hl
          rw [hl] at he
          cases he
        · rename_i e0 l0 hl
          rw [hl] at he
          replace h := R.bind_ok' h
          obtain ⟨r1, h7, h⟩ := h
          obtain ⟨h8, h9⟩ := allSame_ok heq h
          subst h8
          refine one e ?_
          rcases List.mem_cons.1 he with rfl | he
          · exact h7
          · exact h9 e he
    · cases h
  · cases h

theorem ask_step (hrec : RunOk P σ N0 w0 rec) {ops : Array Oper} {o : Oper} {l : List Oper} {a : AAct} {s : AState} {w : String} {k : AVal → AState → R β} {r : β} {K : AAct → AState → Prop} (h1 : aop P (aev a) o s = .fail w)
    (hg : wantedA ops.toList a o = .ok true) (h : (do let p ← askA rec (aev a) o s w; k p.1 p.2) = .ok r) (hk : ∀ v s1, k v s1 = .ok r → s1.next ≤ M ∧ ∃ a1, a.put o.dst v = .ok a1 ∧ OpsTo M P σ N0 w0 ops l a1 s1 K) : OpsTo M P σ N0 w0 ops (o :: l) a s K := by
  replace h := R.bind_ok' h
  obtain ⟨⟨v, s1⟩, h2, h⟩ := h
  obtain ⟨hm, a1, hp, hK⟩ := hk _ _ h
  refine OpsTo.step hrec (stepOp_of (v := v) hg ?_ hp) hm hK
  unfold execA
  rw [h1]
  exact h2

theorem val_step (hrec : RunOk P σ N0 w0 rec) {ops : Array Oper} {o : Oper} {l : List Oper} {a : AAct} {s s1 : AState} {v : AVal} {k : AVal → AState → R β} {r : β} {K : AAct → AState → Prop} (h1 : aop P (aev a) o s = .ok (.val v, s1))
    (hg : wantedA ops.toList a o = .ok true) (h : k v s1 = .ok r) (hk : ∀ v s1, k v s1 = .ok r → s1.next ≤ M ∧ ∃ a1, a.put o.dst v = .ok a1 ∧ OpsTo M P σ N0 w0 ops l a1 s1 K) : OpsTo M P σ N0 w0 ops (o :: l) a s K := by
  obtain ⟨hm, a1, hp, hK⟩ := hk _ _ h
  refine OpsTo.step hrec (stepOp_of (v := v) hg ?_ hp) hm hK
  unfold execA
  rw [h1]

theorem unsure_run {o : Oper} {op : BinOp} {act : Act} {w : World} {t yt : TypeId} {x y : Operand} {i j : Nat} (ho : o.op = .binOp .lss t x y yt) (hk : (σ i).1 = (σ j).1) (hx : act.eval x = .int (σ i).1 (σ i).2) (hy : act.eval y = .int (σ j).1 (σ j).2) :
    (execOp act.eval o).run P w = .ok (.value (.bool (decide ((σ i).2 < (σ j).2)))) w := by
  unfold execOp
  rw [ho]
  simp only []
  rw [hx, hy, ← hk, Sem.run_bind]
  have : (do eqGuard .lss t x y (.int (σ i).1 (σ i).2) (.int (σ i).1 (σ j).2); binOp .lss t (.int (σ i).1 (σ i).2) (.int (σ i).1 (σ j).2) : Sem Value).run P w = .ok (.bool (decide ((σ i).2 < (σ j).2))) w := by
    rw [Sem.run_bind]
    have h1 : (eqGuard .lss t x y (.int (σ i).1 (σ i).2) (.int (σ i).1 (σ j).2)).run P w = .ok () w := by simp [eqGuard]
    rw [h1, Result.andThen_ok, binOp_lss, Sem.run_pure]
  rw [this]
  rfl

theorem opX_ok (hb : both = true → ∀ i j, (σ i).1 = (σ j).1) (hrec : RunOk P σ N0 w0 rec) (hX : XOk M P σ N0 w0 X) (heq : ∀ x y, eq x y = true → x = y) {ops : Array Oper} {o : Oper} {l : List Oper} {a : AAct} {s : AState} {k : AVal → AState → R β} {r : β} {K : AAct → AState → Prop}
    (hg : wantedA ops.toList a o = .ok true) (h : opX P both eq rec X (aev a) o s k = .ok r) (hk : ∀ v s1, k v s1 = .ok r → s1.next ≤ M ∧ ∃ a1, a.put o.dst v = .ok a1 ∧ OpsTo M P σ N0 w0 ops l a1 s1 K) : OpsTo M P σ N0 w0 ops (o :: l) a s K := by
  unfold opX at h
  split at h
  · rename_i it ho
    exact nextX_ok hrec heq ho hg h hk
  · rename_i c ho
    have hc : aop P (aev a) o s = opCall P (aev a) c s := by unfold aop; rw [ho]
    unfold callX at h
    split at h
    · rename_i v s1 h1
      exact val_step hrec (hc.trans h1) hg h hk
    · rename_i f args s1 h1
      obtain ⟨rfl, hpl⟩ := opCall_enter h1
      intro ρ w act Q ha hw hr hQ
      exact OpsTo.call hg (hc.trans h1) hr.1 ((hX.call _ _ _ _ _ h hpl).mono fun v s2 h2 => (hk v s2 h2).2) ρ w act Q ha hw hr hQ
    · cases h
    · rename_i w h1
      exact ask_step hrec (hc.trans h1) hg h hk
  · unfold otherX at h
    split at h
    · rename_i v s1 h1
      exact val_step hrec h1 hg h hk
    · cases h
    · rename_i w h1
      cases hq : (both && unsureR o.op (evs (aev a) o.op.operands.toList)) with
      | false => rw [hq, cond_false] at h; exact ask_step hrec h1 hg h hk
      | true =>
        rw [hq, cond_true] at h
        simp only [Bool.and_eq_true] at hq
        replace h := R.bind_ok' h
        obtain ⟨r1, h2, h⟩ := h
        obtain ⟨h3, h4⟩ := allSame_ok heq h
        subst h3
        have h5 : ∀ b : Bool, k (.lit (.bool b)) s = .ok r := fun b => by
          cases b with
          | true => exact h2
          | false => exact h4 false (by simp)
        have hu := hq.2
        unfold unsureR at hu
        split at hu
        · rename_i vs hvs
          unfold unsure at hu
          split at hu
          · rename_i t x y yt i j hop
            intro ρ w1 act Q ha hw hr hQ
            have hwant : Region.wanted o (yielded ops act.tmps) = true := wantedA_ok hg fun t v _ hv => ha.get t v hv
            show (if Region.wanted o (yielded ops act.tmps) then _ else _)
            rw [hwant]
            simp only [if_true]
            left
            have hop' : o.op.operands.toList = [x, y] := by rw [hop]; simp [Op.operands]
            have hv := evs_ok (σ := σ) (ρ := ρ) (e := act.eval) (fun z _ => aev_of z fun t v _ hv => ha.get t v hv) hvs
            rw [hop'] at hv
            obtain ⟨u1, q1, e1, hu1, u2, q2, e2, hu2, e3⟩ := hv
            simp only [List.map_cons, List.map_nil, List.cons.injEq] at e1
            obtain ⟨e1, e1'⟩ := e1
            rw [← e1'] at e2
            simp only [List.cons.injEq] at e2
            unfold Oper.wp
            rw [unsure_run (σ := σ) (op := .lss) (i := i) (j := j) hop (hb hq.1 i j) (e1.trans hu1) (e2.1.trans hu2), Oper.upon_value]
            obtain ⟨hm, a1, hp, hK⟩ := hk _ _ (h5 (decide ((σ i).2 < (σ j).2)))
            exact hK.behind (ha.put (Ext.refl _) (v := .lit (.bool (decide ((σ i).2 < (σ j).2)))) ⟨rfl, rfl⟩ hp) (Post.refl hw) hr hr.1 hQ
          · cases hu
        · cases hu

theorem opsX_ok (hb : both = true → ∀ i j, (σ i).1 = (σ j).1) (hrec : RunOk P σ N0 w0 rec) (hX : XOk M P σ N0 w0 X) (heq : ∀ x y, eq x y = true → x = y) {ops : Array Oper} {r : β} : ∀ {l : List Oper} {a : AAct} {s : AState} {k : AAct → AState → R β},
    opsX P both M eq rec X ops.toList l a s k = .ok r → OpsTo M P σ N0 w0 ops l a s fun a' s' => k a' s' = .ok r
  | [], a, s, k, h => OpsTo.nil h
  | o :: l, a, s, k, h => by
    unfold opsX at h
    replace h := R.bind_ok' h
    obtain ⟨b, hg, h⟩ := h
    cases b with
    | true =>
      rw [cond_true] at h
      refine opX_ok hb hrec hX heq hg h fun v s1 h1 => ?_
      cases hq : Nat.ble s1.next M with
      | false => rw [hq] at h1; cases h1
      | true =>
        rw [hq, cond_true] at h1
        replace h1 := R.bind_ok' h1
        obtain ⟨a1, hp, h1⟩ := h1
        exact ⟨Nat.le_of_ble_eq_true hq, a1, hp, opsX_ok hb hrec hX heq h1⟩
    | false =>
      rw [cond_false] at h
      replace h := R.bind_ok' h
      obtain ⟨a1, hp, h⟩ := h
      intro ρ w act Q ha hw hc hQ
      refine OpsTo.step hrec (a1 := a1) (s1 := s) ?_ hc.1 (opsX_ok hb hrec hX heq h) ρ w act Q ha hw hc hQ
      unfold stepOp
      rw [hg, R.ok_bind, cond_false, hp, R.ok_bind]

theorem stepX_call (hrec : RunOk P σ N0 w0 rec) (hX : XOk M P σ N0 w0 X) (hp : ∀ f p, prims f = some p → PrimOk P σ N0 w0 f p) : ∀ f args s k r, stepX P both M prims eq rec X (.call f args) s k = .ok r → CallTo M P σ N0 w0 f args s (fun v s' => k (.val v) s' = .ok r) := by
  intro f args s k r h
  unfold stepX at h
  simp only [] at h
  split at h
  · rename_i p hpf
    replace h := R.bind_ok' h
    obtain ⟨⟨v, s1⟩, h1, h⟩ := h
    replace h : (bif Nat.ble s1.next M then k (.val v) s1 else .fail "too many blocks") = .ok r := h
    cases hq : Nat.ble s1.next M with
    | false => rw [hq] at h; cases h
    | true =>
      rw [hq, cond_true] at h
      exact CallTo.of_prim (hp f p hpf) h1 (Nat.le_of_ble_eq_true hq) h
  · replace h := R.bind_ok' h
    obtain ⟨fn, h1, h⟩ := h
    replace h := R.bind_ok' h
    obtain ⟨body, h2, h⟩ := h
    replace h := R.bind_ok' h
    obtain ⟨_, h3, h⟩ := h
    replace h3 := guardR_ok h3
    simp only [Bool.and_eq_true] at h3
    have hn1 := Nat.le_of_ble_eq_true h3.1
    have hn2 := Nat.le_of_ble_eq_true h3.2
    obtain ⟨t, h5, ht⟩ := initTmps_ok h (by omega)
    refine CallTo.body (R.of_ok h1) (R.of_ok h2) h3 ht ((hX.code _ _ _ _ _ h5).mono fun e a s' h6 => ?_)
    have fin : ∀ {x : R (List AVal)}, (x >>= fun vs => (match vs with | [v] => k (.val v) s' | vs => k (.val (.tup vs)) s' : R β)) = .ok r → ∃ vs, x = .ok vs ∧ k (.val (retA vs)) s' = .ok r := fun {x} h => by
      replace h := R.bind_ok' h
      obtain ⟨vs, h7, h⟩ := h
      refine ⟨vs, h7, ?_⟩
      cases vs with
      | nil => exact h
      | cons v q => cases q with
        | nil => exact h
        | cons v' q' => exact h
    cases e with
    | normal => exact ⟨.inl rfl, fin h6⟩
    | ret => exact ⟨.inr rfl, fin h6⟩
    | exit id => cases h6
    | goto l => cases h6

theorem stepX_loop (hX : XOk M P σ N0 w0 X) : ∀ x a s k r, stepX P both M prims eq rec X (.code (.loop x) a) s k = .ok r → LoopTo M P σ N0 w0 x a s (fun e a s' => k (.out e a) s' = .ok r) := by
  intro x a s k r h
  refine LoopTo.of ((hX.code _ _ _ _ _ h).mono fun e a1 s1 h1 => ?_)
  cases e with
  | normal => exact hX.loop _ _ _ _ _ h1
  | exit id => exact h1
  | goto l => exact h1
  | ret => exact h1

theorem stepX_scope (hX : XOk M P σ N0 w0 X) : ∀ body c a s k r, stepX P both M prims eq rec X (.inscope body c a) s k = .ok r → InScopeTo M P σ N0 w0 body c a s (fun e a s' => k (.out e a) s' = .ok r) := by
  intro body c a s k r h
  refine InScopeTo.of ((hX.code _ _ _ _ _ h).mono fun e a1 s1 h1 => ?_)
  cases e with
  | goto l =>
    simp only [Scoped]
    split
    · rename_i rest hl
      simp only [hl] at h1
      exact hX.scope _ _ _ _ _ _ h1
    · rename_i hl
      simp only [hl] at h1
      exact h1
  | normal => exact h1
  | exit id => exact h1
  | ret => exact h1

theorem stepX_code (hb : both = true → ∀ i j, (σ i).1 = (σ j).1) (hm : P.follows .mixedOrders = true) (hrec : RunOk P σ N0 w0 rec) (hX : XOk M P σ N0 w0 X) (heq : ∀ x y, eq x y = true → x = y) :
    ∀ c a s k r, stepX P both M prims eq rec X (.code c a) s k = .ok r → CodeTo M P σ N0 w0 c a s (fun e a s' => k (.out e a) s' = .ok r) := by
  intro c a s k r h
  cases c with
  | skip => exact CodeTo.skip h
  | label l => exact CodeTo.label h
  | exit id => exact CodeTo.exit h
  | goto l => exact CodeTo.goto h
  | ret => exact CodeTo.ret h
  | region id ops d =>
    cases d with
    | true =>
      replace h := R.bind_ok' h
      obtain ⟨⟨a1, s1⟩, h1, h⟩ := h
      replace h : (bif Nat.ble s1.next M then k (.out .normal a1) s1 else .fail "too many blocks") = .ok r := h
      cases hq : Nat.ble s1.next M with
      | false => rw [hq] at h; cases h
      | true =>
        rw [hq, cond_true] at h
        exact CodeTo.draw hrec hm h1 (Nat.le_of_ble_eq_true hq) h
    | false => exact CodeTo.region (opsX_ok hb hrec hX heq h)
  | seq x y =>
    refine CodeTo.seq ((hX.code _ _ _ _ _ h).mono fun e a1 s1 h1 => ?_)
    cases e with
    | normal => exact hX.code _ _ _ _ _ h1
    | exit id => exact h1
    | goto l => exact h1
    | ret => exact h1
  | cond c x y =>
    replace h := R.bind_ok' h
    obtain ⟨v, h1, h⟩ := h
    replace h := R.bind_ok' h
    obtain ⟨b, h2, h⟩ := h
    have hv : v = .lit (.bool b) := by
      unfold asBoolLit at h2
      split at h2
      · cases h2; rfl
      · cases h2
    subst hv
    exact CodeTo.cond h1 (hX.code _ _ _ _ _ h)
  | block id x =>
    refine CodeTo.block ((hX.code _ _ _ _ _ h).mono fun e a1 s1 h1 => ?_)
    cases e with
    | normal => exact h1
    | exit id => exact h1
    | goto l => exact h1
    | ret => exact h1
  | loop x => exact CodeTo.loopTo (stepX_loop (both := both) (prims := prims) (eq := eq) (rec := rec) hX x a s k r h)
  | scope x => exact CodeTo.scope (hX.scope _ _ _ _ _ _ h)
  | _ => cases h

theorem runX_ok (hb : both = true → ∀ i j, (σ i).1 = (σ j).1) (hm : P.follows .mixedOrders = true) (hrec : RunOk P σ N0 w0 rec) (heq : ∀ x y, eq x y = true → x = y) (hp : ∀ f p, prims f = some p → PrimOk P σ N0 w0 f p) : ∀ n, XOk M P σ N0 w0 (runX P both M prims eq rec n)
  | 0 => ⟨fun f args s k r h => (by cases h), fun c a s k r h => (by cases h), fun x a s k r h => (by cases h), fun body c a s k r h => (by cases h)⟩
  | n + 1 =>
    have ih := runX_ok hb hm hrec heq hp n
    ⟨fun f args s k r h _ => stepX_call (both := both) (eq := eq) hrec ih hp f args s k r h, stepX_code (prims := prims) hb hm hrec ih heq, stepX_loop (both := both) (prims := prims) (eq := eq) (rec := rec) ih, stepX_scope (both := both) (prims := prims) (eq := eq) (rec := rec) ih⟩

end
end Go.Am
