/-
  Maps of values: what a map's block says, as a function of its key.
-/
import Derived.Test.YtonbcchdaboigaaGrow
namespace Go.Proofs.Ytonbcchdaboigaa
open Go Go.RowKit Go.Maps Go.Am
set_option linter.unusedVariables false

/-- An element reads as itself. -/
def selfE (v : Value) : Option (DataW Value × List MemPlace) := some (.held v, [])

/-- The map's datum says f. -/
structure Tab (q : IntKind) (D : DataW Value) (f : Int → Option Value) : Prop where
  has : ∀ k, Maps.has D (.int q k) = (f k).isSome
  at_ : ∀ k v, f k = some v → ∀ z, D.atKey (.int q k) z = .held v

def putT (f : Int → Option Value) (k : Int) (v : Value) : Int → Option Value := fun x => if x = k then some v else f x

def delT (f : Int → Option Value) (k : Int) : Int → Option Value := fun x => if x = k then none else f x

theorem lit_ne {q : IntKind} {x y : Int} (h : x ≠ y) : Lit.int q x ≠ Lit.int q y := fun e => by cases e; exact h rfl

theorem Tab.empty (q : IntKind) : Tab q (.map []) (fun _ => none) := ⟨fun k => by simp [Maps.has_eq], fun k v h => by cases h⟩

theorem Tab.put {q : IntKind} {D : DataW Value} {f : Int → Option Value} (h : Tab q D f) (hm : IsMap D) (k : Int) (v : Value) : Tab q (D.put (.int q k) (.held v)) (putT f k v) := by
  refine ⟨fun x => ?_, fun x u hx z => ?_⟩
  · by_cases e : x = k
    · subst e; rw [has_put_same hm (by trivial)]; simp [putT]
    · rw [has_put_other (lit_ne e), h.has]; simp [putT, e]
  · by_cases e : x = k
    · subst e
      simp only [putT, if_true, Option.some.injEq] at hx
      subst hx
      exact atKey_put_same hm (by trivial) _ z
    · simp only [putT, e, if_false] at hx
      rw [atKey_put_other (lit_ne e)]
      exact h.at_ x u hx z

theorem Tab.del {q : IntKind} {D : DataW Value} {f : Int → Option Value} (h : Tab q D f) (k : Int) : Tab q (D.del (.int q k)) (delT f k) := by
  refine ⟨fun x => ?_, fun x u hx z => ?_⟩
  · by_cases e : x = k
    · subst e; rw [has_del_same]; simp [delT]
    · rw [has_del_other (lit_ne e), h.has]; simp [delT, e]
  · by_cases e : x = k
    · subst e; simp [delT] at hx
    · simp only [delT, e, if_false] at hx
      rw [atKey_del_other (lit_ne e)]
      exact h.at_ x u hx z

theorem Tab.get {q : IntKind} {D : DataW Value} {f : Int → Option Value} (h : Tab q D f) (k : Int) (z : Value) : D.atKey (.int q k) (.held z) = .held ((f k).getD z) := by
  cases hk : f k with
  | none => rw [atKey_of_not_has (by rw [h.has, hk]; rfl)]; rfl
  | some v => rw [h.at_ k v hk]; rfl

/-- Block b is a map that says f; so many stores at most. -/
structure TabAt (w : World) (q : IntKind) (kt : TypeId) (b n : Nat) (f : Int → Option Value) : Prop where
  own : ∃ D, w.ownsMap Try.prog kt selfE b n D ∧ Tab q D f

theorem TabAt.kept {w w' : World} {q : IntKind} {kt : TypeId} {b n : Nat} {f : Int → Option Value} {l : List Nat} (h : TabAt w q kt b n f) (hg : GrowBut w w' l) (hb : b ∉ l) : TabAt w' q kt b n f := by
  obtain ⟨D, hown, hD⟩ := h.own
  exact ⟨D, hg.map hown hb, hD⟩

theorem TabAt.blt {w : World} {q : IntKind} {kt : TypeId} {b n : Nat} {f : Int → Option Value} (h : TabAt w q kt b n f) : b < w.heap.size := by
  obtain ⟨D, hown, hD⟩ := h.own
  exact hown.lt

theorem TabAt.mono {w : World} {q : IntKind} {kt : TypeId} {b n m : Nat} {f : Int → Option Value} (h : TabAt w q kt b n f) (hn : n ≤ m) : TabAt w q kt b m f := by
  obtain ⟨D, hown, hD⟩ := h.own
  exact ⟨D, hown.mono hn, hD⟩

theorem TabAt.made (w : World) (q : IntKind) (kt : TypeId) : TabAt (w.alloc (.map #[] 0)) q kt w.heap.size 0 (fun _ => none) :=
  ⟨.map [], World.ownsMap_made w Try.prog kt selfE, .empty q⟩

theorem TabAt.look {w : World} {q : IntKind} {kt e t : TypeId} {b n : Nat} {f : Int → Option Value} (h : TabAt w q kt b n f) (K : Keyed Try.prog kt) (hk : Try.prog.underlying kt = some (.int q)) (ht : Try.prog.underlying t = some (.map kt e)) {z : Value} (hz : (zeroValue e).run Try.prog w = .ok z w) {x : Int} (hx : (Lit.int q x).wf = true) :
    (Instr.lookup t (.map (some b)) (.int q x) false).run Try.prog w = .ok ((f x).getD z) w := by
  obtain ⟨D, hown, hD⟩ := h.own
  obtain ⟨v, ps, hrun, hv⟩ := hown.lookup (zd := .held z) (zp := []) K ht hz rfl (keyOf_int_mk hk hx)
  rw [hD.get x z] at hv
  simp only [selfE, Option.some.injEq, Prod.mk.injEq, DataW.held.injEq] at hv
  rw [hrun, hv.1]

theorem TabAt.look_ok {w : World} {q : IntKind} {kt e t : TypeId} {b n : Nat} {f : Int → Option Value} (h : TabAt w q kt b n f) (K : Keyed Try.prog kt) (hk : Try.prog.underlying kt = some (.int q)) (ht : Try.prog.underlying t = some (.map kt e)) {z : Value} (hz : (zeroValue e).run Try.prog w = .ok z w) {x : Int} (hx : (Lit.int q x).wf = true) :
    (Instr.lookup t (.map (some b)) (.int q x) true).run Try.prog w = .ok (.tuple #[(f x).getD z, .bool (f x).isSome]) w := by
  obtain ⟨D, hown, hD⟩ := h.own
  obtain ⟨v, ps, hrun, hv⟩ := hown.look_ok (zd := .held z) (zp := []) K ht hz rfl (keyOf_int_mk hk hx)
  rw [hD.get x z] at hv
  simp only [selfE, Option.some.injEq, Prod.mk.injEq, DataW.held.injEq] at hv
  rw [hrun, hv.1, hD.has]

theorem TabAt.upd {w : World} {q : IntKind} {kt e t : TypeId} {b n : Nat} {f : Int → Option Value} (h : TabAt w q kt b n f) (K : Keyed Try.prog kt) (hk : Try.prog.underlying kt = some (.int q)) (ht : Try.prog.underlying t = some (.map kt e)) (hn : n ≤ 1000000) {x : Int} (hx : (Lit.int q x).wf = true) (v : Value) :
    ∃ w', (Instr.mapUpdate t (.map (some b)) (.int q x) v).run Try.prog w = .ok () w' ∧ TabAt w' q kt b (n + 1) (putT f x v) ∧ GrowBut w w' [b] ∧ w.mapTurned w' b := by
  obtain ⟨D, hown, hD⟩ := h.own
  obtain ⟨w', hrun, hown', ht'⟩ := hown.store K ht (by unfold maxLen; omega) (keyOf_int_mk hk hx) (d := .held v) (ps := []) rfl
  exact ⟨w', hrun, ⟨_, hown', hD.put hown.isMap x v⟩, .of_some ht'.grown, ht'⟩

theorem wpList_putT {w : World} {ops : Array Oper} {rest : List Oper} {o : Oper} {a : Act} {Q : Exit → Act → World → Prop}
    (hg : o.guard = none) (m x v : Operand) (t : TypeId) (hop : o.op = Op.mapUpdate t m x v) {q : IntKind} {kt e : TypeId} {b n : Nat} {f : Int → Option Value}
    (h : TabAt w q kt b n f) (K : Keyed Try.prog kt) (hk : Try.prog.underlying kt = some (.int q)) (ht : Try.prog.underlying t = some (.map kt e)) (hn : n ≤ 1000000)
    (hm : a.eval m = .map (some b)) (k : Int) (val : Value) (hx : a.eval x = .int q k) (hv : a.eval v = val) (hwf : (Lit.int q k).wf = true)
    (hK : ∀ w', TabAt w' q kt b (n + 1) (putT f k val) → GrowBut w w' [b] → wpList Try.prog ops Q rest (a.put o.dst undef) w') :
    wpList Try.prog ops Q (o :: rest) a w := by
  obtain ⟨D, hown, hD⟩ := h.own
  exact wpList_mapUpdate_own w hg m x v t hop kt e K ht selfE b n D hm hown (by unfold maxLen; omega) _ _ _ hx hv (keyOf_int_mk hk hwf) (.held val) [] rfl (fun w' h1 h2 => hK w' ⟨_, h1, hD.put hown.isMap k val⟩ (.of_some h2))

theorem wpList_delT {w : World} {ops : Array Oper} {rest : List Oper} {o : Oper} {a : Act} {Q : Exit → Act → World → Prop}
    (hg : o.guard = none) (m x : Operand) (t kt : TypeId) (hop : o.op = Op.call { callee := Callee.builtin Builtin.delete, args := #[m, x], argTypes := #[t, kt] }) {q : IntKind} {e : TypeId} {b n : Nat} {f : Int → Option Value}
    (h : TabAt w q kt b n f) (K : Keyed Try.prog kt) (hk : Try.prog.underlying kt = some (.int q)) (ht : Try.prog.underlying t = some (.map kt e))
    (hm : a.eval m = .map (some b)) (k : Int) (hx : a.eval x = .int q k) (hwf : (Lit.int q k).wf = true)
    (hK : ∀ w', TabAt w' q kt b n (delT f k) → GrowBut w w' [b] → wpList Try.prog ops Q rest (a.put o.dst (.tuple #[])) w') :
    wpList Try.prog ops Q (o :: rest) a w := by
  obtain ⟨D, hown, hD⟩ := h.own
  exact wpList_delete_own w hg m x t kt hop e K ht selfE b n D hm hown _ _ hx (keyOf_int_mk hk hwf) (fun w' h1 h2 => hK w' ⟨_, h1, hD.del k⟩ (.of_some h2.grown))

end Go.Proofs.Ytonbcchdaboigaa
