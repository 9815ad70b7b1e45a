/-
  A piece of code that ends in one act, whatever the order: what follows is walked once.
-/
import Derived.Test.YtcoedmiichppdaaJ4
import Derived.Test.YtcoedmiichppdaaJ7
import Derived.Deep.AppendLies
import Derived.Deep.RegionLaw
import Derived.OrdersHeld
import Derived.Shelf.Slices.Clone
import Derived.Shelf.Lay
import Derived.Ground.Names2Prog

namespace Go.Proofs.Ytcoedmiichppdaa
open Go Go.RowKit
set_option linter.unusedVariables false
set_option linter.unusedSimpArgs false

/-- What is asked of a piece of code that ends in its text's order. -/
def onlyV (Q : Act → World → Prop) : Exit → Act → World → Prop
  | .normal, a, w => Q a w
  | _, _, _ => False

/-- A piece of code that ends in one act, whatever the order: what follows is walked once. -/
theorem wp_via {P : Program} {c : Code} {K : Exit → Act → World → Prop} {a : Act} {w : World} (F : World → Prop) (f : Act → Act) (reg : ∀ Q : Act → World → Prop, (∀ w', F w' → Q (f a) w') → c.wp P (onlyV Q) a w) (cont : ∀ w', F w' → K .normal (f a) w') : c.wp P K a w :=
  Code.wp_mono (fun e a' w' h => by
    cases e with
    | normal => exact h
    | _ => exact h.elim) (reg (K .normal) cont)

end Go.Proofs.Ytcoedmiichppdaa


/-
  append, at a step of a region that draws: of nothing; of any row onto a row of the call's own.
-/
namespace Go.Proofs.Ytcoedmiichppdaa
open Go Go.RowKit Go.Maps Go.Am
set_option linter.unusedVariables false
set_option linter.unusedSimpArgs false

theorem run_append_none {P : Program} (w : World) (t ty : TypeId) (e : TypeId) (i : TypeInfo) (ht : P.underlying t = some (.slice e)) (hi : P.info? e = some i) (g : Addr) (n cap : Nat) (hcap : n ≤ cap) :
    (Builtin.append_ #[t, t] ty #[.slice (some g) n cap, .slice none 0 0]).run P w = .ok (.slice (some g) n cap) w := by
  simp [Builtin.append_, run_underlying ht, sizeOf, typeInfo, hi, Builtin.lenOf, Builtin.firstCells, loadCells, hcap, storeCells, Result.andThen]

theorem step_append_none {P : Program} {w : World} {ops : Array Oper} {o : Oper} {a : Act} {K : Act → World → Prop} {Q : Exit → Act → World → Prop} {E : Prop} (hgd : o.guard = none) (s x : Operand) (t : TypeId)
    (ho : o.op = .call { callee := .builtin .append, args := #[s, x], argTypes := #[t, t] }) (e : TypeId) (i : TypeInfo) (ht : P.underlying t = some (.slice e)) (hi : P.info? e = some i)
    (g : Addr) (n cap : Nat) (hs : a.eval s = .slice (some g) n cap) (hx : a.eval x = .slice none 0 0) (hcap : n ≤ cap) (h : K (a.put o.dst (.slice (some g) n cap)) w) :
    if Region.wanted o (yielded ops a.tmps) = true then Oper.wp P o a w K Q else E := by
  have hw : Region.wanted o (yielded ops a.tmps) = true := by simp [Region.wanted, hgd]
  rw [if_pos hw]
  have hr := run_append_none (P := P) w t o.type e i ht hi g n cap hcap
  unfold Oper.wp execOp
  simp only [ho, resolve, invoke, builtin, Sem.run_bind, Sem.run_pure, Result.andThen_ok, List.map_toArray, List.map_cons, List.map_nil, hs, hx, hr]
  exact h

/-- Onto a row of the call's own, be there something to append or not. -/
theorem step_append_own {P : Program} {w : World} {ops : Array Oper} {o : Oper} {a : Act} {K : Act → World → Prop} {Q : Exit → Act → World → Prop} {E : Prop} (hgd : o.guard = none) (s x : Operand) (t : TypeId)
    (ho : o.op = .call { callee := .builtin .append, args := #[s, x], argTypes := #[t, t] })
    (base : Nat) (e : TypeId) (i : TypeInfo) (z : Value) (size bytes : Nat) (ht : P.underlying t = some (.slice e)) (hi : P.info? e = some i) (hz : i.zero = some z)
    (hsize : i.size = size) (hby : i.bytes = bytes) (hzs : z.cells.size = size) (hsz : 0 < size)
    (v : Value) (n : Nat) (xs : List Value) (hs : a.eval s = v) (hown : w.ownsRow base e size v n xs)
    (ad : Addr) (m c : Nat) (news : List Value) (hx : a.eval x = .slice (some ad) m c) (hl : news.length = m * size) (hnews : ∀ j u, news[j]? = some u → w.cell? (ad.add j) = some u) (h1 : ∀ u ∈ news, u.oneCell' = true)
    (h63 : n + m ≤ maxLen) (hbytes : (n + m) * bytes ≤ 140737488355328) (hbase : base ≤ w.heap.size)
    (h : ∀ v' w', w'.ownsRow base e size v' (n + m) (xs ++ news) → w.grownBy w' v.ownBlock → (v' = .slice none 0 0 ↔ v = .slice none 0 0 ∧ m = 0) → (v'.ownBlock = v.ownBlock ∨ v'.ownBlock = some w.heap.size) → K (a.put o.dst v') w') :
    if Region.wanted o (yielded ops a.tmps) = true then Oper.wp P o a w K Q else E := by
  have hw : Region.wanted o (yielded ops a.tmps) = true := by simp [Region.wanted, hgd]
  rw [if_pos hw]
  obtain ⟨v', w', hr, h2, h3, h4, h5⟩ := run_append_own_at (P := P) w base t o.type e i z size bytes ht hi hz hsize hby hzs hsz v n xs hown ad m c news hl hnews h1 h63 hbytes hbase
  unfold Oper.wp execOp
  simp only [ho, resolve, invoke, builtin, Sem.run_bind, Sem.run_pure, Result.andThen_ok, List.map_toArray, List.map_cons, List.map_nil, hs, hx, hr]
  exact h v' w' h2 h3 h4 h5

theorem heap_alloc_new (w : World) (o : Obj) : (w.alloc o).heap[w.heap.size]? = some o := (MapKept.heap_alloc w o).1

theorem heap_alloc_old (w : World) (o : Obj) {k : Nat} (hk : k < w.heap.size) : (w.alloc o).heap[k]? = w.heap[k]? := (MapKept.heap_alloc w o).2 k hk

/-- An empty row of one's own. -/
theorem ownsRow_empty {w : World} {base g : Nat} {e : TypeId} (hb : base ≤ g) (h : w.heap[g]? = some (.cells #[] e (0, 0))) : w.ownsRow base e 1 (.slice (some ⟨g, 0, none⟩) 0 0) 0 [] :=
  ⟨rfl, .inr ⟨g, 0, #[], rfl, hb, h, Nat.le_refl _, by decide, rfl, rfl⟩⟩

theorem GrowBut.of_rowX {a b : World} {o : Option Nat} (h : a.grownBy b o) : GrowBut a b o.toList :=
  ⟨h.os, h.tape, h.output, h.size, fun j hj hn => h.block j hj (fun e => hn (by rw [← e]; simp))⟩

theorem _root_.Go.World.ownsRow.roomX {w : World} {base n m cap g : Nat} {e : TypeId} {xs : List Value} (h : w.ownsRow base e 1 (.slice (some ⟨g, 0, none⟩) m cap) n xs) : m ≤ cap := by
  rcases h.2 with ⟨h1, _⟩ | ⟨g', cap', cur, e1, _, _, h3, _⟩
  · cases h1
  · cases e1; exact h3

end Go.Proofs.Ytcoedmiichppdaa


/-
  A region that draws its order, whose loads are taken first under S, where the last operation (a store to what was loaded) may turn S.
-/
namespace Go.Proofs.Ytcoedmiichppdaa
open Go Go.RowKit Go.Maps
set_option linter.unusedVariables false
set_option linter.unusedSimpArgs false

section
variable {P : Program} {ops : Array Oper} {Q : Exit → Act → World → Prop} {md : Region.Mode} {S : World → Prop}

/-- Whatever order is picked, and S holds behind every operation but number x. -/
def wpAnyX (P : Program) (md : Region.Mode) (ops : Array Oper) (Q : Exit → Act → World → Prop) (S : World → Prop) (x : Nat) : Nat → Array Bool → Act → World → Prop
  | 0, listed, a, w => Region.ready md ops listed = [] ∧ Q .normal a w
  | fuel + 1, listed, a, w =>
    (Region.ready md ops listed = [] → Q .normal a w) ∧
    ∀ i ∈ Region.ready md ops listed, wpOp P ops Q i (fun a' w' => (i = x ∨ S w') ∧ wpAnyX P md ops Q S x fuel (listed.setIfInBounds i true) a' w') a w

theorem wpAny_of_X {x : Nat} : ∀ (fuel : Nat) (listed : Array Bool) (a : Act) (w : World), wpAnyX P md ops Q S x fuel listed a w → wpAny P md ops Q fuel listed a w
  | 0, _, _, _, h => h
  | fuel + 1, _, _, _, h => ⟨h.1, fun i hi => wpOp_mono (fun a' w' h' => wpAny_of_X fuel _ a' w' h'.2) (h.2 i hi)⟩

/-- What has come up waits for nothing that has not. -/
def Down (md : Region.Mode) (ops : Array Oper) (listed : Array Bool) : Prop := ∀ k o, ops[k]? = some o → listed.getD k false = true → ∀ e ∈ o.after, Region.binds md e = true → listed.getD e.on false = true

def downB (md : Region.Mode) (ops : Array Oper) (listed : Array Bool) : Bool := (List.range ops.size).all fun k => !listed.getD k false || ((ops[k]?).map fun o => o.after.all fun e => !Region.binds md e || listed.getD e.on false).getD true

theorem down_of {listed : Array Bool} (h : downB md ops listed = true) : Down md ops listed := fun k o hk hl e he hb => by
  unfold downB at h
  rw [List.all_eq_true] at h
  have h1 := h k (List.mem_range.2 (Array.getElem?_eq_some_iff.1 hk).1)
  rw [hl, hk] at h1
  simp only [Bool.not_true, Bool.false_or, Option.map_some, Option.getD_some, Array.all_eq_true_iff_forall_mem] at h1
  have h2 := h1 e he
  rw [hb] at h2
  simpa using h2

theorem getD_false_of_true {listed : Array Bool} {i : Nat} (h : listed.getD i true = false) : listed.getD i false = false := by
  rcases Nat.lt_or_ge i listed.size with h' | h'
  · simp [h'] at h ⊢; exact h
  · simp [Array.getElem?_eq_none h'] at h

theorem Down.set {listed : Array Bool} {i : Nat} (h : Down md ops listed) (hi : i ∈ Region.ready md ops listed) : Down md ops (listed.setIfInBounds i true) := fun k o hk hl e he hb => by
  refine getD_set_true ?_
  by_cases hki : k = i
  · subst hki
    obtain ⟨_, o', ho', hall⟩ := mem_ready.1 hi
    rw [hk] at ho'
    cases ho'
    exact hall e he hb
  · rw [getD_set_ne false (Ne.symm hki)] at hl
    exact h k o hk hl e he hb

/-- Each of these waits for the next one. -/
def chainB (md : Region.Mode) (ops : Array Oper) : List Nat → Bool
  | k :: j :: r => ((ops[k]?).map fun o => o.after.toList.any fun e => Region.binds md e && e.on == j).getD false && chainB md ops (j :: r)
  | _ => true

theorem chain_listed {listed : Array Bool} (hD : Down md ops listed) : ∀ (l : List Nat) (k : Nat), chainB md ops (k :: l) = true → (∀ o, ops[k]? = some o → ∀ e ∈ o.after, Region.binds md e = true → listed.getD e.on false = true) → ∀ j ∈ l, listed.getD j false = true
  | [], _, _, _, j, hj => by cases hj
  | i :: l, k, hc, hk, j, hj => by
    simp only [chainB, Bool.and_eq_true] at hc
    have hi : listed.getD i false = true := by
      cases ho : ops[k]? with
      | none => rw [ho] at hc; simp at hc
      | some o =>
        rw [ho] at hc
        simp only [Option.map_some, Option.getD_some, List.any_eq_true, Bool.and_eq_true, beq_iff_eq] at hc
        obtain ⟨e, he, hb, rfl⟩ := hc.1
        exact hk o ho e (Array.mem_toList_iff.1 he) hb
    rcases List.mem_cons.1 hj with rfl | hj
    · exact hi
    · exact chain_listed hD l i hc.2 (fun o ho e he hb => hD i o ho hi e he hb) j hj

theorem wpAnyX_first {x : Nat} {l : List Nat} {i : Nat} {oi : Oper} {v : Value} (hi : ops[i]? = some oi) (hsel : ∀ (j : Nat) (o : Oper) cs b, ops[j]? = some o → o.op ≠ .select cs b)
    (hQ : ∀ c a w, Q (.panic c) (a.put oi.dst v) w → Q (.panic c) a w) (hc : chainB md ops (x :: l) = true) (hl : i ∈ l) :
    ∀ (fuel : Nat) (listed : Array Bool) (a : Act) (w : World),
      (∀ j oj, ops[j]? = some oj → j ≠ i → listed.getD j true = false → (∀ e ∈ oj.after, Region.binds md e = true → e.on ≠ i) → oi.apart ops oj = true) →
      i ∈ Region.ready md ops listed → Down md ops listed → YieldsIf P ops S oi v a → S w →
      wpAnyX P md ops Q S x fuel (listed.setIfInBounds i true) (a.put oi.dst v) w → wpAnyX P md ops Q S x (fuel + 1) listed a w := by
  intro fuel
  induction fuel with
  | zero =>
    intro listed a w _ hr hD hy hS H
    refine ⟨fun h => (by rw [h] at hr; cases hr), fun j hj => ?_⟩
    by_cases hji : j = i
    · subst hji; exact hy.wpOp hi hS ⟨.inr hS, H⟩
    · have := ready_mono hj hji
      rw [H.1] at this
      cases this
  | succ fuel ih =>
    intro listed a w hfree hr hD hy hS H
    refine ⟨fun h => (by rw [h] at hr; cases hr), fun j hj => ?_⟩
    by_cases hji : j = i
    · subst hji; exact hy.wpOp hi hS ⟨.inr hS, H⟩
    · have hjx : j ≠ x := fun e => by
        subst e
        obtain ⟨_, o, ho, hall⟩ := mem_ready.1 hj
        have h1 := chain_listed hD l j hc (fun o' ho' e he hb => by rw [ho] at ho'; cases ho'; exact hall e he hb) i hl
        rw [getD_false_of_true (mem_ready.1 hr).1] at h1
        cases h1
      have h1 := H.2 j (ready_mono hj hji)
      obtain ⟨hjun, oj, hoj, hall⟩ := mem_ready.1 hj
      have hnot : ∀ e ∈ oj.after, Region.binds md e = true → e.on ≠ i := fun e he hb heq => by
        have h1 := hall e he hb
        rw [heq, getD_false_of_true (mem_ready.1 hr).1] at h1
        cases h1
      have h2 := wpOp_putIf hoj (hfree j oj hoj hji hjun hnot) (fun cs b => hsel i oi cs b hi) (fun cs b => hsel j oj cs b hoj) hQ hy h1
      have hfree' : ∀ k ok, ops[k]? = some ok → k ≠ i → (listed.setIfInBounds j true).getD k true = false →
          (∀ e ∈ ok.after, Region.binds md e = true → e.on ≠ i) → oi.apart ops ok = true := fun k ok hk hki hun hno => by
        refine hfree k ok hk hki ?_ hno
        by_cases hjk : j = k
        · subst hjk; exact hjun
        · rw [getD_set_ne true hjk] at hun; exact hun
      refine wpOp_mono (fun a' w' h3 => ⟨h3.2.1, ih (listed.setIfInBounds j true) a' w' hfree' (ready_mono hr (Ne.symm hji)) (hD.set hj) h3.1 (h3.2.1.resolve_left hjx) ?_⟩) h2
      rw [Array.setIfInBounds_comm _ _ hji]
      exact h3.2.2

theorem wpAnyX_take {x : Nat} (l : List Nat) {i : Nat} {oi : Oper} {v : Value} {fuel : Nat} {listed : Array Bool} {a : Act} {w : World} (hi : ops[i]? = some oi)
    (hs : Region.noSelect ops = true) (hf : Region.free md ops listed i = true) (hr : (Region.ready md ops listed).contains i = true) (hd : downB md ops listed = true) (hc : chainB md ops (x :: l) = true) (hl : l.contains i = true)
    (hQ : ∀ c a w, Q (.panic c) (a.put oi.dst v) w → Q (.panic c) a w) (hy : YieldsIf P ops S oi v a) (hS : S w)
    (h : wpAnyX P md ops Q S x fuel (listed.setIfInBounds i true) (a.put oi.dst v) w) : wpAnyX P md ops Q S x (fuel + 1) listed a w :=
  wpAnyX_first hi (Region.noSelect_spec hs) hQ hc (by simpa using hl) fuel listed a w (Region.free_spec hi hf) (by simpa using hr) (down_of hd) hy hS h

theorem wpAnyX_all {x : Nat} {rs : List Nat} {fuel : Nat} {listed : Array Bool} {a : Act} {w : World} (hr : Region.ready md ops listed = rs) (hne : rs ≠ [])
    (h : ∀ i ∈ rs, wpOp P ops Q i (fun a' w' => (i = x ∨ S w') ∧ wpAnyX P md ops Q S x fuel (listed.setIfInBounds i true) a' w') a w) : wpAnyX P md ops Q S x (fuel + 1) listed a w :=
  ⟨fun h0 => absurd (hr ▸ h0) hne, hr ▸ h⟩

theorem wpAnyX_done {x : Nat} {listed : Array Bool} {a : Act} {w : World} (hr : Region.ready md ops listed = []) (h : Q .normal a w) : ∀ fuel, wpAnyX P md ops Q S x fuel listed a w
  | 0 => ⟨hr, h⟩
  | _ + 1 => ⟨fun _ => h, by rw [hr]; simp⟩

theorem wp_region_X {id : Nat} {a : Act} {w : World} (x : Nat) (S : World → Prop) (hm : P.follows .mixedOrders = true)
    (h : wpAnyX P .any ops Q S x ops.size (Array.replicate ops.size false) a w.drew) : (Code.region id ops true).wp P Q a w :=
  wp_region_any hm (wpAny_of_X _ _ _ _ h)

theorem wpOp_run {i : Nat} {o : Oper} {K : Act → World → Prop} {a : Act} {w : World} (hi : ops[i]? = some o) (hw : Region.wanted o (yielded ops a.tmps) = true) (h : o.wp P a w K Q) : wpOp P ops Q i K a w := by
  unfold wpOp
  rw [hi]
  simp only [hw, if_true]
  exact .inl h

/-- An operation that yields a value in this world. -/
theorem wpOp_value {i : Nat} {o : Oper} {v : Value} {K : Act → World → Prop} {a : Act} {w w' : World} (hi : ops[i]? = some o) (hw : Region.wanted o (yielded ops a.tmps) = true) (hr : (execOp a.eval o).run P w = .ok (.value v) w') (h : K (a.put o.dst v) w') : wpOp P ops Q i K a w := by
  refine wpOp_run hi hw ?_
  unfold Oper.wp
  rw [hr]
  exact h

theorem wpOp_skip {i : Nat} {o : Oper} {K : Act → World → Prop} {a : Act} {w w' : World} (hi : ops[i]? = some o) (hw : Region.wanted o (yielded ops a.tmps) = true) (hr : (execOp a.eval o).run P w = .ok .skip w') (h : K (a.put o.dst undef) w') : wpOp P ops Q i K a w := by
  refine wpOp_run hi hw ?_
  unfold Oper.wp
  rw [hr]
  exact h

/-- An operation that lays a new block. -/
theorem wpOp_alloc {i : Nat} {o : Oper} {K : Act → World → Prop} {a : Act} {w : World} {n : Nat} {cs : Array Value} {t : TypeId} (hi : ops[i]? = some o) (hw : Region.wanted o (yielded ops a.tmps) = true) (hr : (execOp a.eval o).run P w = .ok (.value (.slice (some ⟨w.heap.size, 0, none⟩) n n)) (w.alloc (.cells cs t)))
    (h : ∀ (w' : World) (b : Nat), GrowBut w w' [] → w.heap.size ≤ b → b < w'.heap.size → w'.heap[b]? = some (.cells cs t (0, 0)) → K (a.put o.dst (.slice (some ⟨b, 0, none⟩) n n)) w') : wpOp P ops Q i K a w :=
  wpOp_value hi hw hr (h _ _ (GrowBut.alloc _ _ _) (Nat.le_refl _) (by simp) (heap_alloc_new w (.cells cs t)))

theorem cells_of_block {w : World} {b : Nat} {cs : List Value} {t : TypeId} (h : w.heap[b]? = some (.cells cs.toArray t (0, 0))) : ∀ j u, cs[j]? = some u → w.cell? ⟨b, j, none⟩ = some u := fun j u hj => by
  simp only [World.cell?, h]
  simpa using hj

/-- append onto a row of the call's own. -/
theorem wpOp_append {i : Nat} {o : Oper} {K : Act → World → Prop} {a : Act} {w : World} (hi0 : ops[i]? = some o) (hgd : o.guard = none) (s x : Operand) (t : TypeId)
    (ho : o.op = .call { callee := .builtin .append, args := #[s, x], argTypes := #[t, t] })
    (base : Nat) (e : TypeId) (ti : TypeInfo) (z : Value) (size bytes : Nat) (ht : P.underlying t = some (.slice e)) (hi : P.info? e = some ti) (hz : ti.zero = some z)
    (hsize : ti.size = size) (hby : ti.bytes = bytes) (hzs : z.cells.size = size) (hsz : 0 < size)
    (v : Value) (n : Nat) (xs : List Value) (hs : a.eval s = v) (hown : w.ownsRow base e size v n xs)
    (ad : Addr) (m c : Nat) (news : List Value) (hx : a.eval x = .slice (some ad) m c) (hl : news.length = m * size) (hnews : ∀ j u, news[j]? = some u → w.cell? (ad.add j) = some u) (h1 : ∀ u ∈ news, u.oneCell' = true)
    (h63 : n + m ≤ maxLen) (hbytes : (n + m) * bytes ≤ 140737488355328) (hbase : base ≤ w.heap.size)
    (h : ∀ v' w', w'.ownsRow base e size v' (n + m) (xs ++ news) → w.grownBy w' v.ownBlock → (v'.ownBlock = v.ownBlock ∨ v'.ownBlock = some w.heap.size) → K (a.put o.dst v') w') : wpOp P ops Q i K a w := by
  refine wpOp_run hi0 (by simp [Region.wanted, hgd]) ?_
  obtain ⟨v', w', hr, h2, h3, h4, h5⟩ := run_append_own_at (P := P) w base t o.type e ti z size bytes ht hi hz hsize hby hzs hsz v n xs hown ad m c news hl hnews h1 h63 hbytes hbase
  unfold Oper.wp execOp
  simp only [ho, resolve, invoke, builtin, Sem.run_bind, Sem.run_pure, Result.andThen_ok, List.map_toArray, List.map_cons, List.map_nil, hs, hx, hr]
  exact h v' w' h2 h3 h5

/-- The same, where the row is not empty behind it: its value written out. -/
theorem wpOp_appendF {i : Nat} {o : Oper} {K : Act → World → Prop} {a : Act} {w : World} (hi0 : ops[i]? = some o) (hgd : o.guard = none) (s x : Operand) (t : TypeId)
    (ho : o.op = .call { callee := .builtin .append, args := #[s, x], argTypes := #[t, t] })
    (base : Nat) (e : TypeId) (ti : TypeInfo) (z : Value) (size bytes : Nat) (ht : P.underlying t = some (.slice e)) (hi : P.info? e = some ti) (hz : ti.zero = some z)
    (hsize : ti.size = size) (hby : ti.bytes = bytes) (hzs : z.cells.size = size) (hsz : 0 < size)
    (v : Value) (n : Nat) (xs : List Value) (hs : a.eval s = v) (hown : w.ownsRow base e size v n xs)
    (ad : Addr) (m c : Nat) (news : List Value) (hx : a.eval x = .slice (some ad) m c) (hl : news.length = m * size) (hnews : ∀ j u, news[j]? = some u → w.cell? (ad.add j) = some u) (h1 : ∀ u ∈ news, u.oneCell' = true)
    (h63 : n + m ≤ maxLen) (hbytes : (n + m) * bytes ≤ 140737488355328) (hbase : base ≤ w.heap.size) (hpos : 0 < n + m)
    (h : ∀ g cap w', w'.ownsRow base e size (.slice (some ⟨g, 0, none⟩) (n + m) cap) (n + m) (xs ++ news) → n + m ≤ cap → w.grownBy w' v.ownBlock → K (a.put o.dst (.slice (some ⟨g, 0, none⟩) (n + m) cap)) w') : wpOp P ops Q i K a w := by
  refine wpOp_append hi0 hgd s x t ho base e ti z size bytes ht hi hz hsize hby hzs hsz v n xs hs hown ad m c news hx hl hnews h1 h63 hbytes hbase fun v' w' hown' hg _ => ?_
  obtain ⟨g, cap, rfl, hb, hlt⟩ := hown'.form hpos
  refine h g cap w' hown' ?_ hg
  rcases hown'.2 with ⟨e1, _⟩ | ⟨g', cap', cur, e1, _, _, h3, _⟩
  · cases e1
  · cases e1; exact h3

/-- The same, onto a row that is not nil: its value written out. -/
theorem wpOp_appendN {i : Nat} {o : Oper} {K : Act → World → Prop} {a : Act} {w : World} (hi0 : ops[i]? = some o) (hgd : o.guard = none) (s x : Operand) (t : TypeId)
    (ho : o.op = .call { callee := .builtin .append, args := #[s, x], argTypes := #[t, t] })
    (base : Nat) (e : TypeId) (ti : TypeInfo) (z : Value) (size bytes : Nat) (ht : P.underlying t = some (.slice e)) (hi : P.info? e = some ti) (hz : ti.zero = some z)
    (hsize : ti.size = size) (hby : ti.bytes = bytes) (hzs : z.cells.size = size) (hsz : 0 < size)
    (v : Value) (n : Nat) (xs : List Value) (hs : a.eval s = v) (hown : w.ownsRow base e size v n xs)
    (ad : Addr) (m c : Nat) (news : List Value) (hx : a.eval x = .slice (some ad) m c) (hl : news.length = m * size) (hnews : ∀ j u, news[j]? = some u → w.cell? (ad.add j) = some u) (h1 : ∀ u ∈ news, u.oneCell' = true)
    (h63 : n + m ≤ maxLen) (hbytes : (n + m) * bytes ≤ 140737488355328) (hbase : base ≤ w.heap.size) (hne : v ≠ .slice none 0 0)
    (h : ∀ g cap w', w'.ownsRow base e size (.slice (some ⟨g, 0, none⟩) (n + m) cap) (n + m) (xs ++ news) → n + m ≤ cap → w.grownBy w' v.ownBlock → K (a.put o.dst (.slice (some ⟨g, 0, none⟩) (n + m) cap)) w') : wpOp P ops Q i K a w := by
  refine wpOp_run hi0 (by simp [Region.wanted, hgd]) ?_
  obtain ⟨v', w', hr, h2, h3, h4, h5⟩ := run_append_own_at (P := P) w base t o.type e ti z size bytes ht hi hz hsize hby hzs hsz v n xs hown ad m c news hl hnews h1 h63 hbytes hbase
  unfold Oper.wp execOp
  simp only [ho, resolve, invoke, builtin, Sem.run_bind, Sem.run_pure, Result.andThen_ok, List.map_toArray, List.map_cons, List.map_nil, hs, hx, hr]
  rcases h2.2 with ⟨e1, _⟩ | ⟨g, cap, cur, rfl, hb, hh, h6, h7⟩
  · exact absurd (h4.1 e1).1 hne
  · exact h g cap w' h2 h6 h3

theorem wpOp_append_none {i : Nat} {o : Oper} {K : Act → World → Prop} {a : Act} {w : World} (hi0 : ops[i]? = some o) (hgd : o.guard = none) (s x : Operand) (t : TypeId)
    (ho : o.op = .call { callee := .builtin .append, args := #[s, x], argTypes := #[t, t] }) (e : TypeId) (ti : TypeInfo) (ht : P.underlying t = some (.slice e)) (hi : P.info? e = some ti)
    (g : Addr) (n cap : Nat) (hs : a.eval s = .slice (some g) n cap) (hx : a.eval x = .slice none 0 0) (hcap : n ≤ cap) (h : K (a.put o.dst (.slice (some g) n cap)) w) : wpOp P ops Q i K a w := by
  refine wpOp_run hi0 (by simp [Region.wanted, hgd]) ?_
  have hr := run_append_none (P := P) w t o.type e ti ht hi g n cap hcap
  unfold Oper.wp execOp
  simp only [ho, resolve, invoke, builtin, Sem.run_bind, Sem.run_pure, Result.andThen_ok, List.map_toArray, List.map_cons, List.map_nil, hs, hx, hr]
  exact h

end

/-- A piece of code that ends in acts of one form: what follows is walked once. -/
theorem wp_viaE {P : Program} {c : Code} {K : Exit → Act → World → Prop} {a : Act} {w : World} {ι : Type} (F : ι → World → Prop) (f : ι → Act → Act) (reg : ∀ Q : Act → World → Prop, (∀ x w', F x w' → Q (f x a) w') → c.wp P (onlyV Q) a w) (cont : ∀ x w', F x w' → K .normal (f x a) w') : c.wp P K a w :=
  Code.wp_mono (fun e a' w' h => by
    cases e with
    | normal => exact h
    | _ => exact h.elim) (reg (K .normal) cont)

end Go.Proofs.Ytcoedmiichppdaa


/-
  Package pact: note.
-/
namespace Go.Proofs.Ytcoedmiichppdaa
open Go Go.RowKit Go.Maps Go.Am
set_option linter.unusedVariables false
set_option linter.unusedSimpArgs false

theorem infoN : (Try.prog.info? 3).map (fun i => (i.zero, i.size, i.bytes)) = some (some (.int .i64 0), 1, 8) := by kernel_rfl

/-- One event more. -/
def noteE (events : Int → List Int) (m e : Int) : Int → List Int := fun k => if k = m then events k ++ [e] else events k


theorem add_zeroP (b j : Nat) : Addr.add ⟨b, 0, none⟩ j = ⟨b, j, none⟩ := by unfold Addr.add; split <;> simp_all

theorem MarksAt.moreP {w : World} {B b n n' : Nat} {g : Nat → Int} {L : List Int} (h : MarksAt w B b n g L) (hn : n ≤ n') : MarksAt w B b n' g L := by
  obtain ⟨D, hown, hD⟩ := h.own
  exact ⟨h.c, h.fz, h.ptr, h.lt, h.ne, ⟨D, hown.mono hn, hD⟩, h.of, h.few, fun i => by have := h.gb i; omega⟩

/-- One event more stands for m. -/
theorem PactsAt.noted {w w3 w4 : World} {ow : Nat → Int} {P MB b LB EB N : Nat} {g : Nat → Int} {L : List Int} {deals : Int → Option PactR} {events : Int → List Int} (h : PactsAt w ow P MB b LB EB N g L deals events) {m ev : Int} (hm0 : 0 < m) {v v3 : Value} (hv : RowOf w ow (-m - 10) 3 1 v (events m).length ((events m).map (Value.int .i64)))
    {fe : Int → Option Value} (hev : ∀ m, 0 ≤ m → EventSays w ow m (fe m) (events m)) (hg3 : GrowBut w w3 v.ownBlock.toList) (hown3 : w3.ownsRow 0 3 1 v3 ((events m).length + 1) ((events m).map (Value.int .i64) ++ [.int .i64 ev])) (hat : v3.ownBlock = v.ownBlock ∨ ∃ x, w.heap.size ≤ x ∧ v3.ownBlock = some x)
    (hte4 : TabAt w4 .u64 33 EB (N + 1) (putT fe m v3)) (hg4 : GrowBut w3 w4 [EB]) :
    PactsAt w4 (owN ow w (-m - 10)) P MB b LB EB (N + 1) g L deals (noteE events m ev) ∧ ∃ l, GrowBut w w4 l ∧ ∀ x ∈ l, ow x = -m - 10 ∨ x = EB := by
  obtain ⟨o1, o2, o3, o4, o5⟩ := h.own
  obtain ⟨n1, n2, n3, n4, n5, n6, n7, n8, n9⟩ := h.ne
  have hG : GrowBut w w4 (v.ownBlock.toList ++ [EB]) := (hg3.mono (fun x hx => List.mem_append.2 (.inl hx))).trans (hg4.mono (fun x hx => List.mem_append.2 (.inr hx)))
  have hvo : ∀ x ∈ v.ownBlock.toList, ow x = -m - 10 := fun x hx => hv.2 x (by simpa using hx)
  have hout : ∀ x ∈ v.ownBlock.toList ++ [EB], ow x = -m - 10 ∨ x = EB := fun x hx => by
    rw [List.mem_append] at hx
    rcases hx with hx | hx
    · exact .inl (hvo x hx)
    · exact .inr (by simpa using hx)
  have hnot : ∀ y, ow y = -1 → y ≠ EB → y ∉ v.ownBlock.toList ++ [EB] := fun y hy hE hm' => by
    rcases hout y hm' with h1 | h1
    · omega
    · exact hE h1
  have hP := cell_lt h.p0
  have hold : ∀ x, x < w.heap.size → owN ow w (-m - 10) x = ow x := owN_old
  obtain ⟨fl, htl, hdl⟩ := h.tl
  refine ⟨⟨hG.cell h.p0 (hnot P o1 n4), hG.cell h.p1 (hnot P o1 n4), hG.cell h.p2 (hnot P o1 n4), (h.marks.kept hG (hnot MB o2 n6) (hnot b o3 n8)).moreP (by omega), ?_, h.ne, ⟨fl, (htl.kept hG (hnot LB o4 n9)).mono (by omega), fun k => ?_⟩, ⟨_, hte4, fun k => ?_⟩, fun k hk => ?_⟩, _, hG, hout⟩
  · have hM := h.marks.lt
    have hb := h.marks.blt
    have hL := htl.blt
    have hE := hte4.blt
    obtain ⟨fe0, hte0, _⟩ := h.te
    have hE0 := hte0.blt
    exact ⟨by rw [owN_old P hP]; exact o1, by rw [owN_old MB hM]; exact o2, by rw [owN_old b hb]; exact o3, by rw [owN_old LB hL]; exact o4, by rw [owN_old EB hE0]; exact o5⟩
  · have hk := hdl k
    cases hd : deals k with
    | none => rw [hd] at hk; exact hk
    | some r =>
      rw [hd] at hk
      have hk0 := h.pos k (.inl (by rw [hd]; exact fun e => by cases e))
      refine DealSays.step (x := some r) hk hG (fun x hx _ => ?_) hold (Nat.le_succ N)
      rcases hout x hx with h1 | h1
      · omega
      · rw [h1, o5]; omega
  · intro hk0
    by_cases e : k = m
    · subst e
      refine ⟨v3, by simp [putT], ?_, fun g hg => ?_⟩
      · have hne3 : EB ∉ v3.ownBlock.toList := fun hx => by
          have hx' : v3.ownBlock = some EB := by simpa using hx
          obtain ⟨fe0, hte0, _⟩ := h.te
          have hE0 := hte0.blt
          rcases hat with h1 | ⟨x, h1, h2⟩
          · have := hv.2 EB (by rw [← h1]; exact hx'); omega
          · rw [hx'] at h2; cases h2; omega
        have := hg4.row hown3 (fun j hj hm => hne3 (by simp at hm; subst hm; simpa using hj))
        simpa [noteE] using this
      · rcases hat with h1 | ⟨x, h1, h2⟩
        · rw [h1] at hg
          rw [owN_old g (hv.1.lt g hg).2]
          exact hv.2 g hg
        · rw [hg] at h2; cases h2
          exact owN_new h1
    · have hk := hev k hk0
      have h1 : putT fe m v3 k = fe k := by simp [putT, e]
      have h2 : noteE events m ev k = events k := by simp [noteE, e]
      rw [h1, h2]
      refine hk.step hG (fun x hx _ => ?_) hold
      rcases hout x hx with h1 | h1
      · omega
      · rw [h1, o5]; omega
  · by_cases e : k = m
    · subst e; exact hm0
    · exact h.pos k (by simpa [noteE, e] using hk)

set_option maxRecDepth 100000 in
set_option maxHeartbeats 4000000 in
theorem note_calls {w : World} {ow : Nat → Int} {P MB b LB EB N : Nat} {g : Nat → Int} {L : List Int} {deals : Int → Option PactR} {events : Int → List Int} (h : PactsAt w ow P MB b LB EB N g L deals events) (m ev : Int) (hm : (Lit.int .u64 m).wf = true) (hm0 : 0 < m) (hN : N ≤ 100000) (hl : (events m).length ≤ 10000) :
    Calls Try.prog 72 #[.pointer (some ⟨P, 0, none⟩), .int .u64 m, .int .i64 ev] w fun e w' => e = .returned (.tuple #[]) ∧ PactsAt w' (owN ow w (-m - 10)) P MB b LB EB (N + 1) g L deals (noteE events m ev) ∧ ∃ l, GrowBut w w' l ∧ ∀ x ∈ l, ow x = -m - 10 ∨ x = EB := by
  have hp2 := h.p2
  have hownP := h.own.1
  have hownE := h.own.2.2.2.2
  obtain ⟨fe, hte, hev⟩ := h.te
  obtain ⟨i0, hi, hz0, hz1, hz2⟩ := info_parts infoN
  obtain ⟨v, hv, hown⟩ := hev m (by omega)
  obtain ⟨s, cp, rfl⟩ := row_form hown.1
  have hPr : P ∉ (Value.slice s (events m).length cp).ownBlock.toList := fun hx => by
    have := hown.2 P (by simpa using hx)
    omega
  have hEr : EB ∉ (Value.slice s (events m).length cp).ownBlock.toList := fun hx => by
    have := hown.2 EB (by simpa using hx)
    omega
  have hSof : ∀ w' l, GrowBut w w' l → P ∉ l → EB ∉ l → (∀ x ∈ l, x ∈ (Value.slice s (events m).length cp).ownBlock.toList) → w'.cell? ⟨P, 2, none⟩ = some (.map (some EB)) ∧ (Instr.lookup 90 (.map (some EB)) (.int .u64 m) false).run Try.prog w' = .ok (.slice s (events m).length cp) w' := fun w' l hg h1 h2 _ => by
    refine ⟨hg.cell hp2 h1, ?_⟩
    have := (hte.kept hg h2).look (t := 90) (e := 32) lawU Try.underlying33 Try.underlying90 (zeroEv w') hm
    rw [hv] at this
    exact this
  go_enter Try.func72, Try.ntmps72
  go_upto_region 0 with fail
  refine wp_region_X 14 (fun w' => w'.cell? ⟨P, 2, none⟩ = some (.map (some EB)) ∧ (Instr.lookup 90 (.map (some EB)) (.int .u64 m) false).run Try.prog w' = .ok (.slice s (events m).length cp) w') (by kernel_rfl) ?_
  have hg0 : GrowBut w w.drew [] := GrowBut.drew _ _
  have hS0 := hSof _ [] hg0 (by simp) (by simp) (by simp)
  generalize wDrew : w.drew = w0 at hg0 hS0 ⊢
  refine wpAnyX_take [3, 2, 1, 0] (i := 0) (v := .pointer (some ⟨P, 0, none⟩)) rfl (by kernel_rfl) (by kernel_rfl) (by kernel_rfl) (by kernel_rfl) (by kernel_rfl) (by kernel_rfl) (fun _ _ _ h => h) (Or.inl ⟨by rfl, fun w' hw' => (by dsimp only at hw'; obtain ⟨hw1, hw2⟩ := hw'; go_simp)⟩) hS0 ?_
  simp only [List.getElem_toArray, List.getElem_cons_succ, List.getElem_cons_zero, Act.put, List.setIfInBounds_toArray, List.set_cons_succ, List.set_cons_zero]
  refine wpAnyX_take [3, 2, 1] (i := 1) (v := .pointer (some ⟨P, 0, none⟩)) rfl (by kernel_rfl) (by kernel_rfl) (by kernel_rfl) (by kernel_rfl) (by kernel_rfl) (by kernel_rfl) (fun _ _ _ h => h) (Or.inl ⟨by rfl, fun w' hw' => (by dsimp only at hw'; obtain ⟨hw1, hw2⟩ := hw'; go_simp)⟩) hS0 ?_
  simp only [List.getElem_toArray, List.getElem_cons_succ, List.getElem_cons_zero, Act.put, List.setIfInBounds_toArray, List.set_cons_succ, List.set_cons_zero]
  refine wpAnyX_take [3, 2] (i := 2) (v := .pointer (some ⟨P, 2, none⟩)) rfl (by kernel_rfl) (by kernel_rfl) (by kernel_rfl) (by kernel_rfl) (by kernel_rfl) (by kernel_rfl) (fun _ _ _ h => h) (Or.inl ⟨by rfl, fun w' hw' => (by dsimp only at hw'; obtain ⟨hw1, hw2⟩ := hw'; go_simp)⟩) hS0 ?_
  simp only [List.getElem_toArray, List.getElem_cons_succ, List.getElem_cons_zero, Act.put, List.setIfInBounds_toArray, List.set_cons_succ, List.set_cons_zero]
  refine wpAnyX_take [3] (i := 3) (v := .map (some EB)) rfl (by kernel_rfl) (by kernel_rfl) (by kernel_rfl) (by kernel_rfl) (by kernel_rfl) (by kernel_rfl) (fun _ _ _ h => h) (Or.inl ⟨by rfl, fun w' hw' => (by dsimp only at hw'; obtain ⟨hw1, hw2⟩ := hw'; go_simp)⟩) hS0 ?_
  simp only [List.getElem_toArray, List.getElem_cons_succ, List.getElem_cons_zero, Act.put, List.setIfInBounds_toArray, List.set_cons_succ, List.set_cons_zero]
  refine wpAnyX_take [4] (i := 4) (v := .int .u64 m) rfl (by kernel_rfl) (by kernel_rfl) (by kernel_rfl) (by kernel_rfl) (by kernel_rfl) (by kernel_rfl) (fun _ _ _ h => h) (Or.inl ⟨by rfl, fun w' hw' => (by dsimp only at hw'; obtain ⟨hw1, hw2⟩ := hw'; go_simp)⟩) hS0 ?_
  simp only [List.getElem_toArray, List.getElem_cons_succ, List.getElem_cons_zero, Act.put, List.setIfInBounds_toArray, List.set_cons_succ, List.set_cons_zero]
  refine wpAnyX_take [13, 10, 8, 7, 6, 5] (i := 5) (v := .pointer (some ⟨P, 0, none⟩)) rfl (by kernel_rfl) (by kernel_rfl) (by kernel_rfl) (by kernel_rfl) (by kernel_rfl) (by kernel_rfl) (fun _ _ _ h => h) (Or.inl ⟨by rfl, fun w' hw' => (by dsimp only at hw'; obtain ⟨hw1, hw2⟩ := hw'; go_simp)⟩) hS0 ?_
  simp only [List.getElem_toArray, List.getElem_cons_succ, List.getElem_cons_zero, Act.put, List.setIfInBounds_toArray, List.set_cons_succ, List.set_cons_zero]
  refine wpAnyX_take [13, 10, 8, 7, 6] (i := 6) (v := .pointer (some ⟨P, 0, none⟩)) rfl (by kernel_rfl) (by kernel_rfl) (by kernel_rfl) (by kernel_rfl) (by kernel_rfl) (by kernel_rfl) (fun _ _ _ h => h) (Or.inl ⟨by rfl, fun w' hw' => (by dsimp only at hw'; obtain ⟨hw1, hw2⟩ := hw'; go_simp)⟩) hS0 ?_
  simp only [List.getElem_toArray, List.getElem_cons_succ, List.getElem_cons_zero, Act.put, List.setIfInBounds_toArray, List.set_cons_succ, List.set_cons_zero]
  refine wpAnyX_take [13, 10, 8, 7] (i := 7) (v := .pointer (some ⟨P, 2, none⟩)) rfl (by kernel_rfl) (by kernel_rfl) (by kernel_rfl) (by kernel_rfl) (by kernel_rfl) (by kernel_rfl) (fun _ _ _ h => h) (Or.inl ⟨by rfl, fun w' hw' => (by dsimp only at hw'; obtain ⟨hw1, hw2⟩ := hw'; go_simp)⟩) hS0 ?_
  simp only [List.getElem_toArray, List.getElem_cons_succ, List.getElem_cons_zero, Act.put, List.setIfInBounds_toArray, List.set_cons_succ, List.set_cons_zero]
  refine wpAnyX_take [13, 10, 8] (i := 8) (v := .map (some EB)) rfl (by kernel_rfl) (by kernel_rfl) (by kernel_rfl) (by kernel_rfl) (by kernel_rfl) (by kernel_rfl) (fun _ _ _ h => h) (Or.inl ⟨by rfl, fun w' hw' => (by dsimp only at hw'; obtain ⟨hw1, hw2⟩ := hw'; go_simp)⟩) hS0 ?_
  simp only [List.getElem_toArray, List.getElem_cons_succ, List.getElem_cons_zero, Act.put, List.setIfInBounds_toArray, List.set_cons_succ, List.set_cons_zero]
  refine wpAnyX_take [13, 10, 9] (i := 9) (v := .int .u64 m) rfl (by kernel_rfl) (by kernel_rfl) (by kernel_rfl) (by kernel_rfl) (by kernel_rfl) (by kernel_rfl) (fun _ _ _ h => h) (Or.inl ⟨by rfl, fun w' hw' => (by dsimp only at hw'; obtain ⟨hw1, hw2⟩ := hw'; go_simp)⟩) hS0 ?_
  simp only [List.getElem_toArray, List.getElem_cons_succ, List.getElem_cons_zero, Act.put, List.setIfInBounds_toArray, List.set_cons_succ, List.set_cons_zero]
  refine wpAnyX_take [13, 10] (i := 10) (v := .slice s (events m).length cp) rfl (by kernel_rfl) (by kernel_rfl) (by kernel_rfl) (by kernel_rfl) (by kernel_rfl) (by kernel_rfl) (fun _ _ _ h => h) (Or.inl ⟨by rfl, fun w' hw' => (by dsimp only at hw'; obtain ⟨hw1, hw2⟩ := hw'; go_simp)⟩) hS0 ?_
  simp only [List.getElem_toArray, List.getElem_cons_succ, List.getElem_cons_zero, Act.put, List.setIfInBounds_toArray, List.set_cons_succ, List.set_cons_zero]
  refine wpAnyX_take [13, 12, 11] (i := 11) (v := .int .i64 ev) rfl (by kernel_rfl) (by kernel_rfl) (by kernel_rfl) (by kernel_rfl) (by kernel_rfl) (by kernel_rfl) (fun _ _ _ h => h) (Or.inl ⟨by rfl, fun w' hw' => (by dsimp only at hw'; obtain ⟨hw1, hw2⟩ := hw'; go_simp)⟩) hS0 ?_
  simp only [List.getElem_toArray, List.getElem_cons_succ, List.getElem_cons_zero, Act.put, List.setIfInBounds_toArray, List.set_cons_succ, List.set_cons_zero]
  refine wpAnyX_all (rs := [12]) (by kernel_rfl) (by simp) (fun i2 hi2 => ?_)
  simp only [List.mem_cons, List.not_mem_nil, or_false] at hi2
  subst hi2
  refine wpOp_alloc (by rfl) (by rfl) (n := 1) (cs := #[.int .i64 ev]) (t := 3) (by go_simp) ?_
  intro w2 b2 g2 o2 l2 h2
  have hg2 := hg0.trans g2
  have hS2 := hSof w2 [] hg2 (by simp) (by simp) (by simp)
  have hx2 := cells_of_block (cs := [.int .i64 ev]) h2
  have hr2 := hg2.row hown.1 (by simp)
  refine ⟨.inr hS2, ?_⟩
  simp only [List.getElem_toArray, List.getElem_cons_succ, List.getElem_cons_zero, Act.put, List.setIfInBounds_toArray, List.set_cons_succ, List.set_cons_zero]
  refine wpAnyX_all (rs := [13]) (by kernel_rfl) (by simp) (fun i2 hi2 => ?_)
  simp only [List.mem_cons, List.not_mem_nil, or_false] at hi2
  subst hi2
  refine wpOp_append (by rfl) (by rfl) _ _ 32 (by rfl) 0 3 i0 (.int .i64 0) 1 8 Try.underlying32 hi hz0 hz1 hz2 rfl (by decide) (.slice s (events m).length cp) (events m).length ((events m).map (Value.int .i64)) (by go_simp) hr2 ⟨b2, 0, none⟩ 1 1 [.int .i64 ev] (by go_simp) rfl (fun j u hj => by rw [add_zeroP]; exact hx2 j u hj) (fun u hu => by simp at hu; subst hu; rfl) (by unfold maxLen; omega) (by omega) (Nat.zero_le _) ?_
  intro v3 w3 hown3 hg3 hat3
  have hg3' := GrowBut.of_rowX hg3
  have hg30 : GrowBut w w3 (Value.slice s (events m).length cp).ownBlock.toList := (hg2.mono (by simp)).trans hg3'
  have hS3 := hSof w3 _ hg30 hPr hEr (fun x hx => hx)
  refine ⟨.inr hS3, ?_⟩
  simp only [List.getElem_toArray, List.getElem_cons_succ, List.getElem_cons_zero, Act.put, List.setIfInBounds_toArray, List.set_cons_succ, List.set_cons_zero]
  refine wpAnyX_all (rs := [14]) (by kernel_rfl) (by simp) (fun i2 hi2 => ?_)
  simp only [List.mem_cons, List.not_mem_nil, or_false] at hi2
  subst hi2
  obtain ⟨w4, hrun4, hte4, hg4, _⟩ := (hte.kept hg30 hEr).upd (t := 90) (e := 32) lawU Try.underlying33 Try.underlying90 (by omega) hm v3
  refine wpOp_skip (by rfl) (by rfl) (w' := w4) (by go_simp) ?_
  refine ⟨.inl rfl, ?_⟩
  simp only [List.getElem_toArray, List.getElem_cons_succ, List.getElem_cons_zero, Act.put, List.setIfInBounds_toArray, List.set_cons_succ, List.set_cons_zero]
  refine wpAnyX_done (by kernel_rfl) ?_ _

  go_wp2_with fail
  first | go_ret2 | go_end0
  obtain ⟨hP, hl'⟩ := h.noted hm0 hown hev hg30 hown3 (by
    rcases hat3 with h1 | h1
    · exact .inl h1
    · exact .inr ⟨_, hg2.size, h1⟩) hte4 hg4
  exact ⟨rfl, hP, hl'⟩

end Go.Proofs.Ytcoedmiichppdaa


/-
  Package pact: what the law's own blocks do not turn; Events; ends.
-/
namespace Go.Proofs.Ytcoedmiichppdaa
open Go Go.RowKit Go.Maps Go.Am Go.Shelf
set_option linter.unusedVariables false
set_option linter.unusedSimpArgs false

shelf_lay Lays2.n15 Nm2 15 at Try as Try.cloneP

/-- What turns the law's own blocks alone. -/
theorem PactsAt.step {w w' : World} {ow ow' : Nat → Int} {P MB b LB EB N : Nat} {g : Nat → Int} {L : List Int} {deals : Int → Option PactR} {events : Int → List Int} {l : List Nat} (h : PactsAt w ow P MB b LB EB N g L deals events) (hg : GrowBut w w' l) (hl : ∀ x ∈ l, x < w.heap.size → ow x = -2) (ho : ∀ x, x < w.heap.size → ow' x = ow x) : PactsAt w' ow' P MB b LB EB N g L deals events := by
  obtain ⟨o1, o2, o3, o4, o5⟩ := h.own
  obtain ⟨fl, htl, hdl⟩ := h.tl
  obtain ⟨fe, hte, hev⟩ := h.te
  have hP := cell_lt h.p0
  have hM := h.marks.lt
  have hb := h.marks.blt
  have hL := htl.blt
  have hE := hte.blt
  have hnot : ∀ y, y < w.heap.size → ow y = -1 → y ∉ l := fun y h1 h2 hm => by have := hl y hm h1; omega
  refine ⟨hg.cell h.p0 (hnot P hP o1), hg.cell h.p1 (hnot P hP o1), hg.cell h.p2 (hnot P hP o1), h.marks.kept hg (hnot MB hM o2) (hnot b hb o3), ?_, h.ne, ⟨fl, htl.kept hg (hnot LB hL o4), fun k => ?_⟩, ⟨fe, hte.kept hg (hnot EB hE o5), fun k hk => (hev k hk).step hg (fun x hx hs => by have := hl x hx hs; omega) ho⟩, h.pos⟩
  · rw [ho P hP, ho MB hM, ho b hb, ho LB hL, ho EB hE]; exact ⟨o1, o2, o3, o4, o5⟩
  · have hk := hdl k
    cases hd : deals k with
    | none => rw [hd] at hk; exact hk
    | some r =>
      rw [hd] at hk
      have hk0 := h.pos k (.inl (by rw [hd]; exact fun e => by cases e))
      exact DealSays.step (x := some r) hk hg (fun x hx hs => by have := hl x hx hs; omega) ho (Nat.le_refl N)

/-- slices.Clone at int, of any row. -/
theorem cloneRow {base c : Nat} {s : Option Addr} {zs : List Int} {w : World} (h : w.ownsRow base 3 1 (.slice s zs.length c) zs.length (zs.map (Value.int .i64))) (hl : zs.length ≤ 100000) :
    Calls Try.prog 78 #[.slice s zs.length c] w fun e w' => ∃ v, e = .returned v ∧ w'.ownsRow w.heap.size 3 1 v zs.length (zs.map (Value.int .i64)) ∧ GrowBut w w' [] := by
  rcases h.2 with ⟨h0, h1⟩ | ⟨g, cap, cur, hv, hbase, hgb, r1, r2, r3, r4⟩
  · simp only [Value.slice.injEq] at h0
    obtain ⟨rfl, h2, rfl⟩ := h0
    obtain rfl : zs = [] := List.length_eq_zero_iff.1 h2
    refine (Any.slices_Clone_int_nil Try.cloneP 0 0 w).mono ?_
    rintro e w' ⟨rfl, rfl⟩
    exact ⟨_, rfl, World.ownsRow_nil _ _ _ _, .refl _ _⟩
  · simp only [Value.slice.injEq] at hv
    obtain ⟨rfl, _, rfl⟩ := hv
    rcases Nat.eq_zero_or_pos zs.length with h0 | h0
    · obtain rfl : zs = [] := List.length_eq_zero_iff.1 h0
      refine (Any.slices_Clone_int_zero Try.cloneP ⟨g, 0, none⟩ c w).mono ?_
      rintro e w' ⟨v1, rfl, hrow1, _, hbel⟩
      exact ⟨_, rfl, hrow1, .of_below hbel⟩
    · obtain ⟨s', cap', g', hv, hat⟩ := rowI_open h
      simp only [Value.slice.injEq] at hv
      obtain ⟨rfl, _, _⟩ := hv
      obtain ⟨e1, hat⟩ := hat h0
      simp only [Option.some.injEq, Addr.mk.injEq] at e1
      obtain ⟨rfl, _⟩ := e1
      refine (Any.slices_Clone_int Try.cloneP g 0 zs.length c zs w (Nat.le_refl _) (by omega) (fun j hj => by rw [Nat.zero_add]; exact hat j hj)).mono ?_
      rintro e w' ⟨v, rfl, hrow, hne, hb⟩
      rw [List.take_length] at hrow
      exact ⟨v, rfl, hrow, .of_below hb⟩

set_option maxRecDepth 100000 in
set_option maxHeartbeats 2000000 in
theorem events_calls {w : World} {ow : Nat → Int} {P MB b LB EB N : Nat} {g : Nat → Int} {L : List Int} {deals : Int → Option PactR} {events : Int → List Int} (h : PactsAt w ow P MB b LB EB N g L deals events) (m : Int) (hm : (Lit.int .u64 m).wf = true) (hm0 : 0 ≤ m) (hl : (events m).length ≤ 10000) :
    Calls Try.prog 42 #[.pointer (some ⟨P, 0, none⟩), .int .u64 m] w fun e w' => ∃ v, e = .returned v ∧ w'.ownsRow w.heap.size 3 1 v (events m).length ((events m).map (Value.int .i64)) ∧ GrowBut w w' [] := by
  have hp2 := h.p2
  obtain ⟨fe, hte, hev⟩ := h.te
  obtain ⟨v, hv, hown⟩ := hev m hm0
  obtain ⟨s, cp, rfl⟩ := row_form hown.1
  have hC := cloneRow hown.1 (by omega)
  have hlk := hte.look (t := 90) (e := 32) lawU Try.underlying33 Try.underlying90 (zeroEv w) hm
  rw [hv] at hlk
  clear hte hev hown hv
  generalize (events m).length = n at *
  go_enter Try.func42, Try.ntmps42
  go_wp2_with (first
    | (go_at_call 78; (refine hC.mono ?_; clear hC; rintro e w1 ⟨v1, rfl, hrow1, hg1⟩))
    | fail)
  go_ret
  exact ⟨_, rfl, hrow1, hg1⟩

/-- One deal less. -/
def noDeal (deals : Int → Option PactR) (m : Int) : Int → Option PactR := fun k => if k = m then none else deals k

theorem PactsAt.ended {w w1 w2 : World} {ow ow' : Nat → Int} {P MB b LB EB N : Nat} {g : Nat → Int} {L L' : List Int} {deals : Int → Option PactR} {events : Int → List Int} (h : PactsAt w ow P MB b LB EB N g L deals events) {m : Int} {fl : Int → Option Value} (hdl : ∀ m, DealSays w ow N m (fl m) (deals m))
    (ht : TabAt w1 .u64 33 LB N (delT fl m)) (hg1 : GrowBut w w1 [LB]) (hM : MarksAt w2 MB b N g L') (hg2 : GrowBut w1 w2 [b]) (ho : ∀ x, x < w.heap.size → ow' x = ow x) :
    PactsAt w2 ow' P MB b LB EB N g L' (noDeal deals m) events ∧ ∃ l, GrowBut w w2 l ∧ ∀ x ∈ l, ow x = -1 := by
  obtain ⟨o1, o2, o3, o4, o5⟩ := h.own
  obtain ⟨n1, n2, n3, n4, n5, n6, n7, n8, n9⟩ := h.ne
  obtain ⟨fl0, htl, _⟩ := h.tl
  obtain ⟨fe, hte, hev⟩ := h.te
  have hP := cell_lt h.p0
  have hMl := h.marks.lt
  have hb := h.marks.blt
  have hL := htl.blt
  have hE := hte.blt
  have hg : GrowBut w w2 [LB, b] := (hg1.mono (by simp)).trans (hg2.mono (by simp))
  have hout : ∀ x ∈ [LB, b], ow x = -1 := fun x hx => by simp at hx; rcases hx with rfl | rfl <;> assumption
  refine ⟨⟨hg.cell h.p0 (by simp [n2, n3]), hg.cell h.p1 (by simp [n2, n3]), hg.cell h.p2 (by simp [n2, n3]), hM, ?_, h.ne, ⟨_, ht.kept hg2 (by simpa using Ne.symm n7), fun k => ?_⟩, ⟨fe, hte.kept hg (by simp; exact ⟨Ne.symm n9, Ne.symm n8⟩), fun k hk => (hev k hk).step hg (fun x hx hs => by have := hout x hx; omega) ho⟩, fun k hk => ?_⟩, _, hg, hout⟩
  · rw [ho P hP, ho MB hMl, ho b hb, ho LB hL, ho EB hE]; exact ⟨o1, o2, o3, o4, o5⟩
  · by_cases e : k = m
    · subst e
      simp [noDeal, delT, DealSays]
    · have h1 : delT fl m k = fl k := by simp [delT, e]
      have h2 : noDeal deals m k = deals k := by simp [noDeal, e]
      rw [h1, h2]
      have hk := hdl k
      cases hd : deals k with
      | none => rw [hd] at hk; exact hk
      | some r =>
        rw [hd] at hk
        have hk0 := h.pos k (.inl (by rw [hd]; exact fun e => by cases e))
        exact DealSays.step (x := some r) hk hg (fun x hx hs => by have := hout x hx; omega) ho (Nat.le_refl N)
  · rcases hk with hk | hk
    · by_cases e : k = m
      · subst e; simp [noDeal] at hk
      · exact h.pos k (.inl (by simpa [noDeal, e] using hk))
    · exact h.pos k (.inr hk)

set_option maxRecDepth 100000 in
set_option maxHeartbeats 2000000 in
theorem ends_calls {w : World} {ow : Nat → Int} {P MB b LB EB N : Nat} {g : Nat → Int} {L : List Int} {deals : Int → Option PactR} {events : Int → List Int} (h : PactsAt w ow P MB b LB EB N g L deals events) (m ev : Int) (hm : (Lit.int .u64 m).wf = true) (hm0 : 0 < m) (hN : N ≤ 100000) (hl : (events m).length ≤ 10000) :
    Calls Try.prog 80 #[.pointer (some ⟨P, 0, none⟩), .int .u64 m, .int .i64 ev] w fun e w' => e = .returned (.tuple #[]) ∧ ∃ ow', (∀ x, x < w.heap.size → ow' x = ow x) ∧ PactsAt w' ow' P MB b LB EB (N + 1) g (L.erase m) (noDeal deals m) (noteE events m ev) ∧ ∃ l, GrowBut w w' l ∧ ∀ x ∈ l, x < w.heap.size → ow x = -1 ∨ ow x = -m - 10 := by
  have hp0 := h.p0
  have hp1 := h.p1
  obtain ⟨o1, o2, o3, o4, o5⟩ := h.own
  obtain ⟨n1, n2, n3, n4, n5, n6, n7, n8, n9⟩ := h.ne
  obtain ⟨fl, htl, hdl⟩ := h.tl
  go_enter Try.func80, Try.ntmps80
  go_wp2_with (first
    | (at_delete; (refine wpList_delT rfl _ _ 113 33 rfl htl lawU Try.underlying33 Try.underlying113 rfl m rfl hm ?_; intro w1 ht1 hg1; have hp01 := hg1.cell hp0 (by simpa using n3); have hD := dropM_calls MB b N g L m w1 (h.marks.kept hg1 (by simpa using n5) (by simpa using n7)) hm))
    | (go_at_call 98; (refine hD.mono ?_; clear hD; rintro e w2 ⟨rfl, hM2, hg2⟩; obtain ⟨hP2, l2, hG2, hl2⟩ := h.ended (ow' := owN ow w (-m - 10)) hdl ht1 hg1 hM2 hg2 owN_old; have hNt := note_calls hP2 m ev hm hm0 hN hl))
    | (go_at_call 72; (refine hNt.mono ?_; clear hNt; rintro e w3 ⟨rfl, hP3, l3, hG3, hl3⟩))
    | fail)
  first | go_ret2 | go_end0
  have hsz := hG2.size
  refine ⟨rfl, _, fun x hx => ?_, hP3, l2 ++ l3, (hG2.mono (fun x hx => List.mem_append.2 (.inl hx))).trans (hG3.mono (fun x hx => List.mem_append.2 (.inr hx))), fun x hx hs => ?_⟩
  · rw [owN_old x (by omega), owN_old x hx]
  · rcases List.mem_append.1 hx with hx | hx
    · exact .inl (hl2 x hx)
    · rcases hl3 x hx with h1 | h1
      · rw [owN_old x hs] at h1; exact .inr h1
      · rw [h1]; exact .inl o5

end Go.Proofs.Ytcoedmiichppdaa


/-
  Package pact: Drop, Begin.
-/
namespace Go.Proofs.Ytcoedmiichppdaa
open Go Go.RowKit Go.Maps Go.Am
set_option linter.unusedVariables false
set_option linter.unusedSimpArgs false

set_option maxRecDepth 100000 in
set_option maxHeartbeats 2000000 in
theorem drop_some {w : World} {ow : Nat → Int} {P MB b LB EB N : Nat} {g : Nat → Int} {L : List Int} {deals : Int → Option PactR} {events : Int → List Int} (h : PactsAt w ow P MB b LB EB N g L deals events) (m : Int) (hm : (Lit.int .u64 m).wf = true) (r : PactR) (hd : deals m = some r) (ho : r.offered = false) (hN : N ≤ 100000) (hl : (events m).length ≤ 10000) :
    Calls Try.prog 40 #[.pointer (some ⟨P, 0, none⟩), .int .u64 m] w fun e w' => e = .returned (.bool true) ∧ ∃ ow', (∀ x, x < w.heap.size → ow' x = ow x) ∧ PactsAt w' ow' P MB b LB EB (N + 1) g (L.erase m) (noDeal deals m) (noteE events m 7) ∧ ∃ l, GrowBut w w' l ∧ ∀ x ∈ l, x < w.heap.size → ow x = -1 ∨ ow x = -m - 10 := by
  have hm0 := h.pos m (.inl (by rw [hd]; exact fun e => by cases e))
  obtain ⟨X, _, _, hO⟩ := of_some h m hm false r hd ho
  have hE := ends_calls h m 7 hm hm0 hN hl
  clear hd ho h
  go_enter Try.func40, Try.ntmps40
  go_wp2_with (first
    | (go_at_call 73; (refine hO.mono ?_; clear hO; rintro e w1 ⟨rfl, rfl⟩))
    | (go_at_call 80; (refine hE.mono ?_; clear hE; rintro e w1 ⟨rfl, hE1⟩))
    | fail)
  go_ret
  exact ⟨rfl, hE1⟩

set_option maxRecDepth 100000 in
set_option maxHeartbeats 2000000 in
theorem drop_no {w : World} {ow : Nat → Int} {P MB b LB EB N : Nat} {g : Nat → Int} {L : List Int} {deals : Int → Option PactR} {events : Int → List Int} (h : PactsAt w ow P MB b LB EB N g L deals events) (m : Int) (hm : (Lit.int .u64 m).wf = true) (hd : ∀ r, deals m = some r → r.offered ≠ false) :
    Calls Try.prog 40 #[.pointer (some ⟨P, 0, none⟩), .int .u64 m] w fun e w' => e = .returned (.bool false) ∧ w' = w := by
  have hO := of_no h m hm false hd
  clear hd h
  go_enter Try.func40, Try.ntmps40
  go_wp2_with (first
    | (go_at_call 73; (refine hO.mono ?_; clear hO; rintro e w1 ⟨rfl, rfl⟩))
    | fail)
  go_ret
  exact ⟨rfl, rfl⟩

/-- A deal begun. -/
def newR (sender kind all : Int) : PactR := ⟨sender, kind, [], all, false, ⟨0, 0, false, [], []⟩, [], []⟩

/-- A deal set. -/
def setD (deals : Int → Option PactR) (m : Int) (r : PactR) : Int → Option PactR := fun k => if k = m then some r else deals k

theorem PactsAt.begun {w w2 w3 w4 : World} {ow ow' : Nat → Int} {P MB b LB EB N X : Nat} {g g' : Nat → Int} {L L' : List Int} {deals : Int → Option PactR} {events : Int → List Int} (h : PactsAt w ow P MB b LB EB N g L deals events) {m : Int} (hm0 : 0 < m) {r : PactR} {fl : Int → Option Value} (hdl : ∀ m, DealSays w ow N m (fl m) (deals m))
    (hg2 : GrowBut w w2 [MB, b]) (hM2 : MarksAt w2 MB b (N + 1) g' L') (hg3 : GrowBut w2 w3 []) (hX : PactAt w3 ow' m X (N + 1) r) (ht : TabAt w4 .u64 33 LB (N + 1) (putT fl m (.pointer (some ⟨X, 0, none⟩)))) (hg4 : GrowBut w3 w4 [LB]) (ho : ∀ x, x < w.heap.size → ow' x = ow x) :
    PactsAt w4 ow' P MB b LB EB (N + 1) g' L' (setD deals m r) events ∧ ∃ l, GrowBut w w4 l ∧ ∀ x ∈ l, ow x = -1 := by
  obtain ⟨o1, o2, o3, o4, o5⟩ := h.own
  obtain ⟨n1, n2, n3, n4, n5, n6, n7, n8, n9⟩ := h.ne
  obtain ⟨fl0, htl, _⟩ := h.tl
  obtain ⟨fe, hte, hev⟩ := h.te
  have hP := cell_lt h.p0
  have hMl := h.marks.lt
  have hb := h.marks.blt
  have hL := htl.blt
  have hE := hte.blt
  have hg : GrowBut w w4 [MB, b, LB] := ((hg2.mono (by simp)).trans (hg3.mono (by simp))).trans (hg4.mono (by simp))
  have hout : ∀ x ∈ [MB, b, LB], ow x = -1 := fun x hx => by simp at hx; rcases hx with rfl | rfl | rfl <;> assumption
  have hn : P ∉ [MB, b, LB] := by simp [n1, n2, n3]
  refine ⟨⟨hg.cell h.p0 hn, hg.cell h.p1 hn, hg.cell h.p2 hn, (hM2.kept hg3 (by simp) (by simp)).kept hg4 (by simpa using n5) (by simpa using n7), ?_, h.ne, ⟨_, ht, fun k => ?_⟩, ⟨fe, (hte.kept hg (by simp; exact ⟨Ne.symm n6, Ne.symm n8, Ne.symm n9⟩)).mono (by omega), fun k hk => (hev k hk).step hg (fun x hx hs => by have := hout x hx; omega) ho⟩, fun k hk => ?_⟩, _, hg, hout⟩
  · rw [ho P hP, ho MB hMl, ho b hb, ho LB hL, ho EB hE]; exact ⟨o1, o2, o3, o4, o5⟩
  · by_cases e : k = m
    · subst e
      refine (?_ : DealSays w4 ow' (N + 1) k (putT fl k (.pointer (some ⟨X, 0, none⟩)) k) (setD deals k r k))
      have h1 : putT fl k (.pointer (some ⟨X, 0, none⟩)) k = some (.pointer (some ⟨X, 0, none⟩)) := by simp [putT]
      have h2 : setD deals k r k = some r := by simp [setD]
      rw [h1, h2]
      exact ⟨X, rfl, hX.step hg4 (fun x hx _ => by simp at hx; subst hx; rw [ho x hL, o4]; omega) (fun _ _ => rfl)⟩
    · have h1 : putT fl m (.pointer (some ⟨X, 0, none⟩)) k = fl k := by simp [putT, e]
      have h2 : setD deals m r k = deals k := by simp [setD, e]
      rw [h1, h2]
      have hk := hdl k
      cases hd : deals k with
      | none => rw [hd] at hk; exact hk
      | some r' =>
        rw [hd] at hk
        have hk0 := h.pos k (.inl (by rw [hd]; exact fun e => by cases e))
        exact DealSays.step (x := some r') hk hg (fun x hx hs => by have := hout x hx; omega) ho (Nat.le_succ N)
  · by_cases e : k = m
    · subst e; exact hm0
    · exact h.pos k (by simpa [setD, e] using hk)

theorem newR_at {w : World} {ow : Nat → Int} {m : Int} {Y N : Nat} {s kind all : Int} (hPc : PiecesAt w ow m Y [] all) (ho : ∀ x, w.heap.size ≤ x → ow x = m) :
    PactAt ((w.alloc (.map #[] 0)).alloc (.cells #[.int .i64 s, .int .i64 kind, .pointer (some ⟨Y, 0, none⟩), .bool false, .int .i64 0, .int .i64 0, .bool false, .slice none 0 0, .slice none 0 0, .slice none 0 0, .map (some w.heap.size)] 122)) ow m (w.heap.size + 1) N (newR s kind all) := by
  have hT : TabAt (w.alloc (.map #[] 0)) .i64 3 w.heap.size 0 (seenS []) := TabAt.made w .i64 3
  have hsz : (w.alloc (.map #[] 0)).heap.size = w.heap.size + 1 := by simp
  have hg1 := GrowBut.alloc w (.map #[] 0) []
  have hg2 := GrowBut.alloc (w.alloc (.map #[] 0)) (.cells #[.int .i64 s, .int .i64 kind, .pointer (some ⟨Y, 0, none⟩), .bool false, .int .i64 0, .int .i64 0, .bool false, .slice none 0 0, .slice none 0 0, .slice none 0 0, .map (some w.heap.size)] 122) []
  have hty := Typed.alloc (w.alloc (.map #[] 0)) #[.int .i64 s, .int .i64 kind, .pointer (some ⟨Y, 0, none⟩), .bool false, .int .i64 0, .int .i64 0, .bool false, .slice none 0 0, .slice none 0 0, .slice none 0 0, .map (some w.heap.size)] 122
  rw [hsz] at hty
  have hT2 := (hT.kept hg2 (by simp)).mono (Nat.zero_le N)
  have hPc2 := hPc.step (hg1.trans hg2) (fun x hx => by cases hx) (fun _ _ => rfl)
  have hnil : ∀ e size, RowOf ((w.alloc (.map #[] 0)).alloc (.cells #[.int .i64 s, .int .i64 kind, .pointer (some ⟨Y, 0, none⟩), .bool false, .int .i64 0, .int .i64 0, .bool false, .slice none 0 0, .slice none 0 0, .slice none 0 0, .map (some w.heap.size)] 122)) ow m e size (.slice none 0 0) 0 [] := fun e size => ⟨World.ownsRow_nil _ _ _ _, fun g hg => by cases hg⟩
  clear hg1 hg2 hT
  refine ⟨ho _ (by omega), hty, ?_, ?_, ⟨Y, ?_, hPc2⟩, ?_, ?_, ?_, ?_, ⟨_, ?_, hnil _ _⟩, ⟨_, ?_, hnil _ _⟩, ⟨_, ?_, hnil _ _⟩, ⟨w.heap.size, ?_, ho _ (Nat.le_refl _), hT2⟩, List.nodup_nil, fun i hi => ?_⟩
  all_goals clear hty hPc2 hT2 hnil ho hPc
  all_goals try go_simp
  all_goals try rfl

set_option maxRecDepth 100000 in
set_option maxHeartbeats 2000000 in
theorem begin_full {w : World} {ow : Nat → Int} {P MB b LB EB N : Nat} {g : Nat → Int} {L : List Int} {deals : Int → Option PactR} {events : Int → List Int} (h : PactsAt w ow P MB b LB EB N g L deals events) (s kind all : Nat) (hs : s < 6) (hk1 : 1 ≤ kind) (hk3 : kind ≤ 3) (ha1 : 1 ≤ all) (ha : all ≤ 400) (hN : N ≤ 900) (hf : (ofWho L s).length = 4) :
    Calls Try.prog 34 #[.pointer (some ⟨P, 0, none⟩), .int .i64 s, .int .i64 kind, .int .i64 all] w fun e w' => e = .returned (.tuple #[.int .u64 0, .int .i64 (-3)]) ∧ GrowBut w w' [] := by
  have hp0 := h.p0
  have hNp := newPc_calls all w ha1 ha
  go_enter Try.func34, Try.ntmps34
  go_wp2_with (first
    | (go_at_call 70; (refine hNp.mono ?_; clear hNp; rintro e w1 ⟨rfl, hw1⟩; have hg1 : GrowBut w w1 [] := hw1 ▸ GrowBut.alloc _ _ _; clear hw1; have hp01 := hg1.cell hp0 (by simp); have hGv := giveM_full MB b N g L s w1 (h.marks.kept hg1 (by simp) (by simp)) hs (by omega) hf))
    | (go_at_call 71; (refine hGv.mono ?_; clear hGv; rintro e w2 ⟨rfl, hg2⟩))
    | fail)
  go_ret2
  exact ⟨rfl, hg1.trans hg2⟩

set_option maxRecDepth 100000 in
set_option maxHeartbeats 4000000 in
theorem begin_more {w : World} {ow : Nat → Int} {P MB b LB EB N : Nat} {g : Nat → Int} {L : List Int} {deals : Int → Option PactR} {events : Int → List Int} (h : PactsAt w ow P MB b LB EB N g L deals events) (s kind all : Nat) (hs : s < 6) (hk1 : 1 ≤ kind) (hk3 : kind ≤ 3) (ha1 : 1 ≤ all) (ha : all ≤ 400) (hN : N ≤ 900) (hf : (ofWho L s).length ≠ 4) (m : Int) (hm : ((s : Int) + 1) * 4294967296 + (g s + 1) = m) (hl : (events m).length ≤ 10000) :
    Calls Try.prog 34 #[.pointer (some ⟨P, 0, none⟩), .int .i64 s, .int .i64 kind, .int .i64 all] w fun e w' => e = .returned (.tuple #[.int .u64 m, .int .i64 0]) ∧
      ∃ ow', (∀ x, x < w.heap.size → ow' x = ow x) ∧ PactsAt w' ow' P MB b LB EB (N + 2) (upG g s) (m :: L) (setD deals m (newR s kind all)) (noteE events m 1) ∧ ∃ l, GrowBut w w' l ∧ ∀ x ∈ l, x < w.heap.size → ow x = -1 ∨ ow x = -m - 10 := by
  have hp0 := h.p0
  have hp1 := h.p1
  have hgb := h.marks.gb s
  have hm0 : 0 < m := by omega
  have hwf : (Lit.int .u64 m).wf = true := by
    simp only [Lit.wf, Bool.and_eq_true, decide_eq_true_eq]
    have hmn : IntKind.u64.min = 0 := by decide
    have hM : IntKind.u64.max = 18446744073709551615 := by decide
    rw [hmn, hM]
    omega
  obtain ⟨o1, o2, o3, o4, o5⟩ := h.own
  obtain ⟨n1, n2, n3, n4, n5, n6, n7, n8, n9⟩ := h.ne
  obtain ⟨fl, htl, hdl⟩ := h.tl
  have hMl := h.marks.lt
  have hbl := h.marks.blt
  have hnm : ∀ w1 : World, ∀ x ∈ [MB, b], x < w1.heap.size → owN ow w m x ≠ m := fun w1 x hx _ => by
    simp at hx
    rcases hx with rfl | rfl
    · rw [owN_old _ hMl, o2]; omega
    · rw [owN_old _ hbl, o3]; omega
  have hNp := newPc_calls all w ha1 ha
  have hmm := @run_makeMap Try.prog
  go_enter Try.func34, Try.ntmps34
  go_wp2_with (first
    | (go_at_call 70; (refine hNp.mono ?_; clear hNp; rintro e w1 ⟨rfl, hw1⟩; have hPc := hw1 ▸ newPc_at all w ow m; have hg1 : GrowBut w w1 [] := hw1 ▸ GrowBut.alloc _ _ _; clear hw1; have hp01 := hg1.cell hp0 (by simp); have hGv := giveM_more MB b N g L s w1 (h.marks.kept hg1 (by simp) (by simp)) hs (by omega) hf; rw [hm] at hGv))
    | (go_at_call 71; (refine hGv.mono ?_; clear hGv; rintro e w2 ⟨rfl, hM2, hg2⟩; have hG2 := (hg1.mono (fun x hx => nomatch hx)).trans hg2; have hp12 := hG2.cell hp1 (by simp [n1, n2]); have ht2 := htl.kept hG2 (by simp; exact ⟨Ne.symm n5, Ne.symm n7⟩)))
    | (at_mapUpdate; (refine wpList_putT rfl _ _ _ 113 rfl ((ht2.kept (GrowBut.alloc _ _ []) (by simp)).kept (GrowBut.alloc _ _ []) (by simp)) lawU Try.underlying33 Try.underlying113 (by omega) rfl m _ rfl rfl hwf ?_; intro w4 ht4 hg4; obtain ⟨hP4, l4, hG4, hl4⟩ := h.begun hm0 hdl hG2 hM2 ((GrowBut.alloc w2 _ []).trans (GrowBut.alloc _ _ [])) (newR_at (s := s) (kind := kind) (N := N + 1) (hPc.step hg2 (hnm w1) (fun _ _ => rfl)) (fun x hx => owN_new (by have := hG2.size; omega))) (ht4.mono (Nat.le_refl _)) hg4 owN_old; have hNt := note_calls hP4 m 1 hwf hm0 (by omega) hl; clear hmm))
    | (go_at_call 72; (refine hNt.mono ?_; clear hNt; rintro e w5 ⟨rfl, hP5, l5, hG5, hl5⟩))
    | fail)
  go_ret2
  have hsz := hG4.size
  refine ⟨rfl, _, fun x hx => ?_, hP5, l4 ++ l5, (hG4.mono (fun x hx => List.mem_append.2 (.inl hx))).trans (hG5.mono (fun x hx => List.mem_append.2 (.inr hx))), fun x hx hs => ?_⟩
  · rw [owN_old x (by omega), owN_old x hx]
  · rcases List.mem_append.1 hx with hx | hx
    · exact .inl (hl4 x hx)
    · rcases hl5 x hx with h1 | h1
      · rw [owN_old x hs] at h1; exact .inr h1
      · rw [h1]; exact .inl o5

end Go.Proofs.Ytcoedmiichppdaa
