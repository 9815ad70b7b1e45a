/-
  Ranging over a map of integers, told as a function of its key; how many keys it has.
-/
import Derived.Test.YtdhnfhhmacjajaaJ5
import Derived.Maps.RangeWalk
import Derived.Lib.SlKeysI

namespace Go.Proofs.Ytdhnfhhmacjajaa
open Go Go.RowKit Go.Maps Go.Am
set_option linter.unusedVariables false
set_option linter.unusedSimpArgs false

/-- Block b is a map that says f, block r a way through it: what is left of it, so many. -/
structure RangeT (w : World) (q : IntKind) (kt : TypeId) (b r n : Nat) (f : Int → Option Value) (left : Int → Bool) (cnt : Nat) : Prop where
  own : ∃ D lf, w.ranges Try.prog kt selfE b r n D lf cnt ∧ Tab q D f ∧ ∀ x, lf (.int q x) = left x

theorem RangeT.tab {w : World} {q : IntKind} {kt : TypeId} {b r n : Nat} {f : Int → Option Value} {left : Int → Bool} {cnt : Nat} (h : RangeT w q kt b r n f left cnt) : TabAt w q kt b n f := by
  obtain ⟨D, lf, h1, h2, h3⟩ := h.own
  exact ⟨D, h1.owns, h2⟩

theorem RangeT.ne {w : World} {q : IntKind} {kt : TypeId} {b r n : Nat} {f : Int → Option Value} {left : Int → Bool} {cnt : Nat} (h : RangeT w q kt b r n f left cnt) : r ≠ b := by
  obtain ⟨D, lf, h1, h2, h3⟩ := h.own
  exact h1.ne

theorem RangeT.lt {w : World} {q : IntKind} {kt : TypeId} {b r n : Nat} {f : Int → Option Value} {left : Int → Bool} {cnt : Nat} (h : RangeT w q kt b r n f left cnt) : r < w.heap.size := by
  obtain ⟨D, lf, h1, h2, h3⟩ := h.own
  exact h1.lt

theorem RangeT.left_eq {w : World} {q : IntKind} {kt : TypeId} {b r n : Nat} {f : Int → Option Value} {left : Int → Bool} {cnt : Nat} (h : RangeT w q kt b r n f left cnt) : w.rangeLeft b r = cnt := by
  obtain ⟨D, lf, h1, h2, h3⟩ := h.own
  exact h1.left_eq

theorem sameKeyI (q : IntKind) (z x : Int) : (Lit.int q z).sameKey (.int q x) = (z == x) := by
  unfold Lit.sameKey
  by_cases e : z = x <;> simp [e]

theorem ranges_keep {H : Type} {P : Program} {k : TypeId} {R : Value → Option (DataW H × List MemPlace)} {b r n : Nat} {D : DataW H} {left : Lit → Bool} {cnt : Nat} {w w' : World} {l : List Nat} (h : w.ranges P k R b r n D left cnt) (hg : GrowBut w w' l) (hb : b ∉ l) (hr : r ∉ l) : w'.ranges P k R b r n D left cnt := by
  have hbl := h.owns.lt
  have hrl := h.lt
  unfold World.ranges at h ⊢
  rw [hg.block b hbl hb, hg.block r hrl hr]
  exact h

theorem RangeT.kept {w w' : World} {q : IntKind} {kt : TypeId} {b r n : Nat} {f : Int → Option Value} {left : Int → Bool} {cnt : Nat} {l : List Nat} (h : RangeT w q kt b r n f left cnt) (hg : GrowBut w w' l) (hb : b ∉ l) (hr : r ∉ l) : RangeT w' q kt b r n f left cnt := by
  obtain ⟨D, lf, h1, h2, h3⟩ := h.own
  exact ⟨D, lf, ranges_keep h1 hg hb hr, h2, h3⟩

section
variable {w : World} {ops : Array Oper} {rest : List Oper} {o : Oper} {a : Act} {Q : Exit → Act → World → Prop}

theorem wpList_rangeT (hg : o.guard = none) (m : Operand) (t : TypeId) (hop : o.op = Op.range t m) {q : IntKind} {kt e : TypeId} {b n : Nat} {f : Int → Option Value}
    (h : TabAt w q kt b n f) (K : Keyed Try.prog kt) (ht : Try.prog.underlying t = some (.map kt e)) (hm : a.eval m = .map (some b))
    (hK : ∀ w' cnt, RangeT w' q kt b w.heap.size n f (fun x => (f x).isSome) cnt → cnt ≤ n → GrowBut w w' [] → w'.heap.size = w.heap.size + 1 → wpList Try.prog ops Q rest (a.put o.dst (.pointer (some ⟨w.heap.size, 0, none⟩))) w') :
    wpList Try.prog ops Q (o :: rest) a w := by
  obtain ⟨D, hown, hD⟩ := h.own
  exact wpList_range_own w hg m t hop kt e K ht selfE b n D hm hown (fun w' h1 h2 h3 => hK w' _ ⟨_, _, h1, hD, hD.has⟩ hown.size_le (.of_none h2) h3)

theorem wpList_nextT (hg : o.guard = none) (it : Operand) (hop : o.op = Op.next it false) {q : IntKind} {kt : TypeId} {b r n : Nat} {f : Int → Option Value} {left : Int → Bool} {cnt : Nat}
    (K : Keyed Try.prog kt) (hk : Try.prog.underlying kt = some (.int q)) (hit : a.eval it = .pointer (some ⟨r, 0, none⟩)) (h : RangeT w q kt b r n f left cnt)
    (hDone : (∀ x, left x = false) → wpList Try.prog ops Q rest (a.put o.dst (.tuple #[.bool false])) w)
    (hMore : ∀ (x : Int) (c : Value) (w' : World) (cnt' : Nat), (Lit.int q x).wf = true → left x = true → f x = some c → RangeT w' q kt b r n f (fun z => left z && !(z == x)) cnt' → cnt' < cnt →
      GrowBut w w' [r] → w'.heap.size = w.heap.size → (Instr.entry (.pointer (some ⟨r, 0, none⟩))).run Try.prog w' = .ok (.tuple #[.int q x, c]) w' → wpList Try.prog ops Q rest (a.put o.dst (.tuple #[.bool true, .int q x, c])) w') :
    wpList Try.prog ops Q (o :: rest) a w := by
  obtain ⟨D, lf, hrg, hD, hlf⟩ := h.own
  refine wpList_next_ranges w hg it hop kt K selfE (Value.int q) (fun v : Value => v) (fun key kl hkey => by obtain ⟨x, rfl, _⟩ := Maps.keyOf_int_inv hk hkey; exact ⟨x, rfl⟩) (fun v y hv => ⟨v, rfl⟩)
    b r n D lf cnt hit hrg (fun _ hl => hDone (fun x => by rw [← hlf]; exact hl _)) (fun x c kl y w' cnt' hkey hlk hv hat hrg2 hlt hgr hsz hen => ?_)
  obtain ⟨x', ex, rfl, hwx⟩ := Maps.keyOf_int_inv hk hkey
  cases ex
  simp only [selfE, Option.some.injEq] at hv
  subst hv
  have hlx : left x = true := by rw [← hlf]; exact hlk
  have hfx : f x = some c := by
    have h1 : D.atKey (.int q x) (.held c) = .held c := hat (.held c)
    have h2 := hat (.held (.int q 0))
    have h3 := hat .nil
    cases hf : f x with
    | none =>
      exfalso
      have := atKey_of_not_has (D := D) (k := .int q x) (by rw [hD.has, hf]; rfl) .nil
      rw [this] at h3
      cases h3
    | some v =>
      have := hD.at_ x v hf .nil
      rw [this] at h3
      cases h3
      rfl
  exact hMore x c w' cnt' hwx hlx hfx ⟨D, _, hrg2, hD, fun z => by simp only [hlf, sameKeyI]⟩ hlt (.of_some hgr) hsz hen

theorem wpList_deleteT (hg : o.guard = none) (m x : Operand) (t kt : TypeId) (hop : o.op = Op.call { callee := Callee.builtin Builtin.delete, args := #[m, x], argTypes := #[t, kt] }) {q : IntKind} {e : TypeId} {b r n : Nat} {f : Int → Option Value} {left : Int → Bool} {cnt : Nat}
    (h : RangeT w q kt b r n f left cnt) (K : Keyed Try.prog kt) (hk : Try.prog.underlying kt = some (.int q)) (ht : Try.prog.underlying t = some (.map kt e))
    (hm : a.eval m = .map (some b)) (k : Int) (hx : a.eval x = .int q k) (hwf : (Lit.int q k).wf = true)
    (hK : ∀ w' cnt', RangeT w' q kt b r n (delT f k) (fun z => left z && !(z == k)) cnt' → cnt' ≤ cnt → GrowBut w w' [b] → wpList Try.prog ops Q rest (a.put o.dst (.tuple #[])) w') :
    wpList Try.prog ops Q (o :: rest) a w := by
  obtain ⟨D, lf, hrg, hD, hlf⟩ := h.own
  exact wpList_delete_ranges w hg m x t kt hop e K ht selfE b r n D lf cnt hm hrg _ _ hx (keyOf_int_mk hk hwf) (fun w' cnt' h1 h2 h3 => hK w' cnt' ⟨_, _, h1, hD.del k, fun z => by simp only [hlf, sameKeyI]⟩ h2 (.of_some h3.grown))
end

/-- How many keys. -/
theorem TabAt.len {w : World} {b n : Nat} {f : Int → Option Value} {t e : TypeId} (h : TabAt w .i64 3 b n f) (ht : Try.prog.underlying t = some (.map 3 e)) {L : List Int} (hL : L.Nodup) (hm : ∀ x, x ∈ L ↔ (f x).isSome = true) (it : TypeId) :
    (Builtin.len_ #[t] 3 #[.map (some b)]).run Try.prog w = .ok (.int .i64 L.length) w := by
  obtain ⟨D, hown, hD⟩ := h.own
  have hlen := hown.len ht 3
  obtain ⟨es, rfl, hpw, _⟩ := hown.entries (int_keyed Try.underlying3)
  obtain ⟨es', hD', hko⟩ := hown.keysOf
  obtain rfl : es = es' := by simpa using hD'
  have hp : L.Perm (intKeys (.map es)) := perm_intKeys hpw (fun p hp => by obtain ⟨v, hv⟩ := hko p hp; obtain ⟨x, _, hx, _⟩ := Maps.keyOf_i64 Try.underlying3 hv; exact ⟨x, hx⟩) hL (fun x => by
    rw [hm, hD.has])
  have e1 : Maps.size (DataW.map es) = L.length := by
    rw [hp.length_eq]; simp [Maps.size_eq, intKeys]
  rw [e1] at hlen
  exact hlen

end Go.Proofs.Ytdhnfhhmacjajaa


/-
  graft: twin, less, more.
-/
namespace Go.Proofs.Ytdhnfhhmacjajaa
open Go Go.RowKit Go.Maps Go.Am Go.Shelf
set_option linter.unusedVariables false
set_option linter.unusedSimpArgs false

abbrev TbF := Int → Option Int

def tabI (T : TbF) : Int → Option Value := fun k => (T k).map (Value.int .i64)

def putI (T : TbF) (k v : Int) : TbF := fun x => if x = k then some v else T x

def delI (T : TbF) (k : Int) : TbF := fun x => if x = k then none else T x

theorem tabI_put (T : TbF) (k v : Int) : putT (tabI T) k (.int .i64 v) = tabI (putI T k v) := by
  funext x; unfold putT tabI putI; by_cases e : x = k <;> simp [e]

theorem tabI_del (T : TbF) (k : Int) : delT (tabI T) k = tabI (delI T k) := by
  funext x; unfold delT tabI delI; by_cases e : x = k <;> simp [e]

theorem tabI_val (T : TbF) (k : Int) : ((tabI T k).getD (.int .i64 0)) = .int .i64 ((T k).getD 0) ∧ (tabI T k).isSome = (T k).isSome := by
  unfold tabI; cases T k <;> simp

theorem zeroI3 (w : World) : (zeroValue 3).run Try.prog w = .ok (.int .i64 0) w := by kernel_rfl

/-- What has been copied so far: all but what is left. -/
def lessL (F : LfF) (left : Int → Bool) : LfF := fun k => if left k then none else F k

theorem lessL_none (F : LfF) : lessL F (fun x => (tabL F x).isSome) = fun _ => none := by
  funext k; unfold lessL tabL; cases h : F k <;> simp [h]

theorem lessL_all (F : LfF) {left : Int → Bool} (h : ∀ x, left x = false) : lessL F left = F := by
  funext k; unfold lessL; simp [h]

theorem lessL_step (F : LfF) {left : Int → Bool} {x : Int} {l : Int × Int} (hx : F x = some l) : putL (lessL F left) x l = lessL F (fun z => left z && !(z == x)) := by
  funext k; unfold putL lessL
  by_cases e : k = x
  · subst e; simp [hx]
  · have : (k == x) = false := by simpa using e
    simp [e, this]

set_option maxRecDepth 100000 in
set_option maxHeartbeats 4000000 in
theorem twin_calls (b n : Nat) (F : LfF) (w : World) (h : TabAt w .i64 3 b n (tabL F)) (hn : n ≤ 100000) :
    Calls Try.prog 31 #[.map (some b)] w fun e w' => ∃ b', e = .returned (.map (some b')) ∧ w.heap.size ≤ b' ∧ TabAt w' .i64 3 b' n (tabL F) ∧ GrowBut w w' [] := by
  have hbl := h.blt
  have hmm := @run_makeMap Try.prog
  have hG0 := GrowBut.alloc w (.map #[] 0) []
  have hN := TabAt.made w .i64 3
  have h1 := h.kept hG0 (by simp)
  go_enter Try.func31, Try.ntmps31
  go_wp2_with (first
    | (at_range; refine wpList_rangeT rfl _ 66 rfl h1 keyI3 Try.underlying66 rfl ?_; intro w0 cnt0 hrg0 hcn hg0 hs0)
    | fail)
  go_frame
  clear hmm
  have hN0 := hN.kept hg0 (by simp)
  have e0 : (fun _ => none) = tabL (lessL F (fun x => (tabL F x).isSome)) := by rw [lessL_none]; rfl
  rw [e0] at hN0
  have hGw := hG0.trans hg0
  clear hN h1 hG0 hg0 e0
  simp only [World.size_alloc] at hrg0 hs0 ⊢
  go_loopw [9] (fun v9 wr => ∃ left cnt j, RangeT wr .i64 3 b (w.heap.size + 1) n (tabL F) left cnt ∧ j + cnt ≤ n ∧ TabAt wr .i64 3 w.heap.size j (tabL (lessL F left)) ∧ w.heap.size + 2 ≤ wr.heap.size ∧ GrowBut w wr []) (fun _ wr => wr.rangeLeft b (w.heap.size + 1))
  case atStart => exact ⟨_, cnt0, 0, hrg0, by omega, hN0, by omega, hGw⟩
  case round =>
    obtain ⟨left, cnt, j, hrg, hjc, hT, hsz, hG⟩ := hrel
    go_wp2_with (first
      | (at_next; refine wpList_nextT rfl _ rfl keyI3 Try.underlying3 rfl hrg ?_ ?_)
      | fail)
    · intro hl
      rw [lessL_all F hl] at hT
      go_wp2_with fail
      go_ret
      exact ⟨_, rfl, Nat.le_refl _, hT.mono (by omega), hG⟩
    · intro x c w2 cnt2 hwx hlx hfx hrg2 hlt hg2 hs2 hen
      obtain ⟨l, hl, rfl⟩ : ∃ l, F x = some l ∧ leafV l = c := by
        unfold tabL at hfx
        exact Option.map_eq_some_iff.1 hfx
      have hstep := lessL_step F (left := left) hl
      obtain ⟨l1, l2⟩ := l
      have hT2 := hT.kept hg2 (by simp)
      have hG2 := hG.from hg2 (l := []) (fun x hx => .inr (by simp at hx; omega))
      have hput := tabL_put (lessL F left) x (l1, l2)
      unfold leafV at hen hput ⊢
      simp only at hen hput ⊢
      have hGa := GrowBut.alloc w2 (.cells #[.int .i64 l1, .int .i64 l2] 39) []
      rw [hstep] at hput
      clear hfx hl hstep hT
      go_wp2_with (first
        | (at_mapUpdate; refine wpList_putT rfl _ _ _ 66 rfl (hT2.kept hGa (by simp)) keyI3 Try.underlying3 Try.underlying66 (by omega) rfl x (.agg #[.int .i64 l1, .int .i64 l2]) rfl rfl hwx ?_; intro w3 hT3 hg3)
        | fail)
      rw [hput] at hT3
      have hs3 := hg3.size
      simp only [World.size_alloc] at hs3
      have hrg3 := (hrg2.kept hGa (by simp) (by simp)).kept hg3 (by simp; omega) (by simp)
      go_frame
      go_roundw
      case rel => exact ⟨_, cnt2, j + 1, hrg3, by omega, hT3, by omega, (hG2.trans hGa).from hg3 (fun x hx => .inr (by simp at hx; omega))⟩
      case measure => rw [hrg3.left_eq, hrg.left_eq]; exact hlt

/-- What a tree's tables lie in: frames and the stock of them. -/
structure Store (w : World) (t M L S Tk : Nat) (nf : Nat) (sec : Int) (mem : Nat → Int) (fro : Int) (n : Nat) (tk : Nat → Bool) : Prop where
  c0 : w.cell? ⟨t, 0, none⟩ = some (.pointer (some ⟨M, 0, none⟩))
  c1 : w.cell? ⟨t, 1, none⟩ = some (.pointer (some ⟨S, 0, none⟩))
  ram : RamAt w M L nf sec mem
  stock : StockAt w S Tk fro n tk
  fit : fro + n ≤ nf
  neL : L ≠ t ∧ L ≠ S ∧ L ≠ Tk
  neT : Tk ≠ t ∧ Tk ≠ M

theorem Store.kept {w w' : World} {t M L S Tk nf n : Nat} {sec fro : Int} {mem : Nat → Int} {tk : Nat → Bool} {l : List Nat} (h : Store w t M L S Tk nf sec mem fro n tk) (hg : GrowBut w w' l) (h1 : t ∉ l) (h2 : M ∉ l) (h3 : L ∉ l) (h4 : S ∉ l) (h5 : Tk ∉ l) : Store w' t M L S Tk nf sec mem fro n tk :=
  ⟨hg.cell h.c0 h1, hg.cell h.c1 h1, h.ram.kept hg h2 h3, h.stock.kept hg h4 h5, h.fit, h.neL, h.neT⟩

theorem Store.ram' {w w' : World} {t M L S Tk nf n : Nat} {sec fro : Int} {mem mem' : Nat → Int} {tk : Nat → Bool} (h : Store w t M L S Tk nf sec mem fro n tk) (hg : GrowBut w w' [L]) (hr : RamAt w' M L nf sec mem') : Store w' t M L S Tk nf sec mem' fro n tk :=
  ⟨hg.cell h.c0 (by simpa using h.neL.1.symm), hg.cell h.c1 (by simpa using h.neL.1.symm), hr, h.stock.kept hg (by simpa using h.neL.2.1.symm) (by simpa using h.neL.2.2.symm), h.fit, h.neL, h.neT⟩

theorem Store.stock' {w w' : World} {t M L S Tk nf n : Nat} {sec fro : Int} {mem : Nat → Int} {tk tk' : Nat → Bool} (h : Store w t M L S Tk nf sec mem fro n tk) (hg : GrowBut w w' [Tk]) (hr : StockAt w' S Tk fro n tk') : Store w' t M L S Tk nf sec mem fro n tk' :=
  ⟨hg.cell h.c0 (by simpa using h.neT.1.symm), hg.cell h.c1 (by simpa using h.neT.1.symm), h.ram.kept hg (by simpa using h.neT.2.symm) (by simpa using h.neL.2.2), hr, h.fit, h.neL, h.neT⟩

theorem cell_ltG {w : World} {a : Addr} {v : Value} (h : w.cell? a = some v) : a.block < w.heap.size := by
  by_cases h2 : a.block < w.heap.size
  · exact h2
  · exfalso
    have h3 : w.heap[a.block]? = none := Array.getElem?_eq_none (by omega)
    simp [World.cell?, h3] at h

/-- No table's number is wanted less. -/
theorem lessNone (t M L S Tk : Nat) (nf : Nat) (sec : Int) (mem : Nat → Int) (fro : Int) (n : Nat) (tk : Nat → Bool) (bt nt : Nat) (T : TbF) (base : Nat) (v : Value) (W : List Int) (w : World)
    (hT : TabAt w .i64 3 bt nt (tabI T)) (hrow : w.ownsRow base 3 1 v W.length (W.map (Value.int .i64))) (hW : W.length ≤ 256) (hall : ∀ k f, T k = some f → k ∈ W) :
    Calls Try.prog 44 #[.pointer (some ⟨t, 0, none⟩), .map (some bt), v] w fun e w' => e = .returned (.tuple #[]) ∧ GrowBut w w' [] := by
  have hbl := hT.blt
  have hvl : ∀ j, v.ownBlock = some j → j < w.heap.size := fun j hj => (hrow.lt j hj).2
  go_enter Try.func44, Try.ntmps44
  go_wp2_with (first
    | (at_range; refine wpList_rangeT rfl _ 67 rfl hT keyI3 Try.underlying67 rfl ?_; intro w0 cnt0 hrg0 hcn hg0 hs0)
    | fail)
  go_frame
  go_loopw [10] (fun v10 wr => ∃ left cnt, RangeT wr .i64 3 bt w.heap.size nt (tabI T) left cnt ∧ GrowBut w wr []) (fun _ wr => wr.rangeLeft bt w.heap.size)
  case atStart => exact ⟨_, cnt0, hrg0, hg0⟩
  case round =>
    obtain ⟨left, cnt, hrg, hG⟩ := hrel
    go_wp2_with (first
      | (at_next; refine wpList_nextT rfl _ rfl keyI3 Try.underlying3 rfl hrg ?_ ?_)
      | fail)
    · intro hl
      go_wp2_with fail
      go_end0
      exact ⟨rfl, hG⟩
    · intro x c w2 cnt2 hwx hlx hfx hrg2 hlt hg2 hs2 hen
      obtain ⟨f, hf, rfl⟩ : ∃ f, T x = some f ∧ Value.int .i64 f = c := by
        unfold tabI at hfx
        exact Option.map_eq_some_iff.1 hfx
      have hin := hall x f hf
      have hG2 := hG.from hg2 (l := []) (fun x hx => .inr (by simp at hx; omega))
      have hcon := contains_row base v W x w2 (by omega) (hrow.kept hG2.keepAll (Classical.em _))
      rw [show W.contains x = true by simpa using hin] at hcon
      clear hfx hf hin
      go_wp2_with (first
        | (go_at_call 39; refine hcon.mono ?_; rintro e w5 ⟨rfl, hww⟩; rw [hww]; clear hww w5)
        | fail)
      go_roundw
      case rel => exact ⟨_, cnt2, hrg2, hG2⟩
      case measure => rw [hrg2.left_eq, hrg.left_eq]; exact hlt

/-- The frame of a number of the stock. -/
def frN (fro : Int) (i : Nat) : Nat := (fro + i).toNat

set_option maxRecDepth 100000 in
set_option maxHeartbeats 8000000 in
/-- One table's number is wanted no more. -/
theorem lessOne (t M L S Tk : Nat) (nf : Nat) (sec : Int) (mem : Nat → Int) (fro : Int) (n : Nat) (tk : Nat → Bool) (bt nt : Nat) (T : TbF) (base : Nat) (v : Value) (W : List Int) (k0 : Int) (i : Nat) (w : World)
    (hSt : Store w t M L S Tk nf sec mem fro n tk) (hT : TabAt w .i64 3 bt nt (tabI T)) (hrow : w.ownsRow base 3 1 v W.length (W.map (Value.int .i64))) (hW : W.length ≤ 256) (hall : ∀ k f, k ≠ k0 → T k = some f → k ∈ W)
    (h0 : T k0 = some (fro + i)) (hk0 : k0 ∉ W) (hi : i < n) (hti : tk i = true) (hbt : bt ≠ t ∧ bt ≠ M ∧ bt ≠ L ∧ bt ≠ S ∧ bt ≠ Tk) (hv : ∀ j, v.ownBlock = some j → j ≠ L ∧ j ≠ Tk ∧ j ≠ bt) :
    Calls Try.prog 44 #[.pointer (some ⟨t, 0, none⟩), .map (some bt), v] w fun e w' => e = .returned (.tuple #[]) ∧ Store w' t M L S Tk nf sec (clearM mem (frN fro i)) fro n (setB tk i false) ∧ TabAt w' .i64 3 bt nt (tabI (delI T k0)) ∧ GrowBut w w' [L, Tk, bt] := by
  have hbl := hT.blt
  have htl := cell_ltG hSt.c0
  have hlt1 := hSt.ram.lt
  have hlt2 := hSt.stock.lt
  have hsm := hSt.stock.small
  have hfit := hSt.fit
  have hvl : ∀ j, v.ownBlock = some j → j < w.heap.size := fun j hj => (hrow.lt j hj).2
  have hfr0 : ((frN fro i : Nat) : Int) = fro + i := by unfold frN; omega
  have hfl : frN fro i < nf := by omega
  generalize frN fro i = fN at hfr0 hfl ⊢
  rw [← hfr0] at h0
  have hfr : (fN : Int) ≤ fro + i ∧ fro + i ≤ (fN : Int) := by omega
  clear hfr0
  go_enter Try.func44, Try.ntmps44
  go_wp2_with (first
    | (at_range; refine wpList_rangeT rfl _ 67 rfl hT keyI3 Try.underlying67 rfl ?_; intro w0 cnt0 hrg0 hcn hg0 hs0)
    | fail)
  try go_frame
  go_loopw [10] (fun v10 wr => ∃ left cnt, GrowBut w wr [L, Tk, bt] ∧ w.heap.size + 1 ≤ wr.heap.size ∧ ((left k0 = true ∧ RangeT wr .i64 3 bt w.heap.size nt (tabI T) left cnt ∧ Store wr t M L S Tk nf sec mem fro n tk) ∨
      (left k0 = false ∧ RangeT wr .i64 3 bt w.heap.size nt (tabI (delI T k0)) left cnt ∧ Store wr t M L S Tk nf sec (clearM mem fN) fro n (setB tk i false)))) (fun _ wr => wr.rangeLeft bt w.heap.size)
  case atStart => exact ⟨_, cnt0, hg0.mono (by simp), by omega, .inl ⟨by unfold tabI; rw [h0]; rfl, hrg0, hSt.kept hg0 (by simp) (by simp) (by simp) (by simp) (by simp)⟩⟩
  case round =>
    obtain ⟨left, cnt, hG, hsz, hcase⟩ := hrel
    have hrowr := hG.row hrow (fun j hj => by have := hv j hj; simp; omega)
    rcases hcase with ⟨hl0, hrg, hSr⟩ | ⟨hl0, hrg, hSr⟩
    · go_wp2_with (first
        | (at_next; refine wpList_nextT rfl _ rfl keyI3 Try.underlying3 rfl hrg ?_ ?_)
        | fail)
      · intro hl
        rw [hl k0] at hl0
        cases hl0
      · intro x c w2 cnt2 hwx hlx hfx hrg2 hlt hg2 hs2 hen
        obtain ⟨f, hf, rfl⟩ : ∃ f, T x = some f ∧ Value.int .i64 f = c := by
          unfold tabI at hfx
          exact Option.map_eq_some_iff.1 hfx
        have hG2 := hG.from hg2 (fun x hx => .inr (by simp at hx; omega))
        have hS2 := hSr.kept hg2 (by simp; omega) (by simp; omega) (by simp; omega) (by simp; omega) (by simp; omega)
        have hrow2 := hrowr.kept (w' := w2) (row := some w.heap.size) ⟨hg2.os, hg2.tape, hg2.output, hg2.size, fun j hj hn => hg2.block j hj (by simpa using fun e => hn (by rw [e]))⟩ (.inr (fun e => by have := hvl _ e; omega))
        have hcon := contains_row base v W x w2 (by omega) hrow2
        by_cases hx : x = k0
        · subst hx
          rw [h0] at hf
          obtain rfl : (fN : Int) = f := by simpa using hf
          rw [show W.contains x = false by simpa using hk0] at hcon
          have e0 := hS2.c0
          have e1 := hS2.c1
          have hC := ramClear M L nf sec mem fN w2 hS2.ram hfl
          clear hfx hf h0 hl0 hlx
          go_wp2_with (first
            | (go_at_call 39; refine hcon.mono ?_; rintro e w5 ⟨rfl, hww⟩; rw [hww]; clear hww w5)
            | (go_at_call 29; refine hC.mono ?_; rintro e w5 ⟨rfl, hR5, hg5⟩; have hS5 := hS2.ram' hg5 hR5; have e15 := hS5.c1; have hB := stockBack S Tk fro n tk i (fN : Nat) w5 hS5.stock hi hti (by omega))
            | (go_at_call 56; refine hB.mono ?_; rintro e w6 ⟨rfl, hK6, hg6⟩; have hS6 := hS5.stock' hg6 hK6; have hrg6 := (hrg2.kept hg5 (by simp; omega) (by simp; omega)).kept hg6 (by simp; omega) (by simp; omega))
            | (at_delete; refine wpList_deleteT rfl _ _ 67 3 rfl hrg6 keyI3 Try.underlying3 Try.underlying67 rfl x rfl hwx ?_; intro w7 cnt7 hrg7 hlt7 hg7)
            | fail)
          rw [tabI_del] at hrg7
          have hG7 : GrowBut w w7 [L, Tk, bt] := ((hG2.trans (hg5.mono (by simp))).trans (hg6.mono (by simp))).trans (hg7.mono (by simp))
          have hS7 := hS6.kept hg7 (by simp; omega) (by simp; omega) (by simp; omega) (by simp; omega) (by simp; omega)
          have hs7 := hg5.size
          have hs8 := hg6.size
          have hs9 := hg7.size
          try go_frame
          go_roundw
          case rel => exact ⟨_, cnt7, hG7, by omega, .inr ⟨by simp, hrg7, hS7⟩⟩
          case measure => rw [hrg7.left_eq, hrg.left_eq]; omega
        · have hin := hall x f hx hf
          rw [show W.contains x = true by simpa using hin] at hcon
          have hlk : (left k0 && !(k0 == x)) = true := by rw [hl0]; simpa using fun e => hx e.symm
          clear hfx hf hin h0 hall hl0 hlx hx hk0
          go_wp2_with (first
            | (go_at_call 39; refine hcon.mono ?_; rintro e w5 ⟨rfl, hww⟩; rw [hww]; clear hww w5)
            | fail)
          go_roundw
          case rel => exact ⟨_, cnt2, hG2, by omega, .inl ⟨hlk, hrg2, hS2⟩⟩
          case measure => rw [hrg2.left_eq, hrg.left_eq]; exact hlt
    · go_wp2_with (first
        | (at_next; refine wpList_nextT rfl _ rfl keyI3 Try.underlying3 rfl hrg ?_ ?_)
        | fail)
      · intro hl
        have hTT := hrg.tab
        clear hall h0 hl0 hl
        go_wp2_with fail
        go_end0
        exact ⟨rfl, hSr, hTT, hG⟩
      · intro x c w2 cnt2 hwx hlx hfx hrg2 hlt hg2 hs2 hen
        have hx : x ≠ k0 := fun e => by rw [e, hl0] at hlx; cases hlx
        obtain ⟨f, hf, rfl⟩ : ∃ f, T x = some f ∧ Value.int .i64 f = c := by
          unfold tabI delI at hfx
          simp only [hx, if_false] at hfx
          exact Option.map_eq_some_iff.1 hfx
        have hG2 := hG.from hg2 (fun x hx => .inr (by simp at hx; omega))
        have hS2 := hSr.kept hg2 (by simp; omega) (by simp; omega) (by simp; omega) (by simp; omega) (by simp; omega)
        have hrow2 := hrowr.kept (w' := w2) (row := some w.heap.size) ⟨hg2.os, hg2.tape, hg2.output, hg2.size, fun j hj hn => hg2.block j hj (by simpa using fun e => hn (by rw [e]))⟩ (.inr (fun e => by have := hvl _ e; omega))
        have hcon := contains_row base v W x w2 (by omega) hrow2
        have hin := hall x f hx hf
        rw [show W.contains x = true by simpa using hin] at hcon
        have hlk : (left k0 && !(k0 == x)) = false := by rw [hl0]; rfl
        clear hfx hf hin h0 hall hl0 hlx hx hk0
        go_wp2_with (first
          | (go_at_call 39; refine hcon.mono ?_; rintro e w5 ⟨rfl, hww⟩; rw [hww]; clear hww w5)
          | fail)
        go_roundw
        case rel => exact ⟨_, cnt2, hG2, by omega, .inr ⟨hlk, hrg2, hS2⟩⟩
        case measure => rw [hrg2.left_eq, hrg.left_eq]; exact hlt

end Go.Proofs.Ytdhnfhhmacjajaa


/-
  graft: more, put, end, mid.
-/
namespace Go.Proofs.Ytdhnfhhmacjajaa
open Go Go.RowKit Go.Maps Go.Am Go.Shelf
set_option linter.unusedVariables false
set_option linter.unusedSimpArgs false

/-- Row v says W. -/
def RowW (w : World) (v : Value) (W : List Int) : Prop := (v = .slice none 0 0 ∧ W = []) ∨ ∃ g cap, v = .slice (some ⟨g, 0, none⟩) W.length cap ∧ g < w.heap.size ∧ ∀ j, j < W.length → w.cell? ⟨g, j, none⟩ = some (.int .i64 (W.getD j 0))

theorem rowW_of {w : World} {base : Nat} {v : Value} {W : List Int} (hrow : w.ownsRow base 3 1 v W.length (W.map (Value.int .i64))) : RowW w v W := by
  rcases hrow.2 with ⟨rfl, hz⟩ | ⟨g, cap, cur, rfl, hbase, hb, h1, h2, h3, h4⟩
  · exact .inl ⟨rfl, List.eq_nil_of_length_eq_zero hz⟩
  · refine .inr ⟨g, cap, rfl, (Array.getElem?_eq_some_iff.1 hb).1, fun j hj => ?_⟩
    have h5 : (cur.toList.take (W.length * 1))[j]? = (W.map (Value.int .i64))[j]? := by rw [h4]
    rw [List.getElem?_take_of_lt (by omega), List.getElem?_map] at h5
    simp only [World.cell?, hb]
    simpa [List.getD_eq_getElem?_getD, hj] using h5

theorem mem_getD {l : List Int} {j : Nat} (h : j < l.length) : l.getD j 0 ∈ l := by
  rw [List.getD_eq_getElem?_getD, List.getElem?_eq_getElem h]; simp

theorem take_snocG {l : List Int} {j : Nat} (h : j < l.length) : l.take (j + 1) = l.take j ++ [l.getD j 0] := by
  rw [List.take_add_one, List.getElem?_eq_getElem h, List.getD_eq_getElem?_getD, List.getElem?_eq_getElem h]; rfl

set_option maxRecDepth 100000 in
set_option maxHeartbeats 8000000 in
/-- Every table that is wanted is there. -/
theorem moreNone (t bt nt : Nat) (T : TbF) (v : Value) (W : List Int) (w : World)
    (hT : TabAt w .i64 3 bt nt (tabI T)) (hrow : RowW w v W) (hW : W.length ≤ 256) (hwf : ∀ k ∈ W, (Lit.int .i64 k).wf = true) (hall : ∀ k ∈ W, (T k).isSome = true) :
    Calls Try.prog 45 #[.pointer (some ⟨t, 0, none⟩), .map (some bt), v] w fun e w' => e = .returned (.tuple #[]) ∧ w' = w := by
  rcases hrow with ⟨rfl, rfl⟩ | ⟨g, cap, rfl, hgl, hcs⟩
  · clear hall hwf
    go_enter Try.func45, Try.ntmps45
    go_wp2_with fail
    go_loopw [12] (fun v12 wx => v12 = .int .i64 0 ∧ wx = w) (fun _ _ => 0)
    case atStart => exact ⟨rfl, rfl⟩
    case round =>
      obtain ⟨rfl, rfl⟩ := hrel
      go_wp2_with fail
      go_end0
      exact ⟨rfl, rfl⟩
  · go_enter Try.func45, Try.ntmps45
    go_wp2_with fail
    go_loopw [12] (fun v12 wx => ∃ j : Nat, v12 = .int .i64 j ∧ j ≤ W.length ∧ wx = w) (fun v12 _ => W.length - natOf v12)
    case atStart => exact ⟨0, rfl, by omega, rfl⟩
    case round =>
      obtain ⟨j, rfl, hj, rfl⟩ := hrel
      by_cases hlt : j < W.length
      · have hlt' : (j : Int) < (W.length : Int) := by omega
        have cj := hcs j hlt
        have hin := hall _ (mem_getD hlt)
        have hwx := hwf _ (mem_getD hlt)
        have hlk := hT.look_ok (t := 67) (e := 3) keyI3 Try.underlying3 Try.underlying67 (zeroI3 _) hwx
        rw [(tabI_val _ _).1, (tabI_val _ _).2, hin] at hlk
        generalize W.getD j 0 = x at cj hlk
        clear hin hwx hcs hall hwf
        go_wp2_with fail
        exact ⟨⟨j + 1, by simp, by omega, trivial⟩, by simp [natOf]; omega⟩
      · have hge : ¬ (j : Int) < (W.length : Int) := by omega
        go_wp2_with fail
        go_end0
        exact ⟨rfl, rfl⟩

set_option maxRecDepth 100000 in
set_option maxHeartbeats 8000000 in
/-- One table that is wanted is not there, and there is a frame for it. -/
theorem moreOne (t M L S Tk : Nat) (nf : Nat) (sec : Int) (mem : Nat → Int) (fro : Int) (n : Nat) (tk : Nat → Bool) (bt nt : Nat) (T : TbF) (v : Value) (W : List Int) (k0 : Int) (w : World)
    (hSt : Store w t M L S Tk nf sec mem fro n tk) (hT : TabAt w .i64 3 bt nt (tabI T)) (hn : nt ≤ 100000) (hrow : RowW w v W) (hW : W.length ≤ 256) (hwf : ∀ k ∈ W, (Lit.int .i64 k).wf = true) (hall : ∀ k ∈ W, k ≠ k0 → (T k).isSome = true)
    (h0 : T k0 = none) (hk0 : k0 ∈ W) (hfree : ∃ i, i < n ∧ tk i = false) (hbt : bt ≠ t ∧ bt ≠ M ∧ bt ≠ L ∧ bt ≠ S ∧ bt ≠ Tk) (hv : ∀ j, v.ownBlock = some j → j ≠ L ∧ j ≠ Tk ∧ j ≠ bt) :
    Calls Try.prog 45 #[.pointer (some ⟨t, 0, none⟩), .map (some bt), v] w fun e w' => e = .returned (.tuple #[]) ∧ ∃ i, i < n ∧ tk i = false ∧ Store w' t M L S Tk nf sec (clearM mem (frN fro i)) fro n (setB tk i true) ∧ TabAt w' .i64 3 bt (nt + 1) (tabI (putI T k0 (fro + i))) ∧ GrowBut w w' [L, Tk, bt] := by
  rcases hrow with ⟨rfl, rfl⟩ | ⟨g, cap, rfl, hgl, hcs⟩
  · cases hk0
  have hg := hv g rfl
  clear hv
  have hbl := hT.blt
  have hsm := hSt.stock.small
  have hfit := hSt.fit
  go_enter Try.func45, Try.ntmps45
  go_wp2_with fail
  go_loopw [12] (fun v12 wx => ∃ j : Nat, v12 = .int .i64 j ∧ j ≤ W.length ∧ ((k0 ∉ W.take j ∧ wx = w) ∨ (∃ i, i < n ∧ tk i = false ∧ Store wx t M L S Tk nf sec (clearM mem (frN fro i)) fro n (setB tk i true) ∧ TabAt wx .i64 3 bt (nt + 1) (tabI (putI T k0 (fro + i))) ∧ GrowBut w wx [L, Tk, bt]))) (fun v12 _ => W.length - natOf v12)
  case atStart => exact ⟨0, rfl, by omega, .inl ⟨by simp, rfl⟩⟩
  case round =>
    obtain ⟨j, rfl, hj, hcase⟩ := hrel
    by_cases hlt : j < W.length
    · have hlt' : (j : Int) < (W.length : Int) := by omega
      have hwx := hwf _ (mem_getD hlt)
      have hxm := mem_getD hlt
      rcases hcase with ⟨hnt, rfl⟩ | ⟨i, hi, hti, hSi, hTi, hGi⟩
      · have cj := hcs j hlt
        have hlk := hT.look_ok (t := 67) (e := 3) keyI3 Try.underlying3 Try.underlying67 (zeroI3 _) hwx
        rw [(tabI_val _ _).1, (tabI_val _ _).2] at hlk
        by_cases hx : W.getD j 0 = k0
        · rw [hx] at hlk cj hwx
          rw [h0] at hlk
          have hTk := stockTake S Tk fro n tk wr hSt.stock hfree
          have e0 := hSt.c0
          have e1 := hSt.c1
          clear hall hcs hwf hnt h0 hk0 hx hxm hfree
          go_wp2_with (first
            | (go_at_call 28; refine hTk.mono ?_; rintro e w5 ⟨i, hi, hti, rfl, hK5, hg5⟩; have hS5 := hSt.stock' hg5 hK5; have hT5 := hT.kept hg5 (by simp; omega))
            | (at_mapUpdate; refine wpList_putT rfl _ _ _ 67 rfl hT5 keyI3 Try.underlying3 Try.underlying67 (by omega) rfl k0 (.int .i64 (fro + i)) rfl rfl hwx ?_; intro w6 hT6 hg6; have hS6 := hS5.kept hg6 (by simp; omega) (by simp; omega) (by simp; omega) (by simp; omega) (by simp; omega))
            | fail)
          have hfN : ((frN fro i : Nat) : Int) = fro + i := by unfold frN; omega
          have hfl : frN fro i < nf := by omega
          rw [tabI_put] at hT6
          have hS7 := hS6.kept (GrowBut.drew w6 []) (by simp) (by simp) (by simp) (by simp) (by simp)
          have hT7 := hT6.kept (GrowBut.drew w6 []) (by simp)
          have hlk7 := hT7.look (t := 67) (e := 3) keyI3 Try.underlying3 Try.underlying67 (zeroI3 _) hwx
          rw [(tabI_val _ _).1, show putI T k0 (fro + i) k0 = some (fro + i) by simp [putI], Option.getD_some, ← hfN] at hlk7
          have f0 := hS7.c0
          have hC := ramClear M L nf sec mem (frN fro i) w6.drew hS7.ram hfl
          rw [← hfN] at hT7 ⊢
          have hend : ∀ w8, RamAt w8 M L nf sec (clearM mem (frN fro i)) → GrowBut w6.drew w8 [L] → ∃ i, i < n ∧ tk i = false ∧ Store w8 t M L S Tk nf sec (clearM mem (frN fro i)) fro n (setB tk i true) ∧ TabAt w8 .i64 3 bt (nt + 1) (tabI (putI T k0 (fro + i))) ∧ GrowBut wr w8 [L, Tk, bt] := fun w8 hR8 hg8 =>
            ⟨i, hi, hti, hS7.ram' hg8 hR8, by rw [← hfN]; exact hT7.kept hg8 (by simp; omega), (((hg5.mono (by simp)).trans (hg6.mono (by simp))).trans (GrowBut.drew w6 _)).trans (hg8.mono (by simp))⟩
          clear hfN hTk hlk
          generalize frN fro i = fN at hlk7 hC hend ⊢
          go_still_tail 7, (by kernel_rfl)
          change wpList _ _ _ _ _ w6.drew
          go_wp2_with (first
            | (go_at_call 29; refine hC.mono ?_; rintro e w8 ⟨rfl, hR8, hg8⟩)
            | fail)
          exact ⟨⟨j + 1, by simp, by omega, .inr (hend _ hR8 hg8)⟩, by simp [natOf]; omega⟩
        · have hin := hall _ hxm hx
          have hnt' : k0 ∉ W.take (j + 1) := by
            rw [take_snocG hlt]
            simp only [List.mem_append, List.mem_singleton, not_or]
            exact ⟨hnt, fun e => hx e.symm⟩
          rw [hin] at hlk
          generalize W.getD j 0 = x at cj hlk
          clear hin hwx hcs hall hwf hnt h0 hk0 hx hxm hfree
          go_wp2_with fail
          exact ⟨⟨j + 1, by simp, by omega, .inl ⟨hnt', trivial⟩⟩, by simp [natOf]; omega⟩
      · have cj := hGi.cell (hcs j hlt) (by simp; omega)
        have hlk := hTi.look_ok (t := 67) (e := 3) keyI3 Try.underlying3 Try.underlying67 (zeroI3 _) hwx
        have hin : (putI T k0 (fro + i) (W.getD j 0)).isSome = true := by
          unfold putI
          by_cases e : W.getD j 0 = k0
          · rw [if_pos e]; rfl
          · rw [if_neg e]; exact hall _ hxm e
        rw [(tabI_val _ _).1, (tabI_val _ _).2, hin] at hlk
        generalize W.getD j 0 = x at cj hlk
        clear hin hwx hcs hall hwf h0 hk0 hxm hfree
        go_wp2_with fail
        exact ⟨⟨j + 1, by simp, by omega, .inr ⟨i, hi, hti, hSi, hTi, hGi⟩⟩, by simp [natOf]; omega⟩
    · have hge : ¬ (j : Int) < (W.length : Int) := by omega
      have hjW : j = W.length := by omega
      subst hjW
      rcases hcase with ⟨hnt, rfl⟩ | ⟨i, hi, hti, hSi, hTi, hGi⟩
      · rw [List.take_length] at hnt
        exact absurd hk0 hnt
      · clear hall hwf hcs h0 hk0 hfree
        go_wp2_with fail
        go_end0
        exact ⟨rfl, i, hi, hti, hSi, hTi, hGi⟩

end Go.Proofs.Ytdhnfhhmacjajaa


/-
  graft: put, end, mid.
-/
namespace Go.Proofs.Ytdhnfhhmacjajaa
open Go Go.RowKit Go.Maps Go.Am Go.Shelf
set_option linter.unusedVariables false
set_option linter.unusedSimpArgs false

/-- A word of a frame is written. -/
def setW (mem : Nat → Int) (f k v : Nat) : Nat → Int := setM mem (f * 128 + k * 8) v 8

theorem slotN_lt {k f p : Nat} (h : MayS k f p) : slotN k f p < 18446744073709551616 := by
  have := mayS_le h
  unfold slotN; omega

set_option maxRecDepth 100000 in
set_option maxHeartbeats 8000000 in
theorem putG (t M L S Tk : Nat) (nf : Nat) (sec : Int) (mem : Nat → Int) (fro : Int) (n : Nat) (tk : Nat → Bool) (f k a b c : Nat) (w : World)
    (hSt : Store w t M L S Tk nf sec mem fro n tk) (hf : f < nf) (hk : k < 16) (hs : MayS a b c) :
    Calls Try.prog 48 #[.pointer (some ⟨t, 0, none⟩), .int .i64 f, .int .i64 k, slotV a b c] w fun e w' => e = .returned (.tuple #[]) ∧ Store w' t M L S Tk nf sec (setW mem f k (slotN a b c)) fro n tk ∧ GrowBut w w' [L] := by
  have hbl := cell_ltG hSt.c0
  have hLl := hSt.ram.lt
  have hGa := GrowBut.alloc w (.cells #[.int .i64 a, .int .i64 b, .int .i64 c] 86) []
  have hS1 := (hSt.kept hGa (by simp) (by simp) (by simp) (by simp) (by simp)).kept (GrowBut.drew _ []) (by simp) (by simp) (by simp) (by simp) (by simp)
  have hP := slotPut a b c (w.alloc (.cells #[.int .i64 a, .int .i64 b, .int .i64 c] 86)).drew hs
  have hv := slotN_lt hs
  have b0 : (w.alloc (.cells #[.int .i64 a, .int .i64 b, .int .i64 c] 86)).drew.cell? ⟨w.heap.size, 0, none⟩ = some (.int .i64 a) := by go_simp
  have b1 : (w.alloc (.cells #[.int .i64 a, .int .i64 b, .int .i64 c] 86)).drew.cell? ⟨w.heap.size, 1, none⟩ = some (.int .i64 b) := by go_simp
  have b2 : (w.alloc (.cells #[.int .i64 a, .int .i64 b, .int .i64 c] 86)).drew.cell? ⟨w.heap.size, 2, none⟩ = some (.int .i64 c) := by go_simp
  have c0 := hS1.c0
  unfold slotV at hP ⊢
  generalize slotN a b c = N at hP hv ⊢
  go_enter Try.func48, Try.ntmps48
  go_upto_region 1 with fail
  have hgd := hGa.trans (GrowBut.drew _ [])
  generalize w.alloc (.cells #[.int .i64 a, .int .i64 b, .int .i64 c] 86) = wx at hS1 hP b0 b1 b2 c0 hgd ⊢
  have hne : L ≠ t := hSt.neL.1
  have hB : L ≠ w.heap.size := by omega
  generalize w.heap.size = B at b0 b1 b2 hB ⊢
  clear hGa
  go_region_held3 (fun w' => w'.cell? ⟨t, 0, none⟩ = some (.pointer (some ⟨M, 0, none⟩)) ∧ w'.cell? ⟨B, 0, none⟩ = some (.int .i64 a) ∧ w'.cell? ⟨B, 1, none⟩ = some (.int .i64 b) ∧ w'.cell? ⟨B, 2, none⟩ = some (.int .i64 c)) (first | go_keep | (exact ⟨d0, d1, d2, d3⟩) | (exact ⟨e0, e1, e2, e3⟩))
    (first
      | (go_at_call 58; refine hP.mono ?_; rintro e w5 ⟨rfl, hg5⟩; have d0 := hg5.cell c0 (by simp); have d1 := hg5.cell b0 (by simp); have d2 := hg5.cell b1 (by simp); have d3 := hg5.cell b2 (by simp); have hS5 := hS1.kept hg5 (by simp) (by simp) (by simp) (by simp) (by simp))
      | (go_at_call 57; refine (ramSetWord M L nf sec mem f k N _ hS5.ram hf hk hv).mono ?_; rintro e w6 ⟨rfl, hR6, hg6⟩; have e0 := hg6.cell d0 (by simpa using hne.symm); have e1 := hg6.cell d1 (by simpa using hB.symm); have e2 := hg6.cell d2 (by simpa using hB.symm); have e3 := hg6.cell d3 (by simpa using hB.symm))
      | fail)
  go_wp2_with fail
  go_end0
  exact ⟨rfl, hS5.ram' hg6 hR6, ((hgd.trans hg5).mono (by simp)).trans hg6⟩

/-- A tree is at t. -/
structure TreeAt (w : World) (t M L S Tk : Nat) (nf : Nat) (sec : Int) (mem : Nat → Int) (fro : Int) (n : Nat) (tk : Nat → Bool) (root : Nat) (b bm be nh nt : Nat) (F : LfF) (MI EN : TbF) : Prop where
  st : Store w t M L S Tk nf sec mem fro n tk
  c2 : w.cell? ⟨t, 2, none⟩ = some (.int .i64 root)
  c3 : w.cell? ⟨t, 3, none⟩ = some (.map (some b))
  c4 : w.cell? ⟨t, 4, none⟩ = some (.map (some bm))
  c5 : w.cell? ⟨t, 5, none⟩ = some (.map (some be))
  f3 : w.frozen? ⟨t, 3, none⟩ = false
  have_ : TabAt w .i64 3 b nh (tabL F)
  mids : TabAt w .i64 3 bm nt (tabI MI)
  ends : TabAt w .i64 3 be nt (tabI EN)
  nb : b ≠ t ∧ b ≠ M ∧ b ≠ L ∧ b ≠ S ∧ b ≠ Tk ∧ b ≠ bm ∧ b ≠ be
  nbm : bm ≠ t ∧ bm ≠ M ∧ bm ≠ L ∧ bm ≠ S ∧ bm ≠ Tk
  nbe : be ≠ t ∧ be ≠ M ∧ be ≠ L ∧ be ≠ S ∧ be ≠ Tk
  nmm : bm ≠ be
  ok : LfOk F
  rt : root < nf
  ntM : t ≠ M ∧ t ≠ S

theorem TreeAt.kept {w w' : World} {t M L S Tk nf n root b bm be nh nt : Nat} {sec fro : Int} {mem : Nat → Int} {tk : Nat → Bool} {F : LfF} {MI EN : TbF} {l : List Nat} (h : TreeAt w t M L S Tk nf sec mem fro n tk root b bm be nh nt F MI EN) (hg : GrowBut w w' l)
    (h1 : t ∉ l) (h2 : M ∉ l) (h3 : L ∉ l) (h4 : S ∉ l) (h5 : Tk ∉ l) (h6 : b ∉ l) (h7 : bm ∉ l) (h8 : be ∉ l) : TreeAt w' t M L S Tk nf sec mem fro n tk root b bm be nh nt F MI EN :=
  ⟨h.st.kept hg h1 h2 h3 h4 h5, hg.cell h.c2 h1, hg.cell h.c3 h1, hg.cell h.c4 h1, hg.cell h.c5 h1, hg.frozen (cell_ltG h.c3) h.f3 h1, h.have_.kept hg h6, h.mids.kept hg h7, h.ends.kept hg h8, h.nb, h.nbm, h.nbe, h.nmm, h.ok, h.rt, h.ntM⟩

theorem TreeAt.keep0 {w w' : World} {t M L S Tk nf n root b bm be nh nt : Nat} {sec fro : Int} {mem : Nat → Int} {tk : Nat → Bool} {F : LfF} {MI EN : TbF} (h : TreeAt w t M L S Tk nf sec mem fro n tk root b bm be nh nt F MI EN) (hg : GrowBut w w' []) : TreeAt w' t M L S Tk nf sec mem fro n tk root b bm be nh nt F MI EN :=
  h.kept hg (by simp) (by simp) (by simp) (by simp) (by simp) (by simp) (by simp) (by simp)

/-- The frames turned. -/
theorem TreeAt.ram' {w w' : World} {t M L S Tk nf n root b bm be nh nt : Nat} {sec fro : Int} {mem mem' : Nat → Int} {tk : Nat → Bool} {F : LfF} {MI EN : TbF} (h : TreeAt w t M L S Tk nf sec mem fro n tk root b bm be nh nt F MI EN) (hg : GrowBut w w' [L]) (hS : Store w' t M L S Tk nf sec mem' fro n tk) : TreeAt w' t M L S Tk nf sec mem' fro n tk root b bm be nh nt F MI EN := by
  have e1 : t ∉ [L] := by simpa using h.st.neL.1.symm
  exact ⟨hS, hg.cell h.c2 e1, hg.cell h.c3 e1, hg.cell h.c4 e1, hg.cell h.c5 e1, hg.frozen (cell_ltG h.c3) h.f3 e1, h.have_.kept hg (by simpa using h.nb.2.2.1), h.mids.kept hg (by simpa using h.nbm.2.2.1), h.ends.kept hg (by simpa using h.nbe.2.2.1), h.nb, h.nbm, h.nbe, h.nmm, h.ok, h.rt, h.ntM⟩

/-- The number of a leaf's entry. -/
def leafN (k : Nat) (F : LfF) (x : Int) : Nat := match F x with
  | none => 0
  | some l => slotN k l.1.toNat l.2.toNat

/-- So many entries of a group's table are written. -/
def endM (mem : Nat → Int) (F : LfF) (g : Int) (e : Nat) : Nat → (Nat → Int)
  | 0 => mem
  | j + 1 => setW (endM mem F g e j) e j (leafN 2 F (g * 16 + j))

theorem zeroSl (w : World) : (zeroValue 86).run Try.prog w = .ok (slotV 0 0 0) w := by kernel_rfl

set_option maxRecDepth 100000 in
set_option maxHeartbeats 8000000 in
theorem endG (t M L S Tk : Nat) (nf : Nat) (sec : Int) (mem : Nat → Int) (fro : Int) (n : Nat) (tk : Nat → Bool) (root b bm be nh nt : Nat) (F : LfF) (MI EN : TbF) (g : Int) (e : Nat) (w : World)
    (hT : TreeAt w t M L S Tk nf sec mem fro n tk root b bm be nh nt F MI EN) (hg0 : 0 ≤ g) (hg1 : g < 256) (he : EN g = some (e : Int)) (hel : e < nf) :
    Calls Try.prog 46 #[.pointer (some ⟨t, 0, none⟩), .int .i64 g] w fun e' w' => e' = .returned (.tuple #[]) ∧ TreeAt w' t M L S Tk nf sec (endM mem F g e 16) fro n tk root b bm be nh nt F MI EN ∧ GrowBut w w' [L] := by
  have hbl := cell_ltG hT.c3
  go_enter Try.func46, Try.ntmps46
  go_wp2_with fail
  go_loopw [8] (fun v8 wx => ∃ j : Nat, v8 = .int .i64 j ∧ j ≤ 16 ∧ TreeAt wx t M L S Tk nf sec (endM mem F g e j) fro n tk root b bm be nh nt F MI EN ∧ GrowBut w wx [L]) (fun v8 _ => 16 - natOf v8)
  case atStart => exact ⟨0, rfl, by omega, hT, .refl _ _⟩
  case round =>
    obtain ⟨j, rfl, hj, hTj, hG⟩ := hrel
    by_cases hlt : j < 16
    · have hlt' : (j : Int) < 16 := by omega
      have c3 := hTj.c3
      have hm := IntWalk.i64_in (g * 16) (by omega)
      have hm2 := IntWalk.i64_in (g * 16 + (j : Int)) (by omega)
      have hlk := hTj.have_.look_ok (t := 66) (e := 39) keyI3 Try.underlying3 Try.underlying66 (zeroLf _) (x := g * 16 + j) (wfI (by omega) (by omega))
      rw [(tabL_val _ _).1, (tabL_val _ _).2] at hlk
      have hbj := cell_ltG c3
      have hend : ∀ (w9 : World) (v : Nat), leafN 2 F (g * 16 + j) = v → TreeAt w9 t M L S Tk nf sec (setW (endM mem F g e j) e j v) fro n tk root b bm be nh nt F MI EN → GrowBut w w9 [L] →
          (∃ j_1 : Nat, Value.int .i64 ((j : Int) + 1) = .int .i64 j_1 ∧ j_1 ≤ 16 ∧ TreeAt w9 t M L S Tk nf sec (endM mem F g e j_1) fro n tk root b bm be nh nt F MI EN ∧ GrowBut w w9 [L]) ∧ 16 - natOf (.int .i64 ((j : Int) + 1)) < 16 - natOf (.int .i64 (j : Int)) := fun w9 v hv h1 h2 =>
        ⟨⟨j + 1, by simp, by omega, by subst hv; exact h1, h2⟩, by simp [natOf]; omega⟩
      cases hF : F (g * 16 + j) with
      | none =>
        rw [hF] at hlk
        simp only [Option.getD_none, Option.isSome_none] at hlk
        have hv : leafN 2 F (g * 16 + j) = 0 := by unfold leafN; rw [hF]
        unfold leafV at hlk
        simp only at hlk
        have hGa := (GrowBut.alloc wr (.cells #[.int .i64 0, .int .i64 0] 39) []).trans (GrowBut.alloc _ (.cells #[.int .i64 0, .int .i64 0, .int .i64 0] 86) [])
        clear hF
        go_upto_region 7 with go_in
        have hgd := hGa.trans (GrowBut.drew _ [])
        have hT2 := hTj.keep0 hgd
        have k5 := hT2.c5
        have hB0 : ((wr.alloc (.cells #[.int .i64 0, .int .i64 0] 39)).alloc (.cells #[.int .i64 0, .int .i64 0, .int .i64 0] 86)).drew.cell? ⟨wr.heap.size + 1, 0, none⟩ = some (.int .i64 0) := by go_simp
        have hB1 : ((wr.alloc (.cells #[.int .i64 0, .int .i64 0] 39)).alloc (.cells #[.int .i64 0, .int .i64 0, .int .i64 0] 86)).drew.cell? ⟨wr.heap.size + 1, 1, none⟩ = some (.int .i64 0) := by go_simp
        have hB2 : ((wr.alloc (.cells #[.int .i64 0, .int .i64 0] 39)).alloc (.cells #[.int .i64 0, .int .i64 0, .int .i64 0] 86)).drew.cell? ⟨wr.heap.size + 1, 2, none⟩ = some (.int .i64 0) := by go_simp
        have hlk2 := hT2.ends.look (t := 67) (e := 3) keyI3 Try.underlying3 Try.underlying67 (zeroI3 _) (x := g) (wfI (by omega) (by omega))
        rw [(tabI_val _ _).1, he, Option.getD_some] at hlk2
        have hP := putG t M L S Tk nf sec _ fro n tk e j 0 0 0 _ hT2.st hel hlt (.inl ⟨rfl, rfl, rfl⟩)
        have hend2 : ∀ w9, Store w9 t M L S Tk nf sec (setW (endM mem F g e j) e j 0) fro n tk → GrowBut ((wr.alloc (.cells #[.int .i64 0, .int .i64 0] 39)).alloc (.cells #[.int .i64 0, .int .i64 0, .int .i64 0] 86)).drew w9 [L] → _ := fun w9 h9 g9 => hend w9 0 hv (hT2.ram' g9 h9) (hG.trans ((hgd.mono (by simp)).trans g9))
        clear hv hend hlk hT2 he hT hTj
        generalize (wr.alloc (.cells #[.int .i64 0, .int .i64 0] 39)).alloc (.cells #[.int .i64 0, .int .i64 0, .int .i64 0] 86) = wx at *
        go_still_tail 9, (by kernel_rfl)
        change wpList _ _ _ _ _ wx.drew
        go_wp2_with (first
          | (go_at_call 48; refine hP.mono ?_; rintro e' w9 ⟨rfl, h9, g9⟩)
          | fail)
        exact hend2 _ h9 g9
      | some l =>
        have hr1 := hTj.ok.fr _ _ hF
        have hr2 := hTj.ok.pm _ _ hF
        obtain ⟨l1, l2⟩ := l
        obtain ⟨a, rfl⟩ : ∃ a : Nat, l1 = a := ⟨l1.toNat, by simp only at hr1; omega⟩
        obtain ⟨c, rfl⟩ : ∃ c : Nat, l2 = c := ⟨l2.toNat, by simp only at hr2; omega⟩
        simp only at hr1 hr2
        have hv : leafN 2 F (g * 16 + j) = slotN 2 a c := by unfold leafN; rw [hF]; simp
        rw [hF] at hlk
        simp only [Option.getD_some, Option.isSome_some] at hlk
        unfold leafV at hlk
        simp only at hlk
        have hGa := (GrowBut.alloc wr (.cells #[.int .i64 a, .int .i64 c] 39) []).trans (GrowBut.alloc _ (.cells #[.int .i64 2, .int .i64 a, .int .i64 c] 86) [])
        clear hF
        go_upto_region 7 with go_in
        have hgd := hGa.trans (GrowBut.drew _ [])
        have hT2 := hTj.keep0 hgd
        have k5 := hT2.c5
        have hB0 : ((wr.alloc (.cells #[.int .i64 a, .int .i64 c] 39)).alloc (.cells #[.int .i64 2, .int .i64 a, .int .i64 c] 86)).drew.cell? ⟨wr.heap.size + 1, 0, none⟩ = some (.int .i64 2) := by go_simp
        have hB1 : ((wr.alloc (.cells #[.int .i64 a, .int .i64 c] 39)).alloc (.cells #[.int .i64 2, .int .i64 a, .int .i64 c] 86)).drew.cell? ⟨wr.heap.size + 1, 1, none⟩ = some (.int .i64 a) := by go_simp
        have hB2 : ((wr.alloc (.cells #[.int .i64 a, .int .i64 c] 39)).alloc (.cells #[.int .i64 2, .int .i64 a, .int .i64 c] 86)).drew.cell? ⟨wr.heap.size + 1, 2, none⟩ = some (.int .i64 c) := by go_simp
        have hlk2 := hT2.ends.look (t := 67) (e := 3) keyI3 Try.underlying3 Try.underlying67 (zeroI3 _) (x := g) (wfI (by omega) (by omega))
        rw [(tabI_val _ _).1, he, Option.getD_some] at hlk2
        have hP := putG t M L S Tk nf sec _ fro n tk e j 2 a c _ hT2.st hel hlt (.inr (.inr (.inl ⟨rfl, by omega, by omega, by omega⟩)))
        have hend2 : ∀ w9, Store w9 t M L S Tk nf sec (setW (endM mem F g e j) e j (slotN 2 a c)) fro n tk → GrowBut ((wr.alloc (.cells #[.int .i64 a, .int .i64 c] 39)).alloc (.cells #[.int .i64 2, .int .i64 a, .int .i64 c] 86)).drew w9 [L] → _ := fun w9 h9 g9 => hend w9 (slotN 2 a c) hv (hT2.ram' g9 h9) (hG.trans ((hgd.mono (by simp)).trans g9))
        clear hv hend hlk hT2 he hT hTj
        generalize (wr.alloc (.cells #[.int .i64 a, .int .i64 c] 39)).alloc (.cells #[.int .i64 2, .int .i64 a, .int .i64 c] 86) = wx at *
        go_still_tail 9, (by kernel_rfl)
        change wpList _ _ _ _ _ wx.drew
        go_wp2_with (first
          | (go_at_call 48; refine hP.mono ?_; rintro e' w9 ⟨rfl, h9, g9⟩)
          | fail)
        exact hend2 _ h9 g9
    · have hjn : j = 16 := by omega
      subst hjn
      go_wp2_with fail
      go_end0
      exact ⟨rfl, hTj, hG⟩

/-- The number of a group's entry in the table above. -/
def midN (F : LfF) (EN : TbF) (g : Int) : Nat := match EN g with
  | some e => slotN 1 e.toNat 0
  | none => leafN 3 F (g * 16)

set_option maxRecDepth 100000 in
set_option maxHeartbeats 8000000 in
/-- The group has no table above. -/
theorem midNone (t M L S Tk : Nat) (nf : Nat) (sec : Int) (mem : Nat → Int) (fro : Int) (n : Nat) (tk : Nat → Bool) (root b bm be nh nt : Nat) (F : LfF) (MI EN : TbF) (g : Nat) (w : World)
    (hT : TreeAt w t M L S Tk nf sec mem fro n tk root b bm be nh nt F MI EN) (hg1 : g < 256) (he : MI ((g : Int) / 16) = none) :
    Calls Try.prog 47 #[.pointer (some ⟨t, 0, none⟩), .int .i64 g] w fun e' w' => e' = .returned (.tuple #[]) ∧ w' = w := by
  have c4 := hT.c4
  have hlk := hT.mids.look_ok (t := 67) (e := 3) keyI3 Try.underlying3 Try.underlying67 (zeroI3 _) (x := (g : Int) / 16) (wfI (by omega) (by omega))
  rw [(tabI_val _ _).1, (tabI_val _ _).2, he] at hlk
  simp only [Option.getD_none, Option.isSome_none] at hlk
  clear he
  go_enter Try.func47, Try.ntmps47
  go_wp2_with go_in
  exact bodyPost_ret (results_none rfl _ _ _) rfl ⟨rfl, rfl⟩

set_option maxRecDepth 100000 in
set_option maxHeartbeats 8000000 in
theorem midSome (t M L S Tk : Nat) (nf : Nat) (sec : Int) (mem : Nat → Int) (fro : Int) (n : Nat) (tk : Nat → Bool) (root b bm be nh nt : Nat) (F : LfF) (MI EN : TbF) (g m : Nat) (w : World)
    (hT : TreeAt w t M L S Tk nf sec mem fro n tk root b bm be nh nt F MI EN) (hg1 : g < 256) (hm : MI ((g : Int) / 16) = some (m : Int)) (hml : m < nf) (hen : ∀ e, EN g = some e → 0 ≤ e ∧ e < 240) :
    Calls Try.prog 47 #[.pointer (some ⟨t, 0, none⟩), .int .i64 g] w fun e' w' => e' = .returned (.tuple #[]) ∧ TreeAt w' t M L S Tk nf sec (setW mem m (g % 16) (midN F EN g)) fro n tk root b bm be nh nt F MI EN ∧ GrowBut w w' [L] := by
  have c4 := hT.c4
  have c5 := hT.c5
  have hlk := hT.mids.look_ok (t := 67) (e := 3) keyI3 Try.underlying3 Try.underlying67 (zeroI3 _) (x := (g : Int) / 16) (wfI (by omega) (by omega))
  rw [(tabI_val _ _).1, (tabI_val _ _).2, hm] at hlk
  simp only [Option.getD_some, Option.isSome_some] at hlk
  clear hm
  have hm6 := IntWalk.i64_in ((g : Int) * 16) (by omega)
  have hbt := cell_ltG c4
  cases hE : EN g with
  | some e =>
    have hr := hen e hE
    obtain ⟨a, rfl⟩ : ∃ a : Nat, e = a := ⟨e.toNat, by omega⟩
    have hv : midN F EN g = slotN 1 a 0 := by unfold midN; rw [hE]; simp
    rw [hv]
    have hGa := GrowBut.alloc w (.cells #[.int .i64 1, .int .i64 a, .int .i64 0] 86) []
    have hT2 := hT.keep0 hGa
    have hP := putG t M L S Tk nf sec mem fro n tk m (g % 16) 1 a 0 _ hT2.st hml (by omega) (.inr (.inl ⟨rfl, by omega, rfl⟩))
    have hG0 := GrowBut.alloc w (.cells #[.int .i64 0, .int .i64 0, .int .i64 0] 86) []
    have hlk2 := (hT.ends.kept hG0 (by simp)).look_ok (t := 67) (e := 3) keyI3 Try.underlying3 Try.underlying67 (zeroI3 _) (x := (g : Int)) (wfI (by omega) (by omega))
    rw [(tabI_val _ _).1, (tabI_val _ _).2, hE] at hlk2
    simp only [Option.getD_some, Option.isSome_some] at hlk2
    clear hE hv
    go_enter Try.func47, Try.ntmps47
    go_wp2_with (first
      | (go_at_call 48; refine hP.mono ?_; rintro e' w9 ⟨rfl, h9, g9⟩)
      | go_in)
    go_end0
    exact ⟨rfl, hT2.ram' g9 h9, (hGa.mono (by simp)).trans g9⟩
  | none =>
    have hG0 := GrowBut.alloc w (.cells #[.int .i64 0, .int .i64 0, .int .i64 0] 86) []
    have hT0 := hT.keep0 hG0
    have hlk2 := hT0.ends.look_ok (t := 67) (e := 3) keyI3 Try.underlying3 Try.underlying67 (zeroI3 _) (x := (g : Int)) (wfI (by omega) (by omega))
    rw [(tabI_val _ _).1, (tabI_val _ _).2, hE] at hlk2
    simp only [Option.getD_none, Option.isSome_none] at hlk2
    have c3 := hT0.c3
    have hlk3 := hT0.have_.look_ok (t := 66) (e := 39) keyI3 Try.underlying3 Try.underlying66 (zeroLf _) (x := (g : Int) * 16) (wfI (by omega) (by omega))
    rw [(tabL_val _ _).1, (tabL_val _ _).2] at hlk3
    have hv0 : midN F EN g = leafN 3 F ((g : Int) * 16) := by unfold midN; rw [hE]
    rw [hv0]
    cases hF : F ((g : Int) * 16) with
    | none =>
      have hv : leafN 3 F ((g : Int) * 16) = slotN 0 0 0 := by unfold leafN; rw [hF]; rfl
      rw [hv]
      rw [hF] at hlk3
      simp only [Option.getD_none, Option.isSome_none] at hlk3
      unfold leafV at hlk3
      simp only at hlk3
      have hGa := hG0.trans (GrowBut.alloc _ (.cells #[.int .i64 0, .int .i64 0] 39) [])
      have hT2 := hT.keep0 hGa
      have hP := putG t M L S Tk nf sec mem fro n tk m (g % 16) 0 0 0 _ hT2.st hml (by omega) (.inl ⟨rfl, rfl, rfl⟩)
      clear hE hF hv hv0 hG0
      go_enter Try.func47, Try.ntmps47
      go_wp2_with (first
        | (go_at_call 48; refine hP.mono ?_; rintro e' w9 ⟨rfl, h9, g9⟩)
        | go_in)
      go_end0
      exact ⟨rfl, hT2.ram' g9 h9, (hGa.mono (by simp)).trans g9⟩
    | some l =>
      have hr1 := hT.ok.fr _ _ hF
      have hr2 := hT.ok.pm _ _ hF
      obtain ⟨l1, l2⟩ := l
      obtain ⟨a, rfl⟩ : ∃ a : Nat, l1 = a := ⟨l1.toNat, by simp only at hr1; omega⟩
      obtain ⟨c, rfl⟩ : ∃ c : Nat, l2 = c := ⟨l2.toNat, by simp only at hr2; omega⟩
      simp only at hr1 hr2
      have hv : leafN 3 F ((g : Int) * 16) = slotN 3 a c := by unfold leafN; rw [hF]; simp
      rw [hv]
      rw [hF] at hlk3
      simp only [Option.getD_some, Option.isSome_some] at hlk3
      unfold leafV at hlk3
      simp only at hlk3
      have hGa := (GrowBut.alloc w (.cells #[.int .i64 3, .int .i64 a, .int .i64 c] 86) []).trans (GrowBut.alloc _ (.cells #[.int .i64 a, .int .i64 c] 39) [])
      have hT2 := hT.keep0 hGa
      have hP := putG t M L S Tk nf sec mem fro n tk m (g % 16) 3 a c _ hT2.st hml (by omega) (.inr (.inr (.inr ⟨rfl, by omega, by omega, by omega⟩)))
      clear hE hF hv hv0 hG0
      go_enter Try.func47, Try.ntmps47
      go_wp2_with (first
        | (go_at_call 48; refine hP.mono ?_; rintro e' w9 ⟨rfl, h9, g9⟩)
        | go_in)
      go_end0
      exact ⟨rfl, hT2.ram' g9 h9, (hGa.mono (by simp)).trans g9⟩

end Go.Proofs.Ytdhnfhhmacjajaa


/-
  The plain law of a tree's tables: which there are, whose each frame is, what each says.
-/
namespace Go.Proofs.Ytdhnfhhmacjajaa
open Go Go.RowKit Go.Maps Go.Am
set_option linter.unusedVariables false
set_option linter.unusedSimpArgs false

theorem anyG_iff (F : LfF) (g : Int) : ∀ n : Nat, anyG F g n = true ↔ ∃ j : Nat, j < n ∧ (F (g * 16 + j)).isSome = true
  | 0 => by simp [anyG]
  | n + 1 => by
    simp only [anyG, Bool.or_eq_true, anyG_iff F g n]
    constructor
    · rintro (⟨j, hj, h⟩ | h)
      · exact ⟨j, by omega, h⟩
      · exact ⟨n, by omega, h⟩
    · rintro ⟨j, hj, h⟩
      by_cases e : j = n
      · subst e; exact .inr h
      · exact .inl ⟨j, by omega, h⟩

theorem anyG_congr {F F' : LfF} {g : Int} (h : ∀ j : Nat, j < 16 → F' (g * 16 + j) = F (g * 16 + j)) : ∀ n, n ≤ 16 → anyG F' g n = anyG F g n
  | 0, _ => rfl
  | n + 1, hn => by simp only [anyG, anyG_congr h n (by omega), h n (by omega)]

theorem wholeG_congr {F F' : LfF} {g : Int} (h : ∀ j : Nat, j < 16 → F' (g * 16 + j) = F (g * 16 + j)) : ∀ n, n ≤ 16 → wholeG F' g n = wholeG F g n
  | 0, _ => by
    have h0 : F' (g * 16) = F (g * 16) := by simpa using h 0 (by omega)
    simp only [wholeG, h0]
  | n + 1, hn => by
    have h0 : F' (g * 16) = F (g * 16) := by simpa using h 0 (by omega)
    simp only [wholeG, wholeG_congr h n (by omega), okG, h n (by omega), h0]

theorem mem_endsL (F : LfF) (x : Int) : ∀ n : Nat, x ∈ endsL F n ↔ ∃ g : Nat, g < n ∧ x = g ∧ anyG F g 16 = true ∧ wholeG F g 16 = false
  | 0 => by simp [endsL]
  | n + 1 => by
    unfold endsL
    by_cases h : (anyG F (n : Int) 16 && !wholeG F (n : Int) 16) = true
    · rw [if_pos h, List.mem_append, mem_endsL F x n, List.mem_singleton]
      simp only [Bool.and_eq_true, Bool.not_eq_true'] at h
      constructor
      · rintro (⟨g, hg, r⟩ | rfl)
        · exact ⟨g, by omega, r⟩
        · exact ⟨n, by omega, rfl, h⟩
      · rintro ⟨g, hg, rfl, r⟩
        by_cases e : g = n
        · subst e; exact .inr rfl
        · exact .inl ⟨g, by omega, rfl, r⟩
    · rw [if_neg h, mem_endsL F x n]
      simp only [Bool.and_eq_true, Bool.not_eq_true'] at h
      constructor
      · rintro ⟨g, hg, r⟩; exact ⟨g, by omega, r⟩
      · rintro ⟨g, hg, rfl, r⟩
        by_cases e : g = n
        · subst e; exact absurd r h
        · exact ⟨g, by omega, rfl, r⟩

theorem mem_midsL (F : LfF) (x : Int) : ∀ n : Nat, x ∈ midsL F n ↔ ∃ g : Nat, g < n ∧ x = (g : Int) / 16 ∧ anyG F g 16 = true
  | 0 => by simp [midsL]
  | n + 1 => by
    have ih := mem_midsL F x n
    have ihn := mem_midsL F ((n : Int) / 16) n
    unfold midsL
    by_cases h : anyG F (n : Int) 16 = true
    · rw [if_pos h]
      by_cases hc : (midsL F n).contains ((n : Int) / 16) = true
      · rw [if_pos hc, ih]
        constructor
        · rintro ⟨g, hg, r⟩; exact ⟨g, by omega, r⟩
        · rintro ⟨g, hg, rfl, r⟩
          by_cases e : g = n
          · subst e
            exact ihn.1 (by simpa using hc)
          · exact ⟨g, by omega, rfl, r⟩
      · rw [if_neg hc, List.mem_append, ih, List.mem_singleton]
        constructor
        · rintro (⟨g, hg, r⟩ | rfl)
          · exact ⟨g, by omega, r⟩
          · exact ⟨n, by omega, rfl, h⟩
        · rintro ⟨g, hg, rfl, r⟩
          by_cases e : g = n
          · subst e; exact .inr rfl
          · exact .inl ⟨g, by omega, rfl, r⟩
    · rw [if_neg h, ih]
      constructor
      · rintro ⟨g, hg, r⟩; exact ⟨g, by omega, r⟩
      · rintro ⟨g, hg, rfl, r⟩
        by_cases e : g = n
        · subst e; exact absurd r h
        · exact ⟨g, by omega, rfl, r⟩

theorem nodup_endsL (F : LfF) : ∀ n, (endsL F n).Nodup
  | 0 => by simp [endsL]
  | n + 1 => by
    unfold endsL
    split
    · refine List.nodup_append.2 ⟨nodup_endsL F n, by simp, fun a ha b hb => ?_⟩
      obtain ⟨g, hg, rfl, _⟩ := (mem_endsL F a n).1 ha
      simp only [List.mem_singleton] at hb
      subst hb
      omega
    · exact nodup_endsL F n

theorem nodup_midsL (F : LfF) : ∀ n, (midsL F n).Nodup
  | 0 => by simp [midsL]
  | n + 1 => by
    unfold midsL
    split
    · split
      · exact nodup_midsL F n
      · rename_i hc
        refine List.nodup_append.2 ⟨nodup_midsL F n, by simp, fun a ha b hb => ?_⟩
        simp only [List.mem_singleton] at hb
        subst hb
        rintro rfl
        exact hc (by simpa using ha)
    · exact nodup_midsL F n

open Classical in
/-- Two lists without doubles that differ by one at most. -/
theorem len_step {L L' : List Int} (h1 : L.Nodup) (h2 : L'.Nodup) {a : Int} (h : ∀ x, x ≠ a → (x ∈ L' ↔ x ∈ L)) : L.length + (if a ∈ L' then 1 else 0) = L'.length + (if a ∈ L then 1 else 0) := by
  have key : ∀ {A B : List Int}, A.Nodup → B.Nodup → (∀ x, x ≠ a → (x ∈ B ↔ x ∈ A)) → a ∈ A → a ∉ B → A.length = B.length + 1 := by
    intro A B hA hB hx ha hb
    have hp : A.Perm (a :: B) := (List.perm_ext_iff_of_nodup hA (List.nodup_cons.2 ⟨hb, hB⟩)).2 fun x => by
      by_cases e : x = a
      · subst e; simp [ha]
      · simp [e, hx x e]
    rw [hp.length_eq]; rfl
  by_cases h3 : a ∈ L
  · by_cases h4 : a ∈ L'
    · have hp : L.Perm L' := (List.perm_ext_iff_of_nodup h1 h2).2 fun x => by
        by_cases e : x = a
        · subst e; simp [h3, h4]
        · exact (h x e).symm
      rw [if_pos h3, if_pos h4, hp.length_eq]
    · rw [if_pos h3, if_neg h4]
      have := key h1 h2 h h3 h4
      omega
  · by_cases h4 : a ∈ L'
    · rw [if_neg h3, if_pos h4]
      have := key h2 h1 (fun x e => (h x e).symm) h4 h3
      omega
    · have hp : L.Perm L' := (List.perm_ext_iff_of_nodup h1 h2).2 fun x => by
        by_cases e : x = a
        · subst e; simp [h3, h4]
        · exact (h x e).symm
      rw [if_neg h3, if_neg h4, hp.length_eq]

/-- Two maps that are the same off one group. -/
def SameOff (F F' : LfF) (g0 : Int) : Prop := ∀ k, k / 16 ≠ g0 → F' k = F k

theorem SameOff.grp {F F' : LfF} {g0 : Int} (h : SameOff F F' g0) {g : Int} (hg : g ≠ g0) : ∀ j : Nat, j < 16 → F' (g * 16 + j) = F (g * 16 + j) := fun j hj => h _ (by omega)

theorem SameOff.ends {F F' : LfF} {g0 : Int} (h : SameOff F F' g0) (x : Int) (hx : x ≠ g0) : x ∈ endsL F' 256 ↔ x ∈ endsL F 256 := by
  rw [mem_endsL, mem_endsL]
  constructor
  · rintro ⟨g, hg, rfl, r⟩
    rw [anyG_congr (h.grp hx) 16 (Nat.le_refl _), wholeG_congr (h.grp hx) 16 (Nat.le_refl _)] at r
    exact ⟨g, hg, rfl, r⟩
  · rintro ⟨g, hg, rfl, r⟩
    rw [← anyG_congr (h.grp hx) 16 (Nat.le_refl _), ← wholeG_congr (h.grp hx) 16 (Nat.le_refl _)] at r
    exact ⟨g, hg, rfl, r⟩

theorem SameOff.mids {F F' : LfF} {g0 : Int} (h : SameOff F F' g0) (x : Int) (hx : x ≠ g0 / 16) : x ∈ midsL F' 256 ↔ x ∈ midsL F 256 := by
  rw [mem_midsL, mem_midsL]
  constructor
  · rintro ⟨g, hg, rfl, r⟩
    have hne : (g : Int) ≠ g0 := fun e => hx (by rw [e])
    rw [anyG_congr (h.grp hne) 16 (Nat.le_refl _)] at r
    exact ⟨g, hg, rfl, r⟩
  · rintro ⟨g, hg, rfl, r⟩
    have hne : (g : Int) ≠ g0 := fun e => hx (by rw [e])
    rw [← anyG_congr (h.grp hne) 16 (Nat.le_refl _)] at r
    exact ⟨g, hg, rfl, r⟩

/-! ### Words -/
theorem wordT_congr {m m' : Nat → Int} {o : Nat} (h : ∀ i, o ≤ i → i < o + 8 → m' i = m i) : ∀ k, k ≤ 8 → wordT m' o k = wordT m o k
  | 0, _ => rfl
  | k + 1, hk => by
    unfold wordT
    rw [wordT_congr h k (by omega), h (o + 7 - k) (by omega) (by omega)]

theorem wordT_set (m : Nat → Int) (o v : Nat) (hv : v < 18446744073709551616) : wordT (setM m o v 8) o 8 = v := by
  have h : ∀ j, j < 8 → (setM m o v 8 (o + 7 - j)).toNat = v / 256 ^ (7 - j) % 256 := by
    intro j hj
    unfold setM
    rw [if_pos (by omega), show o + 7 - j - o = 7 - j by omega]
    rfl
  simp only [wordT]
  rw [h 0 (by omega), h 1 (by omega), h 2 (by omega), h 3 (by omega), h 4 (by omega), h 5 (by omega), h 6 (by omega), h 7 (by omega)]
  simp only [Nat.reduceSub, Nat.reducePow]
  omega

theorem wordF_set {m : Nat → Int} {f k v : Nat} (hk : k < 16) (hv : v < 18446744073709551616) (f' k' : Nat) (hk' : k' < 16) : wordF (setW m f k v) f' k' = if f' = f ∧ k' = k then v else wordF m f' k' := by
  unfold wordF setW
  by_cases e : f' = f ∧ k' = k
  · obtain ⟨rfl, rfl⟩ := e
    rw [if_pos ⟨rfl, rfl⟩]
    exact wordT_set m _ v hv
  · rw [if_neg e]
    refine wordT_congr (fun i h1 h2 => ?_) 8 (Nat.le_refl _)
    unfold setM
    rw [if_neg (by omega)]

theorem wordF_clear {m : Nat → Int} {f : Nat} (f' k' : Nat) (hk' : k' < 16) : wordF (clearM m f) f' k' = if f' = f then 0 else wordF m f' k' := by
  unfold wordF
  by_cases e : f' = f
  · subst e
    rw [if_pos rfl]
    have h : ∀ j, j < 8 → (clearM m f' (f' * 128 + k' * 8 + 7 - j)).toNat = 0 := by
      intro j hj
      unfold clearM
      rw [if_pos (by omega)]
      rfl
    simp only [wordT]
    rw [h 0 (by omega), h 1 (by omega), h 2 (by omega), h 3 (by omega), h 4 (by omega), h 5 (by omega), h 6 (by omega), h 7 (by omega)]
  · rw [if_neg e]
    refine wordT_congr (fun i h1 h2 => ?_) 8 (Nat.le_refl _)
    unfold clearM
    rw [if_neg (by omega)]

/-! ### Whose a frame is -/
/-- The frames by their owners: -1 the root, a the tables of the first numbers, 1000 + g those of groups. -/
def comb (root : Nat) (MI EN : TbF) : TbF := fun x => if x = -1 then some (root : Int) else if x < 1000 then MI x else EN (x - 1000)

structure GI (fro : Int) (n : Nat) (tk : Nat → Bool) (C : TbF) (ow : Int → Int) (c : Nat) : Prop where
  fr : ∀ x f, C x = some f → ∃ i : Nat, i < n ∧ f = fro + i ∧ tk i = true ∧ ow f = x
  cnt : cntB tk n = c

theorem GI.less {fro : Int} {n : Nat} {tk : Nat → Bool} {C : TbF} {ow : Int → Int} {c : Nat} (h : GI fro n tk C ow c) {x : Int} {i : Nat} (hx : C x = some (fro + i)) (hi : i < n) : GI fro n (setB tk i false) (delI C x) ow (c - 1) ∧ 1 ≤ c := by
  obtain ⟨j, hj, e, ht, ho⟩ := h.fr x _ hx
  obtain rfl : i = j := by omega
  have hc := cntB_back tk i ht n hi
  have h2 := h.cnt
  refine ⟨⟨fun y f hy => ?_, by omega⟩, by omega⟩
  unfold delI at hy
  by_cases e1 : y = x
  · simp [e1] at hy
  · rw [if_neg e1] at hy
    obtain ⟨k, hk, e2, ht2, ho2⟩ := h.fr y f hy
    have hki : k ≠ i := fun e3 => by subst e3; rw [← e2, ho2] at ho; exact e1 ho
    exact ⟨k, hk, e2, by simp [setB, hki, ht2], ho2⟩

theorem GI.more {fro : Int} {n : Nat} {tk : Nat → Bool} {C : TbF} {ow : Int → Int} {c : Nat} (h : GI fro n tk C ow c) {x : Int} {i : Nat} (hi : i < n) (ht : tk i = false) : GI fro n (setB tk i true) (putI C x (fro + i)) (fun f => if f = fro + i then x else ow f) (c + 1) := by
  have hc := cntB_take tk i ht n hi
  have h2 := h.cnt
  refine ⟨fun y f hy => ?_, by omega⟩
  unfold putI at hy
  by_cases e1 : y = x
  · rw [if_pos e1] at hy
    obtain rfl : fro + (i : Int) = f := by simpa using hy
    exact ⟨i, hi, rfl, by simp [setB], by simp [e1]⟩
  · rw [if_neg e1] at hy
    obtain ⟨k, hk, e2, ht2, ho2⟩ := h.fr y f hy
    have hki : k ≠ i := fun e3 => by subst e3; rw [ht] at ht2; cases ht2
    refine ⟨k, hk, e2, by simp [setB, hki, ht2], ?_⟩
    rw [if_neg (by omega)]
    exact ho2

theorem GI.one {fro : Int} {n : Nat} {tk : Nat → Bool} {C : TbF} {ow : Int → Int} {c : Nat} (h : GI fro n tk C ow c) {x y f : Int} (hx : C x = some f) (hy : C y = some f) : x = y := by
  obtain ⟨_, _, _, _, h1⟩ := h.fr x f hx
  obtain ⟨_, _, _, _, h2⟩ := h.fr y f hy
  rw [← h1, h2]

theorem comb_mid_del (root : Nat) (MI EN : TbF) {a : Int} (h0 : 0 ≤ a) (h1 : a < 1000) : comb root (delI MI a) EN = delI (comb root MI EN) a := by
  funext x; unfold comb delI
  by_cases e : x = a
  · subst e; rw [if_neg (by omega), if_pos h1, if_pos rfl, if_pos rfl]
  · simp [e]

theorem comb_mid_put (root : Nat) (MI EN : TbF) {a v : Int} (h0 : 0 ≤ a) (h1 : a < 1000) : comb root (putI MI a v) EN = putI (comb root MI EN) a v := by
  funext x; unfold comb putI
  by_cases e : x = a
  · subst e; rw [if_neg (by omega), if_pos h1, if_pos rfl, if_pos rfl]
  · simp [e]

theorem comb_end_del (root : Nat) (MI EN : TbF) {g : Int} (h0 : 0 ≤ g) : comb root MI (delI EN g) = delI (comb root MI EN) (1000 + g) := by
  funext x; unfold comb delI
  by_cases e : x = 1000 + g
  · subst e; rw [if_neg (by omega), if_neg (by omega), if_pos (by omega), if_pos rfl]
  · rw [if_neg e]
    by_cases e1 : x = -1
    · simp [e1]
    · by_cases e2 : x < 1000
      · simp [e1, e2]
      · simp only [e1, e2, if_false]; rw [if_neg (by omega)]

theorem comb_end_put (root : Nat) (MI EN : TbF) {g v : Int} (h0 : 0 ≤ g) : comb root MI (putI EN g v) = putI (comb root MI EN) (1000 + g) v := by
  funext x; unfold comb putI
  by_cases e : x = 1000 + g
  · subst e; rw [if_neg (by omega), if_neg (by omega), if_pos (by omega), if_pos rfl]
  · rw [if_neg e]
    by_cases e1 : x = -1
    · simp [e1]
    · by_cases e2 : x < 1000
      · simp [e1, e2]
      · simp only [e1, e2, if_false]; rw [if_neg (by omega)]

theorem comb_mid (root : Nat) (MI EN : TbF) {a : Int} (h0 : 0 ≤ a) (h1 : a < 1000) : comb root MI EN a = MI a := by
  unfold comb; rw [if_neg (by omega), if_pos h1]

theorem comb_end (root : Nat) (MI EN : TbF) {g : Int} (h0 : 0 ≤ g) : comb root MI EN (1000 + g) = EN g := by
  unfold comb; rw [if_neg (by omega), if_neg (by omega), show 1000 + g - 1000 = g by omega]

theorem comb_root (root : Nat) (MI EN : TbF) : comb root MI EN (-1) = some (root : Int) := by unfold comb; rw [if_pos rfl]

end Go.Proofs.Ytdhnfhhmacjajaa


/-
  graft: less and more, whatever is wanted.
-/
namespace Go.Proofs.Ytdhnfhhmacjajaa
open Go Go.RowKit Go.Maps Go.Am
set_option linter.unusedVariables false
set_option linter.unusedSimpArgs false

/-- A frame says what it said. -/
def Kw (mem mem' : Nat → Int) (f : Nat) : Prop := ∀ k, k < 16 → wordF mem' f k = wordF mem f k

theorem Kw.refl (mem : Nat → Int) (f : Nat) : Kw mem mem f := fun _ _ => rfl

theorem Kw.trans {a b c : Nat → Int} {f : Nat} (h : Kw a b f) (k : Kw b c f) : Kw a c f := fun i hi => by rw [k i hi, h i hi]

theorem Kw.clear (mem : Nat → Int) {f g : Nat} (h : g ≠ f) : Kw mem (clearM mem f) g := fun k hk => by rw [wordF_clear _ _ hk, if_neg h]

theorem delI_none {T : TbF} {k : Int} (h : T k = none) : delI T k = T := by
  funext x; unfold delI; by_cases e : x = k
  · subst e; simp [h]
  · simp [e]

open Classical in
/-- What 'less' does: one number at most is wanted no more. -/
structure LessR (W : List Int) (k0 code : Int) (T T1 C C1 : TbF) (c c1 : Nat) (mem mem1 : Nat → Int) : Prop where
  ft : T1 = if k0 ∈ W then T else delI T k0
  fc : C1 = if k0 ∈ W then C else delI C code
  fn : c1 + (if k0 ∈ W then 0 else if (T k0).isSome then 1 else 0) = c
  kw : ∀ y f, C1 y = some f → Kw mem mem1 f.toNat

/-- What 'more' does. -/
structure MoreR (fro : Int) (W : List Int) (k0 code : Int) (T T1 C C1 : TbF) (c c1 : Nat) (mem mem1 : Nat → Int) : Prop where
  way : ((k0 ∈ W → (T k0).isSome = true) ∧ T1 = T ∧ C1 = C ∧ c1 = c ∧ mem1 = mem) ∨ (k0 ∈ W ∧ T k0 = none ∧ c1 = c + 1 ∧ ∃ f : Nat, T1 = putI T k0 f ∧ C1 = putI C code f ∧ ∀ k, k < 16 → wordF mem1 f k = 0)
  kw : ∀ y f, C y = some f → Kw mem mem1 f.toNat

theorem lessAny (t M L S Tk : Nat) (nf : Nat) (sec : Int) (mem : Nat → Int) (fro : Int) (n : Nat) (tk : Nat → Bool) (bt nt : Nat) (T C : TbF) (ow : Int → Int) (c : Nat) (base : Nat) (v : Value) (W : List Int) (k0 code : Int) (w : World)
    (hSt : Store w t M L S Tk nf sec mem fro n tk) (hT : TabAt w .i64 3 bt nt (tabI T)) (hrow : w.ownsRow base 3 1 v W.length (W.map (Value.int .i64))) (hW : W.length ≤ 256) (hall : ∀ k f, k ≠ k0 → T k = some f → k ∈ W)
    (hG : GI fro n tk C ow c) (hC : C code = T k0) (hbt : bt ≠ t ∧ bt ≠ M ∧ bt ≠ L ∧ bt ≠ S ∧ bt ≠ Tk) (hv : ∀ j, v.ownBlock = some j → j ≠ L ∧ j ≠ Tk ∧ j ≠ bt) :
    Calls Try.prog 44 #[.pointer (some ⟨t, 0, none⟩), .map (some bt), v] w fun e w' => e = .returned (.tuple #[]) ∧ ∃ mem1 tk1 T1 C1 c1, Store w' t M L S Tk nf sec mem1 fro n tk1 ∧ TabAt w' .i64 3 bt nt (tabI T1) ∧ GrowBut w w' [L, Tk, bt] ∧ GI fro n tk1 C1 ow c1 ∧ LessR W k0 code T T1 C C1 c c1 mem mem1 := by
  have hsm := hSt.stock.small
  by_cases hk : k0 ∈ W
  · refine (lessNone t M L S Tk nf sec mem fro n tk bt nt T base v W w hT hrow hW (fun k f hf => ?_)).mono ?_
    · by_cases e : k = k0
      · rw [e]; exact hk
      · exact hall k f e hf
    · rintro e w' ⟨rfl, hg⟩
      exact ⟨rfl, mem, tk, T, C, c, hSt.kept hg (by simp) (by simp) (by simp) (by simp) (by simp), hT.kept hg (by simp), hg.mono (by simp), hG, ⟨by rw [if_pos hk], by rw [if_pos hk], by rw [if_pos hk]; rfl, fun y f _ => Kw.refl _ _⟩⟩
  · cases h0 : T k0 with
    | none =>
      refine (lessNone t M L S Tk nf sec mem fro n tk bt nt T base v W w hT hrow hW (fun k f hf => ?_)).mono ?_
      · by_cases e : k = k0
        · rw [e, h0] at hf; cases hf
        · exact hall k f e hf
      · rintro e w' ⟨rfl, hg⟩
        exact ⟨rfl, mem, tk, T, C, c, hSt.kept hg (by simp) (by simp) (by simp) (by simp) (by simp), hT.kept hg (by simp), hg.mono (by simp), hG, ⟨by rw [if_neg hk, delI_none h0], by rw [if_neg hk, delI_none (by rw [hC, h0])], by rw [if_neg hk, h0]; rfl, fun y f _ => Kw.refl _ _⟩⟩
    | some f =>
      obtain ⟨i, hi, rfl, hti, ho⟩ := hG.fr code f (by rw [hC, h0])
      refine (lessOne t M L S Tk nf sec mem fro n tk bt nt T base v W k0 i w hSt hT hrow hW hall h0 hk hi hti hbt hv).mono ?_
      rintro e w' ⟨rfl, hS', hT', hg⟩
      have hCx : C code = some (fro + i) := by rw [hC, h0]
      obtain ⟨hG', h1⟩ := hG.less hCx hi
      refine ⟨rfl, _, _, _, _, _, hS', hT', hg, hG', ⟨by rw [if_neg hk], by rw [if_neg hk], by rw [if_neg hk, h0]; simp; omega, fun y f hy => ?_⟩⟩
      obtain ⟨j, hj, rfl, _, _⟩ := hG'.fr y f hy
      refine Kw.clear mem ?_
      intro e
      have hfe : fro + (j : Int) = fro + i := by unfold frN at e; omega
      unfold delI at hy
      by_cases e2 : y = code
      · simp [e2] at hy
      · rw [if_neg e2, hfe] at hy
        exact e2 (hG.one hy hCx)

theorem moreAny (t M L S Tk : Nat) (nf : Nat) (sec : Int) (mem : Nat → Int) (fro : Int) (n : Nat) (tk : Nat → Bool) (bt nt : Nat) (T C : TbF) (ow : Int → Int) (c : Nat) (v : Value) (W : List Int) (k0 code : Int) (w : World)
    (hSt : Store w t M L S Tk nf sec mem fro n tk) (hT : TabAt w .i64 3 bt nt (tabI T)) (hn : nt ≤ 100000) (hrow : RowW w v W) (hW : W.length ≤ 256) (hwf : ∀ k ∈ W, (Lit.int .i64 k).wf = true) (hall : ∀ k ∈ W, k ≠ k0 → (T k).isSome = true)
    (hG : GI fro n tk C ow c) (hC : C code = T k0) (hfree : k0 ∈ W → T k0 = none → c < n) (hbt : bt ≠ t ∧ bt ≠ M ∧ bt ≠ L ∧ bt ≠ S ∧ bt ≠ Tk) (hv : ∀ j, v.ownBlock = some j → j ≠ L ∧ j ≠ Tk ∧ j ≠ bt) :
    Calls Try.prog 45 #[.pointer (some ⟨t, 0, none⟩), .map (some bt), v] w fun e w' => e = .returned (.tuple #[]) ∧ ∃ mem1 tk1 T1 C1 ow1 c1, Store w' t M L S Tk nf sec mem1 fro n tk1 ∧ TabAt w' .i64 3 bt (nt + 1) (tabI T1) ∧ GrowBut w w' [L, Tk, bt] ∧ GI fro n tk1 C1 ow1 c1 ∧ MoreR fro W k0 code T T1 C C1 c c1 mem mem1 := by
  have hsm := hSt.stock.small
  by_cases hk : k0 ∈ W ∧ T k0 = none
  · obtain ⟨hk, h0⟩ := hk
    have hcn := hfree hk h0
    have hfr := cntB_free tk n (by have := hG.cnt; omega)
    refine (moreOne t M L S Tk nf sec mem fro n tk bt nt T v W k0 w hSt hT hn hrow hW hwf hall h0 hk hfr hbt hv).mono ?_
    rintro e w' ⟨rfl, i, hi, hti, hS', hT', hg⟩
    have hfN : ((frN fro i : Nat) : Int) = fro + i := by unfold frN; omega
    have hG' := hG.more (x := code) hi hti
    refine ⟨rfl, _, _, _, _, _, _, hS', hT', hg, hG', ⟨.inr ⟨hk, h0, rfl, frN fro i, by rw [hfN], by rw [hfN], fun k hk => by rw [wordF_clear _ _ hk, if_pos rfl]⟩, fun y f hy => ?_⟩⟩
    obtain ⟨j, hj, rfl, htj, _⟩ := hG.fr y f hy
    refine Kw.clear mem ?_
    intro e
    have : j = i := by unfold frN at e; omega
    subst this
    rw [hti] at htj; cases htj
  · have hk' : k0 ∈ W → (T k0).isSome = true := fun h1 => by
      cases h2 : T k0 with
      | none => exact absurd ⟨h1, h2⟩ hk
      | some f => rfl
    refine (moreNone t bt nt T v W w hT hrow hW hwf (fun k hkw => ?_)).mono ?_
    · by_cases e : k = k0
      · rw [e]; exact hk' (e ▸ hkw)
      · exact hall k hkw e
    · rintro e w' ⟨rfl, rfl⟩
      exact ⟨rfl, mem, tk, T, C, ow, c, hSt, hT.mono (by omega), .refl _ _, hG, ⟨.inl ⟨hk', rfl, rfl, rfl, rfl⟩, fun y f _ => Kw.refl _ _⟩⟩

end Go.Proofs.Ytdhnfhhmacjajaa
