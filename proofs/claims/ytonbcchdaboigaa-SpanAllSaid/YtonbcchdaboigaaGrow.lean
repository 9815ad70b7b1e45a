/-
  Worlds that grew and kept all but a few blocks.
-/
import Derived.Test.YtonbcchdaboigaaBase
import Derived.Maps.OwnSet
import Derived.Maps.RangeWalk
import Derived.Maps.AppendAt
import Derived.WalkKit
import Derived.WalkSpells
import Derived.StillTailTactics
import Derived.BigQuiet
namespace Go.Proofs.Ytonbcchdaboigaa
open Go Go.RowKit Go.Maps Go.Am
set_option linter.unusedVariables false

/-- w' has grown from w, and none of w's blocks but those of l has turned. -/
structure GrowBut (w w' : World) (l : List Nat) : Prop where
  os : w'.os = w.os
  tape : w'.tape = w.tape
  output : w'.output = w.output
  size : w.heap.size ≤ w'.heap.size
  block : ∀ k, k < w.heap.size → k ∉ l → w'.heap[k]? = w.heap[k]?

theorem GrowBut.refl (w : World) (l : List Nat) : GrowBut w w l := ⟨rfl, rfl, rfl, Nat.le_refl _, fun _ _ _ => rfl⟩

theorem GrowBut.trans {a b c : World} {l : List Nat} (h : GrowBut a b l) (k : GrowBut b c l) : GrowBut a c l :=
  ⟨by rw [k.os, h.os], by rw [k.tape, h.tape], by rw [k.output, h.output], Nat.le_trans h.size k.size, fun j hj hn => by rw [k.block j (Nat.lt_of_lt_of_le hj h.size) hn, h.block j hj hn]⟩

theorem GrowBut.mono {a b : World} {l l' : List Nat} (h : GrowBut a b l) (hs : ∀ x ∈ l, x ∈ l') : GrowBut a b l' :=
  ⟨h.os, h.tape, h.output, h.size, fun j hj hn => h.block j hj (fun hm => hn (hs j hm))⟩

theorem GrowBut.from {a b c : World} {l l' : List Nat} (h : GrowBut a b l) (k : GrowBut b c l') (hs : ∀ x ∈ l', x ∈ l ∨ a.heap.size ≤ x) : GrowBut a c l :=
  ⟨by rw [k.os, h.os], by rw [k.tape, h.tape], by rw [k.output, h.output], Nat.le_trans h.size k.size, fun j hj hn => by
    rw [k.block j (Nat.lt_of_lt_of_le hj h.size) (fun hm => by rcases hs j hm with h1 | h1; exact hn h1; omega), h.block j hj hn]⟩

theorem GrowBut.of_none {a b : World} {l : List Nat} (h : a.grownBy b none) : GrowBut a b l := ⟨h.os, h.tape, h.output, h.size, fun j hj _ => h.block j hj (by simp)⟩

theorem GrowBut.of_some {a b : World} {m : Nat} (h : a.grownBy b (some m)) : GrowBut a b [m] := ⟨h.os, h.tape, h.output, h.size, fun j hj hn => h.block j hj (by simpa using hn)⟩

theorem GrowBut.of_below {a b : World} {l : List Nat} (h : Below a.heap.size a b) : GrowBut a b l := ⟨h.os, h.tape, h.output, h.size, fun j hj _ => h.block j hj⟩

theorem GrowBut.alloc (w : World) (o : Obj) (l : List Nat) : GrowBut w (w.alloc o) l := .of_none (World.grownBy_alloc w o none)

theorem GrowBut.drew (w : World) (l : List Nat) : GrowBut w w.drew l := ⟨rfl, rfl, rfl, Nat.le_refl _, fun _ _ _ => rfl⟩

theorem GrowBut.drewN (w : World) (n : Nat) (l : List Nat) : GrowBut w (w.drewN n) l := ⟨rfl, rfl, rfl, Nat.le_refl _, fun _ _ _ => rfl⟩

theorem GrowBut.setCell (w : World) (a : Addr) (v : Value) : GrowBut w (w.setCell a v) [a.block] :=
  ⟨rfl, rfl, rfl, by simp, fun j hj hn => RowKit.Below.heap_setCell _ _ _ _ (by simpa using hn)⟩

theorem GrowBut.keepAll {a b : World} (h : GrowBut a b []) : a.grownBy b none := ⟨h.os, h.tape, h.output, h.size, fun j hj _ => h.block j hj (by simp)⟩

theorem GrowBut.cell {w w' : World} {l : List Nat} (hg : GrowBut w w' l) {a : Addr} {v : Value} (h : w.cell? a = some v) (hne : a.block ∉ l) : w'.cell? a = some v := by
  have hlt : a.block < w.heap.size := by
    by_cases h2 : a.block < w.heap.size
    · exact h2
    · exfalso
      have h3 : w.heap[a.block]? = Option.none := Array.getElem?_eq_none (by omega)
      simp [World.cell?, h3] at h
  rw [World.cell?_of_block (hg.block _ hlt hne)]
  exact h

theorem GrowBut.frozen {w w' : World} {l : List Nat} (hg : GrowBut w w' l) {a : Addr} (hlt : a.block < w.heap.size) (h : w.frozen? a = false) (hne : a.block ∉ l) : w'.frozen? a = false := by
  rw [World.frozen?_of_block (hg.block _ hlt hne)]
  exact h

theorem GrowBut.map {H : Type} {P : Program} {k : TypeId} {R : Value → Option (DataW H × List MemPlace)} {b n : Nat} {D : DataW H} {w w' : World} {l : List Nat} (hg : GrowBut w w' l) (h : w.ownsMap P k R b n D) (hne : b ∉ l) : w'.ownsMap P k R b n D := by
  obtain ⟨es, clock, hb, r⟩ := h
  exact ⟨es, clock, by rw [hg.block b ((Array.getElem?_eq_some_iff.1 hb).1) hne]; exact hb, r⟩

theorem GrowBut.row {w w' : World} {l : List Nat} {base : Nat} {e : TypeId} {size n : Nat} {v : Value} {xs : List Value} (hg : GrowBut w w' l) (h : w.ownsRow base e size v n xs) (hne : ∀ j, v.ownBlock = some j → j ∉ l) : w'.ownsRow base e size v n xs := by
  have hlt := h.lt
  refine ⟨h.1, ?_⟩
  rcases h.2 with h1 | ⟨g, cap, cur, rfl, hbase, hb, r⟩
  · exact .inl h1
  · exact .inr ⟨g, cap, cur, rfl, hbase, by rw [hg.block g (Array.getElem?_eq_some_iff.1 hb).1 (hne g rfl)]; exact hb, r⟩

end Go.Proofs.Ytonbcchdaboigaa
