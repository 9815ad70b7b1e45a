/-
  Marks, as lists of numbers: the plain law.
-/
import Derived.Test.YtlgfopfibopcnaaOf
import Derived.Maps.OwnSet
namespace Go.Proofs.Ytlgfopfibopcnaa
open Go Go.RowKit Go.Maps Go.Am
set_option linter.unusedVariables false

/-- The keys of D are L, and each says true. -/
structure Marked {H : Type} (D : DataW H) (L : List Int) : Prop where
  nodup : L.Nodup
  has : ∀ x, Maps.has D (.int .u64 x) = decide (x ∈ L)
  at_ : ∀ x ∈ L, ∀ z, D.atKey (.int .u64 x) z = .lit (.bool true)

theorem litU_ne {x y : Int} (h : x ≠ y) : (Lit.int .u64 x) ≠ .int .u64 y := fun e => by cases e; exact h rfl

theorem Marked.empty {H : Type} : Marked (H := H) (.map []) [] := ⟨List.nodup_nil, fun x => by simp [Maps.has_eq], fun x h => by cases h⟩

theorem Marked.put {H : Type} {D : DataW H} {L : List Int} (h : Marked D L) (hm : IsMap D) {x : Int} (hx : x ∉ L) : Marked (D.put (.int .u64 x) (.lit (.bool true))) (x :: L) := by
  refine ⟨List.nodup_cons.2 ⟨hx, h.nodup⟩, fun y => ?_, fun y hy z => ?_⟩
  · by_cases e : y = x
    · subst e
      rw [has_put_same hm (by trivial)]
      simp
    · rw [has_put_other (litU_ne e), h.has y]
      simp [e]
  · by_cases e : y = x
    · subst e
      exact atKey_put_same hm (by trivial) _ z
    · rw [atKey_put_other (litU_ne e)]
      exact h.at_ y (by simpa [e] using hy) z

theorem Marked.del {H : Type} {D : DataW H} {L : List Int} (h : Marked D L) (x : Int) : Marked (D.del (.int .u64 x)) (L.erase x) := by
  refine ⟨h.nodup.erase x, fun y => ?_, fun y hy z => ?_⟩
  · by_cases e : y = x
    · subst e
      rw [has_del_same]
      simp [h.nodup.mem_erase_iff]
    · rw [has_del_other (litU_ne e), h.has y]
      simp [h.nodup.mem_erase_iff, e]
  · have hm := h.nodup.mem_erase_iff.1 hy
    rw [atKey_del_other (litU_ne hm.1)]
    exact h.at_ y hm.2 z

theorem Marked.atKey {H : Type} {D : DataW H} {L : List Int} (h : Marked D L) (x : Int) : D.atKey (.int .u64 x) (.lit (.bool false)) = .lit (.bool (decide (x ∈ L))) := by
  by_cases e : x ∈ L
  · rw [h.at_ x e]; simp [e]
  · rw [atKey_of_not_has (by rw [h.has]; simp [e])]; simp [e]

/-- Whose are of whom. -/
def ofWho (L : List Int) (s : Int) : List Int := L.filter fun x => decide (whose x = s)

theorem Marked.count {H : Type} {D : DataW H} {L : List Int} (h : Marked D L) {w : World} {b n : Nat} {R : Value → Option (DataW H × List MemPlace)} (hown : w.ownsMap Try.prog 23 R b n D) (s : Int) : ((intKeys D).filter fun x => decide (whose x = s)).length = (ofWho L s).length := by
  have hC : CollU D (fun _ => false) s (ofWho L s) := ⟨h.nodup.filter _, fun x => by simp [ofWho, List.mem_filter, h.has]⟩
  exact (hC.perm hown (fun _ => rfl)).length_eq.symm

/-- Given, in its time, to whom it tells. -/
def MarkOf (g : Nat → Int) (x : Int) : Prop := ∃ (s : Nat) (j : Int), s < 6 ∧ 1 ≤ j ∧ j ≤ g s ∧ x = (s + 1) * 4294967296 + j

def upG (g : Nat → Int) (s : Nat) : Nat → Int := fun i => if i = s then g s + 1 else g i

theorem MarkOf.up {g : Nat → Int} {x : Int} (h : MarkOf g x) (s : Nat) : MarkOf (upG g s) x := by
  obtain ⟨t, j, h1, h2, h3, h4⟩ := h
  refine ⟨t, j, h1, h2, ?_, h4⟩
  unfold upG
  split
  · rename_i e; subst e; omega
  · exact h3

theorem MarkOf.new {g : Nat → Int} {s : Nat} (hs : s < 6) (h0 : 0 ≤ g s) : MarkOf (upG g s) ((s + 1) * 4294967296 + (g s + 1)) :=
  ⟨s, g s + 1, hs, by omega, by simp [upG], rfl⟩

theorem MarkOf.ne {g : Nat → Int} {s : Nat} {x : Int} (hg : ∀ i, g i < 1000000) (h0 : 0 ≤ g s) (h : MarkOf g x) : x ≠ (s + 1) * 4294967296 + (g s + 1) := by
  obtain ⟨t, j, h1, h2, h3, rfl⟩ := h
  intro e
  have := hg t
  have := hg s
  have : (t : Int) = s := by omega
  have : t = s := by omega
  subst this
  omega

theorem whose_new {s : Nat} {j : Int} (h0 : 0 ≤ j) (h1 : j < 4294967296) : whose ((s + 1) * 4294967296 + j) = s := by
  unfold whose; omega

theorem MarkOf.wf {g : Nat → Int} {x : Int} (hg : ∀ i, g i < 1000000) (h : MarkOf g x) : (Lit.int .u64 x).wf = true := by
  obtain ⟨t, j, h1, h2, h3, rfl⟩ := h
  have := hg t
  simp only [Lit.wf, Bool.and_eq_true, decide_eq_true_eq]
  have hm : IntKind.u64.min = 0 := by decide
  have hM : IntKind.u64.max = 18446744073709551615 := by decide
  rw [hm, hM]
  omega

theorem ofWho_cons (L : List Int) (x s : Int) : ofWho (x :: L) s = if whose x = s then x :: ofWho L s else ofWho L s := by
  unfold ofWho
  by_cases h : whose x = s <;> simp [h]

theorem ofWho_erase {L : List Int} (hn : L.Nodup) (x s : Int) : ofWho (L.erase x) s = if whose x = s then (ofWho L s).erase x else ofWho L s := by
  unfold ofWho
  rw [hn.erase_eq_filter, List.filter_filter]
  split
  · rw [List.Nodup.erase_eq_filter (show (L.filter fun x => decide (whose x = s)).Nodup from hn.filter _), List.filter_filter]
    exact List.filter_congr fun y _ => by rw [Bool.and_comm]
  · rename_i h
    refine List.filter_congr fun y _ => ?_
    by_cases e : y = x
    · subst e; simp [h]
    · simp [e]

theorem ofWho_erase_le (L : List Int) (x s : Int) : (ofWho (L.erase x) s).length ≤ (ofWho L s).length :=
  ((List.erase_sublist).filter _).length_le

end Go.Proofs.Ytlgfopfibopcnaa
