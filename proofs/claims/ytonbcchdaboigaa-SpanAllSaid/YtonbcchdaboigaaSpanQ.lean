/-
  Package span: a row as a complex number, and back again.
-/
import Derived.Test.YtonbcchdaboigaaSpanO
import Derived.Test.YtonbcchdaboigaaSpanP
import Derived.Test.YtonbcchdaboigaaFl
import Derived.WalkLawsBesides
import Derived.Laws.OwnMore
namespace Go.Proofs.Ytonbcchdaboigaa
open Go Go.RowKit Go.Maps Go.Am Go.Fl
set_option linter.unusedVariables false

/-- A row as it lies in memory. -/
def encR (r : Nat × Nat) : Value := .complex .f64 (F r.1) (F r.2)

set_option maxRecDepth 100000 in
set_option maxHeartbeats 2000000 in
theorem row_calls (a c : Nat) (w : World) : Calls Try.prog 75 #[.agg #[.int .i64 a, .int .i64 c]] w fun e w' => e = .returned (encR (a, c)) ∧ GrowBut w w' [] := by
  go_enter Try.func75, Try.ntmps75
  go_wp2_with go_in
  go_ret
  exact ⟨rfl, .alloc _ _ _⟩

set_option maxRecDepth 100000 in
set_option maxHeartbeats 2000000 in
theorem span_calls (a c : Nat) (ha : a < 8200) (hc : c < 8200) (w : World) : Calls Try.prog 76 #[encR (a, c)] w fun e w' => e = .returned (.agg #[.int .i64 a, .int .i64 c]) ∧ GrowBut w w' [] := by
  have h1 := fun w1 => run_convert_float_int (P := Try.prog) w1 108 3 .f64 .i64 (F a) a (by kernel_rfl) Try.underlying3 (F_int ha)
  have h2 := fun w1 => run_convert_float_int (P := Try.prog) w1 108 3 .f64 .i64 (F c) c (by kernel_rfl) Try.underlying3 (F_int hc)
  unfold encR
  generalize F a = fa at h1 ⊢
  generalize F c = fc at h2 ⊢
  go_enter Try.func76, Try.ntmps76
  go_wp2_with go_in
  refine bodyPost_ret_by (v := .agg #[.int .i64 a, .int .i64 c]) ?_ rfl ?_
  · simp only [results, Try.f76]; go_simp
  · exact ⟨rfl, .alloc _ _ _⟩

theorem infoC : (Try.prog.info? 109).map (fun i => (i.zero, i.size, i.bytes)) = some (some (.complex .f64 0 0), 1, 16) := by kernel_rfl

theorem stepS_le (R : List (Nat × Nat)) (p : Nat) : (stepS R p).length ≤ R.length + 1 := by
  rw [stepS_len R p (fun r hr _ e => by rw [e] at hr; simp at hr)]
  split <;> omega

theorem rowsS_le (l : List Nat) : (rowsS l).length ≤ l.length :=
  snoc_ind (Q := fun l => (rowsS l).length ≤ l.length) (by simp [rowsS]) (fun l p ih => by rw [rowsS_snoc]; have := stepS_le (rowsS l) p; simp; omega) l

/-- The numbers that are pages. -/
def pgs (l : List Int) : List Nat := (l.filter fun x => decide (0 ≤ x ∧ x < 4096)).map Int.toNat

theorem pgs_snoc_out {l : List Int} {x : Int} (h : ¬ (0 ≤ x ∧ x < 4096)) : pgs (l ++ [x]) = pgs l := by
  simp [pgs, List.filter_append, h]

theorem pgs_snoc_in {l : List Int} {p : Nat} (h : p < 4096) : pgs (l ++ [(p : Int)]) = pgs l ++ [p] := by
  have : (0 : Int) ≤ p ∧ (p : Int) < 4096 := by omega
  simp [pgs, List.filter_append, this]

theorem pgs_lt {l : List Int} : ∀ x ∈ pgs l, x < 4096 := by
  intro x hx
  obtain ⟨y, hy, rfl⟩ := List.mem_map.1 hx
  have := (List.mem_filter.1 hy).2
  simp at this; omega

theorem pgs_le (l : List Int) : (pgs l).length ≤ l.length := by unfold pgs; rw [List.length_map]; exact List.length_filter_le _ _

theorem take_succ_getD {l : List Int} {j : Nat} (h : j < l.length) : l.take (j + 1) = l.take j ++ [l.getD j 0] := by
  rw [List.take_add_one, List.getElem?_eq_getElem h, List.getD_eq_getElem?_getD, List.getElem?_eq_getElem h]; rfl

/-- A whole number in a value. -/
def intOf : Value → Nat
  | .int _ k => k.toNat
  | _ => 0

/-- What a row of that length looks like. -/
theorem row_form {w : World} {base : Nat} {e : TypeId} {size n : Nat} {v : Value} {xs : List Value} (h : w.ownsRow base e size v n xs) : ∃ s cap, v = .slice s n cap := by
  rcases h.2 with ⟨rfl, rfl⟩ | ⟨g, cap, _, rfl, _⟩
  · exact ⟨_, _, rfl⟩
  · exact ⟨_, _, rfl⟩

theorem row_block {w : World} {base : Nat} {e : TypeId} {size n : Nat} {v : Value} {xs : List Value} (h : w.ownsRow base e size v n xs) (hn : 0 < n) : ∃ g cap, v = .slice (some ⟨g, 0, none⟩) n cap ∧ base ≤ g ∧ g < w.heap.size := by
  rcases h.2 with ⟨rfl, rfl⟩ | ⟨g, cap, _, rfl, hb, hg, _⟩
  · omega
  · exact ⟨_, _, rfl, hb, (Array.getElem?_eq_some_iff.1 hg).1⟩

end Go.Proofs.Ytonbcchdaboigaa
