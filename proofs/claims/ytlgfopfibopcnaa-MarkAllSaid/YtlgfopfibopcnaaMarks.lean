/-
  mark.Sender and slices.Sort of a few numbers: what they answer.
-/
import Derived.Test.YtlgfopfibopcnaaBase
import Derived.Test.YtlgfopfibopcnaaAm31
import Derived.Maps.RangeWalk
import Derived.WalkKit
import Derived.WalkSpells
namespace Go.Proofs.Ytlgfopfibopcnaa
open Go Go.RowKit Go.Maps Go.Am
set_option linter.unusedVariables false

/-- Whose mark it is. -/
def whose (x : Int) : Int := x / 4294967296 - 1

theorem wf_u64 {a : Int} (h : (Lit.int .u64 a).wf = true) : 0 ≤ a ∧ a < 18446744073709551616 := by
  simp only [Lit.wf, Bool.and_eq_true, decide_eq_true_eq] at h
  have hm : IntKind.u64.min = 0 := by decide
  have hM : IntKind.u64.max = 18446744073709551615 := by decide
  rw [hm, hM] at h
  omega

theorem sender_calls (x : Int) (hx : (Lit.int .u64 x).wf = true) (w : World) : Calls Try.prog 28 #[.int .u64 x] w fun e w' => e = .returned (.int .i64 (whose x)) ∧ w' = w := by
  have h := wf_u64 hx
  go_enter Try.func28, Try.ntmps28
  go_wp2
  go_ret
  exact ⟨rfl, rfl⟩

/-! ### The sort -/
noncomputable def nilRun : Bool := match run Try.prog noPrims noFacts (drawRun Try.prog) 100000 (.call 154 [.lit (.slice none 0 0)]) st0 with
  | .ok (.val (.tup []), _) => true
  | _ => false

theorem nilRun_true : nilRun = true := by decide +kernel

theorem sort_nil (w : World) : Calls Try.prog 154 #[.slice none 0 0] w fun e w' => e = .returned (.tuple #[]) ∧ Below w.heap.size w w' := by
  have h := nilRun_true
  unfold nilRun at h
  split at h
  · rename_i s' hs
    refine (calls_of_run (σ := fun _ => (.i64, 0)) (args := [.lit (.slice none 0 0)]) (us := #[.slice none 0 0]) (by kernel_rfl) noFacts_ok noPrims_ok (by kernel_rfl) ⟨rfl, rfl, rfl⟩ ⟨_, _, rfl, ⟨rfl, rfl⟩, rfl⟩ hs).mono fun e w' ⟨u, ρ', he, hu, hb⟩ => ⟨?_, hb⟩
    obtain ⟨ws, rfl, hws⟩ := hu
    have : ws = #[] := by apply Array.toList_inj.1; exact hws
    rw [he, this]
  · cases h

theorem sort_some : (sortRuns Try.prog 100000 154 1 && (sortRuns Try.prog 100000 154 2 && (sortRuns Try.prog 100000 154 3 && sortRuns Try.prog 100000 154 4))) = true := by decide +kernel

theorem sort_few {n : Nat} (h1 : 1 ≤ n) (h4 : n ≤ 4) {zs : List Int} (hn : zs.length = n) (hnd : zs.Nodup) {w : World} {g cap : Nat} (hg : g < w.heap.size) (hcap : n ≤ cap)
    (hc : ∀ j a, zs[j]? = some a → w.cell? ⟨g, j, none⟩ = some (.int .u64 a)) (hall : ∀ i, i < cap → (w.cell? ⟨g, i, none⟩).isSome = true ∧ w.frozen? ⟨g, i, none⟩ = false) :
    Calls Try.prog 154 #[.slice (some ⟨g, 0, none⟩) n cap] w fun e w' => e = .returned (.tuple #[]) ∧ w.grownBy w' (some g) := by
  have h := sort_some
  simp only [Bool.and_eq_true] at h
  have hs : sortRuns Try.prog 100000 154 n = true := by
    have : n = 1 ∨ n = 2 ∨ n = 3 ∨ n = 4 := by omega
    rcases this with rfl | rfl | rfl | rfl
    · exact h.1
    · exact h.2.1
    · exact h.2.2.1
    · exact h.2.2.2
  exact sortRuns_ok (by kernel_rfl) (by kernel_rfl) hs hn hnd hg hcap hc hall

end Go.Proofs.Ytlgfopfibopcnaa
