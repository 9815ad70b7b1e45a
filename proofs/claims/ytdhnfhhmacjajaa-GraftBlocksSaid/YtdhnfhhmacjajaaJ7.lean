/-
  graft.turn: the plain law of what becomes of the tables.
-/
import Derived.Test.YtdhnfhhmacjajaaJ6
import Derived.Shelf.SortM.Plain
import Derived.Shelf.SortM.SortNone
import Derived.Sort.OwnSortedInts
import Derived.Ground.SlgmProg

namespace Go.Proofs.Ytdhnfhhmacjajaa
open Go Go.RowKit Go.Maps Go.Am
set_option linter.unusedVariables false
set_option linter.unusedSimpArgs false

theorem LessR.off {W : List Int} {k0 code : Int} {T T1 C C1 : TbF} {c c1 : Nat} {mem mem1 : Nat → Int} (h : LessR W k0 code T T1 C C1 c c1 mem mem1) {k : Int} (hk : k ≠ k0) : T1 k = T k := by
  rw [h.ft]
  split
  · rfl
  · simp [delI, hk]

theorem LessR.in_ {W : List Int} {k0 code : Int} {T T1 C C1 : TbF} {c c1 : Nat} {mem mem1 : Nat → Int} (h : LessR W k0 code T T1 C C1 c c1 mem mem1) (hk : k0 ∈ W) : T1 = T ∧ c1 = c := by
  have h1 := h.ft
  have h2 := h.fn
  rw [if_pos hk] at h1 h2
  exact ⟨h1, h2⟩

theorem LessR.out {W : List Int} {k0 code : Int} {T T1 C C1 : TbF} {c c1 : Nat} {mem mem1 : Nat → Int} (h : LessR W k0 code T T1 C C1 c c1 mem mem1) (hk : k0 ∉ W) : T1 = delI T k0 ∧ c1 + (if (T k0).isSome then 1 else 0) = c := by
  have h1 := h.ft
  have h2 := h.fn
  rw [if_neg hk] at h1 h2
  exact ⟨h1, h2⟩

/-- One kind of tables, through 'less' and 'more': its numbers, and how many. -/
theorem key_step {fro : Int} {W K : List Int} {k0 code code' : Int} {T T1 T2 C C1 C2 C3 : TbF} {c c1 c2 c3 : Nat} {mem mem1 mem2 mem3 : Nat → Int} (h : LessR W k0 code T T1 C C1 c c1 mem mem1) (h3 : MoreR fro W k0 code' T1 T2 C2 C3 c2 c3 mem2 mem3)
    (hK : ∀ k, (T k).isSome = true ↔ k ∈ K) (hoff : ∀ x, x ≠ k0 → (x ∈ W ↔ x ∈ K)) (hnW : W.Nodup) (hnK : K.Nodup) :
    (∀ k, (T2 k).isSome = true ↔ k ∈ W) ∧ (∀ k, k ≠ k0 → T2 k = T k) ∧ ((∀ k f, T2 k = some f → T k = some f) ∧ mem3 = mem2 ∨ (T k0 = none ∧ k0 ∈ W ∧ ∃ f : Nat, T2 k0 = some (f : Int) ∧ ∀ k, k < 16 → wordF mem3 f k = 0)) ∧ c3 + c1 + K.length = c2 + c + W.length := by
  classical
  have hl := len_step hnK hnW hoff
  have hk0 := hK k0
  have hfn := h.fn
  rcases h3.way with ⟨hi, rfl, rfl, rfl, rfl⟩ | ⟨hi, hn, rfl, f, rfl, rfl, hz⟩
  · refine ⟨fun k => ?_, fun k hk => h.off hk, .inl ⟨fun k f hf => ?_, rfl⟩, ?_⟩
    · by_cases e : k = k0
      · subst e
        constructor
        · intro hs
          by_cases hw : k ∈ W
          · exact hw
          · rw [(h.out hw).1] at hs
            simp [delI] at hs
        · exact hi
      · rw [h.off e, hK, hoff k e]
    · by_cases hw : k0 ∈ W
      · rw [← (h.in_ hw).1]; exact hf
      · rw [(h.out hw).1] at hf
        unfold delI at hf
        split at hf
        · cases hf
        · exact hf
    · by_cases hw : k0 ∈ W
      · have := hi hw
        rw [(h.in_ hw).1] at this
        have hkk := hk0.1 this
        rw [if_pos hw] at hl hfn
        rw [if_pos hkk] at hl
        omega
      · rw [if_neg hw] at hl hfn
        by_cases hkk : k0 ∈ K
        · rw [if_pos hkk] at hl
          rw [if_pos (hk0.2 hkk)] at hfn
          omega
        · rw [if_neg hkk] at hl
          rw [if_neg (fun h2 => hkk (hk0.1 h2))] at hfn
          omega
  · have hin := h.in_ hi
    rw [hin.1] at hn
    have hkk : k0 ∉ K := fun h2 => by have := hk0.2 h2; rw [hn] at this; cases this
    refine ⟨fun k => ?_, fun k hk => by simp [putI, hk, h.off hk], .inr ⟨hn, hi, f, by simp [putI], hz⟩, ?_⟩
    · by_cases e : k = k0
      · subst e; simp [putI, hi]
      · have : putI T1 k0 f k = T1 k := by simp [putI, e]
        rw [this, h.off e, hK, hoff k e]
    · rw [if_pos hi, if_neg hkk] at hl
      rw [if_pos hi] at hfn
      omega

theorem less_comb_mid {W : List Int} {a0 : Int} {root : Nat} {MI MI1 EN C1 : TbF} {c c1 : Nat} {mem mem1 : Nat → Int} (h0 : 0 ≤ a0) (h1 : a0 < 1000) (h : LessR W a0 a0 MI MI1 (comb root MI EN) C1 c c1 mem mem1) : C1 = comb root MI1 EN := by
  rw [h.fc, h.ft]
  split
  · rfl
  · exact (comb_mid_del root MI EN h0 h1).symm

theorem less_comb_end {W : List Int} {g0 : Int} {root : Nat} {MI EN EN1 C1 : TbF} {c c1 : Nat} {mem mem1 : Nat → Int} (h0 : 0 ≤ g0) (h : LessR W g0 (1000 + g0) EN EN1 (comb root MI EN) C1 c c1 mem mem1) : C1 = comb root MI EN1 := by
  rw [h.fc, h.ft]
  split
  · rfl
  · exact (comb_end_del root MI EN h0).symm

theorem more_comb_mid {fro : Int} {W : List Int} {a0 : Int} {root : Nat} {MI MI1 EN C1 : TbF} {c c1 : Nat} {mem mem1 : Nat → Int} (h0 : 0 ≤ a0) (h1 : a0 < 1000) (h : MoreR fro W a0 a0 MI MI1 (comb root MI EN) C1 c c1 mem mem1) : C1 = comb root MI1 EN := by
  rcases h.way with ⟨_, rfl, rfl, _⟩ | ⟨_, _, _, f, rfl, rfl, _⟩
  · rfl
  · exact (comb_mid_put root MI EN h0 h1).symm

theorem more_comb_end {fro : Int} {W : List Int} {g0 : Int} {root : Nat} {MI EN EN1 C1 : TbF} {c c1 : Nat} {mem mem1 : Nat → Int} (h0 : 0 ≤ g0) (h : MoreR fro W g0 (1000 + g0) EN EN1 (comb root MI EN) C1 c c1 mem mem1) : C1 = comb root MI EN1 := by
  rcases h.way with ⟨_, rfl, rfl, _⟩ | ⟨_, _, _, f, rfl, rfl, _⟩
  · rfl
  · exact (comb_end_put root MI EN h0).symm

section
variable {fro : Int} {n root : Nat} {F F' : LfF} {MI EN MI1 EN1 MI2 EN2 C1 C2 C3 C4 : TbF} {c c1 c2 c3 c4 g0 : Nat} {mem mem1 mem2 mem3 mem4 : Nat → Int}

theorem turn_plain (hoff : SameOff F F' g0) (hg0 : g0 < 256)
    (hmk : ∀ a, (MI a).isSome = true ↔ a ∈ midsL F 256) (hek : ∀ g, (EN g).isSome = true ↔ g ∈ endsL F 256) (hc : c = 1 + (midsL F 256).length + (endsL F 256).length)
    (h1 : LessR (midsL F' 256) ((g0 : Int) / 16) ((g0 : Int) / 16) MI MI1 (comb root MI EN) C1 c c1 mem mem1)
    (h2 : LessR (endsL F' 256) g0 (1000 + (g0 : Int)) EN EN1 C1 C2 c1 c2 mem1 mem2)
    (h3 : MoreR fro (midsL F' 256) ((g0 : Int) / 16) ((g0 : Int) / 16) MI1 MI2 C2 C3 c2 c3 mem2 mem3)
    (h4 : MoreR fro (endsL F' 256) g0 (1000 + (g0 : Int)) EN1 EN2 C3 C4 c3 c4 mem3 mem4) :
    C4 = comb root MI2 EN2 ∧ (∀ a, (MI2 a).isSome = true ↔ a ∈ midsL F' 256) ∧ (∀ g, (EN2 g).isSome = true ↔ g ∈ endsL F' 256) ∧ c4 = 1 + (midsL F' 256).length + (endsL F' 256).length ∧ Kw mem mem4 root ∧
      (∀ a f, 0 ≤ a → a < 1000 → MI2 a = some f → (MI a = some f ∧ Kw mem mem4 f.toNat) ∨ (a = (g0 : Int) / 16 ∧ MI a = none ∧ ∀ k, k < 16 → wordF mem4 f.toNat k = 0)) ∧
      (∀ g f, 0 ≤ g → EN2 g = some f → (EN g = some f ∧ Kw mem mem4 f.toNat) ∨ (g = g0 ∧ EN g = none ∧ ∀ k, k < 16 → wordF mem4 f.toNat k = 0)) ∧
      (∀ g, g ≠ (g0 : Int) → EN2 g = EN g) ∧ (∀ a, a ≠ (g0 : Int) / 16 → MI2 a = MI a) := by
  have ha0 : 0 ≤ (g0 : Int) / 16 := by omega
  have ha1 : (g0 : Int) / 16 < 1000 := by omega
  have hgg : 0 ≤ (g0 : Int) := by omega
  have e1 := less_comb_mid ha0 ha1 h1
  subst e1
  have e2 := less_comb_end hgg h2
  subst e2
  have e3 := more_comb_mid ha0 ha1 h3
  subst e3
  have e4 := more_comb_end hgg h4
  obtain ⟨km1, km2, km3, km4⟩ := key_step h1 h3 hmk hoff.mids (nodup_midsL F' 256) (nodup_midsL F 256)
  obtain ⟨ke1, ke2, ke3, ke4⟩ := key_step h2 h4 hek hoff.ends (nodup_endsL F' 256) (nodup_endsL F 256)
  -- a frame of a table that stays
  have kwR : Kw mem mem4 root := by
    have r1 := h1.kw (-1) root (comb_root _ _ _)
    have r2 := h2.kw (-1) root (comb_root _ _ _)
    have r3 := h3.kw (-1) root (comb_root _ _ _)
    have r4 := h4.kw (-1) root (comb_root _ _ _)
    exact ((r1.trans r2).trans r3).trans r4
  have stayM : ∀ a f, 0 ≤ a → a < 1000 → MI1 a = some f → MI2 a = some f → Kw mem mem4 f.toNat := fun a f b0 b1 m1 m2 => by
    have r1 := h1.kw a f (by rw [comb_mid _ _ _ b0 b1]; exact m1)
    have r2 := h2.kw a f (by rw [comb_mid _ _ _ b0 b1]; exact m1)
    have r3 := h3.kw a f (by rw [comb_mid _ _ _ b0 b1]; exact m1)
    have r4 := h4.kw a f (by rw [comb_mid _ _ _ b0 b1]; exact m2)
    exact ((r1.trans r2).trans r3).trans r4
  have stayE : ∀ g f, 0 ≤ g → EN g = some f → EN1 g = some f → Kw mem mem4 f.toNat := fun g f b0 m0 m1 => by
    have r1 := h1.kw (1000 + g) f (by rw [comb_end _ _ _ b0]; exact m0)
    have r2 := h2.kw (1000 + g) f (by rw [comb_end _ _ _ b0]; exact m1)
    have r3 := h3.kw (1000 + g) f (by rw [comb_end _ _ _ b0]; exact m1)
    have r4 := h4.kw (1000 + g) f (by rw [comb_end _ _ _ b0]; exact m1)
    exact ((r1.trans r2).trans r3).trans r4
  refine ⟨e4, km1, ke1, by omega, kwR, fun a f b0 b1 hf => ?_, fun g f b0 hf => ?_, ke2, km2⟩
  · by_cases e : a = (g0 : Int) / 16
    · rcases h3.way with ⟨_, hT, _⟩ | ⟨hi, hn, _, f', hT, _, hz⟩
      · have m1 : MI1 a = some f := by rw [← hT]; exact hf
        have m0 : MI a = some f := by
          rw [h1.ft] at m1
          split at m1
          · exact m1
          · simp [delI, e] at m1
        exact .inl ⟨m0, stayM a f b0 b1 m1 hf⟩
      · rw [hT, e] at hf
        simp only [putI, if_true, Option.some.injEq] at hf
        refine .inr ⟨e, ?_, fun k hk => ?_⟩
        · rw [e, ← (h1.in_ hi).1]; exact hn
        · have r4 := h4.kw a f (by rw [comb_mid _ _ _ b0 b1, e, hT]; simp [putI, hf]) k hk
          rw [r4, ← hf]
          exact hz k hk
    · have m0 : MI a = some f := by rw [← km2 a e]; exact hf
      exact .inl ⟨m0, stayM a f b0 b1 (by rw [h1.off e]; exact m0) hf⟩
  · by_cases e : g = (g0 : Int)
    · rcases h4.way with ⟨_, hT, _⟩ | ⟨hi, hn, _, f', hT, _, hz⟩
      · have m1 : EN1 g = some f := by rw [← hT]; exact hf
        have m0 : EN g = some f := by
          rw [h2.ft] at m1
          split at m1
          · exact m1
          · simp [delI, e] at m1
        exact .inl ⟨m0, stayE g f b0 m0 m1⟩
      · rw [hT, e] at hf
        simp only [putI, if_true, Option.some.injEq] at hf
        refine .inr ⟨e, ?_, fun k hk => ?_⟩
        · rw [e, ← (h2.in_ hi).1]; exact hn
        · rw [← hf]; exact hz k hk
    · have m0 : EN g = some f := by rw [← ke2 g e]; exact hf
      exact .inl ⟨m0, stayE g f b0 m0 (by rw [h2.off e]; exact m0)⟩

/-- What must hold on the way. -/
theorem turn_way (hoff : SameOff F F' g0) (hg0 : g0 < 256)
    (hmk : ∀ a, (MI a).isSome = true ↔ a ∈ midsL F 256) (hek : ∀ g, (EN g).isSome = true ↔ g ∈ endsL F 256) (hc : c = 1 + (midsL F 256).length + (endsL F 256).length) (hroom : 1 + (midsL F' 256).length + (endsL F' 256).length ≤ n)
    (h1 : LessR (midsL F' 256) ((g0 : Int) / 16) ((g0 : Int) / 16) MI MI1 (comb root MI EN) C1 c c1 mem mem1)
    (h2 : LessR (endsL F' 256) g0 (1000 + (g0 : Int)) EN EN1 C1 C2 c1 c2 mem1 mem2) :
    (∀ k ∈ midsL F' 256, k ≠ (g0 : Int) / 16 → (MI1 k).isSome = true) ∧ C2 ((g0 : Int) / 16) = MI1 ((g0 : Int) / 16) ∧ ((g0 : Int) / 16 ∈ midsL F' 256 → MI1 ((g0 : Int) / 16) = none → c2 < n) ∧ (∀ k ∈ endsL F' 256, k ≠ (g0 : Int) → (EN1 k).isSome = true) := by
  classical
  have ha0 : 0 ≤ (g0 : Int) / 16 := by omega
  have ha1 : (g0 : Int) / 16 < 1000 := by omega
  have hgg : 0 ≤ (g0 : Int) := by omega
  have e1 := less_comb_mid ha0 ha1 h1
  subst e1
  have e2 := less_comb_end hgg h2
  subst e2
  have l1 := len_step (nodup_midsL F 256) (nodup_midsL F' 256) hoff.mids
  have l2 := len_step (nodup_endsL F 256) (nodup_endsL F' 256) hoff.ends
  refine ⟨fun k hk he => by rw [h1.off he, hmk, ← hoff.mids k he]; exact hk, comb_mid _ _ _ ha0 ha1, fun hi hn => ?_, fun k hk he => by rw [h2.off he, hek, ← hoff.ends k he]; exact hk⟩
  have f1 := h1.in_ hi
  rw [f1.1] at hn
  have hkk : (g0 : Int) / 16 ∉ midsL F 256 := fun h => by have := (hmk _).2 h; rw [hn] at this; cases this
  rw [if_pos hi, if_neg hkk] at l1
  have f2 := h2.fn
  have f3 := hek (g0 : Int)
  by_cases hw : (g0 : Int) ∈ endsL F' 256
  · rw [if_pos hw] at l2 f2
    split at l2 <;> omega
  · rw [if_neg hw] at l2 f2
    by_cases hk : (g0 : Int) ∈ endsL F 256
    · rw [if_pos hk] at l2
      rw [if_pos (f3.2 hk)] at f2
      omega
    · rw [if_neg hk] at l2
      rw [if_neg (fun h => hk (f3.1 h))] at f2
      omega

/-- And ahead of the last step. -/
theorem turn_way2 (hoff : SameOff F F' g0) (hg0 : g0 < 256)
    (hmk : ∀ a, (MI a).isSome = true ↔ a ∈ midsL F 256) (hek : ∀ g, (EN g).isSome = true ↔ g ∈ endsL F 256) (hc : c = 1 + (midsL F 256).length + (endsL F 256).length) (hroom : 1 + (midsL F' 256).length + (endsL F' 256).length ≤ n)
    (h1 : LessR (midsL F' 256) ((g0 : Int) / 16) ((g0 : Int) / 16) MI MI1 (comb root MI EN) C1 c c1 mem mem1)
    (h2 : LessR (endsL F' 256) g0 (1000 + (g0 : Int)) EN EN1 C1 C2 c1 c2 mem1 mem2)
    (h3 : MoreR fro (midsL F' 256) ((g0 : Int) / 16) ((g0 : Int) / 16) MI1 MI2 C2 C3 c2 c3 mem2 mem3) :
    C3 (1000 + (g0 : Int)) = EN1 g0 ∧ ((g0 : Int) ∈ endsL F' 256 → EN1 g0 = none → c3 < n) := by
  classical
  have ha0 : 0 ≤ (g0 : Int) / 16 := by omega
  have ha1 : (g0 : Int) / 16 < 1000 := by omega
  have hgg : 0 ≤ (g0 : Int) := by omega
  have e1 := less_comb_mid ha0 ha1 h1
  subst e1
  have e2 := less_comb_end hgg h2
  subst e2
  have e3 := more_comb_mid ha0 ha1 h3
  subst e3
  obtain ⟨km1, km2, km3, km4⟩ := key_step h1 h3 hmk hoff.mids (nodup_midsL F' 256) (nodup_midsL F 256)
  have l2 := len_step (nodup_endsL F 256) (nodup_endsL F' 256) hoff.ends
  refine ⟨comb_end _ _ _ hgg, fun hi hn => ?_⟩
  have f2 := h2.in_ hi
  rw [f2.1] at hn
  have hkk : (g0 : Int) ∉ endsL F 256 := fun h => by have := (hek _).2 h; rw [hn] at this; cases this
  rw [if_pos hi, if_neg hkk] at l2
  omega
end

end Go.Proofs.Ytdhnfhhmacjajaa


/-
  graft.turn: what the tables say behind it.
-/
namespace Go.Proofs.Ytdhnfhhmacjajaa
open Go Go.RowKit Go.Maps Go.Am
set_option linter.unusedVariables false
set_option linter.unusedSimpArgs false

/-- The number of the root's entry. -/
def rootN (MI : TbF) (a : Int) : Nat := match MI a with
  | some f => slotN 1 f.toNat 0
  | none => 0

/-- The tables say the map. -/
structure Says (mem : Nat → Int) (root : Nat) (F : LfF) (MI EN : TbF) : Prop where
  sr : ∀ a : Nat, a < 16 → wordF mem root a = rootN MI a
  sm : ∀ g : Nat, g < 256 → ∀ f, MI ((g : Int) / 16) = some f → wordF mem f.toNat (g % 16) = midN F EN g
  se : ∀ g : Nat, g < 256 → ∀ f, EN g = some f → ∀ c : Nat, c < 16 → wordF mem f.toNat c = leafN 2 F ((g : Int) * 16 + c)

theorem leafN_lt {F : LfF} (h : LfOk F) (k : Nat) (hk : k < 4) (x : Int) : leafN k F x < 18446744073709551616 := by
  unfold leafN
  cases hx : F x with
  | none => simp
  | some l =>
    have h1 := h.fr x l hx
    have h2 := h.pm x l hx
    simp only [slotN]
    omega

theorem wordF_endM {mem : Nat → Int} {F : LfF} (h : LfOk F) (g : Int) (e : Nat) (f' k' : Nat) (hk' : k' < 16) : ∀ j, j ≤ 16 → wordF (endM mem F g e j) f' k' = if f' = e ∧ k' < j then leafN 2 F (g * 16 + k') else wordF mem f' k'
  | 0, _ => by rw [if_neg (by omega)]; rfl
  | j + 1, hj => by
    show wordF (setW (endM mem F g e j) e j _) f' k' = _
    rw [wordF_set (by omega) (leafN_lt h 2 (by omega) _) f' k' hk', wordF_endM h g e f' k' hk' j (by omega)]
    by_cases e1 : f' = e
    · by_cases e2 : k' = j
      · subst e2; rw [if_pos ⟨e1, rfl⟩, if_pos ⟨e1, by omega⟩]
      · rw [if_neg (fun h => e2 h.2)]
        by_cases e3 : k' < j
        · rw [if_pos ⟨e1, e3⟩, if_pos ⟨e1, by omega⟩]
        · rw [if_neg (fun h => e3 h.2), if_neg (fun h => by omega)]
    · rw [if_neg (fun h => e1 h.1), if_neg (fun h => e1 h.1), if_neg (fun h => e1 h.1)]

/-- What is written of the turned group. -/
def wrE (mem : Nat → Int) (F : LfF) (EN : TbF) (g : Nat) : Nat → Int := match EN g with
  | some e => endM mem F g e.toNat 16
  | none => mem

def wrM (mem : Nat → Int) (F : LfF) (MI EN : TbF) (g : Nat) : Nat → Int := match MI ((g : Int) / 16) with
  | some m => setW mem m.toNat (g % 16) (midN F EN g)
  | none => mem

def wrR (mem : Nat → Int) (root : Nat) (MI : TbF) (g : Nat) : Nat → Int := setW mem root (g / 16) (rootN MI ((g : Int) / 16))

theorem turn_says {fro : Int} {n root g0 c : Nat} {tk : Nat → Bool} {ow : Int → Int} {F F' : LfF} {MI EN MI2 EN2 : TbF} {mem mem4 : Nat → Int} (hfro : 0 ≤ fro) (hfn : fro ≤ 240) (hn : n ≤ 240)
    (hoff : SameOff F F' g0) (hg0 : g0 < 256) (hF' : LfOk F') (hmk : ∀ a, (MI a).isSome = true ↔ a ∈ midsL F 256) (hek : ∀ g, (EN g).isSome = true ↔ g ∈ endsL F 256)
    (hmk2 : ∀ a, (MI2 a).isSome = true ↔ a ∈ midsL F' 256) (hek2 : ∀ g, (EN2 g).isSome = true ↔ g ∈ endsL F' 256)
    (hS : Says mem root F MI EN) (hG : GI fro n tk (comb root MI2 EN2) ow c)
    (hR : Kw mem mem4 root)
    (hM : ∀ a f, 0 ≤ a → a < 1000 → MI2 a = some f → (MI a = some f ∧ Kw mem mem4 f.toNat) ∨ (a = (g0 : Int) / 16 ∧ MI a = none ∧ ∀ k, k < 16 → wordF mem4 f.toNat k = 0))
    (hE : ∀ g f, 0 ≤ g → EN2 g = some f → (EN g = some f ∧ Kw mem mem4 f.toNat) ∨ (g = g0 ∧ EN g = none ∧ ∀ k, k < 16 → wordF mem4 f.toNat k = 0))
    (hEo : ∀ g, g ≠ (g0 : Int) → EN2 g = EN g) (hMo : ∀ a, a ≠ (g0 : Int) / 16 → MI2 a = MI a) :
    Says (wrR (wrM (wrE mem4 F' EN2 g0) F' MI2 EN2 g0) root MI2 g0) root F' MI2 EN2 := by
  have nn : ∀ x f, comb root MI2 EN2 x = some f → 0 ≤ f ∧ f ≤ 480 := fun x f h => by
    obtain ⟨i, hi, rfl, _⟩ := hG.fr x f h
    omega
  have cR : comb root MI2 EN2 (-1) = some (root : Int) := comb_root _ _ _
  have cM : ∀ a f, 0 ≤ a → a < 1000 → MI2 a = some f → comb root MI2 EN2 a = some f := fun a f b0 b1 h => by rw [comb_mid _ _ _ b0 b1]; exact h
  have cE : ∀ g f, 0 ≤ g → EN2 g = some f → comb root MI2 EN2 (1000 + g) = some f := fun g f b0 h => by rw [comb_end _ _ _ b0]; exact h
  have neq : ∀ x y f f', comb root MI2 EN2 x = some f → comb root MI2 EN2 y = some f' → x ≠ y → f.toNat ≠ f'.toNat := fun x y f f' h1 h2 hne e => by
    have n1 := nn x f h1
    have n2 := nn y f' h2
    have : f = f' := by omega
    subst this
    exact hne (hG.one h1 h2)
  have hrl : ∀ a, rootN MI2 a < 18446744073709551616 ∨ True := fun _ => .inr trivial
  have hrN : ∀ a, 0 ≤ a → a < 1000 → rootN MI2 a < 18446744073709551616 := fun a b0 b1 => by
    unfold rootN
    cases h : MI2 a with
    | none => simp
    | some f =>
      have := nn a f (cM a f b0 b1 h)
      simp only [slotN]
      omega
  have hmN : ∀ g : Int, 0 ≤ g → midN F' EN2 g < 18446744073709551616 := fun g b0 => by
    unfold midN
    cases h : EN2 g with
    | none => exact leafN_lt hF' 3 (by omega) _
    | some f =>
      have := nn (1000 + g) f (cE g f b0 h)
      simp only [slotN]
      omega
  -- one step back
  have back7 : ∀ m f k, k < 16 → wordF (wrR m root MI2 g0) f k = if f = root ∧ k = g0 / 16 then rootN MI2 ((g0 : Int) / 16) else wordF m f k := fun m f k hk =>
    wordF_set (by omega) (hrN _ (by omega) (by omega)) f k hk
  have back6 : ∀ m f k, k < 16 → (∀ q, MI2 ((g0 : Int) / 16) = some q → f ≠ q.toNat ∨ k ≠ g0 % 16) → wordF (wrM m F' MI2 EN2 g0) f k = wordF m f k := fun m f k hk h => by
    unfold wrM
    cases hq : MI2 ((g0 : Int) / 16) with
    | none => rfl
    | some q =>
      show wordF (setW m q.toNat (g0 % 16) _) f k = _
      rw [wordF_set (by omega) (hmN _ (by omega)) f k hk, if_neg (fun e => by rcases h q hq with h | h; exact h e.1; exact h e.2)]
  have back5 : ∀ m f k, k < 16 → (∀ q, EN2 (g0 : Int) = some q → f ≠ q.toNat) → wordF (wrE m F' EN2 g0) f k = wordF m f k := fun m f k hk h => by
    unfold wrE
    cases hq : EN2 (g0 : Int) with
    | none => rfl
    | some q =>
      show wordF (endM m F' g0 q.toNat 16) f k = _
      rw [wordF_endM hF' _ _ f k hk 16 (Nat.le_refl _), if_neg (fun e => h q hq e.1)]
  have leafS : ∀ (kk g c : Nat), g ≠ g0 → c < 16 → leafN kk F' ((g : Int) * 16 + c) = leafN kk F ((g : Int) * 16 + c) := fun kk g c hg hc => by
    unfold leafN
    rw [hoff.grp (g := g) (by omega) c hc]
  have midS : ∀ g : Nat, g ≠ g0 → midN F' EN2 g = midN F EN g := fun g hg => by
    unfold midN
    rw [hEo g (by omega)]
    have := leafS 3 g 0 hg (by omega)
    simp only [Int.ofNat_zero, Int.add_zero] at this
    cases EN (g : Int) with
    | some e => rfl
    | none => simpa using this
  refine ⟨fun a ha => ?_, fun g hg f hf => ?_, fun g hg f hf c hc => ?_⟩
  · rw [back7 _ _ _ ha]
    by_cases e : a = g0 / 16
    · rw [if_pos ⟨rfl, e⟩]
      subst e
      rfl
    · rw [if_neg (fun h => e h.2), back6 _ _ _ ha (fun q hq => .inl (by simpa using neq (-1) ((g0 : Int) / 16) root q cR (cM _ _ (by omega) (by omega) hq) (by omega))),
        back5 _ _ _ ha (fun q hq => by simpa using neq (-1) (1000 + (g0 : Int)) root q cR (cE _ _ (by omega) hq) (by omega)), hR a ha, hS.sr a ha]
      unfold rootN
      rw [hMo a (by omega)]
  · have hfc := cM ((g : Int) / 16) f (by omega) (by omega) hf
    rw [back7 _ _ _ (by omega), if_neg (fun h => neq ((g : Int) / 16) (-1) f root hfc cR (by omega) (by simpa using h.1))]
    by_cases e : g = g0
    · subst e
      unfold wrM
      rw [hf]
      show wordF (setW _ f.toNat (g % 16) _) f.toNat (g % 16) = _
      rw [wordF_set (by omega) (hmN _ (by omega)) _ _ (by omega), if_pos ⟨rfl, rfl⟩]
    · rw [back6 _ _ _ (by omega) (fun q hq => by
          by_cases e2 : g % 16 = g0 % 16
          · exact .inl (neq _ _ f q hfc (cM _ _ (by omega) (by omega) hq) (by omega))
          · exact .inr e2),
        back5 _ _ _ (by omega) (fun q hq => neq _ _ f q hfc (cE _ _ (by omega) hq) (by omega)), midS g e]
      rcases hM _ f (by omega) (by omega) hf with ⟨h1, h2⟩ | ⟨h1, h2, h3⟩
      · rw [h2 _ (by omega), hS.sm g hg f h1]
      · rw [h3 _ (by omega)]
        have hnot : anyG F (g : Int) 16 = false := by
          cases ha : anyG F (g : Int) 16 with
          | false => rfl
          | true =>
            have : (g : Int) / 16 ∈ midsL F 256 := (mem_midsL F _ 256).2 ⟨g, hg, rfl, ha⟩
            rw [← hmk, h2] at this
            cases this
        have hen : EN (g : Int) = none := by
          cases h : EN (g : Int) with
          | none => rfl
          | some q =>
            have : (g : Int) ∈ endsL F 256 := by rw [← hek, h]; rfl
            obtain ⟨g', hg', e', ha, _⟩ := (mem_endsL F _ 256).1 this
            rw [← e', hnot] at ha
            cases ha
        have hF0 : F ((g : Int) * 16) = none := by
          cases h : F ((g : Int) * 16) with
          | none => rfl
          | some l =>
            have := (anyG_iff F g 16).2 ⟨0, by omega, by simp [h]⟩
            rw [hnot] at this
            cases this
        unfold midN leafN
        rw [hen, hF0]
  · have hfc := cE (g : Int) f (by omega) hf
    rw [back7 _ _ _ hc, if_neg (fun h => neq (1000 + (g : Int)) (-1) f root hfc cR (by omega) (by simpa using h.1)),
      back6 _ _ _ hc (fun q hq => .inl (neq _ _ f q hfc (cM _ _ (by omega) (by omega) hq) (by omega)))]
    by_cases e : g = g0
    · subst e
      unfold wrE
      rw [hf]
      show wordF (endM _ F' g f.toNat 16) f.toNat c = _
      rw [wordF_endM hF' _ _ _ _ hc 16 (Nat.le_refl _), if_pos ⟨rfl, hc⟩]
    · rw [back5 _ _ _ hc (fun q hq => neq _ _ f q hfc (cE _ _ (by omega) hq) (by omega)), leafS 2 g c e hc]
      rcases hE (g : Int) f (by omega) hf with ⟨h1, h2⟩ | ⟨h1, h2, h3⟩
      · rw [h2 c hc, hS.se g hg f h1 c hc]
      · omega

end Go.Proofs.Ytdhnfhhmacjajaa


/-
  graft.turn: the walk.
-/
namespace Go.Proofs.Ytdhnfhhmacjajaa
open Go Go.RowKit Go.Maps Go.Am Go.Shelf
set_option linter.unusedVariables false
set_option linter.unusedSimpArgs false

section
variable {w w' : World} {t M L S Tk nf n root b bm be nh nt : Nat} {sec fro : Int} {mem mem' : Nat → Int} {tk tk' : Nat → Bool} {F : LfF} {MI EN : TbF}

theorem TreeAt.mids' (h : TreeAt w t M L S Tk nf sec mem fro n tk root b bm be nh nt F MI EN) {MI' : TbF} {nt' : Nat} (hg : GrowBut w w' [L, Tk, bm]) (hS : Store w' t M L S Tk nf sec mem' fro n tk') (hT : TabAt w' .i64 3 bm nt' (tabI MI')) (hn : nt ≤ nt') : TreeAt w' t M L S Tk nf sec mem' fro n tk' root b bm be nh nt' F MI' EN := by
  have hb := h.nb
  have hm := h.nbm
  have he := h.nbe
  have hmm := h.nmm
  have hL := h.st.neL
  have hK := h.st.neT
  have e1 : t ∉ [L, Tk, bm] := by simp [hL.1.symm, hK.1.symm, hm.1.symm]
  exact ⟨hS, hg.cell h.c2 e1, hg.cell h.c3 e1, hg.cell h.c4 e1, hg.cell h.c5 e1, hg.frozen (cell_ltG h.c3) h.f3 e1, h.have_.kept hg (by simp [hb.2.2.1, hb.2.2.2.2.1, hb.2.2.2.2.2.1]), hT, (h.ends.kept hg (by simp [he.2.2.1, he.2.2.2.2, hmm.symm])).mono hn, hb, hm, he, hmm, h.ok, h.rt, h.ntM⟩

theorem TreeAt.ends' (h : TreeAt w t M L S Tk nf sec mem fro n tk root b bm be nh nt F MI EN) {EN' : TbF} {nt' : Nat} (hg : GrowBut w w' [L, Tk, be]) (hS : Store w' t M L S Tk nf sec mem' fro n tk') (hT : TabAt w' .i64 3 be nt' (tabI EN')) (hn : nt ≤ nt') : TreeAt w' t M L S Tk nf sec mem' fro n tk' root b bm be nh nt' F MI EN' := by
  have hb := h.nb
  have hm := h.nbm
  have he := h.nbe
  have hmm := h.nmm
  have hL := h.st.neL
  have hK := h.st.neT
  have e1 : t ∉ [L, Tk, be] := by simp [hL.1.symm, hK.1.symm, he.1.symm]
  exact ⟨hS, hg.cell h.c2 e1, hg.cell h.c3 e1, hg.cell h.c4 e1, hg.cell h.c5 e1, hg.frozen (cell_ltG h.c3) h.f3 e1, h.have_.kept hg (by simp [hb.2.2.1, hb.2.2.2.2.1, hb.2.2.2.2.2.2]), (h.mids.kept hg (by simp [hm.2.2.1, hm.2.2.2.2, hmm])).mono hn, hT, hb, hm, he, hmm, h.ok, h.rt, h.ntM⟩

theorem TreeAt.setHave (h : TreeAt w t M L S Tk nf sec mem fro n tk root b bm be nh nt F MI EN) {F' : LfF} {b' nh' : Nat} (hT : TabAt w .i64 3 b' nh' (tabL F')) (hok : LfOk F') (hb' : b' ≠ t ∧ b' ≠ M ∧ b' ≠ L ∧ b' ≠ S ∧ b' ≠ Tk ∧ b' ≠ bm ∧ b' ≠ be) : TreeAt (w.setCell ⟨t, 3, none⟩ (.map (some b'))) t M L S Tk nf sec mem fro n tk root b' bm be nh' nt F' MI EN := by
  have htM := h.ntM
  have hg := GrowBut.setCell w ⟨t, 3, none⟩ (.map (some b'))
  have hb := h.nb
  have hm := h.nbm
  have he := h.nbe
  have hL := h.st.neL
  have hK := h.st.neT
  have hs : Store (w.setCell ⟨t, 3, none⟩ (.map (some b'))) t M L S Tk nf sec mem fro n tk :=
    ⟨cell_setO h.st.c0 (by decide), cell_setO h.st.c1 (by decide), h.st.ram.kept hg (by simp [htM.1.symm]) (by simp [hL.1]), h.st.stock.kept hg (by simp [htM.2.symm]) (by simp [hK.1]), h.st.fit, hL, hK⟩
  exact ⟨hs, cell_setO h.c2 (by decide), cell_setS h.c3, cell_setO h.c4 (by decide), cell_setO h.c5 (by decide), (by rw [frozen_set]; exact h.f3), hT.kept hg (by simp [hb'.1]), h.mids.kept hg (by simp [hm.1]), h.ends.kept hg (by simp [he.1]), hb', hm, he, h.nmm, hok, h.rt, h.ntM⟩
end

set_option maxRecDepth 100000 in
set_option maxHeartbeats 8000000 in
/-- There is no room. -/
theorem turnNo (t M L S Tk : Nat) (nf : Nat) (sec : Int) (mem : Nat → Int) (fro : Int) (n : Nat) (tk : Nat → Bool) (root b bm be nh nt : Nat) (F : LfF) (MI EN : TbF) (F' : LfF) (b' nh' : Nat) (p : Int) (w : World)
    (hT : TreeAt w t M L S Tk nf sec mem fro n tk root b bm be nh nt F MI EN) (hT' : TabAt w .i64 3 b' nh' (tabL F')) (hok : LfOk F')
    (hmk : ∀ a, (MI a).isSome = true ↔ a ∈ midsL F 256) (hek : ∀ g, (EN g).isSome = true ↔ g ∈ endsL F 256) (hc : cntB tk n = 1 + (midsL F 256).length + (endsL F 256).length) (hroom : n < 1 + (midsL F' 256).length + (endsL F' 256).length) :
    Calls Try.prog 32 #[.pointer (some ⟨t, 0, none⟩), .map (some b'), .int .i64 p] w fun e w' => e = .returned (.int .i64 (-3)) ∧ GrowBut w w' [] := by
  have hP := plan_all b' nh' F' w hT' hok
  have hl1 := midsL_len F' 256
  have hl2 := endsL_len F' 256
  have hl3 := midsL_len F 256
  have hl4 := endsL_len F 256
  have hsm := hT.st.stock.small
  have hcn := cntB_le tk n
  go_enter Try.func32, Try.ntmps32
  go_upto_region 2 with (first
    | (go_at_call 37; refine hP.mono ?_; rintro e w1 ⟨v2, v3, rfl, hrow2, hrow3, hap, hg1⟩)
    | fail)
  obtain ⟨s2, p2, rfl⟩ : ∃ s c, v2 = .slice s (midsL F' 256).length c := by
    rcases hrow2.2 with ⟨rfl, hz⟩ | ⟨g, cap, cur, rfl, _⟩
    · rw [hz]; exact ⟨_, _, rfl⟩
    · exact ⟨_, _, rfl⟩
  obtain ⟨s3, p3, rfl⟩ : ∃ s c, v3 = .slice s (endsL F' 256).length c := by
    rcases hrow3.2 with ⟨rfl, hz⟩ | ⟨g, cap, cur, rfl, _⟩
    · rw [hz]; exact ⟨_, _, rfl⟩
    · exact ⟨_, _, rfl⟩
  have hT1 := (hT.keep0 hg1).keep0 (GrowBut.drew w1 [])
  have k4 := hT1.c4
  have k5 := hT1.c5
  have k1 := hT1.st.c1
  have hlen4 := hT1.mids.len (t := 67) (e := 3) Try.underlying67 (nodup_midsL F 256) (fun x => by rw [(tabI_val _ _).2]; exact (hmk x).symm) 3
  have hlen5 := hT1.ends.len (t := 67) (e := 3) Try.underlying67 (nodup_endsL F 256) (fun x => by rw [(tabI_val _ _).2]; exact (hek x).symm) 3
  have hdl4 : ∀ w5, GrowBut w1.drew w5 [] → (Builtin.len_ #[67] 3 #[.map (some bm)]).run Try.prog w5 = .ok (.int .i64 (midsL F 256).length) w5 := fun w5 hg => (hT1.mids.kept hg (by simp)).len (t := 67) (e := 3) Try.underlying67 (nodup_midsL F 256) (fun x => by rw [(tabI_val _ _).2]; exact (hmk x).symm) 3
  have hdl5 : ∀ w5, GrowBut w1.drew w5 [] → (Builtin.len_ #[67] 3 #[.map (some be)]).run Try.prog w5 = .ok (.int .i64 (endsL F 256).length) w5 := fun w5 hg => (hT1.ends.kept hg (by simp)).len (t := 67) (e := 3) Try.underlying67 (nodup_endsL F 256) (fun x => by rw [(tabI_val _ _).2]; exact (hek x).symm) 3
  have hLf := stockLeft S Tk fro n tk w1.drew hT1.st.stock
  rw [hc] at hLf
  generalize hA : (midsL F' 256).length = lm' at hroom hl1 ⊢
  generalize hB : (endsL F' 256).length = le' at hroom hl2 ⊢
  generalize hCc : (midsL F 256).length = lm at hroom hl3 hlen4 hdl4 hLf hc ⊢
  generalize hDd : (endsL F 256).length = le at hroom hl4 hlen5 hdl5 hLf hc ⊢
  have hx1 := IntWalk.i64_in ((lm' : Int) + (le' : Int)) (by omega)
  have hx2 := IntWalk.i64_in ((lm : Int) + (le : Int)) (by omega)
  have hx3 := IntWalk.i64_in ((lm : Int) + (le : Int) + ((n : Int) - ((1 + lm + le : Nat) : Int))) (by omega)
  have hx4 : decide ((lm : Int) + (le : Int) + ((n : Int) - ((1 + lm + le : Nat) : Int)) < (lm' : Int) + (le' : Int)) = true := decide_eq_true (by omega)
  generalize hN : (n : Int) - ((1 + lm + le : Nat) : Int) = nn at hx3 hx4 hLf
  clear hmk hek hN hc hA hB hCc hDd hap hrow2 hrow3
  go_region_held3 (fun w' => w'.cell? ⟨t, 4, none⟩ = some (.map (some bm)) ∧ w'.cell? ⟨t, 5, none⟩ = some (.map (some be)) ∧ w'.cell? ⟨t, 1, none⟩ = some (.pointer (some ⟨S, 0, none⟩)) ∧
      (Builtin.len_ #[67] 3 #[.map (some bm)]).run Try.prog w' = .ok (.int .i64 lm) w' ∧ (Builtin.len_ #[67] 3 #[.map (some be)]).run Try.prog w' = .ok (.int .i64 le) w') (first | go_keep | (exact ⟨d4, d5, d1, dm, de⟩))
    (first
      | (go_at_call 24; refine hLf.mono ?_; rintro e w5 ⟨rfl, hg5⟩; have d4 := hg5.cell k4 (by simp); have d5 := hg5.cell k5 (by simp); have d1 := hg5.cell k1 (by simp); have dm := hdl4 w5 hg5; have de := hdl5 w5 hg5)
      | fail)
  go_wp2_with fail
  go_ret
  exact ⟨rfl, (hg1.trans (GrowBut.drew w1 [])).trans hg5⟩

theorem midsL_wf (F : LfF) : ∀ k ∈ midsL F 256, (Lit.int .i64 k).wf = true := fun k hk => by
  obtain ⟨g, hg, rfl, _⟩ := (mem_midsL F k 256).1 hk
  exact wfI (by omega) (by omega)

theorem endsL_wf (F : LfF) : ∀ k ∈ endsL F 256, (Lit.int .i64 k).wf = true := fun k hk => by
  obtain ⟨g, hg, rfl, _⟩ := (mem_endsL F k 256).1 hk
  exact wfI (by omega) (by omega)

/-- Out of the walk's sight. -/
def HideG (p : Prop) : Prop := p

theorem HideG.out {p : Prop} (h : HideG p) : p := h

set_option maxRecDepth 100000 in
set_option maxHeartbeats 16000000 in
/-- There is room. -/
theorem turnOk (t M L S Tk : Nat) (nf : Nat) (sec : Int) (mem : Nat → Int) (fro : Int) (n : Nat) (tk : Nat → Bool) (root b bm be nh nt : Nat) (F : LfF) (MI EN : TbF) (ow : Int → Int) (F' : LfF) (b' nh' : Nat) (p : Int) (g0 : Nat) (w : World)
    (hT : TreeAt w t M L S Tk nf sec mem fro n tk root b bm be nh nt F MI EN) (hT' : TabAt w .i64 3 b' nh' (tabL F')) (hok : LfOk F') (hb' : b' ≠ t ∧ b' ≠ M ∧ b' ≠ L ∧ b' ≠ S ∧ b' ≠ Tk ∧ b' ≠ bm ∧ b' ≠ be) (hnt : nt ≤ 50000)
    (hp : 0 ≤ p ∧ p < 4096) (hpg : p / 16 = (g0 : Int)) (hoff : SameOff F F' g0)
    (hmk : ∀ a, (MI a).isSome = true ↔ a ∈ midsL F 256) (hek : ∀ g, (EN g).isSome = true ↔ g ∈ endsL F 256) (hGI : GI fro n tk (comb root MI EN) ow (1 + (midsL F 256).length + (endsL F 256).length)) (hroom : 1 + (midsL F' 256).length + (endsL F' 256).length ≤ n) (hS : Says mem root F MI EN) :
    Calls Try.prog 32 #[.pointer (some ⟨t, 0, none⟩), .map (some b'), .int .i64 p] w fun e w' => e = .returned (.int .i64 0) ∧ ∃ mem' tk' MI' EN' ow', TreeAt w' t M L S Tk nf sec mem' fro n tk' root b' bm be nh' (nt + 2) F' MI' EN' ∧
      (∀ a, (MI' a).isSome = true ↔ a ∈ midsL F' 256) ∧ (∀ g, (EN' g).isSome = true ↔ g ∈ endsL F' 256) ∧ GI fro n tk' (comb root MI' EN') ow' (1 + (midsL F' 256).length + (endsL F' 256).length) ∧ Says mem' root F' MI' EN' ∧ GrowBut w w' [t, L, Tk, bm, be] := by
  have hg0 : g0 < 256 := by omega
  have hc := hGI.cnt
  have hP := plan_all b' nh' F' w hT' hok
  have hl1 := midsL_len F' 256
  have hl2 := endsL_len F' 256
  have hl3 := midsL_len F 256
  have hl4 := endsL_len F 256
  have hsm := hT.st.stock.small
  have hcn := cntB_le tk n
  go_enter Try.func32, Try.ntmps32
  go_upto_region 2 with (first
    | (go_at_call 37; refine hP.mono ?_; rintro e w1 ⟨v2, v3, rfl, hrow2, hrow3, hap, hg1⟩)
    | fail)
  obtain ⟨s2, p2, rfl⟩ : ∃ s c, v2 = .slice s (midsL F' 256).length c := by
    rcases hrow2.2 with ⟨rfl, hz⟩ | ⟨g, cap, cur, rfl, _⟩
    · rw [hz]; exact ⟨_, _, rfl⟩
    · exact ⟨_, _, rfl⟩
  obtain ⟨s3, p3, rfl⟩ : ∃ s c, v3 = .slice s (endsL F' 256).length c := by
    rcases hrow3.2 with ⟨rfl, hz⟩ | ⟨g, cap, cur, rfl, _⟩
    · rw [hz]; exact ⟨_, _, rfl⟩
    · exact ⟨_, _, rfl⟩
  have hT1 := (hT.keep0 hg1).keep0 (GrowBut.drew w1 [])
  have k4 := hT1.c4
  have k5 := hT1.c5
  have k1 := hT1.st.c1
  have hlen4 := hT1.mids.len (t := 67) (e := 3) Try.underlying67 (nodup_midsL F 256) (fun x => by rw [(tabI_val _ _).2]; exact (hmk x).symm) 3
  have hlen5 := hT1.ends.len (t := 67) (e := 3) Try.underlying67 (nodup_endsL F 256) (fun x => by rw [(tabI_val _ _).2]; exact (hek x).symm) 3
  have hdl4 : ∀ w5, GrowBut w1.drew w5 [] → (Builtin.len_ #[67] 3 #[.map (some bm)]).run Try.prog w5 = .ok (.int .i64 (midsL F 256).length) w5 := fun w5 hg => (hT1.mids.kept hg (by simp)).len (t := 67) (e := 3) Try.underlying67 (nodup_midsL F 256) (fun x => by rw [(tabI_val _ _).2]; exact (hmk x).symm) 3
  have hdl5 : ∀ w5, GrowBut w1.drew w5 [] → (Builtin.len_ #[67] 3 #[.map (some be)]).run Try.prog w5 = .ok (.int .i64 (endsL F 256).length) w5 := fun w5 hg => (hT1.ends.kept hg (by simp)).len (t := 67) (e := 3) Try.underlying67 (nodup_endsL F 256) (fun x => by rw [(tabI_val _ _).2]; exact (hek x).symm) 3
  have hLf := stockLeft S Tk fro n tk w1.drew hT1.st.stock
  rw [hc] at hLf
  generalize hA : (midsL F' 256).length = lm' at hroom hl1 ⊢
  generalize hB : (endsL F' 256).length = le' at hroom hl2 ⊢
  generalize hCc : (midsL F 256).length = lm at hroom hl3 hlen4 hdl4 hLf hc ⊢
  generalize hDd : (endsL F 256).length = le at hroom hl4 hlen5 hdl5 hLf hc ⊢
  have hx1 := IntWalk.i64_in ((lm' : Int) + (le' : Int)) (by omega)
  have hx2 := IntWalk.i64_in ((lm : Int) + (le : Int)) (by omega)
  have hx3 := IntWalk.i64_in ((lm : Int) + (le : Int) + ((n : Int) - ((1 + lm + le : Nat) : Int))) (by omega)
  have hx4 : decide ((lm : Int) + (le : Int) + ((n : Int) - ((1 + lm + le : Nat) : Int)) < (lm' : Int) + (le' : Int)) = false := decide_eq_false (by omega)
  generalize hN : (n : Int) - ((1 + lm + le : Nat) : Int) = nn at hx3 hx4 hLf
  have HK : HideG ((∀ a, (MI a).isSome = true ↔ a ∈ midsL F 256) ∧ (∀ g, (EN g).isSome = true ↔ g ∈ endsL F 256) ∧ n = n) := ⟨hmk, hek, rfl⟩
  have HL : HideG ((midsL F' 256).length = lm' ∧ (endsL F' 256).length = le' ∧ (midsL F 256).length = lm ∧ (endsL F 256).length = le) := ⟨hA, hB, hCc, hDd⟩
  clear hmk hek hN hA hB hCc hDd hc
  go_region_held3 (fun w' => w'.cell? ⟨t, 4, none⟩ = some (.map (some bm)) ∧ w'.cell? ⟨t, 5, none⟩ = some (.map (some be)) ∧ w'.cell? ⟨t, 1, none⟩ = some (.pointer (some ⟨S, 0, none⟩)) ∧
      (Builtin.len_ #[67] 3 #[.map (some bm)]).run Try.prog w' = .ok (.int .i64 lm) w' ∧ (Builtin.len_ #[67] 3 #[.map (some be)]).run Try.prog w' = .ok (.int .i64 le) w') (first | go_keep | (exact ⟨d4, d5, d1, dm, de⟩))
    (first
      | (go_at_call 24; refine hLf.mono ?_; rintro e w5 ⟨rfl, hg5⟩; have d4 := hg5.cell k4 (by simp); have d5 := hg5.cell k5 (by simp); have d1 := hg5.cell k1 (by simp); have dm := hdl4 w5 hg5; have de := hdl5 w5 hg5)
      | fail)
  obtain ⟨rfl, rfl, rfl, rfl⟩ := HL.out
  have hT5 := hT1.keep0 hg5
  have hg15 := (hg1.trans (GrowBut.drew w1 [])).trans hg5
  have hT5' := hT'.kept hg15 (by simp)
  have hT6 := hT5.setHave hT5' hok hb'
  have hg56 := GrowBut.setCell w5 ⟨t, 3, none⟩ (.map (some b'))
  have k3 := hT5.c3
  have kf := hT5.f3
  have htl : t < w.heap.size := cell_ltG hT.c3
  have hlow2 : ∀ j, (Value.slice s2 (midsL F' 256).length p2).ownBlock = some j → w.heap.size ≤ j := fun j hj => (hrow2.lt j hj).1
  have hlow3 : ∀ j, (Value.slice s3 (endsL F' 256).length p3).ownBlock = some j → w.heap.size ≤ j := fun j hj => (hrow3.lt j hj).1
  have hrow26 := hg56.row ((((GrowBut.drew w1 []).trans hg5)).row hrow2 (fun j _ => by simp)) (fun j hj => by have := hlow2 j hj; simp; omega)
  have hrow36 := hg56.row ((((GrowBut.drew w1 []).trans hg5)).row hrow3 (fun j _ => by simp)) (fun j hj => by have := hlow3 j hj; simp; omega)
  clear hlen4 hdl4 hlen5 hdl5 hx1 hx2 hx3 hLf dm de d1 d4 d5 k1 k4 k5 hP hrow2 hrow3 hap hT1
  go_upto_region 5 with fail
  have hgw6 := (hg15.mono (l' := [t]) (by simp)).trans hg56
  generalize w5.setCell ⟨t, 3, none⟩ (.map (some b')) = w6 at hT6 hgw6 hrow26 hrow36 ⊢
  have e64 := hT6.c4
  have hltM := hT.st.ram.lt
  have hltS := hT.st.stock.lt
  have hltm := hT.mids.blt
  have hlte := hT.ends.blt
  have hgg : 0 ≤ (g0 : Int) := by omega
  have ha0 : 0 ≤ (g0 : Int) / 16 := by omega
  have ha1 : (g0 : Int) / 16 < 1000 := by omega
  have hLM := lessAny t M L S Tk nf sec mem fro n tk bm nt MI (comb root MI EN) ow _ _ _ (midsL F' 256) ((g0 : Int) / 16) ((g0 : Int) / 16) w6 hT6.st hT6.mids hrow26 (midsL_len F' 256)
    (fun k f hk hf => (hoff.mids k hk).2 ((HK.out.1 k).1 (by rw [hf]; rfl))) hGI (comb_mid _ _ _ ha0 ha1) hT6.nbm (fun j hj => by have := hlow2 j hj; exact ⟨by omega, by omega, by omega⟩)
  clear hT hT5 hT5' hT' hx4 hg5 hg56 k3 kf hcn hl1 hl2 hl3 hl4 hGI
  clear HL
  go_upto_region 9 with (first
    | (go_at_call 44; refine hLM.mono ?_; clear hLM; rintro e w7 ⟨rfl, mem1, tk1, MI1, C1, c1, hS7, hTm7, hg7, hGI7, hR7⟩; have hT7 := hT6.mids' hg7 hS7 hTm7 (Nat.le_refl _); have e75 := hT7.c5; have hrow27 := hg7.row hrow26 (fun j hj => by have := hlow2 j hj; simp; omega); have hrow37 := hg7.row hrow36 (fun j hj => by have := hlow3 j hj; simp; omega); have hC1 : C1 (1000 + (g0 : Int)) = EN g0 := (by rw [less_comb_mid ha0 ha1 hR7]; exact comb_end _ _ _ hgg); have hLE := lessAny t M L S Tk nf sec mem1 fro n tk1 be nt EN C1 ow c1 _ _ (endsL F' 256) g0 (1000 + (g0 : Int)) w7 hT7.st hT7.ends hrow37 (endsL_len F' 256) (fun k f hk hf => (hoff.ends k hk).2 ((HK.out.2.1 k).1 (by rw [hf]; rfl))) hGI7 hC1 hT7.nbe (fun j hj => by have := hlow3 j hj; exact ⟨by omega, by omega, by omega⟩))
    | (go_at_call 44; refine hLE.mono ?_; clear hLE; rintro e w8 ⟨rfl, mem2, tk2, EN1, C2, c2, hS8, hTe8, hg8, hGI8, hR8⟩; have hT8 := hT7.ends' hg8 hS8 hTe8 (Nat.le_refl _); have e84 := hT8.c4; have hrow28 := hg8.row hrow27 (fun j hj => by have := hlow2 j hj; simp; omega); have hrow38 := hg8.row hrow37 (fun j hj => by have := hlow3 j hj; simp; omega); obtain ⟨q1, q2, q3, q4⟩ := turn_way hoff hg0 HK.out.1 HK.out.2.1 rfl hroom hR7 hR8; have hMM := moreAny t M L S Tk nf sec mem2 fro n tk2 bm nt MI1 C2 ow c2 _ (midsL F' 256) ((g0 : Int) / 16) ((g0 : Int) / 16) w8 hT8.st hT8.mids (by omega) (rowW_of hrow28) (midsL_len F' 256) (midsL_wf F') q1 hGI8 q2 q3 hT8.nbm (fun j hj => by have := hlow2 j hj; exact ⟨by omega, by omega, by omega⟩))
    | (go_at_call 45; refine hMM.mono ?_; clear hMM; rintro e w9 ⟨rfl, mem3, tk3, MI2, C3, ow3, c3, hS9, hTm9, hg9, hGI9, hR9⟩; have hT9 := hT8.mids' hg9 hS9 hTm9 (Nat.le_succ _); have e95 := hT9.c5; have hrow39 := hg9.row hrow38 (fun j hj => by have := hlow3 j hj; simp; omega); obtain ⟨q5, q6⟩ := turn_way2 hoff hg0 HK.out.1 HK.out.2.1 rfl hroom hR7 hR8 hR9; have hME := moreAny t M L S Tk nf sec mem3 fro n tk3 be (nt + 1) EN1 C3 ow3 c3 _ (endsL F' 256) g0 (1000 + (g0 : Int)) w9 hT9.st hT9.ends (by omega) (rowW_of hrow39) (endsL_len F' 256) (endsL_wf F') q4 hGI9 q5 q6 hT9.nbe (fun j hj => by have := hlow3 j hj; exact ⟨by omega, by omega, by omega⟩))
    | (go_at_call 45; refine hME.mono ?_; clear hME; rintro e wa ⟨rfl, mem4, tk4, EN2, C4, ow4, c4, hSa, hTea, hga, hGIa, hRa⟩; have hTa := hT9.ends' hga hSa hTea (Nat.le_succ _))
    | fail)
  obtain ⟨z1, z2, z3, z4, z5, z6, z7, z8, z9⟩ := turn_plain hoff hg0 HK.out.1 HK.out.2.1 rfl hR7 hR8 hR9 hRa
  have hG4 : GI fro n tk4 (comb root MI2 EN2) ow4 (1 + (midsL F' 256).length + (endsL F' 256).length) := by rw [← z1, ← z4]; exact hGIa
  have hSay := turn_says hsm.2.1 hsm.2.2 hsm.1 hoff hg0 hok HK.out.1 HK.out.2.1 z2 z3 hS hG4 z5 z6 z7 z8 z9
  have hgw : GrowBut w wa [t, L, Tk, bm, be] := ((((hgw6.mono (by simp)).trans (hg7.mono (by simp))).trans (hg8.mono (by simp))).trans (hg9.mono (by simp))).trans (hga.mono (by simp))
  have hfit := hTa.st.fit
  have hnf := hTa.st.ram.small
  have frE : ∀ q, EN2 (g0 : Int) = some q → 0 ≤ q ∧ q < 240 ∧ q.toNat < nf := fun q hq => by
    obtain ⟨i, hi, rfl, _⟩ := hG4.fr (1000 + (g0 : Int)) q (by rw [comb_end _ _ _ hgg]; exact hq)
    omega
  have frM : ∀ q, MI2 ((g0 : Int) / 16) = some q → 0 ≤ q ∧ q < 240 ∧ q.toNat < nf := fun q hq => by
    obtain ⟨i, hi, rfl, _⟩ := hG4.fr ((g0 : Int) / 16) q (by rw [comb_mid _ _ _ ha0 ha1]; exact hq)
    omega
  have hEM : MI2 ((g0 : Int) / 16) = none → EN2 (g0 : Int) = none := fun h => by
    cases hq : EN2 (g0 : Int) with
    | none => rfl
    | some q =>
      have : (g0 : Int) ∈ endsL F' 256 := by rw [← z3, hq]; rfl
      obtain ⟨g', hg', e', ha, _⟩ := (mem_endsL F' _ 256).1 this
      have : (g0 : Int) / 16 ∈ midsL F' 256 := (mem_midsL F' _ 256).2 ⟨g', hg', by rw [e'], ha⟩
      rw [← z2, h] at this
      cases this
  have hend : ∀ wz, TreeAt wz t M L S Tk nf sec (wrR (wrM (wrE mem4 F' EN2 g0) F' MI2 EN2 g0) root MI2 g0) fro n tk4 root b' bm be nh' (nt + 2) F' MI2 EN2 → GrowBut w wz [t, L, Tk, bm, be] →
      ∃ mem' tk' MI' EN' ow', TreeAt wz t M L S Tk nf sec mem' fro n tk' root b' bm be nh' (nt + 2) F' MI' EN' ∧
      (∀ a, (MI' a).isSome = true ↔ a ∈ midsL F' 256) ∧ (∀ g, (EN' g).isSome = true ↔ g ∈ endsL F' 256) ∧ GI fro n tk' (comb root MI' EN') ow' (1 + (midsL F' 256).length + (endsL F' 256).length) ∧ Says mem' root F' MI' EN' ∧ GrowBut w wz [t, L, Tk, bm, be] :=
    fun wz h1 h2 => ⟨_, _, _, _, _, h1, z2, z3, hG4, hSay, h2⟩
  clear z1 z2 z3 z4 z5 z6 z7 z8 z9 hG4 hSay hS HK hT6 hT7 hT8 hT9 hgw6 hg7 hg8 hg9 hga hrow26 hrow27 hrow28 hrow36 hrow37 hrow38 hrow39 hlow2 hlow3 hR7 hR8 hR9 hRa hGI7 hGI8 hGI9 hGIa hS7 hS8 hS9 hSa hTm7 hTm9 hTe8 hTea e64 e75 e84 e95 hC1 q1 q2 q3 q4 q5 q6 hoff hroom
  have u5 := hTa.c5
  have hlkE := hTa.ends.look_ok (t := 67) (e := 3) keyI3 Try.underlying3 Try.underlying67 (zeroI3 _) (x := (g0 : Int)) (wfI (by omega) (by omega))
  rw [(tabI_val _ _).1, (tabI_val _ _).2] at hlkE
  have hlkM : ∀ (wz : World), TabAt wz .i64 3 bm (nt + 2) (tabI MI2) → (Instr.lookup 67 (.map (some bm)) (.int .i64 ((g0 : Int) / 16)) true).run Try.prog wz = .ok (.tuple #[.int .i64 ((MI2 ((g0 : Int) / 16)).getD 0), .bool (MI2 ((g0 : Int) / 16)).isSome]) wz := fun wz hz => by
    have := hz.look_ok (t := 67) (e := 3) keyI3 Try.underlying3 Try.underlying67 (zeroI3 _) (x := (g0 : Int) / 16) (wfI (by omega) (by omega))
    rw [(tabI_val _ _).1, (tabI_val _ _).2] at this
    exact this
  cases hM : MI2 ((g0 : Int) / 16) with
  | some m =>
    obtain ⟨m0, m1, m2⟩ := frM m hM
    obtain ⟨mN, rfl⟩ : ∃ mN : Nat, m = mN := ⟨m.toNat, by omega⟩
    have hrv : rootN MI2 ((g0 : Int) / 16) = slotN 1 mN 0 := by unfold rootN; rw [hM]; simp
    have hmN : mN < nf := by simpa using m2
    cases hE : EN2 (g0 : Int) with
    | some e =>
      obtain ⟨n0, n1, n2⟩ := frE e hE
      obtain ⟨eN, rfl⟩ : ∃ eN : Nat, e = eN := ⟨e.toNat, by omega⟩
      have hwE : wrE mem4 F' EN2 g0 = endM mem4 F' g0 eN 16 := by unfold wrE; rw [hE]; simp
      have hEC := endG t M L S Tk nf sec mem4 fro n tk4 root b' bm be nh' (nt + 2) F' MI2 EN2 g0 eN wa hTa (by omega) (by omega) hE (by simpa using n2)
      rw [← hwE] at hEC
      rw [hE] at hlkE
      simp only [Option.getD_some, Option.isSome_some] at hlkE
      have hfr2 : ∀ q, EN2 (g0 : Int) = some q → 0 ≤ q ∧ q < 240 := fun q hq => ⟨(frE q hq).1, (frE q hq).2.1⟩
      have hwM : ∀ mm, wrM mm F' MI2 EN2 g0 = setW mm mN (g0 % 16) (midN F' EN2 g0) := fun mm => by unfold wrM; rw [hM]; simp
      rw [hM] at hlkM
      simp only [Option.getD_some, Option.isSome_some] at hlkM
      clear hwE hE frE frM
      go_upto_region 14 with (first
        | (go_at_call 46; refine hEC.mono ?_; rintro e' wb ⟨rfl, hTb, hgb⟩; have hMC := midSome t M L S Tk nf sec _ fro n tk4 root b' bm be nh' (nt + 2) F' MI2 EN2 g0 mN wb hTb hg0 hM hmN hfr2)
        | (go_at_call 47; refine hMC.mono ?_; rintro e' wc ⟨rfl, hTc, hgc'⟩)
        | fail)
      rw [← hwM] at hTc
      have hgc : GrowBut w wc [t, L, Tk, bm, be] := (hgw.trans (hgb.mono (by simp))).trans (hgc'.mono (by simp))
      have v4 := hTc.c4
      have hlk := hlkM _ (hTc.mids.kept (GrowBut.alloc wc (.cells #[.int .i64 0, .int .i64 0, .int .i64 0] 86) []) (by simp))
      clear hlkE hlkM hEC hMC hTa hTb u5 hM hwM
      have hbc : t < wc.heap.size := cell_ltG hTc.c3
      go_upto_region 18 with go_in
      have hga2 := (GrowBut.alloc (wc) (.cells #[.int .i64 1, .int .i64 mN, .int .i64 0] 86) []).trans (GrowBut.drew _ [])
      have hTd := hTc.keep0 hga2
      have x2 := hTd.c2
      have y0 : ((wc).alloc (.cells #[.int .i64 1, .int .i64 mN, .int .i64 0] 86)).drew.cell? ⟨(wc).heap.size, 0, none⟩ = some (.int .i64 1) := by go_simp
      have y1 : ((wc).alloc (.cells #[.int .i64 1, .int .i64 mN, .int .i64 0] 86)).drew.cell? ⟨(wc).heap.size, 1, none⟩ = some (.int .i64 mN) := by go_simp
      have y2 : ((wc).alloc (.cells #[.int .i64 1, .int .i64 mN, .int .i64 0] 86)).drew.cell? ⟨(wc).heap.size, 2, none⟩ = some (.int .i64 0) := by go_simp
      have hP := putG t M L S Tk nf sec _ fro n tk4 root (g0 / 16) 1 mN 0 _ hTd.st hTd.rt (by omega) (.inr (.inl ⟨rfl, by omega, rfl⟩))
      have hfin : ∀ wz, Store wz t M L S Tk nf sec (setW _ root (g0 / 16) (slotN 1 mN 0)) fro n tk4 → GrowBut ((wc).alloc (.cells #[.int .i64 1, .int .i64 mN, .int .i64 0] 86)).drew wz [L] → _ := fun wz h9 g9 => hend wz (by show TreeAt wz t M L S Tk nf sec (setW _ root (g0 / 16) (rootN MI2 ((g0 : Int) / 16))) fro n tk4 root b' bm be nh' (nt + 2) F' MI2 EN2; rw [hrv]; exact hTd.ram' g9 h9) (hgc.trans ((hga2.mono (by simp)).trans (g9.mono (by simp))))
      generalize (wc).alloc (.cells #[.int .i64 1, .int .i64 mN, .int .i64 0] 86) = wy at *
      go_still_tail 8, (by kernel_rfl)
      change wpList _ _ _ _ _ wy.drew
      go_wp2_with (first
        | (go_at_call 48; refine hP.mono ?_; rintro e' w9 ⟨rfl, h9, g9⟩)
        | fail)
      go_ret
      exact ⟨rfl, hfin _ h9 g9⟩
    | none =>
      have hwE : wrE mem4 F' EN2 g0 = mem4 := by unfold wrE; rw [hE]
      rw [hE] at hlkE
      simp only [Option.getD_none, Option.isSome_none] at hlkE
      have hfr2 : ∀ q, EN2 (g0 : Int) = some q → 0 ≤ q ∧ q < 240 := fun q hq => ⟨(frE q hq).1, (frE q hq).2.1⟩
      have hwM : ∀ mm, wrM mm F' MI2 EN2 g0 = setW mm mN (g0 % 16) (midN F' EN2 g0) := fun mm => by unfold wrM; rw [hM]; simp
      rw [hM] at hlkM
      simp only [Option.getD_some, Option.isSome_some] at hlkM
      have hMC := midSome t M L S Tk nf sec _ fro n tk4 root b' bm be nh' (nt + 2) F' MI2 EN2 g0 mN wa hTa hg0 hM hmN hfr2
      rw [← hwE, ← hwM, hwE] at hMC
      rw [hwE] at hend
      clear hwE hE frE frM
      go_upto_region 14 with (first
        | (go_at_call 47; refine hMC.mono ?_; rintro e' wc ⟨rfl, hTc, hgc'⟩)
        | fail)
      have hgc : GrowBut w wc [t, L, Tk, bm, be] := hgw.trans (hgc'.mono (by simp))
      have v4 := hTc.c4
      have hlk := hlkM _ (hTc.mids.kept (GrowBut.alloc wc (.cells #[.int .i64 0, .int .i64 0, .int .i64 0] 86) []) (by simp))
      clear hlkE hlkM hMC hTa u5 hM hwM
      have hbc : t < wc.heap.size := cell_ltG hTc.c3
      go_upto_region 18 with go_in
      have hga2 := (GrowBut.alloc (wc) (.cells #[.int .i64 1, .int .i64 mN, .int .i64 0] 86) []).trans (GrowBut.drew _ [])
      have hTd := hTc.keep0 hga2
      have x2 := hTd.c2
      have y0 : ((wc).alloc (.cells #[.int .i64 1, .int .i64 mN, .int .i64 0] 86)).drew.cell? ⟨(wc).heap.size, 0, none⟩ = some (.int .i64 1) := by go_simp
      have y1 : ((wc).alloc (.cells #[.int .i64 1, .int .i64 mN, .int .i64 0] 86)).drew.cell? ⟨(wc).heap.size, 1, none⟩ = some (.int .i64 mN) := by go_simp
      have y2 : ((wc).alloc (.cells #[.int .i64 1, .int .i64 mN, .int .i64 0] 86)).drew.cell? ⟨(wc).heap.size, 2, none⟩ = some (.int .i64 0) := by go_simp
      have hP := putG t M L S Tk nf sec _ fro n tk4 root (g0 / 16) 1 mN 0 _ hTd.st hTd.rt (by omega) (.inr (.inl ⟨rfl, by omega, rfl⟩))
      have hfin : ∀ wz, Store wz t M L S Tk nf sec (setW _ root (g0 / 16) (slotN 1 mN 0)) fro n tk4 → GrowBut ((wc).alloc (.cells #[.int .i64 1, .int .i64 mN, .int .i64 0] 86)).drew wz [L] → _ := fun wz h9 g9 => hend wz (by show TreeAt wz t M L S Tk nf sec (setW _ root (g0 / 16) (rootN MI2 ((g0 : Int) / 16))) fro n tk4 root b' bm be nh' (nt + 2) F' MI2 EN2; rw [hrv]; exact hTd.ram' g9 h9) (hgc.trans ((hga2.mono (by simp)).trans (g9.mono (by simp))))
      generalize (wc).alloc (.cells #[.int .i64 1, .int .i64 mN, .int .i64 0] 86) = wy at *
      go_still_tail 8, (by kernel_rfl)
      change wpList _ _ _ _ _ wy.drew
      go_wp2_with (first
        | (go_at_call 48; refine hP.mono ?_; rintro e' w9 ⟨rfl, h9, g9⟩)
        | fail)
      go_ret
      exact ⟨rfl, hfin _ h9 g9⟩
  | none =>
    have hE := hEM hM
    have hwE : wrE mem4 F' EN2 g0 = mem4 := by unfold wrE; rw [hE]
    rw [hE] at hlkE
    simp only [Option.getD_none, Option.isSome_none] at hlkE
    have hwM : ∀ mm, wrM mm F' MI2 EN2 g0 = mm := fun mm => by unfold wrM; rw [hM]
    rw [hM] at hlkM
    simp only [Option.getD_none, Option.isSome_none] at hlkM
    have hMC := midNone t M L S Tk nf sec _ fro n tk4 root b' bm be nh' (nt + 2) F' MI2 EN2 g0 wa hTa hg0 hM
    have hrv : rootN MI2 ((g0 : Int) / 16) = slotN 0 0 0 := by unfold rootN; rw [hM]; rfl
    rw [hwE, hwM] at hend
    clear hwE hE frE frM
    go_upto_region 14 with (first
      | (go_at_call 47; refine hMC.mono ?_; rintro e' wa ⟨rfl, hww⟩; rw [hww]; clear hww wa)
      | fail)
    have hgc := hgw
    have hTc := hTa
    have v4 := hTc.c4
    have hlk := hlkM _ (hTc.mids.kept (GrowBut.alloc wa (.cells #[.int .i64 0, .int .i64 0, .int .i64 0] 86) []) (by simp))
    clear hlkE hlkM hMC hTa u5 hM hwM
    have hbc : t < wa.heap.size := cell_ltG hTc.c3
    go_upto_region 18 with go_in
    have hga2 := (GrowBut.alloc (wa) (.cells #[.int .i64 0, .int .i64 0, .int .i64 0] 86) []).trans (GrowBut.drew _ [])
    have hTd := hTc.keep0 hga2
    have x2 := hTd.c2
    have y0 : ((wa).alloc (.cells #[.int .i64 0, .int .i64 0, .int .i64 0] 86)).drew.cell? ⟨(wa).heap.size, 0, none⟩ = some (.int .i64 0) := by go_simp
    have y1 : ((wa).alloc (.cells #[.int .i64 0, .int .i64 0, .int .i64 0] 86)).drew.cell? ⟨(wa).heap.size, 1, none⟩ = some (.int .i64 0) := by go_simp
    have y2 : ((wa).alloc (.cells #[.int .i64 0, .int .i64 0, .int .i64 0] 86)).drew.cell? ⟨(wa).heap.size, 2, none⟩ = some (.int .i64 0) := by go_simp
    have hP := putG t M L S Tk nf sec _ fro n tk4 root (g0 / 16) 0 0 0 _ hTd.st hTd.rt (by omega) (.inl ⟨rfl, rfl, rfl⟩)
    have hfin : ∀ wz, Store wz t M L S Tk nf sec (setW _ root (g0 / 16) (slotN 0 0 0)) fro n tk4 → GrowBut ((wa).alloc (.cells #[.int .i64 0, .int .i64 0, .int .i64 0] 86)).drew wz [L] → _ := fun wz h9 g9 => hend wz (by show TreeAt wz t M L S Tk nf sec (setW _ root (g0 / 16) (rootN MI2 ((g0 : Int) / 16))) fro n tk4 root b' bm be nh' (nt + 2) F' MI2 EN2; rw [hrv]; exact hTd.ram' g9 h9) (hgc.trans ((hga2.mono (by simp)).trans (g9.mono (by simp))))
    generalize (wa).alloc (.cells #[.int .i64 0, .int .i64 0, .int .i64 0] 86) = wy at *
    go_still_tail 8, (by kernel_rfl)
    change wpList _ _ _ _ _ wy.drew
    go_wp2_with (first
      | (go_at_call 48; refine hP.mono ?_; rintro e' w9 ⟨rfl, h9, g9⟩)
      | fail)
    go_ret
    exact ⟨rfl, hfin _ h9 g9⟩

end Go.Proofs.Ytdhnfhhmacjajaa


/-
  graft: Set, Cut, Get, Root, of a tree whose tables say its map.
-/
namespace Go.Proofs.Ytdhnfhhmacjajaa
open Go Go.RowKit Go.Maps Go.Am Go.Shelf
set_option linter.unusedVariables false
set_option linter.unusedSimpArgs false

/-- Where a tree and its frames lie. -/
structure GA where
  t : Nat
  M : Nat
  L : Nat
  S : Nat
  Tk : Nat
  nf : Nat
  sec : Int
  fro : Int
  n : Nat
  root : Nat
  bm : Nat
  be : Nat

/-- The blocks that a deed on a tree turns. -/
def GA.bl (A : GA) : List Nat := [A.t, A.L, A.Tk, A.bm, A.be]

/-- All of a tree's blocks but the map's. -/
def GA.all (A : GA) : List Nat := [A.t, A.M, A.L, A.S, A.Tk, A.bm, A.be]

/-- How many tables a map's tree has. -/
def tabsN (F : LfF) : Nat := 1 + (midsL F 256).length + (endsL F 256).length

/-- A tree is at A and says F; the blocks X are others'; k deeds at most were done. -/
structure GrAt (w : World) (A : GA) (X : List Nat) (k : Nat) (F : LfF) : Prop where
  low : ∀ x ∈ X, x < w.heap.size
  tree : ∃ (mem : Nat → Int) (tk : Nat → Bool) (b nh nt : Nat) (MI EN : TbF) (ow : Int → Int), TreeAt w A.t A.M A.L A.S A.Tk A.nf A.sec mem A.fro A.n tk A.root b A.bm A.be nh nt F MI EN ∧ (∀ a, (MI a).isSome = true ↔ a ∈ midsL F 256) ∧ (∀ g, (EN g).isSome = true ↔ g ∈ endsL F 256) ∧
    GI A.fro A.n tk (comb A.root MI EN) ow (tabsN F) ∧ Says mem A.root F MI EN ∧ b ∉ X ∧ nh ≤ k ∧ nt ≤ 2 * k

theorem GrAt.kept {w w' : World} {A : GA} {X : List Nat} {k : Nat} {F : LfF} {l : List Nat} (h : GrAt w A X k F) (hg : GrowBut w w' l) (hl : ∀ x ∈ l, x ∈ X) (ha : ∀ x ∈ A.all, x ∉ l) : GrAt w' A X k F := by
  obtain ⟨mem, tk, b, nh, nt, MI, EN, ow, hT, h1, h2, h3, h4, h5, h6, h7⟩ := h.tree
  simp only [GA.all, List.mem_cons, List.not_mem_nil, or_false, forall_eq_or_imp, forall_eq] at ha
  obtain ⟨a1, a2, a3, a4, a5, a6, a7⟩ := ha
  exact ⟨fun x hx => Nat.lt_of_lt_of_le (h.low x hx) hg.size, mem, tk, b, nh, nt, MI, EN, ow, hT.kept hg a1 a2 a3 a4 a5 (fun hb => h5 (hl b hb)) a6 a7, h1, h2, h3, h4, h5, h6, h7⟩

theorem GrAt.keep0 {w w' : World} {A : GA} {X : List Nat} {k : Nat} {F : LfF} (h : GrAt w A X k F) (hg : GrowBut w w' []) : GrAt w' A X k F :=
  h.kept hg (fun x hx => absurd hx (by simp)) (fun x _ => by simp)

theorem GrAt.mono {w : World} {A : GA} {X : List Nat} {k k' : Nat} {F : LfF} (h : GrAt w A X k F) (hk : k ≤ k') : GrAt w A X k' F := by
  obtain ⟨mem, tk, b, nh, nt, MI, EN, ow, hT, h1, h2, h3, h4, h5, h6, h7⟩ := h.tree
  exact ⟨h.low, mem, tk, b, nh, nt, MI, EN, ow, hT, h1, h2, h3, h4, h5, by omega, by omega⟩

theorem GrAt.ok {w : World} {A : GA} {X : List Nat} {k : Nat} {F : LfF} (h : GrAt w A X k F) : LfOk F := by
  obtain ⟨mem, tk, b, nh, nt, MI, EN, ow, hT, _⟩ := h.tree
  exact hT.ok

theorem GrAt.lt {w : World} {A : GA} {X : List Nat} {k : Nat} {F : LfF} (h : GrAt w A X k F) : ∀ x ∈ A.all, x < w.heap.size := by
  obtain ⟨mem, tk, b, nh, nt, MI, EN, ow, hT, _⟩ := h.tree
  have h1 : A.t < w.heap.size := cell_ltG hT.c3
  have h2 := hT.st.ram.lt
  have h3 := hT.st.stock.lt
  have h4 := hT.mids.blt
  have h5 := hT.ends.blt
  intro x hx
  simp only [GA.all, List.mem_cons, List.not_mem_nil, or_false] at hx
  rcases hx with rfl | rfl | rfl | rfl | rfl | rfl | rfl
  · exact h1
  · exact h2.1
  · exact h2.2
  · exact h3.1
  · exact h3.2
  · exact h4
  · exact h5

theorem GrAt.room {w : World} {A : GA} {X : List Nat} {k : Nat} {F : LfF} (h : GrAt w A X k F) : tabsN F ≤ A.n := by
  obtain ⟨mem, tk, b, nh, nt, MI, EN, ow, hT, h1, h2, h3, _⟩ := h.tree
  have := h3.cnt
  have := cntB_le tk A.n
  omega

/-- A leaf that may be, at a page that is there. -/
def MayL (p : Int) (l : Int × Int) : Prop := 0 ≤ p ∧ p < 4096 ∧ 0 ≤ l.1 ∧ l.1 < 240 ∧ 1 ≤ l.2 ∧ l.2 ≤ 7

instance (p : Int) (l : Int × Int) : Decidable (MayL p l) := by unfold MayL; infer_instance

theorem LfOk.put {F : LfF} (h : LfOk F) {p : Int} {l : Int × Int} (hm : MayL p l) : LfOk (putL F p l) := by
  obtain ⟨m1, m2, m3, m4, m5, m6⟩ := hm
  refine ⟨fun k v hk => ?_, fun k v hk => ?_, fun k v hk => ?_⟩ <;> unfold putL at hk <;> split at hk
  · omega
  · exact h.rng k v hk
  · cases hk; exact ⟨m3, m4⟩
  · exact h.fr k v hk
  · cases hk; exact ⟨m5, m6⟩
  · exact h.pm k v hk

theorem LfOk.del {F : LfF} (h : LfOk F) (p : Int) : LfOk (delL F p) := by
  refine ⟨fun k v hk => ?_, fun k v hk => ?_, fun k v hk => ?_⟩ <;> unfold delL at hk <;> split at hk <;> first | (cases hk; done) | skip
  · exact h.rng k v hk
  · exact h.fr k v hk
  · exact h.pm k v hk

theorem sameOff_put (F : LfF) (p : Int) (l : Int × Int) (g0 : Int) (h : p / 16 = g0) : SameOff F (putL F p l) g0 := fun k hk => by
  unfold putL; rw [if_neg (fun e => hk (by rw [e]; exact h))]

theorem sameOff_del (F : LfF) (p : Int) (g0 : Int) (h : p / 16 = g0) : SameOff F (delL F p) g0 := fun k hk => by
  unfold delL; rw [if_neg (fun e => hk (by rw [e]; exact h))]

/-- A map in the place of another one, if there is room. -/
def orL (n : Nat) (F F' : LfF) : LfF := if tabsN F' ≤ n then F' else F

def orE (n : Nat) (F' : LfF) : Int := if tabsN F' ≤ n then 0 else -3

set_option maxHeartbeats 2000000 in
theorem turn_any (A : GA) (X : List Nat) (k : Nat) (F F' : LfF) (b' nh' : Nat) (p : Int) (w : World) (h : GrAt w A X k F) (hk : k ≤ 10000)
    (hT' : TabAt w .i64 3 b' nh' (tabL F')) (hok : LfOk F') (hb1 : b' ∉ A.all) (hb2 : b' ∉ X) (hn' : nh' ≤ k + 1) (hp : 0 ≤ p ∧ p < 4096) (hoff : SameOff F F' (p / 16)) :
    Calls Try.prog 32 #[.pointer (some ⟨A.t, 0, none⟩), .map (some b'), .int .i64 p] w fun e w' => e = .returned (.int .i64 (orE A.n F')) ∧ GrAt w' A X (k + 1) (orL A.n F F') ∧ GrowBut w w' A.bl := by
  have hlow := h.low
  obtain ⟨mem, tk, b, nh, nt, MI, EN, ow, hT, h1, h2, h3, h4, h5, h6, h7⟩ := h.tree
  obtain ⟨g0, hg⟩ : ∃ g0 : Nat, p / 16 = (g0 : Int) := ⟨(p / 16).toNat, by omega⟩
  unfold orL orE
  by_cases hr : tabsN F' ≤ A.n
  · rw [if_pos hr, if_pos hr]
    simp only [GA.all, List.mem_cons, List.not_mem_nil, or_false, not_or] at hb1
    obtain ⟨q1, q2, q3, q4, q5, q6, q7⟩ := hb1
    refine (turnOk A.t A.M A.L A.S A.Tk A.nf A.sec mem A.fro A.n tk A.root b A.bm A.be nh nt F MI EN ow F' b' nh' p g0 w hT hT' hok ⟨q1, q2, q3, q4, q5, q6, q7⟩ (by omega) hp hg (hg ▸ hoff) h1 h2 h3 hr h4).mono ?_
    rintro e w' ⟨rfl, mem', tk', MI', EN', ow', r1, r2, r3, r4, r5, r6⟩
    exact ⟨rfl, ⟨fun x hx => Nat.lt_of_lt_of_le (hlow x hx) r6.size, mem', tk', b', nh', nt + 2, MI', EN', ow', r1, r2, r3, r4, r5, hb2, hn', by omega⟩, r6⟩
  · rw [if_neg hr, if_neg hr]
    refine (turnNo A.t A.M A.L A.S A.Tk A.nf A.sec mem A.fro A.n tk A.root b A.bm A.be nh nt F MI EN F' b' nh' p w hT hT' hok h1 h2 h3.cnt (by unfold tabsN at hr; omega)).mono ?_
    rintro e w' ⟨rfl, r6⟩
    exact ⟨rfl, (h.keep0 r6).mono (by omega), r6.mono (by simp)⟩

set_option maxRecDepth 100000 in
set_option maxHeartbeats 2000000 in
theorem knownG (p : Int) (w : World) : Calls Try.prog 30 #[.int .i64 p] w fun e w' => e = .returned (.bool (decide (0 ≤ p) && decide (p < 4096))) ∧ w' = w := by
  cases h1 : decide (0 ≤ p)
  · go_enter Try.func30, Try.ntmps30
    go_wp2_with fail
    go_ret
    exact ⟨rfl, rfl⟩
  · cases h2 : decide (p < 4096)
    · go_enter Try.func30, Try.ntmps30
      go_wp2_with fail
      go_ret
      exact ⟨rfl, rfl⟩
    · go_enter Try.func30, Try.ntmps30
      go_wp2_with fail
      go_ret
      exact ⟨rfl, rfl⟩

set_option maxRecDepth 100000 in
set_option maxHeartbeats 8000000 in
theorem setG (A : GA) (X : List Nat) (k : Nat) (F : LfF) (p : Int) (l : Int × Int) (w : World) (h : GrAt w A X k F) (hk : k ≤ 10000) (hm : MayL p l) :
    Calls Try.prog 16 #[.pointer (some ⟨A.t, 0, none⟩), .int .i64 p, leafV l] w fun e w' => e = .returned (.int .i64 (orE A.n (putL F p l))) ∧ GrAt w' A X (k + 1) (orL A.n F (putL F p l)) ∧ GrowBut w w' A.bl := by
  have hK := fun w1 => knownG p w1
  have hm' := hm
  obtain ⟨m1, m2, m3, m4, m5, m6⟩ := hm
  rw [decide_eq_true m1, decide_eq_true m2] at hK
  simp only [Bool.and_true] at hK
  obtain ⟨mem, tk, b, nh, nt, MI, EN, ow, hT, h1, h2, h3, h4, h5, h6, h7⟩ := h.tree
  have hlts := h.lt
  have hlow := h.low
  obtain ⟨l1, l2⟩ := l
  have d1 : decide (l2 < 1) = false := decide_eq_false (by simp only at m5; omega)
  have d2 : decide (7 < l2) = false := decide_eq_false (by simp only at m6; omega)
  have d3 : decide (l1 < 0) = false := decide_eq_false (by simp only at m3; omega)
  have d4 : decide (240 ≤ l1) = false := decide_eq_false (by simp only at m4; omega)
  have hoff := sameOff_put F p (l1, l2) (p / 16) rfl
  have hok := h.ok.put hm'
  have hput := tabL_put F p (l1, l2)
  generalize hFe : putL F p (l1, l2) = F' at hoff hok hput ⊢
  have hGa := GrowBut.alloc w (.cells #[.int .i64 l1, .int .i64 l2] 39) []
  have hTw := twin_calls b nh F _ (hT.have_.kept hGa (by simp)) (by omega)
  have c3 := hT.c3
  have htl : A.t < w.heap.size := cell_ltG c3
  have hwf : (Lit.int .i64 p).wf = true := wfI (by omega) (by omega)
  unfold leafV at hput ⊢
  simp only at m3 m4 m5 m6 hput ⊢
  have HH : HideG (GrAt w A X k F) := h
  clear hT h1 h2 h3 h4 h hm' hFe
  go_enter Try.func16, Try.ntmps16
  go_wp2_with (first
    | (go_at_call 30; refine (hK _).mono ?_; rintro e w1 ⟨rfl, hww⟩; rw [hww]; clear hww w1)
    | (go_at_call 31; refine hTw.mono ?_; rintro e w2 ⟨b', rfl, hb', hT2, hg2⟩; have k0 := hg2.cell (a := ⟨w.heap.size, 0, none⟩) (v := .int .i64 l1) (by go_simp) (by simp); have k1 := hg2.cell (a := ⟨w.heap.size, 1, none⟩) (v := .int .i64 l2) (by go_simp) (by simp); simp only [World.size_alloc] at hb')
    | (at_mapUpdate; refine wpList_putT rfl _ _ _ 66 rfl hT2 keyI3 Try.underlying3 Try.underlying66 (by omega) rfl p (.agg #[.int .i64 l1, .int .i64 l2]) rfl rfl hwf ?_; intro w3 hT3 hg3; rw [hput] at hT3; have hg03 : GrowBut w w3 [] := (hGa.trans hg2).from hg3 (fun x hx => .inr (by simp at hx; omega)); have hTu := turn_any A X k F F' b' (nh + 1) p w3 (HH.out.keep0 hg03) hk hT3 hok (fun hx => by have := hlts _ hx; omega) (fun hx => by have := hlow _ hx; omega) (by omega) ⟨m1, m2⟩ hoff)
    | (go_at_call 32; refine hTu.mono ?_; rintro e w4 ⟨rfl, hG4, hg4⟩)
    | go_in)
  go_ret
  exact ⟨rfl, hG4, (hg03.mono (by simp)).trans hg4⟩

end Go.Proofs.Ytdhnfhhmacjajaa


/-
  graft: Set refused, Cut, Get, Root.
-/
namespace Go.Proofs.Ytdhnfhhmacjajaa
open Go Go.RowKit Go.Maps Go.Am Go.Shelf
set_option linter.unusedVariables false
set_option linter.unusedSimpArgs false

set_option maxRecDepth 100000 in
set_option maxHeartbeats 8000000 in
theorem setNo (t : Nat) (p : Int) (l : Int × Int) (w : World) (hm : ¬ MayL p l) :
    Calls Try.prog 16 #[.pointer (some ⟨t, 0, none⟩), .int .i64 p, leafV l] w fun e w' => e = .returned (.int .i64 (-2)) ∧ GrowBut w w' [] := by
  have hK := fun w1 => knownG p w1
  obtain ⟨l1, l2⟩ := l
  unfold MayL at hm
  simp only at hm
  unfold leafV
  simp only
  have hGa := GrowBut.alloc w (.cells #[.int .i64 l1, .int .i64 l2] 39) []
  cases hk : (decide (0 ≤ p) && decide (p < 4096)) with
  | false =>
    rw [hk] at hK
    clear hm hk
    go_enter Try.func16, Try.ntmps16
    go_wp2_with (first
      | (go_at_call 30; refine (hK _).mono ?_; rintro e w1 ⟨rfl, hww⟩; rw [hww]; clear hww w1)
      | go_in)
    go_ret
    exact ⟨rfl, hGa⟩
  | true =>
    rw [hk] at hK
    simp only [Bool.and_eq_true, decide_eq_true_eq] at hk
    cases d1 : decide (l2 < 1) with
    | true =>
      clear hm hk
      go_enter Try.func16, Try.ntmps16
      go_wp2_with (first
        | (go_at_call 30; refine (hK _).mono ?_; rintro e w1 ⟨rfl, hww⟩; rw [hww]; clear hww w1)
        | go_in)
      go_ret
      exact ⟨rfl, hGa⟩
    | false =>
      cases d2 : decide (7 < l2) with
      | true =>
        clear hm hk
        go_enter Try.func16, Try.ntmps16
        go_wp2_with (first
          | (go_at_call 30; refine (hK _).mono ?_; rintro e w1 ⟨rfl, hww⟩; rw [hww]; clear hww w1)
          | go_in)
        go_ret
        exact ⟨rfl, hGa⟩
      | false =>
        cases d3 : decide (l1 < 0) with
        | true =>
          clear hm hk
          go_enter Try.func16, Try.ntmps16
          go_wp2_with (first
            | (go_at_call 30; refine (hK _).mono ?_; rintro e w1 ⟨rfl, hww⟩; rw [hww]; clear hww w1)
            | go_in)
          go_ret
          exact ⟨rfl, hGa⟩
        | false =>
          have d4 : decide (240 ≤ l1) = true := decide_eq_true (by
            simp only [decide_eq_false_iff_not] at d1 d2 d3
            omega)
          clear hm hk
          go_enter Try.func16, Try.ntmps16
          go_wp2_with (first
            | (go_at_call 30; refine (hK _).mono ?_; rintro e w1 ⟨rfl, hww⟩; rw [hww]; clear hww w1)
            | go_in)
          go_ret
          exact ⟨rfl, hGa⟩

set_option maxRecDepth 100000 in
set_option maxHeartbeats 8000000 in
theorem cutNo (t : Nat) (p : Int) (w : World) (hm : ¬ (0 ≤ p ∧ p < 4096)) :
    Calls Try.prog 14 #[.pointer (some ⟨t, 0, none⟩), .int .i64 p] w fun e w' => e = .returned (.int .i64 (-2)) ∧ w' = w := by
  have hK := fun w1 => knownG p w1
  have hk : (decide (0 ≤ p) && decide (p < 4096)) = false := by
    cases h : (decide (0 ≤ p) && decide (p < 4096)) with
    | false => rfl
    | true => simp only [Bool.and_eq_true, decide_eq_true_eq] at h; exact absurd h hm
  rw [hk] at hK
  clear hm hk
  go_enter Try.func14, Try.ntmps14
  go_wp2_with (first
    | (go_at_call 30; refine (hK _).mono ?_; rintro e w1 ⟨rfl, hww⟩; rw [hww]; clear hww w1)
    | go_in)
  go_ret
  exact ⟨rfl, rfl⟩

/-- What Cut tells. -/
def cutE (n : Nat) (F : LfF) (p : Int) : Int := if (F p).isSome then orE n (delL F p) else -9

def cutF (n : Nat) (F : LfF) (p : Int) : LfF := if (F p).isSome then orL n F (delL F p) else F

set_option maxRecDepth 100000 in
set_option maxHeartbeats 8000000 in
theorem cutG (A : GA) (X : List Nat) (k : Nat) (F : LfF) (p : Int) (w : World) (h : GrAt w A X k F) (hk : k ≤ 10000) (hp : 0 ≤ p ∧ p < 4096) :
    Calls Try.prog 14 #[.pointer (some ⟨A.t, 0, none⟩), .int .i64 p] w fun e w' => e = .returned (.int .i64 (cutE A.n F p)) ∧ GrAt w' A X (k + 1) (cutF A.n F p) ∧ GrowBut w w' A.bl := by
  have hK := fun w1 => knownG p w1
  rw [decide_eq_true hp.1, decide_eq_true hp.2] at hK
  simp only [Bool.and_true] at hK
  obtain ⟨mem, tk, b, nh, nt, MI, EN, ow, hT, h1, h2, h3, h4, h5, h6, h7⟩ := h.tree
  have hlts := h.lt
  have hlow := h.low
  have c3 := hT.c3
  have htl : A.t < w.heap.size := cell_ltG c3
  have hwf : (Lit.int .i64 p).wf = true := wfI (by omega) (by omega)
  have hlk := hT.have_.look_ok (t := 66) (e := 39) keyI3 Try.underlying3 Try.underlying66 (zeroLf _) hwf
  rw [(tabL_val _ _).1, (tabL_val _ _).2] at hlk
  unfold cutE cutF
  cases hF : F p with
  | none =>
    rw [hF] at hlk
    simp only [Option.getD_none, Option.isSome_none, Bool.false_eq_true, if_false] at hlk ⊢
    unfold leafV at hlk
    simp only at hlk
    have HH : HideG (GrAt w A X k F) := h
    clear hT h1 h2 h3 h4 h hF
    go_enter Try.func14, Try.ntmps14
    go_wp2_with (first
      | (go_at_call 30; refine (hK _).mono ?_; rintro e w1 ⟨rfl, hww⟩; rw [hww]; clear hww w1)
      | go_in)
    go_ret
    exact ⟨rfl, (HH.out.keep0 (GrowBut.alloc _ _ _)).mono (by omega), (GrowBut.alloc _ _ _)⟩
  | some l =>
    rw [hF] at hlk
    simp only [Option.getD_some, Option.isSome_some, if_true] at hlk ⊢
    obtain ⟨l1, l2⟩ := l
    unfold leafV at hlk
    simp only at hlk
    have hGa := GrowBut.alloc w (.cells #[.int .i64 l1, .int .i64 l2] 39) []
    have hTw := twin_calls b nh F _ (hT.have_.kept hGa (by simp)) (by omega)
    have hoff := sameOff_del F p (p / 16) rfl
    have hok := h.ok.del p
    have hdel := tabL_del F p
    have HH : HideG (GrAt w A X k F) := h
    generalize hFe : delL F p = F' at hoff hok hdel ⊢
    clear hT h1 h2 h3 h4 h hF hFe
    go_enter Try.func14, Try.ntmps14
    go_wp2_with (first
      | (go_at_call 30; refine (hK _).mono ?_; rintro e w1 ⟨rfl, hww⟩; rw [hww]; clear hww w1)
      | (go_at_call 31; refine hTw.mono ?_; rintro e w2 ⟨b', rfl, hb', hT2, hg2⟩; simp only [World.size_alloc] at hb')
      | (at_delete; refine wpList_delT rfl _ _ 66 3 rfl hT2 keyI3 Try.underlying3 Try.underlying66 rfl p rfl hwf ?_; intro w3 hT3 hg3; rw [hdel] at hT3; have hg03 : GrowBut w w3 [] := (hGa.trans hg2).from hg3 (fun x hx => .inr (by simp at hx; omega)); have hTu := turn_any A X k F F' b' nh p w3 (HH.out.keep0 hg03) hk hT3 hok (fun hx => by have := hlts _ hx; omega) (fun hx => by have := hlow _ hx; omega) (by omega) hp hoff)
      | (go_at_call 32; refine hTu.mono ?_; rintro e w4 ⟨rfl, hG4, hg4⟩)
      | go_in)
    go_ret
    exact ⟨rfl, hG4, (hg03.mono (by simp)).trans hg4⟩

set_option maxRecDepth 100000 in
set_option maxHeartbeats 8000000 in
theorem getG (A : GA) (X : List Nat) (k : Nat) (F : LfF) (p : Int) (w : World) (h : GrAt w A X k F) (hp : (Lit.int .i64 p).wf = true) :
    Calls Try.prog 25 #[.pointer (some ⟨A.t, 0, none⟩), .int .i64 p] w fun e w' => e = .returned (.tuple #[leafV ((F p).getD (0, 0)), .bool (F p).isSome]) ∧ GrowBut w w' [] := by
  obtain ⟨mem, tk, b, nh, nt, MI, EN, ow, hT, h1, h2, h3, h4, h5, h6, h7⟩ := h.tree
  have hGa := GrowBut.alloc w (.cells #[.int .i64 0, .int .i64 0] 39) []
  have hT2 := hT.keep0 hGa
  have c3 := hT2.c3
  have htl : A.t < w.heap.size := cell_ltG hT.c3
  have hlk := hT2.have_.look_ok (t := 66) (e := 39) keyI3 Try.underlying3 Try.underlying66 (zeroLf _) hp
  rw [(tabL_val _ _).1, (tabL_val _ _).2] at hlk
  generalize (F p).getD (0, 0) = l at hlk ⊢
  generalize (F p).isSome = is at hlk ⊢
  obtain ⟨l1, l2⟩ := l
  unfold leafV at hlk ⊢
  simp only at hlk ⊢
  clear hT hT2 h1 h2 h3 h4 h
  go_enter Try.func25, Try.ntmps25
  go_wp2_with go_in
  refine bodyPost_ret_by (v := .tuple #[.agg #[.int .i64 l1, .int .i64 l2], .bool is]) ?_ rfl ?_
  · simp only [results, Try.f25]; go_simp
  · exact ⟨rfl, (GrowBut.alloc _ _ _).trans (GrowBut.alloc _ _ _)⟩

set_option maxRecDepth 100000 in
set_option maxHeartbeats 2000000 in
theorem rootG (A : GA) (X : List Nat) (k : Nat) (F : LfF) (w : World) (h : GrAt w A X k F) :
    Calls Try.prog 23 #[.pointer (some ⟨A.t, 0, none⟩)] w fun e w' => e = .returned (.int .i64 A.root) ∧ w' = w := by
  obtain ⟨mem, tk, b, nh, nt, MI, EN, ow, hT, h1, h2, h3, h4, h5, h6, h7⟩ := h.tree
  have c2 := hT.c2
  clear hT h1 h2 h3 h4 h
  go_enter Try.func23, Try.ntmps23
  go_wp2_with fail
  go_ret
  exact ⟨rfl, rfl⟩

end Go.Proofs.Ytdhnfhhmacjajaa


/-
  graft: All, Tables.
-/
namespace Go.Proofs.Ytdhnfhhmacjajaa
open Go Go.RowKit Go.Maps Go.Am Go.Shelf Go.Sort
set_option linter.unusedVariables false
set_option linter.unusedSimpArgs false

shelf_lay_g SlLaysM.n5 Slgm 5 at Try 40 as Try.sortP

/-- What has been seen of a map's keys. -/
def Coll (f : Int → Option Value) (left : Int → Bool) (ks : List Int) : Prop := ks.Nodup ∧ ∀ x, x ∈ ks ↔ (f x).isSome = true ∧ left x = false

theorem Coll.start (f : Int → Option Value) : Coll f (fun x => (f x).isSome) [] := ⟨List.nodup_nil, fun x => by cases h : (f x).isSome <;> simp [h]⟩

theorem Coll.step {f : Int → Option Value} {left : Int → Bool} {ks : List Int} (h : Coll f left ks) {x : Int} (hl : left x = true) (hf : (f x).isSome = true) : Coll f (fun z => left z && !(z == x)) (ks ++ [x]) := by
  have hnew : x ∉ ks := fun hx => by have := ((h.2 x).1 hx).2; rw [hl] at this; cases this
  refine ⟨List.nodup_append.2 ⟨h.1, by simp, fun a ha b hb => by simp at hb; subst hb; exact fun e => hnew (e ▸ ha)⟩, fun y => ?_⟩
  by_cases hy : y = x
  · subst hy; simp [hf]
  · have e : (y == x) = false := by simpa using hy
    simp [h.2 y, hy, e]

theorem Coll.perm {f : Int → Option Value} {left : Int → Bool} {ks L : List Int} (h : Coll f left ks) (hl : ∀ x, left x = false) (hL : L.Nodup) (hm : ∀ x, x ∈ L ↔ (f x).isSome = true) : ks.Perm L :=
  (List.perm_ext_iff_of_nodup h.1 hL).2 fun x => by rw [h.2 x, hl x, hm x]; simp

/-- A row of one's own is sorted. -/
theorem sortRow {w : World} {base : Nat} {v : Value} {ss : List Int} (hrow : w.ownsRow base 3 1 v ss.length (ss.map (Value.int .i64))) (hlen : ss.length < 1000000) :
    Calls Try.prog 40 #[v] w fun e w' => e = .returned (.tuple #[]) ∧ w'.ownsRow base 3 1 v ss.length ((ss.mergeSort (fun x y => decide (x ≤ y))).map (Value.int .i64)) ∧ GrowBut w w' v.ownBlock.toList := by
  rcases hrow.2 with ⟨rfl, hz⟩ | ⟨gb, cap', cur, rfl, hbase, hgb, r1, r2, r3, r4⟩
  · have : ss = [] := List.eq_nil_of_length_eq_zero hz
    subst this
    refine (AnyM.slices_Sort_int_none Try.sortP none 0 w).mono ?_
    rintro e w' ⟨rfl, rfl⟩
    exact ⟨rfl, by simpa using World.ownsRow_nil _ _ _ _, .refl _ _⟩
  · have hH : Sort.Holds (Value.int .i64) w gb 0 ss.toArray := Go.holds_of_blockI hgb (by simpa using r4)
    have hgl : gb < w.heap.size := (Array.getElem?_eq_some_iff.1 hgb).1
    refine (AnyM.slices_Sort_int Try.sortP gb 0 cap' ss w hH hgl (by omega)).mono fun e w' ⟨he, nn, os, hw⟩ => ⟨he, ?_, ?_⟩
    · rw [hw]; exact Go.ownsRow_sortedI (by simp) hbase hgb r1 r2 r3
    · rw [hw]; exact (GrowBut.of_some (Go.grownBy_sortedI _)).mono (by simp [Value.ownBlock])

/-- The pages of a map, rising. -/
def allP (F : LfF) : List Int := ((List.range 4096).map fun k : Nat => (k : Int)).filter fun k => (F k).isSome

theorem allP_rises (F : LfF) : (allP F).Pairwise (· < ·) := by
  unfold allP
  refine List.Pairwise.filter _ (List.pairwise_map.2 (List.pairwise_lt_range.imp fun h => ?_))
  omega

theorem allP_nodup (F : LfF) : (allP F).Nodup := (allP_rises F).imp fun h => by omega

theorem mem_allP {F : LfF} (h : LfOk F) {k : Int} : k ∈ allP F ↔ (F k).isSome = true := by
  unfold allP
  rw [List.mem_filter, List.mem_map]
  constructor
  · exact fun h => h.2
  · intro hk
    obtain ⟨l, hl⟩ := Option.isSome_iff_exists.1 hk
    have := h.rng k l hl
    exact ⟨⟨k.toNat, List.mem_range.2 (by omega), by omega⟩, hk⟩

theorem allP_len (F : LfF) : (allP F).length ≤ 4096 := Nat.le_trans (List.length_filter_le _ _) (by simp)

theorem sort_allP {F : LfF} {ks : List Int} (h : ks.Perm (allP F)) : ks.mergeSort (fun x y => decide (x ≤ y)) = allP F := by
  refine (mergeSort_of_perm_i h).trans ?_
  refine List.mergeSort_of_pairwise ((allP_rises F).imp fun h => ?_)
  simp only [decide_eq_true_eq]; omega

theorem RangeT.row {w : World} {q : IntKind} {kt : TypeId} {b r n base m : Nat} {f : Int → Option Value} {left : Int → Bool} {cnt : Nat} {v : Value} {xs : List Value} {e : TypeId} {size : Nat} (h : RangeT w q kt b r n f left cnt) (hrow : w.ownsRow base e size v m xs) : some r ≠ v.ownBlock := by
  obtain ⟨D, lf, h1, _⟩ := h.own
  exact row_ne_iter hrow h1

theorem Coll.len {f : Int → Option Value} {left : Int → Bool} {ks L : List Int} (h : Coll f left ks) (hm : ∀ x, (f x).isSome = true → x ∈ L) : ks.length ≤ L.length := by
  have hsub : ∀ {A B : List Int}, A.Nodup → (∀ x ∈ A, x ∈ B) → A.length ≤ B.length := by
    intro A
    induction A with
    | nil => intro B _ _; simp
    | cons a A ih =>
      intro B hn hs
      have hn' := List.nodup_cons.1 hn
      have ha : a ∈ B := hs a (by simp)
      have := ih (B := B.erase a) hn'.2 (fun x hx => (List.mem_erase_of_ne (fun e : x = a => hn'.1 (by rw [← e]; exact hx))).2 (hs x (by simp [hx])))
      rw [List.length_erase_of_mem ha] at this
      have hp := List.length_pos_of_mem ha
      simp only [List.length_cons]
      omega
  exact hsub h.1 (fun x hx => hm x ((h.2 x).1 hx).1)

set_option maxRecDepth 100000 in
set_option maxHeartbeats 8000000 in
theorem allG (A : GA) (X : List Nat) (k : Nat) (F : LfF) (w : World) (h : GrAt w A X k F) :
    Calls Try.prog 26 #[.pointer (some ⟨A.t, 0, none⟩)] w fun e w' => ∃ v, e = .returned v ∧ w'.ownsRow w.heap.size 3 1 v (allP F).length ((allP F).map (Value.int .i64)) ∧ GrowBut w w' [] := by
  obtain ⟨i0, hi, hz0, hz1, hz2⟩ := info_parts infoI
  have hF := h.ok
  obtain ⟨mem, tk, b, nh, nt, MI, EN, ow, hT, h1, h2, h3, h4, h5, h6, h7⟩ := h.tree
  have c3 := hT.c3
  have hH := hT.have_
  have hbl := hH.blt
  clear hT h1 h2 h3 h4 h
  go_enter Try.func26, Try.ntmps26
  go_wp2_with (first
    | (at_range; refine wpList_rangeT rfl _ 66 rfl hH keyI3 Try.underlying66 rfl ?_; intro w0 cnt0 hrg0 hcn hg0 hs0)
    | fail)
  try go_frame
  go_loopw [2] (fun v2 wr => ∃ left cnt ks, RangeT wr .i64 3 b w.heap.size nh (tabL F) left cnt ∧ wr.ownsRow w.heap.size 3 1 v2 ks.length (ks.map (Value.int .i64)) ∧ Coll (tabL F) left ks ∧ GrowBut w wr []) (fun _ wr => wr.rangeLeft b w.heap.size)
  case atStart => exact ⟨_, cnt0, [], hrg0, World.ownsRow_nil _ _ _ _, Coll.start _, hg0⟩
  case round =>
    obtain ⟨left, cnt, ks, hrg, hrow, hC, hG⟩ := hrel
    have hle : ks.length ≤ 4096 := Nat.le_trans (hC.len (L := allP F) (fun x hx => (mem_allP hF).2 (by rw [(tabL_val F x).2] at hx; exact hx))) (allP_len F)
    have hszw := hG.size
    go_wp2_with (first
      | (at_next; refine wpList_nextT rfl _ rfl keyI3 Try.underlying3 rfl hrg ?_ ?_)
      | fail)
    · intro hl
      have hp := hC.perm hl (allP_nodup F) (fun x => by rw [mem_allP hF, (tabL_val F x).2])
      have hS := sortRow hrow (by omega)
      rw [sort_allP hp, hp.length_eq] at hS
      have hlow : ∀ x ∈ u2.ownBlock.toList, w.heap.size ≤ x := fun x hx => (hrow.lt x (by simpa using hx)).1
      clear hC hrow hrg hl
      go_wp2_with (first
        | (go_at_call 40; refine hS.mono ?_; rintro e w5 ⟨rfl, hrow5, hg5⟩)
        | fail)
      go_ret
      exact ⟨_, rfl, hrow5, hG.from hg5 (fun x hx => .inr (hlow x hx))⟩
    · intro x c w2 cnt2 hwx hlx hfx hrg2 hlt hg2 hs2 hen
      have hC2 := hC.step hlx (by rw [hfx]; rfl)
      have hrow2 := hrow.kept (w' := w2) (row := some w.heap.size) ⟨hg2.os, hg2.tape, hg2.output, hg2.size, fun j hj hn => hg2.block j hj (by simpa using fun e => hn (by rw [e]))⟩ (.inr (fun e => hrg.row hrow e.symm))
      have hG2 := hG.from hg2 (l := []) (fun x hx => .inr (by simp at hx; omega))
      have hlow : ∀ x ∈ u2.ownBlock.toList, w.heap.size ≤ x := fun x hx => (hrow.lt x (by simpa using hx)).1
      have hnr := hrg2.row hrow2
      have hs2' : wr.heap.size ≤ w2.heap.size := by omega
      clear hfx hlx hC hrow hs2
      go_wp2_with (first
        | (at_builtin; refine wpList_append_own _ rfl _ _ 23 rfl w.heap.size 3 i0 (.int .i64 0) 1 8 Try.underlying23 hi hz0 hz1 hz2 rfl (by decide) _ _ _ rfl (hrow2.alloc _) ⟨w2.heap.size, 0, none⟩ 1 1 [.int .i64 x] rfl rfl (cell_one_new _ _ _) (by simp [Value.oneCell']) (by unfold maxLen at *; omega) (by omega) (by simp; omega) ?_; intro v' w4 hown4 hg4 hnil4; go_frame)
        | fail)
      have hG4 := (GrowBut.alloc w2 (.cells #[.int .i64 x] 3) _).trans (GrowBut.of_rowG (o := u2.ownBlock) hg4)
      have hrg4 := hrg2.kept hG4 (fun hb => by have := hlow _ hb; omega) (fun hb => hnr (by simpa using (Option.mem_toList.1 hb).symm))
      go_roundw
      case rel => exact ⟨_, cnt2, ks ++ [x], hrg4, by simpa using hown4, hC2, hG2.from hG4 (fun x hx => .inr (hlow x hx))⟩
      case measure => rw [hrg4.left_eq, hrg.left_eq]; exact hlt

end Go.Proofs.Ytdhnfhhmacjajaa
