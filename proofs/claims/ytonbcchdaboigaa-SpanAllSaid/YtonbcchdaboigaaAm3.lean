/-
  The abstract machine against the model: what an abstract value, block and state stand for; how they are kept.
-/
import Derived.Test.YtonbcchdaboigaaAm1
import Derived.Deep.MidRow
namespace Go.Am
open Go Go.RowKit
set_option linter.unusedVariables false

/-- Where an abstract block lies: the model's block, how far its cells begin behind the block's head, how many cells that block has. -/
structure Loc where
  blk : Nat
  off : Nat
  size : Nat

abbrev Ren := Nat → Option Loc
abbrev Syms := Nat → IntKind × Int

mutual
def VRel (σ : Syms) (ρ : Ren) : AVal → Value → Prop
  | .lit v, w => w = v ∧ vOne v = true
  | .sym i, w => w = .int (σ i).1 (σ i).2
  | .ptr b o, w => ∃ L, ρ b = some L ∧ w = .pointer (some ⟨L.blk, L.off + o, none⟩)
  | .slice b o l (.known k), w => ∃ L, ρ b = some L ∧ w = .slice (some ⟨L.blk, L.off + o, none⟩) l k
  | .slice b o l (.grown e), w => ∃ L k, ρ b = some L ∧ w = .slice (some ⟨L.blk, L.off + o, none⟩) l k ∧ l ≤ k ∧ L.off = 0 ∧ o + k * e = L.size
  | .map b, w => ∃ L, ρ b = some L ∧ w = .map (some L.blk)
  | .clo f cs, w => ∃ ws, w = .func (.func f) #[] ws ∧ VRels σ ρ cs ws.toList
  | .agg cs, w => ∃ ws, w = .agg ws ∧ VRels σ ρ cs ws.toList
  | .tup cs, w => ∃ ws, w = .tuple ws ∧ VRels σ ρ cs ws.toList
def VRels (σ : Syms) (ρ : Ren) : List AVal → List Value → Prop
  | [], ws => ws = []
  | v :: r, ws => ∃ u us, ws = u :: us ∧ VRel σ ρ v u ∧ VRels σ ρ r us
end

def Ext (ρ ρ' : Ren) : Prop := ∀ b L, ρ b = some L → ρ' b = some L

theorem Ext.refl (ρ : Ren) : Ext ρ ρ := fun _ _ h => h
theorem Ext.trans {ρ ρ' ρ'' : Ren} (h : Ext ρ ρ') (h' : Ext ρ' ρ'') : Ext ρ ρ'' := fun b L e => h' b L (h b L e)

mutual
theorem VRel.mono {σ : Syms} {ρ ρ' : Ren} (he : Ext ρ ρ') : ∀ (v : AVal) (w : Value), VRel σ ρ v w → VRel σ ρ' v w
  | .lit v, w, h => h
  | .sym i, w, h => h
  | .ptr b o, w, ⟨L, h1, h2⟩ => ⟨L, he b L h1, h2⟩
  | .slice b o l (.known k), w, ⟨L, h1, h2⟩ => ⟨L, he b L h1, h2⟩
  | .slice b o l (.grown e), w, ⟨L, k, h1, h2⟩ => ⟨L, k, he b L h1, h2⟩
  | .map b, w, ⟨L, h1, h2⟩ => ⟨L, he b L h1, h2⟩
  | .clo f cs, w, ⟨ws, h1, h2⟩ => ⟨ws, h1, VRels.mono he cs _ h2⟩
  | .agg cs, w, ⟨ws, h1, h2⟩ => ⟨ws, h1, VRels.mono he cs _ h2⟩
  | .tup cs, w, ⟨ws, h1, h2⟩ => ⟨ws, h1, VRels.mono he cs _ h2⟩
theorem VRels.mono {σ : Syms} {ρ ρ' : Ren} (he : Ext ρ ρ') : ∀ (vs : List AVal) (ws : List Value), VRels σ ρ vs ws → VRels σ ρ' vs ws
  | [], ws, h => h
  | v :: r, ws, ⟨u, us, h1, h2, h3⟩ => ⟨u, us, h1, VRel.mono he v u h2, VRels.mono he r us h3⟩
end

theorem VRels.length {σ : Syms} {ρ : Ren} : ∀ {vs : List AVal} {ws : List Value}, VRels σ ρ vs ws → ws.length = vs.length
  | [], ws, h => by simp only [VRels] at h; subst h; rfl
  | v :: r, ws, h => by
    simp only [VRels] at h
    obtain ⟨u, us, rfl, _, h3⟩ := h
    simp [VRels.length h3]

theorem VRels.get {σ : Syms} {ρ : Ren} : ∀ {vs : List AVal} {ws : List Value}, VRels σ ρ vs ws → ∀ (j : Nat) (v : AVal), vs[j]? = some v → ∃ u, ws[j]? = some u ∧ VRel σ ρ v u
  | [], ws, h, j, v, hj => by simp at hj
  | v :: r, ws, h, j, x, hj => by
    simp only [VRels] at h
    obtain ⟨u, us, rfl, h2, h3⟩ := h
    cases j with
    | zero => simp at hj; subst hj; exact ⟨u, rfl, h2⟩
    | succ j => simpa using VRels.get h3 j x (by simpa using hj)

theorem VRels.of_get {σ : Syms} {ρ : Ren} : ∀ {vs : List AVal} {ws : List Value}, ws.length = vs.length → (∀ (j : Nat) (v : AVal), vs[j]? = some v → ∃ u, ws[j]? = some u ∧ VRel σ ρ v u) → VRels σ ρ vs ws
  | [], ws, h, _ => by simp only [VRels]; exact List.length_eq_zero_iff.1 h
  | v :: r, [], h, _ => by simp at h
  | v :: r, w :: ws, h, hg => by
    simp only [VRels]
    refine ⟨w, ws, rfl, ?_, VRels.of_get (by simpa using h) fun j x hj => ?_⟩
    · obtain ⟨u, hu, hv⟩ := hg 0 v rfl
      simp at hu; subst hu; exact hv
    · obtain ⟨u, hu, hv⟩ := hg (j + 1) x (by simpa using hj)
      exact ⟨u, by simpa using hu, hv⟩

theorem VRels.append {σ : Syms} {ρ : Ren} : ∀ {vs vs' : List AVal} {ws ws' : List Value}, VRels σ ρ vs ws → VRels σ ρ vs' ws' → VRels σ ρ (vs ++ vs') (ws ++ ws')
  | [], _, ws, _, h, h' => by simp only [VRels] at h; subst h; exact h'
  | v :: r, _, ws, _, h, h' => by
    simp only [VRels] at h
    obtain ⟨u, us, rfl, h2, h3⟩ := h
    exact ⟨u, us ++ _, rfl, h2, VRels.append h3 h'⟩

theorem VRels.take {σ : Syms} {ρ : Ren} (n : Nat) {vs : List AVal} {ws : List Value} (h : VRels σ ρ vs ws) : VRels σ ρ (vs.take n) (ws.take n) := by
  refine VRels.of_get (by simp [h.length]) fun j v hj => ?_
  rw [List.getElem?_take] at hj ⊢
  split at hj
  · rename_i hjn; rw [if_pos hjn]; exact h.get j v hj
  · cases hj

theorem VRels.drop {σ : Syms} {ρ : Ren} (n : Nat) {vs : List AVal} {ws : List Value} (h : VRels σ ρ vs ws) : VRels σ ρ (vs.drop n) (ws.drop n) := by
  refine VRels.of_get (by simp [h.length]) fun j v hj => ?_
  rw [List.getElem?_drop] at hj ⊢
  exact h.get _ v hj

theorem VRel.oneCell {σ : Syms} {ρ : Ren} {v : AVal} {w : Value} (h : VRel σ ρ v w) (h1 : v.oneCell = true) : w.oneCell' = true := by
  cases v with
  | slice b o l c =>
    cases c with
    | known k => simp only [VRel] at h; obtain ⟨_, _, rfl⟩ := h; rfl
    | grown e => simp only [VRel] at h; obtain ⟨_, _, _, rfl, _⟩ := h; rfl
  | lit v =>
    simp only [VRel] at h
    obtain ⟨rfl, h2⟩ := h
    cases w <;> first | rfl | (simp [vOne] at h2)
  | sym i => simp only [VRel] at h; subst h; rfl
  | ptr b o => simp only [VRel] at h; obtain ⟨_, _, rfl⟩ := h; rfl
  | map b => simp only [VRel] at h; obtain ⟨_, _, rfl⟩ := h; rfl
  | clo f cs => simp only [VRel] at h; obtain ⟨_, rfl, _⟩ := h; rfl
  | agg cs => simp [AVal.oneCell] at h1
  | tup cs => simp [AVal.oneCell] at h1

theorem VRels.oneCell {σ : Syms} {ρ : Ren} {vs : List AVal} {ws : List Value} (h : VRels σ ρ vs ws) (h1 : vs.all AVal.oneCell = true) : ∀ w ∈ ws, w.oneCell' = true := by
  intro w hw
  obtain ⟨j, hj, rfl⟩ := List.getElem_of_mem hw
  have hjv : j < vs.length := by rw [← h.length]; exact hj
  obtain ⟨u, hu, hv⟩ := h.get j vs[j] (by simp [hjv])
  simp [hj] at hu; subst hu
  exact hv.oneCell (List.all_eq_true.1 h1 _ (List.getElem_mem hjv))

theorem VRel.cells {σ : Syms} {ρ : Ren} {v : AVal} {w : Value} (h : VRel σ ρ v w) (h1 : v.cells.all AVal.oneCell = true) : VRels σ ρ v.cells w.cells.toList := by
  have one : ∀ {w : Value}, w.oneCell' = true → VRel σ ρ v w → w.cells = #[w] := fun {w} h2 _ => by cases w <;> first | rfl | simp [Value.oneCell'] at h2
  cases v with
  | agg cs => simp only [VRel] at h; obtain ⟨ws, rfl, h⟩ := h; exact h
  | tup cs => simp [AVal.cells, AVal.oneCell] at h1
  | _ => rw [one (h.oneCell rfl) h]; exact ⟨_, _, rfl, h, rfl⟩

/-- Entries, one by one. -/
def ERels (σ : Syms) (ρ : Ren) : List AEntry → List MapEntry → Prop
  | [], ms => ms = []
  | e :: r, ms => ∃ m ns, ms = m :: ns ∧ m.key = e.key ∧ m.born = e.born ∧ VRel σ ρ e.val m.val ∧ ERels σ ρ r ns

theorem ERels.mono {σ : Syms} {ρ ρ' : Ren} (he : Ext ρ ρ') : ∀ {es : List AEntry} {ms : List MapEntry}, ERels σ ρ es ms → ERels σ ρ' es ms
  | [], ms, h => h
  | e :: r, ms, ⟨m, ns, h1, h2, h3, h4, h5⟩ => ⟨m, ns, h1, h2, h3, VRel.mono he _ _ h4, ERels.mono he h5⟩

/-- What a block stands for, in a world. -/
def ORel (σ : Syms) (ρ : Ren) (L : Loc) (rw_ : Bool) (w : World) : AObj → Prop
  | .cells cs g => (∀ j v, cs[j]? = some v → ∃ u, w.cell? ⟨L.blk, L.off + j, none⟩ = some u ∧ VRel σ ρ v u) ∧
      (rw_ = true → ∀ j, j < cs.length → w.frozen? ⟨L.blk, L.off + j, none⟩ = false) ∧
      (g = true → L.off = 0 ∧ cs.length ≤ L.size ∧ ∀ i, i < L.size → (w.cell? ⟨L.blk, i, none⟩).isSome = true ∧ w.frozen? ⟨L.blk, i, none⟩ = false)
  | .map es c => ∃ ms, w.heap[L.blk]? = some (.map ms c) ∧ ERels σ ρ es ms.toList
  | .iter m s l k => L.off = 0 ∧ ∃ m', w.heap[L.blk]? = some (.mapIter m' s l.toArray k) ∧ (match m, m' with
      | none, none => True
      | some b, some c => ∃ M, ρ b = some M ∧ M.blk = c
      | _, _ => False)

theorem ORel.mono {σ : Syms} {ρ ρ' : Ren} {L : Loc} {r : Bool} {w : World} {o : AObj} (he : Ext ρ ρ') (h : ORel σ ρ L r w o) : ORel σ ρ' L r w o := by
  cases o with
  | cells cs g =>
    obtain ⟨h1, h2, h3⟩ := h
    exact ⟨fun j v hj => let ⟨u, hu, hv⟩ := h1 j v hj; ⟨u, hu, VRel.mono he _ _ hv⟩, h2, h3⟩
  | map es c => obtain ⟨ms, h1, h2⟩ := h; exact ⟨ms, h1, h2.mono he⟩
  | iter m s l k =>
    obtain ⟨h0, m', h1, h2⟩ := h
    refine ⟨h0, m', h1, ?_⟩
    cases m <;> cases m' <;> first | exact h2 | (obtain ⟨M, e1, e2⟩ := h2; exact ⟨M, he _ _ e1, e2⟩)

theorem cell_of_block {w w' : World} {b o : Nat} (h : w'.heap[b]? = w.heap[b]?) : w'.cell? ⟨b, o, none⟩ = w.cell? ⟨b, o, none⟩ := by
  simp only [World.cell?, h]
theorem frozen_of_block {w w' : World} {b o : Nat} (h : w'.heap[b]? = w.heap[b]?) : w'.frozen? ⟨b, o, none⟩ = w.frozen? ⟨b, o, none⟩ := by
  simp only [World.frozen?, h]

theorem ORel.of_block {σ : Syms} {ρ : Ren} {L : Loc} {r : Bool} {w w' : World} {o : AObj} (hb : w'.heap[L.blk]? = w.heap[L.blk]?) (h : ORel σ ρ L r w o) : ORel σ ρ L r w' o := by
  cases o with
  | cells cs g =>
    obtain ⟨h1, h2, h3⟩ := h
    refine ⟨fun j v hj => ?_, fun hr j hj => ?_, fun hg => ?_⟩
    · rw [cell_of_block hb]; exact h1 j v hj
    · rw [frozen_of_block hb]; exact h2 hr j hj
    · refine ⟨(h3 hg).1, (h3 hg).2.1, fun i hi => ?_⟩
      rw [cell_of_block hb, frozen_of_block hb]; exact (h3 hg).2.2 i hi
  | map es c => obtain ⟨ms, h1, h2⟩ := h; exact ⟨ms, hb.trans h1, h2⟩
  | iter m s l k => obtain ⟨h0, m', h1, h2⟩ := h; exact ⟨h0, m', hb.trans h1, h2⟩

/-- An abstract state and a world: `N0`, `w0`: what was there when the run began, and is as it was. -/
structure WRel (σ : Syms) (N0 : Nat) (w0 : World) (ρ : Ren) (s : AState) (w : World) : Prop where
  base : Below N0 w0 w
  n0 : N0 ≤ w.heap.size
  bnd : s.ro ≤ s.next ∧ s.next ≤ lim + 1
  inj : ∀ b b' L L', s.ro ≤ b → s.ro ≤ b' → s.heap.get b ≠ none → s.heap.get b' ≠ none → ρ b = some L → ρ b' = some L' → L.blk = L'.blk → b = b'
  dom : ∀ b, s.heap.get b ≠ none → b < s.next
  rng : ∀ b L, ρ b = some L → L.blk < w.heap.size ∧ (s.ro ≤ b → N0 ≤ L.blk) ∧ (b < s.ro → L.blk < N0)
  heap : ∀ b o, s.heap.get b = some o → ∀ L, ρ b = some L → ORel σ ρ L (decide (s.ro ≤ b)) w o

/-- One state, one world, behind another one. No block below `s'.low` has been turned. -/
structure Post (σ : Syms) (N0 : Nat) (w0 : World) (ρ : Ren) (s : AState) (w : World) (ρ' : Ren) (s' : AState) (w' : World) : Prop where
  ext : Ext ρ ρ'
  new : ∀ b L, ρ' b = some L → ρ b = some L ∨ (s.next ≤ b ∧ b < s'.next ∧ (w.heap.size ≤ L.blk ∨ ∃ b0 L0, b0 < s.next ∧ s'.low ≤ b0 ∧ ρ b0 = some L0 ∧ L0.blk = L.blk))
  next : s.next ≤ s'.next
  ro : s'.ro = s.ro
  low : s'.low ≤ s.low
  same : ∀ b, b < s.next → b < s'.low → s'.heap.get b = s.heap.get b
  live : ∀ b, b < s.next → s'.heap.get b ≠ none → s.heap.get b ≠ none
  wrel : WRel σ N0 w0 ρ' s' w'
  frame : ∀ c, c < w.heap.size → (∀ b L, b < s.next → s'.low ≤ b → ρ b = some L → L.blk ≠ c) → w'.heap[c]? = w.heap[c]?
  size : w.heap.size ≤ w'.heap.size

def Fresh (ρ : Ren) (a b : Nat) : Prop := ∀ i, a ≤ i → i < b → ρ i = none

theorem Fresh.mono {ρ : Ren} {a b a' b' : Nat} (h : Fresh ρ a b) (ha : a ≤ a') (hb : b' ≤ b) : Fresh ρ a' b' := fun i h1 h2 => h i (by omega) (by omega)

section
variable {σ : Syms} {N0 : Nat} {w0 : World}

theorem Post.refl {ρ : Ren} {s : AState} {w : World} (h : WRel σ N0 w0 ρ s w) : Post σ N0 w0 ρ s w ρ s w :=
  ⟨Ext.refl _, fun _ _ h => .inl h, Nat.le_refl _, rfl, Nat.le_refl _, fun _ _ _ => rfl, fun _ _ h => h, h, fun _ _ _ => rfl, Nat.le_refl _⟩

theorem Post.trans {ρ ρ1 ρ2 : Ren} {s s1 s2 : AState} {w w1 w2 : World} (h : Post σ N0 w0 ρ s w ρ1 s1 w1) (hf : Fresh ρ s.next s1.next)
    (k : Post σ N0 w0 ρ1 s1 w1 ρ2 s2 w2) : Post σ N0 w0 ρ s w ρ2 s2 w2 := by
  have hl := k.low
  have hn := h.next
  have hn' := k.next
  have old : ∀ b L, ρ1 b = some L → b < s.next → ρ b = some L := fun b L e hb => by
    rcases h.new b L e with h1 | ⟨h1, _⟩
    · exact h1
    · omega
  have fresh : ∀ b L, ρ1 b = some L → s.next ≤ b → b < s1.next → w.heap.size ≤ L.blk ∨ ∃ b0 L0, b0 < s.next ∧ s1.low ≤ b0 ∧ ρ b0 = some L0 ∧ L0.blk = L.blk := fun b L e hb hb1 => by
    rcases h.new b L e with h1 | ⟨_, _, h1⟩
    · rw [hf b hb hb1] at h1; cases h1
    · exact h1
  refine ⟨h.ext.trans k.ext, fun b L e => ?_, by omega, k.ro.trans h.ro, by have := h.low; omega, fun b h1 h2 => ?_, fun b h1 h2 => ?_, k.wrel, fun c hc H => ?_, Nat.le_trans h.size k.size⟩
  · rcases k.new b L e with h1 | ⟨h1, h2, h3⟩
    · rcases h.new b L h1 with h4 | ⟨h4, h5, h6⟩
      · exact .inl h4
      · refine .inr ⟨h4, by omega, ?_⟩
        rcases h6 with h6 | ⟨b0, L0, g1, g2, g3⟩
        · exact .inl h6
        · exact .inr ⟨b0, L0, g1, by omega, g3⟩
    · refine .inr ⟨by omega, h2, ?_⟩
      rcases h3 with h3 | ⟨b0, L0, g1, g2, g3, g4⟩
      · exact .inl (by have := h.size; omega)
      · by_cases hb0 : b0 < s.next
        · exact .inr ⟨b0, L0, hb0, g2, old b0 L0 g3 hb0, g4⟩
        · rcases fresh b0 L0 g3 (by omega) g1 with h5 | ⟨b1, L1, e1, e2, e3, e4⟩
          · exact .inl (by omega)
          · exact .inr ⟨b1, L1, e1, by omega, e3, e4.trans g4⟩
  · rw [k.same b (by omega) h2]; exact h.same b h1 (by omega)
  · exact h.live b h1 (k.live b (by omega) h2)
  · have h1 := h.frame c hc fun b L hb hl' e => H b L hb (by omega) e
    rw [← h1]
    refine k.frame c (by have := h.size; omega) fun b L hb hl' e => ?_
    by_cases hbs : b < s.next
    · exact H b L hbs hl' (old b L e hbs)
    · rcases fresh b L e (by omega) hb with h5 | ⟨b1, L1, e1, e2, e3, e4⟩
      · omega
      · have := H b1 L1 e1 (by omega) e3; omega

end

/-! ### The evaluator's small parts -/
theorem R.bind_ok {α β : Type} {x : R α} {f : α → R β} {b : β} (h : R.bind x f = .ok b) : ∃ a, x = .ok a ∧ f a = .ok b := by
  cases x with
  | ok a => exact ⟨a, rfl, h⟩
  | fail w => cases h

theorem R.bind_ok' {α β : Type} {x : R α} {f : α → R β} {b : β} (h : (x >>= f) = .ok b) : ∃ a, x = .ok a ∧ f a = .ok b := R.bind_ok h

theorem R.of_ok {α : Type} {w : String} {o : Option α} {a : α} (h : R.of w o = .ok a) : o = some a := by
  cases o with
  | some b => simp only [R.of, R.ok.injEq] at h; rw [h]
  | none => cases h

theorem guardR_ok {b : Bool} {w : String} {u : Unit} (h : guardR b w = .ok u) : b = true := by
  cases b with
  | true => rfl
  | false => cases h

section force
variable {β : Type}
theorem forceN_eq (n : Nat) (c : Nat → β) : forceN n c = c n := by cases n <;> rfl
theorem forceI_eq (n : Int) (c : Int → β) : forceI n c = c n := by cases n <;> simp only [forceI, forceN_eq]
theorem forceB_eq (b : Bool) (c : Bool → β) : forceB b c = c b := by cases b <;> rfl
theorem forceLit_eq (v : Value) (c : Value → β) : forceLit v c = c v := by cases v <;> simp only [forceLit, forceI_eq, forceB_eq, forceN_eq]
theorem forceCell_eq (v : AVal) (c : AVal → β) : forceCell v c = c v := by
  cases v with
  | slice b o n k => cases k <;> simp only [forceCell, forceN_eq]
  | _ => simp only [forceCell, forceLit_eq, forceN_eq]
theorem forceCells_eq : ∀ (l : List AVal) (c : List AVal → β), forceCells l c = c l
  | [], c => rfl
  | v :: r, c => by simp only [forceCells, forceCell_eq, forceCells_eq r]
theorem forceW_eq (v : AVal) (c : AVal → β) : forceW v c = c v := by
  cases v <;> simp only [forceW, forceCells_eq, forceCell_eq]
theorem forceWs_eq : ∀ (l : List AVal) (c : List AVal → β), forceWs l c = c l
  | [], c => rfl
  | v :: r, c => by simp only [forceWs, forceW_eq, forceWs_eq r]
theorem forceV_eq (v : AVal) (c : AVal → β) : forceV v c = c v := by
  cases v <;> simp only [forceV, forceWs_eq, forceW_eq]
theorem forceE_eq (e : AEntry) (c : AEntry → β) : forceE e c = c e := by
  obtain ⟨k, v, n⟩ := e; simp only [forceE, forceLit_eq, forceV_eq, forceN_eq]
theorem forceEs_eq : ∀ (l : List AEntry) (c : List AEntry → β), forceEs l c = c l
  | [], c => rfl
  | v :: r, c => by simp only [forceEs, forceE_eq, forceEs_eq r]
theorem forceNs_eq : ∀ (l : List Nat) (c : List Nat → β), forceNs l c = c l
  | [], c => rfl
  | v :: r, c => by simp only [forceNs, forceN_eq, forceNs_eq r]
theorem forceO_eq (o : AObj) (c : AObj → β) : forceO o c = c o := by
  cases o <;> simp only [forceO, forceCells_eq, forceB_eq, forceEs_eq, forceN_eq, forceNs_eq]
theorem spine_eq {α : Type} : ∀ (l : List α) (c : List α → β), spine l c = c l
  | [], c => rfl
  | x :: r, c => by simp only [spine, spine_eq r]
theorem spineEs_eq : ∀ (l : List AEntry) (c : List AEntry → β), spineEs l c = c l
  | [], c => rfl
  | ⟨k, v, n⟩ :: r, c => by simp only [spineEs, forceN_eq, spineEs_eq r]
theorem slimO_eq (o : AObj) (c : AObj → β) : slimO o c = c o := by
  cases o <;> simp only [slimO, spine_eq, spineEs_eq, forceN_eq, forceO_eq]
end force

theorem allocS_eq (s : AState) (o : AObj) : s.allocS o = s.alloc o := by
  obtain ⟨h, n, l, ro⟩ := s
  unfold AState.allocS AState.alloc
  simp only [slimO_eq, forceO_eq]

/-! ### Maps keyed by numbers -/
theorem land_one (k : Nat) : Nat.land k 1 = k % 2 := Nat.and_one_is_mod k
theorem shr_one (k : Nat) : Nat.shiftRight k 1 = k / 2 := by
  show k >>> 1 = k / 2
  simp [Nat.shiftRight_succ]

theorem get_leaf {α : Type} (k : Nat) : (Tr.leaf : Tr α).get k = none := rfl
theorem get_node_zero {α : Type} (l r : Tr α) (v : Option α) : (Tr.node l v r).get 0 = v := rfl
theorem get_node_succ {α : Type} (l r : Tr α) (v : Option α) (k : Nat) : (Tr.node l v r).get (k + 1) = if k % 2 = 0 then l.get (k / 2) else r.get (k / 2) := by
  show cond (Nat.beq (Nat.land k 1) 0) (l.get (Nat.shiftRight k 1)) (r.get (Nat.shiftRight k 1)) = _
  rw [land_one, shr_one]
  by_cases h : k % 2 = 0
  · simp [h]
  · have hb : Nat.beq (k % 2) 0 = false := by cases hq : Nat.beq (k % 2) 0 with | false => rfl | true => exact absurd (Nat.eq_of_beq_eq_true hq) h
    simp [h, hb]

theorem setK_leaf_zero {α β : Type} (a : Option α) (f : Nat) (c : Tr α → β) : Tr.setK a (f + 1) .leaf 0 c = c (.node .leaf a .leaf) := rfl
theorem setK_node_zero {α β : Type} (a : Option α) (f : Nat) (l r : Tr α) (v : Option α) (c : Tr α → β) : Tr.setK a (f + 1) (.node l v r) 0 c = c (.node l a r) := rfl
theorem setK_leaf_succ {α β : Type} (a : Option α) (f k : Nat) (c : Tr α → β) : Tr.setK a (f + 1) .leaf (k + 1) c = cond (Nat.beq (k % 2) 0) (Tr.setK a f .leaf (k / 2) fun t => c (.node t none .leaf)) (Tr.setK a f .leaf (k / 2) fun t => c (.node .leaf none t)) := by
  show cond (Nat.beq (Nat.land k 1) 0) (Tr.setK a f .leaf (Nat.shiftRight k 1) fun t => c (.node t none .leaf)) (Tr.setK a f .leaf (Nat.shiftRight k 1) fun t => c (.node .leaf none t)) = _
  rw [land_one, shr_one]
theorem setK_node_succ {α β : Type} (a : Option α) (f k : Nat) (l r : Tr α) (v : Option α) (c : Tr α → β) : Tr.setK a (f + 1) (.node l v r) (k + 1) c = cond (Nat.beq (k % 2) 0) (Tr.setK a f l (k / 2) fun t => c (.node t v r)) (Tr.setK a f r (k / 2) fun t => c (.node l v t)) := by
  show cond (Nat.beq (Nat.land k 1) 0) (Tr.setK a f l (Nat.shiftRight k 1) fun t => c (.node t v r)) (Tr.setK a f r (Nat.shiftRight k 1) fun t => c (.node l v t)) = _
  rw [land_one, shr_one]

theorem setK_spec {α : Type} (a : Option α) : ∀ (f : Nat) (t : Tr α) (k : Nat), k + 1 < 2 ^ f →
    ∃ t', (∀ (β : Type) (c : Tr α → β), Tr.setK a f t k c = c t') ∧ ∀ j, t'.get j = if j = k then a else t.get j
  | 0, t, k, h => by simp at h
  | f + 1, t, k, h => by
    cases k with
    | zero =>
      cases t with
      | leaf => exact ⟨.node .leaf a .leaf, fun β c => rfl, fun j => by cases j <;> simp [get_node_zero, get_node_succ, get_leaf]⟩
      | node l v r => exact ⟨.node l a r, fun β c => rfl, fun j => by cases j <;> simp [get_node_zero, get_node_succ]⟩
    | succ k =>
      have hk : k / 2 + 1 < 2 ^ f := by
        rw [Nat.pow_succ] at h; omega
      have key : ∀ (x y : Tr α) (v : Option α), ∃ t', (∀ (β : Type) (c : Tr α → β), (cond (Nat.beq (k % 2) 0) (Tr.setK a f x (k / 2) fun t => c (.node t v y)) (Tr.setK a f y (k / 2) fun t => c (.node x v t))) = c t') ∧
          ∀ j, t'.get j = if j = k + 1 then a else (Tr.node x v y).get j := by
        intro x y v
        by_cases hp : k % 2 = 0
        · obtain ⟨t', h1, h2⟩ := setK_spec a f x (k / 2) hk
          refine ⟨.node t' v y, fun β c => by simp [hp, h1], fun j => ?_⟩
          cases j with
          | zero => simp [get_node_zero]
          | succ j =>
            rw [get_node_succ, get_node_succ]
            by_cases hj : j % 2 = 0
            · simp only [hj, if_true, h2]
              by_cases he : j / 2 = k / 2
              · have : j = k := by omega
                simp [this]
              · have : j ≠ k := by intro e; subst e; exact he rfl
                simp [he, this]
            · have : j ≠ k := by intro e; subst e; exact hj hp
              simp [hj, this]
        · obtain ⟨t', h1, h2⟩ := setK_spec a f y (k / 2) hk
          have hb : Nat.beq (k % 2) 0 = false := by cases hq : Nat.beq (k % 2) 0 with | false => rfl | true => exact absurd (Nat.eq_of_beq_eq_true hq) hp
          refine ⟨.node x v t', fun β c => by simp [hb, h1], fun j => ?_⟩
          cases j with
          | zero => simp [get_node_zero]
          | succ j =>
            rw [get_node_succ, get_node_succ]
            by_cases hj : j % 2 = 0
            · have : j ≠ k := by intro e; subst e; exact hp hj
              simp [hj, this]
            · simp only [hj, if_false, h2]
              by_cases he : j / 2 = k / 2
              · have : j = k := by omega
                simp [this]
              · have : j ≠ k := by intro e; subst e; exact he rfl
                simp [he, this]
      cases t with
      | leaf =>
        obtain ⟨t', h1, h2⟩ := key .leaf .leaf none
        refine ⟨t', fun β c => ?_, fun j => ?_⟩
        · rw [← h1 β c, setK_leaf_succ]
        · rw [h2]; cases j <;> simp [get_node_zero, get_node_succ, get_leaf]
      | node l v r =>
        obtain ⟨t', h1, h2⟩ := key l r v
        exact ⟨t', fun β c => by rw [← h1 β c, setK_node_succ], h2⟩

theorem setK_ok {α β : Type} {a : Option α} {t : Tr α} {k : Nat} {c : Tr α → R β} {r : β} (hk : k ≤ lim) (h : Tr.setK a 40 t k c = .ok r) :
    ∃ t', c t' = .ok r ∧ ∀ j, t'.get j = if j = k then a else t.get j := by
  obtain ⟨t', h1, h2⟩ := setK_spec a 40 t k (by unfold lim at hk; omega)
  exact ⟨t', by rw [← h1 (R β) c]; exact h, h2⟩

/-! ### States -/
theorem alloc_ok {s s' : AState} {o : AObj} (h : s.alloc o = .ok s') :
    (s'.next = s.next + 1 ∧ s.next ≤ lim) ∧ s'.low = s.low ∧ s'.ro = s.ro ∧ ∀ j, s'.heap.get j = if j = s.next then some o else s.heap.get j := by
  obtain ⟨hp, n, l, ro⟩ := s
  unfold AState.alloc at h
  simp only [] at h
  by_cases hn : n ≤ lim
  · rw [Nat.ble_eq_true_of_le hn, cond_true, forceO_eq] at h
    obtain ⟨t', h1, h2⟩ := setK_ok hn h
    rw [forceN_eq] at h1
    cases h1
    exact ⟨⟨rfl, hn⟩, rfl, rfl, h2⟩
  · have : Nat.ble n lim = false := by cases hq : Nat.ble n lim with | false => rfl | true => exact absurd (Nat.le_of_ble_eq_true hq) hn
    rw [this, cond_false] at h
    cases h

theorem put_ok' {s s' : AState} {b : Nat} {o : Option AObj} (h : s.put b o = .ok s') :
    s'.next = s.next ∧ s'.low = min s.low b ∧ s'.ro = s.ro ∧ ∀ j, s'.heap.get j = if j = b then o else s.heap.get j := by
  obtain ⟨hp, n, l, ro⟩ := s
  unfold AState.put at h
  simp only [] at h
  cases hq : Nat.ble b lim with
  | false => rw [hq] at h; cases h
  | true =>
    rw [hq, cond_true] at h
    obtain ⟨t', h1, h2⟩ := setK_ok (Nat.le_of_ble_eq_true hq) h
    rw [forceN_eq] at h1
    cases h1
    exact ⟨rfl, rfl, rfl, h2⟩

theorem put_ok {s s' : AState} {b : Nat} {o : Option AObj} (hb : b ≤ lim) (h : s.put b o = .ok s') :
    s'.next = s.next ∧ s'.low = min s.low b ∧ s'.ro = s.ro ∧ ∀ j, s'.heap.get j = if j = b then o else s.heap.get j := put_ok' h

theorem write_ok' {s s' : AState} {b : Nat} {o : AObj} (h : s.write b o = .ok s') :
    s.ro ≤ b ∧ s'.next = s.next ∧ s'.low = min s.low b ∧ s'.ro = s.ro ∧ ∀ j, s'.heap.get j = if j = b then some o else s.heap.get j := by
  unfold AState.write at h
  cases hq : Nat.ble s.ro b with
  | false => rw [hq, cond_false] at h; cases h
  | true =>
    rw [hq, cond_true, slimO_eq] at h
    exact ⟨Nat.le_of_ble_eq_true hq, put_ok' h⟩

theorem write_ok {s s' : AState} {b : Nat} {o : AObj} (hb : b ≤ lim) (h : s.write b o = .ok s') :
    s.ro ≤ b ∧ s'.next = s.next ∧ s'.low = min s.low b ∧ s'.ro = s.ro ∧ ∀ j, s'.heap.get j = if j = b then some o else s.heap.get j := by
  unfold AState.write at h
  cases hq : Nat.ble s.ro b with
  | false => rw [hq, cond_false] at h; cases h
  | true =>
    rw [hq, cond_true, slimO_eq] at h
    exact ⟨Nat.le_of_ble_eq_true hq, put_ok hb h⟩

theorem get_ok {s : AState} {b : Nat} {o : AObj} (h : s.get b = .ok o) : s.heap.get b = some o := R.of_ok h

section
variable {σ : Syms} {N0 : Nat} {w0 : World}

/-- A new block, on both sides. -/
theorem Post.alloc {ρ : Ren} {s s' : AState} {w : World} {o : AObj} {O : Obj} (h : WRel σ N0 w0 ρ s w) (ha : s.alloc o = .ok s') (hf : Fresh ρ s.next s'.next) (n : Nat)
    (ho : ∀ ρ', Ext ρ ρ' → ORel σ ρ' ⟨w.heap.size, 0, n⟩ true (w.alloc O) o) :
    ∃ ρ', ρ' s.next = some ⟨w.heap.size, 0, n⟩ ∧ Post σ N0 w0 ρ s w ρ' s' (w.alloc O) := by
  obtain ⟨⟨e1, e1'⟩, e2, e3, e4⟩ := alloc_ok ha
  have hro := h.bnd.1
  have hfn : ρ s.next = none := hf s.next (Nat.le_refl _) (by omega)
  let ρ' : Ren := fun b => if b = s.next then some ⟨w.heap.size, 0, n⟩ else ρ b
  have hρ : ρ' s.next = some ⟨w.heap.size, 0, n⟩ := by simp [ρ']
  have hne : ∀ b, b ≠ s.next → ρ' b = ρ b := fun b hb => by simp [ρ', hb]
  have ext : Ext ρ ρ' := fun b L e => by
    by_cases hb : b = s.next
    · subst hb; rw [hfn] at e; cases e
    · rw [hne b hb]; exact e
  have blk : ∀ c, c < w.heap.size → (w.alloc O).heap[c]? = w.heap[c]? := fun c hc => Below.heap_alloc w O c hc
  refine ⟨ρ', hρ, ext, fun b L e => ?_, by omega, e3, by omega, fun b h1 _ => by rw [e4, if_neg (by omega)], fun b h1 => by rw [e4, if_neg (by omega)]; exact id, ?_, fun c hc _ => blk c hc, by simp⟩
  · by_cases hb : b = s.next
    · subst hb
      rw [hρ] at e
      cases e
      exact .inr ⟨Nat.le_refl _, by omega, .inl (Nat.le_refl _)⟩
    · rw [hne b hb] at e; exact .inl e
  · refine ⟨h.base.alloc h.n0 O, by have := h.n0; simp; omega, by omega, fun b b' L L' hr hr' hb hb' eb eb' hL => ?_, fun b hb => ?_, fun b L e => ?_, fun b o' hb L e => ?_⟩
    · rw [e3] at hr hr'
      rw [e4] at hb hb'
      by_cases h1 : b = s.next
      · by_cases h2 : b' = s.next
        · omega
        · exfalso
          subst h1
          rw [hne b' h2] at eb'
          rw [hρ] at eb
          cases eb
          have := (h.rng b' L' eb').1
          simp only [] at hL
          omega
      · by_cases h2 : b' = s.next
        · exfalso
          subst h2
          rw [hne b h1] at eb
          rw [hρ] at eb'
          cases eb'
          have := (h.rng b L eb).1
          simp only [] at hL
          omega
        · rw [if_neg h1] at hb
          rw [if_neg h2] at hb'
          rw [hne b h1] at eb
          rw [hne b' h2] at eb'
          exact h.inj b b' L L' hr hr' hb hb' eb eb' hL
    · rw [e4] at hb
      by_cases h1 : b = s.next
      · omega
      · rw [if_neg h1] at hb; have := h.dom b hb; omega
    · rw [e3]
      by_cases h1 : b = s.next
      · subst h1
        rw [hρ] at e
        cases e
        refine ⟨by simp, fun _ => h.n0, fun h2 => by omega⟩
      · rw [hne b h1] at e
        have := h.rng b L e
        exact ⟨by simp; omega, this.2⟩
    · rw [e4] at hb
      rw [e3]
      by_cases h1 : b = s.next
      · subst h1
        rw [if_pos rfl] at hb
        cases hb
        rw [hρ] at e
        cases e
        simpa [hro] using ho ρ' ext
      · rw [if_neg h1] at hb
        rw [hne b h1] at e
        exact (h.heap b o' hb L e).mono ext |>.of_block (blk _ (h.rng b L e).1)

/-- A block turned, on both sides. -/
theorem Post.write {ρ : Ren} {s s' : AState} {w w' : World} {b : Nat} {o : AObj} {L : Loc} (h : WRel σ N0 w0 ρ s w) (ha : s.write b o = .ok s') (hb : s.heap.get b ≠ none) (hL : ρ b = some L)
    (hw : Below N0 w w') (hs : w'.heap.size = w.heap.size) (hfr : ∀ c, c ≠ L.blk → w'.heap[c]? = w.heap[c]?) (ho : ORel σ ρ L true w' o) : Post σ N0 w0 ρ s w ρ s' w' := by
  have hbn := h.dom b hb
  have hl := h.bnd
  obtain ⟨e0, e1, e2, e3, e4⟩ := write_ok (by omega) ha
  refine ⟨Ext.refl _, fun _ _ e => .inl e, by omega, e3, by omega, fun b' h1 h2 => by rw [e4, if_neg (by omega)], fun b' h1 => ?_, ?_, fun c hc H => ?_, by omega⟩
  · rw [e4]
    by_cases hbb : b' = b
    · subst hbb; exact fun _ => hb
    · rw [if_neg hbb]; exact id
  · refine ⟨h.base.trans hw, by have := h.n0; omega, by omega, fun a a' M M' hr hr' ha1 ha2 ea ea' hM => ?_, fun a ha1 => ?_, fun a M e => ?_, fun a o' ha1 M e => ?_⟩
    · rw [e3] at hr hr'
      refine h.inj a a' M M' hr hr' ?_ ?_ ea ea' hM
      · rw [e4] at ha1; by_cases hq : a = b
        · subst hq; exact hb
        · rw [if_neg hq] at ha1; exact ha1
      · rw [e4] at ha2; by_cases hq : a' = b
        · subst hq; exact hb
        · rw [if_neg hq] at ha2; exact ha2
    · rw [e4] at ha1
      rw [e1]
      by_cases hq : a = b
      · subst hq; exact hbn
      · rw [if_neg hq] at ha1; exact h.dom a ha1
    · rw [e3, hs]; exact h.rng a M e
    · rw [e4] at ha1
      rw [e3]
      by_cases hq : a = b
      · subst hq
        rw [if_pos rfl] at ha1
        cases ha1
        rw [hL] at e
        cases e
        simpa [e0] using ho
      · rw [if_neg hq] at ha1
        refine (h.heap a o' ha1 M e).of_block (hfr _ fun hc => ?_)
        by_cases hra : s.ro ≤ a
        · exact hq (h.inj a b M L hra e0 (by rw [ha1]; simp) hb e hL hc)
        · have h1 := (h.rng a M e).2.2 (by omega)
          have h2 := (h.rng b L hL).2.1 e0
          omega
  · by_cases hc' : c = L.blk
    · exact absurd hc'.symm (H b L hbn (by omega) hL)
    · exact hfr c hc'

end
end Go.Am
