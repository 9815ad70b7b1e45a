/-
  The abstract machine by itself: what its operations leave alone.
-/
import Derived.Test.YtonbcchdaboigaaAm11
namespace Go.Am
open Go Go.RowKit
set_option linter.unusedVariables false

structure Abs (s s' : AState) : Prop where
  next : s.next ≤ s'.next
  ro : s'.ro = s.ro
  low : s'.low ≤ s.low
  same : ∀ b, b < s.next → b < s'.low → s'.heap.get b = s.heap.get b
  live : ∀ b, b < s.next → s'.heap.get b ≠ none → s.heap.get b ≠ none
  dom : (∀ b, s.heap.get b ≠ none → b < s.next) → ∀ b, s'.heap.get b ≠ none → b < s'.next
  top : s.next ≤ lim + 1 → s'.next ≤ lim + 1

theorem Abs.refl (s : AState) : Abs s s := ⟨Nat.le_refl _, rfl, Nat.le_refl _, fun _ _ _ => rfl, fun _ _ h => h, fun h => h, fun h => h⟩

theorem Abs.trans {s s1 s2 : AState} (h : Abs s s1) (k : Abs s1 s2) : Abs s s2 := by
  have h1 := h.next; have h2 := k.next; have h3 := h.low; have h4 := k.low
  exact ⟨by omega, k.ro.trans h.ro, by omega, fun b hb hl => (k.same b (by omega) hl).trans (h.same b hb (by omega)), fun b hb hl => h.live b hb (k.live b (by omega) hl), fun hd => k.dom (h.dom hd), fun ht => k.top (h.top ht)⟩

theorem Abs.alloc {s s' : AState} {o : AObj} (h : s.alloc o = .ok s') : Abs s s' := by
  obtain ⟨⟨e1, e1'⟩, e2, e3, e4⟩ := alloc_ok h
  exact ⟨by omega, e3, by omega, fun b hb _ => by rw [e4, if_neg (by omega)], fun b hb => by rw [e4, if_neg (by omega)]; exact id, fun hd b hb => by
    rw [e4] at hb
    by_cases hq : b = s.next
    · omega
    · rw [if_neg hq] at hb; have := hd b hb; omega, fun _ => by omega⟩

theorem Abs.put {s s' : AState} {b : Nat} {o : Option AObj} (h : s.put b o = .ok s') (hl : s.heap.get b ≠ none) : Abs s s' := by
  obtain ⟨e1, e2, e3, e4⟩ := put_ok' h
  refine ⟨by omega, e3, by omega, fun a ha hb => by rw [e4, if_neg (by omega)], fun a ha => ?_, fun hd a ha => ?_, fun _ => by omega⟩
  · rw [e4]
    by_cases hq : a = b
    · subst hq; exact fun _ => hl
    · rw [if_neg hq]; exact id
  · rw [e1]
    rw [e4] at ha
    by_cases hq : a = b
    · subst hq; exact hd a hl
    · rw [if_neg hq] at ha; exact hd a ha

theorem Abs.write {s s' : AState} {b : Nat} {o : AObj} (h : s.write b o = .ok s') (hl : s.heap.get b ≠ none) : Abs s s' := by
  obtain ⟨_, e1, e2, e3, e4⟩ := write_ok' h
  refine ⟨by omega, e3, by omega, fun a ha hb => by rw [e4, if_neg (by omega)], fun a ha => ?_, fun hd a ha => ?_, fun _ => by omega⟩
  · rw [e4]
    by_cases hq : a = b
    · subst hq; exact fun _ => hl
    · rw [if_neg hq]; exact id
  · rw [e1]
    rw [e4] at ha
    by_cases hq : a = b
    · subst hq; exact hd a hl
    · rw [if_neg hq] at ha; exact hd a ha

section
variable {P : Program} {ev : Operand → R AVal} {s s' : AState} {nx : ANext}

theorem okv_abs {v : AVal} (h : okv v s = .ok (nx, s')) : Abs s s' := by
  obtain ⟨_, rfl⟩ := okv_ok h
  exact Abs.refl _

theorem storeCells_abs {b o : Nat} {vs : List AVal} (h : storeCellsA s b o vs = .ok s') : Abs s s' := by
  unfold storeCellsA at h
  replace h := R.bind_ok' h
  obtain ⟨ob, h1, h⟩ := h
  split at h
  · replace h := R.bind_ok' h
    obtain ⟨_, _, h⟩ := h
    exact Abs.write h (by rw [get_ok h1]; simp)
  · cases h

theorem mapOf_live {m : AVal} {b : Nat} {es : List AEntry} {c : Nat} (h : mapOf s m = .ok (b, es, c)) : s.heap.get b = some (.map es c) := by
  unfold mapOf at h
  split at h
  · replace h := R.bind_ok' h
    obtain ⟨o, h1, h⟩ := h
    split at h
    · cases h; exact get_ok h1
    · cases h
  · cases h

theorem appendNew_abs {esz n m : Nat} {cs : List AVal} {r : AVal × AState} (h : appendNew s esz n m cs = .ok r) : Abs s r.2 := by
  unfold appendNew at h
  simp only [allocS_eq] at h
  replace h := R.bind_ok' h
  obtain ⟨_, _, h⟩ := h
  replace h := R.bind_ok' h
  obtain ⟨s1, h1, h⟩ := h
  cases h
  exact Abs.alloc h1

theorem appendIn_abs {b o n m esz : Nat} {cap : ACap} {new : List AVal} {r : AVal × AState} (h : appendIn s b o n m esz cap new = .ok r) : Abs s r.2 := by
  unfold appendIn at h
  replace h := R.bind_ok' h
  obtain ⟨s1, h1, h⟩ := h
  cases h
  exact storeCells_abs h1

theorem appendA_abs {sT yT : TypeId} {x y : AVal} {r : AVal × AState} (h : appendA P s sT yT x y = .ok r) : Abs s r.2 := by
  unfold appendA at h
  replace h := R.bind_ok' h
  obtain ⟨d1, _, h⟩ := h
  replace h := R.bind_ok' h
  obtain ⟨d2, _, h⟩ := h
  split at h
  case h_2 => cases h
  replace h := R.bind_ok' h
  obtain ⟨_, _, h⟩ := h
  replace h := R.bind_ok' h
  obtain ⟨_, _, h⟩ := h
  replace h := R.bind_ok' h
  obtain ⟨_, _, h⟩ := h
  replace h := R.bind_ok' h
  obtain ⟨_, _, h⟩ := h
  replace h := R.bind_ok' h
  obtain ⟨_, _, h⟩ := h
  replace h := R.bind_ok' h
  obtain ⟨_, _, h⟩ := h
  replace h := R.bind_ok' h
  obtain ⟨_, _, h⟩ := h
  unfold appendTo at h
  split at h
  · replace h := R.bind_ok' h
    obtain ⟨_, _, h⟩ := h
    rename_i m _ _ _ _ _ _
    revert h
    cases Nat.beq _ 0 with
    | true => intro h; cases h; exact Abs.refl _
    | false => intro h; exact appendNew_abs h
  · rename_i n c
    revert h
    cases Nat.ble _ _ with
    | true =>
      cases Nat.beq _ 0 with
      | true => intro h; cases h; exact Abs.refl _
      | false => intro h; exact appendIn_abs h
    | false =>
      intro h
      replace h := R.bind_ok' h
      obtain ⟨_, _, h⟩ := h
      replace h := R.bind_ok' h
      obtain ⟨_, _, h⟩ := h
      exact appendNew_abs h
  · replace h := R.bind_ok' h
    obtain ⟨_, _, h⟩ := h
    replace h := R.bind_ok' h
    obtain ⟨ob, h1, h⟩ := h
    split at h
    · unfold appendGrown at h
      replace h := R.bind_ok' h
      obtain ⟨_, _, h⟩ := h
      revert h
      cases Nat.ble _ _ with
      | true => intro h; exact appendIn_abs h
      | false =>
        intro h
        replace h := R.bind_ok' h
        obtain ⟨_, _, h⟩ := h
        replace h := R.bind_ok' h
        obtain ⟨s1, h2, h⟩ := h
        exact (Abs.put h2 (by rw [get_ok h1]; simp)).trans (appendNew_abs h)
    · cases h
  · cases h

theorem abuiltin_abs {b : Builtin} {ts : List TypeId} {args : List AVal} {r : AVal × AState} (h : abuiltin P s b ts args = .ok r) : Abs s r.2 := by
  unfold abuiltin at h
  split at h
  · split at h
    · exact appendA_abs h
    · cases h
  · split at h
    · replace h := R.bind_ok' h
      obtain ⟨_, _, h⟩ := h
      cases h; exact Abs.refl _
    · cases h
  · replace h := R.bind_ok' h
    obtain ⟨_, _, h⟩ := h
    cases h; exact Abs.refl _
  · replace h := R.bind_ok' h
    obtain ⟨_, _, h⟩ := h
    cases h; exact Abs.refl _
  · split at h
    · unfold deleteA at h
      replace h := R.bind_ok' h
      obtain ⟨_, _, h⟩ := h
      replace h := R.bind_ok' h
      obtain ⟨_, _, h⟩ := h
      replace h := R.bind_ok' h
      obtain ⟨⟨b, es, c⟩, h1, h⟩ := h
      replace h := R.bind_ok' h
      obtain ⟨q, _, h⟩ := h
      cases q with
      | none => cases h; exact Abs.refl _
      | some p =>
        replace h := R.bind_ok' h
        obtain ⟨s1, h2, h⟩ := h
        cases h
        exact Abs.write h2 (by rw [mapOf_live h1]; simp)
    · cases h
  · split at h
    · unfold copyA at h
      replace h := R.bind_ok' h
      obtain ⟨_, _, h⟩ := h
      split at h
      case h_2 => cases h
      replace h := R.bind_ok' h
      obtain ⟨_, _, h⟩ := h
      replace h := R.bind_ok' h
      obtain ⟨_, _, h⟩ := h
      replace h := R.bind_ok' h
      obtain ⟨_, _, h⟩ := h
      replace h := R.bind_ok' h
      obtain ⟨_, _, h⟩ := h
      unfold copyTo at h
      split at h
      · replace h := R.bind_ok' h
        obtain ⟨s1, h2, h⟩ := h
        cases h
        exact storeCells_abs h2
      · cases h; exact Abs.refl _
      · cases h
    · cases h
  · split at h
    · unfold clearA at h
      replace h := R.bind_ok' h
      obtain ⟨_, _, h⟩ := h
      split at h
      case h_2 => cases h
      replace h := R.bind_ok' h
      obtain ⟨_, _, h⟩ := h
      replace h := R.bind_ok' h
      obtain ⟨s1, h2, h⟩ := h
      cases h
      exact storeCells_abs h2
    · cases h
  · rename_i k a k' b
    revert h
    cases decide (k = k') with
    | true => intro h; cases h; exact Abs.refl _
    | false => intro h; cases h
  · cases h; exact Abs.refl _
  · cases h; exact Abs.refl _
  · cases h

theorem mapPut_abs {b : Nat} {es : List AEntry} {c : Nat} {k : Value} {v : AVal} (h : mapPut s b es c k v = .ok s') (hl : s.heap.get b ≠ none) : Abs s s' := by
  unfold mapPut at h
  replace h := R.bind_ok' h
  obtain ⟨q, _, h⟩ := h
  cases q with
  | none => exact Abs.write h hl
  | some p => exact Abs.write h hl

theorem aop_abs {o : Oper} (h : aop P ev o s = .ok (nx, s')) : Abs s s' := by
  unfold aop at h
  generalize o.op = op at h
  cases op with
  | move x => unfold opMove at h; replace h := R.bind_ok' h; obtain ⟨_, _, h⟩ := h; exact okv_abs h
  | assign x => unfold opMove at h; replace h := R.bind_ok' h; obtain ⟨_, _, h⟩ := h; exact okv_abs h
  | pick c a b =>
    unfold opPick at h
    replace h := R.bind_ok' h; obtain ⟨_, _, h⟩ := h
    replace h := R.bind_ok' h; obtain ⟨_, _, h⟩ := h
    replace h := R.bind_ok' h; obtain ⟨_, _, h⟩ := h
    replace h := R.bind_ok' h; obtain ⟨_, _, h⟩ := h
    exact okv_abs h
  | alloc t =>
    unfold opAlloc at h
    replace h := R.bind_ok' h; obtain ⟨_, _, h⟩ := h
    replace h := R.bind_ok' h; obtain ⟨s1, h1, h⟩ := h
    exact (Abs.alloc h1).trans (okv_abs h)
  | box t x =>
    unfold opBox at h
    replace h := R.bind_ok' h; obtain ⟨_, _, h⟩ := h
    replace h := R.bind_ok' h; obtain ⟨_, _, h⟩ := h
    replace h := R.bind_ok' h; obtain ⟨s1, h1, h⟩ := h
    exact (Abs.alloc h1).trans (okv_abs h)
  | build t ps =>
    unfold opBuild at h
    replace h := R.bind_ok' h; obtain ⟨_, _, h⟩ := h
    replace h := R.bind_ok' h; obtain ⟨_, _, h⟩ := h
    replace h := R.bind_ok' h; obtain ⟨_, _, h⟩ := h
    split at h
    · replace h := R.bind_ok' h; obtain ⟨_, _, h⟩ := h
      replace h := R.bind_ok' h; obtain ⟨_, _, h⟩ := h
      exact okv_abs h
    · replace h := R.bind_ok' h; obtain ⟨_, _, h⟩ := h
      replace h := R.bind_ok' h; obtain ⟨_, _, h⟩ := h
      exact okv_abs h
    · cases h
  | buildSlice t n ps =>
    unfold opBuildSlice at h
    replace h := R.bind_ok' h; obtain ⟨_, _, h⟩ := h
    split at h
    · replace h := R.bind_ok' h; obtain ⟨_, _, h⟩ := h
      replace h := R.bind_ok' h; obtain ⟨_, _, h⟩ := h
      replace h := R.bind_ok' h; obtain ⟨_, _, h⟩ := h
      replace h := R.bind_ok' h; obtain ⟨_, _, h⟩ := h
      replace h := R.bind_ok' h; obtain ⟨_, _, h⟩ := h
      replace h := R.bind_ok' h; obtain ⟨_, _, h⟩ := h
      replace h := R.bind_ok' h; obtain ⟨_, _, h⟩ := h
      replace h := R.bind_ok' h; obtain ⟨s1, h1, h⟩ := h
      exact (Abs.alloc h1).trans (okv_abs h)
    · cases h
  | insert t m k v | mapUpdate t m k v =>
    unfold opMapUpdate at h
    replace h := R.bind_ok' h; obtain ⟨_, _, h⟩ := h
    replace h := R.bind_ok' h; obtain ⟨_, _, h⟩ := h
    replace h := R.bind_ok' h; obtain ⟨_, _, h⟩ := h
    replace h := R.bind_ok' h; obtain ⟨_, _, h⟩ := h
    replace h := R.bind_ok' h; obtain ⟨_, _, h⟩ := h
    replace h := R.bind_ok' h; obtain ⟨⟨b, es, c⟩, h1, h⟩ := h
    replace h := R.bind_ok' h; obtain ⟨s1, h2, h⟩ := h
    exact (mapPut_abs h2 (by rw [mapOf_live h1]; simp)).trans (okv_abs h)
  | load t x =>
    unfold opLoad at h
    replace h := R.bind_ok' h; obtain ⟨_, _, h⟩ := h
    replace h := R.bind_ok' h; obtain ⟨_, _, h⟩ := h
    replace h := R.bind_ok' h; obtain ⟨_, _, h⟩ := h
    exact okv_abs h
  | store t x v =>
    unfold opStore at h
    replace h := R.bind_ok' h; obtain ⟨_, _, h⟩ := h
    replace h := R.bind_ok' h; obtain ⟨_, _, h⟩ := h
    replace h := R.bind_ok' h; obtain ⟨_, _, h⟩ := h
    replace h := R.bind_ok' h; obtain ⟨s1, h1, h⟩ := h
    unfold storeA at h1
    replace h1 := R.bind_ok' h1; obtain ⟨_, _, h1⟩ := h1
    replace h1 := R.bind_ok' h1; obtain ⟨_, _, h1⟩ := h1
    exact (storeCells_abs h1).trans (okv_abs h)
  | nilCheck x =>
    unfold opNilCheck at h
    replace h := R.bind_ok' h; obtain ⟨_, _, h⟩ := h
    replace h := R.bind_ok' h; obtain ⟨_, _, h⟩ := h
    exact okv_abs h
  | binOp op t x y yt =>
    unfold opBinOp at h
    replace h := R.bind_ok' h; obtain ⟨_, _, h⟩ := h
    replace h := R.bind_ok' h; obtain ⟨_, _, h⟩ := h
    replace h := R.bind_ok' h; obtain ⟨_, _, h⟩ := h
    exact okv_abs h
  | unOp op t x =>
    unfold opUnOp at h
    replace h := R.bind_ok' h; obtain ⟨_, _, h⟩ := h
    split at h
    · replace h := R.bind_ok' h; obtain ⟨_, _, h⟩ := h
      exact okv_abs h
    · cases h
  | convert a b x =>
    unfold opConvert at h
    replace h := R.bind_ok' h; obtain ⟨_, _, h⟩ := h
    split at h
    · replace h := R.bind_ok' h; obtain ⟨_, _, h⟩ := h
      exact okv_abs h
    · cases h
  | makeFunc fn first caps => cases fn with
    | func f =>
      replace h : opMakeFunc P ev f first caps s = .ok (nx, s') := h
      unfold opMakeFunc at h
      replace h := R.bind_ok' h; obtain ⟨_, _, h⟩ := h
      replace h := R.bind_ok' h; obtain ⟨_, _, h⟩ := h
      exact okv_abs h
    | _ => cases h
  | makeMap t r => cases r with
    | none =>
      replace h : opMakeMap P ev s = .ok (nx, s') := h
      unfold opMakeMap at h
      replace h := R.bind_ok' h; obtain ⟨s1, h1, h⟩ := h
      exact (Abs.alloc h1).trans (okv_abs h)
    | some _ => cases h
  | makeSlice t l c =>
    unfold opMakeSlice at h
    replace h := R.bind_ok' h; obtain ⟨_, _, h⟩ := h
    split at h
    · replace h := R.bind_ok' h; obtain ⟨_, _, h⟩ := h
      replace h := R.bind_ok' h; obtain ⟨⟨k, li⟩, _, h⟩ := h
      replace h := R.bind_ok' h; obtain ⟨_, _, h⟩ := h
      replace h := R.bind_ok' h; obtain ⟨⟨k', ci⟩, _, h⟩ := h
      replace h := R.bind_ok' h; obtain ⟨_, _, h⟩ := h
      replace h := R.bind_ok' h; obtain ⟨_, _, h⟩ := h
      replace h := R.bind_ok' h; obtain ⟨_, _, h⟩ := h
      replace h := R.bind_ok' h; obtain ⟨_, _, h⟩ := h
      rcases li with len | len <;> rcases ci with cap | cap <;> simp only [] at h
      · replace h := R.bind_ok' h; obtain ⟨_, _, h⟩ := h
        replace h := R.bind_ok' h; obtain ⟨s1, h1, h⟩ := h
        exact (Abs.alloc h1).trans (okv_abs h)
      all_goals cases h
    · cases h
  | slice t x lo hi mx =>
    unfold opSlice at h
    replace h := R.bind_ok' h; obtain ⟨_, _, h⟩ := h
    replace h := R.bind_ok' h; obtain ⟨_, _, h⟩ := h
    replace h := R.bind_ok' h; obtain ⟨_, _, h⟩ := h
    replace h := R.bind_ok' h; obtain ⟨_, _, h⟩ := h
    replace h := R.bind_ok' h; obtain ⟨_, _, h⟩ := h
    exact okv_abs h
  | fieldAddr t x f =>
    unfold opFieldAddr at h
    replace h := R.bind_ok' h; obtain ⟨_, _, h⟩ := h
    replace h := R.bind_ok' h; obtain ⟨_, _, h⟩ := h
    replace h := R.bind_ok' h; obtain ⟨_, _, h⟩ := h
    split at h
    · replace h := R.bind_ok' h; obtain ⟨_, _, h⟩ := h
      replace h := R.bind_ok' h; obtain ⟨_, _, h⟩ := h
      replace h := R.bind_ok' h; obtain ⟨_, _, h⟩ := h
      exact okv_abs h
    · cases h
  | field t x f =>
    unfold opField at h
    replace h := R.bind_ok' h; obtain ⟨_, _, h⟩ := h
    replace h := R.bind_ok' h; obtain ⟨_, _, h⟩ := h
    split at h
    · replace h := R.bind_ok' h; obtain ⟨_, _, h⟩ := h
      replace h := R.bind_ok' h; obtain ⟨_, _, h⟩ := h
      exact okv_abs h
    · cases h
  | indexAddr t x i =>
    unfold opIndexAddr at h
    replace h := R.bind_ok' h; obtain ⟨_, _, h⟩ := h
    replace h := R.bind_ok' h; obtain ⟨_, _, h⟩ := h
    replace h := R.bind_ok' h; obtain ⟨_, _, h⟩ := h
    replace h := R.bind_ok' h; obtain ⟨_, _, h⟩ := h
    split at h
    · replace h := R.bind_ok' h; obtain ⟨_, _, h⟩ := h
      replace h := R.bind_ok' h; obtain ⟨_, _, h⟩ := h
      exact okv_abs h
    · replace h := R.bind_ok' h; obtain ⟨_, _, h⟩ := h
      replace h := R.bind_ok' h; obtain ⟨_, _, h⟩ := h
      exact okv_abs h
    · cases h
  | index t x i =>
    unfold opIndex at h
    replace h := R.bind_ok' h; obtain ⟨_, _, h⟩ := h
    replace h := R.bind_ok' h; obtain ⟨_, _, h⟩ := h
    replace h := R.bind_ok' h; obtain ⟨_, _, h⟩ := h
    replace h := R.bind_ok' h; obtain ⟨_, _, h⟩ := h
    split at h
    · replace h := R.bind_ok' h; obtain ⟨_, _, h⟩ := h
      replace h := R.bind_ok' h; obtain ⟨_, _, h⟩ := h
      replace h := R.bind_ok' h; obtain ⟨_, _, h⟩ := h
      exact okv_abs h
    · split at h
      · replace h := R.bind_ok' h; obtain ⟨_, _, h⟩ := h
        exact okv_abs h
      · cases h
    · cases h
  | lookup t x k ok =>
    unfold opLookup at h
    replace h := R.bind_ok' h; obtain ⟨_, _, h⟩ := h
    replace h := R.bind_ok' h; obtain ⟨_, _, h⟩ := h
    replace h := R.bind_ok' h; obtain ⟨_, _, h⟩ := h
    replace h := R.bind_ok' h; obtain ⟨_, _, h⟩ := h
    replace h := R.bind_ok' h; obtain ⟨_, _, h⟩ := h
    replace h := R.bind_ok' h; obtain ⟨_, _, h⟩ := h
    exact okv_abs h
  | mapEntry t m k =>
    unfold opMapEntry at h
    replace h := R.bind_ok' h; obtain ⟨_, _, h⟩ := h
    replace h := R.bind_ok' h; obtain ⟨_, _, h⟩ := h
    replace h := R.bind_ok' h; obtain ⟨_, _, h⟩ := h
    replace h := R.bind_ok' h; obtain ⟨_, _, h⟩ := h
    replace h := R.bind_ok' h; obtain ⟨⟨b, es, c⟩, h1, h⟩ := h
    replace h := R.bind_ok' h; obtain ⟨q, _, h⟩ := h
    cases q with
    | none =>
      replace h := R.bind_ok' h; obtain ⟨_, _, h⟩ := h
      replace h := R.bind_ok' h; obtain ⟨s1, h2, h⟩ := h
      exact (Abs.write h2 (by rw [mapOf_live h1]; simp)).trans (okv_abs h)
    | some p =>
      replace h := R.bind_ok' h; obtain ⟨s1, h2, h⟩ := h
      exact (Abs.write h2 (by rw [mapOf_live h1]; simp)).trans (okv_abs h)
  | entryStore t m st v =>
    unfold opEntryStore at h
    replace h := R.bind_ok' h; obtain ⟨_, _, h⟩ := h
    replace h := R.bind_ok' h; obtain ⟨⟨k, si⟩, _, h⟩ := h
    replace h := R.bind_ok' h; obtain ⟨_, _, h⟩ := h
    replace h := R.bind_ok' h; obtain ⟨_, _, h⟩ := h
    replace h := R.bind_ok' h; obtain ⟨⟨b, es, c⟩, h1, h⟩ := h
    simp only [] at h
    cases hi : es.findIdx? (fun e => (e.born : Int) == si) with
    | none => rw [hi] at h; cases h
    | some i =>
      rw [hi] at h
      simp only [] at h
      replace h := R.bind_ok' h; obtain ⟨s1, h2, h⟩ := h
      exact (Abs.write h2 (by rw [mapOf_live h1]; simp)).trans (okv_abs h)
  | range t x =>
    unfold opRange at h
    replace h := R.bind_ok' h; obtain ⟨_, _, h⟩ := h
    replace h := R.bind_ok' h; obtain ⟨_, _, h⟩ := h
    split at h
    · replace h := R.bind_ok' h; obtain ⟨s1, h1, h⟩ := h
      exact (Abs.alloc h1).trans (okv_abs h)
    · replace h := R.bind_ok' h; obtain ⟨_, _, h⟩ := h
      split at h
      · replace h := R.bind_ok' h; obtain ⟨s1, h1, h⟩ := h
        exact (Abs.alloc h1).trans (okv_abs h)
      · cases h
    · cases h
  | next it b => cases b with
    | false =>
      replace h : opNext ev it s = .ok (nx, s') := h
      unfold opNext at h
      replace h := R.bind_ok' h; obtain ⟨_, _, h⟩ := h
      replace h := R.bind_ok' h; obtain ⟨⟨r, o⟩, _, h⟩ := h
      replace h := R.bind_ok' h; obtain ⟨_, _, h⟩ := h
      replace h := R.bind_ok' h; obtain ⟨ob, hg, h⟩ := h
      split at h
      · exact okv_abs h
      · replace h := R.bind_ok' h; obtain ⟨_, _, h⟩ := h
        split at h
        · replace h := R.bind_ok' h; obtain ⟨_, _, h⟩ := h
          split at h
          · exact okv_abs h
          · replace h := R.bind_ok' h; obtain ⟨_, _, h⟩ := h
            replace h := R.bind_ok' h; obtain ⟨s1, h1, h⟩ := h
            exact (Abs.write h1 (by rw [get_ok hg]; simp)).trans (okv_abs h)
          · cases h; exact Abs.refl _
        · cases h
      · cases h
    | true => cases h
  | entry it =>
    unfold opEntry at h
    replace h := R.bind_ok' h; obtain ⟨_, _, h⟩ := h
    replace h := R.bind_ok' h; obtain ⟨⟨r, o⟩, _, h⟩ := h
    replace h := R.bind_ok' h; obtain ⟨_, _, h⟩ := h
    replace h := R.bind_ok' h; obtain ⟨_, _, h⟩ := h
    split at h
    · replace h := R.bind_ok' h; obtain ⟨_, _, h⟩ := h
      split at h
      · replace h := R.bind_ok' h; obtain ⟨_, _, h⟩ := h
        replace h := R.bind_ok' h; obtain ⟨st, _, h⟩ := h
        split at h
        · replace h := R.bind_ok' h; obtain ⟨_, _, h⟩ := h
          exact okv_abs h
        · cases h
      · cases h
    · cases h
  | extract t i =>
    unfold opExtract at h
    replace h := R.bind_ok' h; obtain ⟨_, _, h⟩ := h
    split at h
    · replace h := R.bind_ok' h; obtain ⟨_, _, h⟩ := h
      exact okv_abs h
    · cases h
  | call c =>
    unfold opCall at h
    replace h := R.bind_ok' h; obtain ⟨_, _, h⟩ := h
    split at h
    · replace h := R.bind_ok' h; obtain ⟨⟨v, s1⟩, h1, h⟩ := h
      exact (abuiltin_abs (r := (v, s1)) h1).trans (okv_abs h)
    · replace h := R.bind_ok' h; obtain ⟨_, _, h⟩ := h
      split at h
      · replace h := R.bind_ok' h; obtain ⟨_, _, h⟩ := h
        cases h; exact Abs.refl _
      · cases h
    · cases h
  | _ => cases h

end
end Go.Am
