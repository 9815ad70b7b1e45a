/-
  Package seat: one step of each kind.
-/
import Derived.Test.YthhfokbfdeghpaaSeatK
import Derived.Test.YthhfokbfdeghpaaSeatR
namespace Go.Proofs.Ythhfokbfdeghpaa
open Go Go.RowKit Go.Maps Go.Am
set_option linter.unusedVariables false

/-- Seats, whatever they hold. -/
def SeatS (w : World) (S C P O B b K bt bf n N : Nat) : Prop := ∃ (now ph : Nat → Nat) (ow : Nat → Bool) (L : List (Int × Int)), SeatAt w S C P O B b K bt bf n N now ph ow L

/-- What is behind a step. -/
def Step (w : World) (S C P O B b K bt bf n N : Nat) (w' : World) : Prop := SeatS w' S C P O B b K bt bf n (N + 1) ∧ GrowBut w w' (turns C P O b bt bf)

theorem Step.stay {w w' : World} {S C P O B b K bt bf n N : Nat} {now ph : Nat → Nat} {ow : Nat → Bool} {L : List (Int × Int)} (h : SeatAt w S C P O B b K bt bf n N now ph ow L) (hg : GrowBut w w' []) : Step w S C P O B b K bt bf n N w' :=
  ⟨⟨_, _, _, _, (h.kept hg).more (by omega)⟩, hg.mono (by simp)⟩

theorem step_run {w : World} {S C P O B b K bt bf n N : Nat} {now ph : Nat → Nat} {ow : Nat → Bool} {L : List (Int × Int)} (h : SeatAt w S C P O B b K bt bf n N now ph ow L) (c p : Nat) (hc : c < n) (hp5 : p < 5) :
    Calls Try.prog 45 #[.pointer (some ⟨S, 0, none⟩), .int .i64 c, .int .i64 p] w fun e w' => (∃ er, e = .returned (.int .i64 er)) ∧ Step w S C P O B b K bt bf n N w' := by
  by_cases h0 : now c = 0
  · by_cases hp : 1 ≤ p
    · by_cases hL : (p : Int) ∈ L.map Prod.snd
      · exact (run_called c p w h hc hp hp5 h0 hL).mono fun e w' ⟨h1, h2⟩ => ⟨⟨_, h1⟩, .stay h (by rw [h2]; exact .refl _ _)⟩
      · exact (run_free c p w h hc hp hp5 h0 hL).mono fun e w' ⟨h1, ⟨a1, a2, a3, a4, h2⟩, h3⟩ => ⟨h1, ⟨a1, a2, a3, a4, h2.more (by omega)⟩, h3⟩
    · obtain rfl : p = 0 := by omega
      exact (run_arg c w h hc h0).mono fun e w' ⟨h1, h2⟩ => ⟨⟨_, h1⟩, .stay h (by rw [h2]; exact .refl _ _)⟩
  · exact (run_busy c p w h hc h0).mono fun e w' ⟨h1, h2⟩ => ⟨⟨_, h1⟩, .stay h (by rw [h2]; exact .refl _ _)⟩

theorem step_call {w : World} {S C P O B b K bt bf n N : Nat} {now ph : Nat → Nat} {ow : Nat → Bool} {L : List (Int × Int)} (h : SeatAt w S C P O B b K bt bf n N now ph ow L) (c t : Nat) (r : Value) (hc : c < n) (ht5 : t < 5) (hr : IsRegs r) (hN : N ≤ 10000) :
    Calls Try.prog 46 #[.pointer (some ⟨S, 0, none⟩), .int .i64 c, .int .i64 t, r] w fun e w' => (∃ er, e = .returned (.int .i64 er)) ∧ Step w S C P O B b K bt bf n N w' := by
  by_cases h1 : 1 ≤ t
  · by_cases hs : t = now c
    · exact (call_self c t r w h hc ht5 hr h1 hs).mono fun e w' ⟨h1, h2⟩ => ⟨⟨_, h1⟩, .stay h h2⟩
    · by_cases hph : ph t = 1
      · by_cases h0 : now c = 0
        · exact (call_ok0 c t r w h hc h1 ht5 hr h0 hph).mono fun e w' ⟨h1, ⟨a1, a2, a3, a4, h2⟩, h3⟩ => ⟨⟨_, h1⟩, ⟨a1, a2, a3, a4, h2⟩, h3⟩
        · obtain ⟨m, hm, hch⟩ := h.chain
          obtain ⟨kt, zt, he⟩ := hch.ends (t : Int)
          have h5 := h.inv.lt c hc
          by_cases hno : (now c : Int) = (t : Int) ∨ (now c : Int) ∈ L.map Prod.fst ∨ (t : Int) ∈ L.map Prod.snd ∨ zt = (now c : Int)
          · refine (call_no4 c t r w h hc h1 ht5 hr h0 hph fun w2 h2 => ?_).mono fun e w' ⟨h1, h2⟩ => ⟨⟨_, h1⟩, .stay h h2⟩
            obtain ⟨m2, _, hc2⟩ := h2
            exact call_no K bt bf m2 L (now c) t w2 hc2 (wf_small (by omega)) (wf_small (by omega)) he hno
          · refine (call_okp c t r w h hc h1 ht5 hr h0 hph (by omega) fun w2 h2 => ?_).mono fun e w' ⟨h1, ⟨a1, a2, a3, a4, h2⟩, h3⟩ => ⟨⟨_, h1⟩, ⟨a1, a2, a3, a4, h2⟩, h3⟩
            obtain ⟨m2, hm2, hc2⟩ := h2
            exact (call_ok K bt bf m2 L (now c) t w2 hc2 (wf_small (by omega)) (wf_small (by omega)) (fun e => hno (.inl e)) (fun e => hno (.inr (.inl e))) (fun e => hno (.inr (.inr (.inl e)))) he (fun e => hno (.inr (.inr (.inr e)))) (by omega)).mono fun r w' ⟨h1, h2, h3⟩ => ⟨h1, ⟨m2 + 1, by omega, h2⟩, h3⟩
      · exact (call_busy c t r w h hc h1 ht5 hr hs hph).mono fun e w' ⟨h1, h2⟩ => ⟨⟨_, h1⟩, .stay h h2⟩
  · exact (call_zero c t r w h hc ht5 hr (by omega)).mono fun e w' ⟨h1, h2⟩ => ⟨⟨_, h1⟩, .stay h h2⟩

theorem step_answer {w : World} {S C P O B b K bt bf n N : Nat} {now ph : Nat → Nat} {ow : Nat → Bool} {L : List (Int × Int)} (h : SeatAt w S C P O B b K bt bf n N now ph ow L) (c : Nat) (r : Value) (hc : c < n) (hr : IsRegs r) (hN : N ≤ 10000) :
    Calls Try.prog 47 #[.pointer (some ⟨S, 0, none⟩), .int .i64 c, r] w fun e w' => (∃ er, e = .returned (.int .i64 er)) ∧ Step w S C P O B b K bt bf n N w' := by
  by_cases hno : now c = 0 ∨ ow (now c) = false
  · exact (answer_no c r w h hc hr hno).mono fun e w' ⟨h1, h2⟩ => ⟨⟨_, h1⟩, .stay h h2⟩
  · have h0 : now c ≠ 0 := fun e => hno (.inl e)
    have h1 : ow (now c) = true := by
      cases e : ow (now c) with
      | true => rfl
      | false => exact absurd (.inr e) hno
    exact (answer_ok c r w h hc hr h0 h1 (by omega)).mono fun e w' ⟨h1, ⟨a1, a2, a3, a4, h2⟩, h3⟩ => ⟨⟨_, h1⟩, ⟨a1, a2, a3, a4, h2⟩, h3⟩

theorem step_leave {w : World} {S C P O B b K bt bf n N : Nat} {now ph : Nat → Nat} {ow : Nat → Bool} {L : List (Int × Int)} (h : SeatAt w S C P O B b K bt bf n N now ph ow L) (c : Nat) (ev : Int) (own r : Value) (hc : c < n) (hev : ev = 6 ∨ ev = 7 ∨ ev = 8) (ho : IsRegs own) (hr : IsRegs r) (hN : N ≤ 10000) :
    Calls Try.prog 48 #[.pointer (some ⟨S, 0, none⟩), .int .i64 c, .int .i64 ev, own, r] w fun e w' => (∃ er, e = .returned (.int .i64 er) ∧ (ev = 8 → now c ≠ 0 → er = 0)) ∧ Step w S C P O B b K bt bf n N w' := by
  by_cases hno : now c = 0 ∨ (ev = 7 ∧ ow (now c) = true)
  · refine (leave_no c ev own r w h hc hev ho hr hno).mono fun e w' ⟨h1, h2⟩ => ⟨⟨_, h1, fun e8 hn => ?_⟩, .stay h h2⟩
    rcases hno with e | ⟨e, _⟩
    · exact absurd e hn
    · omega
  · have h0 : now c ≠ 0 := fun e => hno (.inl e)
    refine (leave_ok c ev own r w h hc hev ho hr h0 (fun e7 => ?_) (by omega)).mono fun e w' ⟨h1, ⟨ph', h2⟩, h3⟩ => ⟨⟨_, h1, fun _ _ => rfl⟩, ⟨_, _, _, _, h2⟩, h3⟩
    cases e : ow (now c) with
    | false => rfl
    | true => exact absurd (.inr ⟨e7, e⟩) hno

end Go.Proofs.Ythhfokbfdeghpaa
