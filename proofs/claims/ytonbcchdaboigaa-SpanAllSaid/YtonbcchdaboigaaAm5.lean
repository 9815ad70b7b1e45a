/-
  The abstract machine's operations against the model's, one by one: what only computes.
-/
import Derived.Test.YtonbcchdaboigaaAm4
namespace Go.Am
open Go Go.RowKit
set_option linter.unusedVariables false

section
variable {σ : Syms} {N0 : Nat} {w0 : World} {P : Program} {ev : Operand → R AVal} {e : Operand → Value} {ρ : Ren} {s s' : AState} {w : World} {nx : ANext}

theorem asBoolLit_ok {a : AVal} {b : Bool} {u : Value} (h : asBoolLit a = .ok b) (hv : VRel σ ρ a u) : u = .bool b := by
  unfold asBoolLit at h
  split at h
  · cases h; exact hv.1
  · cases h

theorem asNatLit_ok {a : AVal} {p : IntKind × Int} {u : Value} (h : asNatLit a = .ok p) (hv : VRel σ ρ a u) : u = .int p.1 p.2 := by
  unfold asNatLit at h
  split at h
  · cases h; exact hv.1
  · cases h

theorem asPtr_ok {a : AVal} {p : Nat × Nat} {u : Value} (h : asPtr a = .ok p) (hv : VRel σ ρ a u) : ∃ L, ρ p.1 = some L ∧ u = .pointer (some ⟨L.blk, L.off + p.2, none⟩) := by
  unfold asPtr at h
  split at h
  · cases h; exact hv
  · cases h

theorem move_ok {x : Operand} (hw : WRel σ N0 w0 ρ s w) (hx : EvOk σ ρ ev e x) (h : opMove P ev x s = .ok (nx, s')) :
    NSem P σ N0 w0 (pure (.value (e x))) ρ s w nx s' := by
  unfold opMove at h
  obtain ⟨v, h1, h⟩ := R.bind_ok' h
  obtain ⟨rfl, rfl⟩ := okv_ok h
  exact ⟨v, rfl, e x, w, ρ, .inl rfl, hx v h1, Post.refl hw⟩

theorem pick_ok {c a b : Operand} (hw : WRel σ N0 w0 ρ s w) (hc : EvOk σ ρ ev e c) (ha : EvOk σ ρ ev e a) (hb : EvOk σ ρ ev e b) (h : opPick P ev c a b s = .ok (nx, s')) :
    NSem P σ N0 w0 (do pure (.value (if ← asBool (e c) then e a else e b))) ρ s w nx s' := by
  unfold opPick at h
  obtain ⟨c', h1, h⟩ := R.bind_ok' h
  obtain ⟨t, h2, h⟩ := R.bind_ok' h
  obtain ⟨a', h3, h⟩ := R.bind_ok' h
  obtain ⟨b', h4, h⟩ := R.bind_ok' h
  obtain ⟨rfl, rfl⟩ := okv_ok h
  have := asBoolLit_ok h2 (hc _ h1)
  refine ⟨_, rfl, if t then e a else e b, w, ρ, .inl ?_, ?_, Post.refl hw⟩
  · simp [this, asBool]
  · cases t
    · exact hb _ h4
    · exact ha _ h3

theorem unOp_ok {op : UnOp} {x : Operand} (hw : WRel σ N0 w0 ρ s w) (hx : EvOk σ ρ ev e x) (h : opUnOp P ev op x s = .ok (nx, s')) :
    NSem P σ N0 w0 (do pure (.value (← Op.unary op (e x)))) ρ s w nx s' := by
  unfold opUnOp at h
  obtain ⟨v, h1, h⟩ := R.bind_ok' h
  split at h
  · rename_i v'
    obtain ⟨r, h2, h⟩ := R.bind_ok' h
    obtain ⟨rfl, rfl⟩ := okv_ok h
    obtain ⟨u, h3, h4⟩ := litV_ok (σ := σ) h2
    have hx' := hx _ h1
    simp only [VRel] at hx'
    exact NSem.of_v (VSem.pure hw (by rw [hx'.1]; exact pureRun_ok w h3) (h4 ρ))
  · cases h

theorem convert_ok {a b : TypeId} {x : Operand} (hw : WRel σ N0 w0 ρ s w) (hx : EvOk σ ρ ev e x) (h : opConvert P ev a b x s = .ok (nx, s')) :
    NSem P σ N0 w0 (do pure (.value (← convert a b (e x)))) ρ s w nx s' := by
  unfold opConvert at h
  obtain ⟨v, h1, h⟩ := R.bind_ok' h
  split at h
  · rename_i v'
    obtain ⟨r, h2, h⟩ := R.bind_ok' h
    obtain ⟨rfl, rfl⟩ := okv_ok h
    obtain ⟨u, h3, h4⟩ := litV_ok (σ := σ) h2
    have hx' := hx _ h1
    simp only [VRel] at hx'
    exact NSem.of_v (VSem.pure hw (by rw [hx'.1]; exact pureRun_ok w h3) (h4 ρ))
  · cases h

/-! ### Comparisons with nil -/
/-- What was told of nil. -/
def NilIs (d : TypeDesc) (b : Bool) (u : Value) : Prop :=
  (∃ e, d = .pointer e ∧ ((b = true ∧ u = .pointer none) ∨ (b = false ∧ ∃ A, u = .pointer (some A)))) ∨
  (∃ e, d = .slice e ∧ ((b = true ∧ ∃ n c, u = .slice none n c) ∨ (b = false ∧ ∃ A n c, u = .slice (some A) n c))) ∨
  (∃ k e, d = .map k e ∧ ((b = true ∧ u = .map none) ∨ (b = false ∧ ∃ A, u = .map (some A)))) ∨
  (∃ p q v, d = .func p q v ∧ ((b = true ∧ u = .nilFunc) ∨ (b = false ∧ ∃ f a c, u = .func f a c)))

theorem nilOf_ok {d : TypeDesc} {a : AVal} {b : Bool} {u : Value} (h : nilOf d a = .ok b) (hv : VRel σ ρ a u) : NilIs d b u := by
  unfold nilOf at h
  split at h
  · cases h; exact .inl ⟨_, rfl, .inl ⟨rfl, hv.1⟩⟩
  · cases h; obtain ⟨L, _, h⟩ := hv; exact .inl ⟨_, rfl, .inr ⟨rfl, _, h⟩⟩
  · cases h; exact .inr (.inl ⟨_, rfl, .inl ⟨rfl, _, _, hv.1⟩⟩)
  · rename_i c
    cases h
    cases c with
    | known k => simp only [VRel] at hv; obtain ⟨L, _, h⟩ := hv; exact .inr (.inl ⟨_, rfl, .inr ⟨rfl, _, _, _, h⟩⟩)
    | grown k => simp only [VRel] at hv; obtain ⟨L, _, _, h, _⟩ := hv; exact .inr (.inl ⟨_, rfl, .inr ⟨rfl, _, _, _, h⟩⟩)
  · cases h; exact .inr (.inr (.inl ⟨_, _, rfl, .inl ⟨rfl, hv.1⟩⟩))
  · cases h; obtain ⟨L, _, h⟩ := hv; exact .inr (.inr (.inl ⟨_, _, rfl, .inr ⟨rfl, _, h⟩⟩))
  · cases h; exact .inr (.inr (.inr ⟨_, _, _, rfl, .inl ⟨rfl, hv.1⟩⟩))
  · cases h; obtain ⟨ws, h, _⟩ := hv; exact .inr (.inr (.inr ⟨_, _, _, rfl, .inr ⟨rfl, _, _, _, h⟩⟩))
  · cases h

theorem equalIn_nil (k : Nat) {t : TypeId} {d : TypeDesc} {a b c : Bool} {u v : Value} (hd : P.underlying t = some d) (hu : NilIs d a u) (hv : NilIs d b v)
    (hc : (match a, b with | true, true => some true | true, false => some false | false, true => some false | false, false => none) = some c) (w : World) : (Op.equalIn (k + 1) t u v).run P w = .ok c w := by
  have und : (underlying t).run P w = .ok d w := run_underlying hd w
  unfold Op.equalIn
  rw [Sem.run_bind, und, Result.andThen_ok]
  rcases hu with ⟨e, rfl, hu⟩ | ⟨e, rfl, hu⟩ | ⟨k, e, rfl, hu⟩ | ⟨p, q, r, rfl, hu⟩ <;> rcases hv with ⟨e', he, hv⟩ | ⟨e', he, hv⟩ | ⟨k', e', he, hv⟩ | ⟨p', q', r', he, hv⟩ <;> (try cases he)
  · rcases hu with ⟨rfl, rfl⟩ | ⟨rfl, A, rfl⟩ <;> rcases hv with ⟨rfl, rfl⟩ | ⟨rfl, B, rfl⟩ <;> simp at hc <;> subst hc <;> rfl
  · rcases hu with ⟨rfl, n, m, rfl⟩ | ⟨rfl, A, n, m, rfl⟩ <;> rcases hv with ⟨rfl, n', m', rfl⟩ | ⟨rfl, B, n', m', rfl⟩ <;> simp at hc <;> subst hc <;> rfl
  · rcases hu with ⟨rfl, rfl⟩ | ⟨rfl, A, rfl⟩ <;> rcases hv with ⟨rfl, rfl⟩ | ⟨rfl, B, rfl⟩ <;> simp at hc <;> subst hc <;> rfl
  · rcases hu with ⟨rfl, rfl⟩ | ⟨rfl, A, A', A'', rfl⟩ <;> rcases hv with ⟨rfl, rfl⟩ | ⟨rfl, B, B', B'', rfl⟩ <;> simp at hc <;> subst hc <;> rfl

theorem equal_nil {t : TypeId} {d : TypeDesc} {a b c : Bool} {u v : Value} (hd : P.underlying t = some d) (hu : NilIs d a u) (hv : NilIs d b v)
    (hc : (match a, b with | true, true => some true | true, false => some false | false, true => some false | false, false => none) = some c) (w : World) : (Op.equal t u v).run P w = .ok c w :=
  equalIn_nil 9999 hd hu hv hc w

theorem eqGuard_nil {op : BinOp} {t : TypeId} {d : TypeDesc} {x y : Operand} {a b : Bool} {u v : Value} (hu : NilIs d a u) (hv : NilIs d b v) (w : World) : (eqGuard op t x y u v).run P w = .ok () w := by
  unfold eqGuard
  rcases hu with ⟨e, rfl, hu⟩ | ⟨e, rfl, hu⟩ | ⟨k, e, rfl, hu⟩ | ⟨p, q, r, rfl, hu⟩
  · rcases hu with ⟨rfl, rfl⟩ | ⟨rfl, A, rfl⟩ <;> cases op <;> simp
  · rcases hu with ⟨rfl, n, m, rfl⟩ | ⟨rfl, A, n, m, rfl⟩ <;> cases op <;> simp
  · rcases hu with ⟨rfl, rfl⟩ | ⟨rfl, A, rfl⟩ <;> cases op <;> simp
  · rcases hu with ⟨rfl, rfl⟩ | ⟨rfl, A, A', A'', rfl⟩ <;> cases op <;> simp

theorem binOp_eql {t : TypeId} {d : TypeDesc} {a b : Bool} {u v : Value} (hu : NilIs d a u) (hv : NilIs d b v) : binOp .eql t u v = (do pure (.bool (← Op.equal t u v))) ∧ binOp .neq t u v = (do pure (.bool (!(← Op.equal t u v)))) := by
  rcases hu with ⟨e, rfl, hu⟩ | ⟨e, rfl, hu⟩ | ⟨k, e, rfl, hu⟩ | ⟨p, q, r, rfl, hu⟩
  · rcases hu with ⟨rfl, rfl⟩ | ⟨rfl, A, rfl⟩ <;> exact ⟨rfl, rfl⟩
  · rcases hu with ⟨rfl, n, m, rfl⟩ | ⟨rfl, A, n, m, rfl⟩ <;> exact ⟨rfl, rfl⟩
  · rcases hu with ⟨rfl, rfl⟩ | ⟨rfl, A, rfl⟩ <;> exact ⟨rfl, rfl⟩
  · rcases hu with ⟨rfl, rfl⟩ | ⟨rfl, A, A', A'', rfl⟩ <;> exact ⟨rfl, rfl⟩

theorem aeqNil_ok {t : TypeId} {x y : AVal} {c : Bool} {u v : Value} (h : aeqNil P t x y = .ok c) (hu : VRel σ ρ x u) (hv : VRel σ ρ y v) (ox oy : Operand) (w : World) :
    (do eqGuard .eql t ox oy u v; binOp .eql t u v : Sem Value).run P w = .ok (.bool c) w ∧ (do eqGuard .neq t ox oy u v; binOp .neq t u v : Sem Value).run P w = .ok (.bool (!c)) w := by
  unfold aeqNil at h
  obtain ⟨d, h1, h⟩ := R.bind_ok' h
  obtain ⟨a, h2, h⟩ := R.bind_ok' h
  obtain ⟨b, h3, h⟩ := R.bind_ok' h
  have hx := nilOf_ok h2 hu
  have hy := nilOf_ok h3 hv
  have heq := equal_nil (c := c) (und_ok h1) hx hy (by cases a <;> cases b <;> first | (cases h; rfl) | cases h) w
  obtain ⟨e1, e2⟩ := binOp_eql (t := t) hx hy
  constructor
  · rw [Sem.run_bind, eqGuard_nil hx hy]; simp [e1, heq]
  · rw [Sem.run_bind, eqGuard_nil hx hy]; simp [e2, heq]

end
end Go.Am
