/-
  The phases' table: what the map of the steps holds, in whatever order it was filled, and what is looked up in it.
-/
import Derived.Test.YtonbcchdaboigaaAm21
namespace Go.Am
open Go Go.RowKit
set_option linter.unusedVariables false

def phaseTab : List (Int × Int × Int) := [(1, 1, 2), (1, 3, 2), (2, 2, 3), (2, 4, 1), (2, 7, 1), (2, 6, 5), (2, 8, 4), (3, 5, 2), (3, 8, 3), (4, 1, 2), (5, 1, 2)]

/-- What the operations of the map's region are. -/
inductive Shape (tA tM : TypeId) : Nat → Oper → Prop
  | make (o : Oper) (h1 : o.dst = some 1) (h2 : o.op = .makeMap tM none) (h3 : o.guard = none) : Shape tA tM 0 o
  | build (o : Oper) (i : Nat) (a b v : Int) (h0 : phaseTab[i]? = some (a, b, v)) (h1 : o.dst = some (i + 2)) (h2 : o.op = .build tA #[(0, .const (.int .i64 a)), (1, .const (.int .i64 b))]) (h3 : o.guard = none) : Shape tA tM (2 * i + 1) o
  | insert (o : Oper) (i : Nat) (a b v : Int) (h0 : phaseTab[i]? = some (a, b, v)) (h1 : o.dst = none) (h2 : o.op = .insert tM (.tmp 1) (.tmp (i + 2)) (.const (.int .i64 v))) (h3 : o.guard = none)
      (h4 : o.after.toList[0]? = some ⟨0, .data⟩) (h5 : o.after.toList[1]? = some ⟨2 * i + 1, .data⟩) : Shape tA tM (2 * i + 2) o
  | move (o : Oper) (h1 : o.dst = some 13) (h2 : o.op = .move (.tmp 1)) (h3 : o.guard = none) (h4 : o.after.toList[0]? = some ⟨0, .data⟩) : Shape tA tM 23 o
  | assign (o : Oper) (h1 : o.dst = some 0) (h2 : o.op = .assign (.tmp 13)) (h3 : o.guard = none) (h4 : o.after.toList[0]? = some ⟨23, .data⟩) : Shape tA tM 24 o

def tabEnts : List Ent := phaseTab.map fun p => Ent.mk p.1 p.2.1 p.2.2 0

def tabLook (a b : Int) : Option Int := look a b tabEnts

section
variable {P : Program} {tA tM tI : TypeId} {ops : Array Oper} {Q : Exit → Act → World → Prop}

theorem wpOp_value {j : Nat} {o : Oper} {act : Act} {w w' : World} {u : Value} {K : Act → World → Prop} (ho : ops[j]? = some o) (hg : o.guard = none) (h : (execOp act.eval o).run P w = .ok (.value u) w') (hK : K (act.put o.dst u) w') : wpOp P ops Q j K act w := by
  unfold wpOp
  rw [ho]
  simp only [Region.wanted, hg, if_true]
  left
  unfold Oper.wp
  rw [h, Oper.upon_value]
  exact hK

theorem wpOp_skip {j : Nat} {o : Oper} {act : Act} {w w' : World} {K : Act → World → Prop} (ho : ops[j]? = some o) (hg : o.guard = none) (h : (execOp act.eval o).run P w = .ok .skip w') (hK : K (act.put o.dst undef) w') : wpOp P ops Q j K act w := by
  unfold wpOp
  rw [ho]
  simp only [Region.wanted, hg, if_true]
  left
  unfold Oper.wp
  rw [h, Oper.upon_skip]
  exact hK

theorem look_append (a b : Int) (e : Ent) : ∀ (E : List Ent), look a b (E ++ [e]) = (look a b E).or (if a == e.a && b == e.b then some e.v else none)
  | [] => by simp [look]
  | x :: r => by
    simp only [List.cons_append, look]
    cases hq : (a == x.a && b == x.b) with
    | true => rfl
    | false => simpa using look_append a b e r

structure PJ (w1 : World) (listed : Array Bool) (act : Act) (w : World) : Prop where
  size : act.tmps.size = 14
  defers : act.defers = []
  keys : ∀ (i : Nat) (a b v : Int), phaseTab[i]? = some (a, b, v) → Lst listed (2 * i + 1) → act.tmps[i + 2]? = some (pairV a b)
  rest : w.os = w1.os ∧ w.tape = w1.tape ∧ w.output = w1.output
  pre : ¬ Lst listed 0 → w.heap = w1.heap
  mid : Lst listed 0 → act.tmps[1]? = some (.map (some w1.heap.size)) ∧ ∃ E c, w.heap = w1.heap.push (.map (E.map Ent.to).toArray c) ∧
    (∀ (i : Nat) (a b v : Int), phaseTab[i]? = some (a, b, v) → (Lst listed (2 * i + 2) → look a b E = some v) ∧ (¬ Lst listed (2 * i + 2) → look a b E = none)) ∧
    (∀ (a b : Int), (∀ (i : Nat) (v : Int), phaseTab[i]? ≠ some (a, b, v)) → look a b E = none)
  m13 : Lst listed 23 → act.tmps[13]? = some (.map (some w1.heap.size))
  m0 : Lst listed 24 → act.tmps[0]? = some (.map (some w1.heap.size))

theorem put_get {act : Act} {d t : Nat} {u : Value} (h : t ≠ d) : (act.put (some d) u).tmps[t]? = act.tmps[t]? := by
  rw [tmps_put, if_neg]
  rintro ⟨e, _⟩
  exact h e

theorem put_same {act : Act} {d : Nat} {u : Value} (h : d < act.tmps.size) : (act.put (some d) u).tmps[d]? = some u := by
  rw [tmps_put, if_pos ⟨rfl, h⟩]

theorem put_size {act : Act} {d : Option Nat} {u : Value} : (act.put d u).tmps.size = act.tmps.size := by cases d <;> simp [Act.put]
theorem put_defers {act : Act} {d : Option Nat} {u : Value} : (act.put d u).defers = act.defers := by cases d <;> rfl

theorem tab_lt {i : Nat} {a b v : Int} (h : phaseTab[i]? = some (a, b, v)) : i < 11 := by
  have := (List.getElem?_eq_some_iff.1 h).1
  exact this

theorem tab_inj {i j : Nat} {a b v v' : Int} (h : phaseTab[i]? = some (a, b, v)) (h' : phaseTab[j]? = some (a, b, v')) : i = j := by
  have hi := tab_lt h
  have hj := tab_lt h'
  have key : ∀ i j : Fin 11, ((phaseTab[i.1]?.map fun p => (p.1, p.2.1)) = (phaseTab[j.1]?.map fun p => (p.1, p.2.1))) → i = j := by decide
  have := key ⟨i, hi⟩ ⟨j, hj⟩ (by rw [h, h']; rfl)
  exact congrArg Fin.val this

/-- One of the builds. -/
theorem PJ.build {w1 : World} {listed : Array Bool} {act : Act} {w : World} (J : PJ w1 listed act w) (hsz : listed.size = 25) {i : Nat} {a b v : Int} (hi : phaseTab[i]? = some (a, b, v)) :
    PJ w1 (listed.setIfInBounds (2 * i + 1) true) (act.put (some (i + 2)) (pairV a b)) w := by
  have hi11 := tab_lt hi
  have hls : ∀ {k}, Lst (listed.setIfInBounds (2 * i + 1) true) k ↔ k = 2 * i + 1 ∨ Lst listed k := lst_set (by omega)
  have J1 := J.size
  refine ⟨put_size.trans J.size, put_defers.trans J.defers, fun k a' b' v' hk hl => ?_, J.rest, fun hl => J.pre fun h => hl (hls.2 (.inr h)), fun hl => ?_, fun hl => ?_, fun hl => ?_⟩
  · by_cases hki : k = i
    · subst hki
      rw [hi] at hk
      cases hk
      exact put_same (by omega)
    · rw [put_get (by omega)]
      exact J.keys k a' b' v' hk ((hls.1 hl).resolve_left (by omega))
  · obtain ⟨h1, E, c, h2, h3, h4⟩ := J.mid ((hls.1 hl).resolve_left (by omega))
    refine ⟨by rw [put_get (by omega)]; exact h1, E, c, h2, fun k a' b' v' hk => ⟨fun h => (h3 k a' b' v' hk).1 ((hls.1 h).resolve_left (by omega)), fun h => (h3 k a' b' v' hk).2 fun h' => h (hls.2 (.inr h'))⟩, h4⟩
  · rw [put_get (by omega)]
    exact J.m13 ((hls.1 hl).resolve_left (by omega))
  · rw [put_get (by omega)]
    exact J.m0 ((hls.1 hl).resolve_left (by omega))

/-- The map is made. -/
theorem PJ.make {w1 : World} {listed : Array Bool} {act : Act} {w : World} (J : PJ w1 listed act w) (hsz : listed.size = 25) (h0 : ¬ Lst listed 0) (hn : ∀ i, i < 11 → ¬ Lst listed (2 * i + 2)) :
    PJ w1 (listed.setIfInBounds 0 true) (act.put (some 1) (.map (some w.heap.size))) (w.alloc (.map #[] 0)) := by
  have hls : ∀ {k}, Lst (listed.setIfInBounds 0 true) k ↔ k = 0 ∨ Lst listed k := lst_set (by omega)
  have J1 := J.size
  have J2 := J.pre h0
  refine ⟨put_size.trans J.size, put_defers.trans J.defers, fun k a' b' v' hk hl => ?_, J.rest, fun hl => absurd (hls.2 (.inl rfl)) hl, fun hl => ?_, fun hl => ?_, fun hl => ?_⟩
  · rw [put_get (by omega)]
    exact J.keys k a' b' v' hk ((hls.1 hl).resolve_left (by omega))
  · refine ⟨by rw [put_same (by omega), J2], [], 0, ?_, fun k a' b' v' hk => ⟨fun h => absurd ((hls.1 h).resolve_left (by omega)) (hn k (tab_lt hk)), fun _ => rfl⟩, fun _ _ _ => rfl⟩
    rw [← J2]; rfl
  · rw [put_get (by omega)]
    exact J.m13 ((hls.1 hl).resolve_left (by omega))
  · rw [put_get (by omega)]
    exact J.m0 ((hls.1 hl).resolve_left (by omega))

/-- One of the inserts. -/
theorem PJ.insert {w1 : World} {listed : Array Bool} {act : Act} {w : World} (hp : Pairs P tA tM tI) (J : PJ w1 listed act w) (hsz : listed.size = 25) {i : Nat} {a b v : Int} (hi : phaseTab[i]? = some (a, b, v))
    (h0 : Lst listed 0) (h1 : Lst listed (2 * i + 1)) (hun : ¬ Lst listed (2 * i + 2)) :
    ∃ w', (Instr.mapUpdate tM (act.eval (.tmp 1)) (act.eval (.tmp (i + 2))) (.int .i64 v)).run P w = .ok () w' ∧ PJ w1 (listed.setIfInBounds (2 * i + 2) true) act w' := by
  have hi11 := tab_lt hi
  have hls : ∀ {k}, Lst (listed.setIfInBounds (2 * i + 2) true) k ↔ k = 2 * i + 2 ∨ Lst listed k := lst_set (by omega)
  obtain ⟨g1, E, c, g2, g3, g4⟩ := J.mid h0
  have e1 : act.eval (.tmp 1) = .map (some w1.heap.size) := by simp [Act.eval, g1]
  have e2 : act.eval (.tmp (i + 2)) = pairV a b := by simp [Act.eval, J.keys i a b v hi h1]
  have hget : w.heap[w1.heap.size]? = some (.map (E.map Ent.to).toArray c) := by rw [g2]; simp
  refine ⟨World.setObj w w1.heap.size (.map ((E ++ [Ent.mk a b v c]).map Ent.to).toArray (c + 1)), by rw [e1, e2]; exact hp.update a b v hget ((g3 i a b v hi).2 hun), J.size, J.defers, fun k a' b' v' hk hl => J.keys k a' b' v' hk ((hls.1 hl).resolve_left (by omega)), J.rest, fun hl => absurd (hls.2 (.inr h0)) hl, fun hl => ?_,
    fun hl => J.m13 ((hls.1 hl).resolve_left (by omega)), fun hl => J.m0 ((hls.1 hl).resolve_left (by omega))⟩
  refine ⟨g1, E ++ [Ent.mk a b v c], c + 1, ?_, fun k a' b' v' hk => ?_, fun a' b' hno => ?_⟩
  · simp only [World.setObj, g2]
    apply Array.ext_getElem?
    intro x
    by_cases hx : x = w1.heap.size
    · subst hx; simp
    · rw [Array.getElem?_setIfInBounds_ne (Ne.symm hx), Array.getElem?_push, Array.getElem?_push, if_neg hx, if_neg hx]
  · rw [look_append]
    by_cases hki : k = i
    · subst hki
      rw [hi] at hk
      cases hk
      rw [(g3 k a b v hi).2 hun]
      refine ⟨fun _ => by simp, fun h => absurd (hls.2 (.inl rfl)) h⟩
    · have hne : (a' == a && b' == b) = false := by
        cases hq : (a' == a && b' == b) with
        | false => rfl
        | true =>
          exfalso
          simp only [Bool.and_eq_true, beq_iff_eq] at hq
          obtain ⟨rfl, rfl⟩ := hq
          exact hki (tab_inj hk hi)
      simp only [hne, Bool.false_eq_true, if_false, Option.or_none]
      exact ⟨fun h => (g3 k a' b' v' hk).1 ((hls.1 h).resolve_left (by omega)), fun h => (g3 k a' b' v' hk).2 fun h' => h (hls.2 (.inr h'))⟩
  · rw [look_append, g4 a' b' hno]
    have hne : (a' == a && b' == b) = false := by
      cases hq : (a' == a && b' == b) with
      | false => rfl
      | true =>
        exfalso
        simp only [Bool.and_eq_true, beq_iff_eq] at hq
        obtain ⟨rfl, rfl⟩ := hq
        exact hno i v hi
    simp [hne]

theorem PJ.move13 {w1 : World} {listed : Array Bool} {act : Act} {w : World} (J : PJ w1 listed act w) (hsz : listed.size = 25) (h0 : Lst listed 0) :
    PJ w1 (listed.setIfInBounds 23 true) (act.put (some 13) (act.eval (.tmp 1))) w := by
  have hls : ∀ {k}, Lst (listed.setIfInBounds 23 true) k ↔ k = 23 ∨ Lst listed k := lst_set (by omega)
  obtain ⟨g1, E, c, g2, g3, g4⟩ := J.mid h0
  have J1 := J.size
  have e1 : act.eval (.tmp 1) = .map (some w1.heap.size) := by simp [Act.eval, g1]
  refine ⟨put_size.trans J.size, put_defers.trans J.defers, fun k a' b' v' hk hl => ?_, J.rest, fun hl => absurd (hls.2 (.inr h0)) hl, fun hl => ⟨by rw [put_get (by omega)]; exact g1, E, c, g2, fun k a' b' v' hk => ?_, g4⟩, fun hl => ?_, fun hl => ?_⟩
  · have := tab_lt hk
    rw [put_get (by omega)]
    exact J.keys k a' b' v' hk ((hls.1 hl).resolve_left (by omega))
  · have := tab_lt hk
    exact ⟨fun h => (g3 k a' b' v' hk).1 ((hls.1 h).resolve_left (by omega)), fun h => (g3 k a' b' v' hk).2 fun h' => h (hls.2 (.inr h'))⟩
  · rw [put_same (by omega), e1]
  · rw [put_get (by omega)]
    exact J.m0 ((hls.1 hl).resolve_left (by omega))

theorem PJ.assign0 {w1 : World} {listed : Array Bool} {act : Act} {w : World} (J : PJ w1 listed act w) (hsz : listed.size = 25) (h0 : Lst listed 0) (h23 : Lst listed 23) :
    PJ w1 (listed.setIfInBounds 24 true) (act.put (some 0) (act.eval (.tmp 13))) w := by
  have hls : ∀ {k}, Lst (listed.setIfInBounds 24 true) k ↔ k = 24 ∨ Lst listed k := lst_set (by omega)
  obtain ⟨g1, E, c, g2, g3, g4⟩ := J.mid h0
  have J1 := J.size
  have e1 : act.eval (.tmp 13) = .map (some w1.heap.size) := by simp [Act.eval, J.m13 h23]
  refine ⟨put_size.trans J.size, put_defers.trans J.defers, fun k a' b' v' hk hl => ?_, J.rest, fun hl => absurd (hls.2 (.inr h0)) hl, fun hl => ⟨by rw [put_get (by omega)]; exact g1, E, c, g2, fun k a' b' v' hk => ?_, g4⟩, fun hl => ?_, fun hl => ?_⟩
  · have := tab_lt hk
    rw [put_get (by omega)]
    exact J.keys k a' b' v' hk ((hls.1 hl).resolve_left (by omega))
  · have := tab_lt hk
    exact ⟨fun h => (g3 k a' b' v' hk).1 ((hls.1 h).resolve_left (by omega)), fun h => (g3 k a' b' v' hk).2 fun h' => h (hls.2 (.inr h'))⟩
  · rw [put_get (by omega)]
    exact J.m13 ((hls.1 hl).resolve_left (by omega))
  · rw [put_same (by omega), e1]

/-- The map of the steps, whatever the order. -/
theorem phase_region (hm : P.follows .mixedOrders = true) (hp : Pairs P tA tM tI) (hops : ∀ j o, ops[j]? = some o → Shape tA tM j o) (hn : ops.size = 25) (he : edgesBack ops.toList = true) {act : Act} {w : World} (hs : act.tmps.size = 14) (hd : act.defers = [])
    (hQ : ∀ act' w', act'.defers = [] → act'.tmps[0]? = some (.map (some w.heap.size)) → (∃ E c, w'.heap = w.heap.push (.map (E.map Ent.to).toArray c) ∧ ∀ a b, look a b E = tabLook a b) → w'.os = w.os ∧ w'.tape = w.tape ∧ w'.output = w.output → Q .normal act' w') {id : Nat} :
    (Code.region id ops true).wp P Q act w := by
  have nol : ∀ j, ¬ Lst (Array.replicate ops.size false) j := fun j hj => by
    unfold Lst at hj
    by_cases hjl : j < ops.size <;> simp [Array.getD, hjl] at hj
  have bd : ∀ k, Region.binds .any ⟨k, .data⟩ = true := fun k => rfl
  have hins : ∀ (listed : Array Bool), (∀ j o, ops[j]? = some o → Lst listed j → ∀ e ∈ o.after.toList, Region.binds .any e = true → Lst listed e.on) → ¬ Lst listed 0 → ∀ i, i < 11 → ¬ Lst listed (2 * i + 2) := fun listed hc h0 i hi hl => by
    have key : ∀ j o, ops[j]? = some o → Lst listed j → j = 2 * i + 2 → False := fun j o ho hl hj => by
      have hsh := hops _ _ ho
      cases hsh with
      | make => omega
      | build => omega
      | insert _ i' a b v h0' h1 h2 h3 h4 h5 => exact h0 (hc _ _ ho hl _ (List.mem_of_getElem? h4) (bd _))
      | move => omega
      | assign => omega
    have ho : ops[2 * i + 2]? = some ops[2 * i + 2] := by simp
    exact key _ _ ho hl rfl
  refine region_inv hm he (fun listed act' w' => PJ w listed act' w' ∧ listed.size = ops.size ∧ ∀ j o, ops[j]? = some o → Lst listed j → ∀ e ∈ o.after.toList, Region.binds .any e = true → Lst listed e.on) ?_ ?_ ?_
  · refine ⟨⟨hs, hd, fun i a b v _ hl => absurd hl (nol _), ⟨rfl, rfl, rfl⟩, fun _ => rfl, fun hl => absurd hl (nol _), fun hl => absurd hl (nol _), fun hl => absurd hl (nol _)⟩, by simp, fun j o _ hl => absurd hl (nol j)⟩
  · intro listed act w2 j o hsz ⟨J, _, hc⟩ ho hl hall
    have hsz' : listed.size = 25 := by omega
    have hjn : j < listed.size := by have := (Array.getElem?_eq_some_iff.1 ho).1; omega
    have hc' : ∀ k ok, ops[k]? = some ok → Lst (listed.setIfInBounds j true) k → ∀ e ∈ ok.after.toList, Region.binds .any e = true → Lst (listed.setIfInBounds j true) e.on := fun k ok hk hkl e he' hb => by
      refine (lst_set hjn).2 (.inr ?_)
      rcases (lst_set hjn).1 hkl with rfl | hkl
      · rw [ho] at hk; cases hk; exact hall e he' hb
      · exact hc k ok hk hkl e he' hb
    have hsz2 : (listed.setIfInBounds j true).size = ops.size := by simp [hsz]
    have hsh := hops _ _ ho
    cases hsh with
    | make _ h1 h2 h3 =>
      refine wpOp_value (u := .map (some w2.heap.size)) (w' := w2.alloc (.map #[] 0)) ho h3 ?_ ?_
      · unfold execOp; rw [h2]; simp [Instr.makeMap]
      · rw [h1]; exact ⟨J.make hsz' hl (hins listed hc hl), hsz2, hc'⟩
    | build _ i a b v h0 h1 h2 h3 =>
      refine wpOp_value (u := pairV a b) (w' := w2) ho h3 ?_ ?_
      · have hb := run_build w2 tA #[(0, .int .i64 a), (1, .int .i64 b)] _ (hp.built a b)
        unfold execOp
        rw [h2]
        show Sem.run P (do pure (Next.value (← Instr.build tA (Array.map (fun (p : Nat × Operand) => (p.1, act.eval p.2)) #[(0, .const (.int .i64 a)), (1, .const (.int .i64 b))])))) w2 = _
        have e : Array.map (fun (p : Nat × Operand) => (p.1, act.eval p.2)) #[(0, .const (.int .i64 a)), (1, .const (.int .i64 b))] = #[(0, .int .i64 a), (1, .int .i64 b)] := by simp [Act.eval]
        rw [e]
        rw [Sem.run_bind, hb]
        rfl
      · rw [h1]; exact ⟨J.build hsz' h0, hsz2, hc'⟩
    | insert _ i a b v h0 h1 h2 h3 h4 h5 =>
      obtain ⟨w', g1, g2⟩ := J.insert hp hsz' h0 (hall _ (List.mem_of_getElem? h4) (bd _)) (hall _ (List.mem_of_getElem? h5) (bd _)) hl
      refine wpOp_skip (w' := w') ho h3 ?_ ?_
      · unfold execOp
        rw [h2]
        show Sem.run P (do Instr.mapUpdate tM (act.eval (.tmp 1)) (act.eval (.tmp (i + 2))) (.int .i64 v); pure Next.skip) w2 = _
        rw [Sem.run_bind, g1]
        rfl
      · rw [h1]; exact ⟨g2, hsz2, hc'⟩
    | move _ h1 h2 h3 h4 =>
      refine wpOp_value (u := act.eval (.tmp 1)) (w' := w2) ho h3 ?_ ?_
      · unfold execOp; rw [h2]; rfl
      · rw [h1]; exact ⟨J.move13 hsz' (hall _ (List.mem_of_getElem? h4) (bd _)), hsz2, hc'⟩
    | assign _ h1 h2 h3 h4 =>
      refine wpOp_value (u := act.eval (.tmp 13)) (w' := w2) ho h3 ?_ ?_
      · unfold execOp; rw [h2]; rfl
      · have h23 := hall _ (List.mem_of_getElem? h4) (bd _)
        have h0 : Lst listed 0 := by
          by_cases h0 : Lst listed 0
          · exact h0
          · exfalso
            have key : ∀ j o, ops[j]? = some o → Lst listed j → j = 23 → False := fun j o ho hl hj => by
              have hsh := hops _ _ ho
              cases hsh with
              | make => omega
              | build _ i _ _ _ h0' => have := tab_lt h0'; omega
              | insert => omega
              | move _ _ _ _ h4 => exact h0 (hc _ _ ho hl _ (List.mem_of_getElem? h4) (bd _))
              | assign => omega
            have ho23 : ops[23]? = some ops[23] := by simp
            exact key _ _ ho23 h23 rfl
        rw [h1]; exact ⟨J.assign0 hsz' h0 h23, hsz2, hc'⟩
  · intro listed act w2 ⟨J, hsz, _⟩ hl
    obtain ⟨g1, E, c, g2, g3, g4⟩ := J.mid (hl 0 (by omega))
    refine hQ act w2 J.defers (J.m0 (hl 24 (by omega))) ⟨E, c, g2, fun a b => ?_⟩ J.rest
    by_cases h : ∃ (i : Nat) (v : Int), phaseTab[i]? = some (a, b, v)
    · obtain ⟨i, v, hi⟩ := h
      have hi11 := tab_lt hi
      rw [(g3 i a b v hi).1 (hl _ (by omega))]
      have key : ∀ i : Fin 11, ∀ p, phaseTab[i.1]? = some p → tabLook p.1 p.2.1 = some p.2.2 := by
        intro i p hp
        have : ∀ i : Fin 11, (phaseTab[i.1]?.map fun p => tabLook p.1 p.2.1) = (phaseTab[i.1]?.map fun p => some p.2.2) := by decide
        have := this i
        rw [hp] at this
        simpa using this
      exact (key ⟨i, hi11⟩ _ hi).symm
    · rw [g4 a b fun i v hi => h ⟨i, v, hi⟩]
      have key : ∀ (l : List (Int × Int × Int)), (∀ p ∈ l, ¬ (a = p.1 ∧ b = p.2.1)) → look a b (l.map fun p => Ent.mk p.1 p.2.1 p.2.2 0) = none := by
        intro l
        induction l with
        | nil => intro _; rfl
        | cons p r ih =>
          intro hp
          simp only [List.map_cons, look]
          rw [if_neg]
          · exact ih fun q hq => hp q (by simp [hq])
          · simpa using hp p (by simp)
      refine (key phaseTab fun p hp ⟨h1, h2⟩ => ?_).symm
      obtain ⟨i, hi, he'⟩ := List.getElem_of_mem hp
      exact h ⟨i, p.2.2, by rw [h1, h2]; simp [hi, he']⟩

theorem Post.wider {σ : Syms} {N0 : Nat} {w0 : World} {ρ : Ren} {s : AState} {w w' : World} (h : WRel σ N0 w0 ρ s w) (hs : w.heap.size ≤ w'.heap.size) (hk : ∀ k, k < w.heap.size → w'.heap[k]? = w.heap[k]?) (ho : w'.os = w.os ∧ w'.tape = w.tape ∧ w'.output = w.output) :
    Post σ N0 w0 ρ s w ρ s w' := by
  have hn := h.n0
  refine ⟨Ext.refl _, fun _ _ h => .inl h, Nat.le_refl _, rfl, Nat.le_refl _, fun _ _ _ => rfl, fun _ _ h => h, ?_, fun c hc _ => hk c hc, hs⟩
  refine ⟨h.base.trans ⟨ho.1, ho.2.1, ho.2.2, hs, fun k hk' => hk k (by omega)⟩, by omega, h.bnd, h.inj, h.dom, fun b L e => ?_, fun b o hb L e => (h.heap b o hb L e).of_block (hk _ (h.rng b L e).1)⟩
  have := h.rng b L e
  exact ⟨by omega, this.2⟩

/-- What a call of the phases' table answers. -/
def phaseNext : List AVal → AState → R (AVal × AState)
  | [.lit (.int .i64 a), .lit (.int .i64 b)], s => .ok (.tup [.lit (.int .i64 ((tabLook a b).getD 0)), .lit (.bool (tabLook a b).isSome)], s)
  | _, _ => .fail "Next"

theorem phaseNext_ok {σ : Syms} {N0 : Nat} {w0 : World} {f : FuncId} (h : ∀ (a b : Int) (w : World), Calls P f #[.int .i64 a, .int .i64 b] w fun e w' => e = .returned (.tuple #[.int .i64 ((tabLook a b).getD 0), .bool (tabLook a b).isSome]) ∧ w.heap.size ≤ w'.heap.size ∧
    (∀ k, k < w.heap.size → w'.heap[k]? = w.heap[k]?) ∧ w'.os = w.os ∧ w'.tape = w.tape ∧ w'.output = w.output) : PrimOk P σ N0 w0 f phaseNext := by
  have inv : ∀ args s v s', phaseNext args s = .ok (v, s') → ∃ a b, args = [.lit (.int .i64 a), .lit (.int .i64 b)] ∧ v = .tup [.lit (.int .i64 ((tabLook a b).getD 0)), .lit (.bool (tabLook a b).isSome)] ∧ s' = s := by
    intro args s v s' h
    unfold phaseNext at h
    split at h
    · cases h; exact ⟨_, _, rfl, rfl, rfl⟩
    · cases h
  refine ⟨fun args s v s' h => ?_, fun args s v s' hr ρ w us hw hf hv => ?_⟩
  · obtain ⟨_, _, _, _, rfl⟩ := inv _ _ _ _ h
    exact Abs.refl _
  · obtain ⟨a, b, rfl, rfl, rfl⟩ := inv _ _ _ _ hr
    obtain ⟨u1, r1, e1, ⟨rfl, _⟩, u2, r2, rfl, ⟨rfl, _⟩, rfl⟩ := hv
    have hus : us = #[.int .i64 a, .int .i64 b] := by
      apply Array.toList_inj.1
      rw [e1]
    subst hus
    refine (h a b w).mono fun e w' ⟨h1, h2, h3, h4⟩ => ⟨_, ρ, h1, ?_, Post.wider hw h2 h3 h4⟩
    exact ⟨_, rfl, _, _, rfl, ⟨rfl, rfl⟩, _, _, rfl, ⟨rfl, rfl⟩, rfl⟩

end
end Go.Am
