/-
  The reference's rows of pages: MaySpans.
-/
import Derived.Test.YtonbcchdaboigaaSpanY
import Derived.Lib.SlKeysI
namespace Go.Proofs.Ytonbcchdaboigaa
open Go Go.RowKit Go.Maps Go.Am
set_option linter.unusedVariables false

/-- May this row be, behind those pages, as the reference has it? -/
def okR (out : List Int) (s : Int × Int) : Bool := decide (1 ≤ s.2) && decide (s.2 ≤ 40) && decide (0 ≤ s.1) && decide (s.1 < 4096) && (List.range s.2.toNat).all fun k : Nat => decide (s.1 + (k : Int) < 4096 ∧ s.1 + (k : Int) ∉ out)

theorem okR_iff {out : List Int} {s : Int × Int} : okR out s = true ↔ 1 ≤ s.2 ∧ s.2 ≤ 40 ∧ 0 ≤ s.1 ∧ s.1 < 4096 ∧ ∀ k : Nat, k < s.2.toNat → s.1 + (k : Int) < 4096 ∧ s.1 + (k : Int) ∉ out := by
  unfold okR
  simp only [Bool.and_eq_true, decide_eq_true_eq, List.all_eq_true, List.mem_range]
  constructor
  · rintro ⟨⟨⟨⟨h1, h2⟩, h3⟩, h4⟩, h5⟩; exact ⟨h1, h2, h3, h4, h5⟩
  · rintro ⟨h1, h2, h3, h4, h5⟩; exact ⟨⟨⟨⟨h1, h2⟩, h3⟩, h4⟩, h5⟩

theorem okR_no {out : List Int} {s : Int × Int} (h : ¬ (1 ≤ s.2 ∧ s.2 ≤ 40 ∧ 0 ≤ s.1 ∧ s.1 < 4096 ∧ ∀ k : Nat, k < s.2.toNat → s.1 + (k : Int) < 4096 ∧ s.1 + (k : Int) ∉ out)) : okR out s = false := by
  cases hk : okR out s with
  | false => rfl
  | true => exact absurd (okR_iff.1 hk) h

def refG : List (Int × Int) → List Int → Option (List Int)
  | [], out => some out
  | s :: l, out => if okR out s then refG l (out ++ rowK s.1 s.2.toNat) else none

theorem refG_no {l : List (Int × Int)} {out : List Int} {s : Int × Int} (h : okR out s = false) : refG (s :: l) out = none := by
  show (if okR out s = true then _ else none) = none
  rw [h]; rfl

theorem refG_yes {l : List (Int × Int)} {out : List Int} {s : Int × Int} (h : okR out s = true) : refG (s :: l) out = refG l (out ++ rowK s.1 s.2.toNat) := by
  show (if okR out s = true then refG l (out ++ rowK s.1 s.2.toNat) else none) = _
  rw [if_pos h]

/-- What the reference tells. -/
def mayR (l : List (Int × Int)) : Bool := decide (1 ≤ l.length ∧ l.length ≤ 8) && (refG l []).any fun out => decide (out.length ≤ 40)

theorem refG_len : ∀ (l : List (Int × Int)) (out o : List Int), refG l out = some o → out.length ≤ o.length
  | [], out, o, h => by cases h; exact Nat.le_refl _
  | s :: l, out, o, h => by
    by_cases hk : okR out s = true
    · rw [refG_yes hk] at h
      have := refG_len l _ o h
      rw [List.length_append] at this; omega
    · rw [refG_no (by simpa using hk)] at h; cases h

/-- Both agree. -/
theorem ref_pages : ∀ (l : List (Int × Int)) (out : List Int), out.length ≤ 40 → pagesG l out = (refG l out).bind fun o => if o.length ≤ 40 then some o else none
  | [], out, h => by show some out = (if out.length ≤ 40 then some out else none); rw [if_pos h]
  | s :: l, out, h => by
    by_cases hg : okG out s = true
    · have h1 := okG_iff.1 hg
      have hr : okR out s = true := okR_iff.2 ⟨h1.1, by omega, h1.2.2.1, by omega, fun k hk => ⟨by omega, h1.2.2.2.2 k hk⟩⟩
      rw [pagesG_yes hg, refG_yes hr]
      refine ref_pages l _ ?_
      rw [List.length_append, rowK_len]
      omega
    · rw [pagesG_no (by simpa using hg)]
      by_cases hr : okR out s = true
      · rw [refG_yes hr]
        have h1 := okR_iff.1 hr
        cases ho : refG l (out ++ rowK s.1 s.2.toNat) with
        | none => rfl
        | some o =>
          have hl := refG_len _ _ _ ho
          rw [List.length_append, rowK_len] at hl
          have : ¬ o.length ≤ 40 := fun h40 => hg (okG_iff.2 ⟨h1.1, by omega, h1.2.2.1, by
            have := (h1.2.2.2.2 (s.2.toNat - 1) (by omega)).1
            omega, fun k hk => (h1.2.2.2.2 k hk).2⟩)
          show none = (if o.length ≤ 40 then some o else none)
          rw [if_neg this]
      · rw [refG_no (by simpa using hr)]; rfl

theorem mayR_eq (l : List (Int × Int)) : mayR l = (pagesT l).isSome := by
  unfold mayR pagesT
  by_cases h : 1 ≤ l.length ∧ l.length ≤ 8
  · rw [if_pos h, decide_eq_true h, Bool.true_and, ref_pages l [] (by simp)]
    cases refG l [] with
    | none => rfl
    | some o =>
      show decide (o.length ≤ 40) = (if o.length ≤ 40 then some o else none).isSome
      by_cases ho : o.length ≤ 40 <;> simp [ho]
  · rw [if_neg h, decide_eq_false h]; rfl

/-- How many keys. -/
theorem TabAt.len_run {w : World} {b n : Nat} {out : List Int} (h : TabAt w .i64 3 b n (seenS out)) (hn : out.Nodup) : (Builtin.len_ #[104] 3 #[.map (some b)]).run Try.prog w = .ok (.int .i64 out.length) w := by
  obtain ⟨D, hown, hD⟩ := h.own
  have hlen := hown.len Try.underlying104 3
  obtain ⟨es, rfl, hpw, _⟩ := hown.entries keyW
  obtain ⟨es', hD', hko⟩ := hown.keysOf
  obtain rfl : es = es' := by simpa using hD'
  have hp : out.Perm (intKeys (.map es)) := perm_intKeys hpw (fun p hp => by obtain ⟨v, hv⟩ := hko p hp; obtain ⟨x, _, hx, _⟩ := Maps.keyOf_i64 Try.underlying3 hv; exact ⟨x, hx⟩) hn (fun x => by
    rw [hD.has]; unfold seenS; by_cases e : x ∈ out <;> simp [e])
  have e1 : Maps.size (DataW.map es) = out.length := by
    rw [hp.length_eq]; simp [Maps.size_eq, intKeys]
  rw [e1] at hlen
  exact hlen

set_option maxRecDepth 100000 in
set_option maxHeartbeats 4000000 in
theorem mayR_calls (s : Option Addr) (b off c : Nat) (l : List (Int × Int)) (w : World) (hS : SpansIn w s b off l) (hlen : l.length ≤ 100000) :
    Calls Try.prog 13 #[.slice s l.length c] w fun e w' => e = .returned (.bool (pagesT l).isSome) ∧ GrowBut w w' [] := by
  rw [← mayR_eq]
  by_cases h1 : 1 ≤ l.length
  · by_cases h8 : l.length ≤ 8
    · have hres : mayR l = (refG l []).any fun out => decide (out.length ≤ 40) := by unfold mayR; rw [decide_eq_true ⟨h1, h8⟩, Bool.true_and]
      rw [hres]
      have hl0 : decide ((l.length : Int) < 1) = false := decide_eq_false (by omega)
      have hl8 : decide (8 < (l.length : Int)) = false := decide_eq_false (by omega)
      obtain ⟨rfl, hcs⟩ := hS (by omega)
      have hbl := cell_lt (hcs 0 (by omega)).1
      simp only at hbl
      have hmm := @run_makeMap Try.prog
      go_enter Try.func13, Try.ntmps13
      go_wp2_with fail
      clear hmm
      have hM0 := TabAt.made w .i64 3
      have hG0 := GrowBut.alloc w (.map #[] 0) []
      have hsz : w.heap.size < (w.alloc (.map #[] 0)).heap.size := by simp
      have hSe : (fun _ => none) = seenS [] := by funext k; simp [seenS]
      rw [hSe] at hM0
      generalize w.alloc (.map #[] 0) = w1 at hM0 hG0 hsz ⊢
      generalize hMM : w.heap.size = M at hM0 hsz hbl ⊢
      go_loopw [4] (fun v4 wx => ∃ (j : Nat) (out : List Int), v4 = .int .i64 j ∧ j ≤ l.length ∧ refG l [] = refG (l.drop j) out ∧ out.Nodup ∧ out.length ≤ 40 * j ∧ TabAt wx .i64 3 M out.length (seenS out) ∧ GrowBut w1 wx [M]) (fun v4 _ => l.length - intOf v4)
      case atStart => exact ⟨0, [], rfl, by omega, rfl, List.nodup_nil, by simp, hM0, .refl _ _⟩
      case round =>
        obtain ⟨j, out, rfl, hj, hpg, hnd, hol, hT, hG⟩ := hrel
        have hGw : GrowBut w wr [] := hG0.from hG (fun x hx => .inr (by simp at hx; omega))
        by_cases hlt : j < l.length
        · have hlt' : (j : Int) < (l.length : Int) := by omega
          obtain ⟨c0', c1', hw0, hw1⟩ := hcs j hlt
          have c0 := hG.cell (hG0.cell c0' (by simp)) (by simp; omega)
          have c1 := hG.cell (hG0.cell c1' (by simp)) (by simp; omega)
          rw [drop_cons hlt] at hpg
          clear hw0 hw1 hcs hS
          generalize l.getD j (0, 0) = sp at c0 c1 c0' c1' hpg
          obtain ⟨p, n⟩ := sp
          simp only at c0 c1 c0' c1'
          by_cases hA : n < 1
          · have dA : decide (n < 1) = true := decide_eq_true hA
            go_wp2_with fail
            go_ret
            have hno : refG l [] = none := by rw [hpg]; exact refG_no (okR_no (by rintro ⟨h1, h2, h3, h4, h5⟩; simp only at h1 h2 h3 h4; omega))
            exact ⟨by first | (rw [hno]; rfl) | (rw [← hpg, hno]; rfl), hGw⟩
          have dA : decide (n < 1) = false := decide_eq_false hA
          by_cases hB : 40 < n
          · have dB : decide (40 < n) = true := decide_eq_true hB
            go_wp2_with fail
            go_ret
            have hno : refG l [] = none := by rw [hpg]; exact refG_no (okR_no (by rintro ⟨h1, h2, h3, h4, h5⟩; simp only at h1 h2 h3 h4; omega))
            exact ⟨by first | (rw [hno]; rfl) | (rw [← hpg, hno]; rfl), hGw⟩
          have dB : decide (40 < n) = false := decide_eq_false hB
          by_cases hC : p < 0
          · have dC : decide (p < 0) = true := decide_eq_true hC
            go_wp2_with fail
            go_ret
            have hno : refG l [] = none := by rw [hpg]; exact refG_no (okR_no (by rintro ⟨h1, h2, h3, h4, h5⟩; simp only at h1 h2 h3 h4; omega))
            exact ⟨by first | (rw [hno]; rfl) | (rw [← hpg, hno]; rfl), hGw⟩
          have dC : decide (p < 0) = false := decide_eq_false hC
          by_cases hD : 4096 ≤ p
          · have dD : decide (4096 ≤ p) = true := decide_eq_true hD
            go_wp2_with fail
            go_ret
            have hno : refG l [] = none := by rw [hpg]; exact refG_no (okR_no (by rintro ⟨h1, h2, h3, h4, h5⟩; simp only at h1 h2 h3 h4; omega))
            exact ⟨by first | (rw [hno]; rfl) | (rw [← hpg, hno]; rfl), hGw⟩
          have dD : decide (4096 ≤ p) = false := decide_eq_false hD
          obtain ⟨P, rfl⟩ : ∃ P : Nat, p = P := ⟨p.toNat, by omega⟩
          obtain ⟨N, rfl⟩ : ∃ N : Nat, n = N := ⟨n.toNat, by omega⟩
          go_wp2_with fail
          have hN40 : N ≤ 40 := by omega
          have hP4 : P < 4096 := by omega
          go_loopw [5] (fun v5 wx => ∃ k : Nat, v5 = .int .i64 k ∧ k ≤ N ∧ (∀ i : Nat, i < k → (P : Int) + i < 4096 ∧ (P : Int) + i ∉ out) ∧ TabAt wx .i64 3 M (out.length + k) (seenS (out ++ rowK P k)) ∧ GrowBut w1 wx [M]) (fun v5 _ => N - intOf v5)
          case atStart =>
            have e : rowK (P : Int) 0 = [] := rfl
            exact ⟨0, rfl, by omega, fun i hi => by omega, by rw [e, List.append_nil]; exact hT, hG⟩
          case round =>
            clear c0 c1 hG hT hGw
            obtain ⟨k, rfl, hk, hno, hT, hG⟩ := hrel
            have hGw : GrowBut w wr [] := hG0.from hG (fun x hx => .inr (by simp at hx; omega))
            have c0 := hG.cell (hG0.cell c0' (by simp)) (by simp; omega)
            have c1 := hG.cell (hG0.cell c1' (by simp)) (by simp; omega)
            by_cases hlk : k < N
            · have hlk' : (k : Int) < (N : Int) := by omega
              have hni : (P : Int) + k ∉ rowK P k := by rw [mem_rowK]; omega
              by_cases hbig : 4096 ≤ (P : Int) + k
              · have dE : decide (4096 ≤ (P : Int) + k) = true := decide_eq_true hbig
                go_wp2_with fail
                go_ret
                have hno2 : refG l [] = none := by rw [hpg]; exact refG_no (okR_no (by rintro ⟨_, _, _, _, h5⟩; have := (h5 k (by simp only; omega)).1; simp only at this; omega))
                exact ⟨by first | (rw [hno2]; rfl) | (rw [← hpg, hno2]; rfl), hGw⟩
              have dE : decide (4096 ≤ (P : Int) + k) = false := decide_eq_false hbig
              have hwx : (Lit.int .i64 ((P : Int) + k)).wf = true := wf_small (by omega) (by omega)
              have hls := hT.look (t := 104) (e := 4) keyW Try.underlying3 Try.underlying104 (boolW _) hwx
              by_cases hin : (P : Int) + k ∈ out
              · have e : (seenS (out ++ rowK P k) ((P : Int) + k)).getD (.bool false) = .bool true := by
                  rw [seenS_at, decide_eq_true (List.mem_append.2 (.inl hin))]
                rw [e] at hls
                clear e
                go_wp2_with fail
                go_ret
                have hno2 : refG l [] = none := by rw [hpg]; exact refG_no (okR_no (by rintro ⟨_, _, _, _, h5⟩; exact (h5 k (by simp only; omega)).2 hin))
                exact ⟨by first | (rw [hno2]; rfl) | (rw [← hpg, hno2]; rfl), hGw⟩
              · have e : (seenS (out ++ rowK P k) ((P : Int) + k)).getD (.bool false) = .bool false := by
                  rw [seenS_at, decide_eq_false (fun h => by rcases List.mem_append.1 h with h | h; exact hin h; exact hni h)]
                rw [e] at hls
                have hsn := seenS_snoc (out ++ rowK P k) ((P : Int) + k)
                rw [List.append_assoc, ← rowK_succ] at hsn
                clear e
                go_wp2_with (first
                  | (at_mapUpdate; (refine wpList_putT rfl _ _ _ 104 rfl hT keyW Try.underlying3 Try.underlying104 (by omega) rfl ((P : Int) + k) (.bool true) rfl rfl hwx ?_; intro w3 hT3 hg3; rw [hsn] at hT3))
                  | fail)
                refine ⟨⟨k + 1, by simp, by omega, fun i hi => ?_, hT3, hG.trans hg3⟩, by simp [intOf]; omega⟩
                by_cases e : i = k
                · subst e; exact ⟨by omega, hin⟩
                · exact hno i (by omega)
            · have hge : ¬ (k : Int) < (N : Int) := by omega
              have hkN : k = N := by omega
              subst hkN
              have hok : okR out ((P : Int), (k : Int)) = true := okR_iff.2 ⟨by simp only; omega, by simp only; omega, by simp only; omega, by simp only; omega, fun i hi => hno i (by simp only at hi; omega)⟩
              rw [refG_yes hok] at hpg
              have e : rowK ((P : Int), (k : Int)).1 ((P : Int), (k : Int)).2.toNat = rowK P k := by simp
              rw [e] at hpg
              have hlen' : (out ++ rowK (P : Int) k).length = out.length + k := by rw [List.length_append, rowK_len]
              have hnd2 : (out ++ rowK (P : Int) k).Nodup := by
                refine List.nodup_append.2 ⟨hnd, ?_, fun a ha b hb e => ?_⟩
                · unfold rowK
                  exact List.pairwise_map.2 (List.nodup_range.imp fun h e => h (by omega))
                · subst e
                  rw [mem_rowK] at hb
                  obtain ⟨h1, h2⟩ := hb
                  have := (hno (a - P).toNat (by omega)).2
                  rw [show (P : Int) + ((a - P).toNat : Nat) = a by omega] at this
                  exact this ha
              clear e hok
              go_wp2_with fail
              exact ⟨⟨j + 1, out ++ rowK P k, by simp, by omega, hpg, hnd2, by omega, by rw [hlen']; exact hT, hG⟩, by simp [intOf]; omega⟩
        · have hjl : j = l.length := by omega
          subst hjl
          rw [List.drop_length] at hpg
          have hge : ¬ (l.length : Int) < (l.length : Int) := by omega
          have hln := hT.len_run hnd
          by_cases h40 : out.length ≤ 40
          · have dF : decide ((out.length : Int) ≤ 40) = true := decide_eq_true (by omega)
            have hy : (refG [] out).any (fun out => decide (out.length ≤ 40)) = true := by show decide (out.length ≤ 40) = true; exact decide_eq_true h40
            go_wp2_with fail
            go_ret
            exact ⟨by first | (rw [hpg, hy]; rfl) | (rw [hy]; rfl) | rfl, hGw⟩
          · have dF : decide ((out.length : Int) ≤ 40) = false := decide_eq_false (by omega)
            have hy : (refG [] out).any (fun out => decide (out.length ≤ 40)) = false := by show decide (out.length ≤ 40) = false; exact decide_eq_false h40
            go_wp2_with fail
            go_ret
            exact ⟨by first | (rw [hpg, hy]; rfl) | (rw [hy]; rfl) | rfl, hGw⟩
    · have hno : mayR l = false := by unfold mayR; rw [decide_eq_false (fun h => h8 h.2)]; rfl
      rw [hno]
      have hl0 : decide ((l.length : Int) < 1) = false := decide_eq_false (by omega)
      have hl8 : decide (8 < (l.length : Int)) = true := decide_eq_true (by omega)
      go_enter Try.func13, Try.ntmps13
      go_wp2_with fail
      go_ret
      exact ⟨rfl, .refl _ _⟩
  · have hno : mayR l = false := by unfold mayR; rw [decide_eq_false (fun h => h1 h.1)]; rfl
    rw [hno]
    have hl0 : decide ((l.length : Int) < 1) = true := decide_eq_true (by omega)
    go_enter Try.func13, Try.ntmps13
    go_wp2_with fail
    go_ret
    exact ⟨rfl, .refl _ _⟩

end Go.Proofs.Ytonbcchdaboigaa
