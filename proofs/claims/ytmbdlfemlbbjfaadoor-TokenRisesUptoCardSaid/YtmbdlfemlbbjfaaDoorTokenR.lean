/- Chapter 6: places rise. -/
import Derived.Test.YtmbdlfemlbbjfaaDoorToken7
set_option linter.unusedVariables false
set_option linter.unusedSimpArgs false
set_option linter.unnecessarySimpa false
namespace Go.Gw
set_option linter.unusedSimpArgs false

/-! ### places rise -/
theorem law06_TokenRises_true (src : Str) (h : src.length ≤ 1048576) : law06_TokenRises src = some true := by
  unfold law06_TokenRises
  rw [law06_live_eq, token_Cut_eq src (by omega), Option.bind_some, Option.bind_some]
  unfold cutS
  by_cases hl : 4096 < src.length
  · simp only [hl, if_true]
    have d1 : ((0 : Int) ≤ ((src.length : Nat) : Int)) := by omega
    simp [d1]
  · simp only [hl, if_false]
    cases hc : cutT (src.length + 1) src false with
    | inr k =>
      have d1 : (((src.length - k : Nat) : Int) ≥ 0) := by omega
      have d2 : (((src.length - k : Nat) : Int) ≤ ((src.length : Nat) : Int)) := by omega
      simp [d1, d2]
    | inl l =>
      obtain ⟨l0, f', rfl, h1, h2⟩ := cutT_rises _ _ _ _ hc
      simp only [bne_self_eq_false, Bool.false_eq_true, if_false]
      obtain ⟨L, hL⟩ : ∃ L, laidAt src.length (l0 ++ [(tEnd f', 0)]) = L := ⟨_, rfl⟩
      have hlen : L.length = l0.length + 1 := by rw [← hL]; simp [laidAt]
      have hget : ∀ (k : Nat) (p : Tok × Nat), l0[k]? = some p → L[k]? = some (p.1.at_ ((src.length - p.2 : Nat) : Int)) := by
        intro k p hk
        have hlt : k < l0.length := (List.getElem?_eq_some_iff.1 hk).1
        rw [← hL]
        unfold laidAt
        rw [List.getElem?_map, List.getElem?_append_left hlt, hk]; rfl
      have hlast : L[l0.length]? = some ((tEnd f').at_ ((src.length : Nat) : Int)) := by
        rw [← hL]
        unfold laidAt
        rw [List.getElem?_map, List.getElem?_append_right (Nat.le_refl _)]; simp
      have hmany : l0.length ≤ src.length := by
        have aux : ∀ (xs : List (Tok × Nat)) (n : Nat), xs.Pairwise (fun p q => q.2 < p.2) → (∀ p ∈ xs, 1 ≤ p.2 ∧ p.2 ≤ n) → xs.length ≤ n := by
          intro xs
          induction xs with
          | nil => intro n _ _; simp
          | cons x xs ih =>
            intro n hp hx
            obtain ⟨hp1, hp2⟩ := List.pairwise_cons.1 hp
            have hx0 := hx x (by simp)
            have := ih (x.2 - 1) hp2 (fun p hm => ⟨(hx p (by simp [hm])).1, by have := hp1 p hm; omega⟩)
            simp only [List.length_cons]; omega
        exact aux l0 src.length h2 (fun p hp => ⟨(h1 p hp).2.2.1, (h1 p hp).2.2.2⟩)
      -- the places as a function
      let A : Nat → Int := fun k => match k with
        | 0 => -1
        | k + 1 => match L[k]? with
          | some t => t.At
          | none => 0
      have hstep : ∀ k, k ≤ l0.length → law06_TokenRises.l1 src (L, 0, 0) (A k, (k : Int)) = some (.inl (A (k + 1), ((k + 1 : Nat) : Int))) := by
        intro k hk
        unfold law06_TokenRises.l1
        have c1 : ((k : Int) < ((L.length : Nat) : Int)) := by omega
        have wl : IntKind.wrap .i64 (((L.length : Nat) : Int) - 1) = ((l0.length : Nat) : Int) := by rw [hlen, wrap_i64 (by omega) (by omega)]; omega
        simp only [c1, decide_true, if_true, getI_nat, wl, wrap_succ (show k < 1000000000000 by omega)]
        have hprev : ∀ (j : Nat) (p : Tok × Nat), l0[j]? = some p → A (j + 1) = ((src.length - p.2 : Nat) : Int) := by
          intro j p hj
          show (match L[j]? with | some t => t.At | none => 0) = _
          rw [hget j p hj]; rfl
        by_cases hlt : k < l0.length
        · obtain ⟨p, hp⟩ : ∃ p, l0[k]? = some p := ⟨l0[k], List.getElem?_eq_getElem hlt⟩
          have hpm := h1 p (List.mem_of_getElem? hp)
          rw [hget k p hp, Option.bind_some]
          have e1 : (p.1.at_ ((src.length - p.2 : Nat) : Int)).At = ((src.length - p.2 : Nat) : Int) := rfl
          have e2 : (p.1.at_ ((src.length - p.2 : Nat) : Int)).Kind = p.1.Kind := rfl
          have hA : A k < ((src.length - p.2 : Nat) : Int) := by
            cases k with
            | zero => show (-1 : Int) < _; omega
            | succ j =>
              obtain ⟨q, hq⟩ : ∃ q, l0[j]? = some q := ⟨l0[j]'(by omega), List.getElem?_eq_getElem (by omega)⟩
              rw [hprev j q hq]
              have hqm := h1 q (List.mem_of_getElem? hq)
              have hlt2 : p.2 < q.2 := by
                obtain ⟨hj', hj⟩ := List.getElem?_eq_some_iff.1 hq
                obtain ⟨hk', hk2⟩ := List.getElem?_eq_some_iff.1 hp
                have := List.pairwise_iff_getElem.1 h2 j (j + 1) hj' hk' (by omega)
                rw [hj, hk2] at this; exact this
              omega
          have c2 : ¬ (((src.length - p.2 : Nat) : Int) ≤ A k) := by omega
          have c3 : ¬ (((src.length - p.2 : Nat) : Int) > ((src.length : Nat) : Int)) := by omega
          have c4 : (p.1.Kind == 0) = false := by rw [beq_eq_false_iff_ne]; omega
          have c5 : ((k : Int) == ((l0.length : Nat) : Int)) = false := by rw [beq_eq_false_iff_ne]; omega
          simp only [e1, e2, c2, c3, c4, c5, decide_false, Bool.or_self, bne_self_eq_false, Bool.false_eq_true, if_false]
          rw [hprev k p hp]
        · have hk' : k = l0.length := by omega
          subst hk'
          rw [hlast, Option.bind_some]
          have e1 : ((tEnd f').at_ ((src.length : Nat) : Int)).At = ((src.length : Nat) : Int) := rfl
          have e2 : ((tEnd f').at_ ((src.length : Nat) : Int)).Kind = 0 := rfl
          have hA : A l0.length < ((src.length : Nat) : Int) := by
            cases hk0 : l0.length with
            | zero => show (-1 : Int) < _; omega
            | succ j =>
              obtain ⟨q, hq⟩ : ∃ q, l0[j]? = some q := ⟨l0[j]'(by omega), List.getElem?_eq_getElem (by omega)⟩
              rw [hprev j q hq]
              have hqm := h1 q (List.mem_of_getElem? hq)
              omega
          have c2 : ¬ (((src.length : Nat) : Int) ≤ A l0.length) := by omega
          simp only [e1, e2, c2, Int.lt_irrefl, decide_false, beq_self_eq_true, Bool.or_self, bne_self_eq_false, Bool.false_eq_true, if_false, gt_iff_lt]
          have : A (l0.length + 1) = ((src.length : Nat) : Int) := by
            show (match L[l0.length]? with | some t => t.At | none => 0) = _
            rw [hlast]; rfl
          rw [this]
      have hend : law06_TokenRises.l1 src (L, 0, 0) (A (l0.length + 1), ((l0.length + 1 : Nat) : Int)) = some (.inr (.inl ((src.length : Nat) : Int))) := by
        unfold law06_TokenRises.l1
        have c1 : ¬ (((l0.length + 1 : Nat) : Int) < ((L.length : Nat) : Int)) := by omega
        simp only [c1, decide_false, Bool.false_eq_true, if_false]
        have : A (l0.length + 1) = ((src.length : Nat) : Int) := by
          show (match L[l0.length]? with | some t => t.At | none => 0) = _
          rw [hlast]; rfl
        rw [this]
      have hrun := loop_run (step := law06_TokenRises.l1 src (L, 0, 0)) (fun k => (A k, (k : Int))) (.inl ((src.length : Nat) : Int)) (l0.length + 1) 0 (fun j _ hj => hstep j (by omega)) (by simpa using hend)
      have hrun' : loopM (law06_TokenRises.l1 src (L, 0, 0)) ((-1), 0) = some (.inl ((src.length : Nat) : Int)) := hrun
      have d : (((L.length : Nat) : Int) > 0) := by omega
      subst hL
      rw [hrun', Option.bind_some]
      simp only [d, decide_true, Bool.true_and, beq_self_eq_true]
end Go.Gw
