/- Chapter 6: two sources one behind the other. -/
import Derived.Test.YtmbdlfemlbbjfaaDoorToken7
set_option linter.unusedVariables false
set_option linter.unusedSimpArgs false
set_option linter.unnecessarySimpa false
namespace Go.Gw
set_option linter.unusedSimpArgs false

def shT (n : Nat) (k : Nat) (t : Tok) : Tok := { Kind := t.Kind, Text := t.Text, Num := t.Num, At := t.At + ((n + 1 : Nat) : Int), Fresh := t.Fresh || ((k : Int) == 0) }
def shL (n : Nat) : Nat → List Tok → List Tok
  | _, [] => []
  | k, t :: r => shT n k t :: shL n (k + 1) r
theorem shL_concat (n : Nat) (t : Tok) : ∀ (l : List Tok) (k : Nat), shL n k (l ++ [t]) = shL n k l ++ [shT n (k + l.length) t]
  | [], k => rfl
  | x :: l, k => by
    simp only [List.cons_append, shL, shL_concat n t l (k + 1), List.length_cons]
    have : k + 1 + l.length = k + (l.length + 1) := by omega
    rw [this]
theorem joins_loop (a : Str) (ys : List Tok) (z : Int × Int) (ha : a.length ≤ 2000) (hl : ys.length ≤ 100000) (hy : ∀ t ∈ ys, 0 ≤ t.At ∧ t.At ≤ 100000) (X : List Tok) (hX : X.length ≤ 100000) :
    loopM (law06_TokenJoins.l1 a (ys, z)) (0, X) = some (X ++ shL a.length 0 ys) := by
  have hrun := loop_run (step := law06_TokenJoins.l1 a (ys, z)) (fun k => ((k : Int), X ++ shL a.length 0 (ys.take k))) (X ++ shL a.length 0 ys) ys.length 0
    (by
      intro k _ hk
      have hk' : k < ys.length := by omega
      obtain ⟨t, ht⟩ : ∃ t, ys[k]? = some t := ⟨ys[k], List.getElem?_eq_getElem hk'⟩
      have hb := hy t (List.mem_of_getElem? ht)
      unfold law06_TokenJoins.l1
      have c : ((k : Int) < ((ys.length : Nat) : Int)) := by omega
      have hlen : ∀ (m : Nat) (l : List Tok), (shL a.length m l).length = l.length := by
        intro m l
        induction l generalizing m with
        | nil => rfl
        | cons x l ih => simp only [shL, List.length_cons, ih]
      have hroom : room ((X ++ shL a.length 0 (ys.take k)).length + 1) = some () := room_ok (by simp only [List.length_append, hlen, List.length_take]; omega)
      have w1 : IntKind.wrap .i64 (((a.length : Nat) : Int) + 1) = ((a.length + 1 : Nat) : Int) := wrap_succ (by omega)
      have w2 : IntKind.wrap .i64 (t.At + ((a.length + 1 : Nat) : Int)) = t.At + ((a.length + 1 : Nat) : Int) := wrap_i64 (by omega) (by omega)
      have htake : ys.take (k + 1) = ys.take k ++ [t] := by rw [List.take_add_one, ht]; rfl
      simp only [c, decide_true, if_true, getI_nat, ht, Option.bind_some, hroom, w1, w2, wrap_succ (show k < 1000000000000 by omega), htake, shL_concat]
      have : 0 + (ys.take k).length = k := by rw [List.length_take]; omega
      rw [this]
      simp only [List.append_assoc]
      rfl)
    (by
      unfold law06_TokenJoins.l1
      have c : ¬ (((0 + ys.length : Nat) : Int) < ((ys.length : Nat) : Int)) := by omega
      simp only [c, decide_false, Bool.false_eq_true, if_false]
      have : ys.take (0 + ys.length) = ys := by rw [Nat.zero_add, List.take_length]
      rw [this])
  have hrun' : loopM (law06_TokenJoins.l1 a (ys, z)) (0, X ++ shL a.length 0 (ys.take 0)) = _ := hrun
  rw [List.take_zero] at hrun'
  have e : X ++ shL a.length 0 ([] : List Tok) = X := by simp [shL]
  rw [e] at hrun'
  exact hrun'
theorem laid_tail (A B : Nat) : ∀ (l : List (Tok × Nat)) (k : Nat), (∀ p ∈ l, p.2 ≤ B) → laidAt (A + 1 + B) l = shL A (k + 1) (laidAt B l)
  | [], _, _ => rfl
  | p :: l, k, h => by
    have hp := h p (by simp)
    rw [laidAt_cons, laidAt_cons, shL, laid_tail A B l (k + 1) (fun q hq => h q (by simp [hq]))]
    congr 1
    unfold shT Tok.at_
    have e1 : (((k + 1 : Nat) : Int) == 0) = false := by rw [beq_eq_false_iff_ne]; omega
    have e2 : ((A + 1 + B - p.2 : Nat) : Int) = ((B - p.2 : Nat) : Int) + ((A + 1 : Nat) : Int) := by omega
    simp only [e1, e2, Bool.or_false]
theorem law06_TokenJoins_true (a b : Str) (ha : a.length ≤ 1048576) (hb : b.length ≤ 1048576) : law06_TokenJoins a b = some true := by
  unfold law06_TokenJoins law06_TokenJoins.j1
  rw [law06_live_eq, token_Cut_eq a (by omega), token_Cut_eq b (by omega)]
  simp only [Option.bind_some]
  by_cases hcond : (((((((cutS a).2.2 != 0) || ((cutS b).2.2 != 0)) || (decide (((a.length : Nat) : Int) > 2000))) || (decide (((b.length : Nat) : Int) > 2000))) || ((((cutS a).1.length : Nat) : Int) == 0)) || ((((cutS b).1.length : Nat) : Int) == 0)) = true
  · rw [if_pos hcond]
  · rw [if_neg hcond]
    simp only [Bool.or_eq_true, bne_iff_ne, ne_eq, decide_eq_true_eq, beq_iff_eq, not_or, Classical.not_not] at hcond
    obtain ⟨⟨⟨⟨⟨h1, h2⟩, h3⟩, h4⟩, h5⟩, h6⟩ := hcond
    have la : a.length ≤ 2000 := by omega
    have lb : b.length ≤ 2000 := by omega
    have hca : ∃ l, cutT (a.length + 1) a false = .inl l ∧ cutS a = (laidAt a.length l, 0, 0) := by
      unfold cutS at h1 ⊢
      rw [if_neg (by omega)] at h1 ⊢
      cases hc : cutT (a.length + 1) a false with
      | inl l => exact ⟨l, rfl, rfl⟩
      | inr k => rw [hc] at h1; simp at h1
    have hcb : ∃ l, cutT (b.length + 1) b false = .inl l ∧ cutS b = (laidAt b.length l, 0, 0) := by
      unfold cutS at h2 ⊢
      rw [if_neg (by omega)] at h2 ⊢
      cases hc : cutT (b.length + 1) b false with
      | inl l => exact ⟨l, rfl, rfl⟩
      | inr k => rw [hc] at h2; simp at h2
    obtain ⟨xa, ca1, ca2⟩ := hca
    obtain ⟨xb, cb1, cb2⟩ := hcb
    obtain ⟨l0, fa, rfl, ra1, ra2⟩ := cutT_rises _ _ _ _ ca1
    have cat1 : catS a ([10] : Str) = some (a ++ [10]) := by unfold catS; rw [if_pos (by simp; omega)]
    have cat2 : catS (a ++ [10]) b = some (a ++ 10 :: b) := by unfold catS; rw [if_pos (by simp; omega)]; simp
    have lab : (a ++ 10 :: b).length = a.length + 1 + b.length := by simp; omega
    have hext := cutT_ext b (a.length + 1) a false _ (by omega) ca1 ((a ++ 10 :: b).length + 1) (by omega)
    rw [cutT_true _ b false, cb1] at hext
    obtain ⟨m0, fb, hxb, rb1, rb2⟩ := cutT_rises _ _ _ _ cb1
    have hmem : ∀ p ∈ xb, p.2 ≤ b.length := by
      intro p hp
      rw [hxb, List.mem_append] at hp
      rcases hp with hp | hp
      · exact (rb1 p hp).2.2.2
      · simp only [List.mem_singleton] at hp; subst hp; simp
    have aux : ∀ (xs : List (Tok × Nat)) (n : Nat), xs.Pairwise (fun p q => q.2 < p.2) → (∀ p ∈ xs, 1 ≤ p.2 ∧ p.2 ≤ n) → xs.length ≤ n := by
      intro xs
      induction xs with
      | nil => intro n _ _; simp
      | cons x xs ih =>
        intro n hp hx
        obtain ⟨hp1, hp2⟩ := List.pairwise_cons.1 hp
        have hx0 := hx x (by simp)
        have := ih (x.2 - 1) hp2 (fun p hm => ⟨(hx p (by simp [hm])).1, by have := hp1 p hm; omega⟩)
        simp only [List.length_cons]; omega
    have la0 := aux l0 a.length ra2 (fun p hp => ⟨(ra1 p hp).2.2.1, (ra1 p hp).2.2.2⟩)
    have lb0 := aux m0 b.length rb2 (fun p hp => ⟨(rb1 p hp).2.2.1, (rb1 p hp).2.2.2⟩)
    have hxbl : xb.length = m0.length + 1 := by rw [hxb]; simp
    cases xb with
    | nil => simp at hxbl
    | cons t0 xb =>
      obtain ⟨t, k⟩ := t0
      simp only at hext
      rw [List.dropLast_concat] at hext
      have hz : cutS (a ++ 10 :: b) = (laidAt (a.length + 1 + b.length) (l0.map (fun p => (p.1, p.2 + (b.length + 1))) ++ ((t.fresh true, k) :: xb)), 0, 0) := by
        unfold cutS
        rw [if_neg (by omega), hext]
        simp only [lab]
      have hlen1 : (laidAt a.length (l0 ++ [(tEnd fa, 0)])).length = l0.length + 1 := by simp [laidAt]
      have hw : IntKind.wrap .i64 ((((laidAt a.length (l0 ++ [(tEnd fa, 0)])).length : Nat) : Int) - 1) = ((l0.length : Nat) : Int) := by rw [hlen1, wrap_i64 (by omega) (by omega)]; omega
      have hcut : cutL (laidAt a.length (l0 ++ [(tEnd fa, 0)])) 0 ((l0.length : Nat) : Int) = some (laidAt a.length l0) := by
        have := cutL_nat (laidAt a.length (l0 ++ [(tEnd fa, 0)])) 0 l0.length (by omega) (by rw [hlen1]; omega)
        have e : ((0 : Nat) : Int) = 0 := rfl
        rw [e] at this
        rw [this]
        simp only [List.drop_zero, Nat.sub_zero]
        unfold laidAt
        rw [List.map_append, List.take_append_of_le_length (by simp), List.take_of_length_le (by simp)]
      have hX : (laidAt a.length l0).length = l0.length := by simp [laidAt]
      have hroom : room (([] : List T_api_Token).length + (laidAt a.length l0).length) = some () := room_ok (by simp only [List.length_nil, hX]; omega)
      have hloop := joins_loop a (laidAt b.length ((t, k) :: xb)) (0, 0) la (by simp only [laidAt, List.length_map]; omega)
        (by
          intro u hu
          unfold laidAt at hu
          obtain ⟨p, hp, rfl⟩ := List.mem_map.1 hu
          have := hmem p hp
          show 0 ≤ ((b.length - p.2 : Nat) : Int) ∧ ((b.length - p.2 : Nat) : Int) ≤ 100000
          omega)
        (laidAt a.length l0) (by rw [hX]; omega)
      rw [ca2, cb2, cat1, Option.bind_some, cat2, Option.bind_some, token_Cut_eq _ (by omega), Option.bind_some, hz]
      simp only [hw, hcut, Option.bind_some, hroom, List.nil_append, hloop, beq_self_eq_true, Bool.and_self, if_true]
      have hsame : laidAt (a.length + 1 + b.length) (l0.map (fun p => (p.1, p.2 + (b.length + 1))) ++ ((t.fresh true, k) :: xb)) = laidAt a.length l0 ++ shL a.length 0 (laidAt b.length ((t, k) :: xb)) := by
        have e1 : laidAt (a.length + 1 + b.length) (l0.map (fun p => (p.1, p.2 + (b.length + 1)))) = laidAt a.length l0 := by
          unfold laidAt
          rw [List.map_map]
          apply List.map_congr_left
          intro p _
          show Tok.at_ p.1 ((a.length + 1 + b.length - (p.2 + (b.length + 1)) : Nat) : Int) = _
          have : a.length + 1 + b.length - (p.2 + (b.length + 1)) = a.length - p.2 := by omega
          rw [this]
        have e2 : laidAt (a.length + 1 + b.length) ((t.fresh true, k) :: xb) = shL a.length 0 (laidAt b.length ((t, k) :: xb)) := by
          have hk := hmem (t, k) (by simp)
          simp only at hk
          rw [laidAt_cons, laidAt_cons, shL, laid_tail a.length b.length xb 0 (fun q hq => hmem q (by simp [hq]))]
          congr 1
          unfold shT Tok.at_ Tok.fresh
          have e2 : ((a.length + 1 + b.length - k : Nat) : Int) = ((b.length - k : Nat) : Int) + ((a.length + 1 : Nat) : Int) := by omega
          have e3 : (((0 : Nat) : Int) == 0) = true := rfl
          simp only [e2, e3, Bool.or_true]
        have e3 : ∀ (n : Nat) (x y : List (Tok × Nat)), laidAt n (x ++ y) = laidAt n x ++ laidAt n y := fun n x y => by simp [laidAt]
        rw [e3, e1, e2]
      rw [hsame, ref06_Same_refl _ (by
        rw [← hsame]
        simp only [laidAt, List.length_map, List.length_append, List.length_cons] at hxbl ⊢
        omega)]
      rfl
end Go.Gw
