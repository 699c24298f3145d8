/- Chapter 6: the document's answer, the whole; the statements. -/
import Derived.Test.YtmbdlfemlbbjfaaGreatDoorToken8z
import Derived.Test.YtmbdlfemlbbjfaaGreatDoorToken3z
set_option linter.unusedVariables false
set_option linter.unusedSimpArgs false
set_option linter.unnecessarySimpa false
namespace Go.Gw
set_option linter.unusedSimpArgs false

def hexAt : Str → Bool
  | c :: x :: h :: _ => decide (c = 48 ∧ (x = 120 ∨ x = 88)) && (hexV h).isSome
  | _ => false
theorem number_head (s : Str) (hs : s.length ≤ 1000000000) (p : Nat) (t : Str) (ht : s.drop p = t) (hp : p ≤ s.length) : ref06_number s (p : Int) = ref06_number.j1 s (p : Int) (hexAt t) := by
  have hb1 := begins_eq s p [48, 120] hp hs (by decide)
  have hb2 := begins_eq s p [48, 88] hp hs (by decide)
  have w2 : IntKind.wrap .i64 ((p : Int) + 2) = ((p + 2 : Nat) : Int) := by rw [wrap_i64 (by omega) (by omega)]; omega
  have hlen : t.length = s.length - p := by rw [← ht]; simp
  rw [ht] at hb1 hb2
  unfold ref06_number
  rw [hb1, hb2]
  simp only [Option.bind_some, w2]
  match t, ht, hlen with
  | [], _, _ => rfl
  | [c], _, _ =>
    have e1 : List.isPrefixOf [48, 120] [c] = false := by simp [List.isPrefixOf]
    have e2 : List.isPrefixOf [48, 88] [c] = false := by simp [List.isPrefixOf]
    rw [e1, e2]; rfl
  | [c, x], _, hlen =>
    simp only [List.length_cons, List.length_nil] at hlen
    have d : ¬ (((p + 2 : Nat) : Int) < ((s.length : Nat) : Int)) := by omega
    simp only [d, decide_false, Bool.false_eq_true, if_false, Bool.and_false]
    cases List.isPrefixOf [48, 120] [c, x] <;> rfl
  | c :: x :: h :: r, ht, hlen =>
    simp only [List.length_cons] at hlen
    have d : (((p + 2 : Nat) : Int) < ((s.length : Nat) : Int)) := by omega
    have hg : s[p + 2]? = some h := by
      have : (s.drop p)[2]? = some h := by rw [ht]; rfl
      rwa [List.getElem?_drop] at this
    have e1 : List.isPrefixOf [48, 120] (c :: x :: h :: r) = decide (c = 48 ∧ x = 120) := by
      by_cases q1 : c = 48 <;> by_cases q2 : x = 120 <;> simp [List.isPrefixOf, q1, q2, beq_dec, eq_comm]
    have e2 : List.isPrefixOf [48, 88] (c :: x :: h :: r) = decide (c = 48 ∧ x = 88) := by
      by_cases q1 : c = 48 <;> by_cases q2 : x = 88 <;> simp [List.isPrefixOf, q1, q2, beq_dec, eq_comm]
    rw [e1, e2]
    simp only [d, decide_true, if_true, getB_at s (p + 2) h hg, Option.bind_some, ref06_value_eq, Bool.and_true]
    unfold hexAt
    cases hh : hexV h <;> by_cases q1 : c = 48 <;> by_cases q2 : x = 120 <;> by_cases q3 : x = 88 <;> simp [q1, q2, q3, hh]
theorem ref06_number_eq (s : Str) (hs : s.length ≤ 1000000000) (p : Nat) (c : UInt8) (r : Str) (ht : s.drop p = c :: r) (hc : isDig c = true) (hp : p ≤ s.length) : ref06_number s (p : Int) = some (match numS (c :: r) with | some (n, k) => ((n : Int), (k : Int)) | none => (0, 0)) := by
  obtain ⟨h1, h2, h3⟩ := drop_get ht
  have hldc : isLD c = true := by unfold isLD; rw [hc, Bool.or_true]
  rw [number_head s hs p _ ht hp]
  unfold ref06_number.j1
  have w2 : IntKind.wrap .i64 ((p : Int) + 2) = ((p + 2 : Nat) : Int) := by rw [wrap_i64 (by omega) (by omega)]; omega
  cases hx : hexAt (c :: r) with
  | true =>
    simp only [if_true, w2]
    match r, hx with
    | x :: h :: r, hx =>
      simp only [hexAt, Bool.and_eq_true, decide_eq_true_eq] at hx
      obtain ⟨⟨rfl, hx1⟩, hx2⟩ := hx
      obtain ⟨d, hd⟩ := Option.isSome_iff_exists.1 hx2
      have hldx : isLD x = true := by rcases hx1 with rfl | rfl <;> decide
      have hldh := hexV_ld hd
      have ht2 : s.drop (p + 2) = h :: r := by rw [← List.drop_drop, ht]; rfl
      have hl := ref_number_loop s hs p 16 (.inr rfl) (by intro e; cases e) h3 (h :: r) (p + 2) 0 ht2 (by have := (drop_get ht2).2.2; omega) (by omega) (by omega)
      have e16 : ref06_number.j2 s (p : Int) 16 ((p + 2 : Nat) : Int) = some (ansN (h :: r) 16 0 (p + 2) p) := by
        rw [number_j2]; exact hl
      rw [e16]
      unfold ansN numS numD
      have e1 : rowK (48 :: x :: h :: r) = rowK (h :: r) + 2 := by rw [rowK_cons, if_pos hldc, rowK_cons (c := x), if_pos hldx]
      have e2 : 1 ≤ rowK (h :: r) := by rw [rowK_cons, if_pos hldh]; omega
      have e3 : (48 :: x :: h :: r : Str)[rowK (h :: r) + 2]? = (h :: r)[rowK (h :: r)]? := rfl
      have e4 : (48 :: x :: h :: r : Str).take (rowK (h :: r) + 2) = 48 :: x :: (h :: r).take (rowK (h :: r)) := rfl
      rw [e1, e3, e4]
      have hle := rowK_le (h :: r)
      have e5 : 2 < (48 :: x :: (h :: r).take (rowK (h :: r)) : Str).length := by simp only [List.length_cons, List.length_take]; simp only [List.length_cons] at hle; omega
      have e6 : (48 :: x :: (h :: r).take (rowK (h :: r)) : Str).take 2 = [48, x] := rfl
      have e7 : (48 :: x :: (h :: r).take (rowK (h :: r)) : Str).drop 2 = (h :: r).take (rowK (h :: r)) := rfl
      have e8 : ([48, x] : Str) = [48, 120] ∨ ([48, x] : Str) = [48, 88] := by rcases hx1 with rfl | rfl <;> simp
      rw [e6, e7]
      by_cases h46 : (h :: r)[rowK (h :: r)]? = some 46
      · rw [if_pos h46, if_pos h46]
      · rw [if_neg h46, if_neg h46, if_pos ⟨e5, e8⟩]
        cases parsN 16 ((h :: r).take (rowK (h :: r))) 0 with
        | none => rfl
        | some n =>
          simp only
          by_cases hm : n ≤ 9007199254740991
          · simp only [hm, if_true]
            have : p + 2 + rowK (h :: r) - p = rowK (h :: r) + 2 := by omega
            rw [this]
          · simp only [hm, if_false]
  | false =>
    simp only [Bool.false_eq_true, if_false]
    rw [show ref06_number.j2 s (p : Int) 10 (p : Int) = Option.bind (loopM (ref06_number.l1 s (p : Int) 10) (0, (p : Int))) (fin6 s p) from number_j2 s p 10 (p : Int)]
    by_cases h48 : c = 48
    · subst h48
      have hst : ref06_number.l1 s (p : Int) 10 (0, (p : Int)) = some (.inr (.inl (0, ((p + 1 : Nat) : Int)))) := by
        unfold ref06_number.l1 ref06_number.j5 ref06_number.j6
        have d : ((p : Int) < ((s.length : Nat) : Int)) := by omega
        have hv : hexV 48 = some 0 := by decide
        have hg := getB_at s p 48 h1
        simp only [d, decide_true, if_true, hg, Option.bind_some, ref06_value_eq, hv, wrap_succ (show p < 1000000000000 by omega)]
        rfl
      rw [loopM_out hst, Option.bind_some]
      cases r with
      | nil =>
        have hl1 : p + 1 = s.length := drop_nil h2 (by omega)
        rw [fin6_end s p (p + 1) 0 hl1 (by omega) hs]
        have : p + 1 - p = 1 := by omega
        rw [this]
        have hn : numS [48] = some (0, 1) := by decide
        rw [hn]; rfl
      | cons x r =>
        obtain ⟨k1, k2, k3⟩ := drop_get h2
        rw [fin6_at s p (p + 1) 0 x k1 (by omega) hs]
        have : p + 1 - p = 1 := by omega
        rw [this]
        unfold numS numD
        have e1 : rowK (48 :: x :: r) = rowK (x :: r) + 1 := by rw [rowK_cons, if_pos hldc]
        rw [e1]
        have e3 : (48 :: x :: r : Str)[rowK (x :: r) + 1]? = (x :: r)[rowK (x :: r)]? := rfl
        have e4 : (48 :: x :: r : Str).take (rowK (x :: r) + 1) = 48 :: (x :: r).take (rowK (x :: r)) := rfl
        rw [e3, e4]
        cases hld : isLD x with
        | false =>
          have e5 : rowK (x :: r) = 0 := by rw [rowK_cons, hld]; rfl
          rw [e5]
          simp only [List.getElem?_cons_zero, Option.some.injEq, Bool.false_eq_true, false_or, List.take_zero]
          by_cases h46 : x = 46
          · simp only [h46, if_true]
          · simp only [h46, if_false]
            rfl
        | true =>
          simp only [true_or, if_true]
          have e5 : rowK (x :: r) = rowK r + 1 := by rw [rowK_cons, if_pos hld]
          rw [e5]
          have e6 : (x :: r).take (rowK r + 1) = x :: r.take (rowK r) := rfl
          rw [e6]
          by_cases h46 : (x :: r)[rowK r + 1]? = some 46
          · rw [if_pos h46]
          · rw [if_neg h46]
            have hnone : (if 2 < (48 :: x :: r.take (rowK r) : Str).length ∧ ((48 :: x :: r.take (rowK r) : Str).take 2 = [48, 120] ∨ (48 :: x :: r.take (rowK r) : Str).take 2 = [48, 88]) then parsN 16 ((48 :: x :: r.take (rowK r) : Str).drop 2) 0
                else if 1 < (48 :: x :: r.take (rowK r) : Str).length ∧ (48 :: x :: r.take (rowK r) : Str).head? = some 48 then none
                else parsN 10 (48 :: x :: r.take (rowK r)) 0) = none := by
              have e7 : (48 :: x :: r.take (rowK r) : Str).take 2 = [48, x] := rfl
              have e8 : (48 :: x :: r.take (rowK r) : Str).drop 2 = r.take (rowK r) := rfl
              rw [e7, e8]
              by_cases hh : 2 < (48 :: x :: r.take (rowK r) : Str).length ∧ (([48, x] : Str) = [48, 120] ∨ ([48, x] : Str) = [48, 88])
              · rw [if_pos hh]
                obtain ⟨hh1, hh2⟩ := hh
                cases r with
                | nil => simp at hh1
                | cons h r =>
                  have hrow : 1 ≤ rowK (h :: r) := by
                    simp only [List.length_cons, List.length_take] at hh1; omega
                  have hx12 : x = 120 ∨ x = 88 := by simpa using hh2
                  have hnx : (hexV h).isSome = false := by
                    have hx' := hx
                    simp only [hexAt] at hx'
                    have : decide (True ∧ (x = 120 ∨ x = 88)) = true := by simpa using hx12
                    rw [this, Bool.true_and] at hx'
                    exact hx'
                  have e9 : (h :: r).take (rowK (h :: r)) = h :: r.take (rowK (h :: r) - 1) := by
                    cases hk : rowK (h :: r) with
                    | zero => omega
                    | succ k => rfl
                  rw [e9]
                  unfold parsN
                  cases hv : hexV h with
                  | none => rfl
                  | some d => rw [hv] at hnx; cases hnx
              · rw [if_neg hh, if_pos ⟨by simp, rfl⟩]
            rw [hnone]
    · have hl := ref_number_loop s hs p 10 (.inl rfl) (by intro _; rw [h1]; simpa using h48) h3 (c :: r) p 0 ht hp (Nat.le_refl _) (by omega)
      have hl' : Option.bind (loopM (ref06_number.l1 s (p : Int) 10) (0, (p : Int))) (fin6 s p) = some (ansN (c :: r) 10 0 p p) := hl
      rw [hl']
      unfold ansN numS numD
      have e1 : rowK (c :: r) = rowK r + 1 := by rw [rowK_cons, if_pos hldc]
      rw [e1]
      have e4 : (c :: r).take (rowK r + 1) = c :: r.take (rowK r) := rfl
      rw [e4]
      have n1 : ¬ ((c :: r.take (rowK r) : Str).take 2 = [48, 120] ∨ (c :: r.take (rowK r) : Str).take 2 = [48, 88]) := by
        simp only [List.take_succ_cons, List.cons.injEq, h48, false_and, or_self, not_false_eq_true]
      have n2 : ¬ ((c :: r.take (rowK r) : Str).head? = some 48) := by simpa using h48
      by_cases h46 : (c :: r)[rowK r + 1]? = some 46
      · rw [if_pos h46, if_pos h46]
      · rw [if_neg h46, if_neg h46, if_neg (fun h => n1 h.2), if_neg (fun h => n2 h.2)]
        cases parsN 10 (c :: r.take (rowK r)) 0 with
        | none => rfl
        | some n =>
          simp only
          by_cases hm : n ≤ 9007199254740991
          · simp only [hm, if_true]
            have : p + (rowK r + 1) - p = rowK r + 1 := by omega
            rw [this]
          · simp only [hm, if_false]

/-! ### signs -/
theorem find_len (k : Nat) (s : Str) : ∀ L : List Str, (∀ g ∈ L, g.length = k) → L.find? (fun g => g.isPrefixOf s) = if k ≤ s.length ∧ L.contains (s.take k) = true then some (s.take k) else none
  | [], _ => by simp
  | g :: L, h => by
    have hg := h g (by simp)
    have ih := find_len k s L (fun x hx => h x (by simp [hx]))
    rw [List.find?_cons, prefix_take, hg, List.contains_cons]
    by_cases hk : k ≤ s.length
    · cases e : (s.take k == g) with
      | true =>
        have : s.take k = g := by simpa using e
        simp only [hk, true_and, Bool.true_or, if_true, this]
      | false => simp only [hk, true_and, Bool.false_or]; rw [ih]; simp only [hk, true_and]
    · have e : (s.take k == g) = false := by
        rw [beq_eq_false_iff_ne]
        intro e
        have := congrArg List.length e
        simp only [List.length_take] at this; omega
      rw [e]
      simp only [hk, false_and, if_false]
      rw [ih]; simp only [hk, false_and, if_false]
def signL : List Str := tripL ++ (doubL ++ singL.map (fun b => [b]))
theorem single_contains (c : UInt8) : ∀ l : List UInt8, (l.map (fun b => ([b] : Str))).contains [c] = l.contains c
  | [] => rfl
  | b :: l => by
    rw [List.map_cons, List.contains_cons, List.contains_cons, single_contains c l]
    congr 1
    simp
theorem find_sign (c : UInt8) (r : Str) : signL.find? (fun g => g.isPrefixOf (c :: r)) = if signS (c :: r) = 0 then none else some ((c :: r).take (signS (c :: r))) := by
  unfold signL
  rw [List.find?_append, List.find?_append, find_len 3 _ tripL (by decide), find_len 2 _ doubL (by decide), find_len 1 _ (singL.map fun b => [b]) (by decide)]
  have e1 : (c :: r).take 1 = [c] := rfl
  have l1 : 1 ≤ (c :: r).length := by simp
  rw [e1, single_contains]
  simp only [l1, true_and]
  by_cases h3 : 2 < (c :: r).length ∧ tripL.contains ((c :: r).take 3) = true
  · have h3' : 3 ≤ (c :: r).length ∧ tripL.contains ((c :: r).take 3) = true := h3
    have hS : signS (c :: r) = 3 := by unfold signS; rw [if_pos h3]
    rw [if_pos h3', hS]; rfl
  · have h3' : ¬ (3 ≤ (c :: r).length ∧ tripL.contains ((c :: r).take 3) = true) := h3
    rw [if_neg h3']
    by_cases h2 : 1 < (c :: r).length ∧ doubL.contains ((c :: r).take 2) = true
    · have h2' : 2 ≤ (c :: r).length ∧ doubL.contains ((c :: r).take 2) = true := h2
      have hS : signS (c :: r) = 2 := by unfold signS; rw [if_neg h3, if_pos h2]
      rw [if_pos h2', hS]; rfl
    · have h2' : ¬ (2 ≤ (c :: r).length ∧ doubL.contains ((c :: r).take 2) = true) := h2
      have hS : signS (c :: r) = if singL.contains c = true then 1 else 0 := by unfold signS; rw [if_neg h3, if_neg h2]; rfl
      rw [if_neg h2', hS]
      cases singL.contains c <;> rfl

/-! ### a token -/
theorem ref_one_loop (s : Str) (hs : s.length ≤ 1000000000) : ∀ (t : Str) (p : Nat), s.drop p = t → p ≤ s.length → loopM (ref06_one.l1 s) (p : Int) = some (((p + rowK t : Nat)) : Int)
  | [], p, ht, hp => by
    have e := drop_nil ht hp
    refine loopM_out ?_
    unfold ref06_one.l1 ref06_one.j2
    have c : ¬ ((p : Int) < ((s.length : Nat) : Int)) := by omega
    simp only [c, decide_false, Bool.false_eq_true, if_false]
    rfl
  | c :: r, p, ht, hp => by
    obtain ⟨h1, h2, h3⟩ := drop_get ht
    have hst : ref06_one.l1 s (p : Int) = if isLD c = true then some (.inl ((p + 1 : Nat) : Int)) else some (.inr (p : Int)) := by
      unfold ref06_one.l1 ref06_one.j2
      have d : ((p : Int) < ((s.length : Nat) : Int)) := by omega
      simp only [d, decide_true, if_true, getB_at s p c h1, Option.bind_some, ref06_letter_eq, ref06_digit_eq, wrap_succ (show p < 1000000000000 by omega)]
      unfold isLD
      cases isLet c <;> cases isDig c <;> rfl
    rw [rowK_cons]
    cases hld : isLD c with
    | true =>
      rw [hld] at hst
      rw [loopM_go hst, ref_one_loop s hs r (p + 1) h2 (by omega)]
      simp only [if_true]
      congr 2; omega
    | false =>
      rw [hld] at hst
      rw [loopM_out hst]; rfl
theorem ref06_one_eq (s : Str) (p : Nat) (hs : s.length ≤ 100000000) (h0 : s.drop p ≠ []) (hp : p ≤ s.length) : ∃ x, ref06_one s (p : Int) = some x ∧ match oneS (s.drop p) with
    | some (t, n) => x = (t, (n : Int))
    | none => x.2 = 0 := by
  generalize ht : s.drop p = t at h0
  cases t with
  | nil => exact absurd rfl h0
  | cons b r =>
    obtain ⟨h1, h2, h3⟩ := drop_get ht
    have hlen : (b :: r).length = s.length - p := by rw [← ht]; simp
    have hle := rowK_le (b :: r)
    unfold ref06_one oneS
    simp only [getB_at s p b h1, Option.bind_some, ref06_letter_eq, ref06_digit_eq]
    by_cases hl : isLet b = true
    · have hw : IntKind.wrap .i64 (((p + rowK (b :: r) : Nat) : Int) - (p : Int)) = ((rowK (b :: r) : Nat) : Int) := by rw [wrap_i64 (by omega) (by omega)]; omega
      simp only [hl, if_true, ref_one_loop s (by omega) (b :: r) p ht hp, Option.bind_some, hw]
      by_cases h32 : 32 < rowK (b :: r)
      · have d : (((rowK (b :: r) : Nat) : Int) > 32) := by omega
        simp only [d, h32, decide_true, if_true]
        exact ⟨_, rfl, rfl⟩
      · have d : ¬ (((rowK (b :: r) : Nat) : Int) > 32) := by omega
        have hcut : cutL s (p : Int) ((p + rowK (b :: r) : Nat) : Int) = some ((b :: r).take (rowK (b :: r))) := by
          rw [cutL_nat s p (p + rowK (b :: r)) (by omega) (by omega), ht]
          have : p + rowK (b :: r) - p = rowK (b :: r) := by omega
          rw [this]
        simp only [d, h32, decide_false, Bool.false_eq_true, if_false, hcut, Option.bind_some, ref06_IsWord_eq]
        unfold ref06_one.j3
        simp only [hw]
        cases isWordS ((b :: r).take (rowK (b :: r))) with
        | true => simp only [if_true]; exact ⟨_, rfl, rfl⟩
        | false => simp only [Bool.false_eq_true, if_false]; exact ⟨_, rfl, rfl⟩
    · have hl' : isLet b = false := by simpa using hl
      simp only [hl', Bool.false_eq_true, if_false]
      by_cases hd : isDig b = true
      · simp only [hd, if_true, ref06_number_eq s (by omega) p b r ht hd hp, Option.bind_some]
        cases numS (b :: r) with
        | none => exact ⟨_, rfl, rfl⟩
        | some q => exact ⟨_, rfl, rfl⟩
      · have hd' : isDig b = false := by simpa using hd
        simp only [hd', Bool.false_eq_true, if_false]
        have b39 : ((((b.toNat : Nat) : Int)) == 39) = decide (b = 39) := byte_beq b 39 (by omega)
        have b34 : ((((b.toNat : Nat) : Int)) == 34) = decide (b = 34) := byte_beq b 34 (by omega)
        rw [b39, b34]
        by_cases hq : b = 39 ∨ b = 34
        · have dq : (decide (b = 39) || decide (b = 34)) = true := by simpa using hq
          have hcut : cutL s (p : Int) ((s.length : Nat) : Int) = some (b :: r) := by rw [cutL_to_end s p hp, ht]
          simp only [dq, if_true, hq, hcut, Option.bind_some, ref01_Read_eq (b :: r) (by omega)]
          generalize hx : readS (b :: r) = q
          obtain ⟨u, n, e⟩ := q
          have hb := readS_len hx
          refine ⟨_, rfl, ?_⟩
          simp only
          by_cases hn : n = 0
          · simp only [hn, if_true]
          · simp only [hn, if_false]
            have : ((n.toNat : Nat) : Int) = n := by omega
            rw [this]
        · have dq : (decide (b = 39) || decide (b = 34)) = false := by simpa using hq
          simp only [dq, Bool.false_eq_true, if_false, hq]
          have hsg : ref06_signs = some signL := by unfold ref06_signs; rfl
          rw [hsg, Option.bind_some]
          have hl := loop_find (step := ref06_one.l2 s (p : Int) signL) signL (fun g => g.isPrefixOf (b :: r))
            (fun g => (Sum.inr (({ Kind := 5, Text := g, Num := 0, At := 0, Fresh := false } : Tok), ((g.length : Nat) : Int)) : Unit ⊕ (Tok × Int))) (.inl ()) (by decide)
            (by
              intro k x hx
              have hlt : k < signL.length := (List.getElem?_eq_some_iff.1 hx).1
              have hl35 : signL.length < 100 := by decide
              have hxl : x.length ≤ 1000000 := by
                have hm := List.mem_of_getElem? hx
                have : ∀ g ∈ signL, g.length ≤ 1000000 := by decide
                exact this x hm
              unfold ref06_one.l2
              have c : ((k : Int) < ((signL.length : Nat) : Int)) := by omega
              simp only [c, decide_true, if_true, getI_nat, hx, Option.bind_some, begins_eq s p x hp (by omega) hxl, ht, wrap_succ (show k < 1000000000000 by omega)])
            (by
              unfold ref06_one.l2
              simp only [Int.lt_irrefl, decide_false, Bool.false_eq_true, if_false])
          rw [hl, find_sign, Option.bind_some]
          by_cases hsz : signS (b :: r) = 0
          · simp only [hsz, if_true]
            exact ⟨_, rfl, rfl⟩
          · have hsl := signS_le b r
            simp only [hsz, if_false]
            refine ⟨_, rfl, ?_⟩
            have : ((b :: r).take (signS (b :: r))).length = signS (b :: r) := by rw [List.length_take]; omega
            simp only [this]

/-! ### the whole -/
theorem ref_cut_loop (src : Str) (hs : src.length ≤ 100000000) : ∀ (m : Nat) (p : Nat) (out : List Tok), (src.drop p).length < m → p ≤ src.length → out.length ≤ p →
    loopM (ref06_Cut.l1 src) ((p : Int), out) = some (match cutT m (src.drop p) false with
      | .inl l => (out ++ laidAt src.length l, 0, 0)
      | .inr k => ([], ((src.length - k : Nat) : Int), 60))
  | 0, p, out, h, _, _ => by omega
  | m + 1, p, out, hm, hp, hout => by
    have hb := ref06_blanks_eq src p hp (by omega)
    have hl := blanksG_len ((src.drop p).length + 1) (src.drop p) false
    have hdl : (src.drop p).length = src.length - p := by simp
    have hsuf : ∀ (m : Nat) (t : Str) (f : Bool), (blanksG m t f).1 <:+ t := by
      intro m
      induction m with
      | zero => intro t f; exact List.suffix_refl _
      | succ m ih =>
        intro t f
        cases t with
        | nil => exact List.suffix_refl _
        | cons c r =>
          unfold blanksG
          split
          · exact (ih r true).trans (List.suffix_cons _ _)
          · split
            · exact (ih r f).trans (List.suffix_cons _ _)
            · split
              · exact (ih _ f).trans (List.dropWhile_suffix _)
              · split
                · split
                  · exact List.suffix_refl _
                  · exact (ih _ _).trans (List.drop_suffix _ _)
                · exact List.suffix_refl _
    have hsf := hsuf ((src.drop p).length + 1) (src.drop p) false
    rw [cutT]
    generalize hq : blanksG ((src.drop p).length + 1) (src.drop p) false = q at hb hl hsf
    obtain ⟨r, f, ok⟩ := q
    simp only at hb hl hsf ⊢
    have hrd : src.drop (src.length - r.length) = r := by
      have := List.suffix_iff_eq_drop.1 hsf
      rw [List.drop_drop] at this
      have e : p + ((src.drop p).length - r.length) = src.length - r.length := by omega
      rw [e] at this; exact this.symm
    cases ok with
    | false =>
      simp only at hb
      simp only [if_true]
      refine loopM_out ?_
      unfold ref06_Cut.l1
      simp only [hb, Option.bind_some, Bool.not_false, if_true]
    | true =>
      simp only at hb
      simp only [Bool.true_eq_false, if_false]
      have hroom : room (out.length + 1) = some () := room_ok (by omega)
      by_cases hr : r = []
      · subst hr
        simp only [if_true]
        refine loopM_out ?_
        unfold ref06_Cut.l1
        simp only [hb, Option.bind_some, Bool.not_true, Bool.false_eq_true, if_false, List.length_nil, Nat.sub_zero, beq_self_eq_true, if_true, hroom]
        rfl
      · simp only [hr, if_false]
        have hrl : 1 ≤ r.length := by
          cases r with
          | nil => exact absurd rfl hr
          | cons a r => simp
        obtain ⟨x, e1, e2⟩ := ref06_one_eq src (src.length - r.length) hs (by rw [hrd]; exact hr) (by omega)
        rw [hrd] at e2
        have cne : ((((src.length - r.length : Nat) : Int)) == ((src.length : Nat) : Int)) = false := by rw [beq_eq_false_iff_ne]; omega
        have hstep : ref06_Cut.l1 src ((p : Int), out) = if (x.2 == 0) = true then some (.inr (([] : List T_api_Token), ((src.length - r.length : Nat) : Int), 60))
            else some (.inl ((IntKind.wrap .i64 (((src.length - r.length : Nat) : Int) + x.2)), (out ++ [({ Kind := x.1.Kind, Text := x.1.Text, Num := x.1.Num, At := ((src.length - r.length : Nat) : Int), Fresh := f } : T_api_Token)]))) := by
          unfold ref06_Cut.l1
          simp only [hb, Option.bind_some, Bool.not_true, Bool.false_eq_true, if_false, cne, e1, hroom]
        cases ho : oneS r with
        | none =>
          rw [ho] at e2
          simp only at e2
          rw [e2] at hstep
          simp only [beq_self_eq_true, if_true] at hstep
          exact loopM_out hstep
        | some q =>
          obtain ⟨t, n⟩ := q
          rw [ho] at e2
          simp only at e2
          subst e2
          have hn := oneS_len ho
          have c0 : ((n : Int) == 0) = false := by rw [beq_eq_false_iff_ne]; omega
          have w : IntKind.wrap .i64 (((src.length - r.length : Nat) : Int) + (n : Int)) = ((src.length - r.length + n : Nat) : Int) := by rw [wrap_i64 (by omega) (by omega)]; omega
          simp only [c0, Bool.false_eq_true, if_false, w] at hstep
          have htok : ({ Kind := t.Kind, Text := t.Text, Num := t.Num, At := ((src.length - r.length : Nat) : Int), Fresh := f } : Tok) = (t.fresh f).at_ ((src.length - r.length : Nat) : Int) := rfl
          rw [htok] at hstep
          have hd2 : src.drop (src.length - r.length + n) = r.drop n := by rw [← List.drop_drop, hrd]
          have ih := ref_cut_loop src hs m (src.length - r.length + n) (out ++ [(t.fresh f).at_ ((src.length - r.length : Nat) : Int)]) (by rw [hd2]; simp only [List.length_drop]; omega) (by omega) (by simp only [List.length_append, List.length_cons, List.length_nil]; omega)
          rw [loopM_go hstep, ih, hd2]
          simp only
          cases hc : cutT m (r.drop n) false with
          | inl l => simp only [laidAt_cons]; simp
          | inr k => rfl
theorem ref06_Cut_eq (src : Str) (hs : src.length ≤ 100000000) : ref06_Cut src = some (cutS src) := by
  unfold ref06_Cut cutS
  by_cases h : 4096 < src.length
  · have d : (((src.length : Nat) : Int) > 4096) := by omega
    simp only [d, h, decide_true, if_true]
  · have d : ¬ (((src.length : Nat) : Int) > 4096) := by omega
    simp only [d, h, decide_false, Bool.false_eq_true, if_false]
    have := ref_cut_loop src hs (src.length + 1) 0 [] (by simp) (by omega) (by simp)
    rw [List.drop_zero] at this
    have this' : loopM (ref06_Cut.l1 src) (0, ([] : List T_api_Token)) = _ := this
    rw [this', Option.bind_some]
    cases cutT (src.length + 1) src false <;> rfl
end Go.Gw

