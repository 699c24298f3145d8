/- Chapter 1: plain texts, indexes, literals written. Plain Lean over the printed functions. -/
import Derived.Test.YtnggnpppaaiflaaDoorUnits1
set_option linter.unusedVariables false
set_option linter.unusedSimpArgs false
set_option linter.unnecessarySimpa false
namespace Go.Gw
open Go.Proofs
set_option linter.unusedSimpArgs false

def plainB (b : UInt8) : Bool := decide (b.toNat < 128)
def natsB (s : Str) : List Nat := s.map fun b => b.toNat
def ofS (s : Str) : Str × Int := if s.all plainB = true then (encL (natsB s), 0) else ([], 10)
theorem units_Of_loop (s : Str) (hs : s.length ≤ 1000000000) : ∀ (n k : Nat), k + n = s.length →
    loopM (units_Of.l1 s) ((k : Int), encL (natsB (s.take k)) ++ List.replicate (2 * (s.length - k)) 0) = some (if (s.drop k).all plainB = true then .inl (encL (natsB s)) else .inr ([], 10)) := by
  intro n
  induction n with
  | zero =>
    intro k hk
    obtain rfl : k = s.length := by omega
    have hstep : units_Of.l1 s ((s.length : Int), encL (natsB (s.take s.length)) ++ List.replicate (2 * (s.length - s.length)) 0) = some (.inr (.inl (encL (natsB s)))) := by
      unfold units_Of.l1
      simp only [Int.lt_irrefl, decide_false, Bool.false_eq_true, if_false]
      simp
    rw [loopM_out hstep]; simp
  | succ n ih =>
    intro k hk
    have hlt : k < s.length := by omega
    rw [List.drop_eq_getElem_cons hlt]
    have c : ((k : Int) < ((s.length : Nat) : Int)) := by omega
    cases hp : plainB s[k] with
    | false =>
      have hge : ¬ s[k].toNat < 128 := by unfold plainB at hp; simpa using hp
      have hstep : units_Of.l1 s ((k : Int), encL (natsB (s.take k)) ++ List.replicate (2 * (s.length - k)) 0) = some (.inr (.inr ([], 10))) := by
        unfold units_Of.l1
        have c2 : (((s[k].toNat : Nat) : Int)) ≥ 128 := by omega
        simp only [c, decide_true, if_true, getB_nat, List.getElem?_eq_getElem hlt, Option.map_some, Option.bind_some, c2]
      rw [loopM_out hstep]
      simp only [List.all_cons, hp, Bool.false_and, Bool.false_eq_true, if_false]
    | true =>
      have hlt2 : s[k].toNat < 128 := by unfold plainB at hp; simpa using hp
      have hlen : (encL (natsB (s.take k))).length = 2 * k := by rw [encL_length]; simp [natsB]; omega
      obtain ⟨m, hm⟩ : ∃ m, s.length - k = m + 1 := ⟨s.length - k - 1, by omega⟩
      have hset : (encL (natsB (s.take k)) ++ List.replicate (2 * (s.length - k)) (0 : UInt8)).set (2 * k + 1) s[k] = encL (natsB (s.take (k + 1))) ++ List.replicate (2 * (s.length - (k + 1))) 0 := by
        rw [List.take_add_one, List.getElem?_eq_getElem hlt, Option.toList_some]
        have e1 : natsB (s.take k ++ [s[k]]) = natsB (s.take k) ++ [s[k].toNat] := by unfold natsB; rw [List.map_append]; rfl
        rw [e1, encL_append, List.set_append_right _ _ (by omega), hlen, hm]
        have e2 : 2 * (m + 1) = 2 * m + 1 + 1 := by omega
        have e3 : 2 * k + 1 - 2 * k = 1 := by omega
        have e4 : s.length - (k + 1) = m := by omega
        rw [e2, e3, e4, List.replicate_succ, List.replicate_succ]
        simp only [List.set_cons_succ, List.set_cons_zero, List.append_assoc]
        congr 1
        have e5 : s[k].toNat / 256 = 0 := by omega
        have e6 : s[k].toNat % 256 = s[k].toNat := by omega
        simp [encL, enc1, e5, e6]
      have hget : (encL (natsB (s.take k)) ++ List.replicate (2 * (s.length - k)) (0 : UInt8))[2 * k + 1]? = some 0 := by
        rw [List.getElem?_append_right (by omega), hlen, hm]
        have : 2 * k + 1 - 2 * k = 1 := by omega
        rw [this, List.getElem?_replicate]; rw [if_pos (by omega)]
      have hstep : units_Of.l1 s ((k : Int), encL (natsB (s.take k)) ++ List.replicate (2 * (s.length - k)) 0) = some (.inl (((k + 1 : Nat) : Int), encL (natsB (s.take (k + 1))) ++ List.replicate (2 * (s.length - (k + 1))) 0)) := by
        unfold units_Of.l1
        have c2 : ¬ (((s[k].toNat : Nat) : Int)) ≥ 128 := by omega
        have w1 : IntKind.wrap .i64 (2 * (k : Int)) = ((2 * k : Nat) : Int) := by rw [wrap_i64 (by omega) (by omega)]; omega
        have w2 : IntKind.wrap .i64 (((2 * k : Nat) : Int) + 1) = ((2 * k + 1 : Nat) : Int) := by rw [wrap_i64 (by omega) (by omega)]; omega
        have w3 : IntKind.wrap .i64 ((k : Int) + 1) = ((k + 1 : Nat) : Int) := by rw [wrap_i64 (by omega) (by omega)]; omega
        simp only [c, decide_true, if_true, getB_nat, List.getElem?_eq_getElem hlt, Option.map_some, Option.bind_some, c2, decide_false, Bool.false_eq_true, if_false, w1, w2, w3, getI_nat, hget, toB_of, setI_nat, hset]
      rw [loopM_go hstep, ih (k + 1) (by omega)]
      simp only [List.all_cons, hp, Bool.true_and]
theorem units_Of_eq (s : Str) (hs : s.length ≤ 1000000000) : units_Of s = some (ofS s) := by
  unfold units_Of ofS
  have w : IntKind.wrap .i64 (2 * ((s.length : Nat) : Int)) = ((2 * s.length : Nat) : Int) := by rw [wrap_i64 (by omega) (by omega)]; omega
  rw [w, mkL_ok _ _ (by omega)]
  have h := units_Of_loop s hs s.length 0 (by omega)
  have h' : loopM (units_Of.l1 s) (0, List.replicate (2 * s.length) 0) = _ := h
  simp only [Option.bind_some]
  rw [h']
  simp only [List.drop_zero]
  by_cases ha : s.all plainB = true
  · simp only [ha, if_true, Option.bind_some]
  · simp only [ha, Bool.false_eq_true, if_false, Option.bind_some]
theorem ref01_Of_loop (s : Str) (hs : s.length ≤ 100000000) : ∀ (n k : Nat), k + n = s.length →
    loopM (ref01_Of.l1 s) ((k : Int), natsI (natsB (s.take k))) = some (if (s.drop k).all plainB = true then .inl (natsI (natsB s)) else .inr ([], 10)) := by
  intro n
  induction n with
  | zero =>
    intro k hk
    obtain rfl : k = s.length := by omega
    have hstep : ref01_Of.l1 s ((s.length : Int), natsI (natsB (s.take s.length))) = some (.inr (.inl (natsI (natsB s)))) := by
      unfold ref01_Of.l1
      simp only [Int.lt_irrefl, decide_false, Bool.false_eq_true, if_false, List.take_length]
    rw [loopM_out hstep]; simp
  | succ n ih =>
    intro k hk
    have hlt : k < s.length := by omega
    rw [List.drop_eq_getElem_cons hlt]
    have c : ((k : Int) < ((s.length : Nat) : Int)) := by omega
    have hb := s[k].toNat_lt
    cases hp : plainB s[k] with
    | false =>
      have hge : ¬ s[k].toNat < 128 := by unfold plainB at hp; simpa using hp
      have hstep : ref01_Of.l1 s ((k : Int), natsI (natsB (s.take k))) = some (.inr (.inr ([], 10))) := by
        unfold ref01_Of.l1
        have c2 : (((s[k].toNat : Nat) : Int)) > 127 := by omega
        simp only [c, decide_true, if_true, getB_nat, List.getElem?_eq_getElem hlt, Option.map_some, Option.bind_some, c2]
      rw [loopM_out hstep]
      simp only [List.all_cons, hp, Bool.false_and, Bool.false_eq_true, if_false]
    | true =>
      have hlt2 : s[k].toNat < 128 := by unfold plainB at hp; simpa using hp
      have hstep : ref01_Of.l1 s ((k : Int), natsI (natsB (s.take k))) = some (.inl (((k + 1 : Nat) : Int), natsI (natsB (s.take (k + 1))))) := by
        unfold ref01_Of.l1
        have c2 : ¬ (((s[k].toNat : Nat) : Int)) > 127 := by omega
        have w3 : IntKind.wrap .i64 ((k : Int) + 1) = ((k + 1 : Nat) : Int) := by rw [wrap_i64 (by omega) (by omega)]; omega
        have w4 : IntKind.wrap .i64 ((s[k].toNat : Nat) : Int) = ((s[k].toNat : Nat) : Int) := wrap_i64 (by omega) (by omega)
        have hr := room_ok (n := (natsI (natsB (s.take k))).length + 1) (by simp [natsI, natsB]; omega)
        simp only [c, decide_true, if_true, getB_nat, List.getElem?_eq_getElem hlt, Option.map_some, Option.bind_some, c2, decide_false, Bool.false_eq_true, if_false, hr, w3, w4]
        rw [List.take_add_one, List.getElem?_eq_getElem hlt, Option.toList_some]
        simp only [natsI, natsB, List.map_append]; rfl
      rw [loopM_go hstep, ih (k + 1) (by omega)]
      simp only [List.all_cons, hp, Bool.true_and]
theorem natsB_lt (s : Str) : ∀ n ∈ natsB s, n < 65536 := by
  intro n hn
  simp only [natsB, List.mem_map] at hn
  obtain ⟨b, _, rfl⟩ := hn
  have := b.toNat_lt; omega
theorem ref01_Of_eq (s : Str) (hs : s.length ≤ 100000000) : ref01_Of s = some (ofS s) := by
  unfold ref01_Of ofS
  have h := ref01_Of_loop s hs s.length 0 (by omega)
  have h' : loopM (ref01_Of.l1 s) (0, ([] : List Int)) = _ := h
  rw [h']
  simp only [List.drop_zero]
  by_cases ha : s.all plainB = true
  · simp only [ha, if_true, Option.bind_some]
    rw [ref01_Make_eq _ (by simp [natsB]; omega) (natsB_lt s)]
    rfl
  · simp only [ha, Bool.false_eq_true, if_false, Option.bind_some]

/-- indexes -/
def valD : Int → List Nat → Option Int
  | a, [] => some a
  | a, c :: l => if c < 48 ∨ c > 57 then none else valD (10 * a + c - 48) l
def indexS (u : Str) : Int × Bool :=
  if (unitsL u).length = 0 ∨ (unitsL u).length > 9 then (0, false)
  else if (unitsL u)[0]? = some 48 ∧ (unitsL u).length > 1 then (0, false)
  else match valD 0 (unitsL u) with | some x => (x, true) | none => (0, false)
theorem pow_step {k : Nat} {a : Int} {c : Nat} (h0 : 0 ≤ a) (h1 : a < 10 ^ k) (hc : ¬ (c < 48 ∨ c > 57)) : 0 ≤ 10 * a + c - 48 ∧ 10 * a + c - 48 < 10 ^ (k + 1) := by
  rw [Int.pow_succ]; omega
theorem pow9 {k : Nat} (h : k ≤ 9) : (10 : Int) ^ k ≤ 1000000000 := by
  have : (10 : Nat) ^ k ≤ 10 ^ 9 := Nat.pow_le_pow_right (by decide) h
  have h2 : ((10 ^ k : Nat) : Int) ≤ ((10 ^ 9 : Nat) : Int) := by omega
  simpa using h2
theorem units_Index_loop (u : Str) (hu : u.length ≤ 100) (h9 : (unitsL u).length ≤ 9) : ∀ (n k : Nat) (a : Int), k + n = (unitsL u).length → 0 ≤ a → a < 10 ^ k →
    loopM (units_Index.l1 u (((unitsL u).length : Nat) : Int)) (a, (k : Int)) = some (match valD a ((unitsL u).drop k) with | some x => .inl x | none => .inr (0, false)) := by
  intro n
  induction n with
  | zero =>
    intro k a hk h0 h1
    obtain rfl : k = (unitsL u).length := by omega
    have hstep : units_Index.l1 u (((unitsL u).length : Nat) : Int) (a, (((unitsL u).length : Nat) : Int)) = some (.inr (.inl a)) := by
      unfold units_Index.l1
      simp only [Int.lt_irrefl, decide_false, Bool.false_eq_true, if_false]
    rw [loopM_out hstep]; simp [valD]
  | succ n ih =>
    intro k a hk h0 h1
    have hlt : k < (unitsL u).length := by omega
    have c : ((k : Int) < (((unitsL u).length : Nat) : Int)) := by omega
    have ht : unitAt u (k : Int) = (((unitsL u)[k] : Nat) : Int) := unitAt_nat u k _ (List.getElem?_eq_getElem hlt)
    have hp := pow9 (k := k) (by omega)
    rw [List.drop_eq_getElem_cons hlt]
    unfold valD
    by_cases hd : (unitsL u)[k] < 48 ∨ (unitsL u)[k] > 57
    · have hstep : units_Index.l1 u (((unitsL u).length : Nat) : Int) (a, (k : Int)) = some (.inr (.inr (0, false))) := by
        unfold units_Index.l1
        have c2 : (decide ((((unitsL u)[k] : Nat) : Int) < 48) || decide ((((unitsL u)[k] : Nat) : Int) > 57)) = true := by simp only [Bool.or_eq_true, decide_eq_true_eq]; omega
        simp only [c, decide_true, if_true, units_At_eq u _ (by omega), Option.bind_some, ht, c2]
      rw [if_pos hd, loopM_out hstep]
    · obtain ⟨p1, p2⟩ := pow_step h0 h1 hd
      have hstep : units_Index.l1 u (((unitsL u).length : Nat) : Int) (a, (k : Int)) = some (.inl (10 * a + (((unitsL u)[k] : Nat) : Int) - 48, ((k + 1 : Nat) : Int))) := by
        unfold units_Index.l1
        have c2 : (decide ((((unitsL u)[k] : Nat) : Int) < 48) || decide ((((unitsL u)[k] : Nat) : Int) > 57)) = false := by simp only [Bool.or_eq_false_iff, decide_eq_false_iff_not]; omega
        have w1 : IntKind.wrap .i64 (10 * a) = 10 * a := wrap_i64 (by omega) (by omega)
        have w2 : IntKind.wrap .i64 (10 * a + (((unitsL u)[k] : Nat) : Int)) = 10 * a + (((unitsL u)[k] : Nat) : Int) := wrap_i64 (by omega) (by omega)
        have w3 : IntKind.wrap .i64 (10 * a + (((unitsL u)[k] : Nat) : Int) - 48) = 10 * a + (((unitsL u)[k] : Nat) : Int) - 48 := wrap_i64 (by omega) (by omega)
        have w4 : IntKind.wrap .i64 ((k : Int) + 1) = ((k + 1 : Nat) : Int) := by rw [wrap_i64 (by omega) (by omega)]; omega
        simp only [c, decide_true, if_true, units_At_eq u _ (by omega), Option.bind_some, ht, c2, Bool.false_eq_true, if_false, w1, w2, w3, w4]
      rw [if_neg hd, loopM_go hstep]
      exact ih (k + 1) _ (by omega) p1 p2
theorem units_Index_eq (u : Str) (hu : u.length ≤ 100000000) : units_Index u = some (indexS u) := by
  unfold units_Index units_Index.j1 indexS
  rw [units_Len_eq u (by omega)]
  have hl := unitsL_length u
  rw [← hl]
  simp only [Option.bind_some]
  by_cases h0 : (unitsL u).length = 0 ∨ (unitsL u).length > 9
  · have c : (((((unitsL u).length : Nat) : Int) == 0) || decide ((((unitsL u).length : Nat) : Int) > 9)) = true := by
      simp only [Bool.or_eq_true, beq_iff_eq, decide_eq_true_eq]; omega
    simp only [c, if_true, h0]
  · have c : (((((unitsL u).length : Nat) : Int) == 0) || decide ((((unitsL u).length : Nat) : Int) > 9)) = false := by
      simp only [Bool.or_eq_false_iff, beq_eq_false_iff_ne, decide_eq_false_iff_not]; omega
    simp only [c, Bool.false_eq_true, if_false, h0]
    rw [units_At_eq u 0 (by omega)]
    simp only [Option.bind_some]
    have hlt : 0 < (unitsL u).length := by omega
    have ht : unitAt u 0 = (((unitsL u)[0] : Nat) : Int) := unitAt_nat u 0 _ (List.getElem?_eq_getElem hlt)
    rw [ht]
    have hk := units_Index_loop u (by omega) (by omega) (unitsL u).length 0 0 (by omega) (by omega) (by decide)
    have hk' : loopM (units_Index.l1 u (((unitsL u).length : Nat) : Int)) (0, 0) = _ := hk
    by_cases h1 : (unitsL u)[0]? = some 48 ∧ (unitsL u).length > 1
    · have e : (unitsL u)[0] = 48 := by have := h1.1; rw [List.getElem?_eq_getElem hlt] at this; exact Option.some.inj this
      have c2 : (((((unitsL u)[0] : Nat) : Int) == 48) && decide ((((unitsL u).length : Nat) : Int) > 1)) = true := by
        simp only [Bool.and_eq_true, beq_iff_eq, decide_eq_true_eq]; omega
      rw [if_pos h1, c2, if_pos rfl]
    · have c2 : (((((unitsL u)[0] : Nat) : Int) == 48) && decide ((((unitsL u).length : Nat) : Int) > 1)) = false := by
        rw [List.getElem?_eq_getElem hlt] at h1
        simp only [Bool.and_eq_false_iff, beq_eq_false_iff_ne, decide_eq_false_iff_not]
        by_cases e : (unitsL u)[0] = 48
        · right; intro h2; exact h1 ⟨by rw [e], by omega⟩
        · left; omega
      rw [if_neg h1, c2, if_neg (by simp), hk']
      simp only [List.drop_zero]
      cases valD 0 (unitsL u) <;> rfl
theorem ref01_Index_loop (l : List Nat) (hl : ∀ n ∈ l, n < 65536) (h9 : l.length ≤ 9) : ∀ (n k : Nat) (a : Int), k + n = l.length → 0 ≤ a → a < 10 ^ k →
    loopM (ref01_Index.l1 (natsI l)) (a, (k : Int)) = some (match valD a (l.drop k) with | some x => .inl x | none => .inr (0, false)) := by
  intro n
  have hll : (natsI l).length = l.length := by simp [natsI]
  induction n with
  | zero =>
    intro k a hk h0 h1
    obtain rfl : k = l.length := by omega
    have hstep : ref01_Index.l1 (natsI l) (a, ((l.length : Nat) : Int)) = some (.inr (.inl a)) := by
      unfold ref01_Index.l1
      rw [hll]
      simp only [Int.lt_irrefl, decide_false, Bool.false_eq_true, if_false]
    rw [loopM_out hstep]; simp [valD]
  | succ n ih =>
    intro k a hk h0 h1
    have hlt : k < l.length := by omega
    have c : ((k : Int) < (((natsI l).length : Nat) : Int)) := by omega
    have ht : (natsI l)[k]? = some ((l[k] : Nat) : Int) := by simp [natsI, hlt]
    have hp := pow9 (k := k) (by omega)
    rw [List.drop_eq_getElem_cons hlt]
    unfold valD
    by_cases hd : l[k] < 48 ∨ l[k] > 57
    · have hstep : ref01_Index.l1 (natsI l) (a, (k : Int)) = some (.inr (.inr (0, false))) := by
        unfold ref01_Index.l1
        have c2 : (decide (((l[k] : Nat) : Int) < 48) || decide (((l[k] : Nat) : Int) > 57)) = true := by simp only [Bool.or_eq_true, decide_eq_true_eq]; omega
        simp only [c, decide_true, if_true, getI_nat, ht, Option.bind_some, c2]
      rw [if_pos hd, loopM_out hstep]
    · obtain ⟨p1, p2⟩ := pow_step h0 h1 hd
      have hstep : ref01_Index.l1 (natsI l) (a, (k : Int)) = some (.inl (10 * a + ((l[k] : Nat) : Int) - 48, ((k + 1 : Nat) : Int))) := by
        unfold ref01_Index.l1
        have c2 : (decide (((l[k] : Nat) : Int) < 48) || decide (((l[k] : Nat) : Int) > 57)) = false := by simp only [Bool.or_eq_false_iff, decide_eq_false_iff_not]; omega
        have w1 : IntKind.wrap .i64 (10 * a) = 10 * a := wrap_i64 (by omega) (by omega)
        have w2 : IntKind.wrap .i64 (((l[k] : Nat) : Int) - 48) = ((l[k] : Nat) : Int) - 48 := wrap_i64 (by omega) (by omega)
        have w3 : IntKind.wrap .i64 (10 * a + (((l[k] : Nat) : Int) - 48)) = 10 * a + ((l[k] : Nat) : Int) - 48 := by rw [wrap_i64 (by omega) (by omega)]; omega
        have w4 : IntKind.wrap .i64 ((k : Int) + 1) = ((k + 1 : Nat) : Int) := by rw [wrap_i64 (by omega) (by omega)]; omega
        simp only [c, decide_true, if_true, getI_nat, ht, Option.bind_some, c2, Bool.false_eq_true, if_false, w1, w2, w3, w4]
      rw [if_neg hd, loopM_go hstep]
      exact ih (k + 1) _ (by omega) p1 p2
theorem ref01_Index_eq (u : Str) (hu : u.length ≤ 100000000) : ref01_Index u = some (indexS u) := by
  unfold ref01_Index ref01_Index.j1 indexS
  rw [ref01_List_eq u hu]
  have hll : (natsI (unitsL u)).length = (unitsL u).length := by simp [natsI]
  simp only [Option.bind_some, hll]
  by_cases h0 : (unitsL u).length = 0 ∨ (unitsL u).length > 9
  · have c : (decide ((((unitsL u).length : Nat) : Int) < 1) || decide ((((unitsL u).length : Nat) : Int) > 9)) = true := by
      simp only [Bool.or_eq_true, decide_eq_true_eq]; omega
    simp only [c, if_true, h0]
  · have c : (decide ((((unitsL u).length : Nat) : Int) < 1) || decide ((((unitsL u).length : Nat) : Int) > 9)) = false := by
      simp only [Bool.or_eq_false_iff, decide_eq_false_iff_not]; omega
    simp only [c, Bool.false_eq_true, if_false, h0]
    have hlt : 0 < (unitsL u).length := by omega
    have hg : getI (natsI (unitsL u)) 0 = some (((unitsL u)[0] : Nat) : Int) := by
      have := getI_nat (natsI (unitsL u)) 0
      simp only [Int.natCast_zero] at this
      rw [this]; simp [natsI, hlt]
    rw [hg]
    simp only [Option.bind_some]
    have hk := ref01_Index_loop (unitsL u) (unitsL_lt u) (by omega) (unitsL u).length 0 0 (by omega) (by omega) (by decide)
    have hk' : loopM (ref01_Index.l1 (natsI (unitsL u))) (0, 0) = _ := hk
    by_cases h1 : (unitsL u)[0]? = some 48 ∧ (unitsL u).length > 1
    · have e : (unitsL u)[0] = 48 := by have := h1.1; rw [List.getElem?_eq_getElem hlt] at this; exact Option.some.inj this
      have c2 : (((((unitsL u)[0] : Nat) : Int) == 48) && decide ((((unitsL u).length : Nat) : Int) > 1)) = true := by
        simp only [Bool.and_eq_true, beq_iff_eq, decide_eq_true_eq]; omega
      rw [if_pos h1, c2, if_pos rfl]
    · have c2 : (((((unitsL u)[0] : Nat) : Int) == 48) && decide ((((unitsL u).length : Nat) : Int) > 1)) = false := by
        rw [List.getElem?_eq_getElem hlt] at h1
        simp only [Bool.and_eq_false_iff, beq_eq_false_iff_ne, decide_eq_false_iff_not]
        by_cases e : (unitsL u)[0] = 48
        · right; intro h2; exact h1 ⟨by rw [e], by omega⟩
        · left; omega
      rw [if_neg h1, c2, if_neg (by simp), hk']
      simp only [List.drop_zero]
      cases valD 0 (unitsL u) <;> rfl
end Go.Gw
