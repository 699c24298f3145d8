/- Chapter 5: keys compared. Plain Lean over the printed functions. -/
import Derived.Test.YtfankedlhjnpfaaDoorG05x1
import Derived.Test.YtfankedlhjnpfaaDoorGwL
set_option linter.unusedVariables false
set_option linter.unusedSimpArgs false
set_option linter.unnecessarySimpa false
namespace Go.Gw
open Go.Proofs
set_option linter.unusedSimpArgs false

abbrev Part := T_api_Part
def cmpPart (p q : Part) : Int :=
  if p.IsText && q.IsText then Lib.compareBytes p.S q.S else if p.IsText then 1 else if q.IsText then -1 else Lib.compareInt p.N q.N
def cmpKeys : List Part → List Part → Int
  | [], [] => 0
  | [], _ :: _ => -1
  | _ :: _, [] => 1
  | p :: a, q :: b => if cmpPart p q = 0 then cmpKeys a b else cmpPart p q

theorem compareInt_cases (x y : Int) : (x < y ∧ Lib.compareInt x y = -1) ∨ (x = y ∧ Lib.compareInt x y = 0) ∨ (x > y ∧ Lib.compareInt x y = 1) := by
  unfold Lib.compareInt
  by_cases h1 : x < y
  · simp [h1]
  · by_cases h2 : x > y
    · simp [h1, h2]
    · have : x = y := by omega
      subst this; simp

theorem cmp_Compare_int64_eq (x y : Int) : cmp_Compare_int64 x y = some (Lib.compareInt x y) := by
  unfold cmp_Compare_int64 cmp_isNaN_int64 Lib.compareInt
  by_cases h1 : x < y
  · simp [h1]
  · by_cases h2 : x > y <;> simp [h1, h2]
/-- the loop of order.Compare -/
theorem order_Compare_loop (a b : List Part) (ha : a.length < 4611686018427387904) (m : List Part) (hm : m = a.take (min a.length b.length)) :
    ∀ (n k : Nat), k + n = m.length → loopM (order_Compare.l1 b m) (k : Int) = some (if cmpKeys (m.drop k) ((b.take m.length).drop k) = 0 then .inl () else .inr (cmpKeys (m.drop k) ((b.take m.length).drop k))) := by
  have hml : m.length = min a.length b.length := by rw [hm, List.length_take]; omega
  intro n
  induction n with
  | zero =>
    intro k hk
    have hk' : k = m.length := by omega
    have hstep : order_Compare.l1 b m (k : Int) = some (.inr (.inl ())) := by
      unfold order_Compare.l1
      have : ¬ ((k : Int) < ((m.length : Nat) : Int)) := by omega
      simp [this]
    rw [loopM_out hstep, hk', List.drop_length]
    rw [List.drop_of_length_le (by rw [List.length_take]; omega)]
    simp [cmpKeys]
  | succ n ih =>
    intro k hk
    have hlt : k < m.length := by omega
    have hlb : k < b.length := by omega
    have e1 : m.drop k = m[k] :: m.drop (k + 1) := List.drop_eq_getElem_cons hlt
    have hlb' : k < (b.take m.length).length := by rw [List.length_take]; omega
    have e2 : (b.take m.length).drop k = b[k] :: (b.take m.length).drop (k + 1) := by
      rw [List.drop_eq_getElem_cons hlb']; simp
    have hw : IntKind.wrap .i64 ((k : Int) + 1) = ((k + 1 : Nat) : Int) := by rw [wrap_i64 (by omega) (by omega)]; omega
    have hstep : order_Compare.l1 b m (k : Int) = some (if cmpPart m[k] b[k] = 0 then .inl ((k + 1 : Nat) : Int) else .inr (.inr (cmpPart m[k] b[k]))) := by
      unfold order_Compare.l1
      have hl : ((k : Int) < ((m.length : Nat) : Int)) := by omega
      rw [if_pos (by simpa using hl), getI_nat, getI_nat, List.getElem?_eq_getElem hlt, List.getElem?_eq_getElem hlb]
      simp only [Option.bind_some]
      have hj : ∀ x : Int, order_Compare.j2 (k : Int) x = some (if x = 0 then .inl ((k + 1 : Nat) : Int) else .inr (.inr x)) := by
        intro x
        unfold order_Compare.j2
        rw [hw]
        by_cases hx : x = 0 <;> simp [hx]
      unfold cmpPart
      cases h1 : m[k].IsText <;> cases h2 : b[k].IsText <;> simp [hj, strings_Compare, cmp_Compare_int64_eq]
    rw [e1, e2]
    unfold cmpKeys
    by_cases h0 : cmpPart m[k] b[k] = 0
    · rw [if_pos h0] at hstep ⊢
      rw [loopM_go hstep]
      exact ih (k + 1) (by omega)
    · rw [if_neg h0] at hstep ⊢
      rw [loopM_out hstep, if_neg h0]
theorem cmpKeys_take : ∀ a b : List Part, cmpKeys a b = if cmpKeys (a.take (min a.length b.length)) (b.take (min a.length b.length)) = 0 then Lib.compareInt a.length b.length else cmpKeys (a.take (min a.length b.length)) (b.take (min a.length b.length))
  | [], [] => by simp [cmpKeys, Lib.compareInt]
  | [], _ :: l => by
    have : (0 : Int) < ((l.length : Nat) : Int) + 1 := by omega
    simp [cmpKeys, Lib.compareInt, this]
  | _ :: l, [] => by
    have h1 : ¬ (((l.length : Nat) : Int) + 1 < 0) := by omega
    have h2 : (((l.length : Nat) : Int) + 1) > 0 := by omega
    simp [cmpKeys, Lib.compareInt, h1, h2]
  | p :: a, q :: b => by
    have e : min (p :: a).length (q :: b).length = min a.length b.length + 1 := by simp
    rw [e, List.take_succ_cons, List.take_succ_cons]
    have ih := cmpKeys_take a b
    unfold cmpKeys
    by_cases h : cmpPart p q = 0
    · simp only [if_pos h]
      rw [ih]
      have hc : Lib.compareInt ((p :: a).length : Nat) ((q :: b).length : Nat) = Lib.compareInt a.length b.length := by
        unfold Lib.compareInt
        simp only [List.length_cons]
        by_cases h1 : (a.length : Int) < b.length
        · have : ((a.length + 1 : Nat) : Int) < ((b.length + 1 : Nat) : Int) := by omega
          simp [h1, this]
        · by_cases h2 : (a.length : Int) > b.length
          · have e1 : ¬ ((a.length + 1 : Nat) : Int) < ((b.length + 1 : Nat) : Int) := by omega
            have e2 : ((a.length + 1 : Nat) : Int) > ((b.length + 1 : Nat) : Int) := by omega
            simp only [h1, h2, e1, e2, if_true, if_false]
          · have e1 : ¬ ((a.length + 1 : Nat) : Int) < ((b.length + 1 : Nat) : Int) := by omega
            have e2 : ¬ ((a.length + 1 : Nat) : Int) > ((b.length + 1 : Nat) : Int) := by omega
            simp only [h1, h2, e1, e2, if_false]
      rw [hc]
    · simp only [if_neg h]

theorem order_Compare_eq (a b : List Part) (ha : a.length < 4611686018427387904) : order_Compare a b = some (cmpKeys a b) := by
  unfold order_Compare
  have hmin : (if ((b.length : Nat) : Int) < ((a.length : Nat) : Int) then ((b.length : Nat) : Int) else ((a.length : Nat) : Int)) = ((min a.length b.length : Nat) : Int) := by
    split <;> omega
  rw [hmin]
  have hc := cutL_nat a 0 (min a.length b.length) (by omega) (by omega)
  simp only [List.drop_zero, Nat.sub_zero] at hc
  have hc' : cutL a 0 ((min a.length b.length : Nat) : Int) = some (a.take (min a.length b.length)) := hc
  rw [hc']
  simp only [Option.bind_some]
  have hl := order_Compare_loop a b ha _ rfl (a.take (min a.length b.length)).length 0 (by omega)
  have hl' : loopM (order_Compare.l1 b (a.take (min a.length b.length))) 0 = _ := hl
  rw [hl']
  simp only [Option.bind_some, List.drop_zero]
  have hml : (a.take (min a.length b.length)).length = min a.length b.length := by rw [List.length_take]; omega
  rw [hml]
  conv => rhs; rw [cmpKeys_take a b]
  by_cases h0 : cmpKeys (a.take (min a.length b.length)) (b.take (min a.length b.length)) = 0
  · simp [h0, cmp_Compare_int]
  · simp [h0]

theorem refPart_eq (p q : Part) : ref05_compare p q = some (cmpPart p q) := by
  unfold ref05_compare cmpPart
  obtain ⟨h1, h2, h3⟩ := bytesLess_cmp p.S q.S
  cases hp : p.IsText <;> cases hq : q.IsText
  · rcases compareInt_cases p.N q.N with ⟨a, b⟩ | ⟨a, b⟩ | ⟨a, b⟩
    · simp [a, b]
    · rw [b]; simp [a]
    · have : ¬ p.N < q.N := by omega
      simp [a, b, this]
  · simp
  · simp
  · rcases h3 with h3 | h3 | h3
    · have : Op.bytesLess p.S q.S = true := h1.2 h3
      simp [this, h3]
    · have e : p.S = q.S := h2.2 h3
      have : Op.bytesLess p.S q.S = false := by
        cases hb : Op.bytesLess p.S q.S with
        | true => have := h1.1 hb; omega
        | false => rfl
      rw [← e] at this h3 ⊢
      simp [this, h3]
    · have e : p.S ≠ q.S := fun e => by have := h2.1 e; omega
      have : Op.bytesLess p.S q.S = false := by
        cases hb : Op.bytesLess p.S q.S with
        | true => have := h1.1 hb; omega
        | false => rfl
      simp [this, h3, e]

theorem ref05_Compare_loop (a b : List Part) (ha : a.length < 4611686018427387904) :
    ∀ (n k : Nat), k + n = min a.length b.length → loopM (ref05_Compare.l1 a b) (k : Int) = some (if cmpKeys ((a.take (min a.length b.length)).drop k) ((b.take (min a.length b.length)).drop k) = 0 then .inl () else .inr (cmpKeys ((a.take (min a.length b.length)).drop k) ((b.take (min a.length b.length)).drop k))) := by
  intro n
  induction n with
  | zero =>
    intro k hk
    have hstep : ref05_Compare.l1 a b (k : Int) = some (.inr (.inl ())) := by
      unfold ref05_Compare.l1
      by_cases h : k < a.length
      · have h2 : ¬ k < b.length := by omega
        simp [h2]
      · simp [h]
    rw [loopM_out hstep]
    rw [List.drop_of_length_le (by rw [List.length_take]; omega), List.drop_of_length_le (by rw [List.length_take]; omega)]
    simp [cmpKeys]
  | succ n ih =>
    intro k hk
    have hla : k < a.length := by omega
    have hlb : k < b.length := by omega
    have hla' : k < (a.take (min a.length b.length)).length := by rw [List.length_take]; omega
    have hlb' : k < (b.take (min a.length b.length)).length := by rw [List.length_take]; omega
    have e1 : (a.take (min a.length b.length)).drop k = a[k] :: (a.take (min a.length b.length)).drop (k + 1) := by rw [List.drop_eq_getElem_cons hla']; simp
    have e2 : (b.take (min a.length b.length)).drop k = b[k] :: (b.take (min a.length b.length)).drop (k + 1) := by rw [List.drop_eq_getElem_cons hlb']; simp
    have hw : IntKind.wrap .i64 ((k : Int) + 1) = ((k + 1 : Nat) : Int) := by rw [wrap_i64 (by omega) (by omega)]; omega
    have hstep : ref05_Compare.l1 a b (k : Int) = some (if cmpPart a[k] b[k] = 0 then .inl ((k + 1 : Nat) : Int) else .inr (.inr (cmpPart a[k] b[k]))) := by
      unfold ref05_Compare.l1
      have h1 : ((k : Int) < ((a.length : Nat) : Int)) := by omega
      have h2 : ((k : Int) < ((b.length : Nat) : Int)) := by omega
      rw [if_pos (by simp [h1, h2]), getI_nat, getI_nat, List.getElem?_eq_getElem hla, List.getElem?_eq_getElem hlb]
      simp only [Option.bind_some, refPart_eq, hw]
      by_cases hx : cmpPart a[k] b[k] = 0 <;> simp [hx]
    rw [e1, e2]
    unfold cmpKeys
    by_cases h0 : cmpPart a[k] b[k] = 0
    · rw [if_pos h0] at hstep ⊢
      rw [loopM_go hstep]
      exact ih (k + 1) (by omega)
    · rw [if_neg h0] at hstep ⊢
      rw [loopM_out hstep, if_neg h0]
theorem ref05_Compare_eq (a b : List Part) (ha : a.length < 4611686018427387904) : ref05_Compare a b = some (cmpKeys a b) := by
  unfold ref05_Compare
  have hl := ref05_Compare_loop a b ha (min a.length b.length) 0 (by omega)
  have hl' : loopM (ref05_Compare.l1 a b) 0 = _ := hl
  rw [hl']
  simp only [Option.bind_some, List.drop_zero]
  conv => rhs; rw [cmpKeys_take a b]
  by_cases h0 : cmpKeys (a.take (min a.length b.length)) (b.take (min a.length b.length)) = 0
  · rcases compareInt_cases a.length b.length with ⟨x, y⟩ | ⟨x, y⟩ | ⟨x, y⟩
    · have : a.length < b.length := by omega
      simp [h0, y, this]
    · have h1 : ¬ a.length < b.length := by omega
      have h2 : ¬ b.length < a.length := by omega
      simp [h0, y, h1, h2]
    · have h1 : ¬ a.length < b.length := by omega
      have h2 : b.length < a.length := by omega
      simp [h0, y, h1, h2]
  · simp [h0]
end Go.Gw
