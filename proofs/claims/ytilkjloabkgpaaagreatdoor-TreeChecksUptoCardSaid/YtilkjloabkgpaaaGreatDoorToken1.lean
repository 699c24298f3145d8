/- Chapter 6: words, rows, blanks, plainly: no program in sight. -/
import Derived.Test.YtilkjloabkgpaaaGreatDoorGwZ
import Derived.Lib.IndexMore
import Derived.Lib.IndexAny
set_option linter.unusedVariables false
set_option linter.unusedSimpArgs false
set_option linter.unnecessarySimpa false
namespace Go.Gw
set_option linter.unusedSimpArgs false

/-! ### what stands in a list of pieces -/
theorem contains_nil {sub : Str} (h : sub ≠ []) : Lib.contains [] sub = false := by
  cases sub with
  | nil => exact absurd rfl h
  | cons a l => rfl
theorem contains_cons (b : UInt8) (l sub : Str) : Lib.contains (b :: l) sub = (sub.isPrefixOf (b :: l) || Lib.contains l sub) := by
  unfold Lib.contains
  rw [Lib.index]
  have h := Lib.index_ge l sub
  cases hp : sub.isPrefixOf (b :: l) with
  | true => simp
  | false =>
    simp only [Bool.false_eq_true, if_false, Bool.false_or]
    by_cases hi : Lib.index l sub = -1
    · simp [hi]
    · have c : (Lib.index l sub == -1) = false := by rw [beq_eq_false_iff_ne]; exact hi
      rw [c]; simp only [Bool.false_eq_true, if_false]
      rw [decide_eq_decide]; omega
theorem contains_byte (c : UInt8) : ∀ s : Str, Lib.contains s [c] = s.contains c
  | [] => rfl
  | b :: l => by
    rw [contains_cons, contains_byte c l, List.contains_cons]
    simp [List.isPrefixOf]
theorem contains_skip (sub t : Str) : ∀ w : Str, (32 : UInt8) ∉ w → Lib.contains (w ++ t) (32 :: sub) = Lib.contains t (32 :: sub)
  | [], _ => rfl
  | b :: w, h => by
    simp only [List.mem_cons, not_or] at h
    rw [List.cons_append, contains_cons, contains_skip sub t w h.2]
    have : ((32 : UInt8) == b) = false := by rw [beq_eq_false_iff_ne]; exact h.1
    simp [List.isPrefixOf, this]
/-- pieces, a blank ahead of each and behind each -/
def joined : List Str → Str
  | [] => [32]
  | w :: r => 32 :: (w ++ joined r)
theorem joined_cons (ws : List Str) : ∃ t, joined ws = 32 :: t := by cases ws <;> exact ⟨_, rfl⟩
theorem prefix_word : ∀ (s w t : Str), (32 : UInt8) ∉ s → (32 : UInt8) ∉ w → (s ++ [32]).isPrefixOf (w ++ 32 :: t) = (s == w)
  | [], [], t, _, _ => by simp [List.isPrefixOf]
  | [], b :: w, t, _, h => by
    simp only [List.mem_cons, not_or] at h
    have : ((32 : UInt8) == b) = false := by rw [beq_eq_false_iff_ne]; exact h.1
    simp [List.isPrefixOf, this]
  | a :: s, [], t, h, _ => by
    simp only [List.mem_cons, not_or] at h
    have : (a == (32 : UInt8)) = false := by rw [beq_eq_false_iff_ne]; exact fun e => h.1 e.symm
    simp [List.isPrefixOf, this]
  | a :: s, b :: w, t, h, h' => by
    simp only [List.mem_cons, not_or] at h h'
    simp only [List.cons_append, List.isPrefixOf, prefix_word s w t h.2 h'.2]
    rfl
theorem joined_contains (s : Str) (hs : (32 : UInt8) ∉ s) : ∀ ws : List Str, (∀ w ∈ ws, (32 : UInt8) ∉ w) → Lib.contains (joined ws) (32 :: (s ++ [32])) = ws.contains s
  | [], _ => by
    unfold joined
    rw [contains_cons, contains_nil (by simp)]
    cases s <;> simp [List.isPrefixOf]
  | w :: r, h => by
    have hw := h w (by simp)
    have ih := joined_contains s hs r (fun x hx => h x (by simp [hx]))
    obtain ⟨t, ht⟩ := joined_cons r
    unfold joined
    rw [contains_cons, contains_skip _ _ _ hw, ih, List.contains_cons]
    have : List.isPrefixOf (32 :: (s ++ [32])) (32 :: (w ++ joined r)) = (s == w) := by
      simp only [List.isPrefixOf, beq_self_eq_true, Bool.true_and]
      rw [ht]; exact prefix_word s w t hs hw
    rw [this]

/-! ### letters, digits, rows -/
def isLet (c : UInt8) : Bool := decide ((97 ≤ c.toNat ∧ c.toNat ≤ 122) ∨ (65 ≤ c.toNat ∧ c.toNat ≤ 90) ∨ c.toNat = 95 ∨ c.toNat = 36)
def isDig (c : UInt8) : Bool := decide (48 ≤ c.toNat ∧ c.toNat ≤ 57)
def isLD (c : UInt8) : Bool := isLet c || isDig c
def rowK (s : Str) : Nat := (s.takeWhile isLD).length
theorem rowK_le : ∀ s : Str, rowK s ≤ s.length
  | [] => by simp [rowK]
  | c :: r => by
    have := rowK_le r
    unfold rowK at this ⊢
    rw [List.takeWhile_cons]; split <;> simp <;> omega
theorem rowK_cons (c : UInt8) (r : Str) : rowK (c :: r) = if isLD c then rowK r + 1 else 0 := by
  unfold rowK; rw [List.takeWhile_cons]; split <;> simp
theorem rowK_all : ∀ s : Str, rowK s = s.length ↔ s.all isLD = true
  | [] => by simp [rowK]
  | c :: r => by
    rw [rowK_cons]; have := rowK_all r; have h := rowK_le r
    cases hc : isLD c with
    | true => simp only [if_true, List.length_cons, List.all_cons, hc, Bool.true_and, ← this]; omega
    | false => simp [hc]
/-! ### blanks -/
end Go.Gw

