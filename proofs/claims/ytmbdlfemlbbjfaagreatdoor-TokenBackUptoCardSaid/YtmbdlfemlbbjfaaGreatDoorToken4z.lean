/- Chapter 6: rows, words, identifiers: what the code computes. -/
import Derived.Test.YtmbdlfemlbbjfaaGreatDoorG06zx3
import Derived.Test.YtmbdlfemlbbjfaaGreatDoorToken1
set_option linter.unusedVariables false
set_option linter.unusedSimpArgs false
set_option linter.unnecessarySimpa false
namespace Go.Gw
set_option linter.unusedSimpArgs false

theorem getB_at (s : Str) (n : Nat) (c : UInt8) (h : s[n]? = some c) : getB s (n : Int) = some ((c.toNat : Nat) : Int) := by
  unfold getB; rw [if_pos (by omega)]; simp [h]
theorem getB_zero (c : UInt8) (r : Str) : getB (c :: r) 0 = some ((c.toNat : Nat) : Int) := rfl
theorem letter_fin : ∀ b : Fin 256, token_letter ((b.val : Nat) : Int) = some (isLet (UInt8.ofNat b.val)) := by decide +kernel
theorem digit_fin : ∀ b : Fin 256, token_digit ((b.val : Nat) : Int) = some (isDig (UInt8.ofNat b.val)) := by decide +kernel
theorem ofN (c : UInt8) : UInt8.ofNat c.toNat = c := by simp
theorem token_letter_eq (c : UInt8) : token_letter ((c.toNat : Nat) : Int) = some (isLet c) := by
  have := letter_fin ⟨c.toNat, c.toNat_lt⟩; rwa [ofN] at this
theorem token_digit_eq (c : UInt8) : token_digit ((c.toNat : Nat) : Int) = some (isDig c) := by
  have := digit_fin ⟨c.toNat, c.toNat_lt⟩; rwa [ofN] at this
theorem rletter_fin : ∀ b : Fin 256, ref06_letter ((b.val : Nat) : Int) = some (isLet (UInt8.ofNat b.val)) := by decide +kernel
theorem rdigit_fin : ∀ b : Fin 256, ref06_digit ((b.val : Nat) : Int) = some (isDig (UInt8.ofNat b.val)) := by decide +kernel
theorem ref06_letter_eq (c : UInt8) : ref06_letter ((c.toNat : Nat) : Int) = some (isLet c) := by
  have := rletter_fin ⟨c.toNat, c.toNat_lt⟩; rwa [ofN] at this
theorem ref06_digit_eq (c : UInt8) : ref06_digit ((c.toNat : Nat) : Int) = some (isDig c) := by
  have := rdigit_fin ⟨c.toNat, c.toNat_lt⟩; rwa [ofN] at this

/-! ### rows -/
def rowE (s : Str) : Unit ⊕ Int := if rowK s = s.length then .inl () else .inr (rowK s : Int)
theorem rowK_step (s : Str) (k : Nat) (c : UInt8) (h : s[k]? = some c) (hk : k ≤ rowK s) : if isLD c = true then k + 1 ≤ rowK s else rowK s = k := by
  induction s generalizing k with
  | nil => simp at h
  | cons a r ih =>
    rw [rowK_cons] at hk ⊢
    cases k with
    | zero =>
      simp only [List.getElem?_cons_zero, Option.some.injEq] at h
      subst h
      by_cases ha : isLD a = true
      · simp [ha]
      · simp [ha]
    | succ k =>
      simp only [List.getElem?_cons_succ] at h
      by_cases ha : isLD a = true
      · rw [if_pos ha] at hk ⊢
        have := ih k h (by omega)
        split <;> split at this <;> first | omega | (rename_i h1 h2; first | exact absurd h1 h2 | exact absurd h2 h1)
      · rw [if_neg ha] at hk; omega
theorem token_row_loop (s : Str) (hs : s.length ≤ 1000000000) : ∀ (n k : Nat), k + n = s.length → k ≤ rowK s → loopM (token_row.l1 s) (k : Int) = some (rowE s) := by
  intro n
  induction n with
  | zero =>
    intro k hk hr
    have hle := rowK_le s
    refine loopM_out ?_
    unfold token_row.l1 rowE
    have c : ¬ ((k : Int) < ((s.length : Nat) : Int)) := by omega
    have e : rowK s = s.length := by omega
    simp only [c, decide_false, Bool.false_eq_true, if_false, e, if_true]
  | succ n ih =>
    intro k hk hr
    have hlt : k < s.length := by omega
    obtain ⟨c, hc⟩ : ∃ c, s[k]? = some c := ⟨s[k], List.getElem?_eq_getElem hlt⟩
    have hst := rowK_step s k c hc hr
    have hgo : token_row.l1 s (k : Int) = if isLD c = true then some (.inl ((k + 1 : Nat) : Int)) else some (.inr (.inr (k : Int))) := by
      unfold token_row.l1
      have d : ((k : Int) < ((s.length : Nat) : Int)) := by omega
      have w : IntKind.wrap .i64 ((k : Int) + 1) = ((k + 1 : Nat) : Int) := by rw [wrap_i64 (by omega) (by omega)]; omega
      simp only [d, decide_true, if_true, getB_at s k c hc, Option.bind_some, token_letter_eq, token_digit_eq, token_row.j2, w]
      unfold isLD
      cases isLet c <;> cases isDig c <;> rfl
    by_cases hld : isLD c = true
    · rw [if_pos hld] at hgo hst
      rw [loopM_go hgo]
      exact ih (k + 1) (by omega) hst
    · rw [if_neg hld] at hgo hst
      rw [loopM_out hgo]
      have : ¬ (rowK s = s.length) := by omega
      unfold rowE
      rw [if_neg this, hst]
theorem token_row_eq (s : Str) (hs : s.length ≤ 1000000000) : token_row s = some ((rowK s : Nat) : Int) := by
  unfold token_row
  have h := token_row_loop s hs s.length 0 (by omega) (by omega)
  have h' : loopM (token_row.l1 s) 0 = some (rowE s) := h
  rw [h', Option.bind_some]
  unfold rowE
  by_cases e : rowK s = s.length
  · rw [if_pos e, e]
  · rw [if_neg e]

/-! ### words -/
theorem among_eq (ws : List Str) (list s : Str) (hl : list = joined ws) (hw : ∀ w ∈ ws, (32 : UInt8) ∉ w) (hn : ([] : Str) ∉ ws) (hs : s.length ≤ 1000000000) (hll : list.length ≤ 1000000) :
    token_among list s = some (ws.contains s) := by
  unfold token_among token_among.j1
  cases s with
  | nil =>
    have : ws.contains ([] : Str) = false := by rw [← Bool.not_eq_true, List.contains_iff_mem]; exact hn
    rw [this]; rfl
  | cons a r =>
    have c0 : (((a :: r) == ([] : Str))) = false := rfl
    rw [c0]
    simp only [Bool.not_false, if_true]
    unfold strings_Contains
    rw [if_pos (by omega), Option.bind_some, contains_byte]
    by_cases h32 : (32 : UInt8) ∈ (a :: r)
    · have e : (a :: r).contains 32 = true := List.contains_iff_mem.2 h32
      rw [e]
      have : ws.contains (a :: r) = false := by
        rw [← Bool.not_eq_true, List.contains_iff_mem]
        intro hm; exact hw _ hm h32
      rw [this]; rfl
    · have e : (a :: r).contains 32 = false := by rw [← Bool.not_eq_true, List.contains_iff_mem]; exact h32
      rw [e]
      simp only [Bool.not_false, if_true]
      unfold catS
      rw [if_pos (by simp only [List.length_cons, List.length_nil] at *; omega), Option.bind_some, if_pos (by simp only [List.length_append, List.length_cons, List.length_nil] at *; omega), Option.bind_some, if_pos (by omega), Option.bind_some]
      rw [hl]
      have := joined_contains (a :: r) h32 ws hw
      have e2 : ([32] ++ (a :: r) ++ [32] : Str) = 32 :: ((a :: r) ++ [32]) := rfl
      rw [e2, this]
end Go.Gw

