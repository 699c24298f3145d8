/- Chapter 6: words and identifiers, in the code and in the document's answer; sameness. -/
import Derived.Test.YtmbdlfemlbbjfaaGreatDoorToken4z
import Derived.Test.YtmbdlfemlbbjfaaGreatDoorToken2z
set_option linter.unusedVariables false
set_option linter.unusedSimpArgs false
set_option linter.unnecessarySimpa false
namespace Go.Gw
set_option linter.unusedSimpArgs false

theorem beq_dec {α : Type} [BEq α] [LawfulBEq α] [DecidableEq α] (a b : α) : (a == b) = decide (a = b) := by
  by_cases h : a = b <;> simp [h]
theorem loop_list {E : Type} {step : Int → Option (Int ⊕ E)} (n : Nat) (out : E) (h : ∀ k : Nat, k < n → step (k : Int) = some (.inl ((k + 1 : Nat) : Int))) (he : step (n : Int) = some (.inr out)) : loopM step 0 = some out := by
  have := loop_run (step := step) (fun k => (k : Int)) out n 0 (fun j _ hj => h j (by omega)) (by simpa using he)
  exact this
theorem wrap_succ {k : Nat} (h : k < 1000000000000) : IntKind.wrap .i64 ((k : Int) + 1) = ((k + 1 : Nat) : Int) := by rw [wrap_i64 (by omega) (by omega)]; omega
/-- a loop that looks for the first one in a list -/
theorem loop_find {α E : Type} {step : Int → Option (Int ⊕ E)} (xs : List α) (p : α → Bool) (hit : α → E) (none_ : E) (hlen : xs.length < 1000000000000)
    (h1 : ∀ (k : Nat) x, xs[k]? = some x → step (k : Int) = if p x = true then some (.inr (hit x)) else some (.inl ((k + 1 : Nat) : Int)))
    (h2 : step (xs.length : Int) = some (.inr none_)) : loopM step 0 = some ((xs.find? p).elim none_ hit) := by
  have key : ∀ (n k : Nat), k + n = xs.length → loopM step (k : Int) = some (((xs.drop k).find? p).elim none_ hit) := by
    intro n
    induction n with
    | zero =>
      intro k hk
      have : xs.drop k = [] := List.drop_eq_nil_of_le (by omega)
      rw [this]
      have e : k = xs.length := by omega
      rw [e]
      exact loopM_out h2
    | succ n ih =>
      intro k hk
      have hlt : k < xs.length := by omega
      have hx : xs[k]? = some xs[k] := List.getElem?_eq_getElem hlt
      have hs := h1 k _ hx
      rw [List.drop_eq_getElem_cons hlt, List.find?_cons]
      by_cases hp : p xs[k] = true
      · rw [if_pos hp] at hs
        rw [loopM_out hs, hp]; rfl
      · rw [if_neg hp] at hs
        have hp' : p xs[k] = false := by simpa using hp
        rw [loopM_go hs, hp', ih (k + 1) (by omega)]
  exact key xs.length 0 (by omega)

theorem token_IsWord_eq (s : Str) (hs : s.length ≤ 1000000000) : token_IsWord s = some (isWordS s) := by
  unfold token_IsWord
  rw [among_eq wordsL _ s (by decide +kernel) (by decide +kernel) (by decide +kernel) hs (by decide +kernel)]
  rfl
theorem words_find (s : Str) : ∀ ws : List Str, ((ws.find? (fun w => s == w)).elim (.inl ()) (fun _ => (Sum.inr true : Unit ⊕ Bool))) = if ws.contains s = true then .inr true else .inl ()
  | [] => rfl
  | w :: r => by
    rw [List.find?_cons, List.contains_cons]
    cases h : (s == w) with
    | true => simp
    | false => simpa using words_find s r
theorem ref06_IsWord_eq (s : Str) : ref06_IsWord s = some (isWordS s) := by
  unfold ref06_IsWord
  have hw : ref06_words = some wordsL := rfl
  rw [hw, Option.bind_some]
  have hl := loop_find (step := ref06_IsWord.l1 s wordsL) wordsL (fun w => s == w) (fun _ => (Sum.inr true : Unit ⊕ Bool)) (.inl ()) (by decide +kernel)
    (by
      intro k x hx
      have hlt : k < wordsL.length := (List.getElem?_eq_some_iff.1 hx).1
      unfold ref06_IsWord.l1
      have c : ((k : Int) < ((wordsL.length : Nat) : Int)) := by omega
      have hl45 : wordsL.length < 100 := by decide +kernel
      simp only [c, decide_true, if_true, getI_nat, hx, Option.bind_some, wrap_succ (show k < 1000000000000 by omega)])
    (by
      unfold ref06_IsWord.l1
      simp only [Int.lt_irrefl, decide_false, Bool.false_eq_true, if_false])
  rw [hl, words_find, Option.bind_some]
  unfold isWordS
  cases wordsL.contains s <;> rfl

/-! ### identifiers -/
def isIdentS (s : Str) : Bool := match s with
  | [] => false
  | c :: r => decide ((c :: r).length ≤ 32) && (isLet c && decide (rowK (c :: r) = (c :: r).length))
theorem token_IsIdent_eq (s : Str) (hs : s.length ≤ 1000000000) : token_IsIdent s = some (isIdentS s) := by
  unfold token_IsIdent token_IsIdent.j1
  cases s with
  | nil => rfl
  | cons c r =>
    have c0 : (((c :: r) == ([] : Str))) = false := rfl
    unfold isIdentS
    simp only [c0, Bool.not_false, Bool.true_and, getB_zero, Option.bind_some, token_letter_eq, token_row_eq (c :: r) hs]
    by_cases h32 : (c :: r).length ≤ 32
    · have d : ((((c :: r).length : Nat) : Int) ≤ 32) := by omega
      simp only [d, h32, decide_true, if_true, Bool.true_and]
      cases isLet c with
      | false => rfl
      | true =>
        simp only [if_true, Bool.true_and, Option.some.injEq]
        rw [beq_dec, decide_eq_decide]; omega
    · have d : ¬ ((((c :: r).length : Nat) : Int) ≤ 32) := by omega
      simp only [d, h32, decide_false, Bool.false_eq_true, if_false, Bool.false_and]
/-! ### sameness -/
theorem ref06_Same_refl (a : List Tok) (h : a.length < 1000000000000) : ref06_Same a a = some true := by
  unfold ref06_Same
  have c : (((a.length : Nat) : Int) != ((a.length : Nat) : Int)) = false := by simp
  rw [c]
  simp only [Bool.false_eq_true, if_false]
  have hl := loop_list (step := ref06_Same.l1 a a) a.length (Sum.inl () : Unit ⊕ Bool)
    (by
      intro k hk
      unfold ref06_Same.l1
      have c1 : ((k : Int) < ((a.length : Nat) : Int)) := by omega
      simp only [c1, decide_true, if_true, getI_nat, List.getElem?_eq_getElem hk, Option.bind_some, beq_self_eq_true, Bool.and_self, Bool.not_true, Bool.false_eq_true, if_false, wrap_succ (show k < 1000000000000 by omega)])
    (by
      unfold ref06_Same.l1
      simp only [Int.lt_irrefl, decide_false, Bool.false_eq_true, if_false])
  rw [hl, Option.bind_some]
end Go.Gw

