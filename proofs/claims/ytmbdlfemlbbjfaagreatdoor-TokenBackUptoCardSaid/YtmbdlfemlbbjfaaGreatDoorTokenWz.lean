/- Chapter 6: identifiers; which texts are words and which identifiers. -/
import Derived.Test.YtmbdlfemlbbjfaaGreatDoorToken7z
set_option linter.unusedVariables false
set_option linter.unusedSimpArgs false
set_option linter.unnecessarySimpa false
namespace Go.Gw
set_option linter.unusedSimpArgs false

theorem let_not_dig : ∀ b : Fin 256, isDig (UInt8.ofNat b.val) = true → isLet (UInt8.ofNat b.val) = false := by decide +kernel
theorem let_not_dig' (c : UInt8) (h : isDig c = true) : isLet c = false := by
  have := let_not_dig ⟨c.toNat, c.toNat_lt⟩; rw [ofN] at this; exact this h
theorem all_find {α : Type} (p : α → Bool) : ∀ xs : List α, ((xs.find? (fun x => !p x)).elim (.inl ()) (fun _ => (Sum.inr false : Unit ⊕ Bool))) = if xs.all p = true then .inl () else .inr false
  | [] => rfl
  | x :: r => by
    rw [List.find?_cons, List.all_cons]
    cases h : p x with
    | true => simpa using all_find p r
    | false => simp
theorem ref06_IsIdent_eq (s : Str) : ref06_IsIdent s = some (isIdentS s) := by
  unfold ref06_IsIdent
  cases s with
  | nil => rfl
  | cons c r =>
    have h1 : ¬ ((((c :: r).length : Nat) : Int) < 1) := by simp only [List.length_cons]; omega
    unfold isIdentS
    by_cases h32 : (c :: r).length ≤ 32
    · have d : ¬ ((((c :: r).length : Nat) : Int) > 32) := by omega
      simp only [h1, d, h32, decide_false, decide_true, Bool.or_self, Bool.false_eq_true, if_false, getB_zero, Option.bind_some, ref06_digit_eq, Bool.true_and]
      unfold ref06_IsIdent.j1
      cases hd : isDig c with
      | true =>
        rw [let_not_dig' c hd]; rfl
      | false =>
        simp only [Bool.false_eq_true, if_false]
        have hl := loop_find (step := ref06_IsIdent.l1 (c :: r)) (c :: r) (fun x => !isLD x) (fun _ => (Sum.inr false : Unit ⊕ Bool)) (.inl ()) (by omega)
          (by
            intro k x hx
            have hlt : k < (c :: r).length := (List.getElem?_eq_some_iff.1 hx).1
            unfold ref06_IsIdent.l1 ref06_IsIdent.j3
            have c1 : ((k : Int) < (((c :: r).length : Nat) : Int)) := by omega
            simp only [c1, decide_true, if_true, getB_at _ k x hx, Option.bind_some, ref06_letter_eq, ref06_digit_eq, wrap_succ (show k < 1000000000000 by omega)]
            unfold isLD
            cases isLet x <;> cases isDig x <;> rfl)
          (by
            unfold ref06_IsIdent.l1
            simp only [Int.lt_irrefl, decide_false, Bool.false_eq_true, if_false])
        rw [hl, all_find, Option.bind_some]
        have hall := rowK_all (c :: r)
        have hld : isLD c = isLet c := by unfold isLD; rw [hd, Bool.or_false]
        cases ha : (c :: r).all isLD with
        | true =>
          have hc : isLet c = true := by rw [← hld]; rw [List.all_cons, Bool.and_eq_true] at ha; exact ha.1
          simp only [if_true, hc, hall.2 ha, decide_true, Bool.true_and]
        | false =>
          have hne : ¬ (rowK (c :: r) = (c :: r).length) := by rw [hall, ha]; simp
          simp only [Bool.false_eq_true, if_false, hne, decide_false, Bool.and_false]
    · have d : ((((c :: r).length : Nat) : Int) > 32) := by omega
      simp only [h1, d, h32, decide_false, decide_true, Bool.or_true, if_true, Bool.false_and]
      rfl

end Go.Gw

