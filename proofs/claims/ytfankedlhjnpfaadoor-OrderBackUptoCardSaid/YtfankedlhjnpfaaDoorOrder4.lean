/- Chapter 5: sameness, the chapter's examples. Plain Lean over the printed functions. -/
import Derived.Test.YtfankedlhjnpfaaDoorOrder3
set_option linter.unusedVariables false
set_option linter.unusedSimpArgs false
set_option linter.unnecessarySimpa false
namespace Go.Gw
open Go.Proofs
set_option linter.unusedSimpArgs false

def samePart (p q : Part) : Bool := (p.IsText == q.IsText) && ((p.N == q.N) && ((p.S == q.S) && true))
theorem samePart_iff (p q : Part) : samePart p q = true ↔ p = q := by
  unfold samePart
  cases p; cases q
  simp
def sameL : List Part → List Part → Bool
  | [], [] => true
  | p :: a, q :: b => samePart p q && sameL a b
  | _, _ => false
theorem sameL_iff : ∀ a b : List Part, sameL a b = true ↔ a = b
  | [], [] => by simp [sameL]
  | [], _ :: _ => by simp [sameL]
  | _ :: _, [] => by simp [sameL]
  | p :: a, q :: b => by simp [sameL, samePart_iff, sameL_iff a b]
theorem sameL_length : ∀ {a b : List Part}, a.length ≠ b.length → sameL a b = false
  | [], [], h => absurd rfl h
  | [], _ :: _, _ => rfl
  | _ :: _, [], _ => rfl
  | p :: a, q :: b, h => by
    have : a.length ≠ b.length := by simpa using h
    simp [sameL, sameL_length this]

theorem ref05_Same_loop (a b : List Part) (ha : a.length < 4611686018427387904) (hab : a.length = b.length) :
    ∀ (n k : Nat), k + n = a.length → loopM (ref05_Same.l1 a b) (k : Int) = some (if sameL (a.drop k) (b.drop k) = true then .inl () else .inr false) := by
  intro n
  induction n with
  | zero =>
    intro k hk
    have hstep : ref05_Same.l1 a b (k : Int) = some (.inr (.inl ())) := by
      unfold ref05_Same.l1
      have : ¬ ((k : Int) < ((a.length : Nat) : Int)) := by omega
      simp [this]
    rw [loopM_out hstep, List.drop_of_length_le (by omega), List.drop_of_length_le (by omega)]
    simp [sameL]
  | succ n ih =>
    intro k hk
    have hla : k < a.length := by omega
    have hlb : k < b.length := by omega
    have hw : IntKind.wrap .i64 ((k : Int) + 1) = ((k + 1 : Nat) : Int) := by rw [wrap_i64 (by omega) (by omega)]; omega
    have hstep : ref05_Same.l1 a b (k : Int) = some (if samePart a[k] b[k] = true then .inl ((k + 1 : Nat) : Int) else .inr (.inr false)) := by
      unfold ref05_Same.l1
      have h1 : ((k : Int) < ((a.length : Nat) : Int)) := by omega
      simp only [h1, decide_true, if_true]
      rw [getI_nat, getI_nat, List.getElem?_eq_getElem hla, List.getElem?_eq_getElem hlb]
      simp only [Option.bind_some, hw]
      show (if (!samePart a[k] b[k]) = true then _ else _) = _
      cases samePart a[k] b[k] <;> rfl
    rw [List.drop_eq_getElem_cons hla, List.drop_eq_getElem_cons hlb]
    unfold sameL
    cases h0 : samePart a[k] b[k] with
    | true =>
      rw [h0] at hstep
      rw [loopM_go hstep, ih (k + 1) (by omega)]
      simp only [Bool.true_and]
    | false =>
      rw [h0] at hstep
      rw [loopM_out hstep]
      simp only [Bool.false_and, Bool.false_eq_true, if_false]
theorem ref05_Same_eq (a b : List Part) (ha : a.length < 4611686018427387904) : ref05_Same a b = some (sameL a b) := by
  unfold ref05_Same
  by_cases hab : a.length = b.length
  · have : (((a.length : Nat) : Int) != ((b.length : Nat) : Int)) = false := by simp [hab]
    rw [this]
    have hl : loopM (ref05_Same.l1 a b) 0 = _ := ref05_Same_loop a b ha hab a.length 0 (by omega)
    simp only [Bool.false_eq_true, if_false, hl, Option.bind_some, List.drop_zero]
    cases sameL a b <;> rfl
  · have : (((a.length : Nat) : Int) != ((b.length : Nat) : Int)) = true := by
      simp only [bne_iff_ne, ne_eq]; omega
    rw [this, sameL_length hab]; rfl

theorem decode_example : order_Decode [32, 0, 255, 97, 0, 1] = some ([{ IsText := true, N := 0, S := [0, 97] }], 0) := by
  have a1 : order_Decode.l5 [32, 0, 255, 97, 0, 1] [] 1 = some (.inl 3) := rfl
  have a2 : order_Decode.l5 [32, 0, 255, 97, 0, 1] [] 3 = some (.inl 4) := rfl
  have a3 : order_Decode.l5 [32, 0, 255, 97, 0, 1] [] 4 = some (.inr (.inr (.inr ([], [{ IsText := true, N := 0, S := [0, 97] }])))) := rfl
  have a4 : loopM (order_Decode.l5 [32, 0, 255, 97, 0, 1] []) 1 = some (.inr (.inr ([], [{ IsText := true, N := 0, S := [0, 97] }]))) := by
    rw [loopM_go a1, loopM_go a2, loopM_out a3]
  have b1 : order_Decode.l1 ([32, 0, 255, 97, 0, 1], []) = some (.inl ([], [{ IsText := true, N := 0, S := [0, 97] }])) := by
    have c1 : cutL ([32, 0, 255, 97, 0, 1] : Str) 0 1 = some [32] := rfl
    unfold order_Decode.l1
    simp only [c1, Option.bind_some, a4]
    rfl
  have b2 : order_Decode.l1 ([], [{ IsText := true, N := 0, S := [0, 97] }]) = some (.inr (.inl [{ IsText := true, N := 0, S := [0, 97] }])) := rfl
  unfold order_Decode
  rw [loopM_go b1, loopM_out b2]
  rfl
theorem live_eq : law05_live = some true := by
  unfold law05_live
  rw [order_Encode_eq _ (by decide)]
  have e : encode [({ IsText := true, N := 0, S := ([0, 97] : Str) } : T_api_Part)] = ([32, 0, 255, 97, 0, 1], 0) := by decide
  simp only [e, Option.bind_some, decode_example]
  rw [ref05_Same_eq _ _ (by decide), order_Compare_eq _ _ (by decide), order_Compare_eq _ _ (by decide)]
  rfl

theorem OrderCompares_true (a b : List Part) (ha : a.length < 4611686018427387904) : law05_OrderCompares a b = some true := by
  unfold law05_OrderCompares law05_OrderCompares.j1
  rw [live_eq, order_Compare_eq a b ha, ref05_Compare_eq a b ha]
  simp
end Go.Gw
