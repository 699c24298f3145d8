/- Plain laws of the words that the printed functions use. No program in sight. -/
import Derived.Test.YtmbdlfemlbbjfaaDoorGwI
import Derived.Lib.Bytealg
set_option linter.unusedVariables false
set_option linter.unusedSimpArgs false
set_option linter.unnecessarySimpa false
namespace Go.Gw
open Go.RowKit

theorem ite_le {x y a b : Int} (p : Bool) (hp : p = decide (x ≤ y)) : (if p = true then a else b) = if x ≤ y then a else b := by
  subst hp
  by_cases h : x ≤ y <;> simp [h]
theorem wrap_i64_eq (n : Int) : IntKind.wrap .i64 n = if (9223372036854775808 : Int) ≤ n % 18446744073709551616 then n % 18446744073709551616 - 18446744073709551616 else n % 18446744073709551616 :=
  ite_le (x := 9223372036854775808) (y := n % 18446744073709551616) _ rfl
theorem wrap_u64_mod (n : Int) : IntKind.wrap .u64 n = n % 18446744073709551616 := rfl
theorem wrap_u8_mod (n : Int) : IntKind.wrap .u8 n = n % 256 := rfl
theorem wrap_i64 {n : Int} (h1 : -9223372036854775808 ≤ n) (h2 : n < 9223372036854775808) : IntKind.wrap .i64 n = n := by
  rw [wrap_i64_eq]; split <;> omega
theorem wrap_u64 {n : Int} (h1 : 0 ≤ n) (h2 : n < 18446744073709551616) : IntKind.wrap .u64 n = n := by rw [wrap_u64_mod]; omega
theorem wrap_u8 {n : Int} (h1 : 0 ≤ n) (h2 : n < 256) : IntKind.wrap .u8 n = n := by rw [wrap_u8_mod]; omega
theorem wrap_i64_lo (n : Int) : -9223372036854775808 ≤ IntKind.wrap .i64 n ∧ IntKind.wrap .i64 n < 9223372036854775808 := by
  rw [wrap_i64_eq]; split <;> omega

theorem getI_nat {α : Type} (xs : List α) (i : Nat) : getI xs (i : Int) = xs[i]? := by
  unfold getI; rw [if_pos (by omega)]; simp
theorem getB_nat (s : Str) (i : Nat) : getB s (i : Int) = (s[i]?).map fun b => ((b.toNat : Nat) : Int) := by
  unfold getB; rw [if_pos (by omega)]; simp
theorem cutL_nat {α : Type} (s : List α) (i j : Nat) (h : i ≤ j) (h2 : j ≤ s.length) : cutL s (i : Int) (j : Int) = some ((s.drop i).take (j - i)) := by
  unfold cutL; rw [if_pos (by omega)]; simp
theorem cutL_to_end {α : Type} (s : List α) (i : Nat) (h : i ≤ s.length) : cutL s (i : Int) ((s.length : Nat) : Int) = some (s.drop i) := by
  rw [cutL_nat s i _ h (Nat.le_refl _)]; congr 1; exact List.take_of_length_le (by simp)
theorem room_ok {n : Nat} (h : n ≤ 274877906944) : room n = some () := by unfold room; rw [if_pos h]
theorem catS_ok {s t : Str} (h : s.length + t.length ≤ 4611686018427387904) : catS s t = some (s ++ t) := by unfold catS; rw [if_pos h]
theorem toB_u8 {n : Int} (h1 : 0 ≤ n) (h2 : n < 256) : toB n = some (UInt8.ofNat n.toNat) := by unfold toB; rw [if_pos ⟨h1, h2⟩]
theorem u8_lt (b : UInt8) : ((b.toNat : Nat) : Int) < 256 := by have := b.toNat_lt; omega

/-- a walk over a list -/
def scan {α S E : Type} (body : S → α → S ⊕ E) (fin : S → E) : List α → S → E
  | [], s => fin s
  | x :: r, s => match body s x with
    | .inl s' => scan body fin r s'
    | .inr e => e
theorem loopM_scan {α S E : Type} {step : (Int × S) → Option ((Int × S) ⊕ E)} (xs : List α) (body : S → α → S ⊕ E) (fin : S → E) (Inv : Nat → S → Prop)
    (h1 : ∀ (i : Nat) (x : α) (s : S), xs[i]? = some x → Inv i s → (step ((i : Int), s) = some (match body s x with | .inl s' => .inl (((i + 1 : Nat) : Int), s') | .inr e => .inr e)) ∧ ∀ s', body s x = .inl s' → Inv (i + 1) s')
    (h2 : ∀ s, Inv xs.length s → step ((xs.length : Int), s) = some (.inr (fin s))) :
    ∀ (n k : Nat) (s : S), k + n = xs.length → Inv k s → loopM step ((k : Int), s) = some (scan body fin (xs.drop k) s) := by
  intro n
  induction n with
  | zero =>
    intro k s hk hi
    obtain rfl : k = xs.length := by omega
    rw [List.drop_length, loopM_out (h2 s hi)]; rfl
  | succ n ih =>
    intro k s hk hi
    have hlt : k < xs.length := by omega
    rw [List.drop_eq_getElem_cons hlt]
    have hx : xs[k]? = some xs[k] := List.getElem?_eq_getElem hlt
    obtain ⟨e1, e2⟩ := h1 k _ s hx hi
    unfold scan
    cases hb : body s xs[k] with
    | inl s' =>
      rw [hb] at e1
      rw [loopM_go e1]
      exact ih (k + 1) s' (by omega) (e2 s' hb)
    | inr e =>
      rw [hb] at e1
      exact loopM_out e1
/-- the same where the place alone is kept -/
theorem loopM_scan1 {α E : Type} {step : Int → Option (Int ⊕ E)} (xs : List α) (body : Nat → α → Option E) (fin : E)
    (h1 : ∀ (i : Nat) (x : α), xs[i]? = some x → step (i : Int) = some (match body i x with | none => .inl ((i + 1 : Nat) : Int) | some e => .inr e))
    (h2 : step (xs.length : Int) = some (.inr fin)) :
    ∀ (n k : Nat), k + n = xs.length → loopM step (k : Int) = some (scan (S := Nat) (fun i x => match body i x with | none => .inl (i + 1) | some e => .inr e) (fun _ => fin) (xs.drop k) k) := by
  intro n
  induction n with
  | zero =>
    intro k hk
    obtain rfl : k = xs.length := by omega
    rw [List.drop_length, loopM_out h2]; rfl
  | succ n ih =>
    intro k hk
    have hlt : k < xs.length := by omega
    rw [List.drop_eq_getElem_cons hlt]
    have hx : xs[k]? = some xs[k] := List.getElem?_eq_getElem hlt
    have e1 := h1 k _ hx
    unfold scan
    cases hb : body k xs[k] with
    | none =>
      rw [hb] at e1
      rw [loopM_go e1]
      exact ih (k + 1) (by omega)
    | some e =>
      rw [hb] at e1
      exact loopM_out e1

/-- texts in order -/
theorem bytesLess_cmp : ∀ a b : Str, (Op.bytesLess a b = true ↔ Lib.compareBytes a b = -1) ∧ (a = b ↔ Lib.compareBytes a b = 0) ∧ (Lib.compareBytes a b = -1 ∨ Lib.compareBytes a b = 0 ∨ Lib.compareBytes a b = 1)
  | [], [] => by simp [Op.bytesLess, Lib.compareBytes]
  | [], _ :: _ => by simp [Op.bytesLess, Lib.compareBytes]
  | _ :: _, [] => by simp [Op.bytesLess, Lib.compareBytes]
  | x :: a, y :: b => by
    obtain ⟨h1, h2, h3⟩ := bytesLess_cmp a b
    simp only [Op.bytesLess, Lib.compareBytes]
    by_cases hxy : x < y
    · simp [hxy]
      intro e; subst e; exact absurd hxy (UInt8.lt_irrefl _)
    · by_cases hyx : y < x
      · have hne : x ≠ y := fun e => by subst e; exact UInt8.lt_irrefl _ hyx
        simp [hxy, hyx, hne]
      · have : x = y := UInt8.le_antisymm (UInt8.not_lt.1 hyx) (UInt8.not_lt.1 hxy)
        subst this
        simp [hxy, h1, h2, h3]
end Go.Gw
