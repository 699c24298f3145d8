/- Plain laws of the words that the printed functions use. No program in sight. -/
import Derived.Test.YtglnkknalibgdaaDoorGwI
import Derived.Lib.Bytealg
set_option linter.unusedVariables false
set_option linter.unusedSimpArgs false
set_option linter.unnecessarySimpa false
namespace Go.Gw
open Go.RowKit

theorem ite_le {x y a b : Int} (p : Bool) (hp : p = decide (x ≤ y)) : (if p = true then a else b) = if x ≤ y then a else b := by
  subst hp
  by_cases h : x ≤ y <;> simp [h]
theorem wrap_i64_eq (n : Int) : IntKind.wrap .i64 n = if (9223372036854775808 : Int) ≤ n % 18446744073709551616 then n % 18446744073709551616 - 18446744073709551616 else n % 18446744073709551616 :=
  ite_le (x := 9223372036854775808) (y := n % 18446744073709551616) _ rfl
theorem wrap_u8_mod (n : Int) : IntKind.wrap .u8 n = n % 256 := rfl
theorem wrap_i64 {n : Int} (h1 : -9223372036854775808 ≤ n) (h2 : n < 9223372036854775808) : IntKind.wrap .i64 n = n := by
  rw [wrap_i64_eq]; split <;> omega
theorem wrap_u8 {n : Int} (h1 : 0 ≤ n) (h2 : n < 256) : IntKind.wrap .u8 n = n := by rw [wrap_u8_mod]; omega
theorem getI_nat {α : Type} (xs : List α) (i : Nat) : getI xs (i : Int) = xs[i]? := by
  unfold getI; rw [if_pos (by omega)]; simp
theorem getB_nat (s : Str) (i : Nat) : getB s (i : Int) = (s[i]?).map fun b => ((b.toNat : Nat) : Int) := by
  unfold getB; rw [if_pos (by omega)]; simp
theorem cutL_nat {α : Type} (s : List α) (i j : Nat) (h : i ≤ j) (h2 : j ≤ s.length) : cutL s (i : Int) (j : Int) = some ((s.drop i).take (j - i)) := by
  unfold cutL; rw [if_pos (by omega)]; simp
theorem room_ok {n : Nat} (h : n ≤ 274877906944) : room n = some () := by unfold room; rw [if_pos h]
end Go.Gw

