/- Plain laws of the words that the printed functions use. No program in sight. -/
import Derived.Test.YtilkjloabkgpaaaDoorGwI
import Derived.Lib.Bytealg
set_option linter.unusedVariables false
set_option linter.unusedSimpArgs false
set_option linter.unnecessarySimpa false
namespace Go.Gw
open Go.RowKit

theorem ite_le {x y a b : Int} (p : Bool) (hp : p = decide (x ≤ y)) : (if p = true then a else b) = if x ≤ y then a else b := by
  subst hp
  by_cases h : x ≤ y <;> simp [h]
theorem wrap_i64_eq (n : Int) : IntKind.wrap .i64 n = if (9223372036854775808 : Int) ≤ n % 18446744073709551616 then n % 18446744073709551616 - 18446744073709551616 else n % 18446744073709551616 :=
  ite_le (x := 9223372036854775808) (y := n % 18446744073709551616) _ rfl
theorem wrap_i64 {n : Int} (h1 : -9223372036854775808 ≤ n) (h2 : n < 9223372036854775808) : IntKind.wrap .i64 n = n := by
  rw [wrap_i64_eq]; split <;> omega
theorem getI_nat {α : Type} (xs : List α) (i : Nat) : getI xs (i : Int) = xs[i]? := by
  unfold getI; rw [if_pos (by omega)]; simp
end Go.Gw

