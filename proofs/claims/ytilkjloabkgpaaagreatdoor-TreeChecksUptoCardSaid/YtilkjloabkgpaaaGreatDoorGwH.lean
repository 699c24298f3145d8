/- Slices of the call's own: handed on, read, written, made; bytes as strings. For any program. -/
import Derived.Test.YtilkjloabkgpaaaGreatDoorGwG
set_option linter.unusedVariables false
set_option linter.unusedSimpArgs false
set_option linter.unnecessarySimpa false
namespace Go.Gw
open Go.RowKit
set_option linter.unusedSimpArgs false

section
variable {P : Program} {N : Nat} {w0 : World} {F0 : Heap} {D : Own} {w : World} {F : Heap} {L : List SP} {B B' : List (Option Box)} {ρ : Nat → Nat} {l : Env} {a : Act} {o : Oper} {ops : Array Oper} {lit : List Nat} {rest : List Oper} {Q : Exit → Act → World → Prop}

theorem strOf_bytes (xs : Str) : strOfNums (xs.map fun b => (b.toNat : Int)) = ⟨⟨xs⟩⟩ := by
  unfold strOfNums
  congr 1
  simp [Function.comp_def]

end
end Go.Gw

