/- Slices that a call makes whole; arrays; addresses. For any program. -/
import Derived.Test.YtilkjloabkgpaaaGreatDoorGwM
import Derived.Laws.MakeOwn
import Derived.Lib.Builder
import Derived.Laws.Externs
set_option linter.unusedVariables false
set_option linter.unusedSimpArgs false
set_option linter.unnecessarySimpa false
namespace Go.Gw
open Go.RowKit

def zeroCells (P : Program) (e : TypeId) : Option (List Value) := match P.info? e with
  | some i => (match i.zero with | some z => some z.cells.toList | none => none)
  | none => none
section
variable {P : Program} {N : Nat} {w0 : World} {F0 : Heap} {D : Own} {w : World} {F : Heap} {L L' M M' : List SP} {B B' : List (Option Box)} {ρ : Nat → Nat} {l : Env} {a : Act} {o : Oper} {ops : Array Oper} {lit : List Nat} {rest : List Oper} {Q : Exit → Act → World → Prop}

/-- an address told as one without a type, and back -/
theorem Cx.shape (h : Cx N w0 F0 D w F L B ρ l a) {k : Nat} {e : TypeId} {cells : List SV} (hB : B[k]? = some (some ⟨e, cells⟩)) : w.shape? (ρ k) = some (e, cells.length) := by
  have h1 := h.box hB
  unfold World.shape?
  simp only at h1
  rw [h1]
  simp [dens_length]
end
end Go.Gw

