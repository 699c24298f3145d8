/- Memory that is handed to a call and handed back: variables with what hangs on them, told as one. For any program. -/
import Derived.Test.YtglnkknalibgdaaDoorGwJ
import Derived.Test.YtglnkknalibgdaaDoorGwK
set_option linter.unusedVariables false
set_option linter.unusedSimpArgs false
set_option linter.unnecessarySimpa false
namespace Go.Gw
open Go.RowKit

section
variable {P : Program} {N : Nat} {w0 : World} {F0 : Heap} {D : Own} {w : World} {F : Heap} {L L' M M' : List SP} {B B' : List (Option Box)} {ρ : Nat → Nat} {l : Env} {a : Act} {o : Oper} {ops : Array Oper} {Q : Exit → Act → World → Prop}

/-- what is owned, told in another order or otherwise -/
theorem St.retold (h : St w0 F0 D w F L) (hL : ∀ x, all F L x → all F L' x) : St w0 F0 D w F L' :=
  ⟨h.os, h.tape, h.output, h.size, h.frame, h.le, h.new, h.view, let ⟨x, a, r⟩ := h.own; ⟨x, hL x a, r⟩⟩
theorem all_swap {F : Heap} {L M : List SP} {x : Heap} (h : all F (L ++ M) x) : all F (M ++ L) x := by
  obtain ⟨g, k, a, b, c, rfl⟩ := all_append.1 h
  exact all_append.2 ⟨k, g, b, a, c.symm, Heap.join_comm c⟩
theorem all_left {F : Heap} {L L' M : List SP} {x : Heap} (h : all F (L ++ M) x) (hL : ∀ x, all F L x → all F L' x) : all F (L' ++ M) x := by
  obtain ⟨g, k, a, b, c, rfl⟩ := all_append.1 h
  exact all_append.2 ⟨g, k, hL g a, b, c, rfl⟩
theorem all_front {F : Heap} {A L M : List SP} {x : Heap} (h : all F (A ++ (L ++ M)) x) : all F (L ++ (A ++ M)) x := by
  rw [← List.append_assoc] at h ⊢
  exact all_left h fun _ => all_swap
end
end Go.Gw

