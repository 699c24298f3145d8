/- Orders that are open; arrays' elements; tables; variables known by number. For any program. -/
import Derived.Test.YtmbdlfemlbbjfaaGreatDoorGwO
set_option linter.unusedVariables false
set_option linter.unusedSimpArgs false
set_option linter.unnecessarySimpa false
namespace Go.Gw
open Go.RowKit

theorem fix1 {D : Own} {ρ : Nat → Nat} (hD : D.known = [ρ 0]) : ∀ k b, D.known[k]? = some b → k < (nones 1).length ∧ ρ k = b := by
  intro k b e; rw [hD] at e
  match k, e with
  | 0, e => exact ⟨by decide, Option.some.inj e⟩
  | k + 1, e => simp at e
section
variable {P : Program} {N : Nat} {w0 : World} {F0 : Heap} {D : Own} {w : World} {F : Heap} {L L' M M' : List SP} {B B' : List (Option Box)} {ρ : Nat → Nat} {l : Env} {a : Act} {o : Oper} {ops : Array Oper} {lit : List Nat} {rest : List Oper} {Q : Exit → Act → World → Prop}

/-- several may come up -/
theorem dord {n : Nat} {listed : Array Bool} {S : World → Prop} {r : List Nat} (hr : Region.ready .any ops listed = r) (hne : r ≠ [])
    (h : ∀ i ∈ r, wpOp P ops (NoPanic Q) i (fun a' w' => S w' ∧ wpAnyH P .any ops (NoPanic Q) S n (listed.setIfInBounds i true) a' w') a w) : wpAnyH P .any ops (NoPanic Q) S (n + 1) listed a w :=
  wpAnyH_all hr hne h
theorem dtry {n : Nat} {listed listed' : Array Bool} {S : World → Prop} (i : Nat) (ho : ops[i]? = some o) (hl : listed.setIfInBounds i true = listed')
    (h : wpList P ops (Exit.then (fun a' w' => S w' ∧ wpAnyH P .any ops (NoPanic Q) S n listed' a' w') (NoPanic Q)) [o] a w) : wpOp P ops (NoPanic Q) i (fun a' w' => S w' ∧ wpAnyH P .any ops (NoPanic Q) S n (listed.setIfInBounds i true) a' w') a w := by
  subst hl
  unfold wpOp
  rw [ho]
  have h' : if Region.wanted o (yielded ops a.tmps) = true then o.wp P a w (fun a' w' => S w' ∧ wpAnyH P .any ops (NoPanic Q) S n (listed.setIfInBounds i true) a' w') (Exit.then (fun a' w' => S w' ∧ wpAnyH P .any ops (NoPanic Q) S n (listed.setIfInBounds i true) a' w') (NoPanic Q)) ∨
        (o.asks P a w ∧ LetsOut (Exit.then (fun a' w' => S w' ∧ wpAnyH P .any ops (NoPanic Q) S n (listed.setIfInBounds i true) a' w') (NoPanic Q)))
      else S w ∧ wpAnyH P .any ops (NoPanic Q) S n (listed.setIfInBounds i true) (a.put o.dst undef) w := h
  simp only
  split
  · rename_i hw
    rw [if_pos hw] at h'
    refine h'.imp (fun h' => ?_) id
    unfold Oper.wp at h' ⊢
    generalize (execOp a.eval o).run P w = r at h' ⊢
    cases r with
    | ok nx w' =>
      cases nx <;> simp only [Oper.upon] at h' ⊢ <;>
        first
          | exact h'
          | exact Calls.mono h' (fun e w'' he => by cases e <;> exact he)
    | halt x w' => cases x <;> simp only [Oper.upon] at h' ⊢ <;> exact h'
  · rename_i hw
    rw [if_neg hw] at h'
    exact h'

end
end Go.Gw

