/- Plain laws on loops. No program in sight. -/
import Derived.Test.YtmbdlfemlbbjfaaGreatDoorGwL
import Derived.Test.YtmbdlfemlbbjfaaGreatDoorGwN
set_option linter.unusedVariables false
set_option linter.unusedSimpArgs false
set_option linter.unnecessarySimpa false
namespace Go.Gw

/-- a loop whose states are told -/
theorem loop_run {X E : Type} {step : X → Option (X ⊕ E)} (f : Nat → X) (g : E) : ∀ (n k : Nat), (∀ j, k ≤ j → j < k + n → step (f j) = some (.inl (f (j + 1)))) → step (f (k + n)) = some (.inr g) → loopM step (f k) = some g
  | 0, k, _, h2 => loopM_out h2
  | n + 1, k, h1, h2 => by
    rw [loopM_go (h1 k (Nat.le_refl _) (by omega))]
    refine loop_run f g n (k + 1) (fun j hj hk => h1 j (by omega) (by omega)) ?_
    have : k + 1 + n = k + (n + 1) := by omega
    rw [this]; exact h2
end Go.Gw

