/- What the printed texts need: loops as one function, joins, small steps. For any program. -/
import Derived.Test.YtilkjloabkgpaaaGreatDoorGwH
set_option linter.unusedVariables false
set_option linter.unusedSimpArgs false
set_option linter.unnecessarySimpa false
namespace Go.Gw
open Go.RowKit
set_option linter.unusedSimpArgs false

def loopN {S E : Type} (step : S → Option (S ⊕ E)) : Nat → S → Option E
  | 0, _ => none
  | n + 1, s => Option.bind (step s) fun o => match o with
    | .inl s' => loopN step n s'
    | .inr e => some e
theorem loopN_more {S E : Type} {step : S → Option (S ⊕ E)} : ∀ {n : Nat} {s : S} {e : E} (m : Nat), loopN step n s = some e → n ≤ m → loopN step m s = some e
  | 0, _, _, _, h, _ => by simp [loopN] at h
  | n + 1, s, e, m, h, hm => by
    obtain ⟨m, rfl⟩ : ∃ k, m = k + 1 := ⟨m - 1, by omega⟩
    simp only [loopN] at h ⊢
    cases hs : step s with
    | none => rw [hs] at h; cases h
    | some o =>
      rw [hs] at h
      simp only [Option.bind_some] at h ⊢
      cases o with
      | inl s' => exact loopN_more m h (by omega)
      | inr e' => exact h
theorem bnd_some {α β : Type} {x : Option α} {f : α → Option β} {r : β} (h : x.bind f = some r) : ∃ y, x = some y ∧ f y = some r := by
  cases x with
  | none => cases h
  | some y => exact ⟨y, rfl, h⟩
/-- a number as a byte -/
def toB (n : Int) : Option UInt8 := if 0 ≤ n ∧ n < 256 then some (UInt8.ofNat n.toNat) else none
theorem toB_some {n : Int} {b : UInt8} (h : toB n = some b) : n = (b.toNat : Int) := by
  unfold toB at h
  split at h
  · rename_i hn
    cases h
    have : n.toNat < 256 := by omega
    simp [Nat.mod_eq_of_lt this]
    omega
  · cases h
section
variable {P : Program} {N : Nat} {w0 : World} {F0 : Heap} {D : Own} {w : World} {F : Heap} {L : List SP} {B B' : List (Option Box)} {ρ : Nat → Nat} {l : Env} {a : Act} {o : Oper} {ops : Array Oper} {Q : Exit → Act → World → Prop}

theorem Cx.keeps (h : Cx N w0 F0 D w F L B ρ l a) (ks : List Nat) {l' : Env} (e : keep l ks = some l') : Cx N w0 F0 D w F L B ρ l' a := h.pick (keep_picks e)
def shlI (k : IntKind) (x y : Int) : Option Int := if y < 0 then none else some (k.wrap (x * 2 ^ (min y.toNat k.bits)))
def shrI (k : IntKind) (x y : Int) : Option Int := if y < 0 then none else some (x.fdiv (2 ^ (min y.toNat k.bits)))
def quoI (k : IntKind) (x y : Int) : Option Int := if y = 0 then none else some (k.wrap (x.tdiv y))
def remI (_ : IntKind) (x y : Int) : Option Int := if y = 0 then none else some (x.tmod y)
def arI : BinOp → IntKind → Int → Int → Option Int
  | .shl, k, x, y => shlI k x y
  | .shr, k, x, y => shrI k x y
  | .quo, k, x, y => quoI k x y
  | .rem, k, x, y => remI k x y
  | _, _, _, _ => none
end
end Go.Gw

