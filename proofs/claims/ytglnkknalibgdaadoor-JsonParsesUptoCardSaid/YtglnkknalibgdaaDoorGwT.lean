/- Data within data of its own kind: trees. -/
import Derived.Test.YtglnkknalibgdaaDoorGwS
set_option linter.unusedVariables false
set_option linter.unusedSimpArgs false
set_option linter.unnecessarySimpa false
namespace Go.Gw
open Go.RowKit

/-- cells of a tree: what stands ahead of the row of what is within it, and that row -/
inductive RecH {T Y : Type} (fr : T → Y → List SV) (sub : T → List T) (sz : Nat) (F : Heap) : T → List Value → Prop
  | none (x : T) (y : Y) (cs : List Value) (A : Option Addr) (c : Nat) (h1 : SV.plains (fr x y) = some cs) (h2 : SV.goods F (fr x y)) (h3 : sub x = []) :
      RecH fr sub sz F x (cs ++ [.slice A (sub x).length c])
  | some (x : T) (y : Y) (cs : List Value) (b o c : Nat) (h1 : SV.plains (fr x y) = some cs) (h2 : SV.goods F (fr x y)) (h3 : (sub x).length ≤ c) (cell : Nat → List Value)
      (h4 : ∀ i v, (sub x)[i]? = some v → RecH fr sub sz F v (cell i)) (h5 : ∀ i v, (sub x)[i]? = some v → cellsF F b (o + i * sz) (cell i)) :
      RecH fr sub sz F x (cs ++ [.slice (some ⟨b, o, none⟩) (sub x).length c])
def RowR {T Y : Type} (fr : T → Y → List SV) (sub : T → List T) (sz : Nat) (F : Heap) (A : Option Addr) (xs : List T) : Prop :=
  xs = [] ∨ ∃ b o, A = some ⟨b, o, none⟩ ∧ ∀ i x, xs[i]? = some x → ∃ cs, RecH fr sub sz F x cs ∧ cellsF F b (o + i * sz) cs
section
variable {T Y : Type} {fr : T → Y → List SV} {sub : T → List T} {sz : Nat} {F F' : Heap}
theorem RecH.mono {x : T} {cs : List Value} (hle : F.Le F') (h : RecH fr sub sz F x cs) : RecH fr sub sz F' x cs := by
  induction h with
  | none x y cs A c h1 h2 h3 => exact .none x y cs A c h1 (SV.goods_mono hle h2) h3
  | some x y cs b o c h1 h2 h3 cell h4 h5 ih => exact .some x y cs b o c h1 (SV.goods_mono hle h2) h3 cell ih (fun i v hv => cellsF_mono hle (h5 i v hv))
theorem RowR.mono {A : Option Addr} {xs : List T} (hle : F.Le F') : RowR fr sub sz F A xs → RowR fr sub sz F' A xs
  | .inl e => .inl e
  | .inr ⟨b, o, e, g⟩ => .inr ⟨b, o, e, fun i x hx => let ⟨cs, h1, h2⟩ := g i x hx; ⟨cs, h1.mono hle, cellsF_mono hle h2⟩⟩
end
end Go.Gw

