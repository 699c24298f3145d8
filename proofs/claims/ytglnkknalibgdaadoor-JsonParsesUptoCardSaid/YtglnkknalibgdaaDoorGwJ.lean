/- Results that lie in variables; what is forgotten; places changed about. For any program. -/
import Derived.Test.YtglnkknalibgdaaDoorGwI
set_option linter.unusedVariables false
set_option linter.unusedSimpArgs false
set_option linter.unnecessarySimpa false
namespace Go.Gw
open Go.RowKit
set_option linter.unusedSimpArgs false
section
variable {P : Program} {N : Nat} {w0 : World} {F0 : Heap} {D : Own} {w : World} {F : Heap} {L : List SP} {B B' : List (Option Box)} {ρ : Nat → Nat} {l : Env} {a : Act} {o : Oper} {ops : Array Oper} {Q : Exit → Act → World → Prop}

/-- a call that leaves what stood as it was -/
theorem St.ofBelow {w' : World} (hv : F.Sub w) (h : Below w.heap.size w w') : St w F No w' F [] :=
  ⟨h.os, h.tape, h.output, h.size, fun b hb _ => h.block b hb, .refl F, fun _ _ _ => rfl, ⟨fun x o e => by rw [h.block x (hv.lt e)]; exact hv.out x o e⟩, Heap.nil, rfl, ⟨fun _ _ e => by cases e⟩, ⟨fun _ => .inr rfl⟩, fun _ _ e => by cases e⟩
theorem Ret0.pure {post : SV → Prop} {s : SV} {w' : World} {e : Ending} (hv : F.Sub w) (he : e = .returned (s.den fun _ => 0)) (hw : w' = w) (hg : s.good F) (hu : s.under 0 = true) (hp : post s) : Ret0 w F post e w' := by
  subst hw; exact ⟨F, s, he, hg, hu, St.start hv, hp⟩
theorem Ret0.below {post : SV → Prop} {s : SV} {w' : World} {e : Ending} (hv : F.Sub w) (he : e = .returned (s.den fun _ => 0)) (hw : Below w.heap.size w w') (hg : s.good F) (hu : s.under 0 = true) (hp : post s) : Ret0 w F post e w' :=
  ⟨F, s, he, hg, hu, St.ofBelow hv hw, hp⟩
end
end Go.Gw

