/- Regions that draw their order: those operations first that yield the same in every world. For any program. -/
import Derived.Test.YtglnkknalibgdaaDoorGwJ
import Derived.OrdersHeld
import Derived.Deep.RegionHeld3
set_option linter.unusedVariables false
set_option linter.unusedSimpArgs false
set_option linter.unnecessarySimpa false
namespace Go.Gw
open Go.RowKit
set_option linter.unusedSimpArgs false

def nones : Nat → List (Option Box)
  | 0 => []
  | n + 1 => none :: nones n
theorem nones_length : ∀ n, (nones n).length = n
  | 0 => rfl
  | n + 1 => by simp [nones, nones_length n]
theorem nones_mem : ∀ {n : Nat} {b : Box}, some b ∈ nones n → False
  | 0, _, h => by cases h
  | n + 1, _, h => by
    rcases List.mem_cons.1 h with e | e
    · cases e
    · exact nones_mem e
theorem all_nones (F : Heap) (ρ : Nat → Nat) : ∀ (n k : Nat), all F (boxes ρ k (nones n)) Heap.nil
  | 0, _ => rfl
  | n + 1, k => ⟨Heap.nil, Heap.nil, rfl, all_nones F ρ n (k + 1), ⟨fun _ => .inl rfl⟩, rfl⟩

section
variable {P : Program} {N : Nat} {w0 : World} {F0 : Heap} {D : Own} {w : World} {F : Heap} {L : List SP} {B B' : List (Option Box)} {ρ : Nat → Nat} {l : Env} {a : Act} {o : Oper} {ops : Array Oper} {Q : Exit → Act → World → Prop}

/-- what is known of slots is known in every world that has what never changes -/
theorem Cx.at (h : Cx N w0 F0 D w F L B ρ l a) {w' : World} (hv : F.Sub w') : Cx N w' F No w' F [] (nones B.length) ρ l a := by
  refine ⟨h.size, h.nodef, h.env, fun t s e => by rw [nones_length]; exact h.good t s e, fun b hb => (nones_mem hb).elim, fun k b e => by simp [No] at e, ?_⟩
  rw [List.append_nil]
  exact ⟨rfl, rfl, rfl, Nat.le_refl _, fun _ _ _ => rfl, .refl F, fun _ _ _ => rfl, hv, Heap.nil, all_nones F ρ _ _, ⟨fun _ _ e => by cases e⟩, ⟨fun _ => .inr rfl⟩, fun _ _ e => by cases e⟩

/-- the walk goes on as if it began here -/
theorem Cx.base (h : Cx N w0 F0 D w F L B ρ l a) : ∃ D' : Own, Cx N w F D' w F L B ρ l a ∧ D'.known = D.known ∧
    ∀ {w' : World} {F' : Heap} {L' : List SP} {B' : List (Option Box)} {ρ' : Nat → Nat} {l' : Env} {a' : Act}, Cx N w F D' w' F' L' B' ρ' l' a' → Cx N w0 F0 D w' F' L' B' ρ' l' a' := by
  have h1 : St w0 F0 D w F ([] ++ (boxes ρ 0 B ++ L)) := h.st
  obtain ⟨p, hp⟩ := h1.call
  exact ⟨⟨p, D.known⟩, ⟨h.size, h.nodef, h.env, h.good, h.bgood, h.fix, (hp _).1⟩, rfl, fun h' => ⟨h'.size, h'.nodef, h'.env, h'.good, h'.bgood, h'.fix, (hp _).2 h'.st⟩⟩

theorem Cx.draw {id n : Nat} (h : Cx N w0 F0 D w F L B ρ l a) (hm : P.follows .mixedOrders = true) (hn : ops.size = n) (listed : Array Bool) (hl : Array.replicate n false = listed)
    (hK : ∀ (w1 : World) (D' : Own), D'.known = D.known → (∀ {w' : World} {F' : Heap} {L' : List SP} {B' : List (Option Box)} {ρ' : Nat → Nat} {l' : Env} {a' : Act}, Cx N w1 F D' w' F' L' B' ρ' l' a' → Cx N w0 F0 D w' F' L' B' ρ' l' a') →
      Cx N w1 F D' w1 F L B ρ l a → wpAnyH P .any ops (NoPanic Q) (fun w' => F.Sub w') n listed a w1) : (Code.region id ops true).wp P Q a w := by
  subst hn; subst hl
  refine wp_region_noPanic (wp_region_held (S := fun w' => F.Sub w') hm ?_)
  have h1 : Cx N w0 F0 D { w with drawn := w.drawn + 1 } F L B ρ l a := ⟨h.size, h.nodef, h.env, h.good, h.bgood, h.fix, h.st.drew 1⟩
  obtain ⟨D', h2, hk, back⟩ := h1.base
  exact hK _ D' hk back h2

end
end Go.Gw

