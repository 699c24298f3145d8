/- Orders that are open; arrays' elements; tables; variables known by number. For any program. -/
import Derived.Test.YtglnkknalibgdaaDoorGwO
set_option linter.unusedVariables false
set_option linter.unusedSimpArgs false
set_option linter.unnecessarySimpa false
namespace Go.Gw
open Go.RowKit

def arrI {α : Type} (m : Nat) (xs : List α) (i : Int) : Option α := if xs.length = m then getI xs i else none
theorem arrI_some {α : Type} {m : Nat} {xs : List α} {i : Int} {v : α} (h : arrI m xs i = some v) : xs.length = m ∧ getI xs i = some v := by
  unfold arrI at h; split at h
  · exact ⟨by assumption, h⟩
  · cases h
def cutA {α : Type} (m : Nat) (xs : List α) (lo hi : Int) : Option (List α) := if xs.length = m then cutL xs lo hi else none
theorem cutA_some {α : Type} {m : Nat} {xs : List α} {lo hi : Int} {v : List α} (h : cutA m xs lo hi = some v) : xs.length = m ∧ cutL xs lo hi = some v := by
  unfold cutA at h; split at h
  · exact ⟨by assumption, h⟩
  · cases h
theorem fix2 {D : Own} {ρ : Nat → Nat} (hD : D.known = [ρ 0, ρ 1]) : ∀ k b, D.known[k]? = some b → k < (nones 2).length ∧ ρ k = b := by
  intro k b e; rw [hD] at e
  match k, e with
  | 0, e => exact ⟨by decide, Option.some.inj e⟩
  | 1, e => exact ⟨by decide, Option.some.inj e⟩
  | k + 2, e => simp at e

section
variable {P : Program} {N : Nat} {w0 : World} {F0 : Heap} {D : Own} {w : World} {F : Heap} {L L' M M' : List SP} {B B' : List (Option Box)} {ρ : Nat → Nat} {l : Env} {a : Act} {o : Oper} {ops : Array Oper} {lit : List Nat} {rest : List Oper} {Q : Exit → Act → World → Prop}

/-- a table of the program's, read at a place that is known -/
theorem Cx.globAt {T : TypeId} {x j : Operand} {g n : Nat} {k : IntKind} {v : Value} (h : Cx N w0 F0 D w F L B ρ l a) (hg : gd ops lit [] l o.guard = some .yes) (hd : fitsB N o.dst = true)
    (hop : o.op = .indexAddr T x j) (hT : (arrB P T).any (fun p => Nat.blt n p.1 && (match sizeB P p.2 with | some s => Nat.beq s 1 | none => false)) = true) (hx : ov l x = some (.v (.pointer (some ⟨g, 0, none⟩)))) (hj : ov l j = some (.v (.int k n))) (hv : cellF F g n v)
    (hK : ∀ a', Cx N w0 F0 D w F L B ρ (after l o.dst (.el g n [.v v])) a' → wpList P ops Q rest a' w) : wpList P ops Q (o :: rest) a w := by
  have e1 : a.eval x = .pointer (some ⟨g, 0, none⟩) := h.eval hx
  have e2 : a.eval j = .int k n := h.eval hj
  cases hA : arrB P T with
  | none => rw [hA] at hT; cases hT
  | some p =>
    obtain ⟨m', e'⟩ := p
    rw [hA] at hT
    simp only [Option.any_some, Bool.and_eq_true] at hT
    obtain ⟨h1, h2⟩ := hT
    have h1 : n < m' := Nat.le_of_ble_eq_true h1
    have hs : sizeB P e' = some 1 := by
      cases hs : sizeB P e' with
      | none => rw [hs] at h2; cases h2
      | some s => rw [hs] at h2; rw [Nat.eq_of_beq_eq_true h2]
    refine h.oneOp hg hd (s := .el g n [.v v]) (ρ' := ρ) ?_ h ⟨⟨trivial, trivial⟩, [v], rfl, fun q u hq => ?_⟩ rfl hK
    · have hu := arrB_under hA
      have hin : 0 ≤ (n : Int) ∧ (n : Int) < (m' : Int) := ⟨by omega, by omega⟩
      unfold execOp; rw [hop]
      simp only [Instr.indexAt, e1, e2, asIntOf, Instr.sureAddr, Sem.run_bind, Sem.run_pure, Result.andThen_ok, run_underlying hu, hin, and_self, if_true, sizeB_run hs, SV.den, add_at, pure_bind, Nat.zero_add, Int.toNat_natCast, Nat.mul_one]
    · cases q with
      | zero => cases hq; exact hv
      | succ q => simp at hq
end
end Go.Gw

