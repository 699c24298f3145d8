/- Functions as values. What is frozen within something else. -/
import Derived.Test.YtglnkknalibgdaaDoorGwT
set_option linter.unusedVariables false
set_option linter.unusedSimpArgs false
set_option linter.unnecessarySimpa false
namespace Go.Gw
open Go.RowKit

theorem SV.dens_append (ρ : Nat → Nat) (a b : List SV) : SV.dens ρ (a ++ b) = SV.dens ρ a ++ SV.dens ρ b := by simp [SV.dens_eq]
section
variable {P : Program} {N : Nat} {w0 : World} {F0 : Heap} {D : Own} {w : World} {F : Heap} {L M : List SP} {B B' : List (Option Box)} {ρ : Nat → Nat} {l : Env} {a : Act} {o : Oper} {ops : Array Oper} {lit : List Nat} {rest : List Oper} {Q : Exit → Act → World → Prop}

theorem call_runV {f : FuncId} {x : Operand} {caps : Array Value} {xs : Array Operand} {ts : Array TypeId} (hop : o.op = .call { callee := .value x, args := xs, argTypes := ts }) (hx : a.eval x = .func (.func f) #[] caps) (hc : Callable P f) :
    (execOp a.eval o).run P w = .ok (.enter f (xs.map a.eval ++ caps)) w := by
  unfold execOp
  rw [hop]
  simp only [resolve, hx, Sem.run_bind, Deferred.ofValue, Sem.run_pure, Result.andThen_ok, invoke, Array.empty_append]
  exact hc.run _ w
/-! ### in a draw, behind a call: what needs nothing of the world -/
mutual
def SV.bare : SV → SV
  | .p _ x => .v x
  | .el b off _ => .v (.pointer (some ⟨b, off, none⟩))
  | .agg l => .agg (SV.bares l)
  | .tup l => .tup (SV.bares l)
  | .fn f l => .fn f (SV.bares l)
  | .v x => .v x
  | .ptr k o => .ptr k o
  | .slc k o n c => .slc k o n c
  | .opt q k o => .opt q k o
def SV.bares : List SV → List SV
  | [] => []
  | s :: l => s.bare :: SV.bares l
end
mutual
theorem SV.bare_den (ρ : Nat → Nat) : ∀ s : SV, s.bare.den ρ = s.den ρ
  | .p _ _ => rfl
  | .el .. => rfl
  | .agg l => by simp only [SV.bare, SV.den, SV.bares_dens ρ l]
  | .tup l => by simp only [SV.bare, SV.den, SV.bares_dens ρ l]
  | .fn _ l => by simp only [SV.bare, SV.den, SV.bares_dens ρ l]
  | .v _ => rfl
  | .ptr .. => rfl
  | .slc .. => rfl
  | .opt .. => rfl
theorem SV.bares_dens (ρ : Nat → Nat) : ∀ l : List SV, SV.dens ρ (SV.bares l) = SV.dens ρ l
  | [] => rfl
  | s :: l => by simp only [SV.bares, SV.dens, SV.bare_den ρ s, SV.bares_dens ρ l]
end
mutual
theorem SV.bare_good (F : Heap) : ∀ s : SV, s.bare.good F
  | .p _ _ => trivial
  | .el .. => trivial
  | .agg l => by simp only [SV.bare, SV.good]; exact SV.bares_good F l
  | .tup l => by simp only [SV.bare, SV.good]; exact SV.bares_good F l
  | .fn _ l => by simp only [SV.bare, SV.good]; exact SV.bares_good F l
  | .v _ => trivial
  | .ptr .. => trivial
  | .slc .. => trivial
  | .opt .. => trivial
theorem SV.bares_good (F : Heap) : ∀ l : List SV, SV.goods F (SV.bares l)
  | [] => trivial
  | s :: l => ⟨SV.bare_good F s, SV.bares_good F l⟩
end
mutual
theorem SV.bare_under {n : Nat} : ∀ {s : SV}, s.under n = true → s.bare.under n = true
  | .p _ _, _ => rfl
  | .el .., _ => rfl
  | .agg l, h => by simp only [SV.bare, SV.under] at h ⊢; exact SV.bares_unders h
  | .tup l, h => by simp only [SV.bare, SV.under] at h ⊢; exact SV.bares_unders h
  | .fn _ l, h => by simp only [SV.bare, SV.under] at h ⊢; exact SV.bares_unders h
  | .v _, _ => rfl
  | .ptr .., h => h
  | .slc .., h => h
  | .opt .., h => h
theorem SV.bares_unders {n : Nat} : ∀ {l : List SV}, SV.unders n l = true → SV.unders n (SV.bares l) = true
  | [], _ => rfl
  | s :: l, h => by
    simp only [SV.unders, Bool.and_eq_true] at h
    simp only [SV.bares, SV.unders, SV.bare_under h.1, SV.bares_unders h.2, Bool.and_self]
end
def bareEnv : Env → Env
  | [] => []
  | (t, s) :: l => (t, s.bare) :: bareEnv l
theorem look_bare (t : Nat) : ∀ l : Env, look (bareEnv l) t = (look l t).map SV.bare
  | [] => rfl
  | (t', s) :: l => by
    simp only [bareEnv, look]
    rw [look_bare t l]
    cases Nat.beq t' t <;> rfl
theorem Cx.bare (h : Cx N w0 F0 D w F L B ρ l a) (w' : World) : Cx N w' Heap.nil No w' Heap.nil [] (nones B.length) ρ (bareEnv l) a := by
  refine ⟨h.size, h.nodef, fun t s e => ?_, fun t s e => ?_, fun b hb => (nones_mem hb).elim, fun k b e => by simp [No] at e, ?_⟩
  · rw [look_bare] at e
    obtain ⟨s0, h1, rfl⟩ := Option.map_eq_some_iff.1 e
    rw [SV.bare_den]; exact h.env t s0 h1
  · rw [look_bare] at e
    obtain ⟨s0, h1, rfl⟩ := Option.map_eq_some_iff.1 e
    rw [nones_length]
    exact ⟨SV.bare_good _ _, SV.bare_under (h.good t s0 h1).2⟩
  · rw [List.append_nil]
    exact ⟨rfl, rfl, rfl, Nat.le_refl _, fun _ _ _ => rfl, .refl _, fun _ _ _ => rfl, ⟨fun _ _ e => by cases e⟩, Heap.nil, all_nones _ ρ _ _, ⟨fun _ _ e => by cases e⟩, ⟨fun _ => .inr rfl⟩, fun _ _ e => by cases e⟩
end
end Go.Gw

