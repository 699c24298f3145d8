/- Slices that a call makes whole; arrays; addresses. For any program. -/
import Derived.Test.YtmbdlfemlbbjfaaGreatDoorGwM
import Derived.Laws.MakeOwn
import Derived.Lib.Builder
import Derived.Laws.Externs
set_option linter.unusedVariables false
set_option linter.unusedSimpArgs false
set_option linter.unnecessarySimpa false
namespace Go.Gw
open Go.RowKit

def zeroCells (P : Program) (e : TypeId) : Option (List Value) := match P.info? e with
  | some i => (match i.zero with | some z => some z.cells.toList | none => none)
  | none => none
section
variable {P : Program} {N : Nat} {w0 : World} {F0 : Heap} {D : Own} {w : World} {F : Heap} {L L' M M' : List SP} {B B' : List (Option Box)} {ρ : Nat → Nat} {l : Env} {a : Act} {o : Oper} {ops : Array Oper} {lit : List Nat} {rest : List Oper} {Q : Exit → Act → World → Prop}

/-- an address told as one without a type, and back -/
theorem Cx.shape (h : Cx N w0 F0 D w F L B ρ l a) {k : Nat} {e : TypeId} {cells : List SV} (hB : B[k]? = some (some ⟨e, cells⟩)) : w.shape? (ρ k) = some (e, cells.length) := by
  have h1 := h.box hB
  unfold World.shape?
  simp only at h1
  rw [h1]
  simp [dens_length]
theorem Cx.toUns {S T t e : TypeId} {x : Operand} {k off : Nat} {cells : List SV} (h : Cx N w0 F0 D w F L B ρ l a) (hg : gd ops lit [] l o.guard = some .yes) (hd : fitsB N o.dst = true) (hop : o.op = .convert S T x) (hS : P.underlying S = some (.pointer t)) (hT : P.underlying T = some .unsafePointer)
    (hsz : (sizeB P t).any (fun n => !(Nat.beq n 0)) = true) (hx : ov l x = some (.ptr k off)) (hB : B[k]? = some (some ⟨e, cells⟩)) (hoff : Nat.blt off cells.length = true)
    (hK : ∀ a', Cx N w0 F0 D w F L B ρ (after l o.dst (.ptr k off)) a' → wpList P ops Q rest a' w) : wpList P ops Q (o :: rest) a w := by
  have e1 : a.eval x = .pointer (some ⟨ρ k, off, none⟩) := h.eval hx
  refine h.oneOp hg hd (s := .ptr k off) (ρ' := ρ) ?_ h trivial (h.ogood hx).2 hK
  unfold sizeB at hsz
  cases hi : P.info? t with
  | none => rw [hi] at hsz; cases hsz
  | some j =>
    rw [hi] at hsz
    have hj : j.size ≠ 0 := by intro e0; simp [e0] at hsz
    have := Lib.run_to_unsafe (P := P) w ⟨ρ k, off, none⟩ hS hT hi hj (h.shape hB) (Nat.le_of_ble_eq_true hoff)
    unfold execOp; rw [hop]
    simp only [e1, Sem.run_bind, this, Result.andThen_ok, Sem.run_pure, SV.den, pure_bind]
theorem Cx.fromUns {S T t e : TypeId} {x : Operand} {k off : Nat} {cells : List SV} (h : Cx N w0 F0 D w F L B ρ l a) (hg : gd ops lit [] l o.guard = some .yes) (hd : fitsB N o.dst = true) (hop : o.op = .convert S T x) (hS : P.underlying S = some .unsafePointer) (hT : P.underlying T = some (.pointer t))
    (hi : (P.info? t).isSome = true) (hx : ov l x = some (.ptr k off)) (hB : B[k]? = some (some ⟨e, cells⟩)) (hlies : liesAt P P.depth e (cells.length / P.cellsOf e) off t 1 = true)
    (hK : ∀ a', Cx N w0 F0 D w F L B ρ (after l o.dst (.ptr k off)) a' → wpList P ops Q rest a' w) : wpList P ops Q (o :: rest) a w := by
  have e1 : a.eval x = .pointer (some ⟨ρ k, off, none⟩) := h.eval hx
  refine h.oneOp hg hd (s := .ptr k off) (ρ' := ρ) ?_ h trivial (h.ogood hx).2 hK
  obtain ⟨j, hj⟩ := Option.isSome_iff_exists.1 hi
  have := Lib.run_from_unsafe (P := P) w ⟨ρ k, off, none⟩ hS hT hj (h.shape hB) hlies
  unfold execOp; rw [hop]
  simp only [e1, Sem.run_bind, this, Result.andThen_ok, Sem.run_pure, SV.den, pure_bind]
theorem Cx.noEsc {f : FuncId} {fn : Func} {xs : Array Operand} {x : Operand} {ts : Array TypeId} {s : SV} (h : Cx N w0 F0 D w F L B ρ l a) (hg : gd ops lit [] l o.guard = some .yes) (hd : fitsB N o.dst = true) (hop : o.op = .call { callee := .value (.func f), args := xs, argTypes := ts }) (hxs : xs = #[x])
    (hf : P.funcs[f]? = some fn) (h1 : (fn.name == "runtime.NumGoroutine") = false) (h2 : fn.body.isNone = true) (h3 : Extern.findNext fn = none) (h4 : Extern.find fn = some Extern.AbiNoEscape.same) (hx : ov l x = some s)
    (hK : ∀ a', Cx N w0 F0 D w F L B ρ (after l o.dst s) a' → wpList P ops Q rest a' w) : wpList P ops Q (o :: rest) a w := by
  subst hxs
  refine h.oneOp hg hd (s := s) (ρ' := ρ) ?_ h (h.ogood hx).1 (h.ogood hx).2 hK
  have e1 := h.eval hx
  have hr := run_callFunc_extern hf h1 h2 h3 h4 #[a.eval x] w
  rw [Lib.run_noEscape] at hr
  unfold execOp
  rw [hop]
  simp only [resolve, Sem.run_bind, Act.eval, Deferred.ofValue, Sem.run_pure, Result.andThen_ok, invoke, Array.empty_append, Array.append_empty]
  have hm : Array.map a.eval #[x] = #[a.eval x] := by simp
  rw [hm]
  refine Eq.trans hr ?_
  rw [e1]; rfl
/-- an address held against nil, or against itself -/
theorem Cx.ptrNil {T T2 t : TypeId} {x y : Operand} {s : SV} {q : Option Addr} (h : Cx N w0 F0 D w F L B ρ l a) (hg : gd ops lit [] l o.guard = some .yes) (hd : fitsB N o.dst = true) (hop : o.op = .binOp .eql T x y T2) (hT : P.underlying T = some (.pointer t))
    (hx : ov l x = some s) (hs : s.den ρ = .pointer q) (hy : ov l y = some (.v (.pointer none)))
    (hK : ∀ a', Cx N w0 F0 D w F L B ρ (after l o.dst (.v (.bool q.isNone))) a' → wpList P ops Q rest a' w) : wpList P ops Q (o :: rest) a w := by
  refine h.oneOp hg hd (s := .v (.bool q.isNone)) (ρ' := ρ) ?_ h trivial rfl hK
  have e1 := h.eval hx
  rw [hs] at e1
  have e2 : a.eval y = .pointer none := h.eval hy
  have hq : ∀ d : Nat, (Op.equalIn (d + 1) T (.pointer q) (.pointer none)).run P w = .ok q.isNone w := fun d => by
    cases q <;> simp [Op.equalIn, run_underlying hT]
  unfold execOp; rw [hop]
  have : (binOp .eql T (.pointer q) (.pointer none)).run P w = .ok (.bool q.isNone) w := by
    simp only [binOp]
    simp [Op.equal, Op.maxDepth, hq 9999]
  simp only [e1, e2, eqGuard, Bool.not_true, Bool.false_eq_true, if_false, Sem.run_bind, this, Result.andThen_ok, Sem.run_pure, SV.den, pure_bind]
theorem Cx.ptrSelf {T T2 t : TypeId} {x y : Operand} {s s2 : SV} {p : Addr} (h : Cx N w0 F0 D w F L B ρ l a) (hg : gd ops lit [] l o.guard = some .yes) (hd : fitsB N o.dst = true) (hop : o.op = .binOp .neq T x y T2) (hT : P.underlying T = some (.pointer t)) (hi : (P.info? t).isSome = true)
    (hx : ov l x = some s) (hs : s.den ρ = .pointer (some p)) (hy : ov l y = some s2) (hs2 : s2.den ρ = .pointer (some p))
    (hK : ∀ a', Cx N w0 F0 D w F L B ρ (after l o.dst (.v (.bool false))) a' → wpList P ops Q rest a' w) : wpList P ops Q (o :: rest) a w := by
  refine h.oneOp hg hd (s := .v (.bool false)) (ρ' := ρ) ?_ h trivial rfl hK
  have e1 := h.eval hx
  rw [hs] at e1
  have e2 := h.eval hy
  rw [hs2] at e2
  obtain ⟨j, hj⟩ := Option.isSome_iff_exists.1 hi
  have := Lib.run_neq_ptr_same (P := P) w p hT hj
  unfold execOp; rw [hop]
  simp only [e1, e2, eqGuard, Bool.not_true, Bool.false_eq_true, if_false, Sem.run_bind, this, Result.andThen_ok, Sem.run_pure, SV.den, pure_bind]
end
theorem No.unfix {n : Nat} {ρ : Nat → Nat} : ∀ k b, No.known[k]? = some b → k < n ∧ ρ k = b := fun k b e => by simp [No] at e
end Go.Gw

