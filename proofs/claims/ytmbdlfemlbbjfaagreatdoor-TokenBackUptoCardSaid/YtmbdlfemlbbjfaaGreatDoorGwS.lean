/- Errors that are handed back: nil, one of the library's numbered ones, or one of which nothing is told. For any program. -/
import Derived.Test.YtmbdlfemlbbjfaaGreatDoorGwQ
set_option linter.unusedVariables false
set_option linter.unusedSimpArgs false
set_option linter.unnecessarySimpa false
namespace Go.Gw
open Go.RowKit

inductive GErr where
  | nil
  | code (t : TypeId) (n : Int)
  | opq
  deriving DecidableEq
def GErr.isNil : GErr → Bool
  | .nil => true
  | _ => false
def errV : GErr → TypeId × Value → Value
  | .nil, _ => .nilIface
  | .code t n, _ => .iface t (.int .i64 n)
  | .opq, y => .iface y.1 y.2
def errY : TypeId × Value := (0, .nilIface)

section
variable {P : Program} {N : Nat} {w0 : World} {F0 : Heap} {D : Own} {w : World} {F : Heap} {L L' M M' : List SP} {B B' : List (Option Box)} {ρ : Nat → Nat} {l : Env} {a : Act} {o : Oper} {ops : Array Oper} {lit : List Nat} {rest : List Oper} {Q : Exit → Act → World → Prop}

/-- an error held against nil -/
theorem Cx.errNil {T T2 : TypeId} {x y : Operand} {op : BinOp} {e : GErr} {q : TypeId × Value} {b : Bool} (h : Cx N w0 F0 D w F L B ρ l a) (hg : gd ops lit [] l o.guard = some .yes) (hd : fitsB N o.dst = true) (hop : o.op = .binOp op T x y T2) (hb : op = .eql ∧ b = e.isNil ∨ op = .neq ∧ b = !e.isNil)
    (hT : (match P.underlying T with | some (.interface ..) => true | _ => false) = true) (hx : ov l x = some (.v (errV e q))) (hy : y = .const .nilIface)
    (hK : ∀ a', Cx N w0 F0 D w F L B ρ (after l o.dst (.v (.bool b))) a' → wpList P ops Q rest a' w) : wpList P ops Q (o :: rest) a w := by
  refine h.oneOp hg hd (s := .v (.bool b)) (ρ' := ρ) ?_ h trivial rfl hK
  have e1 : a.eval x = errV e q := h.eval hx
  subst hy
  have e2 : a.eval (.const .nilIface) = .nilIface := rfl
  cases hu : P.underlying T with
  | none => rw [hu] at hT; cases hT
  | some d =>
    rw [hu] at hT
    cases d <;> simp only at hT <;> (try cases hT)
    have hq : ∀ d : Nat, (Op.equalIn (d + 1) T (errV e q) .nilIface).run P w = .ok e.isNil w := fun d => by
      cases e <;> simp [Op.equalIn, run_underlying hu, errV, GErr.isNil]
    unfold execOp; rw [hop]
    rcases hb with ⟨rfl, rfl⟩ | ⟨rfl, rfl⟩
    · have : (binOp .eql T (errV e q) .nilIface).run P w = .ok (.bool e.isNil) w := by
        simp only [binOp]
        simp [Op.equal, Op.maxDepth, hq 9999]
      cases e <;> simp only [errV] at e1 this ⊢ <;> simp only [e1, e2, eqGuard, Bool.or_true, if_true, Bool.not_true, Bool.false_eq_true, if_false, Sem.run_bind, this, Result.andThen_ok, Sem.run_pure, SV.den, pure_bind]
    · have : (binOp .neq T (errV e q) .nilIface).run P w = .ok (.bool (!e.isNil)) w := by
        simp only [binOp]
        simp [Op.equal, Op.maxDepth, hq 9999]
      cases e <;> simp only [errV] at e1 this ⊢ <;> simp only [e1, e2, eqGuard, Bool.or_true, if_true, Bool.not_true, Bool.false_eq_true, if_false, Sem.run_bind, this, Result.andThen_ok, Sem.run_pure, SV.den, pure_bind]
/-- a numbered error is made -/
theorem Cx.mkErr {t : TypeId} {x : Operand} {n : Int} (h : Cx N w0 F0 D w F L B ρ l a) (hg : gd ops lit [] l o.guard = some .yes) (hd : fitsB N o.dst = true) (hop : o.op = .makeInterface t x) (ht : P.concrete t = true) (hx : ov l x = some (.v (.int .i64 n)))
    (hK : ∀ a', Cx N w0 F0 D w F L B ρ (after l o.dst (.v (errV (.code t n) errY))) a' → wpList P ops Q rest a' w) : wpList P ops Q (o :: rest) a w := by
  refine h.oneOp hg hd (s := .v (errV (.code t n) errY)) (ρ' := ρ) ?_ h trivial rfl hK
  have e1 : a.eval x = .int .i64 n := h.eval hx
  unfold execOp; rw [hop]
  simp only [e1, Sem.run_bind, run_makeInterface w t _ ht, Result.andThen_ok, Sem.run_pure, SV.den, pure_bind]
  rfl
/-- a slice whose spare room is cut off -/
theorem Cx.clipSl {α : Type} {d : Kind α} {T e : TypeId} {x y z : Operand} {n : Int} {xs : List α} {A : Option Addr} {c : Nat} (h : Cx N w0 F0 D w F L B ρ l a) (hg : gd ops lit [] l o.guard = some .yes) (hd : fitsB N o.dst = true)
    (hop : o.op = .slice T x none (some y) (some z)) (hT : elemB P T = some e) (hs : sizeB P e = some d.sz) (hx : ov l x = some (SV.sl d xs A c)) (hy : ov l y = some (.v (.int .i64 n))) (hz : ov l z = some (.v (.int .i64 n))) (hn : n = (xs.length : Int))
    (hK : ∀ a', Cx N w0 F0 D w F L B ρ (after l o.dst (SV.sl d xs A xs.length)) a' → wpList P ops Q rest a' w) : wpList P ops Q (o :: rest) a w := by
  subst hn
  have e1 : a.eval x = .slice A xs.length c := h.eval hx
  have ey : a.eval y = .int .i64 (xs.length : Int) := h.eval hy
  have ez : a.eval z = .int .i64 (xs.length : Int) := h.eval hz
  obtain ⟨hlc, hrow⟩ : xs.length ≤ c ∧ Row F d A xs := (h.ogood hx).1
  have hA : (if xs.length = 0 then A else A.map (·.add 0)) = A := by
    split
    · rfl
    · cases A <;> simp [Addr.add]
  have h1 : (0 : Int) ≤ (xs.length : Int) := by omega
  have h2 : (xs.length : Int) ≤ (c : Int) := by omega
  refine h.oneOp hg hd (s := SV.sl d xs A xs.length) (ρ' := ρ) ?_ h ⟨Nat.le_refl _, hrow⟩ rfl hK
  have hb : (Instr.sliceBounds true xs.length c none (some (.int .i64 (xs.length : Int))) (some (.int .i64 (xs.length : Int)))).run P w = .ok (0, xs.length, xs.length) w := by
    simp [Instr.sliceBounds, sliceBound_run h1 h2, sliceBound_run h1 (Int.le_refl _)]
  unfold execOp; rw [hop]
  unfold elemB at hT
  cases hu : P.underlying T with
  | none => rw [hu] at hT; cases hT
  | some dd =>
    rw [hu] at hT
    cases dd with
    | slice e' =>
      cases hT
      simp only [Instr.sliceAt, Sem.run_bind, run_underlying hu, Result.andThen_ok, e1, ey, ez, Instr.slice, Option.map_none, Option.map_some, hb, sizeB_run hs, Sem.run_pure, SV.sl, SV.den, pure_bind, Nat.zero_mul, Nat.sub_zero, hA]
    | _ => cases hT
end
end Go.Gw

