/- What the printed texts need: loops as one function, joins, small steps. For any program. -/
import Derived.Test.YtglnkknalibgdaaDoorGwH
set_option linter.unusedVariables false
set_option linter.unusedSimpArgs false
set_option linter.unnecessarySimpa false
namespace Go.Gw
open Go.RowKit
set_option linter.unusedSimpArgs false

def loopN {S E : Type} (step : S → Option (S ⊕ E)) : Nat → S → Option E
  | 0, _ => none
  | n + 1, s => Option.bind (step s) fun o => match o with
    | .inl s' => loopN step n s'
    | .inr e => some e
theorem loopN_more {S E : Type} {step : S → Option (S ⊕ E)} : ∀ {n : Nat} {s : S} {e : E} (m : Nat), loopN step n s = some e → n ≤ m → loopN step m s = some e
  | 0, _, _, _, h, _ => by simp [loopN] at h
  | n + 1, s, e, m, h, hm => by
    obtain ⟨m, rfl⟩ : ∃ k, m = k + 1 := ⟨m - 1, by omega⟩
    simp only [loopN] at h ⊢
    cases hs : step s with
    | none => rw [hs] at h; cases h
    | some o =>
      rw [hs] at h
      simp only [Option.bind_some] at h ⊢
      cases o with
      | inl s' => exact loopN_more m h (by omega)
      | inr e' => exact h
open Classical in
/-- a loop's end, where it has one -/
noncomputable def loopM {S E : Type} (step : S → Option (S ⊕ E)) (s : S) : Option E :=
  if h : ∃ n e, loopN step n s = some e then some (Classical.choose (Classical.choose_spec h)) else none
theorem loopM_some {S E : Type} {step : S → Option (S ⊕ E)} {s : S} {e : E} (h : loopM step s = some e) : ∃ n, loopN step n s = some e := by
  unfold loopM at h
  split at h
  · rename_i hx
    have h2 := Classical.choose_spec (Classical.choose_spec hx)
    rw [Option.some.inj h] at h2
    exact ⟨_, h2⟩
  · cases h
theorem bnd_some {α β : Type} {x : Option α} {f : α → Option β} {r : β} (h : x.bind f = some r) : ∃ y, x = some y ∧ f y = some r := by
  cases x with
  | none => cases h
  | some y => exact ⟨y, rfl, h⟩
theorem ite_tt {α : Type} {b : Bool} {X Y : Option α} {r : α} (h : (if b = true then X else Y) = some r) (hb : b = true) : X = some r := by subst hb; exact h
theorem ite_ff {α : Type} {b : Bool} {X Y : Option α} {r : α} (h : (if b = true then X else Y) = some r) (hb : b = false) : Y = some r := by subst hb; exact h

/-- a number as a byte -/
def toB (n : Int) : Option UInt8 := if 0 ≤ n ∧ n < 256 then some (UInt8.ofNat n.toNat) else none
theorem toB_some {n : Int} {b : UInt8} (h : toB n = some b) : n = (b.toNat : Int) := by
  unfold toB at h
  split at h
  · rename_i hn
    cases h
    have : n.toNat < 256 := by omega
    simp [Nat.mod_eq_of_lt this]
    omega
  · cases h
section
variable {P : Program} {N : Nat} {w0 : World} {F0 : Heap} {D : Own} {w : World} {F : Heap} {L : List SP} {B B' : List (Option Box)} {ρ : Nat → Nat} {l : Env} {a : Act} {o : Oper} {ops : Array Oper} {Q : Exit → Act → World → Prop}

theorem loop_go {S E : Type} {step : S → Option (S ⊕ E)} {body : Code} (I : S → Act → World → Prop) {s0 : S} {e : E} (h : loopM step s0 = some e)
    (hb : ∀ (LW : Act → World → Prop) (s : S) (o : S ⊕ E), step s = some o → (∀ s', o = .inl s' → ∀ a w, I s' a w → LW a w) → (∀ e', o = .inr e' → e' = e) → ∀ a w, I s a w → body.wp P (Exit.then LW Q) a w) :
    ∀ a w, I s0 a w → (Code.loop body).wp P Q a w := by
  intro a w hI
  refine loop_intro (P := P) fun LW hLW => ?_
  have key : ∀ (n : Nat) (s : S) (e' : E), loopN step n s = some e' → e' = e → ∀ a w, I s a w → LW a w := by
    intro n
    induction n with
    | zero => intro s e' he; simp [loopN] at he
    | succ n ih =>
      intro s e' he hee a w hI
      subst hee
      obtain ⟨o, ho, hr⟩ := bnd_some he
      refine hLW a w (hb LW s o ho (fun s' hs' a w hI' => ?_) (fun e'' he'' => ?_) a w hI)
      · subst hs'; exact ih s' e' hr rfl a w hI'
      · subst he''; exact Option.some.inj hr
  obtain ⟨n, hn⟩ := loopM_some h
  exact key n s0 e hn rfl a w hI

theorem out_eq {α : Type} {x o : α} (h : some x = some o) : o = x := (Option.some.inj h).symm
theorem wpList_end (h : Q .normal a w) : wpList P ops Q [] a w := h
theorem Cx.keeps (h : Cx N w0 F0 D w F L B ρ l a) (ks : List Nat) {l' : Env} (e : keep l ks = some l') : Cx N w0 F0 D w F L B ρ l' a := h.pick (keep_picks e)
/-- nothing, told as a slice that is read alone -/
theorem Cx.nilSl (h : Cx N w0 F0 D w F L B ρ l a) (t : Nat) {α : Type} (d : Kind α) (hs : look l t = some (.v (.slice none 0 0))) : Cx N w0 F0 D w F L B ρ ((t, SV.sl d ([] : List α) none 0) :: l) a :=
  h.retell hs rfl (sl_nil d F) rfl
def shlI (k : IntKind) (x y : Int) : Option Int := if y < 0 then none else some (k.wrap (x * 2 ^ (min y.toNat k.bits)))
def shrI (k : IntKind) (x y : Int) : Option Int := if y < 0 then none else some (x.fdiv (2 ^ (min y.toNat k.bits)))
def quoI (k : IntKind) (x y : Int) : Option Int := if y = 0 then none else some (k.wrap (x.tdiv y))
def remI (_ : IntKind) (x y : Int) : Option Int := if y = 0 then none else some (x.tmod y)
def arI : BinOp → IntKind → Int → Int → Option Int
  | .shl, k, x, y => shlI k x y
  | .shr, k, x, y => shrI k x y
  | .quo, k, x, y => quoI k x y
  | .rem, k, x, y => remI k x y
  | _, _, _, _ => none
theorem Cx.arith {lit : List Nat} {rest : List Oper} {op : BinOp} {T T2 : TypeId} {x y : Operand} {k k' : IntKind} {m n r : Int} (h : Cx N w0 F0 D w F L B ρ l a) (hg : gd ops lit [] l o.guard = some .yes) (hd : fitsB N o.dst = true)
    (hop : o.op = .binOp op T x y T2) (hx : ov l x = some (.v (.int k m))) (hy : ov l y = some (.v (.int k' n))) (hk : k = k' ∨ op = .shl ∨ op = .shr) (hr : arI op k m n = some r)
    (hK : ∀ a', Cx N w0 F0 D w F L B ρ (after l o.dst (.v (.int k r))) a' → wpList P ops Q rest a' w) : wpList P ops Q (o :: rest) a w := by
  refine h.oneOp hg hd (s := .v (.int k r)) (ρ' := ρ) ?_ h trivial rfl hK
  have e1 : a.eval x = .int k m := h.eval hx
  have e2 : a.eval y = .int k' n := h.eval hy
  unfold execOp; rw [hop]
  cases op <;> simp only [arI] at hr <;> (try cases hr)
  · unfold quoI at hr
    split at hr
    · cases hr
    · rename_i hn
      cases hr
      have hkk : k = k' := by rcases hk with e | e | e <;> first | exact e | cases e
      subst hkk
      simp only [e1, e2, eqGuard, binOp, Op.intDiv, if_neg hn, ne_eq, not_true_eq_false, if_false, Sem.run_bind, Sem.run_pure, Result.andThen_ok, SV.den, pure_bind, Bool.not_false, if_true]
  · unfold remI at hr
    split at hr
    · cases hr
    · rename_i hn
      cases hr
      have hkk : k = k' := by rcases hk with e | e | e <;> first | exact e | cases e
      subst hkk
      simp only [e1, e2, eqGuard, binOp, Op.intDiv, if_neg hn, ne_eq, not_true_eq_false, if_false, Sem.run_bind, Sem.run_pure, Result.andThen_ok, SV.den, pure_bind, Bool.not_false, if_true]
  · unfold shlI at hr
    split at hr
    · cases hr
    · rename_i hn
      cases hr
      simp only [e1, e2, eqGuard, binOp, Op.shift, if_neg hn, Sem.run_bind, Sem.run_pure, Result.andThen_ok, SV.den, pure_bind, Bool.not_false, if_true]
  · unfold shrI at hr
    split at hr
    · cases hr
    · rename_i hn
      cases hr
      simp only [e1, e2, eqGuard, binOp, Op.shift, if_neg hn, Sem.run_bind, Sem.run_pure, Result.andThen_ok, SV.den, pure_bind, Bool.not_false, if_true]
end
end Go.Gw

