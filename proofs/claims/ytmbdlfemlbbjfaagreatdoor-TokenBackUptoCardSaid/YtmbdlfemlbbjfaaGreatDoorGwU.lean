/- Functions as values. What is frozen within something else. -/
import Derived.Test.YtmbdlfemlbbjfaaGreatDoorGwT
set_option linter.unusedVariables false
set_option linter.unusedSimpArgs false
set_option linter.unnecessarySimpa false
namespace Go.Gw
open Go.RowKit

theorem SV.dens_append (ρ : Nat → Nat) (a b : List SV) : SV.dens ρ (a ++ b) = SV.dens ρ a ++ SV.dens ρ b := by simp [SV.dens_eq]
section
variable {P : Program} {N : Nat} {w0 : World} {F0 : Heap} {D : Own} {w : World} {F : Heap} {L M : List SP} {B B' : List (Option Box)} {ρ : Nat → Nat} {l : Env} {a : Act} {o : Oper} {ops : Array Oper} {lit : List Nat} {rest : List Oper} {Q : Exit → Act → World → Prop}

/-- a variable that never changes any more -/
theorem Cx.boxF {T : TypeId} {x : Operand} {s : SV} {cs : List SV} (h : Cx N w0 F0 D w F L B ρ l a) (hg : gd ops lit [] l o.guard = some .yes) (hd : fitsB N o.dst = true) (hop : o.op = .box T x) (hx : ov l x = some s) (hc : s.cells = some cs) (hp : (SV.plains cs).isSome = true)
    (hK : ∀ F' b w' a', Cx N w0 F0 D w' F' L B ρ (after l o.dst (.el b 0 cs)) a' → wpList P ops Q rest a' w') : wpList P ops Q (o :: rest) a w := by
  obtain ⟨vs, hp⟩ := Option.isSome_iff_exists.1 hp
  have hden : (a.eval x).cells = vs.toArray := by
    have e1 := SV.cells_den ρ hc
    rw [← h.eval hx, SV.plains_dens ρ hp] at e1
    rw [← e1]
  obtain ⟨hgood, hund⟩ := SV.cells_ok hc (h.ogood hx).1 (h.ogood hx).2
  have hF : F w.heap.size = none := h.st.view.free (Nat.le_refl _)
  have h1 := h.st.allocF (.cells vs.toArray T (0, 0))
  have h2 := h.world (Heap.join_le_left _ _) h1
  have hobj : (F.join (Heap.one w.heap.size (.cells vs.toArray T (0, 0)))) w.heap.size = some (.cells vs.toArray T (0, 0)) := Heap.join_right (Heap.apart_one.2 hF) (Heap.one_self _ _)
  refine h.oneOp (s := .el w.heap.size 0 cs) (ρ' := ρ) hg hd ?_ h2 ?_ (by simpa [SV.under] using hund) (fun a' h' => hK _ _ _ a' h')
  · unfold execOp; rw [hop]
    simp only [Instr.box, Sem.run_bind, newVar_run, Result.andThen_ok, SV.den, hden]
    rfl
  · simp only [SV.good]
    exact ⟨SV.goods_mono (Heap.join_le_left _ _) hgood, vs, hp, fun j v e => ⟨_, _, _, hobj, by simpa using e⟩⟩

/-! ### in a draw, behind a call: what needs nothing of the world -/
mutual
def SV.bare : SV → SV
  | .p _ x => .v x
  | .el b off _ => .v (.pointer (some ⟨b, off, none⟩))
  | .agg l => .agg (SV.bares l)
  | .tup l => .tup (SV.bares l)
  | .fn f l => .fn f (SV.bares l)
  | .v x => .v x
  | .ptr k o => .ptr k o
  | .slc k o n c => .slc k o n c
  | .opt q k o => .opt q k o
def SV.bares : List SV → List SV
  | [] => []
  | s :: l => s.bare :: SV.bares l
end
mutual
theorem SV.bare_den (ρ : Nat → Nat) : ∀ s : SV, s.bare.den ρ = s.den ρ
  | .p _ _ => rfl
  | .el .. => rfl
  | .agg l => by simp only [SV.bare, SV.den, SV.bares_dens ρ l]
  | .tup l => by simp only [SV.bare, SV.den, SV.bares_dens ρ l]
  | .fn _ l => by simp only [SV.bare, SV.den, SV.bares_dens ρ l]
  | .v _ => rfl
  | .ptr .. => rfl
  | .slc .. => rfl
  | .opt .. => rfl
theorem SV.bares_dens (ρ : Nat → Nat) : ∀ l : List SV, SV.dens ρ (SV.bares l) = SV.dens ρ l
  | [] => rfl
  | s :: l => by simp only [SV.bares, SV.dens, SV.bare_den ρ s, SV.bares_dens ρ l]
end
mutual
theorem SV.bare_good (F : Heap) : ∀ s : SV, s.bare.good F
  | .p _ _ => trivial
  | .el .. => trivial
  | .agg l => by simp only [SV.bare, SV.good]; exact SV.bares_good F l
  | .tup l => by simp only [SV.bare, SV.good]; exact SV.bares_good F l
  | .fn _ l => by simp only [SV.bare, SV.good]; exact SV.bares_good F l
  | .v _ => trivial
  | .ptr .. => trivial
  | .slc .. => trivial
  | .opt .. => trivial
theorem SV.bares_good (F : Heap) : ∀ l : List SV, SV.goods F (SV.bares l)
  | [] => trivial
  | s :: l => ⟨SV.bare_good F s, SV.bares_good F l⟩
end
mutual
theorem SV.bare_under {n : Nat} : ∀ {s : SV}, s.under n = true → s.bare.under n = true
  | .p _ _, _ => rfl
  | .el .., _ => rfl
  | .agg l, h => by simp only [SV.bare, SV.under] at h ⊢; exact SV.bares_unders h
  | .tup l, h => by simp only [SV.bare, SV.under] at h ⊢; exact SV.bares_unders h
  | .fn _ l, h => by simp only [SV.bare, SV.under] at h ⊢; exact SV.bares_unders h
  | .v _, _ => rfl
  | .ptr .., h => h
  | .slc .., h => h
  | .opt .., h => h
theorem SV.bares_unders {n : Nat} : ∀ {l : List SV}, SV.unders n l = true → SV.unders n (SV.bares l) = true
  | [], _ => rfl
  | s :: l, h => by
    simp only [SV.unders, Bool.and_eq_true] at h
    simp only [SV.bares, SV.unders, SV.bare_under h.1, SV.bares_unders h.2, Bool.and_self]
end
def bareEnv : Env → Env
  | [] => []
  | (t, s) :: l => (t, s.bare) :: bareEnv l
theorem look_bare (t : Nat) : ∀ l : Env, look (bareEnv l) t = (look l t).map SV.bare
  | [] => rfl
  | (t', s) :: l => by
    simp only [bareEnv, look]
    rw [look_bare t l]
    cases Nat.beq t' t <;> rfl
theorem Cx.bare (h : Cx N w0 F0 D w F L B ρ l a) (w' : World) : Cx N w' Heap.nil No w' Heap.nil [] (nones B.length) ρ (bareEnv l) a := by
  refine ⟨h.size, h.nodef, fun t s e => ?_, fun t s e => ?_, fun b hb => (nones_mem hb).elim, fun k b e => by simp [No] at e, ?_⟩
  · rw [look_bare] at e
    obtain ⟨s0, h1, rfl⟩ := Option.map_eq_some_iff.1 e
    rw [SV.bare_den]; exact h.env t s0 h1
  · rw [look_bare] at e
    obtain ⟨s0, h1, rfl⟩ := Option.map_eq_some_iff.1 e
    rw [nones_length]
    exact ⟨SV.bare_good _ _, SV.bare_under (h.good t s0 h1).2⟩
  · rw [List.append_nil]
    exact ⟨rfl, rfl, rfl, Nat.le_refl _, fun _ _ _ => rfl, .refl _, fun _ _ _ => rfl, ⟨fun _ _ e => by cases e⟩, Heap.nil, all_nones _ ρ _ _, ⟨fun _ _ e => by cases e⟩, ⟨fun _ => .inr rfl⟩, fun _ _ e => by cases e⟩
theorem Cx.takeS {S : World → Prop} {s : SV} {n : Nat} {listed listed' : Array Bool} {lit : List Nat} (h : Cx N w0 F0 D w F L B ρ l a) (i : Nat) (ho : ops[i]? = some o) (hg : gd ops lit [] l o.guard = some .yes) (hck : takeOk ops listed listed' i = true) (hd : fitsB N o.dst = true)
    (hS : S w) (hrun : ∀ w', S w' → (execOp a.eval o).run P w' = .ok (.value (s.den ρ)) w') (hgood : s.good F) (hu : s.under B.length = true)
    (hK : ∀ a', Cx N w0 F0 D w F L B ρ (after l o.dst s) a' → wpAnyH P .any ops (NoPanic Q) S n listed' a' w) : wpAnyH P .any ops (NoPanic Q) S (n + 1) listed a w := by
  unfold takeOk at hck
  simp only [Bool.and_eq_true, beq_iff_eq] at hck
  obtain ⟨⟨⟨h1, h2⟩, h3⟩, h4⟩ := hck
  subst h4
  exact wpAnyH_take (S := S) ho h1 h2 h3 (fun c a w hh => hh) (.inl ⟨gd_ok (Lx.start h) hg, hrun⟩) hS (hK _ (h.put' hd hgood hu))
theorem Cx.skipS {S : World → Prop} {n : Nat} {listed listed' : Array Bool} {lit : List Nat} (h : Cx N w0 F0 D w F L B ρ l a) (i : Nat) (ho : ops[i]? = some o) (hg : gd ops lit [] l o.guard = some .no) (hck : takeOk ops listed listed' i = true) (hd : fitsB N o.dst = true) (hS : S w)
    (hK : ∀ a', Cx N w0 F0 D w F L B ρ (after l o.dst (.v undef)) a' → wpAnyH P .any ops (NoPanic Q) S n listed' a' w) : wpAnyH P .any ops (NoPanic Q) S (n + 1) listed a w := by
  unfold takeOk at hck
  simp only [Bool.and_eq_true, beq_iff_eq] at hck
  obtain ⟨⟨⟨h1, h2⟩, h3⟩, h4⟩ := hck
  subst h4
  exact wpAnyH_take (S := S) ho h1 h2 h3 (fun c a w hh => hh) (.inr ⟨gd_ok (Lx.start h) hg, rfl⟩) hS (hK _ (h.put' (s := .v undef) hd trivial rfl))
/-- what is moved -/
theorem Cx.moveS {S : World → Prop} {x : Operand} {s : SV} {n : Nat} {listed listed' : Array Bool} {lit : List Nat} (h : Cx N w0 F0 D w F L B ρ l a) (i : Nat) (ho : ops[i]? = some o) (hg : gd ops lit [] l o.guard = some .yes) (hck : takeOk ops listed listed' i = true) (hd : fitsB N o.dst = true)
    (hS : S w) (hop : o.op = .move x ∨ o.op = .assign x) (hx : ov l x = some s)
    (hK : ∀ a', Cx N w0 F0 D w F L B ρ (after l o.dst s) a' → wpAnyH P .any ops (NoPanic Q) S n listed' a' w) : wpAnyH P .any ops (NoPanic Q) S (n + 1) listed a w := by
  refine h.takeS (s := s) i ho hg hck hd hS (fun w' _ => ?_) (h.ogood hx).1 (h.ogood hx).2 hK
  have e1 : a.eval x = s.den ρ := h.eval hx
  unfold execOp
  rcases hop with hop | hop <;> (rw [hop]; simp only [e1, Sem.run_pure])
/-- what is reckoned of what needs nothing of the world -/
theorem Cx.quietS {S : World → Prop} {s : SV} {n : Nat} {listed listed' : Array Bool} {lit : List Nat} (h : Cx N w0 F0 D w F L B ρ l a) (i : Nat) (ho : ops[i]? = some o) (hg : gd ops lit [] l o.guard = some .yes) (hck : takeOk ops listed listed' i = true) (hd : fitsB N o.dst = true)
    (hS : S w) (hq : quiet P (bareEnv l) (nones B.length) o = some s)
    (hK : ∀ a', Cx N w0 F0 D w F L B ρ (after l o.dst s) a' → wpAnyH P .any ops (NoPanic Q) S n listed' a' w) : wpAnyH P .any ops (NoPanic Q) S (n + 1) listed a w := by
  have key := fun w' => quiet_ok (P := P) (h.bare w') hq
  refine h.takeS (s := s) i ho hg hck hd hS (fun w' _ => (key w').1) (SV.good_mono ⟨fun _ _ e => by cases e⟩ (key w).2.1) ?_ hK
  have := (key w).2.2; rwa [nones_length] at this
end
end Go.Gw

