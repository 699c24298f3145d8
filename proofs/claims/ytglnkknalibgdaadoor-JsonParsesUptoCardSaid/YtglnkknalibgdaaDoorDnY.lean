/- Shapes; arrays of nothing told as arrays of the call's own. For any program. -/
import Derived.Test.YtglnkknalibgdaaDoorDnJ
set_option linter.unusedVariables false
set_option linter.unusedSimpArgs false
set_option linter.unnecessarySimpa false
namespace Go.Dn
open Go.Gw Go.RowKit
set_option linter.unusedSectionVars false
variable [Dfr]
set_option linter.unusedSimpArgs false

section
variable {T : Nat → Type}
def Sy.nilS (s : Sy T) (t e : Nat) : Sy T := match lookA s.l t with
  | some (.v (.slice none 0 0)) => ⟨(t, .own s.m.length) :: s.l, s.m ++ [Mem.arr e []]⟩
  | _ => s
def Sy.nilC (s : Sy T) (j i e : Nat) : Sy T := match s.m[j]? with
  | some (.cells ty cs) => (match cs[i]? with
    | some (.v (.slice none 0 0)) => ⟨s.l, (s.m ++ [Mem.arr e []]).set j (.cells ty (cs.set i (.own s.m.length)))⟩
    | _ => s)
  | _ => s
inductive Ev where
  | pr (k j : Nat)
  | nS (t k : Nat)
  | nC (j i k : Nat)
mutual
def evP (on : Nat → List Ev) : Pat → AV T → List Ev
  | .own k, a => match a with
    | .own j => [.pr k j]
    | .v (.slice none 0 0) => on k
    | _ => []
  | .ptr k _, a => match a with
    | .ptr j _ => [.pr k j]
    | _ => []
  | .agg ps, a => match a with
    | .agg as => evL ps as
    | _ => []
  | .tup ps, a => match a with
    | .tup as => evL ps as
    | _ => []
  | .fn _ ps, a => match a with
    | .fn _ as => evL ps as
    | _ => []
  | .el ps, a => match a with
    | .el as => evL ps as
    | _ => []
  | _, _ => []
def evL : List Pat → List (AV T) → List Ev
  | p :: ps, a :: as => evP (fun _ => []) p a ++ evL ps as
  | _, _ => []
end
def evC (j : Nat) : Nat → List Pat → List (AV T) → List Ev
  | i, p :: ps, a :: as => evP (fun k => [.nC j i k]) p a ++ evC j (i + 1) ps as
  | _, _, _ => []
def evS : List (Nat × Pat) → List (AV T) → List Ev
  | (t, p) :: ps, a :: as => evP (fun k => [.nS t k]) p a ++ evS ps as
  | _, _ => []
def evK : List (Nat × Pat) → List (AV T) → List Ev
  | (_, p) :: ps, a :: as => evP (fun _ => []) p a ++ evK ps as
  | _, _ => []
def look2 : List (Nat × Nat) → Nat → Option Nat
  | [], _ => none
  | (k, j) :: r, x => bif Nat.beq k x then some j else look2 r x
def tie (σ : List MPat) (m : List (Mem T)) : Nat → List Ev → List (Nat × Nat) → List Ev → List (Nat × Nat) × List Ev
  | 0, _, acc, ne => (acc, ne)
  | _ + 1, [], acc, ne => (acc, ne)
  | n + 1, .pr k j :: todo, acc, ne => match look2 acc k with
    | some _ => tie σ m n todo acc ne
    | none => tie σ m n ((match σ[k]?, m[j]? with
      | some (.cells _ ps), some (.cells _ as) => evC j 0 ps as
      | _, _ => []) ++ todo) ((k, j) :: acc) ne
  | n + 1, e :: todo, acc, ne => tie σ m n todo acc (e :: ne)
def pre : Nat → List Ev → List Ev
  | 0, r => r
  | n + 1, r => pre n (.pr n n :: r)
def lay (σ : List MPat) : List Ev → Sy T → List (Nat × Nat) → Sy T × List (Nat × Nat)
  | [], s, acc => (s, acc)
  | .pr _ _ :: r, s, acc => lay σ r s acc
  | .nS t k :: r, s, acc => match σ[k]? with
    | some (.arr e) => lay σ r (s.nilS t e) ((k, s.m.length) :: acc)
    | _ => lay σ r s acc
  | .nC j i k :: r, s, acc => match σ[k]? with
    | some (.arr e) => lay σ r (s.nilC j i e) ((k, s.m.length) :: acc)
    | _ => lay σ r s acc
end

section
variable {Y : Tys} {hY : TysOk Y} {P : Program} {N : Nat} {w0 : World} {F0 : Heap} {D : Own} {H : List (Option Nat)} {w w' : World} {F F' : Heap} {ρ ρ' : List Pl} {os os' : List (Option Obj)} {s s' : Sy Y.T} {a a' : Act} {ok : Nat → Bool}

/-- what is told of an object is told otherwise -/
theorem Cy.retellM (h : Cy hY N w0 F0 D H w F ρ os s a) {j : Nat} {x x' : Mem Y.T} (hj : s.m[j]? = some x) (hr : ∀ p o, ρ[j]? = some p → MemRel hY F ρ x p o → MemRel hY F ρ x' p o) (hx : x.still = true → x'.still = true) :
    Cy hY N w0 F0 D H w F ρ os ⟨s.l, s.m.set j x'⟩ a := by
  refine ⟨h.e, by simp [h.len], h.lon, fun k y p o h1 h2 h3 => ?_, h.st, fun k b hb => ⟨(h.fix k b hb).1, fun y h1 => ?_⟩, h.long⟩
  · have h4 : (s.m.set j x')[k]? = some y := h1
    clear h1
    rw [List.getElem?_set] at h4
    split at h4
    · rename_i e
      subst e
      rw [if_pos (List.getElem?_eq_some_iff.1 hj).1] at h4
      cases h4
      exact hr p o h2 (h.mem j x p o hj h2 h3)
    · exact h.mem k y p o h4 h2 h3
  · have h4 : (s.m.set j x')[k]? = some y := h1
    clear h1
    rw [List.getElem?_set] at h4
    split at h4
    · rename_i e2
      subst e2
      rw [if_pos (List.getElem?_eq_some_iff.1 hj).1] at h4
      cases h4
      exact hx ((h.fix j b hb).2 _ hj)
    · exact (h.fix k b hb).2 y h4
theorem own_nil (h : Cy hY N w0 F0 D H w F ρ os s a) {u : Value} (hr : Rel Y F ρ (.v (.slice none 0 0)) u) : Rel Y F (ρ ++ [⟨0, none, 0, 0, false⟩]) (.own s.m.length) u := by
  rw [hr.v_inv]
  exact .own (pl := ⟨0, none, 0, 0, false⟩) (by rw [h.len]; simp)
theorem Cy.nilS (h : Cy hY N w0 F0 D H w F ρ os s a) (t e : Nat) : ∃ ρ' os', Cy hY N w0 F0 D H w F ρ' os' (s.nilS t e) a ∧ Tr ok F ρ os s.m F ρ' os' (s.nilS t e).m := by
  unfold Sy.nilS
  split
  · rename_i ht
    have h1 := h.newArr e
    refine ⟨_, _, ⟨⟨h1.e.size, h1.e.nodef, fun t' x hx => ?_⟩, h1.len, h1.lon, h1.mem, h1.st, h1.fix, h1.long⟩, Tr.grow ok (.refl F)⟩
    simp only [lookA] at hx
    cases hb : Nat.beq t t' with
    | true =>
      rw [hb] at hx
      cases hx
      rw [← Nat.eq_of_beq_eq_true hb]
      exact ⟨(h.e.env t _ ht).1, own_nil h (h.e.env t _ ht).2⟩
    | false => rw [hb] at hx; exact h1.e.env t' x hx
  · exact ⟨ρ, os, h, Tr.refl ok F ρ os s.m⟩
theorem Cy.nilC (h : Cy hY N w0 F0 D H w F ρ os s a) (j i e : Nat) : ∃ ρ' os', Cy hY N w0 F0 D H w F ρ' os' (s.nilC j i e) a ∧ Tr ok F ρ os s.m F ρ' os' (s.nilC j i e).m := by
  unfold Sy.nilC
  split
  · rename_i ty cs hj
    split
    · rename_i hi
      have h1 := h.newArr e
      have hl := (List.getElem?_eq_some_iff.1 hj).1
      have hj1 : (s.m ++ [Mem.arr e []])[j]? = some (.cells ty cs) := by rw [List.getElem?_append_left hl]; exact hj
      refine ⟨_, _, h1.retellM (x' := .cells ty (cs.set i (.own s.m.length))) hj1 (fun p o hp hm => ?_) (fun _ => rfl), ?_⟩
      rotate_left
      · have t1 : Tr ok F ρ os s.m F (ρ ++ [⟨0, none, 0, 0, false⟩]) (os ++ [none]) (s.m ++ [Mem.arr e []]) := Tr.grow ok (.refl F)
        refine ⟨t1.le, t1.long, t1.stands, fun k ty2 l2 p h2 h3 => ?_⟩
        obtain ⟨⟨ty3, l3, h4⟩, h5⟩ := t1.cells k ty2 l2 p h2 h3
        refine ⟨?_, h5⟩
        show ∃ ty' l', ((s.m ++ [Mem.arr e []]).set j (.cells ty (cs.set i (.own s.m.length))))[k]? = some (.cells ty' l')
        rw [List.getElem?_set]
        split
        · rw [if_pos (by simp; omega)]
          exact ⟨_, _, rfl⟩
        · exact ⟨_, _, h4⟩
      obtain ⟨vs, hr, ho⟩ := hm
      refine ⟨vs, ⟨by simp [hr.1], fun q x u h2 h3 => ?_⟩, ho⟩
      rw [List.getElem?_set] at h2
      split at h2
      · rename_i hq
        subst hq
        rw [if_pos (List.getElem?_eq_some_iff.1 hi).1] at h2
        cases h2
        have := hr.2 i _ u hi h3
        rw [this.v_inv]
        exact .own (pl := ⟨0, none, 0, 0, false⟩) (by rw [h.len]; simp)
      · exact hr.2 q x u h2 h3
    · exact ⟨ρ, os, h, Tr.refl ok F ρ os s.m⟩
  · exact ⟨ρ, os, h, Tr.refl ok F ρ os s.m⟩
theorem Cy.lay (h : Cy hY N w0 F0 D H w F ρ os s a) (σ : List MPat) : ∀ (es : List Ev) (acc : List (Nat × Nat)), ∃ ρ' os', Cy hY N w0 F0 D H w F ρ' os' (lay σ es s acc).1 a ∧ Tr ok F ρ os s.m F ρ' os' (lay σ es s acc).1.m := by
  intro es
  induction es generalizing s ρ os with
  | nil => intro acc; exact ⟨ρ, os, h, Tr.refl ok F ρ os s.m⟩
  | cons e es ih =>
    intro acc
    cases e with
    | pr k j => exact ih h acc
    | nS t k =>
      simp only [Dn.lay]
      split
      · rename_i e he
        obtain ⟨ρ1, os1, h1, t1⟩ := h.nilS (ok := ok) t e
        obtain ⟨ρ2, os2, h2, t2⟩ := ih h1 ((k, s.m.length) :: acc)
        exact ⟨ρ2, os2, h2, t1.trans t2 h1.lon⟩
      · exact ih h acc
    | nC j i k =>
      simp only [Dn.lay]
      split
      · rename_i e he
        obtain ⟨ρ1, os1, h1, t1⟩ := h.nilC (ok := ok) j i e
        obtain ⟨ρ2, os2, h2, t2⟩ := ih h1 ((k, s.m.length) :: acc)
        exact ⟨ρ2, os2, h2, t1.trans t2 h1.lon⟩
      · exact ih h acc
end
end Go.Dn

