/- Heaps in two parts: what never changes any more (F), and what a call owns (a list of assertions L). Plain lemmas, for any program. -/
import Derived.WalkKit
import Derived.Below
import Derived.Deep.Draws
set_option linter.unusedVariables false
set_option linter.unusedSimpArgs false
set_option linter.unnecessarySimpa false
namespace Go.Gw
open Go.RowKit

abbrev Heap := Nat → Option Obj
structure Heap.Le (g h : Heap) : Prop where
  out : ∀ b o, g b = some o → h b = some o
structure Heap.Apart (g h : Heap) : Prop where
  out : ∀ b, g b = none ∨ h b = none
def Heap.join (g h : Heap) : Heap := fun b => match g b with | some o => some o | none => h b
def Heap.one (b : Nat) (o : Obj) : Heap := fun x => if x = b then some o else none
def Heap.nil : Heap := fun _ => none
structure Heap.Sub (h : Heap) (w : World) : Prop where
  out : ∀ b o, h b = some o → w.heap[b]? = some o

theorem Heap.Le.refl (g : Heap) : g.Le g := ⟨fun _ _ h => h⟩
theorem Heap.Le.trans {f g h : Heap} (a : f.Le g) (b : g.Le h) : f.Le h := ⟨fun x o e => b.out x o (a.out x o e)⟩
theorem Heap.Sub.lt {h : Heap} {w : World} (hs : h.Sub w) {b : Nat} {o : Obj} (e : h b = some o) : b < w.heap.size :=
  (Array.getElem?_eq_some_iff.1 (hs.out b o e)).1
theorem Heap.Sub.free {h : Heap} {w : World} (hs : h.Sub w) {b : Nat} (e : w.heap.size ≤ b) : h b = none := by
  cases e' : h b with
  | none => rfl
  | some o => have := hs.lt e'; omega
theorem Heap.Apart.symm {g h : Heap} (a : g.Apart h) : h.Apart g := ⟨fun b => (a.out b).symm⟩
theorem Heap.join_none {g h : Heap} {b : Nat} : (g.join h) b = none ↔ g b = none ∧ h b = none := by
  unfold Heap.join; cases e : g b <;> simp
theorem Heap.join_left {g h : Heap} {b : Nat} {o : Obj} (e : g b = some o) : (g.join h) b = some o := by simp [Heap.join, e]
theorem Heap.join_right {g h : Heap} (a : g.Apart h) {b : Nat} {o : Obj} (e : h b = some o) : (g.join h) b = some o := by
  rcases a.out b with h0 | h0
  · simp [Heap.join, h0, e]
  · rw [e] at h0; cases h0
theorem Heap.join_some {g h : Heap} {b : Nat} {o : Obj} (e : (g.join h) b = some o) : g b = some o ∨ h b = some o := by
  unfold Heap.join at e
  cases e' : g b with
  | none => rw [e'] at e; exact .inr e
  | some p => rw [e'] at e; exact .inl e
theorem Heap.join_comm {g h : Heap} (a : g.Apart h) : g.join h = h.join g := by
  funext b
  unfold Heap.join
  rcases a.out b with e | e <;> rw [e] <;> cases h b <;> cases g b <;> simp_all
theorem Heap.join_assoc (f g h : Heap) : (f.join g).join h = f.join (g.join h) := by
  funext b; unfold Heap.join; cases f b <;> simp
theorem Heap.apart_join {f g h : Heap} : (f.join g).Apart h ↔ f.Apart h ∧ g.Apart h := by
  constructor
  · intro a
    refine ⟨⟨fun b => ?_⟩, ⟨fun b => ?_⟩⟩ <;> rcases a.out b with e | e <;> simp_all [Heap.join_none]
  · intro ⟨a, c⟩
    refine ⟨fun b => ?_⟩
    rcases a.out b with e | e
    · rcases c.out b with e' | e'
      · exact .inl (Heap.join_none.2 ⟨e, e'⟩)
      · exact .inr e'
    · exact .inr e
theorem Heap.apart_join' {f g h : Heap} : h.Apart (f.join g) ↔ h.Apart f ∧ h.Apart g :=
  ⟨fun a => ⟨((Heap.apart_join.1 a.symm).1).symm, ((Heap.apart_join.1 a.symm).2).symm⟩, fun ⟨a, c⟩ => (Heap.apart_join.2 ⟨a.symm, c.symm⟩).symm⟩
theorem Heap.nil_apart (h : Heap) : Heap.nil.Apart h := ⟨fun _ => .inl rfl⟩
theorem Heap.join_nil (h : Heap) : h.join Heap.nil = h := by funext b; unfold Heap.join Heap.nil; cases h b <;> rfl
theorem Heap.nil_join (h : Heap) : Heap.nil.join h = h := rfl
theorem Heap.Sub.join {g h : Heap} {w : World} (a : g.Sub w) (b : h.Sub w) : (g.join h).Sub w := ⟨fun x o e => (Heap.join_some e).elim (a.out x o) (b.out x o)⟩
theorem Heap.join_le_left (g h : Heap) : g.Le (g.join h) := ⟨fun _ _ e => Heap.join_left e⟩
theorem Heap.Sub.of_join_left {g h : Heap} {w : World} (a : (g.join h).Sub w) : g.Sub w := ⟨fun x o e => a.out x o (Heap.join_left e)⟩
theorem Heap.Sub.of_join_right {g h : Heap} {w : World} (a : (g.join h).Sub w) (c : g.Apart h) : h.Sub w := ⟨fun x o e => a.out x o (Heap.join_right c e)⟩
theorem Heap.one_some {b x : Nat} {o p : Obj} (e : Heap.one b o x = some p) : x = b ∧ p = o := by
  unfold Heap.one at e; split at e
  · exact ⟨by assumption, by cases e; rfl⟩
  · cases e
theorem Heap.one_self (b : Nat) (o : Obj) : Heap.one b o b = some o := by simp [Heap.one]
theorem Heap.one_other {b x : Nat} (o : Obj) (h : x ≠ b) : Heap.one b o x = none := by simp [Heap.one, h]
theorem Heap.apart_one {h : Heap} {b : Nat} {o : Obj} : h.Apart (Heap.one b o) ↔ h b = none := by
  constructor
  · intro a; rcases a.out b with e | e
    · exact e
    · rw [Heap.one_self] at e; cases e
  · intro e; refine ⟨fun x => ?_⟩
    by_cases hx : x = b
    · subst hx; exact .inl e
    · exact .inr (Heap.one_other o hx)

/-- an assertion on owned memory; it may lean on the part that never changes -/
structure SP where
  holds : Heap → Heap → Prop
  mono : ∀ {F F' h}, F.Le F' → holds F h → holds F' h

def all (F : Heap) : List SP → Heap → Prop
  | [], h => h = Heap.nil
  | A :: L, h => ∃ g k, A.holds F g ∧ all F L k ∧ g.Apart k ∧ h = g.join k

theorem all_mono {F F' : Heap} (hle : F.Le F') : ∀ {L : List SP} {h : Heap}, all F L h → all F' L h
  | [], _, e => e
  | A :: _, _, ⟨g, k, a, b, c, d⟩ => ⟨g, k, A.mono hle a, all_mono hle b, c, d⟩

theorem all_one {F : Heap} {A : SP} {h : Heap} : all F [A] h ↔ A.holds F h := by
  constructor
  · rintro ⟨g, k, a, rfl, _, rfl⟩; rw [Heap.join_nil]; exact a
  · exact fun a => ⟨h, _, a, rfl, (Heap.nil_apart _).symm, (Heap.join_nil _).symm⟩

theorem all_append {F : Heap} : ∀ {L M : List SP} {h : Heap}, all F (L ++ M) h ↔ ∃ g k, all F L g ∧ all F M k ∧ g.Apart k ∧ h = g.join k
  | [], M, h => by
    constructor
    · exact fun a => ⟨Heap.nil, h, rfl, a, Heap.nil_apart _, rfl⟩
    · rintro ⟨g, k, rfl, b, _, rfl⟩; exact b
  | A :: L, M, h => by
    constructor
    · rintro ⟨g, k, a, b, c, rfl⟩
      obtain ⟨g2, k2, b1, b2, b3, rfl⟩ := all_append.1 b
      obtain ⟨c1, c2⟩ := Heap.apart_join'.1 c
      exact ⟨g.join g2, k2, ⟨g, g2, a, b1, c1, rfl⟩, b2, Heap.apart_join.2 ⟨c2, b3⟩, (Heap.join_assoc _ _ _).symm⟩
    · rintro ⟨x, k2, ⟨g, g2, a, b1, c1, rfl⟩, b2, c, rfl⟩
      obtain ⟨c2, b3⟩ := Heap.apart_join.1 c
      exact ⟨g, g2.join k2, a, all_append.2 ⟨g2, k2, b1, b2, b3, rfl⟩, Heap.apart_join'.2 ⟨c1, c2⟩, Heap.join_assoc _ _ _⟩

/-- take the assertion at place i out, whatever it is, and lay another one there -/
theorem all_at {F : Heap} : ∀ {L : List SP} {i : Nat} {A : SP} {h : Heap}, L[i]? = some A → all F L h →
    ∃ g k, A.holds F g ∧ g.Apart k ∧ h = g.join k ∧ all F (L.eraseIdx i) k ∧
      (∀ {F' : Heap} {A' : SP} {g' k' : Heap}, F.Le F' → A'.holds F' g' → all F' (L.eraseIdx i) k' → g'.Apart k' → all F' (L.set i A') (g'.join k'))
  | [], i, A, h, e, _ => by simp at e
  | B :: L, 0, A, h, e, ⟨g, k, a, b, c, d⟩ => by
    simp at e
    subst e
    exact ⟨g, k, a, c, d, b, fun _ a' b' c' => ⟨_, _, a', b', c', rfl⟩⟩
  | B :: L, i + 1, A, h, e, ⟨g, k, a, b, c, d⟩ => by
    simp only [List.getElem?_cons_succ] at e
    obtain ⟨g2, k2, a2, c2, rfl, b2, put⟩ := all_at e b
    obtain ⟨c3, c4⟩ := Heap.apart_join'.1 c
    refine ⟨g2, g.join k2, a2, Heap.apart_join'.2 ⟨c3.symm, c2⟩, ?_, ⟨g, k2, a, b2, c4, rfl⟩, ?_⟩
    · rw [d, ← Heap.join_assoc, ← Heap.join_assoc, Heap.join_comm c3]
    · intro F' A' g' k' hle a' ⟨p, q, b1, b3, b4, e'⟩ c'
      subst e'
      obtain ⟨c5, c6⟩ := Heap.apart_join'.1 c'
      refine ⟨p, g'.join q, b1, put hle a' b3 c6, Heap.apart_join'.2 ⟨c5.symm, b4⟩, ?_⟩
      rw [← Heap.join_assoc, ← Heap.join_assoc, Heap.join_comm c5]

/-- a block of the call's own -/
def pt (b : Nat) (o : Obj) : SP := ⟨fun _ h => h = Heap.one b o, fun _ e => e⟩

/-- the blocks that a call was handed; those that it knows by their number -/
structure Own where
  has : Nat → Prop
  known : List Nat
instance : CoeFun Own (fun _ => Nat → Prop) := ⟨Own.has⟩
/-- where a call stands. w0, F0: at its beginning; D: the blocks that it was handed; F: what never changes any more; L: what it owns -/
structure St (w0 : World) (F0 : Heap) (D : Own) (w : World) (F : Heap) (L : List SP) : Prop where
  os : w.os = w0.os
  tape : w.tape = w0.tape
  output : w.output = w0.output
  size : w0.heap.size ≤ w.heap.size
  frame : ∀ b, b < w0.heap.size → ¬ D b → w.heap[b]? = w0.heap[b]?
  le : F0.Le F
  new : ∀ b, b < w0.heap.size → ¬ D b → F b = F0 b
  view : F.Sub w
  own : ∃ h, all F L h ∧ h.Sub w ∧ F.Apart h ∧ ∀ b o, h b = some o → D b ∨ w0.heap.size ≤ b

def No : Own := ⟨fun _ => False, []⟩

theorem St.start {w : World} {F : Heap} (hv : F.Sub w) : St w F No w F [] :=
  ⟨rfl, rfl, rfl, Nat.le_refl _, fun _ _ _ => rfl, .refl F, fun _ _ _ => rfl, hv, Heap.nil, rfl, ⟨fun _ _ e => by cases e⟩, ⟨fun _ => .inr rfl⟩, fun _ _ e => by cases e⟩

section
variable {w0 w : World} {F0 F : Heap} {D : Own} {L : List SP}

theorem St.below (h : St w0 F0 No w F L) : Below w0.heap.size w0 w :=
  ⟨h.os, h.tape, h.output, h.size, fun b hb => h.frame b hb (fun x => x)⟩

/-- fewer blocks are asked to stand -/
theorem St.widen (h : St w0 F0 No w F L) (D' : Own) : St w0 F0 D' w F L :=
  ⟨h.os, h.tape, h.output, h.size, fun b hb _ => h.frame b hb (fun x => x), h.le, fun b hb _ => h.new b hb (fun x => x), h.view, let ⟨x, a, s, f, d⟩ := h.own; ⟨x, a, s, f, fun b o e => (d b o e).imp (fun x => x.elim) id⟩⟩

theorem St.drew (h : St w0 F0 D w F L) (n : Nat) : St w0 F0 D (w.drewN n) F L :=
  ⟨h.os, h.tape, h.output, h.size, h.frame, h.le, h.new, ⟨h.view.out⟩, let ⟨x, a, s, r⟩ := h.own; ⟨x, a, ⟨s.out⟩, r⟩⟩

/-- what is owned may be forgotten -/
theorem St.forget {A : SP} (h : St w0 F0 D w F (A :: L)) : St w0 F0 D w F L := by
  obtain ⟨x, ⟨g, k, a, b, c, rfl⟩, s, f, d⟩ := h.own
  exact ⟨h.os, h.tape, h.output, h.size, h.frame, h.le, h.new, h.view, k, b, s.of_join_right c, (Heap.apart_join'.1 f).2, fun x o e => d x o (Heap.join_right c e)⟩
theorem St.only {M : List SP} (h : St w0 F0 D w F (L ++ M)) : St w0 F0 D w F M := by
  induction L with
  | nil => exact h
  | cons A L ih => exact ih h.forget

theorem St.swap {L M : List SP} (h : St w0 F0 D w F (L ++ M)) : St w0 F0 D w F (M ++ L) := by
  obtain ⟨x, a, s, f, d⟩ := h.own
  obtain ⟨g, k, b, c, e, rfl⟩ := all_append.1 a
  exact ⟨h.os, h.tape, h.output, h.size, h.frame, h.le, h.new, h.view, g.join k, all_append.2 ⟨k, g, c, b, e.symm, Heap.join_comm e⟩, s, f, d⟩

theorem Heap.Sub.alloc {g : Heap} {w : World} (hs : g.Sub w) (o : Obj) : g.Sub (w.alloc o) :=
  ⟨fun b p e => by rw [Below.heap_alloc w o b (hs.lt e)]; exact hs.out b p e⟩
theorem alloc_size (w : World) (o : Obj) : (w.alloc o).heap.size = w.heap.size + 1 := Array.size_push ..
theorem Heap.Sub.one_alloc (w : World) (o : Obj) : (Heap.one w.heap.size o).Sub (w.alloc o) :=
  ⟨fun b p e => by obtain ⟨rfl, rfl⟩ := Heap.one_some e; exact Array.getElem?_push_size⟩

/-- new memory -/
theorem St.alloc (h : St w0 F0 D w F L) (o : Obj) : St w0 F0 D (w.alloc o) F (pt w.heap.size o :: L) := by
  obtain ⟨x, a, s, f, d⟩ := h.own
  have hn : x w.heap.size = none := s.free (Nat.le_refl _)
  refine ⟨h.os, h.tape, h.output, ?_, ?_, h.le, h.new, h.view.alloc o, (Heap.one w.heap.size o).join x, ⟨_, x, rfl, a, (Heap.apart_one.2 hn).symm, rfl⟩, (Heap.Sub.one_alloc w o).join (s.alloc o),
    Heap.apart_join'.2 ⟨Heap.apart_one.2 (h.view.free (Nat.le_refl _)), f⟩, ?_⟩
  · rw [alloc_size]; have := h.size; omega
  · intro b hb hd; rw [Below.heap_alloc w o b (Nat.lt_of_lt_of_le hb h.size)]; exact h.frame b hb hd
  · intro b p e
    rcases Heap.join_some e with e | e
    · obtain ⟨rfl, _⟩ := Heap.one_some e; exact .inr h.size
    · exact d b p e

/-- new memory that never changes -/
theorem St.allocF (h : St w0 F0 D w F L) (o : Obj) : St w0 F0 D (w.alloc o) (F.join (Heap.one w.heap.size o)) L := by
  obtain ⟨x, a, s, f, d⟩ := h.own
  have hF : F w.heap.size = none := h.view.free (Nat.le_refl _)
  refine ⟨h.os, h.tape, h.output, ?_, ?_, h.le.trans (Heap.join_le_left _ _), ?_, (h.view.alloc o).join (Heap.Sub.one_alloc w o), x, all_mono (Heap.join_le_left _ _) a, s.alloc o,
    Heap.apart_join.2 ⟨f, (Heap.apart_one.2 (s.free (Nat.le_refl _))).symm⟩, d⟩
  · rw [alloc_size]; have := h.size; omega
  · intro b hb hd; rw [Below.heap_alloc w o b (Nat.lt_of_lt_of_le hb h.size)]; exact h.frame b hb hd
  · intro b hb hd
    have : b ≠ w.heap.size := by have := h.size; omega
    rw [← h.new b hb hd]
    unfold Heap.join
    rw [Heap.one_other o this]
    cases F b <;> rfl

/-- a block of the call's own is what it is said to be -/
theorem St.block (h : St w0 F0 D w F L) {i b : Nat} {o : Obj} (hi : L[i]? = some (pt b o)) : w.heap[b]? = some o := by
  obtain ⟨x, a, s, f, d⟩ := h.own
  obtain ⟨g, k, rfl, _, rfl, _, _⟩ := all_at hi a
  exact s.out b o (Heap.join_left (Heap.one_self b o))

theorem Heap.Sub.moved {g : Heap} {w w' : World} {b : Nat} (hs : g.Sub w) (hn : g b = none) (hne : ∀ x, x ≠ b → w'.heap[x]? = w.heap[x]?) : g.Sub w' :=
  ⟨fun y p e => by rw [hne y (fun e' => by subst e'; rw [hn] at e; cases e)]; exact hs.out y p e⟩

/-- write a block of the call's own -/
theorem St.write (h : St w0 F0 D w F L) {i b : Nat} {o o' : Obj} (hi : L[i]? = some (pt b o)) {w' : World}
    (hos : w'.os = w.os) (htape : w'.tape = w.tape) (hout : w'.output = w.output) (hsize : w'.heap.size = w.heap.size)
    (hb : w'.heap[b]? = some o') (hne : ∀ x, x ≠ b → w'.heap[x]? = w.heap[x]?) : St w0 F0 D w' F (L.set i (pt b o')) := by
  obtain ⟨x, a, s, f, d⟩ := h.own
  obtain ⟨g, k, rfl, c, rfl, ae, put⟩ := all_at hi a
  obtain ⟨f1, f2⟩ := Heap.apart_join'.1 f
  have hbF : F b = none := Heap.apart_one.1 f1
  have hbk : k b = none := Heap.apart_one.1 c.symm
  have hDb : D b ∨ w0.heap.size ≤ b := d b o (Heap.join_left (Heap.one_self b o))
  refine ⟨hos.trans h.os, htape.trans h.tape, hout.trans h.output, by rw [hsize]; exact h.size, ?_, h.le, h.new, h.view.moved hbF hne, (Heap.one b o').join k,
    put (.refl F) rfl ae (Heap.apart_one.2 hbk).symm, ?_, Heap.apart_join'.2 ⟨Heap.apart_one.2 hbF, f2⟩, ?_⟩
  · intro y hy hd
    rw [hne y (fun e => by subst e; rcases hDb with e | e; exact hd e; omega)]
    exact h.frame y hy hd
  · exact Heap.Sub.join ⟨fun y p e => by obtain ⟨rfl, rfl⟩ := Heap.one_some e; exact hb⟩ ((s.of_join_right c).moved hbk hne)
  · intro y p e
    rcases Heap.join_some e with e | e
    · obtain ⟨rfl, _⟩ := Heap.one_some e; exact hDb
    · exact d y p (Heap.join_right c e)

theorem setCell_size (w : World) (p : Addr) (v : Value) : (w.setCell p v).heap.size = w.heap.size := by simp [World.setCell]
theorem setCell_same (w : World) (b i : Nat) (v : Value) {c : Array Value} {t : TypeId} (h : w.heap[b]? = some (.cells c t (0, 0))) :
    (w.setCell ⟨b, i, none⟩ v).heap[b]? = some (.cells (c.setIfInBounds i v) t (0, 0)) := by
  simp [World.setCell, Array.getElem?_modify, h]

theorem St.setCell (h : St w0 F0 D w F L) {i b : Nat} {c : Array Value} {t : TypeId} (hi : L[i]? = some (pt b (.cells c t (0, 0)))) (j : Nat) (v : Value) :
    St w0 F0 D (w.setCell ⟨b, j, none⟩ v) F (L.set i (pt b (.cells (c.setIfInBounds j v) t (0, 0)))) :=
  h.write hi rfl rfl rfl (setCell_size _ _ _) (setCell_same _ _ _ _ (h.block hi)) (fun x hx => Below.heap_setCell w _ v x hx)

/-- what is owned turns into what never changes any more -/
theorem St.freezeAt (h : St w0 F0 D w F L) {i : Nat} {A : SP} (hi : L[i]? = some A) (hnew : ∀ g, A.holds F g → g.Sub w → ∀ b o, g b = some o → D b ∨ w0.heap.size ≤ b) :
    ∃ g, A.holds F g ∧ F.Apart g ∧ St w0 F0 D w (F.join g) (L.eraseIdx i) := by
  obtain ⟨x, a, s, f, d⟩ := h.own
  obtain ⟨g, k, ha, c, rfl, ae, put⟩ := all_at hi a
  obtain ⟨f1, f2⟩ := Heap.apart_join'.1 f
  refine ⟨g, ha, f1, h.os, h.tape, h.output, h.size, h.frame, h.le.trans (Heap.join_le_left _ _), ?_, h.view.join s.of_join_left, k, all_mono (Heap.join_le_left _ _) ae, s.of_join_right c, Heap.apart_join.2 ⟨f2, c⟩, fun b o e => d b o (Heap.join_right c e)⟩
  intro b hb hd
  rw [← h.new b hb hd]
  cases e : g b with
  | none => unfold Heap.join; cases F b <;> simp [e]
  | some o => rcases hnew g ha s.of_join_left b o e with e2 | e2; exact absurd e2 hd; omega

end

/-- THE CALL: what the callee is handed (M) out of what the caller owns; behind it M' -/
theorem St.call {w0 w : World} {F0 F : Heap} {D : Own} {L M : List SP} (h : St w0 F0 D w F (L ++ M)) :
    ∃ p : Nat → Prop, ∀ bs, St w F ⟨p, bs⟩ w F M ∧ ∀ {w' F' M'}, St w F ⟨p, bs⟩ w' F' M' → St w0 F0 D w' F' (L ++ M') := by
  obtain ⟨x, a, s, f, d⟩ := h.own
  obtain ⟨g, k, aL, aM, c, rfl⟩ := all_append.1 a
  obtain ⟨f1, f2⟩ := Heap.apart_join'.1 f
  refine ⟨fun b => k b ≠ none, fun bs => ⟨⟨rfl, rfl, rfl, Nat.le_refl _, fun _ _ _ => rfl, .refl F, fun _ _ _ => rfl, h.view, k, aM, s.of_join_right c, f2, fun b o e => .inl (show k b ≠ none by rw [e]; exact fun e => by cases e)⟩, ?_⟩⟩
  intro w' F' M' h'
  obtain ⟨k', aM', s', f', d'⟩ := h'.own
  have hg : g.Sub w := s.of_join_left
  have hgk : ∀ b o, g b = some o → k b = none := fun b o e => by rcases c.out b with e' | e'; rw [e] at e'; cases e'; exact e'
  have gk' : g.Apart k' := ⟨fun b => by
    cases e : g b with
    | none => exact .inl rfl
    | some o =>
      right
      cases e' : k' b with
      | none => rfl
      | some p =>
        rcases d' b p e' with e2 | e2
        · exact absurd (hgk b o e) e2
        · have := hg.lt e; omega⟩
  refine ⟨h'.os.trans h.os, h'.tape.trans h.tape, h'.output.trans h.output, Nat.le_trans h.size h'.size, ?_, h.le.trans h'.le, ?_, h'.view, g.join k', all_append.2 ⟨g, k', all_mono h'.le aL, aM', gk', rfl⟩, ?_, ?_, ?_⟩
  · intro b hb hd
    have hb' : b < w.heap.size := Nat.lt_of_lt_of_le hb h.size
    rw [h'.frame b hb' ?_]
    · exact h.frame b hb hd
    · intro hk
      cases e : k b with
      | none => exact hk e
      | some o => rcases d b o (Heap.join_right c e) with e2 | e2; exact hd e2; omega
  · intro b hb hd
    rw [h'.new b (Nat.lt_of_lt_of_le hb h.size) ?_]
    · exact h.new b hb hd
    · intro hk
      cases e : k b with
      | none => exact hk e
      | some o => rcases d b o (Heap.join_right c e) with e2 | e2; exact hd e2; omega
  · refine Heap.Sub.join ⟨fun b o e => ?_⟩ s'
    rw [h'.frame b (hg.lt e) (fun hk => hk (hgk b o e))]; exact hg.out b o e
  · refine Heap.apart_join'.2 ⟨⟨fun b => ?_⟩, f'⟩
    cases e : g b with
    | none => exact .inr rfl
    | some o =>
      left
      rw [h'.new b (hg.lt e) (fun hk => hk (hgk b o e))]
      rcases f1.out b with e2 | e2
      · exact e2
      · rw [e] at e2; cases e2
  · intro b o e
    rcases Heap.join_some e with e | e
    · exact d b o (Heap.join_left e)
    · rcases d' b o e with e2 | e2
      · cases e3 : k b with
        | none => exact absurd e3 e2
        | some p => exact d b p (Heap.join_right c e3)
      · exact .inr (Nat.le_trans h.size e2)

end Go.Gw

