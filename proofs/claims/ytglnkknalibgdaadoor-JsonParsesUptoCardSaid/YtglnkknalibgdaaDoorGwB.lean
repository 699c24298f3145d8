/- Frames as lists: what each slot is known to hold; small variables of the call's own ('boxes'); a region's plain operations reckoned at once. For any program. -/
import Derived.Test.YtglnkknalibgdaaDoorGwA
import Derived.Orders
import Derived.Scope
set_option linter.unusedVariables false
set_option linter.unusedSimpArgs false
set_option linter.unnecessarySimpa false
namespace Go.Gw
open Go.RowKit

/-- what a value is said to be for ever -/
structure PP where
  holds : Heap → Prop
  mono : ∀ {F F'}, F.Le F' → holds F → holds F'

inductive SV where
  | v (x : Value)
  | p (g : PP) (x : Value)
  | ptr (k off : Nat)
  | slc (k off len cap : Nat)
  | el (b off : Nat) (l : List SV)
  | agg (l : List SV)
  | tup (l : List SV)
  | opt (q : Bool) (k off : Nat)
  | fn (f : Nat) (l : List SV)

mutual
def SV.den (ρ : Nat → Nat) : SV → Value
  | .v x => x
  | .p _ x => x
  | .ptr k off => .pointer (some ⟨ρ k, off, none⟩)
  | .slc k off len cap => .slice (some ⟨ρ k, off, none⟩) len cap
  | .el b off _ => .pointer (some ⟨b, off, none⟩)
  | .agg l => .agg (SV.dens ρ l).toArray
  | .tup l => .tuple (SV.dens ρ l).toArray
  | .opt q k off => .pointer (if q = true then some ⟨ρ k, off, none⟩ else none)
  | .fn f l => .func (.func f) #[] (SV.dens ρ l).toArray
def SV.dens (ρ : Nat → Nat) : List SV → List Value
  | [] => []
  | s :: l => s.den ρ :: SV.dens ρ l
end
mutual
def SV.plain : SV → Option Value
  | .v x => some x
  | .p _ x => some x
  | .el b off _ => some (.pointer (some ⟨b, off, none⟩))
  | .agg l => match SV.plains l with | some cs => some (.agg cs.toArray) | none => none
  | _ => none
def SV.plains : List SV → Option (List Value)
  | [] => some []
  | s :: l => match s.plain, SV.plains l with | some x, some r => some (x :: r) | _, _ => none
end
/-- a cell of what never changes -/
def cellF (F : Heap) (b off : Nat) (v : Value) : Prop := ∃ cs t fz, F b = some (.cells cs t fz) ∧ cs[off]? = some v
theorem cellF_mono {F F' : Heap} (h : F.Le F') {b off : Nat} {v : Value} : cellF F b off v → cellF F' b off v := fun ⟨cs, t, fz, e, g⟩ => ⟨cs, t, fz, h.out _ _ e, g⟩
def cellsF (F : Heap) (b off : Nat) (vs : List Value) : Prop := ∀ j v, vs[j]? = some v → cellF F b (off + j) v
theorem cellsF_mono {F F' : Heap} (h : F.Le F') {b off : Nat} {vs : List Value} (a : cellsF F b off vs) : cellsF F' b off vs := fun j v e => cellF_mono h (a j v e)
theorem cellF_read {F : Heap} {w : World} (h : F.Sub w) {b off : Nat} {v : Value} : cellF F b off v → w.cell? ⟨b, off, none⟩ = some v := fun ⟨cs, t, fz, e, g⟩ => by
  unfold World.cell?; rw [h.out _ _ e]; simpa using g
mutual
def SV.good (F : Heap) : SV → Prop
  | .p g _ => g.holds F
  | .el b off l => SV.goods F l ∧ ∃ cs, SV.plains l = some cs ∧ cellsF F b off cs
  | .agg l => SV.goods F l
  | .tup l => SV.goods F l
  | .fn _ l => SV.goods F l
  | _ => True
def SV.goods (F : Heap) : List SV → Prop
  | [] => True
  | s :: l => s.good F ∧ SV.goods F l
end
mutual
def SV.under (n : Nat) : SV → Bool
  | .ptr k _ => k < n
  | .slc k _ _ _ => k < n
  | .el _ _ l => SV.unders n l
  | .agg l => SV.unders n l
  | .tup l => SV.unders n l
  | .opt _ k _ => k < n
  | .fn _ l => SV.unders n l
  | _ => true
def SV.unders (n : Nat) : List SV → Bool
  | [] => true
  | s :: l => s.under n && SV.unders n l
end

theorem SV.dens_eq (ρ : Nat → Nat) : ∀ l, SV.dens ρ l = l.map (SV.den ρ)
  | [] => rfl
  | s :: l => by rw [SV.dens, SV.dens_eq ρ l]; rfl
theorem SV.goods_iff {F : Heap} : ∀ {l}, SV.goods F l ↔ ∀ s ∈ l, s.good F
  | [] => by simp [SV.goods]
  | s :: l => by simp [SV.goods, SV.goods_iff]
theorem SV.unders_iff {n : Nat} : ∀ {l}, SV.unders n l = true ↔ ∀ s ∈ l, s.under n = true
  | [] => by simp [SV.unders]
  | s :: l => by simp [SV.unders, SV.unders_iff]

mutual
theorem SV.good_mono {F F' : Heap} (h : F.Le F') : ∀ {s : SV}, s.good F → s.good F'
  | .p g _, a => g.mono h a
  | .el _ _ _, a => by simp only [SV.good] at a ⊢; obtain ⟨a1, cs, e, c⟩ := a; exact ⟨SV.goods_mono h a1, cs, e, cellsF_mono h c⟩
  | .agg _, a => SV.goods_mono h (by simpa [SV.good] using a)
  | .tup _, a => SV.goods_mono h (by simpa [SV.good] using a)
  | .fn _ _, a => SV.goods_mono h (by simpa [SV.good] using a)
  | .v _, _ => trivial
  | .ptr .., _ => trivial
  | .opt .., _ => trivial
  | .slc .., _ => trivial
theorem SV.goods_mono {F F' : Heap} (h : F.Le F') : ∀ {l : List SV}, SV.goods F l → SV.goods F' l
  | [], _ => trivial
  | _ :: _, ⟨a, b⟩ => ⟨SV.good_mono h a, SV.goods_mono h b⟩
end
mutual
theorem SV.under_mono {n m : Nat} (h : n ≤ m) : ∀ {s : SV}, s.under n = true → s.under m = true
  | .opt _ k _, a => by simp [SV.under] at *; omega
  | .ptr k _, a => by simp [SV.under] at *; omega
  | .slc k .., a => by simp [SV.under] at *; omega
  | .el _ _ _, a => SV.unders_mono h (by simpa [SV.under] using a)
  | .agg _, a => SV.unders_mono h (by simpa [SV.under] using a)
  | .tup _, a => SV.unders_mono h (by simpa [SV.under] using a)
  | .fn _ _, a => SV.unders_mono h (by simpa [SV.under] using a)
  | .v _, _ => rfl
  | .p .., _ => rfl
theorem SV.unders_mono {n m : Nat} (h : n ≤ m) : ∀ {l : List SV}, SV.unders n l = true → SV.unders m l = true
  | [], _ => rfl
  | _ :: _, a => by simp [SV.unders] at *; exact ⟨SV.under_mono h a.1, SV.unders_mono h a.2⟩
end
mutual
theorem SV.den_ext {ρ ρ' : Nat → Nat} {n : Nat} (h : ∀ k, k < n → ρ' k = ρ k) : ∀ {s : SV}, s.under n = true → s.den ρ' = s.den ρ
  | .opt _ k _, a => by simp [SV.under] at a; simp [SV.den, h k a]
  | .ptr k _, a => by simp [SV.under] at a; simp [SV.den, h k a]
  | .slc k .., a => by simp [SV.under] at a; simp [SV.den, h k a]
  | .el .., _ => rfl
  | .agg _, a => by simp only [SV.den]; rw [SV.dens_ext h (by simpa [SV.under] using a)]
  | .tup _, a => by simp only [SV.den]; rw [SV.dens_ext h (by simpa [SV.under] using a)]
  | .fn _ _, a => by simp only [SV.den]; rw [SV.dens_ext h (by simpa [SV.under] using a)]
  | .v _, _ => rfl
  | .p .., _ => rfl
theorem SV.dens_ext {ρ ρ' : Nat → Nat} {n : Nat} (h : ∀ k, k < n → ρ' k = ρ k) : ∀ {l : List SV}, SV.unders n l = true → SV.dens ρ' l = SV.dens ρ l
  | [], _ => rfl
  | _ :: _, a => by simp [SV.unders] at a; simp only [SV.dens]; rw [SV.den_ext h a.1, SV.dens_ext h a.2]
end

structure Box where
  ty : TypeId
  cells : List SV

def Box.sp (ρ : Nat → Nat) (k : Nat) (b : Box) : SP := pt (ρ k) (.cells (SV.dens ρ b.cells).toArray b.ty (0, 0))
def emp : SP := ⟨fun _ h => h = Heap.nil, fun _ e => e⟩
def obox (ρ : Nat → Nat) (k : Nat) : Option Box → SP
  | some b => b.sp ρ k
  | none => emp
def boxes (ρ : Nat → Nat) : Nat → List (Option Box) → List SP
  | _, [] => []
  | k, b :: B => obox ρ k b :: boxes ρ (k + 1) B

abbrev Env := List (Nat × SV)
def look : Env → Nat → Option SV
  | [], _ => none
  | (k, s) :: l, t => bif Nat.beq k t then some s else look l t
def ov (l : Env) : Operand → Option SV
  | .tmp t => look l t
  | .const v => some (.v v)
  | .func f => some (.v (.func (.func f) #[] #[]))
  | .global g => some (.v (.pointer (some ⟨g, 0, none⟩)))

/-- where a call stands, and what its frame holds -/
structure Cx (N : Nat) (w0 : World) (F0 : Heap) (D : Own) (w : World) (F : Heap) (L : List SP) (B : List (Option Box)) (ρ : Nat → Nat) (l : Env) (a : Act) : Prop where
  size : a.tmps.size = N
  nodef : a.defers = []
  env : ∀ t s, look l t = some s → t < N ∧ a.tmps.getD t undef = s.den ρ
  good : ∀ t s, look l t = some s → s.good F ∧ s.under B.length = true
  bgood : ∀ b, some b ∈ B → SV.goods F b.cells ∧ SV.unders B.length b.cells = true
  fix : ∀ k b, D.known[k]? = some b → k < B.length ∧ ρ k = b
  st : St w0 F0 D w F (boxes ρ 0 B ++ L)

section
variable {P : Program} {N : Nat} {w0 : World} {F0 : Heap} {D : Own} {w : World} {F : Heap} {L : List SP} {B : List (Option Box)} {ρ : Nat → Nat} {l : Env} {a : Act}

theorem Cx.eval (h : Cx N w0 F0 D w F L B ρ l a) {x : Operand} {s : SV} (hx : ov l x = some s) : a.eval x = s.den ρ := by
  cases x with
  | tmp t => exact (h.env t s hx).2
  | const v => cases hx; rfl
  | global g => cases hx; rfl
  | func f => cases hx; rfl
theorem Cx.ogood (h : Cx N w0 F0 D w F L B ρ l a) {x : Operand} {s : SV} (hx : ov l x = some s) : s.good F ∧ s.under B.length = true := by
  cases x with
  | tmp t => exact h.good t s hx
  | const v => cases hx; exact ⟨trivial, rfl⟩
  | global g => cases hx; exact ⟨trivial, rfl⟩
  | func f => cases hx; exact ⟨trivial, rfl⟩

theorem put_size (a : Act) (d : Option Tmp) (v : Value) : (a.put d v).tmps.size = a.tmps.size := by cases d <;> simp [Act.put]
theorem put_defers (a : Act) (d : Option Tmp) (v : Value) : (a.put d v).defers = a.defers := by cases d <;> rfl
theorem put_get_self (a : Act) (d : Nat) (v : Value) (h : d < a.tmps.size) : (a.put (some d) v).tmps.getD d undef = v := by
  simp [Act.put, Array.getD, h]
theorem put_get_other (a : Act) (d t : Nat) (v : Value) (h : t ≠ d) : (a.put (some d) v).tmps.getD t undef = a.tmps.getD t undef := by
  simp only [Act.put, Array.getD_eq_getD_getElem?]
  rw [Array.getElem?_setIfInBounds_ne (Ne.symm h)]

/-- a slot is written -/
theorem Cx.put (h : Cx N w0 F0 D w F L B ρ l a) {d : Nat} {s : SV} (hd : d < N) (hg : s.good F) (hb : s.under B.length = true) : Cx N w0 F0 D w F L B ρ ((d, s) :: l) (a.put (some d) (s.den ρ)) := by
  refine ⟨by rw [put_size]; exact h.size, by rw [put_defers]; exact h.nodef, fun t u e => ?_, fun t u e => ?_, h.bgood, h.fix, h.st⟩
  · simp only [look] at e
    cases hk : Nat.beq d t with
    | true =>
      rw [hk] at e
      simp at e
      subst e
      have := Nat.eq_of_beq_eq_true hk
      subst this
      exact ⟨hd, put_get_self _ _ _ (by rw [h.size]; exact hd)⟩
    | false =>
      rw [hk] at e
      simp at e
      have hne : t ≠ d := fun e' => by rw [← e', Nat.beq_refl] at hk; cases hk
      rw [put_get_other _ _ _ _ hne]
      exact h.env t u e
  · simp only [look] at e
    cases hk : Nat.beq d t with
    | true => rw [hk] at e; simp at e; subst e; exact ⟨hg, hb⟩
    | false => rw [hk] at e; simp at e; exact h.good t u e

/-- the world went on, and all that was known still stands -/
theorem Cx.world {w' : World} {F' : Heap} {L' : List SP} (h : Cx N w0 F0 D w F L B ρ l a) (hle : F.Le F') (hs : St w0 F0 D w' F' (boxes ρ 0 B ++ L')) : Cx N w0 F0 D w' F' L' B ρ l a :=
  ⟨h.size, h.nodef, h.env, fun t s e => ⟨SV.good_mono hle (h.good t s e).1, (h.good t s e).2⟩, fun b hb => ⟨SV.goods_mono hle (h.bgood b hb).1, (h.bgood b hb).2⟩, h.fix, hs⟩

/-- of what is known only this is wanted -/
inductive Picks (l : Env) : Env → Prop
  | nil : Picks l []
  | cons {t : Nat} {s : SV} {l' : Env} (h : look l t = some s) (r : Picks l l') : Picks l ((t, s) :: l')
theorem Picks.look {l l' : Env} (h : Picks l l') : ∀ t s, look l' t = some s → look l t = some s := by
  induction h with
  | nil => intro t s e; cases e
  | @cons t0 s0 l0 hl _ ih =>
    intro t s e
    simp only [Gw.look] at e
    cases hk : Nat.beq t0 t with
    | true => rw [hk] at e; simp at e; subst e; rw [← Nat.eq_of_beq_eq_true hk]; exact hl
    | false => rw [hk] at e; simp at e; exact ih t s e
theorem Cx.pick {l' : Env} (h : Cx N w0 F0 D w F L B ρ l a) (p : Picks l l') : Cx N w0 F0 D w F L B ρ l' a :=
  ⟨h.size, h.nodef, fun t s e => h.env t s (p.look t s e), fun t s e => h.good t s (p.look t s e), h.bgood, h.fix, h.st⟩

/-- what a slot holds, told otherwise -/
theorem Cx.retell (h : Cx N w0 F0 D w F L B ρ l a) {t : Nat} {s s' : SV} (hs : look l t = some s) (he : s.den ρ = s'.den ρ) (hg : s'.good F) (hb : s'.under B.length = true) : Cx N w0 F0 D w F L B ρ ((t, s') :: l) a := by
  refine ⟨h.size, h.nodef, fun t' u e => ?_, fun t' u e => ?_, h.bgood, h.fix, h.st⟩
  · simp only [look] at e
    cases hk : Nat.beq t t' with
    | true =>
      rw [hk] at e
      simp at e
      subst e
      have := Nat.eq_of_beq_eq_true hk
      subst this
      exact ⟨(h.env t s hs).1, by rw [← he]; exact (h.env t s hs).2⟩
    | false => rw [hk] at e; simp at e; exact h.env t' u e
  · simp only [look] at e
    cases hk : Nat.beq t t' with
    | true => rw [hk] at e; simp at e; subst e; exact ⟨hg, hb⟩
    | false => rw [hk] at e; simp at e; exact h.good t' u e

theorem boxes_at (ρ : Nat → Nat) : ∀ (B : List (Option Box)) (k0 k : Nat) (b : Option Box), B[k]? = some b → (boxes ρ k0 B)[k]? = some (obox ρ (k0 + k) b)
  | [], _, _, _, h => by simp at h
  | b :: B, k0, 0, c, h => by simp at h; subst h; rfl
  | b :: B, k0, k + 1, c, h => by
    simp only [List.getElem?_cons_succ] at h
    simp only [boxes, List.getElem?_cons_succ]
    rw [boxes_at ρ B (k0 + 1) k c h, show k0 + 1 + k = k0 + (k + 1) from by omega]
theorem boxes_length (ρ : Nat → Nat) : ∀ (B : List (Option Box)) (k0 : Nat), (boxes ρ k0 B).length = B.length
  | [], _ => rfl
  | b :: B, k0 => by simp [boxes, boxes_length ρ B]
theorem boxes_set (ρ : Nat → Nat) : ∀ (B : List (Option Box)) (k0 k : Nat) (b : Option Box), boxes ρ k0 (B.set k b) = (boxes ρ k0 B).set k (obox ρ (k0 + k) b)
  | [], _, _, _ => by simp [boxes]
  | c :: B, k0, 0, b => by simp [boxes]
  | c :: B, k0, k + 1, b => by simp only [List.set_cons_succ, boxes]; rw [boxes_set ρ B (k0 + 1) k b, show k0 + 1 + k = k0 + (k + 1) from by omega]
theorem boxes_append (ρ : Nat → Nat) : ∀ (B C : List (Option Box)) (k0 : Nat), boxes ρ k0 (B ++ C) = boxes ρ k0 B ++ boxes ρ (k0 + B.length) C
  | [], C, k0 => by simp [boxes]
  | b :: B, C, k0 => by simp only [List.cons_append, boxes]; rw [boxes_append ρ B C (k0 + 1), show k0 + 1 + B.length = k0 + (b :: B).length from by simp; omega]
theorem boxes_ext {ρ ρ' : Nat → Nat} {n : Nat} (h : ∀ k, k < n → ρ' k = ρ k) : ∀ (B : List (Option Box)) (k0 : Nat), k0 + B.length ≤ n → (∀ b, some b ∈ B → SV.unders n b.cells = true) → boxes ρ' k0 B = boxes ρ k0 B
  | [], _, _, _ => rfl
  | b :: B, k0, hn, hb => by
    simp only [List.length_cons] at hn
    simp only [boxes]
    rw [boxes_ext h B (k0 + 1) (by omega) (fun c hc => hb c (List.mem_cons_of_mem _ hc))]
    cases b with
    | none => rfl
    | some b =>
      simp only [obox, Box.sp]
      rw [h k0 (by omega), SV.dens_ext h (hb b List.mem_cons_self)]

theorem Cx.box (h : Cx N w0 F0 D w F L B ρ l a) {k : Nat} {b : Box} (hk : B[k]? = some (some b)) : w.heap[ρ k]? = some (.cells (SV.dens ρ b.cells).toArray b.ty (0, 0)) := by
  have h1 := boxes_at ρ B 0 k (some b) hk
  rw [Nat.zero_add] at h1
  have hlt : k < (boxes ρ 0 B).length := (List.getElem?_eq_some_iff.1 h1).1
  exact h.st.block (i := k) (by rw [List.getElem?_append_left hlt]; exact h1)
theorem Cx.box_cell (h : Cx N w0 F0 D w F L B ρ l a) {k j : Nat} {b : Box} {s : SV} (hk : B[k]? = some (some b)) (hj : b.cells[j]? = some s) : w.cell? ⟨ρ k, j, none⟩ = some (s.den ρ) := by
  have := h.box hk
  unfold World.cell?
  rw [this]
  simp [SV.dens_eq, hj]

/-- a variable of the call's own is written whole -/
theorem Cx.set_box (h : Cx N w0 F0 D w F L B ρ l a) {k : Nat} {b b' : Box} (hk : B[k]? = some (some b)) (_hty : b'.ty = b.ty) (hg : SV.goods F b'.cells) (hb : SV.unders B.length b'.cells = true) {w' : World}
    (hos : w'.os = w.os) (htape : w'.tape = w.tape) (hout : w'.output = w.output) (hsize : w'.heap.size = w.heap.size)
    (hb' : w'.heap[ρ k]? = some (.cells (SV.dens ρ b'.cells).toArray b'.ty (0, 0))) (hne : ∀ x, x ≠ ρ k → w'.heap[x]? = w.heap[x]?) : Cx N w0 F0 D w' F L (B.set k (some b')) ρ l a := by
  have h1 := boxes_at ρ B 0 k (some b) hk
  rw [Nat.zero_add] at h1
  have hlt : k < (boxes ρ 0 B).length := (List.getElem?_eq_some_iff.1 h1).1
  have h2 : (boxes ρ 0 B ++ L)[k]? = some (pt (ρ k) (.cells (SV.dens ρ b.cells).toArray b.ty (0, 0))) := by rw [List.getElem?_append_left hlt]; exact h1
  have h3 := h.st.write h2 hos htape hout hsize hb' hne
  rw [List.set_append_left _ _ hlt] at h3
  refine ⟨h.size, h.nodef, h.env, fun t s e => by rw [List.length_set]; exact h.good t s e, fun c hc => ?_, by rw [List.length_set]; exact h.fix, ?_⟩
  · rw [List.length_set]
    rcases List.mem_or_eq_of_mem_set hc with hc | hc
    · exact h.bgood c hc
    · cases hc; exact ⟨hg, hb⟩
  · rw [boxes_set, Nat.zero_add]; exact h3

/-- a new variable -/
theorem Cx.new_box (h : Cx N w0 F0 D w F L B ρ l a) (b : Box) (hg : SV.goods F b.cells) (hb : SV.unders B.length b.cells = true) :
    ∃ ρ' : Nat → Nat, ρ' B.length = w.heap.size ∧ (∀ k, k < B.length → ρ' k = ρ k) ∧ Cx N w0 F0 D (w.alloc (.cells (SV.dens ρ b.cells).toArray b.ty (0, 0))) F L (B ++ [some b]) ρ' l a := by
  let ρ' : Nat → Nat := fun k => if k = B.length then w.heap.size else ρ k
  have hr : ∀ k, k < B.length → ρ' k = ρ k := fun k hk => by
    have : k ≠ B.length := by omega
    simp [ρ', this]
  have hself : ρ' B.length = w.heap.size := by simp [ρ']
  refine ⟨ρ', hself, hr, h.size, h.nodef, fun t s e => ?_, fun t s e => ?_, fun c hc => ?_, fun k b e => ⟨by rw [List.length_append]; have := (h.fix k b e).1; omega, (hr k (h.fix k b e).1).trans (h.fix k b e).2⟩, ?_⟩
  · rw [SV.den_ext hr (h.good t s e).2]; exact h.env t s e
  · rw [List.length_append]; exact ⟨(h.good t s e).1, SV.under_mono (by simp) (h.good t s e).2⟩
  · rw [List.length_append]
    rcases List.mem_append.1 hc with hc | hc
    · exact ⟨(h.bgood c hc).1, SV.unders_mono (by simp) (h.bgood c hc).2⟩
    · cases List.mem_singleton.1 hc; exact ⟨hg, SV.unders_mono (by simp) hb⟩
  · have hst := h.st.alloc (.cells (SV.dens ρ b.cells).toArray b.ty (0, 0))
    rw [boxes_append, boxes_ext hr B 0 (by omega) (fun c hc => (h.bgood c hc).2), Nat.zero_add]
    have e : boxes ρ' B.length [some b] = [pt w.heap.size (.cells (SV.dens ρ b.cells).toArray b.ty (0, 0))] := by
      simp only [boxes, obox, Box.sp]
      rw [hself, SV.dens_ext hr hb]
    rw [e, List.append_assoc]
    have h1 : St w0 F0 D (w.alloc (.cells (SV.dens ρ b.cells).toArray b.ty (0, 0))) F ((pt w.heap.size (.cells (SV.dens ρ b.cells).toArray b.ty (0, 0)) :: boxes ρ 0 B) ++ L) := hst
    have h2 := h1.swap
    have h3 : St w0 F0 D (w.alloc (.cells (SV.dens ρ b.cells).toArray b.ty (0, 0))) F ((L ++ [pt w.heap.size (.cells (SV.dens ρ b.cells).toArray b.ty (0, 0))]) ++ boxes ρ 0 B) := by
      simpa [List.append_assoc] using h2
    have h4 := h3.swap
    have h5 : St w0 F0 D (w.alloc (.cells (SV.dens ρ b.cells).toArray b.ty (0, 0))) F ((boxes ρ 0 B ++ L) ++ [pt w.heap.size (.cells (SV.dens ρ b.cells).toArray b.ty (0, 0))]) := by
      simpa [List.append_assoc] using h4
    -- bring the new one ahead of L
    obtain ⟨x, ha, hs, hf, hd⟩ := h5.own
    obtain ⟨g, k, a1, a2, c, rfl⟩ := all_append.1 ha
    obtain ⟨g1, g2, b1, b2, c2, rfl⟩ := all_append.1 a1
    obtain ⟨c3, c4⟩ := Heap.apart_join.1 c
    refine ⟨h5.os, h5.tape, h5.output, h5.size, h5.frame, h5.le, h5.new, h5.view, _, all_append.2 ⟨g1, k.join g2, b1, all_append.2 ⟨k, g2, a2, b2, c4.symm, rfl⟩, Heap.apart_join'.2 ⟨c3, c2⟩, rfl⟩, ?_, ?_, ?_⟩
    · rw [← Heap.join_comm (g := g2) (h := k) c4, ← Heap.join_assoc]; exact hs
    · rw [← Heap.join_comm (g := g2) (h := k) c4, ← Heap.join_assoc]; exact hf
    · rw [← Heap.join_comm (g := g2) (h := k) c4, ← Heap.join_assoc]; exact hd

end
end Go.Gw

