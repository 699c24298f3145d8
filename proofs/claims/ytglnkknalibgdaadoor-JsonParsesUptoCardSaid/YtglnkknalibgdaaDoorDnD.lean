/- What an operation does to what is known. For any program. -/
import Derived.Test.YtglnkknalibgdaaDoorDnC
set_option linter.unusedVariables false
set_option linter.unusedSimpArgs false
set_option linter.unnecessarySimpa false
namespace Go.Dn
open Go.Gw Go.RowKit
set_option linter.unusedSectionVars false
variable [Dfr]
set_option linter.unusedSimpArgs false
section
variable {Y : Tys} {hY : TysOk Y} {P : Program} {N : Nat} {w0 : World} {F0 : Heap} {D : Own} {H : List (Option Nat)} {w w' : World} {F F' : Heap} {ρ ρ' : List Pl} {os : List (Option Obj)} {s : Sy Y.T} {a a' : Act} {o : Oper}

theorem pts_get : ∀ {ρ : List Pl} {os : List (Option Obj)} {k : Nat} {p : Pl} {o : Option Obj}, ρ[k]? = some p → os[k]? = some o → (pts ρ os)[k]? = some (spOf p o)
  | [], os, k, p, o, h, _ => by simp at h
  | p0 :: ρ, [], k, p, o, _, h => by simp at h
  | p0 :: ρ, o0 :: os, 0, p, o, h1, h2 => by simp at h1 h2; subst h1; subst h2; rfl
  | p0 :: ρ, o0 :: os, k + 1, p, o, h1, h2 => by
    simp only [List.getElem?_cons_succ] at h1 h2
    simp only [pts, List.getElem?_cons_succ]
    exact pts_get h1 h2
theorem pts_set : ∀ {ρ : List Pl} {os : List (Option Obj)} {k : Nat} {p : Pl} {o : Option Obj}, pts (ρ.set k p) (os.set k o) = (pts ρ os).set k (spOf p o)
  | [], os, k, p, o => by simp [pts]
  | p0 :: ρ, [], k, p, o => by cases k <;> simp [pts]
  | p0 :: ρ, o0 :: os, 0, p, o => by simp [pts]
  | p0 :: ρ, o0 :: os, k + 1, p, o => by simp only [List.set_cons_succ, pts]; rw [pts_set]
theorem pts_seto {ρ : List Pl} {os : List (Option Obj)} {k : Nat} {p : Pl} {o : Option Obj} (h : ρ[k]? = some p) : pts ρ (os.set k o) = (pts ρ os).set k (spOf p o) := by
  rw [← pts_set]
  congr 1
  have hk := (List.getElem?_eq_some_iff.1 h).1
  apply List.ext_getElem?
  intro i
  rw [List.getElem?_set]
  split
  · rename_i e; subst e; exact h
  · rfl
theorem pts_append : ∀ {ρ : List Pl} {os : List (Option Obj)} {ρ2 : List Pl} {os2 : List (Option Obj)}, os.length = ρ.length → pts (ρ ++ ρ2) (os ++ os2) = pts ρ os ++ pts ρ2 os2
  | [], [], _, _, _ => rfl
  | [], _ :: _, _, _, h => by simp at h
  | p :: ρ, [], _, _, h => by simp at h
  | p :: ρ, o :: os, _, _, h => by simp only [List.cons_append, pts]; rw [pts_append (by simpa using h)]
theorem pts_take : ∀ (ρ : List Pl) (os : List (Option Obj)) (n : Nat), pts (ρ.take n) (os.take n) = (pts ρ os).take n
  | [], os, n => by simp [pts]
  | p :: ρ, [], n => by cases n <;> simp [pts]
  | p :: ρ, o :: os, 0 => by simp [pts]
  | p :: ρ, o :: os, n + 1 => by simp only [List.take_succ_cons, pts]; rw [pts_take]

theorem Cy.at (h : Cy hY N w0 F0 D H w F ρ os s a) {k : Nat} {x : Mem Y.T} (hk : s.m[k]? = some x) : ∃ p o, ρ[k]? = some p ∧ os[k]? = some o ∧ MemRel hY F ρ x p o := by
  have h1 := (List.getElem?_eq_some_iff.1 hk).1
  have h2 : k < ρ.length := by rw [← h.len]; exact h1
  have h3 : k < os.length := by rw [h.lon]; exact h2
  exact ⟨_, _, List.getElem?_eq_getElem h2, List.getElem?_eq_getElem h3, h.mem k x _ _ hk (List.getElem?_eq_getElem h2) (List.getElem?_eq_getElem h3)⟩
theorem Cy.blk (h : Cy hY N w0 F0 D H w F ρ os s a) {k : Nat} {p : Pl} {ob : Obj} (hp : ρ[k]? = some p) (ho : os[k]? = some (some ob)) : w.heap[p.blk]? = some ob :=
  h.st.block (i := k) (pts_get hp ho)
theorem Cy.my (h : Cy hY N w0 F0 D H w F ρ os s a) : My hY F ρ os s.m w := by
  intro k x hk
  obtain ⟨p, o, h1, h2, h3⟩ := h.at hk
  cases x with
  | gone => trivial
  | cells ty l => exact ⟨p, o, h1, h2, h3, fun ob e => by subst e; exact h.blk h1 h2⟩
  | arr e xs => exact ⟨p, o, h1, h2, h3, fun ob e => by subst e; exact h.blk h1 h2⟩
  | mp kk e xs => exact ⟨p, o, h1, h2, h3, fun ob e => by subst e; exact h.blk h1 h2⟩
  | it z pos => exact ⟨p, o, h1, h2, h3, fun ob e => by subst e; exact h.blk h1 h2⟩

def fitsD (N : Nat) : Option Tmp → Bool
  | some d => Nat.blt d N
  | none => true
def afterA {T : Nat → Type} (l : AEnv T) : Option Tmp → AV T → AEnv T
  | some d, x => (d, x) :: l
  | none, _ => l
theorem Ey.put {l : AEnv Y.T} (h : Ey Y N F ρ l a) {d : Option Tmp} {x : AV Y.T} {u : Value} (hd : fitsD N d = true) (hr : Rel Y F ρ x u) : Ey Y N F ρ (afterA l d x) (a.put d u) := by
  refine ⟨by rw [put_size]; exact h.size, by rw [put_defers]; exact h.nodef, ?_⟩
  cases d with
  | none => exact h.env
  | some d =>
    have hd : d < N := Nat.le_of_ble_eq_true hd
    intro t y e
    simp only [afterA, lookA] at e
    cases hk : Nat.beq d t with
    | true =>
      rw [hk] at e
      simp at e
      subst e
      have := Nat.eq_of_beq_eq_true hk
      subst this
      exact ⟨hd, by rw [put_get_self _ _ _ (by rw [h.size]; exact hd)]; exact hr⟩
    | false =>
      rw [hk] at e
      simp at e
      have hne : t ≠ d := fun e' => by rw [← e', Nat.beq_refl] at hk; cases hk
      rw [put_get_other _ _ _ _ hne]
      exact h.env t y e
def Sy.put {T : Nat → Type} (s : Sy T) (d : Option Tmp) (x : AV T) : Sy T := ⟨afterA s.l d x, s.m⟩
theorem Cy.put (h : Cy hY N w0 F0 D H w F ρ os s a) {d : Option Tmp} {x : AV Y.T} {u : Value} (hd : fitsD N d = true) (hr : Rel Y F ρ x u) : Cy hY N w0 F0 D H w F ρ os (s.put d x) (a.put d u) :=
  ⟨h.e.put hd hr, h.len, h.lon, h.mem, h.st, h.fix, h.long⟩

theorem MemRel.mono (hF : F.Le F') (hρ : ∀ (k : Nat) (p : Pl), ρ[k]? = some p → ρ'[k]? = some p) {x : Mem Y.T} {p : Pl} {o : Option Obj} (h : MemRel hY F ρ x p o) : MemRel hY F' ρ' x p o := by
  cases x with
  | gone => trivial
  | cells ty l => obtain ⟨vs, h1, h2⟩ := h; exact ⟨vs, h1.mono hF hρ, h2⟩
  | arr e xs =>
    obtain ⟨h0, h1, h2⟩ := h
    exact ⟨h0, h1, h2.imp id fun ⟨cs, a1, a2, a3, a4, a5, a6⟩ => ⟨cs, a1, a2, a3, a4, a5, a6.mono hF⟩⟩
  | mp kk e xs => obtain ⟨h1, es, h2, h3⟩ := h; exact ⟨h1, es, h2, h3.mono hF⟩
  | it z pos => exact h
theorem Ey.mono {l : AEnv Y.T} (hF : F.Le F') (hρ : ∀ (k : Nat) (p : Pl), ρ[k]? = some p → ρ'[k]? = some p) (h : Ey Y N F ρ l a) : Ey Y N F' ρ' l a :=
  ⟨h.size, h.nodef, fun t x e => ⟨(h.env t x e).1, (h.env t x e).2.mono hF hρ⟩⟩

/-- a new object at the end -/
theorem Cy.grow (h : Cy hY N w0 F0 D H w F ρ os s a) (hF : F.Le F') {x : Mem Y.T} {p : Pl} {o : Option Obj} (hst : Gw.St w0 F0 D w' F' (pts ρ os ++ [spOf p o])) (hx : MemRel hY F' (ρ ++ [p]) x p o) :
    Cy hY N w0 F0 D H w' F' (ρ ++ [p]) (os ++ [o]) ⟨s.l, s.m ++ [x]⟩ a := by
  have hρ : ∀ (k : Nat) (q : Pl), ρ[k]? = some q → (ρ ++ [p])[k]? = some q := fun k q e => by
    rw [List.getElem?_append_left (List.getElem?_eq_some_iff.1 e).1]; exact e
  refine ⟨h.e.mono hF hρ, by simp [h.len], by simp [h.lon], fun k y q r h1 h2 h3 => ?_, by rw [pts_append h.lon]; exact hst, fun k b e => ?_, by simp; exact Nat.le_succ_of_le h.long⟩
  · by_cases hk : k < ρ.length
    · rw [List.getElem?_append_left (by rw [h.len]; exact hk)] at h1
      rw [List.getElem?_append_left hk] at h2
      rw [List.getElem?_append_left (by rw [h.lon]; exact hk)] at h3
      exact (h.mem k y q r h1 h2 h3).mono hF hρ
    · have hlt := (List.getElem?_eq_some_iff.1 h2).1
      simp at hlt
      have hk' : k = ρ.length := by omega
      subst hk'
      rw [← h.len, List.getElem?_concat_length] at h1
      rw [List.getElem?_concat_length] at h2
      rw [← h.lon, List.getElem?_concat_length] at h3
      cases h1; cases h2; cases h3
      exact hx
  · have h1 := h.fix k b e
    obtain ⟨⟨q, hq, hb⟩, h2⟩ := h1
    have hk := (List.getElem?_eq_some_iff.1 hq).1
    refine ⟨⟨q, hρ k q hq, hb⟩, fun x => ?_⟩
    rw [List.getElem?_append_left (by rw [h.len]; exact hk)]
    exact h2 x
theorem Cy.alloc (h : Cy hY N w0 F0 D H w F ρ os s a) {x : Mem Y.T} {p : Pl} {ob : Obj} (hp : p.blk = w.heap.size) (hx : MemRel hY F (ρ ++ [p]) x p (some ob)) :
    Cy hY N w0 F0 D H (w.alloc ob) F (ρ ++ [p]) (os ++ [some ob]) ⟨s.l, s.m ++ [x]⟩ a := by
  refine h.grow (.refl F) ?_ hx
  have h1 := h.st.alloc ob
  have h2 : Gw.St w0 F0 D (w.alloc ob) F ([pt w.heap.size ob] ++ pts ρ os) := h1
  have h3 := h2.swap
  show Gw.St w0 F0 D (w.alloc ob) F (pts ρ os ++ [pt p.blk ob])
  rw [hp]; exact h3
theorem emp_append {L : List SP} (h : Gw.St w0 F0 D w F L) : Gw.St w0 F0 D w F (L ++ [emp]) :=
  let ⟨x, a, r⟩ := h.own
  ⟨h.os, h.tape, h.output, h.size, h.frame, h.le, h.new, h.view, x, all_append.2 ⟨x, Heap.nil, a, ⟨Heap.nil, Heap.nil, rfl, rfl, Heap.nil_apart _, rfl⟩, (Heap.nil_apart _).symm, (Heap.join_nil _).symm⟩, r⟩
/-- an array of no elements -/
theorem Cy.newArr (h : Cy hY N w0 F0 D H w F ρ os s a) (e : Nat) : Cy hY N w0 F0 D H w F (ρ ++ [⟨0, none, 0, 0, false⟩]) (os ++ [none]) ⟨s.l, s.m ++ [.arr e []]⟩ a :=
  h.grow (.refl F) (emp_append h.st) ⟨rfl, rfl, .inl ⟨rfl, rfl, rfl, rfl⟩⟩

/-- cells are written -/
theorem Cy.setCells (h : Cy hY N w0 F0 D H w F ρ os s a) {k : Nat} {ty ty' : TypeId} {cs cs' : List (AV Y.T)} {p : Pl} {vs : List Value} {ob : Obj} (hk : s.m[k]? = some (.cells ty cs)) (hp : ρ[k]? = some p) (ho : os[k]? = some (some ob))
    (hr : Rels Y F ρ cs' vs) (hbk : BldOk (Y.bld ty') p vs) (hos : w'.os = w.os) (htape : w'.tape = w.tape) (hout : w'.output = w.output) (hsize : w'.heap.size = w.heap.size)
    (hb : w'.heap[p.blk]? = some (.cells vs.toArray ty' (0, 0))) (hne : ∀ x, x ≠ p.blk → w'.heap[x]? = w.heap[x]?) :
    Cy hY N w0 F0 D H w' F ρ (os.set k (some (.cells vs.toArray ty' (0, 0)))) ⟨s.l, s.m.set k (.cells ty' cs')⟩ a := by
  refine ⟨h.e, by simp [h.len], by simp [h.lon], fun j y q r h1 h2 h3 => ?_, ?_, fun j b e => ⟨(h.fix j b e).1, fun y h2 => ?_⟩, h.long⟩
  · rw [List.getElem?_set] at h1 h3
    split at h1
    · rename_i hj
      subst hj
      have hl : k < s.m.length := (List.getElem?_eq_some_iff.1 hk).1
      rw [if_pos hl] at h1
      rw [if_pos rfl, if_pos (by rw [h.lon, ← h.len]; exact hl)] at h3
      cases h1; cases h3
      rw [hp] at h2; cases h2
      exact ⟨vs, hr, rfl, hbk⟩
    · rename_i hj
      rw [if_neg hj] at h3
      exact h.mem j y q r h1 h2 h3
  · rw [pts_seto hp]
    exact h.st.write (pts_get hp ho) hos htape hout hsize hb hne
  · rw [List.getElem?_set] at h2
    split at h2
    · split at h2 <;> cases h2
      rfl
    · exact (h.fix j b e).2 y h2

/-- what is left where only some objects are known any more -/
def keepSb (T : Nat → Type) (f : Nat → Bool) : Sb T := ⟨fun k => bif f k then .own k else .junk, fun k s i off => bif f k then .oel k s i off else .junk, fun k off => bif f k then .ptr k off else .junk⟩
def subEnv {T : Nat → Type} (b : Sb T) (l : AEnv T) : AEnv T := l.map fun p => (p.1, p.2.sub b)
def Mem.sub {T : Nat → Type} (b : Sb T) : Mem T → Mem T
  | .gone => .gone
  | .cells ty l => .cells ty (AV.subs b l)
  | .arr e xs => .arr e xs
  | .mp k e x => .mp k e x
  | .it s pos => .it s pos
theorem Mem.still_sub {T : Nat → Type} (b : Sb T) (x : Mem T) : (x.sub b).still = x.still := by cases x <;> rfl
theorem lookA_sub {T : Nat → Type} (b : Sb T) (t : Nat) : ∀ l : AEnv T, lookA (subEnv b l) t = (lookA l t).map (AV.sub b)
  | [] => rfl
  | (k, x) :: l => by
    simp only [subEnv, List.map_cons, lookA]
    cases Nat.beq k t with
    | true => rfl
    | false => exact lookA_sub b t l
/-- b leads from what F, ρ mean to what F', ρ' mean -/
structure Leads (Y : Tys) (b : Sb Y.T) (F : Heap) (ρ : List Pl) (F' : Heap) (ρ' : List Pl) : Prop where
  le : F.Le F'
  own : ∀ (k : Nat) (p : Pl), ρ[k]? = some p → Rel Y F' ρ' (b.own k) p.val
  oel : ∀ (k z : Nat) (i : Int) (off : Nat) (p : Pl), ρ[k]? = some p → Rel Y F' ρ' (b.oel k z i off) (.pointer (some ⟨p.blk, i.toNat * z + off, none⟩))
  ptr : ∀ (k off : Nat) (p : Pl), ρ[k]? = some p → Rel Y F' ρ' (b.ptr k off) (.pointer (some ⟨p.blk, off, none⟩))
theorem Leads.rel (hY : TysOk Y) {b : Sb Y.T} (h : Leads Y b F ρ F' ρ') {x : AV Y.T} {u : Value} (r : Rel Y F ρ x u) : Rel Y F' ρ' (x.sub b) u := r.sub hY h.le b h.own h.oel h.ptr
theorem Leads.rels (hY : TysOk Y) {b : Sb Y.T} (h : Leads Y b F ρ F' ρ') {l : List (AV Y.T)} {vs : List Value} (r : Rels Y F ρ l vs) : Rels Y F' ρ' (AV.subs b l) vs := r.sub hY h.le b h.own h.oel h.ptr
theorem Leads.ey (hY : TysOk Y) {b : Sb Y.T} (h : Leads Y b F ρ F' ρ') {l : AEnv Y.T} (e : Ey Y N F ρ l a) : Ey Y N F' ρ' (subEnv b l) a := by
  refine ⟨e.size, e.nodef, fun t x hx => ?_⟩
  rw [lookA_sub] at hx
  cases hl : lookA l t with
  | none => rw [hl] at hx; cases hx
  | some y => rw [hl] at hx; cases hx; exact ⟨(e.env t y hl).1, h.rel hY (e.env t y hl).2⟩
theorem Leads.mem {b : Sb Y.T} (h : Leads Y b F ρ F' ρ') {x : Mem Y.T} {p : Pl} {o : Option Obj} (r : MemRel hY F ρ x p o) : MemRel hY F' ρ' (x.sub b) p o := by
  cases x with
  | gone => trivial
  | cells ty l => obtain ⟨vs, h1, h2⟩ := r; exact ⟨vs, h.rels hY h1, h2⟩
  | arr e xs =>
    obtain ⟨h0, h1, h2⟩ := r
    exact ⟨h0, h1, h2.imp id fun ⟨cs, a1, a2, a3, a4, a5, a6⟩ => ⟨cs, a1, a2, a3, a4, a5, a6.mono h.le⟩⟩
  | mp kk e xs => obtain ⟨h1, es, h2, h3⟩ := r; exact ⟨h1, es, h2, h3.mono h.le⟩
  | it z pos => exact r
theorem Leads.keep (f : Nat → Bool) (hF : F.Le F') (hρ : ∀ (k : Nat) (p : Pl), f k = true → ρ[k]? = some p → ρ'[k]? = some p) : Leads Y (keepSb Y.T f) F ρ F' ρ' := by
  refine ⟨hF, fun k p e => ?_, fun k z i off p e => ?_, fun k off p e => ?_⟩ <;> simp only [keepSb] <;> cases hf : f k
  · exact .junk
  · exact .own (hρ k p hf e)
  · exact .junk
  · exact .oel (hρ k p hf e)
  · exact .junk
  · exact .ptr (hρ k p hf e)

/-- only the first objects are wanted any more -/
def Sy.shrink {T : Nat → Type} (s : Sy T) (n : Nat) : Sy T := ⟨subEnv (keepSb T (Nat.blt · n)) s.l, (s.m.take n).map (Mem.sub (keepSb T (Nat.blt · n)))⟩
theorem Cy.shrink (h : Cy hY N w0 F0 D H w F ρ os s a) (n : Nat) (hn : H.length ≤ n) : Cy hY N w0 F0 D H w F (ρ.take n) (os.take n) (s.shrink n) a := by
  have hl : Leads Y (keepSb Y.T (Nat.blt · n)) F ρ F (ρ.take n) := .keep _ (.refl F) fun k p hf e => by
    rw [List.getElem?_take, if_pos (show k < n from Nat.le_of_ble_eq_true hf)]; exact e
  refine ⟨hl.ey hY h.e, by simp [Sy.shrink, h.len], by simp [h.lon], fun k y q r h1 h2 h3 => ?_, ?_, fun k b e => ?_, ?_⟩
  · simp only [Sy.shrink, List.getElem?_map, List.getElem?_take] at h1 h2 h3
    split at h2
    · rename_i hk
      rw [if_pos hk] at h1 h3
      cases hm : s.m[k]? with
      | none => rw [hm] at h1; cases h1
      | some x => rw [hm] at h1; cases h1; exact hl.mem (h.mem k x q r hm h2 h3)
    · cases h2
  · rw [pts_take]
    have h1 : Gw.St w0 F0 D w F ((pts ρ os).take n ++ (pts ρ os).drop n) := by rw [List.take_append_drop]; exact h.st
    exact h1.swap.only
  · have hk : k < H.length := (List.getElem?_eq_some_iff.1 e).1
    obtain ⟨⟨p, hp, hb⟩, h2⟩ := h.fix k b e
    refine ⟨⟨p, by rw [List.getElem?_take, if_pos (by omega)]; exact hp, hb⟩, fun y h3 => ?_⟩
    simp only [Sy.shrink, List.getElem?_map, List.getElem?_take, if_pos (show k < n by omega)] at h3
    cases hm : s.m[k]? with
    | none => rw [hm] at h3; cases h3
    | some x =>
      rw [hm] at h3
      cases h3
      rw [Mem.still_sub]; exact h2 x hm
  · rw [List.length_take]; exact Nat.le_min.2 ⟨hn, h.long⟩

/-- of the slots only some are wanted any more -/
theorem Cy.slots (h : Cy hY N w0 F0 D H w F ρ os s a) {l' : AEnv Y.T} (hl : ∀ t x, lookA l' t = some x → lookA s.l t = some x) : Cy hY N w0 F0 D H w F ρ os ⟨l', s.m⟩ a :=
  ⟨⟨h.e.size, h.e.nodef, fun t x e => h.e.env t x (hl t x e)⟩, h.len, h.lon, h.mem, h.st, h.fix, h.long⟩

/-- what is owned turns into what never changes any more; its place is empty then -/
theorem freezeSet {L : List SP} (h : Gw.St w0 F0 D w F L) {i : Nat} {A : SP} (hi : L[i]? = some A) :
    ∃ g, A.holds F g ∧ F.Apart g ∧ Gw.St w0 F0 D w (F.join g) (L.set i emp) := by
  obtain ⟨x, a, s, f, d⟩ := h.own
  obtain ⟨g, k, ha, c, rfl, ae, put⟩ := all_at hi a
  obtain ⟨f1, f2⟩ := Heap.apart_join'.1 f
  refine ⟨g, ha, f1, h.os, h.tape, h.output, h.size, h.frame, h.le.trans (Heap.join_le_left _ _), ?_, h.view.join s.of_join_left, _, put (A' := emp) (g' := Heap.nil) (k' := k) (Heap.join_le_left _ _) rfl (all_mono (Heap.join_le_left _ _) ae) (Heap.nil_apart _),
    Heap.Sub.join ⟨fun _ _ e => by cases e⟩ (s.of_join_right c), Heap.apart_join.2 ⟨by rw [Heap.nil_join]; exact f2, by rw [Heap.nil_join]; exact c⟩, fun b o e => d b o (Heap.join_right c (by rwa [Heap.nil_join] at e))⟩
  intro b hb hd
  rw [← h.new b hb hd]
  cases e : g b with
  | none => unfold Heap.join; cases F b <;> simp [e]
  | some o => rcases d b o (Heap.join_left e) with e2 | e2; exact absurd e2 hd; omega
end
end Go.Dn

