/- Operations that make or change objects. For any program. -/
import Derived.Test.YtglnkknalibgdaaDoorDnF
set_option linter.unusedVariables false
set_option linter.unusedSimpArgs false
set_option linter.unnecessarySimpa false
namespace Go.Dn
open Go.Gw Go.RowKit
set_option linter.unusedSectionVars false
variable [Dfr]
set_option linter.unusedSimpArgs false

/-- how it goes on from one state to another: ok: what may be changed -/
structure Tr {T : Nat → Type} (ok : Nat → Bool) (F : Heap) (ρ : List Pl) (os : List (Option Obj)) (m : List (Mem T)) (F' : Heap) (ρ' : List Pl) (os' : List (Option Obj)) (m' : List (Mem T)) : Prop where
  le : F.Le F'
  long : ρ.length ≤ ρ'.length
  stands : ∀ (k : Nat) (p : Pl) (o : Option Obj), ok k = false → ρ[k]? = some p → os[k]? = some o → ρ'[k]? = some p ∧ (os'[k]? = some o ∨ ∀ ob, o = some ob → F' p.blk = some ob)
  cells : ∀ (k : Nat) (ty : TypeId) (l : List (AV T)) (p : Pl), m[k]? = some (.cells ty l) → ρ[k]? = some p → (∃ ty' l', m'[k]? = some (.cells ty' l')) ∧ ∃ p', ρ'[k]? = some p' ∧ p'.blk = p.blk
section
variable {T : Nat → Type}
theorem Tr.refl (ok : Nat → Bool) (F : Heap) (ρ : List Pl) (os : List (Option Obj)) (m : List (Mem T)) : Tr ok F ρ os m F ρ os m :=
  ⟨.refl F, Nat.le_refl _, fun _ _ _ _ h1 h2 => ⟨h1, .inl h2⟩, fun _ ty l p h1 h2 => ⟨⟨ty, l, h1⟩, p, h2, rfl⟩⟩
theorem Tr.trans {ok : Nat → Bool} {F F1 F2 : Heap} {ρ ρ1 ρ2 : List Pl} {os os1 os2 : List (Option Obj)} {m m1 m2 : List (Mem T)} (h : Tr ok F ρ os m F1 ρ1 os1 m1) (g : Tr ok F1 ρ1 os1 m1 F2 ρ2 os2 m2) (hl : os1.length = ρ1.length) : Tr ok F ρ os m F2 ρ2 os2 m2 := by
  refine ⟨h.le.trans g.le, Nat.le_trans h.long g.long, fun k p o hk hp ho => ?_, fun k ty l p hm hp => ?_⟩
  · obtain ⟨h1, h2⟩ := h.stands k p o hk hp ho
    have hlt : k < os1.length := by rw [hl]; exact (List.getElem?_eq_some_iff.1 h1).1
    obtain ⟨g1, g2⟩ := g.stands k p _ hk h1 (List.getElem?_eq_getElem hlt)
    refine ⟨g1, ?_⟩
    rcases h2 with h2 | h2
    · rw [List.getElem?_eq_getElem hlt] at h2
      have h2 := Option.some.inj h2
      rw [h2] at g2
      exact g2
    · exact .inr fun ob e => g.le.out _ _ (h2 ob e)
  · obtain ⟨⟨ty1, l1, h1⟩, p1, hp1, hb1⟩ := h.cells k ty l p hm hp
    obtain ⟨h2, p2, hp2, hb2⟩ := g.cells k ty1 l1 p1 h1 hp1
    exact ⟨h2, p2, hp2, hb2.trans hb1⟩
theorem Tr.grow (ok : Nat → Bool) {F F' : Heap} {ρ ρ2 : List Pl} {os os2 : List (Option Obj)} {m m2 : List (Mem T)} (hF : F.Le F') : Tr ok F ρ os m F' (ρ ++ ρ2) (os ++ os2) (m ++ m2) :=
  ⟨hF, by simp, fun k p o _ h1 h2 => ⟨by rw [List.getElem?_append_left (List.getElem?_eq_some_iff.1 h1).1]; exact h1, .inl (by rw [List.getElem?_append_left (List.getElem?_eq_some_iff.1 h2).1]; exact h2)⟩,
   fun k ty l p h1 h2 => ⟨⟨ty, l, by rw [List.getElem?_append_left (List.getElem?_eq_some_iff.1 h1).1]; exact h1⟩, p, by rw [List.getElem?_append_left (List.getElem?_eq_some_iff.1 h2).1]; exact h2, rfl⟩⟩
end

section
variable {Y : Tys} {hY : TysOk Y} {P : Program} {N : Nat} {w0 : World} {F0 : Heap} {D : Own} {H : List (Option Nat)} {w w' : World} {F F' : Heap} {ρ ρ' : List Pl} {os os' : List (Option Obj)} {s s' : Sy Y.T} {a a' : Act} {o : Oper} {R : Type} {ok : Nat → Bool} {k : Sy Y.T → Option R} {r : R} {K : Act → World → Prop} {Q : Exit → Act → World → Prop}

/-- wherever it goes on, it ends well -/
def Goes (hY : TysOk Y) (N : Nat) (w0 : World) (F0 : Heap) (D : Own) (H : List (Option Nat)) (ok : Nat → Bool) (F : Heap) (ρ : List Pl) (os : List (Option Obj)) (m : List (Mem Y.T)) (k : Sy Y.T → Option R) (r : R) (K : Act → World → Prop) : Prop :=
  ∀ w' F' ρ' os' s' a', Cy hY N w0 F0 D H w' F' ρ' os' s' a' → Tr ok F ρ os m F' ρ' os' s'.m → k s' = some r → K a' w'

def fin {T : Nat → Type} (N : Nat) (o : Oper) (s : Sy T) (x : AV T) (k : Sy T → Option R) : Option R := bif fitsD N o.dst then k (s.put o.dst x) else none
theorem fin_ok {x : AV Y.T} {u : Value} (h' : Cy hY N w0 F0 D H w' F' ρ' os' s' a) (ht : Tr ok F ρ os s.m F' ρ' os' s'.m) (hrun : (execOp a.eval o).run P w = .ok (.value u) w') (hr : Rel Y F' ρ' x u) (e : fin N o s' x k = some r)
    (hg : Goes hY N w0 F0 D H ok F ρ os s.m k r K) : o.wp P a w K Q := by
  unfold fin at e
  obtain ⟨hd, e⟩ := bif_do e
  exact wp_of_run hrun (hg _ _ _ _ _ _ (h'.put hd hr) ht e)
theorem fin_skip (h' : Cy hY N w0 F0 D H w' F' ρ' os' s' a) (ht : Tr ok F ρ os s.m F' ρ' os' s'.m) (hrun : (execOp a.eval o).run P w = .ok .skip w') (e : fin N o s' (.v undef) k = some r)
    (hg : Goes hY N w0 F0 D H ok F ρ os s.m k r K) : o.wp P a w K Q := by
  unfold fin at e
  obtain ⟨hd, e⟩ := bif_do e
  exact wp_of_skip hrun (hg _ _ _ _ _ _ (h'.put hd .v) ht e)

/-- what makes a new object -/
def newA {T : Nat → Type} (P : Program) (s : Sy T) : Op → Option (Mem T)
  | .alloc e => match P.info? e with
    | some i => match i.zero with | some z => some (.cells e (z.cells.toList.map .v)) | none => none
    | none => none
  | .box e x => match evA s.l x with
    | some y => match y.cells with | some cs => some (.cells e cs) | none => none
    | none => none
  | _ => none
/-- builders begin without an address -/
def bldM (Y : Tys) : Mem Y.T → Bool
  | .cells ty l => bldNew (Y.bld ty) l
  | _ => true
theorem newA_ok {x : Mem Y.T} (h : Cy hY N w0 F0 D H w F ρ os s a) (hbm : bldM Y x = true) (e : newA P s o.op = some x) (e2 : fin N o ⟨s.l, s.m ++ [x]⟩ (.ptr s.m.length 0) k = some r)
    (hg : Goes hY N w0 F0 D H ok F ρ os s.m k r K) : o.wp P a w K Q := by
  have go : ∀ {t : TypeId} {cs : List (AV Y.T)} {vs : List Value}, x = .cells t cs → Rels Y F ρ cs vs → (execOp a.eval o).run P w = .ok (.value (.pointer (some ⟨w.heap.size, 0, none⟩))) (w.alloc (.cells vs.toArray t (0, 0))) → o.wp P a w K Q := by
    intro t cs vs hx hr hrun
    subst hx
    have hρ : ∀ (k : Nat) (q : Pl), ρ[k]? = some q → (ρ ++ [(⟨w.heap.size, none, 0, 0, false⟩ : Pl)])[k]? = some q := fun k q e => by
      rw [List.getElem?_append_left (List.getElem?_eq_some_iff.1 e).1]; exact e
    have h1 := h.alloc (x := .cells t cs) (p := ⟨w.heap.size, none, 0, 0, false⟩) (ob := .cells vs.toArray t (0, 0)) rfl ⟨vs, hr.mono (.refl F) hρ, rfl, bldNew_ok hr hbm⟩
    refine fin_ok (s := s) h1 (Tr.grow ok (.refl F)) hrun (.ptr (pl := ⟨w.heap.size, none, 0, 0, false⟩) (by rw [h.len]; simp)) e2 hg
  unfold newA at e
  split at e
  · rename_i t hop
    split at e
    · rename_i i hi
      split at e
      · rename_i z hz
        cases e
        refine go rfl (Rels.v z.cells.toList) ?_
        unfold execOp; rw [hop]
        have hz2 : z.cells.toList.toArray = z.cells := by simp
        simp only [Instr.alloc, Sem.run_bind, zeroValue_run hi hz, Result.andThen_ok, newVar_run, hz2]
        rfl
      · cases e
    · cases e
  · rename_i t x' hop
    split at e
    · rename_i y hx
      split at e
      · rename_i cs hc
        cases e
        refine go rfl (AV.cells_rel hc (h.e.eval hx)) ?_
        unfold execOp; rw [hop]
        have hz2 : (a.eval x').cells.toList.toArray = (a.eval x').cells := by simp
        simp only [Instr.box, Sem.run_bind, newVar_run, Result.andThen_ok, hz2]
        rfl
      · cases e
    · cases e
  · cases e

/-- data written out, one after another -/
inductive RowF (Y : Tys) (e : Nat) : Nat → List (Nat × AV Y.T) → List (Y.T e) → Prop where
  | nil {j : Nat} : RowF Y e j [] []
  | cons {j : Nat} {x : AV Y.T} {cs : List (AV Y.T)} {y : Y.T e} {r : List (Nat × AV Y.T)} {ys : List (Y.T e)} (hc : x.cells = some cs) (hf : ∀ (F : Heap) (ρ : List Pl) (vs : List Value), Rels Y F ρ cs vs → Rels Y F ρ (Y.cells e y) vs) (h : RowF Y e (j + 1) r ys) :
      RowF Y e j ((j, x) :: r) (y :: ys)
def byteOf {T : Nat → Type} : List (AV T) → Option Int
  | [.v (.int .u8 n)] => some n
  | _ => none
def rowK {R : Type} (Y : Tys) (e : Nat) : Nat → List (Nat × AV Y.T) → (List (Y.T e) → Option R) → Option R
  | _, [], k => k []
  | j, (i, x) :: r, k => match x.cells with
    | some cs => if h : e = Y.byt then
        (match byteOf cs with
        | some n => Option.bind (toB n) fun b => rowK Y e (j + 1) r fun ys => bif Nat.beq i j then k ((h ▸ cast Y.isB.symm b) :: ys) else none
        | none => none)
      else (match Y.close e cs with
        | some y => rowK Y e (j + 1) r fun ys => bif Nat.beq i j then k (y :: ys) else none
        | none => none)
    | none => none
theorem rowK_ok {R : Type} (hY : TysOk Y) {e : Nat} : ∀ {ss : List (Nat × AV Y.T)} {j : Nat} {k : List (Y.T e) → Option R} {r : R}, rowK Y e j ss k = some r → ∃ ys, RowF Y e j ss ys ∧ k ys = some r
  | [], j, k, r, h => ⟨[], .nil, h⟩
  | (i, x) :: ss, j, k, r, h => by
    simp only [rowK] at h
    split at h
    · rename_i cs hcs
      split at h
      · rename_i he
        subst he
        split at h
        · rename_i n hn
          cases hb : toB n with
          | none => rw [hb] at h; cases h
          | some b =>
            rw [hb] at h
            obtain ⟨ys, h1, h2⟩ := rowK_ok hY h
            obtain ⟨hij, h3⟩ := bif_do h2
            have hij := Nat.eq_of_beq_eq_true hij
            subst hij
            refine ⟨_, .cons hcs (fun F ρ vs hr => ?_) h1, h3⟩
            unfold byteOf at hn
            split at hn
            · cases hn
              rw [hY.byte]
              have hcc : cast Y.isB (cast Y.isB.symm b) = b := by simp
              rw [hcc, ← toB_some hb]
              exact hr
            · cases hn
        · cases h
      · split at h
        · rename_i y hy
          obtain ⟨ys, h1, h2⟩ := rowK_ok hY h
          obtain ⟨hij, h3⟩ := bif_do h2
          have hij := Nat.eq_of_beq_eq_true hij
          subst hij
          exact ⟨_, .cons hcs (fun F ρ vs hr => hY.fit e cs y hy F ρ vs hr) h1, h3⟩
        · cases h
    · cases h
theorem rowX_ok {e n : Nat} (hn : Y.sz e = n) : ∀ {ss : List (Nat × AV Y.T)} {us : List (Nat × Value)} {j : Nat} {ys : List (Y.T e)} (c : Array Value), RowF Y e j ss ys → us.map (·.1) = ss.map (·.1) → Rels Y F ρ (ss.map (·.2)) (us.map (·.2)) → (j + ss.length) * n ≤ c.size →
    ∃ vs : List Value, vs.length = ys.length * n ∧ ys.length = ss.length ∧ rowIs F (kR hY e) vs ys ∧ Instr.fill (fun i => some (i * n, n)) c us = some (c.toList.take (j * n) ++ (vs ++ c.toList.drop ((j + ss.length) * n))).toArray
  | [], us, j, ys, c, e1, h1, _, _ => by
    cases e1
    have : us = [] := by simpa using h1
    subst this
    exact ⟨[], by simp, rfl, (fun j y hj => by simp at hj), by simp [Instr.fill, List.take_append_drop]⟩
  | (i, x) :: r, us, j, ys, c, e1, h1, h2, hc => by
    cases us with
    | nil => simp at h1
    | cons u us =>
      obtain ⟨i', u⟩ := u
      simp only [List.map_cons, List.cons.injEq] at h1
      obtain ⟨rfl, h1⟩ := h1
      obtain ⟨u', r', e2, h3, h4⟩ := h2.inv
      simp only [List.map_cons, List.cons.injEq] at e2
      obtain ⟨rfl, rfl⟩ := e2
      cases e1 with
      | @cons _ _ cs y _ ys' hcs hf hr =>
            have hfit := hf F ρ _ (AV.cells_rel hcs h3)
            have hsz : u.cells.size = n := by rw [← Array.length_toList, hfit.1, hY.len, hn]
            simp only [List.length_cons] at hc
            have hin : j * n + n ≤ c.size := by
              have : (j + (r.length + 1)) * n = j * n + n + r.length * n := by rw [Nat.add_mul, Nat.add_mul]; omega
              omega
            have hf : u.cells.zipIdx.foldl (fun cs (x : Value × Nat) => cs.setIfInBounds (j * n + x.2) x.1) c = (c.toList.take (j * n) ++ (u.cells.toList ++ c.toList.drop (j * n + n))).toArray := by
              rw [← Array.foldl_toList, Array.toList_zipIdx, foldl_set _ _ _ _ (by simp [hsz]; omega)]
              simp [hsz]
            have hsz2 : (c.toList.take (j * n) ++ (u.cells.toList ++ c.toList.drop (j * n + n))).toArray.size = c.size := by
              simp [hsz]; omega
            obtain ⟨vs, q1, q2, q3, q4⟩ := rowX_ok hn (j := j + 1) (c.toList.take (j * n) ++ (u.cells.toList ++ c.toList.drop (j * n + n))).toArray hr h1 h4 (by rw [hsz2]; simp only [Nat.add_mul] at hc ⊢; omega)
            refine ⟨u.cells.toList ++ vs, by simp only [List.length_append, List.length_cons, Array.length_toList, hsz, q1, Nat.add_mul]; omega, by simp [q2], fun q x hx => ?_, ?_⟩
            · cases q with
              | zero =>
                simp at hx; subst hx
                exact ⟨u.cells.toList, hfit.closed hY (hY.free e y), fun jj v hv => by rw [Nat.zero_mul, Nat.zero_add, List.getElem?_append_left (List.getElem?_eq_some_iff.1 hv).1]; exact hv⟩
              | succ q =>
                simp only [List.getElem?_cons_succ] at hx
                obtain ⟨us', c1, c2⟩ := q3 q x hx
                refine ⟨us', c1, fun jj v hv => ?_⟩
                have c3 : vs[q * Y.sz e + jj]? = some v := c2 jj v hv
                show (u.cells.toList ++ vs)[(q + 1) * Y.sz e + jj]? = some v
                rw [Nat.add_mul, Nat.one_mul, show q * Y.sz e + Y.sz e + jj = u.cells.toList.length + (q * Y.sz e + jj) by rw [Array.length_toList, hsz]; omega, List.getElem?_append_right (by omega), Nat.add_sub_cancel_left]
                exact c3
            · simp only [Instr.fill]
              have hno : ¬ (u.cells.size ≠ n || decide (j * n + u.cells.size > c.size)) = true := by
                simp [hsz]; omega
              rw [if_neg hno, hf, q4]
              congr 2
              have e1 : (j + 1) * n = j * n + n := by rw [Nat.add_mul]; omega
              have e2 : (j + 1 + r.length) * n = j * n + n + r.length * n := by rw [Nat.add_mul, Nat.add_mul]; omega
              have e3 : (j + (r.length + 1)) * n = j * n + n + r.length * n := by rw [Nat.add_mul, Nat.add_mul]; omega
              have l1 : (c.toList.take (j * n)).length = j * n := by simp; omega
              have l2 : u.cells.toList.length = n := by rw [Array.length_toList, hsz]
              rw [e1, e2, List.length_cons, e3]
              simp only [List.take_append, List.drop_append, l1, l2, List.append_assoc, List.drop_drop]
              have f1 : j * n + n - j * n = n := by omega
              have f2 : j * n + n - j * n - n = 0 := by omega
              have f3 : j * n + n + r.length * n - j * n - n = r.length * n := by omega
              simp only [f1, f2, f3, Nat.sub_self, List.take_zero, List.append_nil]
              rw [List.take_of_length_le (show (c.toList.take (j * n)).length ≤ j * n + n by omega), List.take_of_length_le (show u.cells.toList.length ≤ n by omega), List.drop_of_length_le (show (c.toList.take (j * n)).length ≤ j * n + n + r.length * n by omega), List.drop_of_length_le (show u.cells.toList.length ≤ j * n + n + r.length * n - j * n by omega)]
              simp

mutual
/-- arrays of the call's own that a value holds -/
def AV.owns {T : Nat → Type} : AV T → List Nat
  | .own k => [k]
  | .agg l => AV.ownsL l
  | .tup l => AV.ownsL l
  | _ => []
def AV.ownsL {T : Nat → Type} : List (AV T) → List Nat
  | [] => []
  | a :: l => a.owns ++ AV.ownsL l
end
def opOwns {T : Nat → Type} (l : AEnv T) : List Operand → List Nat
  | [] => []
  | x :: r => (match evA l x with | some a => a.owns | none => []) ++ opOwns l r
def Sy.frzs {T : Nat → Type} (s : Sy T) : List Nat → Sy T
  | [] => s
  | k :: r => (s.frz k).frzs r
theorem Cy.frz' (h : Cy hY N w0 F0 D H w F ρ os s a) (j : Nat) : ∃ F' os', Cy hY N w0 F0 D H w F' ρ os' (s.frz j) a ∧ Tr ok F ρ os s.m F' ρ os' (s.frz j).m := by
  unfold Sy.frz
  split
  · rename_i e xs hk
    obtain ⟨p, o, hp, ho, hm⟩ := h.at hk
    obtain ⟨g, hg, hap, hst⟩ := freezeSet h.st (pts_get hp ho)
    have hset : ρ.set j p = ρ := set_same hp
    refine ⟨F.join g, os.set j none, ?_⟩
    have hl : Leads Y (frzSb j (.sl e xs)) F ρ (F.join g) (ρ.set j p) := by
      rw [hset]
      refine ⟨Heap.join_le_left _ _, fun i q e1 => ?_, fun i z n off q e1 => ?_, fun i off q e1 => ?_⟩ <;> simp only [frzSb] <;> cases hj : Nat.beq i j
      · exact .own e1
      · have := Nat.eq_of_beq_eq_true hj
        subst this
        rw [hp] at e1; cases e1
        exact arr_sl hm hg hap
      · exact .oel e1
      · exact .junk
      · exact .ptr e1
      · exact .junk
    have := h.swap (x' := .gone) (p' := p) (o' := none) hk hl (by rw [hset, pts_seto hp]; exact hst) trivial
    rw [hset] at this
    refine ⟨this, Heap.join_le_left _ _, Nat.le_refl _, fun i q o2 _ h1 h2 => ⟨h1, ?_⟩, fun i ty l q h1 h2 => ⟨⟨ty, AV.subs (frzSb j (.sl e xs)) l, ?_⟩, q, h2, rfl⟩⟩
    · by_cases hi : j = i
      · subst hi
        rw [hp] at h1; rw [ho] at h2
        cases h1; cases h2
        right
        intro ob e2
        subst e2
        have hg : g = Heap.one p.blk ob := hg
        subst hg
        exact Heap.join_right hap (Heap.one_self _ _)
      · left; rw [List.getElem?_set, if_neg hi]; exact h2
    · have hne : j ≠ i := fun e2 => by subst e2; rw [hk] at h1; cases h1
      show ((s.m.map (Mem.sub (frzSb j (.sl e xs)))).set j .gone)[i]? = _
      rw [List.getElem?_set, if_neg hne, List.getElem?_map, h1]
      rfl
  · exact ⟨F, os, h, Tr.refl ok F ρ os s.m⟩
theorem Cy.frzs (h : Cy hY N w0 F0 D H w F ρ os s a) : ∀ (ks : List Nat), ∃ F' os', Cy hY N w0 F0 D H w F' ρ os' (s.frzs ks) a ∧ Tr ok F ρ os s.m F' ρ os' (s.frzs ks).m := by
  intro ks
  induction ks generalizing s F os with
  | nil => exact ⟨F, os, h, Tr.refl ok F ρ os s.m⟩
  | cons j r ih =>
    obtain ⟨F1, os1, h1, t1⟩ := h.frz' (ok := ok) j
    obtain ⟨F2, os2, h2, t2⟩ := ih h1
    exact ⟨F2, os2, h2, t1.trans t2 h1.lon⟩
end
end Go.Dn

