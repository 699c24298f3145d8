/- Arrays of the call's own: frozen, appended to, read. For any program. -/
import Derived.Test.YtglnkknalibgdaaDoorDnD
import Derived.Maps.AppendAt
set_option linter.unusedVariables false
set_option linter.unusedSimpArgs false
set_option linter.unnecessarySimpa false
namespace Go.Dn
open Go.Gw Go.RowKit
set_option linter.unusedSectionVars false
variable [Dfr]
set_option linter.unusedSimpArgs false
section
variable {Y : Tys} {hY : TysOk Y} {P : Program} {N : Nat} {w0 : World} {F0 : Heap} {D : Own} {H : List (Option Nat)} {w w' : World} {F F' : Heap} {ρ ρ' : List Pl} {os : List (Option Obj)} {s : Sy Y.T} {a a' : Act} {o : Oper}

/-- an array is changed otherwise than by its place in the memory alone: how the rest goes on -/
theorem Cy.swap (h : Cy hY N w0 F0 D H w F ρ os s a) {b : Sb Y.T} {k : Nat} {e : Nat} {xs : List (Y.T e)} {p' : Pl} {o' : Option Obj} {x' : Mem Y.T} (hk : s.m[k]? = some (.arr e xs))
    (hl : Leads Y b F ρ F' (ρ.set k p')) (hst : Gw.St w0 F0 D w' F' (pts (ρ.set k p') (os.set k o'))) (hx : MemRel hY F' (ρ.set k p') x' p' o') :
    Cy hY N w0 F0 D H w' F' (ρ.set k p') (os.set k o') ⟨subEnv b s.l, (s.m.map (Mem.sub b)).set k x'⟩ a := by
  have hkl : k < s.m.length := (List.getElem?_eq_some_iff.1 hk).1
  refine ⟨hl.ey hY h.e, by simp [h.len], by simp [h.lon], fun j y q r h1 h2 h3 => ?_, hst, fun j bb e1 => ?_, by simpa using h.long⟩
  · rw [List.getElem?_set] at h1 h2 h3
    split at h1
    · rename_i hj
      subst hj
      rw [if_pos (by simpa using hkl)] at h1
      rw [if_pos rfl, if_pos (by rw [← h.len]; exact hkl)] at h2
      rw [if_pos rfl, if_pos (by rw [h.lon, ← h.len]; exact hkl)] at h3
      cases h1; cases h2; cases h3
      exact hx
    · rename_i hj
      rw [if_neg hj] at h2 h3
      rw [List.getElem?_map] at h1
      cases hm : s.m[j]? with
      | none => rw [hm] at h1; cases h1
      | some y0 => rw [hm] at h1; cases h1; exact hl.mem (h.mem j y0 q r hm h2 h3)
  · obtain ⟨⟨q, hq, hb⟩, h2⟩ := h.fix j bb e1
    have hne : k ≠ j := fun e2 => by subst e2; cases h2 _ hk
    refine ⟨⟨q, by rw [List.getElem?_set, if_neg hne]; exact hq, hb⟩, fun y h3 => ?_⟩
    rw [List.getElem?_set, if_neg hne, List.getElem?_map] at h3
    cases hm : s.m[j]? with
    | none => rw [hm] at h3; cases h3
    | some y0 =>
      rw [hm] at h3
      cases h3
      rw [Mem.still_sub]; exact h2 y0 hm

def frzSb {T : Nat → Type} (k : Nat) (b : AV T) : Sb T :=
  ⟨fun j => bif Nat.beq j k then b else .own j, fun j z i off => bif Nat.beq j k then .junk else .oel j z i off, fun j off => bif Nat.beq j k then .junk else .ptr j off⟩
def Sy.frz {T : Nat → Type} (s : Sy T) (k : Nat) : Sy T := match s.m[k]? with
  | some (.arr e xs) => ⟨subEnv (frzSb k (.sl e xs)) s.l, (s.m.map (Mem.sub (frzSb k (.sl e xs)))).set k .gone⟩
  | _ => s

theorem set_same {α : Type} {l : List α} {k : Nat} {x : α} (h : l[k]? = some x) : l.set k x = l := by
  apply List.ext_getElem?
  intro i
  rw [List.getElem?_set]
  have hk := (List.getElem?_eq_some_iff.1 h).1
  split
  · rename_i e; subst e; exact h.symm
  · rfl

theorem arr_sl {e : Nat} {xs : List (Y.T e)} {p : Pl} {o : Option Obj} {g : Heap} (hm : MemRel hY F ρ (.arr e xs) p o) (hg : (spOf p o).holds F g) (hap : F.Apart g) : Rel Y (F.join g) ρ' (.sl e xs) p.val := by
  obtain ⟨hmp, hn, hm⟩ := hm
  rw [Pl.val_sl hmp]
  rcases hm with ⟨hA, hc, rfl, rfl⟩ | ⟨cs, hA, rfl, hle, _, hsz, hrow⟩
  · rw [hA, hc, hn]
    exact .sl 0 0 (fun _ => []) (by simp) (fun i x hx => by simp at hx) (fun i x hx => by simp at hx) (fun i x j a u hx => by simp at hx)
  · have hg : g = Heap.one p.blk (.cells cs e (0, 0)) := hg
    subst hg
    have hF : (F.join (Heap.one p.blk (.cells cs e (0, 0)))) p.blk = some (.cells cs e (0, 0)) := Heap.join_right hap (Heap.one_self _ _)
    have hle' := Heap.join_le_left F (Heap.one p.blk (.cells cs e (0, 0)))
    have key : ∀ i x, xs[i]? = some x → ∃ us, Rels Y F [] (Y.cells e x) us ∧ ∀ j v, us[j]? = some v → cs.toList[i * Y.sz e + j]? = some v := hrow
    let vs : Nat → List Value := fun i => (cs.toList.drop (i * Y.sz e)).take (Y.sz e)
    have hvs : ∀ i x, xs[i]? = some x → Rels Y F [] (Y.cells e x) (vs i) := fun i x hx => by
      obtain ⟨us, h1, h2⟩ := key i x hx
      have : vs i = us := by
        apply List.ext_getElem?
        intro j
        have hl : us.length = Y.sz e := by rw [h1.1, hY.len]
        show ((cs.toList.drop (i * Y.sz e)).take (Y.sz e))[j]? = us[j]?
        rw [List.getElem?_take]
        split
        · rename_i hj
          rw [List.getElem?_drop]
          have hj' : j < us.length := by omega
          rw [h2 j us[j] (List.getElem?_eq_getElem hj')]
          exact (List.getElem?_eq_getElem hj').symm
        · rename_i hj
          rw [List.getElem?_eq_none (by omega)]
      rw [this]; exact h1
    rw [hA, hn]
    refine .sl p.blk 0 vs hle (fun _ _ _ => rfl) (fun i x hx => ⟨by rw [(hvs i x hx).1, hY.len], fun j v hv => ?_⟩) (fun i x j a u hx ha hu => ?_)
    · refine ⟨cs, e, (0, 0), hF, ?_⟩
      have hv : ((cs.toList.drop (i * Y.sz e)).take (Y.sz e))[j]? = some v := hv
      rw [List.getElem?_take] at hv
      split at hv
      · rw [List.getElem?_drop] at hv
        rw [Nat.zero_add, ← Array.getElem?_toList]; exact hv
      · cases hv
    · have := (hvs i x hx).2 j a u ha hu
      exact (this.mono hle' (ρ' := ρ') fun _ _ h => by simp at h)

theorem Cy.frz (h : Cy hY N w0 F0 D H w F ρ os s a) (k : Nat) : ∃ F' os', Cy hY N w0 F0 D H w F' ρ os' (s.frz k) a := by
  unfold Sy.frz
  split
  · rename_i e xs hk
    obtain ⟨p, o, hp, ho, hm⟩ := h.at hk
    obtain ⟨g, hg, hap, hst⟩ := freezeSet h.st (pts_get hp ho)
    have hset : ρ.set k p = ρ := set_same hp
    refine ⟨F.join g, os.set k none, ?_⟩
    have hl : Leads Y (frzSb k (.sl e xs)) F ρ (F.join g) (ρ.set k p) := by
      rw [hset]
      refine ⟨Heap.join_le_left _ _, fun j q e1 => ?_, fun j z i off q e1 => ?_, fun j off q e1 => ?_⟩ <;> simp only [frzSb] <;> cases hj : Nat.beq j k
      · exact .own e1
      · have := Nat.eq_of_beq_eq_true hj
        subst this
        rw [hp] at e1; cases e1
        exact arr_sl hm hg hap
      · exact .oel e1
      · exact .junk
      · exact .ptr e1
      · exact .junk
    have := h.swap (x' := .gone) (p' := p) (o' := none) hk hl (by rw [hset, pts_seto hp]; exact hst) trivial
    rwa [hset] at this
  · exact ⟨F, os, h⟩

theorem row_cellsG {α : Type} (d : Kind α) {F G : Heap} {b : Nat} : ∀ {ys : List α} {off : Nat}, (∀ i x, ys[i]? = some x → ∃ cs, d.holds F x cs ∧ cellsF G b (off + i * d.sz) cs) →
    ∃ vs : List Value, vs.length = ys.length * d.sz ∧ (∀ v ∈ vs, v.oneCell' = true) ∧ rowIs F d vs ys ∧ cellsF G b off vs
  | [], _, _ => ⟨[], by simp, (fun _ hv => by cases hv), (fun j y hj => by simp at hj), fun j v hj => by simp at hj⟩
  | y :: r, off, hcells => by
    obtain ⟨cs, h1, h2⟩ := hcells 0 y rfl
    rw [Nat.zero_mul, Nat.add_zero] at h2
    obtain ⟨vs, v1, v2, v3, v4⟩ := row_cellsG d (ys := r) (off := off + d.sz) (fun j x hj => by
      obtain ⟨cs', c1, c2⟩ := hcells (j + 1) x (by simpa using hj)
      rw [Nat.add_mul, Nat.one_mul] at c2
      exact ⟨cs', c1, by rw [show off + d.sz + j * d.sz = off + (j * d.sz + d.sz) by omega]; exact c2⟩)
    have hl := d.length h1
    refine ⟨cs ++ vs, by simp only [List.length_append, List.length_cons, hl, v1, Nat.add_mul]; omega, fun v hv => ?_, fun j x hj => ?_, fun j v hj => ?_⟩
    · rcases List.mem_append.1 hv with hv | hv
      · exact d.one h1 v hv
      · exact v2 v hv
    · cases j with
      | zero =>
        simp at hj; subst hj
        exact ⟨cs, h1, fun q v hq => by rw [Nat.zero_mul, Nat.zero_add, List.getElem?_append_left (List.getElem?_eq_some_iff.1 hq).1]; exact hq⟩
      | succ j =>
        simp only [List.getElem?_cons_succ] at hj
        obtain ⟨cs', c1, c2⟩ := v3 j x hj
        refine ⟨cs', c1, fun q v hq => ?_⟩
        rw [Nat.add_mul, Nat.one_mul, show j * d.sz + d.sz + q = cs.length + (j * d.sz + q) by omega, List.getElem?_append_right (by omega), Nat.add_sub_cancel_left]
        exact c2 q v hq
    · rw [List.getElem?_append] at hj
      split at hj
      · exact h2 j v hj
      · have := v4 _ v hj
        rwa [show off + d.sz + (j - cs.length) = off + j by omega] at this

/-- a slice whose elements are known -/
def SlIn (hY : TysOk Y) (F : Heap) (w : World) (e : Nat) (ys : List (Y.T e)) (u : Value) : Prop :=
  ∃ A c, u = .slice A ys.length c ∧ ys.length ≤ c ∧ (ys = [] ∨ ∃ b off, A = some ⟨b, off, none⟩ ∧ ∀ i x, ys[i]? = some x → ∃ us, (kR hY e).holds F x us ∧ ∀ j v, us[j]? = some v → w.cell? ⟨b, off + i * Y.sz e + j, none⟩ = some v)
def slAs {T : Nat → Type} (e : Nat) (m : List (Mem T)) : AV T → Option (List (T e))
  | .sl e' xs => if h : e' = e then some (h ▸ xs) else none
  | .own k => match m[k]? with
    | some (.arr e' xs) => if h : e' = e then some (h ▸ xs) else none
    | _ => none
  | .v (.slice none 0 0) => some []
  | _ => none
theorem slAs_ok (h : Cy hY N w0 F0 D H w F ρ os s a) {e : Nat} {x : AV Y.T} {ys : List (Y.T e)} {u : Value} (hx : slAs e s.m x = some ys) (hr : Rel Y F ρ x u) : SlIn hY F w e ys u := by
  unfold slAs at hx
  split at hx
  · rename_i e' xs
    split at hx
    · rename_i he
      subst he
      cases hx
      cases hr with
      | @sl _ _ A c b off vs hc hA hv hh =>
        refine ⟨A, c, rfl, hc, ?_⟩
        cases hxs : xs with
        | nil => exact .inl rfl
        | cons x0 r =>
          right
          rw [← hxs]
          refine ⟨b, off, hA 0 x0 (by rw [hxs]; rfl), fun i x hx => ⟨vs i, ⟨by rw [(hv i x hx).1, hY.len], fun j a u h1 h2 => ?_⟩, fun j v hj => cellF_read h.st.view ((hv i x hx).2 j v hj)⟩⟩
          exact (hh i x j a u hx h1 h2).closed hY (AV.frees_iff.1 (hY.free e' x) a (List.mem_of_getElem? h1))
    · cases hx
  · rename_i k
    split at hx
    · rename_i e' xs hk
      split at hx
      · rename_i he
        subst he
        cases hx
        cases hr with
        | @own _ pl hp =>
          obtain ⟨p, o, hp', ho, hmp, hn, hm⟩ := h.at hk
          rw [hp] at hp'; cases hp'
          rw [Pl.val_sl hmp]
          rcases hm with ⟨hA, hc, rfl, rfl⟩ | ⟨cs, hA, rfl, hle, _, hsz, hrow⟩
          · exact ⟨pl.A, pl.c, by rw [hn], by simp, .inl rfl⟩
          · refine ⟨pl.A, pl.c, by rw [hn], hle, .inr ⟨pl.blk, 0, hA, fun i x hx => ?_⟩⟩
            obtain ⟨us, h1, h2⟩ := hrow i x hx
            refine ⟨us, h1, fun j v hv => ?_⟩
            unfold World.cell?
            rw [h.blk hp ho]
            have h3 : cs.toList[i * Y.sz e' + j]? = some v := h2 j v hv
            rw [Nat.zero_add]
            simpa using h3
      · cases hx
    · cases hx
  · cases hx
    cases hr
    exact ⟨none, 0, rfl, Nat.le_refl _, .inl rfl⟩
  · cases hx
theorem SlIn.cells {e : Nat} {ys : List (Y.T e)} {u : Value} (h : SlIn hY F w e ys u) : ∃ news : List Value, news.length = ys.length * Y.sz e ∧ (∀ v ∈ news, v.oneCell' = true) ∧ rowIs F (kR hY e) news ys ∧
    (Builtin.lenOf u).run P w = .ok ys.length w ∧ ∀ w' : World, (∀ p, w'.cell? p = w.cell? p) → (Builtin.firstCells (Y.sz e) ys.length u).run P w' = .ok news.toArray w' := by
  obtain ⟨A, c, rfl, hc, h⟩ := h
  rcases h with rfl | ⟨b, off, rfl, hcells⟩
  · refine ⟨[], by simp, (fun _ hv => by cases hv), (fun j y hj => by simp at hj), rfl, fun w' _ => ?_⟩
    cases A with
    | none => rfl
    | some ad => simp [Builtin.firstCells, loadCells, loadCellsFrom]
  · let G : Heap := fun x => match w.heap[x]? with | some (.cells cs t f) => some (.cells cs t f) | _ => none
    have hG : ∀ {q j : Nat} {v : Value}, w.cell? ⟨q, j, none⟩ = some v ↔ cellF G q j v := by
      intro q j v
      constructor
      · intro hh
        unfold World.cell? at hh
        split at hh
        · rename_i cs t f hq
          exact ⟨cs, t, f, by show (match w.heap[q]? with | some (.cells cs t f) => some (Obj.cells cs t f) | _ => none) = _; rw [hq], hh⟩
        · cases hh
      · rintro ⟨cs, t, f, h1, h2⟩
        have h1 : (match w.heap[q]? with | some (.cells cs t f) => some (Obj.cells cs t f) | _ => none) = some (Obj.cells cs t f) := h1
        unfold World.cell?
        cases hq : w.heap[q]? with
        | none => rw [hq] at h1; cases h1
        | some ob =>
          rw [hq] at h1
          cases ob <;> simp only at h1 <;> cases h1
          simpa using h2
    obtain ⟨vs, v1, v2, v3, v4⟩ := row_cellsG (kR hY e) (F := F) (G := G) (b := b) (off := off) (ys := ys) fun i x hx => by
      obtain ⟨us, h1, h2⟩ := hcells i x hx
      exact ⟨us, h1, fun j v hv => hG.1 (h2 j v hv)⟩
    refine ⟨vs, v1, v2, v3, rfl, fun w' hw => ?_⟩
    exact run_firstCells_some (P := P) w' (Y.sz e) ys.length ⟨b, off, none⟩ ys.length c vs v1 (fun j v hv => by
      rw [add_at, hw]; exact hG.2 (v4 j v hv))

/-- append onto an array of the call's own -/
theorem Cy.app (h : Cy hY N w0 F0 D H w F ρ os s a) {k e : Nat} {xs ys : List (Y.T e)} {T T2 : TypeId} {dd : TypeDesc} {m bytes : Nat} {news : List Value} {u x : Value} (hk : s.m[k]? = some (.arr e xs))
    (hu : Rel Y F ρ (.own k) u) (hT : elemB P T = some e) (hT2 : P.underlying T2 = some dd) (hdd : dd = .string ∨ ∃ q, dd = .slice q) (hi : infoB P e (Y.sz e) bytes = true) (hb : bytes ≤ 256)
    (hroom : room (xs.length + ys.length) = some ()) (hlen : (Builtin.lenOf x).run P w = .ok m w) (hfirst : ∀ w' : World, (∀ p, w'.cell? p = w.cell? p) → (Builtin.firstCells (Y.sz e) m x).run P w' = .ok news.toArray w')
    (hl : news.length = m * Y.sz e) (hone : ∀ v ∈ news, v.oneCell' = true) (hm : ys.length = m) (hys : rowIs F (kR hY e) news ys) (ty : TypeId) :
    ∃ w' p' o', (Builtin.append_ #[T, T2] ty #[u, x]).run P w = .ok p'.val w' ∧
      Cy hY N w0 F0 D H w' F (ρ.set k p') (os.set k o') ⟨subEnv (keepSb Y.T (fun j => !(Nat.beq j k))) s.l, (s.m.map (Mem.sub (keepSb Y.T (fun j => !(Nat.beq j k))))).set k (.arr e (xs ++ ys))⟩ a ∧ k < ρ.length := by
  obtain ⟨p, o, hp, ho, hmp, hn, hmem⟩ := h.at hk
  cases hu with
  | @own _ pl hp' =>
  rw [hp] at hp'; cases hp'
  rw [Pl.val_sl hmp]
  obtain ⟨inf, z, hinf, hz, hsz, hby, hzs⟩ := infoB_ok hi
  have hrm : xs.length + m ≤ 274877906944 := by
    unfold room at hroom
    split at hroom
    · rw [← hm]; assumption
    · cases hroom
  have hlim : 2 * (xs.length + m) * inf.bytes + 256 * inf.bytes ≤ 281474976710656 := by
    rw [hby]
    have h1 : 2 * (xs.length + m) * bytes ≤ 549755813888 * 256 := Nat.mul_le_mul (by omega) hb
    have h2 : 256 * bytes ≤ 256 * 256 := Nat.mul_le_mul_left _ hb
    omega
  have hi' := pts_get hp ho
  obtain ⟨q, ha, hs', _, _⟩ := h.st.own
  obtain ⟨g, r, hacc, _, rfl, _, _⟩ := all_at hi' ha
  have hsub : g.Sub w := hs'.of_join_left
  have hacc' : ∀ g, (spOf p o).holds F g → (accP e (kR hY e) p.A p.c xs).holds F g := fun g hacc => by
    rcases hmem with ⟨hA, hc, rfl, rfl⟩ | ⟨cs, hA, rfl, hle, hmax, hcs, hrow⟩
    · exact .inl ⟨hA, hc, rfl, hacc⟩
    · exact .inr ⟨p.blk, cs, hA, hacc, hle, hmax, hcs, hrow⟩
  obtain ⟨A', c', w', g1, hrun, p1, p2, p3, p4, p5, p6, p7, p8⟩ := app_run (P := P) (d := kR hY e) (t := T) (u := T2) (ty := ty) (elemB_under hT) hT2 hdd hinf hz hsz hzs (hacc' g hacc) hsub hlen (by rw [hsz]; exact hfirst) hl hone hm hys hlim (by omega)
  have done : ∀ (p' : Pl) (o' : Option Obj), p'.mp = false → p'.A = A' → p'.n = (xs ++ ys).length → p'.c = c' → (spOf p' o').holds F g1 → MemRel hY F (ρ.set k p') (.arr e (xs ++ ys)) p' o' →
      ∃ w' p' o', (Builtin.append_ #[T, T2] ty #[.slice p.A p.n p.c, x]).run P w = .ok p'.val w' ∧
      Cy hY N w0 F0 D H w' F (ρ.set k p') (os.set k o') ⟨subEnv (keepSb Y.T (fun j => !(Nat.beq j k))) s.l, (s.m.map (Mem.sub (keepSb Y.T (fun j => !(Nat.beq j k))))).set k (.arr e (xs ++ ys))⟩ a ∧ k < ρ.length := by
    intro p' o' e0 e1 e2 e3 hsp hmr
    refine ⟨w', p', o', by rw [Pl.val_sl e0, hn, hrun, e1, e2, e3], ?_, (List.getElem?_eq_some_iff.1 hp).1⟩
    have hst := h.st.replace (A1 := spOf p' o') hi' (w' := w') (fun g0 hg0 hs0 => by
      have : g0 = g := accP_one (hacc' g0 hg0) hs0 (hacc' g hacc) hsub
      subst this
      exact ⟨p1, p2, p3, p4, p5, g1, hsp, p7, p8⟩)
    rw [← pts_set] at hst
    refine h.swap hk (.keep _ (.refl F) fun j q hj e => ?_) hst hmr
    have hne : k ≠ j := fun e => by subst e; simp at hj
    rw [List.getElem?_set, if_neg hne]; exact e
  rcases p6 with ⟨hA, hc, hxs, hg1⟩ | ⟨b, cells, hA, hg1, hle, hmax, hcs, hrow⟩
  · exact done ⟨0, A', (xs ++ ys).length, c', false⟩ none rfl rfl rfl rfl hg1 ⟨rfl, rfl, .inl ⟨hA, hc, hxs, rfl⟩⟩
  · exact done ⟨b, A', (xs ++ ys).length, c', false⟩ (some (.cells cells e (0, 0))) rfl rfl rfl rfl hg1 ⟨rfl, rfl, .inr ⟨cells, hA, rfl, hle, hmax, hcs, hrow⟩⟩
end
end Go.Dn

