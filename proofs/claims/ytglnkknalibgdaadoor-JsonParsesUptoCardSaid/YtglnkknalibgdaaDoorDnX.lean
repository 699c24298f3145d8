/- A store to an element of an array of the call's own. For any program. -/
import Derived.Test.YtglnkknalibgdaaDoorDnH
set_option linter.unusedVariables false
set_option linter.unusedSimpArgs false
set_option linter.unnecessarySimpa false
namespace Go.Dn
open Go.Gw Go.RowKit
set_option linter.unusedSectionVars false
variable [Dfr]
set_option linter.unusedSimpArgs false

section
variable {Y : Tys} {hY : TysOk Y} {P : Program} {N : Nat} {w0 : World} {F0 : Heap} {D : Own} {H : List (Option Nat)} {w w' : World} {F F' : Heap} {ρ ρ' : List Pl} {os os' : List (Option Obj)} {s s' : Sy Y.T} {a a' : Act} {o : Oper} {R : Type} {ok : Nat → Bool} {r : R} {K : Act → World → Prop} {Q : Exit → Act → World → Prop} {k : Sy Y.T → Option R}

/-- an array's elements are written -/
theorem Cy.setArr (h : Cy hY N w0 F0 D H w F ρ os s a) {k e : Nat} {xs xs' : List (Y.T e)} {p : Pl} {cs : Array Value} {ob : Obj} (hk : s.m[k]? = some (.arr e xs)) (hp : ρ[k]? = some p) (ho : os[k]? = some (some ob))
    (hr : MemRel hY F ρ (.arr e xs') p (some (.cells cs e (0, 0)))) (hos : w'.os = w.os) (htape : w'.tape = w.tape) (hout : w'.output = w.output) (hsize : w'.heap.size = w.heap.size)
    (hb : w'.heap[p.blk]? = some (.cells cs e (0, 0))) (hne : ∀ x, x ≠ p.blk → w'.heap[x]? = w.heap[x]?) :
    Cy hY N w0 F0 D H w' F ρ (os.set k (some (.cells cs e (0, 0)))) ⟨s.l, s.m.set k (.arr e xs')⟩ a := by
  refine ⟨h.e, by simp [h.len], by simp [h.lon], fun j y q r h1 h2 h3 => ?_, ?_, fun j b e1 => ⟨(h.fix j b e1).1, fun y h2 => ?_⟩, h.long⟩
  · rw [List.getElem?_set] at h1 h3
    split at h1
    · rename_i hj
      subst hj
      have hl : k < s.m.length := (List.getElem?_eq_some_iff.1 hk).1
      rw [if_pos hl] at h1
      rw [if_pos rfl, if_pos (by rw [h.lon, ← h.len]; exact hl)] at h3
      cases h1; cases h3
      rw [hp] at h2; cases h2
      exact hr
    · rename_i hj
      rw [if_neg hj] at h3
      exact h.mem j y q r h1 h2 h3
  · rw [pts_seto hp]
    exact h.st.write (pts_get hp ho) hos htape hout hsize hb hne
  · rw [List.getElem?_set] at h2
    split at h2
    · rename_i hj
      subst hj
      cases (h.fix _ b e1).2 _ hk
    · exact (h.fix j b e1).2 y h2

def storeE (Y : Tys) (P : Program) (N : Nat) (ok : Nat → Bool) (s0 : Sy Y.T) (o : Oper) (k : Sy Y.T → Option R) : Option R := match o.op with
  | .store t x y =>
    let s := s0.frzs (opOwns s0.l [y])
    match evA s.l x, evA s.l y with
    | some (.oel j z i off), some v => match s.m[j]?, v.cells with
      | some (.arr e xs), some vc => bif sizeIs P t vc.length && Nat.beq z (Y.sz e) && Nat.ble (off + vc.length) (Y.sz e) && AV.ones vc && AV.frees vc && ok j then
          Option.bind (getI xs i) fun x0 => match Y.close e (setAtA (Y.cells e x0) off vc) with
            | some x1 => fin N o ⟨s.l, s.m.set j (.arr e (xs.set i.toNat x1))⟩ (.v undef) k
            | none => none
        else none
      | _, _ => none
    | _, _ => none
  | _ => none
theorem row_set {α : Type} {F : Heap} {d : Kind α} {cs us vals : List Value} {xs : List α} {x1 : α} {i off : Nat} (hr : rowIs F d cs xs) (hi : i < xs.length) (hus : d.holds F x1 us)
    (hlen : vals.length + off ≤ d.sz) (hsz : xs.length * d.sz ≤ cs.length) (hus0 : ∀ j v, us[j]? = some v → j < d.sz ∧ (if j < off then cs[i * d.sz + j]? = some v else if j < off + vals.length then vals[j - off]? = some v else cs[i * d.sz + j]? = some v)) :
    rowIs F d (cs.take (i * d.sz + off) ++ (vals ++ cs.drop (i * d.sz + off + vals.length))) (xs.set i x1) := by
  have hle : i * d.sz + d.sz ≤ cs.length := by
    have : (i + 1) * d.sz ≤ xs.length * d.sz := Nat.mul_le_mul_right _ hi
    rw [Nat.succ_mul] at this; omega
  have hget : ∀ q, (cs.take (i * d.sz + off) ++ (vals ++ cs.drop (i * d.sz + off + vals.length)))[q]? = if q < i * d.sz + off then cs[q]? else if q < i * d.sz + off + vals.length then vals[q - (i * d.sz + off)]? else cs[q]? := by
    intro q
    have hl : (cs.take (i * d.sz + off)).length = i * d.sz + off := by rw [List.length_take]; omega
    by_cases h1 : q < i * d.sz + off
    · rw [if_pos h1, List.getElem?_append_left (by omega), List.getElem?_take, if_pos h1]
    · rw [if_neg h1, List.getElem?_append_right (by omega), hl]
      by_cases h2 : q < i * d.sz + off + vals.length
      · rw [if_pos h2, List.getElem?_append_left (by omega)]
      · rw [if_neg h2, List.getElem?_append_right (by omega), List.getElem?_drop]
        congr 1; omega
  intro q x hx
  rw [List.getElem?_set] at hx
  split at hx
  · rename_i hq
    subst hq
    cases hx
    refine ⟨us, hus, fun j v hj => ?_⟩
    obtain ⟨h1, h2⟩ := hus0 j v hj
    rw [hget]
    by_cases c1 : j < off
    · rw [if_pos c1] at h2
      rw [if_pos (by omega)]; exact h2
    · rw [if_neg c1] at h2
      rw [if_neg (by omega)]
      by_cases c2 : j < off + vals.length
      · rw [if_pos c2] at h2
        rw [if_pos (by omega), show i * d.sz + j - (i * d.sz + off) = j - off by omega]; exact h2
      · rw [if_neg c2] at h2
        rw [if_neg (by omega)]; exact h2
  · rename_i hq
    obtain ⟨us', h1, h2⟩ := hr q x hx
    have hql : us'.length = d.sz ∨ True := .inr trivial
    refine ⟨us', h1, fun j v hj => ?_⟩
    have hc := h2 j v hj
    have hjl : j < d.sz := by
      obtain ⟨y, hp, hg⟩ := d.opn h1
      have hl := plains_length hp
      rw [d.len] at hl
      have := (List.getElem?_eq_some_iff.1 hj).1
      omega
    rw [hget]
    have hne : q * d.sz + j < i * d.sz + off ∨ i * d.sz + off + vals.length ≤ q * d.sz + j := by
      rcases Nat.lt_or_gt_of_ne (fun e => hq e.symm) with h | h
      · have : (q + 1) * d.sz ≤ i * d.sz := Nat.mul_le_mul_right _ h
        rw [Nat.succ_mul] at this; omega
      · have : (i + 1) * d.sz ≤ q * d.sz := Nat.mul_le_mul_right _ h
        rw [Nat.succ_mul] at this; omega
    rcases hne with h | h
    · rw [if_pos h]; exact hc
    · rw [if_neg (by omega), if_neg (by omega)]; exact hc
theorem storeE_ok {s0 : Sy Y.T} {F1 : Heap} {os1 : List (Option Obj)} (h0 : Cy hY N w0 F0 D H w F1 ρ os1 s0 a) (e : storeE Y P N ok s0 o k = some r) (hg0 : Goes hY N w0 F0 D H ok F1 ρ os1 s0.m k r K) : o.wp P a w K Q := by
  unfold storeE at e
  split at e
  · rename_i t x y hop
    dsimp only at e
    obtain ⟨F, os, h, t0⟩ := h0.frzs (ok := ok) (opOwns s0.l [y])
    generalize s0.frzs (opOwns s0.l [y]) = s at e h t0
    have hg : Goes hY N w0 F0 D H ok F ρ os s.m k r K := fun w' F' ρ' os' s' a' h1 h2 h3 => hg0 w' F' ρ' os' s' a' h1 (t0.trans h2 h.lon) h3
    split at e
    · rename_i j z i off v hx hy
      split at e
      · rename_i el xs vc hj hvc
        obtain ⟨hc, e5⟩ := bif_do e
        obtain ⟨x0, hx0, e6⟩ := bnd_some e5
        clear e e5
        split at e6
        · rename_i x1 hcl
          simp only [Bool.and_eq_true] at hc
          obtain ⟨⟨⟨⟨⟨c1, cz⟩, c2⟩, c3⟩, c5⟩, c4⟩ := hc
          have c1 := sizeIs_ok c1
          have cz : z = Y.sz el := Nat.eq_of_beq_eq_true cz
          subst cz
          have c2 := Nat.le_of_ble_eq_true c2
          obtain ⟨p, ob, hp, ho, hmp, hn, hm⟩ := h.at hj
          obtain ⟨hi0, hi⟩ : 0 ≤ i ∧ xs[i.toNat]? = some x0 := by
            unfold getI at hx0
            split at hx0
            · rename_i h0; exact ⟨h0, hx0⟩
            · cases hx0
          have hilt : i.toNat < xs.length := (List.getElem?_eq_some_iff.1 hi).1
          rcases hm with ⟨_, _, hnil, _⟩ | ⟨cs, hA, hob, hle, hmax, hsz, hrow⟩
          · rw [hnil] at hilt; exact absurd hilt (Nat.not_lt_zero _)
          · subst hob
            have hblk := h.blk hp ho
            have hrx := h.e.eval hx
            generalize hev : a.eval x = ux at hrx
            cases hrx with
            | @oel _ _ _ _ p' hp' =>
            rw [hp] at hp'; cases hp'
            have hry := AV.cells_rel hvc (h.e.eval hy)
            have hlen := hry.1
            obtain ⟨us0, hu0, hu1⟩ := hrow i.toNat x0 hi
            have hu0 : Rels Y F [] (Y.cells el x0) us0 := hu0
            have hul : us0.length = Y.sz el := by rw [hu0.1, hY.len]
            have hszl : cs.toList.length = p.c * Y.sz el := by rw [Array.length_toList]; exact hsz
            have hspan : i.toNat * Y.sz el + Y.sz el ≤ cs.toList.length := by
              have : (i.toNat + 1) * Y.sz el ≤ p.c * Y.sz el := Nat.mul_le_mul_right _ (by omega)
              rw [Nat.succ_mul] at this; omega
            have hnew : Rels Y F [] (Y.cells el x1) (us0.take off ++ ((a.eval y).cells.toList ++ us0.drop (off + vc.length))) :=
              hY.fit el _ x1 hcl F [] _ (setAtA_rel hu0 (hry.closed hY c5))
            have hrow2 := row_set (d := kR hY el) (vals := (a.eval y).cells.toList) (off := off) (i := i.toNat) hrow hilt hnew (by rw [hlen]; show vc.length + off ≤ Y.sz el; omega) (by rw [hszl]; exact Nat.mul_le_mul_right _ hle) (fun q u hq => by
              have hql := (List.getElem?_eq_some_iff.1 hq).1
              simp only [List.length_append, List.length_take, List.length_drop] at hql
              refine ⟨by show q < Y.sz el; omega, ?_⟩
              have htl : (us0.take off).length = off := by rw [List.length_take]; omega
              by_cases q1 : q < off
              · rw [if_pos q1]
                rw [List.getElem?_append_left (by omega), List.getElem?_take, if_pos q1] at hq
                exact hu1 q u hq
              · rw [if_neg q1]
                rw [List.getElem?_append_right (by omega), htl] at hq
                by_cases q2 : q < off + (a.eval y).cells.toList.length
                · rw [if_pos q2]
                  rw [List.getElem?_append_left (by omega)] at hq
                  exact hq
                · rw [if_neg q2]
                  rw [List.getElem?_append_right (by omega), List.getElem?_drop] at hq
                  refine hu1 q u ?_
                  rw [← hq]; congr 1; omega)
            obtain ⟨q1, q2, q3, q4, q5⟩ := setCells_os p.blk (a.eval y).cells.toList (i.toNat * Y.sz el + off) w
            have q6 := setCells_block p.blk (a.eval y).cells.toList (i.toNat * Y.sz el + off) w cs hblk (by rw [hlen, ← Array.length_toList]; omega)
            have hmem : MemRel hY F ρ (.arr el (xs.set i.toNat x1)) p (some (.cells (cs.toList.take (i.toNat * Y.sz el + off) ++ ((a.eval y).cells.toList ++ cs.toList.drop (i.toNat * Y.sz el + off + (a.eval y).cells.toList.length))).toArray el (0, 0))) := by
              refine ⟨hmp, by rw [List.length_set]; exact hn, .inr ⟨_, hA, rfl, by rw [List.length_set]; exact hle, hmax, ?_, ?_⟩⟩
              · rw [← hsz, ← Array.length_toList, ← Array.length_toList]
                simp only [List.length_append, List.length_take, List.length_drop]
                rw [hlen]; omega
              · exact hrow2
            have h2 := h.setArr hj hp ho hmem q1 q2 q3 q4 q6 q5
            have ht : Tr ok F ρ os s.m F ρ (os.set j (some (.cells (cs.toList.take (i.toNat * Y.sz el + off) ++ ((a.eval y).cells.toList ++ cs.toList.drop (i.toNat * Y.sz el + off + (a.eval y).cells.toList.length))).toArray el (0, 0)))) (s.m.set j (.arr el (xs.set i.toNat x1))) := by
              refine ⟨.refl F, Nat.le_refl _, fun i2 q o2 hk h1 h2 => ⟨h1, .inl ?_⟩, fun i2 ty2 l q h1 h2 => ⟨?_, q, h2, rfl⟩⟩
              · rw [List.getElem?_set, if_neg (fun e => by subst e; rw [c4] at hk; cases hk)]; exact h2
              · rw [List.getElem?_set]
                split
                · rename_i e1
                  subst e1
                  rw [hj] at h1; cases h1
                · exact ⟨_, _, h1⟩
            refine fin_skip (s := s) (s' := ⟨s.l, s.m.set j (.arr el (xs.set i.toNat x1))⟩) h2 ht ?_ e6 hg
            unfold execOp; rw [hop]
            have hthere : ∀ q, q < (a.eval y).cells.toList.length → (w.cell? ⟨p.blk, i.toNat * Y.sz el + off + 0 + q, none⟩).isSome = true := fun q hq => by
              rw [hlen] at hq
              have hq' : i.toNat * Y.sz el + off + q < cs.toList.length := by omega
              have hb2 : w.heap[p.blk]? = some (.cells cs.toList.toArray el (0, 0)) := by simpa using hblk
              rw [Nat.add_zero, cell_of_heap hb2 (List.getElem?_eq_getElem hq')]; rfl
            have hfree : ∀ q, q < (a.eval y).cells.toList.length → w.frozen? ⟨p.blk, i.toNat * Y.sz el + off + 0 + q, none⟩ = false := fun q _ => by
              unfold World.frozen?
              rw [hblk]
              simp
            have hst := run_storeCells_cells (P := P) p.blk (i.toNat * Y.sz el + off) (a.eval y).cells.toList 0 w hthere hfree (hry.ones c3)
            have hsz2 : (a.eval y).cells.size = vc.length := by rw [← Array.length_toList]; exact hlen
            have hst2 : (storeCells ⟨p.blk, i.toNat * Y.sz el + off, none⟩ (a.eval y).cells.toList).run P w = .ok () (w.setCells p.blk (i.toNat * Y.sz el + off) (a.eval y).cells.toList) := hst
            simp only [hev, Instr.storeAt, Instr.sureAddr, storeVar, Sem.run_bind, Sem.run_pure, Result.andThen_ok, sizeB_run c1, hsz2, ne_eq, not_true_eq_false, if_false, hst2]
        · cases e6
      · cases e
    · cases e
  · cases e
end
end Go.Dn

