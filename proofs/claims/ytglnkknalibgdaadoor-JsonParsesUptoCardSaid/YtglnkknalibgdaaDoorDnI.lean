/- Append. For any program. -/
import Derived.Test.YtglnkknalibgdaaDoorDnH
set_option linter.unusedVariables false
set_option linter.unusedSimpArgs false
set_option linter.unnecessarySimpa false
namespace Go.Dn
open Go.Gw Go.RowKit
set_option linter.unusedSectionVars false
variable [Dfr]
set_option linter.unusedSimpArgs false

section
variable {Y : Tys} {hY : TysOk Y} {P : Program} {N : Nat} {w0 : World} {F0 : Heap} {D : Own} {H : List (Option Nat)} {w w' : World} {F F' : Heap} {ρ ρ' : List Pl} {os os' : List (Option Obj)} {s s' : Sy Y.T} {a a' : Act} {o : Oper} {R : Type} {ok : Nat → Bool} {r : R} {K : Act → World → Prop} {Q : Exit → Act → World → Prop}

theorem bytes_row (hsz : Y.sz Y.byt = 1) (q : Str) : rowIs F (kR hY Y.byt) (q.map fun b => Value.int .u8 (b.toNat : Int)) (cast (congrArg List Y.isB.symm) q) := by
  intro j y hj
  rw [castL_get Y.isB.symm] at hj
  cases hb : q[j]? with
  | none => rw [hb] at hj; cases hj
  | some b =>
    rw [hb] at hj
    simp only [Option.map_some, Option.some.injEq] at hj
    refine ⟨[.int .u8 (b.toNat : Int)], ?_, fun i v hv => ?_⟩
    · show Rels Y F [] (Y.cells Y.byt y) _
      rw [hY.byte, ← hj]
      have hcc2 : cast Y.isB (cast Y.isB.symm b) = b := by simp
      rw [hcc2]
      exact Rels.cons .v Rels.nil
    · cases i with
      | succ i => simp at hv
      | zero =>
        simp at hv; subst hv
        show (q.map fun b => Value.int .u8 (b.toNat : Int))[j * Y.sz Y.byt + 0]? = _
        rw [hsz, Nat.mul_one, Nat.add_zero]
        simp [hb]

theorem appA_ok {k : Sy Y.T → AV Y.T → Option R} (hsz : Y.sz Y.byt = 1) (h : Cy hY N w0 F0 D H w F ρ os s a) (e : appA Y P ok s o.op k = some r)
    (hfin : ∀ s' x w' F' ρ' os' u, k s' x = some r → Cy hY N w0 F0 D H w' F' ρ' os' s' a → Tr ok F ρ os s.m F' ρ' os' s'.m → (execOp a.eval o).run P w = .ok (.value u) w' → Rel Y F' ρ' x u → o.wp P a w K Q) : o.wp P a w K Q := by
  unfold appA at e
  split at e
  · rename_i c hop
    split at e
    · rename_i x y t t2 hcal hargs hts
      split at e
      · rename_i el hel
        split at e
        · rename_i i hi
          obtain ⟨hc, e⟩ := bif_do e
          simp only [Bool.and_eq_true] at hc
          have hb := Nat.le_of_ble_eq_true hc.2
          -- from a state that has the array
          have go : ∀ (v : AV Y.T) (s1 : Sy Y.T) (ρ1 : List Pl) (os1 : List (Option Obj)) (j : Nat), Cy hY N w0 F0 D H w F ρ1 os1 s1 a → Tr ok F ρ os s.m F ρ1 os1 s1.m → Rel Y F ρ1 v (a.eval y) → Rel Y F ρ1 (.own j) (a.eval x) →
              appGo Y P ok el t2 v k s1 j = some r → o.wp P a w K Q := by
            intro v s1 ρ1 os1 j h1 t1 hrv hrx e
            unfold appGo at e
            split at e
            · rename_i zs ys hzs hys
              obtain ⟨hokj, e⟩ := bif_do e
              obtain ⟨u0, hroom, hk⟩ := bnd_some e
              have hroom : room (zs.length + ys.length) = some () := hroom
              have harr : s1.m[j]? = some (.arr el zs) := by
                simp only [slAs] at hzs
                split at hzs
                · rename_i e' xs hm
                  split at hzs
                  · rename_i he; subst he; cases hzs; exact hm
                  · cases hzs
                · cases hzs
              have news : ∃ (news : List Value) (dd : TypeDesc), P.underlying t2 = some dd ∧ (dd = .string ∨ ∃ q, dd = .slice q) ∧ news.length = ys.length * Y.sz el ∧ (∀ v ∈ news, v.oneCell' = true) ∧ rowIs F (kR hY el) news ys ∧
                  (Builtin.lenOf (a.eval y)).run P w = .ok ys.length w ∧ ∀ w' : World, (∀ p, w'.cell? p = w.cell? p) → (Builtin.firstCells (Y.sz el) ys.length (a.eval y)).run P w' = .ok news.toArray w' := by
                unfold newsOf at hys
                cases hst : isStrB P t2 with
                | true =>
                  rw [hst] at hys
                  simp only [cond_true] at hys
                  unfold strAs at hys
                  split at hys
                  · rename_i q
                    split at hys
                    · rename_i he
                      subst he
                      cases hys
                      have ey := hrv.v_inv
                      have hlen : (cast (congrArg List Y.isB.symm) q.data.toList).length = q.data.toList.length := castL_length Y.isB.symm _
                      refine ⟨q.data.toList.map fun b => Value.int .u8 (b.toNat : Int), .string, isStrB_ok hst, .inl rfl, by rw [hlen, hsz]; simp, fun v hv => ?_, bytes_row hsz _, ?_, fun w' _ => ?_⟩
                      · obtain ⟨b, _, rfl⟩ := List.mem_map.1 hv; rfl
                      · rw [ey, hlen]; rfl
                      · rw [ey, hlen, hsz]; exact Lib.run_firstCells_string (P := P) w' 1 q
                    · cases hys
                  · cases hys
                | false =>
                  rw [hst] at hys
                  simp only [cond_false] at hys
                  obtain ⟨ht2, hys⟩ := bif_do hys
                  obtain ⟨nw, n1, n2, n3, n4, n5⟩ := (slAs_ok h1 hys hrv).cells (P := P)
                  exact ⟨nw, .slice el, elemB_under (elemIs_ok ht2), .inr ⟨el, rfl⟩, n1, n2, n3, n4, n5⟩
              obtain ⟨nw, dd, n1, n2, n3, n4, n5, n6, n7⟩ := news
              obtain ⟨w', p', o', hrun, h2, hlt⟩ := h1.app (P := P) (T := t) (T2 := t2) harr hrx hel n1 n2 hc.1 hb hroom n6 n7 n3 n4 rfl n5 o.type
              have ht : Tr ok F ρ1 os1 s1.m F (ρ1.set j p') (os1.set j o') ((s1.m.map (Mem.sub (keepSb Y.T (fun i => !(Nat.beq i j))))).set j (.arr el (zs ++ ys))) := by
                refine ⟨.refl F, by simp, fun i q o2 hk h1 h2 => ?_, fun i ty2 l q h1 h2 => ?_⟩
                · have hne : j ≠ i := fun e => by subst e; rw [hokj] at hk; cases hk
                  exact ⟨by rw [List.getElem?_set, if_neg hne]; exact h1, .inl (by rw [List.getElem?_set, if_neg hne]; exact h2)⟩
                · have hne : j ≠ i := fun e => by subst e; rw [harr] at h1; cases h1
                  exact ⟨⟨ty2, _, by rw [List.getElem?_set, if_neg hne, List.getElem?_map, h1]; rfl⟩, q, by rw [List.getElem?_set, if_neg hne]; exact h2, rfl⟩
              refine hfin _ _ w' F (ρ1.set j p') (os1.set j o') p'.val hk h2 (t1.trans ht h1.lon) ?_ (.own (by rw [List.getElem?_set, if_pos rfl, if_pos hlt]))
              unfold execOp; rw [hop]
              have hargs' : c.args.map a.eval = #[a.eval x, a.eval y] := by
                rw [← Array.toList_inj, Array.toList_map, hargs]; simp
              have hts' : c.argTypes = #[t, t2] := by rw [← Array.toList_inj, hts]
              simp only [hcal, hargs', hts', resolve, invoke, Deferred.ofValue]
              show ((do pure (Next.value (← Builtin.append_ #[t, t2] o.type #[a.eval x, a.eval y])) : Sem Next)).run P w = _
              simp only [Sem.run_bind, hrun, Result.andThen_ok, Sem.run_pure]
            · cases e
          split at e
          · rename_i v j hv hx
            exact go v s ρ os j h (Tr.refl ok F ρ os s.m) (h.e.eval hv) (h.e.eval hx) e
          · rename_i v hv hx
            have h1 := h.newArr el
            have t1 : Tr ok F ρ os s.m F (ρ ++ [⟨0, none, 0, 0, false⟩]) (os ++ [none]) (s.m ++ [.arr el []]) := Tr.grow ok (.refl F)
            have hρ : ∀ (k : Nat) (q : Pl), ρ[k]? = some q → (ρ ++ [(⟨0, none, 0, 0, false⟩ : Pl)])[k]? = some q := fun k q e => by
              rw [List.getElem?_append_left (List.getElem?_eq_some_iff.1 e).1]; exact e
            have ex := (h.e.eval hx).v_inv
            refine go v _ _ _ _ h1 t1 ((h.e.eval hv).mono (.refl F) hρ) ?_ e
            rw [ex]
            exact .own (pl := ⟨0, none, 0, 0, false⟩) (by rw [h.len]; simp)
          · cases e
        · cases e
      · cases e
    · cases e
  · cases e
end
end Go.Dn

