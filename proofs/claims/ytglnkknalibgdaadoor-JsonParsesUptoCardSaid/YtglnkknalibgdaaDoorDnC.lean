/- Quiet operations, all of them. For any program. -/
import Derived.Test.YtglnkknalibgdaaDoorDnB
set_option linter.unusedVariables false
set_option linter.unusedSimpArgs false
set_option linter.unnecessarySimpa false
namespace Go.Dn
open Go.Gw Go.RowKit
set_option linter.unusedSectionVars false
variable [Dfr]
set_option linter.unusedSimpArgs false
section
variable {Y : Tys} {hY : TysOk Y} {P : Program} {N : Nat} {F : Heap} {ρ : List Pl} {os : List (Option Obj)} {l : AEnv Y.T} {m : List (Mem Y.T)} {a : Act} {w : World} {o : Oper}

theorem strsA_ok {x : Value} (h : Ey Y N F ρ l a) (e : strsA l o.op = some x) (w : World) : (execOp a.eval o).run P w = .ok (.value x) w := by
  cases hop : o.op with
  | binOp op t u v t2 =>
    rw [hop] at e; simp only [strsA] at e
    split at e <;>
      first
      | (rename_i s t' h1 h2
         have e1 := (h.eval h1).v_inv
         have e2 := (h.eval h2).v_inv
         cases e
         unfold execOp; rw [hop]
         simp only [e1, e2]
         simp [eqGuard, binOp, Op.stringOp, ByteArray.toList_eq])
      | cases e
  | _ => rw [hop] at e; simp only [strsA] at e; cases e

theorem part_runA {t : TypeId} {cs : List Value} {off : Nat} {s : Value} (ht : isRowB P t = some false) (hs : cs[off]? = some s) (w : World) : (part t cs.toArray off).run P w = .ok s w := by
  have h1 : cs.toArray[off]? = some s := by simp [hs]
  simp [part, Sem.run_bind, isRowB_run ht, h1]
theorem eqFA_ok {xs ys : List (AV Y.T)} {us vs : List Value} {d : Nat} (hu : Rels Y F ρ xs us) (hv : Rels Y F ρ ys vs) (w : World) : ∀ {fs : List Field} {b : Bool}, eqFA P xs ys fs = some b → (Op.eqFields (d + 1) us.toArray vs.toArray fs).run P w = .ok b w
  | [], b, e => by cases e; rfl
  | f :: r, b, e => by
    simp only [eqFA] at e
    cases hn : f.name == "_" with
    | true => rw [hn] at e; cases e
    | false =>
      rw [hn] at e
      simp only [cond_false] at e
      have hn' : f.name ≠ "_" := by simpa using hn
      cases hr : eqFA P xs ys r with
      | none => rw [hr] at e; cases e
      | some c =>
        rw [hr] at e
        simp only at e
        have ih := eqFA_ok (d := d) hu hv w hr
        have fin : ∀ {x y : Value} {q : Bool}, isRowB P f.type = some false → us[f.offset]? = some x → vs[f.offset]? = some y → (Op.equalIn (d + 1) f.type x y).run P w = .ok q w → b = (q && c) →
            (Op.eqFields (d + 1) us.toArray vs.toArray (f :: r)).run P w = .ok b w := by
          intro x y q h1 h2 h3 h4 h5
          rw [Op.eqFields]
          simp only [if_pos hn', Sem.run_bind, part_runA h1 h2, part_runA h1 h3, h4, Result.andThen_ok]
          subst h5
          cases q
          · simp
          · simpa using ih
        have hrow : ∀ {u}, P.underlying f.type = some u → (∀ fs, u ≠ .struct fs) → (∀ n t, u ≠ .array n t) → isRowB P f.type = some false := by
          intro u hu h1 h2
          unfold isRowB; rw [hu]
          cases u <;> first | rfl | exact absurd rfl (h1 _) | exact absurd rfl (h2 _ _)
        split at e
        · rename_i x y h1 h2 h3
          cases e
          obtain ⟨u1, g1, r1⟩ := hu.get h2
          obtain ⟨u2, g2, r2⟩ := hv.get h3
          rw [r1.v_inv] at g1; rw [r2.v_inv] at g2
          exact fin (hrow h1 (by simp) (by simp)) g1 g2 (run_equalIn_bool' w d _ x y h1) rfl
        · rename_i k0 k x k' y h1 h2 h3
          obtain ⟨hk, e2⟩ := bif_some e
          have hk : k = k' := by simpa using hk
          subst hk; subst e2
          obtain ⟨u1, g1, r1⟩ := hu.get h2
          obtain ⟨u2, g2, r2⟩ := hv.get h3
          rw [r1.v_inv] at g1; rw [r2.v_inv] at g2
          exact fin (hrow h1 (by simp) (by simp)) g1 g2 (run_equalIn_int w d _ k k0 x y h1) rfl
        · rename_i x y h1 h2 h3
          cases e
          obtain ⟨u1, g1, r1⟩ := hu.get h2
          obtain ⟨u2, g2, r2⟩ := hv.get h3
          rw [r1.v_inv] at g1; rw [r2.v_inv] at g2
          refine fin (hrow h1 (by simp) (by simp)) g1 g2 (run_equalIn_string w d _ x y h1) ?_
          rw [ByteArray.toList_eq, ByteArray.toList_eq]
        · cases e
theorem eqSA_ok {x : Value} (h : Ey Y N F ρ l a) (e : eqSA P l o.op = some x) (w : World) : (execOp a.eval o).run P w = .ok (.value x) w := by
  cases hop : o.op with
  | binOp op t u v t2 =>
    rw [hop] at e
    simp only [eqSA] at e
    split at e
    · rename_i xs ys fs hu hv hf
      split at e
      · rename_i b hb
        cases hc : (!P.stoodInHeld t && !P.eqGuardType P.depth t) with
        | false => rw [hc] at e; cases e
        | true =>
          rw [hc] at e
          simp only [cond_true] at e
          simp only [Bool.and_eq_true, Bool.not_eq_true'] at hc
          have r1 := h.eval hu
          have r2 := h.eval hv
          generalize e1 : a.eval u = ux at r1
          generalize e2 : a.eval v = vx at r2
          cases r1 with
          | @agg _ us hl1 hv1 =>
          cases r2 with
          | @agg _ vs hl2 hv2 =>
          have hfo : P.fieldsOf t = fs := by simp [Program.fieldsOf, hf]
          have heq : (Op.equalIn 10000 t (.agg us.toArray) (.agg vs.toArray)).run P w = .ok b w := by
            rw [run_equalIn_struct (P := P) w 9999 t _ _ (by rw [hfo]; exact hf) hc.1, hfo]
            exact eqFA_ok (d := 9998) ⟨hl1, hv1⟩ ⟨hl2, hv2⟩ w hb
          unfold execOp; rw [hop]
          simp only [e1, e2, Sem.run_bind, run_eqGuard_agg w op t u v _ _ hc.2, Result.andThen_ok]
          cases op <;> simp only at e <;> cases e
          · simp only [run_eql_struct, heq, Result.andThen_ok, Sem.run_pure]
          · simp only [run_neq_struct, heq, Result.andThen_ok, Sem.run_pure]
      · cases e
    · cases e
  | _ => rw [hop] at e; simp only [eqSA] at e; cases e

theorem errA_ok {x : Value} (h : Ey Y N F ρ l a) (e : errA P l o.op = some x) (w : World) : (execOp a.eval o).run P w = .ok (.value x) w := by
  unfold errA at e
  split at e
  · rename_i op t u t2 hop
    cases hi : isIfaceB P t with
    | false => rw [hi] at e; cases e
    | true =>
      rw [hi] at e; simp only [cond_true] at e
      unfold isIfaceB at hi
      cases hu : P.underlying t with
      | none => rw [hu] at hi; cases hi
      | some d =>
        rw [hu] at hi
        cases d <;> simp only at hi <;> (try cases hi)
        have hq : ∀ (er : GErr) (q : TypeId × Value) (d : Nat), (Op.equalIn (d + 1) t (errV er q) .nilIface).run P w = .ok er.isNil w := fun er q d => by
          cases er <;> simp [Op.equalIn, run_underlying hu, errV, GErr.isNil]
        have e2 : a.eval (.const .nilIface) = .nilIface := rfl
        split at e
        · rename_i er h1
          have r1 := h.eval h1
          generalize e1 : a.eval u = ux at r1
          cases r1 with
          | @err _ q =>
            cases e
            unfold execOp; rw [hop]
            have : (binOp .eql t (errV er q) .nilIface).run P w = .ok (.bool er.isNil) w := by
              simp only [binOp]
              simp [Op.equal, Op.maxDepth, hq er q 9999]
            cases er <;> simp only [errV] at e1 this ⊢ <;> simp only [e1, e2, eqGuard, Bool.or_true, if_true, Bool.not_true, Bool.false_eq_true, if_false, Sem.run_bind, this, Result.andThen_ok, Sem.run_pure, pure_bind]
        · rename_i er h1
          have r1 := h.eval h1
          generalize e1 : a.eval u = ux at r1
          cases r1 with
          | @err _ q =>
            cases e
            unfold execOp; rw [hop]
            have : (binOp .neq t (errV er q) .nilIface).run P w = .ok (.bool (!er.isNil)) w := by
              simp only [binOp]
              simp [Op.equal, Op.maxDepth, hq er q 9999]
            cases er <;> simp only [errV] at e1 this ⊢ <;> simp only [e1, e2, eqGuard, Bool.or_true, if_true, Bool.not_true, Bool.false_eq_true, if_false, Sem.run_bind, this, Result.andThen_ok, Sem.run_pure, pure_bind]
        · cases e
  · cases e

theorem ρofA_eval (h : Ey Y N F ρ l a) : ∀ {xs : List Operand}, allPlainA l xs = true → ∀ x ∈ xs, ρofA l x = a.eval x
  | [], _, x, hx => by cases hx
  | y :: r, hp, x, hx => by
    simp only [allPlainA, Bool.and_eq_true] at hp
    rcases List.mem_cons.1 hx with e | e
    · subst e
      unfold ρofA
      cases hy : evA l x with
      | none => rw [hy] at hp; simp at hp
      | some s =>
        rw [hy] at hp
        simp only at hp ⊢
        cases hs : s.plain with
        | none => rw [hs] at hp; simp at hp
        | some v => exact (AV.plain_rel hs (h.eval hy)).symm
    · exact ρofA_eval h hp.2 x e

theorem quietA_ok {s : AV Y.T} (h : Ey Y N F ρ l a) (hM : My hY F ρ os m w) (e : quietA P l m o = some s) : Yld hY P F ρ os m a o s := by
  unfold quietA at e
  split at e
  · rename_i q ho; cases e; exact ownA_ok h hM ho
  · split at e
    · rename_i x hs; cases e; exact ⟨x, .v, fun w _ _ => strsA_ok h hs w⟩
    · split at e
      · rename_i x hs; cases e; exact ⟨x, .v, fun w _ _ => eqSA_ok h hs w⟩
      · split at e
        · rename_i x hs; cases e; exact ⟨x, .v, fun w _ _ => errA_ok h hs w⟩
        · cases hq0 : (allPlainA l o.op.operands.toList && !selB o.op) && pureK P l o.op with
          | false => rw [hq0] at e; cases e
          | true =>
            rw [hq0] at e; simp only [cond_true] at e
            simp only [Bool.and_eq_true, Bool.not_eq_true'] at hq0
            have hq := hq0.1
            split at e
            · rename_i x hx
              cases e
              refine ⟨x, .v, fun w _ _ => ?_⟩
              rw [← execOp_congr o (fun cs b hb => by rw [hb] at hq; cases hq.2) (fun y hy => ρofA_eval h hq.1 y (by simpa using hy))]
              exact pureOf_run hx w
            · cases e
end
end Go.Dn

