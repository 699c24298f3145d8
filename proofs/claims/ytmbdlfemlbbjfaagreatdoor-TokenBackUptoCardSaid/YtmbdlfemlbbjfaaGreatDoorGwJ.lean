/- Results that lie in variables; what is forgotten; places changed about. For any program. -/
import Derived.Test.YtmbdlfemlbbjfaaGreatDoorGwI
set_option linter.unusedVariables false
set_option linter.unusedSimpArgs false
set_option linter.unnecessarySimpa false
namespace Go.Gw
open Go.RowKit
set_option linter.unusedSimpArgs false
section
variable {P : Program} {N : Nat} {w0 : World} {F0 : Heap} {D : Own} {w : World} {F : Heap} {L : List SP} {B B' : List (Option Box)} {ρ : Nat → Nat} {l : Env} {a : Act} {o : Oper} {ops : Array Oper} {Q : Exit → Act → World → Prop}

def leftsC (P : Program) (l : Env) (B : List (Option Box)) : List ResultVar → Option (List SV)
  | [] => some []
  | .tmp t :: r => match look l t, leftsC P l B r with | some s, some ss => some (s :: ss) | _, _ => none
  | .cell ad ty :: r => match look l ad with
    | some (.ptr _ _) => match ownQ P l B (.load ty (.tmp ad)), leftsC P l B r with | some s, some ss => some (s :: ss) | _, _ => none
    | _ => none

theorem loadVar_of {ty : TypeId} {ad : Tmp} {k off : Nat} {s : SV} (h : Cx N w0 F0 D w F L B ρ l a) (hl : look l ad = some (.ptr k off)) (hq : ownQ P l B (.load ty (.tmp ad)) = some s) :
    (loadVar ty ⟨ρ k, off, none⟩).run P w = .ok (s.den ρ) w ∧ s.good F ∧ s.under B.length = true := by
  have h1 := ownQ_ok (P := P) (o := { dst := none, op := .load ty (.tmp ad), type := ty, after := #[], guard := none, pos := default }) h hq
  refine ⟨?_, h1.2⟩
  have h2 := h1.1
  have e1 : a.eval (.tmp ad) = .pointer (some ⟨ρ k, off, none⟩) := (h.env ad _ hl).2
  unfold execOp at h2
  simp only [e1, Instr.loadAt, Instr.sureAddr, Sem.run_bind, pure_bind, Sem.run_pure] at h2
  cases hr : (loadVar ty ⟨ρ k, off, none⟩).run P w with
  | ok v w' => rw [hr] at h2; simp only [Result.andThen_ok] at h2; injection h2 with h3 h4; injection h3 with h5; rw [h5, h4]
  | halt x w' => rw [hr] at h2; simp only [Result.andThen] at h2; cases h2

theorem leftsC_run (h : Cx N w0 F0 D w F L B ρ l a) : ∀ {rs : List ResultVar} {ss : List SV}, leftsC P l B rs = some ss →
    (rs.mapM (m := Sem) fun r => match r with | .tmp t => pure (a.tmps.getD t undef) | .cell ad ty => (do loadVar ty (← asAddr (a.tmps.getD ad undef)))).run P w = .ok (SV.dens ρ ss) w ∧ SV.goods F ss
  | [], ss, e => by cases e; exact ⟨rfl, trivial⟩
  | .tmp t :: r, ss, e => by
    simp only [leftsC] at e
    cases ht : look l t with
    | none => rw [ht] at e; cases e
    | some s =>
      cases hr : leftsC P l B r with
      | none => rw [ht, hr] at e; cases e
      | some ss' =>
        rw [ht, hr] at e; cases e
        have ih := leftsC_run h hr
        rw [List.mapM_cons]
        simp only [pure_bind, Sem.run_bind, ih.1, Result.andThen_ok, (h.env t s ht).2, SV.dens]
        exact ⟨rfl, (h.good t s ht).1, ih.2⟩
  | .cell ad ty :: r, ss, e => by
    simp only [leftsC] at e
    cases ht : look l ad with
    | none => rw [ht] at e; cases e
    | some s0 =>
      rw [ht] at e
      cases s0 with
      | ptr k off =>
        simp only at e
        cases hq : ownQ P l B (.load ty (.tmp ad)) with
        | none => rw [hq] at e; cases e
        | some s =>
          cases hr : leftsC P l B r with
          | none => rw [hq, hr] at e; cases e
          | some ss' =>
            rw [hq, hr] at e; cases e
            have ih := leftsC_run h hr
            obtain ⟨h1, h2, _⟩ := loadVar_of (P := P) h ht hq
            have e1 : a.tmps.getD ad undef = .pointer (some ⟨ρ k, off, none⟩) := (h.env ad _ ht).2
            have hd : (do loadVar ty (← asAddr (a.tmps.getD ad undef)) : Sem Value).run P w = .ok (s.den ρ) w := by rw [e1]; exact h1
            refine ⟨?_, h2, ih.2⟩
            rw [List.mapM_cons, Sem.run_bind]
            refine (congrArg (fun r => Result.andThen r _) hd).trans ?_
            simp only [Result.andThen_ok, Sem.run_bind, ih.1, Sem.run_pure, SV.dens]
      | _ => cases e

/-- the end of a function some of whose results lie in variables -/
theorem Cx.retC {fn : Func} {post : SV → Prop} {ss : List SV} (h : Cx N w0 F0 No w F L B ρ l a) (hl : leftsC P l B fn.results.toList = some ss) (hu : SV.unders 0 ss = true) (hp : post (retS ss)) : bodyPost P fn (Ret0 w0 F0 post) .ret a w := by
  have hrun := leftsC_run (P := P) h hl
  have hres : (results fn a.tmps).run P w = .ok (leftVal (SV.dens ρ ss)) w := by
    unfold results
    rw [Array.mapM_eq_mapM_toList]
    simp only [bind_map_left, Sem.run_bind]
    refine (congrArg (fun r => Result.andThen r _) hrun.1).trans ?_
    simp only [Result.andThen_ok, Sem.run_pure]
    congr 1
    cases hd : SV.dens ρ ss with
    | nil => rfl
    | cons x r => cases r with
      | nil => rfl
      | cons y r => simp [leftVal]
  refine ⟨h.nodef, _, hres, F, retS ss, ?_, ?_, ?_, ?_, hp⟩
  · rw [retS_den, ← SV.dens_ext (n := 0) (ρ := fun _ => 0) (ρ' := ρ) (fun k hk => absurd hk (Nat.not_lt_zero k)) hu]
  · have hg := hrun.2
    match ss, hg with
    | [], _ => exact trivial
    | [s], g => exact g.1
    | s :: t :: r, g => simpa [retS, SV.good] using g
  · match ss, hu with
    | [], _ => rfl
    | [s], g => simpa [retS, SV.unders] using g
    | s :: t :: r, g => simpa [retS, SV.under] using g
  · have := h.st
    have h1 : St w0 F0 No w F ((boxes ρ 0 B ++ L) ++ []) := by rw [List.append_nil]; exact this
    exact h1.only
/-- a slice that was written out is from now on one that grows; where it lies is told -/
theorem Cx.boxAcc2 {α : Type} {d : Kind α} {e : TypeId} {k t m : Nat} {cells : List SV} (zs : List (α × d.Y)) (h : Cx N w0 F0 D w F L B ρ l a) (hB : B[k]? = some (some ⟨e, cells⟩)) (hs : look l t = some (.slc k 0 m m)) (hz : cells = (zs.map fun z => d.f z.1 z.2).flatten) (hm : zs.length = m) (hlim : m ≤ 4611686018427387904)
    (hpl : ∃ vs, SV.plains cells = some vs) :
    ∃ b, b = ρ k ∧ Cx N w0 F0 D w F (accP e d (some ⟨b, 0, none⟩) m (zs.map (·.1)) :: L) (B.set k none) ρ ((t, .v (.slice (some ⟨b, 0, none⟩) (zs.map (·.1)).length m)) :: l) a := by
  obtain ⟨vs, hvs⟩ := hpl
  have hden := SV.plains_dens ρ hvs
  have hbg := h.bgood _ (List.mem_of_getElem? hB)
  have hA : (accP e d (some ⟨ρ k, 0, none⟩) m (zs.map (·.1))).holds F (Heap.one (ρ k) (.cells (SV.dens ρ cells).toArray e (0, 0))) := by
    refine .inr ⟨_, _, rfl, rfl, by rw [List.length_map, hm]; exact Nat.le_refl _, by rw [maxLen_eq]; omega, ?_, ?_⟩
    · rw [List.size_toArray, dens_length, hz, flat_len, hm]
    · rw [hden]
      rw [hz] at hvs
      exact flat_row d hvs (by have := hbg.1; rw [← hz]; exact this)
  exact ⟨ρ k, rfl, (h.take_box hB hA).retell (s' := .v (.slice (some ⟨ρ k, 0, none⟩) (zs.map (·.1)).length m)) hs (by rw [List.length_map, hm]; rfl) trivial rfl⟩
/-- a call that leaves what stood as it was -/
theorem St.ofBelow {w' : World} (hv : F.Sub w) (h : Below w.heap.size w w') : St w F No w' F [] :=
  ⟨h.os, h.tape, h.output, h.size, fun b hb _ => h.block b hb, .refl F, fun _ _ _ => rfl, ⟨fun x o e => by rw [h.block x (hv.lt e)]; exact hv.out x o e⟩, Heap.nil, rfl, ⟨fun _ _ e => by cases e⟩, ⟨fun _ => .inr rfl⟩, fun _ _ e => by cases e⟩
theorem Ret0.pure {post : SV → Prop} {s : SV} {w' : World} {e : Ending} (hv : F.Sub w) (he : e = .returned (s.den fun _ => 0)) (hw : w' = w) (hg : s.good F) (hu : s.under 0 = true) (hp : post s) : Ret0 w F post e w' := by
  subst hw; exact ⟨F, s, he, hg, hu, St.start hv, hp⟩
theorem Ret0.below {post : SV → Prop} {s : SV} {w' : World} {e : Ending} (hv : F.Sub w) (he : e = .returned (s.den fun _ => 0)) (hw : Below w.heap.size w w') (hg : s.good F) (hu : s.under 0 = true) (hp : post s) : Ret0 w F post e w' :=
  ⟨F, s, he, hg, hu, St.ofBelow hv hw, hp⟩
end
end Go.Gw

