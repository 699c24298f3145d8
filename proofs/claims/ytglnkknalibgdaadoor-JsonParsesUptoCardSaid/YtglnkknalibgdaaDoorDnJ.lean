/- Calls. For any program. -/
import Derived.Test.YtglnkknalibgdaaDoorDnI
set_option linter.unusedVariables false
set_option linter.unusedSimpArgs false
set_option linter.unnecessarySimpa false
namespace Go.Dn
open Go.Gw Go.RowKit
set_option linter.unusedSectionVars false
variable [Dfr]
set_option linter.unusedSimpArgs false

section lists
variable {α : Type}
def insL : List Nat → List α → List α → List α
  | k :: R, x :: new, xs => (insL R new xs).set k x
  | _, _, xs => xs
theorem insL_length : ∀ (R : List Nat) (new xs : List α), (insL R new xs).length = xs.length
  | [], new, xs => by cases new <;> rfl
  | k :: R, [], xs => rfl
  | k :: R, x :: new, xs => by simp only [insL, List.length_set]; exact insL_length R new xs
theorem insL_out : ∀ {R : List Nat} {new xs : List α} {k : Nat}, k ∉ R → (insL R new xs)[k]? = xs[k]?
  | [], new, xs, k, _ => by cases new <;> rfl
  | i :: R, [], xs, k, _ => rfl
  | i :: R, x :: new, xs, k, h => by
    simp only [List.mem_cons, not_or] at h
    simp only [insL]
    rw [List.getElem?_set, if_neg (fun e => h.1 e.symm)]
    exact insL_out h.2
theorem insL_in : ∀ {R : List Nat} {new xs : List α} {j k : Nat} {x : α}, R.Nodup → R[j]? = some k → new[j]? = some x → k < xs.length → (insL R new xs)[k]? = some x
  | [], new, xs, j, k, x, _, h, _, _ => by simp at h
  | i :: R, [], xs, j, k, x, _, _, h, _ => by simp at h
  | i :: R, y :: new, xs, 0, k, x, _, h1, h2, hk => by
    simp at h1 h2; subst h1; subst h2
    simp only [insL]
    rw [List.getElem?_set, if_pos rfl, if_pos (by rw [insL_length]; exact hk)]
  | i :: R, y :: new, xs, j + 1, k, x, hn, h1, h2, hk => by
    simp only [List.getElem?_cons_succ] at h1 h2
    simp only [List.nodup_cons] at hn
    simp only [insL]
    have hne : i ≠ k := fun e => by subst e; exact hn.1 (List.mem_of_getElem? h1)
    rw [List.getElem?_set, if_neg hne]
    exact insL_in hn.2 h1 h2 hk
def posOf : List Nat → Nat → Option Nat
  | [], _ => none
  | i :: R, k => bif Nat.beq i k then some 0 else (posOf R k).map (· + 1)
theorem posOf_some : ∀ {R : List Nat} {k j : Nat}, posOf R k = some j → R[j]? = some k
  | [], k, j, h => by cases h
  | i :: R, k, j, h => by
    simp only [posOf] at h
    cases hb : Nat.beq i k with
    | true => rw [hb] at h; cases h; rw [← Nat.eq_of_beq_eq_true hb]; rfl
    | false =>
      rw [hb] at h
      simp only [cond_false] at h
      cases hp : posOf R k with
      | none => rw [hp] at h; cases h
      | some q => rw [hp] at h; cases h; simpa using posOf_some hp
theorem posOf_none : ∀ {R : List Nat} {k : Nat}, posOf R k = none → k ∉ R
  | [], k, _ => by simp
  | i :: R, k, h => by
    simp only [posOf] at h
    cases hb : Nat.beq i k with
    | true => rw [hb] at h; cases h
    | false =>
      rw [hb] at h
      simp only [cond_false, Option.map_eq_none_iff] at h
      simp only [List.mem_cons, not_or]
      exact ⟨fun e => (by subst e; rw [Nat.beq_refl] at hb; cases hb), posOf_none h⟩
def freshB (R : List Nat) (k : Nat) : Bool := (posOf R k).isNone
def nodupB : List Nat → Bool
  | [] => true
  | i :: R => freshB R i && nodupB R
theorem nodupB_ok : ∀ {R : List Nat}, nodupB R = true → R.Nodup
  | [], _ => List.nodup_nil
  | i :: R, h => by
    simp only [nodupB, freshB, Bool.and_eq_true, Option.isNone_iff_eq_none] at h
    exact List.nodup_cons.2 ⟨posOf_none h.1, nodupB_ok h.2⟩
end lists

section
variable {T : Nat → Type}
mutual
/-- the objects that a value names -/
def AV.refs : AV T → List Nat
  | .own k => [k]
  | .oel k _ _ _ => [k]
  | .ptr k _ => [k]
  | .el l => AV.refsL l
  | .agg l => AV.refsL l
  | .tup l => AV.refsL l
  | .fn _ l => AV.refsL l
  | _ => []
def AV.refsL : List (AV T) → List Nat
  | [] => []
  | a :: l => a.refs ++ AV.refsL l
end
def Mem.refs : Mem T → List Nat
  | .cells _ l => AV.refsL l
  | _ => []
def reach (m : List (Mem T)) : Nat → List Nat → List Nat → List Nat
  | 0, _, acc => acc
  | _ + 1, [], acc => acc
  | n + 1, k :: todo, acc => bif freshB acc k then reach m n ((match m[k]? with | some x => x.refs | none => []) ++ todo) (acc ++ [k]) else reach m n todo acc
def isCells : Option (Mem T) → Bool
  | some (.cells ..) => true
  | _ => false
def isThere : Option (Mem T) → Bool
  | some (.cells ..) => true
  | some (.arr ..) => true
  | _ => false
def rnSb (T : Nat → Type) (R : List Nat) : Sb T :=
  ⟨fun k => match posOf R k with | some j => .own j | none => .junk, fun k z i off => match posOf R k with | some j => .oel j z i off | none => .junk, fun k off => match posOf R k with | some j => .ptr j off | none => .junk⟩
def bkAt (R : List Nat) (n j : Nat) : Nat := match R[j]? with | some k => k | none => n + (j - R.length)
def bkSb (T : Nat → Type) (R : List Nat) (n : Nat) : Sb T := ⟨fun j => .own (bkAt R n j), fun j z i off => .oel (bkAt R n j) z i off, fun j off => .ptr (bkAt R n j) off⟩
def afSb (T : Nat → Type) (R : List Nat) (m : List (Mem T)) : Sb T :=
  ⟨fun k => bif freshB R k then .own k else .junk, fun k z i off => bif freshB R k then .oel k z i off else .junk, fun k off => bif freshB R k || isCells m[k]? then .ptr k off else .junk⟩
end

inductive Pat where
  | junk
  | nilp
  | nils
  | int (k : IntKind)
  | bool
  | str
  | sl (e : Nat)
  | err
  | ptr (k off : Nat)
  | own (k : Nat)
  | st (e : Nat)
  | elst (e : Nat)
  | fn (f : Nat) (l : List Pat)
  | agg (l : List Pat)
  | el (l : List Pat)
  | tup (l : List Pat)
inductive MPat where
  | gone
  | cells (ty : TypeId) (l : List Pat)
  | whole (ty e : Nat)
  | arr (e : Nat)
  | mp (k e : Nat)
  | it
structure Shape where
  l : List (Nat × Pat)
  m : List MPat


/-- how a call ends -/
inductive Out (T : Nat → Type) where
  | ret (x : AV T)
  | pan (x : AV T)
def Out.sub {T : Nat → Type} (s : Sb T) : Out T → Out T
  | .ret x => .ret (x.sub s)
  | .pan x => .pan (x.sub s)
inductive OutRel (Y : Tys) (F : Heap) (ρ : List Pl) : Out Y.T → Ending → Prop where
  | ret {x : AV Y.T} {u : Value} (h : Rel Y F ρ x u) : OutRel Y F ρ (.ret x) (.returned u)
  | pan {x : AV Y.T} {u : Value} (h : Rel Y F ρ x u) : OutRel Y F ρ (.pan x) (.panicked [{ v := u, recovered := false }])
/-- what a function does, told without addresses -/
structure Callee (Y : Tys) where
  run : {R : Type} → List (AV Y.T) → List (Mem Y.T) → (Out Y.T → List (Mem Y.T) → Option R) → Option R
  keep : List Nat
  shs : List Shape
  /-- it only looks at what it is handed, and hands back plain values -/
  bor : Bool := false
/-- the functions that are handed in are these -/
def fnFits {T : Nat → Type} : List (Nat × Pat) → List (AV T) → Bool
  | [], _ => true
  | _ :: _, [] => true
  | (_, .fn f _) :: r, .fn g _ :: l => Nat.beq f g && fnFits r l
  | _ :: r, _ :: l => fnFits r l
def Callee.sh {Y : Tys} (C : Callee Y) (as : List (AV Y.T)) : Shape := match C.shs.find? fun σ => fnFits σ.l as with
  | some σ => σ
  | none => ⟨[], []⟩

section
variable {Y : Tys} {hY : TysOk Y} {P : Program} {N : Nat} {w0 : World} {F0 : Heap} {D : Own} {H : List (Option Nat)} {w w' : World} {F F' : Heap} {ρ ρ' : List Pl} {os os' : List (Option Obj)} {s s' : Sy Y.T} {a a' : Act} {o : Oper} {R : Type} {ok : Nat → Bool} {r : R} {K : Act → World → Prop} {Q : Exit → Act → World → Prop}

def outs : List Nat → List (Option Obj) → List (Option Obj)
  | [], os => os
  | k :: R, os => outs R (os.set k none)
def selL {α : Type} (R : List Nat) (xs : List α) (d : α) : List α := R.map fun k => xs.getD k d
def pl0 : Pl := ⟨0, none, 0, 0, false⟩

theorem selL_set {α : Type} {R : List Nat} {xs : List α} {d x : α} {k : Nat} (h : k ∉ R) : selL R (xs.set k x) d = selL R xs d := by
  unfold selL
  apply List.map_congr_left
  intro i hi
  have hne : k ≠ i := fun e => by subst e; exact h hi
  simp [List.getD, List.getElem?_set, hne]

theorem all_out {F : Heap} : ∀ {R : List Nat} {os : List (Option Obj)} {x : Heap}, R.Nodup → (∀ k ∈ R, k < ρ.length) → os.length = ρ.length → all F (pts ρ os) x → all F (pts ρ (outs R os) ++ pts (selL R ρ pl0) (selL R os none)) x
  | [], os, x, _, _, _, h => by simpa [outs, selL, pts] using h
  | k :: R, os, x, hn, hk, hl, h => by
    simp only [List.nodup_cons] at hn
    have hkl := hk k List.mem_cons_self
    have hkl' : k < os.length := by omega
    have hget := pts_get (List.getElem?_eq_getElem hkl) (List.getElem?_eq_getElem hkl')
    obtain ⟨g, kk, ha, hap, rfl, hr, put⟩ := all_at hget h
    have h1 := put (A' := emp) (.refl F) rfl hr (Heap.nil_apart _)
    rw [Heap.nil_join, show emp = spOf ρ[k] none from rfl, ← pts_seto (List.getElem?_eq_getElem hkl)] at h1
    have h2 := all_out hn.2 (fun i hi => hk i (List.mem_cons_of_mem _ hi)) (by simpa using hl) h1
    rw [selL_set hn.1] at h2
    have h3 : all F ([spOf ρ[k] os[k]] ++ (pts ρ (outs R (os.set k none)) ++ pts (selL R ρ pl0) (selL R os none))) (g.join kk) := all_append.2 ⟨g, kk, all_one.2 ha, h2, hap, rfl⟩
    have h4 := all_front h3
    have e1 : selL (k :: R) ρ pl0 = ρ[k] :: selL R ρ pl0 := by simp [selL, List.getD, hkl]
    have e2 : selL (k :: R) os none = os[k] :: selL R os none := by simp [selL, List.getD, hkl']
    rw [e1, e2]
    exact h4

theorem all_in {F : Heap} : ∀ {R : List Nat} {ρ : List Pl} {os : List (Option Obj)} {ρ2 : List Pl} {os2 : List (Option Obj)} {x : Heap}, R.Nodup → (∀ k ∈ R, k < ρ.length) → os.length = ρ.length → ρ2.length = R.length → os2.length = R.length →
    all F (pts ρ (outs R os) ++ pts ρ2 os2) x → all F (pts (insL R ρ2 ρ) (insL R os2 os)) x
  | [], ρ, os, ρ2, os2, x, _, _, _, h2, h3, h => by
    have e1 : ρ2 = [] := List.length_eq_zero_iff.1 h2
    subst e1
    simpa [outs, pts, insL] using h
  | k :: R, ρ, os, [], os2, x, _, _, _, h2, _, _ => by simp at h2
  | k :: R, ρ, os, p :: ρ2, [], x, _, _, _, _, h3, _ => by simp at h3
  | k :: R, ρ, os, p :: ρ2, o :: os2, x, hn, hk, hl, h2, h3, h => by
    simp only [List.nodup_cons] at hn
    have hkl := hk k List.mem_cons_self
    have h4 : all F (pts ρ (outs R (os.set k none)) ++ ([spOf p o] ++ pts ρ2 os2)) x := h
    have h5 := all_front h4
    obtain ⟨g, q, ha, hq, hap, rfl⟩ := all_append.1 h5
    have h6 := all_in (ρ := ρ) (os := os.set k none) hn.2 (fun i hi => hk i (List.mem_cons_of_mem _ hi)) (by simpa using hl) (by simpa using h2) (by simpa using h3) hq
    have hkl2 : k < (insL R ρ2 ρ).length := by rw [insL_length]; exact hkl
    have hno : (insL R os2 (os.set k none))[k]? = some none := by
      rw [insL_out hn.1, List.getElem?_set, if_pos rfl, if_pos (by omega)]
    have hget := pts_get (List.getElem?_eq_getElem hkl2) hno
    obtain ⟨g0, q0, ha0, hap0, rfl, hr, put⟩ := all_at hget h6
    have e0 : g0 = Heap.nil := ha0
    subst e0
    rw [Heap.nil_join] at hap ⊢
    have h7 := put (A' := spOf p o) (.refl F) (all_one.1 ha) hr hap
    rw [← pts_set] at h7
    have e1 : ((insL R os2 (os.set k none)).set k o) = ((insL R os2 os).set k o) := by
      apply List.ext_getElem?
      intro i
      rw [List.getElem?_set, List.getElem?_set]
      split
      · simp [insL_length]
      · rename_i hne
        by_cases hi : i ∈ R
        · obtain ⟨j, hj⟩ := List.mem_iff_getElem?.1 hi
          have hil := hk i (List.mem_cons_of_mem _ hi)
          have hj2 : j < os2.length := by
            have := (List.getElem?_eq_some_iff.1 hj).1
            simp at h3; omega
          rw [insL_in hn.2 hj (List.getElem?_eq_getElem hj2) (by simp; omega), insL_in hn.2 hj (List.getElem?_eq_getElem hj2) (by omega)]
        · rw [insL_out hi, insL_out hi, List.getElem?_set, if_neg hne]
    rw [e1] at h7
    exact h7
  termination_by R => R.length

/-- what a call comes to, told without addresses -/
def CallOk (hY : TysOk Y) (P : Program) (G : Heap → Prop) (f : FuncId) (args : List (AV Y.T)) (ms : List (Mem Y.T)) (post : Out Y.T → List (Mem Y.T) → Prop) : Prop :=
  ∀ (w : World) (F : Heap) (ρ : List Pl) (os : List (Option Obj)) (vals : List Value) (D : Own), G F → Rels Y F ρ args vals → ms.length = ρ.length → os.length = ρ.length →
    (∀ (k : Nat) (x : Mem Y.T) (p : Pl) (o : Option Obj), ms[k]? = some x → ρ[k]? = some p → os[k]? = some o → MemRel hY F ρ x p o) → Gw.St w F D w F (pts ρ os) →
    Calls P f vals.toArray w fun e w' => ∃ res F' ρ' os' ms', post res ms' ∧ OutRel Y F' ρ' res e ∧ ms'.length = ρ'.length ∧ os'.length = ρ'.length ∧
      (∀ (k : Nat) (x : Mem Y.T) (p : Pl) (o : Option Obj), ms'[k]? = some x → ρ'[k]? = some p → os'[k]? = some o → MemRel hY F' ρ' x p o) ∧ Gw.St w F D w' F' (pts ρ' os') ∧ ρ.length ≤ ρ'.length ∧
      ∀ (k : Nat) (ty : TypeId) (l : List (AV Y.T)) (p : Pl), ms[k]? = some (.cells ty l) → ρ[k]? = some p → (∃ ty' l', ms'[k]? = some (.cells ty' l')) ∧ ∃ p', ρ'[k]? = some p' ∧ p'.blk = p.blk

def callS (ok : Nat → Bool) (s : Sy Y.T) (C : Callee Y) (args : List (AV Y.T)) (k : Sy Y.T → Out Y.T → Option R) : Option R :=
  let L := reach s.m 4096 (AV.refsL args) []
  bif nodupB L && L.all (fun j => ok j && isThere s.m[j]?) then
    C.run (AV.subs (rnSb Y.T L) args) (L.map fun j => (s.m.getD j .gone).sub (rnSb Y.T L)) fun res ms =>
      bif Nat.ble L.length ms.length then
        k ⟨subEnv (afSb Y.T L s.m) s.l, insL L (ms.map (Mem.sub (bkSb Y.T L s.m.length))) (s.m.map (Mem.sub (afSb Y.T L s.m))) ++ (ms.map (Mem.sub (bkSb Y.T L s.m.length))).drop L.length⟩ (res.sub (bkSb Y.T L s.m.length))
      else none
  else none

theorem selL_get {α : Type} {L : List Nat} {xs : List α} {d : α} {j : Nat} : (selL L xs d)[j]? = (L[j]?).map fun k => xs.getD k d := by simp [selL]

theorem callS_ok {G : Heap → Prop} {f : FuncId} {C : Callee Y} {args : List (AV Y.T)} {vals : List Value} {k : Sy Y.T → Out Y.T → Option R} (hC : ∀ args ms r (k : Out Y.T → List (Mem Y.T) → Option R), C.run args ms k = some r → CallOk hY P G f args ms fun res ms' => k res ms' = some r)
    (hG : G F) (h : Cy hY N w0 F0 D H w F ρ os s a) (hargs : Rels Y F ρ args vals) (e : callS ok s C args k = some r) {post : Ending → World → Prop}
    (hK : ∀ s' x w' F' ρ' os' e, k s' x = some r → Cy hY N w0 F0 D H w' F' ρ' os' s' a → Tr ok F ρ os s.m F' ρ' os' s'.m → OutRel Y F' ρ' x e → post e w') : Calls P f vals.toArray w post := by
  unfold callS at e
  dsimp only at e
  generalize reach s.m 4096 (AV.refsL args) [] = L at e
  obtain ⟨hc, e⟩ := bif_do e
  simp only [Bool.and_eq_true, List.all_eq_true] at hc
  have hn := nodupB_ok hc.1
  have hin : ∀ j ∈ L, ok j = true ∧ isThere s.m[j]? = true := fun j hj => hc.2 j hj
  have hlt : ∀ j ∈ L, j < ρ.length := fun j hj => by
    have := (hin j hj).2
    cases hm : s.m[j]? with
    | none => rw [hm] at this; cases this
    | some x => rw [← h.len]; exact (List.getElem?_eq_some_iff.1 hm).1
  have hpl : ∀ {j i : Nat}, L[j]? = some i → ∃ (p : Pl) (o : Option Obj) (x : Mem Y.T), ρ[i]? = some p ∧ os[i]? = some o ∧ s.m[i]? = some x ∧ (selL L ρ pl0)[j]? = some p ∧ (selL L os none)[j]? = some o ∧ (L.map fun j => (s.m.getD j .gone).sub (rnSb Y.T L))[j]? = some (x.sub (rnSb Y.T L)) := fun {j i} hj => by
    have h1 := hlt i (List.mem_of_getElem? hj)
    have h2 : i < os.length := by rw [h.lon]; exact h1
    have h3 : i < s.m.length := by rw [h.len]; exact h1
    exact ⟨ρ[i], os[i], s.m[i], List.getElem?_eq_getElem h1, List.getElem?_eq_getElem h2, List.getElem?_eq_getElem h3, by rw [selL_get, hj]; simp [List.getD, h1], by rw [selL_get, hj]; simp [List.getD, h2], by rw [List.getElem?_map, hj]; simp [List.getD, h3]⟩
  -- what the callee is handed
  have lead1 : Leads Y (rnSb Y.T L) F ρ F (selL L ρ pl0) := by
    refine ⟨.refl F, fun i p hp => ?_, fun i z n off p hp => ?_, fun i off p hp => ?_⟩ <;> simp only [rnSb] <;> cases hpos : posOf L i with
    | none => exact .junk
    | some j =>
      obtain ⟨p', o', x', h1, _, _, h2, _⟩ := hpl (posOf_some hpos)
      rw [hp] at h1; cases h1
      first
        | exact .own h2
        | exact .oel h2
        | exact .ptr h2
  have hst1 : Gw.St w0 F0 D w F (pts ρ (outs L os) ++ pts (selL L ρ pl0) (selL L os none)) := h.st.retold fun x hx => all_out hn hlt h.lon hx
  obtain ⟨pp, hp0⟩ := hst1.call
  obtain ⟨hstart, back⟩ := hp0 []
  have hcall := hC _ _ r _ e w F (selL L ρ pl0) (selL L os none) vals ⟨pp, []⟩ hG (lead1.rels hY hargs) (by simp [selL]) (by simp [selL]) (fun j x p o h1 h2 h3 => by
    rw [List.getElem?_map] at h1
    cases hj : L[j]? with
    | none => rw [hj] at h1; cases h1
    | some i =>
      obtain ⟨p', o', x', q1, q2, q3, q4, q5, q6⟩ := hpl hj
      rw [h2] at q4; rw [h3] at q5
      cases q4; cases q5
      rw [← List.getElem?_map, q6] at h1
      cases h1
      exact lead1.mem (h.mem i x' p o q3 q1 q2)) hstart
  refine hcall.mono fun en w' hr => ?_
  obtain ⟨res, F', ρ', os', ms', hk, hres, hl1, hl2, hm', hst', hl3, hcells⟩ := hr
  obtain ⟨hle, hk⟩ := bif_do hk
  have hle := Nat.le_of_ble_eq_true hle
  have hselL : (selL L ρ pl0).length = L.length := by simp [selL]
  have hFF := hst'.le
  -- where all lies behind the call
  generalize hρf : insL L ρ' ρ ++ ρ'.drop L.length = ρf
  generalize hosf : insL L os' os ++ os'.drop L.length = osf
  have insT : ∀ {α : Type} (R : List Nat) (new xs : List α), insL R (new.take R.length) xs = insL R new xs := by
    intro α R
    induction R with
    | nil => intro new xs; cases new <;> rfl
    | cons i R ih =>
      intro new xs
      cases new with
      | nil => rfl
      | cons x new => simp only [List.length_cons, List.take_succ_cons, insL]; rw [ih]
  have hin2 : ∀ {j i : Nat}, L[j]? = some i → ρf[i]? = ρ'[j]? ∧ osf[i]? = os'[j]? := fun {j i} hj => by
    have h1 := hlt i (List.mem_of_getElem? hj)
    have hjl := (List.getElem?_eq_some_iff.1 hj).1
    have h2 : j < ρ'.length := by omega
    have h3 : j < os'.length := by omega
    constructor
    · rw [← hρf, List.getElem?_append_left (by rw [insL_length]; exact h1), insL_in hn hj (List.getElem?_eq_getElem h2) h1]
      exact (List.getElem?_eq_getElem h2).symm
    · rw [← hosf, List.getElem?_append_left (by rw [insL_length, h.lon]; exact h1), insL_in hn hj (List.getElem?_eq_getElem h3) (by rw [h.lon]; exact h1)]
      exact (List.getElem?_eq_getElem h3).symm
  have hout2 : ∀ {i : Nat}, i ∉ L → i < ρ.length → ρf[i]? = ρ[i]? ∧ osf[i]? = os[i]? := fun {i} hi h1 => by
    constructor
    · rw [← hρf, List.getElem?_append_left (by rw [insL_length]; exact h1), insL_out hi]
    · rw [← hosf, List.getElem?_append_left (by rw [insL_length, h.lon]; exact h1), insL_out hi]
  have hex2 : ∀ q : Nat, ρf[ρ.length + q]? = ρ'[L.length + q]? ∧ osf[ρ.length + q]? = os'[L.length + q]? := fun q => by
    constructor
    · rw [← hρf, List.getElem?_append_right (by rw [insL_length]; omega), insL_length, Nat.add_sub_cancel_left, List.getElem?_drop]
    · rw [← hosf, List.getElem?_append_right (by rw [insL_length, h.lon]; omega), insL_length, h.lon, Nat.add_sub_cancel_left, List.getElem?_drop]
  have hbk : ∀ (j : Nat) (p : Pl), ρ'[j]? = some p → ρf[bkAt L s.m.length j]? = some p ∧ osf[bkAt L s.m.length j]? = os'[j]? := fun j p hp => by
    unfold bkAt
    cases hj : L[j]? with
    | some i => simp only; exact ⟨by rw [(hin2 hj).1]; exact hp, (hin2 hj).2⟩
    | none =>
      simp only
      have hge : L.length ≤ j := by
        rcases Nat.lt_or_ge j L.length with g | g
        · rw [List.getElem?_eq_getElem g] at hj; cases hj
        · exact g
      have := hex2 (j - L.length)
      rw [show L.length + (j - L.length) = j by omega] at this
      rw [h.len]
      exact ⟨by rw [this.1]; exact hp, this.2⟩
  have lead2 : Leads Y (bkSb Y.T L s.m.length) F' ρ' F' ρf := ⟨.refl F', fun j p hp => .own (hbk j p hp).1, fun j z n off p hp => .oel (hbk j p hp).1, fun j off p hp => .ptr (hbk j p hp).1⟩
  have hisC : ∀ {i : Nat}, i ∈ L → isCells s.m[i]? = true → ∀ p : Pl, ρ[i]? = some p → ∃ p' : Pl, ρf[i]? = some p' ∧ p'.blk = p.blk ∧ ∃ (j : Nat) (ty : TypeId) (l : List (AV Y.T)), L[j]? = some i ∧ ms'[j]? = some (.cells ty l) := fun {i} hi hc p hp => by
    obtain ⟨j, hj⟩ := List.mem_iff_getElem?.1 hi
    obtain ⟨p', o', x', q1, q2, q3, q4, q5, q6⟩ := hpl hj
    rw [hp] at q1; cases q1
    rw [q3] at hc
    cases x' with
    | cells ty l =>
      obtain ⟨⟨ty2, l2, h1⟩, p2, h2, h3⟩ := hcells j ty _ p q6 q4
      exact ⟨p2, by rw [(hin2 hj).1]; exact h2, h3, j, ty2, l2, hj, h1⟩
    | gone => cases hc
    | arr e xs => cases hc
    | mp kk e xs => cases hc
    | it z pos => cases hc
  have lead3 : Leads Y (afSb Y.T L s.m) F ρ F' ρf := by
    have hout : ∀ {i : Nat} {p : Pl}, freshB L i = true → ρ[i]? = some p → ρf[i]? = some p := fun {i p} hf hp => by
      rw [(hout2 (posOf_none (by simpa [freshB] using hf)) (List.getElem?_eq_some_iff.1 hp).1).1]; exact hp
    refine ⟨hFF, fun i p hp => ?_, fun i z n off p hp => ?_, fun i off p hp => ?_⟩ <;> simp only [afSb]
    · cases hf : freshB L i with
      | true => exact .own (hout hf hp)
      | false => exact .junk
    · cases hf : freshB L i with
      | true => exact .oel (hout hf hp)
      | false => exact .junk
    · cases hf : freshB L i with
      | true => exact .ptr (hout hf hp)
      | false =>
        cases hcc : isCells s.m[i]? with
        | false => exact .junk
        | true =>
          have hi : i ∈ L := by
            cases hpos : posOf L i with
            | none => simp [freshB, hpos] at hf
            | some j => exact List.mem_of_getElem? (posOf_some hpos)
          obtain ⟨p', h1, h2, _⟩ := hisC hi hcc p hp
          rw [← h2]
          exact .ptr h1
  have hmem : ∀ (i : Nat) (x : Mem Y.T) (p : Pl) (o : Option Obj), (insL L (ms'.map (Mem.sub (bkSb Y.T L s.m.length))) (s.m.map (Mem.sub (afSb Y.T L s.m))) ++ (ms'.map (Mem.sub (bkSb Y.T L s.m.length))).drop L.length)[i]? = some x → ρf[i]? = some p → osf[i]? = some o → MemRel hY F' ρf x p o := by
    intro i x p o h1 h2 h3
    by_cases hi : i < ρ.length
    · rw [List.getElem?_append_left (by rw [insL_length]; simp [h.len]; exact hi)] at h1
      by_cases hil : i ∈ L
      · obtain ⟨j, hj⟩ := List.mem_iff_getElem?.1 hil
        have hjl : j < ms'.length := by have := (List.getElem?_eq_some_iff.1 hj).1; omega
        rw [insL_in hn hj (x := (ms'[j]).sub (bkSb Y.T L s.m.length)) (by simp [hjl]) (by simp [h.len]; exact hi)] at h1
        cases h1
        rw [(hin2 hj).1] at h2
        rw [(hin2 hj).2] at h3
        exact lead2.mem (hm' j _ p o (List.getElem?_eq_getElem hjl) h2 h3)
      · rw [insL_out hil, List.getElem?_map] at h1
        rw [(hout2 hil hi).1] at h2
        rw [(hout2 hil hi).2] at h3
        cases hm : s.m[i]? with
        | none => rw [hm] at h1; cases h1
        | some y => rw [hm] at h1; cases h1; exact lead3.mem (h.mem i y p o hm h2 h3)
    · obtain ⟨q, rfl⟩ : ∃ q, i = ρ.length + q := ⟨i - ρ.length, by omega⟩
      rw [List.getElem?_append_right (by rw [insL_length]; simp [h.len])] at h1
      rw [insL_length] at h1
      simp only [List.length_map, h.len, Nat.add_sub_cancel_left, List.getElem?_drop, List.getElem?_map] at h1
      rw [(hex2 q).1] at h2
      rw [(hex2 q).2] at h3
      cases hm : ms'[L.length + q]? with
      | none => rw [hm] at h1; cases h1
      | some y => rw [hm] at h1; cases h1; have h4 := lead2.mem (hm' _ y p o hm h2 h3); rw [h.len] at h4; exact h4
  have hst2 : Gw.St w0 F0 D w' F' (pts ρf osf) := by
    have h1 := back hst'
    have e1 : pts ρ' os' = pts (ρ'.take L.length) (os'.take L.length) ++ pts (ρ'.drop L.length) (os'.drop L.length) := by
      rw [← pts_append (by simp [hl2]), List.take_append_drop, List.take_append_drop]
    rw [e1, ← List.append_assoc] at h1
    have h2 := h1.retold (L' := pts (insL L ρ' ρ) (insL L os' os) ++ pts (ρ'.drop L.length) (os'.drop L.length)) fun x hx => by
      refine all_left hx fun y hy => ?_
      have h3 := all_in (ρ2 := ρ'.take L.length) (os2 := os'.take L.length) hn hlt h.lon (by simp; omega) (by simp; omega) hy
      rw [insT, insT] at h3
      exact h3
    rw [← hρf, ← hosf, pts_append (by rw [insL_length, insL_length, h.lon])]
    exact h2
  have hlenf : ρf.length = ρ.length + (ρ'.length - L.length) := by rw [← hρf, List.length_append, insL_length, List.length_drop]
  refine hK _ _ w' F' ρf osf en hk ⟨lead3.ey hY h.e, ?_, ?_, hmem, hst2, fun i b hb => ?_, by have := h.long; omega⟩ ⟨hFF, by omega, fun i p o hok h1 h2 => ?_, fun i ty l p h1 h2 => ?_⟩ (by cases hres with
    | ret h => exact .ret (lead2.rel hY h)
    | pan h => exact .pan (lead2.rel hY h))
  · simp only [List.length_append, insL_length, List.length_map, List.length_drop, h.len, hlenf, hl1]
  · rw [← hosf, hlenf, List.length_append, insL_length, List.length_drop, h.lon, hl2]
  · obtain ⟨⟨p, hp, hpb⟩, hna⟩ := h.fix i b hb
    have hil := (List.getElem?_eq_some_iff.1 hp).1
    by_cases hi : i ∈ L
    · have hthere := (hin i hi).2
      have hcc : isCells s.m[i]? = true := by
        cases hm : s.m[i]? with
        | none => rw [hm] at hthere; cases hthere
        | some x =>
          cases x with
          | gone => rw [hm] at hthere; cases hthere
          | cells ty l => rfl
          | arr e xs => cases hna _ hm
          | mp kk e xs => cases hna _ hm
          | it z pos => cases hna _ hm
      obtain ⟨p', q1, q2, j, ty, l, q3, q4⟩ := hisC hi hcc p hp
      refine ⟨⟨p', q1, q2.trans hpb⟩, fun y h1 => ?_⟩
      rw [List.getElem?_append_left (by rw [insL_length]; simp [h.len]; exact hil), insL_in hn q3 (x := (Mem.cells ty l).sub (bkSb Y.T L s.m.length)) (by rw [List.getElem?_map, q4]; rfl) (by simp [h.len]; exact hil)] at h1
      cases h1
      rfl
    · refine ⟨⟨p, by rw [(hout2 hi hil).1]; exact hp, hpb⟩, fun y h1 => ?_⟩
      rw [List.getElem?_append_left (by rw [insL_length]; simp [h.len]; exact hil), insL_out hi, List.getElem?_map] at h1
      cases hm : s.m[i]? with
      | none => rw [hm] at h1; cases h1
      | some x =>
        rw [hm] at h1
        cases h1
        rw [Mem.still_sub]; exact hna x hm
  · have hi : i ∉ L := fun hi => by rw [(hin i hi).1] at hok; cases hok
    have hil := (List.getElem?_eq_some_iff.1 h1).1
    exact ⟨by rw [(hout2 hi hil).1]; exact h1, .inl (by rw [(hout2 hi hil).2]; exact h2)⟩
  · have hil := (List.getElem?_eq_some_iff.1 h2).1
    by_cases hi : i ∈ L
    · obtain ⟨p', q1, q2, j, ty', l', q3, q4⟩ := hisC hi (by rw [h1]; rfl) p h2
      exact ⟨⟨ty', _, by rw [List.getElem?_append_left (by rw [insL_length]; simp [h.len]; exact hil), insL_in hn q3 (x := (Mem.cells ty' l').sub (bkSb Y.T L s.m.length)) (by rw [List.getElem?_map, q4]; rfl) (by simp [h.len]; exact hil)]; rfl⟩, p', q1, q2⟩
    · exact ⟨⟨ty, _, by rw [List.getElem?_append_left (by rw [insL_length]; simp [h.len]; exact hil), insL_out hi, List.getElem?_map, h1]; rfl⟩, p, by rw [(hout2 hi hil).1]; exact h2, rfl⟩
end
end Go.Dn

