/- One operation, and a list of operations. For any program. -/
import Derived.Test.YtglnkknalibgdaaDoorDnX
import Derived.Test.YtglnkknalibgdaaDoorDnY
import Derived.Test.YtglnkknalibgdaaDoorDnV
import Derived.Test.YtglnkknalibgdaaDoorGwU
set_option linter.unusedVariables false
set_option linter.unusedSimpArgs false
set_option linter.unnecessarySimpa false
namespace Go.Dn
open Go.Gw Go.RowKit
set_option linter.unusedSectionVars false
variable [Dfr]
set_option linter.unusedSimpArgs false

abbrev Tab (Y : Tys) := List (Nat × Callee Y)
def lookT {Y : Tys} : Tab Y → Nat → Option (Callee Y)
  | [], _ => none
  | (k, C) :: r, f => bif Nat.beq k f then some C else lookT r f

def argOwns {T : Nat → Type} (keep : List Nat) : Nat → List (AV T) → List Nat
  | _, [] => []
  | i, a :: r => (bif freshB keep i then a.owns else []) ++ argOwns keep (i + 1) r

section
variable {Y : Tys} {hY : TysOk Y} {P : Program} {N : Nat} {w0 : World} {F0 : Heap} {D : Own} {H : List (Option Nat)} {w w' : World} {F F' : Heap} {ρ ρ' : List Pl} {os os' : List (Option Obj)} {s s' : Sy Y.T} {a a' : Act} {o : Oper} {R : Type} {ok : Nat → Bool} {r : R} {K : Act → World → Prop} {Q : Exit → Act → World → Prop} {k : Sy Y.T → Option R} {kp : Sy Y.T → AV Y.T → Option R} {T : Tab Y} {G : Heap → Prop}

def COk (hY : TysOk Y) (P : Program) (G : Heap → Prop) (f : FuncId) (C : Callee Y) : Prop :=
  Callable P f ∧ ∀ {R : Type} (args : List (AV Y.T)) (ms : List (Mem Y.T)) (r : R) (k : Out Y.T → List (Mem Y.T) → Option R), C.run args ms k = some r → CallOk hY P G f args ms fun res ms' => k res ms' = some r
def TabOk (hY : TysOk Y) (P : Program) (G : Heap → Prop) (T : Tab Y) : Prop := ∀ f C, lookT T f = some C → COk hY P G f C
theorem TabOk.nil : TabOk hY P G [] := fun _ _ h => by cases h
theorem TabOk.cons {f : FuncId} {C : Callee Y} (h : COk hY P G f C) (r : TabOk hY P G T) : TabOk hY P G ((f, C) :: T) := fun g C' e => by
  simp only [lookT] at e
  cases hb : Nat.beq f g with
  | true => rw [hb] at e; cases e; rw [← Nat.eq_of_beq_eq_true hb]; exact h
  | false => rw [hb] at e; exact r g C' e

def outK (k kp : Sy Y.T → AV Y.T → Option R) (s : Sy Y.T) : Out Y.T → Option R
  | .ret y => k s y
  | .pan y => kp s y
/-- wherever it panics, it ends well -/
def Pans (hY : TysOk Y) (N : Nat) (w0 : World) (F0 : Heap) (D : Own) (H : List (Option Nat)) (kp : Sy Y.T → AV Y.T → Option R) (r : R) (Q : Exit → Act → World → Prop) : Prop :=
  ∀ w' F' ρ' os' s' a' x u, Cy hY N w0 F0 D H w' F' ρ' os' s' a' → Rel Y F' ρ' x u → kp s' x = some r → Q (.panic [{ v := u, recovered := false }]) a' w'
/-- a call that only looks -/
def borA (s : Sy Y.T) (c : Call) (C : Callee Y) (as : List (AV Y.T)) (k : Sy Y.T → AV Y.T → Option R) : Option R :=
  match evsA (s.frzs (AV.ownsL as)).l c.args.toList with
  | some as1 => bif AV.frees as1 then C.run as1 [] fun out _ => (match out with | .ret y => (match y.plain with | some v => k s (.v v) | none => none) | .pan _ => none) else none
  | none => none
/-- a world that has more -/
theorem St.later {w0 w w' : World} {F0 F : Heap} {D : Own} {L : List SP} (h : Gw.St w0 F0 D w F L) (b : Below w.heap.size w w') : Gw.St w0 F0 D w' F L := by
  have sub : ∀ {g : Heap}, g.Sub w → g.Sub w' := fun {g} hs => ⟨fun x o e => by rw [b.block x (hs.lt e)]; exact hs.out x o e⟩
  obtain ⟨x, a, s1, f, d⟩ := h.own
  exact ⟨b.os.trans h.os, b.tape.trans h.tape, b.output.trans h.output, Nat.le_trans h.size b.size, fun q hq hD => by rw [b.block q (Nat.lt_of_lt_of_le hq h.size)]; exact h.frame q hq hD, h.le, h.new, sub h.view, x, a, sub s1, f, d⟩
theorem Cy.later (h : Cy hY N w0 F0 D H w F ρ os s a) (b : Below w.heap.size w w') : Cy hY N w0 F0 D H w' F ρ os s a :=
  ⟨h.e, h.len, h.lon, h.mem, St.later h.st b, h.fix, h.long⟩
def callA (T : Tab Y) (ok : Nat → Bool) (s : Sy Y.T) (c : Call) (x : Operand) (k kp : Sy Y.T → AV Y.T → Option R) : Option R :=
  match evA s.l x, evsA s.l c.args.toList with
  | some (.fn f caps0), some as => match lookT T f with
    | some C => bif C.bor then (bif caps0.isEmpty then borA s c C as k else none) else
      let s0 := s.frzs (argOwns C.keep 0 as)
      let q := tie (C.sh (as ++ caps0)).m s0.m 4096 (evK (C.sh (as ++ caps0)).l (as ++ caps0)) [] []
      let s1 := (lay (C.sh (as ++ caps0)).m q.2 s0 q.1).1
      match evA s1.l x, evsA s1.l c.args.toList with
      | some (.fn g caps), some as1 => bif Nat.beq g f then callS ok s1 C (as1 ++ caps) (outK k kp) else none
      | _, _ => none
    | none => none
  | _, _ => none

theorem callA_ok {c : Call} {x : Operand} (hT : TabOk hY P G T) (hG : ∀ F, F0.Le F → G F) (h : Cy hY N w0 F0 D H w F ρ os s a) (hop : o.op = .call c) (hcal : c.callee = .value x)
    (e : callA T ok s c x (fun s' x => fin N o s' x k) kp = some r) (hp : Pans hY N w0 F0 D H kp r Q) (hg : Goes hY N w0 F0 D H ok F ρ os s.m k r K) : o.wp P a w K Q := by
  unfold callA at e
  split at e
  · rename_i f caps0 as hx0 has0
    split at e
    · rename_i C hC
      cases hbor : C.bor with
      | true =>
        rw [hbor] at e
        simp only [cond_true] at e
        obtain ⟨hnocap, e⟩ := bif_do e
        unfold borA at e
        split at e
        · rename_i as1 has1
          obtain ⟨hfree, e⟩ := bif_do e
          obtain ⟨F1, os1, h1, t1⟩ := h.frzs (ok := ok) (AV.ownsL as)
          have hrx := h.e.eval hx0
          generalize hev : a.eval x = ux at hrx
          cases hrx with
          | @fn _ _ cvs hl hr =>
            obtain ⟨hcl, hrun⟩ := hT _ _ hC
            have hra := (evsA_ok h1.e has1).closed hY (ρ' := []) hfree
            have hop' : o.op = .call { callee := .value x, args := c.args, argTypes := c.argTypes } := by rw [hop]; cases c; simp only at hcal; subst hcal; rfl
            have hcaps : cvs = [] := by
              have hz : caps0 = [] := by
                cases caps0 with
                | nil => rfl
                | cons q r0 => simp at hnocap
              subst hz
              exact List.length_eq_zero_iff.1 hl
            subst hcaps
            have hcr := call_runV (P := P) (w := w) (a := a) hop' hev hcl
            have hvals : c.args.map a.eval ++ ([] : List Value).toArray = (c.args.toList.map a.eval).toArray := by
              rw [← Array.toList_inj]; simp
            rw [hvals] at hcr
            unfold Oper.wp
            rw [hcr]
            refine (hrun _ _ _ _ e w F1 [] [] _ No (hG _ h1.st.le) hra rfl rfl (fun k x p o h => by simp at h) (Gw.St.start h1.st.view)).mono fun en w' hh => ?_
            obtain ⟨res, F', ρ', os', ms', hpost, hout, _, _, _, hst, _⟩ := hh
            have hb := (St.only (L := pts ρ' os') (M := []) (by rw [List.append_nil]; exact hst)).below
            have h2 := h.later hb
            cases hout with
            | @ret y u hy =>
              simp only at hpost
              split at hpost
              · rename_i v hv
                have hu := AV.plain_rel hv hy
                subst hu
                unfold fin at hpost
                obtain ⟨hd, hk⟩ := bif_do hpost
                exact hg _ _ _ _ _ _ (h2.put hd .v) (Tr.refl ok F ρ os s.m) hk
              · cases hpost
            | pan hy => cases hpost
        · cases e
      | false =>
      rw [hbor] at e
      simp only [cond_false] at e
      obtain ⟨F1, os1, h1, t1⟩ := h.frzs (ok := ok) (argOwns C.keep 0 as)
      generalize s.frzs (argOwns C.keep 0 as) = s0 at e h1 t1
      obtain ⟨ρ2, os2, h2, t2⟩ := h1.lay (ok := ok) (C.sh (as ++ caps0)).m (tie (C.sh (as ++ caps0)).m s0.m 4096 (evK (C.sh (as ++ caps0)).l (as ++ caps0)) [] []).2 (tie (C.sh (as ++ caps0)).m s0.m 4096 (evK (C.sh (as ++ caps0)).l (as ++ caps0)) [] []).1
      have t1 := t1.trans t2 h1.lon
      have h1 := h2
      clear h2 t2
      generalize (lay (C.sh (as ++ caps0)).m (tie (C.sh (as ++ caps0)).m s0.m 4096 (evK (C.sh (as ++ caps0)).l (as ++ caps0)) [] []).2 s0 (tie (C.sh (as ++ caps0)).m s0.m 4096 (evK (C.sh (as ++ caps0)).l (as ++ caps0)) [] []).1).1 = s1 at e h1 t1
      split at e
      · rename_i g caps as1 hx has
        obtain ⟨hgf0, e1⟩ := bif_do e
        clear e
        have hgf := Nat.eq_of_beq_eq_true hgf0
        clear hgf0
        subst hgf
        have hrx := h1.e.eval hx
        generalize hev : a.eval x = ux at hrx
        cases hrx with
        | @fn _ _ cvs hl hr =>
          obtain ⟨hcl, hrun⟩ := hT _ _ hC
          have hra := evsA_ok h1.e has
          have hop' : o.op = .call { callee := .value x, args := c.args, argTypes := c.argTypes } := by rw [hop]; cases c; simp only at hcal; subst hcal; rfl
          have hcr := call_runV (P := P) (w := w) (a := a) hop' hev hcl
          have hvals : c.args.map a.eval ++ cvs.toArray = (c.args.toList.map a.eval ++ cvs).toArray := by
            rw [← Array.toList_inj]; simp
          rw [hvals] at hcr
          unfold Oper.wp
          rw [hcr]
          refine callS_ok (G := G) (C := C) (fun args ms r k => hrun args ms r k) (hG _ h1.st.le) h1 (hra.append ⟨hl, hr⟩) e1 fun s' y w' F' ρ' os' en hk h' ht hru => ?_
          cases hru with
          | ret hru =>
            simp only [outK] at hk
            unfold fin at hk
            obtain ⟨hd, hk⟩ := bif_do hk
            exact hg _ _ _ _ _ _ (h'.put hd hru) (t1.trans ht h1.lon) hk
          | pan hru => exact hp _ _ _ _ _ _ _ _ h' hru hk
      · cases e
    · cases e
  · cases e

/-- an operation that leaves all as it is -/
def ydA (Y : Tys) (P : Program) (l : AEnv Y.T) (m : List (Mem Y.T)) (o : Oper) (k : AV Y.T → Option R) : Option (Option R) := match quietA P l m o with
  | some x => some (k x)
  | none => match lookMA Y P l m o.op with
    | some x => some (k x)
    | none => match cut3A Y P l o.op k with
      | some q => some q
      | none => partA Y P l m o.op k
theorem ydA_ok {l : AEnv Y.T} {m : List (Mem Y.T)} {k : AV Y.T → Option R} (hsz : Y.sz Y.byt = 1) (h : Ey Y N F ρ l a) (hM : My hY F ρ os m w) (e : ydA Y P l m o k = some (some r)) : ∃ x, Yld hY P F ρ os m a o x ∧ k x = some r := by
  unfold ydA at e
  split at e
  · rename_i x hx
    exact ⟨x, quietA_ok h hM hx, Option.some.inj e⟩
  · split at e
    · rename_i x hx
      exact ⟨x, lookMA_ok h hM hx, Option.some.inj e⟩
    · split at e
      · rename_i q hq
        have e := Option.some.inj e
        subst e
        exact cut3A_ok h hM hq
      · exact partA_ok hsz h hM e

def unw {R : Type} : Option (Option R) → Option R
  | some r => r
  | none => none
/-- an error that is told is thrown -/
def panE {R : Type} (e : GErr) (k : GErr → Option R) : Option R := match e with | .code t n => k (.code t n) | _ => none
/-- one operation -/
def execA (Y : Tys) (P : Program) (T : Tab Y) (N : Nat) (ok : Nat → Bool) (o : Oper) (s : Sy Y.T) (kp : Sy Y.T → AV Y.T → Option R) (k : Sy Y.T → Option R) : Option R := match o.op with
  | .panic x => match evA s.l x with
    | some (.v (.iface t y)) => kp s (.v (.iface t y))
    | some (.err e) => panE e fun e => kp s (.err e)
    | _ => none
  | .alloc _ => match newA P s o.op with | some x => (bif bldM Y x then fin N o ⟨s.l, s.m ++ [x]⟩ (.ptr s.m.length 0) k else none) | none => none
  | .box .. => match newA P s o.op with | some x => (bif bldM Y x then fin N o ⟨s.l, s.m ++ [x]⟩ (.ptr s.m.length 0) k else none) | none => none
  | .buildSlice .. => buildA Y P s (fun s1 x => fin N o ⟨s1.l, s1.m ++ [x]⟩ (.own s1.m.length) k) o.op
  | .store .. => match storeA P ok s o.op with | some s1 => fin N o s1 (.v undef) k | none => storeE Y P N ok s o k
  | .convert .. => match bytesA Y P s.l o.op with | some x => fin N o s x k | none => unw (ydA Y P s.l s.m o fun x => fin N o s x k)
  | .slice _ x _ _ _ => match evA s.l x with
    | some (.own j) => unw (ydA Y P (s.frz j).l (s.frz j).m o fun x => fin N o (s.frz j) x k)
    | _ => unw (ydA Y P s.l s.m o fun x => fin N o s x k)
  | .call c => match c.callee with
    | .value x => callA T ok s c x (fun s' y => fin N o s' y k) kp
    | .builtin .append => appA Y P ok s o.op fun s' y => fin N o s' y k
    | .builtin .delete => mapA Y P N ok s o k
    | _ => unw (ydA Y P s.l s.m o fun x => fin N o s x k)
  | .makeMap .. => mapA Y P N ok s o k
  | .makeSlice .. => mapA Y P N ok s o k
  | .mapUpdate .. => mapA Y P N ok s o k
  | .mapEntry .. => mapA Y P N ok s o k
  | .entryStore .. => mapA Y P N ok s o k
  | .range .. => mapA Y P N ok s o k
  | .next .. => mapA Y P N ok s o k
  | _ => unw (ydA Y P s.l s.m o fun x => fin N o s x k)

theorem execA_ok (hsz : Y.sz Y.byt = 1) (hT : TabOk hY P G T) (hG : ∀ F, F0.Le F → G F) (h : Cy hY N w0 F0 D H w F ρ os s a) (e : execA Y P T N ok o s kp k = some r) (hp : Pans hY N w0 F0 D H kp r Q)
    (hg : Goes hY N w0 F0 D H ok F ρ os s.m k r K) : o.wp P a w K Q := by
  have yd : ∀ {s1 : Sy Y.T} {F1 : Heap} {os1 : List (Option Obj)}, Cy hY N w0 F0 D H w F1 ρ os1 s1 a → Tr ok F ρ os s.m F1 ρ os1 s1.m → unw (ydA Y P s1.l s1.m o fun x => fin N o s1 x k) = some r → o.wp P a w K Q := by
    intro s1 F1 os1 h1 t1 e
    cases hy : ydA Y P s1.l s1.m o fun x => fin N o s1 x k with
    | none => rw [hy] at e; cases e
    | some q =>
      rw [hy] at e
      have e : q = some r := e
      subst e
      obtain ⟨x, ⟨u, hr, hrun⟩, hk⟩ := ydA_ok hsz h1.e h1.my hy
      exact fin_ok (s := s) h1 t1 (hrun w h1.st.view h1.my) hr hk hg
  have yd0 := yd h (Tr.refl ok F ρ os s.m)
  have apr : ∀ {c : Call}, o.op = .call c → appA Y P ok s o.op (fun s' y => fin N o s' y k) = some r → o.wp P a w K Q := fun {c} hop e => by
    refine appA_ok hsz h e fun s' x w' F' ρ' os' u hk h' ht hrun hr => fin_ok (s := s) h' ht hrun hr hk hg
  unfold execA at e
  split at e
  · rename_i x hop
    have go : ∀ {av : AV Y.T} {t : TypeId} {v : Value}, evA s.l x = some av → a.eval x = .iface t v → kp s av = some r → o.wp P a w K Q := fun {av t v} hx hev e => by
      unfold Oper.wp
      have : (execOp a.eval o).run P w = .halt (.panic (.iface t v)) w := by
        unfold execOp; rw [hop]
        simp only [hev, Instr.panic]
        rfl
      rw [this, Oper.upon_panic]
      exact hp _ _ _ _ _ _ _ _ h (by have := h.e.eval hx; rwa [hev] at this) e
    split at e
    · rename_i t y hx
      exact go hx (h.e.eval hx).v_inv e
    · rename_i er hx
      have hr := h.e.eval hx
      generalize hev : a.eval x = ux at hr
      unfold panE at e
      split at e
      · cases hr with
        | err => exact go hx hev e
      · cases e
    · cases e
  · split at e
    · rename_i x hx; obtain ⟨hb, e⟩ := bif_do e; exact newA_ok h hb hx e hg
    · cases e
  · split at e
    · rename_i x hx; obtain ⟨hb, e⟩ := bif_do e; exact newA_ok h hb hx e hg
    · cases e
  · exact buildA_ok h e hg
  · split at e
    · rename_i s1 hx; exact storeA_ok h hx e hg
    · exact storeE_ok h e hg
  · split at e
    · rename_i x hx; exact bytesA_ok hsz h hx e hg
    · exact yd0 e
  · split at e
    · rename_i j hj
      obtain ⟨F1, os1, h1, t1⟩ := h.frz' (ok := ok) j
      exact yd h1 t1 e
    · exact yd0 e
  · rename_i c hop
    split at e
    · rename_i x hcal; exact callA_ok hT hG h hop hcal e hp hg
    · exact apr hop e
    · exact mapA_ok h e hg
    · exact yd0 e
  · exact mapA_ok h e hg
  · exact mapA_ok h e hg
  · exact mapA_ok h e hg
  · exact mapA_ok h e hg
  · exact mapA_ok h e hg
  · exact mapA_ok h e hg
  · exact mapA_ok h e hg
  · exact yd0 e

/-- an operation under its guard -/
def slotOf (ops : Array Oper) (j : Nat) : Option Nat := match ops[j]? with | some o => o.dst | none => none
def setB {T : Nat → Type} (s : Sy T) (d : Nat) (b : Bool) : Sy T := ⟨(d, .v (.bool b)) :: s.l, s.m⟩
def stepA (Y : Tys) (P : Program) (T : Tab Y) (N : Nat) (ok : Nat → Bool) (ops : Array Oper) (o : Oper) (s : Sy Y.T) (kp : Sy Y.T → AV Y.T → Option R) (k : Sy Y.T → Option R) : Option R := match o.guard with
  | none => execA Y P T N ok o s kp k
  | some (j, want) => match slotOf ops j with
    | some d => match lookA s.l d with
      | some (.v (.bool b)) => if b = true then
          (bif want then execA Y P T N ok o (setB s d true) kp k else fin N o (setB s d true) (.v undef) k)
        else (bif want then fin N o (setB s d false) (.v undef) k else execA Y P T N ok o (setB s d false) kp k)
      | some (.v (.tuple _)) => fin N o s (.v undef) k
      | _ => none
    | none => none

theorem Cy.setB (h : Cy hY N w0 F0 D H w F ρ os s a) {d : Nat} {b : Bool} (hd : lookA s.l d = some (.v (.bool b))) : Cy hY N w0 F0 D H w F ρ os (setB s d b) a := by
  refine ⟨⟨h.e.size, h.e.nodef, fun t x e => ?_⟩, h.len, h.lon, h.mem, h.st, h.fix, h.long⟩
  simp only [Dn.setB, lookA] at e
  cases hb : Nat.beq d t with
  | true => rw [hb] at e; cases e; rw [← Nat.eq_of_beq_eq_true hb]; exact h.e.env d _ hd
  | false => rw [hb] at e; exact h.e.env t x e
theorem wanted_of {ops : Array Oper} {j d : Nat} {want b : Bool} {l : AEnv Y.T} (h : Ey Y N F ρ l a) (hg : o.guard = some (j, want)) (hs : slotOf ops j = some d) (hd : lookA l d = some (.v (.bool b))) : Region.wanted o (yielded ops a.tmps) = (b == want) := by
  obtain ⟨hlt, hr⟩ := h.env d _ hd
  have hv := hr.v_inv
  have hget : a.tmps[d]? = some (.bool b) := by
    have hlt' : d < a.tmps.size := by rw [h.size]; exact hlt
    rw [Array.getElem?_eq_getElem hlt']
    simp only [Array.getD, hlt', dite_true] at hv
    rw [← hv]; rfl
  have hy : yielded ops a.tmps j = some b := by
    have hs' : gslot ops j = some d := by
      unfold slotOf at hs; unfold gslot
      cases ho : ops[j]? with
      | none => rw [ho] at hs; cases hs
      | some oj => rw [ho] at hs; simp only at hs ⊢; exact hs
    rw [yielded_slot hs', hget]
  unfold Region.wanted
  rw [hg]
  simp only [hy]
  cases b <;> cases want <;> rfl
theorem unwanted_of {ops : Array Oper} {j d : Nat} {want : Bool} {vs : Array Value} {l : AEnv Y.T} (h : Ey Y N F ρ l a) (hg : o.guard = some (j, want)) (hs : slotOf ops j = some d) (hd : lookA l d = some (.v (.tuple vs))) : Region.wanted o (yielded ops a.tmps) = false := by
  obtain ⟨hlt, hr⟩ := h.env d _ hd
  have hv := hr.v_inv
  have hget : a.tmps[d]? = some (.tuple vs) := by
    have hlt' : d < a.tmps.size := by rw [h.size]; exact hlt
    rw [Array.getElem?_eq_getElem hlt']
    simp only [Array.getD, hlt', dite_true] at hv
    rw [← hv]; rfl
  have hy : yielded ops a.tmps j = none := by
    have hs' : gslot ops j = some d := by
      unfold slotOf at hs; unfold gslot
      cases ho : ops[j]? with
      | none => rw [ho] at hs; cases hs
      | some oj => rw [ho] at hs; simp only at hs ⊢; exact hs
    rw [yielded_slot hs', hget]
  unfold Region.wanted
  rw [hg]
  simp only [hy]
  rfl
theorem stepA_ok {ops : Array Oper} {rest : List Oper} (hsz : Y.sz Y.byt = 1) (hT : TabOk hY P G T) (hG : ∀ F, F0.Le F → G F) (h : Cy hY N w0 F0 D H w F ρ os s a) (e : stepA Y P T N ok ops o s kp k = some r) (hp : Pans hY N w0 F0 D H kp r Q)
    (hg : Goes hY N w0 F0 D H ok F ρ os s.m k r (wpList P ops Q rest)) : wpList P ops Q (o :: rest) a w := by
  unfold stepA at e
  split at e
  · rename_i hgd
    refine wpList_go ?_ (execA_ok hsz hT hG h e hp hg)
    unfold Region.wanted; rw [hgd]
  · rename_i j want hgd
    split at e
    · rename_i d hd
      split at e
      · rename_i b hb
        have hw := wanted_of h.e hgd hd hb
        have hB := h.setB hb
        have skip : ∀ {b' : Bool}, b = b' → Region.wanted o (yielded ops a.tmps) = false → fin N o (setB s d b') (.v undef) k = some r → wpList P ops Q (o :: rest) a w := fun {b'} hbb hw e => by
          subst hbb
          unfold fin at e
          obtain ⟨hdd, e⟩ := bif_do e
          refine wpList_pass hw (hg _ _ _ _ _ _ (hB.put hdd .v) (Tr.refl ok F ρ os s.m) e)
        cases b with
        | true =>
          simp only [if_true] at e
          cases want with
          | true => exact wpList_go hw (execA_ok hsz hT hG hB e hp hg)
          | false => exact skip rfl hw e
        | false =>
          simp only [Bool.false_eq_true, if_false] at e
          cases want with
          | true => exact skip rfl hw e
          | false => exact wpList_go hw (execA_ok hsz hT hG hB e hp hg)
      · rename_i vs hb
        unfold fin at e
        obtain ⟨hdd, e⟩ := bif_do e
        exact wpList_pass (unwanted_of h.e hgd hd hb) (hg _ _ _ _ _ _ (h.put hdd .v) (Tr.refl ok F ρ os s.m) e)
      · cases e
    · cases e

/-- a run of operations under a slot's guard, up to where the slot picks -/
def segAt (d : Nat) : List Oper → Option (List Oper × Nat × List Oper)
  | [] => none
  | o :: r => match o.op, o.dst with
    | .pick (.tmp c) _ _, some dm => if Nat.beq c d = true then some ([o], dm, r) else (match segAt d r with | some (g, m, q) => some (o :: g, m, q) | none => none)
    | _, _ => (match segAt d r with | some (g, m, q) => some (o :: g, m, q) | none => none)
theorem segAt_ok {d : Nat} : ∀ {l g q : List Oper} {m : Nat}, segAt d l = some (g, m, q) → l = g ++ q
  | [], g, q, m, h => by cases h
  | o :: r, g, q, m, h => by
    have go : (match segAt d r with | some (g, m, q) => some (o :: g, m, q) | none => none) = some (g, m, q) → o :: r = g ++ q := fun h => by
      split at h
      · rename_i g' m' q' hs
        cases h
        rw [segAt_ok hs]; rfl
      · cases h
    unfold segAt at h
    split at h
    · split at h
      · cases h; rfl
      · exact go h
    · exact go h
def junks {T : Nat → Type} : List Oper → AEnv T → AEnv T
  | [], l => l
  | o :: r, l => match o.dst with | some d => junks r ((d, .junk) :: l) | none => junks r l
def boolAt {T : Nat → Type} (s : Sy T) (d : Nat) : Option Bool := match lookA s.l d with
  | some (.v (.bool b)) => some b
  | _ => none
def inLit : List Nat → Nat → Bool
  | [], _ => false
  | a :: l, d => Nat.beq a d || inLit l d
/-- operations that leave all as it is, one behind the other: the bool that they come to -/
def totA (Y : Tys) (P : Program) (N : Nat) (ops : Array Oper) (dm : Nat) : Nat → List Nat → List Oper → Sy Y.T → Option Bool
  | _, _, [], s => boolAt s dm
  | 0, _, _ :: _, _ => none
  | n + 1, lit, o :: r, s => match o.guard with
    | none => (match quietA P s.l s.m o with | some x => bif fitsD N o.dst then totA Y P N ops dm n lit r (s.put o.dst x) else none | none => none)
    | some (j, want) => match slotOf ops j with
      | some d => (match lookA s.l d with
        | some (.v (.bool b)) => bif inLit lit d then
            (if b = want then (match quietA P s.l s.m o with | some x => bif fitsD N o.dst then totA Y P N ops dm n lit r (s.put o.dst x) else none | none => none)
             else bif fitsD N o.dst then totA Y P N ops dm n lit r (s.put o.dst (.v undef)) else none)
          else (match segAt d (o :: r) with
            | some (g, m, q) => (match totA Y P N ops m n (d :: lit) g (setB s d true), totA Y P N ops m n (d :: lit) g (setB s d false) with
              | some x, some y => bif fitsD N (some m) then totA Y P N ops dm n lit q ⟨(m, .v (.bool (cond b x y))) :: junks g s.l, s.m⟩ else none
              | _, _ => none)
            | none => none)
        | some (.v (.tuple _)) => bif fitsD N o.dst then totA Y P N ops dm n lit r (s.put o.dst (.v undef)) else none
        | _ => none)
      | none => none
/-- the same, where some may fail -/
def parA (Y : Tys) (P : Program) (N : Nat) (ops : Array Oper) : Nat → List Nat → List Oper → Sy Y.T → (Sy Y.T → Option Bool) → Option Bool
  | _, _, [], s, k => k s
  | 0, _, _ :: _, _, _ => none
  | n + 1, lit, o :: r, s, k => match o.guard with
    | none => unw (ydA Y P s.l s.m o fun x => fin N o s x fun s' => parA Y P N ops n lit r s' k)
    | some (j, want) => match slotOf ops j with
      | some d => (match lookA s.l d with
        | some (.v (.bool b)) => bif inLit lit d then
            (if b = want then unw (ydA Y P s.l s.m o fun x => fin N o s x fun s' => parA Y P N ops n lit r s' k)
             else fin N o s (.v undef) fun s' => parA Y P N ops n lit r s' k)
          else (match segAt d (o :: r) with
            | some (g, m, q) => (match totA Y P N ops m n (d :: lit) g (setB s d true), totA Y P N ops m n (d :: lit) g (setB s d false) with
              | some x, some y => bif fitsD N (some m) then parA Y P N ops n lit q ⟨(m, .v (.bool (cond b x y))) :: junks g s.l, s.m⟩ k else none
              | _, _ => bif fitsD N (some m) then Option.bind (if b = true then parA Y P N ops n (d :: lit) g (setB s d true) (fun s' => boolAt s' m) else parA Y P N ops n (d :: lit) g (setB s d false) (fun s' => boolAt s' m))
                  fun v => parA Y P N ops n lit q ⟨(m, .v (.bool v)) :: junks g s.l, s.m⟩ k else none)
            | none => none)
        | some (.v (.tuple _)) => fin N o s (.v undef) fun s' => parA Y P N ops n lit r s' k
        | _ => none)
      | none => none

theorem wpList_append {ops : Array Oper} : ∀ {g q : List Oper} {a : Act} {w : World}, wpList P ops (Exit.then (wpList P ops Q q) Q) g a w → wpList P ops Q (g ++ q) a w
  | [], q, a, w, h => h
  | o :: g, q, a, w, h => by
    simp only [List.cons_append]
    unfold wpList at h ⊢
    split
    · rename_i hw
      rw [if_pos hw] at h
      refine h.imp (fun h => ?_) id
      unfold Oper.wp at h ⊢
      generalize (execOp a.eval o).run P w = r at h ⊢
      cases r with
      | ok nx w' =>
        cases nx <;> simp only [Oper.upon] at h ⊢ <;>
          first
            | exact wpList_append h
            | exact Calls.mono h (fun e w'' he => by cases e <;> first | exact wpList_append he | exact he)
            | exact Rows.mono h (fun e w'' he => wpList_append he)
            | exact h
      | halt x w' => cases x <;> simp only [Oper.upon] at h ⊢ <;> exact h
    · rename_i hw
      rw [if_neg hw] at h
      exact wpList_append h
theorem junks_append {T : Nat → Type} : ∀ (g q : List Oper) (l : AEnv T), junks (g ++ q) l = junks q (junks g l)
  | [], q, l => rfl
  | o :: g, q, l => by
    simp only [List.cons_append, junks]
    cases o.dst with
    | none => exact junks_append g q l
    | some d => exact junks_append g q _
theorem Cy.forget (h : Cy hY N w0 F0 D H w F ρ os s a) {u : Value} (hd : fitsD N o.dst = true) {q : List Oper} {a' : Act} (hq : ∀ l0 : AEnv Y.T, Cy hY N w0 F0 D H w F ρ os ⟨l0, s.m⟩ (a.put o.dst u) → Cy hY N w0 F0 D H w F ρ os ⟨junks q l0, s.m⟩ a') :
    Cy hY N w0 F0 D H w F ρ os ⟨junks (o :: q) s.l, s.m⟩ a' := by
  have h2 := hq _ (h.put hd (x := .junk) (.junk (u := u)))
  simp only [junks]
  cases hdst : o.dst with
  | none => rw [hdst] at h2; exact h2
  | some d => rw [hdst] at h2; exact h2
theorem boolAt_ok (h : Cy hY N w0 F0 D H w F ρ os s a) {d : Nat} {b : Bool} (hb : boolAt s d = some b) : d < N ∧ a.tmps.getD d undef = .bool b := by
  unfold boolAt at hb
  split at hb
  · rename_i b' hl
    cases hb
    exact ⟨(h.e.env d _ hl).1, (h.e.env d _ hl).2.v_inv⟩
  · cases hb
theorem Cy.merge {l' : AEnv Y.T} (h : Cy hY N w0 F0 D H w F ρ os ⟨l', s.m⟩ a) {m : Nat} {v : Bool} (hv : m < N ∧ a.tmps.getD m undef = .bool v) : Cy hY N w0 F0 D H w F ρ os ⟨(m, .v (.bool v)) :: l', s.m⟩ a := by
  refine ⟨⟨h.e.size, h.e.nodef, fun t x e => ?_⟩, h.len, h.lon, h.mem, h.st, h.fix, h.long⟩
  simp only [lookA] at e
  cases hb : Nat.beq m t with
  | true => rw [hb] at e; cases e; rw [← Nat.eq_of_beq_eq_true hb]; exact ⟨hv.1, by rw [hv.2]; exact .v⟩
  | false => rw [hb] at e; exact h.e.env t x e

theorem totA_ok {ops : Array Oper} : ∀ {n dm : Nat} {lit : List Nat} {l : List Oper} {s : Sy Y.T} {a : Act} {v : Bool} {Q : Exit → Act → World → Prop}, Cy hY N w0 F0 D H w F ρ os s a → totA Y P N ops dm n lit l s = some v →
    (∀ a', (∀ l0 : AEnv Y.T, Cy hY N w0 F0 D H w F ρ os ⟨l0, s.m⟩ a → Cy hY N w0 F0 D H w F ρ os ⟨junks l l0, s.m⟩ a') → (dm < N ∧ a'.tmps.getD dm undef = .bool v) → Q .normal a' w) → wpList P ops Q l a w := by
  intro n
  induction n with
  | zero =>
    intro dm lit l s a v Q h e hK
    cases l with
    | nil => exact hK a (fun l0 h => h) (boolAt_ok h e)
    | cons o r => cases e
  | succ n ih =>
    intro dm lit l s a v Q h e hK
    cases l with
    | nil => exact hK a (fun l0 h => h) (boolAt_ok h e)
    | cons o r =>
      have go : Region.wanted o (yielded ops a.tmps) = true → (match quietA P s.l s.m o with | some x => bif fitsD N o.dst then totA Y P N ops dm n lit r (s.put o.dst x) else none | none => none) = some v → wpList P ops Q (o :: r) a w := fun hw e => by
        split at e
        · rename_i x hx
          obtain ⟨hd, e⟩ := bif_do e
          obtain ⟨u, hr, hrun⟩ := quietA_ok h.e h.my hx
          refine wpList_go hw (wp_of_run (hrun w h.st.view h.my) (ih (h.put hd hr) e fun a' hl hb => hK a' (fun l0 h0 => ?_) hb))
          exact Cy.forget h0 hd hl
        · cases e
      have pass : Region.wanted o (yielded ops a.tmps) = false → (bif fitsD N o.dst then totA Y P N ops dm n lit r (s.put o.dst (.v undef)) else none) = some v → wpList P ops Q (o :: r) a w := fun hw e => by
        obtain ⟨hd, e⟩ := bif_do e
        refine wpList_pass hw (ih (h.put hd .v) e fun a' hl hb => hK a' (fun l0 h0 => ?_) hb)
        exact Cy.forget h0 hd hl
      unfold totA at e
      split at e
      · rename_i hgd
        exact go (by unfold Region.wanted; rw [hgd]) e
      · rename_i j want hgd
        split at e
        · rename_i d hd
          split at e
          · rename_i b hb
            have hw := wanted_of h.e hgd hd hb
            cases hlit : inLit lit d with
            | true =>
              rw [hlit] at e
              simp only [cond_true] at e
              split at e
              · rename_i hbw; exact go (by rw [hw, hbw]; cases want <;> rfl) e
              · rename_i hbw; exact pass (by rw [hw]; cases b <;> cases want <;> first | rfl | exact absurd rfl hbw) e
            | false =>
              rw [hlit] at e
              simp only [cond_false] at e
              split at e
              · rename_i g m q hs
                split at e
                · rename_i x y hx hy
                  obtain ⟨hfm, e⟩ := bif_do e
                  rw [segAt_ok hs]
                  refine wpList_append ?_
                  have fin : ∀ (z : Bool) (a' : Act), z = cond b x y → (∀ l0 : AEnv Y.T, Cy hY N w0 F0 D H w F ρ os ⟨l0, s.m⟩ a → Cy hY N w0 F0 D H w F ρ os ⟨junks g l0, s.m⟩ a') → (m < N ∧ a'.tmps.getD m undef = .bool z) → Exit.then (wpList P ops Q q) Q .normal a' w := by
                    intro z a' hz hl hb2
                    subst hz
                    refine ih ((hl s.l h).merge hb2) e fun a2 hl2 hb3 => hK a2 (fun l0 h0 => ?_) hb3
                    rw [segAt_ok hs, junks_append]
                    exact hl2 _ (hl l0 h0)
                  cases b with
                  | true => exact ih (h.setB hb) hx fun a' hl hb2 => fin x a' rfl hl hb2
                  | false => exact ih (h.setB hb) hy fun a' hl hb2 => fin y a' rfl hl hb2
                · cases e
              · cases e
          · rename_i vs hb
            exact pass (unwanted_of h.e hgd hd hb) e
          · cases e
        · cases e

theorem parA_ok {ops : Array Oper} (hsz : Y.sz Y.byt = 1) : ∀ {n : Nat} {lit : List Nat} {l : List Oper} {s : Sy Y.T} {a : Act} {v : Bool} {k : Sy Y.T → Option Bool} {Q : Exit → Act → World → Prop}, Cy hY N w0 F0 D H w F ρ os s a → parA Y P N ops n lit l s k = some v →
    (∀ a' l', (∀ l0 : AEnv Y.T, Cy hY N w0 F0 D H w F ρ os ⟨l0, s.m⟩ a → Cy hY N w0 F0 D H w F ρ os ⟨junks l l0, s.m⟩ a') → Cy hY N w0 F0 D H w F ρ os ⟨l', s.m⟩ a' → k ⟨l', s.m⟩ = some v → Q .normal a' w) → wpList P ops Q l a w := by
  intro n
  induction n with
  | zero =>
    intro lit l s a v k Q h e hK
    cases l with
    | nil => exact hK a s.l (fun l0 h => h) h e
    | cons o r => cases e
  | succ n ih =>
    intro lit l s a v k Q h e hK
    cases l with
    | nil => exact hK a s.l (fun l0 h => h) h e
    | cons o r =>
      have go : Region.wanted o (yielded ops a.tmps) = true → unw (ydA Y P s.l s.m o fun x => fin N o s x fun s' => parA Y P N ops n lit r s' k) = some v → wpList P ops Q (o :: r) a w := fun hw e => by
        cases hy : ydA Y P s.l s.m o fun x => fin N o s x fun s' => parA Y P N ops n lit r s' k with
        | none => rw [hy] at e; cases e
        | some q =>
          rw [hy] at e
          have e : q = some v := e
          subst e
          obtain ⟨x, ⟨u, hr, hrun⟩, hk⟩ := ydA_ok hsz h.e h.my hy
          unfold fin at hk
          obtain ⟨hd, hk⟩ := bif_do hk
          refine wpList_go hw (wp_of_run (hrun w h.st.view h.my) (ih (h.put hd hr) hk fun a' l' hl h' hb => hK a' l' (fun l0 h0 => ?_) h' hb))
          exact Cy.forget h0 hd hl
      have pass : Region.wanted o (yielded ops a.tmps) = false → (fin N o s (.v undef) fun s' => parA Y P N ops n lit r s' k) = some v → wpList P ops Q (o :: r) a w := fun hw e => by
        unfold fin at e
        obtain ⟨hd, e⟩ := bif_do e
        refine wpList_pass hw (ih (h.put hd .v) e fun a' l' hl h' hb => hK a' l' (fun l0 h0 => ?_) h' hb)
        exact Cy.forget h0 hd hl
      unfold parA at e
      split at e
      · rename_i hgd
        exact go (by unfold Region.wanted; rw [hgd]) e
      · rename_i j want hgd
        split at e
        · rename_i d hd
          split at e
          · rename_i b hb
            have hw := wanted_of h.e hgd hd hb
            cases hlit : inLit lit d with
            | true =>
              rw [hlit] at e
              simp only [cond_true] at e
              split at e
              · rename_i hbw; exact go (by rw [hw, hbw]; cases want <;> rfl) e
              · rename_i hbw; exact pass (by rw [hw]; cases b <;> cases want <;> first | rfl | exact absurd rfl hbw) e
            | false =>
              rw [hlit] at e
              simp only [cond_false] at e
              split at e
              · rename_i g m q hs
                have fin : ∀ (z : Bool) (a' : Act), parA Y P N ops n lit q ⟨(m, .v (.bool z)) :: junks g s.l, s.m⟩ k = some v → (∀ l0 : AEnv Y.T, Cy hY N w0 F0 D H w F ρ os ⟨l0, s.m⟩ a → Cy hY N w0 F0 D H w F ρ os ⟨junks g l0, s.m⟩ a') → (m < N ∧ a'.tmps.getD m undef = .bool z) → Exit.then (wpList P ops Q q) Q .normal a' w := by
                  intro z a' e hl hb2
                  refine ih ((hl s.l h).merge hb2) e fun a2 l2 hl2 h2 hb3 => hK a2 l2 (fun l0 h0 => ?_) h2 hb3
                  rw [segAt_ok hs, junks_append]
                  exact hl2 _ (hl l0 h0)
                split at e
                · rename_i x y hx hy
                  obtain ⟨hfm, e⟩ := bif_do e
                  rw [segAt_ok hs]
                  refine wpList_append ?_
                  cases b with
                  | true => exact totA_ok (h.setB hb) hx fun a' hl hb2 => fin x a' e hl hb2
                  | false => exact totA_ok (h.setB hb) hy fun a' hl hb2 => fin y a' e hl hb2
                · obtain ⟨hfm, e⟩ := bif_do e
                  obtain ⟨z, hz, e2⟩ := bnd_some e
                  rw [segAt_ok hs]
                  refine wpList_append ?_
                  cases b with
                  | true =>
                    simp only [if_true] at hz
                    exact ih (h.setB hb) hz fun a' l' hl h' hb2 => fin z a' e2 hl (boolAt_ok h' hb2)
                  | false =>
                    simp only [Bool.false_eq_true, if_false] at hz
                    exact ih (h.setB hb) hz fun a' l' hl h' hb2 => fin z a' e2 hl (boolAt_ok h' hb2)
              · cases e
          · rename_i vs hb
            exact pass (unwanted_of h.e hgd hd hb) e
          · cases e
        · cases e

/-- an operation of a kind that leaves all as it is -/
def quietK (P : Program) : Op → Bool
  | .move _ => true
  | .assign _ => true
  | .pick .. => true
  | .load .. => true
  | .nilCheck _ => true
  | .unOp .. => true
  | .binOp .. => true
  | .fieldAddr .. => true
  | .field .. => true
  | .index .. => true
  | .indexAddr .. => true
  | .extract .. => true
  | .slice t _ _ _ _ => isStrB P t
  | .convert _ t _ => (match P.underlying t with | some (.int _) => true | _ => false)
  | .call c => (match c.callee with | .builtin .len => true | .builtin .min => true | .builtin .max => true | _ => false)
  | _ => false
def forkAt {T : Nat → Type} (P : Program) (ops : Array Oper) (lit : List Nat) (s : Sy T) (o : Oper) (r : List Oper) : Option (Nat × Bool × List Oper × Nat × List Oper) := match o.guard with
  | none => none
  | some (j, _) => match slotOf ops j with
    | some d => (match lookA s.l d with
      | some (.v (.bool b)) => bif inLit lit d then none else (match segAt d (o :: r) with
        | some (g, m, q) => bif g.all (fun o => quietK P o.op) then some (d, b, g, m, q) else none
        | none => none)
      | _ => none)
    | none => none
def gslotOf (ops : Array Oper) (o : Oper) (lit : List Nat) : List Nat := match o.guard with
  | none => lit
  | some (j, _) => match slotOf ops j with | some d => d :: lit | none => lit
/-- operations one behind the other -/
def runA (Y : Tys) (P : Program) (T : Tab Y) (N : Nat) (ops : Array Oper) (kp : Sy Y.T → AV Y.T → Option R) : Nat → List Nat → List Oper → Sy Y.T → (Sy Y.T → Option R) → Option R
  | _, _, [], s, k => k s
  | 0, _, _ :: _, _, _ => none
  | n + 1, lit, o :: r, s, k => match forkAt P ops lit s o r with
    | some (d, b, g, m, q) => (match totA Y P N ops m n (d :: lit) g (setB s d true), totA Y P N ops m n (d :: lit) g (setB s d false) with
      | some x, some y => runA Y P T N ops kp n lit q ⟨(m, .v (.bool (cond b x y))) :: junks g s.l, s.m⟩ k
      | _, _ => Option.bind (if b = true then parA Y P N ops n (d :: lit) g (setB s d true) (fun s' => boolAt s' m) else parA Y P N ops n (d :: lit) g (setB s d false) (fun s' => boolAt s' m))
          fun v => runA Y P T N ops kp n lit q ⟨(m, .v (.bool v)) :: junks g s.l, s.m⟩ k)
    | none => stepA Y P T N (fun _ => true) ops o s kp fun s' => runA Y P T N ops kp n (gslotOf ops o lit) r s' k
theorem forkAt_ok {ops : Array Oper} {lit : List Nat} {r : List Oper} {d m : Nat} {b : Bool} {g q : List Oper} (h : forkAt P ops lit s o r = some (d, b, g, m, q)) : lookA s.l d = some (.v (.bool b)) ∧ o :: r = g ++ q := by
  unfold forkAt at h
  split at h
  · cases h
  · split at h
    · rename_i d' hd
      split at h
      · rename_i b' hb
        cases hl : inLit lit d' with
        | true => rw [hl] at h; cases h
        | false =>
          rw [hl] at h
          simp only [cond_false] at h
          split at h
          · rename_i g' m' q' hs
            obtain ⟨_, h⟩ := bif_some h
            cases h
            exact ⟨hb, segAt_ok hs⟩
          · cases h
      · cases h
    · cases h
theorem runA_ok {ops : Array Oper} (hsz : Y.sz Y.byt = 1) (hT : TabOk hY P G T) (hG : ∀ F, F0.Le F → G F) (hp : Pans hY N w0 F0 D H kp r Q)
    (hK : ∀ w' F' ρ' os' s' a', Cy hY N w0 F0 D H w' F' ρ' os' s' a' → k s' = some r → Q .normal a' w') : ∀ {n : Nat} {lit : List Nat} {l : List Oper} {w : World} {F : Heap} {ρ : List Pl} {os : List (Option Obj)} {s : Sy Y.T} {a : Act}, Cy hY N w0 F0 D H w F ρ os s a → runA Y P T N ops kp n lit l s k = some r →
    wpList P ops Q l a w := by
  intro n
  induction n with
  | zero =>
    intro lit l w F ρ os s a h e
    cases l with
    | nil => exact hK _ _ _ _ _ _ h e
    | cons o r => cases e
  | succ n ih =>
    intro lit l w F ρ os s a h e
    cases l with
    | nil => exact hK _ _ _ _ _ _ h e
    | cons o r =>
      unfold runA at e
      split at e
      · rename_i d b g m q hf
        obtain ⟨hb, hs⟩ := forkAt_ok hf
        have fin : ∀ (z : Bool) (a' : Act), runA Y P T N ops kp n lit q ⟨(m, .v (.bool z)) :: junks g s.l, s.m⟩ k = some _ → (∀ l0 : AEnv Y.T, Cy hY N w0 F0 D H w F ρ os ⟨l0, s.m⟩ a → Cy hY N w0 F0 D H w F ρ os ⟨junks g l0, s.m⟩ a') → (m < N ∧ a'.tmps.getD m undef = .bool z) → Exit.then (wpList P ops Q q) Q .normal a' w := fun z a' e hl hb2 => ih ((hl s.l h).merge hb2) e
        rw [hs]
        refine wpList_append ?_
        split at e
        · rename_i x y hx hy
          cases b with
          | true => exact totA_ok (h.setB hb) hx fun a' hl hb2 => fin x a' e hl hb2
          | false => exact totA_ok (h.setB hb) hy fun a' hl hb2 => fin y a' e hl hb2
        · obtain ⟨z, hz, e2⟩ := bnd_some e
          cases b with
          | true =>
            simp only [if_true] at hz
            exact parA_ok hsz (h.setB hb) hz fun a' l' hl h' hb2 => fin z a' e2 hl (boolAt_ok h' hb2)
          | false =>
            simp only [Bool.false_eq_true, if_false] at hz
            exact parA_ok hsz (h.setB hb) hz fun a' l' hl h' hb2 => fin z a' e2 hl (boolAt_ok h' hb2)
      · exact stepA_ok hsz hT hG h e hp fun w' F' ρ' os' s' a' h' _ e' => ih h' e'
end
end Go.Dn

