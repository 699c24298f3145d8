/- A function that puts off a closure, which recovers. For any program. -/
import Derived.Test.YtglnkknalibgdaaDoorDnP
import Derived.Recover
set_option linter.unusedVariables false
set_option linter.unusedSimpArgs false
set_option linter.unnecessarySimpa false
namespace Go.Dn
open Go.Gw Go.RowKit
set_option linter.unusedSimpArgs false

section
variable {P : Program} {Q : Exit → Act → World → Prop}
theorem calls_of_TPD {f : FuncId} {fn : Func} {c : Code} {args : Array Value} {w : World} {R : Ending → World → Prop}
    (hf : P.funcs[f]? = some fn) (hb : fn.body = some c)
    (h : TP P [.code c] (bodyPostD P fn R) { tmps := args ++ Array.replicate (fn.ntmps - args.size) undef, defers := [] } w) : Calls P f args w R := by
  intro cs
  let b : Frame := { (default : Frame) with fn := f, kind := .normal }
  have henter : Frame.enter P f args .normal = b.at { tmps := args ++ Array.replicate (fn.ntmps - args.size) undef, defers := [] } [.code c] := by
    simp [Frame.enter, Frame.at, hf, hb, b]
  obtain ⟨e, a', w', hq, harr⟩ := h b cs
  rw [← henter] at harr
  cases e with
  | normal => exact harr.elim
  | ret =>
    obtain ⟨todo, hs₀⟩ := harr
    obtain ⟨e', w'', fr', hR, hs, hfn, hl⟩ := leaves_steps a'.defers .returning w' { b.at a' todo with mode := .returning } cs rfl rfl rfl hf rfl hq
    exact ⟨e', w'', fr', hR, Comes.of_steps hs₀ hs, hfn, hl⟩
  | panic chain =>
    obtain ⟨todo, hs₀⟩ := harr
    obtain ⟨e', w'', fr', hR, hs, hfn, hl⟩ := leaves_steps a'.defers (.panicking chain) w' { b.at a' todo with mode := .panicking chain } cs rfl rfl rfl hf rfl hq
    exact ⟨e', w'', fr', hR, Comes.of_steps hs₀ hs, hfn, hl⟩
  | exit id => exact hq.elim
  | goto l => exact hq.elim
  | outgrown => exact ⟨.outgrown, w', b, hq, harr.resolve_left (by simp [b]), rfl, trivial⟩

/-- what recover hands back, and the mode behind it -/
def recM : FrameMode → Option (Value × FrameMode)
  | .returning => some (.nilIface, .returning)
  | .panicking [{ v, recovered := false, goexit := false }] => some (v, .panicking [{ v, recovered := true }])
  | _ => none
def clQ (P : Program) (gfn : Func) (u' : FrameMode) (R : Ending → FrameMode → World → Prop) : Exit → Act → World → Prop
  | .ret, a, w => a.defers = [] ∧ ∃ v, (results gfn a.tmps).run P w = .ok v w ∧ R (.returned v) u' w
  | .outgrown, _, w => R .outgrown u' w
  | _, _, _ => False
theorem callsD_of_TP {g : FuncId} {gfn : Func} {rid : Nat} {rc : Oper} {crest : Code} {t6 : Tmp} {args : Array Value} {u u' : FrameMode} {v : Value} {w : World} {R : Ending → FrameMode → World → Prop} {at_ : Array TypeId}
    (hf : P.funcs[g]? = some gfn) (hb : gfn.body = some (.seq (.region rid #[rc] false) crest)) (hop : rc.op = .call { callee := .builtin .recover, args := #[], argTypes := at_ }) (hd : rc.dst = some t6) (hgd : rc.guard = none) (hu : recM u = some (v, u'))
    (h : TP P [.code crest] (clQ P gfn u' R) (Act.put { tmps := args ++ Array.replicate (gfn.ntmps - args.size) undef, defers := [] } (some t6) v) w) : CallsD P g args u w R := by
  intro c cs hcu
  let b : Frame := { (default : Frame) with fn := g, kind := .deferred }
  let a0 : Act := { tmps := args ++ Array.replicate (gfn.ntmps - args.size) undef, defers := [] }
  have henter : Frame.enter P g args .deferred = b.at a0 [.code (.seq (.region rid #[rc] false) crest)] := by
    simp [Frame.enter, Frame.at, hf, hb, b, a0]
  have hrun : (execOp a0.eval rc).run P w = .ok .recover w := by
    unfold execOp; rw [hop]; simp [resolve, invoke, builtin, Sem.run_bind]
  have hw : Region.wanted rc (yielded #[rc] a0.tmps) = true := by simp [Region.wanted, hgd]
  have hreg : (Code.region rid #[rc] false).wpS P (fun e a' cs' w' => e = .normal ∧ a' = a0.put (some t6) v ∧ cs' = { c with mode := u' } :: cs ∧ w' = w) a0 (c :: cs) w := by
    apply wpS_region
    show wpOpsS P #[rc] _ [0] a0 (c :: cs) w
    have h0 : (#[rc] : Array Oper)[0]? = some rc := rfl
    simp only [wpOpsS, h0, hw, if_true, hrun]
    unfold recM at hu
    split at hu
    · cases hu
      have : recoverD (c :: cs) = none := by simp only [recoverD, hcu]
      rw [this]
      refine ⟨trivial, by rw [hd], ?_, trivial⟩
      rw [← hcu]
    · cases hu
      have : recoverD (c :: cs) = some (v, { c with mode := .panicking [{ v := v, recovered := true }] } :: cs) := by simp only [recoverD, hcu]
      rw [this]
      exact ⟨trivial, by rw [hd], rfl, trivial⟩
    · cases hu
  obtain ⟨e1, a1, cs1, w1, ⟨rfl, rfl, rfl, rfl⟩, harr1⟩ := hreg b [.code crest] rfl rfl
  obtain ⟨e2, a2, w2, hq, harr2⟩ := h b ({ c with mode := u' } :: cs)
  have hs1 : Steps P (lone (Frame.enter P g args .deferred) (c :: cs) w1) (lone (b.at (a0.put (some t6) v) [.code crest]) ({ c with mode := u' } :: cs) w1) := by
    rw [henter]; exact .head step_seq harr1
  cases e2 with
  | ret =>
    obtain ⟨hd2, v2, hr, hR⟩ := hq
    obtain ⟨todo, hs⟩ := harr2
    exact ⟨.returned v2, u', w2, _, hR, hs1.trans hs, rfl, rfl, hd2, gfn, hf, hr⟩
  | outgrown =>
    refine ⟨.outgrown, u', w2, b, hq, ?_, rfl, trivial⟩
    exact Outgrown.of_steps hs1 (harr2.resolve_left (by simp [b]))
  | normal => exact hq.elim
  | exit id => exact hq.elim
  | goto l => exact hq.elim
  | panic ch => exact hq.elim
end

section
variable (Y : Tys) (P : Program)
/-- where a closure is put off -/
def cutD (body : Code) (key : List (List Nat)) : Option (FuncId × Tmp × List Operand × List PI) := match itemsAt body key with
  | some ((_, .code (.region _ ops draw)) :: todo) => bif draw then none else (match ops.toList with
    | [mk, df] => match mk.op, mk.dst, mk.guard, df.op, df.dst, df.guard with
      | .makeFunc (.func g) first caps, some td, none, .defer c, none, none => match first.toList, c.callee, c.args.toList with
        | [], .value (.tmp t), [] => bif Nat.beq t td then some (g, td, caps.toList, todo) else none
        | _, _, _ => none
      | _, _, _, _, _, _ => none
    | _ => none)
  | _ => none
/-- a closure that recovers first of all -/
def cutC (gfn : Func) : Option (Tmp × Code) := match gfn.body with
  | some (.seq (.region _ ops draw) crest) => bif draw then none else (match ops.toList with
    | [rc] => match rc.op, rc.dst, rc.guard with
      | .call c, some t6, none => match c.callee, c.args.toList, gfn.results.toList with
        | .builtin .recover, [], [] => some (t6, crest)
        | _, _, _ => none
      | _, _, _ => none
    | _ => none)
  | _ => none
/-- a place among the cells of an own object behind those that were handed in -/
def isPl (h : Nat) (m : List (Mem Y.T)) : AV Y.T → Bool
  | .ptr k _ => Nat.ble h k && (match m[k]? with | some (.cells _ _) => true | _ => false)
  | _ => false
def isPls (h : Nat) (m : List (Mem Y.T)) : List (AV Y.T) → Bool
  | [] => true
  | x :: r => isPl Y h m x && isPls h m r
def resL (h : Nat) (l : AEnv Y.T) (m : List (Mem Y.T)) : List ResultVar → Option (AEnv Y.T)
  | [] => some []
  | .cell ad _ :: r => match lookA l ad, resL h l m r with
    | some x, some q => bif isPl Y h m x then some ((ad, x) :: q) else none
    | _, _ => none
  | .tmp _ :: _ => none
def samePl : AV Y.T → AV Y.T → Bool
  | .ptr k o, .ptr k' o' => Nat.beq k k' && Nat.beq o o'
  | _, _ => false
def sameL : AEnv Y.T → AEnv Y.T → Bool
  | [], _ => true
  | (ad, x) :: r, l => (match lookA l ad with | some y => samePl Y x y | none => false) && sameL r l
noncomputable def closA (T : Tab Y) (gfn : Func) (caps : List (AV Y.T)) (t6 : Tmp) (crest : Code) {A : Type} (fin : List (Mem Y.T) → Option A) (m : List (Mem Y.T)) (x : AV Y.T) : Option A :=
  goA Y P T gfn.ntmps true [] (fun sc => fin sc.m) (fun _ _ => none) 100000 false [(2, .code crest)] ⟨(t6, x) :: zipE Y (iota 0 caps.length) caps, m⟩
noncomputable def deferJ (T : Tab Y) (fn gfn : Func) (gid : FuncId) (h : Nat) (outs : List OutP) (body : Code) (key : List (List Nat)) (s : Sy Y.T) : Option (ParO Y outs) :=
  match cutD body key, cutC gfn with
  | some (g, td, capo, todo), some (t6, crest) => match evsA s.l capo, resL Y h s.l s.m fn.results.toList with
    | some caps, some rl => bif Nat.beq g gid && (isPls Y h s.m caps && (Nat.blt td fn.ntmps && (Nat.blt t6 gfn.ntmps && Nat.ble caps.length gfn.ntmps))) then
        goA Y P T fn.ntmps false []
          (fun s' => bif sameL Y rl s'.l then closA Y P T gfn caps t6 crest (fun m => finD Y P h fn.results.toList outs ⟨rl, m⟩) s'.m (.err .nil) else none)
          (fun s' x => bif sameL Y rl s'.l then closA Y P T gfn caps t6 crest (fun m => finD Y P h fn.results.toList outs ⟨rl, m⟩) s'.m x else none) 100000 false todo ⟨(td, .fn g caps) :: s.l, s.m⟩
      else none
    | _, _ => none
  | _, _ => none
end

section
variable {Y : Tys} {hY : TysOk Y} {P : Program} {N N' : Nat} {w0 : World} {F0 : Heap} {D : Own} {H H2 : List (Option Nat)} {w w' : World} {F F' : Heap} {ρ ρ' : List Pl} {os os' : List (Option Obj)} {s s' : Sy Y.T} {a a' : Act} {T : Tab Y} {G : Heap → Prop} {Q : Exit → Act → World → Prop} {A B : Type} {body : Code}

/-- another frame upon the same memory -/
theorem Cy.frame {ds es : List Deferred} (h : @Cy Y ⟨ds⟩ hY N w0 F0 D H w F ρ os s a) {l : AEnv Y.T} (e : @Ey ⟨es⟩ Y N' F ρ l a') : @Cy Y ⟨es⟩ hY N' w0 F0 D H w F ρ os ⟨l, s.m⟩ a' := by
  obtain ⟨_, h1, h2, h3, h4, h5, h6⟩ := h
  exact @Cy.mk Y ⟨es⟩ _ _ _ _ _ _ _ _ _ _ _ _ e h1 h2 h3 h4 h5 h6
theorem Cy.less {H' : List (Option Nat)} (h : Cy hY N w0 F0 D (H ++ H') w F ρ os s a) : Cy hY N w0 F0 D H w F ρ os s a := by
  obtain ⟨e, h1, h2, h3, h4, h5, h6⟩ := h
  refine ⟨e, h1, h2, h3, h4, fun k b hk => h5 k b ?_, by rw [List.length_append] at h6; omega⟩
  have hl := (List.getElem?_eq_some_iff.1 hk).1
  rw [List.getElem?_append_left hl]; exact hk
theorem cutD_ok {key : List (List Nat)} {g : FuncId} {td : Tmp} {capo : List Operand} {todo : List PI} (h : cutD body key = some (g, td, capo, todo)) :
    ∃ p id mk df caps at_, itemsAt body key = some ((p, .code (.region id #[mk, df] false)) :: todo) ∧ mk.op = .makeFunc (.func g) #[] caps ∧ caps.toList = capo ∧ mk.dst = some td ∧ mk.guard = none ∧
      df.op = .defer { callee := .value (.tmp td), args := #[], argTypes := at_ } ∧ df.dst = none ∧ df.guard = none := by
  unfold cutD at h
  split at h
  · rename_i p id ops draw todo' hit
    cases draw with
    | true => cases h
    | false =>
      simp only [cond_false] at h
      split at h
      · rename_i mk df hops
        split at h
        · rename_i g' first caps td' c h1 h2 h3 h4 h5 h6
          split at h
          · rename_i t hf hc ha
            cases hb : Nat.beq t td' with
            | false => rw [hb] at h; cases h
            | true =>
              rw [hb] at h
              have := Nat.eq_of_beq_eq_true hb
              subst this
              cases h
              have hops' : ops = #[mk, df] := by rw [← Array.toList_inj, hops]
              have hfirst : first = #[] := by rw [← Array.toList_inj, hf]
              subst hops'
              subst hfirst
              refine ⟨p, id, mk, df, caps, c.argTypes, hit, h1, rfl, h2, h3, ?_, h5, h6⟩
              rw [h4]
              have hargs : c.args = #[] := by rw [← Array.toList_inj, ha]
              cases c
              simp only at hc hargs
              subst hc
              subst hargs
              rfl
          · cases h
        · cases h
      · cases h
  · cases h
theorem cutC_ok {gfn : Func} {t6 : Tmp} {crest : Code} (h : cutC gfn = some (t6, crest)) :
    ∃ id rc at_, gfn.body = some (.seq (.region id #[rc] false) crest) ∧ rc.op = .call { callee := .builtin .recover, args := #[], argTypes := at_ } ∧ rc.dst = some t6 ∧ rc.guard = none ∧ gfn.results = #[] := by
  unfold cutC at h
  split at h
  · rename_i id ops draw crest' hb
    cases draw with
    | true => cases h
    | false =>
      simp only [cond_false] at h
      split at h
      · rename_i rc hops
        split at h
        · rename_i c t6' h1 h2 h3
          split at h
          · rename_i hc ha hr
            cases h
            have hops' : ops = #[rc] := by rw [← Array.toList_inj, hops]
            subst hops'
            refine ⟨id, rc, c.argTypes, hb, ?_, h2, h3, by rw [← Array.toList_inj, hr]⟩
            rw [h1]
            have hargs : c.args = #[] := by rw [← Array.toList_inj, ha]
            cases c
            simp only at hc hargs
            subst hc
            subst hargs
            rfl
          · cases h
        · cases h
      · cases h
  · cases h
/-- where the own cells lie, those behind the handed ones too -/
def fix2 (H : List (Option Nat)) (ms : List (Mem Y.T)) (ρ : List Pl) : List (Option Nat) := H ++ (fixOf ms ρ).drop H.length
theorem fix2_get (h : Cy hY N w0 F0 D H w F ρ os s a) {k b : Nat} (e : (fix2 H s.m ρ)[k]? = some (some b)) : (∃ p : Pl, ρ[k]? = some p ∧ p.blk = b) ∧ ∀ x, s.m[k]? = some x → x.still = true := by
  unfold fix2 at e
  by_cases hk : k < H.length
  · rw [List.getElem?_append_left hk] at e
    exact h.fix k b e
  · rw [List.getElem?_append_right (by omega), List.getElem?_drop] at e
    have e2 : (fixOf s.m ρ)[k]? = some (some b) := by
      rw [← e]; congr 1; omega
    obtain ⟨ty, l, p, h1, h2, h3⟩ := fixOf_get e2
    exact ⟨⟨p, h2, h3⟩, fun x h4 => by rw [h1] at h4; cases h4; rfl⟩
theorem fix2_len (h : Cy hY N w0 F0 D H w F ρ os s a) : (fix2 H s.m ρ).length ≤ ρ.length := by
  have h1 := fixOf_length h.len
  have h2 := h.long
  unfold fix2
  rw [List.length_append, List.length_drop, h1]
  omega
theorem fix2_pl (h : Cy hY N w0 F0 D H w F ρ os s a) {k o : Nat} (e : isPl Y H.length s.m (.ptr k o) = true) : ∃ p, ρ[k]? = some p ∧ (fix2 H s.m ρ)[k]? = some (some p.blk) := by
  simp only [isPl, Bool.and_eq_true] at e
  obtain ⟨h1, h2⟩ := e
  have hk : H.length ≤ k := Nat.le_of_ble_eq_true h1
  split at h2
  · rename_i ty l hm
    have hk2 : k < ρ.length := by rw [← h.len]; exact (List.getElem?_eq_some_iff.1 hm).1
    have hp : ρ[k]? = some ρ[k] := List.getElem?_eq_getElem hk2
    refine ⟨_, hp, ?_⟩
    unfold fix2
    rw [List.getElem?_append_right hk, List.getElem?_drop]
    have : H.length + (k - H.length) = k := by omega
    rw [this]
    exact fixOf_cells hm hp
  · cases h2
/-- a pointer to what is fixed is the same wherever it is told -/
theorem Rel.moved {k o : Nat} {u : Value} (r : Rel Y F ρ (.ptr k o) u) {p p' : Pl} (h1 : ρ[k]? = some p) (h2 : ρ'[k]? = some p') (h3 : p'.blk = p.blk) : Rel Y F' ρ' (.ptr k o) u := by
  cases r with
  | @ptr _ _ q hq =>
    rw [h1] at hq
    cases hq
    rw [← h3]
    exact .ptr h2
theorem samePl_ok {x y : AV Y.T} (h : samePl Y x y = true) : ∃ k o, x = .ptr k o ∧ y = .ptr k o := by
  unfold samePl at h
  split at h
  · rename_i k o k' o'
    simp only [Bool.and_eq_true] at h
    rw [Nat.eq_of_beq_eq_true h.1, Nat.eq_of_beq_eq_true h.2]
    exact ⟨_, _, rfl, rfl⟩
  · cases h
theorem sameL_ok : ∀ {rl l : AEnv Y.T} {t : Nat} {x : AV Y.T}, sameL Y rl l = true → lookA rl t = some x → ∃ k o, x = .ptr k o ∧ lookA l t = some (.ptr k o)
  | [], l, t, x, _, h => by cases h
  | (ad, y) :: r, l, t, x, hs, h => by
    simp only [sameL, Bool.and_eq_true] at hs
    simp only [lookA] at h
    cases hb : Nat.beq ad t with
    | true =>
      rw [hb] at h
      cases h
      have := Nat.eq_of_beq_eq_true hb
      subst this
      obtain ⟨h1, _⟩ := hs
      split at h1
      · rename_i z hz
        obtain ⟨k, o, e1, e2⟩ := samePl_ok h1
        exact ⟨k, o, e1, by rw [hz, e2]⟩
      · cases h1
    | false =>
      rw [hb] at h
      exact sameL_ok hs.2 h
theorem resL_ok {h : Nat} {l : AEnv Y.T} {m : List (Mem Y.T)} : ∀ {rs : List ResultVar} {rl : AEnv Y.T} {t : Nat} {x : AV Y.T}, resL Y h l m rs = some rl → lookA rl t = some x → isPl Y h m x = true
  | [], rl, t, x, e, hx => by cases e; cases hx
  | .tmp _ :: _, rl, t, x, e, hx => by cases e
  | .cell ad ty :: r, rl, t, x, e, hx => by
    simp only [resL] at e
    split at e
    · rename_i y q hy hq
      obtain ⟨hp, e⟩ := bif_do e
      cases e
      simp only [lookA] at hx
      cases hb : Nat.beq ad t with
      | true => rw [hb] at hx; cases hx; exact hp
      | false => rw [hb] at hx; exact resL_ok hq hx
    · cases e
theorem isPls_ok {h : Nat} {m : List (Mem Y.T)} : ∀ {l : List (AV Y.T)} {i : Nat} {x : AV Y.T}, isPls Y h m l = true → l[i]? = some x → isPl Y h m x = true
  | [], i, x, _, h => by simp at h
  | y :: l, 0, x, hs, h => by simp at h; subst h; simp only [isPls, Bool.and_eq_true] at hs; exact hs.1
  | y :: l, i + 1, x, hs, h => by simp only [isPls, Bool.and_eq_true] at hs; exact isPls_ok hs.2 (by simpa using h)
theorem isPl_ptr {h : Nat} {m : List (Mem Y.T)} {x : AV Y.T} (e : isPl Y h m x = true) : ∃ k o, x = .ptr k o := by
  unfold isPl at e
  split at e
  · exact ⟨_, _, rfl⟩
  · cases e
/-- the slots of a call that is handed these -/
theorem Ey.args {n : Nat} {as : List (AV Y.T)} {vs : List Value} (r : Rels Y F ρ as vs) (hn : as.length ≤ n) : Ey Y n F ρ (zipE Y (iota 0 as.length) as) ⟨vs.toArray ++ Array.replicate (n - vs.toArray.size) undef, []⟩ := by
  have hl := r.1
  refine ⟨?_, rfl, fun t x hx => ?_⟩
  · simp only [Array.size_append, List.size_toArray, Array.size_replicate]
    omega
  · obtain ⟨i, h3, h4⟩ := zipE_ok hx
    have hi : t = i := by have := iota_get h3; omega
    subst hi
    obtain ⟨u, hu, hr⟩ := r.get h4
    have h5 := (List.getElem?_eq_some_iff.1 h4).1
    have h6 := (List.getElem?_eq_some_iff.1 hu).1
    refine ⟨by omega, ?_⟩
    have h1 : (vs.toArray ++ Array.replicate (n - vs.toArray.size) undef)[t]? = some u := by
      rw [Array.getElem?_append_left (by simpa using h6)]
      simpa using hu
    rw [Array.getD_eq_getD_getElem?, h1]
    exact hr

/-- the closure, and the results behind it -/
theorem door_ok {fn gfn : Func} {gid : FuncId} {caps : List (AV Y.T)} {capsV : List Value} {t6 : Tmp} {crest : Code} {rl : AEnv Y.T} {outs : List OutP} {zo : ParO Y outs} {R : Ending → World → Prop} {rid : Nat} {rc : Oper} {at2 : Array TypeId}
    {w1 w2 : World} {F1 F2 : Heap} {ρ1 ρ2 : List Pl} {os1 os2 : List (Option Obj)} {s1 s2 : Sy Y.T} {a1 a2 : Act} {ds : List Deferred} {x : AV Y.T} {v : Value} {u u' : FrameMode}
    (hgf : P.funcs[gid]? = some gfn) (hgc : Callable P gid) (hgb : gfn.body = some (.seq (.region rid #[rc] false) crest)) (hrc : rc.op = .call { callee := .builtin .recover, args := #[], argTypes := at2 }) (hrd : rc.dst = some t6) (hrg : rc.guard = none) (hgr : gfn.results = #[])
    (hsz : Y.sz Y.byt = 1) (hT : TabOk hY P G T) (hGle : ∀ F, F0.Le F → G F) (hE : EndsR hY P fn outs zo w0 F0 D H R)
    (h1 : Cy hY fn.ntmps w0 F0 D H w1 F1 ρ1 os1 s1 a1) (hcr : Rels Y F1 ρ1 caps capsV) (hpl : isPls Y H.length s1.m caps = true) (hrl : resL Y H.length s1.l s1.m fn.results.toList = some rl) (hcl : caps.length ≤ gfn.ntmps) (ht6 : Nat.blt t6 gfn.ntmps = true)
    (h2 : @Cy Y ⟨ds⟩ hY fn.ntmps w0 F0 D (fix2 H s1.m ρ1) w2 F2 ρ2 os2 s2 a2) (hs : sameL Y rl s2.l = true) (hx : Rel Y F2 ρ2 x v)
    (e : closA Y P T gfn caps t6 crest (fun m => finD Y P H.length fn.results.toList outs ⟨rl, m⟩) s2.m x = some zo) (hrec : recM u = some (v, u')) (hset : settle u' = .returning) (hu : u ≠ .run) :
    Leaves P fn a2.tmps R [{ target := .fn (.func gid) capsV.toArray, args := #[] }] u w2 := by
  have hinv : (invoke (.fn (.func gid) capsV.toArray) #[]).run P w2 = .ok (.enter gid capsV.toArray) w2 := by
    have := hgc.run (#[] ++ capsV.toArray) w2
    simpa [invoke] using this
  refine leaves_cons hu hinv (callsD_of_TP hgf hgb hrc hrd hrg hrec ?_)
  -- what was captured lies where it lay
  have mv : ∀ {F3 : Heap} {ρ3 : List Pl}, (∀ (k b : Nat), (fix2 H s1.m ρ1)[k]? = some (some b) → ∃ p : Pl, ρ3[k]? = some p ∧ p.blk = b) → Rels Y F3 ρ3 caps capsV := fun hfix => ⟨hcr.1, fun j y z hy hz => by
    have hp := isPls_ok hpl hy
    obtain ⟨k, o, rfl⟩ := isPl_ptr hp
    obtain ⟨p, hp1, hp2⟩ := fix2_pl h1 hp
    obtain ⟨p', hp3, hp4⟩ := hfix _ _ hp2
    exact (hcr.2 j _ z hy hz).moved hp1 hp3 hp4⟩
  have h2' := h2
  obtain ⟨he2, _, _, _, _, hfix2, _⟩ := h2'
  obtain ⟨hsz2, _, henv2⟩ := he2
  have hE0 := (Ey.args (n := gfn.ntmps) (mv (F3 := F2) fun k b hk => (hfix2 k b hk).1) hcl)
  have hE1 := hE0.put (d := some t6) ht6 hx
  have h3 : Cy hY gfn.ntmps w0 F0 D (fix2 H s1.m ρ1) w2 F2 ρ2 os2 _ _ := Cy.frame (es := []) h2 hE1
  refine goA_ok (body := .seq (.region rid #[rc] false) crest) (todo := [(2, .code crest)]) (env := []) (M := fun y => y = zo) (kp := fun _ _ => none) hsz hT hGle (dr := true) (fun _ => .inr fun _ _ => rfl) ?_ (fun y hy => by cases List.mem_singleton.1 hy; exact .seq2 .root rfl) h3 e rfl
  refine ⟨fun w3 F3 ρ3 os3 s3 a3 y h4 e4 hy => ?_, fun y hy w3 F3 ρ3 os3 s3 a3 y2 u2 h4 h5 e4 => (by cases e4), fun r J hm => by cases hm⟩
  subst hy
  refine ⟨h4.e.nodef, .tuple #[], results_none hgr _ _ _, ?_⟩
  show Leaves P fn a2.tmps R [] (settle u') w3
  rw [hset]
  have hEr : Ey Y fn.ntmps F3 ρ3 rl ⟨a2.tmps, []⟩ := by
    refine ⟨?_, rfl, fun t z hz => ?_⟩
    · exact hsz2
    · obtain ⟨k, o, rfl, hl⟩ := sameL_ok hs hz
      have hp := resL_ok hrl hz
      obtain ⟨p, hp1, hp2⟩ := fix2_pl h1 hp
      obtain ⟨p', hp3, hp4⟩ := (hfix2 _ _ hp2).1
      obtain ⟨p3, hp5, hp6⟩ := (h4.fix _ _ hp2).1
      have := henv2 t _ hl
      exact ⟨this.1, this.2.moved hp3 hp5 (by rw [hp4, hp6])⟩
  have h5 : Cy hY fn.ntmps w0 F0 D (fix2 H s1.m ρ1) w3 F3 ρ3 os3 ⟨rl, s3.m⟩ ⟨a2.tmps, []⟩ := Cy.frame (ds := []) (es := []) h4 hEr
  exact hE.1 w3 F3 ρ3 os3 ⟨rl, s3.m⟩ ⟨a2.tmps, []⟩ (Cy.less h5) e4

/-- the walk of a function that puts off a closure, which recovers -/
theorem fn_okD {f gid : FuncId} {fn gfn : Func} {body : Code} {keep : List Nat} {σ : Shape} {outs : List OutP} {g : ParS Y σ → Option (ParO Y outs)} (key : List (List Nat)) (hf : P.funcs[f]? = some fn) (hb : fn.body = some body) (hc : Callable P f)
    (hgf : P.funcs[gid]? = some gfn) (hgc : Callable P gid)
    (hsz : Y.sz Y.byt = 1) (hT : TabOk hY P G T) (hGm : ∀ F F', F.Le F' → G F → G F') (hst : (Nat.ble (keys σ.l).length fn.ntmps && beqL (keys σ.l) (iota 0 (keys σ.l).length) && outs.all fun o => cellsStay σ.m o.m) = true)
    (hg : ∀ z, goA Y P T fn.ntmps true [(keyN key, deferJ Y P T fn gfn gid σ.m.length outs body key)] (finD Y P σ.m.length fn.results.toList outs) (fun _ _ => none) 100000 false [(0, .code body)] (fillS Y σ z) = g z) :
    COk hY P G f (callee Y keep σ outs g) := by
  refine fn_core hc hGm hst fun {w F ρ os D H z zo vals R} hGle hHm h1 hzo hE => ?_
  refine calls_of_TPD hf hb ?_
  have hg1 := hg z
  rw [hzo, hHm.symm] at hg1
  have C0 : Ctx hY P fn.ntmps w F D H (bodyPostD P fn R) body (fun x => x = zo) [] (finD Y P H.length fn.results.toList outs) (fun _ _ => none) := by
    refine ⟨fun w1 F1 ρ1 os1 s1 a1 x h2 e2 hx => ?_, fun x hx w1 F1 ρ1 os1 s1 a1 y u h2 h3 e2 => (by cases e2), fun r J hm => by cases hm⟩
    subst hx
    show Leaves P fn a1.tmps R a1.defers .returning w1
    have hn : a1.defers = [] := h2.e.nodef
    rw [hn]
    exact hE.1 _ _ _ _ _ _ h2 e2
  refine goA_ok (todo := [(0, .code body)]) hsz hT hGle (fun _ => .inr fun _ _ => rfl) (C0.cons fun todo hat hk w1 F1 ρ1 os1 s a x h e hx => ?_) (fun x hx => by cases List.mem_singleton.1 hx; exact .root) h1 hg1 rfl
  subst hx
  unfold deferJ at e
  split at e
  · rename_i g' td capo todo' t6 crest hcd hcc
    split at e
    · rename_i caps rl hcaps hrl
      obtain ⟨hcond, e5⟩ := bif_do e
      clear e
      simp only [Bool.and_eq_true] at hcond
      obtain ⟨hgid, hpl, htd, ht6, hcl⟩ := hcond
      have := Nat.eq_of_beq_eq_true hgid
      subst this
      have hcl := Nat.le_of_ble_eq_true hcl
      obtain ⟨p, id, mk, df, capsO, at_, hit, hmk, hcapo, hmd, hmg, hdf, hdd, hdg⟩ := cutD_ok hcd
      obtain ⟨rid, rc, at2, hgb, hrc, hrd, hrg, hgr⟩ := cutC_ok hcc
      have hat' := itemsAt_ok hit
      have := hat.uniq hat' (by rw [hk, itemsAt_key hit])
      subst this
      have hcr := evsA_ok h.e hcaps
      generalize hcv : capo.map a.eval = capsV at hcr
      let d : Deferred := { target := .fn (.func g') capsV.toArray, args := #[] }
      let a2 : Act := { a.put (some td) (.func (.func g') #[] capsV.toArray) with defers := [d] }
      have htd' : td < a.tmps.size := by rw [h.e.size]; exact Nat.le_of_ble_eq_true htd
      have hcv2 : capsO.map a.eval = capsV.toArray := by
        rw [← Array.toList_inj, ← hcv, ← hcapo]; simp
      have h0 : a.defers = [] := h.e.nodef
      have hrmk : (execOp a.eval mk).run P w1 = .ok (.value (.func (.func g') #[] capsV.toArray)) w1 := by
        unfold execOp; rw [hmk]; simp [Instr.makeFunc, hcv2]
      have hev : (a.put (some td) (.func (.func g') #[] capsV.toArray)).eval (.tmp td) = .func (.func g') #[] capsV.toArray := put_get_self _ _ _ htd'
      have hrdf : (execOp (a.put (some td) (.func (.func g') #[] capsV.toArray)).eval df).run P w1 = .ok (.defer d) w1 := by
        unfold execOp; rw [hdf]; simp [resolve, hev, Deferred.ofValue, d]
      have step2 : TP P (todo'.map (·.2)) (bodyPostD P fn R) a2 w1 → TP P (.code (.region id #[mk, df] false) :: todo'.map (·.2)) (bodyPostD P fn R) a w1 := fun hh => .code (wp_region_list (by
        show wpList P #[mk, df] _ [mk, df] a w1
        have w1' : Region.wanted mk (yielded #[mk, df] a.tmps) = true := by simp [Region.wanted, hmg]
        have w2' : ∀ a : Act, Region.wanted df (yielded #[mk, df] a.tmps) = true := fun a => by simp [Region.wanted, hdg]
        simp only [wpList]
        rw [if_pos w1']
        left
        unfold Oper.wp
        rw [hrmk, Oper.upon_value, hmd, if_pos (w2' _)]
        left
        show Oper.upon P df _ _ _ ((execOp _ df).run P w1)
        rw [hrdf, Oper.upon_defer, hdd]
        have e3 : Act.put { a.put (some td) (.func (.func g') #[] capsV.toArray) with defers := d :: (a.put (some td) (.func (.func g') #[] capsV.toArray)).defers } none undef = a2 := by
          show ({ a.put (some td) (.func (.func g') #[] capsV.toArray) with defers := d :: (a.put (some td) (.func (.func g') #[] capsV.toArray)).defers } : Act) = a2
          rw [put_defers, h0]
        rw [e3]
        exact hh))
      have hE0 := h.e.put (d := some td) (x := .fn g' caps) (u := .func (.func g') #[] capsV.toArray) htd (.fn hcr.1 hcr.2)
      have hE2 : @Ey ⟨[d]⟩ Y fn.ntmps F1 ρ1 ((td, .fn g' caps) :: s.l) a2 := @Ey.mk ⟨[d]⟩ _ _ _ _ _ _ hE0.size rfl hE0.env
      have h2 : @Cy Y ⟨[d]⟩ hY fn.ntmps w F D (fix2 H s.m ρ1) w1 F1 ρ1 os1 ⟨(td, .fn g' caps) :: s.l, s.m⟩ a2 := @Cy.mk Y ⟨[d]⟩ _ _ _ _ _ _ _ _ _ _ _ _ hE2 h.len h.lon h.mem h.st (fun k b => fix2_get h) (fix2_len h)
      have C2 : @Ctx ⟨[d]⟩ Y _ hY P fn.ntmps w F D (fix2 H s.m ρ1) (bodyPostD P fn R) body (fun y => y = x) []
          (fun s' => bif sameL Y rl s'.l then closA Y P T gfn caps t6 crest (fun m => finD Y P H.length fn.results.toList outs ⟨rl, m⟩) s'.m (.err .nil) else none)
          (fun s' x => bif sameL Y rl s'.l then closA Y P T gfn caps t6 crest (fun m => finD Y P H.length fn.results.toList outs ⟨rl, m⟩) s'.m x else none) := by
        refine @Ctx.mk ⟨[d]⟩ _ _ _ _ _ _ _ _ _ _ _ _ _ _ _ (fun w2 F2 ρ2 os2 s2 a3 y h3 e3 hy => ?_) (fun y hy w2 F2 ρ2 os2 s2 a3 y2 u2 h3 h4 e3 => ?_) (fun r J hm => by cases hm)
        · subst hy
          obtain ⟨hs, e3⟩ := bif_do e3
          show Leaves P fn a3.tmps R a3.defers .returning w2
          have hn : a3.defers = [d] := by obtain ⟨⟨_, hn, _⟩, _⟩ := h3; exact hn
          rw [hn]
          exact door_ok hgf hgc hgb hrc hrd hrg hgr hsz hT hGle hE h hcr hpl hrl hcl ht6 h3 hs (.err (e := .nil) (q := errY)) e3 rfl rfl (by simp)
        · subst hy
          obtain ⟨hs, e3⟩ := bif_do e3
          show Leaves P fn a3.tmps R a3.defers (.panicking [{ v := u2, recovered := false }]) w2
          have hn : a3.defers = [d] := by obtain ⟨⟨_, hn, _⟩, _⟩ := h3; exact hn
          rw [hn]
          exact door_ok hgf hgc hgb hrc hrd hrg hgr hsz hT hGle hE h hcr hpl hrl hcl ht6 h3 hs h4 e3 rfl rfl (by simp)
      exact step2 (@goA_ok ⟨[d]⟩ _ _ _ _ _ _ _ _ _ _ _ _ _ _ _ _ _ hsz hT hGle false (fun hd => by cases hd) C2 _ _ _ _ _ _ _ _ _ _ hat'.tail h2 e5 rfl)
    · cases e
  · cases e
end
end Go.Dn

