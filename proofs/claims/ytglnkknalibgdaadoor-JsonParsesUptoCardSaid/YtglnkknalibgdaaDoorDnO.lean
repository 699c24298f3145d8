/- A function's code, run on what is known. For any program. -/
import Derived.Test.YtglnkknalibgdaaDoorDnN
import Derived.Scope
set_option linter.unusedVariables false
set_option linter.unusedSimpArgs false
set_option linter.unnecessarySimpa false
namespace Go.Dn
open Go.Gw Go.RowKit
set_option linter.unusedSectionVars false
variable [Dfr]
set_option linter.unusedSimpArgs false

/-- where a piece of code stands within another -/
inductive At (body : Code) : Nat → Item → Prop where
  | root : At body 0 (.code body)
  | seq1 {p q : Nat} {x y : Code} (h : At body p (.code (.seq x y))) (e : q = 10 * p + 1) : At body q (.code x)
  | seq2 {p q : Nat} {x y : Code} (h : At body p (.code (.seq x y))) (e : q = 10 * p + 2) : At body q (.code y)
  | cond1 {p q : Nat} {c : Operand} {x y : Code} (h : At body p (.code (.cond c x y))) (e : q = 10 * p + 3) : At body q (.code x)
  | cond2 {p q : Nat} {c : Operand} {x y : Code} (h : At body p (.code (.cond c x y))) (e : q = 10 * p + 4) : At body q (.code y)
  | block {p q id : Nat} {c : Code} (h : At body p (.code (.block id c))) (e : q = 10 * p + 5) : At body q (.code c)
  | inBlock {p q id : Nat} {c : Code} (h : At body p (.code (.block id c))) (e : q = 10 * p + 6) : At body q (.inBlock id)
  | loop {p q : Nat} {c : Code} (h : At body p (.code (.loop c))) (e : q = 10 * p + 7) : At body q (.code c)
  | inLoop {p q : Nat} {c : Code} (h : At body p (.code (.loop c))) (e : q = 10 * p + 8) : At body q (.inLoop c)
  | scope {p q : Nat} {c : Code} (h : At body p (.code (.scope c))) (e : q = 10 * p + 9) : At body q (.code c)
  | inScope {p q : Nat} {c : Code} (h : At body p (.code (.scope c))) (e : q = 10 * p + 10) : At body q (.inScope c)
theorem mul8 {p q d : Nat} (h : 10 * p + d = 10 * q + d) : p = q := by omega
theorem At.uniq {body : Code} {p : Nat} {i : Item} (h : At body p i) : ∀ {j : Item}, At body p j → i = j := by
  induction h with
  | root => intro j h2; cases h2 <;> first | rfl | omega
  | seq1 h e ih | seq2 h e ih | cond1 h e ih | cond2 h e ih | block h e ih | inBlock h e ih | loop h e ih | inLoop h e ih | scope h e ih | inScope h e ih =>
    intro j h2
    cases h2 <;> first
      | omega
      | (rename_i h3 e3; have hp := mul8 (e.symm.trans e3); subst hp; cases ih h3; rfl)

abbrev PI := Nat × Item
/-- the code at a place -/
def itemAt (body : Code) : List Nat → Option PI
  | [] => some (0, .code body)
  | d :: r => match itemAt body r with
    | some (p, .code c) => match c, d with
      | .seq x _, 1 => some (10 * p + 1, .code x)
      | .seq _ y, 2 => some (10 * p + 2, .code y)
      | .cond _ x _, 3 => some (10 * p + 3, .code x)
      | .cond _ _ y, 4 => some (10 * p + 4, .code y)
      | .block _ c, 5 => some (10 * p + 5, .code c)
      | .block id _, 6 => some (10 * p + 6, .inBlock id)
      | .loop c, 7 => some (10 * p + 7, .code c)
      | .loop c, 8 => some (10 * p + 8, .inLoop c)
      | .scope c, 9 => some (10 * p + 9, .code c)
      | .scope c, 10 => some (10 * p + 10, .inScope c)
      | _, _ => none
    | _ => none
theorem itemAt_ok {body : Code} : ∀ {r : List Nat} {x : PI}, itemAt body r = some x → At body x.1 x.2
  | [], x, h => by cases h; exact .root
  | d :: r, x, h => by
    simp only [itemAt] at h
    split at h
    · rename_i p c hp
      have := itemAt_ok hp
      split at h <;> cases h
      · exact .seq1 this rfl
      · exact .seq2 this rfl
      · exact .cond1 this rfl
      · exact .cond2 this rfl
      · exact .block this rfl
      · exact .inBlock this rfl
      · exact .loop this rfl
      · exact .inLoop this rfl
      · exact .scope this rfl
      · exact .inScope this rfl
    · cases h
def itemsAt (body : Code) : List (List Nat) → Option (List PI)
  | [] => some []
  | r :: rs => match itemAt body r, itemsAt body rs with | some x, some xs => some (x :: xs) | _, _ => none
def AllAt (body : Code) (todo : List PI) : Prop := ∀ x ∈ todo, At body x.1 x.2
theorem itemsAt_ok {body : Code} : ∀ {rs : List (List Nat)} {xs : List PI}, itemsAt body rs = some xs → AllAt body xs
  | [], xs, h => by cases h; exact fun x hx => by cases hx
  | r :: rs, xs, h => by
    simp only [itemsAt] at h
    split at h
    · rename_i y ys hy hys
      cases h
      intro x hx
      rcases List.mem_cons.1 hx with e | e
      · subst e; exact itemAt_ok hy
      · exact itemsAt_ok hys x e
    · cases h
theorem AllAt.uniq {body : Code} : ∀ {xs ys : List PI}, AllAt body xs → AllAt body ys → xs.map (·.1) = ys.map (·.1) → xs = ys
  | [], [], _, _, _ => rfl
  | [], _ :: _, _, _, h => by simp at h
  | _ :: _, [], _, _, h => by simp at h
  | (p, i) :: xs, (q, j) :: ys, h1, h2, h => by
    simp only [List.map_cons, List.cons.injEq] at h
    obtain ⟨h3, h4⟩ := h
    have h3 : p = q := h3
    subst h3
    have hi : i = j := (h1 (p, i) List.mem_cons_self).uniq (h2 (p, j) List.mem_cons_self)
    subst hi
    rw [AllAt.uniq (fun x hx => h1 x (List.mem_cons_of_mem _ hx)) (fun x hx => h2 x (List.mem_cons_of_mem _ hx)) h4]

def sameKey : List Nat → List PI → Bool
  | [], [] => true
  | p :: r, (q, _) :: k => Nat.beq p q && sameKey r k
  | _, _ => false
theorem sameKey_ok : ∀ {r : List Nat} {k : List PI}, sameKey r k = true → k.map (·.1) = r
  | [], [], _ => rfl
  | [], _ :: _, h => by cases h
  | _ :: _, [], h => by cases h
  | p :: r, (q, i) :: k, h => by
    simp only [sameKey, Bool.and_eq_true] at h
    simp only [List.map_cons, sameKey_ok h.2, Nat.eq_of_beq_eq_true h.1]
abbrev Env2 (Y : Tys) (A : Type) := List (List Nat × (Sy Y.T → Option A))
def findCut {Y : Tys} {A : Type} (todo : List PI) : Env2 Y A → Option (Sy Y.T → Option A)
  | [] => none
  | (r, J) :: l => bif sameKey r todo then some J else findCut todo l
def exitP (id : Nat) : List PI → Option (List PI)
  | [] => none
  | (_, .inBlock id') :: k => bif Nat.beq id' id then some k else exitP id k
  | _ :: k => exitP id k
theorem exitP_ok {id : Nat} : ∀ {k k' : List PI}, exitP id k = some k' → exitTo id (k.map (·.2)) = some (k'.map (·.2)) ∧ ∀ x ∈ k', x ∈ k
  | [], k', h => by cases h
  | (p, i) :: k, k', h => by
    have go : exitP id k = some k' → (∀ id', i ≠ .inBlock id') → exitTo id (((p, i) :: k).map (·.2)) = some (k'.map (·.2)) ∧ ∀ x ∈ k', x ∈ (p, i) :: k := fun h hi => by
      obtain ⟨h1, h2⟩ := exitP_ok h
      refine ⟨?_, fun x hx => List.mem_cons_of_mem _ (h2 x hx)⟩
      rw [← h1]
      cases i <;> first | rfl | exact absurd rfl (hi _)
    cases i <;> first
      | exact go h (fun id' e => by cases e)
      | (rename_i id'
         simp only [exitP] at h
         cases hb : Nat.beq id' id with
         | true =>
           rw [hb] at h
           cases h
           have := Nat.eq_of_beq_eq_true hb
           subst this
           exact ⟨by simp [exitTo], fun x hx => List.mem_cons_of_mem _ hx⟩
         | false =>
           rw [hb] at h
           have hne : ¬ id' = id := fun e => by subst e; rw [Nat.beq_refl] at hb; cases hb
           obtain ⟨h1, h2⟩ := exitP_ok h
           refine ⟨?_, fun x hx => List.mem_cons_of_mem _ (h2 x hx)⟩
           simp only [List.map_cons, exitTo]
           simp [hne, h1])

def setO {T : Nat → Type} (s : Sy T) (c : Operand) (b : Bool) : Sy T := match c with
  | .tmp t => setB s t b
  | _ => s
/-- the code, run on what is known -/
noncomputable def goA (Y : Tys) (P : Program) (T : Tab Y) (N : Nat) (dr : Bool) {A : Type} (env : Env2 Y A) (fn : Sy Y.T → Option A) (kp : Sy Y.T → AV Y.T → Option A) : Nat → Bool → List PI → Sy Y.T → Option A
  | 0, _, _, _ => none
  | n + 1, chk, todo, s => match (bif chk then findCut todo env else none) with
    | some J => J s
    | none => match todo with
      | [] => fn s
      | (p, .code c) :: k => (match c with
        | .skip => goA Y P T N dr env fn kp n true k s
        | .label _ => goA Y P T N dr env fn kp n true k s
        | .seq x y => goA Y P T N dr env fn kp n true ((10 * p + 1, .code x) :: (10 * p + 2, .code y) :: k) s
        | .cond c x y => (match evA s.l c with
          | some (.v (.bool b)) => if b = true then goA Y P T N dr env fn kp n true ((10 * p + 3, .code x) :: k) (setO s c true) else goA Y P T N dr env fn kp n true ((10 * p + 4, .code y) :: k) (setO s c false)
          | _ => none)
        | .block id c => goA Y P T N dr env fn kp n true ((10 * p + 5, .code c) :: (10 * p + 6, .inBlock id) :: k) s
        | .loop c => goA Y P T N dr env fn kp n true ((10 * p + 7, .code c) :: (10 * p + 8, .inLoop c) :: k) s
        | .scope c => goA Y P T N dr env fn kp n true ((10 * p + 9, .code c) :: (10 * p + 10, .inScope c) :: k) s
        | .exit id => (match exitP id k with | some k' => goA Y P T N dr env fn kp n true k' s | none => none)
        | .ret => fn s
        | .region _ ops draw => bif (draw && !dr) then none else regionA Y P T N ops draw kp (fun s' => goA Y P T N dr env fn kp n true k s') s
        | _ => none)
      | (_, .inBlock _) :: k => goA Y P T N dr env fn kp n true k s
      | (_, .inScope _) :: k => goA Y P T N dr env fn kp n true k s
      | (p, .inLoop c) :: k => goA Y P T N dr env fn kp n true ((p - 1, .code c) :: (p, .inLoop c) :: k) s
      | _ => none

/-- how a function's run ends -/
def ArrT (P : Program) (m : Machine) (b : Frame) (cs : List Frame) : Exit → Act → World → Prop
  | .ret, a, w => ∃ todo, Steps P m (lone { b.at a todo with mode := .returning } cs w)
  | .panic chain, a, w => ∃ todo, Steps P m (lone { b.at a todo with mode := .panicking chain } cs w)
  | .outgrown, _, _ => b.kind = .early ∨ Outgrown P m
  | _, _, _ => False
theorem ArrT.of_steps {P : Program} {m m₁ : Machine} {b : Frame} {cs : List Frame} {e : Exit} {a : Act} {w : World} (h : Steps P m m₁) (h' : ArrT P m₁ b cs e a w) : ArrT P m b cs e a w := by
  cases e with
  | ret => obtain ⟨todo, hs⟩ := h'; exact ⟨todo, h.trans hs⟩
  | panic chain => obtain ⟨todo, hs⟩ := h'; exact ⟨todo, h.trans hs⟩
  | outgrown => exact h'.imp id (Outgrown.of_steps h)
  | normal => exact h'.elim
  | exit id => exact h'.elim
  | goto l => exact h'.elim
def TP (P : Program) (todo : List Item) (Q : Exit → Act → World → Prop) (a : Act) (w : World) : Prop :=
  ∀ (b : Frame) (cs : List Frame), ∃ e a' w', Q e a' w' ∧ ArrT P (lone (b.at a todo) cs w) b cs e a' w'
section
variable {P : Program} {Q : Exit → Act → World → Prop} {a a' : Act} {w w' : World} {todo todo' k : List Item}
theorem TP.step (hs : ∀ (b : Frame) (cs : List Frame), step P (lone (b.at a todo) cs w) = .next (lone (b.at a' todo') cs w')) (h : TP P todo' Q a' w') : TP P todo Q a w :=
  fun b cs => let ⟨e, a2, w2, q, r⟩ := h b cs; ⟨e, a2, w2, q, .of_steps (.one (hs b cs)) r⟩
def codeQ (P : Program) (k : List Item) (Q : Exit → Act → World → Prop) : Exit → Act → World → Prop
  | .normal, a, w => TP P k Q a w
  | .panic ch, a, w => Q (.panic ch) a w
  | .ret, a, w => Q .ret a w
  | .outgrown, a, w => Q .outgrown a w
  | _, _, _ => False
def noPan (Q : Exit → Act → World → Prop) : Exit → Act → World → Prop
  | .panic _, _, _ => False
  | e, a, w => Q e a w
theorem TP.mono {Q' : Exit → Act → World → Prop} (h : TP P todo Q a w) (hq : ∀ e a w, Q e a w → Q' e a w) : TP P todo Q' a w :=
  fun b cs => let ⟨e, a', w', q, r⟩ := h b cs; ⟨e, a', w', hq _ _ _ q, r⟩
theorem TP.code {c : Code} (h : c.wp P (codeQ P k Q) a w) : TP P (.code c :: k) Q a w := by
  intro b cs
  obtain ⟨e, a1, w1, hq, harr⟩ := h b k cs
  cases e with
  | normal =>
    obtain ⟨e2, a2, w2, q, r⟩ := hq b cs
    exact ⟨e2, a2, w2, q, .of_steps harr r⟩
  | exit id => exact hq.elim
  | goto l => exact hq.elim
  | ret => exact ⟨_, a1, w1, hq, harr⟩
  | panic ch => exact ⟨_, a1, w1, hq, harr⟩
  | outgrown => exact ⟨_, a1, w1, hq, harr⟩
theorem TP.ret (h : Q .ret a w) : TP P (.code .ret :: k) Q a w := fun _ _ => ⟨.ret, a, w, h, _, .one step_ret⟩
theorem TP.done (h : Q .ret a w) : TP P [] Q a w := fun _ _ => ⟨.ret, a, w, h, _, .one step_end⟩
theorem calls_of_TP {f : FuncId} {fn : Func} {c : Code} {args : Array Value} {R : Ending → World → Prop}
    (hf : P.funcs[f]? = some fn) (hb : fn.body = some c)
    (h : TP P [.code c] (bodyPost P fn R) { tmps := args ++ Array.replicate (fn.ntmps - args.size) undef, defers := [] } w) : Calls P f args w R := by
  intro cs
  let b : Frame := { (default : Frame) with fn := f, kind := .normal }
  have henter : Frame.enter P f args .normal = b.at { tmps := args ++ Array.replicate (fn.ntmps - args.size) undef, defers := [] } [.code c] := by
    simp [Frame.enter, Frame.at, hf, hb, b]
  obtain ⟨e, a', w', hq, harr⟩ := h b cs
  rw [← henter] at harr
  cases e with
  | normal => exact harr.elim
  | ret =>
    obtain ⟨hd, v, hr, hR⟩ := hq
    obtain ⟨todo, hs⟩ := harr
    exact ⟨.returned v, w', _, hR, hs, rfl, rfl, hd, rfl, fn, hf, hr⟩
  | panic chain =>
    obtain ⟨hd, hR⟩ := hq
    obtain ⟨todo, hs⟩ := harr
    exact ⟨.panicked chain, w', _, hR, hs, rfl, rfl, hd, fn, hf⟩
  | exit id => exact hq.elim
  | goto l => exact hq.elim
  | outgrown => exact ⟨.outgrown, w', b, hq, harr.resolve_left (by simp [b]), rfl, trivial⟩
end

section
variable {Y : Tys} {hY : TysOk Y} {P : Program} {N : Nat} {w0 : World} {F0 : Heap} {D : Own} {H : List (Option Nat)} {w w' : World} {F F' : Heap} {ρ ρ' : List Pl} {os os' : List (Option Obj)} {s s' : Sy Y.T} {a a' : Act} {T : Tab Y} {G : Heap → Prop} {Q : Exit → Act → World → Prop} {A : Type} {body : Code}

/-- where it goes on well if it yields what is meant -/
def Ends (hY : TysOk Y) (P : Program) (N : Nat) (w0 : World) (F0 : Heap) (D : Own) (H : List (Option Nat)) (Q : Exit → Act → World → Prop) (M : A → Prop) (todo : List Item) (J : Sy Y.T → Option A) : Prop :=
  ∀ w F ρ os s a x, Cy hY N w0 F0 D H w F ρ os s a → J s = some x → M x → TP P todo Q a w
/-- the ends of a run, and the places at which others go on -/
structure Ctx (hY : TysOk Y) (P : Program) (N : Nat) (w0 : World) (F0 : Heap) (D : Own) (H : List (Option Nat)) (Q : Exit → Act → World → Prop) (body : Code) (M : A → Prop) (env : Env2 Y A) (fn : Sy Y.T → Option A) (kp : Sy Y.T → AV Y.T → Option A) : Prop where
  fn : ∀ w F ρ os s a x, Cy hY N w0 F0 D H w F ρ os s a → fn s = some x → M x → Q .ret a w
  kp : ∀ x, M x → Pans hY N w0 F0 D H kp x Q
  env : ∀ r J, (r, J) ∈ env → ∀ todo, AllAt body todo → todo.map (·.1) = r → Ends hY P N w0 F0 D H Q M (todo.map (·.2)) J
theorem findCut_ok {todo : List PI} : ∀ {env : Env2 Y A} {J : Sy Y.T → Option A}, findCut todo env = some J → ∃ r, (r, J) ∈ env ∧ todo.map (·.1) = r
  | [], J, h => by cases h
  | (r, J') :: l, J, h => by
    simp only [findCut] at h
    cases hb : sameKey r todo with
    | true => rw [hb] at h; cases h; exact ⟨r, List.mem_cons_self, sameKey_ok hb⟩
    | false =>
      rw [hb] at h
      obtain ⟨r', h1, h2⟩ := findCut_ok h
      exact ⟨r', List.mem_cons_of_mem _ h1, h2⟩
theorem Cy.setO (h : Cy hY N w0 F0 D H w F ρ os s a) {c : Operand} {b : Bool} (hc : evA s.l c = some (.v (.bool b))) : Cy hY N w0 F0 D H w F ρ os (setO s c b) a := by
  cases c with
  | tmp t => exact h.setB hc
  | _ => exact h
theorem AllAt.tail {x : PI} {k : List PI} (h : AllAt body (x :: k)) : AllAt body k := fun y hy => h y (List.mem_cons_of_mem _ hy)
theorem AllAt.cons {x : PI} {k : List PI} (h1 : At body x.1 x.2) (h : AllAt body k) : AllAt body (x :: k) := fun y hy => by
  rcases List.mem_cons.1 hy with e | e
  · subst e; exact h1
  · exact h y e

theorem goA_ok {M : A → Prop} {env : Env2 Y A} {fn : Sy Y.T → Option A} {kp : Sy Y.T → AV Y.T → Option A} (hsz : Y.sz Y.byt = 1) (hT : TabOk hY P G T) (hG : ∀ F, F0.Le F → G F) {dr : Bool} (hQ : dr = true → (∀ c d v a w, Q (.panic c) (Act.put a d v) w → Q (.panic c) a w) ∨ (∀ s x, kp s x = none))
    (C : Ctx hY P N w0 F0 D H Q body M env fn kp) : ∀ {n : Nat} {chk : Bool} {todo : List PI} {s : Sy Y.T} {w : World} {F : Heap} {ρ : List Pl} {os : List (Option Obj)} {a : Act} {x : A}, AllAt body todo →
    Cy hY N w0 F0 D H w F ρ os s a → goA Y P T N dr env fn kp n chk todo s = some x → M x → TP P (todo.map (·.2)) Q a w := by
  intro n
  induction n with
  | zero => intro chk todo s w F ρ os a x _ _ e; cases e
  | succ n ih =>
    intro chk todo s w F ρ os a x hat h e hM
    unfold goA at e
    split at e
    · rename_i J hJ
      obtain ⟨_, hJ⟩ := bif_do hJ
      obtain ⟨r, h1, h2⟩ := findCut_ok hJ
      exact C.env r J h1 todo hat h2 w F ρ os s a x h e hM
    · cases todo with
      | nil => exact .done (C.fn _ _ _ _ _ _ _ h e hM)
      | cons it k =>
        obtain ⟨p, i⟩ := it
        have hk := hat.tail
        cases i with
        | code c =>
          have hc : At body p (.code c) := hat _ List.mem_cons_self
          cases c with
          | skip => exact .step (fun b cs => step_skip) (ih hk h e hM)
          | label l => exact .step (fun b cs => step_label) (ih hk h e hM)
          | seq x y => exact .step (fun b cs => step_seq) (ih (todo := (10 * p + 1, .code x) :: (10 * p + 2, .code y) :: k) (.cons (.seq1 hc rfl) (.cons (.seq2 hc rfl) hk)) h e hM)
          | cond c x y =>
            dsimp only at e
            split at e
            · rename_i b hb
              have hev : a.eval c = .bool b := (h.e.eval hb).v_inv
              have h' := h.setO hb
              cases b with
              | true =>
                simp only [if_true] at e
                exact .step (fun b cs => step_cond hev) (ih (todo := (10 * p + 3, .code x) :: k) (.cons (.cond1 hc rfl) hk) h' e hM)
              | false =>
                simp only [Bool.false_eq_true, if_false] at e
                exact .step (fun b cs => step_cond hev) (ih (todo := (10 * p + 4, .code y) :: k) (.cons (.cond2 hc rfl) hk) h' e hM)
            · cases e
          | block id c => exact .step (fun b cs => step_block) (ih (todo := (10 * p + 5, .code c) :: (10 * p + 6, .inBlock id) :: k) (.cons (.block hc rfl) (.cons (.inBlock hc rfl) hk)) h e hM)
          | loop c => exact .step (fun b cs => step_loop) (ih (todo := (10 * p + 7, .code c) :: (10 * p + 8, .inLoop c) :: k) (.cons (.loop hc rfl) (.cons (.inLoop hc rfl) hk)) h e hM)
          | scope c => exact .step (fun b cs => step_scope) (ih (todo := (10 * p + 9, .code c) :: (10 * p + 10, .inScope c) :: k) (.cons (.scope hc rfl) (.cons (.inScope hc rfl) hk)) h e hM)
          | exit id =>
            dsimp only at e
            split at e
            · rename_i k' hk'
              obtain ⟨h1, h2⟩ := exitP_ok hk'
              exact .step (fun b cs => step_exit h1) (ih (fun y hy => hk y (h2 y hy)) h e hM)
            · cases e
          | ret => exact .ret (C.fn _ _ _ _ _ _ _ h e hM)
          | region id ops draw =>
            dsimp only at e
            have hd : (draw && !dr) = false := by cases hb : (draw && !dr) with | true => rw [hb] at e; cases e | false => rfl
            rw [hd] at e
            cases draw with
            | false =>
              refine .code (regionA_ok hsz hT hG h e (fun hdr => by cases hdr) (fun w' F' ρ' os' s' a' y u h1 h2 h3 => C.kp x hM w' F' ρ' os' s' a' y u h1 h2 h3) fun w' F' ρ' os' s' a' h' e' => ?_)
              exact ih hk h' e' hM
            | true =>
              have hdr : dr = true := by cases dr with | true => rfl | false => cases hd
              rcases hQ hdr with hQ1 | h0
              · refine .code (regionA_ok hsz hT hG h e (fun _ c d v a w hh => hQ1 c d v a w hh) (fun w' F' ρ' os' s' a' y u h1 h2 h3 => C.kp x hM w' F' ρ' os' s' a' y u h1 h2 h3) fun w' F' ρ' os' s' a' h' e' => ?_)
                exact ih hk h' e' hM
              · refine .code (wp_mono (Q := noPan (codeQ P (k.map (·.2)) Q)) (regionA_ok hsz hT hG h e (fun _ c d v a w hh => hh) (fun w' F' ρ' os' s' a' y u h1 h2 h3 => by rw [h0] at h3; cases h3) fun w' F' ρ' os' s' a' h' e' => ?_) fun e a w hh => ?_)
                · exact ih hk h' e' hM
                · cases e <;> first | exact hh | exact hh.elim
          | _ => cases e
        | inBlock id => exact .step (fun b cs => step_inBlock) (ih hk h e hM)
        | inScope c => exact .step (fun b cs => step_inScope) (ih hk h e hM)
        | inLoop c =>
          have hc : At body p (.inLoop c) := hat _ List.mem_cons_self
          refine .step (fun b cs => step_inLoop) (ih (todo := (p - 1, .code c) :: (p, .inLoop c) :: k) (.cons ?_ hat) h e hM)
          cases hc with
          | inLoop h e => exact .loop h (by omega)
        | _ => cases e
end
end Go.Dn

