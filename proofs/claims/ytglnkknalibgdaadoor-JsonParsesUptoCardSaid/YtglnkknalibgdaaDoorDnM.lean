/- Regions that draw their order. For any program. -/
import Derived.Test.YtglnkknalibgdaaDoorDnK
import Derived.OrdersHeld
set_option linter.unusedVariables false
set_option linter.unusedSimpArgs false
set_option linter.unnecessarySimpa false
namespace Go.Dn
open Go.Gw Go.RowKit
set_option linter.unusedSectionVars false
variable [Dfr]
set_option linter.unusedSimpArgs false

section
variable {T : Nat → Type}
def stay (ok : Nat → Bool) : Nat → List (Mem T) → List (Mem T)
  | _, [] => []
  | k, x :: m => (bif ok k then .gone else x) :: stay ok (k + 1) m
theorem stay_get {ok : Nat → Bool} : ∀ {m : List (Mem T)} {k i : Nat} {x : Mem T}, (stay ok k m)[i]? = some x → (x = .gone) ∨ (ok (k + i) = false ∧ m[i]? = some x)
  | [], k, i, x, h => by simp [stay] at h
  | y :: m, k, 0, x, h => by
    simp only [stay, List.getElem?_cons_zero, Option.some.injEq] at h
    cases hk : ok k with
    | true => rw [hk] at h; exact .inl h.symm
    | false => rw [hk] at h; exact .inr ⟨rfl, by simpa using h⟩
  | y :: m, k, i + 1, x, h => by
    simp only [stay, List.getElem?_cons_succ] at h
    rcases stay_get h with h | ⟨h1, h2⟩
    · exact .inl h
    · exact .inr ⟨by rw [← h1]; congr 1; omega, by simpa using h2⟩

/-- worlds in which what may not be changed stands -/
def Keeps (ok : Nat → Bool) (F : Heap) (ρ : List Pl) (os : List (Option Obj)) (w : World) : Prop :=
  F.Sub w ∧ ∀ (k : Nat) (p : Pl) (ob : Obj), ok k = false → ρ[k]? = some p → os[k]? = some (some ob) → w.heap[p.blk]? = some ob
theorem Tr.keeps {ok : Nat → Bool} {F F' : Heap} {ρ ρ' : List Pl} {os os' : List (Option Obj)} {m m' : List (Mem T)} {w : World} (t : Tr ok F ρ os m F' ρ' os' m') (h : Keeps ok F' ρ' os' w) : Keeps ok F ρ os w := by
  refine ⟨⟨fun b o e => h.1.out b o (t.le.out b o e)⟩, fun k p ob hk hp ho => ?_⟩
  obtain ⟨h1, h2⟩ := t.stands k p _ hk hp ho
  rcases h2 with h2 | h2
  · exact h.2 k p ob hk h1 h2
  · exact h.1.out _ _ (h2 ob rfl)
end

section
variable {Y : Tys} {hY : TysOk Y} {P : Program} {N : Nat} {w0 : World} {F0 : Heap} {D : Own} {H : List (Option Nat)} {w w' : World} {F F' : Heap} {ρ ρ' : List Pl} {os os' : List (Option Obj)} {s s' : Sy Y.T} {a a' : Act} {o : Oper} {R : Type} {ok : Nat → Bool} {r : R} {K : Act → World → Prop} {Q : Exit → Act → World → Prop} {k : Sy Y.T → Option R} {kp : Sy Y.T → AV Y.T → Option R} {T : Tab Y} {G : Heap → Prop}

theorem Cy.keeps (h : Cy hY N w0 F0 D H w F ρ os s a) (ok : Nat → Bool) : Keeps ok F ρ os w := ⟨h.st.view, fun k p ob _ hp ho => h.blk hp ho⟩
theorem Cy.myStay (h : Cy hY N w0 F0 D H w F ρ os s a) {ok : Nat → Bool} (hk : Keeps ok F ρ os w') : My hY F ρ os (stay ok 0 s.m) w' := by
  intro i x hx
  rcases stay_get hx with rfl | ⟨h1, h2⟩
  · trivial
  · rw [Nat.zero_add] at h1
    obtain ⟨p, o, hp, ho, hm⟩ := h.at h2
    cases x with
    | gone => trivial
    | cells ty l => exact ⟨p, o, hp, ho, hm, fun ob e => by subst e; exact hk.2 i p ob h1 hp ho⟩
    | arr e xs => exact ⟨p, o, hp, ho, hm, fun ob e => by subst e; exact hk.2 i p ob h1 hp ho⟩
    | mp kk e xs => exact ⟨p, o, hp, ho, hm, fun ob e => by subst e; exact hk.2 i p ob h1 hp ho⟩
    | it z pos => exact ⟨p, o, hp, ho, hm, fun ob e => by subst e; exact hk.2 i p ob h1 hp ho⟩

theorem wpAnyH_mono {md : Region.Mode} {ops : Array Oper} {S S' : World → Prop} (hS : ∀ w, S' w → S w) : ∀ (n : Nat) (listed : Array Bool) (a : Act) (w : World), wpAnyH P md ops Q S' n listed a w → wpAnyH P md ops Q S n listed a w
  | 0, _, _, _, h => h
  | n + 1, _, _, _, h => ⟨h.1, fun i hi => wpOp_mono (fun a' w' h' => ⟨hS _ h'.1, wpAnyH_mono hS n _ a' w' h'.2⟩) (h.2 i hi)⟩
theorem dseqs {ops : Array Oper} {n : Nat} {listed : Array Bool} {S : World → Prop} {rs : List Nat} (hr : Region.ready .any ops listed = rs) (hne : rs ≠ [])
    (h : ∀ i ∈ rs, ∃ o, ops[i]? = some o ∧ wpList P ops (Exit.then (fun a' w' => S w' ∧ wpAnyH P .any ops Q S n (listed.setIfInBounds i true) a' w') Q) [o] a w) : wpAnyH P .any ops Q S (n + 1) listed a w := by
  refine wpAnyH_all hr hne fun i hj => ?_
  obtain ⟨o, ho, h⟩ := h i hj
  unfold wpOp
  rw [ho]
  have h' : if Region.wanted o (yielded ops a.tmps) = true then o.wp P a w (fun a' w' => S w' ∧ wpAnyH P .any ops Q S n (listed.setIfInBounds i true) a' w') (Exit.then (fun a' w' => S w' ∧ wpAnyH P .any ops Q S n (listed.setIfInBounds i true) a' w') Q) ∨
        (o.asks P a w ∧ LetsOut (Exit.then (fun a' w' => S w' ∧ wpAnyH P .any ops Q S n (listed.setIfInBounds i true) a' w') Q))
      else S w ∧ wpAnyH P .any ops Q S n (listed.setIfInBounds i true) (a.put o.dst undef) w := h
  simp only
  split
  · rename_i hw
    rw [if_pos hw] at h'
    refine h'.imp (fun h' => ?_) id
    unfold Oper.wp at h' ⊢
    generalize (execOp a.eval o).run P w = r at h' ⊢
    cases r with
    | ok nx w' =>
      cases nx <;> simp only [Oper.upon] at h' ⊢ <;>
        first
          | exact h'
          | exact Calls.mono h' (fun e w'' he => by cases e <;> exact he)
          | exact Rows.mono h' (fun e w'' he => he)
    | halt x w' => cases x <;> simp only [Oper.upon] at h' ⊢ <;> exact h'
  · rename_i hw
    rw [if_neg hw] at h'
    exact h'

def isYd (Y : Tys) (P : Program) (l : AEnv Y.T) (m : List (Mem Y.T)) (o : Oper) : Bool := match ydA Y P l m o (fun _ => some ()) with | some _ => true | none => false
/-- an operation that yields the same whenever it comes -/
def takeA (Y : Tys) (P : Program) (N : Nat) (ok : Nat → Bool) (ops : Array Oper) (o : Oper) (s : Sy Y.T) (k : Sy Y.T → Option R) : Option (Option R) :=
  match o.guard with
  | none => ydA Y P s.l (stay ok 0 s.m) o fun x => fin N o s x k
  | some (j, want) => match slotOf ops j with
    | some d => match lookA s.l d with
      | some (.v (.bool b)) => bif isYd Y P s.l (stay ok 0 s.m) o then some (if b = true then
          (bif want then unw (ydA Y P (setB s d true).l (stay ok 0 s.m) o fun x => fin N o (setB s d true) x k) else fin N o (setB s d true) (.v undef) k)
        else (bif want then fin N o (setB s d false) (.v undef) k else unw (ydA Y P (setB s d false).l (stay ok 0 s.m) o fun x => fin N o (setB s d false) x k))) else none
      | some (.v (.tuple _)) => some (fin N o s (.v undef) k)
      | _ => none
    | none => none
theorem takeA_ok {ops : Array Oper} (hsz : Y.sz Y.byt = 1) (h : Cy hY N w0 F0 D H w F ρ os s a) (e : takeA Y P N ok ops o s k = some (some r)) :
    ∃ (s' : Sy Y.T) (u : Value), YieldsIf P ops (Keeps ok F ρ os) o u a ∧ Cy hY N w0 F0 D H w F ρ os s' (a.put o.dst u) ∧ k s' = some r := by
  have yd : ∀ {s1 : Sy Y.T}, Cy hY N w0 F0 D H w F ρ os s1 a → s1.m = s.m → Region.wanted o (yielded ops a.tmps) = true → ydA Y P s1.l (stay ok 0 s.m) o (fun x => fin N o s1 x k) = some (some r) →
      ∃ (s' : Sy Y.T) (u : Value), YieldsIf P ops (Keeps ok F ρ os) o u a ∧ Cy hY N w0 F0 D H w F ρ os s' (a.put o.dst u) ∧ k s' = some r := by
    intro s1 h1 hm hw e
    obtain ⟨x, ⟨u, hr, hrun⟩, hk⟩ := ydA_ok hsz h1.e (h.myStay (h.keeps ok)) e
    unfold fin at hk
    obtain ⟨hd, hk⟩ := bif_do hk
    exact ⟨_, u, .inl ⟨hw, fun w' hS => hrun w' hS.1 (h.myStay hS)⟩, h1.put hd hr, hk⟩
  have skip : ∀ {s1 : Sy Y.T}, Cy hY N w0 F0 D H w F ρ os s1 a → Region.wanted o (yielded ops a.tmps) = false → fin N o s1 (.v undef) k = some r →
      ∃ (s' : Sy Y.T) (u : Value), YieldsIf P ops (Keeps ok F ρ os) o u a ∧ Cy hY N w0 F0 D H w F ρ os s' (a.put o.dst u) ∧ k s' = some r := by
    intro s1 h1 hw e
    unfold fin at e
    obtain ⟨hd, hk⟩ := bif_do e
    exact ⟨_, undef, .inr ⟨hw, rfl⟩, h1.put hd .v, hk⟩
  have unw_some : ∀ {x : Option (Option R)}, unw x = some r → x = some (some r) := fun {x} hx => by
    cases x with
    | none => cases hx
    | some y => exact congrArg some hx
  unfold takeA at e
  split at e
  · rename_i hgd
    exact yd h rfl (by unfold Region.wanted; rw [hgd]) e
  · rename_i j want hgd
    split at e
    · rename_i d hd
      split at e
      · rename_i b hb
        obtain ⟨_, e⟩ := bif_do e
        have e := Option.some.inj e
        have hw := wanted_of h.e hgd hd hb
        have hB := h.setB hb
        cases b with
        | true =>
          simp only [if_true] at e
          cases want with
          | true => exact yd hB rfl hw (unw_some e)
          | false => exact skip hB hw e
        | false =>
          simp only [Bool.false_eq_true, if_false] at e
          cases want with
          | true => exact skip hB hw e
          | false => exact yd hB rfl hw (unw_some e)
      · rename_i vs hb
        exact skip h (unwanted_of h.e hgd hd hb) (Option.some.inj e)
      · cases e
    · cases e

def takeFirst (Y : Tys) (P : Program) (N : Nat) (ok : Nat → Bool) (ops : Array Oper) (listed : Array Bool) (s : Sy Y.T) (k : Array Bool → Sy Y.T → Option R) : List Nat → Option (Option R)
  | [] => none
  | i :: rs => match ops[i]? with
    | none => none
    | some o => match (bif Region.free .any ops listed i then takeA Y P N ok ops o s (k (listed.setIfInBounds i true)) else none) with
      | some x => some x
      | none => takeFirst Y P N ok ops listed s k rs
open Classical in
/-- two orders: they must come to the same -/
noncomputable def fk {R : Type} (x y : Option R) : Option R := if x = y then x else none
theorem fk_self {R : Type} (x : Option R) : fk x x = x := if_pos rfl
theorem fk_some {R : Type} {x y : Option R} {r : R} (e : fk x y = some r) : x = some r ∧ y = some r := by
  unfold fk at e
  split at e
  · rename_i h; exact ⟨e, h ▸ e⟩
  · cases e
noncomputable def forks {R : Type} (f : Nat → Option R) : Nat → List Nat → Option R
  | i, [] => f i
  | i, j :: r => fk (f i) (forks f j r)
theorem forks_some {R : Type} {f : Nat → Option R} {r : R} : ∀ {i : Nat} {l : List Nat}, forks f i l = some r → ∀ j ∈ i :: l, f j = some r
  | i, [], e, j, hj => by
    rw [List.mem_singleton.1 hj]; exact e
  | i, k :: l, e, j, hj => by
    obtain ⟨h1, h2⟩ := fk_some e
    rcases List.mem_cons.1 hj with rfl | hj
    · exact h1
    · exact forks_some h2 j hj
/-- whatever order is drawn -/
noncomputable def drawA (Y : Tys) (P : Program) (T : Tab Y) (N : Nat) (ok : Nat → Bool) (ops : Array Oper) (kp : Sy Y.T → AV Y.T → Option R) (k : Sy Y.T → Option R) : Nat → Array Bool → Sy Y.T → Option R
  | n, listed, s => match Region.ready .any ops listed with
    | [] => k s
    | i :: rs => match n with
      | 0 => none
      | n + 1 => match takeFirst Y P N ok ops listed s (fun l s' => drawA Y P T N ok ops kp k n l s') (i :: rs) with
        | some x => x
        | none => forks (fun i => match ops[i]? with
            | some o => stepA Y P T N ok ops o s kp fun s' => drawA Y P T N ok ops kp k n (listed.setIfInBounds i true) s'
            | none => none) i rs

theorem takeFirst_ok {ops : Array Oper} {listed : Array Bool} {k : Array Bool → Sy Y.T → Option R} : ∀ {rs : List Nat} {x : Option R}, takeFirst Y P N ok ops listed s k rs = some x →
    ∃ i o, i ∈ rs ∧ ops[i]? = some o ∧ Region.free .any ops listed i = true ∧ takeA Y P N ok ops o s (k (listed.setIfInBounds i true)) = some x
  | [], x, e => by cases e
  | i :: rs, x, e => by
    simp only [takeFirst] at e
    split at e
    · cases e
    · rename_i o ho
      cases hf : Region.free .any ops listed i with
      | false =>
        rw [hf] at e
        obtain ⟨j, o', h1, h2⟩ := takeFirst_ok e
        exact ⟨j, o', List.mem_cons_of_mem _ h1, h2⟩
      | true =>
        rw [hf] at e
        simp only [cond_true] at e
        split at e
        · rename_i y hy
          cases e
          exact ⟨i, o, List.mem_cons_self, ho, hf, hy⟩
        · obtain ⟨j, o', h1, h2⟩ := takeFirst_ok e
          exact ⟨j, o', List.mem_cons_of_mem _ h1, h2⟩

theorem drawA_ok {ops : Array Oper} (hsz : Y.sz Y.byt = 1) (hT : TabOk hY P G T) (hG : ∀ F, F0.Le F → G F) (hsel : Region.noSelect ops = true) (hQ : ∀ c d v a w, Q (.panic c) (Act.put a d v) w → Q (.panic c) a w) (hp : Pans hY N w0 F0 D H kp r Q)
    (hK : ∀ w' F' ρ' os' s' a', Cy hY N w0 F0 D H w' F' ρ' os' s' a' → k s' = some r → Q .normal a' w') : ∀ {n : Nat} {listed : Array Bool} {w : World} {F : Heap} {ρ : List Pl} {os : List (Option Obj)} {s : Sy Y.T} {a : Act}, Cy hY N w0 F0 D H w F ρ os s a →
    drawA Y P T N ok ops kp k n listed s = some r → wpAnyH P .any ops Q (Keeps ok F ρ os) n listed a w := by
  intro n
  induction n with
  | zero =>
    intro listed w F ρ os s a h e
    unfold drawA at e
    split at e
    · rename_i hr; exact ⟨hr, hK _ _ _ _ _ _ h e⟩
    · cases e
  | succ n ih =>
    intro listed w F ρ os s a h e
    unfold drawA at e
    split at e
    · rename_i hr; exact wpAnyH_done hr (hK _ _ _ _ _ _ h e) _
    · rename_i i rs hr
      dsimp only at e
      split at e
      · rename_i x hx
        subst e
        obtain ⟨j, o, hj, ho, hf, ht⟩ := takeFirst_ok hx
        obtain ⟨s', u, hy, h', hk⟩ := takeA_ok hsz h ht
        refine wpAnyH_take (S := Keeps ok F ρ os) ho hsel hf (by rw [hr]; simpa using hj) (fun c a w hh => hQ c _ _ a w hh) hy (h.keeps ok) (ih h' hk)
      · refine dseqs hr (by simp) fun j hj => ?_
        have e := forks_some e j hj
        split at e
        · rename_i o ho
          refine ⟨o, ho, stepA_ok hsz hT hG h e (fun w' F' ρ' os' s' a' x u h1 h2 h3 => hp w' F' ρ' os' s' a' x u h1 h2 h3) fun w' F' ρ' os' s' a' h' ht hk => ?_⟩
          show Keeps ok F ρ os w' ∧ _
          exact ⟨ht.keeps (h'.keeps ok), wpAnyH_mono (fun w'' hS => ht.keeps hS) _ _ _ _ (ih h' hk)⟩
        · cases e

def tmpsOf : List Operand → List Nat
  | [] => []
  | .tmp t :: r => t :: tmpsOf r
  | _ :: r => tmpsOf r
def flatT (P : Program) (t : TypeId) : Bool := match P.underlying t with
  | some (.int _) => true
  | some .string => true
  | some .bool => true
  | some (.slice _) => true
  | some (.struct _) => true
  | _ => false
/-- slots that lead to what may be changed; slots of which what lies there leads to it -/
def feeds (A : List Nat × List Nat) (deep : Bool) (d : Option Tmp) (t : Nat) : List Nat × List Nat := match d with
  | some d => bif freshB A.1 d && freshB A.2 d then A else (bif deep || freshB A.1 d then (A.1, t :: A.2) else (t :: A.1, A.2))
  | none => A
def flow (P : Program) (A : List Nat × List Nat) (o : Oper) : List Nat × List Nat := match o.op with
  | .store _ (.tmp t) _ => (t :: A.1, A.2)
  | .call c => (match c.callee with
    | .builtin .len => A
    | .builtin .cap => A
    | .builtin .min => A
    | .builtin .max => A
    | _ => (tmpsOf c.operands.toList ++ A.1, A.2))
  | .fieldAddr _ (.tmp t) _ => feeds A false o.dst t
  | .indexAddr _ (.tmp t) _ => feeds A false o.dst t
  | .nilCheck (.tmp t) => feeds A false o.dst t
  | .load ty (.tmp t) => bif flatT P ty then A else feeds A true o.dst t
  | .move (.tmp t) => feeds A false o.dst t
  | .assign (.tmp t) => feeds A false o.dst t
  | _ => A
/-- bases of places that are stored to: a slice that is loaded for that leads to what may be changed -/
def isSlT (P : Program) (t : TypeId) : Bool := match P.underlying t with | some (.slice _) => true | _ => false
def bases (A : List Nat × List Nat) (C : List Nat) (o : Oper) : List Nat := match o.op, o.dst with
  | .indexAddr _ (.tmp t) _, some d => bif freshB A.1 d then C else t :: C
  | .move (.tmp t), some d => bif freshB C d then C else t :: C
  | .assign (.tmp t), some d => bif freshB C d then C else t :: C
  | _, _ => C
def flow2 (P : Program) (S : (List Nat × List Nat) × List Nat) (o : Oper) : (List Nat × List Nat) × List Nat :=
  (match o.op, o.dst with
    | .load ty (.tmp t), some d => bif isSlT P ty && !(freshB S.2 d) then feeds S.1 true (some d) t else flow P S.1 o
    | _, _ => flow P S.1 o, bases S.1 S.2 o)
def refsAt {T : Nat → Type} (s : Sy T) (t : Nat) : List Nat := match lookA s.l t with | some a => a.refs | none => []
/-- the objects that a list of operations may change -/
def mayChange {T : Nat → Type} (P : Program) (s : Sy T) (ops : List Oper) : Nat → Bool := match (ops.reverse.foldl (flow2 P) (([], []), [])).1 with
  | ([], _) => fun _ => false
  | (A, B) => let L := reach s.m 4096 (A.flatMap (refsAt s) ++ (B.flatMap (refsAt s)).flatMap fun k => match s.m[k]? with | some x => x.refs | none => []) []
    fun k => !(Nat.blt k s.m.length) || !(freshB L k)

/-- a region -/
noncomputable def regionA (Y : Tys) (P : Program) (T : Tab Y) (N : Nat) (ops : Array Oper) (draw : Bool) (kp : Sy Y.T → AV Y.T → Option R) (k : Sy Y.T → Option R) (s : Sy Y.T) : Option R :=
  bif draw then (bif Region.noSelect ops && P.follows .mixedOrders then drawA Y P T N (mayChange P s ops.toList) ops kp k ops.size (Array.replicate ops.size false) s else none)
  else runA Y P T N ops kp (ops.size + ops.size + 16) [] ops.toList s k
theorem regionA_ok {ops : Array Oper} {id : Nat} {draw : Bool} (hsz : Y.sz Y.byt = 1) (hT : TabOk hY P G T) (hG : ∀ F, F0.Le F → G F) (h : Cy hY N w0 F0 D H w F ρ os s a) (e : regionA Y P T N ops draw kp k s = some r) (hQ : draw = true → ∀ c d v a w, Q (.panic c) (Act.put a d v) w → Q (.panic c) a w) (hp : Pans hY N w0 F0 D H kp r Q)
    (hK : ∀ w' F' ρ' os' s' a', Cy hY N w0 F0 D H w' F' ρ' os' s' a' → k s' = some r → Q .normal a' w') : (Code.region id ops draw).wp P Q a w := by
  unfold regionA at e
  cases draw with
  | true =>
    simp only [cond_true] at e
    obtain ⟨hc, e⟩ := bif_do e
    simp only [Bool.and_eq_true] at hc
    have h1 : Cy hY N w0 F0 D H { w with drawn := w.drawn + 1 } F ρ os s a := ⟨h.e, h.len, h.lon, h.mem, h.st.drew 1, h.fix, h.long⟩
    exact wp_region_held hc.2 (drawA_ok hsz hT hG hc.1 (hQ rfl) hp hK h1 e)
  | false =>
    simp only [cond_false] at e
    exact wp_region_list (runA_ok hsz hT hG hp hK h e)
end
end Go.Dn

