/- Entering, leaving, tests, loops, joins, calls. For any program. -/
import Derived.Test.YtglnkknalibgdaaDoorGwR
set_option linter.unusedVariables false
set_option linter.unusedSimpArgs false
set_option linter.unnecessarySimpa false
namespace Go.Gw
open Go.RowKit
set_option linter.unusedSimpArgs false

section
variable {P : Program} {N : Nat} {w0 : World} {F0 : Heap} {D : Own} {w : World} {F : Heap} {L : List SP} {B B' : List (Option Box)} {ρ : Nat → Nat} {l : Env} {a : Act} {o : Oper} {Q : Exit → Act → World → Prop}

def after (l : Env) : Option Tmp → SV → Env
  | some d, s => (d, s) :: l
  | none, _ => l
def fitsB (N : Nat) : Option Tmp → Bool
  | some d => Nat.blt d N
  | none => true
theorem Cx.put' (h : Cx N w0 F0 D w F L B ρ l a) {d : Option Tmp} {s : SV} (hd : fitsB N d = true) (hg : s.good F) (hb : s.under B.length = true) : Cx N w0 F0 D w F L B ρ (after l d s) (a.put d (s.den ρ)) := by
  cases d with
  | none => exact h
  | some d => exact h.put (Nat.le_of_ble_eq_true hd) hg hb

def number : Nat → List SV → Env
  | _, [] => []
  | k, s :: r => (k, s) :: number (k + 1) r
theorem look_number : ∀ (ss : List SV) (k t : Nat) (s : SV), look (number k ss) t = some s → k ≤ t ∧ ss[t - k]? = some s
  | [], _, _, _, h => by cases h
  | x :: r, k, t, s, h => by
    simp only [number, look] at h
    cases hk : Nat.beq k t with
    | true => rw [hk] at h; simp at h; subst h; have := Nat.eq_of_beq_eq_true hk; subst this; simp
    | false =>
      rw [hk] at h; simp at h
      obtain ⟨h1, h2⟩ := look_number r (k + 1) t s h
      refine ⟨by omega, ?_⟩
      obtain ⟨j, rfl⟩ : ∃ j, t = k + 1 + j := ⟨t - (k + 1), by omega⟩
      have e1 : k + 1 + j - (k + 1) = j := by omega
      have e2 : k + 1 + j - k = j + 1 := by omega
      rw [e1] at h2; rw [e2]; simpa using h2

theorem Cx.enter {args : Array Value} {ntmps : Nat} (hN : ntmps = N) (ss : List SV) (hst : St w F D w F (boxes ρ 0 B ++ L)) (hargs : args = (SV.dens ρ ss).toArray) (hg : SV.goods F ss) (hu : SV.unders B.length ss = true)
    (hb : ∀ b, some b ∈ B → SV.goods F b.cells ∧ SV.unders B.length b.cells = true) (hle : ss.length ≤ N) (hfix : ∀ k b, D.known[k]? = some b → k < B.length ∧ ρ k = b) :
    Cx N w F D w F L B ρ (number 0 ss) { tmps := args ++ Array.replicate (ntmps - args.size) undef, defers := [] } := by
  subst hN; subst hargs
  have hl := dens_length ρ ss
  refine ⟨by simp [hl]; omega, rfl, fun t s e => ?_, fun t s e => ?_, hb, hfix, hst⟩
  · obtain ⟨_, h2⟩ := look_number ss 0 t s e
    have hlt := (List.getElem?_eq_some_iff.1 h2).1
    simp only [Nat.sub_zero] at h2 hlt
    refine ⟨by omega, ?_⟩
    rw [Array.getD_eq_getD_getElem?, Array.getElem?_append_left (by simp [hl]; exact hlt)]
    simp [dens_get, h2]
  · obtain ⟨_, h2⟩ := look_number ss 0 t s e
    have hm := List.mem_of_getElem? h2
    exact ⟨SV.goods_iff.1 hg s hm, SV.unders_iff.1 hu s hm⟩

/-- a test -/
theorem Cx.cond {c : Operand} {x y : Code} {b : Bool} (h : Cx N w0 F0 D w F L B ρ l a) (hc : ov l c = some (.v (.bool b))) (ht : b = true → x.wp P Q a w) (hf : b = false → y.wp P Q a w) : (Code.cond c x y).wp P Q a w :=
  wp_cond_split (h.eval hc) ht hf

/-- leaving -/
def lefts (l : Env) : List ResultVar → Option (List SV)
  | [] => some []
  | .tmp t :: r => match look l t, lefts l r with | some s, some ss => some (s :: ss) | _, _ => none
  | .cell .. :: _ => none
def leftVal : List Value → Value
  | [v] => v
  | vs => .tuple vs.toArray
theorem lefts_run (h : Cx N w0 F0 D w F L B ρ l a) : ∀ {rs : List ResultVar} {ss : List SV}, lefts l rs = some ss →
    (rs.mapM (m := Sem) fun r => match r with | .tmp t => pure (a.tmps.getD t undef) | .cell ad ty => (do loadVar ty (← asAddr (a.tmps.getD ad undef)))).run P w = .ok (SV.dens ρ ss) w
  | [], ss, e => by cases e; rfl
  | .tmp t :: r, ss, e => by
    simp only [lefts] at e
    cases ht : look l t with
    | none => rw [ht] at e; cases e
    | some s =>
      cases hr : lefts l r with
      | none => rw [ht, hr] at e; cases e
      | some ss' =>
        rw [ht, hr] at e; cases e
        have ih := lefts_run h hr
        rw [List.mapM_cons]
        simp only [pure_bind, Sem.run_bind, ih, Result.andThen_ok, (h.env t s ht).2, SV.dens]
        rfl
  | .cell .. :: r, ss, e => by cases e

theorem results_run (h : Cx N w0 F0 D w F L B ρ l a) {fn : Func} {ss : List SV} (hl : lefts l fn.results.toList = some ss) : (results fn a.tmps).run P w = .ok (leftVal (SV.dens ρ ss)) w := by
  unfold results
  rw [Array.mapM_eq_mapM_toList]
  have h1 := lefts_run (P := P) h hl
  simp only [bind_map_left, Sem.run_bind]
  refine (congrArg (fun r => Result.andThen r _) h1).trans ?_
  simp only [Result.andThen_ok, Sem.run_pure]
  congr 1
  cases hd : SV.dens ρ ss with
  | nil => rfl
  | cons x r => cases r with
    | nil => rfl
    | cons y r => simp [leftVal]

/-- the body's end -/
theorem Cx.leave {fn : Func} {R : Ending → World → Prop} {ss : List SV} (h : Cx N w0 F0 D w F L B ρ l a) (hl : lefts l fn.results.toList = some ss) (hR : R (.returned (leftVal (SV.dens ρ ss))) w) : bodyPost P fn R .ret a w :=
  ⟨h.nodef, _, results_run h hl, hR⟩
/-- a loop: what is shown of its head under the same for the next round -/
theorem loop_intro {body : Code} (h : ∀ LW : Act → World → Prop, (∀ a w, body.wp P (Exit.then LW Q) a w → LW a w) → LW a w) : (Code.loop body).wp P Q a w := by
  intro b k cs
  have key := h (fun a w => ∀ (b : Frame) (k : List Item) (cs : List Frame), ∃ e a' w', Q e a' w' ∧ Arrives P (lone (b.at a (.code body :: .inLoop body :: k)) cs w) b k cs e a' w') (fun a w hb b k cs => by
    obtain ⟨e, a₁, w₁, hq, harr⟩ := hb b (.inLoop body :: k) cs
    cases e with
    | normal =>
      obtain ⟨e₂, a₂, w₂, hq₂, harr₂⟩ := hq b k cs
      exact ⟨e₂, a₂, w₂, hq₂, .of_steps (Steps.trans harr (.one step_inLoop)) harr₂⟩
    | exit id => exact ⟨_, a₁, w₁, hq, .pass (x := .inLoop body) rfl (fun _ _ => .inl (by simp)) harr⟩
    | goto l => exact ⟨_, a₁, w₁, hq, .pass (x := .inLoop body) rfl (fun _ _ => .inl (by simp)) harr⟩
    | ret => exact ⟨_, a₁, w₁, hq, .pass (x := .inLoop body) rfl (fun _ _ => .inl (by simp)) harr⟩
    | panic ch => exact ⟨_, a₁, w₁, hq, .pass (x := .inLoop body) rfl (fun _ _ => .inl (by simp)) harr⟩
    | outgrown => exact ⟨_, a₁, w₁, hq, .pass (x := .inLoop body) rfl (fun _ _ => .inl (by simp)) harr⟩)
  obtain ⟨e, a', w', hq, harr⟩ := key b k cs
  exact ⟨e, a', w', hq, .of_steps (.one step_loop) harr⟩

/-- a function of the program that has a body -/
structure Callable (P : Program) (f : FuncId) : Prop where
  out : ∃ fn, P.funcs[f]? = some fn ∧ (fn.name == "runtime.NumGoroutine") = false ∧ fn.body.isNone = false
theorem Callable.run {f : FuncId} (h : Callable P f) (args : Array Value) (w : World) : (callFunc f args).run P w = .ok (.enter f args) w := by
  obtain ⟨fn, h1, h2, h3⟩ := h.out
  have e : (callFunc f args).run P w = (match P.funcs[f]? with
    | none => stuck "call: no such function"
    | some fn =>
      if fn.name == "runtime.NumGoroutine" then pure .numGoroutine
      else if fn.body.isNone then (do
        mark (.extern f)
        if let some e := Extern.findNext fn then return ← e args
        match Extern.find fn with
        | some e => pure (.value (← e args))
        | none =>
          if fn.name.endsWith ".init" && !fn.name.startsWith "(" && !fn.name.startsWith "gosem." then pure (.value (.tuple #[]))
          else unsupported (.extern fn.name))
      else pure (.enter f args) : Sem Next).run P w := rfl
  rw [e, h1]
  simp only [h2, h3]
  rfl

/-- what a function hands back that owns nothing of its caller's: a value that never changes any more; nothing that was there has changed -/
def Ret0 (w : World) (F : Heap) (post : SV → Prop) (e : Ending) (w' : World) : Prop :=
  ∃ F' s, e = .returned (s.den fun _ => 0) ∧ s.good F' ∧ s.under 0 = true ∧ St w F No w' F' [] ∧ post s

def ovs (l : Env) : List Operand → Option (List SV)
  | [] => some []
  | x :: r => match ov l x, ovs l r with | some s, some ss => some (s :: ss) | _, _ => none
theorem Cx.evals (h : Cx N w0 F0 D w F L B ρ l a) : ∀ {xs : List Operand} {ss : List SV}, ovs l xs = some ss → xs.map a.eval = SV.dens ρ ss
  | [], ss, e => by cases e; rfl
  | x :: r, ss, e => by
    simp only [ovs] at e
    cases hx : ov l x with
    | none => rw [hx] at e; cases e
    | some s =>
      cases hr : ovs l r with
      | none => rw [hx, hr] at e; cases e
      | some ss' => rw [hx, hr] at e; cases e; simp only [List.map_cons, SV.dens, h.eval hx, h.evals hr]

theorem Cx.ovs_good (h : Cx N w0 F0 D w F L B ρ l a) : ∀ {xs : List Operand} {ss : List SV}, ovs l xs = some ss → SV.goods F ss
  | [], ss, e => by cases e; trivial
  | x :: r, ss, e => by
    simp only [ovs] at e
    cases hx : ov l x with
    | none => rw [hx] at e; cases e
    | some s =>
      cases hr : ovs l r with
      | none => rw [hx, hr] at e; cases e
      | some ss' => rw [hx, hr] at e; cases e; exact ⟨(h.ogood hx).1, h.ovs_good hr⟩

theorem call_run {f : FuncId} {xs : Array Operand} {ts : Array TypeId} (hop : o.op = .call { callee := .value (.func f), args := xs, argTypes := ts }) (hc : Callable P f) :
    (execOp a.eval o).run P w = .ok (.enter f (xs.map a.eval)) w := by
  unfold execOp
  rw [hop]
  simp only [resolve, Sem.run_bind, Act.eval, Deferred.ofValue, Sem.run_pure, Result.andThen_ok, invoke, Array.empty_append, Array.append_empty]
  exact hc.run _ w

theorem SV.den_closed {s : SV} (h : s.under 0 = true) (ρ ρ' : Nat → Nat) : s.den ρ = s.den ρ' := SV.den_ext (n := 0) (fun k hk => absurd hk (Nat.not_lt_zero k)) h

/-- the call of a function that owns nothing of its caller's -/
theorem Cx.call0 {ops : Array Oper} {rest : List Oper} {f : FuncId} {xs : Array Operand} {ts : Array TypeId} {lit : List Nat} {ss : List SV} {post : SV → Prop} (h : Cx N w0 F0 D w F L B ρ l a)
    (hg : gd ops lit [] l o.guard = some .yes) (hop : o.op = .call { callee := .value (.func f), args := xs, argTypes := ts }) (hd : fitsB N o.dst = true) (hc : Callable P f) (hss : ovs l xs.toList = some ss)
    (ss' : List SV) (hden : SV.dens ρ ss = SV.dens ρ ss') (hgood : SV.goods F ss → SV.goods F ss')
    (hcalls : F.Sub w → F0.Le F → SV.goods F ss' → Calls P f (SV.dens ρ ss').toArray w (Ret0 w F post))
    (hK : ∀ s F' w' a', post s → Cx N w0 F0 D w' F' L B ρ (after l o.dst s) a' → wpList P ops Q rest a' w') : wpList P ops Q (o :: rest) a w := by
  refine wpList_go (gd_ok (Lx.start h) hg) ?_
  unfold Oper.wp
  rw [call_run hop hc]
  have hargs : xs.map a.eval = (SV.dens ρ ss).toArray := by
    rw [← h.evals hss, ← Array.toList_map]
  rw [hargs, hden]
  refine (hcalls h.st.view h.st.le (hgood (h.ovs_good hss))).mono fun e w' hr => ?_
  obtain ⟨F', s, rfl, hgs, hu, hst, hp⟩ := hr
  show wpList P ops Q rest (a.put o.dst (s.den fun _ => 0)) w'
  rw [SV.den_closed hu (fun _ => 0) ρ]
  have h1 := h.st.swap.swap
  have h2 : St w0 F0 D w F ((boxes ρ 0 B ++ L) ++ []) := by rw [List.append_nil]; exact h.st
  obtain ⟨p, hp0⟩ := h2.call
  have h3 := (hp0 []).2 (hst.widen ⟨p, []⟩)
  rw [List.append_nil] at h3
  exact hK s F' w' _ hp ((h.world hst.le h3).put' hd hgs (SV.under_mono (Nat.zero_le _) hu))

def retS : List SV → SV
  | [s] => s
  | ss => .tup ss
theorem retS_den (ρ : Nat → Nat) (ss : List SV) : (retS ss).den ρ = leftVal (SV.dens ρ ss) := by
  match ss with
  | [] => rfl
  | [s] => rfl
  | s :: t :: r => rfl
theorem lefts_good (h : Cx N w0 F0 D w F L B ρ l a) : ∀ {rs : List ResultVar} {ss : List SV}, lefts l rs = some ss → SV.goods F ss
  | [], ss, e => by cases e; trivial
  | .tmp t :: r, ss, e => by
    simp only [lefts] at e
    cases ht : look l t with
    | none => rw [ht] at e; cases e
    | some s =>
      cases hr : lefts l r with
      | none => rw [ht, hr] at e; cases e
      | some ss' => rw [ht, hr] at e; cases e; exact ⟨(h.good t s ht).1, lefts_good h hr⟩
  | .cell .. :: r, ss, e => by cases e
/-- the end of a function that owns nothing of its caller's -/
theorem Cx.ret0 {fn : Func} {post : SV → Prop} {ss : List SV} (h : Cx N w0 F0 No w F L B ρ l a) (hl : lefts l fn.results.toList = some ss) (hu : SV.unders 0 ss = true) (hp : post (retS ss)) : bodyPost P fn (Ret0 w0 F0 post) .ret a w := by
  refine h.leave hl ⟨F, retS ss, ?_, ?_, ?_, ?_, hp⟩
  · rw [retS_den, ← SV.dens_ext (n := 0) (ρ := fun _ => 0) (ρ' := ρ) (fun k hk => absurd hk (Nat.not_lt_zero k)) hu]
  · have hg := lefts_good h hl
    match ss, hg with
    | [], _ => exact trivial
    | [s], g => exact g.1
    | s :: t :: r, g => simpa [retS, SV.good] using g
  · match ss, hu with
    | [], _ => rfl
    | [s], g => simpa [retS, SV.unders] using g
    | s :: t :: r, g => simpa [retS, SV.under] using g
  · have := h.st
    have h1 : St w0 F0 No w F ((boxes ρ 0 B ++ L) ++ []) := by rw [List.append_nil]; exact this
    exact h1.only
theorem bind_some {α β : Type} {x : Option α} {f : α → Option β} {r : β} (h : (x >>= f) = some r) : ∃ y, x = some y ∧ f y = some r := by
  cases x with
  | none => cases h
  | some y => exact ⟨y, rfl, h⟩

def envUnder (n : Nat) : Env → Bool
  | [] => true
  | (_, s) :: r => s.under n && envUnder n r
def boxUnder (n : Nat) : List (Option Box) → Bool
  | [] => true
  | none :: r => boxUnder n r
  | some b :: r => SV.unders n b.cells && boxUnder n r
theorem envUnder_look {n : Nat} : ∀ {l : Env} {t : Nat} {s : SV}, envUnder n l = true → look l t = some s → s.under n = true
  | [], _, _, _, e => by cases e
  | (k, x) :: r, t, s, h, e => by
    simp only [envUnder, Bool.and_eq_true] at h
    simp only [look] at e
    cases hk : Nat.beq k t with
    | true => rw [hk] at e; simp only [cond_true] at e; cases e; exact h.1
    | false => rw [hk] at e; exact envUnder_look (l := r) h.2 e
theorem boxUnder_mem {n : Nat} : ∀ {B : List (Option Box)} {b : Box}, boxUnder n B = true → some b ∈ B → SV.unders n b.cells = true
  | [], _, _, h => by cases h
  | none :: r, b, h, hb => by
    rcases List.mem_cons.1 hb with e | e
    · cases e
    · exact boxUnder_mem (B := r) h e
  | some c :: r, b, h, hb => by
    simp only [boxUnder, Bool.and_eq_true] at h
    rcases List.mem_cons.1 hb with e | e
    · cases e; exact h.1
    · exact boxUnder_mem (B := r) h.2 e
/-- the younger variables are forgotten -/
theorem Cx.shrink (h : Cx N w0 F0 D w F L B ρ l a) (n : Nat) {B' : List (Option Box)} (hB : B.take n = B') (hn : n ≤ B.length) (hl : envUnder n l = true) (hb : boxUnder n B' = true) (hD : D.known.length ≤ n) : Cx N w0 F0 D w F L B' ρ l a := by
  subst hB
  have hlen : (B.take n).length = n := by rw [List.length_take]; omega
  refine ⟨h.size, h.nodef, h.env, fun t s e => ⟨(h.good t s e).1, by rw [hlen]; exact envUnder_look hl e⟩, fun b hb' => ⟨(h.bgood b (List.mem_of_mem_take hb')).1, by rw [hlen]; exact boxUnder_mem hb hb'⟩, fun k b e => ⟨by rw [hlen]; exact Nat.lt_of_lt_of_le (List.getElem?_eq_some_iff.1 e).1 hD, (h.fix k b e).2⟩, ?_⟩
  have h1 := h.st
  have hsplit : boxes ρ 0 B = boxes ρ 0 (B.take n) ++ boxes ρ n (B.drop n) := by
    conv => lhs; rw [← List.take_append_drop n B]
    rw [boxes_append, hlen, Nat.zero_add]
  rw [hsplit] at h1
  obtain ⟨x, ha, hs, hf, hd⟩ := h1.own
  obtain ⟨g, k, a1, a2, c, rfl⟩ := all_append.1 ha
  obtain ⟨g1, g2, b1, b2, c1, rfl⟩ := all_append.1 a1
  obtain ⟨c3, c4⟩ := Heap.apart_join.1 c
  obtain ⟨f1, f2⟩ := Heap.apart_join'.1 hf
  obtain ⟨f3, f4⟩ := Heap.apart_join'.1 f1
  refine ⟨h1.os, h1.tape, h1.output, h1.size, h1.frame, h1.le, h1.new, h1.view, g1.join k, all_append.2 ⟨g1, k, b1, a2, c3, rfl⟩, (hs.of_join_left.of_join_left).join (hs.of_join_right c), Heap.apart_join'.2 ⟨f3, f2⟩, fun b o e => ?_⟩
  rcases Heap.join_some e with e | e
  · exact hd b o (Heap.join_left (Heap.join_left e))
  · exact hd b o (Heap.join_right c e)
/-- a region of plain operations, and what follows -/
theorem Cx.rseq {id : Nat} {y : Code} {l' : Env} (h : Cx N w0 F0 D w F L B ρ l a) {ops : Array Oper} (lit : List Nat) (ks : List Nat) (e : run P N ops lit ops.toList ks l B = some (l', B'))
    (hK : ∀ ρ' w' a', Cx N w0 F0 D w' F L B' ρ' l' a' → y.wp P Q a' w') : (Code.seq (Code.region id ops false) y).wp P Q a w :=
  wp_seq (h.region lit ks e hK)
end
end Go.Gw

