/- Memory that is handed to a call and handed back: variables with what hangs on them, told as one. For any program. -/
import Derived.Test.YtmbdlfemlbbjfaaGreatDoorGwJ
import Derived.Test.YtmbdlfemlbbjfaaGreatDoorGwK
set_option linter.unusedVariables false
set_option linter.unusedSimpArgs false
set_option linter.unnecessarySimpa false
namespace Go.Gw
open Go.RowKit

section
variable {P : Program} {N : Nat} {w0 : World} {F0 : Heap} {D : Own} {w : World} {F : Heap} {L L' M M' : List SP} {B B' : List (Option Box)} {ρ : Nat → Nat} {l : Env} {a : Act} {o : Oper} {ops : Array Oper} {Q : Exit → Act → World → Prop}

/-- a block with what hangs on it -/
def ownP {Y : Type} (cells : Nat → Y → List SV) (accs : Y → List SP) (ty : TypeId) (b : Nat) : SP :=
  ⟨fun F h => ∃ y, SV.goods F (cells b y) ∧ all F (pt b (.cells (SV.dens (fun _ => 0) (cells b y)).toArray ty (0, 0)) :: accs y) h,
   fun hle ⟨y, h2, h3⟩ => ⟨y, SV.goods_mono hle h2, all_mono hle h3⟩⟩

/-- what is owned, told in another order or otherwise -/
theorem St.retold (h : St w0 F0 D w F L) (hL : ∀ x, all F L x → all F L' x) : St w0 F0 D w F L' :=
  ⟨h.os, h.tape, h.output, h.size, h.frame, h.le, h.new, h.view, let ⟨x, a, r⟩ := h.own; ⟨x, hL x a, r⟩⟩
theorem St.retoldE {Y : Type} {Lf : Y → List SP} {C : Y → Prop} (h : St w0 F0 D w F L) (hL : ∀ x, all F L x → ∃ y, C y ∧ all F (Lf y) x) : ∃ y, C y ∧ St w0 F0 D w F (Lf y) := by
  obtain ⟨x, ha, r⟩ := h.own
  obtain ⟨y, hc, hy⟩ := hL x ha
  exact ⟨y, hc, h.os, h.tape, h.output, h.size, h.frame, h.le, h.new, h.view, x, hy, r⟩
theorem all_swap {F : Heap} {L M : List SP} {x : Heap} (h : all F (L ++ M) x) : all F (M ++ L) x := by
  obtain ⟨g, k, a, b, c, rfl⟩ := all_append.1 h
  exact all_append.2 ⟨k, g, b, a, c.symm, Heap.join_comm c⟩
theorem all_left {F : Heap} {L L' M : List SP} {x : Heap} (h : all F (L ++ M) x) (hL : ∀ x, all F L x → all F L' x) : all F (L' ++ M) x := by
  obtain ⟨g, k, a, b, c, rfl⟩ := all_append.1 h
  exact all_append.2 ⟨g, k, hL g a, b, c, rfl⟩
theorem all_right {F : Heap} {L M M' : List SP} {x : Heap} (h : all F (L ++ M) x) (hM : ∀ x, all F M x → all F M' x) : all F (L ++ M') x := by
  obtain ⟨g, k, a, b, c, rfl⟩ := all_append.1 h
  exact all_append.2 ⟨g, k, a, hM k b, c, rfl⟩
theorem all_front {F : Heap} {A L M : List SP} {x : Heap} (h : all F (A ++ (L ++ M)) x) : all F (L ++ (A ++ M)) x := by
  rw [← List.append_assoc] at h ⊢
  exact all_left h fun _ => all_swap
theorem Cx.reL (h : Cx N w0 F0 D w F L B ρ l a) (hs : St w0 F0 D w F (boxes ρ 0 B ++ L')) : Cx N w0 F0 D w F L' B ρ l a :=
  ⟨h.size, h.nodef, h.env, h.good, h.bgood, h.fix, hs⟩

/-- a variable's block laid among what else is owned -/
theorem Cx.boxL (h : Cx N w0 F0 D w F L B ρ l a) (k : Nat) {b : Box} {B' : List (Option Box)} (hk : B[k]? = some (some b)) (hB : B.set k none = B') : Cx N w0 F0 D w F (pt (ρ k) (.cells (SV.dens ρ b.cells).toArray b.ty (0, 0)) :: L) B' ρ l a := by
  subst hB
  exact h.take_box hk rfl
/-- and back -/
theorem Cx.lBox {k : Nat} {ty : TypeId} {cells : List SV} (h : Cx N w0 F0 D w F (pt (ρ k) (.cells (SV.dens ρ cells).toArray ty (0, 0)) :: L) B ρ l a) (hk : B[k]? = some none) (hg : SV.goods F cells) (hu : SV.unders B.length cells = true) (hB : B.set k (some ⟨ty, cells⟩) = B') : Cx N w0 F0 D w F L B' ρ l a := by
  subst hB
  have hlt : k < B.length := (List.getElem?_eq_some_iff.1 hk).1
  refine ⟨h.size, h.nodef, h.env, fun t s e => by rw [List.length_set]; exact h.good t s e, fun c hc => ?_, by rw [List.length_set]; exact h.fix, ?_⟩
  · rw [List.length_set]
    rcases List.mem_or_eq_of_mem_set hc with hc | hc
    · exact h.bgood c hc
    · cases hc; exact ⟨hg, hu⟩
  · have h1 := h.st
    obtain ⟨x, ha, hs, hf, hd⟩ := h1.own
    refine ⟨h1.os, h1.tape, h1.output, h1.size, h1.frame, h1.le, h1.new, h1.view, x, ?_, hs, hf, hd⟩
    have h2 : all F (pt (ρ k) (.cells (SV.dens ρ cells).toArray ty (0, 0)) :: (boxes ρ 0 B ++ L)) x := all_front (L := [pt (ρ k) (.cells (SV.dens ρ cells).toArray ty (0, 0))]) ha
    obtain ⟨g, r, a1, a2, c, rfl⟩ := h2
    have hget : (boxes ρ 0 B)[k]? = some emp := by have := boxes_at ρ B 0 k none hk; rwa [Nat.zero_add] at this
    have hget2 : (boxes ρ 0 B ++ L)[k]? = some emp := by rw [List.getElem?_append_left (by rw [boxes_length]; exact hlt)]; exact hget
    obtain ⟨g0, r0, e0, c0, rfl, ae, put⟩ := all_at hget2 a2
    have e0 : g0 = Heap.nil := e0
    subst e0
    have h3 := put (A' := pt (ρ k) (.cells (SV.dens ρ cells).toArray ty (0, 0))) (.refl F) a1 ae (Heap.apart_join'.1 c).2
    rw [List.set_append_left _ _ (by rw [boxes_length]; exact hlt)] at h3
    rw [boxes_set, Nat.zero_add]
    simpa [Heap.nil_join, obox, Box.sp] using h3

/-- told as one -/
theorem Cx.packP {Y : Type} {cells : Nat → Y → List SV} {accs : Y → List SP} {ty : TypeId} (h : Cx N w0 F0 D w F L B ρ l a) (k : Nat) {cs : List SV} {R : List SP} (y : Y) (hk : B[k]? = some (some ⟨ty, cs⟩)) (hB : B.set k none = B')
    (hL : L = accs y ++ R) (hd : SV.dens ρ cs = SV.dens (fun _ => 0) (cells (ρ k) y)) (hg : SV.goods F cs → SV.goods F (cells (ρ k) y)) : Cx N w0 F0 D w F (ownP cells accs ty (ρ k) :: R) B' ρ l a := by
  have hbg := (h.bgood _ (List.mem_of_getElem? hk)).1
  have h1 := h.boxL k hk hB
  subst hL
  refine h1.reL (h1.st.retold fun x hx => ?_)
  refine all_right hx fun x hx => ?_
  have h2 : all F ((pt (ρ k) (.cells (SV.dens ρ cs).toArray ty (0, 0)) :: accs y) ++ R) x := hx
  refine all_left (L' := [ownP cells accs ty (ρ k)]) h2 fun x hx => all_one.2 ⟨y, hg hbg, ?_⟩
  rw [← hd]; exact hx
/-- told apart -/
theorem Cx.unpackP {k : Nat} {Y : Type} {cells : Nat → Y → List SV} {accs : Y → List SP} {ty : TypeId} {R : List SP} (h : Cx N w0 F0 D w F (ownP cells accs ty (ρ k) :: R) B ρ l a) (cs : Y → List SV) (hk : B[k]? = some none)
    (hd : ∀ y, SV.dens (fun _ => 0) (cells (ρ k) y) = SV.dens ρ (cs y)) (hg : ∀ y F, SV.goods F (cells (ρ k) y) → SV.goods F (cs y)) (hu : ∀ y, SV.unders B.length (cs y) = true) :
    ∃ y, Cx N w0 F0 D w F (accs y ++ R) (B.set k (some ⟨ty, cs y⟩)) ρ l a := by
  obtain ⟨y, hgy, hs⟩ := h.st.retoldE (C := fun y => SV.goods F (cells (ρ k) y)) (Lf := fun y => boxes ρ 0 B ++ (pt (ρ k) (.cells (SV.dens ρ (cs y)).toArray ty (0, 0)) :: (accs y ++ R))) fun x hx => by
    obtain ⟨g, r, a1, a2, c, rfl⟩ := all_append.1 hx
    obtain ⟨g2, r2, ⟨y, hg, hy⟩, a3, c2, rfl⟩ := a2
    refine ⟨y, hg, all_append.2 ⟨g, _, a1, ?_, c, rfl⟩⟩
    rw [hd y] at hy
    exact all_append (L := pt (ρ k) (.cells (SV.dens ρ (cs y)).toArray ty (0, 0)) :: accs y) |>.2 ⟨g2, r2, hy, a3, c2, rfl⟩
  exact ⟨y, (h.reL hs).lBox hk (hg y F hgy) (hu y) rfl⟩

/-- what a function hands back that was handed memory of its caller's -/
def RetH (w : World) (F : Heap) (D : Own) (post : SV → List SP → Prop) (e : Ending) (w' : World) : Prop :=
  ∃ F' s M', e = .returned (s.den fun _ => 0) ∧ s.good F' ∧ s.under 0 = true ∧ St w F D w' F' M' ∧ post s M'

theorem Cx.callH {rest : List Oper} {f : FuncId} {xs : Array Operand} {ts : Array TypeId} {lit : List Nat} {ss : List SV} {post : SV → List SP → Prop} (h : Cx N w0 F0 D w F (M ++ L) B ρ l a)
    (hg : gd ops lit [] l o.guard = some .yes) (hop : o.op = .call { callee := .value (.func f), args := xs, argTypes := ts }) (hd : fitsB N o.dst = true) (hc : Callable P f) (hss : ovs l xs.toList = some ss)
    (ss' : List SV) (hden : SV.dens ρ ss = SV.dens ρ ss') (hgood : SV.goods F ss → SV.goods F ss')
    (bs : List Nat) (hcalls : ∀ D' : Own, D'.known = bs → F.Sub w → F0.Le F → SV.goods F ss' → St w F D' w F M → Calls P f (SV.dens ρ ss').toArray w (RetH w F D' post))
    (hK : ∀ s F' M' w' a', post s M' → Cx N w0 F0 D w' F' (M' ++ L) B ρ (after l o.dst s) a' → wpList P ops Q rest a' w') : wpList P ops Q (o :: rest) a w := by
  refine wpList_go (gd_ok (Lx.start h) hg) ?_
  unfold Oper.wp
  rw [call_run hop hc]
  have hargs : xs.map a.eval = (SV.dens ρ ss).toArray := by
    rw [← h.evals hss, ← Array.toList_map]
  rw [hargs, hden]
  have h2 : St w0 F0 D w F ((L ++ boxes ρ 0 B) ++ M) := h.st.retold fun x hx => by
    have h4 : all F (M ++ (boxes ρ 0 B ++ L)) x := all_front hx
    have h5 : all F (M ++ (L ++ boxes ρ 0 B)) x := all_right h4 fun _ => all_swap
    exact all_swap h5
  obtain ⟨p, hp0⟩ := h2.call
  obtain ⟨hstart, back⟩ := hp0 bs
  refine (hcalls ⟨p, bs⟩ rfl h.st.view h.st.le (hgood (h.ovs_good hss)) hstart).mono fun e w' hr => ?_
  obtain ⟨F', s, M', rfl, hgs, hu, hst, hp⟩ := hr
  show wpList P ops Q rest (a.put o.dst (s.den fun _ => 0)) w'
  rw [SV.den_closed hu (fun _ => 0) ρ]
  have h3 : St w0 F0 D w' F' (boxes ρ 0 B ++ (M' ++ L)) := (back hst).retold fun x hx => by
    have h4 : all F' (M' ++ (L ++ boxes ρ 0 B)) x := all_swap hx
    have h5 : all F' (M' ++ (boxes ρ 0 B ++ L)) x := all_right h4 fun _ => all_swap
    exact all_front h5
  exact hK s F' M' w' _ hp ((h.world hst.le h3).put' hd hgs (SV.under_mono (Nat.zero_le _) hu))

/-- how a function begins that is handed memory -/
theorem St.emps (h : St w0 F0 D w F L) (ρ : Nat → Nat) (n : Nat) : St w0 F0 D w F (boxes ρ 0 (nones n) ++ L) :=
  h.retold fun x hx => all_append.2 ⟨Heap.nil, x, all_nones F ρ n 0, hx, Heap.nil_apart x, rfl⟩
/-- the end of a function that was handed memory -/
theorem Cx.retH {fn : Func} {post : SV → List SP → Prop} {ss : List SV} (h : Cx N w0 F0 D w F (M ++ L) B ρ l a) (hl : leftsC P l B fn.results.toList = some ss) (hu : SV.unders 0 ss = true) (hp : post (retS ss) M) : bodyPost P fn (RetH w0 F0 D post) .ret a w := by
  have hrun := leftsC_run (P := P) h hl
  have hres : (results fn a.tmps).run P w = .ok (leftVal (SV.dens ρ ss)) w := by
    unfold results
    rw [Array.mapM_eq_mapM_toList]
    simp only [bind_map_left, Sem.run_bind]
    refine (congrArg (fun r => Result.andThen r _) hrun.1).trans ?_
    simp only [Result.andThen_ok, Sem.run_pure]
    congr 1
    cases hd : SV.dens ρ ss with
    | nil => rfl
    | cons x r => cases r with
      | nil => rfl
      | cons y r => simp [leftVal]
  refine ⟨h.nodef, _, hres, F, retS ss, M, ?_, ?_, ?_, ?_, hp⟩
  · rw [retS_den, ← SV.dens_ext (n := 0) (ρ := fun _ => 0) (ρ' := ρ) (fun k hk => absurd hk (Nat.not_lt_zero k)) hu]
  · have hg := hrun.2
    match ss, hg with
    | [], _ => exact trivial
    | [s], g => exact g.1
    | s :: t :: r, g => simpa [retS, SV.good] using g
  · match ss, hu with
    | [], _ => rfl
    | [s], g => simpa [retS, SV.unders] using g
    | s :: t :: r, g => simpa [retS, SV.under] using g
  · have h1 : St w0 F0 D w F ((L ++ boxes ρ 0 B) ++ M) := h.st.retold fun x hx => by
      have h4 : all F (M ++ (boxes ρ 0 B ++ L)) x := all_front hx
      have h5 : all F (M ++ (L ++ boxes ρ 0 B)) x := all_right h4 fun _ => all_swap
      exact all_swap h5
    exact h1.only
end
end Go.Gw

