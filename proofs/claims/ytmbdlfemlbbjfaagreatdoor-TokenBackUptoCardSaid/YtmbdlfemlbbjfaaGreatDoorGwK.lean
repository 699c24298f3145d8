/- Regions that draw their order: those operations first that yield the same in every world. For any program. -/
import Derived.Test.YtmbdlfemlbbjfaaGreatDoorGwJ
import Derived.OrdersHeld
import Derived.Deep.RegionHeld3
set_option linter.unusedVariables false
set_option linter.unusedSimpArgs false
set_option linter.unnecessarySimpa false
namespace Go.Gw
open Go.RowKit
set_option linter.unusedSimpArgs false

def nones : Nat → List (Option Box)
  | 0 => []
  | n + 1 => none :: nones n
theorem nones_length : ∀ n, (nones n).length = n
  | 0 => rfl
  | n + 1 => by simp [nones, nones_length n]
theorem nones_mem : ∀ {n : Nat} {b : Box}, some b ∈ nones n → False
  | 0, _, h => by cases h
  | n + 1, _, h => by
    rcases List.mem_cons.1 h with e | e
    · cases e
    · exact nones_mem e
theorem all_nones (F : Heap) (ρ : Nat → Nat) : ∀ (n k : Nat), all F (boxes ρ k (nones n)) Heap.nil
  | 0, _ => rfl
  | n + 1, k => ⟨Heap.nil, Heap.nil, rfl, all_nones F ρ n (k + 1), ⟨fun _ => .inl rfl⟩, rfl⟩

def takeOk (ops : Array Oper) (l l' : Array Bool) (i : Nat) : Bool :=
  Region.noSelect ops && Region.free .any ops l i && (Region.ready .any ops l).contains i && (l.setIfInBounds i true == l')

section
variable {P : Program} {N : Nat} {w0 : World} {F0 : Heap} {D : Own} {w : World} {F : Heap} {L : List SP} {B B' : List (Option Box)} {ρ : Nat → Nat} {l : Env} {a : Act} {o : Oper} {ops : Array Oper} {Q : Exit → Act → World → Prop}

theorem St.sub0 (h : St w0 F0 D w F L) : F0.Sub w := ⟨fun x o e => h.view.out x o (h.le.out x o e)⟩

/-- what is known of slots is known in every world that has what never changes -/
theorem Cx.at (h : Cx N w0 F0 D w F L B ρ l a) {w' : World} (hv : F.Sub w') : Cx N w' F No w' F [] (nones B.length) ρ l a := by
  refine ⟨h.size, h.nodef, h.env, fun t s e => by rw [nones_length]; exact h.good t s e, fun b hb => (nones_mem hb).elim, fun k b e => by simp [No] at e, ?_⟩
  rw [List.append_nil]
  exact ⟨rfl, rfl, rfl, Nat.le_refl _, fun _ _ _ => rfl, .refl F, fun _ _ _ => rfl, hv, Heap.nil, all_nones F ρ _ _, ⟨fun _ _ e => by cases e⟩, ⟨fun _ => .inr rfl⟩, fun _ _ e => by cases e⟩

/-- the walk goes on as if it began here -/
theorem Cx.base (h : Cx N w0 F0 D w F L B ρ l a) : ∃ D' : Own, Cx N w F D' w F L B ρ l a ∧ D'.known = D.known ∧
    ∀ {w' : World} {F' : Heap} {L' : List SP} {B' : List (Option Box)} {ρ' : Nat → Nat} {l' : Env} {a' : Act}, Cx N w F D' w' F' L' B' ρ' l' a' → Cx N w0 F0 D w' F' L' B' ρ' l' a' := by
  have h1 : St w0 F0 D w F ([] ++ (boxes ρ 0 B ++ L)) := h.st
  obtain ⟨p, hp⟩ := h1.call
  exact ⟨⟨p, D.known⟩, ⟨h.size, h.nodef, h.env, h.good, h.bgood, h.fix, (hp _).1⟩, rfl, fun h' => ⟨h'.size, h'.nodef, h'.env, h'.good, h'.bgood, h'.fix, (hp _).2 h'.st⟩⟩

theorem Cx.draw {id n : Nat} (h : Cx N w0 F0 D w F L B ρ l a) (hm : P.follows .mixedOrders = true) (hn : ops.size = n) (listed : Array Bool) (hl : Array.replicate n false = listed)
    (hK : ∀ (w1 : World) (D' : Own), D'.known = D.known → (∀ {w' : World} {F' : Heap} {L' : List SP} {B' : List (Option Box)} {ρ' : Nat → Nat} {l' : Env} {a' : Act}, Cx N w1 F D' w' F' L' B' ρ' l' a' → Cx N w0 F0 D w' F' L' B' ρ' l' a') →
      Cx N w1 F D' w1 F L B ρ l a → wpAnyH P .any ops (NoPanic Q) (fun w' => F.Sub w') n listed a w1) : (Code.region id ops true).wp P Q a w := by
  subst hn; subst hl
  refine wp_region_noPanic (wp_region_held (S := fun w' => F.Sub w') hm ?_)
  have h1 : Cx N w0 F0 D { w with drawn := w.drawn + 1 } F L B ρ l a := ⟨h.size, h.nodef, h.env, h.good, h.bgood, h.fix, h.st.drew 1⟩
  obtain ⟨D', h2, hk, back⟩ := h1.base
  exact hK _ D' hk back h2

/-- an operation that yields the same in every world that has what never changes is taken first -/
theorem Cx.dtake {s : SV} {n : Nat} {listed listed' : Array Bool} {lit : List Nat} (h : Cx N w0 F0 D w F L B ρ l a) (i : Nat) (ho : ops[i]? = some o) (hg : gd ops lit [] l o.guard = some .yes) (hck : takeOk ops listed listed' i = true) (hd : fitsB N o.dst = true)
    (hv : F.Sub w) (hrun : ∀ w', F.Sub w' → (execOp a.eval o).run P w' = .ok (.value (s.den ρ)) w') (hgood : s.good F) (hu : s.under B.length = true)
    (hK : ∀ a', Cx N w0 F0 D w F L B ρ (after l o.dst s) a' → wpAnyH P .any ops (NoPanic Q) (fun w' => F.Sub w') n listed' a' w) : wpAnyH P .any ops (NoPanic Q) (fun w' => F.Sub w') (n + 1) listed a w := by
  unfold takeOk at hck
  simp only [Bool.and_eq_true, beq_iff_eq] at hck
  obtain ⟨⟨⟨h1, h2⟩, h3⟩, h4⟩ := hck
  subst h4
  exact wpAnyH_take (S := fun w' => F.Sub w') ho h1 h2 h3 (fun c a w hh => hh) (.inl ⟨gd_ok (Lx.start h) hg, fun w' hw' => hrun w' hw'⟩) hv (hK _ (h.put' hd hgood hu))
/-- an operation whose guard does not hold -/
theorem Cx.dskip {n : Nat} {listed listed' : Array Bool} {lit : List Nat} (h : Cx N w0 F0 D w F L B ρ l a) (i : Nat) (ho : ops[i]? = some o) (hg : gd ops lit [] l o.guard = some .no) (hck : takeOk ops listed listed' i = true) (hd : fitsB N o.dst = true)
    (hK : ∀ a', Cx N w0 F0 D w F L B ρ (after l o.dst (.v undef)) a' → wpAnyH P .any ops (NoPanic Q) (fun w' => F.Sub w') n listed' a' w) : wpAnyH P .any ops (NoPanic Q) (fun w' => F.Sub w') (n + 1) listed a w := by
  unfold takeOk at hck
  simp only [Bool.and_eq_true, beq_iff_eq] at hck
  obtain ⟨⟨⟨h1, h2⟩, h3⟩, h4⟩ := hck
  subst h4
  exact wpAnyH_take (S := fun w' => F.Sub w') ho h1 h2 h3 (fun c a w hh => hh) (.inr ⟨gd_ok (Lx.start h) hg, rfl⟩) h.st.view (hK _ (h.put' (s := .v undef) hd trivial rfl))
theorem Cx.dq {s : SV} {n : Nat} {listed listed' : Array Bool} {lit : List Nat} (h : Cx N w0 F0 D w F L B ρ l a) (i : Nat) (ho : ops[i]? = some o) (hg : gd ops lit [] l o.guard = some .yes) (hck : takeOk ops listed listed' i = true) (hd : fitsB N o.dst = true)
    (hq : quiet P l (nones B.length) o = some s)
    (hK : ∀ a', Cx N w0 F0 D w F L B ρ (after l o.dst s) a' → wpAnyH P .any ops (NoPanic Q) (fun w' => F.Sub w') n listed' a' w) : wpAnyH P .any ops (NoPanic Q) (fun w' => F.Sub w') (n + 1) listed a w := by
  have key := fun w' (hv : F.Sub w') => quiet_ok (P := P) (h.at hv) hq
  refine h.dtake (s := s) i ho hg hck hd h.st.view (fun w' hv => (key w' hv).1) (key w h.st.view).2.1 (by have := (key w h.st.view).2.2; rwa [nones_length] at this) hK

/-- the one that may come up -/
theorem dseq {n : Nat} {listed listed' : Array Bool} {S : World → Prop} (i : Nat) (hr : Region.ready .any ops listed = [i]) (ho : ops[i]? = some o) (hl : listed.setIfInBounds i true = listed')
    (h : wpList P ops (Exit.then (fun a' w' => S w' ∧ wpAnyH P .any ops (NoPanic Q) S n listed' a' w') (NoPanic Q)) [o] a w) : wpAnyH P .any ops (NoPanic Q) S (n + 1) listed a w := by
  subst hl
  refine wpAnyH_all hr (by simp) fun j hj => ?_
  cases List.mem_singleton.1 hj
  unfold wpOp
  rw [ho]
  have h' : if Region.wanted o (yielded ops a.tmps) = true then o.wp P a w (fun a' w' => S w' ∧ wpAnyH P .any ops (NoPanic Q) S n (listed.setIfInBounds i true) a' w') (Exit.then (fun a' w' => S w' ∧ wpAnyH P .any ops (NoPanic Q) S n (listed.setIfInBounds i true) a' w') (NoPanic Q)) ∨
        (o.asks P a w ∧ LetsOut (Exit.then (fun a' w' => S w' ∧ wpAnyH P .any ops (NoPanic Q) S n (listed.setIfInBounds i true) a' w') (NoPanic Q)))
      else S w ∧ wpAnyH P .any ops (NoPanic Q) S n (listed.setIfInBounds i true) (a.put o.dst undef) w := h
  simp only
  split
  · rename_i hw
    rw [if_pos hw] at h'
    refine h'.imp (fun h' => ?_) id
    unfold Oper.wp at h' ⊢
    generalize (execOp a.eval o).run P w = r at h' ⊢
    cases r with
    | ok nx w' =>
      cases nx <;> simp only [Oper.upon] at h' ⊢ <;>
        first
          | exact h'
          | exact Calls.mono h' (fun e w'' he => by cases e <;> exact he)
    | halt x w' => cases x <;> simp only [Oper.upon] at h' ⊢ <;> exact h'
  · rename_i hw
    rw [if_neg hw] at h'
    exact h'
theorem dnext {n : Nat} {listed : Array Bool} {S : World → Prop} (h1 : S w) (h2 : wpAnyH P .any ops (NoPanic Q) S n listed a w) :
    wpList P ops (Exit.then (fun a' w' => S w' ∧ wpAnyH P .any ops (NoPanic Q) S n listed a' w') (NoPanic Q)) [] a w := ⟨h1, h2⟩
theorem ddone {n : Nat} {listed : Array Bool} {S : World → Prop} (hr : Region.ready .any ops listed = []) (h : Q .normal a w) : wpAnyH P .any ops (NoPanic Q) S n listed a w := wpAnyH_done hr (NoPanic.normal h) n

theorem Cx.dIdxStr {T : TypeId} {x ix : Operand} {s : Str} {k : IntKind} {m b : Int} {n : Nat} {listed listed' : Array Bool} {lit : List Nat} (h : Cx N w0 F0 D w F L B ρ l a) (i : Nat) (ho : ops[i]? = some o) (hgu : gd ops lit [] l o.guard = some .yes) (hck : takeOk ops listed listed' i = true) (hd : fitsB N o.dst = true)
    (hop : o.op = .index T x ix) (hT : P.underlying T = some .string) (hx : ov l x = some (.v (.string ⟨⟨s⟩⟩))) (hi : ov l ix = some (.v (.int k m))) (hb : getB s m = some b)
    (hK : ∀ a', Cx N w0 F0 D w F L B ρ (after l o.dst (.v (.int .u8 b))) a' → wpAnyH P .any ops (NoPanic Q) (fun w' => F.Sub w') n listed' a' w) : wpAnyH P .any ops (NoPanic Q) (fun w' => F.Sub w') (n + 1) listed a w := by
  refine h.dtake (s := .v (.int .u8 b)) i ho hgu hck hd h.st.view (fun w' hv => ?_) trivial rfl hK
  have e1 : a.eval x = .string ⟨⟨s⟩⟩ := h.eval hx
  have e2 : a.eval ix = .int k m := h.eval hi
  unfold getB at hb
  split at hb
  · rename_i h0
    obtain ⟨c, hc, rfl⟩ := Option.map_eq_some_iff.1 hb
    unfold execOp; rw [hop]
    simp only [e1, e2, Instr.index, asIntOf, Sem.run_bind, Sem.run_pure, Result.andThen_ok, run_underlying hT, h0, if_true, bytes_get, hc, SV.den, pure_bind]
  · cases hb
theorem Cx.dCutStr {T : TypeId} {x : Operand} {lo hi : Option Operand} {ol oh : Option Int} {s r : Str} {n : Nat} {listed listed' : Array Bool} {lit : List Nat} (h : Cx N w0 F0 D w F L B ρ l a) (i : Nat) (ho : ops[i]? = some o) (hgu : gd ops lit [] l o.guard = some .yes) (hck : takeOk ops listed listed' i = true) (hd : fitsB N o.dst = true)
    (hop : o.op = .slice T x lo hi none) (hT : P.underlying T = some .string) (hx : ov l x = some (.v (.string ⟨⟨s⟩⟩))) (hl : bnd l lo = some ol) (hh : bnd l hi = some oh) (hr : cutL s (ol.getD 0) (oh.getD s.length) = some r)
    (hK : ∀ a', Cx N w0 F0 D w F L B ρ (after l o.dst (.v (.string ⟨⟨r⟩⟩))) a' → wpAnyH P .any ops (NoPanic Q) (fun w' => F.Sub w') n listed' a' w) : wpAnyH P .any ops (NoPanic Q) (fun w' => F.Sub w') (n + 1) listed a w := by
  refine h.dtake (s := .v (.string ⟨⟨r⟩⟩)) i ho hgu hck hd h.st.view (fun w' hv => ?_) trivial rfl hK
  have e1 : a.eval x = .string ⟨⟨s⟩⟩ := h.eval hx
  unfold cutL at hr
  split at hr
  · rename_i hc
    cases hr
    have hb := sliceBounds_run (P := P) (b := false) (cap := s.length) (h.at hv) hl hh hc.1 hc.2.1 hc.2.2 (Nat.le_refl _)
    unfold execOp; rw [hop]
    have hsz : (⟨⟨s⟩⟩ : ByteArray).size = s.length := rfl
    simp only [Instr.sliceAt, Sem.run_bind, run_underlying hT, Result.andThen_ok, e1, Instr.slice, Option.map_none, Option.isSome_none, Bool.false_eq_true, if_false, hsz, hb, Sem.run_pure, bytes_extract, SV.den, pure_bind]
  · cases hr
theorem Cx.dIdxSl {α : Type} {d : Kind α} {T e : TypeId} {x ix : Operand} {xs : List α} {A : Option Addr} {c : Nat} {k : IntKind} {m : Int} {v : α} {n : Nat} {listed listed' : Array Bool} {lit : List Nat} (h : Cx N w0 F0 D w F L B ρ l a) (i : Nat) (ho : ops[i]? = some o) (hgu : gd ops lit [] l o.guard = some .yes) (hck : takeOk ops listed listed' i = true) (hd : fitsB N o.dst = true)
    (hop : o.op = .indexAddr T x ix) (hT : elemB P T = some e) (hs : sizeB P e = some d.sz) (hx : ov l x = some (SV.sl d xs A c)) (hi : ov l ix = some (.v (.int k m))) (hv : getI xs m = some v)
    (hK : ∀ y b off a', Cx N w0 F0 D w F L B ρ (after l o.dst (.el b off (d.f v y))) a' → wpAnyH P .any ops (NoPanic Q) (fun w' => F.Sub w') n listed' a' w) : wpAnyH P .any ops (NoPanic Q) (fun w' => F.Sub w') (n + 1) listed a w := by
  have e1 : a.eval x = .slice A xs.length c := h.eval hx
  have e2 : a.eval ix = .int k m := h.eval hi
  have hgood := (h.ogood hx).1
  obtain ⟨_, hrow⟩ : xs.length ≤ c ∧ Row F d A xs := hgood
  unfold getI at hv
  split at hv
  · rename_i h0
    have hlt := (List.getElem?_eq_some_iff.1 hv).1
    rcases hrow with hnil | ⟨b, off, rfl, hcells⟩
    · subst hnil; simp at hlt
    · obtain ⟨cs, hh, hcf⟩ := hcells _ _ hv
      obtain ⟨y, hp, hgs⟩ := d.opn hh
      refine h.dtake (s := .el b (off + m.toNat * d.sz) (d.f v y)) i ho hgu hck hd h.st.view (fun w' hv' => ?_) ⟨hgs, cs, hp, hcf⟩ (SV.unders_mono (Nat.zero_le _) (d.closed v y)) (hK y b _)
      unfold execOp; rw [hop]
      unfold elemB at hT
      cases hu : P.underlying T with
      | none => rw [hu] at hT; cases hT
      | some dd =>
        rw [hu] at hT
        cases dd with
        | slice e' =>
          cases hT
          have hin : 0 ≤ m ∧ m < (xs.length : Int) := ⟨h0, by omega⟩
          simp only [Instr.indexAt, e1, e2, asIntOf, Sem.run_bind, Sem.run_pure, Result.andThen_ok, run_underlying hu, Bool.and_false, hin, and_self, if_true, sizeB_run hs, SV.den, add_at, pure_bind]
        | _ => cases hT
  · cases hv
end
end Go.Gw

