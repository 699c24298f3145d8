/- How a row's arguments are opened as data without addresses. For any program. -/
import Derived.Test.YtglnkknalibgdaaDoorDnQ
import Derived.WalkKit
import Derived.ProofKit
import Derived.OpenShut
import Derived.Deep.DeepHandedRow
import Derived.Lib.LaidTab
import Derived.Deep.Slices
import Derived.ChangeShapes
import Derived.DataReads
import Derived.LaidSub
import Derived.MakeChecks
import Derived.Lay
import Derived.Deep.DeepWitnessRowRef
set_option linter.unusedVariables false
set_option linter.unusedSimpArgs false
set_option linter.unnecessarySimpa false
namespace Go.Dn
open Go.Gw Go.RowKit Go.Deep
open Go.ChangeShapes Go.WideShapes Go.ChangeAt
set_option linter.unusedSimpArgs false
set_option maxRecDepth 100000

def heapOf (w : World) : Heap := fun b => w.heap[b]?
theorem heapOf_sub (w : World) : (heapOf w).Sub w := ⟨fun _ _ e => e⟩
theorem cellF_of {w : World} {b off : Nat} {v : Value} (h : w.cell? ⟨b, off, none⟩ = some v) : cellF (heapOf w) b off v := by
  unfold World.cell? at h
  cases hb : w.heap[b]? with
  | none => rw [hb] at h; cases h
  | some o =>
    rw [hb] at h
    cases o <;> simp only [Option.isSome_none, Bool.false_eq_true, if_false] at h <;> try cases h
    exact ⟨_, _, _, hb, h⟩
theorem cellsF_of {w : World} {base b off n : Nat} {cs : List Value} (h : w.cells? base ⟨b, off, none⟩ n = some cs) : cellsF (heapOf w) b off cs ∧ cs.length = n := by
  obtain ⟨_, h2, h3⟩ := World.cells?_some h
  refine ⟨fun j v e => ?_, h2⟩
  have hj : j < n := by rw [← h2]; exact (List.getElem?_eq_some_iff.1 e).1
  have := h3 j hj
  rw [e, add_at] at this
  exact cellF_of this

/-- how much a datum is -/
structure IsBulk (bulk : {H : Type} → DataW H → Nat) : Prop where
  agg : ∀ {H : Type} (ds : List (DataW H)), (ds.map bulk).sum + 1 ≤ bulk (.agg ds)
  sl : ∀ {H : Type} (es sp : List (DataW H)), (es.map bulk).sum + 1 ≤ bulk (.slice es sp)
  str : ∀ {H : Type} (s : List UInt8), s.length + 1 ≤ bulk (.lit (.string s) : DataW H)
  pos : ∀ {H : Type} (d : DataW H), 0 < bulk d

section
variable {bulk : {H : Type} → DataW H → Nat}
/-- what is read as a datum of this type, in so many steps, is told by these cells -/
structure OpF (bulk : {H : Type} → DataW H → Nat) (Y : Tys) (P : Program) (w : World) {α : Type} (mk : α → List (AV Y.T)) (t : TypeId) (ok : α → Prop) (ms : α → Nat) (N : Nat) : Prop where
  opn : ∀ {H : Type} {enc : TypeId × Value → H} {base : Nat} {spare : Nat → Bool} {held : Bool} {fuel : Nat} {cs : List Value} {x : DataW H × List MemPlace},
    fuel ≤ N → DataW.trod enc P w base spare held fuel t cs = some x → ∃ a, Rels Y (heapOf w) [] (mk a) cs ∧ ok a ∧ ms a ≤ bulk x.1
variable {Y : Tys} {P : Program} {w : World} {t e : TypeId} {N : Nat}
theorem OpF.zero {α : Type} {mk : α → List (AV Y.T)} {ok : α → Prop} {ms : α → Nat} : OpF bulk Y P w mk t ok ms 0 := ⟨fun {H enc base spare held fuel cs x} hf h => by
  obtain rfl : fuel = 0 := by omega
  simp [DataW.trod] at h⟩
theorem opF_int {k : IntKind} (hB : IsBulk bulk) (ht : P.underlying t = some (.int k)) : OpF bulk Y P w (fun n => [.v (.int k n)]) t (fun n => (Lit.int k n).wf = true) (fun _ => 1) N :=
  ⟨fun _ h => by
    obtain ⟨b, rfl, rfl, hw⟩ := DataW.trod_int ht h
    exact ⟨b, Rels.cons .v Rels.nil, hw, hB.pos _⟩⟩
theorem opF_str (hB : IsBulk bulk) (ht : P.underlying t = some .string) : OpF bulk Y P w (fun s : Str => [.v (.string ⟨⟨s⟩⟩)]) t (fun s => s.length ≤ maxLen) (fun s => s.length + 1) N :=
  ⟨fun _ h => by
    obtain ⟨b, rfl, rfl, hw⟩ := DataW.trod_string ht h
    exact ⟨b.data.toList, Rels.cons .v Rels.nil, hw, hB.str _⟩⟩
theorem sum_leR : ∀ {α : Type} (xs : List α) (f : α → Nat) (ds : List Nat), xs.length = ds.length → (∀ (i : Nat) x d, xs[i]? = some x → ds[i]? = some d → f x ≤ d) → (xs.map f).sum ≤ ds.sum
  | _, [], _, [], _, _ => by simp
  | _, x :: xs, f, d :: ds, hn, h => by
    have ih := sum_leR xs f ds (by simpa using hn) (fun i y d' hy hd => h (i + 1) y d' (by simpa using hy) (by simpa using hd))
    have h0 := h 0 x d rfl rfl
    simp only [List.map_cons, List.sum_cons]
    omega
theorem opF_sl {e' : Nat} {ok : Y.T e' → Prop} {ms : Y.T e' → Nat} (hB : IsBulk bulk) (ht : P.underlying t = some (.slice e)) (hsz : P.cellsOf e = Y.sz e') (hpos : 0 < Y.sz e') (he : OpF bulk Y P w (Y.cells e') e ok ms N) :
    OpF bulk Y P w (fun xs => [.sl e' xs]) t (fun xs => ∀ x ∈ xs, ok x) (fun xs => (xs.map ms).sum + 1) (N + 1) :=
  ⟨fun {H enc base spare held fuel cs x} hf h => by
    rcases DataW.trod_slice ht h with ⟨rfl, rfl⟩ | ⟨a, len, cap, elems, rest, n, rfl, rfl, rfl, hb, hl, hm, hel, hx, _, _⟩
    · exact ⟨[], Rels.cons (.sl 0 0 (fun _ => []) (Nat.zero_le _) (fun i x hx => by simp at hx) (fun i x hx => by simp at hx) (fun i x j a u hx => by simp at hx)) Rels.nil, by simp, by have h1 := hB.pos (DataW.nil (H := H)); simp only [List.map_nil, List.sum_nil]; omega⟩
    · have key : ∀ i : Fin len, ∃ (y : Y.T e') (cs' : List Value), w.cells? base (a.add (i.val * P.cellsOf e)) (P.cellsOf e) = some cs' ∧ Rels Y (heapOf w) [] (Y.cells e' y) cs' ∧ ok y ∧ ∀ d, elems[i.val]? = some d → ms y ≤ bulk d.1 := fun i => by
        have h1 := hx i.val i.isLt
        have h2 : elems[i.val]? = some elems[i.val] := List.getElem?_eq_getElem (by rw [hel]; exact i.isLt)
        rw [h2] at h1
        obtain ⟨cs', h3, h4⟩ := Option.bind_eq_some_iff.1 h1
        obtain ⟨y, h5, h6, h7⟩ := he.opn (by omega) h4
        refine ⟨y, cs', h3, h5, h6, fun d hd => ?_⟩
        rw [h2] at hd; cases hd; exact h7
      let f : Fin len → Y.T e' := fun i => Classical.choose (key i)
      have hf' := fun i => Classical.choose_spec (key i)
      let g : Nat → List Value := fun i => if hi : i < len then Classical.choose (hf' ⟨i, hi⟩) else []
      have hg : ∀ (i : Nat) (hi : i < len), w.cells? base (a.add (i * P.cellsOf e)) (P.cellsOf e) = some (g i) ∧ Rels Y (heapOf w) [] (Y.cells e' (f ⟨i, hi⟩)) (g i) ∧ ok (f ⟨i, hi⟩) ∧ ∀ d, elems[i]? = some d → ms (f ⟨i, hi⟩) ≤ bulk d.1 := fun i hi => by
        have := Classical.choose_spec (hf' ⟨i, hi⟩)
        simp only [g, dif_pos hi]
        exact this
      have at_ : ∀ (i : Nat) (x : Y.T e'), (List.ofFn f)[i]? = some x → ∃ hi : i < len, x = f ⟨i, hi⟩ := fun i x hx => by
        obtain ⟨hi, rfl⟩ := List.getElem?_eq_some_iff.1 hx
        exact ⟨by simpa using hi, by rw [List.getElem_ofFn]⟩
      obtain ⟨b, off, spot⟩ := a
      have hs : 0 < len → spot = none := fun h0 => by
        obtain ⟨h1, _⟩ := hg 0 h0
        obtain ⟨_, h3, h4⟩ := World.cells?_some h1
        rw [hsz] at h4 h3
        have := h4 0 hpos
        simp only [Nat.zero_mul] at this
        have e1 : ((⟨b, off, spot⟩ : Addr).add 0).add 0 = ⟨b, off, spot⟩ := by simp [Addr.add]
        rw [e1] at this
        have h5 : (g 0)[0]? = some ((g 0)[0]'(by rw [h3]; exact hpos)) := List.getElem?_eq_getElem _
        rw [h5] at this
        unfold World.cell? at this
        cases hb : w.heap[b]? with
        | none => simp only [hb] at this; cases this
        | some o =>
          cases o <;> simp only [hb] at this <;> try cases this
          cases spot with
          | none => rfl
          | some q => simp at this
      refine ⟨List.ofFn f, Rels.cons ?_ Rels.nil, ?_, ?_⟩
      · have hlen : (List.ofFn f).length = len := by simp
        rw [show (Value.slice (some ⟨b, off, spot⟩) len cap) = Value.slice (some ⟨b, off, spot⟩) (List.ofFn f).length cap by rw [hlen]]
        refine .sl b off g (by omega) (fun i x hx => ?_) (fun i x hx => ?_) (fun i x j a u hx ha hu => ?_)
        · obtain ⟨hi, rfl⟩ := at_ i x hx
          rw [hs (by omega)]
        · obtain ⟨hi, rfl⟩ := at_ i x hx
          obtain ⟨h1, _⟩ := hg i hi
          rw [hs (by omega), hsz, add_at] at h1
          exact ⟨(cellsF_of h1).2, (cellsF_of h1).1⟩
        · obtain ⟨hi, rfl⟩ := at_ i x hx
          exact (hg i hi).2.1.2 j a u ha hu
      · intro y hy
        obtain ⟨i, rfl⟩ := List.mem_ofFn.1 hy
        exact (hg i.val i.isLt).2.2.1
      · have := sum_leR (List.ofFn f) ms ((elems.map (·.1)).map bulk) (by simp [hel]) (fun i y d hy hd => by
          obtain ⟨hi, rfl⟩ := at_ i y hy
          rw [List.getElem?_map, List.getElem?_map] at hd
          cases he2 : elems[i]? with
          | none => rw [he2] at hd; cases hd
          | some q =>
            rw [he2] at hd; cases hd
            exact (hg i hi).2.2.2 q he2)
        have h2 := hB.sl (elems.map (·.1)) (rest.map (·.1))
        show _ ≤ bulk (DataW.slice (elems.map (·.1)) (rest.map (·.1)))
        omega⟩
end
theorem trodAll_below {H : Type} {enc : TypeId × Value → H} {P : Program} {W W' : World} {base : Nat} {spare : Nat → Bool} {held : Bool} (hb : Below W.heap.size W W') : ∀ {ts : List TypeId} {vs : List Value} {ds : List (DataW H)} {ps : List MemPlace},
    DataW.TrodAll enc P W base spare held ts vs ds ps → DataW.TrodAll enc P W' base spare held ts vs ds ps
  | [], [], [], _, h => h
  | _ :: _, _ :: _, _ :: _, _, ⟨p, q, ⟨n, h1⟩, h2, e⟩ => ⟨p, q, ⟨n, DataW.trod_carry n _ _ _ h1 fun x hx => hb.same (DataW.trod_lt n _ _ _ h1 x hx)⟩, trodAll_below hb h2, e⟩
theorem post_of_below {H : Type} {enc : TypeId × Value → H} {P : Program} {f : Func} {s : ChangeSpec} {apart fresh handsOn again : Bool} {W W' : World} {args : Array Value} {v : Value} {ds gs : List (DataW H)} {before pa pv : List MemPlace}
    (hW : DataW.Whole enc P f.params.toList s.vars apart W args.toList ds gs before)
    (hres : ∀ (b : Nat) (sp : Nat → Bool) (hd : Bool), DataW.TrodAll enc P W' b sp hd f.resultTypes.toList (v.resultList f.resultTypes.size) (s.fn H (ds ++ gs)).results [])
    (hargs : ∀ sp : Nat → Bool, (∀ p ∈ before, sp p.block = true) → DataW.TrodAll enc P W' 0 sp true f.params.toList args.toList (s.fn H (ds ++ gs)).args pa)
    (hvars : ∀ sp : Nat → Bool, (∀ p ∈ before, sp p.block = true) → DataW.TrodVars enc P W' sp s.vars (s.fn H (ds ++ gs)).vars pv)
    (hps : before = pa ++ pv) (hb : Below W.heap.size W W')
    (hok : ∀ (j : Nat) (t : TypeId) (r : Value), f.resultTypes[j]? = some t → (v.resultList f.resultTypes.size)[j]? = some r → Value.okWide P W' .any 0 t r) :
    s.post enc P f apart fresh handsOn again W args v W' := by
  have hlt := hW.lt
  have hold : ∀ p ∈ before, (fun b => decide (b < W.heap.size)) p.block = true := fun p hp => by simpa using hlt p hp
  refine ⟨ds, gs, before, [], pa, pv, hW, hres _ _ _, hargs _ hold, hvars _ hold, World.keptBut_mono (fun p hp => ⟨hp, ?_⟩) (hb.frame (· ∈ before)), fun _ => ?_⟩
  · rw [hps, List.mem_append] at hp
    exact Or.inr hp
  · obtain ⟨_, _, _, _, _, hz, hn⟩ := hW
    refine ⟨hok, _, _, ([] ++ pa) ++ pv, ⟨[] ++ pa, pv, trodAll_append (hargs _ (fun _ _ => rfl)) (hres _ _ _), hvars _ (fun _ _ => rfl), rfl, ?_, ?_⟩, ?_⟩
    · intro b off hp
      have hp' : MemPlace.cell b off ∈ before := by rw [hps]; simpa using hp
      rw [hb.frozen (p := ⟨b, off, none⟩) (hlt _ hp')]
      exact hz b off hp'
    · intro ha
      have := hn ha
      rw [hps] at this
      simpa using this
    · intro p hp _
      rw [hps]
      simpa using hp

def saysTrue {T : Nat → Type} : Out T → List (Mem T) → Option Unit
  | .ret (.v (.bool true)), _ => some ()
  | _, _ => Option.none
/-- a law that answers true, as a call -/
theorem COk.holds {Y : Tys} {hY : TysOk Y} {P : Program} {G : Heap → Prop} {f : FuncId} {C : Callee Y} (h : COk hY P G f C) {args : List (AV Y.T)}
    (hr : C.run args [] saysTrue = some ()) {W : World} (hG : G (heapOf W)) {vals : List Value} (hv : Rels Y (heapOf W) [] args vals) :
    Calls P f vals.toArray W fun e W' => e = .returned (.bool true) ∧ Below W.heap.size W W' := by
  have h1 := h.2 args [] () _ hr W (heapOf W) [] [] vals No hG hv rfl rfl (fun k x p o hx => by simp at hx) (St.start (heapOf_sub W))
  refine h1.mono fun e W' h2 => ?_
  obtain ⟨res, F', ρ', os', ms', hp, hrel, _, _, _, hst, _⟩ := h2
  refine ⟨?_, hst.below⟩
  cases hrel with
  | pan _ => cases hp
  | ret hx =>
    rename_i x u
    have key : ∀ (o : Out Y.T) (m : List (Mem Y.T)), saysTrue o m = some () → o = .ret (.v (.bool Bool.true)) := by
      intro o m
      unfold saysTrue
      split
      · intro _; rfl
      · intro e; cases e
    cases key _ _ hp
    rw [hx.v_inv]
/-- a table of integers that is listed as laid, in every world that holds this heap -/
theorem tab_of {P : Program} {W : World} {l : List (String × DataW Unit)} {name : String} {k : IntKind} {zs : List Int} {g : Nat} {t e : TypeId} {n : Nat} (hL : laidMetH P l W) (hall : (l.all fun x => x.2.handleName?.isNone) = true)
    (hf : (l.filter fun x => x.1 == name) = [(name, Lib.tabData k zs)]) (hg : P.globalNamed name = some g) (hty : (P.globals[g]?).map (·.type) = some t) (ht : P.underlying t = some (.array n e)) (he : P.underlying e = some (.int k)) (hce : P.cellsOf e = 1) (hct : P.cellsOf t = n) (w : World) (hs : (heapOf W).Sub w) :
    Lib.TabIs P w name k zs := by
  rw [Go.MakeChecks.laidMetH_plain P l W hall] at hL
  have h := hL.filter (fun x => x.1 == name)
  rw [hf] at h
  have h2 := Lib.tabIs_of_head hg hty ht he hce hct h
  unfold Lib.TabIs World.var? at h2 ⊢
  rw [hg] at h2 ⊢
  simp only [Option.bind_some] at h2 ⊢
  cases hb : W.heap[g]? with
  | none => rw [hb] at h2; cases h2
  | some o =>
    rw [hb] at h2
    rw [show w.heap[g]? = some o from hs.out g o hb]
    exact h2
end Go.Dn

