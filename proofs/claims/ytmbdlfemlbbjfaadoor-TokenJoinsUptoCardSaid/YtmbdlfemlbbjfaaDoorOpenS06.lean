/- How a row's arguments are opened as data. -/
import Derived.Test.YtmbdlfemlbbjfaaDoorGwL
import Derived.Test.YtmbdlfemlbbjfaaDoorGwK
import Derived.Test.YtmbdlfemlbbjfaaDoorRows
import Derived.Test.YtmbdlfemlbbjfaaDoorCards
import Derived.Test.YtmbdlfemlbbjfaaDoorTie
import Derived.WalkKit
import Derived.ProofKit
import Derived.OpenShut
import Derived.Deep.DeepHandedRow
import Derived.Lib.LaidTab
import Derived.Deep.Slices
import Derived.ChangeShapes
import Derived.DataReads
import Derived.LaidSub
import Derived.MakeChecks
import Derived.Lay
import Derived.Deep.DeepWitnessRowRef
set_option linter.unusedVariables false
set_option linter.unusedSimpArgs false
set_option linter.unnecessarySimpa false
namespace Go.Gw
open Go.Proofs Go.RowKit Go.Deep
open Go.ChangeShapes Go.WideShapes Go.ChangeAt
open Go.Proofs.YtmbdlfemlbbjfaaDoor.Rows (uptoBulk uptoBulkAll)
set_option linter.unusedSimpArgs false
set_option maxRecDepth 100000

def heapOf (w : World) : Heap := fun b => w.heap[b]?
theorem heapOf_sub (w : World) : (heapOf w).Sub w := ⟨fun _ _ e => e⟩
theorem cellF_of {w : World} {b off : Nat} {v : Value} (h : w.cell? ⟨b, off, none⟩ = some v) : cellF (heapOf w) b off v := by
  unfold World.cell? at h
  cases hb : w.heap[b]? with
  | none => rw [hb] at h; cases h
  | some o =>
    rw [hb] at h
    cases o <;> simp only [Option.isSome_none, Bool.false_eq_true, if_false] at h <;> try cases h
    exact ⟨_, _, _, hb, h⟩
theorem cellsF_of {w : World} {base b off n : Nat} {cs : List Value} (h : w.cells? base ⟨b, off, none⟩ n = some cs) : cellsF (heapOf w) b off cs ∧ cs.length = n := by
  obtain ⟨_, h2, h3⟩ := World.cells?_some h
  refine ⟨fun j v e => ?_, h2⟩
  have hj : j < n := by rw [← h2]; exact (List.getElem?_eq_some_iff.1 e).1
  have := h3 j hj
  rw [e, add_at] at this
  exact cellF_of this

/-- whatever is read as a datum of this type is of this kind -/
structure Opens (P : Program) (w : World) {α : Type} (d : Kind α) (t : TypeId) (ok : α → Prop) (ms : α → Nat) : Prop where
  sz : P.cellsOf t = d.sz
  opn : ∀ {H : Type} {enc : TypeId × Value → H} {base : Nat} {spare : Nat → Bool} {held : Bool} {fuel : Nat} {cs : List Value} {x : DataW H × List MemPlace},
    DataW.trod enc P w base spare held fuel t cs = some x → ∃ a, d.holds (heapOf w) a cs ∧ ok a ∧ ms a ≤ uptoBulk x.1

section
variable {P : Program} {w : World} {t e : TypeId}
theorem opens_str (ht : P.underlying t = some .string) (hc : P.cellsOf t = 1) : Opens P w kStr t (fun s => s.length ≤ maxLen) (fun s => s.length + 1) :=
  ⟨hc, fun h => by
    obtain ⟨b, rfl, rfl, hw⟩ := DataW.trod_string ht h
    exact ⟨b.data.toList, rfl, hw, by simp [uptoBulk]⟩⟩
end
theorem trodAll_below {H : Type} {enc : TypeId × Value → H} {P : Program} {W W' : World} {base : Nat} {spare : Nat → Bool} {held : Bool} (hb : Below W.heap.size W W') : ∀ {ts : List TypeId} {vs : List Value} {ds : List (DataW H)} {ps : List MemPlace},
    DataW.TrodAll enc P W base spare held ts vs ds ps → DataW.TrodAll enc P W' base spare held ts vs ds ps
  | [], [], [], _, h => h
  | _ :: _, _ :: _, _ :: _, _, ⟨p, q, ⟨n, h1⟩, h2, e⟩ => ⟨p, q, ⟨n, DataW.trod_carry n _ _ _ h1 fun x hx => hb.same (DataW.trod_lt n _ _ _ h1 x hx)⟩, trodAll_below hb h2, e⟩
theorem post_of_below {H : Type} {enc : TypeId × Value → H} {P : Program} {f : Func} {s : ChangeSpec} {apart fresh handsOn again : Bool} {W W' : World} {args : Array Value} {v : Value} {ds gs : List (DataW H)} {before pa pv : List MemPlace}
    (hW : DataW.Whole enc P f.params.toList s.vars apart W args.toList ds gs before)
    (hres : ∀ (b : Nat) (sp : Nat → Bool) (hd : Bool), DataW.TrodAll enc P W' b sp hd f.resultTypes.toList (v.resultList f.resultTypes.size) (s.fn H (ds ++ gs)).results [])
    (hargs : ∀ sp : Nat → Bool, (∀ p ∈ before, sp p.block = true) → DataW.TrodAll enc P W' 0 sp true f.params.toList args.toList (s.fn H (ds ++ gs)).args pa)
    (hvars : ∀ sp : Nat → Bool, (∀ p ∈ before, sp p.block = true) → DataW.TrodVars enc P W' sp s.vars (s.fn H (ds ++ gs)).vars pv)
    (hps : before = pa ++ pv) (hb : Below W.heap.size W W')
    (hok : ∀ (j : Nat) (t : TypeId) (r : Value), f.resultTypes[j]? = some t → (v.resultList f.resultTypes.size)[j]? = some r → Value.okWide P W' .any 0 t r) :
    s.post enc P f apart fresh handsOn again W args v W' := by
  have hlt := hW.lt
  have hold : ∀ p ∈ before, (fun b => decide (b < W.heap.size)) p.block = true := fun p hp => by simpa using hlt p hp
  refine ⟨ds, gs, before, [], pa, pv, hW, hres _ _ _, hargs _ hold, hvars _ hold, World.keptBut_mono (fun p hp => ⟨hp, ?_⟩) (hb.frame (· ∈ before)), fun _ => ?_⟩
  · rw [hps, List.mem_append] at hp
    exact Or.inr hp
  · obtain ⟨_, _, _, _, _, hz, hn⟩ := hW
    refine ⟨hok, _, _, ([] ++ pa) ++ pv, ⟨[] ++ pa, pv, trodAll_append (hargs _ (fun _ _ => rfl)) (hres _ _ _), hvars _ (fun _ _ => rfl), rfl, ?_, ?_⟩, ?_⟩
    · intro b off hp
      have hp' : MemPlace.cell b off ∈ before := by rw [hps]; simpa using hp
      rw [hb.frozen (p := ⟨b, off, none⟩) (hlt _ hp')]
      exact hz b off hp'
    · intro ha
      have := hn ha
      rw [hps] at this
      simpa using this
    · intro p hp _
      rw [hps]
      simpa using hp
theorem kids : Kids Tryd.prog (· < Tryd.prog.types.size) := kids_rows (by kernel_rfl) (by kernel_rfl)
theorem full : ∀ t e, t < Tryd.prog.types.size → Tryd.prog.underlying t = some (.slice e) → 0 < Tryd.prog.cellsOf e := slices_full_of Tryd.prog (by kernel_rfl)

/-- a text that is handed in -/
theorem open_Str {H : Type} {enc : TypeId × Value → H} {W : World} {base b0 : Nat} {v : Value} {d : DataW H} {ps : List MemPlace} (hval : Value.okWide Tryd.prog W .any b0 9 v) (h : DataW.Trod enc Tryd.prog W base (fun _ => true) true 9 v d ps) :
    ∃ s : Str, v = .string ⟨⟨s⟩⟩ ∧ s.length + 1 ≤ uptoBulk d := by
  obtain ⟨n, hn⟩ := h
  obtain ⟨s, e, _, m⟩ := (opens_str (P := Tryd.prog) (w := W) Tryd.underlying9 (by kernel_rfl)).opn hn
  obtain ⟨s', rfl⟩ := okWide_string Tryd.underlying9 hval
  have e' : [Value.string s'] = [Value.string ⟨⟨s⟩⟩] := e
  cases e'
  exact ⟨s, rfl, m⟩
end Go.Gw
