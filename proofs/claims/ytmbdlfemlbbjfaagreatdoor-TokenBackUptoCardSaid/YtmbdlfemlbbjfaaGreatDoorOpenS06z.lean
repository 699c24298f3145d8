/- How a row's arguments are opened as data. -/
import Derived.Test.YtmbdlfemlbbjfaaGreatDoorGwL
import Derived.Test.YtmbdlfemlbbjfaaGreatDoorGwK
import Derived.Test.YtmbdlfemlbbjfaaGreatDoorRows
import Derived.Test.YtmbdlfemlbbjfaaGreatDoorCards
import Derived.Test.YtmbdlfemlbbjfaaGreatDoorTie
import Derived.WalkKit
import Derived.ProofKit
import Derived.OpenShut
import Derived.Deep.DeepHandedRow
import Derived.Lib.LaidTab
import Derived.Deep.Slices
import Derived.ChangeShapes
import Derived.DataReads
import Derived.LaidSub
import Derived.MakeChecks
import Derived.Lay
import Derived.Deep.DeepWitnessRowRef
set_option linter.unusedVariables false
set_option linter.unusedSimpArgs false
set_option linter.unnecessarySimpa false
namespace Go.Gw
open Go.Proofs Go.RowKit Go.Deep
open Go.ChangeShapes Go.WideShapes Go.ChangeAt
open Go.Proofs.YtmbdlfemlbbjfaaGreatDoor.Rows (uptoBulk uptoBulkAll)
set_option linter.unusedSimpArgs false
set_option maxRecDepth 100000

def heapOf (w : World) : Heap := fun b => w.heap[b]?
theorem heapOf_sub (w : World) : (heapOf w).Sub w := ⟨fun _ _ e => e⟩
theorem cellF_of {w : World} {b off : Nat} {v : Value} (h : w.cell? ⟨b, off, none⟩ = some v) : cellF (heapOf w) b off v := by
  unfold World.cell? at h
  cases hb : w.heap[b]? with
  | none => rw [hb] at h; cases h
  | some o =>
    rw [hb] at h
    cases o <;> simp only [Option.isSome_none, Bool.false_eq_true, if_false] at h <;> try cases h
    exact ⟨_, _, _, hb, h⟩
theorem cellsF_of {w : World} {base b off n : Nat} {cs : List Value} (h : w.cells? base ⟨b, off, none⟩ n = some cs) : cellsF (heapOf w) b off cs ∧ cs.length = n := by
  obtain ⟨_, h2, h3⟩ := World.cells?_some h
  refine ⟨fun j v e => ?_, h2⟩
  have hj : j < n := by rw [← h2]; exact (List.getElem?_eq_some_iff.1 e).1
  have := h3 j hj
  rw [e, add_at] at this
  exact cellF_of this

/-- whatever is read as a datum of this type is of this kind -/
structure Opens (P : Program) (w : World) {α : Type} (d : Kind α) (t : TypeId) (ok : α → Prop) (ms : α → Nat) : Prop where
  sz : P.cellsOf t = d.sz
  opn : ∀ {H : Type} {enc : TypeId × Value → H} {base : Nat} {spare : Nat → Bool} {held : Bool} {fuel : Nat} {cs : List Value} {x : DataW H × List MemPlace},
    DataW.trod enc P w base spare held fuel t cs = some x → ∃ a, d.holds (heapOf w) a cs ∧ ok a ∧ ms a ≤ uptoBulk x.1

section
variable {P : Program} {w : World} {t e : TypeId}
theorem opens_bool (ht : P.underlying t = some .bool) (hc : P.cellsOf t = 1) : Opens P w kBool t (fun _ => True) (fun _ => 1) :=
  ⟨hc, fun h => by
    obtain ⟨b, rfl, rfl⟩ := DataW.trod_bool ht h
    exact ⟨b, rfl, trivial, by simp [uptoBulk]⟩⟩
theorem opens_int {k : IntKind} (ht : P.underlying t = some (.int k)) (hc : P.cellsOf t = 1) : Opens P w (kInt k) t (fun n => (Lit.int k n).wf = true) (fun _ => 1) :=
  ⟨hc, fun h => by
    obtain ⟨b, rfl, rfl, hw⟩ := DataW.trod_int ht h
    exact ⟨b, rfl, hw, by simp [uptoBulk]⟩⟩
theorem opens_str (ht : P.underlying t = some .string) (hc : P.cellsOf t = 1) : Opens P w kStr t (fun s => s.length ≤ maxLen) (fun s => s.length + 1) :=
  ⟨hc, fun h => by
    obtain ⟨b, rfl, rfl, hw⟩ := DataW.trod_string ht h
    exact ⟨b.data.toList, rfl, hw, by simp [uptoBulk]⟩⟩
theorem bulkAll_sum {H : Type} : ∀ l : List (DataW H), uptoBulkAll l = (l.map uptoBulk).sum
  | [] => by simp [uptoBulkAll]
  | d :: l => by simp [uptoBulkAll, bulkAll_sum l]
theorem sum_le : ∀ {α : Type} (xs : List α) (f : α → Nat) (n : Nat) (g : Nat → Nat), xs.length = n → (∀ i x, xs[i]? = some x → f x ≤ g i) → (xs.map f).sum ≤ ((List.range n).map g).sum
  | _, [], _, 0, _, _, _ => by simp
  | _, x :: xs, f, n + 1, g, hn, h => by
    have ih := sum_le xs f n (fun i => g (i + 1)) (by simpa using hn) (fun i y hy => h (i + 1) y (by simpa using hy))
    rw [List.range_succ_eq_map]
    have h0 := h 0 x rfl
    simp only [List.map_cons, List.sum_cons, List.map_map]
    have : ((List.range n).map (g ∘ Nat.succ)).sum = ((List.range n).map fun i => g (i + 1)).sum := rfl
    omega
theorem opens_sl {α : Type} {d : Kind α} {ok : α → Prop} {ms : α → Nat} (ht : P.underlying t = some (.slice e)) (hc : P.cellsOf t = 1) (he : Opens P w d e ok ms) (hp : 0 < d.sz) : Opens P w (kSl d) t (fun xs => ∀ x ∈ xs, ok x) (fun xs => (xs.map ms).sum + 1) :=
  ⟨hc, fun {H enc base spare held fuel cs x} h => by
    rcases open_slice ht h with ⟨rfl, rfl⟩ | ⟨a, len, cap, m, n, D, Pl, rfl, hb, hl, hm, hmm, rfl, hx⟩
    · exact ⟨[], ⟨none, 0, rfl, Nat.le_refl _, .inl rfl⟩, by simp, by simp [uptoBulk]⟩
    · have hml : len ≤ m := by rw [hmm]; split <;> omega
      have key : ∀ i : Fin len, ∃ y : α, (∃ cs', w.cells? base (a.add (i.val * P.cellsOf e)) (P.cellsOf e) = some cs' ∧ d.holds (heapOf w) y cs') ∧ ok y ∧ ms y ≤ uptoBulk (D i.val) := fun i => by
        obtain ⟨cs', h1, h2⟩ := hx i.val (by have := i.isLt; omega)
        obtain ⟨y, h3, h4, h5⟩ := he.opn h2
        exact ⟨y, ⟨cs', h1, h3⟩, h4, h5⟩
      let f : Fin len → α := fun i => Classical.choose (key i)
      have hf := fun i => Classical.choose_spec (key i)
      refine ⟨List.ofFn f, ?_, ?_, ?_⟩
      · refine ⟨some a, cap, by simp, by simpa using hl, ?_⟩
        by_cases h0 : len = 0
        · left; subst h0; simp
        · right
          obtain ⟨b, off, spot⟩ := a
          have hs : spot = none := by
            obtain ⟨⟨cs', h1, _⟩, _⟩ := hf ⟨0, by omega⟩
            obtain ⟨_, h3, h4⟩ := World.cells?_some h1
            rw [he.sz] at h4
            have := h4 0 hp
            simp only [Nat.zero_mul] at this
            have e1 : ((⟨b, off, spot⟩ : Addr).add 0).add 0 = ⟨b, off, spot⟩ := by simp [Addr.add]
            rw [e1] at this
            have h5 : cs'[0]? = some (cs'[0]'(by rw [h3, he.sz]; exact hp)) := List.getElem?_eq_getElem _
            rw [h5] at this
            unfold World.cell? at this
            cases hb : w.heap[b]? with
            | none => simp only [hb] at this; cases this
            | some o =>
              cases o <;> simp only [hb] at this <;> try cases this
              cases spot with
              | none => rfl
              | some q => simp at this
          subst hs
          refine ⟨b, off, rfl, fun i y hy => ?_⟩
          obtain ⟨hi, rfl⟩ := List.getElem?_eq_some_iff.1 hy
          have hi' : i < len := by simpa using hi
          rw [List.getElem_ofFn]
          obtain ⟨⟨cs', h1, h2⟩, _⟩ := hf ⟨i, hi'⟩
          rw [he.sz, add_at] at h1
          exact ⟨cs', h2, (cellsF_of h1).1⟩
      · intro y hy
        obtain ⟨i, rfl⟩ := List.mem_ofFn.1 hy
        exact (hf i).2.1
      · have := sum_le (List.ofFn f) ms len (fun i => uptoBulk (D i)) (by simp) (fun i y hy => by
          obtain ⟨hi, rfl⟩ := List.getElem?_eq_some_iff.1 hy
          rw [List.getElem_ofFn]
          exact (hf ⟨i, by simpa using hi⟩).2.2)
        simp only [uptoBulk, bulkAll_sum, List.map_map]
        have e2 : ((List.range len).map (uptoBulk ∘ D)).sum = ((List.range len).map fun i => uptoBulk (D i)).sum := rfl
        omega⟩
end
theorem trodAll_below {H : Type} {enc : TypeId × Value → H} {P : Program} {W W' : World} {base : Nat} {spare : Nat → Bool} {held : Bool} (hb : Below W.heap.size W W') : ∀ {ts : List TypeId} {vs : List Value} {ds : List (DataW H)} {ps : List MemPlace},
    DataW.TrodAll enc P W base spare held ts vs ds ps → DataW.TrodAll enc P W' base spare held ts vs ds ps
  | [], [], [], _, h => h
  | _ :: _, _ :: _, _ :: _, _, ⟨p, q, ⟨n, h1⟩, h2, e⟩ => ⟨p, q, ⟨n, DataW.trod_carry n _ _ _ h1 fun x hx => hb.same (DataW.trod_lt n _ _ _ h1 x hx)⟩, trodAll_below hb h2, e⟩
theorem post_of_below {H : Type} {enc : TypeId × Value → H} {P : Program} {f : Func} {s : ChangeSpec} {apart fresh handsOn again : Bool} {W W' : World} {args : Array Value} {v : Value} {ds gs : List (DataW H)} {before pa pv : List MemPlace}
    (hW : DataW.Whole enc P f.params.toList s.vars apart W args.toList ds gs before)
    (hres : ∀ (b : Nat) (sp : Nat → Bool) (hd : Bool), DataW.TrodAll enc P W' b sp hd f.resultTypes.toList (v.resultList f.resultTypes.size) (s.fn H (ds ++ gs)).results [])
    (hargs : ∀ sp : Nat → Bool, (∀ p ∈ before, sp p.block = true) → DataW.TrodAll enc P W' 0 sp true f.params.toList args.toList (s.fn H (ds ++ gs)).args pa)
    (hvars : ∀ sp : Nat → Bool, (∀ p ∈ before, sp p.block = true) → DataW.TrodVars enc P W' sp s.vars (s.fn H (ds ++ gs)).vars pv)
    (hps : before = pa ++ pv) (hb : Below W.heap.size W W')
    (hok : ∀ (j : Nat) (t : TypeId) (r : Value), f.resultTypes[j]? = some t → (v.resultList f.resultTypes.size)[j]? = some r → Value.okWide P W' .any 0 t r) :
    s.post enc P f apart fresh handsOn again W args v W' := by
  have hlt := hW.lt
  have hold : ∀ p ∈ before, (fun b => decide (b < W.heap.size)) p.block = true := fun p hp => by simpa using hlt p hp
  refine ⟨ds, gs, before, [], pa, pv, hW, hres _ _ _, hargs _ hold, hvars _ hold, World.keptBut_mono (fun p hp => ⟨hp, ?_⟩) (hb.frame (· ∈ before)), fun _ => ?_⟩
  · rw [hps, List.mem_append] at hp
    exact Or.inr hp
  · obtain ⟨_, _, _, _, _, hz, hn⟩ := hW
    refine ⟨hok, _, _, ([] ++ pa) ++ pv, ⟨[] ++ pa, pv, trodAll_append (hargs _ (fun _ _ => rfl)) (hres _ _ _), hvars _ (fun _ _ => rfl), rfl, ?_, ?_⟩, ?_⟩
    · intro b off hp
      have hp' : MemPlace.cell b off ∈ before := by rw [hps]; simpa using hp
      rw [hb.frozen (p := ⟨b, off, none⟩) (hlt _ hp')]
      exact hz b off hp'
    · intro ha
      have := hn ha
      rw [hps] at this
      simpa using this
    · intro p hp _
      rw [hps]
      simpa using hp
theorem kids : Kids Tryz.prog (· < Tryz.prog.types.size) := kids_rows (by kernel_rfl) (by kernel_rfl)
theorem full : ∀ t e, t < Tryz.prog.types.size → Tryz.prog.underlying t = some (.slice e) → 0 < Tryz.prog.cellsOf e := slices_full_of Tryz.prog (by kernel_rfl)

end Go.Gw

