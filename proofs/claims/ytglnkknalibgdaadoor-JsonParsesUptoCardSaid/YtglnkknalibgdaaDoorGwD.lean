/- The reckoning of GwC is right. For any program. -/
import Derived.Test.YtglnkknalibgdaaDoorGwC
import Derived.Laws.StructEq
set_option linter.unusedVariables false
set_option linter.unusedSimpArgs false
set_option linter.unnecessarySimpa false
namespace Go.Gw
open Go.RowKit
set_option linter.unusedSimpArgs false

theorem bif_some {α : Type} {c : Bool} {x y : α} (h : (bif c then some x else none) = some y) : c = true ∧ x = y := by
  cases c
  · simp at h
  · simp at h; exact ⟨rfl, h⟩

section
variable {P : Program} {N : Nat} {w0 : World} {F0 : Heap} {D : Own} {w : World} {F : Heap} {L : List SP} {B B' : List (Option Box)} {ρ : Nat → Nat} {l : Env} {a : Act} {o : Oper}

def Yields (P : Program) (o : Oper) (a : Act) (w : World) (ρ' : Nat → Nat) (w' : World) : Option SV → Prop
  | some s => (execOp a.eval o).run P w = .ok (.value (s.den ρ')) w'
  | none => (execOp a.eval o).run P w = .ok .skip w'
def Fine (F : Heap) (n : Nat) : Option SV → Prop
  | some s => s.good F ∧ s.under n = true
  | none => True

theorem newVar_run (t : TypeId) (v : Value) (w : World) : (newVar t v).run P w = .ok ⟨w.heap.size, 0, none⟩ (w.alloc (.cells v.cells t (0, 0))) := rfl
theorem newRow_run (t : TypeId) (cs : Array Value) (w : World) : (newRow t cs).run P w = .ok ⟨w.heap.size, 0, none⟩ (w.alloc (.cells cs t (0, 0))) := rfl
theorem zeroValue_run {t : TypeId} {i : TypeInfo} {z : Value} (hi : P.info? t = some i) (hz : i.zero = some z) (w : World) : (zeroValue t).run P w = .ok z w := by
  simp [zeroValue, typeInfo, hi, hz]
theorem isRowB_run {t : TypeId} {b : Bool} (h : isRowB P t = some b) (w : World) : (isAgg t).run P w = .ok b w := by
  unfold isRowB at h
  cases hu : P.underlying t with
  | none => rw [hu] at h; cases h
  | some d =>
    rw [hu] at h
    unfold isAgg
    rw [Sem.run_bind, run_underlying hu w]
    cases d <;> simp_all
theorem sizeB_run {t : TypeId} {n : Nat} (h : sizeB P t = some n) (w : World) : (sizeOf t).run P w = .ok n w := by
  unfold sizeB at h
  cases hi : P.info? t with
  | none => rw [hi] at h; cases h
  | some i => rw [hi] at h; cases h; simp [sizeOf, typeInfo, hi]

theorem add_at (b o j : Nat) : (⟨b, o, none⟩ : Addr).add j = ⟨b, o + j, none⟩ := by unfold Addr.add; split <;> simp_all

theorem setCells_os (b : Nat) : ∀ (vs : List Value) (o : Nat) (w : World), (w.setCells b o vs).os = w.os ∧ (w.setCells b o vs).tape = w.tape ∧ (w.setCells b o vs).output = w.output ∧ (w.setCells b o vs).heap.size = w.heap.size ∧ ∀ x, x ≠ b → (w.setCells b o vs).heap[x]? = w.heap[x]?
  | [], _, _ => ⟨rfl, rfl, rfl, rfl, fun _ _ => rfl⟩
  | v :: r, o, w => by
    obtain ⟨h1, h2, h3, h4, h5⟩ := setCells_os b r (o + 1) (w.setCell ⟨b, o, none⟩ v)
    exact ⟨h1, h2, h3, h4.trans (setCell_size _ _ _), fun x hx => (h5 x hx).trans (Below.heap_setCell w ⟨b, o, none⟩ v x hx)⟩
theorem setCells_block (b : Nat) {t : TypeId} : ∀ (vs : List Value) (o : Nat) (w : World) (c : Array Value), w.heap[b]? = some (.cells c t (0, 0)) → o + vs.length ≤ c.size →
    (w.setCells b o vs).heap[b]? = some (.cells (c.toList.take o ++ (vs ++ c.toList.drop (o + vs.length))).toArray t (0, 0))
  | [], o, w, c, h, hl => by simp [World.setCells, h, List.take_append_drop]
  | v :: r, o, w, c, h, hl => by
    simp only [List.length_cons] at hl
    have h1 := setCell_same w b o v h
    have h2 := setCells_block b r (o + 1) (w.setCell ⟨b, o, none⟩ v) (c.setIfInBounds o v) h1 (by simp; omega)
    show (World.setCells (w.setCell ⟨b, o, none⟩ v) b (o + 1) r).heap[b]? = _
    rw [h2]
    congr 3
    apply List.ext_getElem?
    intro i
    simp only [List.getElem?_append, List.getElem?_take, List.getElem?_drop, List.length_take, List.length_cons, Array.toList_setIfInBounds, List.getElem?_set, List.length_set, Array.length_toList, List.length_drop]
    have hlen : c.toList.length = c.size := Array.length_toList
    by_cases h0 : i < o
    · have e1 : i < o + 1 := by omega
      have e2 : o ≠ i := by omega
      have e3 : i < min (o + 1) c.size := by omega
      have e4 : i < min o c.size := by omega
      simp [e1, e2, e3, e4, h0]
    · by_cases h1 : i = o
      · subst h1
        have e1 : i < min (i + 1) c.size := by omega
        have e2 : ¬ i < min i c.size := by omega
        have e3 : min i c.size = i := by omega
        have e4 : i < c.size := by omega
        simp [e1, e2, e3, e4]
      · have e1 : ¬ i < min (o + 1) c.size := by omega
        have e2 : ¬ i < min o c.size := by omega
        have e3 : min (o + 1) c.size = o + 1 := by omega
        have e4 : min o c.size = o := by omega
        simp only [e1, e2, e3, e4, if_false]
        obtain ⟨j, rfl⟩ : ∃ j, i = o + 1 + j := ⟨i - (o + 1), by omega⟩
        have e5 : o + 1 + j - (o + 1) = j := by omega
        have e6 : o + 1 + j - o = j + 1 := by omega
        rw [e5, e6]
        have f1 : ¬ o + 1 + j < o + 1 := by omega
        have f2 : ¬ o + 1 + j < o := by omega
        by_cases h2 : j < r.length
        · simp [h2, f1, f2]
        · have e8 : o ≠ o + (r.length + 1) + (j - r.length) := by omega
          have e9 : o + 1 + r.length + (j - r.length) = o + (r.length + 1) + (j + 1 - (r.length + 1)) := by omega
          simp [h2, f1, f2, e8, e9]

theorem dens_append (ρ : Nat → Nat) (l m : List SV) : SV.dens ρ (l ++ m) = SV.dens ρ l ++ SV.dens ρ m := by simp [SV.dens_eq]
theorem dens_take (ρ : Nat → Nat) (l : List SV) (n : Nat) : SV.dens ρ (l.take n) = (SV.dens ρ l).take n := by simp [SV.dens_eq]
theorem dens_drop (ρ : Nat → Nat) (l : List SV) (n : Nat) : SV.dens ρ (l.drop n) = (SV.dens ρ l).drop n := by simp [SV.dens_eq]
theorem dens_length (ρ : Nat → Nat) (l : List SV) : (SV.dens ρ l).length = l.length := by simp [SV.dens_eq]
theorem dens_get (ρ : Nat → Nat) (l : List SV) (j : Nat) : (SV.dens ρ l)[j]? = (l[j]?).map (SV.den ρ) := by simp [SV.dens_eq]

theorem plains_drop : ∀ (n : Nat) {l : List SV} {cs : List Value}, SV.plains l = some cs → SV.plains (l.drop n) = some (cs.drop n)
  | 0, _, _, h => by simpa using h
  | n + 1, [], cs, h => by cases h; rfl
  | n + 1, s :: l, cs, h => by
    simp only [SV.plains] at h
    cases hs : s.plain with
    | none => rw [hs] at h; cases h
    | some x =>
      cases hl : SV.plains l with
      | none => rw [hs, hl] at h; cases h
      | some r => rw [hs, hl] at h; cases h; exact plains_drop n hl

theorem ovParts_ok (h : Cx N w0 F0 D w F L B ρ l a) : ∀ {ps : List (Nat × Operand)} {ss : List (Nat × SV)}, ovParts l ps = some ss →
    ps.map (fun (i, x) => (i, a.eval x)) = ss.map (fun (i, s) => (i, s.den ρ)) ∧ ∀ p ∈ ss, p.2.good F ∧ p.2.under B.length = true
  | [], ss, e => by cases e; exact ⟨rfl, fun _ hp => by cases hp⟩
  | (i, x) :: r, ss, e => by
    simp only [ovParts] at e
    cases hx : ov l x with
    | none => rw [hx] at e; cases e
    | some s =>
      cases hr : ovParts l r with
      | none => rw [hx, hr] at e; cases e
      | some ss' =>
        rw [hx, hr] at e; cases e
        obtain ⟨h1, h2⟩ := ovParts_ok h hr
        refine ⟨by simp only [List.map_cons, h.eval hx, h1], fun p hp => ?_⟩
        rcases List.mem_cons.1 hp with e1 | e1
        · rw [e1]; exact h.ogood hx
        · exact h2 p e1

theorem foldl_set : ∀ (vs : List Value) (off j0 : Nat) (c : Array Value), off + j0 + vs.length ≤ c.size →
    (vs.zipIdx j0).foldl (fun cs (x : Value × Nat) => cs.setIfInBounds (off + x.2) x.1) c = (c.toList.take (off + j0) ++ (vs ++ c.toList.drop (off + j0 + vs.length))).toArray
  | [], off, j0, c, _ => by simp [List.take_append_drop]
  | v :: r, off, j0, c, h => by
    simp only [List.length_cons] at h
    rw [List.zipIdx_cons, List.foldl_cons, foldl_set r off (j0 + 1) _ (by simp; omega)]
    have hlen : c.toList.length = c.size := Array.length_toList
    congr 1
    apply List.ext_getElem?
    intro i
    simp only [List.getElem?_append, List.getElem?_take, List.getElem?_drop, List.length_take, List.length_cons, Array.toList_setIfInBounds, List.getElem?_set, List.length_set]
    have e3 : min (off + (j0 + 1)) c.size = off + j0 + 1 := by omega
    have e4 : min (off + j0) c.size = off + j0 := by omega
    rw [hlen, e3, e4]
    by_cases h0 : i < off + j0
    · have e1 : i < off + j0 + 1 := by omega
      have e2 : off + j0 ≠ i := by omega
      simp [e1, e2, h0, show i < off + (j0 + 1) by omega]
    · by_cases h1 : i = off + j0
      · subst h1
        simp [show off + j0 < off + (j0 + 1) by omega, show off + j0 < c.size by omega]
      · have f1 : ¬ i < off + j0 + 1 := by omega
        simp only [h0, f1, if_false]
        obtain ⟨j, rfl⟩ : ∃ j, i = off + j0 + 1 + j := ⟨i - (off + j0 + 1), by omega⟩
        have e5 : off + j0 + 1 + j - (off + j0 + 1) = j := by omega
        have e6 : off + j0 + 1 + j - (off + j0) = j + 1 := by omega
        rw [e5, e6]
        by_cases h2 : j < r.length
        · simp [h2]
        · have e8 : off + j0 ≠ off + (j0 + 1) + r.length + (j - r.length) := by omega
          have e9 : off + (j0 + 1) + r.length + (j - r.length) = off + j0 + (r.length + 1) + (j + 1 - (r.length + 1)) := by omega
          simp [h2, e9]
          intro e; omega

theorem fill_ok {place : Nat → Option (Nat × Nat)} {F : Heap} {n : Nat} (ρ : Nat → Nat) : ∀ {ss : List (Nat × SV)} {cells cs : List SV}, fillS place cells ss = some cs → (SV.goods F cells ∧ SV.unders n cells = true) →
    (∀ p ∈ ss, p.2.good F ∧ p.2.under n = true) →
    Instr.fill place (SV.dens ρ cells).toArray (ss.map fun (i, s) => (i, s.den ρ)) = some (SV.dens ρ cs).toArray ∧ SV.goods F cs ∧ SV.unders n cs = true
  | [], cells, cs, e, h, _ => by cases e; exact ⟨rfl, h⟩
  | (i, s) :: r, cells, cs, e, h, hp => by
    simp only [fillS] at e
    cases hpl : place i with
    | none => rw [hpl] at e; cases e
    | some on =>
      obtain ⟨off, m⟩ := on
      cases hc : s.cells with
      | none => rw [hpl, hc] at e; cases e
      | some sc =>
        rw [hpl, hc] at e
        simp only at e
        obtain ⟨hcond, e⟩ : (Nat.beq sc.length m && Nat.ble (off + sc.length) cells.length) = true ∧ fillS place (setAt cells off sc) r = some cs := by
          cases hb : (Nat.beq sc.length m && Nat.ble (off + sc.length) cells.length) with
          | true => rw [hb] at e; exact ⟨rfl, e⟩
          | false => rw [hb] at e; cases e
        simp only [Bool.and_eq_true] at hcond
        have h1 := Nat.eq_of_beq_eq_true hcond.1
        have h2 := Nat.le_of_ble_eq_true hcond.2
        have hs := hp (i, s) List.mem_cons_self
        have hden := SV.cells_den ρ hc
        have hsz : (s.den ρ).cells.size = sc.length := by rw [← Array.length_toList, hden, dens_length]
        obtain ⟨q1, q2⟩ := fill_ok ρ e (setAt_ok h (SV.cells_ok hc hs.1 hs.2)) (fun p hp' => hp p (List.mem_cons_of_mem _ hp'))
        refine ⟨?_, q2⟩
        simp only [List.map_cons, Instr.fill, hpl]
        have hno : ¬ ((s.den ρ).cells.size ≠ m || decide (off + (s.den ρ).cells.size > (SV.dens ρ cells).toArray.size)) = true := by
          simp [hsz, h1, dens_length]; omega
        rw [if_neg hno]
        have hf : (s.den ρ).cells.zipIdx.foldl (fun cs (x : Value × Nat) => cs.setIfInBounds (off + x.2) x.1) (SV.dens ρ cells).toArray = (SV.dens ρ (setAt cells off sc)).toArray := by
          rw [← Array.foldl_toList, Array.toList_zipIdx, hden, foldl_set _ _ _ _ (by simp [dens_length]; omega)]
          simp [setAt, dens_append, dens_take, dens_drop, dens_length]
        rw [hf]
        exact q1

theorem sizedL_mem : ∀ {fs : List Field}, sizedL P fs = true → ∀ f ∈ fs, ∃ i, P.info? f.type = some i
  | [], _, f, hf => by cases hf
  | g :: r, h, f, hf => by
    simp only [sizedL, Bool.and_eq_true] at h
    rcases List.mem_cons.1 hf with e | e
    · subst e
      cases hi : P.info? f.type with
      | none => rw [hi] at h; exact absurd h.1 (by simp)
      | some i => exact ⟨i, rfl⟩
    · exact sizedL_mem h.2 f e
theorem places_list (w : World) : ∀ {fs : List Field}, sizedL P fs = true → (fs.mapM (m := Sem) fun f => do pure (f.offset, ← sizeOf f.type)).run P w = .ok (fs.map fun f => (f.offset, P.cellsOf f.type)) w
  | [], _ => rfl
  | f :: r, h => by
    simp only [sizedL, Bool.and_eq_true] at h
    have ih := places_list w h.2
    obtain ⟨i, hi⟩ := sizedL_mem (fs := [f]) (by simp only [sizedL, Bool.and_eq_true]; exact ⟨h.1, trivial⟩) f List.mem_cons_self
    have hsz : (sizeOf f.type).run P w = .ok i.size w := sizeB_run (by unfold sizeB; rw [hi]) w
    rw [List.mapM_cons]
    simp only [Sem.run_bind, hsz, ih, Result.andThen_ok, Sem.run_pure]
    simp [hi, Program.cellsOf]
theorem places_run {t : TypeId} {fs : Array Field} (hu : P.underlying t = some (.struct fs)) (hst : isStructB P t = true) (w : World) :
    ∃ places : Array (Nat × Nat), (fs.mapM (m := Sem) fun f => do pure (f.offset, ← sizeOf f.type)).run P w = .ok places w ∧ (fun i => places[i]?) = placesB P t := by
  unfold isStructB at hst
  rw [hu] at hst
  simp only at hst
  refine ⟨(fs.toList.map fun f => (f.offset, P.cellsOf f.type)).toArray, ?_, ?_⟩
  · rw [Array.mapM_eq_mapM_toList]
    simp only [Sem.run_map, places_list w hst, Result.andThen_ok]
  · funext i
    unfold placesB fieldB
    rw [hu]
    simp only [List.getElem?_toArray, List.getElem?_map, Array.getElem?_toList]
    cases hf : fs[i]? with
    | none => rfl
    | some f =>
      obtain ⟨q, hq⟩ := sizedL_mem hst f (by have := Array.mem_of_getElem? hf; simpa using this)
      simp [sizeB, hq, Program.cellsOf]

theorem fill_row {n : Nat} {F : Heap} {m : Nat} (ρ : Nat → Nat) : ∀ {ss : List (Nat × SV)} {k : Nat} {cs : List SV} (c : Array Value), rowS n k ss = some cs → (k + ss.length) * n ≤ c.size → (∀ p ∈ ss, p.2.good F ∧ p.2.under m = true) →
    Instr.fill (fun i => some (i * n, n)) c (ss.map fun (i, s) => (i, s.den ρ)) = some (c.toList.take (k * n) ++ (SV.dens ρ cs ++ c.toList.drop ((k + ss.length) * n))).toArray ∧ cs.length = ss.length * n ∧ SV.goods F cs ∧ SV.unders m cs = true
  | [], k, cs, c, e, h, _ => by cases e; simp [Instr.fill, SV.dens, SV.goods, SV.unders, List.take_append_drop]
  | (i, s) :: r, k, cs, c, e, h, hp => by
    simp only [rowS] at e
    cases hc : s.cells with
    | none => rw [hc] at e; cases e
    | some sc =>
      cases hr : rowS n (k + 1) r with
      | none => rw [hc, hr] at e; cases e
      | some rest =>
        rw [hc, hr] at e
        obtain ⟨hcond, e⟩ := bif_some e
        subst e
        simp only [Bool.and_eq_true] at hcond
        have h1 := Nat.eq_of_beq_eq_true hcond.1
        have h2 := Nat.eq_of_beq_eq_true hcond.2
        subst h1
        have hs := hp (i, s) List.mem_cons_self
        have hden := SV.cells_den ρ hc
        have hsz : (s.den ρ).cells.size = n := by rw [← Array.length_toList, hden, dens_length, h2]
        simp only [List.length_cons] at h
        have hin : i * n + n ≤ c.size := by
          have : (i + (r.length + 1)) * n = i * n + n + r.length * n := by rw [Nat.add_mul, Nat.add_mul]; omega
          omega
        have hf : (s.den ρ).cells.zipIdx.foldl (fun cs (x : Value × Nat) => cs.setIfInBounds (i * n + x.2) x.1) c = (c.toList.take (i * n) ++ (SV.dens ρ sc ++ c.toList.drop (i * n + n))).toArray := by
          rw [← Array.foldl_toList, Array.toList_zipIdx, hden, foldl_set _ _ _ _ (by simp [dens_length]; omega)]
          simp [dens_length, h2]
        have hsz2 : (c.toList.take (i * n) ++ (SV.dens ρ sc ++ c.toList.drop (i * n + n))).toArray.size = c.size := by
          simp [dens_length, h2]; omega
        obtain ⟨q1, q2, q3⟩ := fill_row ρ (k := i + 1) (c.toList.take (i * n) ++ (SV.dens ρ sc ++ c.toList.drop (i * n + n))).toArray hr (by rw [hsz2]; simp only [Nat.add_mul] at h ⊢; omega) (fun p hp' => hp p (List.mem_cons_of_mem _ hp'))
        obtain ⟨g1, g2⟩ := SV.cells_ok hc hs.1 hs.2
        refine ⟨?_, by simp only [List.length_append, List.length_cons, h2, q2, Nat.add_mul]; omega, SV.goods_iff.2 fun x hx => ?_, SV.unders_iff.2 fun x hx => ?_⟩
        · simp only [List.map_cons, Instr.fill]
          have hno : ¬ ((s.den ρ).cells.size ≠ n || decide (i * n + (s.den ρ).cells.size > c.size)) = true := by
            simp [hsz]; omega
          rw [if_neg hno, hf, q1]
          congr 2
          have e1 : (i + 1) * n = i * n + n := by rw [Nat.add_mul]; omega
          have e2 : (i + 1 + r.length) * n = i * n + n + r.length * n := by rw [Nat.add_mul, Nat.add_mul]; omega
          have e3 : (i + (r.length + 1)) * n = i * n + n + r.length * n := by rw [Nat.add_mul, Nat.add_mul]; omega
          have l1 : (c.toList.take (i * n)).length = i * n := by simp; omega
          have l2 : (SV.dens ρ sc).length = n := by rw [dens_length, h2]
          rw [e1, e2, List.length_cons, e3, dens_append]
          simp only [List.take_append, List.drop_append, l1, l2, List.append_assoc, List.drop_drop]
          have f1 : i * n + n - i * n = n := by omega
          have f2 : i * n + n - i * n - n = 0 := by omega
          have f3 : i * n + n + r.length * n - i * n - n = r.length * n := by omega
          simp only [f1, f2, f3, Nat.sub_self, List.take_zero, List.append_nil]
          rw [List.take_of_length_le (show (c.toList.take (i * n)).length ≤ i * n + n by omega), List.take_of_length_le (show (SV.dens ρ sc).length ≤ n by omega), List.drop_of_length_le (show (c.toList.take (i * n)).length ≤ i * n + n + r.length * n by omega), List.drop_of_length_le (show (SV.dens ρ sc).length ≤ i * n + n + r.length * n - i * n by omega)]
          simp
        · rcases List.mem_append.1 hx with hx | hx
          · exact SV.goods_iff.1 g1 x hx
          · exact SV.goods_iff.1 q3.1 x hx
        · rcases List.mem_append.1 hx with hx | hx
          · exact SV.unders_iff.1 g2 x hx
          · exact SV.unders_iff.1 q3.2 x hx

theorem ownQ_ok {s0 : SV} (h : Cx N w0 F0 D w F L B ρ l a) (e : ownQ P l B o.op = some s0) :
    (execOp a.eval o).run P w = .ok (.value (s0.den ρ)) w ∧ s0.good F ∧ s0.under B.length = true := by
  have fwd : ∀ {x : Operand} {s : SV}, ov l x = some s → execOp a.eval o = Sem.pure (.value (a.eval x)) → (execOp a.eval o).run P w = .ok (.value (s.den ρ)) w ∧ s.good F ∧ s.under B.length = true :=
    fun {x s} hx hop => ⟨by rw [hop, h.eval hx]; rfl, h.ogood hx⟩
  cases hop : o.op with
  | move x => rw [hop] at e; simp only [ownQ] at e; exact fwd e (by unfold execOp; rw [hop]; rfl)
  | assign x => rw [hop] at e; simp only [ownQ] at e; exact fwd e (by unfold execOp; rw [hop]; rfl)
  | pick c x y =>
    rw [hop] at e; simp only [ownQ] at e
    cases hc : ov l c with
    | none => rw [hc] at e; cases e
    | some sc =>
      rw [hc] at e
      cases sc with
      | v cv =>
        cases cv with
        | bool b =>
          have hcv : a.eval c = .bool b := h.eval hc
          cases b with
          | true =>
            simp only at e
            cases hx : ov l x with
            | none => rw [hx] at e; cases e
            | some s => rw [hx] at e; cases e; exact fwd hx (by unfold execOp; rw [hop]; simp only [hcv]; rfl)
          | false =>
            simp only at e
            cases hx : ov l y with
            | none => rw [hx] at e; cases e
            | some s => rw [hx] at e; cases e; exact fwd hx (by unfold execOp; rw [hop]; simp only [hcv]; rfl)
        | _ => cases e
      | _ => cases e
  | extract x i =>
    rw [hop] at e; simp only [ownQ] at e
    cases hx : ov l x with
    | none => rw [hx] at e; cases e
    | some sx =>
      rw [hx] at e
      cases sx with
      | tup ss =>
        simp only at e
        cases hs : ss[i]? with
        | none => rw [hs] at e; cases e
        | some s =>
          rw [hs] at e
          have e' := Option.some.inj e
          subst e'
          have hev : a.eval x = .tuple (SV.dens ρ ss).toArray := by rw [h.eval hx]; rfl
          have hmem : s ∈ ss := List.mem_of_getElem? hs
          have hg := h.ogood hx
          refine ⟨?_, SV.goods_iff.1 (by simpa [SV.good] using hg.1) s hmem, SV.unders_iff.1 (by simpa [SV.under] using hg.2) s hmem⟩
          show (execOp a.eval o).run P w = _
          unfold execOp; rw [hop]
          simp [hev, Instr.extract, dens_get, hs]
      | _ => cases e
  | nilCheck x =>
    rw [hop] at e; simp only [ownQ] at e
    cases hx : ov l x with
    | none => rw [hx] at e; cases e
    | some sx =>
      rw [hx] at e
      cases sx with
      | ptr k off =>
        cases e
        have hev := h.eval hx
        refine ⟨?_, h.ogood hx⟩
        show (execOp a.eval o).run P w = _
        unfold execOp; rw [hop]; simp only [hev, SV.den]; rfl
      | v xv =>
        cases xv with
        | pointer ao =>
          cases ao with
          | none => cases e
          | some ad =>
            cases e
            have hev := h.eval hx
            refine ⟨?_, h.ogood hx⟩
            show (execOp a.eval o).run P w = _
            unfold execOp; rw [hop]; simp only [hev, SV.den]; rfl
        | _ => cases e
      | el eb eo ss =>
        cases e
        have hev := h.eval hx
        refine ⟨?_, h.ogood hx⟩
        show (execOp a.eval o).run P w = _
        unfold execOp; rw [hop]; simp only [hev, SV.den]; rfl
      | _ => cases e
  | load t x =>
    rw [hop] at e; simp only [ownQ] at e
    cases hx : ov l x with
    | none => rw [hx] at e; cases e
    | some sx =>
      rw [hx] at e
      cases sx with
      | el eb eo ss =>
        simp only at e
        have hev : a.eval x = .pointer (some ⟨eb, eo, none⟩) := h.eval hx
        have hgx := h.ogood hx
        obtain ⟨hg1, cs, hp, hcf⟩ : SV.goods F ss ∧ ∃ cs, SV.plains ss = some cs ∧ cellsF F eb eo cs := by simpa [SV.good] using hgx.1
        have hu1 : SV.unders B.length ss = true := by simpa [SV.under] using hgx.2
        have hden := SV.plains_dens ρ hp
        have hcell : ∀ j s, ss[j]? = some s → w.cell? ⟨eb, eo + j, none⟩ = some (s.den ρ) := fun j s hj => cellF_read h.st.view (hcf j _ (by rw [← hden, dens_get, hj]; rfl))
        cases hr : isRowB P t with
        | none => rw [hr] at e; cases hs : sizeB P t <;> rw [hs] at e <;> cases e
        | some row =>
          rw [hr] at e
          cases row with
          | true =>
            cases hs : sizeB P t with
            | none => rw [hs] at e; cases e
            | some n =>
              rw [hs] at e; simp only at e
              obtain ⟨hle, he⟩ := bif_some e
              cases he
              have hle := Nat.le_of_ble_eq_true hle
              have gt := SV.goods_take hg1 0 n
              have ut := SV.unders_take hu1 0 n
              rw [List.drop_zero] at gt ut
              refine ⟨?_, by simpa [SV.good] using gt, by simpa [SV.under] using ut⟩
              show (execOp a.eval o).run P w = _
              unfold execOp; rw [hop]
              have hl : (loadCells ⟨eb, eo, none⟩ n).run P w = .ok (SV.dens ρ (ss.take n)).toArray w := by
                have := run_loadCells_list (P := P) w ⟨eb, eo, none⟩ (SV.dens ρ (ss.take n)) (fun j v hv => by
                  rw [add_at]
                  rw [dens_get, List.getElem?_take] at hv
                  split at hv
                  · cases hj : ss[j]? with
                    | none => rw [hj] at hv; cases hv
                    | some s => rw [hj] at hv; cases hv; exact hcell j s hj
                  · cases hv)
                rw [dens_length] at this
                have hn : (ss.take n).length = n := by simp; omega
                rwa [hn] at this
              simp [hev, Instr.loadAt, Instr.sureAddr, loadVar, Sem.run_bind, isRowB_run hr, sizeB_run hs, hl, SV.den]
          | false =>
            cases hs : ss[0]? with
            | none => rw [hs] at e; cases hs2 : sizeB P t <;> rw [hs2] at e <;> cases e
            | some s =>
              have e : some s = some s0 := by cases hs2 : sizeB P t <;> rw [hs2, hs] at e <;> exact e
              have e' := Option.some.inj e
              subst e'
              have hmem : s ∈ ss := List.mem_of_getElem? hs
              refine ⟨?_, SV.goods_iff.1 hg1 s hmem, SV.unders_iff.1 hu1 s hmem⟩
              show (execOp a.eval o).run P w = _
              unfold execOp; rw [hop]
              have h0 : w.cell? ⟨eb, eo, none⟩ = some (s.den ρ) := hcell 0 s hs
              simp [hev, Instr.loadAt, Instr.sureAddr, loadVar, Sem.run_bind, isRowB_run hr, h0]
      | ptr k off =>
        simp only at e
        have hev : a.eval x = .pointer (some ⟨ρ k, off, none⟩) := h.eval hx
        cases hk : B[k]? with
        | none => rw [hk] at e; cases e
        | some ob =>
        cases ob with
        | none => rw [hk] at e; cases e
        | some b =>
          rw [hk] at e; simp only at e
          have hbm : some b ∈ B := List.mem_of_getElem? hk
          have hbg := h.bgood b hbm
          cases hr : isRowB P t with
          | none => rw [hr] at e; cases hs : sizeB P t <;> rw [hs] at e <;> cases e
          | some row =>
            rw [hr] at e
            cases row with
            | true =>
              cases hs : sizeB P t with
              | none => rw [hs] at e; cases e
              | some n =>
                rw [hs] at e; simp only at e
                obtain ⟨hle, he⟩ := bif_some e
                cases he
                have hle := Nat.le_of_ble_eq_true hle
                refine ⟨?_, by simpa [SV.good] using SV.goods_take hbg.1 off n, by simpa [SV.under] using SV.unders_take hbg.2 off n⟩
                show (execOp a.eval o).run P w = _
                unfold execOp; rw [hop]
                have hl : (loadCells ⟨ρ k, off, none⟩ n).run P w = .ok (SV.dens ρ ((b.cells.drop off).take n)).toArray w := by
                  have := run_loadCells_list (P := P) w ⟨ρ k, off, none⟩ (SV.dens ρ ((b.cells.drop off).take n)) (fun j v hv => by
                    rw [add_at]
                    rw [dens_get, List.getElem?_take, List.getElem?_drop] at hv
                    split at hv
                    · cases hj : b.cells[off + j]? with
                      | none => rw [hj] at hv; cases hv
                      | some s => rw [hj] at hv; cases hv; exact h.box_cell hk hj
                    · cases hv)
                  rw [dens_length] at this
                  have hn : ((b.cells.drop off).take n).length = n := by simp; omega
                  rwa [hn] at this
                simp [hev, Instr.loadAt, Instr.sureAddr, loadVar, Sem.run_bind, isRowB_run hr, sizeB_run hs, hl, SV.den]
            | false =>
              cases hs : b.cells[off]? with
              | none => rw [hs] at e; cases hs2 : sizeB P t <;> rw [hs2] at e <;> cases e
              | some s =>
                have e : some s = some s0 := by cases hs2 : sizeB P t <;> rw [hs2, hs] at e <;> exact e
                have e' := Option.some.inj e
                subst e'
                have hmem : s ∈ b.cells := List.mem_of_getElem? hs
                refine ⟨?_, SV.goods_iff.1 hbg.1 s hmem, SV.unders_iff.1 hbg.2 s hmem⟩
                show (execOp a.eval o).run P w = _
                unfold execOp; rw [hop]
                have hl : (load ⟨ρ k, off, none⟩).run P w = .ok (s.den ρ) w := by simp [load, Sem.run, h.box_cell hk hs]
                simp [hev, Instr.loadAt, Instr.sureAddr, loadVar, Sem.run_bind, isRowB_run hr, h.box_cell hk hs]
      | _ => cases e
  | fieldAddr t x f =>
    rw [hop] at e; simp only [ownQ] at e
    cases hx : ov l x with
    | none => rw [hx] at e; cases e
    | some sx =>
      rw [hx] at e
      cases sx with
      | el eb eo ss =>
        have hev : a.eval x = .pointer (some ⟨eb, eo, none⟩) := h.eval hx
        have hgx := h.ogood hx
        obtain ⟨hg1, cs, hp, hcf⟩ : SV.goods F ss ∧ ∃ cs, SV.plains ss = some cs ∧ cellsF F eb eo cs := by simpa [SV.good] using hgx.1
        have hu1 : SV.unders B.length ss = true := by simpa [SV.under] using hgx.2
        unfold fieldB at e
        cases hu : P.underlying t with
        | none => rw [hu] at e; cases e
        | some d =>
          rw [hu] at e
          cases d with
          | struct fs =>
            simp only at e
            cases hf : fs[f]? with
            | none => rw [hf] at e; cases e
            | some fd =>
              rw [hf] at e; simp only at e
              cases hs : sizeB P fd.type with
              | none => rw [hs] at e; cases e
              | some n =>
                rw [hs] at e
                cases n with
                | zero => cases e
                | succ n =>
                  cases e
                  have hpd := plains_drop fd.offset hp
                  refine ⟨?_, ?_, ?_⟩
                  · show (execOp a.eval o).run P w = _
                    unfold execOp; rw [hop]
                    simp [hev, Instr.fieldAt, Instr.sureAddr, fieldPlace, Sem.run_bind, run_underlying hu, hf, sizeB_run hs, SV.den, add_at]
                  · show SV.goods F (ss.drop fd.offset) ∧ _
                    refine ⟨SV.goods_iff.2 fun s hs => SV.goods_iff.1 hg1 s (List.mem_of_mem_drop hs), _, hpd, fun j v hv => ?_⟩
                    rw [List.getElem?_drop] at hv
                    have := hcf _ _ hv
                    rwa [← Nat.add_assoc] at this
                  · show SV.unders B.length (ss.drop fd.offset) = true
                    exact SV.unders_iff.2 fun s hs => SV.unders_iff.1 hu1 s (List.mem_of_mem_drop hs)
          | _ => cases e
      | ptr k off =>
        have hev : a.eval x = .pointer (some ⟨ρ k, off, none⟩) := h.eval hx
        unfold fieldB at e
        cases hu : P.underlying t with
        | none => rw [hu] at e; cases e
        | some d =>
          rw [hu] at e
          cases d with
          | struct fs =>
            simp only at e
            cases hf : fs[f]? with
            | none => rw [hf] at e; cases e
            | some fd =>
              rw [hf] at e; simp only at e
              cases hs : sizeB P fd.type with
              | none => rw [hs] at e; cases e
              | some n =>
                rw [hs] at e
                cases n with
                | zero => cases e
                | succ n =>
                  cases e
                  refine ⟨?_, trivial, by have := (h.ogood hx).2; simpa [SV.under] using this⟩
                  show (execOp a.eval o).run P w = _
                  unfold execOp; rw [hop]
                  simp [hev, Instr.fieldAt, Instr.sureAddr, fieldPlace, Sem.run_bind, run_underlying hu, hf, sizeB_run hs, SV.den, add_at]
          | _ => cases e
      | _ => cases hf : fieldB P t f <;> rw [hf] at e <;> cases e
  | build t ps =>
    rw [hop] at e; simp only [ownQ] at e
    cases hi : P.info? t with
    | none => rw [hi] at e; cases e
    | some i =>
      cases hps : ovParts l ps.toList with
      | none => rw [hi, hps] at e; cases e
      | some ss =>
        rw [hi, hps] at e
        simp only at e
        cases hz : i.zero with
        | none => rw [hz] at e; cases e
        | some z =>
          cases hst : isStructB P t with
          | false => rw [hz, hst] at e; cases e
          | true =>
            rw [hz, hst] at e
            simp only at e
            cases hfl : fillS (placesB P t) (z.cells.toList.map .v) ss with
            | none => rw [hfl] at e; cases e
            | some cs =>
              rw [hfl] at e
              have e' := Option.some.inj e
              subst e'
              obtain ⟨p1, p2⟩ := ovParts_ok h hps
              have hg : SV.goods F (z.cells.toList.map SV.v) := SV.goods_iff.2 fun s hs => by obtain ⟨y, _, rfl⟩ := List.mem_map.1 hs; trivial
              have hb : SV.unders B.length (z.cells.toList.map SV.v) = true := SV.unders_iff.2 fun s hs => by obtain ⟨y, _, rfl⟩ := List.mem_map.1 hs; rfl
              obtain ⟨q1, q2, q3⟩ := fill_ok ρ hfl ⟨hg, hb⟩ p2
              have hden : (SV.dens ρ (z.cells.toList.map SV.v)).toArray = z.cells := by simp [SV.dens_eq, Function.comp_def, SV.den]
              rw [hden] at q1
              refine ⟨?_, by simpa [SV.good] using q2, by simpa [SV.under] using q3⟩
              show (execOp a.eval o).run P w = _
              unfold execOp; rw [hop]
              unfold isStructB at hst
              cases hu : P.underlying t with
              | none => rw [hu] at hst; cases hst
              | some dd =>
                rw [hu] at hst
                cases dd with
                | struct fs =>
                  have hpm : (ps.map fun (i, x) => (i, a.eval x)).toList = ss.map fun (i, s) => (i, s.den ρ) := by rw [Array.toList_map]; exact p1
                  obtain ⟨places, hpl, hpe⟩ := places_run (P := P) hu (by unfold isStructB; rw [hu]; exact hst) w
                  rw [← hpe] at q1
                  simp only [Instr.build, Sem.run_bind, zeroValue_run hi hz, Result.andThen_ok, run_underlying hu, hpl, hpm]
                  rw [q1]
                  rfl
                | _ => cases hst
  | field t x f =>
    rw [hop] at e; simp only [ownQ] at e
    cases hx : ov l x with
    | none => rw [hx] at e; cases e
    | some sx =>
      rw [hx] at e
      cases sx with
      | agg cs =>
        have hev : a.eval x = .agg (SV.dens ρ cs).toArray := by rw [h.eval hx]; rfl
        have hg := h.ogood hx
        have hg1 : SV.goods F cs := by simpa [SV.good] using hg.1
        have hg2 : SV.unders B.length cs = true := by simpa [SV.under] using hg.2
        unfold fieldB at e
        cases hu : P.underlying t with
        | none => rw [hu] at e; cases e
        | some d =>
          rw [hu] at e
          cases d with
          | struct fs =>
            simp only at e
            cases hf : fs[f]? with
            | none => rw [hf] at e; cases e
            | some fd =>
              rw [hf] at e; simp only at e
              cases hr : isRowB P fd.type with
              | none => rw [hr] at e; cases hs2 : sizeB P fd.type <;> rw [hs2] at e <;> cases e
              | some row =>
                rw [hr] at e
                cases row with
                | true =>
                  cases hs : sizeB P fd.type with
                  | none => rw [hs] at e; cases e
                  | some n =>
                    rw [hs] at e; cases e
                    refine ⟨?_, by simpa [SV.good] using SV.goods_take hg1 _ _, by simpa [SV.under] using SV.unders_take hg2 _ _⟩
                    show (execOp a.eval o).run P w = _
                    unfold execOp; rw [hop]
                    simp [hev, Instr.field, asAgg, part, Sem.run_bind, run_underlying hu, hf, isRowB_run hr, sizeB_run hs, SV.den, dens_take, dens_drop, List.extract_eq_take_drop]
                | false =>
                  cases hs : cs[fd.offset]? with
                  | none => rw [hs] at e; cases hs2 : sizeB P fd.type <;> rw [hs2] at e <;> cases e
                  | some s =>
                    have e : some s = some s0 := by cases hs2 : sizeB P fd.type <;> rw [hs2, hs] at e <;> exact e
                    have e' := Option.some.inj e
                    subst e'
                    have hmem : s ∈ cs := List.mem_of_getElem? hs
                    refine ⟨?_, SV.goods_iff.1 hg1 s hmem, SV.unders_iff.1 hg2 s hmem⟩
                    show (execOp a.eval o).run P w = _
                    unfold execOp; rw [hop]
                    simp [hev, Instr.field, asAgg, part, Sem.run_bind, run_underlying hu, hf, isRowB_run hr, dens_get, hs]
          | _ => cases e
      | _ => cases hf : fieldB P t f <;> rw [hf] at e <;> cases e
  | _ => rw [hop] at e; simp only [ownQ] at e; cases e

theorem ownM_ok {r : Option SV} (h : Cx N w0 F0 D w F L B ρ l a) (e : ownM P l B o.op = some (r, B')) :
    ∃ ρ' w', Yields P o a w ρ' w' r ∧ Fine F B'.length r ∧ Cx N w0 F0 D w' F L B' ρ' l a ∧ ∀ k, k < B.length → ρ' k = ρ k := by
  cases hop : o.op with
  | alloc t =>
    rw [hop] at e; simp only [ownM] at e
    cases hi : P.info? t with
    | none => rw [hi] at e; cases e
    | some i =>
      rw [hi] at e; simp only at e
      cases hz : i.zero with
      | none => rw [hz] at e; cases e
      | some z =>
        rw [hz] at e; cases e
        have hg : SV.goods F (z.cells.toList.map SV.v) := SV.goods_iff.2 fun s hs => by obtain ⟨y, _, rfl⟩ := List.mem_map.1 hs; trivial
        have hb : SV.unders B.length (z.cells.toList.map SV.v) = true := SV.unders_iff.2 fun s hs => by obtain ⟨y, _, rfl⟩ := List.mem_map.1 hs; rfl
        obtain ⟨ρ', h1, hr, h2⟩ := h.new_box ⟨t, z.cells.toList.map .v⟩ hg hb
        have hden : (SV.dens ρ (z.cells.toList.map SV.v)).toArray = z.cells := by simp [SV.dens_eq, Function.comp_def, SV.den]
        rw [hden] at h2
        refine ⟨ρ', _, ?_, ⟨trivial, by simp [SV.under]⟩, h2, hr⟩
        show (execOp a.eval o).run P w = _
        unfold execOp; rw [hop]
        simp only [Instr.alloc, Sem.run_bind, zeroValue_run hi hz, Result.andThen_ok, newVar_run, SV.den, h1]
        rfl
  | box t x =>
    rw [hop] at e; simp only [ownM] at e
    cases hx : ov l x with
    | none => rw [hx] at e; cases e
    | some s =>
      rw [hx] at e; simp only at e
      cases hc : s.cells with
      | none => rw [hc] at e; cases e
      | some cs =>
        rw [hc] at e; cases e
        obtain ⟨hg, hb⟩ := SV.cells_ok hc (h.ogood hx).1 (h.ogood hx).2
        obtain ⟨ρ', h1, hr, h2⟩ := h.new_box ⟨t, cs⟩ hg hb
        have hden : (SV.dens ρ cs).toArray = (a.eval x).cells := by rw [h.eval hx, ← SV.cells_den ρ hc]
        rw [hden] at h2
        refine ⟨ρ', _, ?_, ⟨trivial, by simp [SV.under]⟩, h2, hr⟩
        show (execOp a.eval o).run P w = _
        unfold execOp; rw [hop]
        simp only [Instr.box, Sem.run_bind, newVar_run, Result.andThen_ok, SV.den, h1]
        rfl
  | buildSlice t len ps =>
    rw [hop] at e; simp only [ownM] at e
    cases he : elemB P t with
    | none => rw [he] at e; cases e
    | some el =>
      cases hps : ovParts l ps.toList with
      | none => rw [he, hps] at e; cases e
      | some ss =>
        rw [he, hps] at e
        simp only at e
        cases hs : sizeB P el with
        | none => rw [hs] at e; cases e
        | some n1 =>
          cases n1 with
          | zero => rw [hs] at e; cases e
          | succ n =>
            rw [hs] at e
            simp only at e
            cases hr : rowS (n + 1) 0 ss with
            | none => rw [hr] at e; cases e
            | some cs =>
              rw [hr] at e
              simp only at e
              obtain ⟨hcond, e⟩ := bif_some e
              cases e
              simp only [Bool.and_eq_true] at hcond
              obtain ⟨⟨⟨c1, c2⟩, c4⟩, c3⟩ := hcond
              have c4 := Nat.le_of_ble_eq_true c4
              have c1 := Nat.eq_of_beq_eq_true c1
              have c2 := Nat.le_of_ble_eq_true c2
              unfold zeroB at c3
              cases hi : P.info? el with
              | none => rw [hi] at c3; cases c3
              | some i =>
                rw [hi] at c3
                simp only at c3
                cases hz : i.zero with
                | none => rw [hz] at c3; cases c3
                | some z =>
                  rw [hz] at c3
                  have c3 := Nat.eq_of_beq_eq_true c3
                  obtain ⟨p1, p2⟩ := ovParts_ok h hps
                  have hbase : ((Array.range (len * (n + 1))).map fun x => z.cells[x % z.cells.size]!).size = len * (n + 1) := by simp
                  obtain ⟨q1, q2, q3, q4⟩ := fill_row ρ (k := 0) ((Array.range (len * (n + 1))).map fun x => z.cells[x % z.cells.size]!) hr (by rw [hbase, c1, Nat.zero_add]; exact Nat.le_refl _) p2
                  obtain ⟨ρ', h1, hrr, h2⟩ := h.new_box ⟨el, cs⟩ q3 q4
                  refine ⟨ρ', _, ?_, ⟨trivial, by simp [SV.under]⟩, h2, hrr⟩
                  show (execOp a.eval o).run P w = _
                  unfold execOp; rw [hop]
                  unfold elemB at he
                  cases hu : P.underlying t with
                  | none => rw [hu] at he; cases he
                  | some dd =>
                    rw [hu] at he
                    cases dd with
                    | slice el' =>
                      cases he
                      have hpm : (ps.map fun (i, x) => (i, a.eval x)).toList = ss.map fun (i, s) => (i, s.den ρ) := by rw [Array.toList_map]; exact p1
                      have hno : ¬ len * (n + 1) > 2 ^ 24 := by omega
                      have hdrop : ((Array.range (len * (n + 1))).map fun x => z.cells[x % z.cells.size]!).toList.drop ((0 + ss.length) * (n + 1)) = [] := by
                        rw [List.drop_of_length_le]; rw [Array.length_toList, hbase, c1, Nat.zero_add]; exact Nat.le_refl _
                      rw [hdrop] at q1
                      simp only [Nat.zero_mul, List.take_zero, List.nil_append, List.append_nil] at q1
                      by_cases h0 : len * (n + 1) = 0
                      · omega
                      · simp only [Instr.buildSlice, Sem.run_bind, run_underlying hu, Result.andThen_ok, sizeB_run hs, hno, if_false, h0, zeroValue_run hi hz, Sem.run_pure, hpm, q1]
                        simp only [newRow_run, Result.andThen_ok, SV.den, h1, Sem.run_pure]
                    | _ => cases he
  | store t x y =>
    rw [hop] at e; simp only [ownM] at e
    cases hx : ov l x with
    | none => rw [hx] at e; cases e
    | some sx =>
      rw [hx] at e
      cases sx with
      | ptr k off =>
        cases hy : ov l y with
        | none => rw [hy] at e; cases e
        | some s =>
          rw [hy] at e; simp only at e
          have hev : a.eval x = .pointer (some ⟨ρ k, off, none⟩) := h.eval hx
          have hey := h.eval hy
          cases hk : B[k]? with
          | none => rw [hk] at e; cases e
          | some ob =>
          cases ob with
          | none => rw [hk] at e; cases hc : s.cells <;> cases hs : sizeB P t <;> rw [hc, hs] at e <;> cases e
          | some b =>
            cases hc : s.cells with
            | none => rw [hk, hc] at e; cases e
            | some cs =>
              cases hs : sizeB P t with
              | none => rw [hk, hc, hs] at e; cases e
              | some n =>
                rw [hk, hc, hs] at e; simp only at e
                obtain ⟨hcond, he⟩ := bif_some e
                cases he
                simp only [Bool.and_eq_true] at hcond
                obtain ⟨⟨hn, hle⟩, h1⟩ := hcond
                have hn := Nat.eq_of_beq_eq_true hn
                have hle := Nat.le_of_ble_eq_true hle
                have hbm : some b ∈ B := List.mem_of_getElem? hk
                have hcells := SV.cells_den ρ hc
                have hblk := h.box hk
                obtain ⟨q1, q2, q3, q4, q5⟩ := setCells_os (ρ k) (SV.dens ρ cs) off w
                have q6 := setCells_block (ρ k) (SV.dens ρ cs) off w _ hblk (by simp [dens_length]; exact hle)
                obtain ⟨hg, hb⟩ := setAt_ok (off := off) (h.bgood b hbm) (SV.cells_ok hc (h.ogood hy).1 (h.ogood hy).2)
                refine ⟨ρ, w.setCells (ρ k) off (SV.dens ρ cs), ?_, trivial, h.set_box (b' := ⟨b.ty, setAt b.cells off cs⟩) hk rfl hg hb q1 q2 q3 q4 ?_ q5, fun _ _ => rfl⟩
                · show (execOp a.eval o).run P w = _
                  unfold execOp; rw [hop]
                  have hthere : ∀ j, j < (SV.dens ρ cs).length → (w.cell? ⟨ρ k, off + 0 + j, none⟩).isSome = true := fun j hj => by
                    rw [dens_length] at hj
                    have hj' : off + j < b.cells.length := by omega
                    rw [Nat.add_zero, h.box_cell hk (List.getElem?_eq_getElem hj')]; rfl
                  have hfree : ∀ j, j < (SV.dens ρ cs).length → w.frozen? ⟨ρ k, off + 0 + j, none⟩ = false := fun j _ => by
                    unfold World.frozen?
                    rw [hblk]
                    simp
                  have hst := run_storeCells_cells (P := P) (ρ k) off (SV.dens ρ cs) 0 w hthere hfree (SV.ones_dens ρ h1)
                  have hsz : (s.den ρ).cells.size = n := by rw [← Array.length_toList, hcells, dens_length, hn]
                  have hst2 : (storeCells ⟨ρ k, off, none⟩ (s.den ρ).cells.toList).run P w = .ok () (w.setCells (ρ k) off (SV.dens ρ cs)) := by rw [hcells]; exact hst
                  simp only [hev, hey, Instr.storeAt, Instr.sureAddr, storeVar, Sem.run_bind, Sem.run_pure, Result.andThen_ok, sizeB_run hs, hsz, ne_eq, not_true_eq_false, if_false, hst2]
                · rw [q6]
                  congr 2
                  simp [setAt, dens_append, dens_take, dens_drop, dens_length]
      | _ => cases hy : ov l y <;> rw [hy] at e <;> cases e
  | _ => rw [hop] at e; simp only [ownM] at e; cases e

theorem strs_ok {x : Value} (h : Cx N w0 F0 D w F L B ρ l a) (e : strs l o.op = some x) : (execOp a.eval o).run P w = .ok (.value x) w := by
  cases hop : o.op with
  | binOp op t u v t2 =>
    rw [hop] at e; simp only [strs] at e
    cases hu : ov l u with
    | none => rw [hu] at e; cases op <;> cases e
    | some su =>
      cases hv : ov l v with
      | none => rw [hu, hv] at e; cases su with
        | v y => cases y <;> cases op <;> cases e
        | _ => cases op <;> cases e
      | some sv =>
        rw [hu, hv] at e
        cases su with
        | v xu =>
          cases xu with
          | string s =>
            cases sv with
            | v xv =>
              cases xv with
              | string t' =>
                have h1 : a.eval u = .string s := h.eval hu
                have h2 : a.eval v = .string t' := h.eval hv
                unfold execOp; rw [hop]
                simp only [h1, h2]
                cases op <;> simp only at e <;> cases e <;> simp [eqGuard, binOp, Op.stringOp, ByteArray.toList_eq]
              | _ => cases op <;> cases e
            | _ => cases op <;> cases e
          | _ => cases sv with
            | v y => cases y <;> cases op <;> cases e
            | _ => cases op <;> cases e
        | _ => cases sv with
          | v y => cases y <;> cases op <;> cases e
          | _ => cases op <;> cases e
  | _ => rw [hop] at e; simp only [strs] at e; cases e

theorem part_run {t : TypeId} {cs : List SV} {off : Nat} {s : SV} (ht : isRowB P t = some false) (hs : cs[off]? = some s) (w : World) : (part t (SV.dens ρ cs).toArray off).run P w = .ok (s.den ρ) w := by
  have h1 : (SV.dens ρ cs).toArray[off]? = some (s.den ρ) := by simp [dens_get, hs]
  simp [part, Sem.run_bind, isRowB_run ht, h1]
theorem eqF_ok {xs ys : List SV} {d : Nat} (w : World) : ∀ {fs : List Field} {b : Bool}, eqF P xs ys fs = some b → (Op.eqFields (d + 1) (SV.dens ρ xs).toArray (SV.dens ρ ys).toArray fs).run P w = .ok b w
  | [], b, e => by cases e; rfl
  | f :: r, b, e => by
    simp only [eqF] at e
    cases hn : f.name == "_" with
    | true => rw [hn] at e; cases e
    | false =>
      rw [hn] at e
      simp only [cond_false] at e
      have hn' : f.name ≠ "_" := by simpa using hn
      cases hr : eqF P xs ys r with
      | none => rw [hr] at e; cases e
      | some c =>
        rw [hr] at e
        simp only at e
        have ih := eqF_ok (d := d) w hr
        have fin : ∀ {x y : SV} {q : Bool}, isRowB P f.type = some false → xs[f.offset]? = some x → ys[f.offset]? = some y → (Op.equalIn (d + 1) f.type (x.den ρ) (y.den ρ)).run P w = .ok q w → b = (q && c) →
            (Op.eqFields (d + 1) (SV.dens ρ xs).toArray (SV.dens ρ ys).toArray (f :: r)).run P w = .ok b w := by
          intro x y q h1 h2 h3 h4 h5
          rw [Op.eqFields]
          simp only [if_pos hn', Sem.run_bind, part_run h1 h2, part_run h1 h3, h4, Result.andThen_ok]
          subst h5
          cases q
          · simp
          · simpa using ih
        cases hu : P.underlying f.type with
        | none => rw [hu] at e; cases e
        | some u =>
          rw [hu] at e
          have hrow : (∀ fs, u ≠ .struct fs) → (∀ n t, u ≠ .array n t) → isRowB P f.type = some false := by
            intro h1 h2
            unfold isRowB; rw [hu]
            cases u <;> first | rfl | exact absurd rfl (h1 _) | exact absurd rfl (h2 _ _)
          cases hx : xs[f.offset]? with
          | none => rw [hx] at e; cases u <;> cases e
          | some x =>
            cases hy : ys[f.offset]? with
            | none => rw [hx, hy] at e; cases u <;> (try cases e) <;> (cases x with | v z => cases z <;> cases e | _ => cases e)
            | some y =>
              rw [hx, hy] at e
              split at e
              · rename_i x' y' h1 h2 h3
                cases h1; cases h2; cases h3; cases e
                exact fin (hrow (by simp) (by simp)) hx hy (run_equalIn_bool' w d _ x' y' hu) rfl
              · rename_i k0 k x' k' y' h1 h2 h3
                cases h1; cases h2; cases h3
                obtain ⟨hk, e2⟩ := bif_some e
                have hk : k = k' := by simpa using hk
                subst hk; subst e2
                exact fin (hrow (by simp) (by simp)) hx hy (run_equalIn_int w d _ k k0 x' y' hu) rfl
              · rename_i x' y' h1 h2 h3
                cases h1; cases h2; cases h3; cases e
                refine fin (hrow (by simp) (by simp)) hx hy (run_equalIn_string w d _ x' y' hu) ?_
                rw [ByteArray.toList_eq, ByteArray.toList_eq]
              · cases e
theorem eqS_ok {x : Value} (h : Cx N w0 F0 D w F L B ρ l a) (e : eqS P l o.op = some x) : (execOp a.eval o).run P w = .ok (.value x) w := by
  cases hop : o.op with
  | binOp op t u v t2 =>
    rw [hop] at e
    simp only [eqS] at e
    split at e
    · rename_i xs ys fs hu hv hf
      split at e
      · rename_i b hb
        cases hc : (!P.stoodInHeld t && !P.eqGuardType P.depth t) with
        | false => rw [hc] at e; cases e
        | true =>
          rw [hc] at e
          simp only [cond_true] at e
          simp only [Bool.and_eq_true, Bool.not_eq_true'] at hc
          have e1 : a.eval u = .agg (SV.dens ρ xs).toArray := h.eval hu
          have e2 : a.eval v = .agg (SV.dens ρ ys).toArray := h.eval hv
          have hfo : P.fieldsOf t = fs := by simp [Program.fieldsOf, hf]
          have heq : (Op.equalIn 10000 t (.agg (SV.dens ρ xs).toArray) (.agg (SV.dens ρ ys).toArray)).run P w = .ok b w := by
            rw [run_equalIn_struct (P := P) w 9999 t _ _ (by rw [hfo]; exact hf) hc.1, hfo]
            exact eqF_ok (d := 9998) w hb
          unfold execOp; rw [hop]
          simp only [e1, e2, Sem.run_bind, run_eqGuard_agg w op t u v _ _ hc.2, Result.andThen_ok]
          cases op <;> simp only at e <;> cases e
          · simp only [run_eql_struct, heq, Result.andThen_ok, Sem.run_pure]
          · simp only [run_neq_struct, heq, Result.andThen_ok, Sem.run_pure]
      · cases e
    · cases e
  | _ => rw [hop] at e; simp only [eqS] at e; cases e

theorem ρof_eval (h : Cx N w0 F0 D w F L B ρ l a) : ∀ {xs : List Operand}, allPlain l xs = true → ∀ x ∈ xs, ρof l x = a.eval x
  | [], _, x, hx => by cases hx
  | y :: r, hp, x, hx => by
    simp only [allPlain, Bool.and_eq_true] at hp
    rcases List.mem_cons.1 hx with e | e
    · subst e
      unfold ρof
      cases hy : ov l x with
      | none => rw [hy] at hp; simp at hp
      | some s =>
        rw [hy] at hp
        simp only at hp ⊢
        cases hs : s.plain with
        | none => rw [hs] at hp; simp at hp
        | some v => rw [h.eval hy, SV.plain_den ρ hs]
    · exact ρof_eval h hp.2 x e

theorem pure_ok {x : Value} (h : Cx N w0 F0 D w F L B ρ l a) (hsel : ∀ cs b, o.op ≠ .select cs b) (hp : allPlain l o.op.operands.toList = true) (e : pureOf P (execOp (ρof l) o) = some x) : (execOp a.eval o).run P w = .ok (.value x) w := by
  rw [← execOp_congr o hsel (fun y hy => ρof_eval h hp y (by simpa using hy))]
  exact pureOf_run e w

theorem quiet_ok {s : SV} (h : Cx N w0 F0 D w F L B ρ l a) (e : quiet P l B o = some s) :
    (execOp a.eval o).run P w = .ok (.value (s.den ρ)) w ∧ s.good F ∧ s.under B.length = true := by
  unfold quiet at e
  cases ho : ownQ P l B o.op with
  | some q => rw [ho] at e; cases e; exact ownQ_ok h ho
  | none =>
    rw [ho] at e; simp only at e
    cases hs : strs l o.op with
    | some x => rw [hs] at e; cases e; exact ⟨strs_ok h hs, trivial, rfl⟩
    | none =>
      rw [hs] at e; simp only at e
      cases hes : eqS P l o.op with
      | some x => rw [hes] at e; cases e; exact ⟨eqS_ok h hes, trivial, rfl⟩
      | none =>
      rw [hes] at e; simp only at e
      obtain ⟨hp, hsel, e⟩ : allPlain l o.op.operands.toList = true ∧ selB o.op = false ∧ (match pureOf P (execOp (ρof l) o) with | some x => some (SV.v x) | none => none) = some s := by
        cases hq : allPlain l o.op.operands.toList && !selB o.op with
        | true => rw [hq] at e; simp at hq; exact ⟨hq.1, hq.2, e⟩
        | false => rw [hq] at e; cases e
      cases hx : pureOf P (execOp (ρof l) o) with
      | none => rw [hx] at e; cases e
      | some x =>
        rw [hx] at e; cases e
        exact ⟨pure_ok h (fun cs b hb => by rw [hb] at hsel; cases hsel) hp hx, trivial, rfl⟩

theorem wp_of_run {K : Act → World → Prop} {Q : Exit → Act → World → Prop} {w' : World} {v : Value} (h : (execOp a.eval o).run P w = .ok (.value v) w') (hK : K (a.put o.dst v) w') : o.wp P a w K Q := by
  unfold Oper.wp; rw [h]; exact hK
theorem wp_of_skip {K : Act → World → Prop} {Q : Exit → Act → World → Prop} {w' : World} (h : (execOp a.eval o).run P w = .ok .skip w') (hK : K (a.put o.dst undef) w') : o.wp P a w K Q := by
  unfold Oper.wp; rw [h]; exact hK
theorem wpList_go {ops : Array Oper} {Q : Exit → Act → World → Prop} {rest : List Oper} (hw : Region.wanted o (yielded ops a.tmps) = true) (h : o.wp P a w (wpList P ops Q rest) Q) : wpList P ops Q (o :: rest) a w := by
  unfold wpList; rw [if_pos hw]; exact .inl h
theorem wpList_pass {ops : Array Oper} {Q : Exit → Act → World → Prop} {rest : List Oper} (hw : Region.wanted o (yielded ops a.tmps) = false) (h : wpList P ops Q rest (a.put o.dst undef) w) : wpList P ops Q (o :: rest) a w := by
  unfold wpList; rw [if_neg (by simp [hw])]; exact h
end
end Go.Gw

