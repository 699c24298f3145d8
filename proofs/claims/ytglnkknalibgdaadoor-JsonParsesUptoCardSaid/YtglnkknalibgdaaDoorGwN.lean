/- Slices that a call makes whole; arrays; addresses. For any program. -/
import Derived.Test.YtglnkknalibgdaaDoorGwM
import Derived.Laws.MakeOwn
import Derived.Lib.Builder
import Derived.Laws.Externs
set_option linter.unusedVariables false
set_option linter.unusedSimpArgs false
set_option linter.unnecessarySimpa false
namespace Go.Gw
open Go.RowKit

def zeroCells (P : Program) (e : TypeId) : Option (List Value) := match P.info? e with
  | some i => (match i.zero with | some z => some z.cells.toList | none => none)
  | none => none
def arrB (P : Program) (t : TypeId) : Option (Nat × TypeId) := match P.underlying t with
  | some (.array n e) => some (n, e)
  | _ => none
theorem arrB_under {P : Program} {T e : TypeId} {n : Nat} (h : arrB P T = some (n, e)) : P.underlying T = some (.array n e) := by
  unfold arrB at h
  cases hu : P.underlying T with
  | none => rw [hu] at h; cases h
  | some d => rw [hu] at h; cases d <;> simp only at h <;> cases h; rfl

section
variable {P : Program} {N : Nat} {w0 : World} {F0 : Heap} {D : Own} {w : World} {F : Heap} {L L' M M' : List SP} {B B' : List (Option Box)} {ρ : Nat → Nat} {l : Env} {a : Act} {o : Oper} {ops : Array Oper} {lit : List Nat} {rest : List Oper} {Q : Exit → Act → World → Prop}

/-- an array's cells are from now on told as a slice of the call's own -/
theorem Cx.boxArr {α : Type} {d : Kind α} {e : TypeId} {k t m : Nat} {cells : List SV} (zs : List (α × d.Y)) (h : Cx N w0 F0 D w F L B ρ l a) (hB : B[k]? = some (some ⟨e, cells⟩)) (hs : look l t = some (.ptr k 0)) (hz : cells = (zs.map fun z => d.f z.1 z.2).flatten) (hm : zs.length = m) (hlim : m ≤ 4611686018427387904)
    (hpl : ∃ vs, SV.plains cells = some vs) (hB' : B.set k none = B') :
    ∃ b, Cx N w0 F0 D w F (accP e d (some ⟨b, 0, none⟩) m (zs.map (·.1)) :: L) B' ρ ((t, .v (.pointer (some ⟨b, 0, none⟩))) :: l) a := by
  subst hB'
  obtain ⟨vs, hvs⟩ := hpl
  have hden := SV.plains_dens ρ hvs
  have hbg := h.bgood _ (List.mem_of_getElem? hB)
  have hA : (accP e d (some ⟨ρ k, 0, none⟩) m (zs.map (·.1))).holds F (Heap.one (ρ k) (.cells (SV.dens ρ cells).toArray e (0, 0))) := by
    refine .inr ⟨_, _, rfl, rfl, by rw [List.length_map, hm]; exact Nat.le_refl _, by rw [maxLen_eq]; omega, ?_, ?_⟩
    · rw [List.size_toArray, dens_length, hz, flat_len, hm]
    · rw [hden]
      rw [hz] at hvs
      exact flat_row d hvs (by have := hbg.1; rw [← hz]; exact this)
  exact ⟨ρ k, (h.take_box hB hA).retell (s' := .v (.pointer (some ⟨ρ k, 0, none⟩))) hs rfl trivial rfl⟩

/-- an element's place in an array of the call's own -/
theorem Cx.accAddrA {α : Type} {d : Kind α} {T e : TypeId} {x j : Operand} {b m : Nat} {xs : List α} {k : IntKind} {n : Int} {v : α} (h : Cx N w0 F0 D w F L B ρ l a) (hg : gd ops lit [] l o.guard = some .yes) (hd : fitsB N o.dst = true)
    (hop : o.op = .indexAddr T x j) (hT : arrB P T = some (m, e)) (hs : sizeB P e = some d.sz) (hx : ov l x = some (.v (.pointer (some ⟨b, 0, none⟩)))) (hj : ov l j = some (.v (.int k n))) (hv : getI xs n = some v) (hm : xs.length = m)
    (hK : ∀ a', Cx N w0 F0 D w F L B ρ (after l o.dst (.v (.pointer (some ⟨b, n.toNat * d.sz, none⟩)))) a' → wpList P ops Q rest a' w) : wpList P ops Q (o :: rest) a w := by
  have e1 : a.eval x = .pointer (some ⟨b, 0, none⟩) := h.eval hx
  have e2 : a.eval j = .int k n := h.eval hj
  unfold getI at hv
  split at hv
  · rename_i h0
    have hlt := (List.getElem?_eq_some_iff.1 hv).1
    refine h.oneOp hg hd (s := .v (.pointer (some ⟨b, n.toNat * d.sz, none⟩))) (ρ' := ρ) ?_ h trivial rfl (fun a' h' => hK a' h')
    have hu := arrB_under hT
    have hin : 0 ≤ n ∧ n < (m : Int) := ⟨h0, by omega⟩
    unfold execOp; rw [hop]
    simp only [Instr.indexAt, e1, e2, asIntOf, Instr.sureAddr, Sem.run_bind, Sem.run_pure, Result.andThen_ok, run_underlying hu, hin, and_self, if_true, sizeB_run hs, SV.den, add_at, pure_bind, Nat.zero_add]
  · cases hv

/-- what is owned of a slice is from now on read alone -/
theorem Cx.freezeL {α : Type} {d : Kind α} {e : TypeId} {i : Nat} {A : Option Addr} {c : Nat} {xs : List α} (h : Cx N w0 F0 D w F L B ρ l a) (hL : L[i]? = some (accP e d A c xs)) :
    ∃ F', Cx N w0 F0 D w F' (L.eraseIdx i) B ρ l a ∧ xs.length ≤ c ∧ Row F' d A xs := by
  have hi' := boxes_get ρ B L hL
  obtain ⟨q, ha, hsub, hap, hd⟩ := h.st.own
  obtain ⟨g0, k0, hacc0, _, rfl, _, _⟩ := all_at hi' ha
  obtain ⟨g, hacc, hFg, hst⟩ := h.st.freezeAt hi' (fun g hg hgs b o e1 => by
    have : g = g0 := accP_one hg hgs hacc0 hsub.of_join_left
    subst this
    exact hd b o (Heap.join_left e1))
  rw [boxes_erase] at hst
  refine ⟨_, h.world (Heap.join_le_left _ _) hst, ?_⟩
  rcases hacc with ⟨rfl, rfl, rfl, rfl⟩ | ⟨b, cells, rfl, rfl, h1, _, _, h2⟩
  · exact ⟨Nat.le_refl _, .inl rfl⟩
  · exact ⟨h1, acc_row (c := c) F (Heap.apart_one.1 hFg) h2⟩
/-- an array of the call's own, cut: from then on it is read alone -/
theorem Cx.cutArr {α : Type} {d : Kind α} {T e e2 : TypeId} {x : Operand} {lo hi : Option Operand} {ol oh : Option Int} {xs r : List α} {i b m : Nat} (h : Cx N w0 F0 D w F L B ρ l a) (hg : gd ops lit [] l o.guard = some .yes) (hd : fitsB N o.dst = true)
    (hL : L[i]? = some (accP e2 d (some ⟨b, 0, none⟩) m xs)) (hm : xs.length = m)
    (hop : o.op = .slice T x lo hi none) (hT : arrB P T = some (m, e)) (hs : sizeB P e = some d.sz) (hx : ov l x = some (.v (.pointer (some ⟨b, 0, none⟩)))) (hl : bnd l lo = some ol) (hh : bnd l hi = some oh) (hr : cutL xs (ol.getD 0) (oh.getD xs.length) = some r)
    (hK : ∀ F' A' c' a', Cx N w0 F0 D w F' (L.eraseIdx i) B ρ (after l o.dst (SV.sl d r A' c')) a' → wpList P ops Q rest a' w) : wpList P ops Q (o :: rest) a w := by
  have e1 : a.eval x = .pointer (some ⟨b, 0, none⟩) := h.eval hx
  have hu := arrB_under hT
  unfold cutL at hr
  split at hr
  · rename_i hc
    cases hr
    have hlen : ((xs.drop (ol.getD 0).toNat).take ((oh.getD xs.length).toNat - (ol.getD 0).toNat)).length = (oh.getD xs.length).toNat - (ol.getD 0).toNat := by
      simp; omega
    have hb := sliceBounds_run (P := P) (b := false) (cap := m) (len := m) h hl hh hc.1 (by rw [← hm]; exact hc.2.1) (by rw [← hm]; exact hc.2.2) (Nat.le_refl _)
    have hrun : (Instr.sliceAt T (.pointer (some ⟨b, 0, none⟩)) (lo.map a.eval) (hi.map a.eval) none).run P w = .ok (.slice (some (if m = (ol.getD 0).toNat then ⟨b, 0, none⟩ else (⟨b, 0, none⟩ : Addr).add ((ol.getD 0).toNat * d.sz))) ((oh.getD xs.length).toNat - (ol.getD 0).toNat) (m - (ol.getD 0).toNat)) w := by
      rw [hm]
      simp only [Instr.sliceAt, Sem.run_bind, run_underlying hu, Result.andThen_ok, Instr.sureAddr, Sem.run_pure, pure_bind, hb, sizeB_run hs]
    obtain ⟨F', h2, hlc, hrow⟩ := h.freezeL hL
    refine h2.oneOp (F' := F') hg hd (s := SV.sl d _ (if m = (ol.getD 0).toNat then some ⟨b, 0, none⟩ else (some (⟨b, 0, none⟩ : Addr)).map (·.add ((ol.getD 0).toNat * d.sz))) (m - (ol.getD 0).toNat)) (ρ' := ρ) ?_ h2 ⟨by rw [hlen]; omega, hrow.cut hlc (by omega)⟩ rfl (hK _ _ _)
    unfold execOp; rw [hop]
    have hrun' := hrun
    simp only [e1, Sem.run_bind, Option.map_none, Sem.run_pure, pure_bind] at hrun' ⊢
    rw [hrun']
    simp only [Result.andThen_ok, SV.sl, SV.den, hlen]
    congr 2
    split <;> rfl
  · cases hr

/-- an address told as one without a type, and back -/
theorem Cx.shape (h : Cx N w0 F0 D w F L B ρ l a) {k : Nat} {e : TypeId} {cells : List SV} (hB : B[k]? = some (some ⟨e, cells⟩)) : w.shape? (ρ k) = some (e, cells.length) := by
  have h1 := h.box hB
  unfold World.shape?
  simp only at h1
  rw [h1]
  simp [dens_length]
end
theorem No.unfix {n : Nat} {ρ : Nat → Nat} : ∀ k b, No.known[k]? = some b → k < n ∧ ρ k = b := fun k b e => by simp [No] at e
end Go.Gw

