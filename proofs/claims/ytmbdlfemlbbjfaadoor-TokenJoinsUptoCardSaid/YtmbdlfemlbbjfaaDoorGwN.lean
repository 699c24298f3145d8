/- Slices that a call makes whole; arrays; addresses. For any program. -/
import Derived.Test.YtmbdlfemlbbjfaaDoorGwM
import Derived.Laws.MakeOwn
import Derived.Lib.Builder
import Derived.Laws.Externs
set_option linter.unusedVariables false
set_option linter.unusedSimpArgs false
set_option linter.unnecessarySimpa false
namespace Go.Gw
open Go.RowKit

/-- n times the same -/
def mkL {α : Type} (z : α) (n : Int) : Option (List α) := if 0 ≤ n ∧ n ≤ 4294967296 then some (List.replicate n.toNat z) else none
def zeroCells (P : Program) (e : TypeId) : Option (List Value) := match P.info? e with
  | some i => (match i.zero with | some z => some z.cells.toList | none => none)
  | none => none
def arrB (P : Program) (t : TypeId) : Option (Nat × TypeId) := match P.underlying t with
  | some (.array n e) => some (n, e)
  | _ => none
theorem arrB_under {P : Program} {T e : TypeId} {n : Nat} (h : arrB P T = some (n, e)) : P.underlying T = some (.array n e) := by
  unfold arrB at h
  cases hu : P.underlying T with
  | none => rw [hu] at h; cases h
  | some d => rw [hu] at h; cases d <;> simp only at h <;> cases h; rfl

section
variable {P : Program} {N : Nat} {w0 : World} {F0 : Heap} {D : Own} {w : World} {F : Heap} {L L' M M' : List SP} {B B' : List (Option Box)} {ρ : Nat → Nat} {l : Env} {a : Act} {o : Oper} {ops : Array Oper} {lit : List Nat} {rest : List Oper} {Q : Exit → Act → World → Prop}

theorem madeCells_get (z : Array Value) (n q : Nat) (hq : q < n) : (madeCells z n).toList[q]? = some z[q % z.size]! := by
  simp [madeCells, hq]

/-- new memory, told as one of the call's own slices -/
theorem Cx.allocAcc {α : Type} {d : Kind α} {e : TypeId} {c : Nat} {xs : List α} {cells : Array Value} (h : Cx N w0 F0 D w F L B ρ l a) (h1 : xs.length ≤ c) (h2 : c ≤ maxLen) (h3 : cells.size = c * d.sz) (h4 : rowIs F d cells.toList xs) :
    Cx N w0 F0 D (w.alloc (.cells cells e (0, 0))) F (accP e d (some ⟨w.heap.size, 0, none⟩) c xs :: L) B ρ l a := by
  have hst := h.st.alloc (.cells cells e (0, 0))
  refine ⟨h.size, h.nodef, h.env, h.good, h.bgood, h.fix, hst.retold fun x hx => ?_⟩
  have h5 : all F ([pt w.heap.size (.cells cells e (0, 0))] ++ (boxes ρ 0 B ++ L)) x := hx
  refine all_right (all_front h5) fun y hy => ?_
  obtain ⟨g, k, rfl, b, c', rfl⟩ := hy
  exact ⟨_, k, .inr ⟨_, cells, rfl, rfl, h1, h2, h3, h4⟩, b, c', rfl⟩

theorem Cx.makeAcc {α : Type} {d : Kind α} {T e : TypeId} {x y : Operand} {k k' : IntKind} {n : Int} {bytes : Nat} {xs : List α} {vs : List Value} (z : α) (zy : d.Y) (h : Cx N w0 F0 D w F L B ρ l a)
    (hg : gd ops lit [] l o.guard = some .yes) (hd : fitsB N o.dst = true) (hop : o.op = .makeSlice T x y) (hT : elemB P T = some e) (hz : zeroCells P e = some vs) (hi : infoB P e d.sz bytes = true) (hby : bytes ≤ 65536)
    (hp : SV.plains (d.f z zy) = some vs) (hgz : ∀ F, SV.goods F (d.f z zy)) (hx : ov l x = some (.v (.int k n))) (hy : ov l y = some (.v (.int k' n))) (hm : mkL z n = some xs)
    (hK : ∀ b w' a', Cx N w0 F0 D w' F (accP e d (some ⟨b, 0, none⟩) n.toNat xs :: L) B ρ (after l o.dst (.v (.slice (some ⟨b, 0, none⟩) xs.length n.toNat))) a' → wpList P ops Q rest a' w') : wpList P ops Q (o :: rest) a w := by
  have e1 : a.eval x = .int k n := h.eval hx
  have e2 : a.eval y = .int k' n := h.eval hy
  obtain ⟨i, zv, i1, i2, i3, i4, i5⟩ := infoB_ok hi
  unfold mkL at hm
  split at hm
  · rename_i hn
    cases hm
    have hvs : vs = zv.cells.toList := by
      unfold zeroCells at hz; rw [i1] at hz; simp only [i2] at hz; exact (Option.some.inj hz).symm
    have hbytes : (i.bytes : Int) * n ≤ 281474976710656 := by
      rw [i4]
      have h1 : (bytes : Int) * n ≤ 65536 * 4294967296 := Int.mul_le_mul (by omega) hn.2 hn.1 (by omega)
      omega
    have hrun := run_make (P := P) w T e i zv (elemB_under hT) i1 i2 k k' n n hn.1 (Int.le_refl _) hbytes (by omega)
    have hsz0 : zv.cells.size = d.sz := i5
    have h5 : Cx N w0 F0 D (w.alloc (.cells (madeCells zv.cells (n.toNat * i.size)) e)) F (accP e d (some ⟨w.heap.size, 0, none⟩) n.toNat (List.replicate n.toNat z) :: L) B ρ l a := by
      refine h.allocAcc (by simp) (by rw [maxLen_eq]; omega) (by rw [size_madeCells, i3]) fun j u hj => ?_
      obtain ⟨hj1, rfl⟩ := List.getElem?_eq_some_iff.1 hj
      rw [List.getElem_replicate]
      have hj2 : j < n.toNat := by simpa using hj1
      refine ⟨vs, d.shut hp (hgz F), fun q v hq => ?_⟩
      have hq1 := (List.getElem?_eq_some_iff.1 hq).1
      have hql : vs.length = d.sz := by rw [hvs, Array.length_toList, hsz0]
      have hq2 : q < d.sz := by omega
      have hlt : j * d.sz + q < n.toNat * i.size := by
        rw [i3]
        have : (j + 1) * d.sz ≤ n.toNat * d.sz := Nat.mul_le_mul_right _ hj2
        rw [Nat.add_mul] at this; omega
      rw [madeCells_get _ _ _ hlt, hsz0]
      have : (j * d.sz + q) % d.sz = q := by rw [Nat.mul_comm, Nat.mul_add_mod]; exact Nat.mod_eq_of_lt hq2
      rw [this]
      rw [hvs] at hq
      have hq3 : q < zv.cells.size := by rw [hsz0]; exact hq2
      rw [Array.getElem?_toList, Array.getElem?_eq_getElem hq3] at hq
      rw [getElem!_pos zv.cells q hq3]; exact hq
    have hl : (List.replicate n.toNat z).length = n.toNat := by simp
    refine h.oneOp hg hd (s := .v (.slice (some ⟨w.heap.size, 0, none⟩) (List.replicate n.toNat z).length n.toNat)) (ρ' := ρ) ?_ h5 trivial rfl (fun a' h' => hK _ _ a' h')
    unfold execOp; rw [hop]
    simp only [e1, e2, Sem.run_bind, hrun, Result.andThen_ok, Sem.run_pure, SV.den, hl, pure_bind]
  · cases hm

/-- an array's cells are from now on told as a slice of the call's own -/
theorem Cx.boxArr {α : Type} {d : Kind α} {e : TypeId} {k t m : Nat} {cells : List SV} (zs : List (α × d.Y)) (h : Cx N w0 F0 D w F L B ρ l a) (hB : B[k]? = some (some ⟨e, cells⟩)) (hs : look l t = some (.ptr k 0)) (hz : cells = (zs.map fun z => d.f z.1 z.2).flatten) (hm : zs.length = m) (hlim : m ≤ 4611686018427387904)
    (hpl : ∃ vs, SV.plains cells = some vs) (hB' : B.set k none = B') :
    ∃ b, Cx N w0 F0 D w F (accP e d (some ⟨b, 0, none⟩) m (zs.map (·.1)) :: L) B' ρ ((t, .v (.pointer (some ⟨b, 0, none⟩))) :: l) a := by
  subst hB'
  obtain ⟨vs, hvs⟩ := hpl
  have hden := SV.plains_dens ρ hvs
  have hbg := h.bgood _ (List.mem_of_getElem? hB)
  have hA : (accP e d (some ⟨ρ k, 0, none⟩) m (zs.map (·.1))).holds F (Heap.one (ρ k) (.cells (SV.dens ρ cells).toArray e (0, 0))) := by
    refine .inr ⟨_, _, rfl, rfl, by rw [List.length_map, hm]; exact Nat.le_refl _, by rw [maxLen_eq]; omega, ?_, ?_⟩
    · rw [List.size_toArray, dens_length, hz, flat_len, hm]
    · rw [hden]
      rw [hz] at hvs
      exact flat_row d hvs (by have := hbg.1; rw [← hz]; exact this)
  exact ⟨ρ k, (h.take_box hB hA).retell (s' := .v (.pointer (some ⟨ρ k, 0, none⟩))) hs rfl trivial rfl⟩

/-- an element's place in an array of the call's own -/
theorem Cx.accAddrA {α : Type} {d : Kind α} {T e : TypeId} {x j : Operand} {b m : Nat} {xs : List α} {k : IntKind} {n : Int} {v : α} (h : Cx N w0 F0 D w F L B ρ l a) (hg : gd ops lit [] l o.guard = some .yes) (hd : fitsB N o.dst = true)
    (hop : o.op = .indexAddr T x j) (hT : arrB P T = some (m, e)) (hs : sizeB P e = some d.sz) (hx : ov l x = some (.v (.pointer (some ⟨b, 0, none⟩)))) (hj : ov l j = some (.v (.int k n))) (hv : getI xs n = some v) (hm : xs.length = m)
    (hK : ∀ a', Cx N w0 F0 D w F L B ρ (after l o.dst (.v (.pointer (some ⟨b, n.toNat * d.sz, none⟩)))) a' → wpList P ops Q rest a' w) : wpList P ops Q (o :: rest) a w := by
  have e1 : a.eval x = .pointer (some ⟨b, 0, none⟩) := h.eval hx
  have e2 : a.eval j = .int k n := h.eval hj
  unfold getI at hv
  split at hv
  · rename_i h0
    have hlt := (List.getElem?_eq_some_iff.1 hv).1
    refine h.oneOp hg hd (s := .v (.pointer (some ⟨b, n.toNat * d.sz, none⟩))) (ρ' := ρ) ?_ h trivial rfl (fun a' h' => hK a' h')
    have hu := arrB_under hT
    have hin : 0 ≤ n ∧ n < (m : Int) := ⟨h0, by omega⟩
    unfold execOp; rw [hop]
    simp only [Instr.indexAt, e1, e2, asIntOf, Instr.sureAddr, Sem.run_bind, Sem.run_pure, Result.andThen_ok, run_underlying hu, hin, and_self, if_true, sizeB_run hs, SV.den, add_at, pure_bind, Nat.zero_add]
  · cases hv

/-- what is owned of a slice is from now on read alone -/
theorem Cx.freezeL {α : Type} {d : Kind α} {e : TypeId} {i : Nat} {A : Option Addr} {c : Nat} {xs : List α} (h : Cx N w0 F0 D w F L B ρ l a) (hL : L[i]? = some (accP e d A c xs)) :
    ∃ F', Cx N w0 F0 D w F' (L.eraseIdx i) B ρ l a ∧ xs.length ≤ c ∧ Row F' d A xs := by
  have hi' := boxes_get ρ B L hL
  obtain ⟨q, ha, hsub, hap, hd⟩ := h.st.own
  obtain ⟨g0, k0, hacc0, _, rfl, _, _⟩ := all_at hi' ha
  obtain ⟨g, hacc, hFg, hst⟩ := h.st.freezeAt hi' (fun g hg hgs b o e1 => by
    have : g = g0 := accP_one hg hgs hacc0 hsub.of_join_left
    subst this
    exact hd b o (Heap.join_left e1))
  rw [boxes_erase] at hst
  refine ⟨_, h.world (Heap.join_le_left _ _) hst, ?_⟩
  rcases hacc with ⟨rfl, rfl, rfl, rfl⟩ | ⟨b, cells, rfl, rfl, h1, _, _, h2⟩
  · exact ⟨Nat.le_refl _, .inl rfl⟩
  · exact ⟨h1, acc_row (c := c) F (Heap.apart_one.1 hFg) h2⟩
/-- an array of the call's own, cut: from then on it is read alone -/
theorem Cx.cutArr {α : Type} {d : Kind α} {T e e2 : TypeId} {x : Operand} {lo hi : Option Operand} {ol oh : Option Int} {xs r : List α} {i b m : Nat} (h : Cx N w0 F0 D w F L B ρ l a) (hg : gd ops lit [] l o.guard = some .yes) (hd : fitsB N o.dst = true)
    (hL : L[i]? = some (accP e2 d (some ⟨b, 0, none⟩) m xs)) (hm : xs.length = m)
    (hop : o.op = .slice T x lo hi none) (hT : arrB P T = some (m, e)) (hs : sizeB P e = some d.sz) (hx : ov l x = some (.v (.pointer (some ⟨b, 0, none⟩)))) (hl : bnd l lo = some ol) (hh : bnd l hi = some oh) (hr : cutL xs (ol.getD 0) (oh.getD xs.length) = some r)
    (hK : ∀ F' A' c' a', Cx N w0 F0 D w F' (L.eraseIdx i) B ρ (after l o.dst (SV.sl d r A' c')) a' → wpList P ops Q rest a' w) : wpList P ops Q (o :: rest) a w := by
  have e1 : a.eval x = .pointer (some ⟨b, 0, none⟩) := h.eval hx
  have hu := arrB_under hT
  unfold cutL at hr
  split at hr
  · rename_i hc
    cases hr
    have hlen : ((xs.drop (ol.getD 0).toNat).take ((oh.getD xs.length).toNat - (ol.getD 0).toNat)).length = (oh.getD xs.length).toNat - (ol.getD 0).toNat := by
      simp; omega
    have hb := sliceBounds_run (P := P) (b := false) (cap := m) (len := m) h hl hh hc.1 (by rw [← hm]; exact hc.2.1) (by rw [← hm]; exact hc.2.2) (Nat.le_refl _)
    have hrun : (Instr.sliceAt T (.pointer (some ⟨b, 0, none⟩)) (lo.map a.eval) (hi.map a.eval) none).run P w = .ok (.slice (some (if m = (ol.getD 0).toNat then ⟨b, 0, none⟩ else (⟨b, 0, none⟩ : Addr).add ((ol.getD 0).toNat * d.sz))) ((oh.getD xs.length).toNat - (ol.getD 0).toNat) (m - (ol.getD 0).toNat)) w := by
      rw [hm]
      simp only [Instr.sliceAt, Sem.run_bind, run_underlying hu, Result.andThen_ok, Instr.sureAddr, Sem.run_pure, pure_bind, hb, sizeB_run hs]
    obtain ⟨F', h2, hlc, hrow⟩ := h.freezeL hL
    refine h2.oneOp (F' := F') hg hd (s := SV.sl d _ (if m = (ol.getD 0).toNat then some ⟨b, 0, none⟩ else (some (⟨b, 0, none⟩ : Addr)).map (·.add ((ol.getD 0).toNat * d.sz))) (m - (ol.getD 0).toNat)) (ρ' := ρ) ?_ h2 ⟨by rw [hlen]; omega, hrow.cut hlc (by omega)⟩ rfl (hK _ _ _)
    unfold execOp; rw [hop]
    have hrun' := hrun
    simp only [e1, Sem.run_bind, Option.map_none, Sem.run_pure, pure_bind] at hrun' ⊢
    rw [hrun']
    simp only [Result.andThen_ok, SV.sl, SV.den, hlen]
    congr 2
    split <;> rfl
  · cases hr

/-- an address told as one without a type, and back -/
theorem Cx.shape (h : Cx N w0 F0 D w F L B ρ l a) {k : Nat} {e : TypeId} {cells : List SV} (hB : B[k]? = some (some ⟨e, cells⟩)) : w.shape? (ρ k) = some (e, cells.length) := by
  have h1 := h.box hB
  unfold World.shape?
  simp only at h1
  rw [h1]
  simp [dens_length]
theorem Cx.toUns {S T t e : TypeId} {x : Operand} {k off : Nat} {cells : List SV} (h : Cx N w0 F0 D w F L B ρ l a) (hg : gd ops lit [] l o.guard = some .yes) (hd : fitsB N o.dst = true) (hop : o.op = .convert S T x) (hS : P.underlying S = some (.pointer t)) (hT : P.underlying T = some .unsafePointer)
    (hsz : (sizeB P t).any (fun n => !(Nat.beq n 0)) = true) (hx : ov l x = some (.ptr k off)) (hB : B[k]? = some (some ⟨e, cells⟩)) (hoff : Nat.blt off cells.length = true)
    (hK : ∀ a', Cx N w0 F0 D w F L B ρ (after l o.dst (.ptr k off)) a' → wpList P ops Q rest a' w) : wpList P ops Q (o :: rest) a w := by
  have e1 : a.eval x = .pointer (some ⟨ρ k, off, none⟩) := h.eval hx
  refine h.oneOp hg hd (s := .ptr k off) (ρ' := ρ) ?_ h trivial (h.ogood hx).2 hK
  unfold sizeB at hsz
  cases hi : P.info? t with
  | none => rw [hi] at hsz; cases hsz
  | some j =>
    rw [hi] at hsz
    have hj : j.size ≠ 0 := by intro e0; simp [e0] at hsz
    have := Lib.run_to_unsafe (P := P) w ⟨ρ k, off, none⟩ hS hT hi hj (h.shape hB) (Nat.le_of_ble_eq_true hoff)
    unfold execOp; rw [hop]
    simp only [e1, Sem.run_bind, this, Result.andThen_ok, Sem.run_pure, SV.den, pure_bind]
theorem Cx.fromUns {S T t e : TypeId} {x : Operand} {k off : Nat} {cells : List SV} (h : Cx N w0 F0 D w F L B ρ l a) (hg : gd ops lit [] l o.guard = some .yes) (hd : fitsB N o.dst = true) (hop : o.op = .convert S T x) (hS : P.underlying S = some .unsafePointer) (hT : P.underlying T = some (.pointer t))
    (hi : (P.info? t).isSome = true) (hx : ov l x = some (.ptr k off)) (hB : B[k]? = some (some ⟨e, cells⟩)) (hlies : liesAt P P.depth e (cells.length / P.cellsOf e) off t 1 = true)
    (hK : ∀ a', Cx N w0 F0 D w F L B ρ (after l o.dst (.ptr k off)) a' → wpList P ops Q rest a' w) : wpList P ops Q (o :: rest) a w := by
  have e1 : a.eval x = .pointer (some ⟨ρ k, off, none⟩) := h.eval hx
  refine h.oneOp hg hd (s := .ptr k off) (ρ' := ρ) ?_ h trivial (h.ogood hx).2 hK
  obtain ⟨j, hj⟩ := Option.isSome_iff_exists.1 hi
  have := Lib.run_from_unsafe (P := P) w ⟨ρ k, off, none⟩ hS hT hj (h.shape hB) hlies
  unfold execOp; rw [hop]
  simp only [e1, Sem.run_bind, this, Result.andThen_ok, Sem.run_pure, SV.den, pure_bind]
theorem Cx.noEsc {f : FuncId} {fn : Func} {xs : Array Operand} {x : Operand} {ts : Array TypeId} {s : SV} (h : Cx N w0 F0 D w F L B ρ l a) (hg : gd ops lit [] l o.guard = some .yes) (hd : fitsB N o.dst = true) (hop : o.op = .call { callee := .value (.func f), args := xs, argTypes := ts }) (hxs : xs = #[x])
    (hf : P.funcs[f]? = some fn) (h1 : (fn.name == "runtime.NumGoroutine") = false) (h2 : fn.body.isNone = true) (h3 : Extern.findNext fn = none) (h4 : Extern.find fn = some Extern.AbiNoEscape.same) (hx : ov l x = some s)
    (hK : ∀ a', Cx N w0 F0 D w F L B ρ (after l o.dst s) a' → wpList P ops Q rest a' w) : wpList P ops Q (o :: rest) a w := by
  subst hxs
  refine h.oneOp hg hd (s := s) (ρ' := ρ) ?_ h (h.ogood hx).1 (h.ogood hx).2 hK
  have e1 := h.eval hx
  have hr := run_callFunc_extern hf h1 h2 h3 h4 #[a.eval x] w
  rw [Lib.run_noEscape] at hr
  unfold execOp
  rw [hop]
  simp only [resolve, Sem.run_bind, Act.eval, Deferred.ofValue, Sem.run_pure, Result.andThen_ok, invoke, Array.empty_append, Array.append_empty]
  have hm : Array.map a.eval #[x] = #[a.eval x] := by simp
  rw [hm]
  refine Eq.trans hr ?_
  rw [e1]; rfl
/-- an address held against nil, or against itself -/
theorem Cx.ptrNil {T T2 t : TypeId} {x y : Operand} {s : SV} {q : Option Addr} (h : Cx N w0 F0 D w F L B ρ l a) (hg : gd ops lit [] l o.guard = some .yes) (hd : fitsB N o.dst = true) (hop : o.op = .binOp .eql T x y T2) (hT : P.underlying T = some (.pointer t))
    (hx : ov l x = some s) (hs : s.den ρ = .pointer q) (hy : ov l y = some (.v (.pointer none)))
    (hK : ∀ a', Cx N w0 F0 D w F L B ρ (after l o.dst (.v (.bool q.isNone))) a' → wpList P ops Q rest a' w) : wpList P ops Q (o :: rest) a w := by
  refine h.oneOp hg hd (s := .v (.bool q.isNone)) (ρ' := ρ) ?_ h trivial rfl hK
  have e1 := h.eval hx
  rw [hs] at e1
  have e2 : a.eval y = .pointer none := h.eval hy
  have hq : ∀ d : Nat, (Op.equalIn (d + 1) T (.pointer q) (.pointer none)).run P w = .ok q.isNone w := fun d => by
    cases q <;> simp [Op.equalIn, run_underlying hT]
  unfold execOp; rw [hop]
  have : (binOp .eql T (.pointer q) (.pointer none)).run P w = .ok (.bool q.isNone) w := by
    simp only [binOp]
    simp [Op.equal, Op.maxDepth, hq 9999]
  simp only [e1, e2, eqGuard, Bool.not_true, Bool.false_eq_true, if_false, Sem.run_bind, this, Result.andThen_ok, Sem.run_pure, SV.den, pure_bind]
theorem Cx.ptrSelf {T T2 t : TypeId} {x y : Operand} {s s2 : SV} {p : Addr} (h : Cx N w0 F0 D w F L B ρ l a) (hg : gd ops lit [] l o.guard = some .yes) (hd : fitsB N o.dst = true) (hop : o.op = .binOp .neq T x y T2) (hT : P.underlying T = some (.pointer t)) (hi : (P.info? t).isSome = true)
    (hx : ov l x = some s) (hs : s.den ρ = .pointer (some p)) (hy : ov l y = some s2) (hs2 : s2.den ρ = .pointer (some p))
    (hK : ∀ a', Cx N w0 F0 D w F L B ρ (after l o.dst (.v (.bool false))) a' → wpList P ops Q rest a' w) : wpList P ops Q (o :: rest) a w := by
  refine h.oneOp hg hd (s := .v (.bool false)) (ρ' := ρ) ?_ h trivial rfl hK
  have e1 := h.eval hx
  rw [hs] at e1
  have e2 := h.eval hy
  rw [hs2] at e2
  obtain ⟨j, hj⟩ := Option.isSome_iff_exists.1 hi
  have := Lib.run_neq_ptr_same (P := P) w p hT hj
  unfold execOp; rw [hop]
  simp only [e1, e2, eqGuard, Bool.not_true, Bool.false_eq_true, if_false, Sem.run_bind, this, Result.andThen_ok, Sem.run_pure, SV.den, pure_bind]
end
theorem No.unfix {n : Nat} {ρ : Nat → Nat} : ∀ k b, No.known[k]? = some b → k < n ∧ ρ k = b := fun k b e => by simp [No] at e
end Go.Gw
