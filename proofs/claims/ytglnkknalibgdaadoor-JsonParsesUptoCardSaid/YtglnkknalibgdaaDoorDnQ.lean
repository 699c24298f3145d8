/- Library functions by their contracts; what may not be reached; data out of cells. For any program. -/
import Derived.Test.YtglnkknalibgdaaDoorDnP
import Derived.Test.YtglnkknalibgdaaDoorGwU
set_option linter.unusedVariables false
set_option linter.unusedSimpArgs false
set_option linter.unnecessarySimpa false
namespace Go.Dn
open Go.Gw Go.RowKit
set_option linter.unusedSimpArgs false
section
variable {T : Nat → Type}
def cInt (k : IntKind) : AV T → Option Int
  | .v (.int k' n) => if k' = k then some n else none
  | _ => none
def cStr : AV T → Option Str
  | .v (.string q) => some q.data.toList
  | _ => none
def cSl (e : Nat) : AV T → Option (List (T e))
  | .sl e' xs => if h : e' = e then some (h ▸ xs) else none
  | .v (.slice none 0 0) => some []
  | _ => none
def cByte : AV T → Option UInt8
  | .v (.int .u8 n) => toB n
  | _ => none
end
section
variable {Y : Tys} {hY : TysOk Y} {P : Program} {F : Heap} {ρ : List Pl} {G : Heap → Prop}
theorem cInt_ok {k : IntKind} {a : AV Y.T} {n : Int} {u : Value} (h : cInt k a = some n) (r : Rel Y F ρ a u) : Rel Y F ρ (.v (.int k n)) u := by
  unfold cInt at h
  split at h
  · split at h
    · rename_i hk; subst hk; cases h; exact r
    · cases h
  · cases h
theorem cStr_ok {a : AV Y.T} {s : Str} {u : Value} (h : cStr a = some s) (r : Rel Y F ρ a u) : Rel Y F ρ (.v (.string ⟨⟨s⟩⟩)) u := by
  unfold cStr at h
  split at h
  · cases h; exact r
  · cases h
theorem cSl_ok {e : Nat} {a : AV Y.T} {xs : List (Y.T e)} {u : Value} (h : cSl e a = some xs) (r : Rel Y F ρ a u) : Rel Y F ρ (.sl e xs) u := by
  refine getSl_ok (e := e) (a := a) ?_ r
  unfold cSl at h
  unfold getSl
  split at h
  · exact h
  · exact h
  · cases h
theorem cByte_ok {a : AV Y.T} {b : UInt8} {u : Value} (h : cByte a = some b) (r : Rel Y F ρ a u) : Rel Y F ρ (.v (.int .u8 (b.toNat : Int))) u := by
  unfold cByte at h
  split at h
  · have := toB_some h; rw [← this]; exact r
  · cases h
/-- one told way, or else another -/
def orC (Y : Tys) (σ : Shape) (outs : List OutP) (g : ParS Y σ → Option (ParO Y outs)) (C : Callee Y) : Callee Y where
  run {R} args ms k := match matchAt Y σ (⟨zipE Y (keys σ.l) args, ms⟩ : Sy Y.T) with
    | some z => bif Nat.beq args.length (keys σ.l).length then Option.bind (g z) (fun zo => outK2 Y k outs zo) else none
    | none => C.run args ms k
  keep := C.keep
  shs := C.shs
  bor := C.bor
theorem COk.or {f : FuncId} {keep : List Nat} {σ : Shape} {outs : List OutP} {g : ParS Y σ → Option (ParO Y outs)} {C : Callee Y} (h : COk hY P G f (callee Y keep σ outs g)) (h2 : COk hY P G f C) : COk hY P G f (orC Y σ outs g C) := by
  refine ⟨h.1, fun {R} args ms r k e => ?_⟩
  simp only [orC] at e
  split at e
  · rename_i z hz
    refine h.2 args ms r k ?_
    simp only [callee, hz]
    exact e
  · exact h2.2 args ms r k e
def laidC (Y : Tys) (σ : List Shape) (C : Callee Y) : Callee Y := ⟨C.run, C.keep, σ, C.bor⟩
/-- it borrows what it is handed -/
def borC (Y : Tys) (C : Callee Y) : Callee Y := ⟨C.run, C.keep, C.shs, true⟩
theorem COk.borC {f : FuncId} {C : Callee Y} (h : COk hY P G f C) : COk hY P G f (borC Y C) := ⟨h.1, h.2⟩
theorem COk.laid {f : FuncId} {σ : List Shape} {C : Callee Y} (h : COk hY P G f C) : COk hY P G f (laidC Y σ C) := ⟨h.1, h.2⟩
theorem mapO_some {A B : Type} {g : A → B} {o : Option A} {x : B} (h : mapO g o = some x) : ∃ y, o = some y ∧ g y = x := by
  cases o with
  | none => cases h
  | some y => cases h; exact ⟨y, rfl, rfl⟩
/-- where nothing is said -/
theorem COk.none {f : FuncId} {keep : List Nat} {σ : Shape} {outs : List OutP} (hc : Callable P f) : COk hY P G f (callee Y keep σ outs (fun _ => none)) := by
  refine ⟨hc, fun {R} args ms r k e => ?_⟩
  simp only [callee] at e
  split at e
  · obtain ⟨_, e⟩ := bif_do e; cases e
  · cases e
def zipE' (T : Nat → Type) : List Nat → List (AV T) → AEnv T
  | t :: r, a :: l => (t, a) :: zipE' T r l
  | _, _ => []
theorem zipE_eq : ∀ (ks : List Nat) (xs : List (AV Y.T)), zipE Y ks xs = zipE' Y.T ks xs
  | [], xs => by cases xs <;> rfl
  | k :: ks, [] => rfl
  | k :: ks, x :: xs => by simp only [zipE, zipE', zipE_eq ks xs]
theorem lookA_iota {T : Nat → Type} : ∀ {n k i : Nat} {xs : List (AV T)}, i < n → lookA (zipE' T (iota k n) xs) (k + i) = xs[i]?
  | 0, k, i, xs, h => by omega
  | n + 1, k, i, [], h => rfl
  | n + 1, k, 0, x :: xs, h => by simp [iota, zipE', lookA]
  | n + 1, k, i + 1, x :: xs, h => by
    have hne : Nat.beq k (k + (i + 1)) = false := by
      cases hb : Nat.beq k (k + (i + 1)) with
      | false => rfl
      | true => have := Nat.eq_of_beq_eq_true hb; omega
    simp only [iota, zipE', lookA, hne, cond_false]
    have := lookA_iota (n := n) (k := k + 1) (i := i) (xs := xs) (by omega)
    rw [show k + (i + 1) = k + 1 + i by omega]
    simpa using this
theorem putL_length : ∀ (l : List Pat) (r : Type) (z : ParL Y l r), (putL Y l r z).1.length = l.length
  | [], r, z => rfl
  | p :: l, r, z => by simp only [putL, List.length_cons, putL_length l r]
theorem pats_length : ∀ l : List (Nat × Pat), (pats l).length = (keys l).length
  | [] => rfl
  | (_, _) :: l => by simp [pats, keys, pats_length l]
/-- a library's contract -/
theorem COk.extR {f : FuncId} {keep : List Nat} {l : List (Nat × Pat)} {o : OutP} {g : ParS Y ⟨l, []⟩ → Option (ParO Y [o])} (hc : Callable P f) (ho : o.pan = false ∧ o.m = []) (hkeys : beqL (keys l) (iota 0 (keys l).length) = true)
    (h : ∀ z zo, g z = some zo → ∀ (w : World) (F : Heap) (vals : List Value), G F → F.Sub w → Rels Y F [] (putL Y (pats l) Unit z).1 vals →
      Calls P f vals.toArray w fun e w' => ∃ F' u, e = .returned u ∧ Rel Y F' [] (avOf Y (fillS Y o.sh zo).l) u ∧ Gw.St w F No w' F' []) : COk hY P G f (callee Y keep ⟨l, []⟩ [o] g) := by
  refine ⟨hc, fun {R} args ms r k e w F ρ os vals D hGF hargs hml hol hm hst0 => ?_⟩
  simp only [callee] at e
  have hkeys := beqL_ok hkeys
  split at e
  · rename_i z hz
    obtain ⟨hlen, e⟩ := bif_do e
    have hlen := Nat.eq_of_beq_eq_true hlen
    obtain ⟨zo, hzo, hk⟩ := bnd_some e
    have h3 := h z zo hzo
    have hvl : vals.length = args.length := hargs.1
    have h0 : Cy hY vals.length w F D [] w F ρ os (⟨zipE Y (keys l) args, ms⟩ : Sy Y.T) ⟨vals.toArray, []⟩ := by
      refine ⟨⟨rfl, rfl, fun t x hx => ?_⟩, hml, hol, hm, hst0, fun k b hb => by simp at hb, Nat.zero_le _⟩
      obtain ⟨i, h3, h4⟩ := zipE_ok hx
      rw [hkeys] at h3
      have hi : t = i := by have := iota_get h3; omega
      subst hi
      obtain ⟨u, hu, hr⟩ := hargs.get h4
      have h5 := (List.getElem?_eq_some_iff.1 hu).1
      refine ⟨h5, ?_⟩
      have : (vals.toArray).getD t undef = u := by simp [Array.getD, h5]; exact (List.getElem?_eq_some_iff.1 hu).2
      rw [this]; exact hr
    have hc1 := matchAt_ok h0 hz
    have hms : ms = [] := by
      have := hc1.len
      rw [← hml] at this
      exact List.length_eq_zero_iff.1 this.symm
    subst hms
    have hρ : ρ = [] := List.length_eq_zero_iff.1 hml.symm
    subst hρ
    have hos : os = [] := List.length_eq_zero_iff.1 hol
    subst hos
    have hvals : Rels Y F [] (putL Y (pats l) Unit z).1 vals := by
      refine ⟨?_, fun j a u ha hu => ?_⟩
      · exact (hvl.trans hlen).trans ((putL_length (pats l) Unit z).trans (pats_length l)).symm
      · have hj : j < (keys l).length := by
          exact Nat.lt_of_lt_of_eq (List.getElem?_eq_some_iff.1 ha).1 ((putL_length (pats l) Unit z).trans (pats_length l))
        have h4 := lookA_iota (T := Y.T) (n := (keys l).length) (k := 0) (xs := (putL Y (pats l) Unit z).1) hj
        rw [Nat.zero_add, ha] at h4
        have h5 : lookA (fillS Y ⟨l, []⟩ z).l j = some a := by
          show lookA (zipE Y (keys l) (putL Y (pats l) Unit z).1) j = some a
          rw [hkeys, zipE_eq]
          exact h4
        have h6 := (hc1.e.env j a h5).2
        have h7 := (List.getElem?_eq_some_iff.1 hu).1
        have h8 : (vals.toArray).getD j undef = u := by simp [Array.getD, h7]; exact (List.getElem?_eq_some_iff.1 hu).2
        rwa [h8] at h6
    refine (h3 w F vals hGF hst0.view hvals).mono fun en w' hr => ?_
    obtain ⟨F', u, rfl, hres, hst⟩ := hr
    simp only [outK2, outKc] at hk
    refine ⟨_, F', [], [], _, hk, ?_, ?_, rfl, ?_, hst.widen D, Nat.le_refl _, fun k ty l p hk1 => by simp at hk1⟩
    · unfold out1
      rw [ho.1]
      exact .ret hres
    · obtain ⟨pan, p, m⟩ := o
      obtain ⟨rfl, rfl⟩ := ho
      rfl
    · intro k x p o hk1 hp
      simp at hp
  · cases e
/-- a library's contract on values -/
theorem COk.ext {f : FuncId} {keep : List Nat} {l : List (Nat × Pat)} {o : OutP} {g : ParS Y ⟨l, []⟩ → Option (ParO Y [o])} (hc : Callable P f) (ho : o.pan = false ∧ o.m = []) (hkeys : beqL (keys l) (iota 0 (keys l).length) = true)
    (h : ∀ z zo, g z = some zo → ∃ vs x, AV.plains (putL Y (pats l) Unit z).1 = some vs ∧ avOf Y (fillS Y o.sh zo).l = .v x ∧
      ∀ (w : World) (F : Heap), G F → F.Sub w → Calls P f vs.toArray w (Ret0 w F fun s => s = .v x)) : COk hY P G f (callee Y keep ⟨l, []⟩ [o] g) :=
  COk.extR hc ho hkeys fun z zo hz w F vals hGF hv hr => by
    obtain ⟨vs, x, h1, h2, h3⟩ := h z zo hz
    have := AV.plains_rel (Y := Y) (F := F) (ρ := []) h1 hr
    subst this
    refine (h3 w F hGF hv).mono fun en w' hr => ?_
    obtain ⟨F', s, rfl, hgs, hu, hst, rfl⟩ := hr
    exact ⟨F', x, rfl, by rw [h2]; exact .v, hst⟩
end
end Go.Dn

