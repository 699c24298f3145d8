/- Values told without addresses, and what they mean. For any program. -/
import Derived.Test.YtglnkknalibgdaaDoorGwS
set_option linter.unusedVariables false
set_option linter.unusedSimpArgs false
set_option linter.unnecessarySimpa false
namespace Go.Dn
open Go.Gw Go.RowKit

/-- a value; T: the data that slices hold, by the elements' type -/
inductive AV (T : Nat → Type) where
  | junk
  | v (x : Value)
  | sl (e : Nat) (xs : List (T e))
  | own (k : Nat)
  | oel (k s : Nat) (i : Int) (off : Nat)
  | ptr (k off : Nat)
  | el (l : List (AV T))
  | agg (l : List (AV T))
  | tup (l : List (AV T))
  | fn (f : Nat) (l : List (AV T))
  | err (x : GErr)

/-- the data of a program's slices: a type's elements as cells -/
structure Tys where
  T : Nat → Type
  sz : Nat → Nat
  cells : (e : Nat) → T e → List (AV T)
  close : (e : Nat) → List (AV T) → Option (T e)
  byt : Nat
  isB : T byt = UInt8
  bld : Nat → List Nat
  /-- what may be a key: strings (some none), numbers -/
  kt : Nat → Option (Option IntKind)
  /-- a value of several cells -/
  row : Nat → Bool

/-- where an object of the call's own lies -/
structure Pl where
  blk : Nat
  A : Option Addr
  n : Nat
  c : Nat
  mp : Bool
/-- a slice, or a map -/
def Pl.val (p : Pl) : Value := bif p.mp then .map (some p.blk) else .slice p.A p.n p.c

theorem Pl.val_sl {p : Pl} (h : p.mp = false) : p.val = .slice p.A p.n p.c := by unfold Pl.val; rw [h]; rfl
theorem Pl.val_mp {p : Pl} (h : p.mp = true) : p.val = .map (some p.blk) := by unfold Pl.val; rw [h]; rfl

/-- a map: its entries with their stamps, the next stamp -/
structure MapD (K V : Type) where
  es : List (K × V × Nat)
  clock : Nat

inductive Rel (Y : Tys) (F : Heap) (ρ : List Pl) : AV Y.T → Value → Prop where
  | junk {u : Value} : Rel Y F ρ .junk u
  | v {x : Value} : Rel Y F ρ (.v x) x
  | sl {e : Nat} {xs : List (Y.T e)} {A : Option Addr} {c : Nat} (b off : Nat) (vs : Nat → List Value) (hc : xs.length ≤ c) (hA : ∀ (i : Nat) (x : Y.T e), xs[i]? = some x → A = some ⟨b, off, none⟩)
      (hv : ∀ (i : Nat) (x : Y.T e), xs[i]? = some x → (vs i).length = Y.sz e ∧ cellsF F b (off + i * Y.sz e) (vs i))
      (h : ∀ (i : Nat) (x : Y.T e) (j : Nat) (a : AV Y.T) (u : Value), xs[i]? = some x → (Y.cells e x)[j]? = some a → (vs i)[j]? = some u → Rel Y F ρ a u) : Rel Y F ρ (.sl e xs) (.slice A xs.length c)
  | own {k : Nat} {pl : Pl} (h : ρ[k]? = some pl) : Rel Y F ρ (.own k) pl.val
  | oel {k s : Nat} {i : Int} {off : Nat} {pl : Pl} (h : ρ[k]? = some pl) : Rel Y F ρ (.oel k s i off) (.pointer (some ⟨pl.blk, i.toNat * s + off, none⟩))
  | ptr {k off : Nat} {pl : Pl} (h : ρ[k]? = some pl) : Rel Y F ρ (.ptr k off) (.pointer (some ⟨pl.blk, off, none⟩))
  | el {l : List (AV Y.T)} {b off : Nat} (vs : List Value) (hl : vs.length = l.length) (hc : cellsF F b off vs) (h : ∀ (j : Nat) (a : AV Y.T) (u : Value), l[j]? = some a → vs[j]? = some u → Rel Y F ρ a u) : Rel Y F ρ (.el l) (.pointer (some ⟨b, off, none⟩))
  | agg {l : List (AV Y.T)} {vs : List Value} (hl : vs.length = l.length) (h : ∀ (j : Nat) (a : AV Y.T) (u : Value), l[j]? = some a → vs[j]? = some u → Rel Y F ρ a u) : Rel Y F ρ (.agg l) (.agg vs.toArray)
  | tup {l : List (AV Y.T)} {vs : List Value} (hl : vs.length = l.length) (h : ∀ (j : Nat) (a : AV Y.T) (u : Value), l[j]? = some a → vs[j]? = some u → Rel Y F ρ a u) : Rel Y F ρ (.tup l) (.tuple vs.toArray)
  | fn {f : Nat} {l : List (AV Y.T)} {vs : List Value} (hl : vs.length = l.length) (h : ∀ (j : Nat) (a : AV Y.T) (u : Value), l[j]? = some a → vs[j]? = some u → Rel Y F ρ a u) : Rel Y F ρ (.fn f l) (.func (.func f) #[] vs.toArray)
  | err {e : GErr} {q : TypeId × Value} : Rel Y F ρ (.err e) (errV e q)

def Rels (Y : Tys) (F : Heap) (ρ : List Pl) (l : List (AV Y.T)) (vs : List Value) : Prop :=
  vs.length = l.length ∧ ∀ (j : Nat) (a : AV Y.T) (u : Value), l[j]? = some a → vs[j]? = some u → Rel Y F ρ a u

section lists
variable {Y : Tys} {F : Heap} {ρ : List Pl}
theorem Rels.nil : Rels Y F ρ [] [] := ⟨rfl, fun _ _ _ h => by simp at h⟩
theorem Rels.cons {a : AV Y.T} {u : Value} {l : List (AV Y.T)} {vs : List Value} (h : Rel Y F ρ a u) (r : Rels Y F ρ l vs) : Rels Y F ρ (a :: l) (u :: vs) :=
  ⟨by simp [r.1], fun j b x hb hx => by
    cases j with
    | zero => simp at hb hx; subst hb; subst hx; exact h
    | succ j => exact r.2 j b x (by simpa using hb) (by simpa using hx)⟩
theorem Rels.inv {a : AV Y.T} {l : List (AV Y.T)} {vs : List Value} (h : Rels Y F ρ (a :: l) vs) : ∃ u r, vs = u :: r ∧ Rel Y F ρ a u ∧ Rels Y F ρ l r := by
  cases vs with
  | nil => have := h.1; simp at this
  | cons u r =>
    exact ⟨u, r, rfl, h.2 0 a u rfl rfl, by have := h.1; simpa using this, fun j b x hb hx => h.2 (j + 1) b x (by simpa using hb) (by simpa using hx)⟩
theorem Rels.nil_inv {vs : List Value} (h : Rels Y F ρ [] vs) : vs = [] := List.length_eq_zero_iff.1 h.1
theorem Rels.append {l m : List (AV Y.T)} {vs us : List Value} (h : Rels Y F ρ l vs) (k : Rels Y F ρ m us) : Rels Y F ρ (l ++ m) (vs ++ us) :=
  ⟨by simp [h.1, k.1], fun j a u ha hu => by
    by_cases hj : j < l.length
    · rw [List.getElem?_append_left hj] at ha
      rw [List.getElem?_append_left (by rw [h.1]; exact hj)] at hu
      exact h.2 j a u ha hu
    · rw [List.getElem?_append_right (by omega)] at ha
      rw [List.getElem?_append_right (by rw [h.1]; omega), h.1] at hu
      exact k.2 _ a u ha hu⟩
theorem Rels.take {l : List (AV Y.T)} {vs : List Value} (h : Rels Y F ρ l vs) (n : Nat) : Rels Y F ρ (l.take n) (vs.take n) :=
  ⟨by simp [h.1], fun j a u ha hu => by
    rw [List.getElem?_take] at ha hu
    split at ha
    · rename_i hj; rw [if_pos hj] at hu; exact h.2 j a u ha hu
    · cases ha⟩
theorem Rels.drop {l : List (AV Y.T)} {vs : List Value} (h : Rels Y F ρ l vs) (n : Nat) : Rels Y F ρ (l.drop n) (vs.drop n) :=
  ⟨by simp [h.1], fun j a u ha hu => by
    rw [List.getElem?_drop] at ha hu
    exact h.2 _ a u ha hu⟩
theorem Rels.get {l : List (AV Y.T)} {vs : List Value} (h : Rels Y F ρ l vs) {j : Nat} {a : AV Y.T} (ha : l[j]? = some a) : ∃ u, vs[j]? = some u ∧ Rel Y F ρ a u := by
  have hj := (List.getElem?_eq_some_iff.1 ha).1
  have hj' : j < vs.length := by rw [h.1]; exact hj
  exact ⟨vs[j], List.getElem?_eq_getElem hj', h.2 j a _ ha (List.getElem?_eq_getElem hj')⟩
theorem Rels.v (vs : List Value) : Rels Y F ρ (vs.map .v) vs := ⟨by simp, fun j a u ha hu => by
  rw [List.getElem?_map, hu] at ha; cases ha; exact .v⟩

theorem Rel.mono {F' : Heap} {ρ' : List Pl} (hF : F.Le F') (hρ : ∀ (k : Nat) (p : Pl), ρ[k]? = some p → ρ'[k]? = some p) {a : AV Y.T} {u : Value} (h : Rel Y F ρ a u) : Rel Y F' ρ' a u := by
  induction h with
  | junk => exact .junk
  | v => exact .v
  | sl b off vs hc hA hv _ ih => exact .sl b off vs hc hA (fun i x hx => ⟨(hv i x hx).1, cellsF_mono hF (hv i x hx).2⟩) ih
  | own h => exact .own (hρ _ _ h)
  | oel h => exact .oel (hρ _ _ h)
  | ptr h => exact .ptr (hρ _ _ h)
  | el vs hl hc _ ih => exact .el vs hl (cellsF_mono hF hc) ih
  | agg hl _ ih => exact .agg hl ih
  | tup hl _ ih => exact .tup hl ih
  | fn hl _ ih => exact .fn hl ih
  | err => exact .err
theorem Rels.mono {F' : Heap} {ρ' : List Pl} (hF : F.Le F') (hρ : ∀ (k : Nat) (p : Pl), ρ[k]? = some p → ρ'[k]? = some p) {l : List (AV Y.T)} {vs : List Value} (h : Rels Y F ρ l vs) : Rels Y F' ρ' l vs :=
  ⟨h.1, fun j a u ha hu => (h.2 j a u ha hu).mono hF hρ⟩
end lists

/-- what becomes of what names objects -/
structure Sb (T : Nat → Type) where
  own : Nat → AV T
  oel : Nat → Nat → Int → Nat → AV T
  ptr : Nat → Nat → AV T
section
variable {T : Nat → Type}
mutual
def AV.sub (s : Sb T) : AV T → AV T
  | .junk => .junk
  | .v x => .v x
  | .sl e xs => .sl e xs
  | .own k => s.own k
  | .oel k z i off => s.oel k z i off
  | .ptr k off => s.ptr k off
  | .el l => .el (AV.subs s l)
  | .agg l => .agg (AV.subs s l)
  | .tup l => .tup (AV.subs s l)
  | .fn f l => .fn f (AV.subs s l)
  | .err e => .err e
def AV.subs (s : Sb T) : List (AV T) → List (AV T)
  | [] => []
  | a :: l => a.sub s :: AV.subs s l
end
mutual
/-- it names no object -/
def AV.free : AV T → Bool
  | .own _ => false
  | .oel .. => false
  | .ptr .. => false
  | .el l => AV.frees l
  | .agg l => AV.frees l
  | .tup l => AV.frees l
  | .fn _ l => AV.frees l
  | _ => true
def AV.frees : List (AV T) → Bool
  | [] => true
  | a :: l => a.free && AV.frees l
end
mutual
theorem AV.sub_free (s : Sb T) : ∀ a : AV T, a.free = true → a.sub s = a
  | .junk, _ => rfl
  | .v _, _ => rfl
  | .sl .., _ => rfl
  | .el l, h => by simp only [AV.sub]; rw [AV.subs_free s l (by simpa [AV.free] using h)]
  | .agg l, h => by simp only [AV.sub]; rw [AV.subs_free s l (by simpa [AV.free] using h)]
  | .tup l, h => by simp only [AV.sub]; rw [AV.subs_free s l (by simpa [AV.free] using h)]
  | .fn _ l, h => by simp only [AV.sub]; rw [AV.subs_free s l (by simpa [AV.free] using h)]
  | .err _, _ => rfl
  | .own _, h => by simp [AV.free] at h
  | .oel .., h => by simp [AV.free] at h
  | .ptr .., h => by simp [AV.free] at h
theorem AV.subs_free (s : Sb T) : ∀ l : List (AV T), AV.frees l = true → AV.subs s l = l
  | [], _ => rfl
  | a :: l, h => by
    simp only [AV.frees, Bool.and_eq_true] at h
    simp only [AV.subs]
    rw [AV.sub_free s a h.1, AV.subs_free s l h.2]
end
theorem AV.subs_eq (s : Sb T) : ∀ l : List (AV T), AV.subs s l = l.map (AV.sub s)
  | [] => rfl
  | a :: l => by simp only [AV.subs, List.map_cons]; rw [AV.subs_eq s l]
theorem AV.frees_iff : ∀ {l : List (AV T)}, AV.frees l = true ↔ ∀ a ∈ l, a.free = true
  | [] => by simp [AV.frees]
  | a :: l => by simp [AV.frees, AV.frees_iff]

/-- a value that takes one cell -/
def AV.one : AV T → Bool
  | .junk => false
  | .v x => x.oneCell'
  | .agg _ => false
  | .tup _ => false
  | .err _ => true
  | _ => true
def AV.ones : List (AV T) → Bool
  | [] => true
  | a :: l => a.one && AV.ones l
theorem AV.ones_iff : ∀ {l : List (AV T)}, AV.ones l = true ↔ ∀ a ∈ l, a.one = true
  | [] => by simp [AV.ones]
  | a :: l => by simp [AV.ones, AV.ones_iff]
end

def KeyV {T : Nat → Type} : Option IntKind → List (AV T) → Prop
  | none, l => ∃ s, l = [.v (.string s)]
  | some q, l => ∃ n, l = [.v (.int q n)]
structure TysOk (Y : Tys) : Prop where
  len : ∀ e (x : Y.T e), (Y.cells e x).length = Y.sz e
  free : ∀ e (x : Y.T e), AV.frees (Y.cells e x) = true
  one : ∀ e (x : Y.T e), AV.ones (Y.cells e x) = true
  byte : ∀ x : Y.T Y.byt, Y.cells Y.byt x = [.v (.int .u8 ((cast Y.isB x).toNat : Int))]
  fit : ∀ e (l : List (AV Y.T)) (x : Y.T e), Y.close e l = some x → ∀ F ρ vs, Rels Y F ρ l vs → Rels Y F ρ (Y.cells e x) vs
  key : ∀ k q, Y.kt k = some q → ∀ x : Y.T k, KeyV q (Y.cells k x)

section
variable {Y : Tys} {F : Heap} {ρ : List Pl}

theorem Rel.one {a : AV Y.T} {u : Value} (h : Rel Y F ρ a u) (h1 : a.one = true) : u.oneCell' = true := by
  cases h with
  | v => exact h1
  | @err e q => cases e <;> rfl
  | junk => simp [AV.one] at h1
  | @own _ pl _ => unfold Pl.val; cases pl.mp <;> rfl
  | agg => simp [AV.one] at h1
  | tup => simp [AV.one] at h1
  | _ => rfl
theorem Rels.ones {l : List (AV Y.T)} {vs : List Value} (h : Rels Y F ρ l vs) (h1 : AV.ones l = true) : ∀ u ∈ vs, u.oneCell' = true := by
  intro u hu
  obtain ⟨j, hj⟩ := List.mem_iff_getElem?.1 hu
  have hlt : j < l.length := by rw [← h.1]; exact (List.getElem?_eq_some_iff.1 hj).1
  exact (h.2 j l[j] u (List.getElem?_eq_getElem hlt) hj).one (AV.ones_iff.1 h1 _ (List.getElem_mem hlt))

theorem Rel.sub (hY : TysOk Y) {F' : Heap} {ρ' : List Pl} (hF : F.Le F') (s : Sb Y.T) (ho : ∀ (k : Nat) (p : Pl), ρ[k]? = some p → Rel Y F' ρ' (s.own k) p.val)
    (he : ∀ (k z : Nat) (i : Int) (off : Nat) (p : Pl), ρ[k]? = some p → Rel Y F' ρ' (s.oel k z i off) (.pointer (some ⟨p.blk, i.toNat * z + off, none⟩))) (hp : ∀ (k off : Nat) (p : Pl), ρ[k]? = some p → Rel Y F' ρ' (s.ptr k off) (.pointer (some ⟨p.blk, off, none⟩)))
    {a : AV Y.T} {u : Value} (h : Rel Y F ρ a u) : Rel Y F' ρ' (a.sub s) u := by
  have lists : ∀ {l : List (AV Y.T)} {vs : List Value}, (∀ (j : Nat) (a : AV Y.T) (u : Value), l[j]? = some a → vs[j]? = some u → Rel Y F' ρ' (a.sub s) u) → ∀ (j : Nat) (a : AV Y.T) (u : Value), (AV.subs s l)[j]? = some a → vs[j]? = some u → Rel Y F' ρ' a u := by
    intro l vs ih j a u ha hu
    rw [AV.subs_eq, List.getElem?_map] at ha
    cases hl : l[j]? with
    | none => rw [hl] at ha; cases ha
    | some b => rw [hl] at ha; cases ha; exact ih j b u hl hu
  induction h with
  | junk => exact .junk
  | v => exact .v
  | @sl e xs A c b off vs hc hA hv _ ih =>
    refine .sl b off vs hc hA (fun i x hx => ⟨(hv i x hx).1, cellsF_mono hF (hv i x hx).2⟩) fun i x j a u hx ha hu => ?_
    have := ih i x j a u hx ha hu
    rwa [AV.sub_free s a (AV.frees_iff.1 (hY.free e x) a (List.mem_of_getElem? ha))] at this
  | own h => exact ho _ _ h
  | oel h => exact he _ _ _ _ _ h
  | ptr h => exact hp _ _ _ h
  | el vs hl hc _ ih => exact .el vs (by rw [AV.subs_eq]; simpa using hl) (cellsF_mono hF hc) (lists ih)
  | agg hl _ ih => exact .agg (by rw [AV.subs_eq]; simpa using hl) (lists ih)
  | tup hl _ ih => exact .tup (by rw [AV.subs_eq]; simpa using hl) (lists ih)
  | fn hl _ ih => exact .fn (by rw [AV.subs_eq]; simpa using hl) (lists ih)
  | err => exact .err
theorem Rels.sub (hY : TysOk Y) {F' : Heap} {ρ' : List Pl} (hF : F.Le F') (s : Sb Y.T) (ho : ∀ (k : Nat) (p : Pl), ρ[k]? = some p → Rel Y F' ρ' (s.own k) p.val)
    (he : ∀ (k z : Nat) (i : Int) (off : Nat) (p : Pl), ρ[k]? = some p → Rel Y F' ρ' (s.oel k z i off) (.pointer (some ⟨p.blk, i.toNat * z + off, none⟩))) (hp : ∀ (k off : Nat) (p : Pl), ρ[k]? = some p → Rel Y F' ρ' (s.ptr k off) (.pointer (some ⟨p.blk, off, none⟩)))
    {l : List (AV Y.T)} {vs : List Value} (h : Rels Y F ρ l vs) : Rels Y F' ρ' (AV.subs s l) vs := by
  refine ⟨by rw [AV.subs_eq]; simpa using h.1, fun j a u ha hu => ?_⟩
  rw [AV.subs_eq, List.getElem?_map] at ha
  cases hl : l[j]? with
  | none => rw [hl] at ha; cases ha
  | some b => rw [hl] at ha; cases ha; exact (h.2 j b u hl hu).sub hY hF s ho he hp
/-- what names no object means the same everywhere -/
theorem Rel.closed (hY : TysOk Y) {ρ' : List Pl} {a : AV Y.T} {u : Value} (h : Rel Y F ρ a u) (ha : a.free = true) : Rel Y F ρ' a u := by
  have := h.sub hY (.refl F) (ρ' := ρ') ⟨fun _ => .junk, fun _ _ _ _ => .junk, fun _ _ => .junk⟩ (fun _ _ _ => .junk) (fun _ _ _ _ _ _ => .junk) (fun _ _ _ _ => .junk)
  rwa [AV.sub_free _ a ha] at this
theorem Rels.closed (hY : TysOk Y) {ρ' : List Pl} {l : List (AV Y.T)} {vs : List Value} (h : Rels Y F ρ l vs) (ha : AV.frees l = true) : Rels Y F ρ' l vs :=
  ⟨h.1, fun j a u h1 h2 => (h.2 j a u h1 h2).closed hY (AV.frees_iff.1 ha a (List.mem_of_getElem? h1))⟩

/-- the elements' data as a kind of data -/
def kR (hY : TysOk Y) (e : Nat) : Kind (Y.T e) where
  sz := Y.sz e
  Y := { us : List Value // us.length = Y.sz e ∧ ∀ u ∈ us, u.oneCell' = true }
  f x us := us.1.map fun u => .p ⟨fun F => Rels Y F [] (Y.cells e x) us.1, fun hle h => h.mono hle fun _ _ h => by simp at h⟩ u
  holds F x us := Rels Y F [] (Y.cells e x) us
  mono hle h := h.mono hle fun _ _ h => by simp at h
  opn := by
    intro F x us h
    have hl : us.length = Y.sz e := by rw [h.1, hY.len]
    have hp : ∀ (q : Value → PP) (l : List Value), SV.plains (l.map fun u => SV.p (q u) u) = some l := by
      intro q l
      induction l with
      | nil => rfl
      | cons u l ih => simp only [List.map_cons, SV.plains, SV.plain, ih]
    exact ⟨⟨us, hl, h.ones (hY.one e x)⟩, hp _ us, SV.goods_iff.2 fun s hs => by
      obtain ⟨u, hu, rfl⟩ := List.mem_map.1 hs
      exact h⟩
  shut := by
    intro F x y cs e1 g
    have hp : ∀ (q : Value → PP) (l : List Value), SV.plains (l.map fun u => SV.p (q u) u) = some l := by
      intro q l
      induction l with
      | nil => rfl
      | cons u l ih => simp only [List.map_cons, SV.plains, SV.plain, ih]
    rw [hp] at e1
    cases e1
    cases hu : y.1 with
    | nil =>
      have h0 : Y.sz e = 0 := by rw [← y.2.1, hu]; rfl
      have h1 : Y.cells e x = [] := List.length_eq_zero_iff.1 (by rw [hY.len, h0])
      rw [h1]; exact Rels.nil
    | cons u r =>
      rw [hu] at g
      exact g.1
  closed x y := by
    have : ∀ (q : Value → PP) (l : List Value), SV.unders 0 (l.map fun u => SV.p (q u) u) = true := by
      intro q l
      induction l with
      | nil => rfl
      | cons u l ih => simp only [List.map_cons, SV.unders, SV.under, ih, Bool.and_self]
    exact this _ _
  len x y := by simp [y.2.1]
  ones x y := by
    have : ∀ (q : Value → PP) (l : List Value), (∀ u ∈ l, u.oneCell' = true) → SV.ones (l.map fun u => SV.p (q u) u) = true := by
      intro q l
      induction l with
      | nil => intro _; rfl
      | cons u l ih => intro h; simp only [List.map_cons, SV.ones, SV.one, h u List.mem_cons_self, ih fun v hv => h v (List.mem_cons_of_mem _ hv), Bool.and_self]
    exact this _ _ y.2.2

/-- an object of the call's own -/
inductive Mem (T : Nat → Type) where
  | gone
  | cells (ty : TypeId) (l : List (AV T))
  | arr (e : Nat) (xs : List (T e))
  | mp (k e : Nat) (x : MapD (T k) (T e))
  | it (s : Str) (pos : Nat)

/-- it never moves -/
def Mem.still {T : Nat → Type} : Mem T → Bool
  | .gone => true
  | .cells .. => true
  | _ => false
def spOf (p : Pl) : Option Obj → SP
  | some o => pt p.blk o
  | none => emp
/-- what is owned: the objects' blocks -/
def pts : List Pl → List (Option Obj) → List SP
  | p :: ρ, o :: os => spOf p o :: pts ρ os
  | _, _ => []

/-- the first cells of builders: nil, or the builder's own address -/
def BldOk (l : List Nat) (p : Pl) (vs : List Value) : Prop := ∀ b ∈ l, vs[b]? = some (.pointer none) ∨ vs[b]? = some (.pointer (some ⟨p.blk, b, none⟩))
def bldNew {T : Nat → Type} : List Nat → List (AV T) → Bool
  | [], _ => true
  | b :: r, l => (match l[b]? with | some (.v (.pointer none)) => true | _ => false) && bldNew r l
def bldOff (off n : Nat) : List Nat → Bool
  | [] => true
  | b :: r => (Nat.blt b off || Nat.ble (off + n) b) && bldOff off n r
/-- a map's entries -/
def packV (b : Bool) (us : List Value) : Value := bif b then .agg us.toArray else us.headD undef
structure EntRel (Y : Tys) (F : Heap) (k e : Nat) (x : Y.T k × Y.T e × Nat) (en : MapEntry) : Prop where
  born : en.born = x.2.2
  key : Rels Y F [] (Y.cells k x.1) [en.key]
  val : ∃ us, Rels Y F [] (Y.cells e x.2.1) us ∧ en.val = packV (Y.row e) us
inductive EntsRel (Y : Tys) (F : Heap) (k e : Nat) : List (Y.T k × Y.T e × Nat) → List MapEntry → Prop where
  | nil : EntsRel Y F k e [] []
  | cons {x : Y.T k × Y.T e × Nat} {en : MapEntry} {xs : List (Y.T k × Y.T e × Nat)} {es : List MapEntry} (h : EntRel Y F k e x en) (r : EntsRel Y F k e xs es) : EntsRel Y F k e (x :: xs) (en :: es)
theorem EntRel.mono {Y : Tys} {F F' : Heap} {k e : Nat} {x : Y.T k × Y.T e × Nat} {en : MapEntry} (hF : F.Le F') (h : EntRel Y F k e x en) : EntRel Y F' k e x en :=
  ⟨h.born, h.key.mono hF (fun _ _ h => h), let ⟨us, h1, h2⟩ := h.val; ⟨us, h1.mono hF (fun _ _ h => h), h2⟩⟩
theorem EntsRel.mono {Y : Tys} {F F' : Heap} {k e : Nat} (hF : F.Le F') : ∀ {xs : List (Y.T k × Y.T e × Nat)} {es : List MapEntry}, EntsRel Y F k e xs es → EntsRel Y F' k e xs es
  | _, _, .nil => .nil
  | _, _, .cons h r => .cons (h.mono hF) (r.mono hF)
def MemRel (hY : TysOk Y) (F : Heap) (ρ : List Pl) : Mem Y.T → Pl → Option Obj → Prop
  | .gone, _, _ => True
  | .cells ty l, p, o => ∃ vs, Rels Y F ρ l vs ∧ o = some (.cells vs.toArray ty (0, 0)) ∧ BldOk (Y.bld ty) p vs
  | .mp k e x, p, o => p.mp = true ∧ ∃ es : Array MapEntry, o = some (.map es x.clock) ∧ EntsRel Y F k e x.es es.toList
  | .it s pos, p, o => o = some (.stringIter ⟨⟨s⟩⟩ pos)
  | .arr e xs, p, o => p.mp = false ∧ p.n = xs.length ∧ ((p.A = none ∧ p.c = 0 ∧ xs = [] ∧ o = none) ∨
      ∃ cs, p.A = some ⟨p.blk, 0, none⟩ ∧ o = some (.cells cs e (0, 0)) ∧ xs.length ≤ p.c ∧ p.c ≤ maxLen ∧ cs.size = p.c * Y.sz e ∧ rowIs F (kR hY e) cs.toList xs)

theorem bldNew_ok {F : Heap} {ρ : List Pl} {p : Pl} {cs : List (AV Y.T)} {vs : List Value} (r : Rels Y F ρ cs vs) : ∀ {l : List Nat}, bldNew l cs = true → BldOk l p vs
  | [], _, b, hb => by cases hb
  | c :: l, h, b, hb => by
    simp only [bldNew, Bool.and_eq_true] at h
    rcases List.mem_cons.1 hb with e | e
    · subst e
      obtain ⟨h1, _⟩ := h
      split at h1
      · rename_i hc
        obtain ⟨u, hu, hr⟩ := r.get hc
        cases hr
        exact .inl hu
      · cases h1
    · exact bldNew_ok r h.2 b e
theorem bldOff_ok {off n : Nat} : ∀ {l : List Nat}, bldOff off n l = true → ∀ b ∈ l, b < off ∨ off + n ≤ b
  | [], _, b, hb => by cases hb
  | c :: l, h, b, hb => by
    simp only [bldOff, Bool.and_eq_true, Bool.or_eq_true] at h
    rcases List.mem_cons.1 hb with e | e
    · subst e
      exact h.1.imp (fun h => Nat.le_of_ble_eq_true h) (fun h => Nat.le_of_ble_eq_true h)
    · exact bldOff_ok h.2 b e
theorem BldOk.stays {l : List Nat} {p : Pl} {vs us : List Value} {off n : Nat} (h : BldOk l p vs) (ho : bldOff off n l = true) (hl : us.length = n) (hle : off + n ≤ vs.length) : BldOk l p (vs.take off ++ (us ++ vs.drop (off + n))) := fun b hb => by
  have e : (vs.take off ++ (us ++ vs.drop (off + n)))[b]? = vs[b]? := by
    rcases bldOff_ok ho b hb with h1 | h1
    · rw [List.getElem?_append_left (by simp; omega), List.getElem?_take, if_pos h1]
    · rw [List.getElem?_append_right (by simp; omega), List.getElem?_append_right (by simp; omega), List.getElem?_drop]
      congr 1
      simp
      omega
  rw [e]
  exact h b hb
abbrev AEnv (T : Nat → Type) := List (Nat × AV T)
def lookA {T : Nat → Type} : AEnv T → Nat → Option (AV T)
  | [], _ => none
  | (k, s) :: l, t => bif Nat.beq k t then some s else lookA l t
/-- what is known: of the slots, and of the objects -/
structure Sy (T : Nat → Type) where
  l : AEnv T
  m : List (Mem T)
def evA {T : Nat → Type} (l : AEnv T) : Operand → Option (AV T)
  | .tmp t => lookA l t
  | .const v => some (match v with | .agg cs => .agg (cs.toList.map .v) | v => .v v)
  | .func f => some (.fn f [])
  | .global g => some (.v (.pointer (some ⟨g, 0, none⟩)))

/-- what is put off until a call ends -/
class Dfr where
  ds : List Deferred
@[instance_reducible] instance (priority := low) dfr0 : Dfr := ⟨[]⟩
/-- the slots -/
structure Ey [Dfr] (Y : Tys) (N : Nat) (F : Heap) (ρ : List Pl) (l : AEnv Y.T) (a : Act) : Prop where
  size : a.tmps.size = N
  nodef : a.defers = Dfr.ds
  env : ∀ t x, lookA l t = some x → t < N ∧ Rel Y F ρ x (a.tmps.getD t undef)
/-- the objects, as a world has them -/
def My (hY : TysOk Y) (F : Heap) (ρ : List Pl) (os : List (Option Obj)) (m : List (Mem Y.T)) (w : World) : Prop :=
  ∀ (k : Nat) (x : Mem Y.T), m[k]? = some x → (match x with | .gone => True | _ => ∃ (p : Pl) (o : Option Obj), ρ[k]? = some p ∧ os[k]? = some o ∧ MemRel hY F ρ x p o ∧ ∀ ob, o = some ob → w.heap[p.blk]? = some ob)
/-- where a call stands. H: where the cells that it was handed lie -/
structure Cy [Dfr] (hY : TysOk Y) (N : Nat) (w0 : World) (F0 : Heap) (D : Own) (H : List (Option Nat)) (w : World) (F : Heap) (ρ : List Pl) (os : List (Option Obj)) (s : Sy Y.T) (a : Act) : Prop where
  e : Ey Y N F ρ s.l a
  len : s.m.length = ρ.length
  lon : os.length = ρ.length
  mem : ∀ (k : Nat) (x : Mem Y.T) (p : Pl) (o : Option Obj), s.m[k]? = some x → ρ[k]? = some p → os[k]? = some o → MemRel hY F ρ x p o
  st : Gw.St w0 F0 D w F (pts ρ os)
  fix : ∀ (k b : Nat), H[k]? = some (some b) → (∃ p : Pl, ρ[k]? = some p ∧ p.blk = b) ∧ ∀ x, s.m[k]? = some x → x.still = true
  long : H.length ≤ ρ.length
end
end Go.Dn

