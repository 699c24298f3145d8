/- Kinds of data, slices that are read, slices that a call makes; strings. For any program. -/
import Derived.Test.YtglnkknalibgdaaDoorGwE
import Derived.Maps.AppendAt
import Derived.Lib.AppendStr
import Derived.Laws.BytesArg
import Derived.Laws.MakeOwn
set_option linter.unusedVariables false
set_option linter.unusedSimpArgs false
set_option linter.unnecessarySimpa false
namespace Go.Gw
open Go.RowKit
set_option linter.unusedSimpArgs false

/-- a kind of data: how many cells, and what they are (Y: what is not told of them: where slices lie) -/
structure Kind (α : Type) where
  sz : Nat
  Y : Type
  f : α → Y → List SV
  holds : Heap → α → List Value → Prop
  mono : ∀ {F F' x cs}, F.Le F' → holds F x cs → holds F' x cs
  opn : ∀ {F x cs}, holds F x cs → ∃ y, SV.plains (f x y) = some cs ∧ SV.goods F (f x y)
  shut : ∀ {F x y cs}, SV.plains (f x y) = some cs → SV.goods F (f x y) → holds F x cs
  closed : ∀ x y, SV.unders 0 (f x y) = true
  len : ∀ x y, (f x y).length = sz
  ones : ∀ x y, SV.ones (f x y) = true

theorem plains_length : ∀ {l : List SV} {cs : List Value}, SV.plains l = some cs → cs.length = l.length
  | [], _, h => by cases h; rfl
  | s :: l, cs, h => by
    simp only [SV.plains] at h
    cases hs : s.plain with
    | none => rw [hs] at h; cases h
    | some x =>
      cases hl : SV.plains l with
      | none => rw [hs, hl] at h; cases h
      | some r => rw [hs, hl] at h; cases h; simp [plains_length hl]
theorem Kind.length {α : Type} (d : Kind α) {F : Heap} {x : α} {cs : List Value} (h : d.holds F x cs) : cs.length = d.sz := by
  obtain ⟨y, h1, _⟩ := d.opn h; rw [plains_length h1, d.len]
theorem Kind.one {α : Type} (d : Kind α) {F : Heap} {x : α} {cs : List Value} (h : d.holds F x cs) : ∀ v ∈ cs, v.oneCell' = true := by
  obtain ⟨y, h1, _⟩ := d.opn h
  rw [← SV.plains_dens (fun _ => 0) h1]
  exact SV.ones_dens _ (d.ones x y)

def kByte : Kind UInt8 where
  sz := 1
  Y := Unit
  f x _ := [.v (.int .u8 (x.toNat : Int))]
  holds _ x cs := cs = [.int .u8 (x.toNat : Int)]
  mono _ h := h
  opn h := ⟨(), by rw [h]; rfl, trivial, trivial⟩
  shut h _ := by cases h; rfl
  closed _ _ := rfl
  len _ _ := rfl
  ones _ _ := rfl
abbrev Str := List UInt8
def Row {α : Type} (F : Heap) (d : Kind α) (A : Option Addr) (xs : List α) : Prop :=
  xs = [] ∨ ∃ b o, A = some ⟨b, o, none⟩ ∧ ∀ i x, xs[i]? = some x → ∃ cs, d.holds F x cs ∧ cellsF F b (o + i * d.sz) cs
theorem Row.mono {α : Type} {F F' : Heap} {d : Kind α} {A : Option Addr} {xs : List α} (h : F.Le F') : Row F d A xs → Row F' d A xs
  | .inl e => .inl e
  | .inr ⟨b, o, e, g⟩ => .inr ⟨b, o, e, fun i x hx => let ⟨cs, h1, h2⟩ := g i x hx; ⟨cs, d.mono h h1, cellsF_mono h h2⟩⟩
def slP {α : Type} (d : Kind α) (xs : List α) (A : Option Addr) (c : Nat) : PP where
  holds F := xs.length ≤ c ∧ Row F d A xs
  mono h a := ⟨a.1, a.2.mono h⟩
/-- a slice that is read alone -/
def SV.sl {α : Type} (d : Kind α) (xs : List α) (A : Option Addr) (c : Nat) : SV := .p (slP d xs A c) (.slice A xs.length c)
theorem sl_nil {α : Type} (d : Kind α) (F : Heap) : (SV.sl d ([] : List α) none 0).good F := ⟨Nat.le_refl _, .inl rfl⟩

def getI {α : Type} (xs : List α) (i : Int) : Option α := if 0 ≤ i then xs[i.toNat]? else none
def getB (s : Str) (i : Int) : Option Int := if 0 ≤ i then (s[i.toNat]?).map (fun b => (b.toNat : Int)) else none
def cutL {α : Type} (s : List α) (lo hi : Int) : Option (List α) := if 0 ≤ lo ∧ lo ≤ hi ∧ hi ≤ s.length then some ((s.drop lo.toNat).take (hi.toNat - lo.toNat)) else none
def catS (s t : Str) : Option Str := if s.length + t.length ≤ 4611686018427387904 then some (s ++ t) else none
/-- room for so many elements -/
def room (n : Nat) : Option Unit := if n ≤ 274877906944 then some () else none

section
variable {P : Program} {N : Nat} {w0 : World} {F0 : Heap} {D : Own} {w : World} {F : Heap} {L : List SP} {B B' : List (Option Box)} {ρ : Nat → Nat} {l : Env} {a : Act} {o : Oper} {ops : Array Oper} {lit : List Nat} {rest : List Oper} {Q : Exit → Act → World → Prop}

theorem Cx.oneOp {w' : World} {F' : Heap} {L' : List SP} {B' : List (Option Box)} {ρ' : Nat → Nat} {s : SV} (h : Cx N w0 F0 D w F L B ρ l a) (hg : gd ops lit [] l o.guard = some .yes) (hd : fitsB N o.dst = true)
    (hrun : (execOp a.eval o).run P w = .ok (.value (s.den ρ')) w') (h' : Cx N w0 F0 D w' F' L' B' ρ' l a) (hgood : s.good F') (hu : s.under B'.length = true)
    (hK : ∀ a', Cx N w0 F0 D w' F' L' B' ρ' (after l o.dst s) a' → wpList P ops Q rest a' w') : wpList P ops Q (o :: rest) a w :=
  wpList_go (gd_ok (Lx.start h) hg) (wp_of_run hrun (hK _ (h'.put' hd hgood hu)))

theorem bytes_get (l : Str) (n : Nat) : (⟨⟨l⟩⟩ : ByteArray)[n]? = l[n]? := by
  rw [getElem?_def, getElem?_def]
  rfl

theorem Cx.idxStr {T : TypeId} {x i : Operand} {s : Str} {k : IntKind} {n b : Int} (h : Cx N w0 F0 D w F L B ρ l a) (hg : gd ops lit [] l o.guard = some .yes) (hd : fitsB N o.dst = true)
    (hop : o.op = .index T x i) (hT : P.underlying T = some .string) (hx : ov l x = some (.v (.string ⟨⟨s⟩⟩))) (hi : ov l i = some (.v (.int k n))) (hb : getB s n = some b)
    (hK : ∀ a', Cx N w0 F0 D w F L B ρ (after l o.dst (.v (.int .u8 b))) a' → wpList P ops Q rest a' w) : wpList P ops Q (o :: rest) a w := by
  refine h.oneOp hg hd (s := .v (.int .u8 b)) (ρ' := ρ) ?_ h trivial rfl hK
  have e1 : a.eval x = .string ⟨⟨s⟩⟩ := h.eval hx
  have e2 : a.eval i = .int k n := h.eval hi
  unfold getB at hb
  split at hb
  · rename_i h0
    obtain ⟨c, hc, rfl⟩ := Option.map_eq_some_iff.1 hb
    unfold execOp; rw [hop]
    simp only [e1, e2, Instr.index, asIntOf, Sem.run_bind, Sem.run_pure, Result.andThen_ok, run_underlying hT, h0, if_true, bytes_get, hc, SV.den, pure_bind]
  · cases hb

def bnd (l : Env) : Option Operand → Option (Option Int)
  | none => some none
  | some x => match ov l x with | some (.v (.int _ n)) => some (some n) | _ => none
theorem bnd_eval (h : Cx N w0 F0 D w F L B ρ l a) {x : Option Operand} {r : Option Int} (e : bnd l x = some r) :
    (x = none ∧ r = none) ∨ ∃ y k n, x = some y ∧ r = some n ∧ a.eval y = .int k n := by
  cases x with
  | none => cases e; exact .inl ⟨rfl, rfl⟩
  | some y =>
    right
    simp only [bnd] at e
    cases hy : ov l y with
    | none => rw [hy] at e; cases e
    | some s =>
      rw [hy] at e
      cases s with
      | v z => cases z <;> simp only at e <;> cases e; exact ⟨y, _, _, rfl, rfl, h.eval hy⟩
      | _ => cases e
theorem sliceBound_run {k : IntKind} {n : Int} {y : Nat} (h0 : 0 ≤ n) (h1 : n ≤ y) (c : BoundsCode) (w : World) : (Instr.sliceBound (.int k n) y c).run P w = .ok n.toNat w := by
  simp [Instr.sliceBound, asIntOf, h0, h1]

theorem sliceBounds_run {lo hi : Option Operand} {ol oh : Option Int} {len cap : Nat} {b : Bool} (h : Cx N w0 F0 D w F L B ρ l a) (hl : bnd l lo = some ol) (hh : bnd l hi = some oh)
    (h0 : 0 ≤ ol.getD 0) (h1 : ol.getD 0 ≤ oh.getD len) (h2 : oh.getD len ≤ len) (hlc : len ≤ cap) :
    (Instr.sliceBounds b len cap (lo.map a.eval) (hi.map a.eval) none).run P w = .ok ((ol.getD 0).toNat, (oh.getD len).toNat, cap) w := by
  rcases bnd_eval h hl with ⟨rfl, rfl⟩ | ⟨x, k, n, rfl, rfl, ex⟩ <;> rcases bnd_eval h hh with ⟨rfl, rfl⟩ | ⟨y, k', m, rfl, rfl, ey⟩
  · simp [Instr.sliceBounds]
  · simp only [Option.getD_none, Option.getD_some] at h0 h1 h2
    have hm : (m : Int) ≤ cap := by omega
    simp [Instr.sliceBounds, ey, sliceBound_run h1 hm]
  · simp only [Option.getD_none, Option.getD_some] at h0 h1 h2
    simp [Instr.sliceBounds, ex, sliceBound_run h0 h1]
  · simp only [Option.getD_none, Option.getD_some] at h0 h1 h2
    have hm : (m : Int) ≤ cap := by omega
    have hm0 : 0 ≤ m := by omega
    have hn : n ≤ ((m.toNat : Nat) : Int) := by omega
    simp [Instr.sliceBounds, ex, ey, sliceBound_run hm0 hm, sliceBound_run h0 hn]

theorem bytes_extract (s : Str) (i j : Nat) : (⟨⟨s⟩⟩ : ByteArray).extract i j = ⟨⟨(s.drop i).take (j - i)⟩⟩ := by
  apply ByteArray.ext
  rw [ByteArray.data_extract]
  simp [List.extract_eq_take_drop]

theorem Row.cut {α : Type} {d : Kind α} {xs : List α} {A : Option Addr} {c i m : Nat} (h : Row F d A xs) (hc : xs.length ≤ c) (hi : i ≤ xs.length) :
    Row F d (if c = i then A else A.map (·.add (i * d.sz))) ((xs.drop i).take m) := by
  rcases h with rfl | ⟨b, off, rfl, hcells⟩
  · left; simp
  · by_cases he : (xs.drop i).take m = []
    · exact .inl he
    · right
      have hlt : i < xs.length := by
        rcases Nat.lt_or_ge i xs.length with g | g
        · exact g
        · exfalso; apply he; rw [List.drop_of_length_le g]; simp
      have hne : c ≠ i := by omega
      refine ⟨b, off + i * d.sz, by simp [hne, add_at], fun j x hx => ?_⟩
      rw [List.getElem?_take] at hx
      split at hx
      · rw [List.getElem?_drop] at hx
        obtain ⟨cs, h1, h2⟩ := hcells _ _ hx
        refine ⟨cs, h1, ?_⟩
        rw [Nat.add_mul, ← Nat.add_assoc] at h2
        exact h2
      · cases hx

end
end Go.Gw

