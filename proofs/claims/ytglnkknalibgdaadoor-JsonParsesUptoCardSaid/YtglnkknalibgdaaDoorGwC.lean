/- A region's plain operations, reckoned at once. For any program. -/
import Derived.Test.YtglnkknalibgdaaDoorGwB
import Derived.Deep.MidRow
import Derived.Laws.IdiomCopy
set_option linter.unusedVariables false
set_option linter.unusedSimpArgs false
set_option linter.unnecessarySimpa false
namespace Go.Gw
open Go.RowKit

mutual
theorem SV.plain_den (ρ : Nat → Nat) : ∀ {s : SV} {x : Value}, s.plain = some x → s.den ρ = x
  | .v _, _, h => by cases h; rfl
  | .p _ _, _, h => by cases h; rfl
  | .agg l, x, h => by
    simp only [SV.plain] at h
    cases hl : SV.plains l with
    | none => rw [hl] at h; cases h
    | some cs => rw [hl] at h; cases h; simp only [SV.den]; rw [SV.plains_dens ρ hl]
  | .tup l, x, h => by cases h
  | .ptr .., x, h => by cases h
  | .opt .., x, h => by cases h
  | .fn .., x, h => by cases h
  | .slc .., x, h => by cases h
  | .el .., x, h => by cases h; rfl
theorem SV.plains_dens (ρ : Nat → Nat) : ∀ {l : List SV} {cs : List Value}, SV.plains l = some cs → SV.dens ρ l = cs
  | [], _, h => by cases h; rfl
  | s :: l, cs, h => by
    simp only [SV.plains] at h
    cases hs : s.plain with
    | none => rw [hs] at h; cases h
    | some x =>
      cases hl : SV.plains l with
      | none => rw [hs, hl] at h; cases h
      | some r => rw [hs, hl] at h; cases h; simp only [SV.dens]; rw [SV.plain_den ρ hs, SV.plains_dens ρ hl]
end

/-- the cells that a value takes -/
def SV.cells : SV → Option (List SV)
  | .v (.agg cs) => some (cs.toList.map .v)
  | .v (.tuple _) => none
  | .v (.bool b) => some [.v (.bool b)]
  | .v (.int k n) => some [.v (.int k n)]
  | .v (.string s) => some [.v (.string s)]
  | .v (.pointer a) => some [.v (.pointer a)]
  | .v (.slice a n c) => some [.v (.slice a n c)]
  | .v (.map r) => some [.v (.map r)]
  | .v (.func f g h) => some [.v (.func f g h)]
  | .v .nilFunc => some [.v .nilFunc]
  | .v (.iface t x) => some [.v (.iface t x)]
  | .v .nilIface => some [.v .nilIface]
  | .v _ => none
  | .p g (.slice a n c) => some [.p g (.slice a n c)]
  | .p _ _ => none
  | .ptr k o => some [.ptr k o]
  | .slc k o n c => some [.slc k o n c]
  | .el b o l => some [.el b o l]
  | .agg l => some l
  | .tup _ => none
  | .opt q k o => some [.opt q k o]
  | .fn f l => some [.fn f l]
def SV.one : SV → Bool
  | .v x => x.oneCell'
  | .p _ x => x.oneCell'
  | .ptr .. => true
  | .slc .. => true
  | .el .. => true
  | .agg _ => false
  | .tup _ => false
  | .opt .. => true
  | .fn .. => true
def SV.ones : List SV → Bool
  | [] => true
  | s :: l => s.one && SV.ones l

theorem SV.one_den (ρ : Nat → Nat) {s : SV} (h : s.one = true) : (s.den ρ).oneCell' = true := by cases s <;> simp_all [SV.one, SV.den, Value.oneCell']
theorem SV.ones_dens (ρ : Nat → Nat) : ∀ {l : List SV}, SV.ones l = true → ∀ x ∈ SV.dens ρ l, x.oneCell' = true
  | [], _, x, hx => by cases hx
  | s :: l, h, x, hx => by
    simp only [SV.ones, Bool.and_eq_true] at h
    simp only [SV.dens] at hx
    rcases List.mem_cons.1 hx with e | e
    · subst e; exact SV.one_den ρ h.1
    · exact SV.ones_dens ρ h.2 x e
theorem SV.cells_den (ρ : Nat → Nat) {s : SV} {l : List SV} (h : s.cells = some l) : (s.den ρ).cells.toList = SV.dens ρ l := by
  cases s with
  | v x => cases x <;> simp only [SV.cells] at h <;> (try cases h) <;> simp [SV.den, Value.cells, SV.dens_eq, Function.comp_def]
  | p g x => cases x <;> simp only [SV.cells] at h <;> (try cases h) <;> simp [SV.den, Value.cells, SV.dens_eq]
  | ptr k o => cases h; simp [SV.den, Value.cells, SV.dens_eq]
  | opt q k o => cases h; simp [SV.den, Value.cells, SV.dens_eq]
  | fn f l => cases h; simp [SV.den, Value.cells, SV.dens_eq]
  | slc k o n c => cases h; simp [SV.den, Value.cells, SV.dens_eq]
  | el b o l => cases h; simp [SV.den, Value.cells, SV.dens_eq]
  | agg l' => cases h; simp [SV.den, Value.cells]
  | tup l' => cases h
theorem SV.cells_ok {F : Heap} {n : Nat} {s : SV} {l : List SV} (h : s.cells = some l) (hg : s.good F) (hb : s.under n = true) : SV.goods F l ∧ SV.unders n l = true := by
  cases s with
  | v x =>
    have h1 : ∀ u ∈ l, ∃ y, u = .v y := by
      cases x <;> simp only [SV.cells] at h <;> (try cases h) <;> intro u hu <;> (try simp at hu) <;> first | exact ⟨_, hu⟩ | (obtain ⟨y, _, rfl⟩ := hu; exact ⟨_, rfl⟩)
    exact ⟨SV.goods_iff.2 fun u hu => by obtain ⟨y, rfl⟩ := h1 u hu; trivial, SV.unders_iff.2 fun u hu => by obtain ⟨y, rfl⟩ := h1 u hu; rfl⟩
  | p g x =>
    cases x <;> simp only [SV.cells] at h <;> (try cases h)
    exact ⟨⟨hg, trivial⟩, rfl⟩
  | ptr k o => cases h; exact ⟨⟨trivial, trivial⟩, by simpa [SV.unders] using hb⟩
  | opt q k o => cases h; exact ⟨⟨trivial, trivial⟩, by simpa [SV.unders] using hb⟩
  | fn f l => cases h; exact ⟨⟨hg, trivial⟩, by simpa [SV.unders] using hb⟩
  | slc k o n c => cases h; exact ⟨⟨trivial, trivial⟩, by simpa [SV.unders] using hb⟩
  | el b o l => cases h; exact ⟨⟨hg, trivial⟩, by simpa [SV.unders] using hb⟩
  | agg l' => cases h; exact ⟨by simpa [SV.good] using hg, by simpa [SV.under] using hb⟩
  | tup l' => cases h

theorem SV.goods_take {F : Heap} {l : List SV} (h : SV.goods F l) (a b : Nat) : SV.goods F ((l.drop a).take b) :=
  SV.goods_iff.2 fun s hs => SV.goods_iff.1 h s (List.mem_of_mem_drop (List.mem_of_mem_take hs))
theorem SV.unders_take {n : Nat} {l : List SV} (h : SV.unders n l = true) (a b : Nat) : SV.unders n ((l.drop a).take b) = true :=
  SV.unders_iff.2 fun s hs => SV.unders_iff.1 h s (List.mem_of_mem_drop (List.mem_of_mem_take hs))
def setAt (l : List SV) (off : Nat) (cs : List SV) : List SV := l.take off ++ (cs ++ l.drop (off + cs.length))
theorem setAt_mem {l cs : List SV} {off : Nat} {s : SV} (h : s ∈ setAt l off cs) : s ∈ l ∨ s ∈ cs := by
  unfold setAt at h
  rcases List.mem_append.1 h with h | h
  · exact .inl (List.mem_of_mem_take h)
  · rcases List.mem_append.1 h with h | h
    · exact .inr h
    · exact .inl (List.mem_of_mem_drop h)
theorem setAt_ok {F : Heap} {n : Nat} {l cs : List SV} {off : Nat} (h : SV.goods F l ∧ SV.unders n l = true) (h' : SV.goods F cs ∧ SV.unders n cs = true) : SV.goods F (setAt l off cs) ∧ SV.unders n (setAt l off cs) = true :=
  ⟨SV.goods_iff.2 fun s hs => (setAt_mem hs).elim (SV.goods_iff.1 h.1 s) (SV.goods_iff.1 h'.1 s), SV.unders_iff.2 fun s hs => (setAt_mem hs).elim (SV.unders_iff.1 h.2 s) (SV.unders_iff.1 h'.2 s)⟩

/-- what an operation yields that neither looks at memory nor writes it -/
def pureOf (P : Program) : Sem Next → Option Value
  | .pure (.value x) => some x
  | .program k => pureOf P (k P)
  | _ => none
theorem pureOf_run {P : Program} : ∀ {s : Sem Next} {x : Value}, pureOf P s = some x → ∀ w, s.run P w = .ok (.value x) w
  | .pure n, x, h, w => by cases n <;> simp only [pureOf] at h <;> cases h; rfl
  | .program k, x, h, w => by simp only [pureOf] at h; exact pureOf_run h w

def ρof (l : Env) (x : Operand) : Value := match ov l x with
  | some s => match s.plain with | some y => y | none => undef
  | none => undef
def allPlain (l : Env) : List Operand → Bool
  | [] => true
  | x :: r => (match ov l x with | some s => s.plain.isSome | none => false) && allPlain l r

def isRowB (P : Program) (t : TypeId) : Option Bool := match P.underlying t with
  | some (.struct _) => some true
  | some (.array _ _) => some true
  | some _ => some false
  | none => none
def fieldB (P : Program) (t : TypeId) (f : Nat) : Option (TypeId × Nat) := match P.underlying t with
  | some (.struct fs) => match fs[f]? with | some d => some (d.type, d.offset) | none => none
  | _ => none
def zeroB (P : Program) (t : TypeId) : Option Value := match P.info? t with | some i => i.zero | none => none
def sizedL (P : Program) : List Field → Bool
  | [] => true
  | f :: r => (match P.info? f.type with | some _ => true | none => false) && sizedL P r
def isStructB (P : Program) (t : TypeId) : Bool := match P.underlying t with
  | some (.struct fs) => sizedL P fs.toList
  | _ => false
def elemB (P : Program) (t : TypeId) : Option TypeId := match P.underlying t with
  | some (.slice e) => some e
  | _ => none
def sizeB (P : Program) (t : TypeId) : Option Nat := match P.info? t with | some i => some i.size | none => none

def ovParts (l : Env) : List (Nat × Operand) → Option (List (Nat × SV))
  | [] => some []
  | (i, x) :: r => match ov l x, ovParts l r with | some s, some ss => some ((i, s) :: ss) | _, _ => none
/-- a struct's cells, some of its fields written out -/
def fillS (place : Nat → Option (Nat × Nat)) (cells : List SV) : List (Nat × SV) → Option (List SV)
  | [] => some cells
  | (i, s) :: r => match place i, s.cells with
    | some (off, n), some cs => bif (Nat.beq cs.length n && Nat.ble (off + cs.length) cells.length) then fillS place (setAt cells off cs) r else none
    | _, _ => none
def placesB (P : Program) (t : TypeId) (i : Nat) : Option (Nat × Nat) := match fieldB P t i with
  | some (ft, fo) => match sizeB P ft with | some n => some (fo, n) | none => none
  | none => none
/-- the cells of a row, every place of it written out -/
def rowS (n : Nat) : Nat → List (Nat × SV) → Option (List SV)
  | _, [] => some []
  | k, (i, s) :: r => match s.cells, rowS n (k + 1) r with
    | some cs, some rest => bif (Nat.beq i k && Nat.beq cs.length n) then some (cs ++ rest) else none
    | _, _ => none

/-- an operation that only looks at the call's own variables: what it yields -/
def ownQ (P : Program) (l : Env) (B : List (Option Box)) : Op → Option SV
  | .move x => ov l x
  | .assign x => ov l x
  | .pick c x y => match ov l c with
    | some (.v (.bool true)) => ov l x
    | some (.v (.bool false)) => ov l y
    | _ => none
  | .extract x i => match ov l x with
    | some (.tup ss) => ss[i]?
    | _ => none
  | .nilCheck x => match ov l x with | some (.ptr k o) => some (.ptr k o) | some (.v (.pointer (some a))) => some (.v (.pointer (some a))) | some (.el eb eo ss) => some (.el eb eo ss) | _ => none
  | .load t x => match ov l x with
    | some (.el _ _ ss) => match isRowB P t, sizeB P t with
      | some true, some n => bif Nat.ble n ss.length then some (.agg (ss.take n)) else none
      | some false, _ => ss[0]?
      | _, _ => none
    | some (.ptr k off) => match B[k]? with
      | some (some b) => match isRowB P t, sizeB P t with
        | some true, some n => bif Nat.ble (off + n) b.cells.length then some (.agg ((b.cells.drop off).take n)) else none
        | some false, _ => b.cells[off]?
        | _, _ => none
      | _ => none
    | _ => none
  | .fieldAddr t x f => match ov l x, fieldB P t f with
    | some (.ptr k off), some (ft, fo) => match sizeB P ft with
      | some (_ + 1) => some (.ptr k (off + fo))
      | _ => none
    | some (.el eb eo ss), some (ft, fo) => match sizeB P ft with
      | some (_ + 1) => some (.el eb (eo + fo) (ss.drop fo))
      | _ => none
    | _, _ => none
  | .build t ps => match P.info? t, ovParts l ps.toList with
    | some i, some ss => match i.zero, isStructB P t with
      | some z, true => match fillS (placesB P t) (z.cells.toList.map .v) ss with | some cs => some (.agg cs) | none => none
      | _, _ => none
    | _, _ => none
  | .field t x f => match ov l x, fieldB P t f with
    | some (.agg cs), some (ft, fo) => match isRowB P ft, sizeB P ft with
      | some true, some n => some (.agg ((cs.drop fo).take n))
      | some false, _ => cs[fo]?
      | _, _ => none
    | _, _ => none
  | _ => none

/-- an operation that makes or writes the call's own variables: what it yields (none: nothing), the variables behind it -/
def ownM (P : Program) (l : Env) (B : List (Option Box)) : Op → Option (Option SV × List (Option Box))
  | .alloc e => match P.info? e with
    | some i => match i.zero with | some z => some (some (.ptr B.length 0), B ++ [some ⟨e, z.cells.toList.map .v⟩]) | none => none
    | none => none
  | .box e x => match ov l x with
    | some s => match s.cells with | some cs => some (some (.ptr B.length 0), B ++ [some ⟨e, cs⟩]) | none => none
    | none => none
  | .buildSlice t len ps => match elemB P t, ovParts l ps.toList with
    | some e, some ss => match sizeB P e with
      | some (n + 1) => match rowS (n + 1) 0 ss with
        | some cs => bif (Nat.beq ss.length len && Nat.ble (len * (n + 1)) 16777216 && Nat.ble 1 (len * (n + 1)) && (match zeroB P e with | some z => Nat.beq z.cells.size (n + 1) | none => false)) then some (some (.slc B.length 0 len len), B ++ [some ⟨e, cs⟩]) else none
        | none => none
      | _ => none
    | _, _ => none
  | .store t x y => match ov l x, ov l y with
    | some (.ptr k off), some s => match B[k]?, s.cells, sizeB P t with
      | some (some b), some cs, some n => bif (Nat.beq cs.length n && Nat.ble (off + cs.length) b.cells.length && SV.ones cs) then some (none, B.set k (some ⟨b.ty, setAt b.cells off cs⟩)) else none
      | _, _, _ => none
    | _, _ => none
  | _ => none

/-- strings compared -/
def strs (l : Env) : Op → Option Value
  | .binOp op _ x y _ => match op, ov l x, ov l y with
    | .eql, some (.v (.string s)), some (.v (.string t)) => some (.bool (s.data.toList == t.data.toList))
    | .neq, some (.v (.string s)), some (.v (.string t)) => some (.bool (!(s.data.toList == t.data.toList)))
    | .lss, some (.v (.string s)), some (.v (.string t)) => some (.bool (Op.bytesLess s.data.toList t.data.toList))
    | .gtr, some (.v (.string s)), some (.v (.string t)) => some (.bool (!(Op.bytesLess s.data.toList t.data.toList || s.data.toList == t.data.toList)))
    | .leq, some (.v (.string s)), some (.v (.string t)) => some (.bool (Op.bytesLess s.data.toList t.data.toList || s.data.toList == t.data.toList))
    | .geq, some (.v (.string s)), some (.v (.string t)) => some (.bool (!(Op.bytesLess s.data.toList t.data.toList)))
    | _, _, _ => none
  | _ => none

/-- flat structs compared -/
def eqF (P : Program) (xs ys : List SV) : List Field → Option Bool
  | [] => some true
  | f :: r => bif f.name == "_" then none else match eqF P xs ys r with
    | none => none
    | some c => match P.underlying f.type, xs[f.offset]?, ys[f.offset]? with
      | some .bool, some (.v (.bool x)), some (.v (.bool y)) => some ((x == y) && c)
      | some (.int _), some (.v (.int k x)), some (.v (.int k' y)) => bif decide (k = k') then some ((x == y) && c) else none
      | some .string, some (.v (.string x)), some (.v (.string y)) => some ((x.data.toList == y.data.toList) && c)
      | _, _, _ => none
def eqS (P : Program) (l : Env) : Op → Option Value
  | .binOp op t x y _ => match ov l x, ov l y, P.underlying t with
    | some (.agg xs), some (.agg ys), some (.struct fs) => match eqF P xs ys fs.toList with
      | some b => bif !P.stoodInHeld t && !P.eqGuardType P.depth t then (match op with | .eql => some (.bool b) | .neq => some (.bool (!b)) | _ => none) else none
      | none => none
    | _, _, _ => none
  | _ => none

def selB : Op → Bool
  | .select .. => true
  | _ => false

/-- a quiet operation: the world stays -/
def quiet (P : Program) (l : Env) (B : List (Option Box)) (o : Oper) : Option SV :=
  match ownQ P l B o.op with
  | some s => some s
  | none => match strs l o.op with
    | some x => some (.v x)
    | none => match eqS P l o.op with
      | some x => some (.v x)
      | none => bif (allPlain l o.op.operands.toList && !selB o.op) then (match pureOf P (execOp (ρof l) o) with | some x => some (.v x) | none => none) else none
end Go.Gw

