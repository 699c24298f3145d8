/- The data of this program's slices, as cells. -/
import Derived.Test.YtglnkknalibgdaaDoorProg
import Derived.Test.YtglnkknalibgdaaDoorDnQ
import Derived.Test.YtglnkknalibgdaaDoorDnT
import Derived.Test.YtglnkknalibgdaaDoorDnU
set_option linter.unusedVariables false
set_option linter.unusedSimpArgs false
set_option linter.unnecessarySimpa false
namespace Go.D13
open Go Go.Gw Go.Dn Go.RowKit
structure T_api_Data where
  Kind : Int
  N : Int
  S : Str
  Keys : List Str
  L : List T_api_Data
structure T_json_parser where
  u : Str
  at_ : Int
  deep : Int
structure T_credenzaref13_reader where
  l : List Int
  at_ : Int
  e : Int
inductive KD where
  | k9
  | k25
  | k3
  | k5
  | k38
  | k46
  | no
def kd : Nat → KD
  | 9 => .k9
  | 25 => .k25
  | 3 => .k3
  | 5 => .k5
  | 38 => .k38
  | 46 => .k46
  | _ => .no
def TK : KD → Type
  | .k9 => Str
  | .k25 => T_api_Data
  | .k3 => Int
  | .k5 => UInt8
  | .k38 => T_json_parser
  | .k46 => T_credenzaref13_reader
  | .no => Unit
def TT (e : Nat) : Type := TK (kd e)
def szK : KD → Nat
  | .k9 => 1
  | .k25 => 5
  | .k3 => 1
  | .k5 => 1
  | .k38 => 3
  | .k46 => 3
  | .no => 0
def cellsK : (k : KD) → TK k → List (AV TT)
  | .k9, (x : Str) => [.v (.string ⟨⟨x⟩⟩)]
  | .k25, (x : T_api_Data) => [.v (.int .i64 x.Kind), .v (.int .i64 x.N), .v (.string ⟨⟨x.S⟩⟩), .sl 9 x.Keys, .sl 25 x.L]
  | .k3, (x : Int) => [.v (.int .i64 x)]
  | .k5, (x : UInt8) => [.v (.int .u8 (x.toNat : Int))]
  | .k38, (x : T_json_parser) => [.v (.string ⟨⟨x.u⟩⟩), .v (.int .i64 x.at_), .v (.int .i64 x.deep)]
  | .k46, (x : T_credenzaref13_reader) => [.sl 3 x.l, .v (.int .i64 x.at_), .v (.int .i64 x.e)]
  | .no, _ => []
def close9 : List (AV TT) → Option Str
  | [a0] => Option.bind (cStr a0) fun x0 => some (x0 : Str)
  | _ => none
def close25 : List (AV TT) → Option T_api_Data
  | [a0, a1, a2, a3, a4] => Option.bind (cInt .i64 a0) fun x0 => Option.bind (cInt .i64 a1) fun x1 => Option.bind (cStr a2) fun x2 => Option.bind (cSl 9 a3) fun x3 => Option.bind (cSl 25 a4) fun x4 => some (⟨x0, x1, x2, x3, x4⟩ : T_api_Data)
  | _ => none
def close3 : List (AV TT) → Option Int
  | [a0] => Option.bind (cInt .i64 a0) fun x0 => some (x0 : Int)
  | _ => none
def close5 : List (AV TT) → Option UInt8
  | [a0] => Option.bind (cByte a0) fun x0 => some (x0 : UInt8)
  | _ => none
def close38 : List (AV TT) → Option T_json_parser
  | [a0, a1, a2] => Option.bind (cStr a0) fun x0 => Option.bind (cInt .i64 a1) fun x1 => Option.bind (cInt .i64 a2) fun x2 => some (⟨x0, x1, x2⟩ : T_json_parser)
  | _ => none
def close46 : List (AV TT) → Option T_credenzaref13_reader
  | [a0, a1, a2] => Option.bind (cSl 3 a0) fun x0 => Option.bind (cInt .i64 a1) fun x1 => Option.bind (cInt .i64 a2) fun x2 => some (⟨x0, x1, x2⟩ : T_credenzaref13_reader)
  | _ => none
def closeK : (k : KD) → List (AV TT) → Option (TK k)
  | .k9, l => close9 l
  | .k25, l => close25 l
  | .k3, l => close3 l
  | .k5, l => close5 l
  | .k38, l => close38 l
  | .k46, l => close46 l
  | .no, l => match l with | [] => some () | _ => none
def ktK : KD → Option (Option IntKind)
  | .k9 => some none
  | .k3 => some (some .i64)
  | .k5 => some (some .u8)
  | _ => none
def rowK_ : KD → Bool
  | .k25 => true
  | .k38 => true
  | .k46 => true
  | _ => false
def bldOf : Nat → List Nat
  | 52 => [0]
  | 53 => [0]
  | 54 => [0]
  | 55 => [0]
  | 81 => [0]
  | 82 => [0]
  | _ => []
def Y : Tys where
  T := TT
  sz e := szK (kd e)
  cells e x := cellsK (kd e) x
  close e l := closeK (kd e) l
  byt := 5
  isB := rfl
  bld := bldOf
  kt e := ktK (kd e)
  row e := rowK_ (kd e)
theorem fit9 {F : Heap} {ρ : List Pl} : ∀ {l : List (AV Y.T)} {x : Str} {vs : List Value}, close9 l = some x → Rels Y F ρ l vs → Rels Y F ρ (cellsK .k9 x) vs
  | [a0], x, vs, h, r => by
    simp only [close9] at h
    obtain ⟨x0, h0, h⟩ := bnd_some h
    cases h
    obtain ⟨u0, vs, rfl, q0, r⟩ := r.inv
    rw [r.nil_inv]
    exact (Rels.cons (cStr_ok h0 q0) Rels.nil)
  | [], x, vs, h, r => by simp [close9] at h
  | _ :: _ :: _, x, vs, h, r => by simp [close9] at h
theorem fit25 {F : Heap} {ρ : List Pl} : ∀ {l : List (AV Y.T)} {x : T_api_Data} {vs : List Value}, close25 l = some x → Rels Y F ρ l vs → Rels Y F ρ (cellsK .k25 x) vs
  | [a0, a1, a2, a3, a4], x, vs, h, r => by
    simp only [close25] at h
    obtain ⟨x0, h0, h⟩ := bnd_some h
    obtain ⟨x1, h1, h⟩ := bnd_some h
    obtain ⟨x2, h2, h⟩ := bnd_some h
    obtain ⟨x3, h3, h⟩ := bnd_some h
    obtain ⟨x4, h4, h⟩ := bnd_some h
    cases h
    obtain ⟨u0, vs, rfl, q0, r⟩ := r.inv
    obtain ⟨u1, vs, rfl, q1, r⟩ := r.inv
    obtain ⟨u2, vs, rfl, q2, r⟩ := r.inv
    obtain ⟨u3, vs, rfl, q3, r⟩ := r.inv
    obtain ⟨u4, vs, rfl, q4, r⟩ := r.inv
    rw [r.nil_inv]
    exact (Rels.cons (cInt_ok h0 q0) (Rels.cons (cInt_ok h1 q1) (Rels.cons (cStr_ok h2 q2) (Rels.cons (cSl_ok h3 q3) (Rels.cons (cSl_ok h4 q4) Rels.nil)))))
  | [], x, vs, h, r => by simp [close25] at h
  | [_], x, vs, h, r => by simp [close25] at h
  | [_, _], x, vs, h, r => by simp [close25] at h
  | [_, _, _], x, vs, h, r => by simp [close25] at h
  | [_, _, _, _], x, vs, h, r => by simp [close25] at h
  | _ :: _ :: _ :: _ :: _ :: _ :: _, x, vs, h, r => by simp [close25] at h
theorem fit3 {F : Heap} {ρ : List Pl} : ∀ {l : List (AV Y.T)} {x : Int} {vs : List Value}, close3 l = some x → Rels Y F ρ l vs → Rels Y F ρ (cellsK .k3 x) vs
  | [a0], x, vs, h, r => by
    simp only [close3] at h
    obtain ⟨x0, h0, h⟩ := bnd_some h
    cases h
    obtain ⟨u0, vs, rfl, q0, r⟩ := r.inv
    rw [r.nil_inv]
    exact (Rels.cons (cInt_ok h0 q0) Rels.nil)
  | [], x, vs, h, r => by simp [close3] at h
  | _ :: _ :: _, x, vs, h, r => by simp [close3] at h
theorem fit5 {F : Heap} {ρ : List Pl} : ∀ {l : List (AV Y.T)} {x : UInt8} {vs : List Value}, close5 l = some x → Rels Y F ρ l vs → Rels Y F ρ (cellsK .k5 x) vs
  | [a0], x, vs, h, r => by
    simp only [close5] at h
    obtain ⟨x0, h0, h⟩ := bnd_some h
    cases h
    obtain ⟨u0, vs, rfl, q0, r⟩ := r.inv
    rw [r.nil_inv]
    exact (Rels.cons (cByte_ok h0 q0) Rels.nil)
  | [], x, vs, h, r => by simp [close5] at h
  | _ :: _ :: _, x, vs, h, r => by simp [close5] at h
theorem fit38 {F : Heap} {ρ : List Pl} : ∀ {l : List (AV Y.T)} {x : T_json_parser} {vs : List Value}, close38 l = some x → Rels Y F ρ l vs → Rels Y F ρ (cellsK .k38 x) vs
  | [a0, a1, a2], x, vs, h, r => by
    simp only [close38] at h
    obtain ⟨x0, h0, h⟩ := bnd_some h
    obtain ⟨x1, h1, h⟩ := bnd_some h
    obtain ⟨x2, h2, h⟩ := bnd_some h
    cases h
    obtain ⟨u0, vs, rfl, q0, r⟩ := r.inv
    obtain ⟨u1, vs, rfl, q1, r⟩ := r.inv
    obtain ⟨u2, vs, rfl, q2, r⟩ := r.inv
    rw [r.nil_inv]
    exact (Rels.cons (cStr_ok h0 q0) (Rels.cons (cInt_ok h1 q1) (Rels.cons (cInt_ok h2 q2) Rels.nil)))
  | [], x, vs, h, r => by simp [close38] at h
  | [_], x, vs, h, r => by simp [close38] at h
  | [_, _], x, vs, h, r => by simp [close38] at h
  | _ :: _ :: _ :: _ :: _, x, vs, h, r => by simp [close38] at h
theorem fit46 {F : Heap} {ρ : List Pl} : ∀ {l : List (AV Y.T)} {x : T_credenzaref13_reader} {vs : List Value}, close46 l = some x → Rels Y F ρ l vs → Rels Y F ρ (cellsK .k46 x) vs
  | [a0, a1, a2], x, vs, h, r => by
    simp only [close46] at h
    obtain ⟨x0, h0, h⟩ := bnd_some h
    obtain ⟨x1, h1, h⟩ := bnd_some h
    obtain ⟨x2, h2, h⟩ := bnd_some h
    cases h
    obtain ⟨u0, vs, rfl, q0, r⟩ := r.inv
    obtain ⟨u1, vs, rfl, q1, r⟩ := r.inv
    obtain ⟨u2, vs, rfl, q2, r⟩ := r.inv
    rw [r.nil_inv]
    exact (Rels.cons (cSl_ok h0 q0) (Rels.cons (cInt_ok h1 q1) (Rels.cons (cInt_ok h2 q2) Rels.nil)))
  | [], x, vs, h, r => by simp [close46] at h
  | [_], x, vs, h, r => by simp [close46] at h
  | [_, _], x, vs, h, r => by simp [close46] at h
  | _ :: _ :: _ :: _ :: _, x, vs, h, r => by simp [close46] at h
theorem keyK : ∀ (k : KD) (q : Option IntKind), ktK k = some q → ∀ x : TK k, KeyV q (cellsK k x) := by
  intro k q h
  cases k <;> first | (cases h; done) | (cases h; intro x; exact ⟨_, rfl⟩)
theorem lenK : ∀ (k : KD) (x : TK k), (cellsK k x).length = szK k := by intro k; cases k <;> intro x <;> rfl
theorem freeK : ∀ (k : KD) (x : TK k), AV.frees (cellsK k x) = true := by intro k; cases k <;> intro x <;> rfl
theorem oneK : ∀ (k : KD) (x : TK k), AV.ones (cellsK k x) = true := by intro k; cases k <;> intro x <;> rfl
theorem fitK {F : Heap} {ρ : List Pl} {l : List (AV Y.T)} {vs : List Value} (r : Rels Y F ρ l vs) : ∀ (k : KD) (x : TK k), closeK k l = some x → Rels Y F ρ (cellsK k x) vs
  | .k9, x, h => fit9 h r
  | .k25, x, h => fit25 h r
  | .k3, x, h => fit3 h r
  | .k5, x, h => fit5 h r
  | .k38, x, h => fit38 h r
  | .k46, x, h => fit46 h r
  | .no, x, h => by
    cases l with
    | nil => rw [r.nil_inv]; exact Rels.nil
    | cons a l => simp [closeK] at h
theorem hY : TysOk Y where
  len e x := lenK (kd e) x
  free e x := freeK (kd e) x
  one e x := oneK (kd e) x
  byte x := rfl
  fit e l x h F ρ vs r := fitK r (kd e) x h
  key e q h x := keyK (kd e) q h x
def re25 (x : T_api_Data) : T_api_Data := ⟨x.Kind, x.N, x.S, x.Keys, x.L⟩
@[simp] theorem re25_eq (x : T_api_Data) : re25 x = x := by cases x; rfl
def re38 (x : T_json_parser) : T_json_parser := ⟨x.u, x.at_, x.deep⟩
@[simp] theorem re38_eq (x : T_json_parser) : re38 x = x := by cases x; rfl
def re46 (x : T_credenzaref13_reader) : T_credenzaref13_reader := ⟨x.l, x.at_, x.e⟩
@[simp] theorem re46_eq (x : T_credenzaref13_reader) : re46 x = x := by cases x; rfl
theorem hsz : Y.sz Y.byt = 1 := rfl
end Go.D13
