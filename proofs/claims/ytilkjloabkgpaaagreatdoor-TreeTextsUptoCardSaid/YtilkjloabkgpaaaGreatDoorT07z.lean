/- The data of this program's slices, as cells. -/
import Derived.Test.YtilkjloabkgpaaaGreatDoorProg
import Derived.Test.YtilkjloabkgpaaaGreatDoorDnQ
set_option linter.unusedVariables false
set_option linter.unusedSimpArgs false
set_option linter.unnecessarySimpa false
namespace Go.D07
open Go Go.Gw Go.Dn Go.RowKit
structure T_api_Node where
  Kind : Int
  Name : Str
  Num : Int
  Text : Str
  Names : List Str
  L : List T_api_Node
structure T_tree_form where
  name : Str
  num : Int
  text : Bool
  names : Bool
  l : Str
inductive KD where
  | k9
  | k25
  | k46
  | k5
  | k22
  | k3
  | no
def kd : Nat → KD
  | 9 => .k9
  | 25 => .k25
  | 46 => .k46
  | 5 => .k5
  | 22 => .k22
  | 3 => .k3
  | _ => .no
def TK : KD → Type
  | .k9 => Str
  | .k25 => T_api_Node
  | .k46 => T_tree_form
  | .k5 => UInt8
  | .k22 => List Str
  | .k3 => Int
  | .no => Unit
def TT (e : Nat) : Type := TK (kd e)
def szK : KD → Nat
  | .k9 => 1
  | .k25 => 6
  | .k46 => 5
  | .k5 => 1
  | .k22 => 1
  | .k3 => 1
  | .no => 0
def cellsK : (k : KD) → TK k → List (AV TT)
  | .k9, (x : Str) => [.v (.string ⟨⟨x⟩⟩)]
  | .k25, (x : T_api_Node) => [.v (.int .i64 x.Kind), .v (.string ⟨⟨x.Name⟩⟩), .v (.int .i64 x.Num), .v (.string ⟨⟨x.Text⟩⟩), .sl 9 x.Names, .sl 25 x.L]
  | .k46, (x : T_tree_form) => [.v (.string ⟨⟨x.name⟩⟩), .v (.int .i64 x.num), .v (.bool x.text), .v (.bool x.names), .v (.string ⟨⟨x.l⟩⟩)]
  | .k5, (x : UInt8) => [.v (.int .u8 (x.toNat : Int))]
  | .k22, (x : List Str) => [.sl 9 x]
  | .k3, (x : Int) => [.v (.int .i64 x)]
  | .no, _ => []
def close9 : List (AV TT) → Option Str
  | [a0] => Option.bind (cStr a0) fun x0 => some (x0 : Str)
  | _ => none
def close25 : List (AV TT) → Option T_api_Node
  | [a0, a1, a2, a3, a4, a5] => Option.bind (cInt .i64 a0) fun x0 => Option.bind (cStr a1) fun x1 => Option.bind (cInt .i64 a2) fun x2 => Option.bind (cStr a3) fun x3 => Option.bind (cSl 9 a4) fun x4 => Option.bind (cSl 25 a5) fun x5 => some (⟨x0, x1, x2, x3, x4, x5⟩ : T_api_Node)
  | _ => none
def close46 : List (AV TT) → Option T_tree_form
  | [a0, a1, a2, a3, a4] => Option.bind (cStr a0) fun x0 => Option.bind (cInt .i64 a1) fun x1 => Option.bind (cBool a2) fun x2 => Option.bind (cBool a3) fun x3 => Option.bind (cStr a4) fun x4 => some (⟨x0, x1, x2, x3, x4⟩ : T_tree_form)
  | _ => none
def close5 : List (AV TT) → Option UInt8
  | [a0] => Option.bind (cByte a0) fun x0 => some (x0 : UInt8)
  | _ => none
def close22 : List (AV TT) → Option (List Str)
  | [a0] => Option.bind (cSl 9 a0) fun x0 => some (x0 : List Str)
  | _ => none
def close3 : List (AV TT) → Option Int
  | [a0] => Option.bind (cInt .i64 a0) fun x0 => some (x0 : Int)
  | _ => none
def closeK : (k : KD) → List (AV TT) → Option (TK k)
  | .k9, l => close9 l
  | .k25, l => close25 l
  | .k46, l => close46 l
  | .k5, l => close5 l
  | .k22, l => close22 l
  | .k3, l => close3 l
  | .no, l => match l with | [] => some () | _ => none
def Y : Tys where
  T := TT
  sz e := szK (kd e)
  cells e x := cellsK (kd e) x
  close e l := closeK (kd e) l
  byt := 5
  isB := rfl
theorem fit9 {F : Heap} {ρ : List Pl} : ∀ {l : List (AV Y.T)} {x : Str} {vs : List Value}, close9 l = some x → Rels Y F ρ l vs → Rels Y F ρ (cellsK .k9 x) vs
  | [a0], x, vs, h, r => by
    simp only [close9] at h
    obtain ⟨x0, h0, h⟩ := bnd_some h
    cases h
    obtain ⟨u0, vs, rfl, q0, r⟩ := r.inv
    rw [r.nil_inv]
    exact (Rels.cons (cStr_ok h0 q0) Rels.nil)
  | [], x, vs, h, r => by simp [close9] at h
  | _ :: _ :: _, x, vs, h, r => by simp [close9] at h
theorem fit25 {F : Heap} {ρ : List Pl} : ∀ {l : List (AV Y.T)} {x : T_api_Node} {vs : List Value}, close25 l = some x → Rels Y F ρ l vs → Rels Y F ρ (cellsK .k25 x) vs
  | [a0, a1, a2, a3, a4, a5], x, vs, h, r => by
    simp only [close25] at h
    obtain ⟨x0, h0, h⟩ := bnd_some h
    obtain ⟨x1, h1, h⟩ := bnd_some h
    obtain ⟨x2, h2, h⟩ := bnd_some h
    obtain ⟨x3, h3, h⟩ := bnd_some h
    obtain ⟨x4, h4, h⟩ := bnd_some h
    obtain ⟨x5, h5, h⟩ := bnd_some h
    cases h
    obtain ⟨u0, vs, rfl, q0, r⟩ := r.inv
    obtain ⟨u1, vs, rfl, q1, r⟩ := r.inv
    obtain ⟨u2, vs, rfl, q2, r⟩ := r.inv
    obtain ⟨u3, vs, rfl, q3, r⟩ := r.inv
    obtain ⟨u4, vs, rfl, q4, r⟩ := r.inv
    obtain ⟨u5, vs, rfl, q5, r⟩ := r.inv
    rw [r.nil_inv]
    exact (Rels.cons (cInt_ok h0 q0) (Rels.cons (cStr_ok h1 q1) (Rels.cons (cInt_ok h2 q2) (Rels.cons (cStr_ok h3 q3) (Rels.cons (cSl_ok h4 q4) (Rels.cons (cSl_ok h5 q5) Rels.nil))))))
  | [], x, vs, h, r => by simp [close25] at h
  | [_], x, vs, h, r => by simp [close25] at h
  | [_, _], x, vs, h, r => by simp [close25] at h
  | [_, _, _], x, vs, h, r => by simp [close25] at h
  | [_, _, _, _], x, vs, h, r => by simp [close25] at h
  | [_, _, _, _, _], x, vs, h, r => by simp [close25] at h
  | _ :: _ :: _ :: _ :: _ :: _ :: _ :: _, x, vs, h, r => by simp [close25] at h
theorem fit46 {F : Heap} {ρ : List Pl} : ∀ {l : List (AV Y.T)} {x : T_tree_form} {vs : List Value}, close46 l = some x → Rels Y F ρ l vs → Rels Y F ρ (cellsK .k46 x) vs
  | [a0, a1, a2, a3, a4], x, vs, h, r => by
    simp only [close46] at h
    obtain ⟨x0, h0, h⟩ := bnd_some h
    obtain ⟨x1, h1, h⟩ := bnd_some h
    obtain ⟨x2, h2, h⟩ := bnd_some h
    obtain ⟨x3, h3, h⟩ := bnd_some h
    obtain ⟨x4, h4, h⟩ := bnd_some h
    cases h
    obtain ⟨u0, vs, rfl, q0, r⟩ := r.inv
    obtain ⟨u1, vs, rfl, q1, r⟩ := r.inv
    obtain ⟨u2, vs, rfl, q2, r⟩ := r.inv
    obtain ⟨u3, vs, rfl, q3, r⟩ := r.inv
    obtain ⟨u4, vs, rfl, q4, r⟩ := r.inv
    rw [r.nil_inv]
    exact (Rels.cons (cStr_ok h0 q0) (Rels.cons (cInt_ok h1 q1) (Rels.cons (cBool_ok h2 q2) (Rels.cons (cBool_ok h3 q3) (Rels.cons (cStr_ok h4 q4) Rels.nil)))))
  | [], x, vs, h, r => by simp [close46] at h
  | [_], x, vs, h, r => by simp [close46] at h
  | [_, _], x, vs, h, r => by simp [close46] at h
  | [_, _, _], x, vs, h, r => by simp [close46] at h
  | [_, _, _, _], x, vs, h, r => by simp [close46] at h
  | _ :: _ :: _ :: _ :: _ :: _ :: _, x, vs, h, r => by simp [close46] at h
theorem fit5 {F : Heap} {ρ : List Pl} : ∀ {l : List (AV Y.T)} {x : UInt8} {vs : List Value}, close5 l = some x → Rels Y F ρ l vs → Rels Y F ρ (cellsK .k5 x) vs
  | [a0], x, vs, h, r => by
    simp only [close5] at h
    obtain ⟨x0, h0, h⟩ := bnd_some h
    cases h
    obtain ⟨u0, vs, rfl, q0, r⟩ := r.inv
    rw [r.nil_inv]
    exact (Rels.cons (cByte_ok h0 q0) Rels.nil)
  | [], x, vs, h, r => by simp [close5] at h
  | _ :: _ :: _, x, vs, h, r => by simp [close5] at h
theorem fit22 {F : Heap} {ρ : List Pl} : ∀ {l : List (AV Y.T)} {x : List Str} {vs : List Value}, close22 l = some x → Rels Y F ρ l vs → Rels Y F ρ (cellsK .k22 x) vs
  | [a0], x, vs, h, r => by
    simp only [close22] at h
    obtain ⟨x0, h0, h⟩ := bnd_some h
    cases h
    obtain ⟨u0, vs, rfl, q0, r⟩ := r.inv
    rw [r.nil_inv]
    exact (Rels.cons (cSl_ok h0 q0) Rels.nil)
  | [], x, vs, h, r => by simp [close22] at h
  | _ :: _ :: _, x, vs, h, r => by simp [close22] at h
theorem fit3 {F : Heap} {ρ : List Pl} : ∀ {l : List (AV Y.T)} {x : Int} {vs : List Value}, close3 l = some x → Rels Y F ρ l vs → Rels Y F ρ (cellsK .k3 x) vs
  | [a0], x, vs, h, r => by
    simp only [close3] at h
    obtain ⟨x0, h0, h⟩ := bnd_some h
    cases h
    obtain ⟨u0, vs, rfl, q0, r⟩ := r.inv
    rw [r.nil_inv]
    exact (Rels.cons (cInt_ok h0 q0) Rels.nil)
  | [], x, vs, h, r => by simp [close3] at h
  | _ :: _ :: _, x, vs, h, r => by simp [close3] at h
theorem lenK : ∀ (k : KD) (x : TK k), (cellsK k x).length = szK k := by intro k; cases k <;> intro x <;> rfl
theorem freeK : ∀ (k : KD) (x : TK k), AV.frees (cellsK k x) = true := by intro k; cases k <;> intro x <;> rfl
theorem oneK : ∀ (k : KD) (x : TK k), AV.ones (cellsK k x) = true := by intro k; cases k <;> intro x <;> rfl
theorem fitK {F : Heap} {ρ : List Pl} {l : List (AV Y.T)} {vs : List Value} (r : Rels Y F ρ l vs) : ∀ (k : KD) (x : TK k), closeK k l = some x → Rels Y F ρ (cellsK k x) vs
  | .k9, x, h => fit9 h r
  | .k25, x, h => fit25 h r
  | .k46, x, h => fit46 h r
  | .k5, x, h => fit5 h r
  | .k22, x, h => fit22 h r
  | .k3, x, h => fit3 h r
  | .no, x, h => by
    cases l with
    | nil => rw [r.nil_inv]; exact Rels.nil
    | cons a l => simp [closeK] at h
theorem hY : TysOk Y where
  len e x := lenK (kd e) x
  free e x := freeK (kd e) x
  one e x := oneK (kd e) x
  byte x := rfl
  fit e l x h F ρ vs r := fitK r (kd e) x h
def re25 (x : T_api_Node) : T_api_Node := ⟨x.Kind, x.Name, x.Num, x.Text, x.Names, x.L⟩
@[simp] theorem re25_eq (x : T_api_Node) : re25 x = x := by cases x; rfl
def re46 (x : T_tree_form) : T_tree_form := ⟨x.name, x.num, x.text, x.names, x.l⟩
@[simp] theorem re46_eq (x : T_tree_form) : re46 x = x := by cases x; rfl
theorem hsz : Y.sz Y.byt = 1 := rfl
end Go.D07
