/- Chapter 1: strings of units, plainly. -/
import Derived.Test.YtnggnpppaaiflaaDoorG01x2
import Derived.Test.YtnggnpppaaiflaaDoorGwZ
set_option linter.unusedVariables false
set_option linter.unusedSimpArgs false
set_option linter.unnecessarySimpa false
namespace Go.Gw
open Go.Proofs
set_option linter.unusedSimpArgs false

def unitsL : Str → List Nat
  | a :: b :: r => (a.toNat * 256 + b.toNat) :: unitsL r
  | _ => []
def enc1 (n : Nat) : Str := [UInt8.ofNat (n / 256), UInt8.ofNat (n % 256)]
def encL (l : List Nat) : Str := l.flatMap enc1
theorem unitsL_length : ∀ u : Str, (unitsL u).length = u.length / 2
  | [] => rfl
  | [_] => by simp [unitsL]
  | a :: b :: r => by simp only [unitsL, List.length_cons, unitsL_length r]; omega
theorem unitsL_lt : ∀ (u : Str) (n : Nat), n ∈ unitsL u → n < 65536
  | [], _, h => by cases h
  | [_], _, h => by cases h
  | a :: b :: r, n, h => by
    simp only [unitsL, List.mem_cons] at h
    rcases h with h | h
    · have := a.toNat_lt; have := b.toNat_lt; omega
    · exact unitsL_lt r n h
theorem enc1_of (a b : UInt8) : enc1 (a.toNat * 256 + b.toNat) = [a, b] := by
  have h1 := a.toNat_lt; have h2 := b.toNat_lt
  unfold enc1
  have e1 : (a.toNat * 256 + b.toNat) / 256 = a.toNat := by omega
  have e2 : (a.toNat * 256 + b.toNat) % 256 = b.toNat := by omega
  rw [e1, e2]; simp
theorem encL_units : ∀ u : Str, u.length % 2 = 0 → encL (unitsL u) = u
  | [], _ => rfl
  | [_], h => by simp at h
  | a :: b :: r, h => by
    have ih := encL_units r (by simp only [List.length_cons] at h; omega)
    unfold encL at ih ⊢
    simp only [unitsL, List.flatMap_cons, enc1_of, ih]; rfl
theorem unitsL_enc : ∀ l : List Nat, (∀ n ∈ l, n < 65536) → unitsL (encL l) = l
  | [], _ => rfl
  | n :: l, h => by
    have ih := unitsL_enc l (fun m hm => h m (List.mem_cons_of_mem _ hm))
    have hn := h n List.mem_cons_self
    unfold encL at ih ⊢
    simp only [List.flatMap_cons, enc1, List.cons_append, List.nil_append, unitsL, ih]
    congr 1
    have e1 : (UInt8.ofNat (n / 256)).toNat = n / 256 := by simp [UInt8.toNat_ofNat']; omega
    have e2 : (UInt8.ofNat (n % 256)).toNat = n % 256 := by simp [UInt8.toNat_ofNat']
    rw [e1, e2]; omega
theorem encL_length (l : List Nat) : (encL l).length = 2 * l.length := by
  induction l with
  | nil => rfl
  | cons n l ih => unfold encL at ih ⊢; rw [List.flatMap_cons, List.length_append, ih]; simp [enc1]; omega
theorem encL_append (l m : List Nat) : encL (l ++ m) = encL l ++ encL m := by simp [encL]
theorem unitsL_append : ∀ u v : Str, u.length % 2 = 0 → unitsL (u ++ v) = unitsL u ++ unitsL v
  | [], v, _ => rfl
  | [_], v, h => by simp at h
  | a :: b :: r, v, h => by
    simp only [List.cons_append, unitsL, unitsL_append r v (by simp only [List.length_cons] at h; omega)]
theorem unitsL_get : ∀ (u : Str) (i : Nat), i < u.length / 2 → ∃ a b, u[2 * i]? = some a ∧ u[2 * i + 1]? = some b ∧ (unitsL u)[i]? = some (a.toNat * 256 + b.toNat)
  | [], i, h => by simp at h
  | [_], i, h => by simp at h
  | a :: b :: r, 0, _ => ⟨a, b, rfl, rfl, rfl⟩
  | a :: b :: r, i + 1, h => by
    obtain ⟨x, y, h1, h2, h3⟩ := unitsL_get r i (by simp only [List.length_cons] at h; omega)
    refine ⟨x, y, ?_, ?_, ?_⟩
    · have : 2 * (i + 1) = 2 * i + 1 + 1 := by omega
      rw [this]; simpa using h1
    · have : 2 * (i + 1) + 1 = 2 * i + 1 + 1 + 1 := by omega
      rw [this]; simpa using h2
    · simpa [unitsL] using h3

theorem units_Check_eq (u : Str) (h : u.length < 9223372036854775808) : units_Check u = some (decide (u.length % 2 = 0)) := by
  unfold units_Check
  have e : ((IntKind.wrap .i64 ((BitVec.ofInt 64 (u.length : Int) &&& BitVec.ofInt 64 1).toNat)) == 0) = decide (u.length % 2 = 0) := by
    rw [BitVec.toNat_and]
    have e1 : (BitVec.ofInt 64 (u.length : Int)).toNat = u.length := by rw [BitVec.toNat_ofInt]; omega
    have e2 : (BitVec.ofInt 64 1).toNat = 1 := by rfl
    rw [e1, e2, Nat.and_one_is_mod, wrap_i64 (by omega) (by omega)]
    by_cases h0 : u.length % 2 = 0
    · simp [h0]
    · have : u.length % 2 = 1 := by omega
      simp [this]
  rw [e]
theorem ref01_Check_eq (u : Str) : ref01_Check u = some (decide (u.length % 2 = 0)) := by
  unfold ref01_Check
  congr 1
  have : Int.tmod ((u.length : Nat) : Int) 2 = ((u.length % 2 : Nat) : Int) := rfl
  rw [this]
  by_cases h : u.length % 2 = 0
  · simp [h]
  · have : u.length % 2 = 1 := by omega
    simp [this]
theorem units_Len_eq (u : Str) (h : u.length < 9223372036854775808) : units_Len u = some ((u.length / 2 : Nat) : Int) := by
  unfold units_Len
  have : Int.tdiv ((u.length : Nat) : Int) 2 = ((u.length / 2 : Nat) : Int) := rfl
  rw [this, wrap_i64 (by omega) (by omega)]
def unitAt (u : Str) (i : Int) : Int := if 0 ≤ i then (match (unitsL u)[i.toNat]? with | some n => (n : Int) | none => -1) else -1
theorem or_byte64 (x y : Nat) (hx : x < 256) (hy : y < 256) : IntKind.wrap .i64 ((BitVec.ofInt 64 (IntKind.wrap .i64 ((IntKind.wrap .i64 (x : Int)) * 2 ^ 8)) ||| BitVec.ofInt 64 (IntKind.wrap .i64 (y : Int))).toNat) = ((x * 256 + y : Nat) : Int) := by
  have e1 : IntKind.wrap .i64 (x : Int) = (x : Int) := wrap_i64 (by omega) (by omega)
  have e2 : IntKind.wrap .i64 (y : Int) = (y : Int) := wrap_i64 (by omega) (by omega)
  have e3 : ((x : Int) * 2 ^ 8) = ((x * 256 : Nat) : Int) := by simp
  rw [e1, e2, e3, wrap_i64 (n := ((x * 256 : Nat) : Int)) (by omega) (by omega), BitVec.toNat_or]
  have e4 : (BitVec.ofInt 64 ((x * 256 : Nat) : Int)).toNat = x * 256 := by rw [BitVec.ofInt_natCast, BitVec.toNat_ofNat]; omega
  have e5 : (BitVec.ofInt 64 (y : Int)).toNat = y := by rw [BitVec.ofInt_natCast, BitVec.toNat_ofNat]; omega
  rw [e4, e5]
  have e6 : x * 256 ||| y = x * 256 + y := by
    have := Nat.shiftLeft_add_eq_or_of_lt (b := y) (i := 8) hy x
    rw [Nat.shiftLeft_eq] at this
    exact this.symm
  rw [e6, wrap_i64 (by omega) (by omega)]
theorem units_At_eq (u : Str) (i : Int) (h : u.length < 4611686018427387904) : units_At u i = some (unitAt u i) := by
  unfold units_At units_At.j1 unitAt
  by_cases h0 : i < 0
  · have : ¬ 0 ≤ i := by omega
    simp [h0, this]
  · have h0' : 0 ≤ i := by omega
    rw [units_Len_eq u (by omega)]
    by_cases h1 : i ≥ ((u.length / 2 : Nat) : Int)
    · have : (unitsL u)[i.toNat]? = none := List.getElem?_eq_none (by rw [unitsL_length]; omega)
      simp only [h0, decide_false, Bool.false_eq_true, if_false, Option.bind_some, h1, decide_true, if_true, h0', this]
    · obtain ⟨k, rfl⟩ : ∃ k : Nat, i = k := ⟨i.toNat, by omega⟩
      obtain ⟨a, b, e1, e2, e3⟩ := unitsL_get u k (by omega)
      have w1 : IntKind.wrap .i64 (2 * (k : Int)) = ((2 * k : Nat) : Int) := by rw [wrap_i64 (by omega) (by omega)]; omega
      have w2 : IntKind.wrap .i64 (((2 * k : Nat) : Int) + 1) = ((2 * k + 1 : Nat) : Int) := by rw [wrap_i64 (by omega) (by omega)]; omega
      simp only [h0, decide_false, Bool.false_eq_true, if_false, Option.bind_some, h1, h0', if_true, w1, w2, getB_nat, e1, e2, Option.map_some, or_byte64 _ _ a.toNat_lt b.toNat_lt, Int.toNat_natCast, e3]
theorem unitAt_nat (u : Str) (k n : Nat) (h : (unitsL u)[k]? = some n) : unitAt u (k : Int) = (n : Int) := by
  unfold unitAt; rw [if_pos (by omega)]; simp [h]

def natsI (l : List Nat) : List Int := l.map Int.ofNat
theorem ref01_List_eq (u : Str) (h : u.length ≤ 100000000) : ref01_List u = some (natsI (unitsL u)) := by
  unfold ref01_List
  have hl := unitsL_length u
  have key := loop_run (step := ref01_List.l1 u) (fun k => (((2 * k : Nat) : Int), natsI ((unitsL u).take k))) (natsI (unitsL u)) (u.length / 2) 0 (fun j _ hj => ?_) ?_
  · have k2 : loopM (ref01_List.l1 u) (0, ([] : List Int)) = some (natsI (unitsL u)) := key
    rw [k2]; rfl
  · obtain ⟨a, b, e1, e2, e3⟩ := unitsL_get u j (by omega)
    unfold ref01_List.l1
    have w1 : IntKind.wrap .i64 (((2 * j : Nat) : Int) + 1) = ((2 * j + 1 : Nat) : Int) := by rw [wrap_i64 (by omega) (by omega)]; omega
    have w2 : IntKind.wrap .i64 (((2 * j : Nat) : Int) + 2) = ((2 * (j + 1) : Nat) : Int) := by rw [wrap_i64 (by omega) (by omega)]; omega
    have c : ((2 * j + 1 : Nat) : Int) < ((u.length : Nat) : Int) := by omega
    have ha := a.toNat_lt; have hb := b.toNat_lt
    have w3 : IntKind.wrap .i64 ((a.toNat : Nat) : Int) = ((a.toNat : Nat) : Int) := wrap_i64 (by omega) (by omega)
    have w4 : IntKind.wrap .i64 ((b.toNat : Nat) : Int) = ((b.toNat : Nat) : Int) := wrap_i64 (by omega) (by omega)
    have w5 : IntKind.wrap .i64 (((a.toNat : Nat) : Int) * 256) = ((a.toNat * 256 : Nat) : Int) := by rw [wrap_i64 (by omega) (by omega)]; omega
    have w6 : IntKind.wrap .i64 (((a.toNat * 256 : Nat) : Int) + ((b.toNat : Nat) : Int)) = ((a.toNat * 256 + b.toNat : Nat) : Int) := by rw [wrap_i64 (by omega) (by omega)]; omega
    have hr := room_ok (n := (natsI ((unitsL u).take j)).length + 1) (by simp [natsI, hl]; omega)
    simp only [w1, c, decide_true, if_true, getB_nat, e1, e2, Option.map_some, Option.bind_some, hr, w2, w3, w4, w5, w6]
    rw [List.take_add_one, e3]
    simp [natsI]
  · unfold ref01_List.l1
    have c : ¬ (IntKind.wrap .i64 (((2 * (0 + u.length / 2) : Nat) : Int) + 1) < ((u.length : Nat) : Int)) := by rw [wrap_i64 (by omega) (by omega)]; omega
    simp only [c, decide_false, Bool.false_eq_true, if_false]
    rw [List.take_of_length_le (by omega)]
theorem ref01_Make_eq (l : List Nat) (h : l.length ≤ 100000000) (hl : ∀ n ∈ l, n < 65536) : ref01_Make (natsI l) = some (encL l) := by
  unfold ref01_Make
  have key := loop_run (step := ref01_Make.l1 (natsI l)) (fun k => ((k : Int), encL (l.take k))) (encL l) l.length 0 (fun j _ hj => ?_) ?_
  · have k2 : loopM (ref01_Make.l1 (natsI l)) (0, ([] : List UInt8)) = some (encL l) := key
    rw [k2]; rfl
  · have hlt : j < l.length := by omega
    unfold ref01_Make.l1
    have hn := hl l[j] (List.getElem_mem _)
    have c : ((j : Int) < (((natsI l).length : Nat) : Int)) := by simp [natsI]; omega
    have e1 : (natsI l)[j]? = some (l[j] : Int) := by simp [natsI, hlt]
    have w1 : IntKind.wrap .i64 ((j : Int) + 1) = ((j + 1 : Nat) : Int) := by rw [wrap_i64 (by omega) (by omega)]; omega
    have t1 : Int.tdiv ((l[j] : Nat) : Int) 256 = ((l[j] / 256 : Nat) : Int) := rfl
    have t2 : Int.tmod ((l[j] : Nat) : Int) 256 = ((l[j] % 256 : Nat) : Int) := rfl
    have w2 : IntKind.wrap .i64 ((l[j] / 256 : Nat) : Int) = ((l[j] / 256 : Nat) : Int) := wrap_i64 (by omega) (by omega)
    have w3 : IntKind.wrap .u8 ((l[j] / 256 : Nat) : Int) = ((l[j] / 256 : Nat) : Int) := wrap_u8 (by omega) (by omega)
    have w4 : IntKind.wrap .u8 ((l[j] % 256 : Nat) : Int) = ((l[j] % 256 : Nat) : Int) := wrap_u8 (by omega) (by omega)
    have b1 := toB_u8 (n := ((l[j] / 256 : Nat) : Int)) (by omega) (by omega)
    have b2 := toB_u8 (n := ((l[j] % 256 : Nat) : Int)) (by omega) (by omega)
    have hr := room_ok (n := (encL (l.take j)).length + 2) (by rw [encL_length, List.length_take]; omega)
    simp only [c, decide_true, if_true, getI_nat, e1, Option.bind_some, t1, t2, w1, w2, w3, w4, b1, b2, hr]
    rw [List.take_add_one, List.getElem?_eq_getElem hlt, Option.toList_some, encL_append]
    simp only [encL, enc1, Int.toNat_natCast, List.flatMap_cons, List.flatMap_nil, List.append_nil]
  · unfold ref01_Make.l1
    have c : ¬ ((((0 + l.length : Nat) : Int)) < (((natsI l).length : Nat) : Int)) := by simp [natsI]
    simp only [c, decide_false, Bool.false_eq_true, if_false]
    rw [List.take_of_length_le (by omega)]
end Go.Gw
