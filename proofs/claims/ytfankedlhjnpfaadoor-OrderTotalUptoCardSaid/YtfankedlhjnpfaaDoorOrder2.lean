/- Chapter 5: keys written. Plain Lean over the printed functions. -/
import Derived.Test.YtfankedlhjnpfaaDoorOrder1
set_option linter.unusedVariables false
set_option linter.unusedSimpArgs false
set_option linter.unnecessarySimpa false
namespace Go.Gw
open Go.Proofs
set_option linter.unusedSimpArgs false

theorem xor_top {x : Nat} (h : x < 9223372036854775808) : x ^^^ 9223372036854775808 = x + 9223372036854775808 := by
  have e : (9223372036854775808 : Nat) = 2 ^ 63 := rfl
  rw [e] at h ⊢
  apply Nat.eq_of_testBit_eq
  intro i
  rw [Nat.testBit_xor, Nat.testBit_two_pow, Nat.add_comm]
  rcases Nat.lt_trichotomy i 63 with hi | hi | hi
  · rw [Nat.testBit_two_pow_add_gt hi]
    have : ¬ (63 = i) := by omega
    simp [this]
  · subst hi
    rw [Nat.testBit_two_pow_add_eq]
    simp
  · have h1 : x.testBit i = false := Nat.testBit_lt_two_pow (Nat.lt_trans h (Nat.pow_lt_pow_right (by omega) hi))
    have h2 : (2 ^ 63 + x).testBit i = false := Nat.testBit_lt_two_pow (Nat.lt_of_lt_of_le (by omega : 2 ^ 63 + x < 2 ^ 64) (Nat.pow_le_pow_right (by omega) hi))
    have : ¬ (63 = i) := by omega
    simp [h1, h2, this]
theorem xor_top2 {x : Nat} (h : x < 18446744073709551616) : x ^^^ 9223372036854775808 = (x + 9223372036854775808) % 18446744073709551616 := by
  rcases Nat.lt_or_ge x 9223372036854775808 with h1 | h1
  · rw [xor_top h1]; omega
  · obtain ⟨y, rfl⟩ : ∃ y, x = y + 9223372036854775808 := ⟨x - 9223372036854775808, by omega⟩
    have hy : y < 9223372036854775808 := by omega
    rw [← xor_top hy, Nat.xor_assoc, Nat.xor_self, Nat.xor_zero, xor_top hy]; omega

/-- the number's place among all -/
def up (N : Int) : Nat := ((N + 9223372036854775808) % 18446744073709551616).toNat
theorem up_lt (N : Int) : up N < 18446744073709551616 := by unfold up; omega
theorem flip_eq (x : Int) (h0 : 0 ≤ x) (h1 : x < 18446744073709551616) : IntKind.wrap .u64 ((BitVec.ofInt 64 x ^^^ BitVec.ofInt 64 9223372036854775808).toNat) = (x + 9223372036854775808) % 18446744073709551616 := by
  rw [BitVec.toNat_xor]
  have e1 : (BitVec.ofInt 64 x).toNat = x.toNat := by
    rw [BitVec.toNat_ofInt]
    have : x % (2 ^ 64 : Nat) = x := by omega
    simp only [this]
  have e2 : (BitVec.ofInt 64 9223372036854775808).toNat = 9223372036854775808 := by rfl
  rw [e1, e2, xor_top2 (by omega), wrap_u64 (by omega) (by omega)]
  omega
theorem flipN_eq (N : Int) : IntKind.wrap .u64 ((BitVec.ofInt 64 (IntKind.wrap .u64 N) ^^^ BitVec.ofInt 64 9223372036854775808).toNat) = (up N : Int) := by
  rw [wrap_u64_mod N, flip_eq _ (by omega) (by omega)]
  unfold up; omega
theorem addN_eq (N : Int) : IntKind.wrap .u64 ((IntKind.wrap .u64 N) + 9223372036854775808) = (up N : Int) := by
  rw [wrap_u64_mod, wrap_u64_mod]; unfold up; omega

theorem even_eq (n : Nat) (h : n < 9223372036854775808) : ((IntKind.wrap .i64 ((BitVec.ofInt 64 (n : Int) &&& BitVec.ofInt 64 1).toNat)) == 0) = decide (n % 2 = 0) := by
  rw [BitVec.toNat_and]
  have e1 : (BitVec.ofInt 64 (n : Int)).toNat = n := by
    rw [BitVec.toNat_ofInt]; omega
  have e2 : (BitVec.ofInt 64 1).toNat = 1 := by rfl
  rw [e1, e2, Nat.and_one_is_mod, wrap_i64 (by omega) (by omega)]
  by_cases h0 : n % 2 = 0
  · simp [h0]
  · have : n % 2 = 1 := by omega
    simp [this]
theorem units_Check_eq (u : Str) (h : u.length < 9223372036854775808) : units_Check u = some (decide (u.length % 2 = 0)) := by
  unfold units_Check; rw [even_eq _ h]
theorem ref01_Check_eq (u : Str) : ref01_Check u = some (decide (u.length % 2 = 0)) := by
  unfold ref01_Check
  have : Int.tmod ((u.length : Nat) : Int) 2 = ((u.length % 2 : Nat) : Int) := by rw [Int.ofNat_tmod]; rfl
  rw [this]
  by_cases h0 : u.length % 2 = 0
  · simp [h0]
  · have h1 : ¬ ((u.length : Int) % 2 = 0) := by omega
    simp [h0, h1]

def partOk (p : Part) : Bool :=
  if p.IsText then p.N == 0 && decide (p.S.length % 2 = 0) else (p.S == []) && (decide (p.N ≥ -9007199254740991) && decide (p.N ≤ 9007199254740991))
/-- number n's byte at that place -/
def byteAt (n k : Nat) : UInt8 := UInt8.ofNat (n / 256 ^ k % 256)
def numB (n : Nat) : Str := [byteAt n 7, byteAt n 6, byteAt n 5, byteAt n 4, byteAt n 3, byteAt n 2, byteAt n 1, byteAt n 0]
def textB (s : Str) : Str := s.flatMap fun b => if b = 0 then [0, 255] else [b]
def partB (p : Part) : Str := if p.IsText then 32 :: (textB p.S ++ [0, 1]) else 16 :: numB (up p.N)
def bytesOf (k : List Part) : Str := k.flatMap partB
def encode (k : List Part) : Str × Int := if k.all partOk = true then (if (bytesOf k).length > 256 then ([], 2) else (bytesOf k, 0)) else ([], 50)

theorem ref05_may_eq (p : Part) : ref05_may p = some (partOk p) := by
  unfold ref05_may partOk ref05_may.j1
  cases hp : p.IsText with
  | true => by_cases h : p.N = 0 <;> simp [h, ref01_Check_eq]
  | false => simp [Bool.and_assoc]

theorem shr_byte (n k : Nat) (hn : n < 18446744073709551616) (hk : k < 8) (x : Int) (hx : x = 8 * k) : (shrI .u64 (n : Int) (IntKind.wrap .u64 x)).bind (fun v => toB (IntKind.wrap .u8 v)) = some (byteAt n k) := by
  subst hx
  unfold shrI
  rw [wrap_u64 (by omega) (by omega), if_neg (by omega)]
  have e1 : min (8 * (k : Int)).toNat IntKind.u64.bits = 8 * k := by
    have : IntKind.u64.bits = 64 := rfl
    omega
  rw [e1]
  simp only [Option.bind_some]
  have hp : (2 : Int) ^ (8 * k) = ((256 ^ k : Nat) : Int) := by
    have h1 : (2 : Nat) ^ (8 * k) = 256 ^ k := by rw [Nat.pow_mul]
    rw [← h1]; simp
  have e2 : Int.fdiv (n : Int) (2 ^ (8 * k)) = ((n / 256 ^ k : Nat) : Int) := by
    rw [hp, Int.fdiv_eq_ediv_of_nonneg _ (Int.natCast_nonneg _)]; rfl
  rw [e2, wrap_u8_mod, toB_u8 (by omega) (by omega)]
  unfold byteAt
  congr 2

theorem numB_length (n : Nat) : (numB n).length = 8 := rfl
theorem textB_length_le (s : Str) : (textB s).length ≤ 2 * s.length := by
  induction s with
  | nil => simp [textB]
  | cons b s ih =>
    have : textB (b :: s) = (if b = 0 then [0, 255] else [b]) ++ textB s := by simp [textB]
    rw [this, List.length_append, List.length_cons]
    split <;> simp <;> omega
theorem partB_length_le (p : Part) : (partB p).length ≤ 2 * p.S.length + 9 := by
  unfold partB
  have := textB_length_le p.S
  split
  · simp; omega
  · simp [numB_length]
def weight (k : List Part) : Nat := (k.map fun p => p.S.length + 1).sum
theorem weight_cons (p : Part) (k : List Part) : weight (p :: k) = p.S.length + 1 + weight k := by simp [weight]
theorem weight_length (k : List Part) : k.length ≤ weight k := by
  induction k with
  | nil => simp [weight]
  | cons p k ih => rw [weight_cons, List.length_cons]; omega
theorem bytesOf_cons (p : Part) (k : List Part) : bytesOf (p :: k) = partB p ++ bytesOf k := by simp [bytesOf]
theorem bytesOf_append (k l : List Part) : bytesOf (k ++ l) = bytesOf k ++ bytesOf l := by simp [bytesOf]
theorem bytesOf_length_le (k : List Part) : (bytesOf k).length ≤ 9 * weight k := by
  induction k with
  | nil => simp [bytesOf]
  | cons p k ih => rw [weight_cons, bytesOf_cons, List.length_append]; have := partB_length_le p; omega

/-- the loop of a number's bytes, as order.Encode has it -/
theorem order_num (p : Part) (acc : Str) (hacc : acc.length ≤ 100000000) : loopM (order_Encode.l3 p) (56, acc) = some (acc ++ numB (up p.N)) := by
  have step : ∀ (k : Nat) (a : Str), k < 8 → a.length ≤ 200000000 → order_Encode.l3 p (8 * (k : Int), a) = some (.inl (8 * (k : Int) - 8, a ++ [byteAt (up p.N) k])) := by
    intro k a hk ha
    unfold order_Encode.l3
    have h0 : (8 * (k : Int) ≥ 0) := by omega
    have hs := shr_byte (up p.N) k (up_lt _) hk (8 * k) rfl
    simp only [h0, decide_true, if_true, flipN_eq]
    cases h1 : shrI .u64 ((up p.N : Nat) : Int) (IntKind.wrap .u64 (8 * (k : Int))) with
    | none => rw [h1] at hs; cases hs
    | some v =>
      rw [h1] at hs
      simp only [Option.bind_some] at hs ⊢
      rw [hs]
      simp only [Option.bind_some]
      rw [room_ok (by omega)]
      simp only [Option.bind_some]
      rw [wrap_i64 (by omega) (by omega)]
  have last : ∀ a : Str, order_Encode.l3 p (-8, a) = some (.inr a) := by
    intro a; unfold order_Encode.l3; simp
  have s7 := step 7 acc (by omega) (by omega)
  have s6 := step 6 (acc ++ [byteAt (up p.N) 7]) (by omega) (by simp; omega)
  have s5 := step 5 (acc ++ [byteAt (up p.N) 7] ++ [byteAt (up p.N) 6]) (by omega) (by simp; omega)
  have s4 := step 4 (acc ++ [byteAt (up p.N) 7] ++ [byteAt (up p.N) 6] ++ [byteAt (up p.N) 5]) (by omega) (by simp; omega)
  have s3 := step 3 (acc ++ [byteAt (up p.N) 7] ++ [byteAt (up p.N) 6] ++ [byteAt (up p.N) 5] ++ [byteAt (up p.N) 4]) (by omega) (by simp; omega)
  have s2 := step 2 (acc ++ [byteAt (up p.N) 7] ++ [byteAt (up p.N) 6] ++ [byteAt (up p.N) 5] ++ [byteAt (up p.N) 4] ++ [byteAt (up p.N) 3]) (by omega) (by simp; omega)
  have s1 := step 1 (acc ++ [byteAt (up p.N) 7] ++ [byteAt (up p.N) 6] ++ [byteAt (up p.N) 5] ++ [byteAt (up p.N) 4] ++ [byteAt (up p.N) 3] ++ [byteAt (up p.N) 2]) (by omega) (by simp; omega)
  have s0 := step 0 (acc ++ [byteAt (up p.N) 7] ++ [byteAt (up p.N) 6] ++ [byteAt (up p.N) 5] ++ [byteAt (up p.N) 4] ++ [byteAt (up p.N) 3] ++ [byteAt (up p.N) 2] ++ [byteAt (up p.N) 1]) (by omega) (by simp; omega)
  have t : ∀ {i j : Int} {a b : Str}, order_Encode.l3 p (i, a) = some (.inl (j, b)) → loopM (order_Encode.l3 p) (i, a) = loopM (order_Encode.l3 p) (j, b) := fun h => loopM_go h
  have e := (t s7).trans ((t s6).trans ((t s5).trans ((t s4).trans ((t s3).trans ((t s2).trans ((t s1).trans ((t s0).trans (loopM_out (last _)))))))))
  refine e.trans ?_
  simp [numB]
theorem ref_num (p : Part) : loopM (ref05_part.l1 p) (7, [16]) = some (16 :: numB (up p.N)) := by
  have step : ∀ (k : Nat) (a : Str), k < 8 → a.length ≤ 200000000 → ref05_part.l1 p ((k : Int), a) = some (.inl ((k : Int) - 1, a ++ [byteAt (up p.N) k])) := by
    intro k a hk ha
    unfold ref05_part.l1
    have h0 : ((k : Int) ≥ 0) := by omega
    have hs := shr_byte (up p.N) k (up_lt _) hk (8 * k) rfl
    have hw : IntKind.wrap .i64 (8 * (k : Int)) = 8 * (k : Int) := wrap_i64 (by omega) (by omega)
    simp only [h0, decide_true, if_true, addN_eq, hw]
    cases h1 : shrI .u64 ((up p.N : Nat) : Int) (IntKind.wrap .u64 (8 * (k : Int))) with
    | none => rw [h1] at hs; cases hs
    | some v =>
      rw [h1] at hs
      simp only [Option.bind_some] at hs ⊢
      rw [hs]
      simp only [Option.bind_some]
      rw [room_ok (by omega)]
      simp only [Option.bind_some]
      rw [wrap_i64 (by omega) (by omega)]
  have last : ∀ a : Str, ref05_part.l1 p (-1, a) = some (.inr a) := by
    intro a; unfold ref05_part.l1; simp
  have t : ∀ {i j : Int} {a b : Str}, ref05_part.l1 p (i, a) = some (.inl (j, b)) → loopM (ref05_part.l1 p) (i, a) = loopM (ref05_part.l1 p) (j, b) := fun h => loopM_go h
  have b := byteAt (up p.N)
  have s7 := step 7 [16] (by omega) (by simp)
  have s6 := step 6 ([16] ++ [byteAt (up p.N) 7]) (by omega) (by simp)
  have s5 := step 5 ([16] ++ [byteAt (up p.N) 7] ++ [byteAt (up p.N) 6]) (by omega) (by simp)
  have s4 := step 4 ([16] ++ [byteAt (up p.N) 7] ++ [byteAt (up p.N) 6] ++ [byteAt (up p.N) 5]) (by omega) (by simp)
  have s3 := step 3 ([16] ++ [byteAt (up p.N) 7] ++ [byteAt (up p.N) 6] ++ [byteAt (up p.N) 5] ++ [byteAt (up p.N) 4]) (by omega) (by simp)
  have s2 := step 2 ([16] ++ [byteAt (up p.N) 7] ++ [byteAt (up p.N) 6] ++ [byteAt (up p.N) 5] ++ [byteAt (up p.N) 4] ++ [byteAt (up p.N) 3]) (by omega) (by simp)
  have s1 := step 1 ([16] ++ [byteAt (up p.N) 7] ++ [byteAt (up p.N) 6] ++ [byteAt (up p.N) 5] ++ [byteAt (up p.N) 4] ++ [byteAt (up p.N) 3] ++ [byteAt (up p.N) 2]) (by omega) (by simp)
  have s0 := step 0 ([16] ++ [byteAt (up p.N) 7] ++ [byteAt (up p.N) 6] ++ [byteAt (up p.N) 5] ++ [byteAt (up p.N) 4] ++ [byteAt (up p.N) 3] ++ [byteAt (up p.N) 2] ++ [byteAt (up p.N) 1]) (by omega) (by simp)
  have e := (t s7).trans ((t s6).trans ((t s5).trans ((t s4).trans ((t s3).trans ((t s2).trans ((t s1).trans ((t s0).trans (loopM_out (last _)))))))))
  exact e
end Go.Gw
