/- Chapter 5: texts written. Plain Lean over the printed functions. -/
import Derived.Test.YtfankedlhjnpfaaDoorOrder2
import Derived.Lib.Replace
set_option linter.unusedVariables false
set_option linter.unusedSimpArgs false
set_option linter.unnecessarySimpa false
namespace Go.Gw
open Go.Proofs
set_option linter.unusedSimpArgs false

section
variable {old new : List UInt8}
theorem replaceAll_k (hn : old ≠ new) (s : List UInt8) : Lib.replaceAll s old new = Lib.replaceK old new (Lib.count s old) s := by
  unfold Lib.replaceAll Lib.replace Lib.replaceNum
  rw [if_neg (by simpa using hn), if_pos (by left; omega)]
theorem replaceAll_nil (h0 : old ≠ []) (hn : old ≠ new) : Lib.replaceAll [] old new = [] := by
  rw [replaceAll_k hn, Lib.count_miss]
  · rfl
  · unfold Lib.index
    cases old with
    | nil => exact absurd rfl h0
    | cons _ _ => rfl
theorem replaceAll_hit (h0 : old ≠ []) (hn : old ≠ new) {s : List UInt8} (hs : s ≠ []) (hp : old.isPrefixOf s = true) : Lib.replaceAll s old new = new ++ Lib.replaceAll (s.drop old.length) old new := by
  have hi : Lib.index s old = ((0 : Nat) : Int) := by
    cases s with
    | nil => exact absurd rfl hs
    | cons b l => unfold Lib.index; rw [hp]; rfl
  rw [replaceAll_k hn, replaceAll_k hn, Lib.count_hit h0 hi, Nat.add_comm, Lib.replaceK_hit old new _ s 0 hi]
  simp
theorem replaceAll_miss (h0 : old ≠ []) (hn : old ≠ new) {b : UInt8} {l : List UInt8} (hp : old.isPrefixOf (b :: l) = false) : Lib.replaceAll (b :: l) old new = b :: Lib.replaceAll l old new := by
  have hix : Lib.index (b :: l) old = if Lib.index l old == -1 then -1 else Lib.index l old + 1 := by rw [Lib.index, hp]; simp
  rw [replaceAll_k hn, replaceAll_k hn]
  by_cases hm : Lib.index l old = -1
  · rw [Lib.count_miss hm, Lib.count_miss (by rw [hix, if_pos (beq_iff_eq.2 hm)])]; rfl
  · have hge := Lib.index_ge l old
    obtain ⟨j, hj⟩ : ∃ j : Nat, Lib.index l old = j := ⟨(Lib.index l old).toNat, by omega⟩
    have hix' : Lib.index (b :: l) old = ((j + 1 : Nat) : Int) := by rw [hix, if_neg (fun e => hm (beq_iff_eq.1 e)), hj]; omega
    rw [Lib.count_hit h0 hix', Lib.count_hit h0 hj, Nat.add_comm, Lib.replaceK_hit old new _ _ _ hix', Nat.add_comm 1, Lib.replaceK_hit old new _ _ _ hj]
    have : j + 1 + old.length = (j + old.length) + 1 := by omega
    rw [this]
    simp
end
theorem rep_text (s : Str) : Lib.replaceAll s [0] [0, 255] = textB s := by
  induction s with
  | nil => exact replaceAll_nil (by simp) (by simp)
  | cons b l ih =>
    have e : textB (b :: l) = (if b = 0 then [0, 255] else [b]) ++ textB l := by simp [textB]
    rw [e]
    by_cases hb : b = 0
    · subst hb
      rw [replaceAll_hit (by simp) (by simp) (by simp) (by simp [List.isPrefixOf])]
      simp [ih]
    · rw [replaceAll_miss (by simp) (by simp) (by simp [List.isPrefixOf]; exact fun e => hb e.symm), ih]
      simp [hb]

theorem countB_bound (s old : Str) (h : 1 ≤ old.length) : Lib.countB ⟨⟨s⟩⟩ ⟨⟨old⟩⟩ ≤ s.length := Lib.countB_le ⟨⟨old⟩⟩ h s.length ⟨⟨s⟩⟩ (Nat.le_refl _)
theorem strings_ReplaceAll_eq (t old new : Str) (h : t.length ≤ 100000000) (h1 : 1 ≤ old.length) (h2 : new.length ≤ 2) : strings_ReplaceAll t old new = some (Lib.replaceAll t old new) := by
  unfold strings_ReplaceAll
  have := countB_bound t old h1
  have h3 : Lib.countB ⟨⟨t⟩⟩ ⟨⟨old⟩⟩ * new.length ≤ 100000000 * 2 := Nat.mul_le_mul (by omega) h2
  rw [if_pos ⟨by omega, h1, by omega⟩]

/-- one part, as order.Encode writes it -/
theorem order_part (p : Part) (i : Nat) (acc : Str) (hS : p.S.length ≤ 10000000) (hacc : acc.length ≤ 50000000) (hi : i < 4611686018427387904) :
    (if (p.IsText && (p.N == 0)) = true then Option.bind (units_Check p.S) fun v52 => order_Encode.j3 (i : Int) acc p v52 else order_Encode.j3 (i : Int) acc p false) =
      some (if partOk p = true then .inl (((i + 1 : Nat) : Int), acc ++ partB p) else .inr (.inr ([], 50))) := by
  have hw : IntKind.wrap .i64 ((i : Int) + 1) = ((i + 1 : Nat) : Int) := by rw [wrap_i64 (by omega) (by omega)]; omega
  have hj4 : ∀ x, order_Encode.j4 (i : Int) x = some (.inl (((i + 1 : Nat) : Int), x)) := by intro x; unfold order_Encode.j4; rw [hw]
  have htl := textB_length_le p.S
  have hT : order_Encode.j3 (i : Int) acc p true = some (.inl (((i + 1 : Nat) : Int), acc ++ (32 :: (textB p.S ++ [0, 1])))) := by
    unfold order_Encode.j3
    rw [if_pos rfl, room_ok (by simp; omega)]
    simp only [Option.bind_some]
    rw [strings_ReplaceAll_eq _ _ _ (by omega) (by simp) (by simp), rep_text]
    simp only [Option.bind_some]
    rw [room_ok (by simp; omega)]
    simp only [Option.bind_some]
    rw [room_ok (by simp; omega)]
    simp only [Option.bind_some, hj4]
    simp
  have hF : order_Encode.j3 (i : Int) acc p false = some (if (!p.IsText && (p.S == []) && decide (p.N ≥ -9007199254740991) && decide (p.N ≤ 9007199254740991)) = true then .inl (((i + 1 : Nat) : Int), acc ++ (16 :: numB (up p.N))) else .inr (.inr ([], 50))) := by
    unfold order_Encode.j3
    rw [if_neg (by simp)]
    by_cases hc : (!p.IsText && (p.S == []) && decide (p.N ≥ -9007199254740991) && decide (p.N ≤ 9007199254740991)) = true
    · rw [if_pos hc, if_pos hc, room_ok (by simp; omega)]
      simp only [Option.bind_some]
      rw [order_num p _ (by simp; omega)]
      simp only [Option.bind_some, hj4]
      simp
    · rw [if_neg hc, if_neg hc]
  unfold partOk partB
  cases hp : p.IsText with
  | true =>
    by_cases hN : p.N = 0
    · rw [units_Check_eq _ (by omega)]
      by_cases he : p.S.length % 2 = 0
      · simp [hN, he, hT]
      · simp [hN, he, hF, hp]
    · simp [hN, hF, hp]
  | false =>
    simp only [Bool.false_and, Bool.false_eq_true, if_false, hF, hp, Bool.not_false, Bool.true_and, Bool.and_assoc]

theorem weight_append (k l : List Part) : weight (k ++ l) = weight k + weight l := by simp [weight]
theorem order_Encode_loop (k : List Part) (hk : weight k ≤ 3000000) :
    ∀ (n i : Nat), i + n = k.length → ∀ acc : Str, acc = bytesOf (k.take i) → loopM (order_Encode.l1 k) ((i : Int), acc) = some (if (k.drop i).all partOk = true then .inl (acc ++ bytesOf (k.drop i)) else .inr ([], 50)) := by
  have hlen := weight_length k
  intro n
  induction n with
  | zero =>
    intro i hi acc hacc
    have hstep : order_Encode.l1 k ((i : Int), acc) = some (.inr (.inl acc)) := by
      unfold order_Encode.l1
      have : ¬ ((i : Int) < ((k.length : Nat) : Int)) := by omega
      simp [this]
    rw [loopM_out hstep, List.drop_of_length_le (by omega)]
    simp [bytesOf]
  | succ n ih =>
    intro i hi acc hacc
    have hlt : i < k.length := by omega
    have e1 : k.drop i = k[i] :: k.drop (i + 1) := List.drop_eq_getElem_cons hlt
    have hsplit : k = k.take i ++ k[i] :: k.drop (i + 1) := by rw [← e1, List.take_append_drop]
    have hwt : weight k = weight (k.take i) + (k[i].S.length + 1 + weight (k.drop (i + 1))) := by
      conv => lhs; rw [hsplit]
      rw [weight_append, weight_cons]
    have hacclen : acc.length ≤ 9 * weight (k.take i) := by rw [hacc]; exact bytesOf_length_le _
    have hstep : order_Encode.l1 k ((i : Int), acc) = some (if partOk k[i] = true then .inl (((i + 1 : Nat) : Int), acc ++ partB k[i]) else .inr (.inr ([], 50))) := by
      unfold order_Encode.l1
      have hl : ((i : Int) < ((k.length : Nat) : Int)) := by omega
      simp only [hl, decide_true, if_true]
      rw [getI_nat, List.getElem?_eq_getElem hlt]
      simp only [Option.bind_some]
      exact order_part _ _ _ (by omega) (by omega) (by omega)
    rw [e1]
    by_cases h0 : partOk k[i] = true
    · rw [if_pos h0] at hstep
      rw [loopM_go hstep, ih (i + 1) (by omega) _ (by rw [hacc, List.take_succ_eq_append_getElem hlt, bytesOf_append]; simp [bytesOf])]
      simp only [List.all_cons, h0, Bool.true_and, bytesOf_cons, List.append_assoc]
    · rw [if_neg h0] at hstep
      rw [loopM_out hstep]
      have h0' : partOk k[i] = false := by simpa using h0
      simp only [List.all_cons, h0', Bool.false_and, Bool.false_eq_true, if_false]
theorem order_Encode_eq (k : List Part) (hk : weight k ≤ 3000000) : order_Encode k = some (encode k) := by
  unfold order_Encode encode
  have hl := order_Encode_loop k hk k.length 0 (by omega) [] (by simp [bytesOf])
  have hl' : loopM (order_Encode.l1 k) (0, ([] : List UInt8)) = _ := hl
  rw [hl']
  simp only [Option.bind_some, List.drop_zero, List.nil_append]
  by_cases h : k.all partOk = true
  · rw [if_pos h, if_pos h]
    by_cases h2 : (bytesOf k).length > 256
    · have : ((bytesOf k).length : Int) > 256 := by omega
      simp [h2, this]
    · have : ¬ ((bytesOf k).length : Int) > 256 := by omega
      simp [h2, this]
  · rw [if_neg h, if_neg h]
end Go.Gw
