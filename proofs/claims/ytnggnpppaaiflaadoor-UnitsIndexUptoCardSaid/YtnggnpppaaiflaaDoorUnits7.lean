/- Chapter 1: the laws, the second part. -/
import Derived.Test.YtnggnpppaaiflaaDoorUnits6
set_option linter.unusedVariables false
set_option linter.unusedSimpArgs false
set_option linter.unnecessarySimpa false
namespace Go.Gw
open Go.Proofs
set_option linter.unusedSimpArgs false

theorem units_Cut_eq (u : Str) (from_ to_ : Int) (hu : u.length ≤ 1000000000) : units_Cut u from_ to_ = some (cutS u from_ to_) := by
  unfold units_Cut cutS
  rw [units_Len_eq u (by omega), bind_some']
  have hl := unitsL_length u
  generalize ha : (if 0 > from_ then (0 : Int) else from_) = a
  generalize hb : (if ((u.length / 2 : Nat) : Int) < to_ then ((u.length / 2 : Nat) : Int) else to_) = b
  have ha1 : a.toNat = from_.toNat := by rw [← ha]; split <;> omega
  have ha2 : 0 ≤ a := by rw [← ha]; split <;> omega
  have hb1 : b ≤ ((u.length / 2 : Nat) : Int) := by rw [← hb]; split <;> omega
  have hb2 : b.toNat = min to_.toNat (u.length / 2) := by rw [← hb]; split <;> omega
  have ht : (unitsL u).take to_.toNat = (unitsL u).take b.toNat := by
    rw [hb2]
    by_cases h : to_.toNat ≤ u.length / 2
    · rw [Nat.min_eq_left h]
    · rw [Nat.min_eq_right (by omega), List.take_of_length_le (by omega), List.take_of_length_le (by omega)]
  rw [ht, ← ha1]
  by_cases hab : a ≥ b
  · have : ((unitsL u).take b.toNat).drop a.toNat = [] := List.drop_eq_nil_of_le (by rw [List.length_take]; omega)
    simp only [hab, decide_true, if_true, this]; rfl
  · obtain ⟨x, rfl⟩ : ∃ x : Nat, a = x := ⟨a.toNat, by omega⟩
    obtain ⟨y, rfl⟩ : ∃ y : Nat, b = y := ⟨b.toNat, by omega⟩
    have w1 : IntKind.wrap .i64 (2 * (x : Int)) = ((2 * x : Nat) : Int) := by rw [wrap_i64 (by omega) (by omega)]; omega
    have w2 : IntKind.wrap .i64 (2 * (y : Int)) = ((2 * y : Nat) : Int) := by rw [wrap_i64 (by omega) (by omega)]; omega
    have hcut := cutL_nat u (2 * x) (2 * y) (by omega) (by omega)
    have e : 2 * y - 2 * x = 2 * (y - x) := by omega
    rw [e] at hcut
    simp only [hab, decide_false, Bool.false_eq_true, if_false, w1, w2, hcut, Option.bind_some, Int.toNat_natCast]
    rw [encL_cut u x y (by omega)]
theorem cut_snoc {α : Type} (l : List α) (x : α) (A B k : Nat) (h : l.length = k) : ((l ++ [x]).take B).drop A = if A ≤ k ∧ k < B then (l.take B).drop A ++ [x] else (l.take B).drop A := by
  by_cases hB : k < B
  · rw [List.take_of_length_le (by simp; omega), List.take_of_length_le (l := l) (by omega)]
    by_cases hA : A ≤ k
    · rw [if_pos ⟨hA, hB⟩, List.drop_append_of_le_length (by omega)]
    · rw [if_neg (by omega), List.drop_eq_nil_of_le (by simp; omega), List.drop_eq_nil_of_le (by omega)]
  · rw [if_neg (by omega), List.take_append_of_le_length (by omega)]
theorem ref01_Cut_eq (u : Str) (from_ to_ : Int) (hu : u.length ≤ 100000000) : ref01_Cut u from_ to_ = some (cutS u from_ to_) := by
  unfold ref01_Cut
  rw [ref01_List_eq u hu, bind_some']
  have hl := unitsL_length u
  have hll : (natsI (unitsL u)).length = (unitsL u).length := by simp [natsI]
  have key := loop_run (step := ref01_Cut.l1 from_ to_ (natsI (unitsL u))) (fun k => ((k : Int), natsI ((((unitsL u).take k).take to_.toNat).drop from_.toNat))) (natsI (((unitsL u).take to_.toNat).drop from_.toNat)) (unitsL u).length 0 (fun j _ hj => ?_) ?_
  · have k2 : loopM (ref01_Cut.l1 from_ to_ (natsI (unitsL u))) (0, ([] : List Int)) = some (natsI (((unitsL u).take to_.toNat).drop from_.toNat)) := by
      have e : natsI ((((unitsL u).take 0).take to_.toNat).drop from_.toNat) = [] := by simp [natsI]
      simp only [e] at key
      exact key
    rw [k2]
    simp only [Option.bind_some]
    rw [ref01_Make_eq _ (by simp; omega) (fun n hn => unitsL_lt u n (List.mem_of_mem_take (List.mem_of_mem_drop hn)))]
    rfl
  · have hlt : j < (unitsL u).length := by omega
    have c : (decide ((j : Int) < (((natsI (unitsL u)).length : Nat) : Int))) = true := by rw [decide_eq_true_eq, hll]; omega
    have hg : (natsI (unitsL u))[j]? = some (((unitsL u)[j] : Nat) : Int) := by simp [natsI, hlt]
    have w1 : IntKind.wrap .i64 ((j : Int) + 1) = ((j + 1 : Nat) : Int) := by rw [wrap_i64 (by omega) (by omega)]; omega
    have hsn : (unitsL u).take (j + 1) = (unitsL u).take j ++ [(unitsL u)[j]] := by rw [List.take_add_one, List.getElem?_eq_getElem hlt, Option.toList_some]
    have hcs := cut_snoc ((unitsL u).take j) (unitsL u)[j] from_.toNat to_.toNat j (by rw [List.length_take]; omega)
    rw [← hsn] at hcs
    have hr := room_ok (n := (natsI ((((unitsL u).take j).take to_.toNat).drop from_.toNat)).length + 1) (by simp [natsI]; omega)
    unfold ref01_Cut.l1 ref01_Cut.j2
    generalize (unitsL u)[j] = n at *
    simp only [c, if_true, getI_nat, hg, Option.bind_some, w1, hr, hcs]
    by_cases hc : (j : Int) ≥ from_ ∧ (j : Int) < to_
    · have c2 : ((decide ((j : Int) ≥ from_)) && (decide ((j : Int) < to_))) = true := by simp only [Bool.and_eq_true, decide_eq_true_eq]; exact hc
      rw [c2, if_pos rfl, if_pos (by omega)]
      simp [natsI]
    · have c2 : ((decide ((j : Int) ≥ from_)) && (decide ((j : Int) < to_))) = false := by simp only [Bool.and_eq_false_iff, decide_eq_false_iff_not]; omega
      rw [c2, if_neg (by simp), if_neg (by omega)]
  · unfold ref01_Cut.l1
    have c : ¬ (((0 + (unitsL u).length : Nat) : Int) < (((natsI (unitsL u)).length : Nat) : Int)) := by rw [hll]; omega
    simp only [c, decide_false, Bool.false_eq_true, if_false]
    have e : (unitsL u).take (0 + (unitsL u).length) = unitsL u := List.take_of_length_le (by omega)
    rw [e]
theorem ref01_At_eq (u : Str) (i : Int) (hu : u.length ≤ 100000000) : ref01_At u i = some (unitAt u i) := by
  unfold ref01_At unitAt
  rw [ref01_List_eq u hu, bind_some']
  have hll : (natsI (unitsL u)).length = (unitsL u).length := by simp [natsI]
  by_cases h0 : 0 ≤ i
  · obtain ⟨k, rfl⟩ : ∃ k : Nat, i = k := ⟨i.toNat, by omega⟩
    by_cases h1 : k < (unitsL u).length
    · have c : ((decide ((k : Int) < 0)) || (decide ((k : Int) ≥ (((natsI (unitsL u)).length : Nat) : Int)))) = false := by
        simp only [Bool.or_eq_false_iff, decide_eq_false_iff_not]; omega
      have hg : (natsI (unitsL u))[k]? = some (((unitsL u)[k] : Nat) : Int) := by simp [natsI, h1]
      rw [c, if_neg (by simp), getI_nat, hg, bind_some', if_pos h0, Int.toNat_natCast, List.getElem?_eq_getElem h1]
    · have c : ((decide ((k : Int) < 0)) || (decide ((k : Int) ≥ (((natsI (unitsL u)).length : Nat) : Int)))) = true := by
        simp only [Bool.or_eq_true, decide_eq_true_eq]; omega
      rw [c, if_pos rfl, if_pos h0, Int.toNat_natCast, List.getElem?_eq_none (by omega)]
  · have c : ((decide (i < 0)) || (decide (i ≥ (((natsI (unitsL u)).length : Nat) : Int)))) = true := by
      simp only [Bool.or_eq_true, decide_eq_true_eq]; omega
    rw [c, if_pos rfl, if_neg h0]
theorem law01_UnitsLook_true (u : Str) (i from_ to_ : Int) (hu : u.length ≤ 1048576) : law01_UnitsLook u i from_ to_ = some true := by
  unfold law01_UnitsLook law01_UnitsLook.j1
  have hl : ref01_Len u = some ((u.length / 2 : Nat) : Int) := by
    unfold ref01_Len
    rw [ref01_List_eq u (by omega), bind_some']
    have hll : (natsI (unitsL u)).length = u.length / 2 := by simp [natsI, unitsL_length]
    rw [hll]
  simp only [law01_live_eq, Option.bind_some, units_Check_eq u (by omega), ref01_Check_eq, units_Len_eq u (by omega), hl, units_At_eq u i (by omega), ref01_At_eq u i (by omega), units_Cut_eq u from_ to_ (by omega), ref01_Cut_eq u from_ to_ (by omega), beq_self_eq_true, if_true]

/-! ### Find -/
theorem mask_bit : ∀ i : Fin 64, Nat.testBit 18446744073709551614 i.val = decide (i.val ≠ 0) := by decide
theorem even_mask (n : Nat) (h : n < 9223372036854775808) (he : n % 2 = 0) : IntKind.wrap .i64 ((BitVec.ofInt 64 (n : Int) &&& ~~~BitVec.ofInt 64 1).toNat) = (n : Int) := by
  have e1 : (BitVec.ofInt 64 (n : Int)).toNat = n := by rw [BitVec.ofInt_natCast, BitVec.toNat_ofNat]; omega
  have e2 : (~~~BitVec.ofInt 64 1).toNat = 18446744073709551614 := by decide
  rw [BitVec.toNat_and, e1, e2]
  have e3 : n &&& 18446744073709551614 = n := by
    apply Nat.eq_of_testBit_eq
    intro i
    rw [Nat.testBit_and]
    by_cases h64 : i < 64
    · have := mask_bit ⟨i, h64⟩
      simp only at this
      rw [this]
      by_cases h0 : i = 0
      · subst h0
        have : n.testBit 0 = false := by rw [Nat.testBit_zero]; simp [he]
        simp [this]
      · simp [h0]
    · have : n.testBit i = false := Nat.testBit_lt_two_pow (Nat.lt_of_lt_of_le h (Nat.le_trans (show 9223372036854775808 ≤ 2 ^ 64 by decide) (Nat.pow_le_pow_right (by omega) (by omega))))
      simp [this]
  rw [e3, wrap_i64 (by omega) (by omega)]
theorem isPrefixOf_iff {s t : Str} : s.isPrefixOf t = true ↔ s <+: t := List.isPrefixOf_iff_prefix
theorem index_occ : ∀ (s sub : Str) (i : Nat), i ≤ s.length → Lib.occAt s sub i = true → ∃ k : Nat, Lib.index s sub = (k : Int) ∧ k ≤ i ∧ Lib.occAt s sub k = true
  | [], sub, i, hi, h => by
    have h0 : i = 0 := by simpa using hi
    subst h0
    refine ⟨0, ?_, by omega, h⟩
    cases sub with
    | nil => rfl
    | cons a t => simp [Lib.occAt] at h
  | b :: l, sub, i, hi, h => by
    cases hp : sub.isPrefixOf (b :: l) with
    | true =>
      refine ⟨0, ?_, by omega, by simpa [Lib.occAt] using hp⟩
      unfold Lib.index; rw [if_pos hp]; rfl
    | false =>
      obtain ⟨j, rfl⟩ : ∃ j, i = j + 1 := by
        cases i with
        | zero => simp [Lib.occAt, hp] at h
        | succ j => exact ⟨j, rfl⟩
      have h' : Lib.occAt l sub j = true := by simpa [Lib.occAt] using h
      obtain ⟨k, e1, e2, e3⟩ := index_occ l sub j (by simpa using hi) h'
      refine ⟨k + 1, ?_, by omega, by simpa [Lib.occAt] using e3⟩
      unfold Lib.index
      rw [if_neg (by simp [hp]), e1]
      have c : ((k : Int) == -1) = false := by rw [beq_eq_false_iff_ne]; omega
      rw [c, if_neg (by simp)]; rfl
theorem find_loop (t v : Str) (N : Nat) (ht : t.length ≤ 100000000) (hte : t.length % 2 = 0) (hN : 2 * N ≤ t.length) (hocc : Lib.occAt t v (2 * N) = true) :
    ∀ (m x : Nat), N - x < m → x ≤ N → ∃ k : Nat, loopM (units_Find.l1 t v) (x : Int) = some (.inr (k : Int)) ∧ k ≤ N ∧ x ≤ k ∧ Lib.occAt t v (2 * k) = true := by
  intro m
  induction m with
  | zero => intro x h; omega
  | succ m ih =>
    intro x h1 h2
    have hdrop : Lib.occAt (t.drop (2 * x)) v (2 * (N - x)) = true := by
      unfold Lib.occAt at hocc ⊢
      rw [List.drop_drop]
      have : 2 * x + 2 * (N - x) = 2 * N := by omega
      rw [this]; exact hocc
    obtain ⟨k, e1, e2, e3⟩ := index_occ (t.drop (2 * x)) v (2 * (N - x)) (by rw [List.length_drop]; omega) hdrop
    have c : (decide ((x : Int) ≤ ((t.length / 2 : Nat) : Int))) = true := by rw [decide_eq_true_eq]; omega
    have w1 : IntKind.wrap .i64 (2 * (x : Int)) = ((2 * x : Nat) : Int) := by rw [wrap_i64 (by omega) (by omega)]; omega
    have hcut := cutL_to_end t (2 * x) (by omega)
    have hidx : strings_Index (t.drop (2 * x)) v = some (k : Int) := by
      unfold strings_Index
      rw [if_pos (by rw [List.length_drop]; omega), e1]
    have t1 : Int.tmod ((k : Nat) : Int) 2 = ((k % 2 : Nat) : Int) := rfl
    have t2 : Int.tdiv ((k : Nat) : Int) 2 = ((k / 2 : Nat) : Int) := rfl
    have w2 : IntKind.wrap .i64 ((k / 2 : Nat) : Int) = ((k / 2 : Nat) : Int) := wrap_i64 (by omega) (by omega)
    have c3 : (decide ((k : Int) < 0)) = false := by rw [decide_eq_false_iff_not]; omega
    by_cases hk : k % 2 = 0
    · have w3 : IntKind.wrap .i64 ((x : Int) + ((k / 2 : Nat) : Int)) = ((x + k / 2 : Nat) : Int) := by rw [wrap_i64 (by omega) (by omega)]; omega
      refine ⟨x + k / 2, loopM_out ?_, by omega, by omega, ?_⟩
      · unfold units_Find.l1
        rw [units_Len_eq t (by omega), bind_some', c, if_pos rfl, w1, even_mask t.length (by omega) hte, hcut, bind_some', hidx, bind_some', c3, if_neg (by simp), t1, hk]
        rw [if_pos (by decide), t2, w2, w3]
      · unfold Lib.occAt at e3 ⊢
        rw [List.drop_drop] at e3
        have : 2 * (x + k / 2) = 2 * x + k := by omega
        rw [this]; exact e3
    · have hk1 : k % 2 = 1 := by omega
      have w3 : IntKind.wrap .i64 (((k / 2 : Nat) : Int) + 1) = ((k / 2 + 1 : Nat) : Int) := by rw [wrap_i64 (by omega) (by omega)]; omega
      have w4 : IntKind.wrap .i64 ((x : Int) + ((k / 2 + 1 : Nat) : Int)) = ((x + (k / 2 + 1) : Nat) : Int) := by rw [wrap_i64 (by omega) (by omega)]; omega
      have hgo : units_Find.l1 t v (x : Int) = some (.inl ((x + (k / 2 + 1) : Nat) : Int)) := by
        unfold units_Find.l1
        rw [units_Len_eq t (by omega), bind_some', c, if_pos rfl, w1, even_mask t.length (by omega) hte, hcut, bind_some', hidx, bind_some', c3, if_neg (by simp), t1, hk1]
        rw [if_neg (by decide), t2, w2, w3, w4]
      obtain ⟨q, g1, g2, g3, g4⟩ := ih (x + (k / 2 + 1)) (by omega) (by omega)
      exact ⟨q, (loopM_go hgo).trans g1, g2, by omega, g4⟩
theorem units_Find_occ (t v : Str) (N x : Nat) (ht : t.length ≤ 100000000) (hv : v.length ≤ 100000000) (hte : t.length % 2 = 0) (hve : v.length % 2 = 0) (hN : 2 * N ≤ t.length) (hx : x ≤ N) (hocc : Lib.occAt t v (2 * N) = true) :
    ∃ k : Nat, units_Find t v (x : Int) = some (k : Int) ∧ k ≤ N ∧ x ≤ k ∧ Lib.occAt t v (2 * k) = true := by
  unfold units_Find
  have hcut : cutL v 0 ((v.length : Nat) : Int) = some v := by
    have := cutL_to_end v 0 (by omega)
    simpa using this
  obtain ⟨k, e1, e2, e3, e4⟩ := find_loop t v N ht hte hN hocc (N - x + 1) x (by omega) hx
  refine ⟨k, ?_, e2, e3, e4⟩
  have c : ¬ (0 > (x : Int)) := by omega
  rw [even_mask v.length (by omega) hve, hcut, bind_some', if_neg c, e1, bind_some']
theorem clamp (N at_ : Int) (hN : 0 ≤ N) : ∃ A : Nat, (if N < (if 0 > at_ then 0 else at_) then N else (if 0 > at_ then 0 else at_)) = (A : Int) ∧ (A : Int) ≤ N := by
  refine ⟨(if N < (if 0 > at_ then 0 else at_) then N else (if 0 > at_ then 0 else at_)).toNat, ?_, ?_⟩ <;> (repeat' split) <;> omega
theorem clamp2 (N A to_ : Int) (hN : 0 ≤ A) (hA : A ≤ N) : ∃ B : Nat, (if N < (if A > to_ then A else to_) then N else (if A > to_ then A else to_)) = (B : Int) ∧ (B : Int) ≤ N ∧ A ≤ (B : Int) := by
  refine ⟨(if N < (if A > to_ then A else to_) then N else (if A > to_ then A else to_)).toNat, ?_, ?_⟩ <;> (repeat' split) <;> omega
theorem cutS_nat (u : Str) (a b : Nat) (h : 2 * b ≤ u.length) : cutS u (a : Int) (b : Int) = (u.drop (2 * a)).take (2 * (b - a)) := by
  unfold cutS
  rw [Int.toNat_natCast, Int.toNat_natCast, encL_cut u a b h]
theorem law01_UnitsParts_true (u : Str) (at_ to_ : Int) (hu : u.length ≤ 1048576) : law01_UnitsParts u at_ to_ = some true := by
  unfold law01_UnitsParts
  rw [law01_live_eq, bind_some', units_Check_eq u (by omega), bind_some']
  by_cases he : u.length % 2 = 0
  · simp only [he, decide_true, Bool.not_true, Bool.false_eq_true, if_false]
    rw [units_Len_eq u (by omega), bind_some']
    obtain ⟨A, a1, a2⟩ := clamp ((u.length / 2 : Nat) : Int) at_ (by omega)
    rw [a1]
    obtain ⟨B, b1, b2, b3⟩ := clamp2 ((u.length / 2 : Nat) : Int) (A : Int) to_ (by omega) a2
    rw [b1]
    have h0 : cutS u 0 (A : Int) = u.take (2 * A) := by
      have := cutS_nat u 0 A (by omega)
      simpa using this
    have h1 := cutS_nat u A B (by omega)
    have h2 : cutS u (B : Int) ((u.length / 2 : Nat) : Int) = u.drop (2 * B) := by
      rw [cutS_nat u B (u.length / 2) (by omega)]
      exact List.take_of_length_le (by rw [List.length_drop]; omega)
    rw [units_Cut_eq u _ _ (by omega), bind_some', units_Cut_eq u _ _ (by omega), bind_some', units_Cut_eq u _ _ (by omega), bind_some', h0, h1, h2]
    have hlenm : ((u.drop (2 * A)).take (2 * (B - A))).length = 2 * (B - A) := by rw [List.length_take, List.length_drop]; omega
    have hocc : Lib.occAt u ((u.drop (2 * A)).take (2 * (B - A))) (2 * A) = true := by
      unfold Lib.occAt
      rw [isPrefixOf_iff]
      exact List.take_prefix _ _
    obtain ⟨k, e1, e2, e3, e4⟩ := units_Find_occ u ((u.drop (2 * A)).take (2 * (B - A))) A A (by omega) (by omega) he (by omega) (by omega) (by omega) hocc
    have hk : k = A := by omega
    subst hk
    rw [e1, bind_some', if_pos trivial, catS_ok (by rw [List.length_take]; omega), bind_some', catS_ok (by rw [List.length_append, List.length_take, List.length_drop]; omega), bind_some']
    unfold law01_UnitsParts.j1
    have hall : u.take (2 * k) ++ (u.drop (2 * k)).take (2 * (B - k)) ++ u.drop (2 * B) = u := by
      have e : u.drop (2 * B) = (u.drop (2 * k)).drop (2 * (B - k)) := by
        rw [List.drop_drop]
        have : 2 * k + 2 * (B - k) = 2 * B := by omega
        rw [this]
      rw [e, List.append_assoc, List.take_append_drop, List.take_append_drop]
    rw [hall]
    simp
  · simp [he]
theorem law01_UnitsFound_true (u v w : Str) (hu : u.length ≤ 1048576) (hv : v.length ≤ 1048576) (hw : w.length ≤ 1048576) : law01_UnitsFound u v w = some true := by
  unfold law01_UnitsFound
  rw [law01_live_eq, bind_some', units_Check_eq u (by omega), bind_some', units_Check_eq v (by omega), units_Check_eq w (by omega)]
  unfold law01_UnitsFound.j1
  by_cases he : u.length % 2 = 0
  · by_cases he2 : v.length % 2 = 0
    · by_cases he3 : w.length % 2 = 0
      · simp only [he, he2, he3, decide_true, Bool.not_true, Bool.false_eq_true, if_false, bind_some']
        have hcat : catS u v = some (u ++ v) := catS_ok (by omega)
        have hcat2 : catS (u ++ v) w = some (u ++ v ++ w) := catS_ok (by rw [List.length_append]; omega)
        have hlen : (u ++ v ++ w).length = u.length + v.length + w.length := by rw [List.length_append, List.length_append]
        simp only [hcat, hcat2, bind_some']
        have hocc : Lib.occAt (u ++ v ++ w) v (2 * (u.length / 2)) = true := by
          unfold Lib.occAt
          have : 2 * (u.length / 2) = u.length := by omega
          rw [this, isPrefixOf_iff, List.append_assoc, List.drop_left]
          exact List.prefix_append _ _
        obtain ⟨k, e1, e2, e3, e4⟩ := units_Find_occ (u ++ v ++ w) v (u.length / 2) 0 (by omega) (by omega) (by omega) he2 (by omega) (by omega) hocc
        have e1' : units_Find (u ++ v ++ w) v 0 = some (k : Int) := e1
        have c1 : (true && (decide ((k : Int) ≥ 0))) = true := by simp
        have c2 : (decide ((k : Int) ≤ ((u.length / 2 : Nat) : Int))) = true := by rw [decide_eq_true_eq]; omega
        rw [e1', bind_some', c1, if_pos rfl, units_Len_eq u (by omega), bind_some', c2, if_pos rfl, units_Len_eq v (by omega), bind_some']
        have hkv : 2 * k + v.length ≤ (u ++ v ++ w).length := by omega
        have w1 : IntKind.wrap .i64 ((k : Int) + ((v.length / 2 : Nat) : Int)) = ((k + v.length / 2 : Nat) : Int) := by rw [wrap_i64 (by omega) (by omega)]; omega
        rw [w1, units_Cut_eq _ _ _ (by omega), bind_some', cutS_nat _ _ _ (by omega)]
        unfold law01_UnitsFound.j2
        have hv2 : 2 * (k + v.length / 2 - k) = v.length := by omega
        have heq : ((u ++ v ++ w).drop (2 * k)).take v.length = v := by
          unfold Lib.occAt at e4
          rw [isPrefixOf_iff] at e4
          exact (List.prefix_iff_eq_take.mp e4).symm
        rw [hv2, heq]
        simp
      · simp [he, he2, he3]
    · simp [he, he2]
  · simp [he]
end Go.Gw
