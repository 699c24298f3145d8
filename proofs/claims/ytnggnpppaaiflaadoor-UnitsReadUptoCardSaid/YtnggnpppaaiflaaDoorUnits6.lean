/- Chapter 1: the laws, the first part. -/
import Derived.Test.YtnggnpppaaiflaaDoorUnits5
set_option linter.unusedVariables false
set_option linter.unusedSimpArgs false
set_option linter.unnecessarySimpa false
namespace Go.Gw
open Go.Proofs
set_option linter.unusedSimpArgs false

theorem law01_UnitsOf_true (s : Str) (h : s.length ≤ 1048576) : law01_UnitsOf s = some true := by
  unfold law01_UnitsOf
  rw [units_Of_eq s (by omega), ref01_Of_eq s (by omega), law01_live_eq]
  simp
theorem law01_UnitsIndex_true (s : Str) (h : s.length ≤ 1048576) : law01_UnitsIndex s = some true := by
  unfold law01_UnitsIndex
  rw [units_Index_eq s (by omega), ref01_Index_eq s (by omega), law01_live_eq]
  simp
theorem law01_UnitsQuote_true (s : Str) (h : s.length ≤ 1048576) : law01_UnitsQuote s = some true := by
  unfold law01_UnitsQuote
  rw [units_Quote_eq s (by omega), ref01_Quote_eq s (by omega), law01_live_eq]
  simp
theorem law01_UnitsRead_true (s : Str) (h : s.length ≤ 1048576) : law01_UnitsRead s = some true := by
  unfold law01_UnitsRead
  rw [units_Read_eq s (by omega), ref01_Read_eq s (by omega), law01_live_eq]
  simp

/-! ### Read of Quote -/
theorem hexV_hexd : ∀ k : Fin 16, hexV (hexd k.val) = some k.val := by decide
theorem hexN_hexd (n : Nat) (hn : n < 65536) (r : Str) : hexN 4 (hexd (n / 4096) :: hexd (n / 256 % 16) :: hexd (n / 16 % 16) :: hexd (n % 16) :: r) 0 = some n := by
  have h1 := hexV_hexd ⟨n / 4096, by omega⟩
  have h2 := hexV_hexd ⟨n / 256 % 16, by omega⟩
  have h3 := hexV_hexd ⟨n / 16 % 16, by omega⟩
  have h4 := hexV_hexd ⟨n % 16, by omega⟩
  simp only at h1 h2 h3 h4
  simp only [hexN, h1, h2, h3, h4]
  congr 1; omega
theorem readG_quote1 (m n : Nat) (hn : n < 65536) (r : Str) (acc : List Nat) : readG 34 (m + 1) (quote1 n ++ r) acc = readG 34 m r (acc ++ [n]) := by
  unfold quote1
  by_cases h34 : n = 34
  · subst h34; rfl
  by_cases h92 : n = 92
  · subst h92; rfl
  by_cases h8 : n = 8
  · subst h8; rfl
  by_cases h9 : n = 9
  · subst h9; rfl
  by_cases h10 : n = 10
  · subst h10; rfl
  by_cases h12 : n = 12
  · subst h12; rfl
  by_cases h13 : n = 13
  · subst h13; rfl
  simp only [h34, h92, h8, h9, h10, h12, h13, if_false]
  by_cases hx : n < 32 ∨ n > 126
  · simp only [hx, if_true, List.cons_append, List.nil_append]
    have he : escS (117 :: hexd (n / 4096) :: hexd (n / 256 % 16) :: hexd (n / 16 % 16) :: hexd (n % 16) :: r) = some ([n], 5) := by
      simp only [escS]
      rw [if_neg (by decide), if_neg (by decide), if_neg (by decide), if_pos trivial, hexN_hexd n hn r]
      rfl
    conv => lhs; unfold readG
    rw [if_neg (by decide), if_neg (by decide), if_pos rfl, he]
    rfl
  · simp only [hx, if_false, List.cons_append, List.nil_append]
    have e : (UInt8.ofNat n).toNat = n := by simp [UInt8.toNat_ofNat']; omega
    have ne : ∀ k : Nat, k < 256 → n ≠ k → UInt8.ofNat n ≠ UInt8.ofNat k := by
      intro k hk h1 h2
      have h3 := congrArg UInt8.toNat h2
      rw [e] at h3
      have e2 : (UInt8.ofNat k).toNat = k := by simp [UInt8.toNat_ofNat']; omega
      rw [e2] at h3; exact h1 h3
    conv => lhs; unfold readG
    have n34 : ¬ UInt8.ofNat n = 34 := ne 34 (by omega) h34
    have n10 : ¬ UInt8.ofNat n = 10 := ne 10 (by omega) h10
    have n13 : ¬ UInt8.ofNat n = 13 := ne 13 (by omega) h13
    have n92 : ¬ UInt8.ofNat n = 92 := ne 92 (by omega) h92
    have n127 : ¬ (UInt8.ofNat n).toNat > 127 := by rw [e]; omega
    rw [if_neg n34, if_neg (by rintro (h | h | h); exact n10 h; exact n13 h; exact n127 h), if_neg n92, e]
theorem readG_quoteL (behind : Str) : ∀ (l acc : List Nat) (m : Nat), okU l → l.length < m → readG 34 m (quoteL l ++ 34 :: behind) acc = some (acc ++ l, behind.length) := by
  intro l
  induction l with
  | nil =>
    intro acc m h1 h2
    obtain ⟨m, rfl⟩ : ∃ k, m = k + 1 := ⟨m - 1, by simp at h2; omega⟩
    simp only [quoteL, List.flatMap_nil, List.nil_append, List.append_nil]
    unfold readG
    rw [if_pos rfl]
  | cons n l ih =>
    intro acc m h1 h2
    obtain ⟨m, rfl⟩ : ∃ k, m = k + 1 := ⟨m - 1, by simp at h2; omega⟩
    have e : quoteL (n :: l) ++ 34 :: behind = quote1 n ++ (quoteL l ++ 34 :: behind) := by simp [quoteL]
    rw [e, readG_quote1 m n (h1 n List.mem_cons_self), ih _ m (fun k hk => h1 k (List.mem_cons_of_mem _ hk)) (by simp only [List.length_cons] at h2; omega)]
    simp
theorem quote1_pos (n : Nat) : 1 ≤ (quote1 n).length := by
  unfold quote1; repeat' split
  all_goals simp
theorem quoteL_pos : ∀ l : List Nat, l.length ≤ (quoteL l).length
  | [] => by simp
  | n :: l => by
    have := quoteL_pos l
    have h1 := quote1_pos n
    have e : quoteL (n :: l) = quote1 n ++ quoteL l := by simp [quoteL]
    rw [e, List.length_append, List.length_cons]; omega
theorem law01_UnitsBack_true (u behind : Str) (h : u.length ≤ 1048576) (hb : behind.length ≤ 1048576) : law01_UnitsBack u behind = some true := by
  unfold law01_UnitsBack
  rw [law01_live_eq, units_Quote_eq u (by omega), bind_some', bind_some']
  by_cases he : u.length % 2 = 0
  · have hq : quoteS u = (34 :: (quoteL (unitsL u) ++ [34]), 0) := by unfold quoteS; rw [if_pos he]
    have hql := quoteL_length (unitsL u)
    have hul := unitsL_length u
    rw [hq]
    have c : ((0 : Int) != 0) = false := by decide
    simp only [c, Bool.false_eq_true, if_false]
    rw [catS_ok (by simp; omega), bind_some', units_Read_eq _ (by simp; omega), bind_some']
    have hr : readS (34 :: (quoteL (unitsL u) ++ [34]) ++ behind) = (u, (((34 :: (quoteL (unitsL u) ++ [34])).length : Nat) : Int), 0) := by
      have hg := readG_quoteL behind (unitsL u) [] ((quoteL (unitsL u) ++ 34 :: behind).length + 1) (unitsL_lt u) (by have := quoteL_pos (unitsL u); rw [List.length_append]; omega)
      have e : 34 :: (quoteL (unitsL u) ++ [34]) ++ behind = 34 :: (quoteL (unitsL u) ++ 34 :: behind) := by simp
      rw [e]
      unfold readS
      simp only [or_true, if_true]
      rw [hg]
      simp only [List.nil_append, encL_units u he]
      congr 2
      simp only [List.length_cons, List.length_append, List.length_nil]; omega
    rw [hr]
    simp
  · have hq : quoteS u = ([], 10) := by unfold quoteS; rw [if_neg he]
    rw [hq]
    have c : ((10 : Int) != 0) = true := by decide
    simp only [c, if_true]
    rw [units_Check_eq u (by omega)]
    unfold law01_UnitsBack.j1
    simp [he]

/-! ### Join -/
theorem law01_UnitsJoin_true (u v : Str) (i : Int) (hu : u.length ≤ 1048576) (hv : v.length ≤ 1048576) (h1 : -9223372036854775808 ≤ i) (h2 : i < 9223372036854775808) : law01_UnitsJoin u v i = some true := by
  unfold law01_UnitsJoin
  rw [law01_live_eq, bind_some', units_Check_eq u (by omega), bind_some', units_Check_eq v (by omega)]
  unfold law01_UnitsJoin.j1
  by_cases he : u.length % 2 = 0
  · by_cases he2 : v.length % 2 = 0
    · simp only [he, he2, decide_true, Bool.not_true, Bool.false_eq_true, if_false, Option.bind_some]
      have hcat : catS u v = some (u ++ v) := catS_ok (by omega)
      have hlen : (u ++ v).length = u.length + v.length := List.length_append
      have hL := units_Len_eq (u ++ v) (by omega)
      have hA := fun i => units_At_eq (u ++ v) i (by omega)
      have hAu := fun i => units_At_eq u i (by omega)
      have hAv := fun i => units_At_eq v i (by omega)
      simp only [units_Len_eq u (by omega), units_Len_eq v (by omega), hcat, hL, hA, hAu, hAv, Option.bind_some]
      have w : IntKind.wrap .i64 (((u.length / 2 : Nat) : Int) + ((v.length / 2 : Nat) : Int)) = (((u ++ v).length / 2 : Nat) : Int) := by rw [wrap_i64 (by omega) (by omega)]; omega
      have hul := unitsL_length u
      have hap : unitsL (u ++ v) = unitsL u ++ unitsL v := unitsL_append u v he
      rw [w]
      simp only [bne_self_eq_false, Bool.false_eq_true, if_false]
      by_cases hi : i ≥ 0 ∧ i < ((u.length / 2 : Nat) : Int)
      · have c : ((decide (i ≥ 0)) && (decide (i < ((u.length / 2 : Nat) : Int)))) = true := by simp only [Bool.and_eq_true, decide_eq_true_eq]; exact hi
        rw [c, if_pos rfl]
        have e : unitAt (u ++ v) i = unitAt u i := by
          unfold unitAt
          rw [if_pos hi.1, if_pos hi.1, hap, List.getElem?_append_left (by omega)]
        unfold law01_UnitsJoin.j2
        simp [e]
      · have c : ((decide (i ≥ 0)) && (decide (i < ((u.length / 2 : Nat) : Int)))) = false := by simp only [Bool.and_eq_false_iff, decide_eq_false_iff_not]; omega
        rw [c, if_neg (by simp)]
        unfold law01_UnitsJoin.j3
        by_cases hi2 : i < ((u.length / 2 : Nat) : Int)
        · have c2 : (decide (i < ((u.length / 2 : Nat) : Int))) = true := by rw [decide_eq_true_eq]; exact hi2
          rw [c2]; rfl
        · have w2 : IntKind.wrap .i64 (i - ((u.length / 2 : Nat) : Int)) = i - ((u.length / 2 : Nat) : Int) := wrap_i64 (by omega) (by omega)
          have e : unitAt (u ++ v) i = unitAt v (i - ((u.length / 2 : Nat) : Int)) := by
            unfold unitAt
            rw [if_pos (by omega), if_pos (by omega), hap, List.getElem?_append_right (by omega)]
            have : i.toNat - (unitsL u).length = (i - ((u.length / 2 : Nat) : Int)).toNat := by omega
            rw [this]
          have c2 : (decide (i < ((u.length / 2 : Nat) : Int))) = false := by rw [decide_eq_false_iff_not]; exact hi2
          rw [c2, w2, e]
          simp
    · simp [he, he2]
  · simp [he]

/-! ### Look -/
def cutS (u : Str) (from_ to_ : Int) : Str := encL (((unitsL u).take to_.toNat).drop from_.toNat)
theorem unitsL_drop : ∀ (n : Nat) (u : Str), unitsL (u.drop (2 * n)) = (unitsL u).drop n
  | 0, u => rfl
  | n + 1, [] => by simp [unitsL]
  | n + 1, [a] => by
    have : 2 * (n + 1) = 2 * n + 1 + 1 := by omega
    rw [this]; simp [unitsL]
  | n + 1, a :: b :: r => by
    have : 2 * (n + 1) = 2 * n + 1 + 1 := by omega
    rw [this]
    simp only [List.drop_succ_cons, unitsL]
    exact unitsL_drop n r
theorem encL_take : ∀ (n : Nat) (u : Str), 2 * n ≤ u.length → encL ((unitsL u).take n) = u.take (2 * n)
  | 0, u, _ => rfl
  | n + 1, [], h => by simp at h
  | n + 1, [a], h => by simp at h; omega
  | n + 1, a :: b :: r, h => by
    have e : 2 * (n + 1) = 2 * n + 1 + 1 := by omega
    have ih := encL_take n r (by simp only [List.length_cons] at h; omega)
    rw [e]
    simp only [unitsL, List.take_succ_cons]
    unfold encL at ih ⊢
    rw [List.flatMap_cons, enc1_of, ih]; rfl
theorem encL_cut (u : Str) (a b : Nat) (h : 2 * b ≤ u.length) : encL (((unitsL u).take b).drop a) = (u.drop (2 * a)).take (2 * (b - a)) := by
  rw [List.drop_take, ← unitsL_drop]
  by_cases hab : a ≤ b
  · rw [encL_take]; rw [List.length_drop]; omega
  · have : b - a = 0 := by omega
    rw [this]; rfl
end Go.Gw
