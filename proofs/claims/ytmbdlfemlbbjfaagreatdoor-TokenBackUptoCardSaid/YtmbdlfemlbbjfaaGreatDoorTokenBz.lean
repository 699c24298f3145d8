/- Chapter 6: tokens with blanks between are cut as themselves. -/
import Derived.Test.YtmbdlfemlbbjfaaGreatDoorToken9z
import Derived.Test.YtmbdlfemlbbjfaaGreatDoorTokenWz
set_option linter.unusedVariables false
set_option linter.unusedSimpArgs false
set_option linter.unnecessarySimpa false
namespace Go.Gw
set_option linter.unusedSimpArgs false

/-! ### digits -/
def decF : Nat → Nat → Str
  | 0, _ => []
  | m + 1, n => if n < 10 then [UInt8.ofNat (48 + n)] else decF m (n / 10) ++ [UInt8.ofNat (48 + n % 10)]
def decS (n : Nat) : Str := decF 19 n
theorem digit_byte (d : Nat) (h : d < 10) : (UInt8.ofNat (48 + d)).toNat = 48 + d := by simp [UInt8.toNat_ofNat']; omega
theorem decF_dig : ∀ (m n : Nat), ∀ c ∈ decF m n, isDig c = true
  | 0, _, c, h => by cases h
  | m + 1, n, c, h => by
    unfold decF at h
    have one : ∀ d, d < 10 → isDig (UInt8.ofNat (48 + d)) = true := fun d hd => by
      unfold isDig; rw [digit_byte d hd, decide_eq_true_eq]; omega
    split at h
    · rename_i hn
      simp only [List.mem_singleton] at h
      subst h; exact one n hn
    · rw [List.mem_append] at h
      rcases h with h | h
      · exact decF_dig m _ c h
      · simp only [List.mem_singleton] at h
        subst h; exact one _ (by omega)
theorem decF_head : ∀ (m n : Nat), 1 ≤ n → n < 10 ^ m → ∃ c r, decF m n = c :: r ∧ c ≠ 48
  | 0, n, h, h2 => by simp at h2; omega
  | m + 1, n, h, h2 => by
    unfold decF
    split
    · rename_i hn
      refine ⟨_, _, rfl, fun e => ?_⟩
      have := congrArg UInt8.toNat e
      rw [digit_byte n hn] at this
      have e2 : (48 : UInt8).toNat = 48 := rfl
      omega
    · obtain ⟨c, r, e1, e2⟩ := decF_head m (n / 10) (by omega) (by rw [Nat.pow_succ] at h2; omega)
      exact ⟨c, r ++ [UInt8.ofNat (48 + n % 10)], by rw [e1]; rfl, e2⟩
theorem parsN_append (o : Nat) (t : Str) : ∀ (s : Str) (a : Nat), parsN o (s ++ t) a = (parsN o s a).bind (parsN o t)
  | [], a => rfl
  | c :: s, a => by
    simp only [List.cons_append, parsN]
    cases hexV c with
    | none => rfl
    | some d =>
      simp only
      split
      · exact parsN_append o t s _
      · rfl
theorem hexV_digit (d : Nat) (h : d < 10) : hexV (UInt8.ofNat (48 + d)) = some d := by
  unfold hexV
  rw [digit_byte d h, if_pos (by omega)]
  congr 1; omega
theorem parsN_dec : ∀ (m n : Nat), n < 10 ^ m → 1 ≤ m → parsN 10 (decF m n) 0 = some n
  | 0, n, _, h => by omega
  | m + 1, n, h, _ => by
    unfold decF
    split
    · rename_i hn
      simp only [parsN, hexV_digit n hn, hn, if_true, Nat.zero_mul, Nat.zero_add]
    · rename_i hn
      have hm : 1 ≤ m := by
        rcases Nat.eq_zero_or_pos m with rfl | h'
        · simp at h; omega
        · exact h'
      rw [parsN_append, parsN_dec m (n / 10) (by rw [Nat.pow_succ] at h; omega) hm]
      simp only [Option.bind_some, parsN, hexV_digit (n % 10) (by omega), show n % 10 < 10 by omega, if_true]
      congr 1; omega
theorem decF_len : ∀ (m n : Nat), (decF m n).length ≤ m
  | 0, _ => by simp [decF]
  | m + 1, n => by
    unfold decF
    split
    · simp
    · have := decF_len m (n / 10)
      simp only [List.length_append, List.length_cons, List.length_nil]; omega
theorem digits_at : ∀ (j n m : Nat), n < 10 ^ (j + 1) → n < 9223372036854775808 → (Rec1.at_ (m + j + 1)).ref03_Digits (n : Int) = some (decF (j + 1) n) := by
  intro j
  induction j with
  | zero =>
    intro n m h _
    show ref03_Digits_bd (Rec1.at_ (m + 0)) (n : Int) = _
    unfold ref03_Digits_bd
    have h10 : n < 10 := by simpa using h
    have c1 : ¬ ((n : Int) < 0) := by omega
    have c2 : ((n : Int) < 10) := by omega
    have e1 : Int.tmod (n : Int) 10 = ((n % 10 : Nat) : Int) := by rw [Int.tmod_eq_emod_of_nonneg (by omega)]; rfl
    have w1 : IntKind.wrap .i64 (48 + ((n % 10 : Nat) : Int)) = ((48 + n % 10 : Nat) : Int) := by rw [wrap_i64 (by omega) (by omega)]; omega
    have w2 : IntKind.wrap .u8 ((48 + n % 10 : Nat) : Int) = ((48 + n % 10 : Nat) : Int) := wrap_u8 (by omega) (by omega)
    simp only [c1, c2, decide_false, decide_true, Bool.false_eq_true, if_false, if_true, e1, w1, w2]
    rw [toB_u8 (by omega) (by omega), Option.bind_some]
    unfold decF
    rw [if_pos h10, Int.toNat_natCast]
    have : n % 10 = n := by omega
    rw [this]
  | succ j ih =>
    intro n m h hmax
    show ref03_Digits_bd (Rec1.at_ (m + (j + 1))) (n : Int) = _
    unfold ref03_Digits_bd
    have c1 : ¬ ((n : Int) < 0) := by omega
    have e1 : Int.tmod (n : Int) 10 = ((n % 10 : Nat) : Int) := by rw [Int.tmod_eq_emod_of_nonneg (by omega)]; rfl
    have e2 : Int.tdiv (n : Int) 10 = ((n / 10 : Nat) : Int) := by rw [Int.tdiv_eq_ediv_of_nonneg (by omega)]; rfl
    have w1 : IntKind.wrap .i64 (48 + ((n % 10 : Nat) : Int)) = ((48 + n % 10 : Nat) : Int) := by rw [wrap_i64 (by omega) (by omega)]; omega
    have w2 : IntKind.wrap .u8 ((48 + n % 10 : Nat) : Int) = ((48 + n % 10 : Nat) : Int) := wrap_u8 (by omega) (by omega)
    have w3 : IntKind.wrap .i64 ((n / 10 : Nat) : Int) = ((n / 10 : Nat) : Int) := wrap_i64 (by omega) (by omega)
    simp only [c1, decide_false, Bool.false_eq_true, if_false, e1, e2, w1, w2, w3]
    rw [toB_u8 (by omega) (by omega), Option.bind_some, Int.toNat_natCast]
    conv => rhs; unfold decF
    by_cases h10 : n < 10
    · have c2 : ((n : Int) < 10) := by omega
      have : n % 10 = n := by omega
      simp only [c2, h10, decide_true, if_true, this]
    · have c2 : ¬ ((n : Int) < 10) := by omega
      simp only [c2, h10, decide_false, Bool.false_eq_true, if_false]
      have := ih (n / 10) m (by rw [Nat.pow_succ] at h; omega) (by omega)
      have e3 : m + (j + 1) = m + j + 1 := by omega
      rw [e3, this, Option.bind_some]
      have hl := decF_len (j + 1) (n / 10)
      have hj : j + 1 ≤ 1000000000 ∨ 1000000000 < j + 1 := by omega
      unfold catS
      by_cases hc : (decF (j + 1) (n / 10)).length + 1 ≤ 4611686018427387904
      · rw [if_pos (by simpa using hc)]; rfl
      · exfalso
        have : (decF (j + 1) (n / 10)).length ≤ 40 := by
          clear hl hj ih this h hc
          have aux : ∀ (k p q : Nat), q < 10 ^ k → 1 ≤ k → (decF p q).length ≤ k := by
            intro k p
            induction p generalizing k with
            | zero => intro q _ _; simp [decF]
            | succ p ihp =>
              intro q hq hk
              unfold decF
              split
              · simp; omega
              · have hk2 : 2 ≤ k := by
                  rcases Nat.lt_or_ge k 2 with h' | h'
                  · have : k = 1 := by omega
                    subst this; simp at hq; omega
                  · exact h'
                obtain ⟨k', rfl⟩ : ∃ k', k = k' + 1 := ⟨k - 1, by omega⟩
                have := ihp k' (q / 10) (by rw [Nat.pow_succ] at hq; omega) (by omega)
                simp only [List.length_append, List.length_cons, List.length_nil]; omega
          exact aux 40 _ _ (Nat.lt_of_le_of_lt (show n / 10 ≤ 9223372036854775808 by omega) (by decide)) (by decide)
        omega
theorem ref03_Digits_eq (n : Nat) (h : n < 9223372036854775808) : ref03_Digits (n : Int) = some (decS n) := by
  unfold ref03_Digits decS
  exact digits_at 18 n 1099511627757 (Nat.lt_trans h (by decide)) h

/-! ### what a blank behind a token changes -/
theorem prefix_x (x : UInt8) : ∀ (p s b : Str), x ∉ p → p.isPrefixOf (s ++ x :: b) = p.isPrefixOf s
  | [], s, b, _ => by cases s <;> rfl
  | a :: p, [], b, h => by
    simp only [List.mem_cons, not_or] at h
    have : (a == x) = false := beq_eq_false_iff_ne.2 (fun e => h.1 e.symm)
    simp [List.isPrefixOf, this]
  | a :: p, c :: s, b, h => by
    simp only [List.mem_cons, not_or] at h
    simp only [List.cons_append, List.isPrefixOf, prefix_x x p s b h.2]
theorem row_x (b : Str) : ∀ s : Str, s.all isLD = true → rowK (s ++ 32 :: b) = s.length
  | [], _ => by rw [List.nil_append, rowK_cons, if_neg (by decide)]; rfl
  | c :: s, h => by
    simp only [List.all_cons, Bool.and_eq_true] at h
    rw [List.cons_append, rowK_cons, if_pos h.1, row_x b s h.2]; rfl
theorem take_x {s b : Str} {k : Nat} {x : UInt8} (h : s.length < k) : x ∈ (s ++ x :: b).take k := by
  rw [List.mem_iff_getElem?]
  refine ⟨s.length, ?_⟩
  rw [List.getElem?_take_of_lt h, List.getElem?_append_right (Nat.le_refl _)]; simp
theorem contains_x {x : UInt8} {L : List Str} (hL : ∀ w ∈ L, x ∉ w) {y : Str} (h : x ∈ y) : L.contains y = false := by
  rw [← Bool.not_eq_true, List.contains_iff_mem]
  intro hm; exact hL y hm h
theorem signS_x (c : UInt8) (s b : Str) : signS ((c :: s) ++ 32 :: b) = signS (c :: s) := by
  unfold signS
  have e3 : (2 < ((c :: s) ++ 32 :: b).length ∧ tripL.contains (((c :: s) ++ 32 :: b).take 3) = true) = (2 < (c :: s).length ∧ tripL.contains ((c :: s).take 3) = true) := by
    by_cases h : 2 < (c :: s).length
    · rw [List.take_append_of_le_length (by omega)]
      have : 2 < ((c :: s) ++ 32 :: b).length := by simp only [List.length_append]; omega
      simp only [this, h, true_and]
    · rw [contains_x (x := 32) (L := tripL) (by decide) (take_x (by omega))]
      rw [eq_iff_iff]
      exact ⟨fun e => (by cases e.2), fun e => absurd e.1 h⟩
  have e2 : (1 < ((c :: s) ++ 32 :: b).length ∧ doubL.contains (((c :: s) ++ 32 :: b).take 2) = true) = (1 < (c :: s).length ∧ doubL.contains ((c :: s).take 2) = true) := by
    by_cases h : 1 < (c :: s).length
    · rw [List.take_append_of_le_length (by omega)]
      have : 1 < ((c :: s) ++ 32 :: b).length := by simp only [List.length_append]; omega
      simp only [this, h, true_and]
    · rw [contains_x (x := 32) (L := doubL) (by decide) (take_x (by omega))]
      rw [eq_iff_iff]
      exact ⟨fun e => (by cases e.2), fun e => absurd e.1 h⟩
  simp only [e3, e2]
  rfl
/-- blanks end where none begins -/
def stopB (s : Str) : Bool := match s with
  | [] => false
  | c :: r => !isNl c && (!decide (c = 32 ∨ c = 9 ∨ c = 11 ∨ c = 12) && (!([47, 47] : Str).isPrefixOf (c :: r) && !([47, 42] : Str).isPrefixOf (c :: r)))
theorem stop_blanks {s : Str} (h : stopB s = true) (m : Nat) (f : Bool) : blanksG (m + 1) s f = (s, f, true) := by
  cases s with
  | nil => cases h
  | cons c r =>
    simp only [stopB, Bool.and_eq_true, Bool.not_eq_true', decide_eq_false_iff_not] at h
    obtain ⟨h1, h2, h3, h4⟩ := h
    unfold blanksG
    rw [if_neg (by rw [h1]; simp), if_neg h2, if_neg (by rw [h3]; simp), if_neg (by rw [h4]; simp)]
theorem blanks_stop {m : Nat} {c : UInt8} {r : Str} {f f' ok : Bool} (h : blanksG (m + 1) (c :: r) f = (c :: r, f', ok)) (hok : ok = true) : stopB (c :: r) = true := by
  unfold blanksG at h
  split at h
  · have := blanksG_len m r true
    rw [h] at this; simp at this; omega
  · rename_i h1
    split at h
    · have := blanksG_len m r f
      rw [h] at this; simp at this; omega
    · rename_i h2
      split at h
      · rename_i h3
        have hc : c = 47 := by
          simp only [List.isPrefixOf, Bool.and_eq_true, beq_iff_eq] at h3; exact h3.1.symm
        have hdw : (c :: r).dropWhile (fun x => !isNl x) = r.dropWhile (fun x => !isNl x) := by
          subst hc; rw [List.dropWhile_cons, if_pos (by decide)]
        have := blanksG_len m ((c :: r).dropWhile (fun x => !isNl x)) f
        rw [h, hdw] at this
        have hl := dropWhile_len (fun x => !isNl x) r
        simp only [List.length_cons] at this; omega
      · rename_i h3
        split at h
        · split at h
          · cases h; cases hok
          · rename_i n _
            have := blanksG_len m ((c :: r).drop (n + 4)) (f || (((c :: r).drop 2).take n).any isNl)
            rw [h] at this
            simp only [List.length_drop, List.length_cons] at this; omega
        · rename_i h4
          simp only [stopB, Bool.and_eq_true, Bool.not_eq_true', decide_eq_false_iff_not]
          exact ⟨by simpa using h1, h2, by rw [← Bool.not_eq_true]; exact h3, by rw [← Bool.not_eq_true]; exact h4⟩
theorem stop_x {s : Str} (b : Str) (h : stopB s = true) : stopB (s ++ 32 :: b) = true := by
  cases s with
  | nil => cases h
  | cons c r =>
    rw [List.cons_append]
    simp only [stopB] at h ⊢
    rw [← List.cons_append, prefix_x 32 _ _ _ (by decide), prefix_x 32 _ _ _ (by decide)]
    exact h

/-! ### what is written -/
theorem enc1_of (a b : UInt8) : enc1 (a.toNat * 256 + b.toNat) = [a, b] := by
  have h1 := a.toNat_lt; have h2 := b.toNat_lt
  unfold enc1
  have e1 : (a.toNat * 256 + b.toNat) / 256 = a.toNat := by omega
  have e2 : (a.toNat * 256 + b.toNat) % 256 = b.toNat := by omega
  rw [e1, e2]; simp
theorem encL_units : ∀ u : Str, u.length % 2 = 0 → encL (unitsL u) = u
  | [], _ => rfl
  | [_], h => by simp at h
  | a :: b :: r, h => by
    have ih := encL_units r (by simp only [List.length_cons] at h; omega)
    unfold encL at ih ⊢
    simp only [unitsL, List.flatMap_cons, enc1_of, ih]; rfl
def normT (t : Tok) : Tok := { Kind := t.Kind, Text := if t.Kind = 3 then [] else t.Text, Num := if t.Kind = 3 then t.Num else 0, At := 0, Fresh := false }
structure WR (t : Tok) (s : Str) : Prop where
  one : ∀ b, oneS (s ++ 32 :: b) = some (normT t, s.length)
  stop : stopB s = true
theorem let_stop {c : UInt8} {r : Str} (h : isLD c = true ∨ c = 34) : stopB (c :: r) = true := by
  have key : ∀ b : Fin 256, isLD (UInt8.ofNat b.val) = true ∨ UInt8.ofNat b.val = 34 → isNl (UInt8.ofNat b.val) = false ∧ ¬ (UInt8.ofNat b.val = 32 ∨ UInt8.ofNat b.val = 9 ∨ UInt8.ofNat b.val = 11 ∨ UInt8.ofNat b.val = 12) ∧ UInt8.ofNat b.val ≠ 47 := by decide +kernel
  have := key ⟨c.toNat, c.toNat_lt⟩
  rw [ofN] at this
  obtain ⟨h1, h2, h3⟩ := this h
  have e : ((47 : UInt8) == c) = false := beq_eq_false_iff_ne.2 (fun e => h3 e.symm)
  simp only [stopB, h1, h2, List.isPrefixOf, e, decide_false, Bool.false_and, Bool.not_false, Bool.and_self]
theorem wr_ident {t : Tok} (h1 : isIdentS t.Text = true) (hk : t.Kind = if isWordS t.Text = true then 2 else 1) : WR t t.Text := by
  obtain ⟨kd, s, nm, at_, fr⟩ := t
  simp only at h1 hk ⊢
  cases s with
  | nil => cases h1
  | cons c r =>
    simp only [isIdentS, Bool.and_eq_true, decide_eq_true_eq] at h1
    obtain ⟨h32, hl, hall⟩ := h1
    have hall' := (rowK_all (c :: r)).1 hall
    refine ⟨fun b => ?_, let_stop (.inl (by simp [isLD, hl]))⟩
    have hr := row_x b (c :: r) hall'
    have htake : ((c :: r) ++ 32 :: b).take (c :: r).length = c :: r := List.take_left
    have hk3 : ¬ kd = 3 := by rw [hk]; split <;> decide
    rw [List.cons_append] at hr htake ⊢
    unfold oneS
    simp only [hl, if_true, hr, htake, show ¬ (32 < (c :: r).length) by omega, if_false]
    unfold normT
    simp only [hk3, if_false]
    rw [hk]
theorem word_ident : ∀ w ∈ wordsL, isIdentS w = true := by decide +kernel
theorem wr_num {t : Tok} (hk : t.Kind = 3) (h0 : 0 ≤ t.Num) (h1 : t.Num ≤ 9007199254740991) : WR t (decS t.Num.toNat) := by
  obtain ⟨kd, s, nm, at_, fr⟩ := t
  simp only at hk h0 h1 ⊢
  subst hk
  obtain ⟨n, rfl⟩ : ∃ n : Nat, nm = (n : Int) := ⟨nm.toNat, by omega⟩
  rw [Int.toNat_natCast]
  have hn : n < 10 ^ 19 := Nat.lt_of_le_of_lt (show n ≤ 9007199254740991 by omega) (by decide)
  have hp := parsN_dec 19 n hn (by decide)
  have hd := decF_dig 19 n
  have hnz : n = 0 ∨ 1 ≤ n := by omega
  have hhead : ∃ c r, decF 19 n = c :: r ∧ (c = 48 → r = []) := by
    rcases hnz with rfl | h
    · exact ⟨48, [], rfl, fun _ => rfl⟩
    · obtain ⟨c, r, e1, e2⟩ := decF_head 19 n h hn
      exact ⟨c, r, e1, fun e => absurd e e2⟩
  unfold decS
  obtain ⟨c, r, he, h48⟩ := hhead
  rw [he] at hp hd ⊢
  have hcd := hd c (by simp)
  have hcl := let_not_dig' c hcd
  have hall : (c :: r).all isLD = true := by
    rw [List.all_eq_true]
    intro x hx
    unfold isLD; rw [hd x hx, Bool.or_true]
  refine ⟨fun b => ?_, let_stop (.inl (by unfold isLD; rw [hcd, Bool.or_true]))⟩
  have hr := row_x b (c :: r) hall
  have htake : ((c :: r) ++ 32 :: b).take (c :: r).length = c :: r := List.take_left
  have hget : ((c :: r) ++ 32 :: b)[(c :: r).length]? = some 32 := by rw [List.getElem?_append_right (Nat.le_refl _)]; simp
  have hnum : numS ((c :: r) ++ 32 :: b) = some (n, (c :: r).length) := by
    unfold numS
    rw [hr, hget, htake]
    have hD : numD (c :: r) = some n := by
      unfold numD
      have n1 : ¬ ((c :: r).take 2 = [48, 120] ∨ (c :: r).take 2 = [48, 88]) := by
        cases r with
        | nil => simp
        | cons d r =>
          have hdd := hd d (by simp)
          simp only [List.take_succ_cons, List.take_zero, List.cons.injEq, and_true]
          rintro (⟨_, rfl⟩ | ⟨_, rfl⟩)
          · exact absurd hdd (by decide)
          · exact absurd hdd (by decide)
      have n2 : ¬ (1 < (c :: r).length ∧ (c :: r).head? = some 48) := by
        rintro ⟨l1, l2⟩
        simp only [List.head?_cons, Option.some.injEq] at l2
        rw [h48 l2] at l1; simp at l1
      rw [if_neg (fun h => n1 h.2), if_neg n2, hp]
    rw [hD]
    simp only [Option.some.injEq, show ¬ ((32 : UInt8) = 46) by decide, if_false, show n ≤ 9007199254740991 by omega, if_true]
  rw [List.cons_append] at hnum ⊢
  unfold oneS
  simp only [hcl, Bool.false_eq_true, if_false, hcd, if_true, hnum, Option.map_some]
  rfl
theorem wr_str {t : Tok} (hk : t.Kind = 4) (he : t.Text.length % 2 = 0) : WR t (34 :: (quoteL (unitsL t.Text) ++ [34])) := by
  obtain ⟨kd, u, nm, at_, fr⟩ := t
  simp only at hk he ⊢
  subst hk
  refine ⟨fun b => ?_, let_stop (.inr rfl)⟩
  have hr : readS (34 :: (quoteL (unitsL u) ++ [34]) ++ 32 :: b) = (u, (((34 :: (quoteL (unitsL u) ++ [34])).length : Nat) : Int), 0) := by
    have hg := readG_quoteL (32 :: b) (unitsL u) [] ((quoteL (unitsL u) ++ 34 :: 32 :: b).length + 1) (unitsL_lt u) (by have := quoteL_pos (unitsL u); rw [List.length_append]; omega)
    have e : 34 :: (quoteL (unitsL u) ++ [34]) ++ 32 :: b = 34 :: (quoteL (unitsL u) ++ 34 :: 32 :: b) := by simp
    rw [e]
    unfold readS
    simp only [or_true, if_true]
    rw [hg]
    simp only [List.nil_append, encL_units u he]
    congr 2
    simp only [List.length_cons, List.length_append, List.length_nil]; omega
  rw [List.cons_append] at hr ⊢
  have c1 : isLet 34 = false := by decide
  have c2 : isDig 34 = false := by decide
  unfold oneS
  simp only [c1, c2, Bool.false_eq_true, if_false, or_true, if_true, hr]
  have hne : ¬ ((((34 :: (quoteL (unitsL u) ++ [34])).length : Nat) : Int) = 0) := by simp; omega
  simp only [hne, if_false, Int.toNat_natCast]
  rfl
theorem one_sign {s : Str} {t : Tok} {n : Nat} (h : oneS s = some (t, n)) (hk : t.Kind = 5) : ∃ c r, s = c :: r ∧ isLet c = false ∧ isDig c = false ∧ ¬ (c = 39 ∨ c = 34) ∧ signS s ≠ 0 ∧ n = signS s ∧ t.Text = s.take (signS s) := by
  cases s with
  | nil => cases h
  | cons c r =>
    refine ⟨c, r, rfl, ?_⟩
    unfold oneS at h
    dsimp only at h
    split at h
    · split at h
      · cases h
      · cases h
        simp only at hk
        split at hk <;> cases hk
    · rename_i hl
      split at h
      · cases hn : numS (c :: r) with
        | none => rw [hn] at h; cases h
        | some p => rw [hn] at h; cases h; cases hk
      · rename_i hd
        split at h
        · split at h
          · cases h
          · cases h; cases hk
        · rename_i hq
          split at h
          · cases h
          · rename_i hs
            cases h
            exact ⟨by simpa using hl, by simpa using hd, hq, hs, rfl, rfl⟩
theorem wr_sign {t : Tok} (hk : t.Kind = 5) (hl : (cutS t.Text).1.length = 2) (t0 : Tok) (h0 : (cutS t.Text).1[0]? = some t0) (hk0 : t0.Kind = 5) (ht0 : t0.Text = t.Text) : WR t t.Text := by
  obtain ⟨kd, s, nm, at_, fr⟩ := t
  simp only at hk hl h0 ht0 ⊢
  subst hk
  unfold cutS at hl h0
  split at hl
  · simp at hl
  · rename_i h4096
    rw [if_neg h4096] at h0
    rw [cutT] at hl h0
    have hb := blanksG_len (s.length + 1) s false
    generalize hq : blanksG (s.length + 1) s false = q at hl h0 hb
    obtain ⟨r, f, ok⟩ := q
    simp only at hl h0 hb
    cases ok with
    | false => simp at hl
    | true =>
      simp only [Bool.true_eq_false, if_false] at hl h0
      by_cases hr : r = []
      · simp only [hr, if_true] at hl
        simp [laidAt] at hl
      · simp only [hr, if_false] at hl h0
        cases ho : oneS r with
        | none => rw [ho] at hl; simp at hl
        | some p =>
          obtain ⟨t1, n⟩ := p
          rw [ho] at hl h0
          simp only at hl h0
          cases hc : cutT s.length (r.drop n) false with
          | inr k => rw [hc] at hl; simp at hl
          | inl l =>
            rw [hc] at h0
            simp only [laidAt, List.map_cons, List.getElem?_cons_zero, Option.some.injEq] at h0
            have hk1 : t1.Kind = 5 := by rw [← h0] at hk0; exact hk0
            have ht1 : t1.Text = s := by rw [← h0] at ht0; exact ht0
            obtain ⟨c, r', rfl, g1, g2, g3, g4, g5, g6⟩ := one_sign ho hk1
            have hsl := signS_le c r'
            have hs : s = (c :: r').take (signS (c :: r')) := by rw [← ht1, g6]
            have hlen : s.length = signS (c :: r') := by
              have := congrArg List.length hs
              rw [List.length_take] at this; omega
            have hfull : signS (c :: r') = (c :: r').length := by omega
            have hsr : s = c :: r' := by rw [hs, hfull, List.take_length]
            subst hsr
            refine ⟨fun b => ?_, blanks_stop hq rfl⟩
            have hsx := signS_x c r' b
            rw [hfull] at hsx g4
            have htake : ((c :: r') ++ 32 :: b).take (c :: r').length = c :: r' := List.take_left
            rw [List.cons_append] at hsx htake ⊢
            unfold oneS
            simp only [g1, g2, g3, Bool.false_eq_true, if_false, hsx, g4, htake]
            rfl
theorem written_wr (t : Tok) (hT : t.Text.length ≤ 1048576) (hN : t.Num < 9223372036854775808) : ∃ s ok, law06_written t = some (s, ok) ∧ (ok = true → WR t s ∧ s.length ≤ 100000000) := by
  unfold law06_written law06_written.j1 law06_written.j2 law06_written.j3
  by_cases k1 : t.Kind = 1
  · simp only [k1, beq_self_eq_true, if_true, ref06_IsIdent_eq, ref06_IsWord_eq, Option.bind_some]
    cases hi : isIdentS t.Text with
    | false => exact ⟨_, _, rfl, fun h => by cases h⟩
    | true =>
      simp only [if_true]
      refine ⟨_, _, rfl, fun h => ⟨wr_ident hi ?_, by omega⟩⟩
      have : isWordS t.Text = false := by simpa using h
      rw [this]; exact k1
  · have b1 : (t.Kind == 1) = false := by rw [beq_eq_false_iff_ne]; exact k1
    simp only [b1, Bool.false_eq_true, if_false]
    by_cases k2 : t.Kind = 2
    · simp only [k2, beq_self_eq_true, if_true, ref06_IsWord_eq, Option.bind_some]
      refine ⟨_, _, rfl, fun h => ⟨wr_ident (word_ident _ ?_) ?_, by omega⟩⟩
      · unfold isWordS at h
        exact List.contains_iff_mem.1 h
      · rw [h]; exact k2
    · have b2 : (t.Kind == 2) = false := by rw [beq_eq_false_iff_ne]; exact k2
      simp only [b2, Bool.false_eq_true, if_false]
      by_cases k3 : t.Kind = 3
      · simp only [k3, beq_self_eq_true, if_true]
        by_cases h0 : t.Num ≥ 0
        · have e : (if 0 > t.Num then 0 else t.Num) = ((t.Num.toNat : Nat) : Int) := by rw [if_neg (by omega)]; omega
          rw [e, ref03_Digits_eq _ (by omega)]
          simp only [Option.bind_some, h0, decide_true, if_true]
          refine ⟨_, _, rfl, fun h => ⟨wr_num k3 h0 (by simpa using h), ?_⟩⟩
          have := decF_len 19 t.Num.toNat
          unfold decS; omega
        · have e : (if 0 > t.Num then 0 else t.Num) = ((0 : Nat) : Int) := by
            split <;> omega
          rw [e, ref03_Digits_eq 0 (by omega)]
          simp only [Option.bind_some, h0, decide_false, Bool.false_eq_true, if_false]
          exact ⟨_, _, rfl, fun h => by cases h⟩
      · have b3 : (t.Kind == 3) = false := by rw [beq_eq_false_iff_ne]; exact k3
        simp only [b3, Bool.false_eq_true, if_false]
        by_cases k4 : t.Kind = 4
        · simp only [k4, beq_self_eq_true, if_true]
          rw [ref01_Quote_eq _ (by omega), Option.bind_some]
          unfold quoteS
          by_cases he : t.Text.length % 2 = 0
          · simp only [he, if_true]
            refine ⟨_, _, rfl, fun _ => ⟨wr_str k4 he, ?_⟩⟩
            have h1 := quoteL_length (unitsL t.Text)
            have h2 := unitsL_length t.Text
            simp only [List.length_cons, List.length_append, List.length_nil]; omega
          · simp only [he, if_false]
            exact ⟨_, _, rfl, fun h => by cases h⟩
        · have b4 : (t.Kind == 4) = false := by rw [beq_eq_false_iff_ne]; exact k4
          simp only [b4, Bool.false_eq_true, if_false]
          by_cases k5 : t.Kind = 5
          · simp only [k5, beq_self_eq_true, if_true]
            rw [ref06_Cut_eq _ (by omega), Option.bind_some]
            by_cases hl : (cutS t.Text).1.length = 2
            · have bl : ((((cutS t.Text).1.length : Nat) : Int) == 2) = true := by rw [hl]; rfl
              obtain ⟨t0, h0⟩ : ∃ t0, (cutS t.Text).1[0]? = some t0 := ⟨(cutS t.Text).1[0]'(by omega), List.getElem?_eq_getElem (by omega)⟩
              have hg : getI (cutS t.Text).1 0 = some t0 := (getI_nat _ 0).trans h0
              simp only [bl, if_true, hg, Option.bind_some]
              by_cases hk0 : t0.Kind = 5
              · have bk : (t0.Kind == 5) = true := by rw [hk0]; rfl
                simp only [bk, if_true]
                refine ⟨_, _, rfl, fun h => ⟨wr_sign k5 hl t0 h0 hk0 (by simpa using h), by omega⟩⟩
              · have bk : (t0.Kind == 5) = false := by rw [beq_eq_false_iff_ne]; exact hk0
                simp only [bk, Bool.false_eq_true, if_false]
                exact ⟨_, _, rfl, fun h => by cases h⟩
            · have bl : ((((cutS t.Text).1.length : Nat) : Int) == 2) = false := by rw [beq_eq_false_iff_ne]; omega
              simp only [bl, Bool.false_eq_true, if_false]
              exact ⟨_, _, rfl, fun h => by cases h⟩
          · have b5 : (t.Kind == 5) = false := by rw [beq_eq_false_iff_ne]; exact k5
            simp only [b5, Bool.false_eq_true, if_false]
            exact ⟨_, _, rfl, fun h => by cases h⟩
end Go.Gw

