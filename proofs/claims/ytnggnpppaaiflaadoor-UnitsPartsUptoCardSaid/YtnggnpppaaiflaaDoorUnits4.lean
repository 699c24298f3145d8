/- Chapter 1: literals read. -/
import Derived.Test.YtnggnpppaaiflaaDoorUnits3
set_option linter.unusedVariables false
set_option linter.unusedSimpArgs false
set_option linter.unnecessarySimpa false
namespace Go.Gw
open Go.Proofs
set_option linter.unusedSimpArgs false

def hexV (b : UInt8) : Option Nat :=
  if 48 ≤ b.toNat ∧ b.toNat ≤ 57 then some (b.toNat - 48) else if 97 ≤ b.toNat ∧ b.toNat ≤ 102 then some (b.toNat - 87) else if 65 ≤ b.toNat ∧ b.toNat ≤ 70 then some (b.toNat - 55) else none
def hexN : Nat → Str → Nat → Option Nat
  | 0, _, a => some a
  | _ + 1, [], _ => none
  | k + 1, b :: r, a => match hexV b with
    | none => none
    | some d => hexN k r (16 * a + d)
theorem hexV_lt {b : UInt8} {d : Nat} (h : hexV b = some d) : d < 16 := by
  unfold hexV at h
  split at h
  · simp only [Option.some.injEq] at h; omega
  · split at h
    · simp only [Option.some.injEq] at h; omega
    · split at h
      · simp only [Option.some.injEq] at h; omega
      · cases h
theorem hexN_lt : ∀ (k : Nat) (s : Str) (a n : Nat), hexN k s a = some n → n < 16 ^ k * (a + 1)
  | 0, s, a, n, h => by simp only [hexN, Option.some.injEq] at h; omega
  | k + 1, [], a, n, h => by cases h
  | k + 1, b :: r, a, n, h => by
    simp only [hexN] at h
    cases hv : hexV b with
    | none => rw [hv] at h; cases h
    | some d =>
      rw [hv] at h
      have h1 := hexN_lt k r _ n h
      have h2 := hexV_lt hv
      have h3 : 16 ^ k * (16 * a + d + 1) ≤ 16 ^ k * (16 * (a + 1)) := Nat.mul_le_mul_left _ (by omega)
      have h4 : 16 ^ (k + 1) * (a + 1) = 16 ^ k * (16 * (a + 1)) := by rw [Nat.pow_succ, Nat.mul_assoc]
      omega
def simpleV (b : UInt8) : Option Nat :=
  if b = 110 then some 10 else if b = 116 then some 9 else if b = 114 then some 13 else if b = 98 then some 8 else if b = 102 then some 12 else if b = 118 then some 11
  else if b.toNat > 127 ∨ b = 13 ∨ b = 120 ∨ b = 117 ∨ (48 ≤ b.toNat ∧ b.toNat ≤ 57) ∨ b = 10 then none else some b.toNat
/-- what stands behind a backslash: its units, and how many bytes they took -/
def escS : Str → Option (List Nat × Nat)
  | [] => none
  | c :: r =>
    if c = 10 then some ([], 1)
    else if c = 48 then (match r with
      | [] => some ([0], 1)
      | d :: _ => if 48 ≤ d.toNat ∧ d.toNat ≤ 57 then none else some ([0], 1))
    else if c = 120 then (hexN 2 r 0).map fun n => ([n], 3)
    else if c = 117 then (hexN 4 r 0).map fun n => ([n], 5)
    else (simpleV c).map fun n => ([n], 1)
theorem hexN_len : ∀ (k : Nat) (s : Str) (a n : Nat), hexN k s a = some n → k ≤ s.length
  | 0, s, a, n, h => by omega
  | k + 1, [], a, n, h => by cases h
  | k + 1, b :: r, a, n, h => by
    simp only [hexN] at h
    cases hv : hexV b with
    | none => rw [hv] at h; cases h
    | some d => rw [hv] at h; have := hexN_len k r _ n h; simp only [List.length_cons]; omega
theorem simpleV_lt {b : UInt8} {n : Nat} (h : simpleV b = some n) : n < 256 := by
  have hb := b.toNat_lt
  unfold simpleV at h
  repeat' split at h
  all_goals first | (cases h; done) | (simp only [Option.some.injEq] at h; omega)
theorem escS_some {s : Str} {us : List Nat} {k : Nat} (h : escS s = some (us, k)) : (∀ n ∈ us, n < 65536) ∧ us.length ≤ 1 ∧ 1 ≤ k ∧ k ≤ s.length := by
  cases s with
  | nil => cases h
  | cons c r =>
    simp only [escS] at h
    by_cases h1 : c = 10
    · rw [if_pos h1] at h; cases h; simp
    · rw [if_neg h1] at h
      by_cases h2 : c = 48
      · rw [if_pos h2] at h
        cases r with
        | nil => cases h; simp
        | cons d r =>
          simp only at h
          split at h
          · cases h
          · cases h; simp
      · rw [if_neg h2] at h
        by_cases h3 : c = 120
        · rw [if_pos h3] at h
          cases hn : hexN 2 r 0 with
          | none => rw [hn] at h; cases h
          | some n =>
            rw [hn] at h; cases h
            have := hexN_lt _ _ _ _ hn; have := hexN_len _ _ _ _ hn
            simp; omega
        · rw [if_neg h3] at h
          by_cases h4 : c = 117
          · rw [if_pos h4] at h
            cases hn : hexN 4 r 0 with
            | none => rw [hn] at h; cases h
            | some n =>
              rw [hn] at h; cases h
              have := hexN_lt _ _ _ _ hn; have := hexN_len _ _ _ _ hn
              simp; omega
          · rw [if_neg h4] at h
            cases hn : simpleV c with
            | none => rw [hn] at h; cases h
            | some n =>
              rw [hn] at h; cases h
              have := simpleV_lt hn
              simp; omega

/-! ### the program's digits -/
theorem dropWhile_nil_iff {α : Type} (p : α → Bool) : ∀ l : List α, l.dropWhile p = [] ↔ ∀ x ∈ l, p x = true
  | [] => by simp
  | a :: l => by
    cases h : p a with
    | true => rw [List.dropWhile_cons_of_pos h, dropWhile_nil_iff p l]; simp [h]
    | false =>
      rw [List.dropWhile_cons_of_neg (by simp [h])]
      simp [h]
theorem dropWhile_head {α : Type} (p : α → Bool) : ∀ (l : List α) (b : α) (r : List α), l.dropWhile p = b :: r → p b = false
  | [], b, r, h => by cases h
  | a :: l, b, r, h => by
    cases hp : p a with
    | true => rw [List.dropWhile_cons_of_pos hp] at h; exact dropWhile_head p l b r h
    | false =>
      rw [List.dropWhile_cons_of_neg (by simp [hp])] at h
      cases h; exact hp
theorem trimS_nil (l cs : Str) : (Lib.trimS l cs == ([] : Str)) = l.all (cs.contains ·) := by
  unfold Lib.trimS Lib.trimLeftS Lib.trimRightS
  rw [Bool.eq_iff_iff]
  rw [beq_iff_eq, dropWhile_nil_iff, List.all_eq_true]
  constructor
  · intro h
    rcases hd : l.reverse.dropWhile (cs.contains ·) with _ | ⟨b, r⟩
    · rw [dropWhile_nil_iff] at hd
      intro x hx; exact hd x (by simpa using hx)
    · exfalso
      have h1 := dropWhile_head _ _ _ _ hd
      have h2 := h b (by rw [hd]; simp)
      rw [h1] at h2; cases h2
  · intro h x hx
    have := (List.dropWhile_suffix (cs.contains ·) (l := l.reverse)).subset (by simpa using hx)
    exact h x (by simpa using this)
def hexCs : Str := [48, 49, 50, 51, 52, 53, 54, 55, 56, 57, 97, 98, 99, 100, 101, 102, 65, 66, 67, 68, 69, 70]
theorem hexCs_all : ∀ b : Fin 256, hexCs.contains (UInt8.ofNat b.val) = (hexV (UInt8.ofNat b.val)).isSome := by decide +kernel
theorem byteF (b : UInt8) : ∃ k : Fin 256, b = UInt8.ofNat k.val := ⟨⟨b.toNat, b.toNat_lt⟩, by simp⟩
theorem hexCs_eq (b : UInt8) : hexCs.contains b = (hexV b).isSome := by
  obtain ⟨k, rfl⟩ := byteF b; exact hexCs_all k
theorem hexN_isSome : ∀ (s : Str) (a : Nat), (hexN s.length s a).isSome = s.all (hexCs.contains ·)
  | [], a => rfl
  | b :: r, a => by
    simp only [List.length_cons, hexN, List.all_cons, hexCs_eq]
    cases hv : hexV b with
    | none => simp
    | some d =>
      simp only [Option.isSome_some, Bool.true_and]
      rw [hexN_isSome r]
      congr 1; funext x; exact hexCs_eq x
theorem hexN_take : ∀ (k : Nat) (s : Str) (a : Nat), k ≤ s.length → hexN k (s.take k) a = hexN k s a
  | 0, s, a, _ => rfl
  | k + 1, [], a, h => by simp at h
  | k + 1, b :: r, a, h => by
    simp only [List.take_succ_cons, hexN]
    cases hexV b with
    | none => rfl
    | some d => simp only; exact hexN_take k r _ (by simpa using h)
theorem lower_hex : ∀ b : Fin 256, (48 ≤ b.val ∧ b.val ≤ 57) ∨ hexV (UInt8.ofNat b.val) = none ∨ ∃ l : Fin 256, internal_strconv_lower ((b.val : Nat) : Int) = some ((l.val : Nat) : Int) ∧ 97 ≤ l.val ∧ l.val ≤ 102 ∧ hexV (UInt8.ofNat b.val) = some (l.val - 87) := by decide +kernel
theorem parse_step (t : Str) (a i d : Nat) (b : UInt8) (h1 : t[i]? = some b) (h2 : hexV b = some d) (h3 : a < 4096) (hi : i < 1000) :
    internal_strconv_ParseUint_c16_c16.l1 t 65536 (false, (a : Int), (i : Int)) = some (.inl (false, ((16 * a + d : Nat) : Int), ((i + 1 : Nat) : Int))) := by
  have hlt : i < t.length := by
    rcases Nat.lt_or_ge i t.length with h | h
    · exact h
    · rw [List.getElem?_eq_none h] at h1; cases h1
  have hd := hexV_lt h2
  have hb := b.toNat_lt
  have w1 : IntKind.wrap .i64 ((i : Int) + 1) = ((i + 1 : Nat) : Int) := by rw [wrap_i64 (by omega) (by omega)]; omega
  have j5 : ∀ x : Int, x = (d : Int) → internal_strconv_ParseUint_c16_c16.j5 65536 false (a : Int) (i : Int) x = some (.inl (false, ((16 * a + d : Nat) : Int), ((i + 1 : Nat) : Int))) := by
    intro x hx; subst hx
    unfold internal_strconv_ParseUint_c16_c16.j5 internal_strconv_ParseUint_c16_c16.j6
    have c1 : ¬ ((d : Int) ≥ 16) := by omega
    have c2 : ¬ ((a : Int) ≥ 1152921504606846976) := by omega
    have u1 : IntKind.wrap .u64 ((a : Int) * 16) = ((16 * a : Nat) : Int) := by rw [wrap_u64 (by omega) (by omega)]; omega
    have u2 : IntKind.wrap .u64 (d : Int) = (d : Int) := wrap_u64 (by omega) (by omega)
    have u3 : IntKind.wrap .u64 (((16 * a : Nat) : Int) + (d : Int)) = ((16 * a + d : Nat) : Int) := by rw [wrap_u64 (by omega) (by omega)]; omega
    have u4 : IntKind.wrap .u64 (65536 - 1) = 65535 := by decide
    have c3 : ((decide (((16 * a + d : Nat) : Int) < ((16 * a : Nat) : Int))) || (decide (((16 * a + d : Nat) : Int) > 65535))) = false := by
      simp only [Bool.or_eq_false_iff, decide_eq_false_iff_not]; omega
    simp only [c1, c2, u1, u2, u3, u4, c3, decide_false, Bool.false_eq_true, if_false, w1]
  unfold internal_strconv_ParseUint_c16_c16.l1
  have c : ((i : Int) < ((t.length : Nat) : Int)) := by omega
  simp only [c, decide_true, if_true, getI_nat, h1, Option.bind_some, Bool.and_false, Bool.false_eq_true, if_false]
  by_cases hdig : 48 ≤ b.toNat ∧ b.toNat ≤ 57
  · have c2 : ((decide (48 ≤ ((b.toNat : Nat) : Int))) && (decide (((b.toNat : Nat) : Int) ≤ 57))) = true := by
      simp only [Bool.and_eq_true, decide_eq_true_eq]; omega
    rw [c2, if_pos rfl]
    apply j5
    unfold hexV at h2
    rw [if_pos hdig] at h2
    simp only [Option.some.injEq] at h2
    rw [wrap_u8 (by omega) (by omega)]; omega
  · have c2 : ((decide (48 ≤ ((b.toNat : Nat) : Int))) && (decide (((b.toNat : Nat) : Int) ≤ 57))) = false := by
      simp only [Bool.and_eq_false_iff, decide_eq_false_iff_not]; omega
    rw [c2, if_neg (by simp)]
    obtain ⟨l, e1, e2, e3, e4⟩ : ∃ l : Nat, internal_strconv_lower ((b.toNat : Nat) : Int) = some ((l : Nat) : Int) ∧ 97 ≤ l ∧ l ≤ 102 ∧ hexV b = some (l - 87) := by
      have := lower_hex ⟨b.toNat, b.toNat_lt⟩
      simp only [UInt8.ofNat_toNat] at this
      rcases this with h | h | ⟨l, h⟩
      · exact absurd h hdig
      · rw [h] at h2; cases h2
      · exact ⟨l.val, h⟩
    have hd2 : d = l - 87 := by rw [e4] at h2; simpa using h2.symm
    have c3 : (97 ≤ (l : Int)) := by omega
    have c4 : ((l : Int) ≤ 122) := by omega
    simp only [e1, Option.bind_some, c3, c4, decide_true, if_true]
    unfold internal_strconv_ParseUint_c16_c16.j4
    simp only [if_true, e1, Option.bind_some]
    apply j5
    rw [wrap_u8 (n := (l : Int) - 97) (by omega) (by omega), wrap_u8 (by omega) (by omega)]; omega
theorem parse_loop (t : Str) : ∀ (m i a n : Nat), m + i = t.length → t.length ≤ 4 → a < 16 ^ i → hexN m (t.drop i) a = some n →
    loopM (internal_strconv_ParseUint_c16_c16.l1 t 65536) (false, (a : Int), (i : Int)) = some (false, (n : Int)) := by
  intro m
  induction m with
  | zero =>
    intro i a n h1 h2 h3 h4
    simp only [hexN, Option.some.injEq] at h4
    subst h4
    refine loopM_out ?_
    unfold internal_strconv_ParseUint_c16_c16.l1
    have c : ¬ ((i : Int) < ((t.length : Nat) : Int)) := by omega
    simp only [c, decide_false, Bool.false_eq_true, if_false]
  | succ m ih =>
    intro i a n h1 h2 h3 h4
    have hlt : i < t.length := by omega
    rw [List.drop_eq_getElem_cons hlt] at h4
    simp only [hexN] at h4
    cases hv : hexV t[i] with
    | none => rw [hv] at h4; cases h4
    | some d =>
      rw [hv] at h4
      have hd := hexV_lt hv
      have ha : a < 4096 := Nat.lt_of_lt_of_le h3 (Nat.le_trans (Nat.pow_le_pow_right (by omega) (show i ≤ 3 by omega)) (by decide))
      rw [loopM_go (parse_step t a i d t[i] (List.getElem?_eq_getElem hlt) hv ha (by omega))]
      exact ih (i + 1) (16 * a + d) n (by omega) h2 (by rw [Nat.pow_succ]; omega) h4
theorem parse_eq (t : Str) (n : Nat) (h0 : t ≠ []) (h1 : t.length ≤ 4) (h2 : hexN t.length t 0 = some n) : strconv_ParseUint_c16_c16 t = some ((n : Int), ()) := by
  unfold strconv_ParseUint_c16_c16 internal_strconv_ParseUint_c16_c16
  have c : (t == ([] : Str)) = false := by simpa using h0
  have e : shlI .u64 1 16 = some 65536 := by decide
  have key := parse_loop t t.length 0 0 n (by omega) h1 (by decide) (by simpa using h2)
  have key2 : loopM (internal_strconv_ParseUint_c16_c16.l1 t 65536) (false, 0, 0) = some (false, (n : Int)) := key
  rw [c, if_neg (by simp), e]
  simp only [Option.bind_some, key2, Bool.false_eq_true, if_false]
  rfl
theorem units_unit_eq (n : Nat) (h : n < 65536) : units_unit (n : Int) = some (enc1 n) := by
  unfold units_unit
  have f1 : Int.fdiv (n : Int) (2 ^ 8) = ((n / 256 : Nat) : Int) := by
    rw [Int.fdiv_eq_ediv_of_nonneg _ (by omega)]; rfl
  have w1 : IntKind.wrap .u8 ((n / 256 : Nat) : Int) = ((n / 256 : Nat) : Int) := wrap_u8 (by omega) (by omega)
  have hb := wrap_u8_mod (n : Int)
  rw [f1, w1, toB_u8 (by omega) (by omega), hb, toB_u8 (by omega) (by omega)]
  simp only [Option.bind_some, Int.toNat_natCast]
  unfold enc1
  have e : ((n : Int) % 256).toNat = n % 256 := by omega
  rw [e]
theorem builder_write (r : T_units_reader) (s : Str) (h : r.out.length + s.length ≤ 274877906944) : strings_Builder_WriteString_at_units_reader_1 r s = some (((s.length : Nat) : Int), (), { s := r.s, out := r.out ++ s }) := by
  unfold strings_Builder_WriteString_at_units_reader_1 strings_Builder_copyCheck_at_units_reader_1
  simp only [Option.bind_some, room_ok h]
theorem digits_eq (s : Str) (acc : List Nat) (k : Nat) (hk : k = 2 ∨ k = 4) (hs : s.length ≤ 100000000) (ha : acc.length ≤ 100000000) :
    ∃ r, units_reader_digits { s := s, out := encL acc } (k : Int) = some r ∧ (match hexN k s 0 with
      | none => r.1 = false
      | some n => r = (true, { s := s.drop k, out := encL (acc ++ [n]) })) := by
  unfold units_reader_digits
  by_cases hl : s.length < k
  · have c : ((((s.length : Nat) : Int)) < (k : Int)) := by omega
    simp only [c, decide_true, if_true]
    refine ⟨_, rfl, ?_⟩
    cases hn : hexN k s 0 with
    | none => rfl
    | some n => have := hexN_len _ _ _ _ hn; omega
  · have c : ¬ ((((s.length : Nat) : Int)) < (k : Int)) := by omega
    have hcut : cutL s 0 (k : Int) = some (s.take k) := by
      have := cutL_nat s 0 k (by omega) (by omega)
      simpa using this
    have hlen : (s.take k).length = k := by rw [List.length_take]; omega
    have htrim : strings_Trim (s.take k) ([48, 49, 50, 51, 52, 53, 54, 55, 56, 57, 97, 98, 99, 100, 101, 102, 65, 66, 67, 68, 69, 70] : Str) = some (Lib.trimS (s.take k) hexCs) := by
      unfold strings_Trim
      rw [if_pos ⟨by omega, by decide, by decide⟩]; rfl
    have hsome := hexN_isSome (s.take k) 0
    rw [hlen, hexN_take k s 0 (by omega)] at hsome
    simp only [c, decide_false, Bool.false_eq_true, if_false, hcut, Option.bind_some, htrim, trimS_nil, ← hsome]
    unfold units_reader_digits.j1
    cases hn : hexN k s 0 with
    | none => exact ⟨_, rfl, rfl⟩
    | some n =>
      have hparse := parse_eq (s.take k) n (by intro h; rw [h] at hlen; simp at hlen; omega) (by omega) (by rw [hlen, hexN_take k s 0 (by omega)]; exact hn)
      have hn2 : n < 65536 := by
        have := hexN_lt _ _ _ _ hn
        rcases hk with rfl | rfl <;> omega
      have hend := cutL_to_end s k (by omega)
      have w : IntKind.wrap .i64 (n : Int) = (n : Int) := wrap_i64 (by omega) (by omega)
      have hbw := builder_write { s := s.drop k, out := encL acc } (enc1 n) (by simp only [encL_length]; simp [enc1]; omega)
      simp only [Option.isSome_some, Bool.not_true, Bool.false_eq_true, if_false, hcut, Option.bind_some, hparse, hend, w, units_unit_eq n hn2, hbw]
      refine ⟨_, rfl, ?_⟩
      simp [encL]
end Go.Gw
