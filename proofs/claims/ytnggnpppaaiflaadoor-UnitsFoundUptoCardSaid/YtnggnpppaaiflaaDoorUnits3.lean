/- Chapter 1: literals written. Plain Lean over the printed functions. -/
import Derived.Test.YtnggnpppaaiflaaDoorUnits2
set_option linter.unusedVariables false
set_option linter.unusedSimpArgs false
set_option linter.unnecessarySimpa false
namespace Go.Gw
open Go.Proofs
set_option linter.unusedSimpArgs false

def hexd (k : Nat) : UInt8 := if k < 10 then UInt8.ofNat (48 + k) else UInt8.ofNat (87 + k)
def quote1 (n : Nat) : Str :=
  if n = 34 then [92, 34] else if n = 92 then [92, 92] else if n = 8 then [92, 98] else if n = 9 then [92, 116] else if n = 10 then [92, 110] else if n = 12 then [92, 102] else if n = 13 then [92, 114]
  else if n < 32 ∨ n > 126 then [92, 117, hexd (n / 4096), hexd (n / 256 % 16), hexd (n / 16 % 16), hexd (n % 16)] else [UInt8.ofNat n]
def quoteL (l : List Nat) : Str := l.flatMap quote1
def quoteS (u : Str) : Str × Int := if u.length % 2 = 0 then (34 :: (quoteL (unitsL u) ++ [34]), 0) else ([], 10)
theorem quote1_length (n : Nat) : (quote1 n).length ≤ 6 := by
  unfold quote1; split <;> (try split) <;> (try split) <;> (try split) <;> (try split) <;> (try split) <;> (try split) <;> (try split) <;> simp
theorem quoteL_length (l : List Nat) : (quoteL l).length ≤ 6 * l.length := by
  induction l with
  | nil => simp [quoteL]
  | cons n l ih => unfold quoteL at ih ⊢; rw [List.flatMap_cons, List.length_append]; have := quote1_length n; simp only [List.length_cons]; omega
theorem quoteL_snoc (l : List Nat) (n : Nat) : quoteL (l ++ [n]) = quoteL l ++ quote1 n := by simp [quoteL]

def D36 : Str := [48, 49, 50, 51, 52, 53, 54, 55, 56, 57, 97, 98, 99, 100, 101, 102, 103, 104, 105, 106, 107, 108, 109, 110, 111, 112, 113, 114, 115, 116, 117, 118, 119, 120, 121, 122]
theorem D36_get : ∀ k : Fin 16, D36[k.val]? = some (hexd k.val) := by decide
theorem getB_D36 (k : Nat) (h : k < 16) : getB D36 (k : Int) = some (((hexd k).toNat : Nat) : Int) := by
  rw [getB_nat, D36_get ⟨k, h⟩]; rfl
theorem and15 (x : Nat) (h : x < 18446744073709551616) : IntKind.wrap .u64 ((BitVec.ofInt 64 (x : Int) &&& BitVec.ofInt 64 15).toNat) = ((x % 16 : Nat) : Int) := by
  rw [BitVec.toNat_and]
  have e1 : (BitVec.ofInt 64 (x : Int)).toNat = x := by rw [BitVec.ofInt_natCast, BitVec.toNat_ofNat]; omega
  have e2 : (BitVec.ofInt 64 15).toNat = 15 := rfl
  have e3 : x &&& 15 = x % 16 := Nat.and_two_pow_sub_one_eq_mod x 4
  rw [e1, e2, e3, wrap_u64 (by omega) (by omega)]
theorem arrI_ok {α : Type} {m : Nat} {xs : List α} (h : xs.length = m) (i : Nat) : arrI m xs (i : Int) = xs[i]? := by unfold arrI; rw [if_pos h, getI_nat]
theorem fmt_step (x p : Nat) (arr : List UInt8) (hx : 16 ≤ x) (hx2 : x < 1099511627776) (hp : 1 ≤ p) (hp2 : p ≤ 65) (ha : arr.length = 65) :
    internal_strconv_formatBits_cn_c16_cfalse.l1 4 ((x : Int), (p : Int), arr) = some (.inl (((x / 16 : Nat) : Int), ((p - 1 : Nat) : Int), arr.set (p - 1) (hexd (x % 16)))) := by
  unfold internal_strconv_formatBits_cn_c16_cfalse.l1
  have c : ((x : Int) ≥ 16) := by omega
  have hg := getB_D36 (x % 16) (by omega)
  unfold D36 at hg
  have w1 : IntKind.wrap .i64 ((p : Int) - 1) = ((p - 1 : Nat) : Int) := by rw [wrap_i64 (by omega) (by omega)]; omega
  have hlt : p - 1 < arr.length := by omega
  have hs : shrI .u64 (x : Int) (IntKind.wrap .u64 4) = some ((x / 16 : Nat) : Int) := by
    have : IntKind.wrap .u64 4 = 4 := wrap_u64 (by omega) (by omega)
    unfold shrI
    rw [this, if_neg (by omega)]
    have : (2 : Int) ^ min (4 : Int).toNat IntKind.u64.bits = 16 := by decide
    rw [this]
    congr 1
    have := Int.fdiv_eq_ediv_of_nonneg (x : Int) (b := 16) (by omega)
    rw [this]; omega
  simp only [c, decide_true, if_true, and15 x (by omega), hg, Option.bind_some, w1, arrI_ok ha, List.getElem?_eq_getElem hlt, toB_of, hs, setI_nat]
theorem fmt_hex (n : Nat) (hn : n < 65536) : strconv_FormatInt_c16 ((n + 65536 : Nat) : Int) = some [49, hexd (n / 4096), hexd (n / 256 % 16), hexd (n / 16 % 16), hexd (n % 16)] := by
  unfold strconv_FormatInt_c16 internal_strconv_FormatInt_c16 internal_strconv_formatBits_cn_c16_cfalse
  have c : ¬ (((n + 65536 : Nat) : Int) < 0) := by omega
  have w0 : IntKind.wrap .u64 ((n + 65536 : Nat) : Int) = ((n + 65536 : Nat) : Int) := wrap_u64 (by omega) (by omega)
  simp only [c, decide_false, Bool.false_eq_true, if_false, w0]
  unfold internal_strconv_formatBits_cn_c16_cfalse.j1 internal_strconv_isPowerOfTwo_c16 math_bits_TrailingZeros_c16 math_bits_TrailingZeros64_c16
  simp only [Option.bind_some, if_true]
  have s1 := fmt_step (n + 65536) 65 (List.replicate 65 0) (by omega) (by omega) (by omega) (by omega) (by simp)
  have s2 := fmt_step ((n + 65536) / 16) 64 ((List.replicate 65 0).set 64 (hexd ((n + 65536) % 16))) (by omega) (by omega) (by omega) (by omega) (by simp)
  have s3 := fmt_step ((n + 65536) / 16 / 16) 63 (((List.replicate 65 0).set 64 (hexd ((n + 65536) % 16))).set 63 (hexd ((n + 65536) / 16 % 16))) (by omega) (by omega) (by omega) (by omega) (by simp)
  have s4 := fmt_step ((n + 65536) / 16 / 16 / 16) 62 ((((List.replicate 65 0).set 64 (hexd ((n + 65536) % 16))).set 63 (hexd ((n + 65536) / 16 % 16))).set 62 (hexd ((n + 65536) / 16 / 16 % 16))) (by omega) (by omega) (by omega) (by omega) (by simp)
  have s5 : internal_strconv_formatBits_cn_c16_cfalse.l1 4 ((((n + 65536) / 16 / 16 / 16 / 16 : Nat) : Int), ((61 : Nat) : Int), ((((List.replicate 65 (0 : UInt8)).set 64 (hexd ((n + 65536) % 16))).set 63 (hexd ((n + 65536) / 16 % 16))).set 62 (hexd ((n + 65536) / 16 / 16 % 16))).set 61 (hexd ((n + 65536) / 16 / 16 / 16 % 16))) =
      some (.inr ((1 : Int), (61 : Int), ((((List.replicate 65 (0 : UInt8)).set 64 (hexd ((n + 65536) % 16))).set 63 (hexd ((n + 65536) / 16 % 16))).set 62 (hexd ((n + 65536) / 16 / 16 % 16))).set 61 (hexd ((n + 65536) / 16 / 16 / 16 % 16)))) := by
    have e : (n + 65536) / 16 / 16 / 16 / 16 = 1 := by omega
    rw [e]
    unfold internal_strconv_formatBits_cn_c16_cfalse.l1
    have c : ¬ (((1 : Nat) : Int) ≥ 16) := by decide
    simp only [c, decide_false, Bool.false_eq_true, if_false]; rfl
  have hl : loopM (internal_strconv_formatBits_cn_c16_cfalse.l1 4) (((n + 65536 : Nat) : Int), 65, List.replicate 65 (0 : UInt8)) = _ := (loopM_go s1).trans ((loopM_go s2).trans ((loopM_go s3).trans ((loopM_go s4).trans (loopM_out s5))))
  rw [hl]
  simp only [Option.bind_some]
  have hg : getB ([48, 49, 50, 51, 52, 53, 54, 55, 56, 57, 97, 98, 99, 100, 101, 102, 103, 104, 105, 106, 107, 108, 109, 110, 111, 112, 113, 114, 115, 116, 117, 118, 119, 120, 121, 122] : Str) 1 = some ((((49 : UInt8).toNat : Nat) : Int)) := by
    have := getB_D36 1 (by decide)
    unfold D36 at this
    exact this
  have w1 : IntKind.wrap .i64 ((61 : Int) - 1) = ((60 : Nat) : Int) := by decide
  rw [hg, w1]
  simp only [Option.bind_some]
  rw [arrI_ok (by simp), toB_of]
  have e1 : (n + 65536) % 16 = n % 16 := by omega
  have e2 : (n + 65536) / 16 % 16 = n / 16 % 16 := by omega
  have e3 : (n + 65536) / 16 / 16 % 16 = n / 256 % 16 := by omega
  have e4 : (n + 65536) / 16 / 16 / 16 % 16 = n / 4096 := by omega
  rw [e1, e2, e3, e4]
  generalize hexd (n % 16) = d0
  generalize hexd (n / 16 % 16) = d1
  generalize hexd (n / 256 % 16) = d2
  generalize hexd (n / 4096) = d3
  have hget : (((((List.replicate 65 (0 : UInt8)).set 64 d0).set 63 d1).set 62 d2).set 61 d3)[60]? = some 0 := rfl
  rw [hget]
  simp only [Option.bind_some, setI_nat]
  unfold internal_strconv_formatBits_cn_c16_cfalse.j2 internal_strconv_formatBits_cn_c16_cfalse.j3 cutA
  simp only [Bool.false_eq_true, if_false]
  rw [if_pos (by simp)]
  have hcut := cutL_to_end ((((((List.replicate 65 (0 : UInt8)).set 64 d0).set 63 d1).set 62 d2).set 61 d3).set 60 49) 60 (by simp)
  rw [hcut]
  rfl

def idxP (n : Nat) : Int := if n = 8 then 0 else if n = 9 then 1 else if n = 10 then 2 else if n = 12 then 3 else if n = 13 then 4 else -1
theorem idxP_eq : ∀ n : Fin 128, Lib.indexByte [8, 9, 10, 12, 13] (UInt8.ofNat n.val) = idxP n.val := by decide
theorem indexByte_small (n : Nat) (h : n < 128) : strings_IndexByte [8, 9, 10, 12, 13] (IntKind.wrap .u8 (n : Int)) = some (idxP n) := by
  unfold strings_IndexByte
  have : IntKind.wrap .u8 (n : Int) = (n : Int) := wrap_u8 (by omega) (by omega)
  rw [this]
  have := idxP_eq ⟨n, h⟩
  simp only at this
  simpa using this
theorem or_top (n : Nat) (h : n < 65536) : IntKind.wrap .i64 ((BitVec.ofInt 64 (n : Int) ||| BitVec.ofInt 64 65536).toNat) = ((n + 65536 : Nat) : Int) := by
  rw [BitVec.toNat_or]
  have e1 : (BitVec.ofInt 64 (n : Int)).toNat = n := by rw [BitVec.ofInt_natCast, BitVec.toNat_ofNat]; omega
  have e2 : (BitVec.ofInt 64 65536).toNat = 65536 := rfl
  have e3 : n ||| 65536 = n + 65536 := by
    have := Nat.shiftLeft_add_eq_or_of_lt (b := n) (i := 16) h 1
    rw [Nat.or_comm]
    have e : (1 <<< 16 : Nat) = 65536 := rfl
    rw [e] at this
    omega
  rw [e1, e2, e3, wrap_i64 (by omega) (by omega)]
theorem quote_j3 (k n : Nat) (acc : Str) (i : Int) (hk : k < 1000000000) (hn : n < 65536) (ha : acc.length ≤ 100000000000) (hi : i = if n < 128 then idxP n else -1) :
    units_Quote.j3 (k : Int) acc (n : Int) i = some (.inl (((k + 1 : Nat) : Int), acc ++ quote1 n)) := by
  have w1 : IntKind.wrap .i64 ((k : Int) + 1) = ((k + 1 : Nat) : Int) := by rw [wrap_i64 (by omega) (by omega)]; omega
  have r2 := room_ok (n := acc.length + 2) (by omega)
  have r1 := room_ok (n := acc.length + 1) (by omega)
  unfold units_Quote.j3 units_Quote.j4 quote1
  rw [w1]
  by_cases h1 : n = 34
  · subst h1
    have w : IntKind.wrap .u8 ((34 : Nat) : Int) = (((34 : UInt8).toNat : Nat) : Int) := by decide
    have e : ((((34 : Nat) : Int) == 34) || (((34 : Nat) : Int) == 92)) = true := rfl
    rw [e, if_pos rfl, w, toB_of]
    simp only [Option.bind_some, r2]
    rfl
  · by_cases h2 : n = 92
    · subst h2
      have w : IntKind.wrap .u8 ((92 : Nat) : Int) = (((92 : UInt8).toNat : Nat) : Int) := by decide
      have e : ((((92 : Nat) : Int) == 34) || (((92 : Nat) : Int) == 92)) = true := rfl
      rw [e, if_pos rfl, w, toB_of]
      simp only [Option.bind_some, r2]
      rfl
    · have c1 : (((n : Int) == 34) || ((n : Int) == 92)) = false := by simp only [Bool.or_eq_false_iff, beq_eq_false_iff_ne]; omega
      rw [c1, if_neg (by simp), if_neg h1, if_neg h2]
      have small : ∀ (j : Nat) (b : UInt8), i = (j : Int) → ([98, 116, 110, 102, 114] : Str)[j]? = some b →
          (if decide (i ≥ 0) = true then (getB ([98, 116, 110, 102, 114] : Str) i).bind fun v43 => (toB v43).bind fun b47 => (room (acc.length + 2)).bind fun u46 => (some (.inl (((k + 1 : Nat) : Int), acc ++ [(92 : UInt8), b47])) : Option ((Int × (List UInt8)) ⊕ (((List UInt8)))))
          else none) = some (.inl (((k + 1 : Nat) : Int), acc ++ [92, b])) := by
        intro j b hj hb
        subst hj
        have c : ((j : Int) ≥ 0) := by omega
        simp only [c, decide_true, if_true, getB_nat, hb, Option.map_some, Option.bind_some, toB_of, r2]
      by_cases h8 : n = 8
      · have e : i = ((0 : Nat) : Int) := by rw [hi, h8]; rfl
        have := small 0 98 e rfl
        rw [e] at this ⊢
        simpa [h8] using this
      · by_cases h9 : n = 9
        · have e : i = ((1 : Nat) : Int) := by rw [hi, h9]; rfl
          have := small 1 116 e rfl
          rw [e] at this ⊢
          simpa [h9] using this
        · by_cases h10 : n = 10
          · have e : i = ((2 : Nat) : Int) := by rw [hi, h10]; rfl
            have := small 2 110 e rfl
            rw [e] at this ⊢
            simpa [h10] using this
          · by_cases h12 : n = 12
            · have e : i = ((3 : Nat) : Int) := by rw [hi, h12]; rfl
              have := small 3 102 e rfl
              rw [e] at this ⊢
              simpa [h12] using this
            · by_cases h13 : n = 13
              · have e : i = ((4 : Nat) : Int) := by rw [hi, h13]; rfl
                have := small 4 114 e rfl
                rw [e] at this ⊢
                simpa [h13] using this
              · have e : i = -1 := by rw [hi]; unfold idxP; simp [h8, h9, h10, h12, h13]
                have c2 : ¬ ((-1 : Int) ≥ 0) := by decide
                rw [e]
                simp only [c2, decide_false, Bool.false_eq_true, if_false, h8, h9, h10, h12, h13]
                by_cases hx : n < 32 ∨ n > 126
                · have c3 : (decide ((n : Int) < 32) || decide ((n : Int) > 126)) = true := by simp only [Bool.or_eq_true, decide_eq_true_eq]; omega
                  rw [if_pos hx, c3, if_pos rfl, or_top n hn, fmt_hex n hn]
                  simp only [Option.bind_some]
                  have hc := cutL_to_end ([49, hexd (n / 4096), hexd (n / 256 % 16), hexd (n / 16 % 16), hexd (n % 16)] : Str) 1 (by simp)
                  have hc' : cutL ([49, hexd (n / 4096), hexd (n / 256 % 16), hexd (n / 16 % 16), hexd (n % 16)] : Str) 1 ((([49, hexd (n / 4096), hexd (n / 256 % 16), hexd (n / 16 % 16), hexd (n % 16)] : Str).length : Nat) : Int) = some [hexd (n / 4096), hexd (n / 256 % 16), hexd (n / 16 % 16), hexd (n % 16)] := hc
                  rw [hc']
                  simp only [Option.bind_some]
                  rw [catS_ok (by simp)]
                  simp only [Option.bind_some]
                  rw [room_ok (by simp; omega)]
                  rfl
                · have c3 : (decide ((n : Int) < 32) || decide ((n : Int) > 126)) = false := by simp only [Bool.or_eq_false_iff, decide_eq_false_iff_not]; omega
                  rw [if_neg hx, c3, if_neg (by simp)]
                  have w : IntKind.wrap .u8 (n : Int) = (n : Int) := wrap_u8 (by omega) (by omega)
                  rw [w, toB_u8 (by omega) (by omega)]
                  simp only [Option.bind_some, r1, Int.toNat_natCast]
theorem units_Quote_eq (u : Str) (hu : u.length ≤ 100000000) : units_Quote u = some (quoteS u) := by
  unfold units_Quote quoteS
  rw [units_Check_eq u (by omega)]
  simp only [Option.bind_some]
  by_cases he : u.length % 2 = 0
  · simp only [he, decide_true, Bool.not_true, Bool.false_eq_true, if_false, if_true]
    rw [units_Len_eq u (by omega), ← unitsL_length]
    simp only [Option.bind_some]
    have hl := unitsL_length u
    have key := loop_run (step := units_Quote.l1 u (((unitsL u).length : Nat) : Int)) (fun k => ((k : Int), 34 :: quoteL ((unitsL u).take k))) (34 :: quoteL (unitsL u)) (unitsL u).length 0 (fun j _ hj => ?_) ?_
    · have k2 : loopM (units_Quote.l1 u (((unitsL u).length : Nat) : Int)) (0, ([(34 : UInt8)] : List UInt8)) = some (34 :: quoteL (unitsL u)) := key
      rw [k2]
      simp only [Option.bind_some]
      have := quoteL_length (unitsL u)
      rw [room_ok (by simp only [List.length_cons]; omega)]
      rfl
    · have hlt : j < (unitsL u).length := by omega
      have hn := unitsL_lt u _ (List.getElem_mem hlt)
      unfold units_Quote.l1
      have c : ((j : Int) < (((unitsL u).length : Nat) : Int)) := by omega
      have ht : unitAt u (j : Int) = (((unitsL u)[j] : Nat) : Int) := unitAt_nat u j _ (List.getElem?_eq_getElem hlt)
      have hql := quoteL_length ((unitsL u).take j)
      rw [List.length_take] at hql
      have hA := units_At_eq u (j : Int) (by omega)
      rw [ht] at hA
      have hnext : (34 :: quoteL ((unitsL u).take j)) ++ quote1 (unitsL u)[j] = 34 :: quoteL ((unitsL u).take (j + 1)) := by
        rw [List.take_add_one, List.getElem?_eq_getElem hlt, Option.toList_some, quoteL_snoc]; rfl
      generalize (unitsL u)[j] = n at hA hnext hn
      have c' : (decide ((j : Int) < (((unitsL u).length : Nat) : Int))) = true := by rw [decide_eq_true_eq]; exact c
      show (if (decide ((j : Int) < (((unitsL u).length : Nat) : Int))) = true then _ else _) = _
      rw [if_pos c', hA]
      rw [bind_some']
      by_cases h128 : n < 128
      · have c2 : (decide ((n : Int) < 128)) = true := by rw [decide_eq_true_eq]; omega
        rw [if_pos c2, indexByte_small _ h128]
        rw [bind_some']
        rw [quote_j3 j n _ _ (by omega) hn (by simp only [List.length_cons]; omega) (by rw [if_pos h128]), hnext]
      · have c2 : ¬ (decide ((n : Int) < 128)) = true := by rw [decide_eq_true_eq]; omega
        rw [if_neg c2]
        rw [quote_j3 j n _ _ (by omega) hn (by simp only [List.length_cons]; omega) (by rw [if_neg h128]), hnext]
    · unfold units_Quote.l1
      simp only [Nat.zero_add, Int.lt_irrefl, decide_false, Bool.false_eq_true, if_false, List.take_length]
  · simp only [he, decide_false, Bool.not_false, if_true, if_false]
theorem hex_eq : ∀ k : Fin 16, ref01_hex ((k.val : Nat) : Int) = some (((hexd k.val).toNat : Nat) : Int) := by decide
theorem ref01_hex_eq (k : Nat) (h : k < 16) : ref01_hex ((k : Nat) : Int) = some (((hexd k).toNat : Nat) : Int) := hex_eq ⟨k, h⟩
theorem ref01_quoted_eq (n : Nat) (hn : n < 65536) : ref01_quoted (n : Int) = some (quote1 n) := by
  unfold ref01_quoted quote1
  have cc : ∀ m : Nat, ((n : Int) == (m : Int)) = decide (n = m) := fun m => by
    by_cases h : n = m
    · simp [h]
    · simp [h]; omega
  have c34 := cc 34; have c92 := cc 92; have c8 := cc 8; have c9 := cc 9; have c10 := cc 10; have c12 := cc 12; have c13 := cc 13
  have e34 : ((n : Int) == 34) = decide (n = 34) := c34
  have e92 : ((n : Int) == 92) = decide (n = 92) := c92
  have e8 : ((n : Int) == 8) = decide (n = 8) := c8
  have e9 : ((n : Int) == 9) = decide (n = 9) := c9
  have e10 : ((n : Int) == 10) = decide (n = 10) := c10
  have e12 : ((n : Int) == 12) = decide (n = 12) := c12
  have e13 : ((n : Int) == 13) = decide (n = 13) := c13
  rw [e34, e92, e8, e9, e10, e12, e13]
  simp only [decide_eq_true_eq]
  by_cases h34 : n = 34
  · simp [h34]
  by_cases h92 : n = 92
  · simp [h92]
  by_cases h8 : n = 8
  · simp [h8]
  by_cases h9 : n = 9
  · simp [h9]
  by_cases h10 : n = 10
  · simp [h10]
  by_cases h12 : n = 12
  · simp [h12]
  by_cases h13 : n = 13
  · simp [h13]
  simp only [h34, h92, h8, h9, h10, h12, h13, if_false]
  by_cases hx : n < 32 ∨ n > 126
  · have c3 : (decide ((n : Int) < 32) || decide ((n : Int) > 126)) = true := by simp only [Bool.or_eq_true, decide_eq_true_eq]; omega
    rw [c3, if_pos rfl, if_pos hx]
    have t1 : Int.tdiv ((n : Nat) : Int) 4096 = ((n / 4096 : Nat) : Int) := rfl
    have t2 : Int.tdiv ((n : Nat) : Int) 256 = ((n / 256 : Nat) : Int) := rfl
    have t3 : Int.tdiv ((n : Nat) : Int) 16 = ((n / 16 : Nat) : Int) := rfl
    have w1 : IntKind.wrap .i64 ((n / 4096 : Nat) : Int) = ((n / 4096 : Nat) : Int) := wrap_i64 (by omega) (by omega)
    have w2 : IntKind.wrap .i64 ((n / 256 : Nat) : Int) = ((n / 256 : Nat) : Int) := wrap_i64 (by omega) (by omega)
    have w3 : IntKind.wrap .i64 ((n / 16 : Nat) : Int) = ((n / 16 : Nat) : Int) := wrap_i64 (by omega) (by omega)
    have m2 : Int.tmod ((n / 256 : Nat) : Int) 16 = ((n / 256 % 16 : Nat) : Int) := rfl
    have m3 : Int.tmod ((n / 16 : Nat) : Int) 16 = ((n / 16 % 16 : Nat) : Int) := rfl
    have m4 : Int.tmod ((n : Nat) : Int) 16 = ((n % 16 : Nat) : Int) := rfl
    rw [t1, t2, t3, w1, w2, w3, m2, m3, m4, ref01_hex_eq _ (by omega), ref01_hex_eq _ (by omega), ref01_hex_eq _ (by omega), ref01_hex_eq _ (by omega)]
    simp only [Option.bind_some, toB_of]
  · have c3 : (decide ((n : Int) < 32) || decide ((n : Int) > 126)) = false := by simp only [Bool.or_eq_false_iff, decide_eq_false_iff_not]; omega
    rw [c3, if_neg (by simp), if_neg hx]
    have w : IntKind.wrap .u8 (n : Int) = (n : Int) := wrap_u8 (by omega) (by omega)
    rw [w, toB_u8 (by omega) (by omega)]
    simp
theorem ref01_Quote_eq (u : Str) (hu : u.length ≤ 100000000) : ref01_Quote u = some (quoteS u) := by
  unfold ref01_Quote quoteS
  rw [ref01_Check_eq u]
  simp only [Option.bind_some]
  by_cases he : u.length % 2 = 0
  · simp only [he, decide_true, Bool.not_true, Bool.false_eq_true, if_false, if_true]
    rw [ref01_List_eq u hu]
    simp only [Option.bind_some]
    have hl := unitsL_length u
    have hll : (natsI (unitsL u)).length = (unitsL u).length := by simp [natsI]
    have hqq := quoteL_length (unitsL u)
    have key := loop_run (step := ref01_Quote.l1 (natsI (unitsL u))) (fun k => (34 :: quoteL ((unitsL u).take k), (k : Int))) (34 :: quoteL (unitsL u)) (unitsL u).length 0 (fun j _ hj => ?_) ?_
    · have k2 : loopM (ref01_Quote.l1 (natsI (unitsL u))) (([34] : Str), 0) = some (34 :: quoteL (unitsL u)) := key
      rw [k2]
      simp only [Option.bind_some]
      rw [catS_ok (by simp only [List.length_cons, List.length_nil]; omega)]
      rfl
    · have hlt : j < (unitsL u).length := by omega
      have hn := unitsL_lt u _ (List.getElem_mem hlt)
      unfold ref01_Quote.l1
      have c : ((j : Int) < (((natsI (unitsL u)).length : Nat) : Int)) := by omega
      have ht : (natsI (unitsL u))[j]? = some (((unitsL u)[j] : Nat) : Int) := by simp [natsI, hlt]
      have hql := quoteL_length ((unitsL u).take j)
      rw [List.length_take] at hql
      have h6 := quote1_length (unitsL u)[j]
      have w1 : IntKind.wrap .i64 ((j : Int) + 1) = ((j + 1 : Nat) : Int) := by rw [wrap_i64 (by omega) (by omega)]; omega
      have hc := catS_ok (s := 34 :: quoteL ((unitsL u).take j)) (t := quote1 (unitsL u)[j]) (by simp only [List.length_cons]; omega)
      simp only [c, decide_true, if_true, getI_nat, ht, Option.bind_some, ref01_quoted_eq _ hn, hc, w1]
      rw [List.take_add_one, List.getElem?_eq_getElem hlt, Option.toList_some, quoteL_snoc]; rfl
    · unfold ref01_Quote.l1
      simp only [Nat.zero_add, hll, Int.lt_irrefl, decide_false, Bool.false_eq_true, if_false, List.take_length]
  · simp only [he, decide_false, Bool.not_false, if_true, if_false]
end Go.Gw
