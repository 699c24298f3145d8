/- Several texts in one. -/
import Derived.Test.YtilkjloabkgpaaaGreatDoorP07Az
import Derived.Test.YtilkjloabkgpaaaGreatDoorFmt07z
import Derived.Test.YtilkjloabkgpaaaGreatDoorGwZ
import Derived.Test.YtilkjloabkgpaaaGreatDoorGwL
import Derived.Lib.ItoaLen
set_option linter.unusedVariables false
set_option linter.unusedSimpArgs false
set_option linter.unnecessarySimpa false
/- Chapter 7, plainly: how tight an expression binds. -/
namespace Go.D07.W
open Go Go.Gw Go.Dn
set_option linter.unusedSimpArgs false
set_option maxRecDepth 100000

theorem own_parts {x : Node} (h : ownP x = true) : rnamedP x = true ∧ numP x = true := by
  simp only [ownP, Bool.and_eq_true] at h
  exact ⟨h.1.1, h.2.2.1⟩
theorem getI0 {α : Type} (a : α) (r : List α) : getI (a :: r) 0 = some a := rfl
theorem getI1 {α : Type} (a b : α) (r : List α) : getI (a :: b :: r) 1 = some b := rfl
theorem getI2 {α : Type} (a b c : α) (r : List α) : getI (a :: b :: c :: r) 2 = some c := rfl
theorem one101 (y : Node) : oneP y 101 = (exprK y.Kind && mayN y) := rfl
theorem expr_kinds {k : Int} (h : exprK k = true) : k = 1 ∨ k = 2 ∨ k = 3 ∨ k = 4 ∨ k = 5 ∨ k = 6 ∨ k = 7 ∨ k = 8 ∨ k = 10 ∨ k = 11 ∨ k = 12 ∨ k = 13 ∨ k = 14 ∨ k = 15 ∨ k = 16 ∨ k = 17 ∨ k = 18 ∨ k = 19 ∨ k = 20 ∨ k = 21 := by
  simp only [exprK, Bool.and_eq_true, decide_eq_true_eq, bne_iff_ne, ne_eq] at h
  omega
theorem level_n : ∀ (n : Nat) (x : Node), deepN x ≤ n → mayN x = true → exprK x.Kind = true → bulkN x ≤ 2097152 → (Rec_tree_level_g n).tree_level x = some ((tkN x).lvl, ())
  | 0, x, h, _, _, _ => by have := deepN_eq x; omega
  | n + 1, x, hd, hm, he, hb => by
    have a1 := deepN_eq x; have a2 := bulkN_eq x
    have amg : ∀ l : Str, l.length ≤ 1000 → tree_among l x.Name = some (amongP l x.Name, ()) := fun l hl => tree_among_eq l _ (by omega) (by omega)
    have ih : ∀ a r, x.L = a :: r → oneP a 101 = true → (Rec_tree_level_g n).tree_level a = some ((tkN a).lvl, ()) := fun a r hL ho => by
      rw [one101, Bool.and_eq_true] at ho
      have hin : a ∈ x.L := by rw [hL]; exact List.mem_cons_self
      exact level_n n a (by have := mem_deepL hin; omega) ho.2 ho.1 (by have := mem_bulkL hin; omega)
    show tree_level_b (Rec_tree_level_g n) x = _
    rw [tkN_eq]
    show _ = some (lvlT x (tkL x.L), ())
    unfold tree_level_b lvlT
    simp only [re25_eq]
    rcases expr_kinds he with h | h | h | h | h | h | h | h | h | h | h | h | h | h | h | h | h | h | h | h
    case inr.inr.inr.inr.inr.inr.inr.inr.inr.inl => -- 11
      rw [may_11 h, Bool.and_eq_true] at hm
      obtain ⟨l, hL⟩ : ∃ l, x.L = l := ⟨_, rfl⟩
      rcases l with _ | ⟨a, _ | ⟨b, r⟩⟩
      · rw [hL] at hm; simp [matchS] at hm
      · rw [hL] at hm
        have ho : oneP a 101 = true := by simpa [matchS] using hm.2
        have := ih a [] hL ho
        simp only [h, hL, getI0, Option.bind_some, this, tkL]
        have e : (if (tkN a).lvl > 11 then (tkN a).lvl else (11 : Int)) = max (tkN a).lvl 11 := by split <;> omega
        have e2 : (if max (tkN a).lvl 11 < 12 then max (tkN a).lvl 11 else (12 : Int)) = min (max (tkN a).lvl 11) 12 := by split <;> omega
        rw [e, e2]; rfl
      · rw [hL] at hm; simp [matchS] at hm
    case inr.inr.inr.inr.inr.inr.inr.inr.inr.inr.inl => -- 12
      rw [may_12 h, Bool.and_eq_true] at hm
      obtain ⟨l, hL⟩ : ∃ l, x.L = l := ⟨_, rfl⟩
      rcases l with _ | ⟨a, r⟩
      · rw [hL] at hm; simp [matchS] at hm
      · rw [hL] at hm
        have ho : oneP a 101 = true := by
          have := hm.2
          simp only [matchS, Bool.and_eq_true] at this
          exact this.1
        have := ih a r hL ho
        simp only [h, hL, getI0, Option.bind_some, this, tkL]
        have e : (if (tkN a).lvl > 11 then (tkN a).lvl else (11 : Int)) = max (tkN a).lvl 11 := by split <;> omega
        have e2 : (if max (tkN a).lvl 11 < 12 then max (tkN a).lvl 11 else (12 : Int)) = min (max (tkN a).lvl 11) 12 := by split <;> omega
        rw [e, e2]; rfl
    case inr.inr.inr.inr.inr.inr.inr.inr.inr.inr.inr.inr.inr.inr.inl => -- 16
      rw [may_16 h, Bool.and_eq_true] at hm
      have hn := (own_parts hm.1).2
      have : x.Num = 0 ∨ x.Num = 1 := by simpa [numP, h] using hn
      rw [h]
      have w : IntKind.wrap .i64 (10 - x.Num) = 10 - x.Num := wrap_i64 (by omega) (by omega)
      rw [w]; rfl
    case inr.inr.inr.inr.inr.inr.inr.inr.inr.inr.inr.inr.inr.inr.inr.inl => -- 17
      rw [h]
      have e5 := amg op5 (by decide)
      have e7 := amg op7 (by decide)
      have e8 := amg op8 (by decide)
      show Option.bind (tree_among op5 x.Name) (fun r => if r.1 = true then some (5, ()) else Option.bind (tree_among op7 x.Name) fun r => if r.1 = true then some (7, ()) else Option.bind (tree_among op8 x.Name) fun r => if r.1 = true then some (8, ()) else some (6, ())) = _
      rw [e5, e7, e8]
      simp only [Option.bind_some]
      cases amongP op5 x.Name <;> cases amongP op7 x.Name <;> cases amongP op8 x.Name <;> rfl
    case inr.inr.inr.inr.inr.inr.inr.inr.inr.inr.inr.inr.inr.inr.inr.inr.inl => -- 18
      rw [may_18 h, Bool.and_eq_true] at hm
      have hn := (own_parts hm.1).1
      have : x.Name = [38, 38] ∨ x.Name = [124, 124] := by simpa [rnamedP, h, ops18] using hn
      rcases this with e | e <;> rw [h, e] <;> rfl
    all_goals (rw [h]; rfl)
theorem tree_level_eq (x : Node) (hm : mayN x = true) (he : exprK x.Kind = true) (hb : bulkN x ≤ 2097152) : tree_level x = some ((tkN x).lvl, ()) :=
  level_n _ x (by have := deep_size x; have := size_bulk x; show deepN x ≤ 1000000000000; omega) hm he hb
end Go.D07.W


/- Literals: a unit's four digits. -/
namespace Go.Gw
set_option linter.unusedSimpArgs false

def hexd (k : Nat) : UInt8 := if k < 10 then UInt8.ofNat (48 + k) else UInt8.ofNat (87 + k)
def quote1 (n : Nat) : Str :=
  if n = 34 then [92, 34] else if n = 92 then [92, 92] else if n = 8 then [92, 98] else if n = 9 then [92, 116] else if n = 10 then [92, 110] else if n = 12 then [92, 102] else if n = 13 then [92, 114]
  else if n < 32 ∨ n > 126 then [92, 117, hexd (n / 4096), hexd (n / 256 % 16), hexd (n / 16 % 16), hexd (n % 16)] else [UInt8.ofNat n]
def quoteL (l : List Nat) : Str := l.flatMap quote1
theorem quote1_length (n : Nat) : (quote1 n).length ≤ 6 := by
  unfold quote1; split <;> (try split) <;> (try split) <;> (try split) <;> (try split) <;> (try split) <;> (try split) <;> (try split) <;> simp
theorem quoteL_length (l : List Nat) : (quoteL l).length ≤ 6 * l.length := by
  induction l with
  | nil => simp [quoteL]
  | cons n l ih => unfold quoteL at ih ⊢; rw [List.flatMap_cons, List.length_append]; have := quote1_length n; simp only [List.length_cons]; omega
theorem quoteL_snoc (l : List Nat) (n : Nat) : quoteL (l ++ [n]) = quoteL l ++ quote1 n := by simp [quoteL]

def D36 : Str := [48, 49, 50, 51, 52, 53, 54, 55, 56, 57, 97, 98, 99, 100, 101, 102, 103, 104, 105, 106, 107, 108, 109, 110, 111, 112, 113, 114, 115, 116, 117, 118, 119, 120, 121, 122]
theorem D36_get : ∀ k : Fin 16, D36[k.val]? = some (hexd k.val) := by decide
theorem getB_D36 (k : Nat) (h : k < 16) : getB D36 (k : Int) = some (((hexd k).toNat : Nat) : Int) := by
  rw [getB_nat, D36_get ⟨k, h⟩]; rfl
theorem and15 (x : Nat) (h : x < 18446744073709551616) : IntKind.wrap .u64 ((BitVec.ofInt 64 (x : Int) &&& BitVec.ofInt 64 15).toNat) = ((x % 16 : Nat) : Int) := by
  rw [BitVec.toNat_and]
  have e1 : (BitVec.ofInt 64 (x : Int)).toNat = x := by rw [BitVec.ofInt_natCast, BitVec.toNat_ofNat]; omega
  have e2 : (BitVec.ofInt 64 15).toNat = 15 := rfl
  have e3 : x &&& 15 = x % 16 := Nat.and_two_pow_sub_one_eq_mod x 4
  rw [e1, e2, e3, wrap_u64 (by omega) (by omega)]
theorem arrI_ok {α : Type} {m : Nat} {xs : List α} (h : xs.length = m) (i : Nat) : arrI m xs (i : Int) = xs[i]? := by unfold arrI; rw [if_pos h, getI_nat]
theorem fmt_step (x p : Nat) (arr : List UInt8) (hx : 16 ≤ x) (hx2 : x < 1099511627776) (hp : 1 ≤ p) (hp2 : p ≤ 65) (ha : arr.length = 65) :
    internal_strconv_formatBits_cn_c16_cfalse.l1 4 ((x : Int), (p : Int), arr) = some (.inl (((x / 16 : Nat) : Int), ((p - 1 : Nat) : Int), arr.set (p - 1) (hexd (x % 16)))) := by
  unfold internal_strconv_formatBits_cn_c16_cfalse.l1
  have c : ((x : Int) ≥ 16) := by omega
  have hg := getB_D36 (x % 16) (by omega)
  unfold D36 at hg
  have w1 : IntKind.wrap .i64 ((p : Int) - 1) = ((p - 1 : Nat) : Int) := by rw [wrap_i64 (by omega) (by omega)]; omega
  have hlt : p - 1 < arr.length := by omega
  have hs : shrI .u64 (x : Int) (IntKind.wrap .u64 4) = some ((x / 16 : Nat) : Int) := by
    have : IntKind.wrap .u64 4 = 4 := wrap_u64 (by omega) (by omega)
    unfold shrI
    rw [this, if_neg (by omega)]
    have : (2 : Int) ^ min (4 : Int).toNat IntKind.u64.bits = 16 := by decide
    rw [this]
    congr 1
    have := Int.fdiv_eq_ediv_of_nonneg (x : Int) (b := 16) (by omega)
    rw [this]; omega
  simp only [c, decide_true, if_true, and15 x (by omega), hg, Option.bind_some, w1, arrI_ok ha, List.getElem?_eq_getElem hlt, toB_of, hs, setI_nat]
theorem fmt_hex (n : Nat) (hn : n < 65536) : strconv_FormatInt_c16 ((n + 65536 : Nat) : Int) = some [49, hexd (n / 4096), hexd (n / 256 % 16), hexd (n / 16 % 16), hexd (n % 16)] := by
  unfold strconv_FormatInt_c16 internal_strconv_FormatInt_c16 internal_strconv_formatBits_cn_c16_cfalse
  have c : ¬ (((n + 65536 : Nat) : Int) < 0) := by omega
  have w0 : IntKind.wrap .u64 ((n + 65536 : Nat) : Int) = ((n + 65536 : Nat) : Int) := wrap_u64 (by omega) (by omega)
  simp only [c, decide_false, Bool.false_eq_true, if_false, w0]
  unfold internal_strconv_formatBits_cn_c16_cfalse.j1 internal_strconv_isPowerOfTwo_c16 math_bits_TrailingZeros_c16 math_bits_TrailingZeros64_c16
  simp only [Option.bind_some, if_true]
  have s1 := fmt_step (n + 65536) 65 (List.replicate 65 0) (by omega) (by omega) (by omega) (by omega) (by simp)
  have s2 := fmt_step ((n + 65536) / 16) 64 ((List.replicate 65 0).set 64 (hexd ((n + 65536) % 16))) (by omega) (by omega) (by omega) (by omega) (by simp)
  have s3 := fmt_step ((n + 65536) / 16 / 16) 63 (((List.replicate 65 0).set 64 (hexd ((n + 65536) % 16))).set 63 (hexd ((n + 65536) / 16 % 16))) (by omega) (by omega) (by omega) (by omega) (by simp)
  have s4 := fmt_step ((n + 65536) / 16 / 16 / 16) 62 ((((List.replicate 65 0).set 64 (hexd ((n + 65536) % 16))).set 63 (hexd ((n + 65536) / 16 % 16))).set 62 (hexd ((n + 65536) / 16 / 16 % 16))) (by omega) (by omega) (by omega) (by omega) (by simp)
  have s5 : internal_strconv_formatBits_cn_c16_cfalse.l1 4 ((((n + 65536) / 16 / 16 / 16 / 16 : Nat) : Int), ((61 : Nat) : Int), ((((List.replicate 65 (0 : UInt8)).set 64 (hexd ((n + 65536) % 16))).set 63 (hexd ((n + 65536) / 16 % 16))).set 62 (hexd ((n + 65536) / 16 / 16 % 16))).set 61 (hexd ((n + 65536) / 16 / 16 / 16 % 16))) =
      some (.inr ((1 : Int), (61 : Int), ((((List.replicate 65 (0 : UInt8)).set 64 (hexd ((n + 65536) % 16))).set 63 (hexd ((n + 65536) / 16 % 16))).set 62 (hexd ((n + 65536) / 16 / 16 % 16))).set 61 (hexd ((n + 65536) / 16 / 16 / 16 % 16)))) := by
    have e : (n + 65536) / 16 / 16 / 16 / 16 = 1 := by omega
    rw [e]
    unfold internal_strconv_formatBits_cn_c16_cfalse.l1
    have c : ¬ (((1 : Nat) : Int) ≥ 16) := by decide
    simp only [c, decide_false, Bool.false_eq_true, if_false]; rfl
  have hl : loopM (internal_strconv_formatBits_cn_c16_cfalse.l1 4) (((n + 65536 : Nat) : Int), 65, List.replicate 65 (0 : UInt8)) = _ := (loopM_go s1).trans ((loopM_go s2).trans ((loopM_go s3).trans ((loopM_go s4).trans (loopM_out s5))))
  rw [hl]
  simp only [Option.bind_some]
  have hg : getB ([48, 49, 50, 51, 52, 53, 54, 55, 56, 57, 97, 98, 99, 100, 101, 102, 103, 104, 105, 106, 107, 108, 109, 110, 111, 112, 113, 114, 115, 116, 117, 118, 119, 120, 121, 122] : Str) 1 = some ((((49 : UInt8).toNat : Nat) : Int)) := by
    have := getB_D36 1 (by decide)
    unfold D36 at this
    exact this
  have w1 : IntKind.wrap .i64 ((61 : Int) - 1) = ((60 : Nat) : Int) := by decide
  rw [hg, w1]
  simp only [Option.bind_some]
  rw [arrI_ok (by simp), toB_of]
  have e1 : (n + 65536) % 16 = n % 16 := by omega
  have e2 : (n + 65536) / 16 % 16 = n / 16 % 16 := by omega
  have e3 : (n + 65536) / 16 / 16 % 16 = n / 256 % 16 := by omega
  have e4 : (n + 65536) / 16 / 16 / 16 % 16 = n / 4096 := by omega
  rw [e1, e2, e3, e4]
  generalize hexd (n % 16) = d0
  generalize hexd (n / 16 % 16) = d1
  generalize hexd (n / 256 % 16) = d2
  generalize hexd (n / 4096) = d3
  have hget : (((((List.replicate 65 (0 : UInt8)).set 64 d0).set 63 d1).set 62 d2).set 61 d3)[60]? = some 0 := rfl
  rw [hget]
  simp only [Option.bind_some, setI_nat]
  unfold internal_strconv_formatBits_cn_c16_cfalse.j2 internal_strconv_formatBits_cn_c16_cfalse.j3 cutA
  simp only [Bool.false_eq_true, if_false]
  rw [if_pos (by simp)]
  have hcut := cutL_to_end ((((((List.replicate 65 (0 : UInt8)).set 64 d0).set 63 d1).set 62 d2).set 61 d3).set 60 49) 60 (by simp)
  rw [hcut]
  rfl

def idxP (n : Nat) : Int := if n = 8 then 0 else if n = 9 then 1 else if n = 10 then 2 else if n = 12 then 3 else if n = 13 then 4 else -1
theorem idxP_eq : ∀ n : Fin 128, Lib.indexByte [8, 9, 10, 12, 13] (UInt8.ofNat n.val) = idxP n.val := by decide
theorem or_top (n : Nat) (h : n < 65536) : IntKind.wrap .i64 ((BitVec.ofInt 64 (n : Int) ||| BitVec.ofInt 64 65536).toNat) = ((n + 65536 : Nat) : Int) := by
  rw [BitVec.toNat_or]
  have e1 : (BitVec.ofInt 64 (n : Int)).toNat = n := by rw [BitVec.ofInt_natCast, BitVec.toNat_ofNat]; omega
  have e2 : (BitVec.ofInt 64 65536).toNat = 65536 := rfl
  have e3 : n ||| 65536 = n + 65536 := by
    have := Nat.shiftLeft_add_eq_or_of_lt (b := n) (i := 16) h 1
    rw [Nat.or_comm]
    have e : (1 <<< 16 : Nat) = 65536 := rfl
    rw [e] at this
    omega
  rw [e1, e2, e3, wrap_i64 (by omega) (by omega)]
end Go.Gw


/- Chapter 7, plainly: Quote (begun; see NOTES). -/
namespace Go.D07
open Go Go.Gw Go.Dn
set_option linter.unusedSimpArgs false
set_option maxRecDepth 100000

def unitsL : Str → List Nat
  | a :: b :: r => (a.toNat * 256 + b.toNat) :: unitsL r
  | _ => []
theorem unitsL_length : ∀ u : Str, (unitsL u).length = u.length / 2
  | [] => rfl
  | [_] => by simp [unitsL]
  | a :: b :: r => by simp only [unitsL, List.length_cons, unitsL_length r]; omega
theorem unitsL_lt : ∀ (u : Str) (n : Nat), n ∈ unitsL u → n < 65536
  | [], _, h => by cases h
  | [_], _, h => by cases h
  | a :: b :: r, n, h => by
    simp only [unitsL, List.mem_cons] at h
    rcases h with h | h
    · have := a.toNat_lt; have := b.toNat_lt; omega
    · exact unitsL_lt r n h
theorem unitsL_get : ∀ (u : Str) (i : Nat), i < u.length / 2 → ∃ a b, u[2 * i]? = some a ∧ u[2 * i + 1]? = some b ∧ (unitsL u)[i]? = some (a.toNat * 256 + b.toNat)
  | [], i, h => by simp at h
  | [_], i, h => by simp at h
  | a :: b :: r, 0, _ => ⟨a, b, rfl, rfl, rfl⟩
  | a :: b :: r, i + 1, h => by
    obtain ⟨x, y, h1, h2, h3⟩ := unitsL_get r i (by simp only [List.length_cons] at h; omega)
    refine ⟨x, y, ?_, ?_, ?_⟩
    · have : 2 * (i + 1) = 2 * i + 1 + 1 := by omega
      rw [this]; simpa using h1
    · have : 2 * (i + 1) + 1 = 2 * i + 1 + 1 + 1 := by omega
      rw [this]; simpa using h2
    · simpa [unitsL] using h3

theorem units_Len_eq (u : Str) (h : u.length < 9223372036854775808) : units_Len u = some (((u.length / 2 : Nat) : Int), ()) := by
  unfold units_Len
  have : Int.tdiv ((u.length : Nat) : Int) 2 = ((u.length / 2 : Nat) : Int) := rfl
  rw [this, wrap_i64 (by omega) (by omega)]
def unitAt (u : Str) (i : Int) : Int := if 0 ≤ i then (match (unitsL u)[i.toNat]? with | some n => (n : Int) | none => -1) else -1
theorem or_byte64 (x y : Nat) (hx : x < 256) (hy : y < 256) : IntKind.wrap .i64 ((BitVec.ofInt 64 (IntKind.wrap .i64 ((IntKind.wrap .i64 (x : Int)) * 2 ^ 8)) ||| BitVec.ofInt 64 (IntKind.wrap .i64 (y : Int))).toNat) = ((x * 256 + y : Nat) : Int) := by
  have e1 : IntKind.wrap .i64 (x : Int) = (x : Int) := wrap_i64 (by omega) (by omega)
  have e2 : IntKind.wrap .i64 (y : Int) = (y : Int) := wrap_i64 (by omega) (by omega)
  have e3 : ((x : Int) * 2 ^ 8) = ((x * 256 : Nat) : Int) := by simp
  rw [e1, e2, e3, wrap_i64 (n := ((x * 256 : Nat) : Int)) (by omega) (by omega), BitVec.toNat_or]
  have e4 : (BitVec.ofInt 64 ((x * 256 : Nat) : Int)).toNat = x * 256 := by rw [BitVec.ofInt_natCast, BitVec.toNat_ofNat]; omega
  have e5 : (BitVec.ofInt 64 (y : Int)).toNat = y := by rw [BitVec.ofInt_natCast, BitVec.toNat_ofNat]; omega
  rw [e4, e5]
  have e6 : x * 256 ||| y = x * 256 + y := by
    have := Nat.shiftLeft_add_eq_or_of_lt (b := y) (i := 8) hy x
    rw [Nat.shiftLeft_eq] at this
    exact this.symm
  rw [e6, wrap_i64 (by omega) (by omega)]
theorem units_At_eq (u : Str) (i : Int) (h : u.length < 4611686018427387904) : units_At u i = some (unitAt u i, ()) := by
  unfold units_At unitAt
  by_cases h0 : i < 0
  · have : ¬ 0 ≤ i := by omega
    simp [h0, this]
  · have h0' : 0 ≤ i := by omega
    rw [units_Len_eq u (by omega)]
    by_cases h1 : i ≥ ((u.length / 2 : Nat) : Int)
    · have : (unitsL u)[i.toNat]? = none := List.getElem?_eq_none (by rw [unitsL_length]; omega)
      simp only [h0, decide_false, Bool.false_eq_true, if_false, Option.bind_some, h1, decide_true, if_true, h0', this]
    · obtain ⟨k, rfl⟩ : ∃ k : Nat, i = k := ⟨i.toNat, by omega⟩
      obtain ⟨a, b, e1, e2, e3⟩ := unitsL_get u k (by omega)
      have w1 : IntKind.wrap .i64 (2 * (k : Int)) = ((2 * k : Nat) : Int) := by rw [wrap_i64 (by omega) (by omega)]; omega
      have w2 : IntKind.wrap .i64 (((2 * k : Nat) : Int) + 1) = ((2 * k + 1 : Nat) : Int) := by rw [wrap_i64 (by omega) (by omega)]; omega
      simp only [h0, decide_false, Bool.false_eq_true, if_false, Option.bind_some, h1, h0', if_true, w1, w2, getB_nat, e1, e2, Option.map_some, or_byte64 _ _ a.toNat_lt b.toNat_lt, Int.toNat_natCast, e3]
theorem unitAt_nat (u : Str) (k n : Nat) (h : (unitsL u)[k]? = some n) : unitAt u (k : Int) = (n : Int) := by
  unfold unitAt; rw [if_pos (by omega)]; simp [h]

theorem indexByte_small (n : Nat) (h : n < 128) : strings_IndexByte [8, 9, 10, 12, 13] (IntKind.wrap .u8 (n : Int)) = some (idxP n, ()) := by
  unfold strings_IndexByte strings_IndexByte_x
  have : IntKind.wrap .u8 (n : Int) = (n : Int) := wrap_u8 (by omega) (by omega)
  rw [this]
  have := idxP_eq ⟨n, h⟩
  simp only at this
  simpa [mapO] using this
theorem fmt16 (n : Nat) (hn : n < 65536) : strconv_FormatInt ((n + 65536 : Nat) : Int) 16 = some ([49, hexd (n / 4096), hexd (n / 256 % 16), hexd (n / 16 % 16), hexd (n % 16)], ()) := by
  have : strconv_FormatInt_x ((n + 65536 : Nat) : Int) 16 = some [49, hexd (n / 4096), hexd (n / 256 % 16), hexd (n / 16 % 16), hexd (n % 16)] := by
    unfold strconv_FormatInt_x
    rw [if_pos rfl, fmt_hex n hn]
  unfold strconv_FormatInt
  rw [this]; rfl
theorem quote_j2 (u : Str) (len : Int) (k n : Nat) (acc : Str) (i : Int) (hk : k < 1000000000) (hn : n < 65536) (ha : acc.length ≤ 100000000000) (hi : i = if n < 128 then idxP n else -1) :
    units_Quote_j2 u (n : Int) i len (k : Int) acc = some (.inl (u, len, ((k + 1 : Nat) : Int), acc ++ quote1 n, ())) := by
  have w1 : IntKind.wrap .i64 ((k : Int) + 1) = ((k + 1 : Nat) : Int) := by rw [wrap_i64 (by omega) (by omega)]; omega
  have t92 : toB 92 = some 92 := rfl
  unfold quote1
  by_cases h1 : n = 34
  · subst h1
    have e : ((((34 : Nat) : Int) == 34) || (((34 : Nat) : Int) == 92)) = true := rfl
    have w : toB (IntKind.wrap .u8 ((34 : Nat) : Int)) = some 34 := by rw [wrap_u8 (by omega) (by omega)]; rfl
    simp only [units_Quote_j2, e, if_true, t92, w, Option.bind_some, w1]
    rw [room_ok (by simp; omega)]
    rfl
  · by_cases h2 : n = 92
    · subst h2
      have e : ((((92 : Nat) : Int) == 34) || (((92 : Nat) : Int) == 92)) = true := rfl
      have w : toB (IntKind.wrap .u8 ((92 : Nat) : Int)) = some 92 := by rw [wrap_u8 (by omega) (by omega)]; rfl
      simp only [units_Quote_j2, e, if_true, t92, w, Option.bind_some, w1]
      rw [room_ok (by simp; omega)]
      rfl
    · have c1 : (((n : Int) == 34) || ((n : Int) == 92)) = false := by simp only [Bool.or_eq_false_iff, beq_eq_false_iff_ne]; omega
      simp only [units_Quote_j2, c1, Bool.false_eq_true, if_false, h1, h2]
      have small : ∀ (j : Nat) (b : UInt8), i = (j : Int) → ([98, 116, 110, 102, 114] : Str)[j]? = some b → units_Quote_j3 u (n : Int) i len (k : Int) acc = some (.inl (u, len, ((k + 1 : Nat) : Int), acc ++ [92, b], ())) := by
        intro j b hj hb
        subst hj
        have c : ((j : Int) ≥ 0) := by omega
        simp only [units_Quote_j3, c, decide_true, if_true, getB_nat, hb, Option.map_some, Option.bind_some, t92, toB_of, w1]
        rw [room_ok (by simp; omega)]
        rfl
      by_cases h8 : n = 8
      · have e : i = ((0 : Nat) : Int) := by rw [hi, h8]; rfl
        simpa [h8] using small 0 98 e rfl
      · by_cases h9 : n = 9
        · have e : i = ((1 : Nat) : Int) := by rw [hi, h9]; rfl
          simpa [h9] using small 1 116 e rfl
        · by_cases h10 : n = 10
          · have e : i = ((2 : Nat) : Int) := by rw [hi, h10]; rfl
            simpa [h10] using small 2 110 e rfl
          · by_cases h12 : n = 12
            · have e : i = ((3 : Nat) : Int) := by rw [hi, h12]; rfl
              simpa [h12] using small 3 102 e rfl
            · by_cases h13 : n = 13
              · have e : i = ((4 : Nat) : Int) := by rw [hi, h13]; rfl
                simpa [h13] using small 4 114 e rfl
              · have e : i = -1 := by rw [hi]; unfold idxP; simp [h8, h9, h10, h12, h13]
                have c2 : ¬ ((-1 : Int) ≥ 0) := by decide
                rw [e]
                simp only [units_Quote_j3, units_Quote_j4, c2, decide_false, Bool.false_eq_true, if_false, h8, h9, h10, h12, h13]
                by_cases hx : n < 32 ∨ n > 126
                · have c3 : (decide ((n : Int) < 32) || decide ((n : Int) > 126)) = true := by simp only [Bool.or_eq_true, decide_eq_true_eq]; omega
                  have hc : cutL ([49, hexd (n / 4096), hexd (n / 256 % 16), hexd (n / 16 % 16), hexd (n % 16)] : Str) 1 ((([49, hexd (n / 4096), hexd (n / 256 % 16), hexd (n / 16 % 16), hexd (n % 16)] : Str).length : Nat) : Int) = some [hexd (n / 4096), hexd (n / 256 % 16), hexd (n / 16 % 16), hexd (n % 16)] :=
                    cutL_to_end ([49, hexd (n / 4096), hexd (n / 256 % 16), hexd (n / 16 % 16), hexd (n % 16)] : Str) 1 (by simp)
                  rw [if_pos hx, c3, if_pos rfl]
                  simp only [units_Quote_j5, or_top n hn, fmt16 n hn, Option.bind_some, hc, w1]
                  rw [catS_ok (by simp)]
                  simp only [Option.bind_some]
                  rw [room_ok (by simp; omega)]
                  rfl
                · have c3 : (decide ((n : Int) < 32) || decide ((n : Int) > 126)) = false := by simp only [Bool.or_eq_false_iff, decide_eq_false_iff_not]; omega
                  have w : IntKind.wrap .u8 (n : Int) = (n : Int) := wrap_u8 (by omega) (by omega)
                  rw [if_neg hx, c3, if_neg (by simp), w, toB_u8 (by omega) (by omega)]
                  simp only [Option.bind_some, w1, Int.toNat_natCast]
                  rw [room_ok (by simp; omega)]
                  rfl
theorem quote_loop (u : Str) (hu : u.length ≤ 100000000) : ∀ (r : List Nat) (k : Nat), (unitsL u).drop k = r → k ≤ (unitsL u).length →
    loopN units_Quote_l1 (r.length + 1) (u, (((unitsL u).length : Nat) : Int), (k : Int), 34 :: quoteL ((unitsL u).take k), ()) = some ((34 :: quoteL (unitsL u)) ++ [34], 0, ())
  | [], k, hr, hk => by
    have hl := unitsL_length u
    have hk2 : k = (unitsL u).length := by have := congrArg List.length hr; simp at this; omega
    have hq := quoteL_length (unitsL u)
    subst hk2
    refine loopN_out ?_
    have hi : ¬ ((((unitsL u).length : Nat) : Int) < (((unitsL u).length : Nat) : Int)) := by omega
    simp only [units_Quote_l1, hi, decide_false, Bool.false_eq_true, if_false, List.take_length]
    rw [room_ok (by simp only [List.length_cons, List.length_nil]; omega)]
    rfl
  | n :: r, k, hr, hk => by
    have hl := unitsL_length u
    have hlt : k < (unitsL u).length := by
      rcases Nat.lt_or_ge k (unitsL u).length with h | h
      · exact h
      · rw [List.drop_of_length_le h] at hr; cases hr
    rw [List.drop_eq_getElem_cons hlt] at hr
    have hn : (unitsL u)[k] = n := by cases hr; rfl
    have h2 : (unitsL u).drop (k + 1) = r := by cases hr; rfl
    have hget : (unitsL u)[k]? = some n := by rw [List.getElem?_eq_getElem hlt, hn]
    have hn2 : n < 65536 := unitsL_lt u n (List.mem_of_getElem? hget)
    have hi : decide ((k : Int) < (((unitsL u).length : Nat) : Int)) = true := by simpa using by omega
    have hat : units_At u (k : Int) = some ((n : Int), ()) := by rw [units_At_eq u _ (by omega), unitAt_nat u k n hget]
    have hq := quoteL_length ((unitsL u).take k)
    rw [List.length_take] at hq
    have hnext : (34 :: quoteL ((unitsL u).take k)) ++ quote1 n = 34 :: quoteL ((unitsL u).take (k + 1)) := by
      rw [List.take_add_one, hget, Option.toList_some, quoteL_snoc]; rfl
    have hstep : units_Quote_l1 (u, (((unitsL u).length : Nat) : Int), (k : Int), 34 :: quoteL ((unitsL u).take k), ()) = some (.inl (u, (((unitsL u).length : Nat) : Int), ((k + 1 : Nat) : Int), 34 :: quoteL ((unitsL u).take (k + 1)), ())) := by
      simp only [units_Quote_l1, hi, if_true, hat, Option.bind_some]
      by_cases h128 : n < 128
      · have c2 : decide ((n : Int) < 128) = true := by simpa using by omega
        simp only [c2, if_true, indexByte_small n h128, Option.bind_some]
        rw [quote_j2 u _ k n _ _ (by omega) hn2 (by simp only [List.length_cons]; omega) (by rw [if_pos h128]), hnext]
      · have c2 : decide ((n : Int) < 128) = false := by simpa using by omega
        simp only [c2, Bool.false_eq_true, if_false]
        rw [quote_j2 u _ k n _ _ (by omega) hn2 (by simp only [List.length_cons]; omega) (by rw [if_neg h128]), hnext]
    rw [List.length_cons, loopN_go hstep, quote_loop u hu r (k + 1) h2 (by omega)]
theorem units_Quote_eq (u : Str) (hu : u.length ≤ 100000000) (he : evenP u = true) : units_Quote u = some (34 :: (quoteL (unitsL u) ++ [34]), 0, ()) := by
  have hl := unitsL_length u
  unfold units_Quote
  rw [units_Check_eq u (by omega)]
  simp only [Option.bind_some, he, Bool.not_true, Bool.false_eq_true, if_false]
  rw [units_Len_eq u (by omega)]
  simp only [Option.bind_some]
  have := quote_loop u hu (unitsL u) 0 rfl (Nat.zero_le _)
  rw [hl] at this
  exact loop_of (n := (unitsL u).length + 1) (by rw [hl]; exact this) (by omega)
theorem quote_length (u : Str) : (34 :: (quoteL (unitsL u) ++ [34]) : Str).length ≤ 3 * u.length + 2 := by
  have := quoteL_length (unitsL u); have := unitsL_length u
  simp only [List.length_cons, List.length_append, List.length_nil]; omega
end Go.D07


/- Chapter 7, plainly: the writer lays down the tokens (begun). -/
namespace Go.D07.W
open Go Go.Gw Go.Dn
set_option linter.unusedSimpArgs false
set_option maxRecDepth 100000

/-- what a writer's function lays down behind what stands there -/
def Wr (f : Bool → List Str → Option (Bool × List Str × Unit)) (t : Bool → List Str) : Prop :=
  ∀ no l, l.length + (t no).length ≤ 274877906944 → f no l = some (no, l ++ t no, ())
theorem lay_eq (t : List Str) (no : Bool) (l : List Str) (h : l.length + t.length ≤ 274877906944) : tree_writer_lay t no l = some (no, l ++ t, ()) := by
  unfold tree_writer_lay
  rw [room_ok h]; rfl
theorem quoteP_eq (s : Str) (hs : s.length ≤ 100000000) (he : evenP s = true) : units_Quote s = some (quoteP s, 0, ()) := by
  unfold quoteP
  rw [units_Quote_eq s hs he]
section
variable {g : Rec_tree_writer_stmts}
theorem at_step {y : Node} {least : Int} (hl : tree_level y = some ((tkN y).lvl, ())) (he : Wr (g.tree_writer_expr y) (tkN y).ex)
    (hin : ∀ no l, l.length + ([40] :: ((tkN y).ex false ++ [[41]]) : List Str).length ≤ 274877906944 → g.tree_writer_inside [40] [41] no l y = some (no, l ++ ([40] :: ((tkN y).ex false ++ [[41]])), y, ())) :
    Wr (tree_writer_at_b g y least) (atT (tkN y) least) := by
  intro no l hlen
  have hx : (tkN y).x = y := by rw [tkN_eq]; rfl
  unfold tree_writer_at_b
  unfold atT at hlen ⊢
  rw [hx] at hlen ⊢
  simp only [re25_eq, hl, Option.bind_some]
  split at hlen
  · rename_i hc
    rw [if_pos hc, if_pos hc, hin no l hlen]; rfl
  · rename_i hc
    rw [if_neg hc, if_neg hc, he no l hlen]; rfl
theorem inside_step {y : Node} {a b : Str} (he : ∀ no l, l.length + ((tkN y).ex no).length ≤ 274877906944 → g.tree_writer_at_1 no l y = some (no, l ++ (tkN y).ex no, y, ())) (no : Bool) (l : List Str)
    (hlen : l.length + (a :: ((tkN y).ex false ++ [b]) : List Str).length ≤ 274877906944) : tree_writer_inside_b g a b no l y = some (no, l ++ (a :: ((tkN y).ex false ++ [b])), y, ()) := by
  simp only [List.length_cons, List.length_append, List.length_nil] at hlen
  unfold tree_writer_inside_b
  rw [lay_eq _ _ _ (by simp only [List.length_cons, List.length_nil]; omega)]
  simp only [Option.bind_some, re25_eq]
  rw [he false _ (by simp only [List.length_append, List.length_cons, List.length_nil]; omega)]
  simp only [Option.bind_some]
  rw [lay_eq _ _ _ (by simp only [List.length_append, List.length_cons, List.length_nil]; omega)]
  simp
theorem head_step {y : Node} {w : Str} (ha : Wr (g.tree_writer_at y 0) (atT (tkN y) 0)) (l : List Str) (hlen : l.length + (headT w (tkN y)).length ≤ 274877906944) :
    tree_writer_head_b g w y false l = some (false, l ++ headT w (tkN y), ()) := by
  simp only [headT, List.length_cons, List.length_append, List.length_nil] at hlen
  unfold tree_writer_head_b
  rw [lay_eq _ _ _ (by simp only [List.length_cons, List.length_nil]; omega)]
  simp only [Option.bind_some, re25_eq]
  rw [ha false _ (by simp only [List.length_append, List.length_cons, List.length_nil]; omega)]
  simp only [Option.bind_some]
  rw [lay_eq _ _ _ (by simp only [List.length_append, List.length_cons, List.length_nil]; omega)]
  simp [headT]
theorem stmts_step (ls : List Node) (hls : ls.length ≤ 1000000000) (hs : ∀ y ∈ ls, ∀ l : List Str, l.length + (tkN y).st.length ≤ 274877906944 → g.tree_writer_stmt y false l = some (false, l ++ (tkN y).st, ())) (l : List Str)
    (hlen : l.length + (stmtsT (tkL ls)).length ≤ 274877906944) : tree_writer_stmts_b g ls false l = some (false, l ++ stmtsT (tkL ls), ()) := by
  have key : ∀ (r : List Node) (i : Nat) (l : List Str), ls.drop i = r → l.length + (stmtsT (tkL r)).length ≤ 274877906944 →
      loopN (tree_writer_stmts_l1 g) (r.length + 1) (ls, ((ls.length : Nat) : Int), (i : Int), false, l, ()) = some (false, l ++ stmtsT (tkL r), ()) := by
    intro r
    induction r with
    | nil =>
      intro i l hr _
      have hi : ¬ ((i : Int) < (ls.length : Int)) := by
        have := congrArg List.length hr; simp at this; omega
      refine loopN_out ?_
      simp [tree_writer_stmts_l1, hi, stmtsT, tkL]
    | cons y r ih =>
      intro i l hr hb
      obtain ⟨h1, h2, h3⟩ := getI_drop hr
      have hi : decide ((i : Int) < (ls.length : Int)) = true := by simpa using by omega
      have hm : y ∈ ls := List.mem_of_mem_drop (hr ▸ List.mem_cons_self)
      have e : stmtsT (tkL (y :: r)) = (tkN y).st ++ stmtsT (tkL r) := by simp [stmtsT, tkL]
      rw [e] at hb ⊢
      rw [List.length_append] at hb
      have w : IntKind.wrap .i64 ((i : Int) + 1) = ((i + 1 : Nat) : Int) := by rw [wrap_i64 (by omega) (by omega)]; rfl
      have hstep : tree_writer_stmts_l1 g (ls, ((ls.length : Nat) : Int), (i : Int), false, l, ()) = some (.inl (ls, ((ls.length : Nat) : Int), ((i + 1 : Nat) : Int), false, l ++ (tkN y).st, ())) := by
        simp only [tree_writer_stmts_l1, hi, if_true, h1, Option.bind_some, re25_eq, hs y hm l (by omega), w]
      rw [List.length_cons, loopN_go hstep, ih (i + 1) _ h2 (by rw [List.length_append]; omega), List.append_assoc]
  exact loop_of (n := ls.length + 1) (by simpa using key ls 0 l rfl hlen) (by omega)
theorem word_step {x : Node} (hx : x.L.length ≤ 1000000000) (ha : ∀ y ∈ x.L, ∀ l : List Str, l.length + (atT (tkN y) 0 false).length ≤ 274877906944 → g.tree_writer_at y 0 false l = some (false, l ++ atT (tkN y) 0 false, ())) (l : List Str)
    (hlen : l.length + ((tkL x.L).flatMap (fun k => atT k 0 false) ++ [[59]]).length ≤ 274877906944) :
    Lp.loop (tree_writer_word_l2 g) (x.L, ((x.L.length : Nat) : Int), 0, false, l, ()) = some (false, l ++ ((tkL x.L).flatMap (fun k => atT k 0 false) ++ [[59]]), ()) := by
  have key : ∀ (r : List Node) (i : Nat) (l : List Str), x.L.drop i = r → l.length + ((tkL r).flatMap (fun k => atT k 0 false) ++ [[59]]).length ≤ 274877906944 →
      loopN (tree_writer_word_l2 g) (r.length + 1) (x.L, ((x.L.length : Nat) : Int), (i : Int), false, l, ()) = some (false, l ++ ((tkL r).flatMap (fun k => atT k 0 false) ++ [[59]]), ()) := by
    intro r
    induction r with
    | nil =>
      intro i l hr hb
      have hi : ¬ ((i : Int) < (x.L.length : Int)) := by
        have := congrArg List.length hr; simp at this; omega
      refine loopN_out ?_
      simp only [tkL, List.flatMap_nil, List.nil_append] at hb ⊢
      simp only [tree_writer_word_l2, hi, decide_false, Bool.false_eq_true, if_false]
      rw [lay_eq _ _ _ hb]; rfl
    | cons y r ih =>
      intro i l hr hb
      obtain ⟨h1, h2, h3⟩ := getI_drop hr
      have hi : decide ((i : Int) < (x.L.length : Int)) = true := by simpa using by omega
      have hm : y ∈ x.L := List.mem_of_mem_drop (hr ▸ List.mem_cons_self)
      have e : (tkL (y :: r)).flatMap (fun k => atT k 0 false) ++ [[59]] = atT (tkN y) 0 false ++ ((tkL r).flatMap (fun k => atT k 0 false) ++ [[59]]) := by simp [tkL]
      rw [e] at hb ⊢
      rw [List.length_append] at hb
      have w : IntKind.wrap .i64 ((i : Int) + 1) = ((i + 1 : Nat) : Int) := by rw [wrap_i64 (by omega) (by omega)]; rfl
      have hstep : tree_writer_word_l2 g (x.L, ((x.L.length : Nat) : Int), (i : Int), false, l, ()) = some (.inl (x.L, ((x.L.length : Nat) : Int), ((i + 1 : Nat) : Int), false, l ++ atT (tkN y) 0 false, ())) := by
        simp only [tree_writer_word_l2, hi, if_true, h1, Option.bind_some, re25_eq, ha y hm l (by omega), w]
      rw [List.length_cons, loopN_go hstep, ih (i + 1) _ h2 (by rw [List.length_append]; omega), List.append_assoc]
  exact loop_of (n := x.L.length + 1) (by simpa using key x.L 0 l rfl hlen) (by omega)
def restT (f : Tk → List Str) (ks : List Tk) : List Str := ks.flatMap fun q => [44] :: f q
theorem list_step (ls : List Node) (hls : ls.length ≤ 1000000000)
    (hit : ∀ y ∈ ls, ∀ (i : Nat) (l : List Str), i < ls.length → l.length + (itemT false (tkN y)).length ≤ 274877906944 → tree_writer_list_j2 g ls ((ls.length : Nat) : Int) (i : Int) false l y = some (.inl (ls, ((ls.length : Nat) : Int), ((i + 1 : Nat) : Int), false, l ++ itemT false (tkN y), ())))
    (l : List Str) (hlen : l.length + (commas (itemT false) (tkL ls)).length ≤ 274877906944) : tree_writer_list_b g ls false l = some (false, l ++ commas (itemT false) (tkL ls), ()) := by
  have key : ∀ (r : List Node) (i : Nat) (l : List Str), ls.drop i = r → 0 < i → l.length + (restT (itemT false) (tkL r)).length ≤ 274877906944 →
      loopN (tree_writer_list_l1 g) (r.length + 1) (ls, ((ls.length : Nat) : Int), (i : Int), false, l, ()) = some (false, l ++ restT (itemT false) (tkL r), ()) := by
    intro r
    induction r with
    | nil =>
      intro i l hr _ _
      have hi : ¬ ((i : Int) < (ls.length : Int)) := by
        have := congrArg List.length hr; simp at this; omega
      refine loopN_out ?_
      simp [tree_writer_list_l1, hi, restT, tkL]
    | cons y r ih =>
      intro i l hr h0 hb
      obtain ⟨h1, h2, h3⟩ := getI_drop hr
      have hi : decide ((i : Int) < (ls.length : Int)) = true := by simpa using by omega
      have hp : decide ((i : Int) > 0) = true := by simpa using by omega
      have hm : y ∈ ls := List.mem_of_mem_drop (hr ▸ List.mem_cons_self)
      have e : restT (itemT false) (tkL (y :: r)) = [44] :: (itemT false (tkN y) ++ restT (itemT false) (tkL r)) := by simp [restT, tkL]
      rw [e] at hb ⊢
      simp only [List.length_cons, List.length_append] at hb
      have hstep : tree_writer_list_l1 g (ls, ((ls.length : Nat) : Int), (i : Int), false, l, ()) = some (.inl (ls, ((ls.length : Nat) : Int), ((i + 1 : Nat) : Int), false, (l ++ [[44]]) ++ itemT false (tkN y), ())) := by
        simp only [tree_writer_list_l1, hi, if_true, h1, hp, Option.bind_some, re25_eq]
        rw [lay_eq _ _ _ (by simp only [List.length_cons, List.length_nil]; omega)]
        simp only [Option.bind_some]
        exact hit y hm i _ h3 (by simp only [List.length_append, List.length_cons, List.length_nil]; omega)
      rw [List.length_cons, loopN_go hstep, ih (i + 1) _ h2 (by omega) (by simp only [List.length_append, List.length_cons, List.length_nil]; omega)]
      simp
  refine loop_of (n := ls.length + 1) ?_ (by omega)
  cases hl : ls with
  | nil =>
    refine loopN_out ?_
    simp [tree_writer_list_l1, commas, tkL]
  | cons y r =>
    rw [hl] at hlen
    have e : commas (itemT false) (tkL (y :: r)) = itemT false (tkN y) ++ restT (itemT false) (tkL r) := by simp [commas, restT, tkL]
    rw [e] at hlen ⊢
    rw [List.length_append] at hlen
    rw [← hl]
    have hpos : 0 < ls.length := by rw [hl]; simp
    have hi : decide ((0 : Int) < (ls.length : Int)) = true := by simpa using by omega
    have h1 : getI ls 0 = some y := by rw [hl]; rfl
    have h2 : ls.drop 1 = r := by rw [hl]; rfl
    have hstep : tree_writer_list_l1 g (ls, ((ls.length : Nat) : Int), 0, false, l, ()) = some (.inl (ls, ((ls.length : Nat) : Int), ((0 + 1 : Nat) : Int), false, l ++ itemT false (tkN y), ())) := by
      simp only [tree_writer_list_l1, hi, if_true, h1, Option.bind_some, re25_eq]
      exact hit y (by rw [hl]; exact List.mem_cons_self) 0 l hpos (by omega)
    have hn : ls.length = r.length + 1 := by rw [hl]; rfl
    rw [loopN_go hstep, hn]
    have := key r (0 + 1) (l ++ itemT false (tkN y)) h2 (by omega) (by rw [List.length_append]; omega)
    rw [hn] at this
    rw [this, List.append_assoc]
end
end Go.D07.W


/- Chapter 7, plainly: what is written of a node, by kind. -/
namespace Go.D07.W
open Go Go.Gw Go.Dn
set_option linter.unusedSimpArgs false
set_option maxRecDepth 100000

theorem ex_1 {x : Node} (h : x.Kind = 1) (no : Bool) : (tkN x).ex no = [Lib.itoa x.Num] := by rw [tkN_eq]; show exT x _ _ no = _; unfold exT; rw [h]; rfl
theorem ex_2 {x : Node} (h : x.Kind = 2) (no : Bool) : (tkN x).ex no = [quoteP x.Text] := by rw [tkN_eq]; show exT x _ _ no = _; unfold exT; rw [h]; rfl
theorem ex_3 {x : Node} (h : x.Kind = 3) (no : Bool) : (tkN x).ex no = [x.Name] := by rw [tkN_eq]; show exT x _ _ no = _; unfold exT; rw [h]; rfl
theorem ex_4 {x : Node} (h : x.Kind = 4) (no : Bool) : (tkN x).ex no = [[116, 104, 105, 115]] := by rw [tkN_eq]; show exT x _ _ no = _; unfold exT; rw [h]; rfl
theorem ex_5 {x : Node} (h : x.Kind = 5) (no : Bool) : (tkN x).ex no = [[110, 117, 108, 108]] := by rw [tkN_eq]; show exT x _ _ no = _; unfold exT; rw [h]; rfl
theorem ex_6 {x : Node} (h : x.Kind = 6) (no : Bool) : (tkN x).ex no = [Lib.formatBool (x.Num == 1)] := by rw [tkN_eq]; show exT x _ _ no = _; unfold exT; rw [h]; rfl
theorem ex_7 {x : Node} (h : x.Kind = 7) (no : Bool) : (tkN x).ex no = [91] :: (commas (itemT false) (tkL x.L) ++ [[93]]) := by rw [tkN_eq]; show exT x _ _ no = _; unfold exT; rw [h]; rfl
theorem ex_8 {x : Node} (h : x.Kind = 8) (no : Bool) : (tkN x).ex no = [123] :: (commas (itemT false) (tkL x.L) ++ [[125]]) := by rw [tkN_eq]; show exT x _ _ no = _; unfold exT; rw [h]; rfl
theorem ex_10 {x : Node} (h : x.Kind = 10) (no : Bool) : (tkN x).ex no = funcT x (tkL x.L) := by rw [tkN_eq]; show exT x _ _ no = _; unfold exT; rw [h]; rfl
theorem ex_11 {x : Node} (h : x.Kind = 11) (no : Bool) : (tkN x).ex no = k0 (tkL x.L) (fun k => atT k 11 no) ++ [[46], x.Name] := by rw [tkN_eq]; show exT x _ _ no = _; unfold exT; rw [h]; rfl
theorem ex_12 {x : Node} (h : x.Kind = 12) (no : Bool) : (tkN x).ex no = k0 (tkL x.L) (fun k => atT k 11 no) ++ ([91] :: (k1 (tkL x.L) (fun k => atT k 0 false) ++ [[93]])) := by rw [tkN_eq]; show exT x _ _ no = _; unfold exT; rw [h]; rfl
theorem ex_13 {x : Node} (h : x.Kind = 13) (no : Bool) : (tkN x).ex no = k0 (tkL x.L) (fun k => atT k 11 no) ++ ([40] :: (commas (itemT false) (tkL x.L).tail ++ [[41]])) := by rw [tkN_eq]; show exT x _ _ no = _; unfold exT; rw [h]; rfl
theorem ex_14 {x : Node} (h : x.Kind = 14) (no : Bool) : (tkN x).ex no = [110, 101, 119] :: (k0 (tkL x.L) (fun k => atT k 12 no) ++ ([40] :: (commas (itemT false) (tkL x.L).tail ++ [[41]]))) := by rw [tkN_eq]; show exT x _ _ no = _; unfold exT; rw [h]; rfl
theorem ex_15 {x : Node} (h : x.Kind = 15) (no : Bool) : (tkN x).ex no = x.Name :: k0 (tkL x.L) fun k => atT k 9 no := by rw [tkN_eq]; show exT x _ _ no = _; unfold exT; rw [h]; rfl
theorem ex_16 {x : Node} (h : x.Kind = 16) (no : Bool) : (tkN x).ex no = (if (x.Num == 1) = true then x.Name :: k0 (tkL x.L) fun k => atT k 11 no else k0 (tkL x.L) (fun k => atT k 11 no) ++ [x.Name]) := by rw [tkN_eq]; show exT x _ _ no = _; unfold exT; rw [h]; rfl
theorem ex_19 {x : Node} (h : x.Kind = 19) (no : Bool) : (tkN x).ex no = k0 (tkL x.L) (fun k => atT k 3 no) ++ ([63] :: (k1 (tkL x.L) (fun k => atT k 1 false) ++ ([58] :: k2 (tkL x.L) fun k => atT k 1 no))) := by rw [tkN_eq]; show exT x _ _ no = _; unfold exT; rw [h]; rfl
theorem ex_20 {x : Node} (h : x.Kind = 20) (no : Bool) : (tkN x).ex no = k0 (tkL x.L) (fun k => atT k 11 no) ++ (x.Name :: k1 (tkL x.L) fun k => atT k 1 no) := by rw [tkN_eq]; show exT x _ _ no = _; unfold exT; rw [h]; rfl
theorem ex_21 {x : Node} (h : x.Kind = 21) (no : Bool) : (tkN x).ex no = k0 (tkL x.L) (fun k => atT k 0 no) ++ ([44] :: k1 (tkL x.L) fun k => atT k 1 no) := by rw [tkN_eq]; show exT x _ _ no = _; unfold exT; rw [h]; rfl
theorem ex_17 {x : Node} (h : x.Kind = 17) (no : Bool) : (tkN x).ex no = k0 (tkL x.L) (fun k => atT k (tkN x).lvl no) ++ (x.Name :: k1 (tkL x.L) fun k => atT k ((tkN x).lvl + 1) no) := by rw [tkN_eq]; show exT x _ _ no = _; unfold exT; rw [h]; rfl
theorem ex_18 {x : Node} (h : x.Kind = 18) (no : Bool) : (tkN x).ex no = k0 (tkL x.L) (fun k => atT k (tkN x).lvl no) ++ (x.Name :: k1 (tkL x.L) fun k => atT k ((tkN x).lvl + 1) no) := by rw [tkN_eq]; show exT x _ _ no = _; unfold exT; rw [h]; rfl
theorem st_22 {x : Node} (h : x.Kind = 22) : (tkN x).st = ([118, 97, 114] :: commas (declT false) (tkL x.L)) ++ [[59]] := by rw [tkN_eq]; show stT x _ = _; unfold stT; rw [h]; rfl
theorem st_24 {x : Node} (h : x.Kind = 24) : (tkN x).st = bareT (k0 (tkL x.L) fun k => atT k 0 false) ++ [[59]] := by rw [tkN_eq]; show stT x _ = _; unfold stT; rw [h]; rfl
theorem st_25 {x : Node} (h : x.Kind = 25) : (tkN x).st = [123] :: (stmtsT (tkL x.L) ++ [[125]]) := by rw [tkN_eq]; show stT x _ = _; unfold stT; rw [h]; rfl
theorem st_26 {x : Node} (h : x.Kind = 26) : (tkN x).st = k0 (tkL x.L) (headT [105, 102]) ++ (k1 (tkL x.L) Tk.st ++ k2 (tkL x.L) fun k => [101, 108, 115, 101] :: k.st) := by rw [tkN_eq]; show stT x _ = _; unfold stT; rw [h]; rfl
theorem st_27 {x : Node} (h : x.Kind = 27) : (tkN x).st = k0 (tkL x.L) (headT [119, 104, 105, 108, 101]) ++ k1 (tkL x.L) Tk.st := by rw [tkN_eq]; show stT x _ = _; unfold stT; rw [h]; rfl
theorem st_28 {x : Node} (h : x.Kind = 28) : (tkN x).st = [100, 111] :: (k0 (tkL x.L) Tk.st ++ (k1 (tkL x.L) (headT [119, 104, 105, 108, 101]) ++ [[59]])) := by rw [tkN_eq]; show stT x _ = _; unfold stT; rw [h]; rfl
theorem st_29 {x : Node} (h : x.Kind = 29) : (tkN x).st = [102, 111, 114] :: [40] :: (k0 (tkL x.L) (fun k => beginT k 0 true) ++ ([59] :: (k1 (tkL x.L) (fun k => beginT k 0 false) ++ ([59] :: (k2 (tkL x.L) (fun k => beginT k 0 false) ++ ([41] :: k3 (tkL x.L) Tk.st)))))) := by rw [tkN_eq]; show stT x _ = _; unfold stT; rw [h]; rfl
theorem st_30 {x : Node} (h : x.Kind = 30) : (tkN x).st = [102, 111, 114] :: [40] :: (k0 (tkL x.L) (fun k => beginT k 11 true) ++ ([105, 110] :: (k1 (tkL x.L) (fun k => atT k 0 false) ++ ([41] :: k2 (tkL x.L) Tk.st)))) := by rw [tkN_eq]; show stT x _ = _; unfold stT; rw [h]; rfl
theorem st_35 {x : Node} (h : x.Kind = 35) : (tkN x).st = [116, 114, 121] :: (k0 (tkL x.L) Tk.st ++ (k1 (tkL x.L) (fun k => if (k.x.Kind == 25) = true then [99, 97, 116, 99, 104] :: [40] :: x.Name :: [41] :: k.st else []) ++ k2 (tkL x.L) fun k => if (k.x.Kind == 25) = true then [102, 105, 110, 97, 108, 108, 121] :: k.st else [])) := by rw [tkN_eq]; show stT x _ = _; unfold stT; rw [h]; rfl
theorem st_36 {x : Node} (h : x.Kind = 36) : (tkN x).st = k0 (tkL x.L) (headT [115, 119, 105, 116, 99, 104]) ++ ([123] :: (stmtsT (tkL x.L).tail ++ [[125]])) := by rw [tkN_eq]; show stT x _ = _; unfold stT; rw [h]; rfl
theorem st_37 {x : Node} (h : x.Kind = 37) : (tkN x).st = k0 (tkL x.L) (fun k => (if (k.x.Kind != 42) = true then [99, 97, 115, 101] else [100, 101, 102, 97, 117, 108, 116]) :: beginT k 0 false) ++ ([58] :: stmtsT (tkL x.L).tail) := by rw [tkN_eq]; show stT x _ = _; unfold stT; rw [h]; rfl
theorem st_38 {x : Node} (h : x.Kind = 38) : (tkN x).st = x.Name :: [58] :: k0 (tkL x.L) Tk.st := by rw [tkN_eq]; show stT x _ = _; unfold stT; rw [h]; rfl
theorem st_39 {x : Node} (h : x.Kind = 39) : (tkN x).st = funcT x (tkL x.L) := by rw [tkN_eq]; show stT x _ = _; unfold stT; rw [h]; rfl
theorem st_31 {x : Node} (h : x.Kind = 31) : (tkN x).st = wordT x ++ ((tkL x.L).flatMap (fun k => atT k 0 false) ++ [[59]]) := by rw [tkN_eq]; show stT x _ = _; unfold stT; rw [h]; rfl
theorem st_32 {x : Node} (h : x.Kind = 32) : (tkN x).st = wordT x ++ ((tkL x.L).flatMap (fun k => atT k 0 false) ++ [[59]]) := by rw [tkN_eq]; show stT x _ = _; unfold stT; rw [h]; rfl
theorem st_33 {x : Node} (h : x.Kind = 33) : (tkN x).st = wordT x ++ ((tkL x.L).flatMap (fun k => atT k 0 false) ++ [[59]]) := by rw [tkN_eq]; show stT x _ = _; unfold stT; rw [h]; rfl
theorem st_34 {x : Node} (h : x.Kind = 34) : (tkN x).st = wordT x ++ ((tkL x.L).flatMap (fun k => atT k 0 false) ++ [[59]]) := by rw [tkN_eq]; show stT x _ = _; unfold stT; rw [h]; rfl
theorem st_40 {x : Node} (h : x.Kind = 40) : (tkN x).st = wordT x ++ ((tkL x.L).flatMap (fun k => atT k 0 false) ++ [[59]]) := by rw [tkN_eq]; show stT x _ = _; unfold stT; rw [h]; rfl
theorem ex_no {x : Node} (no : Bool) : (tkN x).ex no = exT x (tkN x).lvl (tkL x.L) no := by rw [tkN_eq]; rfl
theorem kids_x (x : Node) : (tkN x).x = x := by rw [tkN_eq]; rfl
theorem kids_k (x : Node) : (tkN x).kids = tkL x.L := by rw [tkN_eq]; rfl
theorem tk0 (a : Node) (r : List Node) (f : Tk → List Str) : k0 (tkL (a :: r)) f = f (tkN a) := by simp [tkL, k0]
theorem tk1 (a b : Node) (r : List Node) (f : Tk → List Str) : k1 (tkL (a :: b :: r)) f = f (tkN b) := by simp [tkL, k1]
theorem tk2 (a b c : Node) (r : List Node) (f : Tk → List Str) : k2 (tkL (a :: b :: c :: r)) f = f (tkN c) := by simp [tkL, k2]
theorem tk3 (a b c d : Node) (r : List Node) (f : Tk → List Str) : k3 (tkL (a :: b :: c :: d :: r)) f = f (tkN d) := by simp [tkL, k3]
theorem tk2n (a b : Node) (f : Tk → List Str) : k2 (tkL [a, b]) f = [] := by simp [tkL, k2]
theorem tkT (a : Node) (r : List Node) : (tkL (a :: r)).tail = tkL r := by simp [tkL]
/-- with commas between, over anything -/
def commaT {α : Type} (f : α → List Str) : List α → List Str
  | [] => []
  | y :: r => f y ++ r.flatMap fun q => [44] :: f q
theorem commas_eq (f : Tk → List Str) (ls : List Node) : commas f (tkL ls) = commaT (fun y => f (tkN y)) ls := by
  cases ls with
  | nil => simp [tkL, commas, commaT]
  | cons y r => simp [tkL, commas, commaT, tkL_map, List.flatMap_map]
theorem names_eq (ns : List Str) : namesT ns = commaT (fun s => [s]) ns := by
  cases ns <;> rfl
theorem comma_loop {S R α : Type} (step : S → Option (S ⊕ R)) (mk : Int → List Str → S) (xs : List α) (f : α → List Str) (tl : List Str) (fin : List Str → R) (hlen : xs.length ≤ 1000000000)
    (h0 : ∀ y r, xs = y :: r → ∀ l : List Str, l.length + (f y).length ≤ 274877906944 → step (mk 0 l) = some (.inl (mk 1 (l ++ f y))))
    (hs : ∀ (i : Nat) (y : α), 0 < i → y ∈ xs → getI xs (i : Int) = some y → decide ((i : Int) < ((xs.length : Nat) : Int)) = true → decide ((i : Int) > 0) = true → IntKind.wrap .i64 ((i : Int) + 1) = ((i + 1 : Nat) : Int) → ∀ l : List Str, l.length + (f y).length + 1 ≤ 274877906944 → step (mk (i : Int) l) = some (.inl (mk ((i + 1 : Nat) : Int) (l ++ [44] :: f y))))
    (he : decide (((xs.length : Nat) : Int) < ((xs.length : Nat) : Int)) = false → ∀ l : List Str, l.length + tl.length ≤ 274877906944 → step (mk ((xs.length : Nat) : Int) l) = some (.inr (fin (l ++ tl))))
    (l : List Str) (hb : l.length + (commaT f xs ++ tl).length ≤ 274877906944) : Lp.loop step (mk 0 l) = some (fin (l ++ (commaT f xs ++ tl))) := by
  have he := he (by simp)
  have key : ∀ (r : List α) (i : Nat) (l : List Str), xs.drop i = r → 0 < i → i ≤ xs.length → l.length + ((r.flatMap fun q => [44] :: f q) ++ tl).length ≤ 274877906944 → loopN step (r.length + 1) (mk (i : Int) l) = some (fin (l ++ ((r.flatMap fun q => [44] :: f q) ++ tl))) := by
    intro r
    induction r with
    | nil =>
      intro i l hr _ hi hb
      have : i = xs.length := by have := congrArg List.length hr; simp at this; omega
      subst this
      simp only [List.flatMap_nil, List.nil_append] at hb ⊢
      exact loopN_out (he l hb)
    | cons y r ih =>
      intro i l hr hi0 hi hb
      obtain ⟨h1, h2, h3⟩ := getI_drop hr
      have hm : y ∈ xs := List.mem_of_mem_drop (hr ▸ List.mem_cons_self)
      have e : ((y :: r).flatMap fun q => [44] :: f q) ++ tl = ([44] :: f y) ++ ((r.flatMap fun q => [44] :: f q) ++ tl) := by simp
      rw [e] at hb ⊢
      rw [List.length_append, List.length_cons] at hb
      have hstep := hs i y hi0 hm h1 (by simpa using by omega) (by simpa using by omega) (by rw [wrap_i64 (by omega) (by omega)]; rfl) l (by omega)
      rw [List.length_cons, loopN_go hstep, ih (i + 1) _ h2 (by omega) (by omega) (by rw [List.length_append, List.length_cons]; omega), List.append_assoc]
  refine loop_of (n := xs.length + 1) ?_ (by omega)
  cases hx : xs with
  | nil =>
    rw [hx] at he hb
    exact loopN_out (he l (by simpa [commaT] using hb))
  | cons y r =>
    rw [hx] at hb
    have e : commaT f (y :: r) ++ tl = f y ++ ((r.flatMap fun q => [44] :: f q) ++ tl) := by simp [commaT]
    rw [e] at hb ⊢
    rw [List.length_append] at hb
    have hn : xs.length = r.length + 1 := by rw [hx]; rfl
    have := key r 1 (l ++ f y) (by rw [hx]; rfl) (by omega) (by omega) (by rw [List.length_append]; omega)
    rw [loopN_go (h0 y r hx l (by omega)), ← List.append_assoc l]
    exact this
end Go.D07.W


/- Chapter 7, plainly: the writer's steps, and what is right of nodes that are not deep. -/
namespace Go.D07.W
open Go Go.Gw Go.Dn
set_option linter.unusedSimpArgs false
set_option maxRecDepth 100000

def itemOK (y : Node) : Bool := oneP y 101 || oneP y 112
def stOK (y : Node) : Bool := oneP y 120 || oneP y 107
def beginOK (y : Node) : Bool := oneP y 118
/-- what is right of nodes that are not deep -/
structure GoodW (g : Rec_tree_writer_stmts) (n : Nat) : Prop where
  at_ : ∀ (y : Node) (least : Int), 20 * deepN y + 10 ≤ n → oneP y 101 = true → bulkN y ≤ 2097152 → Wr (g.tree_writer_at y least) (atT (tkN y) least)
  inside : ∀ (y : Node) (a b : Str) (no : Bool) (l : List Str), 20 * deepN y + 9 ≤ n → oneP y 101 = true → bulkN y ≤ 2097152 → l.length + (a :: ((tkN y).ex false ++ [b]) : List Str).length ≤ 274877906944 → g.tree_writer_inside a b no l y = some (no, l ++ (a :: ((tkN y).ex false ++ [b])), y, ())
  at1 : ∀ (y : Node) (no : Bool) (l : List Str), 20 * deepN y + 8 ≤ n → oneP y 101 = true → bulkN y ≤ 2097152 → l.length + ((tkN y).ex no).length ≤ 274877906944 → g.tree_writer_at_1 no l y = some (no, l ++ (tkN y).ex no, y, ())
  expr : ∀ (y : Node), 20 * deepN y + 7 ≤ n → oneP y 101 = true → bulkN y ≤ 2097152 → Wr (g.tree_writer_expr y) (tkN y).ex
  arr : ∀ (y : Node) (a b : Str) (no : Bool) (l : List Str), 20 * deepN y + 6 ≤ n → (∀ k ∈ y.L, itemOK k = true) → bulkN y ≤ 2097152 → l.length + (a :: (commas (itemT false) (tkL y.L) ++ [b]) : List Str).length ≤ 274877906944 → g.tree_writer_inside_v2 a b no l y = some (no, l ++ (a :: (commas (itemT false) (tkL y.L) ++ [b])), y, ())
  arr1 : ∀ (y : Node) (l : List Str), 20 * deepN y + 5 ≤ n → (∀ k ∈ y.L, itemOK k = true) → bulkN y ≤ 2097152 → l.length + (commas (itemT false) (tkL y.L)).length ≤ 274877906944 → g.tree_writer_expr_1 false l y = some (false, l ++ commas (itemT false) (tkL y.L), y, ())
  obj : ∀ (y : Node) (a b : Str) (no : Bool) (l : List Str), 20 * deepN y + 6 ≤ n → (∀ k ∈ y.L, itemOK k = true) → bulkN y ≤ 2097152 → l.length + (a :: (commas (itemT false) (tkL y.L) ++ [b]) : List Str).length ≤ 274877906944 → g.tree_writer_inside_v3 a b no l y = some (no, l ++ (a :: (commas (itemT false) (tkL y.L) ++ [b])), y, ())
  obj1 : ∀ (y : Node) (l : List Str), 20 * deepN y + 5 ≤ n → (∀ k ∈ y.L, itemOK k = true) → bulkN y ≤ 2097152 → l.length + (commas (itemT false) (tkL y.L)).length ≤ 274877906944 → g.tree_writer_expr_2 false l y = some (false, l ++ commas (itemT false) (tkL y.L), y, ())
  list : ∀ (ls : List Node) (l : List Str), 20 * deepL ls + 12 ≤ n → (∀ k ∈ ls, itemOK k = true) → bulkL ls ≤ 2097152 → l.length + (commas (itemT false) (tkL ls)).length ≤ 274877906944 → g.tree_writer_list ls false l = some (false, l ++ commas (itemT false) (tkL ls), ())
  func : ∀ (y : Node), 20 * deepN y + 6 ≤ n → (∀ k ∈ y.L, stOK k = true) → bulkN y ≤ 2097152 → Wr (g.tree_writer_function y) (fun _ => funcT y (tkL y.L))
  body : ∀ (y : Node) (a b : Str) (no : Bool) (l : List Str), 20 * deepN y + 5 ≤ n → (∀ k ∈ y.L, stOK k = true) → bulkN y ≤ 2097152 → l.length + (a :: (stmtsT (tkL y.L) ++ [b]) : List Str).length ≤ 274877906944 → g.tree_writer_inside_v4 a b no l y = some (no, l ++ (a :: (stmtsT (tkL y.L) ++ [b])), y, ())
  body1 : ∀ (y : Node) (l : List Str), 20 * deepN y + 4 ≤ n → (∀ k ∈ y.L, stOK k = true) → bulkN y ≤ 2097152 → l.length + (stmtsT (tkL y.L)).length ≤ 274877906944 → g.tree_writer_function_1 false l y = some (false, l ++ stmtsT (tkL y.L), y, ())
  op : ∀ (y : Node), 20 * deepN y + 6 ≤ n → 11 ≤ y.Kind → oneP y 101 = true → bulkN y ≤ 2097152 → Wr (g.tree_writer_operation y) (tkN y).ex
  idx : ∀ (x y : Node) (r : List Node) (a b : Str) (no : Bool) (l : List Str), 20 * deepN y + 12 ≤ n → oneP y 101 = true → bulkN y ≤ 2097152 → l.length + (a :: (atT (tkN y) 0 false ++ [b]) : List Str).length ≤ 274877906944 → g.tree_writer_inside_v5 a b no l (x :: y :: r) = some (no, l ++ (a :: (atT (tkN y) 0 false ++ [b])), x :: y :: r, ())
  idx1 : ∀ (x y : Node) (r : List Node) (l : List Str), 20 * deepN y + 11 ≤ n → oneP y 101 = true → bulkN y ≤ 2097152 → l.length + (atT (tkN y) 0 false).length ≤ 274877906944 → g.tree_writer_operation_1 false l (x :: y :: r) = some (false, l ++ atT (tkN y) 0 false, x :: y :: r, ())
  arg : ∀ (x : Node) (r : List Node) (a b : Str) (no : Bool) (l : List Str), 20 * deepL r + 14 ≤ n → (∀ k ∈ r, itemOK k = true) → bulkL (x :: r) ≤ 2097152 → l.length + (a :: (commas (itemT false) (tkL r) ++ [b]) : List Str).length ≤ 274877906944 → g.tree_writer_inside_v6 a b no l (x :: r) = some (no, l ++ (a :: (commas (itemT false) (tkL r) ++ [b])), x :: r, ())
  arg1 : ∀ (x : Node) (r : List Node) (l : List Str), 20 * deepL r + 13 ≤ n → (∀ k ∈ r, itemOK k = true) → bulkL (x :: r) ≤ 2097152 → l.length + (commas (itemT false) (tkL r)).length ≤ 274877906944 → g.tree_writer_operation_2 false l (x :: r) = some (false, l ++ commas (itemT false) (tkL r), x :: r, ())
  thn : ∀ (x y : Node) (r : List Node) (a b : Str) (no : Bool) (l : List Str), 20 * deepN y + 12 ≤ n → oneP y 101 = true → bulkN y ≤ 2097152 → l.length + (a :: (atT (tkN y) 1 false ++ [b]) : List Str).length ≤ 274877906944 → g.tree_writer_inside_v7 a b no l (x :: y :: r) = some (no, l ++ (a :: (atT (tkN y) 1 false ++ [b])), x :: y :: r, ())
  thn1 : ∀ (x y : Node) (r : List Node) (l : List Str), 20 * deepN y + 11 ≤ n → oneP y 101 = true → bulkN y ≤ 2097152 → l.length + (atT (tkN y) 1 false).length ≤ 274877906944 → g.tree_writer_operation_3 false l (x :: y :: r) = some (false, l ++ atT (tkN y) 1 false, x :: y :: r, ())
  head : ∀ (y : Node) (w : Str) (l : List Str), 20 * deepN y + 11 ≤ n → oneP y 101 = true → bulkN y ≤ 2097152 → l.length + (headT w (tkN y)).length ≤ 274877906944 → g.tree_writer_head w y false l = some (false, l ++ headT w (tkN y), ())
  begin_ : ∀ (y : Node) (least : Int), 20 * deepN y + 11 ≤ n → beginOK y = true → bulkN y ≤ 2097152 → Wr (g.tree_writer_begin y least) (beginT (tkN y) least)
  loop : ∀ (y : Node) (l : List Str), 20 * deepN y + 12 ≤ n → 27 ≤ y.Kind → y.Kind ≤ 30 → mayN y = true → bulkN y ≤ 2097152 → l.length + (tkN y).st.length ≤ 274877906944 → g.tree_writer_loop y false l = some (false, l ++ (tkN y).st, ())
  word : ∀ (y : Node) (l : List Str), 20 * deepN y + 12 ≤ n → (y.Kind = 31 ∨ y.Kind = 32 ∨ y.Kind = 33 ∨ y.Kind = 34 ∨ y.Kind = 40) → mayN y = true → bulkN y ≤ 2097152 → l.length + (tkN y).st.length ≤ 274877906944 → g.tree_writer_word y false l = some (false, l ++ (tkN y).st, ())
  stmt : ∀ (y : Node) (l : List Str), 20 * deepN y + 14 ≤ n → stOK y = true → bulkN y ≤ 2097152 → l.length + (tkN y).st.length ≤ 274877906944 → g.tree_writer_stmt y false l = some (false, l ++ (tkN y).st, ())
  stmts : ∀ (ls : List Node) (l : List Str), 20 * deepL ls + 15 ≤ n → (∀ k ∈ ls, stOK k = true) → bulkL ls ≤ 2097152 → l.length + (stmtsT (tkL ls)).length ≤ 274877906944 → g.tree_writer_stmts ls false l = some (false, l ++ stmtsT (tkL ls), ())
theorem one_may {y : Node} {c : UInt8} (h : oneP y c = true) : mayN y = true := by
  unfold oneP at h; rw [Bool.and_eq_true] at h; exact h.2
theorem one_101 {y : Node} (h : oneP y 101 = true) : exprK y.Kind = true ∧ mayN y = true := by
  rw [one101, Bool.and_eq_true] at h; exact h
theorem tgt_101 {y : Node} (h : oneP y 116 = true) : oneP y 101 = true := by
  have h2 := one_may h
  have h1 : tgtK y.Kind = true := by
    unfold oneP at h; rw [Bool.and_eq_true] at h; exact h.1
  rw [one101, h2, Bool.and_true]
  simp only [tgtK, Bool.or_eq_true, beq_iff_eq] at h1
  rcases h1 with (h | h) | h <;> rw [h] <;> rfl
theorem match1 {c : UInt8} {l : List Node} (h : matchS [c] none l = true) : ∃ a, l = [a] ∧ oneP a c = true := by
  rcases l with _ | ⟨a, _ | ⟨b, r⟩⟩ <;> simp [matchS] at h
  exact ⟨a, rfl, h⟩
theorem match2 {c d : UInt8} {l : List Node} (h : matchS [c, d] none l = true) : ∃ a b, l = [a, b] ∧ oneP a c = true ∧ oneP b d = true := by
  rcases l with _ | ⟨a, _ | ⟨b, _ | ⟨q, r⟩⟩⟩ <;> simp [matchS] at h
  exact ⟨a, b, rfl, h⟩
theorem match3 {c d e : UInt8} {l : List Node} (h : matchS [c, d, e] none l = true) : ∃ a b q, l = [a, b, q] ∧ oneP a c = true ∧ oneP b d = true ∧ oneP q e = true := by
  rcases l with _ | ⟨a, _ | ⟨b, _ | ⟨q, _ | ⟨q2, r⟩⟩⟩⟩ <;> simp [matchS] at h
  exact ⟨a, b, q, rfl, h⟩
theorem match4 {c d e f : UInt8} {l : List Node} (h : matchS [c, d, e, f] none l = true) : ∃ a b q s, l = [a, b, q, s] ∧ oneP a c = true ∧ oneP b d = true ∧ oneP q e = true ∧ oneP s f = true := by
  rcases l with _ | ⟨a, _ | ⟨b, _ | ⟨q, _ | ⟨q2, _ | ⟨q3, r⟩⟩⟩⟩⟩ <;> simp [matchS] at h
  exact ⟨a, b, q, q2, rfl, h⟩
theorem match0 {l : List Node} (h : matchS [] none l = true) : l = [] := by
  simpa [matchS] using h
theorem matchM {c : UInt8} {l : List Node} (h : matchS [] (some c) l = true) : ∀ k ∈ l, oneP k c = true := by
  simpa [matchS] using h
theorem match1M {c d : UInt8} {l : List Node} (h : matchS [c] (some d) l = true) : ∃ a r, l = a :: r ∧ oneP a c = true ∧ ∀ k ∈ r, oneP k d = true := by
  rcases l with _ | ⟨a, r⟩ <;> simp [matchS] at h
  exact ⟨a, r, rfl, h.1, h.2⟩
theorem own_text {x : Node} (h : ownP x = true) : evenP x.Text = true := by
  simp only [ownP, Bool.and_eq_true] at h
  exact h.2.1
theorem quote_own {x : Node} (h : ownP x = true) (hb : bulkN x ≤ 2097152) : units_Quote x.Text = some (quoteP x.Text, 0, ()) := by
  have := bulkN_eq x
  exact quoteP_eq _ (by omega) (own_text h)
theorem item_e {k : Node} (h : oneP k 101 = true) : itemOK k = true := by unfold itemOK; rw [h]; rfl
theorem item_p {k : Node} (h : oneP k 112 = true) : itemOK k = true := by unfold itemOK; rw [h, Bool.or_true]
theorem st_x {k : Node} (h : oneP k 120 = true) : stOK k = true := by unfold stOK; rw [h]; rfl
theorem st_k {k : Node} (h : oneP k 107 = true) : stOK k = true := by unfold stOK; rw [h, Bool.or_true]
theorem st_s {k : Node} (h : oneP k 115 = true) : stOK k = true := by
  refine st_x ?_
  have h2 := one_may h
  have h1 : stK k.Kind false = true := by
    unfold oneP at h; rw [Bool.and_eq_true] at h; exact h.1
  show (stK k.Kind true && mayN k) = true
  rw [h2, Bool.and_true]
  unfold stK at h1 ⊢
  simp only [Bool.and_eq_true] at h1 ⊢
  exact ⟨h1.1, by simp⟩
theorem st_b {k : Node} (h : oneP k 98 = true) : stOK k = true := by
  refine st_x ?_
  have h2 := one_may h
  have h1 : (k.Kind == 25) = true := by
    unfold oneP at h; rw [Bool.and_eq_true] at h; exact h.1
  show (stK k.Kind true && mayN k) = true
  rw [h2, Bool.and_true, eq_of_beq h1]; rfl
section
variable {g : Rec_tree_writer_stmts} {n : Nat}
theorem w_at (G : GoodW g n) (y : Node) (least : Int) (hd : 20 * deepN y + 10 ≤ n + 1) (ho : oneP y 101 = true) (hb : bulkN y ≤ 2097152) : Wr (tree_writer_at_b g y least) (atT (tkN y) least) :=
  at_step (tree_level_eq y (one_101 ho).2 (one_101 ho).1 hb) (G.expr y (by omega) ho hb) (fun no l h => G.inside y _ _ no l (by omega) ho hb h)
theorem w_inside (G : GoodW g n) (y : Node) (a b : Str) (no : Bool) (l : List Str) (hd : 20 * deepN y + 9 ≤ n + 1) (ho : oneP y 101 = true) (hb : bulkN y ≤ 2097152) (hlen : l.length + (a :: ((tkN y).ex false ++ [b]) : List Str).length ≤ 274877906944) : tree_writer_inside_b g a b no l y = some (no, l ++ (a :: ((tkN y).ex false ++ [b])), y, ()) :=
  inside_step (fun no l h => G.at1 y no l (by omega) ho hb h) no l hlen
theorem w_at1 (G : GoodW g n) (y : Node) (no : Bool) (l : List Str) (hd : 20 * deepN y + 8 ≤ n + 1) (ho : oneP y 101 = true) (hb : bulkN y ≤ 2097152) (hlen : l.length + ((tkN y).ex no).length ≤ 274877906944) : tree_writer_at_1_b g no l y = some (no, l ++ (tkN y).ex no, y, ()) := by
  unfold tree_writer_at_1_b
  simp only [re25_eq, G.expr y (by omega) ho hb no l hlen, Option.bind_some]
theorem fmt10 (i : Int) (h1 : 0 ≤ i) (h2 : i ≤ 9007199254740991) : strconv_FormatInt i 10 = some (Lib.itoa i, ()) := by
  have : strconv_FormatInt_x i 10 = some (Lib.itoa i) := by
    unfold strconv_FormatInt_x
    rw [if_neg (by decide), if_pos ⟨by omega, by omega, rfl⟩]
  unfold strconv_FormatInt
  rw [this]; rfl
theorem w_expr (G : GoodW g n) (y : Node) (hd : 20 * deepN y + 7 ≤ n + 1) (ho : oneP y 101 = true) (hb : bulkN y ≤ 2097152) : Wr (tree_writer_expr_b g y) (tkN y).ex := by
  intro no l hlen
  obtain ⟨he, hm⟩ := one_101 ho
  have hop : 11 ≤ y.Kind → Option.bind (g.tree_writer_operation y no l) (fun r => some (r.1, r.2.1, ())) = some (no, l ++ (tkN y).ex no, ()) := fun h => by
    rw [G.op y (by omega) h ho hb no l hlen]; rfl
  unfold tree_writer_expr_b
  simp only [re25_eq]
  rcases expr_kinds he with h | h | h | h | h | h | h | h | h | h | h | h | h | h | h | h | h | h | h | h
  case inl =>
    rw [may_1 h, Bool.and_eq_true] at hm
    have hn := (own_parts hm.1).2
    have : 0 ≤ y.Num ∧ y.Num ≤ 9007199254740991 := by simpa [numP, h] using hn
    rw [ex_1 h] at hlen ⊢
    rw [h, show Option.bind (strconv_FormatInt y.Num 10) _ = _ from by rw [fmt10 y.Num this.1 this.2]]
    show Option.bind (tree_writer_lay [Lib.itoa y.Num] no l) _ = _
    rw [lay_eq _ _ _ hlen]; rfl
  case inr.inl =>
    rw [may_2 h, Bool.and_eq_true] at hm
    rw [ex_2 h] at hlen ⊢
    rw [h]
    show Option.bind (units_Quote y.Text) _ = _
    rw [quote_own hm.1 hb]
    show Option.bind (tree_writer_lay [quoteP y.Text] no l) _ = _
    rw [lay_eq _ _ _ hlen]; rfl
  case inr.inr.inl =>
    rw [ex_3 h] at hlen ⊢
    rw [h]
    show Option.bind (tree_writer_lay [y.Name] no l) _ = _
    rw [lay_eq _ _ _ hlen]; rfl
  case inr.inr.inr.inl =>
    rw [ex_4 h] at hlen ⊢
    rw [h]
    show Option.bind (tree_writer_lay [[116, 104, 105, 115]] no l) _ = _
    rw [lay_eq _ _ _ hlen]; rfl
  case inr.inr.inr.inr.inl =>
    rw [ex_5 h] at hlen ⊢
    rw [h]
    show Option.bind (tree_writer_lay [[110, 117, 108, 108]] no l) _ = _
    rw [lay_eq _ _ _ hlen]; rfl
  case inr.inr.inr.inr.inr.inl =>
    rw [ex_6 h] at hlen ⊢
    rw [h]
    show Option.bind (tree_writer_lay [Lib.formatBool (y.Num == 1)] no l) _ = _
    rw [lay_eq _ _ _ hlen]; rfl
  case inr.inr.inr.inr.inr.inr.inl =>
    rw [may_7 h, Bool.and_eq_true] at hm
    rw [ex_7 h] at hlen ⊢
    rw [h]
    show Option.bind (g.tree_writer_inside_v2 [91] [93] no l y) _ = _
    rw [G.arr y _ _ no l (by omega) (fun k hk => item_e (matchM hm.2 k hk)) hb hlen]; rfl
  case inr.inr.inr.inr.inr.inr.inr.inl =>
    rw [may_8 h, Bool.and_eq_true] at hm
    rw [ex_8 h] at hlen ⊢
    rw [h]
    show Option.bind (g.tree_writer_inside_v3 [123] [125] no l y) _ = _
    rw [G.obj y _ _ no l (by omega) (fun k hk => item_p (matchM hm.2 k hk)) hb hlen]; rfl
  case inr.inr.inr.inr.inr.inr.inr.inr.inl =>
    rw [may_10 h, Bool.and_eq_true] at hm
    rw [ex_10 h] at hlen ⊢
    rw [h]
    show Option.bind (g.tree_writer_function y no l) _ = _
    rw [G.func y (by omega) (fun k hk => st_x (matchM hm.2 k hk)) hb no l hlen]; rfl
  all_goals (have hop := hop (by omega); rw [h]; exact hop)
theorem w_arr1 (G : GoodW g n) (y : Node) (l : List Str) (hd : 20 * deepN y + 5 ≤ n + 1) (hk : ∀ k ∈ y.L, itemOK k = true) (hb : bulkN y ≤ 2097152) (hlen : l.length + (commas (itemT false) (tkL y.L)).length ≤ 274877906944) : tree_writer_expr_1_b g false l y = some (false, l ++ commas (itemT false) (tkL y.L), y, ()) := by
  have a1 := deepN_eq y; have a2 := bulkN_eq y
  unfold tree_writer_expr_1_b
  simp only [re25_eq, G.list y.L l (by omega) hk (by omega) hlen, Option.bind_some]
theorem w_obj1 (G : GoodW g n) (y : Node) (l : List Str) (hd : 20 * deepN y + 5 ≤ n + 1) (hk : ∀ k ∈ y.L, itemOK k = true) (hb : bulkN y ≤ 2097152) (hlen : l.length + (commas (itemT false) (tkL y.L)).length ≤ 274877906944) : tree_writer_expr_2_b g false l y = some (false, l ++ commas (itemT false) (tkL y.L), y, ()) := by
  have a1 := deepN_eq y; have a2 := bulkN_eq y
  unfold tree_writer_expr_2_b
  simp only [re25_eq, G.list y.L l (by omega) hk (by omega) hlen, Option.bind_some]
theorem w_body1 (G : GoodW g n) (y : Node) (l : List Str) (hd : 20 * deepN y + 4 ≤ n + 1) (hk : ∀ k ∈ y.L, stOK k = true) (hb : bulkN y ≤ 2097152) (hlen : l.length + (stmtsT (tkL y.L)).length ≤ 274877906944) : tree_writer_function_1_b g false l y = some (false, l ++ stmtsT (tkL y.L), y, ()) := by
  have a1 := deepN_eq y; have a2 := bulkN_eq y
  unfold tree_writer_function_1_b
  simp only [re25_eq, G.stmts y.L l (by omega) hk (by omega) hlen, Option.bind_some]
theorem w_arr (G : GoodW g n) (y : Node) (a b : Str) (no : Bool) (l : List Str) (hd : 20 * deepN y + 6 ≤ n + 1) (hk : ∀ k ∈ y.L, itemOK k = true) (hb : bulkN y ≤ 2097152) (hlen : l.length + (a :: (commas (itemT false) (tkL y.L) ++ [b]) : List Str).length ≤ 274877906944) : tree_writer_inside_v2_b g a b no l y = some (no, l ++ (a :: (commas (itemT false) (tkL y.L) ++ [b])), y, ()) := by
  unfold tree_writer_inside_v2_b
  rw [lay_eq _ _ _ (by simp only [List.length_append, List.length_cons, List.length_nil] at hlen ⊢; omega)]
  simp only [Option.bind_some, re25_eq]
  rw [G.arr1 y _ (by omega) hk hb (by simp only [List.length_append, List.length_cons, List.length_nil] at hlen ⊢; omega)]
  simp only [Option.bind_some]
  rw [lay_eq _ _ _ (by simp only [List.length_append, List.length_cons, List.length_nil] at hlen ⊢; omega)]
  simp
theorem w_obj (G : GoodW g n) (y : Node) (a b : Str) (no : Bool) (l : List Str) (hd : 20 * deepN y + 6 ≤ n + 1) (hk : ∀ k ∈ y.L, itemOK k = true) (hb : bulkN y ≤ 2097152) (hlen : l.length + (a :: (commas (itemT false) (tkL y.L) ++ [b]) : List Str).length ≤ 274877906944) : tree_writer_inside_v3_b g a b no l y = some (no, l ++ (a :: (commas (itemT false) (tkL y.L) ++ [b])), y, ()) := by
  unfold tree_writer_inside_v3_b
  rw [lay_eq _ _ _ (by simp only [List.length_append, List.length_cons, List.length_nil] at hlen ⊢; omega)]
  simp only [Option.bind_some, re25_eq]
  rw [G.obj1 y _ (by omega) hk hb (by simp only [List.length_append, List.length_cons, List.length_nil] at hlen ⊢; omega)]
  simp only [Option.bind_some]
  rw [lay_eq _ _ _ (by simp only [List.length_append, List.length_cons, List.length_nil] at hlen ⊢; omega)]
  simp
theorem w_body (G : GoodW g n) (y : Node) (a b : Str) (no : Bool) (l : List Str) (hd : 20 * deepN y + 5 ≤ n + 1) (hk : ∀ k ∈ y.L, stOK k = true) (hb : bulkN y ≤ 2097152) (hlen : l.length + (a :: (stmtsT (tkL y.L) ++ [b]) : List Str).length ≤ 274877906944) : tree_writer_inside_v4_b g a b no l y = some (no, l ++ (a :: (stmtsT (tkL y.L) ++ [b])), y, ()) := by
  unfold tree_writer_inside_v4_b
  rw [lay_eq _ _ _ (by simp only [List.length_append, List.length_cons, List.length_nil] at hlen ⊢; omega)]
  simp only [Option.bind_some, re25_eq]
  rw [G.body1 y _ (by omega) hk hb (by simp only [List.length_append, List.length_cons, List.length_nil] at hlen ⊢; omega)]
  simp only [Option.bind_some]
  rw [lay_eq _ _ _ (by simp only [List.length_append, List.length_cons, List.length_nil] at hlen ⊢; omega)]
  simp
theorem w_idx1 (G : GoodW g n) (x y : Node) (r : List Node) (l : List Str) (hd : 20 * deepN y + 11 ≤ n + 1) (ho : oneP y 101 = true) (hb : bulkN y ≤ 2097152) (hlen : l.length + (atT (tkN y) 0 false).length ≤ 274877906944) : tree_writer_operation_1_b g false l (x :: y :: r) = some (false, l ++ atT (tkN y) 0 false, x :: y :: r, ()) := by
  unfold tree_writer_operation_1_b
  simp only [getI1, Option.bind_some, re25_eq, G.at_ y 0 (by omega) ho hb false l hlen]
theorem w_thn1 (G : GoodW g n) (x y : Node) (r : List Node) (l : List Str) (hd : 20 * deepN y + 11 ≤ n + 1) (ho : oneP y 101 = true) (hb : bulkN y ≤ 2097152) (hlen : l.length + (atT (tkN y) 1 false).length ≤ 274877906944) : tree_writer_operation_3_b g false l (x :: y :: r) = some (false, l ++ atT (tkN y) 1 false, x :: y :: r, ()) := by
  unfold tree_writer_operation_3_b
  simp only [getI1, Option.bind_some, re25_eq, G.at_ y 1 (by omega) ho hb false l hlen]
theorem cut1 {α : Type} (a : α) (r : List α) : cutL (a :: r) 1 (((a :: r).length : Nat) : Int) = some r := by
  have := cutL_to_end (a :: r) 1 (by simp)
  simpa using this
theorem w_arg1 (G : GoodW g n) (x : Node) (r : List Node) (l : List Str) (hd : 20 * deepL r + 13 ≤ n + 1) (hk : ∀ k ∈ r, itemOK k = true) (hb : bulkL (x :: r) ≤ 2097152) (hlen : l.length + (commas (itemT false) (tkL r)).length ≤ 274877906944) : tree_writer_operation_2_b g false l (x :: r) = some (false, l ++ commas (itemT false) (tkL r), x :: r, ()) := by
  have a2 : bulkL (x :: r) = bulkN x + bulkL r := by simp [bulkL]
  unfold tree_writer_operation_2_b
  rw [cut1]
  simp only [Option.bind_some, re25_eq, G.list r l (by omega) hk (by omega) hlen]
theorem w_idx (G : GoodW g n) (x y : Node) (r : List Node) (a b : Str) (no : Bool) (l : List Str) (hd : 20 * deepN y + 12 ≤ n + 1) (ho : oneP y 101 = true) (hb : bulkN y ≤ 2097152) (hlen : l.length + (a :: (atT (tkN y) 0 false ++ [b]) : List Str).length ≤ 274877906944) : tree_writer_inside_v5_b g a b no l (x :: y :: r) = some (no, l ++ (a :: (atT (tkN y) 0 false ++ [b])), x :: y :: r, ()) := by
  unfold tree_writer_inside_v5_b
  rw [lay_eq _ _ _ (by simp only [List.length_append, List.length_cons, List.length_nil] at hlen ⊢; omega)]
  simp only [Option.bind_some, re25_eq]
  rw [G.idx1 x y r _ (by omega) ho hb (by simp only [List.length_append, List.length_cons, List.length_nil] at hlen ⊢; omega)]
  simp only [Option.bind_some]
  rw [lay_eq _ _ _ (by simp only [List.length_append, List.length_cons, List.length_nil] at hlen ⊢; omega)]
  simp
theorem w_thn (G : GoodW g n) (x y : Node) (r : List Node) (a b : Str) (no : Bool) (l : List Str) (hd : 20 * deepN y + 12 ≤ n + 1) (ho : oneP y 101 = true) (hb : bulkN y ≤ 2097152) (hlen : l.length + (a :: (atT (tkN y) 1 false ++ [b]) : List Str).length ≤ 274877906944) : tree_writer_inside_v7_b g a b no l (x :: y :: r) = some (no, l ++ (a :: (atT (tkN y) 1 false ++ [b])), x :: y :: r, ()) := by
  unfold tree_writer_inside_v7_b
  rw [lay_eq _ _ _ (by simp only [List.length_append, List.length_cons, List.length_nil] at hlen ⊢; omega)]
  simp only [Option.bind_some, re25_eq]
  rw [G.thn1 x y r _ (by omega) ho hb (by simp only [List.length_append, List.length_cons, List.length_nil] at hlen ⊢; omega)]
  simp only [Option.bind_some]
  rw [lay_eq _ _ _ (by simp only [List.length_append, List.length_cons, List.length_nil] at hlen ⊢; omega)]
  simp
theorem w_arg (G : GoodW g n) (x : Node) (r : List Node) (a b : Str) (no : Bool) (l : List Str) (hd : 20 * deepL r + 14 ≤ n + 1) (hk : ∀ k ∈ r, itemOK k = true) (hb : bulkL (x :: r) ≤ 2097152) (hlen : l.length + (a :: (commas (itemT false) (tkL r) ++ [b]) : List Str).length ≤ 274877906944) : tree_writer_inside_v6_b g a b no l (x :: r) = some (no, l ++ (a :: (commas (itemT false) (tkL r) ++ [b])), x :: r, ()) := by
  unfold tree_writer_inside_v6_b
  rw [lay_eq _ _ _ (by simp only [List.length_append, List.length_cons, List.length_nil] at hlen ⊢; omega)]
  simp only [Option.bind_some, re25_eq]
  rw [G.arg1 x r _ (by omega) hk hb (by simp only [List.length_append, List.length_cons, List.length_nil] at hlen ⊢; omega)]
  simp only [Option.bind_some]
  rw [lay_eq _ _ _ (by simp only [List.length_append, List.length_cons, List.length_nil] at hlen ⊢; omega)]
  simp
theorem w_head (G : GoodW g n) (y : Node) (w : Str) (l : List Str) (hd : 20 * deepN y + 11 ≤ n + 1) (ho : oneP y 101 = true) (hb : bulkN y ≤ 2097152) (hlen : l.length + (headT w (tkN y)).length ≤ 274877906944) : tree_writer_head_b g w y false l = some (false, l ++ headT w (tkN y), ()) :=
  head_step (G.at_ y 0 (by omega) ho hb) l hlen
theorem w_stmts (G : GoodW g n) (ls : List Node) (l : List Str) (hd : 20 * deepL ls + 15 ≤ n + 1) (hk : ∀ k ∈ ls, stOK k = true) (hb : bulkL ls ≤ 2097152) (hlen : l.length + (stmtsT (tkL ls)).length ≤ 274877906944) : tree_writer_stmts_b g ls false l = some (false, l ++ stmtsT (tkL ls), ()) :=
  stmts_step ls (by have := len_bulkL ls; omega) (fun y hy l h => G.stmt y l (by have := mem_deepL hy; omega) (hk y hy) (by have := mem_bulkL hy; omega) h) l hlen
theorem w_list (G : GoodW g n) (ls : List Node) (l : List Str) (hd : 20 * deepL ls + 12 ≤ n + 1) (hk : ∀ k ∈ ls, itemOK k = true) (hb : bulkL ls ≤ 2097152) (hlen : l.length + (commas (itemT false) (tkL ls)).length ≤ 274877906944) : tree_writer_list_b g ls false l = some (false, l ++ commas (itemT false) (tkL ls), ()) := by
  have a1 := len_bulkL ls
  refine list_step ls (by omega) (fun y hy i l hi hlen => ?_) l hlen
  have b1 := mem_deepL hy; have b2 := mem_bulkL hy; have b3 := deepN_eq y; have b4 := bulkN_eq y
  have w : IntKind.wrap .i64 ((i : Int) + 1) = ((i + 1 : Nat) : Int) := by rw [wrap_i64 (by omega) (by omega)]; rfl
  have hi := hk y hy
  unfold tree_writer_list_j2
  unfold itemT at hlen ⊢
  rw [kids_x, kids_k] at hlen ⊢
  by_cases h : y.Kind = 9
  · have hm : mayN y = true := by
      unfold itemOK at hi
      rw [Bool.or_eq_true] at hi
      rcases hi with h | h <;> exact one_may h
    rw [may_9 h, Bool.and_eq_true] at hm
    obtain ⟨a, hL, ha⟩ := match1 hm.2
    have c1 : a ∈ y.L := by rw [hL]; exact List.mem_cons_self
    have c2 := mem_deepL c1; have c3 := mem_bulkL c1
    rw [hL, tk0, h] at hlen ⊢
    have hlen : l.length + (quoteP y.Text :: [58] :: atT (tkN a) 1 false : List Str).length ≤ 274877906944 := hlen
    show Option.bind (units_Quote y.Text) _ = some (Sum.inl (ls, _, _, false, l ++ (quoteP y.Text :: [58] :: atT (tkN a) 1 false), ()))
    rw [quote_own hm.1 (by omega)]
    simp only [Option.bind_some, hL, getI0]
    rw [lay_eq _ _ _ (by simp only [List.length_append, List.length_cons, List.length_nil] at hlen ⊢; omega)]
    simp only [Option.bind_some, re25_eq]
    rw [G.at_ a 1 (by omega) ha (by omega) false _ (by simp only [List.length_append, List.length_cons, List.length_nil] at hlen ⊢; omega), w]
    simp
  · have e : (y.Kind == 9) = false := by rw [beq_eq_false_iff_ne]; exact h
    have ho : oneP y 101 = true := by
      unfold itemOK at hi
      rw [Bool.or_eq_true] at hi
      rcases hi with h1 | h1
      · exact h1
      · exfalso
        unfold oneP at h1
        rw [Bool.and_eq_true] at h1
        have : (y.Kind == 9) = true := h1.1
        rw [e] at this; cases this
    rw [e] at hlen ⊢
    simp only [Bool.false_eq_true, if_false] at hlen ⊢
    rw [re25_eq, G.at_ y 1 (by omega) ho (by omega) false l hlen, w]
    rfl
end
end Go.D07.W


/- Chapter 7, plainly: the writer's longer steps. -/
namespace Go.D07.W
open Go Go.Gw Go.Dn
set_option linter.unusedSimpArgs false
set_option maxRecDepth 100000

theorem getI3 {α : Type} (a b c d : α) (r : List α) : getI (a :: b :: c :: d :: r) 3 = some d := rfl
theorem lvl_eq (x : Node) : (tkN x).lvl = lvlT x (tkL x.L) := by rw [tkN_eq]; rfl
theorem lvl17 {y : Node} (h : y.Kind = 17) : (tkN y).lvl = 5 ∨ (tkN y).lvl = 6 ∨ (tkN y).lvl = 7 ∨ (tkN y).lvl = 8 := by
  have e : (tkN y).lvl = if amongP op5 y.Name = true then 5 else if amongP op7 y.Name = true then 7 else if amongP op8 y.Name = true then 8 else 6 := by rw [lvl_eq]; unfold lvlT; rw [h]; rfl
  rw [e]
  cases amongP op5 y.Name <;> cases amongP op7 y.Name <;> cases amongP op8 y.Name <;> simp
theorem lvl18' {y : Node} (h : y.Kind = 18) : (tkN y).lvl = 4 - Lib.index [38, 124] (y.Name.take 1) := by rw [lvl_eq]; unfold lvlT; rw [h]; rfl
theorem name18 {y : Node} (h : y.Kind = 18) (ho : ownP y = true) : y.Name = [38, 38] ∨ y.Name = [124, 124] := by
  simpa [rnamedP, h, ops18] using (own_parts ho).1
theorem lvl18 {y : Node} (h : y.Kind = 18) (ho : ownP y = true) : (tkN y).lvl = 3 ∨ (tkN y).lvl = 4 := by
  rw [lvl18' h]
  rcases name18 h ho with e | e <;> rw [e]
  · exact .inr (by decide)
  · exact .inl (by decide)
section
variable {g : Rec_tree_writer_stmts} {n : Nat}
theorem func_loop (ns : List Str) (hn : ns.length ≤ 1000000000) (x : Node) (t : List Str) (no : Bool) (hx : ∀ l : List Str, l.length + t.length ≤ 274877906944 → g.tree_writer_inside_v4 [123] [125] no l x = some (no, l ++ t, x, ())) (l : List Str)
    (hlen : l.length + (namesT ns ++ ([41] :: t)).length ≤ 274877906944) : Lp.loop (tree_writer_function_l1 g) (ns, ((ns.length : Nat) : Int), 0, no, l, x, ()) = some (no, l ++ (namesT ns ++ ([41] :: t)), ()) := by
  rw [names_eq] at hlen ⊢
  refine comma_loop (tree_writer_function_l1 g) (fun i l => (ns, ((ns.length : Nat) : Int), i, no, l, x, ())) ns (fun s => [s]) ([41] :: t) (fun l => (no, l, ())) hn (fun y r hy l hlen => ?_) (fun i y h0 hm h1 h2 h3 h4 l hlen => ?_) (fun he l hlen => ?_) l hlen
  · have hi : decide ((0 : Int) < ((ns.length : Nat) : Int)) = true := by rw [hy]; simp only [List.length_cons, decide_eq_true_eq]; omega
    have h1 : getI ns 0 = some y := by rw [hy]; rfl
    have w : IntKind.wrap .i64 ((0 : Int) + 1) = 1 := by decide
    simp only [tree_writer_function_l1, hi, if_true, h1, Option.bind_some, re25_eq]
    rw [if_neg (by decide), lay_eq _ _ _ hlen]
    simp only [Option.bind_some, w]
  · simp only [tree_writer_function_l1, h2, if_true, h1, h3, Option.bind_some, re25_eq]
    rw [lay_eq _ _ _ (by simp only [List.length_append, List.length_cons, List.length_nil] at hlen ⊢; omega)]
    simp only [Option.bind_some]
    rw [lay_eq _ _ _ (by simp only [List.length_append, List.length_cons, List.length_nil] at hlen ⊢; omega)]
    simp only [Option.bind_some, h4]
    simp
  · simp only [tree_writer_function_l1, he, Bool.false_eq_true, if_false]
    rw [lay_eq _ _ _ (by simp only [List.length_append, List.length_cons, List.length_nil] at hlen ⊢; omega)]
    simp only [Option.bind_some, re25_eq]
    rw [hx _ (by simp only [List.length_append, List.length_cons, List.length_nil] at hlen ⊢; omega)]
    simp
theorem w_func (G : GoodW g n) (y : Node) (hd : 20 * deepN y + 6 ≤ n + 1) (hk : ∀ k ∈ y.L, stOK k = true) (hb : bulkN y ≤ 2097152) : Wr (tree_writer_function_b g y) (fun _ => funcT y (tkL y.L)) := by
  intro no l hlen
  have a1 := bulkN_eq y
  have a2 := len_sum1 y.Names
  have hL := fun l h => func_loop (g := g) y.Names (by omega) y ([123] :: (stmtsT (tkL y.L) ++ [[125]])) no (fun l h => G.body y _ _ no l (by omega) hk hb h) l h
  unfold funcT at hlen ⊢
  unfold tree_writer_function_b
  by_cases hn : (y.Name == ([] : Str)) = true
  · rw [hn] at hlen ⊢
    simp only [if_true, List.nil_append] at hlen ⊢
    rw [lay_eq _ _ _ (by simp only [List.length_append, List.length_cons, List.length_nil] at hlen ⊢; omega)]
    simp only [Option.bind_some, Bool.not_true, Bool.false_eq_true, if_false, re25_eq]
    rw [lay_eq _ _ _ (by simp only [List.length_append, List.length_cons, List.length_nil] at hlen ⊢; omega)]
    simp only [Option.bind_some]
    rw [hL _ (by simp only [List.length_append, List.length_cons, List.length_nil] at hlen ⊢; omega)]
    simp
  · have hn : (y.Name == ([] : Str)) = false := by simpa using hn
    rw [hn] at hlen ⊢
    simp only [Bool.false_eq_true, if_false] at hlen ⊢
    rw [lay_eq _ _ _ (by simp only [List.length_append, List.length_cons, List.length_nil] at hlen ⊢; omega)]
    simp only [Option.bind_some, Bool.not_false, if_true, re25_eq]
    rw [lay_eq _ _ _ (by simp only [List.length_append, List.length_cons, List.length_nil] at hlen ⊢; omega)]
    simp only [Option.bind_some]
    rw [lay_eq _ _ _ (by simp only [List.length_append, List.length_cons, List.length_nil] at hlen ⊢; omega)]
    simp only [Option.bind_some]
    rw [hL _ (by simp only [List.length_append, List.length_cons, List.length_nil] at hlen ⊢; omega)]
    simp
theorem w_op11 (G : GoodW g n) (y : Node) (hd : 20 * deepN y + 6 ≤ n + 1) (h : y.Kind = 11) (ho : oneP y 101 = true) (hb : bulkN y ≤ 2097152) : Wr (tree_writer_operation_b g y) (tkN y).ex := by
  intro no l hlen
  obtain ⟨he, hm⟩ := one_101 ho
  have a1 := deepN_eq y; have a2 := bulkN_eq y
  have hk : ∀ k ∈ y.L, deepN k ≤ deepL y.L ∧ bulkN k ≤ bulkL y.L := fun k hk => ⟨mem_deepL hk, mem_bulkL hk⟩
  have ha : ∀ k ∈ y.L, oneP k 101 = true → ∀ (least : Int) (no : Bool) (l : List Str), l.length + (atT (tkN k) least no).length ≤ 274877906944 → g.tree_writer_at k least no l = some (no, l ++ atT (tkN k) least no, ()) := fun k h1 h2 least no l h => G.at_ k least (by have := hk k h1; omega) h2 (by have := hk k h1; omega) no l h
  rw [may_11 h, Bool.and_eq_true] at hm
  obtain ⟨a, hL, h1⟩ := match1 hm.2
  rw [ex_11 h, hL, tk0] at hlen ⊢
  rw [hL] at ha
  unfold tree_writer_operation_b
  simp only [re25_eq]
  rw [h, hL]
  show Option.bind (g.tree_writer_at a 11 no l) (fun r => Option.bind (tree_writer_lay [[46], y.Name] r.1 r.2.1) fun r => some (r.1, r.2.1, ())) = _
  rw [ha a (by simp) h1 _ _ _ (by simp only [List.length_append, List.length_cons, List.length_nil] at hlen ⊢; omega)]
  simp only [Option.bind_some]
  rw [lay_eq _ _ _ (by simp only [List.length_append, List.length_cons, List.length_nil] at hlen ⊢; omega)]
  simp
theorem w_op12 (G : GoodW g n) (y : Node) (hd : 20 * deepN y + 6 ≤ n + 1) (h : y.Kind = 12) (ho : oneP y 101 = true) (hb : bulkN y ≤ 2097152) : Wr (tree_writer_operation_b g y) (tkN y).ex := by
  intro no l hlen
  obtain ⟨he, hm⟩ := one_101 ho
  have a1 := deepN_eq y; have a2 := bulkN_eq y
  have hk : ∀ k ∈ y.L, deepN k ≤ deepL y.L ∧ bulkN k ≤ bulkL y.L := fun k hk => ⟨mem_deepL hk, mem_bulkL hk⟩
  have ha : ∀ k ∈ y.L, oneP k 101 = true → ∀ (least : Int) (no : Bool) (l : List Str), l.length + (atT (tkN k) least no).length ≤ 274877906944 → g.tree_writer_at k least no l = some (no, l ++ atT (tkN k) least no, ()) := fun k h1 h2 least no l h => G.at_ k least (by have := hk k h1; omega) h2 (by have := hk k h1; omega) no l h
  rw [may_12 h, Bool.and_eq_true] at hm
  obtain ⟨a, b, hL, h1, h2⟩ := match2 hm.2
  have hkb := hk b (by rw [hL]; simp)
  rw [ex_12 h, hL, tk0, tk1] at hlen ⊢
  rw [hL] at ha
  unfold tree_writer_operation_b
  simp only [re25_eq]
  rw [h, hL]
  show Option.bind (g.tree_writer_at a 11 no l) (fun r => Option.bind (g.tree_writer_inside_v5 [91] [93] r.1 r.2.1 [a, b]) fun r => some (r.1, r.2.1, ())) = _
  rw [ha a (by simp) h1 _ _ _ (by simp only [List.length_append, List.length_cons, List.length_nil] at hlen ⊢; omega)]
  simp only [Option.bind_some]
  rw [G.idx a b [] _ _ _ _ (by omega) h2 (by omega) (by simp only [List.length_append, List.length_cons, List.length_nil] at hlen ⊢; omega)]
  simp
theorem w_op13 (G : GoodW g n) (y : Node) (hd : 20 * deepN y + 6 ≤ n + 1) (h : y.Kind = 13) (ho : oneP y 101 = true) (hb : bulkN y ≤ 2097152) : Wr (tree_writer_operation_b g y) (tkN y).ex := by
  intro no l hlen
  obtain ⟨he, hm⟩ := one_101 ho
  have a1 := deepN_eq y; have a2 := bulkN_eq y
  have hk : ∀ k ∈ y.L, deepN k ≤ deepL y.L ∧ bulkN k ≤ bulkL y.L := fun k hk => ⟨mem_deepL hk, mem_bulkL hk⟩
  have ha : ∀ k ∈ y.L, oneP k 101 = true → ∀ (least : Int) (no : Bool) (l : List Str), l.length + (atT (tkN k) least no).length ≤ 274877906944 → g.tree_writer_at k least no l = some (no, l ++ atT (tkN k) least no, ()) := fun k h1 h2 least no l h => G.at_ k least (by have := hk k h1; omega) h2 (by have := hk k h1; omega) no l h
  rw [may_13 h, Bool.and_eq_true] at hm
  obtain ⟨a, r, hL, h1, h2⟩ := match1M hm.2
  have hkb : deepL r ≤ deepL y.L := by rw [hL, deepL_cons]; omega
  rw [ex_13 h, hL, tk0, tkT] at hlen ⊢
  rw [hL] at ha a2
  unfold tree_writer_operation_b
  simp only [re25_eq]
  rw [h, hL]
  have e : tree_writer_operation_j1 g no l y (a :: r) = Option.bind (g.tree_writer_at a 11 no l) (fun q => Option.bind (g.tree_writer_inside_v6 [40] [41] q.1 q.2.1 (a :: r)) fun r => some (r.1, r.2.1, ())) := by
    unfold tree_writer_operation_j1 tree_writer_operation_j2
    simp only [re25_eq]
    rw [h]; rfl
  show tree_writer_operation_j1 g no l y (a :: r) = _
  rw [e, ha a (by simp) h1 _ _ _ (by simp only [List.length_append, List.length_cons, List.length_nil] at hlen ⊢; omega)]
  simp only [Option.bind_some]
  rw [G.arg a r _ _ _ _ (by omega) (fun k hk => item_e (h2 k hk)) (by omega) (by simp only [List.length_append, List.length_cons, List.length_nil] at hlen ⊢; omega)]
  simp
theorem w_op14 (G : GoodW g n) (y : Node) (hd : 20 * deepN y + 6 ≤ n + 1) (h : y.Kind = 14) (ho : oneP y 101 = true) (hb : bulkN y ≤ 2097152) : Wr (tree_writer_operation_b g y) (tkN y).ex := by
  intro no l hlen
  obtain ⟨he, hm⟩ := one_101 ho
  have a1 := deepN_eq y; have a2 := bulkN_eq y
  have hk : ∀ k ∈ y.L, deepN k ≤ deepL y.L ∧ bulkN k ≤ bulkL y.L := fun k hk => ⟨mem_deepL hk, mem_bulkL hk⟩
  have ha : ∀ k ∈ y.L, oneP k 101 = true → ∀ (least : Int) (no : Bool) (l : List Str), l.length + (atT (tkN k) least no).length ≤ 274877906944 → g.tree_writer_at k least no l = some (no, l ++ atT (tkN k) least no, ()) := fun k h1 h2 least no l h => G.at_ k least (by have := hk k h1; omega) h2 (by have := hk k h1; omega) no l h
  rw [may_14 h, Bool.and_eq_true] at hm
  obtain ⟨a, r, hL, h1, h2⟩ := match1M hm.2
  have hkb : deepL r ≤ deepL y.L := by rw [hL, deepL_cons]; omega
  rw [ex_14 h, hL, tk0, tkT] at hlen ⊢
  rw [hL] at ha a2
  unfold tree_writer_operation_b
  simp only [re25_eq]
  rw [h, hL]
  have e : tree_writer_operation_j1 g no l y (a :: r) = Option.bind (tree_writer_lay [[110, 101, 119]] no l) fun q => Option.bind (g.tree_writer_at a 12 q.1 q.2.1) (fun q => Option.bind (g.tree_writer_inside_v6 [40] [41] q.1 q.2.1 (a :: r)) fun r => some (r.1, r.2.1, ())) := by
    unfold tree_writer_operation_j1 tree_writer_operation_j2
    simp only [re25_eq]
    rw [h]; rfl
  show tree_writer_operation_j1 g no l y (a :: r) = _
  rw [e, lay_eq _ _ _ (by simp only [List.length_append, List.length_cons, List.length_nil] at hlen ⊢; omega)]
  simp only [Option.bind_some]
  rw [ha a (by simp) h1 _ _ _ (by simp only [List.length_append, List.length_cons, List.length_nil] at hlen ⊢; omega)]
  simp only [Option.bind_some]
  rw [G.arg a r _ _ _ _ (by omega) (fun k hk => item_e (h2 k hk)) (by omega) (by simp only [List.length_append, List.length_cons, List.length_nil] at hlen ⊢; omega)]
  simp
theorem w_op15 (G : GoodW g n) (y : Node) (hd : 20 * deepN y + 6 ≤ n + 1) (h : y.Kind = 15) (ho : oneP y 101 = true) (hb : bulkN y ≤ 2097152) : Wr (tree_writer_operation_b g y) (tkN y).ex := by
  intro no l hlen
  obtain ⟨he, hm⟩ := one_101 ho
  have a1 := deepN_eq y; have a2 := bulkN_eq y
  have hk : ∀ k ∈ y.L, deepN k ≤ deepL y.L ∧ bulkN k ≤ bulkL y.L := fun k hk => ⟨mem_deepL hk, mem_bulkL hk⟩
  have ha : ∀ k ∈ y.L, oneP k 101 = true → ∀ (least : Int) (no : Bool) (l : List Str), l.length + (atT (tkN k) least no).length ≤ 274877906944 → g.tree_writer_at k least no l = some (no, l ++ atT (tkN k) least no, ()) := fun k h1 h2 least no l h => G.at_ k least (by have := hk k h1; omega) h2 (by have := hk k h1; omega) no l h
  rw [may_15 h, Bool.and_eq_true] at hm
  obtain ⟨a, hL, h1⟩ := match1 hm.2
  rw [ex_15 h, hL, tk0] at hlen ⊢
  rw [hL] at ha
  unfold tree_writer_operation_b
  simp only [re25_eq]
  rw [h, hL]
  show Option.bind (tree_writer_lay [y.Name] no l) (fun r => Option.bind (g.tree_writer_at a 9 r.1 r.2.1) fun r => some (r.1, r.2.1, ())) = _
  rw [lay_eq _ _ _ (by simp only [List.length_append, List.length_cons, List.length_nil] at hlen ⊢; omega)]
  simp only [Option.bind_some]
  rw [ha a (by simp) h1 _ _ _ (by simp only [List.length_append, List.length_cons, List.length_nil] at hlen ⊢; omega)]
  simp
theorem w_op16 (G : GoodW g n) (y : Node) (hd : 20 * deepN y + 6 ≤ n + 1) (h : y.Kind = 16) (ho : oneP y 101 = true) (hb : bulkN y ≤ 2097152) : Wr (tree_writer_operation_b g y) (tkN y).ex := by
  intro no l hlen
  obtain ⟨he, hm⟩ := one_101 ho
  have a1 := deepN_eq y; have a2 := bulkN_eq y
  have hk : ∀ k ∈ y.L, deepN k ≤ deepL y.L ∧ bulkN k ≤ bulkL y.L := fun k hk => ⟨mem_deepL hk, mem_bulkL hk⟩
  have ha : ∀ k ∈ y.L, oneP k 101 = true → ∀ (least : Int) (no : Bool) (l : List Str), l.length + (atT (tkN k) least no).length ≤ 274877906944 → g.tree_writer_at k least no l = some (no, l ++ atT (tkN k) least no, ()) := fun k h1 h2 least no l h => G.at_ k least (by have := hk k h1; omega) h2 (by have := hk k h1; omega) no l h
  rw [may_16 h, Bool.and_eq_true] at hm
  obtain ⟨a, hL, h1⟩ := match1 hm.2
  have h1 := tgt_101 h1
  have hn : y.Num = 0 ∨ y.Num = 1 := by simpa [numP, h] using (own_parts hm.1).2
  rw [ex_16 h, hL, tk0] at hlen ⊢
  rw [hL] at ha
  unfold tree_writer_operation_b
  simp only [re25_eq]
  rw [h, hL]
  rcases hn with e | e
  · rw [e] at hlen ⊢
    have hlen : l.length + (atT (tkN a) 11 no ++ [y.Name]).length ≤ 274877906944 := hlen
    show Option.bind (g.tree_writer_at a 11 no l) (fun r => Option.bind (tree_writer_lay [y.Name] r.1 r.2.1) fun r => some (r.1, r.2.1, ())) = some (no, l ++ (atT (tkN a) 11 no ++ [y.Name]), ())
    rw [ha a (by simp) h1 _ _ _ (by simp only [List.length_append, List.length_cons, List.length_nil] at hlen ⊢; omega)]
    simp only [Option.bind_some]
    rw [lay_eq _ _ _ (by simp only [List.length_append, List.length_cons, List.length_nil] at hlen ⊢; omega)]
    simp
  · rw [e] at hlen ⊢
    have hlen : l.length + (y.Name :: atT (tkN a) 11 no).length ≤ 274877906944 := hlen
    show Option.bind (tree_writer_lay [y.Name] no l) (fun r => Option.bind (g.tree_writer_at a 11 r.1 r.2.1) fun r => some (r.1, r.2.1, ())) = some (no, l ++ (y.Name :: atT (tkN a) 11 no), ())
    rw [lay_eq _ _ _ (by simp only [List.length_append, List.length_cons, List.length_nil] at hlen ⊢; omega)]
    simp only [Option.bind_some]
    rw [ha a (by simp) h1 _ _ _ (by simp only [List.length_append, List.length_cons, List.length_nil] at hlen ⊢; omega)]
    simp
theorem w_op19 (G : GoodW g n) (y : Node) (hd : 20 * deepN y + 6 ≤ n + 1) (h : y.Kind = 19) (ho : oneP y 101 = true) (hb : bulkN y ≤ 2097152) : Wr (tree_writer_operation_b g y) (tkN y).ex := by
  intro no l hlen
  obtain ⟨he, hm⟩ := one_101 ho
  have a1 := deepN_eq y; have a2 := bulkN_eq y
  have hk : ∀ k ∈ y.L, deepN k ≤ deepL y.L ∧ bulkN k ≤ bulkL y.L := fun k hk => ⟨mem_deepL hk, mem_bulkL hk⟩
  have ha : ∀ k ∈ y.L, oneP k 101 = true → ∀ (least : Int) (no : Bool) (l : List Str), l.length + (atT (tkN k) least no).length ≤ 274877906944 → g.tree_writer_at k least no l = some (no, l ++ atT (tkN k) least no, ()) := fun k h1 h2 least no l h => G.at_ k least (by have := hk k h1; omega) h2 (by have := hk k h1; omega) no l h
  rw [may_19 h, Bool.and_eq_true] at hm
  obtain ⟨a, b, c, hL, h1, h2, h3⟩ := match3 hm.2
  have hkb := hk b (by rw [hL]; simp)
  rw [ex_19 h, hL, tk0, tk1, tk2] at hlen ⊢
  rw [hL] at ha
  unfold tree_writer_operation_b
  simp only [re25_eq]
  rw [h, hL]
  show Option.bind (g.tree_writer_at a 3 no l) (fun r => Option.bind (g.tree_writer_inside_v7 [63] [58] r.1 r.2.1 [a, b, c]) fun r => Option.bind (getI r.2.2.1 2) fun x => Option.bind (g.tree_writer_at x 1 r.1 r.2.1) fun r => some (r.1, r.2.1, ())) = _
  rw [ha a (by simp) h1 _ _ _ (by simp only [List.length_append, List.length_cons, List.length_nil] at hlen ⊢; omega)]
  simp only [Option.bind_some]
  rw [G.thn a b [c] _ _ _ _ (by omega) h2 (by omega) (by simp only [List.length_append, List.length_cons, List.length_nil] at hlen ⊢; omega)]
  simp only [Option.bind_some, getI2]
  rw [ha c (by simp) h3 _ _ _ (by simp only [List.length_append, List.length_cons, List.length_nil] at hlen ⊢; omega)]
  simp
theorem w_op20 (G : GoodW g n) (y : Node) (hd : 20 * deepN y + 6 ≤ n + 1) (h : y.Kind = 20) (ho : oneP y 101 = true) (hb : bulkN y ≤ 2097152) : Wr (tree_writer_operation_b g y) (tkN y).ex := by
  intro no l hlen
  obtain ⟨he, hm⟩ := one_101 ho
  have a1 := deepN_eq y; have a2 := bulkN_eq y
  have hk : ∀ k ∈ y.L, deepN k ≤ deepL y.L ∧ bulkN k ≤ bulkL y.L := fun k hk => ⟨mem_deepL hk, mem_bulkL hk⟩
  have ha : ∀ k ∈ y.L, oneP k 101 = true → ∀ (least : Int) (no : Bool) (l : List Str), l.length + (atT (tkN k) least no).length ≤ 274877906944 → g.tree_writer_at k least no l = some (no, l ++ atT (tkN k) least no, ()) := fun k h1 h2 least no l h => G.at_ k least (by have := hk k h1; omega) h2 (by have := hk k h1; omega) no l h
  rw [may_20 h, Bool.and_eq_true] at hm
  obtain ⟨a, b, hL, h1, h2⟩ := match2 hm.2
  have h1 := tgt_101 h1
  rw [ex_20 h, hL, tk0, tk1] at hlen ⊢
  rw [hL] at ha
  unfold tree_writer_operation_b
  simp only [re25_eq]
  rw [h, hL]
  show Option.bind (g.tree_writer_at a 11 no l) (fun r => Option.bind (tree_writer_lay [y.Name] r.1 r.2.1) fun r => Option.bind (g.tree_writer_at b 1 r.1 r.2.1) fun r => some (r.1, r.2.1, ())) = _
  rw [ha a (by simp) h1 _ _ _ (by simp only [List.length_append, List.length_cons, List.length_nil] at hlen ⊢; omega)]
  simp only [Option.bind_some]
  rw [lay_eq _ _ _ (by simp only [List.length_append, List.length_cons, List.length_nil] at hlen ⊢; omega)]
  simp only [Option.bind_some]
  rw [ha b (by simp) h2 _ _ _ (by simp only [List.length_append, List.length_cons, List.length_nil] at hlen ⊢; omega)]
  simp
theorem w_op21 (G : GoodW g n) (y : Node) (hd : 20 * deepN y + 6 ≤ n + 1) (h : y.Kind = 21) (ho : oneP y 101 = true) (hb : bulkN y ≤ 2097152) : Wr (tree_writer_operation_b g y) (tkN y).ex := by
  intro no l hlen
  obtain ⟨he, hm⟩ := one_101 ho
  have a1 := deepN_eq y; have a2 := bulkN_eq y
  have hk : ∀ k ∈ y.L, deepN k ≤ deepL y.L ∧ bulkN k ≤ bulkL y.L := fun k hk => ⟨mem_deepL hk, mem_bulkL hk⟩
  have ha : ∀ k ∈ y.L, oneP k 101 = true → ∀ (least : Int) (no : Bool) (l : List Str), l.length + (atT (tkN k) least no).length ≤ 274877906944 → g.tree_writer_at k least no l = some (no, l ++ atT (tkN k) least no, ()) := fun k h1 h2 least no l h => G.at_ k least (by have := hk k h1; omega) h2 (by have := hk k h1; omega) no l h
  rw [may_21 h, Bool.and_eq_true] at hm
  obtain ⟨a, b, hL, h1, h2⟩ := match2 hm.2
  rw [ex_21 h, hL, tk0, tk1] at hlen ⊢
  rw [hL] at ha
  unfold tree_writer_operation_b
  simp only [re25_eq]
  rw [h, hL]
  show Option.bind (g.tree_writer_at a 0 no l) (fun r => Option.bind (tree_writer_lay [[44]] r.1 r.2.1) fun r => Option.bind (g.tree_writer_at b 1 r.1 r.2.1) fun r => some (r.1, r.2.1, ())) = _
  rw [ha a (by simp) h1 _ _ _ (by simp only [List.length_append, List.length_cons, List.length_nil] at hlen ⊢; omega)]
  simp only [Option.bind_some]
  rw [lay_eq _ _ _ (by simp only [List.length_append, List.length_cons, List.length_nil] at hlen ⊢; omega)]
  simp only [Option.bind_some]
  rw [ha b (by simp) h2 _ _ _ (by simp only [List.length_append, List.length_cons, List.length_nil] at hlen ⊢; omega)]
  simp
theorem w_op17 (G : GoodW g n) (y : Node) (hd : 20 * deepN y + 6 ≤ n + 1) (h : y.Kind = 17) (ho : oneP y 101 = true) (hb : bulkN y ≤ 2097152) : Wr (tree_writer_operation_b g y) (tkN y).ex := by
  intro no l hlen
  obtain ⟨he, hm⟩ := one_101 ho
  have a1 := deepN_eq y; have a2 := bulkN_eq y
  have hk : ∀ k ∈ y.L, deepN k ≤ deepL y.L ∧ bulkN k ≤ bulkL y.L := fun k hk => ⟨mem_deepL hk, mem_bulkL hk⟩
  have ha : ∀ k ∈ y.L, oneP k 101 = true → ∀ (least : Int) (no : Bool) (l : List Str), l.length + (atT (tkN k) least no).length ≤ 274877906944 → g.tree_writer_at k least no l = some (no, l ++ atT (tkN k) least no, ()) := fun k h1 h2 least no l h => G.at_ k least (by have := hk k h1; omega) h2 (by have := hk k h1; omega) no l h
  have hlv := tree_level_eq y hm he hb
  have hv := lvl17 h
  rw [may_17 h, Bool.and_eq_true] at hm
  obtain ⟨a, b, hL, h1, h2⟩ := match2 hm.2
  rw [ex_17 h, hL, tk0, tk1] at hlen ⊢
  rw [hL] at ha
  unfold tree_writer_operation_b
  simp only [re25_eq]
  rw [h, hL]
  show Option.bind (tree_level y) (fun q => Option.bind (g.tree_writer_at a q.1 no l) fun r => Option.bind (tree_writer_lay [y.Name] r.1 r.2.1) fun r => Option.bind (tree_level y) fun q => Option.bind (g.tree_writer_at b (IntKind.wrap .i64 (q.1 + 1)) r.1 r.2.1) fun r => some (r.1, r.2.1, ())) = _
  rw [hlv]
  simp only [Option.bind_some]
  rw [ha a (by simp) h1 _ _ _ (by simp only [List.length_append, List.length_cons, List.length_nil] at hlen ⊢; omega)]
  simp only [Option.bind_some]
  rw [lay_eq _ _ _ (by simp only [List.length_append, List.length_cons, List.length_nil] at hlen ⊢; omega)]
  simp only [Option.bind_some]
  have w : IntKind.wrap .i64 ((tkN y).lvl + 1) = (tkN y).lvl + 1 := wrap_i64 (by omega) (by omega)
  rw [w, ha b (by simp) h2 _ _ _ (by simp only [List.length_append, List.length_cons, List.length_nil] at hlen ⊢; omega)]
  simp
theorem w_op18 (G : GoodW g n) (y : Node) (hd : 20 * deepN y + 6 ≤ n + 1) (h : y.Kind = 18) (ho : oneP y 101 = true) (hb : bulkN y ≤ 2097152) : Wr (tree_writer_operation_b g y) (tkN y).ex := by
  intro no l hlen
  obtain ⟨he, hm⟩ := one_101 ho
  have a1 := deepN_eq y; have a2 := bulkN_eq y
  have hk : ∀ k ∈ y.L, deepN k ≤ deepL y.L ∧ bulkN k ≤ bulkL y.L := fun k hk => ⟨mem_deepL hk, mem_bulkL hk⟩
  have ha : ∀ k ∈ y.L, oneP k 101 = true → ∀ (least : Int) (no : Bool) (l : List Str), l.length + (atT (tkN k) least no).length ≤ 274877906944 → g.tree_writer_at k least no l = some (no, l ++ atT (tkN k) least no, ()) := fun k h1 h2 least no l h => G.at_ k least (by have := hk k h1; omega) h2 (by have := hk k h1; omega) no l h
  have hlv := tree_level_eq y hm he hb
  rw [may_18 h, Bool.and_eq_true] at hm
  obtain ⟨a, b, hL, h1, h2⟩ := match2 hm.2
  have hv := lvl18 h hm.1
  rw [ex_18 h, hL, tk0, tk1] at hlen ⊢
  rw [hL] at ha
  unfold tree_writer_operation_b
  simp only [re25_eq]
  rw [h, hL]
  show Option.bind (tree_level y) (fun q => Option.bind (g.tree_writer_at a q.1 no l) fun r => Option.bind (tree_writer_lay [y.Name] r.1 r.2.1) fun r => Option.bind (tree_level y) fun q => Option.bind (g.tree_writer_at b (IntKind.wrap .i64 (q.1 + 1)) r.1 r.2.1) fun r => some (r.1, r.2.1, ())) = _
  rw [hlv]
  simp only [Option.bind_some]
  rw [ha a (by simp) h1 _ _ _ (by simp only [List.length_append, List.length_cons, List.length_nil] at hlen ⊢; omega)]
  simp only [Option.bind_some]
  rw [lay_eq _ _ _ (by simp only [List.length_append, List.length_cons, List.length_nil] at hlen ⊢; omega)]
  simp only [Option.bind_some]
  have w : IntKind.wrap .i64 ((tkN y).lvl + 1) = (tkN y).lvl + 1 := wrap_i64 (by omega) (by omega)
  rw [w, ha b (by simp) h2 _ _ _ (by simp only [List.length_append, List.length_cons, List.length_nil] at hlen ⊢; omega)]
  simp
theorem w_op (G : GoodW g n) (y : Node) (hd : 20 * deepN y + 6 ≤ n + 1) (hK : 11 ≤ y.Kind) (ho : oneP y 101 = true) (hb : bulkN y ≤ 2097152) : Wr (tree_writer_operation_b g y) (tkN y).ex := by
  have he := (one_101 ho).1
  rcases expr_kinds he with h | h | h | h | h | h | h | h | h | h | h | h | h | h | h | h | h | h | h | h
  · exfalso; omega
  · exfalso; omega
  · exfalso; omega
  · exfalso; omega
  · exfalso; omega
  · exfalso; omega
  · exfalso; omega
  · exfalso; omega
  · exfalso; omega
  · exact w_op11 G y hd h ho hb
  · exact w_op12 G y hd h ho hb
  · exact w_op13 G y hd h ho hb
  · exact w_op14 G y hd h ho hb
  · exact w_op15 G y hd h ho hb
  · exact w_op16 G y hd h ho hb
  · exact w_op17 G y hd h ho hb
  · exact w_op18 G y hd h ho hb
  · exact w_op19 G y hd h ho hb
  · exact w_op20 G y hd h ho hb
  · exact w_op21 G y hd h ho hb
end
end Go.D07.W


/- Chapter 7, plainly: the writer lays a statement down. -/
namespace Go.D07.W
open Go Go.Gw Go.Dn
set_option linter.unusedSimpArgs false
set_option maxRecDepth 100000

theorem one_is {y : Node} {c : UInt8} (h : oneP y c = true) : isP y ((c.toNat : Nat) : Int) = true := by
  unfold oneP at h; rw [Bool.and_eq_true] at h; exact h.1
theorem begin_of {y : Node} (h : (exprK y.Kind || y.Kind == 42) || y.Kind == 22) (hm : mayN y = true) : beginOK y = true := by
  show (((exprK y.Kind || y.Kind == 42) || y.Kind == 22) && mayN y) = true
  rw [hm, Bool.and_true]; exact h
theorem begin_v {y : Node} (h : oneP y 118 = true) : beginOK y = true := h
theorem begin_f {y : Node} (h : oneP y 102 = true) : beginOK y = true := by
  have h1 : (exprK y.Kind || y.Kind == 42) = true := one_is h
  exact begin_of (by rw [h1]; rfl) (one_may h)
theorem begin_w {y : Node} (h : oneP y 119 = true) : beginOK y = true := by
  have h1 : (tgtK y.Kind || (y.Kind == 22 && (match y.L with | [d] => d.L.isEmpty | _ => false))) = true := one_is h
  refine begin_of ?_ (one_may h)
  rw [Bool.or_eq_true] at h1
  rcases h1 with h1 | h1
  · have : exprK y.Kind = true := by
      simp only [tgtK, Bool.or_eq_true, beq_iff_eq] at h1
      rcases h1 with (h | h) | h <;> rw [h] <;> rfl
    rw [this]; rfl
  · rw [Bool.and_eq_true] at h1
    rw [h1.1, Bool.or_true]
theorem begin_22 {y : Node} (h : y.Kind = 22) (hm : mayN y = true) : beginOK y = true := begin_of (by rw [h]; rfl) hm
theorem begin_or {y : Node} (h : beginOK y = true) : y.Kind = 42 ∨ y.Kind = 22 ∨ oneP y 101 = true := by
  have h1 : ((exprK y.Kind || y.Kind == 42) || y.Kind == 22) = true := one_is (c := 118) h
  have h2 := one_may (c := 118) h
  simp only [Bool.or_eq_true, beq_iff_eq] at h1
  rcases h1 with (h1 | h1) | h1
  · exact .inr (.inr (by rw [one101, h1, h2]; rfl))
  · exact .inl h1
  · exact .inr (.inl h1)
theorem decl_of {d : Node} (h : oneP d 100 = true) : d.Kind = 23 ∧ (d.L = [] ∨ ∃ a, d.L = [a] ∧ oneP a 101 = true) := by
  have h1 : (d.Kind == 23) = true := one_is h
  have h1 := eq_of_beq h1
  have h2 := one_may h
  rw [may_23 h1, Bool.and_eq_true] at h2
  refine ⟨h1, ?_⟩
  have h2 := h2.2
  generalize d.L = l at h2
  rcases l with _ | ⟨a, r⟩
  · exact .inl rfl
  · obtain ⟨a', e, ha⟩ := match1 h2
    exact .inr ⟨a', e, ha⟩
theorem if_of {l : List Node} (h : matchS (lv3 l) none l = true) : (∃ a b, l = [a, b] ∧ oneP a 101 = true ∧ oneP b 98 = true) ∨ ∃ a b c, l = [a, b, c] ∧ oneP a 101 = true ∧ oneP b 98 = true ∧ oneP c 98 = true := by
  rcases l with _ | ⟨a, _ | ⟨b, _ | ⟨c, r⟩⟩⟩
  · simp [lv3, matchS] at h
  · simp [lv3, matchS] at h
  · exact .inl (match2 h)
  · exact .inr (match3 h)
theorem ret_of {l : List Node} (h : matchS (lv1 l) none l = true) : l = [] ∨ ∃ a, l = [a] ∧ oneP a 101 = true := by
  rcases l with _ | ⟨a, r⟩
  · exact .inl rfl
  · exact .inr (match1 h)
theorem cases_of : ∀ {l : List Node} {e : Nat}, casesP l e = true → ∀ k ∈ l, oneP k 107 = true
  | [], _, _, k, hk => by cases hk
  | x :: r, e, h, k, hk => by
    simp only [casesP, Bool.and_eq_true] at h
    rcases List.mem_cons.1 hk with rfl | hk
    · exact h.1
    · exact cases_of h.2 k hk
theorem switch_of {l : List Node} (h : switchP l = true) : ∃ a r, l = a :: r ∧ oneP a 101 = true ∧ casesP r 0 = true := by
  rcases l with _ | ⟨a, r⟩
  · simp [switchP] at h
  · simp only [switchP, Bool.and_eq_true] at h
    exact ⟨a, r, rfl, h.1, h.2⟩
theorem try_of {l : List Node} (h : tryP l = true) : ∃ a b c, l = [a, b, c] ∧ oneP a 98 = true ∧ oneP b 99 = true ∧ oneP c 99 = true ∧ ¬ (b.Kind = 42 ∧ c.Kind = 42) := by
  rcases l with _ | ⟨a, _ | ⟨b, _ | ⟨c, _ | ⟨d, r⟩⟩⟩⟩ <;> simp [tryP] at h
  exact ⟨a, b, c, rfl, h.1.1, h.1.2.1, h.1.2.2, fun e => by rcases h.2 with q | q; exact q e.1; exact q e.2⟩
theorem one_99 {y : Node} (h : oneP y 99 = true) : y.Kind = 25 ∧ oneP y 98 = true ∨ y.Kind = 42 := by
  have h1 : (y.Kind == 25 || y.Kind == 42) = true := one_is h
  have h2 := one_may h
  simp only [Bool.or_eq_true, beq_iff_eq] at h1
  rcases h1 with h1 | h1
  · refine .inl ⟨h1, ?_⟩
    show (y.Kind == 25 && mayN y) = true
    rw [h1, h2]; rfl
  · exact .inr h1
theorem st_of {y : Node} (h : stOK y = true) : mayN y = true ∧ (y.Kind = 22 ∨ y.Kind = 24 ∨ y.Kind = 25 ∨ y.Kind = 26 ∨ y.Kind = 27 ∨ y.Kind = 28 ∨ y.Kind = 29 ∨ y.Kind = 30 ∨ y.Kind = 31 ∨ y.Kind = 32 ∨ y.Kind = 33 ∨ y.Kind = 34 ∨ y.Kind = 35 ∨ y.Kind = 36 ∨ y.Kind = 37 ∨ y.Kind = 38 ∨ y.Kind = 39 ∨ y.Kind = 40) := by
  unfold stOK at h
  rw [Bool.or_eq_true] at h
  rcases h with h | h
  · have h1 : stK y.Kind true = true := one_is h
    refine ⟨one_may h, ?_⟩
    simp only [stK, Bool.and_eq_true, decide_eq_true_eq, bne_iff_ne, ne_eq] at h1
    omega
  · have h1 : (y.Kind == 37) = true := one_is h
    exact ⟨one_may h, by have := eq_of_beq h1; omega⟩
theorem ex_ne {y : Node} (h : oneP y 101 = true) (no : Bool) : (tkN y).ex no ≠ [] := by
  obtain ⟨he, hm⟩ := one_101 h
  rcases expr_kinds he with h | h | h | h | h | h | h | h | h | h | h | h | h | h | h | h | h | h | h | h
  · rw [ex_1 h]; simp
  · rw [ex_2 h]; simp
  · rw [ex_3 h]; simp
  · rw [ex_4 h]; simp
  · rw [ex_5 h]; simp
  · rw [ex_6 h]; simp
  · rw [ex_7 h]; simp
  · rw [ex_8 h]; simp
  · rw [ex_10 h]; simp [funcT]
  · rw [ex_11 h]; simp
  · rw [ex_12 h]; simp
  · rw [ex_13 h]; simp
  · rw [ex_14 h]; simp
  · rw [ex_15 h]; simp
  · rw [ex_16 h]; split <;> simp
  · rw [ex_17 h]; simp
  · rw [ex_18 h]; simp
  · rw [ex_19 h]; simp
  · rw [ex_20 h]; simp
  · rw [ex_21 h]; simp
theorem at_ne {y : Node} (h : oneP y 101 = true) (least : Int) (no : Bool) : atT (tkN y) least no ≠ [] := by
  unfold atT
  split
  · simp
  · exact ex_ne h no
theorem insert_ok (i : Nat) (l v : List Str) (h1 : i < l.length) (h2 : 0 < v.length) (h3 : l.length + v.length ≤ 274877906944) : slices_Insert ((i : Nat) : Int) l v = some (l.take i ++ (v ++ l.drop i), ()) := by
  unfold slices_Insert insF
  rw [if_pos ⟨by omega, by omega, h2, by omega⟩]
  rfl
section
variable {g : Rec_tree_writer_stmts} {n : Nat}
theorem w_decls (G : GoodW g n) (ds : List Node) (no : Bool) (l : List Str) (hd : 20 * deepL ds ≤ n) (hk : ∀ d ∈ ds, oneP d 100 = true) (hb : bulkL ds ≤ 2097152) (hlen : l.length + (commas (declT no) (tkL ds)).length ≤ 274877906944) :
    Lp.loop (tree_writer_begin_l1 g) (ds, ((ds.length : Nat) : Int), 0, no, l, ()) = some (no, l ++ commas (declT no) (tkL ds), ()) := by
  have a1 := len_bulkL ds
  have hdecl : ∀ d, d ∈ ds → ∀ (i : Int) (l : List Str), l.length + (declT no (tkN d)).length ≤ 274877906944 → IntKind.wrap .i64 (i + 1) = i + 1 → tree_writer_begin_j2 g ds ((ds.length : Nat) : Int) i no l d = some (.inl (ds, ((ds.length : Nat) : Int), i + 1, no, l ++ declT no (tkN d), ())) := by
    intro d hm i l hlen hw
    obtain ⟨h1, h2⟩ := decl_of (hk d hm)
    have b1 := mem_deepL hm; have b2 := mem_bulkL hm; have b3 := deepN_eq d; have b4 := bulkN_eq d
    unfold tree_writer_begin_j2 tree_writer_begin_j3
    unfold declT at hlen ⊢
    rw [kids_x, kids_k] at hlen ⊢
    rcases h2 with h2 | ⟨a, h2, ha⟩
    · rw [h2] at hlen ⊢
      have hlen : l.length + [d.Name].length ≤ 274877906944 := by simpa [tkL, k0] using hlen
      rw [lay_eq _ _ _ hlen]
      simp only [Option.bind_some, re25_eq, h2, hw]
      simp [tkL, k0]
    · have c1 : a ∈ d.L := by rw [h2]; exact List.mem_cons_self
      have c2 := mem_deepL c1; have c3 := mem_bulkL c1
      rw [h2, tk0] at hlen ⊢
      have hlen : l.length + (d.Name :: [61] :: atT (tkN a) 1 no : List Str).length ≤ 274877906944 := hlen
      rw [lay_eq _ _ _ (by simp only [List.length_append, List.length_cons, List.length_nil] at hlen ⊢; omega)]
      simp only [Option.bind_some, re25_eq, h2, getI0]
      rw [if_pos (by simp), lay_eq _ _ _ (by simp only [List.length_append, List.length_cons, List.length_nil] at hlen ⊢; omega)]
      simp only [Option.bind_some]
      rw [G.at_ a 1 (by omega) ha (by omega) no _ (by simp only [List.length_append, List.length_cons, List.length_nil] at hlen ⊢; omega), Option.bind_some, hw]
      simp
  rw [commas_eq] at hlen ⊢
  have := comma_loop (tree_writer_begin_l1 g) (fun i l => (ds, ((ds.length : Nat) : Int), i, no, l, ())) ds (fun d => declT no (tkN d)) [] (fun l => (no, l, ())) (by omega) (fun y r hy l hlen => ?_) (fun i y h0 hm h1 h2 h3 h4 l hlen => ?_) (fun he l hlen => ?_) l (by simpa using hlen)
  · simpa using this
  · have hi : decide ((0 : Int) < ((ds.length : Nat) : Int)) = true := by rw [hy]; simp only [List.length_cons, decide_eq_true_eq]; omega
    have h1 : getI ds 0 = some y := by rw [hy]; rfl
    simp only [tree_writer_begin_l1, hi, if_true, h1, Option.bind_some, re25_eq]
    rw [if_neg (by decide)]
    exact hdecl y (by rw [hy]; exact List.mem_cons_self) 0 l hlen (by decide)
  · simp only [tree_writer_begin_l1, h2, if_true, h1, h3, Option.bind_some, re25_eq]
    rw [lay_eq _ _ _ (by simp only [List.length_append, List.length_cons, List.length_nil] at hlen ⊢; omega)]
    simp only [Option.bind_some]
    rw [hdecl y hm i _ (by simp only [List.length_append, List.length_cons, List.length_nil] at hlen ⊢; omega) (by rw [h4]; rfl)]
    simp
  · simp only [tree_writer_begin_l1, he, Bool.false_eq_true, if_false]
    simp
theorem w_begin (G : GoodW g n) (y : Node) (least : Int) (hd : 20 * deepN y + 11 ≤ n + 1) (ho : beginOK y = true) (hb : bulkN y ≤ 2097152) : Wr (tree_writer_begin_b g y least) (beginT (tkN y) least) := by
  intro no l hlen
  have a1 := deepN_eq y; have a2 := bulkN_eq y
  unfold tree_writer_begin_b
  unfold beginT at hlen ⊢
  rw [kids_x, kids_k] at hlen ⊢
  simp only [re25_eq]
  rcases begin_or ho with h | h | h
  · rw [h] at hlen ⊢
    show some (no, l, ()) = some (no, l ++ [], ())
    simp
  · have hm := one_may (c := 118) ho
    rw [may_22 h, Bool.and_eq_true] at hm
    obtain ⟨d, ds, hL, h1, h2⟩ := match1M hm.2
    have hk : ∀ d ∈ y.L, oneP d 100 = true := by
      rw [hL]; intro k hk
      rcases List.mem_cons.1 hk with rfl | hk
      · exact h1
      · exact h2 k hk
    rw [h] at hlen ⊢
    have hlen : l.length + ([118, 97, 114] :: commas (declT no) (tkL y.L)).length ≤ 274877906944 := hlen
    show Option.bind (tree_writer_lay [[118, 97, 114]] no l) _ = some (no, l ++ ([118, 97, 114] :: commas (declT no) (tkL y.L)), ())
    rw [lay_eq _ _ _ (by simp only [List.length_append, List.length_cons, List.length_nil] at hlen ⊢; omega)]
    simp only [Option.bind_some]
    rw [w_decls G y.L no _ (by omega) hk (by omega) (by simp only [List.length_append, List.length_cons, List.length_nil] at hlen ⊢; omega)]
    simp
  · obtain ⟨he, hm⟩ := one_101 h
    have e1 : (y.Kind == 42) = false := by
      rcases expr_kinds he with h | h | h | h | h | h | h | h | h | h | h | h | h | h | h | h | h | h | h | h <;> rw [h] <;> rfl
    have e2 : (y.Kind == 22) = false := by
      rcases expr_kinds he with h | h | h | h | h | h | h | h | h | h | h | h | h | h | h | h | h | h | h | h <;> rw [h] <;> rfl
    rw [e1, e2] at hlen ⊢
    simp only [Bool.false_eq_true, if_false] at hlen ⊢
    rw [G.at_ y least (by omega) h hb no l hlen]
    rfl
theorem w_loop27 (G : GoodW g n) (y : Node) (l : List Str) (hd : 20 * deepN y + 12 ≤ n + 1) (h : y.Kind = 27) (hm : mayN y = true) (hb : bulkN y ≤ 2097152) (hlen : l.length + (tkN y).st.length ≤ 274877906944) : tree_writer_loop_b g y false l = some (false, l ++ (tkN y).st, ()) := by
  have a1 := deepN_eq y; have a2 := bulkN_eq y
  have hk : ∀ k ∈ y.L, deepN k ≤ deepL y.L ∧ bulkN k ≤ bulkL y.L := fun k hk => ⟨mem_deepL hk, mem_bulkL hk⟩
  rw [may_27 h, Bool.and_eq_true] at hm
  obtain ⟨a, b, hL, h1, h2⟩ := match2 hm.2
  have ka := hk a (by rw [hL]; simp); have kb := hk b (by rw [hL]; simp)
  rw [st_27 h, hL, tk0, tk1] at hlen ⊢
  unfold tree_writer_loop_b
  simp only [re25_eq]
  rw [h, hL]
  show Option.bind (g.tree_writer_head [119, 104, 105, 108, 101] a false l) (fun r => Option.bind (g.tree_writer_stmt b r.1 r.2.1) fun r => some (r.1, r.2.1, ())) = _
  rw [G.head a _ l (by omega) h1 (by omega) (by simp only [List.length_append, List.length_cons, List.length_nil] at hlen ⊢; omega)]
  simp only [Option.bind_some]
  rw [G.stmt b _ (by omega) (st_b h2) (by omega) (by simp only [List.length_append, List.length_cons, List.length_nil] at hlen ⊢; omega)]
  simp
theorem w_loop28 (G : GoodW g n) (y : Node) (l : List Str) (hd : 20 * deepN y + 12 ≤ n + 1) (h : y.Kind = 28) (hm : mayN y = true) (hb : bulkN y ≤ 2097152) (hlen : l.length + (tkN y).st.length ≤ 274877906944) : tree_writer_loop_b g y false l = some (false, l ++ (tkN y).st, ()) := by
  have a1 := deepN_eq y; have a2 := bulkN_eq y
  have hk : ∀ k ∈ y.L, deepN k ≤ deepL y.L ∧ bulkN k ≤ bulkL y.L := fun k hk => ⟨mem_deepL hk, mem_bulkL hk⟩
  rw [may_28 h, Bool.and_eq_true] at hm
  obtain ⟨a, b, hL, h1, h2⟩ := match2 hm.2
  have ka := hk a (by rw [hL]; simp); have kb := hk b (by rw [hL]; simp)
  rw [st_28 h, hL, tk0, tk1] at hlen ⊢
  unfold tree_writer_loop_b
  simp only [re25_eq]
  rw [h, hL]
  show Option.bind (tree_writer_lay [[100, 111]] false l) (fun r => Option.bind (g.tree_writer_stmt a r.1 r.2.1) fun r => Option.bind (g.tree_writer_head [119, 104, 105, 108, 101] b r.1 r.2.1) fun r => Option.bind (tree_writer_lay [[59]] r.1 r.2.1) fun r => some (r.1, r.2.1, ())) = _
  rw [lay_eq _ _ _ (by simp only [List.length_append, List.length_cons, List.length_nil] at hlen ⊢; omega)]
  simp only [Option.bind_some]
  rw [G.stmt a _ (by omega) (st_b h1) (by omega) (by simp only [List.length_append, List.length_cons, List.length_nil] at hlen ⊢; omega)]
  simp only [Option.bind_some]
  rw [G.head b _ _ (by omega) h2 (by omega) (by simp only [List.length_append, List.length_cons, List.length_nil] at hlen ⊢; omega)]
  simp only [Option.bind_some]
  rw [lay_eq _ _ _ (by simp only [List.length_append, List.length_cons, List.length_nil] at hlen ⊢; omega)]
  simp
theorem w_loop30 (G : GoodW g n) (y : Node) (l : List Str) (hd : 20 * deepN y + 12 ≤ n + 1) (h : y.Kind = 30) (hm : mayN y = true) (hb : bulkN y ≤ 2097152) (hlen : l.length + (tkN y).st.length ≤ 274877906944) : tree_writer_loop_b g y false l = some (false, l ++ (tkN y).st, ()) := by
  have a1 := deepN_eq y; have a2 := bulkN_eq y
  have hk : ∀ k ∈ y.L, deepN k ≤ deepL y.L ∧ bulkN k ≤ bulkL y.L := fun k hk => ⟨mem_deepL hk, mem_bulkL hk⟩
  rw [may_30 h, Bool.and_eq_true] at hm
  obtain ⟨a, b, c, hL, h1, h2, h3⟩ := match3 hm.2
  have ka := hk a (by rw [hL]; simp); have kb := hk b (by rw [hL]; simp); have kc := hk c (by rw [hL]; simp)
  rw [st_30 h, hL, tk0, tk1, tk2] at hlen ⊢
  unfold tree_writer_loop_b
  simp only [re25_eq]
  rw [h, hL]
  show Option.bind (tree_writer_lay [[102, 111, 114], [40]] false l) (fun r => Option.bind (g.tree_writer_begin a 11 true r.2.1) fun r => Option.bind (tree_writer_lay [[105, 110]] false r.2.1) fun r => Option.bind (g.tree_writer_at b 0 r.1 r.2.1) fun r => Option.bind (tree_writer_lay [[41]] r.1 r.2.1) fun r => Option.bind (g.tree_writer_stmt c r.1 r.2.1) fun r => some (r.1, r.2.1, ())) = _
  rw [lay_eq _ _ _ (by simp only [List.length_append, List.length_cons, List.length_nil] at hlen ⊢; omega)]
  simp only [Option.bind_some]
  rw [G.begin_ a 11 (by omega) (begin_w h1) (by omega) true _ (by simp only [List.length_append, List.length_cons, List.length_nil] at hlen ⊢; omega)]
  simp only [Option.bind_some]
  rw [lay_eq _ _ _ (by simp only [List.length_append, List.length_cons, List.length_nil] at hlen ⊢; omega)]
  simp only [Option.bind_some]
  rw [G.at_ b 0 (by omega) h2 (by omega) false _ (by simp only [List.length_append, List.length_cons, List.length_nil] at hlen ⊢; omega)]
  simp only [Option.bind_some]
  rw [lay_eq _ _ _ (by simp only [List.length_append, List.length_cons, List.length_nil] at hlen ⊢; omega)]
  simp only [Option.bind_some]
  rw [G.stmt c _ (by omega) (st_b h3) (by omega) (by simp only [List.length_append, List.length_cons, List.length_nil] at hlen ⊢; omega)]
  simp
theorem w_loop29 (G : GoodW g n) (y : Node) (l : List Str) (hd : 20 * deepN y + 12 ≤ n + 1) (h : y.Kind = 29) (hm : mayN y = true) (hb : bulkN y ≤ 2097152) (hlen : l.length + (tkN y).st.length ≤ 274877906944) : tree_writer_loop_b g y false l = some (false, l ++ (tkN y).st, ()) := by
  have a1 := deepN_eq y; have a2 := bulkN_eq y
  have hk : ∀ k ∈ y.L, deepN k ≤ deepL y.L ∧ bulkN k ≤ bulkL y.L := fun k hk => ⟨mem_deepL hk, mem_bulkL hk⟩
  rw [may_29 h, Bool.and_eq_true] at hm
  obtain ⟨a, b, c, d, hL, h1, h2, h3, h4⟩ := match4 hm.2
  have ka := hk a (by rw [hL]; simp); have kb := hk b (by rw [hL]; simp); have kc := hk c (by rw [hL]; simp); have kd := hk d (by rw [hL]; simp)
  rw [st_29 h, hL, tk0, tk1, tk2, tk3] at hlen ⊢
  unfold tree_writer_loop_b
  simp only [re25_eq]
  rw [h, hL]
  show Option.bind (tree_writer_lay [[102, 111, 114], [40]] false l) (fun r => Option.bind (g.tree_writer_begin a 0 true r.2.1) fun r => Lp.loop (tree_writer_loop_l1 g) ([a, b, c, d], [b, c], 2, 0, false, r.2.1, ())) = _
  rw [lay_eq _ _ _ (by simp only [List.length_append, List.length_cons, List.length_nil] at hlen ⊢; omega)]
  simp only [Option.bind_some]
  rw [G.begin_ a 0 (by omega) (begin_v h1) (by omega) true _ (by simp only [List.length_append, List.length_cons, List.length_nil] at hlen ⊢; omega)]
  simp only [Option.bind_some]
  refine loop_of (n := 3) ?_ (by omega)
  have hs : ∀ (i : Nat) (q : Node) (l : List Str), i < 2 → getI [b, c] (i : Int) = some q → beginOK q = true → 20 * deepN q + 11 ≤ n → bulkN q ≤ 2097152 → l.length + ([59] :: beginT (tkN q) 0 false).length ≤ 274877906944 → tree_writer_loop_l1 g ([a, b, c, d], [b, c], 2, (i : Int), false, l, ()) = some (.inl ([a, b, c, d], [b, c], 2, ((i + 1 : Nat) : Int), false, l ++ ([59] :: beginT (tkN q) 0 false), ())) := by
    intro i q l hi hg ho hd hb hlen
    have w : IntKind.wrap .i64 ((i : Int) + 1) = ((i + 1 : Nat) : Int) := by rw [wrap_i64 (by omega) (by omega)]; rfl
    have hi : decide ((i : Int) < 2) = true := by simpa using by omega
    simp only [tree_writer_loop_l1, hi, if_true, hg, Option.bind_some, re25_eq]
    rw [lay_eq _ _ _ (by simp only [List.length_append, List.length_cons, List.length_nil] at hlen ⊢; omega)]
    simp only [Option.bind_some]
    rw [G.begin_ q 0 hd ho hb false _ (by simp only [List.length_append, List.length_cons, List.length_nil] at hlen ⊢; omega), Option.bind_some, w]
    simp
  have e0 : ∀ l : List Str, l.length + ([59] :: beginT (tkN b) 0 false).length ≤ 274877906944 → tree_writer_loop_l1 g ([a, b, c, d], [b, c], 2, 0, false, l, ()) = some (.inl ([a, b, c, d], [b, c], 2, 1, false, l ++ ([59] :: beginT (tkN b) 0 false), ())) := fun l h => hs 0 b l (by omega) rfl (begin_f h2) (by omega) (by omega) h
  have e1 : ∀ l : List Str, l.length + ([59] :: beginT (tkN c) 0 false).length ≤ 274877906944 → tree_writer_loop_l1 g ([a, b, c, d], [b, c], 2, 1, false, l, ()) = some (.inl ([a, b, c, d], [b, c], 2, 2, false, l ++ ([59] :: beginT (tkN c) 0 false), ())) := fun l h => hs 1 c l (by omega) rfl (begin_f h3) (by omega) (by omega) h
  rw [loopN_go (e0 _ (by simp only [List.length_append, List.length_cons, List.length_nil] at hlen ⊢; omega)), loopN_go (e1 _ (by simp only [List.length_append, List.length_cons, List.length_nil] at hlen ⊢; omega))]
  refine loopN_out ?_
  simp only [tree_writer_loop_l1]
  rw [if_neg (by decide), lay_eq _ _ _ (by simp only [List.length_append, List.length_cons, List.length_nil] at hlen ⊢; omega)]
  have w : IntKind.wrap .i64 ((([a, b, c, d].length : Nat) : Int) - 1) = 3 := by show IntKind.wrap .i64 (((4 : Nat) : Int) - 1) = 3; decide
  simp only [Option.bind_some, w, getI3, re25_eq]
  rw [G.stmt d _ (by omega) (st_b h4) (by omega) (by simp only [List.length_append, List.length_cons, List.length_nil] at hlen ⊢; omega)]
  simp
theorem w_loop (G : GoodW g n) (y : Node) (l : List Str) (hd : 20 * deepN y + 12 ≤ n + 1) (h1 : 27 ≤ y.Kind) (h2 : y.Kind ≤ 30) (hm : mayN y = true) (hb : bulkN y ≤ 2097152) (hlen : l.length + (tkN y).st.length ≤ 274877906944) : tree_writer_loop_b g y false l = some (false, l ++ (tkN y).st, ()) := by
  have : y.Kind = 27 ∨ y.Kind = 28 ∨ y.Kind = 29 ∨ y.Kind = 30 := by omega
  rcases this with h | h | h | h
  · exact w_loop27 G y l hd h hm hb hlen
  · exact w_loop28 G y l hd h hm hb hlen
  · exact w_loop29 G y l hd h hm hb hlen
  · exact w_loop30 G y l hd h hm hb hlen
theorem w_word (G : GoodW g n) (y : Node) (l : List Str) (hd : 20 * deepN y + 12 ≤ n + 1) (h : y.Kind = 31 ∨ y.Kind = 32 ∨ y.Kind = 33 ∨ y.Kind = 34 ∨ y.Kind = 40) (hm : mayN y = true) (hb : bulkN y ≤ 2097152) (hlen : l.length + (tkN y).st.length ≤ 274877906944) : tree_writer_word_b g y false l = some (false, l ++ (tkN y).st, ()) := by
  have a1 := deepN_eq y; have a2 := bulkN_eq y; have a3 := len_bulkL y.L
  have hk : ∀ k ∈ y.L, oneP k 101 = true := by
    rcases h with h | h | h | h | h
    · rw [may_31 h, Bool.and_eq_true] at hm; rw [match0 hm.2]; simp
    · rw [may_32 h, Bool.and_eq_true] at hm; rw [match0 hm.2]; simp
    · rw [may_33 h, Bool.and_eq_true] at hm
      rcases ret_of hm.2 with e | ⟨a, e, ha⟩ <;> rw [e]
      · simp
      · simpa using ha
    · rw [may_34 h, Bool.and_eq_true] at hm
      obtain ⟨a, e, ha⟩ := match1 hm.2
      rw [e]; simpa using ha
    · rw [may_40 h, Bool.and_eq_true] at hm; rw [match0 hm.2]; simp
  have hw := fun l h => word_step (g := g) (x := y) (by omega) (fun k hk1 l h => G.at_ k 0 (by have := mem_deepL hk1; omega) (hk k hk1) (by have := mem_bulkL hk1; omega) false l h) l h
  have hj : ∀ l : List Str, l.length + ((if (y.Name == ([] : Str)) = true then [] else [y.Name]) ++ ((tkL y.L).flatMap (fun k => atT k 0 false) ++ [[59]])).length ≤ 274877906944 → tree_writer_word_j1 g false l y = some (false, l ++ ((if (y.Name == ([] : Str)) = true then [] else [y.Name]) ++ ((tkL y.L).flatMap (fun k => atT k 0 false) ++ [[59]])), ()) := by
    intro l hlen
    unfold tree_writer_word_j1
    by_cases hn : (y.Name == ([] : Str)) = true
    · rw [hn] at hlen ⊢
      simp only [if_true, List.nil_append, Bool.not_true, Bool.false_eq_true, if_false] at hlen ⊢
      exact hw l hlen
    · have hn : (y.Name == ([] : Str)) = false := by simpa using hn
      rw [hn] at hlen ⊢
      simp only [Bool.false_eq_true, if_false, Bool.not_false, if_true] at hlen ⊢
      rw [lay_eq _ _ _ (by simp only [List.length_append, List.length_cons, List.length_nil] at hlen ⊢; omega)]
      simp only [Option.bind_some]
      rw [hw _ (by simp only [List.length_append, List.length_cons, List.length_nil] at hlen ⊢; omega)]
      simp
  have hst : (tkN y).st = wordT y ++ ((tkL y.L).flatMap (fun k => atT k 0 false) ++ [[59]]) := by
    rcases h with h | h | h | h | h
    · exact st_31 h
    · exact st_32 h
    · exact st_33 h
    · exact st_34 h
    · exact st_40 h
  rw [hst] at hlen ⊢
  unfold wordT at hlen ⊢
  rw [List.append_assoc] at hlen ⊢
  unfold tree_writer_word_b
  simp only [re25_eq]
  have hgo : ∀ w : Str, l.length + ([w] ++ ((if (y.Name == ([] : Str)) = true then [] else [y.Name]) ++ ((tkL y.L).flatMap (fun k => atT k 0 false) ++ [[59]]))).length ≤ 274877906944 → Option.bind (tree_writer_lay [w] false l) (fun r => tree_writer_word_j1 g r.1 r.2.1 y) = some (false, l ++ ([w] ++ ((if (y.Name == ([] : Str)) = true then [] else [y.Name]) ++ ((tkL y.L).flatMap (fun k => atT k 0 false) ++ [[59]]))), ()) := by
    intro w hlen
    rw [lay_eq _ _ _ (by simp only [List.length_append, List.length_cons, List.length_nil] at hlen ⊢; omega)]
    simp only [Option.bind_some]
    rw [hj _ (by simp only [List.length_append, List.length_cons, List.length_nil] at hlen ⊢; omega)]
    simp
  rcases h with h | h | h | h | h
  · rw [h] at hlen ⊢
    exact hgo _ hlen
  · rw [h] at hlen ⊢
    exact hgo _ hlen
  · rw [h] at hlen ⊢
    exact hgo _ hlen
  · rw [h] at hlen ⊢
    exact hgo _ hlen
  · rw [h] at hlen ⊢
    exact hj l hlen
end
end Go.D07.W


/- Chapter 7, plainly: the writer lays the tokens of any tree down that may be. -/
namespace Go.D07.W
open Go Go.Gw Go.Dn
set_option linter.unusedSimpArgs false
set_option maxRecDepth 100000

section
variable {g : Rec_tree_writer_stmts} {n : Nat}
theorem w_stmt24 (G : GoodW g n) (y : Node) (l : List Str) (hd : 20 * deepN y + 14 ≤ n + 1) (h : y.Kind = 24) (hm : mayN y = true) (hb : bulkN y ≤ 2097152) (hlen : l.length + (tkN y).st.length ≤ 274877906944) : tree_writer_stmt_b g y false l = some (false, l ++ (tkN y).st, ()) := by
  have a1 := deepN_eq y; have a2 := bulkN_eq y
  have hk : ∀ k ∈ y.L, deepN k ≤ deepL y.L ∧ bulkN k ≤ bulkL y.L := fun k hk => ⟨mem_deepL hk, mem_bulkL hk⟩
  rw [may_24 h, Bool.and_eq_true] at hm
  obtain ⟨a, hL, h1⟩ := match1 hm.2
  have ka := hk a (by rw [hL]; simp)
  have ha := G.at_ a 0 (by omega) h1 (by omega) false l
  rw [st_24 h, hL, tk0] at hlen ⊢
  unfold tree_writer_stmt_b
  simp only [re25_eq]
  rw [h, hL]
  obtain ⟨w, r, ht⟩ : ∃ w r, atT (tkN a) 0 false = w :: r := by
    cases e : atT (tkN a) 0 false with
    | nil => exact absurd e (at_ne h1 0 false)
    | cons w r => exact ⟨w, r, rfl⟩
  rw [ht] at hlen ha ⊢
  have hge : getI (l ++ w :: r) ((l.length : Nat) : Int) = some w := by
    rw [getI_nat]; simp
  have e : ∀ r : Bool × List Str × Unit, r = (false, l ++ w :: r.2.1.drop (l.length + 1), ()) → True := fun _ _ => trivial
  clear e
  have hgo : ∀ l2 : List Str, l2 = l ++ w :: r → (Option.bind (getI l2 ((l.length : Nat) : Int)) fun _ => Option.bind (getI l2 ((l.length : Nat) : Int)) fun x_5 =>
      if (x_5 == [123] || x_5 == [102, 117, 110, 99, 116, 105, 111, 110]) = true then
        Option.bind (slices_Insert ((l.length : Nat) : Int) l2 ([[40]] : List Str)) fun r_7 => Option.bind (room (r_7.1.length + ([[41]] : List Str).length)) fun _ => Option.bind (tree_writer_lay ([[59]] : List Str) false (r_7.1 ++ [[41]])) fun r_9 => some (r_9.1, r_9.2.1, ())
      else Option.bind (tree_writer_lay ([[59]] : List Str) false l2) fun r_10 => some (r_10.1, r_10.2.1, ())) = some (false, l ++ (bareT (w :: r) ++ [[59]]), ()) := by
    intro l2 e2
    rw [e2, hge]
    simp only [Option.bind_some]
    unfold bareT at hlen ⊢
    by_cases hc : (w == [123] || w == [102, 117, 110, 99, 116, 105, 111, 110]) = true
    · have hc2 : (w == ([123] : Str) || w == ([102, 117, 110, 99, 116, 105, 111, 110] : Str)) = true := hc
      simp only [hc2, if_true] at hlen ⊢
      rw [insert_ok _ _ _ (by simp) (by simp) (by simp only [List.length_append, List.length_cons, List.length_nil] at hlen ⊢; omega)]
      simp only [Option.bind_some]
      have e3 : (l ++ w :: r).take l.length ++ ([[40]] ++ (l ++ w :: r).drop l.length) = l ++ ([40] :: w :: r) := by simp
      rw [e3, room_ok (by simp only [List.length_append, List.length_cons, List.length_nil] at hlen ⊢; omega)]
      simp only [Option.bind_some]
      rw [lay_eq _ _ _ (by simp only [List.length_append, List.length_cons, List.length_nil] at hlen ⊢; omega)]
      simp
    · have hc2 : ¬ (w == ([123] : Str) || w == ([102, 117, 110, 99, 116, 105, 111, 110] : Str)) = true := hc
      simp only [hc2, Bool.false_eq_true, if_false] at hlen ⊢
      rw [lay_eq _ _ _ (by simp only [List.length_append, List.length_cons, List.length_nil] at hlen ⊢; omega)]
      simp
  show Option.bind (g.tree_writer_at a 0 false l) (fun q => Option.bind (getI q.2.1 ((l.length : Nat) : Int)) fun _ => Option.bind (getI q.2.1 ((l.length : Nat) : Int)) fun x_5 =>
      if (x_5 == [123] || x_5 == [102, 117, 110, 99, 116, 105, 111, 110]) = true then
        Option.bind (slices_Insert ((l.length : Nat) : Int) q.2.1 ([[40]] : List Str)) fun r_7 => Option.bind (room (r_7.1.length + ([[41]] : List Str).length)) fun _ => Option.bind (tree_writer_lay ([[59]] : List Str) q.1 (r_7.1 ++ [[41]])) fun r_9 => some (r_9.1, r_9.2.1, ())
      else Option.bind (tree_writer_lay ([[59]] : List Str) q.1 q.2.1) fun r_10 => some (r_10.1, r_10.2.1, ())) = _
  rw [ha (by
    unfold bareT at hlen
    dsimp only at hlen
    split at hlen
    · simp only [List.length_append, List.length_cons, List.length_nil] at hlen ⊢; omega
    · simp only [List.length_append, List.length_cons, List.length_nil] at hlen ⊢; omega)]
  exact hgo _ rfl
theorem w_stmt35 (G : GoodW g n) (y : Node) (l : List Str) (hd : 20 * deepN y + 14 ≤ n + 1) (h : y.Kind = 35) (hm : mayN y = true) (hb : bulkN y ≤ 2097152) (hlen : l.length + (tkN y).st.length ≤ 274877906944) : tree_writer_stmt_b g y false l = some (false, l ++ (tkN y).st, ()) := by
  have a1 := deepN_eq y; have a2 := bulkN_eq y
  have hk : ∀ k ∈ y.L, deepN k ≤ deepL y.L ∧ bulkN k ≤ bulkL y.L := fun k hk => ⟨mem_deepL hk, mem_bulkL hk⟩
  rw [may_35 h, Bool.and_eq_true] at hm
  obtain ⟨a, b, c, hL, h1, h2, h3, _⟩ := try_of hm.2
  have ka := hk a (by rw [hL]; simp); have kb := hk b (by rw [hL]; simp); have kc := hk c (by rw [hL]; simp)
  rw [st_35 h, hL, tk0, tk1, tk2, kids_x, kids_x] at hlen ⊢
  have hj : ∀ l : List Str, l.length + (if (c.Kind == 25) = true then [102, 105, 110, 97, 108, 108, 121] :: (tkN c).st else []).length ≤ 274877906944 → tree_writer_stmt_j1 g [a, b, c] false l = some (false, l ++ (if (c.Kind == 25) = true then [102, 105, 110, 97, 108, 108, 121] :: (tkN c).st else []), ()) := by
    intro l hlen
    unfold tree_writer_stmt_j1
    simp only [getI2, Option.bind_some, re25_eq]
    rcases one_99 h3 with ⟨e, ho⟩ | e
    · rw [e] at hlen ⊢
      simp only [beq_self_eq_true, if_true] at hlen ⊢
      rw [lay_eq _ _ _ (by simp only [List.length_append, List.length_cons, List.length_nil] at hlen ⊢; omega)]
      simp only [Option.bind_some]
      rw [G.stmt c _ (by omega) (st_b ho) (by omega) (by simp only [List.length_append, List.length_cons, List.length_nil] at hlen ⊢; omega)]
      simp
    · rw [e]
      show some (false, l, ()) = some (false, l ++ [], ())
      simp
  unfold tree_writer_stmt_b
  simp only [re25_eq]
  rw [h, hL]
  show Option.bind (tree_writer_lay [[116, 114, 121]] false l) (fun r => Option.bind (g.tree_writer_stmt a r.1 r.2.1) fun r => if (b.Kind == 25) = true then Option.bind (tree_writer_lay [[99, 97, 116, 99, 104], [40], y.Name, [41]] r.1 r.2.1) fun r => Option.bind (g.tree_writer_stmt b r.1 r.2.1) fun r => tree_writer_stmt_j1 g [a, b, c] r.1 r.2.1 else tree_writer_stmt_j1 g [a, b, c] r.1 r.2.1) = _
  rw [lay_eq _ _ _ (by simp only [List.length_append, List.length_cons, List.length_nil] at hlen ⊢; omega)]
  simp only [Option.bind_some]
  rw [G.stmt a _ (by omega) (st_b h1) (by omega) (by simp only [List.length_append, List.length_cons, List.length_nil] at hlen ⊢; omega)]
  simp only [Option.bind_some]
  rcases one_99 h2 with ⟨e, ho⟩ | e
  · rw [e] at hlen ⊢
    simp only [beq_self_eq_true, if_true] at hlen ⊢
    rw [lay_eq _ _ _ (by simp only [List.length_append, List.length_cons, List.length_nil] at hlen ⊢; omega)]
    simp only [Option.bind_some]
    rw [G.stmt b _ (by omega) (st_b ho) (by omega) (by simp only [List.length_append, List.length_cons, List.length_nil] at hlen ⊢; omega)]
    simp only [Option.bind_some]
    rw [hj _ (by simp only [List.length_append, List.length_cons, List.length_nil] at hlen ⊢; omega)]
    simp
  · rw [e] at hlen ⊢
    have e1 : ((42 : Int) == 25) = false := rfl
    simp only [e1, Bool.false_eq_true, if_false, List.nil_append] at hlen ⊢
    rw [hj _ (by simp only [List.length_append, List.length_cons, List.length_nil] at hlen ⊢; omega)]
    simp
theorem w_stmt26 (G : GoodW g n) (y : Node) (l : List Str) (hd : 20 * deepN y + 14 ≤ n + 1) (h : y.Kind = 26) (hm : mayN y = true) (hb : bulkN y ≤ 2097152) (hlen : l.length + (tkN y).st.length ≤ 274877906944) : tree_writer_stmt_b g y false l = some (false, l ++ (tkN y).st, ()) := by
  have a1 := deepN_eq y; have a2 := bulkN_eq y
  have hk : ∀ k ∈ y.L, deepN k ≤ deepL y.L ∧ bulkN k ≤ bulkL y.L := fun k hk => ⟨mem_deepL hk, mem_bulkL hk⟩
  rw [may_26 h, Bool.and_eq_true] at hm
  rcases if_of hm.2 with ⟨a, b, hL, h1, h2⟩ | ⟨a, b, c, hL, h1, h2, h3⟩
  · have ka := hk a (by rw [hL]; simp); have kb := hk b (by rw [hL]; simp)
    rw [st_26 h, hL, tk0, tk1, tk2n] at hlen ⊢
    unfold tree_writer_stmt_b
    simp only [re25_eq]
    rw [h, hL]
    show Option.bind (g.tree_writer_head [105, 102] a false l) (fun r => Option.bind (g.tree_writer_stmt b r.1 r.2.1) fun r => some (r.1, r.2.1, ())) = _
    rw [G.head a _ _ (by omega) h1 (by omega) (by simp only [List.length_append, List.length_cons, List.length_nil] at hlen ⊢; omega)]
    simp only [Option.bind_some]
    rw [G.stmt b _ (by omega) (st_b h2) (by omega) (by simp only [List.length_append, List.length_cons, List.length_nil] at hlen ⊢; omega)]
    simp
  · have ka := hk a (by rw [hL]; simp); have kb := hk b (by rw [hL]; simp); have kc := hk c (by rw [hL]; simp)
    rw [st_26 h, hL, tk0, tk1, tk2] at hlen ⊢
    unfold tree_writer_stmt_b
    simp only [re25_eq]
    rw [h, hL]
    show Option.bind (g.tree_writer_head [105, 102] a false l) (fun r => Option.bind (g.tree_writer_stmt b r.1 r.2.1) fun r => Option.bind (tree_writer_lay [[101, 108, 115, 101]] r.1 r.2.1) fun r => Option.bind (g.tree_writer_stmt c r.1 r.2.1) fun r => some (r.1, r.2.1, ())) = _
    rw [G.head a _ _ (by omega) h1 (by omega) (by simp only [List.length_append, List.length_cons, List.length_nil] at hlen ⊢; omega)]
    simp only [Option.bind_some]
    rw [G.stmt b _ (by omega) (st_b h2) (by omega) (by simp only [List.length_append, List.length_cons, List.length_nil] at hlen ⊢; omega)]
    simp only [Option.bind_some]
    rw [lay_eq _ _ _ (by simp only [List.length_append, List.length_cons, List.length_nil] at hlen ⊢; omega)]
    simp only [Option.bind_some]
    rw [G.stmt c _ (by omega) (st_b h3) (by omega) (by simp only [List.length_append, List.length_cons, List.length_nil] at hlen ⊢; omega)]
    simp
theorem w_stmt37 (G : GoodW g n) (y : Node) (l : List Str) (hd : 20 * deepN y + 14 ≤ n + 1) (h : y.Kind = 37) (hm : mayN y = true) (hb : bulkN y ≤ 2097152) (hlen : l.length + (tkN y).st.length ≤ 274877906944) : tree_writer_stmt_b g y false l = some (false, l ++ (tkN y).st, ()) := by
  have a1 := deepN_eq y; have a2 := bulkN_eq y
  have hk : ∀ k ∈ y.L, deepN k ≤ deepL y.L ∧ bulkN k ≤ bulkL y.L := fun k hk => ⟨mem_deepL hk, mem_bulkL hk⟩
  rw [may_37 h, Bool.and_eq_true] at hm
  obtain ⟨a, r, hL, h1, h2⟩ := match1M hm.2
  have ka := hk a (by rw [hL]; simp)
  have kr : deepL r ≤ deepL y.L := by rw [hL, deepL_cons]; omega
  have kr2 : bulkL r ≤ bulkL y.L := by rw [hL]; simp [bulkL]
  rw [st_37 h, hL, tk0, tkT, kids_x] at hlen ⊢
  have hj : ∀ w : Str, l.length + (w :: beginT (tkN a) 0 false ++ ([58] :: stmtsT (tkL r))).length ≤ 274877906944 → tree_writer_stmt_j2 g (a :: r) w false l = some (false, l ++ (w :: beginT (tkN a) 0 false ++ ([58] :: stmtsT (tkL r))), ()) := by
    intro w hlen
    unfold tree_writer_stmt_j2
    rw [lay_eq _ _ _ (by simp only [List.length_append, List.length_cons, List.length_nil] at hlen ⊢; omega)]
    simp only [Option.bind_some, getI0, re25_eq]
    rw [G.begin_ a 0 (by omega) (begin_f h1) (by omega) false _ (by simp only [List.length_append, List.length_cons, List.length_nil] at hlen ⊢; omega)]
    simp only [Option.bind_some]
    rw [lay_eq _ _ _ (by simp only [List.length_append, List.length_cons, List.length_nil] at hlen ⊢; omega)]
    rw [cut1]
    simp only [Option.bind_some]
    rw [G.stmts r _ (by omega) (fun k hk => st_s (h2 k hk)) (by omega) (by simp only [List.length_append, List.length_cons, List.length_nil] at hlen ⊢; omega)]
    simp
  unfold tree_writer_stmt_b
  simp only [re25_eq]
  rw [h, hL]
  show (if (a.Kind != 42) = true then tree_writer_stmt_j2 g (a :: r) [99, 97, 115, 101] false l else tree_writer_stmt_j2 g (a :: r) [100, 101, 102, 97, 117, 108, 116] false l) = _
  cases hc : a.Kind != 42 with
  | true =>
    rw [hc] at hlen
    exact hj _ hlen
  | false =>
    rw [hc] at hlen
    exact hj _ hlen
theorem w_stmt (G : GoodW g n) (y : Node) (l : List Str) (hd : 20 * deepN y + 14 ≤ n + 1) (ho : stOK y = true) (hb : bulkN y ≤ 2097152) (hlen : l.length + (tkN y).st.length ≤ 274877906944) : tree_writer_stmt_b g y false l = some (false, l ++ (tkN y).st, ()) := by
  have a1 := deepN_eq y; have a2 := bulkN_eq y
  have hk : ∀ k ∈ y.L, deepN k ≤ deepL y.L ∧ bulkN k ≤ bulkL y.L := fun k hk => ⟨mem_deepL hk, mem_bulkL hk⟩
  obtain ⟨hm, hK⟩ := st_of ho
  have hloop : 27 ≤ y.Kind → y.Kind ≤ 30 → Option.bind (g.tree_writer_loop y false l) (fun r => some (r.1, r.2.1, ())) = some (false, l ++ (tkN y).st, ()) := fun h1 h2 => by
    rw [G.loop y l (by omega) h1 h2 hm hb hlen]; rfl
  have hword : (y.Kind = 31 ∨ y.Kind = 32 ∨ y.Kind = 33 ∨ y.Kind = 34 ∨ y.Kind = 40) → Option.bind (g.tree_writer_word y false l) (fun r => some (r.1, r.2.1, ())) = some (false, l ++ (tkN y).st, ()) := fun h1 => by
    rw [G.word y l (by omega) h1 hm hb hlen]; rfl
  rcases hK with h | h | h | h | h | h | h | h | h | h | h | h | h | h | h | h | h | h
  · rw [st_22 h] at hlen ⊢
    have e : beginT (tkN y) 0 false = [118, 97, 114] :: commas (declT false) (tkL y.L) := by unfold beginT; rw [kids_x, kids_k, h]; rfl
    rw [← e] at hlen ⊢
    unfold tree_writer_stmt_b
    simp only [re25_eq]
    rw [h]
    show Option.bind (g.tree_writer_begin y 0 false l) (fun r => Option.bind (tree_writer_lay [[59]] r.1 r.2.1) fun r => some (r.1, r.2.1, ())) = _
    rw [G.begin_ y 0 (by omega) (begin_22 h hm) hb false l (by simp only [List.length_append, List.length_cons, List.length_nil] at hlen ⊢; omega)]
    simp only [Option.bind_some]
    rw [lay_eq _ _ _ (by simp only [List.length_append, List.length_cons, List.length_nil] at hlen ⊢; omega)]
    simp
  · exact w_stmt24 G y l hd h hm hb hlen
  · rw [may_25 h, Bool.and_eq_true] at hm
    rw [st_25 h] at hlen ⊢
    unfold tree_writer_stmt_b
    simp only [re25_eq]
    rw [h]
    show Option.bind (tree_writer_lay [[123]] false l) (fun r => Option.bind (g.tree_writer_stmts y.L r.1 r.2.1) fun r => Option.bind (tree_writer_lay [[125]] r.1 r.2.1) fun r => some (r.1, r.2.1, ())) = _
    rw [lay_eq _ _ _ (by simp only [List.length_append, List.length_cons, List.length_nil] at hlen ⊢; omega)]
    simp only [Option.bind_some]
    rw [G.stmts y.L _ (by omega) (fun k hk => st_s (matchM hm.2 k hk)) (by omega) (by simp only [List.length_append, List.length_cons, List.length_nil] at hlen ⊢; omega)]
    simp only [Option.bind_some]
    rw [lay_eq _ _ _ (by simp only [List.length_append, List.length_cons, List.length_nil] at hlen ⊢; omega)]
    simp
  · exact w_stmt26 G y l hd h hm hb hlen
  · have := hloop (by omega) (by omega)
    unfold tree_writer_stmt_b; simp only [re25_eq]; rw [h]; exact this
  · have := hloop (by omega) (by omega)
    unfold tree_writer_stmt_b; simp only [re25_eq]; rw [h]; exact this
  · have := hloop (by omega) (by omega)
    unfold tree_writer_stmt_b; simp only [re25_eq]; rw [h]; exact this
  · have := hloop (by omega) (by omega)
    unfold tree_writer_stmt_b; simp only [re25_eq]; rw [h]; exact this
  · have := hword (by omega)
    unfold tree_writer_stmt_b; simp only [re25_eq]; rw [h]; exact this
  · have := hword (by omega)
    unfold tree_writer_stmt_b; simp only [re25_eq]; rw [h]; exact this
  · have := hword (by omega)
    unfold tree_writer_stmt_b; simp only [re25_eq]; rw [h]; exact this
  · have := hword (by omega)
    unfold tree_writer_stmt_b; simp only [re25_eq]; rw [h]; exact this
  · exact w_stmt35 G y l hd h hm hb hlen
  · rw [may_36 h, Bool.and_eq_true] at hm
    obtain ⟨a, r, hL, h1, h2⟩ := switch_of hm.2
    have ka := hk a (by rw [hL]; simp)
    have kr : deepL r ≤ deepL y.L := by rw [hL, deepL_cons]; omega
    have kr2 : bulkL r ≤ bulkL y.L := by rw [hL]; simp [bulkL]
    rw [st_36 h, hL, tk0, tkT] at hlen ⊢
    unfold tree_writer_stmt_b
    simp only [re25_eq]
    rw [h, hL]
    show Option.bind (g.tree_writer_head [115, 119, 105, 116, 99, 104] a false l) (fun q => Option.bind (tree_writer_lay [[123]] q.1 q.2.1) fun q => Option.bind (cutL (a :: r) 1 (((a :: r).length : Nat) : Int)) fun s => Option.bind (g.tree_writer_stmts s q.1 q.2.1) fun q => Option.bind (tree_writer_lay [[125]] q.1 q.2.1) fun q => some (q.1, q.2.1, ())) = _
    rw [G.head a _ _ (by omega) h1 (by omega) (by simp only [List.length_append, List.length_cons, List.length_nil] at hlen ⊢; omega)]
    simp only [Option.bind_some]
    rw [lay_eq _ _ _ (by simp only [List.length_append, List.length_cons, List.length_nil] at hlen ⊢; omega), cut1]
    simp only [Option.bind_some]
    rw [G.stmts r _ (by omega) (fun k hk => st_k (cases_of h2 k hk)) (by omega) (by simp only [List.length_append, List.length_cons, List.length_nil] at hlen ⊢; omega)]
    simp only [Option.bind_some]
    rw [lay_eq _ _ _ (by simp only [List.length_append, List.length_cons, List.length_nil] at hlen ⊢; omega)]
    simp
  · exact w_stmt37 G y l hd h hm hb hlen
  · rw [may_38 h, Bool.and_eq_true] at hm
    obtain ⟨a, hL, h1⟩ := match1 hm.2
    have ka := hk a (by rw [hL]; simp)
    rw [st_38 h, hL, tk0] at hlen ⊢
    unfold tree_writer_stmt_b
    simp only [re25_eq]
    rw [h, hL]
    show Option.bind (tree_writer_lay [y.Name, [58]] false l) (fun r => Option.bind (g.tree_writer_stmt a r.1 r.2.1) fun r => some (r.1, r.2.1, ())) = _
    rw [lay_eq _ _ _ (by simp only [List.length_append, List.length_cons, List.length_nil] at hlen ⊢; omega)]
    simp only [Option.bind_some]
    rw [G.stmt a _ (by omega) (st_s h1) (by omega) (by simp only [List.length_append, List.length_cons, List.length_nil] at hlen ⊢; omega)]
    simp
  · rw [may_39 h, Bool.and_eq_true] at hm
    rw [st_39 h] at hlen ⊢
    unfold tree_writer_stmt_b
    simp only [re25_eq]
    rw [h]
    show Option.bind (g.tree_writer_function y false l) (fun r => some (r.1, r.2.1, ())) = _
    rw [G.func y (by omega) (fun k hk => st_x (matchM hm.2 k hk)) hb false l hlen]; rfl
  · have := hword (by omega)
    unfold tree_writer_stmt_b; simp only [re25_eq]; rw [h]; exact this
end
theorem good_n : ∀ n : Nat, GoodW (Rec_tree_writer_stmts_g n) n
  | 0 => ⟨by intros; omega, by intros; omega, by intros; omega, by intros; omega, by intros; omega, by intros; omega, by intros; omega, by intros; omega, by intros; omega, by intros; omega, by intros; omega, by intros; omega, by intros; omega, by intros; omega, by intros; omega, by intros; omega, by intros; omega, by intros; omega, by intros; omega, by intros; omega, by intros; omega, by intros; omega, by intros; omega, by intros; omega, by intros; omega⟩
  | n + 1 =>
    have G := good_n n
    ⟨w_at G, w_inside G, w_at1 G, w_expr G, w_arr G, w_arr1 G, w_obj G, w_obj1 G, w_list G, w_func G, w_body G, w_body1 G, w_op G, w_idx G, w_idx1 G, w_arg G, w_arg1 G, w_thn G, w_thn1 G, w_head G, w_begin G, w_loop G, w_word G, w_stmt G, w_stmts G⟩
theorem stmts_total (ls : List Node) (hk : ∀ k ∈ ls, stOK k = true) (hb : bulkL ls ≤ 2097152) (hd : deepL ls ≤ 10000000) (hlen : (stmtsT (tkL ls)).length ≤ 274877906944) : tree_writer_stmts ls false [] = some (false, stmtsT (tkL ls), ()) := by
  have := (good_n 1000000000000).stmts ls [] (by omega) hk hb (by simpa using hlen)
  rw [List.nil_append] at this
  exact this
end Go.D07.W


/- Chapter 7, plainly: how long what is written can be; a tree's text. -/
namespace Go.D07.W
open Go Go.Gw Go.Dn
set_option linter.unusedSimpArgs false
set_option maxRecDepth 100000
noncomputable section

/-- bytes of tokens, a blank for each -/
def wt (l : List Str) : Nat := (l.map fun s => s.length + 1).sum
theorem wt_nil : wt [] = 0 := rfl
theorem wt_cons (s : Str) (l : List Str) : wt (s :: l) = s.length + 1 + wt l := by simp [wt]
theorem wt_app (a b : List Str) : wt (a ++ b) = wt a + wt b := by simp [wt]
theorem wt_len (l : List Str) : l.length ≤ wt l := len_sum1 l
mutual
def wN : Node → Nat
  | ⟨_, n, m, t, ns, l⟩ => n.length + (quoteP t).length + (Lib.itoa m).length + (ns.map fun s => s.length + 3).sum + 100 + wL l
def wL : List Node → Nat
  | [] => 0
  | x :: r => wN x + wL r
end
theorem wN_eq (x : Node) : wN x = x.Name.length + (quoteP x.Text).length + (Lib.itoa x.Num).length + (x.Names.map fun s => s.length + 3).sum + 100 + wL x.L := by cases x; simp [wN]
theorem wL_cons (x : Node) (r : List Node) : wL (x :: r) = wN x + wL r := by simp [wL]
theorem kids_may (x : Node) (ls : Str) : ∀ (l : List Node) (i e : Nat), kidsP x ls (mayL l) i e = true → ∀ k ∈ l, mayN k = true
  | [], _, _, _, k, hk => by cases hk
  | y :: r, i, e, h, k, hk => by
    simp only [mayL, kidsP] at h
    split at h
    · cases h
    · simp only [Bool.and_eq_true] at h
      rcases List.mem_cons.1 hk with rfl | hk
      · exact h.1.2
      · exact kids_may x ls r _ _ h.2 k hk
theorem may_parts {x : Node} (h : mayN x = true) : evenP x.Text = true ∧ ∀ k ∈ x.L, mayN k = true := by
  rw [mayN_eq] at h
  unfold mayB at h
  split at h
  · cases h
  · simp only [Bool.and_eq_true, selfP] at h
    exact ⟨h.1.1.2.1.1.1, kids_may x _ _ _ _ h.2⟩
theorem names3 : ∀ l : List Str, (l.map fun s => s.length + 3).sum ≤ 3 * (l.map fun s => s.length + 1).sum
  | [] => by simp
  | x :: r => by simp only [List.map_cons, List.sum_cons]; have := names3 r; omega
theorem quoteP_length (s : Str) (hs : s.length ≤ 100000000) (he : evenP s = true) : (quoteP s).length ≤ 3 * s.length + 2 := by
  have h1 := units_Quote_eq s hs he
  have h2 := quoteP_eq s hs he
  rw [h1] at h2
  simp only [Option.some.injEq, Prod.mk.injEq] at h2
  rw [← h2.1]
  exact quote_length s
theorem okN_parts {x : Node} (h : okN x) : i64 x.Num ∧ okL x.L := by
  cases x; simp only [okN] at h; exact h.2
mutual
theorem wN_bulk : ∀ x : Node, okN x → mayN x = true → bulkN x ≤ 100000000 → wN x ≤ 30 * bulkN x
  | ⟨k, n, m, t, ns, l⟩, ho, hm, hb => by
    obtain ⟨h1, h2⟩ := may_parts hm
    obtain ⟨h3, h4⟩ := okN_parts ho
    have b := bulkN_eq ⟨k, n, m, t, ns, l⟩
    have w := wN_eq ⟨k, n, m, t, ns, l⟩
    simp only at h1 h2 h3 h4 b w
    have hL := wL_bulk l h4 h2 (by omega)
    have hq := quoteP_length t (by omega) h1
    have hi := Lib.itoa_length_le m h3.1 (by have := h3.2; omega)
    have hs := names3 ns
    omega
theorem wL_bulk : ∀ l : List Node, okL l → (∀ k ∈ l, mayN k = true) → bulkL l ≤ 100000000 → wL l ≤ 30 * bulkL l
  | [], _, _, _ => by simp [wL]
  | x :: r, ho, hm, hb => by
    simp only [okL] at ho
    simp only [bulkL] at hb ⊢
    rw [wL_cons]
    have := wN_bulk x ho.1 (hm x List.mem_cons_self) (by omega)
    have := wL_bulk r ho.2 (fun k hk => hm k (List.mem_cons_of_mem _ hk)) (by omega)
    omega
end
/-- what is written of a node, in any way -/
structure Few (y : Node) : Prop where
  ex : ∀ no, wt ((tkN y).ex no) + 8 ≤ wN y
  st : wt (tkN y).st + 8 ≤ wN y
  item : ∀ no, wt (itemT no (tkN y)) + 4 ≤ wN y
  decl : ∀ no, wt (declT no (tkN y)) + 4 ≤ wN y
  beg : ∀ least no, wt (beginT (tkN y) least no) + 4 ≤ wN y
theorem few_at {y : Node} (h : ∀ no, wt ((tkN y).ex no) + 8 ≤ wN y) (least : Int) (no : Bool) : wt (atT (tkN y) least no) + 4 ≤ wN y := by
  unfold atT
  have h1 := h false; have h2 := h no
  split
  · simp only [wt_cons, wt_app, wt_nil, List.length_cons, List.length_nil]; omega
  · omega
theorem few_k0 (ls : List Node) (f : Tk → List Str) (h : ∀ k ∈ ls, wt (f (tkN k)) ≤ wN k) : wt (k0 (tkL ls) f) ≤ wL ls := by
  rcases ls with _ | ⟨a, r⟩
  · simp [tkL, k0, wt]
  · rw [tk0, wL_cons]; have := h a List.mem_cons_self; omega
theorem few_rest (ls : List Node) (f : Node → List Str) (h : ∀ k ∈ ls, wt (f k) + 4 ≤ wN k) : wt (ls.flatMap fun q => [44] :: f q) ≤ wL ls := by
  induction ls with
  | nil => simp [wt, wL]
  | cons a r ih =>
    have := ih fun k hk => h k (List.mem_cons_of_mem _ hk)
    have := h a List.mem_cons_self
    rw [List.flatMap_cons, wt_app, wt_cons, wL_cons]
    simp only [List.length_cons, List.length_nil]; omega
theorem few_commas (ls : List Node) (f : Tk → List Str) (h : ∀ k ∈ ls, wt (f (tkN k)) + 4 ≤ wN k) : wt (commas f (tkL ls)) ≤ wL ls := by
  rw [commas_eq]
  rcases ls with _ | ⟨a, r⟩
  · simp [commaT, wt]
  · have := few_rest r (fun y => f (tkN y)) fun k hk => h k (List.mem_cons_of_mem _ hk)
    have := h a List.mem_cons_self
    simp only [commaT, wt_app]
    rw [wL_cons]
    omega
theorem few_flat (ls : List Node) (f : Tk → List Str) (h : ∀ k ∈ ls, wt (f (tkN k)) + 4 ≤ wN k) : wt ((tkL ls).flatMap f) ≤ wL ls := by
  induction ls with
  | nil => simp [wt, wL, tkL]
  | cons a r ih =>
    have := ih fun k hk => h k (List.mem_cons_of_mem _ hk)
    have := h a List.mem_cons_self
    rw [show tkL (a :: r) = tkN a :: tkL r by simp [tkL], List.flatMap_cons, wt_app, wL_cons]
    omega
theorem few_kz (ls : List Node) (f0 f1 f2 f3 : Tk → List Str) (p q r s : Nat) (h : ∀ k ∈ ls, wt (f0 (tkN k)) ≤ wN k + p ∧ wt (f1 (tkN k)) ≤ wN k + q ∧ wt (f2 (tkN k)) ≤ wN k + r ∧ wt (f3 (tkN k)) ≤ wN k + s) :
    wt (k0 (tkL ls) f0) + (wt (k1 (tkL ls) f1) + (wt (k2 (tkL ls) f2) + wt (k3 (tkL ls) f3))) ≤ wL ls + p + q + r + s := by
  rcases ls with _ | ⟨a, _ | ⟨b, _ | ⟨c, _ | ⟨d, l⟩⟩⟩⟩
  · simp [tkL, k0, k1, k2, k3, wt]
  · have := (h a (by simp)).1
    rw [tk0, wL_cons]
    simp only [tkL, k1, k2, k3, wt_nil]; omega
  · have := (h a (by simp)).1; have := (h b (by simp)).2.1
    rw [tk0, tk1, wL_cons, wL_cons]
    simp only [tkL, k2, k3, wt_nil]; omega
  · have := (h a (by simp)).1; have := (h b (by simp)).2.1; have := (h c (by simp)).2.2.1
    rw [tk0, tk1, tk2, wL_cons, wL_cons, wL_cons]
    simp only [tkL, k3, wt_nil]; omega
  · have := (h a (by simp)).1; have := (h b (by simp)).2.1; have := (h c (by simp)).2.2.1; have := (h d (by simp)).2.2.2
    rw [tk0, tk1, tk2, tk3, wL_cons, wL_cons, wL_cons, wL_cons]
    omega
theorem few_ks (ls : List Node) (f0 f1 f2 f3 : Tk → List Str) (h : ∀ k ∈ ls, wt (f0 (tkN k)) ≤ wN k ∧ wt (f1 (tkN k)) ≤ wN k ∧ wt (f2 (tkN k)) ≤ wN k ∧ wt (f3 (tkN k)) ≤ wN k) :
    wt (k0 (tkL ls) f0) + (wt (k1 (tkL ls) f1) + (wt (k2 (tkL ls) f2) + wt (k3 (tkL ls) f3))) ≤ wL ls := few_kz ls f0 f1 f2 f3 0 0 0 0 h
theorem few_comma_tail (ls : List Node) (f g : Tk → List Str) (h : ∀ k ∈ ls, wt (f (tkN k)) ≤ wN k) (hg : ∀ k ∈ ls, wt (g (tkN k)) + 4 ≤ wN k) : wt (k0 (tkL ls) f) + wt (commas g (tkL ls).tail) ≤ wL ls := by
  rcases ls with _ | ⟨a, r⟩
  · simp [tkL, k0, commas, wt]
  · have := few_commas r g fun k hk => hg k (List.mem_cons_of_mem _ hk)
    have := h a List.mem_cons_self
    rw [tk0, tkT, wL_cons]; omega
theorem few_flat_tail (ls : List Node) (f g : Tk → List Str) (p : Nat) (h : ∀ k ∈ ls, wt (f (tkN k)) ≤ wN k + p) (hg : ∀ k ∈ ls, wt (g (tkN k)) + 4 ≤ wN k) : wt (k0 (tkL ls) f) + wt ((tkL ls).tail.flatMap g) ≤ wL ls + p := by
  rcases ls with _ | ⟨a, r⟩
  · simp [tkL, k0, wt]
  · have := few_flat r g fun k hk => hg k (List.mem_cons_of_mem _ hk)
    have := h a List.mem_cons_self
    rw [tk0, tkT, wL_cons]; omega
theorem few_names (ns : List Str) : wt (namesT ns) ≤ (ns.map fun s => s.length + 3).sum := by
  have key : ∀ r : List Str, wt (r.flatMap fun q => [[44], q]) ≤ (r.map fun s => s.length + 3).sum := by
    intro r
    induction r with
    | nil => simp [wt]
    | cons a r ih => rw [List.flatMap_cons, wt_app]; simp only [wt_cons, wt_nil, List.map_cons, List.sum_cons, List.length_cons, List.length_nil]; omega
  rcases ns with _ | ⟨a, r⟩
  · simp [namesT, wt]
  · have := key r
    simp only [namesT, wt_cons, List.map_cons, List.sum_cons]; omega
theorem wt_name (s : Str) : wt (if (s == ([] : Str)) = true then [] else [s]) ≤ s.length + 1 := by
  split
  · simp [wt]
  · simp [wt]
theorem few_func (x : Node) (h : ∀ k ∈ x.L, Few k) : wt (funcT x (tkL x.L)) + 60 ≤ wN x := by
  have h1 := wN_eq x
  have h2 := few_names x.Names
  have h3 := few_flat x.L Tk.st fun k hk => by have := (h k hk).st; omega
  have h4 := wt_name x.Name
  unfold funcT stmtsT
  simp only [wt_cons, wt_app, wt_nil, List.length_cons, List.length_nil]
  omega
theorem few_word (x : Node) : wt (wordT x) ≤ x.Name.length + 20 := by
  have h4 := wt_name x.Name
  unfold wordT
  rw [wt_app]
  have : wt (if (x.Kind == 31) = true then [[98, 114, 101, 97, 107]] else if (x.Kind == 32) = true then [[99, 111, 110, 116, 105, 110, 117, 101]] else if (x.Kind == 33) = true then [[114, 101, 116, 117, 114, 110]] else if (x.Kind == 34) = true then [[116, 104, 114, 111, 119]] else ([] : List Str)) ≤ 10 := by
    split
    · decide
    · split
      · decide
      · split
        · decide
        · split <;> decide
  omega
theorem few_bare (l : List Str) : wt (bareT l) ≤ wt l + 4 := by
  unfold bareT
  split
  · simp [wt]
  · split
    · simp only [wt_cons, wt_app, wt_nil, List.length_cons, List.length_nil]; omega
    · omega
theorem few_head (w : Str) (k : Node) (h : Few k) : wt (headT w (tkN k)) ≤ wN k + w.length + 1 := by
  have := few_at h.ex 0 false
  unfold headT
  simp only [wt_cons, wt_app, wt_nil, List.length_cons, List.length_nil]; omega
theorem formatBool_len (b : Bool) : (Lib.formatBool b).length ≤ 5 := by cases b <;> decide
theorem few_ite {c : Prop} {d : Decidable c} {a b : List Str} {n m : Nat} (h1 : c → wt a + n ≤ m) (h2 : ¬ c → wt b + n ≤ m) : wt (if c then a else b) + n ≤ m := by
  split
  · exact h1 (by assumption)
  · exact h2 (by assumption)
theorem few_ex (x : Node) (h : ∀ k ∈ x.L, Few k) (no : Bool) : wt ((tkN x).ex no) + 30 ≤ wN x := by
  have h1 := wN_eq x
  have A : ∀ (a b c d : Int) (n1 n2 n3 n4 : Bool), wt (k0 (tkL x.L) fun k => atT k a n1) + (wt (k1 (tkL x.L) fun k => atT k b n2) + (wt (k2 (tkL x.L) fun k => atT k c n3) + wt (k3 (tkL x.L) fun k => atT k d n4))) ≤ wL x.L := fun a b c d n1 n2 n3 n4 =>
    few_ks x.L _ _ _ _ fun k hk => ⟨by have := few_at (h k hk).ex a n1; omega, by have := few_at (h k hk).ex b n2; omega, by have := few_at (h k hk).ex c n3; omega, by have := few_at (h k hk).ex d n4; omega⟩
  have C : wt (commas (itemT false) (tkL x.L)) ≤ wL x.L := few_commas x.L _ fun k hk => (h k hk).item false
  have T : ∀ (a : Int), wt (k0 (tkL x.L) fun k => atT k a no) + wt (commas (itemT false) (tkL x.L).tail) ≤ wL x.L := fun a => few_comma_tail x.L _ _ (fun k hk => by have := few_at (h k hk).ex a no; omega) fun k hk => (h k hk).item false
  have F := few_func x h
  have B := formatBool_len (x.Num == 1)
  rw [ex_no]
  unfold exT
  repeat' refine few_ite (fun _ => ?_) (fun _ => ?_)
  all_goals try simp only [wt_cons, wt_app, wt_nil, List.length_cons, List.length_nil]
  all_goals first
    | omega
    | (have := T 11; omega)
    | (have := T 12; omega)
    | (have := A 11 0 0 0 no false no no; omega)
    | (have := A 9 0 0 0 no false no no; omega)
    | (have := A 3 1 1 0 no false no no; omega)
    | (have := A 11 1 1 0 no no no no; omega)
    | (have := A 0 1 1 0 no no no no; omega)
    | (have := A (tkN x).lvl ((tkN x).lvl + 1) 1 0 no no no no; omega)
theorem few_beg (x : Node) (h : ∀ k ∈ x.L, Few k) (least : Int) (no : Bool) : wt (beginT (tkN x) least no) + 4 ≤ wN x := by
  have h1 := wN_eq x
  have h2 := few_at (y := x) (fun no => by have := few_ex x h no; omega) least no
  have h3 : wt (commas (declT no) (tkL x.L)) ≤ wL x.L := few_commas x.L _ fun k hk => (h k hk).decl no
  unfold beginT
  rw [kids_k]
  split
  · simp only [wt_nil]; omega
  · split
    · simp only [wt_cons, List.length_cons, List.length_nil]; omega
    · exact h2
theorem few_st (x : Node) (h : ∀ k ∈ x.L, Few k) : wt (tkN x).st + 8 ≤ wN x := by
  have h1 := wN_eq x
  have D : wt (commas (declT false) (tkL x.L)) ≤ wL x.L := few_commas x.L _ fun k hk => (h k hk).decl false
  have S : wt ((tkL x.L).flatMap Tk.st) ≤ wL x.L := few_flat x.L _ fun k hk => by have := (h k hk).st; omega
  have W := few_word x
  have F := few_func x h
  have V : wt ((tkL x.L).flatMap fun k => atT k 0 false) ≤ wL x.L := few_flat x.L _ fun k hk => few_at (h k hk).ex 0 false
  have B : wt (bareT (k0 (tkL x.L) fun k => atT k 0 false)) ≤ wL x.L + 4 := by
    have := few_bare (k0 (tkL x.L) fun k => atT k 0 false)
    have := few_k0 x.L (fun k => atT k 0 false) fun k hk => by have := few_at (h k hk).ex 0 false; omega
    omega
  have H : ∀ w : Str, w.length ≤ 8 → ∀ k ∈ x.L, wt (headT w (tkN k)) ≤ wN k + 9 := fun w hw k hk => by have := few_head w k (h k hk); omega
  have S1 : ∀ k ∈ x.L, wt (tkN k).st + 8 ≤ wN k := fun k hk => (h k hk).st
  have B1 : ∀ (a : Int) (n : Bool), ∀ k ∈ x.L, wt (beginT (tkN k) a n) ≤ wN k := fun a n k hk => by have := (h k hk).beg a n; omega
  have A1 : ∀ (a : Int) (n : Bool), ∀ k ∈ x.L, wt (atT (tkN k) a n) ≤ wN k := fun a n k hk => by have := few_at (h k hk).ex a n; omega
  have Z26 := few_kz x.L (headT [105, 102]) Tk.st (fun k => [101, 108, 115, 101] :: k.st) (fun _ => []) 9 0 0 0 fun k hk => ⟨H _ (by decide) k hk, by have := S1 k hk; omega, by have := S1 k hk; rw [wt_cons]; simp only [List.length_cons, List.length_nil]; omega, by simp [wt]⟩
  have Z27 := few_kz x.L (headT [119, 104, 105, 108, 101]) Tk.st (fun _ => []) (fun _ => []) 9 0 0 0 fun k hk => ⟨H _ (by decide) k hk, by have := S1 k hk; omega, by simp [wt], by simp [wt]⟩
  have Z28 := few_kz x.L Tk.st (headT [119, 104, 105, 108, 101]) (fun _ => []) (fun _ => []) 0 9 0 0 fun k hk => ⟨by have := S1 k hk; omega, H _ (by decide) k hk, by simp [wt], by simp [wt]⟩
  have Z29 := few_kz x.L (fun k => beginT k 0 true) (fun k => beginT k 0 false) (fun k => beginT k 0 false) Tk.st 0 0 0 0 fun k hk => ⟨B1 _ _ k hk, B1 _ _ k hk, B1 _ _ k hk, by have := S1 k hk; omega⟩
  have Z30 := few_kz x.L (fun k => beginT k 11 true) (fun k => atT k 0 false) Tk.st (fun _ => []) 0 0 0 0 fun k hk => ⟨B1 _ _ k hk, A1 _ _ k hk, by have := S1 k hk; omega, by simp [wt]⟩
  have Z35 := few_kz x.L Tk.st (fun k => if (k.x.Kind == 25) = true then [99, 97, 116, 99, 104] :: [40] :: x.Name :: [41] :: k.st else []) (fun k => if (k.x.Kind == 25) = true then [102, 105, 110, 97, 108, 108, 121] :: k.st else []) (fun _ => []) 0 (x.Name.length + 10) 0 0 fun k hk => ⟨by have := S1 k hk; omega, by
    have := S1 k hk
    split
    · simp only [wt_cons, List.length_cons, List.length_nil]; omega
    · simp [wt], by
    have := S1 k hk
    split
    · simp only [wt_cons, List.length_cons, List.length_nil]; omega
    · simp [wt], by simp [wt]⟩
  have Z36 := few_flat_tail x.L (headT [115, 119, 105, 116, 99, 104]) Tk.st 9 (H _ (by decide)) fun k hk => by have := S1 k hk; omega
  have Z37 := few_flat_tail x.L (fun k => (if (k.x.Kind != 42) = true then [99, 97, 115, 101] else [100, 101, 102, 97, 117, 108, 116]) :: beginT k 0 false) Tk.st 9 (fun k hk => by
    have := B1 0 false k hk
    rw [wt_cons]
    have : (if ((tkN k).x.Kind != 42) = true then [99, 97, 115, 101] else [100, 101, 102, 97, 117, 108, 116] : Str).length ≤ 7 := by split <;> decide
    omega) fun k hk => by have := S1 k hk; omega
  have Z38 := few_k0 x.L Tk.st fun k hk => by have := S1 k hk; omega
  rw [show (tkN x).st = stT x (tkL x.L) by rw [tkN_eq]; rfl]
  unfold stT stmtsT
  repeat' refine few_ite (fun _ => ?_) (fun _ => ?_)
  all_goals try simp only [wt_cons, wt_app, wt_nil, List.length_cons, List.length_nil]
  all_goals omega
theorem few_item (x : Node) (h : ∀ k ∈ x.L, Few k) (no : Bool) : wt (itemT no (tkN x)) + 4 ≤ wN x := by
  have h1 := wN_eq x
  have h2 := few_at (y := x) (fun no => by have := few_ex x h no; omega) 1 no
  have h3 := few_k0 x.L (fun k => atT k 1 no) fun k hk => by have := few_at (h k hk).ex 1 no; omega
  unfold itemT
  rw [kids_k, kids_x]
  split
  · simp only [wt_cons, List.length_cons, List.length_nil]; omega
  · exact h2
theorem few_decl (x : Node) (h : ∀ k ∈ x.L, Few k) (no : Bool) : wt (declT no (tkN x)) + 4 ≤ wN x := by
  have h1 := wN_eq x
  have h3 := few_k0 x.L (fun k => [61] :: atT k 1 no) fun k hk => by have := few_at (h k hk).ex 1 no; rw [wt_cons]; simp only [List.length_cons, List.length_nil]; omega
  unfold declT
  rw [kids_k, kids_x]
  simp only [wt_cons]; omega
mutual
theorem few_n : ∀ x : Node, Few x
  | ⟨k, n, m, t, ns, l⟩ =>
    have h : ∀ q ∈ (⟨k, n, m, t, ns, l⟩ : Node).L, Few q := few_l l
    ⟨fun no => by have := few_ex _ h no; omega, few_st _ h, few_item _ h, few_decl _ h, few_beg _ h⟩
theorem few_l : ∀ (l : List Node), ∀ q ∈ l, Few q
  | [], q, hq => by cases hq
  | x :: r, q, hq => by
    have hx := few_n x
    rcases List.mem_cons.1 hq with h | hq
    · exact h ▸ hx
    · exact few_l r q hq
end
theorem few_stmts (ls : List Node) : wt (stmtsT (tkL ls)) ≤ wL ls := few_flat ls Tk.st fun k hk => by have := (few_n k).st; omega
theorem join_wt (l : List Str) : (Lib.join l [32]).length ≤ wt l := by
  rcases l with _ | ⟨a, r⟩
  · simp [Lib.join_nil, wt]
  · rw [Lib.join_length]
    have key : ∀ l : List Str, wt l = l.length + Lib.lens l := by
      intro l
      induction l with
      | nil => rfl
      | cons a r ih => rw [wt_cons, ih]; simp only [Lib.lens, List.map_cons, List.sum_cons, List.length_cons]; omega
    rw [key]
    simp only [List.length_cons, List.length_nil]; omega
/-- a tree's text, or why it has none -/
def textP (x : Node) : Str × Int :=
  if (checkP x != 0) = true then ([], checkP x) else if 4096 < (Lib.join (stmtsT (tkL x.L)) [32]).length then ([], 2) else (Lib.join (stmtsT (tkL x.L)) [32], 0)
theorem check_ok {x : Node} (h : checkP x = 0) : x.Kind = 41 ∧ mayN x = true ∧ deepN x ≤ 64 := by
  unfold checkP at h
  split at h
  · rename_i hc
    rw [Bool.and_eq_true] at hc
    split at h
    · exact absurd h (by decide)
    · exact ⟨eq_of_beq hc.1, hc.2, by omega⟩
  · exact absurd h (by decide)
theorem prog_kids {x : Node} (h : x.Kind = 41) (hm : mayN x = true) : ∀ k ∈ x.L, stOK k = true := by
  rw [may_41 h, Bool.and_eq_true] at hm
  exact fun k hk => st_x (matchM hm.2 k hk)
theorem tree_Text_eq (x : Node) (ho : okN x) (hb : bulkN x ≤ 2097152) : tree_Text x = some ((textP x).1, (textP x).2, ()) := by
  unfold tree_Text textP
  simp only [re25_eq, tree_Check_eq x hb, Option.bind_some]
  cases hc : checkP x != 0 with
  | true => rfl
  | false =>
    have hc : checkP x = 0 := by simpa using hc
    obtain ⟨h1, h2, h3⟩ := check_ok hc
    have a1 := deepN_eq x; have a2 := bulkN_eq x
    obtain ⟨p1, p2⟩ := may_parts h2
    have w1 := few_stmts x.L
    have w2 := wL_bulk x.L (okN_parts ho).2 p2 (by omega)
    have w3 := wt_len (stmtsT (tkL x.L))
    have w4 := join_wt (stmtsT (tkL x.L))
    have hw := stmts_total x.L (prog_kids h1 h2) (by omega) (by omega) (by omega)
    simp only [Bool.false_eq_true, if_false, hw, Option.bind_some]
    unfold strings_Join
    rw [if_pos ⟨by omega, by omega⟩]
    simp only [Option.bind_some]
    by_cases hl : 4096 < (Lib.join (stmtsT (tkL x.L)) [32]).length
    · rw [if_pos hl, if_pos (by simpa using by omega)]
    · rw [if_neg hl, if_neg (by simpa using by omega)]
end
end Go.D07.W

