/- Chapter 1's plain laws, those that are leaned on here. -/
import Derived.Test.YtmbdlfemlbbjfaaGreatDoorG06zx3
import Derived.Test.YtmbdlfemlbbjfaaGreatDoorGwZ
set_option linter.unusedVariables false
set_option linter.unusedSimpArgs false
set_option linter.unnecessarySimpa false
namespace Go.Gw
set_option linter.unusedSimpArgs false

def unitsL : Str → List Nat
  | a :: b :: r => (a.toNat * 256 + b.toNat) :: unitsL r
  | _ => []
def enc1 (n : Nat) : Str := [UInt8.ofNat (n / 256), UInt8.ofNat (n % 256)]
def encL (l : List Nat) : Str := l.flatMap enc1
theorem unitsL_length : ∀ u : Str, (unitsL u).length = u.length / 2
  | [] => rfl
  | [_] => by simp [unitsL]
  | a :: b :: r => by simp only [unitsL, List.length_cons, unitsL_length r]; omega
theorem unitsL_lt : ∀ (u : Str) (n : Nat), n ∈ unitsL u → n < 65536
  | [], _, h => by cases h
  | [_], _, h => by cases h
  | a :: b :: r, n, h => by
    simp only [unitsL, List.mem_cons] at h
    rcases h with h | h
    · have := a.toNat_lt; have := b.toNat_lt; omega
    · exact unitsL_lt r n h
theorem encL_length (l : List Nat) : (encL l).length = 2 * l.length := by
  induction l with
  | nil => rfl
  | cons n l ih => unfold encL at ih ⊢; rw [List.flatMap_cons, List.length_append, ih]; simp [enc1]; omega
theorem encL_append (l m : List Nat) : encL (l ++ m) = encL l ++ encL m := by simp [encL]
theorem unitsL_get : ∀ (u : Str) (i : Nat), i < u.length / 2 → ∃ a b, u[2 * i]? = some a ∧ u[2 * i + 1]? = some b ∧ (unitsL u)[i]? = some (a.toNat * 256 + b.toNat)
  | [], i, h => by simp at h
  | [_], i, h => by simp at h
  | a :: b :: r, 0, _ => ⟨a, b, rfl, rfl, rfl⟩
  | a :: b :: r, i + 1, h => by
    obtain ⟨x, y, h1, h2, h3⟩ := unitsL_get r i (by simp only [List.length_cons] at h; omega)
    refine ⟨x, y, ?_, ?_, ?_⟩
    · have : 2 * (i + 1) = 2 * i + 1 + 1 := by omega
      rw [this]; simpa using h1
    · have : 2 * (i + 1) + 1 = 2 * i + 1 + 1 + 1 := by omega
      rw [this]; simpa using h2
    · simpa [unitsL] using h3
theorem ref01_Check_eq (u : Str) : ref01_Check u = some (decide (u.length % 2 = 0)) := by
  unfold ref01_Check
  congr 1
  have : Int.tmod ((u.length : Nat) : Int) 2 = ((u.length % 2 : Nat) : Int) := rfl
  rw [this]
  by_cases h : u.length % 2 = 0
  · simp [h]
  · have : u.length % 2 = 1 := by omega
    simp [this]
def natsI (l : List Nat) : List Int := l.map Int.ofNat
theorem ref01_List_eq (u : Str) (h : u.length ≤ 100000000) : ref01_List u = some (natsI (unitsL u)) := by
  unfold ref01_List
  have hl := unitsL_length u
  have key := loop_run (step := ref01_List.l1 u) (fun k => (((2 * k : Nat) : Int), natsI ((unitsL u).take k))) (natsI (unitsL u)) (u.length / 2) 0 (fun j _ hj => ?_) ?_
  · have k2 : loopM (ref01_List.l1 u) (0, ([] : List Int)) = some (natsI (unitsL u)) := key
    rw [k2]; rfl
  · obtain ⟨a, b, e1, e2, e3⟩ := unitsL_get u j (by omega)
    unfold ref01_List.l1
    have w1 : IntKind.wrap .i64 (((2 * j : Nat) : Int) + 1) = ((2 * j + 1 : Nat) : Int) := by rw [wrap_i64 (by omega) (by omega)]; omega
    have w2 : IntKind.wrap .i64 (((2 * j : Nat) : Int) + 2) = ((2 * (j + 1) : Nat) : Int) := by rw [wrap_i64 (by omega) (by omega)]; omega
    have c : ((2 * j + 1 : Nat) : Int) < ((u.length : Nat) : Int) := by omega
    have ha := a.toNat_lt; have hb := b.toNat_lt
    have w3 : IntKind.wrap .i64 ((a.toNat : Nat) : Int) = ((a.toNat : Nat) : Int) := wrap_i64 (by omega) (by omega)
    have w4 : IntKind.wrap .i64 ((b.toNat : Nat) : Int) = ((b.toNat : Nat) : Int) := wrap_i64 (by omega) (by omega)
    have w5 : IntKind.wrap .i64 (((a.toNat : Nat) : Int) * 256) = ((a.toNat * 256 : Nat) : Int) := by rw [wrap_i64 (by omega) (by omega)]; omega
    have w6 : IntKind.wrap .i64 (((a.toNat * 256 : Nat) : Int) + ((b.toNat : Nat) : Int)) = ((a.toNat * 256 + b.toNat : Nat) : Int) := by rw [wrap_i64 (by omega) (by omega)]; omega
    have hr := room_ok (n := (natsI ((unitsL u).take j)).length + 1) (by simp [natsI, hl]; omega)
    simp only [w1, c, decide_true, if_true, getB_nat, e1, e2, Option.map_some, Option.bind_some, hr, w2, w3, w4, w5, w6]
    rw [List.take_add_one, e3]
    simp [natsI]
  · unfold ref01_List.l1
    have c : ¬ (IntKind.wrap .i64 (((2 * (0 + u.length / 2) : Nat) : Int) + 1) < ((u.length : Nat) : Int)) := by rw [wrap_i64 (by omega) (by omega)]; omega
    simp only [c, decide_false, Bool.false_eq_true, if_false]
    rw [List.take_of_length_le (by omega)]
theorem ref01_Make_eq (l : List Nat) (h : l.length ≤ 100000000) (hl : ∀ n ∈ l, n < 65536) : ref01_Make (natsI l) = some (encL l) := by
  unfold ref01_Make
  have key := loop_run (step := ref01_Make.l1 (natsI l)) (fun k => ((k : Int), encL (l.take k))) (encL l) l.length 0 (fun j _ hj => ?_) ?_
  · have k2 : loopM (ref01_Make.l1 (natsI l)) (0, ([] : List UInt8)) = some (encL l) := key
    rw [k2]; rfl
  · have hlt : j < l.length := by omega
    unfold ref01_Make.l1
    have hn := hl l[j] (List.getElem_mem _)
    have c : ((j : Int) < (((natsI l).length : Nat) : Int)) := by simp [natsI]; omega
    have e1 : (natsI l)[j]? = some (l[j] : Int) := by simp [natsI, hlt]
    have w1 : IntKind.wrap .i64 ((j : Int) + 1) = ((j + 1 : Nat) : Int) := by rw [wrap_i64 (by omega) (by omega)]; omega
    have t1 : Int.tdiv ((l[j] : Nat) : Int) 256 = ((l[j] / 256 : Nat) : Int) := rfl
    have t2 : Int.tmod ((l[j] : Nat) : Int) 256 = ((l[j] % 256 : Nat) : Int) := rfl
    have w2 : IntKind.wrap .i64 ((l[j] / 256 : Nat) : Int) = ((l[j] / 256 : Nat) : Int) := wrap_i64 (by omega) (by omega)
    have w3 : IntKind.wrap .u8 ((l[j] / 256 : Nat) : Int) = ((l[j] / 256 : Nat) : Int) := wrap_u8 (by omega) (by omega)
    have w4 : IntKind.wrap .u8 ((l[j] % 256 : Nat) : Int) = ((l[j] % 256 : Nat) : Int) := wrap_u8 (by omega) (by omega)
    have b1 := toB_u8 (n := ((l[j] / 256 : Nat) : Int)) (by omega) (by omega)
    have b2 := toB_u8 (n := ((l[j] % 256 : Nat) : Int)) (by omega) (by omega)
    have hr := room_ok (n := (encL (l.take j)).length + 2) (by rw [encL_length, List.length_take]; omega)
    simp only [c, decide_true, if_true, getI_nat, e1, Option.bind_some, t1, t2, w1, w2, w3, w4, b1, b2, hr]
    rw [List.take_add_one, List.getElem?_eq_getElem hlt, Option.toList_some, encL_append]
    simp only [encL, enc1, Int.toNat_natCast, List.flatMap_cons, List.flatMap_nil, List.append_nil]
  · unfold ref01_Make.l1
    have c : ¬ ((((0 + l.length : Nat) : Int)) < (((natsI l).length : Nat) : Int)) := by simp [natsI]
    simp only [c, decide_false, Bool.false_eq_true, if_false]
    rw [List.take_of_length_le (by omega)]
def hexd (k : Nat) : UInt8 := if k < 10 then UInt8.ofNat (48 + k) else UInt8.ofNat (87 + k)
def quote1 (n : Nat) : Str :=
  if n = 34 then [92, 34] else if n = 92 then [92, 92] else if n = 8 then [92, 98] else if n = 9 then [92, 116] else if n = 10 then [92, 110] else if n = 12 then [92, 102] else if n = 13 then [92, 114]
  else if n < 32 ∨ n > 126 then [92, 117, hexd (n / 4096), hexd (n / 256 % 16), hexd (n / 16 % 16), hexd (n % 16)] else [UInt8.ofNat n]
def quoteL (l : List Nat) : Str := l.flatMap quote1
def quoteS (u : Str) : Str × Int := if u.length % 2 = 0 then (34 :: (quoteL (unitsL u) ++ [34]), 0) else ([], 10)
theorem quote1_length (n : Nat) : (quote1 n).length ≤ 6 := by
  unfold quote1; split <;> (try split) <;> (try split) <;> (try split) <;> (try split) <;> (try split) <;> (try split) <;> (try split) <;> simp
theorem quoteL_length (l : List Nat) : (quoteL l).length ≤ 6 * l.length := by
  induction l with
  | nil => simp [quoteL]
  | cons n l ih => unfold quoteL at ih ⊢; rw [List.flatMap_cons, List.length_append]; have := quote1_length n; simp only [List.length_cons]; omega
theorem quoteL_snoc (l : List Nat) (n : Nat) : quoteL (l ++ [n]) = quoteL l ++ quote1 n := by simp [quoteL]
theorem hex_eq : ∀ k : Fin 16, ref01_hex ((k.val : Nat) : Int) = some (((hexd k.val).toNat : Nat) : Int) := by decide
theorem ref01_hex_eq (k : Nat) (h : k < 16) : ref01_hex ((k : Nat) : Int) = some (((hexd k).toNat : Nat) : Int) := hex_eq ⟨k, h⟩
theorem ref01_quoted_eq (n : Nat) (hn : n < 65536) : ref01_quoted (n : Int) = some (quote1 n) := by
  unfold ref01_quoted quote1
  have cc : ∀ m : Nat, ((n : Int) == (m : Int)) = decide (n = m) := fun m => by
    by_cases h : n = m
    · simp [h]
    · simp [h]; omega
  have c34 := cc 34; have c92 := cc 92; have c8 := cc 8; have c9 := cc 9; have c10 := cc 10; have c12 := cc 12; have c13 := cc 13
  have e34 : ((n : Int) == 34) = decide (n = 34) := c34
  have e92 : ((n : Int) == 92) = decide (n = 92) := c92
  have e8 : ((n : Int) == 8) = decide (n = 8) := c8
  have e9 : ((n : Int) == 9) = decide (n = 9) := c9
  have e10 : ((n : Int) == 10) = decide (n = 10) := c10
  have e12 : ((n : Int) == 12) = decide (n = 12) := c12
  have e13 : ((n : Int) == 13) = decide (n = 13) := c13
  rw [e34, e92, e8, e9, e10, e12, e13]
  simp only [decide_eq_true_eq]
  by_cases h34 : n = 34
  · simp [h34]
  by_cases h92 : n = 92
  · simp [h92]
  by_cases h8 : n = 8
  · simp [h8]
  by_cases h9 : n = 9
  · simp [h9]
  by_cases h10 : n = 10
  · simp [h10]
  by_cases h12 : n = 12
  · simp [h12]
  by_cases h13 : n = 13
  · simp [h13]
  simp only [h34, h92, h8, h9, h10, h12, h13, if_false]
  by_cases hx : n < 32 ∨ n > 126
  · have c3 : (decide ((n : Int) < 32) || decide ((n : Int) > 126)) = true := by simp only [Bool.or_eq_true, decide_eq_true_eq]; omega
    rw [c3, if_pos rfl, if_pos hx]
    have t1 : Int.tdiv ((n : Nat) : Int) 4096 = ((n / 4096 : Nat) : Int) := rfl
    have t2 : Int.tdiv ((n : Nat) : Int) 256 = ((n / 256 : Nat) : Int) := rfl
    have t3 : Int.tdiv ((n : Nat) : Int) 16 = ((n / 16 : Nat) : Int) := rfl
    have w1 : IntKind.wrap .i64 ((n / 4096 : Nat) : Int) = ((n / 4096 : Nat) : Int) := wrap_i64 (by omega) (by omega)
    have w2 : IntKind.wrap .i64 ((n / 256 : Nat) : Int) = ((n / 256 : Nat) : Int) := wrap_i64 (by omega) (by omega)
    have w3 : IntKind.wrap .i64 ((n / 16 : Nat) : Int) = ((n / 16 : Nat) : Int) := wrap_i64 (by omega) (by omega)
    have m2 : Int.tmod ((n / 256 : Nat) : Int) 16 = ((n / 256 % 16 : Nat) : Int) := rfl
    have m3 : Int.tmod ((n / 16 : Nat) : Int) 16 = ((n / 16 % 16 : Nat) : Int) := rfl
    have m4 : Int.tmod ((n : Nat) : Int) 16 = ((n % 16 : Nat) : Int) := rfl
    rw [t1, t2, t3, w1, w2, w3, m2, m3, m4, ref01_hex_eq _ (by omega), ref01_hex_eq _ (by omega), ref01_hex_eq _ (by omega), ref01_hex_eq _ (by omega)]
    simp only [Option.bind_some, toB_of]
  · have c3 : (decide ((n : Int) < 32) || decide ((n : Int) > 126)) = false := by simp only [Bool.or_eq_false_iff, decide_eq_false_iff_not]; omega
    rw [c3, if_neg (by simp), if_neg hx]
    have w : IntKind.wrap .u8 (n : Int) = (n : Int) := wrap_u8 (by omega) (by omega)
    rw [w, toB_u8 (by omega) (by omega)]
    simp
theorem ref01_Quote_eq (u : Str) (hu : u.length ≤ 100000000) : ref01_Quote u = some (quoteS u) := by
  unfold ref01_Quote quoteS
  rw [ref01_Check_eq u]
  simp only [Option.bind_some]
  by_cases he : u.length % 2 = 0
  · simp only [he, decide_true, Bool.not_true, Bool.false_eq_true, if_false, if_true]
    rw [ref01_List_eq u hu]
    simp only [Option.bind_some]
    have hl := unitsL_length u
    have hll : (natsI (unitsL u)).length = (unitsL u).length := by simp [natsI]
    have hqq := quoteL_length (unitsL u)
    have key := loop_run (step := ref01_Quote.l1 (natsI (unitsL u))) (fun k => (34 :: quoteL ((unitsL u).take k), (k : Int))) (34 :: quoteL (unitsL u)) (unitsL u).length 0 (fun j _ hj => ?_) ?_
    · have k2 : loopM (ref01_Quote.l1 (natsI (unitsL u))) (([34] : Str), 0) = some (34 :: quoteL (unitsL u)) := key
      rw [k2]
      simp only [Option.bind_some]
      rw [catS_ok (by simp only [List.length_cons, List.length_nil]; omega)]
      rfl
    · have hlt : j < (unitsL u).length := by omega
      have hn := unitsL_lt u _ (List.getElem_mem hlt)
      unfold ref01_Quote.l1
      have c : ((j : Int) < (((natsI (unitsL u)).length : Nat) : Int)) := by omega
      have ht : (natsI (unitsL u))[j]? = some (((unitsL u)[j] : Nat) : Int) := by simp [natsI, hlt]
      have hql := quoteL_length ((unitsL u).take j)
      rw [List.length_take] at hql
      have h6 := quote1_length (unitsL u)[j]
      have w1 : IntKind.wrap .i64 ((j : Int) + 1) = ((j + 1 : Nat) : Int) := by rw [wrap_i64 (by omega) (by omega)]; omega
      have hc := catS_ok (s := 34 :: quoteL ((unitsL u).take j)) (t := quote1 (unitsL u)[j]) (by simp only [List.length_cons]; omega)
      simp only [c, decide_true, if_true, getI_nat, ht, Option.bind_some, ref01_quoted_eq _ hn, hc, w1]
      rw [List.take_add_one, List.getElem?_eq_getElem hlt, Option.toList_some, quoteL_snoc]; rfl
    · unfold ref01_Quote.l1
      simp only [Nat.zero_add, hll, Int.lt_irrefl, decide_false, Bool.false_eq_true, if_false, List.take_length]
  · simp only [he, decide_false, Bool.not_false, if_true, if_false]
def hexV (b : UInt8) : Option Nat :=
  if 48 ≤ b.toNat ∧ b.toNat ≤ 57 then some (b.toNat - 48) else if 97 ≤ b.toNat ∧ b.toNat ≤ 102 then some (b.toNat - 87) else if 65 ≤ b.toNat ∧ b.toNat ≤ 70 then some (b.toNat - 55) else none
def hexN : Nat → Str → Nat → Option Nat
  | 0, _, a => some a
  | _ + 1, [], _ => none
  | k + 1, b :: r, a => match hexV b with
    | none => none
    | some d => hexN k r (16 * a + d)
theorem hexV_lt {b : UInt8} {d : Nat} (h : hexV b = some d) : d < 16 := by
  unfold hexV at h
  split at h
  · simp only [Option.some.injEq] at h; omega
  · split at h
    · simp only [Option.some.injEq] at h; omega
    · split at h
      · simp only [Option.some.injEq] at h; omega
      · cases h
theorem hexN_lt : ∀ (k : Nat) (s : Str) (a n : Nat), hexN k s a = some n → n < 16 ^ k * (a + 1)
  | 0, s, a, n, h => by simp only [hexN, Option.some.injEq] at h; omega
  | k + 1, [], a, n, h => by cases h
  | k + 1, b :: r, a, n, h => by
    simp only [hexN] at h
    cases hv : hexV b with
    | none => rw [hv] at h; cases h
    | some d =>
      rw [hv] at h
      have h1 := hexN_lt k r _ n h
      have h2 := hexV_lt hv
      have h3 : 16 ^ k * (16 * a + d + 1) ≤ 16 ^ k * (16 * (a + 1)) := Nat.mul_le_mul_left _ (by omega)
      have h4 : 16 ^ (k + 1) * (a + 1) = 16 ^ k * (16 * (a + 1)) := by rw [Nat.pow_succ, Nat.mul_assoc]
      omega
def simpleV (b : UInt8) : Option Nat :=
  if b = 110 then some 10 else if b = 116 then some 9 else if b = 114 then some 13 else if b = 98 then some 8 else if b = 102 then some 12 else if b = 118 then some 11
  else if b.toNat > 127 ∨ b = 13 ∨ b = 120 ∨ b = 117 ∨ (48 ≤ b.toNat ∧ b.toNat ≤ 57) ∨ b = 10 then none else some b.toNat
/-- what stands behind a backslash: its units, and how many bytes they took -/
def escS : Str → Option (List Nat × Nat)
  | [] => none
  | c :: r =>
    if c = 10 then some ([], 1)
    else if c = 48 then (match r with
      | [] => some ([0], 1)
      | d :: _ => if 48 ≤ d.toNat ∧ d.toNat ≤ 57 then none else some ([0], 1))
    else if c = 120 then (hexN 2 r 0).map fun n => ([n], 3)
    else if c = 117 then (hexN 4 r 0).map fun n => ([n], 5)
    else (simpleV c).map fun n => ([n], 1)
theorem hexN_len : ∀ (k : Nat) (s : Str) (a n : Nat), hexN k s a = some n → k ≤ s.length
  | 0, s, a, n, h => by omega
  | k + 1, [], a, n, h => by cases h
  | k + 1, b :: r, a, n, h => by
    simp only [hexN] at h
    cases hv : hexV b with
    | none => rw [hv] at h; cases h
    | some d => rw [hv] at h; have := hexN_len k r _ n h; simp only [List.length_cons]; omega
theorem simpleV_lt {b : UInt8} {n : Nat} (h : simpleV b = some n) : n < 256 := by
  have hb := b.toNat_lt
  unfold simpleV at h
  repeat' split at h
  all_goals first | (cases h; done) | (simp only [Option.some.injEq] at h; omega)
theorem escS_some {s : Str} {us : List Nat} {k : Nat} (h : escS s = some (us, k)) : (∀ n ∈ us, n < 65536) ∧ us.length ≤ 1 ∧ 1 ≤ k ∧ k ≤ s.length := by
  cases s with
  | nil => cases h
  | cons c r =>
    simp only [escS] at h
    by_cases h1 : c = 10
    · rw [if_pos h1] at h; cases h; simp
    · rw [if_neg h1] at h
      by_cases h2 : c = 48
      · rw [if_pos h2] at h
        cases r with
        | nil => cases h; simp
        | cons d r =>
          simp only at h
          split at h
          · cases h
          · cases h; simp
      · rw [if_neg h2] at h
        by_cases h3 : c = 120
        · rw [if_pos h3] at h
          cases hn : hexN 2 r 0 with
          | none => rw [hn] at h; cases h
          | some n =>
            rw [hn] at h; cases h
            have := hexN_lt _ _ _ _ hn; have := hexN_len _ _ _ _ hn
            simp; omega
        · rw [if_neg h3] at h
          by_cases h4 : c = 117
          · rw [if_pos h4] at h
            cases hn : hexN 4 r 0 with
            | none => rw [hn] at h; cases h
            | some n =>
              rw [hn] at h; cases h
              have := hexN_lt _ _ _ _ hn; have := hexN_len _ _ _ _ hn
              simp; omega
          · rw [if_neg h4] at h
            cases hn : simpleV c with
            | none => rw [hn] at h; cases h
            | some n =>
              rw [hn] at h; cases h
              have := simpleV_lt hn
              simp; omega
/-! ### the program's digits -/
theorem dropWhile_nil_iff {α : Type} (p : α → Bool) : ∀ l : List α, l.dropWhile p = [] ↔ ∀ x ∈ l, p x = true
  | [] => by simp
  | a :: l => by
    cases h : p a with
    | true => rw [List.dropWhile_cons_of_pos h, dropWhile_nil_iff p l]; simp [h]
    | false =>
      rw [List.dropWhile_cons_of_neg (by simp [h])]
      simp [h]
theorem dropWhile_head {α : Type} (p : α → Bool) : ∀ (l : List α) (b : α) (r : List α), l.dropWhile p = b :: r → p b = false
  | [], b, r, h => by cases h
  | a :: l, b, r, h => by
    cases hp : p a with
    | true => rw [List.dropWhile_cons_of_pos hp] at h; exact dropWhile_head p l b r h
    | false =>
      rw [List.dropWhile_cons_of_neg (by simp [hp])] at h
      cases h; exact hp
theorem trimS_nil (l cs : Str) : (Lib.trimS l cs == ([] : Str)) = l.all (cs.contains ·) := by
  unfold Lib.trimS Lib.trimLeftS Lib.trimRightS
  rw [Bool.eq_iff_iff]
  rw [beq_iff_eq, dropWhile_nil_iff, List.all_eq_true]
  constructor
  · intro h
    rcases hd : l.reverse.dropWhile (cs.contains ·) with _ | ⟨b, r⟩
    · rw [dropWhile_nil_iff] at hd
      intro x hx; exact hd x (by simpa using hx)
    · exfalso
      have h1 := dropWhile_head _ _ _ _ hd
      have h2 := h b (by rw [hd]; simp)
      rw [h1] at h2; cases h2
  · intro h x hx
    have := (List.dropWhile_suffix (cs.contains ·) (l := l.reverse)).subset (by simpa using hx)
    exact h x (by simpa using this)
def hexCs : Str := [48, 49, 50, 51, 52, 53, 54, 55, 56, 57, 97, 98, 99, 100, 101, 102, 65, 66, 67, 68, 69, 70]
theorem hexCs_all : ∀ b : Fin 256, hexCs.contains (UInt8.ofNat b.val) = (hexV (UInt8.ofNat b.val)).isSome := by decide +kernel
theorem byteF (b : UInt8) : ∃ k : Fin 256, b = UInt8.ofNat k.val := ⟨⟨b.toNat, b.toNat_lt⟩, by simp⟩
theorem hexCs_eq (b : UInt8) : hexCs.contains b = (hexV b).isSome := by
  obtain ⟨k, rfl⟩ := byteF b; exact hexCs_all k
theorem hexN_isSome : ∀ (s : Str) (a : Nat), (hexN s.length s a).isSome = s.all (hexCs.contains ·)
  | [], a => rfl
  | b :: r, a => by
    simp only [List.length_cons, hexN, List.all_cons, hexCs_eq]
    cases hv : hexV b with
    | none => simp
    | some d =>
      simp only [Option.isSome_some, Bool.true_and]
      rw [hexN_isSome r]
      congr 1; funext x; exact hexCs_eq x
theorem hexN_take : ∀ (k : Nat) (s : Str) (a : Nat), k ≤ s.length → hexN k (s.take k) a = hexN k s a
  | 0, s, a, _ => rfl
  | k + 1, [], a, h => by simp at h
  | k + 1, b :: r, a, h => by
    simp only [List.take_succ_cons, hexN]
    cases hexV b with
    | none => rfl
    | some d => simp only; exact hexN_take k r _ (by simpa using h)
theorem lower_hex : ∀ b : Fin 256, (48 ≤ b.val ∧ b.val ≤ 57) ∨ hexV (UInt8.ofNat b.val) = none ∨ ∃ l : Fin 256, internal_strconv_lower ((b.val : Nat) : Int) = some ((l.val : Nat) : Int) ∧ 97 ≤ l.val ∧ l.val ≤ 102 ∧ hexV (UInt8.ofNat b.val) = some (l.val - 87) := by decide +kernel
theorem parse_step (t : Str) (a i d : Nat) (b : UInt8) (h1 : t[i]? = some b) (h2 : hexV b = some d) (h3 : a < 4096) (hi : i < 1000) :
    internal_strconv_ParseUint_c16_c16.l1 t 65536 (false, (a : Int), (i : Int)) = some (.inl (false, ((16 * a + d : Nat) : Int), ((i + 1 : Nat) : Int))) := by
  have hlt : i < t.length := by
    rcases Nat.lt_or_ge i t.length with h | h
    · exact h
    · rw [List.getElem?_eq_none h] at h1; cases h1
  have hd := hexV_lt h2
  have hb := b.toNat_lt
  have w1 : IntKind.wrap .i64 ((i : Int) + 1) = ((i + 1 : Nat) : Int) := by rw [wrap_i64 (by omega) (by omega)]; omega
  have j5 : ∀ x : Int, x = (d : Int) → internal_strconv_ParseUint_c16_c16.j5 65536 false (a : Int) (i : Int) x = some (.inl (false, ((16 * a + d : Nat) : Int), ((i + 1 : Nat) : Int))) := by
    intro x hx; subst hx
    unfold internal_strconv_ParseUint_c16_c16.j5 internal_strconv_ParseUint_c16_c16.j6
    have c1 : ¬ ((d : Int) ≥ 16) := by omega
    have c2 : ¬ ((a : Int) ≥ 1152921504606846976) := by omega
    have u1 : IntKind.wrap .u64 ((a : Int) * 16) = ((16 * a : Nat) : Int) := by rw [wrap_u64 (by omega) (by omega)]; omega
    have u2 : IntKind.wrap .u64 (d : Int) = (d : Int) := wrap_u64 (by omega) (by omega)
    have u3 : IntKind.wrap .u64 (((16 * a : Nat) : Int) + (d : Int)) = ((16 * a + d : Nat) : Int) := by rw [wrap_u64 (by omega) (by omega)]; omega
    have u4 : IntKind.wrap .u64 (65536 - 1) = 65535 := by decide
    have c3 : ((decide (((16 * a + d : Nat) : Int) < ((16 * a : Nat) : Int))) || (decide (((16 * a + d : Nat) : Int) > 65535))) = false := by
      simp only [Bool.or_eq_false_iff, decide_eq_false_iff_not]; omega
    simp only [c1, c2, u1, u2, u3, u4, c3, decide_false, Bool.false_eq_true, if_false, w1]
  unfold internal_strconv_ParseUint_c16_c16.l1
  have c : ((i : Int) < ((t.length : Nat) : Int)) := by omega
  simp only [c, decide_true, if_true, getI_nat, h1, Option.bind_some, Bool.and_false, Bool.false_eq_true, if_false]
  by_cases hdig : 48 ≤ b.toNat ∧ b.toNat ≤ 57
  · have c2 : ((decide (48 ≤ ((b.toNat : Nat) : Int))) && (decide (((b.toNat : Nat) : Int) ≤ 57))) = true := by
      simp only [Bool.and_eq_true, decide_eq_true_eq]; omega
    rw [c2, if_pos rfl]
    apply j5
    unfold hexV at h2
    rw [if_pos hdig] at h2
    simp only [Option.some.injEq] at h2
    rw [wrap_u8 (by omega) (by omega)]; omega
  · have c2 : ((decide (48 ≤ ((b.toNat : Nat) : Int))) && (decide (((b.toNat : Nat) : Int) ≤ 57))) = false := by
      simp only [Bool.and_eq_false_iff, decide_eq_false_iff_not]; omega
    rw [c2, if_neg (by simp)]
    obtain ⟨l, e1, e2, e3, e4⟩ : ∃ l : Nat, internal_strconv_lower ((b.toNat : Nat) : Int) = some ((l : Nat) : Int) ∧ 97 ≤ l ∧ l ≤ 102 ∧ hexV b = some (l - 87) := by
      have := lower_hex ⟨b.toNat, b.toNat_lt⟩
      simp only [UInt8.ofNat_toNat] at this
      rcases this with h | h | ⟨l, h⟩
      · exact absurd h hdig
      · rw [h] at h2; cases h2
      · exact ⟨l.val, h⟩
    have hd2 : d = l - 87 := by rw [e4] at h2; simpa using h2.symm
    have c3 : (97 ≤ (l : Int)) := by omega
    have c4 : ((l : Int) ≤ 122) := by omega
    simp only [e1, Option.bind_some, c3, c4, decide_true, if_true]
    unfold internal_strconv_ParseUint_c16_c16.j4
    simp only [if_true, e1, Option.bind_some]
    apply j5
    rw [wrap_u8 (n := (l : Int) - 97) (by omega) (by omega), wrap_u8 (by omega) (by omega)]; omega
theorem parse_loop (t : Str) : ∀ (m i a n : Nat), m + i = t.length → t.length ≤ 4 → a < 16 ^ i → hexN m (t.drop i) a = some n →
    loopM (internal_strconv_ParseUint_c16_c16.l1 t 65536) (false, (a : Int), (i : Int)) = some (.inl (false, (n : Int))) := by
  intro m
  induction m with
  | zero =>
    intro i a n h1 h2 h3 h4
    simp only [hexN, Option.some.injEq] at h4
    subst h4
    refine loopM_out ?_
    unfold internal_strconv_ParseUint_c16_c16.l1
    have c : ¬ ((i : Int) < ((t.length : Nat) : Int)) := by omega
    simp only [c, decide_false, Bool.false_eq_true, if_false]
  | succ m ih =>
    intro i a n h1 h2 h3 h4
    have hlt : i < t.length := by omega
    rw [List.drop_eq_getElem_cons hlt] at h4
    simp only [hexN] at h4
    cases hv : hexV t[i] with
    | none => rw [hv] at h4; cases h4
    | some d =>
      rw [hv] at h4
      have hd := hexV_lt hv
      have ha : a < 4096 := Nat.lt_of_lt_of_le h3 (Nat.le_trans (Nat.pow_le_pow_right (by omega) (show i ≤ 3 by omega)) (by decide))
      rw [loopM_go (parse_step t a i d t[i] (List.getElem?_eq_getElem hlt) hv ha (by omega))]
      exact ih (i + 1) (16 * a + d) n (by omega) h2 (by rw [Nat.pow_succ]; omega) h4
theorem parse_eq (t : Str) (n : Nat) (h0 : t ≠ []) (h1 : t.length ≤ 4) (h2 : hexN t.length t 0 = some n) : strconv_ParseUint_c16_c16 t = some ((n : Int), .nil) := by
  unfold strconv_ParseUint_c16_c16 internal_strconv_ParseUint_c16_c16
  have c : (t == ([] : Str)) = false := by simpa using h0
  have e : shlI .u64 1 16 = some 65536 := by decide
  have key := parse_loop t t.length 0 0 n (by omega) h1 (by decide) (by simpa using h2)
  have key2 : loopM (internal_strconv_ParseUint_c16_c16.l1 t 65536) (false, 0, 0) = some (.inl (false, (n : Int))) := key
  rw [c, if_neg (by simp), e]
  simp only [Option.bind_some, key2, Bool.false_eq_true, if_false]
  rfl
theorem units_unit_eq (n : Nat) (h : n < 65536) : units_unit (n : Int) = some (enc1 n) := by
  unfold units_unit
  have f1 : Int.fdiv (n : Int) (2 ^ 8) = ((n / 256 : Nat) : Int) := by
    rw [Int.fdiv_eq_ediv_of_nonneg _ (by omega)]; rfl
  have w1 : IntKind.wrap .u8 ((n / 256 : Nat) : Int) = ((n / 256 : Nat) : Int) := wrap_u8 (by omega) (by omega)
  have hb := wrap_u8_mod (n : Int)
  rw [f1, w1, toB_u8 (by omega) (by omega), hb, toB_u8 (by omega) (by omega)]
  simp only [Option.bind_some, Int.toNat_natCast]
  unfold enc1
  have e : ((n : Int) % 256).toNat = n % 256 := by omega
  rw [e]
theorem builder_write (r : T_units_reader) (s : Str) (h : r.out.length + s.length ≤ 274877906944) : strings_Builder_WriteString_at_units_reader_1 r s = some (((s.length : Nat) : Int), .nil, { s := r.s, out := r.out ++ s }) := by
  unfold strings_Builder_WriteString_at_units_reader_1 strings_Builder_copyCheck_at_units_reader_1
  simp only [Option.bind_some, room_ok h]
theorem digits_eq (s : Str) (acc : List Nat) (k : Nat) (hk : k = 2 ∨ k = 4) (hs : s.length ≤ 100000000) (ha : acc.length ≤ 100000000) :
    ∃ r, units_reader_digits { s := s, out := encL acc } (k : Int) = some r ∧ (match hexN k s 0 with
      | none => r.1 = false
      | some n => r = (true, { s := s.drop k, out := encL (acc ++ [n]) })) := by
  unfold units_reader_digits
  by_cases hl : s.length < k
  · have c : ((((s.length : Nat) : Int)) < (k : Int)) := by omega
    simp only [c, decide_true, if_true]
    refine ⟨_, rfl, ?_⟩
    cases hn : hexN k s 0 with
    | none => rfl
    | some n => have := hexN_len _ _ _ _ hn; omega
  · have c : ¬ ((((s.length : Nat) : Int)) < (k : Int)) := by omega
    have hcut : cutL s 0 (k : Int) = some (s.take k) := by
      have := cutL_nat s 0 k (by omega) (by omega)
      simpa using this
    have hlen : (s.take k).length = k := by rw [List.length_take]; omega
    have htrim : strings_Trim (s.take k) ([48, 49, 50, 51, 52, 53, 54, 55, 56, 57, 97, 98, 99, 100, 101, 102, 65, 66, 67, 68, 69, 70] : Str) = some (Lib.trimS (s.take k) hexCs) := by
      unfold strings_Trim
      rw [if_pos ⟨by omega, by decide, by decide⟩]; rfl
    have hsome := hexN_isSome (s.take k) 0
    rw [hlen, hexN_take k s 0 (by omega)] at hsome
    simp only [c, decide_false, Bool.false_eq_true, if_false, hcut, Option.bind_some, htrim, trimS_nil, ← hsome]
    unfold units_reader_digits.j1
    cases hn : hexN k s 0 with
    | none => exact ⟨_, rfl, rfl⟩
    | some n =>
      have hparse := parse_eq (s.take k) n (by intro h; rw [h] at hlen; simp at hlen; omega) (by omega) (by rw [hlen, hexN_take k s 0 (by omega)]; exact hn)
      have hn2 : n < 65536 := by
        have := hexN_lt _ _ _ _ hn
        rcases hk with rfl | rfl <;> omega
      have hend := cutL_to_end s k (by omega)
      have w : IntKind.wrap .i64 (n : Int) = (n : Int) := wrap_i64 (by omega) (by omega)
      have hbw := builder_write { s := s.drop k, out := encL acc } (enc1 n) (by simp only [encL_length]; simp [enc1]; omega)
      simp only [Option.isSome_some, Bool.not_true, Bool.false_eq_true, if_false, hcut, Option.bind_some, hparse, hend, w, units_unit_eq n hn2, hbw]
      refine ⟨_, rfl, ?_⟩
      simp [encL]
def readG (q : UInt8) : Nat → Str → List Nat → Option (List Nat × Nat)
  | 0, _, _ => none
  | _ + 1, [], _ => none
  | m + 1, c :: r, acc =>
    if c = q then some (acc, r.length)
    else if c = 10 ∨ c = 13 ∨ c.toNat > 127 then none
    else if c = 92 then (match escS r with
      | none => none
      | some (us, k) => readG q m (r.drop k) (acc ++ us))
    else readG q m r (acc ++ [c.toNat])
def readS (s : Str) : Str × Int × Int :=
  match s with
  | [] => ([], 0, 10)
  | q :: r => if q = 39 ∨ q = 34 then (match readG q (r.length + 1) r [] with
      | none => ([], 0, 10)
      | some (us, k) => (encL us, ((s.length - k : Nat) : Int), 0)) else ([], 0, 10)
theorem idx_esc : ∀ b : Fin 256, strings_IndexByte ([110, 116, 114, 98, 102, 118] : Str) ((b.val : Nat) : Int) = some (if b.val = 110 then 0 else if b.val = 116 then 1 else if b.val = 114 then 2 else if b.val = 98 then 3 else if b.val = 102 then 4 else if b.val = 118 then 5 else -1) := by decide +kernel
theorem idx_esc' (b : UInt8) : strings_IndexByte ([110, 116, 114, 98, 102, 118] : Str) ((b.toNat : Nat) : Int) = some (if b.toNat = 110 then 0 else if b.toNat = 116 then 1 else if b.toNat = 114 then 2 else if b.toNat = 98 then 3 else if b.toNat = 102 then 4 else if b.toNat = 118 then 5 else -1) := idx_esc ⟨b.toNat, b.toNat_lt⟩
theorem u8_eq_iff (b : UInt8) (n : Nat) (h : n < 256) : b = UInt8.ofNat n ↔ b.toNat = n := by
  constructor
  · intro e; subst e; simp [UInt8.toNat_ofNat']; omega
  · intro e; apply UInt8.toNat_inj.mp; simp [UInt8.toNat_ofNat']; omega
theorem natcast_beq (a b : Nat) : (((a : Nat) : Int) == ((b : Nat) : Int)) = decide (a = b) := by
  by_cases h : a = b
  · simp [h]
  · simp [h]; omega
theorem escape_eq (s : Str) (acc : List Nat) (hs : s.length ≤ 100000000) (ha : acc.length ≤ 100000000) :
    ∃ r, units_reader_escape { s := s, out := encL acc } = some r ∧ (match escS s with
      | none => r.1 = false
      | some (us, k) => r = (true, { s := s.drop k, out := encL (acc ++ us) })) := by
  unfold units_reader_escape
  cases s with
  | nil => exact ⟨_, rfl, rfl⟩
  | cons c r =>
    have hb := c.toNat_lt
    have g0 : getB (c :: r) 0 = some ((c.toNat : Nat) : Int) := rfl
    have hcut : cutL (c :: r) 1 (((c :: r).length : Nat) : Int) = some r := by
      have := cutL_to_end (c :: r) 1 (by simp)
      simpa using this
    have hr : r.length ≤ 100000000 := by simp only [List.length_cons] at hs; omega
    have write : ∀ n : Nat, n < 65536 → strings_Builder_WriteString_at_units_reader_1 ({ s := r, out := encL acc } : T_units_reader) (enc1 n) = some (2, .nil, { s := r, out := encL (acc ++ [n]) }) := by
      intro n hn
      rw [builder_write _ _ (by simp only [encL_length]; simp [enc1]; omega)]
      simp [encL, enc1]
    have wi : ∀ n : Nat, n < 65536 → IntKind.wrap .i64 (n : Int) = (n : Int) := fun n hn => wrap_i64 (by omega) (by omega)
    have c0 : ((c :: r : Str) == ([] : Str)) = false := rfl
    simp only [c0, Bool.false_eq_true, if_false, g0, Option.bind_some, hcut, idx_esc']
    have tn : ∀ n : Nat, n < 256 → (c = UInt8.ofNat n ↔ c.toNat = n) := u8_eq_iff c
    have spec : escS (c :: r) = if c.toNat = 10 then some ([], 1) else if c.toNat = 48 then (match r with
      | [] => some ([0], 1)
      | d :: _ => if 48 ≤ d.toNat ∧ d.toNat ≤ 57 then none else some ([0], 1))
      else if c.toNat = 120 then (hexN 2 r 0).map fun n => ([n], 3)
      else if c.toNat = 117 then (hexN 4 r 0).map fun n => ([n], 5)
      else (simpleV c).map fun n => ([n], 1) := by
      simp only [escS, ← tn 10 (by omega), ← tn 48 (by omega), ← tn 120 (by omega), ← tn 117 (by omega)]; rfl
    have simp' : simpleV c = if c.toNat = 110 then some 10 else if c.toNat = 116 then some 9 else if c.toNat = 114 then some 13 else if c.toNat = 98 then some 8 else if c.toNat = 102 then some 12 else if c.toNat = 118 then some 11
        else if c.toNat > 127 ∨ c.toNat = 13 ∨ c.toNat = 120 ∨ c.toNat = 117 ∨ (48 ≤ c.toNat ∧ c.toNat ≤ 57) ∨ c.toNat = 10 then none else some c.toNat := by
      simp only [simpleV, ← tn 110 (by omega), ← tn 116 (by omega), ← tn 114 (by omega), ← tn 98 (by omega), ← tn 102 (by omega), ← tn 118 (by omega), ← tn 13 (by omega), ← tn 120 (by omega), ← tn 117 (by omega), ← tn 10 (by omega)]; rfl
    rw [spec, simp']
    clear spec simp' tn
    generalize hk : c.toNat = k at *
    have small : ∀ (j m : Nat) (v : Int), v = (j : Int) → ([10, 9, 13, 8, 12, 11] : Str)[j]? = some (UInt8.ofNat m) → m < 256 →
        ∃ r0, (if decide (v ≥ 0) = true then
          Option.bind (getB ([10, 9, 13, 8, 12, 11] : Str) v) fun v7 =>
          Option.bind (units_unit (IntKind.wrap .i64 v7)) fun v8 =>
          Option.bind (strings_Builder_WriteString_at_units_reader_1 ({ s := r, out := encL acc } : T_units_reader) v8) fun v9 =>
          some (true, v9.2.2) else none) = some r0 ∧ r0 = (true, { s := (c :: r).drop 1, out := encL (acc ++ [m]) }) := by
      intro j m v hv hj hm
      subst hv
      have cc : ((j : Int) ≥ 0) := by omega
      have e : (UInt8.ofNat m).toNat = m := by simp [UInt8.toNat_ofNat']; omega
      simp only [cc, decide_true, if_true, getB_nat, hj, Option.map_some, Option.bind_some, e, wi m (by omega), units_unit_eq m (by omega), write m (by omega)]
      exact ⟨_, rfl, rfl⟩
    by_cases h110 : k = 110
    · subst h110; simpa using small 0 10 0 rfl rfl (by omega)
    by_cases h116 : k = 116
    · subst h116; simpa using small 1 9 1 rfl rfl (by omega)
    by_cases h114 : k = 114
    · subst h114; simpa using small 2 13 2 rfl rfl (by omega)
    by_cases h98 : k = 98
    · subst h98; simpa using small 3 8 3 rfl rfl (by omega)
    by_cases h102 : k = 102
    · subst h102; simpa using small 4 12 4 rfl rfl (by omega)
    by_cases h118 : k = 118
    · subst h118; simpa using small 5 11 5 rfl rfl (by omega)
    have m1 : ¬ ((-1 : Int) ≥ 0) := by decide
    simp only [h110, h116, h114, h98, h102, h118, if_false, m1, decide_false, Bool.false_eq_true]
    have cc : ∀ m : Nat, ((k : Int) == ((m : Nat) : Int)) = decide (k = m) := fun m => natcast_beq k m
    have c10 : ((k : Int) == 10) = decide (k = 10) := cc 10
    have c120 : ((k : Int) == 120) = decide (k = 120) := cc 120
    have c117 : ((k : Int) == 117) = decide (k = 117) := cc 117
    have c48 : ((k : Int) == 48) = decide (k = 48) := cc 48
    have c13 : ((k : Int) == 13) = decide (k = 13) := cc 13
    simp only [c10, c120, c117, c48, c13, decide_eq_true_eq]
    by_cases h10 : k = 10
    · rw [if_pos h10, if_pos h10]
      unfold units_reader_escape.j2
      exact ⟨_, rfl, by simp⟩
    rw [if_neg h10, if_neg h10]
    by_cases h120 : k = 120
    · have h48 : ¬ k = 48 := by omega
      rw [if_pos h120, if_neg h48, if_pos h120]
      obtain ⟨x, e1, e2⟩ := digits_eq r acc 2 (.inl rfl) hr ha
      have e1' : units_reader_digits { s := r, out := encL acc } 2 = some x := e1
      rw [e1']
      refine ⟨_, rfl, ?_⟩
      cases hn : hexN 2 r 0 with
      | none => rw [hn] at e2; exact e2
      | some n => rw [hn] at e2; simp only at e2; subst e2; simp
    rw [if_neg h120]
    by_cases h117 : k = 117
    · have h48 : ¬ k = 48 := by omega
      rw [if_pos h117, if_neg h48, if_neg h120, if_pos h117]
      obtain ⟨x, e1, e2⟩ := digits_eq r acc 4 (.inr rfl) hr ha
      have e1' : units_reader_digits { s := r, out := encL acc } 4 = some x := e1
      rw [e1']
      refine ⟨_, rfl, ?_⟩
      cases hn : hexN 4 r 0 with
      | none => rw [hn] at e2; exact e2
      | some n => rw [hn] at e2; simp only at e2; subst e2; simp
    rw [if_neg h117]
    by_cases h48 : k = 48
    · rw [if_pos h48, if_pos h48]
      have w0 := write 0 (by omega)
      have u0 : units_unit 0 = some (enc1 0) := units_unit_eq 0 (by omega)
      simp only [u0, Option.bind_some, w0]
      unfold units_reader_escape.j1
      cases r with
      | nil => exact ⟨_, rfl, by simp⟩
      | cons d r' =>
        have gd0 : getB (d :: r') 0 = some ((d.toNat : Nat) : Int) := rfl
        have cn : ((d :: r' : Str) == ([] : Str)) = false := rfl
        simp only [cn, Bool.false_eq_true, if_false, gd0, Option.bind_some]
        by_cases hd1 : d.toNat < 48
        · have cd : ((d.toNat : Nat) : Int) < 48 := by omega
          have cd2 : ¬ (48 ≤ d.toNat ∧ d.toNat ≤ 57) := by omega
          simp only [cd, decide_true, if_true, cd2, if_false]
          exact ⟨_, rfl, by simp⟩
        · have cd : ¬ ((d.toNat : Nat) : Int) < 48 := by omega
          simp only [cd, decide_false, Bool.false_eq_true, if_false]
          by_cases hd2 : d.toNat ≤ 57
          · have cd2 : (48 ≤ d.toNat ∧ d.toNat ≤ 57) := by omega
            have cd3 : ¬ ((d.toNat : Nat) : Int) > 57 := by omega
            simp only [cd2, and_self, if_true, cd3, decide_false]
            exact ⟨_, rfl, by simp⟩
          · have cd2 : ¬ (48 ≤ d.toNat ∧ d.toNat ≤ 57) := by omega
            have cd3 : ((d.toNat : Nat) : Int) > 57 := by omega
            simp only [cd2, if_false, cd3, decide_true]
            exact ⟨_, rfl, by simp⟩
    rw [if_neg h48, if_neg h48, if_neg h120, if_neg h117]
    by_cases hbad : k > 127 ∨ k = 13 ∨ k = 120 ∨ k = 117 ∨ (48 ≤ k ∧ k ≤ 57) ∨ k = 10
    · have cb : ((decide (k = 13) || (decide ((k : Int) ≥ 49) && decide ((k : Int) ≤ 57))) || decide ((k : Int) ≥ 128)) = true := by
        simp only [Bool.or_eq_true, Bool.and_eq_true, decide_eq_true_eq]; omega
      rw [if_pos hbad, cb, if_pos rfl]
      exact ⟨_, rfl, rfl⟩
    · have cb : ((decide (k = 13) || (decide ((k : Int) ≥ 49) && decide ((k : Int) ≤ 57))) || decide ((k : Int) ≥ 128)) = false := by
        simp only [Bool.or_eq_false_iff, Bool.and_eq_false_iff, decide_eq_false_iff_not]; omega
      rw [if_neg hbad, cb, if_neg (by simp)]
      simp only [wi k (by omega), units_unit_eq k (by omega), Option.bind_some, write k (by omega)]
      unfold units_reader_escape.j2
      exact ⟨_, rfl, by simp⟩
def okU (l : List Nat) : Prop := ∀ n ∈ l, n < 65536
def endU (q : UInt8) (s : Str) (m : Nat) (rest : Str) (acc : List Nat) : Str × Int × Int := match readG q m rest acc with
  | none => ([], 0, 10)
  | some (us, k) => (encL us, ((s.length - k : Nat) : Int), 0)
def outE (e : Unit ⊕ (Str × Int × Int)) : Str × Int × Int := match e with
  | .inl () => ([], 0, 10)
  | .inr r => r
theorem units_Read_loop (q : UInt8) (s0 : Str) (hs : (q :: s0).length ≤ 100000000) : ∀ (m : Nat) (rest : Str) (acc : List Nat), rest.length < m → rest.length ≤ s0.length → acc.length + rest.length ≤ 100000000 → okU acc →
    ∃ e, loopM (units_Read.l1 (q :: s0)) (rest, encL acc) = some e ∧ outE e = endU q (q :: s0) m rest acc := by
  intro m
  induction m with
  | zero => intro rest acc h; omega
  | succ m ih =>
    intro rest acc h1 h2 h3 h4
    cases rest with
    | nil =>
      refine ⟨.inl (), loopM_out ?_, ?_⟩
      · unfold units_Read.l1; rfl
      · rfl
    | cons c r =>
      have hb := c.toNat_lt
      have g0 : getB (c :: r) 0 = some ((c.toNat : Nat) : Int) := rfl
      have gq : getB (q :: s0) 0 = some ((q.toNat : Nat) : Int) := rfl
      have hcut : cutL (c :: r) 1 (((c :: r).length : Nat) : Int) = some r := by
        have := cutL_to_end (c :: r) 1 (by simp)
        simpa using this
      have c0 : ((c :: r : Str) == ([] : Str)) = false := rfl
      have hq : ((((c.toNat : Nat) : Int)) == ((q.toNat : Nat) : Int)) = decide (c = q) := by rw [natcast_beq]; simp [UInt8.toNat_inj]
      have u8b : ∀ n : Nat, n < 256 → ((((c.toNat : Nat) : Int)) == ((n : Nat) : Int)) = decide (c = UInt8.ofNat n) := fun n h => by
        rw [natcast_beq, decide_eq_decide]; exact (u8_eq_iff _ n h).symm
      have e10 : ((((c.toNat : Nat) : Int)) == 10) = decide (c = 10) := u8b 10 (by omega)
      have e13 : ((((c.toNat : Nat) : Int)) == 13) = decide (c = 13) := u8b 13 (by omega)
      have e92 : ((((c.toNat : Nat) : Int)) == 92) = decide (c = 92) := u8b 92 (by omega)
      have head : units_Read.l1 (q :: s0) (c :: r, encL acc) = (if (((((c.toNat : Nat) : Int)) == ((q.toNat : Nat) : Int))) = true then
            (Option.bind (strings_Builder_String_at_units_reader_1 ({ s := r, out := encL acc } : T_units_reader)) fun v37 =>
            units_Read.j4 v37 (IntKind.wrap .i64 ((((q :: s0).length : Nat) : Int) - (((({ s := r, out := encL acc } : T_units_reader).s).length : Nat) : Int))))
          else
            if (((((c.toNat : Nat) : Int) == 10) || (((c.toNat : Nat) : Int) == 13)) || (decide (((c.toNat : Nat) : Int) ≥ 128))) = true then
              units_Read.j5 ((c.toNat : Nat) : Int) (((((c.toNat : Nat) : Int) == 10) || (((c.toNat : Nat) : Int) == 13)) || (decide (((c.toNat : Nat) : Int) ≥ 128))) r (encL acc)
            else
              if (((c.toNat : Nat) : Int) == 92) = true then
                Option.bind (units_reader_escape ({ s := r, out := encL acc } : T_units_reader)) fun v43 =>
                units_Read.j5 ((c.toNat : Nat) : Int) (!v43.1) v43.2.s v43.2.out
              else
                units_Read.j5 ((c.toNat : Nat) : Int) false r (encL acc)) := by
        unfold units_Read.l1
        simp only [c0, Bool.not_false, if_true, g0, gq, hcut, Option.bind_some]
      rw [hq, e10, e13, e92] at head
      by_cases hcq : c = q
      · refine ⟨.inr (encL acc, (((q :: s0).length - r.length : Nat) : Int), 0), loopM_out ?_, ?_⟩
        · rw [head]
          unfold units_Read.j4 strings_Builder_String_at_units_reader_1 strings_Builder_String_at_units_reader_1.j1
          have w : IntKind.wrap .i64 ((((q :: s0).length : Nat) : Int) - ((r.length : Nat) : Int)) = (((q :: s0).length - r.length : Nat) : Int) := by
            have : r.length ≤ (q :: s0).length := by simp only [List.length_cons] at h2 ⊢; omega
            rw [wrap_i64 (by omega) (by omega)]; omega
          simp only [hcq, decide_true, if_true, Option.bind_some, w]
        · unfold outE endU readG
          simp only [hcq, if_true]
      · simp only [hcq, decide_false, Bool.false_eq_true, if_false] at head
        by_cases hbad : c = 10 ∨ c = 13 ∨ c.toNat > 127
        · have cb : ((decide (c = 10) || decide (c = 13)) || decide (((c.toNat : Nat) : Int) ≥ 128)) = true := by
            simp only [Bool.or_eq_true, decide_eq_true_eq]
            rcases hbad with h | h | h
            · exact .inl (.inl h)
            · exact .inl (.inr h)
            · right; omega
          rw [cb] at head
          refine ⟨.inr ([], 0, 10), loopM_out (head.trans ?_), ?_⟩
          · unfold units_Read.j5; rfl
          · unfold outE endU readG
            simp only [hcq, hbad, if_true, if_false]
        · have cb : ((decide (c = 10) || decide (c = 13)) || decide (((c.toNat : Nat) : Int) ≥ 128)) = false := by
            simp only [Bool.or_eq_false_iff, decide_eq_false_iff_not]
            refine ⟨⟨fun h => hbad (.inl h), fun h => hbad (.inr (.inl h))⟩, fun h => hbad (.inr (.inr (by omega)))⟩
          rw [cb] at head
          simp only [Bool.false_eq_true, if_false] at head
          by_cases h92 : c = 92
          · simp only [h92, decide_true, if_true] at head
            obtain ⟨x, e1, e2⟩ := escape_eq r acc (by simp only [List.length_cons] at h3; omega) (by omega)
            rw [e1] at head
            simp only [Option.bind_some] at head
            cases hesc : escS r with
            | none =>
              rw [hesc] at e2
              simp only at e2
              rw [e2] at head
              refine ⟨.inr ([], 0, 10), loopM_out (Eq.trans ?_ head |>.trans ?_), ?_⟩
              · rw [h92]
              · unfold units_Read.j5; rfl
              · unfold outE endU readG
                simp only [hcq, hbad, if_false, h92, if_true, hesc]
                rw [h92] at hcq hbad
                simp only [hcq, hbad, if_false]
            | some p =>
              obtain ⟨us, k⟩ := p
              rw [hesc] at e2
              simp only at e2
              obtain ⟨p1, p2, p3, p4⟩ := escS_some hesc
              subst e2
              have hgo : units_Read.l1 (q :: s0) (c :: r, encL acc) = some (.inl (r.drop k, encL (acc ++ us))) := by
                rw [h92, head]; unfold units_Read.j5; rfl
              have hacc : okU (acc ++ us) := by
                intro n hn
                rcases List.mem_append.mp hn with h | h
                · exact h4 n h
                · exact p1 n h
              simp only [List.length_cons] at h1 h2 h3
              obtain ⟨e, g1, g2⟩ := ih (r.drop k) (acc ++ us) (by simp; omega) (by simp; omega) (by simp; omega) hacc
              refine ⟨e, (loopM_go hgo).trans g1, g2.trans ?_⟩
              unfold endU
              conv => rhs; unfold readG
              simp only [hcq, hbad, if_false, h92, if_true, hesc]
              rw [h92] at hcq hbad
              simp only [hcq, hbad, if_false]
          · simp only [h92, decide_false, Bool.false_eq_true, if_false] at head
            have hn92 : (((c.toNat : Nat) : Int) != 92) = true := by
              have : (((c.toNat : Nat) : Int) == 92) = false := by rw [e92]; simp [h92]
              simp [bne, this]
            have hgo : units_Read.l1 (q :: s0) (c :: r, encL acc) = some (.inl (r, encL (acc ++ [c.toNat]))) := by
              rw [head]; unfold units_Read.j5
              have w : IntKind.wrap .i64 ((c.toNat : Nat) : Int) = ((c.toNat : Nat) : Int) := wrap_i64 (by omega) (by omega)
              have hw := builder_write ({ s := r, out := encL acc } : T_units_reader) (enc1 c.toNat) (by simp only [encL_length]; simp [enc1]; omega)
              simp only [Bool.false_eq_true, if_false, hn92, if_true, w, units_unit_eq c.toNat (by omega), Option.bind_some, hw]
              simp [encL]
            have hacc : okU (acc ++ [c.toNat]) := by
              intro n hn
              rcases List.mem_append.mp hn with h | h
              · exact h4 n h
              · simp at h; omega
            simp only [List.length_cons] at h1 h2 h3
            obtain ⟨e, g1, g2⟩ := ih r (acc ++ [c.toNat]) (by omega) (by omega) (by simp; omega) hacc
            refine ⟨e, (loopM_go hgo).trans g1, g2.trans ?_⟩
            unfold endU
            conv => rhs; unfold readG
            simp only [hcq, hbad, if_false, h92]
theorem u8_bne (c : UInt8) (n : Nat) (h : n < 256) : (((c.toNat : Nat) : Int) != ((n : Nat) : Int)) = !decide (c = UInt8.ofNat n) := by
  simp only [bne, natcast_beq]
  congr 1
  rw [decide_eq_decide]
  exact (u8_eq_iff c n h).symm
theorem units_Read_eq (s : Str) (hs : s.length ≤ 100000000) : units_Read s = some (readS s) := by
  unfold units_Read
  cases s with
  | nil => rfl
  | cons q s0 =>
    have gq : getB (q :: s0) 0 = some ((q.toNat : Nat) : Int) := rfl
    have c0 : ((q :: s0 : Str) == ([] : Str)) = false := rfl
    have b39 : (((q.toNat : Nat) : Int) != 39) = !decide (q = 39) := u8_bne q 39 (by omega)
    have b34 : (((q.toNat : Nat) : Int) != 34) = !decide (q = 34) := u8_bne q 34 (by omega)
    simp only [c0, Bool.false_eq_true, if_false, gq, Option.bind_some, b39, b34]
    have hcut : cutL (q :: s0) 1 (((q :: s0).length : Nat) : Int) = some s0 := by
      have := cutL_to_end (q :: s0) 1 (by simp)
      simpa using this
    have good : (q = 39 ∨ q = 34) → units_Read.j1 (q :: s0) false = some (readS (q :: s0)) := by
      intro hq
      unfold units_Read.j1
      rw [if_neg (by decide)]
      obtain ⟨e, g1, g2⟩ := units_Read_loop q s0 hs (s0.length + 1) s0 [] (by omega) (by omega) (by simp only [List.length_cons] at hs; simp; omega) (by intro n hn; cases hn)
      have g1' : loopM (units_Read.l1 (q :: s0)) (s0, []) = some e := g1
      have hfin : readS (q :: s0) = endU q (q :: s0) (s0.length + 1) s0 [] := by
        unfold readS endU
        simp only [hq, if_true]
      rw [hcut, Option.bind_some, g1', Option.bind_some, hfin, ← g2]
      cases e with
      | inl u => rfl
      | inr x => rfl
    by_cases h39 : q = 39
    · have d39 : decide (q = 39) = true := by rw [decide_eq_true_eq]; exact h39
      simp only [d39, Bool.not_true, Bool.false_eq_true, if_false]
      exact good (.inl h39)
    · have d39 : decide (q = 39) = false := by rw [decide_eq_false_iff_not]; exact h39
      simp only [d39, Bool.not_false, if_true]
      by_cases h34 : q = 34
      · have d34 : decide (q = 34) = true := by rw [decide_eq_true_eq]; exact h34
        simp only [d34, Bool.not_true]
        exact good (.inr h34)
      · have d34 : decide (q = 34) = false := by rw [decide_eq_false_iff_not]; exact h34
        have : readS (q :: s0) = ([], 0, 10) := by
          unfold readS; simp only [h39, h34, or_self, if_false]
        rw [this]
        simp only [d34, Bool.not_false]
        rfl
/-! ### the document's answer -/
theorem ref01_digit_eq : ∀ b : Fin 256, ref01_digit ((b.val : Nat) : Int) = some (match hexV (UInt8.ofNat b.val) with
  | none => -1
  | some d => (d : Int)) := by decide +kernel
theorem ref01_digit_eq' (b : UInt8) : ref01_digit ((b.toNat : Nat) : Int) = some (match hexV b with
  | none => -1
  | some d => (d : Int)) := by
  have := ref01_digit_eq ⟨b.toNat, b.toNat_lt⟩
  simpa using this
theorem ref01_digits_loop (s : Str) (at_ : Nat) (hs : s.length ≤ 100000000) (ha : at_ ≤ 100000001) : ∀ (m i a many : Nat), m + i = many → many ≤ 4 → a < 16 ^ i →
    loopM (ref01_digits.l1 s (at_ : Int) (many : Int)) ((a : Int), (i : Int)) = some (match hexN m (s.drop (at_ + i)) a with
      | none => .inr (-1)
      | some n => .inl (n : Int)) := by
  intro m
  induction m with
  | zero =>
    intro i a many h1 h2 h3
    refine loopM_out ?_
    unfold ref01_digits.l1
    have c : ¬ ((i : Int) < (many : Int)) := by omega
    simp only [c, decide_false, Bool.false_eq_true, if_false, hexN]
  | succ m ih =>
    intro i a many h1 h2 h3
    have c : ((i : Int) < (many : Int)) := by omega
    have w1 : IntKind.wrap .i64 ((at_ : Int) + (i : Int)) = ((at_ + i : Nat) : Int) := by rw [wrap_i64 (by omega) (by omega)]; omega
    by_cases hlen : at_ + i < s.length
    · have c2 : ¬ (((at_ + i : Nat) : Int) ≥ ((s.length : Nat) : Int)) := by omega
      rw [List.drop_eq_getElem_cons hlen]
      simp only [hexN]
      cases hv : hexV s[at_ + i] with
      | none =>
        refine loopM_out ?_
        unfold ref01_digits.l1 ref01_digits.j2
        simp only [c, decide_true, if_true, w1, c2, decide_false, Bool.false_eq_true, if_false, getB_nat, List.getElem?_eq_getElem hlen, Option.map_some, Option.bind_some, ref01_digit_eq', hv]
        rfl
      | some d =>
        have hd := hexV_lt hv
        have ha4 : a < 4096 := Nat.lt_of_lt_of_le h3 (Nat.le_trans (Nat.pow_le_pow_right (by omega) (show i ≤ 3 by omega)) (by decide))
        have w2 : IntKind.wrap .i64 (16 * (a : Int)) = ((16 * a : Nat) : Int) := by rw [wrap_i64 (by omega) (by omega)]; omega
        have w3 : IntKind.wrap .i64 (((16 * a : Nat) : Int) + (d : Int)) = ((16 * a + d : Nat) : Int) := by rw [wrap_i64 (by omega) (by omega)]; omega
        have w4 : IntKind.wrap .i64 ((i : Int) + 1) = ((i + 1 : Nat) : Int) := by rw [wrap_i64 (by omega) (by omega)]; omega
        have c3 : ¬ ((d : Int) < 0) := by omega
        have hgo : ref01_digits.l1 s (at_ : Int) (many : Int) ((a : Int), (i : Int)) = some (.inl (((16 * a + d : Nat) : Int), ((i + 1 : Nat) : Int))) := by
          unfold ref01_digits.l1 ref01_digits.j2
          simp only [c, decide_true, if_true, w1, c2, decide_false, Bool.false_eq_true, if_false, getB_nat, List.getElem?_eq_getElem hlen, Option.map_some, Option.bind_some, ref01_digit_eq', hv, c3, w2, w3, w4]
        rw [loopM_go hgo]
        exact ih (i + 1) (16 * a + d) many (by omega) h2 (by rw [Nat.pow_succ]; omega)
    · have c2 : (((at_ + i : Nat) : Int) ≥ ((s.length : Nat) : Int)) := by omega
      rw [List.drop_eq_nil_of_le (by omega)]
      refine loopM_out ?_
      unfold ref01_digits.l1 ref01_digits.j2
      simp only [c, decide_true, if_true, w1, c2, hexN]
theorem ref01_digits_eq (s : Str) (at_ many : Nat) (hs : s.length ≤ 100000000) (ha : at_ ≤ 100000001) (hm : many ≤ 4) : ref01_digits s (at_ : Int) (many : Int) = some (match hexN many (s.drop at_) 0 with
    | none => -1
    | some n => (n : Int)) := by
  unfold ref01_digits
  have key := ref01_digits_loop s at_ hs ha many 0 0 many (by omega) hm (by decide)
  have key2 : loopM (ref01_digits.l1 s (at_ : Int) (many : Int)) (0, 0) = some (match hexN many (s.drop (at_ + 0)) 0 with
      | none => .inr (-1)
      | some n => .inl (n : Int)) := key
  rw [key2]
  simp only [Nat.add_zero, Option.bind_some]
  cases hexN many (s.drop at_) 0 <;> rfl
theorem ref01_simple_eq : ∀ b : Fin 256, ref01_simple ((b.val : Nat) : Int) = some (match simpleV (UInt8.ofNat b.val) with
  | none => -1
  | some d => (d : Int)) := by decide +kernel
theorem ref01_simple_eq' (b : UInt8) : ref01_simple ((b.toNat : Nat) : Int) = some (match simpleV b with
  | none => -1
  | some d => (d : Int)) := by
  have := ref01_simple_eq ⟨b.toNat, b.toNat_lt⟩
  simpa using this
theorem ref01_escaped_eq (s : Str) (at_ : Nat) (hs : s.length ≤ 100000000) (ha : at_ ≤ s.length) : ref01_escaped s (at_ : Int) = some (match escS (s.drop at_) with
    | none => ([], -1)
    | some (us, k) => (natsI us, (k : Int))) := by
  unfold ref01_escaped
  by_cases hl : at_ < s.length
  · have c : ¬ ((at_ : Int) ≥ ((s.length : Nat) : Int)) := by omega
    rw [List.drop_eq_getElem_cons hl]
    have hg := List.getElem?_eq_getElem hl
    have w1 : IntKind.wrap .i64 ((at_ : Int) + 1) = ((at_ + 1 : Nat) : Int) := by rw [wrap_i64 (by omega) (by omega)]; omega
    have d2 := ref01_digits_eq s (at_ + 1) 2 hs (by omega) (by omega)
    have d4 := ref01_digits_eq s (at_ + 1) 4 hs (by omega) (by omega)
    have d2' : ref01_digits s ((at_ + 1 : Nat) : Int) 2 = some (match hexN 2 (s.drop (at_ + 1)) 0 with
      | none => -1
      | some n => (n : Int)) := d2
    have d4' : ref01_digits s ((at_ + 1 : Nat) : Int) 4 = some (match hexN 4 (s.drop (at_ + 1)) 0 with
      | none => -1
      | some n => (n : Int)) := d4
    have u8b : ∀ n : Nat, n < 256 → ((((s[at_].toNat : Nat) : Int)) == ((n : Nat) : Int)) = decide (s[at_] = UInt8.ofNat n) := fun n h => by
      rw [natcast_beq, decide_eq_decide]; exact (u8_eq_iff _ n h).symm
    have b10 : ((((s[at_].toNat : Nat) : Int)) == 10) = decide (s[at_] = 10) := u8b 10 (by omega)
    have b48 : ((((s[at_].toNat : Nat) : Int)) == 48) = decide (s[at_] = 48) := u8b 48 (by omega)
    have b120 : ((((s[at_].toNat : Nat) : Int)) == 120) = decide (s[at_] = 120) := u8b 120 (by omega)
    have b117 : ((((s[at_].toNat : Nat) : Int)) == 117) = decide (s[at_] = 117) := u8b 117 (by omega)
    simp only [c, decide_false, Bool.false_eq_true, if_false, getB_nat, hg, Option.map_some, Option.bind_some, b10, b48, b120, b117, w1, d2', d4', ref01_simple_eq', escS, decide_eq_true_eq]
    by_cases h10 : s[at_] = 10
    · simp only [h10, if_true]; rfl
    simp only [h10, if_false]
    by_cases h48 : s[at_] = 48
    · simp only [h48, if_true]
      by_cases hl2 : at_ + 1 < s.length
      · have c2 : (((at_ + 1 : Nat) : Int) < ((s.length : Nat) : Int)) := by omega
        rw [List.drop_eq_getElem_cons hl2]
        simp only [c2, if_true, List.getElem?_eq_getElem hl2, Option.map_some, Option.bind_some]
        unfold ref01_escaped.j1
        by_cases hd1 : 48 ≤ s[at_ + 1].toNat
        · have cd : (((s[at_ + 1].toNat : Nat) : Int) ≥ 48) := by omega
          simp only [cd, if_true]
          by_cases hd2 : s[at_ + 1].toNat ≤ 57
          · have cd2 : (((s[at_ + 1].toNat : Nat) : Int) ≤ 57) := by omega
            simp [cd2, hd1, hd2]
          · have cd2 : ¬ (((s[at_ + 1].toNat : Nat) : Int) ≤ 57) := by omega
            simp [cd2, hd2, natsI]
        · have cd : ¬ (((s[at_ + 1].toNat : Nat) : Int) ≥ 48) := by omega
          simp [cd, hd1, natsI]
      · have c2 : ¬ (((at_ + 1 : Nat) : Int) < ((s.length : Nat) : Int)) := by omega
        rw [List.drop_eq_nil_of_le (by omega)]
        simp only [c2, if_false]
        rfl
    simp only [h48, if_false]
    by_cases h120 : s[at_] = 120
    · simp only [h120, if_true]
      cases hn : hexN 2 (s.drop (at_ + 1)) 0 with
      | none => rfl
      | some n =>
        have cn : ¬ ((n : Int) < 0) := by omega
        simp only [cn, if_false]; rfl
    simp only [h120, if_false]
    by_cases h117 : s[at_] = 117
    · simp only [h117, if_true]
      cases hn : hexN 4 (s.drop (at_ + 1)) 0 with
      | none => rfl
      | some n =>
        have cn : ¬ ((n : Int) < 0) := by omega
        simp only [cn, if_false]; rfl
    simp only [h117, if_false]
    cases hn : simpleV s[at_] with
    | none => rfl
    | some n =>
      have cn : ¬ ((n : Int) < 0) := by omega
      simp only [cn, if_false]; rfl
  · have c : ((at_ : Int) ≥ ((s.length : Nat) : Int)) := by omega
    rw [List.drop_eq_nil_of_le (by omega)]
    simp only [c, decide_true, if_true]; rfl
theorem ref01_Read_loop (q : UInt8) (s0 : Str) (hs : (q :: s0).length ≤ 100000000) : ∀ (m i : Nat) (acc : List Nat), (q :: s0).length - i < m → i ≤ (q :: s0).length → acc.length ≤ i → okU acc →
    ∃ e, loopM (ref01_Read.l1 (q :: s0)) ((i : Int), natsI acc) = some e ∧ outE e = endU q (q :: s0) m ((q :: s0).drop i) acc := by
  intro m
  induction m with
  | zero => intro i acc h; omega
  | succ m ih =>
    intro i acc h1 h2 h3 h4
    by_cases hl : i < (q :: s0).length
    · rw [List.drop_eq_getElem_cons hl]
      have hg := List.getElem?_eq_getElem hl
      have gq : getB (q :: s0) 0 = some ((q.toNat : Nat) : Int) := rfl
      have c : ((i : Int) < (((q :: s0).length : Nat) : Int)) := by omega
      generalize hc : (q :: s0)[i] = ch at hg ⊢
      have hb := ch.toNat_lt
      have w1 : IntKind.wrap .i64 ((i : Int) + 1) = ((i + 1 : Nat) : Int) := by rw [wrap_i64 (by omega) (by omega)]; omega
      have hq : ((((ch.toNat : Nat) : Int)) == ((q.toNat : Nat) : Int)) = decide (ch = q) := by rw [natcast_beq]; simp [UInt8.toNat_inj]
      have u8b : ∀ n : Nat, n < 256 → ((((ch.toNat : Nat) : Int)) == ((n : Nat) : Int)) = decide (ch = UInt8.ofNat n) := fun n h => by
        rw [natcast_beq, decide_eq_decide]; exact (u8_eq_iff _ n h).symm
      have b10 : ((((ch.toNat : Nat) : Int)) == 10) = decide (ch = 10) := u8b 10 (by omega)
      have b13 : ((((ch.toNat : Nat) : Int)) == 13) = decide (ch = 13) := u8b 13 (by omega)
      have b92 : ((((ch.toNat : Nat) : Int)) == 92) = decide (ch = 92) := u8b 92 (by omega)
      by_cases hcq : ch = q
      · have hmk := ref01_Make_eq acc (by omega) h4
        refine ⟨.inr (encL acc, ((i + 1 : Nat) : Int), 0), loopM_out ?_, ?_⟩
        · unfold ref01_Read.l1
          have dq : decide (ch = q) = true := by rw [decide_eq_true_eq]; exact hcq
          simp only [c, decide_true, if_true, getB_nat, hg, gq, Option.map_some, Option.bind_some, hq, dq, hmk, w1]
        · unfold outE endU readG
          rw [if_pos hcq]
          simp only
          have : (q :: s0).length - ((q :: s0).drop (i + 1)).length = i + 1 := by rw [List.length_drop]; omega
          rw [this]
      · by_cases hbad : ch = 10 ∨ ch = 13 ∨ ch.toNat > 127
        · have cb : ((decide (ch = 10) || decide (ch = 13)) || decide (((ch.toNat : Nat) : Int) > 127)) = true := by
            simp only [Bool.or_eq_true, decide_eq_true_eq]
            rcases hbad with h | h | h
            · exact .inl (.inl h)
            · exact .inl (.inr h)
            · right; omega
          refine ⟨.inr ([], 0, 10), loopM_out ?_, ?_⟩
          · unfold ref01_Read.l1
            simp only [c, decide_true, if_true, getB_nat, hg, gq, Option.map_some, Option.bind_some, hq, hcq, decide_false, Bool.false_eq_true, if_false, b10, b13, cb]
          · unfold outE endU readG
            rw [if_neg hcq, if_pos hbad]
        · have cb : ((decide (ch = 10) || decide (ch = 13)) || decide (((ch.toNat : Nat) : Int) > 127)) = false := by
            simp only [Bool.or_eq_false_iff, decide_eq_false_iff_not]
            refine ⟨⟨fun h => hbad (.inl h), fun h => hbad (.inr (.inl h))⟩, fun h => hbad (.inr (.inr (by omega)))⟩
          by_cases h92 : ch = 92
          · have hesc := ref01_escaped_eq (q :: s0) (i + 1) hs (by omega)
            have d92 : decide (ch = 92) = true := by rw [decide_eq_true_eq]; exact h92
            cases he : escS ((q :: s0).drop (i + 1)) with
            | none =>
              rw [he] at hesc
              refine ⟨.inr ([], 0, 10), loopM_out ?_, ?_⟩
              · unfold ref01_Read.l1
                simp only [c, decide_true, if_true, getB_nat, hg, gq, Option.map_some, Option.bind_some, hq, hcq, decide_false, Bool.false_eq_true, if_false, b10, b13, cb, b92, d92, w1, hesc]
                rfl
              · unfold outE endU readG
                rw [if_neg hcq, if_neg hbad, if_pos h92, he]
            | some p =>
              obtain ⟨us, k⟩ := p
              rw [he] at hesc
              obtain ⟨p1, p2, p3, p4⟩ := escS_some he
              rw [List.length_drop] at p4
              have ck : ¬ ((k : Int) < 0) := by omega
              have hr := room_ok (n := (natsI acc).length + (natsI us).length) (by simp only [natsI, List.length_map]; omega)
              have w2 : IntKind.wrap .i64 (1 + (k : Int)) = ((1 + k : Nat) : Int) := by rw [wrap_i64 (by omega) (by omega)]; omega
              have w3 : IntKind.wrap .i64 ((i : Int) + ((1 + k : Nat) : Int)) = ((i + 1 + k : Nat) : Int) := by rw [wrap_i64 (by omega) (by omega)]; omega
              have hgo : ref01_Read.l1 (q :: s0) ((i : Int), natsI acc) = some (.inl (((i + 1 + k : Nat) : Int), natsI (acc ++ us))) := by
                unfold ref01_Read.l1
                simp only [c, decide_true, if_true, getB_nat, hg, gq, Option.map_some, Option.bind_some, hq, hcq, decide_false, Bool.false_eq_true, if_false, b10, b13, cb, b92, d92, w1, hesc, ck, hr, w2, w3]
                simp [natsI]
              have hacc : okU (acc ++ us) := by
                intro n hn
                rcases List.mem_append.mp hn with h | h
                · exact h4 n h
                · exact p1 n h
              obtain ⟨e, g1, g2⟩ := ih (i + 1 + k) (acc ++ us) (by omega) (by omega) (by simp; omega) hacc
              refine ⟨e, (loopM_go hgo).trans g1, g2.trans ?_⟩
              unfold endU
              conv => rhs; unfold readG
              rw [if_neg hcq, if_neg hbad, if_pos h92, he]
              simp only [List.drop_drop]
          · have hr := room_ok (n := (natsI acc).length + 1) (by simp only [natsI, List.length_map]; omega)
            have w : IntKind.wrap .i64 ((ch.toNat : Nat) : Int) = ((ch.toNat : Nat) : Int) := wrap_i64 (by omega) (by omega)
            have hgo : ref01_Read.l1 (q :: s0) ((i : Int), natsI acc) = some (.inl (((i + 1 : Nat) : Int), natsI (acc ++ [ch.toNat]))) := by
              unfold ref01_Read.l1
              simp only [c, decide_true, if_true, getB_nat, hg, gq, Option.map_some, Option.bind_some, hq, hcq, decide_false, Bool.false_eq_true, if_false, b10, b13, cb, b92, h92, w1, hr, w]
              simp [natsI]
            have hacc : okU (acc ++ [ch.toNat]) := by
              intro n hn
              rcases List.mem_append.mp hn with h | h
              · exact h4 n h
              · simp at h; omega
            obtain ⟨e, g1, g2⟩ := ih (i + 1) (acc ++ [ch.toNat]) (by omega) (by omega) (by simp; omega) hacc
            refine ⟨e, (loopM_go hgo).trans g1, g2.trans ?_⟩
            unfold endU
            conv => rhs; unfold readG
            rw [if_neg hcq, if_neg hbad, if_neg h92]
    · rw [List.drop_eq_nil_of_le (by omega)]
      refine ⟨.inl (), loopM_out ?_, rfl⟩
      unfold ref01_Read.l1
      have c : ¬ ((i : Int) < (((q :: s0).length : Nat) : Int)) := by omega
      simp only [c, decide_false, Bool.false_eq_true, if_false]
theorem ref01_Read_eq (s : Str) (hs : s.length ≤ 100000000) : ref01_Read s = some (readS s) := by
  unfold ref01_Read
  cases s with
  | nil => rfl
  | cons q s0 =>
    have gq : getB (q :: s0) 0 = some ((q.toNat : Nat) : Int) := rfl
    have c0 : ((q :: s0 : Str) == ([] : Str)) = false := rfl
    have b39 : (((q.toNat : Nat) : Int) != 39) = !decide (q = 39) := u8_bne q 39 (by omega)
    have b34 : (((q.toNat : Nat) : Int) != 34) = !decide (q = 34) := u8_bne q 34 (by omega)
    simp only [c0, Bool.false_eq_true, if_false, gq, Option.bind_some, b39, b34]
    have good : (q = 39 ∨ q = 34) → ref01_Read.j1 (q :: s0) false = some (readS (q :: s0)) := by
      intro hq
      unfold ref01_Read.j1
      rw [if_neg (by decide)]
      obtain ⟨e, g1, g2⟩ := ref01_Read_loop q s0 hs (s0.length + 1) 1 [] (by simp) (by simp) (by simp) (by intro n hn; cases hn)
      have g1' : loopM (ref01_Read.l1 (q :: s0)) (1, ([] : List Int)) = some e := g1
      have hfin : readS (q :: s0) = endU q (q :: s0) (s0.length + 1) s0 [] := by
        unfold readS endU
        simp only [hq, if_true]
      rw [g1', Option.bind_some, hfin]
      have g2' : outE e = endU q (q :: s0) (s0.length + 1) s0 [] := g2
      rw [← g2']
      cases e with
      | inl u => rfl
      | inr x => rfl
    by_cases h39 : q = 39
    · have d39 : decide (q = 39) = true := by rw [decide_eq_true_eq]; exact h39
      simp only [d39, Bool.not_true, Bool.false_eq_true, if_false]
      exact good (.inl h39)
    · have d39 : decide (q = 39) = false := by rw [decide_eq_false_iff_not]; exact h39
      simp only [d39, Bool.not_false, if_true]
      by_cases h34 : q = 34
      · have d34 : decide (q = 34) = true := by rw [decide_eq_true_eq]; exact h34
        simp only [d34, Bool.not_true]
        exact good (.inr h34)
      · have d34 : decide (q = 34) = false := by rw [decide_eq_false_iff_not]; exact h34
        have : readS (q :: s0) = ([], 0, 10) := by
          unfold readS; simp only [h39, h34, or_self, if_false]
        rw [this]
        simp only [d34, Bool.not_false]
        rfl
/-! ### Read of Quote -/
theorem hexV_hexd : ∀ k : Fin 16, hexV (hexd k.val) = some k.val := by decide
theorem hexN_hexd (n : Nat) (hn : n < 65536) (r : Str) : hexN 4 (hexd (n / 4096) :: hexd (n / 256 % 16) :: hexd (n / 16 % 16) :: hexd (n % 16) :: r) 0 = some n := by
  have h1 := hexV_hexd ⟨n / 4096, by omega⟩
  have h2 := hexV_hexd ⟨n / 256 % 16, by omega⟩
  have h3 := hexV_hexd ⟨n / 16 % 16, by omega⟩
  have h4 := hexV_hexd ⟨n % 16, by omega⟩
  simp only at h1 h2 h3 h4
  simp only [hexN, h1, h2, h3, h4]
  congr 1; omega
theorem readG_quote1 (m n : Nat) (hn : n < 65536) (r : Str) (acc : List Nat) : readG 34 (m + 1) (quote1 n ++ r) acc = readG 34 m r (acc ++ [n]) := by
  unfold quote1
  by_cases h34 : n = 34
  · subst h34; rfl
  by_cases h92 : n = 92
  · subst h92; rfl
  by_cases h8 : n = 8
  · subst h8; rfl
  by_cases h9 : n = 9
  · subst h9; rfl
  by_cases h10 : n = 10
  · subst h10; rfl
  by_cases h12 : n = 12
  · subst h12; rfl
  by_cases h13 : n = 13
  · subst h13; rfl
  simp only [h34, h92, h8, h9, h10, h12, h13, if_false]
  by_cases hx : n < 32 ∨ n > 126
  · simp only [hx, if_true, List.cons_append, List.nil_append]
    have he : escS (117 :: hexd (n / 4096) :: hexd (n / 256 % 16) :: hexd (n / 16 % 16) :: hexd (n % 16) :: r) = some ([n], 5) := by
      simp only [escS]
      rw [if_neg (by decide), if_neg (by decide), if_neg (by decide), if_pos trivial, hexN_hexd n hn r]
      rfl
    conv => lhs; unfold readG
    rw [if_neg (by decide), if_neg (by decide), if_pos rfl, he]
    rfl
  · simp only [hx, if_false, List.cons_append, List.nil_append]
    have e : (UInt8.ofNat n).toNat = n := by simp [UInt8.toNat_ofNat']; omega
    have ne : ∀ k : Nat, k < 256 → n ≠ k → UInt8.ofNat n ≠ UInt8.ofNat k := by
      intro k hk h1 h2
      have h3 := congrArg UInt8.toNat h2
      rw [e] at h3
      have e2 : (UInt8.ofNat k).toNat = k := by simp [UInt8.toNat_ofNat']; omega
      rw [e2] at h3; exact h1 h3
    conv => lhs; unfold readG
    have n34 : ¬ UInt8.ofNat n = 34 := ne 34 (by omega) h34
    have n10 : ¬ UInt8.ofNat n = 10 := ne 10 (by omega) h10
    have n13 : ¬ UInt8.ofNat n = 13 := ne 13 (by omega) h13
    have n92 : ¬ UInt8.ofNat n = 92 := ne 92 (by omega) h92
    have n127 : ¬ (UInt8.ofNat n).toNat > 127 := by rw [e]; omega
    rw [if_neg n34, if_neg (by rintro (h | h | h); exact n10 h; exact n13 h; exact n127 h), if_neg n92, e]
theorem readG_quoteL (behind : Str) : ∀ (l acc : List Nat) (m : Nat), okU l → l.length < m → readG 34 m (quoteL l ++ 34 :: behind) acc = some (acc ++ l, behind.length) := by
  intro l
  induction l with
  | nil =>
    intro acc m h1 h2
    obtain ⟨m, rfl⟩ : ∃ k, m = k + 1 := ⟨m - 1, by simp at h2; omega⟩
    simp only [quoteL, List.flatMap_nil, List.nil_append, List.append_nil]
    unfold readG
    rw [if_pos rfl]
  | cons n l ih =>
    intro acc m h1 h2
    obtain ⟨m, rfl⟩ : ∃ k, m = k + 1 := ⟨m - 1, by simp at h2; omega⟩
    have e : quoteL (n :: l) ++ 34 :: behind = quote1 n ++ (quoteL l ++ 34 :: behind) := by simp [quoteL]
    rw [e, readG_quote1 m n (h1 n List.mem_cons_self), ih _ m (fun k hk => h1 k (List.mem_cons_of_mem _ hk)) (by simp only [List.length_cons] at h2; omega)]
    simp
theorem quote1_pos (n : Nat) : 1 ≤ (quote1 n).length := by
  unfold quote1; repeat' split
  all_goals simp
theorem quoteL_pos : ∀ l : List Nat, l.length ≤ (quoteL l).length
  | [] => by simp
  | n :: l => by
    have := quoteL_pos l
    have h1 := quote1_pos n
    have e : quoteL (n :: l) = quote1 n ++ quoteL l := by simp [quoteL]
    rw [e, List.length_append, List.length_cons]; omega
end Go.Gw

