/- Chapter 5: the order of keys is one; bytes are in the order of their keys. Plain Lean. -/
import Derived.Test.YtfankedlhjnpfaaDoorOrder4
set_option linter.unusedVariables false
set_option linter.unusedSimpArgs false
set_option linter.unnecessarySimpa false
namespace Go.Gw
open Go.Proofs
set_option linter.unusedSimpArgs false

structure Cmp {α : Type} (c : α → α → Int) : Prop where
  anti : ∀ a b, c a b = - c b a
  dom : ∀ a b, c a b = -1 ∨ c a b = 0 ∨ c a b = 1
  trans : ∀ a b d, c a b ≤ 0 → c b d ≤ 0 → c a d ≤ 0
theorem Cmp.self {α : Type} {c : α → α → Int} (h : Cmp c) (a : α) : c a a = 0 := by have := h.anti a a; omega
theorem Cmp.eqL {α : Type} {c : α → α → Int} (h : Cmp c) {a b : α} (e : c a b = 0) (d : α) : c a d = c b d := by
  have e' : c b a = 0 := by have := h.anti b a; omega
  have t1 := h.trans a b d; have t2 := h.trans b a d; have t3 := h.trans d b a; have t4 := h.trans d a b
  have a1 := h.anti a d; have a2 := h.anti b d
  rcases h.dom a d with x | x | x <;> rcases h.dom b d with y | y | y <;> omega
theorem Cmp.eqR {α : Type} {c : α → α → Int} (h : Cmp c) {a b : α} (e : c a b = 0) (d : α) : c d a = c d b := by
  rw [h.anti d a, h.anti d b, h.eqL e d]
def lexCmp {α : Type} (c : α → α → Int) : List α → List α → Int
  | [], [] => 0
  | [], _ :: _ => -1
  | _ :: _, [] => 1
  | p :: a, q :: b => if c p q = 0 then lexCmp c a b else c p q
theorem lexCmp_cmp {α : Type} {c : α → α → Int} (h : Cmp c) : Cmp (lexCmp c) where
  anti := by
    intro a
    induction a with
    | nil => intro b; cases b <;> simp [lexCmp]
    | cons p a ih =>
      intro b
      cases b with
      | nil => simp [lexCmp]
      | cons q b =>
        simp only [lexCmp]
        have := h.anti p q
        by_cases e : c p q = 0
        · have e' : c q p = 0 := by omega
          rw [if_pos e, if_pos e']; exact ih b
        · have e' : c q p ≠ 0 := by omega
          rw [if_neg e, if_neg e']; exact this
  dom := by
    intro a
    induction a with
    | nil => intro b; cases b <;> simp [lexCmp]
    | cons p a ih =>
      intro b
      cases b with
      | nil => simp [lexCmp]
      | cons q b =>
        simp only [lexCmp]
        by_cases e : c p q = 0
        · rw [if_pos e]; exact ih b
        · rw [if_neg e]; exact h.dom p q
  trans := by
    intro a
    induction a with
    | nil => intro b d; cases b <;> cases d <;> simp [lexCmp]
    | cons p a ih =>
      intro b d
      cases b with
      | nil => intro x; simp [lexCmp] at x
      | cons q b =>
        cases d with
        | nil => intro _ x; simp [lexCmp] at x
        | cons r d =>
          simp only [lexCmp]
          intro h1 h2
          by_cases e : c p q = 0
          · rw [if_pos e] at h1
            have e2 := h.eqL e r
            by_cases e3 : c q r = 0
            · rw [if_pos e3] at h2
              rw [if_pos (by omega)]
              exact ih b d h1 h2
            · rw [if_neg e3] at h2
              rw [if_neg (by omega)]; omega
          · rw [if_neg e] at h1
            by_cases e3 : c q r = 0
            · have e4 := h.eqR e3 p
              rw [if_neg (by omega)]; omega
            · rw [if_neg e3] at h2
              have e5 := h.trans p q r h1 h2
              have e6 : c p r ≠ 0 := fun e7 => by
                have := h.eqL e7 q
                have := h.anti q r
                omega
              rw [if_neg e6]; exact e5
def cmpB (x y : UInt8) : Int := if x < y then -1 else if y < x then 1 else 0
theorem cmpB_cmp : Cmp cmpB where
  anti := by
    intro a b
    unfold cmpB
    by_cases h1 : a < b
    · have h2 : ¬ b < a := by rw [UInt8.lt_iff_toNat_lt] at *; omega
      simp [h1, h2]
    · by_cases h2 : b < a <;> simp [h1, h2]
  dom := by intro a b; unfold cmpB; split <;> (try split) <;> simp
  trans := by
    intro a b d
    unfold cmpB
    simp only [UInt8.lt_iff_toNat_lt]
    intro h1 h2
    split at h1 <;> split at h2 <;> (try split at h1) <;> (try split at h2) <;> (try omega) <;> (split <;> (try split) <;> omega)
theorem compareBytes_lex : ∀ a b : Str, Lib.compareBytes a b = lexCmp cmpB a b
  | [], [] => rfl
  | [], _ :: _ => rfl
  | _ :: _, [] => rfl
  | x :: a, y :: b => by
    have ih := compareBytes_lex a b
    simp only [Lib.compareBytes, lexCmp, cmpB, ih]
    by_cases h1 : x < y
    · simp [h1]
    · by_cases h2 : y < x <;> simp [h1, h2]
theorem compareBytes_cmp : Cmp Lib.compareBytes := by
  have : Lib.compareBytes = lexCmp cmpB := funext fun a => funext fun b => compareBytes_lex a b
  rw [this]; exact lexCmp_cmp cmpB_cmp
theorem compareInt_cmp : Cmp Lib.compareInt where
  anti := by intro a b; rcases compareInt_cases a b with ⟨x, y⟩ | ⟨x, y⟩ | ⟨x, y⟩ <;> rcases compareInt_cases b a with ⟨z, w⟩ | ⟨z, w⟩ | ⟨z, w⟩ <;> omega
  dom := by intro a b; rcases compareInt_cases a b with ⟨x, y⟩ | ⟨x, y⟩ | ⟨x, y⟩ <;> omega
  trans := by intro a b d; rcases compareInt_cases a b with ⟨x, y⟩ | ⟨x, y⟩ | ⟨x, y⟩ <;> rcases compareInt_cases b d with ⟨z, w⟩ | ⟨z, w⟩ | ⟨z, w⟩ <;> rcases compareInt_cases a d with ⟨u, v⟩ | ⟨u, v⟩ | ⟨u, v⟩ <;> omega
theorem cmpPart_cmp : Cmp cmpPart where
  anti := by
    intro p q; unfold cmpPart
    have h1 := compareBytes_cmp.anti p.S q.S; have h2 := compareInt_cmp.anti p.N q.N
    cases p.IsText <;> cases q.IsText <;> simp <;> assumption
  dom := by
    intro p q; unfold cmpPart
    have h1 := compareBytes_cmp.dom p.S q.S; have h2 := compareInt_cmp.dom p.N q.N
    cases p.IsText <;> cases q.IsText <;> simp <;> assumption
  trans := by
    intro p q r; unfold cmpPart
    have h1 := compareBytes_cmp.trans p.S q.S r.S; have h2 := compareInt_cmp.trans p.N q.N r.N
    cases p.IsText <;> cases q.IsText <;> cases r.IsText <;> simp <;> assumption
theorem cmpKeys_lex : ∀ a b : List Part, cmpKeys a b = lexCmp cmpPart a b
  | [], [] => rfl
  | [], _ :: _ => rfl
  | _ :: _, [] => rfl
  | p :: a, q :: b => by simp only [cmpKeys, lexCmp, cmpKeys_lex a b]
theorem cmpKeys_cmp : Cmp cmpKeys := by
  have : cmpKeys = lexCmp cmpPart := funext fun a => funext fun b => cmpKeys_lex a b
  rw [this]; exact lexCmp_cmp cmpPart_cmp

/-- bytes behind a number's -/
theorem cmp_append (p a b : Str) : Lib.compareBytes (p ++ a) (p ++ b) = Lib.compareBytes a b := by
  induction p with
  | nil => rfl
  | cons x p ih => simp [Lib.compareBytes, UInt8.lt_irrefl, ih]
def beB : Nat → Nat → Str
  | 0, _ => []
  | k + 1, n => byteAt n k :: beB k n
theorem numB_be (n : Nat) : numB n = beB 8 n := rfl
theorem byteAt_toNat (n k : Nat) : (byteAt n k).toNat = n / 256 ^ k % 256 := by
  unfold byteAt
  have : n / 256 ^ k % 256 < 256 := Nat.mod_lt _ (by decide)
  simp only [UInt8.toNat_ofNat', Nat.reducePow]
  omega
theorem cmp_be : ∀ (k m n : Nat) (u v : Str), Lib.compareBytes (beB k m ++ u) (beB k n ++ v) = if m % 256 ^ k = n % 256 ^ k then Lib.compareBytes u v else Lib.compareInt (m % 256 ^ k : Nat) (n % 256 ^ k : Nat)
  | 0, m, n, u, v => by simp [beB, Nat.mod_one]
  | k + 1, m, n, u, v => by
    have ih := cmp_be k m n u v
    simp only [beB, List.cons_append, Lib.compareBytes, ih, UInt8.lt_iff_toNat_lt, byteAt_toNat]
    have hm : m % 256 ^ (k + 1) = 256 ^ k * (m / 256 ^ k % 256) + m % 256 ^ k := by rw [Nat.pow_succ, Nat.mod_mul]; omega
    have hn : n % 256 ^ (k + 1) = 256 ^ k * (n / 256 ^ k % 256) + n % 256 ^ k := by rw [Nat.pow_succ, Nat.mod_mul]; omega
    have lm : m % 256 ^ k < 256 ^ k := Nat.mod_lt _ (Nat.pow_pos (by decide))
    have ln : n % 256 ^ k < 256 ^ k := Nat.mod_lt _ (Nat.pow_pos (by decide))
    generalize 256 ^ k = P at *
    generalize m / P % 256 = x at *
    generalize n / P % 256 = y at *
    generalize m % P = a at *
    generalize n % P = b at *
    rw [hm, hn]
    by_cases h1 : x < y
    · have : P * x + a < P * y + b := by
        have : P * (x + 1) ≤ P * y := Nat.mul_le_mul_left _ h1
        rw [Nat.mul_add] at this; omega
      rw [if_pos h1, if_neg (by omega)]
      rcases compareInt_cases ((P * x + a : Nat) : Int) ((P * y + b : Nat) : Int) with ⟨z, w⟩ | ⟨z, w⟩ | ⟨z, w⟩ <;> omega
    · by_cases h2 : y < x
      · have : P * y + b < P * x + a := by
          have : P * (y + 1) ≤ P * x := Nat.mul_le_mul_left _ h2
          rw [Nat.mul_add] at this; omega
        rw [if_neg h1, if_pos h2, if_neg (by omega)]
        rcases compareInt_cases ((P * x + a : Nat) : Int) ((P * y + b : Nat) : Int) with ⟨z, w⟩ | ⟨z, w⟩ | ⟨z, w⟩ <;> omega
      · have : x = y := by omega
        subst this
        rw [if_neg h1, if_neg h1]
        by_cases h3 : a = b
        · subst h3; rw [if_pos rfl, if_pos rfl]
        · rw [if_neg h3, if_neg (by omega)]
          rcases compareInt_cases ((P * x + a : Nat) : Int) ((P * x + b : Nat) : Int) with ⟨z, w⟩ | ⟨z, w⟩ | ⟨z, w⟩ <;> rcases compareInt_cases (a : Int) (b : Int) with ⟨z', w'⟩ | ⟨z', w'⟩ | ⟨z', w'⟩ <;> omega
theorem cmp_num (m n : Nat) (hm : m < 18446744073709551616) (hn : n < 18446744073709551616) (u v : Str) : Lib.compareBytes (numB m ++ u) (numB n ++ v) = if m = n then Lib.compareBytes u v else Lib.compareInt m n := by
  rw [numB_be, numB_be, cmp_be 8 m n u v]
  have e1 : m % 256 ^ 8 = m := Nat.mod_eq_of_lt hm
  have e2 : n % 256 ^ 8 = n := Nat.mod_eq_of_lt hn
  rw [e1, e2]
theorem cmp_text : ∀ (s t u v : Str), Lib.compareBytes (textB s ++ 0 :: 1 :: u) (textB t ++ 0 :: 1 :: v) = if s = t then Lib.compareBytes u v else Lib.compareBytes s t
  | [], [], u, v => by simp [textB, Lib.compareBytes, UInt8.lt_irrefl]
  | [], y :: t, u, v => by
    by_cases h : y = 0
    · subst h
      have h1 : (1 : UInt8) < 255 := by decide
      simp [textB, Lib.compareBytes, UInt8.lt_irrefl, h1]
    · have h1 : (0 : UInt8) < y := by rw [UInt8.lt_iff_toNat_lt]; have : y.toNat ≠ 0 := fun e => h (UInt8.toNat_inj.1 e); simpa using Nat.pos_of_ne_zero this
      simp [textB, Lib.compareBytes, h, h1]
  | x :: s, [], u, v => by
    by_cases h : x = 0
    · subst h
      have h1 : (1 : UInt8) < 255 := by decide
      have h2 : ¬ (255 : UInt8) < 1 := by decide
      simp [textB, Lib.compareBytes, UInt8.lt_irrefl, h1, h2]
    · have h1 : (0 : UInt8) < x := by rw [UInt8.lt_iff_toNat_lt]; have : x.toNat ≠ 0 := fun e => h (UInt8.toNat_inj.1 e); simpa using Nat.pos_of_ne_zero this
      have h2 : ¬ x < 0 := by rw [UInt8.lt_iff_toNat_lt] at *; omega
      simp [textB, Lib.compareBytes, h, h1, h2]
  | x :: s, y :: t, u, v => by
    have ih := cmp_text s t u v
    unfold textB at ih ⊢
    simp only [List.flatMap_cons, List.append_assoc]
    by_cases hx : x = 0
    · subst hx
      by_cases hy : y = 0
      · subst hy
        simp [Lib.compareBytes, UInt8.lt_irrefl, ih]
      · have h1 : (0 : UInt8) < y := by rw [UInt8.lt_iff_toNat_lt]; have : y.toNat ≠ 0 := fun e => hy (UInt8.toNat_inj.1 e); simpa using Nat.pos_of_ne_zero this
        have h3 : ¬ (0 : UInt8) = y := fun e => hy e.symm
        simp [Lib.compareBytes, hy, h1, h3]
    · have h1 : (0 : UInt8) < x := by rw [UInt8.lt_iff_toNat_lt]; have : x.toNat ≠ 0 := fun e => hx (UInt8.toNat_inj.1 e); simpa using Nat.pos_of_ne_zero this
      have h2 : ¬ x < 0 := by rw [UInt8.lt_iff_toNat_lt] at *; omega
      by_cases hy : y = 0
      · subst hy
        simp [Lib.compareBytes, hx, h1, h2]
      · simp only [hx, hy, if_false, List.cons_append, List.nil_append, Lib.compareBytes, ih, List.cons.injEq]
        by_cases h3 : x < y
        · have : x ≠ y := fun e => by subst e; exact UInt8.lt_irrefl _ h3
          simp [h3, this]
        · by_cases h4 : y < x
          · have : x ≠ y := fun e => by subst e; exact UInt8.lt_irrefl _ h4
            simp [h3, h4, this]
          · have : x = y := UInt8.le_antisymm (UInt8.not_lt.1 h4) (UInt8.not_lt.1 h3)
            subst this
            simp [h3]
end Go.Gw
