/- Chapter 6: what a source is cut into, plainly; and that it is told piece by piece. -/
import Derived.Test.YtmbdlfemlbbjfaaGreatDoorToken1
import Derived.Test.YtmbdlfemlbbjfaaGreatDoorUnits06z
set_option linter.unusedVariables false
set_option linter.unusedSimpArgs false
set_option linter.unnecessarySimpa false
namespace Go.Gw
open Go.Proofs
set_option linter.unusedSimpArgs false

/-! ### numbers, signs, tokens -/
/-- the number that digits say -/
def parsN (base : Nat) : Str → Nat → Option Nat
  | [], a => some a
  | c :: r, a => match hexV c with
    | none => none
    | some d => if d < base then parsN base r (a * base + d) else none
def numD (ds : Str) : Option Nat :=
  if 2 < ds.length ∧ (ds.take 2 = [48, 120] ∨ ds.take 2 = [48, 88]) then parsN 16 (ds.drop 2) 0
  else if 1 < ds.length ∧ ds.head? = some 48 then none
  else parsN 10 ds 0
def numS (s : Str) : Option (Nat × Nat) :=
  if s[rowK s]? = some 46 then none
  else match numD (s.take (rowK s)) with
    | none => none
    | some n => if n ≤ 9007199254740991 then some (n, rowK s) else none
def tripL : List Str := [[61, 61, 61], [33, 61, 61]]
def doubL : List Str := [[60, 61], [62, 61], [61, 61], [33, 61], [43, 43], [45, 45], [38, 38], [124, 124], [43, 61], [45, 61], [42, 61], [47, 61], [37, 61]]
def singL : Str := [123, 125, 40, 41, 91, 93, 46, 59, 44, 60, 62, 43, 45, 42, 47, 37, 33, 63, 58, 61]
def signS (s : Str) : Nat :=
  if 2 < s.length ∧ tripL.contains (s.take 3) = true then 3
  else if 1 < s.length ∧ doubL.contains (s.take 2) = true then 2
  else if singL.contains (s.headD 0) then 1 else 0
def wordsL : List Str := [[98, 114, 101, 97, 107], [99, 97, 115, 101], [99, 97, 116, 99, 104], [99, 108, 97, 115, 115], [99, 111, 110, 115, 116], [99, 111, 110, 116, 105, 110, 117, 101], [100, 101, 98, 117, 103, 103, 101, 114], [100, 101, 102, 97, 117, 108, 116], [100, 101, 108, 101, 116, 101], [100, 111], [101, 108, 115, 101], [101, 110, 117, 109], [101, 120, 112, 111, 114, 116], [101, 120, 116, 101, 110, 100, 115], [102, 97, 108, 115, 101], [102, 105, 110, 97, 108, 108, 121], [102, 111, 114], [102, 117, 110, 99, 116, 105, 111, 110], [105, 102], [105, 109, 112, 108, 101, 109, 101, 110, 116, 115], [105, 109, 112, 111, 114, 116], [105, 110], [105, 110, 115, 116, 97, 110, 99, 101, 111, 102], [105, 110, 116, 101, 114, 102, 97, 99, 101], [108, 101, 116], [110, 101, 119], [110, 117, 108, 108], [112, 97, 99, 107, 97, 103, 101], [112, 114, 105, 118, 97, 116, 101], [112, 114, 111, 116, 101, 99, 116, 101, 100], [112, 117, 98, 108, 105, 99], [114, 101, 116, 117, 114, 110], [115, 116, 97, 116, 105, 99], [115, 117, 112, 101, 114], [115, 119, 105, 116, 99, 104], [116, 104, 105, 115], [116, 104, 114, 111, 119], [116, 114, 117, 101], [116, 114, 121], [116, 121, 112, 101, 111, 102], [118, 97, 114], [118, 111, 105, 100], [119, 104, 105, 108, 101], [119, 105, 116, 104], [121, 105, 101, 108, 100]]
def isWordS (s : Str) : Bool := wordsL.contains s
abbrev Tok := T_api_Token
/-- a token that begins here, and how many bytes it has -/
def oneS (s : Str) : Option (Tok × Nat) :=
  match s with
  | [] => none
  | c :: _ =>
    if isLet c = true then
      if 32 < rowK s then none else some ({ Kind := if isWordS (s.take (rowK s)) = true then 2 else 1, Text := s.take (rowK s), Num := 0, At := 0, Fresh := false }, rowK s)
    else if isDig c = true then (numS s).map fun p => ({ Kind := 3, Text := [], Num := (p.1 : Int), At := 0, Fresh := false }, p.2)
    else if c = 39 ∨ c = 34 then
      (match readS s with
      | (u, n, _) => if n = 0 then none else some ({ Kind := 4, Text := u, Num := 0, At := 0, Fresh := false }, n.toNat))
    else if signS s = 0 then none else some ({ Kind := 5, Text := s.take (signS s), Num := 0, At := 0, Fresh := false }, signS s)
def tEnd (f : Bool) : Tok := { Kind := 0, Text := [], Num := 0, At := 0, Fresh := f }
def Tok.fresh (t : Tok) (f : Bool) : Tok := { t with Fresh := f }
def Tok.at_ (t : Tok) (n : Int) : Tok := { t with At := n }
/-- the tokens, each with how many bytes stand from it on; or how many bytes stand behind the place where there is none -/
def cutT : Nat → Str → Bool → List (Tok × Nat) ⊕ Nat
  | 0, _, _ => .inr 0
  | m + 1, s, f => match blanksG (s.length + 1) s f with
    | (r, f', ok) =>
      if ok = false then .inr r.length
      else if r = [] then .inl [(tEnd f', 0)]
      else match oneS r with
        | none => .inr r.length
        | some (t, n) => match cutT m (r.drop n) false with
          | .inl l => .inl ((t.fresh f', r.length) :: l)
          | .inr k => .inr k
def laidAt (len : Nat) (l : List (Tok × Nat)) : List Tok := l.map fun p => p.1.at_ ((len - p.2 : Nat) : Int)
def cutS (s : Str) : List Tok × Int × Int :=
  if 4096 < s.length then ([], 0, 2)
  else match cutT (s.length + 1) s false with
    | .inl l => (laidAt s.length l, 0, 0)
    | .inr k => ([], ((s.length - k : Nat) : Int), 60)

/-! ### how much a token takes -/
theorem numS_pos {s : Str} {n k : Nat} (h : numS s = some (n, k)) : k = rowK s := by
  unfold numS at h
  split at h
  · cases h
  · split at h
    · cases h
    · split at h
      · cases h; rfl
      · cases h
theorem readS_len {s : Str} {u : Str} {n e : Int} (h : readS s = (u, n, e)) : 0 ≤ n ∧ n ≤ (s.length : Int) := by
  unfold readS at h
  split at h
  · cases h; simp
  · rename_i q r
    split at h
    · split at h
      · cases h; constructor <;> omega
      · cases h; constructor <;> omega
    · cases h; constructor <;> omega
theorem signS_le (c : UInt8) (r : Str) : signS (c :: r) ≤ (c :: r).length := by
  unfold signS
  split
  · rename_i h; simp only [List.length_cons] at h ⊢; omega
  · split
    · rename_i h; simp only [List.length_cons] at h ⊢; omega
    · split <;> simp
theorem oneS_len {s : Str} {t : Tok} {n : Nat} (h : oneS s = some (t, n)) : 1 ≤ n ∧ n ≤ s.length ∧ 1 ≤ t.Kind ∧ t.Kind ≤ 5 ∧ t.At = 0 ∧ t.Fresh = false := by
  unfold oneS at h
  split at h
  · cases h
  · rename_i c r
    have hrow := rowK_le (c :: r)
    have hr1 : isLD c = true → 1 ≤ rowK (c :: r) := fun e => by rw [rowK_cons, if_pos e]; omega
    split at h
    · rename_i hl
      split at h
      · cases h
      · cases h
        have := hr1 (by simp [isLD, hl])
        refine ⟨this, hrow, ?_, ?_, rfl, rfl⟩ <;> (simp only; split <;> decide)
    · split at h
      · rename_i hd
        cases hn : numS (c :: r) with
        | none => rw [hn] at h; cases h
        | some p =>
          obtain ⟨m, k⟩ := p
          rw [hn] at h
          cases h
          have hk := numS_pos hn
          subst hk
          exact ⟨hr1 (by simp [isLD, hd]), hrow, Int.le_of_lt_add_one (by dsimp only; omega), by dsimp only; omega, rfl, rfl⟩
      · split at h
        · obtain ⟨u, n', e⟩ : Str × Int × Int := readS (c :: r)
          generalize hq : readS (c :: r) = q at h
          obtain ⟨u, n', e⟩ := q
          have := readS_len hq
          simp only at h
          split at h
          · cases h
          · cases h
            refine ⟨by omega, by omega, Int.le_of_lt_add_one (by dsimp only; omega), by dsimp only; omega, rfl, rfl⟩
        · split at h
          · cases h
          · cases h
            exact ⟨by omega, signS_le c r, Int.le_of_lt_add_one (by dsimp only; omega), by dsimp only; omega, rfl, rfl⟩
end Go.Gw

