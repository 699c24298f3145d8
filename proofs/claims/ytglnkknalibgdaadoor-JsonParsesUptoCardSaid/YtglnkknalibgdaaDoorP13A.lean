/- Several texts in one. -/
import Derived.Test.YtglnkknalibgdaaDoorA13d
import Derived.Test.YtglnkknalibgdaaDoorGwL
import Derived.KernelRfl
import Derived.Lib.ItoaLen
set_option linter.unusedVariables false
set_option linter.unusedSimpArgs false
set_option linter.unnecessarySimpa false
/- Chapter 13, plainly: loops over lists; how deep and how much data is; the chapter's examples. -/
namespace Go.D13
open Go Go.Gw Go.Dn
set_option linter.unusedSimpArgs false
set_option linter.unusedVariables false
instance lpI : Lp := lpN 1000000000000

theorem loop_of {S E : Type} {step : S → Option (S ⊕ E)} {n : Nat} {s : S} {e : E} (h : loopN step n s = some e) (hn : n ≤ 1000000000000) : Lp.loop step s = some e :=
  loopN_more _ h hn
theorem loopN_go {S E : Type} {step : S → Option (S ⊕ E)} {n : Nat} {s s' : S} (h : step s = some (.inl s')) : loopN step (n + 1) s = loopN step n s' := by simp only [loopN, h, Option.bind_some]
theorem loopN_out {S E : Type} {step : S → Option (S ⊕ E)} {n : Nat} {s : S} {e : E} (h : step s = some (.inr e)) : loopN step (n + 1) s = some e := by simp only [loopN, h, Option.bind_some]

/-- a list is gone through, until it ends or something is found -/
def foldE {A X E : Type} (f : A → X → A ⊕ E) (out : A → E) : A → List X → E
  | a, [] => out a
  | a, x :: r => match f a x with | .inl a' => foldE f out a' r | .inr e => e
theorem foldE_inl {A X E : Type} {f : A → X → A ⊕ E} {out : A → E} {a a' : A} {x : X} {r : List X} (h : f a x = .inl a') : foldE f out a (x :: r) = foldE f out a' r := by simp only [foldE, h]
theorem foldE_inr {A X E : Type} {f : A → X → A ⊕ E} {out : A → E} {a : A} {e : E} {x : X} {r : List X} (h : f a x = .inr e) : foldE f out a (x :: r) = e := by simp only [foldE, h]
theorem loop_fold {S E A X : Type} {step : S → Option (S ⊕ E)} (mk : A → Nat → S) (l : List X) (f : A → X → A ⊕ E) (out : A → E) (P : A → List X → Prop)
    (hgo : ∀ i x r a, l.drop i = x :: r → P a (x :: r) → match f a x with | .inl a' => step (mk a i) = some (.inl (mk a' (i + 1))) ∧ P a' r | .inr e => step (mk a i) = some (.inr e))
    (hend : ∀ a, P a [] → step (mk a l.length) = some (.inr (out a))) : ∀ (r : List X) (i : Nat) (a : A), l.drop i = r → i ≤ l.length → P a r → loopN step (r.length + 1) (mk a i) = some (foldE f out a r)
  | [], i, a, hr, hi, hP => by
    have : i = l.length := by have := congrArg List.length hr; simp at this; omega
    subst this
    exact loopN_out (hend a hP)
  | x :: r, i, a, hr, hi, hP => by
    have h := hgo i x r a hr hP
    have hlt : i < l.length := by
      rcases Nat.lt_or_ge i l.length with h1 | h1
      · exact h1
      · rw [List.drop_of_length_le h1] at hr; cases hr
    have hr' : l.drop (i + 1) = r := by rw [List.drop_eq_getElem_cons hlt] at hr; cases hr; rfl
    simp only [foldE]
    cases hf : f a x with
    | inl a' =>
      rw [hf] at h
      obtain ⟨h1, h2⟩ := h
      rw [List.length_cons, loopN_go h1]
      exact loop_fold mk l f out P hgo hend r (i + 1) a' hr' hlt h2
    | inr e =>
      rw [hf] at h
      rw [List.length_cons]
      exact loopN_out h
/-- the same from the beginning -/
theorem loop_all {S E A X : Type} {step : S → Option (S ⊕ E)} (mk : A → Nat → S) (l : List X) (f : A → X → A ⊕ E) (out : A → E) (P : A → List X → Prop) (a : A)
    (hl : l.length < 1000000000000) (hP : P a l)
    (hgo : ∀ i x r a, l.drop i = x :: r → P a (x :: r) → match f a x with | .inl a' => step (mk a i) = some (.inl (mk a' (i + 1))) ∧ P a' r | .inr e => step (mk a i) = some (.inr e))
    (hend : ∀ a, P a [] → step (mk a l.length) = some (.inr (out a))) : Lp.loop step (mk a 0) = some (foldE f out a l) :=
  loop_of (loop_fold mk l f out P hgo hend l 0 a rfl (Nat.zero_le _) hP) (by omega)
theorem getI_drop {α : Type} {xs : List α} {i : Nat} {x : α} {r : List α} (h : xs.drop i = x :: r) : getI xs (i : Int) = some x ∧ i < xs.length ∧ x ∈ xs := by
  have hi : i < xs.length := by
    rcases Nat.lt_or_ge i xs.length with h1 | h1
    · exact h1
    · rw [List.drop_of_length_le h1] at h; cases h
  rw [List.drop_eq_getElem_cons hi] at h
  cases h
  exact ⟨by rw [getI_nat]; exact List.getElem?_eq_getElem hi, hi, List.getElem_mem hi⟩
theorem wrap1 {i : Nat} (h : i < 1000000000000) : IntKind.wrap .i64 ((i : Int) + 1) = ((i + 1 : Nat) : Int) := by rw [wrap_i64 (by omega) (by omega)]; rfl

abbrev Data := T_api_Data
mutual
def deepD : Data → Nat
  | ⟨_, _, _, _, l⟩ => deepL l + 1
def deepL : List Data → Nat
  | [] => 0
  | x :: r => max (deepD x) (deepL r)
end
mutual
def bulkD : Data → Nat
  | ⟨_, _, s, ks, l⟩ => s.length + (ks.map fun k => k.length + 1).sum + bulkL l + 5
def bulkL : List Data → Nat
  | [] => 0
  | x :: r => bulkD x + bulkL r
end
theorem deepD_eq (x : Data) : deepD x = deepL x.L + 1 := by cases x; simp [deepD]
theorem mem_deepL {x : Data} : ∀ {l : List Data}, x ∈ l → deepD x ≤ deepL l
  | y :: r, h => by
    simp only [deepL]
    rcases List.mem_cons.1 h with rfl | h
    · omega
    · have := mem_deepL h; omega
mutual
theorem deep_bulk : ∀ x : Data, deepD x ≤ bulkD x
  | ⟨_, _, _, _, l⟩ => by simp only [deepD, bulkD]; have := deep_bulkL l; omega
theorem deep_bulkL : ∀ l : List Data, deepL l ≤ bulkL l
  | [] => by simp [deepL]
  | x :: r => by simp only [deepL, bulkL]; have := deep_bulk x; have := deep_bulkL r; omega
end
end Go.D13


/- Chapter 13, plainly: which data may be. -/
namespace Go.D13
open Go Go.Gw Go.Dn
set_option linter.unusedSimpArgs false
set_option linter.unusedVariables false

def evenP (s : Str) : Bool := s.length % 2 == 0
theorem units_Check_eq (s : Str) (hs : s.length ≤ 1000000000) : units_Check s = some (evenP s, ()) := by
  have h : (BitVec.ofInt 64 ((s.length : Nat) : Int) &&& BitVec.ofInt 64 1).toNat = s.length % 2 := by
    rw [BitVec.toNat_and]
    have h1 : (BitVec.ofInt 64 ((s.length : Nat) : Int)).toNat = s.length := by
      rw [BitVec.toNat_ofInt]; omega
    have h2 : (BitVec.ofInt 64 1).toNat = 1 := rfl
    rw [h1, h2, Nat.and_one_is_mod]
  unfold units_Check evenP
  simp only [h]
  rw [wrap_i64 (by omega) (by omega)]
  congr 2
  rw [Bool.eq_iff_iff, beq_iff_eq, beq_iff_eq]
  omega
/-! ### a set of keys -/
abbrev eqS : Str → Str → Bool := fun a b => a == b
def dupP : List Str → List Str → Bool
  | _, [] => false
  | a, k :: r => a.contains k || dupP (a ++ [k]) r
def keysP (v : Data) : Bool := v.Keys.all evenP && !dupP [] v.Keys && (v.Keys.length == v.L.length)
/-! ### what may be -/
def ownD (v : Data) : Bool :=
  if (v.Kind == 0) = true then v.N == 0 && v.S == [] && v.Keys.isEmpty && v.L.isEmpty
  else if (v.Kind == 1) = true then v.N == 0 && v.S == [] && v.Keys.isEmpty && v.L.isEmpty
  else if (v.Kind == 2) = true then (v.N == 0 || v.N == 1) && v.S == [] && v.Keys.isEmpty && v.L.isEmpty
  else if (v.Kind == 3) = true then decide (-9007199254740991 ≤ v.N) && decide (v.N ≤ 9007199254740991) && v.S == [] && v.Keys.isEmpty && v.L.isEmpty
  else if (v.Kind == 4) = true then v.N == 0 && evenP v.S && v.Keys.isEmpty && v.L.isEmpty
  else if (v.Kind == 5) = true then v.N == 0 && v.S == [] && v.Keys.isEmpty
  else if (v.Kind == 6) = true then v.N == 0 && v.S == [] && keysP v
  else false
mutual
def mayD : Data → Bool
  | ⟨k, n, s, ks, l⟩ => ownD ⟨k, n, s, ks, l⟩ && mayL l
def mayL : List Data → Bool
  | [] => true
  | x :: r => mayD x && mayL r
end
end Go.D13


/- Chapter 13, plainly: the document's answer as to which data may be. -/
namespace Go.D13
open Go Go.Gw Go.Dn
set_option linter.unusedSimpArgs false
set_option linter.unusedVariables false

end Go.D13


/- Chapter 13, plainly: units; what a string, and a number, is written as. -/
namespace Go.D13
open Go Go.Gw Go.Dn
set_option linter.unusedSimpArgs false
set_option linter.unusedVariables false
set_option maxRecDepth 100000

def unitsL : Str → List Nat
  | a :: b :: r => (a.toNat * 256 + b.toNat) :: unitsL r
  | _ => []
theorem unitsL_length : ∀ u : Str, (unitsL u).length = u.length / 2
  | [] => rfl
  | [_] => by simp [unitsL]
  | a :: b :: r => by simp only [unitsL, List.length_cons, unitsL_length r]; omega
theorem unitsL_lt : ∀ (u : Str) (n : Nat), n ∈ unitsL u → n < 65536
  | [], _, h => by cases h
  | [_], _, h => by cases h
  | a :: b :: r, n, h => by
    simp only [unitsL, List.mem_cons] at h
    rcases h with h | h
    · have := a.toNat_lt; have := b.toNat_lt; omega
    · exact unitsL_lt r n h
theorem unitsL_get : ∀ (u : Str) (i : Nat), i < u.length / 2 → ∃ a b, u[2 * i]? = some a ∧ u[2 * i + 1]? = some b ∧ (unitsL u)[i]? = some (a.toNat * 256 + b.toNat)
  | [], i, h => by simp at h
  | [_], i, h => by simp at h
  | a :: b :: r, 0, _ => ⟨a, b, rfl, rfl, rfl⟩
  | a :: b :: r, i + 1, h => by
    obtain ⟨x, y, h1, h2, h3⟩ := unitsL_get r i (by simp only [List.length_cons] at h; omega)
    refine ⟨x, y, ?_, ?_, ?_⟩
    · have : 2 * (i + 1) = 2 * i + 1 + 1 := by omega
      rw [this]; simpa using h1
    · have : 2 * (i + 1) + 1 = 2 * i + 1 + 1 + 1 := by omega
      rw [this]; simpa using h2
    · simpa [unitsL] using h3
def unit2 (n : Nat) : Str := [UInt8.ofNat (n / 256), UInt8.ofNat (n % 256)]
theorem units_Len_eq (u : Str) (h : u.length < 9223372036854775808) : units_Len u = some (((u.length / 2 : Nat) : Int), ()) := by
  unfold units_Len
  have : Int.tdiv ((u.length : Nat) : Int) 2 = ((u.length / 2 : Nat) : Int) := rfl
  rw [this, wrap_i64 (by omega) (by omega)]
def unitAt (u : Str) (i : Int) : Int := if 0 ≤ i then (match (unitsL u)[i.toNat]? with | some n => (n : Int) | none => -1) else -1
theorem or_byte64 (x y : Nat) (hx : x < 256) (hy : y < 256) : IntKind.wrap .i64 ((BitVec.ofInt 64 (IntKind.wrap .i64 ((IntKind.wrap .i64 (x : Int)) * 2 ^ 8)) ||| BitVec.ofInt 64 (IntKind.wrap .i64 (y : Int))).toNat) = ((x * 256 + y : Nat) : Int) := by
  have e1 : IntKind.wrap .i64 (x : Int) = (x : Int) := wrap_i64 (by omega) (by omega)
  have e2 : IntKind.wrap .i64 (y : Int) = (y : Int) := wrap_i64 (by omega) (by omega)
  have e3 : ((x : Int) * 2 ^ 8) = ((x * 256 : Nat) : Int) := by simp
  rw [e1, e2, e3, wrap_i64 (n := ((x * 256 : Nat) : Int)) (by omega) (by omega), BitVec.toNat_or]
  have e4 : (BitVec.ofInt 64 ((x * 256 : Nat) : Int)).toNat = x * 256 := by rw [BitVec.ofInt_natCast, BitVec.toNat_ofNat]; omega
  have e5 : (BitVec.ofInt 64 (y : Int)).toNat = y := by rw [BitVec.ofInt_natCast, BitVec.toNat_ofNat]; omega
  rw [e4, e5]
  have e6 : x * 256 ||| y = x * 256 + y := by
    have := Nat.shiftLeft_add_eq_or_of_lt (b := y) (i := 8) hy x
    rw [Nat.shiftLeft_eq] at this
    exact this.symm
  rw [e6, wrap_i64 (by omega) (by omega)]
theorem units_At_eq (u : Str) (i : Int) (h : u.length < 4611686018427387904) : units_At u i = some (unitAt u i, ()) := by
  unfold units_At unitAt
  by_cases h0 : i < 0
  · have : ¬ 0 ≤ i := by omega
    simp [h0, this]
  · have h0' : 0 ≤ i := by omega
    rw [units_Len_eq u (by omega)]
    by_cases h1 : i ≥ ((u.length / 2 : Nat) : Int)
    · have : (unitsL u)[i.toNat]? = none := List.getElem?_eq_none (by rw [unitsL_length]; omega)
      simp only [h0, decide_false, Bool.false_eq_true, if_false, Option.bind_some, h1, decide_true, if_true, h0', this]
    · obtain ⟨k, rfl⟩ : ∃ k : Nat, i = k := ⟨i.toNat, by omega⟩
      obtain ⟨a, b, e1, e2, e3⟩ := unitsL_get u k (by omega)
      have w1 : IntKind.wrap .i64 (2 * (k : Int)) = ((2 * k : Nat) : Int) := by rw [wrap_i64 (by omega) (by omega)]; omega
      have w2 : IntKind.wrap .i64 (((2 * k : Nat) : Int) + 1) = ((2 * k + 1 : Nat) : Int) := by rw [wrap_i64 (by omega) (by omega)]; omega
      simp only [h0, decide_false, Bool.false_eq_true, if_false, Option.bind_some, h1, h0', if_true, w1, w2, getB_nat, e1, e2, Option.map_some, or_byte64 _ _ a.toNat_lt b.toNat_lt, Int.toNat_natCast, e3]
theorem unitAt_nat (u : Str) (k n : Nat) (h : (unitsL u)[k]? = some n) : unitAt u (k : Int) = (n : Int) := by
  unfold unitAt; rw [if_pos (by omega)]; simp [h]
theorem unitAt_end (u : Str) (k : Nat) (h : (unitsL u).length ≤ k) : unitAt u (k : Int) = -1 := by
  unfold unitAt; rw [if_pos (by omega)]; simp [List.getElem?_eq_none h]
/-- one unit cut out -/
theorem units_Cut_one (u : Str) (k n : Nat) (hu : u.length ≤ 1000000000) (h : (unitsL u)[k]? = some n) : units_Cut u (k : Int) ((k + 1 : Nat) : Int) = some (unit2 n, ()) := by
  have hk : k < u.length / 2 := by rw [← unitsL_length]; exact (List.getElem?_eq_some_iff.1 h).1
  obtain ⟨a, b, e1, e2, e3⟩ := unitsL_get u k hk
  rw [h] at e3
  cases e3
  unfold units_Cut
  rw [units_Len_eq u (by omega)]
  simp only [Option.bind_some]
  have c1 : (if ((u.length / 2 : Nat) : Int) < ((k + 1 : Nat) : Int) then ((u.length / 2 : Nat) : Int) else ((k + 1 : Nat) : Int)) = ((k + 1 : Nat) : Int) := by split <;> omega
  have c2 : (if (0 : Int) > (k : Int) then (0 : Int) else (k : Int)) = (k : Int) := by split <;> omega
  have c3 : ¬ ((k : Int) ≥ ((k + 1 : Nat) : Int)) := by omega
  have w1 : IntKind.wrap .i64 (2 * (k : Int)) = ((2 * k : Nat) : Int) := by rw [wrap_i64 (by omega) (by omega)]; omega
  have w2 : IntKind.wrap .i64 (2 * ((k + 1 : Nat) : Int)) = ((2 * k + 2 : Nat) : Int) := by rw [wrap_i64 (by omega) (by omega)]; omega
  simp only [c1, c2, c3, decide_false, Bool.false_eq_true, if_false, w1, w2]
  rw [cutL_nat u _ _ (by omega) (by omega)]
  simp only [Option.bind_some]
  congr 2
  have hd : u.drop (2 * k) = a :: b :: u.drop (2 * k + 2) := by
    have l1 := (List.getElem?_eq_some_iff.1 e1)
    have l2 := (List.getElem?_eq_some_iff.1 e2)
    rw [List.drop_eq_getElem_cons l1.1, l1.2, List.drop_eq_getElem_cons l2.1, l2.2]
  rw [hd, show 2 * k + 2 - 2 * k = 2 by omega]
  have ha := a.toNat_lt; have hb := b.toNat_lt
  show [a, b] = unit2 _
  unfold unit2
  have d1 : (a.toNat * 256 + b.toNat) / 256 = a.toNat := by omega
  have d2 : (a.toNat * 256 + b.toNat) % 256 = b.toNat := by omega
  rw [d1, d2, UInt8.ofNat_toNat, UInt8.ofNat_toNat]

/-- a plain text as units -/
def plainU (s : Str) : Str := s.flatMap fun c => [0, c]
theorem plainU_cons (c : UInt8) (r : Str) : plainU (c :: r) = 0 :: c :: plainU r := rfl
theorem plainU_length : ∀ s : Str, (plainU s).length = 2 * s.length
  | [] => rfl
  | c :: r => by rw [plainU_cons]; simp only [List.length_cons, plainU_length r]; omega
/-! ### a string's literal -/
def hexd (k : Nat) : UInt8 := if k < 10 then UInt8.ofNat (48 + k) else UInt8.ofNat (87 + k)
def esc1 (n : Nat) : Option UInt8 := if n = 34 then some 34 else if n = 92 then some 92 else if n = 8 then some 98 else if n = 12 then some 102 else if n = 10 then some 110 else if n = 13 then some 114 else if n = 9 then some 116 else none
def quoteJ1 (n : Nat) : Str := match esc1 n with
  | some c => plainU [92, c]
  | none => if n < 32 then plainU [92, 117, 48, 48, hexd (n / 16), hexd (n % 16)] else unit2 n
def quoteJ (u : Str) : Str := plainU [34] ++ ((unitsL u).flatMap quoteJ1 ++ plainU [34])
theorem quoteJ1_length (n : Nat) : (quoteJ1 n).length ≤ 12 := by
  unfold quoteJ1
  split
  · rw [plainU_length]; simp
  · split
    · rw [plainU_length]; simp
    · simp [unit2]
theorem flat_length : ∀ l : List Nat, (l.flatMap quoteJ1).length ≤ 12 * l.length
  | [] => by simp
  | n :: r => by
    simp only [List.flatMap_cons, List.length_append, List.length_cons]
    have := quoteJ1_length n; have := flat_length r; omega
theorem quoteJ_length (u : Str) : (quoteJ u).length ≤ 6 * u.length + 4 := by
  unfold quoteJ
  simp only [List.length_append, plainU_length, List.length_cons, List.length_nil]
  have := flat_length (unitsL u)
  rw [unitsL_length] at this
  omega
end Go.D13


/- Chapter 13, plainly: what data is written as. -/
namespace Go.D13
open Go Go.Gw Go.Dn
set_option linter.unusedSimpArgs false
set_option linter.unusedVariables false
set_option maxRecDepth 100000

def scalarT (v : Data) : Str := if (v.Kind == 1) = true then [110, 117, 108, 108] else if (v.Kind == 2) = true then Lib.formatBool (v.N == 1) else Lib.itoa v.N
mutual
def writeD : Data → Str
  | ⟨k, n, s, ks, l⟩ => if (k == 0) = true then plainU [110, 117, 108, 108] else if (k == 4) = true then quoteJ s else if (k == 5) = true then plainU [91] ++ (listW true l ++ plainU [93]) else if (k == 6) = true then plainU [123] ++ (recW true ks l ++ plainU [125]) else plainU (scalarT ⟨k, n, s, ks, l⟩)
def listW : Bool → List Data → Str
  | _, [] => []
  | b, x :: r => (if b then [] else plainU [44]) ++ (writeD x ++ listW false r)
def recW : Bool → List Str → List Data → Str
  | _, _, [] => []
  | b, ks, x :: r => if (x.Kind == 0) = true then recW b ks.tail r else (if b then [] else plainU [44]) ++ (quoteJ (ks.headD []) ++ (plainU [58] ++ (writeD x ++ recW false ks.tail r)))
end
theorem scalar_length (v : Data) (h0 : -9223372036854775808 ≤ v.N) (h1 : v.N ≤ 9223372036854775807) : (scalarT v).length ≤ 21 := by
  unfold scalarT
  split
  · simp
  · split
    · cases v.N == 1 <;> decide
    · exact Lib.itoa_length_le _ h0 h1
mutual
/-- its numbers are numbers of the machine -/
def okD : Data → Prop
  | ⟨k, n, _, _, l⟩ => (-9223372036854775808 ≤ k ∧ k ≤ 9223372036854775807) ∧ (-9223372036854775808 ≤ n ∧ n ≤ 9223372036854775807) ∧ okL l
def okL : List Data → Prop
  | [] => True
  | x :: r => okD x ∧ okL r
end
mutual
theorem writeD_length : ∀ v : Data, okD v → (writeD v).length + 10 ≤ 12 * bulkD v
  | ⟨k, n, s, ks, l⟩, h => by
    have hq := quoteJ_length s
    have hs := scalar_length ⟨k, n, s, ks, l⟩ h.2.1.1 h.2.1.2
    have h1 := listW_length l true h.2.2
    have h2 := recW_length l true ks h.2.2
    simp only [writeD, bulkD]
    split
    · simp only [plainU_length, List.length_cons, List.length_nil]; omega
    · split
      · omega
      · split
        · simp only [List.length_append, plainU_length, List.length_cons, List.length_nil]; omega
        · split
          · simp only [List.length_append, plainU_length, List.length_cons, List.length_nil]; omega
          · rw [plainU_length]; omega
theorem listW_length : ∀ (l : List Data) (b : Bool), okL l → (listW b l).length ≤ 12 * bulkL l
  | [], b, _ => by simp [listW]
  | x :: r, b, h => by
    have h1 := writeD_length x h.1
    have h2 := listW_length r false h.2
    have c1 : ((if b then [] else plainU [44] : Str)).length ≤ 2 := by cases b <;> decide
    simp only [listW, bulkL, List.length_append]
    omega
theorem recW_length : ∀ (l : List Data) (b : Bool) (ks : List Str), okL l → (recW b ks l).length ≤ 12 * bulkL l + 12 * (ks.map fun k => k.length + 1).sum
  | [], b, ks, _ => by simp [recW]
  | x :: r, b, ks, h => by
    have h1 := writeD_length x h.1
    have hk : ((ks.tail).map fun k : Str => k.length + 1).sum + (ks.headD []).length ≤ (ks.map fun k => k.length + 1).sum := by
      cases ks with
      | nil => simp
      | cons k ks => simp only [List.tail_cons, List.headD_cons, List.map_cons, List.sum_cons]; omega
    simp only [recW, bulkL]
    split
    · have h2 := recW_length r b ks.tail h.2
      omega
    · have h2 := recW_length r false ks.tail h.2
      have hq := quoteJ_length (ks.headD [])
      have c1 : ((if b then [] else plainU [44] : Str)).length ≤ 2 := by cases b <;> decide
      simp only [List.length_append, plainU_length, List.length_cons, List.length_nil] at c1 ⊢
      omega
end
/-! ### the scalars' texts -/
/-! ### the writer -/
end Go.D13


/- Chapter 13, plainly: the document's answer as to what data is written as. -/
namespace Go.D13
open Go Go.Gw Go.Dn
set_option linter.unusedSimpArgs false
set_option linter.unusedVariables false
set_option maxRecDepth 100000

def natsI (l : List Nat) : List Int := l.map fun n : Nat => (n : Int)
theorem make_eq (l : List Nat) (hn : ∀ n ∈ l, n < 65536) (hl : l.length ≤ 100000000) : credenzaref01_Make (natsI l) = some (l.flatMap unit2, ()) := by
  have h := loop_all (step := credenzaref01_Make_l1) (fun (a : Str) i => (natsI l, (((natsI l).length : Nat) : Int), (i : Int), a, ())) l (fun a n => .inl (a ++ unit2 n)) (fun a => (a, ())) (fun a r => a.length + 2 * r.length ≤ 1000000000) [] (by omega) (by simp; omega)
    (fun i n r a hr ha => by
      obtain ⟨h1, h2, h3⟩ := getI_drop hr
      have hn6 := hn n h3
      have hi : ((i : Int) < (((natsI l).length : Nat) : Int)) := by unfold natsI; rw [List.length_map]; omega
      have hg : getI (natsI l) (i : Int) = some (n : Int) := by
        rw [getI_nat] at h1 ⊢
        unfold natsI
        rw [List.getElem?_map, h1]; rfl
      simp only [List.length_cons] at ha
      have e1 : Int.tdiv (n : Int) 256 = ((n / 256 : Nat) : Int) := rfl
      have e2 : Int.tmod (n : Int) 256 = ((n % 256 : Nat) : Int) := rfl
      have w1 : IntKind.wrap .i64 ((n / 256 : Nat) : Int) = ((n / 256 : Nat) : Int) := wrap_i64 (by omega) (by omega)
      have w2 : IntKind.wrap .u8 ((n / 256 : Nat) : Int) = ((n / 256 : Nat) : Int) := wrap_u8 (by omega) (by omega)
      have w3 : IntKind.wrap .u8 ((n % 256 : Nat) : Int) = ((n % 256 : Nat) : Int) := wrap_u8 (by omega) (by omega)
      have t1 : toB ((n / 256 : Nat) : Int) = some (UInt8.ofNat (n / 256)) := by unfold toB; rw [if_pos (by omega)]; rfl
      have t2 : toB ((n % 256 : Nat) : Int) = some (UInt8.ofNat (n % 256)) := by unfold toB; rw [if_pos (by omega)]; rfl
      refine ⟨?_, by simp only [List.length_append, unit2, List.length_cons, List.length_nil]; omega⟩
      simp only [credenzaref01_Make_l1, hi, decide_true, if_true, hg, Option.bind_some, e1, e2, w1, w2, w3, t1, t2]
      rw [room_ok (by simp only [List.length_cons, List.length_nil]; omega), wrap1 (by omega)]
      rfl)
    (fun a _ => by
      have hi : ¬ (((l.length : Nat) : Int) < (((natsI l).length : Nat) : Int)) := by unfold natsI; rw [List.length_map]; omega
      simp only [credenzaref01_Make_l1, hi, decide_false, Bool.false_eq_true, if_false])
  unfold credenzaref01_Make
  refine h.trans ?_
  have fold : ∀ (r : List Nat) (a : Str), foldE (fun (a : Str) (n : Nat) => (.inl (a ++ unit2 n) : Str ⊕ (Str × Unit))) (fun a => (a, ())) a r = (a ++ r.flatMap unit2, ()) := by
    intro r
    induction r with
    | nil => intro a; simp [foldE]
    | cons c r ih => intro a; rw [foldE_inl rfl, ih]; simp
  rw [fold]; rfl
theorem list_eq (u : Str) (hl : u.length ≤ 100000000) : credenzaref01_List u = some (natsI (unitsL u), ()) := by
  have hul := unitsL_length u
  have h := loop_all (step := credenzaref01_List_l1) (fun (a : List Int) i => (u, ((2 * i : Nat) : Int), a, ())) (unitsL u) (fun a n => .inl (a ++ [(n : Int)])) (fun a => (a, ())) (fun a r => a.length + r.length ≤ 100000000) [] (by omega) (by simp; omega)
    (fun i n r a hr hP => by
      obtain ⟨h1, h2, h3⟩ := getI_drop hr
      rw [getI_nat] at h1
      obtain ⟨x, y, e1, e2, e3⟩ := unitsL_get u i (by omega)
      rw [h1] at e3
      cases e3
      have w : IntKind.wrap .i64 (((2 * i : Nat) : Int) + 1) = ((2 * i + 1 : Nat) : Int) := by rw [wrap_i64 (by omega) (by omega)]; omega
      have w2 : IntKind.wrap .i64 (((2 * i : Nat) : Int) + 2) = ((2 * (i + 1) : Nat) : Int) := by rw [wrap_i64 (by omega) (by omega)]; omega
      have hi : ((2 * i + 1 : Nat) : Int) < ((u.length : Nat) : Int) := by omega
      have hx := x.toNat_lt; have hy := y.toNat_lt
      have w3 : IntKind.wrap .i64 ((x.toNat : Nat) : Int) = ((x.toNat : Nat) : Int) := wrap_i64 (by omega) (by omega)
      have w4 : IntKind.wrap .i64 ((y.toNat : Nat) : Int) = ((y.toNat : Nat) : Int) := wrap_i64 (by omega) (by omega)
      have w5 : IntKind.wrap .i64 (((x.toNat : Nat) : Int) * 256) = ((x.toNat * 256 : Nat) : Int) := by rw [wrap_i64 (by omega) (by omega)]; omega
      have w6 : IntKind.wrap .i64 (((x.toNat * 256 : Nat) : Int) + ((y.toNat : Nat) : Int)) = ((x.toNat * 256 + y.toNat : Nat) : Int) := by rw [wrap_i64 (by omega) (by omega)]; omega
      simp only [List.length_cons] at hP
      refine ⟨?_, by simp only [List.length_append, List.length_cons, List.length_nil]; omega⟩
      simp only [credenzaref01_List_l1, w, hi, decide_true, if_true, getB_nat, e1, e2, Option.map_some, Option.bind_some, w3, w4, w5, w6, w2]
      rw [room_ok (by simp only [List.length_cons, List.length_nil]; omega)]
      rfl)
    (fun a hP => by
      have w : IntKind.wrap .i64 (((2 * (unitsL u).length : Nat) : Int) + 1) = ((2 * (unitsL u).length + 1 : Nat) : Int) := by rw [wrap_i64 (by omega) (by omega)]; omega
      have hi : ¬ (((2 * (unitsL u).length + 1 : Nat) : Int) < ((u.length : Nat) : Int)) := by omega
      simp only [credenzaref01_List_l1, w, hi, decide_false, Bool.false_eq_true, if_false])
  unfold credenzaref01_List
  refine h.trans ?_
  have fold : ∀ (r : List Nat) (a : List Int), foldE (fun (a : List Int) (n : Nat) => (.inl (a ++ [(n : Int)]) : List Int ⊕ ((List Int) × Unit))) (fun a => (a, ())) a r = (a ++ natsI r, ()) := by
    intro r
    induction r with
    | nil => intro a; simp [foldE, natsI]
    | cons c r ih => intro a; rw [foldE_inl rfl, ih]; simp [natsI]
  rw [fold]; rfl
/-! ### numbers -/
/-! ### a string's literal -/
end Go.D13


/- Chapter 13, plainly: the document writes what the program writes. -/
namespace Go.D13
open Go Go.Gw Go.Dn
set_option linter.unusedSimpArgs false
set_option linter.unusedVariables false
set_option maxRecDepth 100000

theorem app_even {a b : Str} (h1 : a.length % 2 = 0) (h2 : b.length % 2 = 0) : (a ++ b).length % 2 = 0 := by rw [List.length_append]; omega
theorem plainU_even (s : Str) : (plainU s).length % 2 = 0 := by rw [plainU_length]; omega
theorem quoteJ1_even (n : Nat) : (quoteJ1 n).length % 2 = 0 := by
  unfold quoteJ1
  split
  · exact plainU_even _
  · split
    · exact plainU_even _
    · simp [unit2]
theorem flat_even : ∀ l : List Nat, (l.flatMap quoteJ1).length % 2 = 0
  | [] => rfl
  | n :: r => by rw [List.flatMap_cons]; exact app_even (quoteJ1_even n) (flat_even r)
theorem quoteJ_even (u : Str) : (quoteJ u).length % 2 = 0 := app_even (plainU_even _) (app_even (flat_even _) (plainU_even _))
mutual
theorem writeD_even : ∀ v : Data, (writeD v).length % 2 = 0
  | ⟨k, n, s, ks, l⟩ => by
    simp only [writeD]
    split
    · exact plainU_even _
    · split
      · exact quoteJ_even _
      · split
        · exact app_even (plainU_even _) (app_even (listW_even l true) (plainU_even _))
        · split
          · exact app_even (plainU_even _) (app_even (recW_even l true ks) (plainU_even _))
          · exact plainU_even _
theorem listW_even : ∀ (l : List Data) (b : Bool), (listW b l).length % 2 = 0
  | [], b => rfl
  | x :: r, b => by
    simp only [listW]
    exact app_even (by cases b <;> rfl) (app_even (writeD_even x) (listW_even r false))
theorem recW_even : ∀ (l : List Data) (b : Bool) (ks : List Str), (recW b ks l).length % 2 = 0
  | [], b, ks => rfl
  | x :: r, b, ks => by
    simp only [recW]
    split
    · exact recW_even r b ks.tail
    · exact app_even (by cases b <;> rfl) (app_even (quoteJ_even _) (app_even (plainU_even _) (app_even (writeD_even x) (recW_even r false ks.tail))))
end
end Go.D13


/- Chapter 13, plainly: the parser without forks; the chapter's examples; JsonWrites. -/
namespace Go.D13
open Go Go.Gw Go.Dn
set_option linter.unusedSimpArgs false
set_option linter.unusedVariables false
set_option maxRecDepth 100000

theorem getI_last {α : Type} (l : List α) (x : α) : getI (l ++ [x]) ((l.length : Nat) : Int) = some x := by rw [getI_nat]; simp
theorem set_last {α : Type} (l : List α) (x y : α) : (l ++ [x]).set ((l.length : Nat) : Int).toNat y = l ++ [y] := by simp
abbrev RowsR := Option ((GErr × T_json_parser × Int × Int × Str × (List Str) × (List T_api_Data) × Unit) ⊕ (T_json_parser × Int × Int × Str × (List Str) × (List T_api_Data) × Unit))
/-- an element of a list -/
def elem_p (g : Rec_json_parser_value) (x : T_json_parser) (Kind : Int) (N : Int) (S : Str) (l : List Str) (l2 : List T_api_Data) : RowsR :=
  Option.bind (g.json_parser_value x) fun r =>
  match r with
  | Sum.inl r => some (Sum.inl (r.1, r.2.1, Kind, N, S, l, l2, ()))
  | Sum.inr r => Option.bind (room (l2.length + 1)) fun _ => some (Sum.inr (r.2.1, Kind, N, S, l, l2 ++ [r.1], ()))
theorem value_1_eq (g : Rec_json_parser_value) (x : T_json_parser) (Kind : Int) (N : Int) (S : Str) (l : List Str) (l2 : List T_api_Data) : json_parser_value_1_b g x Kind N S l l2 = elem_p g x Kind N S l l2 := by
  unfold json_parser_value_1_b elem_p
  simp only [re38_eq, re25_eq]
  cases g.json_parser_value x with
  | none => rfl
  | some r =>
    simp only [Option.bind_some]
    cases r with
    | inl r => rfl
    | inr r =>
      simp only [getI_last, set_last, Option.bind_some, fk_self, List.length_cons, List.length_nil, Nat.zero_add]
/-- a member of an object -/
def memb_p (g_ : Rec_json_parser_value) (x : T_json_parser) (Kind : Int) (N : Int) (S : Str) (l : List Str) (l2 : List T_api_Data) : RowsR :=
  Option.bind (json_parser_blanks x) fun r_1 =>
  Option.bind (json_parser_str r_1.2.1) fun r_2 =>
  (match r_2 with
  | Sum.inl r_3 => some (Sum.inl (r_3.1, r_3.2.1, Kind, N, S, l, l2, ()))
  | Sum.inr r_4 =>
   Option.bind (json_parser_blanks r_4.2.1) fun r_5 =>
   Option.bind (json_parser_need ([58] : Str) r_5.2.1) fun r_6 =>
   (match r_6 with
   | Sum.inl r_7 => some (Sum.inl (r_7.1, r_7.2.1, Kind, N, S, l, l2, ()))
   | Sum.inr r_8 =>
    Option.bind (g_.json_parser_value r_8.1) fun r_9 =>
    (match r_9 with
    | Sum.inl r_10 => some (Sum.inl (r_10.1, r_10.2.1, Kind, N, S, l, l2, ()))
    | Sum.inr r_11 =>
     Option.bind (slices_Index l r_4.1) fun r_12 =>
     if (decide (r_12.1 ≥ 0)) = true then
      Option.bind (getI l2 r_12.1) fun _ => some (Sum.inr (r_11.2.1, Kind, N, S, l, l2.set r_12.1.toNat r_11.1, ()))
     else
      Option.bind (room (l.length + 1)) fun _ =>
      Option.bind (room (l2.length + 1)) fun _ => some (Sum.inr (r_11.2.1, Kind, N, S, l ++ [r_4.1], l2 ++ [r_11.1], ())))))
theorem bind_twice {α β : Type} (o : Option α) (f : α → Option β) : (Option.bind o fun _ => Option.bind o f) = Option.bind o f := by cases o <;> rfl
theorem value_2_eq (g : Rec_json_parser_value) (x : T_json_parser) (Kind : Int) (N : Int) (S : Str) (l : List Str) (l2 : List T_api_Data) : json_parser_value_2_b g x Kind N S l l2 = memb_p g x Kind N S l l2 := by
  unfold json_parser_value_2_b memb_p
  simp only [re38_eq, re25_eq, fk_self, bind_twice, List.length_cons, List.length_nil, Nat.zero_add]
  rfl
def RecP : Nat → Rec_json_parser_value
  | 0 => ⟨fun _ => none, fun _ _ _ _ _ _ _ => none, fun _ _ _ _ _ _ => none, fun _ _ _ _ _ _ _ => none, fun _ _ _ _ _ _ => none⟩
  | n + 1 => ⟨json_parser_value_b (RecP n), json_parser_rows_b (RecP n), elem_p (RecP n), json_parser_rows_v2_b (RecP n), memb_p (RecP n)⟩
theorem rec_eq : ∀ n, Rec_json_parser_value_g n = RecP n
  | 0 => rfl
  | n + 1 => by
    have h1 : json_parser_value_1_b (RecP n) = elem_p (RecP n) := by funext a b c d e f; exact value_1_eq _ _ _ _ _ _ _
    have h2 : json_parser_value_2_b (RecP n) = memb_p (RecP n) := by funext a b c d e f; exact value_2_eq _ _ _ _ _ _ _
    show (⟨json_parser_value_b (Rec_json_parser_value_g n), json_parser_rows_b (Rec_json_parser_value_g n), json_parser_value_1_b (Rec_json_parser_value_g n), json_parser_rows_v2_b (Rec_json_parser_value_g n), json_parser_value_2_b (Rec_json_parser_value_g n)⟩ : Rec_json_parser_value) = _
    rw [rec_eq n, h1, h2]
    rfl
/-- Parse, over a reader of values -/
def ParseOver (f : T_json_parser → Option ((GErr × T_json_parser × Unit) ⊕ (T_api_Data × T_json_parser × Unit))) (u : Str) : Option (T_api_Data × Int × Unit) :=
  Option.bind (units_Check u) fun r_1 =>
  if (!r_1.1) = true then
   some ((⟨0, 0, ([] : Str), ([] : List Str), ([] : List T_api_Data)⟩ : T_api_Data), 150, ())
  else
   Option.bind (f (⟨u, 0, 0⟩ : T_json_parser)) fun r_2 =>
   (match r_2 with
   | Sum.inl r_3 =>
    if ((r_3.1).isNil) = true then
     some ((⟨0, 0, ([] : Str), ([] : List Str), ([] : List T_api_Data)⟩ : T_api_Data), 0, ())
    else
     Option.bind (assertE 26 r_3.1) fun r_4 =>
     if r_4.2 = true then
      some ((⟨0, 0, ([] : Str), ([] : List Str), ([] : List T_api_Data)⟩ : T_api_Data), r_4.1, ())
     else
      none
   | Sum.inr r_5 =>
    Option.bind (json_parser_blanks r_5.2.1) fun r_6 =>
    if (decide (r_6.1 ≥ 0)) = true then
      some ((⟨0, 0, ([] : Str), ([] : List Str), ([] : List T_api_Data)⟩ : T_api_Data), 150, ())
    else
      some (r_5.1, 0, ()))
theorem pan_none {R : Type} (e : GErr) : panE e (fun _ => (none : Option R)) = none := by cases e <;> rfl
theorem value_eq : json_parser_value = (RecP Lp.big).json_parser_value := by unfold json_parser_value; rw [rec_eq]
theorem parse_over (u : Str) : json_Parse u = ParseOver (RecP Lp.big).json_parser_value u := by
  unfold json_Parse ParseOver
  rw [value_eq]
  simp only [re38_eq, re25_eq, pan_none]
  rfl
theorem live_true : credenzalaw13_live = some (true, ()) := by
  unfold credenzalaw13_live
  simp only [parse_over]
  kernel_rfl
end Go.D13

