/- Several texts in one. -/
import Derived.Test.YtilkjloabkgpaaaGreatDoorA07zx1
import Derived.Test.YtilkjloabkgpaaaGreatDoorGwL
import Derived.KernelRfl
import Derived.Test.YtilkjloabkgpaaaGreatDoorGwZ
import Derived.Lib.IndexMore
import Derived.Lib.IndexAny
set_option linter.unusedVariables false
set_option linter.unusedSimpArgs false
set_option linter.unnecessarySimpa false
/- Chapter 7, plainly: depth, size, sameness. -/
namespace Go.D07
open Go Go.Gw Go.Dn
instance lpI : Lp := lpN 1000000000000
theorem live_true : credenzalaw07_live = some (true, ()) := by kernel_rfl

theorem loop_of {S E : Type} {step : S → Option (S ⊕ E)} {n : Nat} {s : S} {e : E} (h : loopN step n s = some e) (hn : n ≤ 1000000000000) : Lp.loop step s = some e :=
  loopN_more _ h hn
theorem loopN_go {S E : Type} {step : S → Option (S ⊕ E)} {n : Nat} {s s' : S} (h : step s = some (.inl s')) : loopN step (n + 1) s = loopN step n s' := by simp only [loopN, h, Option.bind_some]
theorem loopN_out {S E : Type} {step : S → Option (S ⊕ E)} {n : Nat} {s : S} {e : E} (h : step s = some (.inr e)) : loopN step (n + 1) s = some e := by simp only [loopN, h, Option.bind_some]

abbrev Node := T_api_Node
mutual
def deepN : Node → Nat
  | ⟨_, _, _, _, _, l⟩ => deepL l + 1
def deepL : List Node → Nat
  | [] => 0
  | x :: r => max (deepN x) (deepL r)
end
mutual
def sizeN : Node → Nat
  | ⟨_, _, _, _, _, l⟩ => sizeL l + 1
def sizeL : List Node → Nat
  | [] => 0
  | x :: r => sizeN x + sizeL r
end
mutual
def sameN : Node → Node → Bool
  | ⟨k, n, m, t, ns, l⟩, ⟨k', n', m', t', ns', l'⟩ => (k == k' && n == n' && m == m' && t == t' && ns == ns') && sameL l l'
def sameL : List Node → List Node → Bool
  | [], [] => true
  | x :: r, y :: r' => sameN x y && sameL r r'
  | _, _ => false
end
theorem deepN_eq (x : Node) : deepN x = deepL x.L + 1 := by cases x; simp [deepN]
theorem sizeN_eq (x : Node) : sizeN x = sizeL x.L + 1 := by cases x; simp [sizeN]
theorem deepL_cons (x : Node) (r : List Node) : deepL (x :: r) = max (deepN x) (deepL r) := by simp [deepL]
mutual
theorem deep_size : ∀ x : Node, deepN x ≤ sizeN x
  | ⟨_, _, _, _, _, l⟩ => by simp only [deepN, sizeN]; have := deep_sizeL l; omega
theorem deep_sizeL : ∀ l : List Node, deepL l ≤ sizeL l
  | [] => by simp [deepL]
  | x :: r => by simp only [deepL, sizeL]; have := deep_size x; have := deep_sizeL r; omega
end
theorem len_sizeL : ∀ l : List Node, l.length ≤ sizeL l
  | [] => by simp
  | x :: r => by simp only [sizeL, List.length_cons]; have := len_sizeL r; have := sizeN_eq x; omega
theorem mem_deepL {x : Node} : ∀ {l : List Node}, x ∈ l → deepN x ≤ deepL l
  | y :: r, h => by
    simp only [deepL]
    rcases List.mem_cons.1 h with rfl | h
    · omega
    · have := mem_deepL h; omega
theorem mem_sizeL {x : Node} : ∀ {l : List Node}, x ∈ l → sizeN x ≤ sizeL l
  | y :: r, h => by
    simp only [sizeL]
    rcases List.mem_cons.1 h with rfl | h
    · omega
    · have := mem_sizeL h; omega
theorem getI_drop {α : Type} {xs : List α} {i : Nat} {x : α} {r : List α} (h : xs.drop i = x :: r) : getI xs (i : Int) = some x ∧ xs.drop (i + 1) = r ∧ i < xs.length := by
  have hi : i < xs.length := by
    rcases Nat.lt_or_ge i xs.length with h1 | h1
    · exact h1
    · rw [List.drop_of_length_le h1] at h; cases h
  rw [List.drop_eq_getElem_cons hi] at h
  cases h
  exact ⟨by rw [getI_nat]; exact List.getElem?_eq_getElem hi, rfl, hi⟩

theorem deep_loop (g : Rec_tree_Deep) (l : List Node) (hg : ∀ x ∈ l, g.tree_Deep x = some ((deepN x : Int), ())) (hb : deepL l < 4611686018427387904) (hl : l.length < 4611686018427387904) : ∀ (r : List Node) (i : Nat) (m : Nat), l.drop i = r → m < 4611686018427387904 →
    loopN (tree_Deep_l1 g) (r.length + 1) ((m : Int), l, ((l.length : Nat) : Int), (i : Int), ()) = some (((max m (deepL r) + 1 : Nat) : Int), ())
  | [], i, m, hr, hm => by
    have hi : ¬ ((i : Int) < (l.length : Int)) := by
      have := congrArg List.length hr; simp at this; omega
    refine loopN_out ?_
    simp only [tree_Deep_l1, hi, decide_false, Bool.false_eq_true, if_false]
    rw [wrap_i64 (by omega) (by omega)]
    simp [deepL]
  | x :: r, i, m, hr, hm => by
    obtain ⟨h1, h2, h3⟩ := getI_drop hr
    have hi : ((i : Int) < (l.length : Int)) := by omega
    have hx : x ∈ l := List.mem_of_mem_drop (hr ▸ List.mem_cons_self)
    have hd := mem_deepL hx
    have hstep : tree_Deep_l1 g ((m : Int), l, ((l.length : Nat) : Int), (i : Int), ()) = some (.inl (((max m (deepN x) : Nat) : Int), l, ((l.length : Nat) : Int), ((i + 1 : Nat) : Int), ())) := by
      simp only [tree_Deep_l1, hi, decide_true, if_true, h1, Option.bind_some, re25_eq, hg x hx]
      rw [wrap_i64 (by omega) (by omega)]
      have : (if ((deepN x : Nat) : Int) > (m : Int) then ((deepN x : Nat) : Int) else (m : Int)) = ((max m (deepN x) : Nat) : Int) := by split <;> omega
      rw [this]
      rfl
    rw [List.length_cons, loopN_go hstep, deep_loop g l hg hb hl r (i + 1) _ h2 (by omega), deepL_cons]
    congr 3
    omega
theorem tree_Deep_n : ∀ (n : Nat) (x : Node), deepN x ≤ n → sizeN x ≤ 2097152 → (Rec_tree_Deep_g n).tree_Deep x = some ((deepN x : Int), ())
  | 0, x, h, _ => by have := deepN_eq x; omega
  | n + 1, x, h, hs => by
    have h1 := deepN_eq x
    have h2 := sizeN_eq x
    have h3 := deep_sizeL x.L
    have h4 := len_sizeL x.L
    show tree_Deep_b (Rec_tree_Deep_g n) x = _
    unfold tree_Deep_b
    refine loop_of (n := x.L.length + 1) ?_ (by omega)
    have := deep_loop (Rec_tree_Deep_g n) x.L (fun y hy => tree_Deep_n n y (by have := mem_deepL hy; omega) (by have := mem_sizeL hy; omega)) (by omega) (by omega) x.L 0 0 rfl (by omega)
    rw [h1]
    simpa using this
theorem tree_Deep_eq (x : Node) (h : sizeN x ≤ 2097152) : tree_Deep x = some ((deepN x : Int), ()) :=
  tree_Deep_n _ x (by have := deep_size x; show deepN x ≤ 1000000000000; omega) h
theorem refDeep_n : ∀ n, (Rec_credenzaref07_Deep_g n).credenzaref07_Deep = (Rec_tree_Deep_g n).tree_Deep
  | 0 => rfl
  | n + 1 => by
    funext x
    show credenzaref07_Deep_b (Rec_credenzaref07_Deep_g n) x = tree_Deep_b (Rec_tree_Deep_g n) x
    unfold credenzaref07_Deep_b tree_Deep_b
    congr 1
    funext z
    simp only [credenzaref07_Deep_l1, tree_Deep_l1, refDeep_n n]

mutual
def namesN : Node → Nat
  | ⟨_, _, _, _, ns, l⟩ => ns.length + namesL l
def namesL : List Node → Nat
  | [] => 0
  | x :: r => namesN x + namesL r
end
end Go.D07


/- Chapter 7, plainly: how much a node is. -/
namespace Go.D07
open Go Go.Gw Go.Dn
set_option linter.unusedSimpArgs false

def i64 (n : Int) : Prop := -9223372036854775808 ≤ n ∧ n < 9223372036854775808
theorem i64_of {n : Int} (h : (Lit.int .i64 n).wf = true) : i64 n := by
  simp only [Lit.wf, Bool.and_eq_true, decide_eq_true_eq] at h
  have e1 : IntKind.min .i64 = -9223372036854775808 := by decide
  have e2 : IntKind.max .i64 = 9223372036854775807 := by decide
  rw [e1, e2] at h
  exact ⟨h.1, by omega⟩
mutual
/-- its numbers are numbers of the machine -/
def okN : Node → Prop
  | ⟨k, _, m, _, _, l⟩ => i64 k ∧ i64 m ∧ okL l
def okL : List Node → Prop
  | [] => True
  | x :: r => okN x ∧ okL r
end
mutual
def bulkN : Node → Nat
  | ⟨_, n, _, t, ns, l⟩ => n.length + t.length + (ns.map fun s => s.length + 1).sum + bulkL l + 7
def bulkL : List Node → Nat
  | [] => 0
  | x :: r => bulkN x + bulkL r
end
theorem okL_of : ∀ {l : List Node}, (∀ x ∈ l, okN x) → okL l
  | [], _ => trivial
  | x :: r, h => ⟨h x List.mem_cons_self, okL_of fun y hy => h y (List.mem_cons_of_mem _ hy)⟩
theorem bulkL_sum : ∀ l : List Node, bulkL l = (l.map bulkN).sum
  | [] => by simp [bulkL]
  | x :: r => by simp [bulkL, bulkL_sum r]
mutual
theorem size_bulk : ∀ x : Node, sizeN x ≤ bulkN x
  | ⟨_, _, _, _, _, l⟩ => by simp only [sizeN, bulkN]; have := size_bulkL l; omega
theorem size_bulkL : ∀ l : List Node, sizeL l ≤ bulkL l
  | [] => by simp [sizeL]
  | x :: r => by simp only [sizeL, bulkL]; have := size_bulk x; have := size_bulkL r; omega
end
theorem len_sum1 : ∀ l : List Str, l.length ≤ (l.map fun s => s.length + 1).sum
  | [] => by simp
  | x :: r => by simp only [List.length_cons, List.map_cons, List.sum_cons]; have := len_sum1 r; omega
mutual
theorem names_bulk : ∀ x : Node, namesN x ≤ bulkN x
  | ⟨_, _, _, _, ns, l⟩ => by simp only [namesN, bulkN]; have := names_bulkL l; have := len_sum1 ns; omega
theorem names_bulkL : ∀ l : List Node, namesL l ≤ bulkL l
  | [] => by simp [namesL]
  | x :: r => by simp only [namesL, bulkL]; have := names_bulk x; have := names_bulkL r; omega
end
theorem bulkN_eq (x : Node) : bulkN x = x.Name.length + x.Text.length + (x.Names.map fun s => s.length + 1).sum + bulkL x.L + 7 := by cases x; simp [bulkN]
theorem mem_bulkL {x : Node} : ∀ {l : List Node}, x ∈ l → bulkN x ≤ bulkL l
  | y :: r, h => by
    simp only [bulkL]
    rcases List.mem_cons.1 h with rfl | h
    · omega
    · have := mem_bulkL h; omega
theorem len_bulkL : ∀ l : List Node, l.length ≤ bulkL l
  | [] => by simp
  | x :: r => by simp only [bulkL, List.length_cons]; have := len_bulkL r; have := bulkN_eq x; omega
theorem mem_sum1 {s : Str} : ∀ {l : List Str}, s ∈ l → s.length ≤ (l.map fun s => s.length + 1).sum
  | y :: r, h => by
    simp only [List.map_cons, List.sum_cons]
    rcases List.mem_cons.1 h with rfl | h
    · omega
    · have := mem_sum1 h; omega
end Go.D07


/- Chapter 6: words, rows, blanks, plainly: no program in sight. -/
namespace Go.Gw
set_option linter.unusedSimpArgs false

/-! ### what stands in a list of pieces -/
theorem contains_nil {sub : Str} (h : sub ≠ []) : Lib.contains [] sub = false := by
  cases sub with
  | nil => exact absurd rfl h
  | cons a l => rfl
theorem contains_cons (b : UInt8) (l sub : Str) : Lib.contains (b :: l) sub = (sub.isPrefixOf (b :: l) || Lib.contains l sub) := by
  unfold Lib.contains
  rw [Lib.index]
  have h := Lib.index_ge l sub
  cases hp : sub.isPrefixOf (b :: l) with
  | true => simp
  | false =>
    simp only [Bool.false_eq_true, if_false, Bool.false_or]
    by_cases hi : Lib.index l sub = -1
    · simp [hi]
    · have c : (Lib.index l sub == -1) = false := by rw [beq_eq_false_iff_ne]; exact hi
      rw [c]; simp only [Bool.false_eq_true, if_false]
      rw [decide_eq_decide]; omega
theorem contains_byte (c : UInt8) : ∀ s : Str, Lib.contains s [c] = s.contains c
  | [] => rfl
  | b :: l => by
    rw [contains_cons, contains_byte c l, List.contains_cons]
    simp [List.isPrefixOf]
theorem contains_skip (sub t : Str) : ∀ w : Str, (32 : UInt8) ∉ w → Lib.contains (w ++ t) (32 :: sub) = Lib.contains t (32 :: sub)
  | [], _ => rfl
  | b :: w, h => by
    simp only [List.mem_cons, not_or] at h
    rw [List.cons_append, contains_cons, contains_skip sub t w h.2]
    have : ((32 : UInt8) == b) = false := by rw [beq_eq_false_iff_ne]; exact h.1
    simp [List.isPrefixOf, this]
/-- pieces, a blank ahead of each and behind each -/
def joined : List Str → Str
  | [] => [32]
  | w :: r => 32 :: (w ++ joined r)
theorem joined_cons (ws : List Str) : ∃ t, joined ws = 32 :: t := by cases ws <;> exact ⟨_, rfl⟩
theorem prefix_word : ∀ (s w t : Str), (32 : UInt8) ∉ s → (32 : UInt8) ∉ w → (s ++ [32]).isPrefixOf (w ++ 32 :: t) = (s == w)
  | [], [], t, _, _ => by simp [List.isPrefixOf]
  | [], b :: w, t, _, h => by
    simp only [List.mem_cons, not_or] at h
    have : ((32 : UInt8) == b) = false := by rw [beq_eq_false_iff_ne]; exact h.1
    simp [List.isPrefixOf, this]
  | a :: s, [], t, h, _ => by
    simp only [List.mem_cons, not_or] at h
    have : (a == (32 : UInt8)) = false := by rw [beq_eq_false_iff_ne]; exact fun e => h.1 e.symm
    simp [List.isPrefixOf, this]
  | a :: s, b :: w, t, h, h' => by
    simp only [List.mem_cons, not_or] at h h'
    simp only [List.cons_append, List.isPrefixOf, prefix_word s w t h.2 h'.2]
    rfl
theorem joined_contains (s : Str) (hs : (32 : UInt8) ∉ s) : ∀ ws : List Str, (∀ w ∈ ws, (32 : UInt8) ∉ w) → Lib.contains (joined ws) (32 :: (s ++ [32])) = ws.contains s
  | [], _ => by
    unfold joined
    rw [contains_cons, contains_nil (by simp)]
    cases s <;> simp [List.isPrefixOf]
  | w :: r, h => by
    have hw := h w (by simp)
    have ih := joined_contains s hs r (fun x hx => h x (by simp [hx]))
    obtain ⟨t, ht⟩ := joined_cons r
    unfold joined
    rw [contains_cons, contains_skip _ _ _ hw, ih, List.contains_cons]
    have : List.isPrefixOf (32 :: (s ++ [32])) (32 :: (w ++ joined r)) = (s == w) := by
      simp only [List.isPrefixOf, beq_self_eq_true, Bool.true_and]
      rw [ht]; exact prefix_word s w t hs hw
    rw [this]

/-! ### letters, digits, rows -/
def isLet (c : UInt8) : Bool := decide ((97 ≤ c.toNat ∧ c.toNat ≤ 122) ∨ (65 ≤ c.toNat ∧ c.toNat ≤ 90) ∨ c.toNat = 95 ∨ c.toNat = 36)
def isDig (c : UInt8) : Bool := decide (48 ≤ c.toNat ∧ c.toNat ≤ 57)
def isLD (c : UInt8) : Bool := isLet c || isDig c
def rowK (s : Str) : Nat := (s.takeWhile isLD).length
theorem rowK_le : ∀ s : Str, rowK s ≤ s.length
  | [] => by simp [rowK]
  | c :: r => by
    have := rowK_le r
    unfold rowK at this ⊢
    rw [List.takeWhile_cons]; split <;> simp <;> omega
theorem rowK_cons (c : UInt8) (r : Str) : rowK (c :: r) = if isLD c then rowK r + 1 else 0 := by
  unfold rowK; rw [List.takeWhile_cons]; split <;> simp
theorem rowK_all : ∀ s : Str, rowK s = s.length ↔ s.all isLD = true
  | [] => by simp [rowK]
  | c :: r => by
    rw [rowK_cons]; have := rowK_all r; have h := rowK_le r
    cases hc : isLD c with
    | true => simp only [if_true, List.length_cons, List.all_cons, hc, Bool.true_and, ← this]; omega
    | false => simp [hc]
/-! ### blanks -/
end Go.Gw


/- Chapter 7, plainly: which trees may be. -/
namespace Go.D07
open Go Go.Gw Go.Dn
set_option linter.unusedSimpArgs false
set_option maxRecDepth 100000

/-! ### names -/
theorem letter_fin : ∀ b : Fin 256, token_letter ((b.val : Nat) : Int) = some (isLet (UInt8.ofNat b.val), ()) := by decide +kernel
theorem digit_fin : ∀ b : Fin 256, token_digit ((b.val : Nat) : Int) = some (isDig (UInt8.ofNat b.val), ()) := by decide +kernel
theorem byteFin (b : UInt8) : ∃ k : Fin 256, b = UInt8.ofNat k.val := ⟨⟨b.toNat, b.toNat_lt⟩, by simp⟩
theorem token_letter_eq (c : UInt8) : token_letter ((c.toNat : Nat) : Int) = some (isLet c, ()) := by
  obtain ⟨k, rfl⟩ := byteFin c
  have : (UInt8.ofNat k.val).toNat = k.val := by simp [Nat.mod_eq_of_lt k.isLt]
  rw [this]; exact letter_fin k
theorem token_digit_eq (c : UInt8) : token_digit ((c.toNat : Nat) : Int) = some (isDig c, ()) := by
  obtain ⟨k, rfl⟩ := byteFin c
  have : (UInt8.ofNat k.val).toNat = k.val := by simp [Nat.mod_eq_of_lt k.isLt]
  rw [this]; exact digit_fin k
theorem getB_drop {s : Str} {i : Nat} {c : UInt8} {r : Str} (h : s.drop i = c :: r) : getB s (i : Int) = some ((c.toNat : Nat) : Int) ∧ s.drop (i + 1) = r ∧ i < s.length := by
  have hi : i < s.length := by
    rcases Nat.lt_or_ge i s.length with h1 | h1
    · exact h1
    · rw [List.drop_of_length_le h1] at h; cases h
  rw [List.drop_eq_getElem_cons hi] at h
  cases h
  exact ⟨by rw [getB_nat, List.getElem?_eq_getElem hi]; rfl, rfl, hi⟩
theorem row_loop (s : Str) (hs : s.length ≤ 1000000000) : ∀ (r : Str) (i : Nat), s.drop i = r → i ≤ s.length → loopN token_row_l1 (r.length + 1) (s, ((s.length : Nat) : Int), (i : Int), ()) = some (((i + Gw.rowK r : Nat) : Int), ())
  | [], i, hr, hi => by
    have h1 : i = s.length := by have := congrArg List.length hr; simp at this; omega
    refine loopN_out ?_
    have hi : ¬ ((i : Int) < (s.length : Int)) := by omega
    simp only [token_row_l1, hi, decide_false, Bool.false_eq_true, if_false]
    simp [Gw.rowK, h1]
  | c :: r, i, hr, _ => by
    obtain ⟨h1, h2, h3⟩ := getB_drop hr
    have hi : ((i : Int) < (s.length : Int)) := by omega
    rw [rowK_cons]
    have hL : isLD c = (isLet c || isDig c) := rfl
    have hgo : isLD c = true → token_row_l1 (s, ((s.length : Nat) : Int), (i : Int), ()) = some (.inl (s, ((s.length : Nat) : Int), ((i + 1 : Nat) : Int), ())) := fun h => by
      rw [hL] at h
      simp only [token_row_l1, hi, decide_true, if_true, h1, Option.bind_some, token_letter_eq, token_digit_eq]
      rw [wrap_i64 (by omega) (by omega)]
      cases hl : isLet c with
      | true => rfl
      | false =>
        rw [hl] at h
        simp only [Bool.false_or] at h
        simp only [h, Bool.not_false, if_true, Bool.not_true, Bool.false_eq_true, if_false]
        rfl
    cases h : isLD c with
    | true =>
      rw [List.length_cons, loopN_go (hgo h), row_loop s hs r (i + 1) h2 (by omega)]
      simp only [if_true]
      congr 3
      omega
    | false =>
      refine loopN_out ?_
      rw [hL, Bool.or_eq_false_iff] at h
      simp only [token_row_l1, hi, decide_true, if_true, h1, Option.bind_some, token_letter_eq, token_digit_eq, h.1, h.2, Bool.not_false, Bool.false_eq_true, if_false]
      rfl
theorem token_row_eq (s : Str) (hs : s.length ≤ 1000000000) : token_row s = some (((Gw.rowK s : Nat) : Int), ()) := by
  refine loop_of (n := s.length + 1) ?_ (by omega)
  have := row_loop s hs s 0 rfl (Nat.zero_le _)
  simpa using this
/-- an identifier -/
def identP (s : Str) : Bool := match s with
  | [] => false
  | c :: _ => decide (s.length ≤ 32) && (isLet c && s.all isLD)
theorem token_IsIdent_eq (s : Str) (hs : s.length ≤ 1000000000) : token_IsIdent s = some (identP s, ()) := by
  unfold token_IsIdent
  cases s with
  | nil => rfl
  | cons c r =>
    have h0 : ((c :: r : Str) == ([] : Str)) = false := rfl
    have h1 : getB (c :: r) 0 = some ((c.toNat : Nat) : Int) := rfl
    simp only [h0, Bool.not_false, Bool.true_and, h1, Option.bind_some, token_letter_eq, token_row_eq _ hs, identP]
    by_cases hl : (c :: r).length ≤ 32
    · have : (((c :: r).length : Nat) : Int) ≤ 32 := by omega
      simp only [hl, this, decide_true, if_true, Bool.true_and]
      cases isLet c with
      | false => rfl
      | true =>
        simp only [if_true, Bool.true_and]
        congr 2
        have := rowK_all (c :: r)
        rw [Bool.eq_iff_iff, beq_iff_eq]
        constructor
        · intro h; exact this.1 (by omega)
        · intro h; rw [this.2 h]
    · have : ¬ (((c :: r).length : Nat) : Int) ≤ 32 := by omega
      simp only [hl, this, decide_false, Bool.false_eq_true, if_false, Bool.false_and]
/-- it stands in a list, a blank ahead of it and behind it -/
def amongP (l s : Str) : Bool := !(s == ([] : Str)) && (!(s.contains 32) && Lib.contains l (32 :: (s ++ [32])))
theorem among_body (l s : Str) (hl : l.length ≤ 1000000000) (hs : s.length ≤ 1000000000) :
    (if (!(s == ([] : Str))) = true then
   Option.bind (strings_Contains s ([32] : Str)) fun r_1 =>
   if (!r_1.1) = true then
    Option.bind (catS ([32] : Str) s) fun s_2 =>
    Option.bind (catS s_2 ([32] : Str)) fun s_3 =>
    Option.bind (strings_Contains l s_3) fun r_4 =>
    some (r_4.1, ())
   else
    some (false, ())
  else
   some (false, ())) = some (amongP l s, ()) := by
  have c1 : strings_Contains s ([32] : Str) = some (s.contains 32, ()) := by
    simp only [strings_Contains, strings_Contains_x, show s.length < 4294967281 by omega, if_true, mapO, contains_byte]
  have c2 : ∀ t, strings_Contains l t = some (Lib.contains l t, ()) := fun t => by
    simp only [strings_Contains, strings_Contains_x, show l.length < 4294967281 by omega, if_true, mapO]
  have c3 : catS ([32] : Str) s = some (32 :: s) := catS_ok (by simp; omega)
  have c4 : catS (32 :: s) ([32] : Str) = some (32 :: (s ++ [32])) := catS_ok (by simp; omega)
  simp only [c1, c2, c3, c4, Option.bind_some, amongP]
  cases s == ([] : Str) <;> cases s.contains 32 <;> simp
theorem token_among_eq (l s : Str) (hl : l.length ≤ 1000000000) (hs : s.length ≤ 1000000000) : token_among l s = some (amongP l s, ()) := among_body l s hl hs
theorem tree_among_eq (l s : Str) (hl : l.length ≤ 1000000000) (hs : s.length ≤ 1000000000) : tree_among l s = some (amongP l s, ()) := among_body l s hl hs
def wordsS : Str := [32, 98, 114, 101, 97, 107, 32, 99, 97, 115, 101, 32, 99, 97, 116, 99, 104, 32, 99, 108, 97, 115, 115, 32, 99, 111, 110, 115, 116, 32, 99, 111, 110, 116, 105, 110, 117, 101, 32, 100, 101, 98, 117, 103, 103, 101, 114, 32, 100, 101, 102, 97, 117, 108, 116, 32, 100, 101, 108, 101, 116, 101, 32, 100, 111, 32, 101, 108, 115, 101, 32, 101, 110, 117, 109, 32, 101, 120, 112, 111, 114, 116, 32, 101, 120, 116, 101, 110, 100, 115, 32, 102, 97, 108, 115, 101, 32, 102, 105, 110, 97, 108, 108, 121, 32, 102, 111, 114, 32, 102, 117, 110, 99, 116, 105, 111, 110, 32, 105, 102, 32, 105, 109, 112, 108, 101, 109, 101, 110, 116, 115, 32, 105, 109, 112, 111, 114, 116, 32, 105, 110, 32, 105, 110, 115, 116, 97, 110, 99, 101, 111, 102, 32, 105, 110, 116, 101, 114, 102, 97, 99, 101, 32, 108, 101, 116, 32, 110, 101, 119, 32, 110, 117, 108, 108, 32, 112, 97, 99, 107, 97, 103, 101, 32, 112, 114, 105, 118, 97, 116, 101, 32, 112, 114, 111, 116, 101, 99, 116, 101, 100, 32, 112, 117, 98, 108, 105, 99, 32, 114, 101, 116, 117, 114, 110, 32, 115, 116, 97, 116, 105, 99, 32, 115, 117, 112, 101, 114, 32, 115, 119, 105, 116, 99, 104, 32, 116, 104, 105, 115, 32, 116, 104, 114, 111, 119, 32, 116, 114, 117, 101, 32, 116, 114, 121, 32, 116, 121, 112, 101, 111, 102, 32, 118, 97, 114, 32, 118, 111, 105, 100, 32, 119, 104, 105, 108, 101, 32, 119, 105, 116, 104, 32, 121, 105, 101, 108, 100, 32]
def wordP (s : Str) : Bool := amongP wordsS s
theorem token_IsWord_eq (s : Str) (hs : s.length ≤ 1000000000) : token_IsWord s = some (wordP s, ()) := by
  show Option.bind (token_among wordsS s) _ = _
  rw [token_among_eq _ _ (by decide) hs]
  rfl
def nameP (s : Str) : Bool := identP s && !wordP s
theorem tree_isName_eq (s : Str) (hs : s.length ≤ 1000000000) : tree_isName s = some (nameP s, ()) := by
  unfold tree_isName nameP
  simp only [token_IsIdent_eq s hs, token_IsWord_eq s hs, Option.bind_some]
  cases identP s <;> rfl
theorem names_loop (l : List Str) (hl : l.length ≤ 1000000000) (hs : ∀ s ∈ l, s.length ≤ 1000000000) : ∀ (r : List Str) (i : Nat), l.drop i = r →
    ∃ k : Int, loopN slices_IndexFunc_l1 (r.length + 1) (l, ((l.length : Nat) : Int), (i : Int), ()) = some (k, ()) ∧ (decide (k ≥ 0)) = !(r.all nameP)
  | [], i, hr => by
    have hi : ¬ ((i : Int) < (l.length : Int)) := by
      have := congrArg List.length hr; simp at this; omega
    refine ⟨-1, loopN_out ?_, rfl⟩
    simp only [slices_IndexFunc_l1, hi, decide_false, Bool.false_eq_true, if_false]
  | s :: r, i, hr => by
    obtain ⟨h1, h2, h3⟩ := getI_drop hr
    have hi : ((i : Int) < (l.length : Int)) := by omega
    have hm : s ∈ l := List.mem_of_mem_drop (hr ▸ List.mem_cons_self)
    have e : tree_may_1 s = some (!nameP s, ()) := by simp only [tree_may_1, tree_isName_eq s (hs s hm), Option.bind_some]
    cases hn : nameP s with
    | true =>
      obtain ⟨k, h4, h5⟩ := names_loop l hl hs r (i + 1) h2
      refine ⟨k, ?_, by rw [h5, List.all_cons, hn, Bool.true_and]⟩
      have : slices_IndexFunc_l1 (l, ((l.length : Nat) : Int), (i : Int), ()) = some (.inl (l, ((l.length : Nat) : Int), ((i + 1 : Nat) : Int), ())) := by
        simp only [slices_IndexFunc_l1, hi, decide_true, if_true, h1, Option.bind_some, e, hn, Bool.not_true, Bool.false_eq_true, if_false]
        rw [wrap_i64 (by omega) (by omega)]
        rfl
      rw [List.length_cons, loopN_go this, h4]
    | false =>
      refine ⟨i, loopN_out ?_, by rw [List.all_cons, hn]; simp⟩
      simp only [slices_IndexFunc_l1, hi, decide_true, if_true, h1, Option.bind_some, e, hn, Bool.not_false]
theorem slices_ContainsFunc_eq (l : List Str) (hl : l.length ≤ 1000000000) (hs : ∀ s ∈ l, s.length ≤ 1000000000) : slices_ContainsFunc l = some (!(l.all nameP), ()) := by
  obtain ⟨k, h1, h2⟩ := names_loop l hl hs l 0 rfl
  have : slices_IndexFunc l = some (k, ()) := loop_of (n := l.length + 1) (by simpa using h1) (by omega)
  simp only [slices_ContainsFunc, this, Option.bind_some, h2]
/-! ### units -/
def evenP (s : Str) : Bool := s.length % 2 == 0
theorem units_Check_eq (s : Str) (hs : s.length ≤ 1000000000) : units_Check s = some (evenP s, ()) := by
  have h : (BitVec.ofInt 64 ((s.length : Nat) : Int) &&& BitVec.ofInt 64 1).toNat = s.length % 2 := by
    rw [BitVec.toNat_and]
    have h1 : (BitVec.ofInt 64 ((s.length : Nat) : Int)).toNat = s.length := by
      rw [BitVec.toNat_ofInt]; omega
    have h2 : (BitVec.ofInt 64 1).toNat = 1 := rfl
    rw [h1, h2, Nat.and_one_is_mod]
  unfold units_Check evenP
  simp only [h]
  rw [wrap_i64 (by omega) (by omega)]
  congr 2
  rw [Bool.eq_iff_iff, beq_iff_eq, beq_iff_eq]
  omega
/-! ### forms -/
theorem index_star : ∀ s : Str, Lib.index s [42] = if s.contains 42 then (((s.takeWhile (· != 42)).length : Nat) : Int) else -1
  | [] => by decide
  | b :: l => by
    rw [Lib.index, index_star l]
    by_cases hb : b = 42
    · subst hb; simp [List.isPrefixOf]
    · have h1 : ([42] : Str).isPrefixOf (b :: l) = false := by simp [List.isPrefixOf]; exact fun e => hb e.symm
      have h2 : (b :: l).contains 42 = l.contains 42 := by
        rw [List.contains_cons]
        have : ((42 : UInt8) == b) = false := by rw [beq_eq_false_iff_ne]; exact fun e => hb e.symm
        rw [this, Bool.false_or]
      have h3 : (b != 42) = true := by simpa using hb
      rw [h1, h2, List.takeWhile_cons, h3]
      cases l.contains 42 with
      | true =>
        have : ((((l.takeWhile (· != 42)).length : Nat) : Int) == -1) = false := by rw [beq_eq_false_iff_ne]; omega
        simp [this]
      | false => simp
end Go.D07


/- Chapter 7, plainly: which trees may be, as a plain answer. -/
namespace Go.D07
open Go Go.Gw Go.Dn
set_option linter.unusedSimpArgs false
set_option maxRecDepth 100000

def fixP (l : Str) : Str := l.takeWhile (· != 42)
def oftP (l : Str) : Str := (l.dropWhile (· != 42)).drop 1
theorem take_while {α : Type} (p : α → Bool) : ∀ l : List α, l.take (l.takeWhile p).length = l.takeWhile p ∧ l.drop (l.takeWhile p).length = l.dropWhile p
  | [] => by simp
  | a :: l => by
    rw [List.takeWhile_cons, List.dropWhile_cons]
    have := take_while p l
    cases p a <;> simp [this]
theorem strings_Cut_eq (l : Str) (hl : l.length ≤ 1000) : strings_Cut l [42] = some (fixP l, oftP l, l.contains 42, ()) := by
  obtain ⟨t1, t2⟩ := take_while (fun c : UInt8 => c != 42) l
  have hlen : (l.takeWhile (· != 42)).length + (l.dropWhile (· != 42)).length = l.length := by rw [← List.length_append, List.takeWhile_append_dropWhile]
  have hx : stringslite_Index l [42] = some (Lib.index l [42], ()) := by simp only [stringslite_Index, stringslite_Index_x, show l.length < 4294967281 by omega, if_true, mapO]
  unfold strings_Cut stringslite_Cut
  simp only [hx, Option.bind_some, index_star]
  cases hc : l.contains 42 with
  | true =>
    have h1 : (decide ((((l.takeWhile (· != 42)).length : Nat) : Int) ≥ 0)) = true := by simpa using by omega
    have h2 : 1 ≤ (l.dropWhile (· != 42)).length := by
      rcases Nat.eq_zero_or_pos (l.dropWhile (· != 42)).length with h | h
      · exfalso
        have hd : l.dropWhile (· != 42) = [] := List.length_eq_zero_iff.1 h
        have hm : (42 : UInt8) ∈ l := by simpa using hc
        have ht : l.takeWhile (· != 42) = l := by have := List.takeWhile_append_dropWhile (p := fun c : UInt8 => c != 42) (l := l); rw [hd, List.append_nil] at this; exact this
        rw [← ht] at hm
        have := List.all_takeWhile (p := fun c : UInt8 => c != 42) (l := l)
        have h3 := List.all_eq_true.1 this 42 hm
        simp at h3
      · exact h
    have e : (((l.takeWhile (· != 42)).length : Nat) : Int) + ((([42] : Str).length : Nat) : Int) = (((l.takeWhile (· != 42)).length + 1 : Nat) : Int) := by simp
    simp only [if_true, h1]
    rw [show cutL l 0 (((l.takeWhile (· != 42)).length : Nat) : Int) = some (l.takeWhile (· != 42)) by
      have := cutL_nat l 0 (l.takeWhile (· != 42)).length (Nat.zero_le _) (by omega)
      simpa [t1] using this]
    rw [e, wrap_i64 (by omega) (by omega), cutL_to_end l _ (by omega)]
    simp only [Option.bind_some, fixP, oftP]
    rw [← t2, List.drop_drop]
  | false =>
    have hm : ¬ (42 : UInt8) ∈ l := by simpa using hc
    have hd : l.takeWhile (· != 42) = l := by
      have : ∀ m : Str, (42 : UInt8) ∉ m → m.takeWhile (· != 42) = m := by
        intro m
        induction m with
        | nil => intro _; rfl
        | cons a r ih =>
          intro h
          simp only [List.mem_cons, not_or] at h
          rw [List.takeWhile_cons, ih h.2]
          have : (a != 42) = true := by simpa using fun e => h.1 e.symm
          rw [this]; rfl
      exact this l hm
    have h4 : l.dropWhile (· != 42) = [] := by
      have := hlen; rw [hd] at this; exact List.length_eq_zero_iff.1 (by omega)
    simp [fixP, oftP, hd, h4]

abbrev Form := T_tree_form
/-- what may be said of every form's letters -/
def okForm (f : Form) : Bool := decide (f.name.length ≤ 100) && (decide (f.l.length ≤ 10) && (!(f.l.contains 42) || !(oftP f.l == ([] : Str))))
theorem cut_e {i : Int} (h0 : 0 ≤ i) (h1 : i ≤ 1) : cutL ([101] : Str) 0 i = some (if i = 1 then [101] else []) := by
  rcases (show i = 0 ∨ i = 1 by omega) with rfl | rfl <;> rfl
theorem cut_ebb {i : Int} (h0 : 2 ≤ i) (h1 : i ≤ 3) : cutL ([101, 98, 98] : Str) 0 i = some (if i = 3 then [101, 98, 98] else [101, 98]) := by
  rcases (show i = 2 ∨ i = 3 by omega) with rfl | rfl <;> rfl
theorem min_1 (n : Nat) : 0 ≤ (if 1 < ((n : Nat) : Int) then (1 : Int) else (n : Int)) ∧ (if 1 < ((n : Nat) : Int) then (1 : Int) else (n : Int)) ≤ 1 := by split <;> omega
theorem mid_3 (n : Nat) : 2 ≤ (let a := (if 2 > ((n : Nat) : Int) then (2 : Int) else (n : Int)); if 3 < a then 3 else a) ∧ (let a := (if 2 > ((n : Nat) : Int) then (2 : Int) else (n : Int)); if 3 < a then 3 else a) ≤ 3 := by
  simp only; split <;> split <;> omega
def okO (o : Option (Form × Bool × Unit)) : Bool := match o with
  | some (f, _, _) => okForm f
  | none => false
theorem okO_ite {c : Prop} [Decidable c] {a b : Option (Form × Bool × Unit)} (h1 : okO a = true) (h2 : okO b = true) : okO (if c then a else b) = true := by split <;> assumption
theorem okO_str {c : Prop} [Decidable c] {a b : Str} {n : Str} {m : Int} {t u v : Bool} (h1 : okO (some (⟨n, m, t, u, a⟩, v, ())) = true) (h2 : okO (some (⟨n, m, t, u, b⟩, v, ())) = true) : okO (some (⟨n, m, t, u, if c then a else b⟩, v, ())) = true := by split <;> assumption
theorem okO_some {o : Option (Form × Bool × Unit)} (h : okO o = true) : ∃ f b, o = some (f, b, ()) ∧ okForm f = true := by
  match o, h with
  | some (f, b, ()), h => exact ⟨f, b, rfl, h⟩
theorem statement_some (n : Node) : okO (tree_statement n) = true := by
  unfold tree_statement
  simp only [cut_e (min_1 _).1 (min_1 _).2, cut_ebb (mid_3 _).1 (mid_3 _).2, Option.bind_some]
  repeat' (first | apply okO_ite | apply okO_str | rfl)
theorem of_some (n : Node) : ∃ f b, tree_of n = some (f, b, ()) ∧ okForm f = true := by
  refine okO_some ?_
  obtain ⟨f, b, h1, h2⟩ := okO_some (statement_some n)
  unfold tree_of
  simp only [re25_eq, h1, Option.bind_some, tree_of_j1, re46_eq]
  repeat' (first | apply okO_ite | exact h2 | rfl)
/-- a node's form -/
def formP (n : Node) : Option Form := match tree_of n with
  | some (f, true, ()) => some f
  | _ => none
/-- its name fits -/
def namedP (n : Node) (w : Str) : Bool :=
  if (w == ([] : Str)) = true then n.Name == ([] : Str)
  else if (w == ([110] : Str)) = true then nameP n.Name
  else if (w == ([109] : Str)) = true then n.Name == ([] : Str) || nameP n.Name
  else if (w == ([105] : Str)) = true then identP n.Name
  else if (w == ([99] : Str)) = true then (if (match n.L[1]? with | some x => x.Kind == 25 | none => false) = true then nameP n.Name else n.Name == ([] : Str))
  else amongP w n.Name
theorem named_eq (n : Node) (w : Str) (hw : w.length ≤ 100) (hn : n.Name.length ≤ 1000000000) (hl : n.L.length ≤ 1000000000) : tree_named n w = some (namedP n w, ()) := by
  unfold tree_named namedP
  simp only [tree_isName_eq _ hn, token_IsIdent_eq _ hn, tree_among_eq w _ (by omega) hn, Option.bind_some]
  split
  · rfl
  · split
    · rfl
    · split
      · cases n.Name == ([] : Str) <;> rfl
      · split
        · rfl
        · split
          · by_cases h : 1 < n.L.length
            · have h1 : (decide (((n.L.length : Nat) : Int) > 1)) = true := by simpa using by omega
              have h2 : getI n.L 1 = some n.L[1] := by have := getI_nat n.L 1; rw [List.getElem?_eq_getElem h] at this; exact this
              simp only [h1, if_true, h2, Option.bind_some, List.getElem?_eq_getElem h]
              cases n.L[1].Kind == 25 <;> rfl
            · have h1 : (decide (((n.L.length : Nat) : Int) > 1)) = false := by simpa using by omega
              have h2 : n.L[1]? = none := List.getElem?_eq_none (by omega)
              simp only [h1, Bool.false_eq_true, if_false, Option.bind_some, h2]
          · rfl
def exprK (k : Int) : Bool := decide (k ≥ 1) && (decide (k ≤ 21) && k != 9)
def tgtK (k : Int) : Bool := (k == 3 || k == 11) || k == 12
def stK (k : Int) (fn : Bool) : Bool := (((decide (k ≥ 22)) && (decide (k ≤ 40))) && (k != 23) && (k != 37)) && ((k != 39) || fn)
/-- a node is what a letter says -/
def isP (x : Node) (c : Int) : Bool :=
  if (c == 101) = true then exprK x.Kind
  else if (c == 116) = true then tgtK x.Kind
  else if (c == 102) = true then exprK x.Kind || x.Kind == 42
  else if (c == 98) = true then x.Kind == 25
  else if (c == 99) = true then x.Kind == 25 || x.Kind == 42
  else if (c == 112) = true then x.Kind == 9
  else if (c == 100) = true then x.Kind == 23
  else if (c == 118) = true then (exprK x.Kind || x.Kind == 42) || x.Kind == 22
  else if (c == 119) = true then tgtK x.Kind || (x.Kind == 22 && (match x.L with | [y] => y.L.isEmpty | _ => false))
  else if (c == 107) = true then x.Kind == 37
  else if (c == 115) = true then stK x.Kind false
  else if (c == 120) = true then stK x.Kind true
  else false
theorem bind_eta (o : Option (Bool × Unit)) : (Option.bind o fun r => some (r.1, ())) = o := by cases o <;> rfl
def fitsR (g : Rec_tree_may) (x : Node) (b : Bool) : Option (Bool × Unit) := if b = true then g.tree_may x else some (false, ())
theorem j16_eq (g : Rec_tree_may) (c k : Int) (x : Node) : tree_fits_j16 g c k x = fitsR g x (stK k (c == 120)) := by
  unfold tree_fits_j16 fitsR stK
  simp only [re25_eq, bind_eta]
theorem IsTarget_eq (x : Node) : tree_IsTarget x = some (tgtK x.Kind, ()) := rfl
theorem j12_eq (g : Rec_tree_may) (x : Node) : tree_fits_j12 g x.Kind x = fitsR g x (tgtK x.Kind || (x.Kind == 22 && (match x.L with | [y] => y.L.isEmpty | _ => false))) := by
  unfold tree_fits_j12 fitsR
  simp only [re25_eq, bind_eta, IsTarget_eq, Option.bind_some]
  cases tgtK x.Kind with
  | true => rfl
  | false =>
    cases x.Kind == 22 with
    | false => rfl
    | true =>
      cases hL : x.L with
      | nil => rfl
      | cons y r =>
        cases r with
        | nil =>
          have : getI ([y] : List Node) 0 = some y := rfl
          simp only [List.length_singleton, show (((1 : Nat) : Int) == 1) = true from rfl, Bool.and_self, if_true, this, Option.bind_some, Bool.false_eq_true, if_false, Bool.false_or, Bool.true_and]
          cases hy : y.L with
          | nil => rfl
          | cons z r =>
            have : ((((z :: r).length : Nat) : Int) == 0) = false := by rw [beq_eq_false_iff_ne]; simp only [List.length_cons]; omega
            rw [this]; rfl
        | cons z r =>
          have : ((((y :: z :: r).length : Nat) : Int) == 1) = false := by rw [beq_eq_false_iff_ne]; simp only [List.length_cons]; omega
          rw [this]; rfl
theorem fits_eq (g : Rec_tree_may) (x : Node) (c : Int) : tree_fits_b g x c = fitsR g x (isP x c) := by
  have h0 : tree_fits_b g x c = tree_fits_j1 g c x.Kind (exprK x.Kind) x := by
    unfold tree_fits_b exprK
    simp only [re25_eq]
    cases decide (x.Kind ≥ 1) <;> cases decide (x.Kind ≤ 21) <;> rfl
  rw [h0]
  unfold tree_fits_j1 tree_fits_j2
  by_cases h101 : c = 101
  · subst h101
    show (if exprK x.Kind = true then Option.bind (g.tree_may (re25 x)) (fun r => some (r.1, ())) else some (false, ())) = _
    rw [bind_eta, re25_eq]; rfl
  by_cases h116 : c = 116
  · subst h116
    show (if tgtK x.Kind = true then Option.bind (g.tree_may (re25 x)) (fun r => some (r.1, ())) else some (false, ())) = _
    rw [bind_eta, re25_eq]; rfl
  by_cases h102 : c = 102
  · subst h102
    show (if (exprK x.Kind || x.Kind == 42) = true then Option.bind (g.tree_may (re25 x)) (fun r => some (r.1, ())) else some (false, ())) = _
    rw [bind_eta, re25_eq]; rfl
  by_cases h98 : c = 98
  · subst h98
    show (if (x.Kind == 25) = true then Option.bind (g.tree_may (re25 x)) (fun r => some (r.1, ())) else some (false, ())) = _
    rw [bind_eta, re25_eq]; rfl
  by_cases h99 : c = 99
  · subst h99
    show (if (x.Kind == 25 || x.Kind == 42) = true then Option.bind (g.tree_may (re25 x)) (fun r => some (r.1, ())) else some (false, ())) = _
    rw [bind_eta, re25_eq]; rfl
  by_cases h112 : c = 112
  · subst h112
    show (if (x.Kind == 9) = true then Option.bind (g.tree_may (re25 x)) (fun r => some (r.1, ())) else some (false, ())) = _
    rw [bind_eta, re25_eq]; rfl
  by_cases h100 : c = 100
  · subst h100
    show (if (x.Kind == 23) = true then Option.bind (g.tree_may (re25 x)) (fun r => some (r.1, ())) else some (false, ())) = _
    rw [bind_eta, re25_eq]; rfl
  by_cases h118 : c = 118
  · subst h118
    show (if ((exprK x.Kind || x.Kind == 42) || x.Kind == 22) = true then Option.bind (g.tree_may (re25 x)) (fun r => some (r.1, ())) else some (false, ())) = _
    rw [bind_eta, re25_eq]; rfl
  by_cases h119 : c = 119
  · subst h119
    show tree_fits_j12 g x.Kind x = _
    rw [j12_eq]; rfl
  by_cases h107 : c = 107
  · subst h107
    show (if (x.Kind == 37) = true then Option.bind (g.tree_may (re25 x)) (fun r => some (r.1, ())) else some (false, ())) = _
    rw [bind_eta, re25_eq]; rfl
  by_cases h115 : c = 115
  · subst h115
    show tree_fits_j16 g 115 x.Kind x = _
    rw [j16_eq]; rfl
  by_cases h120 : c = 120
  · subst h120
    show tree_fits_j16 g 120 x.Kind x = _
    rw [j16_eq]; rfl
  have k101 : (c == 101) = false := by rw [beq_eq_false_iff_ne]; exact h101
  have k116 : (c == 116) = false := by rw [beq_eq_false_iff_ne]; exact h116
  have k102 : (c == 102) = false := by rw [beq_eq_false_iff_ne]; exact h102
  have k98 : (c == 98) = false := by rw [beq_eq_false_iff_ne]; exact h98
  have k99 : (c == 99) = false := by rw [beq_eq_false_iff_ne]; exact h99
  have k112 : (c == 112) = false := by rw [beq_eq_false_iff_ne]; exact h112
  have k100 : (c == 100) = false := by rw [beq_eq_false_iff_ne]; exact h100
  have k118 : (c == 118) = false := by rw [beq_eq_false_iff_ne]; exact h118
  have k119 : (c == 119) = false := by rw [beq_eq_false_iff_ne]; exact h119
  have k107 : (c == 107) = false := by rw [beq_eq_false_iff_ne]; exact h107
  have k115 : (c == 115) = false := by rw [beq_eq_false_iff_ne]; exact h115
  have k120 : (c == 120) = false := by rw [beq_eq_false_iff_ne]; exact h120
  have e1 : isP x c = false := by simp only [isP, k101, k116, k102, k98, k99, k112, k100, k118, k119, k107, k115, k120, Bool.false_eq_true, if_false]
  rw [e1]
  unfold tree_fits_j3
  rw [k101, if_neg (by decide)]
  unfold tree_fits_j4
  rw [k116, if_neg (by decide)]
  unfold tree_fits_j5
  rw [k102, if_neg (by decide)]
  unfold tree_fits_j6
  rw [k98, if_neg (by decide)]
  unfold tree_fits_j7
  rw [k99, if_neg (by decide)]
  unfold tree_fits_j8
  rw [k112, if_neg (by decide)]
  unfold tree_fits_j9
  rw [k100, if_neg (by decide)]
  unfold tree_fits_j10
  rw [k118, if_neg (by decide)]
  unfold tree_fits_j11
  rw [k119, if_neg (by decide)]
  unfold tree_fits_j13
  rw [k107, if_neg (by decide)]
  unfold tree_fits_j14
  rw [k115, if_neg (by decide)]
  unfold tree_fits_j15
  rw [k120, if_neg (by decide)]
  rfl
end Go.D07


/- Chapter 7, plainly: tree.Check is a plain answer. -/
namespace Go.D07
open Go Go.Gw Go.Dn
set_option linter.unusedSimpArgs false
set_option maxRecDepth 100000

def emptyK (x k : Node) : Bool := (x.Kind == 35 && k.Kind == 42) || ((x.Kind == 36 && k.Kind == 37) && (match k.L with | y :: _ => y.Kind == 42 | [] => false))
/-- what stands below is what the letters say -/
def kidsP (x : Node) (ls : Str) : List (Node × Bool) → Nat → Nat → Bool
  | [], _, e => decide (e < 2)
  | (k, b) :: r, i, e => match ls[min i (ls.length - 1)]? with
    | none => false
    | some c => (isP k ((c.toNat : Nat) : Int) && b) && kidsP x ls r (i + 1) (if emptyK x k = true then e + 1 else e)
/-- what a node has beside -/
def selfP (x : Node) (f : Form) : Bool := (namedP x f.name && (decide (0 ≤ x.Num) && decide (x.Num ≤ f.num))) && (((evenP x.Text && (x.Text == ([] : Str) || f.text)) && (x.Names.isEmpty || f.names)) && x.Names.all nameP)
def manyP (x : Node) (l : Str) : Bool := decide ((fixP l).length ≤ x.L.length) && (l.contains 42 || decide (x.L.length ≤ (fixP l).length))
def mayB (x : Node) (ks : List (Node × Bool)) : Bool := match formP x with
  | none => false
  | some f => (selfP x f && manyP x f.l) && kidsP x (fixP f.l ++ oftP f.l) ks 0 0
mutual
/-- a node that may be -/
def mayN : Node → Bool
  | ⟨k, n, m, t, ns, l⟩ => mayB ⟨k, n, m, t, ns, l⟩ (mayL l)
def mayL : List Node → List (Node × Bool)
  | [] => []
  | x :: r => (x, mayN x) :: mayL r
end
theorem mayN_eq (x : Node) : mayN x = mayB x (mayL x.L) := by cases x; simp [mayN]
theorem kind_form {x : Node} (h : x.Kind = 37) : formP x = some ⟨[], 0, false, false, [102, 42, 115]⟩ := by
  simp [formP, tree_of, tree_statement, h, re25_eq, re46_eq]
theorem may_case {x : Node} (h : mayN x = true) (hk : x.Kind = 37) : ∃ y r, x.L = y :: r := by
  rw [mayN_eq] at h
  unfold mayB at h
  rw [kind_form hk] at h
  cases hL : x.L with
  | cons y r => exact ⟨y, r, rfl⟩
  | nil =>
    exfalso
    simp only [Bool.and_eq_true] at h
    have h2 := h.1.2
    unfold manyP at h2
    rw [hL] at h2
    simp [fixP] at h2
theorem kids_loop (g : Rec_tree_may) (x : Node) (fx ot : Str) (hg : ∀ k ∈ x.L, ∀ c : Int, g.tree_fits k c = some (isP k c && mayN k, ())) (hlen : x.L.length ≤ 1000000000) (hf : fx.length ≤ 1000) (ho : ot.length ≤ 1000) (hls : x.L ≠ [] → fx ++ ot ≠ []) :
    ∀ (r : List Node) (i e : Nat), x.L.drop i = r → e ≤ i → i ≤ x.L.length → loopN (tree_may_l1 g) (r.length + 1) (fx, ot, (e : Int), x.L, ((x.L.length : Nat) : Int), (i : Int), x, ()) = some (kidsP x (fx ++ ot) (mayL r) i e, ())
  | [], i, e, hr, he, hil => by
    have hi : ¬ ((i : Int) < (x.L.length : Int)) := by
      have := congrArg List.length hr; simp at this; omega
    refine loopN_out ?_
    simp only [tree_may_l1, hi, decide_false, Bool.false_eq_true, if_false, mayL, kidsP]
    congr 3
    rw [decide_eq_decide]
    omega
  | k :: r, i, e, hr, he, hil => by
    obtain ⟨h1, h2, h3⟩ := getI_drop hr
    have hi : ((i : Int) < (x.L.length : Int)) := by omega
    have hx : k ∈ x.L := List.mem_of_mem_drop (hr ▸ List.mem_cons_self)
    have hne : fx ++ ot ≠ [] := hls (fun e => by rw [e] at h3; simp at h3)
    have hpos : 0 < (fx ++ ot).length := List.length_pos_iff.2 hne
    have hcat : catS fx ot = some (fx ++ ot) := catS_ok (by omega)
    have hlt : min i ((fx ++ ot).length - 1) < (fx ++ ot).length := by omega
    have hle : (fx ++ ot).length ≤ 2000 := by rw [List.length_append]; omega
    have hmin : (if ((((fx ++ ot).length : Nat) : Int) - 1) < (i : Int) then ((((fx ++ ot).length : Nat) : Int) - 1) else (i : Int)) = ((min i ((fx ++ ot).length - 1) : Nat) : Int) := by split <;> omega
    have hb : getB (fx ++ ot) ((min i ((fx ++ ot).length - 1) : Nat) : Int) = some ((((fx ++ ot)[min i ((fx ++ ot).length - 1)]).toNat : Nat) : Int) := by rw [getB_nat, List.getElem?_eq_getElem hlt]; rfl
    have hstep : ∀ c : UInt8, (fx ++ ot)[min i ((fx ++ ot).length - 1)]? = some c → tree_may_l1 g (fx, ot, (e : Int), x.L, ((x.L.length : Nat) : Int), (i : Int), x, ()) =
        if (isP k ((c.toNat : Nat) : Int) && mayN k) = true then some (.inl (fx, ot, (((if emptyK x k = true then e + 1 else e) : Nat) : Int), x.L, ((x.L.length : Nat) : Int), ((i + 1 : Nat) : Int), x, ())) else some (.inr (false, ())) := fun c hc => by
      rw [List.getElem?_eq_getElem hlt] at hc
      cases hc
      simp only [tree_may_l1, hi, decide_true, if_true, h1, Option.bind_some, hcat, re25_eq]
      rw [wrap_i64 (by omega) (by omega), hmin, hb]
      simp only [Option.bind_some, hg k hx]
      generalize hq : isP k _ = q
      cases q with
      | false => simp
      | true =>
        cases hm : mayN k with
        | false => simp
        | true =>
          simp only [Bool.and_self, Bool.not_true, Bool.false_eq_true, if_false, if_true]
          have w1 : IntKind.wrap .i64 ((e : Int) + 1) = ((e + 1 : Nat) : Int) := by rw [wrap_i64 (by omega) (by omega)]; rfl
          have w2 : IntKind.wrap .i64 ((i : Int) + 1) = ((i + 1 : Nat) : Int) := by rw [wrap_i64 (by omega) (by omega)]; rfl
          rw [w1, w2]
          unfold emptyK
          cases hA : (x.Kind == 35 && k.Kind == 42) with
          | true => simp
          | false =>
            cases hB : (x.Kind == 36 && k.Kind == 37) with
            | false => simp
            | true =>
              simp only [Bool.and_eq_true, beq_iff_eq] at hB
              obtain ⟨y, r', hL⟩ := may_case hm hB.2
              have h0 : getI (y :: r') 0 = some y := rfl
              rw [hL, h0]
              cases hy : y.Kind == 42 <;> simp [hy]
    simp only [mayL, kidsP]
    rw [List.getElem?_eq_getElem hlt]
    have hs := hstep _ (List.getElem?_eq_getElem hlt)
    simp only
    cases hq : (isP k ((((fx ++ ot)[min i ((fx ++ ot).length - 1)]).toNat : Nat) : Int) && mayN k) with
    | false =>
      refine loopN_out ?_
      rw [hs, hq]; rfl
    | true =>
      rw [hq] at hs
      simp only [if_true] at hs
      rw [List.length_cons, loopN_go hs, kids_loop g x fx ot hg hlen hf ho hls r (i + 1) _ h2 (by split <;> omega) (by omega), Bool.true_and]
theorem may_step (g : Rec_tree_may) (x : Node) (hb : bulkN x ≤ 2097152) (hg : ∀ k ∈ x.L, ∀ c : Int, g.tree_fits k c = some (isP k c && mayN k, ())) : tree_may_b g x = some (mayN x, ()) := by
  have e := bulkN_eq x
  have l1 := len_bulkL x.L
  have l2 := len_sum1 x.Names
  have l3 : ∀ s ∈ x.Names, s.length ≤ 1000000000 := fun s hs => by have := mem_sum1 hs; omega
  unfold tree_may_b
  rw [mayN_eq]
  unfold mayB formP
  obtain ⟨f, b, h1, h2⟩ := of_some x
  simp only [okForm, Bool.and_eq_true, decide_eq_true_eq] at h2
  obtain ⟨k1, k2, k3⟩ := h2
  rw [re25_eq, h1]
  cases b with
  | false => rfl
  | true =>
    simp only [Option.bind_some, Bool.not_true, Bool.false_eq_true, if_false, named_eq x f.name k1 (by omega) (by omega), units_Check_eq x.Text (by omega), slices_ContainsFunc_eq x.Names (by omega) l3, strings_Cut_eq f.l (by omega)]
    have d1 : decide (x.Num < 0) = !(decide (0 ≤ x.Num)) := by rw [← decide_not, decide_eq_decide]; omega
    have d2 : decide (x.Num > f.num) = !(decide (x.Num ≤ f.num)) := by rw [← decide_not, decide_eq_decide]; omega
    have d3 : decide (((x.Names.length : Nat) : Int) > 0) = !x.Names.isEmpty := by cases x.Names with
      | nil => rfl
      | cons a l => simp
    have d4 : decide (((x.L.length : Nat) : Int) < (((fixP f.l).length : Nat) : Int)) = !(decide ((fixP f.l).length ≤ x.L.length)) := by rw [← decide_not, decide_eq_decide]; omega
    have d5 : decide (((x.L.length : Nat) : Int) > (((fixP f.l).length : Nat) : Int)) = !(decide (x.L.length ≤ (fixP f.l).length)) := by rw [← decide_not, decide_eq_decide]; omega
    rw [d1, d2, d3, d4, d5]
    have hfx : (fixP f.l).length ≤ 1000 := by
      have : (fixP f.l).length ≤ f.l.length := List.IsPrefix.length_le (List.takeWhile_prefix _)
      omega
    have hot : (oftP f.l).length ≤ 1000 := by
      have : (oftP f.l).length ≤ f.l.length := by
        unfold oftP
        rw [List.length_drop]
        have := List.IsSuffix.length_le (List.dropWhile_suffix (l := f.l) (fun c : UInt8 => c != 42))
        omega
      omega
    have hloop : manyP x f.l = true → Lp.loop (tree_may_l1 g) (fixP f.l, oftP f.l, 0, x.L, ((x.L.length : Nat) : Int), 0, x, ()) = some (kidsP x (fixP f.l ++ oftP f.l) (mayL x.L) 0 0, ()) := fun hm => by
      refine loop_of (n := x.L.length + 1) ?_ (by omega)
      refine kids_loop g x _ _ hg (by omega) hfx hot (fun hne => ?_) x.L 0 0 rfl (Nat.le_refl _) (Nat.zero_le _)
      intro he
      obtain ⟨e1, e2⟩ := List.append_eq_nil_iff.1 he
      unfold manyP at hm
      rw [e1] at hm
      simp only [Bool.and_eq_true, Bool.or_eq_true, decide_eq_true_eq, List.length_nil] at hm
      rcases hm.2 with hm | hm
      · rw [e2, hm] at k3; simp at k3
      · exact hne (List.length_eq_zero_iff.1 (by omega))
    unfold selfP
    cases namedP x f.name with
    | false => rfl
    | true =>
      cases decide (0 ≤ x.Num) with
      | false => rfl
      | true =>
        cases decide (x.Num ≤ f.num) with
        | false => rfl
        | true =>
          cases evenP x.Text with
          | false => rfl
          | true =>
            cases ht : (x.Text == ([] : Str)) <;> cases f.text <;> cases x.Names.isEmpty <;> cases f.names <;> cases x.Names.all nameP <;> try rfl
            all_goals
              simp only [Bool.not_true, Bool.not_false, Bool.or_false, Bool.or_true, Bool.and_true, Bool.and_false, Bool.true_and, Bool.false_and, Bool.false_eq_true, if_false, Bool.false_or, Bool.true_or]
              cases hm : manyP x f.l with
              | true =>
                have hm' := hm
                unfold manyP at hm'
                simp only [Bool.and_eq_true] at hm'
                rw [hm'.1]
                have : (!f.l.contains 42 && !decide (x.L.length ≤ (fixP f.l).length)) = false := by
                  cases hc : f.l.contains 42 with
                  | true => rfl
                  | false => rw [hc] at hm'; simpa using hm'.2
                simp only [this, Bool.not_true, Bool.or_false, Bool.false_eq_true, if_false, hloop hm, Bool.true_and]
              | false =>
                unfold manyP at hm
                have : (!decide ((fixP f.l).length ≤ x.L.length) || (!f.l.contains 42 && !decide (x.L.length ≤ (fixP f.l).length))) = true := by
                  cases hc : decide ((fixP f.l).length ≤ x.L.length) with
                  | false => rfl
                  | true =>
                    rw [hc] at hm
                    cases hc2 : f.l.contains 42 with
                    | true => rw [hc2] at hm; simp at hm
                    | false => rw [hc2] at hm; simpa using hm
                simp only [this, if_true, Bool.false_and]
theorem may_n : ∀ (n : Nat) (x : Node), 2 * deepN x ≤ n → bulkN x ≤ 2097152 → (Rec_tree_may_g n).tree_may x = some (mayN x, ())
  | 0, x, h, _ => by have := deepN_eq x; omega
  | 1, x, h, _ => by have := deepN_eq x; omega
  | n + 2, x, h, hb => by
    have a1 := deepN_eq x; have a2 := bulkN_eq x
    show tree_may_b (Rec_tree_may_g (n + 1)) x = _
    refine may_step _ x hb fun k hk c => ?_
    show tree_fits_b (Rec_tree_may_g n) k c = _
    rw [fits_eq, fitsR]
    have hk2 := mem_bulkL hk
    have hk3 := mem_deepL hk
    rw [may_n n k (by omega) (by omega)]
    cases isP k c <;> simp
theorem tree_may_eq (x : Node) (hb : bulkN x ≤ 2097152) : tree_may x = some (mayN x, ()) :=
  may_n _ x (by have := deep_size x; have := size_bulk x; show 2 * deepN x ≤ 1000000000000; omega) hb
/-- whether it may be -/
def checkP (x : Node) : Int := if (x.Kind == 41 && mayN x) = true then (if deepN x > 64 then 31 else 0) else 70
theorem tree_Check_eq (x : Node) (hb : bulkN x ≤ 2097152) : tree_Check x = some (checkP x, ()) := by
  unfold tree_Check checkP
  have h1 := size_bulk x
  simp only [re25_eq, tree_may_eq x hb, tree_Deep_eq x (by omega), Option.bind_some]
  cases hk : x.Kind == 41 with
  | false =>
    have : (x.Kind != 41) = true := by unfold bne; rw [hk]; rfl
    simp [this]
  | true =>
    have : (x.Kind != 41) = false := by unfold bne; rw [hk]; rfl
    simp only [this, Bool.false_eq_true, if_false, Bool.true_and]
    cases mayN x with
    | false => rfl
    | true =>
      simp only [Bool.not_true, Bool.false_eq_true, if_false, if_true]
      by_cases hd : deepN x > 64
      · have : ((deepN x : Nat) : Int) > 64 := by omega
        simp [this, hd]
      · have : ¬ ((deepN x : Nat) : Int) > 64 := by omega
        simp [this, hd]
end Go.D07


/- Chapter 7, plainly: the document's answer for what a node has beside its nodes. -/
namespace Go.D07
open Go Go.Gw Go.Dn
set_option linter.unusedSimpArgs false
set_option maxRecDepth 100000

theorem rletter_fin : ∀ b : Fin 256, credenzaref06_letter ((b.val : Nat) : Int) = some (isLet (UInt8.ofNat b.val), ()) := by decide +kernel
theorem rdigit_fin : ∀ b : Fin 256, credenzaref06_digit ((b.val : Nat) : Int) = some (isDig (UInt8.ofNat b.val), ()) := by decide +kernel
theorem let_dig : ∀ b : Fin 256, (isLet (UInt8.ofNat b.val) && isDig (UInt8.ofNat b.val)) = false := by decide +kernel
theorem ref_letter_eq (c : UInt8) : credenzaref06_letter ((c.toNat : Nat) : Int) = some (isLet c, ()) := by
  obtain ⟨k, rfl⟩ := byteFin c
  have : (UInt8.ofNat k.val).toNat = k.val := by simp [Nat.mod_eq_of_lt k.isLt]
  rw [this]; exact rletter_fin k
theorem ref_digit_eq (c : UInt8) : credenzaref06_digit ((c.toNat : Nat) : Int) = some (isDig c, ()) := by
  obtain ⟨k, rfl⟩ := byteFin c
  have : (UInt8.ofNat k.val).toNat = k.val := by simp [Nat.mod_eq_of_lt k.isLt]
  rw [this]; exact rdigit_fin k
theorem ident_loop (s : Str) (hs : s.length ≤ 1000000000) : ∀ (r : Str) (i : Nat), s.drop i = r → loopN credenzaref06_IsIdent_l1 (r.length + 1) (s, (i : Int), ()) = some (r.all isLD, ())
  | [], i, hr => by
    have hi : ¬ ((i : Int) < (s.length : Int)) := by
      have := congrArg List.length hr; simp at this; omega
    refine loopN_out ?_
    simp only [credenzaref06_IsIdent_l1, hi, decide_false, Bool.false_eq_true, if_false, List.all_nil]
  | c :: r, i, hr => by
    obtain ⟨h1, h2, h3⟩ := getB_drop hr
    have hi : ((i : Int) < (s.length : Int)) := by omega
    have w : IntKind.wrap .i64 ((i : Int) + 1) = ((i + 1 : Nat) : Int) := by rw [wrap_i64 (by omega) (by omega)]; rfl
    have hL : isLD c = (isLet c || isDig c) := rfl
    have hstep : credenzaref06_IsIdent_l1 (s, (i : Int), ()) = if isLD c = true then some (.inl (s, ((i + 1 : Nat) : Int), ())) else some (.inr (false, ())) := by
      simp only [credenzaref06_IsIdent_l1, hi, decide_true, if_true, h1, Option.bind_some, ref_letter_eq, ref_digit_eq, hL, w]
      cases isLet c <;> cases isDig c <;> rfl
    rw [List.all_cons]
    cases hc : isLD c with
    | true =>
      rw [hc] at hstep
      rw [List.length_cons, loopN_go hstep, ident_loop s hs r (i + 1) h2, Bool.true_and]
    | false =>
      rw [hc] at hstep
      exact loopN_out hstep
theorem ref_IsIdent_eq (s : Str) (hs : s.length ≤ 1000000000) : credenzaref06_IsIdent s = some (identP s, ()) := by
  unfold credenzaref06_IsIdent
  cases s with
  | nil => rfl
  | cons c r =>
    have h0 : decide ((((c :: r).length : Nat) : Int) < 1) = false := by simp only [List.length_cons]; simpa using by omega
    have h1 : getB (c :: r) 0 = some ((c.toNat : Nat) : Int) := rfl
    have hl : Lp.loop credenzaref06_IsIdent_l1 (c :: r, 0, ()) = some ((c :: r).all isLD, ()) := loop_of (n := (c :: r).length + 1) (by simpa using ident_loop _ hs (c :: r) 0 rfl) (by omega)
    simp only [h0, Bool.false_or, h1, Option.bind_some, ref_digit_eq, hl, identP]
    by_cases hlen : (c :: r).length ≤ 32
    · have : ¬ (((c :: r).length : Nat) : Int) > 32 := by omega
      simp only [hlen, this, decide_true, decide_false, Bool.false_eq_true, if_false, Bool.true_and]
      cases hd : isDig c with
      | true =>
        cases hL : isLet c with
        | true => obtain ⟨k, rfl⟩ := byteFin c; have := let_dig k; rw [hd, hL] at this; simp at this
        | false => rfl
      | false =>
        simp only [Bool.false_eq_true, if_false]
        rw [List.all_cons]
        have : isLD c = isLet c := by unfold isLD; rw [hd, Bool.or_false]
        rw [this]
        cases isLet c <;> rfl
    · have : (((c :: r).length : Nat) : Int) > 32 := by omega
      simp only [hlen, this, decide_true, decide_false, if_true, Bool.false_and]
def wordL : List Str := [([98, 114, 101, 97, 107] : Str), ([99, 97, 115, 101] : Str), ([99, 97, 116, 99, 104] : Str), ([99, 108, 97, 115, 115] : Str), ([99, 111, 110, 115, 116] : Str), ([99, 111, 110, 116, 105, 110, 117, 101] : Str), ([100, 101, 98, 117, 103, 103, 101, 114] : Str), ([100, 101, 102, 97, 117, 108, 116] : Str), ([100, 101, 108, 101, 116, 101] : Str), ([100, 111] : Str), ([101, 108, 115, 101] : Str), ([101, 110, 117, 109] : Str), ([101, 120, 112, 111, 114, 116] : Str), ([101, 120, 116, 101, 110, 100, 115] : Str), ([102, 97, 108, 115, 101] : Str), ([102, 105, 110, 97, 108, 108, 121] : Str), ([102, 111, 114] : Str), ([102, 117, 110, 99, 116, 105, 111, 110] : Str), ([105, 102] : Str), ([105, 109, 112, 108, 101, 109, 101, 110, 116, 115] : Str), ([105, 109, 112, 111, 114, 116] : Str), ([105, 110] : Str), ([105, 110, 115, 116, 97, 110, 99, 101, 111, 102] : Str), ([105, 110, 116, 101, 114, 102, 97, 99, 101] : Str), ([108, 101, 116] : Str), ([110, 101, 119] : Str), ([110, 117, 108, 108] : Str), ([112, 97, 99, 107, 97, 103, 101] : Str), ([112, 114, 105, 118, 97, 116, 101] : Str), ([112, 114, 111, 116, 101, 99, 116, 101, 100] : Str), ([112, 117, 98, 108, 105, 99] : Str), ([114, 101, 116, 117, 114, 110] : Str), ([115, 116, 97, 116, 105, 99] : Str), ([115, 117, 112, 101, 114] : Str), ([115, 119, 105, 116, 99, 104] : Str), ([116, 104, 105, 115] : Str), ([116, 104, 114, 111, 119] : Str), ([116, 114, 117, 101] : Str), ([116, 114, 121] : Str), ([116, 121, 112, 101, 111, 102] : Str), ([118, 97, 114] : Str), ([118, 111, 105, 100] : Str), ([119, 104, 105, 108, 101] : Str), ([119, 105, 116, 104] : Str), ([121, 105, 101, 108, 100] : Str)]
theorem words_eq : wordsS = joined wordL := by decide +kernel
theorem words_ok : ∀ w ∈ wordL, w ≠ [] ∧ (32 : UInt8) ∉ w := by decide +kernel
theorem among_joined (ws : List Str) (h : ∀ w ∈ ws, w ≠ [] ∧ (32 : UInt8) ∉ w) (s : Str) : amongP (joined ws) s = ws.contains s := by
  unfold amongP
  by_cases h0 : s = []
  · subst h0
    have : ws.contains ([] : Str) = false := by
      cases hc : ws.contains ([] : Str) with
      | false => rfl
      | true => exact absurd rfl (h [] (by simpa using hc)).1
    rw [this]; rfl
  · have e0 : (s == ([] : Str)) = false := by rw [beq_eq_false_iff_ne]; exact h0
    rw [e0]
    by_cases h1 : (32 : UInt8) ∈ s
    · have e1 : s.contains 32 = true := by simpa using h1
      have : ws.contains s = false := by
        cases hc : ws.contains s with
        | false => rfl
        | true => exact absurd h1 (h s (by simpa using hc)).2
      rw [e1, this]; rfl
    · have e1 : s.contains 32 = false := by simpa using h1
      rw [e1, joined_contains s h1 ws fun w hw => (h w hw).2]
      rfl
theorem word_loop (s : Str) (l : List Str) (hl : l.length ≤ 1000) : ∀ (r : List Str) (i : Nat), l.drop i = r → loopN credenzaref06_IsWord_l1 (r.length + 1) (s, l, ((l.length : Nat) : Int), (i : Int), ()) = some (r.contains s, ())
  | [], i, hr => by
    have hi : ¬ ((i : Int) < (l.length : Int)) := by
      have := congrArg List.length hr; simp at this; omega
    refine loopN_out ?_
    simp only [credenzaref06_IsWord_l1, hi, decide_false, Bool.false_eq_true, if_false, List.contains_nil]
  | c :: r, i, hr => by
    obtain ⟨h1, h2, h3⟩ := getI_drop hr
    have hi : ((i : Int) < (l.length : Int)) := by omega
    have w : IntKind.wrap .i64 ((i : Int) + 1) = ((i + 1 : Nat) : Int) := by rw [wrap_i64 (by omega) (by omega)]; rfl
    rw [List.contains_cons]
    cases hc : s == c with
    | true =>
      refine loopN_out ?_
      simp only [credenzaref06_IsWord_l1, hi, decide_true, if_true, h1, Option.bind_some, hc, Bool.true_or]
    | false =>
      have hstep : credenzaref06_IsWord_l1 (s, l, ((l.length : Nat) : Int), (i : Int), ()) = some (.inl (s, l, ((l.length : Nat) : Int), ((i + 1 : Nat) : Int), ())) := by
        simp only [credenzaref06_IsWord_l1, hi, decide_true, if_true, h1, Option.bind_some, hc, Bool.false_eq_true, if_false, w]
      rw [List.length_cons, loopN_go hstep, word_loop s l hl r (i + 1) h2, Bool.false_or]
theorem ref_IsWord_eq (s : Str) : credenzaref06_IsWord s = some (wordP s, ()) := by
  have e : credenzaref06_words = some (wordL, ()) := rfl
  unfold credenzaref06_IsWord wordP
  rw [e, words_eq, among_joined _ words_ok]
  refine loop_of (n := wordL.length + 1) ?_ (by decide)
  exact word_loop s wordL (by decide) wordL 0 rfl
theorem ref_name_eq (s : Str) (hs : s.length ≤ 1000000000) : credenzaref07_name s = some (nameP s, ()) := by
  unfold credenzaref07_name nameP
  simp only [ref_IsIdent_eq s hs, ref_IsWord_eq s, Option.bind_some]
  cases identP s <;> rfl
theorem has_loop (s : Str) (l : List Str) (hl : l.length ≤ 1000) : ∀ (r : List Str) (i : Nat), l.drop i = r → loopN credenzaref07_has_l1 (r.length + 1) (s, l, ((l.length : Nat) : Int), (i : Int), ()) = some (r.contains s, ())
  | [], i, hr => by
    have hi : ¬ ((i : Int) < (l.length : Int)) := by
      have := congrArg List.length hr; simp at this; omega
    refine loopN_out ?_
    simp only [credenzaref07_has_l1, hi, decide_false, Bool.false_eq_true, if_false, List.contains_nil]
  | c :: r, i, hr => by
    obtain ⟨h1, h2, h3⟩ := getI_drop hr
    have hi : ((i : Int) < (l.length : Int)) := by omega
    have w : IntKind.wrap .i64 ((i : Int) + 1) = ((i + 1 : Nat) : Int) := by rw [wrap_i64 (by omega) (by omega)]; rfl
    rw [List.contains_cons]
    have hsym : (c == s) = (s == c) := by rw [Bool.eq_iff_iff, beq_iff_eq, beq_iff_eq]; exact eq_comm
    cases hc : s == c with
    | true =>
      refine loopN_out ?_
      simp only [credenzaref07_has_l1, hi, decide_true, if_true, h1, Option.bind_some, hsym, hc, Bool.true_or]
    | false =>
      have hstep : credenzaref07_has_l1 (s, l, ((l.length : Nat) : Int), (i : Int), ()) = some (.inl (s, l, ((l.length : Nat) : Int), ((i + 1 : Nat) : Int), ())) := by
        simp only [credenzaref07_has_l1, hi, decide_true, if_true, h1, Option.bind_some, hsym, hc, Bool.false_eq_true, if_false, w]
      rw [List.length_cons, loopN_go hstep, has_loop s l hl r (i + 1) h2, Bool.false_or]
theorem has_eq (l : List Str) (s : Str) (hl : l.length ≤ 1000) : credenzaref07_has l s = some (l.contains s, ()) := by
  refine loop_of (n := l.length + 1) ?_ (by omega)
  exact has_loop s l hl l 0 rfl
theorem ref01_Check_eq (s : Str) : credenzaref01_Check s = some (evenP s, ()) := by
  unfold credenzaref01_Check evenP
  have : Int.tmod ((s.length : Nat) : Int) 2 = ((s.length % 2 : Nat) : Int) := by rw [Int.tmod_eq_emod_of_nonneg (by omega)]; rfl
  simp only [this]
  congr 2
  rw [Bool.eq_iff_iff, beq_iff_eq, beq_iff_eq]
  omega
theorem own_loop (l : List Str) (hl : l.length ≤ 1000000000) (hs : ∀ s ∈ l, s.length ≤ 1000000000) : ∀ (r : List Str) (i : Nat), l.drop i = r → loopN credenzaref07_own_l2 (r.length + 1) (l, ((l.length : Nat) : Int), (i : Int), ()) = some (r.all nameP, ())
  | [], i, hr => by
    have hi : ¬ ((i : Int) < (l.length : Int)) := by
      have := congrArg List.length hr; simp at this; omega
    refine loopN_out ?_
    simp only [credenzaref07_own_l2, hi, decide_false, Bool.false_eq_true, if_false, List.all_nil]
  | c :: r, i, hr => by
    obtain ⟨h1, h2, h3⟩ := getI_drop hr
    have hi : ((i : Int) < (l.length : Int)) := by omega
    have hm : c ∈ l := List.mem_of_mem_drop (hr ▸ List.mem_cons_self)
    have w : IntKind.wrap .i64 ((i : Int) + 1) = ((i + 1 : Nat) : Int) := by rw [wrap_i64 (by omega) (by omega)]; rfl
    have hstep : credenzaref07_own_l2 (l, ((l.length : Nat) : Int), (i : Int), ()) = if nameP c = true then some (.inl (l, ((l.length : Nat) : Int), ((i + 1 : Nat) : Int), ())) else some (.inr (false, ())) := by
      simp only [credenzaref07_own_l2, hi, decide_true, if_true, h1, Option.bind_some, ref_name_eq c (hs c hm), w]
      cases nameP c <;> rfl
    rw [List.all_cons]
    cases hc : nameP c with
    | true =>
      rw [hc] at hstep
      rw [List.length_cons, loopN_go hstep, own_loop l hl hs r (i + 1) h2, Bool.true_and]
    | false =>
      rw [hc] at hstep
      exact loopN_out hstep
theorem own_names (l : List Str) (hl : l.length ≤ 1000000000) (hs : ∀ s ∈ l, s.length ≤ 1000000000) : Lp.loop credenzaref07_own_l2 (l, ((l.length : Nat) : Int), 0, ()) = some (l.all nameP, ()) := by
  refine loop_of (n := l.length + 1) ?_ (by omega)
  exact own_loop l hl hs l 0 rfl
end Go.D07


/- Chapter 7, plainly: forms by kind; what a node has beside, by the document. -/
namespace Go.D07
open Go Go.Gw Go.Dn
set_option linter.unusedSimpArgs false
set_option maxRecDepth 100000

def lv1 (l : List Node) : Str := match l with
  | [] => []
  | _ :: _ => [101]
def lv3 (l : List Node) : Str := match l with
  | _ :: _ :: _ :: _ => [101, 98, 98]
  | _ => [101, 98]
theorem lv1_eq (l : List Node) : cutL ([101] : Str) 0 (if 1 < ((l.length : Nat) : Int) then 1 else ((l.length : Nat) : Int)) = some (lv1 l) := by
  rw [cut_e (min_1 _).1 (min_1 _).2]
  cases l with
  | nil => rfl
  | cons a r =>
    have : (if 1 < (((a :: r).length : Nat) : Int) then (1 : Int) else (((a :: r).length : Nat) : Int)) = 1 := by simp only [List.length_cons]; split <;> omega
    rw [this]; rfl
theorem lv3_eq (l : List Node) : cutL ([101, 98, 98] : Str) 0 (let a := (if 2 > ((l.length : Nat) : Int) then 2 else ((l.length : Nat) : Int)); if 3 < a then 3 else a) = some (lv3 l) := by
  rw [cut_ebb (mid_3 _).1 (mid_3 _).2]
  match l with
  | [] => rfl
  | [_] => rfl
  | [_, _] => rfl
  | a :: b :: c :: r =>
    have : (let a' := (if 2 > (((a :: b :: c :: r).length : Nat) : Int) then (2 : Int) else (((a :: b :: c :: r).length : Nat) : Int)); if 3 < a' then 3 else a') = 3 := by simp only [List.length_cons]; split <;> split <;> omega
    rw [this]; rfl
theorem form_1 {x : Node} (h : x.Kind = 1) : formP x = some ⟨[], 9007199254740991, false, false, []⟩ := by
  simp [formP, tree_of, tree_statement, tree_of_j1, h, re25_eq, re46_eq]
theorem form_2 {x : Node} (h : x.Kind = 2) : formP x = some ⟨[], 0, true, false, []⟩ := by
  simp [formP, tree_of, tree_statement, tree_of_j1, h, re25_eq, re46_eq]
theorem form_3 {x : Node} (h : x.Kind = 3) : formP x = some ⟨[110], 0, false, false, []⟩ := by
  simp [formP, tree_of, tree_statement, tree_of_j1, h, re25_eq, re46_eq]
theorem form_4 {x : Node} (h : x.Kind = 4) : formP x = some ⟨[], 0, false, false, []⟩ := by
  simp [formP, tree_of, tree_statement, tree_of_j1, h, re25_eq, re46_eq]
theorem form_5 {x : Node} (h : x.Kind = 5) : formP x = some ⟨[], 0, false, false, []⟩ := by
  simp [formP, tree_of, tree_statement, tree_of_j1, h, re25_eq, re46_eq]
theorem form_6 {x : Node} (h : x.Kind = 6) : formP x = some ⟨[], 1, false, false, []⟩ := by
  simp [formP, tree_of, tree_statement, tree_of_j1, h, re25_eq, re46_eq]
theorem form_7 {x : Node} (h : x.Kind = 7) : formP x = some ⟨[], 0, false, false, [42, 101]⟩ := by
  simp [formP, tree_of, tree_statement, tree_of_j1, h, re25_eq, re46_eq]
theorem form_8 {x : Node} (h : x.Kind = 8) : formP x = some ⟨[], 0, false, false, [42, 112]⟩ := by
  simp [formP, tree_of, tree_statement, tree_of_j1, h, re25_eq, re46_eq]
theorem form_9 {x : Node} (h : x.Kind = 9) : formP x = some ⟨[], 0, true, false, [101]⟩ := by
  simp [formP, tree_of, tree_statement, tree_of_j1, h, re25_eq, re46_eq]
theorem form_10 {x : Node} (h : x.Kind = 10) : formP x = some ⟨[109], 0, false, true, [42, 120]⟩ := by
  simp [formP, tree_of, tree_statement, tree_of_j1, h, re25_eq, re46_eq]
theorem form_11 {x : Node} (h : x.Kind = 11) : formP x = some ⟨[105], 0, false, false, [101]⟩ := by
  simp [formP, tree_of, tree_statement, tree_of_j1, h, re25_eq, re46_eq]
theorem form_12 {x : Node} (h : x.Kind = 12) : formP x = some ⟨[], 0, false, false, [101, 101]⟩ := by
  simp [formP, tree_of, tree_statement, tree_of_j1, h, re25_eq, re46_eq]
theorem form_13 {x : Node} (h : x.Kind = 13) : formP x = some ⟨[], 0, false, false, [101, 42, 101]⟩ := by
  simp [formP, tree_of, tree_statement, tree_of_j1, h, re25_eq, re46_eq]
theorem form_14 {x : Node} (h : x.Kind = 14) : formP x = some ⟨[], 0, false, false, [101, 42, 101]⟩ := by
  simp [formP, tree_of, tree_statement, tree_of_j1, h, re25_eq, re46_eq]
theorem form_15 {x : Node} (h : x.Kind = 15) : formP x = some ⟨[32, 45, 32, 43, 32, 33, 32, 116, 121, 112, 101, 111, 102, 32, 100, 101, 108, 101, 116, 101, 32, 118, 111, 105, 100, 32], 0, false, false, [101]⟩ := by
  simp [formP, tree_of, tree_statement, tree_of_j1, h, re25_eq, re46_eq]
theorem form_16 {x : Node} (h : x.Kind = 16) : formP x = some ⟨[32, 43, 43, 32, 45, 45, 32], 1, false, false, [116]⟩ := by
  simp [formP, tree_of, tree_statement, tree_of_j1, h, re25_eq, re46_eq]
theorem form_17 {x : Node} (h : x.Kind = 17) : formP x = some ⟨[32, 43, 32, 45, 32, 42, 32, 47, 32, 37, 32, 60, 32, 62, 32, 60, 61, 32, 62, 61, 32, 61, 61, 32, 33, 61, 32, 61, 61, 61, 32, 33, 61, 61, 32, 105, 110, 32, 105, 110, 115, 116, 97, 110, 99, 101, 111, 102, 32], 0, false, false, [101, 101]⟩ := by
  simp [formP, tree_of, tree_statement, tree_of_j1, h, re25_eq, re46_eq]
theorem form_18 {x : Node} (h : x.Kind = 18) : formP x = some ⟨[32, 38, 38, 32, 124, 124, 32], 0, false, false, [101, 101]⟩ := by
  simp [formP, tree_of, tree_statement, tree_of_j1, h, re25_eq, re46_eq]
theorem form_19 {x : Node} (h : x.Kind = 19) : formP x = some ⟨[], 0, false, false, [101, 101, 101]⟩ := by
  simp [formP, tree_of, tree_statement, tree_of_j1, h, re25_eq, re46_eq]
theorem form_20 {x : Node} (h : x.Kind = 20) : formP x = some ⟨[32, 61, 32, 43, 61, 32, 45, 61, 32, 42, 61, 32, 47, 61, 32, 37, 61, 32], 0, false, false, [116, 101]⟩ := by
  simp [formP, tree_of, tree_statement, tree_of_j1, h, re25_eq, re46_eq]
theorem form_21 {x : Node} (h : x.Kind = 21) : formP x = some ⟨[], 0, false, false, [101, 101]⟩ := by
  simp [formP, tree_of, tree_statement, tree_of_j1, h, re25_eq, re46_eq]
theorem form_22 {x : Node} (h : x.Kind = 22) : formP x = some ⟨[], 0, false, false, [100, 42, 100]⟩ := by
  simp [formP, tree_of, tree_statement, tree_of_j1, h, re25_eq, re46_eq]
theorem form_23 {x : Node} (h : x.Kind = 23) : formP x = some ⟨[110], 0, false, false, lv1 x.L⟩ := by
  simp [formP, tree_of, tree_statement, tree_of_j1, h, re25_eq, re46_eq, lv1_eq]
theorem form_24 {x : Node} (h : x.Kind = 24) : formP x = some ⟨[], 0, false, false, [101]⟩ := by
  simp [formP, tree_of, tree_statement, tree_of_j1, h, re25_eq, re46_eq]
theorem form_25 {x : Node} (h : x.Kind = 25) : formP x = some ⟨[], 0, false, false, [42, 115]⟩ := by
  simp [formP, tree_of, tree_statement, tree_of_j1, h, re25_eq, re46_eq]
theorem form_26 {x : Node} (h : x.Kind = 26) : formP x = some ⟨[], 0, false, false, lv3 x.L⟩ := by
  have e := lv3_eq x.L
  simp only at e
  simp [formP, tree_of, tree_statement, h, re25_eq, re46_eq, e]
theorem form_27 {x : Node} (h : x.Kind = 27) : formP x = some ⟨[], 0, false, false, [101, 98]⟩ := by
  simp [formP, tree_of, tree_statement, tree_of_j1, h, re25_eq, re46_eq]
theorem form_28 {x : Node} (h : x.Kind = 28) : formP x = some ⟨[], 0, false, false, [98, 101]⟩ := by
  simp [formP, tree_of, tree_statement, tree_of_j1, h, re25_eq, re46_eq]
theorem form_29 {x : Node} (h : x.Kind = 29) : formP x = some ⟨[], 0, false, false, [118, 102, 102, 98]⟩ := by
  simp [formP, tree_of, tree_statement, tree_of_j1, h, re25_eq, re46_eq]
theorem form_30 {x : Node} (h : x.Kind = 30) : formP x = some ⟨[], 0, false, false, [119, 101, 98]⟩ := by
  simp [formP, tree_of, tree_statement, tree_of_j1, h, re25_eq, re46_eq]
theorem form_31 {x : Node} (h : x.Kind = 31) : formP x = some ⟨[109], 0, false, false, []⟩ := by
  simp [formP, tree_of, tree_statement, tree_of_j1, h, re25_eq, re46_eq]
theorem form_32 {x : Node} (h : x.Kind = 32) : formP x = some ⟨[109], 0, false, false, []⟩ := by
  simp [formP, tree_of, tree_statement, tree_of_j1, h, re25_eq, re46_eq]
theorem form_33 {x : Node} (h : x.Kind = 33) : formP x = some ⟨[], 0, false, false, lv1 x.L⟩ := by
  simp [formP, tree_of, tree_statement, tree_of_j1, h, re25_eq, re46_eq, lv1_eq]
theorem form_34 {x : Node} (h : x.Kind = 34) : formP x = some ⟨[], 0, false, false, [101]⟩ := by
  simp [formP, tree_of, tree_statement, tree_of_j1, h, re25_eq, re46_eq]
theorem form_35 {x : Node} (h : x.Kind = 35) : formP x = some ⟨[99], 0, false, false, [98, 99, 99]⟩ := by
  simp [formP, tree_of, tree_statement, tree_of_j1, h, re25_eq, re46_eq]
theorem form_36 {x : Node} (h : x.Kind = 36) : formP x = some ⟨[], 0, false, false, [101, 42, 107]⟩ := by
  simp [formP, tree_of, tree_statement, tree_of_j1, h, re25_eq, re46_eq]
theorem form_37 {x : Node} (h : x.Kind = 37) : formP x = some ⟨[], 0, false, false, [102, 42, 115]⟩ := by
  simp [formP, tree_of, tree_statement, tree_of_j1, h, re25_eq, re46_eq]
theorem form_38 {x : Node} (h : x.Kind = 38) : formP x = some ⟨[110], 0, false, false, [115]⟩ := by
  simp [formP, tree_of, tree_statement, tree_of_j1, h, re25_eq, re46_eq]
theorem form_39 {x : Node} (h : x.Kind = 39) : formP x = some ⟨[110], 0, false, true, [42, 120]⟩ := by
  simp [formP, tree_of, tree_statement, tree_of_j1, h, re25_eq, re46_eq]
theorem form_40 {x : Node} (h : x.Kind = 40) : formP x = some ⟨[], 0, false, false, []⟩ := by
  simp [formP, tree_of, tree_statement, tree_of_j1, h, re25_eq, re46_eq]
theorem form_41 {x : Node} (h : x.Kind = 41) : formP x = some ⟨[], 0, false, false, [42, 120]⟩ := by
  simp [formP, tree_of, tree_statement, tree_of_j1, h, re25_eq, re46_eq]
theorem form_42 {x : Node} (h : x.Kind = 42) : formP x = some ⟨[], 0, false, false, []⟩ := by
  simp [formP, tree_of, tree_statement, tree_of_j1, h, re25_eq, re46_eq]
theorem form_no {x : Node} (h : ¬ (1 ≤ x.Kind ∧ x.Kind ≤ 42)) : formP x = none := by
  have k1 : (x.Kind == 1) = false := by rw [beq_eq_false_iff_ne]; omega
  have k2 : (x.Kind == 2) = false := by rw [beq_eq_false_iff_ne]; omega
  have k3 : (x.Kind == 3) = false := by rw [beq_eq_false_iff_ne]; omega
  have k4 : (x.Kind == 4) = false := by rw [beq_eq_false_iff_ne]; omega
  have k5 : (x.Kind == 5) = false := by rw [beq_eq_false_iff_ne]; omega
  have k6 : (x.Kind == 6) = false := by rw [beq_eq_false_iff_ne]; omega
  have k7 : (x.Kind == 7) = false := by rw [beq_eq_false_iff_ne]; omega
  have k8 : (x.Kind == 8) = false := by rw [beq_eq_false_iff_ne]; omega
  have k9 : (x.Kind == 9) = false := by rw [beq_eq_false_iff_ne]; omega
  have k10 : (x.Kind == 10) = false := by rw [beq_eq_false_iff_ne]; omega
  have k11 : (x.Kind == 11) = false := by rw [beq_eq_false_iff_ne]; omega
  have k12 : (x.Kind == 12) = false := by rw [beq_eq_false_iff_ne]; omega
  have k13 : (x.Kind == 13) = false := by rw [beq_eq_false_iff_ne]; omega
  have k14 : (x.Kind == 14) = false := by rw [beq_eq_false_iff_ne]; omega
  have k15 : (x.Kind == 15) = false := by rw [beq_eq_false_iff_ne]; omega
  have k16 : (x.Kind == 16) = false := by rw [beq_eq_false_iff_ne]; omega
  have k17 : (x.Kind == 17) = false := by rw [beq_eq_false_iff_ne]; omega
  have k18 : (x.Kind == 18) = false := by rw [beq_eq_false_iff_ne]; omega
  have k19 : (x.Kind == 19) = false := by rw [beq_eq_false_iff_ne]; omega
  have k20 : (x.Kind == 20) = false := by rw [beq_eq_false_iff_ne]; omega
  have k21 : (x.Kind == 21) = false := by rw [beq_eq_false_iff_ne]; omega
  have k22 : (x.Kind == 22) = false := by rw [beq_eq_false_iff_ne]; omega
  have k23 : (x.Kind == 23) = false := by rw [beq_eq_false_iff_ne]; omega
  have k24 : (x.Kind == 24) = false := by rw [beq_eq_false_iff_ne]; omega
  have k25 : (x.Kind == 25) = false := by rw [beq_eq_false_iff_ne]; omega
  have k26 : (x.Kind == 26) = false := by rw [beq_eq_false_iff_ne]; omega
  have k27 : (x.Kind == 27) = false := by rw [beq_eq_false_iff_ne]; omega
  have k28 : (x.Kind == 28) = false := by rw [beq_eq_false_iff_ne]; omega
  have k29 : (x.Kind == 29) = false := by rw [beq_eq_false_iff_ne]; omega
  have k30 : (x.Kind == 30) = false := by rw [beq_eq_false_iff_ne]; omega
  have k31 : (x.Kind == 31) = false := by rw [beq_eq_false_iff_ne]; omega
  have k32 : (x.Kind == 32) = false := by rw [beq_eq_false_iff_ne]; omega
  have k33 : (x.Kind == 33) = false := by rw [beq_eq_false_iff_ne]; omega
  have k34 : (x.Kind == 34) = false := by rw [beq_eq_false_iff_ne]; omega
  have k35 : (x.Kind == 35) = false := by rw [beq_eq_false_iff_ne]; omega
  have k36 : (x.Kind == 36) = false := by rw [beq_eq_false_iff_ne]; omega
  have k37 : (x.Kind == 37) = false := by rw [beq_eq_false_iff_ne]; omega
  have k38 : (x.Kind == 38) = false := by rw [beq_eq_false_iff_ne]; omega
  have k39 : (x.Kind == 39) = false := by rw [beq_eq_false_iff_ne]; omega
  have k40 : (x.Kind == 40) = false := by rw [beq_eq_false_iff_ne]; omega
  have k41 : (x.Kind == 41) = false := by rw [beq_eq_false_iff_ne]; omega
  have k42 : (x.Kind == 42) = false := by rw [beq_eq_false_iff_ne]; omega
  simp only [formP, tree_of, tree_statement, tree_of_j1, re25_eq, re46_eq, Option.bind_some, Bool.false_eq_true, if_false, k1, k2, k3, k4, k5, k6, k7, k8, k9, k10, k11, k12, k13, k14, k15, k16, k17, k18, k19, k20, k21, k22, k23, k24, k25, k26, k27, k28, k29, k30, k31, k32, k33, k34, k35, k36, k37, k38, k39, k40, k41, k42]
def ops15 : List Str := [[45], [43], [33], [116, 121, 112, 101, 111, 102], [100, 101, 108, 101, 116, 101], [118, 111, 105, 100]]
theorem among_15 (s : Str) : amongP [32, 45, 32, 43, 32, 33, 32, 116, 121, 112, 101, 111, 102, 32, 100, 101, 108, 101, 116, 101, 32, 118, 111, 105, 100, 32] s = ops15.contains s := by
  rw [show ([32, 45, 32, 43, 32, 33, 32, 116, 121, 112, 101, 111, 102, 32, 100, 101, 108, 101, 116, 101, 32, 118, 111, 105, 100, 32] : Str) = joined ops15 by decide +kernel]
  exact among_joined _ (by decide +kernel) s
def ops16 : List Str := [[43, 43], [45, 45]]
theorem among_16 (s : Str) : amongP [32, 43, 43, 32, 45, 45, 32] s = ops16.contains s := by
  rw [show ([32, 43, 43, 32, 45, 45, 32] : Str) = joined ops16 by decide +kernel]
  exact among_joined _ (by decide +kernel) s
def ops17 : List Str := [[43], [45], [42], [47], [37], [60], [62], [60, 61], [62, 61], [61, 61], [33, 61], [61, 61, 61], [33, 61, 61], [105, 110], [105, 110, 115, 116, 97, 110, 99, 101, 111, 102]]
theorem among_17 (s : Str) : amongP [32, 43, 32, 45, 32, 42, 32, 47, 32, 37, 32, 60, 32, 62, 32, 60, 61, 32, 62, 61, 32, 61, 61, 32, 33, 61, 32, 61, 61, 61, 32, 33, 61, 61, 32, 105, 110, 32, 105, 110, 115, 116, 97, 110, 99, 101, 111, 102, 32] s = ops17.contains s := by
  rw [show ([32, 43, 32, 45, 32, 42, 32, 47, 32, 37, 32, 60, 32, 62, 32, 60, 61, 32, 62, 61, 32, 61, 61, 32, 33, 61, 32, 61, 61, 61, 32, 33, 61, 61, 32, 105, 110, 32, 105, 110, 115, 116, 97, 110, 99, 101, 111, 102, 32] : Str) = joined ops17 by decide +kernel]
  exact among_joined _ (by decide +kernel) s
def ops18 : List Str := [[38, 38], [124, 124]]
theorem among_18 (s : Str) : amongP [32, 38, 38, 32, 124, 124, 32] s = ops18.contains s := by
  rw [show ([32, 38, 38, 32, 124, 124, 32] : Str) = joined ops18 by decide +kernel]
  exact among_joined _ (by decide +kernel) s
def ops20 : List Str := [[61], [43, 61], [45, 61], [42, 61], [47, 61], [37, 61]]
theorem among_20 (s : Str) : amongP [32, 61, 32, 43, 61, 32, 45, 61, 32, 42, 61, 32, 47, 61, 32, 37, 61, 32] s = ops20.contains s := by
  rw [show ([32, 61, 32, 43, 61, 32, 45, 61, 32, 42, 61, 32, 47, 61, 32, 37, 61, 32] : Str) = joined ops20 by decide +kernel]
  exact among_joined _ (by decide +kernel) s
def rnamedP (x : Node) : Bool :=
  if ((x.Kind == 3 || x.Kind == 23) || (x.Kind == 38 || x.Kind == 39)) = true then nameP x.Name
  else if ((x.Kind == 10 || x.Kind == 31) || x.Kind == 32) = true then x.Name == ([] : Str) || nameP x.Name
  else if (x.Kind == 11) = true then identP x.Name
  else if (x.Kind == 35) = true then (if (match x.L with | [_, y, _] => y.Kind == 25 | _ => false) = true then nameP x.Name else x.Name == ([] : Str))
  else if (x.Kind == 15) = true then ops15.contains x.Name
  else if (x.Kind == 16) = true then ops16.contains x.Name
  else if (x.Kind == 17) = true then ops17.contains x.Name
  else if (x.Kind == 18) = true then ops18.contains x.Name
  else if (x.Kind == 20) = true then ops20.contains x.Name
  else x.Name == ([] : Str)
def numP (x : Node) : Bool :=
  if (x.Kind == 1) = true then decide (0 ≤ x.Num) && decide (x.Num ≤ 9007199254740991)
  else if (x.Kind == 6 || x.Kind == 16) = true then x.Num == 0 || x.Num == 1
  else x.Num == 0
def ownP (x : Node) : Bool := (rnamedP x && (x.Text == ([] : Str) || (x.Kind == 2 || x.Kind == 9))) && (evenP x.Text && (numP x && ((x.Names.isEmpty || (x.Kind == 10 || x.Kind == 39)) && x.Names.all nameP)))
theorem rnamed_eq (x : Node) (hn : x.Name.length ≤ 1000000000) : credenzaref07_named x = some (rnamedP x, ()) := by
  have o15 : credenzaref07_operator 15 x.Name = some (ops15.contains x.Name, ()) := by
    show Option.bind (credenzaref07_has ops15 x.Name) _ = _
    rw [has_eq _ _ (by decide)]; rfl
  have o17 : credenzaref07_operator 17 x.Name = some (ops17.contains x.Name, ()) := by
    show Option.bind (credenzaref07_has ops17 x.Name) _ = _
    rw [has_eq _ _ (by decide)]; rfl
  have o20 : credenzaref07_operator 20 x.Name = some (ops20.contains x.Name, ()) := by
    show Option.bind (credenzaref07_has ops20 x.Name) _ = _
    rw [has_eq _ _ (by decide)]; rfl
  have o16 : credenzaref07_operator 16 x.Name = some (ops16.contains x.Name, ()) := by
    unfold credenzaref07_operator
    simp only [ops16, List.contains_cons, List.contains_nil, Bool.or_false]
    rfl
  have o18 : credenzaref07_operator 18 x.Name = some (ops18.contains x.Name, ()) := by
    unfold credenzaref07_operator
    simp only [ops18, List.contains_cons, List.contains_nil, Bool.or_false]
    rfl
  unfold credenzaref07_named rnamedP
  simp only [ref_name_eq _ hn, ref_IsIdent_eq _ hn, Option.bind_some]
  by_cases h3 : x.Kind = 3
  · rw [h3]; rfl
  by_cases h23 : x.Kind = 23
  · rw [h23]; rfl
  by_cases h38 : x.Kind = 38
  · rw [h38]; rfl
  by_cases h39 : x.Kind = 39
  · rw [h39]; rfl
  by_cases h10 : x.Kind = 10
  · rw [h10]; cases x.Name == ([] : Str) <;> rfl
  by_cases h31 : x.Kind = 31
  · rw [h31]; cases x.Name == ([] : Str) <;> rfl
  by_cases h32 : x.Kind = 32
  · rw [h32]; cases x.Name == ([] : Str) <;> rfl
  by_cases h11 : x.Kind = 11
  · rw [h11]; rfl
  by_cases h35 : x.Kind = 35
  · rw [h35]
    obtain ⟨l, hL⟩ : ∃ l, x.L = l := ⟨_, rfl⟩
    simp only [hL]
    rcases l with _ | ⟨a, _ | ⟨b, _ | ⟨c, _ | ⟨d, r⟩⟩⟩⟩
    · simp
    · simp
    · simp
    · have : getI ([a, b, c] : List Node) 1 = some b := rfl
      simp only [this]
      rcases Bool.eq_false_or_eq_true (b.Kind == 25) with hb | hb <;> simp [hb]
    · have : ((((r.length + 1 + 1 + 1 + 1 : Nat)) : Int) == 3) = false := by rw [beq_eq_false_iff_ne]; omega
      simp only [List.length_cons, this]
      simp
  by_cases h15 : x.Kind = 15
  · rw [h15, o15]; rfl
  by_cases h16 : x.Kind = 16
  · rw [h16, o16]; rfl
  by_cases h17 : x.Kind = 17
  · rw [h17, o17]; rfl
  by_cases h18 : x.Kind = 18
  · rw [h18, o18]; rfl
  by_cases h20 : x.Kind = 20
  · rw [h20, o20]; rfl
  have k3 : (x.Kind == 3) = false := by rw [beq_eq_false_iff_ne]; exact h3
  have k23 : (x.Kind == 23) = false := by rw [beq_eq_false_iff_ne]; exact h23
  have k38 : (x.Kind == 38) = false := by rw [beq_eq_false_iff_ne]; exact h38
  have k39 : (x.Kind == 39) = false := by rw [beq_eq_false_iff_ne]; exact h39
  have k10 : (x.Kind == 10) = false := by rw [beq_eq_false_iff_ne]; exact h10
  have k31 : (x.Kind == 31) = false := by rw [beq_eq_false_iff_ne]; exact h31
  have k32 : (x.Kind == 32) = false := by rw [beq_eq_false_iff_ne]; exact h32
  have k11 : (x.Kind == 11) = false := by rw [beq_eq_false_iff_ne]; exact h11
  have k35 : (x.Kind == 35) = false := by rw [beq_eq_false_iff_ne]; exact h35
  have k15 : (x.Kind == 15) = false := by rw [beq_eq_false_iff_ne]; exact h15
  have k16 : (x.Kind == 16) = false := by rw [beq_eq_false_iff_ne]; exact h16
  have k17 : (x.Kind == 17) = false := by rw [beq_eq_false_iff_ne]; exact h17
  have k18 : (x.Kind == 18) = false := by rw [beq_eq_false_iff_ne]; exact h18
  have k20 : (x.Kind == 20) = false := by rw [beq_eq_false_iff_ne]; exact h20
  simp only [k3, k23, k38, k39, k10, k31, k32, k11, k35, k15, k16, k17, k18, k20, Bool.false_eq_true, if_false, Bool.or_self]
theorem own_eq (x : Node) (hb : bulkN x ≤ 2097152) : credenzaref07_own x = some (ownP x, ()) := by
  have e := bulkN_eq x
  have l2 := len_sum1 x.Names
  have l3 : ∀ s ∈ x.Names, s.length ≤ 1000000000 := fun s hs => by have := mem_sum1 hs; omega
  unfold credenzaref07_own ownP credenzaref07_own_j1 numP
  simp only [re25_eq, rnamed_eq x (by omega), ref01_Check_eq, Option.bind_some, own_names x.Names (by omega) l3]
  have d3 : decide (((x.Names.length : Nat) : Int) > 0) = !x.Names.isEmpty := by cases x.Names with
    | nil => rfl
    | cons a l => simp
  have d1 : decide (x.Num < 0) = !(decide (0 ≤ x.Num)) := by rw [← decide_not, decide_eq_decide]; omega
  have d2 : decide (x.Num > 9007199254740991) = !(decide (x.Num ≤ 9007199254740991)) := by rw [← decide_not, decide_eq_decide]; omega
  rw [d3, d1, d2]
  unfold bne
  generalize rnamedP x = a1
  generalize (x.Text == ([] : Str)) = a2
  generalize evenP x.Text = a3
  generalize x.Names.isEmpty = a4
  generalize x.Names.all nameP = a5
  generalize decide (0 ≤ x.Num) = a6
  generalize decide (x.Num ≤ 9007199254740991) = a7
  generalize (x.Num == 0) = a8
  generalize (x.Num == 1) = a9
  generalize (x.Kind == 2) = b2
  generalize (x.Kind == 9) = b9
  generalize (x.Kind == 10) = b10
  generalize (x.Kind == 39) = b39
  generalize (x.Kind == 1) = b1
  generalize (x.Kind == 6) = b6
  generalize (x.Kind == 16) = b16
  cases a1 <;> cases a2 <;> cases b2 <;> cases b9 <;> cases a3 <;> try rfl
  all_goals cases b1 <;> cases a4 <;> cases b10 <;> cases b39 <;> try rfl
  all_goals first | (cases a6 <;> cases a7 <;> rfl) | (cases b6 <;> cases b16 <;> cases a8 <;> cases a9 <;> rfl)
end Go.D07


/- Chapter 7, plainly: a node that may be, by kind. -/
namespace Go.D07
open Go Go.Gw Go.Dn
set_option linter.unusedSimpArgs false
set_option maxRecDepth 100000

def oneP (y : Node) (c : UInt8) : Bool := isP y ((c.toNat : Nat) : Int) && mayN y
def matchS : Str → Option UInt8 → List Node → Bool
  | [], some c, l => l.all fun y => oneP y c
  | [], none, l => l.isEmpty
  | c :: cs, m, y :: ys => oneP y c && matchS cs m ys
  | _ :: _, _, [] => false
theorem matchS_len : ∀ (cs : Str) (m : Option UInt8) (l : List Node), matchS cs m l = true → cs.length ≤ l.length ∧ (m.isSome = true ∨ l.length ≤ cs.length)
  | [], some c, l, _ => ⟨Nat.zero_le _, .inl rfl⟩
  | [], none, l, h => by
    cases l with
    | nil => exact ⟨Nat.le_refl _, .inr (Nat.le_refl _)⟩
    | cons a r => cases h
  | c :: cs, m, y :: ys, h => by
    simp only [matchS, Bool.and_eq_true] at h
    obtain ⟨h1, h2⟩ := matchS_len cs m ys h.2
    exact ⟨by simp only [List.length_cons]; omega, h2.imp id fun h => by simp only [List.length_cons]; omega⟩
  | _ :: _, _, [], h => by cases h
def tailS (m : Option UInt8) : Str := match m with
  | some c => [c]
  | none => []
theorem kids_star (x : Node) (ls : Str) (c : UInt8) (hc : ls[ls.length - 1]? = some c) (hx : ∀ k, emptyK x k = false) (e : Nat) (he : e < 2) : ∀ (r : List Node) (i : Nat), ls.length - 1 ≤ i → kidsP x ls (mayL r) i e = r.all fun y => oneP y c
  | [], i, hi => by simp [mayL, kidsP, he]
  | k :: r, i, hi => by
    simp only [mayL, kidsP, List.all_cons]
    rw [show min i (ls.length - 1) = ls.length - 1 by omega, hc]
    simp only [hx k, Bool.false_eq_true, if_false, kids_star x ls c hc hx e he r (i + 1) (by omega), oneP]
theorem kids_match (x : Node) (m : Option UInt8) (hx : ∀ k, emptyK x k = false) : ∀ (cs pre : Str) (l : List Node), cs.length ≤ l.length → (m.isSome = true ∨ l.length ≤ cs.length) → kidsP x (pre ++ (cs ++ tailS m)) (mayL l) pre.length 0 = matchS cs m l
  | [], pre, l, h1, h2 => by
    cases m with
    | none =>
      have : l = [] := List.length_eq_zero_iff.1 (by
        rcases h2 with h2 | h2
        · cases h2
        · simpa using h2)
      subst this
      rfl
    | some c =>
      simp only [matchS, List.nil_append, tailS]
      exact kids_star x _ c (by simp) hx 0 (by omega) l pre.length (by simp)
  | c :: cs, pre, [], h1, h2 => by simp at h1
  | c :: cs, pre, y :: ys, h1, h2 => by
    simp only [mayL, kidsP, matchS]
    have hlt : min pre.length ((pre ++ (c :: cs ++ tailS m)).length - 1) = pre.length := by simp only [List.length_append, List.length_cons]; omega
    rw [hlt]
    have : (pre ++ (c :: cs ++ tailS m))[pre.length]? = some c := by simp
    rw [this]
    simp only [hx y, Bool.false_eq_true, if_false]
    have ih := kids_match x m hx cs (pre ++ [c]) ys (by simpa using h1) (h2.imp id fun h => by simpa using h)
    rw [show (pre ++ [c]) ++ (cs ++ tailS m) = pre ++ (c :: cs ++ tailS m) by simp] at ih
    rw [List.length_append, List.length_singleton] at ih
    rw [ih]
    rfl
theorem may_of {x : Node} {f : Form} (fx : Str) (m : Option UInt8) (hf : formP x = some f) (hs : selfP x f = ownP x) (h1 : fixP f.l = fx) (h2 : oftP f.l = tailS m) (h3 : f.l.contains 42 = m.isSome) (h35 : x.Kind ≠ 35) (h36 : x.Kind ≠ 36) : mayN x = (ownP x && matchS fx m x.L) := by
  have hx : ∀ k, emptyK x k = false := fun k => by
    have e1 : (x.Kind == 35) = false := by rw [beq_eq_false_iff_ne]; exact h35
    have e2 : (x.Kind == 36) = false := by rw [beq_eq_false_iff_ne]; exact h36
    simp [emptyK, e1, e2]
  rw [mayN_eq]
  unfold mayB
  rw [hf]
  simp only
  rw [hs, h1, h2]
  cases ownP x with
  | false => rfl
  | true =>
    simp only [Bool.true_and]
    unfold manyP
    rw [h1, h3]
    by_cases hl : fx.length ≤ x.L.length ∧ (m.isSome = true ∨ x.L.length ≤ fx.length)
    · have := kids_match x m hx fx [] x.L hl.1 hl.2
      simp only [List.nil_append, List.length_nil] at this
      rw [this]
      have e : (decide (fx.length ≤ x.L.length) && (m.isSome || decide (x.L.length ≤ fx.length))) = true := by
        simp only [Bool.and_eq_true, Bool.or_eq_true, decide_eq_true_eq]; exact hl
      rw [e, Bool.true_and]
    · have e : (decide (fx.length ≤ x.L.length) && (m.isSome || decide (x.L.length ≤ fx.length))) = false := by
        rw [Bool.eq_false_iff]
        intro h
        simp only [Bool.and_eq_true, Bool.or_eq_true, decide_eq_true_eq] at h
        exact hl h
      rw [e, Bool.false_and]
      symm
      rw [Bool.eq_false_iff]
      intro h
      exact hl (matchS_len _ _ _ h)
theorem self_of {x : Node} {f : Form} (hn : namedP x f.name = rnamedP x) (hm : (decide (0 ≤ x.Num) && decide (x.Num ≤ f.num)) = numP x) (ht : f.text = (x.Kind == 2 || x.Kind == 9)) (hs : f.names = (x.Kind == 10 || x.Kind == 39)) : selfP x f = ownP x := by
  unfold selfP ownP
  rw [hn, hm, ht, hs]
  generalize rnamedP x = a1
  generalize numP x = a2
  generalize evenP x.Text = a3
  generalize (x.Text == ([] : Str)) = a4
  generalize (x.Kind == 2 || x.Kind == 9) = a5
  generalize x.Names.isEmpty = a6
  generalize (x.Kind == 10 || x.Kind == 39) = a7
  generalize x.Names.all nameP = a8
  cases a1 <;> cases a2 <;> cases a3 <;> cases a4 <;> cases a5 <;> cases a6 <;> cases a7 <;> cases a8 <;> rfl
theorem num0 (n : Int) : (decide (0 ≤ n) && decide (n ≤ 0)) = (n == 0) := by
  rw [Bool.eq_iff_iff]; simp only [Bool.and_eq_true, decide_eq_true_eq, beq_iff_eq]; omega
theorem num1 (n : Int) : (decide (0 ≤ n) && decide (n ≤ 1)) = (n == 0 || n == 1) := by
  rw [Bool.eq_iff_iff]; simp only [Bool.and_eq_true, Bool.or_eq_true, decide_eq_true_eq, beq_iff_eq]; omega

theorem may_1 {x : Node} (h : x.Kind = 1) : mayN x = (ownP x && matchS [] none x.L) :=
  may_of [] none (form_1 h) (self_of (by simp [namedP, rnamedP, h]) (by simp [numP, h]) (by rw [h]; rfl) (by rw [h]; rfl)) (rfl) (rfl) (rfl) (by omega) (by omega)
theorem may_2 {x : Node} (h : x.Kind = 2) : mayN x = (ownP x && matchS [] none x.L) :=
  may_of [] none (form_2 h) (self_of (by simp [namedP, rnamedP, h]) (by rw [num0]; simp [numP, h]) (by rw [h]; rfl) (by rw [h]; rfl)) (rfl) (rfl) (rfl) (by omega) (by omega)
theorem may_3 {x : Node} (h : x.Kind = 3) : mayN x = (ownP x && matchS [] none x.L) :=
  may_of [] none (form_3 h) (self_of (by simp [namedP, rnamedP, h]) (by rw [num0]; simp [numP, h]) (by rw [h]; rfl) (by rw [h]; rfl)) (rfl) (rfl) (rfl) (by omega) (by omega)
theorem may_4 {x : Node} (h : x.Kind = 4) : mayN x = (ownP x && matchS [] none x.L) :=
  may_of [] none (form_4 h) (self_of (by simp [namedP, rnamedP, h]) (by rw [num0]; simp [numP, h]) (by rw [h]; rfl) (by rw [h]; rfl)) (rfl) (rfl) (rfl) (by omega) (by omega)
theorem may_5 {x : Node} (h : x.Kind = 5) : mayN x = (ownP x && matchS [] none x.L) :=
  may_of [] none (form_5 h) (self_of (by simp [namedP, rnamedP, h]) (by rw [num0]; simp [numP, h]) (by rw [h]; rfl) (by rw [h]; rfl)) (rfl) (rfl) (rfl) (by omega) (by omega)
theorem may_6 {x : Node} (h : x.Kind = 6) : mayN x = (ownP x && matchS [] none x.L) :=
  may_of [] none (form_6 h) (self_of (by simp [namedP, rnamedP, h]) (by rw [num1]; simp [numP, h]) (by rw [h]; rfl) (by rw [h]; rfl)) (rfl) (rfl) (rfl) (by omega) (by omega)
theorem may_7 {x : Node} (h : x.Kind = 7) : mayN x = (ownP x && matchS [] (some 101) x.L) :=
  may_of [] (some 101) (form_7 h) (self_of (by simp [namedP, rnamedP, h]) (by rw [num0]; simp [numP, h]) (by rw [h]; rfl) (by rw [h]; rfl)) (rfl) (rfl) (rfl) (by omega) (by omega)
theorem may_8 {x : Node} (h : x.Kind = 8) : mayN x = (ownP x && matchS [] (some 112) x.L) :=
  may_of [] (some 112) (form_8 h) (self_of (by simp [namedP, rnamedP, h]) (by rw [num0]; simp [numP, h]) (by rw [h]; rfl) (by rw [h]; rfl)) (rfl) (rfl) (rfl) (by omega) (by omega)
theorem may_9 {x : Node} (h : x.Kind = 9) : mayN x = (ownP x && matchS [101] none x.L) :=
  may_of [101] none (form_9 h) (self_of (by simp [namedP, rnamedP, h]) (by rw [num0]; simp [numP, h]) (by rw [h]; rfl) (by rw [h]; rfl)) (rfl) (rfl) (rfl) (by omega) (by omega)
theorem may_10 {x : Node} (h : x.Kind = 10) : mayN x = (ownP x && matchS [] (some 120) x.L) :=
  may_of [] (some 120) (form_10 h) (self_of (by simp [namedP, rnamedP, h]) (by rw [num0]; simp [numP, h]) (by rw [h]; rfl) (by rw [h]; rfl)) (rfl) (rfl) (rfl) (by omega) (by omega)
theorem may_11 {x : Node} (h : x.Kind = 11) : mayN x = (ownP x && matchS [101] none x.L) :=
  may_of [101] none (form_11 h) (self_of (by simp [namedP, rnamedP, h]) (by rw [num0]; simp [numP, h]) (by rw [h]; rfl) (by rw [h]; rfl)) (rfl) (rfl) (rfl) (by omega) (by omega)
theorem may_12 {x : Node} (h : x.Kind = 12) : mayN x = (ownP x && matchS [101, 101] none x.L) :=
  may_of [101, 101] none (form_12 h) (self_of (by simp [namedP, rnamedP, h]) (by rw [num0]; simp [numP, h]) (by rw [h]; rfl) (by rw [h]; rfl)) (rfl) (rfl) (rfl) (by omega) (by omega)
theorem may_13 {x : Node} (h : x.Kind = 13) : mayN x = (ownP x && matchS [101] (some 101) x.L) :=
  may_of [101] (some 101) (form_13 h) (self_of (by simp [namedP, rnamedP, h]) (by rw [num0]; simp [numP, h]) (by rw [h]; rfl) (by rw [h]; rfl)) (rfl) (rfl) (rfl) (by omega) (by omega)
theorem may_14 {x : Node} (h : x.Kind = 14) : mayN x = (ownP x && matchS [101] (some 101) x.L) :=
  may_of [101] (some 101) (form_14 h) (self_of (by simp [namedP, rnamedP, h]) (by rw [num0]; simp [numP, h]) (by rw [h]; rfl) (by rw [h]; rfl)) (rfl) (rfl) (rfl) (by omega) (by omega)
theorem may_15 {x : Node} (h : x.Kind = 15) : mayN x = (ownP x && matchS [101] none x.L) :=
  may_of [101] none (form_15 h) (self_of (by simp [namedP, rnamedP, h, among_15]) (by rw [num0]; simp [numP, h]) (by rw [h]; rfl) (by rw [h]; rfl)) (rfl) (rfl) (rfl) (by omega) (by omega)
theorem may_16 {x : Node} (h : x.Kind = 16) : mayN x = (ownP x && matchS [116] none x.L) :=
  may_of [116] none (form_16 h) (self_of (by simp [namedP, rnamedP, h, among_16]) (by rw [num1]; simp [numP, h]) (by rw [h]; rfl) (by rw [h]; rfl)) (rfl) (rfl) (rfl) (by omega) (by omega)
theorem may_17 {x : Node} (h : x.Kind = 17) : mayN x = (ownP x && matchS [101, 101] none x.L) :=
  may_of [101, 101] none (form_17 h) (self_of (by simp [namedP, rnamedP, h, among_17]) (by rw [num0]; simp [numP, h]) (by rw [h]; rfl) (by rw [h]; rfl)) (rfl) (rfl) (rfl) (by omega) (by omega)
theorem may_18 {x : Node} (h : x.Kind = 18) : mayN x = (ownP x && matchS [101, 101] none x.L) :=
  may_of [101, 101] none (form_18 h) (self_of (by simp [namedP, rnamedP, h, among_18]) (by rw [num0]; simp [numP, h]) (by rw [h]; rfl) (by rw [h]; rfl)) (rfl) (rfl) (rfl) (by omega) (by omega)
theorem may_19 {x : Node} (h : x.Kind = 19) : mayN x = (ownP x && matchS [101, 101, 101] none x.L) :=
  may_of [101, 101, 101] none (form_19 h) (self_of (by simp [namedP, rnamedP, h]) (by rw [num0]; simp [numP, h]) (by rw [h]; rfl) (by rw [h]; rfl)) (rfl) (rfl) (rfl) (by omega) (by omega)
theorem may_20 {x : Node} (h : x.Kind = 20) : mayN x = (ownP x && matchS [116, 101] none x.L) :=
  may_of [116, 101] none (form_20 h) (self_of (by simp [namedP, rnamedP, h, among_20]) (by rw [num0]; simp [numP, h]) (by rw [h]; rfl) (by rw [h]; rfl)) (rfl) (rfl) (rfl) (by omega) (by omega)
theorem may_21 {x : Node} (h : x.Kind = 21) : mayN x = (ownP x && matchS [101, 101] none x.L) :=
  may_of [101, 101] none (form_21 h) (self_of (by simp [namedP, rnamedP, h]) (by rw [num0]; simp [numP, h]) (by rw [h]; rfl) (by rw [h]; rfl)) (rfl) (rfl) (rfl) (by omega) (by omega)
theorem may_22 {x : Node} (h : x.Kind = 22) : mayN x = (ownP x && matchS [100] (some 100) x.L) :=
  may_of [100] (some 100) (form_22 h) (self_of (by simp [namedP, rnamedP, h]) (by rw [num0]; simp [numP, h]) (by rw [h]; rfl) (by rw [h]; rfl)) (rfl) (rfl) (rfl) (by omega) (by omega)
theorem may_23 {x : Node} (h : x.Kind = 23) : mayN x = (ownP x && matchS (lv1 x.L) none x.L) :=
  may_of (lv1 x.L) none (form_23 h) (self_of (by simp [namedP, rnamedP, h]) (by rw [num0]; simp [numP, h]) (by rw [h]; rfl) (by rw [h]; rfl)) (by rcases x.L with _ | ⟨a, _ | ⟨b, _ | ⟨c, r⟩⟩⟩ <;> rfl) (by rcases x.L with _ | ⟨a, _ | ⟨b, _ | ⟨c, r⟩⟩⟩ <;> rfl) (by rcases x.L with _ | ⟨a, _ | ⟨b, _ | ⟨c, r⟩⟩⟩ <;> rfl) (by omega) (by omega)
theorem may_24 {x : Node} (h : x.Kind = 24) : mayN x = (ownP x && matchS [101] none x.L) :=
  may_of [101] none (form_24 h) (self_of (by simp [namedP, rnamedP, h]) (by rw [num0]; simp [numP, h]) (by rw [h]; rfl) (by rw [h]; rfl)) (rfl) (rfl) (rfl) (by omega) (by omega)
theorem may_25 {x : Node} (h : x.Kind = 25) : mayN x = (ownP x && matchS [] (some 115) x.L) :=
  may_of [] (some 115) (form_25 h) (self_of (by simp [namedP, rnamedP, h]) (by rw [num0]; simp [numP, h]) (by rw [h]; rfl) (by rw [h]; rfl)) (rfl) (rfl) (rfl) (by omega) (by omega)
theorem may_26 {x : Node} (h : x.Kind = 26) : mayN x = (ownP x && matchS (lv3 x.L) none x.L) :=
  may_of (lv3 x.L) none (form_26 h) (self_of (by simp [namedP, rnamedP, h]) (by rw [num0]; simp [numP, h]) (by rw [h]; rfl) (by rw [h]; rfl)) (by rcases x.L with _ | ⟨a, _ | ⟨b, _ | ⟨c, r⟩⟩⟩ <;> rfl) (by rcases x.L with _ | ⟨a, _ | ⟨b, _ | ⟨c, r⟩⟩⟩ <;> rfl) (by rcases x.L with _ | ⟨a, _ | ⟨b, _ | ⟨c, r⟩⟩⟩ <;> rfl) (by omega) (by omega)
theorem may_27 {x : Node} (h : x.Kind = 27) : mayN x = (ownP x && matchS [101, 98] none x.L) :=
  may_of [101, 98] none (form_27 h) (self_of (by simp [namedP, rnamedP, h]) (by rw [num0]; simp [numP, h]) (by rw [h]; rfl) (by rw [h]; rfl)) (rfl) (rfl) (rfl) (by omega) (by omega)
theorem may_28 {x : Node} (h : x.Kind = 28) : mayN x = (ownP x && matchS [98, 101] none x.L) :=
  may_of [98, 101] none (form_28 h) (self_of (by simp [namedP, rnamedP, h]) (by rw [num0]; simp [numP, h]) (by rw [h]; rfl) (by rw [h]; rfl)) (rfl) (rfl) (rfl) (by omega) (by omega)
theorem may_29 {x : Node} (h : x.Kind = 29) : mayN x = (ownP x && matchS [118, 102, 102, 98] none x.L) :=
  may_of [118, 102, 102, 98] none (form_29 h) (self_of (by simp [namedP, rnamedP, h]) (by rw [num0]; simp [numP, h]) (by rw [h]; rfl) (by rw [h]; rfl)) (rfl) (rfl) (rfl) (by omega) (by omega)
theorem may_30 {x : Node} (h : x.Kind = 30) : mayN x = (ownP x && matchS [119, 101, 98] none x.L) :=
  may_of [119, 101, 98] none (form_30 h) (self_of (by simp [namedP, rnamedP, h]) (by rw [num0]; simp [numP, h]) (by rw [h]; rfl) (by rw [h]; rfl)) (rfl) (rfl) (rfl) (by omega) (by omega)
theorem may_31 {x : Node} (h : x.Kind = 31) : mayN x = (ownP x && matchS [] none x.L) :=
  may_of [] none (form_31 h) (self_of (by simp [namedP, rnamedP, h]) (by rw [num0]; simp [numP, h]) (by rw [h]; rfl) (by rw [h]; rfl)) (rfl) (rfl) (rfl) (by omega) (by omega)
theorem may_32 {x : Node} (h : x.Kind = 32) : mayN x = (ownP x && matchS [] none x.L) :=
  may_of [] none (form_32 h) (self_of (by simp [namedP, rnamedP, h]) (by rw [num0]; simp [numP, h]) (by rw [h]; rfl) (by rw [h]; rfl)) (rfl) (rfl) (rfl) (by omega) (by omega)
theorem may_33 {x : Node} (h : x.Kind = 33) : mayN x = (ownP x && matchS (lv1 x.L) none x.L) :=
  may_of (lv1 x.L) none (form_33 h) (self_of (by simp [namedP, rnamedP, h]) (by rw [num0]; simp [numP, h]) (by rw [h]; rfl) (by rw [h]; rfl)) (by rcases x.L with _ | ⟨a, _ | ⟨b, _ | ⟨c, r⟩⟩⟩ <;> rfl) (by rcases x.L with _ | ⟨a, _ | ⟨b, _ | ⟨c, r⟩⟩⟩ <;> rfl) (by rcases x.L with _ | ⟨a, _ | ⟨b, _ | ⟨c, r⟩⟩⟩ <;> rfl) (by omega) (by omega)
theorem may_34 {x : Node} (h : x.Kind = 34) : mayN x = (ownP x && matchS [101] none x.L) :=
  may_of [101] none (form_34 h) (self_of (by simp [namedP, rnamedP, h]) (by rw [num0]; simp [numP, h]) (by rw [h]; rfl) (by rw [h]; rfl)) (rfl) (rfl) (rfl) (by omega) (by omega)
theorem may_37 {x : Node} (h : x.Kind = 37) : mayN x = (ownP x && matchS [102] (some 115) x.L) :=
  may_of [102] (some 115) (form_37 h) (self_of (by simp [namedP, rnamedP, h]) (by rw [num0]; simp [numP, h]) (by rw [h]; rfl) (by rw [h]; rfl)) (rfl) (rfl) (rfl) (by omega) (by omega)
theorem may_38 {x : Node} (h : x.Kind = 38) : mayN x = (ownP x && matchS [115] none x.L) :=
  may_of [115] none (form_38 h) (self_of (by simp [namedP, rnamedP, h]) (by rw [num0]; simp [numP, h]) (by rw [h]; rfl) (by rw [h]; rfl)) (rfl) (rfl) (rfl) (by omega) (by omega)
theorem may_39 {x : Node} (h : x.Kind = 39) : mayN x = (ownP x && matchS [] (some 120) x.L) :=
  may_of [] (some 120) (form_39 h) (self_of (by simp [namedP, rnamedP, h]) (by rw [num0]; simp [numP, h]) (by rw [h]; rfl) (by rw [h]; rfl)) (rfl) (rfl) (rfl) (by omega) (by omega)
theorem may_40 {x : Node} (h : x.Kind = 40) : mayN x = (ownP x && matchS [] none x.L) :=
  may_of [] none (form_40 h) (self_of (by simp [namedP, rnamedP, h]) (by rw [num0]; simp [numP, h]) (by rw [h]; rfl) (by rw [h]; rfl)) (rfl) (rfl) (rfl) (by omega) (by omega)
theorem may_41 {x : Node} (h : x.Kind = 41) : mayN x = (ownP x && matchS [] (some 120) x.L) :=
  may_of [] (some 120) (form_41 h) (self_of (by simp [namedP, rnamedP, h]) (by rw [num0]; simp [numP, h]) (by rw [h]; rfl) (by rw [h]; rfl)) (rfl) (rfl) (rfl) (by omega) (by omega)
theorem may_42 {x : Node} (h : x.Kind = 42) : mayN x = (ownP x && matchS [] none x.L) :=
  may_of [] none (form_42 h) (self_of (by simp [namedP, rnamedP, h]) (by rw [num0]; simp [numP, h]) (by rw [h]; rfl) (by rw [h]; rfl)) (rfl) (rfl) (rfl) (by omega) (by omega)
theorem may_no {x : Node} (h : ¬ (1 ≤ x.Kind ∧ x.Kind ≤ 42)) : mayN x = false := by
  rw [mayN_eq]; unfold mayB; rw [form_no h]
theorem self_35 {x : Node} (h : x.Kind = 35) (hl : ∃ a b c, x.L = [a, b, c]) : selfP x ⟨[99], 0, false, false, [98, 99, 99]⟩ = ownP x := by
  obtain ⟨a, b, c, hl⟩ := hl
  exact self_of (by simp [namedP, rnamedP, h, hl]) (by rw [num0]; simp [numP, h]) (by rw [h]; rfl) (by rw [h]; rfl)
def tryP (l : List Node) : Bool := match l with
  | [a, b, c] => (oneP a 98 && (oneP b 99 && oneP c 99)) && !(b.Kind == 42 && c.Kind == 42)
  | _ => false
theorem may_35 {x : Node} (h : x.Kind = 35) : mayN x = (ownP x && tryP x.L) := by
  rw [mayN_eq]
  unfold mayB
  rw [form_35 h]
  simp only
  have he : ∀ k, emptyK x k = (k.Kind == 42) := fun k => by simp [emptyK, h]
  by_cases hl : ∃ a b c, x.L = [a, b, c]
  · rw [self_35 h hl]
    obtain ⟨a, b, c, hl⟩ := hl
    have e1 : manyP x [98, 99, 99] = true := by simp [manyP, hl, fixP]
    rw [e1, Bool.and_true, hl]
    have e2 : fixP [98, 99, 99] ++ oftP [98, 99, 99] = [98, 99, 99] := rfl
    rw [e2]
    cases ownP x with
    | false => rfl
    | true =>
      simp only [Bool.true_and, mayL, kidsP, tryP, he]
      have ea : oneP a 98 = true → (a.Kind == 42) = false := fun h => by
        simp only [oneP, Bool.and_eq_true] at h
        have h1 : (a.Kind == 25) = true := h.1
        rw [beq_eq_false_iff_ne]; simp only [beq_iff_eq] at h1; omega
      have l0 : ([98, 99, 99] : Str)[min 0 (([98, 99, 99] : Str).length - 1)]? = some 98 := rfl
      have l1 : ([98, 99, 99] : Str)[min (0 + 1) (([98, 99, 99] : Str).length - 1)]? = some 99 := rfl
      have l2 : ([98, 99, 99] : Str)[min (0 + 1 + 1) (([98, 99, 99] : Str).length - 1)]? = some 99 := rfl
      rw [l0, l1, l2]
      have o1 : ∀ (y : Node) (c : UInt8), (isP y ((c.toNat : Nat) : Int) && mayN y) = oneP y c := fun _ _ => rfl
      simp only [o1]
      cases ha : oneP a 98 with
      | false => rfl
      | true =>
        rw [ea ha]
        cases oneP b 99 <;> cases oneP c 99 <;> cases b.Kind == 42 <;> cases c.Kind == 42 <;> rfl
  · have e1 : manyP x [98, 99, 99] = false := by
      rw [Bool.eq_false_iff]
      intro hm
      simp only [manyP, Bool.and_eq_true, Bool.or_eq_true, decide_eq_true_eq] at hm
      have h3 : x.L.length = 3 := by
        have a1 : (fixP [98, 99, 99]).length = 3 := rfl
        have a2 : ([98, 99, 99] : Str).contains 42 = false := rfl
        rw [a1, a2] at hm
        rcases hm with ⟨h1, h2 | h2⟩
        · cases h2
        · omega
      exact hl (by
        rcases hL : x.L with _ | ⟨a, _ | ⟨b, _ | ⟨c, _ | ⟨d, r⟩⟩⟩⟩ <;> rw [hL] at h3 <;> simp at h3
        exact ⟨a, b, c, rfl⟩)
    rw [e1, Bool.and_false, Bool.false_and]
    have : tryP x.L = false := by
      unfold tryP
      split
      · rename_i a b c hL; exact absurd ⟨a, b, c, hL⟩ hl
      · rfl
    rw [this, Bool.and_false]
def caseE (k : Node) : Bool := match k.L with
  | y :: _ => y.Kind == 42
  | [] => false
def casesP : List Node → Nat → Bool
  | [], e => decide (e < 2)
  | k :: r, e => oneP k 107 && casesP r (if caseE k = true then e + 1 else e)
def switchP (l : List Node) : Bool := match l with
  | a :: r => oneP a 101 && casesP r 0
  | [] => false
theorem kids_cases {x : Node} (h : x.Kind = 36) : ∀ (r : List Node) (i e : Nat), 1 ≤ i → kidsP x [101, 107] (mayL r) i e = casesP r e
  | [], i, e, hi => rfl
  | k :: r, i, e, hi => by
    simp only [mayL, kidsP, casesP]
    rw [show min i (([101, 107] : Str).length - 1) = 1 by simp only [List.length_cons, List.length_nil]; omega]
    simp only [List.getElem?_cons_succ, List.getElem?_cons_zero]
    show (oneP k 107 && _) = _
    cases ho : oneP k 107 with
    | false => rfl
    | true =>
      have hk : k.Kind = 37 := by
        simp only [oneP, Bool.and_eq_true] at ho
        have h1 : (k.Kind == 37) = true := ho.1
        simpa using h1
      have : emptyK x k = caseE k := by cases hL : k.L <;> simp [emptyK, caseE, h, hk, hL]
      rw [this, kids_cases h r (i + 1) _ (by omega)]
theorem may_36 {x : Node} (h : x.Kind = 36) : mayN x = (ownP x && switchP x.L) := by
  rw [mayN_eq]
  unfold mayB
  rw [form_36 h]
  simp only
  rw [self_of (f := ⟨[], 0, false, false, [101, 42, 107]⟩) (by simp [namedP, rnamedP, h]) (by rw [num0]; simp [numP, h]) (by rw [h]; rfl) (by rw [h]; rfl)]
  have e2 : fixP [101, 42, 107] ++ oftP [101, 42, 107] = [101, 107] := rfl
  rw [e2]
  cases ownP x with
  | false => rfl
  | true =>
    rcases hL : x.L with _ | ⟨a, r⟩
    · simp [manyP, hL, fixP, switchP]
    · have e1 : manyP x [101, 42, 107] = true := by simp [manyP, hL, fixP]
      rw [e1]
      simp only [Bool.true_and, mayL, kidsP, switchP]
      have l0 : ([101, 107] : Str)[min 0 (([101, 107] : Str).length - 1)]? = some 101 := rfl
      rw [l0]
      show (oneP a 101 && _) = _
      cases ho : oneP a 101 with
      | false => rfl
      | true =>
        have hk : exprK a.Kind = true := by
          simp only [oneP, Bool.and_eq_true] at ho
          exact ho.1
        have : emptyK x a = false := by
          simp only [exprK, Bool.and_eq_true, decide_eq_true_eq] at hk
          have h2 : (a.Kind == 37) = false := by rw [beq_eq_false_iff_ne]; omega
          simp [emptyK, h, h2]
        simp only [this, Bool.false_eq_true, if_false, kids_cases h r (0 + 1) 0 (by omega)]
end Go.D07


/- Chapter 7, plainly: the document's answer is the same one. -/
namespace Go.D07
open Go Go.Gw Go.Dn
set_option linter.unusedSimpArgs false
set_option maxRecDepth 100000

theorem all_loop {S : Type} (step : S → Option (S ⊕ (Bool × Unit))) (mk : Int → S) (l : List Node) (p : Node → Bool) (hlen : l.length ≤ 1000000000)
    (hgo : ∀ (i : Nat) (y : Node), y ∈ l → getI l (i : Int) = some y → decide ((i : Int) < ((l.length : Nat) : Int)) = true → IntKind.wrap .i64 ((i : Int) + 1) = ((i + 1 : Nat) : Int) → step (mk i) = if p y = true then some (.inl (mk ((i + 1 : Nat) : Int))) else some (.inr (false, ())))
    (hend : decide (((l.length : Nat) : Int) < ((l.length : Nat) : Int)) = false → step (mk ((l.length : Nat) : Int)) = some (.inr (true, ()))) : Lp.loop step (mk 0) = some (l.all p, ()) := by
  have key : ∀ (r : List Node) (i : Nat), l.drop i = r → i ≤ l.length → loopN step (r.length + 1) (mk i) = some (r.all p, ()) := by
    intro r
    induction r with
    | nil =>
      intro i hr hi
      have : i = l.length := by have := congrArg List.length hr; simp at this; omega
      subst this
      exact loopN_out (hend (by simp))
    | cons y r ih =>
      intro i hr hi
      obtain ⟨h1, h2, h3⟩ := getI_drop hr
      have hm : y ∈ l := List.mem_of_mem_drop (hr ▸ List.mem_cons_self)
      have hs := hgo i y hm h1 (by simpa using by omega) (by rw [wrap_i64 (by omega) (by omega)]; rfl)
      rw [List.all_cons]
      cases hp : p y with
      | true =>
        rw [hp] at hs
        rw [List.length_cons, loopN_go hs, ih (i + 1) h2 (by omega), Bool.true_and]
      | false =>
        rw [hp] at hs
        exact loopN_out hs
  exact loop_of (n := l.length + 1) (by simpa using key l 0 rfl (Nat.zero_le _)) (by omega)
theorem lenI (n k : Nat) : (((n : Nat) : Int) == ((k : Nat) : Int)) = (n == k) := by rw [Bool.eq_iff_iff, beq_iff_eq, beq_iff_eq]; omega
theorem lenI0 (n : Nat) : (((n : Nat) : Int) == 0) = (n == 0) := lenI n 0
theorem lenI1 (n : Nat) : (((n : Nat) : Int) == 1) = (n == 1) := lenI n 1
theorem lenI2 (n : Nat) : (((n : Nat) : Int) == 2) = (n == 2) := lenI n 2
theorem lenI3 (n : Nat) : (((n : Nat) : Int) == 3) = (n == 3) := lenI n 3
theorem lenI4 (n : Nat) : (((n : Nat) : Int) == 4) = (n == 4) := lenI n 4
theorem lenG1 (n : Nat) : decide (((n : Nat) : Int) ≥ 1) = decide (1 ≤ n) := by rw [decide_eq_decide]; omega
theorem lenL1 (n : Nat) : decide (((n : Nat) : Int) ≤ 1) = decide (n ≤ 1) := by rw [decide_eq_decide]; omega
theorem lenM1 (n : Nat) : decide (((n : Nat) : Int) > 1) = decide (1 < n) := by rw [decide_eq_decide]; omega
theorem getI0 {α : Type} (a : α) (r : List α) : getI (a :: r) 0 = some a := rfl
theorem getI1 {α : Type} (a b : α) (r : List α) : getI (a :: b :: r) 1 = some b := rfl
theorem getI2 {α : Type} (a b c : α) (r : List α) : getI (a :: b :: c :: r) 2 = some c := rfl
theorem getI3 {α : Type} (a b c d : α) (r : List α) : getI (a :: b :: c :: d :: r) 3 = some d := rfl
theorem cut1 {α : Type} (a : α) (r : List α) : cutL (a :: r) 1 ((r.length + 1 : Nat) : Int) = some r := by
  have := cutL_to_end (a :: r) 1 (by simp)
  simpa using this
theorem rIsTarget_eq (x : Node) : credenzaref07_IsTarget x = some (tgtK x.Kind, ()) := rfl
theorem tgt_expr {k : Int} (h : tgtK k = true) : exprK k = true := by
  simp only [tgtK, Bool.or_eq_true, beq_iff_eq] at h
  rcases h with (h | h) | h <;> subst h <;> rfl
theorem tgt_one (y : Node) : oneP y 116 = (tgtK y.Kind && oneP y 101) := by
  show (tgtK y.Kind && mayN y) = (tgtK y.Kind && (exprK y.Kind && mayN y))
  cases h : tgtK y.Kind with
  | false => rfl
  | true => rw [tgt_expr h]; rfl
theorem empty_eq (x : Node) (hb : bulkN x ≤ 2097152) : credenzaref07_empty x = some (x.Kind == 42 && mayN x, ()) := by
  unfold credenzaref07_empty
  simp only [re25_eq, own_eq x hb, Option.bind_some, lenI0]
  by_cases h : x.Kind = 42
  · rw [may_42 h, h]
    simp only [beq_self_eq_true, if_true, Bool.true_and, matchS]
    cases x.L <;> simp
  · have : (x.Kind == 42) = false := by rw [beq_eq_false_iff_ne]; exact h
    simp [this]
/-- what is right of nodes that are not deep -/
structure GoodR (g : Rec_credenzaref07_stmts) (n : Nat) : Prop where
  expr : ∀ y, 6 * deepN y ≤ n → bulkN y ≤ 2097152 → g.credenzaref07_expr y = some (oneP y 101, ())
  exprs : ∀ l, 6 * deepL l + 3 ≤ n → bulkL l ≤ 2097152 → g.credenzaref07_exprs l = some (l.all fun y => oneP y 101, ())
  stmt : ∀ y, 6 * deepN y + 2 ≤ n → bulkN y ≤ 2097152 → g.credenzaref07_stmt y = some (oneP y 115, ())
  stmts : ∀ l f, 6 * deepL l + 3 ≤ n → bulkL l ≤ 2097152 → g.credenzaref07_stmts l f = some (l.all fun y => stK y.Kind f && mayN y, ())
  decls : ∀ y, 6 * deepN y ≤ n → bulkN y ≤ 2097152 → g.credenzaref07_decls y = some (y.Kind == 22 && mayN y, ())
  block : ∀ y, 6 * deepN y ≤ n → bulkN y ≤ 2097152 → g.credenzaref07_block y = some (oneP y 98, ())
  loop : ∀ y, 27 ≤ y.Kind → y.Kind ≤ 30 → 6 * deepN y + 1 ≤ n → bulkN y ≤ 2097152 → g.credenzaref07_loop y = some (if (y.Kind == 27) = true then matchS [101, 98] none y.L else if (y.Kind == 28) = true then matchS [98, 101] none y.L else if (y.Kind == 29) = true then matchS [118, 102, 102, 98] none y.L else matchS [119, 101, 98] none y.L, ())
  cases : ∀ l, 6 * deepL l + 3 ≤ n → bulkL l ≤ 2097152 → g.credenzaref07_cases l = some (casesP l 0, ())
section
variable {g : Rec_credenzaref07_stmts} {n : Nat}
theorem exprs_step (G : GoodR g n) (l : List Node) (hd : 6 * deepL l + 3 ≤ n + 1) (hb : bulkL l ≤ 2097152) : credenzaref07_exprs_b g l = some (l.all fun y => oneP y 101, ()) := by
  have := len_bulkL l
  refine all_loop (credenzaref07_exprs_l1 g) (fun i => (l, ((l.length : Nat) : Int), i, ())) l _ (by omega) (fun i y hy h1 h2 h3 => ?_) (fun h => by simp only [credenzaref07_exprs_l1, h, Bool.false_eq_true, if_false])
  have a1 := mem_deepL hy; have a2 := mem_bulkL hy
  simp only [credenzaref07_exprs_l1, h2, if_true, h1, Option.bind_some, re25_eq, G.expr y (by omega) (by omega), h3]
  cases oneP y 101 <;> rfl
theorem block_step (G : GoodR g n) (x : Node) (hd : 6 * deepN x ≤ n + 1) (hb : bulkN x ≤ 2097152) : credenzaref07_block_b g x = some (oneP x 98, ()) := by
  have a1 := deepN_eq x; have a2 := bulkN_eq x
  unfold credenzaref07_block_b
  simp only [re25_eq, own_eq x hb, Option.bind_some, G.stmts x.L false (by omega) (by omega)]
  show _ = some (x.Kind == 25 && mayN x, ())
  by_cases h : x.Kind = 25
  · rw [may_25 h, h]
    cases ownP x <;> rfl
  · have : (x.Kind == 25) = false := by rw [beq_eq_false_iff_ne]; exact h
    simp [this]
theorem stmts_step (G : GoodR g n) (l : List Node) (f : Bool) (hd : 6 * deepL l + 3 ≤ n + 1) (hb : bulkL l ≤ 2097152) : credenzaref07_stmts_b g l f = some (l.all fun y => stK y.Kind f && mayN y, ()) := by
  have := len_bulkL l
  refine all_loop (credenzaref07_stmts_l1 g) (fun i => (f, l, ((l.length : Nat) : Int), i, ())) l _ (by omega) (fun i y hy h1 h2 h3 => ?_) (fun h => by simp only [credenzaref07_stmts_l1, h, Bool.false_eq_true, if_false])
  have a1 := mem_deepL hy; have a2 := mem_bulkL hy; have a3 := deepN_eq y; have a4 := bulkN_eq y
  simp only [credenzaref07_stmts_l1, h2, if_true, h1, Option.bind_some, re25_eq, G.stmt y (by omega) (by omega), G.stmts y.L true (by omega) (by omega), own_eq y (by omega), h3]
  by_cases h : y.Kind = 39
  · rw [may_39 h, h]
    cases f <;> cases ownP y <;> try rfl
    show _ = if (true && (true && y.L.all fun y => oneP y 120)) = true then _ else _
    have e : (y.L.all fun y => stK y.Kind true && mayN y) = y.L.all fun y => oneP y 120 := rfl
    rw [e]
    cases y.L.all fun y => oneP y 120 <;> rfl
  · have e : (y.Kind == 39) = false := by rw [beq_eq_false_iff_ne]; exact h
    have e2 : oneP y 115 = (stK y.Kind f && mayN y) := by
      show (stK y.Kind false && mayN y) = _
      unfold stK
      have : (y.Kind != 39) = true := by unfold bne; rw [e]; rfl
      rw [this]; cases f <;> rfl
    simp only [e, Bool.false_eq_true, if_false, e2]
    cases stK y.Kind f && mayN y <;> rfl
theorem decls_step (G : GoodR g n) (x : Node) (hd : 6 * deepN x ≤ n + 1) (hb : bulkN x ≤ 2097152) : credenzaref07_decls_b g x = some (x.Kind == 22 && mayN x, ()) := by
  have a1 := deepN_eq x; have a2 := bulkN_eq x; have a3 := len_bulkL x.L
  have hl : Lp.loop (credenzaref07_decls_l1 g) (x.L, ((x.L.length : Nat) : Int), 0, ()) = some (x.L.all fun y => oneP y 100, ()) := by
    refine all_loop (credenzaref07_decls_l1 g) (fun i => (x.L, ((x.L.length : Nat) : Int), i, ())) x.L _ (by omega) (fun i y hy h1 h2 h3 => ?_) (fun h => by simp only [credenzaref07_decls_l1, h, Bool.false_eq_true, if_false])
    have b1 := mem_deepL hy; have b2 := mem_bulkL hy; have b3 := deepN_eq y; have b4 := bulkN_eq y
    simp only [credenzaref07_decls_l1, h2, if_true, h1, Option.bind_some, re25_eq, G.exprs y.L (by omega) (by omega), own_eq y (by omega), h3, lenM1]
    show _ = if (y.Kind == 23 && mayN y) = true then _ else _
    by_cases h : y.Kind = 23
    · rw [may_23 h, h]
      rcases y.L with _ | ⟨a, _ | ⟨b, r⟩⟩
      · cases ownP y <;> rfl
      · simp only [lv1, matchS, List.all_cons, List.all_nil, Bool.and_true]
        cases ownP y <;> cases oneP a 101 <;> rfl
      · simp [lv1, matchS]
    · have e : (y.Kind == 23) = false := by rw [beq_eq_false_iff_ne]; exact h
      simp [bne, e]
  unfold credenzaref07_decls_b
  simp only [re25_eq, own_eq x hb, Option.bind_some, hl, lenI0]
  by_cases h : x.Kind = 22
  · rw [may_22 h, h]
    rcases x.L with _ | ⟨a, r⟩
    · cases ownP x <;> rfl
    · simp only [matchS, List.all_cons]
      cases ownP x <;> rfl
  · have e : (x.Kind == 22) = false := by rw [beq_eq_false_iff_ne]; exact h
    simp [bne, e]
theorem cases_step (G : GoodR g n) (l : List Node) (hd : 6 * deepL l + 3 ≤ n + 1) (hb : bulkL l ≤ 2097152) : credenzaref07_cases_b g l = some (casesP l 0, ()) := by
  have hlen := len_bulkL l
  have key : ∀ (r : List Node) (i e : Nat), l.drop i = r → i ≤ l.length → e ≤ i → loopN (credenzaref07_cases_l1 g) (r.length + 1) ((e : Int), l, ((l.length : Nat) : Int), (i : Int), ()) = some (casesP r e, ()) := by
    intro r
    induction r with
    | nil =>
      intro i e hr hi he
      have hi : ¬ ((i : Int) < (l.length : Int)) := by
        have := congrArg List.length hr; simp at this; omega
      refine loopN_out ?_
      simp only [credenzaref07_cases_l1, hi, decide_false, Bool.false_eq_true, if_false, casesP]
      congr 3
      rw [decide_eq_decide]; omega
    | cons k r ih =>
      intro i e hr hi he
      obtain ⟨h1, h2, h3⟩ := getI_drop hr
      have hi : ((i : Int) < (l.length : Int)) := by omega
      have hx : k ∈ l := List.mem_of_mem_drop (hr ▸ List.mem_cons_self)
      have a1 := mem_deepL hx; have a2 := mem_bulkL hx; have a3 := deepN_eq k; have a4 := bulkN_eq k
      have w1 : IntKind.wrap .i64 ((e : Int) + 1) = ((e + 1 : Nat) : Int) := by rw [wrap_i64 (by omega) (by omega)]; rfl
      have w2 : IntKind.wrap .i64 ((i : Int) + 1) = ((i + 1 : Nat) : Int) := by rw [wrap_i64 (by omega) (by omega)]; rfl
      have hs : credenzaref07_cases_l1 g ((e : Int), l, ((l.length : Nat) : Int), (i : Int), ()) = if oneP k 107 = true then some (.inl ((((if caseE k = true then e + 1 else e) : Nat) : Int), l, ((l.length : Nat) : Int), ((i + 1 : Nat) : Int), ())) else some (.inr (false, ())) := by
        simp only [credenzaref07_cases_l1, credenzaref07_cases_j2, hi, decide_true, if_true, h1, Option.bind_some, re25_eq, own_eq k (by omega), lenI0, w1, w2]
        show _ = if (k.Kind == 37 && mayN k) = true then _ else _
        by_cases h : k.Kind = 37
        · rw [may_37 h, h]
          obtain ⟨ll, hL⟩ : ∃ ll, k.L = ll := ⟨_, rfl⟩
          rcases ll with _ | ⟨a, q⟩
          · simp [hL, matchS]
          · have c1 : 6 * deepN a ≤ n := by have := mem_deepL (x := a) (l := k.L) (by rw [hL]; exact List.mem_cons_self); omega
            have c2 : bulkN a ≤ 2097152 := by have := mem_bulkL (x := a) (l := k.L) (by rw [hL]; exact List.mem_cons_self); omega
            have c3 : 6 * deepL q + 3 ≤ n := by have : deepL k.L = max (deepN a) (deepL q) := by rw [hL, deepL_cons]
                                                omega
            have c4 : bulkL q ≤ 2097152 := by have : bulkL k.L = bulkN a + bulkL q := by rw [hL]; simp [bulkL]
                                              omega
            simp only [hL, getI0, cut1, Option.bind_some, empty_eq a c2, G.expr a c1 c2, G.stmts q false c3 c4, caseE, matchS, List.length_cons]
            have o1 : oneP a 102 = ((exprK a.Kind || a.Kind == 42) && mayN a) := rfl
            have o2 : oneP a 101 = (exprK a.Kind && mayN a) := rfl
            have o3 : (q.all fun y => oneP y 115) = q.all fun y => stK y.Kind false && mayN y := rfl
            rw [o1, o2, o3]
            generalize (q.all fun y => stK y.Kind false && mayN y) = z1
            generalize (a.Kind == 42) = z2
            generalize exprK a.Kind = z3
            generalize mayN a = z4
            have z5 : ((q.length + 1 : Nat) == 0) = false := by simp
            rw [z5]
            cases ownP k <;> cases z1 <;> cases z2 <;> cases z3 <;> cases z4 <;> rfl
        · have e : (k.Kind == 37) = false := by rw [beq_eq_false_iff_ne]; exact h
          simp [bne, e]
      simp only [casesP]
      cases ho : oneP k 107 with
      | false =>
        rw [ho] at hs
        exact loopN_out hs
      | true =>
        rw [ho] at hs
        rw [List.length_cons, loopN_go hs, ih (i + 1) _ h2 (by omega) (by split <;> omega), Bool.true_and]
  exact loop_of (n := l.length + 1) (by simpa using key l 0 0 rfl (Nat.zero_le _) (Nat.le_refl _)) (by omega)
end
end Go.D07


/- Chapter 7, plainly: TreeChecks. -/
namespace Go.D07
open Go Go.Gw Go.Dn
set_option linter.unusedSimpArgs false
set_option maxRecDepth 100000

section
variable {g : Rec_credenzaref07_stmts} {n : Nat}
theorem kinds {k : Int} (h : 1 ≤ k ∧ k ≤ 42) : k = 1 ∨ k = 2 ∨ k = 3 ∨ k = 4 ∨ k = 5 ∨ k = 6 ∨ k = 7 ∨ k = 8 ∨ k = 9 ∨ k = 10 ∨ k = 11 ∨ k = 12 ∨ k = 13 ∨ k = 14 ∨ k = 15 ∨ k = 16 ∨ k = 17 ∨ k = 18 ∨ k = 19 ∨ k = 20 ∨ k = 21 ∨ k = 22 ∨ k = 23 ∨ k = 24 ∨ k = 25 ∨ k = 26 ∨ k = 27 ∨ k = 28 ∨ k = 29 ∨ k = 30 ∨ k = 31 ∨ k = 32 ∨ k = 33 ∨ k = 34 ∨ k = 35 ∨ k = 36 ∨ k = 37 ∨ k = 38 ∨ k = 39 ∨ k = 40 ∨ k = 41 ∨ k = 42 := by omega
theorem eobj (G : GoodR g n) (l : List Node) (hd : 6 * deepL l + 3 ≤ n + 1) (hb : bulkL l ≤ 2097152) : Lp.loop (credenzaref07_expr_l1 g) (l, ((l.length : Nat) : Int), 0, ()) = some (l.all fun y => oneP y 112, ()) := by
  have := len_bulkL l
  refine all_loop (credenzaref07_expr_l1 g) (fun i => (l, ((l.length : Nat) : Int), i, ())) l _ (by omega) (fun i y hy h1 h2 h3 => ?_) (fun h => by simp only [credenzaref07_expr_l1, h, Bool.false_eq_true, if_false])
  have a1 := mem_deepL hy; have a2 := mem_bulkL hy; have a3 := deepN_eq y; have a4 := bulkN_eq y
  simp only [credenzaref07_expr_l1, h2, if_true, h1, Option.bind_some, re25_eq, own_eq y (by omega), h3, bne, lenI1]
  show _ = if (y.Kind == 9 && mayN y) = true then _ else _
  by_cases h : y.Kind = 9
  · rw [may_9 h, h]
    obtain ⟨ll, hL⟩ : ∃ ll, y.L = ll := ⟨_, rfl⟩
    rcases ll with _ | ⟨a, _ | ⟨b, r⟩⟩
    · simp [hL, matchS]
    · have c1 : 6 * deepN a ≤ n := by have := mem_deepL (x := a) (l := y.L) (by rw [hL]; exact List.mem_cons_self); omega
      have c2 : bulkN a ≤ 2097152 := by have := mem_bulkL (x := a) (l := y.L) (by rw [hL]; exact List.mem_cons_self); omega
      simp only [hL, getI0, Option.bind_some, G.expr a c1 c2, matchS]
      cases ownP y <;> cases oneP a 101 <;> rfl
    · simp [hL, matchS]
  · have e : (y.Kind == 9) = false := by rw [beq_eq_false_iff_ne]; exact h
    simp [e]

theorem expr_step (G : GoodR g n) (x : Node) (hd : 6 * deepN x ≤ n + 1) (hb : bulkN x ≤ 2097152) : credenzaref07_expr_b g x = some (oneP x 101, ()) := by
  have a1 := deepN_eq x; have a2 := bulkN_eq x
  have ex := G.exprs x.L (by omega) (by omega)
  have st := G.stmts x.L true (by omega) (by omega)
  have ob := eobj G x.L (by omega) (by omega)
  unfold credenzaref07_expr_b
  simp only [re25_eq, own_eq x hb, Option.bind_some, ex, st, ob, lenI0, lenI1, lenI2, lenI3, lenG1, rIsTarget_eq]
  show _ = some (exprK x.Kind && mayN x, ())
  have o120 : (x.L.all fun y => stK y.Kind true && mayN y) = x.L.all fun y => oneP y 120 := rfl
  rw [o120]
  clear ex st ob o120
  by_cases hk : 1 ≤ x.Kind ∧ x.Kind ≤ 42
  · rcases kinds hk with h | h | h | h | h | h | h | h | h | h | h | h | h | h | h | h | h | h | h | h | h | h | h | h | h | h | h | h | h | h | h | h | h | h | h | h | h | h | h | h | h | h
    · -- 1
      rw [may_1 h, h]
      cases ownP x with
      | false => rfl
      | true =>
        have e : exprK 1 = true := rfl
        rw [e]
        obtain ⟨l, hL⟩ : ∃ l, x.L = l := ⟨_, rfl⟩
        simp only [hL]
        rcases l with _ | ⟨a, _ | ⟨b, _ | ⟨c, _ | ⟨d, r⟩⟩⟩⟩ <;> simp [matchS]
    · -- 2
      rw [may_2 h, h]
      cases ownP x with
      | false => rfl
      | true =>
        have e : exprK 2 = true := rfl
        rw [e]
        obtain ⟨l, hL⟩ : ∃ l, x.L = l := ⟨_, rfl⟩
        simp only [hL]
        rcases l with _ | ⟨a, _ | ⟨b, _ | ⟨c, _ | ⟨d, r⟩⟩⟩⟩ <;> simp [matchS]
    · -- 3
      rw [may_3 h, h]
      cases ownP x with
      | false => rfl
      | true =>
        have e : exprK 3 = true := rfl
        rw [e]
        obtain ⟨l, hL⟩ : ∃ l, x.L = l := ⟨_, rfl⟩
        simp only [hL]
        rcases l with _ | ⟨a, _ | ⟨b, _ | ⟨c, _ | ⟨d, r⟩⟩⟩⟩ <;> simp [matchS]
    · -- 4
      rw [may_4 h, h]
      cases ownP x with
      | false => rfl
      | true =>
        have e : exprK 4 = true := rfl
        rw [e]
        obtain ⟨l, hL⟩ : ∃ l, x.L = l := ⟨_, rfl⟩
        simp only [hL]
        rcases l with _ | ⟨a, _ | ⟨b, _ | ⟨c, _ | ⟨d, r⟩⟩⟩⟩ <;> simp [matchS]
    · -- 5
      rw [may_5 h, h]
      cases ownP x with
      | false => rfl
      | true =>
        have e : exprK 5 = true := rfl
        rw [e]
        obtain ⟨l, hL⟩ : ∃ l, x.L = l := ⟨_, rfl⟩
        simp only [hL]
        rcases l with _ | ⟨a, _ | ⟨b, _ | ⟨c, _ | ⟨d, r⟩⟩⟩⟩ <;> simp [matchS]
    · -- 6
      rw [may_6 h, h]
      cases ownP x with
      | false => rfl
      | true =>
        have e : exprK 6 = true := rfl
        rw [e]
        obtain ⟨l, hL⟩ : ∃ l, x.L = l := ⟨_, rfl⟩
        simp only [hL]
        rcases l with _ | ⟨a, _ | ⟨b, _ | ⟨c, _ | ⟨d, r⟩⟩⟩⟩ <;> simp [matchS]
    · -- 7
      rw [may_7 h, h]
      cases ownP x with
      | false => rfl
      | true =>
        have e : exprK 7 = true := rfl
        rw [e]
        obtain ⟨l, hL⟩ : ∃ l, x.L = l := ⟨_, rfl⟩
        simp only [hL]
        rfl
    · -- 8
      rw [may_8 h, h]
      cases ownP x with
      | false => rfl
      | true =>
        have e : exprK 8 = true := rfl
        rw [e]
        obtain ⟨l, hL⟩ : ∃ l, x.L = l := ⟨_, rfl⟩
        simp only [hL]
        rfl
    · -- 9
      have e : exprK x.Kind = false := by rw [h]; rfl
      rw [e, h]
      cases ownP x <;> rfl
    · -- 10
      rw [may_10 h, h]
      cases ownP x with
      | false => rfl
      | true =>
        have e : exprK 10 = true := rfl
        rw [e]
        obtain ⟨l, hL⟩ : ∃ l, x.L = l := ⟨_, rfl⟩
        simp only [hL]
        rfl
    · -- 11
      rw [may_11 h, h]
      cases ownP x with
      | false => rfl
      | true =>
        have e : exprK 11 = true := rfl
        rw [e]
        obtain ⟨l, hL⟩ : ∃ l, x.L = l := ⟨_, rfl⟩
        simp only [hL]
        rcases l with _ | ⟨a, _ | ⟨b, _ | ⟨c, _ | ⟨d, r⟩⟩⟩⟩ <;> simp [matchS]
    · -- 12
      rw [may_12 h, h]
      cases ownP x with
      | false => rfl
      | true =>
        have e : exprK 12 = true := rfl
        rw [e]
        obtain ⟨l, hL⟩ : ∃ l, x.L = l := ⟨_, rfl⟩
        simp only [hL]
        rcases l with _ | ⟨a, _ | ⟨b, _ | ⟨c, _ | ⟨d, r⟩⟩⟩⟩ <;> simp [matchS]
    · -- 13
      rw [may_13 h, h]
      cases ownP x with
      | false => rfl
      | true =>
        have e : exprK 13 = true := rfl
        rw [e]
        obtain ⟨l, hL⟩ : ∃ l, x.L = l := ⟨_, rfl⟩
        simp only [hL]
        rcases l with _ | ⟨a, r⟩
        · rfl
        · simp [matchS]
    · -- 14
      rw [may_14 h, h]
      cases ownP x with
      | false => rfl
      | true =>
        have e : exprK 14 = true := rfl
        rw [e]
        obtain ⟨l, hL⟩ : ∃ l, x.L = l := ⟨_, rfl⟩
        simp only [hL]
        rcases l with _ | ⟨a, r⟩
        · rfl
        · simp [matchS]
    · -- 15
      rw [may_15 h, h]
      cases ownP x with
      | false => rfl
      | true =>
        have e : exprK 15 = true := rfl
        rw [e]
        obtain ⟨l, hL⟩ : ∃ l, x.L = l := ⟨_, rfl⟩
        simp only [hL]
        rcases l with _ | ⟨a, _ | ⟨b, _ | ⟨c, _ | ⟨d, r⟩⟩⟩⟩ <;> simp [matchS]
    · -- 16
      rw [may_16 h, h]
      cases ownP x with
      | false => rfl
      | true =>
        have e : exprK 16 = true := rfl
        rw [e]
        obtain ⟨l, hL⟩ : ∃ l, x.L = l := ⟨_, rfl⟩
        simp only [hL]
        rcases l with _ | ⟨a, _ | ⟨b, _ | ⟨c, r⟩⟩⟩ <;> simp [matchS, getI0, tgt_one] <;> (cases tgtK a.Kind <;> simp)
    · -- 17
      rw [may_17 h, h]
      cases ownP x with
      | false => rfl
      | true =>
        have e : exprK 17 = true := rfl
        rw [e]
        obtain ⟨l, hL⟩ : ∃ l, x.L = l := ⟨_, rfl⟩
        simp only [hL]
        rcases l with _ | ⟨a, _ | ⟨b, _ | ⟨c, _ | ⟨d, r⟩⟩⟩⟩ <;> simp [matchS]
    · -- 18
      rw [may_18 h, h]
      cases ownP x with
      | false => rfl
      | true =>
        have e : exprK 18 = true := rfl
        rw [e]
        obtain ⟨l, hL⟩ : ∃ l, x.L = l := ⟨_, rfl⟩
        simp only [hL]
        rcases l with _ | ⟨a, _ | ⟨b, _ | ⟨c, _ | ⟨d, r⟩⟩⟩⟩ <;> simp [matchS]
    · -- 19
      rw [may_19 h, h]
      cases ownP x with
      | false => rfl
      | true =>
        have e : exprK 19 = true := rfl
        rw [e]
        obtain ⟨l, hL⟩ : ∃ l, x.L = l := ⟨_, rfl⟩
        simp only [hL]
        rcases l with _ | ⟨a, _ | ⟨b, _ | ⟨c, _ | ⟨d, r⟩⟩⟩⟩ <;> simp [matchS]
    · -- 20
      rw [may_20 h, h]
      cases ownP x with
      | false => rfl
      | true =>
        have e : exprK 20 = true := rfl
        rw [e]
        obtain ⟨l, hL⟩ : ∃ l, x.L = l := ⟨_, rfl⟩
        simp only [hL]
        rcases l with _ | ⟨a, _ | ⟨b, _ | ⟨c, r⟩⟩⟩ <;> simp [matchS, getI0, tgt_one] <;> (cases tgtK a.Kind <;> simp)
    · -- 21
      rw [may_21 h, h]
      cases ownP x with
      | false => rfl
      | true =>
        have e : exprK 21 = true := rfl
        rw [e]
        obtain ⟨l, hL⟩ : ∃ l, x.L = l := ⟨_, rfl⟩
        simp only [hL]
        rcases l with _ | ⟨a, _ | ⟨b, _ | ⟨c, _ | ⟨d, r⟩⟩⟩⟩ <;> simp [matchS]
    · -- 22
      have e : exprK x.Kind = false := by rw [h]; rfl
      rw [e, h]
      cases ownP x <;> rfl
    · -- 23
      have e : exprK x.Kind = false := by rw [h]; rfl
      rw [e, h]
      cases ownP x <;> rfl
    · -- 24
      have e : exprK x.Kind = false := by rw [h]; rfl
      rw [e, h]
      cases ownP x <;> rfl
    · -- 25
      have e : exprK x.Kind = false := by rw [h]; rfl
      rw [e, h]
      cases ownP x <;> rfl
    · -- 26
      have e : exprK x.Kind = false := by rw [h]; rfl
      rw [e, h]
      cases ownP x <;> rfl
    · -- 27
      have e : exprK x.Kind = false := by rw [h]; rfl
      rw [e, h]
      cases ownP x <;> rfl
    · -- 28
      have e : exprK x.Kind = false := by rw [h]; rfl
      rw [e, h]
      cases ownP x <;> rfl
    · -- 29
      have e : exprK x.Kind = false := by rw [h]; rfl
      rw [e, h]
      cases ownP x <;> rfl
    · -- 30
      have e : exprK x.Kind = false := by rw [h]; rfl
      rw [e, h]
      cases ownP x <;> rfl
    · -- 31
      have e : exprK x.Kind = false := by rw [h]; rfl
      rw [e, h]
      cases ownP x <;> rfl
    · -- 32
      have e : exprK x.Kind = false := by rw [h]; rfl
      rw [e, h]
      cases ownP x <;> rfl
    · -- 33
      have e : exprK x.Kind = false := by rw [h]; rfl
      rw [e, h]
      cases ownP x <;> rfl
    · -- 34
      have e : exprK x.Kind = false := by rw [h]; rfl
      rw [e, h]
      cases ownP x <;> rfl
    · -- 35
      have e : exprK x.Kind = false := by rw [h]; rfl
      rw [e, h]
      cases ownP x <;> rfl
    · -- 36
      have e : exprK x.Kind = false := by rw [h]; rfl
      rw [e, h]
      cases ownP x <;> rfl
    · -- 37
      have e : exprK x.Kind = false := by rw [h]; rfl
      rw [e, h]
      cases ownP x <;> rfl
    · -- 38
      have e : exprK x.Kind = false := by rw [h]; rfl
      rw [e, h]
      cases ownP x <;> rfl
    · -- 39
      have e : exprK x.Kind = false := by rw [h]; rfl
      rw [e, h]
      cases ownP x <;> rfl
    · -- 40
      have e : exprK x.Kind = false := by rw [h]; rfl
      rw [e, h]
      cases ownP x <;> rfl
    · -- 41
      have e : exprK x.Kind = false := by rw [h]; rfl
      rw [e, h]
      cases ownP x <;> rfl
    · -- 42
      have e : exprK x.Kind = false := by rw [h]; rfl
      rw [e, h]
      cases ownP x <;> rfl
  · rw [may_no hk, Bool.and_false]

    have k1 : (x.Kind == 1) = false := by rw [beq_eq_false_iff_ne]; omega
    have k2 : (x.Kind == 2) = false := by rw [beq_eq_false_iff_ne]; omega
    have k3 : (x.Kind == 3) = false := by rw [beq_eq_false_iff_ne]; omega
    have k4 : (x.Kind == 4) = false := by rw [beq_eq_false_iff_ne]; omega
    have k5 : (x.Kind == 5) = false := by rw [beq_eq_false_iff_ne]; omega
    have k6 : (x.Kind == 6) = false := by rw [beq_eq_false_iff_ne]; omega
    have k7 : (x.Kind == 7) = false := by rw [beq_eq_false_iff_ne]; omega
    have k8 : (x.Kind == 8) = false := by rw [beq_eq_false_iff_ne]; omega
    have k10 : (x.Kind == 10) = false := by rw [beq_eq_false_iff_ne]; omega
    have k13 : (x.Kind == 13) = false := by rw [beq_eq_false_iff_ne]; omega
    have k14 : (x.Kind == 14) = false := by rw [beq_eq_false_iff_ne]; omega
    have k11 : (x.Kind == 11) = false := by rw [beq_eq_false_iff_ne]; omega
    have k15 : (x.Kind == 15) = false := by rw [beq_eq_false_iff_ne]; omega
    have k16 : (x.Kind == 16) = false := by rw [beq_eq_false_iff_ne]; omega
    have k20 : (x.Kind == 20) = false := by rw [beq_eq_false_iff_ne]; omega
    have k12 : (x.Kind == 12) = false := by rw [beq_eq_false_iff_ne]; omega
    have k17 : (x.Kind == 17) = false := by rw [beq_eq_false_iff_ne]; omega
    have k18 : (x.Kind == 18) = false := by rw [beq_eq_false_iff_ne]; omega
    have k21 : (x.Kind == 21) = false := by rw [beq_eq_false_iff_ne]; omega
    have k19 : (x.Kind == 19) = false := by rw [beq_eq_false_iff_ne]; omega
    simp only [k1, k2, k3, k4, k5, k6, k7, k8, k10, k13, k14, k11, k15, k16, k20, k12, k17, k18, k21, k19, Bool.false_eq_true, if_false]
    cases ownP x <;> rfl
end
end Go.D07


/- Chapter 7, plainly: TreeChecks: statements. -/
namespace Go.D07
open Go Go.Gw Go.Dn
set_option linter.unusedSimpArgs false
set_option maxRecDepth 100000

section
variable {g : Rec_credenzaref07_stmts} {n : Nat}
theorem one101 (y : Node) : oneP y 101 = (exprK y.Kind && mayN y) := rfl
theorem one102 (y : Node) : oneP y 102 = ((exprK y.Kind || y.Kind == 42) && mayN y) := rfl
theorem one99 (y : Node) : oneP y 99 = ((y.Kind == 25 || y.Kind == 42) && mayN y) := rfl
theorem one98 (y : Node) : oneP y 98 = (y.Kind == 25 && mayN y) := rfl
theorem one118 (y : Node) : oneP y 118 = (((exprK y.Kind || y.Kind == 42) || y.Kind == 22) && mayN y) := rfl
theorem one119 (y : Node) : oneP y 119 = ((tgtK y.Kind || (y.Kind == 22 && (match y.L with | [z] => z.L.isEmpty | _ => false))) && mayN y) := rfl
theorem loop_step (G : GoodR g n) (x : Node) (h27 : 27 ≤ x.Kind) (h30 : x.Kind ≤ 30) (hd : 6 * deepN x + 1 ≤ n + 1) (hb : bulkN x ≤ 2097152) :
    credenzaref07_loop_b g x = some (if (x.Kind == 27) = true then matchS [101, 98] none x.L else if (x.Kind == 28) = true then matchS [98, 101] none x.L else if (x.Kind == 29) = true then matchS [118, 102, 102, 98] none x.L else matchS [119, 101, 98] none x.L, ()) := by
  have a1 := deepN_eq x; have a2 := bulkN_eq x
  have Ge : ∀ y ∈ x.L, g.credenzaref07_expr y = some (oneP y 101, ()) := fun y hy => G.expr y (by have := mem_deepL hy; omega) (by have := mem_bulkL hy; omega)
  have Gb : ∀ y ∈ x.L, g.credenzaref07_block y = some (oneP y 98, ()) := fun y hy => G.block y (by have := mem_deepL hy; omega) (by have := mem_bulkL hy; omega)
  have Gd : ∀ y ∈ x.L, g.credenzaref07_decls y = some (y.Kind == 22 && mayN y, ()) := fun y hy => G.decls y (by have := mem_deepL hy; omega) (by have := mem_bulkL hy; omega)
  have Em : ∀ y ∈ x.L, credenzaref07_empty y = some (y.Kind == 42 && mayN y, ()) := fun y hy => empty_eq y (by have := mem_bulkL hy; omega)
  clear a1 a2 hd hb
  obtain ⟨l, hL⟩ : ∃ l, x.L = l := ⟨_, rfl⟩
  rw [hL] at Ge Gb Gd Em
  unfold credenzaref07_loop_b
  simp only [re25_eq, hL, lenI0, lenI1, lenI2, lenI3, lenI4, bne, rIsTarget_eq]
  rcases (show x.Kind = 27 ∨ x.Kind = 28 ∨ x.Kind = 29 ∨ x.Kind = 30 by omega) with h | h | h | h
  · rw [h]
    rcases l with _ | ⟨a, _ | ⟨b, _ | ⟨c, r⟩⟩⟩
    · rfl
    · simp [matchS]
    · simp only [getI0, getI1, Option.bind_some, Ge a (by simp), Gb b (by simp), matchS]
      cases oneP a 101 <;> cases oneP b 98 <;> rfl
    · simp [matchS]
  · rw [h]
    rcases l with _ | ⟨a, _ | ⟨b, _ | ⟨c, r⟩⟩⟩
    · rfl
    · simp [matchS]
    · simp only [getI0, getI1, Option.bind_some, Ge b (by simp), Gb a (by simp), matchS]
      cases oneP a 98 <;> cases oneP b 101 <;> rfl
    · simp [matchS]
  · rw [h]
    rcases l with _ | ⟨a, _ | ⟨b, _ | ⟨c, _ | ⟨d, _ | ⟨e, r⟩⟩⟩⟩⟩
    · rfl
    · simp [matchS]
    · simp [matchS]
    · simp [matchS]
    · simp only [getI0, getI1, getI2, getI3, Option.bind_some, Ge a (by simp), Ge b (by simp), Ge c (by simp), Gb d (by simp), Gd a (by simp), Em a (by simp), Em b (by simp), Em c (by simp), matchS, one101, one102, one118]
      generalize oneP d 98 = d1
      generalize (c.Kind == 42) = c1
      generalize exprK c.Kind = c2
      generalize mayN c = c3
      generalize (b.Kind == 42) = b1
      generalize exprK b.Kind = b2
      generalize mayN b = b3
      generalize (a.Kind == 42) = a1
      generalize exprK a.Kind = a2
      generalize mayN a = a3
      generalize (a.Kind == 22) = a4
      cases a3
      · cases a1 <;> cases a2 <;> cases a4 <;> rfl
      · cases b3
        · cases a1 <;> cases a2 <;> cases a4 <;> cases b1 <;> cases b2 <;> rfl
        · cases c3
          · cases a1 <;> cases a2 <;> cases a4 <;> cases b1 <;> cases b2 <;> cases c1 <;> cases c2 <;> rfl
          · cases a1 <;> cases a2 <;> cases a4 <;> cases b1 <;> cases b2 <;> cases c1 <;> cases c2 <;> cases d1 <;> rfl
    · simp [matchS]
  · rw [h]
    rcases l with _ | ⟨a, _ | ⟨b, _ | ⟨c, _ | ⟨d, r⟩⟩⟩⟩
    · rfl
    · simp [matchS]
    · simp [matchS]
    · simp only [getI0, getI1, getI2, Option.bind_some, Ge a (by simp), Ge b (by simp), Gb c (by simp), Gd a (by simp), matchS]
      by_cases ha : a.Kind = 22
      · have t1 : tgtK 22 = false := rfl
        simp only [one119, ha, t1]
        obtain ⟨q, hq⟩ : ∃ q, a.L = q := ⟨_, rfl⟩
        simp only [hq]
        rcases q with _ | ⟨z, _ | ⟨w, r⟩⟩
        · cases oneP b 101 <;> cases oneP c 98 <;> cases mayN a <;> rfl
        · simp only [getI0, Option.bind_some, List.length_singleton]
          cases z.L <;> cases oneP b 101 <;> cases oneP c 98 <;> cases mayN a <;> simp
        · cases oneP b 101 <;> cases oneP c 98 <;> cases mayN a <;> simp
      · have e : (a.Kind == 22) = false := by rw [beq_eq_false_iff_ne]; exact ha
        simp only [one119, one101 a, e, Bool.false_and, Bool.or_false]
        cases ht : tgtK a.Kind with
        | false => cases oneP b 101 <;> cases oneP c 98 <;> rfl
        | true =>
          simp only [tgt_expr ht]
          cases oneP b 101 <;> cases oneP c 98 <;> cases mayN a <;> rfl
    · simp [matchS]
theorem stmt_step (G : GoodR g n) (x : Node) (hd : 6 * deepN x + 2 ≤ n + 1) (hb : bulkN x ≤ 2097152) : credenzaref07_stmt_b g x = some (oneP x 115, ()) := by
  have a1 := deepN_eq x; have a2 := bulkN_eq x
  have Ge : ∀ y ∈ x.L, g.credenzaref07_expr y = some (oneP y 101, ()) := fun y hy => G.expr y (by have := mem_deepL hy; omega) (by have := mem_bulkL hy; omega)
  have Gb : ∀ y ∈ x.L, g.credenzaref07_block y = some (oneP y 98, ()) := fun y hy => G.block y (by have := mem_deepL hy; omega) (by have := mem_bulkL hy; omega)
  have Gs : ∀ y ∈ x.L, g.credenzaref07_stmt y = some (oneP y 115, ()) := fun y hy => G.stmt y (by have := mem_deepL hy; omega) (by have := mem_bulkL hy; omega)
  have Em : ∀ y ∈ x.L, credenzaref07_empty y = some (y.Kind == 42 && mayN y, ()) := fun y hy => empty_eq y (by have := mem_bulkL hy; omega)
  have Gx := G.exprs x.L (by omega) (by omega)
  have Gd := G.decls x (by omega) hb
  have Gk := G.block x (by omega) hb
  have Gc : ∀ a r, x.L = a :: r → g.credenzaref07_cases r = some (casesP r 0, ()) := fun a r h => by
    have c3 : 6 * deepL r + 3 ≤ n := by have : deepL x.L = max (deepN a) (deepL r) := by rw [h, deepL_cons]
                                        omega
    have c4 : bulkL r ≤ 2097152 := by have : bulkL x.L = bulkN a + bulkL r := by rw [h]; simp [bulkL]
                                      omega
    exact G.cases r c3 c4
  have Gl : 27 ≤ x.Kind → x.Kind ≤ 30 → _ := fun h1 h2 => G.loop x h1 h2 (by omega) hb
  unfold credenzaref07_stmt_b
  simp only [re25_eq, own_eq x hb, Option.bind_some, lenI0, lenI1, lenI2, lenI3, lenG1, lenL1, Gx, Gd, Gk]
  show _ = some (stK x.Kind false && mayN x, ())
  by_cases hk : 1 ≤ x.Kind ∧ x.Kind ≤ 42
  · rcases kinds hk with h | h | h | h | h | h | h | h | h | h | h | h | h | h | h | h | h | h | h | h | h | h | h | h | h | h | h | h | h | h | h | h | h | h | h | h | h | h | h | h | h | h
    · -- 1
      have e : stK x.Kind false = false := by rw [h]; rfl
      rw [e, h]
      cases ownP x <;> rfl
    · -- 2
      have e : stK x.Kind false = false := by rw [h]; rfl
      rw [e, h]
      cases ownP x <;> rfl
    · -- 3
      have e : stK x.Kind false = false := by rw [h]; rfl
      rw [e, h]
      cases ownP x <;> rfl
    · -- 4
      have e : stK x.Kind false = false := by rw [h]; rfl
      rw [e, h]
      cases ownP x <;> rfl
    · -- 5
      have e : stK x.Kind false = false := by rw [h]; rfl
      rw [e, h]
      cases ownP x <;> rfl
    · -- 6
      have e : stK x.Kind false = false := by rw [h]; rfl
      rw [e, h]
      cases ownP x <;> rfl
    · -- 7
      have e : stK x.Kind false = false := by rw [h]; rfl
      rw [e, h]
      cases ownP x <;> rfl
    · -- 8
      have e : stK x.Kind false = false := by rw [h]; rfl
      rw [e, h]
      cases ownP x <;> rfl
    · -- 9
      have e : stK x.Kind false = false := by rw [h]; rfl
      rw [e, h]
      cases ownP x <;> rfl
    · -- 10
      have e : stK x.Kind false = false := by rw [h]; rfl
      rw [e, h]
      cases ownP x <;> rfl
    · -- 11
      have e : stK x.Kind false = false := by rw [h]; rfl
      rw [e, h]
      cases ownP x <;> rfl
    · -- 12
      have e : stK x.Kind false = false := by rw [h]; rfl
      rw [e, h]
      cases ownP x <;> rfl
    · -- 13
      have e : stK x.Kind false = false := by rw [h]; rfl
      rw [e, h]
      cases ownP x <;> rfl
    · -- 14
      have e : stK x.Kind false = false := by rw [h]; rfl
      rw [e, h]
      cases ownP x <;> rfl
    · -- 15
      have e : stK x.Kind false = false := by rw [h]; rfl
      rw [e, h]
      cases ownP x <;> rfl
    · -- 16
      have e : stK x.Kind false = false := by rw [h]; rfl
      rw [e, h]
      cases ownP x <;> rfl
    · -- 17
      have e : stK x.Kind false = false := by rw [h]; rfl
      rw [e, h]
      cases ownP x <;> rfl
    · -- 18
      have e : stK x.Kind false = false := by rw [h]; rfl
      rw [e, h]
      cases ownP x <;> rfl
    · -- 19
      have e : stK x.Kind false = false := by rw [h]; rfl
      rw [e, h]
      cases ownP x <;> rfl
    · -- 20
      have e : stK x.Kind false = false := by rw [h]; rfl
      rw [e, h]
      cases ownP x <;> rfl
    · -- 21
      have e : stK x.Kind false = false := by rw [h]; rfl
      rw [e, h]
      cases ownP x <;> rfl
    · -- 22
      have e : stK x.Kind false = true := by rw [h]; rfl
      have e2 : (x.Kind == 22) = true := by rw [h]; rfl
      rw [e, e2]
      cases ho : ownP x with
      | false => rw [may_22 h, ho]; rfl
      | true => rfl
    · -- 23
      have e : stK x.Kind false = false := by rw [h]; rfl
      rw [e, h]
      cases ownP x <;> rfl
    · -- 24
      rw [may_24 h, h]
      cases ownP x with
      | false => rfl
      | true =>
        have e : stK 24 false = true := rfl
        rw [e]
        clear Gx Gd Gk Gl
        obtain ⟨l, hL⟩ : ∃ l, x.L = l := ⟨_, rfl⟩
        rw [hL] at Ge Gb Gs Em
        simp only [hL]
        rcases l with _ | ⟨a, _ | ⟨b, r⟩⟩
        · rfl
        · simp [getI0, Ge a, matchS]
        · simp [matchS]
    · -- 25
      have e : stK x.Kind false = true := by rw [h]; rfl
      rw [one98, e, h]
      cases ho : ownP x with
      | false => rw [may_25 h, ho]; rfl
      | true => rfl
    · -- 26
      rw [may_26 h, h]
      cases ownP x with
      | false => rfl
      | true =>
        have e : stK 26 false = true := rfl
        rw [e]
        clear Gx Gd Gk Gl
        obtain ⟨l, hL⟩ : ∃ l, x.L = l := ⟨_, rfl⟩
        rw [hL] at Ge Gb Gs Em
        simp only [hL]
        rcases l with _ | ⟨a, _ | ⟨b, _ | ⟨c, _ | ⟨d, r⟩⟩⟩⟩
        · rfl
        · simp [matchS, lv3]
        · simp only [getI0, getI1, Option.bind_some, Ge a (by simp), Gb b (by simp), lv3, matchS]
          cases oneP a 101 <;> cases oneP b 98 <;> rfl
        · simp only [getI0, getI1, getI2, Option.bind_some, Ge a (by simp), Gb b (by simp), Gb c (by simp), lv3, matchS]
          cases oneP a 101 <;> cases oneP b 98 <;> cases oneP c 98 <;> rfl
        · simp [matchS, lv3]
    · -- 27
      rw [Gl (by omega) (by omega), may_27 h, h]
      cases ownP x <;> rfl
    · -- 28
      rw [Gl (by omega) (by omega), may_28 h, h]
      cases ownP x <;> rfl
    · -- 29
      rw [Gl (by omega) (by omega), may_29 h, h]
      cases ownP x <;> rfl
    · -- 30
      rw [Gl (by omega) (by omega), may_30 h, h]
      cases ownP x <;> rfl
    · -- 31
      rw [may_31 h, h]
      cases ownP x with
      | false => rfl
      | true =>
        have e : stK 31 false = true := rfl
        rw [e]
        clear Gx Gd Gk Gl
        obtain ⟨l, hL⟩ : ∃ l, x.L = l := ⟨_, rfl⟩
        rw [hL] at Ge Gb Gs Em
        simp only [hL]
        rcases l with _ | ⟨a, r⟩ <;> simp [matchS]
    · -- 32
      rw [may_32 h, h]
      cases ownP x with
      | false => rfl
      | true =>
        have e : stK 32 false = true := rfl
        rw [e]
        clear Gx Gd Gk Gl
        obtain ⟨l, hL⟩ : ∃ l, x.L = l := ⟨_, rfl⟩
        rw [hL] at Ge Gb Gs Em
        simp only [hL]
        rcases l with _ | ⟨a, r⟩ <;> simp [matchS]
    · -- 33
      rw [may_33 h, h]
      cases ownP x with
      | false => rfl
      | true =>
        have e : stK 33 false = true := rfl
        rw [e]
        clear Gx Gd Gk Gl
        obtain ⟨l, hL⟩ : ∃ l, x.L = l := ⟨_, rfl⟩
        rw [hL] at Ge Gb Gs Em
        simp only [hL]
        rcases l with _ | ⟨a, _ | ⟨b, r⟩⟩ <;> simp [matchS, lv1]
    · -- 34
      rw [may_34 h, h]
      cases ownP x with
      | false => rfl
      | true =>
        have e : stK 34 false = true := rfl
        rw [e]
        clear Gx Gd Gk Gl
        obtain ⟨l, hL⟩ : ∃ l, x.L = l := ⟨_, rfl⟩
        rw [hL] at Ge Gb Gs Em
        simp only [hL]
        rcases l with _ | ⟨a, _ | ⟨b, r⟩⟩
        · rfl
        · simp [getI0, Ge a, matchS]
        · simp [matchS]
    · -- 35
      rw [may_35 h, h]
      cases ownP x with
      | false => rfl
      | true =>
        have e : stK 35 false = true := rfl
        rw [e]
        clear Gx Gd Gk Gl
        obtain ⟨l, hL⟩ : ∃ l, x.L = l := ⟨_, rfl⟩
        rw [hL] at Ge Gb Gs Em
        simp only [hL]
        rcases l with _ | ⟨a, _ | ⟨b, _ | ⟨c, _ | ⟨d, r⟩⟩⟩⟩
        · rfl
        · simp [tryP]
        · simp [tryP]
        · simp only [getI0, getI1, getI2, Option.bind_some, Gb a (by simp), Gb b (by simp), Gb c (by simp), Em b (by simp), Em c (by simp), tryP, one98 b, one98 c, one99]
          have b5 : (b.Kind == 25 && b.Kind == 42) = false := by rw [Bool.eq_false_iff]; intro h; simp only [Bool.and_eq_true, beq_iff_eq] at h; omega
          have c5 : (c.Kind == 25 && c.Kind == 42) = false := by rw [Bool.eq_false_iff]; intro h; simp only [Bool.and_eq_true, beq_iff_eq] at h; omega
          revert b5 c5
          generalize (b.Kind == 25) = b1
          generalize (b.Kind == 42) = b2
          generalize mayN b = b3
          generalize (c.Kind == 25) = c1
          generalize (c.Kind == 42) = c2
          generalize mayN c = c3
          intro b5 c5
          cases oneP a 98 <;> cases b1 <;> cases b2 <;> cases b3 <;> cases c1 <;> cases c2 <;> cases c3 <;> first | rfl | (cases b5) | (cases c5)
        · simp [tryP]
    · -- 36
      rw [may_36 h, h]
      cases ownP x with
      | false => rfl
      | true =>
        have e : stK 36 false = true := rfl
        rw [e]
        clear Gx Gd Gk Gl
        obtain ⟨l, hL⟩ : ∃ l, x.L = l := ⟨_, rfl⟩
        rw [hL] at Ge Gb Gs Em
        simp only [hL]
        rcases l with _ | ⟨a, r⟩
        · rfl
        · simp only [getI0, List.length_cons, cut1, Option.bind_some, Ge a (by simp), Gc a r hL, switchP]
          have : decide (1 ≤ r.length + 1) = true := by simp
          rw [this]
          cases oneP a 101 <;> rfl
    · -- 37
      have e : stK x.Kind false = false := by rw [h]; rfl
      rw [e, h]
      cases ownP x <;> rfl
    · -- 38
      rw [may_38 h, h]
      cases ownP x with
      | false => rfl
      | true =>
        have e : stK 38 false = true := rfl
        rw [e]
        clear Gx Gd Gk Gl
        obtain ⟨l, hL⟩ : ∃ l, x.L = l := ⟨_, rfl⟩
        rw [hL] at Ge Gb Gs Em
        simp only [hL]
        rcases l with _ | ⟨a, _ | ⟨b, r⟩⟩
        · rfl
        · simp [getI0, Gs a, matchS]
        · simp [matchS]
    · -- 39
      have e : stK x.Kind false = false := by rw [h]; rfl
      rw [e, h]
      cases ownP x <;> rfl
    · -- 40
      rw [may_40 h, h]
      cases ownP x with
      | false => rfl
      | true =>
        have e : stK 40 false = true := rfl
        rw [e]
        clear Gx Gd Gk Gl
        obtain ⟨l, hL⟩ : ∃ l, x.L = l := ⟨_, rfl⟩
        rw [hL] at Ge Gb Gs Em
        simp only [hL]
        rcases l with _ | ⟨a, r⟩ <;> simp [matchS]
    · -- 41
      have e : stK x.Kind false = false := by rw [h]; rfl
      rw [e, h]
      cases ownP x <;> rfl
    · -- 42
      have e : stK x.Kind false = false := by rw [h]; rfl
      rw [e, h]
      cases ownP x <;> rfl
  · have e0 : (stK x.Kind false && mayN x) = false := by rw [may_no hk, Bool.and_false]
    rw [e0]
    have k22 : (x.Kind == 22) = false := by rw [beq_eq_false_iff_ne]; omega
    have k24 : (x.Kind == 24) = false := by rw [beq_eq_false_iff_ne]; omega
    have k34 : (x.Kind == 34) = false := by rw [beq_eq_false_iff_ne]; omega
    have k25 : (x.Kind == 25) = false := by rw [beq_eq_false_iff_ne]; omega
    have k26 : (x.Kind == 26) = false := by rw [beq_eq_false_iff_ne]; omega
    have k27 : (x.Kind == 27) = false := by rw [beq_eq_false_iff_ne]; omega
    have k28 : (x.Kind == 28) = false := by rw [beq_eq_false_iff_ne]; omega
    have k29 : (x.Kind == 29) = false := by rw [beq_eq_false_iff_ne]; omega
    have k30 : (x.Kind == 30) = false := by rw [beq_eq_false_iff_ne]; omega
    have k31 : (x.Kind == 31) = false := by rw [beq_eq_false_iff_ne]; omega
    have k32 : (x.Kind == 32) = false := by rw [beq_eq_false_iff_ne]; omega
    have k40 : (x.Kind == 40) = false := by rw [beq_eq_false_iff_ne]; omega
    have k33 : (x.Kind == 33) = false := by rw [beq_eq_false_iff_ne]; omega
    have k35 : (x.Kind == 35) = false := by rw [beq_eq_false_iff_ne]; omega
    have k36 : (x.Kind == 36) = false := by rw [beq_eq_false_iff_ne]; omega
    have k38 : (x.Kind == 38) = false := by rw [beq_eq_false_iff_ne]; omega
    simp only [k22, k24, k34, k25, k26, k27, k28, k29, k30, k31, k32, k40, k33, k35, k36, k38, Bool.false_eq_true, if_false]
    cases ownP x <;> rfl
end
theorem good : ∀ n, GoodR (Rec_credenzaref07_stmts_g n) n
  | 0 => ⟨fun y h => by have := deepN_eq y; omega, fun l h => by omega, fun y h => by omega, fun l f h => by omega, fun y h => by have := deepN_eq y; omega, fun y h => by have := deepN_eq y; omega, fun y _ _ h => by omega, fun l h => by omega⟩
  | n + 1 =>
    have G := good n
    ⟨fun y h hb => expr_step G y h hb, fun l h hb => exprs_step G l h hb, fun y h hb => stmt_step G y h hb, fun l f h hb => stmts_step G l f h hb, fun y h hb => decls_step G y h hb, fun y h hb => block_step G y h hb, fun y h1 h2 h hb => loop_step G y h1 h2 h hb, fun l h hb => cases_step G l h hb⟩
theorem ref_Check_eq (x : Node) (hb : bulkN x ≤ 2097152) : credenzaref07_Check x = some (checkP x, ()) := by
  have a1 := deepN_eq x; have a2 := bulkN_eq x; have a3 := deep_size x; have a4 := size_bulk x
  have hs : credenzaref07_stmts x.L true = some (x.L.all fun y => stK y.Kind true && mayN y, ()) := (good 1000000000000).stmts x.L true (by omega) (by omega)
  have hd : credenzaref07_Deep x = some ((deepN x : Int), ()) := (congrFun (refDeep_n _) x).trans (tree_Deep_eq x (by omega))
  have ht := tree_Check_eq x hb
  unfold tree_Check at ht
  unfold credenzaref07_Check
  simp only [re25_eq, tree_may_eq x hb, tree_Deep_eq x (by omega), Option.bind_some] at ht
  simp only [re25_eq, own_eq x hb, hs, hd, Option.bind_some]
  by_cases h : x.Kind = 41
  · rw [← ht, may_41 h]
    have e : (x.L.all fun y => stK y.Kind true && mayN y) = matchS [] (some 120) x.L := rfl
    rw [e]
    cases ownP x <;> cases matchS [] (some 120) x.L <;> rfl
  · have e : (x.Kind != 41) = true := by simpa using h
    rw [← ht]
    simp only [e, if_true]
end Go.D07


/- Chapter 7, plainly: the tokens of a tree: what the writer lays down, told without a writer. -/
namespace Go.D07
open Go Go.Gw Go.Dn
set_option linter.unusedSimpArgs false
noncomputable section

/-- a node with what is written of it: how tight it binds; as an expression, where an in may stand (false) or not; as a statement; what stands below -/
inductive Tk where
  | mk (x : Node) (lvl : Int) (ex : Bool → List Str) (st : List Str) (kids : List Tk)
def Tk.x : Tk → Node | .mk x _ _ _ _ => x
def Tk.lvl : Tk → Int | .mk _ l _ _ _ => l
def Tk.ex : Tk → Bool → List Str | .mk _ _ e _ _ => e
def Tk.st : Tk → List Str | .mk _ _ _ s _ => s
def Tk.kids : Tk → List Tk | .mk _ _ _ _ k => k
def quoteP (s : Str) : Str := match units_Quote s with
  | some (q, _, _) => q
  | none => []
def op5 : Str := [32, 61, 61, 32, 33, 61, 32, 61, 61, 61, 32, 33, 61, 61, 32]
def op7 : Str := [32, 43, 32, 45, 32]
def op8 : Str := [32, 42, 32, 47, 32, 37, 32]
def lvlT (x : Node) (ks : List Tk) : Int :=
  if (x.Kind == 21) = true then 0
  else if (x.Kind == 20) = true then 1
  else if (x.Kind == 19) = true then 2
  else if (x.Kind == 18) = true then 4 - Lib.index [38, 124] (x.Name.take 1)
  else if (x.Kind == 17) = true then (if amongP op5 x.Name = true then 5 else if amongP op7 x.Name = true then 7 else if amongP op8 x.Name = true then 8 else 6)
  else if (x.Kind == 15) = true then 9
  else if (x.Kind == 16) = true then 10 - x.Num
  else if (x.Kind == 13) = true then 11
  else if (x.Kind == 11 || x.Kind == 12) = true then (match ks with | k :: _ => min (max k.lvl 11) 12 | [] => 0)
  else if (x.Kind == 14) = true then 12
  else 13
/-- an expression where this level is asked for -/
def atT (t : Tk) (least : Int) (no : Bool) : List Str :=
  if (decide (t.lvl < least) || ((no && (t.x.Kind == 17)) && (t.x.Name == ([105, 110] : Str)))) = true then [40] :: (t.ex false ++ [[41]]) else t.ex no
def k0 (ks : List Tk) (f : Tk → List Str) : List Str := match ks with | k :: _ => f k | [] => []
def k1 (ks : List Tk) (f : Tk → List Str) : List Str := match ks with | _ :: k :: _ => f k | _ => []
def k2 (ks : List Tk) (f : Tk → List Str) : List Str := match ks with | _ :: _ :: k :: _ => f k | _ => []
def k3 (ks : List Tk) (f : Tk → List Str) : List Str := match ks with | _ :: _ :: _ :: k :: _ => f k | _ => []
/-- with commas between -/
def commas (f : Tk → List Str) : List Tk → List Str
  | [] => []
  | k :: r => f k ++ r.flatMap fun q => [44] :: f q
def itemT (no : Bool) (t : Tk) : List Str := if (t.x.Kind == 9) = true then quoteP t.x.Text :: [58] :: k0 t.kids fun k => atT k 1 no else atT t 1 no
def declT (no : Bool) (t : Tk) : List Str := t.x.Name :: k0 t.kids fun k => [61] :: atT k 1 no
def beginT (t : Tk) (least : Int) (no : Bool) : List Str :=
  if (t.x.Kind == 42) = true then []
  else if (t.x.Kind == 22) = true then [118, 97, 114] :: commas (declT no) t.kids
  else atT t least no
def namesT : List Str → List Str
  | [] => []
  | s :: r => s :: r.flatMap fun q => [[44], q]
def stmtsT (ks : List Tk) : List Str := ks.flatMap Tk.st
def funcT (x : Node) (ks : List Tk) : List Str :=
  [102, 117, 110, 99, 116, 105, 111, 110] :: ((if (x.Name == ([] : Str)) = true then [] else [x.Name]) ++ ([40] :: (namesT x.Names ++ ([41] :: [123] :: (stmtsT ks ++ [[125]])))))
def headT (w : Str) (t : Tk) : List Str := w :: [40] :: (atT t 0 false ++ [[41]])
def exT (x : Node) (lvl : Int) (ks : List Tk) (no : Bool) : List Str :=
  if (x.Kind == 1) = true then [Lib.itoa x.Num]
  else if (x.Kind == 2) = true then [quoteP x.Text]
  else if (x.Kind == 3) = true then [x.Name]
  else if (x.Kind == 4) = true then [[116, 104, 105, 115]]
  else if (x.Kind == 5) = true then [[110, 117, 108, 108]]
  else if (x.Kind == 6) = true then [Lib.formatBool (x.Num == 1)]
  else if (x.Kind == 7) = true then [91] :: (commas (itemT false) ks ++ [[93]])
  else if (x.Kind == 8) = true then [123] :: (commas (itemT false) ks ++ [[125]])
  else if (x.Kind == 10) = true then funcT x ks
  else if (x.Kind == 11) = true then k0 ks (fun k => atT k 11 no) ++ [[46], x.Name]
  else if (x.Kind == 12) = true then k0 ks (fun k => atT k 11 no) ++ ([91] :: (k1 ks (fun k => atT k 0 false) ++ [[93]]))
  else if (x.Kind == 13) = true then k0 ks (fun k => atT k 11 no) ++ ([40] :: (commas (itemT false) ks.tail ++ [[41]]))
  else if (x.Kind == 14) = true then [110, 101, 119] :: (k0 ks (fun k => atT k 12 no) ++ ([40] :: (commas (itemT false) ks.tail ++ [[41]])))
  else if (x.Kind == 15) = true then x.Name :: k0 ks fun k => atT k 9 no
  else if (x.Kind == 16) = true then (if (x.Num == 1) = true then x.Name :: k0 ks fun k => atT k 11 no else k0 ks (fun k => atT k 11 no) ++ [x.Name])
  else if (x.Kind == 19) = true then k0 ks (fun k => atT k 3 no) ++ ([63] :: (k1 ks (fun k => atT k 1 false) ++ ([58] :: k2 ks fun k => atT k 1 no)))
  else if (x.Kind == 20) = true then k0 ks (fun k => atT k 11 no) ++ (x.Name :: k1 ks fun k => atT k 1 no)
  else if (x.Kind == 21) = true then k0 ks (fun k => atT k 0 no) ++ ([44] :: k1 ks fun k => atT k 1 no)
  else k0 ks (fun k => atT k lvl no) ++ (x.Name :: k1 ks fun k => atT k (lvl + 1) no)
/-- an expression as a statement: in brackets where it begins like another one -/
def bareT (l : List Str) : List Str := match l with
  | [] => []
  | w :: r => if (w == ([123] : Str) || w == ([102, 117, 110, 99, 116, 105, 111, 110] : Str)) = true then [40] :: ((w :: r) ++ [[41]]) else w :: r
def wordT (x : Node) : List Str :=
  (if (x.Kind == 31) = true then [[98, 114, 101, 97, 107]] else if (x.Kind == 32) = true then [[99, 111, 110, 116, 105, 110, 117, 101]] else if (x.Kind == 33) = true then [[114, 101, 116, 117, 114, 110]] else if (x.Kind == 34) = true then [[116, 104, 114, 111, 119]] else [])
    ++ (if (x.Name == ([] : Str)) = true then [] else [x.Name])
def stT (x : Node) (ks : List Tk) : List Str :=
  if (x.Kind == 22) = true then ([118, 97, 114] :: commas (declT false) ks) ++ [[59]]
  else if (x.Kind == 24) = true then bareT (k0 ks fun k => atT k 0 false) ++ [[59]]
  else if (x.Kind == 25) = true then [123] :: (stmtsT ks ++ [[125]])
  else if (x.Kind == 26) = true then k0 ks (headT [105, 102]) ++ (k1 ks Tk.st ++ k2 ks fun k => [101, 108, 115, 101] :: k.st)
  else if (x.Kind == 27) = true then k0 ks (headT [119, 104, 105, 108, 101]) ++ k1 ks Tk.st
  else if (x.Kind == 28) = true then [100, 111] :: (k0 ks Tk.st ++ (k1 ks (headT [119, 104, 105, 108, 101]) ++ [[59]]))
  else if (x.Kind == 29) = true then [102, 111, 114] :: [40] :: (k0 ks (fun k => beginT k 0 true) ++ ([59] :: (k1 ks (fun k => beginT k 0 false) ++ ([59] :: (k2 ks (fun k => beginT k 0 false) ++ ([41] :: k3 ks Tk.st))))))
  else if (x.Kind == 30) = true then [102, 111, 114] :: [40] :: (k0 ks (fun k => beginT k 11 true) ++ ([105, 110] :: (k1 ks (fun k => atT k 0 false) ++ ([41] :: k2 ks Tk.st))))
  else if (x.Kind == 35) = true then [116, 114, 121] :: (k0 ks Tk.st ++ (k1 ks (fun k => if (k.x.Kind == 25) = true then [99, 97, 116, 99, 104] :: [40] :: x.Name :: [41] :: k.st else []) ++ k2 ks fun k => if (k.x.Kind == 25) = true then [102, 105, 110, 97, 108, 108, 121] :: k.st else []))
  else if (x.Kind == 36) = true then k0 ks (headT [115, 119, 105, 116, 99, 104]) ++ ([123] :: (stmtsT ks.tail ++ [[125]]))
  else if (x.Kind == 37) = true then k0 ks (fun k => (if (k.x.Kind != 42) = true then [99, 97, 115, 101] else [100, 101, 102, 97, 117, 108, 116]) :: beginT k 0 false) ++ ([58] :: stmtsT ks.tail)
  else if (x.Kind == 38) = true then x.Name :: [58] :: k0 ks Tk.st
  else if (x.Kind == 39) = true then funcT x ks
  else wordT x ++ (ks.flatMap (fun k => atT k 0 false) ++ [[59]])
mutual
def tkN : Node → Tk
  | ⟨k, n, m, t, ns, l⟩ =>
    let x : Node := ⟨k, n, m, t, ns, l⟩
    let ks := tkL l
    .mk x (lvlT x ks) (exT x (lvlT x ks) ks) (stT x ks) ks
def tkL : List Node → List Tk
  | [] => []
  | x :: r => tkN x :: tkL r
end
theorem tkN_eq (x : Node) : tkN x = .mk x (lvlT x (tkL x.L)) (exT x (lvlT x (tkL x.L)) (tkL x.L)) (stT x (tkL x.L)) (tkL x.L) := by cases x; simp [tkN]
theorem tkL_map : ∀ l : List Node, tkL l = l.map tkN
  | [] => by simp [tkL]
  | x :: r => by simp [tkL, tkL_map r]
end
end Go.D07

