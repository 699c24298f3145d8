/- Chapter 5: any bytes as a key. Plain Lean over the printed functions. -/
import Derived.Test.YtfankedlhjnpfaaDoorOrder4
set_option linter.unusedVariables false
set_option linter.unusedSimpArgs false
set_option linter.unnecessarySimpa false
namespace Go.Gw
open Go.Proofs
set_option linter.unusedSimpArgs false

def beV (v : Nat) (l : Str) : Nat := l.foldl (fun n b => n * 256 + b.toNat) v
def scanT : Str → Option (Str × Str)
  | [] => none
  | [_] => none
  | b :: c :: r => if b = 0 then (if c = 1 then some ([], r) else if c = 255 then (scanT r).map (fun p => (0 :: p.1, p.2)) else none) else (scanT (c :: r)).map (fun p => (b :: p.1, p.2))
def bad : List Part × Int := ([], 22)
def partOf : Str → Option (Part × Str)
  | [] => none
  | c :: r => if c = 16 then (if 8 ≤ r.length then (if -9007199254740991 ≤ (beV 0 (r.take 8) : Int) - 9223372036854775808 ∧ (beV 0 (r.take 8) : Int) - 9223372036854775808 ≤ 9007199254740991 then some ({ IsText := false, N := (beV 0 (r.take 8) : Int) - 9223372036854775808, S := [] }, r.drop 8) else none) else none)
    else if c = 32 then (match scanT r with | some (t, r') => if t.length % 2 = 0 then some ({ IsText := true, N := 0, S := t }, r') else none | none => none)
    else none
def decF : Nat → Str → Option (List Part)
  | _, [] => some []
  | 0, _ => none
  | f + 1, s => match partOf s with | some (p, r) => (decF f r).map (p :: ·) | none => none
def decode (s : Str) : List Part × Int := if s.length > 256 then bad else match decF s.length s with | some k => (k, 0) | none => bad

theorem scanT_length : ∀ (s : Str) (t r : Str), scanT s = some (t, r) → r.length + t.length + 2 ≤ s.length
  | [], _, _, h => by simp [scanT] at h
  | [_], _, _, h => by simp [scanT] at h
  | b :: c :: s, t, r, h => by
    unfold scanT at h
    split at h
    · split at h
      · cases h; simp only [List.length_cons, List.length_nil]; omega
      · split at h
        · cases hs : scanT s with
          | none => rw [hs] at h; cases h
          | some p => rw [hs] at h; cases h; have := scanT_length s _ _ hs; simp; omega
        · cases h
    · cases hs : scanT (c :: s) with
      | none => rw [hs] at h; cases h
      | some p => rw [hs] at h; cases h; have := scanT_length (c :: s) _ _ hs; simp at this ⊢; omega
theorem partOf_cons (c : UInt8) (r : Str) : partOf (c :: r) = if c = 16 then (if 8 ≤ r.length then (if -9007199254740991 ≤ (beV 0 (r.take 8) : Int) - 9223372036854775808 ∧ (beV 0 (r.take 8) : Int) - 9223372036854775808 ≤ 9007199254740991 then some ({ IsText := false, N := (beV 0 (r.take 8) : Int) - 9223372036854775808, S := [] }, r.drop 8) else none) else none)
    else if c = 32 then (match scanT r with | some (t, r') => if t.length % 2 = 0 then some ({ IsText := true, N := 0, S := t }, r') else none | none => none)
    else none := rfl
theorem textB_length_ge (s : Str) : s.length ≤ (textB s).length := by
  induction s with
  | nil => exact Nat.le_refl _
  | cons x t ih =>
    unfold textB at ih ⊢
    rw [List.flatMap_cons, List.length_append]
    have : 1 ≤ (if x = 0 then ([0, 255] : Str) else [x]).length := by by_cases h : x = 0 <;> simp [h]
    simp only [List.length_cons]; omega
theorem partOf_length {s : Str} {p : Part} {r : Str} (h : partOf s = some (p, r)) : r.length < s.length := by
  cases s with
  | nil => cases h
  | cons c s =>
    rw [partOf_cons] at h
    split at h
    · split at h
      · split at h
        · cases h; simp; omega
        · cases h
      · cases h
    · split at h
      · cases hs : scanT s with
        | none => rw [hs] at h; cases h
        | some q =>
          obtain ⟨t, r'⟩ := q
          rw [hs] at h
          simp only at h
          split at h
          · cases h; have := scanT_length s _ _ hs; simp; omega
          · cases h
      · cases h

/-- a byte more -/
theorem or_byte (n b : Nat) (hn : n < 72057594037927936) (hb : b < 256) : IntKind.wrap .u64 ((BitVec.ofInt 64 (IntKind.wrap .u64 ((n : Int) * 2 ^ 8)) ||| BitVec.ofInt 64 (IntKind.wrap .u64 (b : Int))).toNat) = ((n * 256 + b : Nat) : Int) := by
  have e1 : IntKind.wrap .u64 ((n : Int) * 2 ^ 8) = ((n * 256 : Nat) : Int) := by
    have : ((n : Int) * 2 ^ 8) = ((n * 256 : Nat) : Int) := by simp
    rw [this, wrap_u64] <;> omega
  have e2 : IntKind.wrap .u64 (b : Int) = (b : Int) := by rw [wrap_u64] <;> omega
  rw [e1, e2, BitVec.toNat_or]
  have e3 : (BitVec.ofInt 64 ((n * 256 : Nat) : Int)).toNat = n * 256 := by
    rw [BitVec.ofInt_natCast, BitVec.toNat_ofNat]; omega
  have e4 : (BitVec.ofInt 64 (b : Int)).toNat = b := by
    rw [BitVec.ofInt_natCast, BitVec.toNat_ofNat]; omega
  rw [e3, e4]
  have e5 : n * 256 ||| b = n * 256 + b := by
    have := Nat.shiftLeft_add_eq_or_of_lt (b := b) (i := 8) hb n
    rw [Nat.shiftLeft_eq] at this
    exact this.symm
  rw [e5, wrap_u64] <;> omega
theorem num_loop (s : Str) (hs : 9 ≤ s.length) : ∀ (n i v : Nat), i + n = 9 → 1 ≤ i → v < 256 ^ (i - 1) → loopM (order_Decode.l4 s) ((v : Int), (i : Int)) = some ((beV v ((s.drop i).take n) : Nat) : Int) := by
  intro n
  induction n with
  | zero =>
    intro i v hi h1 hv
    obtain rfl : i = 9 := by omega
    rw [loopM_out (e := (v : Int))]
    · simp [beV]
    · unfold order_Decode.l4; rfl
  | succ n ih =>
    intro i v hi h1 hv
    have hlt : i < s.length := by omega
    have hstep : order_Decode.l4 s ((v : Int), (i : Int)) = some (.inl (((v * 256 + s[i].toNat : Nat) : Int), ((i + 1 : Nat) : Int))) := by
      unfold order_Decode.l4
      have c : ((i : Int) < 9) := by omega
      have hv2 : v < 72057594037927936 := Nat.lt_of_lt_of_le hv (by
        have : (72057594037927936 : Nat) = 256 ^ 7 := by decide
        rw [this]; exact Nat.pow_le_pow_right (by decide) (by omega))
      have hw : IntKind.wrap .i64 ((i : Int) + 1) = ((i + 1 : Nat) : Int) := by rw [wrap_i64 (by omega) (by omega)]; omega
      simp only [c, decide_true, if_true, getB_nat, List.getElem?_eq_getElem hlt, Option.map_some, Option.bind_some, or_byte v _ hv2 (s[i].toNat_lt), hw]
    rw [loopM_go hstep, ih (i + 1) _ (by omega) (by omega) _]
    · rw [List.drop_eq_getElem_cons hlt, List.take_succ_cons]; rfl
    · have e : i + 1 - 1 = (i - 1) + 1 := by omega
      rw [e, Nat.pow_succ]
      have := s[i].toNat_lt
      omega
theorem beV_lt : ∀ (l : Str) (v : Nat), beV v l < (v + 1) * 256 ^ l.length
  | [], v => by simp [beV]
  | b :: l, v => by
    have := beV_lt l (v * 256 + b.toNat)
    have hb := b.toNat_lt
    simp only [beV, List.foldl_cons, List.length_cons, Nat.pow_succ] at this ⊢
    have h2 : (v * 256 + b.toNat + 1) * 256 ^ l.length ≤ ((v + 1) * 256) * 256 ^ l.length := Nat.mul_le_mul_right _ (by omega)
    have h3 : (v + 1) * (256 ^ l.length * 256) = ((v + 1) * 256) * 256 ^ l.length := by rw [Nat.mul_comm (256 ^ l.length), Nat.mul_assoc]
    omega
theorem beV8 (l : Str) : beV 0 (l.take 8) < 18446744073709551616 := by
  have h := beV_lt (l.take 8) 0
  have h2 : 256 ^ (l.take 8).length ≤ 256 ^ 8 := Nat.pow_le_pow_right (by decide) (by rw [List.length_take]; omega)
  omega
theorem down_eq (x : Nat) (hx : x < 18446744073709551616) : IntKind.wrap .i64 (IntKind.wrap .u64 ((BitVec.ofInt 64 (x : Int) ^^^ BitVec.ofInt 64 9223372036854775808).toNat)) = (x : Int) - 9223372036854775808 := by
  rw [flip_eq (x : Int) (by omega) (by omega), wrap_i64_eq]
  split <;> omega
theorem down_eq2 (x : Nat) (hx : x < 18446744073709551616) : IntKind.wrap .i64 (IntKind.wrap .u64 ((x : Int) - 9223372036854775808)) = (x : Int) - 9223372036854775808 := by
  rw [wrap_u64_mod, wrap_i64_eq]
  split <;> omega
theorem rep_back (t : Str) : Lib.replaceAll (textB t) [0, 255] [0] = t := by
  induction t with
  | nil => exact replaceAll_nil (by decide) (by decide)
  | cons b t ih =>
    unfold textB at ih ⊢
    rw [List.flatMap_cons]
    by_cases hb : b = 0
    · subst hb
      simp only [if_true, List.cons_append, List.nil_append]
      rw [replaceAll_hit (by decide) (by decide) (by simp) (by simp [List.isPrefixOf])]
      simp [ih]
    · simp only [hb, if_false, List.cons_append, List.nil_append]
      rw [replaceAll_miss (by decide) (by decide) (by simp [List.isPrefixOf]; intro h; exact absurd h.symm hb), ih]
theorem textB_append (s t : Str) : textB (s ++ t) = textB s ++ textB t := by simp [textB]

theorem text_loop {β : Type} (s : Str) (hs : s.length ≤ 256) (acc : List Part) (ha : acc.length ≤ 256) (K : (Unit) ⊕ ((List Part) × Int) ⊕ (Str × (List Part)) → Option β) (B : β) (hK1 : K (.inl ()) = some B) (hK2 : K (.inr (.inl ([], 22))) = some B) :
    ∀ (n at_ : Nat) (t0 : Str), s.length - at_ ≤ n → 1 ≤ at_ → at_ ≤ s.length → (s.drop 1).take (at_ - 1) = textB t0 →
      Option.bind (loopM (order_Decode.l5 s acc) (at_ : Int)) K = match scanT (s.drop at_) with | some (t, r) => if (t0 ++ t).length % 2 = 0 then K (.inr (.inr (r, acc ++ [{ IsText := true, N := 0, S := t0 ++ t }]))) else some B | none => some B := by
  intro n
  induction n with
  | zero =>
    intro at_ t0 hn h1 h2 ht
    obtain rfl : at_ = s.length := by omega
    have hstep : order_Decode.l5 s acc (s.length : Int) = some (.inr (.inl ())) := by
      unfold order_Decode.l5
      have c : ¬ (IntKind.wrap .i64 ((s.length : Int) + 1) < (s.length : Int)) := by rw [wrap_i64 (by omega) (by omega)]; omega
      simp only [c, decide_false, Bool.false_eq_true, if_false]
    rw [loopM_out hstep, List.drop_length]
    simp [scanT, hK1]
  | succ n ih =>
    intro at_ t0 hn h1 h2 ht
    have w1 : IntKind.wrap .i64 ((at_ : Int) + 1) = ((at_ + 1 : Nat) : Int) := by rw [wrap_i64 (by omega) (by omega)]; omega
    have w2 : IntKind.wrap .i64 ((at_ : Int) + 2) = ((at_ + 2 : Nat) : Int) := by rw [wrap_i64 (by omega) (by omega)]; omega
    by_cases hlt : at_ + 1 < s.length
    · have hb : at_ < s.length := by omega
      have e1 : s.drop at_ = s[at_] :: s[at_ + 1] :: s.drop (at_ + 2) := by rw [List.drop_eq_getElem_cons hb, List.drop_eq_getElem_cons hlt]
      have e2 : s.drop (at_ + 1) = s[at_ + 1] :: s.drop (at_ + 2) := by rw [List.drop_eq_getElem_cons hlt]
      have hc : cutL s (at_ : Int) ((at_ + 2 : Nat) : Int) = some [s[at_], s[at_ + 1]] := by
        rw [cutL_nat s at_ (at_ + 2) (by omega) (by omega), e1]
        have : at_ + 2 - at_ = 2 := by omega
        rw [this]; rfl
      have hc1 : cutL s 1 (at_ : Int) = some (textB t0) := by
        have := cutL_nat s 1 at_ (by omega) (by omega)
        rw [ht] at this; exact this
      have htl : (textB t0).length ≤ 100000000 := by rw [← ht, List.length_take, List.length_drop]; omega
      have htl2 := textB_length_ge t0
      have cc : (((at_ + 1 : Nat) : Int) < ((s.length : Nat) : Int)) := by omega
      rw [e1]
      unfold scanT
      by_cases hz : s[at_] = 0
      · rw [if_pos hz]
        by_cases ho : s[at_ + 1] = 1
        · rw [if_pos ho]
          simp only [List.append_nil]
          have hstep : order_Decode.l5 s acc (at_ : Int) = some (if t0.length % 2 = 0 then .inr (.inr (.inr (s.drop (at_ + 2), acc ++ [{ IsText := true, N := 0, S := t0 }]))) else .inr (.inr (.inl ([], 22)))) := by
            unfold order_Decode.l5
            rw [w1, w2]
            simp only [cc, decide_true, if_true, getB_nat, List.getElem?_eq_getElem hb, Option.map_some, Option.bind_some, hz, hc, ho, hc1]
            rw [strings_ReplaceAll_eq _ _ _ htl (by decide) (by decide), rep_back]
            simp only [Option.bind_some, units_Check_eq t0 (by omega)]
            have hc2 := cutL_to_end s (at_ + 2) (by omega)
            rw [hc2, room_ok (by omega)]
            by_cases hp : t0.length % 2 = 0 <;> simp [hp]
          by_cases hp : t0.length % 2 = 0
          · rw [if_pos hp] at hstep ⊢; rw [loopM_out hstep]; rfl
          · rw [if_neg hp] at hstep ⊢; rw [loopM_out hstep]; exact hK2
        · rw [if_neg ho]
          by_cases hx : s[at_ + 1] = 255
          · rw [if_pos hx]
            have hstep : order_Decode.l5 s acc (at_ : Int) = some (.inl ((at_ + 2 : Nat) : Int)) := by
              unfold order_Decode.l5
              rw [w1, w2]
              have n1 : (([s[at_], s[at_ + 1]] : Str) == [0, 1]) = false := by simp [hz, hx]
              have n2 : (([s[at_], s[at_ + 1]] : Str) == [0, 255]) = true := by simp [hz, hx]
              have n3 : ((((s[at_].toNat : Nat) : Int)) != 0) = false := by simp [hz]
              simp only [cc, decide_true, if_true, getB_nat, List.getElem?_eq_getElem hb, Option.map_some, Option.bind_some, hc, n1, n2, n3, Bool.false_eq_true, if_false, Bool.not_true]
            rw [loopM_go hstep]
            have ht' : (s.drop 1).take (at_ + 2 - 1) = textB (t0 ++ [0]) := by
              rw [textB_append, ← ht]
              have : at_ + 2 - 1 = (at_ - 1) + 2 := by omega
              rw [this, List.take_add, List.drop_drop]
              have : 1 + (at_ - 1) = at_ := by omega
              rw [this, e1, hz, hx]; rfl
            rw [ih (at_ + 2) (t0 ++ [0]) (by omega) (by omega) (by omega) ht']
            cases scanT (s.drop (at_ + 2)) with
            | none => rfl
            | some p => simp only [Option.map_some, List.append_assoc, List.cons_append, List.nil_append]
          · rw [if_neg hx]
            have hstep : order_Decode.l5 s acc (at_ : Int) = some (.inr (.inr (.inl ([], 22)))) := by
              unfold order_Decode.l5
              rw [w1, w2]
              have n1 : (([s[at_], s[at_ + 1]] : Str) == [0, 1]) = false := by simp [ho]
              have n2 : (([s[at_], s[at_ + 1]] : Str) == [0, 255]) = false := by simp [hx]
              have n3 : ((((s[at_].toNat : Nat) : Int)) != 0) = false := by simp [hz]
              simp only [cc, decide_true, if_true, getB_nat, List.getElem?_eq_getElem hb, Option.map_some, Option.bind_some, hc, n1, n2, n3, Bool.false_eq_true, if_false, Bool.not_false]
            rw [loopM_out hstep]; exact hK2
      · rw [if_neg hz]
        have hstep : order_Decode.l5 s acc (at_ : Int) = some (.inl ((at_ + 1 : Nat) : Int)) := by
          unfold order_Decode.l5
          rw [w1]
          have n3 : ((((s[at_].toNat : Nat) : Int)) != 0) = true := by
            simp only [bne_iff_ne, ne_eq]
            intro e; exact hz (UInt8.toNat_inj.1 (by simpa using e))
          simp only [cc, decide_true, if_true, getB_nat, List.getElem?_eq_getElem hb, Option.map_some, Option.bind_some, n3]
        rw [loopM_go hstep]
        have ht' : (s.drop 1).take (at_ + 1 - 1) = textB (t0 ++ [s[at_]]) := by
          rw [textB_append, ← ht]
          have : at_ + 1 - 1 = (at_ - 1) + 1 := by omega
          rw [this, List.take_add, List.drop_drop]
          have : 1 + (at_ - 1) = at_ := by omega
          rw [this, e1]
          simp only [textB, List.flatMap_cons, List.flatMap_nil, hz, if_false, List.append_nil]; rfl
        rw [ih (at_ + 1) (t0 ++ [s[at_]]) (by omega) (by omega) (by omega) ht', e2]
        cases scanT (s[at_ + 1] :: s.drop (at_ + 2)) with
        | none => rfl
        | some p => simp only [Option.map_some, List.append_assoc, List.cons_append, List.nil_append]
    · have hstep : order_Decode.l5 s acc (at_ : Int) = some (.inr (.inl ())) := by
        unfold order_Decode.l5
        rw [w1]
        have c : ¬ (((at_ + 1 : Nat) : Int) < (s.length : Int)) := by omega
        simp only [c, decide_false, Bool.false_eq_true, if_false]
      rw [loopM_out hstep]
      have hl : (s.drop at_).length ≤ 1 := by rw [List.length_drop]; omega
      match hd : s.drop at_, hl with
      | [], _ => simp [scanT, hK1]
      | [x], _ => simp [scanT, hK1]

theorem cut01 (c : UInt8) (s : Str) : cutL (c :: s) 0 1 = some [c] := by
  have := cutL_nat (c :: s) 0 1 (by omega) (by simp)
  exact this
theorem decode_step (s : Str) (hs : s.length ≤ 256) (acc : List Part) (ha : acc.length ≤ 256) :
    order_Decode.l1 (s, acc) = some (if s = [] then .inr (.inl acc) else match partOf s with | some (p, r) => .inl (r, acc ++ [p]) | none => .inr (.inr bad)) := by
  cases s with
  | nil => simp [order_Decode.l1]
  | cons c r =>
    rw [if_neg (by simp)]
    unfold order_Decode.l1
    have n0 : (!(c :: r == ([] : Str))) = true := rfl
    simp only [n0, if_true, cut01, Option.bind_some]
    rw [partOf_cons]
    have w9 := cutL_to_end (c :: r) 9
    simp only [List.length_cons] at hs w9
    by_cases h16 : c = 16
    · subst h16
      by_cases h9 : 8 ≤ r.length
      · have c1 : (([16] : Str) == ([16] : Str) && decide (((((16 : UInt8) :: r).length : Nat) : Int) ≥ 9)) = true := by simp; omega
        rw [if_pos c1, if_pos rfl, if_pos h9]
        have hl := num_loop ((16 : UInt8) :: r) (by simp; omega) 8 1 0 rfl (by omega) (by decide)
        have hl' : loopM (order_Decode.l4 ((16 : UInt8) :: r)) (0, 1) = _ := hl
        rw [hl']
        simp only [Option.bind_some, List.drop_succ_cons, List.drop_zero]
        rw [down_eq _ (beV8 r)]
        have hc : cutL ((16 : UInt8) :: r) 9 ((((16 : UInt8) :: r).length : Nat) : Int) = some (r.drop 8) := by
          have := w9 (by omega); simpa using this
        rw [hc, room_ok (by omega)]
        simp only [Option.bind_some]
        by_cases hr : -9007199254740991 ≤ (beV 0 (r.take 8) : Int) - 9223372036854775808 ∧ (beV 0 (r.take 8) : Int) - 9223372036854775808 ≤ 9007199254740991
        · rw [if_pos hr, if_neg]
          simp only [Bool.or_eq_true, decide_eq_true_eq]; omega
        · rw [if_neg hr, if_pos]
          · rfl
          · simp only [Bool.or_eq_true, decide_eq_true_eq]; omega
      · have c1 : (([16] : Str) == ([16] : Str) && decide (((((16 : UInt8) :: r).length : Nat) : Int) ≥ 9)) = false := by simp; omega
        rw [c1, if_pos rfl, if_neg h9]
        rfl
    · have c1 : (([c] : Str) == ([16] : Str)) = false := by simp [h16]
      rw [c1, if_neg h16]
      simp only [Bool.false_and, Bool.false_eq_true, if_false]
      by_cases h32 : c = 32
      · subst h32
        rw [if_pos rfl, if_pos (by rfl)]
        have := text_loop ((32 : UInt8) :: r) (by simpa using hs) acc ha (fun e => match e with
        | (.inl ()) => order_Decode.j2
        | (.inr (.inl r80)) => some (.inr (.inr r80))
        | (.inr (.inr (x81, x82))) => some (.inl (x81, x82))) (.inr (.inr bad)) rfl rfl r.length 1 [] (by simp) (by omega) (by simp) rfl
        refine Eq.trans this ?_
        simp only [List.drop_succ_cons, List.drop_zero, List.nil_append]
        cases scanT r with
        | none => rfl
        | some p =>
          obtain ⟨t, q⟩ := p
          by_cases hp : t.length % 2 = 0 <;> simp [hp]
      · rw [if_neg h32, if_neg (by simp [h32])]
        rfl
theorem decode_loop : ∀ (f : Nat) (s : Str) (acc : List Part), s.length ≤ f → acc.length + s.length ≤ 256 → loopM order_Decode.l1 (s, acc) = some (match decF f s with | some k => .inl (acc ++ k) | none => .inr bad)
  | f, [], acc, _, ha => by
    have h := decode_step [] (by simp) acc (by omega)
    rw [if_pos rfl] at h
    rw [loopM_out h]
    cases f <;> simp [decF]
  | 0, c :: s, _, h, _ => by simp at h
  | f + 1, c :: s, acc, hf, ha => by
    have h := decode_step (c :: s) (by omega) acc (by omega)
    rw [if_neg (by simp)] at h
    unfold decF
    cases hp : partOf (c :: s) with
    | none => rw [hp] at h; rw [loopM_out h]
    | some q =>
      obtain ⟨p, r⟩ := q
      rw [hp] at h
      have hl := partOf_length hp
      rw [loopM_go h, decode_loop f r (acc ++ [p]) (by omega) (by rw [List.length_append]; simp only [List.length_cons, List.length_nil] at *; omega)]
      cases hd : decF f r <;> simp [hd]
theorem order_Decode_eq (s : Str) : order_Decode s = some (decode s) := by
  unfold order_Decode decode
  by_cases h : s.length > 256
  · have c : (((s.length : Nat) : Int) > 256) := by omega
    simp only [c, decide_true, if_true, h, bad]
  · have c : ¬ (((s.length : Nat) : Int) > 256) := by omega
    simp only [c, decide_false, Bool.false_eq_true, if_false, h]
    rw [decode_loop s.length s [] (Nat.le_refl _) (by simp; omega)]
    cases decF s.length s <;> rfl
/-- what is read is what was written -/
theorem scanT_write (t r : Str) : scanT (textB t ++ 0 :: 1 :: r) = some (t, r) := by
  induction t with
  | nil => rfl
  | cons b t ih =>
    unfold textB at ih ⊢
    rw [List.flatMap_cons]
    by_cases hb : b = 0
    · subst hb
      simp only [if_true, List.cons_append, List.nil_append]
      unfold scanT
      rw [if_pos rfl, if_neg (by decide), if_pos rfl, ih]; rfl
    · simp only [hb, if_false, List.cons_append, List.nil_append]
      match hd : (List.flatMap (fun b => if b = 0 then [0, 255] else [b]) t ++ 0 :: 1 :: r), ih with
      | [], ih => simp at hd
      | c :: q, ih => unfold scanT; rw [if_neg hb, ih]; rfl
theorem scanT_read : ∀ (s t r : Str), scanT s = some (t, r) → s = textB t ++ 0 :: 1 :: r
  | [], _, _, h => by simp [scanT] at h
  | [_], _, _, h => by simp [scanT] at h
  | b :: c :: s, t, r, h => by
    unfold scanT at h
    split at h
    · rename_i hb
      split at h
      · rename_i hc; cases h; rw [hb, hc]; rfl
      · split at h
        · rename_i hc
          cases hs : scanT s with
          | none => rw [hs] at h; cases h
          | some p => rw [hs] at h; cases h; have e := scanT_read s _ _ hs; rw [hb, hc]; conv => lhs; rw [e]
                      simp [textB]
        · cases h
    · rename_i hb
      cases hs : scanT (c :: s) with
      | none => rw [hs] at h; cases h
      | some p => rw [hs] at h; cases h; have e := scanT_read (c :: s) _ _ hs; rw [e]; simp [textB, hb]
theorem beV_split : ∀ (l : Str) (v : Nat), beV v l = v * 256 ^ l.length + beV 0 l
  | [], v => by simp [beV]
  | b :: l, v => by
    have h1 := beV_split l (v * 256 + b.toNat)
    have h2 := beV_split l (0 * 256 + b.toNat)
    show beV (v * 256 + b.toNat) l = v * 256 ^ (l.length + 1) + beV (0 * 256 + b.toNat) l
    rw [h1, h2, Nat.pow_succ, Nat.add_mul, Nat.mul_assoc, Nat.mul_comm 256, Nat.zero_mul, Nat.zero_add, Nat.add_assoc]
def beB' : Nat → Nat → Str
  | 0, _ => []
  | k + 1, n => byteAt n k :: beB' k n
theorem numB_be' (n : Nat) : numB n = beB' 8 n := rfl
theorem beB_of : ∀ (l : Str) (v : Nat), beB' l.length (beV v l) = l
  | [], _ => rfl
  | b :: l, v => by
    have h0 := beV_lt l 0
    have hb := b.toNat_lt
    have ih := beB_of l (v * 256 + b.toNat)
    show byteAt (beV (v * 256 + b.toNat) l) l.length :: beB' l.length (beV (v * 256 + b.toNat) l) = b :: l
    rw [ih]
    congr 1
    unfold byteAt
    rw [beV_split]
    generalize hP : 256 ^ l.length = P at *
    have e : ((v * 256 + b.toNat) * P + beV 0 l) / P = v * 256 + b.toNat := by
      rw [Nat.mul_comm, Nat.mul_add_div (by omega), Nat.div_eq_of_lt (by omega)]; omega
    rw [e]
    have : (v * 256 + b.toNat) % 256 = b.toNat := by omega
    rw [this]; simp
theorem beV_of : ∀ (k n v : Nat), beV v (beB' k n) = v * 256 ^ k + n % 256 ^ k
  | 0, n, v => by simp [beV, beB', Nat.mod_one]
  | k + 1, n, v => by
    have ih := beV_of k n (v * 256 + n / 256 ^ k % 256)
    have hb : (byteAt n k).toNat = n / 256 ^ k % 256 := by
      unfold byteAt
      have : n / 256 ^ k % 256 < 256 := Nat.mod_lt _ (by decide)
      simp only [UInt8.toNat_ofNat', Nat.reducePow]
      omega
    show beV (v * 256 + (byteAt n k).toNat) (beB' k n) = _
    rw [hb, ih]
    have hm : n % 256 ^ (k + 1) = 256 ^ k * (n / 256 ^ k % 256) + n % 256 ^ k := by rw [Nat.pow_succ, Nat.mod_mul]; omega
    rw [hm, Nat.pow_succ]
    generalize 256 ^ k = P
    generalize n / P % 256 = y
    rw [Nat.add_mul, Nat.mul_comm y P, Nat.mul_assoc, Nat.mul_comm 256 P]; omega
theorem up_of (x : Nat) (hx : x < 18446744073709551616) : up ((x : Int) - 9223372036854775808) = x := by unfold up; omega
theorem partOf_write (p : Part) (hp : partOk p = true) (r : Str) : partOf (partB p ++ r) = some (p, r) := by
  obtain ⟨b, n, s⟩ := p
  cases b with
  | true =>
    simp only [partOk, if_true, Bool.and_eq_true, decide_eq_true_eq] at hp
    obtain ⟨hn, hs⟩ := hp
    simp only [partB, if_true, List.cons_append, List.append_assoc, List.nil_append]
    rw [partOf_cons]
    rw [if_neg (by decide), if_pos rfl, scanT_write]
    have hn : n = 0 := by simpa using hn
    subst hn
    simp [hs]
  | false =>
    simp only [partOk, Bool.false_eq_true, if_false, Bool.and_eq_true, decide_eq_true_eq] at hp
    obtain ⟨hs, h1, h2⟩ := hp
    have hs : s = [] := by simpa using hs
    subst hs
    simp only [partB, Bool.false_eq_true, if_false, List.cons_append]
    rw [partOf_cons]
    have hl : (numB (up n) ++ r).length = r.length + 8 := by simp [numB]
    have ht : (numB (up n) ++ r).take 8 = numB (up n) := by rw [List.take_append_of_le_length (by simp [numB]), List.take_of_length_le (by simp [numB])]
    have hd : (numB (up n) ++ r).drop 8 = r := by rw [List.drop_append_of_le_length (by simp [numB]), List.drop_of_length_le (by simp [numB])]; rfl
    have hv : beV 0 (numB (up n)) = up n := by rw [numB_be', beV_of]; have := up_lt n; rw [Nat.zero_mul, Nat.zero_add]; exact Nat.mod_eq_of_lt this
    have hu : (up n : Int) = n + 9223372036854775808 := by unfold up; omega
    rw [if_pos rfl, if_pos (by omega), ht, hd, hv, hu]
    have : n + 9223372036854775808 - 9223372036854775808 = n := by omega
    rw [this, if_pos ⟨h1, h2⟩]
theorem partOf_read {s : Str} {p : Part} {r : Str} (h : partOf s = some (p, r)) : partOk p = true ∧ s = partB p ++ r := by
  cases s with
  | nil => cases h
  | cons c s =>
    rw [partOf_cons] at h
    split at h
    · rename_i hc
      split at h
      · rename_i h8
        split at h
        · rename_i hr
          cases h
          refine ⟨by simp [partOk, hr.1, hr.2], ?_⟩
          simp only [partB, Bool.false_eq_true, if_false]
          rw [up_of _ (beV8 s), numB_be']
          have hl : (s.take 8).length = 8 := by rw [List.length_take]; omega
          have e := beB_of (s.take 8) 0
          rw [hl] at e
          rw [e, hc, List.cons_append, List.take_append_drop]
        · cases h
      · cases h
    · split at h
      · rename_i hc
        cases hs : scanT s with
        | none => rw [hs] at h; cases h
        | some q =>
          obtain ⟨t, r'⟩ := q
          rw [hs] at h
          simp only at h
          split at h
          · rename_i hp
            cases h
            refine ⟨by simp [partOk, hp], ?_⟩
            have e := scanT_read s _ _ hs
            rw [e, hc]; simp [partB]
          · cases h
      · cases h
theorem partOf_suffix {s : Str} {p : Part} {r : Str} (h : partOf s = some (p, r)) : ∃ n, r = s.drop n := by
  have e := (partOf_read h).2
  exact ⟨(partB p).length, by rw [e]; simp⟩
theorem partB_ne (p : Part) : partB p ≠ [] := by unfold partB; split <;> simp
theorem decF_write : ∀ (k : List Part) (f : Nat), k.all partOk = true → (bytesOf k).length ≤ f → decF f (bytesOf k) = some k
  | [], f, _, _ => by cases f <;> rfl
  | p :: k, f, h, hf => by
    simp only [List.all_cons, Bool.and_eq_true] at h
    rw [bytesOf_cons] at hf ⊢
    have hne := partB_ne p
    have hpos : 0 < (partB p).length := List.length_pos_iff.2 hne
    rw [List.length_append] at hf
    cases f with
    | zero => omega
    | succ f =>
      have h1 := partOf_write p h.1 (bytesOf k)
      match hd : partB p ++ bytesOf k, h1 with
      | [], _ => simp [hne] at hd
      | c :: q, h1 => unfold decF; rw [h1]; simp only; rw [decF_write k f h.2 (by omega)]; rfl
theorem decF_read : ∀ (f : Nat) (s : Str) (k : List Part), decF f s = some k → k.all partOk = true ∧ bytesOf k = s
  | f, [], k, h => by cases f <;> (simp only [decF] at h; cases h; exact ⟨rfl, rfl⟩)
  | 0, c :: s, k, h => by simp [decF] at h
  | f + 1, c :: s, k, h => by
    unfold decF at h
    cases hp : partOf (c :: s) with
    | none => rw [hp] at h; cases h
    | some x =>
      obtain ⟨p, r⟩ := x
      rw [hp] at h
      simp only at h
      cases hd : decF f r with
      | none => rw [hd] at h; cases h
      | some l =>
        rw [hd] at h
        cases h
        obtain ⟨h1, h2⟩ := decF_read f r l hd
        obtain ⟨h3, h4⟩ := partOf_read hp
        exact ⟨by simp [h1, h3], by rw [bytesOf_cons, h2, ← h4]⟩
end Go.Gw
