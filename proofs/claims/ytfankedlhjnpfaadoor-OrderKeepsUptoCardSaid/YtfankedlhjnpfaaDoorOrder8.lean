/- Chapter 5: the seven statements, plainly. -/
import Derived.Test.YtfankedlhjnpfaaDoorOrder5
import Derived.Test.YtfankedlhjnpfaaDoorOrder7
set_option linter.unusedVariables false
set_option linter.unusedSimpArgs false
set_option linter.unnecessarySimpa false
namespace Go.Gw
open Go.Proofs
set_option linter.unusedSimpArgs false

theorem refText_bytes (p : Part) (hS : p.S.length ≤ 10000000) : ∀ (n k : Nat), k + n = p.S.length → loopM (ref05_part.l2 p) ((k : Int), 32 :: textB (p.S.take k)) = some (32 :: textB p.S) := by
  intro n
  induction n with
  | zero =>
    intro k hk
    obtain rfl : k = p.S.length := by omega
    have hstep : ref05_part.l2 p (((p.S.length : Nat) : Int), 32 :: textB (p.S.take p.S.length)) = some (.inr (32 :: textB p.S)) := by
      unfold ref05_part.l2
      simp only [Int.lt_irrefl, decide_false, Bool.false_eq_true, if_false, List.take_length]
    rw [loopM_out hstep]
  | succ n ih =>
    intro k hk
    have hlt : k < p.S.length := by omega
    have hl := textB_length_le (p.S.take k)
    rw [List.length_take] at hl
    have ht : p.S.take (k + 1) = p.S.take k ++ [p.S[k]] := by rw [List.take_add_one, List.getElem?_eq_getElem hlt]; rfl
    have hstep : ref05_part.l2 p ((k : Int), 32 :: textB (p.S.take k)) = some (.inl (((k + 1 : Nat) : Int), 32 :: textB (p.S.take (k + 1)))) := by
      unfold ref05_part.l2
      have c : ((k : Int) < ((p.S.length : Nat) : Int)) := by omega
      have hw : IntKind.wrap .i64 ((k : Int) + 1) = ((k + 1 : Nat) : Int) := by rw [wrap_i64 (by omega) (by omega)]; omega
      have r1 := room_ok (n := (32 :: textB (p.S.take k)).length + 1) (by simp only [List.length_cons]; omega)
      have r2 := room_ok (n := ((32 :: textB (p.S.take k)) ++ [p.S[k]]).length + 1) (by simp only [List.length_append, List.length_cons, List.length_nil]; omega)
      simp only [c, decide_true, if_true, getB_nat, List.getElem?_eq_getElem hlt, Option.map_some, Option.bind_some, toB_of, r1]
      rw [ht, textB_append]
      by_cases hz : p.S[k] = 0
      · have n0 : (((p.S[k].toNat : Nat) : Int) == 0) = true := by simp [hz]
        rw [n0, if_pos rfl, r2]
        unfold ref05_part.j2
        simp only [Option.bind_some, hw]
        simp [textB, hz]
      · have n0 : (((p.S[k].toNat : Nat) : Int) == 0) = false := by
          simp only [beq_eq_false_iff_ne, ne_eq]; intro e; exact hz (UInt8.toNat_inj.1 (by simpa using e))
        rw [n0, if_neg (by simp)]
        unfold ref05_part.j2
        simp only [hw]
        simp [textB, hz]
    rw [loopM_go hstep]
    exact ih (k + 1) (by omega)
theorem ref05_part_eq (p : Part) (hS : p.S.length ≤ 10000000) : ref05_part p = some (partB p) := by
  unfold ref05_part partB
  cases hp : p.IsText with
  | false =>
    simp only [Bool.not_false, if_true, Bool.false_eq_true, if_false]
    have h : loopM (ref05_part.l1 p) (7, ([(16 : UInt8)] : List UInt8)) = _ := ref_num p
    rw [h]; rfl
  | true =>
    simp only [Bool.not_true, Bool.false_eq_true, if_false, if_true]
    have h : loopM (ref05_part.l2 p) (0, ([(32 : UInt8)] : List UInt8)) = _ := refText_bytes p hS p.S.length 0 (by omega)
    have hl := textB_length_le p.S
    rw [h]
    simp only [Option.bind_some]
    rw [room_ok (by simp only [List.length_cons]; omega)]
    rfl
theorem ref05_bytes_loop (k : List Part) (hk : weight k ≤ 3000000) : ∀ (n i : Nat), i + n = k.length → loopM (ref05_bytes.l1 k) (bytesOf (k.take i), (i : Int)) = some (if (k.drop i).all partOk = true then .inl (bytesOf k) else .inr ([], false)) := by
  intro n
  induction n with
  | zero =>
    intro i hi
    obtain rfl : i = k.length := by omega
    have hstep : ref05_bytes.l1 k (bytesOf (k.take k.length), ((k.length : Nat) : Int)) = some (.inr (.inl (bytesOf k))) := by
      unfold ref05_bytes.l1
      simp only [Int.lt_irrefl, decide_false, Bool.false_eq_true, if_false, List.take_length]
    rw [loopM_out hstep]; simp
  | succ n ih =>
    intro i hi
    have hlt : i < k.length := by omega
    have wl := weight_length k
    have ht : k.take (i + 1) = k.take i ++ [k[i]] := by rw [List.take_add_one, List.getElem?_eq_getElem hlt]; rfl
    have hsplit : k = k.take i ++ (k[i] :: k.drop (i + 1)) := by rw [← List.drop_eq_getElem_cons hlt, List.take_append_drop]
    have hw1 : weight k = weight (k.take i) + (k[i].S.length + 1 + weight (k.drop (i + 1))) := by
      conv => lhs; rw [hsplit]
      rw [weight_append, weight_cons]
    have hb := bytesOf_length_le (k.take i)
    have hpb := partB_length_le k[i]
    rw [List.drop_eq_getElem_cons hlt]
    cases hok : partOk k[i] with
    | false =>
      have hstep : ref05_bytes.l1 k (bytesOf (k.take i), (i : Int)) = some (.inr (.inr ([], false))) := by
        unfold ref05_bytes.l1
        have c : ((i : Int) < ((k.length : Nat) : Int)) := by omega
        simp only [c, decide_true, if_true, getI_nat, List.getElem?_eq_getElem hlt, Option.bind_some, ref05_may_eq, hok, Bool.not_false]
      rw [loopM_out hstep]
      simp only [List.all_cons, hok, Bool.false_and, Bool.false_eq_true, if_false]
    | true =>
      have hstep : ref05_bytes.l1 k (bytesOf (k.take i), (i : Int)) = some (.inl (bytesOf (k.take (i + 1)), ((i + 1 : Nat) : Int))) := by
        unfold ref05_bytes.l1
        have c : ((i : Int) < ((k.length : Nat) : Int)) := by omega
        have hw : IntKind.wrap .i64 ((i : Int) + 1) = ((i + 1 : Nat) : Int) := by rw [wrap_i64 (by omega) (by omega)]; omega
        simp only [c, decide_true, if_true, getI_nat, List.getElem?_eq_getElem hlt, Option.bind_some, ref05_may_eq, hok, Bool.not_true, Bool.false_eq_true, if_false]
        rw [ref05_part_eq _ (by omega)]
        simp only [Option.bind_some]
        rw [catS_ok (by omega)]
        simp only [Option.bind_some, hw]
        rw [ht, bytesOf_append]
        simp [bytesOf]
      rw [loopM_go hstep, ih (i + 1) (by omega)]
      simp only [List.all_cons, hok, Bool.true_and]
theorem ref05_Encode_eq (k : List Part) (hk : weight k ≤ 3000000) : ref05_Encode k = some (encode k) := by
  unfold ref05_Encode ref05_bytes encode
  have h : loopM (ref05_bytes.l1 k) (([] : Str), 0) = _ := ref05_bytes_loop k hk k.length 0 (by omega)
  rw [h]
  simp only [List.drop_zero]
  by_cases ha : k.all partOk = true
  · simp only [ha, if_true, Option.bind_some, Bool.not_true, Bool.false_eq_true, if_false]
    by_cases hl : (bytesOf k).length > 256
    · have c : (((bytesOf k).length : Nat) : Int) > 256 := by omega
      simp only [c, decide_true, if_true, hl]
    · have c : ¬ (((bytesOf k).length : Nat) : Int) > 256 := by omega
      simp only [c, decide_false, Bool.false_eq_true, if_false, hl]
  · simp only [ha, Bool.false_eq_true, if_false, Option.bind_some, Bool.not_false, if_true]
theorem encode_cases (k : List Part) : (k.all partOk = true ∧ (bytesOf k).length ≤ 256 ∧ encode k = (bytesOf k, 0)) ∨ (encode k = ([], 2)) ∨ (encode k = ([], 50)) := by
  unfold encode
  by_cases h : k.all partOk = true
  · by_cases hl : (bytesOf k).length > 256
    · right; left; simp [h, hl]
    · left; exact ⟨h, by omega, by simp only [h, if_true, hl, if_false]⟩
  · right; right; simp only [h, if_false]; rfl
def behind (k : List Part) : Str × Int := if (encode k).2 = 0 then ((encode k).1 ++ [255], 0) else ([], (encode k).2)
theorem behind_eq (k : List Part) : behind k = (if (encode k).2 = 0 then ((encode k).1 ++ [255], (encode k).2) else ((encode k).1, (encode k).2)) := by
  unfold behind
  rcases encode_cases k with ⟨_, _, e⟩ | e | e <;> rw [e] <;> simp
theorem order_Behind_eq (k : List Part) (hk : weight k ≤ 3000000) : order_Behind k = some (behind k) := by
  unfold order_Behind order_Behind.j1
  rw [order_Encode_eq k hk, behind_eq]
  simp only [Option.bind_some]
  rcases encode_cases k with ⟨_, h, e⟩ | e | e
  · rw [e]
    have : catS (bytesOf k) ([255] : Str) = some (bytesOf k ++ [255]) := catS_ok (by simp only [List.length_cons, List.length_nil]; omega)
    simp [this]
  · rw [e]; rfl
  · rw [e]; rfl
theorem ref05_Behind_eq (k : List Part) (hk : weight k ≤ 3000000) : ref05_Behind k = some (behind k) := by
  unfold ref05_Behind behind
  rw [ref05_Encode_eq k hk]
  simp only [Option.bind_some]
  rcases encode_cases k with ⟨_, h, e⟩ | e | e
  · rw [e]
    have : catS (bytesOf k) ([(255 : UInt8)] : List UInt8) = some (bytesOf k ++ [255]) := catS_ok (by simp only [List.length_cons, List.length_nil]; omega)
    simp [this]
  · rw [e]; rfl
  · rw [e]; rfl

theorem OrderReads_true (s : Str) (hs : s.length ≤ 1048576) : law05_OrderReads s = some true := by
  unfold law05_OrderReads law05_OrderReads.j1
  rw [order_Decode_eq, ref05_Decode_eq s (by omega), live_eq]
  simp only [Option.bind_some, if_true]
  have hl : (decode s).1.length < 4611686018427387904 := by
    unfold decode
    split
    · simp [bad]
    · split
      · rename_i k hk
        obtain ⟨h1, h2⟩ := decF_read _ _ _ hk
        have : k.length ≤ (bytesOf k).length := by
          clear hk h1 h2
          induction k with
          | nil => simp
          | cons p k ih =>
            have := List.length_pos_iff.2 (partB_ne p)
            rw [bytesOf_cons, List.length_append, List.length_cons]; omega
        rw [h2] at this
        show k.length < _
        omega
      · simp [bad]
  rw [ref05_Same_eq _ _ hl, (sameL_iff _ _).2 rfl]
  simp
theorem OrderWrites_true (k : List Part) (hk : weight k ≤ 1048576) : law05_OrderWrites k = some true := by
  unfold law05_OrderWrites law05_OrderWrites.j1
  have wl := weight_length k
  simp only [List.nil_append]
  rw [order_Encode_eq k (by omega), ref05_Encode_eq k (by omega), order_Behind_eq k (by omega), ref05_Behind_eq k (by omega), live_eq]
  unfold order_Check ref05_Check
  rw [order_Encode_eq k (by omega), ref05_Encode_eq k (by omega), ref05_Same_eq k k (by omega), (sameL_iff _ _).2 rfl, room_ok (by simp only [List.length_nil]; omega)]
  simp
theorem OrderTotal_true (a b c : List Part) (ha : weight a ≤ 1048576) (hb : weight b ≤ 1048576) (hc : weight c ≤ 1048576) : law05_OrderTotal a b c = some true := by
  have wa := weight_length a; have wb := weight_length b; have wc := weight_length c
  unfold law05_OrderTotal law05_OrderTotal.j1 law05_OrderTotal.j2
  rw [live_eq, order_Compare_eq a b (by omega), order_Compare_eq b a (by omega), order_Compare_eq a a (by omega), order_Compare_eq b c (by omega), order_Compare_eq a c (by omega)]
  simp only [Option.bind_some]
  have h1 := cmpKeys_cmp.anti a b; have h2 := cmpKeys_cmp.self a; have h3 := cmpKeys_cmp.trans a b c
  have hd := cmpKeys_cmp.dom b a
  have hw : IntKind.wrap .i64 (0 - cmpKeys b a) = - cmpKeys b a := by rw [wrap_i64 (by omega) (by omega)]; omega
  have n1 : (cmpKeys a b != IntKind.wrap .i64 (0 - cmpKeys b a)) = false := by rw [hw, h1]; simp
  rw [n1, h2]
  simp only [Bool.false_eq_true, if_false, bne_self_eq_false, if_true]
  by_cases c1 : cmpKeys a b > 0
  · simp [c1]
  · by_cases c2 : cmpKeys b c > 0
    · simp [c1, c2]
    · have c3 := h3 (by omega) (by omega)
      simp [c1, c2, c3]

theorem partOk_text {p : Part} (h : partOk p = true) (ht : p.IsText = true) : p.N = 0 := by
  simp only [partOk, ht, if_true, Bool.and_eq_true] at h; simpa using h.1
theorem partOk_num {p : Part} (h : partOk p = true) (ht : p.IsText = false) : p.S = [] ∧ -9007199254740991 ≤ p.N ∧ p.N ≤ 9007199254740991 := by
  simp only [partOk, ht, Bool.false_eq_true, if_false, Bool.and_eq_true, decide_eq_true_eq] at h
  exact ⟨by simpa using h.1, h.2.1, h.2.2⟩
theorem cmp_part (p q : Part) (hp : partOk p = true) (hq : partOk q = true) (u v : Str) : Lib.compareBytes (partB p ++ u) (partB q ++ v) = if cmpPart p q = 0 then Lib.compareBytes u v else cmpPart p q := by
  unfold partB cmpPart
  cases h1 : p.IsText <;> cases h2 : q.IsText
  · obtain ⟨_, a1, a2⟩ := partOk_num hp h1
    obtain ⟨_, b1, b2⟩ := partOk_num hq h2
    simp only [Bool.false_eq_true, if_false, List.cons_append, Bool.false_and]
    have e : ∀ x y : Str, Lib.compareBytes (16 :: x) (16 :: y) = Lib.compareBytes x y := fun x y => cmp_append [16] x y
    rw [e, cmp_num _ _ (up_lt _) (up_lt _)]
    have u1 : (up p.N : Int) = p.N + 9223372036854775808 := by unfold up; omega
    have u2 : (up q.N : Int) = q.N + 9223372036854775808 := by unfold up; omega
    have k1 : up p.N = up q.N ↔ p.N = q.N := by omega
    have k2 : Lib.compareInt p.N q.N = 0 ↔ p.N = q.N := by rcases compareInt_cases p.N q.N with ⟨x, y⟩ | ⟨x, y⟩ | ⟨x, y⟩ <;> omega
    have k3 : Lib.compareInt (up p.N : Int) (up q.N : Int) = Lib.compareInt p.N q.N := by
      rcases compareInt_cases p.N q.N with ⟨x, y⟩ | ⟨x, y⟩ | ⟨x, y⟩ <;> rcases compareInt_cases (up p.N : Int) (up q.N : Int) with ⟨z, w⟩ | ⟨z, w⟩ | ⟨z, w⟩ <;> omega
    rw [k3]
    by_cases h : p.N = q.N
    · rw [if_pos (k1.2 h), if_pos (k2.2 h)]
    · rw [if_neg (fun x => h (k1.1 x)), if_neg (fun x => h (k2.1 x))]
  · have h : (16 : UInt8) < 32 := by decide
    simp [Lib.compareBytes, h]
  · have h : (16 : UInt8) < 32 := by decide
    have h' : ¬ (32 : UInt8) < 16 := by decide
    simp [Lib.compareBytes, h, h']
  · simp only [if_true, List.cons_append, List.append_assoc, List.nil_append, Bool.true_and]
    have e : ∀ x y : Str, Lib.compareBytes (32 :: x) (32 :: y) = Lib.compareBytes x y := fun x y => cmp_append [32] x y
    rw [e, cmp_text]
    have hz := (bytesLess_cmp p.S q.S).2.1
    by_cases hs : p.S = q.S
    · rw [if_pos hs, if_pos (hz.1 hs)]
    · rw [if_neg hs, if_neg (fun x => hs (hz.2 x))]
theorem partB_pos (p : Part) : ∃ c l, partB p = c :: l ∧ c < 255 := by
  unfold partB
  split
  · exact ⟨_, _, rfl, by decide⟩
  · exact ⟨_, _, rfl, by decide⟩
theorem cmp_keys : ∀ a b : List Part, a.all partOk = true → b.all partOk = true → Lib.compareBytes (bytesOf a) (bytesOf b) = cmpKeys a b
  | [], [], _, _ => rfl
  | [], q :: b, _, _ => by
    obtain ⟨c, l, e, _⟩ := partB_pos q
    rw [bytesOf_cons, e]; rfl
  | p :: a, [], _, _ => by
    obtain ⟨c, l, e, _⟩ := partB_pos p
    rw [bytesOf_cons, e]; rfl
  | p :: a, q :: b, ha, hb => by
    simp only [List.all_cons, Bool.and_eq_true] at ha hb
    rw [bytesOf_cons, bytesOf_cons, cmp_part p q ha.1 hb.1, cmp_keys a b ha.2 hb.2]
    rfl
theorem side_eq (a b : Str) : law05_side a b = some (Lib.compareBytes a b) := by
  unfold law05_side
  obtain ⟨h1, h2, h3⟩ := bytesLess_cmp a b
  rcases h3 with h | h | h
  · have : Op.bytesLess a b = true := h1.2 h
    simp [this, h]
  · have e := h2.2 h
    have : Op.bytesLess a b = false := by cases hb : Op.bytesLess a b with | true => have := h1.1 hb; omega | false => rfl
    simp only [this, Bool.false_eq_true, if_false, h]
    rw [e]; simp
  · have e : a ≠ b := fun e => by have := h2.1 e; omega
    have : Op.bytesLess a b = false := by cases hb : Op.bytesLess a b with | true => have := h1.1 hb; omega | false => rfl
    simp [this, h, e]
theorem OrderKeeps_true (a b : List Part) (ha : weight a ≤ 1048576) (hb : weight b ≤ 1048576) : law05_OrderKeeps a b = some true := by
  have wa := weight_length a
  unfold law05_OrderKeeps law05_OrderKeeps.j1
  rw [live_eq, order_Encode_eq a (by omega), order_Encode_eq b (by omega), order_Compare_eq a b (by omega)]
  simp only [Option.bind_some, side_eq]
  rcases encode_cases a with ⟨oa, _, e⟩ | e | e <;> rw [e] <;> rcases encode_cases b with ⟨ob, _, e'⟩ | e' | e' <;> rw [e'] <;> simp
  exact cmp_keys a b oa ob
theorem weight_le_bytes : ∀ m : List Part, m.all partOk = true → weight m ≤ (bytesOf m).length
  | [], _ => by simp [weight]
  | p :: m, h => by
    simp only [List.all_cons, Bool.and_eq_true] at h
    have ih := weight_le_bytes m h.2
    have hp : p.S.length + 1 ≤ (partB p).length := by
      cases ht : p.IsText with
      | false => have := (partOk_num h.1 ht).1; unfold partB; rw [ht, this]; simp
      | true => unfold partB; rw [ht]; have := textB_length_ge p.S; simp; omega
    rw [bytesOf_cons, weight_cons, List.length_append]; omega
theorem OrderBack_true (k : List Part) (s : Str) (hk : weight k ≤ 1048576) : law05_OrderBack k s = some true := by
  have wk := weight_length k
  unfold law05_OrderBack law05_OrderBack.j1
  rw [live_eq, order_Encode_eq k (by omega)]
  simp only [Option.bind_some, order_Decode_eq, ref05_Same_eq k _ (by omega : k.length < 4611686018427387904)]
  have hb : ∃ m, order_Encode (decode s).1 = some m ∧ ((decode s).2 != 0 || (m.2 == 0 && m.1 == s)) = true := by
    unfold decode
    by_cases h : s.length > 256
    · simp only [h, if_true, bad]
      exact ⟨_, order_Encode_eq [] (by simp [weight]), rfl⟩
    · simp only [h, if_false]
      cases hd : decF s.length s with
      | none => exact ⟨_, order_Encode_eq [] (by simp [weight]), rfl⟩
      | some m =>
        obtain ⟨h1, h2⟩ := decF_read _ _ _ hd
        have hw := weight_le_bytes m h1
        rw [h2] at hw
        refine ⟨_, order_Encode_eq m (by omega), ?_⟩
        unfold encode
        rw [if_pos h1, h2, if_neg h]
        simp
  obtain ⟨m, e1, e2⟩ := hb
  rw [e1]
  simp only [Option.bind_some, e2]
  rcases encode_cases k with ⟨ok, hl, e⟩ | e | e
  · rw [e]
    have : decode (bytesOf k) = (k, 0) := by
      unfold decode
      rw [if_neg (by omega), decF_write k _ ok (Nat.le_refl _)]
    simp [this, (sameL_iff k k).2 rfl]
  · rw [e]; simp
  · rw [e]; simp
theorem within_key : ∀ (w k : List Part), w.all partOk = true → k.all partOk = true → ((Lib.compareBytes (bytesOf w) (bytesOf k) ≤ 0 ∧ Lib.compareBytes (bytesOf k) (bytesOf w ++ [255]) < 0) ↔ ∃ l, k = w ++ l)
  | [], k, _, hk => by
    constructor
    · exact fun _ => ⟨k, rfl⟩
    · intro _
      cases k with
      | nil => exact ⟨by decide, by decide⟩
      | cons p k =>
        obtain ⟨c, l, e, hc⟩ := partB_pos p
        rw [bytesOf_cons, e]
        refine ⟨by simp [bytesOf, Lib.compareBytes], ?_⟩
        simp [bytesOf, Lib.compareBytes, hc]
  | q :: w, [], _, _ => by
    obtain ⟨c, l, e, hc⟩ := partB_pos q
    constructor
    · rintro ⟨h, _⟩
      rw [bytesOf_cons, e] at h
      simp [bytesOf, Lib.compareBytes] at h
    · rintro ⟨l, h⟩; cases h
  | q :: w, p :: k, hw, hk => by
    simp only [List.all_cons, Bool.and_eq_true] at hw hk
    have ih := within_key w k hw.2 hk.2
    rw [bytesOf_cons, bytesOf_cons, List.append_assoc, cmp_part q p hw.1 hk.1, cmp_part p q hk.1 hw.1]
    have ha := cmpPart_cmp.anti p q
    have hd := cmpPart_cmp.dom p q
    by_cases h0 : cmpPart p q = 0
    · have h0' : cmpPart q p = 0 := by have := cmpPart_cmp.anti q p; omega
      have hpq : p = q := by
        have h0'' := h0
        unfold cmpPart at h0''
        obtain ⟨b1, n1, s1⟩ := p
        obtain ⟨b2, n2, s2⟩ := q
        cases b1 <;> cases b2 <;> simp at h0''
        · obtain ⟨x1, _⟩ := partOk_num hw.1 rfl
          obtain ⟨y1, _⟩ := partOk_num hk.1 rfl
          have x1 : s2 = [] := x1
          have y1 : s1 = [] := y1
          rcases compareInt_cases n1 n2 with ⟨x, y⟩ | ⟨x, y⟩ | ⟨x, y⟩ <;> (try omega)
          subst x; subst x1; subst y1; rfl
        · have x1 : n2 = 0 := partOk_text hw.1 rfl
          have y1 : n1 = 0 := partOk_text hk.1 rfl
          have := (bytesLess_cmp s1 s2).2.1.2 h0''
          subst x1; subst y1; subst this; rfl
      rw [if_pos h0, if_pos h0']
      subst hpq
      rw [ih]
      constructor
      · rintro ⟨l, e⟩; exact ⟨l, by rw [e]; rfl⟩
      · rintro ⟨l, e⟩; exact ⟨l, by injection e⟩
    · have h0' : cmpPart q p ≠ 0 := by have := cmpPart_cmp.anti q p; omega
      have ha' := cmpPart_cmp.anti q p
      rw [if_neg h0, if_neg h0']
      constructor
      · rintro ⟨h1, h2⟩; omega
      · rintro ⟨l, e⟩
        have : p = q := by injection e
        subst this
        exact absurd (cmpPart_cmp.self p) h0
theorem begins_eq (k w : List Part) (hk : k.length < 4611686018427387904) : law05_begins k w = some (sameL (k.take w.length) w) := by
  unfold law05_begins law05_begins.j1
  by_cases h : w.length ≤ k.length
  · have c : ((k.length : Nat) : Int) ≥ ((w.length : Nat) : Int) := by omega
    have hc : cutL k 0 ((w.length : Nat) : Int) = some (k.take w.length) := by
      have := cutL_nat k 0 w.length (by omega) h
      simpa using this
    simp only [c, decide_true, if_true, hc, Option.bind_some]
    rw [ref05_Same_eq _ _ (by rw [List.length_take]; omega)]
    rfl
  · have c : ¬ ((k.length : Nat) : Int) ≥ ((w.length : Nat) : Int) := by omega
    simp only [c, decide_false, Bool.false_eq_true, if_false]
    rw [sameL_length (by rw [List.length_take]; omega)]
theorem begins_iff (k w : List Part) : sameL (k.take w.length) w = true ↔ ∃ l, k = w ++ l := by
  rw [sameL_iff]
  constructor
  · intro e; exact ⟨k.drop w.length, by conv => lhs; rw [← List.take_append_drop w.length k, e]⟩
  · rintro ⟨l, e⟩; rw [e]; simp
theorem less_iff (a b : Str) : Op.bytesLess a b = decide (Lib.compareBytes a b < 0) := by
  obtain ⟨h1, h2, h3⟩ := bytesLess_cmp a b
  cases hb : Op.bytesLess a b with
  | true => have := h1.1 hb; simp; omega
  | false =>
    have : Lib.compareBytes a b ≠ -1 := fun e => by rw [h1.2 e] at hb; cases hb
    simp; omega
theorem leq_iff (a b : Str) : (Op.bytesLess a b || a == b) = decide (Lib.compareBytes a b ≤ 0) := by
  obtain ⟨h1, h2, h3⟩ := bytesLess_cmp a b
  rw [less_iff]
  rcases h3 with h | h | h
  · simp [h]
  · have := h2.2 h; rw [h]; simp [this]
  · have e : a ≠ b := fun e => by have := h2.1 e; omega
    simp [h, e]
theorem OrderWithin_true (k w : List Part) (hk : weight k ≤ 1048576) (hw : weight w ≤ 1048576) : law05_OrderWithin k w = some true := by
  have wk := weight_length k
  unfold law05_OrderWithin law05_OrderWithin.j1
  rw [live_eq, order_Encode_eq k (by omega), order_Encode_eq w (by omega), order_Behind_eq w (by omega), begins_eq k w (by omega)]
  unfold behind
  simp only [Option.bind_some]
  rcases encode_cases k with ⟨ok, _, e⟩ | e | e <;> rw [e] <;> rcases encode_cases w with ⟨ow, _, e'⟩ | e' | e' <;> rw [e'] <;> simp
  have h := within_key w k ow ok
  have h1 := leq_iff (bytesOf w) (bytesOf k)
  have h2 := less_iff (bytesOf k) (bytesOf w ++ [255])
  rw [h1, h2]
  have hb := begins_iff k w
  cases hs : sameL (k.take w.length) w with
  | true =>
    obtain ⟨x, y⟩ := h.2 (hb.1 hs)
    simp [x, y]
  | false =>
    have hh : ¬ ∃ l, k = w ++ l := fun z => by rw [hb.2 z] at hs; cases hs
    by_cases x : Lib.compareBytes (bytesOf w) (bytesOf k) ≤ 0
    · have y : ¬ Lib.compareBytes (bytesOf k) (bytesOf w ++ [255]) < 0 := fun y => hh (h.1 ⟨x, y⟩)
      simp [x]; omega
    · simp [x]
end Go.Gw
