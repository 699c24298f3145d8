/- Chapter 5: the reference reads any bytes as the key that they are. Plain Lean over the printed functions. -/
import Derived.Test.YtfankedlhjnpfaaDoorOrder6
set_option linter.unusedVariables false
set_option linter.unusedSimpArgs false
set_option linter.unnecessarySimpa false
namespace Go.Gw
open Go.Proofs
set_option linter.unusedSimpArgs false

def noPart : Part := { IsText := false, N := 0, S := [] }
theorem refText_loop {β : Type} (s : Str) (hs : s.length ≤ 200000000000) (K : (Unit) ⊕ (Part × Int) → Option β) (B : β) (hK1 : K (.inl ()) = some B) (hK2 : K (.inr (noPart, 0)) = some B) :
    ∀ (n i : Nat) (t0 : Str), s.length - i ≤ n → 1 ≤ i → i ≤ s.length → t0.length ≤ i →
      Option.bind (loopM (ref05_text.l1 s) ((i : Int), t0)) K = match scanT (s.drop i) with | some (t, r) => K (.inr ({ IsText := true, N := 0, S := t0 ++ t }, ((s.length - r.length : Nat) : Int))) | none => some B := by
  intro n
  induction n with
  | zero =>
    intro i t0 hn h1 h2 ht
    obtain rfl : i = s.length := by omega
    have hstep : ref05_text.l1 s ((s.length : Int), t0) = some (.inr (.inl ())) := by
      unfold ref05_text.l1
      simp only [Int.lt_irrefl, decide_false, Bool.false_eq_true, if_false]
    rw [loopM_out hstep, List.drop_length]
    simp [scanT, hK1]
  | succ n ih =>
    intro i t0 hn h1 h2 ht
    by_cases hb : i < s.length
    · have w1 : IntKind.wrap .i64 ((i : Int) + 1) = ((i + 1 : Nat) : Int) := by rw [wrap_i64 (by omega) (by omega)]; omega
      have w2 : IntKind.wrap .i64 (((i + 1 : Nat) : Int) + 1) = ((i + 2 : Nat) : Int) := by rw [wrap_i64 (by omega) (by omega)]; omega
      have cb : ((i : Int) < ((s.length : Nat) : Int)) := by omega
      have hroom := room_ok (n := t0.length + 1) (by omega)
      by_cases hz : s[i] = 0
      · have n3 : ((((s[i].toNat : Nat) : Int)) != 0) = false := by simp [hz]
        by_cases hlt : i + 1 < s.length
        · have e1 : s.drop i = s[i] :: s[i + 1] :: s.drop (i + 2) := by rw [List.drop_eq_getElem_cons hb, List.drop_eq_getElem_cons hlt]
          have cc : ¬ (((i + 1 : Nat) : Int) ≥ ((s.length : Nat) : Int)) := by omega
          rw [e1]
          unfold scanT
          rw [if_pos hz]
          by_cases ho : s[i + 1] = 1
          · rw [if_pos ho]
            have hstep : ref05_text.l1 s ((i : Int), t0) = some (.inr (.inr ({ IsText := true, N := 0, S := t0 }, ((i + 2 : Nat) : Int)))) := by
              unfold ref05_text.l1
              have n4 : ((((s[i + 1].toNat : Nat) : Int)) != 255) = true := by simp [ho]
              have n5 : ((((s[i + 1].toNat : Nat) : Int)) != 1) = false := by simp [ho]
              have n6 : ((((s[i + 1].toNat : Nat) : Int)) == 1) = true := by simp [ho]
              simp only [cb, decide_true, if_true, getB_nat, List.getElem?_eq_getElem hb, Option.map_some, Option.bind_some, toB_of, hroom, n3, Bool.false_eq_true, if_false, w1, cc, decide_false, List.getElem?_eq_getElem hlt, n4]
              unfold ref05_text.j3
              simp only [n5, Bool.false_eq_true, if_false, w1, getB_nat, List.getElem?_eq_getElem hlt, Option.map_some, Option.bind_some, n6, if_true, w2]
              have hl : IntKind.wrap .i64 (((t0 ++ [s[i]]).length : Nat) - 1 : Int) = ((t0.length : Nat) : Int) := by rw [List.length_append]; simp only [List.length_cons, List.length_nil]; rw [wrap_i64 (by omega) (by omega)]; omega
              have hc := cutL_nat (t0 ++ [s[i]]) 0 t0.length (by omega) (by simp)
              have hc' : cutL (t0 ++ [s[i]]) 0 ((t0.length : Nat) : Int) = some t0 := by
                have h3 : cutL (t0 ++ [s[i]]) 0 ((t0.length : Nat) : Int) = _ := hc
                rw [h3]; simp
              rw [hl, hc']; rfl
            rw [loopM_out hstep]
            have : s.length - (s.drop (i + 2)).length = i + 2 := by rw [List.length_drop]; omega
            simp only [Option.bind_some, List.append_nil, this]
          · rw [if_neg ho]
            by_cases hx : s[i + 1] = 255
            · rw [if_pos hx]
              have hstep : ref05_text.l1 s ((i : Int), t0) = some (.inl (((i + 2 : Nat) : Int), t0 ++ [s[i]])) := by
                unfold ref05_text.l1
                have n4 : ((((s[i + 1].toNat : Nat) : Int)) != 255) = false := by simp [hx]
                have n6 : ((((s[i + 1].toNat : Nat) : Int)) == 1) = false := by simp [hx]
                simp only [cb, decide_true, if_true, getB_nat, List.getElem?_eq_getElem hb, Option.map_some, Option.bind_some, toB_of, hroom, n3, Bool.false_eq_true, if_false, w1, cc, decide_false, List.getElem?_eq_getElem hlt, n4]
                unfold ref05_text.j3 ref05_text.j4
                simp only [Bool.false_eq_true, if_false, w1, getB_nat, List.getElem?_eq_getElem hlt, Option.map_some, Option.bind_some, n6, w2]
              rw [loopM_go hstep, ih (i + 2) (t0 ++ [s[i]]) (by omega) (by omega) (by omega) (by simp; omega), hz]
              cases scanT (s.drop (i + 2)) with
              | none => rfl
              | some p => simp only [Option.map_some, List.append_assoc, List.cons_append, List.nil_append]
            · rw [if_neg hx]
              have hstep : ref05_text.l1 s ((i : Int), t0) = some (.inr (.inr (noPart, 0))) := by
                unfold ref05_text.l1
                have n4 : ((((s[i + 1].toNat : Nat) : Int)) != 255) = true := by
                  simp only [bne_iff_ne, ne_eq]; intro e; exact hx (UInt8.toNat_inj.1 (by simpa using Int.ofNat.inj e))
                have n5 : ((((s[i + 1].toNat : Nat) : Int)) != 1) = true := by
                  simp only [bne_iff_ne, ne_eq]; intro e; exact ho (UInt8.toNat_inj.1 (by simpa using Int.ofNat.inj e))
                simp only [cb, decide_true, if_true, getB_nat, List.getElem?_eq_getElem hb, Option.map_some, Option.bind_some, toB_of, hroom, n3, Bool.false_eq_true, if_false, w1, cc, decide_false, List.getElem?_eq_getElem hlt, n4]
                unfold ref05_text.j3
                simp only [n5, if_true]; rfl
              rw [loopM_out hstep]; exact hK2
        · have hstep : ref05_text.l1 s ((i : Int), t0) = some (.inr (.inr (noPart, 0))) := by
            unfold ref05_text.l1
            have cc : (((i + 1 : Nat) : Int) ≥ ((s.length : Nat) : Int)) := by omega
            simp only [cb, decide_true, if_true, getB_nat, List.getElem?_eq_getElem hb, Option.map_some, Option.bind_some, toB_of, hroom, n3, Bool.false_eq_true, if_false, w1, cc]
            unfold ref05_text.j3
            simp only [if_true]; rfl
          rw [loopM_out hstep]
          have hl : (s.drop i).length ≤ 1 := by rw [List.length_drop]; omega
          match hd : s.drop i, hl with
          | [], _ => simp [scanT, hK2]
          | [x], _ => simp [scanT, hK2]
      · have n3 : ((((s[i].toNat : Nat) : Int)) != 0) = true := by
          simp only [bne_iff_ne, ne_eq]
          intro e; exact hz (UInt8.toNat_inj.1 (by simpa using e))
        have hstep : ref05_text.l1 s ((i : Int), t0) = some (.inl (((i + 1 : Nat) : Int), t0 ++ [s[i]])) := by
          unfold ref05_text.l1 ref05_text.j4
          simp only [cb, decide_true, if_true, getB_nat, List.getElem?_eq_getElem hb, Option.map_some, Option.bind_some, toB_of, hroom, n3, w1]
        rw [loopM_go hstep, ih (i + 1) (t0 ++ [s[i]]) (by omega) (by omega) (by omega) (by simp; omega)]
        by_cases hlt : i + 1 < s.length
        · have e1 : s.drop i = s[i] :: s[i + 1] :: s.drop (i + 2) := by rw [List.drop_eq_getElem_cons hb, List.drop_eq_getElem_cons hlt]
          have e2 : s.drop (i + 1) = s[i + 1] :: s.drop (i + 2) := by rw [List.drop_eq_getElem_cons hlt]
          rw [e1, e2]
          conv => rhs; unfold scanT
          rw [if_neg hz]
          cases scanT (s[i + 1] :: s.drop (i + 2)) with
          | none => rfl
          | some p => simp only [Option.map_some, List.append_assoc, List.cons_append, List.nil_append]
        · have e2 : s.drop (i + 1) = [] := List.drop_of_length_le (by omega)
          rw [List.drop_eq_getElem_cons hb, e2]
          simp [scanT]
    · obtain rfl : i = s.length := by omega
      have hstep : ref05_text.l1 s ((s.length : Int), t0) = some (.inr (.inl ())) := by
        unfold ref05_text.l1
        simp only [Int.lt_irrefl, decide_false, Bool.false_eq_true, if_false]
      rw [loopM_out hstep, List.drop_length]
      simp [scanT, hK1]
theorem ref05_text_eq (c : UInt8) (s : Str) (hs : s.length ≤ 100000000000) : ref05_text (c :: s) = some (match scanT s with | some (t, r) => ({ IsText := true, N := 0, S := t }, ((s.length + 1 - r.length : Nat) : Int)) | none => (noPart, 0)) := by
  unfold ref05_text
  have := refText_loop (c :: s) (by simp; omega) (fun e => match e with | (.inl ()) => some (({ IsText := false, N := 0, S := ([] : Str) } : T_api_Part), 0) | (.inr r43) => some r43) (noPart, 0) rfl rfl s.length 1 [] (by simp) (by omega) (by simp) (by simp)
  refine Eq.trans this ?_
  simp only [List.drop_succ_cons, List.drop_zero, List.nil_append]
  cases scanT s <;> rfl
theorem refNum_loop (s : Str) (x : Int × Int) : loopM (ref05_number.l1 s) x = loopM (order_Decode.l4 s) x := by
  have : ref05_number.l1 s = order_Decode.l4 s := rfl
  rw [this]
theorem ref05_number_eq (c : UInt8) (s : Str) : ref05_number (c :: s) = some (if 8 ≤ s.length then ({ IsText := false, N := (beV 0 (s.take 8) : Int) - 9223372036854775808, S := [] }, 9) else (noPart, 0)) := by
  unfold ref05_number
  by_cases h : 8 ≤ s.length
  · have c1 : ¬ ((((c :: s).length : Nat) : Int) < 9) := by simp; omega
    simp only [c1, decide_false, Bool.false_eq_true, if_false, h, if_true]
    have hl := num_loop (c :: s) (by simp; omega) 8 1 0 rfl (by omega) (by decide)
    have hl' : loopM (ref05_number.l1 (c :: s)) (0, 1) = _ := (refNum_loop _ _).trans hl
    rw [hl']
    simp only [Option.bind_some, List.drop_succ_cons, List.drop_zero]
    rw [down_eq2 _ (beV8 s)]
  · have c1 : ((((c :: s).length : Nat) : Int) < 9) := by simp; omega
    simp only [c1, decide_true, if_true, h, if_false]
    rfl
theorem refDecode_step (s : Str) (hs : s.length ≤ 100000000000) (i : Nat) (hi : i ≤ s.length) (acc : List Part) (ha : acc.length ≤ i) :
    ref05_Decode.l1 s ((i : Int), acc) = some (if s.drop i = [] then .inr (.inl acc) else match partOf (s.drop i) with | some (p, r) => .inl (((s.length - r.length : Nat) : Int), acc ++ [p]) | none => .inr (.inr bad)) := by
  by_cases hb : i < s.length
  · have e1 : s.drop i = s[i] :: s.drop (i + 1) := List.drop_eq_getElem_cons hb
    have hcut := cutL_to_end s i hi
    have hl1 : (s.drop (i + 1)).length = s.length - (i + 1) := List.length_drop
    rw [e1] at hcut ⊢
    rw [if_neg (List.cons_ne_nil _ _)]
    rw [partOf_cons]
    unfold ref05_Decode.l1
    have cb : ((i : Int) < ((s.length : Nat) : Int)) := by omega
    have hroom := room_ok (n := acc.length + 1) (by omega)
    by_cases h16 : s[i] = 16
    · have n1 : ((((s[i].toNat : Nat) : Int)) == 16) = true := by simp [h16]
      simp only [cb, decide_true, if_true, getB_nat, List.getElem?_eq_getElem hb, Option.map_some, Option.bind_some, n1, hcut, ref05_number_eq, h16]
      by_cases h8 : 8 ≤ (s.drop (i + 1)).length
      · simp only [h8, if_true]
        unfold ref05_Decode.j3
        rw [ref05_may_eq]
        unfold ref05_Decode.j4
        have n2 : ((9 : Int) == 0) = false := rfl
        have hw : IntKind.wrap .i64 ((i : Int) + 9) = ((i + 9 : Nat) : Int) := by rw [wrap_i64 (by omega) (by omega)]; omega
        have hd : s.length - ((s.drop (i + 1)).drop 8).length = i + 9 := by rw [List.length_drop, hl1]; omega
        simp only [n2, Bool.false_eq_true, if_false, Option.bind_some, hroom, hw, hd]
        by_cases hr : -9007199254740991 ≤ (beV 0 ((s.drop (i + 1)).take 8) : Int) - 9223372036854775808 ∧ (beV 0 ((s.drop (i + 1)).take 8) : Int) - 9223372036854775808 ≤ 9007199254740991
        · have hp : partOk { IsText := false, N := (beV 0 ((s.drop (i + 1)).take 8) : Int) - 9223372036854775808, S := [] } = true := by simp only [partOk, Bool.false_eq_true, if_false, hr.1, hr.2, decide_true, Bool.and_true]; rfl
          rw [if_pos hr]
          simp only [hp, Bool.not_true, Bool.false_eq_true, if_false, hd]
          exact if_pos rfl
        · have hp : partOk { IsText := false, N := (beV 0 ((s.drop (i + 1)).take 8) : Int) - 9223372036854775808, S := [] } = false := by
            cases hb : partOk { IsText := false, N := (beV 0 ((s.drop (i + 1)).take 8) : Int) - 9223372036854775808, S := [] } with
            | false => rfl
            | true => exact absurd (by simpa only [partOk, Bool.false_eq_true, if_false, beq_self_eq_true, Bool.true_and, Bool.and_eq_true, decide_eq_true_eq] using hb) hr
          rw [if_neg hr]
          simp only [hp, Bool.not_false, if_true, bad]
          exact if_pos rfl
      · simp only [h8, if_false]
        unfold ref05_Decode.j3 ref05_Decode.j4
        rfl
    · have n1 : ((((s[i].toNat : Nat) : Int)) == 16) = false := by
        simp only [beq_eq_false_iff_ne, ne_eq]; intro e; exact h16 (UInt8.toNat_inj.1 (by simpa using Int.ofNat.inj e))
      by_cases h32 : s[i] = 32
      · have n2 : ((((s[i].toNat : Nat) : Int)) == 32) = true := by simp [h32]
        simp only [cb, decide_true, if_true, getB_nat, List.getElem?_eq_getElem hb, Option.map_some, Option.bind_some, n1, n2, hcut, Bool.false_eq_true, if_false, ref05_text_eq _ (s.drop (i + 1)) (by omega), h16, h32]
        cases hsc : scanT (s.drop (i + 1)) with
        | none =>
          unfold ref05_Decode.j3 ref05_Decode.j4
          rfl
        | some q =>
          obtain ⟨t, r⟩ := q
          have hl2 := scanT_length _ _ _ hsc
          unfold ref05_Decode.j3
          rw [ref05_may_eq]
          unfold ref05_Decode.j4
          have n3 : ((((s.drop (i + 1)).length + 1 - r.length : Nat) : Int) == 0) = false := by
            simp only [beq_eq_false_iff_ne, ne_eq]; omega
          have hw : IntKind.wrap .i64 ((i : Int) + ((((s.drop (i + 1)).length + 1 - r.length : Nat) : Int))) = ((s.length - r.length : Nat) : Int) := by rw [wrap_i64 (by omega) (by omega)]; omega
          simp only [n3, Bool.false_eq_true, if_false, Option.bind_some, hroom, hw]
          by_cases hp : t.length % 2 = 0
          · have : partOk { IsText := true, N := 0, S := t } = true := by simp [partOk, hp]
            simp [this, hp]
          · have : partOk { IsText := true, N := 0, S := t } = false := by simp [partOk, hp]
            simp [this, hp, bad]
      · have n2 : ((((s[i].toNat : Nat) : Int)) == 32) = false := by
          simp only [beq_eq_false_iff_ne, ne_eq]; intro e; exact h32 (UInt8.toNat_inj.1 (by simpa using Int.ofNat.inj e))
        simp only [cb, decide_true, if_true, getB_nat, List.getElem?_eq_getElem hb, Option.map_some, Option.bind_some, n1, n2, Bool.false_eq_true, if_false, h16, h32]
        unfold ref05_Decode.j3 ref05_Decode.j4
        rfl
  · have e1 : s.drop i = [] := List.drop_of_length_le (by omega)
    rw [e1, if_pos rfl]
    unfold ref05_Decode.l1
    have cb : ¬ ((i : Int) < ((s.length : Nat) : Int)) := by omega
    simp only [cb, decide_false, Bool.false_eq_true, if_false]
theorem refDecode_loop (s : Str) (hs : s.length ≤ 100000000000) : ∀ (f i : Nat) (acc : List Part), s.length - i ≤ f → i ≤ s.length → acc.length ≤ i → loopM (ref05_Decode.l1 s) ((i : Int), acc) = some (match decF f (s.drop i) with | some k => .inl (acc ++ k) | none => .inr bad) := by
  intro f
  induction f with
  | zero =>
    intro i acc h hi ha
    have h1 := refDecode_step s hs i hi acc ha
    have e : s.drop i = [] := List.drop_of_length_le (by omega)
    rw [if_pos e] at h1
    rw [loopM_out h1, e]; simp [decF]
  | succ f ih =>
    intro i acc h hi ha
    have h1 := refDecode_step s hs i hi acc ha
    by_cases e : s.drop i = []
    · rw [if_pos e] at h1
      rw [loopM_out h1, e]; simp [decF]
    · rw [if_neg e] at h1
      have hdl : (s.drop i).length = s.length - i := List.length_drop
      match hd : s.drop i, e with
      | c :: q, _ =>
        unfold decF
        rw [← hd]
        cases hp : partOf (s.drop i) with
        | none => rw [hp] at h1; rw [loopM_out h1]
        | some x =>
          obtain ⟨p, r⟩ := x
          rw [hp] at h1
          have hl := partOf_length hp
          obtain ⟨n, hn⟩ := partOf_suffix hp
          have hr : r = s.drop (s.length - r.length) := by
            rw [hn, List.drop_drop, List.length_drop]
            by_cases hh : i + n ≤ s.length
            · congr 1; omega
            · rw [List.drop_of_length_le (by omega), List.drop_of_length_le (by omega)]
          rw [loopM_go h1, ih (s.length - r.length) (acc ++ [p]) (by omega) (by omega) (by rw [List.length_append]; simp only [List.length_cons, List.length_nil]; omega), ← hr]
          cases hd2 : decF f r <;> simp [hd2]
theorem ref05_Decode_eq (s : Str) (hs : s.length ≤ 100000000000) : ref05_Decode s = some (decode s) := by
  unfold ref05_Decode decode
  have h := refDecode_loop s hs s.length 0 [] (by omega) (by omega) (by simp)
  have h' : loopM (ref05_Decode.l1 s) (0, []) = _ := h
  rw [h']
  simp only [List.drop_zero, Option.bind_some, List.nil_append]
  by_cases hl : s.length > 256
  · have c : (((s.length : Nat) : Int) > 256) := by omega
    cases decF s.length s <;> simp [c, hl, bad]
  · have c : ¬ (((s.length : Nat) : Int) > 256) := by omega
    cases decF s.length s <;> simp [c, hl]
end Go.Gw
