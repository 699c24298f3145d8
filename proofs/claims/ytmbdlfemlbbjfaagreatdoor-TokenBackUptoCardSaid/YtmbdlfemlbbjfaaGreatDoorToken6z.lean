/- Chapter 6: the code's cutter, piece by piece. -/
import Derived.Test.YtmbdlfemlbbjfaaGreatDoorToken5z
set_option linter.unusedVariables false
set_option linter.unusedSimpArgs false
set_option linter.unnecessarySimpa false
namespace Go.Gw
set_option linter.unusedSimpArgs false

/-! ### blanks -/
theorem indexAny_nl : ∀ s : Str, (s.any isNl = false ∧ Lib.indexAny s [10, 13] = -1 ∧ s.dropWhile (fun x => !isNl x) = []) ∨ ∃ i : Nat, Lib.indexAny s [10, 13] = (i : Int) ∧ i ≤ s.length ∧ s.any isNl = true ∧ s.drop i = s.dropWhile (fun x => !isNl x) ∧ (s.take i).any isNl = false
  | [] => .inl ⟨rfl, rfl, rfl⟩
  | b :: l => by
    rw [Lib.indexAny]
    cases h : ([10, 13] : Str).contains b with
    | true =>
      have hb : isNl b = true := h
      refine .inr ⟨0, ?_, by omega, by simp [hb], ?_, rfl⟩
      · simp
      · simp [hb]
    | false =>
      have hb : isNl b = false := h
      rcases indexAny_nl l with ⟨h1, h2, h3⟩ | ⟨i, h1, h2, h3, h4, h5⟩
      · refine .inl ⟨by simp only [List.any_cons, hb, h1, Bool.or_self], ?_, by rw [List.dropWhile_cons, if_pos (by simp [hb])]; exact h3⟩
        rw [h2]; rfl
      · refine .inr ⟨i + 1, ?_, by simp; omega, by simp only [List.any_cons, h3, Bool.or_true], by rw [List.dropWhile_cons, if_pos (by simp [hb]), List.drop_succ_cons]; exact h4, by simp only [List.take_succ_cons, List.any_cons, hb, h5, Bool.or_self]⟩
        rw [h1]
        have c : (((i : Nat) : Int) == -1) = false := by rw [beq_eq_false_iff_ne]; omega
        simp only [c, Bool.false_eq_true, if_false]; rfl
theorem containsAny_nl (s : Str) : Lib.containsAny s [10, 13] = s.any isNl := by
  unfold Lib.containsAny
  rcases indexAny_nl s with ⟨h1, h2, _⟩ | ⟨i, h1, _, h3, _⟩
  · rw [h1, h2]; rfl
  · rw [h1, h3]; simp
theorem blanks_j4 (s : Str) (f : Bool) (n : Nat) (hn : n ≤ s.length) (hs : s.length ≤ 1000000000) : token_cutter_blanks.j4 s f (n : Int) = some (.inl (s.drop n, f || (s.take n).any isNl)) := by
  unfold token_cutter_blanks.j4 token_cutter_blanks.j5
  have e1 := cutL_to_end s n hn
  have e2 : cutL s 0 (n : Int) = some (s.take n) := by
    have := cutL_nat s 0 n (by omega) hn
    simpa using this
  have e3 : strings_ContainsAny (s.take n) ([10, 13] : Str) = some ((s.take n).any isNl) := by
    unfold strings_ContainsAny
    rw [if_pos ⟨by simp only [List.length_take]; omega, rfl⟩, containsAny_nl]
  cases f with
  | true => simp only [if_true, e1, Option.bind_some, Bool.true_or]
  | false => simp only [Bool.false_eq_true, if_false, e1, e2, e3, Option.bind_some, Bool.false_or]
theorem endC_spec : ∀ (s : Str) (n : Nat), endC s = some n → ∃ t, s.drop n = 42 :: 47 :: t
  | [], n, h => by cases h
  | c :: r, n, h => by
    rw [endC] at h
    split at h
    · rename_i hp
      simp only [Option.some.injEq] at h
      subst h
      cases r with
      | nil => simp [List.isPrefixOf] at hp
      | cons d r =>
        simp only [List.isPrefixOf, Bool.and_true, Bool.and_eq_true, beq_iff_eq] at hp
        obtain ⟨rfl, rfl⟩ := hp
        exact ⟨r, rfl⟩
    · cases he : endC r with
      | none => rw [he] at h; cases h
      | some k =>
        rw [he] at h
        simp only [Option.map_some, Option.some.injEq] at h
        subst h
        exact endC_spec r k he
theorem comment_nl (r : Str) (n : Nat) (h : endC r = some n) : ((47 :: 42 :: r).take (n + 4)).any isNl = (r.take n).any isNl := by
  obtain ⟨t, ht⟩ := endC_spec r n h
  have e : r.take (n + 2) = r.take n ++ [42, 47] := by
    have h2 : r.take (n + 2) = r.take n ++ (r.drop n).take 2 := by rw [List.take_add]
    rw [h2, ht]; rfl
  have e2 : (47 :: 42 :: r).take (n + 4) = 47 :: 42 :: r.take (n + 2) := rfl
  rw [e2, e]
  have c1 : isNl 47 = false := by decide
  have c2 : isNl 42 = false := by decide
  simp only [List.any_cons, List.any_append, List.any_nil, c1, c2, Bool.false_or, Bool.or_false]
def outB (cc : T_token_cutter) (p : Str × Bool × Bool) : (Str × Bool) ⊕ (Bool × T_token_cutter) :=
  if p.2.2 = true then .inl (p.1, p.2.1) else .inr (false, { src := cc.src, rest := p.1, fresh := p.2.1 })
theorem other_fin : ∀ b : Fin 256, isNl (UInt8.ofNat b.val) = false → ¬ (UInt8.ofNat b.val = 32 ∨ UInt8.ofNat b.val = 9 ∨ UInt8.ofNat b.val = 11 ∨ UInt8.ofNat b.val = 12) → b.val ≠ 32 ∧ (b.val < 9 ∨ 13 < b.val) := by decide +kernel
theorem blanks_loop (cc : T_token_cutter) : ∀ (m : Nat) (s : Str) (f : Bool), s.length < m → s.length ≤ 1000000000 → loopM (token_cutter_blanks.l1 cc) (s, f) = some (outB cc (blanksG m s f))
  | 0, s, f, h, _ => by omega
  | m + 1, [], f, _, _ => loopM_out rfl
  | m + 1, c :: r, f, hm, hs => by
    simp only [List.length_cons] at hm
    have hr : r.length ≤ 1000000000 := by simp only [List.length_cons] at hs; omega
    have cn : (!((c :: r) == ([] : Str))) = true := rfl
    have hj4 := blanks_j4 (c :: r) f
    rw [blanksG]
    by_cases h1 : isNl c = true
    · rw [if_pos h1]
      have hc : c = 10 ∨ c = 13 := by
        unfold isNl at h1
        simpa using h1
      have hstep : token_cutter_blanks.l1 cc (c :: r, f) = some (.inl (r, true)) := by
        unfold token_cutter_blanks.l1 token_cutter_blanks.j3 strings_HasPrefix Lib.hasPrefix
        have hj := hj4 1 (by simp) hs
        have e : (f || (((c :: r).take 1).any isNl)) = true := by simp [h1]
        rw [e] at hj
        rcases hc with rfl | rfl
        · simp only [cn, if_true, getB_zero]
          exact hj
        · simp only [cn, if_true, getB_zero]
          exact hj
      rw [loopM_go hstep]
      exact blanks_loop cc m r true (by omega) hr
    · have h1' : isNl c = false := by simpa using h1
      rw [if_neg h1]
      by_cases h2 : c = 32 ∨ c = 9 ∨ c = 11 ∨ c = 12
      · rw [if_pos h2]
        have hstep : token_cutter_blanks.l1 cc (c :: r, f) = some (.inl (r, f)) := by
          unfold token_cutter_blanks.l1 token_cutter_blanks.j3 strings_HasPrefix Lib.hasPrefix
          have hj := hj4 1 (by simp) hs
          have e : (f || (((c :: r).take 1).any isNl)) = f := by simp [h1']
          rw [e] at hj
          rcases h2 with rfl | rfl | rfl | rfl
          · simp only [cn, if_true, getB_zero]; exact hj
          · simp only [cn, if_true, getB_zero]; exact hj
          · simp only [cn, if_true, getB_zero]; exact hj
          · simp only [cn, if_true, getB_zero]; exact hj
        rw [loopM_go hstep]
        exact blanks_loop cc m r f (by omega) hr
      · rw [if_neg h2]
        by_cases h3 : ([47, 47] : Str).isPrefixOf (c :: r) = true
        · rw [if_pos h3]
          have hc : c = 47 := by
            simp only [List.isPrefixOf, Bool.and_eq_true, beq_iff_eq] at h3; exact h3.1.symm
          have hdw : (c :: r).dropWhile (fun x => !isNl x) = r.dropWhile (fun x => !isNl x) := by
            rw [List.dropWhile_cons, if_pos (by simp [h1'])]
          have hlen := dropWhile_len (fun x => !isNl x) r
          have hstep : token_cutter_blanks.l1 cc (c :: r, f) = some (.inl ((c :: r).dropWhile (fun x => !isNl x), f)) := by
            unfold token_cutter_blanks.l1 strings_HasPrefix strings_IndexAny Lib.hasPrefix
            simp only [cn, if_true, h3, Option.bind_some]
            rw [if_pos (by first | exact ⟨by omega, rfl⟩ | exact ⟨by omega, trivial⟩), Option.bind_some]
            rcases indexAny_nl (c :: r) with ⟨g1, g2, g3⟩ | ⟨i, g1, g2, g3, g4, g5⟩
            · rw [g2, g3]
              have hj := hj4 (c :: r).length (Nat.le_refl _) hs
              rw [List.drop_length, List.take_length, g1, Bool.or_false] at hj
              simpa using hj
            · have hj := hj4 i g2 hs
              rw [g4, g5, Bool.or_false] at hj
              have cneg : ¬ ((i : Int) < 0) := by omega
              rw [g1]
              simp only [cneg, decide_false, Bool.false_eq_true, if_false]
              exact hj
          rw [loopM_go hstep]
          exact blanks_loop cc m _ f (by rw [hdw]; omega) (by rw [hdw]; omega)
        · have h3' : ([47, 47] : Str).isPrefixOf (c :: r) = false := by rw [← Bool.not_eq_true]; exact h3
          rw [if_neg h3]
          by_cases h4 : ([47, 42] : Str).isPrefixOf (c :: r) = true
          · rw [if_pos h4]
            cases r with
            | nil => simp [List.isPrefixOf] at h4
            | cons d r =>
              simp only [List.isPrefixOf, Bool.and_true, Bool.and_eq_true, beq_iff_eq] at h4
              obtain ⟨rfl, rfl⟩ := h4
              have hdrop : ((47 :: 42 :: r : Str)).drop 2 = r := rfl
              rw [hdrop]
              have hcut : cutL (47 :: 42 :: r : Str) 2 (((47 :: 42 :: r : Str).length : Nat) : Int) = some r := by
                have := cutL_to_end (47 :: 42 :: r : Str) 2 (by simp)
                exact this
              have hpre : List.isPrefixOf [47, 42] (47 :: 42 :: r : Str) = true := rfl
              cases he : endC r with
              | none =>
                refine loopM_out ?_
                unfold token_cutter_blanks.l1 strings_HasPrefix strings_Index Lib.hasPrefix
                simp only [cn, if_true, h3', hpre, Option.bind_some, Bool.false_eq_true, if_false, hcut]
                rw [if_pos (by simp only [List.length_cons] at hr; omega), Option.bind_some, index_endC, he]
                rfl
              | some n =>
                have hle := endC_le r n he
                have hstep : token_cutter_blanks.l1 cc (47 :: 42 :: r, f) = some (.inl ((47 :: 42 :: r : Str).drop (n + 4), f || (r.take n).any isNl)) := by
                  unfold token_cutter_blanks.l1 strings_HasPrefix strings_Index Lib.hasPrefix
                  simp only [cn, if_true, h3', hpre, Option.bind_some, Bool.false_eq_true, if_false, hcut]
                  rw [if_pos (by simp only [List.length_cons] at hr; omega), Option.bind_some, index_endC, he]
                  have cneg : ¬ (((n : Nat) : Int) < 0) := by omega
                  have w : IntKind.wrap .i64 ((n : Int) + 4) = ((n + 4 : Nat) : Int) := by rw [wrap_i64 (by omega) (by simp only [List.length_cons] at hr; omega)]; omega
                  simp only [cneg, decide_false, Bool.false_eq_true, if_false, w]
                  have hj := hj4 (n + 4) (by simp only [List.length_cons]; omega) hs
                  rw [comment_nl r n he] at hj
                  exact hj
                rw [loopM_go hstep]
                simp only [List.length_cons] at hm
                have hlt : ((47 :: 42 :: r : Str).drop (n + 4)).length ≤ r.length := by simp only [List.length_drop, List.length_cons]; omega
                exact blanks_loop cc m _ _ (by omega) (by simp only [List.length_cons] at hr; omega)
          · have h4' : ([47, 42] : Str).isPrefixOf (c :: r) = false := by rw [← Bool.not_eq_true]; exact h4
            rw [if_neg h4]
            refine loopM_out ?_
            unfold token_cutter_blanks.l1 token_cutter_blanks.j3 strings_HasPrefix Lib.hasPrefix
            have ho := other_fin ⟨c.toNat, c.toNat_lt⟩
            rw [ofN] at ho
            obtain ⟨o1, o2⟩ := ho h1' h2
            simp only at o1 o2
            have b32 : ((((c.toNat : Nat) : Int)) != 32) = true := by rw [bne_iff_ne]; omega
            simp only [cn, if_true, h3', h4', Option.bind_some, Bool.false_eq_true, if_false, getB_zero, b32]
            by_cases o3 : c.toNat < 9
            · have d : (((c.toNat : Nat) : Int) < 9) := by omega
              simp only [d, decide_true, if_true]; rfl
            · have d : ¬ (((c.toNat : Nat) : Int) < 9) := by omega
              have d2 : (((c.toNat : Nat) : Int) > 13) := by omega
              simp only [d, d2, decide_true, decide_false, Bool.false_eq_true, if_false, if_true]; rfl
theorem token_blanks_eq (cc : T_token_cutter) (hs : cc.rest.length ≤ 1000000000) : token_cutter_blanks cc =
    some ((blanksG (cc.rest.length + 1) cc.rest false).2.2, { src := cc.src, rest := (blanksG (cc.rest.length + 1) cc.rest false).1, fresh := (blanksG (cc.rest.length + 1) cc.rest false).2.1 }) := by
  unfold token_cutter_blanks
  rw [blanks_loop cc (cc.rest.length + 1) cc.rest false (by omega) hs, Option.bind_some]
  unfold outB
  cases h : (blanksG (cc.rest.length + 1) cc.rest false).2.2 with
  | true => simp
  | false => simp

/-! ### numbers -/
def okN (o : Nat) (t : Str) (a : Nat) : Option Nat := match parsN o t a with
  | none => none
  | some n => if n ≤ 9007199254740991 then some n else none
theorem parsN_ge {o : Nat} (ho : 1 ≤ o) : ∀ (t : Str) (a n : Nat), parsN o t a = some n → a ≤ n
  | [], a, n, h => by cases h; exact Nat.le_refl _
  | c :: r, a, n, h => by
    simp only [parsN] at h
    split at h
    · cases h
    · rename_i d _
      split at h
      · have := parsN_ge ho r _ n h
        have h2 : a * 1 ≤ a * o := Nat.mul_le_mul_left a ho
        omega
      · cases h
def lowN (b : Nat) : Nat := (BitVec.ofNat 8 b ||| 32#8).toNat
theorem lower_fin : ∀ b : Fin 256, internal_strconv_lower ((b.val : Nat) : Int) = some ((lowN b.val : Nat) : Int) := by decide +kernel
theorem lower_eq' (c : UInt8) : internal_strconv_lower ((c.toNat : Nat) : Int) = some ((lowN c.toNat : Nat) : Int) := lower_fin ⟨c.toNat, c.toNat_lt⟩
theorem hexV_fin : ∀ b : Fin 256, (48 ≤ b.val ∧ b.val ≤ 57 → hexV (UInt8.ofNat b.val) = some (b.val - 48)) ∧ (¬ (48 ≤ b.val ∧ b.val ≤ 57) → 97 ≤ lowN b.val → lowN b.val ≤ 122 → hexV (UInt8.ofNat b.val) = if lowN b.val - 87 < 16 then some (lowN b.val - 87) else none) ∧ (¬ (48 ≤ b.val ∧ b.val ≤ 57) → ¬ (97 ≤ lowN b.val ∧ lowN b.val ≤ 122) → hexV (UInt8.ofNat b.val) = none) := by decide +kernel
/-- what becomes of a digit -/
def p53 (o a i : Nat) (d : Option Nat) : Option ((Bool × Int × Int) ⊕ ((Bool × Int) ⊕ (Int × GErr))) :=
  match d with
  | none => some (.inr (.inr (0, .code 99 2)))
  | some d => if d < o then (if a * o + d ≤ 9007199254740991 then some (.inl (false, ((a * o + d : Nat) : Int), ((i + 1 : Nat) : Int))) else some (.inr (.inr (9007199254740991, .code 99 1)))) else some (.inr (.inr (0, .code 99 2)))
theorem p53_j10 (o a i d : Nat) (ho : o = 10 ∨ o = 16) (x18 : Int) (hx : 9007199254740992 ≤ x18) (ha : a ≤ 9007199254740991) (hi : i < 1000000000000) (hd : d < 256) :
    internal_strconv_ParseUint_c53.j10 (o : Int) x18 9007199254740992 false (a : Int) (i : Int) (d : Int) = p53 o a i (some d) := by
  unfold internal_strconv_ParseUint_c53.j10 internal_strconv_ParseUint_c53.j11 p53
  have wo : IntKind.wrap .u8 (o : Int) = (o : Int) := wrap_u8 (by omega) (by omega)
  have wo2 : IntKind.wrap .u64 (o : Int) = (o : Int) := wrap_u64 (by omega) (by omega)
  have wd : IntKind.wrap .u64 (d : Int) = (d : Int) := wrap_u64 (by omega) (by omega)
  have hmul : a * o ≤ 9007199254740991 * 16 := Nat.mul_le_mul ha (by omega)
  have em : ((a : Int) * (o : Int)) = ((a * o : Nat) : Int) := by simp
  have wm : IntKind.wrap .u64 ((a : Int) * (o : Int)) = ((a * o : Nat) : Int) := by rw [em]; exact wrap_u64 (by omega) (by omega)
  have ws : IntKind.wrap .u64 (((a * o : Nat) : Int) + (d : Int)) = ((a * o + d : Nat) : Int) := by rw [wrap_u64 (by omega) (by omega)]; omega
  have w9 : IntKind.wrap .u64 (9007199254740992 - 1) = 9007199254740991 := by decide
  simp only [wo, wo2, wd, wm, ws, w9, wrap_succ hi]
  by_cases h1 : d < o
  · have c1 : ¬ ((d : Int) ≥ (o : Int)) := by omega
    have c2 : ¬ ((a : Int) ≥ x18) := by omega
    have c3 : ¬ (((a * o + d : Nat) : Int) < ((a * o : Nat) : Int)) := by omega
    simp only [c1, c2, c3, h1, decide_false, Bool.false_eq_true, if_false, if_true, Bool.false_or]
    by_cases h2 : a * o + d ≤ 9007199254740991
    · have c4 : ¬ (((a * o + d : Nat) : Int) > 9007199254740991) := by omega
      simp only [c4, h2, decide_false, Bool.false_eq_true, if_false, if_true]
    · have c4 : (((a * o + d : Nat) : Int) > 9007199254740991) := by omega
      simp only [c4, h2, decide_true, if_false, if_true]
  · have c1 : ((d : Int) ≥ (o : Int)) := by omega
    simp only [c1, h1, decide_true, if_true, if_false]
theorem p53_step (o a i : Nat) (ho : o = 10 ∨ o = 16) (t : Str) (c : UInt8) (hc : t[i]? = some c) (x18 : Int) (hx : 9007199254740992 ≤ x18) (ha : a ≤ 9007199254740991) (hi : i < 1000000000000) :
    internal_strconv_ParseUint_c53.l1 (o : Int) t (o : Int) x18 9007199254740992 (false, (a : Int), (i : Int)) = p53 o a i (hexV c) := by
  have hlt : i < t.length := (List.getElem?_eq_some_iff.1 hc).1
  unfold internal_strconv_ParseUint_c53.l1
  have c1 : ((i : Int) < ((t.length : Nat) : Int)) := by omega
  have co : ((o : Int) == 0) = false := by rw [beq_eq_false_iff_ne]; omega
  obtain ⟨f1, f2, f3⟩ := hexV_fin ⟨c.toNat, c.toNat_lt⟩
  rw [ofN] at f1 f2 f3
  simp only at f1 f2 f3
  simp only [c1, decide_true, if_true, getI_nat, hc, Option.bind_some, co, Bool.and_false, Bool.false_eq_true, if_false, lower_eq']
  by_cases g1 : 48 ≤ c.toNat ∧ c.toNat ≤ 57
  · have d1 : ((48 : Int) ≤ ((c.toNat : Nat) : Int)) := by omega
    have d2 : (((c.toNat : Nat) : Int) ≤ 57) := by omega
    have w : IntKind.wrap .u8 (((c.toNat : Nat) : Int) - 48) = ((c.toNat - 48 : Nat) : Int) := by rw [wrap_u8 (by omega) (by omega)]; omega
    simp only [d1, d2, decide_true, Bool.and_self, if_true, w]
    rw [p53_j10 o a i _ ho x18 hx ha hi (by omega), f1 g1]
  · have d1 : ((decide ((48 : Int) ≤ ((c.toNat : Nat) : Int))) && (decide (((c.toNat : Nat) : Int) ≤ 57))) = false := by
      rw [← Bool.not_eq_true, Bool.and_eq_true, decide_eq_true_eq, decide_eq_true_eq]; omega
    simp only [d1, Bool.false_eq_true, if_false]
    have hlow : lowN c.toNat < 256 := by unfold lowN; exact (BitVec.ofNat 8 c.toNat ||| 32#8).isLt
    unfold internal_strconv_ParseUint_c53.j9
    simp only [lower_eq', Option.bind_some]
    by_cases g2 : 97 ≤ lowN c.toNat
    · have e2 : ((97 : Int) ≤ ((lowN c.toNat : Nat) : Int)) := by omega
      simp only [e2, decide_true, if_true]
      by_cases g3 : lowN c.toNat ≤ 122
      · have e3 : (((lowN c.toNat : Nat) : Int) ≤ 122) := by omega
        have w1 : IntKind.wrap .u8 (((lowN c.toNat : Nat) : Int) - 97) = ((lowN c.toNat - 97 : Nat) : Int) := by rw [wrap_u8 (by omega) (by omega)]; omega
        have w2 : IntKind.wrap .u8 (((lowN c.toNat - 97 : Nat) : Int) + 10) = ((lowN c.toNat - 87 : Nat) : Int) := by rw [wrap_u8 (by omega) (by omega)]; omega
        simp only [e3, decide_true, if_true, w1, w2]
        rw [p53_j10 o a i _ ho x18 hx ha hi (by omega), f2 g1 g2 g3]
        split
        · rfl
        · rename_i g4
          unfold p53
          have : ¬ (lowN c.toNat - 87 < o) := by omega
          simp only [this, if_false]
      · have e3 : ¬ (((lowN c.toNat : Nat) : Int) ≤ 122) := by omega
        simp only [e3, decide_false, Bool.false_eq_true, if_false]
        rw [f3 g1 (by omega)]; rfl
    · have e2 : ¬ ((97 : Int) ≤ ((lowN c.toNat : Nat) : Int)) := by omega
      simp only [e2, decide_false, Bool.false_eq_true, if_false]
      rw [f3 g1 (by omega)]; rfl
theorem p53_loop (o : Nat) (ho : o = 10 ∨ o = 16) (t : Str) (ht : t.length ≤ 1000000000) (x18 : Int) (hx : 9007199254740992 ≤ x18) : ∀ (n i a : Nat), n + i = t.length → a ≤ 9007199254740991 →
    ∃ e, loopM (internal_strconv_ParseUint_c53.l1 (o : Int) t (o : Int) x18 9007199254740992) (false, (a : Int), (i : Int)) = some e ∧ match okN o (t.drop i) a with
      | some r => e = .inl (false, (r : Int))
      | none => ∃ v, e = .inr (v, .code 99 2) ∨ e = .inr (v, .code 99 1) := by
  intro n
  induction n with
  | zero =>
    intro i a hi ha
    have hd : t.drop i = [] := List.drop_eq_nil_of_le (by omega)
    rw [hd]
    refine ⟨.inl (false, (a : Int)), loopM_out ?_, ?_⟩
    · unfold internal_strconv_ParseUint_c53.l1
      have c1 : ¬ ((i : Int) < ((t.length : Nat) : Int)) := by omega
      simp only [c1, decide_false, Bool.false_eq_true, if_false]
    · unfold okN parsN
      simp only [ha, if_true]
  | succ n ih =>
    intro i a hi ha
    have hlt : i < t.length := by omega
    have hst := p53_step o a i ho t t[i] (List.getElem?_eq_getElem hlt) x18 hx ha (by omega)
    rw [List.drop_eq_getElem_cons hlt]
    unfold okN parsN
    cases hv : hexV t[i] with
    | none =>
      rw [hv] at hst
      exact ⟨_, loopM_out hst, 0, .inl rfl⟩
    | some d =>
      rw [hv] at hst
      unfold p53 at hst
      simp only at hst ⊢
      by_cases h1 : d < o
      · simp only [h1, if_true] at hst ⊢
        by_cases h2 : a * o + d ≤ 9007199254740991
        · simp only [h2, if_true] at hst
          rw [loopM_go hst]
          exact ih (i + 1) (a * o + d) (by omega) h2
        · simp only [h2, if_false] at hst
          refine ⟨_, loopM_out hst, ?_⟩
          cases hp : parsN o (t.drop (i + 1)) (a * o + d) with
          | none => exact ⟨_, .inr rfl⟩
          | some r =>
            have := parsN_ge (by omega) _ _ _ hp
            have h3 : ¬ (r ≤ 9007199254740991) := by omega
            simp only [h3, if_false]
            exact ⟨_, .inr rfl⟩
      · simp only [h1, if_false] at hst ⊢
        exact ⟨_, loopM_out hst, 0, .inl rfl⟩
theorem parse53_eq (o : Nat) (ho : o = 10 ∨ o = 16) (t : Str) (h0 : t ≠ []) (ht : t.length ≤ 1000000000) :
    ∃ v, strconv_ParseUint_c53 t (o : Int) = some (match okN o t 0 with | some r => ((r : Int), GErr.nil) | none => (v, GErr.opq)) := by
  have key : ∃ e, internal_strconv_ParseUint_c53 t (o : Int) = some e ∧ match okN o t 0 with
      | some r => e = ((r : Int), GErr.nil)
      | none => ∃ v, e = (v, .code 99 2) ∨ e = (v, .code 99 1) := by
    have c : (t == ([] : Str)) = false := by simpa using h0
    have sh : shlI .u64 1 53 = some 9007199254740992 := by decide
    have fin : ∀ x18 : Int, 9007199254740992 ≤ x18 → ∃ e, internal_strconv_ParseUint_c53.j5 t (o : Int) t (o : Int) x18 = some e ∧ match okN o t 0 with
      | some r => e = ((r : Int), GErr.nil)
      | none => ∃ v, e = (v, .code 99 2) ∨ e = (v, .code 99 1) := by
      intro x18 hx
      obtain ⟨e, e1, e2⟩ := p53_loop o ho t ht x18 hx t.length 0 0 (by omega) (by omega)
      have e1' : loopM (internal_strconv_ParseUint_c53.l1 (o : Int) t (o : Int) x18 9007199254740992) (false, 0, 0) = some e := e1
      unfold internal_strconv_ParseUint_c53.j5
      rw [sh, Option.bind_some, e1', Option.bind_some]
      rw [List.drop_zero] at e2
      cases hk : okN o t 0 with
      | some r =>
        rw [hk] at e2
        simp only at e2
        subst e2
        exact ⟨_, rfl, rfl⟩
      | none =>
        rw [hk] at e2
        simp only at e2
        obtain ⟨v, rfl | rfl⟩ := e2
        · exact ⟨_, rfl, v, .inl rfl⟩
        · exact ⟨_, rfl, v, .inr rfl⟩
    unfold internal_strconv_ParseUint_c53 internal_strconv_ParseUint_c53.j4
    rw [c]
    rcases ho with rfl | rfl
    · exact fin 1844674407370955162 (by decide)
    · exact fin 1152921504606846976 (by decide)
  obtain ⟨e, e1, e2⟩ := key
  unfold strconv_ParseUint_c53 strconv_toError
  rw [e1, Option.bind_some]
  cases hk : okN o t 0 with
  | some r =>
    rw [hk] at e2
    simp only at e2
    subst e2
    exact ⟨0, rfl⟩
  | none =>
    rw [hk] at e2
    simp only at e2
    obtain ⟨v, rfl | rfl⟩ := e2
    · refine ⟨v, ?_⟩
      have hc : t.length ≤ 281474976710656 ∧ ((GErr.code 99 2) = .code 99 2 ∨ (GErr.code 99 2) = .code 99 1) := ⟨by omega, .inl rfl⟩
      simp only [GErr.isNil, Bool.not_false, if_true]
      rw [if_pos (by first | exact ⟨hc.1, .inl trivial⟩ | exact ⟨hc.1, .inr trivial⟩)]; rfl
    · refine ⟨v, ?_⟩
      have hc : t.length ≤ 281474976710656 ∧ ((GErr.code 99 1) = .code 99 2 ∨ (GErr.code 99 1) = .code 99 1) := ⟨by omega, .inr rfl⟩
      simp only [GErr.isNil, Bool.not_false, if_true]
      rw [if_pos (by first | exact ⟨hc.1, .inl trivial⟩ | exact ⟨hc.1, .inr trivial⟩)]; rfl
theorem parsN_no95 {o : Nat} : ∀ (t : Str) (a n : Nat), parsN o t a = some n → t.contains 95 = false
  | [], _, _, _ => rfl
  | c :: r, a, n, h => by
    simp only [parsN] at h
    split at h
    · cases h
    · rename_i d hd
      split at h
      · rw [List.contains_cons, parsN_no95 r _ _ h, Bool.or_false, beq_eq_false_iff_ne]
        intro e
        subst e
        have : hexV 95 = none := by decide
        rw [this] at hd; cases hd
      · cases h
theorem number_j5 (o : Nat) (ho : o = 10 ∨ o = 16) (t : Str) (h0 : t ≠ []) (ht : t.length ≤ 1000000000) (x2 : Int) : token_cutter_number.j5 x2 (o : Int) t = some (match okN o t 0 with | some r => ((r : Int), x2) | none => (0, 0)) := by
  obtain ⟨v, hv⟩ := parse53_eq o ho t h0 ht
  unfold token_cutter_number.j5 token_cutter_number.j6
  rw [hv, Option.bind_some]
  cases hk : okN o t 0 with
  | none => rfl
  | some r =>
    have hr : r ≤ 9007199254740991 ∧ parsN o t 0 = some r := by
      unfold okN at hk
      split at hk
      · cases hk
      · split at hk
        · rename_i h1 h2; cases hk; exact ⟨h2, h1⟩
        · cases hk
    unfold strings_Contains
    simp only [GErr.isNil, Bool.not_true, Bool.false_eq_true, if_false]
    rw [if_pos (by omega), Option.bind_some, contains_byte, parsN_no95 t 0 r hr.2]
    simp only [Bool.false_eq_true, if_false]
    rw [wrap_i64 (by omega) (by omega)]
theorem token_number_eq (c : T_token_cutter) (hs : c.rest.length ≤ 1000000000) : token_cutter_number c = some (match numS c.rest with | some (n, k) => ((n : Int), (k : Int)) | none => (0, 0)) := by
  obtain ⟨src, s, fr⟩ := c
  simp only at hs ⊢
  have hle := rowK_le s
  unfold token_cutter_number token_cutter_number.j1
  simp only
  rw [token_row_eq s hs, Option.bind_some]
  have hlen : (s.take (rowK s)).length = rowK s := by rw [List.length_take]; omega
  have hcut : cutL s 0 ((rowK s : Nat) : Int) = some (s.take (rowK s)) := by
    have := cutL_nat s 0 (rowK s) (by omega) hle
    simpa using this
  have rest : token_cutter_number.j2 { src := src, rest := s, fresh := fr } ((rowK s : Nat) : Int) false = some (match numD (s.take (rowK s)) with
      | some n => if n ≤ 9007199254740991 then ((n : Int), ((rowK s : Nat) : Int)) else (0, 0)
      | none => (0, 0)) := by
    unfold token_cutter_number.j2 token_cutter_number.j3 token_cutter_number.j4 numD
    simp only [Bool.false_eq_true, if_false, hcut, Option.bind_some]
    generalize hds : s.take (rowK s) = ds at hlen
    have hdl : ds.length ≤ 1000000000 := by omega
    have h10 : token_cutter_number.j5 ((rowK s : Nat) : Int) 10 ds = some (match parsN 10 ds 0 with
        | some n => if n ≤ 9007199254740991 then ((n : Int), ((rowK s : Nat) : Int)) else (0, 0)
        | none => (0, 0)) := by
      by_cases h0 : ds = []
      · subst h0
        simp only [List.length_nil] at hlen
        rw [← hlen]; rfl
      · have := number_j5 10 (.inl rfl) ds h0 hdl ((rowK s : Nat) : Int)
        have e : ((10 : Nat) : Int) = 10 := rfl
        rw [e] at this
        rw [this]
        unfold okN
        cases parsN 10 ds 0 with
        | none => rfl
        | some n => by_cases hm : n ≤ 9007199254740991 <;> simp only [hm, if_true, if_false]
    have hno : ¬ (2 < ds.length ∧ (ds.take 2 = [48, 120] ∨ ds.take 2 = [48, 88])) → (if (decide (((ds.length : Nat) : Int) > 1)) = true then
          Option.bind (getB ds 0) fun v10 => if (v10 == 48) = true then some ((0 : Int), (0 : Int)) else token_cutter_number.j5 ((rowK s : Nat) : Int) 10 ds
        else if false = true then some (0, 0) else token_cutter_number.j5 ((rowK s : Nat) : Int) 10 ds) = some (match (if 1 < ds.length ∧ ds.head? = some 48 then none else parsN 10 ds 0) with
        | some n => if n ≤ 9007199254740991 then ((n : Int), ((rowK s : Nat) : Int)) else (0, 0)
        | none => (0, 0)) := by
      intro _
      by_cases h1 : 1 < ds.length
      · have d1 : (((ds.length : Nat) : Int) > 1) := by omega
        cases ds with
        | nil => simp at h1
        | cons a r =>
          simp only [d1, decide_true, if_true, getB_zero, Option.bind_some, h1, true_and, List.head?_cons, Option.some.injEq]
          have eb : ((((a.toNat : Nat) : Int)) == 48) = decide (a = 48) := by
            have h48 : (a = 48) ↔ a.toNat = 48 := by
              constructor
              · intro e; subst e; rfl
              · intro e; apply UInt8.toNat_inj.mp; rw [e]; rfl
            rw [beq_dec, decide_eq_decide, h48]; omega
          rw [eb]
          by_cases ha : a = 48
          · simp only [ha, decide_true, if_true]
          · simp only [ha, decide_false, Bool.false_eq_true, if_false]; exact h10
      · have d1 : ¬ (((ds.length : Nat) : Int) > 1) := by omega
        simp only [d1, h1, decide_false, Bool.false_eq_true, if_false, false_and]; exact h10
    by_cases h2 : 2 < ds.length
    · have d2 : (((ds.length : Nat) : Int) > 2) := by omega
      have hc2 : cutL ds 0 2 = some (ds.take 2) := by
        have := cutL_nat ds 0 2 (by omega) (by omega)
        simpa using this
      have hcd : cutL ds 2 ((ds.length : Nat) : Int) = some (ds.drop 2) := cutL_to_end ds 2 (by omega)
      have h16 : token_cutter_number.j5 ((rowK s : Nat) : Int) 16 (ds.drop 2) = some (match parsN 16 (ds.drop 2) 0 with
          | some n => if n ≤ 9007199254740991 then ((n : Int), ((rowK s : Nat) : Int)) else (0, 0)
          | none => (0, 0)) := by
        have hne : ds.drop 2 ≠ [] := by
          intro e
          have := congrArg List.length e
          simp only [List.length_drop, List.length_nil] at this; omega
        have := number_j5 16 (.inr rfl) (ds.drop 2) hne (by simp only [List.length_drop]; omega) ((rowK s : Nat) : Int)
        have e : ((16 : Nat) : Int) = 16 := rfl
        rw [e] at this
        rw [this]
        unfold okN
        cases parsN 16 (ds.drop 2) 0 with
        | none => rfl
        | some n => by_cases hm : n ≤ 9007199254740991 <;> simp only [hm, if_true, if_false]
      simp only [d2, decide_true, if_true, hc2, Option.bind_some]
      by_cases hx : ds.take 2 = [48, 120]
      · have bx : (ds.take 2 == ([48, 120] : Str)) = true := by simpa using hx
        simp only [bx, if_true, hcd, Option.bind_some, h2, hx, true_and, true_or]
        exact h16
      · have bx : (ds.take 2 == ([48, 120] : Str)) = false := by simpa using hx
        by_cases hX : ds.take 2 = [48, 88]
        · have bX : (ds.take 2 == ([48, 88] : Str)) = true := by simpa using hX
          simp only [bx, bX, Bool.false_eq_true, if_false, if_true, hcd, Option.bind_some, h2, hX, true_and, or_true]
          exact h16
        · have bX : (ds.take 2 == ([48, 88] : Str)) = false := by simpa using hX
          have hn := hno (by simp [hx, hX])
          simp only [bx, bX, Bool.false_eq_true, if_false, h2, hx, hX, or_self, and_false]
          exact hn
    · have d2 : ¬ (((ds.length : Nat) : Int) > 2) := by omega
      have hn := hno (by omega)
      simp only [d2, h2, decide_false, Bool.false_eq_true, if_false, false_and]
      exact hn
  have dot : token_cutter_number.j2 { src := src, rest := s, fresh := fr } ((rowK s : Nat) : Int) true = some (0, 0) := by
    unfold token_cutter_number.j2; rfl
  unfold numS
  by_cases hlt : rowK s < s.length
  · have d : (((rowK s : Nat) : Int) < ((s.length : Nat) : Int)) := by omega
    have hx : s[rowK s]? = some s[rowK s] := List.getElem?_eq_getElem hlt
    simp only [d, decide_true, if_true, getB_at s _ _ hx, Option.bind_some]
    rw [hx]
    have eb : ((((s[rowK s].toNat : Nat) : Int)) == 46) = decide (s[rowK s] = 46) := by
      have h46 : (s[rowK s] = 46) ↔ s[rowK s].toNat = 46 := by
        constructor
        · intro e; rw [e]; rfl
        · intro e; apply UInt8.toNat_inj.mp; rw [e]; rfl
      rw [beq_dec, decide_eq_decide, h46]; omega
    rw [eb]
    by_cases h46 : s[rowK s] = 46
    · simp only [h46, decide_true, if_true]; exact dot
    · have hne : ¬ (some s[rowK s] = some (46 : UInt8)) := by simpa using h46
      simp only [h46, decide_false, hne, if_false]
      rw [rest]
      cases numD (s.take (rowK s)) with
      | none => rfl
      | some n => by_cases hm : n ≤ 9007199254740991 <;> simp only [hm, if_true, if_false]
  · have d : ¬ (((rowK s : Nat) : Int) < ((s.length : Nat) : Int)) := by omega
    have hx : s[rowK s]? = none := List.getElem?_eq_none (by omega)
    simp only [d, decide_false, Bool.false_eq_true, if_false]
    rw [hx, rest]
    simp only [reduceCtorEq, if_false]
    cases numD (s.take (rowK s)) with
    | none => rfl
    | some n => by_cases hm : n ≤ 9007199254740991 <;> simp only [hm, if_true, if_false]

/-! ### a token -/
theorem byte_beq (c : UInt8) (n : Nat) (h : n < 256) : ((((c.toNat : Nat) : Int)) == ((n : Nat) : Int)) = decide (c = UInt8.ofNat n) := by
  have e : (c = UInt8.ofNat n) ↔ c.toNat = n := u8_eq_iff c n h
  rw [beq_dec, decide_eq_decide, e]; omega
theorem signs_trip (x : Str) (h : x.length ≤ 1000000000) : token_among ([32, 61, 61, 61, 32, 33, 61, 61, 32] : Str) x = some (tripL.contains x) :=
  among_eq tripL _ x (by decide +kernel) (by decide +kernel) (by decide +kernel) h (by decide +kernel)
theorem signs_doub (x : Str) (h : x.length ≤ 1000000000) : token_among ([32, 60, 61, 32, 62, 61, 32, 61, 61, 32, 33, 61, 32, 43, 43, 32, 45, 45, 32, 38, 38, 32, 124, 124, 32, 43, 61, 32, 45, 61, 32, 42, 61, 32, 47, 61, 32, 37, 61, 32] : Str) x = some (doubL.contains x) :=
  among_eq doubL _ x (by decide +kernel) (by decide +kernel) (by decide +kernel) h (by decide +kernel)
theorem token_one_eq (c : T_token_cutter) (h0 : c.rest ≠ []) (hs : c.rest.length ≤ 100000000) : ∃ r, token_cutter_one c = some r ∧ match oneS c.rest with
    | some (t, n) => r = (t, (n : Int))
    | none => r.2 = 0 := by
  obtain ⟨src, s, fr⟩ := c
  simp only at h0 hs ⊢
  cases s with
  | nil => exact absurd rfl h0
  | cons b r =>
    have hrow := token_row_eq (b :: r) (by omega)
    have hle := rowK_le (b :: r)
    have hcut : ∀ k : Nat, k ≤ (b :: r).length → cutL (b :: r) 0 (k : Int) = some ((b :: r).take k) := by
      intro k hk
      have := cutL_nat (b :: r) 0 k (by omega) hk
      simpa using this
    have hj3 : ∀ (n kind : Int) (text : Str) (num : Int), (kind == 5) = false → token_cutter_one.j3 { src := src, rest := b :: r, fresh := fr } n kind text num = some ({ Kind := kind, Text := text, Num := num, At := 0, Fresh := false }, n) := by
      intro n kind text num hk
      unfold token_cutter_one.j3 token_cutter_one.j4
      rw [hk]; rfl
    have hj5 : ∀ k : Nat, k ≤ (b :: r).length → token_cutter_one.j3 { src := src, rest := b :: r, fresh := fr } (k : Int) 5 [] 0 = some ({ Kind := 5, Text := (b :: r).take k, Num := 0, At := 0, Fresh := false }, (k : Int)) := by
      intro k hk
      unfold token_cutter_one.j3 token_cutter_one.j4
      simp only [beq_self_eq_true, if_true, hcut k hk, Option.bind_some]
    unfold token_cutter_one oneS
    simp only [getB_zero, Option.bind_some, token_letter_eq, token_digit_eq]
    by_cases hl : isLet b = true
    · simp only [hl, if_true, hrow, Option.bind_some]
      by_cases h32 : 32 < rowK (b :: r)
      · have d : (((rowK (b :: r) : Nat) : Int) > 32) := by omega
        simp only [d, h32, decide_true, if_true]
        exact ⟨_, rfl, rfl⟩
      · have d : ¬ (((rowK (b :: r) : Nat) : Int) > 32) := by omega
        simp only [d, h32, decide_false, Bool.false_eq_true, if_false, hcut _ hle, Option.bind_some]
        rw [token_IsWord_eq _ (by simp only [List.length_take]; omega), Option.bind_some]
        cases isWordS ((b :: r).take (rowK (b :: r))) with
        | true => simp only [if_true, hj3 _ 2 _ _ rfl]; exact ⟨_, rfl, rfl⟩
        | false => simp only [Bool.false_eq_true, if_false, hj3 _ 1 _ _ rfl]; exact ⟨_, rfl, rfl⟩
    · have hl' : isLet b = false := by simpa using hl
      simp only [hl', Bool.false_eq_true, if_false]
      by_cases hd : isDig b = true
      · have hn := token_number_eq { src := src, rest := b :: r, fresh := fr } (by simp only; omega)
        simp only at hn
        simp only [hd, if_true, hn, Option.bind_some, hj3 _ 3 _ _ rfl]
        cases numS (b :: r) with
        | none => exact ⟨_, rfl, rfl⟩
        | some p => exact ⟨_, rfl, rfl⟩
      · have hd' : isDig b = false := by simpa using hd
        simp only [hd', Bool.false_eq_true, if_false]
        have b39 : ((((b.toNat : Nat) : Int)) == 39) = decide (b = 39) := byte_beq b 39 (by omega)
        have b34 : ((((b.toNat : Nat) : Int)) == 34) = decide (b = 34) := byte_beq b 34 (by omega)
        rw [b39, b34]
        by_cases hq : b = 39 ∨ b = 34
        · have dq : (decide (b = 39) || decide (b = 34)) = true := by simpa using hq
          simp only [dq, if_true, hq, units_Read_eq (b :: r) hs, Option.bind_some, hj3 _ 4 _ _ rfl]
          generalize hx : readS (b :: r) = q
          obtain ⟨u, n, e⟩ := q
          have hb := readS_len hx
          refine ⟨_, rfl, ?_⟩
          simp only
          by_cases hn : n = 0
          · simp only [hn, if_true]
          · simp only [hn, if_false]
            have : ((n.toNat : Nat) : Int) = n := by omega
            rw [this]
        · have dq : (decide (b = 39) || decide (b = 34)) = false := by simpa using hq
          simp only [dq, Bool.false_eq_true, if_false, hq]
          -- signs
          have hlast : ¬ (2 < (b :: r).length ∧ tripL.contains ((b :: r).take 3) = true) → ¬ (1 < (b :: r).length ∧ doubL.contains ((b :: r).take 2) = true) →
              ∃ x, token_cutter_one.j2 { src := src, rest := b :: r, fresh := fr } ((b.toNat : Nat) : Int) false = some x ∧ match (if signS (b :: r) = 0 then none else some (({ Kind := 5, Text := (b :: r).take (signS (b :: r)), Num := 0, At := 0, Fresh := false } : Tok), signS (b :: r))) with
                | some (t, n) => x = (t, (n : Int))
                | none => x.2 = 0 := by
            intro n3 n2
            unfold token_cutter_one.j2 strings_IndexByte
            simp only [Bool.false_eq_true, if_false, Option.bind_some]
            have e1 : (((b.toNat : Nat) : Int)).toNat.toUInt8 = b := by simp
            have e2 := Lib.contains_iff_indexByte ([123, 125, 40, 41, 91, 93, 46, 59, 44, 60, 62, 43, 45, 42, 47, 37, 33, 63, 58, 61] : Str) b
            have e3 : signS (b :: r) = if singL.contains b = true then 1 else 0 := by
              unfold signS; rw [if_neg n3, if_neg n2]; rfl
            rw [e1, e3]
            have e4 : decide (Lib.indexByte ([123, 125, 40, 41, 91, 93, 46, 59, 44, 60, 62, 43, 45, 42, 47, 37, 33, 63, 58, 61] : Str) b ≥ 0) = singL.contains b := e2.symm
            rw [e4]
            cases singL.contains b with
            | true =>
              simp only [if_true]
              exact ⟨_, hj5 1 (by simp), rfl⟩
            | false =>
              simp only [Bool.false_eq_true, if_false]
              exact ⟨_, hj3 0 0 _ _ rfl, rfl⟩
          have hmid : ¬ (2 < (b :: r).length ∧ tripL.contains ((b :: r).take 3) = true) →
              ∃ x, token_cutter_one.j1 { src := src, rest := b :: r, fresh := fr } ((b.toNat : Nat) : Int) false = some x ∧ match (if signS (b :: r) = 0 then none else some (({ Kind := 5, Text := (b :: r).take (signS (b :: r)), Num := 0, At := 0, Fresh := false } : Tok), signS (b :: r))) with
                | some (t, n) => x = (t, (n : Int))
                | none => x.2 = 0 := by
            intro n3
            unfold token_cutter_one.j1
            simp only [Bool.false_eq_true, if_false]
            by_cases h1 : 1 < (b :: r).length
            · have d1 : ((((b :: r).length : Nat) : Int) > 1) := by omega
              have hc2 := hcut 2 (by omega)
              have hc2' : cutL (b :: r) 0 2 = some ((b :: r).take 2) := hc2
              simp only [d1, decide_true, if_true, hc2', Option.bind_some, signs_doub _ (show ((b :: r).take 2).length ≤ 1000000000 by simp only [List.length_take]; omega)]
              cases hb : doubL.contains ((b :: r).take 2) with
              | true =>
                have e3 : signS (b :: r) = 2 := by
                  unfold signS; rw [if_neg n3, if_pos ⟨h1, hb⟩]
                rw [e3]
                unfold token_cutter_one.j2
                simp only [if_true]
                exact ⟨_, hj5 2 (by omega), rfl⟩
              | false => exact hlast n3 (by rw [hb]; simp)
            · have d1 : ¬ ((((b :: r).length : Nat) : Int) > 1) := by omega
              simp only [d1, decide_false, Bool.false_eq_true, if_false]
              exact hlast n3 (by simp only [h1, false_and, not_false_eq_true])
          by_cases h2 : 2 < (b :: r).length
          · have d2 : ((((b :: r).length : Nat) : Int) > 2) := by omega
            have hc3' : cutL (b :: r) 0 3 = some ((b :: r).take 3) := hcut 3 (by omega)
            simp only [d2, decide_true, if_true, hc3', Option.bind_some, signs_trip _ (show ((b :: r).take 3).length ≤ 1000000000 by simp only [List.length_take]; omega)]
            cases hb : tripL.contains ((b :: r).take 3) with
            | true =>
              have e3 : signS (b :: r) = 3 := by
                unfold signS; rw [if_pos ⟨h2, hb⟩]
              rw [e3]
              unfold token_cutter_one.j1
              simp only [if_true]
              exact ⟨_, hj5 3 (by omega), rfl⟩
            | false => exact hmid (by rw [hb]; simp)
          · have d2 : ¬ ((((b :: r).length : Nat) : Int) > 2) := by omega
            simp only [d2, decide_false, Bool.false_eq_true, if_false]
            exact hmid (by simp only [h2, false_and, not_false_eq_true])
end Go.Gw

