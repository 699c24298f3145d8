/- Several texts in one. -/
import Derived.Test.YtilkjloabkgpaaaGreatDoorP07Bz
import Derived.Test.YtilkjloabkgpaaaGreatDoorP07Az
set_option linter.unusedSimpArgs false
set_option linter.unusedVariables false
set_option linter.unnecessarySimpa false
namespace Go.D07.W
open Go Go.Gw Go.Dn
set_option maxRecDepth 100000

theorem rhex_eq (k : Nat) (h : k < 16) : credenzaref01_hex (k : Int) = some ((((hexd k).toNat : Nat) : Int), ()) := by
  have : ∀ k : Fin 16, credenzaref01_hex (k.val : Int) = some ((((hexd k.val).toNat : Nat) : Int), ()) := by decide
  exact this ⟨k, h⟩
theorem rquoted_eq (n : Nat) (hn : n < 65536) : credenzaref01_quoted (n : Int) = some (quote1 n, ()) := by
  have e : ∀ k : Nat, ((n : Int) == (k : Int)) = decide (n = k) := fun k => by rw [Bool.eq_iff_iff, beq_iff_eq, decide_eq_true_eq]; omega
  have e34 := e 34; have e92 := e 92; have e8 := e 8; have e9 := e 9; have e10 := e 10; have e12 := e 12; have e13 := e 13
  unfold credenzaref01_quoted quote1
  simp only [show ((34 : Nat) : Int) = 34 from rfl, show ((92 : Nat) : Int) = 92 from rfl, show ((8 : Nat) : Int) = 8 from rfl, show ((9 : Nat) : Int) = 9 from rfl, show ((10 : Nat) : Int) = 10 from rfl, show ((12 : Nat) : Int) = 12 from rfl, show ((13 : Nat) : Int) = 13 from rfl] at e34 e92 e8 e9 e10 e12 e13
  rw [e34, e92, e8, e9, e10, e12, e13]
  simp only [decide_eq_true_eq]
  split
  · rfl
  · split
    · rfl
    · split
      · rfl
      · split
        · rfl
        · split
          · rfl
          · split
            · rfl
            · split
              · rfl
              · by_cases hc : n < 32 ∨ n > 126
                · have hb : (decide ((n : Int) < 32) || decide ((n : Int) > 126)) = true := by simp; omega
                  rw [if_pos hb, if_pos hc]
                  have d1 : IntKind.wrap .i64 (Int.tdiv (n : Int) 4096) = ((n / 4096 : Nat) : Int) := by
                    rw [show Int.tdiv (n : Int) 4096 = ((n / 4096 : Nat) : Int) from rfl, wrap_i64 (by omega) (by omega)]
                  have d2 : IntKind.wrap .i64 (Int.tdiv (n : Int) 256) = ((n / 256 : Nat) : Int) := by
                    rw [show Int.tdiv (n : Int) 256 = ((n / 256 : Nat) : Int) from rfl, wrap_i64 (by omega) (by omega)]
                  have d3 : IntKind.wrap .i64 (Int.tdiv (n : Int) 16) = ((n / 16 : Nat) : Int) := by
                    rw [show Int.tdiv (n : Int) 16 = ((n / 16 : Nat) : Int) from rfl, wrap_i64 (by omega) (by omega)]
                  have m2 : Int.tmod ((n / 256 : Nat) : Int) 16 = ((n / 256 % 16 : Nat) : Int) := rfl
                  have m3 : Int.tmod ((n / 16 : Nat) : Int) 16 = ((n / 16 % 16 : Nat) : Int) := rfl
                  have m4 : Int.tmod (n : Int) 16 = ((n % 16 : Nat) : Int) := rfl
                  rw [d1, d2, d3, m2, m3, m4, rhex_eq _ (by omega), rhex_eq _ (by omega), rhex_eq _ (by omega), rhex_eq _ (by omega)]
                  simp only [Option.bind_some, toB_of]
                  rfl
                · have hb : (decide ((n : Int) < 32) || decide ((n : Int) > 126)) = false := by simp; omega
                  rw [if_neg (by rw [hb]; decide), if_neg hc]
                  have : IntKind.wrap .u8 (n : Int) = (n : Int) := wrap_u8 (by omega) (by omega)
                  rw [this, toB_u8 (by omega) (by omega)]
                  simp
theorem rlist_eq (u : Str) (hu : u.length ≤ 100000000) (he : evenP u = true) : credenzaref01_List u = some ((unitsL u).map fun n : Nat => (n : Int), ()) := by
  have he : u.length % 2 = 0 := by unfold evenP at he; simpa using he
  have hl := unitsL_length u
  have key : ∀ (r : List Nat) (k : Nat), (unitsL u).drop k = r → k ≤ (unitsL u).length → loopN credenzaref01_List_l1 (r.length + 1) (u, ((2 * k : Nat) : Int), ((unitsL u).take k).map (fun n : Nat => (n : Int)), ()) = some ((unitsL u).map (fun n : Nat => (n : Int)), ()) := by
    intro r
    induction r with
    | nil =>
      intro k hr hk
      have hk2 : k = (unitsL u).length := by have := congrArg List.length hr; simp at this; omega
      have w : IntKind.wrap .i64 (((2 * k : Nat) : Int) + 1) = ((2 * k + 1 : Nat) : Int) := by rw [wrap_i64 (by omega) (by omega)]; rfl
      have hi : decide (((2 * k + 1 : Nat) : Int) < ((u.length : Nat) : Int)) = false := by simp; omega
      refine loopN_out ?_
      simp only [credenzaref01_List_l1, w, hi, Bool.false_eq_true, if_false]
      rw [hk2, List.take_length]
    | cons n r ih =>
      intro k hr hk
      have hk1 : k < (unitsL u).length := by
        have := congrArg List.length hr; simp at this; omega
      obtain ⟨a, b, h1, h2, h3⟩ := unitsL_get u k (by omega)
      have hn : n = a.toNat * 256 + b.toNat := by
        have : (unitsL u)[k]? = some n := by
          have := congrArg List.head? hr
          simpa [List.head?_drop] using this
        rw [h3] at this; exact (Option.some.inj this).symm
      have ha := a.toNat_lt; have hb := b.toNat_lt
      have w : IntKind.wrap .i64 (((2 * k : Nat) : Int) + 1) = ((2 * k + 1 : Nat) : Int) := by rw [wrap_i64 (by omega) (by omega)]; rfl
      have w2 : IntKind.wrap .i64 (((2 * k : Nat) : Int) + 2) = ((2 * (k + 1) : Nat) : Int) := by rw [wrap_i64 (by omega) (by omega)]; omega
      have hi : decide (((2 * k + 1 : Nat) : Int) < ((u.length : Nat) : Int)) = true := by simp; omega
      have e1 : IntKind.wrap .i64 ((a.toNat : Nat) : Int) = ((a.toNat : Nat) : Int) := wrap_i64 (by omega) (by omega)
      have e2 : IntKind.wrap .i64 ((b.toNat : Nat) : Int) = ((b.toNat : Nat) : Int) := wrap_i64 (by omega) (by omega)
      have e3 : IntKind.wrap .i64 (((a.toNat : Nat) : Int) * 256) = ((a.toNat * 256 : Nat) : Int) := by rw [wrap_i64 (by omega) (by omega)]; simp
      have e4 : IntKind.wrap .i64 (((a.toNat * 256 : Nat) : Int) + ((b.toNat : Nat) : Int)) = ((a.toNat * 256 + b.toNat : Nat) : Int) := by rw [wrap_i64 (by omega) (by omega)]; simp
      have hstep : credenzaref01_List_l1 (u, ((2 * k : Nat) : Int), ((unitsL u).take k).map (fun n : Nat => (n : Int)), ()) = some (.inl (u, ((2 * (k + 1) : Nat) : Int), ((unitsL u).take (k + 1)).map (fun n : Nat => (n : Int)), ())) := by
        simp only [credenzaref01_List_l1, w, hi, if_true]
        rw [getB_nat, h1]
        simp only [Option.map_some, Option.bind_some, e1, e3]
        rw [getB_nat, h2]
        simp only [Option.map_some, Option.bind_some, e2, e4]
        rw [room_ok (by simp; omega)]
        simp only [Option.bind_some, w2]
        rw [List.take_add_one, h3]
        simp
      rw [List.length_cons, loopN_go hstep]
      exact ih (k + 1) (by
        have : (unitsL u).drop (k + 1) = ((unitsL u).drop k).tail := by simp
        rw [this, hr]; rfl) (by omega)
  have := key (unitsL u) 0 rfl (Nat.zero_le _)
  unfold credenzaref01_List
  exact loop_of (n := (unitsL u).length + 1) (by simpa using this) (by omega)
theorem rquote_eq (u : Str) (hu : u.length ≤ 100000000) (he : evenP u = true) : credenzaref01_Quote u = some (quoteP u, 0, ()) := by
  have hq : quoteP u = 34 :: (quoteL (unitsL u) ++ [34]) := by
    have h1 := units_Quote_eq u hu he
    have h2 := quoteP_eq u hu he
    rw [h1] at h2
    simp only [Option.some.injEq, Prod.mk.injEq] at h2
    exact h2.1.symm
  have hl := unitsL_length u
  have hcheck : credenzaref01_Check u = some (true, ()) := by
    unfold credenzaref01_Check
    have : Int.tmod ((u.length : Nat) : Int) 2 = ((u.length % 2 : Nat) : Int) := rfl
    have he : u.length % 2 = 0 := by unfold evenP at he; simpa using he
    simp only [this, he]; rfl
  have key : ∀ (r : List Nat) (k : Nat) (s : Str), (unitsL u).drop k = r → k ≤ (unitsL u).length → s.length ≤ 1000000000 + 6 * k → loopN credenzaref01_Quote_l1 (r.length + 1) (s, (unitsL u).map (fun n : Nat => (n : Int)), (((unitsL u).length : Nat) : Int), (k : Int), ()) = some (s ++ (quoteL r ++ [34]), 0, ()) := by
    intro r
    induction r with
    | nil =>
      intro k s hr hk hs
      have hk2 : k = (unitsL u).length := by have := congrArg List.length hr; simp at this; omega
      have hi : decide ((k : Int) < (((unitsL u).length : Nat) : Int)) = false := by simp; omega
      refine loopN_out ?_
      simp only [credenzaref01_Quote_l1, hi, Bool.false_eq_true, if_false]
      rw [catS_ok (by simp; omega)]
      simp [quoteL]
    | cons n r ih =>
      intro k s hr hk hs
      obtain ⟨h1, h2, h3⟩ := getI_drop hr
      have hi : decide ((k : Int) < (((unitsL u).length : Nat) : Int)) = true := by simp; omega
      have hg : getI ((unitsL u).map fun n : Nat => (n : Int)) (k : Int) = some (n : Int) := by
        rw [getI_nat] at h1 ⊢
        rw [List.getElem?_map, h1]; rfl
      have hn : n < 65536 := unitsL_lt u n (List.mem_of_mem_drop (hr ▸ List.mem_cons_self))
      have q1 := quote1_length n
      have w : IntKind.wrap .i64 ((k : Int) + 1) = ((k + 1 : Nat) : Int) := by rw [wrap_i64 (by omega) (by omega)]; rfl
      have hstep : credenzaref01_Quote_l1 (s, (unitsL u).map (fun n : Nat => (n : Int)), (((unitsL u).length : Nat) : Int), (k : Int), ()) = some (.inl (s ++ quote1 n, (unitsL u).map (fun n : Nat => (n : Int)), (((unitsL u).length : Nat) : Int), ((k + 1 : Nat) : Int), ())) := by
        simp only [credenzaref01_Quote_l1, hi, if_true, hg, Option.bind_some, rquoted_eq n hn]
        rw [catS_ok (by omega)]
        simp only [Option.bind_some, w]
      rw [List.length_cons, loopN_go hstep, ih (k + 1) _ h2 (by omega) (by rw [List.length_append]; omega)]
      simp [quoteL]
  unfold credenzaref01_Quote
  rw [hcheck]
  simp only [Option.bind_some, Bool.not_true, Bool.false_eq_true, if_false, rlist_eq u hu he, List.length_map]
  rw [hq]
  exact loop_of (n := (unitsL u).length + 1) (by simpa using key (unitsL u) 0 [34] rfl (Nat.zero_le _) (by simp)) (by omega)
theorem rdigits_n : ∀ (m k n : Nat), k ≤ m → n < 10 ^ k → 1 ≤ k → n ≤ 9007199254740991 → (Rec_credenzaref07_digits_g m).credenzaref07_digits (n : Int) = some (Lib.decDigits n, ())
  | 0, k, n, h, _, h1, _ => by omega
  | m + 1, k, n, h, hn, h1, hb => by
    show credenzaref07_digits_b (Rec_credenzaref07_digits_g m) (n : Int) = _
    unfold credenzaref07_digits_b
    have e1 : Int.tmod (n : Int) 10 = ((n % 10 : Nat) : Int) := rfl
    have e2 : Int.tdiv (n : Int) 10 = ((n / 10 : Nat) : Int) := rfl
    have w1 : IntKind.wrap .i64 (48 + ((n % 10 : Nat) : Int)) = ((48 + n % 10 : Nat) : Int) := by rw [wrap_i64 (by omega) (by omega)]; rfl
    have w2 : IntKind.wrap .u8 ((48 + n % 10 : Nat) : Int) = ((48 + n % 10 : Nat) : Int) := wrap_u8 (by omega) (by omega)
    have w3 : IntKind.wrap .i64 ((n / 10 : Nat) : Int) = ((n / 10 : Nat) : Int) := wrap_i64 (by omega) (by omega)
    have tb : toB ((48 + n % 10 : Nat) : Int) = some (UInt8.ofNat (48 + n % 10)) := by rw [toB_u8 (by omega) (by omega), Int.toNat_natCast]
    simp only [e1, e2, w1, w2, w3, tb, Option.bind_some]
    rw [Lib.decDigits]
    by_cases hs : n < 10
    · rw [dif_pos hs, if_pos (by simpa using by omega)]
      rw [Nat.mod_eq_of_lt hs]
    · rw [dif_neg hs, if_neg (by simpa using by omega)]
      obtain ⟨k', rfl⟩ : ∃ k', k = k' + 1 := ⟨k - 1, by omega⟩
      have hk' : 1 ≤ k' := by
        rcases Nat.eq_zero_or_pos k' with rfl | h
        · simp at hn; omega
        · exact h
      have hlt : n / 10 < 10 ^ k' := by
        rw [Nat.pow_succ] at hn
        exact Nat.div_lt_of_lt_mul (by omega)
      rw [rdigits_n m k' (n / 10) (by omega) hlt hk' (by omega)]
      simp only [Option.bind_some]
      have hl := Lib.itoa_length_le ((n / 10 : Nat) : Int) (by omega) (by omega)
      have hi : Lib.itoa ((n / 10 : Nat) : Int) = Lib.decDigits (n / 10) := by unfold Lib.itoa; rw [if_neg (by omega)]; rfl
      rw [hi] at hl
      rw [catS_ok (by simp; omega)]
      rfl
theorem rdigits_eq (n : Int) (h0 : 0 ≤ n) (h1 : n ≤ 9007199254740991) : credenzaref07_digits n = some (Lib.itoa n, ()) := by
  have := rdigits_n 1000000000000 16 n.toNat (by omega) (by omega) (by omega) (by omega)
  have e : ((n.toNat : Nat) : Int) = n := by omega
  rw [e] at this
  have hi : Lib.itoa n = Lib.decDigits n.toNat := by unfold Lib.itoa; rw [if_neg (by omega)]
  rw [hi]; exact this
theorem rlevel_n : ∀ (n : Nat) (x : Node), deepN x ≤ n → oneP x 101 = true → (Rec_credenzaref07_Level_g n).credenzaref07_Level x = some ((tkN x).lvl, ())
  | 0, x, h, _ => by have := deepN_eq x; omega
  | n + 1, x, hd, ho => by
    obtain ⟨he, hm⟩ := one_101 ho
    have a1 := deepN_eq x
    have ih : ∀ a r, x.L = a :: r → oneP a 101 = true → (Rec_credenzaref07_Level_g n).credenzaref07_Level a = some ((tkN a).lvl, ()) := fun a r hL ho => by
      have hin : a ∈ x.L := by rw [hL]; exact List.mem_cons_self
      exact rlevel_n n a (by have := mem_deepL hin; omega) ho
    have lv : ∀ v : Int, (if (decide (v ≥ 12)) = true then some ((12 : Int), ()) else some (11, ())) = some (min (max v 11) 12, ()) := fun v => by
      by_cases h : v ≥ 12
      · rw [if_pos (by simpa using h)]; congr 2; omega
      · rw [if_neg (by simpa using h)]; congr 2; omega
    show credenzaref07_Level_b (Rec_credenzaref07_Level_g n) x = _
    rw [lvl_eq]
    unfold credenzaref07_Level_b lvlT
    simp only [re25_eq]
    rcases expr_kinds he with h | h | h | h | h | h | h | h | h | h | h | h | h | h | h | h | h | h | h | h
    case inr.inr.inr.inr.inr.inr.inr.inr.inr.inl => -- 11
      rw [may_11 h, Bool.and_eq_true] at hm
      obtain ⟨a, hL, h1⟩ := match1 hm.2
      rw [h, hL]
      show Option.bind ((Rec_credenzaref07_Level_g n).credenzaref07_Level a) (fun r => if (decide (r.1 ≥ 12)) = true then some ((12 : Int), ()) else some (11, ())) = _
      rw [ih a [] hL h1, Option.bind_some, lv]
      simp only [tkL]
      rfl
    case inr.inr.inr.inr.inr.inr.inr.inr.inr.inr.inl => -- 12
      rw [may_12 h, Bool.and_eq_true] at hm
      obtain ⟨a, b, hL, h1, h2⟩ := match2 hm.2
      rw [h, hL]
      show Option.bind ((Rec_credenzaref07_Level_g n).credenzaref07_Level a) (fun r => if (decide (r.1 ≥ 12)) = true then some ((12 : Int), ()) else some (11, ())) = _
      rw [ih a [b] hL h1, Option.bind_some, lv]
      simp only [tkL]
      rfl
    case inr.inr.inr.inr.inr.inr.inr.inr.inr.inr.inr.inr.inr.inr.inl => -- 16
      rw [may_16 h, Bool.and_eq_true] at hm
      have hn : x.Num = 0 ∨ x.Num = 1 := by simpa [numP, h] using (own_parts hm.1).2
      rcases hn with e | e <;> rw [h, e] <;> rfl
    case inr.inr.inr.inr.inr.inr.inr.inr.inr.inr.inr.inr.inr.inr.inr.inl => -- 17
      rw [may_17 h, Bool.and_eq_true] at hm
      have hn : x.Name ∈ ops17 := by simpa [rnamedP, h] using (own_parts hm.1).1
      rw [h]
      generalize x.Name = s at hn
      simp only [ops17, List.mem_cons, List.not_mem_nil, or_false] at hn
      rcases hn with rfl | rfl | rfl | rfl | rfl | rfl | rfl | rfl | rfl | rfl | rfl | rfl | rfl | rfl | rfl <;> rfl
    case inr.inr.inr.inr.inr.inr.inr.inr.inr.inr.inr.inr.inr.inr.inr.inr.inl => -- 18
      rw [may_18 h, Bool.and_eq_true] at hm
      rcases name18 h hm.1 with e | e <;> rw [h, e] <;> rfl
    all_goals (rw [h]; rfl)
theorem rlevel_eq (x : Node) (ho : oneP x 101 = true) (hd : deepN x ≤ 10000000) : credenzaref07_Level x = some ((tkN x).lvl, ()) := rlevel_n 1000000000000 x (by omega) ho
theorem one_eq (s : Str) : credenzaref07_one s = some ([s], ()) := rfl
theorem rjoin (ls : List (List Str)) (hl : ls.length ≤ 1000000000) (hb : ls.flatten.length ≤ 274877906944) : credenzaref07_join ls = some (ls.flatten, ()) := by
  have key : ∀ (r : List (List Str)) (i : Nat) (l : List Str), ls.drop i = r → l.length + r.flatten.length ≤ 274877906944 → loopN credenzaref07_join_l1 (r.length + 1) (ls, ((ls.length : Nat) : Int), (i : Int), l, ()) = some (l ++ r.flatten, ()) := by
    intro r
    induction r with
    | nil =>
      intro i l hr _
      have hi : decide ((i : Int) < ((ls.length : Nat) : Int)) = false := by have := congrArg List.length hr; simp at this; simp; omega
      refine loopN_out ?_
      simp only [credenzaref07_join_l1, hi, Bool.false_eq_true, if_false]
      simp
    | cons y r ih =>
      intro i l hr hb
      obtain ⟨h1, h2, h3⟩ := getI_drop hr
      have hi : decide ((i : Int) < ((ls.length : Nat) : Int)) = true := by simp; omega
      have w : IntKind.wrap .i64 ((i : Int) + 1) = ((i + 1 : Nat) : Int) := by rw [wrap_i64 (by omega) (by omega)]; rfl
      rw [List.flatten_cons, List.length_append] at hb
      have hstep : credenzaref07_join_l1 (ls, ((ls.length : Nat) : Int), (i : Int), l, ()) = some (.inl (ls, ((ls.length : Nat) : Int), ((i + 1 : Nat) : Int), l ++ y, ())) := by
        simp only [credenzaref07_join_l1, hi, if_true, h1, Option.bind_some]
        rw [room_ok (by omega)]
        simp only [Option.bind_some, w]
      rw [List.length_cons, loopN_go hstep, ih (i + 1) _ h2 (by rw [List.length_append]; omega), List.flatten_cons, List.append_assoc]
  have := key ls 0 [] rfl (by simpa using hb)
  unfold credenzaref07_join
  exact loop_of (n := ls.length + 1) (by simpa using this) (by omega)
theorem join2 {a b : List Str} (h : a.length + b.length ≤ 274877906944) : credenzaref07_join [a, b] = some (a ++ b, ()) := by
  have := rjoin [a, b] (by simp) (by simpa using h)
  simpa using this
theorem join3 {a b c : List Str} (h : a.length + (b.length + c.length) ≤ 274877906944) : credenzaref07_join [a, b, c] = some (a ++ (b ++ c), ()) := by
  have := rjoin [a, b, c] (by simp) (by simpa using h)
  simpa using this
theorem join4 {a b c d : List Str} (h : a.length + (b.length + (c.length + d.length)) ≤ 274877906944) : credenzaref07_join [a, b, c, d] = some (a ++ (b ++ (c ++ d)), ()) := by
  have := rjoin [a, b, c, d] (by simp) (by simpa using h)
  simpa using this
theorem join5 {a b c d e : List Str} (h : a.length + (b.length + (c.length + (d.length + e.length))) ≤ 274877906944) : credenzaref07_join [a, b, c, d, e] = some (a ++ (b ++ (c ++ (d ++ e))), ()) := by
  have := rjoin [a, b, c, d, e] (by simp) (by simpa using h)
  simpa using this
theorem join6 {a b c d e f : List Str} (h : a.length + (b.length + (c.length + (d.length + (e.length + f.length)))) ≤ 274877906944) : credenzaref07_join [a, b, c, d, e, f] = some (a ++ (b ++ (c ++ (d ++ (e ++ f)))), ()) := by
  have := rjoin [a, b, c, d, e, f] (by simp) (by simpa using h)
  simpa using this
theorem join8 {a b c d e f p q : List Str} (h : a.length + (b.length + (c.length + (d.length + (e.length + (f.length + (p.length + q.length)))))) ≤ 274877906944) : credenzaref07_join [a, b, c, d, e, f, p, q] = some (a ++ (b ++ (c ++ (d ++ (e ++ (f ++ (p ++ q)))))), ()) := by
  have := rjoin [a, b, c, d, e, f, p, q] (by simp) (by simpa using h)
  simpa using this
theorem rcommas (ps : List (List Str)) (hl : ps.length ≤ 1000000000) (hb : (commaT id ps).length ≤ 274877906944) : credenzaref07_commas ps = some (commaT id ps, ()) := by
  have := comma_loop credenzaref07_commas_l1 (fun i l => (ps, ((ps.length : Nat) : Int), i, l, ())) ps id [] (fun l => (l, ())) hl (fun y r hy l hlen => ?_) (fun i y h0 hm h1 h2 h3 h4 l hlen => ?_) (fun he l hlen => ?_) [] (by simpa using hb)
  · unfold credenzaref07_commas; simpa using this
  · have hi : decide ((0 : Int) < ((ps.length : Nat) : Int)) = true := by rw [hy]; simp only [List.length_cons, decide_eq_true_eq]; omega
    have h1 : getI ps 0 = some y := by rw [hy]; rfl
    have hlen : l.length + y.length ≤ 274877906944 := hlen
    have w : IntKind.wrap .i64 ((0 : Int) + 1) = 1 := by decide
    simp only [credenzaref07_commas_l1, hi, if_true, h1, Option.bind_some]
    rw [if_neg (by decide), room_ok hlen]
    simp only [Option.bind_some, w]
    rfl
  · have hlen : l.length + y.length + 1 ≤ 274877906944 := hlen
    simp only [credenzaref07_commas_l1, h2, if_true, h1, h3, Option.bind_some]
    rw [room_ok (by simp; omega)]
    simp only [Option.bind_some]
    rw [room_ok (by simp; omega)]
    simp only [Option.bind_some, h4]
    simp
  · simp only [credenzaref07_commas_l1, he, Bool.false_eq_true, if_false]
    simp
theorem comma_map {α : Type} (f : α → List Str) (xs : List α) : commaT id (xs.map f) = commaT f xs := by
  cases xs with
  | nil => rfl
  | cons y r => simp [commaT, List.flatMap_map]
end Go.D07.W


namespace Go.D07.W
open Go Go.Gw Go.Dn
set_option maxRecDepth 100000

theorem mem_wL {k : Node} : ∀ {l : List Node}, k ∈ l → wN k ≤ wL l
  | y :: r, h => by
    rw [wL_cons]
    rcases List.mem_cons.1 h with rfl | h
    · omega
    · have := mem_wL h; omega
structure Sz (y : Node) : Prop where
  bulk : bulkN y ≤ 2097152
  w : wN y ≤ 100000000
  deep : deepN y ≤ 10000000
structure SzL (l : List Node) : Prop where
  bulk : bulkL l ≤ 2097152
  w : wL l ≤ 100000000
  deep : deepL l ≤ 10000000
theorem Sz.kids {y : Node} (h : Sz y) : SzL y.L := by
  have a1 := deepN_eq y; have a2 := bulkN_eq y; have a3 := wN_eq y
  have := h.bulk; have := h.w; have := h.deep
  exact ⟨by omega, by omega, by omega⟩
theorem SzL.mem {l : List Node} (h : SzL l) {k : Node} (hk : k ∈ l) : Sz k := by
  have := mem_deepL hk; have := mem_bulkL hk; have := mem_wL hk
  have := h.bulk; have := h.w; have := h.deep
  exact ⟨by omega, by omega, by omega⟩
theorem SzL.tail {a : Node} {l : List Node} (h : SzL (a :: l)) : SzL l := by
  have := h.bulk; have := h.w; have := h.deep
  rw [wL_cons] at *; rw [deepL_cons] at *; simp only [bulkL] at *
  exact ⟨by omega, by omega, by omega⟩
theorem len_ex {y : Node} (h : Sz y) (no : Bool) : ((tkN y).ex no).length ≤ 100000000 := by
  have := (few_n y).ex no; have := wt_len ((tkN y).ex no); have := h.w; omega
theorem len_at {y : Node} (h : Sz y) (least : Int) (no : Bool) : (atT (tkN y) least no).length ≤ 100000000 := by
  have := few_at (few_n y).ex least no; have := wt_len (atT (tkN y) least no); have := h.w; omega
theorem len_st {y : Node} (h : Sz y) : (tkN y).st.length ≤ 100000000 := by
  have := (few_n y).st; have := wt_len (tkN y).st; have := h.w; omega
theorem len_beg {y : Node} (h : Sz y) (least : Int) (no : Bool) : (beginT (tkN y) least no).length ≤ 100000000 := by
  have := (few_n y).beg least no; have := wt_len (beginT (tkN y) least no); have := h.w; omega
theorem len_stmts {l : List Node} (h : SzL l) : (stmtsT (tkL l)).length ≤ 100000000 := by
  have := few_stmts l; have := wt_len (stmtsT (tkL l)); have := h.w; omega
theorem len_items {l : List Node} (h : SzL l) : (commas (itemT false) (tkL l)).length ≤ 100000000 := by
  have := few_commas l (itemT false) fun k _ => (few_n k).item false
  have := wt_len (commas (itemT false) (tkL l)); have := h.w; omega
theorem len_decls {l : List Node} (h : SzL l) (no : Bool) : (commas (declT no) (tkL l)).length ≤ 100000000 := by
  have := few_commas l (declT no) fun k _ => (few_n k).decl no
  have := wt_len (commas (declT no) (tkL l)); have := h.w; omega
theorem len_head {y : Node} (h : Sz y) (w : Str) : (headT w (tkN y)).length ≤ 100000003 := by
  have := len_at h 0 false
  unfold headT
  simp only [List.length_cons, List.length_append, List.length_nil]; omega
structure GoodX (g : Rec_credenzaref07_Stmts) (n : Nat) : Prop where
  at_ : ∀ (y : Node), 20 * deepN y + 8 ≤ n → oneP y 101 = true → Sz y → ∀ (level : Int) (no : Bool), g.credenzaref07_at y level no = some (atT (tkN y) level no, ())
  raw : ∀ (y : Node), 20 * deepN y + 7 ≤ n → oneP y 101 = true → Sz y → ∀ (no : Bool), (inRaw : True) → g.credenzaref07_raw y no = some ((tkN y).ex no, ())
  list : ∀ (ls : List Node), 20 * deepL ls + 10 ≤ n → (∀ k ∈ ls, oneP k 101 = true) → SzL ls → g.credenzaref07_list ls = some (commas (itemT false) (tkL ls), ())
  props : ∀ (y : Node), 20 * deepN y + 5 ≤ n → (∀ k ∈ y.L, oneP k 112 = true) → Sz y → g.credenzaref07_props y = some ([123] :: (commas (itemT false) (tkL y.L) ++ [[125]]), ())
  func : ∀ (y : Node), 20 * deepN y + 6 ≤ n → (∀ k ∈ y.L, oneP k 120 = true) → Sz y → g.credenzaref07_function y = some (funcT y (tkL y.L), ())
  braces : ∀ (ls : List Node), 20 * deepL ls + 17 ≤ n → (∀ k ∈ ls, oneP k 120 = true) → SzL ls → g.credenzaref07_braces ls = some ([123] :: (stmtsT (tkL ls) ++ [[125]]), ())
  vars : ∀ (y : Node) (no : Bool), 20 * deepN y + 5 ≤ n → (∀ k ∈ y.L, oneP k 100 = true) → Sz y → g.credenzaref07_vars y no = some ([118, 97, 114] :: commas (declT no) (tkL y.L), ())
  maybe : ∀ (y : Node) (no : Bool), 20 * deepN y + 9 ≤ n → beginOK y = true → Sz y → g.credenzaref07_maybe y no = some (beginT (tkN y) 0 no, ())
  bare : ∀ (y : Node), 20 * deepN y + 9 ≤ n → oneP y 101 = true → Sz y → g.credenzaref07_bare y = some (bareT (atT (tkN y) 0 false), ())
  head : ∀ (w : Str) (y : Node), 20 * deepN y + 9 ≤ n → oneP y 101 = true → Sz y → g.credenzaref07_head w y = some (headT w (tkN y), ())
  stmt : ∀ (y : Node), 20 * deepN y + 14 ≤ n → oneP y 120 = true → Sz y → g.credenzaref07_Stmt y = some ((tkN y).st, ())
  rest : ∀ (y : Node), 20 * deepN y + 13 ≤ n → (y.Kind = 31 ∨ y.Kind = 32 ∨ y.Kind = 33 ∨ y.Kind = 34 ∨ y.Kind = 35 ∨ y.Kind = 36 ∨ y.Kind = 38) → mayN y = true → Sz y → g.credenzaref07_rest y = some ((tkN y).st, ())
  word : ∀ (s label : Str) (ls : List Node), 20 * deepL ls + 12 ≤ n → (∀ k ∈ ls, oneP k 101 = true) → SzL ls → g.credenzaref07_word s label ls = some ([s] ++ (if (label == ([] : Str)) = true then [] else [label]) ++ ((tkL ls).flatMap (fun k => atT k 0 false) ++ [[59]]), ())
  stmts : ∀ (ls : List Node), 20 * deepL ls + 16 ≤ n → (∀ k ∈ ls, oneP k 120 = true) → SzL ls → g.credenzaref07_Stmts ls = some (stmtsT (tkL ls), ())
theorem acc_loop {S R α : Type} (step : S → Option (S ⊕ R)) (mk : Int → List (List Str) → S) (xs : List α) (f : α → List Str) (res : R) (hlen : xs.length ≤ 1000000000)
    (hs : ∀ (i : Nat) (y : α), y ∈ xs → getI xs (i : Int) = some y → decide ((i : Int) < ((xs.length : Nat) : Int)) = true → IntKind.wrap .i64 ((i : Int) + 1) = ((i + 1 : Nat) : Int) → ∀ l : List (List Str), l.length ≤ 1000000000 → step (mk (i : Int) l) = some (.inl (mk ((i + 1 : Nat) : Int) (l ++ [f y]))))
    (he : decide (((xs.length : Nat) : Int) < ((xs.length : Nat) : Int)) = false → step (mk ((xs.length : Nat) : Int) (xs.map f)) = some (.inr res)) :
    Lp.loop step (mk 0 []) = some res := by
  have he := he (by simp)
  have key : ∀ (r : List α) (i : Nat) (l : List (List Str)), xs.drop i = r → i ≤ xs.length → l = (xs.take i).map f → loopN step (r.length + 1) (mk (i : Int) l) = some res := by
    intro r
    induction r with
    | nil =>
      intro i l hr hi hl
      have : i = xs.length := by have := congrArg List.length hr; simp at this; omega
      subst this
      rw [hl, List.take_length]
      exact loopN_out he
    | cons y r ih =>
      intro i l hr hi hl
      obtain ⟨h1, h2, h3⟩ := getI_drop hr
      have hm : y ∈ xs := List.mem_of_mem_drop (hr ▸ List.mem_cons_self)
      have hstep := hs i y hm h1 (by simpa using by omega) (by rw [wrap_i64 (by omega) (by omega)]; rfl) l (by rw [hl]; simp; omega)
      rw [List.length_cons, loopN_go hstep]
      refine ih (i + 1) _ h2 (by omega) ?_
      have hg : xs[i]? = some y := by rw [getI_nat] at h1; exact h1
      rw [hl, List.take_add_one, hg]
      simp
  exact loop_of (n := xs.length + 1) (by simpa using key xs 0 [] rfl (Nat.zero_le _) rfl) (by omega)
theorem cat_loop {S R α : Type} (step : S → Option (S ⊕ R)) (mk : Int → List Str → S) (xs : List α) (f : α → List Str) (tl : List Str) (fin : List Str → R) (hlen : xs.length ≤ 1000000000)
    (hs : ∀ (i : Nat) (y : α), y ∈ xs → getI xs (i : Int) = some y → decide ((i : Int) < ((xs.length : Nat) : Int)) = true → IntKind.wrap .i64 ((i : Int) + 1) = ((i + 1 : Nat) : Int) → ∀ l : List Str, l.length + (f y).length ≤ 274877906944 → step (mk (i : Int) l) = some (.inl (mk ((i + 1 : Nat) : Int) (l ++ f y))))
    (he : decide (((xs.length : Nat) : Int) < ((xs.length : Nat) : Int)) = false → ∀ l : List Str, l.length + tl.length ≤ 274877906944 → step (mk ((xs.length : Nat) : Int) l) = some (.inr (fin (l ++ tl))))
    (l : List Str) (hb : l.length + (xs.flatMap f ++ tl).length ≤ 274877906944) : Lp.loop step (mk 0 l) = some (fin (l ++ (xs.flatMap f ++ tl))) := by
  have he := he (by simp)
  have key : ∀ (r : List α) (i : Nat) (l : List Str), xs.drop i = r → i ≤ xs.length → l.length + (r.flatMap f ++ tl).length ≤ 274877906944 → loopN step (r.length + 1) (mk (i : Int) l) = some (fin (l ++ (r.flatMap f ++ tl))) := by
    intro r
    induction r with
    | nil =>
      intro i l hr hi hb
      have : i = xs.length := by have := congrArg List.length hr; simp at this; omega
      subst this
      exact loopN_out (by simpa using he l (by simpa using hb))
    | cons y r ih =>
      intro i l hr hi hb
      obtain ⟨h1, h2, h3⟩ := getI_drop hr
      have hm : y ∈ xs := List.mem_of_mem_drop (hr ▸ List.mem_cons_self)
      have e : (y :: r).flatMap f ++ tl = f y ++ (r.flatMap f ++ tl) := by simp
      rw [e] at hb ⊢
      rw [List.length_append] at hb
      have hstep := hs i y hm h1 (by simpa using by omega) (by rw [wrap_i64 (by omega) (by omega)]; rfl) l (by omega)
      rw [List.length_cons, loopN_go hstep, ih (i + 1) _ h2 (by omega) (by rw [List.length_append]; omega), List.append_assoc]
  exact loop_of (n := xs.length + 1) (by simpa using key xs 0 l rfl (Nat.zero_le _) hb) (by omega)
section
variable {g : Rec_credenzaref07_Stmts} {n : Nat}
theorem x_at (G : GoodX g n) (y : Node) (hd : 20 * deepN y + 8 ≤ n + 1) (ho : oneP y 101 = true) (hz : Sz y) (level : Int) (no : Bool) : credenzaref07_at_b g y level no = some (atT (tkN y) level no, ()) := by
  have h1 := len_ex hz false
  unfold credenzaref07_at_b atT
  rw [kids_x]
  simp only [re25_eq, rlevel_eq y ho hz.deep, Option.bind_some]
  split
  · simp only [one_eq, Option.bind_some, G.raw y (by omega) ho hz _ trivial]
    rw [join3 (by simp; omega)]
    simp
  · simp only [G.raw y (by omega) ho hz _ trivial, Option.bind_some]
theorem x_list (G : GoodX g n) (ls : List Node) (hd : 20 * deepL ls + 10 ≤ n + 1) (ho : ∀ k ∈ ls, oneP k 101 = true) (hz : SzL ls) : credenzaref07_list_b g ls = some (commas (itemT false) (tkL ls), ()) := by
  have a1 := len_bulkL ls; have := hz.bulk; have h1 := len_items hz
  have hit : ∀ k ∈ ls, itemT false (tkN k) = atT (tkN k) 1 false := fun k hk => by
    have : k.Kind ≠ 9 := fun e => by
      have := (one_101 (ho k hk)).1
      rw [e] at this
      exact absurd this (by decide)
    unfold itemT
    rw [kids_x, if_neg (by simpa using this)]
  refine acc_loop (credenzaref07_list_l1 g) (fun i l => (ls, ((ls.length : Nat) : Int), i, l, ())) ls (fun k => itemT false (tkN k)) _ (by omega) (fun i y hy h1 h2 h3 l hl => ?_) (fun he => ?_)
  · have b1 := mem_deepL hy
    simp only [credenzaref07_list_l1, h2, if_true, h1, Option.bind_some, re25_eq, G.at_ y (by omega) (ho y hy) (hz.mem hy), h3]
    rw [room_ok (by simp; omega), hit y hy]
    rfl
  · simp only [credenzaref07_list_l1, he, Bool.false_eq_true, if_false]
    rw [commas_eq] at h1 ⊢
    rw [rcommas _ (by simp; omega) (by rw [comma_map]; omega), comma_map]
    rfl
theorem x_props (G : GoodX g n) (y : Node) (hd : 20 * deepN y + 5 ≤ n + 1) (ho : ∀ k ∈ y.L, oneP k 112 = true) (hz : Sz y) : credenzaref07_props_b g y = some ([123] :: (commas (itemT false) (tkL y.L) ++ [[125]]), ()) := by
  have hzL := hz.kids
  have d1 := deepN_eq y
  have a1 := len_bulkL y.L; have := hzL.bulk; have h1 := len_items hzL
  refine acc_loop (credenzaref07_props_l1 g) (fun i l => (y.L, ((y.L.length : Nat) : Int), i, l, ())) y.L (fun k => itemT false (tkN k)) _ (by omega) (fun i k hk h1 h2 h3 l hl => ?_) (fun he => ?_)
  · have b1 := mem_deepL hk
    have hzk := hzL.mem hk
    have hk9 : k.Kind = 9 := eq_of_beq (show (k.Kind == 9) = true from one_is (ho k hk))
    have hm := one_may (ho k hk)
    rw [may_9 hk9, Bool.and_eq_true] at hm
    obtain ⟨a, hL, h5⟩ := match1 hm.2
    have hza := hzk.kids.mem (k := a) (by rw [hL]; simp)
    have b2 : deepN a ≤ deepL k.L := mem_deepL (by rw [hL]; simp)
    have b3 := deepN_eq k
    have hb := bulkN_eq k; have := hzk.bulk
    have hla := len_at hza 1 false
    have hi : itemT false (tkN k) = quoteP k.Text :: [58] :: atT (tkN a) 1 false := by
      unfold itemT
      rw [kids_x, kids_k, hk9, hL, tk0]; rfl
    simp only [credenzaref07_props_l1, h2, if_true, h1, Option.bind_some, re25_eq, rquote_eq k.Text (by omega) (own_text hm.1), hL, getI0, G.at_ a (by omega) h5 hza, h3]
    rw [join2 (by simp; omega)]
    simp only [Option.bind_some]
    rw [room_ok (by simp; omega), hi]
    rfl
  · simp only [credenzaref07_props_l1, he, Bool.false_eq_true, if_false, one_eq, Option.bind_some]
    rw [commas_eq] at h1 ⊢
    have h1 : (commaT (fun k => itemT false (tkN k)) y.L).length ≤ 100000000 := h1
    rw [rcommas _ (by simp; omega) (by rw [comma_map]; exact Nat.le_trans h1 (by decide)), comma_map]
    simp only [Option.bind_some]
    rw [join3 (by simp only [List.length_cons, List.length_nil]; exact Nat.le_trans (Nat.add_le_add_left (Nat.add_le_add_right h1 _) _) (by decide))]
    rfl
theorem x_braces (G : GoodX g n) (ls : List Node) (hd : 20 * deepL ls + 17 ≤ n + 1) (ho : ∀ k ∈ ls, oneP k 120 = true) (hz : SzL ls) : credenzaref07_braces_b g ls = some ([123] :: (stmtsT (tkL ls) ++ [[125]]), ()) := by
  have h1 := len_stmts hz
  unfold credenzaref07_braces_b
  simp only [one_eq, Option.bind_some, G.stmts ls (by omega) ho hz]
  rw [join3 (by simp; omega)]
  simp
theorem x_func (G : GoodX g n) (y : Node) (hd : 20 * deepN y + 6 ≤ n + 1) (ho : ∀ k ∈ y.L, oneP k 120 = true) (hz : Sz y) : credenzaref07_function_b g y = some (funcT y (tkL y.L), ()) := by
  have d1 := deepN_eq y
  have hs := len_stmts hz.kids
  have hbk := bulkN_eq y; have := hz.bulk
  have hn := len_sum1 y.Names
  have hnm := few_names y.Names
  have hn3 := names3 y.Names
  have hnl := wt_len (namesT y.Names)
  have key : ∀ l8 : List Str, l8.length ≤ 10 → Lp.loop (credenzaref07_function_l1 g) (y.Names, ((y.Names.length : Nat) : Int), 0, y, l8, ([] : List (List Str)), ()) = some (l8 ++ ([40] :: (namesT y.Names ++ ([41] :: [123] :: (stmtsT (tkL y.L) ++ [[125]])))), ()) := by
    intro l8 h8
    refine acc_loop (credenzaref07_function_l1 g) (fun i l => (y.Names, ((y.Names.length : Nat) : Int), i, y, l8, l, ())) y.Names (fun s => [s]) _ (by omega) (fun i k hk h1 h2 h3 l hl => ?_) (fun he => ?_)
    · simp only [credenzaref07_function_l1, h2, if_true, h1, Option.bind_some, one_eq, h3, re25_eq]
      rw [room_ok (by simp; omega)]
      rfl
    · simp only [credenzaref07_function_l1, he, Bool.false_eq_true, if_false, one_eq, Option.bind_some]
      rw [names_eq] at hnl hnm ⊢
      rw [rcommas _ (by simp; omega) (by rw [comma_map]; omega), comma_map]
      simp only [Option.bind_some, G.braces y.L (by omega) ho hz.kids]
      rw [join5 (by simp; omega)]
      simp
  unfold credenzaref07_function_b funcT
  by_cases hn : (y.Name == ([] : Str)) = true
  · rw [hn]
    simp only [Bool.not_true, Bool.false_eq_true, if_false, re25_eq]
    rw [key _ (by simp)]
    simp
  · have hn : (y.Name == ([] : Str)) = false := by simpa using hn
    rw [hn]
    simp only [Bool.not_false, if_true, re25_eq]
    rw [room_ok (by simp)]
    simp only [Option.bind_some]
    rw [key _ (by simp)]
    simp
theorem x_vars (G : GoodX g n) (y : Node) (no : Bool) (hd : 20 * deepN y + 5 ≤ n + 1) (ho : ∀ k ∈ y.L, oneP k 100 = true) (hz : Sz y) : credenzaref07_vars_b g y no = some ([118, 97, 114] :: commas (declT no) (tkL y.L), ()) := by
  have d1 := deepN_eq y
  have hzL := hz.kids
  have a1 := len_bulkL y.L; have := hzL.bulk; have h1 := len_decls hzL no
  refine acc_loop (credenzaref07_vars_l1 g) (fun i l => (no, y.L, ((y.L.length : Nat) : Int), i, l, ())) y.L (fun k => declT no (tkN k)) _ (by omega) (fun i k hk h1 h2 h3 l hl => ?_) (fun he => ?_)
  · have b1 := mem_deepL hk
    have b3 := deepN_eq k
    obtain ⟨_, hL⟩ := decl_of (ho k hk)
    unfold declT
    rw [kids_x, kids_k]
    rcases hL with hL | ⟨a, hL, h5⟩
    · simp only [credenzaref07_vars_l1, h2, if_true, h1, Option.bind_some, one_eq, hL, h3]
      rw [if_neg (by simp), room_ok (by simp; omega)]
      simp [tkL, k0]
    · have hza := (hzL.mem hk).kids.mem (k := a) (by rw [hL]; simp)
      have b2 : deepN a ≤ deepL k.L := mem_deepL (by rw [hL]; simp)
      have hla := len_at hza 1 no
      simp only [credenzaref07_vars_l1, h2, if_true, h1, Option.bind_some, one_eq, hL, getI0, re25_eq, G.at_ a (by omega) h5 hza, h3]
      rw [if_pos (by simp), join3 (by simp; omega)]
      simp only [Option.bind_some]
      rw [room_ok (by simp; omega), tk0]
      simp
  · simp only [credenzaref07_vars_l1, he, Bool.false_eq_true, if_false, one_eq, Option.bind_some]
    rw [commas_eq] at h1 ⊢
    have h1 : (commaT (fun k => declT no (tkN k)) y.L).length ≤ 100000000 := h1
    rw [rcommas _ (by simp; omega) (by rw [comma_map]; exact Nat.le_trans h1 (by decide)), comma_map]
    simp only [Option.bind_some]
    rw [join2 (by simp only [List.length_cons, List.length_nil]; exact Nat.le_trans (Nat.add_le_add_left h1 _) (by decide))]
    rfl
theorem x_maybe (G : GoodX g n) (y : Node) (no : Bool) (hd : 20 * deepN y + 9 ≤ n + 1) (ho : beginOK y = true) (hz : Sz y) : credenzaref07_maybe_b g y no = some (beginT (tkN y) 0 no, ()) := by
  unfold credenzaref07_maybe_b beginT
  rw [kids_x, kids_k]
  simp only [re25_eq]
  rcases begin_or ho with h | h | h
  · rw [h]; rfl
  · have hm := one_may (c := 118) ho
    rw [may_22 h, Bool.and_eq_true] at hm
    obtain ⟨d, l, hL, h1, h2⟩ := match1M hm.2
    have hk : ∀ k ∈ y.L, oneP k 100 = true := by
      rw [hL]; intro k hk
      rcases List.mem_cons.1 hk with rfl | hk
      · exact h1
      · exact h2 k hk
    rw [h]
    show Option.bind (g.credenzaref07_vars y no) _ = _
    rw [G.vars y no (by omega) hk hz]; rfl
  · have he := (one_101 h).1
    have e1 : (y.Kind == 42) = false := by
      rcases expr_kinds he with h | h | h | h | h | h | h | h | h | h | h | h | h | h | h | h | h | h | h | h <;> rw [h] <;> rfl
    have e2 : (y.Kind == 22) = false := by
      rcases expr_kinds he with h | h | h | h | h | h | h | h | h | h | h | h | h | h | h | h | h | h | h | h <;> rw [h] <;> rfl
    rw [e1, e2]
    simp only [Bool.false_eq_true, if_false, G.at_ y (by omega) h hz, Option.bind_some]
theorem x_bare (G : GoodX g n) (y : Node) (hd : 20 * deepN y + 9 ≤ n + 1) (ho : oneP y 101 = true) (hz : Sz y) : credenzaref07_bare_b g y = some (bareT (atT (tkN y) 0 false), ()) := by
  have hla := len_at hz 0 false
  unfold credenzaref07_bare_b bareT
  simp only [re25_eq, G.at_ y (by omega) ho hz, Option.bind_some]
  cases e : atT (tkN y) 0 false with
  | nil => exact absurd e (at_ne ho 0 false)
  | cons w r =>
    rw [e] at hla
    simp only [getI0, Option.bind_some]
    have hb : (if (w == ([123] : Str)) = true then some true else some (w == ([102, 117, 110, 99, 116, 105, 111, 110] : Str))) = some (w == ([123] : Str) || w == ([102, 117, 110, 99, 116, 105, 111, 110] : Str)) := by
      cases w == ([123] : Str) <;> rfl
    rw [hb]
    simp only [Option.bind_some, one_eq]
    split
    · rw [join3 (by simp at hla ⊢; omega)]
      simp
    · rfl
theorem x_head (G : GoodX g n) (w : Str) (y : Node) (hd : 20 * deepN y + 9 ≤ n + 1) (ho : oneP y 101 = true) (hz : Sz y) : credenzaref07_head_b g w y = some (headT w (tkN y), ()) := by
  have hla := len_at hz 0 false
  unfold credenzaref07_head_b headT
  simp only [re25_eq, G.at_ y (by omega) ho hz, Option.bind_some, one_eq, fk_self]
  rw [join3 (by simp; omega)]
  simp
theorem x_stmts (G : GoodX g n) (ls : List Node) (hd : 20 * deepL ls + 16 ≤ n + 1) (ho : ∀ k ∈ ls, oneP k 120 = true) (hz : SzL ls) : credenzaref07_Stmts_b g ls = some (stmtsT (tkL ls), ()) := by
  have a1 := len_bulkL ls; have := hz.bulk; have h1 := len_stmts hz
  have e : stmtsT (tkL ls) = ls.flatMap fun k => (tkN k).st := by
    unfold stmtsT; rw [tkL_map, List.flatMap_map]
  rw [e] at h1 ⊢
  have := cat_loop (credenzaref07_Stmts_l1 g) (fun i l => (l, ls, ((ls.length : Nat) : Int), i, ())) ls (fun k => (tkN k).st) [] (fun l => (l, ())) (by omega) (fun i y hy h1 h2 h3 l hl => ?_) (fun he l hl => ?_) [] (by simp only [List.length_append, List.append_nil, List.length_nil]; omega)
  · unfold credenzaref07_Stmts_b
    simpa using this
  · have b1 := mem_deepL hy
    simp only [credenzaref07_Stmts_l1, h2, if_true, h1, Option.bind_some, re25_eq, G.stmt y (by omega) (ho y hy) (hz.mem hy), h3]
    rw [join2 hl]; rfl
  · simp only [credenzaref07_Stmts_l1, he, Bool.false_eq_true, if_false]
    simp
theorem x_word (G : GoodX g n) (s label : Str) (ls : List Node) (hd : 20 * deepL ls + 12 ≤ n + 1) (ho : ∀ k ∈ ls, oneP k 101 = true) (hz : SzL ls) : credenzaref07_word_b g s label ls = some ([s] ++ (if (label == ([] : Str)) = true then [] else [label]) ++ ((tkL ls).flatMap (fun k => atT k 0 false) ++ [[59]]), ()) := by
  have a1 := len_bulkL ls; have := hz.bulk
  have h1 : ((tkL ls).flatMap fun k => atT k 0 false).length ≤ 100000000 := by
    have := few_flat ls (fun k => atT k 0 false) fun k _ => few_at (few_n k).ex 0 false
    have := wt_len ((tkL ls).flatMap fun k => atT k 0 false)
    have := hz.w; omega
  have e : ((tkL ls).flatMap fun k => atT k 0 false) = ls.flatMap fun k => atT (tkN k) 0 false := by
    rw [tkL_map, List.flatMap_map]
  rw [e] at h1 ⊢
  have key : ∀ l : List Str, l.length ≤ 10 → Lp.loop (credenzaref07_word_l1 g) (ls, ((ls.length : Nat) : Int), 0, l, ()) = some (l ++ ((ls.flatMap fun k => atT (tkN k) 0 false) ++ [[59]]), ()) := by
    intro l h8
    refine cat_loop (credenzaref07_word_l1 g) (fun i l => (ls, ((ls.length : Nat) : Int), i, l, ())) ls (fun k => atT (tkN k) 0 false) [[59]] (fun l => (l, ())) (by omega) (fun i y hy h1 h2 h3 l hl => ?_) (fun he l hl => ?_) l (by simp only [List.length_append, List.length_cons, List.length_nil]; omega)
    · have b1 := mem_deepL hy
      simp only [credenzaref07_word_l1, h2, if_true, h1, Option.bind_some, re25_eq, G.at_ y (by omega) (ho y hy) (hz.mem hy), h3]
      rw [join2 hl]; rfl
    · simp only [credenzaref07_word_l1, he, Bool.false_eq_true, if_false, one_eq, Option.bind_some]
      rw [join2 hl]; rfl
  unfold credenzaref07_word_b
  simp only [one_eq, Option.bind_some]
  by_cases hn : (label == ([] : Str)) = true
  · rw [hn]
    simp only [Bool.not_true, Bool.false_eq_true, if_false, if_true]
    rw [key _ (by simp)]
    simp
  · have hn : (label == ([] : Str)) = false := by simpa using hn
    rw [hn]
    simp only [Bool.not_false, if_true, Bool.false_eq_true, if_false]
    rw [room_ok (by simp)]
    simp only [Option.bind_some]
    rw [key _ (by simp)]
end
end Go.D07.W


namespace Go.D07.W
open Go Go.Gw Go.Dn
set_option maxRecDepth 100000

section
variable {g : Rec_credenzaref07_Stmts} {n : Nat}
theorem xr_1 (G : GoodX g n) (y : Node) (hd : 20 * deepN y + 7 ≤ n + 1) (h : y.Kind = 1) (ho : oneP y 101 = true) (hz : Sz y) (no : Bool) : credenzaref07_raw_b g y no = some ((tkN y).ex no, ()) := by
  obtain ⟨he, hm⟩ := one_101 ho
  have d1 := deepN_eq y
  have hzL := hz.kids
  have ha : ∀ k ∈ y.L, oneP k 101 = true → (∀ least no, g.credenzaref07_at k least no = some (atT (tkN k) least no, ())) ∧ ∀ least no, (atT (tkN k) least no).length ≤ 100000000 := fun k hk h1 => ⟨G.at_ k (by have := mem_deepL hk; omega) h1 (hzL.mem hk), len_at (hzL.mem hk)⟩
  rw [may_1 h, Bool.and_eq_true] at hm
  have hL := match0 hm.2
  rw [ex_1 h]
  unfold credenzaref07_raw_b credenzaref07_leaf
  have hn : 0 ≤ y.Num ∧ y.Num ≤ 9007199254740991 := by simpa [numP, h] using (own_parts hm.1).2
  simp only [re25_eq, h, Int.reduceBEq, Bool.false_eq_true, if_false, if_true, Option.bind_some, one_eq, rdigits_eq y.Num hn.1 hn.2]
theorem xr_2 (G : GoodX g n) (y : Node) (hd : 20 * deepN y + 7 ≤ n + 1) (h : y.Kind = 2) (ho : oneP y 101 = true) (hz : Sz y) (no : Bool) : credenzaref07_raw_b g y no = some ((tkN y).ex no, ()) := by
  obtain ⟨he, hm⟩ := one_101 ho
  have d1 := deepN_eq y
  have hzL := hz.kids
  have ha : ∀ k ∈ y.L, oneP k 101 = true → (∀ least no, g.credenzaref07_at k least no = some (atT (tkN k) least no, ())) ∧ ∀ least no, (atT (tkN k) least no).length ≤ 100000000 := fun k hk h1 => ⟨G.at_ k (by have := mem_deepL hk; omega) h1 (hzL.mem hk), len_at (hzL.mem hk)⟩
  rw [may_2 h, Bool.and_eq_true] at hm
  have hL := match0 hm.2
  rw [ex_2 h]
  unfold credenzaref07_raw_b credenzaref07_leaf
  have hb := bulkN_eq y
  have := hz.bulk
  simp only [re25_eq, h, Int.reduceBEq, Bool.false_eq_true, if_false, if_true, Option.bind_some, one_eq, rquote_eq y.Text (by omega) (own_text hm.1)]
theorem xr_3 (G : GoodX g n) (y : Node) (hd : 20 * deepN y + 7 ≤ n + 1) (h : y.Kind = 3) (ho : oneP y 101 = true) (hz : Sz y) (no : Bool) : credenzaref07_raw_b g y no = some ((tkN y).ex no, ()) := by
  obtain ⟨he, hm⟩ := one_101 ho
  have d1 := deepN_eq y
  have hzL := hz.kids
  have ha : ∀ k ∈ y.L, oneP k 101 = true → (∀ least no, g.credenzaref07_at k least no = some (atT (tkN k) least no, ())) ∧ ∀ least no, (atT (tkN k) least no).length ≤ 100000000 := fun k hk h1 => ⟨G.at_ k (by have := mem_deepL hk; omega) h1 (hzL.mem hk), len_at (hzL.mem hk)⟩
  rw [may_3 h, Bool.and_eq_true] at hm
  have hL := match0 hm.2
  rw [ex_3 h]
  unfold credenzaref07_raw_b credenzaref07_leaf
  simp only [re25_eq, h, Int.reduceBEq, Bool.false_eq_true, if_false, if_true, Option.bind_some, one_eq]
theorem xr_4 (G : GoodX g n) (y : Node) (hd : 20 * deepN y + 7 ≤ n + 1) (h : y.Kind = 4) (ho : oneP y 101 = true) (hz : Sz y) (no : Bool) : credenzaref07_raw_b g y no = some ((tkN y).ex no, ()) := by
  obtain ⟨he, hm⟩ := one_101 ho
  have d1 := deepN_eq y
  have hzL := hz.kids
  have ha : ∀ k ∈ y.L, oneP k 101 = true → (∀ least no, g.credenzaref07_at k least no = some (atT (tkN k) least no, ())) ∧ ∀ least no, (atT (tkN k) least no).length ≤ 100000000 := fun k hk h1 => ⟨G.at_ k (by have := mem_deepL hk; omega) h1 (hzL.mem hk), len_at (hzL.mem hk)⟩
  rw [may_4 h, Bool.and_eq_true] at hm
  have hL := match0 hm.2
  rw [ex_4 h]
  unfold credenzaref07_raw_b credenzaref07_leaf
  simp only [re25_eq, h, Int.reduceBEq, Bool.false_eq_true, if_false, if_true, Option.bind_some, one_eq]
theorem xr_5 (G : GoodX g n) (y : Node) (hd : 20 * deepN y + 7 ≤ n + 1) (h : y.Kind = 5) (ho : oneP y 101 = true) (hz : Sz y) (no : Bool) : credenzaref07_raw_b g y no = some ((tkN y).ex no, ()) := by
  obtain ⟨he, hm⟩ := one_101 ho
  have d1 := deepN_eq y
  have hzL := hz.kids
  have ha : ∀ k ∈ y.L, oneP k 101 = true → (∀ least no, g.credenzaref07_at k least no = some (atT (tkN k) least no, ())) ∧ ∀ least no, (atT (tkN k) least no).length ≤ 100000000 := fun k hk h1 => ⟨G.at_ k (by have := mem_deepL hk; omega) h1 (hzL.mem hk), len_at (hzL.mem hk)⟩
  rw [may_5 h, Bool.and_eq_true] at hm
  have hL := match0 hm.2
  rw [ex_5 h]
  unfold credenzaref07_raw_b credenzaref07_leaf
  simp only [re25_eq, h, Int.reduceBEq, Bool.false_eq_true, if_false, if_true, Option.bind_some, one_eq]
theorem xr_6 (G : GoodX g n) (y : Node) (hd : 20 * deepN y + 7 ≤ n + 1) (h : y.Kind = 6) (ho : oneP y 101 = true) (hz : Sz y) (no : Bool) : credenzaref07_raw_b g y no = some ((tkN y).ex no, ()) := by
  obtain ⟨he, hm⟩ := one_101 ho
  have d1 := deepN_eq y
  have hzL := hz.kids
  have ha : ∀ k ∈ y.L, oneP k 101 = true → (∀ least no, g.credenzaref07_at k least no = some (atT (tkN k) least no, ())) ∧ ∀ least no, (atT (tkN k) least no).length ≤ 100000000 := fun k hk h1 => ⟨G.at_ k (by have := mem_deepL hk; omega) h1 (hzL.mem hk), len_at (hzL.mem hk)⟩
  rw [may_6 h, Bool.and_eq_true] at hm
  have hL := match0 hm.2
  rw [ex_6 h]
  unfold credenzaref07_raw_b credenzaref07_leaf
  have hn : y.Num = 0 ∨ y.Num = 1 := by simpa [numP, h] using (own_parts hm.1).2
  rcases hn with e | e
  · simp only [re25_eq, h, e, Int.reduceBEq, Bool.false_eq_true, if_false, if_true, Option.bind_some, one_eq]; rfl
  · simp only [re25_eq, h, e, Int.reduceBEq, Bool.false_eq_true, if_false, if_true, Option.bind_some, one_eq]; rfl
theorem xr_7 (G : GoodX g n) (y : Node) (hd : 20 * deepN y + 7 ≤ n + 1) (h : y.Kind = 7) (ho : oneP y 101 = true) (hz : Sz y) (no : Bool) : credenzaref07_raw_b g y no = some ((tkN y).ex no, ()) := by
  obtain ⟨he, hm⟩ := one_101 ho
  have d1 := deepN_eq y
  have hzL := hz.kids
  have ha : ∀ k ∈ y.L, oneP k 101 = true → (∀ least no, g.credenzaref07_at k least no = some (atT (tkN k) least no, ())) ∧ ∀ least no, (atT (tkN k) least no).length ≤ 100000000 := fun k hk h1 => ⟨G.at_ k (by have := mem_deepL hk; omega) h1 (hzL.mem hk), len_at (hzL.mem hk)⟩
  rw [may_7 h, Bool.and_eq_true] at hm
  have hl := len_items hzL
  rw [ex_7 h]
  unfold credenzaref07_raw_b
  simp only [re25_eq, h, Int.reduceBEq, Bool.false_eq_true, if_false, if_true, Option.bind_some, one_eq, G.list y.L (by omega) (matchM hm.2) hzL]
  rw [join3 (by simp; omega)]
  simp
theorem xr_8 (G : GoodX g n) (y : Node) (hd : 20 * deepN y + 7 ≤ n + 1) (h : y.Kind = 8) (ho : oneP y 101 = true) (hz : Sz y) (no : Bool) : credenzaref07_raw_b g y no = some ((tkN y).ex no, ()) := by
  obtain ⟨he, hm⟩ := one_101 ho
  have d1 := deepN_eq y
  have hzL := hz.kids
  have ha : ∀ k ∈ y.L, oneP k 101 = true → (∀ least no, g.credenzaref07_at k least no = some (atT (tkN k) least no, ())) ∧ ∀ least no, (atT (tkN k) least no).length ≤ 100000000 := fun k hk h1 => ⟨G.at_ k (by have := mem_deepL hk; omega) h1 (hzL.mem hk), len_at (hzL.mem hk)⟩
  rw [may_8 h, Bool.and_eq_true] at hm
  rw [ex_8 h]
  unfold credenzaref07_raw_b
  simp only [re25_eq, h, Int.reduceBEq, Bool.false_eq_true, if_false, if_true, Option.bind_some, G.props y (by omega) (matchM hm.2) hz]
theorem xr_10 (G : GoodX g n) (y : Node) (hd : 20 * deepN y + 7 ≤ n + 1) (h : y.Kind = 10) (ho : oneP y 101 = true) (hz : Sz y) (no : Bool) : credenzaref07_raw_b g y no = some ((tkN y).ex no, ()) := by
  obtain ⟨he, hm⟩ := one_101 ho
  have d1 := deepN_eq y
  have hzL := hz.kids
  have ha : ∀ k ∈ y.L, oneP k 101 = true → (∀ least no, g.credenzaref07_at k least no = some (atT (tkN k) least no, ())) ∧ ∀ least no, (atT (tkN k) least no).length ≤ 100000000 := fun k hk h1 => ⟨G.at_ k (by have := mem_deepL hk; omega) h1 (hzL.mem hk), len_at (hzL.mem hk)⟩
  rw [may_10 h, Bool.and_eq_true] at hm
  rw [ex_10 h]
  unfold credenzaref07_raw_b
  simp only [re25_eq, h, Int.reduceBEq, Bool.false_eq_true, if_false, if_true, Option.bind_some, G.func y (by omega) (matchM hm.2) hz]
theorem xr_11 (G : GoodX g n) (y : Node) (hd : 20 * deepN y + 7 ≤ n + 1) (h : y.Kind = 11) (ho : oneP y 101 = true) (hz : Sz y) (no : Bool) : credenzaref07_raw_b g y no = some ((tkN y).ex no, ()) := by
  obtain ⟨he, hm⟩ := one_101 ho
  have d1 := deepN_eq y
  have hzL := hz.kids
  have ha : ∀ k ∈ y.L, oneP k 101 = true → (∀ least no, g.credenzaref07_at k least no = some (atT (tkN k) least no, ())) ∧ ∀ least no, (atT (tkN k) least no).length ≤ 100000000 := fun k hk h1 => ⟨G.at_ k (by have := mem_deepL hk; omega) h1 (hzL.mem hk), len_at (hzL.mem hk)⟩
  rw [may_11 h, Bool.and_eq_true] at hm
  obtain ⟨a, hL, h1⟩ := match1 hm.2
  obtain ⟨q0, l0⟩ := ha a (by rw [hL]; simp) h1
  rw [ex_11 h, hL, tk0]
  have z0 := l0 11 no
  unfold credenzaref07_raw_b
  simp only [re25_eq, h, hL, Int.reduceBEq, Bool.false_eq_true, if_false, if_true, getI0, getI1, getI2, Option.bind_some, one_eq, fk_self, q0]
  rw [join2 (by simp; omega)]
  rfl
theorem xr_12 (G : GoodX g n) (y : Node) (hd : 20 * deepN y + 7 ≤ n + 1) (h : y.Kind = 12) (ho : oneP y 101 = true) (hz : Sz y) (no : Bool) : credenzaref07_raw_b g y no = some ((tkN y).ex no, ()) := by
  obtain ⟨he, hm⟩ := one_101 ho
  have d1 := deepN_eq y
  have hzL := hz.kids
  have ha : ∀ k ∈ y.L, oneP k 101 = true → (∀ least no, g.credenzaref07_at k least no = some (atT (tkN k) least no, ())) ∧ ∀ least no, (atT (tkN k) least no).length ≤ 100000000 := fun k hk h1 => ⟨G.at_ k (by have := mem_deepL hk; omega) h1 (hzL.mem hk), len_at (hzL.mem hk)⟩
  rw [may_12 h, Bool.and_eq_true] at hm
  obtain ⟨a, b, hL, h1, h2⟩ := match2 hm.2
  obtain ⟨q0, l0⟩ := ha a (by rw [hL]; simp) h1
  obtain ⟨q1, l1⟩ := ha b (by rw [hL]; simp) h2
  rw [ex_12 h, hL, tk0, tk1]
  have z0 := l0 11 no
  have z1 := l1 0 false
  unfold credenzaref07_raw_b
  simp only [re25_eq, h, hL, Int.reduceBEq, Bool.false_eq_true, if_false, if_true, getI0, getI1, getI2, Option.bind_some, one_eq, fk_self, q0, q1]
  rw [join4 (by simp; omega)]
  simp
theorem xr_13 (G : GoodX g n) (y : Node) (hd : 20 * deepN y + 7 ≤ n + 1) (h : y.Kind = 13) (ho : oneP y 101 = true) (hz : Sz y) (no : Bool) : credenzaref07_raw_b g y no = some ((tkN y).ex no, ()) := by
  obtain ⟨he, hm⟩ := one_101 ho
  have d1 := deepN_eq y
  have hzL := hz.kids
  have ha : ∀ k ∈ y.L, oneP k 101 = true → (∀ least no, g.credenzaref07_at k least no = some (atT (tkN k) least no, ())) ∧ ∀ least no, (atT (tkN k) least no).length ≤ 100000000 := fun k hk h1 => ⟨G.at_ k (by have := mem_deepL hk; omega) h1 (hzL.mem hk), len_at (hzL.mem hk)⟩
  rw [may_13 h, Bool.and_eq_true] at hm
  obtain ⟨a, r, hL, h1, h2⟩ := match1M hm.2
  obtain ⟨q0, l0⟩ := ha a (by rw [hL]; simp) h1
  have z0 := l0 11 no
  have hzr : SzL r := SzL.tail (a := a) (by rw [← hL]; exact hzL)
  have dr : deepL r ≤ deepL y.L := by rw [hL, deepL_cons]; omega
  have hl := len_items hzr
  rw [ex_13 h, hL, tk0, tkT]
  unfold credenzaref07_raw_b
  simp only [re25_eq, h, hL, Int.reduceBEq, Bool.false_eq_true, if_false, if_true, getI0, cut1, Option.bind_some, one_eq, q0, G.list r (by omega) h2 hzr]
  rw [join4 (by simp; omega)]
  simp
theorem xr_14 (G : GoodX g n) (y : Node) (hd : 20 * deepN y + 7 ≤ n + 1) (h : y.Kind = 14) (ho : oneP y 101 = true) (hz : Sz y) (no : Bool) : credenzaref07_raw_b g y no = some ((tkN y).ex no, ()) := by
  obtain ⟨he, hm⟩ := one_101 ho
  have d1 := deepN_eq y
  have hzL := hz.kids
  have ha : ∀ k ∈ y.L, oneP k 101 = true → (∀ least no, g.credenzaref07_at k least no = some (atT (tkN k) least no, ())) ∧ ∀ least no, (atT (tkN k) least no).length ≤ 100000000 := fun k hk h1 => ⟨G.at_ k (by have := mem_deepL hk; omega) h1 (hzL.mem hk), len_at (hzL.mem hk)⟩
  rw [may_14 h, Bool.and_eq_true] at hm
  obtain ⟨a, r, hL, h1, h2⟩ := match1M hm.2
  obtain ⟨q0, l0⟩ := ha a (by rw [hL]; simp) h1
  have z0 := l0 12 no
  have hzr : SzL r := SzL.tail (a := a) (by rw [← hL]; exact hzL)
  have dr : deepL r ≤ deepL y.L := by rw [hL, deepL_cons]; omega
  have hl := len_items hzr
  rw [ex_14 h, hL, tk0, tkT]
  unfold credenzaref07_raw_b
  simp only [re25_eq, h, hL, Int.reduceBEq, Bool.false_eq_true, if_false, if_true, getI0, cut1, Option.bind_some, one_eq, q0, G.list r (by omega) h2 hzr]
  rw [join5 (by simp; omega)]
  simp
theorem xr_15 (G : GoodX g n) (y : Node) (hd : 20 * deepN y + 7 ≤ n + 1) (h : y.Kind = 15) (ho : oneP y 101 = true) (hz : Sz y) (no : Bool) : credenzaref07_raw_b g y no = some ((tkN y).ex no, ()) := by
  obtain ⟨he, hm⟩ := one_101 ho
  have d1 := deepN_eq y
  have hzL := hz.kids
  have ha : ∀ k ∈ y.L, oneP k 101 = true → (∀ least no, g.credenzaref07_at k least no = some (atT (tkN k) least no, ())) ∧ ∀ least no, (atT (tkN k) least no).length ≤ 100000000 := fun k hk h1 => ⟨G.at_ k (by have := mem_deepL hk; omega) h1 (hzL.mem hk), len_at (hzL.mem hk)⟩
  rw [may_15 h, Bool.and_eq_true] at hm
  obtain ⟨a, hL, h1⟩ := match1 hm.2
  obtain ⟨q0, l0⟩ := ha a (by rw [hL]; simp) h1
  rw [ex_15 h, hL, tk0]
  have z0 := l0 9 no
  unfold credenzaref07_raw_b
  simp only [re25_eq, h, hL, Int.reduceBEq, Bool.false_eq_true, if_false, if_true, getI0, getI1, getI2, Option.bind_some, one_eq, fk_self, q0]
  rw [join2 (by simp; omega)]
  simp
theorem xr_16 (G : GoodX g n) (y : Node) (hd : 20 * deepN y + 7 ≤ n + 1) (h : y.Kind = 16) (ho : oneP y 101 = true) (hz : Sz y) (no : Bool) : credenzaref07_raw_b g y no = some ((tkN y).ex no, ()) := by
  obtain ⟨he, hm⟩ := one_101 ho
  have d1 := deepN_eq y
  have hzL := hz.kids
  have ha : ∀ k ∈ y.L, oneP k 101 = true → (∀ least no, g.credenzaref07_at k least no = some (atT (tkN k) least no, ())) ∧ ∀ least no, (atT (tkN k) least no).length ≤ 100000000 := fun k hk h1 => ⟨G.at_ k (by have := mem_deepL hk; omega) h1 (hzL.mem hk), len_at (hzL.mem hk)⟩
  rw [may_16 h, Bool.and_eq_true] at hm
  have hn : y.Num = 0 ∨ y.Num = 1 := by simpa [numP, h] using (own_parts hm.1).2
  obtain ⟨a, hL, h1⟩ := match1 hm.2
  obtain ⟨q0, l0⟩ := ha a (by rw [hL]; simp) (tgt_101 h1)
  have z0 := l0 11 no
  rw [ex_16 h, hL, tk0]
  unfold credenzaref07_raw_b
  rcases hn with e | e
  · simp only [re25_eq, h, hL, e, Int.reduceBEq, Bool.false_eq_true, if_false, if_true, getI0, Option.bind_some, one_eq, q0]
    rw [join2 (by simp; omega)]
    rfl
  · simp only [re25_eq, h, hL, e, Int.reduceBEq, Bool.false_eq_true, if_false, if_true, getI0, Option.bind_some, one_eq, q0]
    rw [join2 (by simp; omega)]
    simp
theorem xr_17 (G : GoodX g n) (y : Node) (hd : 20 * deepN y + 7 ≤ n + 1) (h : y.Kind = 17) (ho : oneP y 101 = true) (hz : Sz y) (no : Bool) : credenzaref07_raw_b g y no = some ((tkN y).ex no, ()) := by
  obtain ⟨he, hm⟩ := one_101 ho
  have d1 := deepN_eq y
  have hzL := hz.kids
  have ha : ∀ k ∈ y.L, oneP k 101 = true → (∀ least no, g.credenzaref07_at k least no = some (atT (tkN k) least no, ())) ∧ ∀ least no, (atT (tkN k) least no).length ≤ 100000000 := fun k hk h1 => ⟨G.at_ k (by have := mem_deepL hk; omega) h1 (hzL.mem hk), len_at (hzL.mem hk)⟩
  rw [may_17 h, Bool.and_eq_true] at hm
  have hv := lvl17 h
  obtain ⟨a, b, hL, h1, h2⟩ := match2 hm.2
  obtain ⟨q0, l0⟩ := ha a (by rw [hL]; simp) h1
  obtain ⟨q1, l1⟩ := ha b (by rw [hL]; simp) h2
  rw [ex_17 h, hL, tk0, tk1]
  have z0 := l0 (tkN y).lvl no
  have z1 := l1 ((tkN y).lvl + 1) no
  have w : IntKind.wrap .i64 ((tkN y).lvl + 1) = (tkN y).lvl + 1 := wrap_i64 (by omega) (by omega)
  unfold credenzaref07_raw_b credenzaref07_raw_j1
  simp only [re25_eq, h, hL, Int.reduceBEq, Bool.false_eq_true, if_false, if_true, getI0, getI1, Option.bind_some, one_eq, rlevel_eq y ho hz.deep, w, q0, q1]
  rw [join3 (by simp; omega)]
  simp
theorem xr_18 (G : GoodX g n) (y : Node) (hd : 20 * deepN y + 7 ≤ n + 1) (h : y.Kind = 18) (ho : oneP y 101 = true) (hz : Sz y) (no : Bool) : credenzaref07_raw_b g y no = some ((tkN y).ex no, ()) := by
  obtain ⟨he, hm⟩ := one_101 ho
  have d1 := deepN_eq y
  have hzL := hz.kids
  have ha : ∀ k ∈ y.L, oneP k 101 = true → (∀ least no, g.credenzaref07_at k least no = some (atT (tkN k) least no, ())) ∧ ∀ least no, (atT (tkN k) least no).length ≤ 100000000 := fun k hk h1 => ⟨G.at_ k (by have := mem_deepL hk; omega) h1 (hzL.mem hk), len_at (hzL.mem hk)⟩
  rw [may_18 h, Bool.and_eq_true] at hm
  have hv := lvl18 h hm.1
  obtain ⟨a, b, hL, h1, h2⟩ := match2 hm.2
  obtain ⟨q0, l0⟩ := ha a (by rw [hL]; simp) h1
  obtain ⟨q1, l1⟩ := ha b (by rw [hL]; simp) h2
  rw [ex_18 h, hL, tk0, tk1]
  have z0 := l0 (tkN y).lvl no
  have z1 := l1 ((tkN y).lvl + 1) no
  have w : IntKind.wrap .i64 ((tkN y).lvl + 1) = (tkN y).lvl + 1 := wrap_i64 (by omega) (by omega)
  unfold credenzaref07_raw_b credenzaref07_raw_j1
  simp only [re25_eq, h, hL, Int.reduceBEq, Bool.false_eq_true, if_false, if_true, getI0, getI1, Option.bind_some, one_eq, rlevel_eq y ho hz.deep, w, q0, q1]
  rw [join3 (by simp; omega)]
  simp
theorem xr_19 (G : GoodX g n) (y : Node) (hd : 20 * deepN y + 7 ≤ n + 1) (h : y.Kind = 19) (ho : oneP y 101 = true) (hz : Sz y) (no : Bool) : credenzaref07_raw_b g y no = some ((tkN y).ex no, ()) := by
  obtain ⟨he, hm⟩ := one_101 ho
  have d1 := deepN_eq y
  have hzL := hz.kids
  have ha : ∀ k ∈ y.L, oneP k 101 = true → (∀ least no, g.credenzaref07_at k least no = some (atT (tkN k) least no, ())) ∧ ∀ least no, (atT (tkN k) least no).length ≤ 100000000 := fun k hk h1 => ⟨G.at_ k (by have := mem_deepL hk; omega) h1 (hzL.mem hk), len_at (hzL.mem hk)⟩
  rw [may_19 h, Bool.and_eq_true] at hm
  obtain ⟨a, b, c, hL, h1, h2, h3⟩ := match3 hm.2
  obtain ⟨q0, l0⟩ := ha a (by rw [hL]; simp) h1
  obtain ⟨q1, l1⟩ := ha b (by rw [hL]; simp) h2
  obtain ⟨q2, l2⟩ := ha c (by rw [hL]; simp) h3
  rw [ex_19 h, hL, tk0, tk1, tk2]
  have z0 := l0 3 no
  have z1 := l1 1 false
  have z2 := l2 1 no
  unfold credenzaref07_raw_b
  simp only [re25_eq, h, hL, Int.reduceBEq, Bool.false_eq_true, if_false, if_true, getI0, getI1, getI2, Option.bind_some, one_eq, fk_self, q0, q1, q2]
  rw [join5 (by simp; omega)]
  simp
theorem xr_20 (G : GoodX g n) (y : Node) (hd : 20 * deepN y + 7 ≤ n + 1) (h : y.Kind = 20) (ho : oneP y 101 = true) (hz : Sz y) (no : Bool) : credenzaref07_raw_b g y no = some ((tkN y).ex no, ()) := by
  obtain ⟨he, hm⟩ := one_101 ho
  have d1 := deepN_eq y
  have hzL := hz.kids
  have ha : ∀ k ∈ y.L, oneP k 101 = true → (∀ least no, g.credenzaref07_at k least no = some (atT (tkN k) least no, ())) ∧ ∀ least no, (atT (tkN k) least no).length ≤ 100000000 := fun k hk h1 => ⟨G.at_ k (by have := mem_deepL hk; omega) h1 (hzL.mem hk), len_at (hzL.mem hk)⟩
  rw [may_20 h, Bool.and_eq_true] at hm
  obtain ⟨a, b, hL, h1, h2⟩ := match2 hm.2
  obtain ⟨q0, l0⟩ := ha a (by rw [hL]; simp) (tgt_101 h1)
  obtain ⟨q1, l1⟩ := ha b (by rw [hL]; simp) h2
  rw [ex_20 h, hL, tk0, tk1]
  have z0 := l0 11 no
  have z1 := l1 1 no
  unfold credenzaref07_raw_b
  simp only [re25_eq, h, hL, Int.reduceBEq, Bool.false_eq_true, if_false, if_true, getI0, getI1, getI2, Option.bind_some, one_eq, fk_self, q0, q1]
  rw [join3 (by simp; omega)]
  simp
theorem xr_21 (G : GoodX g n) (y : Node) (hd : 20 * deepN y + 7 ≤ n + 1) (h : y.Kind = 21) (ho : oneP y 101 = true) (hz : Sz y) (no : Bool) : credenzaref07_raw_b g y no = some ((tkN y).ex no, ()) := by
  obtain ⟨he, hm⟩ := one_101 ho
  have d1 := deepN_eq y
  have hzL := hz.kids
  have ha : ∀ k ∈ y.L, oneP k 101 = true → (∀ least no, g.credenzaref07_at k least no = some (atT (tkN k) least no, ())) ∧ ∀ least no, (atT (tkN k) least no).length ≤ 100000000 := fun k hk h1 => ⟨G.at_ k (by have := mem_deepL hk; omega) h1 (hzL.mem hk), len_at (hzL.mem hk)⟩
  rw [may_21 h, Bool.and_eq_true] at hm
  obtain ⟨a, b, hL, h1, h2⟩ := match2 hm.2
  obtain ⟨q0, l0⟩ := ha a (by rw [hL]; simp) h1
  obtain ⟨q1, l1⟩ := ha b (by rw [hL]; simp) h2
  rw [ex_21 h, hL, tk0, tk1]
  have z0 := l0 0 no
  have z1 := l1 1 no
  unfold credenzaref07_raw_b
  simp only [re25_eq, h, hL, Int.reduceBEq, Bool.false_eq_true, if_false, if_true, getI0, getI1, getI2, Option.bind_some, one_eq, fk_self, q0, q1]
  rw [join3 (by simp; omega)]
  simp
theorem x_raw (G : GoodX g n) (y : Node) (hd : 20 * deepN y + 7 ≤ n + 1) (ho : oneP y 101 = true) (hz : Sz y) (no : Bool) (_ : True) : credenzaref07_raw_b g y no = some ((tkN y).ex no, ()) := by
  rcases expr_kinds (one_101 ho).1 with h | h | h | h | h | h | h | h | h | h | h | h | h | h | h | h | h | h | h | h
  · exact xr_1 G y hd h ho hz no
  · exact xr_2 G y hd h ho hz no
  · exact xr_3 G y hd h ho hz no
  · exact xr_4 G y hd h ho hz no
  · exact xr_5 G y hd h ho hz no
  · exact xr_6 G y hd h ho hz no
  · exact xr_7 G y hd h ho hz no
  · exact xr_8 G y hd h ho hz no
  · exact xr_10 G y hd h ho hz no
  · exact xr_11 G y hd h ho hz no
  · exact xr_12 G y hd h ho hz no
  · exact xr_13 G y hd h ho hz no
  · exact xr_14 G y hd h ho hz no
  · exact xr_15 G y hd h ho hz no
  · exact xr_16 G y hd h ho hz no
  · exact xr_17 G y hd h ho hz no
  · exact xr_18 G y hd h ho hz no
  · exact xr_19 G y hd h ho hz no
  · exact xr_20 G y hd h ho hz no
  · exact xr_21 G y hd h ho hz no

end
end Go.D07.W


namespace Go.D07.W
open Go Go.Gw Go.Dn
set_option maxRecDepth 100000

theorem one120_s {k : Node} (h : oneP k 115 = true) : oneP k 120 = true := by
  have h2 := one_may h
  have h1 : stK k.Kind false = true := one_is h
  show (stK k.Kind true && mayN k) = true
  rw [h2, Bool.and_true]
  unfold stK at h1 ⊢
  simp only [Bool.and_eq_true] at h1 ⊢
  exact ⟨h1.1, by simp⟩
theorem one120_b {k : Node} (h : oneP k 98 = true) : oneP k 120 = true := by
  have h2 := one_may h
  have h1 : (k.Kind == 25) = true := one_is h
  show (stK k.Kind true && mayN k) = true
  rw [h2, Bool.and_true, eq_of_beq h1]; rfl
theorem begin_e {a : Node} (he : exprK a.Kind = true) (least : Int) (no : Bool) : beginT (tkN a) least no = atT (tkN a) least no := by
  unfold beginT
  rw [kids_x]
  rcases expr_kinds he with h | h | h | h | h | h | h | h | h | h | h | h | h | h | h | h | h | h | h | h <;> rw [h] <;> rfl
section
variable {g : Rec_credenzaref07_Stmts} {n : Nat}
structure Kx (g : Rec_credenzaref07_Stmts) (k : Node) : Prop where
  at_ : oneP k 101 = true → ∀ least no, g.credenzaref07_at k least no = some (atT (tkN k) least no, ())
  head : oneP k 101 = true → ∀ w, g.credenzaref07_head w k = some (headT w (tkN k), ())
  bare : oneP k 101 = true → g.credenzaref07_bare k = some (bareT (atT (tkN k) 0 false), ())
  st : oneP k 120 = true → g.credenzaref07_Stmt k = some ((tkN k).st, ())
  maybe : beginOK k = true → ∀ no, g.credenzaref07_maybe k no = some (beginT (tkN k) 0 no, ())
  sz : Sz k
theorem kx_of (G : GoodX g n) {y : Node} (hd : 20 * deepN y ≤ n) (hz : Sz y) {k : Node} (hk : k ∈ y.L) : Kx g k := by
  have d1 := deepN_eq y; have d2 := mem_deepL hk
  have hzk := hz.kids.mem hk
  exact ⟨fun h => G.at_ k (by omega) h hzk, fun h w => G.head w k (by omega) h hzk, fun h => G.bare k (by omega) h hzk, fun h => G.stmt k (by omega) h hzk, fun h no => G.maybe k no (by omega) h hzk, hzk⟩
theorem xs_35 (G : GoodX g n) (y : Node) (hd : 20 * deepN y + 13 ≤ n + 1) (h : y.Kind = 35) (hm : mayN y = true) (hz : Sz y) : credenzaref07_rest_b g y = some ((tkN y).st, ()) := by
  have hB := bulkN_eq y; have hZb := hz.bulk
  have K : ∀ k ∈ y.L, Kx g k := fun k hk => kx_of G (by omega) hz hk
  rw [may_35 h, Bool.and_eq_true] at hm
  obtain ⟨a, b, c, hL, h1, h2, h3, _⟩ := try_of hm.2
  have Ka := K a (by rw [hL]; simp); have Kb := K b (by rw [hL]; simp); have Kc := K c (by rw [hL]; simp)
  have la := len_st Ka.sz; have lb := len_st Kb.sz; have lc := len_st Kc.sz
  rw [st_35 h, hL, tk0, tk1, tk2, kids_x, kids_x]
  have hj : ∀ l : List Str, l.length ≤ 1000000000 → credenzaref07_rest_j1 g [a, b, c] l = some (l ++ (if (c.Kind == 25) = true then [102, 105, 110, 97, 108, 108, 121] :: (tkN c).st else []), ()) := by
    intro l hl
    unfold credenzaref07_rest_j1
    simp only [getI2, Option.bind_some, re25_eq, one_eq]
    rcases one_99 h3 with ⟨e, ho⟩ | e
    · rw [e]
      simp only [beq_self_eq_true, if_true, Kc.st (one120_b ho), Option.bind_some]
      rw [join3 (by simp; omega)]
      rfl
    · rw [e]
      show some (l, ()) = some (l ++ [], ())
      simp
  unfold credenzaref07_rest_b
  simp only [re25_eq, h, hL, Int.reduceBEq, Bool.false_eq_true, if_false, if_true, getI0, getI1, Option.bind_some, one_eq, fk_self, Ka.st (one120_b h1)]
  rw [join2 (by simp; omega)]
  simp only [Option.bind_some]
  rcases one_99 h2 with ⟨e, ho⟩ | e
  · rw [e]
    simp only [beq_self_eq_true, if_true, Kb.st (one120_b ho), Option.bind_some]
    rw [join3 (by simp; omega)]
    simp only [Option.bind_some]
    rw [hj _ (by simp; omega)]
    simp
  · rw [e]
    have e1 : ((42 : Int) == 25) = false := rfl
    simp only [e1, Bool.false_eq_true, if_false, List.nil_append]
    rw [hj _ (by simp; omega)]
    simp
theorem xs_36 (G : GoodX g n) (y : Node) (hd : 20 * deepN y + 13 ≤ n + 1) (h : y.Kind = 36) (hm : mayN y = true) (hz : Sz y) : credenzaref07_rest_b g y = some ((tkN y).st, ()) := by
  have hB := bulkN_eq y; have hZb := hz.bulk
  have d1 := deepN_eq y
  have hly := len_st hz
  have K : ∀ k ∈ y.L, Kx g k := fun k hk => kx_of G (by omega) hz hk
  rw [may_36 h, Bool.and_eq_true] at hm
  obtain ⟨a, r, hL, h1, h2⟩ := switch_of hm.2
  have hzL := hz.kids
  rw [hL] at hzL
  have hzr := hzL.tail
  have dr : deepL r ≤ deepL y.L := by rw [hL, deepL_cons]; omega
  have Ka := K a (by rw [hL]; simp)
  have lh := len_head Ka.sz [115, 119, 105, 116, 99, 104]
  have hc := cases_of h2
  have lr := len_bulkL r; have := hzr.bulk
  have hst : (tkN y).st = (headT [115, 119, 105, 116, 99, 104] (tkN a) ++ [[123]]) ++ ((r.flatMap fun c => (tkN c).st) ++ [[125]]) := by
    rw [st_36 h, hL, tk0, tkT]
    unfold stmtsT
    rw [tkL_map, List.flatMap_map]
    simp
  rw [hst] at hly ⊢
  unfold credenzaref07_rest_b
  simp only [re25_eq, h, hL, Int.reduceBEq, Bool.false_eq_true, if_false, if_true, getI0, Option.bind_some, one_eq, Ka.head h1, cut1]
  rw [join2 (by simp; omega)]
  simp only [Option.bind_some]
  refine cat_loop (credenzaref07_rest_l2 g) (fun i l => (r, ((r.length : Nat) : Int), i, l, ())) r (fun c => (tkN c).st) [[125]] (fun l => (l, ())) (by omega) (fun i k hk g1 g2 g3 l hl => ?_) (fun he l hl => ?_) _ (by simp only [List.length_append, List.length_cons, List.length_nil] at hly ⊢; omega)
  · have b1 := mem_deepL hk
    have b2 := deepN_eq k
    have hzk := hzr.mem hk
    have hk37 : k.Kind = 37 := eq_of_beq (show (k.Kind == 37) = true from one_is (hc k hk))
    have hmk := one_may (hc k hk)
    rw [may_37 hk37, Bool.and_eq_true] at hmk
    obtain ⟨x, q, hLk, h5, h6⟩ := match1M hmk.2
    have hzq : SzL q := by have := hzk.kids; rw [hLk] at this; exact this.tail
    have hzx : Sz x := hzk.kids.mem (by rw [hLk]; simp)
    have b3 : deepN x ≤ deepL k.L := mem_deepL (by rw [hLk]; simp)
    have b4 : deepL q ≤ deepL k.L := by rw [hLk, deepL_cons]; omega
    have S := G.stmts q (by omega) (fun p hp => one120_s (h6 p hp)) hzq
    have lq := len_stmts hzq
    have lx := len_at hzx 0 false
    have hs : (tkN k).st = (if (x.Kind != 42) = true then [99, 97, 115, 101] else [100, 101, 102, 97, 117, 108, 116]) :: (beginT (tkN x) 0 false ++ ([58] :: stmtsT (tkL q))) := by
      rw [st_37 hk37, hLk, tk0, tkT, kids_x]; simp
    rw [hs] at hl ⊢
    have h5 : (exprK x.Kind || x.Kind == 42) = true ∧ mayN x = true := ⟨one_is h5, one_may h5⟩
    rw [Bool.or_eq_true] at h5
    rcases h5.1 with e | e
    · have e42 : (x.Kind == 42) = false := by
        rcases expr_kinds e with h | h | h | h | h | h | h | h | h | h | h | h | h | h | h | h | h | h | h | h <;> rw [h] <;> rfl
      have en : (x.Kind != 42) = true := by unfold bne; rw [e42]; rfl
      have ho : oneP x 101 = true := by rw [one101, e, h5.2]; rfl
      rw [en, begin_e e] at hl ⊢
      simp only [if_true, List.length_cons, List.length_append] at hl
      simp only [credenzaref07_rest_l2, g2, if_true, g1, Option.bind_some, hLk, getI0, e42, Bool.false_eq_true, if_false, one_eq, re25_eq, G.at_ x (by omega) ho hzx]
      rw [join3 (by simp; omega)]
      simp only [Option.bind_some, cut1, S]
      rw [join3 (by simp; omega)]
      simp only [Option.bind_some, g3]
      simp
    · have en : (x.Kind != 42) = false := by unfold bne; rw [e]; rfl
      have hb : beginT (tkN x) 0 false = [] := by unfold beginT; rw [kids_x, e]; rfl
      rw [en, hb] at hl ⊢
      simp only [Bool.false_eq_true, if_false, List.length_cons, List.length_append, List.length_nil] at hl
      simp only [credenzaref07_rest_l2, g2, if_true, g1, Option.bind_some, hLk, getI0, e, one_eq]
      rw [room_ok (by simp; omega)]
      simp only [Option.bind_some, cut1, S]
      rw [join3 (by simp; omega)]
      simp only [Option.bind_some, g3]
      simp
  · simp only [credenzaref07_rest_l2, he, Bool.false_eq_true, if_false, one_eq, Option.bind_some]
    rw [join2 (by simpa using hl)]
    rfl
theorem x_rest (G : GoodX g n) (y : Node) (hd : 20 * deepN y + 13 ≤ n + 1) (hK : y.Kind = 31 ∨ y.Kind = 32 ∨ y.Kind = 33 ∨ y.Kind = 34 ∨ y.Kind = 35 ∨ y.Kind = 36 ∨ y.Kind = 38) (hm : mayN y = true) (hz : Sz y) : credenzaref07_rest_b g y = some ((tkN y).st, ()) := by
  have d1 := deepN_eq y
  have K : ∀ k ∈ y.L, Kx g k := fun k hk => kx_of G (by omega) hz hk
  have nilz : SzL [] := ⟨by simp [bulkL], by simp [wL], by simp [deepL]⟩
  rcases hK with h | h | h | h | h | h | h
  · rw [may_31 h, Bool.and_eq_true] at hm
    rw [st_31 h, match0 hm.2]
    unfold credenzaref07_rest_b wordT
    simp only [re25_eq, h, Int.reduceBEq, Bool.false_eq_true, if_false, if_true, Option.bind_some, G.word _ y.Name [] (by simp [deepL]; omega) (by simp) nilz]
  · rw [may_32 h, Bool.and_eq_true] at hm
    rw [st_32 h, match0 hm.2]
    unfold credenzaref07_rest_b wordT
    simp only [re25_eq, h, Int.reduceBEq, Bool.false_eq_true, if_false, if_true, Option.bind_some, G.word _ y.Name [] (by simp [deepL]; omega) (by simp) nilz]
  · rw [may_33 h, Bool.and_eq_true] at hm
    have hn : y.Name = [] := by simpa [rnamedP, h] using (own_parts hm.1).1
    have hk : ∀ k ∈ y.L, oneP k 101 = true := by
      rcases ret_of hm.2 with e | ⟨a, e, ha⟩ <;> rw [e]
      · simp
      · simpa using ha
    rw [st_33 h]
    unfold credenzaref07_rest_b wordT
    simp only [re25_eq, h, hn, Int.reduceBEq, Bool.false_eq_true, if_false, if_true, Option.bind_some, G.word _ [] y.L (by omega) hk hz.kids]
  · rw [may_34 h, Bool.and_eq_true] at hm
    have hn : y.Name = [] := by simpa [rnamedP, h] using (own_parts hm.1).1
    obtain ⟨a, e, ha⟩ := match1 hm.2
    have hk : ∀ k ∈ y.L, oneP k 101 = true := by rw [e]; simpa using ha
    rw [st_34 h]
    unfold credenzaref07_rest_b wordT
    simp only [re25_eq, h, hn, Int.reduceBEq, Bool.false_eq_true, if_false, if_true, Option.bind_some, G.word _ [] y.L (by omega) hk hz.kids]
  · exact xs_35 G y hd h hm hz
  · exact xs_36 G y hd h hm hz
  · rw [may_38 h, Bool.and_eq_true] at hm
    obtain ⟨a, hL, h1⟩ := match1 hm.2
    have Ka := K a (by rw [hL]; simp)
    have la := len_st Ka.sz
    rw [st_38 h, hL, tk0]
    unfold credenzaref07_rest_b
    simp only [re25_eq, h, hL, Int.reduceBEq, Bool.false_eq_true, if_false, if_true, getI0, Option.bind_some, fk_self, Ka.st (one120_s h1)]
    rw [join2 (by simp; omega)]
    rfl
theorem xs_29 (G : GoodX g n) (y : Node) (hd : 20 * deepN y + 14 ≤ n + 1) (h : y.Kind = 29) (hm : mayN y = true) (hz : Sz y) : credenzaref07_Stmt_b g y = some ((tkN y).st, ()) := by
  have K : ∀ k ∈ y.L, Kx g k := fun k hk => kx_of G (by omega) hz hk
  rw [may_29 h, Bool.and_eq_true] at hm
  obtain ⟨a, b, c, d, hL, h1, h2, h3, h4⟩ := match4 hm.2
  have Ka := K a (by rw [hL]; simp); have Kb := K b (by rw [hL]; simp); have Kc := K c (by rw [hL]; simp); have Kd := K d (by rw [hL]; simp)
  have la := len_beg Ka.sz 0 true; have lb := len_beg Kb.sz 0 false; have lc := len_beg Kc.sz 0 false; have ld := len_st Kd.sz
  rw [st_29 h, hL, tk0, tk1, tk2, tk3]
  unfold credenzaref07_Stmt_b
  simp only [re25_eq]
  rw [h]
  simp only [hL, Int.reduceBEq, Bool.false_eq_true, ↓reduceIte, getI0, getI1, getI2, getI3, Option.bind_some, one_eq, fk_self, Ka.maybe (begin_v h1), Kb.maybe (begin_f h2), Kc.maybe (begin_f h3), Kd.st (one120_b h4)]
  rw [join8 (by simp; omega)]
  simp
theorem xs_30 (G : GoodX g n) (y : Node) (hd : 20 * deepN y + 14 ≤ n + 1) (h : y.Kind = 30) (hm : mayN y = true) (hz : Sz y) : credenzaref07_Stmt_b g y = some ((tkN y).st, ()) := by
  have K : ∀ k ∈ y.L, Kx g k := fun k hk => kx_of G (by omega) hz hk
  rw [may_30 h, Bool.and_eq_true] at hm
  obtain ⟨a, b, c, hL, h1, h2, h3⟩ := match3 hm.2
  have Ka := K a (by rw [hL]; simp); have Kb := K b (by rw [hL]; simp); have Kc := K c (by rw [hL]; simp)
  have la := len_beg Ka.sz 11 true; have lb := len_at Kb.sz 0 false; have lc := len_st Kc.sz
  rw [st_30 h, hL, tk0, tk1, tk2]
  have hj : credenzaref07_Stmt_j1 g [a, b, c] (beginT (tkN a) 11 true) = some ([102, 111, 114] :: [40] :: (beginT (tkN a) 11 true ++ ([105, 110] :: (atT (tkN b) 0 false ++ ([41] :: (tkN c).st)))), ()) := by
    unfold credenzaref07_Stmt_j1
    simp only [re25_eq, getI1, getI2, Option.bind_some, one_eq, fk_self, Kb.at_ h2, Kc.st (one120_b h3)]
    rw [join6 (by simp; omega)]
    simp
  unfold credenzaref07_Stmt_b
  simp only [re25_eq]
  rw [h]
  simp only [hL, Int.reduceBEq, Bool.false_eq_true, ↓reduceIte, getI0, Option.bind_some, Ka.maybe (begin_w h1)]
  rcases begin_or (begin_w h1) with e | e | e
  · exfalso
    have h5 : (tgtK a.Kind || (a.Kind == 22 && (match a.L with | [d] => d.L.isEmpty | _ => false))) = true := one_is h1
    rw [e] at h5
    simp [tgtK] at h5
  · have en : (a.Kind != 22) = false := by rw [e]; rfl
    rw [en]
    simp only [Bool.false_eq_true, if_false]
    have hb : beginT (tkN a) 0 true = beginT (tkN a) 11 true := by unfold beginT; rw [kids_x, e]; rfl
    rw [hb]; exact hj
  · have he := (one_101 e).1
    have en : (a.Kind != 22) = true := by
      rcases expr_kinds he with h | h | h | h | h | h | h | h | h | h | h | h | h | h | h | h | h | h | h | h <;> rw [h] <;> rfl
    rw [en]
    simp only [if_true, Ka.at_ e, Option.bind_some]
    rw [begin_e he] at hj ⊢
    exact hj
theorem x_stmt (G : GoodX g n) (y : Node) (hd : 20 * deepN y + 14 ≤ n + 1) (ho : oneP y 120 = true) (hz : Sz y) : credenzaref07_Stmt_b g y = some ((tkN y).st, ()) := by
  have d1 := deepN_eq y
  have K : ∀ k ∈ y.L, Kx g k := fun k hk => kx_of G (by omega) hz hk
  obtain ⟨hm, hK⟩ := st_of (st_x ho)
  have hrest : (y.Kind = 31 ∨ y.Kind = 32 ∨ y.Kind = 33 ∨ y.Kind = 34 ∨ y.Kind = 35 ∨ y.Kind = 36 ∨ y.Kind = 38) → credenzaref07_Stmt_b g y = some ((tkN y).st, ()) := fun h => by
    have := G.rest y (by omega) h hm hz
    unfold credenzaref07_Stmt_b
    simp only [re25_eq]
    rcases h with h | h | h | h | h | h | h <;> rw [h] <;> simp only [Int.reduceBEq, Bool.false_eq_true, ↓reduceIte, this, Option.bind_some]
  rcases hK with h | h | h | h | h | h | h | h | h | h | h | h | h | h | h | h | h | h
  · rw [may_22 h, Bool.and_eq_true] at hm
    obtain ⟨d, l, hL, h1, h2⟩ := match1M hm.2
    have hk : ∀ k ∈ y.L, oneP k 100 = true := by
      rw [hL]; intro k hk
      rcases List.mem_cons.1 hk with rfl | hk
      · exact h1
      · exact h2 k hk
    have ld := len_decls hz.kids false
    rw [st_22 h]
    unfold credenzaref07_Stmt_b
    simp only [re25_eq]
    rw [h]
    simp only [Int.reduceBEq, ↓reduceIte, Option.bind_some, one_eq, G.vars y false (by omega) hk hz]
    rw [join2 (by simp only [List.length_cons, List.length_nil]; omega)]
    rfl
  · rw [may_24 h, Bool.and_eq_true] at hm
    obtain ⟨a, hL, h1⟩ := match1 hm.2
    have Ka := K a (by rw [hL]; simp)
    have la := len_st hz
    rw [st_24 h, hL, tk0] at la ⊢
    simp only [List.length_append, List.length_cons, List.length_nil] at la
    unfold credenzaref07_Stmt_b
    simp only [re25_eq]
    rw [h]
    simp only [hL, Int.reduceBEq, Bool.false_eq_true, ↓reduceIte, getI0, Option.bind_some, one_eq, Ka.bare h1]
    rw [join2 (by simp; omega)]
    rfl
  · rw [may_25 h, Bool.and_eq_true] at hm
    rw [st_25 h]
    unfold credenzaref07_Stmt_b
    simp only [re25_eq]
    rw [h]
    simp only [Int.reduceBEq, Bool.false_eq_true, ↓reduceIte, Option.bind_some, G.braces y.L (by omega) (fun k hk => one120_s (matchM hm.2 k hk)) hz.kids]
  · rw [may_26 h, Bool.and_eq_true] at hm
    rcases if_of hm.2 with ⟨a, b, hL, h1, h2⟩ | ⟨a, b, c, hL, h1, h2, h3⟩
    · have Ka := K a (by rw [hL]; simp); have Kb := K b (by rw [hL]; simp)
      have la := len_head Ka.sz [105, 102]; have lb := len_st Kb.sz
      rw [st_26 h, hL, tk0, tk1, tk2n]
      unfold credenzaref07_Stmt_b
      simp only [re25_eq]
      rw [h]
      simp only [hL, Int.reduceBEq, Bool.false_eq_true, ↓reduceIte, getI0, getI1, Option.bind_some, Ka.head h1, Kb.st (one120_b h2)]
      rw [join2 (by omega)]
      show some (headT [105, 102] (tkN a) ++ (tkN b).st, ()) = some (headT [105, 102] (tkN a) ++ ((tkN b).st ++ []), ())
      rw [List.append_nil]
    · have Ka := K a (by rw [hL]; simp); have Kb := K b (by rw [hL]; simp); have Kc := K c (by rw [hL]; simp)
      have la := len_head Ka.sz [105, 102]; have lb := len_st Kb.sz; have lc := len_st Kc.sz
      rw [st_26 h, hL, tk0, tk1, tk2]
      unfold credenzaref07_Stmt_b
      simp only [re25_eq]
      rw [h]
      simp only [hL, Int.reduceBEq, Bool.false_eq_true, ↓reduceIte, getI0, getI1, getI2, Option.bind_some, one_eq, Ka.head h1, Kb.st (one120_b h2), Kc.st (one120_b h3)]
      rw [join2 (by omega)]
      simp only [Option.bind_some]
      rw [if_pos (by rfl), join3 (by simp; omega)]
      simp
  · rw [may_27 h, Bool.and_eq_true] at hm
    obtain ⟨a, b, hL, h1, h2⟩ := match2 hm.2
    have Ka := K a (by rw [hL]; simp); have Kb := K b (by rw [hL]; simp)
    have la := len_head Ka.sz [119, 104, 105, 108, 101]; have lb := len_st Kb.sz
    rw [st_27 h, hL, tk0, tk1]
    unfold credenzaref07_Stmt_b
    simp only [re25_eq]
    rw [h]
    simp only [hL, Int.reduceBEq, Bool.false_eq_true, ↓reduceIte, getI0, getI1, Option.bind_some, Ka.head h1, Kb.st (one120_b h2)]
    rw [join2 (by omega)]
    rfl
  · rw [may_28 h, Bool.and_eq_true] at hm
    obtain ⟨a, b, hL, h1, h2⟩ := match2 hm.2
    have Ka := K a (by rw [hL]; simp); have Kb := K b (by rw [hL]; simp)
    have la := len_st Ka.sz; have lb := len_head Kb.sz [119, 104, 105, 108, 101]
    rw [st_28 h, hL, tk0, tk1]
    unfold credenzaref07_Stmt_b
    simp only [re25_eq]
    rw [h]
    simp only [hL, Int.reduceBEq, Bool.false_eq_true, ↓reduceIte, getI0, getI1, Option.bind_some, one_eq, Ka.st (one120_b h1), Kb.head h2]
    rw [join4 (by simp; omega)]
    rfl
  · exact xs_29 G y hd h hm hz
  · exact xs_30 G y hd h hm hz
  · exact hrest (by omega)
  · exact hrest (by omega)
  · exact hrest (by omega)
  · exact hrest (by omega)
  · exact hrest (by omega)
  · exact hrest (by omega)
  · exfalso
    have h1 : stK y.Kind true = true := one_is ho
    rw [h] at h1
    exact absurd h1 (by decide)
  · exact hrest (by omega)
  · rw [may_39 h, Bool.and_eq_true] at hm
    rw [st_39 h]
    unfold credenzaref07_Stmt_b
    simp only [re25_eq]
    rw [h]
    simp only [Int.reduceBEq, Bool.false_eq_true, ↓reduceIte, Option.bind_some, G.func y (by omega) (matchM hm.2) hz]
  · rw [may_40 h, Bool.and_eq_true] at hm
    have hn : y.Name = [] := by simpa [rnamedP, h] using (own_parts hm.1).1
    rw [st_40 h, match0 hm.2]
    unfold credenzaref07_Stmt_b wordT
    simp only [re25_eq]
    rw [h]
    simp only [hn, Int.reduceBEq, Bool.false_eq_true, ↓reduceIte, Option.bind_some, one_eq]
    simp [tkL]
end
theorem goodX_n : ∀ n : Nat, GoodX (Rec_credenzaref07_Stmts_g n) n
  | 0 => ⟨by intros; omega, by intros; omega, by intros; omega, by intros; omega, by intros; omega, by intros; omega, by intros; omega, by intros; omega, by intros; omega, by intros; omega, by intros; omega, by intros; omega, by intros; omega, by intros; omega⟩
  | n + 1 =>
    have G := goodX_n n
    ⟨x_at G, x_raw G, x_list G, x_props G, x_func G, x_braces G, x_vars G, x_maybe G, x_bare G, x_head G, x_stmt G, x_rest G, x_word G, x_stmts G⟩
theorem join_cons2 (a b : Str) (r : List Str) : Lib.join (a :: b :: r) [32] = a ++ ([32] ++ Lib.join (b :: r) [32]) := by
  simp [Lib.join, List.intercalate]
theorem join_app : ∀ (a b : List Str), a ≠ [] → b ≠ [] → Lib.join (a ++ b) [32] = Lib.join a [32] ++ ([32] ++ Lib.join b [32])
  | [], _, h, _ => absurd rfl h
  | [x], [], _, h => absurd rfl h
  | [x], y :: r, _, _ => by rw [List.singleton_append, join_cons2, Lib.join_one]
  | x :: y :: r, b, _, hb => by
    have ih := join_app (y :: r) b (by simp) hb
    rw [show (x :: y :: r) ++ b = x :: y :: (r ++ b) by simp, join_cons2, join_cons2]
    rw [show (y :: r) ++ b = y :: (r ++ b) by simp] at ih
    rw [ih]; simp
theorem join_le (a b : List Str) : (Lib.join a [32]).length ≤ (Lib.join (a ++ b) [32]).length := by
  by_cases h1 : a = []
  · subst h1; simp [Lib.join_nil]
  · by_cases h2 : b = []
    · subst h2; simp
    · rw [join_app a b h1 h2]; simp
theorem text_loop (ts : List Str) (hts : ts.length ≤ 1000000000) (hw : ∀ w ∈ ts, w.length ≤ 100000000) : Lp.loop credenzaref07_Text_l1 (([] : Str), ts, ((ts.length : Nat) : Int), 0, ()) = some (if 4096 < (Lib.join ts [32]).length then (([] : Str), 2, ()) else (Lib.join ts [32], 0, ())) := by
  have key : ∀ (r : List Str) (i : Nat), ts.drop i = r → i ≤ ts.length → (Lib.join (ts.take i) [32]).length ≤ 4096 →
      loopN credenzaref07_Text_l1 (r.length + 1) (Lib.join (ts.take i) [32], ts, ((ts.length : Nat) : Int), (i : Int), ()) = some (if 4096 < (Lib.join ts [32]).length then (([] : Str), 2, ()) else (Lib.join ts [32], 0, ())) := by
    intro r
    induction r with
    | nil =>
      intro i hr hi hl
      have : i = ts.length := by have := congrArg List.length hr; simp at this; omega
      subst this
      rw [List.take_length] at hl ⊢
      have hi : decide (((ts.length : Nat) : Int) < ((ts.length : Nat) : Int)) = false := by simp
      refine loopN_out ?_
      simp only [credenzaref07_Text_l1, hi, Bool.false_eq_true, if_false]
      rw [if_neg (by omega)]
    | cons w r ih =>
      intro i hr hi hl
      obtain ⟨h1, h2, h3⟩ := getI_drop hr
      have hg : ts[i]? = some w := by rw [getI_nat] at h1; exact h1
      have hwl := hw w (List.mem_of_mem_drop (hr ▸ List.mem_cons_self))
      have hi' : decide ((i : Int) < ((ts.length : Nat) : Int)) = true := by simp; omega
      have wi : IntKind.wrap .i64 ((i : Int) + 1) = ((i + 1 : Nat) : Int) := by rw [wrap_i64 (by omega) (by omega)]; rfl
      have hj : Lib.join (ts.take (i + 1)) [32] = if i = 0 then w else Lib.join (ts.take i) [32] ++ [32] ++ w := by
        rw [List.take_add_one, hg]
        by_cases h0 : i = 0
        · subst h0
          rw [if_pos rfl]
          simp [Lib.join_one]
        · rw [if_neg h0]
          have hne : ts.take i ≠ [] := fun e => by
            have := congrArg List.length e
            rw [List.length_take] at this
            simp only [List.length_nil] at this; omega
          rw [show (some w).toList = [w] from rfl, join_app _ _ hne (by simp), Lib.join_one]
          simp
      have htot : (Lib.join (ts.take (i + 1)) [32]).length ≤ (Lib.join ts [32]).length := by
        have := join_le (ts.take (i + 1)) (ts.drop (i + 1))
        rwa [List.take_append_drop] at this
      have hstep : credenzaref07_Text_l1 (Lib.join (ts.take i) [32], ts, ((ts.length : Nat) : Int), (i : Int), ()) = if 4096 < (Lib.join (ts.take (i + 1)) [32]).length then some (.inr (([] : Str), 2, ())) else some (.inl (Lib.join (ts.take (i + 1)) [32], ts, ((ts.length : Nat) : Int), ((i + 1 : Nat) : Int), ())) := by
        by_cases h0 : i = 0
        · have hp : decide ((i : Int) > 0) = false := by simp; omega
          rw [hj, if_pos h0]
          subst h0
          simp only [credenzaref07_Text_l1, hi', if_true, h1, Option.bind_some, hp, Bool.false_eq_true, if_false]
          rw [show Lib.join (ts.take 0) [32] = [] from rfl, catS_ok (by simp; omega)]
          simp only [Option.bind_some, List.nil_append, wi]
          by_cases hc : 4096 < w.length
          · rw [if_pos hc, if_pos (by simpa using by omega)]
          · rw [if_neg hc, if_neg (by simpa using by omega)]
        · have hp : decide ((i : Int) > 0) = true := by simp; omega
          rw [hj, if_neg h0]
          simp only [credenzaref07_Text_l1, hi', if_true, h1, Option.bind_some, hp]
          rw [catS_ok (by simp; omega)]
          simp only [Option.bind_some]
          rw [catS_ok (by simp; omega)]
          simp only [Option.bind_some, wi]
          by_cases hc : 4096 < (Lib.join (ts.take i) [32] ++ [32] ++ w).length
          · rw [if_pos hc, if_pos (by rw [decide_eq_true_eq]; omega)]
          · rw [if_neg hc, if_neg (by rw [decide_eq_true_eq]; omega)]
      by_cases hc : 4096 < (Lib.join (ts.take (i + 1)) [32]).length
      · rw [if_pos hc] at hstep
        rw [if_pos (by omega)]
        exact loopN_out hstep
      · rw [if_neg hc] at hstep
        rw [List.length_cons, loopN_go hstep]
        exact ih (i + 1) h2 (by omega) (by omega)
  exact loop_of (n := ts.length + 1) (by simpa [Lib.join_nil] using key ts 0 rfl (Nat.zero_le _) (by simp [Lib.join_nil])) (by omega)
theorem mem_wt {w : Str} : ∀ {l : List Str}, w ∈ l → w.length ≤ wt l
  | y :: r, h => by
    rw [wt_cons]
    rcases List.mem_cons.1 h with rfl | h
    · omega
    · have := mem_wt h; omega
theorem ref_Text_eq (x : Node) (ho : okN x) (hb : bulkN x ≤ 1048576) : credenzaref07_Text x = some ((textP x).1, (textP x).2, ()) := by
  unfold credenzaref07_Text textP
  simp only [re25_eq, ref_Check_eq x (by omega), Option.bind_some]
  cases hc : checkP x != 0 with
  | true => rfl
  | false =>
    have hc : checkP x = 0 := by simpa using hc
    obtain ⟨h1, h2, h3⟩ := check_ok hc
    have a1 := deepN_eq x; have a2 := bulkN_eq x
    obtain ⟨p1, p2⟩ := may_parts h2
    have w1 := few_stmts x.L
    have w2 := wL_bulk x.L (okN_parts ho).2 p2 (by omega)
    have w3 := wt_len (stmtsT (tkL x.L))
    have hk : ∀ k ∈ x.L, oneP k 120 = true := by
      have := h2
      rw [may_41 h1, Bool.and_eq_true] at this
      exact matchM this.2
    have hs : credenzaref07_Stmts x.L = some (stmtsT (tkL x.L), ()) := (goodX_n 1000000000000).stmts x.L (by omega) hk ⟨by omega, by omega, by omega⟩
    simp only [Bool.false_eq_true, if_false, hs, Option.bind_some]
    rw [text_loop _ (by omega) (fun w hw => by have := mem_wt hw; omega)]
    split <;> rfl
theorem law07_TreeTexts_true (a : Node) (ho : okN a) (hb : bulkN a ≤ 1048576) : credenzalaw07_TreeTexts a = some (true, ()) := by
  unfold credenzalaw07_TreeTexts
  simp only [live_true, Option.bind_some, re25_eq, tree_Text_eq a ho (by omega), ref_Text_eq a ho hb, beq_self_eq_true, Bool.and_self]
end Go.D07.W

