/- Chapter 6: what a line feed and another source behind a source change, plainly. -/
import Derived.Test.YtmbdlfemlbbjfaaDoorToken2
set_option linter.unusedVariables false
set_option linter.unusedSimpArgs false
set_option linter.unnecessarySimpa false
namespace Go.Gw
open Go.Proofs
set_option linter.unusedSimpArgs false

theorem prefix_ext : ∀ (p s b : Str), (10 : UInt8) ∉ p → p.isPrefixOf (s ++ 10 :: b) = p.isPrefixOf s
  | [], s, b, _ => by cases s <;> rfl
  | a :: p, [], b, h => by
    simp only [List.mem_cons, not_or] at h
    have : (a == (10 : UInt8)) = false := beq_eq_false_iff_ne.2 (fun e => h.1 e.symm)
    simp [List.isPrefixOf, this]
  | a :: p, c :: s, b, h => by
    simp only [List.mem_cons, not_or] at h
    simp only [List.cons_append, List.isPrefixOf, prefix_ext p s b h.2]
theorem rowK_ext (b : Str) : ∀ s : Str, rowK (s ++ 10 :: b) = rowK s
  | [] => by rw [List.nil_append, rowK_cons, if_neg (by decide)]; rfl
  | c :: s => by rw [List.cons_append, rowK_cons, rowK_cons, rowK_ext b s]
theorem endC_ext (b : Str) : ∀ (s : Str) (n : Nat), endC s = some n → endC (s ++ 10 :: b) = some n
  | [], n, h => by cases h
  | c :: s, n, h => by
    rw [List.cons_append, endC, ← List.cons_append, prefix_ext _ _ _ (by decide)]
    rw [endC] at h
    split at h
    · rename_i hp; rw [if_pos hp]; exact h
    · rename_i hp
      rw [if_neg hp]
      cases he : endC s with
      | none => rw [he] at h; cases h
      | some k => rw [he] at h; rw [endC_ext b s k he]; exact h
theorem blanksG_fuel : ∀ (m m' : Nat) (s : Str) (f : Bool), s.length < m → s.length < m' → blanksG m s f = blanksG m' s f
  | 0, _, s, f, h, _ => by omega
  | _ + 1, 0, s, f, _, h => by omega
  | m + 1, m' + 1, [], f, _, _ => rfl
  | m + 1, m' + 1, c :: r, f, h, h' => by
    simp only [List.length_cons] at h h'
    have e1 : ∀ f, blanksG m r f = blanksG m' r f := fun f => blanksG_fuel m m' r f (by omega) (by omega)
    have hd : ([47, 47] : Str).isPrefixOf (c :: r) = true → blanksG m ((c :: r).dropWhile (fun x => !isNl x)) f = blanksG m' ((c :: r).dropWhile (fun x => !isNl x)) f := by
      intro hp
      have hc : c = 47 := by
        simp only [List.isPrefixOf, Bool.and_eq_true, beq_iff_eq] at hp; exact hp.1.symm
      have hl := dropWhile_len (fun x => !isNl x) r
      have : (c :: r).dropWhile (fun x => !isNl x) = r.dropWhile (fun x => !isNl x) := by
        subst hc; rw [List.dropWhile_cons, if_pos (by decide)]
      rw [this]
      exact blanksG_fuel m m' _ f (by omega) (by omega)
    have e2 : ∀ n f, blanksG m ((c :: r).drop (n + 4)) f = blanksG m' ((c :: r).drop (n + 4)) f := by
      intro n f
      have : ((c :: r).drop (n + 4)).length ≤ r.length := by simp only [List.length_drop, List.length_cons]; omega
      exact blanksG_fuel m m' _ f (by omega) (by omega)
    unfold blanksG
    rw [e1, e1]
    split
    · rfl
    · split
      · rfl
      · split
        · rename_i hp; exact hd hp
        · split
          · split
            · rfl
            · exact e2 _ _
          · rfl
theorem blanksG_true : ∀ (m : Nat) (s : Str) (f : Bool), blanksG m s true = ((blanksG m s f).1, true, (blanksG m s f).2.2)
  | 0, s, f => rfl
  | m + 1, [], f => rfl
  | m + 1, c :: r, f => by
    unfold blanksG
    split
    · exact blanksG_true m r true
    · split
      · exact blanksG_true m r f
      · split
        · exact blanksG_true m _ f
        · split
          · split
            · rfl
            · rw [Bool.true_or]; exact blanksG_true m _ _
          · rfl
theorem blanksG_ext (b : Str) : ∀ (m : Nat) (s : Str) (f : Bool) (r : Str) (f' : Bool), s.length < m → blanksG m s f = (r, f', true) → ∀ M, (s ++ 10 :: b).length < M →
    (r ≠ [] → blanksG M (s ++ 10 :: b) f = (r ++ 10 :: b, f', true)) ∧ (r = [] → blanksG M (s ++ 10 :: b) f = blanksG (b.length + 1) b true)
  | 0, s, f, r, f', h, _ => by omega
  | m + 1, [], f, r, f', _, h => by
    intro M hM
    cases h
    refine ⟨fun e => absurd rfl e, fun _ => ?_⟩
    cases M with
    | zero => omega
    | succ M =>
      rw [List.nil_append, blanksG, if_pos (by decide)]
      simp only [List.nil_append, List.length_cons] at hM
      exact blanksG_fuel _ _ _ _ (by omega) (by omega)
  | m + 1, c :: s, f, r, f', hl, h => by
    intro M hM
    cases M with
    | zero => omega
    | succ M =>
      simp only [List.length_cons, List.cons_append] at hl hM
      have hs : (s ++ 10 :: b).length < M := by omega
      rw [List.cons_append]
      rw [blanksG] at h ⊢
      split at h
      · rename_i hn
        rw [if_pos hn]
        exact blanksG_ext b m s true r f' (by omega) h M hs
      · rename_i hn
        rw [if_neg hn]
        split at h
        · rename_i hb
          rw [if_pos hb]
          exact blanksG_ext b m s f r f' (by omega) h M hs
        · rename_i hb
          rw [if_neg hb, ← List.cons_append, prefix_ext _ _ _ (by decide), prefix_ext _ _ _ (by decide)]
          split at h
          · rename_i hp
            rw [if_pos hp]
            have hc : c = 47 := by
              simp only [List.isPrefixOf, Bool.and_eq_true, beq_iff_eq] at hp; exact hp.1.symm
            have hlen := dropWhile_len (fun x => !isNl x) s
            have e1 : (c :: s).dropWhile (fun x => !isNl x) = s.dropWhile (fun x => !isNl x) := by
              subst hc; rw [List.dropWhile_cons, if_pos (by decide)]
            rw [e1] at h
            have e2 : (c :: s ++ 10 :: b).dropWhile (fun x => !isNl x) = s.dropWhile (fun x => !isNl x) ++ 10 :: b := by
              rw [List.dropWhile_append, e1]
              have e3 : (10 :: b).dropWhile (fun x => !isNl x) = 10 :: b := by rw [List.dropWhile_cons, if_neg (by decide)]
              split
              · rename_i he
                rw [e3]
                have : s.dropWhile (fun x => !isNl x) = [] := by simpa using he
                rw [this]; rfl
              · rfl
            rw [e2]
            refine blanksG_ext b m _ f r f' (by omega) h M ?_
            simp only [List.length_append, List.length_cons] at hs ⊢; omega
          · rename_i hp
            rw [if_neg hp]
            split at h
            · rename_i hq
              rw [if_pos hq]
              split at h
              · cases h
              · rename_i n he
                have hle := endC_le _ _ he
                have hlen2 : 2 ≤ (c :: s).length := by
                  cases s with
                  | nil => simp at hle
                  | cons d s => simp
                have ed : (c :: s ++ 10 :: b).drop 2 = (c :: s).drop 2 ++ 10 :: b := List.drop_append_of_le_length hlen2
                simp only [List.length_drop] at hle
                rw [ed, endC_ext b _ n he]
                simp only
                have e4 : (c :: s ++ 10 :: b).drop (n + 4) = (c :: s).drop (n + 4) ++ 10 :: b := List.drop_append_of_le_length (by omega)
                have e5 : ((c :: s).drop 2 ++ 10 :: b).take n = ((c :: s).drop 2).take n := List.take_append_of_le_length (by simp only [List.length_drop]; omega)
                rw [e4, e5]
                have hlt : ((c :: s).drop (n + 4)).length ≤ s.length := by simp only [List.length_drop, List.length_cons]; omega
                refine blanksG_ext b m _ _ r f' (by omega) h M ?_
                simp only [List.length_append, List.length_cons] at hs ⊢; omega
            · rename_i hq
              rw [if_neg hq]
              cases h
              exact ⟨fun _ => rfl, fun e => by cases e⟩

/-! ### a token -/
theorem numS_ext (s b : Str) : numS (s ++ 10 :: b) = numS s := by
  unfold numS
  rw [rowK_ext]
  have hle := rowK_le s
  have e1 : (s ++ 10 :: b).take (rowK s) = s.take (rowK s) := List.take_append_of_le_length hle
  rw [e1]
  have e2 : ((s ++ 10 :: b)[rowK s]? = some 46) = (s[rowK s]? = some 46) := by
    by_cases h : rowK s < s.length
    · rw [List.getElem?_append_left h]
    · have h1 : rowK s = s.length := by omega
      rw [h1, List.getElem?_append_right (Nat.le_refl _)]
      simp
  simp only [e2]
theorem hexN_ext (t : Str) : ∀ (k : Nat) (s : Str) (a n : Nat), hexN k s a = some n → hexN k (s ++ t) a = some n
  | 0, s, a, n, h => h
  | k + 1, [], a, n, h => by cases h
  | k + 1, c :: s, a, n, h => by
    simp only [hexN, List.cons_append] at h ⊢
    split at h
    · cases h
    · rename_i d hd
      simp only [hexN_ext t k s _ n h]
theorem escS_ext (b : Str) (r : Str) (p : List Nat × Nat) (h : escS r = some p) : escS (r ++ 10 :: b) = some p := by
  cases r with
  | nil => cases h
  | cons c r =>
    rw [List.cons_append]
    unfold escS at h ⊢
    dsimp only at h ⊢
    split at h
    · rename_i hc; rw [if_pos hc]; exact h
    · rename_i hc
      rw [if_neg hc]
      split at h
      · rename_i h0
        rw [if_pos h0]
        cases r with
        | nil => rw [← h]; rfl
        | cons d r => exact h
      · rename_i h0
        rw [if_neg h0]
        split at h
        · rename_i hx
          rw [if_pos hx]
          cases he : hexN 2 r 0 with
          | none => rw [he] at h; cases h
          | some n => rw [he] at h; rw [hexN_ext _ 2 r 0 n he]; exact h
        · rename_i hx
          rw [if_neg hx]
          split at h
          · rename_i hu
            rw [if_pos hu]
            cases he : hexN 4 r 0 with
            | none => rw [he] at h; cases h
            | some n => rw [he] at h; rw [hexN_ext _ 4 r 0 n he]; exact h
          · rename_i hu
            rw [if_neg hu]; exact h
theorem readG_ext (q : UInt8) (b : Str) : ∀ (m : Nat) (r : Str) (acc us : List Nat) (k : Nat), readG q m r acc = some (us, k) → ∀ M, m ≤ M → readG q M (r ++ 10 :: b) acc = some (us, k + b.length + 1)
  | 0, _, _, _, _, h, _, _ => by cases h
  | m + 1, [], _, _, _, h, _, _ => by cases h
  | m + 1, c :: r, acc, us, k, h, M, hM => by
    cases M with
    | zero => omega
    | succ M =>
      rw [List.cons_append]
      rw [readG] at h ⊢
      split at h
      · rename_i hc
        rw [if_pos hc]
        cases h
        simp; omega
      · rename_i hc
        rw [if_neg hc]
        split at h
        · cases h
        · rename_i hb
          rw [if_neg hb]
          split at h
          · rename_i h92
            rw [if_pos h92]
            cases he : escS r with
            | none => rw [he] at h; cases h
            | some p =>
              obtain ⟨us', k'⟩ := p
              rw [he] at h
              rw [escS_ext b r _ he]
              simp only at h ⊢
              have hk := (escS_some he).2.2.2
              rw [List.drop_append_of_le_length hk]
              exact readG_ext q b m _ _ us k h M (by omega)
          · rename_i h92
            rw [if_neg h92]
            exact readG_ext q b m _ _ us k h M (by omega)
theorem readS_ext (s b : Str) {u : Str} {n e : Int} (h : readS s = (u, n, e)) (hn : n ≠ 0) : readS (s ++ 10 :: b) = (u, n, e) := by
  cases s with
  | nil => simp only [readS] at h; cases h; exact absurd rfl hn
  | cons q r =>
    rw [List.cons_append]
    rw [readS] at h ⊢
    split at h
    · rename_i hq
      rw [if_pos hq]
      cases hg : readG q (r.length + 1) r [] with
      | none => rw [hg] at h; cases h; exact absurd rfl hn
      | some p =>
        obtain ⟨us, k⟩ := p
        rw [hg] at h
        rw [readG_ext q b _ _ _ _ _ hg ((r ++ 10 :: b).length + 1) (by simp only [List.length_append]; omega)]
        have hk := readG_len q _ _ _ _ _ hg
        simp only [Prod.mk.injEq] at h ⊢
        obtain ⟨h1, h2, h3⟩ := h
        refine ⟨h1, ?_, h3⟩
        rw [← h2]
        simp only [List.length_cons, List.length_append]; omega
    · cases h; exact absurd rfl hn
theorem take_ten {s b : Str} {k : Nat} (h : s.length < k) : (10 : UInt8) ∈ (s ++ 10 :: b).take k := by
  rw [List.mem_iff_getElem?]
  refine ⟨s.length, ?_⟩
  rw [List.getElem?_take_of_lt h, List.getElem?_append_right (Nat.le_refl _)]; simp
theorem contains_no {L : List Str} (hL : ∀ w ∈ L, (10 : UInt8) ∉ w) {x : Str} (h : (10 : UInt8) ∈ x) : L.contains x = false := by
  rw [← Bool.not_eq_true, List.contains_iff_mem]
  intro hm; exact hL x hm h
theorem signS_ext (c : UInt8) (s b : Str) : signS ((c :: s) ++ 10 :: b) = signS (c :: s) := by
  unfold signS
  have e3 : (2 < ((c :: s) ++ 10 :: b).length ∧ tripL.contains (((c :: s) ++ 10 :: b).take 3) = true) = (2 < (c :: s).length ∧ tripL.contains ((c :: s).take 3) = true) := by
    by_cases h : 2 < (c :: s).length
    · rw [List.take_append_of_le_length (by omega)]
      have : 2 < ((c :: s) ++ 10 :: b).length := by simp only [List.length_append]; omega
      simp only [this, h, true_and]
    · rw [contains_no (L := tripL) (by decide) (take_ten (by omega))]
      rw [eq_iff_iff]
      exact ⟨fun e => (by cases e.2), fun e => absurd e.1 h⟩
  have e2 : (1 < ((c :: s) ++ 10 :: b).length ∧ doubL.contains (((c :: s) ++ 10 :: b).take 2) = true) = (1 < (c :: s).length ∧ doubL.contains ((c :: s).take 2) = true) := by
    by_cases h : 1 < (c :: s).length
    · rw [List.take_append_of_le_length (by omega)]
      have : 1 < ((c :: s) ++ 10 :: b).length := by simp only [List.length_append]; omega
      simp only [this, h, true_and]
    · rw [contains_no (L := doubL) (by decide) (take_ten (by omega))]
      rw [eq_iff_iff]
      exact ⟨fun e => (by cases e.2), fun e => absurd e.1 h⟩
  simp only [e3, e2]
  rfl
theorem oneS_ext (s b : Str) {t : Tok} {n : Nat} (h : oneS s = some (t, n)) : oneS (s ++ 10 :: b) = some (t, n) := by
  cases s with
  | nil => cases h
  | cons c s =>
    have hle := rowK_le (c :: s)
    have hr := rowK_ext b (c :: s)
    have hn := numS_ext (c :: s) b
    have hs := signS_ext c s b
    have ht : ((c :: s) ++ 10 :: b).take (rowK (c :: s)) = (c :: s).take (rowK (c :: s)) := List.take_append_of_le_length hle
    have hg := signS_le c s
    have ht2 : ((c :: s) ++ 10 :: b).take (signS (c :: s)) = (c :: s).take (signS (c :: s)) := List.take_append_of_le_length hg
    have hrd := fun (u : Str) (n e : Int) => readS_ext (c :: s) b (u := u) (n := n) (e := e)
    rw [List.cons_append] at hr hn hs ht ht2 hrd ⊢
    unfold oneS at h ⊢
    dsimp only at h ⊢
    simp only [hr, hn, hs, ht, ht2]
    split at h
    · rename_i hl; rw [if_pos hl]; exact h
    · rename_i hl
      rw [if_neg hl]
      split at h
      · rename_i hd; rw [if_pos hd]; exact h
      · rename_i hd
        rw [if_neg hd]
        split at h
        · rename_i hq
          rw [if_pos hq]
          generalize hx : readS (c :: s) = q at h
          obtain ⟨u, n', e⟩ := q
          simp only at h
          split at h
          · cases h
          · rename_i hne
            rw [hrd u n' e hx hne]
            simp only
            rw [if_neg hne]; exact h
        · rename_i hq
          rw [if_neg hq]; exact h

/-! ### the whole -/
theorem cutT_fuel : ∀ (m m' : Nat) (s : Str) (f : Bool), s.length < m → s.length < m' → cutT m s f = cutT m' s f
  | 0, _, s, f, h, _ => by omega
  | _ + 1, 0, s, f, _, h => by omega
  | m + 1, m' + 1, s, f, h, h' => by
    unfold cutT
    have hb := blanksG_len (s.length + 1) s f
    generalize hq : blanksG (s.length + 1) s f = q at hb
    obtain ⟨r, f', ok⟩ := q
    simp only at hb ⊢
    split
    · rfl
    · split
      · rfl
      · cases ho : oneS r with
        | none => rfl
        | some p =>
          obtain ⟨t, n⟩ := p
          have hl := oneS_len ho
          simp only
          rw [cutT_fuel m m' (r.drop n) false (by simp only [List.length_drop]; omega) (by simp only [List.length_drop]; omega)]
theorem cutT_same {m m' : Nat} {s s' : Str} {f f' : Bool} (h : s.length < m) (h' : s'.length < m') (he : blanksG (s.length + 1) s f = blanksG (s'.length + 1) s' f') : cutT m s f = cutT m' s' f' := by
  cases m with
  | zero => omega
  | succ m =>
    cases m' with
    | zero => omega
    | succ m' =>
      have hb := blanksG_len (s.length + 1) s f
      have hb' := blanksG_len (s'.length + 1) s' f'
      unfold cutT
      rw [he] at hb ⊢
      generalize hq : blanksG (s'.length + 1) s' f' = q at hb hb'
      obtain ⟨r, f2, ok⟩ := q
      simp only at hb hb' ⊢
      split
      · rfl
      · split
        · rfl
        · cases ho : oneS r with
          | none => rfl
          | some p =>
            obtain ⟨t, n⟩ := p
            have hl := oneS_len ho
            simp only
            rw [cutT_fuel m m' (r.drop n) false (by simp only [List.length_drop]; omega) (by simp only [List.length_drop]; omega)]
/-- what came out: the last one is the end, the others are none; their places rise -/
theorem cutT_rises : ∀ (m : Nat) (s : Str) (f : Bool) (l : List (Tok × Nat)), cutT m s f = .inl l →
    ∃ l0 f', l = l0 ++ [(tEnd f', 0)] ∧ (∀ p ∈ l0, 1 ≤ p.1.Kind ∧ p.1.Kind ≤ 5 ∧ 1 ≤ p.2 ∧ p.2 ≤ s.length) ∧ l0.Pairwise (fun p q => q.2 < p.2)
  | 0, _, _, _, h => by cases h
  | m + 1, s, f, l, h => by
    rw [cutT] at h
    have hb := blanksG_len (s.length + 1) s f
    generalize hq : blanksG (s.length + 1) s f = q at h hb
    obtain ⟨r, f', ok⟩ := q
    simp only at h hb
    split at h
    · cases h
    · split at h
      · cases h; exact ⟨[], f', rfl, by simp, List.Pairwise.nil⟩
      · split at h
        · cases h
        · rename_i hr t n ho
          have hl := oneS_len ho
          split at h
          · rename_i l' hc
            cases h
            obtain ⟨l0, f2, rfl, h1, h2⟩ := cutT_rises m _ _ _ hc
            refine ⟨(t.fresh f', r.length) :: l0, f2, rfl, ?_, ?_⟩
            · intro p hp
              rcases List.mem_cons.1 hp with rfl | hp
              · exact ⟨hl.2.2.1, hl.2.2.2.1, by simp only; omega, hb⟩
              · have := h1 p hp
                simp only [List.length_drop] at this
                exact ⟨this.1, this.2.1, this.2.2.1, by omega⟩
            · refine List.Pairwise.cons ?_ h2
              intro p hp
              have := (h1 p hp).2.2.2
              simp only [List.length_drop] at this ⊢
              omega
          · cases h
theorem cutT_true (m : Nat) (s : Str) (f : Bool) : cutT m s true = match cutT m s f with
    | .inl [] => .inl []
    | .inl ((t, k) :: l) => .inl ((t.fresh true, k) :: l)
    | .inr k => .inr k := by
  cases m with
  | zero => rfl
  | succ m =>
    unfold cutT
    rw [blanksG_true _ s f]
    generalize hq : blanksG (s.length + 1) s f = q
    obtain ⟨r, f', ok⟩ := q
    simp only
    split
    · rfl
    · split
      · rfl
      · cases ho : oneS r with
        | none => rfl
        | some p =>
          obtain ⟨t, n⟩ := p
          simp only
          cases cutT m (r.drop n) false with
          | inl l => rfl
          | inr k => rfl
theorem cutT_ext (b : Str) : ∀ (m : Nat) (s : Str) (f : Bool) (l : List (Tok × Nat)), s.length < m → cutT m s f = .inl l → ∀ M, (s ++ 10 :: b).length < M →
    cutT M (s ++ 10 :: b) f = match cutT (b.length + 1) b true with
      | .inl l2 => .inl (l.dropLast.map (fun p => (p.1, p.2 + (b.length + 1))) ++ l2)
      | .inr k => .inr k
  | 0, s, f, l, h, _ => by omega
  | m + 1, s, f, l, hm, h => by
    intro M hM
    have h0 := h
    rw [cutT] at h
    have hb := blanksG_len (s.length + 1) s f
    have hx := blanksG_ext b (s.length + 1) s f
    generalize hq : blanksG (s.length + 1) s f = q at h hb hx
    obtain ⟨r, f', ok⟩ := q
    simp only at h hb
    split at h
    · cases h
    · rename_i hok
      have hok' : ok = true := by simpa using hok
      subst hok'
      have hx := hx r f' (by omega) rfl ((s ++ 10 :: b).length + 1) (by omega)
      split at h
      · rename_i hr
        cases h
        have e := cutT_same hM (Nat.lt_succ_self b.length) (hx.2 hr)
        rw [e]
        cases cutT (b.length + 1) b true <;> rfl
      · rename_i hr
        have hx := hx.1 hr
        split at h
        · cases h
        · rename_i t n ho
          have hl := oneS_len ho
          split at h
          · rename_i l' hc
            cases h
            cases M with
            | zero => omega
            | succ M =>
              rw [cutT, hx]
              have hne : r ++ 10 :: b ≠ [] := by simp
              simp only [hne, if_false, Bool.true_eq_false, oneS_ext r b ho]
              rw [List.drop_append_of_le_length hl.2.1]
              have hd : (r.drop n).length < m := by simp only [List.length_drop]; omega
              rw [cutT_ext b m (r.drop n) false l' hd hc M (by simp only [List.length_append, List.length_cons, List.length_drop] at hM ⊢; omega)]
              obtain ⟨l0, f2, rfl, _, _⟩ := cutT_rises _ _ _ _ hc
              cases cutT (b.length + 1) b true with
              | inr k => rfl
              | inl l2 =>
                simp only [List.dropLast_concat, ← List.cons_append]
                simp [Nat.add_assoc]
          · cases h
end Go.Gw
