/- Chapter 6: the document's answer, piece by piece. -/
import Derived.Test.YtmbdlfemlbbjfaaGreatDoorToken7z
set_option linter.unusedVariables false
set_option linter.unusedSimpArgs false
set_option linter.unnecessarySimpa false
namespace Go.Gw
set_option linter.unusedSimpArgs false

theorem prefix_take : ∀ (w l : Str), w.isPrefixOf l = (l.take w.length == w)
  | [], l => by simp [List.isPrefixOf]
  | a :: w, [] => by simp [List.isPrefixOf]
  | a :: w, b :: l => by
    simp only [List.isPrefixOf, List.length_cons, List.take_succ_cons, prefix_take w l, List.cons_beq_cons]
    rw [BEq.comm (a := b)]
theorem prefix_long {w l : Str} (h : l.length < w.length) : w.isPrefixOf l = false := by
  rw [← Bool.not_eq_true, List.isPrefixOf_iff_prefix]
  intro hp; have := hp.length_le; omega
theorem begins_eq (s : Str) (p : Nat) (w : Str) (hp : p ≤ s.length) (hs : s.length ≤ 1000000000) (hw : w.length ≤ 1000000) : ref06_begins s (p : Int) w = some (w.isPrefixOf (s.drop p)) := by
  unfold ref06_begins ref06_begins.j1
  have e : IntKind.wrap .i64 ((p : Int) + ((w.length : Nat) : Int)) = ((p + w.length : Nat) : Int) := by rw [wrap_i64 (by omega) (by omega)]; omega
  rw [e]
  by_cases h : p + w.length ≤ s.length
  · have d : (((p + w.length : Nat) : Int) ≤ ((s.length : Nat) : Int)) := by omega
    simp only [d, decide_true, if_true, cutL_nat s p (p + w.length) (by omega) h, Option.bind_some]
    have : p + w.length - p = w.length := by omega
    rw [this, prefix_take]
  · have d : ¬ (((p + w.length : Nat) : Int) ≤ ((s.length : Nat) : Int)) := by omega
    simp only [d, decide_false, Bool.false_eq_true, if_false]
    rw [prefix_long (by simp only [List.length_drop]; omega)]
theorem drop_get {s : Str} {p : Nat} {c : UInt8} {r : Str} (h : s.drop p = c :: r) : s[p]? = some c ∧ s.drop (p + 1) = r ∧ p < s.length := by
  have hlt : p < s.length := by
    rcases Nat.lt_or_ge p s.length with h' | h'
    · exact h'
    · rw [List.drop_eq_nil_of_le h'] at h; cases h
  rw [List.drop_eq_getElem_cons hlt] at h
  cases h
  exact ⟨List.getElem?_eq_getElem hlt, rfl, hlt⟩
theorem drop_nil {s : Str} {p : Nat} (h : s.drop p = []) (hp : p ≤ s.length) : p = s.length := by
  have := congrArg List.length h
  simp only [List.length_drop, List.length_nil] at this; omega
theorem ref_l4 (s : Str) (hs : s.length ≤ 1000000000) : ∀ (t : Str) (p : Nat), s.drop p = t → p ≤ s.length → loopM (ref06_blanks.l4 s) (p : Int) = some ((s.length - (t.dropWhile (fun x => !isNl x)).length : Nat) : Int)
  | [], p, ht, hp => by
    have e := drop_nil ht hp
    refine loopM_out ?_
    unfold ref06_blanks.l4 ref06_blanks.j8
    simp only [e, Int.lt_irrefl, decide_false, Bool.false_eq_true, if_false, List.dropWhile_nil, List.length_nil, Nat.sub_zero]
  | c :: r, p, ht, hp => by
    obtain ⟨h1, h2, h3⟩ := drop_get ht
    have hlen : (c :: r).length = s.length - p := by rw [← ht]; simp
    have b10 : ((((c.toNat : Nat) : Int)) == 10) = decide (c = 10) := byte_beq c 10 (by omega)
    have b13 : ((((c.toNat : Nat) : Int)) == 13) = decide (c = 13) := byte_beq c 13 (by omega)
    have hnl : isNl c = (decide (c = 10) || decide (c = 13)) := by
      unfold isNl; simp [List.contains_cons, beq_dec]
    have hst : ref06_blanks.l4 s (p : Int) = if isNl c = true then some (.inr (p : Int)) else some (.inl ((p + 1 : Nat) : Int)) := by
      unfold ref06_blanks.l4 ref06_blanks.j8
      have d : ((p : Int) < ((s.length : Nat) : Int)) := by omega
      simp only [d, decide_true, if_true, getB_at s p c h1, Option.bind_some, bne, b10, b13, hnl, wrap_succ (show p < 1000000000000 by omega)]
      cases decide (c = 10) <;> cases decide (c = 13) <;> rfl
    rw [List.dropWhile_cons]
    cases hn : isNl c with
    | true =>
      rw [hn] at hst
      rw [loopM_out hst]
      simp only [Bool.not_true, Bool.false_eq_true, if_false]
      rw [hlen]
      have : s.length - (s.length - p) = p := by omega
      rw [this]
    | false =>
      rw [hn] at hst
      rw [loopM_go hst]
      simp only [Bool.not_false, if_true]
      exact ref_l4 s hs r (p + 1) h2 (by omega)
theorem ref_l5 (s : Str) (hs : s.length ≤ 1000000000) : ∀ (t : Str) (p : Nat) (g : Bool), s.drop p = t → p ≤ s.length → ∃ g', loopM (ref06_blanks.l5 s) ((p : Int), g) = some (match endC t with
    | some n => (((p + n : Nat) : Int), g || (t.take n).any isNl)
    | none => (((s.length : Nat) : Int), g'))
  | [], p, g, ht, hp => by
    have e := drop_nil ht hp
    refine ⟨g, loopM_out ?_⟩
    unfold ref06_blanks.l5 ref06_blanks.j11
    simp only [e, Int.lt_irrefl, decide_false, Bool.false_eq_true, if_false, endC]
  | c :: r, p, g, ht, hp => by
    obtain ⟨h1, h2, h3⟩ := drop_get ht
    have d : ((p : Int) < ((s.length : Nat) : Int)) := by omega
    have hb := begins_eq s p [42, 47] hp hs (by decide)
    rw [ht] at hb
    have b10 : ((((c.toNat : Nat) : Int)) == 10) = decide (c = 10) := byte_beq c 10 (by omega)
    have b13 : ((((c.toNat : Nat) : Int)) == 13) = decide (c = 13) := byte_beq c 13 (by omega)
    have hnl : isNl c = (decide (c = 10) || decide (c = 13)) := by
      unfold isNl; simp [List.contains_cons, beq_dec]
    cases hpr : ([42, 47] : Str).isPrefixOf (c :: r) with
    | true =>
      refine ⟨g, ?_⟩
      rw [endC, if_pos hpr]
      refine loopM_out ?_
      unfold ref06_blanks.l5 ref06_blanks.j11
      simp only [d, decide_true, if_true, hb, hpr, Option.bind_some, Bool.not_true, Bool.false_eq_true, if_false, Nat.add_zero, List.take_zero, List.any_nil, Bool.or_false]
    | false =>
      have hst : ref06_blanks.l5 s ((p : Int), g) = some (.inl (((p + 1 : Nat) : Int), g || isNl c)) := by
        unfold ref06_blanks.l5 ref06_blanks.j11 ref06_blanks.j12
        simp only [d, decide_true, if_true, hb, hpr, Option.bind_some, Bool.not_false, getB_at s p c h1, b10, b13, hnl, wrap_succ (show p < 1000000000000 by omega)]
        cases g <;> cases decide (c = 10) <;> cases decide (c = 13) <;> rfl
      obtain ⟨g', ih⟩ := ref_l5 s hs r (p + 1) (g || isNl c) h2 (by omega)
      refine ⟨g', (loopM_go hst).trans ?_⟩
      rw [ih, endC, if_neg (by rw [hpr]; simp)]
      cases endC r with
      | none => rfl
      | some n =>
        simp only [Option.map_some, List.take_succ_cons, List.any_cons, Bool.or_assoc]
        have : p + 1 + n = p + (n + 1) := by omega
        rw [this]
def outR (s : Str) (p : Str × Bool × Bool) : (Int × Bool) ⊕ (Int × Bool × Bool) :=
  if p.2.2 = true then (if p.1 = [] then .inl (((s.length - p.1.length : Nat) : Int), p.2.1) else .inr (((s.length - p.1.length : Nat) : Int), p.2.1, true)) else .inr (((s.length - p.1.length : Nat) : Int), false, false)
theorem ref_blanks_loop (s : Str) (hs : s.length ≤ 1000000000) : ∀ (m : Nat) (t : Str) (p : Nat) (f : Bool), s.drop p = t → p ≤ s.length → t.length < m → loopM (ref06_blanks.l1 s) ((p : Int), f) = some (outR s (blanksG m t f))
  | 0, t, p, f, _, _, h => by omega
  | m + 1, [], p, f, ht, hp, _ => by
    have e := drop_nil ht hp
    refine loopM_out ?_
    unfold ref06_blanks.l1
    simp only [e, Int.lt_irrefl, decide_false, Bool.false_eq_true, if_false]
    rfl
  | m + 1, c :: r, p, f, ht, hp, hm => by
    obtain ⟨h1, h2, h3⟩ := drop_get ht
    have hlen : (c :: r).length = s.length - p := by rw [← ht]; simp
    simp only [List.length_cons] at hm hlen
    have d : ((p : Int) < ((s.length : Nat) : Int)) := by omega
    have hb1 := begins_eq s p [47, 47] hp hs (by decide)
    have hb2 := begins_eq s p [47, 42] hp hs (by decide)
    rw [ht] at hb1 hb2
    have b10 : ((((c.toNat : Nat) : Int)) == 10) = decide (c = 10) := byte_beq c 10 (by omega)
    have b13 : ((((c.toNat : Nat) : Int)) == 13) = decide (c = 13) := byte_beq c 13 (by omega)
    have b9 : ((((c.toNat : Nat) : Int)) == 9) = decide (c = 9) := byte_beq c 9 (by omega)
    have b11 : ((((c.toNat : Nat) : Int)) == 11) = decide (c = 11) := byte_beq c 11 (by omega)
    have b12 : ((((c.toNat : Nat) : Int)) == 12) = decide (c = 12) := byte_beq c 12 (by omega)
    have b32 : ((((c.toNat : Nat) : Int)) == 32) = decide (c = 32) := byte_beq c 32 (by omega)
    have hnl : isNl c = (decide (c = 10) || decide (c = 13)) := by
      unfold isNl; simp [List.contains_cons, beq_dec]
    have hws : (decide (c = 9) || decide (c = 11) || decide (c = 12) || decide (c = 32)) = decide (c = 32 ∨ c = 9 ∨ c = 11 ∨ c = 12) := by
      by_cases e1 : c = 9 <;> by_cases e2 : c = 11 <;> by_cases e3 : c = 12 <;> by_cases e4 : c = 32 <;> simp [e1, e2, e3, e4]
    rw [blanksG]
    by_cases g1 : isNl c = true
    · have hst : ref06_blanks.l1 s ((p : Int), f) = some (.inl (((p + 1 : Nat) : Int), true)) := by
        unfold ref06_blanks.l1
        simp only [d, decide_true, if_true, getB_at s p c h1, Option.bind_some, b10, b13, ← hnl, g1, wrap_succ (show p < 1000000000000 by omega)]
      rw [if_pos g1, loopM_go hst]
      exact ref_blanks_loop s hs m r (p + 1) true h2 (by omega) (by omega)
    · have g1' : isNl c = false := by simpa using g1
      rw [if_neg g1]
      by_cases g2 : c = 32 ∨ c = 9 ∨ c = 11 ∨ c = 12
      · have hst : ref06_blanks.l1 s ((p : Int), f) = some (.inl (((p + 1 : Nat) : Int), f)) := by
          unfold ref06_blanks.l1
          simp only [d, decide_true, if_true, getB_at s p c h1, Option.bind_some, b10, b13, ← hnl, g1', Bool.false_eq_true, if_false, b9, b11, b12, b32, hws, g2, wrap_succ (show p < 1000000000000 by omega)]
        rw [if_pos g2, loopM_go hst]
        exact ref_blanks_loop s hs m r (p + 1) f h2 (by omega) (by omega)
      · rw [if_neg g2]
        have common : ref06_blanks.l1 s ((p : Int), f) = Option.bind (ref06_begins s (p : Int) ([47, 47] : Str)) fun v32 =>
            if v32 = true then Option.bind (loopM (ref06_blanks.l4 s) (p : Int)) fun e => some (.inl (e, f))
            else Option.bind (ref06_begins s (p : Int) ([47, 42] : Str)) fun v42 =>
              if v42 = true then Option.bind (loopM (ref06_blanks.l5 s) (((p + 2 : Nat) : Int), false)) fun e => match e with
                | (x57, x58) => if (decide (x57 ≥ ((s.length : Nat) : Int))) = true then some (.inr (.inr ((p : Int), false, false))) else some (.inl ((IntKind.wrap .i64 (x57 + 2)), (f || x58)))
              else some (.inr (.inr ((p : Int), f, true))) := by
          have w2 : IntKind.wrap .i64 ((p : Int) + 2) = ((p + 2 : Nat) : Int) := by rw [wrap_i64 (by omega) (by omega)]; omega
          unfold ref06_blanks.l1
          simp only [d, decide_true, if_true, getB_at s p c h1, Option.bind_some, b10, b13, ← hnl, g1', Bool.false_eq_true, if_false, b9, b11, b12, b32, hws, g2, w2, decide_false]
        by_cases g3 : ([47, 47] : Str).isPrefixOf (c :: r) = true
        · rw [if_pos g3]
          have hst : ref06_blanks.l1 s ((p : Int), f) = some (.inl (((s.length - ((c :: r).dropWhile (fun x => !isNl x)).length : Nat) : Int), f)) := by
            rw [common, hb1, g3]
            simp only [Option.bind_some, if_true, ref_l4 s hs (c :: r) p ht hp]
          have hc : c = 47 := by
            simp only [List.isPrefixOf, Bool.and_eq_true, beq_iff_eq] at g3; exact g3.1.symm
          have hdw : (c :: r).dropWhile (fun x => !isNl x) = r.dropWhile (fun x => !isNl x) := by
            rw [List.dropWhile_cons, if_pos (by simp [g1'])]
          have hl := dropWhile_len (fun x => !isNl x) r
          rw [hdw] at hst ⊢
          rw [loopM_go hst]
          refine ref_blanks_loop s hs m _ _ f ?_ (by omega) (by omega)
          have hsuf : r.dropWhile (fun x => !isNl x) = r.drop (r.length - (r.dropWhile (fun x => !isNl x)).length) := List.suffix_iff_eq_drop.1 (List.dropWhile_suffix _)
          rw [hsuf, ← h2, List.drop_drop]
          congr 1
          simp only [List.length_drop]
          omega
        · have g3' : ([47, 47] : Str).isPrefixOf (c :: r) = false := by rw [← Bool.not_eq_true]; exact g3
          rw [if_neg g3]
          by_cases g4 : ([47, 42] : Str).isPrefixOf (c :: r) = true
          · rw [if_pos g4]
            have hlen2 : 1 ≤ r.length := by
              cases r with
              | nil => simp [List.isPrefixOf] at g4
              | cons d r => simp
            have hd2 : s.drop (p + 2) = (c :: r).drop 2 := by rw [← ht, List.drop_drop]
            obtain ⟨g', hl5⟩ := ref_l5 s hs _ (p + 2) false hd2 (by omega)
            cases he : endC ((c :: r).drop 2) with
            | none =>
              rw [he] at hl5
              refine loopM_out ?_
              rw [common, hb1, g3', hb2, g4]
              simp only [Option.bind_some, Bool.false_eq_true, if_false, if_true, hl5, Int.le_refl, ge_iff_le, decide_true]
              unfold outR
              simp only [Bool.false_eq_true, if_false, List.length_cons]
              have : s.length - (r.length + 1) = p := by omega
              rw [this]
            | some n =>
              rw [he] at hl5
              have hle := endC_le _ _ he
              simp only [List.length_drop, List.length_cons] at hle
              have hst : ref06_blanks.l1 s ((p : Int), f) = some (.inl (((p + 2 + n + 2 : Nat) : Int), f || (((c :: r).drop 2).take n).any isNl)) := by
                rw [common, hb1, g3', hb2, g4]
                have d3 : ¬ (((p + 2 + n : Nat) : Int) ≥ ((s.length : Nat) : Int)) := by omega
                have w3 : IntKind.wrap .i64 (((p + 2 + n : Nat) : Int) + 2) = ((p + 2 + n + 2 : Nat) : Int) := by rw [wrap_i64 (by omega) (by omega)]; omega
                simp only [Option.bind_some, Bool.false_eq_true, if_false, if_true, hl5, d3, decide_false, w3, Bool.false_or]
              rw [loopM_go hst]
              refine ref_blanks_loop s hs m _ _ _ ?_ (by omega) (by simp only [List.length_drop, List.length_cons]; omega)
              rw [← ht, List.drop_drop]
              congr 1
              omega
          · have g4' : ([47, 42] : Str).isPrefixOf (c :: r) = false := by rw [← Bool.not_eq_true]; exact g4
            rw [if_neg g4]
            refine loopM_out ?_
            rw [common, hb1, g3', hb2, g4']
            simp only [Option.bind_some, Bool.false_eq_true, if_false]
            unfold outR
            simp only [if_true, List.length_cons, reduceCtorEq, if_false]
            have : s.length - (r.length + 1) = p := by omega
            rw [this]
theorem ref06_blanks_eq (s : Str) (p : Nat) (hp : p ≤ s.length) (hs : s.length ≤ 1000000000) : ref06_blanks s (p : Int) = some (match blanksG ((s.drop p).length + 1) (s.drop p) false with
    | (r, f, true) => (((s.length - r.length : Nat) : Int), f, true)
    | (r, _, false) => (((s.length - r.length : Nat) : Int), false, false)) := by
  unfold ref06_blanks
  rw [ref_blanks_loop s hs ((s.drop p).length + 1) (s.drop p) p false rfl hp (by omega), Option.bind_some]
  generalize blanksG ((s.drop p).length + 1) (s.drop p) false = q
  obtain ⟨r, f, ok⟩ := q
  cases ok
  · rfl
  · cases r <;> rfl

/-! ### numbers -/
theorem value_fin : ∀ b : Fin 256, ref06_value ((b.val : Nat) : Int) = some (match hexV (UInt8.ofNat b.val) with | some d => (d : Int) | none => -1) := by decide +kernel
theorem ref06_value_eq (c : UInt8) : ref06_value ((c.toNat : Nat) : Int) = some (match hexV c with | some d => (d : Int) | none => -1) := by
  have := value_fin ⟨c.toNat, c.toNat_lt⟩; rwa [ofN] at this
theorem hexV_ld_fin : ∀ b : Fin 256, (hexV (UInt8.ofNat b.val)).isSome = true → isLD (UInt8.ofNat b.val) = true := by decide +kernel
theorem hexV_ld {c : UInt8} {d : Nat} (h : hexV c = some d) : isLD c = true := by
  have := hexV_ld_fin ⟨c.toNat, c.toNat_lt⟩; rw [ofN, h] at this; exact this rfl
/-- what the number's end makes of it -/
def fin6 (s : Str) (at_ : Nat) (e : (Int × Int) ⊕ (Int × Int)) : Option (Int × Int) := match e with
  | .inl (x32, x33) =>
    if (decide (x33 < ((s.length : Nat) : Int))) = true then
      Option.bind (getB s x33) fun v35 => Option.bind (ref06_letter v35) fun v36 =>
      if v36 = true then ref06_number.j7 (at_ : Int) x32 x33 true
      else Option.bind (getB s x33) fun v37 => Option.bind (ref06_digit v37) fun v38 =>
        if v38 = true then ref06_number.j7 (at_ : Int) x32 x33 true else Option.bind (getB s x33) fun v39 => ref06_number.j7 (at_ : Int) x32 x33 (v39 == 46)
    else ref06_number.j7 (at_ : Int) x32 x33 false
  | .inr r34 => some r34
theorem number_j2 (s : Str) (at_ : Nat) (x8 x9 : Int) : ref06_number.j2 s (at_ : Int) x8 x9 = Option.bind (loopM (ref06_number.l1 s (at_ : Int) x8) (0, x9)) (fin6 s at_) := by
  unfold ref06_number.j2 fin6; rfl
theorem fin6_end (s : Str) (at_ q : Nat) (n : Int) (hq : q = s.length) (ha : at_ ≤ q) (hs : s.length ≤ 1000000000) : fin6 s at_ (.inl (n, (q : Int))) = some (n, ((q - at_ : Nat) : Int)) := by
  unfold fin6 ref06_number.j7
  have c : ¬ ((q : Int) < ((s.length : Nat) : Int)) := by omega
  simp only [c, decide_false, Bool.false_eq_true, if_false, wrap_sub ha (show q ≤ 1000000000000 by omega)]
theorem fin6_at (s : Str) (at_ q : Nat) (n : Int) (c : UInt8) (hq : s[q]? = some c) (ha : at_ ≤ q) (hs : s.length ≤ 1000000000) : fin6 s at_ (.inl (n, (q : Int))) = if isLD c = true ∨ c = 46 then some (0, 0) else some (n, ((q - at_ : Nat) : Int)) := by
  have hlt : q < s.length := (List.getElem?_eq_some_iff.1 hq).1
  unfold fin6 ref06_number.j7
  have d : ((q : Int) < ((s.length : Nat) : Int)) := by omega
  have b46 : ((((c.toNat : Nat) : Int)) == 46) = decide (c = 46) := byte_beq c 46 (by omega)
  simp only [d, decide_true, if_true, getB_at s q c hq, Option.bind_some, ref06_letter_eq, ref06_digit_eq, b46, wrap_sub ha (show q ≤ 1000000000000 by omega)]
  unfold isLD
  cases isLet c <;> cases isDig c <;> by_cases h46 : c = 46 <;> simp [h46]
/-- what the digits from a place on come to -/
def ansN (t : Str) (o a to_ at_ : Nat) : Int × Int :=
  if t[rowK t]? = some 46 then (0, 0)
  else match parsN o (t.take (rowK t)) a with
    | none => (0, 0)
    | some n => if n ≤ 9007199254740991 then ((n : Int), ((to_ + rowK t - at_ : Nat) : Int)) else (0, 0)
theorem ref_number_loop (s : Str) (hs : s.length ≤ 1000000000) (at_ o : Nat) (ho : o = 10 ∨ o = 16) (h48 : o = 10 → s[at_]? ≠ some 48) (ha0 : at_ < s.length) : ∀ (t : Str) (q a : Nat), s.drop q = t → q ≤ s.length → at_ ≤ q → a ≤ 9007199254740991 →
    Option.bind (loopM (ref06_number.l1 s (at_ : Int) (o : Int)) ((a : Int), (q : Int))) (fin6 s at_) = some (ansN t o a q at_)
  | [], q, a, ht, hq, haq, ha => by
    have e := drop_nil ht hq
    have hst : ref06_number.l1 s (at_ : Int) (o : Int) ((a : Int), (q : Int)) = some (.inr (.inl ((a : Int), (q : Int)))) := by
      unfold ref06_number.l1 ref06_number.j5
      have c : ¬ ((q : Int) < ((s.length : Nat) : Int)) := by omega
      simp only [c, decide_false, Bool.false_eq_true, if_false]
    rw [loopM_out hst, Option.bind_some, fin6_end s at_ q _ e haq hs]
    unfold ansN
    have hr : rowK ([] : Str) = 0 := rfl
    simp [hr, parsN, ha]
  | c :: r, q, a, ht, hq, haq, ha => by
    obtain ⟨h1, h2, h3⟩ := drop_get ht
    have d : ((q : Int) < ((s.length : Nat) : Int)) := by omega
    have stop : (∀ dv, hexV c = some dv → ¬ dv < o) → Option.bind (loopM (ref06_number.l1 s (at_ : Int) (o : Int)) ((a : Int), (q : Int))) (fin6 s at_) = some (ansN (c :: r) o a q at_) := by
      intro hno
      have hst : ref06_number.l1 s (at_ : Int) (o : Int) ((a : Int), (q : Int)) = some (.inr (.inl ((a : Int), (q : Int)))) := by
        unfold ref06_number.l1 ref06_number.j5
        simp only [d, decide_true, if_true, getB_at s q c h1, Option.bind_some, ref06_value_eq]
        cases hv : hexV c with
        | none =>
          have : ¬ ((-1 : Int) ≥ 0) := by omega
          simp only [this, decide_false, Bool.false_eq_true, if_false]
        | some dv =>
          have e1 : ((dv : Int) ≥ 0) := by omega
          have e2 : ¬ ((dv : Int) < (o : Int)) := by have := hno dv hv; omega
          simp only [e1, e2, decide_true, decide_false, if_true, Bool.false_eq_true, if_false]
      rw [loopM_out hst, Option.bind_some, fin6_at s at_ q _ c h1 haq hs]
      unfold ansN
      rw [rowK_cons]
      cases hld : isLD c with
      | true =>
        simp only [true_or, if_true, List.take_succ_cons, List.getElem?_cons_succ]
        have hp : parsN o (c :: r.take (rowK r)) a = none := by
          unfold parsN
          cases hv : hexV c with
          | none => rfl
          | some dv => simp only [hno dv hv, if_false]
        rw [hp]
        split <;> rfl
      | false =>
        simp only [Bool.false_eq_true, false_or, if_false, List.getElem?_cons_zero, Option.some.injEq, List.take_zero, parsN, ha, if_true, Nat.add_zero]
        split <;> rfl
    cases hv : hexV c with
    | none => exact stop (fun dv h => by rw [hv] at h; cases h)
    | some dv =>
      by_cases hdv : dv < o
      · have hld := hexV_ld hv
        have hans : ansN (c :: r) o a q at_ = ansN r o (a * o + dv) (q + 1) at_ := by
          unfold ansN
          rw [rowK_cons, if_pos hld]
          simp only [List.getElem?_cons_succ, List.take_succ_cons, parsN, hv, hdv, if_true]
          have : q + (rowK r + 1) = q + 1 + rowK r := by omega
          rw [this]
        have hmul : a * o ≤ 9007199254740991 * 16 := Nat.mul_le_mul ha (by omega)
        have em : ((a : Int) * (o : Int)) = ((a * o : Nat) : Int) := by simp
        have wm : IntKind.wrap .i64 ((a : Int) * (o : Int)) = ((a * o : Nat) : Int) := by rw [em]; exact wrap_i64 (by omega) (by omega)
        have hd16 := hexV_lt hv
        have ws : IntKind.wrap .i64 (((a * o : Nat) : Int) + (dv : Int)) = ((a * o + dv : Nat) : Int) := by rw [wrap_i64 (by omega) (by omega)]; omega
        have hst : ref06_number.l1 s (at_ : Int) (o : Int) ((a : Int), (q : Int)) = if a * o + dv ≤ 9007199254740991 then some (.inl (((a * o + dv : Nat) : Int), ((q + 1 : Nat) : Int))) else some (.inr (.inr (0, 0))) := by
          unfold ref06_number.l1 ref06_number.j5 ref06_number.j6
          have e1 : ((dv : Int) ≥ 0) := by omega
          have e2 : ((dv : Int) < (o : Int)) := by omega
          simp only [d, decide_true, if_true, getB_at s q c h1, Option.bind_some, ref06_value_eq, hv, e1, e2, wm, ws, wrap_succ (show q < 1000000000000 by omega)]
          by_cases hmax : a * o + dv ≤ 9007199254740991
          · have e3 : ¬ (((a * o + dv : Nat) : Int) > 9007199254740991) := by omega
            simp only [e3, hmax, decide_false, Bool.false_eq_true, if_false, if_true]
            rcases ho with rfl | rfl
            · have hx : s[at_]? = some s[at_] := List.getElem?_eq_getElem ha0
              have b48 : ((((s[at_].toNat : Nat) : Int)) == 48) = decide (s[at_] = 48) := byte_beq s[at_] 48 (by omega)
              have hne : ¬ (s[at_] = 48) := by
                intro e; exact h48 rfl (by rw [hx, e])
              have e10 : ((((10 : Nat) : Int)) == 10) = true := rfl
              simp only [e10, if_true, getB_at s at_ _ hx, Option.bind_some, b48, hne, decide_false, Bool.false_eq_true, if_false]
            · have e16 : ((((16 : Nat) : Int)) == 10) = false := rfl
              simp only [e16, Bool.false_eq_true, if_false]
          · have e3 : (((a * o + dv : Nat) : Int) > 9007199254740991) := by omega
            simp only [e3, hmax, decide_true, if_true, if_false]
        rw [hans]
        by_cases hmax : a * o + dv ≤ 9007199254740991
        · rw [if_pos hmax] at hst
          rw [loopM_go hst]
          exact ref_number_loop s hs at_ o ho h48 ha0 r (q + 1) (a * o + dv) h2 (by omega) (by omega) hmax
        · rw [if_neg hmax] at hst
          rw [loopM_out hst, Option.bind_some]
          unfold fin6 ansN
          simp only
          split
          · rfl
          · cases hp : parsN o (r.take (rowK r)) (a * o + dv) with
            | none => rfl
            | some n =>
              have := parsN_ge (by omega) _ _ _ hp
              have h3 : ¬ (n ≤ 9007199254740991) := by omega
              simp only [h3, if_false]
      · exact stop (fun x h => by rw [hv] at h; cases h; exact hdv)
end Go.Gw

