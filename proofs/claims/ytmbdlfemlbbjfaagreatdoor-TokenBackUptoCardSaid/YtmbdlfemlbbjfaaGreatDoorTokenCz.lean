/- Chapter 6: tokens with blanks between are cut as themselves: the statement. -/
import Derived.Test.YtmbdlfemlbbjfaaGreatDoorTokenBz
set_option linter.unusedVariables false
set_option linter.unusedSimpArgs false
set_option linter.unnecessarySimpa false
namespace Go.Gw
set_option linter.unusedSimpArgs false

abbrev Pairs := List (Tok × Str)
def flatP (ps : Pairs) : Str := ps.flatMap fun p => p.2 ++ [32]
theorem flatP_cons (p : Tok × Str) (ps : Pairs) : flatP (p :: ps) = p.2 ++ 32 :: flatP ps := by simp [flatP]
theorem flatP_snoc (p : Tok × Str) (ps : Pairs) : flatP (ps ++ [p]) = flatP ps ++ (p.2 ++ [32]) := by simp [flatP]
def markP : Pairs → Bool → List (Tok × Nat)
  | [], f => [(tEnd f, 0)]
  | p :: ps, f => ((normT p.1).fresh f, (flatP (p :: ps)).length) :: markP ps false
def wantP : Nat → Pairs → List Tok
  | _, [] => []
  | n, p :: ps => (normT p.1).at_ (n : Int) :: wantP (n + p.2.length + 1) ps
theorem wantP_snoc (p : Tok × Str) : ∀ (ps : Pairs) (n : Nat), wantP n (ps ++ [p]) = wantP n ps ++ [(normT p.1).at_ ((n + (flatP ps).length : Nat) : Int)]
  | [], n => by simp [wantP, flatP]
  | q :: ps, n => by
    simp only [List.cons_append, wantP, wantP_snoc p ps, flatP_cons, List.length_append, List.length_cons]
    have : n + q.2.length + 1 + (flatP ps).length = n + (q.2.length + ((flatP ps).length + 1)) := by omega
    rw [this]
theorem cut_pairs : ∀ (ps : Pairs) (M : Nat) (f : Bool), (∀ p ∈ ps, WR p.1 p.2) → (flatP ps).length < M → cutT M (flatP ps) f = .inl (markP ps f)
  | [], 0, f, _, h => by omega
  | [], M + 1, f, _, _ => rfl
  | p :: ps, 0, f, _, h => by omega
  | p :: ps, M + 1, f, h, hM => by
    have hp := h p (by simp)
    have ih := fun M f => cut_pairs ps M f (fun q hq => h q (by simp [hq]))
    have hst := stop_blanks (stop_x (flatP ps) hp.stop) ((p.2 ++ 32 :: flatP ps).length) f
    have hne : p.2 ++ 32 :: flatP ps ≠ [] := by simp
    rw [flatP_cons] at hM ⊢
    rw [cutT, hst]
    simp only [hne, if_false, Bool.true_eq_false, hp.one]
    rw [List.drop_left]
    simp only [List.length_append, List.length_cons] at hM
    have e32 : blanksG ((32 :: flatP ps).length + 1) (32 :: flatP ps) false = blanksG ((flatP ps).length + 1) (flatP ps) false := by
      rw [List.length_cons, blanksG, if_neg (by decide), if_pos (.inl rfl)]
    have hlen : 1 ≤ p.2.length := by
      have := hp.stop
      cases hs : p.2 with
      | nil => rw [hs] at this; cases this
      | cons c r => simp
    have hsame := cutT_same (m := M) (m' := (flatP ps).length + 1) (s := 32 :: flatP ps) (s' := flatP ps) (f := false) (f' := false) (by simp only [List.length_cons]; omega) (by omega) e32
    rw [hsame, ih _ false (by omega)]
    simp only [markP, flatP_cons]
theorem laid_pairs : ∀ (ps : Pairs) (n : Nat), laidAt (n + (flatP ps).length) (markP ps false) = wantP n ps ++ [(tEnd false).at_ ((n + (flatP ps).length : Nat) : Int)]
  | [], n => by simp [markP, wantP, laidAt, flatP]
  | p :: ps, n => by
    simp only [markP, laidAt_cons, wantP, List.cons_append]
    have hl : (flatP (p :: ps)).length = p.2.length + 1 + (flatP ps).length := by rw [flatP_cons]; simp only [List.length_append, List.length_cons]; omega
    have e1 : n + (flatP (p :: ps)).length - (flatP (p :: ps)).length = n := by omega
    have e2 : n + (flatP (p :: ps)).length = n + p.2.length + 1 + (flatP ps).length := by omega
    rw [e1]
    congr 1
    rw [e2]
    exact laid_pairs ps (n + p.2.length + 1)
theorem wantP_len : ∀ (ps : Pairs) (n : Nat), (wantP n ps).length = ps.length
  | [], _ => rfl
  | p :: ps, n => by simp only [wantP, List.length_cons, wantP_len ps]
theorem back_loop (l : List Tok) (hl : l.length ≤ 1048576) (hT : ∀ t ∈ l, t.Text.length ≤ 1048576 ∧ t.Num < 9223372036854775808) : ∀ (n k : Nat) (ps : Pairs), k + n = l.length → ps.length = k → (∀ p ∈ ps, WR p.1 p.2) → (flatP ps).length ≤ 200000000 →
    ∃ e, loopM (law06_TokenBack.l1 l true) (flatP ps, (k : Int), wantP 0 ps) = some e ∧ (e = .inr true ∨ ∃ qs : Pairs, e = .inl (flatP qs, wantP 0 qs) ∧ (∀ p ∈ qs, WR p.1 p.2) ∧ (flatP qs).length ≤ 200000000 ∧ qs.length ≤ 1048576) := by
  intro n
  induction n with
  | zero =>
    intro k ps hk hps hw hf
    refine ⟨_, loopM_out (e := .inl (flatP ps, wantP 0 ps)) ?_, .inr ⟨ps, rfl, hw, hf, by omega⟩⟩
    unfold law06_TokenBack.l1
    have c : ¬ ((k : Int) < ((l.length : Nat) : Int)) := by omega
    simp only [c, decide_false, Bool.false_eq_true, if_false]
  | succ n ih =>
    intro k ps hk hps hw hf
    have hlt : k < l.length := by omega
    obtain ⟨t, ht⟩ : ∃ t, l[k]? = some t := ⟨l[k], List.getElem?_eq_getElem hlt⟩
    have hb := hT t (List.mem_of_getElem? ht)
    obtain ⟨s, ok, hwr, hok⟩ := written_wr t hb.1 hb.2
    have c : ((k : Int) < ((l.length : Nat) : Int)) := by omega
    have hstep : law06_TokenBack.l1 l true (flatP ps, (k : Int), wantP 0 ps) = if ((!ok) || (decide ((((flatP ps).length : Nat) : Int) > 4096))) = true then some (.inr (.inr true))
        else if (t.Kind != 3) = true then law06_TokenBack.j2 (flatP ps) (k : Int) (wantP 0 ps) t (s, ok) t.Text 0 else law06_TokenBack.j2 (flatP ps) (k : Int) (wantP 0 ps) t (s, ok) [] t.Num := by
      unfold law06_TokenBack.l1
      simp only [c, decide_true, if_true, getI_nat, ht, hwr, Option.bind_some]
    by_cases hcond : ((!ok) || (decide ((((flatP ps).length : Nat) : Int) > 4096))) = true
    · rw [if_pos hcond] at hstep
      exact ⟨_, loopM_out hstep, .inl rfl⟩
    · rw [if_neg hcond] at hstep
      simp only [Bool.or_eq_true, Bool.not_eq_true', decide_eq_true_eq, not_or, Bool.not_eq_false] at hcond
      obtain ⟨c1, c2⟩ := hcond
      obtain ⟨hwrt, hsl⟩ := hok c1
      have hj2 : ∀ (tx : Str) (nm : Int), law06_TokenBack.j2 (flatP ps) (k : Int) (wantP 0 ps) t (s, ok) tx nm = some (.inl (flatP ps ++ (s ++ [32]), ((k + 1 : Nat) : Int), wantP 0 ps ++ [{ Kind := t.Kind, Text := tx, Num := nm, At := (((flatP ps).length : Nat) : Int), Fresh := false }])) := by
        intro tx nm
        unfold law06_TokenBack.j2
        have r1 : room ((wantP 0 ps).length + 1) = some () := room_ok (by rw [wantP_len]; omega)
        have q1 : catS s ([32] : Str) = some (s ++ [32]) := by unfold catS; rw [if_pos (by simp; omega)]
        have q2 : catS (flatP ps) (s ++ [32]) = some (flatP ps ++ (s ++ [32])) := by unfold catS; rw [if_pos (by simp; omega)]
        simp only [r1, q1, q2, Option.bind_some, wrap_succ (show k < 1000000000000 by omega)]
      have hnext : law06_TokenBack.l1 l true (flatP ps, (k : Int), wantP 0 ps) = some (.inl (flatP (ps ++ [(t, s)]), ((k + 1 : Nat) : Int), wantP 0 (ps ++ [(t, s)]))) := by
        rw [hstep, flatP_snoc, wantP_snoc]
        by_cases k3 : t.Kind = 3
        · have b3 : (t.Kind != 3) = false := by rw [k3]; rfl
          simp only [b3, Bool.false_eq_true, if_false, hj2, Nat.zero_add]
          unfold normT Tok.at_
          simp only [k3, if_true]
        · have b3 : (t.Kind != 3) = true := by rw [bne_iff_ne]; exact k3
          simp only [b3, if_true, hj2, Nat.zero_add]
          unfold normT Tok.at_
          simp only [k3, if_false]
      rw [loopM_go hnext]
      refine ih (k + 1) (ps ++ [(t, s)]) (by omega) (by simp [hps]) ?_ ?_
      · intro p hp
        rw [List.mem_append] at hp
        rcases hp with hp | hp
        · exact hw p hp
        · simp only [List.mem_singleton] at hp; subst hp; exact hwrt
      · rw [flatP_snoc]
        simp only [List.length_append, List.length_cons, List.length_nil]; omega
theorem law06_TokenBack_true (l : List Tok) (hl : l.length ≤ 1048576) (hT : ∀ t ∈ l, t.Text.length ≤ 1048576 ∧ t.Num < 9223372036854775808) : law06_TokenBack l = some true := by
  unfold law06_TokenBack law06_TokenBack.j3
  rw [law06_live_eq, Option.bind_some]
  obtain ⟨e, e1, e2⟩ := back_loop l hl hT l.length 0 [] (by omega) rfl (by simp) (by simp [flatP])
  have e1' : loopM (law06_TokenBack.l1 l true) (([] : Str), 0, ([] : List T_api_Token)) = some e := e1
  rw [e1', Option.bind_some]
  rcases e2 with rfl | ⟨qs, rfl, hw, hf, hq⟩
  · rfl
  · simp only
    by_cases h : (((flatP qs).length : Nat) : Int) > 4096
    · simp only [h, decide_true, if_true]
    · simp only [h, decide_false, Bool.false_eq_true, if_false]
      have hcut : cutS (flatP qs) = (wantP 0 qs ++ [(tEnd false).at_ (((flatP qs).length : Nat) : Int)], 0, 0) := by
        unfold cutS
        rw [if_neg (by omega), cut_pairs qs _ false hw (by omega)]
        have := laid_pairs qs 0
        rw [Nat.zero_add] at this
        simp only [this]
      have hr : room ((wantP 0 qs).length + 1) = some () := room_ok (by rw [wantP_len]; omega)
      have hend : ({ Kind := 0, Text := ([] : Str), Num := 0, At := (((flatP qs).length : Nat) : Int), Fresh := false } : T_api_Token) = (tEnd false).at_ (((flatP qs).length : Nat) : Int) := rfl
      rw [token_Cut_eq _ (by omega), Option.bind_some, hcut]
      simp only [beq_self_eq_true, Bool.and_self, if_true, hr, Option.bind_some, hend]
      rw [ref06_Same_refl _ (by simp only [List.length_append, wantP_len, List.length_cons, List.length_nil]; omega)]
      rfl
end Go.Gw

