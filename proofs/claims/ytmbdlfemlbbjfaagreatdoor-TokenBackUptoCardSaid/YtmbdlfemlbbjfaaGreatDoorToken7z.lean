/- Chapter 6: the code's Cut. -/
import Derived.Test.YtmbdlfemlbbjfaaGreatDoorToken6z
import Derived.Test.YtmbdlfemlbbjfaaGreatDoorToken3z
import Derived.KernelRfl
set_option linter.unusedVariables false
set_option linter.unusedSimpArgs false
set_option linter.unnecessarySimpa false
namespace Go.Gw
set_option linter.unusedSimpArgs false

theorem laidAt_cons (len : Nat) (p : Tok × Nat) (l : List (Tok × Nat)) : laidAt len (p :: l) = p.1.at_ ((len - p.2 : Nat) : Int) :: laidAt len l := rfl
theorem wrap_sub {a b : Nat} (h : b ≤ a) (ha : a ≤ 1000000000000) : IntKind.wrap .i64 ((a : Int) - (b : Int)) = ((a - b : Nat) : Int) := by rw [wrap_i64 (by omega) (by omega)]; omega
theorem cut_loop (src : Str) (hs : src.length ≤ 100000000) : ∀ (m : Nat) (s : Str) (f0 : Bool) (out : List Tok), s.length < m → s.length ≤ src.length → out.length + s.length ≤ src.length →
    ∃ e, loopM (token_Cut.l1 src) (src, s, f0, out) = some e ∧ match cutT m s false with
      | .inl l => e = .inr (out ++ laidAt src.length l, 0, 0)
      | .inr k => ∃ r f, e = .inl (src, r, f) ∧ r.length = k ∧ k ≤ src.length
  | 0, s, f0, out, h, _, _ => by omega
  | m + 1, s, f0, out, hm, hsl, hout => by
    have hb := token_blanks_eq { src := src, rest := s, fresh := f0 } (by simp only; omega)
    simp only at hb
    have hl := blanksG_len (s.length + 1) s false
    rw [cutT]
    generalize hq : blanksG (s.length + 1) s false = q at hb hl
    obtain ⟨r, f, ok⟩ := q
    simp only at hb hl ⊢
    have hstep : token_Cut.l1 src (src, s, f0, out) = (if ok = true then
        if (r == ([] : Str)) = true then
          Option.bind (room (out.length + 1)) fun _ => some (.inr (.inr (out ++ [({ Kind := 0, Text := ([] : Str), Num := 0, At := (IntKind.wrap .i64 (((src.length : Nat) : Int) - ((r.length : Nat) : Int))), Fresh := f } : T_api_Token)], 0, 0)))
        else Option.bind (token_cutter_one { src := src, rest := r, fresh := f }) fun v26 => if (v26.2 == 0) = true then some (.inr (.inl (src, r, f))) else token_Cut.j2 src out (ok, { src := src, rest := r, fresh := f }) v26
      else some (.inr (.inl (src, r, f)))) := by
      unfold token_Cut.l1
      simp only [hb, Option.bind_some]
      cases ok <;> rfl
    cases ok with
    | false =>
      simp only [Bool.false_eq_true, if_false] at hstep
      simp only [if_true]
      exact ⟨_, loopM_out hstep, r, f, rfl, rfl, by omega⟩
    | true =>
      simp only [if_true] at hstep
      simp only [Bool.true_eq_false, if_false]
      by_cases hr : r = []
      · subst hr
        simp only [beq_self_eq_true, if_true, room_ok (show out.length + 1 ≤ 274877906944 by omega), Option.bind_some] at hstep
        simp only [if_true]
        refine ⟨_, loopM_out hstep, ?_⟩
        have w : IntKind.wrap .i64 (((src.length : Nat) : Int) - ((([] : Str).length : Nat) : Int)) = ((src.length - 0 : Nat) : Int) := wrap_sub (by simp) (by omega)
        rw [w]; rfl
      · have br : (r == ([] : Str)) = false := by simpa using hr
        simp only [br, Bool.false_eq_true, if_false] at hstep
        simp only [hr, if_false]
        obtain ⟨x, e1, e2⟩ := token_one_eq { src := src, rest := r, fresh := f } hr (by simp only; omega)
        rw [e1, Option.bind_some] at hstep
        simp only at e2
        cases ho : oneS r with
        | none =>
          rw [ho] at e2
          simp only at e2
          rw [e2] at hstep
          simp only [beq_self_eq_true, if_true] at hstep
          exact ⟨_, loopM_out hstep, r, f, rfl, rfl, by omega⟩
        | some p =>
          obtain ⟨t, n⟩ := p
          rw [ho] at e2
          simp only at e2
          subst e2
          have hn := oneS_len ho
          have c0 : ((n : Int) == 0) = false := by rw [beq_eq_false_iff_ne]; omega
          have hcut : cutL r (n : Int) ((r.length : Nat) : Int) = some (r.drop n) := cutL_to_end r n hn.2.1
          have w : IntKind.wrap .i64 (((src.length : Nat) : Int) - ((r.length : Nat) : Int)) = ((src.length - r.length : Nat) : Int) := wrap_sub (by omega) (by omega)
          unfold token_Cut.j2 at hstep
          simp only [c0, Bool.false_eq_true, if_false, room_ok (show out.length + 1 ≤ 274877906944 by omega), Option.bind_some, hcut, w] at hstep
          have htok : ({ Kind := t.Kind, Text := t.Text, Num := t.Num, At := ((src.length - r.length : Nat) : Int), Fresh := f } : Tok) = (t.fresh f).at_ ((src.length - r.length : Nat) : Int) := rfl
          rw [htok] at hstep
          have hdl : (r.drop n).length = r.length - n := List.length_drop
          obtain ⟨e, g1, g2⟩ := cut_loop src hs m (r.drop n) f (out ++ [(t.fresh f).at_ ((src.length - r.length : Nat) : Int)]) (by omega) (by omega) (by simp only [List.length_append, List.length_cons, List.length_nil]; omega)
          refine ⟨e, (loopM_go hstep).trans g1, ?_⟩
          dsimp only
          cases hc : cutT m (r.drop n) false with
          | inl l =>
            rw [hc] at g2
            simp only at g2 ⊢
            rw [g2, laidAt_cons]
            simp
          | inr k =>
            rw [hc] at g2
            exact g2
theorem token_Cut_eq (src : Str) (hs : src.length ≤ 100000000) : token_Cut src = some (cutS src) := by
  unfold token_Cut cutS
  by_cases h : 4096 < src.length
  · have d : (((src.length : Nat) : Int) > 4096) := by omega
    simp only [d, h, decide_true, if_true]
  · have d : ¬ (((src.length : Nat) : Int) > 4096) := by omega
    simp only [d, h, decide_false, Bool.false_eq_true, if_false]
    obtain ⟨e, e1, e2⟩ := cut_loop src hs (src.length + 1) src false [] (by omega) (by omega) (by simp)
    rw [e1, Option.bind_some]
    cases hc : cutT (src.length + 1) src false with
    | inl l =>
      rw [hc] at e2
      simp only at e2
      subst e2
      rfl
    | inr k =>
      rw [hc] at e2
      simp only at e2
      obtain ⟨r, f, rfl, e3, e4⟩ := e2
      simp only
      rw [e3, wrap_sub e4 (by omega)]
theorem law06_live_eq : law06_live = some true := by
  unfold law06_live law06_live.j1
  rw [token_Cut_eq _ (by decide), token_Cut_eq _ (by decide)]
  have h1 : cutS [97, 32, 47, 47, 32, 120, 10, 43, 61, 32, 48, 120, 49, 70] = ([({ Kind := 1, Text := ([97] : Str), Num := 0, At := 0, Fresh := false } : T_api_Token), ({ Kind := 5, Text := ([43, 61] : Str), Num := 0, At := 7, Fresh := true } : T_api_Token), ({ Kind := 3, Text := ([] : Str), Num := 31, At := 10, Fresh := false } : T_api_Token), ({ Kind := 0, Text := ([] : Str), Num := 0, At := 14, Fresh := false } : T_api_Token)], 0, 0) := by kernel_rfl
  have h2 : cutS [97, 32, 38, 32, 98] = ([], 2, 60) := by kernel_rfl
  rw [h1, h2]
  simp only [Option.bind_some]
  rw [ref06_Same_refl _ (by simp), token_IsWord_eq _ (by decide), token_IsWord_eq _ (by decide), token_IsIdent_eq _ (by decide)]
  decide
end Go.Gw

