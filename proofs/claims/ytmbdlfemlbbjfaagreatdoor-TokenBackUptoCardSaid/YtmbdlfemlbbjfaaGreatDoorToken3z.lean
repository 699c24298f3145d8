/- Chapter 6: what a line feed and another source behind a source change, plainly. -/
import Derived.Test.YtmbdlfemlbbjfaaGreatDoorToken2z
set_option linter.unusedVariables false
set_option linter.unusedSimpArgs false
set_option linter.unnecessarySimpa false
namespace Go.Gw
open Go.Proofs
set_option linter.unusedSimpArgs false

/-! ### a token -/
/-! ### the whole -/
theorem cutT_fuel : ∀ (m m' : Nat) (s : Str) (f : Bool), s.length < m → s.length < m' → cutT m s f = cutT m' s f
  | 0, _, s, f, h, _ => by omega
  | _ + 1, 0, s, f, _, h => by omega
  | m + 1, m' + 1, s, f, h, h' => by
    unfold cutT
    have hb := blanksG_len (s.length + 1) s f
    generalize hq : blanksG (s.length + 1) s f = q at hb
    obtain ⟨r, f', ok⟩ := q
    simp only at hb ⊢
    split
    · rfl
    · split
      · rfl
      · cases ho : oneS r with
        | none => rfl
        | some p =>
          obtain ⟨t, n⟩ := p
          have hl := oneS_len ho
          simp only
          rw [cutT_fuel m m' (r.drop n) false (by simp only [List.length_drop]; omega) (by simp only [List.length_drop]; omega)]
theorem cutT_same {m m' : Nat} {s s' : Str} {f f' : Bool} (h : s.length < m) (h' : s'.length < m') (he : blanksG (s.length + 1) s f = blanksG (s'.length + 1) s' f') : cutT m s f = cutT m' s' f' := by
  cases m with
  | zero => omega
  | succ m =>
    cases m' with
    | zero => omega
    | succ m' =>
      have hb := blanksG_len (s.length + 1) s f
      have hb' := blanksG_len (s'.length + 1) s' f'
      unfold cutT
      rw [he] at hb ⊢
      generalize hq : blanksG (s'.length + 1) s' f' = q at hb hb'
      obtain ⟨r, f2, ok⟩ := q
      simp only at hb hb' ⊢
      split
      · rfl
      · split
        · rfl
        · cases ho : oneS r with
          | none => rfl
          | some p =>
            obtain ⟨t, n⟩ := p
            have hl := oneS_len ho
            simp only
            rw [cutT_fuel m m' (r.drop n) false (by simp only [List.length_drop]; omega) (by simp only [List.length_drop]; omega)]
end Go.Gw

