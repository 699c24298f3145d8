/- Several texts in one. -/
import Derived.Test.YtglnkknalibgdaaDoorP13A
set_option linter.unusedVariables false
set_option linter.unusedSimpArgs false
set_option linter.unnecessarySimpa false
/- Chapter 13, plainly: the document's answer as to what data is written as. -/
namespace Go.D13
open Go Go.Gw Go.Dn
set_option linter.unusedSimpArgs false
set_option linter.unusedVariables false
set_option maxRecDepth 100000

def natsI (l : List Nat) : List Int := l.map fun n : Nat => (n : Int)
theorem make_eq (l : List Nat) (hn : ∀ n ∈ l, n < 65536) (hl : l.length ≤ 100000000) : credenzaref01_Make (natsI l) = some (l.flatMap unit2, ()) := by
  have h := loop_all (step := credenzaref01_Make_l1) (fun (a : Str) i => (natsI l, (((natsI l).length : Nat) : Int), (i : Int), a, ())) l (fun a n => .inl (a ++ unit2 n)) (fun a => (a, ())) (fun a r => a.length + 2 * r.length ≤ 1000000000) [] (by omega) (by simp; omega)
    (fun i n r a hr ha => by
      obtain ⟨h1, h2, h3⟩ := getI_drop hr
      have hn6 := hn n h3
      have hi : ((i : Int) < (((natsI l).length : Nat) : Int)) := by unfold natsI; rw [List.length_map]; omega
      have hg : getI (natsI l) (i : Int) = some (n : Int) := by
        rw [getI_nat] at h1 ⊢
        unfold natsI
        rw [List.getElem?_map, h1]; rfl
      simp only [List.length_cons] at ha
      have e1 : Int.tdiv (n : Int) 256 = ((n / 256 : Nat) : Int) := rfl
      have e2 : Int.tmod (n : Int) 256 = ((n % 256 : Nat) : Int) := rfl
      have w1 : IntKind.wrap .i64 ((n / 256 : Nat) : Int) = ((n / 256 : Nat) : Int) := wrap_i64 (by omega) (by omega)
      have w2 : IntKind.wrap .u8 ((n / 256 : Nat) : Int) = ((n / 256 : Nat) : Int) := wrap_u8 (by omega) (by omega)
      have w3 : IntKind.wrap .u8 ((n % 256 : Nat) : Int) = ((n % 256 : Nat) : Int) := wrap_u8 (by omega) (by omega)
      have t1 : toB ((n / 256 : Nat) : Int) = some (UInt8.ofNat (n / 256)) := by unfold toB; rw [if_pos (by omega)]; rfl
      have t2 : toB ((n % 256 : Nat) : Int) = some (UInt8.ofNat (n % 256)) := by unfold toB; rw [if_pos (by omega)]; rfl
      refine ⟨?_, by simp only [List.length_append, unit2, List.length_cons, List.length_nil]; omega⟩
      simp only [credenzaref01_Make_l1, hi, decide_true, if_true, hg, Option.bind_some, e1, e2, w1, w2, w3, t1, t2]
      rw [room_ok (by simp only [List.length_cons, List.length_nil]; omega), wrap1 (by omega)]
      rfl)
    (fun a _ => by
      have hi : ¬ (((l.length : Nat) : Int) < (((natsI l).length : Nat) : Int)) := by unfold natsI; rw [List.length_map]; omega
      simp only [credenzaref01_Make_l1, hi, decide_false, Bool.false_eq_true, if_false])
  unfold credenzaref01_Make
  refine h.trans ?_
  have fold : ∀ (r : List Nat) (a : Str), foldE (fun (a : Str) (n : Nat) => (.inl (a ++ unit2 n) : Str ⊕ (Str × Unit))) (fun a => (a, ())) a r = (a ++ r.flatMap unit2, ()) := by
    intro r
    induction r with
    | nil => intro a; simp [foldE]
    | cons c r ih => intro a; rw [foldE_inl rfl, ih]; simp
  rw [fold]; rfl
theorem of_eq (s : Str) (ha : ∀ c ∈ s, c.toNat < 128) (hl : s.length ≤ 100000000) : credenzaref01_U s = some (plainU s, ()) := by
  have h := loop_all (step := credenzaref01_Of_l1) (fun (a : List Int) i => (s, (i : Int), a, ())) s (fun a c => .inl (a ++ [((c.toNat : Nat) : Int)])) (fun a => (plainU s, 0, ())) (fun a r => a ++ natsI (r.map (·.toNat)) = natsI (s.map (·.toNat))) [] (by omega) rfl
    (fun i c r a hr hP => by
      obtain ⟨h1, h2, h3⟩ := getI_drop hr
      have hc := ha c h3
      have hi : ((i : Int) < ((s.length : Nat) : Int)) := by omega
      have hg : getB s (i : Int) = some ((c.toNat : Nat) : Int) := by rw [getB_nat]; rw [getI_nat] at h1; rw [h1]; rfl
      have hle : ¬ (((c.toNat : Nat) : Int) > 127) := by omega
      have hal : a.length ≤ 100000000 := by
        have := congrArg List.length hP
        simp [natsI] at this
        omega
      refine ⟨?_, by rw [← hP]; simp [natsI]⟩
      simp only [credenzaref01_Of_l1, hi, decide_true, if_true, hg, Option.bind_some, hle, decide_false, Bool.false_eq_true, if_false]
      rw [room_ok (by simp only [List.length_cons, List.length_nil]; omega), wrap1 (by omega), wrap_i64 (by omega) (by omega)]
      rfl)
    (fun a hP => by
      have hi : ¬ (((s.length : Nat) : Int) < ((s.length : Nat) : Int)) := by omega
      have hP : a = natsI (s.map (·.toNat)) := by simpa [natsI] using hP
      simp only [credenzaref01_Of_l1, hi, decide_false, Bool.false_eq_true, if_false, hP]
      rw [make_eq _ (fun n hn => by obtain ⟨c, hc, rfl⟩ := List.mem_map.1 hn; have := ha c hc; omega) (by simpa using hl)]
      simp only [Option.bind_some]
      congr 3
      have : ∀ t : Str, (∀ c ∈ t, c.toNat < 128) → (t.map (·.toNat)).flatMap unit2 = plainU t := by
        intro t
        induction t with
        | nil => intro _; rfl
        | cons c r ih =>
          intro h
          have hc := h c List.mem_cons_self
          rw [List.map_cons, List.flatMap_cons, ih fun d hd => h d (List.mem_cons_of_mem _ hd), plainU_cons]
          have e1 : c.toNat / 256 = 0 := by omega
          have e2 : c.toNat % 256 = c.toNat := by omega
          unfold unit2
          rw [e1, e2, UInt8.ofNat_toNat]
          rfl
      exact this s ha)
  unfold credenzaref01_U credenzaref01_Of
  have hf : ∀ (r : Str) (a : List Int), foldE (fun (a : List Int) (c : UInt8) => (.inl (a ++ [((c.toNat : Nat) : Int)]) : List Int ⊕ (Str × Int × Unit))) (fun a => (plainU s, 0, ())) a r = (plainU s, 0, ()) := by
    intro r
    induction r with
    | nil => intro a; rfl
    | cons c r ih => intro a; rw [foldE_inl rfl, ih]
  rw [show Lp.loop credenzaref01_Of_l1 (s, 0, [], ()) = _ from h, hf]
  rfl
theorem list_eq (u : Str) (hl : u.length ≤ 100000000) : credenzaref01_List u = some (natsI (unitsL u), ()) := by
  have hul := unitsL_length u
  have h := loop_all (step := credenzaref01_List_l1) (fun (a : List Int) i => (u, ((2 * i : Nat) : Int), a, ())) (unitsL u) (fun a n => .inl (a ++ [(n : Int)])) (fun a => (a, ())) (fun a r => a.length + r.length ≤ 100000000) [] (by omega) (by simp; omega)
    (fun i n r a hr hP => by
      obtain ⟨h1, h2, h3⟩ := getI_drop hr
      rw [getI_nat] at h1
      obtain ⟨x, y, e1, e2, e3⟩ := unitsL_get u i (by omega)
      rw [h1] at e3
      cases e3
      have w : IntKind.wrap .i64 (((2 * i : Nat) : Int) + 1) = ((2 * i + 1 : Nat) : Int) := by rw [wrap_i64 (by omega) (by omega)]; omega
      have w2 : IntKind.wrap .i64 (((2 * i : Nat) : Int) + 2) = ((2 * (i + 1) : Nat) : Int) := by rw [wrap_i64 (by omega) (by omega)]; omega
      have hi : ((2 * i + 1 : Nat) : Int) < ((u.length : Nat) : Int) := by omega
      have hx := x.toNat_lt; have hy := y.toNat_lt
      have w3 : IntKind.wrap .i64 ((x.toNat : Nat) : Int) = ((x.toNat : Nat) : Int) := wrap_i64 (by omega) (by omega)
      have w4 : IntKind.wrap .i64 ((y.toNat : Nat) : Int) = ((y.toNat : Nat) : Int) := wrap_i64 (by omega) (by omega)
      have w5 : IntKind.wrap .i64 (((x.toNat : Nat) : Int) * 256) = ((x.toNat * 256 : Nat) : Int) := by rw [wrap_i64 (by omega) (by omega)]; omega
      have w6 : IntKind.wrap .i64 (((x.toNat * 256 : Nat) : Int) + ((y.toNat : Nat) : Int)) = ((x.toNat * 256 + y.toNat : Nat) : Int) := by rw [wrap_i64 (by omega) (by omega)]; omega
      simp only [List.length_cons] at hP
      refine ⟨?_, by simp only [List.length_append, List.length_cons, List.length_nil]; omega⟩
      simp only [credenzaref01_List_l1, w, hi, decide_true, if_true, getB_nat, e1, e2, Option.map_some, Option.bind_some, w3, w4, w5, w6, w2]
      rw [room_ok (by simp only [List.length_cons, List.length_nil]; omega)]
      rfl)
    (fun a hP => by
      have w : IntKind.wrap .i64 (((2 * (unitsL u).length : Nat) : Int) + 1) = ((2 * (unitsL u).length + 1 : Nat) : Int) := by rw [wrap_i64 (by omega) (by omega)]; omega
      have hi : ¬ (((2 * (unitsL u).length + 1 : Nat) : Int) < ((u.length : Nat) : Int)) := by omega
      simp only [credenzaref01_List_l1, w, hi, decide_false, Bool.false_eq_true, if_false])
  unfold credenzaref01_List
  refine h.trans ?_
  have fold : ∀ (r : List Nat) (a : List Int), foldE (fun (a : List Int) (n : Nat) => (.inl (a ++ [(n : Int)]) : List Int ⊕ ((List Int) × Unit))) (fun a => (a, ())) a r = (a ++ natsI r, ()) := by
    intro r
    induction r with
    | nil => intro a; simp [foldE, natsI]
    | cons c r ih => intro a; rw [foldE_inl rfl, ih]; simp [natsI]
  rw [fold]; rfl
theorem len_eq (u : Str) (hl : u.length ≤ 100000000) : credenzaref01_Len u = some (((u.length / 2 : Nat) : Int), ()) := by
  unfold credenzaref01_Len
  rw [list_eq u hl]
  simp only [Option.bind_some, natsI, List.length_map, unitsL_length]
/-! ### numbers -/
theorem digits_n : ∀ (m k n : Nat), k ≤ m → n < 10 ^ k → 1 ≤ k → n ≤ 9223372036854775807 → (Rec_credenzaref10_digits_g m).credenzaref10_digits (n : Int) = some (Lib.decDigits n, ())
  | 0, k, n, h, _, h1, _ => by omega
  | m + 1, k, n, h, hn, h1, hb => by
    show credenzaref10_digits_b (Rec_credenzaref10_digits_g m) (n : Int) = _
    unfold credenzaref10_digits_b
    have e1 : Int.tmod (n : Int) 10 = ((n % 10 : Nat) : Int) := rfl
    have e2 : Int.tdiv (n : Int) 10 = ((n / 10 : Nat) : Int) := rfl
    have w1 : IntKind.wrap .u64 (48 + ((n % 10 : Nat) : Int)) = ((48 + n % 10 : Nat) : Int) := by rw [wrap_u64 (by omega) (by omega)]; rfl
    have w2 : IntKind.wrap .u8 ((48 + n % 10 : Nat) : Int) = ((48 + n % 10 : Nat) : Int) := wrap_u8 (by omega) (by omega)
    have w3 : IntKind.wrap .u64 ((n / 10 : Nat) : Int) = ((n / 10 : Nat) : Int) := wrap_u64 (by omega) (by omega)
    have tb : toB ((48 + n % 10 : Nat) : Int) = some (UInt8.ofNat (48 + n % 10)) := by unfold toB; rw [if_pos (by omega)]; rfl
    simp only [e1, e2, w1, w2, w3, tb, Option.bind_some]
    rw [Lib.decDigits]
    by_cases hs : n < 10
    · rw [dif_pos hs, if_pos (by simpa using by omega)]
      rw [Nat.mod_eq_of_lt hs]
    · rw [dif_neg hs, if_neg (by simpa using by omega)]
      obtain ⟨k', rfl⟩ : ∃ k', k = k' + 1 := ⟨k - 1, by omega⟩
      have hk' : 1 ≤ k' := by
        rcases Nat.eq_zero_or_pos k' with rfl | h
        · simp at hn; omega
        · exact h
      have hlt : n / 10 < 10 ^ k' := by
        rw [Nat.pow_succ] at hn
        exact Nat.div_lt_of_lt_mul (by omega)
      rw [digits_n m k' (n / 10) (by omega) hlt hk' (by omega)]
      simp only [Option.bind_some]
      have hl := Lib.itoa_length_le ((n / 10 : Nat) : Int) (by omega) (by omega)
      have hi : Lib.itoa ((n / 10 : Nat) : Int) = Lib.decDigits (n / 10) := by unfold Lib.itoa; rw [if_neg (by omega)]; rfl
      rw [hi] at hl
      rw [catS_ok (by simp; omega)]
      rfl
theorem digits_eq (n : Nat) (hb : n ≤ 9223372036854775807) : credenzaref10_digits (n : Int) = some (Lib.decDigits n, ()) :=
  digits_n 1000000000000 20 n (by omega) (by omega) (by omega) hb
theorem decDigits_low : ∀ (n : Nat), ∀ c ∈ Lib.decDigits n, c.toNat < 128 := by
  intro n
  induction n using Nat.strongRecOn with
  | _ n ih =>
    intro c hc
    rw [Lib.decDigits] at hc
    split at hc
    · rename_i h
      have hc := List.mem_singleton.1 hc
      subst hc
      rw [UInt8.toNat_ofNat']
      omega
    · rename_i h
      rcases List.mem_append.1 hc with h1 | h1
      · exact ih (n / 10) (by omega) c h1
      · have h1 := List.mem_singleton.1 h1
        subst h1
        rw [UInt8.toNat_ofNat']
        omega
theorem itoa_low (n : Int) : ∀ c ∈ Lib.itoa n, c.toNat < 128 := by
  intro c hc
  unfold Lib.itoa at hc
  split at hc
  · rcases List.mem_cons.1 hc with rfl | h
    · decide
    · exact decDigits_low _ c h
  · exact decDigits_low _ c hc
theorem text10_eq (n : Int) (h0 : -9007199254740991 ≤ n) (h1 : n ≤ 9007199254740991) : credenzaref10_Text n = some (plainU (Lib.itoa n), ()) := by
  have hlen := Lib.itoa_length_le n (by omega) (by omega)
  have hu := of_eq (Lib.itoa n) (itoa_low n) (by omega)
  unfold credenzaref10_Text
  by_cases hn : n < 0
  · have e : Lib.itoa n = 45 :: Lib.decDigits n.natAbs := by unfold Lib.itoa; rw [if_pos hn]
    have w1 : IntKind.wrap .i64 (n + 1) = n + 1 := wrap_i64 (by omega) (by omega)
    have w2 : IntKind.wrap .i64 (0 - (n + 1)) = ((n.natAbs - 1 : Nat) : Int) := by rw [wrap_i64 (by omega) (by omega)]; omega
    have w3 : IntKind.wrap .u64 ((n.natAbs - 1 : Nat) : Int) = ((n.natAbs - 1 : Nat) : Int) := wrap_u64 (by omega) (by omega)
    have w4 : IntKind.wrap .u64 (((n.natAbs - 1 : Nat) : Int) + 1) = ((n.natAbs : Nat) : Int) := by rw [wrap_u64 (by omega) (by omega)]; omega
    simp only [hn, decide_true, if_true, w1, w2, w3, w4, digits_eq n.natAbs (by omega), Option.bind_some]
    rw [e] at hlen hu
    rw [catS_ok (by simp at hlen ⊢; omega)]
    simp only [Option.bind_some, List.cons_append, List.nil_append]
    rw [hu, e]
    rfl
  · have e : Lib.itoa n = Lib.decDigits n.toNat := by unfold Lib.itoa; rw [if_neg hn]
    have w1 : IntKind.wrap .u64 n = ((n.toNat : Nat) : Int) := by rw [wrap_u64 (by omega) (by omega)]; omega
    simp only [hn, decide_false, Bool.false_eq_true, if_false, w1, digits_eq n.toNat (by omega), Option.bind_some]
    rw [← e, hu]
    rfl
/-! ### a string's literal -/
theorem hex_eq (k : Nat) (h : k < 16) : credenzaref13_hex (k : Int) = some (((hexd k).toNat : Int), ()) := by
  have : ∀ k : Fin 16, credenzaref13_hex (k.val : Int) = some (((hexd k.val).toNat : Int), ()) := by decide
  exact this ⟨k, h⟩
theorem quoted_step (l : List Nat) (i n : Nat) (a : Str) (hl : l.length ≤ 100000000) (hn : l[i]? = some n) (hn6 : n < 65536) (ha : a.length ≤ 100000000000) :
    credenzaref13_quoted_l1 (a, natsI l, (((natsI l).length : Nat) : Int), (i : Int), ()) = some (.inl (a ++ quoteJ1 n, natsI l, (((natsI l).length : Nat) : Int), ((i + 1 : Nat) : Int), ())) := by
  have hlt : i < l.length := (List.getElem?_eq_some_iff.1 hn).1
  have hi : ((i : Int) < (((natsI l).length : Nat) : Int)) := by unfold natsI; rw [List.length_map]; omega
  have hg : getI (natsI l) (i : Int) = some (n : Int) := by
    rw [getI_nat]; unfold natsI; rw [List.getElem?_map, hn]; rfl
  have w1 : IntKind.wrap .i64 ((i : Int) + 1) = ((i + 1 : Nat) : Int) := wrap1 (by omega)
  have U : ∀ s : Str, (∀ c ∈ s, c.toNat < 128) → s.length ≤ 10 → credenzaref01_U s = some (plainU s, ()) := fun s h1 h2 => of_eq s h1 (by omega)
  have cat : ∀ s : Str, s.length ≤ 20 → catS a s = some (a ++ s) := fun s hs => catS_ok (by omega)
  have small : ∀ c : UInt8, c.toNat < 128 → credenzaref01_U [92, c] = some (plainU [92, c], ()) := fun c hc => U _ (by intro d hd; simp at hd; rcases hd with rfl | rfl; decide; exact hc) (by simp)
  simp only [credenzaref13_quoted_l1, hi, decide_true, if_true, hg, Option.bind_some]
  by_cases g1 : n = 34
  · subst g1
    simp only [show (((34 : Nat) : Int) == 34) = true from rfl, if_true, small 34 (by decide), Option.bind_some]
    rw [cat _ (by rw [plainU_length]; simp)]
    simp only [Option.bind_some, w1]; rfl
  have q1 : ((n : Int) == 34) = false := by rw [beq_eq_false_iff_ne]; omega
  by_cases g2 : n = 92
  · subst g2
    simp only [show (((92 : Nat) : Int) == 34) = false from rfl, show (((92 : Nat) : Int) == 92) = true from rfl, Bool.false_eq_true, if_false, if_true, small 92 (by decide), Option.bind_some]
    rw [cat _ (by rw [plainU_length]; simp)]
    simp only [Option.bind_some, w1]; rfl
  have q2 : ((n : Int) == 92) = false := by rw [beq_eq_false_iff_ne]; omega
  by_cases g3 : n = 8
  · subst g3
    simp only [show (((8 : Nat) : Int) == 34) = false from rfl, show (((8 : Nat) : Int) == 92) = false from rfl, show (((8 : Nat) : Int) == 8) = true from rfl, Bool.false_eq_true, if_false, if_true, small 98 (by decide), Option.bind_some]
    rw [cat _ (by rw [plainU_length]; simp)]
    simp only [Option.bind_some, w1]; rfl
  have q3 : ((n : Int) == 8) = false := by rw [beq_eq_false_iff_ne]; omega
  by_cases g4 : n = 9
  · subst g4
    simp only [show (((9 : Nat) : Int) == 34) = false from rfl, show (((9 : Nat) : Int) == 92) = false from rfl, show (((9 : Nat) : Int) == 8) = false from rfl, show (((9 : Nat) : Int) == 9) = true from rfl, Bool.false_eq_true, if_false, if_true, small 116 (by decide), Option.bind_some]
    rw [cat _ (by rw [plainU_length]; simp)]
    simp only [Option.bind_some, w1]; rfl
  have q4 : ((n : Int) == 9) = false := by rw [beq_eq_false_iff_ne]; omega
  by_cases g5 : n = 10
  · subst g5
    simp only [show (((10 : Nat) : Int) == 34) = false from rfl, show (((10 : Nat) : Int) == 92) = false from rfl, show (((10 : Nat) : Int) == 8) = false from rfl, show (((10 : Nat) : Int) == 9) = false from rfl, show (((10 : Nat) : Int) == 10) = true from rfl, Bool.false_eq_true, if_false, if_true, small 110 (by decide), Option.bind_some]
    rw [cat _ (by rw [plainU_length]; simp)]
    simp only [Option.bind_some, w1]; rfl
  have q5 : ((n : Int) == 10) = false := by rw [beq_eq_false_iff_ne]; omega
  by_cases g6 : n = 12
  · subst g6
    simp only [show (((12 : Nat) : Int) == 34) = false from rfl, show (((12 : Nat) : Int) == 92) = false from rfl, show (((12 : Nat) : Int) == 8) = false from rfl, show (((12 : Nat) : Int) == 9) = false from rfl, show (((12 : Nat) : Int) == 10) = false from rfl, show (((12 : Nat) : Int) == 12) = true from rfl, Bool.false_eq_true, if_false, if_true, small 102 (by decide), Option.bind_some]
    rw [cat _ (by rw [plainU_length]; simp)]
    simp only [Option.bind_some, w1]; rfl
  have q6 : ((n : Int) == 12) = false := by rw [beq_eq_false_iff_ne]; omega
  by_cases g7 : n = 13
  · subst g7
    simp only [show (((13 : Nat) : Int) == 34) = false from rfl, show (((13 : Nat) : Int) == 92) = false from rfl, show (((13 : Nat) : Int) == 8) = false from rfl, show (((13 : Nat) : Int) == 9) = false from rfl, show (((13 : Nat) : Int) == 10) = false from rfl, show (((13 : Nat) : Int) == 12) = false from rfl, show (((13 : Nat) : Int) == 13) = true from rfl, Bool.false_eq_true, if_false, if_true, small 114 (by decide), Option.bind_some]
    rw [cat _ (by rw [plainU_length]; simp)]
    simp only [Option.bind_some, w1]; rfl
  have q7 : ((n : Int) == 13) = false := by rw [beq_eq_false_iff_ne]; omega
  have hesc : esc1 n = none := by unfold esc1; simp [g1, g2, g3, g4, g5, g6, g7]
  have hq : quoteJ1 n = if n < 32 then plainU [92, 117, 48, 48, hexd (n / 16), hexd (n % 16)] else unit2 n := by unfold quoteJ1; rw [hesc]
  simp only [q1, q2, q3, q4, q5, q6, q7, Bool.false_eq_true, if_false]
  by_cases h32 : n < 32
  · have c1 : ((n : Int) < 32) := by omega
    have e1 : Int.tdiv (n : Int) 16 = ((n / 16 : Nat) : Int) := rfl
    have e2 : Int.tmod (n : Int) 16 = ((n % 16 : Nat) : Int) := rfl
    have w2 : IntKind.wrap .i64 ((n / 16 : Nat) : Int) = ((n / 16 : Nat) : Int) := wrap_i64 (by omega) (by omega)
    have lowh : ∀ k : Nat, k < 16 → (hexd k).toNat < 128 := by
      intro k hk
      have : ∀ k : Fin 16, (hexd k.val).toNat < 128 := by decide
      exact this ⟨k, hk⟩
    simp only [c1, decide_true, if_true, e1, e2, w2, hex_eq (n / 16) (by omega), hex_eq (n % 16) (by omega), Option.bind_some, toB_of]
    rw [catS_ok (by simp)]
    simp only [Option.bind_some, List.cons_append, List.nil_append]
    rw [U _ (by
      intro c hc
      simp at hc
      rcases hc with rfl | rfl | rfl | rfl | rfl
      · decide
      · decide
      · decide
      · exact lowh _ (by omega)
      · exact lowh _ (by omega)) (by simp)]
    simp only [Option.bind_some]
    rw [cat _ (by rw [plainU_length]; simp)]
    simp only [Option.bind_some, w1, hq, h32, if_true]
  · have c1 : ¬ ((n : Int) < 32) := by omega
    simp only [c1, decide_false, Bool.false_eq_true, if_false]
    have hm := make_eq [n] (by simpa using hn6) (by simp)
    rw [show natsI [n] = [(n : Int)] from rfl] at hm
    rw [hm]
    simp only [Option.bind_some]
    rw [cat _ (by simp [unit2])]
    simp only [Option.bind_some, w1, hq, h32, if_false]
    simp
theorem quoted_eq (u : Str) (hu : u.length ≤ 10000000) : credenzaref13_quoted u = some (quoteJ u, ()) := by
  have hlen := unitsL_length u
  unfold credenzaref13_quoted
  rw [of_eq [34] (by decide) (by simp), list_eq u (by omega)]
  simp only [Option.bind_some]
  have h := loop_all (step := credenzaref13_quoted_l1) (fun (b : Str) i => (b, natsI (unitsL u), (((natsI (unitsL u)).length : Nat) : Int), (i : Int), ())) (unitsL u) (fun b n => .inl (b ++ quoteJ1 n)) (fun b => (b ++ plainU [34], ())) (fun b r => b.length + 12 * r.length ≤ 50000000000) (plainU [34]) (by omega)
    (by simp only [plainU_length, List.length_cons, List.length_nil]; omega)
    (fun i n r b hr hb => by
      obtain ⟨h1, h2, h3⟩ := getI_drop hr
      rw [getI_nat] at h1
      simp only [List.length_cons] at hb
      have := quoteJ1_length n
      exact ⟨quoted_step (unitsL u) i n b (by omega) h1 (unitsL_lt u n h3) (by omega), by simp only [List.length_append]; omega⟩)
    (fun b hb => by
      have hi : ¬ ((((unitsL u).length : Nat) : Int) < (((natsI (unitsL u)).length : Nat) : Int)) := by unfold natsI; rw [List.length_map]; omega
      simp only [credenzaref13_quoted_l1, hi, decide_false, Bool.false_eq_true, if_false, of_eq [34] (by decide) (by simp), Option.bind_some]
      rw [catS_ok (by simp at hb; simp [plainU]; omega)]
      rfl)
  refine h.trans ?_
  have fold : ∀ (r : List Nat) (b : Str), foldE (fun (b : Str) (n : Nat) => (.inl (b ++ quoteJ1 n) : Str ⊕ (Str × Unit))) (fun b => (b ++ plainU [34], ())) b r = (b ++ (r.flatMap quoteJ1 ++ plainU [34]), ()) := by
    intro r
    induction r with
    | nil => intro b; simp [foldE]
    | cons n r ih => intro b; rw [foldE_inl rfl, ih]; simp
  rw [fold]
  rfl
end Go.D13


/- Chapter 13, plainly: the document writes what the program writes. -/
namespace Go.D13
open Go Go.Gw Go.Dn
set_option linter.unusedSimpArgs false
set_option linter.unusedVariables false
set_option maxRecDepth 100000

theorem plainU_ne {s : Str} (h : s ≠ []) : plainU s ≠ [] := by
  cases s with
  | nil => exact absurd rfl h
  | cons c r => rw [plainU_cons]; simp
theorem decDigits_ne (n : Nat) : Lib.decDigits n ≠ [] := by
  rw [Lib.decDigits]; split <;> simp
theorem itoa_ne (n : Int) : Lib.itoa n ≠ [] := by
  unfold Lib.itoa; split
  · simp
  · exact decDigits_ne _
theorem scalarT_ne (v : Data) : scalarT v ≠ [] := by
  unfold scalarT
  split
  · simp
  · split
    · cases v.N == 1 <;> decide
    · exact itoa_ne _
theorem app_ne {a b : Str} (h : a ≠ []) : a ++ b ≠ [] := by simp [h]
theorem writeD_ne (v : Data) : writeD v ≠ [] := by
  rw [writeD_eq]
  split
  · decide
  · split
    · exact app_ne (by decide)
    · split
      · exact app_ne (by decide)
      · split
        · exact app_ne (by decide)
        · exact plainU_ne (scalarT_ne v)
theorem app_even {a b : Str} (h1 : a.length % 2 = 0) (h2 : b.length % 2 = 0) : (a ++ b).length % 2 = 0 := by rw [List.length_append]; omega
theorem plainU_even (s : Str) : (plainU s).length % 2 = 0 := by rw [plainU_length]; omega
theorem quoteJ1_even (n : Nat) : (quoteJ1 n).length % 2 = 0 := by
  unfold quoteJ1
  split
  · exact plainU_even _
  · split
    · exact plainU_even _
    · simp [unit2]
theorem flat_even : ∀ l : List Nat, (l.flatMap quoteJ1).length % 2 = 0
  | [] => rfl
  | n :: r => by rw [List.flatMap_cons]; exact app_even (quoteJ1_even n) (flat_even r)
theorem quoteJ_even (u : Str) : (quoteJ u).length % 2 = 0 := app_even (plainU_even _) (app_even (flat_even _) (plainU_even _))
mutual
theorem writeD_even : ∀ v : Data, (writeD v).length % 2 = 0
  | ⟨k, n, s, ks, l⟩ => by
    simp only [writeD]
    split
    · exact plainU_even _
    · split
      · exact quoteJ_even _
      · split
        · exact app_even (plainU_even _) (app_even (listW_even l true) (plainU_even _))
        · split
          · exact app_even (plainU_even _) (app_even (recW_even l true ks) (plainU_even _))
          · exact plainU_even _
theorem listW_even : ∀ (l : List Data) (b : Bool), (listW b l).length % 2 = 0
  | [], b => rfl
  | x :: r, b => by
    simp only [listW]
    exact app_even (by cases b <;> rfl) (app_even (writeD_even x) (listW_even r false))
theorem recW_even : ∀ (l : List Data) (b : Bool) (ks : List Str), (recW b ks l).length % 2 = 0
  | [], b, ks => rfl
  | x :: r, b, ks => by
    simp only [recW]
    split
    · exact recW_even r b ks.tail
    · exact app_even (by cases b <;> rfl) (app_even (quoteJ_even _) (app_even (plainU_even _) (app_even (writeD_even x) (recW_even r false ks.tail))))
end
/-- the document's rows -/
def rowsR (named : Bool) (a : Str × List Str) (x : Data) : (Str × List Str) ⊕ (Str × Unit) :=
  if (named && (x.Kind == 0)) = true then .inl (a.1, a.2.tail)
  else .inl (a.1 ++ ((if (a.1 == []) = true then [] else plainU [44]) ++ ((if named then quoteJ (a.2.headD []) ++ plainU [58] else []) ++ writeD x)), a.2.tail)
theorem ne_beq {a : Str} (h : a ≠ []) : (a == []) = false := by simpa using h
theorem rowsR_list (op cl : Str) : ∀ (r : List Data) (acc : Str) (ks : List Str), foldE (rowsR false) (fun a => (op ++ a.1 ++ cl, ())) (acc, ks) r = (op ++ (acc ++ (listW (acc == []) r ++ cl)), ())
  | [], acc, ks => by simp [foldE, listW]
  | x :: r, acc, ks => by
    have hw := writeD_ne x
    rw [foldE_inl (a' := (acc ++ ((if (acc == []) = true then [] else plainU [44]) ++ ([] ++ writeD x)), ks.tail)) rfl, rowsR_list op cl r]
    rw [ne_beq (a := acc ++ ((if (acc == []) = true then [] else plainU [44]) ++ ([] ++ writeD x))) (by simp [hw])]
    simp [listW]
theorem rowsR_rec (op cl : Str) : ∀ (r : List Data) (acc : Str) (ks : List Str), foldE (rowsR true) (fun a => (op ++ a.1 ++ cl, ())) (acc, ks) r = (op ++ (acc ++ (recW (acc == []) ks r ++ cl)), ())
  | [], acc, ks => by simp [foldE, recW]
  | x :: r, acc, ks => by
    have hw := writeD_ne x
    by_cases h0 : (x.Kind == 0) = true
    · rw [foldE_inl (a' := (acc, ks.tail)) (by unfold rowsR; rw [h0]; rfl), rowsR_rec op cl r]
      simp only [recW, h0, if_true]
    · have h0' : (x.Kind == 0) = false := by simpa using h0
      rw [foldE_inl (a' := (acc ++ ((if (acc == []) = true then [] else plainU [44]) ++ ((quoteJ (ks.headD []) ++ plainU [58]) ++ writeD x)), ks.tail)) (by unfold rowsR; rw [h0']; rfl), rowsR_rec op cl r]
      rw [ne_beq (a := acc ++ ((if (acc == []) = true then [] else plainU [44]) ++ ((quoteJ (ks.headD []) ++ plainU [58]) ++ writeD x))) (by simp [hw])]
      simp only [recW, h0', Bool.false_eq_true, if_false, List.append_assoc]
theorem u_ok (s : Str) (h : ∀ c ∈ s, c.toNat < 128) (hl : s.length ≤ 100) : credenzaref01_U s = some (plainU s, ()) := of_eq s h (by omega)
theorem refWrite_n : ∀ (n : Nat) (v : Data), deepD v ≤ n → bulkD v ≤ 1048576 → okD v → mayD v = true → (Rec_credenzaref13_write_g n).credenzaref13_write v = some (writeD v, ())
  | 0, v, h, _, _, _ => by have := deepD_eq v; omega
  | n + 1, v, hd, hb, ho, hm => by
    have hbe := bulkD_eq v
    have hde := deepD_eq v
    have hlen := len_bulkL v.L
    have ho' := ho
    rw [okD_eq] at ho'
    obtain ⟨_, ⟨n0, n1⟩, hoL⟩ := ho'
    have hmL : mayL v.L = true := by rw [mayD_eq, Bool.and_eq_true] at hm; exact hm.2
    have hown : ownD v = true := by rw [mayD_eq, Bool.and_eq_true] at hm; exact hm.1
    have ih : ∀ x ∈ v.L, (Rec_credenzaref13_write_g n).credenzaref13_write x = some (writeD x, ()) := fun x hx =>
      refWrite_n n x (by have := mem_deepL hx; omega) (by have := mem_bulkL hx; omega) (okL_mem hoL hx) (mayL_mem hmL hx)
    show credenzaref13_write_b (Rec_credenzaref13_write_g n) v = _
    unfold credenzaref13_write_b
    simp only [re25_eq]
    rw [writeD_eq]
    by_cases k0 : (v.Kind == 0) = true
    · simp only [k0, if_true]
      rw [u_ok _ (by decide) (by simp)]
      rfl
    have k0' : (v.Kind == 0) = false := by simpa using k0
    simp only [k0', Bool.false_eq_true, if_false]
    by_cases k1 : (v.Kind == 1) = true
    · have e1 : v.Kind = 1 := eq_of_beq k1
      simp only [k1, if_true]
      rw [u_ok _ (by decide) (by simp)]
      unfold scalarT
      rw [e1]
      rfl
    have k1' : (v.Kind == 1) = false := by simpa using k1
    simp only [k1', Bool.false_eq_true, if_false]
    by_cases k2 : (v.Kind == 2) = true
    · have e2 : v.Kind = 2 := eq_of_beq k2
      simp only [k2, if_true]
      unfold ownD at hown
      unfold scalarT
      rw [e2] at hown ⊢
      simp at hown
      rcases hown.1.1.1 with h | h
      · rw [h]
        simp only [beq_self_eq_true, if_true]
        rw [u_ok _ (by decide) (by simp)]
        rfl
      · rw [h]
        rw [show ((1 : Int) == 0) = false from rfl]
        simp only [Bool.false_eq_true, if_false]
        rw [u_ok _ (by decide) (by simp)]
        rfl
    have k2' : (v.Kind == 2) = false := by simpa using k2
    simp only [k2', Bool.false_eq_true, if_false]
    by_cases k3 : (v.Kind == 3) = true
    · have e3 : v.Kind = 3 := eq_of_beq k3
      simp only [k3, if_true]
      unfold ownD at hown
      unfold scalarT
      rw [e3] at hown ⊢
      simp at hown
      rw [text10_eq v.N (by omega) (by omega)]
      rfl
    have k3' : (v.Kind == 3) = false := by simpa using k3
    simp only [k3', Bool.false_eq_true, if_false]
    by_cases k4 : (v.Kind == 4) = true
    · simp only [k4, if_true]
      rw [quoted_eq v.S (by omega)]
      rfl
    have k4' : (v.Kind == 4) = false := by simpa using k4
    simp only [k4', Bool.false_eq_true, if_false]
    have rows : ∀ (named : Bool) (op cl : UInt8), (v.Kind == 6) = named → (v.Kind == 5) = !named → (named = true → v.Keys.length = v.L.length) → 
        (∀ a : Str, a.length ≤ 100000000 → (if (v.Kind == 5) = true then
      Option.bind (credenzaref01_U ([91] : Str)) fun r_17 =>
      Option.bind (catS r_17.1 a) fun s_18 =>
      Option.bind (credenzaref01_U ([93] : Str)) fun r_19 =>
      Option.bind (catS s_18 r_19.1) fun s_20 =>
      some (Sum.inr (α := (Str × (List T_api_Data) × Int × Int × T_api_Data × Unit)) (s_20, ()))
     else
      Option.bind (credenzaref01_U ([123] : Str)) fun r_21 =>
      Option.bind (catS r_21.1 a) fun s_22 =>
      Option.bind (credenzaref01_U ([125] : Str)) fun r_23 =>
      Option.bind (catS s_22 r_23.1) fun s_24 =>
      some (Sum.inr (s_24, ()))) = some (.inr (plainU [op] ++ a ++ plainU [cl], ()))) →
        Lp.loop (credenzaref13_write_l1 (Rec_credenzaref13_write_g n)) (([] : Str), v.L, ((v.L.length : Nat) : Int), 0, v, ()) = some (foldE (rowsR named) (fun a => (plainU [op] ++ a.1 ++ plainU [cl], ())) ([], v.Keys) v.L) := by
      intro named op cl h6 h5 hks hout
      refine loop_all (step := credenzaref13_write_l1 (Rec_credenzaref13_write_g n)) (fun (q : Str × List Str) i => (q.1, v.L, ((v.L.length : Nat) : Int), (i : Int), v, ())) v.L (rowsR named) (fun a => (plainU [op] ++ a.1 ++ plainU [cl], ()))
        (fun q r => q.2 = v.Keys.drop (v.L.length - r.length) ∧ q.1.length + 12 * bulkL r + 12 * (q.2.map fun k => k.length + 1).sum + 40 ≤ 100000000) ([], v.Keys) (by omega)
        ⟨by simp, by simp only [List.length_nil]; omega⟩ ?_ ?_
      · intro i x r q hr hq
        obtain ⟨acc, ks⟩ := q
        obtain ⟨q1, q2⟩ := hq
        simp only at q1 q2
        obtain ⟨h1, h2, h3⟩ := getI_drop hr
        have hi : ((i : Int) < ((v.L.length : Nat) : Int)) := by omega
        have hri : v.L.length - (x :: r).length = i := by
          have := congrArg List.length hr; simp at this; simp only [List.length_cons]; omega
        have hri2 : v.L.length - r.length = i + 1 := by
          have := congrArg List.length hr; simp at this; omega
        rw [hri] at q1
        simp only [bulkL, List.length_cons] at q2
        have hwl := writeD_length x (okL_mem hoL h3)
        have htail : ks.tail = v.Keys.drop (v.L.length - r.length) := by rw [q1, hri2, drop_tail]
        have hk : ((ks.tail).map fun k : Str => k.length + 1).sum + (ks.headD []).length ≤ (ks.map fun k => k.length + 1).sum := by
          cases ks with
          | nil => simp
          | cons k ks => simp only [List.tail_cons, List.headD_cons, List.map_cons, List.sum_cons]; omega
        have hq := quoteJ_length (ks.headD [])
        unfold rowsR
        cases hn : (named && (x.Kind == 0)) with
        | true =>
          simp only [if_true]
          refine ⟨?_, htail, by omega⟩
          simp only [credenzaref13_write_l1, hi, decide_true, if_true, h1, Option.bind_some, h6, hn, re25_eq]
          rw [wrap1 (by omega)]
        | false =>
          simp only [Bool.false_eq_true, if_false]
          refine ⟨?_, htail, by
            have c1 : ((if (acc == []) = true then [] else plainU [44] : Str)).length ≤ 2 := by cases (acc == []) <;> decide
            have c2 : ((if named then quoteJ (ks.headD []) ++ plainU [58] else [] : Str)).length ≤ 6 * (ks.headD []).length + 6 := by
              cases named with
              | true => simp only [if_true, List.length_append, plainU_length, List.length_cons, List.length_nil]; omega
              | false => simp only [Bool.false_eq_true, if_false, List.length_nil]; omega
            simp only [List.length_append]
            omega⟩
          have comma : (if (!(acc == ([] : Str))) = true then
      Option.bind (credenzaref01_U ([44] : Str)) fun r_15 =>
      Option.bind (catS acc r_15.1) fun s_16 =>
      credenzaref13_write_j2 (Rec_credenzaref13_write_g n) s_16 (i : Int) v.L ((v.L.length : Nat) : Int) (i : Int) v x
      else
       credenzaref13_write_j2 (Rec_credenzaref13_write_g n) acc (i : Int) v.L ((v.L.length : Nat) : Int) (i : Int) v x) = credenzaref13_write_j2 (Rec_credenzaref13_write_g n) (acc ++ (if (acc == []) = true then [] else plainU [44])) (i : Int) v.L ((v.L.length : Nat) : Int) (i : Int) v x := by
            cases hac : (acc == []) with
            | true => simp
            | false =>
              simp only [Bool.not_false, if_true, Bool.false_eq_true, if_false]
              rw [u_ok _ (by decide) (by simp)]
              simp only [Option.bind_some]
              rw [catS_ok (by simp only [plainU_length, List.length_cons, List.length_nil]; omega)]
              rfl
          simp only [credenzaref13_write_l1, hi, decide_true, if_true, h1, Option.bind_some, h6, hn, Bool.false_eq_true, if_false, re25_eq]
          refine comma.trans ?_
          unfold credenzaref13_write_j2 credenzaref13_write_j3
          simp only [re25_eq, h6]
          have c1 : ((if (acc == []) = true then [] else plainU [44] : Str)).length ≤ 2 := by cases (acc == []) <;> decide
          generalize (if (acc == []) = true then [] else plainU [44] : Str) = cm at c1 ⊢
          cases named with
          | true =>
            simp only [if_true]
            have hlt : i < v.Keys.length := by have := hks rfl; omega
            have hkey : getI v.Keys (i : Int) = some (ks.headD []) := by
              rw [getI_nat, q1, List.drop_eq_getElem_cons hlt, List.headD_cons]
              exact List.getElem?_eq_getElem hlt
            have hmem : ks.headD [] ∈ v.Keys := by rw [getI_nat] at hkey; exact List.mem_of_getElem? hkey
            have hkl := mem_sum1 hmem
            rw [hkey]
            simp only [Option.bind_some]
            rw [quoted_eq _ (by omega), u_ok [58] (by decide) (by simp)]
            simp only [Option.bind_some]
            rw [catS_ok (by simp only [plainU_length, List.length_cons, List.length_nil]; omega)]
            simp only [Option.bind_some]
            rw [catS_ok (by simp only [List.length_append, plainU_length, List.length_cons, List.length_nil]; omega)]
            simp only [Option.bind_some]
            rw [ih x h3]
            simp only [Option.bind_some]
            rw [catS_ok (by simp only [List.length_append, plainU_length, List.length_cons, List.length_nil]; omega)]
            simp only [Option.bind_some]
            rw [wrap1 (by omega)]
            simp
          | false =>
            simp only [Bool.false_eq_true, if_false]
            rw [ih x h3]
            simp only [Option.bind_some]
            rw [catS_ok (by simp only [List.length_append]; omega)]
            simp only [Option.bind_some]
            rw [wrap1 (by omega)]
            simp
      · intro q hq
        have hi : ¬ (((v.L.length : Nat) : Int) < ((v.L.length : Nat) : Int)) := by omega
        simp only [credenzaref13_write_l1, hi, decide_false, Bool.false_eq_true, if_false]
        exact hout q.1 (by omega)
    by_cases k5 : (v.Kind == 5) = true
    · simp only [k5, if_true]
      have e5 : v.Kind = 5 := eq_of_beq k5
      rw [rows false 91 93 (by rw [e5]; rfl) (by rw [e5]; rfl) (by intro h; cases h) (fun a ha => by
        rw [k5]
        simp only [if_true]
        rw [u_ok [91] (by decide) (by simp), u_ok [93] (by decide) (by simp)]
        simp only [Option.bind_some]
        rw [catS_ok (by simp only [plainU_length, List.length_cons, List.length_nil]; omega)]
        simp only [Option.bind_some]
        rw [catS_ok (by simp only [List.length_append, plainU_length, List.length_cons, List.length_nil]; omega)]
        rfl), rowsR_list]
      simp
    have k5' : (v.Kind == 5) = false := by simpa using k5
    simp only [k5', Bool.false_eq_true, if_false]
    have k6 : (v.Kind == 6) = true := by
      unfold ownD at hown
      simp only [k0', k1', k2', k4', k5', Bool.false_eq_true, if_false] at hown
      cases h6 : v.Kind == 6 with
      | true => rfl
      | false =>
        rw [h6] at hown
        have k3' : (v.Kind == 3) = false := by simpa using k3
        simp [k3'] at hown
    simp only [k6, if_true]
    have e6 : v.Kind = 6 := eq_of_beq k6
    have hks : v.Keys.length = v.L.length := by
      unfold ownD at hown
      rw [e6] at hown
      simp [keysP] at hown
      exact hown.2.2
    rw [rows true 123 125 k6 (by rw [e6]; rfl) (fun _ => hks) (fun a ha => by
        rw [k5']
        simp only [Bool.false_eq_true, if_false]
        rw [u_ok [123] (by decide) (by simp), u_ok [125] (by decide) (by simp)]
        simp only [Option.bind_some]
        rw [catS_ok (by simp only [plainU_length, List.length_cons, List.length_nil]; omega)]
        simp only [Option.bind_some]
        rw [catS_ok (by simp only [List.length_append, plainU_length, List.length_cons, List.length_nil]; omega)]
        rfl), rowsR_rec]
    simp
theorem refWrite_eq (v : Data) (hb : bulkD v ≤ 1048576) (ho : okD v) : credenzaref13_Write v = some ((WriteP v).1, (WriteP v).2, ()) := by
  have hd := deep_bulk v
  have hwl := writeD_length v ho
  have hev := writeD_even v
  unfold credenzaref13_Write WriteP
  rw [re25_eq, ref03_Check_eq v hb]
  simp only [Option.bind_some]
  by_cases hc : checkP v = 0
  · have h0 : (checkP v != 0) = false := by simpa using hc
    simp only [h0, Bool.false_eq_true, if_false, hc, ne_eq, not_true_eq_false]
    by_cases k0 : (v.Kind == 0) = true
    · simp [k0]
    · have k0' : (v.Kind == 0) = false := by simpa using k0
      simp only [k0', Bool.false_eq_true, if_false]
      have hw : credenzaref13_write v = some (writeD v, ()) := refWrite_n 1000000000000 v (by omega) hb ho (check_may hc).1
      rw [hw]
      simp only [Option.bind_some]
      rw [len_eq _ (by omega)]
      simp only [Option.bind_some]
      by_cases hl : 8192 < (writeD v).length
      · have : (((writeD v).length / 2 : Nat) : Int) > 4096 := by omega
        rw [if_pos hl, if_neg (by decide)]
        simp only [this, decide_true, if_true]
      · have : ¬ ((((writeD v).length / 2 : Nat) : Int) > 4096) := by omega
        rw [if_neg hl, if_neg (by decide)]
        simp only [this, decide_false, Bool.false_eq_true, if_false]
  · have h0 : (checkP v != 0) = true := by simpa using hc
    simp only [h0, if_true, hc, ne_eq, not_false_eq_true]
end Go.D13


/- Chapter 13, plainly: the parser without forks; the chapter's examples; JsonWrites. -/
namespace Go.D13
open Go Go.Gw Go.Dn
set_option linter.unusedSimpArgs false
set_option linter.unusedVariables false
set_option maxRecDepth 100000

theorem getI_last {α : Type} (l : List α) (x : α) : getI (l ++ [x]) ((l.length : Nat) : Int) = some x := by rw [getI_nat]; simp
theorem set_last {α : Type} (l : List α) (x y : α) : (l ++ [x]).set ((l.length : Nat) : Int).toNat y = l ++ [y] := by simp
abbrev RowsR := Option ((GErr × T_json_parser × Int × Int × Str × (List Str) × (List T_api_Data) × Unit) ⊕ (T_json_parser × Int × Int × Str × (List Str) × (List T_api_Data) × Unit))
/-- an element of a list -/
def elem_p (g : Rec_json_parser_value) (x : T_json_parser) (Kind : Int) (N : Int) (S : Str) (l : List Str) (l2 : List T_api_Data) : RowsR :=
  Option.bind (g.json_parser_value x) fun r =>
  match r with
  | Sum.inl r => some (Sum.inl (r.1, r.2.1, Kind, N, S, l, l2, ()))
  | Sum.inr r => Option.bind (room (l2.length + 1)) fun _ => some (Sum.inr (r.2.1, Kind, N, S, l, l2 ++ [r.1], ()))
theorem value_1_eq (g : Rec_json_parser_value) (x : T_json_parser) (Kind : Int) (N : Int) (S : Str) (l : List Str) (l2 : List T_api_Data) : json_parser_value_1_b g x Kind N S l l2 = elem_p g x Kind N S l l2 := by
  unfold json_parser_value_1_b elem_p
  simp only [re38_eq, re25_eq]
  cases g.json_parser_value x with
  | none => rfl
  | some r =>
    simp only [Option.bind_some]
    cases r with
    | inl r => rfl
    | inr r =>
      simp only [getI_last, set_last, Option.bind_some, fk_self, List.length_cons, List.length_nil, Nat.zero_add]
/-- a member of an object -/
def memb_p (g_ : Rec_json_parser_value) (x : T_json_parser) (Kind : Int) (N : Int) (S : Str) (l : List Str) (l2 : List T_api_Data) : RowsR :=
  Option.bind (json_parser_blanks x) fun r_1 =>
  Option.bind (json_parser_str r_1.2.1) fun r_2 =>
  (match r_2 with
  | Sum.inl r_3 => some (Sum.inl (r_3.1, r_3.2.1, Kind, N, S, l, l2, ()))
  | Sum.inr r_4 =>
   Option.bind (json_parser_blanks r_4.2.1) fun r_5 =>
   Option.bind (json_parser_need ([58] : Str) r_5.2.1) fun r_6 =>
   (match r_6 with
   | Sum.inl r_7 => some (Sum.inl (r_7.1, r_7.2.1, Kind, N, S, l, l2, ()))
   | Sum.inr r_8 =>
    Option.bind (g_.json_parser_value r_8.1) fun r_9 =>
    (match r_9 with
    | Sum.inl r_10 => some (Sum.inl (r_10.1, r_10.2.1, Kind, N, S, l, l2, ()))
    | Sum.inr r_11 =>
     Option.bind (slices_Index l r_4.1) fun r_12 =>
     if (decide (r_12.1 ≥ 0)) = true then
      Option.bind (getI l2 r_12.1) fun _ => some (Sum.inr (r_11.2.1, Kind, N, S, l, l2.set r_12.1.toNat r_11.1, ()))
     else
      Option.bind (room (l.length + 1)) fun _ =>
      Option.bind (room (l2.length + 1)) fun _ => some (Sum.inr (r_11.2.1, Kind, N, S, l ++ [r_4.1], l2 ++ [r_11.1], ())))))
theorem bind_twice {α β : Type} (o : Option α) (f : α → Option β) : (Option.bind o fun _ => Option.bind o f) = Option.bind o f := by cases o <;> rfl
theorem value_2_eq (g : Rec_json_parser_value) (x : T_json_parser) (Kind : Int) (N : Int) (S : Str) (l : List Str) (l2 : List T_api_Data) : json_parser_value_2_b g x Kind N S l l2 = memb_p g x Kind N S l l2 := by
  unfold json_parser_value_2_b memb_p
  simp only [re38_eq, re25_eq, fk_self, bind_twice, List.length_cons, List.length_nil, Nat.zero_add]
  rfl
def RecP : Nat → Rec_json_parser_value
  | 0 => ⟨fun _ => none, fun _ _ _ _ _ _ _ => none, fun _ _ _ _ _ _ => none, fun _ _ _ _ _ _ _ => none, fun _ _ _ _ _ _ => none⟩
  | n + 1 => ⟨json_parser_value_b (RecP n), json_parser_rows_b (RecP n), elem_p (RecP n), json_parser_rows_v2_b (RecP n), memb_p (RecP n)⟩
theorem rec_eq : ∀ n, Rec_json_parser_value_g n = RecP n
  | 0 => rfl
  | n + 1 => by
    have h1 : json_parser_value_1_b (RecP n) = elem_p (RecP n) := by funext a b c d e f; exact value_1_eq _ _ _ _ _ _ _
    have h2 : json_parser_value_2_b (RecP n) = memb_p (RecP n) := by funext a b c d e f; exact value_2_eq _ _ _ _ _ _ _
    show (⟨json_parser_value_b (Rec_json_parser_value_g n), json_parser_rows_b (Rec_json_parser_value_g n), json_parser_value_1_b (Rec_json_parser_value_g n), json_parser_rows_v2_b (Rec_json_parser_value_g n), json_parser_value_2_b (Rec_json_parser_value_g n)⟩ : Rec_json_parser_value) = _
    rw [rec_eq n, h1, h2]
    rfl
/-- Parse, over a reader of values -/
def ParseOver (f : T_json_parser → Option ((GErr × T_json_parser × Unit) ⊕ (T_api_Data × T_json_parser × Unit))) (u : Str) : Option (T_api_Data × Int × Unit) :=
  Option.bind (units_Check u) fun r_1 =>
  if (!r_1.1) = true then
   some ((⟨0, 0, ([] : Str), ([] : List Str), ([] : List T_api_Data)⟩ : T_api_Data), 150, ())
  else
   Option.bind (f (⟨u, 0, 0⟩ : T_json_parser)) fun r_2 =>
   (match r_2 with
   | Sum.inl r_3 =>
    if ((r_3.1).isNil) = true then
     some ((⟨0, 0, ([] : Str), ([] : List Str), ([] : List T_api_Data)⟩ : T_api_Data), 0, ())
    else
     Option.bind (assertE 26 r_3.1) fun r_4 =>
     if r_4.2 = true then
      some ((⟨0, 0, ([] : Str), ([] : List Str), ([] : List T_api_Data)⟩ : T_api_Data), r_4.1, ())
     else
      none
   | Sum.inr r_5 =>
    Option.bind (json_parser_blanks r_5.2.1) fun r_6 =>
    if (decide (r_6.1 ≥ 0)) = true then
      some ((⟨0, 0, ([] : Str), ([] : List Str), ([] : List T_api_Data)⟩ : T_api_Data), 150, ())
    else
      some (r_5.1, 0, ()))
theorem pan_none {R : Type} (e : GErr) : panE e (fun _ => (none : Option R)) = none := by cases e <;> rfl
theorem value_eq : json_parser_value = (RecP Lp.big).json_parser_value := by unfold json_parser_value; rw [rec_eq]
theorem parse_over (u : Str) : json_Parse u = ParseOver (RecP Lp.big).json_parser_value u := by
  unfold json_Parse ParseOver
  rw [value_eq]
  simp only [re38_eq, re25_eq, pan_none]
  rfl
theorem live_true : credenzalaw13_live = some (true, ()) := by
  unfold credenzalaw13_live
  simp only [parse_over]
  kernel_rfl
theorem writes_law (v : Data) (hb : bulkD v ≤ 1048576) (ho : okD v) : credenzalaw13_JsonWrites v = some (true, ()) := by
  unfold credenzalaw13_JsonWrites
  rw [re25_eq, json_Write_eq v hb ho, refWrite_eq v hb ho, live_true]
  simp
end Go.D13

