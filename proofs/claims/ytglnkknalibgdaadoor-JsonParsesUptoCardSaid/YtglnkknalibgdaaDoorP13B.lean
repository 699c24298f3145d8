/- Several texts in one. -/
import Derived.Test.YtglnkknalibgdaaDoorP13A
set_option linter.unusedVariables false
set_option linter.unusedSimpArgs false
set_option linter.unnecessarySimpa false
/- Chapter 13, plainly: the parser's small parts over what lies ahead. -/
namespace Go.D13
open Go Go.Gw Go.Dn
set_option linter.unusedSimpArgs false
set_option linter.unusedVariables false
set_option maxRecDepth 100000

/-- the parser at unit k -/
abbrev px (u : Str) (k : Nat) (d : Nat) : T_json_parser := ⟨u, (k : Int), (d : Int)⟩
/-- what lies ahead at unit k -/
def At (u : Str) (k : Nat) (r : List Nat) : Prop := (unitsL u).drop k = r
def hdI : List Nat → Int
  | [] => -1
  | n :: _ => (n : Int)
theorem At.get {u : Str} {k n : Nat} {r : List Nat} (h : At u k (n :: r)) : (unitsL u)[k]? = some n := by
  have hk : k < (unitsL u).length := by
    rcases Nat.lt_or_ge k (unitsL u).length with h1 | h1
    · exact h1
    · unfold At at h; rw [List.drop_of_length_le h1] at h; cases h
  unfold At at h
  rw [List.drop_eq_getElem_cons hk] at h
  cases h
  exact List.getElem?_eq_getElem hk
theorem At.tail {u : Str} {k n : Nat} {r : List Nat} (h : At u k (n :: r)) : At u (k + 1) r := by
  unfold At at *
  rw [← List.tail_drop, h]; rfl
theorem At.skip {u : Str} {k : Nat} : ∀ {a r : List Nat}, At u k (a ++ r) → At u (k + a.length) r
  | [], r, h => h
  | n :: a, r, h => by
    have := At.skip (a := a) (At.tail (n := n) h)
    rw [show k + (n :: a).length = k + 1 + a.length by simp only [List.length_cons]; omega]
    exact this
theorem At.le {u : Str} {k n : Nat} {r : List Nat} (h : At u k (n :: r)) : 2 * k + 2 ≤ u.length := by
  have := (List.getElem?_eq_some_iff.1 h.get).1
  rw [unitsL_length] at this
  omega
theorem At.lt {u : Str} {k n : Nat} {r : List Nat} (h : At u k (n :: r)) : n < 65536 := unitsL_lt u n (List.mem_of_getElem? h.get)
theorem next_eq {u : Str} {k d : Nat} {r : List Nat} (hu : u.length ≤ 1000000000) (h : At u k r) : json_parser_next (px u k d) = some (hdI r, px u k d, ()) := by
  unfold json_parser_next
  show (Option.bind (units_At u (k : Int)) fun r_1 => some (r_1.1, re38 (px u k d), ())) = _
  rw [units_At_eq u _ (by omega), re38_eq]
  simp only [Option.bind_some]
  cases r with
  | nil =>
    rw [unitAt_end u k]
    · rfl
    · unfold At at h
      have := congrArg List.length h
      simp at this
      omega
  | cons n r => rw [unitAt_nat u k n h.get]; rfl
theorem fwd {u : Str} {k d n : Nat} {r : List Nat} (hu : u.length ≤ 1000000000) (h : At u k (n :: r)) : (⟨u, IntKind.wrap .i64 ((k : Int) + 1), (d : Int)⟩ : T_json_parser) = px u (k + 1) d := by
  have := h.le
  rw [wrap1 (by omega)]
def blankN (n : Nat) : Bool := n == 9 || n == 10 || n == 13 || n == 32
theorem blank_hd (n : Nat) : (((n : Int) != 9) && ((n : Int) != 10) && ((n : Int) != 13) && ((n : Int) != 32)) = !blankN n := by
  have e1 : ((n : Int) != 9) = !(n == 9) := by rw [Bool.eq_iff_iff]; simp; omega
  have e2 : ((n : Int) != 10) = !(n == 10) := by rw [Bool.eq_iff_iff]; simp; omega
  have e3 : ((n : Int) != 13) = !(n == 13) := by rw [Bool.eq_iff_iff]; simp; omega
  have e4 : ((n : Int) != 32) = !(n == 32) := by rw [Bool.eq_iff_iff]; simp; omega
  unfold blankN
  rw [e1, e2, e3, e4]
  cases n == 9 <;> cases n == 10 <;> cases n == 13 <;> cases n == 32 <;> rfl
theorem blanks_n {u : Str} {d : Nat} {r : List Nat} (hu : u.length ≤ 1000000000) (hr : (match r with | [] => true | n :: _ => !blankN n) = true) : ∀ (b : List Nat) (k : Nat), (∀ n ∈ b, blankN n = true) → At u k (b ++ r) →
    loopN json_parser_blanks_l1 (b.length + 1) (px u k d, ()) = some (hdI r, px u (k + b.length) d, ())
  | [], k, _, h => by
    refine loopN_out ?_
    show json_parser_blanks_l1 (px u k d, ()) = _
    unfold json_parser_blanks_l1
    simp only [re38_eq]
    rw [next_eq hu h]
    simp only [Option.bind_some]
    cases r with
    | nil => rfl
    | cons n r =>
      exact if_pos ((blank_hd n).trans hr)
  | n :: b, k, hb, h => by
    have hn := hb n List.mem_cons_self
    have := blanks_n (d := d) hu hr b (k + 1) (fun m hm => hb m (List.mem_cons_of_mem _ hm)) (At.tail h)
    rw [List.length_cons, loopN_go (s' := (px u (k + 1) d, ()))]
    · rw [this, show k + 1 + b.length = k + (b.length + 1) by omega]
    · unfold json_parser_blanks_l1
      simp only [re38_eq]
      rw [next_eq hu h]
      simp only [Option.bind_some, List.cons_append, hdI]
      rw [blank_hd, hn]
      simp only [Bool.not_true, Bool.false_eq_true, if_false]
      rw [fwd hu (n := n) (r := b ++ r) h]
theorem blanks_eq {u : Str} {k d : Nat} {b r : List Nat} (hu : u.length ≤ 1000000000) (hb : ∀ n ∈ b, blankN n = true) (hr : (match r with | [] => true | n :: _ => !blankN n) = true) (h : At u k (b ++ r)) :
    json_parser_blanks (px u k d) = some (hdI r, px u (k + b.length) d, ()) := by
  have hl : b.length ≤ 1000000000 := by
    have := congrArg List.length h
    rw [List.length_drop, unitsL_length, List.length_append] at this
    omega
  unfold json_parser_blanks
  rw [re38_eq]
  exact loop_of (blanks_n hu hr b k hb h) (by omega)
end Go.D13


/- Chapter 13, plainly: the parser reads a string's literal. -/
namespace Go.D13
open Go Go.Gw Go.Dn
set_option linter.unusedSimpArgs false
set_option linter.unusedVariables false
set_option maxRecDepth 100000

theorem write3 (s l : Str) (h : l.length + s.length ≤ 200000000000) : strings_Builder_WriteString_v3 s l = some (((s.length : Nat) : Int), GErr.nil, l ++ s, ()) := by
  unfold strings_Builder_WriteString_v3
  rw [room_ok (by omega)]
  rfl
theorem wrap_u8n (n : Nat) (h : n < 256) : IntKind.wrap .u8 (n : Int) = (n : Int) := wrap_u8 (by omega) (by omega)
theorem or_nibble (x y : Nat) (hx : x < 4096) (hy : y < 16) : IntKind.wrap .i64 ((BitVec.ofInt 64 (IntKind.wrap .i64 ((x : Int) * 2 ^ 4)) ||| BitVec.ofInt 64 (y : Int)).toNat) = ((x * 16 + y : Nat) : Int) := by
  have e3 : ((x : Int) * 2 ^ 4) = ((x * 16 : Nat) : Int) := by simp
  rw [e3, wrap_i64 (n := ((x * 16 : Nat) : Int)) (by omega) (by omega), BitVec.toNat_or]
  have e4 : (BitVec.ofInt 64 ((x * 16 : Nat) : Int)).toNat = x * 16 := by rw [BitVec.ofInt_natCast, BitVec.toNat_ofNat]; omega
  have e5 : (BitVec.ofInt 64 (y : Int)).toNat = y := by rw [BitVec.ofInt_natCast, BitVec.toNat_ofNat]; omega
  rw [e4, e5]
  have e6 : x * 16 ||| y = x * 16 + y := by
    have := Nat.shiftLeft_add_eq_or_of_lt (b := y) (i := 4) hy x
    rw [Nat.shiftLeft_eq] at this
    exact this.symm
  rw [e6, wrap_i64 (by omega) (by omega)]
theorem unit2_small (n : Nat) (h : n < 256) : unit2 n = [0, UInt8.ofNat n] := by
  unfold unit2
  rw [show n / 256 = 0 by omega, show n % 256 = n by omega]
  rfl
end Go.D13


/- Chapter 13, plainly: the parser reads a number; a value; rows. -/
namespace Go.D13
open Go Go.Gw Go.Dn
set_option linter.unusedSimpArgs false
set_option linter.unusedVariables false
set_option maxRecDepth 100000

/-! ### numbers -/
/-! ### rows -/
abbrev RowF := T_json_parser → Int → Int → Str → List Str → List Data → RowsR
def rowsStep (f : RowF) : Int × T_json_parser × Int × Int × Str × (List Str) × (List T_api_Data) × Unit → Option ((Int × T_json_parser × Int × Int × Str × (List Str) × (List T_api_Data) × Unit) ⊕ ((GErr × T_json_parser × Int × Int × Str × (List Str) × (List T_api_Data) × Unit) ⊕ (T_json_parser × Int × Int × Str × (List Str) × (List T_api_Data) × Unit)))
  | (shut_9, x_10, Kind_11, N_12, S_13, l_14, l_15, ()) =>
    Option.bind (json_parser_blanks x_10) fun r_16 =>
    if (r_16.1 != shut_9) = true then
     Option.bind (json_parser_need ([44] : Str) r_16.2.1) fun r_17 =>
     (match r_17 with
     | Sum.inl r_18 => some (Sum.inr (Sum.inl (r_18.1, r_18.2.1, Kind_11, N_12, S_13, l_14, l_15, ())))
     | Sum.inr r_19 =>
      Option.bind (f r_19.1 Kind_11 N_12 S_13 l_14 l_15) fun r_20 =>
      (match r_20 with
      | Sum.inl r_21 => some (Sum.inr (Sum.inl (r_21.1, r_21.2.1, r_21.2.2.1, r_21.2.2.2.1, r_21.2.2.2.2.1, r_21.2.2.2.2.2.1, r_21.2.2.2.2.2.2.1, ())))
      | Sum.inr r_22 => some (Sum.inl (shut_9, r_22.1, r_22.2.1, r_22.2.2.1, r_22.2.2.2.1, r_22.2.2.2.2.1, r_22.2.2.2.2.2.1, ()))))
    else
     some (Sum.inr (Sum.inr ((⟨r_16.2.1.u, IntKind.wrap .i64 (r_16.2.1.at_ + 1), IntKind.wrap .i64 (r_16.2.1.deep - 1)⟩ : T_json_parser), Kind_11, N_12, S_13, l_14, l_15, ())))
theorem rows_l1_eq (g : Rec_json_parser_value) : json_parser_rows_l1 g = rowsStep g.json_parser_value_1 := by
  funext s
  obtain ⟨a, b, c, d, e, f, h, ⟨⟩⟩ := s
  simp only [json_parser_rows_l1, rowsStep, re38_eq] <;> rfl
theorem rows2_l1_eq (g : Rec_json_parser_value) : json_parser_rows_v2_l1 g = rowsStep g.json_parser_value_2 := by
  funext s
  obtain ⟨a, b, c, d, e, f, h, ⟨⟩⟩ := s
  simp only [json_parser_rows_v2_l1, rowsStep, re38_eq] <;> rfl
def rowsTop (f : RowF) (shut : Int) (x : T_json_parser) (Kind : Int) (N : Int) (S : Str) (l : List Str) (l2 : List T_api_Data) : RowsR :=
  Option.bind (json_parser_blanks (⟨x.u, IntKind.wrap .i64 (x.at_ + 1), IntKind.wrap .i64 (x.deep + 1)⟩ : T_json_parser)) fun r_3 =>
  if (r_3.1 != shut) = true then
   Option.bind (f r_3.2.1 Kind N S l l2) fun r_4 =>
   (match r_4 with
   | Sum.inl r_5 => some (Sum.inl (r_5.1, r_5.2.1, r_5.2.2.1, r_5.2.2.2.1, r_5.2.2.2.2.1, r_5.2.2.2.2.2.1, r_5.2.2.2.2.2.2.1, ()))
   | Sum.inr r_6 => Lp.loop (rowsStep f) (shut, r_6.1, r_6.2.1, r_6.2.2.1, r_6.2.2.2.1, r_6.2.2.2.2.1, r_6.2.2.2.2.2.1, ()))
  else
   some (Sum.inr ((⟨r_3.2.1.u, IntKind.wrap .i64 (r_3.2.1.at_ + 1), IntKind.wrap .i64 (r_3.2.1.deep - 1)⟩ : T_json_parser), Kind, N, S, l, l2, ()))
theorem rows_b_eq (g : Rec_json_parser_value) (shut : Int) (x : T_json_parser) (K N : Int) (S : Str) (l : List Str) (l2 : List Data) : json_parser_rows_b g shut x K N S l l2 = rowsTop g.json_parser_value_1 shut x K N S l l2 := by
  unfold json_parser_rows_b rowsTop
  simp only [re38_eq, rows_l1_eq] <;> rfl
theorem rows2_b_eq (g : Rec_json_parser_value) (shut : Int) (x : T_json_parser) (K N : Int) (S : Str) (l : List Str) (l2 : List Data) : json_parser_rows_v2_b g shut x K N S l l2 = rowsTop g.json_parser_value_2 shut x K N S l l2 := by
  unfold json_parser_rows_v2_b rowsTop
  simp only [re38_eq, rows2_l1_eq] <;> rfl
end Go.D13


/- Chapter 13, plainly: what is written is read back. -/
namespace Go.D13
open Go Go.Gw Go.Dn
set_option linter.unusedSimpArgs false
set_option linter.unusedVariables false
set_option maxRecDepth 100000

mutual
/-- nothing in it is undefined -/
def fullD : Data → Bool
  | ⟨k, _, _, _, l⟩ => !(k == 0) && fullL l
def fullL : List Data → Bool
  | [] => true
  | x :: r => fullD x && fullL r
end
/-! ### what a value begins with -/
def starts : List Nat := [110, 116, 102, 34, 91, 123, 45, 48, 49, 50, 51, 52, 53, 54, 55, 56, 57]
theorem starts_ok : ∀ n ∈ starts, blankN n = false ∧ n < 128 ∧ n ≠ 93 ∧ n ≠ 125 ∧ 0 ≤ Lib.indexByte ([110, 116, 102, 34, 91, 123, 45, 48, 49, 50, 51, 52, 53, 54, 55, 56, 57] : Str) ((n : Int).toNat.toUInt8) := by decide
def valT (g_ : Rec_json_parser_value) (n : Int) (x : T_json_parser) : Option ((GErr × T_json_parser × Unit) ⊕ (T_api_Data × T_json_parser × Unit)) :=
     if (n == 110) = true then
      Option.bind (json_parser_need ([110, 117, 108, 108] : Str) x) fun r_7 =>
      (match r_7 with
      | Sum.inl r_8 => some (Sum.inl (r_8.1, r_8.2.1, ()))
      | Sum.inr r_9 => some (Sum.inr ((⟨1, 0, ([] : Str), ([] : List Str), ([] : List T_api_Data)⟩ : T_api_Data), r_9.1, ())))
     else
      if (n == 116) = true then
       Option.bind (json_parser_need ([116, 114, 117, 101] : Str) x) fun r_10 =>
       (match r_10 with
       | Sum.inl r_11 => some (Sum.inl (r_11.1, r_11.2.1, ()))
       | Sum.inr r_12 => some (Sum.inr ((⟨2, 1, ([] : Str), ([] : List Str), ([] : List T_api_Data)⟩ : T_api_Data), r_12.1, ())))
      else
       if (n == 102) = true then
        Option.bind (json_parser_need ([102, 97, 108, 115, 101] : Str) x) fun r_13 =>
        (match r_13 with
        | Sum.inl r_14 => some (Sum.inl (r_14.1, r_14.2.1, ()))
        | Sum.inr r_15 => some (Sum.inr ((⟨2, 0, ([] : Str), ([] : List Str), ([] : List T_api_Data)⟩ : T_api_Data), r_15.1, ())))
       else
        if (n == 34) = true then
         Option.bind (json_parser_str x) fun r_16 =>
         (match r_16 with
         | Sum.inl r_17 => some (Sum.inl (r_17.1, r_17.2.1, ()))
         | Sum.inr r_18 => some (Sum.inr ((⟨4, 0, r_18.1, ([] : List Str), ([] : List T_api_Data)⟩ : T_api_Data), r_18.2.1, ())))
        else
         if (n == 91) = true then
          Option.bind (g_.json_parser_rows 93 x 5 0 ([] : Str) ([] : List Str) ([] : List T_api_Data)) fun r_19 =>
          (match r_19 with
          | Sum.inl r_20 => some (Sum.inl (r_20.1, r_20.2.1, ()))
          | Sum.inr r_21 => some (Sum.inr ((⟨r_21.2.1, r_21.2.2.1, r_21.2.2.2.1, r_21.2.2.2.2.1, r_21.2.2.2.2.2.1⟩ : T_api_Data), r_21.1, ())))
         else
          if (n == 123) = true then
           Option.bind (g_.json_parser_rows_v2 125 x 6 0 ([] : Str) ([] : List Str) ([] : List T_api_Data)) fun r_22 =>
           (match r_22 with
           | Sum.inl r_23 => some (Sum.inl (r_23.1, r_23.2.1, ()))
           | Sum.inr r_24 => some (Sum.inr ((⟨r_24.2.1, r_24.2.2.1, r_24.2.2.2.1, r_24.2.2.2.2.1, r_24.2.2.2.2.2.1⟩ : T_api_Data), r_24.1, ())))
          else
           Option.bind (json_parser_number x) fun r_25 =>
           (match r_25 with
           | Sum.inl r_26 => some (Sum.inl (r_26.1, r_26.2.1, ()))
           | Sum.inr r_27 => some (Sum.inr (r_27.1, r_27.2.1, ())))
/-! ### a list's elements -/
theorem deep_back (d : Nat) (hd : d < 1000000) : IntKind.wrap .i64 (((d + 1 : Nat) : Int) - 1) = (d : Int) := by rw [wrap_i64 (by omega) (by omega)]; omega
end Go.D13


/- Chapter 13, plainly: an object's members; what is written is read back. -/
namespace Go.D13
open Go Go.Gw Go.Dn
set_option linter.unusedSimpArgs false
set_option linter.unusedVariables false
set_option maxRecDepth 100000

end Go.D13


/- Chapter 13, plainly: JsonBack. -/
namespace Go.D13
open Go Go.Gw Go.Dn
set_option linter.unusedSimpArgs false
set_option linter.unusedVariables false
set_option maxRecDepth 100000

end Go.D13


/- Chapter 13, plainly: JsonBack's law. -/
namespace Go.D13
open Go Go.Gw Go.Dn
set_option linter.unusedSimpArgs false
set_option linter.unusedVariables false
set_option maxRecDepth 100000

theorem same_keys {g : Rec_credenzaref03_Same} (v : Data) (hl : v.L.length ≤ 1000000000) (hk : v.Keys.length ≤ 1000000000) (hx : ∀ x ∈ v.L, g.credenzaref03_Same x x = some (true, ())) : Lp.loop (credenzaref03_Same_l1 g) (((v.Keys.length : Nat) : Int), 0, v, v, ()) = some (true, ()) := by
  have h2 := loop_all (step := credenzaref03_Same_l2 g) (fun (_ : Unit) i => (((v.L.length : Nat) : Int), (i : Int), v, v, ())) v.L (fun a _ => .inl a) (fun _ => (true, ())) (fun _ _ => True) () (by omega) trivial
    (fun i x t a ht _ => by
      obtain ⟨h1, h2, h3⟩ := getI_drop ht
      have hi : ((i : Int) < ((v.L.length : Nat) : Int)) := by omega
      refine ⟨?_, trivial⟩
      simp only [credenzaref03_Same_l2, hi, decide_true, if_true, h1, Option.bind_some, re25_eq, hx x h3, Bool.not_true, Bool.false_eq_true, if_false]
      rw [wrap1 (by omega)])
    (fun a _ => by
      have hi : ¬ (((v.L.length : Nat) : Int) < ((v.L.length : Nat) : Int)) := by omega
      simp only [credenzaref03_Same_l2, hi, decide_false, Bool.false_eq_true, if_false])
  have f2 : ∀ t : List Data, foldE (fun (a : Unit) (_ : Data) => (.inl a : Unit ⊕ (Bool × Unit))) (fun _ => (true, ())) () t = (true, ()) := by
    intro t
    induction t with
    | nil => rfl
    | cons x t ih => rw [foldE_inl rfl, ih]
  rw [f2] at h2
  have h1 := loop_all (step := credenzaref03_Same_l1 g) (fun (_ : Unit) i => (((v.Keys.length : Nat) : Int), (i : Int), v, v, ())) v.Keys (fun a _ => .inl a) (fun _ => (true, ())) (fun _ _ => True) () (by omega) trivial
    (fun i x t a ht _ => by
      obtain ⟨h1, h2, h3⟩ := getI_drop ht
      have hi : ((i : Int) < ((v.Keys.length : Nat) : Int)) := by omega
      refine ⟨?_, trivial⟩
      simp only [credenzaref03_Same_l1, hi, decide_true, if_true, h1, Option.bind_some, re25_eq, beq_self_eq_true, Bool.not_true, Bool.false_eq_true, if_false]
      rw [wrap1 (by omega)])
    (fun a _ => by
      have hi : ¬ (((v.Keys.length : Nat) : Int) < ((v.Keys.length : Nat) : Int)) := by omega
      simp only [credenzaref03_Same_l1, hi, decide_false, Bool.false_eq_true, if_false, re25_eq]
      rw [show Lp.loop (credenzaref03_Same_l2 g) (((v.L.length : Nat) : Int), 0, v, v, ()) = _ from h2]
      rfl)
  refine (show Lp.loop (credenzaref03_Same_l1 g) (((v.Keys.length : Nat) : Int), 0, v, v, ()) = _ from h1).trans ?_
  have f1 : ∀ t : List Str, foldE (fun (a : Unit) (_ : Str) => (.inl a : Unit ⊕ (Bool × Unit))) (fun _ => (true, ())) () t = (true, ()) := by
    intro t
    induction t with
    | nil => rfl
    | cons x t ih => rw [foldE_inl rfl, ih]
  rw [f1]
end Go.D13


/- Chapter 13, plainly: a plain parser of units; what the program's parser answers is what it answers. -/
namespace Go.D13
open Go Go.Gw Go.Dn
set_option linter.unusedSimpArgs false
set_option linter.unusedVariables false
set_option maxRecDepth 100000

/-! ### the plain parser -/
def blk (l : List Nat) : List Nat := l.dropWhile blankN
def needP : List Nat → List Nat → Option (List Nat)
  | [], l => some l
  | c :: s, n :: l => if n = c then needP s l else none
  | _ :: _, [] => none
def hexDg (n : Nat) : Option Nat := if 48 ≤ n ∧ n ≤ 57 then some (n - 48) else if 97 ≤ n ∧ n ≤ 102 then some (n - 87) else if 65 ≤ n ∧ n ≤ 70 then some (n - 55) else none
def hexP : Nat → Nat → List Nat → Option (Nat × List Nat)
  | 0, a, l => some (a, l)
  | _ + 1, _, [] => none
  | k + 1, a, n :: l => match hexDg n with | some d => hexP k (a * 16 + d) l | none => none
def escP (c : Nat) : Option Nat := if c = 34 then some 34 else if c = 92 then some 92 else if c = 47 then some 47 else if c = 98 then some 8 else if c = 102 then some 12 else if c = 110 then some 10 else if c = 114 then some 13 else if c = 116 then some 9 else none
/-- one unit of a string's literal; none: it is none -/
def oneP : List Nat → Option (Nat × List Nat)
  | [] => none
  | n :: l => if n = 92 then (match l with
      | [] => none
      | c :: t => if c = 117 then hexP 4 0 t else (match escP c with | some v => some (v, t) | none => none)) else some (n, l)
def strP : Nat → List Nat → List Nat → Option (List Nat × List Nat)
  | 0, _, _ => none
  | _ + 1, _, [] => none
  | f + 1, acc, n :: l => if n < 32 then none else if n = 34 then some (acc, l) else match oneP (n :: l) with | some (v, l') => strP f (acc ++ [v]) l' | none => none
def numL : Bool → Nat → List Nat → Option (Nat × List Nat)
  | first, a, [] => if first then none else some (a, [])
  | first, a, n :: l => if (n < 48 ∨ 57 < n) ∨ (first = false ∧ a = 0) then (if first then none else some (a, n :: l)) else if 9007199254740991 < 10 * a + (n - 48) then none else numL false (10 * a + (n - 48)) l
def numberP (l : List Nat) : Option (Int × List Nat) := match l with
  | 45 :: t => (numL true 0 t).map fun p => (-(p.1 : Int), p.2)
  | l => (numL true 0 l).map fun p => ((p.1 : Int), p.2)
abbrev Acc := List Str × List Data
def textP (l : List Nat) : Option (Str × List Nat) := match needP [34] l with
  | none => none
  | some l => (strP (l.length + 1) [] l).map fun p => (p.1.flatMap unit2, p.2)
def putP (a : Acc) (key : Str) (x : Data) : Acc := match a.1.findIdx? (· == key) with
  | some i => (a.1, a.2.set i x)
  | none => (a.1 ++ [key], a.2 ++ [x])
abbrev ValF := List Nat → Int ⊕ (Data × List Nat)
def elemP (f : ValF) (a : Acc) (l : List Nat) : Int ⊕ (Acc × List Nat) := match f l with
  | .inl e => .inl e
  | .inr (x, l') => .inr ((a.1, a.2 ++ [x]), l')
def membP (f : ValF) (a : Acc) (l : List Nat) : Int ⊕ (Acc × List Nat) := match textP (blk l) with
  | none => .inl 150
  | some (key, l1) => match needP [58] (blk l1) with
    | none => .inl 150
    | some l2 => match f l2 with
      | .inl e => .inl e
      | .inr (x, l3) => .inr (putP a key x, l3)
def loopP (f : Acc → List Nat → Int ⊕ (Acc × List Nat)) (shut : Nat) : Nat → Acc → List Nat → Int ⊕ (Acc × List Nat)
  | 0, _, _ => .inl 150
  | n + 1, a, l => match blk l with
    | [] => .inl 150
    | c :: t => if c = shut then .inr (a, t) else if c = 44 then (match f a t with | .inl e => .inl e | .inr (a', l') => loopP f shut n a' l') else .inl 150
def rowsP (f : Acc → List Nat → Int ⊕ (Acc × List Nat)) (shut : Nat) (l : List Nat) : Int ⊕ (Acc × List Nat) := match blk l with
  | [] => (match f ([], []) [] with | .inl e => .inl e | .inr (a, l') => loopP f shut (l'.length + 1) a l')
  | c :: t => if c = shut then .inr (([], []), t) else (match f ([], []) (c :: t) with | .inl e => .inl e | .inr (a, l') => loopP f shut (l'.length + 1) a l')
def orErr {α β : Type} (o : Option α) (f : α → β) : Int ⊕ β := match o with | none => .inl 150 | some a => .inr (f a)
/-- what begins with c, where values within are read by f -/
def valC (f : ValF) (c : Nat) (t : List Nat) : Int ⊕ (Data × List Nat) :=
        if c = 110 then orErr (needP [110, 117, 108, 108] (c :: t)) fun l' => (⟨1, 0, [], [], []⟩, l')
        else if c = 116 then orErr (needP [116, 114, 117, 101] (c :: t)) fun l' => (⟨2, 1, [], [], []⟩, l')
        else if c = 102 then orErr (needP [102, 97, 108, 115, 101] (c :: t)) fun l' => (⟨2, 0, [], [], []⟩, l')
        else if c = 34 then orErr (textP (c :: t)) fun p => (⟨4, 0, p.1, [], []⟩, p.2)
        else if c = 91 then (match rowsP (elemP f) 93 t with | .inl e => .inl e | .inr (a, l') => .inr (⟨5, 0, [], a.1, a.2⟩, l'))
        else if c = 123 then (match rowsP (membP f) 125 t with | .inl e => .inl e | .inr (a, l') => .inr (⟨6, 0, [], a.1, a.2⟩, l'))
        else orErr (numberP (c :: t)) fun p => (⟨3, p.1, [], [], []⟩, p.2)
def valG (o : Option ValF) : ValF := fun l => match blk l with
    | [] => .inl 150
    | c :: t => if c ∈ starts then (match o with | none => .inl 31 | some f => valC f c t) else .inl 150
def valP : Nat → ValF
  | 0 => valG none
  | m + 1 => valG (some (valP m))
/-- the whole text -/
def docP (u : Str) : Data × Int := if evenP u then (match valP 20 (unitsL u) with
  | .inl e => (⟨0, 0, [], [], []⟩, e)
  | .inr (v, l) => (match blk l with | [] => (v, 0) | _ :: _ => (⟨0, 0, [], [], []⟩, 150))) else (⟨0, 0, [], [], []⟩, 150)

/-! ### how much is left -/
theorem blk_suf (l : List Nat) : blk l <:+ l := List.dropWhile_suffix _
theorem needP_suf : ∀ {s l l' : List Nat}, needP s l = some l' → l' <:+ l
  | [], l, l', h => by cases h; exact List.suffix_refl _
  | c :: s, n :: l, l', h => by
    simp only [needP] at h
    split at h
    · exact (needP_suf h).trans (List.suffix_cons _ _)
    · cases h
  | _ :: _, [], l', h => by cases h
theorem hexP_suf : ∀ {k a : Nat} {l : List Nat} {p : Nat × List Nat}, hexP k a l = some p → p.2 <:+ l
  | 0, a, l, p, h => by cases h; exact List.suffix_refl _
  | k + 1, a, [], p, h => by cases h
  | k + 1, a, n :: l, p, h => by
    simp only [hexP] at h
    split at h
    · exact (hexP_suf h).trans (List.suffix_cons _ _)
    · cases h
theorem oneP_suf {l : List Nat} {p : Nat × List Nat} (h : oneP l = some p) : ∃ n t, l = n :: t ∧ p.2 <:+ t := by
  cases l with
  | nil => cases h
  | cons n l =>
    refine ⟨n, l, rfl, ?_⟩
    simp only [oneP] at h
    split at h
    · split at h
      · cases h
      · split at h
        · exact (hexP_suf h).trans (List.suffix_cons _ _)
        · split at h
          · cases h; exact List.suffix_cons _ _
          · cases h
    · cases h; exact List.suffix_refl _
theorem strP_suf : ∀ {f : Nat} {acc l : List Nat} {p : List Nat × List Nat}, strP f acc l = some p → p.2 <:+ l
  | 0, acc, l, p, h => by cases h
  | f + 1, acc, [], p, h => by cases h
  | f + 1, acc, n :: l, p, h => by
    simp only [strP] at h
    split at h
    · cases h
    · split at h
      · cases h; exact List.suffix_cons _ _
      · split at h
        · rename_i v l' ho
          obtain ⟨n', t, e, hs⟩ := oneP_suf ho
          cases e
          exact (strP_suf h).trans (hs.trans (List.suffix_cons _ _))
        · cases h
theorem numL_suf : ∀ {l : List Nat} {f : Bool} {a : Nat} {p : Nat × List Nat}, numL f a l = some p → p.2 <:+ l
  | [], f, a, p, h => by
    simp only [numL] at h
    split at h
    · cases h
    · cases h; exact List.suffix_refl _
  | n :: l, f, a, p, h => by
    simp only [numL] at h
    split at h
    · split at h
      · cases h
      · cases h; exact List.suffix_refl _
    · split at h
      · cases h
      · exact (numL_suf h).trans (List.suffix_cons _ _)
theorem numberP_suf {l : List Nat} {p : Int × List Nat} (h : numberP l = some p) : p.2 <:+ l := by
  unfold numberP at h
  split at h
  · rw [Option.map_eq_some_iff] at h
    obtain ⟨q, h1, rfl⟩ := h
    exact (numL_suf h1).trans (List.suffix_cons _ _)
  · rw [Option.map_eq_some_iff] at h
    obtain ⟨q, h1, rfl⟩ := h
    exact numL_suf h1
theorem textP_suf {l : List Nat} {p : Str × List Nat} (h : textP l = some p) : p.2 <:+ l := by
  unfold textP at h
  split at h
  · cases h
  · rename_i l1 hn
    rw [Option.map_eq_some_iff] at h
    obtain ⟨q, h1, rfl⟩ := h
    exact (strP_suf h1).trans (needP_suf hn)
def SufF (f : ValF) : Prop := ∀ l v l', f l = .inr (v, l') → l' <:+ l
def SufA (f : Acc → List Nat → Int ⊕ (Acc × List Nat)) : Prop := ∀ a l a' l', f a l = .inr (a', l') → l' <:+ l
theorem elemP_suf {f : ValF} (hf : SufF f) : SufA (elemP f) := by
  intro a l a' l' h
  unfold elemP at h
  split at h
  · cases h
  · rename_i x l1 h1
    cases h
    exact hf _ _ _ h1
theorem membP_suf {f : ValF} (hf : SufF f) : SufA (membP f) := by
  intro a l a' l' h
  unfold membP at h
  split at h
  · cases h
  · rename_i key l1 h1
    split at h
    · cases h
    · rename_i l2 h2
      split at h
      · cases h
      · rename_i x l3 h3
        cases h
        exact (hf _ _ _ h3).trans ((needP_suf h2).trans ((blk_suf _).trans ((textP_suf h1).trans (blk_suf _))))
theorem loopP_suf {f : Acc → List Nat → Int ⊕ (Acc × List Nat)} (hf : SufA f) {shut : Nat} : ∀ {n : Nat} {a : Acc} {l : List Nat} {a' : Acc} {l' : List Nat}, loopP f shut n a l = .inr (a', l') → l' <:+ l
  | 0, a, l, a', l', h => by cases h
  | n + 1, a, l, a', l', h => by
    simp only [loopP] at h
    split at h
    · cases h
    · rename_i c t hb
      have hs := blk_suf l
      rw [hb] at hs
      split at h
      · cases h; exact (List.suffix_cons _ _).trans hs
      · split at h
        · split at h
          · cases h
          · rename_i a1 l1 h1
            exact (loopP_suf hf h).trans ((hf _ _ _ _ h1).trans ((List.suffix_cons _ _).trans hs))
        · cases h
theorem rowsP_suf {f : Acc → List Nat → Int ⊕ (Acc × List Nat)} (hf : SufA f) {shut : Nat} {l : List Nat} {a' : Acc} {l' : List Nat} (h : rowsP f shut l = .inr (a', l')) : l' <:+ l := by
  unfold rowsP at h
  have hs := blk_suf l
  split at h
  · rename_i hb
    split at h
    · cases h
    · rename_i a l1 h1
      exact (loopP_suf hf h).trans ((hf _ _ _ _ h1).trans (List.nil_suffix))
  · rename_i c t hb
    rw [hb] at hs
    split at h
    · cases h; exact (List.suffix_cons _ _).trans hs
    · split at h
      · cases h
      · rename_i a l1 h1
        exact (loopP_suf hf h).trans ((hf _ _ _ _ h1).trans hs)
theorem orErr_inr {α β : Type} {o : Option α} {f : α → β} {b : β} (h : orErr o f = .inr b) : ∃ a, o = some a ∧ b = f a := by
  unfold orErr at h
  cases o with
  | none => cases h
  | some a => cases h; exact ⟨a, rfl, rfl⟩
theorem valC_suf {f : ValF} (hf : SufF f) {c : Nat} {t : List Nat} {v : Data} {l' : List Nat} (h : valC f c t = .inr (v, l')) : l' <:+ c :: t := by
  unfold valC at h
  split at h
  · obtain ⟨a, h1, h2⟩ := orErr_inr h; cases h2; exact needP_suf h1
  · split at h
    · obtain ⟨a, h1, h2⟩ := orErr_inr h; cases h2; exact needP_suf h1
    · split at h
      · obtain ⟨a, h1, h2⟩ := orErr_inr h; cases h2; exact needP_suf h1
      · split at h
        · obtain ⟨a, h1, h2⟩ := orErr_inr h; cases h2; exact textP_suf h1
        · split at h
          · split at h
            · cases h
            · rename_i a l1 h1; cases h; exact (rowsP_suf (elemP_suf hf) h1).trans (List.suffix_cons _ _)
          · split at h
            · split at h
              · cases h
              · rename_i a l1 h1; cases h; exact (rowsP_suf (membP_suf hf) h1).trans (List.suffix_cons _ _)
            · obtain ⟨a, h1, h2⟩ := orErr_inr h; cases h2; exact numberP_suf h1
theorem valG_suf {o : Option ValF} (ho : ∀ f, o = some f → SufF f) : SufF (valG o) := by
  intro l v l' h
  have hs := blk_suf l
  unfold valG at h
  split at h
  · cases h
  · rename_i c t hb
    rw [hb] at hs
    refine List.IsSuffix.trans ?_ hs
    split at h
    · cases o with
      | none => cases h
      | some f => exact valC_suf (ho f rfl) h
    · cases h
theorem valP_suf : ∀ m : Nat, SufF (valP m)
  | 0 => valG_suf fun f h => by cases h
  | m + 1 => valG_suf fun f h => by cases h; exact valP_suf m
end Go.D13


/- Chapter 13, plainly: the program's parser answers what the plain one answers: its small parts. -/
namespace Go.D13
open Go Go.Gw Go.Dn
set_option linter.unusedSimpArgs false
set_option linter.unusedVariables false
set_option maxRecDepth 100000

def Suf (u : Str) (l : List Nat) : Prop := l <:+ unitsL u
/-- where what lies ahead stands -/
def pos (u : Str) (l : List Nat) : Nat := (unitsL u).length - l.length
abbrev pl (u : Str) (l : List Nat) (d : Nat) : T_json_parser := px u (pos u l) d
theorem Suf.at {u : Str} {l : List Nat} (h : Suf u l) : At u (pos u l) l := by
  obtain ⟨p, hp⟩ := h
  unfold At pos
  rw [← hp, List.length_append, show p.length + l.length - l.length = p.length by omega, List.drop_left]
theorem Suf.of {u : Str} {l l' : List Nat} (h : Suf u l) (h' : l' <:+ l) : Suf u l' := h'.trans h
theorem Suf.tail {u : Str} {n : Nat} {l : List Nat} (h : Suf u (n :: l)) : Suf u l := h.of (List.suffix_cons _ _)
theorem Suf.len {u : Str} {l : List Nat} (h : Suf u l) : l.length ≤ u.length / 2 := by rw [← unitsL_length]; exact h.length_le
theorem pos_le (u : Str) (l : List Nat) : pos u l ≤ u.length / 2 := by unfold pos; rw [unitsL_length]; omega
theorem pos_tail {u : Str} {n : Nat} {l : List Nat} (h : Suf u (n :: l)) : pos u l = pos u (n :: l) + 1 := by
  have := h.length_le
  unfold pos
  simp only [List.length_cons] at *
  omega
theorem next_pl {u : Str} {l : List Nat} {d : Nat} (hu : u.length ≤ 1000000000) (h : Suf u l) : json_parser_next (pl u l d) = some (hdI l, pl u l d, ()) := next_eq hu h.at
theorem fwd_pl {u : Str} {l : List Nat} {d n : Nat} (hu : u.length ≤ 1000000000) (h : Suf u (n :: l)) : (⟨u, IntKind.wrap .i64 (((pos u (n :: l) : Nat) : Int) + 1), (d : Int)⟩ : T_json_parser) = pl u l d := by
  rw [fwd hu h.at, ← pos_tail h]
theorem blk_head : ∀ l : List Nat, (match blk l with | [] => true | n :: _ => !blankN n) = true
  | [] => rfl
  | x :: l => by
    by_cases hx : blankN x = true
    · have e : blk (x :: l) = blk l := by unfold blk; rw [List.dropWhile_cons, if_pos hx]
      rw [e]; exact blk_head l
    · have e : blk (x :: l) = x :: l := by unfold blk; rw [List.dropWhile_cons, if_neg hx]
      rw [e]; simpa using hx
theorem blanks_pl {u : Str} {l : List Nat} {d : Nat} (hu : u.length ≤ 1000000000) (h : Suf u l) : json_parser_blanks (pl u l d) = some (hdI (blk l), pl u (blk l) d, ()) := by
  have hsp : l.takeWhile blankN ++ blk l = l := List.takeWhile_append_dropWhile
  have hat : At u (pos u l) (l.takeWhile blankN ++ blk l) := by rw [hsp]; exact h.at
  have hall : ∀ (l : List Nat) (n : Nat), n ∈ l.takeWhile blankN → blankN n = true := by
    intro l
    induction l with
    | nil => intro n hn; cases hn
    | cons x l ih =>
      intro n hn
      rw [List.takeWhile_cons] at hn
      split at hn
      · rename_i hx
        rcases List.mem_cons.1 hn with rfl | hn
        · exact hx
        · exact ih n hn
      · cases hn
  have hhd := blk_head
  rw [show json_parser_blanks (pl u l d) = _ from blanks_eq hu (hall l) (hhd l) hat]
  have hl := h.length_le
  have : pos u l + (l.takeWhile blankN).length = pos u (blk l) := by
    have := congrArg List.length hsp
    rw [List.length_append] at this
    unfold pos
    omega
  rw [this]
def Bad {α : Type} (r : Option ((GErr × T_json_parser × Unit) ⊕ α)) (e : Int) : Prop := ∃ x', r = some (.inl (GErr.code 26 e, x', ()))
theorem need_n {u : Str} {d : Nat} (s : Str) (hu : u.length ≤ 1000000000) (hs : s.length ≤ 1000) : ∀ (t : Str) (i : Nat) (l : List Nat), s.drop i = t → i + t.length = s.length → Suf u l →
    match needP (t.map (·.toNat)) l with
    | some l' => loopN json_parser_need_l1 (t.length + 1) (s, ((s.length : Nat) : Int), (i : Int), pl u l d, ()) = some (.inr (pl u l' d, ()))
    | none => Bad (loopN json_parser_need_l1 (t.length + 1) (s, ((s.length : Nat) : Int), (i : Int), pl u l d, ())) 150
  | [], i, l, ht, hi, h => by
    simp only [List.length_nil, Nat.add_zero] at hi
    have hn : ¬ ((i : Int) < ((s.length : Nat) : Int)) := by omega
    simp only [List.map_nil, needP]
    exact loopN_out (by simp only [json_parser_need_l1, hn, decide_false, Bool.false_eq_true, if_false, re38_eq])
  | c :: t, i, l, ht, hi, h => by
    obtain ⟨h1, h2, h3⟩ := getI_drop ht
    have hlt : ((i : Int) < ((s.length : Nat) : Int)) := by omega
    have hc : getB s (i : Int) = some ((c.toNat : Nat) : Int) := by rw [getB_nat]; rw [getI_nat] at h1; rw [h1]; rfl
    have hclt := c.toNat_lt
    have w : IntKind.wrap .i64 ((c.toNat : Nat) : Int) = ((c.toNat : Nat) : Int) := wrap_i64 (by omega) (by omega)
    have ht' : s.drop (i + 1) = t := by rw [← List.tail_drop, ht]; rfl
    simp only [List.length_cons] at hi
    have bad : hdI l ≠ ((c.toNat : Nat) : Int) → Bad (loopN json_parser_need_l1 ((c :: t).length + 1) (s, ((s.length : Nat) : Int), (i : Int), pl u l d, ())) 150 := by
      intro hne
      have e : (hdI l != ((c.toNat : Nat) : Int)) = true := by rw [bne_iff_ne]; exact hne
      refine ⟨pl u l d, loopN_out ?_⟩
      simp only [json_parser_need_l1, hlt, decide_true, if_true, hc, Option.bind_some, re38_eq]
      rw [next_pl hu h]
      simp only [Option.bind_some, w, e, if_true]
      rfl
    cases l with
    | nil => exact bad (by show (-1 : Int) ≠ _; omega)
    | cons n l =>
      simp only [List.map_cons, needP]
      by_cases hn : n = c.toNat
      · rw [if_pos hn]
        have ih := need_n (d := d) s hu hs t (i + 1) l ht' (by omega) h.tail
        have hgo : json_parser_need_l1 (s, ((s.length : Nat) : Int), (i : Int), pl u (n :: l) d, ()) = some (.inl (s, ((s.length : Nat) : Int), ((i + 1 : Nat) : Int), pl u l d, ())) := by
          simp only [json_parser_need_l1, hlt, decide_true, if_true, hc, Option.bind_some, re38_eq]
          rw [next_pl hu h]
          simp only [Option.bind_some, hdI, w, hn, bne_self_eq_false, Bool.false_eq_true, if_false]
          rw [← hn, fwd_pl hu h, wrap1 (by omega)]
        rw [List.length_cons]
        cases hq : needP (t.map (·.toNat)) l with
        | some l' => rw [hq] at ih; simp only at ih ⊢; exact (loopN_go hgo).trans ih
        | none => rw [hq] at ih; simp only at ih ⊢; obtain ⟨x', e⟩ := ih; exact ⟨x', (loopN_go hgo).trans e⟩
      · rw [if_neg hn]
        exact bad (by show (n : Int) ≠ _; omega)
theorem need_pl {u : Str} {l : List Nat} {d : Nat} (s : Str) (hu : u.length ≤ 1000000000) (hs : s.length ≤ 1000) (h : Suf u l) : match needP (s.map (·.toNat)) l with
    | some l' => json_parser_need s (pl u l d) = some (.inr (pl u l' d, ()))
    | none => Bad (json_parser_need s (pl u l d)) 150 := by
  have := need_n (d := d) s hu hs s 0 l rfl (by omega) h
  unfold json_parser_need
  rw [re38_eq]
  cases hq : needP (s.map (·.toNat)) l with
  | some l' => rw [hq] at this; exact loop_of this (by omega)
  | none => rw [hq] at this; obtain ⟨x', e⟩ := this; exact ⟨x', loop_of e (by omega)⟩
/-! ### a string's literal -/
def hexIx (n : Nat) : Int := Lib.indexByte ([48, 49, 50, 51, 52, 53, 54, 55, 56, 57, 97, 98, 99, 100, 101, 102, 65, 66, 67, 68, 69, 70] : Str) ((n : Int).toNat.toUInt8)
def hexOk (n : Nat) : Bool := match hexDg n with
    | some d => decide (d < 16) && (decide (hexIx n = (d : Int)) || (decide (15 < hexIx n) && decide (hexIx n = (d : Int) + 6)))
    | none => decide (hexIx n = -1)
theorem hexOk_fin : ∀ n : Fin 128, hexOk n.val = true := by decide +kernel
theorem hexDg_fin (n : Nat) (h : n < 128) : (match hexDg n with
    | some d => d < 16 ∧ (hexIx n = (d : Int) ∨ 15 < hexIx n ∧ hexIx n = (d : Int) + 6)
    | none => hexIx n = -1) := by
  have := hexOk_fin ⟨n, h⟩
  unfold hexOk at this
  simp only at this
  cases hv : hexDg n with
  | none => rw [hv] at this; simpa using this
  | some d => rw [hv] at this; simpa using this
theorem hexDg_big {n : Nat} (h : 128 ≤ n) : hexDg n = none := by unfold hexDg; rw [if_neg (by omega), if_neg (by omega), if_neg (by omega)]
theorem hex_step_pl {u : Str} {l : List Nat} {d n a i : Nat} (hu : u.length ≤ 1000000000) (h : Suf u (n :: l)) (ha : a < 4096) (hi : i < 4) : match hexDg n with
    | some v => json_parser_hex_l1 ((a : Int), (i : Int), pl u (n :: l) d, ()) = some (.inl (((a * 16 + v : Nat) : Int), ((i + 1 : Nat) : Int), pl u l d, ()))
    | none => json_parser_hex_l1 ((a : Int), (i : Int), pl u (n :: l) d, ()) = some (.inr (.inl (GErr.code 26 150, pl u (n :: l) d, ()))) := by
  have hi4 : ((i : Int) < 4) := by omega
  by_cases hb : 128 ≤ n
  · rw [hexDg_big hb]
    simp only [json_parser_hex_l1, hi4, decide_true, if_true, re38_eq]
    rw [next_pl hu h]
    have ec : (decide ((n : Int) ≥ 0) && decide ((n : Int) < 128)) = false := by rw [decide_eq_false (p := (n : Int) < 128) (by omega)]; simp
    simp only [Option.bind_some, hdI, ec, Bool.false_eq_true, if_false, json_parser_hex_j2]
    rfl
  · have hfin := hexDg_fin n (by omega)
    have ec : (decide ((n : Int) ≥ 0) && decide ((n : Int) < 128)) = true := by rw [decide_eq_true (p := (n : Int) ≥ 0) (by omega), decide_eq_true (p := (n : Int) < 128) (by omega)]; rfl
    have hx : strings_IndexByte ([48, 49, 50, 51, 52, 53, 54, 55, 56, 57, 97, 98, 99, 100, 101, 102, 65, 66, 67, 68, 69, 70] : Str) (n : Int) = some (Lib.indexByte ([48, 49, 50, 51, 52, 53, 54, 55, 56, 57, 97, 98, 99, 100, 101, 102, 65, 66, 67, 68, 69, 70] : Str) ((n : Int).toNat.toUInt8), ()) := rfl
    have start : json_parser_hex_l1 ((a : Int), (i : Int), pl u (n :: l) d, ()) = json_parser_hex_j2 (a : Int) (Lib.indexByte ([48, 49, 50, 51, 52, 53, 54, 55, 56, 57, 97, 98, 99, 100, 101, 102, 65, 66, 67, 68, 69, 70] : Str) ((n : Int).toNat.toUInt8)) (i : Int) (pl u (n :: l) d) := by
      simp only [json_parser_hex_l1, hi4, decide_true, if_true, re38_eq]
      rw [next_pl hu h]
      simp only [Option.bind_some, hdI, ec, if_true]
      rw [wrap_u8n n (by omega), hx]
      rfl
    rw [start]
    change match hexDg n with | some v => json_parser_hex_j2 (a : Int) (hexIx n) (i : Int) (pl u (n :: l) d) = _ | none => json_parser_hex_j2 (a : Int) (hexIx n) (i : Int) (pl u (n :: l) d) = _
    generalize hexIx n = q at hfin ⊢
    cases hv : hexDg n with
    | none =>
      rw [hv] at hfin
      simp only at hfin
      subst hfin
      unfold json_parser_hex_j2
      simp only [re38_eq]
      rfl
    | some v =>
      rw [hv] at hfin
      simp only at hfin
      obtain ⟨hv16, hq⟩ := hfin
      have fin : json_parser_hex_j3 (a : Int) (v : Int) (i : Int) (pl u (n :: l) d) = some (.inl (((a * 16 + v : Nat) : Int), ((i + 1 : Nat) : Int), pl u l d, ())) := by
        simp only [json_parser_hex_j3]
        rw [or_nibble a v ha hv16, fwd_pl hu h, wrap1 (by omega)]
      unfold json_parser_hex_j2
      simp only [re38_eq]
      rcases hq with hq | ⟨h15, hq⟩
      · subst hq
        rw [decide_eq_false (p := (v : Int) < 0) (by omega), decide_eq_false (p := (v : Int) > 15) (by omega)]
        simp only [Bool.false_eq_true, if_false]
        exact fin
      · have w : IntKind.wrap .i64 (q - 6) = (v : Int) := by rw [wrap_i64 (by omega) (by omega)]; omega
        rw [decide_eq_false (p := q < 0) (by omega), decide_eq_true (p := q > 15) (by omega)]
        simp only [Bool.false_eq_true, if_false, if_true, w]
        exact fin
theorem hex_n {u : Str} {d : Nat} (hu : u.length ≤ 1000000000) : ∀ (k i a : Nat) (l : List Nat), i + k = 4 → a < 16 ^ i → Suf u l → match hexP k a l with
    | some (v, l') => v < 65536 ∧ loopN json_parser_hex_l1 (k + 1) ((a : Int), (i : Int), pl u l d, ()) = some (.inr (unit2 v, pl u l' d, ()))
    | none => Bad (loopN json_parser_hex_l1 (k + 1) ((a : Int), (i : Int), pl u l d, ())) 150
  | 0, i, a, l, hi, ha, h => by
    have : i = 4 := by omega
    subst this
    have ha : a < 65536 := ha
    refine ⟨ha, loopN_out ?_⟩
    have e1 : Int.fdiv (a : Int) (2 ^ 8) = ((a / 256 : Nat) : Int) := by rw [Int.fdiv_eq_ediv_of_nonneg _ (by omega)]; rfl
    have w1 : IntKind.wrap .u8 ((a / 256 : Nat) : Int) = ((a / 256 : Nat) : Int) := wrap_u8 (by omega) (by omega)
    have w2 : IntKind.wrap .u8 (a : Int) = ((a % 256 : Nat) : Int) := by
      rw [wrap_u8_mod]
      omega
    have t1 : toB ((a / 256 : Nat) : Int) = some (UInt8.ofNat (a / 256)) := by unfold toB; rw [if_pos (by omega)]; rfl
    have t2 : toB ((a % 256 : Nat) : Int) = some (UInt8.ofNat (a % 256)) := by unfold toB; rw [if_pos (by omega)]; rfl
    simp only [json_parser_hex_l1]
    rw [show decide (((4 : Nat) : Int) < 4) = false from rfl]
    simp only [Bool.false_eq_true, if_false, e1, w1, w2, t1, t2, Option.bind_some, re38_eq]
    rfl
  | k + 1, i, a, [], hi, ha, h => by
    simp only [hexP]
    have hi4 : ((i : Int) < 4) := by omega
    refine ⟨pl u [] d, loopN_out ?_⟩
    simp only [json_parser_hex_l1, hi4, decide_true, if_true, re38_eq]
    rw [next_pl hu h]
    rfl
  | k + 1, i, a, n :: l, hi, ha, h => by
    have ha4 : a < 4096 := by
      have : i = 0 ∨ i = 1 ∨ i = 2 ∨ i = 3 := by omega
      rcases this with rfl | rfl | rfl | rfl
      · exact Nat.lt_of_lt_of_le ha (by decide)
      · exact Nat.lt_of_lt_of_le ha (by decide)
      · exact Nat.lt_of_lt_of_le ha (by decide)
      · exact ha
    have hst := hex_step_pl (d := d) (a := a) (i := i) hu h ha4 (by omega)
    have hfin : ∀ v, hexDg n = some v → v < 16 := by
      intro v hv
      unfold hexDg at hv
      split at hv
      · cases hv; omega
      · split at hv
        · cases hv; omega
        · split at hv
          · cases hv; omega
          · cases hv
    simp only [hexP]
    cases hv : hexDg n with
    | none => rw [hv] at hst; exact ⟨_, loopN_out hst⟩
    | some v =>
      rw [hv] at hst
      simp only at hst ⊢
      have ih := hex_n (d := d) hu k (i + 1) (a * 16 + v) l (by omega) (by rw [Nat.pow_succ]; have := hfin v hv; omega) h.tail
      cases hq : hexP k (a * 16 + v) l with
      | none => rw [hq] at ih; obtain ⟨x', e⟩ := ih; exact ⟨x', (loopN_go hst).trans e⟩
      | some p => rw [hq] at ih; exact ⟨ih.1, (loopN_go hst).trans ih.2⟩
theorem hex_pl {u : Str} {l : List Nat} {d : Nat} (hu : u.length ≤ 1000000000) (h : Suf u l) : match hexP 4 0 l with
    | some (v, l') => v < 65536 ∧ json_parser_hex (pl u l d) = some (.inr (unit2 v, pl u l' d, ()))
    | none => Bad (json_parser_hex (pl u l d)) 150 := by
  have := hex_n (d := d) hu 4 0 0 l rfl (by decide) h
  unfold json_parser_hex
  rw [re38_eq]
  cases hq : hexP 4 0 l with
  | none => rw [hq] at this; obtain ⟨x', e⟩ := this; exact ⟨x', loop_of e (by omega)⟩
  | some p => rw [hq] at this; exact ⟨this.1, loop_of this.2 (by omega)⟩
end Go.D13


/- Chapter 13, plainly: the program's parser answers what the plain one answers: strings and numbers. -/
namespace Go.D13
open Go Go.Gw Go.Dn
set_option linter.unusedSimpArgs false
set_option linter.unusedVariables false
set_option maxRecDepth 100000

def escIx (c : Nat) : Int := Lib.indexByte ([34, 92, 47, 98, 102, 110, 114, 116] : Str) ((c : Int).toNat.toUInt8)
def escOk (c : Nat) : Bool := match escP c with
    | some v => decide (0 ≤ escIx c) && decide (getB ([34, 92, 47, 8, 12, 10, 13, 9] : Str) (escIx c) = some (v : Int)) && decide (v < 256)
    | none => decide (escIx c = -1)
theorem escOk_fin : ∀ n : Fin 128, escOk n.val = true := by decide +kernel
theorem escP_fin (c : Nat) (h : c < 128) : (match escP c with
    | some v => 0 ≤ escIx c ∧ getB ([34, 92, 47, 8, 12, 10, 13, 9] : Str) (escIx c) = some (v : Int) ∧ v < 256
    | none => escIx c = -1) := by
  have := escOk_fin ⟨c, h⟩
  unfold escOk at this
  simp only at this
  cases hv : escP c with
  | none => rw [hv] at this; simpa using this
  | some d => rw [hv] at this; simp only [Bool.and_eq_true, decide_eq_true_eq] at this; exact ⟨this.1.1, this.1.2, this.2⟩
theorem escP_big {c : Nat} (h : 128 ≤ c) : escP c = none := by
  unfold escP
  rw [if_neg (by omega), if_neg (by omega), if_neg (by omega), if_neg (by omega), if_neg (by omega), if_neg (by omega), if_neg (by omega), if_neg (by omega)]
theorem units_Cut_pl {u : Str} {n k : Nat} {l : List Nat} (hu : u.length ≤ 1000000000) (h : Suf u (n :: l)) : units_Cut u (IntKind.wrap .i64 (IntKind.wrap .i64 (((pos u (n :: l) : Nat) : Int) + 1) - 1)) (IntKind.wrap .i64 (((pos u (n :: l) : Nat) : Int) + 1)) = some (unit2 n, ()) := by
  have hp := pos_le u (n :: l)
  have w1 : IntKind.wrap .i64 (((pos u (n :: l) : Nat) : Int) + 1) = ((pos u (n :: l) + 1 : Nat) : Int) := wrap1 (by omega)
  rw [w1]
  have w2 : IntKind.wrap .i64 (((pos u (n :: l) + 1 : Nat) : Int) - 1) = ((pos u (n :: l) : Nat) : Int) := by rw [wrap_i64 (by omega) (by omega)]; omega
  rw [w2]
  exact units_Cut_one u _ n hu h.at.get
theorem one_pl {u : Str} {l : List Nat} {d n : Nat} {acc : Str} (hu : u.length ≤ 1000000000) (h : Suf u (n :: l)) (h32 : ¬ n < 32) (h34 : n ≠ 34) (ha : acc.length ≤ 100000000000) : match oneP (n :: l) with
    | some (v, l') => v < 65536 ∧ json_parser_str_l1 (pl u (n :: l) d, acc, ()) = some (.inl (pl u l' d, acc ++ unit2 v, ()))
    | none => ∃ x', json_parser_str_l1 (pl u (n :: l) d, acc, ()) = some (.inr (.inl (GErr.code 26 150, x', ()))) := by
  have n1 : ¬ ((n : Int) < 32) := by omega
  have n2 : ((n : Int) == 34) = false := by rw [beq_eq_false_iff_ne]; omega
  by_cases h92 : n = 92
  · subst h92
    have start : json_parser_str_l1 (pl u (92 :: l) d, acc, ()) = Option.bind (json_parser_next (pl u l d)) fun r_12 =>
       if (r_12.1 == 117) = true then
        Option.bind (json_parser_hex (⟨r_12.2.1.u, (IntKind.wrap .i64 (r_12.2.1.at_ + 1)), r_12.2.1.deep⟩ : T_json_parser)) fun r_14 =>
        (match r_14 with
        | Sum.inl r_15 => some (Sum.inr (Sum.inl (r_15.1, r_15.2.1, ())))
        | Sum.inr r_16 =>
         Option.bind (strings_Builder_WriteString_v3 r_16.1 acc) fun r_17 =>
         some (Sum.inl (r_16.2.1, r_17.2.2.1, ())))
       else
        if ((decide (r_12.1 ≥ 0)) && (decide (r_12.1 < 128))) = true then
         Option.bind (strings_IndexByte ([34, 92, 47, 98, 102, 110, 114, 116] : Str) (IntKind.wrap .u8 r_12.1)) fun r_19 =>
         json_parser_str_j2 r_19.1 (⟨r_12.2.1.u, (IntKind.wrap .i64 (r_12.2.1.at_ + 1)), r_12.2.1.deep⟩ : T_json_parser) acc
        else
         json_parser_str_j2 (-1) (⟨r_12.2.1.u, (IntKind.wrap .i64 (r_12.2.1.at_ + 1)), r_12.2.1.deep⟩ : T_json_parser) acc := by
      simp only [json_parser_str_l1, re38_eq]
      rw [next_pl hu h]
      simp only [Option.bind_some, hdI]
      rw [show decide (((92 : Nat) : Int) < 32) = false from rfl, show (((92 : Nat) : Int) == 34) = false from rfl, show (((92 : Nat) : Int) != 92) = false from rfl]
      simp only [Bool.false_eq_true, if_false]
      rw [fwd_pl hu h]
      rfl
    rw [start, next_pl hu h.tail]
    simp only [oneP, if_true, Option.bind_some]
    cases l with
    | nil =>
      rw [show hdI ([] : List Nat) = -1 from rfl, show ((-1 : Int) == 117) = false from rfl, show (decide ((-1 : Int) ≥ 0) && decide ((-1 : Int) < 128)) = false from rfl]
      simp only [Bool.false_eq_true, if_false, json_parser_str_j2]
      exact ⟨_, rfl⟩
    | cons c t =>
      rw [show hdI (c :: t) = (c : Int) from rfl, fwd_pl hu h.tail]
      by_cases h117 : c = 117
      · subst h117
        rw [show (((117 : Nat) : Int) == 117) = true from rfl]
        simp only [if_true]
        have hh := hex_pl (d := d) hu h.tail.tail
        cases hq : hexP 4 0 t with
        | none =>
          rw [hq] at hh
          obtain ⟨x', e⟩ := hh
          simp only
          rw [e]
          exact ⟨x', rfl⟩
        | some p =>
          rw [hq] at hh
          simp only at hh ⊢
          rw [hh.2]
          refine ⟨hh.1, ?_⟩
          simp only [Option.bind_some]
          rw [write3 _ _ (by simp [unit2]; omega)]
          rfl
      · have e117 : ((c : Int) == 117) = false := by rw [beq_eq_false_iff_ne]; omega
        simp only [e117, Bool.false_eq_true, if_false, h117]
        by_cases hb : 128 ≤ c
        · rw [escP_big hb, decide_eq_false (p := (c : Int) < 128) (by omega)]
          simp only [Bool.and_false, Bool.false_eq_true, if_false, json_parser_str_j2]
          exact ⟨_, rfl⟩
        · have hfin := escP_fin c (by omega)
          rw [decide_eq_true (p := (c : Int) < 128) (by omega), decide_eq_true (p := (c : Int) ≥ 0) (by omega)]
          simp only [Bool.and_self, if_true]
          rw [wrap_u8n c (by omega), show strings_IndexByte ([34, 92, 47, 98, 102, 110, 114, 116] : Str) (c : Int) = some (escIx c, ()) from rfl]
          simp only [Option.bind_some, json_parser_str_j2, re38_eq]
          cases hv : escP c with
          | none =>
            rw [hv] at hfin
            simp only at hfin ⊢
            rw [hfin]
            exact ⟨_, rfl⟩
          | some v =>
            rw [hv] at hfin
            simp only at hfin ⊢
            obtain ⟨q1, q2, q3⟩ := hfin
            refine ⟨by omega, ?_⟩
            rw [decide_eq_false (p := escIx c < 0) (by omega), q2]
            simp only [Bool.false_eq_true, if_false, Option.bind_some]
            have t0 : toB 0 = some 0 := rfl
            have t1 : toB (v : Int) = some (UInt8.ofNat v) := by unfold toB; rw [if_pos (by omega)]; rfl
            rw [t0, t1]
            simp only [Option.bind_some]
            rw [write3 _ _ (by simp; omega), unit2_small v q3]
            rfl
  · have n3 : ((n : Int) != 92) = true := by rw [bne_iff_ne]; omega
    simp only [oneP, h92, if_false]
    refine ⟨h.at.lt, ?_⟩
    simp only [json_parser_str_l1, re38_eq]
    rw [next_pl hu h]
    simp only [Option.bind_some, hdI, n1, n2, n3, decide_false, Bool.false_eq_true, if_false, if_true]
    rw [units_Cut_pl (k := 0) hu h]
    simp only [Option.bind_some]
    rw [write3 _ _ (by simp [unit2]; omega), fwd_pl hu h]
    rfl
theorem str_pl_n {u : Str} {d : Nat} (hu : u.length ≤ 1000000000) : ∀ (f : Nat) (acc l : List Nat), l.length < f → acc.length + l.length ≤ 1000000000 → Suf u l → match strP f acc l with
    | some (us, l') => loopN json_parser_str_l1 f (pl u l d, acc.flatMap unit2, ()) = some (.inr (us.flatMap unit2, pl u l' d, ()))
    | none => Bad (loopN json_parser_str_l1 f (pl u l d, acc.flatMap unit2, ())) 150
  | 0, acc, l, hf, _, _ => by omega
  | f + 1, acc, [], hf, ha, h => by
    simp only [strP]
    refine ⟨⟨u, IntKind.wrap .i64 (((pos u [] : Nat) : Int) + 1), (d : Int)⟩, loopN_out ?_⟩
    simp only [json_parser_str_l1, re38_eq]
    rw [next_pl hu h]
    simp only [Option.bind_some, hdI]
    rw [show decide ((-1 : Int) < 32) = true from rfl]
    simp only [if_true]
    rfl
  | f + 1, acc, n :: l, hf, ha, h => by
    simp only [strP, List.length_cons] at hf ha ⊢
    by_cases h32 : n < 32
    · simp only [h32, if_true]
      refine ⟨⟨u, IntKind.wrap .i64 (((pos u (n :: l) : Nat) : Int) + 1), (d : Int)⟩, loopN_out ?_⟩
      simp only [json_parser_str_l1, re38_eq]
      rw [next_pl hu h]
      simp only [Option.bind_some, hdI]
      rw [decide_eq_true (p := (n : Int) < 32) (by omega)]
      simp only [if_true]
      rfl
    · simp only [h32, if_false]
      by_cases h34 : n = 34
      · subst h34
        simp only [if_true]
        refine loopN_out ?_
        simp only [json_parser_str_l1, re38_eq]
        rw [next_pl hu h]
        simp only [Option.bind_some, hdI]
        rw [show decide (((34 : Nat) : Int) < 32) = false from rfl, show (((34 : Nat) : Int) == 34) = true from rfl]
        simp only [Bool.false_eq_true, if_false, if_true]
        rw [fwd_pl hu h]
      · simp only [h34, if_false]
        have hfl : (acc.flatMap unit2).length ≤ 100000000000 := by
          have : ∀ l : List Nat, (l.flatMap unit2).length = 2 * l.length := by
            intro l
            induction l with
            | nil => rfl
            | cons x l ih => rw [List.flatMap_cons, List.length_append, ih]; simp [unit2]; omega
          rw [this]; omega
        have h1 := one_pl (d := d) hu h h32 h34 hfl
        cases ho : oneP (n :: l) with
        | none => rw [ho] at h1; obtain ⟨x', e⟩ := h1; exact ⟨x', loopN_out e⟩
        | some p =>
          obtain ⟨v, l'⟩ := p
          rw [ho] at h1
          simp only at h1 ⊢
          obtain ⟨n', t', e', hs⟩ := oneP_suf ho
          cases e'
          have hl' := hs.length_le
          simp only at hl'
          have ih := str_pl_n (d := d) hu f (acc ++ [v]) l' (by omega) (by simp only [List.length_append, List.length_cons, List.length_nil]; omega) (h.tail.of hs)
          rw [List.flatMap_append, show [v].flatMap unit2 = unit2 v by simp] at ih
          cases hq : strP f (acc ++ [v]) l' with
          | none => rw [hq] at ih; obtain ⟨x', e⟩ := ih; exact ⟨x', (loopN_go h1.2).trans e⟩
          | some q => rw [hq] at ih; exact (loopN_go h1.2).trans ih
theorem text_pl {u : Str} {l : List Nat} {d : Nat} (hu : u.length ≤ 1000000000) (h : Suf u l) : match textP l with
    | some (s, l') => json_parser_str (pl u l d) = some (.inr (s, pl u l' d, ()))
    | none => Bad (json_parser_str (pl u l d)) 150 := by
  have hn := need_pl (d := d) [34] hu (by simp) h
  unfold json_parser_str textP
  rw [re38_eq]
  rw [show ([34] : Str).map (·.toNat) = [34] from rfl] at hn
  cases hq : needP [34] l with
  | none =>
    rw [hq] at hn
    obtain ⟨x', e⟩ := hn
    simp only
    rw [e]
    exact ⟨re38 x', rfl⟩
  | some l1 =>
    rw [hq] at hn
    simp only at hn ⊢
    rw [hn]
    simp only [Option.bind_some, re38_eq]
    have hs := needP_suf hq
    have hl := h.len
    have hl1 := hs.length_le
    have hst := str_pl_n (d := d) hu (l1.length + 1) [] l1 (by omega) (by simp; omega) (h.of hs)
    cases hp : strP (l1.length + 1) [] l1 with
    | none => rw [hp] at hst; obtain ⟨x', e⟩ := hst; exact ⟨x', loop_of e (by omega)⟩
    | some p => rw [hp] at hst; exact loop_of hst (by omega)
end Go.D13


/- Chapter 13, plainly: the program's parser answers what the plain one answers. -/
namespace Go.D13
open Go Go.Gw Go.Dn
set_option linter.unusedSimpArgs false
set_option linter.unusedVariables false
set_option maxRecDepth 100000

theorem num_pl_n {u : Str} {d s : Nat} {neg : Bool} (hu : u.length ≤ 1000000000) : ∀ (l : List Nat) (a : Nat) (first : Bool), (first = true ↔ pos u l = s) → s ≤ pos u l → a ≤ 9007199254740991 → Suf u l → match numL first a l with
    | some (n, l') => loopN json_parser_number_l1 (l.length + 1) (neg, (s : Int), pl u l d, 3, (a : Int), [], [], [], ()) = some (.inr ((⟨3, if neg then -(n : Int) else (n : Int), [], [], []⟩ : Data), pl u l' d, ()))
    | none => Bad (loopN json_parser_number_l1 (l.length + 1) (neg, (s : Int), pl u l d, 3, (a : Int), [], [], [], ())) 150
  | l, a, first, hfi, hs, ha, h => by
    have hp := pos_le u l
    have w0 : IntKind.wrap .i64 (0 - (a : Int)) = -(a : Int) := by rw [wrap_i64 (by omega) (by omega)]; omega
    -- it stops here
    have stop : ((decide (hdI l < 48) || decide (hdI l > 57)) || (decide (((pos u l : Nat) : Int) > (s : Int)) && ((a : Int) == 0))) = true → (if first then Bad (loopN json_parser_number_l1 (l.length + 1) (neg, (s : Int), pl u l d, 3, (a : Int), [], [], [], ())) 150 else loopN json_parser_number_l1 (l.length + 1) (neg, (s : Int), pl u l d, 3, (a : Int), [], [], [], ()) = some (.inr ((⟨3, if neg then -(a : Int) else (a : Int), [], [], []⟩ : Data), pl u l d, ()))) := by
      intro hst
      cases first with
      | true =>
        have e : (((pos u l : Nat) : Int) == (s : Int)) = true := by rw [beq_iff_eq]; have := hfi.1 rfl; omega
        simp only [if_true]
        refine ⟨pl u l d, loopN_out ?_⟩
        simp only [json_parser_number_l1, re38_eq]
        rw [next_pl hu h]
        simp only [Option.bind_some, hst, if_true, e]
        rfl
      | false =>
        have e : (((pos u l : Nat) : Int) == (s : Int)) = false := by rw [beq_eq_false_iff_ne]; intro hh; have := hfi.2 (by omega); cases this
        simp only [Bool.false_eq_true, if_false]
        refine loopN_out ?_
        simp only [json_parser_number_l1, re38_eq]
        rw [next_pl hu h]
        simp only [Option.bind_some, hst, if_true, e, Bool.false_eq_true, if_false, w0]
        cases neg <;> rfl
    cases l with
    | nil =>
      have := stop (by rw [show hdI ([] : List Nat) = -1 from rfl]; rfl)
      simp only [numL]
      cases first with
      | true => exact this
      | false => exact this
    | cons n l =>
      simp only [numL]
      by_cases hc : (n < 48 ∨ 57 < n) ∨ (first = false ∧ a = 0)
      · simp only [hc, if_true]
        have := stop (by
          rw [show hdI (n :: l) = (n : Int) from rfl]
          rcases hc with (hc | hc) | ⟨hc, h0⟩
          · rw [decide_eq_true (p := (n : Int) < 48) (by omega)]; rfl
          · rw [decide_eq_true (p := (n : Int) > 57) (by omega)]; simp
          · have : pos u (n :: l) ≠ s := fun e => by have := hfi.2 e; rw [hc] at this; cases this
            rw [decide_eq_true (p := ((pos u (n :: l) : Nat) : Int) > (s : Int)) (by omega), h0]; simp)
        cases first with
        | true => exact this
        | false => exact this
      · simp only [hc, if_false]
        have hn : 48 ≤ n ∧ n ≤ 57 := by omega
        have w1 : IntKind.wrap .i64 (10 * (a : Int)) = ((10 * a : Nat) : Int) := by rw [wrap_i64 (by omega) (by omega)]; omega
        have w2 : IntKind.wrap .i64 (((10 * a : Nat) : Int) + (n : Int)) = ((10 * a + n : Nat) : Int) := by rw [wrap_i64 (by omega) (by omega)]; omega
        have w3 : IntKind.wrap .i64 (((10 * a + n : Nat) : Int) - 48) = ((10 * a + (n - 48) : Nat) : Int) := by rw [wrap_i64 (by omega) (by omega)]; omega
        have b1 : decide ((n : Int) < 48) = false := decide_eq_false (by omega)
        have b2 : decide ((n : Int) > 57) = false := decide_eq_false (by omega)
        have b3 : (decide (((pos u (n :: l) : Nat) : Int) > (s : Int)) && ((a : Int) == 0)) = false := by
          cases first with
          | true =>
            have := hfi.1 rfl
            rw [decide_eq_false (p := ((pos u (n :: l) : Nat) : Int) > (s : Int)) (by omega)]; rfl
          | false =>
            have ha0 : a ≠ 0 := fun e => hc (.inr ⟨rfl, e⟩)
            have : ((a : Int) == 0) = false := by rw [beq_eq_false_iff_ne]; omega
            rw [this]; simp
        have start : json_parser_number_l1 (neg, (s : Int), pl u (n :: l) d, 3, (a : Int), [], [], [], ()) = if decide (((10 * a + (n - 48) : Nat) : Int) > 9007199254740991) = true then some (.inr (.inl (GErr.code 26 150, pl u (n :: l) d, ()))) else some (.inl (neg, (s : Int), pl u l d, 3, ((10 * a + (n - 48) : Nat) : Int), [], [], [], ())) := by
          simp only [json_parser_number_l1, re38_eq]
          rw [next_pl hu h]
          rw [show hdI (n :: l) = (n : Int) from rfl]
          simp only [Option.bind_some, b1, b2, b3, Bool.or_self, Bool.false_eq_true, if_false, w1, w2, w3]
          rw [fwd_pl hu h]
          rfl
        by_cases hbig : 9007199254740991 < 10 * a + (n - 48)
        · simp only [hbig, if_true]
          refine ⟨pl u (n :: l) d, loopN_out ?_⟩
          rw [start, decide_eq_true (by omega)]
          rfl
        · simp only [hbig, if_false]
          rw [decide_eq_false (by omega)] at start
          simp only [Bool.false_eq_true, if_false] at start
          have hpt := pos_tail h
          have ih := num_pl_n (d := d) (s := s) (neg := neg) hu l (10 * a + (n - 48)) false (by constructor; intro e; cases e; intro e; omega) (by omega) (by omega) h.tail
          rw [List.length_cons]
          cases hq : numL false (10 * a + (n - 48)) l with
          | none => rw [hq] at ih; obtain ⟨x', e⟩ := ih; exact ⟨x', (loopN_go start).trans e⟩
          | some p => rw [hq] at ih; exact (loopN_go start).trans ih
theorem number_pl {u : Str} {l : List Nat} {d : Nat} (hu : u.length ≤ 1000000000) (h : Suf u l) : match numberP l with
    | some (N, l') => json_parser_number (pl u l d) = some (.inr (⟨3, N, [], [], []⟩, pl u l' d, ()))
    | none => Bad (json_parser_number (pl u l d)) 150 := by
  have hlen := h.len
  have plain : (hdI l == 45) = false → match (numL true 0 l).map (fun p => ((p.1 : Int), p.2)) with
    | some (N, l') => json_parser_number (pl u l d) = some (.inr (⟨3, N, [], [], []⟩, pl u l' d, ()))
    | none => Bad (json_parser_number (pl u l d)) 150 := by
    intro hne
    have hn := num_pl_n (d := d) (s := pos u l) (neg := false) hu l 0 true (by simp) (Nat.le_refl _) (by omega) h
    unfold json_parser_number
    rw [re38_eq, next_pl hu h]
    simp only [Option.bind_some, hne, Bool.false_eq_true, if_false, re38_eq]
    cases hq : numL true 0 l with
    | none => rw [hq] at hn; obtain ⟨x', e⟩ := hn; exact ⟨x', loop_of e (by omega)⟩
    | some p => rw [hq] at hn; exact loop_of hn (by omega)
  have other : (hdI l == 45) = false → numberP l = (numL true 0 l).map (fun p => ((p.1 : Int), p.2)) := by
    intro hne
    unfold numberP
    split
    · cases hne
    · rfl
  by_cases h45 : (hdI l == 45) = true
  · have e45 := eq_of_beq h45
    obtain ⟨t, rfl⟩ : ∃ t, l = 45 :: t := by
      cases l with
      | nil => cases e45
      | cons n t => exact ⟨t, by have e : (n : Int) = 45 := e45; have : n = 45 := by omega
                                 rw [this]⟩
    have hn := num_pl_n (d := d) (s := pos u t) (neg := true) hu t 0 true (by simp) (Nat.le_refl _) (by omega) h.tail
    have hl := h.tail.len
    have hp := pos_tail h
    have hpl := pos_le u t
    show match (numL true 0 t).map (fun p => (-(p.1 : Int), p.2)) with
      | some (N, l') => json_parser_number (pl u (45 :: t) d) = some (.inr (⟨3, N, [], [], []⟩, pl u l' d, ()))
      | none => Bad (json_parser_number (pl u (45 :: t) d)) 150
    unfold json_parser_number
    rw [re38_eq, next_pl hu h]
    rw [show hdI (45 :: t) = 45 from rfl]
    simp only [Option.bind_some, show ((45 : Int) == 45) = true from rfl, if_true]
    rw [fwd_pl hu h, show IntKind.wrap .i64 (((pos u (45 :: t) : Nat) : Int) + 1) = ((pos u t : Nat) : Int) by rw [wrap1 (by omega), hp]]
    cases hq : numL true 0 t with
    | none => rw [hq] at hn; obtain ⟨x', e⟩ := hn; exact ⟨x', loop_of e (by omega)⟩
    | some p => rw [hq] at hn; exact loop_of hn (by omega)
  · have h45' : (hdI l == 45) = false := by simpa using h45
    rw [other h45']
    exact plain h45'
end Go.D13


/- Chapter 13, plainly: the program's parser answers what the plain one answers: rows and values. -/
namespace Go.D13
open Go Go.Gw Go.Dn
set_option linter.unusedSimpArgs false
set_option linter.unusedVariables false
set_option maxRecDepth 100000

abbrev RowsE := (GErr × T_json_parser × Int × Int × Str × (List Str) × (List T_api_Data) × Unit) ⊕ (T_json_parser × Int × Int × Str × (List Str) × (List T_api_Data) × Unit)
def BadR (r : Option RowsE) (e : Int) : Prop := ∃ x' K N S l l2, r = some (.inl (GErr.code 26 e, x', K, N, S, l, l2, ()))
/-- a row's piece is read as the plain one reads it -/
def RowOk (f : RowF) (fP : Acc → List Nat → Int ⊕ (Acc × List Nat)) (I : Acc → Prop) (u : Str) (d : Nat) : Prop :=
  ∀ (a : Acc) (l : List Nat) (K N : Int) (S : Str), Suf u l → I a → a.1.length ≤ 10000000000 → a.2.length ≤ 10000000000 → match fP a l with
    | .inr (a', l') => f (pl u l d) K N S a.1 a.2 = some (.inr (pl u l' d, K, N, S, a'.1, a'.2, ())) ∧ I a' ∧ a'.1.length ≤ a.1.length + 1 ∧ a'.2.length ≤ a.2.length + 1
    | .inl e => BadR (f (pl u l d) K N S a.1 a.2) e
theorem deep_pl {u : Str} {l : List Nat} {d n : Nat} (hu : u.length ≤ 1000000000) (hd : d < 1000000) (h : Suf u (n :: l)) : (⟨u, IntKind.wrap .i64 (((pos u (n :: l) : Nat) : Int) + 1), IntKind.wrap .i64 (((d + 1 : Nat) : Int) - 1)⟩ : T_json_parser) = pl u l d := by
  rw [deep_back d hd]; exact fwd_pl hu h
theorem loop_pl {f : RowF} {fP : Acc → List Nat → Int ⊕ (Acc × List Nat)} {I : Acc → Prop} {u : Str} {d shut : Nat} {K N : Int} {S : Str} (hu : u.length ≤ 1000000000) (hd : d < 1000000) (hf : RowOk f fP I u (d + 1)) (hsf : SufA fP) (hs0 : shut ≠ 44) : ∀ (n : Nat) (a : Acc) (l : List Nat), l.length < n → Suf u l → I a → a.1.length + l.length ≤ 5000000000 → a.2.length + l.length ≤ 5000000000 → match loopP fP shut n a l with
    | .inr (a', l') => loopN (rowsStep f) n ((shut : Int), pl u l (d + 1), K, N, S, a.1, a.2, ()) = some (.inr (pl u l' d, K, N, S, a'.1, a'.2, ()))
    | .inl e => BadR (loopN (rowsStep f) n ((shut : Int), pl u l (d + 1), K, N, S, a.1, a.2, ())) e
  | 0, a, l, hn, _, _, _, _ => by omega
  | n + 1, a, l, hn, h, hI, h1, h2 => by
    have hb := blk_suf l
    have hbs := h.of hb
    have bad : ∀ c : Nat ⊕ Unit, hdI (blk l) ≠ (shut : Int) → hdI (blk l) ≠ 44 → BadR (loopN (rowsStep f) (n + 1) ((shut : Int), pl u l (d + 1), K, N, S, a.1, a.2, ())) 150 := by
      intro _ e1 e2
      have hnd := need_pl (d := d + 1) [44] hu (by simp) hbs
      have hnone : needP (([44] : Str).map (·.toNat)) (blk l) = none := by
        cases hq : blk l with
        | nil => rfl
        | cons c t =>
          show (if c = 44 then some t else none) = none
          rw [if_neg (by intro e; rw [hq] at e2; exact e2 (by show (c : Int) = 44; omega))]
      rw [hnone] at hnd
      obtain ⟨x', e⟩ := hnd
      have eb : (hdI (blk l) != (shut : Int)) = true := by rw [bne_iff_ne]; exact e1
      refine ⟨x', K, N, S, a.1, a.2, loopN_out ?_⟩
      simp only [rowsStep]
      rw [blanks_pl hu h]
      simp only [Option.bind_some, eb, if_true]
      rw [e]
      rfl
    simp only [loopP]
    cases hq : blk l with
    | nil =>
      rw [hq] at bad
      exact bad (.inr ()) (by show (-1 : Int) ≠ _; omega) (by show (-1 : Int) ≠ 44; omega)
    | cons c t =>
      have hct : Suf u (c :: t) := by rw [← hq]; exact hbs
      have htl : t.length < l.length := by have := hb.length_le; rw [hq] at this; simp only [List.length_cons] at this; omega
      by_cases hcs : c = shut
      · simp only [hcs, if_true]
        subst hcs
        refine loopN_out ?_
        simp only [rowsStep]
        rw [blanks_pl hu h, hq]
        rw [show hdI (c :: t) = (c : Int) from rfl]
        simp only [Option.bind_some, bne_self_eq_false, Bool.false_eq_true, if_false]
        rw [deep_pl hu hd hct]
      · simp only [hcs, if_false]
        by_cases h44 : c = 44
        · simp only [h44, if_true]
          subst h44
          have hnd := need_pl (d := d + 1) [44] hu (by simp) hct
          have hsome : needP (([44] : Str).map (·.toNat)) (44 :: t) = some t := rfl
          rw [hsome] at hnd
          simp only at hnd
          have eb : (((44 : Nat) : Int) != (shut : Int)) = true := by rw [bne_iff_ne]; omega
          have hff := hf a t K N S hct.tail hI (by omega) (by omega)
          have start : rowsStep f ((shut : Int), pl u l (d + 1), K, N, S, a.1, a.2, ()) = Option.bind (f (pl u t (d + 1)) K N S a.1 a.2) fun r_20 =>
              (match r_20 with
              | Sum.inl r_21 => some (Sum.inr (Sum.inl (r_21.1, r_21.2.1, r_21.2.2.1, r_21.2.2.2.1, r_21.2.2.2.2.1, r_21.2.2.2.2.2.1, r_21.2.2.2.2.2.2.1, ())))
              | Sum.inr r_22 => some (Sum.inl ((shut : Int), r_22.1, r_22.2.1, r_22.2.2.1, r_22.2.2.2.1, r_22.2.2.2.2.1, r_22.2.2.2.2.2.1, ()))) := by
            simp only [rowsStep]
            rw [blanks_pl hu h, hq]
            rw [show hdI (44 :: t) = ((44 : Nat) : Int) from rfl]
            simp only [Option.bind_some, eb, if_true]
            rw [hnd]
            rfl
          cases hfp : fP a t with
          | inl e =>
            rw [hfp] at hff
            obtain ⟨x', K', N', S', l1, l2, e1⟩ := hff
            refine ⟨x', K', N', S', l1, l2, loopN_out ?_⟩
            rw [start, e1]
            rfl
          | inr p =>
            obtain ⟨a', l'⟩ := p
            rw [hfp] at hff
            simp only at hff ⊢
            obtain ⟨e1, hI', q1, q2⟩ := hff
            rw [e1] at start
            have hl' := (hsf a t a' l' hfp).length_le
            have ih := loop_pl (K := K) (N := N) (S := S) hu hd hf hsf hs0 n a' l' (by omega) (hct.tail.of (hsf a t a' l' hfp)) hI' (by omega) (by omega)
            cases hlp : loopP fP shut n a' l' with
            | inl e =>
              rw [hlp] at ih
              obtain ⟨x', K', N', S', l1, l2, e2⟩ := ih
              exact ⟨x', K', N', S', l1, l2, (loopN_go start).trans e2⟩
            | inr p => rw [hlp] at ih; exact (loopN_go start).trans ih
        · simp only [h44, if_false]
          rw [hq] at bad
          exact bad (.inl c) (by show (c : Int) ≠ _; omega) (by show (c : Int) ≠ 44; omega)
theorem rows_pl {f : RowF} {fP : Acc → List Nat → Int ⊕ (Acc × List Nat)} {I : Acc → Prop} {u : Str} {d shut c0 : Nat} {l : List Nat} {K N : Int} {S : Str} (hu : u.length ≤ 1000000000) (hd : d < 1000000) (hf : RowOk f fP I u (d + 1)) (hsf : SufA fP) (hs0 : shut ≠ 44) (hI : I ([], [])) (h : Suf u (c0 :: l)) : match rowsP fP shut l with
    | .inr (a', l') => rowsTop f (shut : Int) (pl u (c0 :: l) d) K N S [] [] = some (.inr (pl u l' d, K, N, S, a'.1, a'.2, ()))
    | .inl e => BadR (rowsTop f (shut : Int) (pl u (c0 :: l) d) K N S [] []) e := by
  have hb := blk_suf l
  have hbs := h.tail.of hb
  have hlen := h.len
  have hpos := pos_le u (c0 :: l)
  simp only [List.length_cons] at hlen
  have hx : (⟨u, IntKind.wrap .i64 (((pos u (c0 :: l) : Nat) : Int) + 1), IntKind.wrap .i64 ((d : Int) + 1)⟩ : T_json_parser) = pl u l (d + 1) := by
    rw [wrap1 (i := d) (by omega)]; exact fwd_pl hu h
  -- the first piece and the rest
  have go : hdI (blk l) ≠ (shut : Int) → match (match fP ([], []) (blk l) with | .inl e => (.inl e : Int ⊕ (Acc × List Nat)) | .inr (a, l') => loopP fP shut (l'.length + 1) a l') with
    | .inr (a', l') => rowsTop f (shut : Int) (pl u (c0 :: l) d) K N S [] [] = some (.inr (pl u l' d, K, N, S, a'.1, a'.2, ()))
    | .inl e => BadR (rowsTop f (shut : Int) (pl u (c0 :: l) d) K N S [] []) e := by
    intro hne
    have eb : (hdI (blk l) != (shut : Int)) = true := by rw [bne_iff_ne]; exact hne
    have hff := hf ([], []) (blk l) K N S hbs hI (by simp) (by simp)
    have start : rowsTop f (shut : Int) (pl u (c0 :: l) d) K N S [] [] = Option.bind (f (pl u (blk l) (d + 1)) K N S [] []) fun r_4 =>
       (match r_4 with
       | Sum.inl r_5 => some (Sum.inl (r_5.1, r_5.2.1, r_5.2.2.1, r_5.2.2.2.1, r_5.2.2.2.2.1, r_5.2.2.2.2.2.1, r_5.2.2.2.2.2.2.1, ()))
       | Sum.inr r_6 => Lp.loop (rowsStep f) ((shut : Int), r_6.1, r_6.2.1, r_6.2.2.1, r_6.2.2.2.1, r_6.2.2.2.2.1, r_6.2.2.2.2.2.1, ())) := by
      unfold rowsTop
      simp only [hx]
      rw [blanks_pl hu h.tail]
      simp only [Option.bind_some, eb, if_true] <;> rfl
    cases hfp : fP ([], []) (blk l) with
    | inl e =>
      rw [hfp] at hff
      obtain ⟨x', K', N', S', l1, l2, e1⟩ := hff
      refine ⟨x', K', N', S', l1, l2, ?_⟩
      rw [start, e1]
      rfl
    | inr p =>
      obtain ⟨a', l'⟩ := p
      rw [hfp] at hff
      simp only at hff ⊢
      obtain ⟨e1, hI', q1, q2⟩ := hff
      rw [e1] at start
      simp only [Option.bind_some] at start
      have hsl := hsf _ _ a' l' hfp
      have hl' := hsl.length_le
      have hbl := hb.length_le
      have ih := loop_pl (K := K) (N := N) (S := S) hu hd hf hsf hs0 (l'.length + 1) a' l' (by omega) (hbs.of hsl) hI' (by simp at q1; omega) (by simp at q2; omega)
      cases hlp : loopP fP shut (l'.length + 1) a' l' with
      | inl e =>
        rw [hlp] at ih
        obtain ⟨x', K', N', S', l1, l2, e2⟩ := ih
        exact ⟨x', K', N', S', l1, l2, start.trans (loop_of e2 (by omega))⟩
      | inr p => rw [hlp] at ih; exact start.trans (loop_of ih (by omega))
  unfold rowsP
  cases hq : blk l with
  | nil => rw [hq] at go; exact go (by show (-1 : Int) ≠ _; omega)
  | cons c t =>
    by_cases hcs : c = shut
    · simp only [hcs, if_true]
      subst hcs
      have hct : Suf u (c :: t) := by rw [← hq]; exact hbs
      unfold rowsTop
      simp only [hx]
      rw [blanks_pl hu h.tail, hq, show hdI (c :: t) = (c : Int) from rfl]
      simp only [Option.bind_some, bne_self_eq_false, Bool.false_eq_true, if_false]
      rw [deep_pl hu hd hct]
    · simp only [hcs, if_false]
      rw [hq] at go
      exact go (by show (c : Int) ≠ _; omega)
def ValOk (g : Rec_json_parser_value) (fP : ValF) (u : Str) (d : Nat) : Prop := ∀ l, Suf u l → match fP l with
  | .inr (v, l') => g.json_parser_value (pl u l d) = some (.inr (v, pl u l' d, ()))
  | .inl e => Bad (g.json_parser_value (pl u l d)) e
theorem elem_row {g : Rec_json_parser_value} {fP : ValF} {u : Str} {d : Nat} (hv : ValOk g fP u d) : RowOk (elem_p g) (elemP fP) (fun _ => True) u d := by
  intro a l K N S h _ h1 h2
  have := hv l h
  unfold elemP elem_p
  cases hq : fP l with
  | inl e => rw [hq] at this; obtain ⟨x', e1⟩ := this; simp only; rw [e1]; exact ⟨_, _, _, _, _, _, rfl⟩
  | inr p =>
    rw [hq] at this
    simp only at this ⊢
    rw [this]
    simp only [Option.bind_some]
    rw [room_ok (by omega)]
    exact ⟨rfl, trivial, by omega, by simp⟩
theorem index_eq (l : List Str) (key : Str) (hl : l.length ≤ 100000000000) : slices_Index l key = some (match l.findIdx? (· == key) with | some i => (i : Int) | none => -1, ()) := by
  have h := loop_all (step := slices_Index_l1) (fun (k : Nat) i => (l, key, ((l.length : Nat) : Int), (i : Int), ())) l (fun k x => if (x == key) = true then .inr ((k : Int), ()) else .inl (k + 1)) (fun _ => ((-1 : Int), ())) (fun k t => k + t.length = l.length) 0 (by omega) (by omega)
    (fun i x t k ht hk => by
      obtain ⟨h1, h2, h3⟩ := getI_drop ht
      have hi : ((i : Int) < ((l.length : Nat) : Int)) := by omega
      have hki : k = i := by have := congrArg List.length ht; simp at this; simp only [List.length_cons] at hk; omega
      subst hki
      cases hx : x == key with
      | true =>
        simp only [if_true]
        have hx' : (key == x) = true := by rw [beq_iff_eq] at hx ⊢; exact hx.symm
        simp only [slices_Index_l1, hi, decide_true, if_true, h1, Option.bind_some, hx']
      | false =>
        simp only [Bool.false_eq_true, if_false]
        have hx' : (key == x) = false := by rw [beq_eq_false_iff_ne] at hx ⊢; exact fun e => hx e.symm
        refine ⟨?_, by simp only [List.length_cons] at hk; omega⟩
        simp only [slices_Index_l1, hi, decide_true, if_true, h1, Option.bind_some, hx', Bool.false_eq_true, if_false]
        rw [wrap1 (by omega)])
    (fun k _ => by
      have hi : ¬ (((l.length : Nat) : Int) < ((l.length : Nat) : Int)) := by omega
      simp only [slices_Index_l1, hi, decide_false, Bool.false_eq_true, if_false])
  unfold slices_Index
  refine h.trans ?_
  have : ∀ (t : List Str) (k : Nat), foldE (fun (k : Nat) (x : Str) => (if (x == key) = true then .inr ((k : Int), ()) else .inl (k + 1) : Nat ⊕ (Int × Unit))) (fun _ => ((-1 : Int), ())) k t = (match t.findIdx? (· == key) with | some i => ((k + i : Nat) : Int) | none => -1, ()) := by
    intro t
    induction t with
    | nil => intro k; rfl
    | cons x t ih =>
      intro k
      rw [List.findIdx?_cons]
      cases hx : x == key with
      | true => rw [foldE_inr (e := ((k : Int), ())) (by rw [hx]; rfl)]; simp
      | false =>
        rw [foldE_inl (a' := k + 1) (by rw [hx]; rfl), ih]
        cases hq : t.findIdx? (· == key) with
        | none => simp
        | some i =>
          simp only [Option.map_some]
          rw [show k + 1 + i = k + (i + 1) by omega]
          rfl
  rw [this l 0]
  cases l.findIdx? (· == key) with
  | none => rfl
  | some i => simp
theorem memb_row {g : Rec_json_parser_value} {fP : ValF} {u : Str} {d : Nat} (hu : u.length ≤ 1000000000) (hv : ValOk g fP u d) : RowOk (memb_p g) (membP fP) (fun a => a.1.length = a.2.length) u d := by
  intro a l K N S h hI h1 h2
  have hb := h.of (blk_suf l)
  have ht := text_pl (d := d) hu hb
  unfold membP memb_p
  rw [blanks_pl hu h]
  simp only [Option.bind_some]
  cases hq : textP (blk l) with
  | none => rw [hq] at ht; obtain ⟨x', e1⟩ := ht; simp only; rw [e1]; exact ⟨_, _, _, _, _, _, rfl⟩
  | some p =>
    obtain ⟨key, l1⟩ := p
    rw [hq] at ht
    simp only at ht ⊢
    have hs1 := hb.of (textP_suf hq)
    have hs1b := hs1.of (blk_suf l1)
    rw [ht]
    simp only [Option.bind_some]
    rw [blanks_pl hu hs1]
    simp only [Option.bind_some]
    have hn := need_pl (d := d) [58] hu (by simp) hs1b
    rw [show ([58] : Str).map (·.toNat) = [58] from rfl] at hn
    cases hq2 : needP [58] (blk l1) with
    | none => rw [hq2] at hn; obtain ⟨x', e1⟩ := hn; simp only; rw [e1]; exact ⟨_, _, _, _, _, _, rfl⟩
    | some l2 =>
      rw [hq2] at hn
      simp only at hn ⊢
      rw [hn]
      simp only [Option.bind_some]
      have hvv := hv l2 (hs1b.of (needP_suf hq2))
      cases hq3 : fP l2 with
      | inl e => rw [hq3] at hvv; obtain ⟨x', e1⟩ := hvv; simp only; rw [e1]; exact ⟨_, _, _, _, _, _, rfl⟩
      | inr p =>
        obtain ⟨x, l3⟩ := p
        rw [hq3] at hvv
        simp only at hvv ⊢
        rw [hvv]
        simp only [Option.bind_some]
        rw [index_eq a.1 key (by omega)]
        simp only [Option.bind_some]
        unfold putP
        cases hfi : a.1.findIdx? (· == key) with
        | none =>
          simp only
          rw [show decide ((-1 : Int) ≥ 0) = false from rfl]
          simp only [Bool.false_eq_true, if_false]
          rw [room_ok (by omega), room_ok (by omega)]
          exact ⟨rfl, by simp [hI], by simp, by simp⟩
        | some i =>
          have hlt : i < a.1.length := by
            have := List.findIdx?_eq_some_iff_findIdx_eq.1 hfi
            exact this.1
          simp only
          rw [decide_eq_true (p := (i : Int) ≥ 0) (by omega)]
          simp only [if_true]
          have hg : getI a.2 (i : Int) = some (a.2[i]'(by omega)) := by rw [getI_nat]; exact List.getElem?_eq_getElem (by omega)
          rw [hg]
          exact ⟨rfl, by simp [hI], by simp, by simp⟩
end Go.D13


/- Chapter 13, plainly: Parse answers what the plain parser answers. -/
namespace Go.D13
open Go Go.Gw Go.Dn
set_option linter.unusedSimpArgs false
set_option linter.unusedVariables false
set_option maxRecDepth 100000

def begIx (c : Nat) : Int := Lib.indexByte ([110, 116, 102, 34, 91, 123, 45, 48, 49, 50, 51, 52, 53, 54, 55, 56, 57] : Str) ((c : Int).toNat.toUInt8)
theorem beg_fin : ∀ c : Fin 128, c.val ∉ starts → begIx c.val < 0 := by decide +kernel
theorem begIx_in (c : Nat) (h : c ∈ starts) : 0 ≤ begIx c := (starts_ok c h).2.2.2.2
/-- the parser's first look at what comes -/
theorem value_look {g : Rec_json_parser_value} {u : Str} {l : List Nat} {d : Nat} (hu : u.length ≤ 1000000000) (h : Suf u l) : match blk l with
    | [] => Bad (json_parser_value_b g (pl u l d)) 150
    | c :: t => if c ∈ starts then (if d = 20 then Bad (json_parser_value_b g (pl u l d)) 31 else json_parser_value_b g (pl u l d) = valT g (c : Int) (pl u (c :: t) d)) else Bad (json_parser_value_b g (pl u l d)) 150 := by
  have hbp := blanks_pl (d := d) hu h
  cases hq : blk l with
  | nil =>
    rw [hq] at hbp
    refine ⟨pl u [] d, ?_⟩
    unfold json_parser_value_b
    simp only [re38_eq]
    rw [hbp]
    rfl
  | cons c t =>
    rw [hq, show hdI (c :: t) = (c : Int) from rfl] at hbp
    by_cases hbig : 128 ≤ c
    · have hns : c ∉ starts := fun hc => by have := (starts_ok c hc).2.1; omega
      simp only [hns, if_false]
      refine ⟨pl u (c :: t) d, ?_⟩
      unfold json_parser_value_b
      simp only [re38_eq]
      rw [hbp]
      simp only [Option.bind_some]
      rw [decide_eq_true (p := (c : Int) > 127) (by omega)]
      simp only [Bool.or_true, if_true]
      rfl
    · have b1 : (decide ((c : Int) < 0) || decide ((c : Int) > 127)) = false := by
        rw [decide_eq_false (by omega), decide_eq_false (by omega)]; rfl
      have b2 : strings_IndexByte ([110, 116, 102, 34, 91, 123, 45, 48, 49, 50, 51, 52, 53, 54, 55, 56, 57] : Str) (c : Int) = some (begIx c, ()) := rfl
      by_cases hs : c ∈ starts
      · have b3 : decide (begIx c < 0) = false := decide_eq_false (by have := begIx_in c hs; omega)
        simp only [hs, if_true]
        by_cases h20 : d = 20
        · simp only [h20, if_true]
          subst h20
          refine ⟨pl u (c :: t) 20, ?_⟩
          unfold json_parser_value_b
          simp only [re38_eq, re25_eq]
          rw [hbp]
          simp only [Option.bind_some]
          rw [b1, wrap_u8n c (by omega), b2]
          simp only [Bool.false_eq_true, if_false, Option.bind_some, b3]
          rw [show (((20 : Nat) : Int) == 20) = true from rfl]
          simp only [if_true]
          rfl
        · have b4 : ((d : Int) == 20) = false := by rw [beq_eq_false_iff_ne]; omega
          simp only [h20, if_false]
          unfold json_parser_value_b
          simp only [re38_eq, re25_eq]
          rw [hbp]
          simp only [Option.bind_some]
          rw [b1, wrap_u8n c (by omega), b2]
          simp only [Bool.false_eq_true, if_false, Option.bind_some, b3, b4]
          rfl
      · have b3 : decide (begIx c < 0) = true := decide_eq_true (beg_fin ⟨c, by omega⟩ hs)
        simp only [hs, if_false]
        refine ⟨pl u (c :: t) d, ?_⟩
        unfold json_parser_value_b
        simp only [re38_eq, re25_eq]
        rw [hbp]
        simp only [Option.bind_some]
        rw [b1, wrap_u8n c (by omega), b2]
        simp only [Bool.false_eq_true, if_false, Option.bind_some, b3, if_true]
        rfl
theorem valT_ok {n : Nat} {u : Str} {d c : Nat} {t : List Nat} {fP : ValF} (hu : u.length ≤ 1000000000) (hd : d < 1000000) (hv : ValOk (RecP n) fP u (d + 1)) (hsf : SufF fP) (h : Suf u (c :: t)) : match valC fP c t with
    | .inr (v, l') => valT (RecP (n + 2)) (c : Int) (pl u (c :: t) d) = some (.inr (v, pl u l' d, ()))
    | .inl e => Bad (valT (RecP (n + 2)) (c : Int) (pl u (c :: t) d)) e := by
  have eqn : ∀ k : Nat, ((c : Int) == (k : Int)) = decide (c = k) := fun k => by
    by_cases hk : c = k
    · rw [hk]; simp
    · rw [decide_eq_false hk, beq_eq_false_iff_ne]; omega
  have e110 := eqn 110
  have e116 := eqn 116
  have e102 := eqn 102
  have e34 := eqn 34
  have e91 := eqn 91
  have e123 := eqn 123
  rw [show ((110 : Nat) : Int) = 110 from rfl] at e110
  rw [show ((116 : Nat) : Int) = 116 from rfl] at e116
  rw [show ((102 : Nat) : Int) = 102 from rfl] at e102
  rw [show ((34 : Nat) : Int) = 34 from rfl] at e34
  rw [show ((91 : Nat) : Int) = 91 from rfl] at e91
  rw [show ((123 : Nat) : Int) = 123 from rfl] at e123
  unfold valC valT
  rw [e110, e116, e102, e34, e91, e123]
  by_cases q1 : c = 110
  · simp only [q1, if_true, decide_true]
    subst q1
    have hn := need_pl (d := d) [110, 117, 108, 108] hu (by simp) h
    rw [show ([110, 117, 108, 108] : Str).map (·.toNat) = [110, 117, 108, 108] from rfl] at hn
    cases hq : needP [110, 117, 108, 108] (110 :: t) with
    | none => rw [hq] at hn; obtain ⟨x', e⟩ := hn; rw [e]; exact ⟨_, rfl⟩
    | some l' => rw [hq] at hn; simp only at hn; rw [hn]; rfl
  simp only [q1, if_false, decide_false, Bool.false_eq_true]
  by_cases q2 : c = 116
  · simp only [q2, if_true, decide_true]
    subst q2
    have hn := need_pl (d := d) [116, 114, 117, 101] hu (by simp) h
    rw [show ([116, 114, 117, 101] : Str).map (·.toNat) = [116, 114, 117, 101] from rfl] at hn
    cases hq : needP [116, 114, 117, 101] (116 :: t) with
    | none => rw [hq] at hn; obtain ⟨x', e⟩ := hn; rw [e]; exact ⟨_, rfl⟩
    | some l' => rw [hq] at hn; simp only at hn; rw [hn]; rfl
  simp only [q2, if_false, decide_false, Bool.false_eq_true]
  by_cases q3 : c = 102
  · simp only [q3, if_true, decide_true]
    subst q3
    have hn := need_pl (d := d) [102, 97, 108, 115, 101] hu (by simp) h
    rw [show ([102, 97, 108, 115, 101] : Str).map (·.toNat) = [102, 97, 108, 115, 101] from rfl] at hn
    cases hq : needP [102, 97, 108, 115, 101] (102 :: t) with
    | none => rw [hq] at hn; obtain ⟨x', e⟩ := hn; rw [e]; exact ⟨_, rfl⟩
    | some l' => rw [hq] at hn; simp only at hn; rw [hn]; rfl
  simp only [q3, if_false, decide_false, Bool.false_eq_true]
  by_cases q4 : c = 34
  · simp only [q4, if_true, decide_true]
    subst q4
    have hn := text_pl (d := d) hu h
    cases hq : textP (34 :: t) with
    | none => rw [hq] at hn; obtain ⟨x', e⟩ := hn; rw [e]; exact ⟨_, rfl⟩
    | some p => rw [hq] at hn; simp only at hn; rw [hn]; rfl
  simp only [q4, if_false, decide_false, Bool.false_eq_true]
  by_cases q5 : c = 91
  · simp only [q5, if_true, decide_true]
    subst q5
    have hr := rows_pl (shut := 93) (K := 5) (N := 0) (S := []) hu hd (elem_row hv) (elemP_suf hsf) (by decide) trivial h
    have hrows : (RecP (n + 2)).json_parser_rows 93 (pl u (91 :: t) d) 5 0 [] [] [] = rowsTop (elem_p (RecP n)) 93 (pl u (91 :: t) d) 5 0 [] [] [] := rows_b_eq _ _ _ _ _ _ _ _
    rw [hrows]
    cases hq : rowsP (elemP fP) 93 t with
    | inl e => rw [hq] at hr; obtain ⟨x', K', N', S', l1, l2, e1⟩ := hr; simp only; rw [show rowsTop (elem_p (RecP n)) 93 (pl u (91 :: t) d) 5 0 [] [] [] = _ from e1]; exact ⟨_, rfl⟩
    | inr p => rw [hq] at hr; simp only at hr ⊢; rw [show rowsTop (elem_p (RecP n)) 93 (pl u (91 :: t) d) 5 0 [] [] [] = _ from hr]; rfl
  simp only [q5, if_false, decide_false, Bool.false_eq_true]
  by_cases q6 : c = 123
  · simp only [q6, if_true, decide_true]
    subst q6
    have hr := rows_pl (shut := 125) (K := 6) (N := 0) (S := []) hu hd (memb_row hu hv) (membP_suf hsf) (by decide) rfl h
    have hrows : (RecP (n + 2)).json_parser_rows_v2 125 (pl u (123 :: t) d) 6 0 [] [] [] = rowsTop (memb_p (RecP n)) 125 (pl u (123 :: t) d) 6 0 [] [] [] := rows2_b_eq _ _ _ _ _ _ _ _
    rw [hrows]
    cases hq : rowsP (membP fP) 125 t with
    | inl e => rw [hq] at hr; obtain ⟨x', K', N', S', l1, l2, e1⟩ := hr; simp only; rw [show rowsTop (memb_p (RecP n)) 125 (pl u (123 :: t) d) 6 0 [] [] [] = _ from e1]; exact ⟨_, rfl⟩
    | inr p => rw [hq] at hr; simp only at hr ⊢; rw [show rowsTop (memb_p (RecP n)) 125 (pl u (123 :: t) d) 6 0 [] [] [] = _ from hr]; rfl
  simp only [q6, if_false, decide_false, Bool.false_eq_true]
  have hn := number_pl (d := d) hu h
  cases hq : numberP (c :: t) with
  | none => rw [hq] at hn; obtain ⟨x', e⟩ := hn; rw [e]; exact ⟨_, rfl⟩
  | some p => rw [hq] at hn; simp only at hn; rw [hn]; rfl
theorem val_pl : ∀ (m d n : Nat) (u : Str), u.length ≤ 1000000000 → m + d = 20 → 3 * m + 1 ≤ n → ValOk (RecP n) (valP m) u d
  | 0, d, n, u, hu, hmd, hn => by
    intro l h
    obtain ⟨n', rfl⟩ : ∃ n', n = n' + 1 := ⟨n - 1, by omega⟩
    have hl := value_look (g := RecP n') (d := d) hu h
    have hd : d = 20 := by omega
    show match valG none l with
      | .inr (v, l') => json_parser_value_b (RecP n') (pl u l d) = some (.inr (v, pl u l' d, ()))
      | .inl e => Bad (json_parser_value_b (RecP n') (pl u l d)) e
    unfold valG
    cases hq : blk l with
    | nil => rw [hq] at hl; exact hl
    | cons c t =>
      rw [hq] at hl
      simp only at hl ⊢
      by_cases hs : c ∈ starts
      · simp only [hs, if_true, hd] at hl ⊢; exact hl
      · simp only [hs, if_false] at hl ⊢; exact hl
  | m + 1, d, n, u, hu, hmd, hn => by
    intro l h
    obtain ⟨n', rfl⟩ : ∃ n', n = n' + 3 := ⟨n - 3, by omega⟩
    have ih := val_pl m (d + 1) n' u hu (by omega) (by omega)
    have hl := value_look (g := RecP (n' + 2)) (d := d) hu h
    have hbs := h.of (blk_suf l)
    show match valG (some (valP m)) l with
      | .inr (v, l') => json_parser_value_b (RecP (n' + 2)) (pl u l d) = some (.inr (v, pl u l' d, ()))
      | .inl e => Bad (json_parser_value_b (RecP (n' + 2)) (pl u l d)) e
    unfold valG
    cases hq : blk l with
    | nil => rw [hq] at hl; exact hl
    | cons c t =>
      rw [hq] at hl hbs
      simp only at hl ⊢
      by_cases hs : c ∈ starts
      · simp only [hs, if_true] at hl ⊢
        rw [if_neg (by omega)] at hl
        rw [hl]
        exact valT_ok hu (by omega) ih (valP_suf m) hbs
      · simp only [hs, if_false] at hl ⊢; exact hl
theorem parse_doc (u : Str) (hu : u.length ≤ 1000000000) : json_Parse u = some ((docP u).1, (docP u).2, ()) := by
  rw [parse_over]
  unfold ParseOver docP
  rw [units_Check_eq u (by omega)]
  cases he : evenP u with
  | false => simp
  | true =>
    simp only [Option.bind_some, Bool.not_true, Bool.false_eq_true, if_false, if_true]
    have h0 : Suf u (unitsL u) := List.suffix_refl _
    have hv := val_pl 20 0 1000000000000 u hu rfl (by omega) (unitsL u) h0
    have hpos : pos u (unitsL u) = 0 := by unfold pos; omega
    rw [show (RecP Lp.big).json_parser_value ⟨u, 0, 0⟩ = (RecP 1000000000000).json_parser_value (pl u (unitsL u) 0) by unfold pl; rw [hpos]; rfl]
    cases hq : valP 20 (unitsL u) with
    | inl e =>
      rw [hq] at hv
      obtain ⟨x', e1⟩ := hv
      rw [e1]
      simp only [Option.bind_some]
      rfl
    | inr p =>
      obtain ⟨v, l'⟩ := p
      rw [hq] at hv
      simp only at hv
      rw [hv]
      simp only [Option.bind_some]
      rw [blanks_pl hu (h0.of (valP_suf 20 _ _ _ hq))]
      simp only [Option.bind_some]
      cases hb : blk l' with
      | nil => rfl
      | cons c t =>
        rw [show hdI (c :: t) = (c : Int) from rfl, decide_eq_true (p := (c : Int) ≥ 0) (by omega)]
        rfl
end Go.D13


/- Chapter 13, plainly: the document's parser answers what the plain one answers: its small parts. -/
namespace Go.D13
open Go Go.Gw Go.Dn
set_option linter.unusedSimpArgs false
set_option linter.unusedVariables false
set_option maxRecDepth 100000

abbrev RdT := T_credenzaref13_reader
theorem re46_eq' (x : RdT) : re46 x = x := by cases x; rfl
abbrev rl (u : Str) (l : List Nat) : RdT := ⟨natsI (unitsL u), ((pos u l : Nat) : Int), 0⟩
theorem natsI_length (l : List Nat) : (natsI l).length = l.length := by simp [natsI]
theorem rnext_dead {x : RdT} (h : x.e ≠ 0) : credenzaref13_reader_next x = some (-1, x, ()) := by
  have e : (x.e != 0) = true := by rw [bne_iff_ne]; exact h
  unfold credenzaref13_reader_next
  simp only [fk_self, re46_eq', e, if_true]
theorem rnext_pl {u : Str} {l : List Nat} (h : Suf u l) : credenzaref13_reader_next (rl u l) = some (hdI l, rl u l, ()) := by
  have hl := h.length_le
  unfold credenzaref13_reader_next
  simp only [fk_self, re46_eq']
  rw [show ((0 : Int) != 0) = false from rfl]
  simp only [Bool.false_eq_true, if_false, natsI_length]
  cases l with
  | nil =>
    rw [decide_eq_true (by unfold pos; simp)]
    rfl
  | cons n l =>
    have hg := h.at.get
    have hlt := (List.getElem?_eq_some_iff.1 hg).1
    rw [decide_eq_false (by omega)]
    have : getI (natsI (unitsL u)) ((pos u (n :: l) : Nat) : Int) = some (n : Int) := by
      rw [getI_nat]; unfold natsI; rw [List.getElem?_map, hg]; rfl
    simp only [Bool.false_eq_true, if_false, this]
    rfl
theorem rfwd {u : Str} {l : List Nat} {n : Nat} (hu : u.length ≤ 1000000000) (h : Suf u (n :: l)) : (⟨natsI (unitsL u), IntKind.wrap .i64 (((pos u (n :: l) : Nat) : Int) + 1), 0⟩ : RdT) = rl u l := by
  have := pos_le u (n :: l)
  rw [wrap1 (by omega), ← pos_tail h]
theorem rfail_dead {x : RdT} (e : Int) (h : x.e ≠ 0) : credenzaref13_reader_fail e x = some (x, ()) := by
  have e0 : (x.e == 0) = false := by rw [beq_eq_false_iff_ne]; exact h
  unfold credenzaref13_reader_fail
  simp only [e0, Bool.false_eq_true, if_false, re46_eq']
theorem rfail_live {x : RdT} (e : Int) (h : x.e = 0) : credenzaref13_reader_fail e x = some (⟨x.l, x.at_, e⟩, ()) := by
  have e0 : (x.e == 0) = true := by rw [beq_iff_eq]; exact h
  unfold credenzaref13_reader_fail
  simp only [e0, if_true]
theorem rblanks_dead {x : RdT} (h : x.e ≠ 0) : credenzaref13_reader_blanks x = some (x, ()) := by
  unfold credenzaref13_reader_blanks
  refine loop_of (n := 1) (loopN_out ?_) (by omega)
  simp only [credenzaref13_reader_blanks_l1, re46_eq']
  rw [rnext_dead h]
  simp only [Option.bind_some]
  rw [show ((-1 : Int) == 9) = false from rfl]
  simp only [Bool.false_eq_true, if_false]
  rw [rnext_dead h]
  simp only [Option.bind_some]
  rw [show ((-1 : Int) == 10) = false from rfl]
  simp only [Bool.false_eq_true, if_false]
  rw [rnext_dead h]
  simp only [Option.bind_some]
  rw [show ((-1 : Int) == 13) = false from rfl]
  simp only [Bool.false_eq_true, if_false]
  rw [rnext_dead h]
  rfl
theorem rblanks_n {u : Str} (hu : u.length ≤ 1000000000) : ∀ l : List Nat, Suf u l → loopN credenzaref13_reader_blanks_l1 (l.length + 1) (rl u l, ()) = some (rl u (blk l), ())
  | l, h => by
    have step : credenzaref13_reader_blanks_l1 (rl u l, ()) = (if (hdI l == 9) = true then some (.inl (⟨natsI (unitsL u), IntKind.wrap .i64 (((pos u l : Nat) : Int) + 1), 0⟩, ())) else if (hdI l == 10) = true then some (.inl (⟨natsI (unitsL u), IntKind.wrap .i64 (((pos u l : Nat) : Int) + 1), 0⟩, ())) else if (hdI l == 13) = true then some (.inl (⟨natsI (unitsL u), IntKind.wrap .i64 (((pos u l : Nat) : Int) + 1), 0⟩, ())) else if (hdI l == 32) = true then some (.inl (⟨natsI (unitsL u), IntKind.wrap .i64 (((pos u l : Nat) : Int) + 1), 0⟩, ())) else some (.inr (rl u l, ()))) := by
      simp only [credenzaref13_reader_blanks_l1, re46_eq', rnext_pl h, Option.bind_some]
    cases l with
    | nil =>
      rw [show hdI ([] : List Nat) = -1 from rfl] at step
      exact loopN_out step
    | cons n l =>
      rw [show hdI (n :: l) = (n : Int) from rfl] at step
      have e9 : ((n : Int) == 9) = (n == 9) := by rw [Bool.eq_iff_iff, beq_iff_eq, beq_iff_eq]; omega
      have e10 : ((n : Int) == 10) = (n == 10) := by rw [Bool.eq_iff_iff, beq_iff_eq, beq_iff_eq]; omega
      have e13 : ((n : Int) == 13) = (n == 13) := by rw [Bool.eq_iff_iff, beq_iff_eq, beq_iff_eq]; omega
      have e32 : ((n : Int) == 32) = (n == 32) := by rw [Bool.eq_iff_iff, beq_iff_eq, beq_iff_eq]; omega
      rw [e9, e10, e13, e32, rfwd hu h] at step
      by_cases hb : blankN n = true
      · have eb : blk (n :: l) = blk l := by unfold blk; rw [List.dropWhile_cons, if_pos hb]
        have step' : credenzaref13_reader_blanks_l1 (rl u (n :: l), ()) = some (.inl (rl u l, ())) := by
          rw [step]
          unfold blankN at hb
          cases q1 : n == 9
          · cases q2 : n == 10
            · cases q3 : n == 13
              · rw [q1, q2, q3] at hb
                have q4 : (n == 32) = true := by simpa using hb
                rw [q4]; rfl
              · rfl
            · rfl
          · rfl
        rw [List.length_cons, eb]
        exact (loopN_go step').trans (rblanks_n hu l h.tail)
      · have eb : blk (n :: l) = n :: l := by unfold blk; rw [List.dropWhile_cons, if_neg hb]
        rw [eb]
        refine loopN_out ?_
        rw [step]
        unfold blankN at hb
        simp only [Bool.or_eq_true, not_or, Bool.not_eq_true] at hb
        rw [hb.1.1.1, hb.1.1.2, hb.1.2, hb.2]
        rfl
theorem rblanks_pl {u : Str} {l : List Nat} (hu : u.length ≤ 1000000000) (h : Suf u l) : credenzaref13_reader_blanks (rl u l) = some (rl u (blk l), ()) := by
  have hl := h.len
  unfold credenzaref13_reader_blanks
  rw [re46_eq']
  exact loop_of (rblanks_n hu l h) (by omega)
/-- it has given up -/
def Dead (x : RdT) (e : Int) : Prop := x.e = e ∧ e ≠ 0
theorem rneed_dead {x : RdT} {e : Int} (c : UInt8) (s : Str) (h : Dead x e) : credenzaref13_reader_need (c :: s) x = some (x, ()) := by
  have h0 : x.e ≠ 0 := by rw [h.1]; exact h.2
  unfold credenzaref13_reader_need
  refine loop_of (n := 1) (loopN_out ?_) (by omega)
  have hclt := c.toNat_lt
  have w : IntKind.wrap .i64 ((c.toNat : Nat) : Int) = ((c.toNat : Nat) : Int) := wrap_i64 (by omega) (by omega)
  have hne : ((-1 : Int) != ((c.toNat : Nat) : Int)) = true := by rw [bne_iff_ne]; omega
  simp only [credenzaref13_reader_need_l1, re46_eq']
  rw [decide_eq_true (by simp only [List.length_cons]; omega), show getB (c :: s) 0 = some ((c.toNat : Nat) : Int) from rfl]
  simp only [if_true, Option.bind_some]
  rw [rnext_dead h0]
  simp only [Option.bind_some, w, hne, if_true]
  rw [rfail_dead 150 h0]
  rfl
theorem rneed_n {u : Str} (s : Str) (hu : u.length ≤ 1000000000) (hs : s.length ≤ 1000) : ∀ (t : Str) (i : Nat) (l : List Nat), s.drop i = t → i + t.length = s.length → Suf u l →
    match needP (t.map (·.toNat)) l with
    | some l' => loopN credenzaref13_reader_need_l1 (t.length + 1) (s, (i : Int), rl u l, ()) = some (rl u l', ())
    | none => ∃ x', Dead x' 150 ∧ loopN credenzaref13_reader_need_l1 (t.length + 1) (s, (i : Int), rl u l, ()) = some (x', ())
  | [], i, l, ht, hi, h => by
    simp only [List.length_nil, Nat.add_zero] at hi
    have hn : ¬ ((i : Int) < ((s.length : Nat) : Int)) := by omega
    simp only [List.map_nil, needP]
    exact loopN_out (by simp only [credenzaref13_reader_need_l1, hn, decide_false, Bool.false_eq_true, if_false, re46_eq'])
  | c :: t, i, l, ht, hi, h => by
    obtain ⟨h1, h2, h3⟩ := getI_drop ht
    have hlt : ((i : Int) < ((s.length : Nat) : Int)) := by omega
    have hc : getB s (i : Int) = some ((c.toNat : Nat) : Int) := by rw [getB_nat]; rw [getI_nat] at h1; rw [h1]; rfl
    have hclt := c.toNat_lt
    have w : IntKind.wrap .i64 ((c.toNat : Nat) : Int) = ((c.toNat : Nat) : Int) := wrap_i64 (by omega) (by omega)
    have ht' : s.drop (i + 1) = t := by rw [← List.tail_drop, ht]; rfl
    simp only [List.length_cons] at hi
    have bad : hdI l ≠ ((c.toNat : Nat) : Int) → ∃ x', Dead x' 150 ∧ loopN credenzaref13_reader_need_l1 ((c :: t).length + 1) (s, (i : Int), rl u l, ()) = some (x', ()) := by
      intro hne
      have e : (hdI l != ((c.toNat : Nat) : Int)) = true := by rw [bne_iff_ne]; exact hne
      refine ⟨⟨natsI (unitsL u), ((pos u l : Nat) : Int), 150⟩, ⟨rfl, by decide⟩, loopN_out ?_⟩
      simp only [credenzaref13_reader_need_l1, hlt, decide_true, if_true, hc, Option.bind_some, re46_eq']
      rw [rnext_pl h]
      simp only [Option.bind_some, w, e, if_true]
      rw [rfail_live 150 rfl]
      rfl
    cases l with
    | nil => exact bad (by show (-1 : Int) ≠ _; omega)
    | cons n l =>
      simp only [List.map_cons, needP]
      by_cases hn : n = c.toNat
      · rw [if_pos hn]
        have ih := rneed_n s hu hs t (i + 1) l ht' (by omega) h.tail
        have hgo : credenzaref13_reader_need_l1 (s, (i : Int), rl u (n :: l), ()) = some (.inl (s, ((i + 1 : Nat) : Int), rl u l, ())) := by
          simp only [credenzaref13_reader_need_l1, hlt, decide_true, if_true, hc, Option.bind_some, re46_eq']
          rw [rnext_pl h]
          simp only [Option.bind_some, hdI, w, hn, bne_self_eq_false, Bool.false_eq_true, if_false]
          rw [← hn, rfwd hu h, wrap1 (by omega)]
        rw [List.length_cons]
        cases hq : needP (t.map (·.toNat)) l with
        | some l' => rw [hq] at ih; simp only at ih ⊢; exact (loopN_go hgo).trans ih
        | none => rw [hq] at ih; simp only at ih ⊢; obtain ⟨x', d, e⟩ := ih; exact ⟨x', d, (loopN_go hgo).trans e⟩
      · rw [if_neg hn]
        exact bad (by show (n : Int) ≠ _; omega)
theorem rneed_pl {u : Str} {l : List Nat} (s : Str) (hu : u.length ≤ 1000000000) (hs : s.length ≤ 1000) (h : Suf u l) : match needP (s.map (·.toNat)) l with
    | some l' => credenzaref13_reader_need s (rl u l) = some (rl u l', ())
    | none => ∃ x', Dead x' 150 ∧ credenzaref13_reader_need s (rl u l) = some (x', ()) := by
  have := rneed_n s hu hs s 0 l rfl (by omega) h
  unfold credenzaref13_reader_need
  rw [re46_eq']
  cases hq : needP (s.map (·.toNat)) l with
  | some l' => rw [hq] at this; exact loop_of this (by omega)
  | none => rw [hq] at this; obtain ⟨x', d, e⟩ := this; exact ⟨x', d, loop_of e (by omega)⟩
/-! ### a string's literal -/
theorem digit_eq (n : Nat) (hn : n < 65536) : credenzaref13_digit (n : Int) = some (match hexDg n with | some d => (d : Int) | none => -1, ()) := by
  unfold credenzaref13_digit hexDg
  by_cases h1 : 48 ≤ n ∧ n ≤ 57
  · rw [decide_eq_true (by omega), decide_eq_true (by omega), if_pos h1]
    simp only [Bool.and_self, if_true]
    rw [wrap_i64 (by omega) (by omega)]
    congr 2; omega
  have b1 : (decide ((n : Int) ≥ 48) && decide ((n : Int) ≤ 57)) = false := by
    rw [Bool.and_eq_false_iff, decide_eq_false_iff_not, decide_eq_false_iff_not]; omega
  by_cases h2 : 97 ≤ n ∧ n ≤ 102
  · simp only [b1, Bool.false_eq_true, if_false, h1, h2, and_self, if_true]
    rw [decide_eq_true (by omega), decide_eq_true (by omega)]
    simp only [Bool.and_self, if_true]
    rw [wrap_i64 (n := (n : Int) - 97) (by omega) (by omega), wrap_i64 (by omega) (by omega), show (n : Int) - 97 + 10 = ((n - 87 : Nat) : Int) by omega]
  have b2 : (decide ((n : Int) ≥ 97) && decide ((n : Int) ≤ 102)) = false := by
    rw [Bool.and_eq_false_iff, decide_eq_false_iff_not, decide_eq_false_iff_not]; omega
  by_cases h3 : 65 ≤ n ∧ n ≤ 70
  · simp only [b1, b2, Bool.false_eq_true, if_false, h1, h2]
    rw [decide_eq_true (by omega), decide_eq_true (by omega), if_pos h3]
    simp only [Bool.and_self, if_true]
    rw [wrap_i64 (n := (n : Int) - 65) (by omega) (by omega), wrap_i64 (by omega) (by omega), show (n : Int) - 65 + 10 = ((n - 55 : Nat) : Int) by omega]
  have b3 : (decide ((n : Int) ≥ 65) && decide ((n : Int) ≤ 70)) = false := by
    rw [Bool.and_eq_false_iff, decide_eq_false_iff_not, decide_eq_false_iff_not]; omega
  simp only [b1, b2, b3, Bool.false_eq_true, if_false, h1, h2, h3]
def BadV {α : Type} (r : Option (α × RdT × Unit)) (e : Int) : Prop := ∃ v x', Dead x' e ∧ r = some (v, x', ())
theorem resc_n {u : Str} (hu : u.length ≤ 1000000000) : ∀ (k i a : Nat) (l : List Nat), i + k = 4 → a < 16 ^ i → Suf u l → match hexP k a l with
    | some (v, l') => loopN credenzaref13_reader_escaped_l1 (k + 1) ((a : Int), (i : Int), rl u l, ()) = some ((v : Int), rl u l', ())
    | none => BadV (loopN credenzaref13_reader_escaped_l1 (k + 1) ((a : Int), (i : Int), rl u l, ())) 150
  | 0, i, a, l, hi, ha, h => by
    have : i = 4 := by omega
    subst this
    refine loopN_out ?_
    simp only [credenzaref13_reader_escaped_l1, re46_eq']
    rw [show decide (((4 : Nat) : Int) < 4) = false from rfl]
    rfl
  | k + 1, i, a, l, hi, ha, h => by
    have hi4 : ((i : Int) < 4) := by omega
    have ha4 : a < 4096 := by
      have : i = 0 ∨ i = 1 ∨ i = 2 ∨ i = 3 := by omega
      rcases this with rfl | rfl | rfl | rfl
      · exact Nat.lt_of_lt_of_le ha (by decide)
      · exact Nat.lt_of_lt_of_le ha (by decide)
      · exact Nat.lt_of_lt_of_le ha (by decide)
      · exact ha
    have bad : credenzaref13_digit (hdI l) = some (-1, ()) → BadV (loopN credenzaref13_reader_escaped_l1 (k + 1 + 1) ((a : Int), (i : Int), rl u l, ())) 150 := by
      intro hd
      refine ⟨0, ⟨natsI (unitsL u), ((pos u l : Nat) : Int), 150⟩, ⟨rfl, by decide⟩, loopN_out ?_⟩
      simp only [credenzaref13_reader_escaped_l1, hi4, decide_true, if_true, re46_eq']
      rw [rnext_pl h]
      simp only [Option.bind_some]
      rw [hd]
      simp only [Option.bind_some]
      rw [show decide ((-1 : Int) < 0) = true from rfl]
      simp only [if_true]
      rw [rfail_live 150 rfl]
      rfl
    cases l with
    | nil => exact bad rfl
    | cons n l =>
      simp only [hexP]
      have hdg := digit_eq n h.at.lt
      cases hv : hexDg n with
      | none => rw [hv] at hdg; exact bad hdg
      | some v =>
        rw [hv] at hdg
        simp only at hdg ⊢
        have hv16 : v < 16 := by
          unfold hexDg at hv
          split at hv
          · cases hv; omega
          · split at hv
            · cases hv; omega
            · split at hv
              · cases hv; omega
              · cases hv
        have hgo : credenzaref13_reader_escaped_l1 ((a : Int), (i : Int), rl u (n :: l), ()) = some (.inl (((a * 16 + v : Nat) : Int), ((i + 1 : Nat) : Int), rl u l, ())) := by
          simp only [credenzaref13_reader_escaped_l1, hi4, decide_true, if_true, re46_eq']
          rw [rnext_pl h, show hdI (n :: l) = (n : Int) from rfl]
          simp only [Option.bind_some]
          rw [hdg]
          simp only [Option.bind_some]
          rw [decide_eq_false (p := (v : Int) < 0) (by omega)]
          simp only [Bool.false_eq_true, if_false]
          rw [rfwd hu h, wrap1 (by omega), wrap_i64 (n := 16 * (a : Int)) (by omega) (by omega), wrap_i64 (by omega) (by omega), show 16 * (a : Int) + (v : Int) = ((a * 16 + v : Nat) : Int) by omega]
        have ih := resc_n hu k (i + 1) (a * 16 + v) l (by omega) (by rw [Nat.pow_succ]; omega) h.tail
        cases hq : hexP k (a * 16 + v) l with
        | none => rw [hq] at ih; obtain ⟨v', x', d, e⟩ := ih; exact ⟨v', x', d, (loopN_go hgo).trans e⟩
        | some p => rw [hq] at ih; exact (loopN_go hgo).trans ih
end Go.D13


/- Chapter 13, plainly: the document's parser answers what the plain one answers: strings, numbers, keys. -/
namespace Go.D13
open Go Go.Gw Go.Dn
set_option linter.unusedSimpArgs false
set_option linter.unusedVariables false
set_option maxRecDepth 100000

def escR : List Nat → Option (Nat × List Nat)
  | [] => none
  | c :: t => if c = 117 then hexP 4 0 t else (match escP c with | some v => some (v, t) | none => none)
theorem oneP_esc (l : List Nat) : oneP (92 :: l) = escR l := by cases l <;> rfl
theorem resc_pl {u : Str} {l : List Nat} (hu : u.length ≤ 1000000000) (h : Suf u l) : match escR l with
    | some (v, l') => credenzaref13_reader_escaped (rl u l) = some ((v : Int), rl u l', ())
    | none => BadV (credenzaref13_reader_escaped (rl u l)) 150 := by
  have start : credenzaref13_reader_escaped (rl u l) = if (hdI l == 34) = true then some (hdI l, ⟨natsI (unitsL u), IntKind.wrap .i64 (((pos u l : Nat) : Int) + 1), 0⟩, ())
      else if (hdI l == 92) = true then some (hdI l, ⟨natsI (unitsL u), IntKind.wrap .i64 (((pos u l : Nat) : Int) + 1), 0⟩, ())
      else if (hdI l == 47) = true then some (hdI l, ⟨natsI (unitsL u), IntKind.wrap .i64 (((pos u l : Nat) : Int) + 1), 0⟩, ())
      else if (hdI l == 98) = true then some (8, ⟨natsI (unitsL u), IntKind.wrap .i64 (((pos u l : Nat) : Int) + 1), 0⟩, ())
      else if (hdI l == 102) = true then some (12, ⟨natsI (unitsL u), IntKind.wrap .i64 (((pos u l : Nat) : Int) + 1), 0⟩, ())
      else if (hdI l == 110) = true then some (10, ⟨natsI (unitsL u), IntKind.wrap .i64 (((pos u l : Nat) : Int) + 1), 0⟩, ())
      else if (hdI l == 114) = true then some (13, ⟨natsI (unitsL u), IntKind.wrap .i64 (((pos u l : Nat) : Int) + 1), 0⟩, ())
      else if (hdI l == 116) = true then some (9, ⟨natsI (unitsL u), IntKind.wrap .i64 (((pos u l : Nat) : Int) + 1), 0⟩, ())
      else if (hdI l == 117) = true then Lp.loop credenzaref13_reader_escaped_l1 (0, 0, ⟨natsI (unitsL u), IntKind.wrap .i64 (((pos u l : Nat) : Int) + 1), 0⟩, ())
      else some (0, ⟨natsI (unitsL u), IntKind.wrap .i64 (((pos u l : Nat) : Int) + 1), 150⟩, ()) := by
    unfold credenzaref13_reader_escaped
    simp only [re46_eq', rnext_pl h, Option.bind_some]
    rw [rfail_live 150 rfl]
    rfl
  cases l with
  | nil =>
    rw [show hdI ([] : List Nat) = -1 from rfl] at start
    exact ⟨_, _, ⟨rfl, by decide⟩, start⟩
  | cons c t =>
    rw [show hdI (c :: t) = (c : Int) from rfl, rfwd hu h] at start
    have eqn : ∀ k : Nat, ((c : Int) == (k : Int)) = decide (c = k) := fun k => by
      by_cases hk : c = k
      · rw [hk]; simp
      · rw [decide_eq_false hk, beq_eq_false_iff_ne]; omega
    have e34 := eqn 34
    have e92 := eqn 92
    have e47 := eqn 47
    have e98 := eqn 98
    have e102 := eqn 102
    have e110 := eqn 110
    have e114 := eqn 114
    have e116 := eqn 116
    have e117 := eqn 117
    rw [show ((34 : Nat) : Int) = 34 from rfl] at e34
    rw [show ((92 : Nat) : Int) = 92 from rfl] at e92
    rw [show ((47 : Nat) : Int) = 47 from rfl] at e47
    rw [show ((98 : Nat) : Int) = 98 from rfl] at e98
    rw [show ((102 : Nat) : Int) = 102 from rfl] at e102
    rw [show ((110 : Nat) : Int) = 110 from rfl] at e110
    rw [show ((114 : Nat) : Int) = 114 from rfl] at e114
    rw [show ((116 : Nat) : Int) = 116 from rfl] at e116
    rw [show ((117 : Nat) : Int) = 117 from rfl] at e117
    rw [e34, e92, e47, e98, e102, e110, e114, e116, e117] at start
    simp only [decide_eq_true_eq] at start
    simp only [escR]
    by_cases h117 : c = 117
    · subst h117
      simp only [if_true]
      rw [if_neg (by decide), if_neg (by decide), if_neg (by decide), if_neg (by decide), if_neg (by decide), if_neg (by decide), if_neg (by decide), if_neg (by decide), if_pos rfl] at start
      rw [start]
      have hh := resc_n hu 4 0 0 t rfl (by decide) h.tail
      cases hq : hexP 4 0 t with
      | none => rw [hq] at hh; obtain ⟨v', x', d, e⟩ := hh; exact ⟨v', x', d, loop_of e (by omega)⟩
      | some p => rw [hq] at hh; exact loop_of hh (by omega)
    · simp only [h117, if_false] at start ⊢
      rw [start]
      unfold escP
      by_cases q : c = 34
      · subst q; rfl
      simp only [q, if_false]
      by_cases q : c = 92
      · subst q; rfl
      simp only [q, if_false]
      by_cases q : c = 47
      · subst q; rfl
      simp only [q, if_false]
      by_cases q : c = 98
      · subst q; rfl
      simp only [q, if_false]
      by_cases q : c = 102
      · subst q; rfl
      simp only [q, if_false]
      by_cases q : c = 110
      · subst q; rfl
      simp only [q, if_false]
      by_cases q : c = 114
      · subst q; rfl
      simp only [q, if_false]
      by_cases q : c = 116
      · subst q; rfl
      simp only [q, if_false]
      have hp := pos_le u (c :: t)
      exact ⟨0, _, ⟨rfl, by decide⟩, rfl⟩
theorem hexP_lt : ∀ (k i a : Nat) (l : List Nat) (p : Nat × List Nat), i + k = 4 → a < 16 ^ i → hexP k a l = some p → p.1 < 65536
  | 0, i, a, l, p, hi, ha, h => by
    have : i = 4 := by omega
    subst this
    cases h
    exact ha
  | k + 1, i, a, [], p, hi, ha, h => by cases h
  | k + 1, i, a, n :: l, p, hi, ha, h => by
    simp only [hexP] at h
    split at h
    · rename_i v hv
      have hv16 : v < 16 := by
        unfold hexDg at hv
        split at hv
        · cases hv; omega
        · split at hv
          · cases hv; omega
          · split at hv
            · cases hv; omega
            · cases hv
      exact hexP_lt k (i + 1) (a * 16 + v) l p (by omega) (by rw [Nat.pow_succ]; omega) h
    · cases h
theorem oneP_lt {n : Nat} {l : List Nat} {p : Nat × List Nat} (hn : n < 65536) (h : oneP (n :: l) = some p) : p.1 < 65536 := by
  by_cases h92 : n = 92
  · subst h92
    rw [oneP_esc] at h
    cases l with
    | nil => cases h
    | cons c t =>
      simp only [escR] at h
      split at h
      · exact hexP_lt 4 0 0 t p rfl (by decide) h
      · split at h
        · rename_i v hv
          cases h
          have : ∀ c v, escP c = some v → v < 256 := by
            intro c v h
            unfold escP at h
            split at h; · cases h; omega
            split at h; · cases h; omega
            split at h; · cases h; omega
            split at h; · cases h; omega
            split at h; · cases h; omega
            split at h; · cases h; omega
            split at h; · cases h; omega
            split at h; · cases h; omega
            cases h
          have := this c v hv
          simp only
          omega
        · cases h
  · simp only [oneP, h92, if_false] at h
    cases h
    exact hn
theorem natsI_append (a : List Nat) (v : Nat) : natsI a ++ [(v : Int)] = natsI (a ++ [v]) := by simp [natsI]
theorem rtext_dead_l {x : RdT} {e : Int} {f : Nat} {a : List Int} (h : Dead x e) : loopN credenzaref13_reader_text_l1 (f + 1) (x, a, ()) = some ([], x, ()) := by
  have e0 : (x.e == 0) = false := by rw [beq_eq_false_iff_ne, h.1]; exact h.2
  refine loopN_out ?_
  simp only [credenzaref13_reader_text_l1, e0, Bool.false_eq_true, if_false, re46_eq']
theorem rtext_n {u : Str} (hu : u.length ≤ 1000000000) : ∀ (f : Nat) (acc l : List Nat), l.length < f → acc.length + l.length ≤ 50000000 → (∀ n ∈ acc, n < 65536) → Suf u l → match strP f acc l with
    | some (us, l') => loopN credenzaref13_reader_text_l1 f (rl u l, natsI acc, ()) = some (us.flatMap unit2, rl u l', ())
    | none => ∃ x', Dead x' 150 ∧ loopN credenzaref13_reader_text_l1 (f + 1) (rl u l, natsI acc, ()) = some ([], x', ())
  | 0, acc, l, hf, _, _, _ => by omega
  | f + 1, acc, l, hf, ha, hacc, h => by
    have low : hdI l < 32 → ∃ x', Dead x' 150 ∧ loopN credenzaref13_reader_text_l1 (f + 1 + 1) (rl u l, natsI acc, ()) = some ([], x', ()) := by
      intro hlt
      have hd : Dead (⟨natsI (unitsL u), IntKind.wrap .i64 (((pos u l : Nat) : Int) + 1), 150⟩ : RdT) 150 := ⟨rfl, by decide⟩
      refine ⟨_, hd, (loopN_go ?_).trans (rtext_dead_l (a := natsI acc) hd)⟩
      simp only [credenzaref13_reader_text_l1, re46_eq']
      rw [show ((0 : Int) == 0) = true from rfl]
      simp only [if_true]
      rw [rnext_pl h]
      simp only [Option.bind_some, hlt, decide_true, if_true]
      rw [rfail_live 150 rfl]
      rfl
    cases l with
    | nil => exact low (by show (-1 : Int) < 32; decide)
    | cons n l =>
      simp only [strP, List.length_cons] at hf ha ⊢
      by_cases h32 : n < 32
      · simp only [h32, if_true]
        exact low (by show (n : Int) < 32; omega)
      · simp only [h32, if_false]
        have start : credenzaref13_reader_text_l1 (rl u (n :: l), natsI acc, ()) = if ((n : Int) == 34) = true then
             Option.bind (credenzaref01_Make (natsI acc)) fun r_7 => some (Sum.inr (r_7.1, rl u l, ()))
            else
             if ((n : Int) == 92) = true then
              Option.bind (credenzaref13_reader_escaped (rl u l)) fun r_8 =>
              Option.bind (room ((natsI acc).length + ([r_8.1] : List Int).length)) fun _ =>
              some (Sum.inl (r_8.2.1, (natsI acc) ++ ([r_8.1] : List Int), ()))
             else
              Option.bind (room ((natsI acc).length + ([(n : Int)] : List Int).length)) fun _ =>
              some (Sum.inl (rl u l, (natsI acc) ++ ([(n : Int)] : List Int), ())) := by
          simp only [credenzaref13_reader_text_l1, re46_eq']
          rw [show ((0 : Int) == 0) = true from rfl]
          simp only [if_true]
          rw [rnext_pl h, show hdI (n :: l) = (n : Int) from rfl]
          simp only [Option.bind_some]
          rw [decide_eq_false (p := (n : Int) < 32) (by omega)]
          simp only [Bool.false_eq_true, if_false]
          rw [rfwd hu h]
        by_cases h34 : n = 34
        · subst h34
          simp only [if_true]
          rw [show (((34 : Nat) : Int) == 34) = true from rfl] at start
          simp only [if_true] at start
          rw [make_eq acc hacc (by omega)] at start
          exact loopN_out start
        · have e34 : ((n : Int) == 34) = false := by rw [beq_eq_false_iff_ne]; omega
          simp only [h34, if_false]
          simp only [e34, Bool.false_eq_true, if_false] at start
          -- what is read, and on
          have on : ∀ p, oneP (n :: l) = some p → credenzaref13_reader_text_l1 (rl u (n :: l), natsI acc, ()) = some (.inl (rl u p.2, natsI (acc ++ [p.1]), ())) → match strP f (acc ++ [p.1]) p.2 with
              | some (us, l') => loopN credenzaref13_reader_text_l1 (f + 1) (rl u (n :: l), natsI acc, ()) = some (us.flatMap unit2, rl u l', ())
              | none => ∃ x', Dead x' 150 ∧ loopN credenzaref13_reader_text_l1 (f + 1 + 1) (rl u (n :: l), natsI acc, ()) = some ([], x', ()) := by
            intro p hp hgo
            obtain ⟨n', t', e', hs⟩ := oneP_suf hp
            cases e'
            have hl' := hs.length_le
            have hlt := oneP_lt h.at.lt hp
            have ih := rtext_n hu f (acc ++ [p.1]) p.2 (by omega) (by simp only [List.length_append, List.length_cons, List.length_nil]; omega) (by
              intro m hm
              rcases List.mem_append.1 hm with hm | hm
              · exact hacc m hm
              · rw [List.mem_singleton.1 hm]; exact hlt) (h.tail.of hs)
            cases hq : strP f (acc ++ [p.1]) p.2 with
            | none => rw [hq] at ih; obtain ⟨x', d, e⟩ := ih; exact ⟨x', d, (loopN_go hgo).trans e⟩
            | some q => rw [hq] at ih; exact (loopN_go hgo).trans ih
          by_cases h92 : n = 92
          · subst h92
            rw [show (((92 : Nat) : Int) == 92) = true from rfl] at start
            simp only [if_true] at start
            have he := resc_pl hu h.tail
            rw [oneP_esc]
            cases hq : escR l with
            | none =>
              rw [hq] at he
              obtain ⟨v, x', d, e⟩ := he
              rw [e] at start
              simp only [Option.bind_some] at start
              rw [room_ok (by rw [natsI_length]; simp only [List.length_cons, List.length_nil]; omega)] at start
              exact ⟨x', d, (loopN_go start).trans (rtext_dead_l d)⟩
            | some p =>
              rw [hq] at he
              simp only at he
              rw [he] at start
              simp only [Option.bind_some] at start
              rw [room_ok (by rw [natsI_length]; simp only [List.length_cons, List.length_nil]; omega)] at start
              simp only [Option.bind_some] at start
              rw [natsI_append] at start
              exact on p (by rw [oneP_esc]; exact hq) start
          · have e92 : ((n : Int) == 92) = false := by rw [beq_eq_false_iff_ne]; omega
            simp only [e92, Bool.false_eq_true, if_false] at start
            rw [room_ok (by rw [natsI_length]; simp only [List.length_cons, List.length_nil]; omega)] at start
            simp only [Option.bind_some] at start
            rw [natsI_append] at start
            have ho : oneP (n :: l) = some (n, l) := by simp only [oneP, h92, if_false]
            rw [ho]
            exact on (n, l) ho start
theorem rtext_pl {u : Str} {l : List Nat} (hu : u.length ≤ 50000000) (h : Suf u l) : match textP l with
    | some (s, l') => credenzaref13_reader_text (rl u l) = some (s, rl u l', ())
    | none => ∃ x', Dead x' 150 ∧ credenzaref13_reader_text (rl u l) = some ([], x', ()) := by
  have hn := rneed_pl [34] (by omega) (by simp) h
  unfold credenzaref13_reader_text textP
  rw [re46_eq']
  rw [show ([34] : Str).map (·.toNat) = [34] from rfl] at hn
  cases hq : needP [34] l with
  | none =>
    rw [hq] at hn
    obtain ⟨x', d, e⟩ := hn
    simp only
    rw [e]
    refine ⟨x', d, ?_⟩
    simp only [Option.bind_some, re46_eq']
    exact loop_of (rtext_dead_l (f := 0) d) (by omega)
  | some l1 =>
    rw [hq] at hn
    simp only at hn ⊢
    rw [hn]
    simp only [Option.bind_some, re46_eq']
    have hs := needP_suf hq
    have hl := h.len
    have hl1 := hs.length_le
    have hst := rtext_n (by omega) (l1.length + 1) [] l1 (by omega) (by simp; omega) (fun _ h => by cases h) (h.of hs)
    cases hp : strP (l1.length + 1) [] l1 with
    | none => rw [hp] at hst; obtain ⟨x', d, e⟩ := hst; exact ⟨x', d, loop_of e (by omega)⟩
    | some p => rw [hp] at hst; exact loop_of hst (by omega)
/-! ### keys -/
theorem keyed_eq (K N : Int) (S key : Str) (x : Data) (a : Acc) (h1 : a.1.length ≤ 100000000000) (h2 : a.2.length ≤ 100000000000) (hl : a.1.length = a.2.length) : credenzaref13_keyed K N S key x a.1 a.2 = some (K, N, S, (putP a key x).1, (putP a key x).2, ()) := by
  have h := loop_all (step := credenzaref13_keyed_l1) (fun (k : Nat) i => (key, ((a.1.length : Nat) : Int), (i : Int), a.1, a.2, K, N, S, x, 0, 0, ([] : Str), ([] : List Str), ([] : List T_api_Data), ())) a.1 (fun k y => if (y == key) = true then .inr (K, N, S, a.1, a.2.set k x, ()) else .inl (k + 1)) (fun _ => (K, N, S, a.1 ++ [key], a.2 ++ [x], ())) (fun k t => k + t.length = a.1.length) 0 (by omega) (by omega)
    (fun i y t k ht hk => by
      obtain ⟨g1, g2, g3⟩ := getI_drop ht
      have hi : ((i : Int) < ((a.1.length : Nat) : Int)) := by omega
      have hki : k = i := by have := congrArg List.length ht; simp at this; simp only [List.length_cons] at hk; omega
      subst hki
      have hg : getI a.2 (k : Int) = some (a.2[k]'(by omega)) := by rw [getI_nat]; exact List.getElem?_eq_getElem (by omega)
      cases hx : y == key with
      | true =>
        simp only [if_true]
        simp only [credenzaref13_keyed_l1, hi, decide_true, if_true, g1, Option.bind_some, hx, hg, re25_eq]
        rfl
      | false =>
        simp only [Bool.false_eq_true, if_false]
        refine ⟨?_, by simp only [List.length_cons] at hk; omega⟩
        simp only [credenzaref13_keyed_l1, hi, decide_true, if_true, g1, Option.bind_some, hx, Bool.false_eq_true, if_false, re25_eq]
        rw [wrap1 (by omega)])
    (fun k _ => by
      have hi : ¬ (((a.1.length : Nat) : Int) < ((a.1.length : Nat) : Int)) := by omega
      simp only [credenzaref13_keyed_l1, hi, decide_false, Bool.false_eq_true, if_false, re25_eq]
      rw [room_ok (by simp only [List.length_cons, List.length_nil]; omega), room_ok (by simp only [List.length_cons, List.length_nil]; omega)]
      rfl)
  unfold credenzaref13_keyed
  rw [re25_eq]
  refine h.trans ?_
  have : ∀ (t : List Str) (k : Nat), foldE (fun (k : Nat) (y : Str) => (if (y == key) = true then .inr (K, N, S, a.1, a.2.set k x, ()) else .inl (k + 1) : Nat ⊕ (Int × Int × Str × List Str × List Data × Unit))) (fun _ => (K, N, S, a.1 ++ [key], a.2 ++ [x], ())) k t = (match t.findIdx? (· == key) with | some i => (K, N, S, a.1, a.2.set (k + i) x, ()) | none => (K, N, S, a.1 ++ [key], a.2 ++ [x], ())) := by
    intro t
    induction t with
    | nil => intro k; rfl
    | cons y t ih =>
      intro k
      rw [List.findIdx?_cons]
      cases hx : y == key with
      | true => rw [foldE_inr (e := (K, N, S, a.1, a.2.set k x, ())) (by rw [hx]; rfl)]; simp
      | false =>
        rw [foldE_inl (a' := k + 1) (by rw [hx]; rfl), ih]
        cases hq : t.findIdx? (· == key) with
        | none => simp
        | some i =>
          simp only [Option.map_some]
          rw [show k + 1 + i = k + (i + 1) by omega]
          rfl
  rw [this a.1 0]
  unfold putP
  cases a.1.findIdx? (· == key) with
  | none => rfl
  | some i => simp
end Go.D13


/- Chapter 13, plainly: the document's parser answers what the plain one answers: numbers, rows, values; JsonParses. -/
namespace Go.D13
open Go Go.Gw Go.Dn
set_option linter.unusedSimpArgs false
set_option linter.unusedVariables false
set_option maxRecDepth 100000

/-! ### numbers -/
theorem rnum_end {x : RdT} {sg : Int} {n s : Nat} {p : Nat} (hx : x.at_ = (p : Int)) (hx0 : x.e = 0) (K N : Int) (S : Str) (l : List Str) (l2 : List Data) : credenzaref13_reader_number_j2 sg (n : Int) (s : Int) x K N S l l2 =
    if p = s ∨ 9007199254740991 < n then some (⟨3, IntKind.wrap .i64 (sg * (n : Int)), [], [], []⟩, ⟨x.l, x.at_, 150⟩, ()) else some (⟨3, IntKind.wrap .i64 (sg * (n : Int)), [], [], []⟩, x, ()) := by
  unfold credenzaref13_reader_number_j2
  simp only [re46_eq']
  rw [rfail_live 150 hx0, hx]
  by_cases h1 : p = s
  · have e : ((p : Int) == (s : Int)) = true := by rw [beq_iff_eq]; omega
    rw [e, if_pos (Or.inl h1)]
    simp only [Bool.true_or, if_true]
    rfl
  · have e : ((p : Int) == (s : Int)) = false := by rw [beq_eq_false_iff_ne]; omega
    by_cases h2 : 9007199254740991 < n
    · rw [decide_eq_true (by omega)]
      simp only [Bool.or_true, if_true, h2, or_true]
      rfl
    · rw [decide_eq_false (by omega)]
      simp only [e, Bool.or_self, Bool.false_eq_true, if_false, h1, h2, or_self]
theorem rnum_n {u : Str} {s : Nat} {sg : Int} {K N : Int} {S : Str} {q1 : List Str} {q2 : List Data} (hu : u.length ≤ 1000000000) : ∀ (l : List Nat) (a : Nat) (first : Bool), (first = true ↔ pos u l = s) → s ≤ pos u l → a ≤ 9007199254740991 → (first = false → a ≠ 0) → (first = true → a = 0) → Suf u l → match numL first a l with
    | some (n, l') => n ≤ 9007199254740991 ∧ loopN credenzaref13_reader_number_l1 (l.length + 2) (sg, (a : Int), (s : Int), rl u l, K, N, S, q1, q2, ()) = some ((⟨3, IntKind.wrap .i64 (sg * (n : Int)), [], [], []⟩ : Data), rl u l', ())
    | none => BadV (loopN credenzaref13_reader_number_l1 (l.length + 2) (sg, (a : Int), (s : Int), rl u l, K, N, S, q1, q2, ())) 150
  | l, a, first, hfi, hs, ha, hf0, hf1, h => by
    have hp := pos_le u l
    have je := rnum_end (x := rl u l) (sg := sg) (n := a) (s := s) (p := pos u l) rfl rfl K N S q1 q2
    -- it stops here
    have stop : credenzaref13_reader_number_l1 (sg, (a : Int), (s : Int), rl u l, K, N, S, q1, q2, ()) = mapO Sum.inr (credenzaref13_reader_number_j2 sg (a : Int) (s : Int) (rl u l) K N S q1 q2) → (if first then BadV (loopN credenzaref13_reader_number_l1 (l.length + 2) (sg, (a : Int), (s : Int), rl u l, K, N, S, q1, q2, ())) 150 else loopN credenzaref13_reader_number_l1 (l.length + 2) (sg, (a : Int), (s : Int), rl u l, K, N, S, q1, q2, ()) = some ((⟨3, IntKind.wrap .i64 (sg * (a : Int)), [], [], []⟩ : Data), rl u l, ())) := by
      intro hst
      cases first with
      | true =>
        rw [if_pos (.inl (hfi.1 rfl))] at je
        simp only [if_true]
        exact ⟨_, _, ⟨rfl, by decide⟩, loopN_out (by rw [hst, je]; rfl)⟩
      | false =>
        rw [if_neg (by rintro (e | e); · have := hfi.2 e; cases this
                       · omega)] at je
        simp only [Bool.false_eq_true, if_false]
        exact loopN_out (by rw [hst, je]; rfl)
    cases l with
    | nil =>
      have := stop (by
        simp only [credenzaref13_reader_number_l1, re46_eq']
        rw [rnext_pl h]
        rfl)
      simp only [numL]
      cases first with
      | true => exact this
      | false => exact ⟨ha, this⟩
    | cons n l =>
      simp only [numL]
      have start : credenzaref13_reader_number_l1 (sg, (a : Int), (s : Int), rl u (n :: l), K, N, S, q1, q2, ()) = if decide ((n : Int) ≥ 48) = true then
           (if (decide ((n : Int) ≤ 57) && decide ((a : Int) ≤ 9007199254740991)) = true then
             (if (IntKind.wrap .i64 (IntKind.wrap .i64 (10 * (a : Int)) + IntKind.wrap .i64 ((n : Int) - 48)) == 0) = true then
               mapO Sum.inr (credenzaref13_reader_number_j2 sg (IntKind.wrap .i64 (IntKind.wrap .i64 (10 * (a : Int)) + IntKind.wrap .i64 ((n : Int) - 48))) (s : Int) (rl u l) K N S q1 q2)
              else some (Sum.inl (sg, IntKind.wrap .i64 (IntKind.wrap .i64 (10 * (a : Int)) + IntKind.wrap .i64 ((n : Int) - 48)), (s : Int), rl u l, K, N, S, q1, q2, ())))
            else mapO Sum.inr (credenzaref13_reader_number_j2 sg (a : Int) (s : Int) (rl u (n :: l)) K N S q1 q2))
          else mapO Sum.inr (credenzaref13_reader_number_j2 sg (a : Int) (s : Int) (rl u (n :: l)) K N S q1 q2) := by
        simp only [credenzaref13_reader_number_l1, re46_eq', rnext_pl h, Option.bind_some, show hdI (n :: l) = (n : Int) from rfl]
        rw [rfwd hu h]
      by_cases hc : n < 48 ∨ 57 < n
      · have := stop (by
          rw [start]
          rcases hc with hc | hc
          · rw [decide_eq_false (p := (n : Int) ≥ 48) (by omega)]; rfl
          · rw [decide_eq_true (p := (n : Int) ≥ 48) (by omega), decide_eq_false (p := (n : Int) ≤ 57) (by omega)]; rfl)
        rw [if_pos (.inl hc)]
        cases first with
        | true => exact this
        | false => exact ⟨ha, this⟩
      · have hn : 48 ≤ n ∧ n ≤ 57 := by omega
        have hnz : ¬ (first = false ∧ a = 0) := fun e => hf0 e.1 e.2
        rw [if_neg (by rintro (e | e); · exact hc e
                       · exact hnz e)]
        have w1 : IntKind.wrap .i64 (10 * (a : Int)) = ((10 * a : Nat) : Int) := by rw [wrap_i64 (by omega) (by omega)]; omega
        have w2 : IntKind.wrap .i64 ((n : Int) - 48) = ((n - 48 : Nat) : Int) := by rw [wrap_i64 (by omega) (by omega)]; omega
        have w3 : IntKind.wrap .i64 (((10 * a : Nat) : Int) + ((n - 48 : Nat) : Int)) = ((10 * a + (n - 48) : Nat) : Int) := by rw [wrap_i64 (by omega) (by omega)]; omega
        rw [decide_eq_true (p := (n : Int) ≥ 48) (by omega), decide_eq_true (p := (n : Int) ≤ 57) (by omega), decide_eq_true (p := (a : Int) ≤ 9007199254740991) (by omega), w1, w2, w3] at start
        simp only [Bool.and_self, if_true] at start
        have hpt := pos_tail h
        by_cases hz : 10 * a + (n - 48) = 0
        · -- a single nought
          have ez : (((10 * a + (n - 48) : Nat) : Int) == 0) = true := by rw [beq_iff_eq]; omega
          rw [ez] at start
          simp only [if_true] at start
          have je2 := rnum_end (x := rl u l) (sg := sg) (n := 10 * a + (n - 48)) (s := s) (p := pos u l) rfl rfl K N S q1 q2
          rw [if_neg (by rintro (e | e) <;> omega)] at je2
          rw [je2] at start
          rw [if_neg (by omega), hz]
          have e0 : numL false 0 l = some (0, l) := by
            cases l with
            | nil => rfl
            | cons m t => simp [numL]
          rw [e0]
          rw [hz] at start
          exact ⟨by omega, loopN_out start⟩
        · have ez : (((10 * a + (n - 48) : Nat) : Int) == 0) = false := by rw [beq_eq_false_iff_ne]; omega
          rw [ez] at start
          simp only [Bool.false_eq_true, if_false] at start
          by_cases hbig : 9007199254740991 < 10 * a + (n - 48)
          · rw [if_pos hbig]
            have je2 := rnum_end (x := rl u l) (sg := sg) (n := 10 * a + (n - 48)) (s := s) (p := pos u l) rfl rfl K N S q1 q2
            rw [if_pos (.inr hbig)] at je2
            have fin : credenzaref13_reader_number_l1 (sg, ((10 * a + (n - 48) : Nat) : Int), (s : Int), rl u l, K, N, S, q1, q2, ()) = mapO Sum.inr (credenzaref13_reader_number_j2 sg ((10 * a + (n - 48) : Nat) : Int) (s : Int) (rl u l) K N S q1 q2) := by
              simp only [credenzaref13_reader_number_l1, re46_eq', rnext_pl h.tail, Option.bind_some]
              rw [decide_eq_false (p := ((10 * a + (n - 48) : Nat) : Int) ≤ 9007199254740991) (by omega)]
              simp only [Bool.and_false, Bool.false_eq_true, if_false]
              split <;> rfl
            rw [je2] at fin
            exact ⟨_, _, ⟨rfl, by decide⟩, (loopN_go start).trans (loopN_out fin)⟩
          · rw [if_neg hbig]
            have ih := rnum_n (sg := sg) (s := s) (K := K) (N := N) (S := S) (q1 := q1) (q2 := q2) hu l (10 * a + (n - 48)) false (by constructor; intro e; cases e; intro e; omega) (by omega) (by omega) (fun _ => hz) (fun e => by cases e) h.tail
            rw [List.length_cons]
            cases hq : numL false (10 * a + (n - 48)) l with
            | none => rw [hq] at ih; obtain ⟨v', x', d, e⟩ := ih; exact ⟨v', x', d, (loopN_go start).trans e⟩
            | some p => rw [hq] at ih; exact ⟨ih.1, (loopN_go start).trans ih.2⟩
theorem rnumber_pl {u : Str} {l : List Nat} (hu : u.length ≤ 1000000000) (h : Suf u l) : match numberP l with
    | some (N, l') => credenzaref13_reader_number (rl u l) = some (⟨3, N, [], [], []⟩, rl u l', ())
    | none => BadV (credenzaref13_reader_number (rl u l)) 150 := by
  have hlen := h.len
  have other : (hdI l == 45) = false → numberP l = (numL true 0 l).map (fun p => ((p.1 : Int), p.2)) := by
    intro hne
    unfold numberP
    split
    · cases hne
    · rfl
  by_cases h45 : (hdI l == 45) = true
  · have e45 := eq_of_beq h45
    obtain ⟨t, rfl⟩ : ∃ t, l = 45 :: t := by
      cases l with
      | nil => cases e45
      | cons n t => exact ⟨t, by have e : (n : Int) = 45 := e45; have : n = 45 := by omega
                                 rw [this]⟩
    have hn := rnum_n (s := pos u t) (sg := -1) (K := 0) (N := 0) (S := []) (q1 := []) (q2 := []) hu t 0 true (by simp) (Nat.le_refl _) (by omega) (fun e => by cases e) (fun _ => rfl) h.tail
    have hl := h.tail.len
    have hp := pos_tail h
    have hpl := pos_le u t
    show match (numL true 0 t).map (fun p => (-(p.1 : Int), p.2)) with
      | some (N, l') => credenzaref13_reader_number (rl u (45 :: t)) = some (⟨3, N, [], [], []⟩, rl u l', ())
      | none => BadV (credenzaref13_reader_number (rl u (45 :: t))) 150
    have start : credenzaref13_reader_number (rl u (45 :: t)) = Lp.loop credenzaref13_reader_number_l1 (-1, 0, ((pos u t : Nat) : Int), rl u t, 0, 0, [], [], [], ()) := by
      unfold credenzaref13_reader_number
      simp only [re46_eq', rnext_pl h, Option.bind_some, show hdI (45 :: t) = 45 from rfl, show ((45 : Int) == 45) = true from rfl, if_true]
      rw [rfwd hu h, show IntKind.wrap .i64 (((pos u (45 :: t) : Nat) : Int) + 1) = ((pos u t : Nat) : Int) by rw [wrap1 (by omega), hp]]
    rw [start]
    cases hq : numL true 0 t with
    | none => rw [hq] at hn; obtain ⟨v, x', d, e⟩ := hn; exact ⟨v, x', d, loop_of e (by omega)⟩
    | some p =>
      rw [hq] at hn
      simp only at hn
      refine (loop_of hn.2 (by omega)).trans ?_
      rw [wrap_i64 (by omega) (by omega)]
      simp
  · have h45' : (hdI l == 45) = false := by simpa using h45
    rw [other h45']
    have hn := rnum_n (s := pos u l) (sg := 1) (K := 0) (N := 0) (S := []) (q1 := []) (q2 := []) hu l 0 true (by simp) (Nat.le_refl _) (by omega) (fun e => by cases e) (fun _ => rfl) h
    have start : credenzaref13_reader_number (rl u l) = Lp.loop credenzaref13_reader_number_l1 (1, 0, ((pos u l : Nat) : Int), rl u l, 0, 0, [], [], [], ()) := by
      unfold credenzaref13_reader_number
      simp only [re46_eq', rnext_pl h, Option.bind_some, h45', Bool.false_eq_true, if_false]
    rw [start]
    cases hq : numL true 0 l with
    | none => rw [hq] at hn; obtain ⟨v, x', d, e⟩ := hn; exact ⟨v, x', d, loop_of e (by omega)⟩
    | some p =>
      rw [hq] at hn
      simp only at hn
      refine (loop_of hn.2 (by omega)).trans ?_
      rw [wrap_i64 (by omega) (by omega)]
      simp
/-! ### what a value may begin with -/
def begS : Str := [110, 116, 102, 34, 91, 123, 45, 48, 49, 50, 51, 52, 53, 54, 55, 56, 57]
theorem beg_dec : ∀ i : Fin 17, Utf8.decode ⟨⟨begS⟩⟩ i.val = (starts.getD i.val 0, 1) ∧ starts.drop i.val = starts.getD i.val 0 :: starts.drop (i.val + 1) ∧ starts.getD i.val 0 < 128 := by decide +kernel
theorem begins_n (n : Nat) : ∀ (k i : Nat), i + k = 17 → loopN credenzaref13_begins_l1 (k + 1) ((n : Int), begS, i, ()) = some (decide (n ∈ starts.drop i), ())
  | 0, i, h => by
    have : i = 17 := by omega
    subst this
    exact loopN_out rfl
  | k + 1, i, h => by
    obtain ⟨h1, h2, h3⟩ := beg_dec ⟨i, by omega⟩
    simp only at h1 h2 h3
    have hlt : Nat.blt i begS.length = true := Nat.ble_eq_true_of_le (by show i + 1 ≤ 17; omega)
    have w : IntKind.wrap .i64 ((starts.getD i 0 : Nat) : Int) = ((starts.getD i 0 : Nat) : Int) := wrap_i64 (by omega) (by omega)
    have start : credenzaref13_begins_l1 ((n : Int), begS, i, ()) = if ((n : Int) == ((starts.getD i 0 : Nat) : Int)) = true then some (.inr (true, ())) else some (.inl ((n : Int), begS, i + 1, ())) := by
      simp only [credenzaref13_begins_l1, hlt, if_true, h1, w]
    rw [h2]
    by_cases hn : n = starts.getD i 0
    · have e : ((n : Int) == ((starts.getD i 0 : Nat) : Int)) = true := by rw [beq_iff_eq]; omega
      rw [e] at start
      rw [decide_eq_true (by rw [← hn]; exact List.mem_cons_self)]
      exact loopN_out start
    · have e : ((n : Int) == ((starts.getD i 0 : Nat) : Int)) = false := by rw [beq_eq_false_iff_ne]; omega
      rw [e] at start
      have ih := begins_n n k (i + 1) (by omega)
      refine (loopN_go start).trans (ih.trans ?_)
      have : (n ∈ starts.drop (i + 1)) ↔ (n ∈ starts.getD i 0 :: starts.drop (i + 1)) := by
        rw [List.mem_cons]; exact ⟨fun h => .inr h, fun h => h.resolve_left hn⟩
      simp only [this]
theorem begins_eq' (n : Nat) : credenzaref13_begins (n : Int) = some (decide (n ∈ starts), ()) :=
  loop_of (begins_n n 17 0 rfl) (by omega)
end Go.D13


/- Chapter 13, plainly: the document's parser answers what the plain one answers: rows, values; JsonParses. -/
namespace Go.D13
open Go Go.Gw Go.Dn
set_option linter.unusedSimpArgs false
set_option linter.unusedVariables false
set_option maxRecDepth 100000

abbrev RecR := Rec_credenzaref13_reader_value
abbrev MSt := Int × Int × RdT × Int × Int × Str × Int × Int × Str × (List Str) × (List Data) × (List Str) × (List Data) × Unit
def mst (shut : Nat) (d : Nat) (x : RdT) (K : Int) (a : Acc) : MSt := ((shut : Int), (d : Int), x, K, 0, [], 0, 0, [], a.1, a.2, [], [], ())
def DeadG (g : RecR) : Prop := ∀ (x : RdT) (e dp : Int), Dead x e → g.credenzaref13_reader_value dp x = some (⟨0, 0, [], [], []⟩, x, ())
def ValR (g : RecR) (fP : ValF) (u : Str) (d : Nat) : Prop := ∀ l, Suf u l → match fP l with
  | .inr (v, l') => g.credenzaref13_reader_value (d : Int) (rl u l) = some (v, rl u l', ())
  | .inl e => BadV (g.credenzaref13_reader_value (d : Int) (rl u l)) e
theorem many_end {g : RecR} {shut d : Nat} {x : RdT} {K : Int} {a : Acc} {e : Int} (h : Dead x e) : credenzaref13_reader_many_l1 g (mst shut d x K a) = some (.inr (⟨K, 0, [], a.1, a.2⟩, x, ())) := by
  have e0 : (x.e == 0) = false := by rw [beq_eq_false_iff_ne, h.1]; exact h.2
  simp only [credenzaref13_reader_many_l1, mst, e0, Bool.false_eq_true, if_false, re46_eq']
/-- what follows a piece, when it has given up -/
theorem j6_dead {g : RecR} {shut d : Nat} {x : RdT} {K : Int} {a : Acc} {e : Int} (h : Dead x e) : credenzaref13_reader_many_j6 g (shut : Int) (d : Int) x K 0 [] 0 0 [] a.1 a.2 [] [] = some (.inl (mst shut d x K a)) := by
  have h0 : x.e ≠ 0 := by rw [h.1]; exact h.2
  have hne : ((-1 : Int) == (shut : Int)) = false := by rw [beq_eq_false_iff_ne]; omega
  unfold credenzaref13_reader_many_j6 credenzaref13_reader_many_j7
  simp only [re46_eq', rblanks_dead h0, rnext_dead h0, Option.bind_some, hne, Bool.false_eq_true, if_false, rneed_dead 44 [] h]
  rfl
theorem j6_live {g : RecR} {shut d : Nat} {K : Int} {a : Acc} {u : Str} {l : List Nat} (hu : u.length ≤ 1000000000) (h : Suf u l) : credenzaref13_reader_many_j6 g (shut : Int) (d : Int) (rl u l) K 0 [] 0 0 [] a.1 a.2 [] [] =
    if (hdI (blk l) == (shut : Int)) = true then some (.inr (⟨K, 0, [], a.1, a.2⟩, ⟨natsI (unitsL u), IntKind.wrap .i64 (((pos u (blk l) : Nat) : Int) + 1), 0⟩, ()))
    else Option.bind (credenzaref13_reader_need [44] (rl u (blk l))) fun r => some (.inl (mst shut d r.1 K a)) := by
  have hb := h.of (blk_suf l)
  unfold credenzaref13_reader_many_j6 credenzaref13_reader_many_j7
  simp only [re46_eq', rblanks_pl hu h, rnext_pl hb, Option.bind_some]
  rfl
/-- one turn of the loop -/
def Turn (g : RecR) (K : Int) (f : Acc → List Nat → Int ⊕ (Acc × List Nat)) (I : Acc → Prop) (u : Str) (d shut : Nat) : Prop :=
  ∀ (a : Acc) (l : List Nat), Suf u l → I a → a.1.length ≤ 10000000000 → a.2.length ≤ 10000000000 → match f a l with
    | .inr (a', l') => credenzaref13_reader_many_l1 g (mst shut d (rl u l) K a) = credenzaref13_reader_many_j6 g (shut : Int) (d : Int) (rl u l') K 0 [] 0 0 [] a'.1 a'.2 [] [] ∧ I a' ∧ a'.1.length ≤ a.1.length + 1 ∧ a'.2.length ≤ a.2.length + 1
    | .inl e => ∃ x' a', Dead x' e ∧ credenzaref13_reader_many_l1 g (mst shut d (rl u l) K a) = some (.inl (mst shut d x' K a'))
theorem elem_turn {g : RecR} {fP : ValF} {u : Str} {d shut : Nat} (hd : d < 1000000) (hv : ValR g fP u (d + 1)) : Turn g 5 (elemP fP) (fun _ => True) u d shut := by
  intro a l h _ h1 h2
  have hvv := hv l h
  have start : credenzaref13_reader_many_l1 g (mst shut d (rl u l) 5 a) = Option.bind (g.credenzaref13_reader_value ((d + 1 : Nat) : Int) (rl u l)) fun r => credenzaref13_reader_many_j6 g (shut : Int) (d : Int) r.2.1 5 0 [] 0 0 [] a.1 (a.2 ++ [r.1]) [] [] := by
    simp only [credenzaref13_reader_many_l1, mst, re46_eq']
    rw [show ((0 : Int) == 0) = true from rfl, show ((5 : Int) == 6) = false from rfl]
    simp only [if_true, Bool.false_eq_true, if_false, credenzaref13_reader_many_j2, credenzaref13_reader_many_j3, credenzaref13_reader_many_j5, re46_eq', re25_eq]
    rw [wrap1 (by omega)]
    congr 1
    funext r
    rw [show ((5 : Int) == 6) = false from rfl, room_ok (by simp only [List.length_cons, List.length_nil]; omega)]
    rfl
  unfold elemP
  cases hq : fP l with
  | inl e =>
    rw [hq] at hvv
    obtain ⟨v, x', dd, e1⟩ := hvv
    rw [e1] at start
    refine ⟨x', (a.1, a.2 ++ [v]), dd, start.trans ?_⟩
    exact j6_dead (a := (a.1, a.2 ++ [v])) dd
  | inr p =>
    rw [hq] at hvv
    simp only at hvv ⊢
    rw [hvv] at start
    exact ⟨start, trivial, by omega, by simp⟩
theorem putP_len (a : Acc) (key : Str) (x : Data) (h : a.1.length = a.2.length) : (putP a key x).1.length = (putP a key x).2.length ∧ (putP a key x).1.length ≤ a.1.length + 1 ∧ (putP a key x).2.length ≤ a.2.length + 1 := by
  unfold putP
  cases a.1.findIdx? (· == key) with
  | none => simp [h]
  | some i => simp [h]
theorem memb_turn {g : RecR} {fP : ValF} {u : Str} {d shut : Nat} (hu : u.length ≤ 50000000) (hd : d < 1000000) (hg : DeadG g) (hv : ValR g fP u (d + 1)) : Turn g 6 (membP fP) (fun a => a.1.length = a.2.length) u d shut := by
  intro a l h hI h1 h2
  have hb := h.of (blk_suf l)
  have ht := rtext_pl hu hb
  have start : credenzaref13_reader_many_l1 g (mst shut d (rl u l) 6 a) = Option.bind (credenzaref13_reader_text (rl u (blk l))) fun r_19 =>
      Option.bind (credenzaref13_reader_blanks r_19.2.1) fun r_20 =>
      Option.bind (credenzaref13_reader_need ([58] : Str) r_20.1) fun r_21 =>
      Option.bind (g.credenzaref13_reader_value ((d + 1 : Nat) : Int) r_21.1) fun r => credenzaref13_reader_many_j6 g (shut : Int) (d : Int) r.2.1 6 0 [] 0 0 [] (putP a r_19.1 r.1).1 (putP a r_19.1 r.1).2 [] [] := by
    simp only [credenzaref13_reader_many_l1, mst, re46_eq']
    rw [show ((0 : Int) == 0) = true from rfl, show ((6 : Int) == 6) = true from rfl]
    simp only [if_true, rblanks_pl (show u.length ≤ 1000000000 by omega) h, Option.bind_some, credenzaref13_reader_many_j2, credenzaref13_reader_many_j3, credenzaref13_reader_many_j4, re46_eq', re25_eq]
    rw [wrap1 (by omega)]
    congr 1
    funext r_19
    congr 1
    funext r_20
    congr 1
    funext r_21
    congr 1
    funext r
    rw [show ((6 : Int) == 6) = true from rfl, keyed_eq 6 0 [] r_19.1 r.1 a (by omega) (by omega) hI]
    rfl
  -- given up ahead of the value
  have dead : ∀ (key : Str) (x' : RdT) (e : Int), Dead x' e → credenzaref13_reader_many_l1 g (mst shut d (rl u l) 6 a) = (Option.bind (g.credenzaref13_reader_value ((d + 1 : Nat) : Int) x') fun r => credenzaref13_reader_many_j6 g (shut : Int) (d : Int) r.2.1 6 0 [] 0 0 [] (putP a key r.1).1 (putP a key r.1).2 [] []) → ∃ x' a', Dead x' e ∧ credenzaref13_reader_many_l1 g (mst shut d (rl u l) 6 a) = some (.inl (mst shut d x' 6 a')) := by
    intro key x' e dd hs
    rw [hg x' e _ dd] at hs
    exact ⟨x', putP a key ⟨0, 0, [], [], []⟩, dd, hs.trans (j6_dead (a := putP a key ⟨0, 0, [], [], []⟩) dd)⟩
  unfold membP
  cases hq : textP (blk l) with
  | none =>
    rw [hq] at ht
    obtain ⟨x', dd, e1⟩ := ht
    have h0 : x'.e ≠ 0 := by rw [dd.1]; exact dd.2
    rw [e1] at start
    simp only [Option.bind_some] at start
    rw [rblanks_dead h0] at start
    simp only [Option.bind_some] at start
    rw [rneed_dead 58 [] dd] at start
    simp only [Option.bind_some] at start
    exact dead [] x' 150 dd start
  | some p =>
    obtain ⟨key, l1⟩ := p
    rw [hq] at ht
    simp only at ht ⊢
    rw [ht] at start
    have hs1 := hb.of (textP_suf hq)
    have hs1b := hs1.of (blk_suf l1)
    simp only [Option.bind_some] at start
    rw [rblanks_pl (show u.length ≤ 1000000000 by omega) hs1] at start
    simp only [Option.bind_some] at start
    have hn := rneed_pl [58] (show u.length ≤ 1000000000 by omega) (by simp) hs1b
    rw [show ([58] : Str).map (·.toNat) = [58] from rfl] at hn
    cases hq2 : needP [58] (blk l1) with
    | none =>
      rw [hq2] at hn
      obtain ⟨x', dd, e1⟩ := hn
      rw [e1] at start
      simp only [Option.bind_some] at start
      exact dead key x' 150 dd start
    | some l2 =>
      rw [hq2] at hn
      simp only at hn ⊢
      rw [hn] at start
      simp only [Option.bind_some] at start
      have hvv := hv l2 (hs1b.of (needP_suf hq2))
      cases hq3 : fP l2 with
      | inl e =>
        rw [hq3] at hvv
        obtain ⟨v, x', dd, e1⟩ := hvv
        rw [e1] at start
        exact ⟨x', putP a key v, dd, start.trans (j6_dead (a := putP a key v) dd)⟩
      | inr p =>
        obtain ⟨x, l3⟩ := p
        rw [hq3] at hvv
        simp only at hvv ⊢
        rw [hvv] at start
        obtain ⟨p1, p2, p3⟩ := putP_len a key x hI
        exact ⟨start, p1, p2, p3⟩
theorem many_n {g : RecR} {K : Int} {f : Acc → List Nat → Int ⊕ (Acc × List Nat)} {I : Acc → Prop} {u : Str} {d shut : Nat} (hu : u.length ≤ 1000000000) (ht : Turn g K f I u d shut) (hsf : SufA f) (hs44 : shut ≠ 44) : ∀ (n : Nat) (a : Acc) (l : List Nat), (∀ a' l', f a l = .inr (a', l') → l'.length < n) → Suf u l → I a → a.1.length + n ≤ 5000000000 → a.2.length + n ≤ 5000000000 →
    match (match f a l with | .inl e => (.inl e : Int ⊕ (Acc × List Nat)) | .inr (a', l') => loopP f shut n a' l') with
    | .inr (a', l') => loopN (credenzaref13_reader_many_l1 g) (n + 1) (mst shut d (rl u l) K a) = some (⟨K, 0, [], a'.1, a'.2⟩, rl u l', ())
    | .inl e => BadV (loopN (credenzaref13_reader_many_l1 g) (n + 2) (mst shut d (rl u l) K a)) e
  | n, a, l, hn, h, hI, h1, h2 => by
    have htt := ht a l h hI (by omega) (by omega)
    have stopD : ∀ (x' : RdT) (a' : Acc) (e : Int), Dead x' e → credenzaref13_reader_many_l1 g (mst shut d (rl u l) K a) = some (.inl (mst shut d x' K a')) → BadV (loopN (credenzaref13_reader_many_l1 g) (n + 2) (mst shut d (rl u l) K a)) e := by
      intro x' a' e dd hs
      exact ⟨_, x', dd, (loopN_go hs).trans (loopN_out (many_end dd))⟩
    cases hq : f a l with
    | inl e =>
      rw [hq] at htt
      obtain ⟨x', a', dd, e1⟩ := htt
      exact stopD x' a' e dd e1
    | inr p =>
      obtain ⟨a', l'⟩ := p
      rw [hq] at htt
      simp only at htt ⊢
      obtain ⟨e1, hI', q1, q2⟩ := htt
      have hs' := h.of (hsf a l a' l' hq)
      have hb := blk_suf l'
      have hbs := hs'.of hb
      have hn' := hn a' l' hq
      obtain ⟨n', rfl⟩ : ∃ n', n = n' + 1 := ⟨n - 1, by omega⟩
      rw [j6_live hu hs'] at e1
      have bad : hdI (blk l') ≠ (shut : Int) → hdI (blk l') ≠ 44 → BadV (loopN (credenzaref13_reader_many_l1 g) (n' + 1 + 2) (mst shut d (rl u l) K a)) 150 := by
        intro e2 e3
        have hnd := rneed_pl [44] hu (by simp) hbs
        have hnone : needP (([44] : Str).map (·.toNat)) (blk l') = none := by
          cases hqq : blk l' with
          | nil => rfl
          | cons c t =>
            show (if c = 44 then some t else none) = none
            rw [if_neg (by intro e; rw [hqq] at e3; exact e3 (by show (c : Int) = 44; omega))]
        rw [hnone] at hnd
        obtain ⟨x', dd, e4⟩ := hnd
        have eb : (hdI (blk l') == (shut : Int)) = false := by rw [beq_eq_false_iff_ne]; exact e2
        rw [eb, e4] at e1
        exact stopD x' a' 150 dd e1
      simp only [loopP]
      cases hbl : blk l' with
      | nil => rw [hbl] at bad; exact bad (by show (-1 : Int) ≠ _; omega) (by show (-1 : Int) ≠ 44; omega)
      | cons c t =>
        have hct : Suf u (c :: t) := by rw [← hbl]; exact hbs
        have htl : t.length < l'.length := by have := hb.length_le; rw [hbl] at this; simp only [List.length_cons] at this; omega
        by_cases hcs : c = shut
        · simp only [hcs, if_true]
          subst hcs
          have eb : (hdI (blk l') == (c : Int)) = true := by rw [hbl, beq_iff_eq]; rfl
          rw [eb, hbl, rfwd hu hct] at e1
          exact loopN_out e1
        · simp only [hcs, if_false]
          by_cases h44 : c = 44
          · simp only [h44, if_true]
            subst h44
            have hnd := rneed_pl [44] hu (by simp) hct
            have hsome : needP (([44] : Str).map (·.toNat)) (44 :: t) = some t := rfl
            rw [hsome] at hnd
            simp only at hnd
            have eb : (hdI (blk l') == (shut : Int)) = false := by rw [hbl, beq_eq_false_iff_ne]; show ((44 : Nat) : Int) ≠ _; omega
            rw [eb, hbl, hnd] at e1
            simp only [Bool.false_eq_true, if_false, Option.bind_some] at e1
            have ih := many_n hu ht hsf hs44 n' a' t (fun a1 l1 hf => by have := (hsf a' t a1 l1 hf).length_le; omega) hct.tail hI' (by omega) (by omega)
            cases hfp : f a' t with
            | inl e =>
              rw [hfp] at ih
              simp only at ih ⊢
              obtain ⟨v, x', dd, e5⟩ := ih
              exact ⟨v, x', dd, (loopN_go e1).trans e5⟩
            | inr p =>
              obtain ⟨a1, l1⟩ := p
              rw [hfp] at ih
              simp only at ih ⊢
              cases hlp : loopP f shut n' a1 l1 with
              | inl e => rw [hlp] at ih; obtain ⟨v, x', dd, e5⟩ := ih; exact ⟨v, x', dd, (loopN_go e1).trans e5⟩
              | inr p => rw [hlp] at ih; exact (loopN_go e1).trans ih
          · simp only [h44, if_false]
            rw [hbl] at bad
            exact bad (by show (c : Int) ≠ _; omega) (by show (c : Int) ≠ 44; omega)
theorem many_pl {g : RecR} {K : Int} {f : Acc → List Nat → Int ⊕ (Acc × List Nat)} {I : Acc → Prop} {u : Str} {d shut c0 : Nat} {l : List Nat} (hu : u.length ≤ 1000000000) (ht : Turn g K f I u d shut) (hsf : SufA f) (hs44 : shut ≠ 44) (hI : I ([], [])) (h : Suf u (c0 :: l)) : match rowsP f shut l with
    | .inr (a', l') => credenzaref13_reader_many_b g K 0 [] (shut : Int) (d : Int) (rl u (c0 :: l)) = some (⟨K, 0, [], a'.1, a'.2⟩, rl u l', ())
    | .inl e => BadV (credenzaref13_reader_many_b g K 0 [] (shut : Int) (d : Int) (rl u (c0 :: l))) e := by
  have hb := blk_suf l
  have hbs := h.tail.of hb
  have hlen := hbs.len
  have start : credenzaref13_reader_many_b g K 0 [] (shut : Int) (d : Int) (rl u (c0 :: l)) = if (hdI (blk l) == (shut : Int)) = true then some (⟨K, 0, [], [], []⟩, ⟨natsI (unitsL u), IntKind.wrap .i64 (((pos u (blk l) : Nat) : Int) + 1), 0⟩, ()) else Lp.loop (credenzaref13_reader_many_l1 g) (mst shut d (rl u (blk l)) K ([], [])) := by
    unfold credenzaref13_reader_many_b
    simp only
    rw [rfwd hu h, rblanks_pl hu h.tail]
    simp only [Option.bind_some, re46_eq', rnext_pl hbs]
    rfl
  have go : hdI (blk l) ≠ (shut : Int) → match (match f ([], []) (blk l) with | .inl e => (.inl e : Int ⊕ (Acc × List Nat)) | .inr (a, l') => loopP f shut (l'.length + 1) a l') with
    | .inr (a', l') => credenzaref13_reader_many_b g K 0 [] (shut : Int) (d : Int) (rl u (c0 :: l)) = some (⟨K, 0, [], a'.1, a'.2⟩, rl u l', ())
    | .inl e => BadV (credenzaref13_reader_many_b g K 0 [] (shut : Int) (d : Int) (rl u (c0 :: l))) e := by
    intro hne
    have eb : (hdI (blk l) == (shut : Int)) = false := by rw [beq_eq_false_iff_ne]; exact hne
    rw [eb] at start
    simp only [Bool.false_eq_true, if_false] at start
    cases hfp : f ([], []) (blk l) with
    | inl e =>
      have hm := many_n hu ht hsf hs44 0 ([], []) (blk l) (fun a' l' hf => by rw [hfp] at hf; cases hf) hbs hI (by simp) (by simp)
      rw [hfp] at hm
      obtain ⟨v, x', dd, e1⟩ := hm
      exact ⟨v, x', dd, start.trans (loop_of e1 (by omega))⟩
    | inr p =>
      obtain ⟨a, l'⟩ := p
      have hl' := (hsf _ _ a l' hfp).length_le
      have hm := many_n hu ht hsf hs44 (l'.length + 1) ([], []) (blk l) (fun a' l'' hf => by rw [hfp] at hf; cases hf; omega) hbs hI (by simp; omega) (by simp; omega)
      rw [hfp] at hm
      simp only at hm ⊢
      cases hlp : loopP f shut (l'.length + 1) a l' with
      | inl e => rw [hlp] at hm; obtain ⟨v, x', dd, e1⟩ := hm; exact ⟨v, x', dd, start.trans (loop_of e1 (by omega))⟩
      | inr p => rw [hlp] at hm; exact start.trans (loop_of hm (by omega))
  unfold rowsP
  cases hq : blk l with
  | nil => rw [hq] at go; exact go (by show (-1 : Int) ≠ _; omega)
  | cons c t =>
    by_cases hcs : c = shut
    · simp only [hcs, if_true]
      subst hcs
      have hct : Suf u (c :: t) := by rw [← hq]; exact hbs
      have eb : (hdI (blk l) == (c : Int)) = true := by rw [hq, beq_iff_eq]; rfl
      rw [eb, hq, rfwd hu hct] at start
      exact start
    · simp only [hcs, if_false]
      rw [hq] at go
      exact go (by show (c : Int) ≠ _; omega)
end Go.D13


/- Chapter 13, plainly: JsonParses. -/
namespace Go.D13
open Go Go.Gw Go.Dn
set_option linter.unusedSimpArgs false
set_option linter.unusedVariables false
set_option maxRecDepth 100000

theorem value_dead (g : RecR) (x : RdT) (e dp : Int) (h : Dead x e) : credenzaref13_reader_value_b g dp x = some (⟨0, 0, [], [], []⟩, x, ()) := by
  have h0 : x.e ≠ 0 := by rw [h.1]; exact h.2
  have e0 : (x.e != 0) = true := by rw [bne_iff_ne]; exact h0
  unfold credenzaref13_reader_value_b
  simp only [re46_eq', rblanks_dead h0, Option.bind_some, rnext_dead h0]
  rw [show decide ((-1 : Int) ≥ 0) = false from rfl]
  simp only [Bool.false_and, Bool.false_eq_true, if_false, credenzaref13_reader_value_j1, e0, if_true, re46_eq']
theorem value_rlook {g : RecR} {u : Str} {l : List Nat} {d : Nat} (hu : u.length ≤ 1000000000) (h : Suf u l) (hd : d ≤ 20) : match blk l with
    | [] => BadV (credenzaref13_reader_value_b g (d : Int) (rl u l)) 150
    | c :: t => if c ∈ starts then (if d = 20 then BadV (credenzaref13_reader_value_b g (d : Int) (rl u l)) 31 else credenzaref13_reader_value_b g (d : Int) (rl u l) = credenzaref13_reader_value_j2 g (d : Int) (c : Int) (rl u (c :: t)) 0 0 [] [] []) else BadV (credenzaref13_reader_value_b g (d : Int) (rl u l)) 150 := by
  have hb := h.of (blk_suf l)
  have start : credenzaref13_reader_value_b g (d : Int) (rl u l) = if (decide (hdI (blk l) ≥ 0) && decide ((d : Int) ≥ 20)) = true then
       Option.bind (credenzaref13_begins (hdI (blk l))) fun r_4 =>
       if r_4.1 = true then some (⟨0, 0, [], [], []⟩, ⟨natsI (unitsL u), ((pos u (blk l) : Nat) : Int), 31⟩, ())
       else credenzaref13_reader_value_j2 g (d : Int) (hdI (blk l)) (rl u (blk l)) 0 0 [] [] []
      else credenzaref13_reader_value_j2 g (d : Int) (hdI (blk l)) (rl u (blk l)) 0 0 [] [] [] := by
    unfold credenzaref13_reader_value_b
    simp only [re46_eq', rblanks_pl hu h, Option.bind_some, rnext_pl hb, credenzaref13_reader_value_j1]
    rw [rfail_live 31 rfl]
    rfl
  -- what no value begins with
  have none_ : ∀ c : Int, c ≠ 110 → c ≠ 116 → c ≠ 102 → c ≠ 34 → c ≠ 91 → c ≠ 123 → c ≠ 45 → (c < 48 ∨ 57 < c) → BadV (credenzaref13_reader_value_j2 g (d : Int) c (rl u (blk l)) 0 0 [] [] []) 150 := by
    intro c n1 n2 n3 n4 n5 n6 n7 n8
    have q1 : (c == 110) = false := by rw [beq_eq_false_iff_ne]; exact n1
    have q2 : (c == 116) = false := by rw [beq_eq_false_iff_ne]; exact n2
    have q3 : (c == 102) = false := by rw [beq_eq_false_iff_ne]; exact n3
    have q4 : (c == 34) = false := by rw [beq_eq_false_iff_ne]; exact n4
    have q5 : (c == 91) = false := by rw [beq_eq_false_iff_ne]; exact n5
    have q6 : (c == 123) = false := by rw [beq_eq_false_iff_ne]; exact n6
    have q7 : (c == 45) = false := by rw [beq_eq_false_iff_ne]; exact n7
    have q8 : (decide (c ≥ 48) && decide (c ≤ 57)) = false := by
      rw [Bool.and_eq_false_iff, decide_eq_false_iff_not, decide_eq_false_iff_not]; omega
    refine ⟨⟨0, 0, [], [], []⟩, ⟨natsI (unitsL u), ((pos u (blk l) : Nat) : Int), 150⟩, ⟨rfl, by decide⟩, ?_⟩
    simp only [credenzaref13_reader_value_j2, credenzaref13_reader_value_j3, credenzaref13_reader_value_j4, credenzaref13_reader_value_j5, credenzaref13_reader_value_j6, credenzaref13_reader_value_j7, credenzaref13_reader_value_j8, re46_eq', q1, q2, q3, q4, q5, q6, q7, q8, Bool.or_self, Bool.false_eq_true, if_false]
    rw [rfail_live 150 rfl]
    rfl
  cases hq : blk l with
  | nil =>
    rw [hq] at start none_
    rw [show hdI ([] : List Nat) = -1 from rfl, show decide ((-1 : Int) ≥ 0) = false from rfl] at start
    simp only [Bool.false_and, Bool.false_eq_true, if_false] at start
    rw [start]
    exact none_ (-1) (by decide) (by decide) (by decide) (by decide) (by decide) (by decide) (by decide) (.inl (by decide))
  | cons c t =>
    rw [hq] at start none_
    rw [show hdI (c :: t) = (c : Int) from rfl, decide_eq_true (p := (c : Int) ≥ 0) (by omega), begins_eq' c] at start
    simp only [Bool.true_and, Option.bind_some] at start
    by_cases hs : c ∈ starts
    · simp only [hs, if_true]
      by_cases h20 : d = 20
      · simp only [h20, if_true]
        subst h20
        rw [decide_eq_true (p := (((20 : Nat) : Int)) ≥ 20) (by omega)] at start
        simp only [if_true, hs, decide_true] at start
        exact ⟨_, _, ⟨rfl, by decide⟩, start⟩
      · simp only [h20, if_false]
        rw [decide_eq_false (p := (d : Int) ≥ 20) (by omega)] at start
        simp only [Bool.false_eq_true, if_false] at start
        exact start
    · simp only [hs, if_false]
      have e : credenzaref13_reader_value_b g (d : Int) (rl u l) = credenzaref13_reader_value_j2 g (d : Int) (c : Int) (rl u (c :: t)) 0 0 [] [] [] := by
        rw [start]
        simp only [hs, decide_false, Bool.false_eq_true, if_false, ite_self]
      rw [e]
      have hn : ∀ k ∈ starts, c ≠ k := fun k hk e => hs (e ▸ hk)
      have m1 := hn 110 (by decide)
      have m2 := hn 116 (by decide)
      have m3 := hn 102 (by decide)
      have m4 := hn 34 (by decide)
      have m5 := hn 91 (by decide)
      have m6 := hn 123 (by decide)
      have m7 := hn 45 (by decide)
      have m8 := hn 48 (by decide)
      have m9 := hn 49 (by decide)
      have m10 := hn 50 (by decide)
      have m11 := hn 51 (by decide)
      have m12 := hn 52 (by decide)
      have m13 := hn 53 (by decide)
      have m14 := hn 54 (by decide)
      have m15 := hn 55 (by decide)
      have m16 := hn 56 (by decide)
      have m17 := hn 57 (by decide)
      exact none_ (c : Int) (by omega) (by omega) (by omega) (by omega) (by omega) (by omega) (by omega) (by omega)
theorem start_cases : ∀ c ∈ starts, c = 110 ∨ c = 116 ∨ c = 102 ∨ c = 34 ∨ c = 91 ∨ c = 123 ∨ (c = 45 ∨ 48 ≤ c ∧ c ≤ 57) := by decide
theorem valR_ok {n : Nat} {u : Str} {d c : Nat} {t : List Nat} {fP : ValF} (hu : u.length ≤ 50000000) (hd : d < 1000000) (hc : c ∈ starts) (hg : DeadG (Rec_credenzaref13_reader_value_g n)) (hv : ValR (Rec_credenzaref13_reader_value_g n) fP u (d + 1)) (hsf : SufF fP) (h : Suf u (c :: t)) : match valC fP c t with
    | .inr (v, l') => credenzaref13_reader_value_j2 (Rec_credenzaref13_reader_value_g (n + 1)) (d : Int) (c : Int) (rl u (c :: t)) 0 0 [] [] [] = some (v, rl u l', ())
    | .inl e => BadV (credenzaref13_reader_value_j2 (Rec_credenzaref13_reader_value_g (n + 1)) (d : Int) (c : Int) (rl u (c :: t)) 0 0 [] [] []) e := by
  have hu' : u.length ≤ 1000000000 := by omega
  have eqn : ∀ k : Nat, ((c : Int) == (k : Int)) = decide (c = k) := fun k => by
    by_cases hk : c = k
    · rw [hk]; simp
    · rw [decide_eq_false hk, beq_eq_false_iff_ne]; omega
  have e110 := eqn 110
  have e116 := eqn 116
  have e102 := eqn 102
  have e34 := eqn 34
  have e91 := eqn 91
  have e123 := eqn 123
  have e45 := eqn 45
  rw [show ((110 : Nat) : Int) = 110 from rfl] at e110
  rw [show ((116 : Nat) : Int) = 116 from rfl] at e116
  rw [show ((102 : Nat) : Int) = 102 from rfl] at e102
  rw [show ((34 : Nat) : Int) = 34 from rfl] at e34
  rw [show ((91 : Nat) : Int) = 91 from rfl] at e91
  rw [show ((123 : Nat) : Int) = 123 from rfl] at e123
  rw [show ((45 : Nat) : Int) = 45 from rfl] at e45
  unfold valC
  simp only [credenzaref13_reader_value_j2, credenzaref13_reader_value_j3, credenzaref13_reader_value_j4, credenzaref13_reader_value_j5, credenzaref13_reader_value_j6, credenzaref13_reader_value_j7, credenzaref13_reader_value_j8, re46_eq', re25_eq]
  rw [e110, e116, e102, e34, e91, e123, e45]
  by_cases q1 : c = 110
  · simp only [q1, if_true, decide_true]
    subst q1
    have hn := rneed_pl [110, 117, 108, 108] hu' (by simp) h
    rw [show ([110, 117, 108, 108] : Str).map (·.toNat) = [110, 117, 108, 108] from rfl] at hn
    cases hq : needP [110, 117, 108, 108] (110 :: t) with
    | none => rw [hq] at hn; obtain ⟨x', dd, e⟩ := hn; rw [e]; exact ⟨_, x', dd, rfl⟩
    | some l' => rw [hq] at hn; simp only at hn; rw [hn]; rfl
  simp only [q1, if_false, decide_false, Bool.false_eq_true]
  by_cases q2 : c = 116
  · simp only [q2, if_true, decide_true]
    subst q2
    have hn := rneed_pl [116, 114, 117, 101] hu' (by simp) h
    rw [show ([116, 114, 117, 101] : Str).map (·.toNat) = [116, 114, 117, 101] from rfl] at hn
    cases hq : needP [116, 114, 117, 101] (116 :: t) with
    | none => rw [hq] at hn; obtain ⟨x', dd, e⟩ := hn; rw [e]; exact ⟨_, x', dd, rfl⟩
    | some l' => rw [hq] at hn; simp only at hn; rw [hn]; rfl
  simp only [q2, if_false, decide_false, Bool.false_eq_true]
  by_cases q3 : c = 102
  · simp only [q3, if_true, decide_true]
    subst q3
    have hn := rneed_pl [102, 97, 108, 115, 101] hu' (by simp) h
    rw [show ([102, 97, 108, 115, 101] : Str).map (·.toNat) = [102, 97, 108, 115, 101] from rfl] at hn
    cases hq : needP [102, 97, 108, 115, 101] (102 :: t) with
    | none => rw [hq] at hn; obtain ⟨x', dd, e⟩ := hn; rw [e]; exact ⟨_, x', dd, rfl⟩
    | some l' => rw [hq] at hn; simp only at hn; rw [hn]; rfl
  simp only [q3, if_false, decide_false, Bool.false_eq_true]
  by_cases q4 : c = 34
  · simp only [q4, if_true, decide_true]
    subst q4
    have hn := rtext_pl hu h
    cases hq : textP (34 :: t) with
    | none => rw [hq] at hn; obtain ⟨x', dd, e⟩ := hn; rw [e]; exact ⟨_, x', dd, rfl⟩
    | some p => rw [hq] at hn; simp only at hn; rw [hn]; rfl
  simp only [q4, if_false, decide_false, Bool.false_eq_true]
  by_cases q5 : c = 91
  · simp only [q5, if_true, decide_true]
    subst q5
    have hr := many_pl (K := 5) (shut := 93) hu' (elem_turn (shut := 93) hd hv) (elemP_suf hsf) (by decide) trivial h
    rw [show (Rec_credenzaref13_reader_value_g (n + 1)).credenzaref13_reader_many 5 0 [] 93 (d : Int) (rl u (91 :: t)) = credenzaref13_reader_many_b (Rec_credenzaref13_reader_value_g n) 5 0 [] ((93 : Nat) : Int) (d : Int) (rl u (91 :: t)) from rfl]
    cases hq : rowsP (elemP fP) 93 t with
    | inl e => rw [hq] at hr; obtain ⟨v, x', dd, e1⟩ := hr; rw [e1]; exact ⟨v, x', dd, rfl⟩
    | inr p => rw [hq] at hr; simp only at hr ⊢; rw [hr]; rfl
  simp only [q5, if_false, decide_false, Bool.false_eq_true]
  by_cases q6 : c = 123
  · simp only [q6, if_true, decide_true]
    subst q6
    have hr := many_pl (K := 6) (shut := 125) hu' (memb_turn (shut := 125) hu hd hg hv) (membP_suf hsf) (by decide) rfl h
    rw [show (Rec_credenzaref13_reader_value_g (n + 1)).credenzaref13_reader_many 6 0 [] 125 (d : Int) (rl u (123 :: t)) = credenzaref13_reader_many_b (Rec_credenzaref13_reader_value_g n) 6 0 [] ((125 : Nat) : Int) (d : Int) (rl u (123 :: t)) from rfl]
    cases hq : rowsP (membP fP) 125 t with
    | inl e => rw [hq] at hr; obtain ⟨v, x', dd, e1⟩ := hr; rw [e1]; exact ⟨v, x', dd, rfl⟩
    | inr p => rw [hq] at hr; simp only at hr ⊢; rw [hr]; rfl
  simp only [q6, if_false, decide_false, Bool.false_eq_true]
  have hnum : (decide (c = 45) || (decide ((c : Int) ≥ 48) && decide ((c : Int) ≤ 57))) = true := by
    rcases start_cases c hc with e | e | e | e | e | e | (e | e)
    · exact absurd e q1
    · exact absurd e q2
    · exact absurd e q3
    · exact absurd e q4
    · exact absurd e q5
    · exact absurd e q6
    · rw [decide_eq_true e]; rfl
    · rw [decide_eq_true (p := (c : Int) ≥ 48) (by omega), decide_eq_true (p := (c : Int) ≤ 57) (by omega)]; simp
  simp only [hnum, if_true]
  have hn := rnumber_pl hu' h
  cases hq : numberP (c :: t) with
  | none => rw [hq] at hn; obtain ⟨v, x', dd, e⟩ := hn; rw [e]; exact ⟨_, x', dd, rfl⟩
  | some p => rw [hq] at hn; simp only at hn; rw [hn]; rfl
theorem val_rl : ∀ (m d n : Nat) (u : Str), u.length ≤ 50000000 → m + d = 20 → 2 * m + 1 ≤ n → ValR (Rec_credenzaref13_reader_value_g n) (valP m) u d
  | 0, d, n, u, hu, hmd, hn => by
    intro l h
    obtain ⟨n', rfl⟩ : ∃ n', n = n' + 1 := ⟨n - 1, by omega⟩
    have hl := value_rlook (g := Rec_credenzaref13_reader_value_g n') (d := d) (by omega) h (by omega)
    have hd : d = 20 := by omega
    show match valG none l with
      | .inr (v, l') => credenzaref13_reader_value_b (Rec_credenzaref13_reader_value_g n') (d : Int) (rl u l) = some (v, rl u l', ())
      | .inl e => BadV (credenzaref13_reader_value_b (Rec_credenzaref13_reader_value_g n') (d : Int) (rl u l)) e
    unfold valG
    cases hq : blk l with
    | nil => rw [hq] at hl; exact hl
    | cons c t =>
      rw [hq] at hl
      simp only at hl ⊢
      by_cases hs : c ∈ starts
      · simp only [hs, if_true, hd] at hl ⊢; exact hl
      · simp only [hs, if_false] at hl ⊢; exact hl
  | m + 1, d, n, u, hu, hmd, hn => by
    intro l h
    obtain ⟨n', rfl⟩ : ∃ n', n = n' + 3 := ⟨n - 3, by omega⟩
    have ih := val_rl m (d + 1) (n' + 1) u hu (by omega) (by omega)
    have hl := value_rlook (g := Rec_credenzaref13_reader_value_g (n' + 2)) (d := d) (by omega) h (by omega)
    have hbs := h.of (blk_suf l)
    show match valG (some (valP m)) l with
      | .inr (v, l') => credenzaref13_reader_value_b (Rec_credenzaref13_reader_value_g (n' + 2)) (d : Int) (rl u l) = some (v, rl u l', ())
      | .inl e => BadV (credenzaref13_reader_value_b (Rec_credenzaref13_reader_value_g (n' + 2)) (d : Int) (rl u l)) e
    unfold valG
    cases hq : blk l with
    | nil => rw [hq] at hl; exact hl
    | cons c t =>
      rw [hq] at hl hbs
      simp only at hl ⊢
      by_cases hs : c ∈ starts
      · simp only [hs, if_true] at hl ⊢
        rw [if_neg (by omega)] at hl
        rw [hl]
        exact valR_ok hu (by omega) hs (fun x e dp hd => value_dead _ x e dp hd) ih (valP_suf m) hbs
      · simp only [hs, if_false] at hl ⊢; exact hl
theorem rparse_doc (u : Str) (hu : u.length ≤ 50000000) : credenzaref13_Parse u = some ((docP u).1, (docP u).2, ()) := by
  unfold credenzaref13_Parse docP
  have hc : credenzaref01_Check u = some (evenP u, ()) := by
    unfold credenzaref01_Check evenP
    have : Int.tmod ((u.length : Nat) : Int) 2 = ((u.length % 2 : Nat) : Int) := rfl
    have e : (((u.length % 2 : Nat) : Int) == 0) = (u.length % 2 == 0) := by rw [Bool.eq_iff_iff, beq_iff_eq, beq_iff_eq]; omega
    simp only [this, e]
  rw [hc]
  cases he : evenP u with
  | false => simp
  | true =>
    simp only [Option.bind_some, Bool.not_true, Bool.false_eq_true, if_false, if_true, re46_eq', re25_eq]
    rw [list_eq u (by omega)]
    have h0 : Suf u (unitsL u) := List.suffix_refl _
    have hpos : pos u (unitsL u) = 0 := by unfold pos; omega
    have hv := val_rl 20 0 1000000000000 u hu rfl (by omega) (unitsL u) h0
    rw [show rl u (unitsL u) = (⟨natsI (unitsL u), 0, 0⟩ : RdT) by unfold rl; rw [hpos]; rfl] at hv
    simp only [Option.bind_some]
    -- the end of a document that was given up
    have gone : ∀ (v : Data) (x : RdT) (e : Int), Dead x e → (Option.bind (credenzaref13_reader_blanks x) fun r_4 =>
       if (decide (r_4.1.at_ < ((r_4.1.l.length : Nat) : Int))) = true then
        Option.bind (credenzaref13_reader_fail 150 r_4.1) fun r_6 =>
        if (r_6.1.e != 0) = true then some ((⟨0, 0, ([] : Str), ([] : List Str), ([] : List T_api_Data)⟩ : T_api_Data), r_6.1.e, ())
        else some (v, 0, ())
       else
        if (r_4.1.e != 0) = true then some ((⟨0, 0, ([] : Str), ([] : List Str), ([] : List T_api_Data)⟩ : T_api_Data), r_4.1.e, ())
        else some (v, 0, ())) = some (⟨0, 0, [], [], []⟩, e, ()) := by
      intro v x e dd
      have h0 : x.e ≠ 0 := by rw [dd.1]; exact dd.2
      have e0 : (x.e != 0) = true := by rw [bne_iff_ne]; exact h0
      rw [rblanks_dead h0]
      simp only [Option.bind_some]
      rw [rfail_dead 150 h0]
      simp only [Option.bind_some, e0, if_true]
      rw [dd.1]
      simp only [ite_self]
    cases hq : valP 20 (unitsL u) with
    | inl e =>
      rw [hq] at hv
      obtain ⟨v, x', dd, e1⟩ := hv
      rw [show credenzaref13_reader_value 0 (⟨natsI (unitsL u), 0, 0⟩ : RdT) = _ from e1]
      simp only [Option.bind_some]
      exact gone v x' e dd
    | inr p =>
      obtain ⟨v, l'⟩ := p
      rw [hq] at hv
      simp only at hv
      rw [show credenzaref13_reader_value 0 (⟨natsI (unitsL u), 0, 0⟩ : RdT) = _ from hv]
      have hsl := h0.of (valP_suf 20 _ _ _ hq)
      have hsb := hsl.of (blk_suf l')
      simp only [Option.bind_some]
      rw [rblanks_pl (by omega) hsl]
      simp only [Option.bind_some, natsI_length]
      cases hb : blk l' with
      | nil =>
        rw [decide_eq_false (by unfold pos; simp)]
        rfl
      | cons c t =>
        have hlt : pos u (c :: t) < (unitsL u).length := by
          rw [hb] at hsb
          exact (List.getElem?_eq_some_iff.1 hsb.at.get).1
        rw [decide_eq_true (by omega)]
        simp only [if_true]
        rw [rfail_live 150 rfl]
        rfl
end Go.D13


/- Chapter 13, plainly: what is read is the same as itself; JsonParses' law. -/
namespace Go.D13
open Go Go.Gw Go.Dn
set_option linter.unusedSimpArgs false
set_option linter.unusedVariables false
set_option maxRecDepth 100000

mutual
/-- its rows are not too many -/
def smallD : Data → Prop
  | ⟨_, _, _, ks, l⟩ => ks.length ≤ 1000000000 ∧ l.length ≤ 1000000000 ∧ smallL l
def smallL : List Data → Prop
  | [] => True
  | x :: r => smallD x ∧ smallL r
end
theorem smallD_eq (v : Data) : smallD v = (v.Keys.length ≤ 1000000000 ∧ v.L.length ≤ 1000000000 ∧ smallL v.L) := by cases v; simp only [smallD]
theorem smallL_iff : ∀ l : List Data, smallL l ↔ ∀ x ∈ l, smallD x
  | [] => by simp [smallL]
  | x :: r => by simp [smallL, smallL_iff r]
theorem same_small : ∀ (n : Nat) (v : Data), deepD v ≤ n → smallD v → (Rec_credenzaref03_Same_g n).credenzaref03_Same v v = some (true, ())
  | 0, v, h, _ => by have := deepD_eq v; omega
  | n + 1, v, h, hs => by
    have hde := deepD_eq v
    rw [smallD_eq] at hs
    show credenzaref03_Same_b (Rec_credenzaref03_Same_g n) v v = _
    unfold credenzaref03_Same_b
    simp only [bne_self_eq_false, beq_self_eq_true, Bool.not_true, Bool.or_self, Bool.false_eq_true, if_false, re25_eq]
    exact same_keys v (by omega) (by omega) (fun x hx => same_small n x (by have := mem_deepL hx; omega) ((smallL_iff _).1 hs.2.2 x hx))
theorem deepL_le {m : Nat} : ∀ {l : List Data}, (∀ x ∈ l, deepD x ≤ m) → deepL l ≤ m
  | [], _ => by simp [deepL]
  | x :: r, h => by
    simp only [deepL]
    have h1 := h x List.mem_cons_self
    have h2 := deepL_le (l := r) fun y hy => h y (List.mem_cons_of_mem _ hy)
    omega
def GoodF (f : ValF) (m : Nat) : Prop := ∀ l v l', l.length ≤ 100000000 → f l = .inr (v, l') → deepD v ≤ m ∧ smallD v
def GoodA (m : Nat) (a : Acc) : Prop := ∀ x ∈ a.2, deepD x ≤ m ∧ smallD x
def GoodR (f : Acc → List Nat → Int ⊕ (Acc × List Nat)) (m : Nat) : Prop := ∀ a l a' l', l.length ≤ 100000000 → GoodA m a → f a l = .inr (a', l') → GoodA m a' ∧ a'.1.length ≤ a.1.length + 1 ∧ a'.2.length ≤ a.2.length + 1
theorem elem_good {f : ValF} {m : Nat} (hf : GoodF f m) : GoodR (elemP f) m := by
  intro a l a' l' hl ha h
  unfold elemP at h
  split at h
  · cases h
  · rename_i x l1 h1
    cases h
    have hx := hf _ _ _ hl h1
    refine ⟨fun y hy => ?_, by simp, by simp⟩
    rcases List.mem_append.1 hy with hy | hy
    · exact ha y hy
    · rw [List.mem_singleton.1 hy]; exact hx
theorem memb_good {f : ValF} {m : Nat} (hf : GoodF f m) : GoodR (membP f) m := by
  intro a l a' l' hl ha h
  unfold membP at h
  split at h
  · cases h
  · rename_i key l1 h1
    split at h
    · cases h
    · rename_i l2 h2
      split at h
      · cases h
      · rename_i x l3 h3
        cases h
        have hlen : l2.length ≤ l.length := ((needP_suf h2).trans ((blk_suf _).trans ((textP_suf h1).trans (blk_suf _)))).length_le
        have hx := hf _ _ _ (by omega) h3
        unfold putP
        cases a.1.findIdx? (· == key) with
        | none =>
          refine ⟨fun y hy => ?_, by simp, by simp⟩
          rcases List.mem_append.1 hy with hy | hy
          · exact ha y hy
          · rw [List.mem_singleton.1 hy]; exact hx
        | some i =>
          refine ⟨fun y hy => ?_, by simp, by simp⟩
          rcases List.mem_or_eq_of_mem_set hy with hy | hy
          · exact ha y hy
          · rw [hy]; exact hx
theorem loop_good {f : Acc → List Nat → Int ⊕ (Acc × List Nat)} {m shut : Nat} (hf : GoodR f m) (hsf : SufA f) : ∀ (n : Nat) (a : Acc) (l : List Nat) (a' : Acc) (l' : List Nat), l.length ≤ 100000000 → GoodA m a → loopP f shut n a l = .inr (a', l') → GoodA m a' ∧ a'.1.length ≤ a.1.length + n ∧ a'.2.length ≤ a.2.length + n
  | 0, a, l, a', l', _, _, h => by cases h
  | n + 1, a, l, a', l', hl, ha, h => by
    have hb := (blk_suf l).length_le
    simp only [loopP] at h
    split at h
    · cases h
    · rename_i c t hq
      rw [hq, List.length_cons] at hb
      split at h
      · cases h; exact ⟨ha, by omega, by omega⟩
      · split at h
        · split at h
          · cases h
          · rename_i a1 l1 h1
            obtain ⟨g1, g2, g3⟩ := hf _ _ _ _ (by omega) ha h1
            have hs := (hsf _ _ _ _ h1).length_le
            obtain ⟨k1, k2, k3⟩ := loop_good hf hsf n a1 l1 a' l' (by omega) g1 h
            exact ⟨k1, by omega, by omega⟩
        · cases h
theorem rows_good {f : Acc → List Nat → Int ⊕ (Acc × List Nat)} {m shut : Nat} (hf : GoodR f m) (hsf : SufA f) {l : List Nat} {a' : Acc} {l' : List Nat} (hl : l.length ≤ 100000000) (h : rowsP f shut l = .inr (a', l')) : GoodA m a' ∧ a'.1.length ≤ 1000000000 ∧ a'.2.length ≤ 1000000000 := by
  have hb := (blk_suf l).length_le
  have h0 : GoodA m ([], []) := fun x hx => by cases hx
  have go : ∀ l0 : List Nat, l0.length ≤ 100000000 → (match f ([], []) l0 with | .inl e => (.inl e : Int ⊕ (Acc × List Nat)) | .inr (a, l') => loopP f shut (l'.length + 1) a l') = .inr (a', l') → GoodA m a' ∧ a'.1.length ≤ 1000000000 ∧ a'.2.length ≤ 1000000000 := by
    intro l0 hl0 h
    split at h
    · cases h
    · rename_i a1 l1 h1
      obtain ⟨g1, g2, g3⟩ := hf _ _ _ _ hl0 h0 h1
      have hs := (hsf _ _ _ _ h1).length_le
      obtain ⟨k1, k2, k3⟩ := loop_good hf hsf _ _ _ _ _ (by omega) g1 h
      simp only [List.length_nil] at g2 g3
      exact ⟨k1, by omega, by omega⟩
  unfold rowsP at h
  split at h
  · exact go [] (by simp) h
  · rename_i c t hq
    rw [hq] at hb
    split at h
    · cases h; exact ⟨h0, by simp, by simp⟩
    · exact go (c :: t) (by omega) h
theorem plain_good (k N : Int) (s : Str) (m : Nat) : deepD ⟨k, N, s, [], []⟩ ≤ m + 1 ∧ smallD ⟨k, N, s, [], []⟩ := by
  refine ⟨by simp only [deepD, deepL]; omega, ?_⟩
  rw [smallD_eq]
  exact ⟨by simp, by simp, trivial⟩
theorem val_good : ∀ m : Nat, GoodF (valP m) m
  | 0 => by
    intro l v l' hl h
    simp only [valP, valG] at h
    split at h
    · cases h
    · split at h <;> cases h
  | m + 1 => by
    intro l v l' hl h
    have hb := (blk_suf l).length_le
    simp only [valP, valG] at h
    split at h
    · cases h
    · rename_i c t hq
      rw [hq, List.length_cons] at hb
      split at h
      · unfold valC at h
        split at h
        · obtain ⟨a, h1, h2⟩ := orErr_inr h; cases h2; exact plain_good _ _ _ _
        · split at h
          · obtain ⟨a, h1, h2⟩ := orErr_inr h; cases h2; exact plain_good _ _ _ _
          · split at h
            · obtain ⟨a, h1, h2⟩ := orErr_inr h; cases h2; exact plain_good _ _ _ _
            · split at h
              · obtain ⟨a, h1, h2⟩ := orErr_inr h; cases h2; exact plain_good _ _ _ _
              · split at h
                · split at h
                  · cases h
                  · rename_i a l1 h1
                    cases h
                    obtain ⟨g1, g2, g3⟩ := rows_good (elem_good (val_good m)) (elemP_suf (valP_suf m)) (by omega) h1
                    have hdl : deepL a.2 ≤ m := deepL_le fun x hx => (g1 x hx).1
                    refine ⟨by simp only [deepD]; omega, ?_⟩
                    rw [smallD_eq]
                    exact ⟨g2, g3, (smallL_iff _).2 fun x hx => (g1 x hx).2⟩
                · split at h
                  · split at h
                    · cases h
                    · rename_i a l1 h1
                      cases h
                      obtain ⟨g1, g2, g3⟩ := rows_good (memb_good (val_good m)) (membP_suf (valP_suf m)) (by omega) h1
                      have hdl : deepL a.2 ≤ m := deepL_le fun x hx => (g1 x hx).1
                      refine ⟨by simp only [deepD]; omega, ?_⟩
                      rw [smallD_eq]
                      exact ⟨g2, g3, (smallL_iff _).2 fun x hx => (g1 x hx).2⟩
                  · obtain ⟨a, h1, h2⟩ := orErr_inr h; cases h2; exact plain_good _ _ _ _
      · cases h
theorem doc_good (u : Str) (hu : u.length ≤ 50000000) : deepD (docP u).1 ≤ 21 ∧ smallD (docP u).1 := by
  have hz : deepD (⟨0, 0, [], [], []⟩ : Data) ≤ 21 ∧ smallD (⟨0, 0, [], [], []⟩ : Data) := by
    have := plain_good 0 0 [] 20
    exact this
  have hl := unitsL_length u
  unfold docP
  split
  · split
    · exact hz
    · rename_i v l hq
      obtain ⟨g1, g2⟩ := val_good 20 _ _ _ (by omega) hq
      split
      · exact ⟨by show deepD v ≤ 21; omega, g2⟩
      · exact hz
  · exact hz
theorem parses_law (u : Str) (hu : u.length ≤ 50000000) : credenzalaw13_JsonParses u = some (true, ()) := by
  obtain ⟨g1, g2⟩ := doc_good u hu
  unfold credenzalaw13_JsonParses
  rw [parse_doc u (by omega), rparse_doc u hu, live_true]
  simp only [Option.bind_some, if_true, re25_eq]
  rw [show credenzaref03_Same (docP u).1 (docP u).1 = some (true, ()) from same_small 1000000000000 _ (by omega) g2]
  simp
end Go.D13

