/- Several texts in one. -/
import Derived.Test.YtglnkknalibgdaaDoorP13A
set_option linter.unusedVariables false
set_option linter.unusedSimpArgs false
set_option linter.unnecessarySimpa false
/- Chapter 13, plainly: the document's answer as to what data is written as. -/
namespace Go.D13
open Go Go.Gw Go.Dn
set_option linter.unusedSimpArgs false
set_option linter.unusedVariables false
set_option maxRecDepth 100000

def natsI (l : List Nat) : List Int := l.map fun n : Nat => (n : Int)
theorem make_eq (l : List Nat) (hn : ∀ n ∈ l, n < 65536) (hl : l.length ≤ 100000000) : credenzaref01_Make (natsI l) = some (l.flatMap unit2, ()) := by
  have h := loop_all (step := credenzaref01_Make_l1) (fun (a : Str) i => (natsI l, (((natsI l).length : Nat) : Int), (i : Int), a, ())) l (fun a n => .inl (a ++ unit2 n)) (fun a => (a, ())) (fun a r => a.length + 2 * r.length ≤ 1000000000) [] (by omega) (by simp; omega)
    (fun i n r a hr ha => by
      obtain ⟨h1, h2, h3⟩ := getI_drop hr
      have hn6 := hn n h3
      have hi : ((i : Int) < (((natsI l).length : Nat) : Int)) := by unfold natsI; rw [List.length_map]; omega
      have hg : getI (natsI l) (i : Int) = some (n : Int) := by
        rw [getI_nat] at h1 ⊢
        unfold natsI
        rw [List.getElem?_map, h1]; rfl
      simp only [List.length_cons] at ha
      have e1 : Int.tdiv (n : Int) 256 = ((n / 256 : Nat) : Int) := rfl
      have e2 : Int.tmod (n : Int) 256 = ((n % 256 : Nat) : Int) := rfl
      have w1 : IntKind.wrap .i64 ((n / 256 : Nat) : Int) = ((n / 256 : Nat) : Int) := wrap_i64 (by omega) (by omega)
      have w2 : IntKind.wrap .u8 ((n / 256 : Nat) : Int) = ((n / 256 : Nat) : Int) := wrap_u8 (by omega) (by omega)
      have w3 : IntKind.wrap .u8 ((n % 256 : Nat) : Int) = ((n % 256 : Nat) : Int) := wrap_u8 (by omega) (by omega)
      have t1 : toB ((n / 256 : Nat) : Int) = some (UInt8.ofNat (n / 256)) := by unfold toB; rw [if_pos (by omega)]; rfl
      have t2 : toB ((n % 256 : Nat) : Int) = some (UInt8.ofNat (n % 256)) := by unfold toB; rw [if_pos (by omega)]; rfl
      refine ⟨?_, by simp only [List.length_append, unit2, List.length_cons, List.length_nil]; omega⟩
      simp only [credenzaref01_Make_l1, hi, decide_true, if_true, hg, Option.bind_some, e1, e2, w1, w2, w3, t1, t2]
      rw [room_ok (by simp only [List.length_cons, List.length_nil]; omega), wrap1 (by omega)]
      rfl)
    (fun a _ => by
      have hi : ¬ (((l.length : Nat) : Int) < (((natsI l).length : Nat) : Int)) := by unfold natsI; rw [List.length_map]; omega
      simp only [credenzaref01_Make_l1, hi, decide_false, Bool.false_eq_true, if_false])
  unfold credenzaref01_Make
  refine h.trans ?_
  have fold : ∀ (r : List Nat) (a : Str), foldE (fun (a : Str) (n : Nat) => (.inl (a ++ unit2 n) : Str ⊕ (Str × Unit))) (fun a => (a, ())) a r = (a ++ r.flatMap unit2, ()) := by
    intro r
    induction r with
    | nil => intro a; simp [foldE]
    | cons c r ih => intro a; rw [foldE_inl rfl, ih]; simp
  rw [fold]; rfl
theorem of_eq (s : Str) (ha : ∀ c ∈ s, c.toNat < 128) (hl : s.length ≤ 100000000) : credenzaref01_U s = some (plainU s, ()) := by
  have h := loop_all (step := credenzaref01_Of_l1) (fun (a : List Int) i => (s, (i : Int), a, ())) s (fun a c => .inl (a ++ [((c.toNat : Nat) : Int)])) (fun a => (plainU s, 0, ())) (fun a r => a ++ natsI (r.map (·.toNat)) = natsI (s.map (·.toNat))) [] (by omega) rfl
    (fun i c r a hr hP => by
      obtain ⟨h1, h2, h3⟩ := getI_drop hr
      have hc := ha c h3
      have hi : ((i : Int) < ((s.length : Nat) : Int)) := by omega
      have hg : getB s (i : Int) = some ((c.toNat : Nat) : Int) := by rw [getB_nat]; rw [getI_nat] at h1; rw [h1]; rfl
      have hle : ¬ (((c.toNat : Nat) : Int) > 127) := by omega
      have hal : a.length ≤ 100000000 := by
        have := congrArg List.length hP
        simp [natsI] at this
        omega
      refine ⟨?_, by rw [← hP]; simp [natsI]⟩
      simp only [credenzaref01_Of_l1, hi, decide_true, if_true, hg, Option.bind_some, hle, decide_false, Bool.false_eq_true, if_false]
      rw [room_ok (by simp only [List.length_cons, List.length_nil]; omega), wrap1 (by omega), wrap_i64 (by omega) (by omega)]
      rfl)
    (fun a hP => by
      have hi : ¬ (((s.length : Nat) : Int) < ((s.length : Nat) : Int)) := by omega
      have hP : a = natsI (s.map (·.toNat)) := by simpa [natsI] using hP
      simp only [credenzaref01_Of_l1, hi, decide_false, Bool.false_eq_true, if_false, hP]
      rw [make_eq _ (fun n hn => by obtain ⟨c, hc, rfl⟩ := List.mem_map.1 hn; have := ha c hc; omega) (by simpa using hl)]
      simp only [Option.bind_some]
      congr 3
      have : ∀ t : Str, (∀ c ∈ t, c.toNat < 128) → (t.map (·.toNat)).flatMap unit2 = plainU t := by
        intro t
        induction t with
        | nil => intro _; rfl
        | cons c r ih =>
          intro h
          have hc := h c List.mem_cons_self
          rw [List.map_cons, List.flatMap_cons, ih fun d hd => h d (List.mem_cons_of_mem _ hd), plainU_cons]
          have e1 : c.toNat / 256 = 0 := by omega
          have e2 : c.toNat % 256 = c.toNat := by omega
          unfold unit2
          rw [e1, e2, UInt8.ofNat_toNat]
          rfl
      exact this s ha)
  unfold credenzaref01_U credenzaref01_Of
  have hf : ∀ (r : Str) (a : List Int), foldE (fun (a : List Int) (c : UInt8) => (.inl (a ++ [((c.toNat : Nat) : Int)]) : List Int ⊕ (Str × Int × Unit))) (fun a => (plainU s, 0, ())) a r = (plainU s, 0, ()) := by
    intro r
    induction r with
    | nil => intro a; rfl
    | cons c r ih => intro a; rw [foldE_inl rfl, ih]
  rw [show Lp.loop credenzaref01_Of_l1 (s, 0, [], ()) = _ from h, hf]
  rfl
/-! ### numbers -/
/-! ### a string's literal -/
end Go.D13


/- Chapter 13, plainly: the document writes what the program writes. -/
namespace Go.D13
open Go Go.Gw Go.Dn
set_option linter.unusedSimpArgs false
set_option linter.unusedVariables false
set_option maxRecDepth 100000

theorem decDigits_ne (n : Nat) : Lib.decDigits n ≠ [] := by
  rw [Lib.decDigits]; split <;> simp
theorem app_even {a b : Str} (h1 : a.length % 2 = 0) (h2 : b.length % 2 = 0) : (a ++ b).length % 2 = 0 := by rw [List.length_append]; omega
theorem plainU_even (s : Str) : (plainU s).length % 2 = 0 := by rw [plainU_length]; omega
theorem quoteJ1_even (n : Nat) : (quoteJ1 n).length % 2 = 0 := by
  unfold quoteJ1
  split
  · exact plainU_even _
  · split
    · exact plainU_even _
    · simp [unit2]
theorem flat_even : ∀ l : List Nat, (l.flatMap quoteJ1).length % 2 = 0
  | [] => rfl
  | n :: r => by rw [List.flatMap_cons]; exact app_even (quoteJ1_even n) (flat_even r)
theorem quoteJ_even (u : Str) : (quoteJ u).length % 2 = 0 := app_even (plainU_even _) (app_even (flat_even _) (plainU_even _))
mutual
theorem writeD_even : ∀ v : Data, (writeD v).length % 2 = 0
  | ⟨k, n, s, ks, l⟩ => by
    simp only [writeD]
    split
    · exact plainU_even _
    · split
      · exact quoteJ_even _
      · split
        · exact app_even (plainU_even _) (app_even (listW_even l true) (plainU_even _))
        · split
          · exact app_even (plainU_even _) (app_even (recW_even l true ks) (plainU_even _))
          · exact plainU_even _
theorem listW_even : ∀ (l : List Data) (b : Bool), (listW b l).length % 2 = 0
  | [], b => rfl
  | x :: r, b => by
    simp only [listW]
    exact app_even (by cases b <;> rfl) (app_even (writeD_even x) (listW_even r false))
theorem recW_even : ∀ (l : List Data) (b : Bool) (ks : List Str), (recW b ks l).length % 2 = 0
  | [], b, ks => rfl
  | x :: r, b, ks => by
    simp only [recW]
    split
    · exact recW_even r b ks.tail
    · exact app_even (by cases b <;> rfl) (app_even (quoteJ_even _) (app_even (plainU_even _) (app_even (writeD_even x) (recW_even r false ks.tail))))
end
theorem u_ok (s : Str) (h : ∀ c ∈ s, c.toNat < 128) (hl : s.length ≤ 100) : credenzaref01_U s = some (plainU s, ()) := of_eq s h (by omega)
end Go.D13


/- Chapter 13, plainly: the parser without forks; the chapter's examples; JsonWrites. -/
namespace Go.D13
open Go Go.Gw Go.Dn
set_option linter.unusedSimpArgs false
set_option linter.unusedVariables false
set_option maxRecDepth 100000

theorem getI_last {α : Type} (l : List α) (x : α) : getI (l ++ [x]) ((l.length : Nat) : Int) = some x := by rw [getI_nat]; simp
theorem set_last {α : Type} (l : List α) (x y : α) : (l ++ [x]).set ((l.length : Nat) : Int).toNat y = l ++ [y] := by simp
abbrev RowsR := Option ((GErr × T_json_parser × Int × Int × Str × (List Str) × (List T_api_Data) × Unit) ⊕ (T_json_parser × Int × Int × Str × (List Str) × (List T_api_Data) × Unit))
/-- an element of a list -/
def elem_p (g : Rec_json_parser_value) (x : T_json_parser) (Kind : Int) (N : Int) (S : Str) (l : List Str) (l2 : List T_api_Data) : RowsR :=
  Option.bind (g.json_parser_value x) fun r =>
  match r with
  | Sum.inl r => some (Sum.inl (r.1, r.2.1, Kind, N, S, l, l2, ()))
  | Sum.inr r => Option.bind (room (l2.length + 1)) fun _ => some (Sum.inr (r.2.1, Kind, N, S, l, l2 ++ [r.1], ()))
theorem value_1_eq (g : Rec_json_parser_value) (x : T_json_parser) (Kind : Int) (N : Int) (S : Str) (l : List Str) (l2 : List T_api_Data) : json_parser_value_1_b g x Kind N S l l2 = elem_p g x Kind N S l l2 := by
  unfold json_parser_value_1_b elem_p
  simp only [re38_eq, re25_eq]
  cases g.json_parser_value x with
  | none => rfl
  | some r =>
    simp only [Option.bind_some]
    cases r with
    | inl r => rfl
    | inr r =>
      simp only [getI_last, set_last, Option.bind_some, fk_self, List.length_cons, List.length_nil, Nat.zero_add]
/-- a member of an object -/
def memb_p (g_ : Rec_json_parser_value) (x : T_json_parser) (Kind : Int) (N : Int) (S : Str) (l : List Str) (l2 : List T_api_Data) : RowsR :=
  Option.bind (json_parser_blanks x) fun r_1 =>
  Option.bind (json_parser_str r_1.2.1) fun r_2 =>
  (match r_2 with
  | Sum.inl r_3 => some (Sum.inl (r_3.1, r_3.2.1, Kind, N, S, l, l2, ()))
  | Sum.inr r_4 =>
   Option.bind (json_parser_blanks r_4.2.1) fun r_5 =>
   Option.bind (json_parser_need ([58] : Str) r_5.2.1) fun r_6 =>
   (match r_6 with
   | Sum.inl r_7 => some (Sum.inl (r_7.1, r_7.2.1, Kind, N, S, l, l2, ()))
   | Sum.inr r_8 =>
    Option.bind (g_.json_parser_value r_8.1) fun r_9 =>
    (match r_9 with
    | Sum.inl r_10 => some (Sum.inl (r_10.1, r_10.2.1, Kind, N, S, l, l2, ()))
    | Sum.inr r_11 =>
     Option.bind (slices_Index l r_4.1) fun r_12 =>
     if (decide (r_12.1 ≥ 0)) = true then
      Option.bind (getI l2 r_12.1) fun _ => some (Sum.inr (r_11.2.1, Kind, N, S, l, l2.set r_12.1.toNat r_11.1, ()))
     else
      Option.bind (room (l.length + 1)) fun _ =>
      Option.bind (room (l2.length + 1)) fun _ => some (Sum.inr (r_11.2.1, Kind, N, S, l ++ [r_4.1], l2 ++ [r_11.1], ())))))
theorem bind_twice {α β : Type} (o : Option α) (f : α → Option β) : (Option.bind o fun _ => Option.bind o f) = Option.bind o f := by cases o <;> rfl
theorem value_2_eq (g : Rec_json_parser_value) (x : T_json_parser) (Kind : Int) (N : Int) (S : Str) (l : List Str) (l2 : List T_api_Data) : json_parser_value_2_b g x Kind N S l l2 = memb_p g x Kind N S l l2 := by
  unfold json_parser_value_2_b memb_p
  simp only [re38_eq, re25_eq, fk_self, bind_twice, List.length_cons, List.length_nil, Nat.zero_add]
  rfl
def RecP : Nat → Rec_json_parser_value
  | 0 => ⟨fun _ => none, fun _ _ _ _ _ _ _ => none, fun _ _ _ _ _ _ => none, fun _ _ _ _ _ _ _ => none, fun _ _ _ _ _ _ => none⟩
  | n + 1 => ⟨json_parser_value_b (RecP n), json_parser_rows_b (RecP n), elem_p (RecP n), json_parser_rows_v2_b (RecP n), memb_p (RecP n)⟩
theorem rec_eq : ∀ n, Rec_json_parser_value_g n = RecP n
  | 0 => rfl
  | n + 1 => by
    have h1 : json_parser_value_1_b (RecP n) = elem_p (RecP n) := by funext a b c d e f; exact value_1_eq _ _ _ _ _ _ _
    have h2 : json_parser_value_2_b (RecP n) = memb_p (RecP n) := by funext a b c d e f; exact value_2_eq _ _ _ _ _ _ _
    show (⟨json_parser_value_b (Rec_json_parser_value_g n), json_parser_rows_b (Rec_json_parser_value_g n), json_parser_value_1_b (Rec_json_parser_value_g n), json_parser_rows_v2_b (Rec_json_parser_value_g n), json_parser_value_2_b (Rec_json_parser_value_g n)⟩ : Rec_json_parser_value) = _
    rw [rec_eq n, h1, h2]
    rfl
/-- Parse, over a reader of values -/
def ParseOver (f : T_json_parser → Option ((GErr × T_json_parser × Unit) ⊕ (T_api_Data × T_json_parser × Unit))) (u : Str) : Option (T_api_Data × Int × Unit) :=
  Option.bind (units_Check u) fun r_1 =>
  if (!r_1.1) = true then
   some ((⟨0, 0, ([] : Str), ([] : List Str), ([] : List T_api_Data)⟩ : T_api_Data), 150, ())
  else
   Option.bind (f (⟨u, 0, 0⟩ : T_json_parser)) fun r_2 =>
   (match r_2 with
   | Sum.inl r_3 =>
    if ((r_3.1).isNil) = true then
     some ((⟨0, 0, ([] : Str), ([] : List Str), ([] : List T_api_Data)⟩ : T_api_Data), 0, ())
    else
     Option.bind (assertE 26 r_3.1) fun r_4 =>
     if r_4.2 = true then
      some ((⟨0, 0, ([] : Str), ([] : List Str), ([] : List T_api_Data)⟩ : T_api_Data), r_4.1, ())
     else
      none
   | Sum.inr r_5 =>
    Option.bind (json_parser_blanks r_5.2.1) fun r_6 =>
    if (decide (r_6.1 ≥ 0)) = true then
      some ((⟨0, 0, ([] : Str), ([] : List Str), ([] : List T_api_Data)⟩ : T_api_Data), 150, ())
    else
      some (r_5.1, 0, ()))
theorem pan_none {R : Type} (e : GErr) : panE e (fun _ => (none : Option R)) = none := by cases e <;> rfl
theorem value_eq : json_parser_value = (RecP Lp.big).json_parser_value := by unfold json_parser_value; rw [rec_eq]
theorem parse_over (u : Str) : json_Parse u = ParseOver (RecP Lp.big).json_parser_value u := by
  unfold json_Parse ParseOver
  rw [value_eq]
  simp only [re38_eq, re25_eq, pan_none]
  rfl
theorem live_true : credenzalaw13_live = some (true, ()) := by
  unfold credenzalaw13_live
  simp only [parse_over]
  kernel_rfl
end Go.D13


/- Chapter 13, plainly: the parser's small parts over what lies ahead. -/
namespace Go.D13
open Go Go.Gw Go.Dn
set_option linter.unusedSimpArgs false
set_option linter.unusedVariables false
set_option maxRecDepth 100000

/-- the parser at unit k -/
abbrev px (u : Str) (k : Nat) (d : Nat) : T_json_parser := ⟨u, (k : Int), (d : Int)⟩
/-- what lies ahead at unit k -/
def At (u : Str) (k : Nat) (r : List Nat) : Prop := (unitsL u).drop k = r
def hdI : List Nat → Int
  | [] => -1
  | n :: _ => (n : Int)
theorem At.get {u : Str} {k n : Nat} {r : List Nat} (h : At u k (n :: r)) : (unitsL u)[k]? = some n := by
  have hk : k < (unitsL u).length := by
    rcases Nat.lt_or_ge k (unitsL u).length with h1 | h1
    · exact h1
    · unfold At at h; rw [List.drop_of_length_le h1] at h; cases h
  unfold At at h
  rw [List.drop_eq_getElem_cons hk] at h
  cases h
  exact List.getElem?_eq_getElem hk
theorem At.tail {u : Str} {k n : Nat} {r : List Nat} (h : At u k (n :: r)) : At u (k + 1) r := by
  unfold At at *
  rw [← List.tail_drop, h]; rfl
theorem At.skip {u : Str} {k : Nat} : ∀ {a r : List Nat}, At u k (a ++ r) → At u (k + a.length) r
  | [], r, h => h
  | n :: a, r, h => by
    have := At.skip (a := a) (At.tail (n := n) h)
    rw [show k + (n :: a).length = k + 1 + a.length by simp only [List.length_cons]; omega]
    exact this
theorem At.le {u : Str} {k n : Nat} {r : List Nat} (h : At u k (n :: r)) : 2 * k + 2 ≤ u.length := by
  have := (List.getElem?_eq_some_iff.1 h.get).1
  rw [unitsL_length] at this
  omega
theorem At.lt {u : Str} {k n : Nat} {r : List Nat} (h : At u k (n :: r)) : n < 65536 := unitsL_lt u n (List.mem_of_getElem? h.get)
theorem next_eq {u : Str} {k d : Nat} {r : List Nat} (hu : u.length ≤ 1000000000) (h : At u k r) : json_parser_next (px u k d) = some (hdI r, px u k d, ()) := by
  unfold json_parser_next
  show (Option.bind (units_At u (k : Int)) fun r_1 => some (r_1.1, re38 (px u k d), ())) = _
  rw [units_At_eq u _ (by omega), re38_eq]
  simp only [Option.bind_some]
  cases r with
  | nil =>
    rw [unitAt_end u k]
    · rfl
    · unfold At at h
      have := congrArg List.length h
      simp at this
      omega
  | cons n r => rw [unitAt_nat u k n h.get]; rfl
theorem fwd {u : Str} {k d n : Nat} {r : List Nat} (hu : u.length ≤ 1000000000) (h : At u k (n :: r)) : (⟨u, IntKind.wrap .i64 ((k : Int) + 1), (d : Int)⟩ : T_json_parser) = px u (k + 1) d := by
  have := h.le
  rw [wrap1 (by omega)]
def blankN (n : Nat) : Bool := n == 9 || n == 10 || n == 13 || n == 32
theorem blank_hd (n : Nat) : (((n : Int) != 9) && ((n : Int) != 10) && ((n : Int) != 13) && ((n : Int) != 32)) = !blankN n := by
  have e1 : ((n : Int) != 9) = !(n == 9) := by rw [Bool.eq_iff_iff]; simp; omega
  have e2 : ((n : Int) != 10) = !(n == 10) := by rw [Bool.eq_iff_iff]; simp; omega
  have e3 : ((n : Int) != 13) = !(n == 13) := by rw [Bool.eq_iff_iff]; simp; omega
  have e4 : ((n : Int) != 32) = !(n == 32) := by rw [Bool.eq_iff_iff]; simp; omega
  unfold blankN
  rw [e1, e2, e3, e4]
  cases n == 9 <;> cases n == 10 <;> cases n == 13 <;> cases n == 32 <;> rfl
theorem blanks_n {u : Str} {d : Nat} {r : List Nat} (hu : u.length ≤ 1000000000) (hr : (match r with | [] => true | n :: _ => !blankN n) = true) : ∀ (b : List Nat) (k : Nat), (∀ n ∈ b, blankN n = true) → At u k (b ++ r) →
    loopN json_parser_blanks_l1 (b.length + 1) (px u k d, ()) = some (hdI r, px u (k + b.length) d, ())
  | [], k, _, h => by
    refine loopN_out ?_
    show json_parser_blanks_l1 (px u k d, ()) = _
    unfold json_parser_blanks_l1
    simp only [re38_eq]
    rw [next_eq hu h]
    simp only [Option.bind_some]
    cases r with
    | nil => rfl
    | cons n r =>
      exact if_pos ((blank_hd n).trans hr)
  | n :: b, k, hb, h => by
    have hn := hb n List.mem_cons_self
    have := blanks_n (d := d) hu hr b (k + 1) (fun m hm => hb m (List.mem_cons_of_mem _ hm)) (At.tail h)
    rw [List.length_cons, loopN_go (s' := (px u (k + 1) d, ()))]
    · rw [this, show k + 1 + b.length = k + (b.length + 1) by omega]
    · unfold json_parser_blanks_l1
      simp only [re38_eq]
      rw [next_eq hu h]
      simp only [Option.bind_some, List.cons_append, hdI]
      rw [blank_hd, hn]
      simp only [Bool.not_true, Bool.false_eq_true, if_false]
      rw [fwd hu (n := n) (r := b ++ r) h]
theorem blanks_eq {u : Str} {k d : Nat} {b r : List Nat} (hu : u.length ≤ 1000000000) (hb : ∀ n ∈ b, blankN n = true) (hr : (match r with | [] => true | n :: _ => !blankN n) = true) (h : At u k (b ++ r)) :
    json_parser_blanks (px u k d) = some (hdI r, px u (k + b.length) d, ()) := by
  have hl : b.length ≤ 1000000000 := by
    have := congrArg List.length h
    rw [List.length_drop, unitsL_length, List.length_append] at this
    omega
  unfold json_parser_blanks
  rw [re38_eq]
  exact loop_of (blanks_n hu hr b k hb h) (by omega)
theorem need_eq {u : Str} {k d : Nat} {r : List Nat} (s : Str) (hu : u.length ≤ 1000000000) (hs : s.length ≤ 1000) (h : At u k (s.map (·.toNat) ++ r)) :
    json_parser_need s (px u k d) = some (.inr (px u (k + s.length) d, ())) := by
  unfold json_parser_need
  rw [re38_eq]
  have hL := loop_all (step := json_parser_need_l1) (fun (_ : Unit) i => (s, ((s.length : Nat) : Int), (i : Int), px u (k + i) d, ())) s (fun a _ => .inl a) (fun _ => (.inr (px u (k + s.length) d, ()) : (GErr × T_json_parser × Unit) ⊕ (T_json_parser × Unit))) (fun _ t => At u (k + (s.length - t.length)) (t.map (·.toNat) ++ r)) () (by omega) (by simpa using h)
    (fun i c t a ht hP => by
      obtain ⟨h1, h2, h3⟩ := getI_drop ht
      have hit : s.length - (c :: t).length = i ∧ s.length - t.length = i + 1 := by
        have := congrArg List.length ht; simp at this; simp only [List.length_cons]; omega
      rw [hit.1] at hP
      rw [hit.2]
      have hi : ((i : Int) < ((s.length : Nat) : Int)) := by omega
      have hc : getB s (i : Int) = some ((c.toNat : Nat) : Int) := by rw [getB_nat]; rw [getI_nat] at h1; rw [h1]; rfl
      have hlt := c.toNat_lt
      have w : IntKind.wrap .i64 ((c.toNat : Nat) : Int) = ((c.toNat : Nat) : Int) := wrap_i64 (by omega) (by omega)
      refine ⟨?_, At.tail hP⟩
      simp only [json_parser_need_l1, hi, decide_true, if_true, hc, Option.bind_some, re38_eq]
      rw [next_eq hu hP]
      simp only [Option.bind_some, List.map_cons, List.cons_append, hdI, w, bne_self_eq_false, Bool.false_eq_true, if_false]
      rw [fwd hu hP, wrap1 (by omega)]
      rfl)
    (fun a _ => by
      have hi : ¬ (((s.length : Nat) : Int) < ((s.length : Nat) : Int)) := by omega
      simp only [json_parser_need_l1, hi, decide_false, Bool.false_eq_true, if_false, re38_eq])
  refine (show Lp.loop json_parser_need_l1 (s, ((s.length : Nat) : Int), 0, px u k d, ()) = _ from hL).trans ?_
  have : ∀ t : Str, foldE (fun (a : Unit) (_ : UInt8) => (.inl a : Unit ⊕ ((GErr × T_json_parser × Unit) ⊕ (T_json_parser × Unit)))) (fun _ => .inr (px u (k + s.length) d, ())) () t = .inr (px u (k + s.length) d, ()) := by
    intro t
    induction t with
    | nil => rfl
    | cons c t ih => rw [foldE_inl rfl, ih]
  rw [this]
end Go.D13


/- Chapter 13, plainly: the parser reads a string's literal. -/
namespace Go.D13
open Go Go.Gw Go.Dn
set_option linter.unusedSimpArgs false
set_option linter.unusedVariables false
set_option maxRecDepth 100000

/-- a unit as a string's literal holds it -/
def quoteN (n : Nat) : List Nat := match esc1 n with
  | some c => [92, c.toNat]
  | none => if n < 32 then [92, 117, 48, 48, (hexd (n / 16)).toNat, (hexd (n % 16)).toNat] else [n]
theorem quoteN_eq (n : Nat) (hn : n < 65536) : unitsL (quoteJ1 n) = quoteN n := by
  unfold quoteJ1 quoteN
  cases esc1 n with
  | some c => simp only []; rw [unitsL_plainU]; rfl
  | none =>
    simp only []
    split
    · rw [unitsL_plainU]; rfl
    · exact unitsL_unit2 n hn
theorem quoteL_eq : ∀ l : List Nat, (∀ n ∈ l, n < 65536) → unitsL (l.flatMap quoteJ1) = l.flatMap quoteN
  | [], _ => rfl
  | n :: r, h => by
    rw [List.flatMap_cons, unitsL_append _ _ (quoteJ1_even n), quoteN_eq n (h n List.mem_cons_self), quoteL_eq r fun m hm => h m (List.mem_cons_of_mem _ hm)]
    rfl
theorem quoteU_eq (v : Str) : unitsL (quoteJ v) = 34 :: ((unitsL v).flatMap quoteN ++ [34]) := by
  unfold quoteJ
  rw [unitsL_append _ _ (plainU_even _), unitsL_append _ _ (flat_even _), quoteL_eq _ (unitsL_lt v), unitsL_plainU]
  rfl
theorem write3 (s l : Str) (h : l.length + s.length ≤ 200000000000) : strings_Builder_WriteString_v3 s l = some (((s.length : Nat) : Int), GErr.nil, l ++ s, ()) := by
  unfold strings_Builder_WriteString_v3
  rw [room_ok (by omega)]
  rfl
theorem wrap_u8n (n : Nat) (h : n < 256) : IntKind.wrap .u8 (n : Int) = (n : Int) := wrap_u8 (by omega) (by omega)
/-- a mark after the backslash -/
theorem esc_step {u : Str} {k d c : Nat} {r : List Nat} {acc : Str} (i : Nat) (b : UInt8) (hu : u.length ≤ 1000000000) (ha : acc.length ≤ 100000000000) (h : At u k (92 :: c :: r)) (hc : c < 128) (h117 : c ≠ 117)
    (hi : Lib.indexByte ([34, 92, 47, 98, 102, 110, 114, 116] : Str) ((c : Int).toNat.toUInt8) = (i : Int)) (hb : getB ([34, 92, 47, 8, 12, 10, 13, 9] : Str) (i : Int) = some ((b.toNat : Nat) : Int)) :
    json_parser_str_l1 (px u k d, acc, ()) = some (.inl (px u (k + 2) d, acc ++ [0, b], ())) := by
  have e117 : ((c : Int) == 117) = false := by rw [beq_eq_false_iff_ne]; omega
  have ec : (decide ((c : Int) ≥ 0) && decide ((c : Int) < 128)) = true := by
    have h1 : (c : Int) ≥ 0 := by omega
    have h2 : (c : Int) < 128 := by omega
    simp [h1, h2]
  have hneg : ¬ ((i : Int) < 0) := by omega
  have t0 : toB 0 = some 0 := rfl
  simp only [json_parser_str_l1, re38_eq]
  rw [next_eq hu h]
  simp only [Option.bind_some, hdI]
  rw [show decide (((92 : Nat) : Int) < 32) = false from rfl, show (((92 : Nat) : Int) == 34) = false from rfl, show (((92 : Nat) : Int) != 92) = false from rfl]
  simp only [Bool.false_eq_true, if_false]
  rw [fwd hu h, next_eq hu h.tail]
  simp only [Option.bind_some, hdI, e117, Bool.false_eq_true, if_false, ec, if_true]
  rw [fwd hu h.tail, wrap_u8n c (by omega)]
  have hx : strings_IndexByte ([34, 92, 47, 98, 102, 110, 114, 116] : Str) (c : Int) = some ((i : Int), ()) := by
    unfold strings_IndexByte strings_IndexByte_x
    rw [hi]; rfl
  rw [hx]
  simp only [Option.bind_some, json_parser_str_j2, hneg, decide_false, Bool.false_eq_true, if_false, hb, t0, toB_of, re38_eq]
  rw [write3 _ _ (by simp; omega)]
  rfl
theorem or_nibble (x y : Nat) (hx : x < 4096) (hy : y < 16) : IntKind.wrap .i64 ((BitVec.ofInt 64 (IntKind.wrap .i64 ((x : Int) * 2 ^ 4)) ||| BitVec.ofInt 64 (y : Int)).toNat) = ((x * 16 + y : Nat) : Int) := by
  have e3 : ((x : Int) * 2 ^ 4) = ((x * 16 : Nat) : Int) := by simp
  rw [e3, wrap_i64 (n := ((x * 16 : Nat) : Int)) (by omega) (by omega), BitVec.toNat_or]
  have e4 : (BitVec.ofInt 64 ((x * 16 : Nat) : Int)).toNat = x * 16 := by rw [BitVec.ofInt_natCast, BitVec.toNat_ofNat]; omega
  have e5 : (BitVec.ofInt 64 (y : Int)).toNat = y := by rw [BitVec.ofInt_natCast, BitVec.toNat_ofNat]; omega
  rw [e4, e5]
  have e6 : x * 16 ||| y = x * 16 + y := by
    have := Nat.shiftLeft_add_eq_or_of_lt (b := y) (i := 4) hy x
    rw [Nat.shiftLeft_eq] at this
    exact this.symm
  rw [e6, wrap_i64 (by omega) (by omega)]
theorem hexd_look : ∀ y : Fin 16, (hexd y.val).toNat < 128 ∧ Lib.indexByte ([48, 49, 50, 51, 52, 53, 54, 55, 56, 57, 97, 98, 99, 100, 101, 102, 65, 66, 67, 68, 69, 70] : Str) (((((hexd y.val).toNat : Nat) : Int)).toNat.toUInt8) = (y.val : Int) := by decide
theorem hex_go {u : Str} {k d x y i : Nat} {r : List Nat} (hu : u.length ≤ 1000000000) (h : At u k ((hexd y).toNat :: r)) (hx : x < 4096) (hy : y < 16) (hi : i < 4) :
    json_parser_hex_l1 ((x : Int), (i : Int), px u k d, ()) = some (.inl (((x * 16 + y : Nat) : Int), ((i + 1 : Nat) : Int), px u (k + 1) d, ())) := by
  obtain ⟨h1, h2⟩ := hexd_look ⟨y, hy⟩
  simp only at h1 h2
  have hi4 : ((i : Int) < 4) := by omega
  have ec : (decide ((((hexd y).toNat : Nat) : Int) ≥ 0) && decide ((((hexd y).toNat : Nat) : Int) < 128)) = true := by
    have h1' : (((hexd y).toNat : Nat) : Int) ≥ 0 := by omega
    have h2' : (((hexd y).toNat : Nat) : Int) < 128 := by omega
    simp [h1', h2']
  have hneg : ¬ ((y : Int) < 0) := by omega
  have hbig : ¬ ((y : Int) > 15) := by omega
  simp only [json_parser_hex_l1, hi4, decide_true, if_true, re38_eq]
  rw [next_eq hu h]
  simp only [Option.bind_some, hdI, ec, if_true]
  rw [wrap_u8n _ (by omega)]
  have hx' : strings_IndexByte ([48, 49, 50, 51, 52, 53, 54, 55, 56, 57, 97, 98, 99, 100, 101, 102, 65, 66, 67, 68, 69, 70] : Str) (((hexd y).toNat : Nat) : Int) = some ((y : Int), ()) := by
    unfold strings_IndexByte strings_IndexByte_x
    rw [h2]; rfl
  rw [hx']
  simp only [Option.bind_some, json_parser_hex_j2, hneg, hbig, decide_false, Bool.false_eq_true, if_false, json_parser_hex_j3, re38_eq]
  rw [or_nibble x y hx hy, fwd hu h, wrap1 (by omega)]
theorem hex_read {u : Str} {k d n : Nat} {r : List Nat} (hu : u.length ≤ 1000000000) (h : At u k (48 :: 48 :: (hexd (n / 16)).toNat :: (hexd (n % 16)).toNat :: r)) (hn : n < 32) :
    json_parser_hex (px u k d) = some (.inr (unit2 n, px u (k + 4) d, ())) := by
  unfold json_parser_hex
  rw [re38_eq]
  have h0 : (48 : Nat) = (hexd 0).toNat := rfl
  have s1 := hex_go (d := d) (x := 0) (y := 0) (i := 0) hu h (by omega) (by omega) (by omega)
  have s2 := hex_go (d := d) (x := 0) (y := 0) (i := 1) hu h.tail (by omega) (by omega) (by omega)
  have s3 := hex_go (d := d) (x := 0) (y := n / 16) (i := 2) hu h.tail.tail (by omega) (by omega) (by omega)
  have s4 := hex_go (d := d) (x := n / 16) (y := n % 16) (i := 3) hu h.tail.tail.tail (by omega) (by omega) (by omega)
  have e : n / 16 * 16 + n % 16 = n := by omega
  rw [e] at s4
  have s5 : json_parser_hex_l1 ((n : Int), ((4 : Nat) : Int), px u (k + 4) d, ()) = some (.inr (.inr (unit2 n, px u (k + 4) d, ()))) := by
    have w1 : Int.fdiv (n : Int) (2 ^ 8) = ((0 : Nat) : Int) := by rw [Int.fdiv_eq_ediv_of_nonneg _ (by omega)]; omega
    simp only [json_parser_hex_l1, w1]
    rw [show decide (((4 : Nat) : Int) < 4) = false from rfl, wrap_u8n 0 (by omega), wrap_u8n n (by omega)]
    simp only [Bool.false_eq_true, if_false, re38_eq]
    have t1 : toB ((n : Nat) : Int) = some (UInt8.ofNat n) := by unfold toB; rw [if_pos (by omega)]; rfl
    have t0 : toB (((0 : Nat)) : Int) = some 0 := rfl
    rw [t0, t1]
    simp only [Option.bind_some]
    unfold unit2
    rw [show n / 256 = 0 by omega, show n % 256 = n by omega]
    rfl
  refine loop_of (n := 5) ?_ (by omega)
  rw [show ((0 : Int), (0 : Int), px u k d, ()) = (((0 : Nat) : Int), ((0 : Nat) : Int), px u k d, ()) from rfl, loopN_go s1]
  rw [show 0 * 16 + 0 = 0 from rfl] at *
  rw [show 0 + 1 = 1 from rfl, loopN_go s2, show 1 + 1 = 2 from rfl, loopN_go s3, show 0 * 16 + n / 16 = n / 16 by omega, show 2 + 1 = 3 from rfl, loopN_go s4, show 3 + 1 = 4 from rfl]
  exact loopN_out s5
/-- one unit is read -/
theorem pstr_step {u : Str} {k d n : Nat} {r : List Nat} {acc : Str} (hu : u.length ≤ 1000000000) (ha : acc.length ≤ 100000000000) (h : At u k (quoteN n ++ r)) (hn : n < 65536) :
    json_parser_str_l1 (px u k d, acc, ()) = some (.inl (px u (k + (quoteN n).length) d, acc ++ unit2 n, ())) := by
  by_cases g1 : n = 34
  · subst g1; exact esc_step 0 34 hu ha h (by decide) (by decide) (by decide) (by decide)
  by_cases g2 : n = 92
  · subst g2; exact esc_step 1 92 hu ha h (by decide) (by decide) (by decide) (by decide)
  by_cases g3 : n = 8
  · subst g3; exact esc_step 3 8 hu ha h (by decide) (by decide) (by decide) (by decide)
  by_cases g4 : n = 12
  · subst g4; exact esc_step 4 12 hu ha h (by decide) (by decide) (by decide) (by decide)
  by_cases g5 : n = 10
  · subst g5; exact esc_step 5 10 hu ha h (by decide) (by decide) (by decide) (by decide)
  by_cases g6 : n = 13
  · subst g6; exact esc_step 6 13 hu ha h (by decide) (by decide) (by decide) (by decide)
  by_cases g7 : n = 9
  · subst g7; exact esc_step 7 9 hu ha h (by decide) (by decide) (by decide) (by decide)
  have hesc : esc1 n = none := by unfold esc1; simp only [g1, g2, g3, g4, g5, g6, g7, if_false]
  by_cases h32 : n < 32
  · have hq : quoteN n = [92, 117, 48, 48, (hexd (n / 16)).toNat, (hexd (n % 16)).toNat] := by unfold quoteN; rw [hesc]; simp only [h32, if_true]
    rw [hq] at h ⊢
    simp only [json_parser_str_l1, re38_eq]
    rw [next_eq hu h]
    simp only [Option.bind_some, hdI, List.cons_append]
    rw [show decide (((92 : Nat) : Int) < 32) = false from rfl, show (((92 : Nat) : Int) == 34) = false from rfl, show (((92 : Nat) : Int) != 92) = false from rfl]
    simp only [Bool.false_eq_true, if_false]
    have ht : At u (k + 1) (117 :: 48 :: 48 :: (hexd (n / 16)).toNat :: (hexd (n % 16)).toNat :: r) := At.tail h
    rw [fwd hu h, next_eq hu ht]
    simp only [Option.bind_some, hdI]
    rw [show (((117 : Nat) : Int) == 117) = true from rfl]
    simp only [if_true]
    rw [fwd hu ht, hex_read hu ht.tail h32]
    simp only [Option.bind_some]
    rw [write3 _ _ (by simp [unit2]; omega)]
    rfl
  · have hq : quoteN n = [n] := by unfold quoteN; rw [hesc]; simp only [h32, if_false]
    rw [hq] at h ⊢
    have hle := At.le (r := r) h
    have n1 : ¬ ((n : Int) < 32) := by omega
    have n2 : ((n : Int) == 34) = false := by rw [beq_eq_false_iff_ne]; omega
    have n3 : ((n : Int) != 92) = true := by rw [bne_iff_ne]; omega
    simp only [json_parser_str_l1, re38_eq]
    rw [next_eq hu h]
    simp only [Option.bind_some, hdI, List.cons_append, n1, n2, n3, decide_false, Bool.false_eq_true, if_false, if_true]
    have w1 : IntKind.wrap .i64 ((k : Int) + 1) = ((k + 1 : Nat) : Int) := wrap1 (by omega)
    have w2 : IntKind.wrap .i64 (((k + 1 : Nat) : Int) - 1) = (k : Int) := by rw [wrap_i64 (by omega) (by omega)]; omega
    rw [w1, w2, units_Cut_one u k n hu (At.get (r := r) h)]
    simp only [Option.bind_some]
    rw [write3 _ _ (by simp [unit2]; omega)]
    rfl
theorem unit2_join : ∀ v : Str, v.length % 2 = 0 → (unitsL v).flatMap unit2 = v
  | [], _ => rfl
  | [_], h => by simp at h
  | a :: b :: r, h => by
    have ha := a.toNat_lt; have hb := b.toNat_lt
    simp only [unitsL, List.flatMap_cons]
    rw [unit2_join r (by simp only [List.length_cons] at h; omega)]
    unfold unit2
    have d1 : (a.toNat * 256 + b.toNat) / 256 = a.toNat := by omega
    have d2 : (a.toNat * 256 + b.toNat) % 256 = b.toNat := by omega
    rw [d1, d2, UInt8.ofNat_toNat, UInt8.ofNat_toNat]
    rfl
theorem str_n {u : Str} {d : Nat} {r : List Nat} (hu : u.length ≤ 1000000000) : ∀ (l : List Nat) (k : Nat) (acc : Str), (∀ n ∈ l, n < 65536) → acc.length + 2 * l.length ≤ 100000000000 → At u k (l.flatMap quoteN ++ 34 :: r) →
    loopN json_parser_str_l1 (l.length + 1) (px u k d, acc, ()) = some (.inr (acc ++ l.flatMap unit2, px u (k + (l.flatMap quoteN).length + 1) d, ()))
  | [], k, acc, _, ha, h => by
    refine loopN_out ?_
    simp only [json_parser_str_l1, re38_eq]
    rw [next_eq hu h]
    simp only [Option.bind_some, hdI, List.flatMap_nil, List.nil_append, List.append_nil, List.length_nil, Nat.add_zero]
    rw [show decide (((34 : Nat) : Int) < 32) = false from rfl, show (((34 : Nat) : Int) == 34) = true from rfl]
    simp only [Bool.false_eq_true, if_false, if_true]
    rw [fwd hu h]
  | n :: l, k, acc, hl, ha, h => by
    rw [List.flatMap_cons, List.append_assoc] at h
    simp only [List.length_cons] at ha
    rw [List.length_cons, loopN_go (pstr_step hu (by omega) h (hl n List.mem_cons_self))]
    rw [str_n hu l _ _ (fun m hm => hl m (List.mem_cons_of_mem _ hm)) (by simp only [List.length_append, unit2, List.length_cons, List.length_nil]; omega) h.skip]
    simp only [List.flatMap_cons, List.append_assoc, List.length_append]
    rw [show k + (quoteN n).length + (l.flatMap quoteN).length + 1 = k + ((quoteN n).length + (l.flatMap quoteN).length) + 1 by omega]
/-- a string's literal is read -/
theorem pstr_eq {u v : Str} {k d : Nat} {r : List Nat} (hu : u.length ≤ 1000000000) (hv : v.length % 2 = 0) (hvl : v.length ≤ 1000000000) (h : At u k (unitsL (quoteJ v) ++ r)) :
    json_parser_str (px u k d) = some (.inr (v, px u (k + (unitsL (quoteJ v)).length) d, ())) := by
  rw [quoteU_eq, List.cons_append, List.append_assoc] at h
  unfold json_parser_str
  rw [re38_eq, need_eq [34] hu (by simp) h]
  simp only [Option.bind_some, re38_eq]
  have hl := unitsL_length v
  have hs := str_n (d := d) (r := r) hu (unitsL v) (k + 1) [] (unitsL_lt v) (by simp; omega) h.tail
  refine (loop_of hs (by omega)).trans ?_
  rw [List.nil_append, unit2_join v hv, quoteU_eq]
  simp only [List.length_cons, List.length_append, List.length_nil]
  rw [show k + 1 + ((unitsL v).flatMap quoteN).length + 1 = k + (((unitsL v).flatMap quoteN).length + (0 + 1) + 1) by omega]
end Go.D13


/- Chapter 13, plainly: the parser reads a number; a value; rows. -/
namespace Go.D13
open Go Go.Gw Go.Dn
set_option linter.unusedSimpArgs false
set_option linter.unusedVariables false
set_option maxRecDepth 100000

/-! ### numbers -/
def digF (a : Nat) (c : UInt8) : Nat := 10 * a + (c.toNat - 48)
theorem dig_range : ∀ (n : Nat), ∀ c ∈ Lib.decDigits n, 48 ≤ c.toNat ∧ c.toNat ≤ 57 := by
  intro n
  induction n using Nat.strongRecOn with
  | _ n ih =>
    intro c hc
    rw [Lib.decDigits] at hc
    split at hc
    · rename_i h
      have hc := List.mem_singleton.1 hc
      subst hc
      rw [UInt8.toNat_ofNat']
      omega
    · rename_i h
      rcases List.mem_append.1 hc with h1 | h1
      · exact ih (n / 10) (by omega) c h1
      · have h1 := List.mem_singleton.1 h1
        subst h1
        rw [UInt8.toNat_ofNat']
        omega
theorem dig_val : ∀ (n : Nat), (Lib.decDigits n).foldl digF 0 = n := by
  intro n
  induction n using Nat.strongRecOn with
  | _ n ih =>
    rw [Lib.decDigits]
    split
    · simp only [List.foldl_cons, List.foldl_nil, digF, UInt8.toNat_ofNat']
      omega
    · rw [List.foldl_append, ih (n / 10) (by omega)]
      simp only [List.foldl_cons, List.foldl_nil, digF, UInt8.toNat_ofNat']
      omega
theorem dig_head : ∀ (n : Nat), 0 < n → ∃ c r, Lib.decDigits n = c :: r ∧ 49 ≤ c.toNat := by
  intro n
  induction n using Nat.strongRecOn with
  | _ n ih =>
    intro hn
    rw [Lib.decDigits]
    split
    · exact ⟨_, [], rfl, by rw [UInt8.toNat_ofNat']; omega⟩
    · obtain ⟨c, r, h1, h2⟩ := ih (n / 10) (by omega) (by omega)
      exact ⟨c, r ++ [UInt8.ofNat (48 + n % 10)], by rw [h1]; rfl, h2⟩
theorem fold_ge : ∀ (l : Str) (a : Nat), a ≤ l.foldl digF a
  | [], a => by simp
  | c :: r, a => by
    rw [List.foldl_cons]
    have := fold_ge r (digF a c)
    unfold digF at this
    unfold digF
    omega
def ndig (r : List Nat) : Prop := match r with | [] => True | n :: _ => n < 48 ∨ 57 < n
theorem num_n {u : Str} {d s : Nat} {neg : Bool} {r : List Nat} (hu : u.length ≤ 1000000000) (hr : ndig r) : ∀ (l : Str) (i a : Nat), (∀ c ∈ l, 48 ≤ c.toNat ∧ c.toNat ≤ 57) → l.foldl digF a ≤ 9007199254740991 → (0 < a ∨ (i = 0 ∧ ∀ c r, l = c :: r → r ≠ [] → 49 ≤ c.toNat) ∨ l = []) → 0 < i + l.length → s + i < 1000000000 → At u (s + i) (l.map (·.toNat) ++ r) →
    loopN json_parser_number_l1 (l.length + 1) (neg, (s : Int), px u (s + i) d, 3, (a : Int), [], [], [], ()) = some (.inr ((⟨3, if neg then -((l.foldl digF a : Nat) : Int) else ((l.foldl digF a : Nat) : Int), [], [], []⟩ : Data), px u (s + i + l.length) d, ()))
  | [], i, a, _, hf, _, hpos, hk, h => by
    refine loopN_out ?_
    simp only [json_parser_number_l1, re38_eq]
    rw [next_eq hu h]
    simp only [List.map_nil, List.nil_append, List.foldl_nil, List.length_nil, Nat.add_zero] at *
    have e1 : (decide (hdI r < 48) || decide (hdI r > 57)) = true := by
      cases r with
      | nil => rfl
      | cons n r =>
        have hr' : n < 48 ∨ 57 < n := hr
        show (decide ((n : Int) < 48) || decide ((n : Int) > 57)) = true
        rw [Bool.or_eq_true, decide_eq_true_eq, decide_eq_true_eq]
        omega
    have e2 : (((s + i : Nat) : Int) == (s : Int)) = false := by rw [beq_eq_false_iff_ne]; omega
    simp only [Option.bind_some, e1, Bool.true_or, if_true, e2, Bool.false_eq_true, if_false]
    have w : IntKind.wrap .i64 (0 - (a : Int)) = -(a : Int) := by rw [wrap_i64 (by omega) (by omega)]; omega
    cases neg with
    | true => simp only [if_true, w]
    | false => simp only [Bool.false_eq_true, if_false]
  | c :: l, i, a, hc, hf, hz, hpos, hk, h => by
    have h' : At u (s + i) (c.toNat :: (l.map (·.toNat) ++ r)) := h
    have hle := h'.le
    have hd := hc c List.mem_cons_self
    rw [List.foldl_cons] at hf
    have hge := fold_ge l (digF a c)
    have hdig : digF a c = 10 * a + (c.toNat - 48) := rfl
    have ih := num_n (neg := neg) (s := s) (d := d) hu hr l (i + 1) (digF a c) (fun x hx => hc x (List.mem_cons_of_mem _ hx)) hf (by
      rcases hz with h0 | ⟨_, h0⟩ | h0
      · exact .inl (by omega)
      · cases l with
        | nil => exact .inr (.inr rfl)
        | cons c2 l => exact .inl (by have := h0 c _ rfl (by simp); omega)
      · cases h0) (by omega) (by omega) (At.tail h')
    rw [List.length_cons, loopN_go (s' := (neg, (s : Int), px u (s + (i + 1)) d, 3, ((digF a c : Nat) : Int), [], [], [], ()))]
    · rw [ih, List.foldl_cons, show s + (i + 1) + l.length = s + i + (l.length + 1) by omega]
    · simp only [json_parser_number_l1, re38_eq]
      rw [next_eq hu h]
      simp only [Option.bind_some, List.map_cons, List.cons_append, hdI]
      have b1 : decide (((c.toNat : Nat) : Int) < 48) = false := decide_eq_false (by omega)
      have b2 : decide (((c.toNat : Nat) : Int) > 57) = false := decide_eq_false (by omega)
      have b3 : (decide (((s + i : Nat) : Int) > (s : Int)) && ((a : Int) == 0)) = false := by
        rcases hz with h0 | ⟨rfl, _⟩ | h0
        rotate_left
        · have : decide (((s + 0 : Nat) : Int) > (s : Int)) = false := decide_eq_false (by omega)
          rw [this]; rfl
        · cases h0
        · have : ((a : Int) == 0) = false := by rw [beq_eq_false_iff_ne]; omega
          rw [this]; simp
      have w1 : IntKind.wrap .i64 (10 * (a : Int)) = ((10 * a : Nat) : Int) := by rw [wrap_i64 (by omega) (by omega)]; omega
      have w2 : IntKind.wrap .i64 (((10 * a : Nat) : Int) + ((c.toNat : Nat) : Int)) = ((10 * a + c.toNat : Nat) : Int) := by rw [wrap_i64 (by omega) (by omega)]; omega
      have w3 : IntKind.wrap .i64 (((10 * a + c.toNat : Nat) : Int) - 48) = ((digF a c : Nat) : Int) := by rw [wrap_i64 (by omega) (by omega)]; omega
      have b4 : decide (((digF a c : Nat) : Int) > 9007199254740991) = false := decide_eq_false (by omega)
      simp only [b1, b2, b3, Bool.or_self, Bool.false_eq_true, if_false, w1, w2, w3, b4]
      rw [fwd hu h']
      rfl
theorem dig_len (n : Nat) : 0 < (Lib.decDigits n).length := List.length_pos_iff.2 (decDigits_ne n)
theorem dig_first {n : Nat} : ∀ c r, Lib.decDigits n = c :: r → r ≠ [] → 49 ≤ c.toNat := by
  intro c r h hr
  by_cases hn : 0 < n
  · obtain ⟨c', r', h1, h2⟩ := dig_head n hn
    rw [h] at h1
    cases h1
    exact h2
  · have : n = 0 := by omega
    subst this
    rw [show Lib.decDigits 0 = [48] from by rw [Lib.decDigits]; rfl] at h
    cases h
    exact absurd rfl hr
/-- a number is read -/
theorem number_eq {u : Str} {k d : Nat} {N : Int} {r : List Nat} (hu : u.length ≤ 1000000000) (hr : ndig r) (h0 : -9007199254740991 ≤ N) (h1 : N ≤ 9007199254740991) (h : At u k ((Lib.itoa N).map (·.toNat) ++ r)) :
    json_parser_number (px u k d) = some (.inr (⟨3, N, [], [], []⟩, px u (k + (Lib.itoa N).length) d, ())) := by
  have hlen := Lib.itoa_length_le N (by omega) (by omega)
  unfold json_parser_number
  rw [re38_eq, next_eq hu h]
  simp only [Option.bind_some, re38_eq]
  by_cases hn : N < 0
  · have e : Lib.itoa N = 45 :: Lib.decDigits N.natAbs := by unfold Lib.itoa; rw [if_pos hn]
    rw [e] at h hlen ⊢
    have hle := At.le (r := (Lib.decDigits N.natAbs).map (·.toNat) ++ r) h
    rw [show hdI (List.map (fun x => x.toNat) (45 :: Lib.decDigits N.natAbs) ++ r) = 45 from rfl, show ((45 : Int) == 45) = true from rfl]
    simp only [if_true]
    rw [fwd hu (n := 45) (r := (Lib.decDigits N.natAbs).map (·.toNat) ++ r) h, wrap1 (by omega)]
    have hd := dig_val N.natAbs
    have := num_n (u := u) (d := d) (s := k + 1) (neg := true) hu hr (Lib.decDigits N.natAbs) 0 0 (dig_range _) (by omega) (.inr (.inl ⟨rfl, dig_first⟩)) (by have := dig_len N.natAbs; omega) (by omega) (At.tail (n := 45) h)
    rw [hd] at this
    refine (loop_of this (by simp only [List.length_cons] at hlen; omega)).trans ?_
    have en : -((N.natAbs : Nat) : Int) = N := by omega
    simp only [if_true, en, List.length_cons]
    rw [show k + 1 + 0 + (Lib.decDigits N.natAbs).length = k + ((Lib.decDigits N.natAbs).length + 1) by omega]
  · have e : Lib.itoa N = Lib.decDigits N.toNat := by unfold Lib.itoa; rw [if_neg hn]
    rw [e] at h hlen ⊢
    have hd := dig_val N.toNat
    have hlp := dig_len N.toNat
    obtain ⟨c, t, hct⟩ : ∃ c t, Lib.decDigits N.toNat = c :: t := by
      cases hq : Lib.decDigits N.toNat with
      | nil => rw [hq] at hlp; simp at hlp
      | cons c t => exact ⟨c, t, rfl⟩
    have hc := dig_range N.toNat c (by rw [hct]; exact List.mem_cons_self)
    have hle := At.le (n := c.toNat) (r := t.map (·.toNat) ++ r) (by rw [hct] at h; exact h)
    have e45 : (hdI (List.map (fun x => x.toNat) (Lib.decDigits N.toNat) ++ r) == 45) = false := by
      rw [hct]
      show (((c.toNat : Nat) : Int) == 45) = false
      rw [beq_eq_false_iff_ne]; omega
    simp only [e45, Bool.false_eq_true, if_false]
    have := num_n (u := u) (d := d) (s := k) (neg := false) hu hr (Lib.decDigits N.toNat) 0 0 (dig_range _) (by omega) (.inr (.inl ⟨rfl, dig_first⟩)) (by omega) (by omega) h
    rw [hd] at this
    refine (loop_of this (by omega)).trans ?_
    have en : ((N.toNat : Nat) : Int) = N := by omega
    simp only [Bool.false_eq_true, if_false, en]
    rw [show k + 0 + (Lib.decDigits N.toNat).length = k + (Lib.decDigits N.toNat).length by omega]
/-! ### rows -/
abbrev RowF := T_json_parser → Int → Int → Str → List Str → List Data → RowsR
def rowsStep (f : RowF) : Int × T_json_parser × Int × Int × Str × (List Str) × (List T_api_Data) × Unit → Option ((Int × T_json_parser × Int × Int × Str × (List Str) × (List T_api_Data) × Unit) ⊕ ((GErr × T_json_parser × Int × Int × Str × (List Str) × (List T_api_Data) × Unit) ⊕ (T_json_parser × Int × Int × Str × (List Str) × (List T_api_Data) × Unit)))
  | (shut_9, x_10, Kind_11, N_12, S_13, l_14, l_15, ()) =>
    Option.bind (json_parser_blanks x_10) fun r_16 =>
    if (r_16.1 != shut_9) = true then
     Option.bind (json_parser_need ([44] : Str) r_16.2.1) fun r_17 =>
     (match r_17 with
     | Sum.inl r_18 => some (Sum.inr (Sum.inl (r_18.1, r_18.2.1, Kind_11, N_12, S_13, l_14, l_15, ())))
     | Sum.inr r_19 =>
      Option.bind (f r_19.1 Kind_11 N_12 S_13 l_14 l_15) fun r_20 =>
      (match r_20 with
      | Sum.inl r_21 => some (Sum.inr (Sum.inl (r_21.1, r_21.2.1, r_21.2.2.1, r_21.2.2.2.1, r_21.2.2.2.2.1, r_21.2.2.2.2.2.1, r_21.2.2.2.2.2.2.1, ())))
      | Sum.inr r_22 => some (Sum.inl (shut_9, r_22.1, r_22.2.1, r_22.2.2.1, r_22.2.2.2.1, r_22.2.2.2.2.1, r_22.2.2.2.2.2.1, ()))))
    else
     some (Sum.inr (Sum.inr ((⟨r_16.2.1.u, IntKind.wrap .i64 (r_16.2.1.at_ + 1), IntKind.wrap .i64 (r_16.2.1.deep - 1)⟩ : T_json_parser), Kind_11, N_12, S_13, l_14, l_15, ())))
theorem rows_l1_eq (g : Rec_json_parser_value) : json_parser_rows_l1 g = rowsStep g.json_parser_value_1 := by
  funext s
  obtain ⟨a, b, c, d, e, f, h, ⟨⟩⟩ := s
  simp only [json_parser_rows_l1, rowsStep, re38_eq] <;> rfl
theorem rows2_l1_eq (g : Rec_json_parser_value) : json_parser_rows_v2_l1 g = rowsStep g.json_parser_value_2 := by
  funext s
  obtain ⟨a, b, c, d, e, f, h, ⟨⟩⟩ := s
  simp only [json_parser_rows_v2_l1, rowsStep, re38_eq] <;> rfl
def rowsTop (f : RowF) (shut : Int) (x : T_json_parser) (Kind : Int) (N : Int) (S : Str) (l : List Str) (l2 : List T_api_Data) : RowsR :=
  Option.bind (json_parser_blanks (⟨x.u, IntKind.wrap .i64 (x.at_ + 1), IntKind.wrap .i64 (x.deep + 1)⟩ : T_json_parser)) fun r_3 =>
  if (r_3.1 != shut) = true then
   Option.bind (f r_3.2.1 Kind N S l l2) fun r_4 =>
   (match r_4 with
   | Sum.inl r_5 => some (Sum.inl (r_5.1, r_5.2.1, r_5.2.2.1, r_5.2.2.2.1, r_5.2.2.2.2.1, r_5.2.2.2.2.2.1, r_5.2.2.2.2.2.2.1, ()))
   | Sum.inr r_6 => Lp.loop (rowsStep f) (shut, r_6.1, r_6.2.1, r_6.2.2.1, r_6.2.2.2.1, r_6.2.2.2.2.1, r_6.2.2.2.2.2.1, ()))
  else
   some (Sum.inr ((⟨r_3.2.1.u, IntKind.wrap .i64 (r_3.2.1.at_ + 1), IntKind.wrap .i64 (r_3.2.1.deep - 1)⟩ : T_json_parser), Kind, N, S, l, l2, ()))
theorem rows_b_eq (g : Rec_json_parser_value) (shut : Int) (x : T_json_parser) (K N : Int) (S : Str) (l : List Str) (l2 : List Data) : json_parser_rows_b g shut x K N S l l2 = rowsTop g.json_parser_value_1 shut x K N S l l2 := by
  unfold json_parser_rows_b rowsTop
  simp only [re38_eq, rows_l1_eq] <;> rfl
theorem rows2_b_eq (g : Rec_json_parser_value) (shut : Int) (x : T_json_parser) (K N : Int) (S : Str) (l : List Str) (l2 : List Data) : json_parser_rows_v2_b g shut x K N S l l2 = rowsTop g.json_parser_value_2 shut x K N S l l2 := by
  unfold json_parser_rows_v2_b rowsTop
  simp only [re38_eq, rows2_l1_eq] <;> rfl
end Go.D13


/- Chapter 13, plainly: what is written is read back. -/
namespace Go.D13
open Go Go.Gw Go.Dn
set_option linter.unusedSimpArgs false
set_option linter.unusedVariables false
set_option maxRecDepth 100000

def wN (v : Data) : List Nat := unitsL (writeD v)
def ReadsV (f : T_json_parser → Option ((GErr × T_json_parser × Unit) ⊕ (T_api_Data × T_json_parser × Unit))) (v : Data) (d : Nat) : Prop :=
  ∀ (u : Str) (k : Nat) (b r : List Nat), u.length ≤ 1000000000 → (∀ n ∈ b, blankN n = true) → ndig r → At u k (b ++ (wN v ++ r)) → f (px u k d) = some (.inr (v, px u (k + b.length + (wN v).length) d, ()))
mutual
/-- nothing in it is undefined -/
def fullD : Data → Bool
  | ⟨k, _, _, _, l⟩ => !(k == 0) && fullL l
def fullL : List Data → Bool
  | [] => true
  | x :: r => fullD x && fullL r
end
theorem fullD_eq (v : Data) : fullD v = (!(v.Kind == 0) && fullL v.L) := by cases v; simp only [fullD]
theorem fullL_mem : ∀ {l : List Data} {x : Data}, fullL l = true → x ∈ l → fullD x = true
  | y :: r, x, h, hx => by
    simp only [fullL, Bool.and_eq_true] at h
    rcases List.mem_cons.1 hx with rfl | hx
    · exact h.1
    · exact fullL_mem h.2 hx
/-! ### what a value begins with -/
def starts : List Nat := [110, 116, 102, 34, 91, 123, 45, 48, 49, 50, 51, 52, 53, 54, 55, 56, 57]
theorem starts_ok : ∀ n ∈ starts, blankN n = false ∧ n < 128 ∧ n ≠ 93 ∧ n ≠ 125 ∧ 0 ≤ Lib.indexByte ([110, 116, 102, 34, 91, 123, 45, 48, 49, 50, 51, 52, 53, 54, 55, 56, 57] : Str) ((n : Int).toNat.toUInt8) := by decide
def valT (g_ : Rec_json_parser_value) (n : Int) (x : T_json_parser) : Option ((GErr × T_json_parser × Unit) ⊕ (T_api_Data × T_json_parser × Unit)) :=
     if (n == 110) = true then
      Option.bind (json_parser_need ([110, 117, 108, 108] : Str) x) fun r_7 =>
      (match r_7 with
      | Sum.inl r_8 => some (Sum.inl (r_8.1, r_8.2.1, ()))
      | Sum.inr r_9 => some (Sum.inr ((⟨1, 0, ([] : Str), ([] : List Str), ([] : List T_api_Data)⟩ : T_api_Data), r_9.1, ())))
     else
      if (n == 116) = true then
       Option.bind (json_parser_need ([116, 114, 117, 101] : Str) x) fun r_10 =>
       (match r_10 with
       | Sum.inl r_11 => some (Sum.inl (r_11.1, r_11.2.1, ()))
       | Sum.inr r_12 => some (Sum.inr ((⟨2, 1, ([] : Str), ([] : List Str), ([] : List T_api_Data)⟩ : T_api_Data), r_12.1, ())))
      else
       if (n == 102) = true then
        Option.bind (json_parser_need ([102, 97, 108, 115, 101] : Str) x) fun r_13 =>
        (match r_13 with
        | Sum.inl r_14 => some (Sum.inl (r_14.1, r_14.2.1, ()))
        | Sum.inr r_15 => some (Sum.inr ((⟨2, 0, ([] : Str), ([] : List Str), ([] : List T_api_Data)⟩ : T_api_Data), r_15.1, ())))
       else
        if (n == 34) = true then
         Option.bind (json_parser_str x) fun r_16 =>
         (match r_16 with
         | Sum.inl r_17 => some (Sum.inl (r_17.1, r_17.2.1, ()))
         | Sum.inr r_18 => some (Sum.inr ((⟨4, 0, r_18.1, ([] : List Str), ([] : List T_api_Data)⟩ : T_api_Data), r_18.2.1, ())))
        else
         if (n == 91) = true then
          Option.bind (g_.json_parser_rows 93 x 5 0 ([] : Str) ([] : List Str) ([] : List T_api_Data)) fun r_19 =>
          (match r_19 with
          | Sum.inl r_20 => some (Sum.inl (r_20.1, r_20.2.1, ()))
          | Sum.inr r_21 => some (Sum.inr ((⟨r_21.2.1, r_21.2.2.1, r_21.2.2.2.1, r_21.2.2.2.2.1, r_21.2.2.2.2.2.1⟩ : T_api_Data), r_21.1, ())))
         else
          if (n == 123) = true then
           Option.bind (g_.json_parser_rows_v2 125 x 6 0 ([] : Str) ([] : List Str) ([] : List T_api_Data)) fun r_22 =>
           (match r_22 with
           | Sum.inl r_23 => some (Sum.inl (r_23.1, r_23.2.1, ()))
           | Sum.inr r_24 => some (Sum.inr ((⟨r_24.2.1, r_24.2.2.1, r_24.2.2.2.1, r_24.2.2.2.2.1, r_24.2.2.2.2.2.1⟩ : T_api_Data), r_24.1, ())))
          else
           Option.bind (json_parser_number x) fun r_25 =>
           (match r_25 with
           | Sum.inl r_26 => some (Sum.inl (r_26.1, r_26.2.1, ()))
           | Sum.inr r_27 => some (Sum.inr (r_27.1, r_27.2.1, ())))
theorem value_start {g : Rec_json_parser_value} {u : Str} {k d n : Nat} {b t : List Nat} (hu : u.length ≤ 1000000000) (hb : ∀ n ∈ b, blankN n = true) (hn : n ∈ starts) (hd : d < 20) (h : At u k (b ++ n :: t)) :
    json_parser_value_b g (px u k d) = valT g (n : Int) (px u (k + b.length) d) := by
  obtain ⟨s1, s2, s3, s4, s5⟩ := starts_ok n hn
  unfold json_parser_value_b
  simp only [re38_eq, re25_eq]
  rw [blanks_eq hu hb (by simp [s1]) h]
  simp only [Option.bind_some, hdI]
  have b1 : (decide ((n : Int) < 0) || decide ((n : Int) > 127)) = false := by
    rw [decide_eq_false (by omega), decide_eq_false (by omega)]; rfl
  have b2 : strings_IndexByte ([110, 116, 102, 34, 91, 123, 45, 48, 49, 50, 51, 52, 53, 54, 55, 56, 57] : Str) (n : Int) = some (Lib.indexByte ([110, 116, 102, 34, 91, 123, 45, 48, 49, 50, 51, 52, 53, 54, 55, 56, 57] : Str) ((n : Int).toNat.toUInt8), ()) := rfl
  have b3 : decide (Lib.indexByte ([110, 116, 102, 34, 91, 123, 45, 48, 49, 50, 51, 52, 53, 54, 55, 56, 57] : Str) ((n : Int).toNat.toUInt8) < 0) = false := decide_eq_false (by omega)
  have b4 : ((d : Int) == 20) = false := by rw [beq_eq_false_iff_ne]; omega
  rw [b1, wrap_u8n n (by omega), b2]
  simp only [Bool.false_eq_true, if_false, Option.bind_some, b3, b4]
  rfl
/-! ### a list's elements -/
theorem elem_ok {g : Rec_json_parser_value} {u : Str} {k d : Nat} {v : Data} {r : List Nat} {K N : Int} {S : Str} {l : List Str} {acc : List Data} (hu : u.length ≤ 1000000000) (hv : ReadsV g.json_parser_value v d) (hr : ndig r) (ha : acc.length ≤ 100000000000) (h : At u k (wN v ++ r)) :
    elem_p g (px u k d) K N S l acc = some (.inr (px u (k + (wN v).length) d, K, N, S, l, acc ++ [v], ())) := by
  unfold elem_p
  rw [hv u k [] r hu (fun _ h => by cases h) hr h]
  simp only [Option.bind_some]
  rw [room_ok (by omega)]
  rfl
theorem need1 {u : Str} {k d n : Nat} {r : List Nat} (c : UInt8) (hc : c.toNat = n) (hu : u.length ≤ 1000000000) (h : At u k (n :: r)) : json_parser_need [c] (px u k d) = some (.inr (px u (k + 1) d, ())) :=
  need_eq [c] hu (by simp) (by rw [List.map_cons, List.map_nil, hc]; exact h)
theorem deep_back (d : Nat) (hd : d < 1000000) : IntKind.wrap .i64 (((d + 1 : Nat) : Int) - 1) = (d : Int) := by rw [wrap_i64 (by omega) (by omega)]; omega
theorem blanks0 {u : Str} {k d n : Nat} {r : List Nat} (hu : u.length ≤ 1000000000) (hn : blankN n = false) (h : At u k (n :: r)) : json_parser_blanks (px u k d) = some ((n : Int), px u k d, ()) := by
  have := blanks_eq (d := d) (b := []) hu (fun _ h => by cases h) (by simp [hn]) h
  exact this
theorem rows_end {f : RowF} {u : Str} {k d : Nat} {shut : Nat} {r : List Nat} {K N : Int} {S : Str} {l : List Str} {acc : List Data} (hu : u.length ≤ 1000000000) (hs : blankN shut = false) (hd : d < 1000000) (h : At u k (shut :: r)) :
    rowsStep f ((shut : Int), px u k (d + 1), K, N, S, l, acc, ()) = some (.inr (.inr (px u (k + 1) d, K, N, S, l, acc, ()))) := by
  have hle := h.le
  simp only [rowsStep]
  rw [blanks0 hu hs h]
  simp only [Option.bind_some, bne_self_eq_false, Bool.false_eq_true, if_false]
  rw [wrap1 (by omega), deep_back d hd]
theorem rows_go {f : RowF} {u : Str} {k d k' : Nat} {shut : Nat} {r : List Nat} {K N : Int} {S : Str} {l l' : List Str} {acc acc' : List Data} (hu : u.length ≤ 1000000000) (hs : shut ≠ 44) (h : At u k (44 :: r))
    (hf : f (px u (k + 1) d) K N S l acc = some (.inr (px u k' d, K, N, S, l', acc', ()))) :
    rowsStep f ((shut : Int), px u k d, K, N, S, l, acc, ()) = some (.inl ((shut : Int), px u k' d, K, N, S, l', acc', ())) := by
  simp only [rowsStep]
  rw [blanks0 hu (by decide) h]
  have e : (((44 : Nat) : Int) != (shut : Int)) = true := by rw [bne_iff_ne]; omega
  simp only [Option.bind_some, e, if_true]
  rw [need1 44 rfl hu h]
  simp only [Option.bind_some]
  rw [hf]
  rfl
theorem listW_cons (x : Data) (r : List Data) : unitsL (listW false (x :: r)) = 44 :: (wN x ++ unitsL (listW false r)) := by
  simp only [listW, Bool.false_eq_true, if_false]
  rw [unitsL_append _ _ (plainU_even _), unitsL_append _ _ (writeD_even x), unitsL_plainU]
  rfl
theorem listW_first (x : Data) (r : List Data) : unitsL (listW true (x :: r)) = wN x ++ unitsL (listW false r) := by
  simp only [listW, if_true, List.nil_append]
  rw [unitsL_append _ _ (writeD_even x)]
  rfl
theorem ndig_list (r : List Data) (t : List Nat) : ndig (unitsL (listW false r) ++ 93 :: t) := by
  cases r with
  | nil => exact .inr (by decide)
  | cons x r => rw [listW_cons]; exact .inl (by decide)
theorem list_n {g : Rec_json_parser_value} {u : Str} {d : Nat} {rest : List Nat} {K N : Int} {S : Str} {l : List Str} (hu : u.length ≤ 1000000000) (hd : d < 1000000) : ∀ (r : List Data) (k : Nat) (acc : List Data), (∀ x ∈ r, ReadsV g.json_parser_value x (d + 1)) → acc.length + r.length ≤ 100000000000 →
    At u k (unitsL (listW false r) ++ 93 :: rest) → loopN (rowsStep (elem_p g)) (r.length + 1) (93, px u k (d + 1), K, N, S, l, acc, ()) = some (.inr (px u (k + (unitsL (listW false r)).length + 1) d, K, N, S, l, acc ++ r, ()))
  | [], k, acc, _, _, h => by
    have := rows_end (f := elem_p g) (K := K) (N := N) (S := S) (l := l) (acc := acc) (shut := 93) (r := rest) (k := k) (d := d) hu (by decide) hd h
    rw [List.append_nil]
    exact loopN_out this
  | x :: r, k, acc, hx, ha, h => by
    rw [listW_cons, List.cons_append, List.append_assoc] at h
    simp only [List.length_cons] at ha
    have he := elem_ok (K := K) (N := N) (S := S) (l := l) (acc := acc) hu (hx x List.mem_cons_self) (ndig_list r rest) (by omega) h.tail
    have hg := rows_go (f := elem_p g) (shut := 93) hu (by decide) h he
    have ih := list_n (K := K) (N := N) (S := S) (l := l) (rest := rest) hu hd r (k + 1 + (wN x).length) (acc ++ [x]) (fun y hy => hx y (List.mem_cons_of_mem _ hy)) (by simp only [List.length_append, List.length_cons, List.length_nil]; omega) (At.skip h.tail)
    rw [List.length_cons]
    refine (loopN_go hg).trans (ih.trans ?_)
    rw [listW_cons]
    simp only [List.length_cons, List.length_append, List.append_assoc, List.cons_append, List.nil_append]
    rw [show k + 1 + (wN x).length + (unitsL (listW false r)).length + 1 = k + ((wN x).length + (unitsL (listW false r)).length + 1) + 1 by omega]
theorem list_top {g : Rec_json_parser_value} {u : Str} {k d : Nat} {L : List Data} {rest : List Nat} (hu : u.length ≤ 1000000000) (hd : d < 1000000) (hL : ∀ x ∈ L, ReadsV g.json_parser_value x (d + 1)) (hh : ∀ x ∈ L, ∃ n t, wN x = n :: t ∧ n ∈ starts) (hl : L.length ≤ 1000000000)
    (h : At u k (91 :: (unitsL (listW true L) ++ 93 :: rest))) : rowsTop (elem_p g) 93 (px u k d) 5 0 [] [] [] = some (.inr (px u (k + 1 + (unitsL (listW true L)).length + 1) d, 5, 0, [], [], L, ())) := by
  have hle := h.le
  unfold rowsTop
  rw [wrap1 (by omega), wrap1 (by omega)]
  cases L with
  | nil =>
    have h1 : At u (k + 1) (93 :: rest) := h.tail
    have hle1 := h1.le
    rw [show json_parser_blanks ⟨u, ((k + 1 : Nat) : Int), ((d + 1 : Nat) : Int)⟩ = _ from blanks0 (d := d + 1) hu (by decide) h1]
    simp only [Option.bind_some]
    rw [show (((93 : Nat) : Int) != 93) = false from rfl]
    simp only [Bool.false_eq_true, if_false]
    rw [wrap1 (by omega), deep_back d hd]
    rfl
  | cons x r =>
    obtain ⟨n, t, hn, hs⟩ := hh x List.mem_cons_self
    obtain ⟨s1, s2, s3, s4, s5⟩ := starts_ok n hs
    rw [listW_first, List.append_assoc] at h
    have h1 := h.tail
    have h2 : At u (k + 1) (n :: (t ++ (unitsL (listW false r) ++ 93 :: rest))) := by rw [hn] at h1; exact h1
    rw [show json_parser_blanks ⟨u, ((k + 1 : Nat) : Int), ((d + 1 : Nat) : Int)⟩ = _ from blanks0 (d := d + 1) hu s1 h2]
    have e : ((n : Int) != 93) = true := by rw [bne_iff_ne]; omega
    simp only [Option.bind_some, e, if_true]
    rw [show elem_p g (px u (k + 1) (d + 1)) 5 0 [] [] [] = _ from elem_ok (acc := []) hu (hL x List.mem_cons_self) (ndig_list r rest) (by simp) h1]
    simp only [Option.bind_some]
    simp only [List.length_cons] at hl
    have hn := list_n (g := g) (d := d) (K := 5) (N := 0) (S := []) (l := []) (rest := rest) hu hd r (k + 1 + (wN x).length) ([] ++ [x]) (fun y hy => hL y (List.mem_cons_of_mem _ hy)) (by simp; omega) (At.skip h1)
    refine (loop_of hn (by omega)).trans ?_
    rw [listW_first]
    simp only [List.nil_append, List.cons_append, List.length_append]
    rw [show k + 1 + (wN x).length + (unitsL (listW false r)).length + 1 = k + 1 + ((wN x).length + (unitsL (listW false r)).length) + 1 by omega]
end Go.D13


/- Chapter 13, plainly: an object's members; what is written is read back. -/
namespace Go.D13
open Go Go.Gw Go.Dn
set_option linter.unusedSimpArgs false
set_option linter.unusedVariables false
set_option maxRecDepth 100000

theorem index_none (l : List Str) (key : Str) (hl : l.length ≤ 100000000000) (h : l.contains key = false) : slices_Index l key = some (-1, ()) := by
  have hL := loop_all (step := slices_Index_l1) (fun (_ : Unit) i => (l, key, ((l.length : Nat) : Int), (i : Int), ())) l (fun a x => if (key == x) = true then .inr (0, ()) else .inl a) (fun _ => ((-1 : Int), ())) (fun _ t => t.contains key = false) () (by omega) h
    (fun i x t a ht hP => by
      obtain ⟨h1, h2, h3⟩ := getI_drop ht
      have hi : ((i : Int) < ((l.length : Nat) : Int)) := by omega
      rw [List.contains_cons, Bool.or_eq_false_iff] at hP
      have hx : (key == x) = false := hP.1
      simp only [hx, Bool.false_eq_true, if_false]
      refine ⟨?_, hP.2⟩
      simp only [slices_Index_l1, hi, decide_true, if_true, h1, Option.bind_some, hx, Bool.false_eq_true, if_false]
      rw [wrap1 (by omega)])
    (fun a _ => by
      have hi : ¬ (((l.length : Nat) : Int) < ((l.length : Nat) : Int)) := by omega
      simp only [slices_Index_l1, hi, decide_false, Bool.false_eq_true, if_false])
  unfold slices_Index
  refine hL.trans ?_
  have : ∀ t : List Str, t.contains key = false → foldE (fun (a : Unit) (x : Str) => (if (key == x) = true then .inr (0, ()) else .inl a : Unit ⊕ (Int × Unit))) (fun _ => ((-1 : Int), ())) () t = (-1, ()) := by
    intro t
    induction t with
    | nil => intro _; rfl
    | cons x t ih =>
      intro hP
      rw [List.contains_cons, Bool.or_eq_false_iff] at hP
      rw [foldE_inl (a' := ()) (by rw [hP.1]; rfl), ih hP.2]
  rw [this l h]
theorem memb_ok {g : Rec_json_parser_value} {u : Str} {k d : Nat} {key : Str} {v : Data} {r : List Nat} {K N : Int} {S : Str} {l : List Str} {acc : List Data} (hu : u.length ≤ 1000000000) (hk : evenP key = true) (hkl : key.length ≤ 1000000000) (hc : l.contains key = false) (hl : l.length ≤ 10000000000)
    (hv : ReadsV g.json_parser_value v d) (hr : ndig r) (ha : acc.length ≤ 10000000000) (h : At u k (unitsL (quoteJ key) ++ (58 :: (wN v ++ r)))) :
    memb_p g (px u k d) K N S l acc = some (.inr (px u (k + (unitsL (quoteJ key)).length + 1 + (wN v).length) d, K, N, S, l ++ [key], acc ++ [v], ())) := by
  have hq := quoteU_eq key
  have hk2 : key.length % 2 = 0 := by unfold evenP at hk; simpa using hk
  have h34 : At u k (34 :: ((unitsL key).flatMap quoteN ++ [34] ++ (58 :: (wN v ++ r)))) := by rw [hq] at h; exact h
  have h58 := h.skip
  unfold memb_p
  rw [blanks0 hu (by decide) h34]
  simp only [Option.bind_some]
  rw [pstr_eq hu hk2 hkl h]
  simp only [Option.bind_some]
  rw [blanks0 hu (by decide) h58]
  simp only [Option.bind_some]
  rw [need1 58 rfl hu h58]
  simp only [Option.bind_some]
  rw [hv u _ [] r hu (fun _ h => by cases h) hr h58.tail]
  simp only [Option.bind_some]
  rw [index_none l key (by omega) hc]
  simp only [Option.bind_some]
  rw [show decide ((-1 : Int) ≥ 0) = false from rfl]
  simp only [Bool.false_eq_true, if_false]
  rw [room_ok (by omega), room_ok (by omega)]
  rfl
theorem recW_cons (k : Str) (ks : List Str) (x : Data) (r : List Data) (hx : (x.Kind == 0) = false) : unitsL (recW false (k :: ks) (x :: r)) = 44 :: (unitsL (quoteJ k) ++ (58 :: (wN x ++ unitsL (recW false ks r)))) := by
  simp only [recW, hx, Bool.false_eq_true, if_false, List.headD_cons, List.tail_cons]
  rw [unitsL_append _ _ (plainU_even _), unitsL_append _ _ (quoteJ_even _), unitsL_append _ _ (plainU_even _), unitsL_append _ _ (writeD_even x), unitsL_plainU, unitsL_plainU]
  rfl
theorem recW_first (k : Str) (ks : List Str) (x : Data) (r : List Data) (hx : (x.Kind == 0) = false) : unitsL (recW true (k :: ks) (x :: r)) = unitsL (quoteJ k) ++ (58 :: (wN x ++ unitsL (recW false ks r))) := by
  simp only [recW, hx, Bool.false_eq_true, if_false, if_true, List.nil_append, List.headD_cons, List.tail_cons]
  rw [unitsL_append _ _ (quoteJ_even _), unitsL_append _ _ (plainU_even _), unitsL_append _ _ (writeD_even x), unitsL_plainU]
  rfl
theorem recW_nil (ks : List Str) (b : Bool) : unitsL (recW b ks []) = [] := by simp [recW, unitsL]
theorem ndig_rec (ks : List Str) (r : List Data) (t : List Nat) (hl : ks.length = r.length) (hx : ∀ x ∈ r, (x.Kind == 0) = false) : ndig (unitsL (recW false ks r) ++ 125 :: t) := by
  cases r with
  | nil => rw [recW_nil]; exact .inr (by decide)
  | cons x r =>
    cases ks with
    | nil => simp at hl
    | cons k ks => rw [recW_cons k ks x r (hx x List.mem_cons_self)]; exact .inl (by decide)
theorem rec_n {g : Rec_json_parser_value} {u : Str} {d : Nat} {rest : List Nat} {K N : Int} {S : Str} (hu : u.length ≤ 1000000000) (hd : d < 1000000) : ∀ (r : List Data) (ks : List Str) (k : Nat) (l : List Str) (acc : List Data), (∀ x ∈ r, ReadsV g.json_parser_value x (d + 1)) → (∀ x ∈ r, (x.Kind == 0) = false) → ks.length = r.length →
    (∀ q ∈ ks, evenP q = true ∧ q.length ≤ 1000000000) → dupP l ks = false → acc.length + r.length ≤ 1000000000 → l.length + ks.length ≤ 1000000000 →
    At u k (unitsL (recW false ks r) ++ 125 :: rest) → loopN (rowsStep (memb_p g)) (r.length + 1) (125, px u k (d + 1), K, N, S, l, acc, ()) = some (.inr (px u (k + (unitsL (recW false ks r)).length + 1) d, K, N, S, l ++ ks, acc ++ r, ()))
  | [], ks, k, l, acc, _, _, hl, _, _, _, _, h => by
    have e : ks = [] := by cases ks with | nil => rfl | cons _ _ => simp at hl
    subst e
    rw [recW_nil] at h
    have := rows_end (f := memb_p g) (K := K) (N := N) (S := S) (l := l) (acc := acc) (shut := 125) (r := rest) (k := k) (d := d) hu (by decide) hd h
    rw [List.append_nil, List.append_nil, recW_nil]
    exact loopN_out this
  | x :: r, [], k, l, acc, _, _, hl, _, _, _, _, h => by simp at hl
  | x :: r, q :: ks, k, l, acc, hx, hx0, hl, hks, hdup, ha, hll, h => by
    rw [recW_cons q ks x r (hx0 x List.mem_cons_self), List.cons_append, List.append_assoc, List.cons_append, List.append_assoc] at h
    simp only [List.length_cons] at ha hll hl
    have hdup' : (l.contains q || dupP (l ++ [q]) ks) = false := hdup
    rw [Bool.or_eq_false_iff] at hdup'
    have hq := hks q List.mem_cons_self
    have hnd := ndig_rec ks r rest (by omega) (fun y hy => hx0 y (List.mem_cons_of_mem _ hy))
    have he := memb_ok (K := K) (N := N) (S := S) (l := l) (acc := acc) hu hq.1 hq.2 hdup'.1 (by omega) (hx x List.mem_cons_self) hnd (by omega) h.tail
    have hg := rows_go (f := memb_p g) (shut := 125) hu (by decide) h he
    have hat : At u (k + 1 + (unitsL (quoteJ q)).length + 1 + (wN x).length) (unitsL (recW false ks r) ++ 125 :: rest) := At.skip (At.tail (At.skip h.tail))
    have ih := rec_n (K := K) (N := N) (S := S) (rest := rest) hu hd r ks (k + 1 + (unitsL (quoteJ q)).length + 1 + (wN x).length) (l ++ [q]) (acc ++ [x]) (fun y hy => hx y (List.mem_cons_of_mem _ hy)) (fun y hy => hx0 y (List.mem_cons_of_mem _ hy)) (by omega) (fun y hy => hks y (List.mem_cons_of_mem _ hy)) hdup'.2 (by simp only [List.length_append, List.length_cons, List.length_nil]; omega) (by simp only [List.length_append, List.length_cons, List.length_nil]; omega) hat
    rw [List.length_cons]
    refine (loopN_go hg).trans (ih.trans ?_)
    rw [recW_cons q ks x r (hx0 x List.mem_cons_self)]
    simp only [List.length_cons, List.length_append, List.append_assoc, List.cons_append, List.nil_append]
    rw [show k + 1 + (unitsL (quoteJ q)).length + 1 + (wN x).length + (unitsL (recW false ks r)).length + 1 = k + ((unitsL (quoteJ q)).length + ((wN x).length + (unitsL (recW false ks r)).length + 1) + 1) + 1 by omega]
theorem rec_top {g : Rec_json_parser_value} {u : Str} {k d : Nat} {L : List Data} {ks : List Str} {rest : List Nat} (hu : u.length ≤ 1000000000) (hd : d < 1000000) (hL : ∀ x ∈ L, ReadsV g.json_parser_value x (d + 1)) (hx0 : ∀ x ∈ L, (x.Kind == 0) = false) (hkl : ks.length = L.length)
    (hks : ∀ q ∈ ks, evenP q = true ∧ q.length ≤ 1000000000) (hdup : dupP [] ks = false) (hl : L.length ≤ 100000000)
    (h : At u k (123 :: (unitsL (recW true ks L) ++ 125 :: rest))) : rowsTop (memb_p g) 125 (px u k d) 6 0 [] [] [] = some (.inr (px u (k + 1 + (unitsL (recW true ks L)).length + 1) d, 6, 0, [], ks, L, ())) := by
  have hle := h.le
  unfold rowsTop
  rw [wrap1 (by omega), wrap1 (by omega)]
  cases L with
  | nil =>
    have e : ks = [] := by cases ks with | nil => rfl | cons _ _ => simp at hkl
    subst e
    rw [recW_nil] at h ⊢
    have h1 : At u (k + 1) (125 :: rest) := h.tail
    have hle1 := h1.le
    rw [show json_parser_blanks ⟨u, ((k + 1 : Nat) : Int), ((d + 1 : Nat) : Int)⟩ = _ from blanks0 (d := d + 1) hu (by decide) h1]
    simp only [Option.bind_some]
    rw [show (((125 : Nat) : Int) != 125) = false from rfl]
    simp only [Bool.false_eq_true, if_false]
    rw [wrap1 (by omega), deep_back d hd]
    rfl
  | cons x r =>
    cases ks with
    | nil => simp at hkl
    | cons q ks =>
      rw [recW_first q ks x r (hx0 x List.mem_cons_self), List.append_assoc, List.cons_append, List.append_assoc] at h
      have h1 := h.tail
      have h2 : At u (k + 1) (34 :: ((unitsL q).flatMap quoteN ++ [34] ++ (58 :: (wN x ++ (unitsL (recW false ks r) ++ 125 :: rest))))) := by rw [quoteU_eq q] at h1; exact h1
      rw [show json_parser_blanks ⟨u, ((k + 1 : Nat) : Int), ((d + 1 : Nat) : Int)⟩ = _ from blanks0 (d := d + 1) hu (by decide) h2]
      simp only [Option.bind_some]
      rw [show (((34 : Nat) : Int) != 125) = true from rfl]
      simp only [if_true]
      have hdup' : (([] : List Str).contains q || dupP ([] ++ [q]) ks) = false := hdup
      rw [Bool.or_eq_false_iff] at hdup'
      have hq := hks q List.mem_cons_self
      simp only [List.length_cons] at hl hkl
      have hnd := ndig_rec ks r rest (by omega) (fun y hy => hx0 y (List.mem_cons_of_mem _ hy))
      rw [show memb_p g (px u (k + 1) (d + 1)) 6 0 [] [] [] = _ from memb_ok (l := []) (acc := []) hu hq.1 hq.2 hdup'.1 (by simp) (hL x List.mem_cons_self) hnd (by simp) h1]
      simp only [Option.bind_some]
      have hat : At u (k + 1 + (unitsL (quoteJ q)).length + 1 + (wN x).length) (unitsL (recW false ks r) ++ 125 :: rest) := At.skip (At.tail (At.skip h1))
      have hn := rec_n (g := g) (d := d) (K := 6) (N := 0) (S := []) (rest := rest) hu hd r ks (k + 1 + (unitsL (quoteJ q)).length + 1 + (wN x).length) ([] ++ [q]) ([] ++ [x]) (fun y hy => hL y (List.mem_cons_of_mem _ hy)) (fun y hy => hx0 y (List.mem_cons_of_mem _ hy)) (by omega) (fun y hy => hks y (List.mem_cons_of_mem _ hy)) hdup'.2 (by simp; omega) (by simp; omega) hat
      refine (loop_of hn (by omega)).trans ?_
      rw [recW_first q ks x r (hx0 x List.mem_cons_self)]
      simp only [List.nil_append, List.cons_append, List.length_append, List.length_cons]
      rw [show k + 1 + (unitsL (quoteJ q)).length + 1 + (wN x).length + (unitsL (recW false ks r)).length + 1 = k + 1 + ((unitsL (quoteJ q)).length + ((wN x).length + (unitsL (recW false ks r)).length + 1)) + 1 by omega]
end Go.D13


/- Chapter 13, plainly: JsonBack. -/
namespace Go.D13
open Go Go.Gw Go.Dn
set_option linter.unusedSimpArgs false
set_option linter.unusedVariables false
set_option maxRecDepth 100000

theorem itoa_head (N : Int) : ∃ c t, Lib.itoa N = c :: t ∧ (c.toNat = 45 ∨ 48 ≤ c.toNat ∧ c.toNat ≤ 57) := by
  unfold Lib.itoa
  split
  · exact ⟨45, _, rfl, .inl rfl⟩
  · cases hq : Lib.decDigits N.toNat with
    | nil => exact absurd hq (decDigits_ne _)
    | cons c t => exact ⟨c, t, rfl, .inr (dig_range N.toNat c (by rw [hq]; exact List.mem_cons_self))⟩
theorem start_num (n : Nat) (h : n = 45 ∨ 48 ≤ n ∧ n ≤ 57) : n ∈ starts ∧ n ≠ 110 ∧ n ≠ 116 ∧ n ≠ 102 ∧ n ≠ 34 ∧ n ≠ 91 ∧ n ≠ 123 := by
  refine ⟨?_, by omega, by omega, by omega, by omega, by omega, by omega⟩
  have : ∀ n : Fin 60, (n.val = 45 ∨ 48 ≤ n.val ∧ n.val ≤ 57) → n.val ∈ starts := by decide
  exact this ⟨n, by omega⟩ h
theorem wN_list (v : Data) (h : v.Kind = 5) : wN v = 91 :: (unitsL (listW true v.L) ++ [93]) := by
  unfold wN
  rw [writeD_eq, h]
  rw [show ((5 : Int) == 0) = false from rfl, show ((5 : Int) == 4) = false from rfl, show ((5 : Int) == 5) = true from rfl]
  simp only [Bool.false_eq_true, if_false, if_true]
  rw [unitsL_append _ _ (plainU_even _), unitsL_append _ _ (listW_even _ _), unitsL_plainU, unitsL_plainU]
  rfl
theorem wN_rec (v : Data) (h : v.Kind = 6) : wN v = 123 :: (unitsL (recW true v.Keys v.L) ++ [125]) := by
  unfold wN
  rw [writeD_eq, h]
  rw [show ((6 : Int) == 0) = false from rfl, show ((6 : Int) == 4) = false from rfl, show ((6 : Int) == 5) = false from rfl, show ((6 : Int) == 6) = true from rfl]
  simp only [Bool.false_eq_true, if_false, if_true]
  rw [unitsL_append _ _ (plainU_even _), unitsL_append _ _ (recW_even _ _ _), unitsL_plainU, unitsL_plainU]
  rfl
theorem wN_str (v : Data) (h : v.Kind = 4) : wN v = unitsL (quoteJ v.S) := by
  unfold wN
  rw [writeD_eq, h]
  rw [show ((4 : Int) == 0) = false from rfl, show ((4 : Int) == 4) = true from rfl]
  simp only [Bool.false_eq_true, if_false, if_true]
theorem wN_scalar (v : Data) (h : v.Kind = 1 ∨ v.Kind = 2 ∨ v.Kind = 3) : wN v = (scalarT v).map (·.toNat) := by
  unfold wN
  rw [writeD_eq]
  have h0 : (v.Kind == 0) = false := by rw [beq_eq_false_iff_ne]; omega
  have h4 : (v.Kind == 4) = false := by rw [beq_eq_false_iff_ne]; omega
  have h5 : (v.Kind == 5) = false := by rw [beq_eq_false_iff_ne]; omega
  have h6 : (v.Kind == 6) = false := by rw [beq_eq_false_iff_ne]; omega
  simp only [h0, h4, h5, h6, Bool.false_eq_true, if_false]
  rw [unitsL_plainU]
/-- what data of each kind is -/
theorem kinds (v : Data) (hm : ownD v = true) (h0 : (v.Kind == 0) = false) :
    v = ⟨1, 0, [], [], []⟩ ∨ v = ⟨2, 0, [], [], []⟩ ∨ v = ⟨2, 1, [], [], []⟩ ∨ (v = ⟨3, v.N, [], [], []⟩ ∧ -9007199254740991 ≤ v.N ∧ v.N ≤ 9007199254740991) ∨ (v = ⟨4, 0, v.S, [], []⟩ ∧ evenP v.S = true) ∨ (v = ⟨5, 0, [], [], v.L⟩) ∨ (v = ⟨6, 0, [], v.Keys, v.L⟩ ∧ keysP v = true) := by
  obtain ⟨K, N, S, Ks, L⟩ := v
  unfold ownD at hm
  simp only at h0 hm ⊢
  rw [h0] at hm
  simp only [Bool.false_eq_true, if_false] at hm
  by_cases h1 : (K == 1) = true
  · have := eq_of_beq h1; subst this
    simp at hm
    obtain ⟨⟨⟨rfl, rfl⟩, rfl⟩, rfl⟩ := hm
    exact .inl rfl
  have h1' : (K == 1) = false := by simpa using h1
  rw [h1'] at hm
  by_cases h2 : (K == 2) = true
  · have := eq_of_beq h2; subst this
    simp at hm
    obtain ⟨⟨⟨hN, rfl⟩, rfl⟩, rfl⟩ := hm
    rcases hN with rfl | rfl
    · exact .inr (.inl rfl)
    · exact .inr (.inr (.inl rfl))
  have h2' : (K == 2) = false := by simpa using h2
  rw [h2'] at hm
  by_cases h3 : (K == 3) = true
  · have := eq_of_beq h3; subst this
    simp at hm
    obtain ⟨⟨⟨⟨hN1, hN2⟩, rfl⟩, rfl⟩, rfl⟩ := hm
    exact .inr (.inr (.inr (.inl ⟨rfl, hN1, hN2⟩)))
  have h3' : (K == 3) = false := by simpa using h3
  rw [h3'] at hm
  by_cases h4 : (K == 4) = true
  · have := eq_of_beq h4; subst this
    simp at hm
    obtain ⟨⟨⟨rfl, hS⟩, rfl⟩, rfl⟩ := hm
    exact .inr (.inr (.inr (.inr (.inl ⟨rfl, hS⟩))))
  have h4' : (K == 4) = false := by simpa using h4
  rw [h4'] at hm
  by_cases h5 : (K == 5) = true
  · have := eq_of_beq h5; subst this
    simp at hm
    obtain ⟨⟨rfl, rfl⟩, rfl⟩ := hm
    exact .inr (.inr (.inr (.inr (.inr (.inl rfl)))))
  have h5' : (K == 5) = false := by simpa using h5
  rw [h5'] at hm
  by_cases h6 : (K == 6) = true
  · have := eq_of_beq h6; subst this
    simp at hm
    obtain ⟨⟨rfl, rfl⟩, hk⟩ := hm
    exact .inr (.inr (.inr (.inr (.inr (.inr ⟨rfl, hk⟩)))))
  have h6' : (K == 6) = false := by simpa using h6
  rw [h6'] at hm
  simp at hm
theorem wN_head (v : Data) (hm : ownD v = true) (h0 : (v.Kind == 0) = false) : ∃ n t, wN v = n :: t ∧ n ∈ starts := by
  rcases kinds v hm h0 with h | h | h | ⟨h, _, _⟩ | ⟨h, _⟩ | h | ⟨h, _⟩
  · rw [h]; exact ⟨110, _, rfl, by decide⟩
  · rw [h]; exact ⟨102, _, rfl, by decide⟩
  · rw [h]; exact ⟨116, _, rfl, by decide⟩
  · obtain ⟨c, t, e1, e2⟩ := itoa_head v.N
    refine ⟨c.toNat, t.map (·.toNat), ?_, (start_num _ e2).1⟩
    rw [wN_scalar v (by rw [h]; simp)]
    have : scalarT v = Lib.itoa v.N := by unfold scalarT; rw [h]; rfl
    rw [this, e1]; rfl
  · exact ⟨34, _, by rw [wN_str v (by rw [h]), quoteU_eq], by decide⟩
  · exact ⟨91, _, wN_list v (by rw [h]), by decide⟩
  · exact ⟨123, _, wN_rec v (by rw [h]), by decide⟩
theorem value_n : ∀ (m : Nat) (v : Data) (n : Nat), deepD v ≤ m → 3 * m ≤ n → bulkD v ≤ 1048576 → mayD v = true → fullD v = true → ∀ d, d + deepD v ≤ 20 → ReadsV (RecP n).json_parser_value v d
  | 0, v, n, hm, _, _, _, _, _, _ => by have := deepD_eq v; omega
  | m + 1, v, n, hdm, hn, hb, hmay, hfull, d, hd => by
    intro u k b r hu hbl hr h
    obtain ⟨n', rfl⟩ : ∃ n', n = n' + 3 := ⟨n - 3, by omega⟩
    have hde := deepD_eq v
    have hbe := bulkD_eq v
    have hlen := len_bulkL v.L
    have hown : ownD v = true := by rw [mayD_eq, Bool.and_eq_true] at hmay; exact hmay.1
    have hmL : mayL v.L = true := by rw [mayD_eq, Bool.and_eq_true] at hmay; exact hmay.2
    have hfu := hfull
    rw [fullD_eq, Bool.and_eq_true] at hfu
    have h0 : (v.Kind == 0) = false := by simpa using hfu.1
    have hL : ∀ x ∈ v.L, ReadsV (RecP n').json_parser_value x (d + 1) := fun x hx => by
      have h1 := mem_deepL hx
      have h2 := mem_bulkL hx
      exact value_n m x n' (by omega) (by omega) (by omega) (mayL_mem hmL hx) (fullL_mem hfu.2 hx) (d + 1) (by omega)
    have hK : ∀ x ∈ v.L, (x.Kind == 0) = false := fun x hx => by
      have := fullL_mem hfu.2 hx
      rw [fullD_eq, Bool.and_eq_true] at this
      simpa using this.1
    have hH : ∀ x ∈ v.L, ∃ n t, wN x = n :: t ∧ n ∈ starts := fun x hx => wN_head x (by have := mayL_mem hmL hx; rw [mayD_eq, Bool.and_eq_true] at this; exact this.1) (hK x hx)
    obtain ⟨c, t, hct, hcs⟩ := wN_head v hown h0
    have hst : (RecP (n' + 3)).json_parser_value (px u k d) = valT (RecP (n' + 2)) (c : Int) (px u (k + b.length) d) := value_start hu hbl hcs (by omega) (t := t ++ r) (by rw [hct] at h; exact h)
    rw [hst]
    have hat : At u (k + b.length) (wN v ++ r) := h.skip
    rcases kinds v hown h0 with e | e | e | ⟨e, g1, g2⟩ | ⟨e, g1⟩ | e | ⟨e, g1⟩
    · have ew : wN v = [110, 117, 108, 108] := by rw [e]; rfl
      rw [ew] at hct hat ⊢
      cases hct
      unfold valT
      rw [show (((110 : Nat) : Int) == 110) = true from rfl]
      simp only [if_true]
      rw [need_eq [110, 117, 108, 108] hu (by simp) hat, e]
      rfl
    · have ew : wN v = [102, 97, 108, 115, 101] := by rw [e]; rfl
      rw [ew] at hct hat ⊢
      cases hct
      unfold valT
      rw [show (((102 : Nat) : Int) == 110) = false from rfl, show (((102 : Nat) : Int) == 116) = false from rfl, show (((102 : Nat) : Int) == 102) = true from rfl]
      simp only [Bool.false_eq_true, if_false, if_true]
      rw [need_eq [102, 97, 108, 115, 101] hu (by simp) hat, e]
      rfl
    · have ew : wN v = [116, 114, 117, 101] := by rw [e]; rfl
      rw [ew] at hct hat ⊢
      cases hct
      unfold valT
      rw [show (((116 : Nat) : Int) == 110) = false from rfl, show (((116 : Nat) : Int) == 116) = true from rfl]
      simp only [Bool.false_eq_true, if_false, if_true]
      rw [need_eq [116, 114, 117, 101] hu (by simp) hat, e]
      rfl
    · have es : scalarT v = Lib.itoa v.N := by unfold scalarT; rw [e]; rfl
      have ew : wN v = (Lib.itoa v.N).map (·.toNat) := by rw [wN_scalar v (by rw [e]; simp), es]
      rw [ew] at hct hat ⊢
      obtain ⟨c', t', e1, e2⟩ := itoa_head v.N
      rw [e1] at hct
      cases hct
      obtain ⟨_, n1, n2, n3, n4, n5, n6⟩ := start_num _ e2
      have q1 : (((c'.toNat : Nat) : Int) == 110) = false := by rw [beq_eq_false_iff_ne]; omega
      have q2 : (((c'.toNat : Nat) : Int) == 116) = false := by rw [beq_eq_false_iff_ne]; omega
      have q3 : (((c'.toNat : Nat) : Int) == 102) = false := by rw [beq_eq_false_iff_ne]; omega
      have q4 : (((c'.toNat : Nat) : Int) == 34) = false := by rw [beq_eq_false_iff_ne]; omega
      have q5 : (((c'.toNat : Nat) : Int) == 91) = false := by rw [beq_eq_false_iff_ne]; omega
      have q6 : (((c'.toNat : Nat) : Int) == 123) = false := by rw [beq_eq_false_iff_ne]; omega
      unfold valT
      simp only [q1, q2, q3, q4, q5, q6, Bool.false_eq_true, if_false]
      rw [number_eq hu hr g1 g2 hat]
      simp only [Option.bind_some]
      rw [List.length_map, ← e]
    · have ew := wN_str v (by rw [e])
      have hqc : c = 34 := by rw [ew, quoteU_eq] at hct; cases hct; rfl
      subst hqc
      rw [ew] at hat ⊢
      unfold valT
      rw [show (((34 : Nat) : Int) == 110) = false from rfl, show (((34 : Nat) : Int) == 116) = false from rfl, show (((34 : Nat) : Int) == 102) = false from rfl, show (((34 : Nat) : Int) == 34) = true from rfl]
      simp only [Bool.false_eq_true, if_false, if_true]
      rw [pstr_eq hu (by unfold evenP at g1; simpa using g1) (by omega) hat]
      simp only [Option.bind_some]
      rw [← e]
    · have ew := wN_list v (by rw [e])
      have hqc : c = 91 := by rw [ew] at hct; cases hct; rfl
      subst hqc
      rw [ew, List.cons_append, List.append_assoc] at hat
      unfold valT
      rw [show (((91 : Nat) : Int) == 110) = false from rfl, show (((91 : Nat) : Int) == 116) = false from rfl, show (((91 : Nat) : Int) == 102) = false from rfl, show (((91 : Nat) : Int) == 34) = false from rfl, show (((91 : Nat) : Int) == 91) = true from rfl]
      simp only [Bool.false_eq_true, if_false, if_true]
      have hrows : (RecP (n' + 2)).json_parser_rows 93 (px u (k + b.length) d) 5 0 [] [] [] = rowsTop (elem_p (RecP n')) 93 (px u (k + b.length) d) 5 0 [] [] [] := rows_b_eq _ _ _ _ _ _ _ _
      rw [hrows, list_top hu (by omega) hL hH (by omega) hat]
      simp only [Option.bind_some]
      rw [← e, ew]
      simp only [List.length_cons, List.length_append, List.length_nil]
      rw [show k + b.length + 1 + (unitsL (listW true v.L)).length + 1 = k + b.length + ((unitsL (listW true v.L)).length + (0 + 1) + 1) by omega]
    · have ew := wN_rec v (by rw [e])
      have hqc : c = 123 := by rw [ew] at hct; cases hct; rfl
      subst hqc
      rw [ew, List.cons_append, List.append_assoc] at hat
      unfold valT
      rw [show (((123 : Nat) : Int) == 110) = false from rfl, show (((123 : Nat) : Int) == 116) = false from rfl, show (((123 : Nat) : Int) == 102) = false from rfl, show (((123 : Nat) : Int) == 34) = false from rfl, show (((123 : Nat) : Int) == 91) = false from rfl, show (((123 : Nat) : Int) == 123) = true from rfl]
      simp only [Bool.false_eq_true, if_false, if_true]
      unfold keysP at g1
      rw [Bool.and_eq_true, Bool.and_eq_true] at g1
      obtain ⟨⟨k1, k2⟩, k3⟩ := g1
      have hrows : (RecP (n' + 2)).json_parser_rows_v2 125 (px u (k + b.length) d) 6 0 [] [] [] = rowsTop (memb_p (RecP n')) 125 (px u (k + b.length) d) 6 0 [] [] [] := rows2_b_eq _ _ _ _ _ _ _ _
      rw [hrows, rec_top hu (by omega) hL hK (by simpa using k3) (fun q hq => ⟨by rw [List.all_eq_true] at k1; exact k1 q hq, by have := mem_sum1 hq; omega⟩) (by simpa using k2) (by omega) hat]
      simp only [Option.bind_some]
      rw [← e, ew]
      simp only [List.length_cons, List.length_append, List.length_nil]
      rw [show k + b.length + 1 + (unitsL (recW true v.Keys v.L)).length + 1 = k + b.length + ((unitsL (recW true v.Keys v.L)).length + (0 + 1) + 1) by omega]
end Go.D13


/- Chapter 13, plainly: JsonBack's law. -/
namespace Go.D13
open Go Go.Gw Go.Dn
set_option linter.unusedSimpArgs false
set_option linter.unusedVariables false
set_option maxRecDepth 100000

def blankB (s : Str) : Prop := ∀ c ∈ s, blankN c.toNat = true
theorem parse_back (v : Data) (s e : Str) (hs : blankB s) (he : blankB e) (hsl : s.length ≤ 1000) (hel : e.length ≤ 1000) (hm : mayD v = true) (hf : fullD v = true) (hd : deepD v ≤ 20) (hb : bulkD v ≤ 1048576) (hw : (writeD v).length ≤ 100000000) :
    json_Parse (plainU s ++ (writeD v ++ plainU e)) = some (v, 0, ()) := by
  have hev := writeD_even v
  have hul : (plainU s ++ (writeD v ++ plainU e)).length = 2 * s.length + ((writeD v).length + 2 * e.length) := by simp only [List.length_append, plainU_length]
  generalize hu : plainU s ++ (writeD v ++ plainU e) = u at hul
  have hul2 : u.length ≤ 1000000000 := by omega
  have hun : unitsL u = s.map (·.toNat) ++ (wN v ++ e.map (·.toNat)) := by
    rw [← hu, unitsL_append _ _ (plainU_even _), unitsL_append _ _ hev, unitsL_plainU, unitsL_plainU]
    rfl
  have h0 : At u 0 (s.map (·.toNat) ++ (wN v ++ e.map (·.toNat))) := by unfold At; rw [hun]; rfl
  have hbl : ∀ t : Str, blankB t → ∀ n ∈ t.map (·.toNat), blankN n = true := fun t ht n hn => by
    obtain ⟨c, hc, rfl⟩ := List.mem_map.1 hn
    exact ht c hc
  have hnd : ndig (e.map (·.toNat)) := by
    cases e with
    | nil => trivial
    | cons c t =>
      have := he c List.mem_cons_self
      unfold blankN at this
      simp only [Bool.or_eq_true, beq_iff_eq] at this
      show c.toNat < 48 ∨ 57 < c.toNat
      omega
  have hread := value_n 20 v 1000000000000 hd (by omega) hb hm hf 0 (by omega) u 0 (s.map (·.toNat)) (e.map (·.toNat)) hul2 (hbl s hs) hnd h0
  have hend : At u (0 + (s.map (·.toNat)).length + (wN v).length) (e.map (·.toNat) ++ []) := by rw [List.append_nil]; exact At.skip (At.skip h0)
  rw [parse_over]
  unfold ParseOver
  rw [units_Check_eq u (by omega)]
  have heu : evenP u = true := by unfold evenP; rw [beq_iff_eq]; omega
  simp only [heu, Option.bind_some, Bool.not_true, Bool.false_eq_true, if_false]
  rw [show (RecP Lp.big).json_parser_value ⟨u, 0, 0⟩ = _ from hread]
  simp only [Option.bind_some]
  rw [blanks_eq hul2 (hbl e he) rfl hend]
  rfl
theorem same_keys {g : Rec_credenzaref03_Same} (v : Data) (hl : v.L.length ≤ 1000000000) (hk : v.Keys.length ≤ 1000000000) (hx : ∀ x ∈ v.L, g.credenzaref03_Same x x = some (true, ())) : Lp.loop (credenzaref03_Same_l1 g) (((v.Keys.length : Nat) : Int), 0, v, v, ()) = some (true, ()) := by
  have h2 := loop_all (step := credenzaref03_Same_l2 g) (fun (_ : Unit) i => (((v.L.length : Nat) : Int), (i : Int), v, v, ())) v.L (fun a _ => .inl a) (fun _ => (true, ())) (fun _ _ => True) () (by omega) trivial
    (fun i x t a ht _ => by
      obtain ⟨h1, h2, h3⟩ := getI_drop ht
      have hi : ((i : Int) < ((v.L.length : Nat) : Int)) := by omega
      refine ⟨?_, trivial⟩
      simp only [credenzaref03_Same_l2, hi, decide_true, if_true, h1, Option.bind_some, re25_eq, hx x h3, Bool.not_true, Bool.false_eq_true, if_false]
      rw [wrap1 (by omega)])
    (fun a _ => by
      have hi : ¬ (((v.L.length : Nat) : Int) < ((v.L.length : Nat) : Int)) := by omega
      simp only [credenzaref03_Same_l2, hi, decide_false, Bool.false_eq_true, if_false])
  have f2 : ∀ t : List Data, foldE (fun (a : Unit) (_ : Data) => (.inl a : Unit ⊕ (Bool × Unit))) (fun _ => (true, ())) () t = (true, ()) := by
    intro t
    induction t with
    | nil => rfl
    | cons x t ih => rw [foldE_inl rfl, ih]
  rw [f2] at h2
  have h1 := loop_all (step := credenzaref03_Same_l1 g) (fun (_ : Unit) i => (((v.Keys.length : Nat) : Int), (i : Int), v, v, ())) v.Keys (fun a _ => .inl a) (fun _ => (true, ())) (fun _ _ => True) () (by omega) trivial
    (fun i x t a ht _ => by
      obtain ⟨h1, h2, h3⟩ := getI_drop ht
      have hi : ((i : Int) < ((v.Keys.length : Nat) : Int)) := by omega
      refine ⟨?_, trivial⟩
      simp only [credenzaref03_Same_l1, hi, decide_true, if_true, h1, Option.bind_some, re25_eq, beq_self_eq_true, Bool.not_true, Bool.false_eq_true, if_false]
      rw [wrap1 (by omega)])
    (fun a _ => by
      have hi : ¬ (((v.Keys.length : Nat) : Int) < ((v.Keys.length : Nat) : Int)) := by omega
      simp only [credenzaref03_Same_l1, hi, decide_false, Bool.false_eq_true, if_false, re25_eq]
      rw [show Lp.loop (credenzaref03_Same_l2 g) (((v.L.length : Nat) : Int), 0, v, v, ()) = _ from h2]
      rfl)
  refine (show Lp.loop (credenzaref03_Same_l1 g) (((v.Keys.length : Nat) : Int), 0, v, v, ()) = _ from h1).trans ?_
  have f1 : ∀ t : List Str, foldE (fun (a : Unit) (_ : Str) => (.inl a : Unit ⊕ (Bool × Unit))) (fun _ => (true, ())) () t = (true, ()) := by
    intro t
    induction t with
    | nil => rfl
    | cons x t ih => rw [foldE_inl rfl, ih]
  rw [f1]
theorem same_n : ∀ (n : Nat) (v : Data), deepD v ≤ n → bulkD v ≤ 1048576 → (Rec_credenzaref03_Same_g n).credenzaref03_Same v v = some (true, ())
  | 0, v, h, _ => by have := deepD_eq v; omega
  | n + 1, v, h, hb => by
    have hde := deepD_eq v
    have hbe := bulkD_eq v
    have hlen := len_bulkL v.L
    have hkl := len_sum1 v.Keys
    show credenzaref03_Same_b (Rec_credenzaref03_Same_g n) v v = _
    unfold credenzaref03_Same_b
    simp only [bne_self_eq_false, beq_self_eq_true, Bool.not_true, Bool.or_self, Bool.false_eq_true, if_false, re25_eq]
    exact same_keys v (by omega) (by omega) (fun x hx => same_n n x (by have := mem_deepL hx; omega) (by have := mem_bulkL hx; omega))
theorem same_refl (v : Data) (hb : bulkD v ≤ 1048576) : credenzaref03_Same v v = some (true, ()) := same_n 1000000000000 v (by have := deep_bulk v; omega) hb
def undF (a : Unit) (x : Data) : Unit ⊕ (Bool × Unit) := if fullD x then .inl () else .inr (true, ())
theorem und_fold : ∀ t : List Data, foldE undF (fun _ => (false, ())) () t = (!fullL t, ())
  | [] => by simp [foldE, fullL]
  | x :: t => by
    simp only [fullL]
    cases hx : fullD x with
    | true => rw [foldE_inl (a' := ()) (by unfold undF; rw [hx]; rfl), und_fold t]; simp
    | false => rw [foldE_inr (e := (true, ())) (by unfold undF; rw [hx]; rfl)]; simp
theorem undef_n : ∀ (n : Nat) (v : Data), deepD v ≤ n → bulkD v ≤ 1048576 → (Rec_credenzalaw13_undef_g n).credenzalaw13_undef v = some (!fullD v, ())
  | 0, v, h, _ => by have := deepD_eq v; omega
  | n + 1, v, h, hb => by
    have hde := deepD_eq v
    have hbe := bulkD_eq v
    have hlen := len_bulkL v.L
    show credenzalaw13_undef_b (Rec_credenzalaw13_undef_g n) v = _
    unfold credenzalaw13_undef_b
    rw [fullD_eq]
    by_cases h0 : (v.Kind == 0) = true
    · simp [h0]
    have h0' : (v.Kind == 0) = false := by simpa using h0
    simp only [h0', Bool.false_eq_true, if_false, Bool.not_false, Bool.true_and]
    have h2 := loop_all (step := credenzalaw13_undef_l1 (Rec_credenzalaw13_undef_g n)) (fun (_ : Unit) i => (v.L, ((v.L.length : Nat) : Int), (i : Int), ())) v.L undF (fun _ => (false, ())) (fun _ _ => True) () (by omega) trivial
      (fun i x t a ht _ => by
        obtain ⟨h1, h2, h3⟩ := getI_drop ht
        have hi : ((i : Int) < ((v.L.length : Nat) : Int)) := by omega
        have ih := undef_n n x (by have := mem_deepL h3; omega) (by have := mem_bulkL h3; omega)
        unfold undF
        cases hf : fullD x with
        | true =>
          rw [hf] at ih
          simp only [if_true]
          refine ⟨?_, trivial⟩
          simp only [credenzalaw13_undef_l1, hi, decide_true, if_true, h1, Option.bind_some, re25_eq, ih, Bool.not_true, Bool.false_eq_true, if_false]
          rw [wrap1 (by omega)]
        | false =>
          rw [hf] at ih
          simp only [Bool.false_eq_true, if_false]
          simp only [credenzalaw13_undef_l1, hi, decide_true, if_true, h1, Option.bind_some, re25_eq, ih, Bool.not_false])
      (fun a _ => by
        have hi : ¬ (((v.L.length : Nat) : Int) < ((v.L.length : Nat) : Int)) := by omega
        simp only [credenzalaw13_undef_l1, hi, decide_false, Bool.false_eq_true, if_false])
    refine (show Lp.loop (credenzalaw13_undef_l1 (Rec_credenzalaw13_undef_g n)) (v.L, ((v.L.length : Nat) : Int), 0, ()) = _ from h2).trans ?_
    rw [und_fold]
theorem undef_eq (v : Data) (hb : bulkD v ≤ 1048576) : credenzalaw13_undef v = some (!fullD v, ()) := undef_n 1000000000000 v (by have := deep_bulk v; omega) hb
theorem back_law (v : Data) (hb : bulkD v ≤ 1048576) (ho : okD v) : credenzalaw13_JsonBack v = some (true, ()) := by
  unfold credenzalaw13_JsonBack
  simp only [re25_eq]
  rw [live_true]
  simp only [Option.bind_some]
  rw [json_Write_eq v hb ho]
  simp only [Option.bind_some]
  cases he : ((WriteP v).2 != 0) with
  | true => simp
  | false =>
    simp only [Bool.false_eq_true, if_false]
    rw [undef_eq v hb]
    simp only [Option.bind_some]
    cases hf : fullD v with
    | false => simp
    | true =>
      simp only [Bool.not_true, Bool.false_eq_true, if_false]
      have he' : (WriteP v).2 = 0 := by simpa using he
      have hc : checkP v = 0 := by
        rcases Decidable.em (checkP v = 0) with h | h
        · exact h
        · unfold WriteP at he'; rw [if_pos h] at he'; exact absurd he' h
      have hk : (v.Kind == 0) = false := by
        rw [fullD_eq, Bool.and_eq_true] at hf
        simpa using hf.1
      have hlen : ¬ 8192 < (writeD v).length := by
        intro h
        unfold WriteP at he'
        rw [if_neg (by simp [hc]), hk] at he'
        simp [h] at he'
      have hw1 : (WriteP v).1 = writeD v := by
        unfold WriteP
        rw [if_neg (by simp [hc]), hk]
        simp [hlen]
      rw [hw1]
      obtain ⟨hm, hd⟩ := check_may hc
      have hB1 : blankB [32, 10] := by unfold blankB; decide
      have hB2 : blankB [9, 32] := by unfold blankB; decide
      have p1 := parse_back v [] [] (fun _ h => by cases h) (fun _ h => by cases h) (by simp) (by simp) hm hf hd hb (by omega)
      have p2 := parse_back v [32, 10] [9, 32] hB1 hB2 (by simp) (by simp) hm hf hd hb (by omega)
      rw [show plainU [] ++ (writeD v ++ plainU []) = writeD v from by simp [plainU]] at p1
      rw [p1, u_ok [32, 10] (by decide) (by simp), u_ok [9, 32] (by decide) (by simp)]
      simp only [Option.bind_some]
      rw [catS_ok (by simp only [plainU_length, List.length_cons, List.length_nil]; omega)]
      simp only [Option.bind_some]
      rw [catS_ok (by simp only [plainU_length, List.length_append, List.length_cons, List.length_nil]; omega)]
      simp only [Option.bind_some]
      rw [List.append_assoc, p2]
      simp only [Option.bind_some]
      rw [show (((true && (0 : Int) == 0)) && (0 : Int) == 0) = true from rfl]
      simp only [if_true]
      rw [same_refl v hb]
      simp
end Go.D13

