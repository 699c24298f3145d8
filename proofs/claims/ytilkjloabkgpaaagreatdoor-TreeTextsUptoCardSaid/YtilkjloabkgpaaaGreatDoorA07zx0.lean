/- Texts for the statements of this seat. -/
import Derived.Test.YtilkjloabkgpaaaGreatDoorT07z
import Derived.Test.YtilkjloabkgpaaaGreatDoorShelf07z
import Derived.Test.YtilkjloabkgpaaaGreatDoorFmt07z
import Derived.Test.YtilkjloabkgpaaaGreatDoorIns07z
import Derived.Lib.AppendIntMem
set_option linter.unusedVariables false
set_option linter.unusedSimpArgs false
set_option linter.unnecessarySimpa false
namespace Go.D07
open Go Go.Gw Go.Dn Go.RowKit Go.Proofs
set_option maxRecDepth 100000
set_option linter.unusedVariables false
variable [Lp]
noncomputable section
set_option linter.unusedSectionVars false
structure Glob (F : Heap) : Prop where
  maxLen : ∃ m, cellF F 0 0 (.int .i64 m)
  bit4 : cellF F 3 15 (.int .u8 4)
  tab10 : ∀ w : World, F.Sub w → Lib.TabIs Tryz.prog w "internal/strconv.uint64pow10" .u64 Lib.pow10Tab
theorem Glob.mono {F F' : Heap} (h : Glob F) (hle : F.Le F') : Glob F' := ⟨h.maxLen.imp fun _ e => cellF_mono hle e, cellF_mono hle h.bit4, fun w hs => h.tab10 w ⟨fun x o e => hs.out x o (hle.out x o e)⟩⟩
theorem strs_in {F : Heap} {w : World} {xs : List Str} {u : Value} (r : Rel Y F [] (.sl 9 xs) u) (hv : F.Sub w) : ∃ A c, u = .slice A xs.length c ∧ xs.length ≤ c ∧
    (xs = [] ∨ ∃ b o, A = some ⟨b, o, none⟩ ∧ b < w.heap.size ∧ ∀ (i : Nat) (x : Str), xs[i]? = some x → w.cell? ⟨b, o + i, none⟩ = some (.string ⟨⟨x⟩⟩)) := by
  have h : ∀ (A : AV Y.T) (u : Value), Rel Y F [] A u → ∀ ys : List (Y.T 9), A = .sl 9 ys → ∃ A c, u = .slice A ys.length c ∧ ys.length ≤ c ∧
    (ys = [] ∨ ∃ b o, A = some ⟨b, o, none⟩ ∧ b < w.heap.size ∧ ∀ (i : Nat) (x : Str), ys[i]? = some x → w.cell? ⟨b, o + i, none⟩ = some (.string ⟨⟨x⟩⟩)) := by
    intro A u r ys hA
    subst hA
    cases r with
    | @sl _ _ A c b off vs hc hA hvs hh =>
      refine ⟨A, c, rfl, hc, ?_⟩
      have cell : ∀ (i : Nat) (x : Str), ys[i]? = some x → cellF F b (off + i) (.string ⟨⟨x⟩⟩) := fun i x hx => by
        have h1 : (vs i).length = 1 := (hvs i x hx).1
        have h2 : (vs i)[0]? = some ((vs i)[0]'(by omega)) := List.getElem?_eq_getElem _
        have h3 := (hvs i x hx).2 0 _ h2
        have h4 := (hh i x 0 (.v (.string ⟨⟨x⟩⟩)) _ hx rfl h2).v_inv
        rw [h4] at h3
        have e : off + i * Y.sz 9 + 0 = off + i := by show off + i * 1 + 0 = off + i; omega
        rw [e] at h3; exact h3
      cases hys : ys with
      | nil => exact .inl rfl
      | cons x0 r0 =>
        right
        rw [← hys]
        obtain ⟨_, _, _, hF, _⟩ := cell 0 x0 (by rw [hys]; rfl)
        exact ⟨b, off, hA 0 x0 (by rw [hys]; rfl), hv.lt hF, fun i x hx => cellF_read hv (cell i x hx)⟩
  exact h _ u r xs rfl
def tree_statement (n : T_api_Node) : Option (T_tree_form × Bool × Unit) :=
  if (n.Kind == 22) = true then
   some ((⟨([] : Str), 0, false, false, ([100, 42, 100] : Str)⟩ : T_tree_form), true, ())
  else
   if (n.Kind == 23) = true then
    let n_1 := (if 1 < ((n.L.length : Nat) : Int) then 1 else ((n.L.length : Nat) : Int))
    Option.bind (cutL ([101] : Str) 0 n_1) fun s_2 =>
    some ((⟨([110] : Str), 0, false, false, s_2⟩ : T_tree_form), true, ())
   else
    if (n.Kind == 24) = true then
     some ((⟨([] : Str), 0, false, false, ([101] : Str)⟩ : T_tree_form), true, ())
    else
     if (n.Kind == 34) = true then
      some ((⟨([] : Str), 0, false, false, ([101] : Str)⟩ : T_tree_form), true, ())
     else
      if (n.Kind == 25) = true then
       some ((⟨([] : Str), 0, false, false, ([42, 115] : Str)⟩ : T_tree_form), true, ())
      else
       if (n.Kind == 26) = true then
        let n_3 := (if 2 > ((n.L.length : Nat) : Int) then 2 else ((n.L.length : Nat) : Int))
        let n_4 := (if 3 < n_3 then 3 else n_3)
        Option.bind (cutL ([101, 98, 98] : Str) 0 n_4) fun s_5 =>
        some ((⟨([] : Str), 0, false, false, s_5⟩ : T_tree_form), true, ())
       else
        if (n.Kind == 27) = true then
         some ((⟨([] : Str), 0, false, false, ([101, 98] : Str)⟩ : T_tree_form), true, ())
        else
         if (n.Kind == 28) = true then
          some ((⟨([] : Str), 0, false, false, ([98, 101] : Str)⟩ : T_tree_form), true, ())
         else
          if (n.Kind == 29) = true then
           some ((⟨([] : Str), 0, false, false, ([118, 102, 102, 98] : Str)⟩ : T_tree_form), true, ())
          else
           if (n.Kind == 30) = true then
            some ((⟨([] : Str), 0, false, false, ([119, 101, 98] : Str)⟩ : T_tree_form), true, ())
           else
            if (n.Kind == 31) = true then
             some ((⟨([109] : Str), 0, false, false, ([] : Str)⟩ : T_tree_form), true, ())
            else
             if (n.Kind == 32) = true then
              some ((⟨([109] : Str), 0, false, false, ([] : Str)⟩ : T_tree_form), true, ())
             else
              if (n.Kind == 33) = true then
               let n_6 := (if 1 < ((n.L.length : Nat) : Int) then 1 else ((n.L.length : Nat) : Int))
               Option.bind (cutL ([101] : Str) 0 n_6) fun s_7 =>
               some ((⟨([] : Str), 0, false, false, s_7⟩ : T_tree_form), true, ())
              else
               if (n.Kind == 35) = true then
                some ((⟨([99] : Str), 0, false, false, ([98, 99, 99] : Str)⟩ : T_tree_form), true, ())
               else
                if (n.Kind == 36) = true then
                 some ((⟨([] : Str), 0, false, false, ([101, 42, 107] : Str)⟩ : T_tree_form), true, ())
                else
                 if (n.Kind == 37) = true then
                  some ((⟨([] : Str), 0, false, false, ([102, 42, 115] : Str)⟩ : T_tree_form), true, ())
                 else
                  if (n.Kind == 38) = true then
                   some ((⟨([110] : Str), 0, false, false, ([115] : Str)⟩ : T_tree_form), true, ())
                  else
                   if (n.Kind == 39) = true then
                    some ((⟨([110] : Str), 0, false, true, ([42, 120] : Str)⟩ : T_tree_form), true, ())
                   else
                    if (n.Kind == 41) = true then
                     some ((⟨([] : Str), 0, false, false, ([42, 120] : Str)⟩ : T_tree_form), true, ())
                    else
                     some ((⟨([] : Str), 0, false, false, ([] : Str)⟩ : T_tree_form), false, ())
def tree_statement_s : Shape := ⟨[(0, .st 25)], []⟩
def tree_statement_o : List OutP := [⟨false, .tup [.st 46, .bool], []⟩]
def tree_statement_c : Dn.Callee Y := callee Y [] tree_statement_s tree_statement_o (fun z => tree_statement z.1)
def tree_statement_k : Cuts Y (ParO Y tree_statement_o) := .nil
theorem tree_statement_ok : COk hY Tryz.prog Glob 43 (tree_statement_c) :=
  fn_ok (body := (Tryz.f43.body).getD .skip) (T := []) (tree_statement_k) Tryz.func43 (by kernel_rfl) ⟨⟨_, Tryz.func43, by kernel_rfl, rfl⟩⟩ hsz .nil (fun _ _ hle h => h.mono hle) (by kernel_rfl)
    trivial
    (fun z => by kernel_rfl)
def tree_of_j1 (x_2 : T_tree_form) : Option (T_tree_form × Bool × Unit) :=
  some ((re46 x_2), true, ())
def tree_of (n : T_api_Node) : Option (T_tree_form × Bool × Unit) :=
  if (n.Kind == 1) = true then
   tree_of_j1 (⟨([] : Str), 9007199254740991, false, false, ([] : Str)⟩ : T_tree_form)
  else
   if (n.Kind == 2) = true then
    tree_of_j1 (⟨([] : Str), 0, true, false, ([] : Str)⟩ : T_tree_form)
   else
    if (n.Kind == 3) = true then
     tree_of_j1 (⟨([110] : Str), 0, false, false, ([] : Str)⟩ : T_tree_form)
    else
     if (n.Kind == 4) = true then
      tree_of_j1 (⟨([] : Str), 0, false, false, ([] : Str)⟩ : T_tree_form)
     else
      if (n.Kind == 5) = true then
       tree_of_j1 (⟨([] : Str), 0, false, false, ([] : Str)⟩ : T_tree_form)
      else
       if (n.Kind == 40) = true then
        tree_of_j1 (⟨([] : Str), 0, false, false, ([] : Str)⟩ : T_tree_form)
       else
        if (n.Kind == 42) = true then
         tree_of_j1 (⟨([] : Str), 0, false, false, ([] : Str)⟩ : T_tree_form)
        else
         if (n.Kind == 6) = true then
          tree_of_j1 (⟨([] : Str), 1, false, false, ([] : Str)⟩ : T_tree_form)
         else
          if (n.Kind == 7) = true then
           tree_of_j1 (⟨([] : Str), 0, false, false, ([42, 101] : Str)⟩ : T_tree_form)
          else
           if (n.Kind == 8) = true then
            tree_of_j1 (⟨([] : Str), 0, false, false, ([42, 112] : Str)⟩ : T_tree_form)
           else
            if (n.Kind == 9) = true then
             tree_of_j1 (⟨([] : Str), 0, true, false, ([101] : Str)⟩ : T_tree_form)
            else
             if (n.Kind == 10) = true then
              tree_of_j1 (⟨([109] : Str), 0, false, true, ([42, 120] : Str)⟩ : T_tree_form)
             else
              if (n.Kind == 11) = true then
               tree_of_j1 (⟨([105] : Str), 0, false, false, ([101] : Str)⟩ : T_tree_form)
              else
               if (n.Kind == 12) = true then
                tree_of_j1 (⟨([] : Str), 0, false, false, ([101, 101] : Str)⟩ : T_tree_form)
               else
                if (n.Kind == 21) = true then
                 tree_of_j1 (⟨([] : Str), 0, false, false, ([101, 101] : Str)⟩ : T_tree_form)
                else
                 if (n.Kind == 13) = true then
                  tree_of_j1 (⟨([] : Str), 0, false, false, ([101, 42, 101] : Str)⟩ : T_tree_form)
                 else
                  if (n.Kind == 14) = true then
                   tree_of_j1 (⟨([] : Str), 0, false, false, ([101, 42, 101] : Str)⟩ : T_tree_form)
                  else
                   if (n.Kind == 15) = true then
                    tree_of_j1 (⟨([32, 45, 32, 43, 32, 33, 32, 116, 121, 112, 101, 111, 102, 32, 100, 101, 108, 101, 116, 101, 32, 118, 111, 105, 100, 32] : Str), 0, false, false, ([101] : Str)⟩ : T_tree_form)
                   else
                    if (n.Kind == 16) = true then
                     tree_of_j1 (⟨([32, 43, 43, 32, 45, 45, 32] : Str), 1, false, false, ([116] : Str)⟩ : T_tree_form)
                    else
                     if (n.Kind == 17) = true then
                      tree_of_j1 (⟨([32, 43, 32, 45, 32, 42, 32, 47, 32, 37, 32, 60, 32, 62, 32, 60, 61, 32, 62, 61, 32, 61, 61, 32, 33, 61, 32, 61, 61, 61, 32, 33, 61, 61, 32, 105, 110, 32, 105, 110, 115, 116, 97, 110, 99, 101, 111, 102, 32] : Str), 0, false, false, ([101, 101] : Str)⟩ : T_tree_form)
                     else
                      if (n.Kind == 18) = true then
                       tree_of_j1 (⟨([32, 38, 38, 32, 124, 124, 32] : Str), 0, false, false, ([101, 101] : Str)⟩ : T_tree_form)
                      else
                       if (n.Kind == 19) = true then
                        tree_of_j1 (⟨([] : Str), 0, false, false, ([101, 101, 101] : Str)⟩ : T_tree_form)
                       else
                        if (n.Kind == 20) = true then
                         tree_of_j1 (⟨([32, 61, 32, 43, 61, 32, 45, 61, 32, 42, 61, 32, 47, 61, 32, 37, 61, 32] : Str), 0, false, false, ([116, 101] : Str)⟩ : T_tree_form)
                        else
                         Option.bind (tree_statement (re25 n)) fun r_1 =>
                         some ((re46 r_1.1), r_1.2.1, ())
def tree_of_s : Shape := ⟨[(0, .st 25)], []⟩
def tree_of_o : List OutP := [⟨false, .tup [.st 46, .bool], []⟩]
def tree_of_c : Dn.Callee Y := callee Y [] tree_of_s tree_of_o (fun z => tree_of z.1)
def tree_of_k : Cuts Y (ParO Y tree_of_o) := (.join [[1, 2, 2], [2, 2, 2]] ⟨[(2, .ptr 0 0)], [.whole 46 46]⟩ (fun z => tree_of_j1 z.1) .nil)
theorem tree_of_ok : COk hY Tryz.prog Glob 25 (tree_of_c) :=
  fn_ok (body := (Tryz.f25.body).getD .skip) (T := [(43, (tree_statement_c))]) (tree_of_k) Tryz.func25 (by kernel_rfl) ⟨⟨_, Tryz.func25, by kernel_rfl, rfl⟩⟩ hsz ((.cons tree_statement_ok .nil) : TabOk hY Tryz.prog Glob [(43, (tree_statement_c))]) (fun _ _ hle h => h.mono hle) (by kernel_rfl)
    ⟨fun z => by kernel_rfl, trivial⟩
    (fun z => by kernel_rfl)
def token_letter (c : Int) : Option (Bool × Unit) :=
  let n_1 := (IntKind.wrap .u8 ((BitVec.ofInt 8 c ||| BitVec.ofInt 8 32).toNat))
  let b_2 := ((decide (n_1 ≥ 97)) && (decide ((IntKind.wrap .u8 ((BitVec.ofInt 8 c ||| BitVec.ofInt 8 32).toNat)) ≤ 122)))
  let b_3 := ((b_2 || (c == 95)) || (c == 36))
  some (b_3, ())
def token_letter_s : Shape := ⟨[(0, .int .u8)], []⟩
def token_letter_o : List OutP := [⟨false, .bool, []⟩]
def token_letter_c : Dn.Callee Y := callee Y [] token_letter_s token_letter_o (fun z => token_letter z.1)
def token_letter_k : Cuts Y (ParO Y token_letter_o) := .nil
theorem token_letter_ok : COk hY Tryz.prog Glob 78 (token_letter_c) :=
  fn_ok (body := (Tryz.f78.body).getD .skip) (T := []) (token_letter_k) Tryz.func78 (by kernel_rfl) ⟨⟨_, Tryz.func78, by kernel_rfl, rfl⟩⟩ hsz .nil (fun _ _ hle h => h.mono hle) (by kernel_rfl)
    trivial
    (fun z => by kernel_rfl)
def token_digit (c : Int) : Option (Bool × Unit) :=
  let b_1 := ((decide (c ≥ 48)) && (decide (c ≤ 57)))
  some (b_1, ())
def token_digit_s : Shape := ⟨[(0, .int .u8)], []⟩
def token_digit_o : List OutP := [⟨false, .bool, []⟩]
def token_digit_c : Dn.Callee Y := callee Y [] token_digit_s token_digit_o (fun z => token_digit z.1)
def token_digit_k : Cuts Y (ParO Y token_digit_o) := .nil
theorem token_digit_ok : COk hY Tryz.prog Glob 101 (token_digit_c) :=
  fn_ok (body := (Tryz.f101.body).getD .skip) (T := []) (token_digit_k) Tryz.func101 (by kernel_rfl) ⟨⟨_, Tryz.func101, by kernel_rfl, rfl⟩⟩ hsz .nil (fun _ _ hle h => h.mono hle) (by kernel_rfl)
    trivial
    (fun z => by kernel_rfl)
def token_row_l1 : Str × Int × Int × Unit → Option ((Str × Int × Int × Unit) ⊕ (Int × Unit))
  | (s_1, v_2, v_3, ()) =>
    if (decide (v_3 < v_2)) = true then
     Option.bind (getB s_1 v_3) fun c_4 =>
     Option.bind (token_letter c_4) fun r_5 =>
     if (!r_5.1) = true then
      Option.bind (getB s_1 v_3) fun c_6 =>
      Option.bind (token_digit c_6) fun r_7 =>
      if (!r_7.1) = true then
       some (Sum.inr (v_3, ()))
      else
       let n_8 := (IntKind.wrap .i64 (v_3 + 1))
       some (Sum.inl (s_1, v_2, n_8, ()))
     else
      let n_9 := (IntKind.wrap .i64 (v_3 + 1))
      some (Sum.inl (s_1, v_2, n_9, ()))
    else
     some (Sum.inr (((s_1.length : Nat) : Int), ()))
def token_row (s : Str) : Option (Int × Unit) :=
  Lp.loop token_row_l1 (s, ((s.length : Nat) : Int), 0, ())
def token_row_s : Shape := ⟨[(0, .str)], []⟩
def token_row_o : List OutP := [⟨false, .int .i64, []⟩]
def token_row_c : Dn.Callee Y := callee Y [] token_row_s token_row_o (fun z => token_row z.1)
def token_row_k : Cuts Y (ParO Y token_row_o) := (.loop [[7, 5, 2, 1, 2], [8, 5, 2, 1, 2], [6, 2, 1, 2], [2, 2]] ⟨[(0, .str), (5, .int .i64), (6, .int .i64)], []⟩ (token_row_l1) .nil .nil)
theorem token_row_ok : COk hY Tryz.prog Glob 79 (token_row_c) :=
  fn_ok (body := (Tryz.f79.body).getD .skip) (T := [(78, (token_letter_c)), (101, (token_digit_c))]) (token_row_k) Tryz.func79 (by kernel_rfl) ⟨⟨_, Tryz.func79, by kernel_rfl, rfl⟩⟩ hsz ((.cons token_letter_ok (.cons token_digit_ok .nil)) : TabOk hY Tryz.prog Glob [(78, (token_letter_c)), (101, (token_digit_c))]) (fun _ _ hle h => h.mono hle) (by kernel_rfl)
    ⟨fun z => by kernel_rfl, trivial, trivial⟩
    (fun z => by kernel_rfl)
def token_IsIdent (s : Str) : Option (Bool × Unit) :=
  let b_1 := ((!(s == ([] : Str))) && (decide (((s.length : Nat) : Int) ≤ 32)))
  if b_1 = true then
   Option.bind (getB s 0) fun c_2 =>
   Option.bind (token_letter c_2) fun r_3 =>
   if r_3.1 = true then
    Option.bind (token_row s) fun r_4 =>
    let b_5 := (r_4.1 == ((s.length : Nat) : Int))
    some (b_5, ())
   else
    some (false, ())
  else
   some (false, ())
def token_IsIdent_s : Shape := ⟨[(0, .str)], []⟩
def token_IsIdent_o : List OutP := [⟨false, .bool, []⟩]
def token_IsIdent_c : Dn.Callee Y := callee Y [] token_IsIdent_s token_IsIdent_o (fun z => token_IsIdent z.1)
def token_IsIdent_k : Cuts Y (ParO Y token_IsIdent_o) := .nil
theorem token_IsIdent_ok : COk hY Tryz.prog Glob 44 (token_IsIdent_c) :=
  fn_ok (body := (Tryz.f44.body).getD .skip) (T := [(78, (token_letter_c)), (79, (token_row_c))]) (token_IsIdent_k) Tryz.func44 (by kernel_rfl) ⟨⟨_, Tryz.func44, by kernel_rfl, rfl⟩⟩ hsz ((.cons token_letter_ok (.cons token_row_ok .nil)) : TabOk hY Tryz.prog Glob [(78, (token_letter_c)), (79, (token_row_c))]) (fun _ _ hle h => h.mono hle) (by kernel_rfl)
    trivial
    (fun z => by kernel_rfl)
def strings_Contains_x (t : Str) (sub : Str) : Option (Bool) := if t.length < 4294967281 then some (Lib.contains t sub) else none
theorem strings_Contains_x.ok (t : Str) (sub : Str) (r : Bool) (h0 : strings_Contains_x t sub = some r) (w0 : World) (F0 : Heap) (hv : F0.Sub w0) (hG : Glob F0) (hg : SV.goods F0 [.v (.string ⟨⟨t⟩⟩), .v (.string ⟨⟨sub⟩⟩)]) (ρ : Nat → Nat) :
    Calls Tryz.prog 80 (SV.dens ρ [.v (.string ⟨⟨t⟩⟩), .v (.string ⟨⟨sub⟩⟩)]).toArray w0 (Ret0 w0 F0 fun s => s = .v (.bool r)) := by
  unfold strings_Contains_x at h0
  split at h0
  · rename_i hc
    cases h0
    obtain ⟨m, hm⟩ := hG.maxLen
    refine (Tryz.strings_Contains ⟨⟨t⟩⟩ ⟨⟨sub⟩⟩ m w0 hc (cellF_read hv hm)).mono fun e w' h => ?_
    exact Ret0.pure (s := .v _) hv h.1 h.2 trivial rfl rfl
  · cases h0
def strings_Contains (t : Str) (sub : Str) : Option (Bool × Unit) := mapO (fun r => (r, ())) (strings_Contains_x t sub)
def strings_Contains_s : Shape := ⟨[(0, .str), (1, .str)], []⟩
def strings_Contains_o : List OutP := [⟨false, .bool, []⟩]
def strings_Contains_c : Dn.Callee Y := callee Y [] strings_Contains_s strings_Contains_o (fun z => strings_Contains z.1 z.2.1)
theorem strings_Contains_ok : COk hY Tryz.prog Glob 80 strings_Contains_c :=
  COk.ext (l := strings_Contains_s.l) ⟨⟨_, Tryz.func80, by kernel_rfl, rfl⟩⟩ ⟨rfl, rfl⟩ rfl fun z zo h => ⟨_, _, rfl, rfl, fun w F hG hv => by
    obtain ⟨r, hr, rfl⟩ := mapO_some h
    exact strings_Contains_x.ok z.1 z.2.1 r hr w F hv hG (by simp [SV.goods, SV.good]) (fun _ => 0)⟩
def token_among (list : Str) (s : Str) : Option (Bool × Unit) :=
  if (!(s == ([] : Str))) = true then
   Option.bind (strings_Contains s ([32] : Str)) fun r_1 =>
   if (!r_1.1) = true then
    Option.bind (catS ([32] : Str) s) fun s_2 =>
    Option.bind (catS s_2 ([32] : Str)) fun s_3 =>
    Option.bind (strings_Contains list s_3) fun r_4 =>
    some (r_4.1, ())
   else
    some (false, ())
  else
   some (false, ())
def token_among_s : Shape := ⟨[(0, .str), (1, .str)], []⟩
def token_among_o : List OutP := [⟨false, .bool, []⟩]
def token_among_c : Dn.Callee Y := callee Y [] token_among_s token_among_o (fun z => token_among z.1 z.2.1)
def token_among_k : Cuts Y (ParO Y token_among_o) := .nil
theorem token_among_ok : COk hY Tryz.prog Glob 81 (token_among_c) :=
  fn_ok (body := (Tryz.f81.body).getD .skip) (T := [(80, (strings_Contains_c))]) (token_among_k) Tryz.func81 (by kernel_rfl) ⟨⟨_, Tryz.func81, by kernel_rfl, rfl⟩⟩ hsz ((.cons strings_Contains_ok .nil) : TabOk hY Tryz.prog Glob [(80, (strings_Contains_c))]) (fun _ _ hle h => h.mono hle) (by kernel_rfl)
    trivial
    (fun z => by kernel_rfl)
def token_IsWord (s : Str) : Option (Bool × Unit) :=
  Option.bind (token_among ([32, 98, 114, 101, 97, 107, 32, 99, 97, 115, 101, 32, 99, 97, 116, 99, 104, 32, 99, 108, 97, 115, 115, 32, 99, 111, 110, 115, 116, 32, 99, 111, 110, 116, 105, 110, 117, 101, 32, 100, 101, 98, 117, 103, 103, 101, 114, 32, 100, 101, 102, 97, 117, 108, 116, 32, 100, 101, 108, 101, 116, 101, 32, 100, 111, 32, 101, 108, 115, 101, 32, 101, 110, 117, 109, 32, 101, 120, 112, 111, 114, 116, 32, 101, 120, 116, 101, 110, 100, 115, 32, 102, 97, 108, 115, 101, 32, 102, 105, 110, 97, 108, 108, 121, 32, 102, 111, 114, 32, 102, 117, 110, 99, 116, 105, 111, 110, 32, 105, 102, 32, 105, 109, 112, 108, 101, 109, 101, 110, 116, 115, 32, 105, 109, 112, 111, 114, 116, 32, 105, 110, 32, 105, 110, 115, 116, 97, 110, 99, 101, 111, 102, 32, 105, 110, 116, 101, 114, 102, 97, 99, 101, 32, 108, 101, 116, 32, 110, 101, 119, 32, 110, 117, 108, 108, 32, 112, 97, 99, 107, 97, 103, 101, 32, 112, 114, 105, 118, 97, 116, 101, 32, 112, 114, 111, 116, 101, 99, 116, 101, 100, 32, 112, 117, 98, 108, 105, 99, 32, 114, 101, 116, 117, 114, 110, 32, 115, 116, 97, 116, 105, 99, 32, 115, 117, 112, 101, 114, 32, 115, 119, 105, 116, 99, 104, 32, 116, 104, 105, 115, 32, 116, 104, 114, 111, 119, 32, 116, 114, 117, 101, 32, 116, 114, 121, 32, 116, 121, 112, 101, 111, 102, 32, 118, 97, 114, 32, 118, 111, 105, 100, 32, 119, 104, 105, 108, 101, 32, 119, 105, 116, 104, 32, 121, 105, 101, 108, 100, 32] : Str) s) fun r_1 =>
  some (r_1.1, ())
def token_IsWord_s : Shape := ⟨[(0, .str)], []⟩
def token_IsWord_o : List OutP := [⟨false, .bool, []⟩]
def token_IsWord_c : Dn.Callee Y := callee Y [] token_IsWord_s token_IsWord_o (fun z => token_IsWord z.1)
def token_IsWord_k : Cuts Y (ParO Y token_IsWord_o) := .nil
theorem token_IsWord_ok : COk hY Tryz.prog Glob 47 (token_IsWord_c) :=
  fn_ok (body := (Tryz.f47.body).getD .skip) (T := [(81, (token_among_c))]) (token_IsWord_k) Tryz.func47 (by kernel_rfl) ⟨⟨_, Tryz.func47, by kernel_rfl, rfl⟩⟩ hsz ((.cons token_among_ok .nil) : TabOk hY Tryz.prog Glob [(81, (token_among_c))]) (fun _ _ hle h => h.mono hle) (by kernel_rfl)
    trivial
    (fun z => by kernel_rfl)
def tree_isName (s : Str) : Option (Bool × Unit) :=
  Option.bind (token_IsIdent s) fun r_1 =>
  if r_1.1 = true then
   Option.bind (token_IsWord s) fun r_2 =>
   some ((!r_2.1), ())
  else
   some (false, ())
def tree_isName_s : Shape := ⟨[(0, .str)], []⟩
def tree_isName_o : List OutP := [⟨false, .bool, []⟩]
def tree_isName_c : Dn.Callee Y := callee Y [] tree_isName_s tree_isName_o (fun z => tree_isName z.1)
def tree_isName_k : Cuts Y (ParO Y tree_isName_o) := .nil
theorem tree_isName_ok : COk hY Tryz.prog Glob 30 (tree_isName_c) :=
  fn_ok (body := (Tryz.f30.body).getD .skip) (T := [(44, (token_IsIdent_c)), (47, (token_IsWord_c))]) (tree_isName_k) Tryz.func30 (by kernel_rfl) ⟨⟨_, Tryz.func30, by kernel_rfl, rfl⟩⟩ hsz ((.cons token_IsIdent_ok (.cons token_IsWord_ok .nil)) : TabOk hY Tryz.prog Glob [(44, (token_IsIdent_c)), (47, (token_IsWord_c))]) (fun _ _ hle h => h.mono hle) (by kernel_rfl)
    trivial
    (fun z => by kernel_rfl)
def tree_among (list : Str) (s : Str) : Option (Bool × Unit) :=
  if (!(s == ([] : Str))) = true then
   Option.bind (strings_Contains s ([32] : Str)) fun r_1 =>
   if (!r_1.1) = true then
    Option.bind (catS ([32] : Str) s) fun s_2 =>
    Option.bind (catS s_2 ([32] : Str)) fun s_3 =>
    Option.bind (strings_Contains list s_3) fun r_4 =>
    some (r_4.1, ())
   else
    some (false, ())
  else
   some (false, ())
def tree_among_s : Shape := ⟨[(0, .str), (1, .str)], []⟩
def tree_among_o : List OutP := [⟨false, .bool, []⟩]
def tree_among_c : Dn.Callee Y := callee Y [] tree_among_s tree_among_o (fun z => tree_among z.1 z.2.1)
def tree_among_k : Cuts Y (ParO Y tree_among_o) := .nil
theorem tree_among_ok : COk hY Tryz.prog Glob 45 (tree_among_c) :=
  fn_ok (body := (Tryz.f45.body).getD .skip) (T := [(80, (strings_Contains_c))]) (tree_among_k) Tryz.func45 (by kernel_rfl) ⟨⟨_, Tryz.func45, by kernel_rfl, rfl⟩⟩ hsz ((.cons strings_Contains_ok .nil) : TabOk hY Tryz.prog Glob [(80, (strings_Contains_c))]) (fun _ _ hle h => h.mono hle) (by kernel_rfl)
    trivial
    (fun z => by kernel_rfl)
def tree_named (n : T_api_Node) (want : Str) : Option (Bool × Unit) :=
  if (want == ([] : Str)) = true then
   some ((n.Name == ([] : Str)), ())
  else
   if (want == ([110] : Str)) = true then
    Option.bind (tree_isName n.Name) fun r_1 =>
    some (r_1.1, ())
   else
    if (want == ([109] : Str)) = true then
     if (n.Name == ([] : Str)) = true then
      some (true, ())
     else
      Option.bind (tree_isName n.Name) fun r_2 =>
      some (r_2.1, ())
    else
     if (want == ([105] : Str)) = true then
      Option.bind (token_IsIdent n.Name) fun r_3 =>
      some (r_3.1, ())
     else
      if (want == ([99] : Str)) = true then
       let b_4 := (decide (((n.L.length : Nat) : Int) > 1))
       Option.bind (
         if b_4 = true then
          Option.bind (getI n.L 1) fun x_5 =>
          some (x_5.Kind == 25)
         else
          some false) fun b_6 =>
       if b_6 = true then
        Option.bind (tree_isName n.Name) fun r_7 =>
        some (r_7.1, ())
       else
        some ((n.Name == ([] : Str)), ())
      else
       Option.bind (tree_among want n.Name) fun r_8 =>
       some (r_8.1, ())
def tree_named_s : Shape := ⟨[(0, .st 25), (1, .str)], []⟩
def tree_named_o : List OutP := [⟨false, .bool, []⟩]
def tree_named_c : Dn.Callee Y := callee Y [] tree_named_s tree_named_o (fun z => tree_named z.1 z.2.1)
def tree_named_k : Cuts Y (ParO Y tree_named_o) := .nil
theorem tree_named_ok : COk hY Tryz.prog Glob 26 (tree_named_c) :=
  fn_ok (body := (Tryz.f26.body).getD .skip) (T := [(30, (tree_isName_c)), (44, (token_IsIdent_c)), (45, (tree_among_c))]) (tree_named_k) Tryz.func26 (by kernel_rfl) ⟨⟨_, Tryz.func26, by kernel_rfl, rfl⟩⟩ hsz ((.cons tree_isName_ok (.cons token_IsIdent_ok (.cons tree_among_ok .nil))) : TabOk hY Tryz.prog Glob [(30, (tree_isName_c)), (44, (token_IsIdent_c)), (45, (tree_among_c))]) (fun _ _ hle h => h.mono hle) (by kernel_rfl)
    trivial
    (fun z => by kernel_rfl)
def units_Check (u : Str) : Option (Bool × Unit) :=
  let n_1 := (IntKind.wrap .i64 ((BitVec.ofInt 64 ((u.length : Nat) : Int) &&& BitVec.ofInt 64 1).toNat))
  some ((n_1 == 0), ())
def units_Check_s : Shape := ⟨[(0, .str)], []⟩
def units_Check_o : List OutP := [⟨false, .bool, []⟩]
def units_Check_c : Dn.Callee Y := callee Y [] units_Check_s units_Check_o (fun z => units_Check z.1)
def units_Check_k : Cuts Y (ParO Y units_Check_o) := .nil
theorem units_Check_ok : COk hY Tryz.prog Glob 27 (units_Check_c) :=
  fn_ok (body := (Tryz.f27.body).getD .skip) (T := []) (units_Check_k) Tryz.func27 (by kernel_rfl) ⟨⟨_, Tryz.func27, by kernel_rfl, rfl⟩⟩ hsz .nil (fun _ _ hle h => h.mono hle) (by kernel_rfl)
    trivial
    (fun z => by kernel_rfl)
def tree_may_1 (s : Str) : Option (Bool × Unit) :=
  Option.bind (tree_isName s) fun r_1 =>
  some ((!r_1.1), ())
def tree_may_1_s : Shape := ⟨[(0, .str)], []⟩
def tree_may_1_o : List OutP := [⟨false, .bool, []⟩]
def tree_may_1_c : Dn.Callee Y := callee Y [] tree_may_1_s tree_may_1_o (fun z => tree_may_1 z.1)
def tree_may_1_k : Cuts Y (ParO Y tree_may_1_o) := .nil
theorem tree_may_1_ok : COk hY Tryz.prog Glob 29 (tree_may_1_c) :=
  fn_ok (body := (Tryz.f29.body).getD .skip) (T := [(30, (tree_isName_c))]) (tree_may_1_k) Tryz.func29 (by kernel_rfl) ⟨⟨_, Tryz.func29, by kernel_rfl, rfl⟩⟩ hsz ((.cons tree_isName_ok .nil) : TabOk hY Tryz.prog Glob [(30, (tree_isName_c))]) (fun _ _ hle h => h.mono hle) (by kernel_rfl)
    trivial
    (fun z => by kernel_rfl)
def slices_IndexFunc_l1 : (List Str) × Int × Int × Unit → Option (((List Str) × Int × Int × Unit) ⊕ (Int × Unit))
  | (s_1, v_2, v_3, ()) =>
    if (decide (v_3 < v_2)) = true then
     Option.bind (getI s_1 v_3) fun x_4 =>
     Option.bind (tree_may_1 x_4) fun r_5 =>
     if r_5.1 = true then
      some (Sum.inr (v_3, ()))
     else
      let n_6 := (IntKind.wrap .i64 (v_3 + 1))
      some (Sum.inl (s_1, v_2, n_6, ()))
    else
     some (Sum.inr ((-1), ()))
def slices_IndexFunc (s : List Str) : Option (Int × Unit) :=
  Lp.loop slices_IndexFunc_l1 (s, ((s.length : Nat) : Int), 0, ())
def slices_IndexFunc_s : Shape := ⟨[(0, .sl 9), (1, .fn 29 [])], []⟩
def slices_IndexFunc_o : List OutP := [⟨false, .int .i64, []⟩]
def slices_IndexFunc_c : Dn.Callee Y := callee Y [] slices_IndexFunc_s slices_IndexFunc_o (fun z => slices_IndexFunc z.1)
def slices_IndexFunc_k : Cuts Y (ParO Y slices_IndexFunc_o) := (.loop [[7, 5, 2, 1, 2], [8, 5, 2, 1, 2], [6, 2, 1, 2], [2, 2]] ⟨[(0, .sl 9), (1, .fn 29 []), (7, .int .i64), (8, .int .i64)], []⟩ (slices_IndexFunc_l1) .nil .nil)
theorem slices_IndexFunc_ok : COk hY Tryz.prog Glob 46 (slices_IndexFunc_c) :=
  fn_ok (body := (Tryz.f46.body).getD .skip) (T := [(29, (tree_may_1_c))]) (slices_IndexFunc_k) Tryz.func46 (by kernel_rfl) ⟨⟨_, Tryz.func46, by kernel_rfl, rfl⟩⟩ hsz ((.cons tree_may_1_ok .nil) : TabOk hY Tryz.prog Glob [(29, (tree_may_1_c))]) (fun _ _ hle h => h.mono hle) (by kernel_rfl)
    ⟨fun z => by kernel_rfl, trivial, trivial⟩
    (fun z => by kernel_rfl)
def slices_ContainsFunc (s : List Str) : Option (Bool × Unit) :=
  Option.bind (slices_IndexFunc s) fun r_1 =>
  some ((decide (r_1.1 ≥ 0)), ())
def slices_ContainsFunc_s : Shape := ⟨[(0, .sl 9), (1, .fn 29 [])], []⟩
def slices_ContainsFunc_o : List OutP := [⟨false, .bool, []⟩]
def slices_ContainsFunc_c : Dn.Callee Y := callee Y [] slices_ContainsFunc_s slices_ContainsFunc_o (fun z => slices_ContainsFunc z.1)
def slices_ContainsFunc_k : Cuts Y (ParO Y slices_ContainsFunc_o) := .nil
theorem slices_ContainsFunc_ok : COk hY Tryz.prog Glob 28 (slices_ContainsFunc_c) :=
  fn_ok (body := (Tryz.f28.body).getD .skip) (T := [(46, (slices_IndexFunc_c))]) (slices_ContainsFunc_k) Tryz.func28 (by kernel_rfl) ⟨⟨_, Tryz.func28, by kernel_rfl, rfl⟩⟩ hsz ((.cons slices_IndexFunc_ok .nil) : TabOk hY Tryz.prog Glob [(46, (slices_IndexFunc_c))]) (fun _ _ hle h => h.mono hle) (by kernel_rfl)
    trivial
    (fun z => by kernel_rfl)
def stringslite_Index_x (t : Str) (sub : Str) : Option (Int) := if t.length < 4294967281 then some (Lib.index t sub) else none
theorem stringslite_Index_x.ok (t : Str) (sub : Str) (r : Int) (h0 : stringslite_Index_x t sub = some r) (w0 : World) (F0 : Heap) (hv : F0.Sub w0) (hG : Glob F0) (hg : SV.goods F0 [.v (.string ⟨⟨t⟩⟩), .v (.string ⟨⟨sub⟩⟩)]) (ρ : Nat → Nat) :
    Calls Tryz.prog 82 (SV.dens ρ [.v (.string ⟨⟨t⟩⟩), .v (.string ⟨⟨sub⟩⟩)]).toArray w0 (Ret0 w0 F0 fun s => s = .v (.int .i64 r)) := by
  unfold stringslite_Index_x at h0
  split at h0
  · rename_i hc
    cases h0
    obtain ⟨m, hm⟩ := hG.maxLen
    refine (Tryz.stringslite_Index ⟨⟨t⟩⟩ ⟨⟨sub⟩⟩ m w0 hc (cellF_read hv hm)).mono fun e w' h => ?_
    exact Ret0.pure (s := .v _) hv h.1 h.2 trivial rfl rfl
  · cases h0
def stringslite_Index (t : Str) (sub : Str) : Option (Int × Unit) := mapO (fun r => (r, ())) (stringslite_Index_x t sub)
def stringslite_Index_s : Shape := ⟨[(0, .str), (1, .str)], []⟩
def stringslite_Index_o : List OutP := [⟨false, .int .i64, []⟩]
def stringslite_Index_c : Dn.Callee Y := callee Y [] stringslite_Index_s stringslite_Index_o (fun z => stringslite_Index z.1 z.2.1)
theorem stringslite_Index_ok : COk hY Tryz.prog Glob 82 stringslite_Index_c :=
  COk.ext (l := stringslite_Index_s.l) ⟨⟨_, Tryz.func82, by kernel_rfl, rfl⟩⟩ ⟨rfl, rfl⟩ rfl fun z zo h => ⟨_, _, rfl, rfl, fun w F hG hv => by
    obtain ⟨r, hr, rfl⟩ := mapO_some h
    exact stringslite_Index_x.ok z.1 z.2.1 r hr w F hv hG (by simp [SV.goods, SV.good]) (fun _ => 0)⟩
def stringslite_Cut (s : Str) (sep : Str) : Option (Str × Str × Bool × Unit) :=
  Option.bind (stringslite_Index s sep) fun r_1 =>
  if (decide (r_1.1 ≥ 0)) = true then
   Option.bind (cutL s 0 r_1.1) fun s_2 =>
   let n_3 := (IntKind.wrap .i64 (r_1.1 + ((sep.length : Nat) : Int)))
   Option.bind (cutL s n_3 ((s.length : Nat) : Int)) fun s_4 =>
   some (s_2, s_4, true, ())
  else
   some (s, ([] : Str), false, ())
def stringslite_Cut_s : Shape := ⟨[(0, .str), (1, .str)], []⟩
def stringslite_Cut_o : List OutP := [⟨false, .tup [.str, .str, .bool], []⟩]
def stringslite_Cut_c : Dn.Callee Y := callee Y [] stringslite_Cut_s stringslite_Cut_o (fun z => stringslite_Cut z.1 z.2.1)
def stringslite_Cut_k : Cuts Y (ParO Y stringslite_Cut_o) := .nil
theorem stringslite_Cut_ok : COk hY Tryz.prog Glob 48 (stringslite_Cut_c) :=
  fn_ok (body := (Tryz.f48.body).getD .skip) (T := [(82, (stringslite_Index_c))]) (stringslite_Cut_k) Tryz.func48 (by kernel_rfl) ⟨⟨_, Tryz.func48, by kernel_rfl, rfl⟩⟩ hsz ((.cons stringslite_Index_ok .nil) : TabOk hY Tryz.prog Glob [(82, (stringslite_Index_c))]) (fun _ _ hle h => h.mono hle) (by kernel_rfl)
    trivial
    (fun z => by kernel_rfl)
def strings_Cut (s : Str) (sep : Str) : Option (Str × Str × Bool × Unit) :=
  Option.bind (stringslite_Cut s sep) fun r_1 =>
  some (r_1.1, r_1.2.1, r_1.2.2.1, ())
def strings_Cut_s : Shape := ⟨[(0, .str), (1, .str)], []⟩
def strings_Cut_o : List OutP := [⟨false, .tup [.str, .str, .bool], []⟩]
def strings_Cut_c : Dn.Callee Y := callee Y [] strings_Cut_s strings_Cut_o (fun z => strings_Cut z.1 z.2.1)
def strings_Cut_k : Cuts Y (ParO Y strings_Cut_o) := .nil
theorem strings_Cut_ok : COk hY Tryz.prog Glob 31 (strings_Cut_c) :=
  fn_ok (body := (Tryz.f31.body).getD .skip) (T := [(48, (stringslite_Cut_c))]) (strings_Cut_k) Tryz.func31 (by kernel_rfl) ⟨⟨_, Tryz.func31, by kernel_rfl, rfl⟩⟩ hsz ((.cons stringslite_Cut_ok .nil) : TabOk hY Tryz.prog Glob [(48, (stringslite_Cut_c))]) (fun _ _ hle h => h.mono hle) (by kernel_rfl)
    trivial
    (fun z => by kernel_rfl)
def tree_IsTarget (n : T_api_Node) : Option (Bool × Unit) :=
  let b_1 := ((n.Kind == 3) || (n.Kind == 11))
  some ((b_1 || (n.Kind == 12)), ())
def tree_IsTarget_s : Shape := ⟨[(0, .st 25)], []⟩
def tree_IsTarget_o : List OutP := [⟨false, .bool, []⟩]
def tree_IsTarget_c : Dn.Callee Y := callee Y [] tree_IsTarget_s tree_IsTarget_o (fun z => tree_IsTarget z.1)
def tree_IsTarget_k : Cuts Y (ParO Y tree_IsTarget_o) := .nil
theorem tree_IsTarget_ok : COk hY Tryz.prog Glob 12 (tree_IsTarget_c) :=
  fn_ok (body := (Tryz.f12.body).getD .skip) (T := []) (tree_IsTarget_k) Tryz.func12 (by kernel_rfl) ⟨⟨_, Tryz.func12, by kernel_rfl, rfl⟩⟩ hsz .nil (fun _ _ hle h => h.mono hle) (by kernel_rfl)
    trivial
    (fun z => by kernel_rfl)
structure Rec_tree_may where
  tree_may : T_api_Node → Option (Bool × Unit)
  tree_fits : T_api_Node → Int → Option (Bool × Unit)
def tree_may_s : Shape := ⟨[(0, .st 25)], []⟩
def tree_may_o : List OutP := [⟨false, .bool, []⟩]
def tree_may_c (g_ : Rec_tree_may) : Dn.Callee Y := callee Y [] tree_may_s tree_may_o (fun z => g_.tree_may z.1)
def tree_fits_s : Shape := ⟨[(0, .st 25), (1, .int .u8)], []⟩
def tree_fits_o : List OutP := [⟨false, .bool, []⟩]
def tree_fits_c (g_ : Rec_tree_may) : Dn.Callee Y := callee Y [] tree_fits_s tree_fits_o (fun z => g_.tree_fits z.1 z.2.1)
structure Rec_tree_may_ok (g_ : Rec_tree_may) : Prop where
  tree_may : COk hY Tryz.prog Glob 16 (tree_may_c g_)
  tree_fits : COk hY Tryz.prog Glob 32 (tree_fits_c g_)
def tree_may_l1 (g_ : Rec_tree_may) : Str × Str × Int × (List T_api_Node) × Int × Int × T_api_Node × Unit → Option ((Str × Str × Int × (List T_api_Node) × Int × Int × T_api_Node × Unit) ⊕ (Bool × Unit))
  | (a_13, y_14, v_15, v_16, v_17, v_18, x_19, ()) =>
    if (decide (v_18 < v_17)) = true then
     Option.bind (getI v_16 v_18) fun x_20 =>
     Option.bind (catS a_13 y_14) fun s_21 =>
     Option.bind (catS a_13 y_14) fun s_22 =>
     let n_23 := (IntKind.wrap .i64 (((s_22.length : Nat) : Int) - 1))
     let n_24 := (if n_23 < v_18 then n_23 else v_18)
     Option.bind (getB s_21 n_24) fun c_25 =>
     Option.bind (g_.tree_fits (re25 x_20) c_25) fun r_26 =>
     if (!r_26.1) = true then
      some (Sum.inr (false, ()))
     else
      let b_27 := ((x_19.Kind == 35) && (x_20.Kind == 42))
      Option.bind (
        if b_27 = true then
         some true
        else
         let b_28 := ((x_19.Kind == 36) && (x_20.Kind == 37))
         Option.bind (
           if b_28 = true then
            Option.bind (getI x_20.L 0) fun x_29 =>
            some (x_29.Kind == 42)
           else
            some false) fun b_30 =>
         some b_30) fun b_31 =>
      if b_31 = true then
       let n_32 := (IntKind.wrap .i64 (v_15 + 1))
       let n_33 := (IntKind.wrap .i64 (v_18 + 1))
       some (Sum.inl (a_13, y_14, n_32, v_16, v_17, n_33, (re25 x_19), ()))
      else
       let n_34 := (IntKind.wrap .i64 (v_18 + 1))
       some (Sum.inl (a_13, y_14, v_15, v_16, v_17, n_34, (re25 x_19), ()))
    else
     some (Sum.inr ((decide (v_15 < 2)), ()))
def tree_may_b (g_ : Rec_tree_may) (t : T_api_Node) : Option (Bool × Unit) :=
  Option.bind (tree_of (re25 t)) fun r_1 =>
  if (!r_1.2.1) = true then
   some (false, ())
  else
   Option.bind (tree_named (re25 t) r_1.1.name) fun r_2 =>
   let b_3 := ((!r_2.1) || (decide (t.Num < 0)))
   let b_4 := (b_3 || (decide (t.Num > r_1.1.num)))
   if b_4 = true then
    some (false, ())
   else
    Option.bind (units_Check t.Text) fun r_5 =>
    let b_6 := ((!r_5.1) || ((!(t.Text == ([] : Str))) && (!r_1.1.text)))
    let b_7 := (b_6 || ((decide (((t.Names.length : Nat) : Int) > 0)) && (!r_1.1.names)))
    if b_7 = true then
     some (false, ())
    else
     Option.bind (slices_ContainsFunc t.Names) fun r_8 =>
     if r_8.1 = true then
      some (false, ())
     else
      Option.bind (strings_Cut r_1.1.l ([42] : Str)) fun r_9 =>
      let n_10 := ((r_9.1.length : Nat) : Int)
      let b_11 := (decide (((t.L.length : Nat) : Int) < n_10))
      let b_12 := (b_11 || ((!r_9.2.2.1) && (decide (((t.L.length : Nat) : Int) > ((r_9.1.length : Nat) : Int)))))
      if b_12 = true then
       some (false, ())
      else
       Lp.loop (tree_may_l1 g_) (r_9.1, r_9.2.1, 0, t.L, ((t.L.length : Nat) : Int), 0, (re25 t), ())
def tree_may_d (g_ : Rec_tree_may) : Dn.Callee Y := callee Y [] tree_may_s tree_may_o (fun z => tree_may_b g_ z.1)
def tree_may_k (g_ : Rec_tree_may) : Cuts Y (ParO Y tree_may_o) := (.loop [[7, 5, 2, 1, 2, 2, 2, 2, 2, 2, 2], [8, 5, 2, 1, 2, 2, 2, 2, 2, 2, 2], [6, 2, 1, 2, 2, 2, 2, 2, 2, 2], [2, 2, 2, 2, 2, 2, 2, 2]] ⟨[(1, .ptr 0 0), (5, .str), (6, .str), (8, .int .i64), (94, .sl 25), (95, .int .i64), (96, .int .i64)], [.whole 25 25]⟩ (tree_may_l1 g_) .nil .nil)
theorem tree_may_b_ok (g_ : Rec_tree_may) (hg_ : Rec_tree_may_ok g_) : COk hY Tryz.prog Glob 16 (tree_may_d g_) :=
  fn_ok (body := (Tryz.f16.body).getD .skip) (T := [(25, (tree_of_c)), (26, (tree_named_c)), (27, (units_Check_c)), (28, (slices_ContainsFunc_c)), (31, (strings_Cut_c)), (32, (tree_fits_c g_))]) (tree_may_k g_) Tryz.func16 (by kernel_rfl) ⟨⟨_, Tryz.func16, by kernel_rfl, rfl⟩⟩ hsz ((.cons tree_of_ok (.cons tree_named_ok (.cons units_Check_ok (.cons slices_ContainsFunc_ok (.cons strings_Cut_ok (.cons hg_.tree_fits .nil)))))) : TabOk hY Tryz.prog Glob [(25, (tree_of_c)), (26, (tree_named_c)), (27, (units_Check_c)), (28, (slices_ContainsFunc_c)), (31, (strings_Cut_c)), (32, (tree_fits_c g_))]) (fun _ _ hle h => h.mono hle) (by kernel_rfl)
    ⟨fun z => by kernel_rfl, trivial, trivial⟩
    (fun z => by kernel_rfl)
def tree_fits_j16 (g_ : Rec_tree_may) (letter_95 : Int) (kind_96 : Int) (x_97 : T_api_Node) : Option (Bool × Unit) :=
  let b_98 := ((decide (kind_96 ≥ 22)) && (decide (kind_96 ≤ 40)))
  let b_99 := ((b_98 && (kind_96 != 23)) && (kind_96 != 37))
  let b_100 := (b_99 && ((kind_96 != 39) || (letter_95 == 120)))
  if b_100 = true then
   Option.bind (g_.tree_may (re25 x_97)) fun r_101 =>
   some (r_101.1, ())
  else
   some (false, ())
def tree_fits_j15 (g_ : Rec_tree_may) (letter_102 : Int) (kind_103 : Int) (is_104 : Bool) (v_105 : Int) (x_106 : T_api_Node) : Option (Bool × Unit) :=
  if (v_105 == 120) = true then
   tree_fits_j16 g_ letter_102 kind_103 (re25 x_106)
  else
   if is_104 = true then
    Option.bind (g_.tree_may (re25 x_106)) fun r_107 =>
    some (r_107.1, ())
   else
    some (false, ())
def tree_fits_j14 (g_ : Rec_tree_may) (letter_90 : Int) (kind_91 : Int) (is_92 : Bool) (v_93 : Int) (x_94 : T_api_Node) : Option (Bool × Unit) :=
  if (v_93 == 115) = true then
   tree_fits_j16 g_ letter_90 kind_91 (re25 x_94)
  else
   tree_fits_j15 g_ letter_90 kind_91 is_92 v_93 (re25 x_94)
def tree_fits_j13 (g_ : Rec_tree_may) (letter_84 : Int) (kind_85 : Int) (is_86 : Bool) (v_87 : Int) (x_88 : T_api_Node) : Option (Bool × Unit) :=
  if (v_87 == 107) = true then
   if (kind_85 == 37) = true then
    Option.bind (g_.tree_may (re25 x_88)) fun r_89 =>
    some (r_89.1, ())
   else
    some (false, ())
  else
   tree_fits_j14 g_ letter_84 kind_85 is_86 v_87 (re25 x_88)
def tree_fits_j12 (g_ : Rec_tree_may) (kind_75 : Int) (x_76 : T_api_Node) : Option (Bool × Unit) :=
  Option.bind (tree_IsTarget (re25 x_76)) fun r_77 =>
  Option.bind (
    if r_77.1 = true then
     some true
    else
     let b_78 := ((kind_75 == 22) && (((x_76.L.length : Nat) : Int) == 1))
     Option.bind (
       if b_78 = true then
        Option.bind (getI x_76.L 0) fun x_79 =>
        let n_80 := ((x_79.L.length : Nat) : Int)
        some (n_80 == 0)
       else
        some false) fun b_81 =>
     some b_81) fun b_82 =>
  if b_82 = true then
   Option.bind (g_.tree_may (re25 x_76)) fun r_83 =>
   some (r_83.1, ())
  else
   some (false, ())
def tree_fits_j11 (g_ : Rec_tree_may) (letter_70 : Int) (kind_71 : Int) (is_72 : Bool) (v_73 : Int) (x_74 : T_api_Node) : Option (Bool × Unit) :=
  if (v_73 == 119) = true then
   tree_fits_j12 g_ kind_71 (re25 x_74)
  else
   tree_fits_j13 g_ letter_70 kind_71 is_72 v_73 (re25 x_74)
def tree_fits_j10 (g_ : Rec_tree_may) (letter_62 : Int) (kind_63 : Int) (expr_64 : Bool) (is_65 : Bool) (v_66 : Int) (x_67 : T_api_Node) : Option (Bool × Unit) :=
  if (v_66 == 118) = true then
   let b_68 := (expr_64 || (kind_63 == 42))
   if (b_68 || (kind_63 == 22)) = true then
    Option.bind (g_.tree_may (re25 x_67)) fun r_69 =>
    some (r_69.1, ())
   else
    some (false, ())
  else
   tree_fits_j11 g_ letter_62 kind_63 is_65 v_66 (re25 x_67)
def tree_fits_j9 (g_ : Rec_tree_may) (letter_55 : Int) (kind_56 : Int) (expr_57 : Bool) (is_58 : Bool) (v_59 : Int) (x_60 : T_api_Node) : Option (Bool × Unit) :=
  if (v_59 == 100) = true then
   if (kind_56 == 23) = true then
    Option.bind (g_.tree_may (re25 x_60)) fun r_61 =>
    some (r_61.1, ())
   else
    some (false, ())
  else
   tree_fits_j10 g_ letter_55 kind_56 expr_57 is_58 v_59 (re25 x_60)
def tree_fits_j8 (g_ : Rec_tree_may) (letter_48 : Int) (kind_49 : Int) (expr_50 : Bool) (is_51 : Bool) (v_52 : Int) (x_53 : T_api_Node) : Option (Bool × Unit) :=
  if (v_52 == 112) = true then
   if (kind_49 == 9) = true then
    Option.bind (g_.tree_may (re25 x_53)) fun r_54 =>
    some (r_54.1, ())
   else
    some (false, ())
  else
   tree_fits_j9 g_ letter_48 kind_49 expr_50 is_51 v_52 (re25 x_53)
def tree_fits_j7 (g_ : Rec_tree_may) (letter_40 : Int) (kind_41 : Int) (expr_42 : Bool) (is_43 : Bool) (v_44 : Int) (x_45 : T_api_Node) : Option (Bool × Unit) :=
  if (v_44 == 99) = true then
   let b_46 := ((kind_41 == 25) || (kind_41 == 42))
   if b_46 = true then
    Option.bind (g_.tree_may (re25 x_45)) fun r_47 =>
    some (r_47.1, ())
   else
    some (false, ())
  else
   tree_fits_j8 g_ letter_40 kind_41 expr_42 is_43 v_44 (re25 x_45)
def tree_fits_j6 (g_ : Rec_tree_may) (letter_33 : Int) (kind_34 : Int) (expr_35 : Bool) (is_36 : Bool) (v_37 : Int) (x_38 : T_api_Node) : Option (Bool × Unit) :=
  if (v_37 == 98) = true then
   if (kind_34 == 25) = true then
    Option.bind (g_.tree_may (re25 x_38)) fun r_39 =>
    some (r_39.1, ())
   else
    some (false, ())
  else
   tree_fits_j7 g_ letter_33 kind_34 expr_35 is_36 v_37 (re25 x_38)
def tree_fits_j5 (g_ : Rec_tree_may) (letter_25 : Int) (kind_26 : Int) (expr_27 : Bool) (is_28 : Bool) (v_29 : Int) (x_30 : T_api_Node) : Option (Bool × Unit) :=
  if (v_29 == 102) = true then
   let b_31 := (expr_27 || (kind_26 == 42))
   if b_31 = true then
    Option.bind (g_.tree_may (re25 x_30)) fun r_32 =>
    some (r_32.1, ())
   else
    some (false, ())
  else
   tree_fits_j6 g_ letter_25 kind_26 expr_27 is_28 v_29 (re25 x_30)
def tree_fits_j4 (g_ : Rec_tree_may) (letter_17 : Int) (kind_18 : Int) (expr_19 : Bool) (is_20 : Bool) (v_21 : Int) (x_22 : T_api_Node) : Option (Bool × Unit) :=
  if (v_21 == 116) = true then
   Option.bind (tree_IsTarget (re25 x_22)) fun r_23 =>
   if r_23.1 = true then
    Option.bind (g_.tree_may (re25 x_22)) fun r_24 =>
    some (r_24.1, ())
   else
    some (false, ())
  else
   tree_fits_j5 g_ letter_17 kind_18 expr_19 is_20 v_21 (re25 x_22)
def tree_fits_j3 (g_ : Rec_tree_may) (letter_10 : Int) (kind_11 : Int) (expr_12 : Bool) (is_13 : Bool) (v_14 : Int) (x_15 : T_api_Node) : Option (Bool × Unit) :=
  if (v_14 == 101) = true then
   if expr_12 = true then
    Option.bind (g_.tree_may (re25 x_15)) fun r_16 =>
    some (r_16.1, ())
   else
    some (false, ())
  else
   tree_fits_j4 g_ letter_10 kind_11 expr_12 is_13 v_14 (re25 x_15)
def tree_fits_j2 (g_ : Rec_tree_may) (letter_5 : Int) (kind_6 : Int) (expr_7 : Bool) (is_8 : Bool) (x_9 : T_api_Node) : Option (Bool × Unit) :=
  tree_fits_j3 g_ letter_5 kind_6 expr_7 is_8 letter_5 (re25 x_9)
def tree_fits_j1 (g_ : Rec_tree_may) (letter_1 : Int) (kind_2 : Int) (expr_3 : Bool) (x_4 : T_api_Node) : Option (Bool × Unit) :=
  tree_fits_j2 g_ letter_1 kind_2 expr_3 false (re25 x_4)
def tree_fits_b (g_ : Rec_tree_may) (n : T_api_Node) (letter : Int) : Option (Bool × Unit) :=
  if (decide (n.Kind ≥ 1)) = true then
   if (decide (n.Kind ≤ 21)) = true then
    tree_fits_j1 g_ letter n.Kind (n.Kind != 9) (re25 n)
   else
    tree_fits_j1 g_ letter n.Kind false (re25 n)
  else
   tree_fits_j1 g_ letter n.Kind false (re25 n)
def tree_fits_d (g_ : Rec_tree_may) : Dn.Callee Y := callee Y [] tree_fits_s tree_fits_o (fun z => tree_fits_b g_ z.1 z.2.1)
def tree_fits_k (g_ : Rec_tree_may) : Cuts Y (ParO Y tree_fits_o) := (.join [[1, 2, 2], [2, 2, 2]] ⟨[(1, .int .u8), (2, .ptr 0 0), (5, .int .i64), (6, .bool)], [.whole 25 25]⟩ (fun z => tree_fits_j1 g_ z.1 z.2.1 z.2.2.1 z.2.2.2.1) (.join [[1, 1, 2, 2, 2], [2, 1, 2, 2, 2], [2, 2, 2, 2]] ⟨[(1, .int .u8), (2, .ptr 0 0), (5, .int .i64), (6, .bool), (7, .bool)], [.whole 25 25]⟩ (fun z => tree_fits_j2 g_ z.1 z.2.1 z.2.2.1 z.2.2.2.1 z.2.2.2.2.1) (.join [[1, 5, 2, 1, 2, 2, 2], [2, 5, 2, 1, 2, 2, 2], [6, 2, 1, 2, 2, 2], [2, 2, 2, 2]] ⟨[(1, .int .u8), (2, .ptr 0 0), (5, .int .i64), (6, .bool), (7, .bool), (23, .int .u8)], [.whole 25 25]⟩ (fun z => tree_fits_j3 g_ z.1 z.2.1 z.2.2.1 z.2.2.2.1 z.2.2.2.2.1 z.2.2.2.2.2.1) (.join [[1, 4, 2, 5, 2, 1, 2, 2, 2], [2, 4, 2, 5, 2, 1, 2, 2, 2], [6, 2, 1, 2, 2, 2], [2, 2, 2, 2]] ⟨[(1, .int .u8), (2, .ptr 0 0), (5, .int .i64), (6, .bool), (7, .bool), (23, .int .u8)], [.whole 25 25]⟩ (fun z => tree_fits_j4 g_ z.1 z.2.1 z.2.2.1 z.2.2.2.1 z.2.2.2.2.1 z.2.2.2.2.2.1) (.join [[1, 4, 2, 4, 2, 5, 2, 1, 2, 2, 2], [2, 4, 2, 4, 2, 5, 2, 1, 2, 2, 2], [6, 2, 1, 2, 2, 2], [2, 2, 2, 2]] ⟨[(1, .int .u8), (2, .ptr 0 0), (5, .int .i64), (6, .bool), (7, .bool), (23, .int .u8)], [.whole 25 25]⟩ (fun z => tree_fits_j5 g_ z.1 z.2.1 z.2.2.1 z.2.2.2.1 z.2.2.2.2.1 z.2.2.2.2.2.1) (.join [[1, 4, 2, 4, 2, 4, 2, 5, 2, 1, 2, 2, 2], [2, 4, 2, 4, 2, 4, 2, 5, 2, 1, 2, 2, 2], [6, 2, 1, 2, 2, 2], [2, 2, 2, 2]] ⟨[(1, .int .u8), (2, .ptr 0 0), (5, .int .i64), (6, .bool), (7, .bool), (23, .int .u8)], [.whole 25 25]⟩ (fun z => tree_fits_j6 g_ z.1 z.2.1 z.2.2.1 z.2.2.2.1 z.2.2.2.2.1 z.2.2.2.2.2.1) (.join [[1, 4, 2, 4, 2, 4, 2, 4, 2, 5, 2, 1, 2, 2, 2], [2, 4, 2, 4, 2, 4, 2, 4, 2, 5, 2, 1, 2, 2, 2], [6, 2, 1, 2, 2, 2], [2, 2, 2, 2]] ⟨[(1, .int .u8), (2, .ptr 0 0), (5, .int .i64), (6, .bool), (7, .bool), (23, .int .u8)], [.whole 25 25]⟩ (fun z => tree_fits_j7 g_ z.1 z.2.1 z.2.2.1 z.2.2.2.1 z.2.2.2.2.1 z.2.2.2.2.2.1) (.join [[1, 4, 2, 4, 2, 4, 2, 4, 2, 4, 2, 5, 2, 1, 2, 2, 2], [2, 4, 2, 4, 2, 4, 2, 4, 2, 4, 2, 5, 2, 1, 2, 2, 2], [6, 2, 1, 2, 2, 2], [2, 2, 2, 2]] ⟨[(1, .int .u8), (2, .ptr 0 0), (5, .int .i64), (6, .bool), (7, .bool), (23, .int .u8)], [.whole 25 25]⟩ (fun z => tree_fits_j8 g_ z.1 z.2.1 z.2.2.1 z.2.2.2.1 z.2.2.2.2.1 z.2.2.2.2.2.1) (.join [[1, 4, 2, 4, 2, 4, 2, 4, 2, 4, 2, 4, 2, 5, 2, 1, 2, 2, 2], [2, 4, 2, 4, 2, 4, 2, 4, 2, 4, 2, 4, 2, 5, 2, 1, 2, 2, 2], [6, 2, 1, 2, 2, 2], [2, 2, 2, 2]] ⟨[(1, .int .u8), (2, .ptr 0 0), (5, .int .i64), (6, .bool), (7, .bool), (23, .int .u8)], [.whole 25 25]⟩ (fun z => tree_fits_j9 g_ z.1 z.2.1 z.2.2.1 z.2.2.2.1 z.2.2.2.2.1 z.2.2.2.2.2.1) (.join [[1, 4, 2, 4, 2, 4, 2, 4, 2, 4, 2, 4, 2, 4, 2, 5, 2, 1, 2, 2, 2], [2, 4, 2, 4, 2, 4, 2, 4, 2, 4, 2, 4, 2, 4, 2, 5, 2, 1, 2, 2, 2], [6, 2, 1, 2, 2, 2], [2, 2, 2, 2]] ⟨[(1, .int .u8), (2, .ptr 0 0), (5, .int .i64), (6, .bool), (7, .bool), (23, .int .u8)], [.whole 25 25]⟩ (fun z => tree_fits_j10 g_ z.1 z.2.1 z.2.2.1 z.2.2.2.1 z.2.2.2.2.1 z.2.2.2.2.2.1) (.join [[1, 4, 2, 4, 2, 4, 2, 4, 2, 4, 2, 4, 2, 4, 2, 4, 2, 5, 2, 1, 2, 2, 2], [2, 4, 2, 4, 2, 4, 2, 4, 2, 4, 2, 4, 2, 4, 2, 4, 2, 5, 2, 1, 2, 2, 2], [6, 2, 1, 2, 2, 2], [2, 2, 2, 2]] ⟨[(1, .int .u8), (2, .ptr 0 0), (5, .int .i64), (7, .bool), (23, .int .u8)], [.whole 25 25]⟩ (fun z => tree_fits_j11 g_ z.1 z.2.1 z.2.2.1 z.2.2.2.1 z.2.2.2.2.1) (.join [[3, 2, 4, 2, 4, 2, 4, 2, 4, 2, 4, 2, 4, 2, 4, 2, 4, 2, 5, 2, 1, 2, 2, 2], [6, 2, 1, 2, 2, 2], [2, 2, 2, 2]] ⟨[(2, .ptr 0 0), (5, .int .i64)], [.whole 25 25]⟩ (fun z => tree_fits_j12 g_ z.1 z.2.1) (.join [[1, 4, 2, 4, 2, 4, 2, 4, 2, 4, 2, 4, 2, 4, 2, 4, 2, 4, 2, 5, 2, 1, 2, 2, 2], [2, 4, 2, 4, 2, 4, 2, 4, 2, 4, 2, 4, 2, 4, 2, 4, 2, 4, 2, 5, 2, 1, 2, 2, 2], [6, 2, 1, 2, 2, 2], [2, 2, 2, 2]] ⟨[(1, .int .u8), (2, .ptr 0 0), (5, .int .i64), (7, .bool), (23, .int .u8)], [.whole 25 25]⟩ (fun z => tree_fits_j13 g_ z.1 z.2.1 z.2.2.1 z.2.2.2.1 z.2.2.2.2.1) (.join [[1, 1, 4, 2, 4, 2, 4, 2, 4, 2, 4, 2, 4, 2, 4, 2, 4, 2, 4, 2, 4, 2, 5, 2, 1, 2, 2, 2], [2, 1, 4, 2, 4, 2, 4, 2, 4, 2, 4, 2, 4, 2, 4, 2, 4, 2, 4, 2, 4, 2, 5, 2, 1, 2, 2, 2], [2, 4, 2, 4, 2, 4, 2, 4, 2, 4, 2, 4, 2, 4, 2, 4, 2, 4, 2, 4, 2, 5, 2, 1, 2, 2, 2], [6, 2, 1, 2, 2, 2], [2, 2, 2, 2]] ⟨[(1, .int .u8), (2, .ptr 0 0), (5, .int .i64), (7, .bool), (23, .int .u8)], [.whole 25 25]⟩ (fun z => tree_fits_j14 g_ z.1 z.2.1 z.2.2.1 z.2.2.2.1 z.2.2.2.2.1) (.join [[4, 2, 1, 4, 2, 4, 2, 4, 2, 4, 2, 4, 2, 4, 2, 4, 2, 4, 2, 4, 2, 4, 2, 5, 2, 1, 2, 2, 2], [2, 4, 2, 4, 2, 4, 2, 4, 2, 4, 2, 4, 2, 4, 2, 4, 2, 4, 2, 4, 2, 5, 2, 1, 2, 2, 2], [6, 2, 1, 2, 2, 2], [2, 2, 2, 2]] ⟨[(1, .int .u8), (2, .ptr 0 0), (5, .int .i64), (7, .bool), (23, .int .u8)], [.whole 25 25]⟩ (fun z => tree_fits_j15 g_ z.1 z.2.1 z.2.2.1 z.2.2.2.1 z.2.2.2.2.1) (.join [[3, 2, 4, 2, 4, 2, 4, 2, 4, 2, 4, 2, 4, 2, 4, 2, 4, 2, 4, 2, 4, 2, 5, 2, 1, 2, 2, 2], [6, 2, 1, 2, 2, 2], [2, 2, 2, 2]] ⟨[(1, .int .u8), (2, .ptr 0 0), (5, .int .i64)], [.whole 25 25]⟩ (fun z => tree_fits_j16 g_ z.1 z.2.1 z.2.2.1) .nil))))))))))))))))
theorem tree_fits_b_ok (g_ : Rec_tree_may) (hg_ : Rec_tree_may_ok g_) : COk hY Tryz.prog Glob 32 (tree_fits_d g_) :=
  fn_ok (body := (Tryz.f32.body).getD .skip) (T := [(16, (tree_may_c g_)), (12, (tree_IsTarget_c))]) (tree_fits_k g_) Tryz.func32 (by kernel_rfl) ⟨⟨_, Tryz.func32, by kernel_rfl, rfl⟩⟩ hsz ((.cons hg_.tree_may (.cons tree_IsTarget_ok .nil)) : TabOk hY Tryz.prog Glob [(16, (tree_may_c g_)), (12, (tree_IsTarget_c))]) (fun _ _ hle h => h.mono hle) (by kernel_rfl)
    ⟨fun z => by kernel_rfl, ⟨fun z => by kernel_rfl, ⟨fun z => by kernel_rfl, ⟨fun z => by kernel_rfl, ⟨fun z => by kernel_rfl, ⟨fun z => by kernel_rfl, ⟨fun z => by kernel_rfl, ⟨fun z => by kernel_rfl, ⟨fun z => by kernel_rfl, ⟨fun z => by kernel_rfl, ⟨fun z => by kernel_rfl, ⟨fun z => by kernel_rfl, ⟨fun z => by kernel_rfl, ⟨fun z => by kernel_rfl, ⟨fun z => by kernel_rfl, ⟨fun z => by kernel_rfl, trivial⟩⟩⟩⟩⟩⟩⟩⟩⟩⟩⟩⟩⟩⟩⟩⟩
    (fun z => by kernel_rfl)
def Rec_tree_may_g : Nat → Rec_tree_may
  | 0 => ⟨fun _ => none, fun _ _ => none⟩
  | n + 1 => ⟨tree_may_b (Rec_tree_may_g n), tree_fits_b (Rec_tree_may_g n)⟩
theorem Rec_tree_may_all : ∀ n, Rec_tree_may_ok (Rec_tree_may_g n)
  | 0 => ⟨COk.none ⟨⟨_, Tryz.func16, by kernel_rfl, rfl⟩⟩, COk.none ⟨⟨_, Tryz.func32, by kernel_rfl, rfl⟩⟩⟩
  | n + 1 => ⟨tree_may_b_ok _ (Rec_tree_may_all n), tree_fits_b_ok _ (Rec_tree_may_all n)⟩
def tree_may : T_api_Node → Option (Bool × Unit) := (Rec_tree_may_g Lp.big).tree_may
theorem tree_may_ok : COk hY Tryz.prog Glob 16 (tree_may_c (Rec_tree_may_g Lp.big)) := (Rec_tree_may_all Lp.big).tree_may
def tree_fits : T_api_Node → Int → Option (Bool × Unit) := (Rec_tree_may_g Lp.big).tree_fits
theorem tree_fits_ok : COk hY Tryz.prog Glob 32 (tree_fits_c (Rec_tree_may_g Lp.big)) := (Rec_tree_may_all Lp.big).tree_fits
structure Rec_tree_Deep where
  tree_Deep : T_api_Node → Option (Int × Unit)
def tree_Deep_s : Shape := ⟨[(0, .st 25)], []⟩
def tree_Deep_o : List OutP := [⟨false, .int .i64, []⟩]
def tree_Deep_c (g_ : Rec_tree_Deep) : Dn.Callee Y := callee Y [] tree_Deep_s tree_Deep_o (fun z => g_.tree_Deep z.1)
structure Rec_tree_Deep_ok (g_ : Rec_tree_Deep) : Prop where
  tree_Deep : COk hY Tryz.prog Glob 14 (tree_Deep_c g_)
def tree_Deep_l1 (g_ : Rec_tree_Deep) : Int × (List T_api_Node) × Int × Int × Unit → Option ((Int × (List T_api_Node) × Int × Int × Unit) ⊕ (Int × Unit))
  | (most_1, v_2, v_3, v_4, ()) =>
    if (decide (v_4 < v_3)) = true then
     Option.bind (getI v_2 v_4) fun x_5 =>
     Option.bind (g_.tree_Deep (re25 x_5)) fun r_6 =>
     let n_7 := (if r_6.1 > most_1 then r_6.1 else most_1)
     let n_8 := (IntKind.wrap .i64 (v_4 + 1))
     some (Sum.inl (n_7, v_2, v_3, n_8, ()))
    else
     let n_9 := (IntKind.wrap .i64 (most_1 + 1))
     some (Sum.inr (n_9, ()))
def tree_Deep_b (g_ : Rec_tree_Deep) (n : T_api_Node) : Option (Int × Unit) :=
  Lp.loop (tree_Deep_l1 g_) (0, n.L, ((n.L.length : Nat) : Int), 0, ())
def tree_Deep_d (g_ : Rec_tree_Deep) : Dn.Callee Y := callee Y [] tree_Deep_s tree_Deep_o (fun z => tree_Deep_b g_ z.1)
def tree_Deep_k (g_ : Rec_tree_Deep) : Cuts Y (ParO Y tree_Deep_o) := (.loop [[7, 5, 2, 1, 2, 2], [8, 5, 2, 1, 2, 2], [6, 2, 1, 2, 2], [2, 2, 2]] ⟨[(3, .int .i64), (7, .sl 25), (8, .int .i64), (9, .int .i64)], []⟩ (tree_Deep_l1 g_) .nil .nil)
theorem tree_Deep_b_ok (g_ : Rec_tree_Deep) (hg_ : Rec_tree_Deep_ok g_) : COk hY Tryz.prog Glob 14 (tree_Deep_d g_) :=
  fn_ok (body := (Tryz.f14.body).getD .skip) (T := [(14, (tree_Deep_c g_))]) (tree_Deep_k g_) Tryz.func14 (by kernel_rfl) ⟨⟨_, Tryz.func14, by kernel_rfl, rfl⟩⟩ hsz ((.cons hg_.tree_Deep .nil) : TabOk hY Tryz.prog Glob [(14, (tree_Deep_c g_))]) (fun _ _ hle h => h.mono hle) (by kernel_rfl)
    ⟨fun z => by kernel_rfl, trivial, trivial⟩
    (fun z => by kernel_rfl)
def Rec_tree_Deep_g : Nat → Rec_tree_Deep
  | 0 => ⟨fun _ => none⟩
  | n + 1 => ⟨tree_Deep_b (Rec_tree_Deep_g n)⟩
theorem Rec_tree_Deep_all : ∀ n, Rec_tree_Deep_ok (Rec_tree_Deep_g n)
  | 0 => ⟨COk.none ⟨⟨_, Tryz.func14, by kernel_rfl, rfl⟩⟩⟩
  | n + 1 => ⟨tree_Deep_b_ok _ (Rec_tree_Deep_all n)⟩
def tree_Deep : T_api_Node → Option (Int × Unit) := (Rec_tree_Deep_g Lp.big).tree_Deep
theorem tree_Deep_ok : COk hY Tryz.prog Glob 14 (tree_Deep_c (Rec_tree_Deep_g Lp.big)) := (Rec_tree_Deep_all Lp.big).tree_Deep
def tree_Check (n : T_api_Node) : Option (Int × Unit) :=
  if (n.Kind != 41) = true then
   some (70, ())
  else
   Option.bind (tree_may (re25 n)) fun r_1 =>
   if (!r_1.1) = true then
    some (70, ())
   else
    Option.bind (tree_Deep (re25 n)) fun r_2 =>
    if (decide (r_2.1 > 64)) = true then
     some (31, ())
    else
     some (0, ())
def tree_Check_s : Shape := ⟨[(0, .st 25)], []⟩
def tree_Check_o : List OutP := [⟨false, .int .i64, []⟩]
def tree_Check_c : Dn.Callee Y := callee Y [] tree_Check_s tree_Check_o (fun z => tree_Check z.1)
def tree_Check_k : Cuts Y (ParO Y tree_Check_o) := .nil
theorem tree_Check_ok : COk hY Tryz.prog Glob 6 (tree_Check_c) :=
  fn_ok (body := (Tryz.f6.body).getD .skip) (T := [(16, (tree_may_c (Rec_tree_may_g Lp.big))), (14, (tree_Deep_c (Rec_tree_Deep_g Lp.big)))]) (tree_Check_k) Tryz.func6 (by kernel_rfl) ⟨⟨_, Tryz.func6, by kernel_rfl, rfl⟩⟩ hsz ((.cons tree_may_ok (.cons tree_Deep_ok .nil)) : TabOk hY Tryz.prog Glob [(16, (tree_may_c (Rec_tree_may_g Lp.big))), (14, (tree_Deep_c (Rec_tree_Deep_g Lp.big)))]) (fun _ _ hle h => h.mono hle) (by kernel_rfl)
    trivial
    (fun z => by kernel_rfl)
def tree_writer_lay (l : List Str) (no : Bool) (l2 : List Str) : Option (Bool × (List Str) × Unit) :=
  Option.bind (room (l2.length + l.length)) fun _ =>
  let l_1 := l2 ++ l
  some (no, l_1, ())
def tree_writer_lay_s : Shape := ⟨[(0, .ptr 0 0), (1, .sl 9)], [.cells 39 [.own 1, .bool], .arr 9]⟩
def tree_writer_lay_o : List OutP := [⟨false, .tup [], [.cells 39 [.own 1, .bool], .arr 9]⟩]
def tree_writer_lay_c : Dn.Callee Y := callee Y [] tree_writer_lay_s tree_writer_lay_o (fun z => tree_writer_lay z.1 z.2.1 z.2.2.1)
def tree_writer_lay_k : Cuts Y (ParO Y tree_writer_lay_o) := .nil
theorem tree_writer_lay_ok : COk hY Tryz.prog Glob 60 (tree_writer_lay_c) :=
  fn_ok (body := (Tryz.f60.body).getD .skip) (T := []) (tree_writer_lay_k) Tryz.func60 (by kernel_rfl) ⟨⟨_, Tryz.func60, by kernel_rfl, rfl⟩⟩ hsz .nil (fun _ _ hle h => h.mono hle) (by kernel_rfl)
    trivial
    (fun z => by kernel_rfl)
def strings_Index_x (t : Str) (sub : Str) : Option (Int) := if t.length < 4294967281 then some (Lib.index t sub) else none
theorem strings_Index_x.ok (t : Str) (sub : Str) (r : Int) (h0 : strings_Index_x t sub = some r) (w0 : World) (F0 : Heap) (hv : F0.Sub w0) (hG : Glob F0) (hg : SV.goods F0 [.v (.string ⟨⟨t⟩⟩), .v (.string ⟨⟨sub⟩⟩)]) (ρ : Nat → Nat) :
    Calls Tryz.prog 102 (SV.dens ρ [.v (.string ⟨⟨t⟩⟩), .v (.string ⟨⟨sub⟩⟩)]).toArray w0 (Ret0 w0 F0 fun s => s = .v (.int .i64 r)) := by
  unfold strings_Index_x at h0
  split at h0
  · rename_i hc
    cases h0
    obtain ⟨m, hm⟩ := hG.maxLen
    refine (Tryz.strings_Index ⟨⟨t⟩⟩ ⟨⟨sub⟩⟩ m w0 hc (cellF_read hv hm)).mono fun e w' h => ?_
    exact Ret0.pure (s := .v _) hv h.1 h.2 trivial rfl rfl
  · cases h0
def strings_Index (t : Str) (sub : Str) : Option (Int × Unit) := mapO (fun r => (r, ())) (strings_Index_x t sub)
def strings_Index_s : Shape := ⟨[(0, .str), (1, .str)], []⟩
def strings_Index_o : List OutP := [⟨false, .int .i64, []⟩]
def strings_Index_c : Dn.Callee Y := callee Y [] strings_Index_s strings_Index_o (fun z => strings_Index z.1 z.2.1)
theorem strings_Index_ok : COk hY Tryz.prog Glob 102 strings_Index_c :=
  COk.ext (l := strings_Index_s.l) ⟨⟨_, Tryz.func102, by kernel_rfl, rfl⟩⟩ ⟨rfl, rfl⟩ rfl fun z zo h => ⟨_, _, rfl, rfl, fun w F hG hv => by
    obtain ⟨r, hr, rfl⟩ := mapO_some h
    exact strings_Index_x.ok z.1 z.2.1 r hr w F hv hG (by simp [SV.goods, SV.good]) (fun _ => 0)⟩
structure Rec_tree_level where
  tree_level : T_api_Node → Option (Int × Unit)
def tree_level_s : Shape := ⟨[(0, .st 25)], []⟩
def tree_level_o : List OutP := [⟨false, .int .i64, []⟩]
def tree_level_c (g_ : Rec_tree_level) : Dn.Callee Y := callee Y [] tree_level_s tree_level_o (fun z => g_.tree_level z.1)
structure Rec_tree_level_ok (g_ : Rec_tree_level) : Prop where
  tree_level : COk hY Tryz.prog Glob 88 (tree_level_c g_)
def tree_level_b (g_ : Rec_tree_level) (n : T_api_Node) : Option (Int × Unit) :=
  if (n.Kind == 21) = true then
   some (0, ())
  else
   if (n.Kind == 20) = true then
    some (1, ())
   else
    if (n.Kind == 19) = true then
     some (2, ())
    else
     if (n.Kind == 18) = true then
      Option.bind (cutL n.Name 0 1) fun s_1 =>
      Option.bind (strings_Index ([38, 124] : Str) s_1) fun r_2 =>
      let n_3 := (IntKind.wrap .i64 (4 - r_2.1))
      some (n_3, ())
     else
      if (n.Kind == 17) = true then
       Option.bind (tree_among ([32, 61, 61, 32, 33, 61, 32, 61, 61, 61, 32, 33, 61, 61, 32] : Str) n.Name) fun r_4 =>
       if r_4.1 = true then
        some (5, ())
       else
        Option.bind (tree_among ([32, 43, 32, 45, 32] : Str) n.Name) fun r_5 =>
        if r_5.1 = true then
         some (7, ())
        else
         Option.bind (tree_among ([32, 42, 32, 47, 32, 37, 32] : Str) n.Name) fun r_6 =>
         if r_6.1 = true then
          some (8, ())
         else
          some (6, ())
      else
       if (n.Kind == 15) = true then
        some (9, ())
       else
        if (n.Kind == 16) = true then
         let n_7 := (IntKind.wrap .i64 (10 - n.Num))
         some (n_7, ())
        else
         if (n.Kind == 13) = true then
          some (11, ())
         else
          if (n.Kind == 11) = true then
           Option.bind (getI n.L 0) fun x_8 =>
           Option.bind (g_.tree_level (re25 x_8)) fun r_9 =>
           let n_10 := (if r_9.1 > 11 then r_9.1 else 11)
           let n_11 := (if n_10 < 12 then n_10 else 12)
           some (n_11, ())
          else
           if (n.Kind == 12) = true then
            Option.bind (getI n.L 0) fun x_12 =>
            Option.bind (g_.tree_level (re25 x_12)) fun r_13 =>
            let n_14 := (if r_13.1 > 11 then r_13.1 else 11)
            let n_15 := (if n_14 < 12 then n_14 else 12)
            some (n_15, ())
           else
            if (n.Kind == 14) = true then
             some (12, ())
            else
             some (13, ())
def tree_level_d (g_ : Rec_tree_level) : Dn.Callee Y := callee Y [] tree_level_s tree_level_o (fun z => tree_level_b g_ z.1)
def tree_level_k (g_ : Rec_tree_level) : Cuts Y (ParO Y tree_level_o) := .nil
theorem tree_level_b_ok (g_ : Rec_tree_level) (hg_ : Rec_tree_level_ok g_) : COk hY Tryz.prog Glob 88 (tree_level_d g_) :=
  fn_ok (body := (Tryz.f88.body).getD .skip) (T := [(102, (strings_Index_c)), (45, (tree_among_c)), (88, (tree_level_c g_))]) (tree_level_k g_) Tryz.func88 (by kernel_rfl) ⟨⟨_, Tryz.func88, by kernel_rfl, rfl⟩⟩ hsz ((.cons strings_Index_ok (.cons tree_among_ok (.cons hg_.tree_level .nil))) : TabOk hY Tryz.prog Glob [(102, (strings_Index_c)), (45, (tree_among_c)), (88, (tree_level_c g_))]) (fun _ _ hle h => h.mono hle) (by kernel_rfl)
    trivial
    (fun z => by kernel_rfl)
def Rec_tree_level_g : Nat → Rec_tree_level
  | 0 => ⟨fun _ => none⟩
  | n + 1 => ⟨tree_level_b (Rec_tree_level_g n)⟩
theorem Rec_tree_level_all : ∀ n, Rec_tree_level_ok (Rec_tree_level_g n)
  | 0 => ⟨COk.none ⟨⟨_, Tryz.func88, by kernel_rfl, rfl⟩⟩⟩
  | n + 1 => ⟨tree_level_b_ok _ (Rec_tree_level_all n)⟩
def tree_level : T_api_Node → Option (Int × Unit) := (Rec_tree_level_g Lp.big).tree_level
theorem tree_level_ok : COk hY Tryz.prog Glob 88 (tree_level_c (Rec_tree_level_g Lp.big)) := (Rec_tree_level_all Lp.big).tree_level
def strconv_FormatInt_x (i_ : Int) (base_ : Int) : Option (Str) := if base_ = 16 then Gw.strconv_FormatInt_c16 i_ else if -9223372036854775808 ≤ i_ ∧ i_ ≤ 9223372036854775807 ∧ base_ = 10 then some (Lib.itoa i_) else none
theorem strconv_FormatInt_x.ok (i_ : Int) (base_ : Int) (r : Str) (h0 : strconv_FormatInt_x i_ base_ = some r) (w0 : World) (F0 : Heap) (hv : F0.Sub w0) (hG : Glob F0) (hg : SV.goods F0 [.v (.int .i64 i_), .v (.int .i64 base_)]) (ρ : Nat → Nat) :
    Calls Tryz.prog 107 (SV.dens ρ [.v (.int .i64 i_), .v (.int .i64 base_)]).toArray w0 (Ret0 w0 F0 fun s => s = .v (.string ⟨⟨r⟩⟩)) := by
  unfold strconv_FormatInt_x at h0
  split at h0
  · rename_i hb
    subst hb
    exact Gw.strconv_FormatInt_c16.ok i_ r h0 w0 F0 hv ⟨hG.maxLen, hG.bit4, hG.tab10⟩ ⟨trivial, trivial, trivial⟩ (fun _ => 0)
  · split at h0
    · rename_i hc
      cases h0
      obtain ⟨h1, h2, rfl⟩ := hc
      refine (Tryz.strconv_FormatInt_10 i_ h1 h2 w0 (hG.tab10 w0 hv)).mono fun e w' h => ?_
      obtain ⟨h1, k, os, rfl⟩ := h
      exact Ret0.below (s := .v (.string ⟨⟨_⟩⟩)) hv h1 (Go.Lib.below_grow _ _ (Nat.le_refl _) _ _) trivial rfl rfl
    · cases h0
def strconv_FormatInt (i_ : Int) (base_ : Int) : Option (Str × Unit) := mapO (fun r => (r, ())) (strconv_FormatInt_x i_ base_)
def strconv_FormatInt_s : Shape := ⟨[(0, .int .i64), (1, .int .i64)], []⟩
def strconv_FormatInt_o : List OutP := [⟨false, .str, []⟩]
def strconv_FormatInt_c : Dn.Callee Y := callee Y [] strconv_FormatInt_s strconv_FormatInt_o (fun z => strconv_FormatInt z.1 z.2.1)
theorem strconv_FormatInt_ok : COk hY Tryz.prog Glob 107 strconv_FormatInt_c :=
  COk.ext (l := strconv_FormatInt_s.l) ⟨⟨_, Tryz.func107, by kernel_rfl, rfl⟩⟩ ⟨rfl, rfl⟩ rfl fun z zo h => ⟨_, _, rfl, rfl, fun w F hG hv => by
    obtain ⟨r, hr, rfl⟩ := mapO_some h
    exact strconv_FormatInt_x.ok z.1 z.2.1 r hr w F hv hG (by simp [SV.goods, SV.good]) (fun _ => 0)⟩
def units_Len (u : Str) : Option (Int × Unit) :=
  let n_1 := (IntKind.wrap .i64 (Int.tdiv ((u.length : Nat) : Int) 2))
  some (n_1, ())
def units_Len_s : Shape := ⟨[(0, .str)], []⟩
def units_Len_o : List OutP := [⟨false, .int .i64, []⟩]
def units_Len_c : Dn.Callee Y := callee Y [] units_Len_s units_Len_o (fun z => units_Len z.1)
def units_Len_k : Cuts Y (ParO Y units_Len_o) := .nil
theorem units_Len_ok : COk hY Tryz.prog Glob 121 (units_Len_c) :=
  fn_ok (body := (Tryz.f121.body).getD .skip) (T := []) (units_Len_k) Tryz.func121 (by kernel_rfl) ⟨⟨_, Tryz.func121, by kernel_rfl, rfl⟩⟩ hsz .nil (fun _ _ hle h => h.mono hle) (by kernel_rfl)
    trivial
    (fun z => by kernel_rfl)
def units_At (u : Str) (i : Int) : Option (Int × Unit) :=
  if (decide (i < 0)) = true then
   some ((-1), ())
  else
   Option.bind (units_Len u) fun r_1 =>
   if (decide (i ≥ r_1.1)) = true then
    some ((-1), ())
   else
    Option.bind (getB u (IntKind.wrap .i64 (2 * i))) fun c_2 =>
    let n_3 := (IntKind.wrap .i64 ((IntKind.wrap .i64 c_2) * 2 ^ 8))
    let n_4 := (IntKind.wrap .i64 ((IntKind.wrap .i64 (2 * i)) + 1))
    Option.bind (getB u n_4) fun c_5 =>
    let n_6 := (IntKind.wrap .i64 ((BitVec.ofInt 64 n_3 ||| BitVec.ofInt 64 (IntKind.wrap .i64 c_5)).toNat))
    some (n_6, ())
def units_At_s : Shape := ⟨[(0, .str), (1, .int .i64)], []⟩
def units_At_o : List OutP := [⟨false, .int .i64, []⟩]
def units_At_c : Dn.Callee Y := callee Y [] units_At_s units_At_o (fun z => units_At z.1 z.2.1)
def units_At_k : Cuts Y (ParO Y units_At_o) := .nil
theorem units_At_ok : COk hY Tryz.prog Glob 122 (units_At_c) :=
  fn_ok (body := (Tryz.f122.body).getD .skip) (T := [(121, (units_Len_c))]) (units_At_k) Tryz.func122 (by kernel_rfl) ⟨⟨_, Tryz.func122, by kernel_rfl, rfl⟩⟩ hsz ((.cons units_Len_ok .nil) : TabOk hY Tryz.prog Glob [(121, (units_Len_c))]) (fun _ _ hle h => h.mono hle) (by kernel_rfl)
    trivial
    (fun z => by kernel_rfl)
def strings_IndexByte_x (s_ : Str) (c : Int) : Option (Int) := some (Lib.indexByte s_ c.toNat.toUInt8)
theorem strings_IndexByte_x.ok (s_ : Str) (c : Int) (r : Int) (h0 : strings_IndexByte_x s_ c = some r) (w0 : World) (F0 : Heap) (hv : F0.Sub w0) (hG : Glob F0) (hg : SV.goods F0 [.v (.string ⟨⟨s_⟩⟩), .v (.int .u8 c)]) (ρ : Nat → Nat) :
    Calls Tryz.prog 123 (SV.dens ρ [.v (.string ⟨⟨s_⟩⟩), .v (.int .u8 c)]).toArray w0 (Ret0 w0 F0 fun s => s = .v (.int .i64 r)) := by
  refine (Tryz.strings_IndexByte ⟨⟨s_⟩⟩ c w0).mono fun e w' h => ?_
  cases h0
  exact Ret0.pure (s := .v _) hv h.1 h.2 trivial rfl rfl
def strings_IndexByte (s_ : Str) (c : Int) : Option (Int × Unit) := mapO (fun r => (r, ())) (strings_IndexByte_x s_ c)
def strings_IndexByte_s : Shape := ⟨[(0, .str), (1, .int .u8)], []⟩
def strings_IndexByte_o : List OutP := [⟨false, .int .i64, []⟩]
def strings_IndexByte_c : Dn.Callee Y := callee Y [] strings_IndexByte_s strings_IndexByte_o (fun z => strings_IndexByte z.1 z.2.1)
theorem strings_IndexByte_ok : COk hY Tryz.prog Glob 123 strings_IndexByte_c :=
  COk.ext (l := strings_IndexByte_s.l) ⟨⟨_, Tryz.func123, by kernel_rfl, rfl⟩⟩ ⟨rfl, rfl⟩ rfl fun z zo h => ⟨_, _, rfl, rfl, fun w F hG hv => by
    obtain ⟨r, hr, rfl⟩ := mapO_some h
    exact strings_IndexByte_x.ok z.1 z.2.1 r hr w F hv hG (by simp [SV.goods, SV.good]) (fun _ => 0)⟩
def units_Quote_j5 (u_41 : Str) (n_42 : Int) (v_43 : Int) (v_44 : Int) (l_45 : List UInt8) : Option ((Str × Int × Int × (List UInt8) × Unit) ⊕ (Str × Int × Unit)) :=
  let n_46 := (IntKind.wrap .i64 ((BitVec.ofInt 64 n_42 ||| BitVec.ofInt 64 65536).toNat))
  Option.bind (strconv_FormatInt n_46 16) fun r_47 =>
  Option.bind (cutL r_47.1 1 ((r_47.1.length : Nat) : Int)) fun s_48 =>
  Option.bind (catS ([92, 117] : Str) s_48) fun s_49 =>
  Option.bind (room (l_45.length + s_49.length)) fun _ =>
  let l_50 := l_45 ++ s_49
  let n_51 := (IntKind.wrap .i64 (v_44 + 1))
  some (Sum.inl (u_41, v_43, n_51, l_50, ()))
def units_Quote_j4 (u_32 : Str) (n_33 : Int) (v_34 : Int) (v_35 : Int) (l_36 : List UInt8) : Option ((Str × Int × Int × (List UInt8) × Unit) ⊕ (Str × Int × Unit)) :=
  let b_37 := ((decide (n_33 < 32)) || (decide (n_33 > 126)))
  if b_37 = true then
   units_Quote_j5 u_32 n_33 v_34 v_35 l_36
  else
   Option.bind (toB (IntKind.wrap .u8 n_33)) fun b_38 =>
   Option.bind (room (l_36.length + ([b_38] : List UInt8).length)) fun _ =>
   let l_39 := l_36 ++ ([b_38] : List UInt8)
   let n_40 := (IntKind.wrap .i64 (v_35 + 1))
   some (Sum.inl (u_32, v_34, n_40, l_39, ()))
def units_Quote_j3 (u_21 : Str) (n_22 : Int) (v_23 : Int) (v_24 : Int) (v_25 : Int) (l_26 : List UInt8) : Option ((Str × Int × Int × (List UInt8) × Unit) ⊕ (Str × Int × Unit)) :=
  if (decide (v_23 ≥ 0)) = true then
   Option.bind (getB ([98, 116, 110, 102, 114] : Str) v_23) fun c_27 =>
   Option.bind (toB 92) fun b_28 =>
   Option.bind (toB c_27) fun b_29 =>
   Option.bind (room (l_26.length + ([b_28, b_29] : List UInt8).length)) fun _ =>
   let l_30 := l_26 ++ ([b_28, b_29] : List UInt8)
   let n_31 := (IntKind.wrap .i64 (v_25 + 1))
   some (Sum.inl (u_21, v_24, n_31, l_30, ()))
  else
   units_Quote_j4 u_21 n_22 v_24 v_25 l_26
def units_Quote_j2 (u_10 : Str) (n_11 : Int) (v_12 : Int) (v_13 : Int) (v_14 : Int) (l_15 : List UInt8) : Option ((Str × Int × Int × (List UInt8) × Unit) ⊕ (Str × Int × Unit)) :=
  let b_16 := ((n_11 == 34) || (n_11 == 92))
  if b_16 = true then
   Option.bind (toB 92) fun b_17 =>
   Option.bind (toB (IntKind.wrap .u8 n_11)) fun b_18 =>
   Option.bind (room (l_15.length + ([b_17, b_18] : List UInt8).length)) fun _ =>
   let l_19 := l_15 ++ ([b_17, b_18] : List UInt8)
   let n_20 := (IntKind.wrap .i64 (v_14 + 1))
   some (Sum.inl (u_10, v_13, n_20, l_19, ()))
  else
   units_Quote_j3 u_10 n_11 v_12 v_13 v_14 l_15
def units_Quote_l1 : Str × Int × Int × (List UInt8) × Unit → Option ((Str × Int × Int × (List UInt8) × Unit) ⊕ (Str × Int × Unit))
  | (u_3, v_4, v_5, l_6, ()) =>
    if (decide (v_5 < v_4)) = true then
     Option.bind (units_At u_3 v_5) fun r_7 =>
     if (decide (r_7.1 < 128)) = true then
      Option.bind (strings_IndexByte ([8, 9, 10, 12, 13] : Str) (IntKind.wrap .u8 r_7.1)) fun r_8 =>
      units_Quote_j2 u_3 r_7.1 r_8.1 v_4 v_5 l_6
     else
      units_Quote_j2 u_3 r_7.1 (-1) v_4 v_5 l_6
    else
     Option.bind (room (l_6.length + ([(UInt8.ofNat 34)] : List UInt8).length)) fun _ =>
     let l_9 := l_6 ++ ([(UInt8.ofNat 34)] : List UInt8)
     some (Sum.inr (l_9, 0, ()))
def units_Quote (u : Str) : Option (Str × Int × Unit) :=
  Option.bind (units_Check u) fun r_1 =>
  if (!r_1.1) = true then
   some (([] : Str), 10, ())
  else
   Option.bind (units_Len u) fun r_2 =>
   Lp.loop units_Quote_l1 (u, r_2.1, 0, ([(UInt8.ofNat 34)] : List UInt8), ())
def units_Quote_s : Shape := ⟨[(0, .str)], []⟩
def units_Quote_o : List OutP := [⟨false, .tup [.str, .int .i64], []⟩]
def units_Quote_c : Dn.Callee Y := callee Y [] units_Quote_s units_Quote_o (fun z => units_Quote z.1)
def units_Quote_k : Cuts Y (ParO Y units_Quote_o) := (.loop [[7, 5, 2, 1, 2, 2, 2], [8, 5, 2, 1, 2, 2, 2], [6, 2, 1, 2, 2, 2], [2, 2, 2, 2]] ⟨[(0, .str), (4, .own 0), (14, .int .i64), (15, .int .i64)], [.arr 5]⟩ (units_Quote_l1) (.join [[1, 5, 2, 2, 2, 2, 5, 1, 2, 2, 7, 5, 2, 1, 2, 2, 2], [2, 5, 2, 2, 2, 2, 5, 1, 2, 2, 7, 5, 2, 1, 2, 2, 2], [6, 2, 2, 2, 2, 5, 1, 2, 2, 7, 5, 2, 1, 2, 2, 2], [6, 1, 2, 2, 7, 5, 2, 1, 2, 2, 2], [2, 2, 2, 7, 5, 2, 1, 2, 2, 2], [8, 5, 2, 1, 2, 2, 2], [6, 2, 1, 2, 2, 2], [2, 2, 2, 2]] ⟨[(0, .str), (4, .own 0), (6, .int .i64), (7, .int .i64), (14, .int .i64), (15, .int .i64)], [.arr 5]⟩ (fun z => units_Quote_j2 z.1 z.2.1 z.2.2.1 z.2.2.2.1 z.2.2.2.2.1 z.2.2.2.2.2.1) (.join [[1, 4, 2, 5, 2, 2, 2, 2, 5, 1, 2, 2, 7, 5, 2, 1, 2, 2, 2], [2, 4, 2, 5, 2, 2, 2, 2, 5, 1, 2, 2, 7, 5, 2, 1, 2, 2, 2], [6, 2, 2, 2, 2, 5, 1, 2, 2, 7, 5, 2, 1, 2, 2, 2], [6, 1, 2, 2, 7, 5, 2, 1, 2, 2, 2], [2, 2, 2, 7, 5, 2, 1, 2, 2, 2], [8, 5, 2, 1, 2, 2, 2], [6, 2, 1, 2, 2, 2], [2, 2, 2, 2]] ⟨[(0, .str), (4, .own 0), (6, .int .i64), (7, .int .i64), (14, .int .i64), (15, .int .i64)], [.arr 5]⟩ (fun z => units_Quote_j3 z.1 z.2.1 z.2.2.1 z.2.2.2.1 z.2.2.2.2.1 z.2.2.2.2.2.1) (.join [[1, 4, 2, 4, 2, 5, 2, 2, 2, 2, 5, 1, 2, 2, 7, 5, 2, 1, 2, 2, 2], [2, 4, 2, 4, 2, 5, 2, 2, 2, 2, 5, 1, 2, 2, 7, 5, 2, 1, 2, 2, 2], [6, 2, 2, 2, 2, 5, 1, 2, 2, 7, 5, 2, 1, 2, 2, 2], [6, 1, 2, 2, 7, 5, 2, 1, 2, 2, 2], [2, 2, 2, 7, 5, 2, 1, 2, 2, 2], [8, 5, 2, 1, 2, 2, 2], [6, 2, 1, 2, 2, 2], [2, 2, 2, 2]] ⟨[(0, .str), (4, .own 0), (6, .int .i64), (14, .int .i64), (15, .int .i64)], [.arr 5]⟩ (fun z => units_Quote_j4 z.1 z.2.1 z.2.2.1 z.2.2.2.1 z.2.2.2.2.1) (.join [[1, 3, 2, 4, 2, 4, 2, 5, 2, 2, 2, 2, 5, 1, 2, 2, 7, 5, 2, 1, 2, 2, 2], [2, 3, 2, 4, 2, 4, 2, 5, 2, 2, 2, 2, 5, 1, 2, 2, 7, 5, 2, 1, 2, 2, 2], [6, 2, 2, 2, 2, 5, 1, 2, 2, 7, 5, 2, 1, 2, 2, 2], [6, 1, 2, 2, 7, 5, 2, 1, 2, 2, 2], [2, 2, 2, 7, 5, 2, 1, 2, 2, 2], [8, 5, 2, 1, 2, 2, 2], [6, 2, 1, 2, 2, 2], [2, 2, 2, 2]] ⟨[(0, .str), (4, .own 0), (6, .int .i64), (14, .int .i64), (15, .int .i64)], [.arr 5]⟩ (fun z => units_Quote_j5 z.1 z.2.1 z.2.2.1 z.2.2.2.1 z.2.2.2.2.1) .nil)))) .nil)
theorem units_Quote_ok : COk hY Tryz.prog Glob 108 (units_Quote_c) :=
  fn_ok (body := (Tryz.f108.body).getD .skip) (T := [(27, (units_Check_c)), (121, (units_Len_c)), (122, (units_At_c)), (123, (strings_IndexByte_c)), (107, (strconv_FormatInt_c))]) (units_Quote_k) Tryz.func108 (by kernel_rfl) ⟨⟨_, Tryz.func108, by kernel_rfl, rfl⟩⟩ hsz ((.cons units_Check_ok (.cons units_Len_ok (.cons units_At_ok (.cons strings_IndexByte_ok (.cons strconv_FormatInt_ok .nil))))) : TabOk hY Tryz.prog Glob [(27, (units_Check_c)), (121, (units_Len_c)), (122, (units_At_c)), (123, (strings_IndexByte_c)), (107, (strconv_FormatInt_c))]) (fun _ _ hle h => h.mono hle) (by kernel_rfl)
    ⟨fun z => by kernel_rfl, ⟨fun z => by kernel_rfl, ⟨fun z => by kernel_rfl, ⟨fun z => by kernel_rfl, ⟨fun z => by kernel_rfl, trivial⟩⟩⟩⟩, trivial⟩
    (fun z => by kernel_rfl)
def strconv_FormatBool_x (b_ : Bool) : Option (Str) := some (Lib.formatBool b_)
theorem strconv_FormatBool_x.ok (b_ : Bool) (r : Str) (h0 : strconv_FormatBool_x b_ = some r) (w0 : World) (F0 : Heap) (hv : F0.Sub w0) (hG : Glob F0) (hg : SV.goods F0 [.v (.bool b_)]) (ρ : Nat → Nat) :
    Calls Tryz.prog 109 (SV.dens ρ [.v (.bool b_)]).toArray w0 (Ret0 w0 F0 fun s => s = .v (.string ⟨⟨r⟩⟩)) := by
  refine (Tryz.strconv_FormatBool b_ w0).mono fun e w' h => ?_
  cases h0
  exact Ret0.pure (s := .v (.string ⟨⟨_⟩⟩)) hv h.1 h.2 trivial rfl rfl
def strconv_FormatBool (b_ : Bool) : Option (Str × Unit) := mapO (fun r => (r, ())) (strconv_FormatBool_x b_)
def strconv_FormatBool_s : Shape := ⟨[(0, .bool)], []⟩
def strconv_FormatBool_o : List OutP := [⟨false, .str, []⟩]
def strconv_FormatBool_c : Dn.Callee Y := callee Y [] strconv_FormatBool_s strconv_FormatBool_o (fun z => strconv_FormatBool z.1)
theorem strconv_FormatBool_ok : COk hY Tryz.prog Glob 109 strconv_FormatBool_c :=
  COk.ext (l := strconv_FormatBool_s.l) ⟨⟨_, Tryz.func109, by kernel_rfl, rfl⟩⟩ ⟨rfl, rfl⟩ rfl fun z zo h => ⟨_, _, rfl, rfl, fun w F hG hv => by
    obtain ⟨r, hr, rfl⟩ := mapO_some h
    exact strconv_FormatBool_x.ok z.1 r hr w F hv hG (by simp [SV.goods, SV.good]) (fun _ => 0)⟩
def slices_Insert (i : Int) (l v : List Str) : Option (List Str × Unit) := insF i l v
def slices_Insert_s : Shape := ⟨[(0, .own 0), (1, .int .i64), (2, .own 1)], [.arr 9, .arr 9]⟩
def slices_Insert_o : List OutP := [⟨false, .own 0, [.arr 9, .gone]⟩]
def slices_Insert_c : Dn.Callee Y := callee Y [0, 2] slices_Insert_s slices_Insert_o (fun z => slices_Insert z.1 z.2.1 z.2.2.1)
theorem slices_Insert_ok : COk hY Tryz.prog Glob 62 slices_Insert_c := ins_ok
structure Rec_tree_writer_stmts where
  tree_writer_stmts : (List T_api_Node) → Bool → (List Str) → Option (Bool × (List Str) × Unit)
  tree_writer_stmt : T_api_Node → Bool → (List Str) → Option (Bool × (List Str) × Unit)
  tree_writer_begin : T_api_Node → Int → Bool → (List Str) → Option (Bool × (List Str) × Unit)
  tree_writer_at : T_api_Node → Int → Bool → (List Str) → Option (Bool × (List Str) × Unit)
  tree_writer_inside : Str → Str → Bool → (List Str) → T_api_Node → Option (Bool × (List Str) × T_api_Node × Unit)
  tree_writer_at_1 : Bool → (List Str) → T_api_Node → Option (Bool × (List Str) × T_api_Node × Unit)
  tree_writer_expr : T_api_Node → Bool → (List Str) → Option (Bool × (List Str) × Unit)
  tree_writer_inside_v2 : Str → Str → Bool → (List Str) → T_api_Node → Option (Bool × (List Str) × T_api_Node × Unit)
  tree_writer_expr_1 : Bool → (List Str) → T_api_Node → Option (Bool × (List Str) × T_api_Node × Unit)
  tree_writer_list : (List T_api_Node) → Bool → (List Str) → Option (Bool × (List Str) × Unit)
  tree_writer_inside_v3 : Str → Str → Bool → (List Str) → T_api_Node → Option (Bool × (List Str) × T_api_Node × Unit)
  tree_writer_expr_2 : Bool → (List Str) → T_api_Node → Option (Bool × (List Str) × T_api_Node × Unit)
  tree_writer_function : T_api_Node → Bool → (List Str) → Option (Bool × (List Str) × Unit)
  tree_writer_inside_v4 : Str → Str → Bool → (List Str) → T_api_Node → Option (Bool × (List Str) × T_api_Node × Unit)
  tree_writer_function_1 : Bool → (List Str) → T_api_Node → Option (Bool × (List Str) × T_api_Node × Unit)
  tree_writer_operation : T_api_Node → Bool → (List Str) → Option (Bool × (List Str) × Unit)
  tree_writer_inside_v5 : Str → Str → Bool → (List Str) → (List T_api_Node) → Option (Bool × (List Str) × (List T_api_Node) × Unit)
  tree_writer_operation_1 : Bool → (List Str) → (List T_api_Node) → Option (Bool × (List Str) × (List T_api_Node) × Unit)
  tree_writer_inside_v6 : Str → Str → Bool → (List Str) → (List T_api_Node) → Option (Bool × (List Str) × (List T_api_Node) × Unit)
  tree_writer_operation_2 : Bool → (List Str) → (List T_api_Node) → Option (Bool × (List Str) × (List T_api_Node) × Unit)
  tree_writer_inside_v7 : Str → Str → Bool → (List Str) → (List T_api_Node) → Option (Bool × (List Str) × (List T_api_Node) × Unit)
  tree_writer_operation_3 : Bool → (List Str) → (List T_api_Node) → Option (Bool × (List Str) × (List T_api_Node) × Unit)
  tree_writer_head : Str → T_api_Node → Bool → (List Str) → Option (Bool × (List Str) × Unit)
  tree_writer_loop : T_api_Node → Bool → (List Str) → Option (Bool × (List Str) × Unit)
  tree_writer_word : T_api_Node → Bool → (List Str) → Option (Bool × (List Str) × Unit)
def tree_writer_stmts_s : Shape := ⟨[(0, .ptr 0 0), (1, .sl 25)], [.cells 39 [.own 1, .bool], .arr 9]⟩
def tree_writer_stmts_o : List OutP := [⟨false, .tup [], [.cells 39 [.own 1, .bool], .arr 9]⟩]
def tree_writer_stmts_c (g_ : Rec_tree_writer_stmts) : Dn.Callee Y := callee Y [] tree_writer_stmts_s tree_writer_stmts_o (fun z => g_.tree_writer_stmts z.1 z.2.1 z.2.2.1)
def tree_writer_stmt_s : Shape := ⟨[(0, .ptr 0 0), (1, .st 25)], [.cells 39 [.own 1, .bool], .arr 9]⟩
def tree_writer_stmt_o : List OutP := [⟨false, .tup [], [.cells 39 [.own 1, .bool], .arr 9]⟩]
def tree_writer_stmt_c (g_ : Rec_tree_writer_stmts) : Dn.Callee Y := callee Y [] tree_writer_stmt_s tree_writer_stmt_o (fun z => g_.tree_writer_stmt z.1 z.2.1 z.2.2.1)
def tree_writer_begin_s : Shape := ⟨[(0, .ptr 0 0), (1, .st 25), (2, .int .i64)], [.cells 39 [.own 1, .bool], .arr 9]⟩
def tree_writer_begin_o : List OutP := [⟨false, .tup [], [.cells 39 [.own 1, .bool], .arr 9]⟩]
def tree_writer_begin_c (g_ : Rec_tree_writer_stmts) : Dn.Callee Y := callee Y [] tree_writer_begin_s tree_writer_begin_o (fun z => g_.tree_writer_begin z.1 z.2.1 z.2.2.1 z.2.2.2.1)
def tree_writer_at_s : Shape := ⟨[(0, .ptr 0 0), (1, .st 25), (2, .int .i64)], [.cells 39 [.own 1, .bool], .arr 9]⟩
def tree_writer_at_o : List OutP := [⟨false, .tup [], [.cells 39 [.own 1, .bool], .arr 9]⟩]
def tree_writer_at_c (g_ : Rec_tree_writer_stmts) : Dn.Callee Y := callee Y [] tree_writer_at_s tree_writer_at_o (fun z => g_.tree_writer_at z.1 z.2.1 z.2.2.1 z.2.2.2.1)
def tree_writer_inside_s : Shape := ⟨[(0, .ptr 0 0), (1, .str), (2, .str), (3, .fn 90 [.ptr 2 0, .ptr 3 0])], [.cells 39 [.own 1, .bool], .arr 9, .cells 37 [.ptr 0 0], .whole 25 25]⟩
def tree_writer_inside_o : List OutP := [⟨false, .tup [], [.cells 39 [.own 1, .bool], .arr 9, .cells 37 [.ptr 0 0], .whole 25 25]⟩]
def tree_writer_inside_c (g_ : Rec_tree_writer_stmts) : Dn.Callee Y := callee Y [] tree_writer_inside_s tree_writer_inside_o (fun z => g_.tree_writer_inside z.1 z.2.1 z.2.2.1 z.2.2.2.1 z.2.2.2.2.1)
def tree_writer_at_1_s : Shape := ⟨[(0, .ptr 0 0), (1, .ptr 3 0)], [.cells 37 [.ptr 1 0], .cells 39 [.own 2, .bool], .arr 9, .whole 25 25]⟩
def tree_writer_at_1_o : List OutP := [⟨false, .tup [], [.cells 37 [.ptr 1 0], .cells 39 [.own 2, .bool], .arr 9, .whole 25 25]⟩]
def tree_writer_at_1_c (g_ : Rec_tree_writer_stmts) : Dn.Callee Y := callee Y [] tree_writer_at_1_s tree_writer_at_1_o (fun z => g_.tree_writer_at_1 z.1 z.2.1 z.2.2.1)
def tree_writer_expr_s : Shape := ⟨[(0, .ptr 0 0), (1, .st 25)], [.cells 39 [.own 1, .bool], .arr 9]⟩
def tree_writer_expr_o : List OutP := [⟨false, .tup [], [.cells 39 [.own 1, .bool], .arr 9]⟩]
def tree_writer_expr_c (g_ : Rec_tree_writer_stmts) : Dn.Callee Y := callee Y [] tree_writer_expr_s tree_writer_expr_o (fun z => g_.tree_writer_expr z.1 z.2.1 z.2.2.1)
def tree_writer_inside_v2_s : Shape := ⟨[(0, .ptr 0 0), (1, .str), (2, .str), (3, .fn 110 [.ptr 2 0, .ptr 3 0])], [.cells 39 [.own 1, .bool], .arr 9, .cells 37 [.ptr 0 0], .whole 25 25]⟩
def tree_writer_inside_v2_o : List OutP := [⟨false, .tup [], [.cells 39 [.own 1, .bool], .arr 9, .cells 37 [.ptr 0 0], .whole 25 25]⟩]
def tree_writer_inside_v2_c (g_ : Rec_tree_writer_stmts) : Dn.Callee Y := callee Y [] tree_writer_inside_v2_s tree_writer_inside_v2_o (fun z => g_.tree_writer_inside_v2 z.1 z.2.1 z.2.2.1 z.2.2.2.1 z.2.2.2.2.1)
def tree_writer_expr_1_s : Shape := ⟨[(0, .ptr 0 0), (1, .ptr 3 0)], [.cells 37 [.ptr 1 0], .cells 39 [.own 2, .bool], .arr 9, .whole 25 25]⟩
def tree_writer_expr_1_o : List OutP := [⟨false, .tup [], [.cells 37 [.ptr 1 0], .cells 39 [.own 2, .bool], .arr 9, .whole 25 25]⟩]
def tree_writer_expr_1_c (g_ : Rec_tree_writer_stmts) : Dn.Callee Y := callee Y [] tree_writer_expr_1_s tree_writer_expr_1_o (fun z => g_.tree_writer_expr_1 z.1 z.2.1 z.2.2.1)
def tree_writer_list_s : Shape := ⟨[(0, .ptr 0 0), (1, .sl 25)], [.cells 39 [.own 1, .bool], .arr 9]⟩
def tree_writer_list_o : List OutP := [⟨false, .tup [], [.cells 39 [.own 1, .bool], .arr 9]⟩]
def tree_writer_list_c (g_ : Rec_tree_writer_stmts) : Dn.Callee Y := callee Y [] tree_writer_list_s tree_writer_list_o (fun z => g_.tree_writer_list z.1 z.2.1 z.2.2.1)
def tree_writer_inside_v3_s : Shape := ⟨[(0, .ptr 0 0), (1, .str), (2, .str), (3, .fn 112 [.ptr 2 0, .ptr 3 0])], [.cells 39 [.own 1, .bool], .arr 9, .cells 37 [.ptr 0 0], .whole 25 25]⟩
def tree_writer_inside_v3_o : List OutP := [⟨false, .tup [], [.cells 39 [.own 1, .bool], .arr 9, .cells 37 [.ptr 0 0], .whole 25 25]⟩]
def tree_writer_inside_v3_c (g_ : Rec_tree_writer_stmts) : Dn.Callee Y := callee Y [] tree_writer_inside_v3_s tree_writer_inside_v3_o (fun z => g_.tree_writer_inside_v3 z.1 z.2.1 z.2.2.1 z.2.2.2.1 z.2.2.2.2.1)
def tree_writer_expr_2_s : Shape := ⟨[(0, .ptr 0 0), (1, .ptr 3 0)], [.cells 37 [.ptr 1 0], .cells 39 [.own 2, .bool], .arr 9, .whole 25 25]⟩
def tree_writer_expr_2_o : List OutP := [⟨false, .tup [], [.cells 37 [.ptr 1 0], .cells 39 [.own 2, .bool], .arr 9, .whole 25 25]⟩]
def tree_writer_expr_2_c (g_ : Rec_tree_writer_stmts) : Dn.Callee Y := callee Y [] tree_writer_expr_2_s tree_writer_expr_2_o (fun z => g_.tree_writer_expr_2 z.1 z.2.1 z.2.2.1)
def tree_writer_function_s : Shape := ⟨[(0, .ptr 0 0), (1, .st 25)], [.cells 39 [.own 1, .bool], .arr 9]⟩
def tree_writer_function_o : List OutP := [⟨false, .tup [], [.cells 39 [.own 1, .bool], .arr 9]⟩]
def tree_writer_function_c (g_ : Rec_tree_writer_stmts) : Dn.Callee Y := callee Y [] tree_writer_function_s tree_writer_function_o (fun z => g_.tree_writer_function z.1 z.2.1 z.2.2.1)
def tree_writer_inside_v4_s : Shape := ⟨[(0, .ptr 0 0), (1, .str), (2, .str), (3, .fn 94 [.ptr 2 0, .ptr 3 0])], [.cells 39 [.own 1, .bool], .arr 9, .cells 37 [.ptr 0 0], .whole 25 25]⟩
def tree_writer_inside_v4_o : List OutP := [⟨false, .tup [], [.cells 39 [.own 1, .bool], .arr 9, .cells 37 [.ptr 0 0], .whole 25 25]⟩]
def tree_writer_inside_v4_c (g_ : Rec_tree_writer_stmts) : Dn.Callee Y := callee Y [] tree_writer_inside_v4_s tree_writer_inside_v4_o (fun z => g_.tree_writer_inside_v4 z.1 z.2.1 z.2.2.1 z.2.2.2.1 z.2.2.2.2.1)
def tree_writer_function_1_s : Shape := ⟨[(0, .ptr 0 0), (1, .ptr 3 0)], [.cells 37 [.ptr 1 0], .cells 39 [.own 2, .bool], .arr 9, .whole 25 25]⟩
def tree_writer_function_1_o : List OutP := [⟨false, .tup [], [.cells 37 [.ptr 1 0], .cells 39 [.own 2, .bool], .arr 9, .whole 25 25]⟩]
def tree_writer_function_1_c (g_ : Rec_tree_writer_stmts) : Dn.Callee Y := callee Y [] tree_writer_function_1_s tree_writer_function_1_o (fun z => g_.tree_writer_function_1 z.1 z.2.1 z.2.2.1)
def tree_writer_operation_s : Shape := ⟨[(0, .ptr 0 0), (1, .st 25)], [.cells 39 [.own 1, .bool], .arr 9]⟩
def tree_writer_operation_o : List OutP := [⟨false, .tup [], [.cells 39 [.own 1, .bool], .arr 9]⟩]
def tree_writer_operation_c (g_ : Rec_tree_writer_stmts) : Dn.Callee Y := callee Y [] tree_writer_operation_s tree_writer_operation_o (fun z => g_.tree_writer_operation z.1 z.2.1 z.2.2.1)
def tree_writer_inside_v5_s : Shape := ⟨[(0, .ptr 0 0), (1, .str), (2, .str), (3, .fn 125 [.ptr 2 0, .ptr 3 0])], [.cells 39 [.own 1, .bool], .arr 9, .cells 37 [.ptr 0 0], .cells 23 [.sl 25]]⟩
def tree_writer_inside_v5_o : List OutP := [⟨false, .tup [], [.cells 39 [.own 1, .bool], .arr 9, .cells 37 [.ptr 0 0], .cells 23 [.sl 25]]⟩]
def tree_writer_inside_v5_c (g_ : Rec_tree_writer_stmts) : Dn.Callee Y := callee Y [] tree_writer_inside_v5_s tree_writer_inside_v5_o (fun z => g_.tree_writer_inside_v5 z.1 z.2.1 z.2.2.1 z.2.2.2.1 z.2.2.2.2.1)
def tree_writer_operation_1_s : Shape := ⟨[(0, .ptr 0 0), (1, .ptr 3 0)], [.cells 37 [.ptr 1 0], .cells 39 [.own 2, .bool], .arr 9, .cells 23 [.sl 25]]⟩
def tree_writer_operation_1_o : List OutP := [⟨false, .tup [], [.cells 37 [.ptr 1 0], .cells 39 [.own 2, .bool], .arr 9, .cells 23 [.sl 25]]⟩]
def tree_writer_operation_1_c (g_ : Rec_tree_writer_stmts) : Dn.Callee Y := callee Y [] tree_writer_operation_1_s tree_writer_operation_1_o (fun z => g_.tree_writer_operation_1 z.1 z.2.1 z.2.2.1)
def tree_writer_inside_v6_s : Shape := ⟨[(0, .ptr 0 0), (1, .str), (2, .str), (3, .fn 126 [.ptr 2 0, .ptr 3 0])], [.cells 39 [.own 1, .bool], .arr 9, .cells 37 [.ptr 0 0], .cells 23 [.sl 25]]⟩
def tree_writer_inside_v6_o : List OutP := [⟨false, .tup [], [.cells 39 [.own 1, .bool], .arr 9, .cells 37 [.ptr 0 0], .cells 23 [.sl 25]]⟩]
def tree_writer_inside_v6_c (g_ : Rec_tree_writer_stmts) : Dn.Callee Y := callee Y [] tree_writer_inside_v6_s tree_writer_inside_v6_o (fun z => g_.tree_writer_inside_v6 z.1 z.2.1 z.2.2.1 z.2.2.2.1 z.2.2.2.2.1)
def tree_writer_operation_2_s : Shape := ⟨[(0, .ptr 0 0), (1, .ptr 3 0)], [.cells 37 [.ptr 1 0], .cells 39 [.own 2, .bool], .arr 9, .cells 23 [.sl 25]]⟩
def tree_writer_operation_2_o : List OutP := [⟨false, .tup [], [.cells 37 [.ptr 1 0], .cells 39 [.own 2, .bool], .arr 9, .cells 23 [.sl 25]]⟩]
def tree_writer_operation_2_c (g_ : Rec_tree_writer_stmts) : Dn.Callee Y := callee Y [] tree_writer_operation_2_s tree_writer_operation_2_o (fun z => g_.tree_writer_operation_2 z.1 z.2.1 z.2.2.1)
def tree_writer_inside_v7_s : Shape := ⟨[(0, .ptr 0 0), (1, .str), (2, .str), (3, .fn 127 [.ptr 2 0, .ptr 3 0])], [.cells 39 [.own 1, .bool], .arr 9, .cells 37 [.ptr 0 0], .cells 23 [.sl 25]]⟩
def tree_writer_inside_v7_o : List OutP := [⟨false, .tup [], [.cells 39 [.own 1, .bool], .arr 9, .cells 37 [.ptr 0 0], .cells 23 [.sl 25]]⟩]
def tree_writer_inside_v7_c (g_ : Rec_tree_writer_stmts) : Dn.Callee Y := callee Y [] tree_writer_inside_v7_s tree_writer_inside_v7_o (fun z => g_.tree_writer_inside_v7 z.1 z.2.1 z.2.2.1 z.2.2.2.1 z.2.2.2.2.1)
def tree_writer_operation_3_s : Shape := ⟨[(0, .ptr 0 0), (1, .ptr 3 0)], [.cells 37 [.ptr 1 0], .cells 39 [.own 2, .bool], .arr 9, .cells 23 [.sl 25]]⟩
def tree_writer_operation_3_o : List OutP := [⟨false, .tup [], [.cells 37 [.ptr 1 0], .cells 39 [.own 2, .bool], .arr 9, .cells 23 [.sl 25]]⟩]
def tree_writer_operation_3_c (g_ : Rec_tree_writer_stmts) : Dn.Callee Y := callee Y [] tree_writer_operation_3_s tree_writer_operation_3_o (fun z => g_.tree_writer_operation_3 z.1 z.2.1 z.2.2.1)
def tree_writer_head_s : Shape := ⟨[(0, .ptr 0 0), (1, .str), (2, .st 25)], [.cells 39 [.own 1, .bool], .arr 9]⟩
def tree_writer_head_o : List OutP := [⟨false, .tup [], [.cells 39 [.own 1, .bool], .arr 9]⟩]
def tree_writer_head_c (g_ : Rec_tree_writer_stmts) : Dn.Callee Y := callee Y [] tree_writer_head_s tree_writer_head_o (fun z => g_.tree_writer_head z.1 z.2.1 z.2.2.1 z.2.2.2.1)
def tree_writer_loop_s : Shape := ⟨[(0, .ptr 0 0), (1, .st 25)], [.cells 39 [.own 1, .bool], .arr 9]⟩
def tree_writer_loop_o : List OutP := [⟨false, .tup [], [.cells 39 [.own 1, .bool], .arr 9]⟩]
def tree_writer_loop_c (g_ : Rec_tree_writer_stmts) : Dn.Callee Y := callee Y [] tree_writer_loop_s tree_writer_loop_o (fun z => g_.tree_writer_loop z.1 z.2.1 z.2.2.1)
def tree_writer_word_s : Shape := ⟨[(0, .ptr 0 0), (1, .st 25)], [.cells 39 [.own 1, .bool], .arr 9]⟩
def tree_writer_word_o : List OutP := [⟨false, .tup [], [.cells 39 [.own 1, .bool], .arr 9]⟩]
def tree_writer_word_c (g_ : Rec_tree_writer_stmts) : Dn.Callee Y := callee Y [] tree_writer_word_s tree_writer_word_o (fun z => g_.tree_writer_word z.1 z.2.1 z.2.2.1)
structure Rec_tree_writer_stmts_ok (g_ : Rec_tree_writer_stmts) : Prop where
  tree_writer_stmts : COk hY Tryz.prog Glob 20 (tree_writer_stmts_c g_)
  tree_writer_stmt : COk hY Tryz.prog Glob 37 (tree_writer_stmt_c g_)
  tree_writer_begin : COk hY Tryz.prog Glob 59 (tree_writer_begin_c g_)
  tree_writer_at : COk hY Tryz.prog Glob 61 (tree_writer_at_c g_)
  tree_writer_inside : COk hY Tryz.prog Glob 89 (tree_writer_inside_c g_)
  tree_writer_at_1 : COk hY Tryz.prog Glob 90 (tree_writer_at_1_c g_)
  tree_writer_expr : COk hY Tryz.prog Glob 91 (tree_writer_expr_c g_)
  tree_writer_inside_v2 : COk hY Tryz.prog Glob 89 (tree_writer_inside_v2_c g_)
  tree_writer_expr_1 : COk hY Tryz.prog Glob 110 (tree_writer_expr_1_c g_)
  tree_writer_list : COk hY Tryz.prog Glob 111 (tree_writer_list_c g_)
  tree_writer_inside_v3 : COk hY Tryz.prog Glob 89 (tree_writer_inside_v3_c g_)
  tree_writer_expr_2 : COk hY Tryz.prog Glob 112 (tree_writer_expr_2_c g_)
  tree_writer_function : COk hY Tryz.prog Glob 65 (tree_writer_function_c g_)
  tree_writer_inside_v4 : COk hY Tryz.prog Glob 89 (tree_writer_inside_v4_c g_)
  tree_writer_function_1 : COk hY Tryz.prog Glob 94 (tree_writer_function_1_c g_)
  tree_writer_operation : COk hY Tryz.prog Glob 113 (tree_writer_operation_c g_)
  tree_writer_inside_v5 : COk hY Tryz.prog Glob 89 (tree_writer_inside_v5_c g_)
  tree_writer_operation_1 : COk hY Tryz.prog Glob 125 (tree_writer_operation_1_c g_)
  tree_writer_inside_v6 : COk hY Tryz.prog Glob 89 (tree_writer_inside_v6_c g_)
  tree_writer_operation_2 : COk hY Tryz.prog Glob 126 (tree_writer_operation_2_c g_)
  tree_writer_inside_v7 : COk hY Tryz.prog Glob 89 (tree_writer_inside_v7_c g_)
  tree_writer_operation_3 : COk hY Tryz.prog Glob 127 (tree_writer_operation_3_c g_)
  tree_writer_head : COk hY Tryz.prog Glob 63 (tree_writer_head_c g_)
  tree_writer_loop : COk hY Tryz.prog Glob 64 (tree_writer_loop_c g_)
  tree_writer_word : COk hY Tryz.prog Glob 66 (tree_writer_word_c g_)
def tree_writer_stmts_l1 (g_ : Rec_tree_writer_stmts) : (List T_api_Node) × Int × Int × Bool × (List Str) × Unit → Option (((List T_api_Node) × Int × Int × Bool × (List Str) × Unit) ⊕ (Bool × (List Str) × Unit))
  | (v_1, v_2, v_3, no_4, l_5, ()) =>
    if (decide (v_3 < v_2)) = true then
     Option.bind (getI v_1 v_3) fun x_6 =>
     Option.bind (g_.tree_writer_stmt (re25 x_6) no_4 l_5) fun r_7 =>
     let n_8 := (IntKind.wrap .i64 (v_3 + 1))
     some (Sum.inl (v_1, v_2, n_8, r_7.1, r_7.2.1, ()))
    else
     some (Sum.inr (no_4, l_5, ()))
def tree_writer_stmts_b (g_ : Rec_tree_writer_stmts) (l : List T_api_Node) (no : Bool) (l2 : List Str) : Option (Bool × (List Str) × Unit) :=
  Lp.loop (tree_writer_stmts_l1 g_) (l, ((l.length : Nat) : Int), 0, no, l2, ())
def tree_writer_stmts_d (g_ : Rec_tree_writer_stmts) : Dn.Callee Y := callee Y [] tree_writer_stmts_s tree_writer_stmts_o (fun z => tree_writer_stmts_b g_ z.1 z.2.1 z.2.2.1)
def tree_writer_stmts_k (g_ : Rec_tree_writer_stmts) : Cuts Y (ParO Y tree_writer_stmts_o) := (.loop [[7, 5, 2], [8, 5, 2], [6, 2]] ⟨[(0, .ptr 0 0), (6, .sl 25), (7, .int .i64), (8, .int .i64)], [.cells 39 [.own 1, .bool], .arr 9]⟩ (tree_writer_stmts_l1 g_) .nil .nil)
theorem tree_writer_stmts_b_ok (g_ : Rec_tree_writer_stmts) (hg_ : Rec_tree_writer_stmts_ok g_) : COk hY Tryz.prog Glob 20 (tree_writer_stmts_d g_) :=
  fn_ok (body := (Tryz.f20.body).getD .skip) (T := [(37, (tree_writer_stmt_c g_))]) (tree_writer_stmts_k g_) Tryz.func20 (by kernel_rfl) ⟨⟨_, Tryz.func20, by kernel_rfl, rfl⟩⟩ hsz ((.cons hg_.tree_writer_stmt .nil) : TabOk hY Tryz.prog Glob [(37, (tree_writer_stmt_c g_))]) (fun _ _ hle h => h.mono hle) (by kernel_rfl)
    ⟨fun z => by kernel_rfl, trivial, trivial⟩
    (fun z => by kernel_rfl)
def tree_writer_stmt_j2 (g_ : Rec_tree_writer_stmts) (r_52 : List T_api_Node) (v_53 : Str) (no_54 : Bool) (l_55 : List Str) : Option (Bool × (List Str) × Unit) :=
  Option.bind (tree_writer_lay ([v_53] : List Str) no_54 l_55) fun r_56 =>
  Option.bind (getI r_52 0) fun x_57 =>
  Option.bind (g_.tree_writer_begin (re25 x_57) 0 r_56.1 r_56.2.1) fun r_58 =>
  Option.bind (tree_writer_lay ([([58] : Str)] : List Str) r_58.1 r_58.2.1) fun r_59 =>
  Option.bind (cutL r_52 1 ((r_52.length : Nat) : Int)) fun s_60 =>
  Option.bind (g_.tree_writer_stmts s_60 r_59.1 r_59.2.1) fun r_61 =>
  some (r_61.1, r_61.2.1, ())
def tree_writer_stmt_j1 (g_ : Rec_tree_writer_stmts) (r_45 : List T_api_Node) (no_46 : Bool) (l_47 : List Str) : Option (Bool × (List Str) × Unit) :=
  Option.bind (getI r_45 2) fun x_48 =>
  if (x_48.Kind == 25) = true then
   Option.bind (tree_writer_lay ([([102, 105, 110, 97, 108, 108, 121] : Str)] : List Str) no_46 l_47) fun r_49 =>
   Option.bind (getI r_45 2) fun x_50 =>
   Option.bind (g_.tree_writer_stmt (re25 x_50) r_49.1 r_49.2.1) fun r_51 =>
   some (r_51.1, r_51.2.1, ())
  else
   some (no_46, l_47, ())
def tree_writer_stmt_b (g_ : Rec_tree_writer_stmts) (o : T_api_Node) (no : Bool) (l : List Str) : Option (Bool × (List Str) × Unit) :=
  if (o.Kind == 22) = true then
   Option.bind (g_.tree_writer_begin (re25 o) 0 no l) fun r_1 =>
   Option.bind (tree_writer_lay ([([59] : Str)] : List Str) r_1.1 r_1.2.1) fun r_2 =>
   some (r_2.1, r_2.2.1, ())
  else
   if (o.Kind == 24) = true then
    Option.bind (getI o.L 0) fun x_3 =>
    Option.bind (g_.tree_writer_at (re25 x_3) 0 no l) fun r_4 =>
    Option.bind (getI r_4.2.1 ((l.length : Nat) : Int)) fun _ =>
    Option.bind (getI r_4.2.1 ((l.length : Nat) : Int)) fun x_5 =>
    let b_6 := ((x_5 == ([123] : Str)) || (x_5 == ([102, 117, 110, 99, 116, 105, 111, 110] : Str)))
    if b_6 = true then
     Option.bind (slices_Insert ((l.length : Nat) : Int) r_4.2.1 ([([40] : Str)] : List Str)) fun r_7 =>
     Option.bind (room (r_7.1.length + ([([41] : Str)] : List Str).length)) fun _ =>
     let l_8 := r_7.1 ++ ([([41] : Str)] : List Str)
     Option.bind (tree_writer_lay ([([59] : Str)] : List Str) r_4.1 l_8) fun r_9 =>
     some (r_9.1, r_9.2.1, ())
    else
     Option.bind (tree_writer_lay ([([59] : Str)] : List Str) r_4.1 r_4.2.1) fun r_10 =>
     some (r_10.1, r_10.2.1, ())
   else
    if (o.Kind == 25) = true then
     Option.bind (tree_writer_lay ([([123] : Str)] : List Str) no l) fun r_11 =>
     Option.bind (g_.tree_writer_stmts o.L r_11.1 r_11.2.1) fun r_12 =>
     Option.bind (tree_writer_lay ([([125] : Str)] : List Str) r_12.1 r_12.2.1) fun r_13 =>
     some (r_13.1, r_13.2.1, ())
    else
     if (o.Kind == 26) = true then
      Option.bind (getI o.L 0) fun x_14 =>
      Option.bind (g_.tree_writer_head ([105, 102] : Str) (re25 x_14) no l) fun r_15 =>
      Option.bind (getI o.L 1) fun x_16 =>
      Option.bind (g_.tree_writer_stmt (re25 x_16) r_15.1 r_15.2.1) fun r_17 =>
      let b_18 := (((o.L.length : Nat) : Int) == 3)
      if b_18 = true then
       Option.bind (tree_writer_lay ([([101, 108, 115, 101] : Str)] : List Str) r_17.1 r_17.2.1) fun r_19 =>
       Option.bind (getI o.L 2) fun x_20 =>
       Option.bind (g_.tree_writer_stmt (re25 x_20) r_19.1 r_19.2.1) fun r_21 =>
       some (r_21.1, r_21.2.1, ())
      else
       some (r_17.1, r_17.2.1, ())
     else
      if (o.Kind == 27) = true then
       Option.bind (g_.tree_writer_loop (re25 o) no l) fun r_22 =>
       some (r_22.1, r_22.2.1, ())
      else
       if (o.Kind == 28) = true then
        Option.bind (g_.tree_writer_loop (re25 o) no l) fun r_23 =>
        some (r_23.1, r_23.2.1, ())
       else
        if (o.Kind == 29) = true then
         Option.bind (g_.tree_writer_loop (re25 o) no l) fun r_24 =>
         some (r_24.1, r_24.2.1, ())
        else
         if (o.Kind == 30) = true then
          Option.bind (g_.tree_writer_loop (re25 o) no l) fun r_25 =>
          some (r_25.1, r_25.2.1, ())
         else
          if (o.Kind == 35) = true then
           Option.bind (tree_writer_lay ([([116, 114, 121] : Str)] : List Str) no l) fun r_26 =>
           Option.bind (getI o.L 0) fun x_27 =>
           Option.bind (g_.tree_writer_stmt (re25 x_27) r_26.1 r_26.2.1) fun r_28 =>
           Option.bind (getI o.L 1) fun x_29 =>
           if (x_29.Kind == 25) = true then
            Option.bind (tree_writer_lay ([([99, 97, 116, 99, 104] : Str), ([40] : Str), o.Name, ([41] : Str)] : List Str) r_28.1 r_28.2.1) fun r_30 =>
            Option.bind (getI o.L 1) fun x_31 =>
            Option.bind (g_.tree_writer_stmt (re25 x_31) r_30.1 r_30.2.1) fun r_32 =>
            tree_writer_stmt_j1 g_ o.L r_32.1 r_32.2.1
           else
            tree_writer_stmt_j1 g_ o.L r_28.1 r_28.2.1
          else
           if (o.Kind == 36) = true then
            Option.bind (getI o.L 0) fun x_33 =>
            Option.bind (g_.tree_writer_head ([115, 119, 105, 116, 99, 104] : Str) (re25 x_33) no l) fun r_34 =>
            Option.bind (tree_writer_lay ([([123] : Str)] : List Str) r_34.1 r_34.2.1) fun r_35 =>
            Option.bind (cutL o.L 1 ((o.L.length : Nat) : Int)) fun s_36 =>
            Option.bind (g_.tree_writer_stmts s_36 r_35.1 r_35.2.1) fun r_37 =>
            Option.bind (tree_writer_lay ([([125] : Str)] : List Str) r_37.1 r_37.2.1) fun r_38 =>
            some (r_38.1, r_38.2.1, ())
           else
            if (o.Kind == 37) = true then
             Option.bind (getI o.L 0) fun x_39 =>
             if (x_39.Kind != 42) = true then
              tree_writer_stmt_j2 g_ o.L ([99, 97, 115, 101] : Str) no l
             else
              tree_writer_stmt_j2 g_ o.L ([100, 101, 102, 97, 117, 108, 116] : Str) no l
            else
             if (o.Kind == 38) = true then
              Option.bind (tree_writer_lay ([o.Name, ([58] : Str)] : List Str) no l) fun r_40 =>
              Option.bind (getI o.L 0) fun x_41 =>
              Option.bind (g_.tree_writer_stmt (re25 x_41) r_40.1 r_40.2.1) fun r_42 =>
              some (r_42.1, r_42.2.1, ())
             else
              if (o.Kind == 39) = true then
               Option.bind (g_.tree_writer_function (re25 o) no l) fun r_43 =>
               some (r_43.1, r_43.2.1, ())
              else
               Option.bind (g_.tree_writer_word (re25 o) no l) fun r_44 =>
               some (r_44.1, r_44.2.1, ())
def tree_writer_stmt_d (g_ : Rec_tree_writer_stmts) : Dn.Callee Y := callee Y [] tree_writer_stmt_s tree_writer_stmt_o (fun z => tree_writer_stmt_b g_ z.1 z.2.1 z.2.2.1)
def tree_writer_stmt_k (g_ : Rec_tree_writer_stmts) : Cuts Y (ParO Y tree_writer_stmt_o) := (.join [[1, 2, 2, 2, 3, 2, 4, 2, 4, 2, 4, 2, 4, 2, 4, 2, 5, 2, 2, 2], [2, 2, 2, 2, 3, 2, 4, 2, 4, 2, 4, 2, 4, 2, 4, 2, 5, 2, 2, 2], [6, 2, 2, 2]] ⟨[(0, .ptr 0 0), (4, .sl 25)], [.cells 39 [.own 1, .bool], .arr 9]⟩ (fun z => tree_writer_stmt_j1 g_ z.1 z.2.1 z.2.2.1) (.join [[1, 2, 2, 3, 2, 4, 2, 4, 2, 4, 2, 4, 2, 4, 2, 4, 2, 4, 2, 5, 2, 2, 2], [2, 2, 2, 3, 2, 4, 2, 4, 2, 4, 2, 4, 2, 4, 2, 4, 2, 4, 2, 5, 2, 2, 2], [6, 2, 2, 2]] ⟨[(0, .ptr 0 0), (4, .sl 25), (7, .str)], [.cells 39 [.own 1, .bool], .arr 9]⟩ (fun z => tree_writer_stmt_j2 g_ z.1 z.2.1 z.2.2.1 z.2.2.2.1) .nil))
theorem tree_writer_stmt_b_ok (g_ : Rec_tree_writer_stmts) (hg_ : Rec_tree_writer_stmts_ok g_) : COk hY Tryz.prog Glob 37 (tree_writer_stmt_d g_) :=
  fn_ok (body := (Tryz.f37.body).getD .skip) (T := [(59, (tree_writer_begin_c g_)), (60, (tree_writer_lay_c)), (61, (tree_writer_at_c g_)), (62, (slices_Insert_c)), (20, (tree_writer_stmts_c g_)), (63, (tree_writer_head_c g_)), (37, (tree_writer_stmt_c g_)), (64, (tree_writer_loop_c g_)), (65, (tree_writer_function_c g_)), (66, (tree_writer_word_c g_))]) (tree_writer_stmt_k g_) Tryz.func37 (by kernel_rfl) ⟨⟨_, Tryz.func37, by kernel_rfl, rfl⟩⟩ hsz ((.cons hg_.tree_writer_begin (.cons tree_writer_lay_ok (.cons hg_.tree_writer_at (.cons slices_Insert_ok (.cons hg_.tree_writer_stmts (.cons hg_.tree_writer_head (.cons hg_.tree_writer_stmt (.cons hg_.tree_writer_loop (.cons hg_.tree_writer_function (.cons hg_.tree_writer_word .nil)))))))))) : TabOk hY Tryz.prog Glob [(59, (tree_writer_begin_c g_)), (60, (tree_writer_lay_c)), (61, (tree_writer_at_c g_)), (62, (slices_Insert_c)), (20, (tree_writer_stmts_c g_)), (63, (tree_writer_head_c g_)), (37, (tree_writer_stmt_c g_)), (64, (tree_writer_loop_c g_)), (65, (tree_writer_function_c g_)), (66, (tree_writer_word_c g_))]) (fun _ _ hle h => h.mono hle) (by kernel_rfl)
    ⟨fun z => by kernel_rfl, ⟨fun z => by kernel_rfl, trivial⟩⟩
    (fun z => by kernel_rfl)
def tree_writer_begin_j3 (g_ : Rec_tree_writer_stmts) (v_17 : List T_api_Node) (v_18 : Int) (v_19 : Int) (no_20 : Bool) (l_21 : List Str) (x_22 : T_api_Node) : Option (((List T_api_Node) × Int × Int × Bool × (List Str) × Unit) ⊕ (Bool × (List Str) × Unit)) :=
  let n_23 := ((x_22.L.length : Nat) : Int)
  if (decide (n_23 > 0)) = true then
   Option.bind (tree_writer_lay ([([61] : Str)] : List Str) no_20 l_21) fun r_24 =>
   Option.bind (getI x_22.L 0) fun x_25 =>
   Option.bind (g_.tree_writer_at (re25 x_25) 1 r_24.1 r_24.2.1) fun r_26 =>
   let n_27 := (IntKind.wrap .i64 (v_19 + 1))
   some (Sum.inl (v_17, v_18, n_27, r_26.1, r_26.2.1, ()))
  else
   let n_28 := (IntKind.wrap .i64 (v_19 + 1))
   some (Sum.inl (v_17, v_18, n_28, no_20, l_21, ()))
def tree_writer_begin_j2 (g_ : Rec_tree_writer_stmts) (v_10 : List T_api_Node) (v_11 : Int) (v_12 : Int) (no_13 : Bool) (l_14 : List Str) (x_15 : T_api_Node) : Option (((List T_api_Node) × Int × Int × Bool × (List Str) × Unit) ⊕ (Bool × (List Str) × Unit)) :=
  Option.bind (tree_writer_lay ([x_15.Name] : List Str) no_13 l_14) fun r_16 =>
  tree_writer_begin_j3 g_ v_10 v_11 v_12 r_16.1 r_16.2.1 (re25 x_15)
def tree_writer_begin_l1 (g_ : Rec_tree_writer_stmts) : (List T_api_Node) × Int × Int × Bool × (List Str) × Unit → Option (((List T_api_Node) × Int × Int × Bool × (List Str) × Unit) ⊕ (Bool × (List Str) × Unit))
  | (v_3, v_4, v_5, no_6, l_7, ()) =>
    if (decide (v_5 < v_4)) = true then
     Option.bind (getI v_3 v_5) fun x_8 =>
     if (decide (v_5 > 0)) = true then
      Option.bind (tree_writer_lay ([([44] : Str)] : List Str) no_6 l_7) fun r_9 =>
      tree_writer_begin_j2 g_ v_3 v_4 v_5 r_9.1 r_9.2.1 (re25 x_8)
     else
      tree_writer_begin_j2 g_ v_3 v_4 v_5 no_6 l_7 (re25 x_8)
    else
     some (Sum.inr (no_6, l_7, ()))
def tree_writer_begin_b (g_ : Rec_tree_writer_stmts) (n : T_api_Node) (least : Int) (no : Bool) (l : List Str) : Option (Bool × (List Str) × Unit) :=
  if (n.Kind == 42) = true then
   some (no, l, ())
  else
   if (n.Kind == 22) = true then
    Option.bind (tree_writer_lay ([([118, 97, 114] : Str)] : List Str) no l) fun r_1 =>
    Lp.loop (tree_writer_begin_l1 g_) (n.L, ((n.L.length : Nat) : Int), 0, r_1.1, r_1.2.1, ())
   else
    Option.bind (g_.tree_writer_at (re25 n) least no l) fun r_2 =>
    some (r_2.1, r_2.2.1, ())
def tree_writer_begin_d (g_ : Rec_tree_writer_stmts) : Dn.Callee Y := callee Y [] tree_writer_begin_s tree_writer_begin_o (fun z => tree_writer_begin_b g_ z.1 z.2.1 z.2.2.1 z.2.2.2.1)
def tree_writer_begin_k (g_ : Rec_tree_writer_stmts) : Cuts Y (ParO Y tree_writer_begin_o) := (.loop [[7, 5, 2, 2, 3, 2, 4, 2, 5, 2, 2], [8, 5, 2, 2, 3, 2, 4, 2, 5, 2, 2], [6, 2, 2, 3, 2, 4, 2, 5, 2, 2], [6, 2, 2]] ⟨[(0, .ptr 0 0), (22, .sl 25), (23, .int .i64), (24, .int .i64)], [.cells 39 [.own 1, .bool], .arr 9]⟩ (tree_writer_begin_l1 g_) (.join [[1, 2, 2, 5, 1, 2, 2, 7, 5, 2, 2, 3, 2, 4, 2, 5, 2, 2], [2, 2, 2, 5, 1, 2, 2, 7, 5, 2, 2, 3, 2, 4, 2, 5, 2, 2], [6, 1, 2, 2, 7, 5, 2, 2, 3, 2, 4, 2, 5, 2, 2], [2, 2, 2, 7, 5, 2, 2, 3, 2, 4, 2, 5, 2, 2], [8, 5, 2, 2, 3, 2, 4, 2, 5, 2, 2], [6, 2, 2, 3, 2, 4, 2, 5, 2, 2], [6, 2, 2]] ⟨[(0, .ptr 0 0), (7, .ptr 2 0), (22, .sl 25), (23, .int .i64), (24, .int .i64)], [.cells 39 [.own 1, .bool], .arr 9, .whole 25 25]⟩ (fun z => tree_writer_begin_j2 g_ z.1 z.2.1 z.2.2.1 z.2.2.2.1 z.2.2.2.2.1 z.2.2.2.2.2.1) (.join [[1, 2, 2, 2, 5, 1, 2, 2, 7, 5, 2, 2, 3, 2, 4, 2, 5, 2, 2], [2, 2, 2, 2, 5, 1, 2, 2, 7, 5, 2, 2, 3, 2, 4, 2, 5, 2, 2], [6, 1, 2, 2, 7, 5, 2, 2, 3, 2, 4, 2, 5, 2, 2], [2, 2, 2, 7, 5, 2, 2, 3, 2, 4, 2, 5, 2, 2], [8, 5, 2, 2, 3, 2, 4, 2, 5, 2, 2], [6, 2, 2, 3, 2, 4, 2, 5, 2, 2], [6, 2, 2]] ⟨[(0, .ptr 0 0), (7, .ptr 2 0), (22, .sl 25), (23, .int .i64), (24, .int .i64)], [.cells 39 [.own 1, .bool], .arr 9, .whole 25 25]⟩ (fun z => tree_writer_begin_j3 g_ z.1 z.2.1 z.2.2.1 z.2.2.2.1 z.2.2.2.2.1 z.2.2.2.2.2.1) .nil)) .nil)
theorem tree_writer_begin_b_ok (g_ : Rec_tree_writer_stmts) (hg_ : Rec_tree_writer_stmts_ok g_) : COk hY Tryz.prog Glob 59 (tree_writer_begin_d g_) :=
  fn_ok (body := (Tryz.f59.body).getD .skip) (T := [(60, (tree_writer_lay_c)), (61, (tree_writer_at_c g_))]) (tree_writer_begin_k g_) Tryz.func59 (by kernel_rfl) ⟨⟨_, Tryz.func59, by kernel_rfl, rfl⟩⟩ hsz ((.cons tree_writer_lay_ok (.cons hg_.tree_writer_at .nil)) : TabOk hY Tryz.prog Glob [(60, (tree_writer_lay_c)), (61, (tree_writer_at_c g_))]) (fun _ _ hle h => h.mono hle) (by kernel_rfl)
    ⟨fun z => by kernel_rfl, ⟨fun z => by kernel_rfl, ⟨fun z => by kernel_rfl, trivial⟩⟩, trivial⟩
    (fun z => by kernel_rfl)
def tree_writer_at_b (g_ : Rec_tree_writer_stmts) (n : T_api_Node) (least : Int) (no : Bool) (l : List Str) : Option (Bool × (List Str) × Unit) :=
  Option.bind (tree_level (re25 n)) fun r_1 =>
  let b_2 := ((decide (r_1.1 < least)) || ((no && (n.Kind == 17)) && (n.Name == ([105, 110] : Str))))
  if b_2 = true then
   Option.bind (g_.tree_writer_inside ([40] : Str) ([41] : Str) no l (re25 n)) fun r_3 =>
   some (r_3.1, r_3.2.1, ())
  else
   Option.bind (g_.tree_writer_expr (re25 n) no l) fun r_4 =>
   some (r_4.1, r_4.2.1, ())
def tree_writer_at_d (g_ : Rec_tree_writer_stmts) : Dn.Callee Y := callee Y [] tree_writer_at_s tree_writer_at_o (fun z => tree_writer_at_b g_ z.1 z.2.1 z.2.2.1 z.2.2.2.1)
def tree_writer_at_k (g_ : Rec_tree_writer_stmts) : Cuts Y (ParO Y tree_writer_at_o) := .nil
theorem tree_writer_at_b_ok (g_ : Rec_tree_writer_stmts) (hg_ : Rec_tree_writer_stmts_ok g_) : COk hY Tryz.prog Glob 61 (tree_writer_at_d g_) :=
  fn_ok (body := (Tryz.f61.body).getD .skip) (T := [(88, (tree_level_c (Rec_tree_level_g Lp.big))), (89, (tree_writer_inside_c g_)), (91, (tree_writer_expr_c g_))]) (tree_writer_at_k g_) Tryz.func61 (by kernel_rfl) ⟨⟨_, Tryz.func61, by kernel_rfl, rfl⟩⟩ hsz ((.cons tree_level_ok (.cons hg_.tree_writer_inside (.cons hg_.tree_writer_expr .nil))) : TabOk hY Tryz.prog Glob [(88, (tree_level_c (Rec_tree_level_g Lp.big))), (89, (tree_writer_inside_c g_)), (91, (tree_writer_expr_c g_))]) (fun _ _ hle h => h.mono hle) (by kernel_rfl)
    trivial
    (fun z => by kernel_rfl)
def tree_writer_inside_b (g_ : Rec_tree_writer_stmts) (a : Str) (shut : Str) (no : Bool) (l : List Str) (x : T_api_Node) : Option (Bool × (List Str) × T_api_Node × Unit) :=
  Option.bind (tree_writer_lay ([a] : List Str) false l) fun r_1 =>
  Option.bind (g_.tree_writer_at_1 r_1.1 r_1.2.1 (re25 x)) fun r_2 =>
  Option.bind (tree_writer_lay ([shut] : List Str) r_2.1 r_2.2.1) fun r_3 =>
  some (no, r_3.2.1, (re25 r_2.2.2.1), ())
def tree_writer_inside_d (g_ : Rec_tree_writer_stmts) : Dn.Callee Y := callee Y [] tree_writer_inside_s tree_writer_inside_o (fun z => tree_writer_inside_b g_ z.1 z.2.1 z.2.2.1 z.2.2.2.1 z.2.2.2.2.1)
def tree_writer_inside_k (g_ : Rec_tree_writer_stmts) : Cuts Y (ParO Y tree_writer_inside_o) := .nil
theorem tree_writer_inside_b_ok (g_ : Rec_tree_writer_stmts) (hg_ : Rec_tree_writer_stmts_ok g_) : COk hY Tryz.prog Glob 89 (tree_writer_inside_d g_) :=
  fn_ok (body := (Tryz.f89.body).getD .skip) (T := [(60, (tree_writer_lay_c)), (90, (tree_writer_at_1_c g_))]) (tree_writer_inside_k g_) Tryz.func89 (by kernel_rfl) ⟨⟨_, Tryz.func89, by kernel_rfl, rfl⟩⟩ hsz ((.cons tree_writer_lay_ok (.cons hg_.tree_writer_at_1 .nil)) : TabOk hY Tryz.prog Glob [(60, (tree_writer_lay_c)), (90, (tree_writer_at_1_c g_))]) (fun _ _ hle h => h.mono hle) (by kernel_rfl)
    trivial
    (fun z => by kernel_rfl)
def tree_writer_at_1_b (g_ : Rec_tree_writer_stmts) (no : Bool) (l : List Str) (x : T_api_Node) : Option (Bool × (List Str) × T_api_Node × Unit) :=
  Option.bind (g_.tree_writer_expr (re25 x) no l) fun r_1 =>
  some (r_1.1, r_1.2.1, (re25 x), ())
def tree_writer_at_1_d (g_ : Rec_tree_writer_stmts) : Dn.Callee Y := callee Y [] tree_writer_at_1_s tree_writer_at_1_o (fun z => tree_writer_at_1_b g_ z.1 z.2.1 z.2.2.1)
def tree_writer_at_1_k (g_ : Rec_tree_writer_stmts) : Cuts Y (ParO Y tree_writer_at_1_o) := .nil
theorem tree_writer_at_1_b_ok (g_ : Rec_tree_writer_stmts) (hg_ : Rec_tree_writer_stmts_ok g_) : COk hY Tryz.prog Glob 90 (tree_writer_at_1_d g_) :=
  fn_ok (body := (Tryz.f90.body).getD .skip) (T := [(91, (tree_writer_expr_c g_))]) (tree_writer_at_1_k g_) Tryz.func90 (by kernel_rfl) ⟨⟨_, Tryz.func90, by kernel_rfl, rfl⟩⟩ hsz ((.cons hg_.tree_writer_expr .nil) : TabOk hY Tryz.prog Glob [(91, (tree_writer_expr_c g_))]) (fun _ _ hle h => h.mono hle) (by kernel_rfl)
    trivial
    (fun z => by kernel_rfl)
def tree_writer_expr_b (g_ : Rec_tree_writer_stmts) (n : T_api_Node) (no : Bool) (l : List Str) : Option (Bool × (List Str) × Unit) :=
  if (n.Kind == 1) = true then
   Option.bind (strconv_FormatInt n.Num 10) fun r_1 =>
   Option.bind (tree_writer_lay ([r_1.1] : List Str) no l) fun r_2 =>
   some (r_2.1, r_2.2.1, ())
  else
   if (n.Kind == 2) = true then
    Option.bind (units_Quote n.Text) fun r_3 =>
    Option.bind (tree_writer_lay ([r_3.1] : List Str) no l) fun r_4 =>
    some (r_4.1, r_4.2.1, ())
   else
    if (n.Kind == 3) = true then
     Option.bind (tree_writer_lay ([n.Name] : List Str) no l) fun r_5 =>
     some (r_5.1, r_5.2.1, ())
    else
     if (n.Kind == 4) = true then
      Option.bind (tree_writer_lay ([([116, 104, 105, 115] : Str)] : List Str) no l) fun r_6 =>
      some (r_6.1, r_6.2.1, ())
     else
      if (n.Kind == 5) = true then
       Option.bind (tree_writer_lay ([([110, 117, 108, 108] : Str)] : List Str) no l) fun r_7 =>
       some (r_7.1, r_7.2.1, ())
      else
       if (n.Kind == 6) = true then
        Option.bind (strconv_FormatBool (n.Num == 1)) fun r_8 =>
        Option.bind (tree_writer_lay ([r_8.1] : List Str) no l) fun r_9 =>
        some (r_9.1, r_9.2.1, ())
       else
        if (n.Kind == 7) = true then
         Option.bind (g_.tree_writer_inside_v2 ([91] : Str) ([93] : Str) no l (re25 n)) fun r_10 =>
         some (r_10.1, r_10.2.1, ())
        else
         if (n.Kind == 8) = true then
          Option.bind (g_.tree_writer_inside_v3 ([123] : Str) ([125] : Str) no l (re25 n)) fun r_11 =>
          some (r_11.1, r_11.2.1, ())
         else
          if (n.Kind == 10) = true then
           Option.bind (g_.tree_writer_function (re25 n) no l) fun r_12 =>
           some (r_12.1, r_12.2.1, ())
          else
           Option.bind (g_.tree_writer_operation (re25 n) no l) fun r_13 =>
           some (r_13.1, r_13.2.1, ())
def tree_writer_expr_d (g_ : Rec_tree_writer_stmts) : Dn.Callee Y := callee Y [] tree_writer_expr_s tree_writer_expr_o (fun z => tree_writer_expr_b g_ z.1 z.2.1 z.2.2.1)
def tree_writer_expr_k (g_ : Rec_tree_writer_stmts) : Cuts Y (ParO Y tree_writer_expr_o) := .nil
theorem tree_writer_expr_b_ok (g_ : Rec_tree_writer_stmts) (hg_ : Rec_tree_writer_stmts_ok g_) : COk hY Tryz.prog Glob 91 (tree_writer_expr_d g_) :=
  fn_ok (body := (Tryz.f91.body).getD .skip) (T := [(107, (strconv_FormatInt_c)), (60, (tree_writer_lay_c)), (108, (units_Quote_c)), (109, (strconv_FormatBool_c)), (89, (laidC Y tree_writer_inside_s (orC Y tree_writer_inside_v2_s tree_writer_inside_v2_o (fun z => g_.tree_writer_inside_v2 z.1 z.2.1 z.2.2.1 z.2.2.2.1 z.2.2.2.2.1) (tree_writer_inside_v3_c g_)))), (65, (tree_writer_function_c g_)), (113, (tree_writer_operation_c g_))]) (tree_writer_expr_k g_) Tryz.func91 (by kernel_rfl) ⟨⟨_, Tryz.func91, by kernel_rfl, rfl⟩⟩ hsz ((.cons strconv_FormatInt_ok (.cons tree_writer_lay_ok (.cons units_Quote_ok (.cons strconv_FormatBool_ok (.cons (COk.laid (COk.or hg_.tree_writer_inside_v2 hg_.tree_writer_inside_v3)) (.cons hg_.tree_writer_function (.cons hg_.tree_writer_operation .nil))))))) : TabOk hY Tryz.prog Glob [(107, (strconv_FormatInt_c)), (60, (tree_writer_lay_c)), (108, (units_Quote_c)), (109, (strconv_FormatBool_c)), (89, (laidC Y tree_writer_inside_s (orC Y tree_writer_inside_v2_s tree_writer_inside_v2_o (fun z => g_.tree_writer_inside_v2 z.1 z.2.1 z.2.2.1 z.2.2.2.1 z.2.2.2.2.1) (tree_writer_inside_v3_c g_)))), (65, (tree_writer_function_c g_)), (113, (tree_writer_operation_c g_))]) (fun _ _ hle h => h.mono hle) (by kernel_rfl)
    trivial
    (fun z => by kernel_rfl)
def tree_writer_inside_v2_b (g_ : Rec_tree_writer_stmts) (a : Str) (shut : Str) (no : Bool) (l : List Str) (x : T_api_Node) : Option (Bool × (List Str) × T_api_Node × Unit) :=
  Option.bind (tree_writer_lay ([a] : List Str) false l) fun r_1 =>
  Option.bind (g_.tree_writer_expr_1 r_1.1 r_1.2.1 (re25 x)) fun r_2 =>
  Option.bind (tree_writer_lay ([shut] : List Str) r_2.1 r_2.2.1) fun r_3 =>
  some (no, r_3.2.1, (re25 r_2.2.2.1), ())
def tree_writer_inside_v2_d (g_ : Rec_tree_writer_stmts) : Dn.Callee Y := callee Y [] tree_writer_inside_v2_s tree_writer_inside_v2_o (fun z => tree_writer_inside_v2_b g_ z.1 z.2.1 z.2.2.1 z.2.2.2.1 z.2.2.2.2.1)
def tree_writer_inside_v2_k (g_ : Rec_tree_writer_stmts) : Cuts Y (ParO Y tree_writer_inside_v2_o) := .nil
theorem tree_writer_inside_v2_b_ok (g_ : Rec_tree_writer_stmts) (hg_ : Rec_tree_writer_stmts_ok g_) : COk hY Tryz.prog Glob 89 (tree_writer_inside_v2_d g_) :=
  fn_ok (body := (Tryz.f89.body).getD .skip) (T := [(60, (tree_writer_lay_c)), (110, (tree_writer_expr_1_c g_))]) (tree_writer_inside_v2_k g_) Tryz.func89 (by kernel_rfl) ⟨⟨_, Tryz.func89, by kernel_rfl, rfl⟩⟩ hsz ((.cons tree_writer_lay_ok (.cons hg_.tree_writer_expr_1 .nil)) : TabOk hY Tryz.prog Glob [(60, (tree_writer_lay_c)), (110, (tree_writer_expr_1_c g_))]) (fun _ _ hle h => h.mono hle) (by kernel_rfl)
    trivial
    (fun z => by kernel_rfl)
def tree_writer_expr_1_b (g_ : Rec_tree_writer_stmts) (no : Bool) (l : List Str) (x : T_api_Node) : Option (Bool × (List Str) × T_api_Node × Unit) :=
  Option.bind (g_.tree_writer_list x.L no l) fun r_1 =>
  some (r_1.1, r_1.2.1, (re25 x), ())
def tree_writer_expr_1_d (g_ : Rec_tree_writer_stmts) : Dn.Callee Y := callee Y [] tree_writer_expr_1_s tree_writer_expr_1_o (fun z => tree_writer_expr_1_b g_ z.1 z.2.1 z.2.2.1)
def tree_writer_expr_1_k (g_ : Rec_tree_writer_stmts) : Cuts Y (ParO Y tree_writer_expr_1_o) := .nil
theorem tree_writer_expr_1_b_ok (g_ : Rec_tree_writer_stmts) (hg_ : Rec_tree_writer_stmts_ok g_) : COk hY Tryz.prog Glob 110 (tree_writer_expr_1_d g_) :=
  fn_ok (body := (Tryz.f110.body).getD .skip) (T := [(111, (tree_writer_list_c g_))]) (tree_writer_expr_1_k g_) Tryz.func110 (by kernel_rfl) ⟨⟨_, Tryz.func110, by kernel_rfl, rfl⟩⟩ hsz ((.cons hg_.tree_writer_list .nil) : TabOk hY Tryz.prog Glob [(111, (tree_writer_list_c g_))]) (fun _ _ hle h => h.mono hle) (by kernel_rfl)
    trivial
    (fun z => by kernel_rfl)
def tree_writer_list_j2 (g_ : Rec_tree_writer_stmts) (v_8 : List T_api_Node) (v_9 : Int) (v_10 : Int) (no_11 : Bool) (l_12 : List Str) (x_13 : T_api_Node) : Option (((List T_api_Node) × Int × Int × Bool × (List Str) × Unit) ⊕ (Bool × (List Str) × Unit)) :=
  if (x_13.Kind == 9) = true then
   Option.bind (units_Quote x_13.Text) fun r_14 =>
   Option.bind (tree_writer_lay ([r_14.1, ([58] : Str)] : List Str) no_11 l_12) fun r_15 =>
   Option.bind (getI x_13.L 0) fun x_16 =>
   Option.bind (g_.tree_writer_at (re25 x_16) 1 r_15.1 r_15.2.1) fun r_17 =>
   let n_18 := (IntKind.wrap .i64 (v_10 + 1))
   some (Sum.inl (v_8, v_9, n_18, r_17.1, r_17.2.1, ()))
  else
   Option.bind (g_.tree_writer_at (re25 x_13) 1 no_11 l_12) fun r_19 =>
   let n_20 := (IntKind.wrap .i64 (v_10 + 1))
   some (Sum.inl (v_8, v_9, n_20, r_19.1, r_19.2.1, ()))
def tree_writer_list_l1 (g_ : Rec_tree_writer_stmts) : (List T_api_Node) × Int × Int × Bool × (List Str) × Unit → Option (((List T_api_Node) × Int × Int × Bool × (List Str) × Unit) ⊕ (Bool × (List Str) × Unit))
  | (v_1, v_2, v_3, no_4, l_5, ()) =>
    if (decide (v_3 < v_2)) = true then
     Option.bind (getI v_1 v_3) fun x_6 =>
     if (decide (v_3 > 0)) = true then
      Option.bind (tree_writer_lay ([([44] : Str)] : List Str) no_4 l_5) fun r_7 =>
      tree_writer_list_j2 g_ v_1 v_2 v_3 r_7.1 r_7.2.1 (re25 x_6)
     else
      tree_writer_list_j2 g_ v_1 v_2 v_3 no_4 l_5 (re25 x_6)
    else
     some (Sum.inr (no_4, l_5, ()))
def tree_writer_list_b (g_ : Rec_tree_writer_stmts) (l : List T_api_Node) (no : Bool) (l2 : List Str) : Option (Bool × (List Str) × Unit) :=
  Lp.loop (tree_writer_list_l1 g_) (l, ((l.length : Nat) : Int), 0, no, l2, ())
def tree_writer_list_d (g_ : Rec_tree_writer_stmts) : Dn.Callee Y := callee Y [] tree_writer_list_s tree_writer_list_o (fun z => tree_writer_list_b g_ z.1 z.2.1 z.2.2.1)
def tree_writer_list_k (g_ : Rec_tree_writer_stmts) : Cuts Y (ParO Y tree_writer_list_o) := (.loop [[7, 5, 2], [8, 5, 2], [6, 2]] ⟨[(0, .ptr 0 0), (8, .sl 25), (9, .int .i64), (10, .int .i64)], [.cells 39 [.own 1, .bool], .arr 9]⟩ (tree_writer_list_l1 g_) (.join [[1, 1, 2, 2, 5, 1, 2, 2, 7, 5, 2], [2, 1, 2, 2, 5, 1, 2, 2, 7, 5, 2], [2, 2, 2, 5, 1, 2, 2, 7, 5, 2], [6, 1, 2, 2, 7, 5, 2], [2, 2, 2, 7, 5, 2], [8, 5, 2], [6, 2]] ⟨[(0, .ptr 0 0), (5, .ptr 2 0), (8, .sl 25), (9, .int .i64), (10, .int .i64)], [.cells 39 [.own 1, .bool], .arr 9, .whole 25 25]⟩ (fun z => tree_writer_list_j2 g_ z.1 z.2.1 z.2.2.1 z.2.2.2.1 z.2.2.2.2.1 z.2.2.2.2.2.1) .nil) .nil)
theorem tree_writer_list_b_ok (g_ : Rec_tree_writer_stmts) (hg_ : Rec_tree_writer_stmts_ok g_) : COk hY Tryz.prog Glob 111 (tree_writer_list_d g_) :=
  fn_ok (body := (Tryz.f111.body).getD .skip) (T := [(60, (tree_writer_lay_c)), (108, (units_Quote_c)), (61, (tree_writer_at_c g_))]) (tree_writer_list_k g_) Tryz.func111 (by kernel_rfl) ⟨⟨_, Tryz.func111, by kernel_rfl, rfl⟩⟩ hsz ((.cons tree_writer_lay_ok (.cons units_Quote_ok (.cons hg_.tree_writer_at .nil))) : TabOk hY Tryz.prog Glob [(60, (tree_writer_lay_c)), (108, (units_Quote_c)), (61, (tree_writer_at_c g_))]) (fun _ _ hle h => h.mono hle) (by kernel_rfl)
    ⟨fun z => by kernel_rfl, ⟨fun z => by kernel_rfl, trivial⟩, trivial⟩
    (fun z => by kernel_rfl)
def tree_writer_inside_v3_b (g_ : Rec_tree_writer_stmts) (a : Str) (shut : Str) (no : Bool) (l : List Str) (x : T_api_Node) : Option (Bool × (List Str) × T_api_Node × Unit) :=
  Option.bind (tree_writer_lay ([a] : List Str) false l) fun r_1 =>
  Option.bind (g_.tree_writer_expr_2 r_1.1 r_1.2.1 (re25 x)) fun r_2 =>
  Option.bind (tree_writer_lay ([shut] : List Str) r_2.1 r_2.2.1) fun r_3 =>
  some (no, r_3.2.1, (re25 r_2.2.2.1), ())
def tree_writer_inside_v3_d (g_ : Rec_tree_writer_stmts) : Dn.Callee Y := callee Y [] tree_writer_inside_v3_s tree_writer_inside_v3_o (fun z => tree_writer_inside_v3_b g_ z.1 z.2.1 z.2.2.1 z.2.2.2.1 z.2.2.2.2.1)
def tree_writer_inside_v3_k (g_ : Rec_tree_writer_stmts) : Cuts Y (ParO Y tree_writer_inside_v3_o) := .nil
theorem tree_writer_inside_v3_b_ok (g_ : Rec_tree_writer_stmts) (hg_ : Rec_tree_writer_stmts_ok g_) : COk hY Tryz.prog Glob 89 (tree_writer_inside_v3_d g_) :=
  fn_ok (body := (Tryz.f89.body).getD .skip) (T := [(60, (tree_writer_lay_c)), (112, (tree_writer_expr_2_c g_))]) (tree_writer_inside_v3_k g_) Tryz.func89 (by kernel_rfl) ⟨⟨_, Tryz.func89, by kernel_rfl, rfl⟩⟩ hsz ((.cons tree_writer_lay_ok (.cons hg_.tree_writer_expr_2 .nil)) : TabOk hY Tryz.prog Glob [(60, (tree_writer_lay_c)), (112, (tree_writer_expr_2_c g_))]) (fun _ _ hle h => h.mono hle) (by kernel_rfl)
    trivial
    (fun z => by kernel_rfl)
def tree_writer_expr_2_b (g_ : Rec_tree_writer_stmts) (no : Bool) (l : List Str) (x : T_api_Node) : Option (Bool × (List Str) × T_api_Node × Unit) :=
  Option.bind (g_.tree_writer_list x.L no l) fun r_1 =>
  some (r_1.1, r_1.2.1, (re25 x), ())
def tree_writer_expr_2_d (g_ : Rec_tree_writer_stmts) : Dn.Callee Y := callee Y [] tree_writer_expr_2_s tree_writer_expr_2_o (fun z => tree_writer_expr_2_b g_ z.1 z.2.1 z.2.2.1)
def tree_writer_expr_2_k (g_ : Rec_tree_writer_stmts) : Cuts Y (ParO Y tree_writer_expr_2_o) := .nil
theorem tree_writer_expr_2_b_ok (g_ : Rec_tree_writer_stmts) (hg_ : Rec_tree_writer_stmts_ok g_) : COk hY Tryz.prog Glob 112 (tree_writer_expr_2_d g_) :=
  fn_ok (body := (Tryz.f112.body).getD .skip) (T := [(111, (tree_writer_list_c g_))]) (tree_writer_expr_2_k g_) Tryz.func112 (by kernel_rfl) ⟨⟨_, Tryz.func112, by kernel_rfl, rfl⟩⟩ hsz ((.cons hg_.tree_writer_list .nil) : TabOk hY Tryz.prog Glob [(111, (tree_writer_list_c g_))]) (fun _ _ hle h => h.mono hle) (by kernel_rfl)
    trivial
    (fun z => by kernel_rfl)
def tree_writer_function_l1 (g_ : Rec_tree_writer_stmts) : (List Str) × Int × Int × Bool × (List Str) × T_api_Node × Unit → Option (((List Str) × Int × Int × Bool × (List Str) × T_api_Node × Unit) ⊕ (Bool × (List Str) × Unit))
  | (v_7, v_8, v_9, no_10, l_11, x_12, ()) =>
    if (decide (v_9 < v_8)) = true then
     Option.bind (getI v_7 v_9) fun x_13 =>
     if (decide (v_9 > 0)) = true then
      Option.bind (tree_writer_lay ([([44] : Str)] : List Str) no_10 l_11) fun r_14 =>
      Option.bind (tree_writer_lay ([x_13] : List Str) r_14.1 r_14.2.1) fun r_15 =>
      let n_16 := (IntKind.wrap .i64 (v_9 + 1))
      some (Sum.inl (v_7, v_8, n_16, r_15.1, r_15.2.1, (re25 x_12), ()))
     else
      Option.bind (tree_writer_lay ([x_13] : List Str) no_10 l_11) fun r_17 =>
      let n_18 := (IntKind.wrap .i64 (v_9 + 1))
      some (Sum.inl (v_7, v_8, n_18, r_17.1, r_17.2.1, (re25 x_12), ()))
    else
     Option.bind (tree_writer_lay ([([41] : Str)] : List Str) no_10 l_11) fun r_19 =>
     Option.bind (g_.tree_writer_inside_v4 ([123] : Str) ([125] : Str) r_19.1 r_19.2.1 (re25 x_12)) fun r_20 =>
     some (Sum.inr (r_20.1, r_20.2.1, ()))
def tree_writer_function_b (g_ : Rec_tree_writer_stmts) (n : T_api_Node) (no : Bool) (l : List Str) : Option (Bool × (List Str) × Unit) :=
  Option.bind (tree_writer_lay ([([102, 117, 110, 99, 116, 105, 111, 110] : Str)] : List Str) no l) fun r_1 =>
  if (!(n.Name == ([] : Str))) = true then
   Option.bind (tree_writer_lay ([n.Name] : List Str) r_1.1 r_1.2.1) fun r_2 =>
   Option.bind (tree_writer_lay ([([40] : Str)] : List Str) r_2.1 r_2.2.1) fun r_3 =>
   let n_4 := ((n.Names.length : Nat) : Int)
   Lp.loop (tree_writer_function_l1 g_) (n.Names, n_4, 0, r_3.1, r_3.2.1, (re25 n), ())
  else
   Option.bind (tree_writer_lay ([([40] : Str)] : List Str) r_1.1 r_1.2.1) fun r_5 =>
   let n_6 := ((n.Names.length : Nat) : Int)
   Lp.loop (tree_writer_function_l1 g_) (n.Names, n_6, 0, r_5.1, r_5.2.1, (re25 n), ())
def tree_writer_function_d (g_ : Rec_tree_writer_stmts) : Dn.Callee Y := callee Y [] tree_writer_function_s tree_writer_function_o (fun z => tree_writer_function_b g_ z.1 z.2.1 z.2.2.1)
def tree_writer_function_k (g_ : Rec_tree_writer_stmts) : Cuts Y (ParO Y tree_writer_function_o) := (.loop [[7, 5, 2, 1, 2, 2, 2, 2], [8, 5, 2, 1, 2, 2, 2, 2], [6, 2, 1, 2, 2, 2, 2], [2, 2, 2, 2, 2]] ⟨[(2, .ptr 2 0), (3, .ptr 3 0), (21, .sl 9), (22, .int .i64), (23, .int .i64)], [.cells 39 [.own 1, .bool], .arr 9, .cells 37 [.ptr 0 0], .whole 25 25]⟩ (tree_writer_function_l1 g_) .nil .nil)
theorem tree_writer_function_b_ok (g_ : Rec_tree_writer_stmts) (hg_ : Rec_tree_writer_stmts_ok g_) : COk hY Tryz.prog Glob 65 (tree_writer_function_d g_) :=
  fn_ok (body := (Tryz.f65.body).getD .skip) (T := [(60, (tree_writer_lay_c)), (89, (laidC Y tree_writer_inside_s (tree_writer_inside_v4_c g_)))]) (tree_writer_function_k g_) Tryz.func65 (by kernel_rfl) ⟨⟨_, Tryz.func65, by kernel_rfl, rfl⟩⟩ hsz ((.cons tree_writer_lay_ok (.cons (COk.laid hg_.tree_writer_inside_v4) .nil)) : TabOk hY Tryz.prog Glob [(60, (tree_writer_lay_c)), (89, (laidC Y tree_writer_inside_s (tree_writer_inside_v4_c g_)))]) (fun _ _ hle h => h.mono hle) (by kernel_rfl)
    ⟨fun z => by kernel_rfl, trivial, trivial⟩
    (fun z => by kernel_rfl)
def tree_writer_inside_v4_b (g_ : Rec_tree_writer_stmts) (a : Str) (shut : Str) (no : Bool) (l : List Str) (x : T_api_Node) : Option (Bool × (List Str) × T_api_Node × Unit) :=
  Option.bind (tree_writer_lay ([a] : List Str) false l) fun r_1 =>
  Option.bind (g_.tree_writer_function_1 r_1.1 r_1.2.1 (re25 x)) fun r_2 =>
  Option.bind (tree_writer_lay ([shut] : List Str) r_2.1 r_2.2.1) fun r_3 =>
  some (no, r_3.2.1, (re25 r_2.2.2.1), ())
def tree_writer_inside_v4_d (g_ : Rec_tree_writer_stmts) : Dn.Callee Y := callee Y [] tree_writer_inside_v4_s tree_writer_inside_v4_o (fun z => tree_writer_inside_v4_b g_ z.1 z.2.1 z.2.2.1 z.2.2.2.1 z.2.2.2.2.1)
def tree_writer_inside_v4_k (g_ : Rec_tree_writer_stmts) : Cuts Y (ParO Y tree_writer_inside_v4_o) := .nil
theorem tree_writer_inside_v4_b_ok (g_ : Rec_tree_writer_stmts) (hg_ : Rec_tree_writer_stmts_ok g_) : COk hY Tryz.prog Glob 89 (tree_writer_inside_v4_d g_) :=
  fn_ok (body := (Tryz.f89.body).getD .skip) (T := [(60, (tree_writer_lay_c)), (94, (tree_writer_function_1_c g_))]) (tree_writer_inside_v4_k g_) Tryz.func89 (by kernel_rfl) ⟨⟨_, Tryz.func89, by kernel_rfl, rfl⟩⟩ hsz ((.cons tree_writer_lay_ok (.cons hg_.tree_writer_function_1 .nil)) : TabOk hY Tryz.prog Glob [(60, (tree_writer_lay_c)), (94, (tree_writer_function_1_c g_))]) (fun _ _ hle h => h.mono hle) (by kernel_rfl)
    trivial
    (fun z => by kernel_rfl)
def tree_writer_function_1_b (g_ : Rec_tree_writer_stmts) (no : Bool) (l : List Str) (x : T_api_Node) : Option (Bool × (List Str) × T_api_Node × Unit) :=
  Option.bind (g_.tree_writer_stmts x.L no l) fun r_1 =>
  some (r_1.1, r_1.2.1, (re25 x), ())
def tree_writer_function_1_d (g_ : Rec_tree_writer_stmts) : Dn.Callee Y := callee Y [] tree_writer_function_1_s tree_writer_function_1_o (fun z => tree_writer_function_1_b g_ z.1 z.2.1 z.2.2.1)
def tree_writer_function_1_k (g_ : Rec_tree_writer_stmts) : Cuts Y (ParO Y tree_writer_function_1_o) := .nil
theorem tree_writer_function_1_b_ok (g_ : Rec_tree_writer_stmts) (hg_ : Rec_tree_writer_stmts_ok g_) : COk hY Tryz.prog Glob 94 (tree_writer_function_1_d g_) :=
  fn_ok (body := (Tryz.f94.body).getD .skip) (T := [(20, (tree_writer_stmts_c g_))]) (tree_writer_function_1_k g_) Tryz.func94 (by kernel_rfl) ⟨⟨_, Tryz.func94, by kernel_rfl, rfl⟩⟩ hsz ((.cons hg_.tree_writer_stmts .nil) : TabOk hY Tryz.prog Glob [(20, (tree_writer_stmts_c g_))]) (fun _ _ hle h => h.mono hle) (by kernel_rfl)
    trivial
    (fun z => by kernel_rfl)
def tree_writer_operation_j2 (g_ : Rec_tree_writer_stmts) (a_44 : Int) (no_45 : Bool) (l_46 : List Str) (x_47 : T_api_Node) (v_48 : List T_api_Node) : Option (Bool × (List Str) × Unit) :=
  if (x_47.Kind == 14) = true then
   Option.bind (tree_writer_lay ([([110, 101, 119] : Str)] : List Str) no_45 l_46) fun r_49 =>
   Option.bind (getI v_48 0) fun x_50 =>
   Option.bind (g_.tree_writer_at (re25 x_50) 12 r_49.1 r_49.2.1) fun r_51 =>
   Option.bind (g_.tree_writer_inside_v6 ([40] : Str) ([41] : Str) r_51.1 r_51.2.1 v_48) fun r_52 =>
   some (r_52.1, r_52.2.1, ())
  else
   Option.bind (getI v_48 0) fun x_53 =>
   Option.bind (g_.tree_writer_at (re25 x_53) a_44 no_45 l_46) fun r_54 =>
   Option.bind (g_.tree_writer_inside_v6 ([40] : Str) ([41] : Str) r_54.1 r_54.2.1 v_48) fun r_55 =>
   some (r_55.1, r_55.2.1, ())
def tree_writer_operation_j1 (g_ : Rec_tree_writer_stmts) (no_40 : Bool) (l_41 : List Str) (x_42 : T_api_Node) (v_43 : List T_api_Node) : Option (Bool × (List Str) × Unit) :=
  tree_writer_operation_j2 g_ 11 no_40 l_41 (re25 x_42) v_43
def tree_writer_operation_b (g_ : Rec_tree_writer_stmts) (o : T_api_Node) (no : Bool) (l : List Str) : Option (Bool × (List Str) × Unit) :=
  if (o.Kind == 11) = true then
   Option.bind (getI o.L 0) fun x_1 =>
   Option.bind (g_.tree_writer_at (re25 x_1) 11 no l) fun r_2 =>
   Option.bind (tree_writer_lay ([([46] : Str), o.Name] : List Str) r_2.1 r_2.2.1) fun r_3 =>
   some (r_3.1, r_3.2.1, ())
  else
   if (o.Kind == 12) = true then
    Option.bind (getI o.L 0) fun x_4 =>
    Option.bind (g_.tree_writer_at (re25 x_4) 11 no l) fun r_5 =>
    Option.bind (g_.tree_writer_inside_v5 ([91] : Str) ([93] : Str) r_5.1 r_5.2.1 o.L) fun r_6 =>
    some (r_6.1, r_6.2.1, ())
   else
    if (o.Kind == 13) = true then
     tree_writer_operation_j1 g_ no l (re25 o) o.L
    else
     if (o.Kind == 14) = true then
      tree_writer_operation_j1 g_ no l (re25 o) o.L
     else
      if (o.Kind == 15) = true then
       Option.bind (tree_writer_lay ([o.Name] : List Str) no l) fun r_7 =>
       Option.bind (getI o.L 0) fun x_8 =>
       Option.bind (g_.tree_writer_at (re25 x_8) 9 r_7.1 r_7.2.1) fun r_9 =>
       some (r_9.1, r_9.2.1, ())
      else
       if (o.Kind == 16) = true then
        if (o.Num == 1) = true then
         Option.bind (tree_writer_lay ([o.Name] : List Str) no l) fun r_10 =>
         Option.bind (getI o.L 0) fun x_11 =>
         Option.bind (g_.tree_writer_at (re25 x_11) 11 r_10.1 r_10.2.1) fun r_12 =>
         if (o.Num == 0) = true then
          Option.bind (tree_writer_lay ([o.Name] : List Str) r_12.1 r_12.2.1) fun r_13 =>
          some (r_13.1, r_13.2.1, ())
         else
          some (r_12.1, r_12.2.1, ())
        else
         Option.bind (getI o.L 0) fun x_14 =>
         Option.bind (g_.tree_writer_at (re25 x_14) 11 no l) fun r_15 =>
         if (o.Num == 0) = true then
          Option.bind (tree_writer_lay ([o.Name] : List Str) r_15.1 r_15.2.1) fun r_16 =>
          some (r_16.1, r_16.2.1, ())
         else
          some (r_15.1, r_15.2.1, ())
       else
        if (o.Kind == 19) = true then
         Option.bind (getI o.L 0) fun x_17 =>
         Option.bind (g_.tree_writer_at (re25 x_17) 3 no l) fun r_18 =>
         Option.bind (g_.tree_writer_inside_v7 ([63] : Str) ([58] : Str) r_18.1 r_18.2.1 o.L) fun r_19 =>
         Option.bind (getI r_19.2.2.1 2) fun x_20 =>
         Option.bind (g_.tree_writer_at (re25 x_20) 1 r_19.1 r_19.2.1) fun r_21 =>
         some (r_21.1, r_21.2.1, ())
        else
         if (o.Kind == 20) = true then
          Option.bind (getI o.L 0) fun x_22 =>
          Option.bind (g_.tree_writer_at (re25 x_22) 11 no l) fun r_23 =>
          Option.bind (tree_writer_lay ([o.Name] : List Str) r_23.1 r_23.2.1) fun r_24 =>
          Option.bind (getI o.L 1) fun x_25 =>
          Option.bind (g_.tree_writer_at (re25 x_25) 1 r_24.1 r_24.2.1) fun r_26 =>
          some (r_26.1, r_26.2.1, ())
         else
          if (o.Kind == 21) = true then
           Option.bind (getI o.L 0) fun x_27 =>
           Option.bind (g_.tree_writer_at (re25 x_27) 0 no l) fun r_28 =>
           Option.bind (tree_writer_lay ([([44] : Str)] : List Str) r_28.1 r_28.2.1) fun r_29 =>
           Option.bind (getI o.L 1) fun x_30 =>
           Option.bind (g_.tree_writer_at (re25 x_30) 1 r_29.1 r_29.2.1) fun r_31 =>
           some (r_31.1, r_31.2.1, ())
          else
           Option.bind (getI o.L 0) fun x_32 =>
           Option.bind (tree_level (re25 o)) fun r_33 =>
           Option.bind (g_.tree_writer_at (re25 x_32) r_33.1 no l) fun r_34 =>
           Option.bind (tree_writer_lay ([o.Name] : List Str) r_34.1 r_34.2.1) fun r_35 =>
           Option.bind (getI o.L 1) fun x_36 =>
           Option.bind (tree_level (re25 o)) fun r_37 =>
           let n_38 := (IntKind.wrap .i64 (r_37.1 + 1))
           Option.bind (g_.tree_writer_at (re25 x_36) n_38 r_35.1 r_35.2.1) fun r_39 =>
           some (r_39.1, r_39.2.1, ())
def tree_writer_operation_d (g_ : Rec_tree_writer_stmts) : Dn.Callee Y := callee Y [] tree_writer_operation_s tree_writer_operation_o (fun z => tree_writer_operation_b g_ z.1 z.2.1 z.2.2.1)
def tree_writer_operation_k (g_ : Rec_tree_writer_stmts) : Cuts Y (ParO Y tree_writer_operation_o) := (.join [[1, 3, 2, 4, 2, 4, 2, 5, 2, 2, 2], [2, 3, 2, 4, 2, 4, 2, 5, 2, 2, 2], [6, 2, 2, 2]] ⟨[(2, .ptr 2 0), (3, .ptr 3 0), (4, .ptr 4 0)], [.cells 39 [.own 1, .bool], .arr 9, .cells 37 [.ptr 0 0], .whole 25 25, .cells 23 [.sl 25]]⟩ (fun z => tree_writer_operation_j1 g_ z.1 z.2.1 z.2.2.1 z.2.2.2.1) (.join [[1, 1, 2, 3, 2, 4, 2, 4, 2, 5, 2, 2, 2], [2, 1, 2, 3, 2, 4, 2, 4, 2, 5, 2, 2, 2], [2, 2, 3, 2, 4, 2, 4, 2, 5, 2, 2, 2], [6, 2, 2, 2]] ⟨[(2, .ptr 2 0), (3, .ptr 3 0), (4, .ptr 4 0), (5, .int .i64)], [.cells 39 [.own 1, .bool], .arr 9, .cells 37 [.ptr 0 0], .whole 25 25, .cells 23 [.sl 25]]⟩ (fun z => tree_writer_operation_j2 g_ z.1 z.2.1 z.2.2.1 z.2.2.2.1 z.2.2.2.2.1) .nil))
theorem tree_writer_operation_b_ok (g_ : Rec_tree_writer_stmts) (hg_ : Rec_tree_writer_stmts_ok g_) : COk hY Tryz.prog Glob 113 (tree_writer_operation_d g_) :=
  fn_ok (body := (Tryz.f113.body).getD .skip) (T := [(61, (tree_writer_at_c g_)), (60, (tree_writer_lay_c)), (89, (laidC Y tree_writer_inside_s (orC Y tree_writer_inside_v5_s tree_writer_inside_v5_o (fun z => g_.tree_writer_inside_v5 z.1 z.2.1 z.2.2.1 z.2.2.2.1 z.2.2.2.2.1) (orC Y tree_writer_inside_v6_s tree_writer_inside_v6_o (fun z => g_.tree_writer_inside_v6 z.1 z.2.1 z.2.2.1 z.2.2.2.1 z.2.2.2.2.1) (tree_writer_inside_v7_c g_))))), (88, (tree_level_c (Rec_tree_level_g Lp.big)))]) (tree_writer_operation_k g_) Tryz.func113 (by kernel_rfl) ⟨⟨_, Tryz.func113, by kernel_rfl, rfl⟩⟩ hsz ((.cons hg_.tree_writer_at (.cons tree_writer_lay_ok (.cons (COk.laid (COk.or hg_.tree_writer_inside_v5 (COk.or hg_.tree_writer_inside_v6 hg_.tree_writer_inside_v7))) (.cons tree_level_ok .nil)))) : TabOk hY Tryz.prog Glob [(61, (tree_writer_at_c g_)), (60, (tree_writer_lay_c)), (89, (laidC Y tree_writer_inside_s (orC Y tree_writer_inside_v5_s tree_writer_inside_v5_o (fun z => g_.tree_writer_inside_v5 z.1 z.2.1 z.2.2.1 z.2.2.2.1 z.2.2.2.2.1) (orC Y tree_writer_inside_v6_s tree_writer_inside_v6_o (fun z => g_.tree_writer_inside_v6 z.1 z.2.1 z.2.2.1 z.2.2.2.1 z.2.2.2.2.1) (tree_writer_inside_v7_c g_))))), (88, (tree_level_c (Rec_tree_level_g Lp.big)))]) (fun _ _ hle h => h.mono hle) (by kernel_rfl)
    ⟨fun z => by kernel_rfl, ⟨fun z => by kernel_rfl, trivial⟩⟩
    (fun z => by kernel_rfl)
def tree_writer_inside_v5_b (g_ : Rec_tree_writer_stmts) (a : Str) (shut : Str) (no : Bool) (l : List Str) (a2 : List T_api_Node) : Option (Bool × (List Str) × (List T_api_Node) × Unit) :=
  Option.bind (tree_writer_lay ([a] : List Str) false l) fun r_1 =>
  Option.bind (g_.tree_writer_operation_1 r_1.1 r_1.2.1 a2) fun r_2 =>
  Option.bind (tree_writer_lay ([shut] : List Str) r_2.1 r_2.2.1) fun r_3 =>
  some (no, r_3.2.1, r_2.2.2.1, ())
def tree_writer_inside_v5_d (g_ : Rec_tree_writer_stmts) : Dn.Callee Y := callee Y [] tree_writer_inside_v5_s tree_writer_inside_v5_o (fun z => tree_writer_inside_v5_b g_ z.1 z.2.1 z.2.2.1 z.2.2.2.1 z.2.2.2.2.1)
def tree_writer_inside_v5_k (g_ : Rec_tree_writer_stmts) : Cuts Y (ParO Y tree_writer_inside_v5_o) := .nil
theorem tree_writer_inside_v5_b_ok (g_ : Rec_tree_writer_stmts) (hg_ : Rec_tree_writer_stmts_ok g_) : COk hY Tryz.prog Glob 89 (tree_writer_inside_v5_d g_) :=
  fn_ok (body := (Tryz.f89.body).getD .skip) (T := [(60, (tree_writer_lay_c)), (125, (tree_writer_operation_1_c g_))]) (tree_writer_inside_v5_k g_) Tryz.func89 (by kernel_rfl) ⟨⟨_, Tryz.func89, by kernel_rfl, rfl⟩⟩ hsz ((.cons tree_writer_lay_ok (.cons hg_.tree_writer_operation_1 .nil)) : TabOk hY Tryz.prog Glob [(60, (tree_writer_lay_c)), (125, (tree_writer_operation_1_c g_))]) (fun _ _ hle h => h.mono hle) (by kernel_rfl)
    trivial
    (fun z => by kernel_rfl)
def tree_writer_operation_1_b (g_ : Rec_tree_writer_stmts) (no : Bool) (l : List Str) (a : List T_api_Node) : Option (Bool × (List Str) × (List T_api_Node) × Unit) :=
  Option.bind (getI a 1) fun x_1 =>
  Option.bind (g_.tree_writer_at (re25 x_1) 0 no l) fun r_2 =>
  some (r_2.1, r_2.2.1, a, ())
def tree_writer_operation_1_d (g_ : Rec_tree_writer_stmts) : Dn.Callee Y := callee Y [] tree_writer_operation_1_s tree_writer_operation_1_o (fun z => tree_writer_operation_1_b g_ z.1 z.2.1 z.2.2.1)
def tree_writer_operation_1_k (g_ : Rec_tree_writer_stmts) : Cuts Y (ParO Y tree_writer_operation_1_o) := .nil
theorem tree_writer_operation_1_b_ok (g_ : Rec_tree_writer_stmts) (hg_ : Rec_tree_writer_stmts_ok g_) : COk hY Tryz.prog Glob 125 (tree_writer_operation_1_d g_) :=
  fn_ok (body := (Tryz.f125.body).getD .skip) (T := [(61, (tree_writer_at_c g_))]) (tree_writer_operation_1_k g_) Tryz.func125 (by kernel_rfl) ⟨⟨_, Tryz.func125, by kernel_rfl, rfl⟩⟩ hsz ((.cons hg_.tree_writer_at .nil) : TabOk hY Tryz.prog Glob [(61, (tree_writer_at_c g_))]) (fun _ _ hle h => h.mono hle) (by kernel_rfl)
    trivial
    (fun z => by kernel_rfl)
def tree_writer_inside_v6_b (g_ : Rec_tree_writer_stmts) (a : Str) (shut : Str) (no : Bool) (l : List Str) (a2 : List T_api_Node) : Option (Bool × (List Str) × (List T_api_Node) × Unit) :=
  Option.bind (tree_writer_lay ([a] : List Str) false l) fun r_1 =>
  Option.bind (g_.tree_writer_operation_2 r_1.1 r_1.2.1 a2) fun r_2 =>
  Option.bind (tree_writer_lay ([shut] : List Str) r_2.1 r_2.2.1) fun r_3 =>
  some (no, r_3.2.1, r_2.2.2.1, ())
def tree_writer_inside_v6_d (g_ : Rec_tree_writer_stmts) : Dn.Callee Y := callee Y [] tree_writer_inside_v6_s tree_writer_inside_v6_o (fun z => tree_writer_inside_v6_b g_ z.1 z.2.1 z.2.2.1 z.2.2.2.1 z.2.2.2.2.1)
def tree_writer_inside_v6_k (g_ : Rec_tree_writer_stmts) : Cuts Y (ParO Y tree_writer_inside_v6_o) := .nil
theorem tree_writer_inside_v6_b_ok (g_ : Rec_tree_writer_stmts) (hg_ : Rec_tree_writer_stmts_ok g_) : COk hY Tryz.prog Glob 89 (tree_writer_inside_v6_d g_) :=
  fn_ok (body := (Tryz.f89.body).getD .skip) (T := [(60, (tree_writer_lay_c)), (126, (tree_writer_operation_2_c g_))]) (tree_writer_inside_v6_k g_) Tryz.func89 (by kernel_rfl) ⟨⟨_, Tryz.func89, by kernel_rfl, rfl⟩⟩ hsz ((.cons tree_writer_lay_ok (.cons hg_.tree_writer_operation_2 .nil)) : TabOk hY Tryz.prog Glob [(60, (tree_writer_lay_c)), (126, (tree_writer_operation_2_c g_))]) (fun _ _ hle h => h.mono hle) (by kernel_rfl)
    trivial
    (fun z => by kernel_rfl)
def tree_writer_operation_2_b (g_ : Rec_tree_writer_stmts) (no : Bool) (l : List Str) (a : List T_api_Node) : Option (Bool × (List Str) × (List T_api_Node) × Unit) :=
  Option.bind (cutL a 1 ((a.length : Nat) : Int)) fun s_1 =>
  Option.bind (g_.tree_writer_list s_1 no l) fun r_2 =>
  some (r_2.1, r_2.2.1, a, ())
def tree_writer_operation_2_d (g_ : Rec_tree_writer_stmts) : Dn.Callee Y := callee Y [] tree_writer_operation_2_s tree_writer_operation_2_o (fun z => tree_writer_operation_2_b g_ z.1 z.2.1 z.2.2.1)
def tree_writer_operation_2_k (g_ : Rec_tree_writer_stmts) : Cuts Y (ParO Y tree_writer_operation_2_o) := .nil
theorem tree_writer_operation_2_b_ok (g_ : Rec_tree_writer_stmts) (hg_ : Rec_tree_writer_stmts_ok g_) : COk hY Tryz.prog Glob 126 (tree_writer_operation_2_d g_) :=
  fn_ok (body := (Tryz.f126.body).getD .skip) (T := [(111, (tree_writer_list_c g_))]) (tree_writer_operation_2_k g_) Tryz.func126 (by kernel_rfl) ⟨⟨_, Tryz.func126, by kernel_rfl, rfl⟩⟩ hsz ((.cons hg_.tree_writer_list .nil) : TabOk hY Tryz.prog Glob [(111, (tree_writer_list_c g_))]) (fun _ _ hle h => h.mono hle) (by kernel_rfl)
    trivial
    (fun z => by kernel_rfl)
def tree_writer_inside_v7_b (g_ : Rec_tree_writer_stmts) (a : Str) (shut : Str) (no : Bool) (l : List Str) (a2 : List T_api_Node) : Option (Bool × (List Str) × (List T_api_Node) × Unit) :=
  Option.bind (tree_writer_lay ([a] : List Str) false l) fun r_1 =>
  Option.bind (g_.tree_writer_operation_3 r_1.1 r_1.2.1 a2) fun r_2 =>
  Option.bind (tree_writer_lay ([shut] : List Str) r_2.1 r_2.2.1) fun r_3 =>
  some (no, r_3.2.1, r_2.2.2.1, ())
def tree_writer_inside_v7_d (g_ : Rec_tree_writer_stmts) : Dn.Callee Y := callee Y [] tree_writer_inside_v7_s tree_writer_inside_v7_o (fun z => tree_writer_inside_v7_b g_ z.1 z.2.1 z.2.2.1 z.2.2.2.1 z.2.2.2.2.1)
def tree_writer_inside_v7_k (g_ : Rec_tree_writer_stmts) : Cuts Y (ParO Y tree_writer_inside_v7_o) := .nil
theorem tree_writer_inside_v7_b_ok (g_ : Rec_tree_writer_stmts) (hg_ : Rec_tree_writer_stmts_ok g_) : COk hY Tryz.prog Glob 89 (tree_writer_inside_v7_d g_) :=
  fn_ok (body := (Tryz.f89.body).getD .skip) (T := [(60, (tree_writer_lay_c)), (127, (tree_writer_operation_3_c g_))]) (tree_writer_inside_v7_k g_) Tryz.func89 (by kernel_rfl) ⟨⟨_, Tryz.func89, by kernel_rfl, rfl⟩⟩ hsz ((.cons tree_writer_lay_ok (.cons hg_.tree_writer_operation_3 .nil)) : TabOk hY Tryz.prog Glob [(60, (tree_writer_lay_c)), (127, (tree_writer_operation_3_c g_))]) (fun _ _ hle h => h.mono hle) (by kernel_rfl)
    trivial
    (fun z => by kernel_rfl)
def tree_writer_operation_3_b (g_ : Rec_tree_writer_stmts) (no : Bool) (l : List Str) (a : List T_api_Node) : Option (Bool × (List Str) × (List T_api_Node) × Unit) :=
  Option.bind (getI a 1) fun x_1 =>
  Option.bind (g_.tree_writer_at (re25 x_1) 1 no l) fun r_2 =>
  some (r_2.1, r_2.2.1, a, ())
def tree_writer_operation_3_d (g_ : Rec_tree_writer_stmts) : Dn.Callee Y := callee Y [] tree_writer_operation_3_s tree_writer_operation_3_o (fun z => tree_writer_operation_3_b g_ z.1 z.2.1 z.2.2.1)
def tree_writer_operation_3_k (g_ : Rec_tree_writer_stmts) : Cuts Y (ParO Y tree_writer_operation_3_o) := .nil
theorem tree_writer_operation_3_b_ok (g_ : Rec_tree_writer_stmts) (hg_ : Rec_tree_writer_stmts_ok g_) : COk hY Tryz.prog Glob 127 (tree_writer_operation_3_d g_) :=
  fn_ok (body := (Tryz.f127.body).getD .skip) (T := [(61, (tree_writer_at_c g_))]) (tree_writer_operation_3_k g_) Tryz.func127 (by kernel_rfl) ⟨⟨_, Tryz.func127, by kernel_rfl, rfl⟩⟩ hsz ((.cons hg_.tree_writer_at .nil) : TabOk hY Tryz.prog Glob [(61, (tree_writer_at_c g_))]) (fun _ _ hle h => h.mono hle) (by kernel_rfl)
    trivial
    (fun z => by kernel_rfl)
def tree_writer_head_b (g_ : Rec_tree_writer_stmts) (word : Str) (n : T_api_Node) (no : Bool) (l : List Str) : Option (Bool × (List Str) × Unit) :=
  Option.bind (tree_writer_lay ([word, ([40] : Str)] : List Str) no l) fun r_1 =>
  Option.bind (g_.tree_writer_at (re25 n) 0 r_1.1 r_1.2.1) fun r_2 =>
  Option.bind (tree_writer_lay ([([41] : Str)] : List Str) r_2.1 r_2.2.1) fun r_3 =>
  some (r_3.1, r_3.2.1, ())
def tree_writer_head_d (g_ : Rec_tree_writer_stmts) : Dn.Callee Y := callee Y [] tree_writer_head_s tree_writer_head_o (fun z => tree_writer_head_b g_ z.1 z.2.1 z.2.2.1 z.2.2.2.1)
def tree_writer_head_k (g_ : Rec_tree_writer_stmts) : Cuts Y (ParO Y tree_writer_head_o) := .nil
theorem tree_writer_head_b_ok (g_ : Rec_tree_writer_stmts) (hg_ : Rec_tree_writer_stmts_ok g_) : COk hY Tryz.prog Glob 63 (tree_writer_head_d g_) :=
  fn_ok (body := (Tryz.f63.body).getD .skip) (T := [(60, (tree_writer_lay_c)), (61, (tree_writer_at_c g_))]) (tree_writer_head_k g_) Tryz.func63 (by kernel_rfl) ⟨⟨_, Tryz.func63, by kernel_rfl, rfl⟩⟩ hsz ((.cons tree_writer_lay_ok (.cons hg_.tree_writer_at .nil)) : TabOk hY Tryz.prog Glob [(60, (tree_writer_lay_c)), (61, (tree_writer_at_c g_))]) (fun _ _ hle h => h.mono hle) (by kernel_rfl)
    trivial
    (fun z => by kernel_rfl)
def tree_writer_loop_l1 (g_ : Rec_tree_writer_stmts) : (List T_api_Node) × (List T_api_Node) × Int × Int × Bool × (List Str) × Unit → Option (((List T_api_Node) × (List T_api_Node) × Int × Int × Bool × (List Str) × Unit) ⊕ (Bool × (List Str) × Unit))
  | (l_25, v_26, v_27, v_28, no_29, l_30, ()) =>
    if (decide (v_28 < v_27)) = true then
     Option.bind (getI v_26 v_28) fun x_31 =>
     Option.bind (tree_writer_lay ([([59] : Str)] : List Str) no_29 l_30) fun r_32 =>
     Option.bind (g_.tree_writer_begin (re25 x_31) 0 r_32.1 r_32.2.1) fun r_33 =>
     let n_34 := (IntKind.wrap .i64 (v_28 + 1))
     some (Sum.inl (l_25, v_26, v_27, n_34, r_33.1, r_33.2.1, ()))
    else
     Option.bind (tree_writer_lay ([([41] : Str)] : List Str) no_29 l_30) fun r_35 =>
     let n_36 := (IntKind.wrap .i64 (((l_25.length : Nat) : Int) - 1))
     Option.bind (getI l_25 n_36) fun x_37 =>
     Option.bind (g_.tree_writer_stmt (re25 x_37) r_35.1 r_35.2.1) fun r_38 =>
     some (Sum.inr (r_38.1, r_38.2.1, ()))
def tree_writer_loop_b (g_ : Rec_tree_writer_stmts) (n : T_api_Node) (no : Bool) (l : List Str) : Option (Bool × (List Str) × Unit) :=
  if (n.Kind == 27) = true then
   Option.bind (getI n.L 0) fun x_1 =>
   Option.bind (g_.tree_writer_head ([119, 104, 105, 108, 101] : Str) (re25 x_1) no l) fun r_2 =>
   let n_3 := (IntKind.wrap .i64 (((n.L.length : Nat) : Int) - 1))
   Option.bind (getI n.L n_3) fun x_4 =>
   Option.bind (g_.tree_writer_stmt (re25 x_4) r_2.1 r_2.2.1) fun r_5 =>
   some (r_5.1, r_5.2.1, ())
  else
   if (n.Kind == 28) = true then
    Option.bind (tree_writer_lay ([([100, 111] : Str)] : List Str) no l) fun r_6 =>
    Option.bind (getI n.L 0) fun x_7 =>
    Option.bind (g_.tree_writer_stmt (re25 x_7) r_6.1 r_6.2.1) fun r_8 =>
    Option.bind (getI n.L 1) fun x_9 =>
    Option.bind (g_.tree_writer_head ([119, 104, 105, 108, 101] : Str) (re25 x_9) r_8.1 r_8.2.1) fun r_10 =>
    Option.bind (tree_writer_lay ([([59] : Str)] : List Str) r_10.1 r_10.2.1) fun r_11 =>
    some (r_11.1, r_11.2.1, ())
   else
    Option.bind (tree_writer_lay ([([102, 111, 114] : Str), ([40] : Str)] : List Str) no l) fun r_12 =>
    if (n.Kind == 30) = true then
     Option.bind (getI n.L 0) fun x_13 =>
     Option.bind (g_.tree_writer_begin (re25 x_13) 11 true r_12.2.1) fun r_14 =>
     Option.bind (tree_writer_lay ([([105, 110] : Str)] : List Str) false r_14.2.1) fun r_15 =>
     Option.bind (getI n.L 1) fun x_16 =>
     Option.bind (g_.tree_writer_at (re25 x_16) 0 r_15.1 r_15.2.1) fun r_17 =>
     Option.bind (tree_writer_lay ([([41] : Str)] : List Str) r_17.1 r_17.2.1) fun r_18 =>
     let n_19 := (IntKind.wrap .i64 (((n.L.length : Nat) : Int) - 1))
     Option.bind (getI n.L n_19) fun x_20 =>
     Option.bind (g_.tree_writer_stmt (re25 x_20) r_18.1 r_18.2.1) fun r_21 =>
     some (r_21.1, r_21.2.1, ())
    else
     Option.bind (getI n.L 0) fun x_22 =>
     Option.bind (g_.tree_writer_begin (re25 x_22) 0 true r_12.2.1) fun r_23 =>
     Option.bind (cutL n.L 1 3) fun s_24 =>
     Lp.loop (tree_writer_loop_l1 g_) (n.L, s_24, ((s_24.length : Nat) : Int), 0, false, r_23.2.1, ())
def tree_writer_loop_d (g_ : Rec_tree_writer_stmts) : Dn.Callee Y := callee Y [] tree_writer_loop_s tree_writer_loop_o (fun z => tree_writer_loop_b g_ z.1 z.2.1 z.2.2.1)
def tree_writer_loop_k (g_ : Rec_tree_writer_stmts) : Cuts Y (ParO Y tree_writer_loop_o) := (.loop [[7, 5, 2, 2, 2, 4, 2, 1, 2, 2, 4, 2, 4, 2, 5, 2, 1, 2, 2], [8, 5, 2, 2, 2, 4, 2, 1, 2, 2, 4, 2, 4, 2, 5, 2, 1, 2, 2], [6, 2, 2, 2, 4, 2, 1, 2, 2, 4, 2, 4, 2, 5, 2, 1, 2, 2], [2, 2, 2, 4, 2, 4, 2, 5, 2, 1, 2, 2], [6, 2, 1, 2, 2], [2, 2, 2]] ⟨[(0, .ptr 0 0), (4, .sl 25), (45, .sl 25), (46, .int .i64), (47, .int .i64)], [.cells 39 [.own 1, .bool], .arr 9]⟩ (tree_writer_loop_l1 g_) .nil .nil)
theorem tree_writer_loop_b_ok (g_ : Rec_tree_writer_stmts) (hg_ : Rec_tree_writer_stmts_ok g_) : COk hY Tryz.prog Glob 64 (tree_writer_loop_d g_) :=
  fn_ok (body := (Tryz.f64.body).getD .skip) (T := [(63, (tree_writer_head_c g_)), (37, (tree_writer_stmt_c g_)), (60, (tree_writer_lay_c)), (59, (tree_writer_begin_c g_)), (61, (tree_writer_at_c g_))]) (tree_writer_loop_k g_) Tryz.func64 (by kernel_rfl) ⟨⟨_, Tryz.func64, by kernel_rfl, rfl⟩⟩ hsz ((.cons hg_.tree_writer_head (.cons hg_.tree_writer_stmt (.cons tree_writer_lay_ok (.cons hg_.tree_writer_begin (.cons hg_.tree_writer_at .nil))))) : TabOk hY Tryz.prog Glob [(63, (tree_writer_head_c g_)), (37, (tree_writer_stmt_c g_)), (60, (tree_writer_lay_c)), (59, (tree_writer_begin_c g_)), (61, (tree_writer_at_c g_))]) (fun _ _ hle h => h.mono hle) (by kernel_rfl)
    ⟨fun z => by kernel_rfl, trivial, trivial⟩
    (fun z => by kernel_rfl)
def tree_writer_word_l2 (g_ : Rec_tree_writer_stmts) : (List T_api_Node) × Int × Int × Bool × (List Str) × Unit → Option (((List T_api_Node) × Int × Int × Bool × (List Str) × Unit) ⊕ (Bool × (List Str) × Unit))
  | (v_11, v_12, v_13, no_14, l_15, ()) =>
    if (decide (v_13 < v_12)) = true then
     Option.bind (getI v_11 v_13) fun x_16 =>
     Option.bind (g_.tree_writer_at (re25 x_16) 0 no_14 l_15) fun r_17 =>
     let n_18 := (IntKind.wrap .i64 (v_13 + 1))
     some (Sum.inl (v_11, v_12, n_18, r_17.1, r_17.2.1, ()))
    else
     Option.bind (tree_writer_lay ([([59] : Str)] : List Str) no_14 l_15) fun r_19 =>
     some (Sum.inr (r_19.1, r_19.2.1, ()))
def tree_writer_word_j1 (g_ : Rec_tree_writer_stmts) (no_5 : Bool) (l_6 : List Str) (x_7 : T_api_Node) : Option (Bool × (List Str) × Unit) :=
  if (!(x_7.Name == ([] : Str))) = true then
   Option.bind (tree_writer_lay ([x_7.Name] : List Str) no_5 l_6) fun r_8 =>
   let n_9 := ((x_7.L.length : Nat) : Int)
   Lp.loop (tree_writer_word_l2 g_) (x_7.L, n_9, 0, r_8.1, r_8.2.1, ())
  else
   let n_10 := ((x_7.L.length : Nat) : Int)
   Lp.loop (tree_writer_word_l2 g_) (x_7.L, n_10, 0, no_5, l_6, ())
def tree_writer_word_b (g_ : Rec_tree_writer_stmts) (n : T_api_Node) (no : Bool) (l : List Str) : Option (Bool × (List Str) × Unit) :=
  if (n.Kind == 31) = true then
   Option.bind (tree_writer_lay ([([98, 114, 101, 97, 107] : Str)] : List Str) no l) fun r_1 =>
   tree_writer_word_j1 g_ r_1.1 r_1.2.1 (re25 n)
  else
   if (n.Kind == 32) = true then
    Option.bind (tree_writer_lay ([([99, 111, 110, 116, 105, 110, 117, 101] : Str)] : List Str) no l) fun r_2 =>
    tree_writer_word_j1 g_ r_2.1 r_2.2.1 (re25 n)
   else
    if (n.Kind == 33) = true then
     Option.bind (tree_writer_lay ([([114, 101, 116, 117, 114, 110] : Str)] : List Str) no l) fun r_3 =>
     tree_writer_word_j1 g_ r_3.1 r_3.2.1 (re25 n)
    else
     if (n.Kind == 34) = true then
      Option.bind (tree_writer_lay ([([116, 104, 114, 111, 119] : Str)] : List Str) no l) fun r_4 =>
      tree_writer_word_j1 g_ r_4.1 r_4.2.1 (re25 n)
     else
      tree_writer_word_j1 g_ no l (re25 n)
def tree_writer_word_d (g_ : Rec_tree_writer_stmts) : Dn.Callee Y := callee Y [] tree_writer_word_s tree_writer_word_o (fun z => tree_writer_word_b g_ z.1 z.2.1 z.2.2.1)
def tree_writer_word_k (g_ : Rec_tree_writer_stmts) : Cuts Y (ParO Y tree_writer_word_o) := (.join [[1, 1, 2, 2], [2, 1, 2, 2], [2, 2, 2]] ⟨[(0, .ptr 0 0), (3, .ptr 2 0)], [.cells 39 [.own 1, .bool], .arr 9, .whole 25 25]⟩ (fun z => tree_writer_word_j1 g_ z.1 z.2.1 z.2.2.1) (.loop [[7, 5, 2, 1, 2, 2, 2], [8, 5, 2, 1, 2, 2, 2], [6, 2, 1, 2, 2, 2], [2, 2, 2, 2]] ⟨[(0, .ptr 0 0), (37, .sl 25), (38, .int .i64), (39, .int .i64)], [.cells 39 [.own 1, .bool], .arr 9]⟩ (tree_writer_word_l2 g_) .nil .nil))
theorem tree_writer_word_b_ok (g_ : Rec_tree_writer_stmts) (hg_ : Rec_tree_writer_stmts_ok g_) : COk hY Tryz.prog Glob 66 (tree_writer_word_d g_) :=
  fn_ok (body := (Tryz.f66.body).getD .skip) (T := [(60, (tree_writer_lay_c)), (61, (tree_writer_at_c g_))]) (tree_writer_word_k g_) Tryz.func66 (by kernel_rfl) ⟨⟨_, Tryz.func66, by kernel_rfl, rfl⟩⟩ hsz ((.cons tree_writer_lay_ok (.cons hg_.tree_writer_at .nil)) : TabOk hY Tryz.prog Glob [(60, (tree_writer_lay_c)), (61, (tree_writer_at_c g_))]) (fun _ _ hle h => h.mono hle) (by kernel_rfl)
    ⟨fun z => by kernel_rfl, ⟨fun z => by kernel_rfl, trivial, trivial⟩⟩
    (fun z => by kernel_rfl)
def Rec_tree_writer_stmts_g : Nat → Rec_tree_writer_stmts
  | 0 => ⟨fun _ _ _ => none, fun _ _ _ => none, fun _ _ _ _ => none, fun _ _ _ _ => none, fun _ _ _ _ _ => none, fun _ _ _ => none, fun _ _ _ => none, fun _ _ _ _ _ => none, fun _ _ _ => none, fun _ _ _ => none, fun _ _ _ _ _ => none, fun _ _ _ => none, fun _ _ _ => none, fun _ _ _ _ _ => none, fun _ _ _ => none, fun _ _ _ => none, fun _ _ _ _ _ => none, fun _ _ _ => none, fun _ _ _ _ _ => none, fun _ _ _ => none, fun _ _ _ _ _ => none, fun _ _ _ => none, fun _ _ _ _ => none, fun _ _ _ => none, fun _ _ _ => none⟩
  | n + 1 => ⟨tree_writer_stmts_b (Rec_tree_writer_stmts_g n), tree_writer_stmt_b (Rec_tree_writer_stmts_g n), tree_writer_begin_b (Rec_tree_writer_stmts_g n), tree_writer_at_b (Rec_tree_writer_stmts_g n), tree_writer_inside_b (Rec_tree_writer_stmts_g n), tree_writer_at_1_b (Rec_tree_writer_stmts_g n), tree_writer_expr_b (Rec_tree_writer_stmts_g n), tree_writer_inside_v2_b (Rec_tree_writer_stmts_g n), tree_writer_expr_1_b (Rec_tree_writer_stmts_g n), tree_writer_list_b (Rec_tree_writer_stmts_g n), tree_writer_inside_v3_b (Rec_tree_writer_stmts_g n), tree_writer_expr_2_b (Rec_tree_writer_stmts_g n), tree_writer_function_b (Rec_tree_writer_stmts_g n), tree_writer_inside_v4_b (Rec_tree_writer_stmts_g n), tree_writer_function_1_b (Rec_tree_writer_stmts_g n), tree_writer_operation_b (Rec_tree_writer_stmts_g n), tree_writer_inside_v5_b (Rec_tree_writer_stmts_g n), tree_writer_operation_1_b (Rec_tree_writer_stmts_g n), tree_writer_inside_v6_b (Rec_tree_writer_stmts_g n), tree_writer_operation_2_b (Rec_tree_writer_stmts_g n), tree_writer_inside_v7_b (Rec_tree_writer_stmts_g n), tree_writer_operation_3_b (Rec_tree_writer_stmts_g n), tree_writer_head_b (Rec_tree_writer_stmts_g n), tree_writer_loop_b (Rec_tree_writer_stmts_g n), tree_writer_word_b (Rec_tree_writer_stmts_g n)⟩
theorem Rec_tree_writer_stmts_all : ∀ n, Rec_tree_writer_stmts_ok (Rec_tree_writer_stmts_g n)
  | 0 => ⟨COk.none ⟨⟨_, Tryz.func20, by kernel_rfl, rfl⟩⟩, COk.none ⟨⟨_, Tryz.func37, by kernel_rfl, rfl⟩⟩, COk.none ⟨⟨_, Tryz.func59, by kernel_rfl, rfl⟩⟩, COk.none ⟨⟨_, Tryz.func61, by kernel_rfl, rfl⟩⟩, COk.none ⟨⟨_, Tryz.func89, by kernel_rfl, rfl⟩⟩, COk.none ⟨⟨_, Tryz.func90, by kernel_rfl, rfl⟩⟩, COk.none ⟨⟨_, Tryz.func91, by kernel_rfl, rfl⟩⟩, COk.none ⟨⟨_, Tryz.func89, by kernel_rfl, rfl⟩⟩, COk.none ⟨⟨_, Tryz.func110, by kernel_rfl, rfl⟩⟩, COk.none ⟨⟨_, Tryz.func111, by kernel_rfl, rfl⟩⟩, COk.none ⟨⟨_, Tryz.func89, by kernel_rfl, rfl⟩⟩, COk.none ⟨⟨_, Tryz.func112, by kernel_rfl, rfl⟩⟩, COk.none ⟨⟨_, Tryz.func65, by kernel_rfl, rfl⟩⟩, COk.none ⟨⟨_, Tryz.func89, by kernel_rfl, rfl⟩⟩, COk.none ⟨⟨_, Tryz.func94, by kernel_rfl, rfl⟩⟩, COk.none ⟨⟨_, Tryz.func113, by kernel_rfl, rfl⟩⟩, COk.none ⟨⟨_, Tryz.func89, by kernel_rfl, rfl⟩⟩, COk.none ⟨⟨_, Tryz.func125, by kernel_rfl, rfl⟩⟩, COk.none ⟨⟨_, Tryz.func89, by kernel_rfl, rfl⟩⟩, COk.none ⟨⟨_, Tryz.func126, by kernel_rfl, rfl⟩⟩, COk.none ⟨⟨_, Tryz.func89, by kernel_rfl, rfl⟩⟩, COk.none ⟨⟨_, Tryz.func127, by kernel_rfl, rfl⟩⟩, COk.none ⟨⟨_, Tryz.func63, by kernel_rfl, rfl⟩⟩, COk.none ⟨⟨_, Tryz.func64, by kernel_rfl, rfl⟩⟩, COk.none ⟨⟨_, Tryz.func66, by kernel_rfl, rfl⟩⟩⟩
  | n + 1 => ⟨tree_writer_stmts_b_ok _ (Rec_tree_writer_stmts_all n), tree_writer_stmt_b_ok _ (Rec_tree_writer_stmts_all n), tree_writer_begin_b_ok _ (Rec_tree_writer_stmts_all n), tree_writer_at_b_ok _ (Rec_tree_writer_stmts_all n), tree_writer_inside_b_ok _ (Rec_tree_writer_stmts_all n), tree_writer_at_1_b_ok _ (Rec_tree_writer_stmts_all n), tree_writer_expr_b_ok _ (Rec_tree_writer_stmts_all n), tree_writer_inside_v2_b_ok _ (Rec_tree_writer_stmts_all n), tree_writer_expr_1_b_ok _ (Rec_tree_writer_stmts_all n), tree_writer_list_b_ok _ (Rec_tree_writer_stmts_all n), tree_writer_inside_v3_b_ok _ (Rec_tree_writer_stmts_all n), tree_writer_expr_2_b_ok _ (Rec_tree_writer_stmts_all n), tree_writer_function_b_ok _ (Rec_tree_writer_stmts_all n), tree_writer_inside_v4_b_ok _ (Rec_tree_writer_stmts_all n), tree_writer_function_1_b_ok _ (Rec_tree_writer_stmts_all n), tree_writer_operation_b_ok _ (Rec_tree_writer_stmts_all n), tree_writer_inside_v5_b_ok _ (Rec_tree_writer_stmts_all n), tree_writer_operation_1_b_ok _ (Rec_tree_writer_stmts_all n), tree_writer_inside_v6_b_ok _ (Rec_tree_writer_stmts_all n), tree_writer_operation_2_b_ok _ (Rec_tree_writer_stmts_all n), tree_writer_inside_v7_b_ok _ (Rec_tree_writer_stmts_all n), tree_writer_operation_3_b_ok _ (Rec_tree_writer_stmts_all n), tree_writer_head_b_ok _ (Rec_tree_writer_stmts_all n), tree_writer_loop_b_ok _ (Rec_tree_writer_stmts_all n), tree_writer_word_b_ok _ (Rec_tree_writer_stmts_all n)⟩
def tree_writer_stmts : (List T_api_Node) → Bool → (List Str) → Option (Bool × (List Str) × Unit) := (Rec_tree_writer_stmts_g Lp.big).tree_writer_stmts
theorem tree_writer_stmts_ok : COk hY Tryz.prog Glob 20 (tree_writer_stmts_c (Rec_tree_writer_stmts_g Lp.big)) := (Rec_tree_writer_stmts_all Lp.big).tree_writer_stmts
def tree_writer_stmt : T_api_Node → Bool → (List Str) → Option (Bool × (List Str) × Unit) := (Rec_tree_writer_stmts_g Lp.big).tree_writer_stmt
theorem tree_writer_stmt_ok : COk hY Tryz.prog Glob 37 (tree_writer_stmt_c (Rec_tree_writer_stmts_g Lp.big)) := (Rec_tree_writer_stmts_all Lp.big).tree_writer_stmt
def tree_writer_begin : T_api_Node → Int → Bool → (List Str) → Option (Bool × (List Str) × Unit) := (Rec_tree_writer_stmts_g Lp.big).tree_writer_begin
theorem tree_writer_begin_ok : COk hY Tryz.prog Glob 59 (tree_writer_begin_c (Rec_tree_writer_stmts_g Lp.big)) := (Rec_tree_writer_stmts_all Lp.big).tree_writer_begin
def tree_writer_at : T_api_Node → Int → Bool → (List Str) → Option (Bool × (List Str) × Unit) := (Rec_tree_writer_stmts_g Lp.big).tree_writer_at
theorem tree_writer_at_ok : COk hY Tryz.prog Glob 61 (tree_writer_at_c (Rec_tree_writer_stmts_g Lp.big)) := (Rec_tree_writer_stmts_all Lp.big).tree_writer_at
def tree_writer_inside : Str → Str → Bool → (List Str) → T_api_Node → Option (Bool × (List Str) × T_api_Node × Unit) := (Rec_tree_writer_stmts_g Lp.big).tree_writer_inside
theorem tree_writer_inside_ok : COk hY Tryz.prog Glob 89 (tree_writer_inside_c (Rec_tree_writer_stmts_g Lp.big)) := (Rec_tree_writer_stmts_all Lp.big).tree_writer_inside
def tree_writer_at_1 : Bool → (List Str) → T_api_Node → Option (Bool × (List Str) × T_api_Node × Unit) := (Rec_tree_writer_stmts_g Lp.big).tree_writer_at_1
theorem tree_writer_at_1_ok : COk hY Tryz.prog Glob 90 (tree_writer_at_1_c (Rec_tree_writer_stmts_g Lp.big)) := (Rec_tree_writer_stmts_all Lp.big).tree_writer_at_1
def tree_writer_expr : T_api_Node → Bool → (List Str) → Option (Bool × (List Str) × Unit) := (Rec_tree_writer_stmts_g Lp.big).tree_writer_expr
theorem tree_writer_expr_ok : COk hY Tryz.prog Glob 91 (tree_writer_expr_c (Rec_tree_writer_stmts_g Lp.big)) := (Rec_tree_writer_stmts_all Lp.big).tree_writer_expr
def tree_writer_inside_v2 : Str → Str → Bool → (List Str) → T_api_Node → Option (Bool × (List Str) × T_api_Node × Unit) := (Rec_tree_writer_stmts_g Lp.big).tree_writer_inside_v2
theorem tree_writer_inside_v2_ok : COk hY Tryz.prog Glob 89 (tree_writer_inside_v2_c (Rec_tree_writer_stmts_g Lp.big)) := (Rec_tree_writer_stmts_all Lp.big).tree_writer_inside_v2
def tree_writer_expr_1 : Bool → (List Str) → T_api_Node → Option (Bool × (List Str) × T_api_Node × Unit) := (Rec_tree_writer_stmts_g Lp.big).tree_writer_expr_1
theorem tree_writer_expr_1_ok : COk hY Tryz.prog Glob 110 (tree_writer_expr_1_c (Rec_tree_writer_stmts_g Lp.big)) := (Rec_tree_writer_stmts_all Lp.big).tree_writer_expr_1
def tree_writer_list : (List T_api_Node) → Bool → (List Str) → Option (Bool × (List Str) × Unit) := (Rec_tree_writer_stmts_g Lp.big).tree_writer_list
theorem tree_writer_list_ok : COk hY Tryz.prog Glob 111 (tree_writer_list_c (Rec_tree_writer_stmts_g Lp.big)) := (Rec_tree_writer_stmts_all Lp.big).tree_writer_list
def tree_writer_inside_v3 : Str → Str → Bool → (List Str) → T_api_Node → Option (Bool × (List Str) × T_api_Node × Unit) := (Rec_tree_writer_stmts_g Lp.big).tree_writer_inside_v3
theorem tree_writer_inside_v3_ok : COk hY Tryz.prog Glob 89 (tree_writer_inside_v3_c (Rec_tree_writer_stmts_g Lp.big)) := (Rec_tree_writer_stmts_all Lp.big).tree_writer_inside_v3
def tree_writer_expr_2 : Bool → (List Str) → T_api_Node → Option (Bool × (List Str) × T_api_Node × Unit) := (Rec_tree_writer_stmts_g Lp.big).tree_writer_expr_2
theorem tree_writer_expr_2_ok : COk hY Tryz.prog Glob 112 (tree_writer_expr_2_c (Rec_tree_writer_stmts_g Lp.big)) := (Rec_tree_writer_stmts_all Lp.big).tree_writer_expr_2
def tree_writer_function : T_api_Node → Bool → (List Str) → Option (Bool × (List Str) × Unit) := (Rec_tree_writer_stmts_g Lp.big).tree_writer_function
theorem tree_writer_function_ok : COk hY Tryz.prog Glob 65 (tree_writer_function_c (Rec_tree_writer_stmts_g Lp.big)) := (Rec_tree_writer_stmts_all Lp.big).tree_writer_function
def tree_writer_inside_v4 : Str → Str → Bool → (List Str) → T_api_Node → Option (Bool × (List Str) × T_api_Node × Unit) := (Rec_tree_writer_stmts_g Lp.big).tree_writer_inside_v4
theorem tree_writer_inside_v4_ok : COk hY Tryz.prog Glob 89 (tree_writer_inside_v4_c (Rec_tree_writer_stmts_g Lp.big)) := (Rec_tree_writer_stmts_all Lp.big).tree_writer_inside_v4
def tree_writer_function_1 : Bool → (List Str) → T_api_Node → Option (Bool × (List Str) × T_api_Node × Unit) := (Rec_tree_writer_stmts_g Lp.big).tree_writer_function_1
theorem tree_writer_function_1_ok : COk hY Tryz.prog Glob 94 (tree_writer_function_1_c (Rec_tree_writer_stmts_g Lp.big)) := (Rec_tree_writer_stmts_all Lp.big).tree_writer_function_1
def tree_writer_operation : T_api_Node → Bool → (List Str) → Option (Bool × (List Str) × Unit) := (Rec_tree_writer_stmts_g Lp.big).tree_writer_operation
theorem tree_writer_operation_ok : COk hY Tryz.prog Glob 113 (tree_writer_operation_c (Rec_tree_writer_stmts_g Lp.big)) := (Rec_tree_writer_stmts_all Lp.big).tree_writer_operation
def tree_writer_inside_v5 : Str → Str → Bool → (List Str) → (List T_api_Node) → Option (Bool × (List Str) × (List T_api_Node) × Unit) := (Rec_tree_writer_stmts_g Lp.big).tree_writer_inside_v5
theorem tree_writer_inside_v5_ok : COk hY Tryz.prog Glob 89 (tree_writer_inside_v5_c (Rec_tree_writer_stmts_g Lp.big)) := (Rec_tree_writer_stmts_all Lp.big).tree_writer_inside_v5
def tree_writer_operation_1 : Bool → (List Str) → (List T_api_Node) → Option (Bool × (List Str) × (List T_api_Node) × Unit) := (Rec_tree_writer_stmts_g Lp.big).tree_writer_operation_1
theorem tree_writer_operation_1_ok : COk hY Tryz.prog Glob 125 (tree_writer_operation_1_c (Rec_tree_writer_stmts_g Lp.big)) := (Rec_tree_writer_stmts_all Lp.big).tree_writer_operation_1
def tree_writer_inside_v6 : Str → Str → Bool → (List Str) → (List T_api_Node) → Option (Bool × (List Str) × (List T_api_Node) × Unit) := (Rec_tree_writer_stmts_g Lp.big).tree_writer_inside_v6
theorem tree_writer_inside_v6_ok : COk hY Tryz.prog Glob 89 (tree_writer_inside_v6_c (Rec_tree_writer_stmts_g Lp.big)) := (Rec_tree_writer_stmts_all Lp.big).tree_writer_inside_v6
def tree_writer_operation_2 : Bool → (List Str) → (List T_api_Node) → Option (Bool × (List Str) × (List T_api_Node) × Unit) := (Rec_tree_writer_stmts_g Lp.big).tree_writer_operation_2
theorem tree_writer_operation_2_ok : COk hY Tryz.prog Glob 126 (tree_writer_operation_2_c (Rec_tree_writer_stmts_g Lp.big)) := (Rec_tree_writer_stmts_all Lp.big).tree_writer_operation_2
def tree_writer_inside_v7 : Str → Str → Bool → (List Str) → (List T_api_Node) → Option (Bool × (List Str) × (List T_api_Node) × Unit) := (Rec_tree_writer_stmts_g Lp.big).tree_writer_inside_v7
theorem tree_writer_inside_v7_ok : COk hY Tryz.prog Glob 89 (tree_writer_inside_v7_c (Rec_tree_writer_stmts_g Lp.big)) := (Rec_tree_writer_stmts_all Lp.big).tree_writer_inside_v7
def tree_writer_operation_3 : Bool → (List Str) → (List T_api_Node) → Option (Bool × (List Str) × (List T_api_Node) × Unit) := (Rec_tree_writer_stmts_g Lp.big).tree_writer_operation_3
theorem tree_writer_operation_3_ok : COk hY Tryz.prog Glob 127 (tree_writer_operation_3_c (Rec_tree_writer_stmts_g Lp.big)) := (Rec_tree_writer_stmts_all Lp.big).tree_writer_operation_3
def tree_writer_head : Str → T_api_Node → Bool → (List Str) → Option (Bool × (List Str) × Unit) := (Rec_tree_writer_stmts_g Lp.big).tree_writer_head
theorem tree_writer_head_ok : COk hY Tryz.prog Glob 63 (tree_writer_head_c (Rec_tree_writer_stmts_g Lp.big)) := (Rec_tree_writer_stmts_all Lp.big).tree_writer_head
def tree_writer_loop : T_api_Node → Bool → (List Str) → Option (Bool × (List Str) × Unit) := (Rec_tree_writer_stmts_g Lp.big).tree_writer_loop
theorem tree_writer_loop_ok : COk hY Tryz.prog Glob 64 (tree_writer_loop_c (Rec_tree_writer_stmts_g Lp.big)) := (Rec_tree_writer_stmts_all Lp.big).tree_writer_loop
def tree_writer_word : T_api_Node → Bool → (List Str) → Option (Bool × (List Str) × Unit) := (Rec_tree_writer_stmts_g Lp.big).tree_writer_word
theorem tree_writer_word_ok : COk hY Tryz.prog Glob 66 (tree_writer_word_c (Rec_tree_writer_stmts_g Lp.big)) := (Rec_tree_writer_stmts_all Lp.big).tree_writer_word
def strings_Join (l_ : List Str) (sep : Str) : Option (Str × Unit) := if l_.length ≤ 140737488355328 ∧ (Lib.join l_ sep).length ≤ 140737488355328 then some (Lib.join l_ sep, ()) else none
def strings_Join_s : Shape := ⟨[(0, .sl 9), (1, .str)], []⟩
def strings_Join_o : List OutP := [⟨false, .str, []⟩]
def strings_Join_c : Dn.Callee Y := callee Y [] strings_Join_s strings_Join_o (fun z => strings_Join z.1 z.2.1)
theorem strings_Join_calls (xs : List Str) (sep r : Str) (hN : strings_Join xs sep = some (r, ())) (w : World) (F : Heap) (hv : F.Sub w) (A : Option Addr) (c : Nat) (hlc : xs.length ≤ c)
    (hx : xs = [] ∨ ∃ b o, A = some ⟨b, o, none⟩ ∧ b < w.heap.size ∧ ∀ (i : Nat) (x : Str), xs[i]? = some x → w.cell? ⟨b, o + i, none⟩ = some (.string ⟨⟨x⟩⟩)) :
    Calls Tryz.prog 21 #[.slice A xs.length c, .string ⟨⟨sep⟩⟩] w fun e w' => e = .returned (.string ⟨⟨r⟩⟩) ∧ Gw.St w F No w' F [] := by
  unfold strings_Join at hN
  split at hN
  · rename_i hc
    cases hN
    rcases hx with rfl | ⟨b, o, rfl, hbk, hcell⟩
    · exact (Tryz.strings_Join_none A c ⟨⟨sep⟩⟩ w).mono fun e w' h => ⟨h.1, by rw [h.2]; exact Gw.St.start hv⟩
    · have hmap : (xs.map fun s => (⟨⟨s⟩⟩ : ByteArray)).map (·.data.toList) = xs := by rw [List.map_map]; exact List.map_id xs
      have hcall := Tryz.strings_Join b o c (xs.map fun s => ⟨⟨s⟩⟩) ⟨⟨sep⟩⟩ w (fun j x hx => by
        rw [List.getElem?_map] at hx
        obtain ⟨s, hs, rfl⟩ := Option.map_eq_some_iff.1 hx
        exact hcell j s hs) hbk (by simpa using hc.1) (by simpa using hlc) (by rw [hmap]; exact hc.2)
      rw [List.length_map, hmap] at hcall
      exact hcall.mono fun e w' h => ⟨h.1, St.ofBelow hv h.2⟩
  · cases hN
theorem strings_Join_ok : COk hY Tryz.prog Glob 21 strings_Join_c :=
  COk.extR (l := strings_Join_s.l) ⟨⟨_, Tryz.func21, by kernel_rfl, rfl⟩⟩ ⟨rfl, rfl⟩ rfl fun z zo h w F vals hG hv hr => by
    obtain ⟨u, r1, rfl, q1, r2⟩ := hr.inv
    obtain ⟨u2, r3, rfl, q2, r4⟩ := r2.inv
    have e2 := q2.v_inv
    subst e2
    have hnil := r4.nil_inv
    subst hnil
    obtain ⟨A, c, rfl, hlc, hx⟩ := strs_in q1 hv
    exact (strings_Join_calls z.1 z.2.1 zo.1 h w F hv A c hlc hx).mono fun e w' h => ⟨F, _, h.1, .v, h.2⟩
def tree_Text (n : T_api_Node) : Option (Str × Int × Unit) :=
  Option.bind (tree_Check (re25 n)) fun r_1 =>
  if (r_1.1 != 0) = true then
   some (([] : Str), r_1.1, ())
  else
   Option.bind (tree_writer_stmts n.L false ([] : List Str)) fun r_2 =>
   Option.bind (strings_Join r_2.2.1 ([32] : Str)) fun r_3 =>
   let n_4 := ((r_3.1.length : Nat) : Int)
   if (decide (n_4 > 4096)) = true then
    some (([] : Str), 2, ())
   else
    some (r_3.1, 0, ())
def tree_Text_s : Shape := ⟨[(0, .st 25)], []⟩
def tree_Text_o : List OutP := [⟨false, .tup [.str, .int .i64], []⟩]
def tree_Text_c : Dn.Callee Y := callee Y [] tree_Text_s tree_Text_o (fun z => tree_Text z.1)
def tree_Text_k : Cuts Y (ParO Y tree_Text_o) := .nil
theorem tree_Text_ok : COk hY Tryz.prog Glob 8 (tree_Text_c) :=
  fn_ok (body := (Tryz.f8.body).getD .skip) (T := [(6, (tree_Check_c)), (20, (tree_writer_stmts_c (Rec_tree_writer_stmts_g Lp.big))), (21, (strings_Join_c))]) (tree_Text_k) Tryz.func8 (by kernel_rfl) ⟨⟨_, Tryz.func8, by kernel_rfl, rfl⟩⟩ hsz ((.cons tree_Check_ok (.cons tree_writer_stmts_ok (.cons strings_Join_ok .nil))) : TabOk hY Tryz.prog Glob [(6, (tree_Check_c)), (20, (tree_writer_stmts_c (Rec_tree_writer_stmts_g Lp.big))), (21, (strings_Join_c))]) (fun _ _ hle h => h.mono hle) (by kernel_rfl)
    trivial
    (fun z => by kernel_rfl)
def credenzaref06_digit (c : Int) : Option (Bool × Unit) :=
  let b_1 := ((decide (c ≥ 48)) && (decide (c ≤ 57)))
  some (b_1, ())
def credenzaref06_digit_s : Shape := ⟨[(0, .int .u8)], []⟩
def credenzaref06_digit_o : List OutP := [⟨false, .bool, []⟩]
def credenzaref06_digit_c : Dn.Callee Y := callee Y [] credenzaref06_digit_s credenzaref06_digit_o (fun z => credenzaref06_digit z.1)
def credenzaref06_digit_k : Cuts Y (ParO Y credenzaref06_digit_o) := .nil
theorem credenzaref06_digit_ok : COk hY Tryz.prog Glob 83 (credenzaref06_digit_c) :=
  fn_ok (body := (Tryz.f83.body).getD .skip) (T := []) (credenzaref06_digit_k) Tryz.func83 (by kernel_rfl) ⟨⟨_, Tryz.func83, by kernel_rfl, rfl⟩⟩ hsz .nil (fun _ _ hle h => h.mono hle) (by kernel_rfl)
    trivial
    (fun z => by kernel_rfl)
def credenzaref06_letter (c : Int) : Option (Bool × Unit) :=
  let b_1 := ((decide (c ≥ 97)) && (decide (c ≤ 122)))
  let b_2 := (b_1 || ((decide (c ≥ 65)) && (decide (c ≤ 90))))
  let b_3 := ((b_2 || (c == 95)) || (c == 36))
  some (b_3, ())
def credenzaref06_letter_s : Shape := ⟨[(0, .int .u8)], []⟩
def credenzaref06_letter_o : List OutP := [⟨false, .bool, []⟩]
def credenzaref06_letter_c : Dn.Callee Y := callee Y [] credenzaref06_letter_s credenzaref06_letter_o (fun z => credenzaref06_letter z.1)
def credenzaref06_letter_k : Cuts Y (ParO Y credenzaref06_letter_o) := .nil
theorem credenzaref06_letter_ok : COk hY Tryz.prog Glob 84 (credenzaref06_letter_c) :=
  fn_ok (body := (Tryz.f84.body).getD .skip) (T := []) (credenzaref06_letter_k) Tryz.func84 (by kernel_rfl) ⟨⟨_, Tryz.func84, by kernel_rfl, rfl⟩⟩ hsz .nil (fun _ _ hle h => h.mono hle) (by kernel_rfl)
    trivial
    (fun z => by kernel_rfl)
def credenzaref06_IsIdent_l1 : Str × Int × Unit → Option ((Str × Int × Unit) ⊕ (Bool × Unit))
  | (s_5, i_6, ()) =>
    let b_7 := (decide (i_6 < ((s_5.length : Nat) : Int)))
    if b_7 = true then
     Option.bind (getB s_5 i_6) fun c_8 =>
     Option.bind (credenzaref06_letter c_8) fun r_9 =>
     if (!r_9.1) = true then
      Option.bind (getB s_5 i_6) fun c_10 =>
      Option.bind (credenzaref06_digit c_10) fun r_11 =>
      if (!r_11.1) = true then
       some (Sum.inr (false, ()))
      else
       let n_12 := (IntKind.wrap .i64 (i_6 + 1))
       some (Sum.inl (s_5, n_12, ()))
     else
      let n_13 := (IntKind.wrap .i64 (i_6 + 1))
      some (Sum.inl (s_5, n_13, ()))
    else
     some (Sum.inr (true, ()))
def credenzaref06_IsIdent (s : Str) : Option (Bool × Unit) :=
  let b_1 := (decide (((s.length : Nat) : Int) < 1))
  let b_2 := (b_1 || (decide (((s.length : Nat) : Int) > 32)))
  if b_2 = true then
   some (false, ())
  else
   Option.bind (getB s 0) fun c_3 =>
   Option.bind (credenzaref06_digit c_3) fun r_4 =>
   if r_4.1 = true then
    some (false, ())
   else
    Lp.loop credenzaref06_IsIdent_l1 (s, 0, ())
def credenzaref06_IsIdent_s : Shape := ⟨[(0, .str)], []⟩
def credenzaref06_IsIdent_o : List OutP := [⟨false, .bool, []⟩]
def credenzaref06_IsIdent_c : Dn.Callee Y := callee Y [] credenzaref06_IsIdent_s credenzaref06_IsIdent_o (fun z => credenzaref06_IsIdent z.1)
def credenzaref06_IsIdent_k : Cuts Y (ParO Y credenzaref06_IsIdent_o) := (.loop [[7, 5, 2, 1, 2, 2], [8, 5, 2, 1, 2, 2], [6, 2, 1, 2, 2], [2, 2, 2]] ⟨[(0, .str), (3, .int .i64)], []⟩ (credenzaref06_IsIdent_l1) .nil .nil)
theorem credenzaref06_IsIdent_ok : COk hY Tryz.prog Glob 49 (credenzaref06_IsIdent_c) :=
  fn_ok (body := (Tryz.f49.body).getD .skip) (T := [(83, (credenzaref06_digit_c)), (84, (credenzaref06_letter_c))]) (credenzaref06_IsIdent_k) Tryz.func49 (by kernel_rfl) ⟨⟨_, Tryz.func49, by kernel_rfl, rfl⟩⟩ hsz ((.cons credenzaref06_digit_ok (.cons credenzaref06_letter_ok .nil)) : TabOk hY Tryz.prog Glob [(83, (credenzaref06_digit_c)), (84, (credenzaref06_letter_c))]) (fun _ _ hle h => h.mono hle) (by kernel_rfl)
    ⟨fun z => by kernel_rfl, trivial, trivial⟩
    (fun z => by kernel_rfl)
def credenzaref06_words : Option ((List Str) × Unit) :=
  some (([([98, 114, 101, 97, 107] : Str), ([99, 97, 115, 101] : Str), ([99, 97, 116, 99, 104] : Str), ([99, 108, 97, 115, 115] : Str), ([99, 111, 110, 115, 116] : Str), ([99, 111, 110, 116, 105, 110, 117, 101] : Str), ([100, 101, 98, 117, 103, 103, 101, 114] : Str), ([100, 101, 102, 97, 117, 108, 116] : Str), ([100, 101, 108, 101, 116, 101] : Str), ([100, 111] : Str), ([101, 108, 115, 101] : Str), ([101, 110, 117, 109] : Str), ([101, 120, 112, 111, 114, 116] : Str), ([101, 120, 116, 101, 110, 100, 115] : Str), ([102, 97, 108, 115, 101] : Str), ([102, 105, 110, 97, 108, 108, 121] : Str), ([102, 111, 114] : Str), ([102, 117, 110, 99, 116, 105, 111, 110] : Str), ([105, 102] : Str), ([105, 109, 112, 108, 101, 109, 101, 110, 116, 115] : Str), ([105, 109, 112, 111, 114, 116] : Str), ([105, 110] : Str), ([105, 110, 115, 116, 97, 110, 99, 101, 111, 102] : Str), ([105, 110, 116, 101, 114, 102, 97, 99, 101] : Str), ([108, 101, 116] : Str), ([110, 101, 119] : Str), ([110, 117, 108, 108] : Str), ([112, 97, 99, 107, 97, 103, 101] : Str), ([112, 114, 105, 118, 97, 116, 101] : Str), ([112, 114, 111, 116, 101, 99, 116, 101, 100] : Str), ([112, 117, 98, 108, 105, 99] : Str), ([114, 101, 116, 117, 114, 110] : Str), ([115, 116, 97, 116, 105, 99] : Str), ([115, 117, 112, 101, 114] : Str), ([115, 119, 105, 116, 99, 104] : Str), ([116, 104, 105, 115] : Str), ([116, 104, 114, 111, 119] : Str), ([116, 114, 117, 101] : Str), ([116, 114, 121] : Str), ([116, 121, 112, 101, 111, 102] : Str), ([118, 97, 114] : Str), ([118, 111, 105, 100] : Str), ([119, 104, 105, 108, 101] : Str), ([119, 105, 116, 104] : Str), ([121, 105, 101, 108, 100] : Str)] : List Str), ())
def credenzaref06_words_s : Shape := ⟨[], []⟩
def credenzaref06_words_o : List OutP := [⟨false, .sl 9, []⟩]
def credenzaref06_words_c : Dn.Callee Y := callee Y [] credenzaref06_words_s credenzaref06_words_o (fun z => credenzaref06_words)
def credenzaref06_words_k : Cuts Y (ParO Y credenzaref06_words_o) := .nil
theorem credenzaref06_words_ok : COk hY Tryz.prog Glob 86 (credenzaref06_words_c) :=
  fn_ok (body := (Tryz.f86.body).getD .skip) (T := []) (credenzaref06_words_k) Tryz.func86 (by kernel_rfl) ⟨⟨_, Tryz.func86, by kernel_rfl, rfl⟩⟩ hsz .nil (fun _ _ hle h => h.mono hle) (by kernel_rfl)
    trivial
    (fun z => by kernel_rfl)
def credenzaref06_IsWord_l1 : Str × (List Str) × Int × Int × Unit → Option ((Str × (List Str) × Int × Int × Unit) ⊕ (Bool × Unit))
  | (s_3, v_4, v_5, v_6, ()) =>
    if (decide (v_6 < v_5)) = true then
     Option.bind (getI v_4 v_6) fun x_7 =>
     if (s_3 == x_7) = true then
      some (Sum.inr (true, ()))
     else
      let n_8 := (IntKind.wrap .i64 (v_6 + 1))
      some (Sum.inl (s_3, v_4, v_5, n_8, ()))
    else
     some (Sum.inr (false, ()))
def credenzaref06_IsWord (s : Str) : Option (Bool × Unit) :=
  Option.bind (credenzaref06_words) fun r_1 =>
  let n_2 := ((r_1.1.length : Nat) : Int)
  Lp.loop credenzaref06_IsWord_l1 (s, r_1.1, n_2, 0, ())
def credenzaref06_IsWord_s : Shape := ⟨[(0, .str)], []⟩
def credenzaref06_IsWord_o : List OutP := [⟨false, .bool, []⟩]
def credenzaref06_IsWord_c : Dn.Callee Y := callee Y [] credenzaref06_IsWord_s credenzaref06_IsWord_o (fun z => credenzaref06_IsWord z.1)
def credenzaref06_IsWord_k : Cuts Y (ParO Y credenzaref06_IsWord_o) := (.loop [[7, 5, 2, 1, 2], [8, 5, 2, 1, 2], [6, 2, 1, 2], [2, 2]] ⟨[(0, .str), (5, .sl 9), (6, .int .i64), (7, .int .i64)], []⟩ (credenzaref06_IsWord_l1) .nil .nil)
theorem credenzaref06_IsWord_ok : COk hY Tryz.prog Glob 51 (credenzaref06_IsWord_c) :=
  fn_ok (body := (Tryz.f51.body).getD .skip) (T := [(86, (credenzaref06_words_c))]) (credenzaref06_IsWord_k) Tryz.func51 (by kernel_rfl) ⟨⟨_, Tryz.func51, by kernel_rfl, rfl⟩⟩ hsz ((.cons credenzaref06_words_ok .nil) : TabOk hY Tryz.prog Glob [(86, (credenzaref06_words_c))]) (fun _ _ hle h => h.mono hle) (by kernel_rfl)
    ⟨fun z => by kernel_rfl, trivial, trivial⟩
    (fun z => by kernel_rfl)
def credenzaref07_name (s : Str) : Option (Bool × Unit) :=
  Option.bind (credenzaref06_IsIdent s) fun r_1 =>
  if r_1.1 = true then
   Option.bind (credenzaref06_IsWord s) fun r_2 =>
   some ((!r_2.1), ())
  else
   some (false, ())
def credenzaref07_name_s : Shape := ⟨[(0, .str)], []⟩
def credenzaref07_name_o : List OutP := [⟨false, .bool, []⟩]
def credenzaref07_name_c : Dn.Callee Y := callee Y [] credenzaref07_name_s credenzaref07_name_o (fun z => credenzaref07_name z.1)
def credenzaref07_name_k : Cuts Y (ParO Y credenzaref07_name_o) := .nil
theorem credenzaref07_name_ok : COk hY Tryz.prog Glob 35 (credenzaref07_name_c) :=
  fn_ok (body := (Tryz.f35.body).getD .skip) (T := [(49, (credenzaref06_IsIdent_c)), (51, (credenzaref06_IsWord_c))]) (credenzaref07_name_k) Tryz.func35 (by kernel_rfl) ⟨⟨_, Tryz.func35, by kernel_rfl, rfl⟩⟩ hsz ((.cons credenzaref06_IsIdent_ok (.cons credenzaref06_IsWord_ok .nil)) : TabOk hY Tryz.prog Glob [(49, (credenzaref06_IsIdent_c)), (51, (credenzaref06_IsWord_c))]) (fun _ _ hle h => h.mono hle) (by kernel_rfl)
    trivial
    (fun z => by kernel_rfl)
def credenzaref07_has_l1 : Str × (List Str) × Int × Int × Unit → Option ((Str × (List Str) × Int × Int × Unit) ⊕ (Bool × Unit))
  | (s_1, v_2, v_3, v_4, ()) =>
    if (decide (v_4 < v_3)) = true then
     Option.bind (getI v_2 v_4) fun x_5 =>
     if (x_5 == s_1) = true then
      some (Sum.inr (true, ()))
     else
      let n_6 := (IntKind.wrap .i64 (v_4 + 1))
      some (Sum.inl (s_1, v_2, v_3, n_6, ()))
    else
     some (Sum.inr (false, ()))
def credenzaref07_has (l : List Str) (s : Str) : Option (Bool × Unit) :=
  Lp.loop credenzaref07_has_l1 (s, l, ((l.length : Nat) : Int), 0, ())
def credenzaref07_has_s : Shape := ⟨[(0, .sl 9), (1, .str)], []⟩
def credenzaref07_has_o : List OutP := [⟨false, .bool, []⟩]
def credenzaref07_has_c : Dn.Callee Y := callee Y [] credenzaref07_has_s credenzaref07_has_o (fun z => credenzaref07_has z.1 z.2.1)
def credenzaref07_has_k : Cuts Y (ParO Y credenzaref07_has_o) := (.loop [[7, 5, 2, 1, 2], [8, 5, 2, 1, 2], [6, 2, 1, 2], [2, 2]] ⟨[(1, .str), (7, .sl 9), (8, .int .i64), (9, .int .i64)], []⟩ (credenzaref07_has_l1) .nil .nil)
theorem credenzaref07_has_ok : COk hY Tryz.prog Glob 85 (credenzaref07_has_c) :=
  fn_ok (body := (Tryz.f85.body).getD .skip) (T := []) (credenzaref07_has_k) Tryz.func85 (by kernel_rfl) ⟨⟨_, Tryz.func85, by kernel_rfl, rfl⟩⟩ hsz .nil (fun _ _ hle h => h.mono hle) (by kernel_rfl)
    ⟨fun z => by kernel_rfl, trivial, trivial⟩
    (fun z => by kernel_rfl)
def credenzaref07_operator (kind : Int) (s : Str) : Option (Bool × Unit) :=
  if (kind == 15) = true then
   Option.bind (credenzaref07_has ([([45] : Str), ([43] : Str), ([33] : Str), ([116, 121, 112, 101, 111, 102] : Str), ([100, 101, 108, 101, 116, 101] : Str), ([118, 111, 105, 100] : Str)] : List Str) s) fun r_1 =>
   some (r_1.1, ())
  else
   if (kind == 16) = true then
    let b_2 := ((s == ([43, 43] : Str)) || (s == ([45, 45] : Str)))
    some (b_2, ())
   else
    if (kind == 17) = true then
     Option.bind (credenzaref07_has ([([43] : Str), ([45] : Str), ([42] : Str), ([47] : Str), ([37] : Str), ([60] : Str), ([62] : Str), ([60, 61] : Str), ([62, 61] : Str), ([61, 61] : Str), ([33, 61] : Str), ([61, 61, 61] : Str), ([33, 61, 61] : Str), ([105, 110] : Str), ([105, 110, 115, 116, 97, 110, 99, 101, 111, 102] : Str)] : List Str) s) fun r_3 =>
     some (r_3.1, ())
    else
     if (kind == 18) = true then
      let b_4 := ((s == ([38, 38] : Str)) || (s == ([124, 124] : Str)))
      some (b_4, ())
     else
      if (kind == 20) = true then
       Option.bind (credenzaref07_has ([([61] : Str), ([43, 61] : Str), ([45, 61] : Str), ([42, 61] : Str), ([47, 61] : Str), ([37, 61] : Str)] : List Str) s) fun r_5 =>
       some (r_5.1, ())
      else
       some (false, ())
def credenzaref07_operator_s : Shape := ⟨[(0, .int .i64), (1, .str)], []⟩
def credenzaref07_operator_o : List OutP := [⟨false, .bool, []⟩]
def credenzaref07_operator_c : Dn.Callee Y := callee Y [] credenzaref07_operator_s credenzaref07_operator_o (fun z => credenzaref07_operator z.1 z.2.1)
def credenzaref07_operator_k : Cuts Y (ParO Y credenzaref07_operator_o) := .nil
theorem credenzaref07_operator_ok : COk hY Tryz.prog Glob 50 (credenzaref07_operator_c) :=
  fn_ok (body := (Tryz.f50.body).getD .skip) (T := [(85, (credenzaref07_has_c))]) (credenzaref07_operator_k) Tryz.func50 (by kernel_rfl) ⟨⟨_, Tryz.func50, by kernel_rfl, rfl⟩⟩ hsz ((.cons credenzaref07_has_ok .nil) : TabOk hY Tryz.prog Glob [(85, (credenzaref07_has_c))]) (fun _ _ hle h => h.mono hle) (by kernel_rfl)
    trivial
    (fun z => by kernel_rfl)
def credenzaref07_named (n : T_api_Node) : Option (Bool × Unit) :=
  if (n.Kind == 3) = true then
   Option.bind (credenzaref07_name n.Name) fun r_1 =>
   some (r_1.1, ())
  else
   if (n.Kind == 23) = true then
    Option.bind (credenzaref07_name n.Name) fun r_2 =>
    some (r_2.1, ())
   else
    if (n.Kind == 38) = true then
     Option.bind (credenzaref07_name n.Name) fun r_3 =>
     some (r_3.1, ())
    else
     if (n.Kind == 39) = true then
      Option.bind (credenzaref07_name n.Name) fun r_4 =>
      some (r_4.1, ())
     else
      if (n.Kind == 10) = true then
       if (n.Name == ([] : Str)) = true then
        some (true, ())
       else
        Option.bind (credenzaref07_name n.Name) fun r_5 =>
        some (r_5.1, ())
      else
       if (n.Kind == 31) = true then
        if (n.Name == ([] : Str)) = true then
         some (true, ())
        else
         Option.bind (credenzaref07_name n.Name) fun r_6 =>
         some (r_6.1, ())
       else
        if (n.Kind == 32) = true then
         if (n.Name == ([] : Str)) = true then
          some (true, ())
         else
          Option.bind (credenzaref07_name n.Name) fun r_7 =>
          some (r_7.1, ())
        else
         if (n.Kind == 11) = true then
          Option.bind (credenzaref06_IsIdent n.Name) fun r_8 =>
          some (r_8.1, ())
         else
          if (n.Kind == 35) = true then
           let b_9 := (((n.L.length : Nat) : Int) == 3)
           Option.bind (
             if b_9 = true then
              Option.bind (getI n.L 1) fun x_10 =>
              some (x_10.Kind == 25)
             else
              some false) fun b_11 =>
           if b_11 = true then
            Option.bind (credenzaref07_name n.Name) fun r_12 =>
            some (r_12.1, ())
           else
            some ((n.Name == ([] : Str)), ())
          else
           if (n.Kind == 15) = true then
            Option.bind (credenzaref07_operator n.Kind n.Name) fun r_13 =>
            some (r_13.1, ())
           else
            if (n.Kind == 16) = true then
             Option.bind (credenzaref07_operator n.Kind n.Name) fun r_14 =>
             some (r_14.1, ())
            else
             if (n.Kind == 17) = true then
              Option.bind (credenzaref07_operator n.Kind n.Name) fun r_15 =>
              some (r_15.1, ())
             else
              if (n.Kind == 18) = true then
               Option.bind (credenzaref07_operator n.Kind n.Name) fun r_16 =>
               some (r_16.1, ())
              else
               if (n.Kind == 20) = true then
                Option.bind (credenzaref07_operator n.Kind n.Name) fun r_17 =>
                some (r_17.1, ())
               else
                some ((n.Name == ([] : Str)), ())
def credenzaref07_named_s : Shape := ⟨[(0, .st 25)], []⟩
def credenzaref07_named_o : List OutP := [⟨false, .bool, []⟩]
def credenzaref07_named_c : Dn.Callee Y := callee Y [] credenzaref07_named_s credenzaref07_named_o (fun z => credenzaref07_named z.1)
def credenzaref07_named_k : Cuts Y (ParO Y credenzaref07_named_o) := .nil
theorem credenzaref07_named_ok : COk hY Tryz.prog Glob 33 (credenzaref07_named_c) :=
  fn_ok (body := (Tryz.f33.body).getD .skip) (T := [(35, (credenzaref07_name_c)), (49, (credenzaref06_IsIdent_c)), (50, (credenzaref07_operator_c))]) (credenzaref07_named_k) Tryz.func33 (by kernel_rfl) ⟨⟨_, Tryz.func33, by kernel_rfl, rfl⟩⟩ hsz ((.cons credenzaref07_name_ok (.cons credenzaref06_IsIdent_ok (.cons credenzaref07_operator_ok .nil))) : TabOk hY Tryz.prog Glob [(35, (credenzaref07_name_c)), (49, (credenzaref06_IsIdent_c)), (50, (credenzaref07_operator_c))]) (fun _ _ hle h => h.mono hle) (by kernel_rfl)
    trivial
    (fun z => by kernel_rfl)
def credenzaref01_Check (u : Str) : Option (Bool × Unit) :=
  let n_1 := (Int.tmod ((u.length : Nat) : Int) 2)
  some ((n_1 == 0), ())
def credenzaref01_Check_s : Shape := ⟨[(0, .str)], []⟩
def credenzaref01_Check_o : List OutP := [⟨false, .bool, []⟩]
def credenzaref01_Check_c : Dn.Callee Y := callee Y [] credenzaref01_Check_s credenzaref01_Check_o (fun z => credenzaref01_Check z.1)
def credenzaref01_Check_k : Cuts Y (ParO Y credenzaref01_Check_o) := .nil
theorem credenzaref01_Check_ok : COk hY Tryz.prog Glob 34 (credenzaref01_Check_c) :=
  fn_ok (body := (Tryz.f34.body).getD .skip) (T := []) (credenzaref01_Check_k) Tryz.func34 (by kernel_rfl) ⟨⟨_, Tryz.func34, by kernel_rfl, rfl⟩⟩ hsz .nil (fun _ _ hle h => h.mono hle) (by kernel_rfl)
    trivial
    (fun z => by kernel_rfl)
def credenzaref07_own_l2 : (List Str) × Int × Int × Unit → Option (((List Str) × Int × Int × Unit) ⊕ (Bool × Unit))
  | (v_11, v_12, v_13, ()) =>
    if (decide (v_13 < v_12)) = true then
     Option.bind (getI v_11 v_13) fun x_14 =>
     Option.bind (credenzaref07_name x_14) fun r_15 =>
     if (!r_15.1) = true then
      some (Sum.inr (false, ()))
     else
      let n_16 := (IntKind.wrap .i64 (v_13 + 1))
      some (Sum.inl (v_11, v_12, n_16, ()))
    else
     some (Sum.inr (true, ()))
def credenzaref07_own_j1 (x_17 : T_api_Node) : Option (Bool × Unit) :=
  let b_18 := ((x_17.Num != 0) && (x_17.Num != 1))
  if b_18 = true then
   some (false, ())
  else
   let n_19 := ((x_17.Names.length : Nat) : Int)
   let b_20 := ((decide (n_19 > 0)) && (x_17.Kind != 10))
   if (b_20 && (x_17.Kind != 39)) = true then
    some (false, ())
   else
    let n_21 := ((x_17.Names.length : Nat) : Int)
    Lp.loop credenzaref07_own_l2 (x_17.Names, n_21, 0, ())
def credenzaref07_own (n : T_api_Node) : Option (Bool × Unit) :=
  Option.bind (credenzaref07_named (re25 n)) fun r_1 =>
  let b_2 := ((!r_1.1) || (((!(n.Text == ([] : Str))) && (n.Kind != 2)) && (n.Kind != 9)))
  if b_2 = true then
   some (false, ())
  else
   Option.bind (credenzaref01_Check n.Text) fun r_3 =>
   if (!r_3.1) = true then
    some (false, ())
   else
    if (n.Kind == 1) = true then
     let b_4 := ((decide (n.Num < 0)) || (decide (n.Num > 9007199254740991)))
     if b_4 = true then
      some (false, ())
     else
      let n_5 := ((n.Names.length : Nat) : Int)
      let b_6 := ((decide (n_5 > 0)) && (n.Kind != 10))
      if (b_6 && (n.Kind != 39)) = true then
       some (false, ())
      else
       let n_7 := ((n.Names.length : Nat) : Int)
       Lp.loop credenzaref07_own_l2 (n.Names, n_7, 0, ())
    else
     if (n.Kind == 6) = true then
      credenzaref07_own_j1 (re25 n)
     else
      if (n.Kind == 16) = true then
       credenzaref07_own_j1 (re25 n)
      else
       if (n.Num != 0) = true then
        some (false, ())
       else
        let n_8 := ((n.Names.length : Nat) : Int)
        let b_9 := ((decide (n_8 > 0)) && (n.Kind != 10))
        if (b_9 && (n.Kind != 39)) = true then
         some (false, ())
        else
         let n_10 := ((n.Names.length : Nat) : Int)
         Lp.loop credenzaref07_own_l2 (n.Names, n_10, 0, ())
def credenzaref07_own_s : Shape := ⟨[(0, .st 25)], []⟩
def credenzaref07_own_o : List OutP := [⟨false, .bool, []⟩]
def credenzaref07_own_c : Dn.Callee Y := callee Y [] credenzaref07_own_s credenzaref07_own_o (fun z => credenzaref07_own z.1)
def credenzaref07_own_k : Cuts Y (ParO Y credenzaref07_own_o) := (.join [[1, 3, 2, 4, 2, 5, 2, 1, 2, 2], [2, 3, 2, 4, 2, 5, 2, 1, 2, 2], [6, 2, 1, 2, 2], [2, 2, 2]] ⟨[(1, .ptr 0 0)], [.whole 25 25]⟩ (fun z => credenzaref07_own_j1 z.1) (.loop [[7, 5, 2, 1, 2, 2, 2, 2], [8, 5, 2, 1, 2, 2, 2, 2], [6, 2, 1, 2, 2, 2, 2], [2, 2, 2, 2, 2]] ⟨[(70, .sl 9), (71, .int .i64), (72, .int .i64)], []⟩ (credenzaref07_own_l2) .nil .nil))
theorem credenzaref07_own_ok : COk hY Tryz.prog Glob 17 (credenzaref07_own_c) :=
  fn_ok (body := (Tryz.f17.body).getD .skip) (T := [(33, (credenzaref07_named_c)), (34, (credenzaref01_Check_c)), (35, (credenzaref07_name_c))]) (credenzaref07_own_k) Tryz.func17 (by kernel_rfl) ⟨⟨_, Tryz.func17, by kernel_rfl, rfl⟩⟩ hsz ((.cons credenzaref07_named_ok (.cons credenzaref01_Check_ok (.cons credenzaref07_name_ok .nil))) : TabOk hY Tryz.prog Glob [(33, (credenzaref07_named_c)), (34, (credenzaref01_Check_c)), (35, (credenzaref07_name_c))]) (fun _ _ hle h => h.mono hle) (by kernel_rfl)
    ⟨fun z => by kernel_rfl, ⟨fun z => by kernel_rfl, trivial, trivial⟩⟩
    (fun z => by kernel_rfl)
def credenzaref07_IsTarget (n : T_api_Node) : Option (Bool × Unit) :=
  let b_1 := ((n.Kind == 3) || (n.Kind == 11))
  some ((b_1 || (n.Kind == 12)), ())
def credenzaref07_IsTarget_s : Shape := ⟨[(0, .st 25)], []⟩
def credenzaref07_IsTarget_o : List OutP := [⟨false, .bool, []⟩]
def credenzaref07_IsTarget_c : Dn.Callee Y := callee Y [] credenzaref07_IsTarget_s credenzaref07_IsTarget_o (fun z => credenzaref07_IsTarget z.1)
def credenzaref07_IsTarget_k : Cuts Y (ParO Y credenzaref07_IsTarget_o) := .nil
theorem credenzaref07_IsTarget_ok : COk hY Tryz.prog Glob 87 (credenzaref07_IsTarget_c) :=
  fn_ok (body := (Tryz.f87.body).getD .skip) (T := []) (credenzaref07_IsTarget_k) Tryz.func87 (by kernel_rfl) ⟨⟨_, Tryz.func87, by kernel_rfl, rfl⟩⟩ hsz .nil (fun _ _ hle h => h.mono hle) (by kernel_rfl)
    trivial
    (fun z => by kernel_rfl)
def credenzaref07_empty (n : T_api_Node) : Option (Bool × Unit) :=
  if (n.Kind == 42) = true then
   Option.bind (credenzaref07_own (re25 n)) fun r_1 =>
   let b_2 := (r_1.1 && (((n.L.length : Nat) : Int) == 0))
   some (b_2, ())
  else
   some (false, ())
def credenzaref07_empty_s : Shape := ⟨[(0, .st 25)], []⟩
def credenzaref07_empty_o : List OutP := [⟨false, .bool, []⟩]
def credenzaref07_empty_c : Dn.Callee Y := callee Y [] credenzaref07_empty_s credenzaref07_empty_o (fun z => credenzaref07_empty z.1)
def credenzaref07_empty_k : Cuts Y (ParO Y credenzaref07_empty_o) := .nil
theorem credenzaref07_empty_ok : COk hY Tryz.prog Glob 57 (credenzaref07_empty_c) :=
  fn_ok (body := (Tryz.f57.body).getD .skip) (T := [(17, (credenzaref07_own_c))]) (credenzaref07_empty_k) Tryz.func57 (by kernel_rfl) ⟨⟨_, Tryz.func57, by kernel_rfl, rfl⟩⟩ hsz ((.cons credenzaref07_own_ok .nil) : TabOk hY Tryz.prog Glob [(17, (credenzaref07_own_c))]) (fun _ _ hle h => h.mono hle) (by kernel_rfl)
    trivial
    (fun z => by kernel_rfl)
structure Rec_credenzaref07_stmts where
  credenzaref07_stmts : (List T_api_Node) → Bool → Option (Bool × Unit)
  credenzaref07_stmt : T_api_Node → Option (Bool × Unit)
  credenzaref07_decls : T_api_Node → Option (Bool × Unit)
  credenzaref07_exprs : (List T_api_Node) → Option (Bool × Unit)
  credenzaref07_expr : T_api_Node → Option (Bool × Unit)
  credenzaref07_block : T_api_Node → Option (Bool × Unit)
  credenzaref07_loop : T_api_Node → Option (Bool × Unit)
  credenzaref07_cases : (List T_api_Node) → Option (Bool × Unit)
def credenzaref07_stmts_s : Shape := ⟨[(0, .sl 25), (1, .bool)], []⟩
def credenzaref07_stmts_o : List OutP := [⟨false, .bool, []⟩]
def credenzaref07_stmts_c (g_ : Rec_credenzaref07_stmts) : Dn.Callee Y := callee Y [] credenzaref07_stmts_s credenzaref07_stmts_o (fun z => g_.credenzaref07_stmts z.1 z.2.1)
def credenzaref07_stmt_s : Shape := ⟨[(0, .st 25)], []⟩
def credenzaref07_stmt_o : List OutP := [⟨false, .bool, []⟩]
def credenzaref07_stmt_c (g_ : Rec_credenzaref07_stmts) : Dn.Callee Y := callee Y [] credenzaref07_stmt_s credenzaref07_stmt_o (fun z => g_.credenzaref07_stmt z.1)
def credenzaref07_decls_s : Shape := ⟨[(0, .st 25)], []⟩
def credenzaref07_decls_o : List OutP := [⟨false, .bool, []⟩]
def credenzaref07_decls_c (g_ : Rec_credenzaref07_stmts) : Dn.Callee Y := callee Y [] credenzaref07_decls_s credenzaref07_decls_o (fun z => g_.credenzaref07_decls z.1)
def credenzaref07_exprs_s : Shape := ⟨[(0, .sl 25)], []⟩
def credenzaref07_exprs_o : List OutP := [⟨false, .bool, []⟩]
def credenzaref07_exprs_c (g_ : Rec_credenzaref07_stmts) : Dn.Callee Y := callee Y [] credenzaref07_exprs_s credenzaref07_exprs_o (fun z => g_.credenzaref07_exprs z.1)
def credenzaref07_expr_s : Shape := ⟨[(0, .st 25)], []⟩
def credenzaref07_expr_o : List OutP := [⟨false, .bool, []⟩]
def credenzaref07_expr_c (g_ : Rec_credenzaref07_stmts) : Dn.Callee Y := callee Y [] credenzaref07_expr_s credenzaref07_expr_o (fun z => g_.credenzaref07_expr z.1)
def credenzaref07_block_s : Shape := ⟨[(0, .st 25)], []⟩
def credenzaref07_block_o : List OutP := [⟨false, .bool, []⟩]
def credenzaref07_block_c (g_ : Rec_credenzaref07_stmts) : Dn.Callee Y := callee Y [] credenzaref07_block_s credenzaref07_block_o (fun z => g_.credenzaref07_block z.1)
def credenzaref07_loop_s : Shape := ⟨[(0, .st 25)], []⟩
def credenzaref07_loop_o : List OutP := [⟨false, .bool, []⟩]
def credenzaref07_loop_c (g_ : Rec_credenzaref07_stmts) : Dn.Callee Y := callee Y [] credenzaref07_loop_s credenzaref07_loop_o (fun z => g_.credenzaref07_loop z.1)
def credenzaref07_cases_s : Shape := ⟨[(0, .sl 25)], []⟩
def credenzaref07_cases_o : List OutP := [⟨false, .bool, []⟩]
def credenzaref07_cases_c (g_ : Rec_credenzaref07_stmts) : Dn.Callee Y := callee Y [] credenzaref07_cases_s credenzaref07_cases_o (fun z => g_.credenzaref07_cases z.1)
structure Rec_credenzaref07_stmts_ok (g_ : Rec_credenzaref07_stmts) : Prop where
  credenzaref07_stmts : COk hY Tryz.prog Glob 18 (credenzaref07_stmts_c g_)
  credenzaref07_stmt : COk hY Tryz.prog Glob 36 (credenzaref07_stmt_c g_)
  credenzaref07_decls : COk hY Tryz.prog Glob 52 (credenzaref07_decls_c g_)
  credenzaref07_exprs : COk hY Tryz.prog Glob 56 (credenzaref07_exprs_c g_)
  credenzaref07_expr : COk hY Tryz.prog Glob 53 (credenzaref07_expr_c g_)
  credenzaref07_block : COk hY Tryz.prog Glob 54 (credenzaref07_block_c g_)
  credenzaref07_loop : COk hY Tryz.prog Glob 55 (credenzaref07_loop_c g_)
  credenzaref07_cases : COk hY Tryz.prog Glob 58 (credenzaref07_cases_c g_)
def credenzaref07_stmts_l1 (g_ : Rec_credenzaref07_stmts) : Bool × (List T_api_Node) × Int × Int × Unit → Option ((Bool × (List T_api_Node) × Int × Int × Unit) ⊕ (Bool × Unit))
  | (funcs_1, v_2, v_3, v_4, ()) =>
    if (decide (v_4 < v_3)) = true then
     Option.bind (getI v_2 v_4) fun x_5 =>
     if (x_5.Kind == 39) = true then
      if (!funcs_1) = true then
       some (Sum.inr (false, ()))
      else
       Option.bind (credenzaref07_own (re25 x_5)) fun r_6 =>
       if (!r_6.1) = true then
        some (Sum.inr (false, ()))
       else
        Option.bind (g_.credenzaref07_stmts x_5.L true) fun r_7 =>
        if (!r_7.1) = true then
         some (Sum.inr (false, ()))
        else
         let n_8 := (IntKind.wrap .i64 (v_4 + 1))
         some (Sum.inl (funcs_1, v_2, v_3, n_8, ()))
     else
      Option.bind (g_.credenzaref07_stmt (re25 x_5)) fun r_9 =>
      if (!r_9.1) = true then
       some (Sum.inr (false, ()))
      else
       let n_10 := (IntKind.wrap .i64 (v_4 + 1))
       some (Sum.inl (funcs_1, v_2, v_3, n_10, ()))
    else
     some (Sum.inr (true, ()))
def credenzaref07_stmts_b (g_ : Rec_credenzaref07_stmts) (l : List T_api_Node) (funcs : Bool) : Option (Bool × Unit) :=
  Lp.loop (credenzaref07_stmts_l1 g_) (funcs, l, ((l.length : Nat) : Int), 0, ())
def credenzaref07_stmts_d (g_ : Rec_credenzaref07_stmts) : Dn.Callee Y := callee Y [] credenzaref07_stmts_s credenzaref07_stmts_o (fun z => credenzaref07_stmts_b g_ z.1 z.2.1)
def credenzaref07_stmts_k (g_ : Rec_credenzaref07_stmts) : Cuts Y (ParO Y credenzaref07_stmts_o) := (.loop [[7, 5, 2, 1, 2], [8, 5, 2, 1, 2], [6, 2, 1, 2], [2, 2]] ⟨[(1, .bool), (7, .sl 25), (8, .int .i64), (9, .int .i64)], []⟩ (credenzaref07_stmts_l1 g_) .nil .nil)
theorem credenzaref07_stmts_b_ok (g_ : Rec_credenzaref07_stmts) (hg_ : Rec_credenzaref07_stmts_ok g_) : COk hY Tryz.prog Glob 18 (credenzaref07_stmts_d g_) :=
  fn_ok (body := (Tryz.f18.body).getD .skip) (T := [(17, (credenzaref07_own_c)), (18, (credenzaref07_stmts_c g_)), (36, (credenzaref07_stmt_c g_))]) (credenzaref07_stmts_k g_) Tryz.func18 (by kernel_rfl) ⟨⟨_, Tryz.func18, by kernel_rfl, rfl⟩⟩ hsz ((.cons credenzaref07_own_ok (.cons hg_.credenzaref07_stmts (.cons hg_.credenzaref07_stmt .nil))) : TabOk hY Tryz.prog Glob [(17, (credenzaref07_own_c)), (18, (credenzaref07_stmts_c g_)), (36, (credenzaref07_stmt_c g_))]) (fun _ _ hle h => h.mono hle) (by kernel_rfl)
    ⟨fun z => by kernel_rfl, trivial, trivial⟩
    (fun z => by kernel_rfl)
def credenzaref07_stmt_b (g_ : Rec_credenzaref07_stmts) (t : T_api_Node) : Option (Bool × Unit) :=
  Option.bind (credenzaref07_own (re25 t)) fun a_1 =>
  if (!a_1.1) = true then
   some (false, ())
  else
   if (t.Kind == 22) = true then
    Option.bind (g_.credenzaref07_decls (re25 t)) fun r_2 =>
    some (r_2.1, ())
   else
    if (t.Kind == 24) = true then
     let b_3 := (((t.L.length : Nat) : Int) == 1)
     if b_3 = true then
      Option.bind (getI t.L 0) fun x_4 =>
      Option.bind (g_.credenzaref07_expr (re25 x_4)) fun r_5 =>
      some (r_5.1, ())
     else
      some (false, ())
    else
     if (t.Kind == 34) = true then
      let b_6 := (((t.L.length : Nat) : Int) == 1)
      if b_6 = true then
       Option.bind (getI t.L 0) fun x_7 =>
       Option.bind (g_.credenzaref07_expr (re25 x_7)) fun r_8 =>
       some (r_8.1, ())
      else
       some (false, ())
     else
      if (t.Kind == 25) = true then
       Option.bind (g_.credenzaref07_block (re25 t)) fun r_9 =>
       some (r_9.1, ())
      else
       if (t.Kind == 26) = true then
        let b_10 := (((t.L.length : Nat) : Int) == 2)
        if b_10 = true then
         Option.bind (getI t.L 0) fun x_11 =>
         Option.bind (g_.credenzaref07_expr (re25 x_11)) fun r_12 =>
         if r_12.1 = true then
          Option.bind (getI t.L 1) fun x_13 =>
          Option.bind (g_.credenzaref07_block (re25 x_13)) fun r_14 =>
          some (r_14.1, ())
         else
          some (false, ())
        else
         let b_15 := (((t.L.length : Nat) : Int) == 3)
         if b_15 = true then
          Option.bind (getI t.L 2) fun x_16 =>
          Option.bind (g_.credenzaref07_block (re25 x_16)) fun r_17 =>
          if r_17.1 = true then
           Option.bind (getI t.L 0) fun x_18 =>
           Option.bind (g_.credenzaref07_expr (re25 x_18)) fun r_19 =>
           if r_19.1 = true then
            Option.bind (getI t.L 1) fun x_20 =>
            Option.bind (g_.credenzaref07_block (re25 x_20)) fun r_21 =>
            some (r_21.1, ())
           else
            some (false, ())
          else
           some (false, ())
         else
          some (false, ())
       else
        if (t.Kind == 27) = true then
         Option.bind (g_.credenzaref07_loop (re25 t)) fun r_22 =>
         some (r_22.1, ())
        else
         if (t.Kind == 28) = true then
          Option.bind (g_.credenzaref07_loop (re25 t)) fun r_23 =>
          some (r_23.1, ())
         else
          if (t.Kind == 29) = true then
           Option.bind (g_.credenzaref07_loop (re25 t)) fun r_24 =>
           some (r_24.1, ())
          else
           if (t.Kind == 30) = true then
            Option.bind (g_.credenzaref07_loop (re25 t)) fun r_25 =>
            some (r_25.1, ())
           else
            if (t.Kind == 31) = true then
             let b_26 := (((t.L.length : Nat) : Int) == 0)
             some (b_26, ())
            else
             if (t.Kind == 32) = true then
              let b_27 := (((t.L.length : Nat) : Int) == 0)
              some (b_27, ())
             else
              if (t.Kind == 40) = true then
               let b_28 := (((t.L.length : Nat) : Int) == 0)
               some (b_28, ())
              else
               if (t.Kind == 33) = true then
                let b_29 := (decide (((t.L.length : Nat) : Int) ≤ 1))
                if b_29 = true then
                 Option.bind (g_.credenzaref07_exprs t.L) fun r_30 =>
                 some (r_30.1, ())
                else
                 some (false, ())
               else
                if (t.Kind == 35) = true then
                 let b_31 := (((t.L.length : Nat) : Int) == 3)
                 if b_31 = true then
                  Option.bind (getI t.L 0) fun x_32 =>
                  Option.bind (g_.credenzaref07_block (re25 x_32)) fun r_33 =>
                  if r_33.1 = true then
                   Option.bind (getI t.L 1) fun x_34 =>
                   Option.bind (g_.credenzaref07_block (re25 x_34)) fun r_35 =>
                   if r_35.1 = true then
                    Option.bind (getI t.L 2) fun x_36 =>
                    Option.bind (g_.credenzaref07_block (re25 x_36)) fun r_37 =>
                    if r_37.1 = true then
                     Option.bind (getI t.L 1) fun x_38 =>
                     Option.bind (credenzaref07_empty (re25 x_38)) fun r_39 =>
                     if r_39.1 = true then
                      Option.bind (getI t.L 2) fun x_40 =>
                      Option.bind (credenzaref07_empty (re25 x_40)) fun r_41 =>
                      some ((!r_41.1), ())
                     else
                      some (true, ())
                    else
                     Option.bind (getI t.L 2) fun x_42 =>
                     Option.bind (credenzaref07_empty (re25 x_42)) fun r_43 =>
                     if r_43.1 = true then
                      Option.bind (getI t.L 1) fun x_44 =>
                      Option.bind (credenzaref07_empty (re25 x_44)) fun r_45 =>
                      if r_45.1 = true then
                       Option.bind (getI t.L 2) fun x_46 =>
                       Option.bind (credenzaref07_empty (re25 x_46)) fun r_47 =>
                       some ((!r_47.1), ())
                      else
                       some (true, ())
                     else
                      some (false, ())
                   else
                    Option.bind (getI t.L 1) fun x_48 =>
                    Option.bind (credenzaref07_empty (re25 x_48)) fun r_49 =>
                    if r_49.1 = true then
                     Option.bind (getI t.L 2) fun x_50 =>
                     Option.bind (g_.credenzaref07_block (re25 x_50)) fun r_51 =>
                     if r_51.1 = true then
                      Option.bind (getI t.L 1) fun x_52 =>
                      Option.bind (credenzaref07_empty (re25 x_52)) fun r_53 =>
                      if r_53.1 = true then
                       Option.bind (getI t.L 2) fun x_54 =>
                       Option.bind (credenzaref07_empty (re25 x_54)) fun r_55 =>
                       some ((!r_55.1), ())
                      else
                       some (true, ())
                     else
                      Option.bind (getI t.L 2) fun x_56 =>
                      Option.bind (credenzaref07_empty (re25 x_56)) fun r_57 =>
                      if r_57.1 = true then
                       Option.bind (getI t.L 1) fun x_58 =>
                       Option.bind (credenzaref07_empty (re25 x_58)) fun r_59 =>
                       if r_59.1 = true then
                        Option.bind (getI t.L 2) fun x_60 =>
                        Option.bind (credenzaref07_empty (re25 x_60)) fun r_61 =>
                        some ((!r_61.1), ())
                       else
                        some (true, ())
                      else
                       some (false, ())
                    else
                     some (false, ())
                  else
                   some (false, ())
                 else
                  some (false, ())
                else
                 if (t.Kind == 36) = true then
                  let b_62 := (decide (((t.L.length : Nat) : Int) ≥ 1))
                  if b_62 = true then
                   Option.bind (getI t.L 0) fun x_63 =>
                   Option.bind (g_.credenzaref07_expr (re25 x_63)) fun r_64 =>
                   if r_64.1 = true then
                    Option.bind (cutL t.L 1 ((t.L.length : Nat) : Int)) fun s_65 =>
                    Option.bind (g_.credenzaref07_cases s_65) fun r_66 =>
                    some (r_66.1, ())
                   else
                    some (false, ())
                  else
                   some (false, ())
                 else
                  if (t.Kind == 38) = true then
                   let b_67 := (((t.L.length : Nat) : Int) == 1)
                   if b_67 = true then
                    Option.bind (getI t.L 0) fun x_68 =>
                    Option.bind (g_.credenzaref07_stmt (re25 x_68)) fun r_69 =>
                    some (r_69.1, ())
                   else
                    some (false, ())
                  else
                   some (false, ())
def credenzaref07_stmt_d (g_ : Rec_credenzaref07_stmts) : Dn.Callee Y := callee Y [] credenzaref07_stmt_s credenzaref07_stmt_o (fun z => credenzaref07_stmt_b g_ z.1)
def credenzaref07_stmt_k (g_ : Rec_credenzaref07_stmts) : Cuts Y (ParO Y credenzaref07_stmt_o) := .nil
theorem credenzaref07_stmt_b_ok (g_ : Rec_credenzaref07_stmts) (hg_ : Rec_credenzaref07_stmts_ok g_) : COk hY Tryz.prog Glob 36 (credenzaref07_stmt_d g_) :=
  fn_ok (body := (Tryz.f36.body).getD .skip) (T := [(17, (credenzaref07_own_c)), (52, (credenzaref07_decls_c g_)), (53, (credenzaref07_expr_c g_)), (54, (credenzaref07_block_c g_)), (55, (credenzaref07_loop_c g_)), (56, (credenzaref07_exprs_c g_)), (57, (credenzaref07_empty_c)), (58, (credenzaref07_cases_c g_)), (36, (credenzaref07_stmt_c g_))]) (credenzaref07_stmt_k g_) Tryz.func36 (by kernel_rfl) ⟨⟨_, Tryz.func36, by kernel_rfl, rfl⟩⟩ hsz ((.cons credenzaref07_own_ok (.cons hg_.credenzaref07_decls (.cons hg_.credenzaref07_expr (.cons hg_.credenzaref07_block (.cons hg_.credenzaref07_loop (.cons hg_.credenzaref07_exprs (.cons credenzaref07_empty_ok (.cons hg_.credenzaref07_cases (.cons hg_.credenzaref07_stmt .nil))))))))) : TabOk hY Tryz.prog Glob [(17, (credenzaref07_own_c)), (52, (credenzaref07_decls_c g_)), (53, (credenzaref07_expr_c g_)), (54, (credenzaref07_block_c g_)), (55, (credenzaref07_loop_c g_)), (56, (credenzaref07_exprs_c g_)), (57, (credenzaref07_empty_c)), (58, (credenzaref07_cases_c g_)), (36, (credenzaref07_stmt_c g_))]) (fun _ _ hle h => h.mono hle) (by kernel_rfl)
    trivial
    (fun z => by kernel_rfl)
def credenzaref07_decls_l1 (g_ : Rec_credenzaref07_stmts) : (List T_api_Node) × Int × Int × Unit → Option (((List T_api_Node) × Int × Int × Unit) ⊕ (Bool × Unit))
  | (v_3, v_4, v_5, ()) =>
    if (decide (v_5 < v_4)) = true then
     Option.bind (getI v_3 v_5) fun x_6 =>
     if (x_6.Kind != 23) = true then
      some (Sum.inr (false, ()))
     else
      Option.bind (credenzaref07_own (re25 x_6)) fun r_7 =>
      let b_8 := ((!r_7.1) || (decide (((x_6.L.length : Nat) : Int) > 1)))
      if b_8 = true then
       some (Sum.inr (false, ()))
      else
       Option.bind (g_.credenzaref07_exprs x_6.L) fun r_9 =>
       if (!r_9.1) = true then
        some (Sum.inr (false, ()))
       else
        let n_10 := (IntKind.wrap .i64 (v_5 + 1))
        some (Sum.inl (v_3, v_4, n_10, ()))
    else
     some (Sum.inr (true, ()))
def credenzaref07_decls_b (g_ : Rec_credenzaref07_stmts) (n : T_api_Node) : Option (Bool × Unit) :=
  if (n.Kind != 22) = true then
   some (false, ())
  else
   Option.bind (credenzaref07_own (re25 n)) fun r_1 =>
   let b_2 := ((!r_1.1) || (((n.L.length : Nat) : Int) == 0))
   if b_2 = true then
    some (false, ())
   else
    Lp.loop (credenzaref07_decls_l1 g_) (n.L, ((n.L.length : Nat) : Int), 0, ())
def credenzaref07_decls_d (g_ : Rec_credenzaref07_stmts) : Dn.Callee Y := callee Y [] credenzaref07_decls_s credenzaref07_decls_o (fun z => credenzaref07_decls_b g_ z.1)
def credenzaref07_decls_k (g_ : Rec_credenzaref07_stmts) : Cuts Y (ParO Y credenzaref07_decls_o) := (.loop [[7, 5, 2, 1, 2, 2], [8, 5, 2, 1, 2, 2], [6, 2, 1, 2, 2], [2, 2, 2]] ⟨[(20, .sl 25), (21, .int .i64), (22, .int .i64)], []⟩ (credenzaref07_decls_l1 g_) .nil .nil)
theorem credenzaref07_decls_b_ok (g_ : Rec_credenzaref07_stmts) (hg_ : Rec_credenzaref07_stmts_ok g_) : COk hY Tryz.prog Glob 52 (credenzaref07_decls_d g_) :=
  fn_ok (body := (Tryz.f52.body).getD .skip) (T := [(17, (credenzaref07_own_c)), (56, (credenzaref07_exprs_c g_))]) (credenzaref07_decls_k g_) Tryz.func52 (by kernel_rfl) ⟨⟨_, Tryz.func52, by kernel_rfl, rfl⟩⟩ hsz ((.cons credenzaref07_own_ok (.cons hg_.credenzaref07_exprs .nil)) : TabOk hY Tryz.prog Glob [(17, (credenzaref07_own_c)), (56, (credenzaref07_exprs_c g_))]) (fun _ _ hle h => h.mono hle) (by kernel_rfl)
    ⟨fun z => by kernel_rfl, trivial, trivial⟩
    (fun z => by kernel_rfl)
def credenzaref07_exprs_l1 (g_ : Rec_credenzaref07_stmts) : (List T_api_Node) × Int × Int × Unit → Option (((List T_api_Node) × Int × Int × Unit) ⊕ (Bool × Unit))
  | (v_1, v_2, v_3, ()) =>
    if (decide (v_3 < v_2)) = true then
     Option.bind (getI v_1 v_3) fun x_4 =>
     Option.bind (g_.credenzaref07_expr (re25 x_4)) fun r_5 =>
     if (!r_5.1) = true then
      some (Sum.inr (false, ()))
     else
      let n_6 := (IntKind.wrap .i64 (v_3 + 1))
      some (Sum.inl (v_1, v_2, n_6, ()))
    else
     some (Sum.inr (true, ()))
def credenzaref07_exprs_b (g_ : Rec_credenzaref07_stmts) (l : List T_api_Node) : Option (Bool × Unit) :=
  Lp.loop (credenzaref07_exprs_l1 g_) (l, ((l.length : Nat) : Int), 0, ())
def credenzaref07_exprs_d (g_ : Rec_credenzaref07_stmts) : Dn.Callee Y := callee Y [] credenzaref07_exprs_s credenzaref07_exprs_o (fun z => credenzaref07_exprs_b g_ z.1)
def credenzaref07_exprs_k (g_ : Rec_credenzaref07_stmts) : Cuts Y (ParO Y credenzaref07_exprs_o) := (.loop [[7, 5, 2, 1, 2], [8, 5, 2, 1, 2], [6, 2, 1, 2], [2, 2]] ⟨[(5, .sl 25), (6, .int .i64), (7, .int .i64)], []⟩ (credenzaref07_exprs_l1 g_) .nil .nil)
theorem credenzaref07_exprs_b_ok (g_ : Rec_credenzaref07_stmts) (hg_ : Rec_credenzaref07_stmts_ok g_) : COk hY Tryz.prog Glob 56 (credenzaref07_exprs_d g_) :=
  fn_ok (body := (Tryz.f56.body).getD .skip) (T := [(53, (credenzaref07_expr_c g_))]) (credenzaref07_exprs_k g_) Tryz.func56 (by kernel_rfl) ⟨⟨_, Tryz.func56, by kernel_rfl, rfl⟩⟩ hsz ((.cons hg_.credenzaref07_expr .nil) : TabOk hY Tryz.prog Glob [(53, (credenzaref07_expr_c g_))]) (fun _ _ hle h => h.mono hle) (by kernel_rfl)
    ⟨fun z => by kernel_rfl, trivial, trivial⟩
    (fun z => by kernel_rfl)
def credenzaref07_expr_l1 (g_ : Rec_credenzaref07_stmts) : (List T_api_Node) × Int × Int × Unit → Option (((List T_api_Node) × Int × Int × Unit) ⊕ (Bool × Unit))
  | (v_36, v_37, v_38, ()) =>
    if (decide (v_38 < v_37)) = true then
     Option.bind (getI v_36 v_38) fun x_39 =>
     if (x_39.Kind != 9) = true then
      some (Sum.inr (false, ()))
     else
      Option.bind (credenzaref07_own (re25 x_39)) fun r_40 =>
      let b_41 := ((!r_40.1) || (((x_39.L.length : Nat) : Int) != 1))
      if b_41 = true then
       some (Sum.inr (false, ()))
      else
       Option.bind (getI x_39.L 0) fun x_42 =>
       Option.bind (g_.credenzaref07_expr (re25 x_42)) fun r_43 =>
       if (!r_43.1) = true then
        some (Sum.inr (false, ()))
       else
        let n_44 := (IntKind.wrap .i64 (v_38 + 1))
        some (Sum.inl (v_36, v_37, n_44, ()))
    else
     some (Sum.inr (true, ()))
def credenzaref07_expr_b (g_ : Rec_credenzaref07_stmts) (t : T_api_Node) : Option (Bool × Unit) :=
  Option.bind (credenzaref07_own (re25 t)) fun r_1 =>
  if (!r_1.1) = true then
   some (false, ())
  else
   if (t.Kind == 1) = true then
    let b_2 := (((t.L.length : Nat) : Int) == 0)
    some (b_2, ())
   else
    if (t.Kind == 2) = true then
     let b_3 := (((t.L.length : Nat) : Int) == 0)
     some (b_3, ())
    else
     if (t.Kind == 3) = true then
      let b_4 := (((t.L.length : Nat) : Int) == 0)
      some (b_4, ())
     else
      if (t.Kind == 4) = true then
       let b_5 := (((t.L.length : Nat) : Int) == 0)
       some (b_5, ())
      else
       if (t.Kind == 5) = true then
        let b_6 := (((t.L.length : Nat) : Int) == 0)
        some (b_6, ())
       else
        if (t.Kind == 6) = true then
         let b_7 := (((t.L.length : Nat) : Int) == 0)
         some (b_7, ())
        else
         if (t.Kind == 7) = true then
          Option.bind (g_.credenzaref07_exprs t.L) fun r_8 =>
          some (r_8.1, ())
         else
          if (t.Kind == 8) = true then
           Lp.loop (credenzaref07_expr_l1 g_) (t.L, ((t.L.length : Nat) : Int), 0, ())
          else
           if (t.Kind == 10) = true then
            Option.bind (g_.credenzaref07_stmts t.L true) fun r_9 =>
            some (r_9.1, ())
           else
            if (t.Kind == 13) = true then
             let b_10 := (decide (((t.L.length : Nat) : Int) ≥ 1))
             if b_10 = true then
              Option.bind (g_.credenzaref07_exprs t.L) fun r_11 =>
              some (r_11.1, ())
             else
              some (false, ())
            else
             if (t.Kind == 14) = true then
              let b_12 := (decide (((t.L.length : Nat) : Int) ≥ 1))
              if b_12 = true then
               Option.bind (g_.credenzaref07_exprs t.L) fun r_13 =>
               some (r_13.1, ())
              else
               some (false, ())
             else
              if (t.Kind == 11) = true then
               let b_14 := (((t.L.length : Nat) : Int) == 1)
               if b_14 = true then
                Option.bind (g_.credenzaref07_exprs t.L) fun r_15 =>
                some (r_15.1, ())
               else
                some (false, ())
              else
               if (t.Kind == 15) = true then
                let b_16 := (((t.L.length : Nat) : Int) == 1)
                if b_16 = true then
                 Option.bind (g_.credenzaref07_exprs t.L) fun r_17 =>
                 some (r_17.1, ())
                else
                 some (false, ())
               else
                if (t.Kind == 16) = true then
                 let b_18 := (((t.L.length : Nat) : Int) == 1)
                 if b_18 = true then
                  Option.bind (getI t.L 0) fun x_19 =>
                  Option.bind (credenzaref07_IsTarget (re25 x_19)) fun r_20 =>
                  if r_20.1 = true then
                   Option.bind (g_.credenzaref07_exprs t.L) fun r_21 =>
                   some (r_21.1, ())
                  else
                   some (false, ())
                 else
                  some (false, ())
                else
                 if (t.Kind == 20) = true then
                  let b_22 := (((t.L.length : Nat) : Int) == 2)
                  if b_22 = true then
                   Option.bind (getI t.L 0) fun x_23 =>
                   Option.bind (credenzaref07_IsTarget (re25 x_23)) fun r_24 =>
                   if r_24.1 = true then
                    Option.bind (g_.credenzaref07_exprs t.L) fun r_25 =>
                    some (r_25.1, ())
                   else
                    some (false, ())
                  else
                   some (false, ())
                 else
                  if (t.Kind == 12) = true then
                   let b_26 := (((t.L.length : Nat) : Int) == 2)
                   if b_26 = true then
                    Option.bind (g_.credenzaref07_exprs t.L) fun r_27 =>
                    some (r_27.1, ())
                   else
                    some (false, ())
                  else
                   if (t.Kind == 17) = true then
                    let b_28 := (((t.L.length : Nat) : Int) == 2)
                    if b_28 = true then
                     Option.bind (g_.credenzaref07_exprs t.L) fun r_29 =>
                     some (r_29.1, ())
                    else
                     some (false, ())
                   else
                    if (t.Kind == 18) = true then
                     let b_30 := (((t.L.length : Nat) : Int) == 2)
                     if b_30 = true then
                      Option.bind (g_.credenzaref07_exprs t.L) fun r_31 =>
                      some (r_31.1, ())
                     else
                      some (false, ())
                    else
                     if (t.Kind == 21) = true then
                      let b_32 := (((t.L.length : Nat) : Int) == 2)
                      if b_32 = true then
                       Option.bind (g_.credenzaref07_exprs t.L) fun r_33 =>
                       some (r_33.1, ())
                      else
                       some (false, ())
                     else
                      if (t.Kind == 19) = true then
                       let b_34 := (((t.L.length : Nat) : Int) == 3)
                       if b_34 = true then
                        Option.bind (g_.credenzaref07_exprs t.L) fun r_35 =>
                        some (r_35.1, ())
                       else
                        some (false, ())
                      else
                       some (false, ())
def credenzaref07_expr_d (g_ : Rec_credenzaref07_stmts) : Dn.Callee Y := callee Y [] credenzaref07_expr_s credenzaref07_expr_o (fun z => credenzaref07_expr_b g_ z.1)
def credenzaref07_expr_k (g_ : Rec_credenzaref07_stmts) : Cuts Y (ParO Y credenzaref07_expr_o) := (.loop [[7, 5, 2, 1, 3, 2, 4, 2, 4, 2, 5, 2, 1, 2, 2, 2], [8, 5, 2, 1, 3, 2, 4, 2, 4, 2, 5, 2, 1, 2, 2, 2], [6, 2, 1, 3, 2, 4, 2, 4, 2, 5, 2, 1, 2, 2, 2], [2, 3, 2, 4, 2, 4, 2, 5, 2, 1, 2, 2, 2], [6, 2, 1, 2, 2, 2], [2, 2, 2, 2]] ⟨[(31, .sl 25), (32, .int .i64), (33, .int .i64)], []⟩ (credenzaref07_expr_l1 g_) .nil .nil)
theorem credenzaref07_expr_b_ok (g_ : Rec_credenzaref07_stmts) (hg_ : Rec_credenzaref07_stmts_ok g_) : COk hY Tryz.prog Glob 53 (credenzaref07_expr_d g_) :=
  fn_ok (body := (Tryz.f53.body).getD .skip) (T := [(17, (credenzaref07_own_c)), (56, (credenzaref07_exprs_c g_)), (18, (credenzaref07_stmts_c g_)), (87, (credenzaref07_IsTarget_c)), (53, (credenzaref07_expr_c g_))]) (credenzaref07_expr_k g_) Tryz.func53 (by kernel_rfl) ⟨⟨_, Tryz.func53, by kernel_rfl, rfl⟩⟩ hsz ((.cons credenzaref07_own_ok (.cons hg_.credenzaref07_exprs (.cons hg_.credenzaref07_stmts (.cons credenzaref07_IsTarget_ok (.cons hg_.credenzaref07_expr .nil))))) : TabOk hY Tryz.prog Glob [(17, (credenzaref07_own_c)), (56, (credenzaref07_exprs_c g_)), (18, (credenzaref07_stmts_c g_)), (87, (credenzaref07_IsTarget_c)), (53, (credenzaref07_expr_c g_))]) (fun _ _ hle h => h.mono hle) (by kernel_rfl)
    ⟨fun z => by kernel_rfl, trivial, trivial⟩
    (fun z => by kernel_rfl)
def credenzaref07_block_b (g_ : Rec_credenzaref07_stmts) (n : T_api_Node) : Option (Bool × Unit) :=
  if (n.Kind == 25) = true then
   Option.bind (credenzaref07_own (re25 n)) fun r_1 =>
   if r_1.1 = true then
    Option.bind (g_.credenzaref07_stmts n.L false) fun r_2 =>
    some (r_2.1, ())
   else
    some (false, ())
  else
   some (false, ())
def credenzaref07_block_d (g_ : Rec_credenzaref07_stmts) : Dn.Callee Y := callee Y [] credenzaref07_block_s credenzaref07_block_o (fun z => credenzaref07_block_b g_ z.1)
def credenzaref07_block_k (g_ : Rec_credenzaref07_stmts) : Cuts Y (ParO Y credenzaref07_block_o) := .nil
theorem credenzaref07_block_b_ok (g_ : Rec_credenzaref07_stmts) (hg_ : Rec_credenzaref07_stmts_ok g_) : COk hY Tryz.prog Glob 54 (credenzaref07_block_d g_) :=
  fn_ok (body := (Tryz.f54.body).getD .skip) (T := [(17, (credenzaref07_own_c)), (18, (credenzaref07_stmts_c g_))]) (credenzaref07_block_k g_) Tryz.func54 (by kernel_rfl) ⟨⟨_, Tryz.func54, by kernel_rfl, rfl⟩⟩ hsz ((.cons credenzaref07_own_ok (.cons hg_.credenzaref07_stmts .nil)) : TabOk hY Tryz.prog Glob [(17, (credenzaref07_own_c)), (18, (credenzaref07_stmts_c g_))]) (fun _ _ hle h => h.mono hle) (by kernel_rfl)
    trivial
    (fun z => by kernel_rfl)
def credenzaref07_loop_b (g_ : Rec_credenzaref07_stmts) (t : T_api_Node) : Option (Bool × Unit) :=
  if (t.Kind == 27) = true then
   let b_1 := (((t.L.length : Nat) : Int) == 2)
   if b_1 = true then
    Option.bind (getI t.L 0) fun x_2 =>
    Option.bind (g_.credenzaref07_expr (re25 x_2)) fun r_3 =>
    if r_3.1 = true then
     Option.bind (getI t.L 1) fun x_4 =>
     Option.bind (g_.credenzaref07_block (re25 x_4)) fun r_5 =>
     some (r_5.1, ())
    else
     some (false, ())
   else
    some (false, ())
  else
   if (t.Kind == 28) = true then
    let b_6 := (((t.L.length : Nat) : Int) == 2)
    if b_6 = true then
     Option.bind (getI t.L 0) fun x_7 =>
     Option.bind (g_.credenzaref07_block (re25 x_7)) fun r_8 =>
     if r_8.1 = true then
      Option.bind (getI t.L 1) fun x_9 =>
      Option.bind (g_.credenzaref07_expr (re25 x_9)) fun r_10 =>
      some (r_10.1, ())
     else
      some (false, ())
    else
     some (false, ())
   else
    if (t.Kind == 29) = true then
     let b_11 := (((t.L.length : Nat) : Int) == 4)
     if b_11 = true then
      Option.bind (getI t.L 0) fun x_12 =>
      Option.bind (g_.credenzaref07_decls (re25 x_12)) fun r_13 =>
      if r_13.1 = true then
       Option.bind (getI t.L 1) fun x_14 =>
       Option.bind (g_.credenzaref07_expr (re25 x_14)) fun r_15 =>
       if r_15.1 = true then
        Option.bind (getI t.L 2) fun x_16 =>
        Option.bind (g_.credenzaref07_expr (re25 x_16)) fun r_17 =>
        if r_17.1 = true then
         Option.bind (getI t.L 3) fun x_18 =>
         Option.bind (g_.credenzaref07_block (re25 x_18)) fun r_19 =>
         some (r_19.1, ())
        else
         Option.bind (getI t.L 2) fun x_20 =>
         Option.bind (credenzaref07_empty (re25 x_20)) fun r_21 =>
         if r_21.1 = true then
          Option.bind (getI t.L 3) fun x_22 =>
          Option.bind (g_.credenzaref07_block (re25 x_22)) fun r_23 =>
          some (r_23.1, ())
         else
          some (false, ())
       else
        Option.bind (getI t.L 1) fun x_24 =>
        Option.bind (credenzaref07_empty (re25 x_24)) fun r_25 =>
        if r_25.1 = true then
         Option.bind (getI t.L 2) fun x_26 =>
         Option.bind (g_.credenzaref07_expr (re25 x_26)) fun r_27 =>
         if r_27.1 = true then
          Option.bind (getI t.L 3) fun x_28 =>
          Option.bind (g_.credenzaref07_block (re25 x_28)) fun r_29 =>
          some (r_29.1, ())
         else
          Option.bind (getI t.L 2) fun x_30 =>
          Option.bind (credenzaref07_empty (re25 x_30)) fun r_31 =>
          if r_31.1 = true then
           Option.bind (getI t.L 3) fun x_32 =>
           Option.bind (g_.credenzaref07_block (re25 x_32)) fun r_33 =>
           some (r_33.1, ())
          else
           some (false, ())
        else
         some (false, ())
      else
       Option.bind (getI t.L 0) fun x_34 =>
       Option.bind (g_.credenzaref07_expr (re25 x_34)) fun r_35 =>
       if r_35.1 = true then
        Option.bind (getI t.L 1) fun x_36 =>
        Option.bind (g_.credenzaref07_expr (re25 x_36)) fun r_37 =>
        if r_37.1 = true then
         Option.bind (getI t.L 2) fun x_38 =>
         Option.bind (g_.credenzaref07_expr (re25 x_38)) fun r_39 =>
         if r_39.1 = true then
          Option.bind (getI t.L 3) fun x_40 =>
          Option.bind (g_.credenzaref07_block (re25 x_40)) fun r_41 =>
          some (r_41.1, ())
         else
          Option.bind (getI t.L 2) fun x_42 =>
          Option.bind (credenzaref07_empty (re25 x_42)) fun r_43 =>
          if r_43.1 = true then
           Option.bind (getI t.L 3) fun x_44 =>
           Option.bind (g_.credenzaref07_block (re25 x_44)) fun r_45 =>
           some (r_45.1, ())
          else
           some (false, ())
        else
         Option.bind (getI t.L 1) fun x_46 =>
         Option.bind (credenzaref07_empty (re25 x_46)) fun r_47 =>
         if r_47.1 = true then
          Option.bind (getI t.L 2) fun x_48 =>
          Option.bind (g_.credenzaref07_expr (re25 x_48)) fun r_49 =>
          if r_49.1 = true then
           Option.bind (getI t.L 3) fun x_50 =>
           Option.bind (g_.credenzaref07_block (re25 x_50)) fun r_51 =>
           some (r_51.1, ())
          else
           Option.bind (getI t.L 2) fun x_52 =>
           Option.bind (credenzaref07_empty (re25 x_52)) fun r_53 =>
           if r_53.1 = true then
            Option.bind (getI t.L 3) fun x_54 =>
            Option.bind (g_.credenzaref07_block (re25 x_54)) fun r_55 =>
            some (r_55.1, ())
           else
            some (false, ())
         else
          some (false, ())
       else
        Option.bind (getI t.L 0) fun x_56 =>
        Option.bind (credenzaref07_empty (re25 x_56)) fun r_57 =>
        if r_57.1 = true then
         Option.bind (getI t.L 1) fun x_58 =>
         Option.bind (g_.credenzaref07_expr (re25 x_58)) fun r_59 =>
         if r_59.1 = true then
          Option.bind (getI t.L 2) fun x_60 =>
          Option.bind (g_.credenzaref07_expr (re25 x_60)) fun r_61 =>
          if r_61.1 = true then
           Option.bind (getI t.L 3) fun x_62 =>
           Option.bind (g_.credenzaref07_block (re25 x_62)) fun r_63 =>
           some (r_63.1, ())
          else
           Option.bind (getI t.L 2) fun x_64 =>
           Option.bind (credenzaref07_empty (re25 x_64)) fun r_65 =>
           if r_65.1 = true then
            Option.bind (getI t.L 3) fun x_66 =>
            Option.bind (g_.credenzaref07_block (re25 x_66)) fun r_67 =>
            some (r_67.1, ())
           else
            some (false, ())
         else
          Option.bind (getI t.L 1) fun x_68 =>
          Option.bind (credenzaref07_empty (re25 x_68)) fun r_69 =>
          if r_69.1 = true then
           Option.bind (getI t.L 2) fun x_70 =>
           Option.bind (g_.credenzaref07_expr (re25 x_70)) fun r_71 =>
           if r_71.1 = true then
            Option.bind (getI t.L 3) fun x_72 =>
            Option.bind (g_.credenzaref07_block (re25 x_72)) fun r_73 =>
            some (r_73.1, ())
           else
            Option.bind (getI t.L 2) fun x_74 =>
            Option.bind (credenzaref07_empty (re25 x_74)) fun r_75 =>
            if r_75.1 = true then
             Option.bind (getI t.L 3) fun x_76 =>
             Option.bind (g_.credenzaref07_block (re25 x_76)) fun r_77 =>
             some (r_77.1, ())
            else
             some (false, ())
          else
           some (false, ())
        else
         some (false, ())
     else
      some (false, ())
    else
     let b_78 := (((t.L.length : Nat) : Int) != 3)
     if b_78 = true then
      some (false, ())
     else
      Option.bind (getI t.L 1) fun x_79 =>
      Option.bind (g_.credenzaref07_expr (re25 x_79)) fun r_80 =>
      if (!r_80.1) = true then
       some (false, ())
      else
       Option.bind (getI t.L 2) fun x_81 =>
       Option.bind (g_.credenzaref07_block (re25 x_81)) fun r_82 =>
       if (!r_82.1) = true then
        some (false, ())
       else
        Option.bind (getI t.L 0) fun x_83 =>
        if (x_83.Kind == 22) = true then
         Option.bind (getI t.L 0) fun x_84 =>
         Option.bind (g_.credenzaref07_decls (re25 x_84)) fun r_85 =>
         Option.bind (
           if r_85.1 = true then
            Option.bind (getI t.L 0) fun x_86 =>
            let n_87 := ((x_86.L.length : Nat) : Int)
            some (n_87 == 1)
           else
            some false) fun b_88 =>
         Option.bind (
           if b_88 = true then
            Option.bind (getI t.L 0) fun x_89 =>
            Option.bind (getI x_89.L 0) fun x_90 =>
            let n_91 := ((x_90.L.length : Nat) : Int)
            some (n_91 == 0)
           else
            some false) fun b_92 =>
         some (b_92, ())
        else
         Option.bind (getI t.L 0) fun x_93 =>
         Option.bind (credenzaref07_IsTarget (re25 x_93)) fun r_94 =>
         if r_94.1 = true then
          Option.bind (getI t.L 0) fun x_95 =>
          Option.bind (g_.credenzaref07_expr (re25 x_95)) fun r_96 =>
          some (r_96.1, ())
         else
          some (false, ())
def credenzaref07_loop_d (g_ : Rec_credenzaref07_stmts) : Dn.Callee Y := callee Y [] credenzaref07_loop_s credenzaref07_loop_o (fun z => credenzaref07_loop_b g_ z.1)
def credenzaref07_loop_k (g_ : Rec_credenzaref07_stmts) : Cuts Y (ParO Y credenzaref07_loop_o) := .nil
theorem credenzaref07_loop_b_ok (g_ : Rec_credenzaref07_stmts) (hg_ : Rec_credenzaref07_stmts_ok g_) : COk hY Tryz.prog Glob 55 (credenzaref07_loop_d g_) :=
  fn_ok (body := (Tryz.f55.body).getD .skip) (T := [(53, (credenzaref07_expr_c g_)), (54, (credenzaref07_block_c g_)), (52, (credenzaref07_decls_c g_)), (57, (credenzaref07_empty_c)), (87, (credenzaref07_IsTarget_c))]) (credenzaref07_loop_k g_) Tryz.func55 (by kernel_rfl) ⟨⟨_, Tryz.func55, by kernel_rfl, rfl⟩⟩ hsz ((.cons hg_.credenzaref07_expr (.cons hg_.credenzaref07_block (.cons hg_.credenzaref07_decls (.cons credenzaref07_empty_ok (.cons credenzaref07_IsTarget_ok .nil))))) : TabOk hY Tryz.prog Glob [(53, (credenzaref07_expr_c g_)), (54, (credenzaref07_block_c g_)), (52, (credenzaref07_decls_c g_)), (57, (credenzaref07_empty_c)), (87, (credenzaref07_IsTarget_c))]) (fun _ _ hle h => h.mono hle) (by kernel_rfl)
    trivial
    (fun z => by kernel_rfl)
def credenzaref07_cases_j2 (g_ : Rec_credenzaref07_stmts) (defaults_16 : Int) (v_17 : List T_api_Node) (v_18 : Int) (v_19 : Int) (x_20 : T_api_Node) : Option ((Int × (List T_api_Node) × Int × Int × Unit) ⊕ (Bool × Unit)) :=
  Option.bind (getI x_20.L 0) fun x_21 =>
  Option.bind (credenzaref07_empty (re25 x_21)) fun r_22 =>
  if r_22.1 = true then
   let n_23 := (IntKind.wrap .i64 (defaults_16 + 1))
   let n_24 := (IntKind.wrap .i64 (v_19 + 1))
   some (Sum.inl (n_23, v_17, v_18, n_24, ()))
  else
   let n_25 := (IntKind.wrap .i64 (v_19 + 1))
   some (Sum.inl (defaults_16, v_17, v_18, n_25, ()))
def credenzaref07_cases_l1 (g_ : Rec_credenzaref07_stmts) : Int × (List T_api_Node) × Int × Int × Unit → Option ((Int × (List T_api_Node) × Int × Int × Unit) ⊕ (Bool × Unit))
  | (defaults_1, v_2, v_3, v_4, ()) =>
    if (decide (v_4 < v_3)) = true then
     Option.bind (getI v_2 v_4) fun x_5 =>
     if (x_5.Kind != 37) = true then
      some (Sum.inr (false, ()))
     else
      Option.bind (credenzaref07_own (re25 x_5)) fun r_6 =>
      let b_7 := ((!r_6.1) || (((x_5.L.length : Nat) : Int) == 0))
      if b_7 = true then
       some (Sum.inr (false, ()))
      else
       Option.bind (getI x_5.L 0) fun x_8 =>
       Option.bind (credenzaref07_empty (re25 x_8)) fun r_9 =>
       if (!r_9.1) = true then
        Option.bind (getI x_5.L 0) fun x_10 =>
        Option.bind (g_.credenzaref07_expr (re25 x_10)) fun r_11 =>
        if (!r_11.1) = true then
         some (Sum.inr (false, ()))
        else
         Option.bind (cutL x_5.L 1 ((x_5.L.length : Nat) : Int)) fun s_12 =>
         Option.bind (g_.credenzaref07_stmts s_12 false) fun r_13 =>
         if (!r_13.1) = true then
          some (Sum.inr (false, ()))
         else
          credenzaref07_cases_j2 g_ defaults_1 v_2 v_3 v_4 (re25 x_5)
       else
        Option.bind (cutL x_5.L 1 ((x_5.L.length : Nat) : Int)) fun s_14 =>
        Option.bind (g_.credenzaref07_stmts s_14 false) fun r_15 =>
        if (!r_15.1) = true then
         some (Sum.inr (false, ()))
        else
         credenzaref07_cases_j2 g_ defaults_1 v_2 v_3 v_4 (re25 x_5)
    else
     some (Sum.inr ((decide (defaults_1 ≤ 1)), ()))
def credenzaref07_cases_b (g_ : Rec_credenzaref07_stmts) (l : List T_api_Node) : Option (Bool × Unit) :=
  Lp.loop (credenzaref07_cases_l1 g_) (0, l, ((l.length : Nat) : Int), 0, ())
def credenzaref07_cases_d (g_ : Rec_credenzaref07_stmts) : Dn.Callee Y := callee Y [] credenzaref07_cases_s credenzaref07_cases_o (fun z => credenzaref07_cases_b g_ z.1)
def credenzaref07_cases_k (g_ : Rec_credenzaref07_stmts) : Cuts Y (ParO Y credenzaref07_cases_o) := (.loop [[7, 5, 2, 1, 2, 2], [8, 5, 2, 1, 2, 2], [6, 2, 1, 2, 2], [2, 2, 2]] ⟨[(3, .int .i64), (6, .sl 25), (7, .int .i64), (8, .int .i64)], []⟩ (credenzaref07_cases_l1 g_) (.join [[1, 2, 2, 5, 1, 2, 2, 7, 5, 2, 1, 2, 2], [2, 2, 2, 5, 1, 2, 2, 7, 5, 2, 1, 2, 2], [6, 1, 2, 2, 7, 5, 2, 1, 2, 2], [2, 2, 2, 7, 5, 2, 1, 2, 2], [8, 5, 2, 1, 2, 2], [6, 2, 1, 2, 2], [2, 2, 2]] ⟨[(3, .int .i64), (5, .ptr 0 0), (6, .sl 25), (7, .int .i64), (8, .int .i64)], [.whole 25 25]⟩ (fun z => credenzaref07_cases_j2 g_ z.1 z.2.1 z.2.2.1 z.2.2.2.1 z.2.2.2.2.1) .nil) .nil)
theorem credenzaref07_cases_b_ok (g_ : Rec_credenzaref07_stmts) (hg_ : Rec_credenzaref07_stmts_ok g_) : COk hY Tryz.prog Glob 58 (credenzaref07_cases_d g_) :=
  fn_ok (body := (Tryz.f58.body).getD .skip) (T := [(17, (credenzaref07_own_c)), (57, (credenzaref07_empty_c)), (53, (credenzaref07_expr_c g_)), (18, (credenzaref07_stmts_c g_))]) (credenzaref07_cases_k g_) Tryz.func58 (by kernel_rfl) ⟨⟨_, Tryz.func58, by kernel_rfl, rfl⟩⟩ hsz ((.cons credenzaref07_own_ok (.cons credenzaref07_empty_ok (.cons hg_.credenzaref07_expr (.cons hg_.credenzaref07_stmts .nil)))) : TabOk hY Tryz.prog Glob [(17, (credenzaref07_own_c)), (57, (credenzaref07_empty_c)), (53, (credenzaref07_expr_c g_)), (18, (credenzaref07_stmts_c g_))]) (fun _ _ hle h => h.mono hle) (by kernel_rfl)
    ⟨fun z => by kernel_rfl, ⟨fun z => by kernel_rfl, trivial⟩, trivial⟩
    (fun z => by kernel_rfl)
def Rec_credenzaref07_stmts_g : Nat → Rec_credenzaref07_stmts
  | 0 => ⟨fun _ _ => none, fun _ => none, fun _ => none, fun _ => none, fun _ => none, fun _ => none, fun _ => none, fun _ => none⟩
  | n + 1 => ⟨credenzaref07_stmts_b (Rec_credenzaref07_stmts_g n), credenzaref07_stmt_b (Rec_credenzaref07_stmts_g n), credenzaref07_decls_b (Rec_credenzaref07_stmts_g n), credenzaref07_exprs_b (Rec_credenzaref07_stmts_g n), credenzaref07_expr_b (Rec_credenzaref07_stmts_g n), credenzaref07_block_b (Rec_credenzaref07_stmts_g n), credenzaref07_loop_b (Rec_credenzaref07_stmts_g n), credenzaref07_cases_b (Rec_credenzaref07_stmts_g n)⟩
theorem Rec_credenzaref07_stmts_all : ∀ n, Rec_credenzaref07_stmts_ok (Rec_credenzaref07_stmts_g n)
  | 0 => ⟨COk.none ⟨⟨_, Tryz.func18, by kernel_rfl, rfl⟩⟩, COk.none ⟨⟨_, Tryz.func36, by kernel_rfl, rfl⟩⟩, COk.none ⟨⟨_, Tryz.func52, by kernel_rfl, rfl⟩⟩, COk.none ⟨⟨_, Tryz.func56, by kernel_rfl, rfl⟩⟩, COk.none ⟨⟨_, Tryz.func53, by kernel_rfl, rfl⟩⟩, COk.none ⟨⟨_, Tryz.func54, by kernel_rfl, rfl⟩⟩, COk.none ⟨⟨_, Tryz.func55, by kernel_rfl, rfl⟩⟩, COk.none ⟨⟨_, Tryz.func58, by kernel_rfl, rfl⟩⟩⟩
  | n + 1 => ⟨credenzaref07_stmts_b_ok _ (Rec_credenzaref07_stmts_all n), credenzaref07_stmt_b_ok _ (Rec_credenzaref07_stmts_all n), credenzaref07_decls_b_ok _ (Rec_credenzaref07_stmts_all n), credenzaref07_exprs_b_ok _ (Rec_credenzaref07_stmts_all n), credenzaref07_expr_b_ok _ (Rec_credenzaref07_stmts_all n), credenzaref07_block_b_ok _ (Rec_credenzaref07_stmts_all n), credenzaref07_loop_b_ok _ (Rec_credenzaref07_stmts_all n), credenzaref07_cases_b_ok _ (Rec_credenzaref07_stmts_all n)⟩
def credenzaref07_stmts : (List T_api_Node) → Bool → Option (Bool × Unit) := (Rec_credenzaref07_stmts_g Lp.big).credenzaref07_stmts
theorem credenzaref07_stmts_ok : COk hY Tryz.prog Glob 18 (credenzaref07_stmts_c (Rec_credenzaref07_stmts_g Lp.big)) := (Rec_credenzaref07_stmts_all Lp.big).credenzaref07_stmts
def credenzaref07_stmt : T_api_Node → Option (Bool × Unit) := (Rec_credenzaref07_stmts_g Lp.big).credenzaref07_stmt
theorem credenzaref07_stmt_ok : COk hY Tryz.prog Glob 36 (credenzaref07_stmt_c (Rec_credenzaref07_stmts_g Lp.big)) := (Rec_credenzaref07_stmts_all Lp.big).credenzaref07_stmt
def credenzaref07_decls : T_api_Node → Option (Bool × Unit) := (Rec_credenzaref07_stmts_g Lp.big).credenzaref07_decls
theorem credenzaref07_decls_ok : COk hY Tryz.prog Glob 52 (credenzaref07_decls_c (Rec_credenzaref07_stmts_g Lp.big)) := (Rec_credenzaref07_stmts_all Lp.big).credenzaref07_decls
def credenzaref07_exprs : (List T_api_Node) → Option (Bool × Unit) := (Rec_credenzaref07_stmts_g Lp.big).credenzaref07_exprs
theorem credenzaref07_exprs_ok : COk hY Tryz.prog Glob 56 (credenzaref07_exprs_c (Rec_credenzaref07_stmts_g Lp.big)) := (Rec_credenzaref07_stmts_all Lp.big).credenzaref07_exprs
def credenzaref07_expr : T_api_Node → Option (Bool × Unit) := (Rec_credenzaref07_stmts_g Lp.big).credenzaref07_expr
theorem credenzaref07_expr_ok : COk hY Tryz.prog Glob 53 (credenzaref07_expr_c (Rec_credenzaref07_stmts_g Lp.big)) := (Rec_credenzaref07_stmts_all Lp.big).credenzaref07_expr
def credenzaref07_block : T_api_Node → Option (Bool × Unit) := (Rec_credenzaref07_stmts_g Lp.big).credenzaref07_block
theorem credenzaref07_block_ok : COk hY Tryz.prog Glob 54 (credenzaref07_block_c (Rec_credenzaref07_stmts_g Lp.big)) := (Rec_credenzaref07_stmts_all Lp.big).credenzaref07_block
def credenzaref07_loop : T_api_Node → Option (Bool × Unit) := (Rec_credenzaref07_stmts_g Lp.big).credenzaref07_loop
theorem credenzaref07_loop_ok : COk hY Tryz.prog Glob 55 (credenzaref07_loop_c (Rec_credenzaref07_stmts_g Lp.big)) := (Rec_credenzaref07_stmts_all Lp.big).credenzaref07_loop
end
end Go.D07
