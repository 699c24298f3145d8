/- Texts for the statements of this seat. -/
import Derived.Test.YtilkjloabkgpaaaGreatDoorA07zx0
import Derived.Test.YtilkjloabkgpaaaGreatDoorT07z
import Derived.Test.YtilkjloabkgpaaaGreatDoorShelf07z
import Derived.Test.YtilkjloabkgpaaaGreatDoorFmt07z
import Derived.Test.YtilkjloabkgpaaaGreatDoorIns07z
import Derived.Lib.AppendIntMem
set_option linter.unusedVariables false
set_option linter.unusedSimpArgs false
set_option linter.unnecessarySimpa false
namespace Go.D07
open Go Go.Gw Go.Dn Go.RowKit Go.Proofs
set_option maxRecDepth 100000
set_option linter.unusedVariables false
variable [Lp]
noncomputable section
set_option linter.unusedSectionVars false
def credenzaref07_cases : (List T_api_Node) → Option (Bool × Unit) := (Rec_credenzaref07_stmts_g Lp.big).credenzaref07_cases
theorem credenzaref07_cases_ok : COk hY Tryz.prog Glob 58 (credenzaref07_cases_c (Rec_credenzaref07_stmts_g Lp.big)) := (Rec_credenzaref07_stmts_all Lp.big).credenzaref07_cases
structure Rec_credenzaref07_Deep where
  credenzaref07_Deep : T_api_Node → Option (Int × Unit)
def credenzaref07_Deep_s : Shape := ⟨[(0, .st 25)], []⟩
def credenzaref07_Deep_o : List OutP := [⟨false, .int .i64, []⟩]
def credenzaref07_Deep_c (g_ : Rec_credenzaref07_Deep) : Dn.Callee Y := callee Y [] credenzaref07_Deep_s credenzaref07_Deep_o (fun z => g_.credenzaref07_Deep z.1)
structure Rec_credenzaref07_Deep_ok (g_ : Rec_credenzaref07_Deep) : Prop where
  credenzaref07_Deep : COk hY Tryz.prog Glob 19 (credenzaref07_Deep_c g_)
def credenzaref07_Deep_l1 (g_ : Rec_credenzaref07_Deep) : Int × (List T_api_Node) × Int × Int × Unit → Option ((Int × (List T_api_Node) × Int × Int × Unit) ⊕ (Int × Unit))
  | (most_1, v_2, v_3, v_4, ()) =>
    if (decide (v_4 < v_3)) = true then
     Option.bind (getI v_2 v_4) fun x_5 =>
     Option.bind (g_.credenzaref07_Deep (re25 x_5)) fun r_6 =>
     let n_7 := (if r_6.1 > most_1 then r_6.1 else most_1)
     let n_8 := (IntKind.wrap .i64 (v_4 + 1))
     some (Sum.inl (n_7, v_2, v_3, n_8, ()))
    else
     let n_9 := (IntKind.wrap .i64 (most_1 + 1))
     some (Sum.inr (n_9, ()))
def credenzaref07_Deep_b (g_ : Rec_credenzaref07_Deep) (n : T_api_Node) : Option (Int × Unit) :=
  Lp.loop (credenzaref07_Deep_l1 g_) (0, n.L, ((n.L.length : Nat) : Int), 0, ())
def credenzaref07_Deep_d (g_ : Rec_credenzaref07_Deep) : Dn.Callee Y := callee Y [] credenzaref07_Deep_s credenzaref07_Deep_o (fun z => credenzaref07_Deep_b g_ z.1)
def credenzaref07_Deep_k (g_ : Rec_credenzaref07_Deep) : Cuts Y (ParO Y credenzaref07_Deep_o) := (.loop [[7, 5, 2, 1, 2, 2], [8, 5, 2, 1, 2, 2], [6, 2, 1, 2, 2], [2, 2, 2]] ⟨[(3, .int .i64), (7, .sl 25), (8, .int .i64), (9, .int .i64)], []⟩ (credenzaref07_Deep_l1 g_) .nil .nil)
theorem credenzaref07_Deep_b_ok (g_ : Rec_credenzaref07_Deep) (hg_ : Rec_credenzaref07_Deep_ok g_) : COk hY Tryz.prog Glob 19 (credenzaref07_Deep_d g_) :=
  fn_ok (body := (Tryz.f19.body).getD .skip) (T := [(19, (credenzaref07_Deep_c g_))]) (credenzaref07_Deep_k g_) Tryz.func19 (by kernel_rfl) ⟨⟨_, Tryz.func19, by kernel_rfl, rfl⟩⟩ hsz ((.cons hg_.credenzaref07_Deep .nil) : TabOk hY Tryz.prog Glob [(19, (credenzaref07_Deep_c g_))]) (fun _ _ hle h => h.mono hle) (by kernel_rfl)
    ⟨fun z => by kernel_rfl, trivial, trivial⟩
    (fun z => by kernel_rfl)
def Rec_credenzaref07_Deep_g : Nat → Rec_credenzaref07_Deep
  | 0 => ⟨fun _ => none⟩
  | n + 1 => ⟨credenzaref07_Deep_b (Rec_credenzaref07_Deep_g n)⟩
theorem Rec_credenzaref07_Deep_all : ∀ n, Rec_credenzaref07_Deep_ok (Rec_credenzaref07_Deep_g n)
  | 0 => ⟨COk.none ⟨⟨_, Tryz.func19, by kernel_rfl, rfl⟩⟩⟩
  | n + 1 => ⟨credenzaref07_Deep_b_ok _ (Rec_credenzaref07_Deep_all n)⟩
def credenzaref07_Deep : T_api_Node → Option (Int × Unit) := (Rec_credenzaref07_Deep_g Lp.big).credenzaref07_Deep
theorem credenzaref07_Deep_ok : COk hY Tryz.prog Glob 19 (credenzaref07_Deep_c (Rec_credenzaref07_Deep_g Lp.big)) := (Rec_credenzaref07_Deep_all Lp.big).credenzaref07_Deep
def credenzaref07_Check (n : T_api_Node) : Option (Int × Unit) :=
  if (n.Kind != 41) = true then
   some (70, ())
  else
   Option.bind (credenzaref07_own (re25 n)) fun r_1 =>
   if (!r_1.1) = true then
    some (70, ())
   else
    Option.bind (credenzaref07_stmts n.L true) fun r_2 =>
    if (!r_2.1) = true then
     some (70, ())
    else
     Option.bind (credenzaref07_Deep (re25 n)) fun r_3 =>
     if (decide (r_3.1 > 64)) = true then
      some (31, ())
     else
      some (0, ())
def credenzaref07_Check_s : Shape := ⟨[(0, .st 25)], []⟩
def credenzaref07_Check_o : List OutP := [⟨false, .int .i64, []⟩]
def credenzaref07_Check_c : Dn.Callee Y := callee Y [] credenzaref07_Check_s credenzaref07_Check_o (fun z => credenzaref07_Check z.1)
def credenzaref07_Check_k : Cuts Y (ParO Y credenzaref07_Check_o) := .nil
theorem credenzaref07_Check_ok : COk hY Tryz.prog Glob 7 (credenzaref07_Check_c) :=
  fn_ok (body := (Tryz.f7.body).getD .skip) (T := [(17, (credenzaref07_own_c)), (18, (credenzaref07_stmts_c (Rec_credenzaref07_stmts_g Lp.big))), (19, (credenzaref07_Deep_c (Rec_credenzaref07_Deep_g Lp.big)))]) (credenzaref07_Check_k) Tryz.func7 (by kernel_rfl) ⟨⟨_, Tryz.func7, by kernel_rfl, rfl⟩⟩ hsz ((.cons credenzaref07_own_ok (.cons credenzaref07_stmts_ok (.cons credenzaref07_Deep_ok .nil))) : TabOk hY Tryz.prog Glob [(17, (credenzaref07_own_c)), (18, (credenzaref07_stmts_c (Rec_credenzaref07_stmts_g Lp.big))), (19, (credenzaref07_Deep_c (Rec_credenzaref07_Deep_g Lp.big)))]) (fun _ _ hle h => h.mono hle) (by kernel_rfl)
    trivial
    (fun z => by kernel_rfl)
def credenzaref07_one (s : Str) : Option ((List Str) × Unit) :=
  some (([s] : List Str), ())
def credenzaref07_one_s : Shape := ⟨[(0, .str)], []⟩
def credenzaref07_one_o : List OutP := [⟨false, .own 0, [.arr 9]⟩]
def credenzaref07_one_c : Dn.Callee Y := callee Y [] credenzaref07_one_s credenzaref07_one_o (fun z => credenzaref07_one z.1)
def credenzaref07_one_k : Cuts Y (ParO Y credenzaref07_one_o) := .nil
theorem credenzaref07_one_ok : COk hY Tryz.prog Glob 70 (credenzaref07_one_c) :=
  fn_ok (body := (Tryz.f70.body).getD .skip) (T := []) (credenzaref07_one_k) Tryz.func70 (by kernel_rfl) ⟨⟨_, Tryz.func70, by kernel_rfl, rfl⟩⟩ hsz .nil (fun _ _ hle h => h.mono hle) (by kernel_rfl)
    trivial
    (fun z => by kernel_rfl)
structure Rec_credenzaref07_Level where
  credenzaref07_Level : T_api_Node → Option (Int × Unit)
def credenzaref07_Level_s : Shape := ⟨[(0, .st 25)], []⟩
def credenzaref07_Level_o : List OutP := [⟨false, .int .i64, []⟩]
def credenzaref07_Level_c (g_ : Rec_credenzaref07_Level) : Dn.Callee Y := callee Y [] credenzaref07_Level_s credenzaref07_Level_o (fun z => g_.credenzaref07_Level z.1)
structure Rec_credenzaref07_Level_ok (g_ : Rec_credenzaref07_Level) : Prop where
  credenzaref07_Level : COk hY Tryz.prog Glob 98 (credenzaref07_Level_c g_)
def credenzaref07_Level_b (g_ : Rec_credenzaref07_Level) (n : T_api_Node) : Option (Int × Unit) :=
  if (n.Kind == 21) = true then
   some (0, ())
  else
   if (n.Kind == 20) = true then
    some (1, ())
   else
    if (n.Kind == 19) = true then
     some (2, ())
    else
     if (n.Kind == 18) = true then
      let b_1 := (n.Name == ([124, 124] : Str))
      if b_1 = true then
       some (3, ())
      else
       some (4, ())
     else
      if (n.Kind == 17) = true then
       let b_2 := (n.Name == ([61, 61] : Str))
       if b_2 = true then
        some (5, ())
       else
        let b_3 := (n.Name == ([33, 61] : Str))
        if b_3 = true then
         some (5, ())
        else
         let b_4 := (n.Name == ([61, 61, 61] : Str))
         if b_4 = true then
          some (5, ())
         else
          let b_5 := (n.Name == ([33, 61, 61] : Str))
          if b_5 = true then
           some (5, ())
          else
           if (n.Name == ([60] : Str)) = true then
            some (6, ())
           else
            if (n.Name == ([62] : Str)) = true then
             some (6, ())
            else
             let b_6 := (n.Name == ([60, 61] : Str))
             if b_6 = true then
              some (6, ())
             else
              let b_7 := (n.Name == ([62, 61] : Str))
              if b_7 = true then
               some (6, ())
              else
               let b_8 := (n.Name == ([105, 110] : Str))
               if b_8 = true then
                some (6, ())
               else
                let b_9 := (n.Name == ([105, 110, 115, 116, 97, 110, 99, 101, 111, 102] : Str))
                if b_9 = true then
                 some (6, ())
                else
                 if (n.Name == ([43] : Str)) = true then
                  some (7, ())
                 else
                  if (n.Name == ([45] : Str)) = true then
                   some (7, ())
                  else
                   some (8, ())
      else
       if (n.Kind == 15) = true then
        some (9, ())
       else
        if (n.Kind == 16) = true then
         if (n.Num == 1) = true then
          some (9, ())
         else
          some (10, ())
        else
         if (n.Kind == 13) = true then
          some (11, ())
         else
          if (n.Kind == 11) = true then
           Option.bind (getI n.L 0) fun x_10 =>
           Option.bind (g_.credenzaref07_Level (re25 x_10)) fun r_11 =>
           if (decide (r_11.1 ≥ 12)) = true then
            some (12, ())
           else
            some (11, ())
          else
           if (n.Kind == 12) = true then
            Option.bind (getI n.L 0) fun x_12 =>
            Option.bind (g_.credenzaref07_Level (re25 x_12)) fun r_13 =>
            if (decide (r_13.1 ≥ 12)) = true then
             some (12, ())
            else
             some (11, ())
           else
            if (n.Kind == 14) = true then
             some (12, ())
            else
             some (13, ())
def credenzaref07_Level_d (g_ : Rec_credenzaref07_Level) : Dn.Callee Y := callee Y [] credenzaref07_Level_s credenzaref07_Level_o (fun z => credenzaref07_Level_b g_ z.1)
def credenzaref07_Level_k (g_ : Rec_credenzaref07_Level) : Cuts Y (ParO Y credenzaref07_Level_o) := .nil
theorem credenzaref07_Level_b_ok (g_ : Rec_credenzaref07_Level) (hg_ : Rec_credenzaref07_Level_ok g_) : COk hY Tryz.prog Glob 98 (credenzaref07_Level_d g_) :=
  fn_ok (body := (Tryz.f98.body).getD .skip) (T := [(98, (credenzaref07_Level_c g_))]) (credenzaref07_Level_k g_) Tryz.func98 (by kernel_rfl) ⟨⟨_, Tryz.func98, by kernel_rfl, rfl⟩⟩ hsz ((.cons hg_.credenzaref07_Level .nil) : TabOk hY Tryz.prog Glob [(98, (credenzaref07_Level_c g_))]) (fun _ _ hle h => h.mono hle) (by kernel_rfl)
    trivial
    (fun z => by kernel_rfl)
def Rec_credenzaref07_Level_g : Nat → Rec_credenzaref07_Level
  | 0 => ⟨fun _ => none⟩
  | n + 1 => ⟨credenzaref07_Level_b (Rec_credenzaref07_Level_g n)⟩
theorem Rec_credenzaref07_Level_all : ∀ n, Rec_credenzaref07_Level_ok (Rec_credenzaref07_Level_g n)
  | 0 => ⟨COk.none ⟨⟨_, Tryz.func98, by kernel_rfl, rfl⟩⟩⟩
  | n + 1 => ⟨credenzaref07_Level_b_ok _ (Rec_credenzaref07_Level_all n)⟩
def credenzaref07_Level : T_api_Node → Option (Int × Unit) := (Rec_credenzaref07_Level_g Lp.big).credenzaref07_Level
theorem credenzaref07_Level_ok : COk hY Tryz.prog Glob 98 (credenzaref07_Level_c (Rec_credenzaref07_Level_g Lp.big)) := (Rec_credenzaref07_Level_all Lp.big).credenzaref07_Level
def credenzaref07_commas_l1 : (List (List Str)) × Int × Int × (List Str) × Unit → Option (((List (List Str)) × Int × Int × (List Str) × Unit) ⊕ ((List Str) × Unit))
  | (v_1, v_2, v_3, l_4, ()) =>
    if (decide (v_3 < v_2)) = true then
     Option.bind (getI v_1 v_3) fun x_5 =>
     if (decide (v_3 > 0)) = true then
      Option.bind (room (l_4.length + ([([44] : Str)] : List Str).length)) fun _ =>
      let l_6 := l_4 ++ ([([44] : Str)] : List Str)
      Option.bind (room (l_6.length + x_5.length)) fun _ =>
      let l_7 := l_6 ++ x_5
      let n_8 := (IntKind.wrap .i64 (v_3 + 1))
      some (Sum.inl (v_1, v_2, n_8, l_7, ()))
     else
      Option.bind (room (l_4.length + x_5.length)) fun _ =>
      let l_9 := l_4 ++ x_5
      let n_10 := (IntKind.wrap .i64 (v_3 + 1))
      some (Sum.inl (v_1, v_2, n_10, l_9, ()))
    else
     some (Sum.inr (l_4, ()))
def credenzaref07_commas (l : List (List Str)) : Option ((List Str) × Unit) :=
  Lp.loop credenzaref07_commas_l1 (l, ((l.length : Nat) : Int), 0, ([] : List Str), ())
def credenzaref07_commas_s : Shape := ⟨[(0, .sl 22)], []⟩
def credenzaref07_commas_o : List OutP := [⟨false, .sl 9, []⟩]
def credenzaref07_commas_c : Dn.Callee Y := callee Y [] credenzaref07_commas_s credenzaref07_commas_o (fun z => credenzaref07_commas z.1)
def credenzaref07_commas_k : Cuts Y (ParO Y credenzaref07_commas_o) := (.loop [[7, 5, 2, 1, 2, 2], [8, 5, 2, 1, 2, 2], [6, 2, 1, 2, 2], [2, 2, 2]] ⟨[(3, .own 0), (6, .sl 22), (7, .int .i64), (8, .int .i64)], [.arr 9]⟩ (credenzaref07_commas_l1) .nil .nil)
theorem credenzaref07_commas_ok : COk hY Tryz.prog Glob 97 (credenzaref07_commas_c) :=
  fn_ok (body := (Tryz.f97.body).getD .skip) (T := []) (credenzaref07_commas_k) Tryz.func97 (by kernel_rfl) ⟨⟨_, Tryz.func97, by kernel_rfl, rfl⟩⟩ hsz .nil (fun _ _ hle h => h.mono hle) (by kernel_rfl)
    ⟨fun z => by kernel_rfl, trivial, trivial⟩
    (fun z => by kernel_rfl)
def credenzaref07_join_l1 : (List (List Str)) × Int × Int × (List Str) × Unit → Option (((List (List Str)) × Int × Int × (List Str) × Unit) ⊕ ((List Str) × Unit))
  | (v_1, v_2, v_3, l_4, ()) =>
    if (decide (v_3 < v_2)) = true then
     Option.bind (getI v_1 v_3) fun x_5 =>
     Option.bind (room (l_4.length + x_5.length)) fun _ =>
     let l_6 := l_4 ++ x_5
     let n_7 := (IntKind.wrap .i64 (v_3 + 1))
     some (Sum.inl (v_1, v_2, n_7, l_6, ()))
    else
     some (Sum.inr (l_4, ()))
def credenzaref07_join (l : List (List Str)) : Option ((List Str) × Unit) :=
  Lp.loop credenzaref07_join_l1 (l, ((l.length : Nat) : Int), 0, ([] : List Str), ())
def credenzaref07_join_s : Shape := ⟨[(0, .sl 22)], []⟩
def credenzaref07_join_o : List OutP := [⟨false, .own 0, [.arr 9]⟩]
def credenzaref07_join_c : Dn.Callee Y := callee Y [] credenzaref07_join_s credenzaref07_join_o (fun z => credenzaref07_join z.1)
def credenzaref07_join_k : Cuts Y (ParO Y credenzaref07_join_o) := (.loop [[7, 5, 2, 1, 2, 2], [8, 5, 2, 1, 2, 2], [6, 2, 1, 2, 2], [2, 2, 2]] ⟨[(3, .own 0), (6, .sl 22), (7, .int .i64), (8, .int .i64)], [.arr 9]⟩ (credenzaref07_join_l1) .nil .nil)
theorem credenzaref07_join_ok : COk hY Tryz.prog Glob 41 (credenzaref07_join_c) :=
  fn_ok (body := (Tryz.f41.body).getD .skip) (T := []) (credenzaref07_join_k) Tryz.func41 (by kernel_rfl) ⟨⟨_, Tryz.func41, by kernel_rfl, rfl⟩⟩ hsz .nil (fun _ _ hle h => h.mono hle) (by kernel_rfl)
    ⟨fun z => by kernel_rfl, trivial, trivial⟩
    (fun z => by kernel_rfl)
def credenzaref01_List_l1 : Str × Int × (List Int) × Unit → Option ((Str × Int × (List Int) × Unit) ⊕ ((List Int) × Unit))
  | (u_1, i_2, l_3, ()) =>
    let n_4 := (IntKind.wrap .i64 (i_2 + 1))
    let b_5 := (decide (n_4 < ((u_1.length : Nat) : Int)))
    if b_5 = true then
     Option.bind (getB u_1 i_2) fun c_6 =>
     let n_7 := (IntKind.wrap .i64 ((IntKind.wrap .i64 c_6) * 256))
     let n_8 := (IntKind.wrap .i64 (i_2 + 1))
     Option.bind (getB u_1 n_8) fun c_9 =>
     let n_10 := (IntKind.wrap .i64 (n_7 + (IntKind.wrap .i64 c_9)))
     Option.bind (room (l_3.length + ([n_10] : List Int).length)) fun _ =>
     let l_11 := l_3 ++ ([n_10] : List Int)
     let n_12 := (IntKind.wrap .i64 (i_2 + 2))
     some (Sum.inl (u_1, n_12, l_11, ()))
    else
     some (Sum.inr (l_3, ()))
def credenzaref01_List (u : Str) : Option ((List Int) × Unit) :=
  Lp.loop credenzaref01_List_l1 (u, 0, ([] : List Int), ())
def credenzaref01_List_s : Shape := ⟨[(0, .str)], []⟩
def credenzaref01_List_o : List OutP := [⟨false, .sl 3, []⟩]
def credenzaref01_List_c : Dn.Callee Y := callee Y [] credenzaref01_List_s credenzaref01_List_o (fun z => credenzaref01_List z.1)
def credenzaref01_List_k : Cuts Y (ParO Y credenzaref01_List_o) := (.loop [[7, 5, 2, 1, 2, 2], [8, 5, 2, 1, 2, 2], [6, 2, 1, 2, 2], [2, 2, 2]] ⟨[(0, .str), (3, .own 0), (4, .int .i64)], [.arr 3]⟩ (credenzaref01_List_l1) .nil .nil)
theorem credenzaref01_List_ok : COk hY Tryz.prog Glob 135 (credenzaref01_List_c) :=
  fn_ok (body := (Tryz.f135.body).getD .skip) (T := []) (credenzaref01_List_k) Tryz.func135 (by kernel_rfl) ⟨⟨_, Tryz.func135, by kernel_rfl, rfl⟩⟩ hsz .nil (fun _ _ hle h => h.mono hle) (by kernel_rfl)
    ⟨fun z => by kernel_rfl, trivial, trivial⟩
    (fun z => by kernel_rfl)
def credenzaref01_hex (n : Int) : Option (Int × Unit) :=
  if (decide (n < 10)) = true then
   let n_1 := (IntKind.wrap .i64 (48 + n))
   some ((IntKind.wrap .u8 n_1), ())
  else
   let n_2 := (IntKind.wrap .i64 (97 + n))
   let n_3 := (IntKind.wrap .i64 (n_2 - 10))
   some ((IntKind.wrap .u8 n_3), ())
def credenzaref01_hex_s : Shape := ⟨[(0, .int .i64)], []⟩
def credenzaref01_hex_o : List OutP := [⟨false, .int .u8, []⟩]
def credenzaref01_hex_c : Dn.Callee Y := callee Y [] credenzaref01_hex_s credenzaref01_hex_o (fun z => credenzaref01_hex z.1)
def credenzaref01_hex_k : Cuts Y (ParO Y credenzaref01_hex_o) := .nil
theorem credenzaref01_hex_ok : COk hY Tryz.prog Glob 142 (credenzaref01_hex_c) :=
  fn_ok (body := (Tryz.f142.body).getD .skip) (T := []) (credenzaref01_hex_k) Tryz.func142 (by kernel_rfl) ⟨⟨_, Tryz.func142, by kernel_rfl, rfl⟩⟩ hsz .nil (fun _ _ hle h => h.mono hle) (by kernel_rfl)
    trivial
    (fun z => by kernel_rfl)
def credenzaref01_quoted (n : Int) : Option (Str × Unit) :=
  if (n == 34) = true then
   some (([92, 34] : Str), ())
  else
   if (n == 92) = true then
    some (([92, 92] : Str), ())
   else
    if (n == 8) = true then
     some (([92, 98] : Str), ())
    else
     if (n == 9) = true then
      some (([92, 116] : Str), ())
     else
      if (n == 10) = true then
       some (([92, 110] : Str), ())
      else
       if (n == 12) = true then
        some (([92, 102] : Str), ())
       else
        if (n == 13) = true then
         some (([92, 114] : Str), ())
        else
         let b_1 := ((decide (n < 32)) || (decide (n > 126)))
         if b_1 = true then
          let n_2 := (IntKind.wrap .i64 (Int.tdiv n 4096))
          Option.bind (credenzaref01_hex n_2) fun r_3 =>
          let n_4 := (IntKind.wrap .i64 (Int.tdiv n 256))
          Option.bind (credenzaref01_hex (Int.tmod n_4 16)) fun r_5 =>
          let n_6 := (IntKind.wrap .i64 (Int.tdiv n 16))
          Option.bind (credenzaref01_hex (Int.tmod n_6 16)) fun r_7 =>
          Option.bind (credenzaref01_hex (Int.tmod n 16)) fun r_8 =>
          Option.bind (toB 92) fun b_9 =>
          Option.bind (toB 117) fun b_10 =>
          Option.bind (toB r_3.1) fun b_11 =>
          Option.bind (toB r_5.1) fun b_12 =>
          Option.bind (toB r_7.1) fun b_13 =>
          Option.bind (toB r_8.1) fun b_14 =>
          some (([b_9, b_10, b_11, b_12, b_13, b_14] : List UInt8), ())
         else
          Option.bind (toB (IntKind.wrap .u8 n)) fun b_15 =>
          some (([b_15] : List UInt8), ())
def credenzaref01_quoted_s : Shape := ⟨[(0, .int .i64)], []⟩
def credenzaref01_quoted_o : List OutP := [⟨false, .str, []⟩]
def credenzaref01_quoted_c : Dn.Callee Y := callee Y [] credenzaref01_quoted_s credenzaref01_quoted_o (fun z => credenzaref01_quoted z.1)
def credenzaref01_quoted_k : Cuts Y (ParO Y credenzaref01_quoted_o) := .nil
theorem credenzaref01_quoted_ok : COk hY Tryz.prog Glob 136 (credenzaref01_quoted_c) :=
  fn_ok (body := (Tryz.f136.body).getD .skip) (T := [(142, (credenzaref01_hex_c))]) (credenzaref01_quoted_k) Tryz.func136 (by kernel_rfl) ⟨⟨_, Tryz.func136, by kernel_rfl, rfl⟩⟩ hsz ((.cons credenzaref01_hex_ok .nil) : TabOk hY Tryz.prog Glob [(142, (credenzaref01_hex_c))]) (fun _ _ hle h => h.mono hle) (by kernel_rfl)
    trivial
    (fun z => by kernel_rfl)
def credenzaref01_Quote_l1 : Str × (List Int) × Int × Int × Unit → Option ((Str × (List Int) × Int × Int × Unit) ⊕ (Str × Int × Unit))
  | (s_4, v_5, v_6, v_7, ()) =>
    if (decide (v_7 < v_6)) = true then
     Option.bind (getI v_5 v_7) fun x_8 =>
     Option.bind (credenzaref01_quoted x_8) fun r_9 =>
     Option.bind (catS s_4 r_9.1) fun s_10 =>
     let n_11 := (IntKind.wrap .i64 (v_7 + 1))
     some (Sum.inl (s_10, v_5, v_6, n_11, ()))
    else
     Option.bind (catS s_4 ([34] : Str)) fun s_12 =>
     some (Sum.inr (s_12, 0, ()))
def credenzaref01_Quote (u : Str) : Option (Str × Int × Unit) :=
  Option.bind (credenzaref01_Check u) fun r_1 =>
  if (!r_1.1) = true then
   some (([] : Str), 10, ())
  else
   Option.bind (credenzaref01_List u) fun r_2 =>
   let n_3 := ((r_2.1.length : Nat) : Int)
   Lp.loop credenzaref01_Quote_l1 (([34] : Str), r_2.1, n_3, 0, ())
def credenzaref01_Quote_s : Shape := ⟨[(0, .str)], []⟩
def credenzaref01_Quote_o : List OutP := [⟨false, .tup [.str, .int .i64], []⟩]
def credenzaref01_Quote_c : Dn.Callee Y := callee Y [] credenzaref01_Quote_s credenzaref01_Quote_o (fun z => credenzaref01_Quote z.1)
def credenzaref01_Quote_k : Cuts Y (ParO Y credenzaref01_Quote_o) := (.loop [[7, 5, 2, 1, 2, 2, 2], [8, 5, 2, 1, 2, 2, 2], [6, 2, 1, 2, 2, 2], [2, 2, 2, 2]] ⟨[(4, .str), (11, .sl 3), (12, .int .i64), (13, .int .i64)], []⟩ (credenzaref01_Quote_l1) .nil .nil)
theorem credenzaref01_Quote_ok : COk hY Tryz.prog Glob 129 (credenzaref01_Quote_c) :=
  fn_ok (body := (Tryz.f129.body).getD .skip) (T := [(34, (credenzaref01_Check_c)), (135, (credenzaref01_List_c)), (136, (credenzaref01_quoted_c))]) (credenzaref01_Quote_k) Tryz.func129 (by kernel_rfl) ⟨⟨_, Tryz.func129, by kernel_rfl, rfl⟩⟩ hsz ((.cons credenzaref01_Check_ok (.cons credenzaref01_List_ok (.cons credenzaref01_quoted_ok .nil))) : TabOk hY Tryz.prog Glob [(34, (credenzaref01_Check_c)), (135, (credenzaref01_List_c)), (136, (credenzaref01_quoted_c))]) (fun _ _ hle h => h.mono hle) (by kernel_rfl)
    ⟨fun z => by kernel_rfl, trivial, trivial⟩
    (fun z => by kernel_rfl)
structure Rec_credenzaref07_digits where
  credenzaref07_digits : Int → Option (Str × Unit)
def credenzaref07_digits_s : Shape := ⟨[(0, .int .i64)], []⟩
def credenzaref07_digits_o : List OutP := [⟨false, .str, []⟩]
def credenzaref07_digits_c (g_ : Rec_credenzaref07_digits) : Dn.Callee Y := callee Y [] credenzaref07_digits_s credenzaref07_digits_o (fun z => g_.credenzaref07_digits z.1)
structure Rec_credenzaref07_digits_ok (g_ : Rec_credenzaref07_digits) : Prop where
  credenzaref07_digits : COk hY Tryz.prog Glob 130 (credenzaref07_digits_c g_)
def credenzaref07_digits_b (g_ : Rec_credenzaref07_digits) (n : Int) : Option (Str × Unit) :=
  let n_1 := (IntKind.wrap .i64 (48 + (Int.tmod n 10)))
  Option.bind (toB (IntKind.wrap .u8 n_1)) fun b_2 =>
  if (decide (n < 10)) = true then
   some (([b_2] : List UInt8), ())
  else
   let n_3 := (IntKind.wrap .i64 (Int.tdiv n 10))
   Option.bind (g_.credenzaref07_digits n_3) fun r_4 =>
   Option.bind (catS r_4.1 ([b_2] : List UInt8)) fun s_5 =>
   some (s_5, ())
def credenzaref07_digits_d (g_ : Rec_credenzaref07_digits) : Dn.Callee Y := callee Y [] credenzaref07_digits_s credenzaref07_digits_o (fun z => credenzaref07_digits_b g_ z.1)
def credenzaref07_digits_k (g_ : Rec_credenzaref07_digits) : Cuts Y (ParO Y credenzaref07_digits_o) := .nil
theorem credenzaref07_digits_b_ok (g_ : Rec_credenzaref07_digits) (hg_ : Rec_credenzaref07_digits_ok g_) : COk hY Tryz.prog Glob 130 (credenzaref07_digits_d g_) :=
  fn_ok (body := (Tryz.f130.body).getD .skip) (T := [(130, (credenzaref07_digits_c g_))]) (credenzaref07_digits_k g_) Tryz.func130 (by kernel_rfl) ⟨⟨_, Tryz.func130, by kernel_rfl, rfl⟩⟩ hsz ((.cons hg_.credenzaref07_digits .nil) : TabOk hY Tryz.prog Glob [(130, (credenzaref07_digits_c g_))]) (fun _ _ hle h => h.mono hle) (by kernel_rfl)
    trivial
    (fun z => by kernel_rfl)
def Rec_credenzaref07_digits_g : Nat → Rec_credenzaref07_digits
  | 0 => ⟨fun _ => none⟩
  | n + 1 => ⟨credenzaref07_digits_b (Rec_credenzaref07_digits_g n)⟩
theorem Rec_credenzaref07_digits_all : ∀ n, Rec_credenzaref07_digits_ok (Rec_credenzaref07_digits_g n)
  | 0 => ⟨COk.none ⟨⟨_, Tryz.func130, by kernel_rfl, rfl⟩⟩⟩
  | n + 1 => ⟨credenzaref07_digits_b_ok _ (Rec_credenzaref07_digits_all n)⟩
def credenzaref07_digits : Int → Option (Str × Unit) := (Rec_credenzaref07_digits_g Lp.big).credenzaref07_digits
theorem credenzaref07_digits_ok : COk hY Tryz.prog Glob 130 (credenzaref07_digits_c (Rec_credenzaref07_digits_g Lp.big)) := (Rec_credenzaref07_digits_all Lp.big).credenzaref07_digits
def credenzaref07_leaf (n : T_api_Node) : Option ((List Str) × Unit) :=
  if (n.Kind == 1) = true then
   Option.bind (credenzaref07_digits n.Num) fun r_1 =>
   Option.bind (credenzaref07_one r_1.1) fun r_2 =>
   some (r_2.1, ())
  else
   if (n.Kind == 2) = true then
    Option.bind (credenzaref01_Quote n.Text) fun r_3 =>
    Option.bind (credenzaref07_one r_3.1) fun r_4 =>
    some (r_4.1, ())
   else
    if (n.Kind == 3) = true then
     Option.bind (credenzaref07_one n.Name) fun r_5 =>
     some (r_5.1, ())
    else
     if (n.Kind == 4) = true then
      Option.bind (credenzaref07_one ([116, 104, 105, 115] : Str)) fun r_6 =>
      some (r_6.1, ())
     else
      if (n.Kind == 5) = true then
       Option.bind (credenzaref07_one ([110, 117, 108, 108] : Str)) fun r_7 =>
       some (r_7.1, ())
      else
       if (n.Num == 0) = true then
        Option.bind (credenzaref07_one ([102, 97, 108, 115, 101] : Str)) fun r_8 =>
        some (r_8.1, ())
       else
        Option.bind (credenzaref07_one ([116, 114, 117, 101] : Str)) fun r_9 =>
        some (r_9.1, ())
def credenzaref07_leaf_s : Shape := ⟨[(0, .st 25)], []⟩
def credenzaref07_leaf_o : List OutP := [⟨false, .sl 9, []⟩]
def credenzaref07_leaf_c : Dn.Callee Y := callee Y [] credenzaref07_leaf_s credenzaref07_leaf_o (fun z => credenzaref07_leaf z.1)
def credenzaref07_leaf_k : Cuts Y (ParO Y credenzaref07_leaf_o) := .nil
theorem credenzaref07_leaf_ok : COk hY Tryz.prog Glob 117 (credenzaref07_leaf_c) :=
  fn_ok (body := (Tryz.f117.body).getD .skip) (T := [(130, (credenzaref07_digits_c (Rec_credenzaref07_digits_g Lp.big))), (70, (credenzaref07_one_c)), (129, (credenzaref01_Quote_c))]) (credenzaref07_leaf_k) Tryz.func117 (by kernel_rfl) ⟨⟨_, Tryz.func117, by kernel_rfl, rfl⟩⟩ hsz ((.cons credenzaref07_digits_ok (.cons credenzaref07_one_ok (.cons credenzaref01_Quote_ok .nil))) : TabOk hY Tryz.prog Glob [(130, (credenzaref07_digits_c (Rec_credenzaref07_digits_g Lp.big))), (70, (credenzaref07_one_c)), (129, (credenzaref01_Quote_c))]) (fun _ _ hle h => h.mono hle) (by kernel_rfl)
    trivial
    (fun z => by kernel_rfl)
structure Rec_credenzaref07_Stmts where
  credenzaref07_Stmts : (List T_api_Node) → Option ((List Str) × Unit)
  credenzaref07_Stmt : T_api_Node → Option ((List Str) × Unit)
  credenzaref07_vars : T_api_Node → Bool → Option ((List Str) × Unit)
  credenzaref07_at : T_api_Node → Int → Bool → Option ((List Str) × Unit)
  credenzaref07_raw : T_api_Node → Bool → Option ((List Str) × Unit)
  credenzaref07_list : (List T_api_Node) → Option ((List Str) × Unit)
  credenzaref07_props : T_api_Node → Option ((List Str) × Unit)
  credenzaref07_function : T_api_Node → Option ((List Str) × Unit)
  credenzaref07_braces : (List T_api_Node) → Option ((List Str) × Unit)
  credenzaref07_bare : T_api_Node → Option ((List Str) × Unit)
  credenzaref07_head : Str → T_api_Node → Option ((List Str) × Unit)
  credenzaref07_maybe : T_api_Node → Bool → Option ((List Str) × Unit)
  credenzaref07_rest : T_api_Node → Option ((List Str) × Unit)
  credenzaref07_word : Str → Str → (List T_api_Node) → Option ((List Str) × Unit)
def credenzaref07_Stmts_s : Shape := ⟨[(0, .sl 25)], []⟩
def credenzaref07_Stmts_o : List OutP := [⟨false, .sl 9, []⟩]
def credenzaref07_Stmts_c (g_ : Rec_credenzaref07_Stmts) : Dn.Callee Y := callee Y [] credenzaref07_Stmts_s credenzaref07_Stmts_o (fun z => g_.credenzaref07_Stmts z.1)
def credenzaref07_Stmt_s : Shape := ⟨[(0, .st 25)], []⟩
def credenzaref07_Stmt_o : List OutP := [⟨false, .sl 9, []⟩]
def credenzaref07_Stmt_c (g_ : Rec_credenzaref07_Stmts) : Dn.Callee Y := callee Y [] credenzaref07_Stmt_s credenzaref07_Stmt_o (fun z => g_.credenzaref07_Stmt z.1)
def credenzaref07_vars_s : Shape := ⟨[(0, .st 25), (1, .bool)], []⟩
def credenzaref07_vars_o : List OutP := [⟨false, .sl 9, []⟩]
def credenzaref07_vars_c (g_ : Rec_credenzaref07_Stmts) : Dn.Callee Y := callee Y [] credenzaref07_vars_s credenzaref07_vars_o (fun z => g_.credenzaref07_vars z.1 z.2.1)
def credenzaref07_at_s : Shape := ⟨[(0, .st 25), (1, .int .i64), (2, .bool)], []⟩
def credenzaref07_at_o : List OutP := [⟨false, .sl 9, []⟩]
def credenzaref07_at_c (g_ : Rec_credenzaref07_Stmts) : Dn.Callee Y := callee Y [] credenzaref07_at_s credenzaref07_at_o (fun z => g_.credenzaref07_at z.1 z.2.1 z.2.2.1)
def credenzaref07_raw_s : Shape := ⟨[(0, .st 25), (1, .bool)], []⟩
def credenzaref07_raw_o : List OutP := [⟨false, .sl 9, []⟩]
def credenzaref07_raw_c (g_ : Rec_credenzaref07_Stmts) : Dn.Callee Y := callee Y [] credenzaref07_raw_s credenzaref07_raw_o (fun z => g_.credenzaref07_raw z.1 z.2.1)
def credenzaref07_list_s : Shape := ⟨[(0, .sl 25)], []⟩
def credenzaref07_list_o : List OutP := [⟨false, .sl 9, []⟩]
def credenzaref07_list_c (g_ : Rec_credenzaref07_Stmts) : Dn.Callee Y := callee Y [] credenzaref07_list_s credenzaref07_list_o (fun z => g_.credenzaref07_list z.1)
def credenzaref07_props_s : Shape := ⟨[(0, .st 25)], []⟩
def credenzaref07_props_o : List OutP := [⟨false, .sl 9, []⟩]
def credenzaref07_props_c (g_ : Rec_credenzaref07_Stmts) : Dn.Callee Y := callee Y [] credenzaref07_props_s credenzaref07_props_o (fun z => g_.credenzaref07_props z.1)
def credenzaref07_function_s : Shape := ⟨[(0, .st 25)], []⟩
def credenzaref07_function_o : List OutP := [⟨false, .sl 9, []⟩]
def credenzaref07_function_c (g_ : Rec_credenzaref07_Stmts) : Dn.Callee Y := callee Y [] credenzaref07_function_s credenzaref07_function_o (fun z => g_.credenzaref07_function z.1)
def credenzaref07_braces_s : Shape := ⟨[(0, .sl 25)], []⟩
def credenzaref07_braces_o : List OutP := [⟨false, .sl 9, []⟩]
def credenzaref07_braces_c (g_ : Rec_credenzaref07_Stmts) : Dn.Callee Y := callee Y [] credenzaref07_braces_s credenzaref07_braces_o (fun z => g_.credenzaref07_braces z.1)
def credenzaref07_bare_s : Shape := ⟨[(0, .st 25)], []⟩
def credenzaref07_bare_o : List OutP := [⟨false, .sl 9, []⟩]
def credenzaref07_bare_c (g_ : Rec_credenzaref07_Stmts) : Dn.Callee Y := callee Y [] credenzaref07_bare_s credenzaref07_bare_o (fun z => g_.credenzaref07_bare z.1)
def credenzaref07_head_s : Shape := ⟨[(0, .str), (1, .st 25)], []⟩
def credenzaref07_head_o : List OutP := [⟨false, .sl 9, []⟩]
def credenzaref07_head_c (g_ : Rec_credenzaref07_Stmts) : Dn.Callee Y := callee Y [] credenzaref07_head_s credenzaref07_head_o (fun z => g_.credenzaref07_head z.1 z.2.1)
def credenzaref07_maybe_s : Shape := ⟨[(0, .st 25), (1, .bool)], []⟩
def credenzaref07_maybe_o : List OutP := [⟨false, .sl 9, []⟩]
def credenzaref07_maybe_c (g_ : Rec_credenzaref07_Stmts) : Dn.Callee Y := callee Y [] credenzaref07_maybe_s credenzaref07_maybe_o (fun z => g_.credenzaref07_maybe z.1 z.2.1)
def credenzaref07_rest_s : Shape := ⟨[(0, .st 25)], []⟩
def credenzaref07_rest_o : List OutP := [⟨false, .sl 9, []⟩]
def credenzaref07_rest_c (g_ : Rec_credenzaref07_Stmts) : Dn.Callee Y := callee Y [] credenzaref07_rest_s credenzaref07_rest_o (fun z => g_.credenzaref07_rest z.1)
def credenzaref07_word_s : Shape := ⟨[(0, .str), (1, .str), (2, .sl 25)], []⟩
def credenzaref07_word_o : List OutP := [⟨false, .sl 9, []⟩]
def credenzaref07_word_c (g_ : Rec_credenzaref07_Stmts) : Dn.Callee Y := callee Y [] credenzaref07_word_s credenzaref07_word_o (fun z => g_.credenzaref07_word z.1 z.2.1 z.2.2.1)
structure Rec_credenzaref07_Stmts_ok (g_ : Rec_credenzaref07_Stmts) : Prop where
  credenzaref07_Stmts : COk hY Tryz.prog Glob 22 (credenzaref07_Stmts_c g_)
  credenzaref07_Stmt : COk hY Tryz.prog Glob 42 (credenzaref07_Stmt_c g_)
  credenzaref07_vars : COk hY Tryz.prog Glob 69 (credenzaref07_vars_c g_)
  credenzaref07_at : COk hY Tryz.prog Glob 75 (credenzaref07_at_c g_)
  credenzaref07_raw : COk hY Tryz.prog Glob 99 (credenzaref07_raw_c g_)
  credenzaref07_list : COk hY Tryz.prog Glob 115 (credenzaref07_list_c g_)
  credenzaref07_props : COk hY Tryz.prog Glob 116 (credenzaref07_props_c g_)
  credenzaref07_function : COk hY Tryz.prog Glob 76 (credenzaref07_function_c g_)
  credenzaref07_braces : COk hY Tryz.prog Glob 72 (credenzaref07_braces_c g_)
  credenzaref07_bare : COk hY Tryz.prog Glob 71 (credenzaref07_bare_c g_)
  credenzaref07_head : COk hY Tryz.prog Glob 73 (credenzaref07_head_c g_)
  credenzaref07_maybe : COk hY Tryz.prog Glob 74 (credenzaref07_maybe_c g_)
  credenzaref07_rest : COk hY Tryz.prog Glob 77 (credenzaref07_rest_c g_)
  credenzaref07_word : COk hY Tryz.prog Glob 100 (credenzaref07_word_c g_)
def credenzaref07_Stmts_l1 (g_ : Rec_credenzaref07_Stmts) : (List Str) × (List T_api_Node) × Int × Int × Unit → Option (((List Str) × (List T_api_Node) × Int × Int × Unit) ⊕ ((List Str) × Unit))
  | (out_1, v_2, v_3, v_4, ()) =>
    if (decide (v_4 < v_3)) = true then
     Option.bind (getI v_2 v_4) fun x_5 =>
     Option.bind (g_.credenzaref07_Stmt (re25 x_5)) fun r_6 =>
     Option.bind (credenzaref07_join ([out_1, r_6.1] : List (List Str))) fun r_7 =>
     let n_8 := (IntKind.wrap .i64 (v_4 + 1))
     some (Sum.inl (r_7.1, v_2, v_3, n_8, ()))
    else
     some (Sum.inr (out_1, ()))
def credenzaref07_Stmts_b (g_ : Rec_credenzaref07_Stmts) (l : List T_api_Node) : Option ((List Str) × Unit) :=
  Lp.loop (credenzaref07_Stmts_l1 g_) (([] : List Str), l, ((l.length : Nat) : Int), 0, ())
def credenzaref07_Stmts_d (g_ : Rec_credenzaref07_Stmts) : Dn.Callee Y := callee Y [] credenzaref07_Stmts_s credenzaref07_Stmts_o (fun z => credenzaref07_Stmts_b g_ z.1)
def credenzaref07_Stmts_k (g_ : Rec_credenzaref07_Stmts) : Cuts Y (ParO Y credenzaref07_Stmts_o) := (.loop [[7, 5, 2, 1, 2, 2], [8, 5, 2, 1, 2, 2], [6, 2, 1, 2, 2], [2, 2, 2]] ⟨[(3, .sl 9), (6, .sl 25), (7, .int .i64), (8, .int .i64)], []⟩ (credenzaref07_Stmts_l1 g_) .nil .nil)
theorem credenzaref07_Stmts_b_ok (g_ : Rec_credenzaref07_Stmts) (hg_ : Rec_credenzaref07_Stmts_ok g_) : COk hY Tryz.prog Glob 22 (credenzaref07_Stmts_d g_) :=
  fn_ok (body := (Tryz.f22.body).getD .skip) (T := [(42, (credenzaref07_Stmt_c g_)), (41, (credenzaref07_join_c))]) (credenzaref07_Stmts_k g_) Tryz.func22 (by kernel_rfl) ⟨⟨_, Tryz.func22, by kernel_rfl, rfl⟩⟩ hsz ((.cons hg_.credenzaref07_Stmt (.cons credenzaref07_join_ok .nil)) : TabOk hY Tryz.prog Glob [(42, (credenzaref07_Stmt_c g_)), (41, (credenzaref07_join_c))]) (fun _ _ hle h => h.mono hle) (by kernel_rfl)
    ⟨fun z => by kernel_rfl, trivial, trivial⟩
    (fun z => by kernel_rfl)
def credenzaref07_Stmt_j1 (g_ : Rec_credenzaref07_Stmts) (r_86 : List T_api_Node) (a_87 : List Str) : Option ((List Str) × Unit) :=
  Option.bind (getI r_86 1) fun x_88 =>
  Option.bind (getI r_86 2) fun x_89 =>
  fk (
   Option.bind (credenzaref07_one ([105, 110] : Str)) fun r_104 =>
   Option.bind (g_.credenzaref07_at (re25 x_88) 0 false) fun r_105 =>
   Option.bind (credenzaref07_one ([41] : Str)) fun r_106 =>
   Option.bind (g_.credenzaref07_Stmt (re25 x_89)) fun r_107 =>
   Option.bind (credenzaref07_join ([([([102, 111, 114] : Str), ([40] : Str)] : List Str), a_87, r_104.1, r_105.1, r_106.1, r_107.1] : List (List Str))) fun r_108 =>
   some (r_108.1, ())) (
   Option.bind (credenzaref07_one ([105, 110] : Str)) fun r_90 =>
   fk (
    Option.bind (g_.credenzaref07_at (re25 x_88) 0 false) fun r_100 =>
    Option.bind (credenzaref07_one ([41] : Str)) fun r_101 =>
    Option.bind (g_.credenzaref07_Stmt (re25 x_89)) fun r_102 =>
    Option.bind (credenzaref07_join ([([([102, 111, 114] : Str), ([40] : Str)] : List Str), a_87, r_90.1, r_100.1, r_101.1, r_102.1] : List (List Str))) fun r_103 =>
    some (r_103.1, ())) (
    Option.bind (g_.credenzaref07_at (re25 x_88) 0 false) fun r_91 =>
    fk (
     Option.bind (credenzaref07_one ([41] : Str)) fun r_97 =>
     Option.bind (g_.credenzaref07_Stmt (re25 x_89)) fun r_98 =>
     Option.bind (credenzaref07_join ([([([102, 111, 114] : Str), ([40] : Str)] : List Str), a_87, r_90.1, r_91.1, r_97.1, r_98.1] : List (List Str))) fun r_99 =>
     some (r_99.1, ())) (
     Option.bind (credenzaref07_one ([41] : Str)) fun r_92 =>
     fk (
      Option.bind (g_.credenzaref07_Stmt (re25 x_89)) fun r_95 =>
      Option.bind (credenzaref07_join ([([([102, 111, 114] : Str), ([40] : Str)] : List Str), a_87, r_90.1, r_91.1, r_92.1, r_95.1] : List (List Str))) fun r_96 =>
      some (r_96.1, ())) (
      Option.bind (g_.credenzaref07_Stmt (re25 x_89)) fun r_93 =>
      Option.bind (credenzaref07_join ([([([102, 111, 114] : Str), ([40] : Str)] : List Str), a_87, r_90.1, r_91.1, r_92.1, r_93.1] : List (List Str))) fun r_94 =>
      some (r_94.1, ())))))
def credenzaref07_Stmt_b (g_ : Rec_credenzaref07_Stmts) (t : T_api_Node) : Option ((List Str) × Unit) :=
  if (t.Kind == 22) = true then
   Option.bind (g_.credenzaref07_vars (re25 t) false) fun r_1 =>
   Option.bind (credenzaref07_one ([59] : Str)) fun r_2 =>
   Option.bind (credenzaref07_join ([r_1.1, r_2.1] : List (List Str))) fun r_3 =>
   some (r_3.1, ())
  else
   if (t.Kind == 24) = true then
    Option.bind (getI t.L 0) fun x_4 =>
    Option.bind (g_.credenzaref07_bare (re25 x_4)) fun r_5 =>
    Option.bind (credenzaref07_one ([59] : Str)) fun r_6 =>
    Option.bind (credenzaref07_join ([r_5.1, r_6.1] : List (List Str))) fun r_7 =>
    some (r_7.1, ())
   else
    if (t.Kind == 25) = true then
     Option.bind (g_.credenzaref07_braces t.L) fun r_8 =>
     some (r_8.1, ())
    else
     if (t.Kind == 26) = true then
      Option.bind (getI t.L 0) fun x_9 =>
      Option.bind (getI t.L 1) fun x_10 =>
      Option.bind (g_.credenzaref07_head ([105, 102] : Str) (re25 x_9)) fun r_11 =>
      Option.bind (g_.credenzaref07_Stmt (re25 x_10)) fun r_12 =>
      Option.bind (credenzaref07_join ([r_11.1, r_12.1] : List (List Str))) fun r_13 =>
      let b_14 := (((t.L.length : Nat) : Int) == 3)
      if b_14 = true then
       Option.bind (getI t.L 2) fun x_15 =>
       Option.bind (credenzaref07_one ([101, 108, 115, 101] : Str)) fun r_16 =>
       Option.bind (g_.credenzaref07_Stmt (re25 x_15)) fun r_17 =>
       Option.bind (credenzaref07_join ([r_13.1, r_16.1, r_17.1] : List (List Str))) fun r_18 =>
       some (r_18.1, ())
      else
       some (r_13.1, ())
     else
      if (t.Kind == 27) = true then
       Option.bind (getI t.L 0) fun x_19 =>
       Option.bind (getI t.L 1) fun x_20 =>
       Option.bind (g_.credenzaref07_head ([119, 104, 105, 108, 101] : Str) (re25 x_19)) fun r_21 =>
       Option.bind (g_.credenzaref07_Stmt (re25 x_20)) fun r_22 =>
       Option.bind (credenzaref07_join ([r_21.1, r_22.1] : List (List Str))) fun r_23 =>
       some (r_23.1, ())
      else
       if (t.Kind == 28) = true then
        Option.bind (getI t.L 0) fun x_24 =>
        Option.bind (getI t.L 1) fun x_25 =>
        Option.bind (credenzaref07_one ([100, 111] : Str)) fun r_26 =>
        Option.bind (g_.credenzaref07_Stmt (re25 x_24)) fun r_27 =>
        Option.bind (g_.credenzaref07_head ([119, 104, 105, 108, 101] : Str) (re25 x_25)) fun r_28 =>
        Option.bind (credenzaref07_one ([59] : Str)) fun r_29 =>
        Option.bind (credenzaref07_join ([r_26.1, r_27.1, r_28.1, r_29.1] : List (List Str))) fun r_30 =>
        some (r_30.1, ())
       else
        if (t.Kind == 29) = true then
         Option.bind (getI t.L 0) fun x_31 =>
         Option.bind (getI t.L 1) fun x_32 =>
         Option.bind (getI t.L 2) fun x_33 =>
         Option.bind (getI t.L 3) fun x_34 =>
         fk (
          Option.bind (g_.credenzaref07_maybe (re25 x_31) true) fun r_70 =>
          Option.bind (credenzaref07_one ([59] : Str)) fun r_71 =>
          Option.bind (g_.credenzaref07_maybe (re25 x_32) false) fun r_72 =>
          Option.bind (credenzaref07_one ([59] : Str)) fun r_73 =>
          Option.bind (g_.credenzaref07_maybe (re25 x_33) false) fun r_74 =>
          Option.bind (credenzaref07_one ([41] : Str)) fun r_75 =>
          Option.bind (g_.credenzaref07_Stmt (re25 x_34)) fun r_76 =>
          Option.bind (credenzaref07_join ([([([102, 111, 114] : Str), ([40] : Str)] : List Str), r_70.1, r_71.1, r_72.1, r_73.1, r_74.1, r_75.1, r_76.1] : List (List Str))) fun r_77 =>
          some (r_77.1, ())) (
          Option.bind (g_.credenzaref07_maybe (re25 x_31) true) fun r_35 =>
          fk (
           Option.bind (credenzaref07_one ([59] : Str)) fun r_63 =>
           Option.bind (g_.credenzaref07_maybe (re25 x_32) false) fun r_64 =>
           Option.bind (credenzaref07_one ([59] : Str)) fun r_65 =>
           Option.bind (g_.credenzaref07_maybe (re25 x_33) false) fun r_66 =>
           Option.bind (credenzaref07_one ([41] : Str)) fun r_67 =>
           Option.bind (g_.credenzaref07_Stmt (re25 x_34)) fun r_68 =>
           Option.bind (credenzaref07_join ([([([102, 111, 114] : Str), ([40] : Str)] : List Str), r_35.1, r_63.1, r_64.1, r_65.1, r_66.1, r_67.1, r_68.1] : List (List Str))) fun r_69 =>
           some (r_69.1, ())) (
           Option.bind (credenzaref07_one ([59] : Str)) fun r_36 =>
           fk (
            Option.bind (g_.credenzaref07_maybe (re25 x_32) false) fun r_57 =>
            Option.bind (credenzaref07_one ([59] : Str)) fun r_58 =>
            Option.bind (g_.credenzaref07_maybe (re25 x_33) false) fun r_59 =>
            Option.bind (credenzaref07_one ([41] : Str)) fun r_60 =>
            Option.bind (g_.credenzaref07_Stmt (re25 x_34)) fun r_61 =>
            Option.bind (credenzaref07_join ([([([102, 111, 114] : Str), ([40] : Str)] : List Str), r_35.1, r_36.1, r_57.1, r_58.1, r_59.1, r_60.1, r_61.1] : List (List Str))) fun r_62 =>
            some (r_62.1, ())) (
            Option.bind (g_.credenzaref07_maybe (re25 x_32) false) fun r_37 =>
            fk (
             Option.bind (credenzaref07_one ([59] : Str)) fun r_52 =>
             Option.bind (g_.credenzaref07_maybe (re25 x_33) false) fun r_53 =>
             Option.bind (credenzaref07_one ([41] : Str)) fun r_54 =>
             Option.bind (g_.credenzaref07_Stmt (re25 x_34)) fun r_55 =>
             Option.bind (credenzaref07_join ([([([102, 111, 114] : Str), ([40] : Str)] : List Str), r_35.1, r_36.1, r_37.1, r_52.1, r_53.1, r_54.1, r_55.1] : List (List Str))) fun r_56 =>
             some (r_56.1, ())) (
             Option.bind (credenzaref07_one ([59] : Str)) fun r_38 =>
             fk (
              Option.bind (g_.credenzaref07_maybe (re25 x_33) false) fun r_48 =>
              Option.bind (credenzaref07_one ([41] : Str)) fun r_49 =>
              Option.bind (g_.credenzaref07_Stmt (re25 x_34)) fun r_50 =>
              Option.bind (credenzaref07_join ([([([102, 111, 114] : Str), ([40] : Str)] : List Str), r_35.1, r_36.1, r_37.1, r_38.1, r_48.1, r_49.1, r_50.1] : List (List Str))) fun r_51 =>
              some (r_51.1, ())) (
              Option.bind (g_.credenzaref07_maybe (re25 x_33) false) fun r_39 =>
              fk (
               Option.bind (credenzaref07_one ([41] : Str)) fun r_45 =>
               Option.bind (g_.credenzaref07_Stmt (re25 x_34)) fun r_46 =>
               Option.bind (credenzaref07_join ([([([102, 111, 114] : Str), ([40] : Str)] : List Str), r_35.1, r_36.1, r_37.1, r_38.1, r_39.1, r_45.1, r_46.1] : List (List Str))) fun r_47 =>
               some (r_47.1, ())) (
               Option.bind (credenzaref07_one ([41] : Str)) fun r_40 =>
               fk (
                Option.bind (g_.credenzaref07_Stmt (re25 x_34)) fun r_43 =>
                Option.bind (credenzaref07_join ([([([102, 111, 114] : Str), ([40] : Str)] : List Str), r_35.1, r_36.1, r_37.1, r_38.1, r_39.1, r_40.1, r_43.1] : List (List Str))) fun r_44 =>
                some (r_44.1, ())) (
                Option.bind (g_.credenzaref07_Stmt (re25 x_34)) fun r_41 =>
                Option.bind (credenzaref07_join ([([([102, 111, 114] : Str), ([40] : Str)] : List Str), r_35.1, r_36.1, r_37.1, r_38.1, r_39.1, r_40.1, r_41.1] : List (List Str))) fun r_42 =>
                some (r_42.1, ()))))))))
        else
         if (t.Kind == 30) = true then
          Option.bind (getI t.L 0) fun x_78 =>
          Option.bind (g_.credenzaref07_maybe (re25 x_78) true) fun r_79 =>
          Option.bind (getI t.L 0) fun x_80 =>
          if (x_80.Kind != 22) = true then
           Option.bind (getI t.L 0) fun x_81 =>
           Option.bind (g_.credenzaref07_at (re25 x_81) 11 true) fun r_82 =>
           credenzaref07_Stmt_j1 g_ t.L r_82.1
          else
           credenzaref07_Stmt_j1 g_ t.L r_79.1
         else
          if (t.Kind == 39) = true then
           Option.bind (g_.credenzaref07_function (re25 t)) fun r_83 =>
           some (r_83.1, ())
          else
           if (t.Kind == 40) = true then
            Option.bind (credenzaref07_one ([59] : Str)) fun r_84 =>
            some (r_84.1, ())
           else
            Option.bind (g_.credenzaref07_rest (re25 t)) fun r_85 =>
            some (r_85.1, ())
def credenzaref07_Stmt_d (g_ : Rec_credenzaref07_Stmts) : Dn.Callee Y := callee Y [] credenzaref07_Stmt_s credenzaref07_Stmt_o (fun z => credenzaref07_Stmt_b g_ z.1)
def credenzaref07_Stmt_k (g_ : Rec_credenzaref07_Stmts) : Cuts Y (ParO Y credenzaref07_Stmt_o) := (.join [[1, 2, 2, 3, 2, 4, 2, 4, 2, 4, 2, 4, 2, 4, 2, 4, 2, 4, 2, 5, 2, 1, 2, 2], [2, 2, 2, 3, 2, 4, 2, 4, 2, 4, 2, 4, 2, 4, 2, 4, 2, 4, 2, 5, 2, 1, 2, 2], [6, 2, 1, 2, 2], [2, 2, 2]] ⟨[(3, .sl 25), (5, .sl 9)], []⟩ (fun z => credenzaref07_Stmt_j1 g_ z.1 z.2.1) .nil)
theorem credenzaref07_Stmt_b_ok (g_ : Rec_credenzaref07_Stmts) (hg_ : Rec_credenzaref07_Stmts_ok g_) : COk hY Tryz.prog Glob 42 (credenzaref07_Stmt_d g_) :=
  fn_ok (body := (Tryz.f42.body).getD .skip) (T := [(69, (credenzaref07_vars_c g_)), (70, (credenzaref07_one_c)), (41, (credenzaref07_join_c)), (71, (credenzaref07_bare_c g_)), (72, (credenzaref07_braces_c g_)), (73, (credenzaref07_head_c g_)), (42, (credenzaref07_Stmt_c g_)), (74, (credenzaref07_maybe_c g_)), (75, (credenzaref07_at_c g_)), (76, (credenzaref07_function_c g_)), (77, (credenzaref07_rest_c g_))]) (credenzaref07_Stmt_k g_) Tryz.func42 (by kernel_rfl) ⟨⟨_, Tryz.func42, by kernel_rfl, rfl⟩⟩ hsz ((.cons hg_.credenzaref07_vars (.cons credenzaref07_one_ok (.cons credenzaref07_join_ok (.cons hg_.credenzaref07_bare (.cons hg_.credenzaref07_braces (.cons hg_.credenzaref07_head (.cons hg_.credenzaref07_Stmt (.cons hg_.credenzaref07_maybe (.cons hg_.credenzaref07_at (.cons hg_.credenzaref07_function (.cons hg_.credenzaref07_rest .nil))))))))))) : TabOk hY Tryz.prog Glob [(69, (credenzaref07_vars_c g_)), (70, (credenzaref07_one_c)), (41, (credenzaref07_join_c)), (71, (credenzaref07_bare_c g_)), (72, (credenzaref07_braces_c g_)), (73, (credenzaref07_head_c g_)), (42, (credenzaref07_Stmt_c g_)), (74, (credenzaref07_maybe_c g_)), (75, (credenzaref07_at_c g_)), (76, (credenzaref07_function_c g_)), (77, (credenzaref07_rest_c g_))]) (fun _ _ hle h => h.mono hle) (by kernel_rfl)
    ⟨fun z => by kernel_rfl, trivial⟩
    (fun z => by kernel_rfl)
def credenzaref07_vars_l1 (g_ : Rec_credenzaref07_Stmts) : Bool × (List T_api_Node) × Int × Int × (List (List Str)) × Unit → Option ((Bool × (List T_api_Node) × Int × Int × (List (List Str)) × Unit) ⊕ ((List Str) × Unit))
  | (no_1, v_2, v_3, v_4, l_5, ()) =>
    if (decide (v_4 < v_3)) = true then
     Option.bind (getI v_2 v_4) fun x_6 =>
     Option.bind (credenzaref07_one x_6.Name) fun r_7 =>
     let n_8 := ((x_6.L.length : Nat) : Int)
     if (decide (n_8 > 0)) = true then
      Option.bind (getI x_6.L 0) fun x_9 =>
      Option.bind (credenzaref07_one ([61] : Str)) fun r_10 =>
      Option.bind (g_.credenzaref07_at (re25 x_9) 1 no_1) fun r_11 =>
      Option.bind (credenzaref07_join ([r_7.1, r_10.1, r_11.1] : List (List Str))) fun r_12 =>
      Option.bind (room (l_5.length + ([r_12.1] : List (List Str)).length)) fun _ =>
      let l_13 := l_5 ++ ([r_12.1] : List (List Str))
      let n_14 := (IntKind.wrap .i64 (v_4 + 1))
      some (Sum.inl (no_1, v_2, v_3, n_14, l_13, ()))
     else
      Option.bind (room (l_5.length + ([r_7.1] : List (List Str)).length)) fun _ =>
      let l_15 := l_5 ++ ([r_7.1] : List (List Str))
      let n_16 := (IntKind.wrap .i64 (v_4 + 1))
      some (Sum.inl (no_1, v_2, v_3, n_16, l_15, ()))
    else
     Option.bind (credenzaref07_one ([118, 97, 114] : Str)) fun r_17 =>
     Option.bind (credenzaref07_commas l_5) fun r_18 =>
     Option.bind (credenzaref07_join ([r_17.1, r_18.1] : List (List Str))) fun r_19 =>
     some (Sum.inr (r_19.1, ()))
def credenzaref07_vars_b (g_ : Rec_credenzaref07_Stmts) (n : T_api_Node) (no : Bool) : Option ((List Str) × Unit) :=
  Lp.loop (credenzaref07_vars_l1 g_) (no, n.L, ((n.L.length : Nat) : Int), 0, ([] : List (List Str)), ())
def credenzaref07_vars_d (g_ : Rec_credenzaref07_Stmts) : Dn.Callee Y := callee Y [] credenzaref07_vars_s credenzaref07_vars_o (fun z => credenzaref07_vars_b g_ z.1 z.2.1)
def credenzaref07_vars_k (g_ : Rec_credenzaref07_Stmts) : Cuts Y (ParO Y credenzaref07_vars_o) := (.loop [[7, 5, 2, 1, 2, 2], [8, 5, 2, 1, 2, 2], [6, 2, 1, 2, 2], [2, 2, 2]] ⟨[(1, .bool), (5, .own 0), (10, .sl 25), (11, .int .i64), (12, .int .i64)], [.arr 22]⟩ (credenzaref07_vars_l1 g_) .nil .nil)
theorem credenzaref07_vars_b_ok (g_ : Rec_credenzaref07_Stmts) (hg_ : Rec_credenzaref07_Stmts_ok g_) : COk hY Tryz.prog Glob 69 (credenzaref07_vars_d g_) :=
  fn_ok (body := (Tryz.f69.body).getD .skip) (T := [(70, (credenzaref07_one_c)), (75, (credenzaref07_at_c g_)), (41, (credenzaref07_join_c)), (97, (credenzaref07_commas_c))]) (credenzaref07_vars_k g_) Tryz.func69 (by kernel_rfl) ⟨⟨_, Tryz.func69, by kernel_rfl, rfl⟩⟩ hsz ((.cons credenzaref07_one_ok (.cons hg_.credenzaref07_at (.cons credenzaref07_join_ok (.cons credenzaref07_commas_ok .nil)))) : TabOk hY Tryz.prog Glob [(70, (credenzaref07_one_c)), (75, (credenzaref07_at_c g_)), (41, (credenzaref07_join_c)), (97, (credenzaref07_commas_c))]) (fun _ _ hle h => h.mono hle) (by kernel_rfl)
    ⟨fun z => by kernel_rfl, trivial, trivial⟩
    (fun z => by kernel_rfl)
def credenzaref07_at_b (g_ : Rec_credenzaref07_Stmts) (n : T_api_Node) (level : Int) (no : Bool) : Option ((List Str) × Unit) :=
  Option.bind (credenzaref07_Level (re25 n)) fun r_1 =>
  let b_2 := ((decide (r_1.1 < level)) || ((no && (n.Kind == 17)) && (n.Name == ([105, 110] : Str))))
  if b_2 = true then
   Option.bind (credenzaref07_one ([40] : Str)) fun r_3 =>
   Option.bind (g_.credenzaref07_raw (re25 n) false) fun r_4 =>
   Option.bind (credenzaref07_one ([41] : Str)) fun r_5 =>
   Option.bind (credenzaref07_join ([r_3.1, r_4.1, r_5.1] : List (List Str))) fun r_6 =>
   some (r_6.1, ())
  else
   Option.bind (g_.credenzaref07_raw (re25 n) no) fun r_7 =>
   some (r_7.1, ())
def credenzaref07_at_d (g_ : Rec_credenzaref07_Stmts) : Dn.Callee Y := callee Y [] credenzaref07_at_s credenzaref07_at_o (fun z => credenzaref07_at_b g_ z.1 z.2.1 z.2.2.1)
def credenzaref07_at_k (g_ : Rec_credenzaref07_Stmts) : Cuts Y (ParO Y credenzaref07_at_o) := .nil
theorem credenzaref07_at_b_ok (g_ : Rec_credenzaref07_Stmts) (hg_ : Rec_credenzaref07_Stmts_ok g_) : COk hY Tryz.prog Glob 75 (credenzaref07_at_d g_) :=
  fn_ok (body := (Tryz.f75.body).getD .skip) (T := [(98, (credenzaref07_Level_c (Rec_credenzaref07_Level_g Lp.big))), (70, (credenzaref07_one_c)), (99, (credenzaref07_raw_c g_)), (41, (credenzaref07_join_c))]) (credenzaref07_at_k g_) Tryz.func75 (by kernel_rfl) ⟨⟨_, Tryz.func75, by kernel_rfl, rfl⟩⟩ hsz ((.cons credenzaref07_Level_ok (.cons credenzaref07_one_ok (.cons hg_.credenzaref07_raw (.cons credenzaref07_join_ok .nil)))) : TabOk hY Tryz.prog Glob [(98, (credenzaref07_Level_c (Rec_credenzaref07_Level_g Lp.big))), (70, (credenzaref07_one_c)), (99, (credenzaref07_raw_c g_)), (41, (credenzaref07_join_c))]) (fun _ _ hle h => h.mono hle) (by kernel_rfl)
    trivial
    (fun z => by kernel_rfl)
def credenzaref07_raw_j1 (g_ : Rec_credenzaref07_Stmts) (o_68 : Bool) (x_69 : T_api_Node) : Option ((List Str) × Unit) :=
  Option.bind (getI x_69.L 0) fun x_70 =>
  Option.bind (getI x_69.L 1) fun x_71 =>
  Option.bind (credenzaref07_Level (re25 x_69)) fun r_72 =>
  Option.bind (g_.credenzaref07_at (re25 x_70) r_72.1 o_68) fun r_73 =>
  Option.bind (credenzaref07_one x_69.Name) fun r_74 =>
  Option.bind (credenzaref07_Level (re25 x_69)) fun r_75 =>
  let n_76 := (IntKind.wrap .i64 (r_75.1 + 1))
  Option.bind (g_.credenzaref07_at (re25 x_71) n_76 o_68) fun r_77 =>
  Option.bind (credenzaref07_join ([r_73.1, r_74.1, r_77.1] : List (List Str))) fun r_78 =>
  some (r_78.1, ())
def credenzaref07_raw_b (g_ : Rec_credenzaref07_Stmts) (t : T_api_Node) (o : Bool) : Option ((List Str) × Unit) :=
  if (t.Kind == 7) = true then
   Option.bind (credenzaref07_one ([91] : Str)) fun r_1 =>
   Option.bind (g_.credenzaref07_list t.L) fun r_2 =>
   Option.bind (credenzaref07_one ([93] : Str)) fun r_3 =>
   Option.bind (credenzaref07_join ([r_1.1, r_2.1, r_3.1] : List (List Str))) fun r_4 =>
   some (r_4.1, ())
  else
   if (t.Kind == 8) = true then
    Option.bind (g_.credenzaref07_props (re25 t)) fun r_5 =>
    some (r_5.1, ())
   else
    if (t.Kind == 10) = true then
     Option.bind (g_.credenzaref07_function (re25 t)) fun r_6 =>
     some (r_6.1, ())
    else
     if (t.Kind == 11) = true then
      Option.bind (getI t.L 0) fun x_7 =>
      fk (
       Option.bind (g_.credenzaref07_at (re25 x_7) 11 o) fun r_10 =>
       Option.bind (credenzaref07_join ([r_10.1, ([([46] : Str), t.Name] : List Str)] : List (List Str))) fun r_11 =>
       some (r_11.1, ())) (
       Option.bind (g_.credenzaref07_at (re25 x_7) 11 o) fun r_8 =>
       Option.bind (credenzaref07_join ([r_8.1, ([([46] : Str), t.Name] : List Str)] : List (List Str))) fun r_9 =>
       some (r_9.1, ()))
     else
      if (t.Kind == 12) = true then
       Option.bind (getI t.L 0) fun x_12 =>
       Option.bind (getI t.L 1) fun x_13 =>
       Option.bind (g_.credenzaref07_at (re25 x_12) 11 o) fun r_14 =>
       Option.bind (credenzaref07_one ([91] : Str)) fun r_15 =>
       Option.bind (g_.credenzaref07_at (re25 x_13) 0 false) fun r_16 =>
       Option.bind (credenzaref07_one ([93] : Str)) fun r_17 =>
       Option.bind (credenzaref07_join ([r_14.1, r_15.1, r_16.1, r_17.1] : List (List Str))) fun r_18 =>
       some (r_18.1, ())
      else
       if (t.Kind == 13) = true then
        Option.bind (getI t.L 0) fun x_19 =>
        Option.bind (cutL t.L 1 ((t.L.length : Nat) : Int)) fun s_20 =>
        Option.bind (g_.credenzaref07_at (re25 x_19) 11 o) fun r_21 =>
        Option.bind (credenzaref07_one ([40] : Str)) fun r_22 =>
        Option.bind (g_.credenzaref07_list s_20) fun r_23 =>
        Option.bind (credenzaref07_one ([41] : Str)) fun r_24 =>
        Option.bind (credenzaref07_join ([r_21.1, r_22.1, r_23.1, r_24.1] : List (List Str))) fun r_25 =>
        some (r_25.1, ())
       else
        if (t.Kind == 14) = true then
         Option.bind (getI t.L 0) fun x_26 =>
         Option.bind (cutL t.L 1 ((t.L.length : Nat) : Int)) fun s_27 =>
         Option.bind (credenzaref07_one ([110, 101, 119] : Str)) fun r_28 =>
         Option.bind (g_.credenzaref07_at (re25 x_26) 12 o) fun r_29 =>
         Option.bind (credenzaref07_one ([40] : Str)) fun r_30 =>
         Option.bind (g_.credenzaref07_list s_27) fun r_31 =>
         Option.bind (credenzaref07_one ([41] : Str)) fun r_32 =>
         Option.bind (credenzaref07_join ([r_28.1, r_29.1, r_30.1, r_31.1, r_32.1] : List (List Str))) fun r_33 =>
         some (r_33.1, ())
        else
         if (t.Kind == 15) = true then
          Option.bind (getI t.L 0) fun x_34 =>
          Option.bind (credenzaref07_one t.Name) fun r_35 =>
          Option.bind (g_.credenzaref07_at (re25 x_34) 9 o) fun r_36 =>
          Option.bind (credenzaref07_join ([r_35.1, r_36.1] : List (List Str))) fun r_37 =>
          some (r_37.1, ())
         else
          if (t.Kind == 16) = true then
           if (t.Num == 1) = true then
            Option.bind (getI t.L 0) fun x_38 =>
            Option.bind (credenzaref07_one t.Name) fun r_39 =>
            Option.bind (g_.credenzaref07_at (re25 x_38) 11 o) fun r_40 =>
            Option.bind (credenzaref07_join ([r_39.1, r_40.1] : List (List Str))) fun r_41 =>
            some (r_41.1, ())
           else
            Option.bind (getI t.L 0) fun x_42 =>
            Option.bind (g_.credenzaref07_at (re25 x_42) 11 o) fun r_43 =>
            Option.bind (credenzaref07_one t.Name) fun r_44 =>
            Option.bind (credenzaref07_join ([r_43.1, r_44.1] : List (List Str))) fun r_45 =>
            some (r_45.1, ())
          else
           if (t.Kind == 17) = true then
            credenzaref07_raw_j1 g_ o (re25 t)
           else
            if (t.Kind == 18) = true then
             credenzaref07_raw_j1 g_ o (re25 t)
            else
             if (t.Kind == 19) = true then
              Option.bind (getI t.L 0) fun x_46 =>
              Option.bind (getI t.L 1) fun x_47 =>
              Option.bind (getI t.L 2) fun x_48 =>
              Option.bind (g_.credenzaref07_at (re25 x_46) 3 o) fun r_49 =>
              Option.bind (credenzaref07_one ([63] : Str)) fun r_50 =>
              Option.bind (g_.credenzaref07_at (re25 x_47) 1 false) fun r_51 =>
              Option.bind (credenzaref07_one ([58] : Str)) fun r_52 =>
              Option.bind (g_.credenzaref07_at (re25 x_48) 1 o) fun r_53 =>
              Option.bind (credenzaref07_join ([r_49.1, r_50.1, r_51.1, r_52.1, r_53.1] : List (List Str))) fun r_54 =>
              some (r_54.1, ())
             else
              if (t.Kind == 20) = true then
               Option.bind (getI t.L 0) fun x_55 =>
               Option.bind (getI t.L 1) fun x_56 =>
               Option.bind (g_.credenzaref07_at (re25 x_55) 11 o) fun r_57 =>
               Option.bind (credenzaref07_one t.Name) fun r_58 =>
               Option.bind (g_.credenzaref07_at (re25 x_56) 1 o) fun r_59 =>
               Option.bind (credenzaref07_join ([r_57.1, r_58.1, r_59.1] : List (List Str))) fun r_60 =>
               some (r_60.1, ())
              else
               if (t.Kind == 21) = true then
                Option.bind (getI t.L 0) fun x_61 =>
                Option.bind (getI t.L 1) fun x_62 =>
                Option.bind (g_.credenzaref07_at (re25 x_61) 0 o) fun r_63 =>
                Option.bind (credenzaref07_one ([44] : Str)) fun r_64 =>
                Option.bind (g_.credenzaref07_at (re25 x_62) 1 o) fun r_65 =>
                Option.bind (credenzaref07_join ([r_63.1, r_64.1, r_65.1] : List (List Str))) fun r_66 =>
                some (r_66.1, ())
               else
                Option.bind (credenzaref07_leaf (re25 t)) fun r_67 =>
                some (r_67.1, ())
def credenzaref07_raw_d (g_ : Rec_credenzaref07_Stmts) : Dn.Callee Y := callee Y [] credenzaref07_raw_s credenzaref07_raw_o (fun z => credenzaref07_raw_b g_ z.1 z.2.1)
def credenzaref07_raw_k (g_ : Rec_credenzaref07_Stmts) : Cuts Y (ParO Y credenzaref07_raw_o) := (.join [[1, 3, 2, 4, 2, 4, 2, 4, 2, 4, 2, 4, 2, 4, 2, 4, 2, 4, 2, 4, 2, 5, 2, 1, 2], [2, 3, 2, 4, 2, 4, 2, 4, 2, 4, 2, 4, 2, 4, 2, 4, 2, 4, 2, 4, 2, 5, 2, 1, 2], [6, 2, 1, 2], [2, 2]] ⟨[(1, .bool), (2, .ptr 0 0)], [.whole 25 25]⟩ (fun z => credenzaref07_raw_j1 g_ z.1 z.2.1) .nil)
theorem credenzaref07_raw_b_ok (g_ : Rec_credenzaref07_Stmts) (hg_ : Rec_credenzaref07_Stmts_ok g_) : COk hY Tryz.prog Glob 99 (credenzaref07_raw_d g_) :=
  fn_ok (body := (Tryz.f99.body).getD .skip) (T := [(70, (credenzaref07_one_c)), (115, (credenzaref07_list_c g_)), (41, (credenzaref07_join_c)), (116, (credenzaref07_props_c g_)), (76, (credenzaref07_function_c g_)), (75, (credenzaref07_at_c g_)), (117, (credenzaref07_leaf_c)), (98, (credenzaref07_Level_c (Rec_credenzaref07_Level_g Lp.big)))]) (credenzaref07_raw_k g_) Tryz.func99 (by kernel_rfl) ⟨⟨_, Tryz.func99, by kernel_rfl, rfl⟩⟩ hsz ((.cons credenzaref07_one_ok (.cons hg_.credenzaref07_list (.cons credenzaref07_join_ok (.cons hg_.credenzaref07_props (.cons hg_.credenzaref07_function (.cons hg_.credenzaref07_at (.cons credenzaref07_leaf_ok (.cons credenzaref07_Level_ok .nil)))))))) : TabOk hY Tryz.prog Glob [(70, (credenzaref07_one_c)), (115, (credenzaref07_list_c g_)), (41, (credenzaref07_join_c)), (116, (credenzaref07_props_c g_)), (76, (credenzaref07_function_c g_)), (75, (credenzaref07_at_c g_)), (117, (credenzaref07_leaf_c)), (98, (credenzaref07_Level_c (Rec_credenzaref07_Level_g Lp.big)))]) (fun _ _ hle h => h.mono hle) (by kernel_rfl)
    ⟨fun z => by kernel_rfl, trivial⟩
    (fun z => by kernel_rfl)
def credenzaref07_list_l1 (g_ : Rec_credenzaref07_Stmts) : (List T_api_Node) × Int × Int × (List (List Str)) × Unit → Option (((List T_api_Node) × Int × Int × (List (List Str)) × Unit) ⊕ ((List Str) × Unit))
  | (v_1, v_2, v_3, l_4, ()) =>
    if (decide (v_3 < v_2)) = true then
     Option.bind (getI v_1 v_3) fun x_5 =>
     Option.bind (g_.credenzaref07_at (re25 x_5) 1 false) fun r_6 =>
     Option.bind (room (l_4.length + ([r_6.1] : List (List Str)).length)) fun _ =>
     let l_7 := l_4 ++ ([r_6.1] : List (List Str))
     let n_8 := (IntKind.wrap .i64 (v_3 + 1))
     some (Sum.inl (v_1, v_2, n_8, l_7, ()))
    else
     Option.bind (credenzaref07_commas l_4) fun r_9 =>
     some (Sum.inr (r_9.1, ()))
def credenzaref07_list_b (g_ : Rec_credenzaref07_Stmts) (l : List T_api_Node) : Option ((List Str) × Unit) :=
  Lp.loop (credenzaref07_list_l1 g_) (l, ((l.length : Nat) : Int), 0, ([] : List (List Str)), ())
def credenzaref07_list_d (g_ : Rec_credenzaref07_Stmts) : Dn.Callee Y := callee Y [] credenzaref07_list_s credenzaref07_list_o (fun z => credenzaref07_list_b g_ z.1)
def credenzaref07_list_k (g_ : Rec_credenzaref07_Stmts) : Cuts Y (ParO Y credenzaref07_list_o) := (.loop [[7, 5, 2, 1, 2, 2], [8, 5, 2, 1, 2, 2], [6, 2, 1, 2, 2], [2, 2, 2]] ⟨[(3, .own 0), (6, .sl 25), (7, .int .i64), (8, .int .i64)], [.arr 22]⟩ (credenzaref07_list_l1 g_) .nil .nil)
theorem credenzaref07_list_b_ok (g_ : Rec_credenzaref07_Stmts) (hg_ : Rec_credenzaref07_Stmts_ok g_) : COk hY Tryz.prog Glob 115 (credenzaref07_list_d g_) :=
  fn_ok (body := (Tryz.f115.body).getD .skip) (T := [(75, (credenzaref07_at_c g_)), (97, (credenzaref07_commas_c))]) (credenzaref07_list_k g_) Tryz.func115 (by kernel_rfl) ⟨⟨_, Tryz.func115, by kernel_rfl, rfl⟩⟩ hsz ((.cons hg_.credenzaref07_at (.cons credenzaref07_commas_ok .nil)) : TabOk hY Tryz.prog Glob [(75, (credenzaref07_at_c g_)), (97, (credenzaref07_commas_c))]) (fun _ _ hle h => h.mono hle) (by kernel_rfl)
    ⟨fun z => by kernel_rfl, trivial, trivial⟩
    (fun z => by kernel_rfl)
def credenzaref07_props_l1 (g_ : Rec_credenzaref07_Stmts) : (List T_api_Node) × Int × Int × (List (List Str)) × Unit → Option (((List T_api_Node) × Int × Int × (List (List Str)) × Unit) ⊕ ((List Str) × Unit))
  | (v_1, v_2, v_3, l_4, ()) =>
    if (decide (v_3 < v_2)) = true then
     Option.bind (getI v_1 v_3) fun x_5 =>
     Option.bind (credenzaref01_Quote x_5.Text) fun r_6 =>
     Option.bind (getI x_5.L 0) fun x_7 =>
     Option.bind (g_.credenzaref07_at (re25 x_7) 1 false) fun r_8 =>
     Option.bind (credenzaref07_join ([([r_6.1, ([58] : Str)] : List Str), r_8.1] : List (List Str))) fun r_9 =>
     Option.bind (room (l_4.length + ([r_9.1] : List (List Str)).length)) fun _ =>
     let l_10 := l_4 ++ ([r_9.1] : List (List Str))
     let n_11 := (IntKind.wrap .i64 (v_3 + 1))
     some (Sum.inl (v_1, v_2, n_11, l_10, ()))
    else
     Option.bind (credenzaref07_one ([123] : Str)) fun r_12 =>
     Option.bind (credenzaref07_commas l_4) fun r_13 =>
     Option.bind (credenzaref07_one ([125] : Str)) fun r_14 =>
     Option.bind (credenzaref07_join ([r_12.1, r_13.1, r_14.1] : List (List Str))) fun r_15 =>
     some (Sum.inr (r_15.1, ()))
def credenzaref07_props_b (g_ : Rec_credenzaref07_Stmts) (n : T_api_Node) : Option ((List Str) × Unit) :=
  Lp.loop (credenzaref07_props_l1 g_) (n.L, ((n.L.length : Nat) : Int), 0, ([] : List (List Str)), ())
def credenzaref07_props_d (g_ : Rec_credenzaref07_Stmts) : Dn.Callee Y := callee Y [] credenzaref07_props_s credenzaref07_props_o (fun z => credenzaref07_props_b g_ z.1)
def credenzaref07_props_k (g_ : Rec_credenzaref07_Stmts) : Cuts Y (ParO Y credenzaref07_props_o) := (.loop [[7, 5, 2, 1, 2, 2], [8, 5, 2, 1, 2, 2], [6, 2, 1, 2, 2], [2, 2, 2]] ⟨[(3, .own 0), (9, .sl 25), (10, .int .i64), (11, .int .i64)], [.arr 22]⟩ (credenzaref07_props_l1 g_) .nil .nil)
theorem credenzaref07_props_b_ok (g_ : Rec_credenzaref07_Stmts) (hg_ : Rec_credenzaref07_Stmts_ok g_) : COk hY Tryz.prog Glob 116 (credenzaref07_props_d g_) :=
  fn_ok (body := (Tryz.f116.body).getD .skip) (T := [(129, (credenzaref01_Quote_c)), (75, (credenzaref07_at_c g_)), (41, (credenzaref07_join_c)), (70, (credenzaref07_one_c)), (97, (credenzaref07_commas_c))]) (credenzaref07_props_k g_) Tryz.func116 (by kernel_rfl) ⟨⟨_, Tryz.func116, by kernel_rfl, rfl⟩⟩ hsz ((.cons credenzaref01_Quote_ok (.cons hg_.credenzaref07_at (.cons credenzaref07_join_ok (.cons credenzaref07_one_ok (.cons credenzaref07_commas_ok .nil))))) : TabOk hY Tryz.prog Glob [(129, (credenzaref01_Quote_c)), (75, (credenzaref07_at_c g_)), (41, (credenzaref07_join_c)), (70, (credenzaref07_one_c)), (97, (credenzaref07_commas_c))]) (fun _ _ hle h => h.mono hle) (by kernel_rfl)
    ⟨fun z => by kernel_rfl, trivial, trivial⟩
    (fun z => by kernel_rfl)
def credenzaref07_function_l1 (g_ : Rec_credenzaref07_Stmts) : (List Str) × Int × Int × T_api_Node × (List Str) × (List (List Str)) × Unit → Option (((List Str) × Int × Int × T_api_Node × (List Str) × (List (List Str)) × Unit) ⊕ ((List Str) × Unit))
  | (v_4, v_5, v_6, x_7, l_8, l_9, ()) =>
    if (decide (v_6 < v_5)) = true then
     Option.bind (getI v_4 v_6) fun x_10 =>
     Option.bind (credenzaref07_one x_10) fun r_11 =>
     Option.bind (room (l_9.length + ([r_11.1] : List (List Str)).length)) fun _ =>
     let l_12 := l_9 ++ ([r_11.1] : List (List Str))
     let n_13 := (IntKind.wrap .i64 (v_6 + 1))
     some (Sum.inl (v_4, v_5, n_13, (re25 x_7), l_8, l_12, ()))
    else
     Option.bind (credenzaref07_one ([40] : Str)) fun r_14 =>
     Option.bind (credenzaref07_commas l_9) fun r_15 =>
     Option.bind (credenzaref07_one ([41] : Str)) fun r_16 =>
     Option.bind (g_.credenzaref07_braces x_7.L) fun r_17 =>
     Option.bind (credenzaref07_join ([l_8, r_14.1, r_15.1, r_16.1, r_17.1] : List (List Str))) fun r_18 =>
     some (Sum.inr (r_18.1, ()))
def credenzaref07_function_b (g_ : Rec_credenzaref07_Stmts) (n : T_api_Node) : Option ((List Str) × Unit) :=
  if (!(n.Name == ([] : Str))) = true then
   Option.bind (room (([([102, 117, 110, 99, 116, 105, 111, 110] : Str)] : List Str).length + ([n.Name] : List Str).length)) fun _ =>
   let l_1 := ([([102, 117, 110, 99, 116, 105, 111, 110] : Str)] : List Str) ++ ([n.Name] : List Str)
   let n_2 := ((n.Names.length : Nat) : Int)
   Lp.loop (credenzaref07_function_l1 g_) (n.Names, n_2, 0, (re25 n), l_1, ([] : List (List Str)), ())
  else
   let n_3 := ((n.Names.length : Nat) : Int)
   Lp.loop (credenzaref07_function_l1 g_) (n.Names, n_3, 0, (re25 n), ([([102, 117, 110, 99, 116, 105, 111, 110] : Str)] : List Str), ([] : List (List Str)), ())
def credenzaref07_function_d (g_ : Rec_credenzaref07_Stmts) : Dn.Callee Y := callee Y [] credenzaref07_function_s credenzaref07_function_o (fun z => credenzaref07_function_b g_ z.1)
def credenzaref07_function_k (g_ : Rec_credenzaref07_Stmts) : Cuts Y (ParO Y credenzaref07_function_o) := (.loop [[7, 5, 2, 1, 2, 2, 2, 2], [8, 5, 2, 1, 2, 2, 2, 2], [6, 2, 1, 2, 2, 2, 2], [2, 2, 2, 2, 2]] ⟨[(1, .ptr 0 0), (3, .own 1), (4, .own 2), (17, .sl 9), (18, .int .i64), (19, .int .i64)], [.whole 25 25, .arr 9, .arr 22]⟩ (credenzaref07_function_l1 g_) .nil .nil)
theorem credenzaref07_function_b_ok (g_ : Rec_credenzaref07_Stmts) (hg_ : Rec_credenzaref07_Stmts_ok g_) : COk hY Tryz.prog Glob 76 (credenzaref07_function_d g_) :=
  fn_ok (body := (Tryz.f76.body).getD .skip) (T := [(70, (credenzaref07_one_c)), (97, (credenzaref07_commas_c)), (72, (credenzaref07_braces_c g_)), (41, (credenzaref07_join_c))]) (credenzaref07_function_k g_) Tryz.func76 (by kernel_rfl) ⟨⟨_, Tryz.func76, by kernel_rfl, rfl⟩⟩ hsz ((.cons credenzaref07_one_ok (.cons credenzaref07_commas_ok (.cons hg_.credenzaref07_braces (.cons credenzaref07_join_ok .nil)))) : TabOk hY Tryz.prog Glob [(70, (credenzaref07_one_c)), (97, (credenzaref07_commas_c)), (72, (credenzaref07_braces_c g_)), (41, (credenzaref07_join_c))]) (fun _ _ hle h => h.mono hle) (by kernel_rfl)
    ⟨fun z => by kernel_rfl, trivial, trivial⟩
    (fun z => by kernel_rfl)
def credenzaref07_braces_b (g_ : Rec_credenzaref07_Stmts) (l : List T_api_Node) : Option ((List Str) × Unit) :=
  Option.bind (credenzaref07_one ([123] : Str)) fun r_1 =>
  Option.bind (g_.credenzaref07_Stmts l) fun r_2 =>
  Option.bind (credenzaref07_one ([125] : Str)) fun r_3 =>
  Option.bind (credenzaref07_join ([r_1.1, r_2.1, r_3.1] : List (List Str))) fun r_4 =>
  some (r_4.1, ())
def credenzaref07_braces_d (g_ : Rec_credenzaref07_Stmts) : Dn.Callee Y := callee Y [] credenzaref07_braces_s credenzaref07_braces_o (fun z => credenzaref07_braces_b g_ z.1)
def credenzaref07_braces_k (g_ : Rec_credenzaref07_Stmts) : Cuts Y (ParO Y credenzaref07_braces_o) := .nil
theorem credenzaref07_braces_b_ok (g_ : Rec_credenzaref07_Stmts) (hg_ : Rec_credenzaref07_Stmts_ok g_) : COk hY Tryz.prog Glob 72 (credenzaref07_braces_d g_) :=
  fn_ok (body := (Tryz.f72.body).getD .skip) (T := [(70, (credenzaref07_one_c)), (22, (credenzaref07_Stmts_c g_)), (41, (credenzaref07_join_c))]) (credenzaref07_braces_k g_) Tryz.func72 (by kernel_rfl) ⟨⟨_, Tryz.func72, by kernel_rfl, rfl⟩⟩ hsz ((.cons credenzaref07_one_ok (.cons hg_.credenzaref07_Stmts (.cons credenzaref07_join_ok .nil))) : TabOk hY Tryz.prog Glob [(70, (credenzaref07_one_c)), (22, (credenzaref07_Stmts_c g_)), (41, (credenzaref07_join_c))]) (fun _ _ hle h => h.mono hle) (by kernel_rfl)
    trivial
    (fun z => by kernel_rfl)
def credenzaref07_bare_b (g_ : Rec_credenzaref07_Stmts) (n : T_api_Node) : Option ((List Str) × Unit) :=
  Option.bind (g_.credenzaref07_at (re25 n) 0 false) fun r_1 =>
  Option.bind (getI r_1.1 0) fun x_2 =>
  Option.bind (
    if (x_2 == ([123] : Str)) = true then
     some true
    else
     Option.bind (getI r_1.1 0) fun x_3 =>
     let b_4 := (x_3 == ([102, 117, 110, 99, 116, 105, 111, 110] : Str))
     some b_4) fun b_5 =>
  if b_5 = true then
   Option.bind (credenzaref07_one ([40] : Str)) fun r_6 =>
   Option.bind (credenzaref07_one ([41] : Str)) fun r_7 =>
   Option.bind (credenzaref07_join ([r_6.1, r_1.1, r_7.1] : List (List Str))) fun r_8 =>
   some (r_8.1, ())
  else
   some (r_1.1, ())
def credenzaref07_bare_d (g_ : Rec_credenzaref07_Stmts) : Dn.Callee Y := callee Y [] credenzaref07_bare_s credenzaref07_bare_o (fun z => credenzaref07_bare_b g_ z.1)
def credenzaref07_bare_k (g_ : Rec_credenzaref07_Stmts) : Cuts Y (ParO Y credenzaref07_bare_o) := .nil
theorem credenzaref07_bare_b_ok (g_ : Rec_credenzaref07_Stmts) (hg_ : Rec_credenzaref07_Stmts_ok g_) : COk hY Tryz.prog Glob 71 (credenzaref07_bare_d g_) :=
  fn_ok (body := (Tryz.f71.body).getD .skip) (T := [(75, (credenzaref07_at_c g_)), (70, (credenzaref07_one_c)), (41, (credenzaref07_join_c))]) (credenzaref07_bare_k g_) Tryz.func71 (by kernel_rfl) ⟨⟨_, Tryz.func71, by kernel_rfl, rfl⟩⟩ hsz ((.cons hg_.credenzaref07_at (.cons credenzaref07_one_ok (.cons credenzaref07_join_ok .nil))) : TabOk hY Tryz.prog Glob [(75, (credenzaref07_at_c g_)), (70, (credenzaref07_one_c)), (41, (credenzaref07_join_c))]) (fun _ _ hle h => h.mono hle) (by kernel_rfl)
    trivial
    (fun z => by kernel_rfl)
def credenzaref07_head_b (g_ : Rec_credenzaref07_Stmts) (word : Str) (n : T_api_Node) : Option ((List Str) × Unit) :=
  Option.bind (g_.credenzaref07_at (re25 n) 0 false) fun r_1 =>
  Option.bind (credenzaref07_one ([41] : Str)) fun r_2 =>
  Option.bind (credenzaref07_join ([([word, ([40] : Str)] : List Str), r_1.1, r_2.1] : List (List Str))) fun r_3 =>
  some (r_3.1, ())
def credenzaref07_head_d (g_ : Rec_credenzaref07_Stmts) : Dn.Callee Y := callee Y [] credenzaref07_head_s credenzaref07_head_o (fun z => credenzaref07_head_b g_ z.1 z.2.1)
def credenzaref07_head_k (g_ : Rec_credenzaref07_Stmts) : Cuts Y (ParO Y credenzaref07_head_o) := .nil
theorem credenzaref07_head_b_ok (g_ : Rec_credenzaref07_Stmts) (hg_ : Rec_credenzaref07_Stmts_ok g_) : COk hY Tryz.prog Glob 73 (credenzaref07_head_d g_) :=
  fn_ok (body := (Tryz.f73.body).getD .skip) (T := [(75, (credenzaref07_at_c g_)), (70, (credenzaref07_one_c)), (41, (credenzaref07_join_c))]) (credenzaref07_head_k g_) Tryz.func73 (by kernel_rfl) ⟨⟨_, Tryz.func73, by kernel_rfl, rfl⟩⟩ hsz ((.cons hg_.credenzaref07_at (.cons credenzaref07_one_ok (.cons credenzaref07_join_ok .nil))) : TabOk hY Tryz.prog Glob [(75, (credenzaref07_at_c g_)), (70, (credenzaref07_one_c)), (41, (credenzaref07_join_c))]) (fun _ _ hle h => h.mono hle) (by kernel_rfl)
    trivial
    (fun z => by kernel_rfl)
def credenzaref07_maybe_b (g_ : Rec_credenzaref07_Stmts) (n : T_api_Node) (no : Bool) : Option ((List Str) × Unit) :=
  if (n.Kind == 42) = true then
   some (([] : List Str), ())
  else
   if (n.Kind == 22) = true then
    Option.bind (g_.credenzaref07_vars (re25 n) no) fun r_1 =>
    some (r_1.1, ())
   else
    Option.bind (g_.credenzaref07_at (re25 n) 0 no) fun r_2 =>
    some (r_2.1, ())
def credenzaref07_maybe_d (g_ : Rec_credenzaref07_Stmts) : Dn.Callee Y := callee Y [] credenzaref07_maybe_s credenzaref07_maybe_o (fun z => credenzaref07_maybe_b g_ z.1 z.2.1)
def credenzaref07_maybe_k (g_ : Rec_credenzaref07_Stmts) : Cuts Y (ParO Y credenzaref07_maybe_o) := .nil
theorem credenzaref07_maybe_b_ok (g_ : Rec_credenzaref07_Stmts) (hg_ : Rec_credenzaref07_Stmts_ok g_) : COk hY Tryz.prog Glob 74 (credenzaref07_maybe_d g_) :=
  fn_ok (body := (Tryz.f74.body).getD .skip) (T := [(69, (credenzaref07_vars_c g_)), (75, (credenzaref07_at_c g_))]) (credenzaref07_maybe_k g_) Tryz.func74 (by kernel_rfl) ⟨⟨_, Tryz.func74, by kernel_rfl, rfl⟩⟩ hsz ((.cons hg_.credenzaref07_vars (.cons hg_.credenzaref07_at .nil)) : TabOk hY Tryz.prog Glob [(69, (credenzaref07_vars_c g_)), (75, (credenzaref07_at_c g_))]) (fun _ _ hle h => h.mono hle) (by kernel_rfl)
    trivial
    (fun z => by kernel_rfl)
def credenzaref07_rest_l2 (g_ : Rec_credenzaref07_Stmts) : (List T_api_Node) × Int × Int × (List Str) × Unit → Option (((List T_api_Node) × Int × Int × (List Str) × Unit) ⊕ ((List Str) × Unit))
  | (v_32, v_33, v_34, l_35, ()) =>
    if (decide (v_34 < v_33)) = true then
     Option.bind (getI v_32 v_34) fun x_36 =>
     Option.bind (getI x_36.L 0) fun x_37 =>
     if (x_37.Kind == 42) = true then
      Option.bind (room (l_35.length + ([([100, 101, 102, 97, 117, 108, 116] : Str)] : List Str).length)) fun _ =>
      let l_38 := l_35 ++ ([([100, 101, 102, 97, 117, 108, 116] : Str)] : List Str)
      Option.bind (cutL x_36.L 1 ((x_36.L.length : Nat) : Int)) fun s_39 =>
      Option.bind (credenzaref07_one ([58] : Str)) fun r_40 =>
      Option.bind (g_.credenzaref07_Stmts s_39) fun r_41 =>
      Option.bind (credenzaref07_join ([l_38, r_40.1, r_41.1] : List (List Str))) fun r_42 =>
      let n_43 := (IntKind.wrap .i64 (v_34 + 1))
      some (Sum.inl (v_32, v_33, n_43, r_42.1, ()))
     else
      Option.bind (getI x_36.L 0) fun x_44 =>
      Option.bind (credenzaref07_one ([99, 97, 115, 101] : Str)) fun r_45 =>
      Option.bind (g_.credenzaref07_at (re25 x_44) 0 false) fun r_46 =>
      Option.bind (credenzaref07_join ([l_35, r_45.1, r_46.1] : List (List Str))) fun r_47 =>
      Option.bind (cutL x_36.L 1 ((x_36.L.length : Nat) : Int)) fun s_48 =>
      Option.bind (credenzaref07_one ([58] : Str)) fun r_49 =>
      Option.bind (g_.credenzaref07_Stmts s_48) fun r_50 =>
      Option.bind (credenzaref07_join ([r_47.1, r_49.1, r_50.1] : List (List Str))) fun r_51 =>
      let n_52 := (IntKind.wrap .i64 (v_34 + 1))
      some (Sum.inl (v_32, v_33, n_52, r_51.1, ()))
    else
     Option.bind (credenzaref07_one ([125] : Str)) fun r_53 =>
     Option.bind (credenzaref07_join ([l_35, r_53.1] : List (List Str))) fun r_54 =>
     some (Sum.inr (r_54.1, ()))
def credenzaref07_rest_j1 (g_ : Rec_credenzaref07_Stmts) (l_25 : List T_api_Node) (out_26 : List Str) : Option ((List Str) × Unit) :=
  Option.bind (getI l_25 2) fun x_27 =>
  if (x_27.Kind == 25) = true then
   Option.bind (getI l_25 2) fun x_28 =>
   Option.bind (credenzaref07_one ([102, 105, 110, 97, 108, 108, 121] : Str)) fun r_29 =>
   Option.bind (g_.credenzaref07_Stmt (re25 x_28)) fun r_30 =>
   Option.bind (credenzaref07_join ([out_26, r_29.1, r_30.1] : List (List Str))) fun r_31 =>
   some (r_31.1, ())
  else
   some (out_26, ())
def credenzaref07_rest_b (g_ : Rec_credenzaref07_Stmts) (n : T_api_Node) : Option ((List Str) × Unit) :=
  if (n.Kind == 31) = true then
   Option.bind (g_.credenzaref07_word ([98, 114, 101, 97, 107] : Str) n.Name ([] : List T_api_Node)) fun r_1 =>
   some (r_1.1, ())
  else
   if (n.Kind == 32) = true then
    Option.bind (g_.credenzaref07_word ([99, 111, 110, 116, 105, 110, 117, 101] : Str) n.Name ([] : List T_api_Node)) fun r_2 =>
    some (r_2.1, ())
   else
    if (n.Kind == 33) = true then
     Option.bind (g_.credenzaref07_word ([114, 101, 116, 117, 114, 110] : Str) ([] : Str) n.L) fun r_3 =>
     some (r_3.1, ())
    else
     if (n.Kind == 34) = true then
      Option.bind (g_.credenzaref07_word ([116, 104, 114, 111, 119] : Str) ([] : Str) n.L) fun r_4 =>
      some (r_4.1, ())
     else
      if (n.Kind == 35) = true then
       Option.bind (getI n.L 0) fun x_5 =>
       Option.bind (credenzaref07_one ([116, 114, 121] : Str)) fun r_6 =>
       Option.bind (g_.credenzaref07_Stmt (re25 x_5)) fun r_7 =>
       Option.bind (credenzaref07_join ([r_6.1, r_7.1] : List (List Str))) fun r_8 =>
       Option.bind (getI n.L 1) fun x_9 =>
       if (x_9.Kind == 25) = true then
        Option.bind (getI n.L 1) fun x_10 =>
        fk (
         Option.bind (g_.credenzaref07_Stmt (re25 x_10)) fun r_13 =>
         Option.bind (credenzaref07_join ([r_8.1, ([([99, 97, 116, 99, 104] : Str), ([40] : Str), n.Name, ([41] : Str)] : List Str), r_13.1] : List (List Str))) fun r_14 =>
         credenzaref07_rest_j1 g_ n.L r_14.1) (
         Option.bind (g_.credenzaref07_Stmt (re25 x_10)) fun r_11 =>
         Option.bind (credenzaref07_join ([r_8.1, ([([99, 97, 116, 99, 104] : Str), ([40] : Str), n.Name, ([41] : Str)] : List Str), r_11.1] : List (List Str))) fun r_12 =>
         credenzaref07_rest_j1 g_ n.L r_12.1)
       else
        credenzaref07_rest_j1 g_ n.L r_8.1
      else
       if (n.Kind == 36) = true then
        Option.bind (getI n.L 0) fun x_15 =>
        Option.bind (g_.credenzaref07_head ([115, 119, 105, 116, 99, 104] : Str) (re25 x_15)) fun r_16 =>
        Option.bind (credenzaref07_one ([123] : Str)) fun r_17 =>
        Option.bind (credenzaref07_join ([r_16.1, r_17.1] : List (List Str))) fun r_18 =>
        Option.bind (cutL n.L 1 ((n.L.length : Nat) : Int)) fun s_19 =>
        Lp.loop (credenzaref07_rest_l2 g_) (s_19, ((s_19.length : Nat) : Int), 0, r_18.1, ())
       else
        Option.bind (getI n.L 0) fun x_20 =>
        fk (
         Option.bind (g_.credenzaref07_Stmt (re25 x_20)) fun r_23 =>
         Option.bind (credenzaref07_join ([([n.Name, ([58] : Str)] : List Str), r_23.1] : List (List Str))) fun r_24 =>
         some (r_24.1, ())) (
         Option.bind (g_.credenzaref07_Stmt (re25 x_20)) fun r_21 =>
         Option.bind (credenzaref07_join ([([n.Name, ([58] : Str)] : List Str), r_21.1] : List (List Str))) fun r_22 =>
         some (r_22.1, ()))
def credenzaref07_rest_d (g_ : Rec_credenzaref07_Stmts) : Dn.Callee Y := callee Y [] credenzaref07_rest_s credenzaref07_rest_o (fun z => credenzaref07_rest_b g_ z.1)
def credenzaref07_rest_k (g_ : Rec_credenzaref07_Stmts) : Cuts Y (ParO Y credenzaref07_rest_o) := (.join [[1, 1, 2, 2, 3, 2, 4, 2, 4, 2, 4, 2, 4, 2, 5, 2, 1, 2, 2], [2, 1, 2, 2, 3, 2, 4, 2, 4, 2, 4, 2, 4, 2, 5, 2, 1, 2, 2], [2, 2, 2, 3, 2, 4, 2, 4, 2, 4, 2, 4, 2, 5, 2, 1, 2, 2], [6, 2, 1, 2, 2], [2, 2, 2]] ⟨[(3, .sl 25), (4, .sl 9)], []⟩ (fun z => credenzaref07_rest_j1 g_ z.1 z.2.1) (.loop [[7, 5, 2, 1, 2, 3, 2, 4, 2, 4, 2, 4, 2, 4, 2, 4, 2, 5, 2, 1, 2, 2], [8, 5, 2, 1, 2, 3, 2, 4, 2, 4, 2, 4, 2, 4, 2, 4, 2, 5, 2, 1, 2, 2], [6, 2, 1, 2, 3, 2, 4, 2, 4, 2, 4, 2, 4, 2, 4, 2, 5, 2, 1, 2, 2], [2, 2, 3, 2, 4, 2, 4, 2, 4, 2, 4, 2, 4, 2, 5, 2, 1, 2, 2], [6, 2, 1, 2, 2], [2, 2, 2]] ⟨[(5, .own 0), (78, .sl 25), (79, .int .i64), (80, .int .i64)], [.arr 9]⟩ (credenzaref07_rest_l2 g_) .nil .nil))
theorem credenzaref07_rest_b_ok (g_ : Rec_credenzaref07_Stmts) (hg_ : Rec_credenzaref07_Stmts_ok g_) : COk hY Tryz.prog Glob 77 (credenzaref07_rest_d g_) :=
  fn_ok (body := (Tryz.f77.body).getD .skip) (T := [(100, (credenzaref07_word_c g_)), (70, (credenzaref07_one_c)), (42, (credenzaref07_Stmt_c g_)), (41, (credenzaref07_join_c)), (73, (credenzaref07_head_c g_)), (22, (credenzaref07_Stmts_c g_)), (75, (credenzaref07_at_c g_))]) (credenzaref07_rest_k g_) Tryz.func77 (by kernel_rfl) ⟨⟨_, Tryz.func77, by kernel_rfl, rfl⟩⟩ hsz ((.cons hg_.credenzaref07_word (.cons credenzaref07_one_ok (.cons hg_.credenzaref07_Stmt (.cons credenzaref07_join_ok (.cons hg_.credenzaref07_head (.cons hg_.credenzaref07_Stmts (.cons hg_.credenzaref07_at .nil))))))) : TabOk hY Tryz.prog Glob [(100, (credenzaref07_word_c g_)), (70, (credenzaref07_one_c)), (42, (credenzaref07_Stmt_c g_)), (41, (credenzaref07_join_c)), (73, (credenzaref07_head_c g_)), (22, (credenzaref07_Stmts_c g_)), (75, (credenzaref07_at_c g_))]) (fun _ _ hle h => h.mono hle) (by kernel_rfl)
    ⟨fun z => by kernel_rfl, ⟨fun z => by kernel_rfl, trivial, trivial⟩⟩
    (fun z => by kernel_rfl)
def credenzaref07_word_l1 (g_ : Rec_credenzaref07_Stmts) : (List T_api_Node) × Int × Int × (List Str) × Unit → Option (((List T_api_Node) × Int × Int × (List Str) × Unit) ⊕ ((List Str) × Unit))
  | (v_3, v_4, v_5, l_6, ()) =>
    if (decide (v_5 < v_4)) = true then
     Option.bind (getI v_3 v_5) fun x_7 =>
     Option.bind (g_.credenzaref07_at (re25 x_7) 0 false) fun r_8 =>
     Option.bind (credenzaref07_join ([l_6, r_8.1] : List (List Str))) fun r_9 =>
     let n_10 := (IntKind.wrap .i64 (v_5 + 1))
     some (Sum.inl (v_3, v_4, n_10, r_9.1, ()))
    else
     Option.bind (credenzaref07_one ([59] : Str)) fun r_11 =>
     Option.bind (credenzaref07_join ([l_6, r_11.1] : List (List Str))) fun r_12 =>
     some (Sum.inr (r_12.1, ()))
def credenzaref07_word_b (g_ : Rec_credenzaref07_Stmts) (s : Str) (label : Str) (l : List T_api_Node) : Option ((List Str) × Unit) :=
  Option.bind (credenzaref07_one s) fun r_1 =>
  if (!(label == ([] : Str))) = true then
   Option.bind (room (r_1.1.length + ([label] : List Str).length)) fun _ =>
   let l_2 := r_1.1 ++ ([label] : List Str)
   Lp.loop (credenzaref07_word_l1 g_) (l, ((l.length : Nat) : Int), 0, l_2, ())
  else
   Lp.loop (credenzaref07_word_l1 g_) (l, ((l.length : Nat) : Int), 0, r_1.1, ())
def credenzaref07_word_d (g_ : Rec_credenzaref07_Stmts) : Dn.Callee Y := callee Y [] credenzaref07_word_s credenzaref07_word_o (fun z => credenzaref07_word_b g_ z.1 z.2.1 z.2.2.1)
def credenzaref07_word_k (g_ : Rec_credenzaref07_Stmts) : Cuts Y (ParO Y credenzaref07_word_o) := (.loop [[7, 5, 2, 1, 2, 2, 2], [8, 5, 2, 1, 2, 2, 2], [6, 2, 1, 2, 2, 2], [2, 2, 2, 2]] ⟨[(7, .own 0), (18, .sl 25), (19, .int .i64), (20, .int .i64)], [.arr 9]⟩ (credenzaref07_word_l1 g_) .nil .nil)
theorem credenzaref07_word_b_ok (g_ : Rec_credenzaref07_Stmts) (hg_ : Rec_credenzaref07_Stmts_ok g_) : COk hY Tryz.prog Glob 100 (credenzaref07_word_d g_) :=
  fn_ok (body := (Tryz.f100.body).getD .skip) (T := [(70, (credenzaref07_one_c)), (75, (credenzaref07_at_c g_)), (41, (credenzaref07_join_c))]) (credenzaref07_word_k g_) Tryz.func100 (by kernel_rfl) ⟨⟨_, Tryz.func100, by kernel_rfl, rfl⟩⟩ hsz ((.cons credenzaref07_one_ok (.cons hg_.credenzaref07_at (.cons credenzaref07_join_ok .nil))) : TabOk hY Tryz.prog Glob [(70, (credenzaref07_one_c)), (75, (credenzaref07_at_c g_)), (41, (credenzaref07_join_c))]) (fun _ _ hle h => h.mono hle) (by kernel_rfl)
    ⟨fun z => by kernel_rfl, trivial, trivial⟩
    (fun z => by kernel_rfl)
def Rec_credenzaref07_Stmts_g : Nat → Rec_credenzaref07_Stmts
  | 0 => ⟨fun _ => none, fun _ => none, fun _ _ => none, fun _ _ _ => none, fun _ _ => none, fun _ => none, fun _ => none, fun _ => none, fun _ => none, fun _ => none, fun _ _ => none, fun _ _ => none, fun _ => none, fun _ _ _ => none⟩
  | n + 1 => ⟨credenzaref07_Stmts_b (Rec_credenzaref07_Stmts_g n), credenzaref07_Stmt_b (Rec_credenzaref07_Stmts_g n), credenzaref07_vars_b (Rec_credenzaref07_Stmts_g n), credenzaref07_at_b (Rec_credenzaref07_Stmts_g n), credenzaref07_raw_b (Rec_credenzaref07_Stmts_g n), credenzaref07_list_b (Rec_credenzaref07_Stmts_g n), credenzaref07_props_b (Rec_credenzaref07_Stmts_g n), credenzaref07_function_b (Rec_credenzaref07_Stmts_g n), credenzaref07_braces_b (Rec_credenzaref07_Stmts_g n), credenzaref07_bare_b (Rec_credenzaref07_Stmts_g n), credenzaref07_head_b (Rec_credenzaref07_Stmts_g n), credenzaref07_maybe_b (Rec_credenzaref07_Stmts_g n), credenzaref07_rest_b (Rec_credenzaref07_Stmts_g n), credenzaref07_word_b (Rec_credenzaref07_Stmts_g n)⟩
theorem Rec_credenzaref07_Stmts_all : ∀ n, Rec_credenzaref07_Stmts_ok (Rec_credenzaref07_Stmts_g n)
  | 0 => ⟨COk.none ⟨⟨_, Tryz.func22, by kernel_rfl, rfl⟩⟩, COk.none ⟨⟨_, Tryz.func42, by kernel_rfl, rfl⟩⟩, COk.none ⟨⟨_, Tryz.func69, by kernel_rfl, rfl⟩⟩, COk.none ⟨⟨_, Tryz.func75, by kernel_rfl, rfl⟩⟩, COk.none ⟨⟨_, Tryz.func99, by kernel_rfl, rfl⟩⟩, COk.none ⟨⟨_, Tryz.func115, by kernel_rfl, rfl⟩⟩, COk.none ⟨⟨_, Tryz.func116, by kernel_rfl, rfl⟩⟩, COk.none ⟨⟨_, Tryz.func76, by kernel_rfl, rfl⟩⟩, COk.none ⟨⟨_, Tryz.func72, by kernel_rfl, rfl⟩⟩, COk.none ⟨⟨_, Tryz.func71, by kernel_rfl, rfl⟩⟩, COk.none ⟨⟨_, Tryz.func73, by kernel_rfl, rfl⟩⟩, COk.none ⟨⟨_, Tryz.func74, by kernel_rfl, rfl⟩⟩, COk.none ⟨⟨_, Tryz.func77, by kernel_rfl, rfl⟩⟩, COk.none ⟨⟨_, Tryz.func100, by kernel_rfl, rfl⟩⟩⟩
  | n + 1 => ⟨credenzaref07_Stmts_b_ok _ (Rec_credenzaref07_Stmts_all n), credenzaref07_Stmt_b_ok _ (Rec_credenzaref07_Stmts_all n), credenzaref07_vars_b_ok _ (Rec_credenzaref07_Stmts_all n), credenzaref07_at_b_ok _ (Rec_credenzaref07_Stmts_all n), credenzaref07_raw_b_ok _ (Rec_credenzaref07_Stmts_all n), credenzaref07_list_b_ok _ (Rec_credenzaref07_Stmts_all n), credenzaref07_props_b_ok _ (Rec_credenzaref07_Stmts_all n), credenzaref07_function_b_ok _ (Rec_credenzaref07_Stmts_all n), credenzaref07_braces_b_ok _ (Rec_credenzaref07_Stmts_all n), credenzaref07_bare_b_ok _ (Rec_credenzaref07_Stmts_all n), credenzaref07_head_b_ok _ (Rec_credenzaref07_Stmts_all n), credenzaref07_maybe_b_ok _ (Rec_credenzaref07_Stmts_all n), credenzaref07_rest_b_ok _ (Rec_credenzaref07_Stmts_all n), credenzaref07_word_b_ok _ (Rec_credenzaref07_Stmts_all n)⟩
def credenzaref07_Stmts : (List T_api_Node) → Option ((List Str) × Unit) := (Rec_credenzaref07_Stmts_g Lp.big).credenzaref07_Stmts
theorem credenzaref07_Stmts_ok : COk hY Tryz.prog Glob 22 (credenzaref07_Stmts_c (Rec_credenzaref07_Stmts_g Lp.big)) := (Rec_credenzaref07_Stmts_all Lp.big).credenzaref07_Stmts
def credenzaref07_Stmt : T_api_Node → Option ((List Str) × Unit) := (Rec_credenzaref07_Stmts_g Lp.big).credenzaref07_Stmt
theorem credenzaref07_Stmt_ok : COk hY Tryz.prog Glob 42 (credenzaref07_Stmt_c (Rec_credenzaref07_Stmts_g Lp.big)) := (Rec_credenzaref07_Stmts_all Lp.big).credenzaref07_Stmt
def credenzaref07_vars : T_api_Node → Bool → Option ((List Str) × Unit) := (Rec_credenzaref07_Stmts_g Lp.big).credenzaref07_vars
theorem credenzaref07_vars_ok : COk hY Tryz.prog Glob 69 (credenzaref07_vars_c (Rec_credenzaref07_Stmts_g Lp.big)) := (Rec_credenzaref07_Stmts_all Lp.big).credenzaref07_vars
def credenzaref07_at : T_api_Node → Int → Bool → Option ((List Str) × Unit) := (Rec_credenzaref07_Stmts_g Lp.big).credenzaref07_at
theorem credenzaref07_at_ok : COk hY Tryz.prog Glob 75 (credenzaref07_at_c (Rec_credenzaref07_Stmts_g Lp.big)) := (Rec_credenzaref07_Stmts_all Lp.big).credenzaref07_at
def credenzaref07_raw : T_api_Node → Bool → Option ((List Str) × Unit) := (Rec_credenzaref07_Stmts_g Lp.big).credenzaref07_raw
theorem credenzaref07_raw_ok : COk hY Tryz.prog Glob 99 (credenzaref07_raw_c (Rec_credenzaref07_Stmts_g Lp.big)) := (Rec_credenzaref07_Stmts_all Lp.big).credenzaref07_raw
def credenzaref07_list : (List T_api_Node) → Option ((List Str) × Unit) := (Rec_credenzaref07_Stmts_g Lp.big).credenzaref07_list
theorem credenzaref07_list_ok : COk hY Tryz.prog Glob 115 (credenzaref07_list_c (Rec_credenzaref07_Stmts_g Lp.big)) := (Rec_credenzaref07_Stmts_all Lp.big).credenzaref07_list
def credenzaref07_props : T_api_Node → Option ((List Str) × Unit) := (Rec_credenzaref07_Stmts_g Lp.big).credenzaref07_props
theorem credenzaref07_props_ok : COk hY Tryz.prog Glob 116 (credenzaref07_props_c (Rec_credenzaref07_Stmts_g Lp.big)) := (Rec_credenzaref07_Stmts_all Lp.big).credenzaref07_props
def credenzaref07_function : T_api_Node → Option ((List Str) × Unit) := (Rec_credenzaref07_Stmts_g Lp.big).credenzaref07_function
theorem credenzaref07_function_ok : COk hY Tryz.prog Glob 76 (credenzaref07_function_c (Rec_credenzaref07_Stmts_g Lp.big)) := (Rec_credenzaref07_Stmts_all Lp.big).credenzaref07_function
def credenzaref07_braces : (List T_api_Node) → Option ((List Str) × Unit) := (Rec_credenzaref07_Stmts_g Lp.big).credenzaref07_braces
theorem credenzaref07_braces_ok : COk hY Tryz.prog Glob 72 (credenzaref07_braces_c (Rec_credenzaref07_Stmts_g Lp.big)) := (Rec_credenzaref07_Stmts_all Lp.big).credenzaref07_braces
def credenzaref07_bare : T_api_Node → Option ((List Str) × Unit) := (Rec_credenzaref07_Stmts_g Lp.big).credenzaref07_bare
theorem credenzaref07_bare_ok : COk hY Tryz.prog Glob 71 (credenzaref07_bare_c (Rec_credenzaref07_Stmts_g Lp.big)) := (Rec_credenzaref07_Stmts_all Lp.big).credenzaref07_bare
def credenzaref07_head : Str → T_api_Node → Option ((List Str) × Unit) := (Rec_credenzaref07_Stmts_g Lp.big).credenzaref07_head
theorem credenzaref07_head_ok : COk hY Tryz.prog Glob 73 (credenzaref07_head_c (Rec_credenzaref07_Stmts_g Lp.big)) := (Rec_credenzaref07_Stmts_all Lp.big).credenzaref07_head
def credenzaref07_maybe : T_api_Node → Bool → Option ((List Str) × Unit) := (Rec_credenzaref07_Stmts_g Lp.big).credenzaref07_maybe
theorem credenzaref07_maybe_ok : COk hY Tryz.prog Glob 74 (credenzaref07_maybe_c (Rec_credenzaref07_Stmts_g Lp.big)) := (Rec_credenzaref07_Stmts_all Lp.big).credenzaref07_maybe
def credenzaref07_rest : T_api_Node → Option ((List Str) × Unit) := (Rec_credenzaref07_Stmts_g Lp.big).credenzaref07_rest
theorem credenzaref07_rest_ok : COk hY Tryz.prog Glob 77 (credenzaref07_rest_c (Rec_credenzaref07_Stmts_g Lp.big)) := (Rec_credenzaref07_Stmts_all Lp.big).credenzaref07_rest
def credenzaref07_word : Str → Str → (List T_api_Node) → Option ((List Str) × Unit) := (Rec_credenzaref07_Stmts_g Lp.big).credenzaref07_word
theorem credenzaref07_word_ok : COk hY Tryz.prog Glob 100 (credenzaref07_word_c (Rec_credenzaref07_Stmts_g Lp.big)) := (Rec_credenzaref07_Stmts_all Lp.big).credenzaref07_word
def credenzaref07_Text_l1 : Str × (List Str) × Int × Int × Unit → Option ((Str × (List Str) × Int × Int × Unit) ⊕ (Str × Int × Unit))
  | (s_4, v_5, v_6, v_7, ()) =>
    if (decide (v_7 < v_6)) = true then
     Option.bind (getI v_5 v_7) fun x_8 =>
     if (decide (v_7 > 0)) = true then
      Option.bind (catS s_4 ([32] : Str)) fun s_9 =>
      Option.bind (catS s_9 x_8) fun s_10 =>
      let b_11 := (decide (((s_10.length : Nat) : Int) > 4096))
      if b_11 = true then
       some (Sum.inr (([] : Str), 2, ()))
      else
       let n_12 := (IntKind.wrap .i64 (v_7 + 1))
       some (Sum.inl (s_10, v_5, v_6, n_12, ()))
     else
      Option.bind (catS s_4 x_8) fun s_13 =>
      let b_14 := (decide (((s_13.length : Nat) : Int) > 4096))
      if b_14 = true then
       some (Sum.inr (([] : Str), 2, ()))
      else
       let n_15 := (IntKind.wrap .i64 (v_7 + 1))
       some (Sum.inl (s_13, v_5, v_6, n_15, ()))
    else
     some (Sum.inr (s_4, 0, ()))
def credenzaref07_Text (n : T_api_Node) : Option (Str × Int × Unit) :=
  Option.bind (credenzaref07_Check (re25 n)) fun r_1 =>
  if (r_1.1 != 0) = true then
   some (([] : Str), r_1.1, ())
  else
   Option.bind (credenzaref07_Stmts n.L) fun r_2 =>
   let n_3 := ((r_2.1.length : Nat) : Int)
   Lp.loop credenzaref07_Text_l1 (([] : Str), r_2.1, n_3, 0, ())
def credenzaref07_Text_s : Shape := ⟨[(0, .st 25)], []⟩
def credenzaref07_Text_o : List OutP := [⟨false, .tup [.str, .int .i64], []⟩]
def credenzaref07_Text_c : Dn.Callee Y := callee Y [] credenzaref07_Text_s credenzaref07_Text_o (fun z => credenzaref07_Text z.1)
def credenzaref07_Text_k : Cuts Y (ParO Y credenzaref07_Text_o) := (.loop [[7, 5, 2, 1, 2, 2, 2], [8, 5, 2, 1, 2, 2, 2], [6, 2, 1, 2, 2, 2], [2, 2, 2, 2]] ⟨[(5, .str), (15, .sl 9), (16, .int .i64), (17, .int .i64)], []⟩ (credenzaref07_Text_l1) .nil .nil)
theorem credenzaref07_Text_ok : COk hY Tryz.prog Glob 9 (credenzaref07_Text_c) :=
  fn_ok (body := (Tryz.f9.body).getD .skip) (T := [(7, (credenzaref07_Check_c)), (22, (credenzaref07_Stmts_c (Rec_credenzaref07_Stmts_g Lp.big)))]) (credenzaref07_Text_k) Tryz.func9 (by kernel_rfl) ⟨⟨_, Tryz.func9, by kernel_rfl, rfl⟩⟩ hsz ((.cons credenzaref07_Check_ok (.cons credenzaref07_Stmts_ok .nil)) : TabOk hY Tryz.prog Glob [(7, (credenzaref07_Check_c)), (22, (credenzaref07_Stmts_c (Rec_credenzaref07_Stmts_g Lp.big)))]) (fun _ _ hle h => h.mono hle) (by kernel_rfl)
    ⟨fun z => by kernel_rfl, trivial, trivial⟩
    (fun z => by kernel_rfl)
def credenzalaw07_lit (n : Int) : Option (T_api_Node × Unit) :=
  some ((⟨1, ([] : Str), n, ([] : Str), ([] : List Str), ([] : List T_api_Node)⟩ : T_api_Node), ())
def credenzalaw07_lit_s : Shape := ⟨[(0, .int .i64)], []⟩
def credenzalaw07_lit_o : List OutP := [⟨false, .st 25, []⟩]
def credenzalaw07_lit_c : Dn.Callee Y := callee Y [] credenzalaw07_lit_s credenzalaw07_lit_o (fun z => credenzalaw07_lit z.1)
def credenzalaw07_lit_k : Cuts Y (ParO Y credenzalaw07_lit_o) := .nil
theorem credenzalaw07_lit_ok : COk hY Tryz.prog Glob 11 (credenzalaw07_lit_c) :=
  fn_ok (body := (Tryz.f11.body).getD .skip) (T := []) (credenzalaw07_lit_k) Tryz.func11 (by kernel_rfl) ⟨⟨_, Tryz.func11, by kernel_rfl, rfl⟩⟩ hsz .nil (fun _ _ hle h => h.mono hle) (by kernel_rfl)
    trivial
    (fun z => by kernel_rfl)
def credenzalaw07_program (x : T_api_Node) : Option (T_api_Node × Unit) :=
  some ((⟨41, ([] : Str), 0, ([] : Str), ([] : List Str), ([(⟨24, ([] : Str), 0, ([] : Str), ([] : List Str), ([(re25 x)] : List T_api_Node)⟩ : T_api_Node)] : List T_api_Node)⟩ : T_api_Node), ())
def credenzalaw07_program_s : Shape := ⟨[(0, .st 25)], []⟩
def credenzalaw07_program_o : List OutP := [⟨false, .st 25, []⟩]
def credenzalaw07_program_c : Dn.Callee Y := callee Y [] credenzalaw07_program_s credenzalaw07_program_o (fun z => credenzalaw07_program z.1)
def credenzalaw07_program_k : Cuts Y (ParO Y credenzalaw07_program_o) := .nil
theorem credenzalaw07_program_ok : COk hY Tryz.prog Glob 10 (credenzalaw07_program_c) :=
  fn_ok (body := (Tryz.f10.body).getD .skip) (T := []) (credenzalaw07_program_k) Tryz.func10 (by kernel_rfl) ⟨⟨_, Tryz.func10, by kernel_rfl, rfl⟩⟩ hsz .nil (fun _ _ hle h => h.mono hle) (by kernel_rfl)
    trivial
    (fun z => by kernel_rfl)
structure Rec_tree_Size where
  tree_Size : T_api_Node → Option (Int × Unit)
def tree_Size_s : Shape := ⟨[(0, .st 25)], []⟩
def tree_Size_o : List OutP := [⟨false, .int .i64, []⟩]
def tree_Size_c (g_ : Rec_tree_Size) : Dn.Callee Y := callee Y [] tree_Size_s tree_Size_o (fun z => g_.tree_Size z.1)
structure Rec_tree_Size_ok (g_ : Rec_tree_Size) : Prop where
  tree_Size : COk hY Tryz.prog Glob 13 (tree_Size_c g_)
def tree_Size_l1 (g_ : Rec_tree_Size) : Int × (List T_api_Node) × Int × Int × Unit → Option ((Int × (List T_api_Node) × Int × Int × Unit) ⊕ (Int × Unit))
  | (many_1, v_2, v_3, v_4, ()) =>
    if (decide (v_4 < v_3)) = true then
     Option.bind (getI v_2 v_4) fun x_5 =>
     Option.bind (g_.tree_Size (re25 x_5)) fun r_6 =>
     let n_7 := (IntKind.wrap .i64 (many_1 + r_6.1))
     let n_8 := (IntKind.wrap .i64 (v_4 + 1))
     some (Sum.inl (n_7, v_2, v_3, n_8, ()))
    else
     some (Sum.inr (many_1, ()))
def tree_Size_b (g_ : Rec_tree_Size) (n : T_api_Node) : Option (Int × Unit) :=
  Lp.loop (tree_Size_l1 g_) (1, n.L, ((n.L.length : Nat) : Int), 0, ())
def tree_Size_d (g_ : Rec_tree_Size) : Dn.Callee Y := callee Y [] tree_Size_s tree_Size_o (fun z => tree_Size_b g_ z.1)
def tree_Size_k (g_ : Rec_tree_Size) : Cuts Y (ParO Y tree_Size_o) := (.loop [[7, 5, 2, 1, 2, 2], [8, 5, 2, 1, 2, 2], [6, 2, 1, 2, 2], [2, 2, 2]] ⟨[(3, .int .i64), (7, .sl 25), (8, .int .i64), (9, .int .i64)], []⟩ (tree_Size_l1 g_) .nil .nil)
theorem tree_Size_b_ok (g_ : Rec_tree_Size) (hg_ : Rec_tree_Size_ok g_) : COk hY Tryz.prog Glob 13 (tree_Size_d g_) :=
  fn_ok (body := (Tryz.f13.body).getD .skip) (T := [(13, (tree_Size_c g_))]) (tree_Size_k g_) Tryz.func13 (by kernel_rfl) ⟨⟨_, Tryz.func13, by kernel_rfl, rfl⟩⟩ hsz ((.cons hg_.tree_Size .nil) : TabOk hY Tryz.prog Glob [(13, (tree_Size_c g_))]) (fun _ _ hle h => h.mono hle) (by kernel_rfl)
    ⟨fun z => by kernel_rfl, trivial, trivial⟩
    (fun z => by kernel_rfl)
def Rec_tree_Size_g : Nat → Rec_tree_Size
  | 0 => ⟨fun _ => none⟩
  | n + 1 => ⟨tree_Size_b (Rec_tree_Size_g n)⟩
theorem Rec_tree_Size_all : ∀ n, Rec_tree_Size_ok (Rec_tree_Size_g n)
  | 0 => ⟨COk.none ⟨⟨_, Tryz.func13, by kernel_rfl, rfl⟩⟩⟩
  | n + 1 => ⟨tree_Size_b_ok _ (Rec_tree_Size_all n)⟩
def tree_Size : T_api_Node → Option (Int × Unit) := (Rec_tree_Size_g Lp.big).tree_Size
theorem tree_Size_ok : COk hY Tryz.prog Glob 13 (tree_Size_c (Rec_tree_Size_g Lp.big)) := (Rec_tree_Size_all Lp.big).tree_Size
def slices_Equal_l1 : (List Str) × (List Str) × Int × Int × Unit → Option (((List Str) × (List Str) × Int × Int × Unit) ⊕ (Bool × Unit))
  | (s1_2, s2_3, v_4, v_5, ()) =>
    if (decide (v_5 < v_4)) = true then
     Option.bind (getI s1_2 v_5) fun x_6 =>
     Option.bind (getI s2_3 v_5) fun x_7 =>
     if (!(x_6 == x_7)) = true then
      some (Sum.inr (false, ()))
     else
      let n_8 := (IntKind.wrap .i64 (v_5 + 1))
      some (Sum.inl (s1_2, s2_3, v_4, n_8, ()))
    else
     some (Sum.inr (true, ()))
def slices_Equal (s1 : List Str) (s2 : List Str) : Option (Bool × Unit) :=
  let b_1 := (((s1.length : Nat) : Int) != ((s2.length : Nat) : Int))
  if b_1 = true then
   some (false, ())
  else
   Lp.loop slices_Equal_l1 (s1, s2, ((s1.length : Nat) : Int), 0, ())
def slices_Equal_s : Shape := ⟨[(0, .sl 9), (1, .sl 9)], []⟩
def slices_Equal_o : List OutP := [⟨false, .bool, []⟩]
def slices_Equal_c : Dn.Callee Y := callee Y [] slices_Equal_s slices_Equal_o (fun z => slices_Equal z.1 z.2.1)
def slices_Equal_k : Cuts Y (ParO Y slices_Equal_o) := (.loop [[7, 5, 2, 1, 2, 2], [8, 5, 2, 1, 2, 2], [6, 2, 1, 2, 2], [2, 2, 2]] ⟨[(0, .sl 9), (1, .sl 9), (12, .int .i64), (13, .int .i64)], []⟩ (slices_Equal_l1) .nil .nil)
theorem slices_Equal_ok : COk hY Tryz.prog Glob 23 (slices_Equal_c) :=
  fn_ok (body := (Tryz.f23.body).getD .skip) (T := []) (slices_Equal_k) Tryz.func23 (by kernel_rfl) ⟨⟨_, Tryz.func23, by kernel_rfl, rfl⟩⟩ hsz .nil (fun _ _ hle h => h.mono hle) (by kernel_rfl)
    ⟨fun z => by kernel_rfl, trivial, trivial⟩
    (fun z => by kernel_rfl)
structure Rec_tree_Same where
  tree_Same : T_api_Node → T_api_Node → Option (Bool × Unit)
  slices_EqualFunc : (List T_api_Node) → (List T_api_Node) → Option (Bool × Unit)
def tree_Same_s : Shape := ⟨[(0, .st 25), (1, .st 25)], []⟩
def tree_Same_o : List OutP := [⟨false, .bool, []⟩]
def tree_Same_c (g_ : Rec_tree_Same) : Dn.Callee Y := callee Y [] tree_Same_s tree_Same_o (fun z => g_.tree_Same z.1 z.2.1)
def slices_EqualFunc_s : Shape := ⟨[(0, .sl 25), (1, .sl 25), (2, .fn 15 [])], []⟩
def slices_EqualFunc_o : List OutP := [⟨false, .bool, []⟩]
def slices_EqualFunc_c (g_ : Rec_tree_Same) : Dn.Callee Y := callee Y [] slices_EqualFunc_s slices_EqualFunc_o (fun z => g_.slices_EqualFunc z.1 z.2.1)
structure Rec_tree_Same_ok (g_ : Rec_tree_Same) : Prop where
  tree_Same : COk hY Tryz.prog Glob 15 (tree_Same_c g_)
  slices_EqualFunc : COk hY Tryz.prog Glob 24 (slices_EqualFunc_c g_)
def tree_Same_b (g_ : Rec_tree_Same) (a : T_api_Node) (b : T_api_Node) : Option (Bool × Unit) :=
  let b_1 := ((a.Kind == b.Kind) && (a.Name == b.Name))
  let b_2 := ((b_1 && (a.Num == b.Num)) && (a.Text == b.Text))
  if b_2 = true then
   Option.bind (slices_Equal a.Names b.Names) fun r_3 =>
   if r_3.1 = true then
    Option.bind (g_.slices_EqualFunc a.L b.L) fun r_4 =>
    some (r_4.1, ())
   else
    some (false, ())
  else
   some (false, ())
def tree_Same_d (g_ : Rec_tree_Same) : Dn.Callee Y := callee Y [] tree_Same_s tree_Same_o (fun z => tree_Same_b g_ z.1 z.2.1)
def tree_Same_k (g_ : Rec_tree_Same) : Cuts Y (ParO Y tree_Same_o) := .nil
theorem tree_Same_b_ok (g_ : Rec_tree_Same) (hg_ : Rec_tree_Same_ok g_) : COk hY Tryz.prog Glob 15 (tree_Same_d g_) :=
  fn_ok (body := (Tryz.f15.body).getD .skip) (T := [(23, (slices_Equal_c)), (24, (slices_EqualFunc_c g_))]) (tree_Same_k g_) Tryz.func15 (by kernel_rfl) ⟨⟨_, Tryz.func15, by kernel_rfl, rfl⟩⟩ hsz ((.cons slices_Equal_ok (.cons hg_.slices_EqualFunc .nil)) : TabOk hY Tryz.prog Glob [(23, (slices_Equal_c)), (24, (slices_EqualFunc_c g_))]) (fun _ _ hle h => h.mono hle) (by kernel_rfl)
    trivial
    (fun z => by kernel_rfl)
def slices_EqualFunc_l1 (g_ : Rec_tree_Same) : (List T_api_Node) × (List T_api_Node) × Int × Int × Unit → Option (((List T_api_Node) × (List T_api_Node) × Int × Int × Unit) ⊕ (Bool × Unit))
  | (s2_2, v_3, v_4, v_5, ()) =>
    if (decide (v_5 < v_4)) = true then
     Option.bind (getI v_3 v_5) fun x_6 =>
     Option.bind (getI s2_2 v_5) fun x_7 =>
     Option.bind (g_.tree_Same (re25 x_6) (re25 x_7)) fun r_8 =>
     if (!r_8.1) = true then
      some (Sum.inr (false, ()))
     else
      let n_9 := (IntKind.wrap .i64 (v_5 + 1))
      some (Sum.inl (s2_2, v_3, v_4, n_9, ()))
    else
     some (Sum.inr (true, ()))
def slices_EqualFunc_b (g_ : Rec_tree_Same) (s1 : List T_api_Node) (s2 : List T_api_Node) : Option (Bool × Unit) :=
  let b_1 := (((s1.length : Nat) : Int) != ((s2.length : Nat) : Int))
  if b_1 = true then
   some (false, ())
  else
   Lp.loop (slices_EqualFunc_l1 g_) (s2, s1, ((s1.length : Nat) : Int), 0, ())
def slices_EqualFunc_d (g_ : Rec_tree_Same) : Dn.Callee Y := callee Y [] slices_EqualFunc_s slices_EqualFunc_o (fun z => slices_EqualFunc_b g_ z.1 z.2.1)
def slices_EqualFunc_k (g_ : Rec_tree_Same) : Cuts Y (ParO Y slices_EqualFunc_o) := (.loop [[7, 5, 2, 1, 2, 2], [8, 5, 2, 1, 2, 2], [6, 2, 1, 2, 2], [2, 2, 2]] ⟨[(1, .sl 25), (2, .fn 15 []), (15, .sl 25), (16, .int .i64), (17, .int .i64)], []⟩ (slices_EqualFunc_l1 g_) .nil .nil)
theorem slices_EqualFunc_b_ok (g_ : Rec_tree_Same) (hg_ : Rec_tree_Same_ok g_) : COk hY Tryz.prog Glob 24 (slices_EqualFunc_d g_) :=
  fn_ok (body := (Tryz.f24.body).getD .skip) (T := [(15, (tree_Same_c g_))]) (slices_EqualFunc_k g_) Tryz.func24 (by kernel_rfl) ⟨⟨_, Tryz.func24, by kernel_rfl, rfl⟩⟩ hsz ((.cons hg_.tree_Same .nil) : TabOk hY Tryz.prog Glob [(15, (tree_Same_c g_))]) (fun _ _ hle h => h.mono hle) (by kernel_rfl)
    ⟨fun z => by kernel_rfl, trivial, trivial⟩
    (fun z => by kernel_rfl)
def Rec_tree_Same_g : Nat → Rec_tree_Same
  | 0 => ⟨fun _ _ => none, fun _ _ => none⟩
  | n + 1 => ⟨tree_Same_b (Rec_tree_Same_g n), slices_EqualFunc_b (Rec_tree_Same_g n)⟩
theorem Rec_tree_Same_all : ∀ n, Rec_tree_Same_ok (Rec_tree_Same_g n)
  | 0 => ⟨COk.none ⟨⟨_, Tryz.func15, by kernel_rfl, rfl⟩⟩, COk.none ⟨⟨_, Tryz.func24, by kernel_rfl, rfl⟩⟩⟩
  | n + 1 => ⟨tree_Same_b_ok _ (Rec_tree_Same_all n), slices_EqualFunc_b_ok _ (Rec_tree_Same_all n)⟩
def tree_Same : T_api_Node → T_api_Node → Option (Bool × Unit) := (Rec_tree_Same_g Lp.big).tree_Same
theorem tree_Same_ok : COk hY Tryz.prog Glob 15 (tree_Same_c (Rec_tree_Same_g Lp.big)) := (Rec_tree_Same_all Lp.big).tree_Same
def slices_EqualFunc : (List T_api_Node) → (List T_api_Node) → Option (Bool × Unit) := (Rec_tree_Same_g Lp.big).slices_EqualFunc
theorem slices_EqualFunc_ok : COk hY Tryz.prog Glob 24 (slices_EqualFunc_c (Rec_tree_Same_g Lp.big)) := (Rec_tree_Same_all Lp.big).slices_EqualFunc
def credenzalaw07_live : Option (Bool × Unit) :=
  Option.bind (credenzalaw07_lit 1) fun r_1 =>
  Option.bind (credenzalaw07_lit 2) fun r_2 =>
  Option.bind (credenzalaw07_program (⟨17, ([42] : Str), 0, ([] : Str), ([] : List Str), ([(⟨17, ([43] : Str), 0, ([] : Str), ([] : List Str), ([(re25 r_1.1), (re25 r_2.1)] : List T_api_Node)⟩ : T_api_Node), (⟨3, ([97] : Str), 0, ([] : Str), ([] : List Str), ([] : List T_api_Node)⟩ : T_api_Node)] : List T_api_Node)⟩ : T_api_Node)) fun r_3 =>
  Option.bind (tree_Text (re25 r_3.1)) fun r_4 =>
  Option.bind (credenzalaw07_program (⟨14, ([] : Str), 0, ([] : Str), ([] : List Str), ([(⟨13, ([] : Str), 0, ([] : Str), ([] : List Str), ([(⟨3, ([102] : Str), 0, ([] : Str), ([] : List Str), ([] : List T_api_Node)⟩ : T_api_Node)] : List T_api_Node)⟩ : T_api_Node)] : List T_api_Node)⟩ : T_api_Node)) fun r_5 =>
  Option.bind (tree_Text (re25 r_5.1)) fun r_6 =>
  let b_7 := (r_4.1 == ([40, 32, 49, 32, 43, 32, 50, 32, 41, 32, 42, 32, 97, 32, 59] : Str))
  let b_8 := ((b_7 && (r_4.2.1 == 0)) && (r_6.1 == ([110, 101, 119, 32, 40, 32, 102, 32, 40, 32, 41, 32, 41, 32, 40, 32, 41, 32, 59] : Str)))
  if (b_8 && (r_6.2.1 == 0)) = true then
   Option.bind (tree_Check (⟨0, ([] : Str), 0, ([] : Str), ([] : List Str), ([] : List T_api_Node)⟩ : T_api_Node)) fun r_9 =>
   if (r_9.1 == 70) = true then
    Option.bind (tree_IsTarget (⟨3, ([102] : Str), 0, ([] : Str), ([] : List Str), ([] : List T_api_Node)⟩ : T_api_Node)) fun r_10 =>
    if r_10.1 = true then
     Option.bind (credenzalaw07_program (⟨3, ([102] : Str), 0, ([] : Str), ([] : List Str), ([] : List T_api_Node)⟩ : T_api_Node)) fun r_11 =>
     Option.bind (tree_Size (re25 r_11.1)) fun r_12 =>
     if (r_12.1 == 3) = true then
      Option.bind (credenzalaw07_program (⟨3, ([102] : Str), 0, ([] : Str), ([] : List Str), ([] : List T_api_Node)⟩ : T_api_Node)) fun r_13 =>
      Option.bind (tree_Deep (re25 r_13.1)) fun r_14 =>
      if (r_14.1 == 3) = true then
       Option.bind (tree_Same (⟨3, ([102] : Str), 0, ([] : Str), ([] : List Str), ([] : List T_api_Node)⟩ : T_api_Node) (⟨3, ([102] : Str), 0, ([] : Str), ([] : List Str), ([] : List T_api_Node)⟩ : T_api_Node)) fun r_15 =>
       some (r_15.1, ())
      else
       some (false, ())
     else
      some (false, ())
    else
     some (false, ())
   else
    some (false, ())
  else
   some (false, ())
def credenzalaw07_live_s : Shape := ⟨[], []⟩
def credenzalaw07_live_o : List OutP := [⟨false, .bool, []⟩]
def credenzalaw07_live_c : Dn.Callee Y := callee Y [] credenzalaw07_live_s credenzalaw07_live_o (fun z => credenzalaw07_live)
def credenzalaw07_live_k : Cuts Y (ParO Y credenzalaw07_live_o) := .nil
theorem credenzalaw07_live_ok : COk hY Tryz.prog Glob 5 (credenzalaw07_live_c) :=
  fn_ok (body := (Tryz.f5.body).getD .skip) (T := [(11, (credenzalaw07_lit_c)), (10, (credenzalaw07_program_c)), (8, (tree_Text_c)), (6, (tree_Check_c)), (12, (tree_IsTarget_c)), (13, (tree_Size_c (Rec_tree_Size_g Lp.big))), (14, (tree_Deep_c (Rec_tree_Deep_g Lp.big))), (15, (tree_Same_c (Rec_tree_Same_g Lp.big)))]) (credenzalaw07_live_k) Tryz.func5 (by kernel_rfl) ⟨⟨_, Tryz.func5, by kernel_rfl, rfl⟩⟩ hsz ((.cons credenzalaw07_lit_ok (.cons credenzalaw07_program_ok (.cons tree_Text_ok (.cons tree_Check_ok (.cons tree_IsTarget_ok (.cons tree_Size_ok (.cons tree_Deep_ok (.cons tree_Same_ok .nil)))))))) : TabOk hY Tryz.prog Glob [(11, (credenzalaw07_lit_c)), (10, (credenzalaw07_program_c)), (8, (tree_Text_c)), (6, (tree_Check_c)), (12, (tree_IsTarget_c)), (13, (tree_Size_c (Rec_tree_Size_g Lp.big))), (14, (tree_Deep_c (Rec_tree_Deep_g Lp.big))), (15, (tree_Same_c (Rec_tree_Same_g Lp.big)))]) (fun _ _ hle h => h.mono hle) (by kernel_rfl)
    trivial
    (fun z => by kernel_rfl)
def credenzalaw07_TreeTexts (n : T_api_Node) : Option (Bool × Unit) :=
  Option.bind (tree_Text (re25 n)) fun r_1 =>
  Option.bind (credenzaref07_Text (re25 n)) fun r_2 =>
  Option.bind (credenzalaw07_live) fun r_3 =>
  let b_4 := ((r_3.1 && (r_1.1 == r_2.1)) && (r_1.2.1 == r_2.2.1))
  some (b_4, ())
def credenzalaw07_TreeTexts_s : Shape := ⟨[(0, .st 25)], []⟩
def credenzalaw07_TreeTexts_o : List OutP := [⟨false, .bool, []⟩]
def credenzalaw07_TreeTexts_c : Dn.Callee Y := callee Y [] credenzalaw07_TreeTexts_s credenzalaw07_TreeTexts_o (fun z => credenzalaw07_TreeTexts z.1)
def credenzalaw07_TreeTexts_k : Cuts Y (ParO Y credenzalaw07_TreeTexts_o) := .nil
theorem credenzalaw07_TreeTexts_ok : COk hY Tryz.prog Glob 4 (credenzalaw07_TreeTexts_c) :=
  fn_ok (body := (Tryz.f4.body).getD .skip) (T := [(8, (tree_Text_c)), (9, (credenzaref07_Text_c)), (5, (credenzalaw07_live_c))]) (credenzalaw07_TreeTexts_k) Tryz.func4 (by kernel_rfl) ⟨⟨_, Tryz.func4, by kernel_rfl, rfl⟩⟩ hsz ((.cons tree_Text_ok (.cons credenzaref07_Text_ok (.cons credenzalaw07_live_ok .nil))) : TabOk hY Tryz.prog Glob [(8, (tree_Text_c)), (9, (credenzaref07_Text_c)), (5, (credenzalaw07_live_c))]) (fun _ _ hle h => h.mono hle) (by kernel_rfl)
    trivial
    (fun z => by kernel_rfl)
def credenzalaw07_TreeChecks (n : T_api_Node) : Option (Bool × Unit) :=
  Option.bind (credenzalaw07_live) fun r_1 =>
  if r_1.1 = true then
   Option.bind (tree_Check (re25 n)) fun r_2 =>
   Option.bind (credenzaref07_Check (re25 n)) fun r_3 =>
   some ((r_2.1 == r_3.1), ())
  else
   some (false, ())
def credenzalaw07_TreeChecks_s : Shape := ⟨[(0, .st 25)], []⟩
def credenzalaw07_TreeChecks_o : List OutP := [⟨false, .bool, []⟩]
def credenzalaw07_TreeChecks_c : Dn.Callee Y := callee Y [] credenzalaw07_TreeChecks_s credenzalaw07_TreeChecks_o (fun z => credenzalaw07_TreeChecks z.1)
def credenzalaw07_TreeChecks_k : Cuts Y (ParO Y credenzalaw07_TreeChecks_o) := .nil
theorem credenzalaw07_TreeChecks_ok : COk hY Tryz.prog Glob 3 (credenzalaw07_TreeChecks_c) :=
  fn_ok (body := (Tryz.f3.body).getD .skip) (T := [(5, (credenzalaw07_live_c)), (6, (tree_Check_c)), (7, (credenzaref07_Check_c))]) (credenzalaw07_TreeChecks_k) Tryz.func3 (by kernel_rfl) ⟨⟨_, Tryz.func3, by kernel_rfl, rfl⟩⟩ hsz ((.cons credenzalaw07_live_ok (.cons tree_Check_ok (.cons credenzaref07_Check_ok .nil))) : TabOk hY Tryz.prog Glob [(5, (credenzalaw07_live_c)), (6, (tree_Check_c)), (7, (credenzaref07_Check_c))]) (fun _ _ hle h => h.mono hle) (by kernel_rfl)
    trivial
    (fun z => by kernel_rfl)
end
end Go.D07
