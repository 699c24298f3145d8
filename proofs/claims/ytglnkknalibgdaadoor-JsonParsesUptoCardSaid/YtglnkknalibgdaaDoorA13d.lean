/- Texts for the statements of this seat. -/
import Derived.Test.YtglnkknalibgdaaDoorT13d
import Derived.Test.YtglnkknalibgdaaDoorShelf13d
import Derived.Test.YtglnkknalibgdaaDoorBld13d
import Derived.Test.YtglnkknalibgdaaDoorFmt13d
import Derived.Lib.AppendIntMem
set_option linter.unusedVariables false
set_option linter.unusedSimpArgs false
set_option linter.unnecessarySimpa false
namespace Go.D13
open Go Go.Gw Go.Dn Go.RowKit Go.Proofs
set_option maxRecDepth 100000
set_option linter.unusedVariables false
variable [Lp]
noncomputable section
set_option linter.unusedSectionVars false
structure Glob (F : Heap) : Prop where
  maxLen : ∃ m, cellF F 0 0 (.int .i64 m)
  g3_15 : cellF F 3 15 (.int .u8 4)
  tab10 : ∀ w : World, F.Sub w → Lib.TabIs Tryd.prog w "internal/strconv.uint64pow10" .u64 Lib.pow10Tab
theorem Glob.mono {F F' : Heap} (h : Glob F) (hle : F.Le F') : Glob F' := ⟨h.maxLen.imp fun _ e => cellF_mono hle e, cellF_mono hle h.g3_15, fun w hs => h.tab10 w ⟨fun x o e => hs.out x o (hle.out x o e)⟩⟩
theorem strs_in {F : Heap} {w : World} {xs : List Str} {u : Value} (r : Rel Y F [] (.sl 9 xs) u) (hv : F.Sub w) : ∃ A c, u = .slice A xs.length c ∧ xs.length ≤ c ∧
    (xs = [] ∨ ∃ b o, A = some ⟨b, o, none⟩ ∧ b < w.heap.size ∧ ∀ (i : Nat) (x : Str), xs[i]? = some x → w.cell? ⟨b, o + i, none⟩ = some (.string ⟨⟨x⟩⟩)) := by
  have h : ∀ (A : AV Y.T) (u : Value), Rel Y F [] A u → ∀ ys : List (Y.T 9), A = .sl 9 ys → ∃ A c, u = .slice A ys.length c ∧ ys.length ≤ c ∧
    (ys = [] ∨ ∃ b o, A = some ⟨b, o, none⟩ ∧ b < w.heap.size ∧ ∀ (i : Nat) (x : Str), ys[i]? = some x → w.cell? ⟨b, o + i, none⟩ = some (.string ⟨⟨x⟩⟩)) := by
    intro A u r ys hA
    subst hA
    cases r with
    | @sl _ _ A c b off vs hc hA hvs hh =>
      refine ⟨A, c, rfl, hc, ?_⟩
      have cell : ∀ (i : Nat) (x : Str), ys[i]? = some x → cellF F b (off + i) (.string ⟨⟨x⟩⟩) := fun i x hx => by
        have h1 : (vs i).length = 1 := (hvs i x hx).1
        have h2 : (vs i)[0]? = some ((vs i)[0]'(by omega)) := List.getElem?_eq_getElem _
        have h3 := (hvs i x hx).2 0 _ h2
        have h4 := (hh i x 0 (.v (.string ⟨⟨x⟩⟩)) _ hx rfl h2).v_inv
        rw [h4] at h3
        have e : off + i * Y.sz 9 + 0 = off + i := by show off + i * 1 + 0 = off + i; omega
        rw [e] at h3; exact h3
      cases hys : ys with
      | nil => exact .inl rfl
      | cons x0 r0 =>
        right
        rw [← hys]
        obtain ⟨_, _, _, hF, _⟩ := cell 0 x0 (by rw [hys]; rfl)
        exact ⟨b, off, hA 0 x0 (by rw [hys]; rfl), hv.lt hF, fun i x hx => cellF_read hv (cell i x hx)⟩
  exact h _ u r xs rfl
def units_Check (u : Str) : Option (Bool × Unit) :=
  let n_1 := (IntKind.wrap .i64 ((BitVec.ofInt 64 ((u.length : Nat) : Int) &&& BitVec.ofInt 64 1).toNat))
  some ((n_1 == 0), ())
def units_Check_s : Shape := ⟨[(0, .str)], []⟩
def units_Check_o : List OutP := [⟨false, .bool, []⟩]
def units_Check_c : Dn.Callee Y := callee Y [] units_Check_s units_Check_o (fun z => units_Check z.1)
def units_Check_k : Cuts Y (ParO Y units_Check_o) := .nil
theorem units_Check_ok : COk hY Tryd.prog Glob 14 (units_Check_c) :=
  fn_ok (body := (Tryd.f14.body).getD .skip) (T := []) (units_Check_k) Tryd.func14 (by kernel_rfl) ⟨⟨_, Tryd.func14, by kernel_rfl, rfl⟩⟩ hsz .nil (fun _ _ hle h => h.mono hle) (by kernel_rfl)
    trivial
    (fun z => by kernel_rfl)
def data_names_l1 : (List Str) × Int × Int × T_api_Data × (MapD Str Int) × Unit → Option (((List Str) × Int × Int × T_api_Data × (MapD Str Int) × Unit) ⊕ (Bool × Unit))
  | (v_2, v_3, v_4, x_5, m_6, ()) =>
    if (decide (v_4 < v_3)) = true then
     Option.bind (getI v_2 v_4) fun x_7 =>
     Option.bind (units_Check x_7) fun r_8 =>
     if (!r_8.1) = true then
      some (Sum.inr (false, ()))
     else
      let n_9 := (IntKind.wrap .i64 (((MapD.entV (fun (a b : Str) => a == b) m_6 x_7 0).1) + 1))
      let m_10 := MapD.put (fun (a b : Str) => a == b) m_6 x_7 n_9
      let n_11 := (IntKind.wrap .i64 (v_4 + 1))
      some (Sum.inl (v_2, v_3, n_11, (re25 x_5), m_10, ()))
    else
     let n_12 := ((x_5.Keys.length : Nat) : Int)
     let b_13 := (((m_6.es.length : Nat) : Int) == n_12)
     let b_14 := (b_13 && (((x_5.Keys.length : Nat) : Int) == ((x_5.L.length : Nat) : Int)))
     some (Sum.inr (b_14, ()))
def data_names (v : T_api_Data) : Option (Bool × Unit) :=
  let n_1 := ((v.Keys.length : Nat) : Int)
  Lp.loop data_names_l1 (v.Keys, n_1, 0, (re25 v), (⟨[], 0⟩ : MapD Str Int), ())
def data_names_s : Shape := ⟨[(0, .st 25)], []⟩
def data_names_o : List OutP := [⟨false, .bool, []⟩]
def data_names_c : Dn.Callee Y := callee Y [] data_names_s data_names_o (fun z => data_names z.1)
def data_names_k : Cuts Y (ParO Y data_names_o) := (.loop [[7, 5, 2, 1, 2, 2], [8, 5, 2, 1, 2, 2], [6, 2, 1, 2, 2], [2, 2, 2]] ⟨[(1, .ptr 0 0), (3, .own 1), (8, .sl 9), (9, .int .i64), (10, .int .i64)], [.whole 25 25, .mp 9 3]⟩ (data_names_l1) .nil .nil)
theorem data_names_ok : COk hY Tryd.prog Glob 63 (data_names_c) :=
  fn_ok (body := (Tryd.f63.body).getD .skip) (T := [(14, (units_Check_c))]) (data_names_k) Tryd.func63 (by kernel_rfl) ⟨⟨_, Tryd.func63, by kernel_rfl, rfl⟩⟩ hsz ((.cons units_Check_ok .nil) : TabOk hY Tryd.prog Glob [(14, (units_Check_c))]) (fun _ _ hle h => h.mono hle) (by kernel_rfl)
    ⟨fun z => by kernel_rfl, trivial, trivial⟩
    (fun z => by kernel_rfl)
structure Rec_data_level where
  data_level : T_api_Data → Option (Int × Unit)
def data_level_s : Shape := ⟨[(0, .st 25)], []⟩
def data_level_o : List OutP := [⟨false, .int .i64, []⟩]
def data_level_c (g_ : Rec_data_level) : Dn.Callee Y := callee Y [] data_level_s data_level_o (fun z => g_.data_level z.1)
structure Rec_data_level_ok (g_ : Rec_data_level) : Prop where
  data_level : COk hY Tryd.prog Glob 47 (data_level_c g_)
def data_level_l2 (g_ : Rec_data_level) : Int × (List T_api_Data) × Int × Int × Unit → Option ((Int × (List T_api_Data) × Int × Int × Unit) ⊕ (Int × Unit))
  | (most_14, v_15, v_16, v_17, ()) =>
    if (decide (v_17 < v_16)) = true then
     Option.bind (getI v_15 v_17) fun x_18 =>
     Option.bind (g_.data_level (re25 x_18)) fun r_19 =>
     if (r_19.1 == 0) = true then
      some (Sum.inr (0, ()))
     else
      let n_20 := (IntKind.wrap .i64 (r_19.1 + 1))
      let n_21 := (if n_20 > most_14 then n_20 else most_14)
      let n_22 := (IntKind.wrap .i64 (v_17 + 1))
      some (Sum.inl (n_21, v_15, v_16, n_22, ()))
    else
     some (Sum.inr (most_14, ()))
def data_level_j1 (g_ : Rec_data_level) (lo_5 : Int) (hi_6 : Int) (text_7 : Bool) (list_8 : Bool) (keys_9 : Bool) (x_10 : T_api_Data) : Option (Int × Unit) :=
  let b_11 := ((decide (x_10.N < lo_5)) || (decide (x_10.N > hi_6)))
  let b_12 := ((b_11 || (!text_7)) || (!list_8))
  if (b_12 || (!keys_9)) = true then
   some (0, ())
  else
   let n_13 := ((x_10.L.length : Nat) : Int)
   Lp.loop (data_level_l2 g_) (1, x_10.L, n_13, 0, ())
def data_level_b (g_ : Rec_data_level) (v : T_api_Data) : Option (Int × Unit) :=
  let b_1 := (((v.L.length : Nat) : Int) == 0)
  let n_2 := ((v.Keys.length : Nat) : Int)
  if (v.Kind == 0) = true then
   data_level_j1 g_ 0 0 (v.S == ([] : Str)) b_1 (n_2 == 0) (re25 v)
  else
   if (v.Kind == 1) = true then
    data_level_j1 g_ 0 0 (v.S == ([] : Str)) b_1 (n_2 == 0) (re25 v)
   else
    if (v.Kind == 2) = true then
     data_level_j1 g_ 0 1 (v.S == ([] : Str)) b_1 (n_2 == 0) (re25 v)
    else
     if (v.Kind == 3) = true then
      data_level_j1 g_ (-9007199254740991) 9007199254740991 (v.S == ([] : Str)) b_1 (n_2 == 0) (re25 v)
     else
      if (v.Kind == 4) = true then
       Option.bind (units_Check v.S) fun r_3 =>
       data_level_j1 g_ 0 0 r_3.1 b_1 (n_2 == 0) (re25 v)
      else
       if (v.Kind == 5) = true then
        data_level_j1 g_ 0 0 (v.S == ([] : Str)) true (n_2 == 0) (re25 v)
       else
        if (v.Kind == 6) = true then
         Option.bind (data_names (re25 v)) fun r_4 =>
         data_level_j1 g_ 0 0 (v.S == ([] : Str)) true r_4.1 (re25 v)
        else
         some (0, ())
def data_level_d (g_ : Rec_data_level) : Dn.Callee Y := callee Y [] data_level_s data_level_o (fun z => data_level_b g_ z.1)
def data_level_k (g_ : Rec_data_level) : Cuts Y (ParO Y data_level_o) := (.join [[1, 1, 2, 2, 2, 2], [2, 1, 2, 2, 2, 2], [2, 2, 2, 2, 2]] ⟨[(1, .ptr 0 0), (3, .int .i64), (4, .int .i64), (5, .bool), (6, .bool), (7, .bool)], [.whole 25 25]⟩ (fun z => data_level_j1 g_ z.1 z.2.1 z.2.2.1 z.2.2.2.1 z.2.2.2.2.1 z.2.2.2.2.2.1) (.loop [[7, 5, 2, 1, 2, 2, 2, 2, 2, 2], [8, 5, 2, 1, 2, 2, 2, 2, 2, 2], [6, 2, 1, 2, 2, 2, 2, 2, 2], [2, 2, 2, 2, 2, 2, 2]] ⟨[(8, .int .i64), (66, .sl 25), (67, .int .i64), (68, .int .i64)], []⟩ (data_level_l2 g_) .nil .nil))
theorem data_level_b_ok (g_ : Rec_data_level) (hg_ : Rec_data_level_ok g_) : COk hY Tryd.prog Glob 47 (data_level_d g_) :=
  fn_ok (body := (Tryd.f47.body).getD .skip) (T := [(14, (units_Check_c)), (63, (data_names_c)), (47, (data_level_c g_))]) (data_level_k g_) Tryd.func47 (by kernel_rfl) ⟨⟨_, Tryd.func47, by kernel_rfl, rfl⟩⟩ hsz ((.cons units_Check_ok (.cons data_names_ok (.cons hg_.data_level .nil))) : TabOk hY Tryd.prog Glob [(14, (units_Check_c)), (63, (data_names_c)), (47, (data_level_c g_))]) (fun _ _ hle h => h.mono hle) (by kernel_rfl)
    ⟨fun z => by kernel_rfl, ⟨fun z => by kernel_rfl, trivial, trivial⟩⟩
    (fun z => by kernel_rfl)
def Rec_data_level_g : Nat → Rec_data_level
  | 0 => ⟨fun _ => none⟩
  | n + 1 => ⟨data_level_b (Rec_data_level_g n)⟩
theorem Rec_data_level_all : ∀ n, Rec_data_level_ok (Rec_data_level_g n)
  | 0 => ⟨COk.none ⟨⟨_, Tryd.func47, by kernel_rfl, rfl⟩⟩⟩
  | n + 1 => ⟨data_level_b_ok _ (Rec_data_level_all n)⟩
def data_level : T_api_Data → Option (Int × Unit) := (Rec_data_level_g Lp.big).data_level
theorem data_level_ok : COk hY Tryd.prog Glob 47 (data_level_c (Rec_data_level_g Lp.big)) := (Rec_data_level_all Lp.big).data_level
def data_Check (v : T_api_Data) : Option (Int × Unit) :=
  Option.bind (data_level (re25 v)) fun r_1 =>
  if (r_1.1 == 0) = true then
   some (30, ())
  else
   if (decide (r_1.1 > 20)) = true then
    some (31, ())
   else
    some (0, ())
def data_Check_s : Shape := ⟨[(0, .st 25)], []⟩
def data_Check_o : List OutP := [⟨false, .int .i64, []⟩]
def data_Check_c : Dn.Callee Y := callee Y [] data_Check_s data_Check_o (fun z => data_Check z.1)
def data_Check_k : Cuts Y (ParO Y data_Check_o) := .nil
theorem data_Check_ok : COk hY Tryd.prog Glob 24 (data_Check_c) :=
  fn_ok (body := (Tryd.f24.body).getD .skip) (T := [(47, (data_level_c (Rec_data_level_g Lp.big)))]) (data_Check_k) Tryd.func24 (by kernel_rfl) ⟨⟨_, Tryd.func24, by kernel_rfl, rfl⟩⟩ hsz ((.cons data_level_ok .nil) : TabOk hY Tryd.prog Glob [(47, (data_level_c (Rec_data_level_g Lp.big)))]) (fun _ _ hle h => h.mono hle) (by kernel_rfl)
    trivial
    (fun z => by kernel_rfl)
def strings_Builder_copyCheck_c : Dn.Callee Y := copyC Y Tryd.prog 53
theorem strings_Builder_copyCheck_ok : COk hY Tryd.prog Glob 71 strings_Builder_copyCheck_c := copyC_ok Tryd.lays240 Tryd.Builder_X_240 ⟨⟨_, Tryd.func71, by kernel_rfl, rfl⟩⟩
def strings_Builder_WriteByte (c : Int) (l : List UInt8) : Option (GErr × (List UInt8) × Unit) :=
  Option.bind (toB c) fun b_1 =>
  Option.bind (room (l.length + ([b_1] : List UInt8).length)) fun _ =>
  let l_2 := l ++ ([b_1] : List UInt8)
  some (GErr.nil, l_2, ())
def strings_Builder_WriteByte_s : Shape := ⟨[(0, .ptr 0 0), (1, .int .u8)], [.cells 55 [.junk, .own 1], .arr 5]⟩
def strings_Builder_WriteByte_o : List OutP := [⟨false, .err, [.cells 55 [.junk, .own 1], .arr 5]⟩]
def strings_Builder_WriteByte_c : Dn.Callee Y := callee Y [] strings_Builder_WriteByte_s strings_Builder_WriteByte_o (fun z => strings_Builder_WriteByte z.1 z.2.1)
def strings_Builder_WriteByte_k : Cuts Y (ParO Y strings_Builder_WriteByte_o) := .nil
theorem strings_Builder_WriteByte_ok : COk hY Tryd.prog Glob 64 (strings_Builder_WriteByte_c) :=
  fn_ok (body := (Tryd.f64.body).getD .skip) (T := [(71, (strings_Builder_copyCheck_c))]) (strings_Builder_WriteByte_k) Tryd.func64 (by kernel_rfl) ⟨⟨_, Tryd.func64, by kernel_rfl, rfl⟩⟩ hsz ((.cons strings_Builder_copyCheck_ok .nil) : TabOk hY Tryd.prog Glob [(71, (strings_Builder_copyCheck_c))]) (fun _ _ hle h => h.mono hle) (by kernel_rfl)
    trivial
    (fun z => by kernel_rfl)
def json_writer_plain_l1 : Str × Int × Int × (List UInt8) × Unit → Option ((Str × Int × Int × (List UInt8) × Unit) ⊕ ((List UInt8) × Unit))
  | (s_1, v_2, v_3, l_4, ()) =>
    if (decide (v_3 < v_2)) = true then
     Option.bind (strings_Builder_WriteByte 0 l_4) fun r_5 =>
     Option.bind (getB s_1 v_3) fun c_6 =>
     Option.bind (strings_Builder_WriteByte c_6 r_5.2.1) fun r_7 =>
     let n_8 := (IntKind.wrap .i64 (v_3 + 1))
     some (Sum.inl (s_1, v_2, n_8, r_7.2.1, ()))
    else
     some (Sum.inr (l_4, ()))
def json_writer_plain (s : Str) (l : List UInt8) : Option ((List UInt8) × Unit) :=
  Lp.loop json_writer_plain_l1 (s, ((s.length : Nat) : Int), 0, l, ())
def json_writer_plain_s : Shape := ⟨[(0, .ptr 0 0), (1, .str)], [.cells 55 [.junk, .own 1], .arr 5]⟩
def json_writer_plain_o : List OutP := [⟨false, .tup [], [.cells 55 [.junk, .own 1], .arr 5]⟩]
def json_writer_plain_c : Dn.Callee Y := callee Y [] json_writer_plain_s json_writer_plain_o (fun z => json_writer_plain z.1 z.2.1)
def json_writer_plain_k : Cuts Y (ParO Y json_writer_plain_o) := (.loop [[7, 5, 2], [8, 5, 2], [6, 2]] ⟨[(0, .ptr 0 0), (1, .str), (6, .int .i64), (7, .int .i64)], [.cells 55 [.junk, .own 1], .arr 5]⟩ (json_writer_plain_l1) .nil .nil)
theorem json_writer_plain_ok : COk hY Tryd.prog Glob 48 (json_writer_plain_c) :=
  fn_ok (body := (Tryd.f48.body).getD .skip) (T := [(64, (strings_Builder_WriteByte_c))]) (json_writer_plain_k) Tryd.func48 (by kernel_rfl) ⟨⟨_, Tryd.func48, by kernel_rfl, rfl⟩⟩ hsz ((.cons strings_Builder_WriteByte_ok .nil) : TabOk hY Tryd.prog Glob [(64, (strings_Builder_WriteByte_c))]) (fun _ _ hle h => h.mono hle) (by kernel_rfl)
    ⟨fun z => by kernel_rfl, trivial, trivial⟩
    (fun z => by kernel_rfl)
def units_Len (u : Str) : Option (Int × Unit) :=
  let n_1 := (IntKind.wrap .i64 (Int.tdiv ((u.length : Nat) : Int) 2))
  some (n_1, ())
def units_Len_s : Shape := ⟨[(0, .str)], []⟩
def units_Len_o : List OutP := [⟨false, .int .i64, []⟩]
def units_Len_c : Dn.Callee Y := callee Y [] units_Len_s units_Len_o (fun z => units_Len z.1)
def units_Len_k : Cuts Y (ParO Y units_Len_o) := .nil
theorem units_Len_ok : COk hY Tryd.prog Glob 65 (units_Len_c) :=
  fn_ok (body := (Tryd.f65.body).getD .skip) (T := []) (units_Len_k) Tryd.func65 (by kernel_rfl) ⟨⟨_, Tryd.func65, by kernel_rfl, rfl⟩⟩ hsz .nil (fun _ _ hle h => h.mono hle) (by kernel_rfl)
    trivial
    (fun z => by kernel_rfl)
def units_At (u : Str) (i : Int) : Option (Int × Unit) :=
  if (decide (i < 0)) = true then
   some ((-1), ())
  else
   Option.bind (units_Len u) fun r_1 =>
   if (decide (i ≥ r_1.1)) = true then
    some ((-1), ())
   else
    Option.bind (getB u (IntKind.wrap .i64 (2 * i))) fun c_2 =>
    let n_3 := (IntKind.wrap .i64 ((IntKind.wrap .i64 c_2) * 2 ^ 8))
    let n_4 := (IntKind.wrap .i64 ((IntKind.wrap .i64 (2 * i)) + 1))
    Option.bind (getB u n_4) fun c_5 =>
    let n_6 := (IntKind.wrap .i64 ((BitVec.ofInt 64 n_3 ||| BitVec.ofInt 64 (IntKind.wrap .i64 c_5)).toNat))
    some (n_6, ())
def units_At_s : Shape := ⟨[(0, .str), (1, .int .i64)], []⟩
def units_At_o : List OutP := [⟨false, .int .i64, []⟩]
def units_At_c : Dn.Callee Y := callee Y [] units_At_s units_At_o (fun z => units_At z.1 z.2.1)
def units_At_k : Cuts Y (ParO Y units_At_o) := .nil
theorem units_At_ok : COk hY Tryd.prog Glob 60 (units_At_c) :=
  fn_ok (body := (Tryd.f60.body).getD .skip) (T := [(65, (units_Len_c))]) (units_At_k) Tryd.func60 (by kernel_rfl) ⟨⟨_, Tryd.func60, by kernel_rfl, rfl⟩⟩ hsz ((.cons units_Len_ok .nil) : TabOk hY Tryd.prog Glob [(65, (units_Len_c))]) (fun _ _ hle h => h.mono hle) (by kernel_rfl)
    trivial
    (fun z => by kernel_rfl)
def strings_IndexByte_x (s_ : Str) (c : Int) : Option (Int) := some (Lib.indexByte s_ c.toNat.toUInt8)
theorem strings_IndexByte_x.ok (s_ : Str) (c : Int) (r : Int) (h0 : strings_IndexByte_x s_ c = some r) (w0 : World) (F0 : Heap) (hv : F0.Sub w0) (hG : Glob F0) (hg : SV.goods F0 [.v (.string ⟨⟨s_⟩⟩), .v (.int .u8 c)]) (ρ : Nat → Nat) :
    Calls Tryd.prog 32 (SV.dens ρ [.v (.string ⟨⟨s_⟩⟩), .v (.int .u8 c)]).toArray w0 (Ret0 w0 F0 fun s => s = .v (.int .i64 r)) := by
  refine (Tryd.strings_IndexByte ⟨⟨s_⟩⟩ c w0).mono fun e w' h => ?_
  cases h0
  exact Ret0.pure (s := .v _) hv h.1 h.2 trivial rfl rfl
def strings_IndexByte (s_ : Str) (c : Int) : Option (Int × Unit) := mapO (fun r => (r, ())) (strings_IndexByte_x s_ c)
def strings_IndexByte_s : Shape := ⟨[(0, .str), (1, .int .u8)], []⟩
def strings_IndexByte_o : List OutP := [⟨false, .int .i64, []⟩]
def strings_IndexByte_c : Dn.Callee Y := callee Y [] strings_IndexByte_s strings_IndexByte_o (fun z => strings_IndexByte z.1 z.2.1)
theorem strings_IndexByte_ok : COk hY Tryd.prog Glob 32 strings_IndexByte_c :=
  COk.ext (l := strings_IndexByte_s.l) ⟨⟨_, Tryd.func32, by kernel_rfl, rfl⟩⟩ ⟨rfl, rfl⟩ rfl fun z zo h => ⟨_, _, rfl, rfl, fun w F hG hv => by
    obtain ⟨r, hr, rfl⟩ := mapO_some h
    exact strings_IndexByte_x.ok z.1 z.2.1 r hr w F hv hG (by simp [SV.goods, SV.good]) (fun _ => 0)⟩
def units_Cut (u : Str) (a : Int) (a2 : Int) : Option (Str × Unit) :=
  Option.bind (units_Len u) fun r_1 =>
  let n_2 := (if r_1.1 < a2 then r_1.1 else a2)
  let b_3 := (decide ((if 0 > a then 0 else a) ≥ n_2))
  if b_3 = true then
   some (([] : Str), ())
  else
   let n_4 := (IntKind.wrap .i64 (2 * (if 0 > a then 0 else a)))
   let n_5 := (IntKind.wrap .i64 (2 * n_2))
   Option.bind (cutL u n_4 n_5) fun s_6 =>
   some (s_6, ())
def units_Cut_s : Shape := ⟨[(0, .str), (1, .int .i64), (2, .int .i64)], []⟩
def units_Cut_o : List OutP := [⟨false, .str, []⟩]
def units_Cut_c : Dn.Callee Y := callee Y [] units_Cut_s units_Cut_o (fun z => units_Cut z.1 z.2.1 z.2.2.1)
def units_Cut_k : Cuts Y (ParO Y units_Cut_o) := .nil
theorem units_Cut_ok : COk hY Tryd.prog Glob 58 (units_Cut_c) :=
  fn_ok (body := (Tryd.f58.body).getD .skip) (T := [(65, (units_Len_c))]) (units_Cut_k) Tryd.func58 (by kernel_rfl) ⟨⟨_, Tryd.func58, by kernel_rfl, rfl⟩⟩ hsz ((.cons units_Len_ok .nil) : TabOk hY Tryd.prog Glob [(65, (units_Len_c))]) (fun _ _ hle h => h.mono hle) (by kernel_rfl)
    trivial
    (fun z => by kernel_rfl)
def strings_Builder_WriteString (s : Str) (l : List UInt8) : Option (Int × GErr × (List UInt8) × Unit) :=
  Option.bind (room (l.length + s.length)) fun _ =>
  let l_1 := l ++ s
  some (((s.length : Nat) : Int), GErr.nil, l_1, ())
def strings_Builder_WriteString_s : Shape := ⟨[(0, .ptr 0 0), (1, .str)], [.cells 55 [.junk, .own 1], .arr 5]⟩
def strings_Builder_WriteString_o : List OutP := [⟨false, .tup [.int .i64, .err], [.cells 55 [.junk, .own 1], .arr 5]⟩]
def strings_Builder_WriteString_c : Dn.Callee Y := callee Y [] strings_Builder_WriteString_s strings_Builder_WriteString_o (fun z => strings_Builder_WriteString z.1 z.2.1)
def strings_Builder_WriteString_k : Cuts Y (ParO Y strings_Builder_WriteString_o) := .nil
theorem strings_Builder_WriteString_ok : COk hY Tryd.prog Glob 57 (strings_Builder_WriteString_c) :=
  fn_ok (body := (Tryd.f57.body).getD .skip) (T := [(71, (strings_Builder_copyCheck_c))]) (strings_Builder_WriteString_k) Tryd.func57 (by kernel_rfl) ⟨⟨_, Tryd.func57, by kernel_rfl, rfl⟩⟩ hsz ((.cons strings_Builder_copyCheck_ok .nil) : TabOk hY Tryd.prog Glob [(71, (strings_Builder_copyCheck_c))]) (fun _ _ hle h => h.mono hle) (by kernel_rfl)
    trivial
    (fun z => by kernel_rfl)
def json_writer_str_j4 (u_33 : Str) (n_34 : Int) (v_35 : Int) (v_36 : Int) (l_37 : List UInt8) : Option ((Str × Int × Int × (List UInt8) × Unit) ⊕ ((List UInt8) × Unit)) :=
  let n_38 := (IntKind.wrap .i64 ((Int.fdiv n_34 (2 ^ 4)) + 1))
  Option.bind (cutL ([48, 49, 50, 51, 52, 53, 54, 55, 56, 57, 97, 98, 99, 100, 101, 102] : Str) (Int.fdiv n_34 (2 ^ 4)) n_38) fun s_39 =>
  Option.bind (catS ([92, 117, 48, 48] : Str) s_39) fun s_40 =>
  let n_41 := (IntKind.wrap .i64 ((BitVec.ofInt 64 n_34 &&& BitVec.ofInt 64 15).toNat))
  let n_42 := (IntKind.wrap .i64 ((BitVec.ofInt 64 n_34 &&& BitVec.ofInt 64 15).toNat))
  let n_43 := (IntKind.wrap .i64 (n_42 + 1))
  Option.bind (cutL ([48, 49, 50, 51, 52, 53, 54, 55, 56, 57, 97, 98, 99, 100, 101, 102] : Str) n_41 n_43) fun s_44 =>
  Option.bind (catS s_40 s_44) fun s_45 =>
  Option.bind (json_writer_plain s_45 l_37) fun r_46 =>
  let n_47 := (IntKind.wrap .i64 (v_36 + 1))
  some (Sum.inl (u_33, v_35, n_47, r_46.1, ()))
def json_writer_str_j3 (u_23 : Str) (i_24 : Int) (n_25 : Int) (v_26 : Int) (v_27 : Int) (l_28 : List UInt8) : Option ((Str × Int × Int × (List UInt8) × Unit) ⊕ ((List UInt8) × Unit)) :=
  if (decide (n_25 < 32)) = true then
   json_writer_str_j4 u_23 n_25 v_26 v_27 l_28
  else
   let n_29 := (IntKind.wrap .i64 (i_24 + 1))
   Option.bind (units_Cut u_23 i_24 n_29) fun r_30 =>
   Option.bind (strings_Builder_WriteString r_30.1 l_28) fun r_31 =>
   let n_32 := (IntKind.wrap .i64 (v_27 + 1))
   some (Sum.inl (u_23, v_26, n_32, r_31.2.2.1, ()))
def json_writer_str_j2 (u_11 : Str) (i_12 : Int) (n_13 : Int) (v_14 : Int) (v_15 : Int) (v_16 : Int) (l_17 : List UInt8) : Option ((Str × Int × Int × (List UInt8) × Unit) ⊕ ((List UInt8) × Unit)) :=
  if (decide (v_14 ≥ 0)) = true then
   let n_18 := (IntKind.wrap .i64 (v_14 + 1))
   Option.bind (cutL ([34, 92, 47, 98, 102, 110, 114, 116] : Str) v_14 n_18) fun s_19 =>
   Option.bind (catS ([92] : Str) s_19) fun s_20 =>
   Option.bind (json_writer_plain s_20 l_17) fun r_21 =>
   let n_22 := (IntKind.wrap .i64 (v_16 + 1))
   some (Sum.inl (u_11, v_15, n_22, r_21.1, ()))
  else
   json_writer_str_j3 u_11 i_12 n_13 v_15 v_16 l_17
def json_writer_str_l1 : Str × Int × Int × (List UInt8) × Unit → Option ((Str × Int × Int × (List UInt8) × Unit) ⊕ ((List UInt8) × Unit))
  | (u_3, v_4, v_5, l_6, ()) =>
    if (decide (v_5 < v_4)) = true then
     Option.bind (units_At u_3 v_5) fun r_7 =>
     let b_8 := ((decide (r_7.1 < 128)) && (r_7.1 != 47))
     if b_8 = true then
      Option.bind (strings_IndexByte ([34, 92, 47, 8, 12, 10, 13, 9] : Str) (IntKind.wrap .u8 r_7.1)) fun r_9 =>
      json_writer_str_j2 u_3 v_5 r_7.1 r_9.1 v_4 v_5 l_6
     else
      json_writer_str_j2 u_3 v_5 r_7.1 (-1) v_4 v_5 l_6
    else
     Option.bind (json_writer_plain ([34] : Str) l_6) fun r_10 =>
     some (Sum.inr (r_10.1, ()))
def json_writer_str (u : Str) (l : List UInt8) : Option ((List UInt8) × Unit) :=
  Option.bind (json_writer_plain ([34] : Str) l) fun r_1 =>
  Option.bind (units_Len u) fun r_2 =>
  Lp.loop json_writer_str_l1 (u, r_2.1, 0, r_1.1, ())
def json_writer_str_s : Shape := ⟨[(0, .ptr 0 0), (1, .str)], [.cells 55 [.junk, .own 1], .arr 5]⟩
def json_writer_str_o : List OutP := [⟨false, .tup [], [.cells 55 [.junk, .own 1], .arr 5]⟩]
def json_writer_str_c : Dn.Callee Y := callee Y [] json_writer_str_s json_writer_str_o (fun z => json_writer_str z.1 z.2.1)
def json_writer_str_k : Cuts Y (ParO Y json_writer_str_o) := (.loop [[7, 5, 2, 1, 2], [8, 5, 2, 1, 2], [6, 2, 1, 2], [2, 2]] ⟨[(0, .ptr 0 0), (1, .str), (10, .int .i64), (11, .int .i64)], [.cells 55 [.junk, .own 1], .arr 5]⟩ (json_writer_str_l1) (.join [[1, 5, 2, 2, 2, 2, 5, 1, 2, 2, 7, 5, 2, 1, 2], [2, 5, 2, 2, 2, 2, 5, 1, 2, 2, 7, 5, 2, 1, 2], [6, 2, 2, 2, 2, 5, 1, 2, 2, 7, 5, 2, 1, 2], [6, 1, 2, 2, 7, 5, 2, 1, 2], [2, 2, 2, 7, 5, 2, 1, 2], [8, 5, 2, 1, 2], [6, 2, 1, 2], [2, 2]] ⟨[(0, .ptr 0 0), (1, .str), (4, .int .i64), (5, .int .i64), (6, .int .i64), (10, .int .i64), (11, .int .i64)], [.cells 55 [.junk, .own 1], .arr 5]⟩ (fun z => json_writer_str_j2 z.1 z.2.1 z.2.2.1 z.2.2.2.1 z.2.2.2.2.1 z.2.2.2.2.2.1 z.2.2.2.2.2.2.1) (.join [[1, 4, 2, 5, 2, 2, 2, 2, 5, 1, 2, 2, 7, 5, 2, 1, 2], [2, 4, 2, 5, 2, 2, 2, 2, 5, 1, 2, 2, 7, 5, 2, 1, 2], [6, 2, 2, 2, 2, 5, 1, 2, 2, 7, 5, 2, 1, 2], [6, 1, 2, 2, 7, 5, 2, 1, 2], [2, 2, 2, 7, 5, 2, 1, 2], [8, 5, 2, 1, 2], [6, 2, 1, 2], [2, 2]] ⟨[(0, .ptr 0 0), (1, .str), (4, .int .i64), (5, .int .i64), (10, .int .i64), (11, .int .i64)], [.cells 55 [.junk, .own 1], .arr 5]⟩ (fun z => json_writer_str_j3 z.1 z.2.1 z.2.2.1 z.2.2.2.1 z.2.2.2.2.1 z.2.2.2.2.2.1) (.join [[3, 2, 4, 2, 5, 2, 2, 2, 2, 5, 1, 2, 2, 7, 5, 2, 1, 2], [6, 2, 2, 2, 2, 5, 1, 2, 2, 7, 5, 2, 1, 2], [6, 1, 2, 2, 7, 5, 2, 1, 2], [2, 2, 2, 7, 5, 2, 1, 2], [8, 5, 2, 1, 2], [6, 2, 1, 2], [2, 2]] ⟨[(0, .ptr 0 0), (1, .str), (5, .int .i64), (10, .int .i64), (11, .int .i64)], [.cells 55 [.junk, .own 1], .arr 5]⟩ (fun z => json_writer_str_j4 z.1 z.2.1 z.2.2.1 z.2.2.2.1 z.2.2.2.2.1) .nil))) .nil)
theorem json_writer_str_ok : COk hY Tryd.prog Glob 49 (json_writer_str_c) :=
  fn_ok (body := (Tryd.f49.body).getD .skip) (T := [(48, (json_writer_plain_c)), (65, (units_Len_c)), (60, (units_At_c)), (32, (strings_IndexByte_c)), (58, (units_Cut_c)), (57, (laidC Y [⟨[(0, .ptr 0 0), (1, .str)], [.cells 55 [.junk, .own 1], .arr 5]⟩, ⟨[(0, .ptr 0 0), (1, .str)], [.cells 82 [.junk, .own 1], .arr 5]⟩, ⟨[(0, .ptr 0 0), (1, .str)], [.cells 53 [.junk, .own 1], .arr 5]⟩] (strings_Builder_WriteString_c)))]) (json_writer_str_k) Tryd.func49 (by kernel_rfl) ⟨⟨_, Tryd.func49, by kernel_rfl, rfl⟩⟩ hsz ((.cons json_writer_plain_ok (.cons units_Len_ok (.cons units_At_ok (.cons strings_IndexByte_ok (.cons units_Cut_ok (.cons (COk.laid strings_Builder_WriteString_ok) .nil)))))) : TabOk hY Tryd.prog Glob [(48, (json_writer_plain_c)), (65, (units_Len_c)), (60, (units_At_c)), (32, (strings_IndexByte_c)), (58, (units_Cut_c)), (57, (laidC Y [⟨[(0, .ptr 0 0), (1, .str)], [.cells 55 [.junk, .own 1], .arr 5]⟩, ⟨[(0, .ptr 0 0), (1, .str)], [.cells 82 [.junk, .own 1], .arr 5]⟩, ⟨[(0, .ptr 0 0), (1, .str)], [.cells 53 [.junk, .own 1], .arr 5]⟩] (strings_Builder_WriteString_c)))]) (fun _ _ hle h => h.mono hle) (by kernel_rfl)
    ⟨fun z => by kernel_rfl, ⟨fun z => by kernel_rfl, ⟨fun z => by kernel_rfl, ⟨fun z => by kernel_rfl, trivial⟩⟩⟩, trivial⟩
    (fun z => by kernel_rfl)
def strings_Builder_WriteString_v2 (s : Str) (l : List UInt8) : Option (Int × GErr × (List UInt8) × Unit) :=
  Option.bind (room (l.length + s.length)) fun _ =>
  let l_1 := l ++ s
  some (((s.length : Nat) : Int), GErr.nil, l_1, ())
def strings_Builder_WriteString_v2_s : Shape := ⟨[(0, .ptr 0 0), (1, .str)], [.cells 82 [.junk, .own 1], .arr 5]⟩
def strings_Builder_WriteString_v2_o : List OutP := [⟨false, .tup [.int .i64, .err], [.cells 82 [.junk, .own 1], .arr 5]⟩]
def strings_Builder_WriteString_v2_c : Dn.Callee Y := callee Y [] strings_Builder_WriteString_v2_s strings_Builder_WriteString_v2_o (fun z => strings_Builder_WriteString_v2 z.1 z.2.1)
def strings_Builder_WriteString_v2_k : Cuts Y (ParO Y strings_Builder_WriteString_v2_o) := .nil
theorem strings_Builder_WriteString_v2_ok : COk hY Tryd.prog Glob 57 (strings_Builder_WriteString_v2_c) :=
  fn_ok (body := (Tryd.f57.body).getD .skip) (T := [(71, (strings_Builder_copyCheck_c))]) (strings_Builder_WriteString_v2_k) Tryd.func57 (by kernel_rfl) ⟨⟨_, Tryd.func57, by kernel_rfl, rfl⟩⟩ hsz ((.cons strings_Builder_copyCheck_ok .nil) : TabOk hY Tryd.prog Glob [(71, (strings_Builder_copyCheck_c))]) (fun _ _ hle h => h.mono hle) (by kernel_rfl)
    trivial
    (fun z => by kernel_rfl)
def data_writer_lay_l1 : (List Str) × Int × Int × (List UInt8) × Unit → Option (((List Str) × Int × Int × (List UInt8) × Unit) ⊕ ((List UInt8) × Unit))
  | (v_1, v_2, v_3, l_4, ()) =>
    if (decide (v_3 < v_2)) = true then
     Option.bind (getI v_1 v_3) fun x_5 =>
     Option.bind (strings_Builder_WriteString_v2 x_5 l_4) fun r_6 =>
     let n_7 := (IntKind.wrap .i64 (v_3 + 1))
     some (Sum.inl (v_1, v_2, n_7, r_6.2.2.1, ()))
    else
     some (Sum.inr (l_4, ()))
def data_writer_lay (l : List Str) (l2 : List UInt8) : Option ((List UInt8) × Unit) :=
  Lp.loop data_writer_lay_l1 (l, ((l.length : Nat) : Int), 0, l2, ())
def data_writer_lay_s : Shape := ⟨[(0, .ptr 0 0), (1, .sl 9)], [.cells 82 [.junk, .own 1], .arr 5]⟩
def data_writer_lay_o : List OutP := [⟨false, .tup [], [.cells 82 [.junk, .own 1], .arr 5]⟩]
def data_writer_lay_c : Dn.Callee Y := callee Y [] data_writer_lay_s data_writer_lay_o (fun z => data_writer_lay z.1 z.2.1)
def data_writer_lay_k : Cuts Y (ParO Y data_writer_lay_o) := (.loop [[7, 5, 2], [8, 5, 2], [6, 2]] ⟨[(0, .ptr 0 0), (6, .sl 9), (7, .int .i64), (8, .int .i64)], [.cells 82 [.junk, .own 1], .arr 5]⟩ (data_writer_lay_l1) .nil .nil)
theorem data_writer_lay_ok : COk hY Tryd.prog Glob 73 (data_writer_lay_c) :=
  fn_ok (body := (Tryd.f73.body).getD .skip) (T := [(57, (laidC Y [⟨[(0, .ptr 0 0), (1, .str)], [.cells 55 [.junk, .own 1], .arr 5]⟩, ⟨[(0, .ptr 0 0), (1, .str)], [.cells 82 [.junk, .own 1], .arr 5]⟩, ⟨[(0, .ptr 0 0), (1, .str)], [.cells 53 [.junk, .own 1], .arr 5]⟩] (strings_Builder_WriteString_v2_c)))]) (data_writer_lay_k) Tryd.func73 (by kernel_rfl) ⟨⟨_, Tryd.func73, by kernel_rfl, rfl⟩⟩ hsz ((.cons (COk.laid strings_Builder_WriteString_v2_ok) .nil) : TabOk hY Tryd.prog Glob [(57, (laidC Y [⟨[(0, .ptr 0 0), (1, .str)], [.cells 55 [.junk, .own 1], .arr 5]⟩, ⟨[(0, .ptr 0 0), (1, .str)], [.cells 82 [.junk, .own 1], .arr 5]⟩, ⟨[(0, .ptr 0 0), (1, .str)], [.cells 53 [.junk, .own 1], .arr 5]⟩] (strings_Builder_WriteString_v2_c)))]) (fun _ _ hle h => h.mono hle) (by kernel_rfl)
    ⟨fun z => by kernel_rfl, trivial, trivial⟩
    (fun z => by kernel_rfl)
def strconv_FormatBool_x (b_ : Bool) : Option (Str) := some (Lib.formatBool b_)
theorem strconv_FormatBool_x.ok (b_ : Bool) (r : Str) (h0 : strconv_FormatBool_x b_ = some r) (w0 : World) (F0 : Heap) (hv : F0.Sub w0) (hG : Glob F0) (hg : SV.goods F0 [.v (.bool b_)]) (ρ : Nat → Nat) :
    Calls Tryd.prog 74 (SV.dens ρ [.v (.bool b_)]).toArray w0 (Ret0 w0 F0 fun s => s = .v (.string ⟨⟨r⟩⟩)) := by
  refine (Tryd.strconv_FormatBool b_ w0).mono fun e w' h => ?_
  cases h0
  exact Ret0.pure (s := .v (.string ⟨⟨_⟩⟩)) hv h.1 h.2 trivial rfl rfl
def strconv_FormatBool (b_ : Bool) : Option (Str × Unit) := mapO (fun r => (r, ())) (strconv_FormatBool_x b_)
def strconv_FormatBool_s : Shape := ⟨[(0, .bool)], []⟩
def strconv_FormatBool_o : List OutP := [⟨false, .str, []⟩]
def strconv_FormatBool_c : Dn.Callee Y := callee Y [] strconv_FormatBool_s strconv_FormatBool_o (fun z => strconv_FormatBool z.1)
theorem strconv_FormatBool_ok : COk hY Tryd.prog Glob 74 strconv_FormatBool_c :=
  COk.ext (l := strconv_FormatBool_s.l) ⟨⟨_, Tryd.func74, by kernel_rfl, rfl⟩⟩ ⟨rfl, rfl⟩ rfl fun z zo h => ⟨_, _, rfl, rfl, fun w F hG hv => by
    obtain ⟨r, hr, rfl⟩ := mapO_some h
    exact strconv_FormatBool_x.ok z.1 r hr w F hv hG (by simp [SV.goods, SV.good]) (fun _ => 0)⟩
def strconv_FormatInt_x (i_ : Int) (base_ : Int) : Option (Str) := if base_ = 16 then Gw.strconv_FormatInt_c16 i_ else if -9223372036854775808 ≤ i_ ∧ i_ ≤ 9223372036854775807 ∧ base_ = 10 then some (Lib.itoa i_) else none
theorem strconv_FormatInt_x.ok (i_ : Int) (base_ : Int) (r : Str) (h0 : strconv_FormatInt_x i_ base_ = some r) (w0 : World) (F0 : Heap) (hv : F0.Sub w0) (hG : Glob F0) (hg : SV.goods F0 [.v (.int .i64 i_), .v (.int .i64 base_)]) (ρ : Nat → Nat) :
    Calls Tryd.prog 75 (SV.dens ρ [.v (.int .i64 i_), .v (.int .i64 base_)]).toArray w0 (Ret0 w0 F0 fun s => s = .v (.string ⟨⟨r⟩⟩)) := by
  unfold strconv_FormatInt_x at h0
  split at h0
  · rename_i hb
    subst hb
    exact Gw.strconv_FormatInt_c16.ok i_ r h0 w0 F0 hv ⟨hG.maxLen, hG.g3_15⟩ ⟨trivial, trivial, trivial⟩ (fun _ => 0)
  · split at h0
    · rename_i hc
      cases h0
      obtain ⟨h1, h2, rfl⟩ := hc
      refine (Tryd.strconv_FormatInt_10 i_ h1 h2 w0 (hG.tab10 w0 hv)).mono fun e w' h => ?_
      obtain ⟨h1, k, os, rfl⟩ := h
      exact Ret0.below (s := .v (.string ⟨⟨_⟩⟩)) hv h1 (Go.Lib.below_grow _ _ (Nat.le_refl _) _ _) trivial rfl rfl
    · cases h0
def strconv_FormatInt (i_ : Int) (base_ : Int) : Option (Str × Unit) := mapO (fun r => (r, ())) (strconv_FormatInt_x i_ base_)
def strconv_FormatInt_s : Shape := ⟨[(0, .int .i64), (1, .int .i64)], []⟩
def strconv_FormatInt_o : List OutP := [⟨false, .str, []⟩]
def strconv_FormatInt_c : Dn.Callee Y := callee Y [] strconv_FormatInt_s strconv_FormatInt_o (fun z => strconv_FormatInt z.1 z.2.1)
theorem strconv_FormatInt_ok : COk hY Tryd.prog Glob 75 strconv_FormatInt_c :=
  COk.ext (l := strconv_FormatInt_s.l) ⟨⟨_, Tryd.func75, by kernel_rfl, rfl⟩⟩ ⟨rfl, rfl⟩ rfl fun z zo h => ⟨_, _, rfl, rfl, fun w F hG hv => by
    obtain ⟨r, hr, rfl⟩ := mapO_some h
    exact strconv_FormatInt_x.ok z.1 z.2.1 r hr w F hv hG (by simp [SV.goods, SV.good]) (fun _ => 0)⟩
def units_Quote_j5 (u_41 : Str) (n_42 : Int) (v_43 : Int) (v_44 : Int) (l_45 : List UInt8) : Option ((Str × Int × Int × (List UInt8) × Unit) ⊕ (Str × Int × Unit)) :=
  let n_46 := (IntKind.wrap .i64 ((BitVec.ofInt 64 n_42 ||| BitVec.ofInt 64 65536).toNat))
  Option.bind (strconv_FormatInt n_46 16) fun r_47 =>
  Option.bind (cutL r_47.1 1 ((r_47.1.length : Nat) : Int)) fun s_48 =>
  Option.bind (catS ([92, 117] : Str) s_48) fun s_49 =>
  Option.bind (room (l_45.length + s_49.length)) fun _ =>
  let l_50 := l_45 ++ s_49
  let n_51 := (IntKind.wrap .i64 (v_44 + 1))
  some (Sum.inl (u_41, v_43, n_51, l_50, ()))
def units_Quote_j4 (u_32 : Str) (n_33 : Int) (v_34 : Int) (v_35 : Int) (l_36 : List UInt8) : Option ((Str × Int × Int × (List UInt8) × Unit) ⊕ (Str × Int × Unit)) :=
  let b_37 := ((decide (n_33 < 32)) || (decide (n_33 > 126)))
  if b_37 = true then
   units_Quote_j5 u_32 n_33 v_34 v_35 l_36
  else
   Option.bind (toB (IntKind.wrap .u8 n_33)) fun b_38 =>
   Option.bind (room (l_36.length + ([b_38] : List UInt8).length)) fun _ =>
   let l_39 := l_36 ++ ([b_38] : List UInt8)
   let n_40 := (IntKind.wrap .i64 (v_35 + 1))
   some (Sum.inl (u_32, v_34, n_40, l_39, ()))
def units_Quote_j3 (u_21 : Str) (n_22 : Int) (v_23 : Int) (v_24 : Int) (v_25 : Int) (l_26 : List UInt8) : Option ((Str × Int × Int × (List UInt8) × Unit) ⊕ (Str × Int × Unit)) :=
  if (decide (v_23 ≥ 0)) = true then
   Option.bind (getB ([98, 116, 110, 102, 114] : Str) v_23) fun c_27 =>
   Option.bind (toB 92) fun b_28 =>
   Option.bind (toB c_27) fun b_29 =>
   Option.bind (room (l_26.length + ([b_28, b_29] : List UInt8).length)) fun _ =>
   let l_30 := l_26 ++ ([b_28, b_29] : List UInt8)
   let n_31 := (IntKind.wrap .i64 (v_25 + 1))
   some (Sum.inl (u_21, v_24, n_31, l_30, ()))
  else
   units_Quote_j4 u_21 n_22 v_24 v_25 l_26
def units_Quote_j2 (u_10 : Str) (n_11 : Int) (v_12 : Int) (v_13 : Int) (v_14 : Int) (l_15 : List UInt8) : Option ((Str × Int × Int × (List UInt8) × Unit) ⊕ (Str × Int × Unit)) :=
  let b_16 := ((n_11 == 34) || (n_11 == 92))
  if b_16 = true then
   Option.bind (toB 92) fun b_17 =>
   Option.bind (toB (IntKind.wrap .u8 n_11)) fun b_18 =>
   Option.bind (room (l_15.length + ([b_17, b_18] : List UInt8).length)) fun _ =>
   let l_19 := l_15 ++ ([b_17, b_18] : List UInt8)
   let n_20 := (IntKind.wrap .i64 (v_14 + 1))
   some (Sum.inl (u_10, v_13, n_20, l_19, ()))
  else
   units_Quote_j3 u_10 n_11 v_12 v_13 v_14 l_15
def units_Quote_l1 : Str × Int × Int × (List UInt8) × Unit → Option ((Str × Int × Int × (List UInt8) × Unit) ⊕ (Str × Int × Unit))
  | (u_3, v_4, v_5, l_6, ()) =>
    if (decide (v_5 < v_4)) = true then
     Option.bind (units_At u_3 v_5) fun r_7 =>
     if (decide (r_7.1 < 128)) = true then
      Option.bind (strings_IndexByte ([8, 9, 10, 12, 13] : Str) (IntKind.wrap .u8 r_7.1)) fun r_8 =>
      units_Quote_j2 u_3 r_7.1 r_8.1 v_4 v_5 l_6
     else
      units_Quote_j2 u_3 r_7.1 (-1) v_4 v_5 l_6
    else
     Option.bind (room (l_6.length + ([(UInt8.ofNat 34)] : List UInt8).length)) fun _ =>
     let l_9 := l_6 ++ ([(UInt8.ofNat 34)] : List UInt8)
     some (Sum.inr (l_9, 0, ()))
def units_Quote (u : Str) : Option (Str × Int × Unit) :=
  Option.bind (units_Check u) fun r_1 =>
  if (!r_1.1) = true then
   some (([] : Str), 10, ())
  else
   Option.bind (units_Len u) fun r_2 =>
   Lp.loop units_Quote_l1 (u, r_2.1, 0, ([(UInt8.ofNat 34)] : List UInt8), ())
def units_Quote_s : Shape := ⟨[(0, .str)], []⟩
def units_Quote_o : List OutP := [⟨false, .tup [.str, .int .i64], []⟩]
def units_Quote_c : Dn.Callee Y := callee Y [] units_Quote_s units_Quote_o (fun z => units_Quote z.1)
def units_Quote_k : Cuts Y (ParO Y units_Quote_o) := (.loop [[7, 5, 2, 1, 2, 2, 2], [8, 5, 2, 1, 2, 2, 2], [6, 2, 1, 2, 2, 2], [2, 2, 2, 2]] ⟨[(0, .str), (4, .own 0), (14, .int .i64), (15, .int .i64)], [.arr 5]⟩ (units_Quote_l1) (.join [[1, 5, 2, 2, 2, 2, 5, 1, 2, 2, 7, 5, 2, 1, 2, 2, 2], [2, 5, 2, 2, 2, 2, 5, 1, 2, 2, 7, 5, 2, 1, 2, 2, 2], [6, 2, 2, 2, 2, 5, 1, 2, 2, 7, 5, 2, 1, 2, 2, 2], [6, 1, 2, 2, 7, 5, 2, 1, 2, 2, 2], [2, 2, 2, 7, 5, 2, 1, 2, 2, 2], [8, 5, 2, 1, 2, 2, 2], [6, 2, 1, 2, 2, 2], [2, 2, 2, 2]] ⟨[(0, .str), (4, .own 0), (6, .int .i64), (7, .int .i64), (14, .int .i64), (15, .int .i64)], [.arr 5]⟩ (fun z => units_Quote_j2 z.1 z.2.1 z.2.2.1 z.2.2.2.1 z.2.2.2.2.1 z.2.2.2.2.2.1) (.join [[1, 4, 2, 5, 2, 2, 2, 2, 5, 1, 2, 2, 7, 5, 2, 1, 2, 2, 2], [2, 4, 2, 5, 2, 2, 2, 2, 5, 1, 2, 2, 7, 5, 2, 1, 2, 2, 2], [6, 2, 2, 2, 2, 5, 1, 2, 2, 7, 5, 2, 1, 2, 2, 2], [6, 1, 2, 2, 7, 5, 2, 1, 2, 2, 2], [2, 2, 2, 7, 5, 2, 1, 2, 2, 2], [8, 5, 2, 1, 2, 2, 2], [6, 2, 1, 2, 2, 2], [2, 2, 2, 2]] ⟨[(0, .str), (4, .own 0), (6, .int .i64), (7, .int .i64), (14, .int .i64), (15, .int .i64)], [.arr 5]⟩ (fun z => units_Quote_j3 z.1 z.2.1 z.2.2.1 z.2.2.2.1 z.2.2.2.2.1 z.2.2.2.2.2.1) (.join [[1, 4, 2, 4, 2, 5, 2, 2, 2, 2, 5, 1, 2, 2, 7, 5, 2, 1, 2, 2, 2], [2, 4, 2, 4, 2, 5, 2, 2, 2, 2, 5, 1, 2, 2, 7, 5, 2, 1, 2, 2, 2], [6, 2, 2, 2, 2, 5, 1, 2, 2, 7, 5, 2, 1, 2, 2, 2], [6, 1, 2, 2, 7, 5, 2, 1, 2, 2, 2], [2, 2, 2, 7, 5, 2, 1, 2, 2, 2], [8, 5, 2, 1, 2, 2, 2], [6, 2, 1, 2, 2, 2], [2, 2, 2, 2]] ⟨[(0, .str), (4, .own 0), (6, .int .i64), (14, .int .i64), (15, .int .i64)], [.arr 5]⟩ (fun z => units_Quote_j4 z.1 z.2.1 z.2.2.1 z.2.2.2.1 z.2.2.2.2.1) (.join [[1, 3, 2, 4, 2, 4, 2, 5, 2, 2, 2, 2, 5, 1, 2, 2, 7, 5, 2, 1, 2, 2, 2], [2, 3, 2, 4, 2, 4, 2, 5, 2, 2, 2, 2, 5, 1, 2, 2, 7, 5, 2, 1, 2, 2, 2], [6, 2, 2, 2, 2, 5, 1, 2, 2, 7, 5, 2, 1, 2, 2, 2], [6, 1, 2, 2, 7, 5, 2, 1, 2, 2, 2], [2, 2, 2, 7, 5, 2, 1, 2, 2, 2], [8, 5, 2, 1, 2, 2, 2], [6, 2, 1, 2, 2, 2], [2, 2, 2, 2]] ⟨[(0, .str), (4, .own 0), (6, .int .i64), (14, .int .i64), (15, .int .i64)], [.arr 5]⟩ (fun z => units_Quote_j5 z.1 z.2.1 z.2.2.1 z.2.2.2.1 z.2.2.2.2.1) .nil)))) .nil)
theorem units_Quote_ok : COk hY Tryd.prog Glob 81 (units_Quote_c) :=
  fn_ok (body := (Tryd.f81.body).getD .skip) (T := [(14, (units_Check_c)), (65, (units_Len_c)), (60, (units_At_c)), (32, (strings_IndexByte_c)), (75, (strconv_FormatInt_c))]) (units_Quote_k) Tryd.func81 (by kernel_rfl) ⟨⟨_, Tryd.func81, by kernel_rfl, rfl⟩⟩ hsz ((.cons units_Check_ok (.cons units_Len_ok (.cons units_At_ok (.cons strings_IndexByte_ok (.cons strconv_FormatInt_ok .nil))))) : TabOk hY Tryd.prog Glob [(14, (units_Check_c)), (65, (units_Len_c)), (60, (units_At_c)), (32, (strings_IndexByte_c)), (75, (strconv_FormatInt_c))]) (fun _ _ hle h => h.mono hle) (by kernel_rfl)
    ⟨fun z => by kernel_rfl, ⟨fun z => by kernel_rfl, ⟨fun z => by kernel_rfl, ⟨fun z => by kernel_rfl, ⟨fun z => by kernel_rfl, trivial⟩⟩⟩⟩, trivial⟩
    (fun z => by kernel_rfl)
def data_quoted (u : Str) : Option (Str × Unit) :=
  Option.bind (units_Quote u) fun r_1 =>
  some (r_1.1, ())
def data_quoted_s : Shape := ⟨[(0, .str)], []⟩
def data_quoted_o : List OutP := [⟨false, .str, []⟩]
def data_quoted_c : Dn.Callee Y := callee Y [] data_quoted_s data_quoted_o (fun z => data_quoted z.1)
def data_quoted_k : Cuts Y (ParO Y data_quoted_o) := .nil
theorem data_quoted_ok : COk hY Tryd.prog Glob 76 (data_quoted_c) :=
  fn_ok (body := (Tryd.f76.body).getD .skip) (T := [(81, (units_Quote_c))]) (data_quoted_k) Tryd.func76 (by kernel_rfl) ⟨⟨_, Tryd.func76, by kernel_rfl, rfl⟩⟩ hsz ((.cons units_Quote_ok .nil) : TabOk hY Tryd.prog Glob [(81, (units_Quote_c))]) (fun _ _ hle h => h.mono hle) (by kernel_rfl)
    trivial
    (fun z => by kernel_rfl)
structure Rec_data_writer_value where
  data_writer_value : T_api_Data → (List UInt8) → Option ((List UInt8) × Unit)
def data_writer_value_s : Shape := ⟨[(0, .ptr 0 0), (1, .st 25)], [.cells 82 [.junk, .own 1], .arr 5]⟩
def data_writer_value_o : List OutP := [⟨false, .tup [], [.cells 82 [.junk, .own 1], .arr 5]⟩]
def data_writer_value_c (g_ : Rec_data_writer_value) : Dn.Callee Y := callee Y [] data_writer_value_s data_writer_value_o (fun z => g_.data_writer_value z.1 z.2.1)
structure Rec_data_writer_value_ok (g_ : Rec_data_writer_value) : Prop where
  data_writer_value : COk hY Tryd.prog Glob 66 (data_writer_value_c g_)
def data_writer_value_l2 (g_ : Rec_data_writer_value) : (List T_api_Data) × Int × Int × (List UInt8) × T_api_Data × Unit → Option (((List T_api_Data) × Int × Int × (List UInt8) × T_api_Data × Unit) ⊕ ((List UInt8) × Unit))
  | (v_22, v_23, v_24, l_25, x_26, ()) =>
    if (decide (v_24 < v_23)) = true then
     Option.bind (getI v_22 v_24) fun x_27 =>
     if (decide (v_24 > 0)) = true then
      Option.bind (data_writer_lay ([([44] : Str)] : List Str) l_25) fun r_28 =>
      Option.bind (getI x_26.Keys v_24) fun x_29 =>
      Option.bind (data_quoted x_29) fun r_30 =>
      Option.bind (data_writer_lay ([r_30.1, ([58] : Str)] : List Str) r_28.1) fun r_31 =>
      Option.bind (g_.data_writer_value (re25 x_27) r_31.1) fun r_32 =>
      let n_33 := (IntKind.wrap .i64 (v_24 + 1))
      some (Sum.inl (v_22, v_23, n_33, r_32.1, (re25 x_26), ()))
     else
      Option.bind (getI x_26.Keys v_24) fun x_34 =>
      Option.bind (data_quoted x_34) fun r_35 =>
      Option.bind (data_writer_lay ([r_35.1, ([58] : Str)] : List Str) l_25) fun r_36 =>
      Option.bind (g_.data_writer_value (re25 x_27) r_36.1) fun r_37 =>
      let n_38 := (IntKind.wrap .i64 (v_24 + 1))
      some (Sum.inl (v_22, v_23, n_38, r_37.1, (re25 x_26), ()))
    else
     Option.bind (data_writer_lay ([([125] : Str)] : List Str) l_25) fun r_39 =>
     some (Sum.inr (r_39.1, ()))
def data_writer_value_l1 (g_ : Rec_data_writer_value) : (List T_api_Data) × Int × Int × (List UInt8) × Unit → Option (((List T_api_Data) × Int × Int × (List UInt8) × Unit) ⊕ ((List UInt8) × Unit))
  | (v_11, v_12, v_13, l_14, ()) =>
    if (decide (v_13 < v_12)) = true then
     Option.bind (getI v_11 v_13) fun x_15 =>
     if (decide (v_13 > 0)) = true then
      Option.bind (data_writer_lay ([([44] : Str)] : List Str) l_14) fun r_16 =>
      Option.bind (g_.data_writer_value (re25 x_15) r_16.1) fun r_17 =>
      let n_18 := (IntKind.wrap .i64 (v_13 + 1))
      some (Sum.inl (v_11, v_12, n_18, r_17.1, ()))
     else
      Option.bind (g_.data_writer_value (re25 x_15) l_14) fun r_19 =>
      let n_20 := (IntKind.wrap .i64 (v_13 + 1))
      some (Sum.inl (v_11, v_12, n_20, r_19.1, ()))
    else
     Option.bind (data_writer_lay ([([93] : Str)] : List Str) l_14) fun r_21 =>
     some (Sum.inr (r_21.1, ()))
def data_writer_value_b (g_ : Rec_data_writer_value) (v : T_api_Data) (l : List UInt8) : Option ((List UInt8) × Unit) :=
  if (v.Kind == 0) = true then
   Option.bind (data_writer_lay ([([117, 110, 100, 101, 102, 105, 110, 101, 100] : Str)] : List Str) l) fun r_1 =>
   some (r_1.1, ())
  else
   if (v.Kind == 1) = true then
    Option.bind (data_writer_lay ([([110, 117, 108, 108] : Str)] : List Str) l) fun r_2 =>
    some (r_2.1, ())
   else
    if (v.Kind == 2) = true then
     Option.bind (strconv_FormatBool (v.N == 1)) fun r_3 =>
     Option.bind (data_writer_lay ([r_3.1] : List Str) l) fun r_4 =>
     some (r_4.1, ())
    else
     if (v.Kind == 3) = true then
      Option.bind (strconv_FormatInt v.N 10) fun r_5 =>
      Option.bind (data_writer_lay ([r_5.1] : List Str) l) fun r_6 =>
      some (r_6.1, ())
     else
      if (v.Kind == 4) = true then
       Option.bind (data_quoted v.S) fun r_7 =>
       Option.bind (data_writer_lay ([r_7.1] : List Str) l) fun r_8 =>
       some (r_8.1, ())
      else
       if (v.Kind == 5) = true then
        Option.bind (data_writer_lay ([([91] : Str)] : List Str) l) fun r_9 =>
        Lp.loop (data_writer_value_l1 g_) (v.L, ((v.L.length : Nat) : Int), 0, r_9.1, ())
       else
        Option.bind (data_writer_lay ([([123] : Str)] : List Str) l) fun r_10 =>
        Lp.loop (data_writer_value_l2 g_) (v.L, ((v.L.length : Nat) : Int), 0, r_10.1, (re25 v), ())
def data_writer_value_d (g_ : Rec_data_writer_value) : Dn.Callee Y := callee Y [] data_writer_value_s data_writer_value_o (fun z => data_writer_value_b g_ z.1 z.2.1)
def data_writer_value_k (g_ : Rec_data_writer_value) : Cuts Y (ParO Y data_writer_value_o) := (.loop [[7, 5, 2, 1, 2, 3, 2, 4, 2, 4, 2, 4, 2, 4, 2, 4, 2, 5, 2, 2], [8, 5, 2, 1, 2, 3, 2, 4, 2, 4, 2, 4, 2, 4, 2, 4, 2, 5, 2, 2], [6, 2, 1, 2, 3, 2, 4, 2, 4, 2, 4, 2, 4, 2, 4, 2, 5, 2, 2], [2, 2, 3, 2, 4, 2, 4, 2, 4, 2, 4, 2, 4, 2, 5, 2, 2], [6, 2, 2]] ⟨[(0, .ptr 0 0), (83, .sl 25), (84, .int .i64), (85, .int .i64)], [.cells 82 [.junk, .own 1], .arr 5]⟩ (data_writer_value_l1 g_) .nil (.loop [[7, 5, 2, 1, 2, 4, 2, 4, 2, 4, 2, 4, 2, 4, 2, 4, 2, 5, 2, 2], [8, 5, 2, 1, 2, 4, 2, 4, 2, 4, 2, 4, 2, 4, 2, 4, 2, 5, 2, 2], [6, 2, 1, 2, 4, 2, 4, 2, 4, 2, 4, 2, 4, 2, 4, 2, 5, 2, 2], [2, 2, 4, 2, 4, 2, 4, 2, 4, 2, 4, 2, 4, 2, 5, 2, 2], [6, 2, 2]] ⟨[(0, .ptr 0 0), (3, .ptr 2 0), (14, .sl 25), (15, .int .i64), (16, .int .i64)], [.cells 82 [.junk, .own 1], .arr 5, .whole 25 25]⟩ (data_writer_value_l2 g_) .nil .nil))
theorem data_writer_value_b_ok (g_ : Rec_data_writer_value) (hg_ : Rec_data_writer_value_ok g_) : COk hY Tryd.prog Glob 66 (data_writer_value_d g_) :=
  fn_ok (body := (Tryd.f66.body).getD .skip) (T := [(73, (data_writer_lay_c)), (74, (strconv_FormatBool_c)), (75, (strconv_FormatInt_c)), (76, (data_quoted_c)), (66, (data_writer_value_c g_))]) (data_writer_value_k g_) Tryd.func66 (by kernel_rfl) ⟨⟨_, Tryd.func66, by kernel_rfl, rfl⟩⟩ hsz ((.cons data_writer_lay_ok (.cons strconv_FormatBool_ok (.cons strconv_FormatInt_ok (.cons data_quoted_ok (.cons hg_.data_writer_value .nil))))) : TabOk hY Tryd.prog Glob [(73, (data_writer_lay_c)), (74, (strconv_FormatBool_c)), (75, (strconv_FormatInt_c)), (76, (data_quoted_c)), (66, (data_writer_value_c g_))]) (fun _ _ hle h => h.mono hle) (by kernel_rfl)
    ⟨fun z => by kernel_rfl, trivial, ⟨fun z => by kernel_rfl, trivial, trivial⟩⟩
    (fun z => by kernel_rfl)
def Rec_data_writer_value_g : Nat → Rec_data_writer_value
  | 0 => ⟨fun _ _ => none⟩
  | n + 1 => ⟨data_writer_value_b (Rec_data_writer_value_g n)⟩
theorem Rec_data_writer_value_all : ∀ n, Rec_data_writer_value_ok (Rec_data_writer_value_g n)
  | 0 => ⟨COk.none ⟨⟨_, Tryd.func66, by kernel_rfl, rfl⟩⟩⟩
  | n + 1 => ⟨data_writer_value_b_ok _ (Rec_data_writer_value_all n)⟩
def data_writer_value : T_api_Data → (List UInt8) → Option ((List UInt8) × Unit) := (Rec_data_writer_value_g Lp.big).data_writer_value
theorem data_writer_value_ok : COk hY Tryd.prog Glob 66 (data_writer_value_c (Rec_data_writer_value_g Lp.big)) := (Rec_data_writer_value_all Lp.big).data_writer_value
def strings_Builder_String_c : Dn.Callee Y := strC Y 5
theorem strings_Builder_String_ok : COk hY Tryd.prog Glob 27 strings_Builder_String_c := strC_ok Tryd.lays169 Tryd.Builder_Extra_169 ⟨⟨_, Tryd.func27, by kernel_rfl, rfl⟩⟩ hsz
def data_Text (v : T_api_Data) : Option (Str × Int × Unit) :=
  Option.bind (data_Check (re25 v)) fun r_1 =>
  if (r_1.1 != 0) = true then
   some (([] : Str), r_1.1, ())
  else
   Option.bind (data_writer_value (re25 v) ([] : List UInt8)) fun r_2 =>
   some (r_2.1, 0, ())
def data_Text_s : Shape := ⟨[(0, .st 25)], []⟩
def data_Text_o : List OutP := [⟨false, .tup [.str, .int .i64], []⟩]
def data_Text_c : Dn.Callee Y := callee Y [] data_Text_s data_Text_o (fun z => data_Text z.1)
def data_Text_k : Cuts Y (ParO Y data_Text_o) := .nil
theorem data_Text_ok : COk hY Tryd.prog Glob 50 (data_Text_c) :=
  fn_ok (body := (Tryd.f50.body).getD .skip) (T := [(24, (data_Check_c)), (66, (data_writer_value_c (Rec_data_writer_value_g Lp.big))), (27, (strings_Builder_String_c))]) (data_Text_k) Tryd.func50 (by kernel_rfl) ⟨⟨_, Tryd.func50, by kernel_rfl, rfl⟩⟩ hsz ((.cons data_Check_ok (.cons data_writer_value_ok (.cons strings_Builder_String_ok .nil))) : TabOk hY Tryd.prog Glob [(24, (data_Check_c)), (66, (data_writer_value_c (Rec_data_writer_value_g Lp.big))), (27, (strings_Builder_String_c))]) (fun _ _ hle h => h.mono hle) (by kernel_rfl)
    trivial
    (fun z => by kernel_rfl)
structure Rec_json_writer_value where
  json_writer_value : T_api_Data → (List UInt8) → Option ((List UInt8) × Unit)
def json_writer_value_s : Shape := ⟨[(0, .ptr 0 0), (1, .st 25)], [.cells 55 [.junk, .own 1], .arr 5]⟩
def json_writer_value_o : List OutP := [⟨false, .tup [], [.cells 55 [.junk, .own 1], .arr 5]⟩]
def json_writer_value_c (g_ : Rec_json_writer_value) : Dn.Callee Y := callee Y [] json_writer_value_s json_writer_value_o (fun z => g_.json_writer_value z.1 z.2.1)
structure Rec_json_writer_value_ok (g_ : Rec_json_writer_value) : Prop where
  json_writer_value : COk hY Tryd.prog Glob 25 (json_writer_value_c g_)
def json_writer_value_j5 (g_ : Rec_json_writer_value) (named_40 : Bool) (first_41 : Bool) (i_42 : Int) (v_43 : List T_api_Data) (v_44 : Int) (v_45 : Int) (l_46 : List UInt8) (x_47 : T_api_Data) (x_48 : T_api_Data) : Option ((Bool × Bool × (List T_api_Data) × Int × Int × (List UInt8) × T_api_Data × Unit) ⊕ ((List UInt8) × Unit)) :=
  if named_40 = true then
   Option.bind (getI x_47.Keys i_42) fun x_49 =>
   Option.bind (json_writer_str x_49 l_46) fun r_50 =>
   Option.bind (json_writer_plain ([58] : Str) r_50.1) fun r_51 =>
   Option.bind (g_.json_writer_value (re25 x_48) r_51.1) fun r_52 =>
   let n_53 := (IntKind.wrap .i64 (v_45 + 1))
   some (Sum.inl (named_40, first_41, v_43, v_44, n_53, r_52.1, (re25 x_47), ()))
  else
   Option.bind (g_.json_writer_value (re25 x_48) l_46) fun r_54 =>
   let n_55 := (IntKind.wrap .i64 (v_45 + 1))
   some (Sum.inl (named_40, first_41, v_43, v_44, n_55, r_54.1, (re25 x_47), ()))
def json_writer_value_j4 (g_ : Rec_json_writer_value) (named_32 : Bool) (i_33 : Int) (v_34 : List T_api_Data) (v_35 : Int) (v_36 : Int) (l_37 : List UInt8) (x_38 : T_api_Data) (x_39 : T_api_Data) : Option ((Bool × Bool × (List T_api_Data) × Int × Int × (List UInt8) × T_api_Data × Unit) ⊕ ((List UInt8) × Unit)) :=
  json_writer_value_j5 g_ named_32 false i_33 v_34 v_35 v_36 l_37 (re25 x_38) (re25 x_39)
def json_writer_value_l3 (g_ : Rec_json_writer_value) : Bool × Bool × (List T_api_Data) × Int × Int × (List UInt8) × T_api_Data × Unit → Option ((Bool × Bool × (List T_api_Data) × Int × Int × (List UInt8) × T_api_Data × Unit) ⊕ ((List UInt8) × Unit))
  | (named_16, first_17, v_18, v_19, v_20, l_21, x_22, ()) =>
    if (decide (v_20 < v_19)) = true then
     Option.bind (getI v_18 v_20) fun x_23 =>
     let b_24 := (named_16 && (x_23.Kind == 0))
     if b_24 = true then
      let n_25 := (IntKind.wrap .i64 (v_20 + 1))
      some (Sum.inl (named_16, first_17, v_18, v_19, n_25, l_21, (re25 x_22), ()))
     else
      if (!first_17) = true then
       Option.bind (json_writer_plain ([44] : Str) l_21) fun r_26 =>
       json_writer_value_j4 g_ named_16 v_20 v_18 v_19 v_20 r_26.1 (re25 x_22) (re25 x_23)
      else
       json_writer_value_j4 g_ named_16 v_20 v_18 v_19 v_20 l_21 (re25 x_22) (re25 x_23)
    else
     let n_27 := (IntKind.wrap .i64 (x_22.Kind - 5))
     let n_28 := (IntKind.wrap .i64 (x_22.Kind - 5))
     let n_29 := (IntKind.wrap .i64 (n_28 + 1))
     Option.bind (cutL ([93, 125] : Str) n_27 n_29) fun s_30 =>
     Option.bind (json_writer_plain s_30 l_21) fun r_31 =>
     some (Sum.inr (r_31.1, ()))
def json_writer_value_j2 (g_ : Rec_json_writer_value) (named_7 : Bool) (l_8 : List UInt8) (x_9 : T_api_Data) : Option ((List UInt8) × Unit) :=
  let n_10 := (IntKind.wrap .i64 (x_9.Kind - 5))
  let n_11 := (IntKind.wrap .i64 (x_9.Kind - 5))
  let n_12 := (IntKind.wrap .i64 (n_11 + 1))
  Option.bind (cutL ([91, 123] : Str) n_10 n_12) fun s_13 =>
  Option.bind (json_writer_plain s_13 l_8) fun r_14 =>
  let n_15 := ((x_9.L.length : Nat) : Int)
  Lp.loop (json_writer_value_l3 g_) (named_7, true, x_9.L, n_15, 0, r_14.1, (re25 x_9), ())
def json_writer_value_j1 (g_ : Rec_json_writer_value) (l_5 : List UInt8) (x_6 : T_api_Data) : Option ((List UInt8) × Unit) :=
  json_writer_value_j2 g_ (x_6.Kind == 6) l_5 (re25 x_6)
def json_writer_value_b (g_ : Rec_json_writer_value) (v : T_api_Data) (l : List UInt8) : Option ((List UInt8) × Unit) :=
  if (v.Kind == 0) = true then
   Option.bind (json_writer_plain ([110, 117, 108, 108] : Str) l) fun r_1 =>
   some (r_1.1, ())
  else
   if (v.Kind == 4) = true then
    Option.bind (json_writer_str v.S l) fun r_2 =>
    some (r_2.1, ())
   else
    if (v.Kind == 5) = true then
     json_writer_value_j1 g_ l (re25 v)
    else
     if (v.Kind == 6) = true then
      json_writer_value_j1 g_ l (re25 v)
     else
      Option.bind (data_Text (re25 v)) fun r_3 =>
      Option.bind (json_writer_plain r_3.1 l) fun r_4 =>
      some (r_4.1, ())
def json_writer_value_d (g_ : Rec_json_writer_value) : Dn.Callee Y := callee Y [] json_writer_value_s json_writer_value_o (fun z => json_writer_value_b g_ z.1 z.2.1)
def json_writer_value_k (g_ : Rec_json_writer_value) : Cuts Y (ParO Y json_writer_value_o) := (.join [[1, 3, 2, 4, 2, 4, 2, 5, 2, 2], [2, 3, 2, 4, 2, 4, 2, 5, 2, 2], [6, 2, 2]] ⟨[(0, .ptr 0 0), (3, .ptr 2 0)], [.cells 55 [.junk, .own 1], .arr 5, .whole 25 25]⟩ (fun z => json_writer_value_j1 g_ z.1 z.2.1) (.join [[1, 2, 3, 2, 4, 2, 4, 2, 5, 2, 2], [2, 2, 3, 2, 4, 2, 4, 2, 5, 2, 2], [6, 2, 2]] ⟨[(0, .ptr 0 0), (3, .ptr 2 0), (4, .bool)], [.cells 55 [.junk, .own 1], .arr 5, .whole 25 25]⟩ (fun z => json_writer_value_j2 g_ z.1 z.2.1 z.2.2.1) (.loop [[7, 5, 2, 1, 2, 2, 2, 3, 2, 4, 2, 4, 2, 5, 2, 2], [8, 5, 2, 1, 2, 2, 2, 3, 2, 4, 2, 4, 2, 5, 2, 2], [6, 2, 1, 2, 2, 2, 3, 2, 4, 2, 4, 2, 5, 2, 2], [2, 2, 2, 2, 3, 2, 4, 2, 4, 2, 5, 2, 2], [6, 2, 2]] ⟨[(0, .ptr 0 0), (3, .ptr 2 0), (4, .bool), (5, .bool), (47, .sl 25), (48, .int .i64), (49, .int .i64)], [.cells 55 [.junk, .own 1], .arr 5, .whole 25 25]⟩ (json_writer_value_l3 g_) (.join [[1, 2, 2, 2, 5, 1, 2, 2, 7, 5, 2, 1, 2, 2, 2, 3, 2, 4, 2, 4, 2, 5, 2, 2], [2, 2, 2, 2, 5, 1, 2, 2, 7, 5, 2, 1, 2, 2, 2, 3, 2, 4, 2, 4, 2, 5, 2, 2], [6, 1, 2, 2, 7, 5, 2, 1, 2, 2, 2, 3, 2, 4, 2, 4, 2, 5, 2, 2], [2, 2, 2, 7, 5, 2, 1, 2, 2, 2, 3, 2, 4, 2, 4, 2, 5, 2, 2], [8, 5, 2, 1, 2, 2, 2, 3, 2, 4, 2, 4, 2, 5, 2, 2], [6, 2, 1, 2, 2, 2, 3, 2, 4, 2, 4, 2, 5, 2, 2], [2, 2, 2, 2, 3, 2, 4, 2, 4, 2, 5, 2, 2], [6, 2, 2]] ⟨[(0, .ptr 0 0), (3, .ptr 2 0), (4, .bool), (6, .int .i64), (7, .ptr 3 0), (47, .sl 25), (48, .int .i64), (49, .int .i64)], [.cells 55 [.junk, .own 1], .arr 5, .whole 25 25, .whole 25 25]⟩ (fun z => json_writer_value_j4 g_ z.1 z.2.1 z.2.2.1 z.2.2.2.1 z.2.2.2.2.1 z.2.2.2.2.2.1 z.2.2.2.2.2.2.1 z.2.2.2.2.2.2.2.1) (.join [[1, 1, 2, 2, 2, 2, 5, 1, 2, 2, 7, 5, 2, 1, 2, 2, 2, 3, 2, 4, 2, 4, 2, 5, 2, 2], [2, 1, 2, 2, 2, 2, 5, 1, 2, 2, 7, 5, 2, 1, 2, 2, 2, 3, 2, 4, 2, 4, 2, 5, 2, 2], [2, 2, 2, 2, 2, 5, 1, 2, 2, 7, 5, 2, 1, 2, 2, 2, 3, 2, 4, 2, 4, 2, 5, 2, 2], [6, 1, 2, 2, 7, 5, 2, 1, 2, 2, 2, 3, 2, 4, 2, 4, 2, 5, 2, 2], [2, 2, 2, 7, 5, 2, 1, 2, 2, 2, 3, 2, 4, 2, 4, 2, 5, 2, 2], [8, 5, 2, 1, 2, 2, 2, 3, 2, 4, 2, 4, 2, 5, 2, 2], [6, 2, 1, 2, 2, 2, 3, 2, 4, 2, 4, 2, 5, 2, 2], [2, 2, 2, 2, 3, 2, 4, 2, 4, 2, 5, 2, 2], [6, 2, 2]] ⟨[(0, .ptr 0 0), (3, .ptr 2 0), (4, .bool), (5, .bool), (6, .int .i64), (7, .ptr 3 0), (47, .sl 25), (48, .int .i64), (49, .int .i64)], [.cells 55 [.junk, .own 1], .arr 5, .whole 25 25, .whole 25 25]⟩ (fun z => json_writer_value_j5 g_ z.1 z.2.1 z.2.2.1 z.2.2.2.1 z.2.2.2.2.1 z.2.2.2.2.2.1 z.2.2.2.2.2.2.1 z.2.2.2.2.2.2.2.1 z.2.2.2.2.2.2.2.2.1) .nil)) .nil)))
theorem json_writer_value_b_ok (g_ : Rec_json_writer_value) (hg_ : Rec_json_writer_value_ok g_) : COk hY Tryd.prog Glob 25 (json_writer_value_d g_) :=
  fn_ok (body := (Tryd.f25.body).getD .skip) (T := [(48, (json_writer_plain_c)), (49, (json_writer_str_c)), (50, (data_Text_c)), (25, (json_writer_value_c g_))]) (json_writer_value_k g_) Tryd.func25 (by kernel_rfl) ⟨⟨_, Tryd.func25, by kernel_rfl, rfl⟩⟩ hsz ((.cons json_writer_plain_ok (.cons json_writer_str_ok (.cons data_Text_ok (.cons hg_.json_writer_value .nil)))) : TabOk hY Tryd.prog Glob [(48, (json_writer_plain_c)), (49, (json_writer_str_c)), (50, (data_Text_c)), (25, (json_writer_value_c g_))]) (fun _ _ hle h => h.mono hle) (by kernel_rfl)
    ⟨fun z => by kernel_rfl, ⟨fun z => by kernel_rfl, ⟨fun z => by kernel_rfl, ⟨fun z => by kernel_rfl, ⟨fun z => by kernel_rfl, trivial⟩⟩, trivial⟩⟩⟩
    (fun z => by kernel_rfl)
def Rec_json_writer_value_g : Nat → Rec_json_writer_value
  | 0 => ⟨fun _ _ => none⟩
  | n + 1 => ⟨json_writer_value_b (Rec_json_writer_value_g n)⟩
theorem Rec_json_writer_value_all : ∀ n, Rec_json_writer_value_ok (Rec_json_writer_value_g n)
  | 0 => ⟨COk.none ⟨⟨_, Tryd.func25, by kernel_rfl, rfl⟩⟩⟩
  | n + 1 => ⟨json_writer_value_b_ok _ (Rec_json_writer_value_all n)⟩
def json_writer_value : T_api_Data → (List UInt8) → Option ((List UInt8) × Unit) := (Rec_json_writer_value_g Lp.big).json_writer_value
theorem json_writer_value_ok : COk hY Tryd.prog Glob 25 (json_writer_value_c (Rec_json_writer_value_g Lp.big)) := (Rec_json_writer_value_all Lp.big).json_writer_value
def strings_Builder_Len (l : List UInt8) : Option (Int × (List UInt8) × Unit) :=
  some (((l.length : Nat) : Int), l, ())
def strings_Builder_Len_s : Shape := ⟨[(0, .ptr 0 0)], [.cells 55 [.junk, .own 1], .arr 5]⟩
def strings_Builder_Len_o : List OutP := [⟨false, .int .i64, [.cells 55 [.junk, .own 1], .arr 5]⟩]
def strings_Builder_Len_c : Dn.Callee Y := callee Y [] strings_Builder_Len_s strings_Builder_Len_o (fun z => strings_Builder_Len z.1)
def strings_Builder_Len_k : Cuts Y (ParO Y strings_Builder_Len_o) := .nil
theorem strings_Builder_Len_ok : COk hY Tryd.prog Glob 26 (strings_Builder_Len_c) :=
  fn_ok (body := (Tryd.f26.body).getD .skip) (T := []) (strings_Builder_Len_k) Tryd.func26 (by kernel_rfl) ⟨⟨_, Tryd.func26, by kernel_rfl, rfl⟩⟩ hsz .nil (fun _ _ hle h => h.mono hle) (by kernel_rfl)
    trivial
    (fun z => by kernel_rfl)
def json_Write (v : T_api_Data) : Option (Str × Int × Unit) :=
  Option.bind (data_Check (re25 v)) fun r_1 =>
  if (r_1.1 != 0) = true then
   some (([] : Str), r_1.1, ())
  else
   if (v.Kind == 0) = true then
    some (([] : Str), 4, ())
   else
    Option.bind (json_writer_value (re25 v) ([] : List UInt8)) fun r_2 =>
    Option.bind (strings_Builder_Len r_2.1) fun r_3 =>
    if (decide (r_3.1 > 8192)) = true then
     some (([] : Str), 100, ())
    else
     some (r_3.2.1, 0, ())
def json_Write_s : Shape := ⟨[(0, .st 25)], []⟩
def json_Write_o : List OutP := [⟨false, .tup [.str, .int .i64], []⟩]
def json_Write_c : Dn.Callee Y := callee Y [] json_Write_s json_Write_o (fun z => json_Write z.1)
def json_Write_k : Cuts Y (ParO Y json_Write_o) := .nil
theorem json_Write_ok : COk hY Tryd.prog Glob 10 (json_Write_c) :=
  fn_ok (body := (Tryd.f10.body).getD .skip) (T := [(24, (data_Check_c)), (25, (json_writer_value_c (Rec_json_writer_value_g Lp.big))), (26, (strings_Builder_Len_c)), (27, (strings_Builder_String_c))]) (json_Write_k) Tryd.func10 (by kernel_rfl) ⟨⟨_, Tryd.func10, by kernel_rfl, rfl⟩⟩ hsz ((.cons data_Check_ok (.cons json_writer_value_ok (.cons strings_Builder_Len_ok (.cons strings_Builder_String_ok .nil)))) : TabOk hY Tryd.prog Glob [(24, (data_Check_c)), (25, (json_writer_value_c (Rec_json_writer_value_g Lp.big))), (26, (strings_Builder_Len_c)), (27, (strings_Builder_String_c))]) (fun _ _ hle h => h.mono hle) (by kernel_rfl)
    trivial
    (fun z => by kernel_rfl)
def credenzaref01_Check (u : Str) : Option (Bool × Unit) :=
  let n_1 := (Int.tmod ((u.length : Nat) : Int) 2)
  some ((n_1 == 0), ())
def credenzaref01_Check_s : Shape := ⟨[(0, .str)], []⟩
def credenzaref01_Check_o : List OutP := [⟨false, .bool, []⟩]
def credenzaref01_Check_c : Dn.Callee Y := callee Y [] credenzaref01_Check_s credenzaref01_Check_o (fun z => credenzaref01_Check z.1)
def credenzaref01_Check_k : Cuts Y (ParO Y credenzaref01_Check_o) := .nil
theorem credenzaref01_Check_ok : COk hY Tryd.prog Glob 19 (credenzaref01_Check_c) :=
  fn_ok (body := (Tryd.f19.body).getD .skip) (T := []) (credenzaref01_Check_k) Tryd.func19 (by kernel_rfl) ⟨⟨_, Tryd.func19, by kernel_rfl, rfl⟩⟩ hsz .nil (fun _ _ hle h => h.mono hle) (by kernel_rfl)
    trivial
    (fun z => by kernel_rfl)
def credenzaref03_keys_l2 : Str × (List Str) × Int × Int × (List Str) × Int × Int × T_api_Data × Unit → Option ((Str × (List Str) × Int × Int × (List Str) × Int × Int × T_api_Data × Unit) ⊕ (((List Str) × Int × Int × T_api_Data × Unit) ⊕ (Bool × Unit)))
  | (k_10, v_11, v_12, v_13, v_14, v_15, v_16, x_17, ()) =>
    if (decide (v_16 < v_15)) = true then
     Option.bind (getI v_14 v_16) fun x_18 =>
     if (x_18 == k_10) = true then
      some (Sum.inr (Sum.inr (false, ())))
     else
      let n_19 := (IntKind.wrap .i64 (v_16 + 1))
      some (Sum.inl (k_10, v_11, v_12, v_13, v_14, v_15, n_19, (re25 x_17), ()))
    else
     Option.bind (credenzaref01_Check k_10) fun r_20 =>
     if (!r_20.1) = true then
      some (Sum.inr (Sum.inr (false, ())))
     else
      let n_21 := (IntKind.wrap .i64 (v_13 + 1))
      some (Sum.inr (Sum.inl (v_11, v_12, n_21, (re25 x_17), ())))
def credenzaref03_keys_l1 : (List Str) × Int × Int × T_api_Data × Unit → Option (((List Str) × Int × Int × T_api_Data × Unit) ⊕ (Bool × Unit))
  | (v_4, v_5, v_6, x_7, ()) =>
    if (decide (v_6 < v_5)) = true then
     Option.bind (getI v_4 v_6) fun x_8 =>
     Option.bind (cutL x_7.Keys 0 v_6) fun s_9 =>
     Lp.loop credenzaref03_keys_l2 (x_8, v_4, v_5, v_6, s_9, ((s_9.length : Nat) : Int), 0, (re25 x_7), ())
    else
     some (Sum.inr (true, ()))
def credenzaref03_keys (v : T_api_Data) : Option (Bool × Unit) :=
  let n_1 := ((v.Keys.length : Nat) : Int)
  let b_2 := (n_1 != ((v.L.length : Nat) : Int))
  if b_2 = true then
   some (false, ())
  else
   let n_3 := ((v.Keys.length : Nat) : Int)
   Lp.loop credenzaref03_keys_l1 (v.Keys, n_3, 0, (re25 v), ())
def credenzaref03_keys_s : Shape := ⟨[(0, .st 25)], []⟩
def credenzaref03_keys_o : List OutP := [⟨false, .bool, []⟩]
def credenzaref03_keys_c : Dn.Callee Y := callee Y [] credenzaref03_keys_s credenzaref03_keys_o (fun z => credenzaref03_keys z.1)
def credenzaref03_keys_k : Cuts Y (ParO Y credenzaref03_keys_o) := (.loop [[7, 5, 2, 1, 2, 2], [8, 5, 2, 1, 2, 2], [6, 2, 1, 2, 2], [2, 2, 2]] ⟨[(1, .ptr 0 0), (15, .sl 9), (16, .int .i64), (17, .int .i64)], [.whole 25 25]⟩ (credenzaref03_keys_l1) (.loop [[7, 5, 2, 1, 2, 5, 1, 2, 2, 7, 5, 2, 1, 2, 2], [8, 5, 2, 1, 2, 5, 1, 2, 2, 7, 5, 2, 1, 2, 2], [6, 2, 1, 2, 5, 1, 2, 2, 7, 5, 2, 1, 2, 2], [2, 2, 5, 1, 2, 2, 7, 5, 2, 1, 2, 2], [6, 1, 2, 2, 7, 5, 2, 1, 2, 2], [2, 2, 2, 7, 5, 2, 1, 2, 2], [8, 5, 2, 1, 2, 2], [6, 2, 1, 2, 2], [2, 2, 2]] ⟨[(1, .ptr 0 0), (4, .str), (15, .sl 9), (16, .int .i64), (17, .int .i64), (25, .sl 9), (26, .int .i64), (27, .int .i64)], [.whole 25 25]⟩ (credenzaref03_keys_l2) .nil .nil) .nil)
theorem credenzaref03_keys_ok : COk hY Tryd.prog Glob 77 (credenzaref03_keys_c) :=
  fn_ok (body := (Tryd.f77.body).getD .skip) (T := [(19, (credenzaref01_Check_c))]) (credenzaref03_keys_k) Tryd.func77 (by kernel_rfl) ⟨⟨_, Tryd.func77, by kernel_rfl, rfl⟩⟩ hsz ((.cons credenzaref01_Check_ok .nil) : TabOk hY Tryd.prog Glob [(19, (credenzaref01_Check_c))]) (fun _ _ hle h => h.mono hle) (by kernel_rfl)
    ⟨fun z => by kernel_rfl, ⟨fun z => by kernel_rfl, trivial, trivial⟩, trivial⟩
    (fun z => by kernel_rfl)
def credenzaref03_own (t : T_api_Data) : Option (Bool × Unit) :=
  if (t.Kind == 0) = true then
   let b_1 := ((t.N == 0) && (t.S == ([] : Str)))
   let b_2 := (b_1 && (((t.Keys.length : Nat) : Int) == 0))
   let b_3 := (b_2 && (((t.L.length : Nat) : Int) == 0))
   some (b_3, ())
  else
   if (t.Kind == 1) = true then
    let b_4 := ((t.N == 0) && (t.S == ([] : Str)))
    let b_5 := (b_4 && (((t.Keys.length : Nat) : Int) == 0))
    let b_6 := (b_5 && (((t.L.length : Nat) : Int) == 0))
    some (b_6, ())
   else
    if (t.Kind == 2) = true then
     let b_7 := (((t.N == 0) || (t.N == 1)) && (t.S == ([] : Str)))
     let b_8 := (b_7 && (((t.Keys.length : Nat) : Int) == 0))
     let b_9 := (b_8 && (((t.L.length : Nat) : Int) == 0))
     some (b_9, ())
    else
     if (t.Kind == 3) = true then
      let b_10 := (decide (t.N ≥ (-9007199254740991)))
      let b_11 := (b_10 && (decide (t.N ≤ 9007199254740991)))
      let b_12 := (b_11 && (t.S == ([] : Str)))
      let b_13 := (b_12 && (((t.Keys.length : Nat) : Int) == 0))
      let b_14 := (b_13 && (((t.L.length : Nat) : Int) == 0))
      some (b_14, ())
     else
      if (t.Kind == 4) = true then
       if (t.N == 0) = true then
        Option.bind (credenzaref01_Check t.S) fun r_15 =>
        let b_16 := (r_15.1 && (((t.Keys.length : Nat) : Int) == 0))
        let b_17 := (b_16 && (((t.L.length : Nat) : Int) == 0))
        some (b_17, ())
       else
        some (false, ())
      else
       if (t.Kind == 5) = true then
        let b_18 := ((t.N == 0) && (t.S == ([] : Str)))
        let b_19 := (b_18 && (((t.Keys.length : Nat) : Int) == 0))
        some (b_19, ())
       else
        if (t.Kind == 6) = true then
         let b_20 := ((t.N == 0) && (t.S == ([] : Str)))
         if b_20 = true then
          Option.bind (credenzaref03_keys (re25 t)) fun r_21 =>
          some (r_21.1, ())
         else
          some (false, ())
        else
         some (false, ())
def credenzaref03_own_s : Shape := ⟨[(0, .st 25)], []⟩
def credenzaref03_own_o : List OutP := [⟨false, .bool, []⟩]
def credenzaref03_own_c : Dn.Callee Y := callee Y [] credenzaref03_own_s credenzaref03_own_o (fun z => credenzaref03_own z.1)
def credenzaref03_own_k : Cuts Y (ParO Y credenzaref03_own_o) := .nil
theorem credenzaref03_own_ok : COk hY Tryd.prog Glob 67 (credenzaref03_own_c) :=
  fn_ok (body := (Tryd.f67.body).getD .skip) (T := [(19, (credenzaref01_Check_c)), (77, (credenzaref03_keys_c))]) (credenzaref03_own_k) Tryd.func67 (by kernel_rfl) ⟨⟨_, Tryd.func67, by kernel_rfl, rfl⟩⟩ hsz ((.cons credenzaref01_Check_ok (.cons credenzaref03_keys_ok .nil)) : TabOk hY Tryd.prog Glob [(19, (credenzaref01_Check_c)), (77, (credenzaref03_keys_c))]) (fun _ _ hle h => h.mono hle) (by kernel_rfl)
    trivial
    (fun z => by kernel_rfl)
structure Rec_credenzaref03_may where
  credenzaref03_may : T_api_Data → Option (Bool × Unit)
def credenzaref03_may_s : Shape := ⟨[(0, .st 25)], []⟩
def credenzaref03_may_o : List OutP := [⟨false, .bool, []⟩]
def credenzaref03_may_c (g_ : Rec_credenzaref03_may) : Dn.Callee Y := callee Y [] credenzaref03_may_s credenzaref03_may_o (fun z => g_.credenzaref03_may z.1)
structure Rec_credenzaref03_may_ok (g_ : Rec_credenzaref03_may) : Prop where
  credenzaref03_may : COk hY Tryd.prog Glob 51 (credenzaref03_may_c g_)
def credenzaref03_may_l1 (g_ : Rec_credenzaref03_may) : (List T_api_Data) × Int × Int × Unit → Option (((List T_api_Data) × Int × Int × Unit) ⊕ (Bool × Unit))
  | (v_2, v_3, v_4, ()) =>
    if (decide (v_4 < v_3)) = true then
     Option.bind (getI v_2 v_4) fun x_5 =>
     Option.bind (g_.credenzaref03_may (re25 x_5)) fun r_6 =>
     if (!r_6.1) = true then
      some (Sum.inr (false, ()))
     else
      let n_7 := (IntKind.wrap .i64 (v_4 + 1))
      some (Sum.inl (v_2, v_3, n_7, ()))
    else
     some (Sum.inr (true, ()))
def credenzaref03_may_b (g_ : Rec_credenzaref03_may) (v : T_api_Data) : Option (Bool × Unit) :=
  Option.bind (credenzaref03_own (re25 v)) fun r_1 =>
  if (!r_1.1) = true then
   some (false, ())
  else
   Lp.loop (credenzaref03_may_l1 g_) (v.L, ((v.L.length : Nat) : Int), 0, ())
def credenzaref03_may_d (g_ : Rec_credenzaref03_may) : Dn.Callee Y := callee Y [] credenzaref03_may_s credenzaref03_may_o (fun z => credenzaref03_may_b g_ z.1)
def credenzaref03_may_k (g_ : Rec_credenzaref03_may) : Cuts Y (ParO Y credenzaref03_may_o) := (.loop [[7, 5, 2, 1, 2, 2], [8, 5, 2, 1, 2, 2], [6, 2, 1, 2, 2], [2, 2, 2]] ⟨[(9, .sl 25), (10, .int .i64), (11, .int .i64)], []⟩ (credenzaref03_may_l1 g_) .nil .nil)
theorem credenzaref03_may_b_ok (g_ : Rec_credenzaref03_may) (hg_ : Rec_credenzaref03_may_ok g_) : COk hY Tryd.prog Glob 51 (credenzaref03_may_d g_) :=
  fn_ok (body := (Tryd.f51.body).getD .skip) (T := [(67, (credenzaref03_own_c)), (51, (credenzaref03_may_c g_))]) (credenzaref03_may_k g_) Tryd.func51 (by kernel_rfl) ⟨⟨_, Tryd.func51, by kernel_rfl, rfl⟩⟩ hsz ((.cons credenzaref03_own_ok (.cons hg_.credenzaref03_may .nil)) : TabOk hY Tryd.prog Glob [(67, (credenzaref03_own_c)), (51, (credenzaref03_may_c g_))]) (fun _ _ hle h => h.mono hle) (by kernel_rfl)
    ⟨fun z => by kernel_rfl, trivial, trivial⟩
    (fun z => by kernel_rfl)
def Rec_credenzaref03_may_g : Nat → Rec_credenzaref03_may
  | 0 => ⟨fun _ => none⟩
  | n + 1 => ⟨credenzaref03_may_b (Rec_credenzaref03_may_g n)⟩
theorem Rec_credenzaref03_may_all : ∀ n, Rec_credenzaref03_may_ok (Rec_credenzaref03_may_g n)
  | 0 => ⟨COk.none ⟨⟨_, Tryd.func51, by kernel_rfl, rfl⟩⟩⟩
  | n + 1 => ⟨credenzaref03_may_b_ok _ (Rec_credenzaref03_may_all n)⟩
def credenzaref03_may : T_api_Data → Option (Bool × Unit) := (Rec_credenzaref03_may_g Lp.big).credenzaref03_may
theorem credenzaref03_may_ok : COk hY Tryd.prog Glob 51 (credenzaref03_may_c (Rec_credenzaref03_may_g Lp.big)) := (Rec_credenzaref03_may_all Lp.big).credenzaref03_may
structure Rec_credenzaref03_deep where
  credenzaref03_deep : T_api_Data → Option (Int × Unit)
def credenzaref03_deep_s : Shape := ⟨[(0, .st 25)], []⟩
def credenzaref03_deep_o : List OutP := [⟨false, .int .i64, []⟩]
def credenzaref03_deep_c (g_ : Rec_credenzaref03_deep) : Dn.Callee Y := callee Y [] credenzaref03_deep_s credenzaref03_deep_o (fun z => g_.credenzaref03_deep z.1)
structure Rec_credenzaref03_deep_ok (g_ : Rec_credenzaref03_deep) : Prop where
  credenzaref03_deep : COk hY Tryd.prog Glob 52 (credenzaref03_deep_c g_)
def credenzaref03_deep_l1 (g_ : Rec_credenzaref03_deep) : Int × (List T_api_Data) × Int × Int × Unit → Option ((Int × (List T_api_Data) × Int × Int × Unit) ⊕ (Int × Unit))
  | (n_1, v_2, v_3, v_4, ()) =>
    if (decide (v_4 < v_3)) = true then
     Option.bind (getI v_2 v_4) fun x_5 =>
     Option.bind (g_.credenzaref03_deep (re25 x_5)) fun r_6 =>
     let n_7 := (if r_6.1 > n_1 then r_6.1 else n_1)
     let n_8 := (IntKind.wrap .i64 (v_4 + 1))
     some (Sum.inl (n_7, v_2, v_3, n_8, ()))
    else
     let n_9 := (IntKind.wrap .i64 (n_1 + 1))
     some (Sum.inr (n_9, ()))
def credenzaref03_deep_b (g_ : Rec_credenzaref03_deep) (v : T_api_Data) : Option (Int × Unit) :=
  Lp.loop (credenzaref03_deep_l1 g_) (0, v.L, ((v.L.length : Nat) : Int), 0, ())
def credenzaref03_deep_d (g_ : Rec_credenzaref03_deep) : Dn.Callee Y := callee Y [] credenzaref03_deep_s credenzaref03_deep_o (fun z => credenzaref03_deep_b g_ z.1)
def credenzaref03_deep_k (g_ : Rec_credenzaref03_deep) : Cuts Y (ParO Y credenzaref03_deep_o) := (.loop [[7, 5, 2, 1, 2, 2], [8, 5, 2, 1, 2, 2], [6, 2, 1, 2, 2], [2, 2, 2]] ⟨[(3, .int .i64), (7, .sl 25), (8, .int .i64), (9, .int .i64)], []⟩ (credenzaref03_deep_l1 g_) .nil .nil)
theorem credenzaref03_deep_b_ok (g_ : Rec_credenzaref03_deep) (hg_ : Rec_credenzaref03_deep_ok g_) : COk hY Tryd.prog Glob 52 (credenzaref03_deep_d g_) :=
  fn_ok (body := (Tryd.f52.body).getD .skip) (T := [(52, (credenzaref03_deep_c g_))]) (credenzaref03_deep_k g_) Tryd.func52 (by kernel_rfl) ⟨⟨_, Tryd.func52, by kernel_rfl, rfl⟩⟩ hsz ((.cons hg_.credenzaref03_deep .nil) : TabOk hY Tryd.prog Glob [(52, (credenzaref03_deep_c g_))]) (fun _ _ hle h => h.mono hle) (by kernel_rfl)
    ⟨fun z => by kernel_rfl, trivial, trivial⟩
    (fun z => by kernel_rfl)
def Rec_credenzaref03_deep_g : Nat → Rec_credenzaref03_deep
  | 0 => ⟨fun _ => none⟩
  | n + 1 => ⟨credenzaref03_deep_b (Rec_credenzaref03_deep_g n)⟩
theorem Rec_credenzaref03_deep_all : ∀ n, Rec_credenzaref03_deep_ok (Rec_credenzaref03_deep_g n)
  | 0 => ⟨COk.none ⟨⟨_, Tryd.func52, by kernel_rfl, rfl⟩⟩⟩
  | n + 1 => ⟨credenzaref03_deep_b_ok _ (Rec_credenzaref03_deep_all n)⟩
def credenzaref03_deep : T_api_Data → Option (Int × Unit) := (Rec_credenzaref03_deep_g Lp.big).credenzaref03_deep
theorem credenzaref03_deep_ok : COk hY Tryd.prog Glob 52 (credenzaref03_deep_c (Rec_credenzaref03_deep_g Lp.big)) := (Rec_credenzaref03_deep_all Lp.big).credenzaref03_deep
def credenzaref03_Check (v : T_api_Data) : Option (Int × Unit) :=
  Option.bind (credenzaref03_may (re25 v)) fun r_1 =>
  if (!r_1.1) = true then
   some (30, ())
  else
   Option.bind (credenzaref03_deep (re25 v)) fun r_2 =>
   if (decide (r_2.1 > 20)) = true then
    some (31, ())
   else
    some (0, ())
def credenzaref03_Check_s : Shape := ⟨[(0, .st 25)], []⟩
def credenzaref03_Check_o : List OutP := [⟨false, .int .i64, []⟩]
def credenzaref03_Check_c : Dn.Callee Y := callee Y [] credenzaref03_Check_s credenzaref03_Check_o (fun z => credenzaref03_Check z.1)
def credenzaref03_Check_k : Cuts Y (ParO Y credenzaref03_Check_o) := .nil
theorem credenzaref03_Check_ok : COk hY Tryd.prog Glob 28 (credenzaref03_Check_c) :=
  fn_ok (body := (Tryd.f28.body).getD .skip) (T := [(51, (credenzaref03_may_c (Rec_credenzaref03_may_g Lp.big))), (52, (credenzaref03_deep_c (Rec_credenzaref03_deep_g Lp.big)))]) (credenzaref03_Check_k) Tryd.func28 (by kernel_rfl) ⟨⟨_, Tryd.func28, by kernel_rfl, rfl⟩⟩ hsz ((.cons credenzaref03_may_ok (.cons credenzaref03_deep_ok .nil)) : TabOk hY Tryd.prog Glob [(51, (credenzaref03_may_c (Rec_credenzaref03_may_g Lp.big))), (52, (credenzaref03_deep_c (Rec_credenzaref03_deep_g Lp.big)))]) (fun _ _ hle h => h.mono hle) (by kernel_rfl)
    trivial
    (fun z => by kernel_rfl)
def credenzaref01_Make_l1 : (List Int) × Int × Int × (List UInt8) × Unit → Option (((List Int) × Int × Int × (List UInt8) × Unit) ⊕ (Str × Unit))
  | (v_1, v_2, v_3, l_4, ()) =>
    if (decide (v_3 < v_2)) = true then
     Option.bind (getI v_1 v_3) fun x_5 =>
     let n_6 := (IntKind.wrap .i64 (Int.tdiv x_5 256))
     let n_7 := (IntKind.wrap .u8 (Int.tmod x_5 256))
     Option.bind (toB (IntKind.wrap .u8 n_6)) fun b_8 =>
     Option.bind (toB n_7) fun b_9 =>
     Option.bind (room (l_4.length + ([b_8, b_9] : List UInt8).length)) fun _ =>
     let l_10 := l_4 ++ ([b_8, b_9] : List UInt8)
     let n_11 := (IntKind.wrap .i64 (v_3 + 1))
     some (Sum.inl (v_1, v_2, n_11, l_10, ()))
    else
     some (Sum.inr (l_4, ()))
def credenzaref01_Make (l : List Int) : Option (Str × Unit) :=
  Lp.loop credenzaref01_Make_l1 (l, ((l.length : Nat) : Int), 0, ([] : List UInt8), ())
def credenzaref01_Make_s : Shape := ⟨[(0, .sl 3)], []⟩
def credenzaref01_Make_o : List OutP := [⟨false, .str, []⟩]
def credenzaref01_Make_c : Dn.Callee Y := callee Y [] credenzaref01_Make_s credenzaref01_Make_o (fun z => credenzaref01_Make z.1)
def credenzaref01_Make_k : Cuts Y (ParO Y credenzaref01_Make_o) := (.loop [[7, 5, 2, 1, 2, 2], [8, 5, 2, 1, 2, 2], [6, 2, 1, 2, 2], [2, 2, 2]] ⟨[(3, .own 0), (6, .sl 3), (7, .int .i64), (8, .int .i64)], [.arr 5]⟩ (credenzaref01_Make_l1) .nil .nil)
theorem credenzaref01_Make_ok : COk hY Tryd.prog Glob 55 (credenzaref01_Make_c) :=
  fn_ok (body := (Tryd.f55.body).getD .skip) (T := []) (credenzaref01_Make_k) Tryd.func55 (by kernel_rfl) ⟨⟨_, Tryd.func55, by kernel_rfl, rfl⟩⟩ hsz .nil (fun _ _ hle h => h.mono hle) (by kernel_rfl)
    ⟨fun z => by kernel_rfl, trivial, trivial⟩
    (fun z => by kernel_rfl)
def credenzaref01_Of_l1 : Str × Int × (List Int) × Unit → Option ((Str × Int × (List Int) × Unit) ⊕ (Str × Int × Unit))
  | (s_1, i_2, l_3, ()) =>
    let b_4 := (decide (i_2 < ((s_1.length : Nat) : Int)))
    if b_4 = true then
     Option.bind (getB s_1 i_2) fun c_5 =>
     if (decide (c_5 > 127)) = true then
      some (Sum.inr (([] : Str), 10, ()))
     else
      Option.bind (getB s_1 i_2) fun c_6 =>
      Option.bind (room (l_3.length + ([(IntKind.wrap .i64 c_6)] : List Int).length)) fun _ =>
      let l_7 := l_3 ++ ([(IntKind.wrap .i64 c_6)] : List Int)
      let n_8 := (IntKind.wrap .i64 (i_2 + 1))
      some (Sum.inl (s_1, n_8, l_7, ()))
    else
     Option.bind (credenzaref01_Make l_3) fun r_9 =>
     some (Sum.inr (r_9.1, 0, ()))
def credenzaref01_Of (s : Str) : Option (Str × Int × Unit) :=
  Lp.loop credenzaref01_Of_l1 (s, 0, ([] : List Int), ())
def credenzaref01_Of_s : Shape := ⟨[(0, .str)], []⟩
def credenzaref01_Of_o : List OutP := [⟨false, .tup [.str, .int .i64], []⟩]
def credenzaref01_Of_c : Dn.Callee Y := callee Y [] credenzaref01_Of_s credenzaref01_Of_o (fun z => credenzaref01_Of z.1)
def credenzaref01_Of_k : Cuts Y (ParO Y credenzaref01_Of_o) := (.loop [[7, 5, 2, 1, 2, 2], [8, 5, 2, 1, 2, 2], [6, 2, 1, 2, 2], [2, 2, 2]] ⟨[(0, .str), (4, .own 0), (5, .int .i64)], [.arr 3]⟩ (credenzaref01_Of_l1) .nil .nil)
theorem credenzaref01_Of_ok : COk hY Tryd.prog Glob 31 (credenzaref01_Of_c) :=
  fn_ok (body := (Tryd.f31.body).getD .skip) (T := [(55, (credenzaref01_Make_c))]) (credenzaref01_Of_k) Tryd.func31 (by kernel_rfl) ⟨⟨_, Tryd.func31, by kernel_rfl, rfl⟩⟩ hsz ((.cons credenzaref01_Make_ok .nil) : TabOk hY Tryd.prog Glob [(55, (credenzaref01_Make_c))]) (fun _ _ hle h => h.mono hle) (by kernel_rfl)
    ⟨fun z => by kernel_rfl, trivial, trivial⟩
    (fun z => by kernel_rfl)
def credenzaref01_U (s : Str) : Option (Str × Unit) :=
  Option.bind (credenzaref01_Of s) fun r_1 =>
  some (r_1.1, ())
def credenzaref01_U_s : Shape := ⟨[(0, .str)], []⟩
def credenzaref01_U_o : List OutP := [⟨false, .str, []⟩]
def credenzaref01_U_c : Dn.Callee Y := callee Y [] credenzaref01_U_s credenzaref01_U_o (fun z => credenzaref01_U z.1)
def credenzaref01_U_k : Cuts Y (ParO Y credenzaref01_U_o) := .nil
theorem credenzaref01_U_ok : COk hY Tryd.prog Glob 13 (credenzaref01_U_c) :=
  fn_ok (body := (Tryd.f13.body).getD .skip) (T := [(31, (credenzaref01_Of_c))]) (credenzaref01_U_k) Tryd.func13 (by kernel_rfl) ⟨⟨_, Tryd.func13, by kernel_rfl, rfl⟩⟩ hsz ((.cons credenzaref01_Of_ok .nil) : TabOk hY Tryd.prog Glob [(31, (credenzaref01_Of_c))]) (fun _ _ hle h => h.mono hle) (by kernel_rfl)
    trivial
    (fun z => by kernel_rfl)
structure Rec_credenzaref10_digits where
  credenzaref10_digits : Int → Option (Str × Unit)
def credenzaref10_digits_s : Shape := ⟨[(0, .int .u64)], []⟩
def credenzaref10_digits_o : List OutP := [⟨false, .str, []⟩]
def credenzaref10_digits_c (g_ : Rec_credenzaref10_digits) : Dn.Callee Y := callee Y [] credenzaref10_digits_s credenzaref10_digits_o (fun z => g_.credenzaref10_digits z.1)
structure Rec_credenzaref10_digits_ok (g_ : Rec_credenzaref10_digits) : Prop where
  credenzaref10_digits : COk hY Tryd.prog Glob 68 (credenzaref10_digits_c g_)
def credenzaref10_digits_b (g_ : Rec_credenzaref10_digits) (n : Int) : Option (Str × Unit) :=
  let n_1 := (IntKind.wrap .u64 (48 + (Int.tmod n 10)))
  Option.bind (toB (IntKind.wrap .u8 n_1)) fun b_2 =>
  if (decide (n < 10)) = true then
   some (([b_2] : List UInt8), ())
  else
   let n_3 := (IntKind.wrap .u64 (Int.tdiv n 10))
   Option.bind (g_.credenzaref10_digits n_3) fun r_4 =>
   Option.bind (catS r_4.1 ([b_2] : List UInt8)) fun s_5 =>
   some (s_5, ())
def credenzaref10_digits_d (g_ : Rec_credenzaref10_digits) : Dn.Callee Y := callee Y [] credenzaref10_digits_s credenzaref10_digits_o (fun z => credenzaref10_digits_b g_ z.1)
def credenzaref10_digits_k (g_ : Rec_credenzaref10_digits) : Cuts Y (ParO Y credenzaref10_digits_o) := .nil
theorem credenzaref10_digits_b_ok (g_ : Rec_credenzaref10_digits) (hg_ : Rec_credenzaref10_digits_ok g_) : COk hY Tryd.prog Glob 68 (credenzaref10_digits_d g_) :=
  fn_ok (body := (Tryd.f68.body).getD .skip) (T := [(68, (credenzaref10_digits_c g_))]) (credenzaref10_digits_k g_) Tryd.func68 (by kernel_rfl) ⟨⟨_, Tryd.func68, by kernel_rfl, rfl⟩⟩ hsz ((.cons hg_.credenzaref10_digits .nil) : TabOk hY Tryd.prog Glob [(68, (credenzaref10_digits_c g_))]) (fun _ _ hle h => h.mono hle) (by kernel_rfl)
    trivial
    (fun z => by kernel_rfl)
def Rec_credenzaref10_digits_g : Nat → Rec_credenzaref10_digits
  | 0 => ⟨fun _ => none⟩
  | n + 1 => ⟨credenzaref10_digits_b (Rec_credenzaref10_digits_g n)⟩
theorem Rec_credenzaref10_digits_all : ∀ n, Rec_credenzaref10_digits_ok (Rec_credenzaref10_digits_g n)
  | 0 => ⟨COk.none ⟨⟨_, Tryd.func68, by kernel_rfl, rfl⟩⟩⟩
  | n + 1 => ⟨credenzaref10_digits_b_ok _ (Rec_credenzaref10_digits_all n)⟩
def credenzaref10_digits : Int → Option (Str × Unit) := (Rec_credenzaref10_digits_g Lp.big).credenzaref10_digits
theorem credenzaref10_digits_ok : COk hY Tryd.prog Glob 68 (credenzaref10_digits_c (Rec_credenzaref10_digits_g Lp.big)) := (Rec_credenzaref10_digits_all Lp.big).credenzaref10_digits
def credenzaref10_Text (n : Int) : Option (Str × Unit) :=
  if (decide (n < 0)) = true then
   let n_1 := (IntKind.wrap .i64 (0 - (IntKind.wrap .i64 (n + 1))))
   let n_2 := (IntKind.wrap .u64 ((IntKind.wrap .u64 n_1) + 1))
   Option.bind (credenzaref10_digits n_2) fun r_3 =>
   Option.bind (catS ([45] : Str) r_3.1) fun s_4 =>
   Option.bind (credenzaref01_U s_4) fun r_5 =>
   some (r_5.1, ())
  else
   Option.bind (credenzaref10_digits (IntKind.wrap .u64 n)) fun r_6 =>
   Option.bind (credenzaref01_U r_6.1) fun r_7 =>
   some (r_7.1, ())
def credenzaref10_Text_s : Shape := ⟨[(0, .int .i64)], []⟩
def credenzaref10_Text_o : List OutP := [⟨false, .str, []⟩]
def credenzaref10_Text_c : Dn.Callee Y := callee Y [] credenzaref10_Text_s credenzaref10_Text_o (fun z => credenzaref10_Text z.1)
def credenzaref10_Text_k : Cuts Y (ParO Y credenzaref10_Text_o) := .nil
theorem credenzaref10_Text_ok : COk hY Tryd.prog Glob 53 (credenzaref10_Text_c) :=
  fn_ok (body := (Tryd.f53.body).getD .skip) (T := [(68, (credenzaref10_digits_c (Rec_credenzaref10_digits_g Lp.big))), (13, (credenzaref01_U_c))]) (credenzaref10_Text_k) Tryd.func53 (by kernel_rfl) ⟨⟨_, Tryd.func53, by kernel_rfl, rfl⟩⟩ hsz ((.cons credenzaref10_digits_ok (.cons credenzaref01_U_ok .nil)) : TabOk hY Tryd.prog Glob [(68, (credenzaref10_digits_c (Rec_credenzaref10_digits_g Lp.big))), (13, (credenzaref01_U_c))]) (fun _ _ hle h => h.mono hle) (by kernel_rfl)
    trivial
    (fun z => by kernel_rfl)
def credenzaref01_List_l1 : Str × Int × (List Int) × Unit → Option ((Str × Int × (List Int) × Unit) ⊕ ((List Int) × Unit))
  | (u_1, i_2, l_3, ()) =>
    let n_4 := (IntKind.wrap .i64 (i_2 + 1))
    let b_5 := (decide (n_4 < ((u_1.length : Nat) : Int)))
    if b_5 = true then
     Option.bind (getB u_1 i_2) fun c_6 =>
     let n_7 := (IntKind.wrap .i64 ((IntKind.wrap .i64 c_6) * 256))
     let n_8 := (IntKind.wrap .i64 (i_2 + 1))
     Option.bind (getB u_1 n_8) fun c_9 =>
     let n_10 := (IntKind.wrap .i64 (n_7 + (IntKind.wrap .i64 c_9)))
     Option.bind (room (l_3.length + ([n_10] : List Int).length)) fun _ =>
     let l_11 := l_3 ++ ([n_10] : List Int)
     let n_12 := (IntKind.wrap .i64 (i_2 + 2))
     some (Sum.inl (u_1, n_12, l_11, ()))
    else
     some (Sum.inr (l_3, ()))
def credenzaref01_List (u : Str) : Option ((List Int) × Unit) :=
  Lp.loop credenzaref01_List_l1 (u, 0, ([] : List Int), ())
def credenzaref01_List_s : Shape := ⟨[(0, .str)], []⟩
def credenzaref01_List_o : List OutP := [⟨false, .sl 3, []⟩]
def credenzaref01_List_c : Dn.Callee Y := callee Y [] credenzaref01_List_s credenzaref01_List_o (fun z => credenzaref01_List z.1)
def credenzaref01_List_k : Cuts Y (ParO Y credenzaref01_List_o) := (.loop [[7, 5, 2, 1, 2, 2], [8, 5, 2, 1, 2, 2], [6, 2, 1, 2, 2], [2, 2, 2]] ⟨[(0, .str), (3, .own 0), (4, .int .i64)], [.arr 3]⟩ (credenzaref01_List_l1) .nil .nil)
theorem credenzaref01_List_ok : COk hY Tryd.prog Glob 20 (credenzaref01_List_c) :=
  fn_ok (body := (Tryd.f20.body).getD .skip) (T := []) (credenzaref01_List_k) Tryd.func20 (by kernel_rfl) ⟨⟨_, Tryd.func20, by kernel_rfl, rfl⟩⟩ hsz .nil (fun _ _ hle h => h.mono hle) (by kernel_rfl)
    ⟨fun z => by kernel_rfl, trivial, trivial⟩
    (fun z => by kernel_rfl)
def credenzaref13_hex (n : Int) : Option (Int × Unit) :=
  if (decide (n < 10)) = true then
   let n_1 := (IntKind.wrap .i64 (48 + n))
   some ((IntKind.wrap .u8 n_1), ())
  else
   let n_2 := (IntKind.wrap .i64 (97 + n))
   let n_3 := (IntKind.wrap .i64 (n_2 - 10))
   some ((IntKind.wrap .u8 n_3), ())
def credenzaref13_hex_s : Shape := ⟨[(0, .int .i64)], []⟩
def credenzaref13_hex_o : List OutP := [⟨false, .int .u8, []⟩]
def credenzaref13_hex_c : Dn.Callee Y := callee Y [] credenzaref13_hex_s credenzaref13_hex_o (fun z => credenzaref13_hex z.1)
def credenzaref13_hex_k : Cuts Y (ParO Y credenzaref13_hex_o) := .nil
theorem credenzaref13_hex_ok : COk hY Tryd.prog Glob 69 (credenzaref13_hex_c) :=
  fn_ok (body := (Tryd.f69.body).getD .skip) (T := []) (credenzaref13_hex_k) Tryd.func69 (by kernel_rfl) ⟨⟨_, Tryd.func69, by kernel_rfl, rfl⟩⟩ hsz .nil (fun _ _ hle h => h.mono hle) (by kernel_rfl)
    trivial
    (fun z => by kernel_rfl)
def credenzaref13_quoted_l1 : Str × (List Int) × Int × Int × Unit → Option ((Str × (List Int) × Int × Int × Unit) ⊕ (Str × Unit))
  | (out_4, v_5, v_6, v_7, ()) =>
    if (decide (v_7 < v_6)) = true then
     Option.bind (getI v_5 v_7) fun x_8 =>
     if (x_8 == 34) = true then
      Option.bind (credenzaref01_U ([92, 34] : Str)) fun r_9 =>
      Option.bind (catS out_4 r_9.1) fun s_10 =>
      let n_11 := (IntKind.wrap .i64 (v_7 + 1))
      some (Sum.inl (s_10, v_5, v_6, n_11, ()))
     else
      if (x_8 == 92) = true then
       Option.bind (credenzaref01_U ([92, 92] : Str)) fun r_12 =>
       Option.bind (catS out_4 r_12.1) fun s_13 =>
       let n_14 := (IntKind.wrap .i64 (v_7 + 1))
       some (Sum.inl (s_13, v_5, v_6, n_14, ()))
      else
       if (x_8 == 8) = true then
        Option.bind (credenzaref01_U ([92, 98] : Str)) fun r_15 =>
        Option.bind (catS out_4 r_15.1) fun s_16 =>
        let n_17 := (IntKind.wrap .i64 (v_7 + 1))
        some (Sum.inl (s_16, v_5, v_6, n_17, ()))
       else
        if (x_8 == 9) = true then
         Option.bind (credenzaref01_U ([92, 116] : Str)) fun r_18 =>
         Option.bind (catS out_4 r_18.1) fun s_19 =>
         let n_20 := (IntKind.wrap .i64 (v_7 + 1))
         some (Sum.inl (s_19, v_5, v_6, n_20, ()))
        else
         if (x_8 == 10) = true then
          Option.bind (credenzaref01_U ([92, 110] : Str)) fun r_21 =>
          Option.bind (catS out_4 r_21.1) fun s_22 =>
          let n_23 := (IntKind.wrap .i64 (v_7 + 1))
          some (Sum.inl (s_22, v_5, v_6, n_23, ()))
         else
          if (x_8 == 12) = true then
           Option.bind (credenzaref01_U ([92, 102] : Str)) fun r_24 =>
           Option.bind (catS out_4 r_24.1) fun s_25 =>
           let n_26 := (IntKind.wrap .i64 (v_7 + 1))
           some (Sum.inl (s_25, v_5, v_6, n_26, ()))
          else
           if (x_8 == 13) = true then
            Option.bind (credenzaref01_U ([92, 114] : Str)) fun r_27 =>
            Option.bind (catS out_4 r_27.1) fun s_28 =>
            let n_29 := (IntKind.wrap .i64 (v_7 + 1))
            some (Sum.inl (s_28, v_5, v_6, n_29, ()))
           else
            if (decide (x_8 < 32)) = true then
             let n_30 := (IntKind.wrap .i64 (Int.tdiv x_8 16))
             Option.bind (credenzaref13_hex n_30) fun r_31 =>
             Option.bind (credenzaref13_hex (Int.tmod x_8 16)) fun r_32 =>
             Option.bind (toB r_31.1) fun b_33 =>
             Option.bind (toB r_32.1) fun b_34 =>
             Option.bind (catS ([92, 117, 48, 48] : Str) ([b_33, b_34] : List UInt8)) fun s_35 =>
             Option.bind (credenzaref01_U s_35) fun r_36 =>
             Option.bind (catS out_4 r_36.1) fun s_37 =>
             let n_38 := (IntKind.wrap .i64 (v_7 + 1))
             some (Sum.inl (s_37, v_5, v_6, n_38, ()))
            else
             Option.bind (credenzaref01_Make ([x_8] : List Int)) fun r_39 =>
             Option.bind (catS out_4 r_39.1) fun s_40 =>
             let n_41 := (IntKind.wrap .i64 (v_7 + 1))
             some (Sum.inl (s_40, v_5, v_6, n_41, ()))
    else
     Option.bind (credenzaref01_U ([34] : Str)) fun r_42 =>
     Option.bind (catS out_4 r_42.1) fun s_43 =>
     some (Sum.inr (s_43, ()))
def credenzaref13_quoted (s : Str) : Option (Str × Unit) :=
  Option.bind (credenzaref01_U ([34] : Str)) fun r_1 =>
  Option.bind (credenzaref01_List s) fun r_2 =>
  let n_3 := ((r_2.1.length : Nat) : Int)
  Lp.loop credenzaref13_quoted_l1 (r_1.1, r_2.1, n_3, 0, ())
def credenzaref13_quoted_s : Shape := ⟨[(0, .str)], []⟩
def credenzaref13_quoted_o : List OutP := [⟨false, .str, []⟩]
def credenzaref13_quoted_c : Dn.Callee Y := callee Y [] credenzaref13_quoted_s credenzaref13_quoted_o (fun z => credenzaref13_quoted z.1)
def credenzaref13_quoted_k : Cuts Y (ParO Y credenzaref13_quoted_o) := (.loop [[7, 5, 2, 1, 2, 2], [8, 5, 2, 1, 2, 2], [6, 2, 1, 2, 2], [2, 2, 2]] ⟨[(3, .str), (8, .sl 3), (9, .int .i64), (10, .int .i64)], []⟩ (credenzaref13_quoted_l1) .nil .nil)
theorem credenzaref13_quoted_ok : COk hY Tryd.prog Glob 54 (credenzaref13_quoted_c) :=
  fn_ok (body := (Tryd.f54.body).getD .skip) (T := [(13, (credenzaref01_U_c)), (20, (credenzaref01_List_c)), (69, (credenzaref13_hex_c)), (55, (credenzaref01_Make_c))]) (credenzaref13_quoted_k) Tryd.func54 (by kernel_rfl) ⟨⟨_, Tryd.func54, by kernel_rfl, rfl⟩⟩ hsz ((.cons credenzaref01_U_ok (.cons credenzaref01_List_ok (.cons credenzaref13_hex_ok (.cons credenzaref01_Make_ok .nil)))) : TabOk hY Tryd.prog Glob [(13, (credenzaref01_U_c)), (20, (credenzaref01_List_c)), (69, (credenzaref13_hex_c)), (55, (credenzaref01_Make_c))]) (fun _ _ hle h => h.mono hle) (by kernel_rfl)
    ⟨fun z => by kernel_rfl, trivial, trivial⟩
    (fun z => by kernel_rfl)
structure Rec_credenzaref13_write where
  credenzaref13_write : T_api_Data → Option (Str × Unit)
def credenzaref13_write_s : Shape := ⟨[(0, .st 25)], []⟩
def credenzaref13_write_o : List OutP := [⟨false, .str, []⟩]
def credenzaref13_write_c (g_ : Rec_credenzaref13_write) : Dn.Callee Y := callee Y [] credenzaref13_write_s credenzaref13_write_o (fun z => g_.credenzaref13_write z.1)
structure Rec_credenzaref13_write_ok (g_ : Rec_credenzaref13_write) : Prop where
  credenzaref13_write : COk hY Tryd.prog Glob 29 (credenzaref13_write_c g_)
def credenzaref13_write_j3 (g_ : Rec_credenzaref13_write) (out_35 : Str) (i_36 : Int) (v_37 : List T_api_Data) (v_38 : Int) (v_39 : Int) (x_40 : T_api_Data) (x_41 : T_api_Data) : Option ((Str × (List T_api_Data) × Int × Int × T_api_Data × Unit) ⊕ (Str × Unit)) :=
  Option.bind (getI x_40.Keys i_36) fun x_42 =>
  Option.bind (credenzaref13_quoted x_42) fun r_43 =>
  Option.bind (credenzaref01_U ([58] : Str)) fun r_44 =>
  Option.bind (catS r_43.1 r_44.1) fun s_45 =>
  Option.bind (catS out_35 s_45) fun s_46 =>
  Option.bind (g_.credenzaref13_write (re25 x_41)) fun r_47 =>
  Option.bind (catS s_46 r_47.1) fun s_48 =>
  let n_49 := (IntKind.wrap .i64 (v_39 + 1))
  some (Sum.inl (s_48, v_37, v_38, n_49, (re25 x_40), ()))
def credenzaref13_write_j2 (g_ : Rec_credenzaref13_write) (out_25 : Str) (i_26 : Int) (v_27 : List T_api_Data) (v_28 : Int) (v_29 : Int) (x_30 : T_api_Data) (x_31 : T_api_Data) : Option ((Str × (List T_api_Data) × Int × Int × T_api_Data × Unit) ⊕ (Str × Unit)) :=
  if (x_30.Kind == 6) = true then
   credenzaref13_write_j3 g_ out_25 i_26 v_27 v_28 v_29 (re25 x_30) (re25 x_31)
  else
   Option.bind (g_.credenzaref13_write (re25 x_31)) fun r_32 =>
   Option.bind (catS out_25 r_32.1) fun s_33 =>
   let n_34 := (IntKind.wrap .i64 (v_29 + 1))
   some (Sum.inl (s_33, v_27, v_28, n_34, (re25 x_30), ()))
def credenzaref13_write_l1 (g_ : Rec_credenzaref13_write) : Str × (List T_api_Data) × Int × Int × T_api_Data × Unit → Option ((Str × (List T_api_Data) × Int × Int × T_api_Data × Unit) ⊕ (Str × Unit))
  | (out_7, v_8, v_9, v_10, x_11, ()) =>
    if (decide (v_10 < v_9)) = true then
     Option.bind (getI v_8 v_10) fun x_12 =>
     let b_13 := ((x_11.Kind == 6) && (x_12.Kind == 0))
     if b_13 = true then
      let n_14 := (IntKind.wrap .i64 (v_10 + 1))
      some (Sum.inl (out_7, v_8, v_9, n_14, (re25 x_11), ()))
     else
      if (!(out_7 == ([] : Str))) = true then
       Option.bind (credenzaref01_U ([44] : Str)) fun r_15 =>
       Option.bind (catS out_7 r_15.1) fun s_16 =>
       credenzaref13_write_j2 g_ s_16 v_10 v_8 v_9 v_10 (re25 x_11) (re25 x_12)
      else
       credenzaref13_write_j2 g_ out_7 v_10 v_8 v_9 v_10 (re25 x_11) (re25 x_12)
    else
     if (x_11.Kind == 5) = true then
      Option.bind (credenzaref01_U ([91] : Str)) fun r_17 =>
      Option.bind (catS r_17.1 out_7) fun s_18 =>
      Option.bind (credenzaref01_U ([93] : Str)) fun r_19 =>
      Option.bind (catS s_18 r_19.1) fun s_20 =>
      some (Sum.inr (s_20, ()))
     else
      Option.bind (credenzaref01_U ([123] : Str)) fun r_21 =>
      Option.bind (catS r_21.1 out_7) fun s_22 =>
      Option.bind (credenzaref01_U ([125] : Str)) fun r_23 =>
      Option.bind (catS s_22 r_23.1) fun s_24 =>
      some (Sum.inr (s_24, ()))
def credenzaref13_write_b (g_ : Rec_credenzaref13_write) (v : T_api_Data) : Option (Str × Unit) :=
  if (v.Kind == 0) = true then
   Option.bind (credenzaref01_U ([110, 117, 108, 108] : Str)) fun r_1 =>
   some (r_1.1, ())
  else
   if (v.Kind == 1) = true then
    Option.bind (credenzaref01_U ([110, 117, 108, 108] : Str)) fun r_2 =>
    some (r_2.1, ())
   else
    if (v.Kind == 2) = true then
     if (v.N == 0) = true then
      Option.bind (credenzaref01_U ([102, 97, 108, 115, 101] : Str)) fun r_3 =>
      some (r_3.1, ())
     else
      Option.bind (credenzaref01_U ([116, 114, 117, 101] : Str)) fun r_4 =>
      some (r_4.1, ())
    else
     if (v.Kind == 3) = true then
      Option.bind (credenzaref10_Text v.N) fun r_5 =>
      some (r_5.1, ())
     else
      if (v.Kind == 4) = true then
       Option.bind (credenzaref13_quoted v.S) fun r_6 =>
       some (r_6.1, ())
      else
       Lp.loop (credenzaref13_write_l1 g_) (([] : Str), v.L, ((v.L.length : Nat) : Int), 0, (re25 v), ())
def credenzaref13_write_d (g_ : Rec_credenzaref13_write) : Dn.Callee Y := callee Y [] credenzaref13_write_s credenzaref13_write_o (fun z => credenzaref13_write_b g_ z.1)
def credenzaref13_write_k (g_ : Rec_credenzaref13_write) : Cuts Y (ParO Y credenzaref13_write_o) := (.loop [[7, 5, 2, 1, 2, 2, 2], [8, 5, 2, 1, 2, 2, 2], [6, 2, 1, 2, 2, 2], [2, 2, 2, 2]] ⟨[(1, .ptr 0 0), (3, .str), (30, .sl 25), (31, .int .i64), (32, .int .i64)], [.whole 25 25]⟩ (credenzaref13_write_l1 g_) (.join [[1, 1, 2, 2, 2, 5, 1, 2, 2, 7, 5, 2, 1, 2, 2, 2], [2, 1, 2, 2, 2, 5, 1, 2, 2, 7, 5, 2, 1, 2, 2, 2], [2, 2, 2, 2, 5, 1, 2, 2, 7, 5, 2, 1, 2, 2, 2], [6, 1, 2, 2, 7, 5, 2, 1, 2, 2, 2], [2, 2, 2, 7, 5, 2, 1, 2, 2, 2], [8, 5, 2, 1, 2, 2, 2], [6, 2, 1, 2, 2, 2], [2, 2, 2, 2]] ⟨[(1, .ptr 0 0), (3, .str), (4, .int .i64), (5, .ptr 1 0), (30, .sl 25), (31, .int .i64), (32, .int .i64)], [.whole 25 25, .whole 25 25]⟩ (fun z => credenzaref13_write_j2 g_ z.1 z.2.1 z.2.2.1 z.2.2.2.1 z.2.2.2.2.1 z.2.2.2.2.2.1 z.2.2.2.2.2.2.1) (.join [[3, 2, 1, 2, 2, 2, 5, 1, 2, 2, 7, 5, 2, 1, 2, 2, 2], [2, 2, 2, 2, 5, 1, 2, 2, 7, 5, 2, 1, 2, 2, 2], [6, 1, 2, 2, 7, 5, 2, 1, 2, 2, 2], [2, 2, 2, 7, 5, 2, 1, 2, 2, 2], [8, 5, 2, 1, 2, 2, 2], [6, 2, 1, 2, 2, 2], [2, 2, 2, 2]] ⟨[(1, .ptr 0 0), (3, .str), (4, .int .i64), (5, .ptr 1 0), (30, .sl 25), (31, .int .i64), (32, .int .i64)], [.whole 25 25, .whole 25 25]⟩ (fun z => credenzaref13_write_j3 g_ z.1 z.2.1 z.2.2.1 z.2.2.2.1 z.2.2.2.2.1 z.2.2.2.2.2.1 z.2.2.2.2.2.2.1) .nil)) .nil)
theorem credenzaref13_write_b_ok (g_ : Rec_credenzaref13_write) (hg_ : Rec_credenzaref13_write_ok g_) : COk hY Tryd.prog Glob 29 (credenzaref13_write_d g_) :=
  fn_ok (body := (Tryd.f29.body).getD .skip) (T := [(13, (credenzaref01_U_c)), (53, (credenzaref10_Text_c)), (54, (credenzaref13_quoted_c)), (29, (credenzaref13_write_c g_))]) (credenzaref13_write_k g_) Tryd.func29 (by kernel_rfl) ⟨⟨_, Tryd.func29, by kernel_rfl, rfl⟩⟩ hsz ((.cons credenzaref01_U_ok (.cons credenzaref10_Text_ok (.cons credenzaref13_quoted_ok (.cons hg_.credenzaref13_write .nil)))) : TabOk hY Tryd.prog Glob [(13, (credenzaref01_U_c)), (53, (credenzaref10_Text_c)), (54, (credenzaref13_quoted_c)), (29, (credenzaref13_write_c g_))]) (fun _ _ hle h => h.mono hle) (by kernel_rfl)
    ⟨fun z => by kernel_rfl, ⟨fun z => by kernel_rfl, ⟨fun z => by kernel_rfl, trivial⟩⟩, trivial⟩
    (fun z => by kernel_rfl)
def Rec_credenzaref13_write_g : Nat → Rec_credenzaref13_write
  | 0 => ⟨fun _ => none⟩
  | n + 1 => ⟨credenzaref13_write_b (Rec_credenzaref13_write_g n)⟩
theorem Rec_credenzaref13_write_all : ∀ n, Rec_credenzaref13_write_ok (Rec_credenzaref13_write_g n)
  | 0 => ⟨COk.none ⟨⟨_, Tryd.func29, by kernel_rfl, rfl⟩⟩⟩
  | n + 1 => ⟨credenzaref13_write_b_ok _ (Rec_credenzaref13_write_all n)⟩
def credenzaref13_write : T_api_Data → Option (Str × Unit) := (Rec_credenzaref13_write_g Lp.big).credenzaref13_write
theorem credenzaref13_write_ok : COk hY Tryd.prog Glob 29 (credenzaref13_write_c (Rec_credenzaref13_write_g Lp.big)) := (Rec_credenzaref13_write_all Lp.big).credenzaref13_write
def credenzaref01_Len (u : Str) : Option (Int × Unit) :=
  Option.bind (credenzaref01_List u) fun r_1 =>
  let n_2 := ((r_1.1.length : Nat) : Int)
  some (n_2, ())
def credenzaref01_Len_s : Shape := ⟨[(0, .str)], []⟩
def credenzaref01_Len_o : List OutP := [⟨false, .int .i64, []⟩]
def credenzaref01_Len_c : Dn.Callee Y := callee Y [] credenzaref01_Len_s credenzaref01_Len_o (fun z => credenzaref01_Len z.1)
def credenzaref01_Len_k : Cuts Y (ParO Y credenzaref01_Len_o) := .nil
theorem credenzaref01_Len_ok : COk hY Tryd.prog Glob 30 (credenzaref01_Len_c) :=
  fn_ok (body := (Tryd.f30.body).getD .skip) (T := [(20, (credenzaref01_List_c))]) (credenzaref01_Len_k) Tryd.func30 (by kernel_rfl) ⟨⟨_, Tryd.func30, by kernel_rfl, rfl⟩⟩ hsz ((.cons credenzaref01_List_ok .nil) : TabOk hY Tryd.prog Glob [(20, (credenzaref01_List_c))]) (fun _ _ hle h => h.mono hle) (by kernel_rfl)
    trivial
    (fun z => by kernel_rfl)
def credenzaref13_Write (v : T_api_Data) : Option (Str × Int × Unit) :=
  Option.bind (credenzaref03_Check (re25 v)) fun r_1 =>
  if (r_1.1 != 0) = true then
   some (([] : Str), r_1.1, ())
  else
   if (v.Kind == 0) = true then
    some (([] : Str), 4, ())
   else
    Option.bind (credenzaref13_write (re25 v)) fun r_2 =>
    Option.bind (credenzaref01_Len r_2.1) fun r_3 =>
    if (decide (r_3.1 > 4096)) = true then
     some (([] : Str), 100, ())
    else
     some (r_2.1, 0, ())
def credenzaref13_Write_s : Shape := ⟨[(0, .st 25)], []⟩
def credenzaref13_Write_o : List OutP := [⟨false, .tup [.str, .int .i64], []⟩]
def credenzaref13_Write_c : Dn.Callee Y := callee Y [] credenzaref13_Write_s credenzaref13_Write_o (fun z => credenzaref13_Write z.1)
def credenzaref13_Write_k : Cuts Y (ParO Y credenzaref13_Write_o) := .nil
theorem credenzaref13_Write_ok : COk hY Tryd.prog Glob 11 (credenzaref13_Write_c) :=
  fn_ok (body := (Tryd.f11.body).getD .skip) (T := [(28, (credenzaref03_Check_c)), (29, (credenzaref13_write_c (Rec_credenzaref13_write_g Lp.big))), (30, (credenzaref01_Len_c))]) (credenzaref13_Write_k) Tryd.func11 (by kernel_rfl) ⟨⟨_, Tryd.func11, by kernel_rfl, rfl⟩⟩ hsz ((.cons credenzaref03_Check_ok (.cons credenzaref13_write_ok (.cons credenzaref01_Len_ok .nil))) : TabOk hY Tryd.prog Glob [(28, (credenzaref03_Check_c)), (29, (credenzaref13_write_c (Rec_credenzaref13_write_g Lp.big))), (30, (credenzaref01_Len_c))]) (fun _ _ hle h => h.mono hle) (by kernel_rfl)
    trivial
    (fun z => by kernel_rfl)
def json_parser_next (x : T_json_parser) : Option (Int × T_json_parser × Unit) :=
  Option.bind (units_At x.u x.at_) fun r_1 =>
  some (r_1.1, (re38 x), ())
def json_parser_next_s : Shape := ⟨[(0, .ptr 0 0)], [.whole 38 38]⟩
def json_parser_next_o : List OutP := [⟨false, .int .i64, [.whole 38 38]⟩]
def json_parser_next_c : Dn.Callee Y := callee Y [] json_parser_next_s json_parser_next_o (fun z => json_parser_next z.1)
def json_parser_next_k : Cuts Y (ParO Y json_parser_next_o) := .nil
theorem json_parser_next_ok : COk hY Tryd.prog Glob 40 (json_parser_next_c) :=
  fn_ok (body := (Tryd.f40.body).getD .skip) (T := [(60, (units_At_c))]) (json_parser_next_k) Tryd.func40 (by kernel_rfl) ⟨⟨_, Tryd.func40, by kernel_rfl, rfl⟩⟩ hsz ((.cons units_At_ok .nil) : TabOk hY Tryd.prog Glob [(60, (units_At_c))]) (fun _ _ hle h => h.mono hle) (by kernel_rfl)
    trivial
    (fun z => by kernel_rfl)
def json_parser_blanks_l1 : T_json_parser × Unit → Option ((T_json_parser × Unit) ⊕ (Int × T_json_parser × Unit))
  | (x_1, ()) =>
    Option.bind (json_parser_next (re38 x_1)) fun r_2 =>
    let b_3 := ((r_2.1 != 9) && (r_2.1 != 10))
    let b_4 := ((b_3 && (r_2.1 != 13)) && (r_2.1 != 32))
    if b_4 = true then
     some (Sum.inr (r_2.1, (re38 r_2.2.1), ()))
    else
     let n_5 := (IntKind.wrap .i64 (r_2.2.1.at_ + 1))
     some (Sum.inl ((⟨r_2.2.1.u, n_5, r_2.2.1.deep⟩ : T_json_parser), ()))
def json_parser_blanks (x : T_json_parser) : Option (Int × T_json_parser × Unit) :=
  Lp.loop json_parser_blanks_l1 ((re38 x), ())
def json_parser_blanks_s : Shape := ⟨[(0, .ptr 0 0)], [.whole 38 38]⟩
def json_parser_blanks_o : List OutP := [⟨false, .int .i64, [.whole 38 38]⟩]
def json_parser_blanks_c : Dn.Callee Y := callee Y [] json_parser_blanks_s json_parser_blanks_o (fun z => json_parser_blanks z.1)
def json_parser_blanks_k : Cuts Y (ParO Y json_parser_blanks_o) := (.loop [[7, 5, 2], [8, 5, 2], [6, 2]] ⟨[(0, .ptr 0 0)], [.whole 38 38]⟩ (json_parser_blanks_l1) .nil .nil)
theorem json_parser_blanks_ok : COk hY Tryd.prog Glob 17 (json_parser_blanks_c) :=
  fn_ok (body := (Tryd.f17.body).getD .skip) (T := [(40, (json_parser_next_c))]) (json_parser_blanks_k) Tryd.func17 (by kernel_rfl) ⟨⟨_, Tryd.func17, by kernel_rfl, rfl⟩⟩ hsz ((.cons json_parser_next_ok .nil) : TabOk hY Tryd.prog Glob [(40, (json_parser_next_c))]) (fun _ _ hle h => h.mono hle) (by kernel_rfl)
    ⟨fun z => by kernel_rfl, trivial, trivial⟩
    (fun z => by kernel_rfl)
def json_fail (e : Int) : Option (GErr × Unit) :=
  some ((GErr.code 26 e), ())
def json_fail_s : Shape := ⟨[(0, .int .i64)], []⟩
def json_fail_o : List OutP := [⟨true, .err, []⟩]
def json_fail_c : Dn.Callee Y := callee Y [] json_fail_s json_fail_o (fun z => json_fail z.1)
def json_fail_k : Cuts Y (ParO Y json_fail_o) := .nil
theorem json_fail_ok : COk hY Tryd.prog Glob 18 (json_fail_c) :=
  fn_ok (body := (Tryd.f18.body).getD .skip) (T := []) (json_fail_k) Tryd.func18 (by kernel_rfl) ⟨⟨_, Tryd.func18, by kernel_rfl, rfl⟩⟩ hsz .nil (fun _ _ hle h => h.mono hle) (by kernel_rfl)
    trivial
    (fun z => by kernel_rfl)
def json_parser_need_l1 : Str × Int × Int × T_json_parser × Unit → Option ((Str × Int × Int × T_json_parser × Unit) ⊕ ((GErr × T_json_parser × Unit) ⊕ (T_json_parser × Unit)))
  | (s_1, v_2, v_3, x_4, ()) =>
    if (decide (v_3 < v_2)) = true then
     Option.bind (getB s_1 v_3) fun c_5 =>
     Option.bind (json_parser_next (re38 x_4)) fun r_6 =>
     let b_7 := (r_6.1 != (IntKind.wrap .i64 c_5))
     if b_7 = true then
      Option.bind (json_fail 150) fun r_8 =>
      some (Sum.inr (Sum.inl (r_8.1, (re38 r_6.2.1), ())))
     else
      let n_9 := (IntKind.wrap .i64 (r_6.2.1.at_ + 1))
      let n_10 := (IntKind.wrap .i64 (v_3 + 1))
      some (Sum.inl (s_1, v_2, n_10, (⟨r_6.2.1.u, n_9, r_6.2.1.deep⟩ : T_json_parser), ()))
    else
     some (Sum.inr (Sum.inr ((re38 x_4), ())))
def json_parser_need (s : Str) (x : T_json_parser) : Option ((GErr × T_json_parser × Unit) ⊕ (T_json_parser × Unit)) :=
  Lp.loop json_parser_need_l1 (s, ((s.length : Nat) : Int), 0, (re38 x), ())
def json_parser_need_s : Shape := ⟨[(0, .ptr 0 0), (1, .str)], [.whole 38 38]⟩
def json_parser_need_o : List OutP := [⟨true, .err, [.whole 38 38]⟩, ⟨false, .tup [], [.whole 38 38]⟩]
def json_parser_need_c : Dn.Callee Y := callee Y [] json_parser_need_s json_parser_need_o (fun z => json_parser_need z.1 z.2.1)
def json_parser_need_k : Cuts Y (ParO Y json_parser_need_o) := (.loop [[7, 5, 2], [8, 5, 2], [6, 2]] ⟨[(0, .ptr 0 0), (1, .str), (6, .int .i64), (7, .int .i64)], [.whole 38 38]⟩ (json_parser_need_l1) .nil .nil)
theorem json_parser_need_ok : COk hY Tryd.prog Glob 33 (json_parser_need_c) :=
  fn_ok (body := (Tryd.f33.body).getD .skip) (T := [(40, (json_parser_next_c)), (18, (json_fail_c))]) (json_parser_need_k) Tryd.func33 (by kernel_rfl) ⟨⟨_, Tryd.func33, by kernel_rfl, rfl⟩⟩ hsz ((.cons json_parser_next_ok (.cons json_fail_ok .nil)) : TabOk hY Tryd.prog Glob [(40, (json_parser_next_c)), (18, (json_fail_c))]) (fun _ _ hle h => h.mono hle) (by kernel_rfl)
    ⟨fun z => by kernel_rfl, trivial, trivial⟩
    (fun z => by kernel_rfl)
def strings_Builder_WriteString_v3 (s : Str) (l : List UInt8) : Option (Int × GErr × (List UInt8) × Unit) :=
  Option.bind (room (l.length + s.length)) fun _ =>
  let l_1 := l ++ s
  some (((s.length : Nat) : Int), GErr.nil, l_1, ())
def strings_Builder_WriteString_v3_s : Shape := ⟨[(0, .ptr 0 0), (1, .str)], [.cells 53 [.junk, .own 1], .arr 5]⟩
def strings_Builder_WriteString_v3_o : List OutP := [⟨false, .tup [.int .i64, .err], [.cells 53 [.junk, .own 1], .arr 5]⟩]
def strings_Builder_WriteString_v3_c : Dn.Callee Y := callee Y [] strings_Builder_WriteString_v3_s strings_Builder_WriteString_v3_o (fun z => strings_Builder_WriteString_v3 z.1 z.2.1)
def strings_Builder_WriteString_v3_k : Cuts Y (ParO Y strings_Builder_WriteString_v3_o) := .nil
theorem strings_Builder_WriteString_v3_ok : COk hY Tryd.prog Glob 57 (strings_Builder_WriteString_v3_c) :=
  fn_ok (body := (Tryd.f57.body).getD .skip) (T := [(71, (strings_Builder_copyCheck_c))]) (strings_Builder_WriteString_v3_k) Tryd.func57 (by kernel_rfl) ⟨⟨_, Tryd.func57, by kernel_rfl, rfl⟩⟩ hsz ((.cons strings_Builder_copyCheck_ok .nil) : TabOk hY Tryd.prog Glob [(71, (strings_Builder_copyCheck_c))]) (fun _ _ hle h => h.mono hle) (by kernel_rfl)
    trivial
    (fun z => by kernel_rfl)
def json_parser_hex_j3 (n_16 : Int) (i_17 : Int) (v_18 : Int) (x_19 : T_json_parser) : Option ((Int × Int × T_json_parser × Unit) ⊕ ((GErr × T_json_parser × Unit) ⊕ (Str × T_json_parser × Unit))) :=
  let n_20 := (IntKind.wrap .i64 (n_16 * 2 ^ 4))
  let n_21 := (IntKind.wrap .i64 ((BitVec.ofInt 64 n_20 ||| BitVec.ofInt 64 i_17).toNat))
  let n_22 := (IntKind.wrap .i64 (x_19.at_ + 1))
  let n_23 := (IntKind.wrap .i64 (v_18 + 1))
  some (Sum.inl (n_21, n_23, (⟨x_19.u, n_22, x_19.deep⟩ : T_json_parser), ()))
def json_parser_hex_j2 (n_10 : Int) (i_11 : Int) (v_12 : Int) (x_13 : T_json_parser) : Option ((Int × Int × T_json_parser × Unit) ⊕ ((GErr × T_json_parser × Unit) ⊕ (Str × T_json_parser × Unit))) :=
  if (decide (i_11 < 0)) = true then
   Option.bind (json_fail 150) fun r_14 =>
   some (Sum.inr (Sum.inl (r_14.1, (re38 x_13), ())))
  else
   if (decide (i_11 > 15)) = true then
    let n_15 := (IntKind.wrap .i64 (i_11 - 6))
    json_parser_hex_j3 n_10 n_15 v_12 (re38 x_13)
   else
    json_parser_hex_j3 n_10 i_11 v_12 (re38 x_13)
def json_parser_hex_l1 : Int × Int × T_json_parser × Unit → Option ((Int × Int × T_json_parser × Unit) ⊕ ((GErr × T_json_parser × Unit) ⊕ (Str × T_json_parser × Unit)))
  | (n_1, v_2, x_3, ()) =>
    if (decide (v_2 < 4)) = true then
     Option.bind (json_parser_next (re38 x_3)) fun r_4 =>
     let b_5 := ((decide (r_4.1 ≥ 0)) && (decide (r_4.1 < 128)))
     if b_5 = true then
      Option.bind (strings_IndexByte ([48, 49, 50, 51, 52, 53, 54, 55, 56, 57, 97, 98, 99, 100, 101, 102, 65, 66, 67, 68, 69, 70] : Str) (IntKind.wrap .u8 r_4.1)) fun r_6 =>
      json_parser_hex_j2 n_1 r_6.1 v_2 (re38 r_4.2.1)
     else
      json_parser_hex_j2 n_1 (-1) v_2 (re38 r_4.2.1)
    else
     let n_7 := (IntKind.wrap .u8 (Int.fdiv n_1 (2 ^ 8)))
     Option.bind (toB n_7) fun b_8 =>
     Option.bind (toB (IntKind.wrap .u8 n_1)) fun b_9 =>
     some (Sum.inr (Sum.inr (([b_8, b_9] : List UInt8), (re38 x_3), ())))
def json_parser_hex (x : T_json_parser) : Option ((GErr × T_json_parser × Unit) ⊕ (Str × T_json_parser × Unit)) :=
  Lp.loop json_parser_hex_l1 (0, 0, (re38 x), ())
def json_parser_hex_s : Shape := ⟨[(0, .ptr 0 0)], [.whole 38 38]⟩
def json_parser_hex_o : List OutP := [⟨true, .err, [.whole 38 38]⟩, ⟨false, .str, [.whole 38 38]⟩]
def json_parser_hex_c : Dn.Callee Y := callee Y [] json_parser_hex_s json_parser_hex_o (fun z => json_parser_hex z.1)
def json_parser_hex_k : Cuts Y (ParO Y json_parser_hex_o) := (.loop [[7, 5, 2, 1, 2, 2], [8, 5, 2, 1, 2, 2], [6, 2, 1, 2, 2], [2, 2, 2]] ⟨[(0, .ptr 0 0), (3, .int .i64), (6, .int .i64)], [.whole 38 38]⟩ (json_parser_hex_l1) (.join [[1, 1, 2, 2, 2, 5, 1, 2, 2, 7, 5, 2, 1, 2, 2], [2, 1, 2, 2, 2, 5, 1, 2, 2, 7, 5, 2, 1, 2, 2], [2, 2, 2, 2, 5, 1, 2, 2, 7, 5, 2, 1, 2, 2], [6, 1, 2, 2, 7, 5, 2, 1, 2, 2], [2, 2, 2, 7, 5, 2, 1, 2, 2], [8, 5, 2, 1, 2, 2], [6, 2, 1, 2, 2], [2, 2, 2]] ⟨[(0, .ptr 0 0), (3, .int .i64), (5, .int .i64), (6, .int .i64)], [.whole 38 38]⟩ (fun z => json_parser_hex_j2 z.1 z.2.1 z.2.2.1 z.2.2.2.1) (.join [[1, 2, 2, 2, 2, 2, 5, 1, 2, 2, 7, 5, 2, 1, 2, 2], [2, 2, 2, 2, 2, 2, 5, 1, 2, 2, 7, 5, 2, 1, 2, 2], [6, 1, 2, 2, 7, 5, 2, 1, 2, 2], [2, 2, 2, 7, 5, 2, 1, 2, 2], [8, 5, 2, 1, 2, 2], [6, 2, 1, 2, 2], [2, 2, 2]] ⟨[(0, .ptr 0 0), (3, .int .i64), (5, .int .i64), (6, .int .i64)], [.whole 38 38]⟩ (fun z => json_parser_hex_j3 z.1 z.2.1 z.2.2.1 z.2.2.2.1) .nil)) .nil)
theorem json_parser_hex_ok : COk hY Tryd.prog Glob 59 (json_parser_hex_c) :=
  fn_ok (body := (Tryd.f59.body).getD .skip) (T := [(40, (json_parser_next_c)), (32, (strings_IndexByte_c)), (18, (json_fail_c))]) (json_parser_hex_k) Tryd.func59 (by kernel_rfl) ⟨⟨_, Tryd.func59, by kernel_rfl, rfl⟩⟩ hsz ((.cons json_parser_next_ok (.cons strings_IndexByte_ok (.cons json_fail_ok .nil))) : TabOk hY Tryd.prog Glob [(40, (json_parser_next_c)), (32, (strings_IndexByte_c)), (18, (json_fail_c))]) (fun _ _ hle h => h.mono hle) (by kernel_rfl)
    ⟨fun z => by kernel_rfl, ⟨fun z => by kernel_rfl, ⟨fun z => by kernel_rfl, trivial⟩⟩, trivial⟩
    (fun z => by kernel_rfl)
def json_parser_str_j2 (i_20 : Int) (x_21 : T_json_parser) (l_22 : List UInt8) : Option ((T_json_parser × (List UInt8) × Unit) ⊕ ((GErr × T_json_parser × Unit) ⊕ (Str × T_json_parser × Unit))) :=
  if (decide (i_20 < 0)) = true then
   Option.bind (json_fail 150) fun r_23 =>
   some (Sum.inr (Sum.inl (r_23.1, (re38 x_21), ())))
  else
   Option.bind (getB ([34, 92, 47, 8, 12, 10, 13, 9] : Str) i_20) fun c_24 =>
   Option.bind (toB 0) fun b_25 =>
   Option.bind (toB c_24) fun b_26 =>
   Option.bind (strings_Builder_WriteString_v3 ([b_25, b_26] : List UInt8) l_22) fun r_27 =>
   some (Sum.inl ((re38 x_21), r_27.2.2.1, ()))
def json_parser_str_l1 : T_json_parser × (List UInt8) × Unit → Option ((T_json_parser × (List UInt8) × Unit) ⊕ ((GErr × T_json_parser × Unit) ⊕ (Str × T_json_parser × Unit)))
  | (x_4, l_5, ()) =>
    Option.bind (json_parser_next (re38 x_4)) fun r_6 =>
    let n_7 := (IntKind.wrap .i64 (r_6.2.1.at_ + 1))
    if (decide (r_6.1 < 32)) = true then
     Option.bind (json_fail 150) fun r_8 =>
     some (Sum.inr (Sum.inl (r_8.1, (⟨r_6.2.1.u, n_7, r_6.2.1.deep⟩ : T_json_parser), ())))
    else
     if (r_6.1 == 34) = true then
      some (Sum.inr (Sum.inr (l_5, (⟨r_6.2.1.u, n_7, r_6.2.1.deep⟩ : T_json_parser), ())))
     else
      if (r_6.1 != 92) = true then
       let n_9 := (IntKind.wrap .i64 (n_7 - 1))
       Option.bind (units_Cut r_6.2.1.u n_9 n_7) fun r_10 =>
       Option.bind (strings_Builder_WriteString_v3 r_10.1 l_5) fun r_11 =>
       some (Sum.inl ((⟨r_6.2.1.u, n_7, r_6.2.1.deep⟩ : T_json_parser), r_11.2.2.1, ()))
      else
       Option.bind (json_parser_next (⟨r_6.2.1.u, n_7, r_6.2.1.deep⟩ : T_json_parser)) fun r_12 =>
       let n_13 := (IntKind.wrap .i64 (r_12.2.1.at_ + 1))
       if (r_12.1 == 117) = true then
        Option.bind (json_parser_hex (⟨r_12.2.1.u, n_13, r_12.2.1.deep⟩ : T_json_parser)) fun r_14 =>
        (match r_14 with
        | Sum.inl r_15 =>
         some (Sum.inr (Sum.inl (r_15.1, (re38 r_15.2.1), ())))
        | Sum.inr r_16 =>
         Option.bind (strings_Builder_WriteString_v3 r_16.1 l_5) fun r_17 =>
         some (Sum.inl ((re38 r_16.2.1), r_17.2.2.1, ())))
       else
        let b_18 := ((decide (r_12.1 ≥ 0)) && (decide (r_12.1 < 128)))
        if b_18 = true then
         Option.bind (strings_IndexByte ([34, 92, 47, 98, 102, 110, 114, 116] : Str) (IntKind.wrap .u8 r_12.1)) fun r_19 =>
         json_parser_str_j2 r_19.1 (⟨r_12.2.1.u, n_13, r_12.2.1.deep⟩ : T_json_parser) l_5
        else
         json_parser_str_j2 (-1) (⟨r_12.2.1.u, n_13, r_12.2.1.deep⟩ : T_json_parser) l_5
def json_parser_str (x : T_json_parser) : Option ((GErr × T_json_parser × Unit) ⊕ (Str × T_json_parser × Unit)) :=
  Option.bind (json_parser_need ([34] : Str) (re38 x)) fun r_1 =>
  (match r_1 with
  | Sum.inl r_2 =>
   some (Sum.inl (r_2.1, (re38 r_2.2.1), ()))
  | Sum.inr r_3 =>
   Lp.loop json_parser_str_l1 ((re38 r_3.1), ([] : List UInt8), ()))
def json_parser_str_s : Shape := ⟨[(0, .ptr 0 0)], [.whole 38 38]⟩
def json_parser_str_o : List OutP := [⟨true, .err, [.whole 38 38]⟩, ⟨false, .str, [.whole 38 38]⟩]
def json_parser_str_c : Dn.Callee Y := callee Y [] json_parser_str_s json_parser_str_o (fun z => json_parser_str z.1)
def json_parser_str_k : Cuts Y (ParO Y json_parser_str_o) := (.loop [[7, 5, 2, 2, 2], [8, 5, 2, 2, 2], [6, 2, 2, 2]] ⟨[(0, .ptr 0 0), (3, .ptr 1 0)], [.whole 38 38, .cells 53 [.junk, .own 2], .arr 5]⟩ (json_parser_str_l1) (.join [[1, 1, 2, 2, 2, 2, 2, 2, 2, 2, 5, 7, 5, 2, 2, 2], [2, 1, 2, 2, 2, 2, 2, 2, 2, 2, 5, 7, 5, 2, 2, 2], [2, 2, 2, 2, 2, 2, 2, 2, 2, 5, 7, 5, 2, 2, 2], [6, 7, 5, 2, 2, 2], [8, 5, 2, 2, 2], [6, 2, 2, 2]] ⟨[(0, .ptr 0 0), (3, .ptr 1 0), (6, .int .i64)], [.whole 38 38, .cells 53 [.junk, .own 2], .arr 5]⟩ (fun z => json_parser_str_j2 z.1 z.2.1 z.2.2.1) .nil) .nil)
theorem json_parser_str_ok : COk hY Tryd.prog Glob 34 (json_parser_str_c) :=
  fn_ok (body := (Tryd.f34.body).getD .skip) (T := [(33, (json_parser_need_c)), (40, (json_parser_next_c)), (18, (json_fail_c)), (27, (strings_Builder_String_c)), (58, (units_Cut_c)), (57, (laidC Y [⟨[(0, .ptr 0 0), (1, .str)], [.cells 55 [.junk, .own 1], .arr 5]⟩, ⟨[(0, .ptr 0 0), (1, .str)], [.cells 82 [.junk, .own 1], .arr 5]⟩, ⟨[(0, .ptr 0 0), (1, .str)], [.cells 53 [.junk, .own 1], .arr 5]⟩] (strings_Builder_WriteString_v3_c))), (59, (json_parser_hex_c)), (32, (strings_IndexByte_c))]) (json_parser_str_k) Tryd.func34 (by kernel_rfl) ⟨⟨_, Tryd.func34, by kernel_rfl, rfl⟩⟩ hsz ((.cons json_parser_need_ok (.cons json_parser_next_ok (.cons json_fail_ok (.cons strings_Builder_String_ok (.cons units_Cut_ok (.cons (COk.laid strings_Builder_WriteString_v3_ok) (.cons json_parser_hex_ok (.cons strings_IndexByte_ok .nil)))))))) : TabOk hY Tryd.prog Glob [(33, (json_parser_need_c)), (40, (json_parser_next_c)), (18, (json_fail_c)), (27, (strings_Builder_String_c)), (58, (units_Cut_c)), (57, (laidC Y [⟨[(0, .ptr 0 0), (1, .str)], [.cells 55 [.junk, .own 1], .arr 5]⟩, ⟨[(0, .ptr 0 0), (1, .str)], [.cells 82 [.junk, .own 1], .arr 5]⟩, ⟨[(0, .ptr 0 0), (1, .str)], [.cells 53 [.junk, .own 1], .arr 5]⟩] (strings_Builder_WriteString_v3_c))), (59, (json_parser_hex_c)), (32, (strings_IndexByte_c))]) (fun _ _ hle h => h.mono hle) (by kernel_rfl)
    ⟨fun z => by kernel_rfl, ⟨fun z => by kernel_rfl, trivial⟩, trivial⟩
    (fun z => by kernel_rfl)
def slices_Index_l1 : (List Str) × Str × Int × Int × Unit → Option (((List Str) × Str × Int × Int × Unit) ⊕ (Int × Unit))
  | (s_1, v_2, v_3, v_4, ()) =>
    if (decide (v_4 < v_3)) = true then
     Option.bind (getI s_1 v_4) fun x_5 =>
     if (v_2 == x_5) = true then
      some (Sum.inr (v_4, ()))
     else
      let n_6 := (IntKind.wrap .i64 (v_4 + 1))
      some (Sum.inl (s_1, v_2, v_3, n_6, ()))
    else
     some (Sum.inr ((-1), ()))
def slices_Index (s : List Str) (v : Str) : Option (Int × Unit) :=
  Lp.loop slices_Index_l1 (s, v, ((s.length : Nat) : Int), 0, ())
def slices_Index_s : Shape := ⟨[(0, .sl 9), (1, .str)], []⟩
def slices_Index_o : List OutP := [⟨false, .int .i64, []⟩]
def slices_Index_c : Dn.Callee Y := callee Y [] slices_Index_s slices_Index_o (fun z => slices_Index z.1 z.2.1)
def slices_Index_k : Cuts Y (ParO Y slices_Index_o) := (.loop [[7, 5, 2, 1, 2], [8, 5, 2, 1, 2], [6, 2, 1, 2], [2, 2]] ⟨[(0, .sl 9), (1, .str), (7, .int .i64), (8, .int .i64)], []⟩ (slices_Index_l1) .nil .nil)
theorem slices_Index_ok : COk hY Tryd.prog Glob 38 (slices_Index_c) :=
  fn_ok (body := (Tryd.f38.body).getD .skip) (T := []) (slices_Index_k) Tryd.func38 (by kernel_rfl) ⟨⟨_, Tryd.func38, by kernel_rfl, rfl⟩⟩ hsz .nil (fun _ _ hle h => h.mono hle) (by kernel_rfl)
    ⟨fun z => by kernel_rfl, trivial, trivial⟩
    (fun z => by kernel_rfl)
def json_parser_number_l1 : Bool × Int × T_json_parser × Int × Int × Str × (List Str) × (List T_api_Data) × Unit → Option ((Bool × Int × T_json_parser × Int × Int × Str × (List Str) × (List T_api_Data) × Unit) ⊕ ((GErr × T_json_parser × Unit) ⊕ (T_api_Data × T_json_parser × Unit)))
  | (neg_3, v_4, x_5, Kind_6, N_7, S_8, l_9, l_10, ()) =>
    Option.bind (json_parser_next (re38 x_5)) fun r_11 =>
    let b_12 := ((decide (r_11.1 < 48)) || (decide (r_11.1 > 57)))
    let b_13 := (b_12 || ((decide (r_11.2.1.at_ > v_4)) && (N_7 == 0)))
    if b_13 = true then
     if (r_11.2.1.at_ == v_4) = true then
      Option.bind (json_fail 150) fun r_14 =>
      some (Sum.inr (Sum.inl (r_14.1, (re38 r_11.2.1), ())))
     else
      if neg_3 = true then
       let n_15 := (IntKind.wrap .i64 (0 - N_7))
       some (Sum.inr (Sum.inr ((⟨Kind_6, n_15, S_8, l_9, l_10⟩ : T_api_Data), (re38 r_11.2.1), ())))
      else
       some (Sum.inr (Sum.inr ((⟨Kind_6, N_7, S_8, l_9, l_10⟩ : T_api_Data), (re38 r_11.2.1), ())))
    else
     let n_16 := (IntKind.wrap .i64 (10 * N_7))
     let n_17 := (IntKind.wrap .i64 (n_16 + r_11.1))
     let n_18 := (IntKind.wrap .i64 (n_17 - 48))
     let b_19 := (decide (n_18 > 9007199254740991))
     if b_19 = true then
      Option.bind (json_fail 150) fun r_20 =>
      some (Sum.inr (Sum.inl (r_20.1, (re38 r_11.2.1), ())))
     else
      let n_21 := (IntKind.wrap .i64 (r_11.2.1.at_ + 1))
      some (Sum.inl (neg_3, v_4, (⟨r_11.2.1.u, n_21, r_11.2.1.deep⟩ : T_json_parser), Kind_6, n_18, S_8, l_9, l_10, ()))
def json_parser_number (x : T_json_parser) : Option ((GErr × T_json_parser × Unit) ⊕ (T_api_Data × T_json_parser × Unit)) :=
  Option.bind (json_parser_next (re38 x)) fun r_1 =>
  if (r_1.1 == 45) = true then
   let n_2 := (IntKind.wrap .i64 (r_1.2.1.at_ + 1))
   Lp.loop json_parser_number_l1 ((r_1.1 == 45), n_2, (⟨r_1.2.1.u, n_2, r_1.2.1.deep⟩ : T_json_parser), 3, 0, ([] : Str), ([] : List Str), ([] : List T_api_Data), ())
  else
   Lp.loop json_parser_number_l1 ((r_1.1 == 45), r_1.2.1.at_, (re38 r_1.2.1), 3, 0, ([] : Str), ([] : List Str), ([] : List T_api_Data), ())
def json_parser_number_s : Shape := ⟨[(0, .ptr 0 0)], [.whole 38 38]⟩
def json_parser_number_o : List OutP := [⟨true, .err, [.whole 38 38]⟩, ⟨false, .st 25, [.whole 38 38]⟩]
def json_parser_number_c : Dn.Callee Y := callee Y [] json_parser_number_s json_parser_number_o (fun z => json_parser_number z.1)
def json_parser_number_k : Cuts Y (ParO Y json_parser_number_o) := (.loop [[7, 5, 2, 1, 2, 2, 2, 2], [8, 5, 2, 1, 2, 2, 2, 2], [6, 2, 1, 2, 2, 2, 2], [2, 2, 2, 2, 2]] ⟨[(0, .ptr 0 0), (2, .ptr 1 0), (3, .bool), (4, .int .i64)], [.whole 38 38, .cells 25 [.int .i64, .int .i64, .str, .own 2, .own 3], .arr 9, .arr 25]⟩ (json_parser_number_l1) .nil .nil)
theorem json_parser_number_ok : COk hY Tryd.prog Glob 39 (json_parser_number_c) :=
  fn_ok (body := (Tryd.f39.body).getD .skip) (T := [(40, (json_parser_next_c)), (18, (json_fail_c))]) (json_parser_number_k) Tryd.func39 (by kernel_rfl) ⟨⟨_, Tryd.func39, by kernel_rfl, rfl⟩⟩ hsz ((.cons json_parser_next_ok (.cons json_fail_ok .nil)) : TabOk hY Tryd.prog Glob [(40, (json_parser_next_c)), (18, (json_fail_c))]) (fun _ _ hle h => h.mono hle) (by kernel_rfl)
    ⟨fun z => by kernel_rfl, trivial, trivial⟩
    (fun z => by kernel_rfl)
structure Rec_json_parser_value where
  json_parser_value : T_json_parser → Option ((GErr × T_json_parser × Unit) ⊕ (T_api_Data × T_json_parser × Unit))
  json_parser_rows : Int → T_json_parser → Int → Int → Str → (List Str) → (List T_api_Data) → Option ((GErr × T_json_parser × Int × Int × Str × (List Str) × (List T_api_Data) × Unit) ⊕ (T_json_parser × Int × Int × Str × (List Str) × (List T_api_Data) × Unit))
  json_parser_value_1 : T_json_parser → Int → Int → Str → (List Str) → (List T_api_Data) → Option ((GErr × T_json_parser × Int × Int × Str × (List Str) × (List T_api_Data) × Unit) ⊕ (T_json_parser × Int × Int × Str × (List Str) × (List T_api_Data) × Unit))
  json_parser_rows_v2 : Int → T_json_parser → Int → Int → Str → (List Str) → (List T_api_Data) → Option ((GErr × T_json_parser × Int × Int × Str × (List Str) × (List T_api_Data) × Unit) ⊕ (T_json_parser × Int × Int × Str × (List Str) × (List T_api_Data) × Unit))
  json_parser_value_2 : T_json_parser → Int → Int → Str → (List Str) → (List T_api_Data) → Option ((GErr × T_json_parser × Int × Int × Str × (List Str) × (List T_api_Data) × Unit) ⊕ (T_json_parser × Int × Int × Str × (List Str) × (List T_api_Data) × Unit))
def json_parser_value_s : Shape := ⟨[(0, .ptr 0 0)], [.whole 38 38]⟩
def json_parser_value_o : List OutP := [⟨true, .err, [.whole 38 38]⟩, ⟨false, .st 25, [.whole 38 38]⟩]
def json_parser_value_c (g_ : Rec_json_parser_value) : Dn.Callee Y := callee Y [] json_parser_value_s json_parser_value_o (fun z => g_.json_parser_value z.1)
def json_parser_rows_s : Shape := ⟨[(0, .ptr 0 0), (1, .int .i64), (2, .fn 36 [.ptr 1 0, .ptr 2 0])], [.whole 38 38, .cells 36 [.ptr 0 0], .cells 25 [.int .i64, .int .i64, .str, .own 3, .own 4], .arr 9, .arr 25]⟩
def json_parser_rows_o : List OutP := [⟨true, .err, [.whole 38 38, .cells 36 [.ptr 0 0], .cells 25 [.int .i64, .int .i64, .str, .own 3, .own 4], .arr 9, .arr 25]⟩, ⟨false, .tup [], [.whole 38 38, .cells 36 [.ptr 0 0], .cells 25 [.int .i64, .int .i64, .str, .own 3, .own 4], .arr 9, .arr 25]⟩]
def json_parser_rows_c (g_ : Rec_json_parser_value) : Dn.Callee Y := callee Y [] json_parser_rows_s json_parser_rows_o (fun z => g_.json_parser_rows z.1 z.2.1 z.2.2.1 z.2.2.2.1 z.2.2.2.2.1 z.2.2.2.2.2.1 z.2.2.2.2.2.2.1)
def json_parser_value_1_s : Shape := ⟨[(0, .ptr 0 0), (1, .ptr 2 0)], [.cells 36 [.ptr 1 0], .whole 38 38, .cells 25 [.int .i64, .int .i64, .str, .own 3, .own 4], .arr 9, .arr 25]⟩
def json_parser_value_1_o : List OutP := [⟨true, .err, [.cells 36 [.ptr 1 0], .whole 38 38, .cells 25 [.int .i64, .int .i64, .str, .own 3, .own 4], .arr 9, .arr 25]⟩, ⟨false, .tup [], [.cells 36 [.ptr 1 0], .whole 38 38, .cells 25 [.int .i64, .int .i64, .str, .own 3, .own 4], .arr 9, .arr 25]⟩]
def json_parser_value_1_c (g_ : Rec_json_parser_value) : Dn.Callee Y := callee Y [] json_parser_value_1_s json_parser_value_1_o (fun z => g_.json_parser_value_1 z.1 z.2.1 z.2.2.1 z.2.2.2.1 z.2.2.2.2.1 z.2.2.2.2.2.1)
def json_parser_rows_v2_s : Shape := ⟨[(0, .ptr 0 0), (1, .int .i64), (2, .fn 37 [.ptr 1 0, .ptr 2 0])], [.whole 38 38, .cells 36 [.ptr 0 0], .cells 25 [.int .i64, .int .i64, .str, .own 3, .own 4], .arr 9, .arr 25]⟩
def json_parser_rows_v2_o : List OutP := [⟨true, .err, [.whole 38 38, .cells 36 [.ptr 0 0], .cells 25 [.int .i64, .int .i64, .str, .own 3, .own 4], .arr 9, .arr 25]⟩, ⟨false, .tup [], [.whole 38 38, .cells 36 [.ptr 0 0], .cells 25 [.int .i64, .int .i64, .str, .own 3, .own 4], .arr 9, .arr 25]⟩]
def json_parser_rows_v2_c (g_ : Rec_json_parser_value) : Dn.Callee Y := callee Y [] json_parser_rows_v2_s json_parser_rows_v2_o (fun z => g_.json_parser_rows_v2 z.1 z.2.1 z.2.2.1 z.2.2.2.1 z.2.2.2.2.1 z.2.2.2.2.2.1 z.2.2.2.2.2.2.1)
def json_parser_value_2_s : Shape := ⟨[(0, .ptr 0 0), (1, .ptr 2 0)], [.cells 36 [.ptr 1 0], .whole 38 38, .cells 25 [.int .i64, .int .i64, .str, .own 3, .own 4], .arr 9, .arr 25]⟩
def json_parser_value_2_o : List OutP := [⟨true, .err, [.cells 36 [.ptr 1 0], .whole 38 38, .cells 25 [.int .i64, .int .i64, .str, .own 3, .own 4], .arr 9, .arr 25]⟩, ⟨false, .tup [], [.cells 36 [.ptr 1 0], .whole 38 38, .cells 25 [.int .i64, .int .i64, .str, .own 3, .own 4], .arr 9, .arr 25]⟩]
def json_parser_value_2_c (g_ : Rec_json_parser_value) : Dn.Callee Y := callee Y [] json_parser_value_2_s json_parser_value_2_o (fun z => g_.json_parser_value_2 z.1 z.2.1 z.2.2.1 z.2.2.2.1 z.2.2.2.2.1 z.2.2.2.2.2.1)
structure Rec_json_parser_value_ok (g_ : Rec_json_parser_value) : Prop where
  json_parser_value : COk hY Tryd.prog Glob 16 (json_parser_value_c g_)
  json_parser_rows : COk hY Tryd.prog Glob 35 (json_parser_rows_c g_)
  json_parser_value_1 : COk hY Tryd.prog Glob 36 (json_parser_value_1_c g_)
  json_parser_rows_v2 : COk hY Tryd.prog Glob 35 (json_parser_rows_v2_c g_)
  json_parser_value_2 : COk hY Tryd.prog Glob 37 (json_parser_value_2_c g_)
def json_parser_value_b (g_ : Rec_json_parser_value) (x : T_json_parser) : Option ((GErr × T_json_parser × Unit) ⊕ (T_api_Data × T_json_parser × Unit)) :=
  Option.bind (json_parser_blanks (re38 x)) fun r_1 =>
  let b_2 := ((decide (r_1.1 < 0)) || (decide (r_1.1 > 127)))
  if b_2 = true then
   Option.bind (json_fail 150) fun r_3 =>
   some (Sum.inl (r_3.1, (re38 r_1.2.1), ()))
  else
   Option.bind (strings_IndexByte ([110, 116, 102, 34, 91, 123, 45, 48, 49, 50, 51, 52, 53, 54, 55, 56, 57] : Str) (IntKind.wrap .u8 r_1.1)) fun r_4 =>
   if (decide (r_4.1 < 0)) = true then
    Option.bind (json_fail 150) fun r_5 =>
    some (Sum.inl (r_5.1, (re38 r_1.2.1), ()))
   else
    if (r_1.2.1.deep == 20) = true then
     Option.bind (json_fail 31) fun r_6 =>
     some (Sum.inl (r_6.1, (re38 r_1.2.1), ()))
    else
     if (r_1.1 == 110) = true then
      Option.bind (json_parser_need ([110, 117, 108, 108] : Str) (re38 r_1.2.1)) fun r_7 =>
      (match r_7 with
      | Sum.inl r_8 =>
       some (Sum.inl (r_8.1, (re38 r_8.2.1), ()))
      | Sum.inr r_9 =>
       some (Sum.inr ((⟨1, 0, ([] : Str), ([] : List Str), ([] : List T_api_Data)⟩ : T_api_Data), (re38 r_9.1), ())))
     else
      if (r_1.1 == 116) = true then
       Option.bind (json_parser_need ([116, 114, 117, 101] : Str) (re38 r_1.2.1)) fun r_10 =>
       (match r_10 with
       | Sum.inl r_11 =>
        some (Sum.inl (r_11.1, (re38 r_11.2.1), ()))
       | Sum.inr r_12 =>
        some (Sum.inr ((⟨2, 1, ([] : Str), ([] : List Str), ([] : List T_api_Data)⟩ : T_api_Data), (re38 r_12.1), ())))
      else
       if (r_1.1 == 102) = true then
        Option.bind (json_parser_need ([102, 97, 108, 115, 101] : Str) (re38 r_1.2.1)) fun r_13 =>
        (match r_13 with
        | Sum.inl r_14 =>
         some (Sum.inl (r_14.1, (re38 r_14.2.1), ()))
        | Sum.inr r_15 =>
         some (Sum.inr ((⟨2, 0, ([] : Str), ([] : List Str), ([] : List T_api_Data)⟩ : T_api_Data), (re38 r_15.1), ())))
       else
        if (r_1.1 == 34) = true then
         Option.bind (json_parser_str (re38 r_1.2.1)) fun r_16 =>
         (match r_16 with
         | Sum.inl r_17 =>
          some (Sum.inl (r_17.1, (re38 r_17.2.1), ()))
         | Sum.inr r_18 =>
          some (Sum.inr ((⟨4, 0, r_18.1, ([] : List Str), ([] : List T_api_Data)⟩ : T_api_Data), (re38 r_18.2.1), ())))
        else
         if (r_1.1 == 91) = true then
          Option.bind (g_.json_parser_rows 93 (re38 r_1.2.1) 5 0 ([] : Str) ([] : List Str) ([] : List T_api_Data)) fun r_19 =>
          (match r_19 with
          | Sum.inl r_20 =>
           some (Sum.inl (r_20.1, (re38 r_20.2.1), ()))
          | Sum.inr r_21 =>
           some (Sum.inr ((⟨r_21.2.1, r_21.2.2.1, r_21.2.2.2.1, r_21.2.2.2.2.1, r_21.2.2.2.2.2.1⟩ : T_api_Data), (re38 r_21.1), ())))
         else
          if (r_1.1 == 123) = true then
           Option.bind (g_.json_parser_rows_v2 125 (re38 r_1.2.1) 6 0 ([] : Str) ([] : List Str) ([] : List T_api_Data)) fun r_22 =>
           (match r_22 with
           | Sum.inl r_23 =>
            some (Sum.inl (r_23.1, (re38 r_23.2.1), ()))
           | Sum.inr r_24 =>
            some (Sum.inr ((⟨r_24.2.1, r_24.2.2.1, r_24.2.2.2.1, r_24.2.2.2.2.1, r_24.2.2.2.2.2.1⟩ : T_api_Data), (re38 r_24.1), ())))
          else
           Option.bind (json_parser_number (re38 r_1.2.1)) fun r_25 =>
           (match r_25 with
           | Sum.inl r_26 =>
            some (Sum.inl (r_26.1, (re38 r_26.2.1), ()))
           | Sum.inr r_27 =>
            some (Sum.inr ((re25 r_27.1), (re38 r_27.2.1), ())))
def json_parser_value_d (g_ : Rec_json_parser_value) : Dn.Callee Y := callee Y [] json_parser_value_s json_parser_value_o (fun z => json_parser_value_b g_ z.1)
def json_parser_value_k (g_ : Rec_json_parser_value) : Cuts Y (ParO Y json_parser_value_o) := .nil
theorem json_parser_value_b_ok (g_ : Rec_json_parser_value) (hg_ : Rec_json_parser_value_ok g_) : COk hY Tryd.prog Glob 16 (json_parser_value_d g_) :=
  fn_ok (body := (Tryd.f16.body).getD .skip) (T := [(17, (json_parser_blanks_c)), (18, (json_fail_c)), (32, (strings_IndexByte_c)), (33, (json_parser_need_c)), (34, (json_parser_str_c)), (35, (laidC Y [⟨[(0, .ptr 0 0), (1, .int .i64), (2, .fn 36 [.ptr 1 0, .ptr 2 0])], [.whole 38 38, .cells 36 [.ptr 0 0], .cells 25 [.int .i64, .int .i64, .str, .own 3, .own 4], .arr 9, .arr 25]⟩, ⟨[(0, .ptr 0 0), (1, .int .i64), (2, .fn 37 [.ptr 1 0, .ptr 2 0])], [.whole 38 38, .cells 36 [.ptr 0 0], .cells 25 [.int .i64, .int .i64, .str, .own 3, .own 4], .arr 9, .arr 25]⟩] (orC Y json_parser_rows_s json_parser_rows_o (fun z => g_.json_parser_rows z.1 z.2.1 z.2.2.1 z.2.2.2.1 z.2.2.2.2.1 z.2.2.2.2.2.1 z.2.2.2.2.2.2.1) (json_parser_rows_v2_c g_)))), (39, (json_parser_number_c))]) (json_parser_value_k g_) Tryd.func16 (by kernel_rfl) ⟨⟨_, Tryd.func16, by kernel_rfl, rfl⟩⟩ hsz ((.cons json_parser_blanks_ok (.cons json_fail_ok (.cons strings_IndexByte_ok (.cons json_parser_need_ok (.cons json_parser_str_ok (.cons (COk.laid (COk.or hg_.json_parser_rows hg_.json_parser_rows_v2)) (.cons json_parser_number_ok .nil))))))) : TabOk hY Tryd.prog Glob [(17, (json_parser_blanks_c)), (18, (json_fail_c)), (32, (strings_IndexByte_c)), (33, (json_parser_need_c)), (34, (json_parser_str_c)), (35, (laidC Y [⟨[(0, .ptr 0 0), (1, .int .i64), (2, .fn 36 [.ptr 1 0, .ptr 2 0])], [.whole 38 38, .cells 36 [.ptr 0 0], .cells 25 [.int .i64, .int .i64, .str, .own 3, .own 4], .arr 9, .arr 25]⟩, ⟨[(0, .ptr 0 0), (1, .int .i64), (2, .fn 37 [.ptr 1 0, .ptr 2 0])], [.whole 38 38, .cells 36 [.ptr 0 0], .cells 25 [.int .i64, .int .i64, .str, .own 3, .own 4], .arr 9, .arr 25]⟩] (orC Y json_parser_rows_s json_parser_rows_o (fun z => g_.json_parser_rows z.1 z.2.1 z.2.2.1 z.2.2.2.1 z.2.2.2.2.1 z.2.2.2.2.2.1 z.2.2.2.2.2.2.1) (json_parser_rows_v2_c g_)))), (39, (json_parser_number_c))]) (fun _ _ hle h => h.mono hle) (by kernel_rfl)
    trivial
    (fun z => by kernel_rfl)
def json_parser_rows_l1 (g_ : Rec_json_parser_value) : Int × T_json_parser × Int × Int × Str × (List Str) × (List T_api_Data) × Unit → Option ((Int × T_json_parser × Int × Int × Str × (List Str) × (List T_api_Data) × Unit) ⊕ ((GErr × T_json_parser × Int × Int × Str × (List Str) × (List T_api_Data) × Unit) ⊕ (T_json_parser × Int × Int × Str × (List Str) × (List T_api_Data) × Unit)))
  | (shut_9, x_10, Kind_11, N_12, S_13, l_14, l_15, ()) =>
    Option.bind (json_parser_blanks (re38 x_10)) fun r_16 =>
    if (r_16.1 != shut_9) = true then
     Option.bind (json_parser_need ([44] : Str) (re38 r_16.2.1)) fun r_17 =>
     (match r_17 with
     | Sum.inl r_18 =>
      some (Sum.inr (Sum.inl (r_18.1, (re38 r_18.2.1), Kind_11, N_12, S_13, l_14, l_15, ())))
     | Sum.inr r_19 =>
      Option.bind (g_.json_parser_value_1 (re38 r_19.1) Kind_11 N_12 S_13 l_14 l_15) fun r_20 =>
      (match r_20 with
      | Sum.inl r_21 =>
       some (Sum.inr (Sum.inl (r_21.1, (re38 r_21.2.1), r_21.2.2.1, r_21.2.2.2.1, r_21.2.2.2.2.1, r_21.2.2.2.2.2.1, r_21.2.2.2.2.2.2.1, ())))
      | Sum.inr r_22 =>
       some (Sum.inl (shut_9, (re38 r_22.1), r_22.2.1, r_22.2.2.1, r_22.2.2.2.1, r_22.2.2.2.2.1, r_22.2.2.2.2.2.1, ()))))
    else
     let n_23 := (IntKind.wrap .i64 (r_16.2.1.at_ + 1))
     let n_24 := (IntKind.wrap .i64 (r_16.2.1.deep - 1))
     some (Sum.inr (Sum.inr ((⟨r_16.2.1.u, n_23, n_24⟩ : T_json_parser), Kind_11, N_12, S_13, l_14, l_15, ())))
def json_parser_rows_b (g_ : Rec_json_parser_value) (shut : Int) (x : T_json_parser) (Kind : Int) (N : Int) (S : Str) (l : List Str) (l2 : List T_api_Data) : Option ((GErr × T_json_parser × Int × Int × Str × (List Str) × (List T_api_Data) × Unit) ⊕ (T_json_parser × Int × Int × Str × (List Str) × (List T_api_Data) × Unit)) :=
  let n_1 := (IntKind.wrap .i64 (x.at_ + 1))
  let n_2 := (IntKind.wrap .i64 (x.deep + 1))
  Option.bind (json_parser_blanks (⟨x.u, n_1, n_2⟩ : T_json_parser)) fun r_3 =>
  if (r_3.1 != shut) = true then
   Option.bind (g_.json_parser_value_1 (re38 r_3.2.1) Kind N S l l2) fun r_4 =>
   (match r_4 with
   | Sum.inl r_5 =>
    some (Sum.inl (r_5.1, (re38 r_5.2.1), r_5.2.2.1, r_5.2.2.2.1, r_5.2.2.2.2.1, r_5.2.2.2.2.2.1, r_5.2.2.2.2.2.2.1, ()))
   | Sum.inr r_6 =>
    Lp.loop (json_parser_rows_l1 g_) (shut, (re38 r_6.1), r_6.2.1, r_6.2.2.1, r_6.2.2.2.1, r_6.2.2.2.2.1, r_6.2.2.2.2.2.1, ()))
  else
   let n_7 := (IntKind.wrap .i64 (r_3.2.1.at_ + 1))
   let n_8 := (IntKind.wrap .i64 (r_3.2.1.deep - 1))
   some (Sum.inr ((⟨r_3.2.1.u, n_7, n_8⟩ : T_json_parser), Kind, N, S, l, l2, ()))
def json_parser_rows_d (g_ : Rec_json_parser_value) : Dn.Callee Y := callee Y [] json_parser_rows_s json_parser_rows_o (fun z => json_parser_rows_b g_ z.1 z.2.1 z.2.2.1 z.2.2.2.1 z.2.2.2.2.1 z.2.2.2.2.2.1 z.2.2.2.2.2.2.1)
def json_parser_rows_k (g_ : Rec_json_parser_value) : Cuts Y (ParO Y json_parser_rows_o) := (.loop [[7, 5, 2, 3, 2, 1, 2, 2], [8, 5, 2, 3, 2, 1, 2, 2], [6, 2, 3, 2, 1, 2, 2], [2, 2, 2]] ⟨[(0, .ptr 0 0), (1, .int .i64), (2, .fn 36 [.ptr 1 0, .ptr 2 0])], [.whole 38 38, .cells 36 [.ptr 0 0], .cells 25 [.int .i64, .int .i64, .str, .own 3, .own 4], .arr 9, .arr 25]⟩ (json_parser_rows_l1 g_) .nil .nil)
theorem json_parser_rows_b_ok (g_ : Rec_json_parser_value) (hg_ : Rec_json_parser_value_ok g_) : COk hY Tryd.prog Glob 35 (json_parser_rows_d g_) :=
  fn_ok (body := (Tryd.f35.body).getD .skip) (T := [(17, (json_parser_blanks_c)), (36, (json_parser_value_1_c g_)), (33, (json_parser_need_c))]) (json_parser_rows_k g_) Tryd.func35 (by kernel_rfl) ⟨⟨_, Tryd.func35, by kernel_rfl, rfl⟩⟩ hsz ((.cons json_parser_blanks_ok (.cons hg_.json_parser_value_1 (.cons json_parser_need_ok .nil))) : TabOk hY Tryd.prog Glob [(17, (json_parser_blanks_c)), (36, (json_parser_value_1_c g_)), (33, (json_parser_need_c))]) (fun _ _ hle h => h.mono hle) (by kernel_rfl)
    ⟨fun z => by kernel_rfl, trivial, trivial⟩
    (fun z => by kernel_rfl)
def json_parser_value_1_b (g_ : Rec_json_parser_value) (x : T_json_parser) (Kind : Int) (N : Int) (S : Str) (l : List Str) (l2 : List T_api_Data) : Option ((GErr × T_json_parser × Int × Int × Str × (List Str) × (List T_api_Data) × Unit) ⊕ (T_json_parser × Int × Int × Str × (List Str) × (List T_api_Data) × Unit)) :=
  Option.bind (g_.json_parser_value (re38 x)) fun r_1 =>
  (match r_1 with
  | Sum.inl r_2 =>
   some (Sum.inl (r_2.1, (re38 r_2.2.1), Kind, N, S, l, l2, ()))
  | Sum.inr r_3 =>
   fk (
    fk (
     Option.bind (room (l2.length + ([(⟨0, 0, ([] : Str), ([] : List Str), ([] : List T_api_Data)⟩ : T_api_Data)] : List T_api_Data).length)) fun _ =>
     let l_18 := l2 ++ ([(⟨0, 0, ([] : Str), ([] : List Str), ([] : List T_api_Data)⟩ : T_api_Data)] : List T_api_Data)
     fk (
      Option.bind (getI l_18 ((l2.length : Nat) : Int)) fun _ =>
      fk (
       Option.bind (getI l_18 ((l2.length : Nat) : Int)) fun x_23 =>
       let l_24 := l_18.set ((l2.length : Nat) : Int).toNat (re25 r_3.1)
       some (Sum.inr ((re38 r_3.2.1), Kind, N, S, l, l_24, ()))) (
       Option.bind (getI l_18 ((l2.length : Nat) : Int)) fun x_21 =>
       let l_22 := l_18.set ((l2.length : Nat) : Int).toNat (re25 r_3.1)
       some (Sum.inr ((re38 r_3.2.1), Kind, N, S, l, l_22, ())))) (
      Option.bind (getI l_18 ((l2.length : Nat) : Int)) fun _ =>
      Option.bind (getI l_18 ((l2.length : Nat) : Int)) fun x_19 =>
      let l_20 := l_18.set ((l2.length : Nat) : Int).toNat (re25 r_3.1)
      some (Sum.inr ((re38 r_3.2.1), Kind, N, S, l, l_20, ())))) (
     Option.bind (room (l2.length + ([(⟨0, 0, ([] : Str), ([] : List Str), ([] : List T_api_Data)⟩ : T_api_Data)] : List T_api_Data).length)) fun _ =>
     let l_11 := l2 ++ ([(⟨0, 0, ([] : Str), ([] : List Str), ([] : List T_api_Data)⟩ : T_api_Data)] : List T_api_Data)
     fk (
      Option.bind (getI l_11 ((l2.length : Nat) : Int)) fun _ =>
      fk (
       Option.bind (getI l_11 ((l2.length : Nat) : Int)) fun x_16 =>
       let l_17 := l_11.set ((l2.length : Nat) : Int).toNat (re25 r_3.1)
       some (Sum.inr ((re38 r_3.2.1), Kind, N, S, l, l_17, ()))) (
       Option.bind (getI l_11 ((l2.length : Nat) : Int)) fun x_14 =>
       let l_15 := l_11.set ((l2.length : Nat) : Int).toNat (re25 r_3.1)
       some (Sum.inr ((re38 r_3.2.1), Kind, N, S, l, l_15, ())))) (
      Option.bind (getI l_11 ((l2.length : Nat) : Int)) fun _ =>
      Option.bind (getI l_11 ((l2.length : Nat) : Int)) fun x_12 =>
      let l_13 := l_11.set ((l2.length : Nat) : Int).toNat (re25 r_3.1)
      some (Sum.inr ((re38 r_3.2.1), Kind, N, S, l, l_13, ()))))) (
    Option.bind (room (l2.length + ([(⟨0, 0, ([] : Str), ([] : List Str), ([] : List T_api_Data)⟩ : T_api_Data)] : List T_api_Data).length)) fun _ =>
    let l_4 := l2 ++ ([(⟨0, 0, ([] : Str), ([] : List Str), ([] : List T_api_Data)⟩ : T_api_Data)] : List T_api_Data)
    fk (
     Option.bind (getI l_4 ((l2.length : Nat) : Int)) fun _ =>
     fk (
      Option.bind (getI l_4 ((l2.length : Nat) : Int)) fun x_9 =>
      let l_10 := l_4.set ((l2.length : Nat) : Int).toNat (re25 r_3.1)
      some (Sum.inr ((re38 r_3.2.1), Kind, N, S, l, l_10, ()))) (
      Option.bind (getI l_4 ((l2.length : Nat) : Int)) fun x_7 =>
      let l_8 := l_4.set ((l2.length : Nat) : Int).toNat (re25 r_3.1)
      some (Sum.inr ((re38 r_3.2.1), Kind, N, S, l, l_8, ())))) (
     Option.bind (getI l_4 ((l2.length : Nat) : Int)) fun _ =>
     Option.bind (getI l_4 ((l2.length : Nat) : Int)) fun x_5 =>
     let l_6 := l_4.set ((l2.length : Nat) : Int).toNat (re25 r_3.1)
     some (Sum.inr ((re38 r_3.2.1), Kind, N, S, l, l_6, ())))))
def json_parser_value_1_d (g_ : Rec_json_parser_value) : Dn.Callee Y := callee Y [] json_parser_value_1_s json_parser_value_1_o (fun z => json_parser_value_1_b g_ z.1 z.2.1 z.2.2.1 z.2.2.2.1 z.2.2.2.2.1 z.2.2.2.2.2.1)
def json_parser_value_1_k (g_ : Rec_json_parser_value) : Cuts Y (ParO Y json_parser_value_1_o) := .nil
theorem json_parser_value_1_b_ok (g_ : Rec_json_parser_value) (hg_ : Rec_json_parser_value_ok g_) : COk hY Tryd.prog Glob 36 (json_parser_value_1_d g_) :=
  fn_ok (body := (Tryd.f36.body).getD .skip) (T := [(16, (json_parser_value_c g_))]) (json_parser_value_1_k g_) Tryd.func36 (by kernel_rfl) ⟨⟨_, Tryd.func36, by kernel_rfl, rfl⟩⟩ hsz ((.cons hg_.json_parser_value .nil) : TabOk hY Tryd.prog Glob [(16, (json_parser_value_c g_))]) (fun _ _ hle h => h.mono hle) (by kernel_rfl)
    trivial
    (fun z => by kernel_rfl)
def json_parser_rows_v2_l1 (g_ : Rec_json_parser_value) : Int × T_json_parser × Int × Int × Str × (List Str) × (List T_api_Data) × Unit → Option ((Int × T_json_parser × Int × Int × Str × (List Str) × (List T_api_Data) × Unit) ⊕ ((GErr × T_json_parser × Int × Int × Str × (List Str) × (List T_api_Data) × Unit) ⊕ (T_json_parser × Int × Int × Str × (List Str) × (List T_api_Data) × Unit)))
  | (shut_9, x_10, Kind_11, N_12, S_13, l_14, l_15, ()) =>
    Option.bind (json_parser_blanks (re38 x_10)) fun r_16 =>
    if (r_16.1 != shut_9) = true then
     Option.bind (json_parser_need ([44] : Str) (re38 r_16.2.1)) fun r_17 =>
     (match r_17 with
     | Sum.inl r_18 =>
      some (Sum.inr (Sum.inl (r_18.1, (re38 r_18.2.1), Kind_11, N_12, S_13, l_14, l_15, ())))
     | Sum.inr r_19 =>
      Option.bind (g_.json_parser_value_2 (re38 r_19.1) Kind_11 N_12 S_13 l_14 l_15) fun r_20 =>
      (match r_20 with
      | Sum.inl r_21 =>
       some (Sum.inr (Sum.inl (r_21.1, (re38 r_21.2.1), r_21.2.2.1, r_21.2.2.2.1, r_21.2.2.2.2.1, r_21.2.2.2.2.2.1, r_21.2.2.2.2.2.2.1, ())))
      | Sum.inr r_22 =>
       some (Sum.inl (shut_9, (re38 r_22.1), r_22.2.1, r_22.2.2.1, r_22.2.2.2.1, r_22.2.2.2.2.1, r_22.2.2.2.2.2.1, ()))))
    else
     let n_23 := (IntKind.wrap .i64 (r_16.2.1.at_ + 1))
     let n_24 := (IntKind.wrap .i64 (r_16.2.1.deep - 1))
     some (Sum.inr (Sum.inr ((⟨r_16.2.1.u, n_23, n_24⟩ : T_json_parser), Kind_11, N_12, S_13, l_14, l_15, ())))
def json_parser_rows_v2_b (g_ : Rec_json_parser_value) (shut : Int) (x : T_json_parser) (Kind : Int) (N : Int) (S : Str) (l : List Str) (l2 : List T_api_Data) : Option ((GErr × T_json_parser × Int × Int × Str × (List Str) × (List T_api_Data) × Unit) ⊕ (T_json_parser × Int × Int × Str × (List Str) × (List T_api_Data) × Unit)) :=
  let n_1 := (IntKind.wrap .i64 (x.at_ + 1))
  let n_2 := (IntKind.wrap .i64 (x.deep + 1))
  Option.bind (json_parser_blanks (⟨x.u, n_1, n_2⟩ : T_json_parser)) fun r_3 =>
  if (r_3.1 != shut) = true then
   Option.bind (g_.json_parser_value_2 (re38 r_3.2.1) Kind N S l l2) fun r_4 =>
   (match r_4 with
   | Sum.inl r_5 =>
    some (Sum.inl (r_5.1, (re38 r_5.2.1), r_5.2.2.1, r_5.2.2.2.1, r_5.2.2.2.2.1, r_5.2.2.2.2.2.1, r_5.2.2.2.2.2.2.1, ()))
   | Sum.inr r_6 =>
    Lp.loop (json_parser_rows_v2_l1 g_) (shut, (re38 r_6.1), r_6.2.1, r_6.2.2.1, r_6.2.2.2.1, r_6.2.2.2.2.1, r_6.2.2.2.2.2.1, ()))
  else
   let n_7 := (IntKind.wrap .i64 (r_3.2.1.at_ + 1))
   let n_8 := (IntKind.wrap .i64 (r_3.2.1.deep - 1))
   some (Sum.inr ((⟨r_3.2.1.u, n_7, n_8⟩ : T_json_parser), Kind, N, S, l, l2, ()))
def json_parser_rows_v2_d (g_ : Rec_json_parser_value) : Dn.Callee Y := callee Y [] json_parser_rows_v2_s json_parser_rows_v2_o (fun z => json_parser_rows_v2_b g_ z.1 z.2.1 z.2.2.1 z.2.2.2.1 z.2.2.2.2.1 z.2.2.2.2.2.1 z.2.2.2.2.2.2.1)
def json_parser_rows_v2_k (g_ : Rec_json_parser_value) : Cuts Y (ParO Y json_parser_rows_v2_o) := (.loop [[7, 5, 2, 3, 2, 1, 2, 2], [8, 5, 2, 3, 2, 1, 2, 2], [6, 2, 3, 2, 1, 2, 2], [2, 2, 2]] ⟨[(0, .ptr 0 0), (1, .int .i64), (2, .fn 37 [.ptr 1 0, .ptr 2 0])], [.whole 38 38, .cells 36 [.ptr 0 0], .cells 25 [.int .i64, .int .i64, .str, .own 3, .own 4], .arr 9, .arr 25]⟩ (json_parser_rows_v2_l1 g_) .nil .nil)
theorem json_parser_rows_v2_b_ok (g_ : Rec_json_parser_value) (hg_ : Rec_json_parser_value_ok g_) : COk hY Tryd.prog Glob 35 (json_parser_rows_v2_d g_) :=
  fn_ok (body := (Tryd.f35.body).getD .skip) (T := [(17, (json_parser_blanks_c)), (37, (json_parser_value_2_c g_)), (33, (json_parser_need_c))]) (json_parser_rows_v2_k g_) Tryd.func35 (by kernel_rfl) ⟨⟨_, Tryd.func35, by kernel_rfl, rfl⟩⟩ hsz ((.cons json_parser_blanks_ok (.cons hg_.json_parser_value_2 (.cons json_parser_need_ok .nil))) : TabOk hY Tryd.prog Glob [(17, (json_parser_blanks_c)), (37, (json_parser_value_2_c g_)), (33, (json_parser_need_c))]) (fun _ _ hle h => h.mono hle) (by kernel_rfl)
    ⟨fun z => by kernel_rfl, trivial, trivial⟩
    (fun z => by kernel_rfl)
def json_parser_value_2_b (g_ : Rec_json_parser_value) (x : T_json_parser) (Kind : Int) (N : Int) (S : Str) (l : List Str) (l2 : List T_api_Data) : Option ((GErr × T_json_parser × Int × Int × Str × (List Str) × (List T_api_Data) × Unit) ⊕ (T_json_parser × Int × Int × Str × (List Str) × (List T_api_Data) × Unit)) :=
  Option.bind (json_parser_blanks (re38 x)) fun r_1 =>
  Option.bind (json_parser_str (re38 r_1.2.1)) fun r_2 =>
  (match r_2 with
  | Sum.inl r_3 =>
   some (Sum.inl (r_3.1, (re38 r_3.2.1), Kind, N, S, l, l2, ()))
  | Sum.inr r_4 =>
   Option.bind (json_parser_blanks (re38 r_4.2.1)) fun r_5 =>
   Option.bind (json_parser_need ([58] : Str) (re38 r_5.2.1)) fun r_6 =>
   (match r_6 with
   | Sum.inl r_7 =>
    some (Sum.inl (r_7.1, (re38 r_7.2.1), Kind, N, S, l, l2, ()))
   | Sum.inr r_8 =>
    Option.bind (g_.json_parser_value (re38 r_8.1)) fun r_9 =>
    (match r_9 with
    | Sum.inl r_10 =>
     some (Sum.inl (r_10.1, (re38 r_10.2.1), Kind, N, S, l, l2, ()))
    | Sum.inr r_11 =>
     Option.bind (slices_Index l r_4.1) fun r_12 =>
     if (decide (r_12.1 ≥ 0)) = true then
      Option.bind (getI l2 r_12.1) fun _ =>
      Option.bind (getI l2 r_12.1) fun x_13 =>
      let l_14 := l2.set r_12.1.toNat (re25 r_11.1)
      some (Sum.inr ((re38 r_11.2.1), Kind, N, S, l, l_14, ()))
     else
      fk (
       fk (
        fk (
         Option.bind (room (l.length + ([r_4.1] : List Str).length)) fun _ =>
         let l_90 := l ++ ([r_4.1] : List Str)
         fk (
          Option.bind (room (l2.length + ([(re25 r_11.1)] : List T_api_Data).length)) fun _ =>
          let l_92 := l2 ++ ([(re25 r_11.1)] : List T_api_Data)
          some (Sum.inr ((re38 r_11.2.1), Kind, N, S, l_90, l_92, ()))) (
          Option.bind (room (l2.length + ([(re25 r_11.1)] : List T_api_Data).length)) fun _ =>
          let l_91 := l2 ++ ([(re25 r_11.1)] : List T_api_Data)
          some (Sum.inr ((re38 r_11.2.1), Kind, N, S, l_90, l_91, ())))) (
         fk (
          fk (
           Option.bind (room (l.length + ([r_4.1] : List Str).length)) fun _ =>
           let l_88 := l ++ ([r_4.1] : List Str)
           Option.bind (room (l2.length + ([(re25 r_11.1)] : List T_api_Data).length)) fun _ =>
           let l_89 := l2 ++ ([(re25 r_11.1)] : List T_api_Data)
           some (Sum.inr ((re38 r_11.2.1), Kind, N, S, l_88, l_89, ()))) (
           Option.bind (room (l.length + ([r_4.1] : List Str).length)) fun _ =>
           let l_86 := l ++ ([r_4.1] : List Str)
           Option.bind (room (l2.length + ([(re25 r_11.1)] : List T_api_Data).length)) fun _ =>
           let l_87 := l2 ++ ([(re25 r_11.1)] : List T_api_Data)
           some (Sum.inr ((re38 r_11.2.1), Kind, N, S, l_86, l_87, ())))) (
          fk (
           Option.bind (room (l.length + ([r_4.1] : List Str).length)) fun _ =>
           let l_84 := l ++ ([r_4.1] : List Str)
           Option.bind (room (l2.length + ([(re25 r_11.1)] : List T_api_Data).length)) fun _ =>
           let l_85 := l2 ++ ([(re25 r_11.1)] : List T_api_Data)
           some (Sum.inr ((re38 r_11.2.1), Kind, N, S, l_84, l_85, ()))) (
           Option.bind (room (l.length + ([r_4.1] : List Str).length)) fun _ =>
           let l_82 := l ++ ([r_4.1] : List Str)
           Option.bind (room (l2.length + ([(re25 r_11.1)] : List T_api_Data).length)) fun _ =>
           let l_83 := l2 ++ ([(re25 r_11.1)] : List T_api_Data)
           some (Sum.inr ((re38 r_11.2.1), Kind, N, S, l_82, l_83, ())))))) (
        fk (
         fk (
          fk (
           Option.bind (room (l.length + ([r_4.1] : List Str).length)) fun _ =>
           let l_80 := l ++ ([r_4.1] : List Str)
           Option.bind (room (l2.length + ([(re25 r_11.1)] : List T_api_Data).length)) fun _ =>
           let l_81 := l2 ++ ([(re25 r_11.1)] : List T_api_Data)
           some (Sum.inr ((re38 r_11.2.1), Kind, N, S, l_80, l_81, ()))) (
           Option.bind (room (l.length + ([r_4.1] : List Str).length)) fun _ =>
           let l_78 := l ++ ([r_4.1] : List Str)
           Option.bind (room (l2.length + ([(re25 r_11.1)] : List T_api_Data).length)) fun _ =>
           let l_79 := l2 ++ ([(re25 r_11.1)] : List T_api_Data)
           some (Sum.inr ((re38 r_11.2.1), Kind, N, S, l_78, l_79, ())))) (
          Option.bind (room (l.length + ([r_4.1] : List Str).length)) fun _ =>
          let l_76 := l ++ ([r_4.1] : List Str)
          Option.bind (room (l2.length + ([(re25 r_11.1)] : List T_api_Data).length)) fun _ =>
          let l_77 := l2 ++ ([(re25 r_11.1)] : List T_api_Data)
          some (Sum.inr ((re38 r_11.2.1), Kind, N, S, l_76, l_77, ())))) (
         fk (
          fk (
           Option.bind (room (l.length + ([r_4.1] : List Str).length)) fun _ =>
           let l_74 := l ++ ([r_4.1] : List Str)
           Option.bind (room (l2.length + ([(re25 r_11.1)] : List T_api_Data).length)) fun _ =>
           let l_75 := l2 ++ ([(re25 r_11.1)] : List T_api_Data)
           some (Sum.inr ((re38 r_11.2.1), Kind, N, S, l_74, l_75, ()))) (
           Option.bind (room (l.length + ([r_4.1] : List Str).length)) fun _ =>
           let l_72 := l ++ ([r_4.1] : List Str)
           Option.bind (room (l2.length + ([(re25 r_11.1)] : List T_api_Data).length)) fun _ =>
           let l_73 := l2 ++ ([(re25 r_11.1)] : List T_api_Data)
           some (Sum.inr ((re38 r_11.2.1), Kind, N, S, l_72, l_73, ())))) (
          Option.bind (room (l.length + ([r_4.1] : List Str).length)) fun _ =>
          let l_70 := l ++ ([r_4.1] : List Str)
          Option.bind (room (l2.length + ([(re25 r_11.1)] : List T_api_Data).length)) fun _ =>
          let l_71 := l2 ++ ([(re25 r_11.1)] : List T_api_Data)
          some (Sum.inr ((re38 r_11.2.1), Kind, N, S, l_70, l_71, ())))))) (
       fk (
        fk (
         fk (
          Option.bind (room (l.length + ([r_4.1] : List Str).length)) fun _ =>
          let l_67 := l ++ ([r_4.1] : List Str)
          fk (
           Option.bind (room (l2.length + ([(re25 r_11.1)] : List T_api_Data).length)) fun _ =>
           let l_69 := l2 ++ ([(re25 r_11.1)] : List T_api_Data)
           some (Sum.inr ((re38 r_11.2.1), Kind, N, S, l_67, l_69, ()))) (
           Option.bind (room (l2.length + ([(re25 r_11.1)] : List T_api_Data).length)) fun _ =>
           let l_68 := l2 ++ ([(re25 r_11.1)] : List T_api_Data)
           some (Sum.inr ((re38 r_11.2.1), Kind, N, S, l_67, l_68, ())))) (
          fk (
           fk (
            Option.bind (room (l.length + ([r_4.1] : List Str).length)) fun _ =>
            let l_65 := l ++ ([r_4.1] : List Str)
            Option.bind (room (l2.length + ([(re25 r_11.1)] : List T_api_Data).length)) fun _ =>
            let l_66 := l2 ++ ([(re25 r_11.1)] : List T_api_Data)
            some (Sum.inr ((re38 r_11.2.1), Kind, N, S, l_65, l_66, ()))) (
            Option.bind (room (l.length + ([r_4.1] : List Str).length)) fun _ =>
            let l_63 := l ++ ([r_4.1] : List Str)
            Option.bind (room (l2.length + ([(re25 r_11.1)] : List T_api_Data).length)) fun _ =>
            let l_64 := l2 ++ ([(re25 r_11.1)] : List T_api_Data)
            some (Sum.inr ((re38 r_11.2.1), Kind, N, S, l_63, l_64, ())))) (
           fk (
            Option.bind (room (l.length + ([r_4.1] : List Str).length)) fun _ =>
            let l_61 := l ++ ([r_4.1] : List Str)
            Option.bind (room (l2.length + ([(re25 r_11.1)] : List T_api_Data).length)) fun _ =>
            let l_62 := l2 ++ ([(re25 r_11.1)] : List T_api_Data)
            some (Sum.inr ((re38 r_11.2.1), Kind, N, S, l_61, l_62, ()))) (
            Option.bind (room (l.length + ([r_4.1] : List Str).length)) fun _ =>
            let l_59 := l ++ ([r_4.1] : List Str)
            Option.bind (room (l2.length + ([(re25 r_11.1)] : List T_api_Data).length)) fun _ =>
            let l_60 := l2 ++ ([(re25 r_11.1)] : List T_api_Data)
            some (Sum.inr ((re38 r_11.2.1), Kind, N, S, l_59, l_60, ())))))) (
         fk (
          fk (
           fk (
            Option.bind (room (l.length + ([r_4.1] : List Str).length)) fun _ =>
            let l_57 := l ++ ([r_4.1] : List Str)
            Option.bind (room (l2.length + ([(re25 r_11.1)] : List T_api_Data).length)) fun _ =>
            let l_58 := l2 ++ ([(re25 r_11.1)] : List T_api_Data)
            some (Sum.inr ((re38 r_11.2.1), Kind, N, S, l_57, l_58, ()))) (
            Option.bind (room (l.length + ([r_4.1] : List Str).length)) fun _ =>
            let l_55 := l ++ ([r_4.1] : List Str)
            Option.bind (room (l2.length + ([(re25 r_11.1)] : List T_api_Data).length)) fun _ =>
            let l_56 := l2 ++ ([(re25 r_11.1)] : List T_api_Data)
            some (Sum.inr ((re38 r_11.2.1), Kind, N, S, l_55, l_56, ())))) (
           Option.bind (room (l.length + ([r_4.1] : List Str).length)) fun _ =>
           let l_53 := l ++ ([r_4.1] : List Str)
           Option.bind (room (l2.length + ([(re25 r_11.1)] : List T_api_Data).length)) fun _ =>
           let l_54 := l2 ++ ([(re25 r_11.1)] : List T_api_Data)
           some (Sum.inr ((re38 r_11.2.1), Kind, N, S, l_53, l_54, ())))) (
          fk (
           fk (
            Option.bind (room (l.length + ([r_4.1] : List Str).length)) fun _ =>
            let l_51 := l ++ ([r_4.1] : List Str)
            Option.bind (room (l2.length + ([(re25 r_11.1)] : List T_api_Data).length)) fun _ =>
            let l_52 := l2 ++ ([(re25 r_11.1)] : List T_api_Data)
            some (Sum.inr ((re38 r_11.2.1), Kind, N, S, l_51, l_52, ()))) (
            Option.bind (room (l.length + ([r_4.1] : List Str).length)) fun _ =>
            let l_49 := l ++ ([r_4.1] : List Str)
            Option.bind (room (l2.length + ([(re25 r_11.1)] : List T_api_Data).length)) fun _ =>
            let l_50 := l2 ++ ([(re25 r_11.1)] : List T_api_Data)
            some (Sum.inr ((re38 r_11.2.1), Kind, N, S, l_49, l_50, ())))) (
           Option.bind (room (l.length + ([r_4.1] : List Str).length)) fun _ =>
           let l_47 := l ++ ([r_4.1] : List Str)
           Option.bind (room (l2.length + ([(re25 r_11.1)] : List T_api_Data).length)) fun _ =>
           let l_48 := l2 ++ ([(re25 r_11.1)] : List T_api_Data)
           some (Sum.inr ((re38 r_11.2.1), Kind, N, S, l_47, l_48, ())))))) (
        fk (
         fk (
          fk (
           fk (
            Option.bind (room (l.length + ([r_4.1] : List Str).length)) fun _ =>
            let l_45 := l ++ ([r_4.1] : List Str)
            Option.bind (room (l2.length + ([(re25 r_11.1)] : List T_api_Data).length)) fun _ =>
            let l_46 := l2 ++ ([(re25 r_11.1)] : List T_api_Data)
            some (Sum.inr ((re38 r_11.2.1), Kind, N, S, l_45, l_46, ()))) (
            Option.bind (room (l.length + ([r_4.1] : List Str).length)) fun _ =>
            let l_43 := l ++ ([r_4.1] : List Str)
            Option.bind (room (l2.length + ([(re25 r_11.1)] : List T_api_Data).length)) fun _ =>
            let l_44 := l2 ++ ([(re25 r_11.1)] : List T_api_Data)
            some (Sum.inr ((re38 r_11.2.1), Kind, N, S, l_43, l_44, ())))) (
           Option.bind (room (l.length + ([r_4.1] : List Str).length)) fun _ =>
           let l_41 := l ++ ([r_4.1] : List Str)
           Option.bind (room (l2.length + ([(re25 r_11.1)] : List T_api_Data).length)) fun _ =>
           let l_42 := l2 ++ ([(re25 r_11.1)] : List T_api_Data)
           some (Sum.inr ((re38 r_11.2.1), Kind, N, S, l_41, l_42, ())))) (
          fk (
           fk (
            fk (
             Option.bind (room (l.length + ([r_4.1] : List Str).length)) fun _ =>
             let l_39 := l ++ ([r_4.1] : List Str)
             Option.bind (room (l2.length + ([(re25 r_11.1)] : List T_api_Data).length)) fun _ =>
             let l_40 := l2 ++ ([(re25 r_11.1)] : List T_api_Data)
             some (Sum.inr ((re38 r_11.2.1), Kind, N, S, l_39, l_40, ()))) (
             Option.bind (room (l.length + ([r_4.1] : List Str).length)) fun _ =>
             let l_37 := l ++ ([r_4.1] : List Str)
             Option.bind (room (l2.length + ([(re25 r_11.1)] : List T_api_Data).length)) fun _ =>
             let l_38 := l2 ++ ([(re25 r_11.1)] : List T_api_Data)
             some (Sum.inr ((re38 r_11.2.1), Kind, N, S, l_37, l_38, ())))) (
            Option.bind (room (l.length + ([r_4.1] : List Str).length)) fun _ =>
            let l_35 := l ++ ([r_4.1] : List Str)
            Option.bind (room (l2.length + ([(re25 r_11.1)] : List T_api_Data).length)) fun _ =>
            let l_36 := l2 ++ ([(re25 r_11.1)] : List T_api_Data)
            some (Sum.inr ((re38 r_11.2.1), Kind, N, S, l_35, l_36, ())))) (
           fk (
            Option.bind (room (l.length + ([r_4.1] : List Str).length)) fun _ =>
            let l_33 := l ++ ([r_4.1] : List Str)
            Option.bind (room (l2.length + ([(re25 r_11.1)] : List T_api_Data).length)) fun _ =>
            let l_34 := l2 ++ ([(re25 r_11.1)] : List T_api_Data)
            some (Sum.inr ((re38 r_11.2.1), Kind, N, S, l_33, l_34, ()))) (
            Option.bind (room (l.length + ([r_4.1] : List Str).length)) fun _ =>
            let l_31 := l ++ ([r_4.1] : List Str)
            Option.bind (room (l2.length + ([(re25 r_11.1)] : List T_api_Data).length)) fun _ =>
            let l_32 := l2 ++ ([(re25 r_11.1)] : List T_api_Data)
            some (Sum.inr ((re38 r_11.2.1), Kind, N, S, l_31, l_32, ())))))) (
         fk (
          fk (
           fk (
            Option.bind (room (l.length + ([r_4.1] : List Str).length)) fun _ =>
            let l_29 := l ++ ([r_4.1] : List Str)
            Option.bind (room (l2.length + ([(re25 r_11.1)] : List T_api_Data).length)) fun _ =>
            let l_30 := l2 ++ ([(re25 r_11.1)] : List T_api_Data)
            some (Sum.inr ((re38 r_11.2.1), Kind, N, S, l_29, l_30, ()))) (
            Option.bind (room (l.length + ([r_4.1] : List Str).length)) fun _ =>
            let l_27 := l ++ ([r_4.1] : List Str)
            Option.bind (room (l2.length + ([(re25 r_11.1)] : List T_api_Data).length)) fun _ =>
            let l_28 := l2 ++ ([(re25 r_11.1)] : List T_api_Data)
            some (Sum.inr ((re38 r_11.2.1), Kind, N, S, l_27, l_28, ())))) (
           Option.bind (room (l.length + ([r_4.1] : List Str).length)) fun _ =>
           let l_25 := l ++ ([r_4.1] : List Str)
           Option.bind (room (l2.length + ([(re25 r_11.1)] : List T_api_Data).length)) fun _ =>
           let l_26 := l2 ++ ([(re25 r_11.1)] : List T_api_Data)
           some (Sum.inr ((re38 r_11.2.1), Kind, N, S, l_25, l_26, ())))) (
          fk (
           fk (
            fk (
             Option.bind (room (l.length + ([r_4.1] : List Str).length)) fun _ =>
             let l_23 := l ++ ([r_4.1] : List Str)
             Option.bind (room (l2.length + ([(re25 r_11.1)] : List T_api_Data).length)) fun _ =>
             let l_24 := l2 ++ ([(re25 r_11.1)] : List T_api_Data)
             some (Sum.inr ((re38 r_11.2.1), Kind, N, S, l_23, l_24, ()))) (
             Option.bind (room (l.length + ([r_4.1] : List Str).length)) fun _ =>
             let l_21 := l ++ ([r_4.1] : List Str)
             Option.bind (room (l2.length + ([(re25 r_11.1)] : List T_api_Data).length)) fun _ =>
             let l_22 := l2 ++ ([(re25 r_11.1)] : List T_api_Data)
             some (Sum.inr ((re38 r_11.2.1), Kind, N, S, l_21, l_22, ())))) (
            Option.bind (room (l.length + ([r_4.1] : List Str).length)) fun _ =>
            let l_19 := l ++ ([r_4.1] : List Str)
            Option.bind (room (l2.length + ([(re25 r_11.1)] : List T_api_Data).length)) fun _ =>
            let l_20 := l2 ++ ([(re25 r_11.1)] : List T_api_Data)
            some (Sum.inr ((re38 r_11.2.1), Kind, N, S, l_19, l_20, ())))) (
           fk (
            Option.bind (room (l.length + ([r_4.1] : List Str).length)) fun _ =>
            let l_17 := l ++ ([r_4.1] : List Str)
            Option.bind (room (l2.length + ([(re25 r_11.1)] : List T_api_Data).length)) fun _ =>
            let l_18 := l2 ++ ([(re25 r_11.1)] : List T_api_Data)
            some (Sum.inr ((re38 r_11.2.1), Kind, N, S, l_17, l_18, ()))) (
            Option.bind (room (l.length + ([r_4.1] : List Str).length)) fun _ =>
            let l_15 := l ++ ([r_4.1] : List Str)
            Option.bind (room (l2.length + ([(re25 r_11.1)] : List T_api_Data).length)) fun _ =>
            let l_16 := l2 ++ ([(re25 r_11.1)] : List T_api_Data)
            some (Sum.inr ((re38 r_11.2.1), Kind, N, S, l_15, l_16, ())))))))))))
def json_parser_value_2_d (g_ : Rec_json_parser_value) : Dn.Callee Y := callee Y [] json_parser_value_2_s json_parser_value_2_o (fun z => json_parser_value_2_b g_ z.1 z.2.1 z.2.2.1 z.2.2.2.1 z.2.2.2.2.1 z.2.2.2.2.2.1)
def json_parser_value_2_k (g_ : Rec_json_parser_value) : Cuts Y (ParO Y json_parser_value_2_o) := .nil
theorem json_parser_value_2_b_ok (g_ : Rec_json_parser_value) (hg_ : Rec_json_parser_value_ok g_) : COk hY Tryd.prog Glob 37 (json_parser_value_2_d g_) :=
  fn_ok (body := (Tryd.f37.body).getD .skip) (T := [(17, (json_parser_blanks_c)), (34, (json_parser_str_c)), (33, (json_parser_need_c)), (16, (json_parser_value_c g_)), (38, (borC Y (slices_Index_c)))]) (json_parser_value_2_k g_) Tryd.func37 (by kernel_rfl) ⟨⟨_, Tryd.func37, by kernel_rfl, rfl⟩⟩ hsz ((.cons json_parser_blanks_ok (.cons json_parser_str_ok (.cons json_parser_need_ok (.cons hg_.json_parser_value (.cons (COk.borC slices_Index_ok) .nil))))) : TabOk hY Tryd.prog Glob [(17, (json_parser_blanks_c)), (34, (json_parser_str_c)), (33, (json_parser_need_c)), (16, (json_parser_value_c g_)), (38, (borC Y (slices_Index_c)))]) (fun _ _ hle h => h.mono hle) (by kernel_rfl)
    trivial
    (fun z => by kernel_rfl)
def Rec_json_parser_value_g : Nat → Rec_json_parser_value
  | 0 => ⟨fun _ => none, fun _ _ _ _ _ _ _ => none, fun _ _ _ _ _ _ => none, fun _ _ _ _ _ _ _ => none, fun _ _ _ _ _ _ => none⟩
  | n + 1 => ⟨json_parser_value_b (Rec_json_parser_value_g n), json_parser_rows_b (Rec_json_parser_value_g n), json_parser_value_1_b (Rec_json_parser_value_g n), json_parser_rows_v2_b (Rec_json_parser_value_g n), json_parser_value_2_b (Rec_json_parser_value_g n)⟩
theorem Rec_json_parser_value_all : ∀ n, Rec_json_parser_value_ok (Rec_json_parser_value_g n)
  | 0 => ⟨COk.none ⟨⟨_, Tryd.func16, by kernel_rfl, rfl⟩⟩, COk.none ⟨⟨_, Tryd.func35, by kernel_rfl, rfl⟩⟩, COk.none ⟨⟨_, Tryd.func36, by kernel_rfl, rfl⟩⟩, COk.none ⟨⟨_, Tryd.func35, by kernel_rfl, rfl⟩⟩, COk.none ⟨⟨_, Tryd.func37, by kernel_rfl, rfl⟩⟩⟩
  | n + 1 => ⟨json_parser_value_b_ok _ (Rec_json_parser_value_all n), json_parser_rows_b_ok _ (Rec_json_parser_value_all n), json_parser_value_1_b_ok _ (Rec_json_parser_value_all n), json_parser_rows_v2_b_ok _ (Rec_json_parser_value_all n), json_parser_value_2_b_ok _ (Rec_json_parser_value_all n)⟩
def json_parser_value : T_json_parser → Option ((GErr × T_json_parser × Unit) ⊕ (T_api_Data × T_json_parser × Unit)) := (Rec_json_parser_value_g Lp.big).json_parser_value
theorem json_parser_value_ok : COk hY Tryd.prog Glob 16 (json_parser_value_c (Rec_json_parser_value_g Lp.big)) := (Rec_json_parser_value_all Lp.big).json_parser_value
def json_parser_rows : Int → T_json_parser → Int → Int → Str → (List Str) → (List T_api_Data) → Option ((GErr × T_json_parser × Int × Int × Str × (List Str) × (List T_api_Data) × Unit) ⊕ (T_json_parser × Int × Int × Str × (List Str) × (List T_api_Data) × Unit)) := (Rec_json_parser_value_g Lp.big).json_parser_rows
theorem json_parser_rows_ok : COk hY Tryd.prog Glob 35 (json_parser_rows_c (Rec_json_parser_value_g Lp.big)) := (Rec_json_parser_value_all Lp.big).json_parser_rows
def json_parser_value_1 : T_json_parser → Int → Int → Str → (List Str) → (List T_api_Data) → Option ((GErr × T_json_parser × Int × Int × Str × (List Str) × (List T_api_Data) × Unit) ⊕ (T_json_parser × Int × Int × Str × (List Str) × (List T_api_Data) × Unit)) := (Rec_json_parser_value_g Lp.big).json_parser_value_1
theorem json_parser_value_1_ok : COk hY Tryd.prog Glob 36 (json_parser_value_1_c (Rec_json_parser_value_g Lp.big)) := (Rec_json_parser_value_all Lp.big).json_parser_value_1
def json_parser_rows_v2 : Int → T_json_parser → Int → Int → Str → (List Str) → (List T_api_Data) → Option ((GErr × T_json_parser × Int × Int × Str × (List Str) × (List T_api_Data) × Unit) ⊕ (T_json_parser × Int × Int × Str × (List Str) × (List T_api_Data) × Unit)) := (Rec_json_parser_value_g Lp.big).json_parser_rows_v2
theorem json_parser_rows_v2_ok : COk hY Tryd.prog Glob 35 (json_parser_rows_v2_c (Rec_json_parser_value_g Lp.big)) := (Rec_json_parser_value_all Lp.big).json_parser_rows_v2
def json_parser_value_2 : T_json_parser → Int → Int → Str → (List Str) → (List T_api_Data) → Option ((GErr × T_json_parser × Int × Int × Str × (List Str) × (List T_api_Data) × Unit) ⊕ (T_json_parser × Int × Int × Str × (List Str) × (List T_api_Data) × Unit)) := (Rec_json_parser_value_g Lp.big).json_parser_value_2
theorem json_parser_value_2_ok : COk hY Tryd.prog Glob 37 (json_parser_value_2_c (Rec_json_parser_value_g Lp.big)) := (Rec_json_parser_value_all Lp.big).json_parser_value_2
def json_Parse (u : Str) : Option (T_api_Data × Int × Unit) :=
  Option.bind (units_Check u) fun r_1 =>
  if (!r_1.1) = true then
   some ((⟨0, 0, ([] : Str), ([] : List Str), ([] : List T_api_Data)⟩ : T_api_Data), 150, ())
  else
   Option.bind (json_parser_value (⟨u, 0, 0⟩ : T_json_parser)) fun r_2 =>
   (match r_2 with
   | Sum.inl r_3 =>
    if ((r_3.1).isNil) = true then
     some ((⟨0, 0, ([] : Str), ([] : List Str), ([] : List T_api_Data)⟩ : T_api_Data), 0, ())
    else
     Option.bind (assertE 26 r_3.1) fun r_4 =>
     if r_4.2 = true then
      some ((⟨0, 0, ([] : Str), ([] : List Str), ([] : List T_api_Data)⟩ : T_api_Data), r_4.1, ())
     else
      panE r_3.1 fun _ => none
   | Sum.inr r_5 =>
    Option.bind (json_parser_blanks (re38 r_5.2.1)) fun r_6 =>
    if (decide (r_6.1 ≥ 0)) = true then
     Option.bind (json_fail 150) fun r_7 =>
     if ((r_7.1).isNil) = true then
      some ((re25 r_5.1), 0, ())
     else
      Option.bind (assertE 26 r_7.1) fun r_8 =>
      if r_8.2 = true then
       some ((⟨0, 0, ([] : Str), ([] : List Str), ([] : List T_api_Data)⟩ : T_api_Data), r_8.1, ())
      else
       panE r_7.1 fun _ => none
    else
     if ((GErr.nil).isNil) = true then
      some ((re25 r_5.1), 0, ())
     else
      Option.bind (assertE 26 GErr.nil) fun r_9 =>
      if r_9.2 = true then
       some ((⟨0, 0, ([] : Str), ([] : List Str), ([] : List T_api_Data)⟩ : T_api_Data), r_9.1, ())
      else
       panE GErr.nil fun _ => none)
def json_Parse_s : Shape := ⟨[(0, .str)], []⟩
def json_Parse_o : List OutP := [⟨false, .tup [.st 25, .int .i64], []⟩]
def json_Parse_c : Dn.Callee Y := callee Y [] json_Parse_s json_Parse_o (fun z => json_Parse z.1)
def json_Parse_k : Cuts Y (ParO Y json_Parse_o) := .nil
theorem json_Parse_ok : COk hY Tryd.prog Glob 6 json_Parse_c :=
  fn_okD (body := (Tryd.f6.body).getD .skip) (gfn := Tryd.f15) (T := [(14, (units_Check_c)), (16, (json_parser_value_c (Rec_json_parser_value_g Lp.big))), (17, (json_parser_blanks_c)), (18, (json_fail_c))]) [[1, 2, 2], [2, 2, 2]] Tryd.func6 (by kernel_rfl) ⟨⟨_, Tryd.func6, by kernel_rfl, rfl⟩⟩ Tryd.func15 ⟨⟨_, Tryd.func15, by kernel_rfl, rfl⟩⟩ hsz ((.cons units_Check_ok (.cons json_parser_value_ok (.cons json_parser_blanks_ok (.cons json_fail_ok .nil)))) : TabOk hY Tryd.prog Glob [(14, (units_Check_c)), (16, (json_parser_value_c (Rec_json_parser_value_g Lp.big))), (17, (json_parser_blanks_c)), (18, (json_fail_c))]) (fun _ _ hle h => h.mono hle) (by kernel_rfl)
    (fun z => by kernel_rfl)
structure Rec_credenzaref03_Same where
  credenzaref03_Same : T_api_Data → T_api_Data → Option (Bool × Unit)
def credenzaref03_Same_s : Shape := ⟨[(0, .st 25), (1, .st 25)], []⟩
def credenzaref03_Same_o : List OutP := [⟨false, .bool, []⟩]
def credenzaref03_Same_c (g_ : Rec_credenzaref03_Same) : Dn.Callee Y := callee Y [] credenzaref03_Same_s credenzaref03_Same_o (fun z => g_.credenzaref03_Same z.1 z.2.1)
structure Rec_credenzaref03_Same_ok (g_ : Rec_credenzaref03_Same) : Prop where
  credenzaref03_Same : COk hY Tryd.prog Glob 9 (credenzaref03_Same_c g_)
def credenzaref03_Same_l2 (g_ : Rec_credenzaref03_Same) : Int × Int × T_api_Data × T_api_Data × Unit → Option ((Int × Int × T_api_Data × T_api_Data × Unit) ⊕ (Bool × Unit))
  | (v_13, v_14, x_15, x_16, ()) =>
    if (decide (v_14 < v_13)) = true then
     Option.bind (getI x_15.L v_14) fun x_17 =>
     Option.bind (getI x_16.L v_14) fun x_18 =>
     Option.bind (g_.credenzaref03_Same (re25 x_17) (re25 x_18)) fun r_19 =>
     if (!r_19.1) = true then
      some (Sum.inr (false, ()))
     else
      let n_20 := (IntKind.wrap .i64 (v_14 + 1))
      some (Sum.inl (v_13, n_20, (re25 x_15), (re25 x_16), ()))
    else
     some (Sum.inr (true, ()))
def credenzaref03_Same_l1 (g_ : Rec_credenzaref03_Same) : Int × Int × T_api_Data × T_api_Data × Unit → Option ((Int × Int × T_api_Data × T_api_Data × Unit) ⊕ (Bool × Unit))
  | (v_5, v_6, x_7, x_8, ()) =>
    if (decide (v_6 < v_5)) = true then
     Option.bind (getI x_7.Keys v_6) fun x_9 =>
     Option.bind (getI x_8.Keys v_6) fun x_10 =>
     if (!(x_9 == x_10)) = true then
      some (Sum.inr (false, ()))
     else
      let n_11 := (IntKind.wrap .i64 (v_6 + 1))
      some (Sum.inl (v_5, n_11, (re25 x_7), (re25 x_8), ()))
    else
     let n_12 := ((x_7.L.length : Nat) : Int)
     mapO Sum.inr (Lp.loop (credenzaref03_Same_l2 g_) (n_12, 0, (re25 x_7), (re25 x_8), ()))
def credenzaref03_Same_b (g_ : Rec_credenzaref03_Same) (a : T_api_Data) (b : T_api_Data) : Option (Bool × Unit) :=
  let b_1 := ((a.Kind != b.Kind) || (a.N != b.N))
  let b_2 := ((b_1 || (!(a.S == b.S))) || (((a.Keys.length : Nat) : Int) != ((b.Keys.length : Nat) : Int)))
  let b_3 := (b_2 || (((a.L.length : Nat) : Int) != ((b.L.length : Nat) : Int)))
  if b_3 = true then
   some (false, ())
  else
   let n_4 := ((a.Keys.length : Nat) : Int)
   Lp.loop (credenzaref03_Same_l1 g_) (n_4, 0, (re25 a), (re25 b), ())
def credenzaref03_Same_d (g_ : Rec_credenzaref03_Same) : Dn.Callee Y := callee Y [] credenzaref03_Same_s credenzaref03_Same_o (fun z => credenzaref03_Same_b g_ z.1 z.2.1)
def credenzaref03_Same_k (g_ : Rec_credenzaref03_Same) : Cuts Y (ParO Y credenzaref03_Same_o) := (.loop [[7, 5, 2, 1, 2, 2], [8, 5, 2, 1, 2, 2], [6, 2, 1, 2, 2], [2, 2, 2]] ⟨[(2, .ptr 0 0), (3, .ptr 1 0), (46, .int .i64), (47, .int .i64)], [.whole 25 25, .whole 25 25]⟩ (credenzaref03_Same_l1 g_) .nil (.loop [[7, 5, 2, 1, 2, 2, 2], [8, 5, 2, 1, 2, 2, 2], [6, 2, 1, 2, 2, 2], [2, 2, 2, 2]] ⟨[(2, .ptr 0 0), (3, .ptr 1 0), (64, .int .i64), (65, .int .i64)], [.whole 25 25, .whole 25 25]⟩ (credenzaref03_Same_l2 g_) .nil .nil))
theorem credenzaref03_Same_b_ok (g_ : Rec_credenzaref03_Same) (hg_ : Rec_credenzaref03_Same_ok g_) : COk hY Tryd.prog Glob 9 (credenzaref03_Same_d g_) :=
  fn_ok (body := (Tryd.f9.body).getD .skip) (T := [(9, (credenzaref03_Same_c g_))]) (credenzaref03_Same_k g_) Tryd.func9 (by kernel_rfl) ⟨⟨_, Tryd.func9, by kernel_rfl, rfl⟩⟩ hsz ((.cons hg_.credenzaref03_Same .nil) : TabOk hY Tryd.prog Glob [(9, (credenzaref03_Same_c g_))]) (fun _ _ hle h => h.mono hle) (by kernel_rfl)
    ⟨fun z => by kernel_rfl, trivial, ⟨fun z => by kernel_rfl, trivial, trivial⟩⟩
    (fun z => by kernel_rfl)
def Rec_credenzaref03_Same_g : Nat → Rec_credenzaref03_Same
  | 0 => ⟨fun _ _ => none⟩
  | n + 1 => ⟨credenzaref03_Same_b (Rec_credenzaref03_Same_g n)⟩
theorem Rec_credenzaref03_Same_all : ∀ n, Rec_credenzaref03_Same_ok (Rec_credenzaref03_Same_g n)
  | 0 => ⟨COk.none ⟨⟨_, Tryd.func9, by kernel_rfl, rfl⟩⟩⟩
  | n + 1 => ⟨credenzaref03_Same_b_ok _ (Rec_credenzaref03_Same_all n)⟩
def credenzaref03_Same : T_api_Data → T_api_Data → Option (Bool × Unit) := (Rec_credenzaref03_Same_g Lp.big).credenzaref03_Same
theorem credenzaref03_Same_ok : COk hY Tryd.prog Glob 9 (credenzaref03_Same_c (Rec_credenzaref03_Same_g Lp.big)) := (Rec_credenzaref03_Same_all Lp.big).credenzaref03_Same
def credenzalaw13_live : Option (Bool × Unit) :=
  Option.bind (credenzaref01_U ([123, 34, 97, 34, 58, 91, 49, 44, 110, 117, 108, 108, 93, 44, 34, 97, 34, 58, 50, 125] : Str)) fun r_1 =>
  Option.bind (json_Parse r_1.1) fun r_2 =>
  Option.bind (json_Write (⟨5, 0, ([] : Str), ([] : List Str), ([(⟨0, 0, ([] : Str), ([] : List Str), ([] : List T_api_Data)⟩ : T_api_Data), (⟨4, 0, ([0, 233] : Str), ([] : List Str), ([] : List T_api_Data)⟩ : T_api_Data)] : List T_api_Data)⟩ : T_api_Data)) fun r_3 =>
  Option.bind (credenzaref01_U ([48, 49] : Str)) fun r_4 =>
  Option.bind (json_Parse r_4.1) fun r_5 =>
  Option.bind (credenzaref03_Same (re25 r_2.1) (⟨6, 0, ([] : Str), ([([0, 97] : Str)] : List Str), ([(⟨3, 2, ([] : Str), ([] : List Str), ([] : List T_api_Data)⟩ : T_api_Data)] : List T_api_Data)⟩ : T_api_Data)) fun r_6 =>
  if (r_6.1 && (r_2.2.1 == 0)) = true then
   Option.bind (credenzaref01_U ([91, 110, 117, 108, 108, 44, 34] : Str)) fun r_7 =>
   Option.bind (catS r_7.1 ([0, 233] : Str)) fun s_8 =>
   Option.bind (credenzaref01_U ([34, 93] : Str)) fun r_9 =>
   Option.bind (catS s_8 r_9.1) fun s_10 =>
   let b_11 := ((r_3.1 == s_10) && (r_3.2.1 == 0))
   some ((b_11 && (r_5.2.1 == 150)), ())
  else
   some (false, ())
def credenzalaw13_live_s : Shape := ⟨[], []⟩
def credenzalaw13_live_o : List OutP := [⟨false, .bool, []⟩]
def credenzalaw13_live_c : Dn.Callee Y := callee Y [] credenzalaw13_live_s credenzalaw13_live_o (fun z => credenzalaw13_live)
def credenzalaw13_live_k : Cuts Y (ParO Y credenzalaw13_live_o) := .nil
theorem credenzalaw13_live_ok : COk hY Tryd.prog Glob 8 (credenzalaw13_live_c) :=
  fn_ok (body := (Tryd.f8.body).getD .skip) (T := [(13, (credenzaref01_U_c)), (6, (json_Parse_c)), (10, (json_Write_c)), (9, (credenzaref03_Same_c (Rec_credenzaref03_Same_g Lp.big)))]) (credenzalaw13_live_k) Tryd.func8 (by kernel_rfl) ⟨⟨_, Tryd.func8, by kernel_rfl, rfl⟩⟩ hsz ((.cons credenzaref01_U_ok (.cons json_Parse_ok (.cons json_Write_ok (.cons credenzaref03_Same_ok .nil)))) : TabOk hY Tryd.prog Glob [(13, (credenzaref01_U_c)), (6, (json_Parse_c)), (10, (json_Write_c)), (9, (credenzaref03_Same_c (Rec_credenzaref03_Same_g Lp.big)))]) (fun _ _ hle h => h.mono hle) (by kernel_rfl)
    trivial
    (fun z => by kernel_rfl)
def credenzalaw13_JsonWrites (v : T_api_Data) : Option (Bool × Unit) :=
  Option.bind (json_Write (re25 v)) fun r_1 =>
  Option.bind (credenzaref13_Write (re25 v)) fun r_2 =>
  Option.bind (credenzalaw13_live) fun r_3 =>
  let b_4 := ((r_3.1 && (r_1.1 == r_2.1)) && (r_1.2.1 == r_2.2.1))
  some (b_4, ())
def credenzalaw13_JsonWrites_s : Shape := ⟨[(0, .st 25)], []⟩
def credenzalaw13_JsonWrites_o : List OutP := [⟨false, .bool, []⟩]
def credenzalaw13_JsonWrites_c : Dn.Callee Y := callee Y [] credenzalaw13_JsonWrites_s credenzalaw13_JsonWrites_o (fun z => credenzalaw13_JsonWrites z.1)
def credenzalaw13_JsonWrites_k : Cuts Y (ParO Y credenzalaw13_JsonWrites_o) := .nil
theorem credenzalaw13_JsonWrites_ok : COk hY Tryd.prog Glob 4 (credenzalaw13_JsonWrites_c) :=
  fn_ok (body := (Tryd.f4.body).getD .skip) (T := [(10, (json_Write_c)), (11, (credenzaref13_Write_c)), (8, (credenzalaw13_live_c))]) (credenzalaw13_JsonWrites_k) Tryd.func4 (by kernel_rfl) ⟨⟨_, Tryd.func4, by kernel_rfl, rfl⟩⟩ hsz ((.cons json_Write_ok (.cons credenzaref13_Write_ok (.cons credenzalaw13_live_ok .nil))) : TabOk hY Tryd.prog Glob [(10, (json_Write_c)), (11, (credenzaref13_Write_c)), (8, (credenzalaw13_live_c))]) (fun _ _ hle h => h.mono hle) (by kernel_rfl)
    trivial
    (fun z => by kernel_rfl)
structure Rec_credenzalaw13_undef where
  credenzalaw13_undef : T_api_Data → Option (Bool × Unit)
def credenzalaw13_undef_s : Shape := ⟨[(0, .st 25)], []⟩
def credenzalaw13_undef_o : List OutP := [⟨false, .bool, []⟩]
def credenzalaw13_undef_c (g_ : Rec_credenzalaw13_undef) : Dn.Callee Y := callee Y [] credenzalaw13_undef_s credenzalaw13_undef_o (fun z => g_.credenzalaw13_undef z.1)
structure Rec_credenzalaw13_undef_ok (g_ : Rec_credenzalaw13_undef) : Prop where
  credenzalaw13_undef : COk hY Tryd.prog Glob 12 (credenzalaw13_undef_c g_)
def credenzalaw13_undef_l1 (g_ : Rec_credenzalaw13_undef) : (List T_api_Data) × Int × Int × Unit → Option (((List T_api_Data) × Int × Int × Unit) ⊕ (Bool × Unit))
  | (v_1, v_2, v_3, ()) =>
    if (decide (v_3 < v_2)) = true then
     Option.bind (getI v_1 v_3) fun x_4 =>
     Option.bind (g_.credenzalaw13_undef (re25 x_4)) fun r_5 =>
     if r_5.1 = true then
      some (Sum.inr (true, ()))
     else
      let n_6 := (IntKind.wrap .i64 (v_3 + 1))
      some (Sum.inl (v_1, v_2, n_6, ()))
    else
     some (Sum.inr (false, ()))
def credenzalaw13_undef_b (g_ : Rec_credenzalaw13_undef) (d : T_api_Data) : Option (Bool × Unit) :=
  if (d.Kind == 0) = true then
   some (true, ())
  else
   Lp.loop (credenzalaw13_undef_l1 g_) (d.L, ((d.L.length : Nat) : Int), 0, ())
def credenzalaw13_undef_d (g_ : Rec_credenzalaw13_undef) : Dn.Callee Y := callee Y [] credenzalaw13_undef_s credenzalaw13_undef_o (fun z => credenzalaw13_undef_b g_ z.1)
def credenzalaw13_undef_k (g_ : Rec_credenzalaw13_undef) : Cuts Y (ParO Y credenzalaw13_undef_o) := (.loop [[7, 5, 2, 1, 2, 2], [8, 5, 2, 1, 2, 2], [6, 2, 1, 2, 2], [2, 2, 2]] ⟨[(9, .sl 25), (10, .int .i64), (11, .int .i64)], []⟩ (credenzalaw13_undef_l1 g_) .nil .nil)
theorem credenzalaw13_undef_b_ok (g_ : Rec_credenzalaw13_undef) (hg_ : Rec_credenzalaw13_undef_ok g_) : COk hY Tryd.prog Glob 12 (credenzalaw13_undef_d g_) :=
  fn_ok (body := (Tryd.f12.body).getD .skip) (T := [(12, (credenzalaw13_undef_c g_))]) (credenzalaw13_undef_k g_) Tryd.func12 (by kernel_rfl) ⟨⟨_, Tryd.func12, by kernel_rfl, rfl⟩⟩ hsz ((.cons hg_.credenzalaw13_undef .nil) : TabOk hY Tryd.prog Glob [(12, (credenzalaw13_undef_c g_))]) (fun _ _ hle h => h.mono hle) (by kernel_rfl)
    ⟨fun z => by kernel_rfl, trivial, trivial⟩
    (fun z => by kernel_rfl)
def Rec_credenzalaw13_undef_g : Nat → Rec_credenzalaw13_undef
  | 0 => ⟨fun _ => none⟩
  | n + 1 => ⟨credenzalaw13_undef_b (Rec_credenzalaw13_undef_g n)⟩
theorem Rec_credenzalaw13_undef_all : ∀ n, Rec_credenzalaw13_undef_ok (Rec_credenzalaw13_undef_g n)
  | 0 => ⟨COk.none ⟨⟨_, Tryd.func12, by kernel_rfl, rfl⟩⟩⟩
  | n + 1 => ⟨credenzalaw13_undef_b_ok _ (Rec_credenzalaw13_undef_all n)⟩
def credenzalaw13_undef : T_api_Data → Option (Bool × Unit) := (Rec_credenzalaw13_undef_g Lp.big).credenzalaw13_undef
theorem credenzalaw13_undef_ok : COk hY Tryd.prog Glob 12 (credenzalaw13_undef_c (Rec_credenzalaw13_undef_g Lp.big)) := (Rec_credenzalaw13_undef_all Lp.big).credenzalaw13_undef
def credenzalaw13_JsonBack (d : T_api_Data) : Option (Bool × Unit) :=
  Option.bind (credenzalaw13_live) fun r_1 =>
  Option.bind (json_Write (re25 d)) fun r_2 =>
  if (r_2.2.1 != 0) = true then
   some (r_1.1, ())
  else
   Option.bind (credenzalaw13_undef (re25 d)) fun r_3 =>
   if r_3.1 = true then
    some (r_1.1, ())
   else
    Option.bind (json_Parse r_2.1) fun r_4 =>
    Option.bind (credenzaref01_U ([32, 10] : Str)) fun r_5 =>
    Option.bind (catS r_5.1 r_2.1) fun s_6 =>
    Option.bind (credenzaref01_U ([9, 32] : Str)) fun r_7 =>
    Option.bind (catS s_6 r_7.1) fun s_8 =>
    Option.bind (json_Parse s_8) fun r_9 =>
    let b_10 := ((r_1.1 && (r_4.2.1 == 0)) && (r_9.2.1 == 0))
    if b_10 = true then
     Option.bind (credenzaref03_Same (re25 r_4.1) (re25 d)) fun r_11 =>
     if r_11.1 = true then
      Option.bind (credenzaref03_Same (re25 r_9.1) (re25 d)) fun r_12 =>
      some (r_12.1, ())
     else
      some (false, ())
    else
     some (false, ())
def credenzalaw13_JsonBack_s : Shape := ⟨[(0, .st 25)], []⟩
def credenzalaw13_JsonBack_o : List OutP := [⟨false, .bool, []⟩]
def credenzalaw13_JsonBack_c : Dn.Callee Y := callee Y [] credenzalaw13_JsonBack_s credenzalaw13_JsonBack_o (fun z => credenzalaw13_JsonBack z.1)
def credenzalaw13_JsonBack_k : Cuts Y (ParO Y credenzalaw13_JsonBack_o) := .nil
theorem credenzalaw13_JsonBack_ok : COk hY Tryd.prog Glob 5 (credenzalaw13_JsonBack_c) :=
  fn_ok (body := (Tryd.f5.body).getD .skip) (T := [(8, (credenzalaw13_live_c)), (10, (json_Write_c)), (12, (credenzalaw13_undef_c (Rec_credenzalaw13_undef_g Lp.big))), (6, (json_Parse_c)), (13, (credenzaref01_U_c)), (9, (credenzaref03_Same_c (Rec_credenzaref03_Same_g Lp.big)))]) (credenzalaw13_JsonBack_k) Tryd.func5 (by kernel_rfl) ⟨⟨_, Tryd.func5, by kernel_rfl, rfl⟩⟩ hsz ((.cons credenzalaw13_live_ok (.cons json_Write_ok (.cons credenzalaw13_undef_ok (.cons json_Parse_ok (.cons credenzaref01_U_ok (.cons credenzaref03_Same_ok .nil)))))) : TabOk hY Tryd.prog Glob [(8, (credenzalaw13_live_c)), (10, (json_Write_c)), (12, (credenzalaw13_undef_c (Rec_credenzalaw13_undef_g Lp.big))), (6, (json_Parse_c)), (13, (credenzaref01_U_c)), (9, (credenzaref03_Same_c (Rec_credenzaref03_Same_g Lp.big)))]) (fun _ _ hle h => h.mono hle) (by kernel_rfl)
    trivial
    (fun z => by kernel_rfl)
def credenzaref13_reader_next (x : T_credenzaref13_reader) : Option (Int × T_credenzaref13_reader × Unit) :=
  if (x.e != 0) = true then
   fk (
    fk (
     fk (
      some ((-1), (re46 x), ())) (
      fk (
       some ((-1), (re46 x), ())) (
       fk (
        some ((-1), (re46 x), ())) (
        fk (
         some ((-1), (re46 x), ())) (
         some ((-1), (re46 x), ())))))) (
     fk (
      fk (
       some ((-1), (re46 x), ())) (
       fk (
        some ((-1), (re46 x), ())) (
        fk (
         some ((-1), (re46 x), ())) (
         some ((-1), (re46 x), ()))))) (
      fk (
       fk (
        some ((-1), (re46 x), ())) (
        fk (
         some ((-1), (re46 x), ())) (
         some ((-1), (re46 x), ())))) (
       fk (
        fk (
         some ((-1), (re46 x), ())) (
         some ((-1), (re46 x), ()))) (
        some ((-1), (re46 x), ())))))) (
    fk (
     fk (
      fk (
       some ((-1), (re46 x), ())) (
       fk (
        some ((-1), (re46 x), ())) (
        fk (
         some ((-1), (re46 x), ())) (
         some ((-1), (re46 x), ()))))) (
      fk (
       fk (
        some ((-1), (re46 x), ())) (
        fk (
         some ((-1), (re46 x), ())) (
         some ((-1), (re46 x), ())))) (
       fk (
        fk (
         some ((-1), (re46 x), ())) (
         some ((-1), (re46 x), ()))) (
        some ((-1), (re46 x), ()))))) (
     fk (
      fk (
       fk (
        some ((-1), (re46 x), ())) (
        fk (
         some ((-1), (re46 x), ())) (
         some ((-1), (re46 x), ())))) (
       fk (
        fk (
         some ((-1), (re46 x), ())) (
         some ((-1), (re46 x), ()))) (
        some ((-1), (re46 x), ())))) (
      fk (
       fk (
        fk (
         some ((-1), (re46 x), ())) (
         some ((-1), (re46 x), ()))) (
        some ((-1), (re46 x), ()))) (
       some ((-1), (re46 x), ())))))
  else
   let b_1 := (decide (x.at_ ≥ ((x.l.length : Nat) : Int)))
   if b_1 = true then
    some ((-1), (re46 x), ())
   else
    Option.bind (getI x.l x.at_) fun x_2 =>
    some (x_2, (re46 x), ())
def credenzaref13_reader_next_s : Shape := ⟨[(0, .ptr 0 0)], [.whole 46 46]⟩
def credenzaref13_reader_next_o : List OutP := [⟨false, .int .i64, [.whole 46 46]⟩]
def credenzaref13_reader_next_c : Dn.Callee Y := callee Y [] credenzaref13_reader_next_s credenzaref13_reader_next_o (fun z => credenzaref13_reader_next z.1)
def credenzaref13_reader_next_k : Cuts Y (ParO Y credenzaref13_reader_next_o) := .nil
theorem credenzaref13_reader_next_ok : COk hY Tryd.prog Glob 41 (credenzaref13_reader_next_c) :=
  fn_ok (body := (Tryd.f41.body).getD .skip) (T := []) (credenzaref13_reader_next_k) Tryd.func41 (by kernel_rfl) ⟨⟨_, Tryd.func41, by kernel_rfl, rfl⟩⟩ hsz .nil (fun _ _ hle h => h.mono hle) (by kernel_rfl)
    trivial
    (fun z => by kernel_rfl)
def credenzaref13_reader_blanks_l1 : T_credenzaref13_reader × Unit → Option ((T_credenzaref13_reader × Unit) ⊕ (T_credenzaref13_reader × Unit))
  | (x_1, ()) =>
    Option.bind (credenzaref13_reader_next (re46 x_1)) fun r_2 =>
    if (r_2.1 == 9) = true then
     let n_3 := (IntKind.wrap .i64 (r_2.2.1.at_ + 1))
     some (Sum.inl ((⟨r_2.2.1.l, n_3, r_2.2.1.e⟩ : T_credenzaref13_reader), ()))
    else
     Option.bind (credenzaref13_reader_next (re46 r_2.2.1)) fun r_4 =>
     if (r_4.1 == 10) = true then
      let n_5 := (IntKind.wrap .i64 (r_4.2.1.at_ + 1))
      some (Sum.inl ((⟨r_4.2.1.l, n_5, r_4.2.1.e⟩ : T_credenzaref13_reader), ()))
     else
      Option.bind (credenzaref13_reader_next (re46 r_4.2.1)) fun r_6 =>
      if (r_6.1 == 13) = true then
       let n_7 := (IntKind.wrap .i64 (r_6.2.1.at_ + 1))
       some (Sum.inl ((⟨r_6.2.1.l, n_7, r_6.2.1.e⟩ : T_credenzaref13_reader), ()))
      else
       Option.bind (credenzaref13_reader_next (re46 r_6.2.1)) fun r_8 =>
       if (r_8.1 == 32) = true then
        let n_9 := (IntKind.wrap .i64 (r_8.2.1.at_ + 1))
        some (Sum.inl ((⟨r_8.2.1.l, n_9, r_8.2.1.e⟩ : T_credenzaref13_reader), ()))
       else
        some (Sum.inr ((re46 r_8.2.1), ()))
def credenzaref13_reader_blanks (x : T_credenzaref13_reader) : Option (T_credenzaref13_reader × Unit) :=
  Lp.loop credenzaref13_reader_blanks_l1 ((re46 x), ())
def credenzaref13_reader_blanks_s : Shape := ⟨[(0, .ptr 0 0)], [.whole 46 46]⟩
def credenzaref13_reader_blanks_o : List OutP := [⟨false, .tup [], [.whole 46 46]⟩]
def credenzaref13_reader_blanks_c : Dn.Callee Y := callee Y [] credenzaref13_reader_blanks_s credenzaref13_reader_blanks_o (fun z => credenzaref13_reader_blanks z.1)
def credenzaref13_reader_blanks_k : Cuts Y (ParO Y credenzaref13_reader_blanks_o) := (.loop [[7, 5], [8, 5], [6]] ⟨[(0, .ptr 0 0)], [.whole 46 46]⟩ (credenzaref13_reader_blanks_l1) .nil .nil)
theorem credenzaref13_reader_blanks_ok : COk hY Tryd.prog Glob 22 (credenzaref13_reader_blanks_c) :=
  fn_ok (body := (Tryd.f22.body).getD .skip) (T := [(41, (credenzaref13_reader_next_c))]) (credenzaref13_reader_blanks_k) Tryd.func22 (by kernel_rfl) ⟨⟨_, Tryd.func22, by kernel_rfl, rfl⟩⟩ hsz ((.cons credenzaref13_reader_next_ok .nil) : TabOk hY Tryd.prog Glob [(41, (credenzaref13_reader_next_c))]) (fun _ _ hle h => h.mono hle) (by kernel_rfl)
    ⟨fun z => by kernel_rfl, trivial, trivial⟩
    (fun z => by kernel_rfl)
def credenzaref13_begins_l1 : Int × Str × Nat × Unit → Option ((Int × Str × Nat × Unit) ⊕ (Bool × Unit))
  | (n_1, x_2, x_3, ()) =>
    if (Nat.blt x_3 x_2.length) = true then
     let n_4 := (((Utf8.decode ⟨⟨x_2⟩⟩ x_3).1 : Nat) : Int)
     let b_5 := (n_1 == (IntKind.wrap .i64 n_4))
     if b_5 = true then
      some (Sum.inr (true, ()))
     else
      some (Sum.inl (n_1, x_2, (x_3 + (Utf8.decode ⟨⟨x_2⟩⟩ x_3).2), ()))
    else
     some (Sum.inr (false, ()))
def credenzaref13_begins (n : Int) : Option (Bool × Unit) :=
  Lp.loop credenzaref13_begins_l1 (n, ([110, 116, 102, 34, 91, 123, 45, 48, 49, 50, 51, 52, 53, 54, 55, 56, 57] : Str), 0, ())
def credenzaref13_begins_s : Shape := ⟨[(0, .int .i64)], []⟩
def credenzaref13_begins_o : List OutP := [⟨false, .bool, []⟩]
def credenzaref13_begins_c : Dn.Callee Y := callee Y [] credenzaref13_begins_s credenzaref13_begins_o (fun z => credenzaref13_begins z.1)
def credenzaref13_begins_k : Cuts Y (ParO Y credenzaref13_begins_o) := (.loop [[7, 5, 2, 1, 2], [8, 5, 2, 1, 2], [6, 2, 1, 2], [2, 2]] ⟨[(0, .int .i64), (5, .ptr 0 0)], [.it]⟩ (credenzaref13_begins_l1) .nil .nil)
theorem credenzaref13_begins_ok : COk hY Tryd.prog Glob 42 (credenzaref13_begins_c) :=
  fn_ok (body := (Tryd.f42.body).getD .skip) (T := []) (credenzaref13_begins_k) Tryd.func42 (by kernel_rfl) ⟨⟨_, Tryd.func42, by kernel_rfl, rfl⟩⟩ hsz .nil (fun _ _ hle h => h.mono hle) (by kernel_rfl)
    ⟨fun z => by kernel_rfl, trivial, trivial⟩
    (fun z => by kernel_rfl)
def credenzaref13_reader_fail (e : Int) (x : T_credenzaref13_reader) : Option (T_credenzaref13_reader × Unit) :=
  if (x.e == 0) = true then
   some ((⟨x.l, x.at_, e⟩ : T_credenzaref13_reader), ())
  else
   some ((re46 x), ())
def credenzaref13_reader_fail_s : Shape := ⟨[(0, .ptr 0 0), (1, .int .i64)], [.whole 46 46]⟩
def credenzaref13_reader_fail_o : List OutP := [⟨false, .tup [], [.whole 46 46]⟩]
def credenzaref13_reader_fail_c : Dn.Callee Y := callee Y [] credenzaref13_reader_fail_s credenzaref13_reader_fail_o (fun z => credenzaref13_reader_fail z.1 z.2.1)
def credenzaref13_reader_fail_k : Cuts Y (ParO Y credenzaref13_reader_fail_o) := .nil
theorem credenzaref13_reader_fail_ok : COk hY Tryd.prog Glob 23 (credenzaref13_reader_fail_c) :=
  fn_ok (body := (Tryd.f23.body).getD .skip) (T := []) (credenzaref13_reader_fail_k) Tryd.func23 (by kernel_rfl) ⟨⟨_, Tryd.func23, by kernel_rfl, rfl⟩⟩ hsz .nil (fun _ _ hle h => h.mono hle) (by kernel_rfl)
    trivial
    (fun z => by kernel_rfl)
def credenzaref13_reader_need_l1 : Str × Int × T_credenzaref13_reader × Unit → Option ((Str × Int × T_credenzaref13_reader × Unit) ⊕ (T_credenzaref13_reader × Unit))
  | (s_1, i_2, x_3, ()) =>
    let b_4 := (decide (i_2 < ((s_1.length : Nat) : Int)))
    if b_4 = true then
     Option.bind (getB s_1 i_2) fun c_5 =>
     Option.bind (credenzaref13_reader_next (re46 x_3)) fun r_6 =>
     let b_7 := (r_6.1 != (IntKind.wrap .i64 c_5))
     if b_7 = true then
      Option.bind (credenzaref13_reader_fail 150 (re46 r_6.2.1)) fun r_8 =>
      some (Sum.inr ((re46 r_8.1), ()))
     else
      let n_9 := (IntKind.wrap .i64 (r_6.2.1.at_ + 1))
      let n_10 := (IntKind.wrap .i64 (i_2 + 1))
      some (Sum.inl (s_1, n_10, (⟨r_6.2.1.l, n_9, r_6.2.1.e⟩ : T_credenzaref13_reader), ()))
    else
     some (Sum.inr ((re46 x_3), ()))
def credenzaref13_reader_need (s : Str) (x : T_credenzaref13_reader) : Option (T_credenzaref13_reader × Unit) :=
  Lp.loop credenzaref13_reader_need_l1 (s, 0, (re46 x), ())
def credenzaref13_reader_need_s : Shape := ⟨[(0, .ptr 0 0), (1, .str)], [.whole 46 46]⟩
def credenzaref13_reader_need_o : List OutP := [⟨false, .tup [], [.whole 46 46]⟩]
def credenzaref13_reader_need_c : Dn.Callee Y := callee Y [] credenzaref13_reader_need_s credenzaref13_reader_need_o (fun z => credenzaref13_reader_need z.1 z.2.1)
def credenzaref13_reader_need_k : Cuts Y (ParO Y credenzaref13_reader_need_o) := (.loop [[7, 5, 2], [8, 5, 2], [6, 2]] ⟨[(0, .ptr 0 0), (1, .str), (4, .int .i64)], [.whole 46 46]⟩ (credenzaref13_reader_need_l1) .nil .nil)
theorem credenzaref13_reader_need_ok : COk hY Tryd.prog Glob 43 (credenzaref13_reader_need_c) :=
  fn_ok (body := (Tryd.f43.body).getD .skip) (T := [(41, (credenzaref13_reader_next_c)), (23, (credenzaref13_reader_fail_c))]) (credenzaref13_reader_need_k) Tryd.func43 (by kernel_rfl) ⟨⟨_, Tryd.func43, by kernel_rfl, rfl⟩⟩ hsz ((.cons credenzaref13_reader_next_ok (.cons credenzaref13_reader_fail_ok .nil)) : TabOk hY Tryd.prog Glob [(41, (credenzaref13_reader_next_c)), (23, (credenzaref13_reader_fail_c))]) (fun _ _ hle h => h.mono hle) (by kernel_rfl)
    ⟨fun z => by kernel_rfl, trivial, trivial⟩
    (fun z => by kernel_rfl)
def credenzaref13_digit (n : Int) : Option (Int × Unit) :=
  let b_1 := ((decide (n ≥ 48)) && (decide (n ≤ 57)))
  if b_1 = true then
   let n_2 := (IntKind.wrap .i64 (n - 48))
   some (n_2, ())
  else
   let b_3 := ((decide (n ≥ 97)) && (decide (n ≤ 102)))
   if b_3 = true then
    let n_4 := (IntKind.wrap .i64 (n - 97))
    let n_5 := (IntKind.wrap .i64 (n_4 + 10))
    some (n_5, ())
   else
    let b_6 := ((decide (n ≥ 65)) && (decide (n ≤ 70)))
    if b_6 = true then
     let n_7 := (IntKind.wrap .i64 (n - 65))
     let n_8 := (IntKind.wrap .i64 (n_7 + 10))
     some (n_8, ())
    else
     some ((-1), ())
def credenzaref13_digit_s : Shape := ⟨[(0, .int .i64)], []⟩
def credenzaref13_digit_o : List OutP := [⟨false, .int .i64, []⟩]
def credenzaref13_digit_c : Dn.Callee Y := callee Y [] credenzaref13_digit_s credenzaref13_digit_o (fun z => credenzaref13_digit z.1)
def credenzaref13_digit_k : Cuts Y (ParO Y credenzaref13_digit_o) := .nil
theorem credenzaref13_digit_ok : COk hY Tryd.prog Glob 72 (credenzaref13_digit_c) :=
  fn_ok (body := (Tryd.f72.body).getD .skip) (T := []) (credenzaref13_digit_k) Tryd.func72 (by kernel_rfl) ⟨⟨_, Tryd.func72, by kernel_rfl, rfl⟩⟩ hsz .nil (fun _ _ hle h => h.mono hle) (by kernel_rfl)
    trivial
    (fun z => by kernel_rfl)
def credenzaref13_reader_escaped_l1 : Int × Int × T_credenzaref13_reader × Unit → Option ((Int × Int × T_credenzaref13_reader × Unit) ⊕ (Int × T_credenzaref13_reader × Unit))
  | (out_4, v_5, x_6, ()) =>
    if (decide (v_5 < 4)) = true then
     Option.bind (credenzaref13_reader_next (re46 x_6)) fun r_7 =>
     Option.bind (credenzaref13_digit r_7.1) fun r_8 =>
     if (decide (r_8.1 < 0)) = true then
      Option.bind (credenzaref13_reader_fail 150 (re46 r_7.2.1)) fun r_9 =>
      some (Sum.inr (0, (re46 r_9.1), ()))
     else
      let n_10 := (IntKind.wrap .i64 (16 * out_4))
      let n_11 := (IntKind.wrap .i64 (n_10 + r_8.1))
      let n_12 := (IntKind.wrap .i64 (r_7.2.1.at_ + 1))
      let n_13 := (IntKind.wrap .i64 (v_5 + 1))
      some (Sum.inl (n_11, n_13, (⟨r_7.2.1.l, n_12, r_7.2.1.e⟩ : T_credenzaref13_reader), ()))
    else
     some (Sum.inr (out_4, (re46 x_6), ()))
def credenzaref13_reader_escaped (x : T_credenzaref13_reader) : Option (Int × T_credenzaref13_reader × Unit) :=
  Option.bind (credenzaref13_reader_next (re46 x)) fun r_1 =>
  let n_2 := (IntKind.wrap .i64 (r_1.2.1.at_ + 1))
  if (r_1.1 == 34) = true then
   some (r_1.1, (⟨r_1.2.1.l, n_2, r_1.2.1.e⟩ : T_credenzaref13_reader), ())
  else
   if (r_1.1 == 92) = true then
    some (r_1.1, (⟨r_1.2.1.l, n_2, r_1.2.1.e⟩ : T_credenzaref13_reader), ())
   else
    if (r_1.1 == 47) = true then
     some (r_1.1, (⟨r_1.2.1.l, n_2, r_1.2.1.e⟩ : T_credenzaref13_reader), ())
    else
     if (r_1.1 == 98) = true then
      some (8, (⟨r_1.2.1.l, n_2, r_1.2.1.e⟩ : T_credenzaref13_reader), ())
     else
      if (r_1.1 == 102) = true then
       some (12, (⟨r_1.2.1.l, n_2, r_1.2.1.e⟩ : T_credenzaref13_reader), ())
      else
       if (r_1.1 == 110) = true then
        some (10, (⟨r_1.2.1.l, n_2, r_1.2.1.e⟩ : T_credenzaref13_reader), ())
       else
        if (r_1.1 == 114) = true then
         some (13, (⟨r_1.2.1.l, n_2, r_1.2.1.e⟩ : T_credenzaref13_reader), ())
        else
         if (r_1.1 == 116) = true then
          some (9, (⟨r_1.2.1.l, n_2, r_1.2.1.e⟩ : T_credenzaref13_reader), ())
         else
          if (r_1.1 == 117) = true then
           Lp.loop credenzaref13_reader_escaped_l1 (0, 0, (⟨r_1.2.1.l, n_2, r_1.2.1.e⟩ : T_credenzaref13_reader), ())
          else
           Option.bind (credenzaref13_reader_fail 150 (⟨r_1.2.1.l, n_2, r_1.2.1.e⟩ : T_credenzaref13_reader)) fun r_3 =>
           some (0, (re46 r_3.1), ())
def credenzaref13_reader_escaped_s : Shape := ⟨[(0, .ptr 0 0)], [.whole 46 46]⟩
def credenzaref13_reader_escaped_o : List OutP := [⟨false, .int .i64, [.whole 46 46]⟩]
def credenzaref13_reader_escaped_c : Dn.Callee Y := callee Y [] credenzaref13_reader_escaped_s credenzaref13_reader_escaped_o (fun z => credenzaref13_reader_escaped z.1)
def credenzaref13_reader_escaped_k : Cuts Y (ParO Y credenzaref13_reader_escaped_o) := (.loop [[7, 5, 2, 1, 2, 3, 2, 4, 2, 4, 2, 4, 2, 4, 2, 4, 2, 4, 2, 5, 2, 1, 2, 2, 2], [8, 5, 2, 1, 2, 3, 2, 4, 2, 4, 2, 4, 2, 4, 2, 4, 2, 4, 2, 5, 2, 1, 2, 2, 2], [6, 2, 1, 2, 3, 2, 4, 2, 4, 2, 4, 2, 4, 2, 4, 2, 4, 2, 5, 2, 1, 2, 2, 2], [2, 2, 3, 2, 4, 2, 4, 2, 4, 2, 4, 2, 4, 2, 4, 2, 5, 2, 1, 2, 2, 2], [6, 2, 1, 2, 2, 2], [2, 2, 2, 2]] ⟨[(0, .ptr 0 0), (4, .int .i64), (33, .int .i64)], [.whole 46 46]⟩ (credenzaref13_reader_escaped_l1) .nil .nil)
theorem credenzaref13_reader_escaped_ok : COk hY Tryd.prog Glob 61 (credenzaref13_reader_escaped_c) :=
  fn_ok (body := (Tryd.f61.body).getD .skip) (T := [(41, (credenzaref13_reader_next_c)), (23, (credenzaref13_reader_fail_c)), (72, (credenzaref13_digit_c))]) (credenzaref13_reader_escaped_k) Tryd.func61 (by kernel_rfl) ⟨⟨_, Tryd.func61, by kernel_rfl, rfl⟩⟩ hsz ((.cons credenzaref13_reader_next_ok (.cons credenzaref13_reader_fail_ok (.cons credenzaref13_digit_ok .nil))) : TabOk hY Tryd.prog Glob [(41, (credenzaref13_reader_next_c)), (23, (credenzaref13_reader_fail_c)), (72, (credenzaref13_digit_c))]) (fun _ _ hle h => h.mono hle) (by kernel_rfl)
    ⟨fun z => by kernel_rfl, trivial, trivial⟩
    (fun z => by kernel_rfl)
def credenzaref13_reader_text_l1 : T_credenzaref13_reader × (List Int) × Unit → Option ((T_credenzaref13_reader × (List Int) × Unit) ⊕ (Str × T_credenzaref13_reader × Unit))
  | (x_2, l_3, ()) =>
    if (x_2.e == 0) = true then
     Option.bind (credenzaref13_reader_next (re46 x_2)) fun r_4 =>
     let n_5 := (IntKind.wrap .i64 (r_4.2.1.at_ + 1))
     if (decide (r_4.1 < 32)) = true then
      Option.bind (credenzaref13_reader_fail 150 (⟨r_4.2.1.l, n_5, r_4.2.1.e⟩ : T_credenzaref13_reader)) fun r_6 =>
      some (Sum.inl ((re46 r_6.1), l_3, ()))
     else
      if (r_4.1 == 34) = true then
       Option.bind (credenzaref01_Make l_3) fun r_7 =>
       some (Sum.inr (r_7.1, (⟨r_4.2.1.l, n_5, r_4.2.1.e⟩ : T_credenzaref13_reader), ()))
      else
       if (r_4.1 == 92) = true then
        Option.bind (credenzaref13_reader_escaped (⟨r_4.2.1.l, n_5, r_4.2.1.e⟩ : T_credenzaref13_reader)) fun r_8 =>
        Option.bind (room (l_3.length + ([r_8.1] : List Int).length)) fun _ =>
        let l_9 := l_3 ++ ([r_8.1] : List Int)
        some (Sum.inl ((re46 r_8.2.1), l_9, ()))
       else
        Option.bind (room (l_3.length + ([r_4.1] : List Int).length)) fun _ =>
        let l_10 := l_3 ++ ([r_4.1] : List Int)
        some (Sum.inl ((⟨r_4.2.1.l, n_5, r_4.2.1.e⟩ : T_credenzaref13_reader), l_10, ()))
    else
     some (Sum.inr (([] : Str), (re46 x_2), ()))
def credenzaref13_reader_text (x : T_credenzaref13_reader) : Option (Str × T_credenzaref13_reader × Unit) :=
  Option.bind (credenzaref13_reader_need ([34] : Str) (re46 x)) fun r_1 =>
  Lp.loop credenzaref13_reader_text_l1 ((re46 r_1.1), ([] : List Int), ())
def credenzaref13_reader_text_s : Shape := ⟨[(0, .ptr 0 0)], [.whole 46 46]⟩
def credenzaref13_reader_text_o : List OutP := [⟨false, .str, [.whole 46 46]⟩]
def credenzaref13_reader_text_c : Dn.Callee Y := callee Y [] credenzaref13_reader_text_s credenzaref13_reader_text_o (fun z => credenzaref13_reader_text z.1)
def credenzaref13_reader_text_k : Cuts Y (ParO Y credenzaref13_reader_text_o) := (.loop [[7, 5, 1, 2, 2, 2], [8, 5, 1, 2, 2, 2], [6, 1, 2, 2, 2], [2, 2, 2, 2]] ⟨[(0, .ptr 0 0), (3, .own 1)], [.whole 46 46, .arr 3]⟩ (credenzaref13_reader_text_l1) .nil .nil)
theorem credenzaref13_reader_text_ok : COk hY Tryd.prog Glob 44 (credenzaref13_reader_text_c) :=
  fn_ok (body := (Tryd.f44.body).getD .skip) (T := [(43, (credenzaref13_reader_need_c)), (41, (credenzaref13_reader_next_c)), (23, (credenzaref13_reader_fail_c)), (55, (credenzaref01_Make_c)), (61, (credenzaref13_reader_escaped_c))]) (credenzaref13_reader_text_k) Tryd.func44 (by kernel_rfl) ⟨⟨_, Tryd.func44, by kernel_rfl, rfl⟩⟩ hsz ((.cons credenzaref13_reader_need_ok (.cons credenzaref13_reader_next_ok (.cons credenzaref13_reader_fail_ok (.cons credenzaref01_Make_ok (.cons credenzaref13_reader_escaped_ok .nil))))) : TabOk hY Tryd.prog Glob [(43, (credenzaref13_reader_need_c)), (41, (credenzaref13_reader_next_c)), (23, (credenzaref13_reader_fail_c)), (55, (credenzaref01_Make_c)), (61, (credenzaref13_reader_escaped_c))]) (fun _ _ hle h => h.mono hle) (by kernel_rfl)
    ⟨fun z => by kernel_rfl, trivial, trivial⟩
    (fun z => by kernel_rfl)
def credenzaref13_keyed_l1 : Str × Int × Int × (List Str) × (List T_api_Data) × Int × Int × Str × T_api_Data × Int × Int × Str × (List Str) × (List T_api_Data) × Unit → Option ((Str × Int × Int × (List Str) × (List T_api_Data) × Int × Int × Str × T_api_Data × Int × Int × Str × (List Str) × (List T_api_Data) × Unit) ⊕ (Int × Int × Str × (List Str) × (List T_api_Data) × Unit))
  | (key_1, v_2, v_3, l_4, l_5, Kind_6, N_7, S_8, x_9, Kind_10, N_11, S_12, l_13, l_14, ()) =>
    if (decide (v_3 < v_2)) = true then
     Option.bind (getI l_4 v_3) fun _ =>
     Option.bind (getI l_4 v_3) fun x_15 =>
     if (x_15 == key_1) = true then
      Option.bind (getI l_5 v_3) fun _ =>
      Option.bind (getI l_5 v_3) fun x_16 =>
      let l_17 := l_5.set v_3.toNat (re25 x_9)
      some (Sum.inr (Kind_6, N_7, S_8, l_4, l_17, ()))
     else
      let n_18 := (IntKind.wrap .i64 (v_3 + 1))
      some (Sum.inl (key_1, v_2, n_18, l_4, l_5, Kind_6, N_7, S_8, (re25 x_9), Kind_10, N_11, S_12, l_13, l_14, ()))
    else
     Option.bind (room (l_4.length + ([key_1] : List Str).length)) fun _ =>
     let l_19 := l_4 ++ ([key_1] : List Str)
     Option.bind (room (l_5.length + ([(re25 x_9)] : List T_api_Data).length)) fun _ =>
     let l_20 := l_5 ++ ([(re25 x_9)] : List T_api_Data)
     some (Sum.inr (Kind_6, N_7, S_8, l_19, l_20, ()))
def credenzaref13_keyed (v : Int) (v2 : Int) (v3 : Str) (key : Str) (x : T_api_Data) (l : List Str) (l2 : List T_api_Data) : Option (Int × Int × Str × (List Str) × (List T_api_Data) × Unit) :=
  Lp.loop credenzaref13_keyed_l1 (key, ((l.length : Nat) : Int), 0, l, l2, v, v2, v3, (re25 x), 0, 0, ([] : Str), ([] : List Str), ([] : List T_api_Data), ())
def credenzaref13_keyed_s : Shape := ⟨[(0, .agg [.int .i64, .int .i64, .str, .own 0, .own 1]), (1, .str), (2, .st 25)], [.arr 9, .arr 25]⟩
def credenzaref13_keyed_o : List OutP := [⟨false, .agg [.int .i64, .int .i64, .str, .own 0, .own 1], [.arr 9, .arr 25]⟩]
def credenzaref13_keyed_c : Dn.Callee Y := callee Y [0] credenzaref13_keyed_s credenzaref13_keyed_o (fun z => credenzaref13_keyed z.1 z.2.1 z.2.2.1 z.2.2.2.1 z.2.2.2.2.1 z.2.2.2.2.2.1 z.2.2.2.2.2.2.1)
def credenzaref13_keyed_k : Cuts Y (ParO Y credenzaref13_keyed_o) := (.loop [[7, 5, 2, 1, 2], [8, 5, 2, 1, 2], [6, 2, 1, 2], [2, 2]] ⟨[(1, .str), (3, .ptr 2 0), (5, .ptr 3 0), (6, .ptr 4 0), (10, .own 0), (11, .int .i64), (12, .int .i64)], [.arr 9, .arr 25, .cells 25 [.int .i64, .int .i64, .str, .own 0, .own 1], .whole 25 25, .cells 25 [.int .i64, .int .i64, .str, .own 5, .own 6], .arr 9, .arr 25]⟩ (credenzaref13_keyed_l1) .nil .nil)
theorem credenzaref13_keyed_ok : COk hY Tryd.prog Glob 62 (credenzaref13_keyed_c) :=
  fn_ok (body := (Tryd.f62.body).getD .skip) (T := []) (credenzaref13_keyed_k) Tryd.func62 (by kernel_rfl) ⟨⟨_, Tryd.func62, by kernel_rfl, rfl⟩⟩ hsz .nil (fun _ _ hle h => h.mono hle) (by kernel_rfl)
    ⟨fun z => by kernel_rfl, trivial, trivial⟩
    (fun z => by kernel_rfl)
def credenzaref13_reader_number_j2 (sign_20 : Int) (n_21 : Int) (v_22 : Int) (x_23 : T_credenzaref13_reader) (Kind_24 : Int) (N_25 : Int) (S_26 : Str) (l_27 : List Str) (l_28 : List T_api_Data) : Option (T_api_Data × T_credenzaref13_reader × Unit) :=
  let b_29 := ((x_23.at_ == v_22) || (decide (n_21 > 9007199254740991)))
  if b_29 = true then
   Option.bind (credenzaref13_reader_fail 150 (re46 x_23)) fun r_30 =>
   let n_31 := (IntKind.wrap .i64 (sign_20 * n_21))
   some ((⟨3, n_31, ([] : Str), ([] : List Str), ([] : List T_api_Data)⟩ : T_api_Data), (re46 r_30.1), ())
  else
   let n_32 := (IntKind.wrap .i64 (sign_20 * n_21))
   some ((⟨3, n_32, ([] : Str), ([] : List Str), ([] : List T_api_Data)⟩ : T_api_Data), (re46 x_23), ())
def credenzaref13_reader_number_l1 : Int × Int × Int × T_credenzaref13_reader × Int × Int × Str × (List Str) × (List T_api_Data) × Unit → Option ((Int × Int × Int × T_credenzaref13_reader × Int × Int × Str × (List Str) × (List T_api_Data) × Unit) ⊕ (T_api_Data × T_credenzaref13_reader × Unit))
  | (sign_3, n_4, v_5, x_6, Kind_7, N_8, S_9, l_10, l_11, ()) =>
    Option.bind (credenzaref13_reader_next (re46 x_6)) fun r_12 =>
    if (decide (r_12.1 ≥ 48)) = true then
     Option.bind (credenzaref13_reader_next (re46 r_12.2.1)) fun r_13 =>
     let b_14 := ((decide (r_13.1 ≤ 57)) && (decide (n_4 ≤ 9007199254740991)))
     if b_14 = true then
      let n_15 := (IntKind.wrap .i64 (10 * n_4))
      Option.bind (credenzaref13_reader_next (re46 r_13.2.1)) fun r_16 =>
      let n_17 := (IntKind.wrap .i64 (r_16.1 - 48))
      let n_18 := (IntKind.wrap .i64 (n_15 + n_17))
      let n_19 := (IntKind.wrap .i64 (r_16.2.1.at_ + 1))
      if (n_18 == 0) = true then
       mapO Sum.inr (credenzaref13_reader_number_j2 sign_3 n_18 v_5 (⟨r_16.2.1.l, n_19, r_16.2.1.e⟩ : T_credenzaref13_reader) Kind_7 N_8 S_9 l_10 l_11)
      else
       some (Sum.inl (sign_3, n_18, v_5, (⟨r_16.2.1.l, n_19, r_16.2.1.e⟩ : T_credenzaref13_reader), Kind_7, N_8, S_9, l_10, l_11, ()))
     else
      mapO Sum.inr (credenzaref13_reader_number_j2 sign_3 n_4 v_5 (re46 r_13.2.1) Kind_7 N_8 S_9 l_10 l_11)
    else
     mapO Sum.inr (credenzaref13_reader_number_j2 sign_3 n_4 v_5 (re46 r_12.2.1) Kind_7 N_8 S_9 l_10 l_11)
def credenzaref13_reader_number (x : T_credenzaref13_reader) : Option (T_api_Data × T_credenzaref13_reader × Unit) :=
  Option.bind (credenzaref13_reader_next (re46 x)) fun r_1 =>
  if (r_1.1 == 45) = true then
   let n_2 := (IntKind.wrap .i64 (r_1.2.1.at_ + 1))
   Lp.loop credenzaref13_reader_number_l1 ((-1), 0, n_2, (⟨r_1.2.1.l, n_2, r_1.2.1.e⟩ : T_credenzaref13_reader), 0, 0, ([] : Str), ([] : List Str), ([] : List T_api_Data), ())
  else
   Lp.loop credenzaref13_reader_number_l1 (1, 0, r_1.2.1.at_, (re46 r_1.2.1), 0, 0, ([] : Str), ([] : List Str), ([] : List T_api_Data), ())
def credenzaref13_reader_number_s : Shape := ⟨[(0, .ptr 0 0)], [.whole 46 46]⟩
def credenzaref13_reader_number_o : List OutP := [⟨false, .st 25, [.whole 46 46]⟩]
def credenzaref13_reader_number_c : Dn.Callee Y := callee Y [] credenzaref13_reader_number_s credenzaref13_reader_number_o (fun z => credenzaref13_reader_number z.1)
def credenzaref13_reader_number_k : Cuts Y (ParO Y credenzaref13_reader_number_o) := (.loop [[7, 5, 1, 2, 2, 2, 2, 2], [8, 5, 1, 2, 2, 2, 2, 2], [6, 1, 2, 2, 2, 2, 2], [2, 2, 2, 2, 2, 2]] ⟨[(0, .ptr 0 0), (2, .ptr 1 0), (3, .int .i64), (4, .int .i64), (5, .int .i64)], [.whole 46 46, .cells 25 [.int .i64, .int .i64, .str, .own 2, .own 3], .arr 9, .arr 25]⟩ (credenzaref13_reader_number_l1) .nil (.join [[1, 1, 2, 2, 2, 2, 2, 2], [2, 1, 2, 2, 2, 2, 2, 2], [2, 2, 2, 2, 2, 2, 2]] ⟨[(0, .ptr 0 0), (2, .ptr 1 0), (3, .int .i64), (4, .int .i64), (5, .int .i64)], [.whole 46 46, .cells 25 [.int .i64, .int .i64, .str, .own 2, .own 3], .arr 9, .arr 25]⟩ (fun z => credenzaref13_reader_number_j2 z.1 z.2.1 z.2.2.1 z.2.2.2.1 z.2.2.2.2.1 z.2.2.2.2.2.1 z.2.2.2.2.2.2.1 z.2.2.2.2.2.2.2.1 z.2.2.2.2.2.2.2.2.1) .nil))
theorem credenzaref13_reader_number_ok : COk hY Tryd.prog Glob 46 (credenzaref13_reader_number_c) :=
  fn_ok (body := (Tryd.f46.body).getD .skip) (T := [(41, (credenzaref13_reader_next_c)), (23, (credenzaref13_reader_fail_c))]) (credenzaref13_reader_number_k) Tryd.func46 (by kernel_rfl) ⟨⟨_, Tryd.func46, by kernel_rfl, rfl⟩⟩ hsz ((.cons credenzaref13_reader_next_ok (.cons credenzaref13_reader_fail_ok .nil)) : TabOk hY Tryd.prog Glob [(41, (credenzaref13_reader_next_c)), (23, (credenzaref13_reader_fail_c))]) (fun _ _ hle h => h.mono hle) (by kernel_rfl)
    ⟨fun z => by kernel_rfl, trivial, ⟨fun z => by kernel_rfl, trivial⟩⟩
    (fun z => by kernel_rfl)
structure Rec_credenzaref13_reader_value where
  credenzaref13_reader_value : Int → T_credenzaref13_reader → Option (T_api_Data × T_credenzaref13_reader × Unit)
  credenzaref13_reader_many : Int → Int → Str → Int → Int → T_credenzaref13_reader → Option (T_api_Data × T_credenzaref13_reader × Unit)
def credenzaref13_reader_value_s : Shape := ⟨[(0, .ptr 0 0), (1, .int .i64)], [.whole 46 46]⟩
def credenzaref13_reader_value_o : List OutP := [⟨false, .st 25, [.whole 46 46]⟩]
def credenzaref13_reader_value_c (g_ : Rec_credenzaref13_reader_value) : Dn.Callee Y := callee Y [] credenzaref13_reader_value_s credenzaref13_reader_value_o (fun z => g_.credenzaref13_reader_value z.1 z.2.1)
def credenzaref13_reader_many_s : Shape := ⟨[(0, .ptr 0 0), (1, .agg [.int .i64, .int .i64, .str, .nils, .nils]), (2, .int .i64), (3, .int .i64)], [.whole 46 46]⟩
def credenzaref13_reader_many_o : List OutP := [⟨false, .st 25, [.whole 46 46]⟩]
def credenzaref13_reader_many_c (g_ : Rec_credenzaref13_reader_value) : Dn.Callee Y := callee Y [] credenzaref13_reader_many_s credenzaref13_reader_many_o (fun z => g_.credenzaref13_reader_many z.1 z.2.1 z.2.2.1 z.2.2.2.1 z.2.2.2.2.1 z.2.2.2.2.2.1)
structure Rec_credenzaref13_reader_value_ok (g_ : Rec_credenzaref13_reader_value) : Prop where
  credenzaref13_reader_value : COk hY Tryd.prog Glob 21 (credenzaref13_reader_value_c g_)
  credenzaref13_reader_many : COk hY Tryd.prog Glob 45 (credenzaref13_reader_many_c g_)
def credenzaref13_reader_value_j8 (g_ : Rec_credenzaref13_reader_value) (n_68 : Int) (x_69 : T_credenzaref13_reader) (Kind_70 : Int) (N_71 : Int) (S_72 : Str) (l_73 : List Str) (l_74 : List T_api_Data) : Option (T_api_Data × T_credenzaref13_reader × Unit) :=
  let b_75 := ((n_68 == 45) || ((decide (n_68 ≥ 48)) && (decide (n_68 ≤ 57))))
  if b_75 = true then
   Option.bind (credenzaref13_reader_number (re46 x_69)) fun r_76 =>
   some ((re25 r_76.1), (re46 r_76.2.1), ())
  else
   Option.bind (credenzaref13_reader_fail 150 (re46 x_69)) fun r_77 =>
   some ((⟨0, 0, ([] : Str), ([] : List Str), ([] : List T_api_Data)⟩ : T_api_Data), (re46 r_77.1), ())
def credenzaref13_reader_value_j7 (g_ : Rec_credenzaref13_reader_value) (deep_59 : Int) (n_60 : Int) (x_61 : T_credenzaref13_reader) (Kind_62 : Int) (N_63 : Int) (S_64 : Str) (l_65 : List Str) (l_66 : List T_api_Data) : Option (T_api_Data × T_credenzaref13_reader × Unit) :=
  if (n_60 == 123) = true then
   Option.bind (g_.credenzaref13_reader_many 6 0 ([] : Str) 125 deep_59 (re46 x_61)) fun r_67 =>
   some ((re25 r_67.1), (re46 r_67.2.1), ())
  else
   credenzaref13_reader_value_j8 g_ n_60 (re46 x_61) Kind_62 N_63 S_64 l_65 l_66
def credenzaref13_reader_value_j6 (g_ : Rec_credenzaref13_reader_value) (deep_50 : Int) (n_51 : Int) (x_52 : T_credenzaref13_reader) (Kind_53 : Int) (N_54 : Int) (S_55 : Str) (l_56 : List Str) (l_57 : List T_api_Data) : Option (T_api_Data × T_credenzaref13_reader × Unit) :=
  if (n_51 == 91) = true then
   Option.bind (g_.credenzaref13_reader_many 5 0 ([] : Str) 93 deep_50 (re46 x_52)) fun r_58 =>
   some ((re25 r_58.1), (re46 r_58.2.1), ())
  else
   credenzaref13_reader_value_j7 g_ deep_50 n_51 (re46 x_52) Kind_53 N_54 S_55 l_56 l_57
def credenzaref13_reader_value_j5 (g_ : Rec_credenzaref13_reader_value) (deep_41 : Int) (n_42 : Int) (x_43 : T_credenzaref13_reader) (Kind_44 : Int) (N_45 : Int) (S_46 : Str) (l_47 : List Str) (l_48 : List T_api_Data) : Option (T_api_Data × T_credenzaref13_reader × Unit) :=
  if (n_42 == 34) = true then
   Option.bind (credenzaref13_reader_text (re46 x_43)) fun r_49 =>
   some ((⟨4, 0, r_49.1, ([] : List Str), ([] : List T_api_Data)⟩ : T_api_Data), (re46 r_49.2.1), ())
  else
   credenzaref13_reader_value_j6 g_ deep_41 n_42 (re46 x_43) Kind_44 N_45 S_46 l_47 l_48
def credenzaref13_reader_value_j4 (g_ : Rec_credenzaref13_reader_value) (deep_32 : Int) (n_33 : Int) (x_34 : T_credenzaref13_reader) (Kind_35 : Int) (N_36 : Int) (S_37 : Str) (l_38 : List Str) (l_39 : List T_api_Data) : Option (T_api_Data × T_credenzaref13_reader × Unit) :=
  if (n_33 == 102) = true then
   Option.bind (credenzaref13_reader_need ([102, 97, 108, 115, 101] : Str) (re46 x_34)) fun r_40 =>
   some ((⟨2, 0, ([] : Str), ([] : List Str), ([] : List T_api_Data)⟩ : T_api_Data), (re46 r_40.1), ())
  else
   credenzaref13_reader_value_j5 g_ deep_32 n_33 (re46 x_34) Kind_35 N_36 S_37 l_38 l_39
def credenzaref13_reader_value_j3 (g_ : Rec_credenzaref13_reader_value) (deep_23 : Int) (n_24 : Int) (x_25 : T_credenzaref13_reader) (Kind_26 : Int) (N_27 : Int) (S_28 : Str) (l_29 : List Str) (l_30 : List T_api_Data) : Option (T_api_Data × T_credenzaref13_reader × Unit) :=
  if (n_24 == 116) = true then
   Option.bind (credenzaref13_reader_need ([116, 114, 117, 101] : Str) (re46 x_25)) fun r_31 =>
   some ((⟨2, 1, ([] : Str), ([] : List Str), ([] : List T_api_Data)⟩ : T_api_Data), (re46 r_31.1), ())
  else
   credenzaref13_reader_value_j4 g_ deep_23 n_24 (re46 x_25) Kind_26 N_27 S_28 l_29 l_30
def credenzaref13_reader_value_j2 (g_ : Rec_credenzaref13_reader_value) (deep_14 : Int) (n_15 : Int) (x_16 : T_credenzaref13_reader) (Kind_17 : Int) (N_18 : Int) (S_19 : Str) (l_20 : List Str) (l_21 : List T_api_Data) : Option (T_api_Data × T_credenzaref13_reader × Unit) :=
  if (n_15 == 110) = true then
   Option.bind (credenzaref13_reader_need ([110, 117, 108, 108] : Str) (re46 x_16)) fun r_22 =>
   some ((⟨1, 0, ([] : Str), ([] : List Str), ([] : List T_api_Data)⟩ : T_api_Data), (re46 r_22.1), ())
  else
   credenzaref13_reader_value_j3 g_ deep_14 n_15 (re46 x_16) Kind_17 N_18 S_19 l_20 l_21
def credenzaref13_reader_value_j1 (g_ : Rec_credenzaref13_reader_value) (deep_6 : Int) (n_7 : Int) (x_8 : T_credenzaref13_reader) (Kind_9 : Int) (N_10 : Int) (S_11 : Str) (l_12 : List Str) (l_13 : List T_api_Data) : Option (T_api_Data × T_credenzaref13_reader × Unit) :=
  if (x_8.e != 0) = true then
   some ((⟨0, 0, ([] : Str), ([] : List Str), ([] : List T_api_Data)⟩ : T_api_Data), (re46 x_8), ())
  else
   credenzaref13_reader_value_j2 g_ deep_6 n_7 (re46 x_8) Kind_9 N_10 S_11 l_12 l_13
def credenzaref13_reader_value_b (g_ : Rec_credenzaref13_reader_value) (deep : Int) (x : T_credenzaref13_reader) : Option (T_api_Data × T_credenzaref13_reader × Unit) :=
  Option.bind (credenzaref13_reader_blanks (re46 x)) fun r_1 =>
  Option.bind (credenzaref13_reader_next (re46 r_1.1)) fun r_2 =>
  let b_3 := ((decide (r_2.1 ≥ 0)) && (decide (deep ≥ 20)))
  if b_3 = true then
   Option.bind (credenzaref13_begins r_2.1) fun r_4 =>
   if r_4.1 = true then
    Option.bind (credenzaref13_reader_fail 31 (re46 r_2.2.1)) fun r_5 =>
    credenzaref13_reader_value_j1 g_ deep r_2.1 (re46 r_5.1) 0 0 ([] : Str) ([] : List Str) ([] : List T_api_Data)
   else
    credenzaref13_reader_value_j1 g_ deep r_2.1 (re46 r_2.2.1) 0 0 ([] : Str) ([] : List Str) ([] : List T_api_Data)
  else
   credenzaref13_reader_value_j1 g_ deep r_2.1 (re46 r_2.2.1) 0 0 ([] : Str) ([] : List Str) ([] : List T_api_Data)
def credenzaref13_reader_value_d (g_ : Rec_credenzaref13_reader_value) : Dn.Callee Y := callee Y [] credenzaref13_reader_value_s credenzaref13_reader_value_o (fun z => credenzaref13_reader_value_b g_ z.1 z.2.1)
def credenzaref13_reader_value_k (g_ : Rec_credenzaref13_reader_value) : Cuts Y (ParO Y credenzaref13_reader_value_o) := (.join [[1, 1, 2, 2, 2, 2], [2, 1, 2, 2, 2, 2], [2, 2, 2, 2, 2]] ⟨[(0, .ptr 0 0), (1, .int .i64), (4, .ptr 1 0), (5, .int .i64)], [.whole 46 46, .cells 25 [.int .i64, .int .i64, .str, .own 2, .own 3], .arr 9, .arr 25]⟩ (fun z => credenzaref13_reader_value_j1 g_ z.1 z.2.1 z.2.2.1 z.2.2.2.1 z.2.2.2.2.1 z.2.2.2.2.2.1 z.2.2.2.2.2.2.1 z.2.2.2.2.2.2.2.1) (.join [[1, 5, 1, 2, 2, 2, 2, 2], [2, 5, 1, 2, 2, 2, 2, 2], [6, 1, 2, 2, 2, 2, 2], [2, 2, 2, 2, 2, 2]] ⟨[(0, .ptr 0 0), (1, .int .i64), (4, .ptr 1 0), (5, .int .i64)], [.whole 46 46, .cells 25 [.int .i64, .int .i64, .str, .own 2, .own 3], .arr 9, .arr 25]⟩ (fun z => credenzaref13_reader_value_j2 g_ z.1 z.2.1 z.2.2.1 z.2.2.2.1 z.2.2.2.2.1 z.2.2.2.2.2.1 z.2.2.2.2.2.2.1 z.2.2.2.2.2.2.2.1) (.join [[1, 4, 2, 5, 1, 2, 2, 2, 2, 2], [2, 4, 2, 5, 1, 2, 2, 2, 2, 2], [6, 1, 2, 2, 2, 2, 2], [2, 2, 2, 2, 2, 2]] ⟨[(0, .ptr 0 0), (1, .int .i64), (4, .ptr 1 0), (5, .int .i64)], [.whole 46 46, .cells 25 [.int .i64, .int .i64, .str, .own 2, .own 3], .arr 9, .arr 25]⟩ (fun z => credenzaref13_reader_value_j3 g_ z.1 z.2.1 z.2.2.1 z.2.2.2.1 z.2.2.2.2.1 z.2.2.2.2.2.1 z.2.2.2.2.2.2.1 z.2.2.2.2.2.2.2.1) (.join [[1, 4, 2, 4, 2, 5, 1, 2, 2, 2, 2, 2], [2, 4, 2, 4, 2, 5, 1, 2, 2, 2, 2, 2], [6, 1, 2, 2, 2, 2, 2], [2, 2, 2, 2, 2, 2]] ⟨[(0, .ptr 0 0), (1, .int .i64), (4, .ptr 1 0), (5, .int .i64)], [.whole 46 46, .cells 25 [.int .i64, .int .i64, .str, .own 2, .own 3], .arr 9, .arr 25]⟩ (fun z => credenzaref13_reader_value_j4 g_ z.1 z.2.1 z.2.2.1 z.2.2.2.1 z.2.2.2.2.1 z.2.2.2.2.2.1 z.2.2.2.2.2.2.1 z.2.2.2.2.2.2.2.1) (.join [[1, 4, 2, 4, 2, 4, 2, 5, 1, 2, 2, 2, 2, 2], [2, 4, 2, 4, 2, 4, 2, 5, 1, 2, 2, 2, 2, 2], [6, 1, 2, 2, 2, 2, 2], [2, 2, 2, 2, 2, 2]] ⟨[(0, .ptr 0 0), (1, .int .i64), (4, .ptr 1 0), (5, .int .i64)], [.whole 46 46, .cells 25 [.int .i64, .int .i64, .str, .own 2, .own 3], .arr 9, .arr 25]⟩ (fun z => credenzaref13_reader_value_j5 g_ z.1 z.2.1 z.2.2.1 z.2.2.2.1 z.2.2.2.2.1 z.2.2.2.2.2.1 z.2.2.2.2.2.2.1 z.2.2.2.2.2.2.2.1) (.join [[1, 4, 2, 4, 2, 4, 2, 4, 2, 5, 1, 2, 2, 2, 2, 2], [2, 4, 2, 4, 2, 4, 2, 4, 2, 5, 1, 2, 2, 2, 2, 2], [6, 1, 2, 2, 2, 2, 2], [2, 2, 2, 2, 2, 2]] ⟨[(0, .ptr 0 0), (1, .int .i64), (4, .ptr 1 0), (5, .int .i64)], [.whole 46 46, .cells 25 [.int .i64, .int .i64, .str, .own 2, .own 3], .arr 9, .arr 25]⟩ (fun z => credenzaref13_reader_value_j6 g_ z.1 z.2.1 z.2.2.1 z.2.2.2.1 z.2.2.2.2.1 z.2.2.2.2.2.1 z.2.2.2.2.2.2.1 z.2.2.2.2.2.2.2.1) (.join [[1, 4, 2, 4, 2, 4, 2, 4, 2, 4, 2, 5, 1, 2, 2, 2, 2, 2], [2, 4, 2, 4, 2, 4, 2, 4, 2, 4, 2, 5, 1, 2, 2, 2, 2, 2], [6, 1, 2, 2, 2, 2, 2], [2, 2, 2, 2, 2, 2]] ⟨[(0, .ptr 0 0), (1, .int .i64), (4, .ptr 1 0), (5, .int .i64)], [.whole 46 46, .cells 25 [.int .i64, .int .i64, .str, .own 2, .own 3], .arr 9, .arr 25]⟩ (fun z => credenzaref13_reader_value_j7 g_ z.1 z.2.1 z.2.2.1 z.2.2.2.1 z.2.2.2.2.1 z.2.2.2.2.2.1 z.2.2.2.2.2.2.1 z.2.2.2.2.2.2.2.1) (.join [[1, 4, 2, 4, 2, 4, 2, 4, 2, 4, 2, 4, 2, 5, 1, 2, 2, 2, 2, 2], [2, 4, 2, 4, 2, 4, 2, 4, 2, 4, 2, 4, 2, 5, 1, 2, 2, 2, 2, 2], [6, 1, 2, 2, 2, 2, 2], [2, 2, 2, 2, 2, 2]] ⟨[(0, .ptr 0 0), (4, .ptr 1 0), (5, .int .i64)], [.whole 46 46, .cells 25 [.int .i64, .int .i64, .str, .own 2, .own 3], .arr 9, .arr 25]⟩ (fun z => credenzaref13_reader_value_j8 g_ z.1 z.2.1 z.2.2.1 z.2.2.2.1 z.2.2.2.2.1 z.2.2.2.2.2.1 z.2.2.2.2.2.2.1) .nil))))))))
theorem credenzaref13_reader_value_b_ok (g_ : Rec_credenzaref13_reader_value) (hg_ : Rec_credenzaref13_reader_value_ok g_) : COk hY Tryd.prog Glob 21 (credenzaref13_reader_value_d g_) :=
  fn_ok (body := (Tryd.f21.body).getD .skip) (T := [(22, (credenzaref13_reader_blanks_c)), (41, (credenzaref13_reader_next_c)), (42, (credenzaref13_begins_c)), (23, (credenzaref13_reader_fail_c)), (43, (credenzaref13_reader_need_c)), (44, (credenzaref13_reader_text_c)), (45, (credenzaref13_reader_many_c g_)), (46, (credenzaref13_reader_number_c))]) (credenzaref13_reader_value_k g_) Tryd.func21 (by kernel_rfl) ⟨⟨_, Tryd.func21, by kernel_rfl, rfl⟩⟩ hsz ((.cons credenzaref13_reader_blanks_ok (.cons credenzaref13_reader_next_ok (.cons credenzaref13_begins_ok (.cons credenzaref13_reader_fail_ok (.cons credenzaref13_reader_need_ok (.cons credenzaref13_reader_text_ok (.cons hg_.credenzaref13_reader_many (.cons credenzaref13_reader_number_ok .nil)))))))) : TabOk hY Tryd.prog Glob [(22, (credenzaref13_reader_blanks_c)), (41, (credenzaref13_reader_next_c)), (42, (credenzaref13_begins_c)), (23, (credenzaref13_reader_fail_c)), (43, (credenzaref13_reader_need_c)), (44, (credenzaref13_reader_text_c)), (45, (credenzaref13_reader_many_c g_)), (46, (credenzaref13_reader_number_c))]) (fun _ _ hle h => h.mono hle) (by kernel_rfl)
    ⟨fun z => by kernel_rfl, ⟨fun z => by kernel_rfl, ⟨fun z => by kernel_rfl, ⟨fun z => by kernel_rfl, ⟨fun z => by kernel_rfl, ⟨fun z => by kernel_rfl, ⟨fun z => by kernel_rfl, ⟨fun z => by kernel_rfl, trivial⟩⟩⟩⟩⟩⟩⟩⟩
    (fun z => by kernel_rfl)
def credenzaref13_reader_many_j7 (g_ : Rec_credenzaref13_reader_value) (shut_98 : Int) (deep_99 : Int) (x_100 : T_credenzaref13_reader) (Kind_101 : Int) (N_102 : Int) (S_103 : Str) (Kind_104 : Int) (N_105 : Int) (S_106 : Str) (l_107 : List Str) (l_108 : List T_api_Data) (l_109 : List Str) (l_110 : List T_api_Data) : Option ((Int × Int × T_credenzaref13_reader × Int × Int × Str × Int × Int × Str × (List Str) × (List T_api_Data) × (List Str) × (List T_api_Data) × Unit) ⊕ (T_api_Data × T_credenzaref13_reader × Unit)) :=
  Option.bind (credenzaref13_reader_next (re46 x_100)) fun r_111 =>
  if (r_111.1 == shut_98) = true then
   let n_112 := (IntKind.wrap .i64 (r_111.2.1.at_ + 1))
   some (Sum.inr ((⟨Kind_101, N_102, S_103, l_107, l_108⟩ : T_api_Data), (⟨r_111.2.1.l, n_112, r_111.2.1.e⟩ : T_credenzaref13_reader), ()))
  else
   Option.bind (credenzaref13_reader_need ([44] : Str) (re46 r_111.2.1)) fun r_113 =>
   some (Sum.inl (shut_98, deep_99, (re46 r_113.1), Kind_101, N_102, S_103, Kind_104, N_105, S_106, l_107, l_108, l_109, l_110, ()))
def credenzaref13_reader_many_j6 (g_ : Rec_credenzaref13_reader_value) (shut_84 : Int) (deep_85 : Int) (x_86 : T_credenzaref13_reader) (Kind_87 : Int) (N_88 : Int) (S_89 : Str) (Kind_90 : Int) (N_91 : Int) (S_92 : Str) (l_93 : List Str) (l_94 : List T_api_Data) (l_95 : List Str) (l_96 : List T_api_Data) : Option ((Int × Int × T_credenzaref13_reader × Int × Int × Str × Int × Int × Str × (List Str) × (List T_api_Data) × (List Str) × (List T_api_Data) × Unit) ⊕ (T_api_Data × T_credenzaref13_reader × Unit)) :=
  Option.bind (credenzaref13_reader_blanks (re46 x_86)) fun r_97 =>
  credenzaref13_reader_many_j7 g_ shut_84 deep_85 (re46 r_97.1) Kind_87 N_88 S_89 Kind_90 N_91 S_92 l_93 l_94 l_95 l_96
def credenzaref13_reader_many_j5 (g_ : Rec_credenzaref13_reader_value) (shut_53 : Int) (deep_54 : Int) (x_55 : T_credenzaref13_reader) (Kind_56 : Int) (N_57 : Int) (S_58 : Str) (Kind_59 : Int) (N_60 : Int) (S_61 : Str) (x_62 : T_api_Data) (l_63 : List Str) (l_64 : List T_api_Data) (l_65 : List Str) (l_66 : List T_api_Data) : Option ((Int × Int × T_credenzaref13_reader × Int × Int × Str × Int × Int × Str × (List Str) × (List T_api_Data) × (List Str) × (List T_api_Data) × Unit) ⊕ (T_api_Data × T_credenzaref13_reader × Unit)) :=
  Option.bind (room (l_64.length + ([(re25 x_62)] : List T_api_Data).length)) fun _ =>
  let l_67 := l_64 ++ ([(re25 x_62)] : List T_api_Data)
  credenzaref13_reader_many_j6 g_ shut_53 deep_54 (re46 x_55) Kind_56 N_57 S_58 Kind_59 N_60 S_61 l_63 l_67 l_65 l_66
def credenzaref13_reader_many_j4 (g_ : Rec_credenzaref13_reader_value) (shut_68 : Int) (deep_69 : Int) (key_70 : Str) (x_71 : T_credenzaref13_reader) (Kind_72 : Int) (N_73 : Int) (S_74 : Str) (Kind_75 : Int) (N_76 : Int) (S_77 : Str) (x_78 : T_api_Data) (l_79 : List Str) (l_80 : List T_api_Data) (l_81 : List Str) (l_82 : List T_api_Data) : Option ((Int × Int × T_credenzaref13_reader × Int × Int × Str × Int × Int × Str × (List Str) × (List T_api_Data) × (List Str) × (List T_api_Data) × Unit) ⊕ (T_api_Data × T_credenzaref13_reader × Unit)) :=
  Option.bind (credenzaref13_keyed Kind_72 N_73 S_74 key_70 (re25 x_78) l_79 l_80) fun r_83 =>
  credenzaref13_reader_many_j6 g_ shut_68 deep_69 (re46 x_71) r_83.1 r_83.2.1 r_83.2.2.1 Kind_75 N_76 S_77 r_83.2.2.2.1 r_83.2.2.2.2.1 l_81 l_82
def credenzaref13_reader_many_j3 (g_ : Rec_credenzaref13_reader_value) (shut_38 : Int) (deep_39 : Int) (key_40 : Str) (x_41 : T_credenzaref13_reader) (Kind_42 : Int) (N_43 : Int) (S_44 : Str) (Kind_45 : Int) (N_46 : Int) (S_47 : Str) (x_48 : T_api_Data) (l_49 : List Str) (l_50 : List T_api_Data) (l_51 : List Str) (l_52 : List T_api_Data) : Option ((Int × Int × T_credenzaref13_reader × Int × Int × Str × Int × Int × Str × (List Str) × (List T_api_Data) × (List Str) × (List T_api_Data) × Unit) ⊕ (T_api_Data × T_credenzaref13_reader × Unit)) :=
  if (Kind_42 == 6) = true then
   credenzaref13_reader_many_j4 g_ shut_38 deep_39 key_40 (re46 x_41) Kind_42 N_43 S_44 Kind_45 N_46 S_47 (re25 x_48) l_49 l_50 l_51 l_52
  else
   credenzaref13_reader_many_j5 g_ shut_38 deep_39 (re46 x_41) Kind_42 N_43 S_44 Kind_45 N_46 S_47 (re25 x_48) l_49 l_50 l_51 l_52
def credenzaref13_reader_many_j2 (g_ : Rec_credenzaref13_reader_value) (shut_22 : Int) (deep_23 : Int) (key_24 : Str) (x_25 : T_credenzaref13_reader) (Kind_26 : Int) (N_27 : Int) (S_28 : Str) (Kind_29 : Int) (N_30 : Int) (S_31 : Str) (l_32 : List Str) (l_33 : List T_api_Data) (l_34 : List Str) (l_35 : List T_api_Data) : Option ((Int × Int × T_credenzaref13_reader × Int × Int × Str × Int × Int × Str × (List Str) × (List T_api_Data) × (List Str) × (List T_api_Data) × Unit) ⊕ (T_api_Data × T_credenzaref13_reader × Unit)) :=
  let n_36 := (IntKind.wrap .i64 (deep_23 + 1))
  Option.bind (g_.credenzaref13_reader_value n_36 (re46 x_25)) fun r_37 =>
  credenzaref13_reader_many_j3 g_ shut_22 deep_23 key_24 (re46 r_37.2.1) Kind_26 N_27 S_28 Kind_29 N_30 S_31 (re25 r_37.1) l_32 l_33 l_34 l_35
def credenzaref13_reader_many_l1 (g_ : Rec_credenzaref13_reader_value) : Int × Int × T_credenzaref13_reader × Int × Int × Str × Int × Int × Str × (List Str) × (List T_api_Data) × (List Str) × (List T_api_Data) × Unit → Option ((Int × Int × T_credenzaref13_reader × Int × Int × Str × Int × Int × Str × (List Str) × (List T_api_Data) × (List Str) × (List T_api_Data) × Unit) ⊕ (T_api_Data × T_credenzaref13_reader × Unit))
  | (shut_5, deep_6, x_7, Kind_8, N_9, S_10, Kind_11, N_12, S_13, l_14, l_15, l_16, l_17, ()) =>
    if (x_7.e == 0) = true then
     if (Kind_8 == 6) = true then
      Option.bind (credenzaref13_reader_blanks (re46 x_7)) fun r_18 =>
      Option.bind (credenzaref13_reader_text (re46 r_18.1)) fun r_19 =>
      Option.bind (credenzaref13_reader_blanks (re46 r_19.2.1)) fun r_20 =>
      Option.bind (credenzaref13_reader_need ([58] : Str) (re46 r_20.1)) fun r_21 =>
      credenzaref13_reader_many_j2 g_ shut_5 deep_6 r_19.1 (re46 r_21.1) Kind_8 N_9 S_10 Kind_11 N_12 S_13 l_14 l_15 l_16 l_17
     else
      credenzaref13_reader_many_j2 g_ shut_5 deep_6 ([] : Str) (re46 x_7) Kind_8 N_9 S_10 Kind_11 N_12 S_13 l_14 l_15 l_16 l_17
    else
     some (Sum.inr ((⟨Kind_8, N_9, S_10, l_14, l_15⟩ : T_api_Data), (re46 x_7), ()))
def credenzaref13_reader_many_b (g_ : Rec_credenzaref13_reader_value) (v : Int) (v2 : Int) (v3 : Str) (shut : Int) (deep : Int) (x : T_credenzaref13_reader) : Option (T_api_Data × T_credenzaref13_reader × Unit) :=
  let n_1 := (IntKind.wrap .i64 (x.at_ + 1))
  Option.bind (credenzaref13_reader_blanks (⟨x.l, n_1, x.e⟩ : T_credenzaref13_reader)) fun r_2 =>
  Option.bind (credenzaref13_reader_next (re46 r_2.1)) fun r_3 =>
  if (r_3.1 == shut) = true then
   let n_4 := (IntKind.wrap .i64 (r_3.2.1.at_ + 1))
   some ((⟨v, v2, v3, ([] : List Str), ([] : List T_api_Data)⟩ : T_api_Data), (⟨r_3.2.1.l, n_4, r_3.2.1.e⟩ : T_credenzaref13_reader), ())
  else
   Lp.loop (credenzaref13_reader_many_l1 g_) (shut, deep, (re46 r_3.2.1), v, v2, v3, 0, 0, ([] : Str), ([] : List Str), ([] : List T_api_Data), ([] : List Str), ([] : List T_api_Data), ())
def credenzaref13_reader_many_d (g_ : Rec_credenzaref13_reader_value) : Dn.Callee Y := callee Y [] credenzaref13_reader_many_s credenzaref13_reader_many_o (fun z => credenzaref13_reader_many_b g_ z.1 z.2.1 z.2.2.1 z.2.2.2.1 z.2.2.2.2.1 z.2.2.2.2.2.1)
def credenzaref13_reader_many_k (g_ : Rec_credenzaref13_reader_value) : Cuts Y (ParO Y credenzaref13_reader_many_o) := (.loop [[7, 5, 1, 2, 2, 2, 2], [8, 5, 1, 2, 2, 2, 2], [6, 1, 2, 2, 2, 2], [2, 2, 2, 2, 2]] ⟨[(0, .ptr 0 0), (2, .int .i64), (3, .int .i64), (5, .ptr 1 0), (8, .ptr 2 0)], [.whole 46 46, .cells 25 [.int .i64, .int .i64, .str, .own 3, .own 4], .cells 25 [.int .i64, .int .i64, .str, .own 5, .own 6], .arr 9, .arr 25, .arr 9, .arr 25]⟩ (credenzaref13_reader_many_l1 g_) (.join [[1, 2, 2, 5, 2, 7, 5, 1, 2, 2, 2, 2], [2, 2, 2, 5, 2, 7, 5, 1, 2, 2, 2, 2], [6, 2, 7, 5, 1, 2, 2, 2, 2], [8, 5, 1, 2, 2, 2, 2], [6, 1, 2, 2, 2, 2], [2, 2, 2, 2, 2]] ⟨[(0, .ptr 0 0), (2, .int .i64), (3, .int .i64), (5, .ptr 1 0), (8, .ptr 2 0), (9, .str)], [.whole 46 46, .cells 25 [.int .i64, .int .i64, .str, .own 3, .own 4], .cells 25 [.int .i64, .int .i64, .str, .own 5, .own 6], .arr 9, .arr 25, .arr 9, .arr 25]⟩ (fun z => credenzaref13_reader_many_j2 g_ z.1 z.2.1 z.2.2.1 z.2.2.2.1 z.2.2.2.2.1 z.2.2.2.2.2.1 z.2.2.2.2.2.2.1 z.2.2.2.2.2.2.2.1 z.2.2.2.2.2.2.2.2.1 z.2.2.2.2.2.2.2.2.2.1 z.2.2.2.2.2.2.2.2.2.2.1 z.2.2.2.2.2.2.2.2.2.2.2.1 z.2.2.2.2.2.2.2.2.2.2.2.2.1 z.2.2.2.2.2.2.2.2.2.2.2.2.2.1) (.join [[1, 1, 2, 2, 2, 5, 2, 7, 5, 1, 2, 2, 2, 2], [2, 1, 2, 2, 2, 5, 2, 7, 5, 1, 2, 2, 2, 2], [2, 2, 2, 2, 5, 2, 7, 5, 1, 2, 2, 2, 2], [6, 2, 7, 5, 1, 2, 2, 2, 2], [8, 5, 1, 2, 2, 2, 2], [6, 1, 2, 2, 2, 2], [2, 2, 2, 2, 2]] ⟨[(0, .ptr 0 0), (2, .int .i64), (3, .int .i64), (5, .ptr 1 0), (8, .ptr 2 0), (9, .str), (10, .ptr 3 0)], [.whole 46 46, .cells 25 [.int .i64, .int .i64, .str, .own 4, .own 5], .cells 25 [.int .i64, .int .i64, .str, .own 6, .own 7], .whole 25 25, .arr 9, .arr 25, .arr 9, .arr 25]⟩ (fun z => credenzaref13_reader_many_j3 g_ z.1 z.2.1 z.2.2.1 z.2.2.2.1 z.2.2.2.2.1 z.2.2.2.2.2.1 z.2.2.2.2.2.2.1 z.2.2.2.2.2.2.2.1 z.2.2.2.2.2.2.2.2.1 z.2.2.2.2.2.2.2.2.2.1 z.2.2.2.2.2.2.2.2.2.2.1 z.2.2.2.2.2.2.2.2.2.2.2.1 z.2.2.2.2.2.2.2.2.2.2.2.2.1 z.2.2.2.2.2.2.2.2.2.2.2.2.2.1 z.2.2.2.2.2.2.2.2.2.2.2.2.2.2.1) (.join [[3, 2, 1, 2, 2, 2, 5, 2, 7, 5, 1, 2, 2, 2, 2], [2, 2, 2, 2, 5, 2, 7, 5, 1, 2, 2, 2, 2], [6, 2, 7, 5, 1, 2, 2, 2, 2], [8, 5, 1, 2, 2, 2, 2], [6, 1, 2, 2, 2, 2], [2, 2, 2, 2, 2]] ⟨[(0, .ptr 0 0), (2, .int .i64), (3, .int .i64), (5, .ptr 1 0), (8, .ptr 2 0), (9, .str), (10, .ptr 3 0)], [.whole 46 46, .cells 25 [.int .i64, .int .i64, .str, .own 4, .own 5], .cells 25 [.int .i64, .int .i64, .str, .own 6, .own 7], .whole 25 25, .arr 9, .arr 25, .arr 9, .arr 25]⟩ (fun z => credenzaref13_reader_many_j4 g_ z.1 z.2.1 z.2.2.1 z.2.2.2.1 z.2.2.2.2.1 z.2.2.2.2.2.1 z.2.2.2.2.2.2.1 z.2.2.2.2.2.2.2.1 z.2.2.2.2.2.2.2.2.1 z.2.2.2.2.2.2.2.2.2.1 z.2.2.2.2.2.2.2.2.2.2.1 z.2.2.2.2.2.2.2.2.2.2.2.1 z.2.2.2.2.2.2.2.2.2.2.2.2.1 z.2.2.2.2.2.2.2.2.2.2.2.2.2.1 z.2.2.2.2.2.2.2.2.2.2.2.2.2.2.1) (.join [[4, 2, 1, 2, 2, 2, 5, 2, 7, 5, 1, 2, 2, 2, 2], [2, 2, 2, 2, 5, 2, 7, 5, 1, 2, 2, 2, 2], [6, 2, 7, 5, 1, 2, 2, 2, 2], [8, 5, 1, 2, 2, 2, 2], [6, 1, 2, 2, 2, 2], [2, 2, 2, 2, 2]] ⟨[(0, .ptr 0 0), (2, .int .i64), (3, .int .i64), (5, .ptr 1 0), (8, .ptr 2 0), (10, .ptr 3 0)], [.whole 46 46, .cells 25 [.int .i64, .int .i64, .str, .own 4, .own 5], .cells 25 [.int .i64, .int .i64, .str, .own 6, .own 7], .whole 25 25, .arr 9, .arr 25, .arr 9, .arr 25]⟩ (fun z => credenzaref13_reader_many_j5 g_ z.1 z.2.1 z.2.2.1 z.2.2.2.1 z.2.2.2.2.1 z.2.2.2.2.2.1 z.2.2.2.2.2.2.1 z.2.2.2.2.2.2.2.1 z.2.2.2.2.2.2.2.2.1 z.2.2.2.2.2.2.2.2.2.1 z.2.2.2.2.2.2.2.2.2.2.1 z.2.2.2.2.2.2.2.2.2.2.2.1 z.2.2.2.2.2.2.2.2.2.2.2.2.1 z.2.2.2.2.2.2.2.2.2.2.2.2.2.1) (.join [[1, 2, 2, 2, 2, 5, 2, 7, 5, 1, 2, 2, 2, 2], [2, 2, 2, 2, 2, 5, 2, 7, 5, 1, 2, 2, 2, 2], [6, 2, 7, 5, 1, 2, 2, 2, 2], [8, 5, 1, 2, 2, 2, 2], [6, 1, 2, 2, 2, 2], [2, 2, 2, 2, 2]] ⟨[(0, .ptr 0 0), (2, .int .i64), (3, .int .i64), (5, .ptr 1 0), (8, .ptr 2 0)], [.whole 46 46, .cells 25 [.int .i64, .int .i64, .str, .own 3, .own 4], .cells 25 [.int .i64, .int .i64, .str, .own 5, .own 6], .arr 9, .arr 25, .arr 9, .arr 25]⟩ (fun z => credenzaref13_reader_many_j6 g_ z.1 z.2.1 z.2.2.1 z.2.2.2.1 z.2.2.2.2.1 z.2.2.2.2.2.1 z.2.2.2.2.2.2.1 z.2.2.2.2.2.2.2.1 z.2.2.2.2.2.2.2.2.1 z.2.2.2.2.2.2.2.2.2.1 z.2.2.2.2.2.2.2.2.2.2.1 z.2.2.2.2.2.2.2.2.2.2.2.1 z.2.2.2.2.2.2.2.2.2.2.2.2.1) (.join [[1, 1, 2, 2, 2, 2, 2, 5, 2, 7, 5, 1, 2, 2, 2, 2], [2, 1, 2, 2, 2, 2, 2, 5, 2, 7, 5, 1, 2, 2, 2, 2], [2, 2, 2, 2, 2, 2, 5, 2, 7, 5, 1, 2, 2, 2, 2], [6, 2, 7, 5, 1, 2, 2, 2, 2], [8, 5, 1, 2, 2, 2, 2], [6, 1, 2, 2, 2, 2], [2, 2, 2, 2, 2]] ⟨[(0, .ptr 0 0), (2, .int .i64), (3, .int .i64), (5, .ptr 1 0), (8, .ptr 2 0)], [.whole 46 46, .cells 25 [.int .i64, .int .i64, .str, .own 3, .own 4], .cells 25 [.int .i64, .int .i64, .str, .own 5, .own 6], .arr 9, .arr 25, .arr 9, .arr 25]⟩ (fun z => credenzaref13_reader_many_j7 g_ z.1 z.2.1 z.2.2.1 z.2.2.2.1 z.2.2.2.2.1 z.2.2.2.2.2.1 z.2.2.2.2.2.2.1 z.2.2.2.2.2.2.2.1 z.2.2.2.2.2.2.2.2.1 z.2.2.2.2.2.2.2.2.2.1 z.2.2.2.2.2.2.2.2.2.2.1 z.2.2.2.2.2.2.2.2.2.2.2.1 z.2.2.2.2.2.2.2.2.2.2.2.2.1) .nil)))))) .nil)
theorem credenzaref13_reader_many_b_ok (g_ : Rec_credenzaref13_reader_value) (hg_ : Rec_credenzaref13_reader_value_ok g_) : COk hY Tryd.prog Glob 45 (credenzaref13_reader_many_d g_) :=
  fn_ok (body := (Tryd.f45.body).getD .skip) (T := [(22, (credenzaref13_reader_blanks_c)), (41, (credenzaref13_reader_next_c)), (44, (credenzaref13_reader_text_c)), (43, (credenzaref13_reader_need_c)), (21, (credenzaref13_reader_value_c g_)), (62, (credenzaref13_keyed_c))]) (credenzaref13_reader_many_k g_) Tryd.func45 (by kernel_rfl) ⟨⟨_, Tryd.func45, by kernel_rfl, rfl⟩⟩ hsz ((.cons credenzaref13_reader_blanks_ok (.cons credenzaref13_reader_next_ok (.cons credenzaref13_reader_text_ok (.cons credenzaref13_reader_need_ok (.cons hg_.credenzaref13_reader_value (.cons credenzaref13_keyed_ok .nil)))))) : TabOk hY Tryd.prog Glob [(22, (credenzaref13_reader_blanks_c)), (41, (credenzaref13_reader_next_c)), (44, (credenzaref13_reader_text_c)), (43, (credenzaref13_reader_need_c)), (21, (credenzaref13_reader_value_c g_)), (62, (credenzaref13_keyed_c))]) (fun _ _ hle h => h.mono hle) (by kernel_rfl)
    ⟨fun z => by kernel_rfl, ⟨fun z => by kernel_rfl, ⟨fun z => by kernel_rfl, ⟨fun z => by kernel_rfl, ⟨fun z => by kernel_rfl, ⟨fun z => by kernel_rfl, ⟨fun z => by kernel_rfl, trivial⟩⟩⟩⟩⟩⟩, trivial⟩
    (fun z => by kernel_rfl)
def Rec_credenzaref13_reader_value_g : Nat → Rec_credenzaref13_reader_value
  | 0 => ⟨fun _ _ => none, fun _ _ _ _ _ _ => none⟩
  | n + 1 => ⟨credenzaref13_reader_value_b (Rec_credenzaref13_reader_value_g n), credenzaref13_reader_many_b (Rec_credenzaref13_reader_value_g n)⟩
theorem Rec_credenzaref13_reader_value_all : ∀ n, Rec_credenzaref13_reader_value_ok (Rec_credenzaref13_reader_value_g n)
  | 0 => ⟨COk.none ⟨⟨_, Tryd.func21, by kernel_rfl, rfl⟩⟩, COk.none ⟨⟨_, Tryd.func45, by kernel_rfl, rfl⟩⟩⟩
  | n + 1 => ⟨credenzaref13_reader_value_b_ok _ (Rec_credenzaref13_reader_value_all n), credenzaref13_reader_many_b_ok _ (Rec_credenzaref13_reader_value_all n)⟩
def credenzaref13_reader_value : Int → T_credenzaref13_reader → Option (T_api_Data × T_credenzaref13_reader × Unit) := (Rec_credenzaref13_reader_value_g Lp.big).credenzaref13_reader_value
theorem credenzaref13_reader_value_ok : COk hY Tryd.prog Glob 21 (credenzaref13_reader_value_c (Rec_credenzaref13_reader_value_g Lp.big)) := (Rec_credenzaref13_reader_value_all Lp.big).credenzaref13_reader_value
def credenzaref13_reader_many : Int → Int → Str → Int → Int → T_credenzaref13_reader → Option (T_api_Data × T_credenzaref13_reader × Unit) := (Rec_credenzaref13_reader_value_g Lp.big).credenzaref13_reader_many
theorem credenzaref13_reader_many_ok : COk hY Tryd.prog Glob 45 (credenzaref13_reader_many_c (Rec_credenzaref13_reader_value_g Lp.big)) := (Rec_credenzaref13_reader_value_all Lp.big).credenzaref13_reader_many
def credenzaref13_Parse (u : Str) : Option (T_api_Data × Int × Unit) :=
  Option.bind (credenzaref01_Check u) fun r_1 =>
  if (!r_1.1) = true then
   some ((⟨0, 0, ([] : Str), ([] : List Str), ([] : List T_api_Data)⟩ : T_api_Data), 150, ())
  else
   Option.bind (credenzaref01_List u) fun r_2 =>
   Option.bind (credenzaref13_reader_value 0 (⟨r_2.1, 0, 0⟩ : T_credenzaref13_reader)) fun r_3 =>
   Option.bind (credenzaref13_reader_blanks (re46 r_3.2.1)) fun r_4 =>
   let n_5 := ((r_4.1.l.length : Nat) : Int)
   if (decide (r_4.1.at_ < n_5)) = true then
    Option.bind (credenzaref13_reader_fail 150 (re46 r_4.1)) fun r_6 =>
    if (r_6.1.e != 0) = true then
     some ((⟨0, 0, ([] : Str), ([] : List Str), ([] : List T_api_Data)⟩ : T_api_Data), r_6.1.e, ())
    else
     some ((re25 r_3.1), 0, ())
   else
    if (r_4.1.e != 0) = true then
     some ((⟨0, 0, ([] : Str), ([] : List Str), ([] : List T_api_Data)⟩ : T_api_Data), r_4.1.e, ())
    else
     some ((re25 r_3.1), 0, ())
def credenzaref13_Parse_s : Shape := ⟨[(0, .str)], []⟩
def credenzaref13_Parse_o : List OutP := [⟨false, .tup [.st 25, .int .i64], []⟩]
def credenzaref13_Parse_c : Dn.Callee Y := callee Y [] credenzaref13_Parse_s credenzaref13_Parse_o (fun z => credenzaref13_Parse z.1)
def credenzaref13_Parse_k : Cuts Y (ParO Y credenzaref13_Parse_o) := .nil
theorem credenzaref13_Parse_ok : COk hY Tryd.prog Glob 7 (credenzaref13_Parse_c) :=
  fn_ok (body := (Tryd.f7.body).getD .skip) (T := [(19, (credenzaref01_Check_c)), (20, (credenzaref01_List_c)), (21, (credenzaref13_reader_value_c (Rec_credenzaref13_reader_value_g Lp.big))), (22, (credenzaref13_reader_blanks_c)), (23, (credenzaref13_reader_fail_c))]) (credenzaref13_Parse_k) Tryd.func7 (by kernel_rfl) ⟨⟨_, Tryd.func7, by kernel_rfl, rfl⟩⟩ hsz ((.cons credenzaref01_Check_ok (.cons credenzaref01_List_ok (.cons credenzaref13_reader_value_ok (.cons credenzaref13_reader_blanks_ok (.cons credenzaref13_reader_fail_ok .nil))))) : TabOk hY Tryd.prog Glob [(19, (credenzaref01_Check_c)), (20, (credenzaref01_List_c)), (21, (credenzaref13_reader_value_c (Rec_credenzaref13_reader_value_g Lp.big))), (22, (credenzaref13_reader_blanks_c)), (23, (credenzaref13_reader_fail_c))]) (fun _ _ hle h => h.mono hle) (by kernel_rfl)
    trivial
    (fun z => by kernel_rfl)
def credenzalaw13_JsonParses (u : Str) : Option (Bool × Unit) :=
  Option.bind (json_Parse u) fun r_1 =>
  Option.bind (credenzaref13_Parse u) fun r_2 =>
  Option.bind (credenzalaw13_live) fun r_3 =>
  if r_3.1 = true then
   Option.bind (credenzaref03_Same (re25 r_1.1) (re25 r_2.1)) fun r_4 =>
   let b_5 := (r_4.1 && (r_1.2.1 == r_2.2.1))
   some (b_5, ())
  else
   some (false, ())
def credenzalaw13_JsonParses_s : Shape := ⟨[(0, .str)], []⟩
def credenzalaw13_JsonParses_o : List OutP := [⟨false, .bool, []⟩]
def credenzalaw13_JsonParses_c : Dn.Callee Y := callee Y [] credenzalaw13_JsonParses_s credenzalaw13_JsonParses_o (fun z => credenzalaw13_JsonParses z.1)
def credenzalaw13_JsonParses_k : Cuts Y (ParO Y credenzalaw13_JsonParses_o) := .nil
theorem credenzalaw13_JsonParses_ok : COk hY Tryd.prog Glob 3 (credenzalaw13_JsonParses_c) :=
  fn_ok (body := (Tryd.f3.body).getD .skip) (T := [(6, (json_Parse_c)), (7, (credenzaref13_Parse_c)), (8, (credenzalaw13_live_c)), (9, (credenzaref03_Same_c (Rec_credenzaref03_Same_g Lp.big)))]) (credenzalaw13_JsonParses_k) Tryd.func3 (by kernel_rfl) ⟨⟨_, Tryd.func3, by kernel_rfl, rfl⟩⟩ hsz ((.cons json_Parse_ok (.cons credenzaref13_Parse_ok (.cons credenzalaw13_live_ok (.cons credenzaref03_Same_ok .nil)))) : TabOk hY Tryd.prog Glob [(6, (json_Parse_c)), (7, (credenzaref13_Parse_c)), (8, (credenzalaw13_live_c)), (9, (credenzaref03_Same_c (Rec_credenzaref03_Same_g Lp.big)))]) (fun _ _ hle h => h.mono hle) (by kernel_rfl)
    trivial
    (fun z => by kernel_rfl)
end
end Go.D13
