/- Texts for the statements of this seat. -/
import Derived.Test.YtmbdlfemlbbjfaaDoorG06x2
import Derived.Test.YtmbdlfemlbbjfaaDoorGwS
import Derived.Test.YtmbdlfemlbbjfaaDoorShelf06
import Derived.Test.YtmbdlfemlbbjfaaDoorNlAny06
import Derived.Shelf.Strings.SlTrimAscii
import Derived.Test.YtmbdlfemlbbjfaaDoorProg
import Derived.KernelRfl
set_option linter.unusedVariables false
set_option linter.unusedSimpArgs false
set_option linter.unnecessarySimpa false
namespace Go.Gw
open Go.Proofs Go.RowKit
set_option maxRecDepth 100000
set_option linter.unusedVariables false
set_option linter.unusedSimpArgs false
noncomputable section
def ref06_Cut.l1 (src : Str) (s : Int × (List T_api_Token)) : Option ((Int × (List T_api_Token)) ⊕ (((List T_api_Token) × Int × Int))) := match s with
  | (x9, x10) =>
  Option.bind (ref06_blanks src x9) fun v13 =>
  if (!v13.2.2) = true then
    some (.inr (([] : List T_api_Token), v13.1, 60))
  else
    if (v13.1 == ((src.length : Nat) : Int)) = true then
      Option.bind (room (x10.length + 1)) fun u16 =>
      some (.inr ((x10 ++ [({ Kind := 0, Text := ([] : Str), Num := 0, At := v13.1, Fresh := v13.2.1 } : T_api_Token)]), 0, 0))
    else
      Option.bind (ref06_one src v13.1) fun v17 =>
      if (v17.2 == 0) = true then
        some (.inr (([] : List T_api_Token), v13.1, 60))
      else
        Option.bind (room (x10.length + 1)) fun u20 =>
        some (.inl ((IntKind.wrap .i64 (v13.1 + v17.2)), (x10 ++ [({ Kind := v17.1.Kind, Text := v17.1.Text, Num := v17.1.Num, At := v13.1, Fresh := v13.2.1 } : T_api_Token)])))
def ref06_Cut (src : Str) : Option ((List T_api_Token) × Int × Int) :=
  if (decide (((src.length : Nat) : Int) > 4096)) = true then
    some (([] : List T_api_Token), 0, 2)
  else
    Option.bind (loopM (ref06_Cut.l1 src) (0, ([] : List T_api_Token))) fun e => match e with
    | r25 =>
      some r25
theorem ref06_Cut.ok (src : Str) (r : (List T_api_Token) × Int × Int) (h0 : ref06_Cut src = some r) (w0 : World) (F0 : Heap) (hv : F0.Sub w0) (hG : Glob F0) (hg : SV.goods F0 [.v (.string ⟨⟨src⟩⟩)]) (ρ : Nat → Nat) :
    Calls Tryd.prog 14 (SV.dens ρ [.v (.string ⟨⟨src⟩⟩)]).toArray w0 (Ret0 w0 F0 fun s => ∃ s1 s2 s3, s = .tup [s1, s2, s3] ∧ (∃ A c, s1 = SV.sl kT_api_Token r.1 A c) ∧ (s2 = .v (.int .i64 r.2.1)) ∧ (s3 = .v (.int .i64 r.2.2))) := by
  refine calls_of_wp Tryd.func14 rfl ?_
  have hX := Cx.enter (D := No) (B := []) (L := []) (ρ := ρ) (N := 55) Tryd.ntmps14 [.v (.string ⟨⟨src⟩⟩)] (St.start hv) rfl hg (by kernel_rfl) (fun _ h => by cases h) (Nat.le_of_ble_eq_true rfl) No.unfix
  unfold ref06_Cut at h0
  refine Cx.rseq hX [] [0] (l' := [(0, .v (.string ⟨⟨src⟩⟩))]) (B' := []) (by kernel_rfl) fun ρ w a hX => ?_
  refine wp_seq_k fun K2 hK2 => ?_
  refine Cx.rseq hX [] [0, 14] (l' := [(0, .v (.string ⟨⟨src⟩⟩)), (14, .v (.bool (decide (((src.length : Nat) : Int) > 4096))))]) (B' := []) (by kernel_rfl) fun ρ w a hX => ?_
  refine Cx.cond hX (b := (decide (((src.length : Nat) : Int) > 4096))) (by kernel_rfl) (fun hb => ?_) (fun hb => ?_)
  · have h0 := ite_tt h0 hb
    refine Cx.rseq hX [] [2, 3, 4] (l' := [(2, .v (.slice none 0 0)), (3, .v (.int .i64 0)), (4, .v (.int .i64 2))]) (B' := []) (by kernel_rfl) fun ρ w a hX => ?_
    refine wp_ret ?_
    have hX := hX.nilSl 2 kT_api_Token (by kernel_rfl)
    have hr := Option.some.inj (show some _ = some _ from h0)
    subst hr
    exact hX.ret0 (ss := [SV.sl kT_api_Token ([] : List T_api_Token) none 0, .v (.int .i64 0), .v (.int .i64 2)]) (by kernel_rfl) (by kernel_rfl) ⟨_, _, _, rfl, ⟨_, _, rfl⟩, rfl, rfl⟩
  · have h0 := ite_ff h0 hb
    refine wp_skip ?_
    refine hK2 _ _ ?_
    refine Cx.rseq hX [] [0, 5] (l' := [(0, .v (.string ⟨⟨src⟩⟩)), (5, .v (.slice none 0 0))]) (B' := []) (by kernel_rfl) fun ρ w a hX => ?_
    refine Cx.rseq hX [] [0, 5, 6] (l' := [(0, .v (.string ⟨⟨src⟩⟩)), (5, .v (.slice none 0 0)), (6, .v (.int .i64 0))]) (B' := []) (by kernel_rfl) fun ρ w a hX => ?_
    refine wp_block ?_
    have hX := hX.newAcc 30 kT_api_Token
    have hX := hX.keeps [0, 5, 6] (l' := [(0, .v (.string ⟨⟨src⟩⟩)), (5, .v (.slice none ([] : List T_api_Token).length 0)), (6, .v (.int .i64 0))]) (by kernel_rfl)
    obtain ⟨e1, he1, h0⟩ := bnd_some h0
    refine loop_go (fun (s : Int × (List T_api_Token)) a w => match s with | (x9, x10) => ∃ (A11 : Option Addr) (c12 : Nat) (ρ : Nat → Nat) (F : Heap), Cx 55 w0 F0 No w F [accP 30 kT_api_Token A11 c12 x10] [] ρ [(0, .v (.string ⟨⟨src⟩⟩)), (5, .v (.slice A11 x10.length c12)), (6, .v (.int .i64 x9))] a) he1 (fun LW1 s o1 h1 hb1 hx1 a w hI => ?_) _ _ ?_
    · obtain ⟨x9, x10⟩ := s
      obtain ⟨A11, c12, ρ, F, hX⟩ := hI
      unfold ref06_Cut.l1 at h1
      (try dsimp only at h1)
      refine wp_block ?_
      refine wp_seq_k fun K21 hK21 => ?_
      refine wp_region_list ?_
      refine hX.part [] 2 [0, 5, 16, 17] (l' := [(0, .v (.string ⟨⟨src⟩⟩)), (5, .v (.slice A11 x10.length c12)), (16, .v (.string ⟨⟨src⟩⟩)), (17, .v (.int .i64 x9))]) (B' := []) (by kernel_rfl) fun ρ w a hX => ?_
      obtain ⟨v13, hv13, h1⟩ := bnd_some h1
      refine Cx.call0 hX (lit := []) (by kernel_rfl) rfl (by kernel_rfl) ⟨⟨_, Tryd.func25, by kernel_rfl, rfl⟩⟩ (ss := [.v (.string ⟨⟨src⟩⟩), .v (.int .i64 x9)]) (by kernel_rfl) [.v (.string ⟨⟨src⟩⟩), .v (.int .i64 x9)] rfl (fun hg => hg) (fun hv hle hg => ref06_blanks.ok src x9 v13 hv13 _ _ hv (hG.mono hle) hg _) (fun s F w a hp hX => ?_)
      obtain ⟨_, _, _, rfl, rfl, rfl, rfl⟩ := hp
      refine hX.part [] 7 [0, 5, 7, 8, 9] (l' := [(0, .v (.string ⟨⟨src⟩⟩)), (5, .v (.slice A11 x10.length c12)), (7, .v (.int .i64 v13.1)), (8, .v (.bool v13.2.1)), (9, .v (.bool v13.2.2))]) (B' := []) (by kernel_rfl) fun ρ w a hX => ?_
      refine wpList_end ?_
      refine hK21 _ _ ?_
      refine wp_seq_k fun K22 hK22 => ?_
      refine Cx.rseq hX [] [0, 5, 7, 8, 23] (l' := [(0, .v (.string ⟨⟨src⟩⟩)), (5, .v (.slice A11 x10.length c12)), (7, .v (.int .i64 v13.1)), (8, .v (.bool v13.2.1)), (23, .v (.bool (!v13.2.2)))]) (B' := []) (by kernel_rfl) fun ρ w a hX => ?_
      refine Cx.cond hX (b := (!v13.2.2)) (by kernel_rfl) (fun hb => ?_) (fun hb => ?_)
      · have h1 := ite_tt h1 hb
        refine Cx.rseq hX [] [2, 3, 4] (l' := [(2, .v (.slice none 0 0)), (3, .v (.int .i64 v13.1)), (4, .v (.int .i64 60))]) (B' := []) (by kernel_rfl) fun ρ w a hX => ?_
        refine wp_ret ?_
        have hX := hX.nilSl 2 kT_api_Token (by kernel_rfl)
        have he := hx1 _ (out_eq h1)
        subst he
        (try dsimp only at h0)
        have hr := Option.some.inj (show some _ = some _ from h0)
        subst hr
        exact hX.ret0 (ss := [SV.sl kT_api_Token ([] : List T_api_Token) none 0, .v (.int .i64 v13.1), .v (.int .i64 60)]) (by kernel_rfl) (by kernel_rfl) ⟨_, _, _, rfl, ⟨_, _, rfl⟩, rfl, rfl⟩
      · have h1 := ite_ff h1 hb
        refine wp_skip ?_
        refine hK22 _ _ ?_
        refine wp_seq_k fun K25 hK25 => ?_
        refine Cx.rseq hX [] [0, 5, 7, 8, 28] (l' := [(0, .v (.string ⟨⟨src⟩⟩)), (5, .v (.slice A11 x10.length c12)), (7, .v (.int .i64 v13.1)), (8, .v (.bool v13.2.1)), (28, .v (.bool (v13.1 == ((src.length : Nat) : Int))))]) (B' := []) (by kernel_rfl) fun ρ w a hX => ?_
        refine Cx.cond hX (b := (v13.1 == ((src.length : Nat) : Int))) (by kernel_rfl) (fun hb => ?_) (fun hb => ?_)
        · have h1 := ite_tt h1 hb
          refine wp_seq_k fun K27 hK27 => ?_
          refine wp_region_list ?_
          refine hX.part [] 5 [29, 33] (l' := [(29, .v (.slice A11 x10.length c12)), (33, .slc 0 0 1 1)]) (B' := [some ⟨30, [.v (.int .i64 0), .v (.string ⟨⟨([] : Str)⟩⟩), .v (.int .i64 0), .v (.int .i64 v13.1), .v (.bool v13.2.1)]⟩]) (by kernel_rfl) fun ρ w a hX => ?_
          obtain ⟨u16, hu16, h1⟩ := bnd_some h1
          refine hX.appLit (d := kT_api_Token) (k := 0) (m := 1) (bytes := 48) (cells := [.v (.int .i64 0), .v (.string ⟨⟨([] : Str)⟩⟩), .v (.int .i64 0), .v (.int .i64 v13.1), .v (.bool v13.2.1)]) (lit := []) (i := 0) (e := 30) (xs := x10) (A := A11) (c := c12) ([(({ Kind := 0, Text := ([] : Str), Num := 0, At := v13.1, Fresh := v13.2.1 } : T_api_Token), ())] : List (T_api_Token × (kT_api_Token).Y)) (by kernel_rfl) (by kernel_rfl) rfl rfl (by kernel_rfl) (by kernel_rfl) (by kernel_rfl) (by kernel_rfl) (by kernel_rfl) rfl rfl (by decide) hu16 ⟨_, rfl⟩ fun A14 c15 w a hX => ?_
          have hX : Cx 55 _ _ _ _ _ [accP 30 kT_api_Token A14 c15 (x10 ++ [({ Kind := 0, Text := ([] : Str), Num := 0, At := v13.1, Fresh := v13.2.1 } : T_api_Token)])] [some ⟨30, [.v (.int .i64 0), .v (.string ⟨⟨([] : Str)⟩⟩), .v (.int .i64 0), .v (.int .i64 v13.1), .v (.bool v13.2.1)]⟩] ρ _ a := hX
          refine hX.part [] 3 [2, 3, 4] (l' := [(2, .v (.slice A14 (x10 ++ [({ Kind := 0, Text := ([] : Str), Num := 0, At := v13.1, Fresh := v13.2.1 } : T_api_Token)]).length c15)), (3, .v (.int .i64 0)), (4, .v (.int .i64 0))]) (B' := [some ⟨30, [.v (.int .i64 0), .v (.string ⟨⟨([] : Str)⟩⟩), .v (.int .i64 0), .v (.int .i64 v13.1), .v (.bool v13.2.1)]⟩]) (by kernel_rfl) fun ρ w a hX => ?_
          refine wpList_end ?_
          refine hK27 _ _ ?_
          refine wp_ret ?_
          obtain ⟨F, hX⟩ := hX.freeze (i := 0) (t := 2) (e := 30) (d := kT_api_Token) (A := A14) (c := c15) (xs := (x10 ++ [({ Kind := 0, Text := ([] : Str), Num := 0, At := v13.1, Fresh := v13.2.1 } : T_api_Token)])) rfl (by kernel_rfl)
          have hX : Cx 55 _ _ _ _ _ [] [some ⟨30, [.v (.int .i64 0), .v (.string ⟨⟨([] : Str)⟩⟩), .v (.int .i64 0), .v (.int .i64 v13.1), .v (.bool v13.2.1)]⟩] ρ _ a := hX
          have he := hx1 _ (out_eq h1)
          subst he
          (try dsimp only at h0)
          have hr := Option.some.inj (show some _ = some _ from h0)
          subst hr
          exact hX.ret0 (ss := [SV.sl kT_api_Token (x10 ++ [({ Kind := 0, Text := ([] : Str), Num := 0, At := v13.1, Fresh := v13.2.1 } : T_api_Token)]) A14 c15, .v (.int .i64 0), .v (.int .i64 0)]) (by kernel_rfl) (by kernel_rfl) ⟨_, _, _, rfl, ⟨_, _, rfl⟩, rfl, rfl⟩
        · have h1 := ite_ff h1 hb
          refine wp_skip ?_
          refine hK25 _ _ ?_
          refine wp_seq_k fun K28 hK28 => ?_
          refine wp_region_list ?_
          refine hX.part [] 2 [0, 5, 7, 8, 36, 37] (l' := [(0, .v (.string ⟨⟨src⟩⟩)), (5, .v (.slice A11 x10.length c12)), (7, .v (.int .i64 v13.1)), (8, .v (.bool v13.2.1)), (36, .v (.string ⟨⟨src⟩⟩)), (37, .v (.int .i64 v13.1))]) (B' := []) (by kernel_rfl) fun ρ w a hX => ?_
          obtain ⟨v17, hv17, h1⟩ := bnd_some h1
          refine Cx.call0 hX (lit := []) (by kernel_rfl) rfl (by kernel_rfl) ⟨⟨_, Tryd.func26, by kernel_rfl, rfl⟩⟩ (ss := [.v (.string ⟨⟨src⟩⟩), .v (.int .i64 v13.1)]) (by kernel_rfl) [.v (.string ⟨⟨src⟩⟩), .v (.int .i64 v13.1)] rfl (fun hg => hg) (fun hv hle hg => ref06_one.ok src v13.1 v17 hv17 _ _ hv (hG.mono hle) hg _) (fun s F w a hp hX => ?_)
          obtain ⟨_, _, rfl, rfl, rfl⟩ := hp
          refine hX.part [] 6 [0, 5, 7, 8, 10, 11] (l' := [(0, .v (.string ⟨⟨src⟩⟩)), (5, .v (.slice A11 x10.length c12)), (7, .v (.int .i64 v13.1)), (8, .v (.bool v13.2.1)), (10, .ptr 0 0), (11, .v (.int .i64 v17.2))]) (B' := [some ⟨30, [.v (.int .i64 v17.1.Kind), .v (.string ⟨⟨v17.1.Text⟩⟩), .v (.int .i64 v17.1.Num), .v (.int .i64 v17.1.At), .v (.bool v17.1.Fresh)]⟩]) (by kernel_rfl) fun ρ w a hX => ?_
          refine wpList_end ?_
          refine hK28 _ _ ?_
          refine wp_seq_k fun K29 hK29 => ?_
          refine Cx.rseq hX [] [0, 5, 7, 8, 10, 11, 42] (l' := [(0, .v (.string ⟨⟨src⟩⟩)), (5, .v (.slice A11 x10.length c12)), (7, .v (.int .i64 v13.1)), (8, .v (.bool v13.2.1)), (10, .ptr 0 0), (11, .v (.int .i64 v17.2)), (42, .v (.bool (v17.2 == 0)))]) (B' := [some ⟨30, [.v (.int .i64 v17.1.Kind), .v (.string ⟨⟨v17.1.Text⟩⟩), .v (.int .i64 v17.1.Num), .v (.int .i64 v17.1.At), .v (.bool v17.1.Fresh)]⟩]) (by kernel_rfl) fun ρ w a hX => ?_
          refine Cx.cond hX (b := (v17.2 == 0)) (by kernel_rfl) (fun hb => ?_) (fun hb => ?_)
          · have h1 := ite_tt h1 hb
            refine Cx.rseq hX [] [2, 3, 4] (l' := [(2, .v (.slice none 0 0)), (3, .v (.int .i64 v13.1)), (4, .v (.int .i64 60))]) (B' := [some ⟨30, [.v (.int .i64 v17.1.Kind), .v (.string ⟨⟨v17.1.Text⟩⟩), .v (.int .i64 v17.1.Num), .v (.int .i64 v17.1.At), .v (.bool v17.1.Fresh)]⟩]) (by kernel_rfl) fun ρ w a hX => ?_
            refine wp_ret ?_
            have hX := hX.nilSl 2 kT_api_Token (by kernel_rfl)
            have he := hx1 _ (out_eq h1)
            subst he
            (try dsimp only at h0)
            have hr := Option.some.inj (show some _ = some _ from h0)
            subst hr
            exact hX.ret0 (ss := [SV.sl kT_api_Token ([] : List T_api_Token) none 0, .v (.int .i64 v13.1), .v (.int .i64 60)]) (by kernel_rfl) (by kernel_rfl) ⟨_, _, _, rfl, ⟨_, _, rfl⟩, rfl, rfl⟩
          · have h1 := ite_ff h1 hb
            refine wp_skip ?_
            refine hK29 _ _ ?_
            refine Cx.rseq hX [] [0, 5, 7, 8, 10, 11] (l' := [(0, .v (.string ⟨⟨src⟩⟩)), (5, .v (.slice A11 x10.length c12)), (7, .v (.int .i64 v13.1)), (8, .v (.bool v13.2.1)), (10, .ptr 0 0), (11, .v (.int .i64 v17.2))]) (B' := [some ⟨30, [.v (.int .i64 v17.1.Kind), .v (.string ⟨⟨v17.1.Text⟩⟩), .v (.int .i64 v17.1.Num), .v (.int .i64 v13.1), .v (.bool v17.1.Fresh)]⟩]) (by kernel_rfl) fun ρ w a hX => ?_
            refine Cx.rseq hX [] [0, 5, 7, 10, 11] (l' := [(0, .v (.string ⟨⟨src⟩⟩)), (5, .v (.slice A11 x10.length c12)), (7, .v (.int .i64 v13.1)), (10, .ptr 0 0), (11, .v (.int .i64 v17.2))]) (B' := [some ⟨30, [.v (.int .i64 v17.1.Kind), .v (.string ⟨⟨v17.1.Text⟩⟩), .v (.int .i64 v17.1.Num), .v (.int .i64 v13.1), .v (.bool v13.2.1)]⟩]) (by kernel_rfl) fun ρ w a hX => ?_
            refine wp_seq_k fun K34 hK34 => ?_
            refine wp_region_list ?_
            refine hX.part [] 3 [0, 5, 7, 11, 48, 50] (l' := [(0, .v (.string ⟨⟨src⟩⟩)), (5, .v (.slice A11 x10.length c12)), (7, .v (.int .i64 v13.1)), (11, .v (.int .i64 v17.2)), (48, .v (.slice A11 x10.length c12)), (50, .slc 1 0 1 1)]) (B' := [some ⟨30, [.v (.int .i64 v17.1.Kind), .v (.string ⟨⟨v17.1.Text⟩⟩), .v (.int .i64 v17.1.Num), .v (.int .i64 v13.1), .v (.bool v13.2.1)]⟩, some ⟨30, [.v (.int .i64 v17.1.Kind), .v (.string ⟨⟨v17.1.Text⟩⟩), .v (.int .i64 v17.1.Num), .v (.int .i64 v13.1), .v (.bool v13.2.1)]⟩]) (by kernel_rfl) fun ρ w a hX => ?_
            obtain ⟨u20, hu20, h1⟩ := bnd_some h1
            refine hX.appLit (d := kT_api_Token) (k := 1) (m := 1) (bytes := 48) (cells := [.v (.int .i64 v17.1.Kind), .v (.string ⟨⟨v17.1.Text⟩⟩), .v (.int .i64 v17.1.Num), .v (.int .i64 v13.1), .v (.bool v13.2.1)]) (lit := []) (i := 0) (e := 30) (xs := x10) (A := A11) (c := c12) ([(({ Kind := v17.1.Kind, Text := v17.1.Text, Num := v17.1.Num, At := v13.1, Fresh := v13.2.1 } : T_api_Token), ())] : List (T_api_Token × (kT_api_Token).Y)) (by kernel_rfl) (by kernel_rfl) rfl rfl (by kernel_rfl) (by kernel_rfl) (by kernel_rfl) (by kernel_rfl) (by kernel_rfl) rfl rfl (by decide) hu20 ⟨_, rfl⟩ fun A18 c19 w a hX => ?_
            have hX : Cx 55 _ _ _ _ _ [accP 30 kT_api_Token A18 c19 (x10 ++ [({ Kind := v17.1.Kind, Text := v17.1.Text, Num := v17.1.Num, At := v13.1, Fresh := v13.2.1 } : T_api_Token)])] [some ⟨30, [.v (.int .i64 v17.1.Kind), .v (.string ⟨⟨v17.1.Text⟩⟩), .v (.int .i64 v17.1.Num), .v (.int .i64 v13.1), .v (.bool v13.2.1)]⟩, some ⟨30, [.v (.int .i64 v17.1.Kind), .v (.string ⟨⟨v17.1.Text⟩⟩), .v (.int .i64 v17.1.Num), .v (.int .i64 v13.1), .v (.bool v13.2.1)]⟩] ρ _ a := hX
            refine hX.part [] 1 [0, 5, 7, 11] (l' := [(0, .v (.string ⟨⟨src⟩⟩)), (5, .v (.slice A18 (x10 ++ [({ Kind := v17.1.Kind, Text := v17.1.Text, Num := v17.1.Num, At := v13.1, Fresh := v13.2.1 } : T_api_Token)]).length c19)), (7, .v (.int .i64 v13.1)), (11, .v (.int .i64 v17.2))]) (B' := [some ⟨30, [.v (.int .i64 v17.1.Kind), .v (.string ⟨⟨v17.1.Text⟩⟩), .v (.int .i64 v17.1.Num), .v (.int .i64 v13.1), .v (.bool v13.2.1)]⟩, some ⟨30, [.v (.int .i64 v17.1.Kind), .v (.string ⟨⟨v17.1.Text⟩⟩), .v (.int .i64 v17.1.Num), .v (.int .i64 v13.1), .v (.bool v13.2.1)]⟩]) (by kernel_rfl) fun ρ w a hX => ?_
            refine wpList_end ?_
            refine hK34 _ _ ?_
            refine Cx.region hX [] [0, 5, 6] (l' := [(0, .v (.string ⟨⟨src⟩⟩)), (5, .v (.slice A18 (x10 ++ [({ Kind := v17.1.Kind, Text := v17.1.Text, Num := v17.1.Num, At := v13.1, Fresh := v13.2.1 } : T_api_Token)]).length c19)), (6, .v (.int .i64 (IntKind.wrap .i64 (v13.1 + v17.2))))]) (B' := [some ⟨30, [.v (.int .i64 v17.1.Kind), .v (.string ⟨⟨v17.1.Text⟩⟩), .v (.int .i64 v17.1.Num), .v (.int .i64 v13.1), .v (.bool v13.2.1)]⟩, some ⟨30, [.v (.int .i64 v17.1.Kind), .v (.string ⟨⟨v17.1.Text⟩⟩), .v (.int .i64 v17.1.Num), .v (.int .i64 v13.1), .v (.bool v13.2.1)]⟩]) (by kernel_rfl) fun ρ w a hX => ?_
            have hX := hX.keeps [0, 5, 6] (l' := [(0, .v (.string ⟨⟨src⟩⟩)), (5, .v (.slice A18 (x10 ++ [({ Kind := v17.1.Kind, Text := v17.1.Text, Num := v17.1.Num, At := v13.1, Fresh := v13.2.1 } : T_api_Token)]).length c19)), (6, .v (.int .i64 (IntKind.wrap .i64 (v13.1 + v17.2))))]) (by kernel_rfl)
            have hX := hX.shrink 0 (B' := []) (by kernel_rfl) (Nat.le_of_ble_eq_true rfl) (by kernel_rfl) (by kernel_rfl) (Nat.zero_le _)
            exact hb1 ((IntKind.wrap .i64 (v13.1 + v17.2)), (x10 ++ [({ Kind := v17.1.Kind, Text := v17.1.Text, Num := v17.1.Num, At := v13.1, Fresh := v13.2.1 } : T_api_Token)])) (out_eq h1) _ _ ⟨A18, c19, _, _, hX⟩
    · exact ⟨none, 0, _, _, hX⟩
def law06_TokenCuts.j1 (x9 : Bool) : Option (Bool) :=
  some x9
def law06_TokenCuts (src : Str) : Option (Bool) :=
  Option.bind (token_Cut src) fun v1 =>
  Option.bind (ref06_Cut src) fun v4 =>
  Option.bind (law06_live) fun v7 =>
  if v7 = true then
    Option.bind (ref06_Same v1.1 v4.1) fun v8 =>
    law06_TokenCuts.j1 ((v8 && (v1.2.1 == v4.2.1)) && (v1.2.2 == v4.2.2))
  else
    law06_TokenCuts.j1 false
theorem law06_TokenCuts.ok (src : Str) (r : Bool) (h0 : law06_TokenCuts src = some r) (w0 : World) (F0 : Heap) (hv : F0.Sub w0) (hG : Glob F0) (hg : SV.goods F0 [.v (.string ⟨⟨src⟩⟩)]) (ρ : Nat → Nat) :
    Calls Tryd.prog 4 (SV.dens ρ [.v (.string ⟨⟨src⟩⟩)]).toArray w0 (Ret0 w0 F0 fun s => s = .v (.bool r)) := by
  refine calls_of_wp Tryd.func4 rfl ?_
  have hX := Cx.enter (D := No) (B := []) (L := []) (ρ := ρ) (N := 37) Tryd.ntmps4 [.v (.string ⟨⟨src⟩⟩)] (St.start hv) rfl hg (by kernel_rfl) (fun _ h => by cases h) (Nat.le_of_ble_eq_true rfl) No.unfix
  unfold law06_TokenCuts at h0
  refine Cx.rseq hX [] [0] (l' := [(0, .v (.string ⟨⟨src⟩⟩))]) (B' := []) (by kernel_rfl) fun ρ w a hX => ?_
  refine wp_seq_k fun K2 hK2 => ?_
  refine wp_region_list ?_
  refine hX.part [] 1 [0, 10] (l' := [(0, .v (.string ⟨⟨src⟩⟩)), (10, .v (.string ⟨⟨src⟩⟩))]) (B' := []) (by kernel_rfl) fun ρ w a hX => ?_
  obtain ⟨v1, hv1, h0⟩ := bnd_some h0
  refine Cx.call0 hX (lit := []) (by kernel_rfl) rfl (by kernel_rfl) ⟨⟨_, Tryd.func13, by kernel_rfl, rfl⟩⟩ (ss := [.v (.string ⟨⟨src⟩⟩)]) (by kernel_rfl) [.v (.string ⟨⟨src⟩⟩)] rfl (fun hg => hg) (fun hv hle hg => token_Cut.ok src v1 hv1 _ _ hv (hG.mono hle) hg _) (fun s F w a hp hX => ?_)
  obtain ⟨_, _, _, rfl, ⟨A2, c3, rfl⟩, rfl, rfl⟩ := hp
  refine hX.part [] 7 [0, 3, 4, 5] (l' := [(0, .v (.string ⟨⟨src⟩⟩)), (3, SV.sl kT_api_Token v1.1 A2 c3), (4, .v (.int .i64 v1.2.1)), (5, .v (.int .i64 v1.2.2))]) (B' := []) (by kernel_rfl) fun ρ w a hX => ?_
  refine wpList_end ?_
  refine hK2 _ _ ?_
  refine wp_seq_k fun K3 hK3 => ?_
  refine wp_region_list ?_
  refine hX.part [] 1 [3, 4, 5, 16] (l' := [(3, SV.sl kT_api_Token v1.1 A2 c3), (4, .v (.int .i64 v1.2.1)), (5, .v (.int .i64 v1.2.2)), (16, .v (.string ⟨⟨src⟩⟩))]) (B' := []) (by kernel_rfl) fun ρ w a hX => ?_
  obtain ⟨v4, hv4, h0⟩ := bnd_some h0
  refine Cx.call0 hX (lit := []) (by kernel_rfl) rfl (by kernel_rfl) ⟨⟨_, Tryd.func14, by kernel_rfl, rfl⟩⟩ (ss := [.v (.string ⟨⟨src⟩⟩)]) (by kernel_rfl) [.v (.string ⟨⟨src⟩⟩)] rfl (fun hg => hg) (fun hv hle hg => ref06_Cut.ok src v4 hv4 _ _ hv (hG.mono hle) hg _) (fun s F w a hp hX => ?_)
  obtain ⟨_, _, _, rfl, ⟨A5, c6, rfl⟩, rfl, rfl⟩ := hp
  refine hX.part [] 7 [3, 4, 5, 6, 7, 8] (l' := [(3, SV.sl kT_api_Token v1.1 A2 c3), (4, .v (.int .i64 v1.2.1)), (5, .v (.int .i64 v1.2.2)), (6, SV.sl kT_api_Token v4.1 A5 c6), (7, .v (.int .i64 v4.2.1)), (8, .v (.int .i64 v4.2.2))]) (B' := []) (by kernel_rfl) fun ρ w a hX => ?_
  refine wpList_end ?_
  refine hK3 _ _ ?_
  refine wp_seq_k fun K4 hK4 => ?_
  have J4 : ∀ (x9 : Bool), law06_TokenCuts.j1 x9 = some r → ∀ (ρ : Nat → Nat) (w : World) (F : Heap) (a : Act), Cx 37 w0 F0 No w F [] [] ρ [(2, .v (.bool x9))] a → K4 a w := by
    intro x9 h0  ρ w F a hX
    unfold law06_TokenCuts.j1 at h0
    refine hK4 _ _ ?_
    refine wp_ret ?_
    have hr := Option.some.inj (show some _ = some _ from h0)
    subst hr
    exact hX.ret0 (ss := [.v (.bool x9)]) (by kernel_rfl) (by kernel_rfl) rfl
  refine wp_region_list ?_
  refine hX.part [] 0 [3, 4, 5, 6, 7, 8] (l' := [(3, SV.sl kT_api_Token v1.1 A2 c3), (4, .v (.int .i64 v1.2.1)), (5, .v (.int .i64 v1.2.2)), (6, SV.sl kT_api_Token v4.1 A5 c6), (7, .v (.int .i64 v4.2.1)), (8, .v (.int .i64 v4.2.2))]) (B' := []) (by kernel_rfl) fun ρ w a hX => ?_
  obtain ⟨v7, hv7, h0⟩ := bnd_some h0
  refine Cx.call0 hX (lit := []) (by kernel_rfl) rfl (by kernel_rfl) ⟨⟨_, Tryd.func8, by kernel_rfl, rfl⟩⟩ (ss := []) (by kernel_rfl) [] rfl (fun hg => hg) (fun hv hle hg => law06_live.ok v7 hv7 _ _ hv (hG.mono hle) hg _) (fun s F w a hp hX => ?_)
  subst hp
  refine hX.part [] 1 [3, 4, 5, 6, 7, 8, 22] (l' := [(3, SV.sl kT_api_Token v1.1 A2 c3), (4, .v (.int .i64 v1.2.1)), (5, .v (.int .i64 v1.2.2)), (6, SV.sl kT_api_Token v4.1 A5 c6), (7, .v (.int .i64 v4.2.1)), (8, .v (.int .i64 v4.2.2)), (22, .v (.bool v7))]) (B' := []) (by kernel_rfl) fun ρ w a hX => ?_
  refine ite_go h0 (fun hb h0 => ?_) (fun hb h0 => ?_)
  · have hX := hX.relit 22 hb (by kernel_rfl)
    refine hX.part [1] 2 [4, 5, 7, 8, 22, 23, 24] (l' := [(4, .v (.int .i64 v1.2.1)), (5, .v (.int .i64 v1.2.2)), (7, .v (.int .i64 v4.2.1)), (8, .v (.int .i64 v4.2.2)), (22, .v (.bool true)), (23, SV.sl kT_api_Token v1.1 A2 c3), (24, SV.sl kT_api_Token v4.1 A5 c6)]) (B' := []) (by kernel_rfl) fun ρ w a hX => ?_
    obtain ⟨v8, hv8, h0⟩ := bnd_some h0
    refine Cx.call0 hX (lit := [1]) (by kernel_rfl) rfl (by kernel_rfl) ⟨⟨_, Tryd.func15, by kernel_rfl, rfl⟩⟩ (ss := [SV.sl kT_api_Token v1.1 A2 c3, SV.sl kT_api_Token v4.1 A5 c6]) (by kernel_rfl) [SV.sl kT_api_Token v1.1 A2 c3, SV.sl kT_api_Token v4.1 A5 c6] rfl (fun hg => hg) (fun hv hle hg => ref06_Same.ok v1.1 v4.1 (A2, c3) (A5, c6) v8 hv8 _ _ hv (hG.mono hle) hg _) (fun s F w a hp hX => ?_)
    subst hp
    refine hX.part [] 12 [2] (l' := [(2, .v (.bool ((v8 && (v1.2.1 == v4.2.1)) && (v1.2.2 == v4.2.2))))]) (B' := []) (by kernel_rfl) fun ρ w a hX => ?_
    refine wpList_end ?_
    have hX := hX.keeps [2] (l' := [(2, .v (.bool ((v8 && (v1.2.1 == v4.2.1)) && (v1.2.2 == v4.2.2))))]) (by kernel_rfl)
    exact J4 ((v8 && (v1.2.1 == v4.2.1)) && (v1.2.2 == v4.2.2)) h0  _ _ _ _ hX
  · have hX := hX.relit 22 hb (by kernel_rfl)
    refine hX.part [1, 6, 11] 15 [2] (l' := [(2, .v (.bool false))]) (B' := []) (by kernel_rfl) fun ρ w a hX => ?_
    refine wpList_end ?_
    have hX := hX.keeps [2] (l' := [(2, .v (.bool false))]) (by kernel_rfl)
    exact J4 false h0  _ _ _ _ hX
def law06_TokenRises.l1 (src : Str) (v2 : (List T_api_Token) × Int × Int) (s : Int × Int) : Option ((Int × Int) ⊕ ((Int) ⊕ (Bool))) := match s with
  | (x9, x10) =>
  if (decide (x10 < ((v2.1.length : Nat) : Int))) = true then
    Option.bind (getI v2.1 x10) fun v11 =>
    if (((decide (v11.At ≤ x9)) || (decide (v11.At > ((src.length : Nat) : Int)))) || ((v11.Kind == 0) != (x10 == (IntKind.wrap .i64 (((v2.1.length : Nat) : Int) - 1))))) = true then
      some (.inr (.inr false))
    else
      some (.inl (v11.At, (IntKind.wrap .i64 (x10 + 1))))
  else
    some (.inr (.inl x9))
def law06_TokenRises (src : Str) : Option (Bool) :=
  Option.bind (law06_live) fun v1 =>
  Option.bind (token_Cut src) fun v2 =>
  if (v2.2.2 != 0) = true then
    some (((v1 && (((v2.1.length : Nat) : Int) == 0)) && (decide (v2.2.1 ≥ 0))) && (decide (v2.2.1 ≤ ((src.length : Nat) : Int))))
  else
    Option.bind (loopM (law06_TokenRises.l1 src v2) ((-1), 0)) fun e => match e with
    | (.inl x17) =>
      some ((v1 && (decide (((v2.1.length : Nat) : Int) > 0))) && (x17 == ((src.length : Nat) : Int)))
    | (.inr r18) =>
      some r18
theorem law06_TokenRises.ok (src : Str) (r : Bool) (h0 : law06_TokenRises src = some r) (w0 : World) (F0 : Heap) (hv : F0.Sub w0) (hG : Glob F0) (hg : SV.goods F0 [.v (.string ⟨⟨src⟩⟩)]) (ρ : Nat → Nat) :
    Calls Tryd.prog 6 (SV.dens ρ [.v (.string ⟨⟨src⟩⟩)]).toArray w0 (Ret0 w0 F0 fun s => s = .v (.bool r)) := by
  refine calls_of_wp Tryd.func6 rfl ?_
  have hX := Cx.enter (D := No) (B := []) (L := []) (ρ := ρ) (N := 79) Tryd.ntmps6 [.v (.string ⟨⟨src⟩⟩)] (St.start hv) rfl hg (by kernel_rfl) (fun _ h => by cases h) (Nat.le_of_ble_eq_true rfl) No.unfix
  unfold law06_TokenRises at h0
  refine Cx.rseq hX [] [0] (l' := [(0, .v (.string ⟨⟨src⟩⟩))]) (B' := []) (by kernel_rfl) fun ρ w a hX => ?_
  refine wp_seq_k fun K2 hK2 => ?_
  refine wp_region_list ?_
  refine hX.part [] 0 [0] (l' := [(0, .v (.string ⟨⟨src⟩⟩))]) (B' := []) (by kernel_rfl) fun ρ w a hX => ?_
  obtain ⟨v1, hv1, h0⟩ := bnd_some h0
  refine Cx.call0 hX (lit := []) (by kernel_rfl) rfl (by kernel_rfl) ⟨⟨_, Tryd.func8, by kernel_rfl, rfl⟩⟩ (ss := []) (by kernel_rfl) [] rfl (fun hg => hg) (fun hv hle hg => law06_live.ok v1 hv1 _ _ hv (hG.mono hle) hg _) (fun s F w a hp hX => ?_)
  subst hp
  refine hX.part [] 1 [0, 3] (l' := [(0, .v (.string ⟨⟨src⟩⟩)), (3, .v (.bool v1))]) (B' := []) (by kernel_rfl) fun ρ w a hX => ?_
  refine wpList_end ?_
  refine hK2 _ _ ?_
  refine wp_seq_k fun K3 hK3 => ?_
  refine wp_region_list ?_
  refine hX.part [] 1 [0, 3, 12] (l' := [(0, .v (.string ⟨⟨src⟩⟩)), (3, .v (.bool v1)), (12, .v (.string ⟨⟨src⟩⟩))]) (B' := []) (by kernel_rfl) fun ρ w a hX => ?_
  obtain ⟨v2, hv2, h0⟩ := bnd_some h0
  refine Cx.call0 hX (lit := []) (by kernel_rfl) rfl (by kernel_rfl) ⟨⟨_, Tryd.func13, by kernel_rfl, rfl⟩⟩ (ss := [.v (.string ⟨⟨src⟩⟩)]) (by kernel_rfl) [.v (.string ⟨⟨src⟩⟩)] rfl (fun hg => hg) (fun hv hle hg => token_Cut.ok src v2 hv2 _ _ hv (hG.mono hle) hg _) (fun s F w a hp hX => ?_)
  obtain ⟨_, _, _, rfl, ⟨A3, c4, rfl⟩, rfl, rfl⟩ := hp
  refine hX.part [] 7 [0, 3, 4, 5, 6] (l' := [(0, .v (.string ⟨⟨src⟩⟩)), (3, .v (.bool v1)), (4, SV.sl kT_api_Token v2.1 A3 c4), (5, .v (.int .i64 v2.2.1)), (6, .v (.int .i64 v2.2.2))]) (B' := []) (by kernel_rfl) fun ρ w a hX => ?_
  refine wpList_end ?_
  refine hK3 _ _ ?_
  refine wp_seq_k fun K4 hK4 => ?_
  refine Cx.rseq hX [] [0, 3, 4, 5, 18] (l' := [(0, .v (.string ⟨⟨src⟩⟩)), (3, .v (.bool v1)), (4, SV.sl kT_api_Token v2.1 A3 c4), (5, .v (.int .i64 v2.2.1)), (18, .v (.bool (v2.2.2 != 0)))]) (B' := []) (by kernel_rfl) fun ρ w a hX => ?_
  refine Cx.cond hX (b := (v2.2.2 != 0)) (by kernel_rfl) (fun hb => ?_) (fun hb => ?_)
  · have h0 := ite_tt h0 hb
    refine Cx.rseq hX [] [2] (l' := [(2, .v (.bool (((v1 && (((v2.1.length : Nat) : Int) == 0)) && (decide (v2.2.1 ≥ 0))) && (decide (v2.2.1 ≤ ((src.length : Nat) : Int))))))]) (B' := []) (by kernel_rfl) fun ρ w a hX => ?_
    refine wp_ret ?_
    have hr := Option.some.inj (show some _ = some _ from h0)
    subst hr
    exact hX.ret0 (ss := [.v (.bool (((v1 && (((v2.1.length : Nat) : Int) == 0)) && (decide (v2.2.1 ≥ 0))) && (decide (v2.2.1 ≤ ((src.length : Nat) : Int)))))]) (by kernel_rfl) (by kernel_rfl) rfl
  · have h0 := ite_ff h0 hb
    refine wp_skip ?_
    refine hK4 _ _ ?_
    refine Cx.rseq hX [] [0, 3, 4, 7] (l' := [(0, .v (.string ⟨⟨src⟩⟩)), (3, .v (.bool v1)), (4, SV.sl kT_api_Token v2.1 A3 c4), (7, .v (.int .i64 (-1)))]) (B' := []) (by kernel_rfl) fun ρ w a hX => ?_
    refine wp_seq_k fun K8 hK8 => ?_
    refine Cx.rseq hX [] [0, 3, 4, 7, 35, 36, 37] (l' := [(0, .v (.string ⟨⟨src⟩⟩)), (3, .v (.bool v1)), (4, SV.sl kT_api_Token v2.1 A3 c4), (7, .v (.int .i64 (-1))), (35, SV.sl kT_api_Token v2.1 A3 c4), (36, .v (.int .i64 ((v2.1.length : Nat) : Int))), (37, .v (.int .i64 0))]) (B' := []) (by kernel_rfl) fun ρ w a hX => ?_
    refine wp_block ?_
    have hX := hX.keeps [0, 3, 4, 7, 35, 36, 37] (l' := [(0, .v (.string ⟨⟨src⟩⟩)), (3, .v (.bool v1)), (4, SV.sl kT_api_Token v2.1 A3 c4), (7, .v (.int .i64 (-1))), (35, SV.sl kT_api_Token v2.1 A3 c4), (36, .v (.int .i64 ((v2.1.length : Nat) : Int))), (37, .v (.int .i64 0))]) (by kernel_rfl)
    obtain ⟨e1, he1, h0⟩ := bnd_some h0
    have E1x0 : ∀ (x17 : Int), e1 = (.inl x17) → ∀ (ρ : Nat → Nat) (w : World) (F : Heap) (a : Act), Cx 79 w0 F0 No w F [] [] ρ [(0, .v (.string ⟨⟨src⟩⟩)), (3, .v (.bool v1)), (4, SV.sl kT_api_Token v2.1 A3 c4), (7, .v (.int .i64 x17))] a → K8 a w := by
      intro x17 he  ρ w F a hX
      replace he := he.symm
      subst he
      (try dsimp only at h0)
      refine hK8 _ _ ?_
      refine Cx.rseq hX [] [2] (l' := [(2, .v (.bool ((v1 && (decide (((v2.1.length : Nat) : Int) > 0))) && (x17 == ((src.length : Nat) : Int)))))]) (B' := []) (by kernel_rfl) fun ρ w a hX => ?_
      refine wp_ret ?_
      have hr := Option.some.inj (show some _ = some _ from h0)
      subst hr
      exact hX.ret0 (ss := [.v (.bool ((v1 && (decide (((v2.1.length : Nat) : Int) > 0))) && (x17 == ((src.length : Nat) : Int))))]) (by kernel_rfl) (by kernel_rfl) rfl
    refine loop_go (fun (s : Int × Int) a w => match s with | (x9, x10) => ∃ (ρ : Nat → Nat) (F : Heap), Cx 79 w0 F0 No w F [] [] ρ [(0, .v (.string ⟨⟨src⟩⟩)), (3, .v (.bool v1)), (4, SV.sl kT_api_Token v2.1 A3 c4), (7, .v (.int .i64 x9)), (35, SV.sl kT_api_Token v2.1 A3 c4), (36, .v (.int .i64 ((v2.1.length : Nat) : Int))), (37, .v (.int .i64 x10))] a) he1 (fun LW1 s o1 h1 hb1 hx1 a w hI => ?_) _ _ ?_
    · obtain ⟨x9, x10⟩ := s
      obtain ⟨ρ, F, hX⟩ := hI
      unfold law06_TokenRises.l1 at h1
      (try dsimp only at h1)
      refine Cx.rseq hX [] [0, 3, 4, 7, 35, 36, 37, 38] (l' := [(0, .v (.string ⟨⟨src⟩⟩)), (3, .v (.bool v1)), (4, SV.sl kT_api_Token v2.1 A3 c4), (7, .v (.int .i64 x9)), (35, SV.sl kT_api_Token v2.1 A3 c4), (36, .v (.int .i64 ((v2.1.length : Nat) : Int))), (37, .v (.int .i64 x10)), (38, .v (.bool (decide (x10 < ((v2.1.length : Nat) : Int)))))]) (B' := []) (by kernel_rfl) fun ρ w a hX => ?_
      refine wp_seq_k fun K18 hK18 => ?_
      refine Cx.cond hX (b := (decide (x10 < ((v2.1.length : Nat) : Int)))) (by kernel_rfl) (fun hb => ?_) (fun hb => ?_)
      · have h1 := ite_tt h1 hb
        refine wp_skip ?_
        refine hK18 _ _ ?_
        refine wp_seq_k fun K19 hK19 => ?_
        refine wp_block ?_
        refine wp_seq_k fun K20 hK20 => ?_
        refine wp_region_list ?_
        refine hX.part [] 1 [0, 3, 4, 7, 35, 36, 37, 39] (l' := [(0, .v (.string ⟨⟨src⟩⟩)), (3, .v (.bool v1)), (4, SV.sl kT_api_Token v2.1 A3 c4), (7, .v (.int .i64 x9)), (35, SV.sl kT_api_Token v2.1 A3 c4), (36, .v (.int .i64 ((v2.1.length : Nat) : Int))), (37, .v (.int .i64 x10)), (39, .v (.int .i64 x10))]) (B' := []) (by kernel_rfl) fun ρ w a hX => ?_
        obtain ⟨v11, hv11, h1⟩ := bnd_some h1
        refine hX.idxSl (lit := []) (by kernel_rfl) (by kernel_rfl) rfl (d := kT_api_Token) (e := 30) (xs := v2.1) (A := A3) (c := c4) (k := .i64) (n := x10) (v := v11) (by kernel_rfl) (by kernel_rfl) (by kernel_rfl) (by kernel_rfl) hv11 fun y12 b13 o14 a hX => ?_
        refine hX.part [] 4 [0, 3, 4, 7, 8, 9, 35, 36, 37] (l' := [(0, .v (.string ⟨⟨src⟩⟩)), (3, .v (.bool v1)), (4, SV.sl kT_api_Token v2.1 A3 c4), (7, .v (.int .i64 x9)), (8, .v (.int .i64 x10)), (9, .ptr 0 0), (35, SV.sl kT_api_Token v2.1 A3 c4), (36, .v (.int .i64 ((v2.1.length : Nat) : Int))), (37, .v (.int .i64 x10))]) (B' := [some ⟨30, [.v (.int .i64 v11.Kind), .v (.string ⟨⟨v11.Text⟩⟩), .v (.int .i64 v11.Num), .v (.int .i64 v11.At), .v (.bool v11.Fresh)]⟩]) (by kernel_rfl) fun ρ w a hX => ?_
        refine wpList_end ?_
        refine hK20 _ _ ?_
        refine wp_seq_k fun K21 hK21 => ?_
        refine Cx.rseq hX [] [0, 3, 4, 9, 35, 36, 37, 63] (l' := [(0, .v (.string ⟨⟨src⟩⟩)), (3, .v (.bool v1)), (4, SV.sl kT_api_Token v2.1 A3 c4), (9, .ptr 0 0), (35, SV.sl kT_api_Token v2.1 A3 c4), (36, .v (.int .i64 ((v2.1.length : Nat) : Int))), (37, .v (.int .i64 x10)), (63, .v (.bool (((decide (v11.At ≤ x9)) || (decide (v11.At > ((src.length : Nat) : Int)))) || ((v11.Kind == 0) != (x10 == (IntKind.wrap .i64 (((v2.1.length : Nat) : Int) - 1)))))))]) (B' := [some ⟨30, [.v (.int .i64 v11.Kind), .v (.string ⟨⟨v11.Text⟩⟩), .v (.int .i64 v11.Num), .v (.int .i64 v11.At), .v (.bool v11.Fresh)]⟩]) (by kernel_rfl) fun ρ w a hX => ?_
        refine Cx.cond hX (b := (((decide (v11.At ≤ x9)) || (decide (v11.At > ((src.length : Nat) : Int)))) || ((v11.Kind == 0) != (x10 == (IntKind.wrap .i64 (((v2.1.length : Nat) : Int) - 1)))))) (by kernel_rfl) (fun hb => ?_) (fun hb => ?_)
        · have h1 := ite_tt h1 hb
          refine Cx.rseq hX [] [2] (l' := [(2, .v (.bool false))]) (B' := [some ⟨30, [.v (.int .i64 v11.Kind), .v (.string ⟨⟨v11.Text⟩⟩), .v (.int .i64 v11.Num), .v (.int .i64 v11.At), .v (.bool v11.Fresh)]⟩]) (by kernel_rfl) fun ρ w a hX => ?_
          refine wp_ret ?_
          have he := hx1 _ (out_eq h1)
          subst he
          (try dsimp only at h0)
          have hr := Option.some.inj (show some _ = some _ from h0)
          subst hr
          exact hX.ret0 (ss := [.v (.bool false)]) (by kernel_rfl) (by kernel_rfl) rfl
        · have h1 := ite_ff h1 hb
          refine wp_skip ?_
          refine hK21 _ _ ?_
          refine Cx.region hX [] [0, 3, 4, 7, 35, 36, 37] (l' := [(0, .v (.string ⟨⟨src⟩⟩)), (3, .v (.bool v1)), (4, SV.sl kT_api_Token v2.1 A3 c4), (7, .v (.int .i64 v11.At)), (35, SV.sl kT_api_Token v2.1 A3 c4), (36, .v (.int .i64 ((v2.1.length : Nat) : Int))), (37, .v (.int .i64 x10))]) (B' := [some ⟨30, [.v (.int .i64 v11.Kind), .v (.string ⟨⟨v11.Text⟩⟩), .v (.int .i64 v11.Num), .v (.int .i64 v11.At), .v (.bool v11.Fresh)]⟩]) (by kernel_rfl) fun ρ w a hX => ?_
          refine hK19 _ _ ?_
          refine Cx.region hX [] [0, 3, 4, 7, 35, 36, 37] (l' := [(0, .v (.string ⟨⟨src⟩⟩)), (3, .v (.bool v1)), (4, SV.sl kT_api_Token v2.1 A3 c4), (7, .v (.int .i64 v11.At)), (35, SV.sl kT_api_Token v2.1 A3 c4), (36, .v (.int .i64 ((v2.1.length : Nat) : Int))), (37, .v (.int .i64 (IntKind.wrap .i64 (x10 + 1))))]) (B' := [some ⟨30, [.v (.int .i64 v11.Kind), .v (.string ⟨⟨v11.Text⟩⟩), .v (.int .i64 v11.Num), .v (.int .i64 v11.At), .v (.bool v11.Fresh)]⟩]) (by kernel_rfl) fun ρ w a hX => ?_
          have hX := hX.keeps [0, 3, 4, 7, 35, 36, 37] (l' := [(0, .v (.string ⟨⟨src⟩⟩)), (3, .v (.bool v1)), (4, SV.sl kT_api_Token v2.1 A3 c4), (7, .v (.int .i64 v11.At)), (35, SV.sl kT_api_Token v2.1 A3 c4), (36, .v (.int .i64 ((v2.1.length : Nat) : Int))), (37, .v (.int .i64 (IntKind.wrap .i64 (x10 + 1))))]) (by kernel_rfl)
          have hX := hX.shrink 0 (B' := []) (by kernel_rfl) (Nat.le_of_ble_eq_true rfl) (by kernel_rfl) (by kernel_rfl) (Nat.zero_le _)
          exact hb1 (v11.At, (IntKind.wrap .i64 (x10 + 1))) (out_eq h1) _ _ ⟨_, _, hX⟩
      · have h1 := ite_ff h1 hb
        refine wp_exit ?_
        have hX := hX.keeps [0, 3, 4, 7] (l' := [(0, .v (.string ⟨⟨src⟩⟩)), (3, .v (.bool v1)), (4, SV.sl kT_api_Token v2.1 A3 c4), (7, .v (.int .i64 x9))]) (by kernel_rfl)
        exact E1x0 x9 (hx1 _ (out_eq h1)).symm  _ _ _ _ hX
    · exact ⟨_, _, hX⟩
def law06_TokenJoins.l1 (a_ : Str) (v5 : (List T_api_Token) × Int × Int) (s : Int × (List T_api_Token)) : Option ((Int × (List T_api_Token)) ⊕ (((List T_api_Token)))) := match s with
  | (x26, x27) =>
  if (decide (x26 < ((v5.1.length : Nat) : Int))) = true then
    Option.bind (getI v5.1 x26) fun v30 =>
    Option.bind (room (x27.length + 1)) fun u36 =>
    some (.inl ((IntKind.wrap .i64 (x26 + 1)), (x27 ++ [({ Kind := v30.Kind, Text := v30.Text, Num := v30.Num, At := (IntKind.wrap .i64 (v30.At + (IntKind.wrap .i64 (((a_.length : Nat) : Int) + 1)))), Fresh := (v30.Fresh || (x26 == 0)) } : T_api_Token)])))
  else
    some (.inr x27)
def law06_TokenJoins.j1 (x45 : Bool) : Option (Bool) :=
  some x45
def law06_TokenJoins (a_ : Str) (b_ : Str) : Option (Bool) :=
  Option.bind (law06_live) fun v1 =>
  Option.bind (token_Cut a_) fun v2 =>
  Option.bind (token_Cut b_) fun v5 =>
  if ((((((v2.2.2 != 0) || (v5.2.2 != 0)) || (decide (((a_.length : Nat) : Int) > 2000))) || (decide (((b_.length : Nat) : Int) > 2000))) || (((v2.1.length : Nat) : Int) == 0)) || (((v5.1.length : Nat) : Int) == 0)) = true then
    some v1
  else
    Option.bind (catS a_ ([10] : Str)) fun v8 =>
    Option.bind (catS v8 b_) fun v9 =>
    Option.bind (token_Cut v9) fun v10 =>
    Option.bind (cutL v2.1 0 (IntKind.wrap .i64 (((v2.1.length : Nat) : Int) - 1))) fun v13 =>
    Option.bind (room (([] : List T_api_Token).length + v13.length)) fun u18 =>
    Option.bind (loopM (law06_TokenJoins.l1 a_ v5) (0, (([] : List T_api_Token) ++ v13))) fun e => match e with
    | x41 =>
      if (v1 && (v10.2.2 == 0)) = true then
        Option.bind (ref06_Same v10.1 x41) fun v44 =>
        law06_TokenJoins.j1 v44
      else
        law06_TokenJoins.j1 false
theorem law06_TokenJoins.ok (a_ : Str) (b_ : Str) (r : Bool) (h0 : law06_TokenJoins a_ b_ = some r) (w0 : World) (F0 : Heap) (hv : F0.Sub w0) (hG : Glob F0) (hg : SV.goods F0 [.v (.string ⟨⟨a_⟩⟩), .v (.string ⟨⟨b_⟩⟩)]) (ρ : Nat → Nat) :
    Calls Tryd.prog 7 (SV.dens ρ [.v (.string ⟨⟨a_⟩⟩), .v (.string ⟨⟨b_⟩⟩)]).toArray w0 (Ret0 w0 F0 fun s => s = .v (.bool r)) := by
  refine calls_of_wp Tryd.func7 rfl ?_
  have hX := Cx.enter (D := No) (B := []) (L := []) (ρ := ρ) (N := 109) Tryd.ntmps7 [.v (.string ⟨⟨a_⟩⟩), .v (.string ⟨⟨b_⟩⟩)] (St.start hv) rfl hg (by kernel_rfl) (fun _ h => by cases h) (Nat.le_of_ble_eq_true rfl) No.unfix
  unfold law06_TokenJoins at h0
  refine Cx.rseq hX [] [0, 1] (l' := [(0, .v (.string ⟨⟨a_⟩⟩)), (1, .v (.string ⟨⟨b_⟩⟩))]) (B' := []) (by kernel_rfl) fun ρ w a hX => ?_
  refine wp_seq_k fun K2 hK2 => ?_
  refine wp_region_list ?_
  refine hX.part [] 0 [0, 1] (l' := [(0, .v (.string ⟨⟨a_⟩⟩)), (1, .v (.string ⟨⟨b_⟩⟩))]) (B' := []) (by kernel_rfl) fun ρ w a hX => ?_
  obtain ⟨v1, hv1, h0⟩ := bnd_some h0
  refine Cx.call0 hX (lit := []) (by kernel_rfl) rfl (by kernel_rfl) ⟨⟨_, Tryd.func8, by kernel_rfl, rfl⟩⟩ (ss := []) (by kernel_rfl) [] rfl (fun hg => hg) (fun hv hle hg => law06_live.ok v1 hv1 _ _ hv (hG.mono hle) hg _) (fun s F w a hp hX => ?_)
  subst hp
  refine hX.part [] 1 [0, 1, 5] (l' := [(0, .v (.string ⟨⟨a_⟩⟩)), (1, .v (.string ⟨⟨b_⟩⟩)), (5, .v (.bool v1))]) (B' := []) (by kernel_rfl) fun ρ w a hX => ?_
  refine wpList_end ?_
  refine hK2 _ _ ?_
  refine wp_seq_k fun K3 hK3 => ?_
  refine wp_region_list ?_
  refine hX.part [] 1 [0, 1, 5, 20] (l' := [(0, .v (.string ⟨⟨a_⟩⟩)), (1, .v (.string ⟨⟨b_⟩⟩)), (5, .v (.bool v1)), (20, .v (.string ⟨⟨a_⟩⟩))]) (B' := []) (by kernel_rfl) fun ρ w a hX => ?_
  obtain ⟨v2, hv2, h0⟩ := bnd_some h0
  refine Cx.call0 hX (lit := []) (by kernel_rfl) rfl (by kernel_rfl) ⟨⟨_, Tryd.func13, by kernel_rfl, rfl⟩⟩ (ss := [.v (.string ⟨⟨a_⟩⟩)]) (by kernel_rfl) [.v (.string ⟨⟨a_⟩⟩)] rfl (fun hg => hg) (fun hv hle hg => token_Cut.ok a_ v2 hv2 _ _ hv (hG.mono hle) hg _) (fun s F w a hp hX => ?_)
  obtain ⟨_, _, _, rfl, ⟨A3, c4, rfl⟩, rfl, rfl⟩ := hp
  refine hX.part [] 7 [0, 1, 5, 6, 8] (l' := [(0, .v (.string ⟨⟨a_⟩⟩)), (1, .v (.string ⟨⟨b_⟩⟩)), (5, .v (.bool v1)), (6, SV.sl kT_api_Token v2.1 A3 c4), (8, .v (.int .i64 v2.2.2))]) (B' := []) (by kernel_rfl) fun ρ w a hX => ?_
  refine wpList_end ?_
  refine hK3 _ _ ?_
  refine wp_seq_k fun K4 hK4 => ?_
  refine wp_region_list ?_
  refine hX.part [] 1 [0, 1, 5, 6, 8, 26] (l' := [(0, .v (.string ⟨⟨a_⟩⟩)), (1, .v (.string ⟨⟨b_⟩⟩)), (5, .v (.bool v1)), (6, SV.sl kT_api_Token v2.1 A3 c4), (8, .v (.int .i64 v2.2.2)), (26, .v (.string ⟨⟨b_⟩⟩))]) (B' := []) (by kernel_rfl) fun ρ w a hX => ?_
  obtain ⟨v5, hv5, h0⟩ := bnd_some h0
  refine Cx.call0 hX (lit := []) (by kernel_rfl) rfl (by kernel_rfl) ⟨⟨_, Tryd.func13, by kernel_rfl, rfl⟩⟩ (ss := [.v (.string ⟨⟨b_⟩⟩)]) (by kernel_rfl) [.v (.string ⟨⟨b_⟩⟩)] rfl (fun hg => hg) (fun hv hle hg => token_Cut.ok b_ v5 hv5 _ _ hv (hG.mono hle) hg _) (fun s F w a hp hX => ?_)
  obtain ⟨_, _, _, rfl, ⟨A6, c7, rfl⟩, rfl, rfl⟩ := hp
  refine hX.part [] 7 [0, 1, 5, 6, 8, 9, 11] (l' := [(0, .v (.string ⟨⟨a_⟩⟩)), (1, .v (.string ⟨⟨b_⟩⟩)), (5, .v (.bool v1)), (6, SV.sl kT_api_Token v2.1 A3 c4), (8, .v (.int .i64 v2.2.2)), (9, SV.sl kT_api_Token v5.1 A6 c7), (11, .v (.int .i64 v5.2.2))]) (B' := []) (by kernel_rfl) fun ρ w a hX => ?_
  refine wpList_end ?_
  refine hK4 _ _ ?_
  refine wp_seq_k fun K5 hK5 => ?_
  refine Cx.rseq hX [] [0, 1, 5, 6, 9, 56] (l' := [(0, .v (.string ⟨⟨a_⟩⟩)), (1, .v (.string ⟨⟨b_⟩⟩)), (5, .v (.bool v1)), (6, SV.sl kT_api_Token v2.1 A3 c4), (9, SV.sl kT_api_Token v5.1 A6 c7), (56, .v (.bool ((((((v2.2.2 != 0) || (v5.2.2 != 0)) || (decide (((a_.length : Nat) : Int) > 2000))) || (decide (((b_.length : Nat) : Int) > 2000))) || (((v2.1.length : Nat) : Int) == 0)) || (((v5.1.length : Nat) : Int) == 0))))]) (B' := []) (by kernel_rfl) fun ρ w a hX => ?_
  refine Cx.cond hX (b := ((((((v2.2.2 != 0) || (v5.2.2 != 0)) || (decide (((a_.length : Nat) : Int) > 2000))) || (decide (((b_.length : Nat) : Int) > 2000))) || (((v2.1.length : Nat) : Int) == 0)) || (((v5.1.length : Nat) : Int) == 0))) (by kernel_rfl) (fun hb => ?_) (fun hb => ?_)
  · have h0 := ite_tt h0 hb
    refine Cx.rseq hX [] [4] (l' := [(4, .v (.bool v1))]) (B' := []) (by kernel_rfl) fun ρ w a hX => ?_
    refine wp_ret ?_
    have hr := Option.some.inj (show some _ = some _ from h0)
    subst hr
    exact hX.ret0 (ss := [.v (.bool v1)]) (by kernel_rfl) (by kernel_rfl) rfl
  · have h0 := ite_ff h0 hb
    refine wp_skip ?_
    refine hK5 _ _ ?_
    refine wp_seq_k fun K8 hK8 => ?_
    refine wp_region_list ?_
    refine hX.part [] 1 [0, 1, 5, 6, 9, 59] (l' := [(0, .v (.string ⟨⟨a_⟩⟩)), (1, .v (.string ⟨⟨b_⟩⟩)), (5, .v (.bool v1)), (6, SV.sl kT_api_Token v2.1 A3 c4), (9, SV.sl kT_api_Token v5.1 A6 c7), (59, .v (.string ⟨⟨a_⟩⟩))]) (B' := []) (by kernel_rfl) fun ρ w a hX => ?_
    obtain ⟨v8, hv8, h0⟩ := bnd_some h0
    refine hX.catStr (lit := []) (by kernel_rfl) (by kernel_rfl) rfl (s := a_) (t := ([10] : Str)) (r := v8) (by kernel_rfl) (by kernel_rfl) hv8 fun a hX => ?_
    refine hX.part [] 1 [0, 5, 6, 9, 60, 61] (l' := [(0, .v (.string ⟨⟨a_⟩⟩)), (5, .v (.bool v1)), (6, SV.sl kT_api_Token v2.1 A3 c4), (9, SV.sl kT_api_Token v5.1 A6 c7), (60, .v (.string ⟨⟨v8⟩⟩)), (61, .v (.string ⟨⟨b_⟩⟩))]) (B' := []) (by kernel_rfl) fun ρ w a hX => ?_
    obtain ⟨v9, hv9, h0⟩ := bnd_some h0
    refine hX.catStr (lit := []) (by kernel_rfl) (by kernel_rfl) rfl (s := v8) (t := b_) (r := v9) (by kernel_rfl) (by kernel_rfl) hv9 fun a hX => ?_
    refine hX.part [] 0 [0, 5, 6, 9, 62] (l' := [(0, .v (.string ⟨⟨a_⟩⟩)), (5, .v (.bool v1)), (6, SV.sl kT_api_Token v2.1 A3 c4), (9, SV.sl kT_api_Token v5.1 A6 c7), (62, .v (.string ⟨⟨v9⟩⟩))]) (B' := []) (by kernel_rfl) fun ρ w a hX => ?_
    obtain ⟨v10, hv10, h0⟩ := bnd_some h0
    refine Cx.call0 hX (lit := []) (by kernel_rfl) rfl (by kernel_rfl) ⟨⟨_, Tryd.func13, by kernel_rfl, rfl⟩⟩ (ss := [.v (.string ⟨⟨v9⟩⟩)]) (by kernel_rfl) [.v (.string ⟨⟨v9⟩⟩)] rfl (fun hg => hg) (fun hv hle hg => token_Cut.ok v9 v10 hv10 _ _ hv (hG.mono hle) hg _) (fun s F w a hp hX => ?_)
    obtain ⟨_, _, _, rfl, ⟨A11, c12, rfl⟩, rfl, rfl⟩ := hp
    refine hX.part [] 7 [0, 5, 6, 9, 12, 14] (l' := [(0, .v (.string ⟨⟨a_⟩⟩)), (5, .v (.bool v1)), (6, SV.sl kT_api_Token v2.1 A3 c4), (9, SV.sl kT_api_Token v5.1 A6 c7), (12, SV.sl kT_api_Token v10.1 A11 c12), (14, .v (.int .i64 v10.2.2))]) (B' := []) (by kernel_rfl) fun ρ w a hX => ?_
    refine wpList_end ?_
    refine hK8 _ _ ?_
    refine wp_seq_k fun K9 hK9 => ?_
    refine wp_region_list ?_
    refine hX.part [] 4 [0, 5, 9, 12, 14, 67, 70] (l' := [(0, .v (.string ⟨⟨a_⟩⟩)), (5, .v (.bool v1)), (9, SV.sl kT_api_Token v5.1 A6 c7), (12, SV.sl kT_api_Token v10.1 A11 c12), (14, .v (.int .i64 v10.2.2)), (67, SV.sl kT_api_Token v2.1 A3 c4), (70, .v (.int .i64 (IntKind.wrap .i64 (((v2.1.length : Nat) : Int) - 1))))]) (B' := []) (by kernel_rfl) fun ρ w a hX => ?_
    obtain ⟨v13, hv13, h0⟩ := bnd_some h0
    refine hX.cutSl (lit := []) (by kernel_rfl) (by kernel_rfl) rfl (d := kT_api_Token) (e := 30) (xs := v2.1) (A := A3) (c := c4) (ol := none) (oh := some (IntKind.wrap .i64 (((v2.1.length : Nat) : Int) - 1))) (r := v13) (by kernel_rfl) (by kernel_rfl) (by kernel_rfl) (by kernel_rfl) (by kernel_rfl) hv13 fun A14 c15 a hX => ?_
    refine hX.part [] 0 [0, 5, 9, 12, 14, 71] (l' := [(0, .v (.string ⟨⟨a_⟩⟩)), (5, .v (.bool v1)), (9, SV.sl kT_api_Token v5.1 A6 c7), (12, SV.sl kT_api_Token v10.1 A11 c12), (14, .v (.int .i64 v10.2.2)), (71, SV.sl kT_api_Token v13 A14 c15)]) (B' := []) (by kernel_rfl) fun ρ w a hX => ?_
    obtain ⟨u18, hu18, h0⟩ := bnd_some h0
    have hX := hX.newAcc 30 kT_api_Token
    refine hX.appSl (d := kT_api_Token) (bytes := 48) (A2 := A14) (c2 := c15) (ys := v13) (lit := []) (i := 0) (e := 30) (xs := ([] : List T_api_Token)) (A := none) (c := 0) (by kernel_rfl) (by kernel_rfl) rfl rfl (by kernel_rfl) (by kernel_rfl) (by kernel_rfl) (by kernel_rfl) (by decide) hu18 fun A16 c17 w a hX => ?_
    have hX : Cx 109 _ _ _ _ _ [accP 30 kT_api_Token A16 c17 (([] : List T_api_Token) ++ v13)] [] ρ _ a := hX
    refine hX.part [] 1 [0, 5, 9, 12, 14, 15] (l' := [(0, .v (.string ⟨⟨a_⟩⟩)), (5, .v (.bool v1)), (9, SV.sl kT_api_Token v5.1 A6 c7), (12, SV.sl kT_api_Token v10.1 A11 c12), (14, .v (.int .i64 v10.2.2)), (15, .v (.slice A16 (([] : List T_api_Token) ++ v13).length c17))]) (B' := []) (by kernel_rfl) fun ρ w a hX => ?_
    refine wpList_end ?_
    refine hK9 _ _ ?_
    refine wp_seq_k fun K10 hK10 => ?_
    refine Cx.rseq hX [] [0, 5, 12, 14, 15, 73, 74, 75] (l' := [(0, .v (.string ⟨⟨a_⟩⟩)), (5, .v (.bool v1)), (12, SV.sl kT_api_Token v10.1 A11 c12), (14, .v (.int .i64 v10.2.2)), (15, .v (.slice A16 (([] : List T_api_Token) ++ v13).length c17)), (73, SV.sl kT_api_Token v5.1 A6 c7), (74, .v (.int .i64 ((v5.1.length : Nat) : Int))), (75, .v (.int .i64 0))]) (B' := []) (by kernel_rfl) fun ρ w a hX => ?_
    refine wp_block ?_
    have hX := hX.keeps [0, 5, 12, 14, 15, 73, 74, 75] (l' := [(0, .v (.string ⟨⟨a_⟩⟩)), (5, .v (.bool v1)), (12, SV.sl kT_api_Token v10.1 A11 c12), (14, .v (.int .i64 v10.2.2)), (15, .v (.slice A16 (([] : List T_api_Token) ++ v13).length c17)), (73, SV.sl kT_api_Token v5.1 A6 c7), (74, .v (.int .i64 ((v5.1.length : Nat) : Int))), (75, .v (.int .i64 0))]) (by kernel_rfl)
    obtain ⟨e1, he1, h0⟩ := bnd_some h0
    have E1x0 : ∀ (x41 : List T_api_Token), e1 = x41 → ∀ (A42 : Option Addr) (c43 : Nat) (ρ : Nat → Nat) (w : World) (F : Heap) (a : Act), Cx 109 w0 F0 No w F [accP 30 kT_api_Token A42 c43 x41] [] ρ [(5, .v (.bool v1)), (12, SV.sl kT_api_Token v10.1 A11 c12), (14, .v (.int .i64 v10.2.2)), (15, .v (.slice A42 x41.length c43))] a → K10 a w := by
      intro x41 he A42 c43 ρ w F a hX
      replace he := he.symm
      subst he
      (try dsimp only at h0)
      refine hK10 _ _ ?_
      refine wp_seq_k fun K24 hK24 => ?_
      have J24 : ∀ (x45 : Bool), law06_TokenJoins.j1 x45 = some r → ∀ (ρ : Nat → Nat) (w : World) (F : Heap) (a : Act), Cx 109 w0 F0 No w F [] [] ρ [(4, .v (.bool x45))] a → K24 a w := by
        intro x45 h0  ρ w F a hX
        unfold law06_TokenJoins.j1 at h0
        refine hK24 _ _ ?_
        refine wp_ret ?_
        have hr := Option.some.inj (show some _ = some _ from h0)
        subst hr
        exact hX.ret0 (ss := [.v (.bool x45)]) (by kernel_rfl) (by kernel_rfl) rfl
      refine wp_region_list ?_
      refine hX.part [] 6 [12, 15, 104] (l' := [(12, SV.sl kT_api_Token v10.1 A11 c12), (15, .v (.slice A42 x41.length c43)), (104, .v (.bool (v1 && (v10.2.2 == 0))))]) (B' := []) (by kernel_rfl) fun ρ w a hX => ?_
      refine ite_go h0 (fun hb h0 => ?_) (fun hb h0 => ?_)
      · have hX := hX.relit 104 hb (by kernel_rfl)
        refine hX.part [5] 2 [104, 105, 106] (l' := [(104, .v (.bool true)), (105, SV.sl kT_api_Token v10.1 A11 c12), (106, .v (.slice A42 x41.length c43))]) (B' := []) (by kernel_rfl) fun ρ w a hX => ?_
        obtain ⟨v44, hv44, h0⟩ := bnd_some h0
        obtain ⟨F, hX⟩ := hX.freeze (i := 0) (t := 106) (e := 30) (d := kT_api_Token) (A := A42) (c := c43) (xs := x41) rfl (by kernel_rfl)
        have hX : Cx 109 _ _ _ _ _ [] [] ρ _ a := hX
        refine Cx.call0 hX (lit := [5]) (by kernel_rfl) rfl (by kernel_rfl) ⟨⟨_, Tryd.func15, by kernel_rfl, rfl⟩⟩ (ss := [SV.sl kT_api_Token v10.1 A11 c12, SV.sl kT_api_Token x41 A42 c43]) (by kernel_rfl) [SV.sl kT_api_Token v10.1 A11 c12, SV.sl kT_api_Token x41 A42 c43] rfl (fun hg => hg) (fun hv hle hg => ref06_Same.ok v10.1 x41 (A11, c12) (A42, c43) v44 hv44 _ _ hv (hG.mono hle) hg _) (fun s F w a hp hX => ?_)
        subst hp
        refine hX.part [] 2 [4] (l' := [(4, .v (.bool v44))]) (B' := []) (by kernel_rfl) fun ρ w a hX => ?_
        refine wpList_end ?_
        have hX := hX.keeps [4] (l' := [(4, .v (.bool v44))]) (by kernel_rfl)
        exact J24 v44 h0  _ _ _ _ hX
      · have hX := hX.relit 104 hb (by kernel_rfl)
        refine hX.part [5] 5 [4] (l' := [(4, .v (.bool false))]) (B' := []) (by kernel_rfl) fun ρ w a hX => ?_
        refine wpList_end ?_
        have hX := hX.dropL 0 rfl rfl
        have hX := hX.keeps [4] (l' := [(4, .v (.bool false))]) (by kernel_rfl)
        exact J24 false h0  _ _ _ _ hX
    refine loop_go (fun (s : Int × (List T_api_Token)) a w => match s with | (x26, x27) => ∃ (A28 : Option Addr) (c29 : Nat) (ρ : Nat → Nat) (F : Heap), Cx 109 w0 F0 No w F [accP 30 kT_api_Token A28 c29 x27] [] ρ [(0, .v (.string ⟨⟨a_⟩⟩)), (5, .v (.bool v1)), (12, SV.sl kT_api_Token v10.1 A11 c12), (14, .v (.int .i64 v10.2.2)), (15, .v (.slice A28 x27.length c29)), (73, SV.sl kT_api_Token v5.1 A6 c7), (74, .v (.int .i64 ((v5.1.length : Nat) : Int))), (75, .v (.int .i64 x26))] a) he1 (fun LW1 s o1 h1 hb1 hx1 a w hI => ?_) _ _ ?_
    · obtain ⟨x26, x27⟩ := s
      obtain ⟨A28, c29, ρ, F, hX⟩ := hI
      unfold law06_TokenJoins.l1 at h1
      (try dsimp only at h1)
      refine Cx.rseq hX [] [0, 5, 12, 14, 15, 73, 74, 75, 76] (l' := [(0, .v (.string ⟨⟨a_⟩⟩)), (5, .v (.bool v1)), (12, SV.sl kT_api_Token v10.1 A11 c12), (14, .v (.int .i64 v10.2.2)), (15, .v (.slice A28 x27.length c29)), (73, SV.sl kT_api_Token v5.1 A6 c7), (74, .v (.int .i64 ((v5.1.length : Nat) : Int))), (75, .v (.int .i64 x26)), (76, .v (.bool (decide (x26 < ((v5.1.length : Nat) : Int)))))]) (B' := []) (by kernel_rfl) fun ρ w a hX => ?_
      refine wp_seq_k fun K19 hK19 => ?_
      refine Cx.cond hX (b := (decide (x26 < ((v5.1.length : Nat) : Int)))) (by kernel_rfl) (fun hb => ?_) (fun hb => ?_)
      · have h1 := ite_tt h1 hb
        refine wp_skip ?_
        refine hK19 _ _ ?_
        refine wp_seq_k fun K20 hK20 => ?_
        refine wp_block ?_
        refine wp_seq_k fun K21 hK21 => ?_
        refine wp_region_list ?_
        refine hX.part [] 1 [0, 5, 12, 14, 15, 73, 74, 75, 77] (l' := [(0, .v (.string ⟨⟨a_⟩⟩)), (5, .v (.bool v1)), (12, SV.sl kT_api_Token v10.1 A11 c12), (14, .v (.int .i64 v10.2.2)), (15, .v (.slice A28 x27.length c29)), (73, SV.sl kT_api_Token v5.1 A6 c7), (74, .v (.int .i64 ((v5.1.length : Nat) : Int))), (75, .v (.int .i64 x26)), (77, .v (.int .i64 x26))]) (B' := []) (by kernel_rfl) fun ρ w a hX => ?_
        obtain ⟨v30, hv30, h1⟩ := bnd_some h1
        refine hX.idxSl (lit := []) (by kernel_rfl) (by kernel_rfl) rfl (d := kT_api_Token) (e := 30) (xs := v5.1) (A := A6) (c := c7) (k := .i64) (n := x26) (v := v30) (by kernel_rfl) (by kernel_rfl) (by kernel_rfl) (by kernel_rfl) hv30 fun y31 b32 o33 a hX => ?_
        refine hX.part [] 4 [0, 5, 12, 14, 15, 16, 17, 73, 74, 75] (l' := [(0, .v (.string ⟨⟨a_⟩⟩)), (5, .v (.bool v1)), (12, SV.sl kT_api_Token v10.1 A11 c12), (14, .v (.int .i64 v10.2.2)), (15, .v (.slice A28 x27.length c29)), (16, .v (.int .i64 x26)), (17, .ptr 0 0), (73, SV.sl kT_api_Token v5.1 A6 c7), (74, .v (.int .i64 ((v5.1.length : Nat) : Int))), (75, .v (.int .i64 x26))]) (B' := [some ⟨30, [.v (.int .i64 v30.Kind), .v (.string ⟨⟨v30.Text⟩⟩), .v (.int .i64 v30.Num), .v (.int .i64 v30.At), .v (.bool v30.Fresh)]⟩]) (by kernel_rfl) fun ρ w a hX => ?_
        refine wpList_end ?_
        refine hK21 _ _ ?_
        refine Cx.rseq hX [] [0, 5, 12, 14, 15, 16, 17, 73, 74, 75] (l' := [(0, .v (.string ⟨⟨a_⟩⟩)), (5, .v (.bool v1)), (12, SV.sl kT_api_Token v10.1 A11 c12), (14, .v (.int .i64 v10.2.2)), (15, .v (.slice A28 x27.length c29)), (16, .v (.int .i64 x26)), (17, .ptr 0 0), (73, SV.sl kT_api_Token v5.1 A6 c7), (74, .v (.int .i64 ((v5.1.length : Nat) : Int))), (75, .v (.int .i64 x26))]) (B' := [some ⟨30, [.v (.int .i64 v30.Kind), .v (.string ⟨⟨v30.Text⟩⟩), .v (.int .i64 v30.Num), .v (.int .i64 (IntKind.wrap .i64 (v30.At + (IntKind.wrap .i64 (((a_.length : Nat) : Int) + 1))))), .v (.bool v30.Fresh)]⟩]) (by kernel_rfl) fun ρ w a hX => ?_
        refine Cx.rseq hX [] [0, 5, 12, 14, 15, 17, 73, 74, 75] (l' := [(0, .v (.string ⟨⟨a_⟩⟩)), (5, .v (.bool v1)), (12, SV.sl kT_api_Token v10.1 A11 c12), (14, .v (.int .i64 v10.2.2)), (15, .v (.slice A28 x27.length c29)), (17, .ptr 0 0), (73, SV.sl kT_api_Token v5.1 A6 c7), (74, .v (.int .i64 ((v5.1.length : Nat) : Int))), (75, .v (.int .i64 x26))]) (B' := [some ⟨30, [.v (.int .i64 v30.Kind), .v (.string ⟨⟨v30.Text⟩⟩), .v (.int .i64 v30.Num), .v (.int .i64 (IntKind.wrap .i64 (v30.At + (IntKind.wrap .i64 (((a_.length : Nat) : Int) + 1))))), .v (.bool (v30.Fresh || (x26 == 0)))]⟩]) (by kernel_rfl) fun ρ w a hX => ?_
        refine wp_region_list ?_
        refine hX.part [] 3 [0, 5, 12, 14, 15, 73, 74, 75, 94, 96] (l' := [(0, .v (.string ⟨⟨a_⟩⟩)), (5, .v (.bool v1)), (12, SV.sl kT_api_Token v10.1 A11 c12), (14, .v (.int .i64 v10.2.2)), (15, .v (.slice A28 x27.length c29)), (73, SV.sl kT_api_Token v5.1 A6 c7), (74, .v (.int .i64 ((v5.1.length : Nat) : Int))), (75, .v (.int .i64 x26)), (94, .v (.slice A28 x27.length c29)), (96, .slc 1 0 1 1)]) (B' := [some ⟨30, [.v (.int .i64 v30.Kind), .v (.string ⟨⟨v30.Text⟩⟩), .v (.int .i64 v30.Num), .v (.int .i64 (IntKind.wrap .i64 (v30.At + (IntKind.wrap .i64 (((a_.length : Nat) : Int) + 1))))), .v (.bool (v30.Fresh || (x26 == 0)))]⟩, some ⟨30, [.v (.int .i64 v30.Kind), .v (.string ⟨⟨v30.Text⟩⟩), .v (.int .i64 v30.Num), .v (.int .i64 (IntKind.wrap .i64 (v30.At + (IntKind.wrap .i64 (((a_.length : Nat) : Int) + 1))))), .v (.bool (v30.Fresh || (x26 == 0)))]⟩]) (by kernel_rfl) fun ρ w a hX => ?_
        obtain ⟨u36, hu36, h1⟩ := bnd_some h1
        refine hX.appLit (d := kT_api_Token) (k := 1) (m := 1) (bytes := 48) (cells := [.v (.int .i64 v30.Kind), .v (.string ⟨⟨v30.Text⟩⟩), .v (.int .i64 v30.Num), .v (.int .i64 (IntKind.wrap .i64 (v30.At + (IntKind.wrap .i64 (((a_.length : Nat) : Int) + 1))))), .v (.bool (v30.Fresh || (x26 == 0)))]) (lit := []) (i := 0) (e := 30) (xs := x27) (A := A28) (c := c29) ([(({ Kind := v30.Kind, Text := v30.Text, Num := v30.Num, At := (IntKind.wrap .i64 (v30.At + (IntKind.wrap .i64 (((a_.length : Nat) : Int) + 1)))), Fresh := (v30.Fresh || (x26 == 0)) } : T_api_Token), ())] : List (T_api_Token × (kT_api_Token).Y)) (by kernel_rfl) (by kernel_rfl) rfl rfl (by kernel_rfl) (by kernel_rfl) (by kernel_rfl) (by kernel_rfl) (by kernel_rfl) rfl rfl (by decide) hu36 ⟨_, rfl⟩ fun A34 c35 w a hX => ?_
        have hX : Cx 109 _ _ _ _ _ [accP 30 kT_api_Token A34 c35 (x27 ++ [({ Kind := v30.Kind, Text := v30.Text, Num := v30.Num, At := (IntKind.wrap .i64 (v30.At + (IntKind.wrap .i64 (((a_.length : Nat) : Int) + 1)))), Fresh := (v30.Fresh || (x26 == 0)) } : T_api_Token)])] [some ⟨30, [.v (.int .i64 v30.Kind), .v (.string ⟨⟨v30.Text⟩⟩), .v (.int .i64 v30.Num), .v (.int .i64 (IntKind.wrap .i64 (v30.At + (IntKind.wrap .i64 (((a_.length : Nat) : Int) + 1))))), .v (.bool (v30.Fresh || (x26 == 0)))]⟩, some ⟨30, [.v (.int .i64 v30.Kind), .v (.string ⟨⟨v30.Text⟩⟩), .v (.int .i64 v30.Num), .v (.int .i64 (IntKind.wrap .i64 (v30.At + (IntKind.wrap .i64 (((a_.length : Nat) : Int) + 1))))), .v (.bool (v30.Fresh || (x26 == 0)))]⟩] ρ _ a := hX
        refine hX.part [] 1 [0, 5, 12, 14, 15, 73, 74, 75] (l' := [(0, .v (.string ⟨⟨a_⟩⟩)), (5, .v (.bool v1)), (12, SV.sl kT_api_Token v10.1 A11 c12), (14, .v (.int .i64 v10.2.2)), (15, .v (.slice A34 (x27 ++ [({ Kind := v30.Kind, Text := v30.Text, Num := v30.Num, At := (IntKind.wrap .i64 (v30.At + (IntKind.wrap .i64 (((a_.length : Nat) : Int) + 1)))), Fresh := (v30.Fresh || (x26 == 0)) } : T_api_Token)]).length c35)), (73, SV.sl kT_api_Token v5.1 A6 c7), (74, .v (.int .i64 ((v5.1.length : Nat) : Int))), (75, .v (.int .i64 x26))]) (B' := [some ⟨30, [.v (.int .i64 v30.Kind), .v (.string ⟨⟨v30.Text⟩⟩), .v (.int .i64 v30.Num), .v (.int .i64 (IntKind.wrap .i64 (v30.At + (IntKind.wrap .i64 (((a_.length : Nat) : Int) + 1))))), .v (.bool (v30.Fresh || (x26 == 0)))]⟩, some ⟨30, [.v (.int .i64 v30.Kind), .v (.string ⟨⟨v30.Text⟩⟩), .v (.int .i64 v30.Num), .v (.int .i64 (IntKind.wrap .i64 (v30.At + (IntKind.wrap .i64 (((a_.length : Nat) : Int) + 1))))), .v (.bool (v30.Fresh || (x26 == 0)))]⟩]) (by kernel_rfl) fun ρ w a hX => ?_
        refine wpList_end ?_
        refine hK20 _ _ ?_
        refine Cx.region hX [] [0, 5, 12, 14, 15, 73, 74, 75] (l' := [(0, .v (.string ⟨⟨a_⟩⟩)), (5, .v (.bool v1)), (12, SV.sl kT_api_Token v10.1 A11 c12), (14, .v (.int .i64 v10.2.2)), (15, .v (.slice A34 (x27 ++ [({ Kind := v30.Kind, Text := v30.Text, Num := v30.Num, At := (IntKind.wrap .i64 (v30.At + (IntKind.wrap .i64 (((a_.length : Nat) : Int) + 1)))), Fresh := (v30.Fresh || (x26 == 0)) } : T_api_Token)]).length c35)), (73, SV.sl kT_api_Token v5.1 A6 c7), (74, .v (.int .i64 ((v5.1.length : Nat) : Int))), (75, .v (.int .i64 (IntKind.wrap .i64 (x26 + 1))))]) (B' := [some ⟨30, [.v (.int .i64 v30.Kind), .v (.string ⟨⟨v30.Text⟩⟩), .v (.int .i64 v30.Num), .v (.int .i64 (IntKind.wrap .i64 (v30.At + (IntKind.wrap .i64 (((a_.length : Nat) : Int) + 1))))), .v (.bool (v30.Fresh || (x26 == 0)))]⟩, some ⟨30, [.v (.int .i64 v30.Kind), .v (.string ⟨⟨v30.Text⟩⟩), .v (.int .i64 v30.Num), .v (.int .i64 (IntKind.wrap .i64 (v30.At + (IntKind.wrap .i64 (((a_.length : Nat) : Int) + 1))))), .v (.bool (v30.Fresh || (x26 == 0)))]⟩]) (by kernel_rfl) fun ρ w a hX => ?_
        have hX := hX.keeps [0, 5, 12, 14, 15, 73, 74, 75] (l' := [(0, .v (.string ⟨⟨a_⟩⟩)), (5, .v (.bool v1)), (12, SV.sl kT_api_Token v10.1 A11 c12), (14, .v (.int .i64 v10.2.2)), (15, .v (.slice A34 (x27 ++ [({ Kind := v30.Kind, Text := v30.Text, Num := v30.Num, At := (IntKind.wrap .i64 (v30.At + (IntKind.wrap .i64 (((a_.length : Nat) : Int) + 1)))), Fresh := (v30.Fresh || (x26 == 0)) } : T_api_Token)]).length c35)), (73, SV.sl kT_api_Token v5.1 A6 c7), (74, .v (.int .i64 ((v5.1.length : Nat) : Int))), (75, .v (.int .i64 (IntKind.wrap .i64 (x26 + 1))))]) (by kernel_rfl)
        have hX := hX.shrink 0 (B' := []) (by kernel_rfl) (Nat.le_of_ble_eq_true rfl) (by kernel_rfl) (by kernel_rfl) (Nat.zero_le _)
        exact hb1 ((IntKind.wrap .i64 (x26 + 1)), (x27 ++ [({ Kind := v30.Kind, Text := v30.Text, Num := v30.Num, At := (IntKind.wrap .i64 (v30.At + (IntKind.wrap .i64 (((a_.length : Nat) : Int) + 1)))), Fresh := (v30.Fresh || (x26 == 0)) } : T_api_Token)])) (out_eq h1) _ _ ⟨A34, c35, _, _, hX⟩
      · have h1 := ite_ff h1 hb
        refine wp_exit ?_
        have hX := hX.keeps [5, 12, 14, 15] (l' := [(5, .v (.bool v1)), (12, SV.sl kT_api_Token v10.1 A11 c12), (14, .v (.int .i64 v10.2.2)), (15, .v (.slice A28 x27.length c29))]) (by kernel_rfl)
        exact E1x0 x27 (hx1 _ (out_eq h1)).symm A28 c29 _ _ _ _ hX
    · exact ⟨A16, c17, _, _, hX⟩
end
end Go.Gw
