/- Texts for the statements of this seat. -/
import Derived.Test.YtmbdlfemlbbjfaaGreatDoorG06zx2
import Derived.Test.YtmbdlfemlbbjfaaGreatDoorGwU
import Derived.Test.YtmbdlfemlbbjfaaGreatDoorShelf06z
import Derived.Test.YtmbdlfemlbbjfaaGreatDoorNlAny06z
import Derived.Shelf.Strings.SlTrimAscii
import Derived.Test.YtmbdlfemlbbjfaaGreatDoorProg
import Derived.KernelRfl
set_option linter.unusedVariables false
set_option linter.unusedSimpArgs false
set_option linter.unnecessarySimpa false
namespace Go.Gw
open Go.Proofs Go.RowKit
set_option maxRecDepth 100000
set_option linter.unusedVariables false
set_option linter.unusedSimpArgs false
noncomputable section
def ref06_Cut.l1 (src : Str) (s : Int × (List T_api_Token)) : Option ((Int × (List T_api_Token)) ⊕ (((List T_api_Token) × Int × Int))) := match s with
  | (x9, x10) =>
  Option.bind (ref06_blanks src x9) fun v13 =>
  if (!v13.2.2) = true then
    some (.inr (([] : List T_api_Token), v13.1, 60))
  else
    if (v13.1 == ((src.length : Nat) : Int)) = true then
      Option.bind (room (x10.length + 1)) fun u16 =>
      some (.inr ((x10 ++ [({ Kind := 0, Text := ([] : Str), Num := 0, At := v13.1, Fresh := v13.2.1 } : T_api_Token)]), 0, 0))
    else
      Option.bind (ref06_one src v13.1) fun v17 =>
      if (v17.2 == 0) = true then
        some (.inr (([] : List T_api_Token), v13.1, 60))
      else
        Option.bind (room (x10.length + 1)) fun u20 =>
        some (.inl ((IntKind.wrap .i64 (v13.1 + v17.2)), (x10 ++ [({ Kind := v17.1.Kind, Text := v17.1.Text, Num := v17.1.Num, At := v13.1, Fresh := v13.2.1 } : T_api_Token)])))
def ref06_Cut (src : Str) : Option ((List T_api_Token) × Int × Int) :=
  if (decide (((src.length : Nat) : Int) > 4096)) = true then
    some (([] : List T_api_Token), 0, 2)
  else
    Option.bind (loopM (ref06_Cut.l1 src) (0, ([] : List T_api_Token))) fun e => match e with
    | r25 =>
      some r25
theorem ref06_Cut.ok (src : Str) (r : (List T_api_Token) × Int × Int) (h0 : ref06_Cut src = some r) (w0 : World) (F0 : Heap) (hv : F0.Sub w0) (hG : Glob F0) (hg : SV.goods F0 [.v (.string ⟨⟨src⟩⟩)]) (ρ : Nat → Nat) :
    Calls Tryz.prog 14 (SV.dens ρ [.v (.string ⟨⟨src⟩⟩)]).toArray w0 (Ret0 w0 F0 fun s => ∃ s1 s2 s3, s = .tup [s1, s2, s3] ∧ (∃ A c, s1 = SV.sl kT_api_Token r.1 A c) ∧ (s2 = .v (.int .i64 r.2.1)) ∧ (s3 = .v (.int .i64 r.2.2))) := by
 refine calls_of_wp Tryz.func14 rfl ?_
 have hX := Cx.enter (D := No) (B := []) (L := []) (ρ := ρ) (N := 55) Tryz.ntmps14 [.v (.string ⟨⟨src⟩⟩)] (St.start hv) rfl hg (by kernel_rfl) (fun _ h => by cases h) (Nat.le_of_ble_eq_true rfl) No.unfix
 unfold ref06_Cut at h0
 refine Cx.rseq hX [] [0] (l' := [(0, .v (.string ⟨⟨src⟩⟩))]) (B' := []) (by kernel_rfl) fun ρ w a hX => ?_
 refine wp_seq_k fun K2 hK2 => ?_
 refine Cx.rseq hX [] [0, 14] (l' := [(0, .v (.string ⟨⟨src⟩⟩)), (14, .v (.bool (decide (((src.length : Nat) : Int) > 4096))))]) (B' := []) (by kernel_rfl) fun ρ w a hX => ?_
 refine Cx.cond hX (b := (decide (((src.length : Nat) : Int) > 4096))) (by kernel_rfl) (fun hb => ?_) (fun hb => ?_)
 ·have h0 := ite_tt h0 hb
  refine Cx.rseq hX [] [2, 3, 4] (l' := [(2, .v (.slice none 0 0)), (3, .v (.int .i64 0)), (4, .v (.int .i64 2))]) (B' := []) (by kernel_rfl) fun ρ w a hX => ?_
  refine wp_ret ?_
  have hX := hX.nilSl 2 kT_api_Token (by kernel_rfl)
  have hr := Option.some.inj (show some _ = some _ from h0)
  subst hr
  exact hX.ret0 (ss := [SV.sl kT_api_Token ([] : List T_api_Token) none 0, .v (.int .i64 0), .v (.int .i64 2)]) (by kernel_rfl) (by kernel_rfl) ⟨_, _, _, rfl, ⟨_, _, rfl⟩, rfl, rfl⟩
 ·have h0 := ite_ff h0 hb
  refine wp_skip ?_
  refine hK2 _ _ ?_
  refine Cx.rseq hX [] [0, 5] (l' := [(0, .v (.string ⟨⟨src⟩⟩)), (5, .v (.slice none 0 0))]) (B' := []) (by kernel_rfl) fun ρ w a hX => ?_
  refine Cx.rseq hX [] [0, 5, 6] (l' := [(0, .v (.string ⟨⟨src⟩⟩)), (5, .v (.slice none 0 0)), (6, .v (.int .i64 0))]) (B' := []) (by kernel_rfl) fun ρ w a hX => ?_
  refine wp_block ?_
  have hX := hX.newAcc 25 kT_api_Token
  have hX := hX.keeps [0, 5, 6] (l' := [(0, .v (.string ⟨⟨src⟩⟩)), (5, .v (.slice none ([] : List T_api_Token).length 0)), (6, .v (.int .i64 0))]) (by kernel_rfl)
  obtain ⟨e1, he1, h0⟩ := bnd_some h0
  refine loop_go (fun (s : Int × (List T_api_Token)) a w => match s with | (x9, x10) => ∃ (A11 : Option Addr) (c12 : Nat) (ρ : Nat → Nat) (F : Heap), Cx 55 w0 F0 No w F [accP 25 kT_api_Token A11 c12 x10] [] ρ [(0, .v (.string ⟨⟨src⟩⟩)), (5, .v (.slice A11 x10.length c12)), (6, .v (.int .i64 x9))] a) he1 (fun LW1 s o1 h1 hb1 hx1 a w hI => ?_) _ _ ?_
  ·obtain ⟨x9, x10⟩ := s
   obtain ⟨A11, c12, ρ, F, hX⟩ := hI
   unfold ref06_Cut.l1 at h1
   (try dsimp only at h1)
   refine wp_block ?_
   refine wp_seq_k fun K21 hK21 => ?_
   refine wp_region_list ?_
   refine hX.part [] 2 [0, 5, 16, 17] (l' := [(0, .v (.string ⟨⟨src⟩⟩)), (5, .v (.slice A11 x10.length c12)), (16, .v (.string ⟨⟨src⟩⟩)), (17, .v (.int .i64 x9))]) (B' := []) (by kernel_rfl) fun ρ w a hX => ?_
   obtain ⟨v13, hv13, h1⟩ := bnd_some h1
   refine Cx.call0 hX (lit := []) (by kernel_rfl) rfl (by kernel_rfl) ⟨⟨_, Tryz.func27, by kernel_rfl, rfl⟩⟩ (ss := [.v (.string ⟨⟨src⟩⟩), .v (.int .i64 x9)]) (by kernel_rfl) [.v (.string ⟨⟨src⟩⟩), .v (.int .i64 x9)] rfl (fun hg => hg) (fun hv hle hg => ref06_blanks.ok src x9 v13 hv13 _ _ hv (hG.mono hle) hg _) (fun s F w a hp hX => ?_)
   obtain ⟨_, _, _, rfl, rfl, rfl, rfl⟩ := hp
   refine hX.part [] 7 [0, 5, 7, 8, 9] (l' := [(0, .v (.string ⟨⟨src⟩⟩)), (5, .v (.slice A11 x10.length c12)), (7, .v (.int .i64 v13.1)), (8, .v (.bool v13.2.1)), (9, .v (.bool v13.2.2))]) (B' := []) (by kernel_rfl) fun ρ w a hX => ?_
   refine wpList_end ?_
   refine hK21 _ _ ?_
   refine wp_seq_k fun K22 hK22 => ?_
   refine Cx.rseq hX [] [0, 5, 7, 8, 23] (l' := [(0, .v (.string ⟨⟨src⟩⟩)), (5, .v (.slice A11 x10.length c12)), (7, .v (.int .i64 v13.1)), (8, .v (.bool v13.2.1)), (23, .v (.bool (!v13.2.2)))]) (B' := []) (by kernel_rfl) fun ρ w a hX => ?_
   refine Cx.cond hX (b := (!v13.2.2)) (by kernel_rfl) (fun hb => ?_) (fun hb => ?_)
   ·have h1 := ite_tt h1 hb
    refine Cx.rseq hX [] [2, 3, 4] (l' := [(2, .v (.slice none 0 0)), (3, .v (.int .i64 v13.1)), (4, .v (.int .i64 60))]) (B' := []) (by kernel_rfl) fun ρ w a hX => ?_
    refine wp_ret ?_
    have hX := hX.nilSl 2 kT_api_Token (by kernel_rfl)
    have he := hx1 _ (out_eq h1)
    subst he
    (try dsimp only at h0)
    have hr := Option.some.inj (show some _ = some _ from h0)
    subst hr
    exact hX.ret0 (ss := [SV.sl kT_api_Token ([] : List T_api_Token) none 0, .v (.int .i64 v13.1), .v (.int .i64 60)]) (by kernel_rfl) (by kernel_rfl) ⟨_, _, _, rfl, ⟨_, _, rfl⟩, rfl, rfl⟩
   ·have h1 := ite_ff h1 hb
    refine wp_skip ?_
    refine hK22 _ _ ?_
    refine wp_seq_k fun K25 hK25 => ?_
    refine Cx.rseq hX [] [0, 5, 7, 8, 28] (l' := [(0, .v (.string ⟨⟨src⟩⟩)), (5, .v (.slice A11 x10.length c12)), (7, .v (.int .i64 v13.1)), (8, .v (.bool v13.2.1)), (28, .v (.bool (v13.1 == ((src.length : Nat) : Int))))]) (B' := []) (by kernel_rfl) fun ρ w a hX => ?_
    refine Cx.cond hX (b := (v13.1 == ((src.length : Nat) : Int))) (by kernel_rfl) (fun hb => ?_) (fun hb => ?_)
    ·have h1 := ite_tt h1 hb
     refine wp_seq_k fun K27 hK27 => ?_
     refine wp_region_list ?_
     refine hX.part [] 5 [29, 33] (l' := [(29, .v (.slice A11 x10.length c12)), (33, .slc 0 0 1 1)]) (B' := [some ⟨25, [.v (.int .i64 0), .v (.string ⟨⟨([] : Str)⟩⟩), .v (.int .i64 0), .v (.int .i64 v13.1), .v (.bool v13.2.1)]⟩]) (by kernel_rfl) fun ρ w a hX => ?_
     obtain ⟨u16, hu16, h1⟩ := bnd_some h1
     refine hX.appLit (d := kT_api_Token) (k := 0) (m := 1) (bytes := 48) (cells := [.v (.int .i64 0), .v (.string ⟨⟨([] : Str)⟩⟩), .v (.int .i64 0), .v (.int .i64 v13.1), .v (.bool v13.2.1)]) (lit := []) (i := 0) (e := 25) (xs := x10) (A := A11) (c := c12) ([(({ Kind := 0, Text := ([] : Str), Num := 0, At := v13.1, Fresh := v13.2.1 } : T_api_Token), ())] : List (T_api_Token × (kT_api_Token).Y)) (by kernel_rfl) (by kernel_rfl) rfl rfl (by kernel_rfl) (by kernel_rfl) (by kernel_rfl) (by kernel_rfl) (by kernel_rfl) rfl rfl (by decide) hu16 ⟨_, rfl⟩ fun A14 c15 w a hX => ?_
     have hX : Cx 55 _ _ _ _ _ [accP 25 kT_api_Token A14 c15 (x10 ++ [({ Kind := 0, Text := ([] : Str), Num := 0, At := v13.1, Fresh := v13.2.1 } : T_api_Token)])] [some ⟨25, [.v (.int .i64 0), .v (.string ⟨⟨([] : Str)⟩⟩), .v (.int .i64 0), .v (.int .i64 v13.1), .v (.bool v13.2.1)]⟩] ρ _ a := hX
     refine hX.part [] 3 [2, 3, 4] (l' := [(2, .v (.slice A14 (x10 ++ [({ Kind := 0, Text := ([] : Str), Num := 0, At := v13.1, Fresh := v13.2.1 } : T_api_Token)]).length c15)), (3, .v (.int .i64 0)), (4, .v (.int .i64 0))]) (B' := [some ⟨25, [.v (.int .i64 0), .v (.string ⟨⟨([] : Str)⟩⟩), .v (.int .i64 0), .v (.int .i64 v13.1), .v (.bool v13.2.1)]⟩]) (by kernel_rfl) fun ρ w a hX => ?_
     refine wpList_end ?_
     refine hK27 _ _ ?_
     refine wp_ret ?_
     obtain ⟨F, hX⟩ := hX.freeze (i := 0) (t := 2) (e := 25) (d := kT_api_Token) (A := A14) (c := c15) (xs := (x10 ++ [({ Kind := 0, Text := ([] : Str), Num := 0, At := v13.1, Fresh := v13.2.1 } : T_api_Token)])) rfl (by kernel_rfl)
     have hX : Cx 55 _ _ _ _ _ [] [some ⟨25, [.v (.int .i64 0), .v (.string ⟨⟨([] : Str)⟩⟩), .v (.int .i64 0), .v (.int .i64 v13.1), .v (.bool v13.2.1)]⟩] ρ _ a := hX
     have he := hx1 _ (out_eq h1)
     subst he
     (try dsimp only at h0)
     have hr := Option.some.inj (show some _ = some _ from h0)
     subst hr
     exact hX.ret0 (ss := [SV.sl kT_api_Token (x10 ++ [({ Kind := 0, Text := ([] : Str), Num := 0, At := v13.1, Fresh := v13.2.1 } : T_api_Token)]) A14 c15, .v (.int .i64 0), .v (.int .i64 0)]) (by kernel_rfl) (by kernel_rfl) ⟨_, _, _, rfl, ⟨_, _, rfl⟩, rfl, rfl⟩
    ·have h1 := ite_ff h1 hb
     refine wp_skip ?_
     refine hK25 _ _ ?_
     refine wp_seq_k fun K28 hK28 => ?_
     refine wp_region_list ?_
     refine hX.part [] 2 [0, 5, 7, 8, 36, 37] (l' := [(0, .v (.string ⟨⟨src⟩⟩)), (5, .v (.slice A11 x10.length c12)), (7, .v (.int .i64 v13.1)), (8, .v (.bool v13.2.1)), (36, .v (.string ⟨⟨src⟩⟩)), (37, .v (.int .i64 v13.1))]) (B' := []) (by kernel_rfl) fun ρ w a hX => ?_
     obtain ⟨v17, hv17, h1⟩ := bnd_some h1
     refine Cx.call0 hX (lit := []) (by kernel_rfl) rfl (by kernel_rfl) ⟨⟨_, Tryz.func28, by kernel_rfl, rfl⟩⟩ (ss := [.v (.string ⟨⟨src⟩⟩), .v (.int .i64 v13.1)]) (by kernel_rfl) [.v (.string ⟨⟨src⟩⟩), .v (.int .i64 v13.1)] rfl (fun hg => hg) (fun hv hle hg => ref06_one.ok src v13.1 v17 hv17 _ _ hv (hG.mono hle) hg _) (fun s F w a hp hX => ?_)
     obtain ⟨_, _, rfl, rfl, rfl⟩ := hp
     refine hX.part [] 6 [0, 5, 7, 8, 10, 11] (l' := [(0, .v (.string ⟨⟨src⟩⟩)), (5, .v (.slice A11 x10.length c12)), (7, .v (.int .i64 v13.1)), (8, .v (.bool v13.2.1)), (10, .ptr 0 0), (11, .v (.int .i64 v17.2))]) (B' := [some ⟨25, [.v (.int .i64 v17.1.Kind), .v (.string ⟨⟨v17.1.Text⟩⟩), .v (.int .i64 v17.1.Num), .v (.int .i64 v17.1.At), .v (.bool v17.1.Fresh)]⟩]) (by kernel_rfl) fun ρ w a hX => ?_
     refine wpList_end ?_
     refine hK28 _ _ ?_
     refine wp_seq_k fun K29 hK29 => ?_
     refine Cx.rseq hX [] [0, 5, 7, 8, 10, 11, 42] (l' := [(0, .v (.string ⟨⟨src⟩⟩)), (5, .v (.slice A11 x10.length c12)), (7, .v (.int .i64 v13.1)), (8, .v (.bool v13.2.1)), (10, .ptr 0 0), (11, .v (.int .i64 v17.2)), (42, .v (.bool (v17.2 == 0)))]) (B' := [some ⟨25, [.v (.int .i64 v17.1.Kind), .v (.string ⟨⟨v17.1.Text⟩⟩), .v (.int .i64 v17.1.Num), .v (.int .i64 v17.1.At), .v (.bool v17.1.Fresh)]⟩]) (by kernel_rfl) fun ρ w a hX => ?_
     refine Cx.cond hX (b := (v17.2 == 0)) (by kernel_rfl) (fun hb => ?_) (fun hb => ?_)
     ·have h1 := ite_tt h1 hb
      refine Cx.rseq hX [] [2, 3, 4] (l' := [(2, .v (.slice none 0 0)), (3, .v (.int .i64 v13.1)), (4, .v (.int .i64 60))]) (B' := [some ⟨25, [.v (.int .i64 v17.1.Kind), .v (.string ⟨⟨v17.1.Text⟩⟩), .v (.int .i64 v17.1.Num), .v (.int .i64 v17.1.At), .v (.bool v17.1.Fresh)]⟩]) (by kernel_rfl) fun ρ w a hX => ?_
      refine wp_ret ?_
      have hX := hX.nilSl 2 kT_api_Token (by kernel_rfl)
      have he := hx1 _ (out_eq h1)
      subst he
      (try dsimp only at h0)
      have hr := Option.some.inj (show some _ = some _ from h0)
      subst hr
      exact hX.ret0 (ss := [SV.sl kT_api_Token ([] : List T_api_Token) none 0, .v (.int .i64 v13.1), .v (.int .i64 60)]) (by kernel_rfl) (by kernel_rfl) ⟨_, _, _, rfl, ⟨_, _, rfl⟩, rfl, rfl⟩
     ·have h1 := ite_ff h1 hb
      refine wp_skip ?_
      refine hK29 _ _ ?_
      refine Cx.rseq hX [] [0, 5, 7, 8, 10, 11] (l' := [(0, .v (.string ⟨⟨src⟩⟩)), (5, .v (.slice A11 x10.length c12)), (7, .v (.int .i64 v13.1)), (8, .v (.bool v13.2.1)), (10, .ptr 0 0), (11, .v (.int .i64 v17.2))]) (B' := [some ⟨25, [.v (.int .i64 v17.1.Kind), .v (.string ⟨⟨v17.1.Text⟩⟩), .v (.int .i64 v17.1.Num), .v (.int .i64 v13.1), .v (.bool v17.1.Fresh)]⟩]) (by kernel_rfl) fun ρ w a hX => ?_
      refine Cx.rseq hX [] [0, 5, 7, 10, 11] (l' := [(0, .v (.string ⟨⟨src⟩⟩)), (5, .v (.slice A11 x10.length c12)), (7, .v (.int .i64 v13.1)), (10, .ptr 0 0), (11, .v (.int .i64 v17.2))]) (B' := [some ⟨25, [.v (.int .i64 v17.1.Kind), .v (.string ⟨⟨v17.1.Text⟩⟩), .v (.int .i64 v17.1.Num), .v (.int .i64 v13.1), .v (.bool v13.2.1)]⟩]) (by kernel_rfl) fun ρ w a hX => ?_
      refine wp_seq_k fun K34 hK34 => ?_
      refine wp_region_list ?_
      refine hX.part [] 3 [0, 5, 7, 11, 48, 50] (l' := [(0, .v (.string ⟨⟨src⟩⟩)), (5, .v (.slice A11 x10.length c12)), (7, .v (.int .i64 v13.1)), (11, .v (.int .i64 v17.2)), (48, .v (.slice A11 x10.length c12)), (50, .slc 1 0 1 1)]) (B' := [some ⟨25, [.v (.int .i64 v17.1.Kind), .v (.string ⟨⟨v17.1.Text⟩⟩), .v (.int .i64 v17.1.Num), .v (.int .i64 v13.1), .v (.bool v13.2.1)]⟩, some ⟨25, [.v (.int .i64 v17.1.Kind), .v (.string ⟨⟨v17.1.Text⟩⟩), .v (.int .i64 v17.1.Num), .v (.int .i64 v13.1), .v (.bool v13.2.1)]⟩]) (by kernel_rfl) fun ρ w a hX => ?_
      obtain ⟨u20, hu20, h1⟩ := bnd_some h1
      refine hX.appLit (d := kT_api_Token) (k := 1) (m := 1) (bytes := 48) (cells := [.v (.int .i64 v17.1.Kind), .v (.string ⟨⟨v17.1.Text⟩⟩), .v (.int .i64 v17.1.Num), .v (.int .i64 v13.1), .v (.bool v13.2.1)]) (lit := []) (i := 0) (e := 25) (xs := x10) (A := A11) (c := c12) ([(({ Kind := v17.1.Kind, Text := v17.1.Text, Num := v17.1.Num, At := v13.1, Fresh := v13.2.1 } : T_api_Token), ())] : List (T_api_Token × (kT_api_Token).Y)) (by kernel_rfl) (by kernel_rfl) rfl rfl (by kernel_rfl) (by kernel_rfl) (by kernel_rfl) (by kernel_rfl) (by kernel_rfl) rfl rfl (by decide) hu20 ⟨_, rfl⟩ fun A18 c19 w a hX => ?_
      have hX : Cx 55 _ _ _ _ _ [accP 25 kT_api_Token A18 c19 (x10 ++ [({ Kind := v17.1.Kind, Text := v17.1.Text, Num := v17.1.Num, At := v13.1, Fresh := v13.2.1 } : T_api_Token)])] [some ⟨25, [.v (.int .i64 v17.1.Kind), .v (.string ⟨⟨v17.1.Text⟩⟩), .v (.int .i64 v17.1.Num), .v (.int .i64 v13.1), .v (.bool v13.2.1)]⟩, some ⟨25, [.v (.int .i64 v17.1.Kind), .v (.string ⟨⟨v17.1.Text⟩⟩), .v (.int .i64 v17.1.Num), .v (.int .i64 v13.1), .v (.bool v13.2.1)]⟩] ρ _ a := hX
      refine hX.part [] 1 [0, 5, 7, 11] (l' := [(0, .v (.string ⟨⟨src⟩⟩)), (5, .v (.slice A18 (x10 ++ [({ Kind := v17.1.Kind, Text := v17.1.Text, Num := v17.1.Num, At := v13.1, Fresh := v13.2.1 } : T_api_Token)]).length c19)), (7, .v (.int .i64 v13.1)), (11, .v (.int .i64 v17.2))]) (B' := [some ⟨25, [.v (.int .i64 v17.1.Kind), .v (.string ⟨⟨v17.1.Text⟩⟩), .v (.int .i64 v17.1.Num), .v (.int .i64 v13.1), .v (.bool v13.2.1)]⟩, some ⟨25, [.v (.int .i64 v17.1.Kind), .v (.string ⟨⟨v17.1.Text⟩⟩), .v (.int .i64 v17.1.Num), .v (.int .i64 v13.1), .v (.bool v13.2.1)]⟩]) (by kernel_rfl) fun ρ w a hX => ?_
      refine wpList_end ?_
      refine hK34 _ _ ?_
      refine Cx.region hX [] [0, 5, 6] (l' := [(0, .v (.string ⟨⟨src⟩⟩)), (5, .v (.slice A18 (x10 ++ [({ Kind := v17.1.Kind, Text := v17.1.Text, Num := v17.1.Num, At := v13.1, Fresh := v13.2.1 } : T_api_Token)]).length c19)), (6, .v (.int .i64 (IntKind.wrap .i64 (v13.1 + v17.2))))]) (B' := [some ⟨25, [.v (.int .i64 v17.1.Kind), .v (.string ⟨⟨v17.1.Text⟩⟩), .v (.int .i64 v17.1.Num), .v (.int .i64 v13.1), .v (.bool v13.2.1)]⟩, some ⟨25, [.v (.int .i64 v17.1.Kind), .v (.string ⟨⟨v17.1.Text⟩⟩), .v (.int .i64 v17.1.Num), .v (.int .i64 v13.1), .v (.bool v13.2.1)]⟩]) (by kernel_rfl) fun ρ w a hX => ?_
      have hX := hX.keeps [0, 5, 6] (l' := [(0, .v (.string ⟨⟨src⟩⟩)), (5, .v (.slice A18 (x10 ++ [({ Kind := v17.1.Kind, Text := v17.1.Text, Num := v17.1.Num, At := v13.1, Fresh := v13.2.1 } : T_api_Token)]).length c19)), (6, .v (.int .i64 (IntKind.wrap .i64 (v13.1 + v17.2))))]) (by kernel_rfl)
      have hX := hX.shrink 0 (B' := []) (by kernel_rfl) (Nat.le_of_ble_eq_true rfl) (by kernel_rfl) (by kernel_rfl) (Nat.zero_le _)
      exact hb1 ((IntKind.wrap .i64 (v13.1 + v17.2)), (x10 ++ [({ Kind := v17.1.Kind, Text := v17.1.Text, Num := v17.1.Num, At := v13.1, Fresh := v13.2.1 } : T_api_Token)])) (out_eq h1) _ _ ⟨A18, c19, _, _, hX⟩
  ·exact ⟨none, 0, _, _, hX⟩
def law06_written.j1 (t : T_api_Token) (x4 : Bool) : Option (Str × Bool) :=
  some (t.Text, x4)
def law06_written.j2 (x7 : Str) (x8 : Bool) : Option (Str × Bool) :=
  some (x7, x8)
def law06_written.j3 (t : T_api_Token) (x21 : Bool) : Option (Str × Bool) :=
  some (t.Text, x21)
def law06_written (t : T_api_Token) : Option (Str × Bool) :=
  if (t.Kind == 1) = true then
    Option.bind (ref06_IsIdent t.Text) fun v2 =>
    if v2 = true then
      Option.bind (ref06_IsWord t.Text) fun v3 =>
      law06_written.j1 t (!v3)
    else
      law06_written.j1 t false
  else
    if (t.Kind == 2) = true then
      Option.bind (ref06_IsWord t.Text) fun v5 =>
      some (t.Text, v5)
    else
      if (t.Kind == 3) = true then
        Option.bind (ref03_Digits (if 0 > t.Num then 0 else t.Num)) fun v6 =>
        if (decide (t.Num ≥ 0)) = true then
          law06_written.j2 v6 (decide (t.Num ≤ 9007199254740991))
        else
          law06_written.j2 v6 false
      else
        if (t.Kind == 4) = true then
          Option.bind (ref01_Quote t.Text) fun v9 =>
          some (v9.1, (v9.2 == 0))
        else
          if (t.Kind == 5) = true then
            Option.bind (ref06_Cut t.Text) fun v10 =>
            if (((v10.1.length : Nat) : Int) == 2) = true then
              Option.bind (getI v10.1 0) fun v13 =>
              if (v13.Kind == 5) = true then
                Option.bind (getI v10.1 0) fun v17 =>
                law06_written.j3 t (v17.Text == t.Text)
              else
                law06_written.j3 t false
            else
              law06_written.j3 t false
          else
            some (([] : Str), false)
theorem law06_written.ok (t : T_api_Token) (r : Str × Bool) (h0 : law06_written t = some r) (w0 : World) (F0 : Heap) (hv : F0.Sub w0) (hG : Glob F0) (hg : SV.goods F0 [.agg [.v (.int .i64 t.Kind), .v (.string ⟨⟨t.Text⟩⟩), .v (.int .i64 t.Num), .v (.int .i64 t.At), .v (.bool t.Fresh)]]) (ρ : Nat → Nat) :
    Calls Tryz.prog 5 (SV.dens ρ [.agg [.v (.int .i64 t.Kind), .v (.string ⟨⟨t.Text⟩⟩), .v (.int .i64 t.Num), .v (.int .i64 t.At), .v (.bool t.Fresh)]]).toArray w0 (Ret0 w0 F0 fun s => ∃ s1 s2, s = .tup [s1, s2] ∧ (s1 = .v (.string ⟨⟨r.1⟩⟩)) ∧ (s2 = .v (.bool r.2))) := by
 refine calls_of_wp Tryz.func5 rfl ?_
 have hX := Cx.enter (D := No) (B := []) (L := []) (ρ := ρ) (N := 86) Tryz.ntmps5 [.agg [.v (.int .i64 t.Kind), .v (.string ⟨⟨t.Text⟩⟩), .v (.int .i64 t.Num), .v (.int .i64 t.At), .v (.bool t.Fresh)]] (St.start hv) rfl hg (by kernel_rfl) (fun _ h => by cases h) (Nat.le_of_ble_eq_true rfl) No.unfix
 unfold law06_written at h0
 refine wp_seq_k fun K1 hK1 => ?_
 refine wp_region_list ?_
 refine hX.part [] 0 [0] (l' := [(0, .agg [.v (.int .i64 t.Kind), .v (.string ⟨⟨t.Text⟩⟩), .v (.int .i64 t.Num), .v (.int .i64 t.At), .v (.bool t.Fresh)])]) (B' := []) (by kernel_rfl) fun ρ w a hX => ?_
 refine hX.boxF (lit := []) (by kernel_rfl) (by kernel_rfl) rfl (s := .agg [.v (.int .i64 t.Kind), .v (.string ⟨⟨t.Text⟩⟩), .v (.int .i64 t.Num), .v (.int .i64 t.At), .v (.bool t.Fresh)]) (cs := [.v (.int .i64 t.Kind), .v (.string ⟨⟨t.Text⟩⟩), .v (.int .i64 t.Num), .v (.int .i64 t.At), .v (.bool t.Fresh)]) (by kernel_rfl) (by kernel_rfl) (by kernel_rfl) fun F b1 w a hX => ?_
 refine hX.part [] 2 [1] (l' := [(1, .el b1 0 [.v (.int .i64 t.Kind), .v (.string ⟨⟨t.Text⟩⟩), .v (.int .i64 t.Num), .v (.int .i64 t.At), .v (.bool t.Fresh)])]) (B' := []) (by kernel_rfl) fun ρ w a hX => ?_
 refine wpList_end ?_
 refine hK1 _ _ ?_
 refine wp_seq_k fun K2 hK2 => ?_
 refine Cx.rseq hX [] [1, 10] (l' := [(1, .el b1 0 [.v (.int .i64 t.Kind), .v (.string ⟨⟨t.Text⟩⟩), .v (.int .i64 t.Num), .v (.int .i64 t.At), .v (.bool t.Fresh)]), (10, .v (.int .i64 t.Kind))]) (B' := []) (by kernel_rfl) fun ρ w a hX => ?_
 refine wp_block ?_
 refine Cx.rseq hX [] [1, 10, 11] (l' := [(1, .el b1 0 [.v (.int .i64 t.Kind), .v (.string ⟨⟨t.Text⟩⟩), .v (.int .i64 t.Num), .v (.int .i64 t.At), .v (.bool t.Fresh)]), (10, .v (.int .i64 t.Kind)), (11, .v (.bool (t.Kind == 1)))]) (B' := []) (by kernel_rfl) fun ρ w a hX => ?_
 refine Cx.cond hX (b := (t.Kind == 1)) (by kernel_rfl) (fun hb => ?_) (fun hb => ?_)
 ·have h0 := ite_tt h0 hb
  refine wp_seq_k fun K5 hK5 => ?_
  have J5 : ∀ (x4 : Bool), law06_written.j1 t x4 = some r → ∀ (ρ : Nat → Nat) (w : World) (F : Heap) (a : Act), Cx 86 w0 F0 No w F [] [] ρ [(2, .v (.string ⟨⟨t.Text⟩⟩)), (3, .v (.bool x4))] a → K5 a w := by
   intro x4 h0  ρ w F a hX
   unfold law06_written.j1 at h0
   refine hK5 _ _ ?_
   refine wp_ret ?_
   have hr := Option.some.inj (show some _ = some _ from h0)
   subst hr
   exact hX.ret0 (ss := [.v (.string ⟨⟨t.Text⟩⟩), .v (.bool x4)]) (by kernel_rfl) (by kernel_rfl) ⟨_, _, rfl, rfl, rfl⟩
  have hGd := hG.mono hX.st.le
  refine hX.draw rfl (n := 13) rfl #[false, false, false, false, false, false, false, false, false, false, false, false, false] (by kernel_rfl) fun w D' hDk back hX => ?_
  refine hX.dq 0 rfl (lit := []) (by kernel_rfl) (listed' := #[true, false, false, false, false, false, false, false, false, false, false, false, false]) (by kernel_rfl) (by kernel_rfl) (s := .el b1 (0 + 1) [.v (.string ⟨⟨t.Text⟩⟩), .v (.int .i64 t.Num), .v (.int .i64 t.At), .v (.bool t.Fresh)]) (by kernel_rfl) fun a hX => ?_
  refine hX.dq 1 rfl (lit := []) (by kernel_rfl) (listed' := #[true, true, false, false, false, false, false, false, false, false, false, false, false]) (by kernel_rfl) (by kernel_rfl) (s := .v (.string ⟨⟨t.Text⟩⟩)) (by kernel_rfl) fun a hX => ?_
  refine hX.dq 2 rfl (lit := []) (by kernel_rfl) (listed' := #[true, true, true, false, false, false, false, false, false, false, false, false, false]) (by kernel_rfl) (by kernel_rfl) (s := .el b1 (0 + 1) [.v (.string ⟨⟨t.Text⟩⟩), .v (.int .i64 t.Num), .v (.int .i64 t.At), .v (.bool t.Fresh)]) (by kernel_rfl) fun a hX => ?_
  refine hX.dq 3 rfl (lit := []) (by kernel_rfl) (listed' := #[true, true, true, true, false, false, false, false, false, false, false, false, false]) (by kernel_rfl) (by kernel_rfl) (s := .v (.string ⟨⟨t.Text⟩⟩)) (by kernel_rfl) fun a hX => ?_
  refine dseq (listed' := #[true, true, true, true, true, false, false, false, false, false, false, false, false]) 4 (by kernel_rfl) rfl (by kernel_rfl) ?_
  obtain ⟨v2, hv2, h0⟩ := bnd_some h0
  refine Cx.call0 hX (lit := []) (by kernel_rfl) rfl (by kernel_rfl) ⟨⟨_, Tryz.func10, by kernel_rfl, rfl⟩⟩ (ss := [.v (.string ⟨⟨t.Text⟩⟩)]) (by kernel_rfl) [.v (.string ⟨⟨t.Text⟩⟩)] rfl (fun hg => hg) (fun hv hle hg => ref06_IsIdent.ok t.Text v2 hv2 _ _ hv (hGd.mono hle) hg _) (fun s F w a hp hX => ?_)
  subst hp
  refine dnext hX.st.sub0 ?_
  refine hX.moveS 5 rfl (lit := []) (by kernel_rfl) (listed' := #[true, true, true, true, true, true, false, false, false, false, false, false, false]) (by kernel_rfl) (by kernel_rfl) hX.st.sub0 (.inl rfl) (s := .v (.bool v2)) (by kernel_rfl) fun a hX => ?_
  refine ite_go h0 (fun hb h0 => ?_) (fun hb h0 => ?_)
  ·have hX := hX.relit 18 hb (by kernel_rfl)
   refine dseq (listed' := #[true, true, true, true, true, true, true, false, false, false, false, false, false]) 6 (by kernel_rfl) rfl (by kernel_rfl) ?_
   refine hX.part [5] 1 [1, 10, 11, 13, 14, 15, 16, 17, 18, 19] (l' := [(1, .el b1 0 [.v (.int .i64 t.Kind), .v (.string ⟨⟨t.Text⟩⟩), .v (.int .i64 t.Num), .v (.int .i64 t.At), .v (.bool t.Fresh)]), (10, .v (.int .i64 t.Kind)), (11, .v (.bool (t.Kind == 1))), (13, .el b1 (0 + 1) [.v (.string ⟨⟨t.Text⟩⟩), .v (.int .i64 t.Num), .v (.int .i64 t.At), .v (.bool t.Fresh)]), (14, .v (.string ⟨⟨t.Text⟩⟩)), (15, .el b1 (0 + 1) [.v (.string ⟨⟨t.Text⟩⟩), .v (.int .i64 t.Num), .v (.int .i64 t.At), .v (.bool t.Fresh)]), (16, .v (.string ⟨⟨t.Text⟩⟩)), (17, .v (.bool v2)), (18, .v (.bool true)), (19, .el b1 (0 + 1) [.v (.string ⟨⟨t.Text⟩⟩), .v (.int .i64 t.Num), .v (.int .i64 t.At), .v (.bool t.Fresh)])]) (B' := []) (by kernel_rfl) fun ρ w a hX => ?_
   refine dnext hX.st.sub0 ?_
   refine dseq (listed' := #[true, true, true, true, true, true, true, true, false, false, false, false, false]) 7 (by kernel_rfl) rfl (by kernel_rfl) ?_
   refine hX.part [5] 1 [1, 10, 11, 13, 14, 15, 16, 17, 18, 19, 20] (l' := [(1, .el b1 0 [.v (.int .i64 t.Kind), .v (.string ⟨⟨t.Text⟩⟩), .v (.int .i64 t.Num), .v (.int .i64 t.At), .v (.bool t.Fresh)]), (10, .v (.int .i64 t.Kind)), (11, .v (.bool (t.Kind == 1))), (13, .el b1 (0 + 1) [.v (.string ⟨⟨t.Text⟩⟩), .v (.int .i64 t.Num), .v (.int .i64 t.At), .v (.bool t.Fresh)]), (14, .v (.string ⟨⟨t.Text⟩⟩)), (15, .el b1 (0 + 1) [.v (.string ⟨⟨t.Text⟩⟩), .v (.int .i64 t.Num), .v (.int .i64 t.At), .v (.bool t.Fresh)]), (16, .v (.string ⟨⟨t.Text⟩⟩)), (17, .v (.bool v2)), (18, .v (.bool true)), (19, .el b1 (0 + 1) [.v (.string ⟨⟨t.Text⟩⟩), .v (.int .i64 t.Num), .v (.int .i64 t.At), .v (.bool t.Fresh)]), (20, .v (.string ⟨⟨t.Text⟩⟩))]) (B' := []) (by kernel_rfl) fun ρ w a hX => ?_
   refine dnext hX.st.sub0 ?_
   refine dseq (listed' := #[true, true, true, true, true, true, true, true, true, false, false, false, false]) 8 (by kernel_rfl) rfl (by kernel_rfl) ?_
   obtain ⟨v3, hv3, h0⟩ := bnd_some h0
   refine Cx.call0 hX (lit := [5]) (by kernel_rfl) rfl (by kernel_rfl) ⟨⟨_, Tryz.func11, by kernel_rfl, rfl⟩⟩ (ss := [.v (.string ⟨⟨t.Text⟩⟩)]) (by kernel_rfl) [.v (.string ⟨⟨t.Text⟩⟩)] rfl (fun hg => hg) (fun hv hle hg => ref06_IsWord.ok t.Text v3 hv3 _ _ hv (hGd.mono hle) hg _) (fun s F w a hp hX => ?_)
   subst hp
   refine dnext hX.st.sub0 ?_
   refine hX.quietS 9 rfl (lit := [5]) (by kernel_rfl) (listed' := #[true, true, true, true, true, true, true, true, true, true, false, false, false]) (by kernel_rfl) (by kernel_rfl) hX.st.sub0 (s := .v (.bool (!v3))) (by kernel_rfl) fun a hX => ?_
   refine hX.quietS 10 rfl (lit := []) (by kernel_rfl) (listed' := #[true, true, true, true, true, true, true, true, true, true, true, false, false]) (by kernel_rfl) (by kernel_rfl) hX.st.sub0 (s := .v (.bool (!v3))) (by kernel_rfl) fun a hX => ?_
   refine hX.moveS 11 rfl (lit := []) (by kernel_rfl) (listed' := #[true, true, true, true, true, true, true, true, true, true, true, true, false]) (by kernel_rfl) (by kernel_rfl) hX.st.sub0 (.inr rfl) (s := .v (.string ⟨⟨t.Text⟩⟩)) (by kernel_rfl) fun a hX => ?_
   refine hX.moveS 12 rfl (lit := []) (by kernel_rfl) (listed' := #[true, true, true, true, true, true, true, true, true, true, true, true, true]) (by kernel_rfl) (by kernel_rfl) hX.st.sub0 (.inr rfl) (s := .v (.bool (!v3))) (by kernel_rfl) fun a hX => ?_
   have hX := back hX
   refine ddone (by kernel_rfl) ?_
   have hX := hX.keeps [2, 3] (l' := [(2, .v (.string ⟨⟨t.Text⟩⟩)), (3, .v (.bool (!v3)))]) (by kernel_rfl)
   exact J5 (!v3) h0  _ _ _ _ hX
  ·have hX := hX.relit 18 hb (by kernel_rfl)
   refine hX.skipS 6 rfl (lit := [5]) (by kernel_rfl) (listed' := #[true, true, true, true, true, true, true, false, false, false, false, false, false]) (by kernel_rfl) (by kernel_rfl) hX.st.sub0 fun a hX => ?_
   refine hX.skipS 7 rfl (lit := [5]) (by kernel_rfl) (listed' := #[true, true, true, true, true, true, true, true, false, false, false, false, false]) (by kernel_rfl) (by kernel_rfl) hX.st.sub0 fun a hX => ?_
   refine hX.skipS 8 rfl (lit := [5]) (by kernel_rfl) (listed' := #[true, true, true, true, true, true, true, true, true, false, false, false, false]) (by kernel_rfl) (by kernel_rfl) hX.st.sub0 fun a hX => ?_
   refine hX.skipS 9 rfl (lit := [5]) (by kernel_rfl) (listed' := #[true, true, true, true, true, true, true, true, true, true, false, false, false]) (by kernel_rfl) (by kernel_rfl) hX.st.sub0 fun a hX => ?_
   refine hX.quietS 10 rfl (lit := []) (by kernel_rfl) (listed' := #[true, true, true, true, true, true, true, true, true, true, true, false, false]) (by kernel_rfl) (by kernel_rfl) hX.st.sub0 (s := .v (.bool false)) (by kernel_rfl) fun a hX => ?_
   refine hX.moveS 11 rfl (lit := []) (by kernel_rfl) (listed' := #[true, true, true, true, true, true, true, true, true, true, true, true, false]) (by kernel_rfl) (by kernel_rfl) hX.st.sub0 (.inr rfl) (s := .v (.string ⟨⟨t.Text⟩⟩)) (by kernel_rfl) fun a hX => ?_
   refine hX.moveS 12 rfl (lit := []) (by kernel_rfl) (listed' := #[true, true, true, true, true, true, true, true, true, true, true, true, true]) (by kernel_rfl) (by kernel_rfl) hX.st.sub0 (.inr rfl) (s := .v (.bool false)) (by kernel_rfl) fun a hX => ?_
   have hX := back hX
   refine ddone (by kernel_rfl) ?_
   have hX := hX.keeps [2, 3] (l' := [(2, .v (.string ⟨⟨t.Text⟩⟩)), (3, .v (.bool false))]) (by kernel_rfl)
   exact J5 false h0  _ _ _ _ hX
 ·have h0 := ite_ff h0 hb
  refine Cx.rseq hX [] [1, 10, 24] (l' := [(1, .el b1 0 [.v (.int .i64 t.Kind), .v (.string ⟨⟨t.Text⟩⟩), .v (.int .i64 t.Num), .v (.int .i64 t.At), .v (.bool t.Fresh)]), (10, .v (.int .i64 t.Kind)), (24, .v (.bool (t.Kind == 2)))]) (B' := []) (by kernel_rfl) fun ρ w a hX => ?_
  refine Cx.cond hX (b := (t.Kind == 2)) (by kernel_rfl) (fun hb => ?_) (fun hb => ?_)
  ·have h0 := ite_tt h0 hb
   refine wp_seq_k fun K7 hK7 => ?_
   have hGd := hG.mono hX.st.le
   refine hX.draw rfl (n := 7) rfl #[false, false, false, false, false, false, false] (by kernel_rfl) fun w D' hDk back hX => ?_
   refine hX.dq 0 rfl (lit := []) (by kernel_rfl) (listed' := #[true, false, false, false, false, false, false]) (by kernel_rfl) (by kernel_rfl) (s := .el b1 (0 + 1) [.v (.string ⟨⟨t.Text⟩⟩), .v (.int .i64 t.Num), .v (.int .i64 t.At), .v (.bool t.Fresh)]) (by kernel_rfl) fun a hX => ?_
   refine hX.dq 1 rfl (lit := []) (by kernel_rfl) (listed' := #[true, true, false, false, false, false, false]) (by kernel_rfl) (by kernel_rfl) (s := .v (.string ⟨⟨t.Text⟩⟩)) (by kernel_rfl) fun a hX => ?_
   refine hX.dq 2 rfl (lit := []) (by kernel_rfl) (listed' := #[true, true, true, false, false, false, false]) (by kernel_rfl) (by kernel_rfl) (s := .el b1 (0 + 1) [.v (.string ⟨⟨t.Text⟩⟩), .v (.int .i64 t.Num), .v (.int .i64 t.At), .v (.bool t.Fresh)]) (by kernel_rfl) fun a hX => ?_
   refine hX.dq 3 rfl (lit := []) (by kernel_rfl) (listed' := #[true, true, true, true, false, false, false]) (by kernel_rfl) (by kernel_rfl) (s := .v (.string ⟨⟨t.Text⟩⟩)) (by kernel_rfl) fun a hX => ?_
   refine dseq (listed' := #[true, true, true, true, true, false, false]) 4 (by kernel_rfl) rfl (by kernel_rfl) ?_
   obtain ⟨v5, hv5, h0⟩ := bnd_some h0
   refine Cx.call0 hX (lit := []) (by kernel_rfl) rfl (by kernel_rfl) ⟨⟨_, Tryz.func11, by kernel_rfl, rfl⟩⟩ (ss := [.v (.string ⟨⟨t.Text⟩⟩)]) (by kernel_rfl) [.v (.string ⟨⟨t.Text⟩⟩)] rfl (fun hg => hg) (fun hv hle hg => ref06_IsWord.ok t.Text v5 hv5 _ _ hv (hGd.mono hle) hg _) (fun s F w a hp hX => ?_)
   subst hp
   refine dnext hX.st.sub0 ?_
   refine hX.moveS 5 rfl (lit := []) (by kernel_rfl) (listed' := #[true, true, true, true, true, true, false]) (by kernel_rfl) (by kernel_rfl) hX.st.sub0 (.inr rfl) (s := .v (.string ⟨⟨t.Text⟩⟩)) (by kernel_rfl) fun a hX => ?_
   refine hX.moveS 6 rfl (lit := []) (by kernel_rfl) (listed' := #[true, true, true, true, true, true, true]) (by kernel_rfl) (by kernel_rfl) hX.st.sub0 (.inr rfl) (s := .v (.bool v5)) (by kernel_rfl) fun a hX => ?_
   have hX := back hX
   refine ddone (by kernel_rfl) ?_
   refine hK7 _ _ ?_
   refine wp_ret ?_
   have hr := Option.some.inj (show some _ = some _ from h0)
   subst hr
   exact hX.ret0 (ss := [.v (.string ⟨⟨t.Text⟩⟩), .v (.bool v5)]) (by kernel_rfl) (by kernel_rfl) ⟨_, _, rfl, rfl, rfl⟩
  ·have h0 := ite_ff h0 hb
   refine Cx.rseq hX [] [1, 10, 31] (l' := [(1, .el b1 0 [.v (.int .i64 t.Kind), .v (.string ⟨⟨t.Text⟩⟩), .v (.int .i64 t.Num), .v (.int .i64 t.At), .v (.bool t.Fresh)]), (10, .v (.int .i64 t.Kind)), (31, .v (.bool (t.Kind == 3)))]) (B' := []) (by kernel_rfl) fun ρ w a hX => ?_
   refine Cx.cond hX (b := (t.Kind == 3)) (by kernel_rfl) (fun hb => ?_) (fun hb => ?_)
   ·have h0 := ite_tt h0 hb
    refine wp_seq_k fun K9 hK9 => ?_
    have J9 : ∀ (x7 : Str) (x8 : Bool), law06_written.j2 x7 x8 = some r → ∀ (ρ : Nat → Nat) (w : World) (F : Heap) (a : Act), Cx 86 w0 F0 No w F [] [] ρ [(2, .v (.string ⟨⟨x7⟩⟩)), (3, .v (.bool x8))] a → K9 a w := by
     intro x7 x8 h0  ρ w F a hX
     unfold law06_written.j2 at h0
     refine hK9 _ _ ?_
     refine wp_ret ?_
     have hr := Option.some.inj (show some _ = some _ from h0)
     subst hr
     exact hX.ret0 (ss := [.v (.string ⟨⟨x7⟩⟩), .v (.bool x8)]) (by kernel_rfl) (by kernel_rfl) ⟨_, _, rfl, rfl, rfl⟩
    have hGd := hG.mono hX.st.le
    refine hX.draw rfl (n := 14) rfl #[false, false, false, false, false, false, false, false, false, false, false, false, false, false] (by kernel_rfl) fun w D' hDk back hX => ?_
    refine hX.dq 0 rfl (lit := []) (by kernel_rfl) (listed' := #[true, false, false, false, false, false, false, false, false, false, false, false, false, false]) (by kernel_rfl) (by kernel_rfl) (s := .el b1 (0 + 2) [.v (.int .i64 t.Num), .v (.int .i64 t.At), .v (.bool t.Fresh)]) (by kernel_rfl) fun a hX => ?_
    refine hX.dq 1 rfl (lit := []) (by kernel_rfl) (listed' := #[true, true, false, false, false, false, false, false, false, false, false, false, false, false]) (by kernel_rfl) (by kernel_rfl) (s := .v (.int .i64 t.Num)) (by kernel_rfl) fun a hX => ?_
    refine hX.dq 2 rfl (lit := []) (by kernel_rfl) (listed' := #[true, true, true, false, false, false, false, false, false, false, false, false, false, false]) (by kernel_rfl) (by kernel_rfl) (s := .v (.int .i64 (if 0 > t.Num then 0 else t.Num))) (by kernel_rfl) fun a hX => ?_
    refine hX.dq 4 rfl (lit := []) (by kernel_rfl) (listed' := #[true, true, true, false, true, false, false, false, false, false, false, false, false, false]) (by kernel_rfl) (by kernel_rfl) (s := .el b1 (0 + 2) [.v (.int .i64 t.Num), .v (.int .i64 t.At), .v (.bool t.Fresh)]) (by kernel_rfl) fun a hX => ?_
    refine hX.dq 5 rfl (lit := []) (by kernel_rfl) (listed' := #[true, true, true, false, true, true, false, false, false, false, false, false, false, false]) (by kernel_rfl) (by kernel_rfl) (s := .v (.int .i64 t.Num)) (by kernel_rfl) fun a hX => ?_
    refine hX.dq 6 rfl (lit := []) (by kernel_rfl) (listed' := #[true, true, true, false, true, true, true, false, false, false, false, false, false, false]) (by kernel_rfl) (by kernel_rfl) (s := .v (.bool (decide (t.Num ≥ 0)))) (by kernel_rfl) fun a hX => ?_
    refine dseq (listed' := #[true, true, true, true, true, true, true, false, false, false, false, false, false, false]) 3 (by kernel_rfl) rfl (by kernel_rfl) ?_
    obtain ⟨v6, hv6, h0⟩ := bnd_some h0
    refine Cx.call0 hX (lit := []) (by kernel_rfl) rfl (by kernel_rfl) ⟨⟨_, Tryz.func12, by kernel_rfl, rfl⟩⟩ (ss := [.v (.int .i64 (if 0 > t.Num then 0 else t.Num))]) (by kernel_rfl) [.v (.int .i64 (if 0 > t.Num then 0 else t.Num))] rfl (fun hg => hg) (fun hv hle hg => ref03_Digits.ok (if 0 > t.Num then 0 else t.Num) v6 hv6 _ _ hv (hGd.mono hle) hg _) (fun s F w a hp hX => ?_)
    subst hp
    refine dnext hX.st.sub0 ?_
    refine hX.moveS 7 rfl (lit := []) (by kernel_rfl) (listed' := #[true, true, true, true, true, true, true, true, false, false, false, false, false, false]) (by kernel_rfl) (by kernel_rfl) hX.st.sub0 (.inl rfl) (s := .v (.bool (decide (t.Num ≥ 0)))) (by kernel_rfl) fun a hX => ?_
    refine ite_go h0 (fun hb h0 => ?_) (fun hb h0 => ?_)
    ·have hX := hX.relit 40 hb (by kernel_rfl)
     refine hX.moveS 12 rfl (lit := []) (by kernel_rfl) (listed' := #[true, true, true, true, true, true, true, true, false, false, false, false, true, false]) (by kernel_rfl) (by kernel_rfl) hX.st.sub0 (.inr rfl) (s := .v (.string ⟨⟨v6⟩⟩)) (by kernel_rfl) fun a hX => ?_
     refine dseq (listed' := #[true, true, true, true, true, true, true, true, true, false, false, false, true, false]) 8 (by kernel_rfl) rfl (by kernel_rfl) ?_
     refine hX.part [7] 1 [1, 2, 10, 31, 33, 34, 35, 36, 37, 38, 39, 40, 41] (l' := [(1, .el b1 0 [.v (.int .i64 t.Kind), .v (.string ⟨⟨t.Text⟩⟩), .v (.int .i64 t.Num), .v (.int .i64 t.At), .v (.bool t.Fresh)]), (2, .v (.string ⟨⟨v6⟩⟩)), (10, .v (.int .i64 t.Kind)), (31, .v (.bool (t.Kind == 3))), (33, .el b1 (0 + 2) [.v (.int .i64 t.Num), .v (.int .i64 t.At), .v (.bool t.Fresh)]), (34, .v (.int .i64 t.Num)), (35, .v (.int .i64 (if 0 > t.Num then 0 else t.Num))), (36, .v (.string ⟨⟨v6⟩⟩)), (37, .el b1 (0 + 2) [.v (.int .i64 t.Num), .v (.int .i64 t.At), .v (.bool t.Fresh)]), (38, .v (.int .i64 t.Num)), (39, .v (.bool (decide (t.Num ≥ 0)))), (40, .v (.bool true)), (41, .el b1 (0 + 2) [.v (.int .i64 t.Num), .v (.int .i64 t.At), .v (.bool t.Fresh)])]) (B' := []) (by kernel_rfl) fun ρ w a hX => ?_
     refine dnext hX.st.sub0 ?_
     refine dseq (listed' := #[true, true, true, true, true, true, true, true, true, true, false, false, true, false]) 9 (by kernel_rfl) rfl (by kernel_rfl) ?_
     refine hX.part [7] 1 [1, 2, 10, 31, 33, 34, 35, 36, 37, 38, 39, 40, 41, 42] (l' := [(1, .el b1 0 [.v (.int .i64 t.Kind), .v (.string ⟨⟨t.Text⟩⟩), .v (.int .i64 t.Num), .v (.int .i64 t.At), .v (.bool t.Fresh)]), (2, .v (.string ⟨⟨v6⟩⟩)), (10, .v (.int .i64 t.Kind)), (31, .v (.bool (t.Kind == 3))), (33, .el b1 (0 + 2) [.v (.int .i64 t.Num), .v (.int .i64 t.At), .v (.bool t.Fresh)]), (34, .v (.int .i64 t.Num)), (35, .v (.int .i64 (if 0 > t.Num then 0 else t.Num))), (36, .v (.string ⟨⟨v6⟩⟩)), (37, .el b1 (0 + 2) [.v (.int .i64 t.Num), .v (.int .i64 t.At), .v (.bool t.Fresh)]), (38, .v (.int .i64 t.Num)), (39, .v (.bool (decide (t.Num ≥ 0)))), (40, .v (.bool true)), (41, .el b1 (0 + 2) [.v (.int .i64 t.Num), .v (.int .i64 t.At), .v (.bool t.Fresh)]), (42, .v (.int .i64 t.Num))]) (B' := []) (by kernel_rfl) fun ρ w a hX => ?_
     refine dnext hX.st.sub0 ?_
     refine hX.quietS 10 rfl (lit := [7]) (by kernel_rfl) (listed' := #[true, true, true, true, true, true, true, true, true, true, true, false, true, false]) (by kernel_rfl) (by kernel_rfl) hX.st.sub0 (s := .v (.bool (decide (t.Num ≤ 9007199254740991)))) (by kernel_rfl) fun a hX => ?_
     refine hX.quietS 11 rfl (lit := []) (by kernel_rfl) (listed' := #[true, true, true, true, true, true, true, true, true, true, true, true, true, false]) (by kernel_rfl) (by kernel_rfl) hX.st.sub0 (s := .v (.bool (decide (t.Num ≤ 9007199254740991)))) (by kernel_rfl) fun a hX => ?_
     refine hX.moveS 13 rfl (lit := []) (by kernel_rfl) (listed' := #[true, true, true, true, true, true, true, true, true, true, true, true, true, true]) (by kernel_rfl) (by kernel_rfl) hX.st.sub0 (.inr rfl) (s := .v (.bool (decide (t.Num ≤ 9007199254740991)))) (by kernel_rfl) fun a hX => ?_
     have hX := back hX
     refine ddone (by kernel_rfl) ?_
     have hX := hX.keeps [2, 3] (l' := [(2, .v (.string ⟨⟨v6⟩⟩)), (3, .v (.bool (decide (t.Num ≤ 9007199254740991))))]) (by kernel_rfl)
     exact J9 v6 (decide (t.Num ≤ 9007199254740991)) h0  _ _ _ _ hX
    ·have hX := hX.relit 40 hb (by kernel_rfl)
     refine hX.skipS 8 rfl (lit := [7]) (by kernel_rfl) (listed' := #[true, true, true, true, true, true, true, true, true, false, false, false, false, false]) (by kernel_rfl) (by kernel_rfl) hX.st.sub0 fun a hX => ?_
     refine hX.skipS 9 rfl (lit := [7]) (by kernel_rfl) (listed' := #[true, true, true, true, true, true, true, true, true, true, false, false, false, false]) (by kernel_rfl) (by kernel_rfl) hX.st.sub0 fun a hX => ?_
     refine hX.skipS 10 rfl (lit := [7]) (by kernel_rfl) (listed' := #[true, true, true, true, true, true, true, true, true, true, true, false, false, false]) (by kernel_rfl) (by kernel_rfl) hX.st.sub0 fun a hX => ?_
     refine hX.quietS 11 rfl (lit := []) (by kernel_rfl) (listed' := #[true, true, true, true, true, true, true, true, true, true, true, true, false, false]) (by kernel_rfl) (by kernel_rfl) hX.st.sub0 (s := .v (.bool false)) (by kernel_rfl) fun a hX => ?_
     refine hX.moveS 12 rfl (lit := []) (by kernel_rfl) (listed' := #[true, true, true, true, true, true, true, true, true, true, true, true, true, false]) (by kernel_rfl) (by kernel_rfl) hX.st.sub0 (.inr rfl) (s := .v (.string ⟨⟨v6⟩⟩)) (by kernel_rfl) fun a hX => ?_
     refine hX.moveS 13 rfl (lit := []) (by kernel_rfl) (listed' := #[true, true, true, true, true, true, true, true, true, true, true, true, true, true]) (by kernel_rfl) (by kernel_rfl) hX.st.sub0 (.inr rfl) (s := .v (.bool false)) (by kernel_rfl) fun a hX => ?_
     have hX := back hX
     refine ddone (by kernel_rfl) ?_
     have hX := hX.keeps [2, 3] (l' := [(2, .v (.string ⟨⟨v6⟩⟩)), (3, .v (.bool false))]) (by kernel_rfl)
     exact J9 v6 false h0  _ _ _ _ hX
   ·have h0 := ite_ff h0 hb
    refine Cx.rseq hX [] [1, 10, 45] (l' := [(1, .el b1 0 [.v (.int .i64 t.Kind), .v (.string ⟨⟨t.Text⟩⟩), .v (.int .i64 t.Num), .v (.int .i64 t.At), .v (.bool t.Fresh)]), (10, .v (.int .i64 t.Kind)), (45, .v (.bool (t.Kind == 4)))]) (B' := []) (by kernel_rfl) fun ρ w a hX => ?_
    refine Cx.cond hX (b := (t.Kind == 4)) (by kernel_rfl) (fun hb => ?_) (fun hb => ?_)
    ·have h0 := ite_tt h0 hb
     refine wp_seq_k fun K11 hK11 => ?_
     refine wp_region_list ?_
     refine hX.part [] 2 [49] (l' := [(49, .v (.string ⟨⟨t.Text⟩⟩))]) (B' := []) (by kernel_rfl) fun ρ w a hX => ?_
     obtain ⟨v9, hv9, h0⟩ := bnd_some h0
     refine Cx.call0 hX (lit := []) (by kernel_rfl) rfl (by kernel_rfl) ⟨⟨_, Tryz.func13, by kernel_rfl, rfl⟩⟩ (ss := [.v (.string ⟨⟨t.Text⟩⟩)]) (by kernel_rfl) [.v (.string ⟨⟨t.Text⟩⟩)] rfl (fun hg => hg) (fun hv hle hg => ref01_Quote.ok t.Text v9 hv9 _ _ hv (hG.mono hle) hg _) (fun s F w a hp hX => ?_)
     obtain ⟨_, _, rfl, rfl, rfl⟩ := hp
     refine hX.part [] 5 [4, 5] (l' := [(4, .v (.string ⟨⟨v9.1⟩⟩)), (5, .v (.int .i64 v9.2))]) (B' := []) (by kernel_rfl) fun ρ w a hX => ?_
     refine wpList_end ?_
     refine hK11 _ _ ?_
     refine Cx.rseq hX [] [2, 3] (l' := [(2, .v (.string ⟨⟨v9.1⟩⟩)), (3, .v (.bool (v9.2 == 0)))]) (B' := []) (by kernel_rfl) fun ρ w a hX => ?_
     refine wp_ret ?_
     have hr := Option.some.inj (show some _ = some _ from h0)
     subst hr
     exact hX.ret0 (ss := [.v (.string ⟨⟨v9.1⟩⟩), .v (.bool (v9.2 == 0))]) (by kernel_rfl) (by kernel_rfl) ⟨_, _, rfl, rfl, rfl⟩
    ·have h0 := ite_ff h0 hb
     refine Cx.rseq hX [] [1, 56] (l' := [(1, .el b1 0 [.v (.int .i64 t.Kind), .v (.string ⟨⟨t.Text⟩⟩), .v (.int .i64 t.Num), .v (.int .i64 t.At), .v (.bool t.Fresh)]), (56, .v (.bool (t.Kind == 5)))]) (B' := []) (by kernel_rfl) fun ρ w a hX => ?_
     refine Cx.cond hX (b := (t.Kind == 5)) (by kernel_rfl) (fun hb => ?_) (fun hb => ?_)
     ·have h0 := ite_tt h0 hb
      refine wp_seq_k fun K14 hK14 => ?_
      refine wp_region_list ?_
      refine hX.part [] 2 [1, 60] (l' := [(1, .el b1 0 [.v (.int .i64 t.Kind), .v (.string ⟨⟨t.Text⟩⟩), .v (.int .i64 t.Num), .v (.int .i64 t.At), .v (.bool t.Fresh)]), (60, .v (.string ⟨⟨t.Text⟩⟩))]) (B' := []) (by kernel_rfl) fun ρ w a hX => ?_
      obtain ⟨v10, hv10, h0⟩ := bnd_some h0
      refine Cx.call0 hX (lit := []) (by kernel_rfl) rfl (by kernel_rfl) ⟨⟨_, Tryz.func14, by kernel_rfl, rfl⟩⟩ (ss := [.v (.string ⟨⟨t.Text⟩⟩)]) (by kernel_rfl) [.v (.string ⟨⟨t.Text⟩⟩)] rfl (fun hg => hg) (fun hv hle hg => ref06_Cut.ok t.Text v10 hv10 _ _ hv (hG.mono hle) hg _) (fun s F w a hp hX => ?_)
      obtain ⟨_, _, _, rfl, ⟨A11, c12, rfl⟩, rfl, rfl⟩ := hp
      refine hX.part [] 7 [1, 6] (l' := [(1, .el b1 0 [.v (.int .i64 t.Kind), .v (.string ⟨⟨t.Text⟩⟩), .v (.int .i64 t.Num), .v (.int .i64 t.At), .v (.bool t.Fresh)]), (6, SV.sl kT_api_Token v10.1 A11 c12)]) (B' := []) (by kernel_rfl) fun ρ w a hX => ?_
      refine wpList_end ?_
      refine hK14 _ _ ?_
      refine wp_seq_k fun K15 hK15 => ?_
      have J15 : ∀ (x21 : Bool), law06_written.j3 t x21 = some r → ∀ (ρ : Nat → Nat) (w : World) (F : Heap) (a : Act), Cx 86 w0 F0 No w F [] [] ρ [(2, .v (.string ⟨⟨t.Text⟩⟩)), (3, .v (.bool x21))] a → K15 a w := by
       intro x21 h0  ρ w F a hX
       unfold law06_written.j3 at h0
       refine hK15 _ _ ?_
       refine wp_ret ?_
       have hr := Option.some.inj (show some _ = some _ from h0)
       subst hr
       exact hX.ret0 (ss := [.v (.string ⟨⟨t.Text⟩⟩), .v (.bool x21)]) (by kernel_rfl) (by kernel_rfl) ⟨_, _, rfl, rfl, rfl⟩
      have hGd := hG.mono hX.st.le
      refine hX.draw rfl (n := 23) rfl #[false, false, false, false, false, false, false, false, false, false, false, false, false, false, false, false, false, false, false, false, false, false, false] (by kernel_rfl) fun w D' hDk back hX => ?_
      refine hX.dq 0 rfl (lit := []) (by kernel_rfl) (listed' := #[true, false, false, false, false, false, false, false, false, false, false, false, false, false, false, false, false, false, false, false, false, false, false]) (by kernel_rfl) (by kernel_rfl) (s := .el b1 (0 + 1) [.v (.string ⟨⟨t.Text⟩⟩), .v (.int .i64 t.Num), .v (.int .i64 t.At), .v (.bool t.Fresh)]) (by kernel_rfl) fun a hX => ?_
      refine hX.dq 1 rfl (lit := []) (by kernel_rfl) (listed' := #[true, true, false, false, false, false, false, false, false, false, false, false, false, false, false, false, false, false, false, false, false, false, false]) (by kernel_rfl) (by kernel_rfl) (s := .v (.string ⟨⟨t.Text⟩⟩)) (by kernel_rfl) fun a hX => ?_
      refine hX.dq 2 rfl (lit := []) (by kernel_rfl) (listed' := #[true, true, true, false, false, false, false, false, false, false, false, false, false, false, false, false, false, false, false, false, false, false, false]) (by kernel_rfl) (by kernel_rfl) (s := SV.sl kT_api_Token v10.1 A11 c12) (by kernel_rfl) fun a hX => ?_
      refine hX.dq 3 rfl (lit := []) (by kernel_rfl) (listed' := #[true, true, true, true, false, false, false, false, false, false, false, false, false, false, false, false, false, false, false, false, false, false, false]) (by kernel_rfl) (by kernel_rfl) (s := .v (.int .i64 ((v10.1.length : Nat) : Int))) (by kernel_rfl) fun a hX => ?_
      refine hX.dq 4 rfl (lit := []) (by kernel_rfl) (listed' := #[true, true, true, true, true, false, false, false, false, false, false, false, false, false, false, false, false, false, false, false, false, false, false]) (by kernel_rfl) (by kernel_rfl) (s := .v (.bool (((v10.1.length : Nat) : Int) == 2))) (by kernel_rfl) fun a hX => ?_
      refine hX.dq 5 rfl (lit := []) (by kernel_rfl) (listed' := #[true, true, true, true, true, true, false, false, false, false, false, false, false, false, false, false, false, false, false, false, false, false, false]) (by kernel_rfl) (by kernel_rfl) (s := .v (.bool (((v10.1.length : Nat) : Int) == 2))) (by kernel_rfl) fun a hX => ?_
      refine ite_go h0 (fun hb h0 => ?_) (fun hb h0 => ?_)
      ·have hX := hX.relit 70 hb (by kernel_rfl)
       refine hX.dq 6 rfl (lit := [5]) (by kernel_rfl) (listed' := #[true, true, true, true, true, true, true, false, false, false, false, false, false, false, false, false, false, false, false, false, false, false, false]) (by kernel_rfl) (by kernel_rfl) (s := SV.sl kT_api_Token v10.1 A11 c12) (by kernel_rfl) fun a hX => ?_
       obtain ⟨v13, hv13, h0⟩ := bnd_some h0
       refine hX.dIdxSl 7 rfl (lit := [5]) (by kernel_rfl) (listed' := #[true, true, true, true, true, true, true, true, false, false, false, false, false, false, false, false, false, false, false, false, false, false, false]) (by kernel_rfl) (by kernel_rfl) rfl (d := kT_api_Token) (e := 25) (xs := v10.1) (A := A11) (c := c12) (k := .i64) (m := 0) (v := v13) (by kernel_rfl) (by kernel_rfl) (by kernel_rfl) (by kernel_rfl) hv13 fun y14 b15 o16 a hX => ?_
       refine hX.dq 8 rfl (lit := [5]) (by kernel_rfl) (listed' := #[true, true, true, true, true, true, true, true, true, false, false, false, false, false, false, false, false, false, false, false, false, false, false]) (by kernel_rfl) (by kernel_rfl) (s := .el b15 (o16 + 0) [.v (.int .i64 v13.Kind), .v (.string ⟨⟨v13.Text⟩⟩), .v (.int .i64 v13.Num), .v (.int .i64 v13.At), .v (.bool v13.Fresh)]) (by kernel_rfl) fun a hX => ?_
       refine hX.dq 9 rfl (lit := [5]) (by kernel_rfl) (listed' := #[true, true, true, true, true, true, true, true, true, true, false, false, false, false, false, false, false, false, false, false, false, false, false]) (by kernel_rfl) (by kernel_rfl) (s := .v (.int .i64 v13.Kind)) (by kernel_rfl) fun a hX => ?_
       refine hX.dq 10 rfl (lit := [5]) (by kernel_rfl) (listed' := #[true, true, true, true, true, true, true, true, true, true, true, false, false, false, false, false, false, false, false, false, false, false, false]) (by kernel_rfl) (by kernel_rfl) (s := .v (.bool (v13.Kind == 5))) (by kernel_rfl) fun a hX => ?_
       refine hX.dq 11 rfl (lit := []) (by kernel_rfl) (listed' := #[true, true, true, true, true, true, true, true, true, true, true, true, false, false, false, false, false, false, false, false, false, false, false]) (by kernel_rfl) (by kernel_rfl) (s := .v (.bool (v13.Kind == 5))) (by kernel_rfl) fun a hX => ?_
       refine hX.dq 12 rfl (lit := []) (by kernel_rfl) (listed' := #[true, true, true, true, true, true, true, true, true, true, true, true, true, false, false, false, false, false, false, false, false, false, false]) (by kernel_rfl) (by kernel_rfl) (s := .v (.bool (v13.Kind == 5))) (by kernel_rfl) fun a hX => ?_
       refine ite_go h0 (fun hb h0 => ?_) (fun hb h0 => ?_)
       ·have hX := hX.relit 77 hb (by kernel_rfl)
        refine hX.dq 13 rfl (lit := [12]) (by kernel_rfl) (listed' := #[true, true, true, true, true, true, true, true, true, true, true, true, true, true, false, false, false, false, false, false, false, false, false]) (by kernel_rfl) (by kernel_rfl) (s := SV.sl kT_api_Token v10.1 A11 c12) (by kernel_rfl) fun a hX => ?_
        obtain ⟨v17, hv17, h0⟩ := bnd_some h0
        refine hX.dIdxSl 14 rfl (lit := [12]) (by kernel_rfl) (listed' := #[true, true, true, true, true, true, true, true, true, true, true, true, true, true, true, false, false, false, false, false, false, false, false]) (by kernel_rfl) (by kernel_rfl) rfl (d := kT_api_Token) (e := 25) (xs := v10.1) (A := A11) (c := c12) (k := .i64) (m := 0) (v := v17) (by kernel_rfl) (by kernel_rfl) (by kernel_rfl) (by kernel_rfl) hv17 fun y18 b19 o20 a hX => ?_
        refine hX.dq 15 rfl (lit := [12]) (by kernel_rfl) (listed' := #[true, true, true, true, true, true, true, true, true, true, true, true, true, true, true, true, false, false, false, false, false, false, false]) (by kernel_rfl) (by kernel_rfl) (s := .el b19 (o20 + 1) [.v (.string ⟨⟨v17.Text⟩⟩), .v (.int .i64 v17.Num), .v (.int .i64 v17.At), .v (.bool v17.Fresh)]) (by kernel_rfl) fun a hX => ?_
        refine hX.dq 16 rfl (lit := [12]) (by kernel_rfl) (listed' := #[true, true, true, true, true, true, true, true, true, true, true, true, true, true, true, true, true, false, false, false, false, false, false]) (by kernel_rfl) (by kernel_rfl) (s := .v (.string ⟨⟨v17.Text⟩⟩)) (by kernel_rfl) fun a hX => ?_
        refine hX.dq 17 rfl (lit := [12]) (by kernel_rfl) (listed' := #[true, true, true, true, true, true, true, true, true, true, true, true, true, true, true, true, true, true, false, false, false, false, false]) (by kernel_rfl) (by kernel_rfl) (s := .el b1 (0 + 1) [.v (.string ⟨⟨t.Text⟩⟩), .v (.int .i64 t.Num), .v (.int .i64 t.At), .v (.bool t.Fresh)]) (by kernel_rfl) fun a hX => ?_
        refine hX.dq 18 rfl (lit := [12]) (by kernel_rfl) (listed' := #[true, true, true, true, true, true, true, true, true, true, true, true, true, true, true, true, true, true, true, false, false, false, false]) (by kernel_rfl) (by kernel_rfl) (s := .v (.string ⟨⟨t.Text⟩⟩)) (by kernel_rfl) fun a hX => ?_
        refine hX.dq 19 rfl (lit := [12]) (by kernel_rfl) (listed' := #[true, true, true, true, true, true, true, true, true, true, true, true, true, true, true, true, true, true, true, true, false, false, false]) (by kernel_rfl) (by kernel_rfl) (s := .v (.bool (v17.Text == t.Text))) (by kernel_rfl) fun a hX => ?_
        refine hX.dq 20 rfl (lit := []) (by kernel_rfl) (listed' := #[true, true, true, true, true, true, true, true, true, true, true, true, true, true, true, true, true, true, true, true, true, false, false]) (by kernel_rfl) (by kernel_rfl) (s := .v (.bool (v17.Text == t.Text))) (by kernel_rfl) fun a hX => ?_
        refine hX.dq 21 rfl (lit := []) (by kernel_rfl) (listed' := #[true, true, true, true, true, true, true, true, true, true, true, true, true, true, true, true, true, true, true, true, true, true, false]) (by kernel_rfl) (by kernel_rfl) (s := .v (.string ⟨⟨t.Text⟩⟩)) (by kernel_rfl) fun a hX => ?_
        refine hX.dq 22 rfl (lit := []) (by kernel_rfl) (listed' := #[true, true, true, true, true, true, true, true, true, true, true, true, true, true, true, true, true, true, true, true, true, true, true]) (by kernel_rfl) (by kernel_rfl) (s := .v (.bool (v17.Text == t.Text))) (by kernel_rfl) fun a hX => ?_
        have hX := back hX
        refine ddone (by kernel_rfl) ?_
        have hX := hX.keeps [2, 3] (l' := [(2, .v (.string ⟨⟨t.Text⟩⟩)), (3, .v (.bool (v17.Text == t.Text)))]) (by kernel_rfl)
        exact J15 (v17.Text == t.Text) h0  _ _ _ _ hX
       ·have hX := hX.relit 77 hb (by kernel_rfl)
        refine hX.dskip 13 rfl (lit := [12]) (by kernel_rfl) (listed' := #[true, true, true, true, true, true, true, true, true, true, true, true, true, true, false, false, false, false, false, false, false, false, false]) (by kernel_rfl) (by kernel_rfl) fun a hX => ?_
        refine hX.dskip 14 rfl (lit := [12]) (by kernel_rfl) (listed' := #[true, true, true, true, true, true, true, true, true, true, true, true, true, true, true, false, false, false, false, false, false, false, false]) (by kernel_rfl) (by kernel_rfl) fun a hX => ?_
        refine hX.dskip 15 rfl (lit := [12]) (by kernel_rfl) (listed' := #[true, true, true, true, true, true, true, true, true, true, true, true, true, true, true, true, false, false, false, false, false, false, false]) (by kernel_rfl) (by kernel_rfl) fun a hX => ?_
        refine hX.dskip 16 rfl (lit := [12]) (by kernel_rfl) (listed' := #[true, true, true, true, true, true, true, true, true, true, true, true, true, true, true, true, true, false, false, false, false, false, false]) (by kernel_rfl) (by kernel_rfl) fun a hX => ?_
        refine hX.dskip 17 rfl (lit := [12]) (by kernel_rfl) (listed' := #[true, true, true, true, true, true, true, true, true, true, true, true, true, true, true, true, true, true, false, false, false, false, false]) (by kernel_rfl) (by kernel_rfl) fun a hX => ?_
        refine hX.dskip 18 rfl (lit := [12]) (by kernel_rfl) (listed' := #[true, true, true, true, true, true, true, true, true, true, true, true, true, true, true, true, true, true, true, false, false, false, false]) (by kernel_rfl) (by kernel_rfl) fun a hX => ?_
        refine hX.dskip 19 rfl (lit := [12]) (by kernel_rfl) (listed' := #[true, true, true, true, true, true, true, true, true, true, true, true, true, true, true, true, true, true, true, true, false, false, false]) (by kernel_rfl) (by kernel_rfl) fun a hX => ?_
        refine hX.dq 20 rfl (lit := []) (by kernel_rfl) (listed' := #[true, true, true, true, true, true, true, true, true, true, true, true, true, true, true, true, true, true, true, true, true, false, false]) (by kernel_rfl) (by kernel_rfl) (s := .v (.bool false)) (by kernel_rfl) fun a hX => ?_
        refine hX.dq 21 rfl (lit := []) (by kernel_rfl) (listed' := #[true, true, true, true, true, true, true, true, true, true, true, true, true, true, true, true, true, true, true, true, true, true, false]) (by kernel_rfl) (by kernel_rfl) (s := .v (.string ⟨⟨t.Text⟩⟩)) (by kernel_rfl) fun a hX => ?_
        refine hX.dq 22 rfl (lit := []) (by kernel_rfl) (listed' := #[true, true, true, true, true, true, true, true, true, true, true, true, true, true, true, true, true, true, true, true, true, true, true]) (by kernel_rfl) (by kernel_rfl) (s := .v (.bool false)) (by kernel_rfl) fun a hX => ?_
        have hX := back hX
        refine ddone (by kernel_rfl) ?_
        have hX := hX.keeps [2, 3] (l' := [(2, .v (.string ⟨⟨t.Text⟩⟩)), (3, .v (.bool false))]) (by kernel_rfl)
        exact J15 false h0  _ _ _ _ hX
      ·have hX := hX.relit 70 hb (by kernel_rfl)
       refine hX.dskip 6 rfl (lit := [5]) (by kernel_rfl) (listed' := #[true, true, true, true, true, true, true, false, false, false, false, false, false, false, false, false, false, false, false, false, false, false, false]) (by kernel_rfl) (by kernel_rfl) fun a hX => ?_
       refine hX.dskip 7 rfl (lit := [5]) (by kernel_rfl) (listed' := #[true, true, true, true, true, true, true, true, false, false, false, false, false, false, false, false, false, false, false, false, false, false, false]) (by kernel_rfl) (by kernel_rfl) fun a hX => ?_
       refine hX.dskip 8 rfl (lit := [5]) (by kernel_rfl) (listed' := #[true, true, true, true, true, true, true, true, true, false, false, false, false, false, false, false, false, false, false, false, false, false, false]) (by kernel_rfl) (by kernel_rfl) fun a hX => ?_
       refine hX.dskip 9 rfl (lit := [5]) (by kernel_rfl) (listed' := #[true, true, true, true, true, true, true, true, true, true, false, false, false, false, false, false, false, false, false, false, false, false, false]) (by kernel_rfl) (by kernel_rfl) fun a hX => ?_
       refine hX.dskip 10 rfl (lit := [5]) (by kernel_rfl) (listed' := #[true, true, true, true, true, true, true, true, true, true, true, false, false, false, false, false, false, false, false, false, false, false, false]) (by kernel_rfl) (by kernel_rfl) fun a hX => ?_
       refine hX.dq 11 rfl (lit := []) (by kernel_rfl) (listed' := #[true, true, true, true, true, true, true, true, true, true, true, true, false, false, false, false, false, false, false, false, false, false, false]) (by kernel_rfl) (by kernel_rfl) (s := .v (.bool false)) (by kernel_rfl) fun a hX => ?_
       refine hX.dq 12 rfl (lit := []) (by kernel_rfl) (listed' := #[true, true, true, true, true, true, true, true, true, true, true, true, true, false, false, false, false, false, false, false, false, false, false]) (by kernel_rfl) (by kernel_rfl) (s := .v (.bool false)) (by kernel_rfl) fun a hX => ?_
       refine hX.dskip 13 rfl (lit := [12]) (by kernel_rfl) (listed' := #[true, true, true, true, true, true, true, true, true, true, true, true, true, true, false, false, false, false, false, false, false, false, false]) (by kernel_rfl) (by kernel_rfl) fun a hX => ?_
       refine hX.dskip 14 rfl (lit := [12]) (by kernel_rfl) (listed' := #[true, true, true, true, true, true, true, true, true, true, true, true, true, true, true, false, false, false, false, false, false, false, false]) (by kernel_rfl) (by kernel_rfl) fun a hX => ?_
       refine hX.dskip 15 rfl (lit := [12]) (by kernel_rfl) (listed' := #[true, true, true, true, true, true, true, true, true, true, true, true, true, true, true, true, false, false, false, false, false, false, false]) (by kernel_rfl) (by kernel_rfl) fun a hX => ?_
       refine hX.dskip 16 rfl (lit := [12]) (by kernel_rfl) (listed' := #[true, true, true, true, true, true, true, true, true, true, true, true, true, true, true, true, true, false, false, false, false, false, false]) (by kernel_rfl) (by kernel_rfl) fun a hX => ?_
       refine hX.dskip 17 rfl (lit := [12]) (by kernel_rfl) (listed' := #[true, true, true, true, true, true, true, true, true, true, true, true, true, true, true, true, true, true, false, false, false, false, false]) (by kernel_rfl) (by kernel_rfl) fun a hX => ?_
       refine hX.dskip 18 rfl (lit := [12]) (by kernel_rfl) (listed' := #[true, true, true, true, true, true, true, true, true, true, true, true, true, true, true, true, true, true, true, false, false, false, false]) (by kernel_rfl) (by kernel_rfl) fun a hX => ?_
       refine hX.dskip 19 rfl (lit := [12]) (by kernel_rfl) (listed' := #[true, true, true, true, true, true, true, true, true, true, true, true, true, true, true, true, true, true, true, true, false, false, false]) (by kernel_rfl) (by kernel_rfl) fun a hX => ?_
       refine hX.dq 20 rfl (lit := []) (by kernel_rfl) (listed' := #[true, true, true, true, true, true, true, true, true, true, true, true, true, true, true, true, true, true, true, true, true, false, false]) (by kernel_rfl) (by kernel_rfl) (s := .v (.bool false)) (by kernel_rfl) fun a hX => ?_
       refine hX.dq 21 rfl (lit := []) (by kernel_rfl) (listed' := #[true, true, true, true, true, true, true, true, true, true, true, true, true, true, true, true, true, true, true, true, true, true, false]) (by kernel_rfl) (by kernel_rfl) (s := .v (.string ⟨⟨t.Text⟩⟩)) (by kernel_rfl) fun a hX => ?_
       refine hX.dq 22 rfl (lit := []) (by kernel_rfl) (listed' := #[true, true, true, true, true, true, true, true, true, true, true, true, true, true, true, true, true, true, true, true, true, true, true]) (by kernel_rfl) (by kernel_rfl) (s := .v (.bool false)) (by kernel_rfl) fun a hX => ?_
       have hX := back hX
       refine ddone (by kernel_rfl) ?_
       have hX := hX.keeps [2, 3] (l' := [(2, .v (.string ⟨⟨t.Text⟩⟩)), (3, .v (.bool false))]) (by kernel_rfl)
       exact J15 false h0  _ _ _ _ hX
     ·have h0 := ite_ff h0 hb
      refine wp_skip ?_
      refine hK2 _ _ ?_
      refine Cx.rseq hX [] [2, 3] (l' := [(2, .v (.string ⟨⟨([] : Str)⟩⟩)), (3, .v (.bool false))]) (B' := []) (by kernel_rfl) fun ρ w a hX => ?_
      refine wp_ret ?_
      have hr := Option.some.inj (show some _ = some _ from h0)
      subst hr
      exact hX.ret0 (ss := [.v (.string ⟨⟨([] : Str)⟩⟩), .v (.bool false)]) (by kernel_rfl) (by kernel_rfl) ⟨_, _, rfl, rfl, rfl⟩
def law06_TokenBack.j2 (x14 : Str) (x15 : Int) (x16 : List T_api_Token) (v19 : T_api_Token) (v23 : Str × Bool) (x24 : Str) (x25 : Int) : Option ((Str × Int × (List T_api_Token)) ⊕ ((Str × (List T_api_Token)) ⊕ (Bool))) :=
  Option.bind (room (x16.length + 1)) fun u28 =>
  Option.bind (catS v23.1 ([32] : Str)) fun v29 =>
  Option.bind (catS x14 v29) fun v30 =>
  some (.inl (v30, (IntKind.wrap .i64 (x15 + 1)), (x16 ++ [({ Kind := v19.Kind, Text := x24, Num := x25, At := ((x14.length : Nat) : Int), Fresh := false } : T_api_Token)])))
def law06_TokenBack.l1 (l_ : List T_api_Token) (v1 : Bool) (s : Str × Int × (List T_api_Token)) : Option ((Str × Int × (List T_api_Token)) ⊕ ((Str × (List T_api_Token)) ⊕ (Bool))) := match s with
  | (x14, x15, x16) =>
  if (decide (x15 < ((l_.length : Nat) : Int))) = true then
    Option.bind (getI l_ x15) fun v19 =>
    Option.bind (law06_written v19) fun v23 =>
    if ((!v23.2) || (decide (((x14.length : Nat) : Int) > 4096))) = true then
      some (.inr (.inr v1))
    else
      if (v19.Kind != 3) = true then
        law06_TokenBack.j2 x14 x15 x16 v19 v23 v19.Text 0
      else
        law06_TokenBack.j2 x14 x15 x16 v19 v23 ([] : Str) v19.Num
  else
    some (.inr (.inl (x14, x16)))
def law06_TokenBack.j3 (x48 : Bool) : Option (Bool) :=
  some x48
def law06_TokenBack (l_ : List T_api_Token) : Option (Bool) :=
  Option.bind (law06_live) fun v1 =>
  Option.bind (loopM (law06_TokenBack.l1 l_ v1) (([] : Str), 0, ([] : List T_api_Token))) fun e => match e with
  | (.inl (x36, x37)) =>
    if (decide (((x36.length : Nat) : Int) > 4096)) = true then
      some v1
    else
      Option.bind (token_Cut x36) fun v41 =>
      if (v1 && (v41.2.2 == 0)) = true then
        Option.bind (room (x37.length + 1)) fun u46 =>
        Option.bind (ref06_Same v41.1 (x37 ++ [({ Kind := 0, Text := ([] : Str), Num := 0, At := ((x36.length : Nat) : Int), Fresh := false } : T_api_Token)])) fun v47 =>
        law06_TokenBack.j3 v47
      else
        law06_TokenBack.j3 false
  | (.inr r40) =>
    some r40
theorem law06_TokenBack.ok (l_ : List T_api_Token) (y_l_ : (Option Addr × Nat)) (r : Bool) (h0 : law06_TokenBack l_ = some r) (w0 : World) (F0 : Heap) (hv : F0.Sub w0) (hG : Glob F0) (hg : SV.goods F0 [SV.sl kT_api_Token l_ y_l_.1 y_l_.2]) (ρ : Nat → Nat) :
    Calls Tryz.prog 3 (SV.dens ρ [SV.sl kT_api_Token l_ y_l_.1 y_l_.2]).toArray w0 (Ret0 w0 F0 fun s => s = .v (.bool r)) := by
 refine calls_of_wp Tryz.func3 rfl ?_
 have hX := Cx.enter (D := No) (B := []) (L := []) (ρ := ρ) (N := 76) Tryz.ntmps3 [SV.sl kT_api_Token l_ y_l_.1 y_l_.2] (St.start hv) rfl hg (by kernel_rfl) (fun _ h => by cases h) (Nat.le_of_ble_eq_true rfl) No.unfix
 unfold law06_TokenBack at h0
 refine Cx.rseq hX [] [0] (l' := [(0, SV.sl kT_api_Token l_ y_l_.1 y_l_.2)]) (B' := []) (by kernel_rfl) fun ρ w a hX => ?_
 refine wp_seq_k fun K2 hK2 => ?_
 refine wp_region_list ?_
 refine hX.part [] 0 [0] (l' := [(0, SV.sl kT_api_Token l_ y_l_.1 y_l_.2)]) (B' := []) (by kernel_rfl) fun ρ w a hX => ?_
 obtain ⟨v1, hv1, h0⟩ := bnd_some h0
 refine Cx.call0 hX (lit := []) (by kernel_rfl) rfl (by kernel_rfl) ⟨⟨_, Tryz.func4, by kernel_rfl, rfl⟩⟩ (ss := []) (by kernel_rfl) [] rfl (fun hg => hg) (fun hv hle hg => law06_live.ok v1 hv1 _ _ hv (hG.mono hle) hg _) (fun s F w a hp hX => ?_)
 subst hp
 refine hX.part [] 1 [0, 3] (l' := [(0, SV.sl kT_api_Token l_ y_l_.1 y_l_.2), (3, .v (.bool v1))]) (B' := []) (by kernel_rfl) fun ρ w a hX => ?_
 refine wpList_end ?_
 refine hK2 _ _ ?_
 refine Cx.rseq hX [] [0, 3, 4] (l' := [(0, SV.sl kT_api_Token l_ y_l_.1 y_l_.2), (3, .v (.bool v1)), (4, .v (.string ⟨⟨([] : Str)⟩⟩))]) (B' := []) (by kernel_rfl) fun ρ w a hX => ?_
 refine Cx.rseq hX [] [0, 3, 4, 5] (l' := [(0, SV.sl kT_api_Token l_ y_l_.1 y_l_.2), (3, .v (.bool v1)), (4, .v (.string ⟨⟨([] : Str)⟩⟩)), (5, .v (.slice none 0 0))]) (B' := []) (by kernel_rfl) fun ρ w a hX => ?_
 refine wp_seq_k fun K5 hK5 => ?_
 refine Cx.rseq hX [] [3, 4, 5, 14, 15, 16] (l' := [(3, .v (.bool v1)), (4, .v (.string ⟨⟨([] : Str)⟩⟩)), (5, .v (.slice none 0 0)), (14, SV.sl kT_api_Token l_ y_l_.1 y_l_.2), (15, .v (.int .i64 ((l_.length : Nat) : Int))), (16, .v (.int .i64 0))]) (B' := []) (by kernel_rfl) fun ρ w a hX => ?_
 refine wp_block ?_
 have hX := hX.newAcc 25 kT_api_Token
 have hX := hX.keeps [3, 4, 5, 14, 15, 16] (l' := [(3, .v (.bool v1)), (4, .v (.string ⟨⟨([] : Str)⟩⟩)), (5, .v (.slice none ([] : List T_api_Token).length 0)), (14, SV.sl kT_api_Token l_ y_l_.1 y_l_.2), (15, .v (.int .i64 ((l_.length : Nat) : Int))), (16, .v (.int .i64 0))]) (by kernel_rfl)
 obtain ⟨e1, he1, h0⟩ := bnd_some h0
 have E1x0 : ∀ (x36 : Str) (x37 : List T_api_Token), e1 = (.inl (x36, x37)) → ∀ (A38 : Option Addr) (c39 : Nat) (ρ : Nat → Nat) (w : World) (F : Heap) (a : Act), Cx 76 w0 F0 No w F [accP 25 kT_api_Token A38 c39 x37] [] ρ [(3, .v (.bool v1)), (4, .v (.string ⟨⟨x36⟩⟩)), (5, .v (.slice A38 x37.length c39))] a → K5 a w := by
  intro x36 x37 he A38 c39 ρ w F a hX
  replace he := he.symm
  subst he
  (try dsimp only at h0)
  refine hK5 _ _ ?_
  refine wp_seq_k fun K33 hK33 => ?_
  refine Cx.rseq hX [] [3, 4, 5, 53] (l' := [(3, .v (.bool v1)), (4, .v (.string ⟨⟨x36⟩⟩)), (5, .v (.slice A38 x37.length c39)), (53, .v (.bool (decide (((x36.length : Nat) : Int) > 4096))))]) (B' := []) (by kernel_rfl) fun ρ w a hX => ?_
  refine Cx.cond hX (b := (decide (((x36.length : Nat) : Int) > 4096))) (by kernel_rfl) (fun hb => ?_) (fun hb => ?_)
  ·have h0 := ite_tt h0 hb
   refine Cx.rseq hX [] [2] (l' := [(2, .v (.bool v1))]) (B' := []) (by kernel_rfl) fun ρ w a hX => ?_
   refine wp_ret ?_
   have hr := Option.some.inj (show some _ = some _ from h0)
   subst hr
   exact hX.ret0 (ss := [.v (.bool v1)]) (by kernel_rfl) (by kernel_rfl) rfl
  ·have h0 := ite_ff h0 hb
   refine wp_skip ?_
   refine hK33 _ _ ?_
   refine wp_seq_k fun K36 hK36 => ?_
   refine wp_region_list ?_
   refine hX.part [] 1 [3, 4, 5, 56] (l' := [(3, .v (.bool v1)), (4, .v (.string ⟨⟨x36⟩⟩)), (5, .v (.slice A38 x37.length c39)), (56, .v (.string ⟨⟨x36⟩⟩))]) (B' := []) (by kernel_rfl) fun ρ w a hX => ?_
   obtain ⟨v41, hv41, h0⟩ := bnd_some h0
   refine Cx.call0 hX (lit := []) (by kernel_rfl) rfl (by kernel_rfl) ⟨⟨_, Tryz.func6, by kernel_rfl, rfl⟩⟩ (ss := [.v (.string ⟨⟨x36⟩⟩)]) (by kernel_rfl) [.v (.string ⟨⟨x36⟩⟩)] rfl (fun hg => hg) (fun hv hle hg => token_Cut.ok x36 v41 hv41 _ _ hv (hG.mono hle) hg _) (fun s F w a hp hX => ?_)
   obtain ⟨_, _, _, rfl, ⟨A42, c43, rfl⟩, rfl, rfl⟩ := hp
   refine hX.part [] 7 [3, 4, 5, 10, 12] (l' := [(3, .v (.bool v1)), (4, .v (.string ⟨⟨x36⟩⟩)), (5, .v (.slice A38 x37.length c39)), (10, SV.sl kT_api_Token v41.1 A42 c43), (12, .v (.int .i64 v41.2.2))]) (B' := []) (by kernel_rfl) fun ρ w a hX => ?_
   refine wpList_end ?_
   refine hK36 _ _ ?_
   refine wp_seq_k fun K37 hK37 => ?_
   have J37 : ∀ (x48 : Bool), law06_TokenBack.j3 x48 = some r → ∀ (ρ : Nat → Nat) (w : World) (F : Heap) (a : Act), Cx 76 w0 F0 No w F [] [] ρ [(2, .v (.bool x48))] a → K37 a w := by
    intro x48 h0  ρ w F a hX
    unfold law06_TokenBack.j3 at h0
    refine hK37 _ _ ?_
    refine wp_ret ?_
    have hr := Option.some.inj (show some _ = some _ from h0)
    subst hr
    exact hX.ret0 (ss := [.v (.bool x48)]) (by kernel_rfl) (by kernel_rfl) rfl
   refine wp_region_list ?_
   refine hX.part [] 6 [4, 5, 10, 66] (l' := [(4, .v (.string ⟨⟨x36⟩⟩)), (5, .v (.slice A38 x37.length c39)), (10, SV.sl kT_api_Token v41.1 A42 c43), (66, .v (.bool (v1 && (v41.2.2 == 0))))]) (B' := []) (by kernel_rfl) fun ρ w a hX => ?_
   refine ite_go h0 (fun hb h0 => ?_) (fun hb h0 => ?_)
   ·have hX := hX.relit 66 hb (by kernel_rfl)
    refine hX.part [5] 6 [66, 67, 68, 72] (l' := [(66, .v (.bool true)), (67, SV.sl kT_api_Token v41.1 A42 c43), (68, .v (.slice A38 x37.length c39)), (72, .slc 0 0 1 1)]) (B' := [some ⟨25, [.v (.int .i64 0), .v (.string ⟨⟨([] : Str)⟩⟩), .v (.int .i64 0), .v (.int .i64 ((x36.length : Nat) : Int)), .v (.bool false)]⟩]) (by kernel_rfl) fun ρ w a hX => ?_
    obtain ⟨u46, hu46, h0⟩ := bnd_some h0
    refine hX.appLit (d := kT_api_Token) (k := 0) (m := 1) (bytes := 48) (cells := [.v (.int .i64 0), .v (.string ⟨⟨([] : Str)⟩⟩), .v (.int .i64 0), .v (.int .i64 ((x36.length : Nat) : Int)), .v (.bool false)]) (lit := [5]) (i := 0) (e := 25) (xs := x37) (A := A38) (c := c39) ([(({ Kind := 0, Text := ([] : Str), Num := 0, At := ((x36.length : Nat) : Int), Fresh := false } : T_api_Token), ())] : List (T_api_Token × (kT_api_Token).Y)) (by kernel_rfl) (by kernel_rfl) rfl rfl (by kernel_rfl) (by kernel_rfl) (by kernel_rfl) (by kernel_rfl) (by kernel_rfl) rfl rfl (by decide) hu46 ⟨_, rfl⟩ fun A44 c45 w a hX => ?_
    have hX : Cx 76 _ _ _ _ _ [accP 25 kT_api_Token A44 c45 (x37 ++ [({ Kind := 0, Text := ([] : Str), Num := 0, At := ((x36.length : Nat) : Int), Fresh := false } : T_api_Token)])] [some ⟨25, [.v (.int .i64 0), .v (.string ⟨⟨([] : Str)⟩⟩), .v (.int .i64 0), .v (.int .i64 ((x36.length : Nat) : Int)), .v (.bool false)]⟩] ρ _ a := hX
    refine hX.part [5] 0 [66, 67, 73] (l' := [(66, .v (.bool true)), (67, SV.sl kT_api_Token v41.1 A42 c43), (73, .v (.slice A44 (x37 ++ [({ Kind := 0, Text := ([] : Str), Num := 0, At := ((x36.length : Nat) : Int), Fresh := false } : T_api_Token)]).length c45))]) (B' := [some ⟨25, [.v (.int .i64 0), .v (.string ⟨⟨([] : Str)⟩⟩), .v (.int .i64 0), .v (.int .i64 ((x36.length : Nat) : Int)), .v (.bool false)]⟩]) (by kernel_rfl) fun ρ w a hX => ?_
    obtain ⟨v47, hv47, h0⟩ := bnd_some h0
    obtain ⟨F, hX⟩ := hX.freeze (i := 0) (t := 73) (e := 25) (d := kT_api_Token) (A := A44) (c := c45) (xs := (x37 ++ [({ Kind := 0, Text := ([] : Str), Num := 0, At := ((x36.length : Nat) : Int), Fresh := false } : T_api_Token)])) rfl (by kernel_rfl)
    have hX : Cx 76 _ _ _ _ _ [] [some ⟨25, [.v (.int .i64 0), .v (.string ⟨⟨([] : Str)⟩⟩), .v (.int .i64 0), .v (.int .i64 ((x36.length : Nat) : Int)), .v (.bool false)]⟩] ρ _ a := hX
    refine Cx.call0 hX (lit := [5]) (by kernel_rfl) rfl (by kernel_rfl) ⟨⟨_, Tryz.func7, by kernel_rfl, rfl⟩⟩ (ss := [SV.sl kT_api_Token v41.1 A42 c43, SV.sl kT_api_Token (x37 ++ [({ Kind := 0, Text := ([] : Str), Num := 0, At := ((x36.length : Nat) : Int), Fresh := false } : T_api_Token)]) A44 c45]) (by kernel_rfl) [SV.sl kT_api_Token v41.1 A42 c43, SV.sl kT_api_Token (x37 ++ [({ Kind := 0, Text := ([] : Str), Num := 0, At := ((x36.length : Nat) : Int), Fresh := false } : T_api_Token)]) A44 c45] rfl (fun hg => hg) (fun hv hle hg => ref06_Same.ok v41.1 (x37 ++ [({ Kind := 0, Text := ([] : Str), Num := 0, At := ((x36.length : Nat) : Int), Fresh := false } : T_api_Token)]) (A42, c43) (A44, c45) v47 hv47 _ _ hv (hG.mono hle) hg _) (fun s F w a hp hX => ?_)
    subst hp
    refine hX.part [] 2 [2] (l' := [(2, .v (.bool v47))]) (B' := [some ⟨25, [.v (.int .i64 0), .v (.string ⟨⟨([] : Str)⟩⟩), .v (.int .i64 0), .v (.int .i64 ((x36.length : Nat) : Int)), .v (.bool false)]⟩]) (by kernel_rfl) fun ρ w a hX => ?_
    refine wpList_end ?_
    have hX := hX.keeps [2] (l' := [(2, .v (.bool v47))]) (by kernel_rfl)
    have hX := hX.shrink 0 (B' := []) (by kernel_rfl) (Nat.le_of_ble_eq_true rfl) (by kernel_rfl) (by kernel_rfl) (Nat.zero_le _)
    exact J37 v47 h0  _ _ _ _ hX
   ·have hX := hX.relit 66 hb (by kernel_rfl)
    refine hX.part [5] 10 [2] (l' := [(2, .v (.bool false))]) (B' := []) (by kernel_rfl) fun ρ w a hX => ?_
    refine wpList_end ?_
    have hX := hX.dropL 0 rfl rfl
    have hX := hX.keeps [2] (l' := [(2, .v (.bool false))]) (by kernel_rfl)
    exact J37 false h0  _ _ _ _ hX
 refine loop_go (fun (s : Str × Int × (List T_api_Token)) a w => match s with | (x14, x15, x16) => ∃ (A17 : Option Addr) (c18 : Nat) (ρ : Nat → Nat) (F : Heap), Cx 76 w0 F0 No w F [accP 25 kT_api_Token A17 c18 x16] [] ρ [(3, .v (.bool v1)), (4, .v (.string ⟨⟨x14⟩⟩)), (5, .v (.slice A17 x16.length c18)), (14, SV.sl kT_api_Token l_ y_l_.1 y_l_.2), (15, .v (.int .i64 ((l_.length : Nat) : Int))), (16, .v (.int .i64 x15))] a) he1 (fun LW1 s o1 h1 hb1 hx1 a w hI => ?_) _ _ ?_
 ·obtain ⟨x14, x15, x16⟩ := s
  obtain ⟨A17, c18, ρ, F, hX⟩ := hI
  unfold law06_TokenBack.l1 at h1
  (try dsimp only at h1)
  refine Cx.rseq hX [] [3, 4, 5, 14, 15, 16, 17] (l' := [(3, .v (.bool v1)), (4, .v (.string ⟨⟨x14⟩⟩)), (5, .v (.slice A17 x16.length c18)), (14, SV.sl kT_api_Token l_ y_l_.1 y_l_.2), (15, .v (.int .i64 ((l_.length : Nat) : Int))), (16, .v (.int .i64 x15)), (17, .v (.bool (decide (x15 < ((l_.length : Nat) : Int)))))]) (B' := []) (by kernel_rfl) fun ρ w a hX => ?_
  refine wp_seq_k fun K21 hK21 => ?_
  refine Cx.cond hX (b := (decide (x15 < ((l_.length : Nat) : Int)))) (by kernel_rfl) (fun hb => ?_) (fun hb => ?_)
  ·have h1 := ite_tt h1 hb
   refine wp_skip ?_
   refine hK21 _ _ ?_
   refine wp_seq_k fun K22 hK22 => ?_
   refine wp_block ?_
   refine wp_seq_k fun K23 hK23 => ?_
   refine wp_region_list ?_
   refine hX.part [] 0 [3, 4, 5, 14, 15, 16] (l' := [(3, .v (.bool v1)), (4, .v (.string ⟨⟨x14⟩⟩)), (5, .v (.slice A17 x16.length c18)), (14, SV.sl kT_api_Token l_ y_l_.1 y_l_.2), (15, .v (.int .i64 ((l_.length : Nat) : Int))), (16, .v (.int .i64 x15))]) (B' := []) (by kernel_rfl) fun ρ w a hX => ?_
   obtain ⟨v19, hv19, h1⟩ := bnd_some h1
   refine hX.idxSl (lit := []) (by kernel_rfl) (by kernel_rfl) rfl (d := kT_api_Token) (e := 25) (xs := l_) (A := y_l_.1) (c := y_l_.2) (k := .i64) (n := x15) (v := v19) (by kernel_rfl) (by kernel_rfl) (by kernel_rfl) (by kernel_rfl) hv19 fun y20 b21 o22 a hX => ?_
   refine hX.part [] 3 [3, 4, 5, 7, 14, 15, 16] (l' := [(3, .v (.bool v1)), (4, .v (.string ⟨⟨x14⟩⟩)), (5, .v (.slice A17 x16.length c18)), (7, .ptr 0 0), (14, SV.sl kT_api_Token l_ y_l_.1 y_l_.2), (15, .v (.int .i64 ((l_.length : Nat) : Int))), (16, .v (.int .i64 x15))]) (B' := [some ⟨25, [.v (.int .i64 v19.Kind), .v (.string ⟨⟨v19.Text⟩⟩), .v (.int .i64 v19.Num), .v (.int .i64 v19.At), .v (.bool v19.Fresh)]⟩]) (by kernel_rfl) fun ρ w a hX => ?_
   refine wpList_end ?_
   refine hK23 _ _ ?_
   refine wp_seq_k fun K24 hK24 => ?_
   refine wp_region_list ?_
   refine hX.part [] 1 [3, 4, 5, 7, 14, 15, 16, 21] (l' := [(3, .v (.bool v1)), (4, .v (.string ⟨⟨x14⟩⟩)), (5, .v (.slice A17 x16.length c18)), (7, .ptr 0 0), (14, SV.sl kT_api_Token l_ y_l_.1 y_l_.2), (15, .v (.int .i64 ((l_.length : Nat) : Int))), (16, .v (.int .i64 x15)), (21, .agg [.v (.int .i64 v19.Kind), .v (.string ⟨⟨v19.Text⟩⟩), .v (.int .i64 v19.Num), .v (.int .i64 v19.At), .v (.bool v19.Fresh)])]) (B' := [some ⟨25, [.v (.int .i64 v19.Kind), .v (.string ⟨⟨v19.Text⟩⟩), .v (.int .i64 v19.Num), .v (.int .i64 v19.At), .v (.bool v19.Fresh)]⟩]) (by kernel_rfl) fun ρ w a hX => ?_
   obtain ⟨v23, hv23, h1⟩ := bnd_some h1
   refine Cx.call0 hX (lit := []) (by kernel_rfl) rfl (by kernel_rfl) ⟨⟨_, Tryz.func5, by kernel_rfl, rfl⟩⟩ (ss := [.agg [.v (.int .i64 v19.Kind), .v (.string ⟨⟨v19.Text⟩⟩), .v (.int .i64 v19.Num), .v (.int .i64 v19.At), .v (.bool v19.Fresh)]]) (by kernel_rfl) [.agg [.v (.int .i64 v19.Kind), .v (.string ⟨⟨v19.Text⟩⟩), .v (.int .i64 v19.Num), .v (.int .i64 v19.At), .v (.bool v19.Fresh)]] rfl (fun hg => hg) (fun hv hle hg => law06_written.ok v19 v23 hv23 _ _ hv (hG.mono hle) hg _) (fun s F w a hp hX => ?_)
   obtain ⟨_, _, rfl, rfl, rfl⟩ := hp
   refine hX.part [] 5 [3, 4, 5, 7, 8, 9, 14, 15, 16] (l' := [(3, .v (.bool v1)), (4, .v (.string ⟨⟨x14⟩⟩)), (5, .v (.slice A17 x16.length c18)), (7, .ptr 0 0), (8, .v (.string ⟨⟨v23.1⟩⟩)), (9, .v (.bool v23.2)), (14, SV.sl kT_api_Token l_ y_l_.1 y_l_.2), (15, .v (.int .i64 ((l_.length : Nat) : Int))), (16, .v (.int .i64 x15))]) (B' := [some ⟨25, [.v (.int .i64 v19.Kind), .v (.string ⟨⟨v19.Text⟩⟩), .v (.int .i64 v19.Num), .v (.int .i64 v19.At), .v (.bool v19.Fresh)]⟩]) (by kernel_rfl) fun ρ w a hX => ?_
   refine wpList_end ?_
   refine hK24 _ _ ?_
   refine wp_seq_k fun K25 hK25 => ?_
   refine Cx.rseq hX [] [3, 4, 5, 7, 8, 14, 15, 16, 31] (l' := [(3, .v (.bool v1)), (4, .v (.string ⟨⟨x14⟩⟩)), (5, .v (.slice A17 x16.length c18)), (7, .ptr 0 0), (8, .v (.string ⟨⟨v23.1⟩⟩)), (14, SV.sl kT_api_Token l_ y_l_.1 y_l_.2), (15, .v (.int .i64 ((l_.length : Nat) : Int))), (16, .v (.int .i64 x15)), (31, .v (.bool ((!v23.2) || (decide (((x14.length : Nat) : Int) > 4096)))))]) (B' := [some ⟨25, [.v (.int .i64 v19.Kind), .v (.string ⟨⟨v19.Text⟩⟩), .v (.int .i64 v19.Num), .v (.int .i64 v19.At), .v (.bool v19.Fresh)]⟩]) (by kernel_rfl) fun ρ w a hX => ?_
   refine Cx.cond hX (b := ((!v23.2) || (decide (((x14.length : Nat) : Int) > 4096)))) (by kernel_rfl) (fun hb => ?_) (fun hb => ?_)
   ·have h1 := ite_tt h1 hb
    refine Cx.rseq hX [] [2] (l' := [(2, .v (.bool v1))]) (B' := [some ⟨25, [.v (.int .i64 v19.Kind), .v (.string ⟨⟨v19.Text⟩⟩), .v (.int .i64 v19.Num), .v (.int .i64 v19.At), .v (.bool v19.Fresh)]⟩]) (by kernel_rfl) fun ρ w a hX => ?_
    refine wp_ret ?_
    have he := hx1 _ (out_eq h1)
    subst he
    (try dsimp only at h0)
    have hr := Option.some.inj (show some _ = some _ from h0)
    subst hr
    exact hX.ret0 (ss := [.v (.bool v1)]) (by kernel_rfl) (by kernel_rfl) rfl
   ·have h1 := ite_ff h1 hb
    refine wp_skip ?_
    refine hK25 _ _ ?_
    refine Cx.rseq hX [] [3, 4, 5, 7, 8, 14, 15, 16] (l' := [(3, .v (.bool v1)), (4, .v (.string ⟨⟨x14⟩⟩)), (5, .v (.slice A17 x16.length c18)), (7, .ptr 0 0), (8, .v (.string ⟨⟨v23.1⟩⟩)), (14, SV.sl kT_api_Token l_ y_l_.1 y_l_.2), (15, .v (.int .i64 ((l_.length : Nat) : Int))), (16, .v (.int .i64 x15))]) (B' := [some ⟨25, [.v (.int .i64 v19.Kind), .v (.string ⟨⟨v19.Text⟩⟩), .v (.int .i64 v19.Num), .v (.int .i64 ((x14.length : Nat) : Int)), .v (.bool v19.Fresh)]⟩]) (by kernel_rfl) fun ρ w a hX => ?_
    refine Cx.rseq hX [] [3, 4, 5, 7, 8, 14, 15, 16] (l' := [(3, .v (.bool v1)), (4, .v (.string ⟨⟨x14⟩⟩)), (5, .v (.slice A17 x16.length c18)), (7, .ptr 0 0), (8, .v (.string ⟨⟨v23.1⟩⟩)), (14, SV.sl kT_api_Token l_ y_l_.1 y_l_.2), (15, .v (.int .i64 ((l_.length : Nat) : Int))), (16, .v (.int .i64 x15))]) (B' := [some ⟨25, [.v (.int .i64 v19.Kind), .v (.string ⟨⟨v19.Text⟩⟩), .v (.int .i64 v19.Num), .v (.int .i64 ((x14.length : Nat) : Int)), .v (.bool false)]⟩]) (by kernel_rfl) fun ρ w a hX => ?_
    refine wp_seq_k fun K30 hK30 => ?_
    have J30 : ∀ (x24 : Str) (x25 : Int), law06_TokenBack.j2 x14 x15 x16 v19 v23 x24 x25 = some o1 → ∀ (ρ : Nat → Nat) (w : World) (F : Heap) (a : Act), Cx 76 w0 F0 No w F [accP 25 kT_api_Token A17 c18 x16] [some ⟨25, [.v (.int .i64 v19.Kind), .v (.string ⟨⟨x24⟩⟩), .v (.int .i64 x25), .v (.int .i64 ((x14.length : Nat) : Int)), .v (.bool false)]⟩] ρ [(3, .v (.bool v1)), (4, .v (.string ⟨⟨x14⟩⟩)), (5, .v (.slice A17 x16.length c18)), (7, .ptr 0 0), (8, .v (.string ⟨⟨v23.1⟩⟩)), (14, SV.sl kT_api_Token l_ y_l_.1 y_l_.2), (15, .v (.int .i64 ((l_.length : Nat) : Int))), (16, .v (.int .i64 x15))] a → K30 a w := by
     intro x24 x25 h1  ρ w F a hX
     unfold law06_TokenBack.j2 at h1
     refine hK30 _ _ ?_
     refine wp_seq_k fun K32 hK32 => ?_
     refine wp_region_list ?_
     refine hX.part [] 3 [3, 4, 5, 8, 14, 15, 16, 42, 44] (l' := [(3, .v (.bool v1)), (4, .v (.string ⟨⟨x14⟩⟩)), (5, .v (.slice A17 x16.length c18)), (8, .v (.string ⟨⟨v23.1⟩⟩)), (14, SV.sl kT_api_Token l_ y_l_.1 y_l_.2), (15, .v (.int .i64 ((l_.length : Nat) : Int))), (16, .v (.int .i64 x15)), (42, .v (.slice A17 x16.length c18)), (44, .slc 1 0 1 1)]) (B' := [some ⟨25, [.v (.int .i64 v19.Kind), .v (.string ⟨⟨x24⟩⟩), .v (.int .i64 x25), .v (.int .i64 ((x14.length : Nat) : Int)), .v (.bool false)]⟩, some ⟨25, [.v (.int .i64 v19.Kind), .v (.string ⟨⟨x24⟩⟩), .v (.int .i64 x25), .v (.int .i64 ((x14.length : Nat) : Int)), .v (.bool false)]⟩]) (by kernel_rfl) fun ρ w a hX => ?_
     obtain ⟨u28, hu28, h1⟩ := bnd_some h1
     refine hX.appLit (d := kT_api_Token) (k := 1) (m := 1) (bytes := 48) (cells := [.v (.int .i64 v19.Kind), .v (.string ⟨⟨x24⟩⟩), .v (.int .i64 x25), .v (.int .i64 ((x14.length : Nat) : Int)), .v (.bool false)]) (lit := []) (i := 0) (e := 25) (xs := x16) (A := A17) (c := c18) ([(({ Kind := v19.Kind, Text := x24, Num := x25, At := ((x14.length : Nat) : Int), Fresh := false } : T_api_Token), ())] : List (T_api_Token × (kT_api_Token).Y)) (by kernel_rfl) (by kernel_rfl) rfl rfl (by kernel_rfl) (by kernel_rfl) (by kernel_rfl) (by kernel_rfl) (by kernel_rfl) rfl rfl (by decide) hu28 ⟨_, rfl⟩ fun A26 c27 w a hX => ?_
     have hX : Cx 76 _ _ _ _ _ [accP 25 kT_api_Token A26 c27 (x16 ++ [({ Kind := v19.Kind, Text := x24, Num := x25, At := ((x14.length : Nat) : Int), Fresh := false } : T_api_Token)])] [some ⟨25, [.v (.int .i64 v19.Kind), .v (.string ⟨⟨x24⟩⟩), .v (.int .i64 x25), .v (.int .i64 ((x14.length : Nat) : Int)), .v (.bool false)]⟩, some ⟨25, [.v (.int .i64 v19.Kind), .v (.string ⟨⟨x24⟩⟩), .v (.int .i64 x25), .v (.int .i64 ((x14.length : Nat) : Int)), .v (.bool false)]⟩] ρ _ a := hX
     refine hX.part [] 1 [3, 4, 5, 8, 14, 15, 16] (l' := [(3, .v (.bool v1)), (4, .v (.string ⟨⟨x14⟩⟩)), (5, .v (.slice A26 (x16 ++ [({ Kind := v19.Kind, Text := x24, Num := x25, At := ((x14.length : Nat) : Int), Fresh := false } : T_api_Token)]).length c27)), (8, .v (.string ⟨⟨v23.1⟩⟩)), (14, SV.sl kT_api_Token l_ y_l_.1 y_l_.2), (15, .v (.int .i64 ((l_.length : Nat) : Int))), (16, .v (.int .i64 x15))]) (B' := [some ⟨25, [.v (.int .i64 v19.Kind), .v (.string ⟨⟨x24⟩⟩), .v (.int .i64 x25), .v (.int .i64 ((x14.length : Nat) : Int)), .v (.bool false)]⟩, some ⟨25, [.v (.int .i64 v19.Kind), .v (.string ⟨⟨x24⟩⟩), .v (.int .i64 x25), .v (.int .i64 ((x14.length : Nat) : Int)), .v (.bool false)]⟩]) (by kernel_rfl) fun ρ w a hX => ?_
     refine wpList_end ?_
     refine hK32 _ _ ?_
     refine wp_region_list ?_
     refine hX.part [] 2 [3, 4, 5, 14, 15, 16, 46, 47] (l' := [(3, .v (.bool v1)), (4, .v (.string ⟨⟨x14⟩⟩)), (5, .v (.slice A26 (x16 ++ [({ Kind := v19.Kind, Text := x24, Num := x25, At := ((x14.length : Nat) : Int), Fresh := false } : T_api_Token)]).length c27)), (14, SV.sl kT_api_Token l_ y_l_.1 y_l_.2), (15, .v (.int .i64 ((l_.length : Nat) : Int))), (16, .v (.int .i64 x15)), (46, .v (.string ⟨⟨x14⟩⟩)), (47, .v (.string ⟨⟨v23.1⟩⟩))]) (B' := [some ⟨25, [.v (.int .i64 v19.Kind), .v (.string ⟨⟨x24⟩⟩), .v (.int .i64 x25), .v (.int .i64 ((x14.length : Nat) : Int)), .v (.bool false)]⟩, some ⟨25, [.v (.int .i64 v19.Kind), .v (.string ⟨⟨x24⟩⟩), .v (.int .i64 x25), .v (.int .i64 ((x14.length : Nat) : Int)), .v (.bool false)]⟩]) (by kernel_rfl) fun ρ w a hX => ?_
     obtain ⟨v29, hv29, h1⟩ := bnd_some h1
     refine hX.catStr (lit := []) (by kernel_rfl) (by kernel_rfl) rfl (s := v23.1) (t := ([32] : Str)) (r := v29) (by kernel_rfl) (by kernel_rfl) hv29 fun a hX => ?_
     refine hX.part [] 0 [3, 4, 5, 14, 15, 16, 46, 48] (l' := [(3, .v (.bool v1)), (4, .v (.string ⟨⟨x14⟩⟩)), (5, .v (.slice A26 (x16 ++ [({ Kind := v19.Kind, Text := x24, Num := x25, At := ((x14.length : Nat) : Int), Fresh := false } : T_api_Token)]).length c27)), (14, SV.sl kT_api_Token l_ y_l_.1 y_l_.2), (15, .v (.int .i64 ((l_.length : Nat) : Int))), (16, .v (.int .i64 x15)), (46, .v (.string ⟨⟨x14⟩⟩)), (48, .v (.string ⟨⟨v29⟩⟩))]) (B' := [some ⟨25, [.v (.int .i64 v19.Kind), .v (.string ⟨⟨x24⟩⟩), .v (.int .i64 x25), .v (.int .i64 ((x14.length : Nat) : Int)), .v (.bool false)]⟩, some ⟨25, [.v (.int .i64 v19.Kind), .v (.string ⟨⟨x24⟩⟩), .v (.int .i64 x25), .v (.int .i64 ((x14.length : Nat) : Int)), .v (.bool false)]⟩]) (by kernel_rfl) fun ρ w a hX => ?_
     obtain ⟨v30, hv30, h1⟩ := bnd_some h1
     refine hX.catStr (lit := []) (by kernel_rfl) (by kernel_rfl) rfl (s := x14) (t := v29) (r := v30) (by kernel_rfl) (by kernel_rfl) hv30 fun a hX => ?_
     refine hX.part [] 1 [3, 4, 5, 14, 15, 16] (l' := [(3, .v (.bool v1)), (4, .v (.string ⟨⟨v30⟩⟩)), (5, .v (.slice A26 (x16 ++ [({ Kind := v19.Kind, Text := x24, Num := x25, At := ((x14.length : Nat) : Int), Fresh := false } : T_api_Token)]).length c27)), (14, SV.sl kT_api_Token l_ y_l_.1 y_l_.2), (15, .v (.int .i64 ((l_.length : Nat) : Int))), (16, .v (.int .i64 x15))]) (B' := [some ⟨25, [.v (.int .i64 v19.Kind), .v (.string ⟨⟨x24⟩⟩), .v (.int .i64 x25), .v (.int .i64 ((x14.length : Nat) : Int)), .v (.bool false)]⟩, some ⟨25, [.v (.int .i64 v19.Kind), .v (.string ⟨⟨x24⟩⟩), .v (.int .i64 x25), .v (.int .i64 ((x14.length : Nat) : Int)), .v (.bool false)]⟩]) (by kernel_rfl) fun ρ w a hX => ?_
     refine wpList_end ?_
     refine hK22 _ _ ?_
     refine Cx.region hX [] [3, 4, 5, 14, 15, 16] (l' := [(3, .v (.bool v1)), (4, .v (.string ⟨⟨v30⟩⟩)), (5, .v (.slice A26 (x16 ++ [({ Kind := v19.Kind, Text := x24, Num := x25, At := ((x14.length : Nat) : Int), Fresh := false } : T_api_Token)]).length c27)), (14, SV.sl kT_api_Token l_ y_l_.1 y_l_.2), (15, .v (.int .i64 ((l_.length : Nat) : Int))), (16, .v (.int .i64 (IntKind.wrap .i64 (x15 + 1))))]) (B' := [some ⟨25, [.v (.int .i64 v19.Kind), .v (.string ⟨⟨x24⟩⟩), .v (.int .i64 x25), .v (.int .i64 ((x14.length : Nat) : Int)), .v (.bool false)]⟩, some ⟨25, [.v (.int .i64 v19.Kind), .v (.string ⟨⟨x24⟩⟩), .v (.int .i64 x25), .v (.int .i64 ((x14.length : Nat) : Int)), .v (.bool false)]⟩]) (by kernel_rfl) fun ρ w a hX => ?_
     have hX := hX.keeps [3, 4, 5, 14, 15, 16] (l' := [(3, .v (.bool v1)), (4, .v (.string ⟨⟨v30⟩⟩)), (5, .v (.slice A26 (x16 ++ [({ Kind := v19.Kind, Text := x24, Num := x25, At := ((x14.length : Nat) : Int), Fresh := false } : T_api_Token)]).length c27)), (14, SV.sl kT_api_Token l_ y_l_.1 y_l_.2), (15, .v (.int .i64 ((l_.length : Nat) : Int))), (16, .v (.int .i64 (IntKind.wrap .i64 (x15 + 1))))]) (by kernel_rfl)
     have hX := hX.shrink 0 (B' := []) (by kernel_rfl) (Nat.le_of_ble_eq_true rfl) (by kernel_rfl) (by kernel_rfl) (Nat.zero_le _)
     exact hb1 (v30, (IntKind.wrap .i64 (x15 + 1)), (x16 ++ [({ Kind := v19.Kind, Text := x24, Num := x25, At := ((x14.length : Nat) : Int), Fresh := false } : T_api_Token)])) (out_eq h1) _ _ ⟨A26, c27, _, _, hX⟩
    refine Cx.rseq hX [] [3, 4, 5, 7, 8, 14, 15, 16, 39] (l' := [(3, .v (.bool v1)), (4, .v (.string ⟨⟨x14⟩⟩)), (5, .v (.slice A17 x16.length c18)), (7, .ptr 0 0), (8, .v (.string ⟨⟨v23.1⟩⟩)), (14, SV.sl kT_api_Token l_ y_l_.1 y_l_.2), (15, .v (.int .i64 ((l_.length : Nat) : Int))), (16, .v (.int .i64 x15)), (39, .v (.bool (v19.Kind != 3)))]) (B' := [some ⟨25, [.v (.int .i64 v19.Kind), .v (.string ⟨⟨v19.Text⟩⟩), .v (.int .i64 v19.Num), .v (.int .i64 ((x14.length : Nat) : Int)), .v (.bool false)]⟩]) (by kernel_rfl) fun ρ w a hX => ?_
    refine Cx.cond hX (b := (v19.Kind != 3)) (by kernel_rfl) (fun hb => ?_) (fun hb => ?_)
    ·have h1 := ite_tt h1 hb
     refine Cx.region hX [] [3, 4, 5, 7, 8, 14, 15, 16] (l' := [(3, .v (.bool v1)), (4, .v (.string ⟨⟨x14⟩⟩)), (5, .v (.slice A17 x16.length c18)), (7, .ptr 0 0), (8, .v (.string ⟨⟨v23.1⟩⟩)), (14, SV.sl kT_api_Token l_ y_l_.1 y_l_.2), (15, .v (.int .i64 ((l_.length : Nat) : Int))), (16, .v (.int .i64 x15))]) (B' := [some ⟨25, [.v (.int .i64 v19.Kind), .v (.string ⟨⟨v19.Text⟩⟩), .v (.int .i64 0), .v (.int .i64 ((x14.length : Nat) : Int)), .v (.bool false)]⟩]) (by kernel_rfl) fun ρ w a hX => ?_
     have hX := hX.keeps [3, 4, 5, 7, 8, 14, 15, 16] (l' := [(3, .v (.bool v1)), (4, .v (.string ⟨⟨x14⟩⟩)), (5, .v (.slice A17 x16.length c18)), (7, .ptr 0 0), (8, .v (.string ⟨⟨v23.1⟩⟩)), (14, SV.sl kT_api_Token l_ y_l_.1 y_l_.2), (15, .v (.int .i64 ((l_.length : Nat) : Int))), (16, .v (.int .i64 x15))]) (by kernel_rfl)
     exact J30 v19.Text 0 h1  _ _ _ _ hX
    ·have h1 := ite_ff h1 hb
     refine Cx.region hX [] [3, 4, 5, 7, 8, 14, 15, 16] (l' := [(3, .v (.bool v1)), (4, .v (.string ⟨⟨x14⟩⟩)), (5, .v (.slice A17 x16.length c18)), (7, .ptr 0 0), (8, .v (.string ⟨⟨v23.1⟩⟩)), (14, SV.sl kT_api_Token l_ y_l_.1 y_l_.2), (15, .v (.int .i64 ((l_.length : Nat) : Int))), (16, .v (.int .i64 x15))]) (B' := [some ⟨25, [.v (.int .i64 v19.Kind), .v (.string ⟨⟨([] : Str)⟩⟩), .v (.int .i64 v19.Num), .v (.int .i64 ((x14.length : Nat) : Int)), .v (.bool false)]⟩]) (by kernel_rfl) fun ρ w a hX => ?_
     have hX := hX.keeps [3, 4, 5, 7, 8, 14, 15, 16] (l' := [(3, .v (.bool v1)), (4, .v (.string ⟨⟨x14⟩⟩)), (5, .v (.slice A17 x16.length c18)), (7, .ptr 0 0), (8, .v (.string ⟨⟨v23.1⟩⟩)), (14, SV.sl kT_api_Token l_ y_l_.1 y_l_.2), (15, .v (.int .i64 ((l_.length : Nat) : Int))), (16, .v (.int .i64 x15))]) (by kernel_rfl)
     exact J30 ([] : Str) v19.Num h1  _ _ _ _ hX
  ·have h1 := ite_ff h1 hb
   refine wp_exit ?_
   have hX := hX.keeps [3, 4, 5] (l' := [(3, .v (.bool v1)), (4, .v (.string ⟨⟨x14⟩⟩)), (5, .v (.slice A17 x16.length c18))]) (by kernel_rfl)
   exact E1x0 x14 x16 (hx1 _ (out_eq h1)).symm A17 c18 _ _ _ _ hX
 ·exact ⟨none, 0, _, _, hX⟩
end
end Go.Gw

