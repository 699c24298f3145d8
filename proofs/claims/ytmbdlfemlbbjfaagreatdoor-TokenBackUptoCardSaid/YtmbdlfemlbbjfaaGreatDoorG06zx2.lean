/- Texts for the statements of this seat. -/
import Derived.Test.YtmbdlfemlbbjfaaGreatDoorG06zx1
import Derived.Test.YtmbdlfemlbbjfaaGreatDoorGwU
import Derived.Test.YtmbdlfemlbbjfaaGreatDoorShelf06z
import Derived.Test.YtmbdlfemlbbjfaaGreatDoorNlAny06z
import Derived.Shelf.Strings.SlTrimAscii
import Derived.Test.YtmbdlfemlbbjfaaGreatDoorProg
import Derived.KernelRfl
set_option linter.unusedVariables false
set_option linter.unusedSimpArgs false
set_option linter.unnecessarySimpa false
namespace Go.Gw
open Go.Proofs Go.RowKit
set_option maxRecDepth 100000
set_option linter.unusedVariables false
set_option linter.unusedSimpArgs false
noncomputable section
def ref06_digit (c : Int) : Option (Bool) :=
  some ((decide (c ≥ 48)) && (decide (c ≤ 57)))
theorem ref06_digit.ok (c : Int) (r : Bool) (h0 : ref06_digit c = some r) (w0 : World) (F0 : Heap) (hv : F0.Sub w0) (hG : Glob F0) (hg : SV.goods F0 [.v (.int .u8 c)]) (ρ : Nat → Nat) :
    Calls Tryz.prog 21 (SV.dens ρ [.v (.int .u8 c)]).toArray w0 (Ret0 w0 F0 fun s => s = .v (.bool r)) := by
 refine calls_of_wp Tryz.func21 rfl ?_
 have hX := Cx.enter (D := No) (B := []) (L := []) (ρ := ρ) (N := 9) Tryz.ntmps21 [.v (.int .u8 c)] (St.start hv) rfl hg (by kernel_rfl) (fun _ h => by cases h) (Nat.le_of_ble_eq_true rfl) No.unfix
 unfold ref06_digit at h0
 refine Cx.rseq hX [] [0] (l' := [(0, .v (.int .u8 c))]) (B' := []) (by kernel_rfl) fun ρ w a hX => ?_
 refine Cx.rseq hX [] [2] (l' := [(2, .v (.bool ((decide (c ≥ 48)) && (decide (c ≤ 57)))))]) (B' := []) (by kernel_rfl) fun ρ w a hX => ?_
 refine wp_ret ?_
 have hr := Option.some.inj (show some _ = some _ from h0)
 subst hr
 exact hX.ret0 (ss := [.v (.bool ((decide (c ≥ 48)) && (decide (c ≤ 57))))]) (by kernel_rfl) (by kernel_rfl) rfl
def ref06_letter (c : Int) : Option (Bool) :=
  some (((((decide (c ≥ 97)) && (decide (c ≤ 122))) || ((decide (c ≥ 65)) && (decide (c ≤ 90)))) || (c == 95)) || (c == 36))
theorem ref06_letter.ok (c : Int) (r : Bool) (h0 : ref06_letter c = some r) (w0 : World) (F0 : Heap) (hv : F0.Sub w0) (hG : Glob F0) (hg : SV.goods F0 [.v (.int .u8 c)]) (ρ : Nat → Nat) :
    Calls Tryz.prog 22 (SV.dens ρ [.v (.int .u8 c)]).toArray w0 (Ret0 w0 F0 fun s => s = .v (.bool r)) := by
 refine calls_of_wp Tryz.func22 rfl ?_
 have hX := Cx.enter (D := No) (B := []) (L := []) (ρ := ρ) (N := 25) Tryz.ntmps22 [.v (.int .u8 c)] (St.start hv) rfl hg (by kernel_rfl) (fun _ h => by cases h) (Nat.le_of_ble_eq_true rfl) No.unfix
 unfold ref06_letter at h0
 refine Cx.rseq hX [] [0] (l' := [(0, .v (.int .u8 c))]) (B' := []) (by kernel_rfl) fun ρ w a hX => ?_
 refine Cx.rseq hX [] [2] (l' := [(2, .v (.bool (((((decide (c ≥ 97)) && (decide (c ≤ 122))) || ((decide (c ≥ 65)) && (decide (c ≤ 90)))) || (c == 95)) || (c == 36))))]) (B' := []) (by kernel_rfl) fun ρ w a hX => ?_
 refine wp_ret ?_
 have hr := Option.some.inj (show some _ = some _ from h0)
 subst hr
 exact hX.ret0 (ss := [.v (.bool (((((decide (c ≥ 97)) && (decide (c ≤ 122))) || ((decide (c ≥ 65)) && (decide (c ≤ 90)))) || (c == 95)) || (c == 36)))]) (by kernel_rfl) (by kernel_rfl) rfl
def ref06_IsIdent.j3 (x9 : Int) (x14 : Bool) : Option ((Int) ⊕ ((Unit) ⊕ (Bool))) :=
  if x14 = true then
    some (.inr (.inr false))
  else
    some (.inl (IntKind.wrap .i64 (x9 + 1)))
def ref06_IsIdent.l1 (s_ : Str) (x9 : Int) : Option ((Int) ⊕ ((Unit) ⊕ (Bool))) :=
  if (decide (x9 < ((s_.length : Nat) : Int))) = true then
    Option.bind (getB s_ x9) fun v10 =>
    Option.bind (ref06_letter v10) fun v11 =>
    if (!v11) = true then
      Option.bind (getB s_ x9) fun v12 =>
      Option.bind (ref06_digit v12) fun v13 =>
      ref06_IsIdent.j3 x9 (!v13)
    else
      ref06_IsIdent.j3 x9 false
  else
    some (.inr (.inl ()))
def ref06_IsIdent.j1 (s_ : Str) (x3 : Bool) : Option (Bool) :=
  if x3 = true then
    some false
  else
    Option.bind (loopM (ref06_IsIdent.l1 s_) 0) fun e => match e with
    | (.inl ()) =>
      some true
    | (.inr r16) =>
      some r16
def ref06_IsIdent (s_ : Str) : Option (Bool) :=
  if ((decide (((s_.length : Nat) : Int) < 1)) || (decide (((s_.length : Nat) : Int) > 32))) = true then
    ref06_IsIdent.j1 s_ true
  else
    Option.bind (getB s_ 0) fun v1 =>
    Option.bind (ref06_digit v1) fun v2 =>
    ref06_IsIdent.j1 s_ v2
theorem ref06_IsIdent.ok (s_ : Str) (r : Bool) (h0 : ref06_IsIdent s_ = some r) (w0 : World) (F0 : Heap) (hv : F0.Sub w0) (hG : Glob F0) (hg : SV.goods F0 [.v (.string ⟨⟨s_⟩⟩)]) (ρ : Nat → Nat) :
    Calls Tryz.prog 10 (SV.dens ρ [.v (.string ⟨⟨s_⟩⟩)]).toArray w0 (Ret0 w0 F0 fun s => s = .v (.bool r)) := by
 refine calls_of_wp Tryz.func10 rfl ?_
 have hX := Cx.enter (D := No) (B := []) (L := []) (ρ := ρ) (N := 35) Tryz.ntmps10 [.v (.string ⟨⟨s_⟩⟩)] (St.start hv) rfl hg (by kernel_rfl) (fun _ h => by cases h) (Nat.le_of_ble_eq_true rfl) No.unfix
 unfold ref06_IsIdent at h0
 refine Cx.rseq hX [] [0] (l' := [(0, .v (.string ⟨⟨s_⟩⟩))]) (B' := []) (by kernel_rfl) fun ρ w a hX => ?_
 refine wp_seq_k fun K2 hK2 => ?_
 refine wp_seq_k fun K3 hK3 => ?_
 have J3 : ∀ (x3 : Bool), ref06_IsIdent.j1 s_ x3 = some r → ∀ (ρ : Nat → Nat) (w : World) (F : Heap) (a : Act), Cx 35 w0 F0 No w F [] [] ρ [(0, .v (.string ⟨⟨s_⟩⟩)), (16, .v (.bool x3))] a → K3 a w := by
  intro x3 h0  ρ w F a hX
  unfold ref06_IsIdent.j1 at h0
  refine hK3 _ _ ?_
  refine Cx.cond hX (b := x3) (by kernel_rfl) (fun hb => ?_) (fun hb => ?_)
  ·have h0 := ite_tt h0 hb
   refine Cx.rseq hX [] [2] (l' := [(2, .v (.bool false))]) (B' := []) (by kernel_rfl) fun ρ w a hX => ?_
   refine wp_ret ?_
   have hr := Option.some.inj (show some _ = some _ from h0)
   subst hr
   exact hX.ret0 (ss := [.v (.bool false)]) (by kernel_rfl) (by kernel_rfl) rfl
  ·have h0 := ite_ff h0 hb
   refine wp_skip ?_
   refine hK2 _ _ ?_
   refine wp_seq_k fun K5 hK5 => ?_
   refine Cx.rseq hX [] [0, 3] (l' := [(0, .v (.string ⟨⟨s_⟩⟩)), (3, .v (.int .i64 0))]) (B' := []) (by kernel_rfl) fun ρ w a hX => ?_
   refine wp_block ?_
   have hX := hX.keeps [0, 3] (l' := [(0, .v (.string ⟨⟨s_⟩⟩)), (3, .v (.int .i64 0))]) (by kernel_rfl)
   obtain ⟨e1, he1, h0⟩ := bnd_some h0
   have E1x0 : ∀ (_ : Unit), e1 = (.inl ()) → ∀ (ρ : Nat → Nat) (w : World) (F : Heap) (a : Act), Cx 35 w0 F0 No w F [] [] ρ [] a → K5 a w := by
    intro _ he  ρ w F a hX
    replace he := he.symm
    subst he
    (try dsimp only at h0)
    refine hK5 _ _ ?_
    refine Cx.rseq hX [] [2] (l' := [(2, .v (.bool true))]) (B' := []) (by kernel_rfl) fun ρ w a hX => ?_
    refine wp_ret ?_
    have hr := Option.some.inj (show some _ = some _ from h0)
    subst hr
    exact hX.ret0 (ss := [.v (.bool true)]) (by kernel_rfl) (by kernel_rfl) rfl
   refine loop_go (fun (x9 : Int) a w => ∃ (ρ : Nat → Nat) (F : Heap), Cx 35 w0 F0 No w F [] [] ρ [(0, .v (.string ⟨⟨s_⟩⟩)), (3, .v (.int .i64 x9))] a) he1 (fun LW1 x9 o1 h1 hb1 hx1 a w hI => ?_) _ _ ?_
   ·obtain ⟨ρ, F, hX⟩ := hI
    unfold ref06_IsIdent.l1 at h1
    (try dsimp only at h1)
    refine wp_seq_k fun K12 hK12 => ?_
    refine Cx.rseq hX [] [0, 3, 20] (l' := [(0, .v (.string ⟨⟨s_⟩⟩)), (3, .v (.int .i64 x9)), (20, .v (.bool (decide (x9 < ((s_.length : Nat) : Int)))))]) (B' := []) (by kernel_rfl) fun ρ w a hX => ?_
    refine Cx.cond hX (b := (decide (x9 < ((s_.length : Nat) : Int)))) (by kernel_rfl) (fun hb => ?_) (fun hb => ?_)
    ·have h1 := ite_tt h1 hb
     refine wp_skip ?_
     refine hK12 _ _ ?_
     refine wp_seq_k fun K14 hK14 => ?_
     refine wp_block ?_
     refine wp_seq_k fun K15 hK15 => ?_
     have J15 : ∀ (x14 : Bool), ref06_IsIdent.j3 x9 x14 = some o1 → ∀ (ρ : Nat → Nat) (w : World) (F : Heap) (a : Act), Cx 35 w0 F0 No w F [] [] ρ [(0, .v (.string ⟨⟨s_⟩⟩)), (3, .v (.int .i64 x9)), (34, .v (.bool x14))] a → K15 a w := by
      intro x14 h1  ρ w F a hX
      unfold ref06_IsIdent.j3 at h1
      refine hK15 _ _ ?_
      refine Cx.cond hX (b := x14) (by kernel_rfl) (fun hb => ?_) (fun hb => ?_)
      ·have h1 := ite_tt h1 hb
       refine Cx.rseq hX [] [2] (l' := [(2, .v (.bool false))]) (B' := []) (by kernel_rfl) fun ρ w a hX => ?_
       refine wp_ret ?_
       have he := hx1 _ (out_eq h1)
       subst he
       (try dsimp only at h0)
       have hr := Option.some.inj (show some _ = some _ from h0)
       subst hr
       exact hX.ret0 (ss := [.v (.bool false)]) (by kernel_rfl) (by kernel_rfl) rfl
      ·have h1 := ite_ff h1 hb
       refine wp_skip ?_
       refine hK14 _ _ ?_
       refine Cx.region hX [] [0, 3] (l' := [(0, .v (.string ⟨⟨s_⟩⟩)), (3, .v (.int .i64 (IntKind.wrap .i64 (x9 + 1))))]) (B' := []) (by kernel_rfl) fun ρ w a hX => ?_
       have hX := hX.keeps [0, 3] (l' := [(0, .v (.string ⟨⟨s_⟩⟩)), (3, .v (.int .i64 (IntKind.wrap .i64 (x9 + 1))))]) (by kernel_rfl)
       exact hb1 (IntKind.wrap .i64 (x9 + 1)) (out_eq h1) _ _ ⟨_, _, hX⟩
     refine wp_region_list ?_
     refine hX.part [] 2 [0, 3, 23, 24] (l' := [(0, .v (.string ⟨⟨s_⟩⟩)), (3, .v (.int .i64 x9)), (23, .v (.string ⟨⟨s_⟩⟩)), (24, .v (.int .i64 x9))]) (B' := []) (by kernel_rfl) fun ρ w a hX => ?_
     obtain ⟨v10, hv10, h1⟩ := bnd_some h1
     refine hX.idxStr (lit := []) (by kernel_rfl) (by kernel_rfl) rfl (s := s_) (k := .i64) (n := x9) (b := v10) (by kernel_rfl) (by kernel_rfl) (by kernel_rfl) hv10 fun a hX => ?_
     refine hX.part [] 0 [0, 3, 25] (l' := [(0, .v (.string ⟨⟨s_⟩⟩)), (3, .v (.int .i64 x9)), (25, .v (.int .u8 v10))]) (B' := []) (by kernel_rfl) fun ρ w a hX => ?_
     obtain ⟨v11, hv11, h1⟩ := bnd_some h1
     refine Cx.call0 hX (lit := []) (by kernel_rfl) rfl (by kernel_rfl) ⟨⟨_, Tryz.func22, by kernel_rfl, rfl⟩⟩ (ss := [.v (.int .u8 v10)]) (by kernel_rfl) [.v (.int .u8 v10)] rfl (fun hg => hg) (fun hv hle hg => ref06_letter.ok v10 v11 hv11 _ _ hv (hG.mono hle) hg _) (fun s F w a hp hX => ?_)
     subst hp
     refine hX.part [] 2 [0, 3, 28] (l' := [(0, .v (.string ⟨⟨s_⟩⟩)), (3, .v (.int .i64 x9)), (28, .v (.bool (!v11)))]) (B' := []) (by kernel_rfl) fun ρ w a hX => ?_
     refine ite_go h1 (fun hb h1 => ?_) (fun hb h1 => ?_)
     ·have hX := hX.relit 28 hb (by kernel_rfl)
      refine hX.part [5] 2 [0, 3, 28, 29, 30] (l' := [(0, .v (.string ⟨⟨s_⟩⟩)), (3, .v (.int .i64 x9)), (28, .v (.bool true)), (29, .v (.string ⟨⟨s_⟩⟩)), (30, .v (.int .i64 x9))]) (B' := []) (by kernel_rfl) fun ρ w a hX => ?_
      obtain ⟨v12, hv12, h1⟩ := bnd_some h1
      refine hX.idxStr (lit := [5]) (by kernel_rfl) (by kernel_rfl) rfl (s := s_) (k := .i64) (n := x9) (b := v12) (by kernel_rfl) (by kernel_rfl) (by kernel_rfl) hv12 fun a hX => ?_
      refine hX.part [5] 0 [0, 3, 28, 31] (l' := [(0, .v (.string ⟨⟨s_⟩⟩)), (3, .v (.int .i64 x9)), (28, .v (.bool true)), (31, .v (.int .u8 v12))]) (B' := []) (by kernel_rfl) fun ρ w a hX => ?_
      obtain ⟨v13, hv13, h1⟩ := bnd_some h1
      refine Cx.call0 hX (lit := [5]) (by kernel_rfl) rfl (by kernel_rfl) ⟨⟨_, Tryz.func21, by kernel_rfl, rfl⟩⟩ (ss := [.v (.int .u8 v12)]) (by kernel_rfl) [.v (.int .u8 v12)] rfl (fun hg => hg) (fun hv hle hg => ref06_digit.ok v12 v13 hv13 _ _ hv (hG.mono hle) hg _) (fun s F w a hp hX => ?_)
      subst hp
      refine hX.part [5] 2 [0, 3, 34] (l' := [(0, .v (.string ⟨⟨s_⟩⟩)), (3, .v (.int .i64 x9)), (34, .v (.bool (!v13)))]) (B' := []) (by kernel_rfl) fun ρ w a hX => ?_
      refine wpList_end ?_
      have hX := hX.keeps [0, 3, 34] (l' := [(0, .v (.string ⟨⟨s_⟩⟩)), (3, .v (.int .i64 x9)), (34, .v (.bool (!v13)))]) (by kernel_rfl)
      exact J15 (!v13) h1  _ _ _ _ hX
     ·have hX := hX.relit 28 hb (by kernel_rfl)
      refine hX.part [5] 6 [0, 3, 34] (l' := [(0, .v (.string ⟨⟨s_⟩⟩)), (3, .v (.int .i64 x9)), (34, .v (.bool false))]) (B' := []) (by kernel_rfl) fun ρ w a hX => ?_
      refine wpList_end ?_
      have hX := hX.keeps [0, 3, 34] (l' := [(0, .v (.string ⟨⟨s_⟩⟩)), (3, .v (.int .i64 x9)), (34, .v (.bool false))]) (by kernel_rfl)
      exact J15 false h1  _ _ _ _ hX
    ·have h1 := ite_ff h1 hb
     refine wp_exit ?_
     have hX := hX.keeps [] (l' := []) (by kernel_rfl)
     exact E1x0 () (hx1 _ (out_eq h1)).symm  _ _ _ _ hX
   ·exact ⟨_, _, hX⟩
 refine wp_region_list ?_
 refine hX.part [] 9 [0, 12] (l' := [(0, .v (.string ⟨⟨s_⟩⟩)), (12, .v (.bool ((decide (((s_.length : Nat) : Int) < 1)) || (decide (((s_.length : Nat) : Int) > 32)))))]) (B' := []) (by kernel_rfl) fun ρ w a hX => ?_
 refine ite_go h0 (fun hb h0 => ?_) (fun hb h0 => ?_)
 ·have hX := hX.relit 12 hb (by kernel_rfl)
  refine hX.part [8] 4 [0, 16] (l' := [(0, .v (.string ⟨⟨s_⟩⟩)), (16, .v (.bool true))]) (B' := []) (by kernel_rfl) fun ρ w a hX => ?_
  refine wpList_end ?_
  have hX := hX.keeps [0, 16] (l' := [(0, .v (.string ⟨⟨s_⟩⟩)), (16, .v (.bool true))]) (by kernel_rfl)
  exact J3 true h0  _ _ _ _ hX
 ·have hX := hX.relit 12 hb (by kernel_rfl)
  refine hX.part [8] 1 [0, 12, 13] (l' := [(0, .v (.string ⟨⟨s_⟩⟩)), (12, .v (.bool false)), (13, .v (.string ⟨⟨s_⟩⟩))]) (B' := []) (by kernel_rfl) fun ρ w a hX => ?_
  obtain ⟨v1, hv1, h0⟩ := bnd_some h0
  refine hX.idxStr (lit := [8]) (by kernel_rfl) (by kernel_rfl) rfl (s := s_) (k := .i64) (n := 0) (b := v1) (by kernel_rfl) (by kernel_rfl) (by kernel_rfl) hv1 fun a hX => ?_
  refine hX.part [8] 0 [0, 12, 14] (l' := [(0, .v (.string ⟨⟨s_⟩⟩)), (12, .v (.bool false)), (14, .v (.int .u8 v1))]) (B' := []) (by kernel_rfl) fun ρ w a hX => ?_
  obtain ⟨v2, hv2, h0⟩ := bnd_some h0
  refine Cx.call0 hX (lit := [8]) (by kernel_rfl) rfl (by kernel_rfl) ⟨⟨_, Tryz.func21, by kernel_rfl, rfl⟩⟩ (ss := [.v (.int .u8 v1)]) (by kernel_rfl) [.v (.int .u8 v1)] rfl (fun hg => hg) (fun hv hle hg => ref06_digit.ok v1 v2 hv2 _ _ hv (hG.mono hle) hg _) (fun s F w a hp hX => ?_)
  subst hp
  refine hX.part [] 1 [0, 16] (l' := [(0, .v (.string ⟨⟨s_⟩⟩)), (16, .v (.bool v2))]) (B' := []) (by kernel_rfl) fun ρ w a hX => ?_
  refine wpList_end ?_
  have hX := hX.keeps [0, 16] (l' := [(0, .v (.string ⟨⟨s_⟩⟩)), (16, .v (.bool v2))]) (by kernel_rfl)
  exact J3 v2 h0  _ _ _ _ hX
def ref06_words : Option ((List Str)) :=
  some ([([98, 114, 101, 97, 107] : Str), ([99, 97, 115, 101] : Str), ([99, 97, 116, 99, 104] : Str), ([99, 108, 97, 115, 115] : Str), ([99, 111, 110, 115, 116] : Str), ([99, 111, 110, 116, 105, 110, 117, 101] : Str), ([100, 101, 98, 117, 103, 103, 101, 114] : Str), ([100, 101, 102, 97, 117, 108, 116] : Str), ([100, 101, 108, 101, 116, 101] : Str), ([100, 111] : Str), ([101, 108, 115, 101] : Str), ([101, 110, 117, 109] : Str), ([101, 120, 112, 111, 114, 116] : Str), ([101, 120, 116, 101, 110, 100, 115] : Str), ([102, 97, 108, 115, 101] : Str), ([102, 105, 110, 97, 108, 108, 121] : Str), ([102, 111, 114] : Str), ([102, 117, 110, 99, 116, 105, 111, 110] : Str), ([105, 102] : Str), ([105, 109, 112, 108, 101, 109, 101, 110, 116, 115] : Str), ([105, 109, 112, 111, 114, 116] : Str), ([105, 110] : Str), ([105, 110, 115, 116, 97, 110, 99, 101, 111, 102] : Str), ([105, 110, 116, 101, 114, 102, 97, 99, 101] : Str), ([108, 101, 116] : Str), ([110, 101, 119] : Str), ([110, 117, 108, 108] : Str), ([112, 97, 99, 107, 97, 103, 101] : Str), ([112, 114, 105, 118, 97, 116, 101] : Str), ([112, 114, 111, 116, 101, 99, 116, 101, 100] : Str), ([112, 117, 98, 108, 105, 99] : Str), ([114, 101, 116, 117, 114, 110] : Str), ([115, 116, 97, 116, 105, 99] : Str), ([115, 117, 112, 101, 114] : Str), ([115, 119, 105, 116, 99, 104] : Str), ([116, 104, 105, 115] : Str), ([116, 104, 114, 111, 119] : Str), ([116, 114, 117, 101] : Str), ([116, 114, 121] : Str), ([116, 121, 112, 101, 111, 102] : Str), ([118, 97, 114] : Str), ([118, 111, 105, 100] : Str), ([119, 104, 105, 108, 101] : Str), ([119, 105, 116, 104] : Str), ([121, 105, 101, 108, 100] : Str)] : List Str)
theorem ref06_words.ok (r : (List Str)) (h0 : ref06_words = some r) (w0 : World) (F0 : Heap) (hv : F0.Sub w0) (hG : Glob F0) (hg : SV.goods F0 []) (ρ : Nat → Nat) :
    Calls Tryz.prog 23 (SV.dens ρ []).toArray w0 (Ret0 w0 F0 fun s => ∃ A c, s = SV.sl kStr r A c) := by
 refine calls_of_wp Tryz.func23 rfl ?_
 have hX := Cx.enter (D := No) (B := []) (L := []) (ρ := ρ) (N := 2) Tryz.ntmps23 [] (St.start hv) rfl hg (by kernel_rfl) (fun _ h => by cases h) (Nat.le_of_ble_eq_true rfl) No.unfix
 unfold ref06_words at h0
 refine Cx.rseq hX [] [] (l' := []) (B' := []) (by kernel_rfl) fun ρ w a hX => ?_
 refine Cx.rseq hX [] [0] (l' := [(0, .slc 0 0 45 45)]) (B' := [some ⟨9, [.v (.string ⟨⟨([98, 114, 101, 97, 107] : Str)⟩⟩), .v (.string ⟨⟨([99, 97, 115, 101] : Str)⟩⟩), .v (.string ⟨⟨([99, 97, 116, 99, 104] : Str)⟩⟩), .v (.string ⟨⟨([99, 108, 97, 115, 115] : Str)⟩⟩), .v (.string ⟨⟨([99, 111, 110, 115, 116] : Str)⟩⟩), .v (.string ⟨⟨([99, 111, 110, 116, 105, 110, 117, 101] : Str)⟩⟩), .v (.string ⟨⟨([100, 101, 98, 117, 103, 103, 101, 114] : Str)⟩⟩), .v (.string ⟨⟨([100, 101, 102, 97, 117, 108, 116] : Str)⟩⟩), .v (.string ⟨⟨([100, 101, 108, 101, 116, 101] : Str)⟩⟩), .v (.string ⟨⟨([100, 111] : Str)⟩⟩), .v (.string ⟨⟨([101, 108, 115, 101] : Str)⟩⟩), .v (.string ⟨⟨([101, 110, 117, 109] : Str)⟩⟩), .v (.string ⟨⟨([101, 120, 112, 111, 114, 116] : Str)⟩⟩), .v (.string ⟨⟨([101, 120, 116, 101, 110, 100, 115] : Str)⟩⟩), .v (.string ⟨⟨([102, 97, 108, 115, 101] : Str)⟩⟩), .v (.string ⟨⟨([102, 105, 110, 97, 108, 108, 121] : Str)⟩⟩), .v (.string ⟨⟨([102, 111, 114] : Str)⟩⟩), .v (.string ⟨⟨([102, 117, 110, 99, 116, 105, 111, 110] : Str)⟩⟩), .v (.string ⟨⟨([105, 102] : Str)⟩⟩), .v (.string ⟨⟨([105, 109, 112, 108, 101, 109, 101, 110, 116, 115] : Str)⟩⟩), .v (.string ⟨⟨([105, 109, 112, 111, 114, 116] : Str)⟩⟩), .v (.string ⟨⟨([105, 110] : Str)⟩⟩), .v (.string ⟨⟨([105, 110, 115, 116, 97, 110, 99, 101, 111, 102] : Str)⟩⟩), .v (.string ⟨⟨([105, 110, 116, 101, 114, 102, 97, 99, 101] : Str)⟩⟩), .v (.string ⟨⟨([108, 101, 116] : Str)⟩⟩), .v (.string ⟨⟨([110, 101, 119] : Str)⟩⟩), .v (.string ⟨⟨([110, 117, 108, 108] : Str)⟩⟩), .v (.string ⟨⟨([112, 97, 99, 107, 97, 103, 101] : Str)⟩⟩), .v (.string ⟨⟨([112, 114, 105, 118, 97, 116, 101] : Str)⟩⟩), .v (.string ⟨⟨([112, 114, 111, 116, 101, 99, 116, 101, 100] : Str)⟩⟩), .v (.string ⟨⟨([112, 117, 98, 108, 105, 99] : Str)⟩⟩), .v (.string ⟨⟨([114, 101, 116, 117, 114, 110] : Str)⟩⟩), .v (.string ⟨⟨([115, 116, 97, 116, 105, 99] : Str)⟩⟩), .v (.string ⟨⟨([115, 117, 112, 101, 114] : Str)⟩⟩), .v (.string ⟨⟨([115, 119, 105, 116, 99, 104] : Str)⟩⟩), .v (.string ⟨⟨([116, 104, 105, 115] : Str)⟩⟩), .v (.string ⟨⟨([116, 104, 114, 111, 119] : Str)⟩⟩), .v (.string ⟨⟨([116, 114, 117, 101] : Str)⟩⟩), .v (.string ⟨⟨([116, 114, 121] : Str)⟩⟩), .v (.string ⟨⟨([116, 121, 112, 101, 111, 102] : Str)⟩⟩), .v (.string ⟨⟨([118, 97, 114] : Str)⟩⟩), .v (.string ⟨⟨([118, 111, 105, 100] : Str)⟩⟩), .v (.string ⟨⟨([119, 104, 105, 108, 101] : Str)⟩⟩), .v (.string ⟨⟨([119, 105, 116, 104] : Str)⟩⟩), .v (.string ⟨⟨([121, 105, 101, 108, 100] : Str)⟩⟩)]⟩]) (by kernel_rfl) fun ρ w a hX => ?_
 refine wp_ret ?_
 obtain ⟨b1, hb, hX⟩ := hX.boxAcc2 (d := kStr) (e := 9) (k := 0) (t := 0) (m := 45) ([(([98, 114, 101, 97, 107] : Str), ()), (([99, 97, 115, 101] : Str), ()), (([99, 97, 116, 99, 104] : Str), ()), (([99, 108, 97, 115, 115] : Str), ()), (([99, 111, 110, 115, 116] : Str), ()), (([99, 111, 110, 116, 105, 110, 117, 101] : Str), ()), (([100, 101, 98, 117, 103, 103, 101, 114] : Str), ()), (([100, 101, 102, 97, 117, 108, 116] : Str), ()), (([100, 101, 108, 101, 116, 101] : Str), ()), (([100, 111] : Str), ()), (([101, 108, 115, 101] : Str), ()), (([101, 110, 117, 109] : Str), ()), (([101, 120, 112, 111, 114, 116] : Str), ()), (([101, 120, 116, 101, 110, 100, 115] : Str), ()), (([102, 97, 108, 115, 101] : Str), ()), (([102, 105, 110, 97, 108, 108, 121] : Str), ()), (([102, 111, 114] : Str), ()), (([102, 117, 110, 99, 116, 105, 111, 110] : Str), ()), (([105, 102] : Str), ()), (([105, 109, 112, 108, 101, 109, 101, 110, 116, 115] : Str), ()), (([105, 109, 112, 111, 114, 116] : Str), ()), (([105, 110] : Str), ()), (([105, 110, 115, 116, 97, 110, 99, 101, 111, 102] : Str), ()), (([105, 110, 116, 101, 114, 102, 97, 99, 101] : Str), ()), (([108, 101, 116] : Str), ()), (([110, 101, 119] : Str), ()), (([110, 117, 108, 108] : Str), ()), (([112, 97, 99, 107, 97, 103, 101] : Str), ()), (([112, 114, 105, 118, 97, 116, 101] : Str), ()), (([112, 114, 111, 116, 101, 99, 116, 101, 100] : Str), ()), (([112, 117, 98, 108, 105, 99] : Str), ()), (([114, 101, 116, 117, 114, 110] : Str), ()), (([115, 116, 97, 116, 105, 99] : Str), ()), (([115, 117, 112, 101, 114] : Str), ()), (([115, 119, 105, 116, 99, 104] : Str), ()), (([116, 104, 105, 115] : Str), ()), (([116, 104, 114, 111, 119] : Str), ()), (([116, 114, 117, 101] : Str), ()), (([116, 114, 121] : Str), ()), (([116, 121, 112, 101, 111, 102] : Str), ()), (([118, 97, 114] : Str), ()), (([118, 111, 105, 100] : Str), ()), (([119, 104, 105, 108, 101] : Str), ()), (([119, 105, 116, 104] : Str), ()), (([121, 105, 101, 108, 100] : Str), ())] : List (Str × (kStr).Y)) (by kernel_rfl) (by kernel_rfl) rfl rfl (by decide) ⟨_, rfl⟩
 have hX : Cx 2 _ _ _ _ _ [accP 9 kStr (some ⟨b1, 0, none⟩) 45 ([([98, 114, 101, 97, 107] : Str), ([99, 97, 115, 101] : Str), ([99, 97, 116, 99, 104] : Str), ([99, 108, 97, 115, 115] : Str), ([99, 111, 110, 115, 116] : Str), ([99, 111, 110, 116, 105, 110, 117, 101] : Str), ([100, 101, 98, 117, 103, 103, 101, 114] : Str), ([100, 101, 102, 97, 117, 108, 116] : Str), ([100, 101, 108, 101, 116, 101] : Str), ([100, 111] : Str), ([101, 108, 115, 101] : Str), ([101, 110, 117, 109] : Str), ([101, 120, 112, 111, 114, 116] : Str), ([101, 120, 116, 101, 110, 100, 115] : Str), ([102, 97, 108, 115, 101] : Str), ([102, 105, 110, 97, 108, 108, 121] : Str), ([102, 111, 114] : Str), ([102, 117, 110, 99, 116, 105, 111, 110] : Str), ([105, 102] : Str), ([105, 109, 112, 108, 101, 109, 101, 110, 116, 115] : Str), ([105, 109, 112, 111, 114, 116] : Str), ([105, 110] : Str), ([105, 110, 115, 116, 97, 110, 99, 101, 111, 102] : Str), ([105, 110, 116, 101, 114, 102, 97, 99, 101] : Str), ([108, 101, 116] : Str), ([110, 101, 119] : Str), ([110, 117, 108, 108] : Str), ([112, 97, 99, 107, 97, 103, 101] : Str), ([112, 114, 105, 118, 97, 116, 101] : Str), ([112, 114, 111, 116, 101, 99, 116, 101, 100] : Str), ([112, 117, 98, 108, 105, 99] : Str), ([114, 101, 116, 117, 114, 110] : Str), ([115, 116, 97, 116, 105, 99] : Str), ([115, 117, 112, 101, 114] : Str), ([115, 119, 105, 116, 99, 104] : Str), ([116, 104, 105, 115] : Str), ([116, 104, 114, 111, 119] : Str), ([116, 114, 117, 101] : Str), ([116, 114, 121] : Str), ([116, 121, 112, 101, 111, 102] : Str), ([118, 97, 114] : Str), ([118, 111, 105, 100] : Str), ([119, 104, 105, 108, 101] : Str), ([119, 105, 116, 104] : Str), ([121, 105, 101, 108, 100] : Str)] : List Str)] [none] ρ _ a := hX
 obtain ⟨F, hX⟩ := hX.freeze (i := 0) (t := 0) (e := 9) (d := kStr) (A := (some ⟨b1, 0, none⟩)) (c := 45) (xs := ([([98, 114, 101, 97, 107] : Str), ([99, 97, 115, 101] : Str), ([99, 97, 116, 99, 104] : Str), ([99, 108, 97, 115, 115] : Str), ([99, 111, 110, 115, 116] : Str), ([99, 111, 110, 116, 105, 110, 117, 101] : Str), ([100, 101, 98, 117, 103, 103, 101, 114] : Str), ([100, 101, 102, 97, 117, 108, 116] : Str), ([100, 101, 108, 101, 116, 101] : Str), ([100, 111] : Str), ([101, 108, 115, 101] : Str), ([101, 110, 117, 109] : Str), ([101, 120, 112, 111, 114, 116] : Str), ([101, 120, 116, 101, 110, 100, 115] : Str), ([102, 97, 108, 115, 101] : Str), ([102, 105, 110, 97, 108, 108, 121] : Str), ([102, 111, 114] : Str), ([102, 117, 110, 99, 116, 105, 111, 110] : Str), ([105, 102] : Str), ([105, 109, 112, 108, 101, 109, 101, 110, 116, 115] : Str), ([105, 109, 112, 111, 114, 116] : Str), ([105, 110] : Str), ([105, 110, 115, 116, 97, 110, 99, 101, 111, 102] : Str), ([105, 110, 116, 101, 114, 102, 97, 99, 101] : Str), ([108, 101, 116] : Str), ([110, 101, 119] : Str), ([110, 117, 108, 108] : Str), ([112, 97, 99, 107, 97, 103, 101] : Str), ([112, 114, 105, 118, 97, 116, 101] : Str), ([112, 114, 111, 116, 101, 99, 116, 101, 100] : Str), ([112, 117, 98, 108, 105, 99] : Str), ([114, 101, 116, 117, 114, 110] : Str), ([115, 116, 97, 116, 105, 99] : Str), ([115, 117, 112, 101, 114] : Str), ([115, 119, 105, 116, 99, 104] : Str), ([116, 104, 105, 115] : Str), ([116, 104, 114, 111, 119] : Str), ([116, 114, 117, 101] : Str), ([116, 114, 121] : Str), ([116, 121, 112, 101, 111, 102] : Str), ([118, 97, 114] : Str), ([118, 111, 105, 100] : Str), ([119, 104, 105, 108, 101] : Str), ([119, 105, 116, 104] : Str), ([121, 105, 101, 108, 100] : Str)] : List Str)) rfl (by kernel_rfl)
 have hX : Cx 2 _ _ _ _ _ [] [none] ρ _ a := hX
 have hr := Option.some.inj (show some _ = some _ from h0)
 subst hr
 exact hX.ret0 (ss := [SV.sl kStr ([([98, 114, 101, 97, 107] : Str), ([99, 97, 115, 101] : Str), ([99, 97, 116, 99, 104] : Str), ([99, 108, 97, 115, 115] : Str), ([99, 111, 110, 115, 116] : Str), ([99, 111, 110, 116, 105, 110, 117, 101] : Str), ([100, 101, 98, 117, 103, 103, 101, 114] : Str), ([100, 101, 102, 97, 117, 108, 116] : Str), ([100, 101, 108, 101, 116, 101] : Str), ([100, 111] : Str), ([101, 108, 115, 101] : Str), ([101, 110, 117, 109] : Str), ([101, 120, 112, 111, 114, 116] : Str), ([101, 120, 116, 101, 110, 100, 115] : Str), ([102, 97, 108, 115, 101] : Str), ([102, 105, 110, 97, 108, 108, 121] : Str), ([102, 111, 114] : Str), ([102, 117, 110, 99, 116, 105, 111, 110] : Str), ([105, 102] : Str), ([105, 109, 112, 108, 101, 109, 101, 110, 116, 115] : Str), ([105, 109, 112, 111, 114, 116] : Str), ([105, 110] : Str), ([105, 110, 115, 116, 97, 110, 99, 101, 111, 102] : Str), ([105, 110, 116, 101, 114, 102, 97, 99, 101] : Str), ([108, 101, 116] : Str), ([110, 101, 119] : Str), ([110, 117, 108, 108] : Str), ([112, 97, 99, 107, 97, 103, 101] : Str), ([112, 114, 105, 118, 97, 116, 101] : Str), ([112, 114, 111, 116, 101, 99, 116, 101, 100] : Str), ([112, 117, 98, 108, 105, 99] : Str), ([114, 101, 116, 117, 114, 110] : Str), ([115, 116, 97, 116, 105, 99] : Str), ([115, 117, 112, 101, 114] : Str), ([115, 119, 105, 116, 99, 104] : Str), ([116, 104, 105, 115] : Str), ([116, 104, 114, 111, 119] : Str), ([116, 114, 117, 101] : Str), ([116, 114, 121] : Str), ([116, 121, 112, 101, 111, 102] : Str), ([118, 97, 114] : Str), ([118, 111, 105, 100] : Str), ([119, 104, 105, 108, 101] : Str), ([119, 105, 116, 104] : Str), ([121, 105, 101, 108, 100] : Str)] : List Str) (some ⟨b1, 0, none⟩) 45]) (by kernel_rfl) (by kernel_rfl) ⟨_, _, rfl⟩
def ref06_IsWord.l1 (s_ : Str) (v1 : (List Str)) (x8 : Int) : Option ((Int) ⊕ ((Unit) ⊕ (Bool))) :=
  if (decide (x8 < ((v1.length : Nat) : Int))) = true then
    Option.bind (getI v1 x8) fun v9 =>
    if (s_ == v9) = true then
      some (.inr (.inr true))
    else
      some (.inl (IntKind.wrap .i64 (x8 + 1)))
  else
    some (.inr (.inl ()))
def ref06_IsWord (s_ : Str) : Option (Bool) :=
  Option.bind (ref06_words) fun v1 =>
  Option.bind (loopM (ref06_IsWord.l1 s_ v1) 0) fun e => match e with
  | (.inl ()) =>
    some false
  | (.inr r14) =>
    some r14
theorem ref06_IsWord.ok (s_ : Str) (r : Bool) (h0 : ref06_IsWord s_ = some r) (w0 : World) (F0 : Heap) (hv : F0.Sub w0) (hG : Glob F0) (hg : SV.goods F0 [.v (.string ⟨⟨s_⟩⟩)]) (ρ : Nat → Nat) :
    Calls Tryz.prog 11 (SV.dens ρ [.v (.string ⟨⟨s_⟩⟩)]).toArray w0 (Ret0 w0 F0 fun s => s = .v (.bool r)) := by
 refine calls_of_wp Tryz.func11 rfl ?_
 have hX := Cx.enter (D := No) (B := []) (L := []) (ρ := ρ) (N := 15) Tryz.ntmps11 [.v (.string ⟨⟨s_⟩⟩)] (St.start hv) rfl hg (by kernel_rfl) (fun _ h => by cases h) (Nat.le_of_ble_eq_true rfl) No.unfix
 unfold ref06_IsWord at h0
 refine Cx.rseq hX [] [0] (l' := [(0, .v (.string ⟨⟨s_⟩⟩))]) (B' := []) (by kernel_rfl) fun ρ w a hX => ?_
 refine wp_seq_k fun K2 hK2 => ?_
 refine wp_seq_k fun K3 hK3 => ?_
 refine wp_region_list ?_
 refine hX.part [] 0 [0] (l' := [(0, .v (.string ⟨⟨s_⟩⟩))]) (B' := []) (by kernel_rfl) fun ρ w a hX => ?_
 obtain ⟨v1, hv1, h0⟩ := bnd_some h0
 refine Cx.call0 hX (lit := []) (by kernel_rfl) rfl (by kernel_rfl) ⟨⟨_, Tryz.func23, by kernel_rfl, rfl⟩⟩ (ss := []) (by kernel_rfl) [] rfl (fun hg => hg) (fun hv hle hg => ref06_words.ok v1 hv1 _ _ hv (hG.mono hle) hg _) (fun s F w a hp hX => ?_)
 obtain ⟨A2, c3, rfl⟩ := hp
 refine hX.part [] 2 [0, 5, 6, 7] (l' := [(0, .v (.string ⟨⟨s_⟩⟩)), (5, SV.sl kStr v1 A2 c3), (6, .v (.int .i64 ((v1.length : Nat) : Int))), (7, .v (.int .i64 0))]) (B' := []) (by kernel_rfl) fun ρ w a hX => ?_
 refine wpList_end ?_
 refine hK3 _ _ ?_
 refine wp_block ?_
 have hX := hX.keeps [0, 5, 6, 7] (l' := [(0, .v (.string ⟨⟨s_⟩⟩)), (5, SV.sl kStr v1 A2 c3), (6, .v (.int .i64 ((v1.length : Nat) : Int))), (7, .v (.int .i64 0))]) (by kernel_rfl)
 obtain ⟨e1, he1, h0⟩ := bnd_some h0
 have E1x0 : ∀ (_ : Unit), e1 = (.inl ()) → ∀ (ρ : Nat → Nat) (w : World) (F : Heap) (a : Act), Cx 15 w0 F0 No w F [] [] ρ [] a → K2 a w := by
  intro _ he  ρ w F a hX
  replace he := he.symm
  subst he
  (try dsimp only at h0)
  refine hK2 _ _ ?_
  refine Cx.rseq hX [] [2] (l' := [(2, .v (.bool false))]) (B' := []) (by kernel_rfl) fun ρ w a hX => ?_
  refine wp_ret ?_
  have hr := Option.some.inj (show some _ = some _ from h0)
  subst hr
  exact hX.ret0 (ss := [.v (.bool false)]) (by kernel_rfl) (by kernel_rfl) rfl
 refine loop_go (fun (x8 : Int) a w => ∃ (ρ : Nat → Nat) (F : Heap), Cx 15 w0 F0 No w F [] [] ρ [(0, .v (.string ⟨⟨s_⟩⟩)), (5, SV.sl kStr v1 A2 c3), (6, .v (.int .i64 ((v1.length : Nat) : Int))), (7, .v (.int .i64 x8))] a) he1 (fun LW1 x8 o1 h1 hb1 hx1 a w hI => ?_) _ _ ?_
 ·obtain ⟨ρ, F, hX⟩ := hI
  unfold ref06_IsWord.l1 at h1
  (try dsimp only at h1)
  refine Cx.rseq hX [] [0, 5, 6, 7, 8] (l' := [(0, .v (.string ⟨⟨s_⟩⟩)), (5, SV.sl kStr v1 A2 c3), (6, .v (.int .i64 ((v1.length : Nat) : Int))), (7, .v (.int .i64 x8)), (8, .v (.bool (decide (x8 < ((v1.length : Nat) : Int)))))]) (B' := []) (by kernel_rfl) fun ρ w a hX => ?_
  refine wp_seq_k fun K11 hK11 => ?_
  refine Cx.cond hX (b := (decide (x8 < ((v1.length : Nat) : Int)))) (by kernel_rfl) (fun hb => ?_) (fun hb => ?_)
  ·have h1 := ite_tt h1 hb
   refine wp_skip ?_
   refine hK11 _ _ ?_
   refine wp_seq_k fun K12 hK12 => ?_
   refine wp_block ?_
   refine wp_seq_k fun K13 hK13 => ?_
   refine wp_region_list ?_
   refine hX.part [] 0 [0, 5, 6, 7] (l' := [(0, .v (.string ⟨⟨s_⟩⟩)), (5, SV.sl kStr v1 A2 c3), (6, .v (.int .i64 ((v1.length : Nat) : Int))), (7, .v (.int .i64 x8))]) (B' := []) (by kernel_rfl) fun ρ w a hX => ?_
   obtain ⟨v9, hv9, h1⟩ := bnd_some h1
   refine hX.idxSl (lit := []) (by kernel_rfl) (by kernel_rfl) rfl (d := kStr) (e := 9) (xs := v1) (A := A2) (c := c3) (k := .i64) (n := x8) (v := v9) (by kernel_rfl) (by kernel_rfl) (by kernel_rfl) (by kernel_rfl) hv9 fun y10 b11 o12 a hX => ?_
   refine hX.part [] 2 [0, 4, 5, 6, 7] (l' := [(0, .v (.string ⟨⟨s_⟩⟩)), (4, .v (.string ⟨⟨v9⟩⟩)), (5, SV.sl kStr v1 A2 c3), (6, .v (.int .i64 ((v1.length : Nat) : Int))), (7, .v (.int .i64 x8))]) (B' := []) (by kernel_rfl) fun ρ w a hX => ?_
   refine wpList_end ?_
   refine hK13 _ _ ?_
   refine Cx.rseq hX [] [0, 5, 6, 7, 13] (l' := [(0, .v (.string ⟨⟨s_⟩⟩)), (5, SV.sl kStr v1 A2 c3), (6, .v (.int .i64 ((v1.length : Nat) : Int))), (7, .v (.int .i64 x8)), (13, .v (.bool (s_ == v9)))]) (B' := []) (by kernel_rfl) fun ρ w a hX => ?_
   refine Cx.cond hX (b := (s_ == v9)) (by kernel_rfl) (fun hb => ?_) (fun hb => ?_)
   ·have h1 := ite_tt h1 hb
    refine Cx.rseq hX [] [2] (l' := [(2, .v (.bool true))]) (B' := []) (by kernel_rfl) fun ρ w a hX => ?_
    refine wp_ret ?_
    have he := hx1 _ (out_eq h1)
    subst he
    (try dsimp only at h0)
    have hr := Option.some.inj (show some _ = some _ from h0)
    subst hr
    exact hX.ret0 (ss := [.v (.bool true)]) (by kernel_rfl) (by kernel_rfl) rfl
   ·have h1 := ite_ff h1 hb
    refine wp_skip ?_
    refine hK12 _ _ ?_
    refine Cx.region hX [] [0, 5, 6, 7] (l' := [(0, .v (.string ⟨⟨s_⟩⟩)), (5, SV.sl kStr v1 A2 c3), (6, .v (.int .i64 ((v1.length : Nat) : Int))), (7, .v (.int .i64 (IntKind.wrap .i64 (x8 + 1))))]) (B' := []) (by kernel_rfl) fun ρ w a hX => ?_
    have hX := hX.keeps [0, 5, 6, 7] (l' := [(0, .v (.string ⟨⟨s_⟩⟩)), (5, SV.sl kStr v1 A2 c3), (6, .v (.int .i64 ((v1.length : Nat) : Int))), (7, .v (.int .i64 (IntKind.wrap .i64 (x8 + 1))))]) (by kernel_rfl)
    exact hb1 (IntKind.wrap .i64 (x8 + 1)) (out_eq h1) _ _ ⟨_, _, hX⟩
  ·have h1 := ite_ff h1 hb
   refine wp_exit ?_
   have hX := hX.keeps [] (l' := []) (by kernel_rfl)
   exact E1x0 () (hx1 _ (out_eq h1)).symm  _ _ _ _ hX
 ·exact ⟨_, _, hX⟩
structure Rec1.R where
  ref03_Digits : Int → Option (Str)
structure Rec1.Ok (R_ : Rec1.R) : Prop where
  ref03_Digits : ∀ (n_ : Int) (r : Str) (h0 : R_.ref03_Digits n_ = some r) (w0 : World) (F0 : Heap) (hv : F0.Sub w0) (hG : Glob F0) (hg : SV.goods F0 [.v (.int .i64 n_)]) (ρ : Nat → Nat), Calls Tryz.prog 12 (SV.dens ρ [.v (.int .i64 n_)]).toArray w0 (Ret0 w0 F0 fun s => s = .v (.string ⟨⟨r⟩⟩))
def ref03_Digits_bd (R_ : Rec1.R) (n_ : Int) : Option (Str) :=
  if (decide (n_ < 0)) = true then
    Option.bind (R_.ref03_Digits (IntKind.wrap .i64 (0 - n_))) fun v1 =>
    Option.bind (catS ([45] : Str) v1) fun v2 =>
    some v2
  else
    Option.bind (toB (IntKind.wrap .u8 (IntKind.wrap .i64 (48 + (Int.tmod n_ 10))))) fun b3 =>
    if (decide (n_ < 10)) = true then
      some ([b3] : List UInt8)
    else
      Option.bind (R_.ref03_Digits (IntKind.wrap .i64 (Int.tdiv n_ 10))) fun v5 =>
      Option.bind (catS v5 ([b3] : List UInt8)) fun v6 =>
      some v6
theorem ref03_Digits_bd.ok (R_ : Rec1.R) (hR : Rec1.Ok R_) (n_ : Int) (r : Str) (h0 : ref03_Digits_bd R_ n_ = some r) (w0 : World) (F0 : Heap) (hv : F0.Sub w0) (hG : Glob F0) (hg : SV.goods F0 [.v (.int .i64 n_)]) (ρ : Nat → Nat) :
    Calls Tryz.prog 12 (SV.dens ρ [.v (.int .i64 n_)]).toArray w0 (Ret0 w0 F0 fun s => s = .v (.string ⟨⟨r⟩⟩)) := by
 refine calls_of_wp Tryz.func12 rfl ?_
 have hX := Cx.enter (D := No) (B := []) (L := []) (ρ := ρ) (N := 24) Tryz.ntmps12 [.v (.int .i64 n_)] (St.start hv) rfl hg (by kernel_rfl) (fun _ h => by cases h) (Nat.le_of_ble_eq_true rfl) No.unfix
 unfold ref03_Digits_bd at h0
 refine Cx.rseq hX [] [0] (l' := [(0, .v (.int .i64 n_))]) (B' := []) (by kernel_rfl) fun ρ w a hX => ?_
 refine wp_seq_k fun K2 hK2 => ?_
 refine Cx.rseq hX [] [0, 5] (l' := [(0, .v (.int .i64 n_)), (5, .v (.bool (decide (n_ < 0))))]) (B' := []) (by kernel_rfl) fun ρ w a hX => ?_
 refine Cx.cond hX (b := (decide (n_ < 0))) (by kernel_rfl) (fun hb => ?_) (fun hb => ?_)
 ·have h0 := ite_tt h0 hb
  refine wp_seq_k fun K4 hK4 => ?_
  refine wp_region_list ?_
  refine hX.part [] 2 [7] (l' := [(7, .v (.int .i64 (IntKind.wrap .i64 (0 - n_))))]) (B' := []) (by kernel_rfl) fun ρ w a hX => ?_
  obtain ⟨v1, hv1, h0⟩ := bnd_some h0
  refine Cx.call0 hX (lit := []) (by kernel_rfl) rfl (by kernel_rfl) ⟨⟨_, Tryz.func12, by kernel_rfl, rfl⟩⟩ (ss := [.v (.int .i64 (IntKind.wrap .i64 (0 - n_)))]) (by kernel_rfl) [.v (.int .i64 (IntKind.wrap .i64 (0 - n_)))] rfl (fun hg => hg) (fun hv hle hg => hR.ref03_Digits (IntKind.wrap .i64 (0 - n_)) v1 hv1 _ _ hv (hG.mono hle) hg _) (fun s F w a hp hX => ?_)
  subst hp
  refine hX.part [] 0 [8] (l' := [(8, .v (.string ⟨⟨v1⟩⟩))]) (B' := []) (by kernel_rfl) fun ρ w a hX => ?_
  obtain ⟨v2, hv2, h0⟩ := bnd_some h0
  refine hX.catStr (lit := []) (by kernel_rfl) (by kernel_rfl) rfl (s := ([45] : Str)) (t := v1) (r := v2) (by kernel_rfl) (by kernel_rfl) hv2 fun a hX => ?_
  refine hX.part [] 1 [2] (l' := [(2, .v (.string ⟨⟨v2⟩⟩))]) (B' := []) (by kernel_rfl) fun ρ w a hX => ?_
  refine wpList_end ?_
  refine hK4 _ _ ?_
  refine wp_ret ?_
  have hr := Option.some.inj (show some _ = some _ from h0)
  subst hr
  exact hX.ret0 (ss := [.v (.string ⟨⟨v2⟩⟩)]) (by kernel_rfl) (by kernel_rfl) rfl
 ·have h0 := ite_ff h0 hb
  refine wp_skip ?_
  refine hK2 _ _ ?_
  refine wp_seq_k fun K5 hK5 => ?_
  refine wp_region_list ?_
  refine hX.part [] 5 [0, 14] (l' := [(0, .v (.int .i64 n_)), (14, .slc 0 0 1 1)]) (B' := [some ⟨5, [.v (.int .u8 (IntKind.wrap .u8 (IntKind.wrap .i64 (48 + (Int.tmod n_ 10)))))]⟩]) (by kernel_rfl) fun ρ w a hX => ?_
  obtain ⟨b3, hb3, h0⟩ := bnd_some h0
  have hX := hX.rebox 0 (b := ⟨5, [.v (.int .u8 (IntKind.wrap .u8 (IntKind.wrap .i64 (48 + (Int.tmod n_ 10)))))]⟩) (cs := [.v (.int .u8 ((b3.toNat : Nat) : Int))]) (B' := [some ⟨5, [.v (.int .u8 ((b3.toNat : Nat) : Int))]⟩]) (by kernel_rfl) (fun ρ => by simp only [SV.dens, SV.den, toB_some hb3]) (by have hg := (hX.bgood ⟨5, [.v (.int .u8 (IntKind.wrap .u8 (IntKind.wrap .i64 (48 + (Int.tmod n_ 10)))))]⟩ (List.mem_of_getElem? (i := 0) (by kernel_rfl))).1; exact ⟨trivial, trivial⟩) (by kernel_rfl) (by kernel_rfl)
  obtain ⟨b4, hb, hX⟩ := hX.boxAcc2 (d := kByte) (e := 5) (k := 0) (t := 14) (m := 1) ([(b3, ())] : List (UInt8 × (kByte).Y)) (by kernel_rfl) (by kernel_rfl) rfl rfl (by decide) ⟨_, rfl⟩
  have hX : Cx 24 _ _ _ _ _ [accP 5 kByte (some ⟨b4, 0, none⟩) 1 ([b3] : List UInt8)] [none] ρ _ a := hX
  obtain ⟨F, hX⟩ := hX.freeze (i := 0) (t := 14) (e := 5) (d := kByte) (A := (some ⟨b4, 0, none⟩)) (c := 1) (xs := ([b3] : List UInt8)) rfl (by kernel_rfl)
  have hX : Cx 24 _ _ _ _ _ [] [none] ρ _ a := hX
  refine hX.strSl (lit := []) (by kernel_rfl) (by kernel_rfl) rfl (e := 5) (xs := ([b3] : List UInt8)) (A := (some ⟨b4, 0, none⟩)) (c := 1) (by kernel_rfl) (by kernel_rfl) (by kernel_rfl) (by kernel_rfl) fun a hX => ?_
  refine hX.part [] 1 [0, 3] (l' := [(0, .v (.int .i64 n_)), (3, .v (.string ⟨⟨([b3] : List UInt8)⟩⟩))]) (B' := [none]) (by kernel_rfl) fun ρ w a hX => ?_
  refine wpList_end ?_
  refine hK5 _ _ ?_
  refine wp_seq_k fun K6 hK6 => ?_
  refine Cx.rseq hX [] [0, 3, 17] (l' := [(0, .v (.int .i64 n_)), (3, .v (.string ⟨⟨([b3] : List UInt8)⟩⟩)), (17, .v (.bool (decide (n_ < 10))))]) (B' := [none]) (by kernel_rfl) fun ρ w a hX => ?_
  refine Cx.cond hX (b := (decide (n_ < 10))) (by kernel_rfl) (fun hb => ?_) (fun hb => ?_)
  ·have h0 := ite_tt h0 hb
   refine Cx.rseq hX [] [2] (l' := [(2, .v (.string ⟨⟨([b3] : List UInt8)⟩⟩))]) (B' := [none]) (by kernel_rfl) fun ρ w a hX => ?_
   refine wp_ret ?_
   have hr := Option.some.inj (show some _ = some _ from h0)
   subst hr
   exact hX.ret0 (ss := [.v (.string ⟨⟨([b3] : List UInt8)⟩⟩)]) (by kernel_rfl) (by kernel_rfl) rfl
  ·have h0 := ite_ff h0 hb
   refine wp_skip ?_
   refine hK6 _ _ ?_
   refine wp_seq_k fun K9 hK9 => ?_
   refine wp_region_list ?_
   refine hX.part [] 2 [3, 20] (l' := [(3, .v (.string ⟨⟨([b3] : List UInt8)⟩⟩)), (20, .v (.int .i64 (IntKind.wrap .i64 (Int.tdiv n_ 10))))]) (B' := [none]) (by kernel_rfl) fun ρ w a hX => ?_
   obtain ⟨v5, hv5, h0⟩ := bnd_some h0
   refine Cx.call0 hX (lit := []) (by kernel_rfl) rfl (by kernel_rfl) ⟨⟨_, Tryz.func12, by kernel_rfl, rfl⟩⟩ (ss := [.v (.int .i64 (IntKind.wrap .i64 (Int.tdiv n_ 10)))]) (by kernel_rfl) [.v (.int .i64 (IntKind.wrap .i64 (Int.tdiv n_ 10)))] rfl (fun hg => hg) (fun hv hle hg => hR.ref03_Digits (IntKind.wrap .i64 (Int.tdiv n_ 10)) v5 hv5 _ _ hv (hG.mono hle) hg _) (fun s F w a hp hX => ?_)
   subst hp
   refine hX.part [] 1 [21, 22] (l' := [(21, .v (.string ⟨⟨v5⟩⟩)), (22, .v (.string ⟨⟨([b3] : List UInt8)⟩⟩))]) (B' := [none]) (by kernel_rfl) fun ρ w a hX => ?_
   obtain ⟨v6, hv6, h0⟩ := bnd_some h0
   refine hX.catStr (lit := []) (by kernel_rfl) (by kernel_rfl) rfl (s := v5) (t := ([b3] : List UInt8)) (r := v6) (by kernel_rfl) (by kernel_rfl) hv6 fun a hX => ?_
   refine hX.part [] 1 [2] (l' := [(2, .v (.string ⟨⟨v6⟩⟩))]) (B' := [none]) (by kernel_rfl) fun ρ w a hX => ?_
   refine wpList_end ?_
   refine hK9 _ _ ?_
   refine wp_ret ?_
   have hr := Option.some.inj (show some _ = some _ from h0)
   subst hr
   exact hX.ret0 (ss := [.v (.string ⟨⟨v6⟩⟩)]) (by kernel_rfl) (by kernel_rfl) rfl
def Rec1.at_ : Nat → Rec1.R
  | 0 => ⟨fun _ => none⟩
  | n + 1 => ⟨ref03_Digits_bd (Rec1.at_ n)⟩
theorem Rec1.ok : ∀ n, Rec1.Ok (Rec1.at_ n)
  | 0 => {
    ref03_Digits := fun n_ r h0 => nomatch (show (none : Option _) = some r from h0) }
  | n + 1 => {
    ref03_Digits := fun n_ r h0 => ref03_Digits_bd.ok (Rec1.at_ n) (Rec1.ok n) n_ r h0 }
def ref03_Digits (n_ : Int) : Option (Str) := (Rec1.at_ 1099511627776).ref03_Digits n_
theorem ref03_Digits.ok (n_ : Int) (r : Str) (h0 : ref03_Digits n_ = some r) (w0 : World) (F0 : Heap) (hv : F0.Sub w0) (hG : Glob F0) (hg : SV.goods F0 [.v (.int .i64 n_)]) (ρ : Nat → Nat) :
    Calls Tryz.prog 12 (SV.dens ρ [.v (.int .i64 n_)]).toArray w0 (Ret0 w0 F0 fun s => s = .v (.string ⟨⟨r⟩⟩)) := by
 unfold ref03_Digits at h0
 exact (Rec1.ok 1099511627776).ref03_Digits n_ r h0 w0 F0 hv hG hg ρ
def ref01_Check (u : Str) : Option (Bool) :=
  some ((Int.tmod ((u.length : Nat) : Int) 2) == 0)
theorem ref01_Check.ok (u : Str) (r : Bool) (h0 : ref01_Check u = some r) (w0 : World) (F0 : Heap) (hv : F0.Sub w0) (hG : Glob F0) (hg : SV.goods F0 [.v (.string ⟨⟨u⟩⟩)]) (ρ : Nat → Nat) :
    Calls Tryz.prog 24 (SV.dens ρ [.v (.string ⟨⟨u⟩⟩)]).toArray w0 (Ret0 w0 F0 fun s => s = .v (.bool r)) := by
 refine calls_of_wp Tryz.func24 rfl ?_
 have hX := Cx.enter (D := No) (B := []) (L := []) (ρ := ρ) (N := 7) Tryz.ntmps24 [.v (.string ⟨⟨u⟩⟩)] (St.start hv) rfl hg (by kernel_rfl) (fun _ h => by cases h) (Nat.le_of_ble_eq_true rfl) No.unfix
 unfold ref01_Check at h0
 refine Cx.rseq hX [] [0] (l' := [(0, .v (.string ⟨⟨u⟩⟩))]) (B' := []) (by kernel_rfl) fun ρ w a hX => ?_
 refine Cx.rseq hX [] [2] (l' := [(2, .v (.bool ((Int.tmod ((u.length : Nat) : Int) 2) == 0)))]) (B' := []) (by kernel_rfl) fun ρ w a hX => ?_
 refine wp_ret ?_
 have hr := Option.some.inj (show some _ = some _ from h0)
 subst hr
 exact hX.ret0 (ss := [.v (.bool ((Int.tmod ((u.length : Nat) : Int) 2) == 0))]) (by kernel_rfl) (by kernel_rfl) rfl
def ref01_List.l1 (u : Str) (s : Int × (List Int)) : Option ((Int × (List Int)) ⊕ (((List Int)))) := match s with
  | (x6, x7) =>
  if (decide ((IntKind.wrap .i64 (x6 + 1)) < ((u.length : Nat) : Int))) = true then
    Option.bind (getB u x6) fun v10 =>
    Option.bind (getB u (IntKind.wrap .i64 (x6 + 1))) fun v11 =>
    Option.bind (room (x7.length + 1)) fun u14 =>
    some (.inl ((IntKind.wrap .i64 (x6 + 2)), (x7 ++ [(IntKind.wrap .i64 ((IntKind.wrap .i64 ((IntKind.wrap .i64 v10) * 256)) + (IntKind.wrap .i64 v11)))])))
  else
    some (.inr x7)
def ref01_List (u : Str) : Option ((List Int)) :=
  Option.bind (loopM (ref01_List.l1 u) (0, ([] : List Int))) fun e => match e with
  | x19 =>
    some x19
theorem ref01_List.ok (u : Str) (r : (List Int)) (h0 : ref01_List u = some r) (w0 : World) (F0 : Heap) (hv : F0.Sub w0) (hG : Glob F0) (hg : SV.goods F0 [.v (.string ⟨⟨u⟩⟩)]) (ρ : Nat → Nat) :
    Calls Tryz.prog 25 (SV.dens ρ [.v (.string ⟨⟨u⟩⟩)]).toArray w0 (Ret0 w0 F0 fun s => ∃ A c, s = SV.sl (kInt .i64) r A c) := by
 refine calls_of_wp Tryz.func25 rfl ?_
 have hX := Cx.enter (D := No) (B := []) (L := []) (ρ := ρ) (N := 27) Tryz.ntmps25 [.v (.string ⟨⟨u⟩⟩)] (St.start hv) rfl hg (by kernel_rfl) (fun _ h => by cases h) (Nat.le_of_ble_eq_true rfl) No.unfix
 unfold ref01_List at h0
 refine Cx.rseq hX [] [0] (l' := [(0, .v (.string ⟨⟨u⟩⟩))]) (B' := []) (by kernel_rfl) fun ρ w a hX => ?_
 refine Cx.rseq hX [] [0, 3] (l' := [(0, .v (.string ⟨⟨u⟩⟩)), (3, .v (.slice none 0 0))]) (B' := []) (by kernel_rfl) fun ρ w a hX => ?_
 refine wp_seq_k fun K3 hK3 => ?_
 refine Cx.rseq hX [] [0, 3, 4] (l' := [(0, .v (.string ⟨⟨u⟩⟩)), (3, .v (.slice none 0 0)), (4, .v (.int .i64 0))]) (B' := []) (by kernel_rfl) fun ρ w a hX => ?_
 refine wp_block ?_
 have hX := hX.newAcc 3 (kInt .i64)
 have hX := hX.keeps [0, 3, 4] (l' := [(0, .v (.string ⟨⟨u⟩⟩)), (3, .v (.slice none ([] : List Int).length 0)), (4, .v (.int .i64 0))]) (by kernel_rfl)
 obtain ⟨e1, he1, h0⟩ := bnd_some h0
 have E1x0 : ∀ (x19 : List Int), e1 = x19 → ∀ (A20 : Option Addr) (c21 : Nat) (ρ : Nat → Nat) (w : World) (F : Heap) (a : Act), Cx 27 w0 F0 No w F [accP 3 (kInt .i64) A20 c21 x19] [] ρ [(3, .v (.slice A20 x19.length c21))] a → K3 a w := by
  intro x19 he A20 c21 ρ w F a hX
  replace he := he.symm
  subst he
  (try dsimp only at h0)
  refine hK3 _ _ ?_
  refine Cx.rseq hX [] [2] (l' := [(2, .v (.slice A20 x19.length c21))]) (B' := []) (by kernel_rfl) fun ρ w a hX => ?_
  refine wp_ret ?_
  obtain ⟨F, hX⟩ := hX.freeze (i := 0) (t := 2) (e := 3) (d := (kInt .i64)) (A := A20) (c := c21) (xs := x19) rfl (by kernel_rfl)
  have hX : Cx 27 _ _ _ _ _ [] [] ρ _ a := hX
  have hr := Option.some.inj (show some _ = some _ from h0)
  subst hr
  exact hX.ret0 (ss := [SV.sl (kInt .i64) x19 A20 c21]) (by kernel_rfl) (by kernel_rfl) ⟨_, _, rfl⟩
 refine loop_go (fun (s : Int × (List Int)) a w => match s with | (x6, x7) => ∃ (A8 : Option Addr) (c9 : Nat) (ρ : Nat → Nat) (F : Heap), Cx 27 w0 F0 No w F [accP 3 (kInt .i64) A8 c9 x7] [] ρ [(0, .v (.string ⟨⟨u⟩⟩)), (3, .v (.slice A8 x7.length c9)), (4, .v (.int .i64 x6))] a) he1 (fun LW1 s o1 h1 hb1 hx1 a w hI => ?_) _ _ ?_
 ·obtain ⟨x6, x7⟩ := s
  obtain ⟨A8, c9, ρ, F, hX⟩ := hI
  unfold ref01_List.l1 at h1
  (try dsimp only at h1)
  refine wp_seq_k fun K8 hK8 => ?_
  refine Cx.rseq hX [] [0, 3, 4, 9] (l' := [(0, .v (.string ⟨⟨u⟩⟩)), (3, .v (.slice A8 x7.length c9)), (4, .v (.int .i64 x6)), (9, .v (.bool (decide ((IntKind.wrap .i64 (x6 + 1)) < ((u.length : Nat) : Int)))))]) (B' := []) (by kernel_rfl) fun ρ w a hX => ?_
  refine Cx.cond hX (b := (decide ((IntKind.wrap .i64 (x6 + 1)) < ((u.length : Nat) : Int)))) (by kernel_rfl) (fun hb => ?_) (fun hb => ?_)
  ·have h1 := ite_tt h1 hb
   refine wp_skip ?_
   refine hK8 _ _ ?_
   refine wp_seq_k fun K10 hK10 => ?_
   refine wp_block ?_
   have hGd := hG.mono hX.st.le
   refine hX.draw rfl (n := 15) rfl #[false, false, false, false, false, false, false, false, false, false, false, false, false, false, false] (by kernel_rfl) fun w D' hDk back hX => ?_
   refine hX.dq 0 rfl (lit := []) (by kernel_rfl) (listed' := #[true, false, false, false, false, false, false, false, false, false, false, false, false, false, false]) (by kernel_rfl) (by kernel_rfl) (s := .v (.slice A8 x7.length c9)) (by kernel_rfl) fun a hX => ?_
   refine hX.dq 1 rfl (lit := []) (by kernel_rfl) (listed' := #[true, true, false, false, false, false, false, false, false, false, false, false, false, false, false]) (by kernel_rfl) (by kernel_rfl) (s := .v (.string ⟨⟨u⟩⟩)) (by kernel_rfl) fun a hX => ?_
   refine hX.dq 2 rfl (lit := []) (by kernel_rfl) (listed' := #[true, true, true, false, false, false, false, false, false, false, false, false, false, false, false]) (by kernel_rfl) (by kernel_rfl) (s := .v (.int .i64 x6)) (by kernel_rfl) fun a hX => ?_
   obtain ⟨v10, hv10, h1⟩ := bnd_some h1
   refine hX.dIdxStr 3 rfl (lit := []) (by kernel_rfl) (listed' := #[true, true, true, true, false, false, false, false, false, false, false, false, false, false, false]) (by kernel_rfl) (by kernel_rfl) rfl (s := u) (k := .i64) (m := x6) (b := v10) (by kernel_rfl) (by kernel_rfl) (by kernel_rfl) hv10 fun a hX => ?_
   refine hX.dq 4 rfl (lit := []) (by kernel_rfl) (listed' := #[true, true, true, true, true, false, false, false, false, false, false, false, false, false, false]) (by kernel_rfl) (by kernel_rfl) (s := .v (.int .i64 (IntKind.wrap .i64 v10))) (by kernel_rfl) fun a hX => ?_
   refine hX.dq 5 rfl (lit := []) (by kernel_rfl) (listed' := #[true, true, true, true, true, true, false, false, false, false, false, false, false, false, false]) (by kernel_rfl) (by kernel_rfl) (s := .v (.int .i64 (IntKind.wrap .i64 ((IntKind.wrap .i64 v10) * 256)))) (by kernel_rfl) fun a hX => ?_
   refine hX.dq 6 rfl (lit := []) (by kernel_rfl) (listed' := #[true, true, true, true, true, true, true, false, false, false, false, false, false, false, false]) (by kernel_rfl) (by kernel_rfl) (s := .v (.string ⟨⟨u⟩⟩)) (by kernel_rfl) fun a hX => ?_
   refine hX.dq 7 rfl (lit := []) (by kernel_rfl) (listed' := #[true, true, true, true, true, true, true, true, false, false, false, false, false, false, false]) (by kernel_rfl) (by kernel_rfl) (s := .v (.int .i64 x6)) (by kernel_rfl) fun a hX => ?_
   refine hX.dq 8 rfl (lit := []) (by kernel_rfl) (listed' := #[true, true, true, true, true, true, true, true, true, false, false, false, false, false, false]) (by kernel_rfl) (by kernel_rfl) (s := .v (.int .i64 (IntKind.wrap .i64 (x6 + 1)))) (by kernel_rfl) fun a hX => ?_
   obtain ⟨v11, hv11, h1⟩ := bnd_some h1
   refine hX.dIdxStr 9 rfl (lit := []) (by kernel_rfl) (listed' := #[true, true, true, true, true, true, true, true, true, true, false, false, false, false, false]) (by kernel_rfl) (by kernel_rfl) rfl (s := u) (k := .i64) (m := (IntKind.wrap .i64 (x6 + 1))) (b := v11) (by kernel_rfl) (by kernel_rfl) (by kernel_rfl) hv11 fun a hX => ?_
   refine hX.dq 10 rfl (lit := []) (by kernel_rfl) (listed' := #[true, true, true, true, true, true, true, true, true, true, true, false, false, false, false]) (by kernel_rfl) (by kernel_rfl) (s := .v (.int .i64 (IntKind.wrap .i64 v11))) (by kernel_rfl) fun a hX => ?_
   refine hX.dq 11 rfl (lit := []) (by kernel_rfl) (listed' := #[true, true, true, true, true, true, true, true, true, true, true, true, false, false, false]) (by kernel_rfl) (by kernel_rfl) (s := .v (.int .i64 (IntKind.wrap .i64 ((IntKind.wrap .i64 ((IntKind.wrap .i64 v10) * 256)) + (IntKind.wrap .i64 v11))))) (by kernel_rfl) fun a hX => ?_
   refine dseq (listed' := #[true, true, true, true, true, true, true, true, true, true, true, true, true, false, false]) 12 (by kernel_rfl) rfl (by kernel_rfl) ?_
   refine hX.part [] 1 [0, 3, 4, 9, 12, 13, 14, 15, 16, 17, 18, 19, 20, 21, 22, 23, 24] (l' := [(0, .v (.string ⟨⟨u⟩⟩)), (3, .v (.slice A8 x7.length c9)), (4, .v (.int .i64 x6)), (9, .v (.bool (decide ((IntKind.wrap .i64 (x6 + 1)) < ((u.length : Nat) : Int))))), (12, .v (.slice A8 x7.length c9)), (13, .v (.string ⟨⟨u⟩⟩)), (14, .v (.int .i64 x6)), (15, .v (.int .u8 v10)), (16, .v (.int .i64 (IntKind.wrap .i64 v10))), (17, .v (.int .i64 (IntKind.wrap .i64 ((IntKind.wrap .i64 v10) * 256)))), (18, .v (.string ⟨⟨u⟩⟩)), (19, .v (.int .i64 x6)), (20, .v (.int .i64 (IntKind.wrap .i64 (x6 + 1)))), (21, .v (.int .u8 v11)), (22, .v (.int .i64 (IntKind.wrap .i64 v11))), (23, .v (.int .i64 (IntKind.wrap .i64 ((IntKind.wrap .i64 ((IntKind.wrap .i64 v10) * 256)) + (IntKind.wrap .i64 v11))))), (24, .slc 0 0 1 1)]) (B' := [some ⟨3, [.v (.int .i64 (IntKind.wrap .i64 ((IntKind.wrap .i64 ((IntKind.wrap .i64 v10) * 256)) + (IntKind.wrap .i64 v11))))]⟩]) (by kernel_rfl) fun ρ w a hX => ?_
   refine dnext hX.st.sub0 ?_
   refine dseq (listed' := #[true, true, true, true, true, true, true, true, true, true, true, true, true, true, false]) 13 (by kernel_rfl) rfl (by kernel_rfl) ?_
   obtain ⟨u14, hu14, h1⟩ := bnd_some h1
   refine hX.appLit (d := (kInt .i64)) (k := 0) (m := 1) (bytes := 8) (cells := [.v (.int .i64 (IntKind.wrap .i64 ((IntKind.wrap .i64 ((IntKind.wrap .i64 v10) * 256)) + (IntKind.wrap .i64 v11))))]) (lit := []) (i := 0) (e := 3) (xs := x7) (A := A8) (c := c9) ([((IntKind.wrap .i64 ((IntKind.wrap .i64 ((IntKind.wrap .i64 v10) * 256)) + (IntKind.wrap .i64 v11))), ())] : List (Int × ((kInt .i64)).Y)) (by kernel_rfl) (by kernel_rfl) rfl rfl (by kernel_rfl) (by kernel_rfl) (by kernel_rfl) (by kernel_rfl) (by kernel_rfl) rfl rfl (by decide) hu14 ⟨_, rfl⟩ fun A12 c13 w a hX => ?_
   have hX : Cx 27 _ _ _ _ _ [accP 3 (kInt .i64) A12 c13 (x7 ++ [(IntKind.wrap .i64 ((IntKind.wrap .i64 ((IntKind.wrap .i64 v10) * 256)) + (IntKind.wrap .i64 v11)))])] [some ⟨3, [.v (.int .i64 (IntKind.wrap .i64 ((IntKind.wrap .i64 ((IntKind.wrap .i64 v10) * 256)) + (IntKind.wrap .i64 v11))))]⟩] ρ _ a := hX
   refine dnext hX.st.sub0 ?_
   refine hX.dq 14 rfl (lit := []) (by kernel_rfl) (listed' := #[true, true, true, true, true, true, true, true, true, true, true, true, true, true, true]) (by kernel_rfl) (by kernel_rfl) (s := .v (.slice A12 (x7 ++ [(IntKind.wrap .i64 ((IntKind.wrap .i64 ((IntKind.wrap .i64 v10) * 256)) + (IntKind.wrap .i64 v11)))]).length c13)) (by kernel_rfl) fun a hX => ?_
   have hX := back hX
   refine ddone (by kernel_rfl) ?_
   refine hK10 _ _ ?_
   refine Cx.region hX [] [0, 3, 4] (l' := [(0, .v (.string ⟨⟨u⟩⟩)), (3, .v (.slice A12 (x7 ++ [(IntKind.wrap .i64 ((IntKind.wrap .i64 ((IntKind.wrap .i64 v10) * 256)) + (IntKind.wrap .i64 v11)))]).length c13)), (4, .v (.int .i64 (IntKind.wrap .i64 (x6 + 2))))]) (B' := [some ⟨3, [.v (.int .i64 (IntKind.wrap .i64 ((IntKind.wrap .i64 ((IntKind.wrap .i64 v10) * 256)) + (IntKind.wrap .i64 v11))))]⟩]) (by kernel_rfl) fun ρ w a hX => ?_
   have hX := hX.keeps [0, 3, 4] (l' := [(0, .v (.string ⟨⟨u⟩⟩)), (3, .v (.slice A12 (x7 ++ [(IntKind.wrap .i64 ((IntKind.wrap .i64 ((IntKind.wrap .i64 v10) * 256)) + (IntKind.wrap .i64 v11)))]).length c13)), (4, .v (.int .i64 (IntKind.wrap .i64 (x6 + 2))))]) (by kernel_rfl)
   have hX := hX.shrink 0 (B' := []) (by kernel_rfl) (Nat.le_of_ble_eq_true rfl) (by kernel_rfl) (by kernel_rfl) (Nat.zero_le _)
   exact hb1 ((IntKind.wrap .i64 (x6 + 2)), (x7 ++ [(IntKind.wrap .i64 ((IntKind.wrap .i64 ((IntKind.wrap .i64 v10) * 256)) + (IntKind.wrap .i64 v11)))])) (out_eq h1) _ _ ⟨A12, c13, _, _, hX⟩
  ·have h1 := ite_ff h1 hb
   refine wp_exit ?_
   have hX := hX.keeps [3] (l' := [(3, .v (.slice A8 x7.length c9))]) (by kernel_rfl)
   exact E1x0 x7 (hx1 _ (out_eq h1)).symm A8 c9 _ _ _ _ hX
 ·exact ⟨none, 0, _, _, hX⟩
def ref01_hex (n_ : Int) : Option (Int) :=
  if (decide (n_ < 10)) = true then
    some (IntKind.wrap .u8 (IntKind.wrap .i64 (48 + n_)))
  else
    some (IntKind.wrap .u8 (IntKind.wrap .i64 ((IntKind.wrap .i64 (97 + n_)) - 10)))
theorem ref01_hex.ok (n_ : Int) (r : Int) (h0 : ref01_hex n_ = some r) (w0 : World) (F0 : Heap) (hv : F0.Sub w0) (hG : Glob F0) (hg : SV.goods F0 [.v (.int .i64 n_)]) (ρ : Nat → Nat) :
    Calls Tryz.prog 38 (SV.dens ρ [.v (.int .i64 n_)]).toArray w0 (Ret0 w0 F0 fun s => s = .v (.int .u8 r)) := by
 refine calls_of_wp Tryz.func38 rfl ?_
 have hX := Cx.enter (D := No) (B := []) (L := []) (ρ := ρ) (N := 12) Tryz.ntmps38 [.v (.int .i64 n_)] (St.start hv) rfl hg (by kernel_rfl) (fun _ h => by cases h) (Nat.le_of_ble_eq_true rfl) No.unfix
 unfold ref01_hex at h0
 refine Cx.rseq hX [] [0] (l' := [(0, .v (.int .i64 n_))]) (B' := []) (by kernel_rfl) fun ρ w a hX => ?_
 refine wp_seq_k fun K2 hK2 => ?_
 refine Cx.rseq hX [] [0, 4] (l' := [(0, .v (.int .i64 n_)), (4, .v (.bool (decide (n_ < 10))))]) (B' := []) (by kernel_rfl) fun ρ w a hX => ?_
 refine Cx.cond hX (b := (decide (n_ < 10))) (by kernel_rfl) (fun hb => ?_) (fun hb => ?_)
 ·have h0 := ite_tt h0 hb
  refine Cx.rseq hX [] [2] (l' := [(2, .v (.int .u8 (IntKind.wrap .u8 (IntKind.wrap .i64 (48 + n_)))))]) (B' := []) (by kernel_rfl) fun ρ w a hX => ?_
  refine wp_ret ?_
  have hr := Option.some.inj (show some _ = some _ from h0)
  subst hr
  exact hX.ret0 (ss := [.v (.int .u8 (IntKind.wrap .u8 (IntKind.wrap .i64 (48 + n_))))]) (by kernel_rfl) (by kernel_rfl) rfl
 ·have h0 := ite_ff h0 hb
  refine wp_skip ?_
  refine hK2 _ _ ?_
  refine Cx.rseq hX [] [2] (l' := [(2, .v (.int .u8 (IntKind.wrap .u8 (IntKind.wrap .i64 ((IntKind.wrap .i64 (97 + n_)) - 10)))))]) (B' := []) (by kernel_rfl) fun ρ w a hX => ?_
  refine wp_ret ?_
  have hr := Option.some.inj (show some _ = some _ from h0)
  subst hr
  exact hX.ret0 (ss := [.v (.int .u8 (IntKind.wrap .u8 (IntKind.wrap .i64 ((IntKind.wrap .i64 (97 + n_)) - 10))))]) (by kernel_rfl) (by kernel_rfl) rfl
def ref01_quoted (n_ : Int) : Option (Str) :=
  if (n_ == 34) = true then
    some ([92, 34] : Str)
  else
    if (n_ == 92) = true then
      some ([92, 92] : Str)
    else
      if (n_ == 8) = true then
        some ([92, 98] : Str)
      else
        if (n_ == 9) = true then
          some ([92, 116] : Str)
        else
          if (n_ == 10) = true then
            some ([92, 110] : Str)
          else
            if (n_ == 12) = true then
              some ([92, 102] : Str)
            else
              if (n_ == 13) = true then
                some ([92, 114] : Str)
              else
                if ((decide (n_ < 32)) || (decide (n_ > 126))) = true then
                  Option.bind (ref01_hex (IntKind.wrap .i64 (Int.tdiv n_ 4096))) fun v1 =>
                  Option.bind (ref01_hex (Int.tmod (IntKind.wrap .i64 (Int.tdiv n_ 256)) 16)) fun v2 =>
                  Option.bind (ref01_hex (Int.tmod (IntKind.wrap .i64 (Int.tdiv n_ 16)) 16)) fun v3 =>
                  Option.bind (ref01_hex (Int.tmod n_ 16)) fun v4 =>
                  Option.bind (toB v1) fun b5 =>
                  Option.bind (toB v2) fun b6 =>
                  Option.bind (toB v3) fun b7 =>
                  Option.bind (toB v4) fun b8 =>
                  some ([(92 : UInt8), (117 : UInt8), b5, b6, b7, b8] : List UInt8)
                else
                  Option.bind (toB (IntKind.wrap .u8 n_)) fun b10 =>
                  some ([b10] : List UInt8)
theorem ref01_quoted.ok (n_ : Int) (r : Str) (h0 : ref01_quoted n_ = some r) (w0 : World) (F0 : Heap) (hv : F0.Sub w0) (hG : Glob F0) (hg : SV.goods F0 [.v (.int .i64 n_)]) (ρ : Nat → Nat) :
    Calls Tryz.prog 26 (SV.dens ρ [.v (.int .i64 n_)]).toArray w0 (Ret0 w0 F0 fun s => s = .v (.string ⟨⟨r⟩⟩)) := by
 refine calls_of_wp Tryz.func26 rfl ?_
 have hX := Cx.enter (D := No) (B := []) (L := []) (ρ := ρ) (N := 44) Tryz.ntmps26 [.v (.int .i64 n_)] (St.start hv) rfl hg (by kernel_rfl) (fun _ h => by cases h) (Nat.le_of_ble_eq_true rfl) No.unfix
 unfold ref01_quoted at h0
 refine Cx.rseq hX [] [0] (l' := [(0, .v (.int .i64 n_))]) (B' := []) (by kernel_rfl) fun ρ w a hX => ?_
 refine wp_seq_k fun K2 hK2 => ?_
 refine Cx.rseq hX [] [0, 3] (l' := [(0, .v (.int .i64 n_)), (3, .v (.int .i64 n_))]) (B' := []) (by kernel_rfl) fun ρ w a hX => ?_
 refine wp_block ?_
 refine Cx.rseq hX [] [0, 3, 4] (l' := [(0, .v (.int .i64 n_)), (3, .v (.int .i64 n_)), (4, .v (.bool (n_ == 34)))]) (B' := []) (by kernel_rfl) fun ρ w a hX => ?_
 refine Cx.cond hX (b := (n_ == 34)) (by kernel_rfl) (fun hb => ?_) (fun hb => ?_)
 ·have h0 := ite_tt h0 hb
  refine Cx.rseq hX [] [2] (l' := [(2, .v (.string ⟨⟨([92, 34] : Str)⟩⟩))]) (B' := []) (by kernel_rfl) fun ρ w a hX => ?_
  refine wp_ret ?_
  have hr := Option.some.inj (show some _ = some _ from h0)
  subst hr
  exact hX.ret0 (ss := [.v (.string ⟨⟨([92, 34] : Str)⟩⟩)]) (by kernel_rfl) (by kernel_rfl) rfl
 ·have h0 := ite_ff h0 hb
  refine Cx.rseq hX [] [0, 3, 6] (l' := [(0, .v (.int .i64 n_)), (3, .v (.int .i64 n_)), (6, .v (.bool (n_ == 92)))]) (B' := []) (by kernel_rfl) fun ρ w a hX => ?_
  refine Cx.cond hX (b := (n_ == 92)) (by kernel_rfl) (fun hb => ?_) (fun hb => ?_)
  ·have h0 := ite_tt h0 hb
   refine Cx.rseq hX [] [2] (l' := [(2, .v (.string ⟨⟨([92, 92] : Str)⟩⟩))]) (B' := []) (by kernel_rfl) fun ρ w a hX => ?_
   refine wp_ret ?_
   have hr := Option.some.inj (show some _ = some _ from h0)
   subst hr
   exact hX.ret0 (ss := [.v (.string ⟨⟨([92, 92] : Str)⟩⟩)]) (by kernel_rfl) (by kernel_rfl) rfl
  ·have h0 := ite_ff h0 hb
   refine Cx.rseq hX [] [0, 3, 8] (l' := [(0, .v (.int .i64 n_)), (3, .v (.int .i64 n_)), (8, .v (.bool (n_ == 8)))]) (B' := []) (by kernel_rfl) fun ρ w a hX => ?_
   refine Cx.cond hX (b := (n_ == 8)) (by kernel_rfl) (fun hb => ?_) (fun hb => ?_)
   ·have h0 := ite_tt h0 hb
    refine Cx.rseq hX [] [2] (l' := [(2, .v (.string ⟨⟨([92, 98] : Str)⟩⟩))]) (B' := []) (by kernel_rfl) fun ρ w a hX => ?_
    refine wp_ret ?_
    have hr := Option.some.inj (show some _ = some _ from h0)
    subst hr
    exact hX.ret0 (ss := [.v (.string ⟨⟨([92, 98] : Str)⟩⟩)]) (by kernel_rfl) (by kernel_rfl) rfl
   ·have h0 := ite_ff h0 hb
    refine Cx.rseq hX [] [0, 3, 10] (l' := [(0, .v (.int .i64 n_)), (3, .v (.int .i64 n_)), (10, .v (.bool (n_ == 9)))]) (B' := []) (by kernel_rfl) fun ρ w a hX => ?_
    refine Cx.cond hX (b := (n_ == 9)) (by kernel_rfl) (fun hb => ?_) (fun hb => ?_)
    ·have h0 := ite_tt h0 hb
     refine Cx.rseq hX [] [2] (l' := [(2, .v (.string ⟨⟨([92, 116] : Str)⟩⟩))]) (B' := []) (by kernel_rfl) fun ρ w a hX => ?_
     refine wp_ret ?_
     have hr := Option.some.inj (show some _ = some _ from h0)
     subst hr
     exact hX.ret0 (ss := [.v (.string ⟨⟨([92, 116] : Str)⟩⟩)]) (by kernel_rfl) (by kernel_rfl) rfl
    ·have h0 := ite_ff h0 hb
     refine Cx.rseq hX [] [0, 3, 12] (l' := [(0, .v (.int .i64 n_)), (3, .v (.int .i64 n_)), (12, .v (.bool (n_ == 10)))]) (B' := []) (by kernel_rfl) fun ρ w a hX => ?_
     refine Cx.cond hX (b := (n_ == 10)) (by kernel_rfl) (fun hb => ?_) (fun hb => ?_)
     ·have h0 := ite_tt h0 hb
      refine Cx.rseq hX [] [2] (l' := [(2, .v (.string ⟨⟨([92, 110] : Str)⟩⟩))]) (B' := []) (by kernel_rfl) fun ρ w a hX => ?_
      refine wp_ret ?_
      have hr := Option.some.inj (show some _ = some _ from h0)
      subst hr
      exact hX.ret0 (ss := [.v (.string ⟨⟨([92, 110] : Str)⟩⟩)]) (by kernel_rfl) (by kernel_rfl) rfl
     ·have h0 := ite_ff h0 hb
      refine Cx.rseq hX [] [0, 3, 14] (l' := [(0, .v (.int .i64 n_)), (3, .v (.int .i64 n_)), (14, .v (.bool (n_ == 12)))]) (B' := []) (by kernel_rfl) fun ρ w a hX => ?_
      refine Cx.cond hX (b := (n_ == 12)) (by kernel_rfl) (fun hb => ?_) (fun hb => ?_)
      ·have h0 := ite_tt h0 hb
       refine Cx.rseq hX [] [2] (l' := [(2, .v (.string ⟨⟨([92, 102] : Str)⟩⟩))]) (B' := []) (by kernel_rfl) fun ρ w a hX => ?_
       refine wp_ret ?_
       have hr := Option.some.inj (show some _ = some _ from h0)
       subst hr
       exact hX.ret0 (ss := [.v (.string ⟨⟨([92, 102] : Str)⟩⟩)]) (by kernel_rfl) (by kernel_rfl) rfl
      ·have h0 := ite_ff h0 hb
       refine Cx.rseq hX [] [0, 16] (l' := [(0, .v (.int .i64 n_)), (16, .v (.bool (n_ == 13)))]) (B' := []) (by kernel_rfl) fun ρ w a hX => ?_
       refine Cx.cond hX (b := (n_ == 13)) (by kernel_rfl) (fun hb => ?_) (fun hb => ?_)
       ·have h0 := ite_tt h0 hb
        refine Cx.rseq hX [] [2] (l' := [(2, .v (.string ⟨⟨([92, 114] : Str)⟩⟩))]) (B' := []) (by kernel_rfl) fun ρ w a hX => ?_
        refine wp_ret ?_
        have hr := Option.some.inj (show some _ = some _ from h0)
        subst hr
        exact hX.ret0 (ss := [.v (.string ⟨⟨([92, 114] : Str)⟩⟩)]) (by kernel_rfl) (by kernel_rfl) rfl
       ·have h0 := ite_ff h0 hb
        refine wp_skip ?_
        refine hK2 _ _ ?_
        refine wp_seq_k fun K18 hK18 => ?_
        refine Cx.rseq hX [] [0, 23] (l' := [(0, .v (.int .i64 n_)), (23, .v (.bool ((decide (n_ < 32)) || (decide (n_ > 126)))))]) (B' := []) (by kernel_rfl) fun ρ w a hX => ?_
        refine Cx.cond hX (b := ((decide (n_ < 32)) || (decide (n_ > 126)))) (by kernel_rfl) (fun hb => ?_) (fun hb => ?_)
        ·have h0 := ite_tt h0 hb
         refine wp_seq_k fun K20 hK20 => ?_
         refine wp_region_list ?_
         refine hX.part [] 2 [0, 25] (l' := [(0, .v (.int .i64 n_)), (25, .v (.int .i64 (IntKind.wrap .i64 (Int.tdiv n_ 4096))))]) (B' := []) (by kernel_rfl) fun ρ w a hX => ?_
         obtain ⟨v1, hv1, h0⟩ := bnd_some h0
         refine Cx.call0 hX (lit := []) (by kernel_rfl) rfl (by kernel_rfl) ⟨⟨_, Tryz.func38, by kernel_rfl, rfl⟩⟩ (ss := [.v (.int .i64 (IntKind.wrap .i64 (Int.tdiv n_ 4096)))]) (by kernel_rfl) [.v (.int .i64 (IntKind.wrap .i64 (Int.tdiv n_ 4096)))] rfl (fun hg => hg) (fun hv hle hg => ref01_hex.ok (IntKind.wrap .i64 (Int.tdiv n_ 4096)) v1 hv1 _ _ hv (hG.mono hle) hg _) (fun s F w a hp hX => ?_)
         subst hp
         refine hX.part [] 3 [0, 26, 29] (l' := [(0, .v (.int .i64 n_)), (26, .v (.int .u8 v1)), (29, .v (.int .i64 (Int.tmod (IntKind.wrap .i64 (Int.tdiv n_ 256)) 16)))]) (B' := []) (by kernel_rfl) fun ρ w a hX => ?_
         obtain ⟨v2, hv2, h0⟩ := bnd_some h0
         refine Cx.call0 hX (lit := []) (by kernel_rfl) rfl (by kernel_rfl) ⟨⟨_, Tryz.func38, by kernel_rfl, rfl⟩⟩ (ss := [.v (.int .i64 (Int.tmod (IntKind.wrap .i64 (Int.tdiv n_ 256)) 16))]) (by kernel_rfl) [.v (.int .i64 (Int.tmod (IntKind.wrap .i64 (Int.tdiv n_ 256)) 16))] rfl (fun hg => hg) (fun hv hle hg => ref01_hex.ok (Int.tmod (IntKind.wrap .i64 (Int.tdiv n_ 256)) 16) v2 hv2 _ _ hv (hG.mono hle) hg _) (fun s F w a hp hX => ?_)
         subst hp
         refine hX.part [] 3 [0, 26, 30, 33] (l' := [(0, .v (.int .i64 n_)), (26, .v (.int .u8 v1)), (30, .v (.int .u8 v2)), (33, .v (.int .i64 (Int.tmod (IntKind.wrap .i64 (Int.tdiv n_ 16)) 16)))]) (B' := []) (by kernel_rfl) fun ρ w a hX => ?_
         obtain ⟨v3, hv3, h0⟩ := bnd_some h0
         refine Cx.call0 hX (lit := []) (by kernel_rfl) rfl (by kernel_rfl) ⟨⟨_, Tryz.func38, by kernel_rfl, rfl⟩⟩ (ss := [.v (.int .i64 (Int.tmod (IntKind.wrap .i64 (Int.tdiv n_ 16)) 16))]) (by kernel_rfl) [.v (.int .i64 (Int.tmod (IntKind.wrap .i64 (Int.tdiv n_ 16)) 16))] rfl (fun hg => hg) (fun hv hle hg => ref01_hex.ok (Int.tmod (IntKind.wrap .i64 (Int.tdiv n_ 16)) 16) v3 hv3 _ _ hv (hG.mono hle) hg _) (fun s F w a hp hX => ?_)
         subst hp
         refine hX.part [] 2 [26, 30, 34, 36] (l' := [(26, .v (.int .u8 v1)), (30, .v (.int .u8 v2)), (34, .v (.int .u8 v3)), (36, .v (.int .i64 (Int.tmod n_ 16)))]) (B' := []) (by kernel_rfl) fun ρ w a hX => ?_
         obtain ⟨v4, hv4, h0⟩ := bnd_some h0
         refine Cx.call0 hX (lit := []) (by kernel_rfl) rfl (by kernel_rfl) ⟨⟨_, Tryz.func38, by kernel_rfl, rfl⟩⟩ (ss := [.v (.int .i64 (Int.tmod n_ 16))]) (by kernel_rfl) [.v (.int .i64 (Int.tmod n_ 16))] rfl (fun hg => hg) (fun hv hle hg => ref01_hex.ok (Int.tmod n_ 16) v4 hv4 _ _ hv (hG.mono hle) hg _) (fun s F w a hp hX => ?_)
         subst hp
         refine hX.part [] 1 [38] (l' := [(38, .slc 0 0 6 6)]) (B' := [some ⟨5, [.v (.int .u8 92), .v (.int .u8 117), .v (.int .u8 v1), .v (.int .u8 v2), .v (.int .u8 v3), .v (.int .u8 v4)]⟩]) (by kernel_rfl) fun ρ w a hX => ?_
         obtain ⟨b5, hb5, h0⟩ := bnd_some h0
         obtain ⟨b6, hb6, h0⟩ := bnd_some h0
         obtain ⟨b7, hb7, h0⟩ := bnd_some h0
         obtain ⟨b8, hb8, h0⟩ := bnd_some h0
         have hX := hX.rebox 0 (b := ⟨5, [.v (.int .u8 92), .v (.int .u8 117), .v (.int .u8 v1), .v (.int .u8 v2), .v (.int .u8 v3), .v (.int .u8 v4)]⟩) (cs := [.v (.int .u8 92), .v (.int .u8 117), .v (.int .u8 ((b5.toNat : Nat) : Int)), .v (.int .u8 ((b6.toNat : Nat) : Int)), .v (.int .u8 ((b7.toNat : Nat) : Int)), .v (.int .u8 ((b8.toNat : Nat) : Int))]) (B' := [some ⟨5, [.v (.int .u8 92), .v (.int .u8 117), .v (.int .u8 ((b5.toNat : Nat) : Int)), .v (.int .u8 ((b6.toNat : Nat) : Int)), .v (.int .u8 ((b7.toNat : Nat) : Int)), .v (.int .u8 ((b8.toNat : Nat) : Int))]⟩]) (by kernel_rfl) (fun ρ => by simp only [SV.dens, SV.den, toB_some hb5, toB_some hb6, toB_some hb7, toB_some hb8]) (by have hg := (hX.bgood ⟨5, [.v (.int .u8 92), .v (.int .u8 117), .v (.int .u8 v1), .v (.int .u8 v2), .v (.int .u8 v3), .v (.int .u8 v4)]⟩ (List.mem_of_getElem? (i := 0) (by kernel_rfl))).1; exact ⟨trivial, trivial, trivial, trivial, trivial, trivial, trivial⟩) (by kernel_rfl) (by kernel_rfl)
         obtain ⟨b9, hb, hX⟩ := hX.boxAcc2 (d := kByte) (e := 5) (k := 0) (t := 38) (m := 6) ([((92 : UInt8), ()), ((117 : UInt8), ()), (b5, ()), (b6, ()), (b7, ()), (b8, ())] : List (UInt8 × (kByte).Y)) (by kernel_rfl) (by kernel_rfl) rfl rfl (by decide) ⟨_, rfl⟩
         have hX : Cx 44 _ _ _ _ _ [accP 5 kByte (some ⟨b9, 0, none⟩) 6 ([(92 : UInt8), (117 : UInt8), b5, b6, b7, b8] : List UInt8)] [none] ρ _ a := hX
         obtain ⟨F, hX⟩ := hX.freeze (i := 0) (t := 38) (e := 5) (d := kByte) (A := (some ⟨b9, 0, none⟩)) (c := 6) (xs := ([(92 : UInt8), (117 : UInt8), b5, b6, b7, b8] : List UInt8)) rfl (by kernel_rfl)
         have hX : Cx 44 _ _ _ _ _ [] [none] ρ _ a := hX
         refine hX.strSl (lit := []) (by kernel_rfl) (by kernel_rfl) rfl (e := 5) (xs := ([(92 : UInt8), (117 : UInt8), b5, b6, b7, b8] : List UInt8)) (A := (some ⟨b9, 0, none⟩)) (c := 6) (by kernel_rfl) (by kernel_rfl) (by kernel_rfl) (by kernel_rfl) fun a hX => ?_
         refine hX.part [] 1 [2] (l' := [(2, .v (.string ⟨⟨([(92 : UInt8), (117 : UInt8), b5, b6, b7, b8] : List UInt8)⟩⟩))]) (B' := [none]) (by kernel_rfl) fun ρ w a hX => ?_
         refine wpList_end ?_
         refine hK20 _ _ ?_
         refine wp_ret ?_
         have hr := Option.some.inj (show some _ = some _ from h0)
         subst hr
         exact hX.ret0 (ss := [.v (.string ⟨⟨([(92 : UInt8), (117 : UInt8), b5, b6, b7, b8] : List UInt8)⟩⟩)]) (by kernel_rfl) (by kernel_rfl) rfl
        ·have h0 := ite_ff h0 hb
         refine wp_skip ?_
         refine hK18 _ _ ?_
         refine wp_seq_k fun K21 hK21 => ?_
         refine wp_region_list ?_
         refine hX.part [] 3 [42] (l' := [(42, .slc 0 0 1 1)]) (B' := [some ⟨5, [.v (.int .u8 (IntKind.wrap .u8 n_))]⟩]) (by kernel_rfl) fun ρ w a hX => ?_
         obtain ⟨b10, hb10, h0⟩ := bnd_some h0
         have hX := hX.rebox 0 (b := ⟨5, [.v (.int .u8 (IntKind.wrap .u8 n_))]⟩) (cs := [.v (.int .u8 ((b10.toNat : Nat) : Int))]) (B' := [some ⟨5, [.v (.int .u8 ((b10.toNat : Nat) : Int))]⟩]) (by kernel_rfl) (fun ρ => by simp only [SV.dens, SV.den, toB_some hb10]) (by have hg := (hX.bgood ⟨5, [.v (.int .u8 (IntKind.wrap .u8 n_))]⟩ (List.mem_of_getElem? (i := 0) (by kernel_rfl))).1; exact ⟨trivial, trivial⟩) (by kernel_rfl) (by kernel_rfl)
         obtain ⟨b11, hb, hX⟩ := hX.boxAcc2 (d := kByte) (e := 5) (k := 0) (t := 42) (m := 1) ([(b10, ())] : List (UInt8 × (kByte).Y)) (by kernel_rfl) (by kernel_rfl) rfl rfl (by decide) ⟨_, rfl⟩
         have hX : Cx 44 _ _ _ _ _ [accP 5 kByte (some ⟨b11, 0, none⟩) 1 ([b10] : List UInt8)] [none] ρ _ a := hX
         obtain ⟨F, hX⟩ := hX.freeze (i := 0) (t := 42) (e := 5) (d := kByte) (A := (some ⟨b11, 0, none⟩)) (c := 1) (xs := ([b10] : List UInt8)) rfl (by kernel_rfl)
         have hX : Cx 44 _ _ _ _ _ [] [none] ρ _ a := hX
         refine hX.strSl (lit := []) (by kernel_rfl) (by kernel_rfl) rfl (e := 5) (xs := ([b10] : List UInt8)) (A := (some ⟨b11, 0, none⟩)) (c := 1) (by kernel_rfl) (by kernel_rfl) (by kernel_rfl) (by kernel_rfl) fun a hX => ?_
         refine hX.part [] 1 [2] (l' := [(2, .v (.string ⟨⟨([b10] : List UInt8)⟩⟩))]) (B' := [none]) (by kernel_rfl) fun ρ w a hX => ?_
         refine wpList_end ?_
         refine hK21 _ _ ?_
         refine wp_ret ?_
         have hr := Option.some.inj (show some _ = some _ from h0)
         subst hr
         exact hX.ret0 (ss := [.v (.string ⟨⟨([b10] : List UInt8)⟩⟩)]) (by kernel_rfl) (by kernel_rfl) rfl
def ref01_Quote.l1 (v2 : (List Int)) (s : Str × Int) : Option ((Str × Int) ⊕ ((Str))) := match s with
  | (x11, x12) =>
  if (decide (x12 < ((v2.length : Nat) : Int))) = true then
    Option.bind (getI v2 x12) fun v13 =>
    Option.bind (ref01_quoted v13) fun v17 =>
    Option.bind (catS x11 v17) fun v18 =>
    some (.inl (v18, (IntKind.wrap .i64 (x12 + 1))))
  else
    some (.inr x11)
def ref01_Quote (u : Str) : Option (Str × Int) :=
  Option.bind (ref01_Check u) fun v1 =>
  if (!v1) = true then
    some (([] : Str), 10)
  else
    Option.bind (ref01_List u) fun v2 =>
    Option.bind (loopM (ref01_Quote.l1 v2) (([34] : Str), 0)) fun e => match e with
    | x21 =>
      Option.bind (catS x21 ([34] : Str)) fun v22 =>
      some (v22, 0)
theorem ref01_Quote.ok (u : Str) (r : Str × Int) (h0 : ref01_Quote u = some r) (w0 : World) (F0 : Heap) (hv : F0.Sub w0) (hG : Glob F0) (hg : SV.goods F0 [.v (.string ⟨⟨u⟩⟩)]) (ρ : Nat → Nat) :
    Calls Tryz.prog 13 (SV.dens ρ [.v (.string ⟨⟨u⟩⟩)]).toArray w0 (Ret0 w0 F0 fun s => ∃ s1 s2, s = .tup [s1, s2] ∧ (s1 = .v (.string ⟨⟨r.1⟩⟩)) ∧ (s2 = .v (.int .i64 r.2))) := by
 refine calls_of_wp Tryz.func13 rfl ?_
 have hX := Cx.enter (D := No) (B := []) (L := []) (ρ := ρ) (N := 24) Tryz.ntmps13 [.v (.string ⟨⟨u⟩⟩)] (St.start hv) rfl hg (by kernel_rfl) (fun _ h => by cases h) (Nat.le_of_ble_eq_true rfl) No.unfix
 unfold ref01_Quote at h0
 refine Cx.rseq hX [] [0] (l' := [(0, .v (.string ⟨⟨u⟩⟩))]) (B' := []) (by kernel_rfl) fun ρ w a hX => ?_
 refine wp_seq_k fun K2 hK2 => ?_
 refine wp_seq_k fun K3 hK3 => ?_
 refine wp_region_list ?_
 refine hX.part [] 1 [0, 7] (l' := [(0, .v (.string ⟨⟨u⟩⟩)), (7, .v (.string ⟨⟨u⟩⟩))]) (B' := []) (by kernel_rfl) fun ρ w a hX => ?_
 obtain ⟨v1, hv1, h0⟩ := bnd_some h0
 refine Cx.call0 hX (lit := []) (by kernel_rfl) rfl (by kernel_rfl) ⟨⟨_, Tryz.func24, by kernel_rfl, rfl⟩⟩ (ss := [.v (.string ⟨⟨u⟩⟩)]) (by kernel_rfl) [.v (.string ⟨⟨u⟩⟩)] rfl (fun hg => hg) (fun hv hle hg => ref01_Check.ok u v1 hv1 _ _ hv (hG.mono hle) hg _) (fun s F w a hp hX => ?_)
 subst hp
 refine hX.part [] 1 [0, 9] (l' := [(0, .v (.string ⟨⟨u⟩⟩)), (9, .v (.bool (!v1)))]) (B' := []) (by kernel_rfl) fun ρ w a hX => ?_
 refine wpList_end ?_
 refine hK3 _ _ ?_
 refine Cx.cond hX (b := (!v1)) (by kernel_rfl) (fun hb => ?_) (fun hb => ?_)
 ·have h0 := ite_tt h0 hb
  refine Cx.rseq hX [] [2, 3] (l' := [(2, .v (.string ⟨⟨([] : Str)⟩⟩)), (3, .v (.int .i64 10))]) (B' := []) (by kernel_rfl) fun ρ w a hX => ?_
  refine wp_ret ?_
  have hr := Option.some.inj (show some _ = some _ from h0)
  subst hr
  exact hX.ret0 (ss := [.v (.string ⟨⟨([] : Str)⟩⟩), .v (.int .i64 10)]) (by kernel_rfl) (by kernel_rfl) ⟨_, _, rfl, rfl, rfl⟩
 ·have h0 := ite_ff h0 hb
  refine wp_skip ?_
  refine hK2 _ _ ?_
  refine Cx.rseq hX [] [0, 4] (l' := [(0, .v (.string ⟨⟨u⟩⟩)), (4, .v (.string ⟨⟨([34] : Str)⟩⟩))]) (B' := []) (by kernel_rfl) fun ρ w a hX => ?_
  refine wp_seq_k fun K6 hK6 => ?_
  refine wp_seq_k fun K7 hK7 => ?_
  refine wp_region_list ?_
  refine hX.part [] 1 [4, 10] (l' := [(4, .v (.string ⟨⟨([34] : Str)⟩⟩)), (10, .v (.string ⟨⟨u⟩⟩))]) (B' := []) (by kernel_rfl) fun ρ w a hX => ?_
  obtain ⟨v2, hv2, h0⟩ := bnd_some h0
  refine Cx.call0 hX (lit := []) (by kernel_rfl) rfl (by kernel_rfl) ⟨⟨_, Tryz.func25, by kernel_rfl, rfl⟩⟩ (ss := [.v (.string ⟨⟨u⟩⟩)]) (by kernel_rfl) [.v (.string ⟨⟨u⟩⟩)] rfl (fun hg => hg) (fun hv hle hg => ref01_List.ok u v2 hv2 _ _ hv (hG.mono hle) hg _) (fun s F w a hp hX => ?_)
  obtain ⟨A3, c4, rfl⟩ := hp
  refine hX.part [] 2 [4, 11, 12, 13] (l' := [(4, .v (.string ⟨⟨([34] : Str)⟩⟩)), (11, SV.sl (kInt .i64) v2 A3 c4), (12, .v (.int .i64 ((v2.length : Nat) : Int))), (13, .v (.int .i64 0))]) (B' := []) (by kernel_rfl) fun ρ w a hX => ?_
  refine wpList_end ?_
  refine hK7 _ _ ?_
  refine wp_block ?_
  have hX := hX.keeps [4, 11, 12, 13] (l' := [(4, .v (.string ⟨⟨([34] : Str)⟩⟩)), (11, SV.sl (kInt .i64) v2 A3 c4), (12, .v (.int .i64 ((v2.length : Nat) : Int))), (13, .v (.int .i64 0))]) (by kernel_rfl)
  obtain ⟨e1, he1, h0⟩ := bnd_some h0
  have E1x0 : ∀ (x21 : Str), e1 = x21 → ∀ (ρ : Nat → Nat) (w : World) (F : Heap) (a : Act), Cx 24 w0 F0 No w F [] [] ρ [(4, .v (.string ⟨⟨x21⟩⟩))] a → K6 a w := by
   intro x21 he  ρ w F a hX
   replace he := he.symm
   subst he
   (try dsimp only at h0)
   refine hK6 _ _ ?_
   refine wp_seq_k fun K16 hK16 => ?_
   refine wp_region_list ?_
   refine hX.part [] 1 [22] (l' := [(22, .v (.string ⟨⟨x21⟩⟩))]) (B' := []) (by kernel_rfl) fun ρ w a hX => ?_
   obtain ⟨v22, hv22, h0⟩ := bnd_some h0
   refine hX.catStr (lit := []) (by kernel_rfl) (by kernel_rfl) rfl (s := x21) (t := ([34] : Str)) (r := v22) (by kernel_rfl) (by kernel_rfl) hv22 fun a hX => ?_
   refine hX.part [] 2 [2, 3] (l' := [(2, .v (.string ⟨⟨v22⟩⟩)), (3, .v (.int .i64 0))]) (B' := []) (by kernel_rfl) fun ρ w a hX => ?_
   refine wpList_end ?_
   refine hK16 _ _ ?_
   refine wp_ret ?_
   have hr := Option.some.inj (show some _ = some _ from h0)
   subst hr
   exact hX.ret0 (ss := [.v (.string ⟨⟨v22⟩⟩), .v (.int .i64 0)]) (by kernel_rfl) (by kernel_rfl) ⟨_, _, rfl, rfl, rfl⟩
  refine loop_go (fun (s : Str × Int) a w => match s with | (x11, x12) => ∃ (ρ : Nat → Nat) (F : Heap), Cx 24 w0 F0 No w F [] [] ρ [(4, .v (.string ⟨⟨x11⟩⟩)), (11, SV.sl (kInt .i64) v2 A3 c4), (12, .v (.int .i64 ((v2.length : Nat) : Int))), (13, .v (.int .i64 x12))] a) he1 (fun LW1 s o1 h1 hb1 hx1 a w hI => ?_) _ _ ?_
  ·obtain ⟨x11, x12⟩ := s
   obtain ⟨ρ, F, hX⟩ := hI
   unfold ref01_Quote.l1 at h1
   (try dsimp only at h1)
   refine Cx.rseq hX [] [4, 11, 12, 13, 14] (l' := [(4, .v (.string ⟨⟨x11⟩⟩)), (11, SV.sl (kInt .i64) v2 A3 c4), (12, .v (.int .i64 ((v2.length : Nat) : Int))), (13, .v (.int .i64 x12)), (14, .v (.bool (decide (x12 < ((v2.length : Nat) : Int)))))]) (B' := []) (by kernel_rfl) fun ρ w a hX => ?_
   refine wp_seq_k fun K13 hK13 => ?_
   refine Cx.cond hX (b := (decide (x12 < ((v2.length : Nat) : Int)))) (by kernel_rfl) (fun hb => ?_) (fun hb => ?_)
   ·have h1 := ite_tt h1 hb
    refine wp_skip ?_
    refine hK13 _ _ ?_
    refine wp_seq_k fun K14 hK14 => ?_
    refine wp_block ?_
    refine wp_seq_k fun K15 hK15 => ?_
    refine wp_region_list ?_
    refine hX.part [] 0 [4, 11, 12, 13] (l' := [(4, .v (.string ⟨⟨x11⟩⟩)), (11, SV.sl (kInt .i64) v2 A3 c4), (12, .v (.int .i64 ((v2.length : Nat) : Int))), (13, .v (.int .i64 x12))]) (B' := []) (by kernel_rfl) fun ρ w a hX => ?_
    obtain ⟨v13, hv13, h1⟩ := bnd_some h1
    refine hX.idxSl (lit := []) (by kernel_rfl) (by kernel_rfl) rfl (d := (kInt .i64)) (e := 3) (xs := v2) (A := A3) (c := c4) (k := .i64) (n := x12) (v := v13) (by kernel_rfl) (by kernel_rfl) (by kernel_rfl) (by kernel_rfl) hv13 fun y14 b15 o16 a hX => ?_
    refine hX.part [] 2 [4, 6, 11, 12, 13] (l' := [(4, .v (.string ⟨⟨x11⟩⟩)), (6, .v (.int .i64 v13)), (11, SV.sl (kInt .i64) v2 A3 c4), (12, .v (.int .i64 ((v2.length : Nat) : Int))), (13, .v (.int .i64 x12))]) (B' := []) (by kernel_rfl) fun ρ w a hX => ?_
    refine wpList_end ?_
    refine hK15 _ _ ?_
    refine wp_region_list ?_
    refine hX.part [] 2 [4, 11, 12, 13, 17, 18] (l' := [(4, .v (.string ⟨⟨x11⟩⟩)), (11, SV.sl (kInt .i64) v2 A3 c4), (12, .v (.int .i64 ((v2.length : Nat) : Int))), (13, .v (.int .i64 x12)), (17, .v (.string ⟨⟨x11⟩⟩)), (18, .v (.int .i64 v13))]) (B' := []) (by kernel_rfl) fun ρ w a hX => ?_
    obtain ⟨v17, hv17, h1⟩ := bnd_some h1
    refine Cx.call0 hX (lit := []) (by kernel_rfl) rfl (by kernel_rfl) ⟨⟨_, Tryz.func26, by kernel_rfl, rfl⟩⟩ (ss := [.v (.int .i64 v13)]) (by kernel_rfl) [.v (.int .i64 v13)] rfl (fun hg => hg) (fun hv hle hg => ref01_quoted.ok v13 v17 hv17 _ _ hv (hG.mono hle) hg _) (fun s F w a hp hX => ?_)
    subst hp
    refine hX.part [] 0 [4, 11, 12, 13, 17, 19] (l' := [(4, .v (.string ⟨⟨x11⟩⟩)), (11, SV.sl (kInt .i64) v2 A3 c4), (12, .v (.int .i64 ((v2.length : Nat) : Int))), (13, .v (.int .i64 x12)), (17, .v (.string ⟨⟨x11⟩⟩)), (19, .v (.string ⟨⟨v17⟩⟩))]) (B' := []) (by kernel_rfl) fun ρ w a hX => ?_
    obtain ⟨v18, hv18, h1⟩ := bnd_some h1
    refine hX.catStr (lit := []) (by kernel_rfl) (by kernel_rfl) rfl (s := x11) (t := v17) (r := v18) (by kernel_rfl) (by kernel_rfl) hv18 fun a hX => ?_
    refine hX.part [] 1 [4, 11, 12, 13] (l' := [(4, .v (.string ⟨⟨v18⟩⟩)), (11, SV.sl (kInt .i64) v2 A3 c4), (12, .v (.int .i64 ((v2.length : Nat) : Int))), (13, .v (.int .i64 x12))]) (B' := []) (by kernel_rfl) fun ρ w a hX => ?_
    refine wpList_end ?_
    refine hK14 _ _ ?_
    refine Cx.region hX [] [4, 11, 12, 13] (l' := [(4, .v (.string ⟨⟨v18⟩⟩)), (11, SV.sl (kInt .i64) v2 A3 c4), (12, .v (.int .i64 ((v2.length : Nat) : Int))), (13, .v (.int .i64 (IntKind.wrap .i64 (x12 + 1))))]) (B' := []) (by kernel_rfl) fun ρ w a hX => ?_
    have hX := hX.keeps [4, 11, 12, 13] (l' := [(4, .v (.string ⟨⟨v18⟩⟩)), (11, SV.sl (kInt .i64) v2 A3 c4), (12, .v (.int .i64 ((v2.length : Nat) : Int))), (13, .v (.int .i64 (IntKind.wrap .i64 (x12 + 1))))]) (by kernel_rfl)
    exact hb1 (v18, (IntKind.wrap .i64 (x12 + 1))) (out_eq h1) _ _ ⟨_, _, hX⟩
   ·have h1 := ite_ff h1 hb
    refine wp_exit ?_
    have hX := hX.keeps [4] (l' := [(4, .v (.string ⟨⟨x11⟩⟩))]) (by kernel_rfl)
    exact E1x0 x11 (hx1 _ (out_eq h1)).symm  _ _ _ _ hX
  ·exact ⟨_, _, hX⟩
def ref06_begins.j1 (x2 : Bool) : Option (Bool) :=
  some x2
def ref06_begins (s_ : Str) (at_ : Int) (with_ : Str) : Option (Bool) :=
  if (decide ((IntKind.wrap .i64 (at_ + ((with_.length : Nat) : Int))) ≤ ((s_.length : Nat) : Int))) = true then
    Option.bind (cutL s_ at_ (IntKind.wrap .i64 (at_ + ((with_.length : Nat) : Int)))) fun v1 =>
    ref06_begins.j1 (v1 == with_)
  else
    ref06_begins.j1 false
theorem ref06_begins.ok (s_ : Str) (at_ : Int) (with_ : Str) (r : Bool) (h0 : ref06_begins s_ at_ with_ = some r) (w0 : World) (F0 : Heap) (hv : F0.Sub w0) (hG : Glob F0) (hg : SV.goods F0 [.v (.string ⟨⟨s_⟩⟩), .v (.int .i64 at_), .v (.string ⟨⟨with_⟩⟩)]) (ρ : Nat → Nat) :
    Calls Tryz.prog 39 (SV.dens ρ [.v (.string ⟨⟨s_⟩⟩), .v (.int .i64 at_), .v (.string ⟨⟨with_⟩⟩)]).toArray w0 (Ret0 w0 F0 fun s => s = .v (.bool r)) := by
 refine calls_of_wp Tryz.func39 rfl ?_
 have hX := Cx.enter (D := No) (B := []) (L := []) (ρ := ρ) (N := 25) Tryz.ntmps39 [.v (.string ⟨⟨s_⟩⟩), .v (.int .i64 at_), .v (.string ⟨⟨with_⟩⟩)] (St.start hv) rfl hg (by kernel_rfl) (fun _ h => by cases h) (Nat.le_of_ble_eq_true rfl) No.unfix
 unfold ref06_begins at h0
 refine Cx.rseq hX [] [0, 1, 2] (l' := [(0, .v (.string ⟨⟨s_⟩⟩)), (1, .v (.int .i64 at_)), (2, .v (.string ⟨⟨with_⟩⟩))]) (B' := []) (by kernel_rfl) fun ρ w a hX => ?_
 refine wp_seq_k fun K2 hK2 => ?_
 have J2 : ∀ (x2 : Bool), ref06_begins.j1 x2 = some r → ∀ (ρ : Nat → Nat) (w : World) (F : Heap) (a : Act), Cx 25 w0 F0 No w F [] [] ρ [(6, .v (.bool x2))] a → K2 a w := by
  intro x2 h0  ρ w F a hX
  unfold ref06_begins.j1 at h0
  refine hK2 _ _ ?_
  refine wp_ret ?_
  have hr := Option.some.inj (show some _ = some _ from h0)
  subst hr
  exact hX.ret0 (ss := [.v (.bool x2)]) (by kernel_rfl) (by kernel_rfl) rfl
 refine wp_region_list ?_
 refine hX.part [] 8 [0, 1, 2, 14] (l' := [(0, .v (.string ⟨⟨s_⟩⟩)), (1, .v (.int .i64 at_)), (2, .v (.string ⟨⟨with_⟩⟩)), (14, .v (.bool (decide ((IntKind.wrap .i64 (at_ + ((with_.length : Nat) : Int))) ≤ ((s_.length : Nat) : Int)))))]) (B' := []) (by kernel_rfl) fun ρ w a hX => ?_
 refine ite_go h0 (fun hb h0 => ?_) (fun hb h0 => ?_)
 ·have hX := hX.relit 14 hb (by kernel_rfl)
  refine hX.part [7] 6 [2, 14, 15, 16, 20] (l' := [(2, .v (.string ⟨⟨with_⟩⟩)), (14, .v (.bool true)), (15, .v (.string ⟨⟨s_⟩⟩)), (16, .v (.int .i64 at_)), (20, .v (.int .i64 (IntKind.wrap .i64 (at_ + ((with_.length : Nat) : Int)))))]) (B' := []) (by kernel_rfl) fun ρ w a hX => ?_
  obtain ⟨v1, hv1, h0⟩ := bnd_some h0
  refine hX.cutStr (lit := [7]) (by kernel_rfl) (by kernel_rfl) rfl (s := s_) (ol := some at_) (oh := some (IntKind.wrap .i64 (at_ + ((with_.length : Nat) : Int)))) (r := v1) (by kernel_rfl) (by kernel_rfl) (by kernel_rfl) (by kernel_rfl) hv1 fun a hX => ?_
  refine hX.part [7] 4 [6] (l' := [(6, .v (.bool (v1 == with_)))]) (B' := []) (by kernel_rfl) fun ρ w a hX => ?_
  refine wpList_end ?_
  have hX := hX.keeps [6] (l' := [(6, .v (.bool (v1 == with_)))]) (by kernel_rfl)
  exact J2 (v1 == with_) h0  _ _ _ _ hX
 ·have hX := hX.relit 14 hb (by kernel_rfl)
  refine hX.part [7] 11 [6] (l' := [(6, .v (.bool false))]) (B' := []) (by kernel_rfl) fun ρ w a hX => ?_
  refine wpList_end ?_
  have hX := hX.keeps [6] (l' := [(6, .v (.bool false))]) (by kernel_rfl)
  exact J2 false h0  _ _ _ _ hX
def ref06_blanks.j8 (x36 : Int) (x39 : Bool) : Option ((Int) ⊕ ((Int))) :=
  if x39 = true then
    some (.inl (IntKind.wrap .i64 (x36 + 1)))
  else
    some (.inr x36)
def ref06_blanks.l4 (s_ : Str) (x36 : Int) : Option ((Int) ⊕ ((Int))) :=
  if (decide (x36 < ((s_.length : Nat) : Int))) = true then
    Option.bind (getB s_ x36) fun v37 =>
    if (v37 != 10) = true then
      Option.bind (getB s_ x36) fun v38 =>
      ref06_blanks.j8 x36 (v38 != 13)
    else
      ref06_blanks.j8 x36 false
  else
    ref06_blanks.j8 x36 false
def ref06_blanks.j12 (x48 : Int) (x54 : Bool) : Option ((Int × Bool) ⊕ ((Int × Bool))) :=
  some (.inl ((IntKind.wrap .i64 (x48 + 1)), x54))
def ref06_blanks.j11 (s_ : Str) (x48 : Int) (x49 : Bool) (x51 : Bool) : Option ((Int × Bool) ⊕ ((Int × Bool))) :=
  if x51 = true then
    if x49 = true then
      ref06_blanks.j12 x48 true
    else
      Option.bind (getB s_ x48) fun v52 =>
      if (v52 == 10) = true then
        ref06_blanks.j12 x48 true
      else
        Option.bind (getB s_ x48) fun v53 =>
        ref06_blanks.j12 x48 (v53 == 13)
  else
    some (.inr (x48, x49))
def ref06_blanks.l5 (s_ : Str) (s : Int × Bool) : Option ((Int × Bool) ⊕ ((Int × Bool))) := match s with
  | (x48, x49) =>
  if (decide (x48 < ((s_.length : Nat) : Int))) = true then
    Option.bind (ref06_begins s_ x48 ([42, 47] : Str)) fun v50 =>
    ref06_blanks.j11 s_ x48 x49 (!v50)
  else
    ref06_blanks.j11 s_ x48 x49 false
def ref06_blanks.l1 (s_ : Str) (s : Int × Bool) : Option ((Int × Bool) ⊕ ((Int × Bool) ⊕ (Int × Bool × Bool))) := match s with
  | (x29, x30) =>
  if (decide (x29 < ((s_.length : Nat) : Int))) = true then
    Option.bind (getB s_ x29) fun v31 =>
    if ((v31 == 10) || (v31 == 13)) = true then
      some (.inl ((IntKind.wrap .i64 (x29 + 1)), true))
    else
      if ((((v31 == 9) || (v31 == 11)) || (v31 == 12)) || (v31 == 32)) = true then
        some (.inl ((IntKind.wrap .i64 (x29 + 1)), x30))
      else
        Option.bind (ref06_begins s_ x29 ([47, 47] : Str)) fun v32 =>
        if v32 = true then
          Option.bind (loopM (ref06_blanks.l4 s_) x29) fun e => match e with
          | x41 =>
            some (.inl (x41, x30))
        else
          Option.bind (ref06_begins s_ x29 ([47, 42] : Str)) fun v42 =>
          if v42 = true then
            Option.bind (loopM (ref06_blanks.l5 s_) ((IntKind.wrap .i64 (x29 + 2)), false)) fun e => match e with
            | (x57, x58) =>
              if (decide (x57 ≥ ((s_.length : Nat) : Int))) = true then
                some (.inr (.inr (x29, false, false)))
              else
                some (.inl ((IntKind.wrap .i64 (x57 + 2)), (x30 || x58)))
          else
            some (.inr (.inr (x29, x30, true)))
  else
    some (.inr (.inl (x29, x30)))
def ref06_blanks (s_ : Str) (at_ : Int) : Option (Int × Bool × Bool) :=
  Option.bind (loopM (ref06_blanks.l1 s_) (at_, false)) fun e => match e with
  | (.inl (x61, x62)) =>
    some (x61, x62, true)
  | (.inr r63) =>
    some r63
theorem ref06_blanks.ok (s_ : Str) (at_ : Int) (r : Int × Bool × Bool) (h0 : ref06_blanks s_ at_ = some r) (w0 : World) (F0 : Heap) (hv : F0.Sub w0) (hG : Glob F0) (hg : SV.goods F0 [.v (.string ⟨⟨s_⟩⟩), .v (.int .i64 at_)]) (ρ : Nat → Nat) :
    Calls Tryz.prog 27 (SV.dens ρ [.v (.string ⟨⟨s_⟩⟩), .v (.int .i64 at_)]).toArray w0 (Ret0 w0 F0 fun s => ∃ s1 s2 s3, s = .tup [s1, s2, s3] ∧ (s1 = .v (.int .i64 r.1)) ∧ (s2 = .v (.bool r.2.1)) ∧ (s3 = .v (.bool r.2.2))) := by
 refine calls_of_wp Tryz.func27 rfl ?_
 have hX := Cx.enter (D := No) (B := []) (L := []) (ρ := ρ) (N := 112) Tryz.ntmps27 [.v (.string ⟨⟨s_⟩⟩), .v (.int .i64 at_)] (St.start hv) rfl hg (by kernel_rfl) (fun _ h => by cases h) (Nat.le_of_ble_eq_true rfl) No.unfix
 unfold ref06_blanks at h0
 refine Cx.rseq hX [] [0, 1] (l' := [(0, .v (.string ⟨⟨s_⟩⟩)), (1, .v (.int .i64 at_))]) (B' := []) (by kernel_rfl) fun ρ w a hX => ?_
 refine Cx.rseq hX [] [0, 1, 7] (l' := [(0, .v (.string ⟨⟨s_⟩⟩)), (1, .v (.int .i64 at_)), (7, .v (.bool false))]) (B' := []) (by kernel_rfl) fun ρ w a hX => ?_
 refine wp_seq_k fun K3 hK3 => ?_
 refine wp_block ?_
 have hX := hX.keeps [0, 1, 7] (l' := [(0, .v (.string ⟨⟨s_⟩⟩)), (1, .v (.int .i64 at_)), (7, .v (.bool false))]) (by kernel_rfl)
 obtain ⟨e1, he1, h0⟩ := bnd_some h0
 have E1x0 : ∀ (x61 : Int) (x62 : Bool), e1 = (.inl (x61, x62)) → ∀ (ρ : Nat → Nat) (w : World) (F : Heap) (a : Act), Cx 112 w0 F0 No w F [] [] ρ [(1, .v (.int .i64 x61)), (7, .v (.bool x62))] a → K3 a w := by
  intro x61 x62 he  ρ w F a hX
  replace he := he.symm
  subst he
  (try dsimp only at h0)
  refine hK3 _ _ ?_
  refine Cx.rseq hX [] [4, 5, 6] (l' := [(4, .v (.int .i64 x61)), (5, .v (.bool x62)), (6, .v (.bool true))]) (B' := []) (by kernel_rfl) fun ρ w a hX => ?_
  refine wp_ret ?_
  have hr := Option.some.inj (show some _ = some _ from h0)
  subst hr
  exact hX.ret0 (ss := [.v (.int .i64 x61), .v (.bool x62), .v (.bool true)]) (by kernel_rfl) (by kernel_rfl) ⟨_, _, _, rfl, rfl, rfl, rfl⟩
 refine loop_go (fun (s : Int × Bool) a w => match s with | (x29, x30) => ∃ (ρ : Nat → Nat) (F : Heap), Cx 112 w0 F0 No w F [] [] ρ [(0, .v (.string ⟨⟨s_⟩⟩)), (1, .v (.int .i64 x29)), (7, .v (.bool x30))] a) he1 (fun LW1 s o1 h1 hb1 hx1 a w hI => ?_) _ _ ?_
 ·obtain ⟨x29, x30⟩ := s
  obtain ⟨ρ, F, hX⟩ := hI
  unfold ref06_blanks.l1 at h1
  (try dsimp only at h1)
  refine wp_seq_k fun K30 hK30 => ?_
  refine Cx.rseq hX [] [0, 1, 7, 14] (l' := [(0, .v (.string ⟨⟨s_⟩⟩)), (1, .v (.int .i64 x29)), (7, .v (.bool x30)), (14, .v (.bool (decide (x29 < ((s_.length : Nat) : Int)))))]) (B' := []) (by kernel_rfl) fun ρ w a hX => ?_
  refine Cx.cond hX (b := (decide (x29 < ((s_.length : Nat) : Int)))) (by kernel_rfl) (fun hb => ?_) (fun hb => ?_)
  ·have h1 := ite_tt h1 hb
   refine wp_skip ?_
   refine hK30 _ _ ?_
   refine wp_block ?_
   refine wp_seq_k fun K32 hK32 => ?_
   refine wp_region_list ?_
   refine hX.part [] 2 [0, 1, 7, 15, 16] (l' := [(0, .v (.string ⟨⟨s_⟩⟩)), (1, .v (.int .i64 x29)), (7, .v (.bool x30)), (15, .v (.string ⟨⟨s_⟩⟩)), (16, .v (.int .i64 x29))]) (B' := []) (by kernel_rfl) fun ρ w a hX => ?_
   obtain ⟨v31, hv31, h1⟩ := bnd_some h1
   refine hX.idxStr (lit := []) (by kernel_rfl) (by kernel_rfl) rfl (s := s_) (k := .i64) (n := x29) (b := v31) (by kernel_rfl) (by kernel_rfl) (by kernel_rfl) hv31 fun a hX => ?_
   refine hX.part [] 1 [0, 1, 7, 8] (l' := [(0, .v (.string ⟨⟨s_⟩⟩)), (1, .v (.int .i64 x29)), (7, .v (.bool x30)), (8, .v (.int .u8 v31))]) (B' := []) (by kernel_rfl) fun ρ w a hX => ?_
   refine wpList_end ?_
   refine hK32 _ _ ?_
   refine wp_block ?_
   refine Cx.rseq hX [] [0, 1, 7, 8, 20] (l' := [(0, .v (.string ⟨⟨s_⟩⟩)), (1, .v (.int .i64 x29)), (7, .v (.bool x30)), (8, .v (.int .u8 v31)), (20, .v (.bool ((v31 == 10) || (v31 == 13))))]) (B' := []) (by kernel_rfl) fun ρ w a hX => ?_
   refine Cx.cond hX (b := ((v31 == 10) || (v31 == 13))) (by kernel_rfl) (fun hb => ?_) (fun hb => ?_)
   ·have h1 := ite_tt h1 hb
    refine Cx.rseq hX [] [0, 1, 7] (l' := [(0, .v (.string ⟨⟨s_⟩⟩)), (1, .v (.int .i64 x29)), (7, .v (.bool true))]) (B' := []) (by kernel_rfl) fun ρ w a hX => ?_
    refine Cx.region hX [] [0, 1, 7] (l' := [(0, .v (.string ⟨⟨s_⟩⟩)), (1, .v (.int .i64 (IntKind.wrap .i64 (x29 + 1)))), (7, .v (.bool true))]) (B' := []) (by kernel_rfl) fun ρ w a hX => ?_
    have hX := hX.keeps [0, 1, 7] (l' := [(0, .v (.string ⟨⟨s_⟩⟩)), (1, .v (.int .i64 (IntKind.wrap .i64 (x29 + 1)))), (7, .v (.bool true))]) (by kernel_rfl)
    exact hb1 ((IntKind.wrap .i64 (x29 + 1)), true) (out_eq h1) _ _ ⟨_, _, hX⟩
   ·have h1 := ite_ff h1 hb
    refine Cx.rseq hX [] [0, 1, 7, 29] (l' := [(0, .v (.string ⟨⟨s_⟩⟩)), (1, .v (.int .i64 x29)), (7, .v (.bool x30)), (29, .v (.bool ((((v31 == 9) || (v31 == 11)) || (v31 == 12)) || (v31 == 32))))]) (B' := []) (by kernel_rfl) fun ρ w a hX => ?_
    refine Cx.cond hX (b := ((((v31 == 9) || (v31 == 11)) || (v31 == 12)) || (v31 == 32))) (by kernel_rfl) (fun hb => ?_) (fun hb => ?_)
    ·have h1 := ite_tt h1 hb
     refine Cx.region hX [] [0, 1, 7] (l' := [(0, .v (.string ⟨⟨s_⟩⟩)), (1, .v (.int .i64 (IntKind.wrap .i64 (x29 + 1)))), (7, .v (.bool x30))]) (B' := []) (by kernel_rfl) fun ρ w a hX => ?_
     have hX := hX.keeps [0, 1, 7] (l' := [(0, .v (.string ⟨⟨s_⟩⟩)), (1, .v (.int .i64 (IntKind.wrap .i64 (x29 + 1)))), (7, .v (.bool x30))]) (by kernel_rfl)
     exact hb1 ((IntKind.wrap .i64 (x29 + 1)), x30) (out_eq h1) _ _ ⟨_, _, hX⟩
    ·have h1 := ite_ff h1 hb
     refine wp_seq_k fun K36 hK36 => ?_
     refine wp_region_list ?_
     refine hX.part [] 2 [0, 1, 7, 47, 48] (l' := [(0, .v (.string ⟨⟨s_⟩⟩)), (1, .v (.int .i64 x29)), (7, .v (.bool x30)), (47, .v (.string ⟨⟨s_⟩⟩)), (48, .v (.int .i64 x29))]) (B' := []) (by kernel_rfl) fun ρ w a hX => ?_
     obtain ⟨v32, hv32, h1⟩ := bnd_some h1
     refine Cx.call0 hX (lit := []) (by kernel_rfl) rfl (by kernel_rfl) ⟨⟨_, Tryz.func39, by kernel_rfl, rfl⟩⟩ (ss := [.v (.string ⟨⟨s_⟩⟩), .v (.int .i64 x29), .v (.string ⟨⟨([47, 47] : Str)⟩⟩)]) (by kernel_rfl) [.v (.string ⟨⟨s_⟩⟩), .v (.int .i64 x29), .v (.string ⟨⟨([47, 47] : Str)⟩⟩)] rfl (fun hg => hg) (fun hv hle hg => ref06_begins.ok s_ x29 ([47, 47] : Str) v32 hv32 _ _ hv (hG.mono hle) hg _) (fun s F w a hp hX => ?_)
     subst hp
     refine hX.part [] 1 [0, 1, 7, 46] (l' := [(0, .v (.string ⟨⟨s_⟩⟩)), (1, .v (.int .i64 x29)), (7, .v (.bool x30)), (46, .v (.bool v32))]) (B' := []) (by kernel_rfl) fun ρ w a hX => ?_
     refine wpList_end ?_
     refine hK36 _ _ ?_
     refine Cx.cond hX (b := v32) (by kernel_rfl) (fun hb => ?_) (fun hb => ?_)
     ·have h1 := ite_tt h1 hb
      refine wp_block ?_
      have hX := hX.keeps [0, 1, 7] (l' := [(0, .v (.string ⟨⟨s_⟩⟩)), (1, .v (.int .i64 x29)), (7, .v (.bool x30))]) (by kernel_rfl)
      obtain ⟨e2, he2, h1⟩ := bnd_some h1
      have E2x0 : ∀ (x41 : Int), e2 = x41 → ∀ (ρ : Nat → Nat) (w : World) (F : Heap) (a : Act), Cx 112 w0 F0 No w F [] [] ρ [(0, .v (.string ⟨⟨s_⟩⟩)), (1, .v (.int .i64 x41)), (7, .v (.bool x30))] a → LW1 a w := by
       intro x41 he  ρ w F a hX
       replace he := he.symm
       subst he
       (try dsimp only at h1)
       have hX := hX.keeps [0, 1, 7] (l' := [(0, .v (.string ⟨⟨s_⟩⟩)), (1, .v (.int .i64 x41)), (7, .v (.bool x30))]) (by kernel_rfl)
       exact hb1 (x41, x30) (out_eq h1) _ _ ⟨_, _, hX⟩
      refine loop_go (fun (x36 : Int) a w => ∃ (ρ : Nat → Nat) (F : Heap), Cx 112 w0 F0 No w F [] [] ρ [(0, .v (.string ⟨⟨s_⟩⟩)), (1, .v (.int .i64 x36)), (7, .v (.bool x30))] a) he2 (fun LW2 x36 o2 h2 hb2 hx2 a w hI => ?_) _ _ ?_
      ·obtain ⟨ρ, F, hX⟩ := hI
       unfold ref06_blanks.l4 at h2
       (try dsimp only at h2)
       refine wp_seq_k fun K39 hK39 => ?_
       refine wp_seq_k fun K40 hK40 => ?_
       have J40 : ∀ (x39 : Bool), ref06_blanks.j8 x36 x39 = some o2 → ∀ (ρ : Nat → Nat) (w : World) (F : Heap) (a : Act), Cx 112 w0 F0 No w F [] [] ρ [(0, .v (.string ⟨⟨s_⟩⟩)), (1, .v (.int .i64 x36)), (7, .v (.bool x30)), (65, .v (.bool x39))] a → K40 a w := by
        intro x39 h2  ρ w F a hX
        unfold ref06_blanks.j8 at h2
        refine hK40 _ _ ?_
        refine Cx.cond hX (b := x39) (by kernel_rfl) (fun hb => ?_) (fun hb => ?_)
        ·have h2 := ite_tt h2 hb
         refine wp_skip ?_
         refine hK39 _ _ ?_
         refine wp_block ?_
         refine Cx.region hX [] [0, 1, 7] (l' := [(0, .v (.string ⟨⟨s_⟩⟩)), (1, .v (.int .i64 (IntKind.wrap .i64 (x36 + 1)))), (7, .v (.bool x30))]) (B' := []) (by kernel_rfl) fun ρ w a hX => ?_
         have hX := hX.keeps [0, 1, 7] (l' := [(0, .v (.string ⟨⟨s_⟩⟩)), (1, .v (.int .i64 (IntKind.wrap .i64 (x36 + 1)))), (7, .v (.bool x30))]) (by kernel_rfl)
         exact hb2 (IntKind.wrap .i64 (x36 + 1)) (out_eq h2) _ _ ⟨_, _, hX⟩
        ·have h2 := ite_ff h2 hb
         refine wp_exit ?_
         have hX := hX.keeps [0, 1, 7] (l' := [(0, .v (.string ⟨⟨s_⟩⟩)), (1, .v (.int .i64 x36)), (7, .v (.bool x30))]) (by kernel_rfl)
         exact E2x0 x36 (hx2 _ (out_eq h2)).symm  _ _ _ _ hX
       refine wp_region_list ?_
       refine hX.part [] 5 [0, 1, 7, 54] (l' := [(0, .v (.string ⟨⟨s_⟩⟩)), (1, .v (.int .i64 x36)), (7, .v (.bool x30)), (54, .v (.bool (decide (x36 < ((s_.length : Nat) : Int)))))]) (B' := []) (by kernel_rfl) fun ρ w a hX => ?_
       refine ite_go h2 (fun hb h2 => ?_) (fun hb h2 => ?_)
       ·have hX := hX.relit 54 hb (by kernel_rfl)
        refine hX.part [4] 2 [0, 1, 7, 54, 55, 56] (l' := [(0, .v (.string ⟨⟨s_⟩⟩)), (1, .v (.int .i64 x36)), (7, .v (.bool x30)), (54, .v (.bool true)), (55, .v (.string ⟨⟨s_⟩⟩)), (56, .v (.int .i64 x36))]) (B' := []) (by kernel_rfl) fun ρ w a hX => ?_
        obtain ⟨v37, hv37, h2⟩ := bnd_some h2
        refine hX.idxStr (lit := [4]) (by kernel_rfl) (by kernel_rfl) rfl (s := s_) (k := .i64) (n := x36) (b := v37) (by kernel_rfl) (by kernel_rfl) (by kernel_rfl) hv37 fun a hX => ?_
        refine hX.part [4] 3 [0, 1, 7, 60] (l' := [(0, .v (.string ⟨⟨s_⟩⟩)), (1, .v (.int .i64 x36)), (7, .v (.bool x30)), (60, .v (.bool (v37 != 10)))]) (B' := []) (by kernel_rfl) fun ρ w a hX => ?_
        refine ite_go h2 (fun hb h2 => ?_) (fun hb h2 => ?_)
        ·have hX := hX.relit 60 hb (by kernel_rfl)
         refine hX.part [10] 2 [0, 1, 7, 60, 61, 62] (l' := [(0, .v (.string ⟨⟨s_⟩⟩)), (1, .v (.int .i64 x36)), (7, .v (.bool x30)), (60, .v (.bool true)), (61, .v (.string ⟨⟨s_⟩⟩)), (62, .v (.int .i64 x36))]) (B' := []) (by kernel_rfl) fun ρ w a hX => ?_
         obtain ⟨v38, hv38, h2⟩ := bnd_some h2
         refine hX.idxStr (lit := [10]) (by kernel_rfl) (by kernel_rfl) rfl (s := s_) (k := .i64) (n := x36) (b := v38) (by kernel_rfl) (by kernel_rfl) (by kernel_rfl) hv38 fun a hX => ?_
         refine hX.part [10] 2 [0, 1, 7, 65] (l' := [(0, .v (.string ⟨⟨s_⟩⟩)), (1, .v (.int .i64 x36)), (7, .v (.bool x30)), (65, .v (.bool (v38 != 13)))]) (B' := []) (by kernel_rfl) fun ρ w a hX => ?_
         refine wpList_end ?_
         have hX := hX.keeps [0, 1, 7, 65] (l' := [(0, .v (.string ⟨⟨s_⟩⟩)), (1, .v (.int .i64 x36)), (7, .v (.bool x30)), (65, .v (.bool (v38 != 13)))]) (by kernel_rfl)
         exact J40 (v38 != 13) h2  _ _ _ _ hX
        ·have hX := hX.relit 60 hb (by kernel_rfl)
         refine hX.part [10] 5 [0, 1, 7, 65] (l' := [(0, .v (.string ⟨⟨s_⟩⟩)), (1, .v (.int .i64 x36)), (7, .v (.bool x30)), (65, .v (.bool false))]) (B' := []) (by kernel_rfl) fun ρ w a hX => ?_
         refine wpList_end ?_
         have hX := hX.keeps [0, 1, 7, 65] (l' := [(0, .v (.string ⟨⟨s_⟩⟩)), (1, .v (.int .i64 x36)), (7, .v (.bool x30)), (65, .v (.bool false))]) (by kernel_rfl)
         exact J40 false h2  _ _ _ _ hX
       ·have hX := hX.relit 54 hb (by kernel_rfl)
        refine hX.part [4, 10] 11 [0, 1, 7, 65] (l' := [(0, .v (.string ⟨⟨s_⟩⟩)), (1, .v (.int .i64 x36)), (7, .v (.bool x30)), (65, .v (.bool false))]) (B' := []) (by kernel_rfl) fun ρ w a hX => ?_
        refine wpList_end ?_
        have hX := hX.keeps [0, 1, 7, 65] (l' := [(0, .v (.string ⟨⟨s_⟩⟩)), (1, .v (.int .i64 x36)), (7, .v (.bool x30)), (65, .v (.bool false))]) (by kernel_rfl)
        exact J40 false h2  _ _ _ _ hX
      ·exact ⟨_, _, hX⟩
     ·have h1 := ite_ff h1 hb
      refine wp_seq_k fun K41 hK41 => ?_
      refine wp_region_list ?_
      refine hX.part [] 2 [0, 1, 7, 69, 70] (l' := [(0, .v (.string ⟨⟨s_⟩⟩)), (1, .v (.int .i64 x29)), (7, .v (.bool x30)), (69, .v (.string ⟨⟨s_⟩⟩)), (70, .v (.int .i64 x29))]) (B' := []) (by kernel_rfl) fun ρ w a hX => ?_
      obtain ⟨v42, hv42, h1⟩ := bnd_some h1
      refine Cx.call0 hX (lit := []) (by kernel_rfl) rfl (by kernel_rfl) ⟨⟨_, Tryz.func39, by kernel_rfl, rfl⟩⟩ (ss := [.v (.string ⟨⟨s_⟩⟩), .v (.int .i64 x29), .v (.string ⟨⟨([47, 42] : Str)⟩⟩)]) (by kernel_rfl) [.v (.string ⟨⟨s_⟩⟩), .v (.int .i64 x29), .v (.string ⟨⟨([47, 42] : Str)⟩⟩)] rfl (fun hg => hg) (fun hv hle hg => ref06_begins.ok s_ x29 ([47, 42] : Str) v42 hv42 _ _ hv (hG.mono hle) hg _) (fun s F w a hp hX => ?_)
      subst hp
      refine hX.part [] 1 [0, 1, 7, 68] (l' := [(0, .v (.string ⟨⟨s_⟩⟩)), (1, .v (.int .i64 x29)), (7, .v (.bool x30)), (68, .v (.bool v42))]) (B' := []) (by kernel_rfl) fun ρ w a hX => ?_
      refine wpList_end ?_
      refine hK41 _ _ ?_
      refine Cx.cond hX (b := v42) (by kernel_rfl) (fun hb => ?_) (fun hb => ?_)
      ·have h1 := ite_tt h1 hb
       refine Cx.rseq hX [] [0, 1, 7, 9] (l' := [(0, .v (.string ⟨⟨s_⟩⟩)), (1, .v (.int .i64 x29)), (7, .v (.bool x30)), (9, .v (.int .i64 (IntKind.wrap .i64 (x29 + 2))))]) (B' := []) (by kernel_rfl) fun ρ w a hX => ?_
       refine Cx.rseq hX [] [0, 1, 7, 9, 10] (l' := [(0, .v (.string ⟨⟨s_⟩⟩)), (1, .v (.int .i64 x29)), (7, .v (.bool x30)), (9, .v (.int .i64 (IntKind.wrap .i64 (x29 + 2)))), (10, .v (.bool false))]) (B' := []) (by kernel_rfl) fun ρ w a hX => ?_
       refine wp_seq_k fun K44 hK44 => ?_
       refine wp_block ?_
       have hX := hX.keeps [0, 1, 7, 9, 10] (l' := [(0, .v (.string ⟨⟨s_⟩⟩)), (1, .v (.int .i64 x29)), (7, .v (.bool x30)), (9, .v (.int .i64 (IntKind.wrap .i64 (x29 + 2)))), (10, .v (.bool false))]) (by kernel_rfl)
       obtain ⟨e2, he2, h1⟩ := bnd_some h1
       have E2x0 : ∀ (x57 : Int) (x58 : Bool), e2 = (x57, x58) → ∀ (ρ : Nat → Nat) (w : World) (F : Heap) (a : Act), Cx 112 w0 F0 No w F [] [] ρ [(0, .v (.string ⟨⟨s_⟩⟩)), (1, .v (.int .i64 x29)), (7, .v (.bool x30)), (9, .v (.int .i64 x57)), (10, .v (.bool x58))] a → K44 a w := by
        intro x57 x58 he  ρ w F a hX
        replace he := he.symm
        subst he
        (try dsimp only at h1)
        refine hK44 _ _ ?_
        refine wp_seq_k fun K51 hK51 => ?_
        refine Cx.rseq hX [] [0, 1, 7, 9, 10, 102] (l' := [(0, .v (.string ⟨⟨s_⟩⟩)), (1, .v (.int .i64 x29)), (7, .v (.bool x30)), (9, .v (.int .i64 x57)), (10, .v (.bool x58)), (102, .v (.bool (decide (x57 ≥ ((s_.length : Nat) : Int)))))]) (B' := []) (by kernel_rfl) fun ρ w a hX => ?_
        refine Cx.cond hX (b := (decide (x57 ≥ ((s_.length : Nat) : Int)))) (by kernel_rfl) (fun hb => ?_) (fun hb => ?_)
        ·have h1 := ite_tt h1 hb
         refine Cx.rseq hX [] [4, 5, 6] (l' := [(4, .v (.int .i64 x29)), (5, .v (.bool false)), (6, .v (.bool false))]) (B' := []) (by kernel_rfl) fun ρ w a hX => ?_
         refine wp_ret ?_
         have he := hx1 _ (out_eq h1)
         subst he
         (try dsimp only at h0)
         have hr := Option.some.inj (show some _ = some _ from h0)
         subst hr
         exact hX.ret0 (ss := [.v (.int .i64 x29), .v (.bool false), .v (.bool false)]) (by kernel_rfl) (by kernel_rfl) ⟨_, _, _, rfl, rfl, rfl, rfl⟩
        ·have h1 := ite_ff h1 hb
         refine wp_skip ?_
         refine hK51 _ _ ?_
         refine Cx.rseq hX [] [0, 7, 9] (l' := [(0, .v (.string ⟨⟨s_⟩⟩)), (7, .v (.bool (x30 || x58))), (9, .v (.int .i64 x57))]) (B' := []) (by kernel_rfl) fun ρ w a hX => ?_
         refine Cx.region hX [] [0, 1, 7] (l' := [(0, .v (.string ⟨⟨s_⟩⟩)), (1, .v (.int .i64 (IntKind.wrap .i64 (x57 + 2)))), (7, .v (.bool (x30 || x58)))]) (B' := []) (by kernel_rfl) fun ρ w a hX => ?_
         have hX := hX.keeps [0, 1, 7] (l' := [(0, .v (.string ⟨⟨s_⟩⟩)), (1, .v (.int .i64 (IntKind.wrap .i64 (x57 + 2)))), (7, .v (.bool (x30 || x58)))]) (by kernel_rfl)
         exact hb1 ((IntKind.wrap .i64 (x57 + 2)), (x30 || x58)) (out_eq h1) _ _ ⟨_, _, hX⟩
       refine loop_go (fun (s : Int × Bool) a w => match s with | (x48, x49) => ∃ (ρ : Nat → Nat) (F : Heap), Cx 112 w0 F0 No w F [] [] ρ [(0, .v (.string ⟨⟨s_⟩⟩)), (1, .v (.int .i64 x29)), (7, .v (.bool x30)), (9, .v (.int .i64 x48)), (10, .v (.bool x49))] a) he2 (fun LW2 s o2 h2 hb2 hx2 a w hI => ?_) _ _ ?_
       ·obtain ⟨x48, x49⟩ := s
        obtain ⟨ρ, F, hX⟩ := hI
        unfold ref06_blanks.l5 at h2
        (try dsimp only at h2)
        refine wp_seq_k fun K48 hK48 => ?_
        refine wp_seq_k fun K49 hK49 => ?_
        have J49 : ∀ (x51 : Bool), ref06_blanks.j11 s_ x48 x49 x51 = some o2 → ∀ (ρ : Nat → Nat) (w : World) (F : Heap) (a : Act), Cx 112 w0 F0 No w F [] [] ρ [(0, .v (.string ⟨⟨s_⟩⟩)), (1, .v (.int .i64 x29)), (7, .v (.bool x30)), (9, .v (.int .i64 x48)), (10, .v (.bool x49)), (83, .v (.bool x51))] a → K49 a w := by
         intro x51 h2  ρ w F a hX
         unfold ref06_blanks.j11 at h2
         refine hK49 _ _ ?_
         refine Cx.cond hX (b := x51) (by kernel_rfl) (fun hb => ?_) (fun hb => ?_)
         ·have h2 := ite_tt h2 hb
          refine wp_skip ?_
          refine hK48 _ _ ?_
          refine wp_block ?_
          refine wp_seq_k fun K50 hK50 => ?_
          have J50 : ∀ (x54 : Bool), ref06_blanks.j12 x48 x54 = some o2 → ∀ (ρ : Nat → Nat) (w : World) (F : Heap) (a : Act), Cx 112 w0 F0 No w F [] [] ρ [(0, .v (.string ⟨⟨s_⟩⟩)), (1, .v (.int .i64 x29)), (7, .v (.bool x30)), (9, .v (.int .i64 x48)), (10, .v (.bool x54))] a → K50 a w := by
           intro x54 h2  ρ w F a hX
           unfold ref06_blanks.j12 at h2
           refine hK50 _ _ ?_
           refine Cx.region hX [] [0, 1, 7, 9, 10] (l' := [(0, .v (.string ⟨⟨s_⟩⟩)), (1, .v (.int .i64 x29)), (7, .v (.bool x30)), (9, .v (.int .i64 (IntKind.wrap .i64 (x48 + 1)))), (10, .v (.bool x54))]) (B' := []) (by kernel_rfl) fun ρ w a hX => ?_
           have hX := hX.keeps [0, 1, 7, 9, 10] (l' := [(0, .v (.string ⟨⟨s_⟩⟩)), (1, .v (.int .i64 x29)), (7, .v (.bool x30)), (9, .v (.int .i64 (IntKind.wrap .i64 (x48 + 1)))), (10, .v (.bool x54))]) (by kernel_rfl)
           exact hb2 ((IntKind.wrap .i64 (x48 + 1)), x54) (out_eq h2) _ _ ⟨_, _, hX⟩
          refine wp_region_list ?_
          refine hX.part [] 2 [0, 1, 7, 9, 10, 85] (l' := [(0, .v (.string ⟨⟨s_⟩⟩)), (1, .v (.int .i64 x29)), (7, .v (.bool x30)), (9, .v (.int .i64 x48)), (10, .v (.bool x49)), (85, .v (.bool x49))]) (B' := []) (by kernel_rfl) fun ρ w a hX => ?_
          refine ite_go h2 (fun hb h2 => ?_) (fun hb h2 => ?_)
          ·have hX := hX.relit 85 hb (by kernel_rfl)
           refine hX.part [1, 7] 12 [0, 1, 7, 9, 10] (l' := [(0, .v (.string ⟨⟨s_⟩⟩)), (1, .v (.int .i64 x29)), (7, .v (.bool x30)), (9, .v (.int .i64 x48)), (10, .v (.bool true))]) (B' := []) (by kernel_rfl) fun ρ w a hX => ?_
           refine wpList_end ?_
           have hX := hX.keeps [0, 1, 7, 9, 10] (l' := [(0, .v (.string ⟨⟨s_⟩⟩)), (1, .v (.int .i64 x29)), (7, .v (.bool x30)), (9, .v (.int .i64 x48)), (10, .v (.bool true))]) (by kernel_rfl)
           exact J50 true h2  _ _ _ _ hX
          ·have hX := hX.relit 85 hb (by kernel_rfl)
           refine hX.part [1] 2 [0, 1, 7, 9, 10, 85, 86, 87] (l' := [(0, .v (.string ⟨⟨s_⟩⟩)), (1, .v (.int .i64 x29)), (7, .v (.bool x30)), (9, .v (.int .i64 x48)), (10, .v (.bool x49)), (85, .v (.bool false)), (86, .v (.string ⟨⟨s_⟩⟩)), (87, .v (.int .i64 x48))]) (B' := []) (by kernel_rfl) fun ρ w a hX => ?_
           obtain ⟨v52, hv52, h2⟩ := bnd_some h2
           refine hX.idxStr (lit := [1]) (by kernel_rfl) (by kernel_rfl) rfl (s := s_) (k := .i64) (n := x48) (b := v52) (by kernel_rfl) (by kernel_rfl) (by kernel_rfl) hv52 fun a hX => ?_
           refine hX.part [1] 3 [0, 1, 7, 9, 10, 91] (l' := [(0, .v (.string ⟨⟨s_⟩⟩)), (1, .v (.int .i64 x29)), (7, .v (.bool x30)), (9, .v (.int .i64 x48)), (10, .v (.bool x49)), (91, .v (.bool (v52 == 10)))]) (B' := []) (by kernel_rfl) fun ρ w a hX => ?_
           refine ite_go h2 (fun hb h2 => ?_) (fun hb h2 => ?_)
           ·have hX := hX.relit 91 hb (by kernel_rfl)
            refine hX.part [7] 6 [0, 1, 7, 9, 10] (l' := [(0, .v (.string ⟨⟨s_⟩⟩)), (1, .v (.int .i64 x29)), (7, .v (.bool x30)), (9, .v (.int .i64 x48)), (10, .v (.bool true))]) (B' := []) (by kernel_rfl) fun ρ w a hX => ?_
            refine wpList_end ?_
            have hX := hX.keeps [0, 1, 7, 9, 10] (l' := [(0, .v (.string ⟨⟨s_⟩⟩)), (1, .v (.int .i64 x29)), (7, .v (.bool x30)), (9, .v (.int .i64 x48)), (10, .v (.bool true))]) (by kernel_rfl)
            exact J50 true h2  _ _ _ _ hX
           ·have hX := hX.relit 91 hb (by kernel_rfl)
            refine hX.part [7] 2 [0, 1, 7, 9, 10, 91, 92, 93] (l' := [(0, .v (.string ⟨⟨s_⟩⟩)), (1, .v (.int .i64 x29)), (7, .v (.bool x30)), (9, .v (.int .i64 x48)), (10, .v (.bool x49)), (91, .v (.bool false)), (92, .v (.string ⟨⟨s_⟩⟩)), (93, .v (.int .i64 x48))]) (B' := []) (by kernel_rfl) fun ρ w a hX => ?_
            obtain ⟨v53, hv53, h2⟩ := bnd_some h2
            refine hX.idxStr (lit := [7]) (by kernel_rfl) (by kernel_rfl) rfl (s := s_) (k := .i64) (n := x48) (b := v53) (by kernel_rfl) (by kernel_rfl) (by kernel_rfl) hv53 fun a hX => ?_
            refine hX.part [7] 3 [0, 1, 7, 9, 10] (l' := [(0, .v (.string ⟨⟨s_⟩⟩)), (1, .v (.int .i64 x29)), (7, .v (.bool x30)), (9, .v (.int .i64 x48)), (10, .v (.bool (v53 == 13)))]) (B' := []) (by kernel_rfl) fun ρ w a hX => ?_
            refine wpList_end ?_
            have hX := hX.keeps [0, 1, 7, 9, 10] (l' := [(0, .v (.string ⟨⟨s_⟩⟩)), (1, .v (.int .i64 x29)), (7, .v (.bool x30)), (9, .v (.int .i64 x48)), (10, .v (.bool (v53 == 13)))]) (by kernel_rfl)
            exact J50 (v53 == 13) h2  _ _ _ _ hX
         ·have h2 := ite_ff h2 hb
          refine wp_exit ?_
          have hX := hX.keeps [0, 1, 7, 9, 10] (l' := [(0, .v (.string ⟨⟨s_⟩⟩)), (1, .v (.int .i64 x29)), (7, .v (.bool x30)), (9, .v (.int .i64 x48)), (10, .v (.bool x49))]) (by kernel_rfl)
          exact E2x0 x48 x49 (hx2 _ (out_eq h2)).symm  _ _ _ _ hX
        refine wp_region_list ?_
        refine hX.part [] 5 [0, 1, 7, 9, 10, 78] (l' := [(0, .v (.string ⟨⟨s_⟩⟩)), (1, .v (.int .i64 x29)), (7, .v (.bool x30)), (9, .v (.int .i64 x48)), (10, .v (.bool x49)), (78, .v (.bool (decide (x48 < ((s_.length : Nat) : Int)))))]) (B' := []) (by kernel_rfl) fun ρ w a hX => ?_
        refine ite_go h2 (fun hb h2 => ?_) (fun hb h2 => ?_)
        ·have hX := hX.relit 78 hb (by kernel_rfl)
         refine hX.part [4] 2 [0, 1, 7, 9, 10, 78, 79, 80] (l' := [(0, .v (.string ⟨⟨s_⟩⟩)), (1, .v (.int .i64 x29)), (7, .v (.bool x30)), (9, .v (.int .i64 x48)), (10, .v (.bool x49)), (78, .v (.bool true)), (79, .v (.string ⟨⟨s_⟩⟩)), (80, .v (.int .i64 x48))]) (B' := []) (by kernel_rfl) fun ρ w a hX => ?_
         obtain ⟨v50, hv50, h2⟩ := bnd_some h2
         refine Cx.call0 hX (lit := [4]) (by kernel_rfl) rfl (by kernel_rfl) ⟨⟨_, Tryz.func39, by kernel_rfl, rfl⟩⟩ (ss := [.v (.string ⟨⟨s_⟩⟩), .v (.int .i64 x48), .v (.string ⟨⟨([42, 47] : Str)⟩⟩)]) (by kernel_rfl) [.v (.string ⟨⟨s_⟩⟩), .v (.int .i64 x48), .v (.string ⟨⟨([42, 47] : Str)⟩⟩)] rfl (fun hg => hg) (fun hv hle hg => ref06_begins.ok s_ x48 ([42, 47] : Str) v50 hv50 _ _ hv (hG.mono hle) hg _) (fun s F w a hp hX => ?_)
         subst hp
         refine hX.part [4] 2 [0, 1, 7, 9, 10, 83] (l' := [(0, .v (.string ⟨⟨s_⟩⟩)), (1, .v (.int .i64 x29)), (7, .v (.bool x30)), (9, .v (.int .i64 x48)), (10, .v (.bool x49)), (83, .v (.bool (!v50)))]) (B' := []) (by kernel_rfl) fun ρ w a hX => ?_
         refine wpList_end ?_
         have hX := hX.keeps [0, 1, 7, 9, 10, 83] (l' := [(0, .v (.string ⟨⟨s_⟩⟩)), (1, .v (.int .i64 x29)), (7, .v (.bool x30)), (9, .v (.int .i64 x48)), (10, .v (.bool x49)), (83, .v (.bool (!v50)))]) (by kernel_rfl)
         exact J49 (!v50) h2  _ _ _ _ hX
        ·have hX := hX.relit 78 hb (by kernel_rfl)
         refine hX.part [4] 5 [0, 1, 7, 9, 10, 83] (l' := [(0, .v (.string ⟨⟨s_⟩⟩)), (1, .v (.int .i64 x29)), (7, .v (.bool x30)), (9, .v (.int .i64 x48)), (10, .v (.bool x49)), (83, .v (.bool false))]) (B' := []) (by kernel_rfl) fun ρ w a hX => ?_
         refine wpList_end ?_
         have hX := hX.keeps [0, 1, 7, 9, 10, 83] (l' := [(0, .v (.string ⟨⟨s_⟩⟩)), (1, .v (.int .i64 x29)), (7, .v (.bool x30)), (9, .v (.int .i64 x48)), (10, .v (.bool x49)), (83, .v (.bool false))]) (by kernel_rfl)
         exact J49 false h2  _ _ _ _ hX
       ·exact ⟨_, _, hX⟩
      ·have h1 := ite_ff h1 hb
       refine Cx.rseq hX [] [4, 5, 6] (l' := [(4, .v (.int .i64 x29)), (5, .v (.bool x30)), (6, .v (.bool true))]) (B' := []) (by kernel_rfl) fun ρ w a hX => ?_
       refine wp_ret ?_
       have he := hx1 _ (out_eq h1)
       subst he
       (try dsimp only at h0)
       have hr := Option.some.inj (show some _ = some _ from h0)
       subst hr
       exact hX.ret0 (ss := [.v (.int .i64 x29), .v (.bool x30), .v (.bool true)]) (by kernel_rfl) (by kernel_rfl) ⟨_, _, _, rfl, rfl, rfl, rfl⟩
  ·have h1 := ite_ff h1 hb
   refine wp_exit ?_
   have hX := hX.keeps [1, 7] (l' := [(1, .v (.int .i64 x29)), (7, .v (.bool x30))]) (by kernel_rfl)
   exact E1x0 x29 x30 (hx1 _ (out_eq h1)).symm  _ _ _ _ hX
 ·exact ⟨_, _, hX⟩
def ref06_value (c : Int) : Option (Int) :=
  Option.bind (ref06_digit c) fun v1 =>
  if v1 = true then
    some (IntKind.wrap .i64 (IntKind.wrap .u8 (c - 48)))
  else
    if ((decide (c ≥ 97)) && (decide (c ≤ 102))) = true then
      some (IntKind.wrap .i64 ((IntKind.wrap .i64 (IntKind.wrap .u8 (c - 97))) + 10))
    else
      if ((decide (c ≥ 65)) && (decide (c ≤ 70))) = true then
        some (IntKind.wrap .i64 ((IntKind.wrap .i64 (IntKind.wrap .u8 (c - 65))) + 10))
      else
        some (-1)
theorem ref06_value.ok (c : Int) (r : Int) (h0 : ref06_value c = some r) (w0 : World) (F0 : Heap) (hv : F0.Sub w0) (hG : Glob F0) (hg : SV.goods F0 [.v (.int .u8 c)]) (ρ : Nat → Nat) :
    Calls Tryz.prog 55 (SV.dens ρ [.v (.int .u8 c)]).toArray w0 (Ret0 w0 F0 fun s => s = .v (.int .i64 r)) := by
 refine calls_of_wp Tryz.func55 rfl ?_
 have hX := Cx.enter (D := No) (B := []) (L := []) (ρ := ρ) (N := 31) Tryz.ntmps55 [.v (.int .u8 c)] (St.start hv) rfl hg (by kernel_rfl) (fun _ h => by cases h) (Nat.le_of_ble_eq_true rfl) No.unfix
 unfold ref06_value at h0
 refine Cx.rseq hX [] [0] (l' := [(0, .v (.int .u8 c))]) (B' := []) (by kernel_rfl) fun ρ w a hX => ?_
 refine wp_seq_k fun K2 hK2 => ?_
 refine wp_block ?_
 refine wp_seq_k fun K3 hK3 => ?_
 refine wp_region_list ?_
 refine hX.part [] 1 [0, 4] (l' := [(0, .v (.int .u8 c)), (4, .v (.int .u8 c))]) (B' := []) (by kernel_rfl) fun ρ w a hX => ?_
 obtain ⟨v1, hv1, h0⟩ := bnd_some h0
 refine Cx.call0 hX (lit := []) (by kernel_rfl) rfl (by kernel_rfl) ⟨⟨_, Tryz.func21, by kernel_rfl, rfl⟩⟩ (ss := [.v (.int .u8 c)]) (by kernel_rfl) [.v (.int .u8 c)] rfl (fun hg => hg) (fun hv hle hg => ref06_digit.ok c v1 hv1 _ _ hv (hG.mono hle) hg _) (fun s F w a hp hX => ?_)
 subst hp
 refine hX.part [] 1 [0, 3] (l' := [(0, .v (.int .u8 c)), (3, .v (.bool v1))]) (B' := []) (by kernel_rfl) fun ρ w a hX => ?_
 refine wpList_end ?_
 refine hK3 _ _ ?_
 refine Cx.cond hX (b := v1) (by kernel_rfl) (fun hb => ?_) (fun hb => ?_)
 ·have h0 := ite_tt h0 hb
  refine Cx.rseq hX [] [2] (l' := [(2, .v (.int .i64 (IntKind.wrap .i64 (IntKind.wrap .u8 (c - 48)))))]) (B' := []) (by kernel_rfl) fun ρ w a hX => ?_
  refine wp_ret ?_
  have hr := Option.some.inj (show some _ = some _ from h0)
  subst hr
  exact hX.ret0 (ss := [.v (.int .i64 (IntKind.wrap .i64 (IntKind.wrap .u8 (c - 48))))]) (by kernel_rfl) (by kernel_rfl) rfl
 ·have h0 := ite_ff h0 hb
  refine Cx.rseq hX [] [0, 9] (l' := [(0, .v (.int .u8 c)), (9, .v (.bool ((decide (c ≥ 97)) && (decide (c ≤ 102)))))]) (B' := []) (by kernel_rfl) fun ρ w a hX => ?_
  refine Cx.cond hX (b := ((decide (c ≥ 97)) && (decide (c ≤ 102)))) (by kernel_rfl) (fun hb => ?_) (fun hb => ?_)
  ·have h0 := ite_tt h0 hb
   refine Cx.rseq hX [] [2] (l' := [(2, .v (.int .i64 (IntKind.wrap .i64 ((IntKind.wrap .i64 (IntKind.wrap .u8 (c - 97))) + 10))))]) (B' := []) (by kernel_rfl) fun ρ w a hX => ?_
   refine wp_ret ?_
   have hr := Option.some.inj (show some _ = some _ from h0)
   subst hr
   exact hX.ret0 (ss := [.v (.int .i64 (IntKind.wrap .i64 ((IntKind.wrap .i64 (IntKind.wrap .u8 (c - 97))) + 10)))]) (by kernel_rfl) (by kernel_rfl) rfl
  ·have h0 := ite_ff h0 hb
   refine Cx.rseq hX [] [0, 20] (l' := [(0, .v (.int .u8 c)), (20, .v (.bool ((decide (c ≥ 65)) && (decide (c ≤ 70)))))]) (B' := []) (by kernel_rfl) fun ρ w a hX => ?_
   refine Cx.cond hX (b := ((decide (c ≥ 65)) && (decide (c ≤ 70)))) (by kernel_rfl) (fun hb => ?_) (fun hb => ?_)
   ·have h0 := ite_tt h0 hb
    refine Cx.rseq hX [] [2] (l' := [(2, .v (.int .i64 (IntKind.wrap .i64 ((IntKind.wrap .i64 (IntKind.wrap .u8 (c - 65))) + 10))))]) (B' := []) (by kernel_rfl) fun ρ w a hX => ?_
    refine wp_ret ?_
    have hr := Option.some.inj (show some _ = some _ from h0)
    subst hr
    exact hX.ret0 (ss := [.v (.int .i64 (IntKind.wrap .i64 ((IntKind.wrap .i64 (IntKind.wrap .u8 (c - 65))) + 10)))]) (by kernel_rfl) (by kernel_rfl) rfl
   ·have h0 := ite_ff h0 hb
    refine wp_skip ?_
    refine hK2 _ _ ?_
    refine Cx.rseq hX [] [2] (l' := [(2, .v (.int .i64 (-1)))]) (B' := []) (by kernel_rfl) fun ρ w a hX => ?_
    refine wp_ret ?_
    have hr := Option.some.inj (show some _ = some _ from h0)
    subst hr
    exact hX.ret0 (ss := [.v (.int .i64 (-1))]) (by kernel_rfl) (by kernel_rfl) rfl
def ref06_number.j6 (x8 : Int) (x19 : Int) (x20 : Int) (v27 : Int) (x29 : Bool) : Option ((Int × Int) ⊕ ((Int × Int) ⊕ (Int × Int))) :=
  if x29 = true then
    some (.inr (.inl ((IntKind.wrap .i64 ((IntKind.wrap .i64 (x19 * x8)) + v27)), (IntKind.wrap .i64 (x20 + 1)))))
  else
    some (.inl ((IntKind.wrap .i64 ((IntKind.wrap .i64 (x19 * x8)) + v27)), (IntKind.wrap .i64 (x20 + 1))))
def ref06_number.j5 (s_ : Str) (at_ : Int) (x8 : Int) (x19 : Int) (x20 : Int) (x25 : Bool) : Option ((Int × Int) ⊕ ((Int × Int) ⊕ (Int × Int))) :=
  if x25 = true then
    Option.bind (getB s_ x20) fun v26 =>
    Option.bind (ref06_value v26) fun v27 =>
    if (decide ((IntKind.wrap .i64 ((IntKind.wrap .i64 (x19 * x8)) + v27)) > 9007199254740991)) = true then
      some (.inr (.inr (0, 0)))
    else
      if (x8 == 10) = true then
        Option.bind (getB s_ at_) fun v28 =>
        ref06_number.j6 x8 x19 x20 v27 (v28 == 48)
      else
        ref06_number.j6 x8 x19 x20 v27 false
  else
    some (.inr (.inl (x19, x20)))
def ref06_number.l1 (s_ : Str) (at_ : Int) (x8 : Int) (s : Int × Int) : Option ((Int × Int) ⊕ ((Int × Int) ⊕ (Int × Int))) := match s with
  | (x19, x20) =>
  if (decide (x20 < ((s_.length : Nat) : Int))) = true then
    Option.bind (getB s_ x20) fun v21 =>
    Option.bind (ref06_value v21) fun v22 =>
    if (decide (v22 ≥ 0)) = true then
      Option.bind (getB s_ x20) fun v23 =>
      Option.bind (ref06_value v23) fun v24 =>
      ref06_number.j5 s_ at_ x8 x19 x20 (decide (v24 < x8))
    else
      ref06_number.j5 s_ at_ x8 x19 x20 false
  else
    ref06_number.j5 s_ at_ x8 x19 x20 false
def ref06_number.j7 (at_ : Int) (x32 : Int) (x33 : Int) (x40 : Bool) : Option (Int × Int) :=
  if x40 = true then
    some (0, 0)
  else
    some (x32, (IntKind.wrap .i64 (x33 - at_)))
def ref06_number.j2 (s_ : Str) (at_ : Int) (x8 : Int) (x9 : Int) : Option (Int × Int) :=
  Option.bind (loopM (ref06_number.l1 s_ at_ x8) (0, x9)) fun e => match e with
  | (.inl (x32, x33)) =>
    if (decide (x33 < ((s_.length : Nat) : Int))) = true then
      Option.bind (getB s_ x33) fun v35 =>
      Option.bind (ref06_letter v35) fun v36 =>
      if v36 = true then
        ref06_number.j7 at_ x32 x33 true
      else
        Option.bind (getB s_ x33) fun v37 =>
        Option.bind (ref06_digit v37) fun v38 =>
        if v38 = true then
          ref06_number.j7 at_ x32 x33 true
        else
          Option.bind (getB s_ x33) fun v39 =>
          ref06_number.j7 at_ x32 x33 (v39 == 46)
    else
      ref06_number.j7 at_ x32 x33 false
  | (.inr r34) =>
    some r34
def ref06_number.j1 (s_ : Str) (at_ : Int) (x7 : Bool) : Option (Int × Int) :=
  if x7 = true then
    ref06_number.j2 s_ at_ 16 (IntKind.wrap .i64 (at_ + 2))
  else
    ref06_number.j2 s_ at_ 10 at_
def ref06_number (s_ : Str) (at_ : Int) : Option (Int × Int) :=
  Option.bind (ref06_begins s_ at_ ([48, 120] : Str)) fun v1 =>
  if v1 = true then
    if (decide ((IntKind.wrap .i64 (at_ + 2)) < ((s_.length : Nat) : Int))) = true then
      Option.bind (getB s_ (IntKind.wrap .i64 (at_ + 2))) fun v2 =>
      Option.bind (ref06_value v2) fun v3 =>
      ref06_number.j1 s_ at_ (decide (v3 ≥ 0))
    else
      ref06_number.j1 s_ at_ false
  else
    Option.bind (ref06_begins s_ at_ ([48, 88] : Str)) fun v4 =>
    if (v4 && (decide ((IntKind.wrap .i64 (at_ + 2)) < ((s_.length : Nat) : Int)))) = true then
      Option.bind (getB s_ (IntKind.wrap .i64 (at_ + 2))) fun v5 =>
      Option.bind (ref06_value v5) fun v6 =>
      ref06_number.j1 s_ at_ (decide (v6 ≥ 0))
    else
      ref06_number.j1 s_ at_ false
theorem ref06_number.ok (s_ : Str) (at_ : Int) (r : Int × Int) (h0 : ref06_number s_ at_ = some r) (w0 : World) (F0 : Heap) (hv : F0.Sub w0) (hG : Glob F0) (hg : SV.goods F0 [.v (.string ⟨⟨s_⟩⟩), .v (.int .i64 at_)]) (ρ : Nat → Nat) :
    Calls Tryz.prog 40 (SV.dens ρ [.v (.string ⟨⟨s_⟩⟩), .v (.int .i64 at_)]).toArray w0 (Ret0 w0 F0 fun s => ∃ s1 s2, s = .tup [s1, s2] ∧ (s1 = .v (.int .i64 r.1)) ∧ (s2 = .v (.int .i64 r.2))) := by
 refine calls_of_wp Tryz.func40 rfl ?_
 have hX := Cx.enter (D := No) (B := []) (L := []) (ρ := ρ) (N := 102) Tryz.ntmps40 [.v (.string ⟨⟨s_⟩⟩), .v (.int .i64 at_)] (St.start hv) rfl hg (by kernel_rfl) (fun _ h => by cases h) (Nat.le_of_ble_eq_true rfl) No.unfix
 unfold ref06_number at h0
 refine Cx.rseq hX [] [0, 1] (l' := [(0, .v (.string ⟨⟨s_⟩⟩)), (1, .v (.int .i64 at_))]) (B' := []) (by kernel_rfl) fun ρ w a hX => ?_
 refine Cx.rseq hX [] [0, 1, 6] (l' := [(0, .v (.string ⟨⟨s_⟩⟩)), (1, .v (.int .i64 at_)), (6, .v (.int .i64 10))]) (B' := []) (by kernel_rfl) fun ρ w a hX => ?_
 refine Cx.rseq hX [] [0, 1, 6, 7] (l' := [(0, .v (.string ⟨⟨s_⟩⟩)), (1, .v (.int .i64 at_)), (6, .v (.int .i64 10)), (7, .v (.int .i64 at_))]) (B' := []) (by kernel_rfl) fun ρ w a hX => ?_
 refine wp_seq_k fun K4 hK4 => ?_
 have J4 : ∀ (x8 : Int) (x9 : Int), ref06_number.j2 s_ at_ x8 x9 = some r → ∀ (ρ : Nat → Nat) (w : World) (F : Heap) (a : Act), Cx 102 w0 F0 No w F [] [] ρ [(0, .v (.string ⟨⟨s_⟩⟩)), (1, .v (.int .i64 at_)), (6, .v (.int .i64 x8)), (7, .v (.int .i64 x9))] a → K4 a w := by
  intro x8 x9 h0  ρ w F a hX
  unfold ref06_number.j2 at h0
  refine hK4 _ _ ?_
  refine Cx.rseq hX [] [0, 1, 6, 7, 8] (l' := [(0, .v (.string ⟨⟨s_⟩⟩)), (1, .v (.int .i64 at_)), (6, .v (.int .i64 x8)), (7, .v (.int .i64 x9)), (8, .v (.int .i64 0))]) (B' := []) (by kernel_rfl) fun ρ w a hX => ?_
  refine Cx.rseq hX [] [0, 1, 6, 8, 9] (l' := [(0, .v (.string ⟨⟨s_⟩⟩)), (1, .v (.int .i64 at_)), (6, .v (.int .i64 x8)), (8, .v (.int .i64 0)), (9, .v (.int .i64 x9))]) (B' := []) (by kernel_rfl) fun ρ w a hX => ?_
  refine wp_seq_k fun K9 hK9 => ?_
  refine wp_block ?_
  have hX := hX.keeps [0, 1, 6, 8, 9] (l' := [(0, .v (.string ⟨⟨s_⟩⟩)), (1, .v (.int .i64 at_)), (6, .v (.int .i64 x8)), (8, .v (.int .i64 0)), (9, .v (.int .i64 x9))]) (by kernel_rfl)
  obtain ⟨e1, he1, h0⟩ := bnd_some h0
  have E1x0 : ∀ (x32 : Int) (x33 : Int), e1 = (.inl (x32, x33)) → ∀ (ρ : Nat → Nat) (w : World) (F : Heap) (a : Act), Cx 102 w0 F0 No w F [] [] ρ [(0, .v (.string ⟨⟨s_⟩⟩)), (1, .v (.int .i64 at_)), (8, .v (.int .i64 x32)), (9, .v (.int .i64 x33))] a → K9 a w := by
   intro x32 x33 he  ρ w F a hX
   replace he := he.symm
   subst he
   (try dsimp only at h0)
   refine hK9 _ _ ?_
   refine wp_seq_k fun K26 hK26 => ?_
   refine wp_seq_k fun K27 hK27 => ?_
   have J27 : ∀ (x40 : Bool), ref06_number.j7 at_ x32 x33 x40 = some r → ∀ (ρ : Nat → Nat) (w : World) (F : Heap) (a : Act), Cx 102 w0 F0 No w F [] [] ρ [(1, .v (.int .i64 at_)), (8, .v (.int .i64 x32)), (9, .v (.int .i64 x33)), (97, .v (.bool x40))] a → K27 a w := by
    intro x40 h0  ρ w F a hX
    unfold ref06_number.j7 at h0
    refine hK27 _ _ ?_
    refine Cx.cond hX (b := x40) (by kernel_rfl) (fun hb => ?_) (fun hb => ?_)
    ·have h0 := ite_tt h0 hb
     refine Cx.rseq hX [] [4, 5] (l' := [(4, .v (.int .i64 0)), (5, .v (.int .i64 0))]) (B' := []) (by kernel_rfl) fun ρ w a hX => ?_
     refine wp_ret ?_
     have hr := Option.some.inj (show some _ = some _ from h0)
     subst hr
     exact hX.ret0 (ss := [.v (.int .i64 0), .v (.int .i64 0)]) (by kernel_rfl) (by kernel_rfl) ⟨_, _, rfl, rfl, rfl⟩
    ·have h0 := ite_ff h0 hb
     refine wp_skip ?_
     refine hK26 _ _ ?_
     refine Cx.rseq hX [] [4, 5] (l' := [(4, .v (.int .i64 x32)), (5, .v (.int .i64 (IntKind.wrap .i64 (x33 - at_))))]) (B' := []) (by kernel_rfl) fun ρ w a hX => ?_
     refine wp_ret ?_
     have hr := Option.some.inj (show some _ = some _ from h0)
     subst hr
     exact hX.ret0 (ss := [.v (.int .i64 x32), .v (.int .i64 (IntKind.wrap .i64 (x33 - at_)))]) (by kernel_rfl) (by kernel_rfl) ⟨_, _, rfl, rfl, rfl⟩
   refine wp_region_list ?_
   refine hX.part [] 5 [0, 1, 8, 9, 80] (l' := [(0, .v (.string ⟨⟨s_⟩⟩)), (1, .v (.int .i64 at_)), (8, .v (.int .i64 x32)), (9, .v (.int .i64 x33)), (80, .v (.bool (decide (x33 < ((s_.length : Nat) : Int)))))]) (B' := []) (by kernel_rfl) fun ρ w a hX => ?_
   refine ite_go h0 (fun hb h0 => ?_) (fun hb h0 => ?_)
   ·have hX := hX.relit 80 hb (by kernel_rfl)
    refine hX.part [4] 2 [0, 1, 8, 9, 80, 81, 82] (l' := [(0, .v (.string ⟨⟨s_⟩⟩)), (1, .v (.int .i64 at_)), (8, .v (.int .i64 x32)), (9, .v (.int .i64 x33)), (80, .v (.bool true)), (81, .v (.string ⟨⟨s_⟩⟩)), (82, .v (.int .i64 x33))]) (B' := []) (by kernel_rfl) fun ρ w a hX => ?_
    obtain ⟨v35, hv35, h0⟩ := bnd_some h0
    refine hX.idxStr (lit := [4]) (by kernel_rfl) (by kernel_rfl) rfl (s := s_) (k := .i64) (n := x33) (b := v35) (by kernel_rfl) (by kernel_rfl) (by kernel_rfl) hv35 fun a hX => ?_
    refine hX.part [4] 0 [0, 1, 8, 9, 80, 83] (l' := [(0, .v (.string ⟨⟨s_⟩⟩)), (1, .v (.int .i64 at_)), (8, .v (.int .i64 x32)), (9, .v (.int .i64 x33)), (80, .v (.bool true)), (83, .v (.int .u8 v35))]) (B' := []) (by kernel_rfl) fun ρ w a hX => ?_
    obtain ⟨v36, hv36, h0⟩ := bnd_some h0
    refine Cx.call0 hX (lit := [4]) (by kernel_rfl) rfl (by kernel_rfl) ⟨⟨_, Tryz.func22, by kernel_rfl, rfl⟩⟩ (ss := [.v (.int .u8 v35)]) (by kernel_rfl) [.v (.int .u8 v35)] rfl (fun hg => hg) (fun hv hle hg => ref06_letter.ok v35 v36 hv36 _ _ hv (hG.mono hle) hg _) (fun s F w a hp hX => ?_)
    subst hp
    refine hX.part [4] 1 [0, 1, 8, 9, 80, 85] (l' := [(0, .v (.string ⟨⟨s_⟩⟩)), (1, .v (.int .i64 at_)), (8, .v (.int .i64 x32)), (9, .v (.int .i64 x33)), (80, .v (.bool true)), (85, .v (.bool v36))]) (B' := []) (by kernel_rfl) fun ρ w a hX => ?_
    refine ite_go h0 (fun hb h0 => ?_) (fun hb h0 => ?_)
    ·have hX := hX.relit 85 hb (by kernel_rfl)
     refine hX.part [4, 9, 15] 12 [1, 8, 9, 97] (l' := [(1, .v (.int .i64 at_)), (8, .v (.int .i64 x32)), (9, .v (.int .i64 x33)), (97, .v (.bool true))]) (B' := []) (by kernel_rfl) fun ρ w a hX => ?_
     refine wpList_end ?_
     have hX := hX.keeps [1, 8, 9, 97] (l' := [(1, .v (.int .i64 at_)), (8, .v (.int .i64 x32)), (9, .v (.int .i64 x33)), (97, .v (.bool true))]) (by kernel_rfl)
     exact J27 true h0  _ _ _ _ hX
    ·have hX := hX.relit 85 hb (by kernel_rfl)
     refine hX.part [9] 2 [0, 1, 8, 9, 80, 85, 86, 87] (l' := [(0, .v (.string ⟨⟨s_⟩⟩)), (1, .v (.int .i64 at_)), (8, .v (.int .i64 x32)), (9, .v (.int .i64 x33)), (80, .v (.bool true)), (85, .v (.bool false)), (86, .v (.string ⟨⟨s_⟩⟩)), (87, .v (.int .i64 x33))]) (B' := []) (by kernel_rfl) fun ρ w a hX => ?_
     obtain ⟨v37, hv37, h0⟩ := bnd_some h0
     refine hX.idxStr (lit := [9]) (by kernel_rfl) (by kernel_rfl) rfl (s := s_) (k := .i64) (n := x33) (b := v37) (by kernel_rfl) (by kernel_rfl) (by kernel_rfl) hv37 fun a hX => ?_
     refine hX.part [9] 0 [0, 1, 8, 9, 80, 85, 88] (l' := [(0, .v (.string ⟨⟨s_⟩⟩)), (1, .v (.int .i64 at_)), (8, .v (.int .i64 x32)), (9, .v (.int .i64 x33)), (80, .v (.bool true)), (85, .v (.bool false)), (88, .v (.int .u8 v37))]) (B' := []) (by kernel_rfl) fun ρ w a hX => ?_
     obtain ⟨v38, hv38, h0⟩ := bnd_some h0
     refine Cx.call0 hX (lit := [9]) (by kernel_rfl) rfl (by kernel_rfl) ⟨⟨_, Tryz.func21, by kernel_rfl, rfl⟩⟩ (ss := [.v (.int .u8 v37)]) (by kernel_rfl) [.v (.int .u8 v37)] rfl (fun hg => hg) (fun hv hle hg => ref06_digit.ok v37 v38 hv38 _ _ hv (hG.mono hle) hg _) (fun s F w a hp hX => ?_)
     subst hp
     refine hX.part [4] 2 [0, 1, 8, 9, 80, 91] (l' := [(0, .v (.string ⟨⟨s_⟩⟩)), (1, .v (.int .i64 at_)), (8, .v (.int .i64 x32)), (9, .v (.int .i64 x33)), (80, .v (.bool true)), (91, .v (.bool v38))]) (B' := []) (by kernel_rfl) fun ρ w a hX => ?_
     refine ite_go h0 (fun hb h0 => ?_) (fun hb h0 => ?_)
     ·have hX := hX.relit 91 hb (by kernel_rfl)
      refine hX.part [4, 15] 6 [1, 8, 9, 97] (l' := [(1, .v (.int .i64 at_)), (8, .v (.int .i64 x32)), (9, .v (.int .i64 x33)), (97, .v (.bool true))]) (B' := []) (by kernel_rfl) fun ρ w a hX => ?_
      refine wpList_end ?_
      have hX := hX.keeps [1, 8, 9, 97] (l' := [(1, .v (.int .i64 at_)), (8, .v (.int .i64 x32)), (9, .v (.int .i64 x33)), (97, .v (.bool true))]) (by kernel_rfl)
      exact J27 true h0  _ _ _ _ hX
     ·have hX := hX.relit 91 hb (by kernel_rfl)
      refine hX.part [15] 2 [1, 8, 9, 80, 91, 92, 93] (l' := [(1, .v (.int .i64 at_)), (8, .v (.int .i64 x32)), (9, .v (.int .i64 x33)), (80, .v (.bool true)), (91, .v (.bool false)), (92, .v (.string ⟨⟨s_⟩⟩)), (93, .v (.int .i64 x33))]) (B' := []) (by kernel_rfl) fun ρ w a hX => ?_
      obtain ⟨v39, hv39, h0⟩ := bnd_some h0
      refine hX.idxStr (lit := [15]) (by kernel_rfl) (by kernel_rfl) rfl (s := s_) (k := .i64) (n := x33) (b := v39) (by kernel_rfl) (by kernel_rfl) (by kernel_rfl) hv39 fun a hX => ?_
      refine hX.part [4, 15] 3 [1, 8, 9, 97] (l' := [(1, .v (.int .i64 at_)), (8, .v (.int .i64 x32)), (9, .v (.int .i64 x33)), (97, .v (.bool (v39 == 46)))]) (B' := []) (by kernel_rfl) fun ρ w a hX => ?_
      refine wpList_end ?_
      have hX := hX.keeps [1, 8, 9, 97] (l' := [(1, .v (.int .i64 at_)), (8, .v (.int .i64 x32)), (9, .v (.int .i64 x33)), (97, .v (.bool (v39 == 46)))]) (by kernel_rfl)
      exact J27 (v39 == 46) h0  _ _ _ _ hX
   ·have hX := hX.relit 80 hb (by kernel_rfl)
    refine hX.part [4, 9, 15] 17 [1, 8, 9, 97] (l' := [(1, .v (.int .i64 at_)), (8, .v (.int .i64 x32)), (9, .v (.int .i64 x33)), (97, .v (.bool false))]) (B' := []) (by kernel_rfl) fun ρ w a hX => ?_
    refine wpList_end ?_
    have hX := hX.keeps [1, 8, 9, 97] (l' := [(1, .v (.int .i64 at_)), (8, .v (.int .i64 x32)), (9, .v (.int .i64 x33)), (97, .v (.bool false))]) (by kernel_rfl)
    exact J27 false h0  _ _ _ _ hX
  refine loop_go (fun (s : Int × Int) a w => match s with | (x19, x20) => ∃ (ρ : Nat → Nat) (F : Heap), Cx 102 w0 F0 No w F [] [] ρ [(0, .v (.string ⟨⟨s_⟩⟩)), (1, .v (.int .i64 at_)), (6, .v (.int .i64 x8)), (8, .v (.int .i64 x19)), (9, .v (.int .i64 x20))] a) he1 (fun LW1 s o1 h1 hb1 hx1 a w hI => ?_) _ _ ?_
  ·obtain ⟨x19, x20⟩ := s
   obtain ⟨ρ, F, hX⟩ := hI
   unfold ref06_number.l1 at h1
   (try dsimp only at h1)
   refine wp_seq_k fun K18 hK18 => ?_
   refine wp_seq_k fun K19 hK19 => ?_
   have J19 : ∀ (x25 : Bool), ref06_number.j5 s_ at_ x8 x19 x20 x25 = some o1 → ∀ (ρ : Nat → Nat) (w : World) (F : Heap) (a : Act), Cx 102 w0 F0 No w F [] [] ρ [(0, .v (.string ⟨⟨s_⟩⟩)), (1, .v (.int .i64 at_)), (6, .v (.int .i64 x8)), (8, .v (.int .i64 x19)), (9, .v (.int .i64 x20)), (55, .v (.bool x25))] a → K19 a w := by
    intro x25 h1  ρ w F a hX
    unfold ref06_number.j5 at h1
    refine hK19 _ _ ?_
    refine Cx.cond hX (b := x25) (by kernel_rfl) (fun hb => ?_) (fun hb => ?_)
    ·have h1 := ite_tt h1 hb
     refine wp_skip ?_
     refine hK18 _ _ ?_
     refine wp_block ?_
     refine wp_seq_k fun K20 hK20 => ?_
     refine wp_region_list ?_
     refine hX.part [] 5 [0, 1, 6, 8, 9, 58, 59, 60] (l' := [(0, .v (.string ⟨⟨s_⟩⟩)), (1, .v (.int .i64 at_)), (6, .v (.int .i64 x8)), (8, .v (.int .i64 x19)), (9, .v (.int .i64 x20)), (58, .v (.int .i64 (IntKind.wrap .i64 (x19 * x8)))), (59, .v (.string ⟨⟨s_⟩⟩)), (60, .v (.int .i64 x20))]) (B' := []) (by kernel_rfl) fun ρ w a hX => ?_
     obtain ⟨v26, hv26, h1⟩ := bnd_some h1
     refine hX.idxStr (lit := []) (by kernel_rfl) (by kernel_rfl) rfl (s := s_) (k := .i64) (n := x20) (b := v26) (by kernel_rfl) (by kernel_rfl) (by kernel_rfl) hv26 fun a hX => ?_
     refine hX.part [] 0 [0, 1, 6, 8, 9, 58, 61] (l' := [(0, .v (.string ⟨⟨s_⟩⟩)), (1, .v (.int .i64 at_)), (6, .v (.int .i64 x8)), (8, .v (.int .i64 x19)), (9, .v (.int .i64 x20)), (58, .v (.int .i64 (IntKind.wrap .i64 (x19 * x8)))), (61, .v (.int .u8 v26))]) (B' := []) (by kernel_rfl) fun ρ w a hX => ?_
     obtain ⟨v27, hv27, h1⟩ := bnd_some h1
     refine Cx.call0 hX (lit := []) (by kernel_rfl) rfl (by kernel_rfl) ⟨⟨_, Tryz.func55, by kernel_rfl, rfl⟩⟩ (ss := [.v (.int .u8 v26)]) (by kernel_rfl) [.v (.int .u8 v26)] rfl (fun hg => hg) (fun hv hle hg => ref06_value.ok v26 v27 hv27 _ _ hv (hG.mono hle) hg _) (fun s F w a hp hX => ?_)
     subst hp
     refine hX.part [] 2 [0, 1, 6, 8, 9] (l' := [(0, .v (.string ⟨⟨s_⟩⟩)), (1, .v (.int .i64 at_)), (6, .v (.int .i64 x8)), (8, .v (.int .i64 (IntKind.wrap .i64 ((IntKind.wrap .i64 (x19 * x8)) + v27)))), (9, .v (.int .i64 x20))]) (B' := []) (by kernel_rfl) fun ρ w a hX => ?_
     refine wpList_end ?_
     refine hK20 _ _ ?_
     refine Cx.rseq hX [] [0, 1, 6, 8, 9] (l' := [(0, .v (.string ⟨⟨s_⟩⟩)), (1, .v (.int .i64 at_)), (6, .v (.int .i64 x8)), (8, .v (.int .i64 (IntKind.wrap .i64 ((IntKind.wrap .i64 (x19 * x8)) + v27)))), (9, .v (.int .i64 (IntKind.wrap .i64 (x20 + 1))))]) (B' := []) (by kernel_rfl) fun ρ w a hX => ?_
     refine wp_seq_k fun K22 hK22 => ?_
     refine Cx.rseq hX [] [0, 1, 6, 8, 9, 67] (l' := [(0, .v (.string ⟨⟨s_⟩⟩)), (1, .v (.int .i64 at_)), (6, .v (.int .i64 x8)), (8, .v (.int .i64 (IntKind.wrap .i64 ((IntKind.wrap .i64 (x19 * x8)) + v27)))), (9, .v (.int .i64 (IntKind.wrap .i64 (x20 + 1)))), (67, .v (.bool (decide ((IntKind.wrap .i64 ((IntKind.wrap .i64 (x19 * x8)) + v27)) > 9007199254740991))))]) (B' := []) (by kernel_rfl) fun ρ w a hX => ?_
     refine Cx.cond hX (b := (decide ((IntKind.wrap .i64 ((IntKind.wrap .i64 (x19 * x8)) + v27)) > 9007199254740991))) (by kernel_rfl) (fun hb => ?_) (fun hb => ?_)
     ·have h1 := ite_tt h1 hb
      refine Cx.rseq hX [] [4, 5] (l' := [(4, .v (.int .i64 0)), (5, .v (.int .i64 0))]) (B' := []) (by kernel_rfl) fun ρ w a hX => ?_
      refine wp_ret ?_
      have he := hx1 _ (out_eq h1)
      subst he
      (try dsimp only at h0)
      have hr := Option.some.inj (show some _ = some _ from h0)
      subst hr
      exact hX.ret0 (ss := [.v (.int .i64 0), .v (.int .i64 0)]) (by kernel_rfl) (by kernel_rfl) ⟨_, _, rfl, rfl, rfl⟩
     ·have h1 := ite_ff h1 hb
      refine wp_skip ?_
      refine hK22 _ _ ?_
      refine wp_seq_k fun K25 hK25 => ?_
      have J25 : ∀ (x29 : Bool), ref06_number.j6 x8 x19 x20 v27 x29 = some o1 → ∀ (ρ : Nat → Nat) (w : World) (F : Heap) (a : Act), Cx 102 w0 F0 No w F [] [] ρ [(0, .v (.string ⟨⟨s_⟩⟩)), (1, .v (.int .i64 at_)), (6, .v (.int .i64 x8)), (8, .v (.int .i64 (IntKind.wrap .i64 ((IntKind.wrap .i64 (x19 * x8)) + v27)))), (9, .v (.int .i64 (IntKind.wrap .i64 (x20 + 1)))), (75, .v (.bool x29))] a → K25 a w := by
       intro x29 h1  ρ w F a hX
       unfold ref06_number.j6 at h1
       refine hK25 _ _ ?_
       refine Cx.cond hX (b := x29) (by kernel_rfl) (fun hb => ?_) (fun hb => ?_)
       ·have h1 := ite_tt h1 hb
        refine wp_exit ?_
        have hX := hX.keeps [0, 1, 8, 9] (l' := [(0, .v (.string ⟨⟨s_⟩⟩)), (1, .v (.int .i64 at_)), (8, .v (.int .i64 (IntKind.wrap .i64 ((IntKind.wrap .i64 (x19 * x8)) + v27)))), (9, .v (.int .i64 (IntKind.wrap .i64 (x20 + 1))))]) (by kernel_rfl)
        exact E1x0 (IntKind.wrap .i64 ((IntKind.wrap .i64 (x19 * x8)) + v27)) (IntKind.wrap .i64 (x20 + 1)) (hx1 _ (out_eq h1)).symm  _ _ _ _ hX
       ·have h1 := ite_ff h1 hb
        refine wp_skip ?_
        have hX := hX.keeps [0, 1, 6, 8, 9] (l' := [(0, .v (.string ⟨⟨s_⟩⟩)), (1, .v (.int .i64 at_)), (6, .v (.int .i64 x8)), (8, .v (.int .i64 (IntKind.wrap .i64 ((IntKind.wrap .i64 (x19 * x8)) + v27)))), (9, .v (.int .i64 (IntKind.wrap .i64 (x20 + 1))))]) (by kernel_rfl)
        exact hb1 ((IntKind.wrap .i64 ((IntKind.wrap .i64 (x19 * x8)) + v27)), (IntKind.wrap .i64 (x20 + 1))) (out_eq h1) _ _ ⟨_, _, hX⟩
      refine wp_region_list ?_
      refine hX.part [] 3 [0, 1, 6, 8, 9, 70] (l' := [(0, .v (.string ⟨⟨s_⟩⟩)), (1, .v (.int .i64 at_)), (6, .v (.int .i64 x8)), (8, .v (.int .i64 (IntKind.wrap .i64 ((IntKind.wrap .i64 (x19 * x8)) + v27)))), (9, .v (.int .i64 (IntKind.wrap .i64 (x20 + 1)))), (70, .v (.bool (x8 == 10)))]) (B' := []) (by kernel_rfl) fun ρ w a hX => ?_
      refine ite_go h1 (fun hb h1 => ?_) (fun hb h1 => ?_)
      ·have hX := hX.relit 70 hb (by kernel_rfl)
       refine hX.part [2] 2 [0, 1, 6, 8, 9, 70, 71, 72] (l' := [(0, .v (.string ⟨⟨s_⟩⟩)), (1, .v (.int .i64 at_)), (6, .v (.int .i64 x8)), (8, .v (.int .i64 (IntKind.wrap .i64 ((IntKind.wrap .i64 (x19 * x8)) + v27)))), (9, .v (.int .i64 (IntKind.wrap .i64 (x20 + 1)))), (70, .v (.bool true)), (71, .v (.string ⟨⟨s_⟩⟩)), (72, .v (.int .i64 at_))]) (B' := []) (by kernel_rfl) fun ρ w a hX => ?_
       obtain ⟨v28, hv28, h1⟩ := bnd_some h1
       refine hX.idxStr (lit := [2]) (by kernel_rfl) (by kernel_rfl) rfl (s := s_) (k := .i64) (n := at_) (b := v28) (by kernel_rfl) (by kernel_rfl) (by kernel_rfl) hv28 fun a hX => ?_
       refine hX.part [2] 2 [0, 1, 6, 8, 9, 75] (l' := [(0, .v (.string ⟨⟨s_⟩⟩)), (1, .v (.int .i64 at_)), (6, .v (.int .i64 x8)), (8, .v (.int .i64 (IntKind.wrap .i64 ((IntKind.wrap .i64 (x19 * x8)) + v27)))), (9, .v (.int .i64 (IntKind.wrap .i64 (x20 + 1)))), (75, .v (.bool (v28 == 48)))]) (B' := []) (by kernel_rfl) fun ρ w a hX => ?_
       refine wpList_end ?_
       have hX := hX.keeps [0, 1, 6, 8, 9, 75] (l' := [(0, .v (.string ⟨⟨s_⟩⟩)), (1, .v (.int .i64 at_)), (6, .v (.int .i64 x8)), (8, .v (.int .i64 (IntKind.wrap .i64 ((IntKind.wrap .i64 (x19 * x8)) + v27)))), (9, .v (.int .i64 (IntKind.wrap .i64 (x20 + 1)))), (75, .v (.bool (v28 == 48)))]) (by kernel_rfl)
       exact J25 (v28 == 48) h1  _ _ _ _ hX
      ·have hX := hX.relit 70 hb (by kernel_rfl)
       refine hX.part [2] 5 [0, 1, 6, 8, 9, 75] (l' := [(0, .v (.string ⟨⟨s_⟩⟩)), (1, .v (.int .i64 at_)), (6, .v (.int .i64 x8)), (8, .v (.int .i64 (IntKind.wrap .i64 ((IntKind.wrap .i64 (x19 * x8)) + v27)))), (9, .v (.int .i64 (IntKind.wrap .i64 (x20 + 1)))), (75, .v (.bool false))]) (B' := []) (by kernel_rfl) fun ρ w a hX => ?_
       refine wpList_end ?_
       have hX := hX.keeps [0, 1, 6, 8, 9, 75] (l' := [(0, .v (.string ⟨⟨s_⟩⟩)), (1, .v (.int .i64 at_)), (6, .v (.int .i64 x8)), (8, .v (.int .i64 (IntKind.wrap .i64 ((IntKind.wrap .i64 (x19 * x8)) + v27)))), (9, .v (.int .i64 (IntKind.wrap .i64 (x20 + 1)))), (75, .v (.bool false))]) (by kernel_rfl)
       exact J25 false h1  _ _ _ _ hX
    ·have h1 := ite_ff h1 hb
     refine wp_exit ?_
     have hX := hX.keeps [0, 1, 8, 9] (l' := [(0, .v (.string ⟨⟨s_⟩⟩)), (1, .v (.int .i64 at_)), (8, .v (.int .i64 x19)), (9, .v (.int .i64 x20))]) (by kernel_rfl)
     exact E1x0 x19 x20 (hx1 _ (out_eq h1)).symm  _ _ _ _ hX
   refine wp_region_list ?_
   refine hX.part [] 5 [0, 1, 6, 8, 9, 41] (l' := [(0, .v (.string ⟨⟨s_⟩⟩)), (1, .v (.int .i64 at_)), (6, .v (.int .i64 x8)), (8, .v (.int .i64 x19)), (9, .v (.int .i64 x20)), (41, .v (.bool (decide (x20 < ((s_.length : Nat) : Int)))))]) (B' := []) (by kernel_rfl) fun ρ w a hX => ?_
   refine ite_go h1 (fun hb h1 => ?_) (fun hb h1 => ?_)
   ·have hX := hX.relit 41 hb (by kernel_rfl)
    refine hX.part [4] 2 [0, 1, 6, 8, 9, 41, 42, 43] (l' := [(0, .v (.string ⟨⟨s_⟩⟩)), (1, .v (.int .i64 at_)), (6, .v (.int .i64 x8)), (8, .v (.int .i64 x19)), (9, .v (.int .i64 x20)), (41, .v (.bool true)), (42, .v (.string ⟨⟨s_⟩⟩)), (43, .v (.int .i64 x20))]) (B' := []) (by kernel_rfl) fun ρ w a hX => ?_
    obtain ⟨v21, hv21, h1⟩ := bnd_some h1
    refine hX.idxStr (lit := [4]) (by kernel_rfl) (by kernel_rfl) rfl (s := s_) (k := .i64) (n := x20) (b := v21) (by kernel_rfl) (by kernel_rfl) (by kernel_rfl) hv21 fun a hX => ?_
    refine hX.part [4] 0 [0, 1, 6, 8, 9, 41, 44] (l' := [(0, .v (.string ⟨⟨s_⟩⟩)), (1, .v (.int .i64 at_)), (6, .v (.int .i64 x8)), (8, .v (.int .i64 x19)), (9, .v (.int .i64 x20)), (41, .v (.bool true)), (44, .v (.int .u8 v21))]) (B' := []) (by kernel_rfl) fun ρ w a hX => ?_
    obtain ⟨v22, hv22, h1⟩ := bnd_some h1
    refine Cx.call0 hX (lit := [4]) (by kernel_rfl) rfl (by kernel_rfl) ⟨⟨_, Tryz.func55, by kernel_rfl, rfl⟩⟩ (ss := [.v (.int .u8 v21)]) (by kernel_rfl) [.v (.int .u8 v21)] rfl (fun hg => hg) (fun hv hle hg => ref06_value.ok v21 v22 hv22 _ _ hv (hG.mono hle) hg _) (fun s F w a hp hX => ?_)
    subst hp
    refine hX.part [4] 3 [0, 1, 6, 8, 9, 48] (l' := [(0, .v (.string ⟨⟨s_⟩⟩)), (1, .v (.int .i64 at_)), (6, .v (.int .i64 x8)), (8, .v (.int .i64 x19)), (9, .v (.int .i64 x20)), (48, .v (.bool (decide (v22 ≥ 0))))]) (B' := []) (by kernel_rfl) fun ρ w a hX => ?_
    refine ite_go h1 (fun hb h1 => ?_) (fun hb h1 => ?_)
    ·have hX := hX.relit 48 hb (by kernel_rfl)
     refine hX.part [11] 2 [0, 1, 6, 8, 9, 48, 49, 50] (l' := [(0, .v (.string ⟨⟨s_⟩⟩)), (1, .v (.int .i64 at_)), (6, .v (.int .i64 x8)), (8, .v (.int .i64 x19)), (9, .v (.int .i64 x20)), (48, .v (.bool true)), (49, .v (.string ⟨⟨s_⟩⟩)), (50, .v (.int .i64 x20))]) (B' := []) (by kernel_rfl) fun ρ w a hX => ?_
     obtain ⟨v23, hv23, h1⟩ := bnd_some h1
     refine hX.idxStr (lit := [11]) (by kernel_rfl) (by kernel_rfl) rfl (s := s_) (k := .i64) (n := x20) (b := v23) (by kernel_rfl) (by kernel_rfl) (by kernel_rfl) hv23 fun a hX => ?_
     refine hX.part [11] 0 [0, 1, 6, 8, 9, 48, 51] (l' := [(0, .v (.string ⟨⟨s_⟩⟩)), (1, .v (.int .i64 at_)), (6, .v (.int .i64 x8)), (8, .v (.int .i64 x19)), (9, .v (.int .i64 x20)), (48, .v (.bool true)), (51, .v (.int .u8 v23))]) (B' := []) (by kernel_rfl) fun ρ w a hX => ?_
     obtain ⟨v24, hv24, h1⟩ := bnd_some h1
     refine Cx.call0 hX (lit := [11]) (by kernel_rfl) rfl (by kernel_rfl) ⟨⟨_, Tryz.func55, by kernel_rfl, rfl⟩⟩ (ss := [.v (.int .u8 v23)]) (by kernel_rfl) [.v (.int .u8 v23)] rfl (fun hg => hg) (fun hv hle hg => ref06_value.ok v23 v24 hv24 _ _ hv (hG.mono hle) hg _) (fun s F w a hp hX => ?_)
     subst hp
     refine hX.part [11] 3 [0, 1, 6, 8, 9, 55] (l' := [(0, .v (.string ⟨⟨s_⟩⟩)), (1, .v (.int .i64 at_)), (6, .v (.int .i64 x8)), (8, .v (.int .i64 x19)), (9, .v (.int .i64 x20)), (55, .v (.bool (decide (v24 < x8))))]) (B' := []) (by kernel_rfl) fun ρ w a hX => ?_
     refine wpList_end ?_
     have hX := hX.keeps [0, 1, 6, 8, 9, 55] (l' := [(0, .v (.string ⟨⟨s_⟩⟩)), (1, .v (.int .i64 at_)), (6, .v (.int .i64 x8)), (8, .v (.int .i64 x19)), (9, .v (.int .i64 x20)), (55, .v (.bool (decide (v24 < x8))))]) (by kernel_rfl)
     exact J19 (decide (v24 < x8)) h1  _ _ _ _ hX
    ·have hX := hX.relit 48 hb (by kernel_rfl)
     refine hX.part [11] 7 [0, 1, 6, 8, 9, 55] (l' := [(0, .v (.string ⟨⟨s_⟩⟩)), (1, .v (.int .i64 at_)), (6, .v (.int .i64 x8)), (8, .v (.int .i64 x19)), (9, .v (.int .i64 x20)), (55, .v (.bool false))]) (B' := []) (by kernel_rfl) fun ρ w a hX => ?_
     refine wpList_end ?_
     have hX := hX.keeps [0, 1, 6, 8, 9, 55] (l' := [(0, .v (.string ⟨⟨s_⟩⟩)), (1, .v (.int .i64 at_)), (6, .v (.int .i64 x8)), (8, .v (.int .i64 x19)), (9, .v (.int .i64 x20)), (55, .v (.bool false))]) (by kernel_rfl)
     exact J19 false h1  _ _ _ _ hX
   ·have hX := hX.relit 41 hb (by kernel_rfl)
    refine hX.part [4, 11] 14 [0, 1, 6, 8, 9, 55] (l' := [(0, .v (.string ⟨⟨s_⟩⟩)), (1, .v (.int .i64 at_)), (6, .v (.int .i64 x8)), (8, .v (.int .i64 x19)), (9, .v (.int .i64 x20)), (55, .v (.bool false))]) (B' := []) (by kernel_rfl) fun ρ w a hX => ?_
    refine wpList_end ?_
    have hX := hX.keeps [0, 1, 6, 8, 9, 55] (l' := [(0, .v (.string ⟨⟨s_⟩⟩)), (1, .v (.int .i64 at_)), (6, .v (.int .i64 x8)), (8, .v (.int .i64 x19)), (9, .v (.int .i64 x20)), (55, .v (.bool false))]) (by kernel_rfl)
    exact J19 false h1  _ _ _ _ hX
  ·exact ⟨_, _, hX⟩
 refine wp_seq_k fun K5 hK5 => ?_
 have J5 : ∀ (x7 : Bool), ref06_number.j1 s_ at_ x7 = some r → ∀ (ρ : Nat → Nat) (w : World) (F : Heap) (a : Act), Cx 102 w0 F0 No w F [] [] ρ [(0, .v (.string ⟨⟨s_⟩⟩)), (1, .v (.int .i64 at_)), (6, .v (.int .i64 10)), (7, .v (.int .i64 at_)), (33, .v (.bool x7))] a → K5 a w := by
  intro x7 h0  ρ w F a hX
  unfold ref06_number.j1 at h0
  refine hK5 _ _ ?_
  refine Cx.cond hX (b := x7) (by kernel_rfl) (fun hb => ?_) (fun hb => ?_)
  ·have h0 := ite_tt h0 hb
   refine Cx.rseq hX [] [0, 1, 6] (l' := [(0, .v (.string ⟨⟨s_⟩⟩)), (1, .v (.int .i64 at_)), (6, .v (.int .i64 16))]) (B' := []) (by kernel_rfl) fun ρ w a hX => ?_
   refine Cx.region hX [] [0, 1, 6, 7] (l' := [(0, .v (.string ⟨⟨s_⟩⟩)), (1, .v (.int .i64 at_)), (6, .v (.int .i64 16)), (7, .v (.int .i64 (IntKind.wrap .i64 (at_ + 2))))]) (B' := []) (by kernel_rfl) fun ρ w a hX => ?_
   have hX := hX.keeps [0, 1, 6, 7] (l' := [(0, .v (.string ⟨⟨s_⟩⟩)), (1, .v (.int .i64 at_)), (6, .v (.int .i64 16)), (7, .v (.int .i64 (IntKind.wrap .i64 (at_ + 2))))]) (by kernel_rfl)
   exact J4 16 (IntKind.wrap .i64 (at_ + 2)) h0  _ _ _ _ hX
  ·have h0 := ite_ff h0 hb
   refine wp_skip ?_
   have hX := hX.keeps [0, 1, 6, 7] (l' := [(0, .v (.string ⟨⟨s_⟩⟩)), (1, .v (.int .i64 at_)), (6, .v (.int .i64 10)), (7, .v (.int .i64 at_))]) (by kernel_rfl)
   exact J4 10 at_ h0  _ _ _ _ hX
 refine wp_region_list ?_
 refine hX.part [] 2 [0, 1, 6, 7, 11, 12] (l' := [(0, .v (.string ⟨⟨s_⟩⟩)), (1, .v (.int .i64 at_)), (6, .v (.int .i64 10)), (7, .v (.int .i64 at_)), (11, .v (.string ⟨⟨s_⟩⟩)), (12, .v (.int .i64 at_))]) (B' := []) (by kernel_rfl) fun ρ w a hX => ?_
 obtain ⟨v1, hv1, h0⟩ := bnd_some h0
 refine Cx.call0 hX (lit := []) (by kernel_rfl) rfl (by kernel_rfl) ⟨⟨_, Tryz.func39, by kernel_rfl, rfl⟩⟩ (ss := [.v (.string ⟨⟨s_⟩⟩), .v (.int .i64 at_), .v (.string ⟨⟨([48, 120] : Str)⟩⟩)]) (by kernel_rfl) [.v (.string ⟨⟨s_⟩⟩), .v (.int .i64 at_), .v (.string ⟨⟨([48, 120] : Str)⟩⟩)] rfl (fun hg => hg) (fun hv hle hg => ref06_begins.ok s_ at_ ([48, 120] : Str) v1 hv1 _ _ hv (hG.mono hle) hg _) (fun s F w a hp hX => ?_)
 subst hp
 refine hX.part [] 1 [0, 1, 6, 7, 14] (l' := [(0, .v (.string ⟨⟨s_⟩⟩)), (1, .v (.int .i64 at_)), (6, .v (.int .i64 10)), (7, .v (.int .i64 at_)), (14, .v (.bool v1))]) (B' := []) (by kernel_rfl) fun ρ w a hX => ?_
 refine ite_go h0 (fun hb h0 => ?_) (fun hb h0 => ?_)
 ·have hX := hX.relit 14 hb (by kernel_rfl)
  refine hX.part [3, 8] 12 [0, 1, 6, 7, 26] (l' := [(0, .v (.string ⟨⟨s_⟩⟩)), (1, .v (.int .i64 at_)), (6, .v (.int .i64 10)), (7, .v (.int .i64 at_)), (26, .v (.bool (decide ((IntKind.wrap .i64 (at_ + 2)) < ((s_.length : Nat) : Int)))))]) (B' := []) (by kernel_rfl) fun ρ w a hX => ?_
  refine ite_go h0 (fun hb h0 => ?_) (fun hb h0 => ?_)
  ·have hX := hX.relit 26 hb (by kernel_rfl)
   refine hX.part [15] 3 [0, 1, 6, 7, 26, 27, 29] (l' := [(0, .v (.string ⟨⟨s_⟩⟩)), (1, .v (.int .i64 at_)), (6, .v (.int .i64 10)), (7, .v (.int .i64 at_)), (26, .v (.bool true)), (27, .v (.string ⟨⟨s_⟩⟩)), (29, .v (.int .i64 (IntKind.wrap .i64 (at_ + 2))))]) (B' := []) (by kernel_rfl) fun ρ w a hX => ?_
   obtain ⟨v2, hv2, h0⟩ := bnd_some h0
   refine hX.idxStr (lit := [15]) (by kernel_rfl) (by kernel_rfl) rfl (s := s_) (k := .i64) (n := (IntKind.wrap .i64 (at_ + 2))) (b := v2) (by kernel_rfl) (by kernel_rfl) (by kernel_rfl) hv2 fun a hX => ?_
   refine hX.part [15] 0 [0, 1, 6, 7, 26, 30] (l' := [(0, .v (.string ⟨⟨s_⟩⟩)), (1, .v (.int .i64 at_)), (6, .v (.int .i64 10)), (7, .v (.int .i64 at_)), (26, .v (.bool true)), (30, .v (.int .u8 v2))]) (B' := []) (by kernel_rfl) fun ρ w a hX => ?_
   obtain ⟨v3, hv3, h0⟩ := bnd_some h0
   refine Cx.call0 hX (lit := [15]) (by kernel_rfl) rfl (by kernel_rfl) ⟨⟨_, Tryz.func55, by kernel_rfl, rfl⟩⟩ (ss := [.v (.int .u8 v2)]) (by kernel_rfl) [.v (.int .u8 v2)] rfl (fun hg => hg) (fun hv hle hg => ref06_value.ok v2 v3 hv3 _ _ hv (hG.mono hle) hg _) (fun s F w a hp hX => ?_)
   subst hp
   refine hX.part [15] 2 [0, 1, 6, 7, 33] (l' := [(0, .v (.string ⟨⟨s_⟩⟩)), (1, .v (.int .i64 at_)), (6, .v (.int .i64 10)), (7, .v (.int .i64 at_)), (33, .v (.bool (decide (v3 ≥ 0))))]) (B' := []) (by kernel_rfl) fun ρ w a hX => ?_
   refine wpList_end ?_
   have hX := hX.keeps [0, 1, 6, 7, 33] (l' := [(0, .v (.string ⟨⟨s_⟩⟩)), (1, .v (.int .i64 at_)), (6, .v (.int .i64 10)), (7, .v (.int .i64 at_)), (33, .v (.bool (decide (v3 ≥ 0))))]) (by kernel_rfl)
   exact J5 (decide (v3 ≥ 0)) h0  _ _ _ _ hX
  ·have hX := hX.relit 26 hb (by kernel_rfl)
   refine hX.part [15] 7 [0, 1, 6, 7, 33] (l' := [(0, .v (.string ⟨⟨s_⟩⟩)), (1, .v (.int .i64 at_)), (6, .v (.int .i64 10)), (7, .v (.int .i64 at_)), (33, .v (.bool false))]) (B' := []) (by kernel_rfl) fun ρ w a hX => ?_
   refine wpList_end ?_
   have hX := hX.keeps [0, 1, 6, 7, 33] (l' := [(0, .v (.string ⟨⟨s_⟩⟩)), (1, .v (.int .i64 at_)), (6, .v (.int .i64 10)), (7, .v (.int .i64 at_)), (33, .v (.bool false))]) (by kernel_rfl)
   exact J5 false h0  _ _ _ _ hX
 ·have hX := hX.relit 14 hb (by kernel_rfl)
  refine hX.part [3] 2 [0, 1, 6, 7, 14, 15, 16] (l' := [(0, .v (.string ⟨⟨s_⟩⟩)), (1, .v (.int .i64 at_)), (6, .v (.int .i64 10)), (7, .v (.int .i64 at_)), (14, .v (.bool false)), (15, .v (.string ⟨⟨s_⟩⟩)), (16, .v (.int .i64 at_))]) (B' := []) (by kernel_rfl) fun ρ w a hX => ?_
  obtain ⟨v4, hv4, h0⟩ := bnd_some h0
  refine Cx.call0 hX (lit := [3]) (by kernel_rfl) rfl (by kernel_rfl) ⟨⟨_, Tryz.func39, by kernel_rfl, rfl⟩⟩ (ss := [.v (.string ⟨⟨s_⟩⟩), .v (.int .i64 at_), .v (.string ⟨⟨([48, 88] : Str)⟩⟩)]) (by kernel_rfl) [.v (.string ⟨⟨s_⟩⟩), .v (.int .i64 at_), .v (.string ⟨⟨([48, 88] : Str)⟩⟩)] rfl (fun hg => hg) (fun hv hle hg => ref06_begins.ok s_ at_ ([48, 88] : Str) v4 hv4 _ _ hv (hG.mono hle) hg _) (fun s F w a hp hX => ?_)
  subst hp
  refine hX.part [] 9 [0, 1, 6, 7, 26] (l' := [(0, .v (.string ⟨⟨s_⟩⟩)), (1, .v (.int .i64 at_)), (6, .v (.int .i64 10)), (7, .v (.int .i64 at_)), (26, .v (.bool (v4 && (decide ((IntKind.wrap .i64 (at_ + 2)) < ((s_.length : Nat) : Int))))))]) (B' := []) (by kernel_rfl) fun ρ w a hX => ?_
  refine ite_go h0 (fun hb h0 => ?_) (fun hb h0 => ?_)
  ·have hX := hX.relit 26 hb (by kernel_rfl)
   refine hX.part [15] 3 [0, 1, 6, 7, 26, 27, 29] (l' := [(0, .v (.string ⟨⟨s_⟩⟩)), (1, .v (.int .i64 at_)), (6, .v (.int .i64 10)), (7, .v (.int .i64 at_)), (26, .v (.bool true)), (27, .v (.string ⟨⟨s_⟩⟩)), (29, .v (.int .i64 (IntKind.wrap .i64 (at_ + 2))))]) (B' := []) (by kernel_rfl) fun ρ w a hX => ?_
   obtain ⟨v5, hv5, h0⟩ := bnd_some h0
   refine hX.idxStr (lit := [15]) (by kernel_rfl) (by kernel_rfl) rfl (s := s_) (k := .i64) (n := (IntKind.wrap .i64 (at_ + 2))) (b := v5) (by kernel_rfl) (by kernel_rfl) (by kernel_rfl) hv5 fun a hX => ?_
   refine hX.part [15] 0 [0, 1, 6, 7, 26, 30] (l' := [(0, .v (.string ⟨⟨s_⟩⟩)), (1, .v (.int .i64 at_)), (6, .v (.int .i64 10)), (7, .v (.int .i64 at_)), (26, .v (.bool true)), (30, .v (.int .u8 v5))]) (B' := []) (by kernel_rfl) fun ρ w a hX => ?_
   obtain ⟨v6, hv6, h0⟩ := bnd_some h0
   refine Cx.call0 hX (lit := [15]) (by kernel_rfl) rfl (by kernel_rfl) ⟨⟨_, Tryz.func55, by kernel_rfl, rfl⟩⟩ (ss := [.v (.int .u8 v5)]) (by kernel_rfl) [.v (.int .u8 v5)] rfl (fun hg => hg) (fun hv hle hg => ref06_value.ok v5 v6 hv6 _ _ hv (hG.mono hle) hg _) (fun s F w a hp hX => ?_)
   subst hp
   refine hX.part [15] 2 [0, 1, 6, 7, 33] (l' := [(0, .v (.string ⟨⟨s_⟩⟩)), (1, .v (.int .i64 at_)), (6, .v (.int .i64 10)), (7, .v (.int .i64 at_)), (33, .v (.bool (decide (v6 ≥ 0))))]) (B' := []) (by kernel_rfl) fun ρ w a hX => ?_
   refine wpList_end ?_
   have hX := hX.keeps [0, 1, 6, 7, 33] (l' := [(0, .v (.string ⟨⟨s_⟩⟩)), (1, .v (.int .i64 at_)), (6, .v (.int .i64 10)), (7, .v (.int .i64 at_)), (33, .v (.bool (decide (v6 ≥ 0))))]) (by kernel_rfl)
   exact J5 (decide (v6 ≥ 0)) h0  _ _ _ _ hX
  ·have hX := hX.relit 26 hb (by kernel_rfl)
   refine hX.part [15] 7 [0, 1, 6, 7, 33] (l' := [(0, .v (.string ⟨⟨s_⟩⟩)), (1, .v (.int .i64 at_)), (6, .v (.int .i64 10)), (7, .v (.int .i64 at_)), (33, .v (.bool false))]) (B' := []) (by kernel_rfl) fun ρ w a hX => ?_
   refine wpList_end ?_
   have hX := hX.keeps [0, 1, 6, 7, 33] (l' := [(0, .v (.string ⟨⟨s_⟩⟩)), (1, .v (.int .i64 at_)), (6, .v (.int .i64 10)), (7, .v (.int .i64 at_)), (33, .v (.bool false))]) (by kernel_rfl)
   exact J5 false h0  _ _ _ _ hX
def ref01_Make.l1 (l_ : List Int) (s : Int × (List UInt8)) : Option ((Int × (List UInt8)) ⊕ (((List UInt8)))) := match s with
  | (x10, x11) =>
  if (decide (x10 < ((l_.length : Nat) : Int))) = true then
    Option.bind (getI l_ x10) fun v14 =>
    Option.bind (toB (IntKind.wrap .u8 (IntKind.wrap .i64 (Int.tdiv v14 256)))) fun b21 =>
    Option.bind (toB (IntKind.wrap .u8 (Int.tmod v14 256))) fun b22 =>
    Option.bind (room (x11.length + 2)) fun u20 =>
    some (.inl ((IntKind.wrap .i64 (x10 + 1)), (x11 ++ [b21, b22])))
  else
    some (.inr x11)
def ref01_Make (l_ : List Int) : Option (Str) :=
  Option.bind (loopM (ref01_Make.l1 l_) (0, ([] : List UInt8))) fun e => match e with
  | x27 =>
    some x27
theorem ref01_Make.ok (l_ : List Int) (y_l_ : (Option Addr × Nat)) (r : Str) (h0 : ref01_Make l_ = some r) (w0 : World) (F0 : Heap) (hv : F0.Sub w0) (hG : Glob F0) (hg : SV.goods F0 [SV.sl (kInt .i64) l_ y_l_.1 y_l_.2]) (ρ : Nat → Nat) :
    Calls Tryz.prog 56 (SV.dens ρ [SV.sl (kInt .i64) l_ y_l_.1 y_l_.2]).toArray w0 (Ret0 w0 F0 fun s => s = .v (.string ⟨⟨r⟩⟩)) := by
 refine calls_of_wp Tryz.func56 rfl ?_
 have hX := Cx.enter (D := No) (B := []) (L := []) (ρ := ρ) (N := 24) Tryz.ntmps56 [SV.sl (kInt .i64) l_ y_l_.1 y_l_.2] (St.start hv) rfl hg (by kernel_rfl) (fun _ h => by cases h) (Nat.le_of_ble_eq_true rfl) No.unfix
 unfold ref01_Make at h0
 refine Cx.rseq hX [] [0] (l' := [(0, SV.sl (kInt .i64) l_ y_l_.1 y_l_.2)]) (B' := []) (by kernel_rfl) fun ρ w a hX => ?_
 refine Cx.rseq hX [] [0, 3] (l' := [(0, SV.sl (kInt .i64) l_ y_l_.1 y_l_.2), (3, .v (.slice none 0 0))]) (B' := []) (by kernel_rfl) fun ρ w a hX => ?_
 refine wp_seq_k fun K3 hK3 => ?_
 refine Cx.rseq hX [] [3, 6, 7, 8] (l' := [(3, .v (.slice none 0 0)), (6, SV.sl (kInt .i64) l_ y_l_.1 y_l_.2), (7, .v (.int .i64 ((l_.length : Nat) : Int))), (8, .v (.int .i64 0))]) (B' := []) (by kernel_rfl) fun ρ w a hX => ?_
 refine wp_block ?_
 have hX := hX.newAcc 5 kByte
 have hX := hX.keeps [3, 6, 7, 8] (l' := [(3, .v (.slice none ([] : List UInt8).length 0)), (6, SV.sl (kInt .i64) l_ y_l_.1 y_l_.2), (7, .v (.int .i64 ((l_.length : Nat) : Int))), (8, .v (.int .i64 0))]) (by kernel_rfl)
 obtain ⟨e1, he1, h0⟩ := bnd_some h0
 have E1x0 : ∀ (x27 : List UInt8), e1 = x27 → ∀ (A28 : Option Addr) (c29 : Nat) (ρ : Nat → Nat) (w : World) (F : Heap) (a : Act), Cx 24 w0 F0 No w F [accP 5 kByte A28 c29 x27] [] ρ [(3, .v (.slice A28 x27.length c29))] a → K3 a w := by
  intro x27 he A28 c29 ρ w F a hX
  replace he := he.symm
  subst he
  (try dsimp only at h0)
  refine hK3 _ _ ?_
  refine wp_seq_k fun K13 hK13 => ?_
  refine wp_region_list ?_
  refine hX.part [] 1 [22] (l' := [(22, .v (.slice A28 x27.length c29))]) (B' := []) (by kernel_rfl) fun ρ w a hX => ?_
  refine hX.strAcc (lit := []) (i := 0) (e := 5) (e2 := 5) (xs := x27) (A := A28) (c := c29) (by kernel_rfl) (by kernel_rfl) rfl rfl (by kernel_rfl) (by kernel_rfl) (by kernel_rfl) (by kernel_rfl) fun a hX => ?_
  refine hX.part [] 1 [2] (l' := [(2, .v (.string ⟨⟨x27⟩⟩))]) (B' := []) (by kernel_rfl) fun ρ w a hX => ?_
  refine wpList_end ?_
  refine hK13 _ _ ?_
  refine wp_ret ?_
  have hr := Option.some.inj (show some _ = some _ from h0)
  subst hr
  exact hX.ret0 (ss := [.v (.string ⟨⟨x27⟩⟩)]) (by kernel_rfl) (by kernel_rfl) rfl
 refine loop_go (fun (s : Int × (List UInt8)) a w => match s with | (x10, x11) => ∃ (A12 : Option Addr) (c13 : Nat) (ρ : Nat → Nat) (F : Heap), Cx 24 w0 F0 No w F [accP 5 kByte A12 c13 x11] [] ρ [(3, .v (.slice A12 x11.length c13)), (6, SV.sl (kInt .i64) l_ y_l_.1 y_l_.2), (7, .v (.int .i64 ((l_.length : Nat) : Int))), (8, .v (.int .i64 x10))] a) he1 (fun LW1 s o1 h1 hb1 hx1 a w hI => ?_) _ _ ?_
 ·obtain ⟨x10, x11⟩ := s
  obtain ⟨A12, c13, ρ, F, hX⟩ := hI
  unfold ref01_Make.l1 at h1
  (try dsimp only at h1)
  refine Cx.rseq hX [] [3, 6, 7, 8, 9] (l' := [(3, .v (.slice A12 x11.length c13)), (6, SV.sl (kInt .i64) l_ y_l_.1 y_l_.2), (7, .v (.int .i64 ((l_.length : Nat) : Int))), (8, .v (.int .i64 x10)), (9, .v (.bool (decide (x10 < ((l_.length : Nat) : Int)))))]) (B' := []) (by kernel_rfl) fun ρ w a hX => ?_
  refine wp_seq_k fun K10 hK10 => ?_
  refine Cx.cond hX (b := (decide (x10 < ((l_.length : Nat) : Int)))) (by kernel_rfl) (fun hb => ?_) (fun hb => ?_)
  ·have h1 := ite_tt h1 hb
   refine wp_skip ?_
   refine hK10 _ _ ?_
   refine wp_seq_k fun K11 hK11 => ?_
   refine wp_block ?_
   refine wp_seq_k fun K12 hK12 => ?_
   refine wp_region_list ?_
   refine hX.part [] 0 [3, 6, 7, 8] (l' := [(3, .v (.slice A12 x11.length c13)), (6, SV.sl (kInt .i64) l_ y_l_.1 y_l_.2), (7, .v (.int .i64 ((l_.length : Nat) : Int))), (8, .v (.int .i64 x10))]) (B' := []) (by kernel_rfl) fun ρ w a hX => ?_
   obtain ⟨v14, hv14, h1⟩ := bnd_some h1
   refine hX.idxSl (lit := []) (by kernel_rfl) (by kernel_rfl) rfl (d := (kInt .i64)) (e := 3) (xs := l_) (A := y_l_.1) (c := y_l_.2) (k := .i64) (n := x10) (v := v14) (by kernel_rfl) (by kernel_rfl) (by kernel_rfl) (by kernel_rfl) hv14 fun y15 b16 o17 a hX => ?_
   refine hX.part [] 2 [3, 5, 6, 7, 8] (l' := [(3, .v (.slice A12 x11.length c13)), (5, .v (.int .i64 v14)), (6, SV.sl (kInt .i64) l_ y_l_.1 y_l_.2), (7, .v (.int .i64 ((l_.length : Nat) : Int))), (8, .v (.int .i64 x10))]) (B' := []) (by kernel_rfl) fun ρ w a hX => ?_
   refine wpList_end ?_
   refine hK12 _ _ ?_
   refine wp_region_list ?_
   refine hX.part [] 8 [3, 6, 7, 8, 12, 19] (l' := [(3, .v (.slice A12 x11.length c13)), (6, SV.sl (kInt .i64) l_ y_l_.1 y_l_.2), (7, .v (.int .i64 ((l_.length : Nat) : Int))), (8, .v (.int .i64 x10)), (12, .v (.slice A12 x11.length c13)), (19, .slc 0 0 2 2)]) (B' := [some ⟨5, [.v (.int .u8 (IntKind.wrap .u8 (IntKind.wrap .i64 (Int.tdiv v14 256)))), .v (.int .u8 (IntKind.wrap .u8 (Int.tmod v14 256)))]⟩]) (by kernel_rfl) fun ρ w a hX => ?_
   obtain ⟨b21, hb21, h1⟩ := bnd_some h1
   obtain ⟨b22, hb22, h1⟩ := bnd_some h1
   obtain ⟨u20, hu20, h1⟩ := bnd_some h1
   have hX := hX.rebox 0 (b := ⟨5, [.v (.int .u8 (IntKind.wrap .u8 (IntKind.wrap .i64 (Int.tdiv v14 256)))), .v (.int .u8 (IntKind.wrap .u8 (Int.tmod v14 256)))]⟩) (cs := [.v (.int .u8 ((b21.toNat : Nat) : Int)), .v (.int .u8 ((b22.toNat : Nat) : Int))]) (B' := [some ⟨5, [.v (.int .u8 ((b21.toNat : Nat) : Int)), .v (.int .u8 ((b22.toNat : Nat) : Int))]⟩]) (by kernel_rfl) (fun ρ => by simp only [SV.dens, SV.den, toB_some hb21, toB_some hb22]) (by have hg := (hX.bgood ⟨5, [.v (.int .u8 (IntKind.wrap .u8 (IntKind.wrap .i64 (Int.tdiv v14 256)))), .v (.int .u8 (IntKind.wrap .u8 (Int.tmod v14 256)))]⟩ (List.mem_of_getElem? (i := 0) (by kernel_rfl))).1; exact ⟨trivial, trivial, trivial⟩) (by kernel_rfl) (by kernel_rfl)
   refine hX.appLit (d := kByte) (k := 0) (m := 2) (bytes := 1) (cells := [.v (.int .u8 ((b21.toNat : Nat) : Int)), .v (.int .u8 ((b22.toNat : Nat) : Int))]) (lit := []) (i := 0) (e := 5) (xs := x11) (A := A12) (c := c13) ([(b21, ()), (b22, ())] : List (UInt8 × (kByte).Y)) (by kernel_rfl) (by kernel_rfl) rfl rfl (by kernel_rfl) (by kernel_rfl) (by kernel_rfl) (by kernel_rfl) (by kernel_rfl) rfl rfl (by decide) hu20 ⟨_, rfl⟩ fun A18 c19 w a hX => ?_
   have hX : Cx 24 _ _ _ _ _ [accP 5 kByte A18 c19 (x11 ++ [b21, b22])] [some ⟨5, [.v (.int .u8 ((b21.toNat : Nat) : Int)), .v (.int .u8 ((b22.toNat : Nat) : Int))]⟩] ρ _ a := hX
   refine hX.part [] 1 [3, 6, 7, 8] (l' := [(3, .v (.slice A18 (x11 ++ [b21, b22]).length c19)), (6, SV.sl (kInt .i64) l_ y_l_.1 y_l_.2), (7, .v (.int .i64 ((l_.length : Nat) : Int))), (8, .v (.int .i64 x10))]) (B' := [some ⟨5, [.v (.int .u8 ((b21.toNat : Nat) : Int)), .v (.int .u8 ((b22.toNat : Nat) : Int))]⟩]) (by kernel_rfl) fun ρ w a hX => ?_
   refine wpList_end ?_
   refine hK11 _ _ ?_
   refine Cx.region hX [] [3, 6, 7, 8] (l' := [(3, .v (.slice A18 (x11 ++ [b21, b22]).length c19)), (6, SV.sl (kInt .i64) l_ y_l_.1 y_l_.2), (7, .v (.int .i64 ((l_.length : Nat) : Int))), (8, .v (.int .i64 (IntKind.wrap .i64 (x10 + 1))))]) (B' := [some ⟨5, [.v (.int .u8 ((b21.toNat : Nat) : Int)), .v (.int .u8 ((b22.toNat : Nat) : Int))]⟩]) (by kernel_rfl) fun ρ w a hX => ?_
   have hX := hX.keeps [3, 6, 7, 8] (l' := [(3, .v (.slice A18 (x11 ++ [b21, b22]).length c19)), (6, SV.sl (kInt .i64) l_ y_l_.1 y_l_.2), (7, .v (.int .i64 ((l_.length : Nat) : Int))), (8, .v (.int .i64 (IntKind.wrap .i64 (x10 + 1))))]) (by kernel_rfl)
   have hX := hX.shrink 0 (B' := []) (by kernel_rfl) (Nat.le_of_ble_eq_true rfl) (by kernel_rfl) (by kernel_rfl) (Nat.zero_le _)
   exact hb1 ((IntKind.wrap .i64 (x10 + 1)), (x11 ++ [b21, b22])) (out_eq h1) _ _ ⟨A18, c19, _, _, hX⟩
  ·have h1 := ite_ff h1 hb
   refine wp_exit ?_
   have hX := hX.keeps [3] (l' := [(3, .v (.slice A12 x11.length c13))]) (by kernel_rfl)
   exact E1x0 x11 (hx1 _ (out_eq h1)).symm A12 c13 _ _ _ _ hX
 ·exact ⟨none, 0, _, _, hX⟩
def ref01_digit (c : Int) : Option (Int) :=
  if ((decide (c ≥ 48)) && (decide (c ≤ 57))) = true then
    some (IntKind.wrap .i64 (IntKind.wrap .u8 (c - 48)))
  else
    if ((decide (c ≥ 97)) && (decide (c ≤ 102))) = true then
      some (IntKind.wrap .i64 ((IntKind.wrap .i64 (IntKind.wrap .u8 (c - 97))) + 10))
    else
      if ((decide (c ≥ 65)) && (decide (c ≤ 70))) = true then
        some (IntKind.wrap .i64 ((IntKind.wrap .i64 (IntKind.wrap .u8 (c - 65))) + 10))
      else
        some (-1)
theorem ref01_digit.ok (c : Int) (r : Int) (h0 : ref01_digit c = some r) (w0 : World) (F0 : Heap) (hv : F0.Sub w0) (hG : Glob F0) (hg : SV.goods F0 [.v (.int .u8 c)]) (ρ : Nat → Nat) :
    Calls Tryz.prog 78 (SV.dens ρ [.v (.int .u8 c)]).toArray w0 (Ret0 w0 F0 fun s => s = .v (.int .i64 r)) := by
 refine calls_of_wp Tryz.func78 rfl ?_
 have hX := Cx.enter (D := No) (B := []) (L := []) (ρ := ρ) (N := 35) Tryz.ntmps78 [.v (.int .u8 c)] (St.start hv) rfl hg (by kernel_rfl) (fun _ h => by cases h) (Nat.le_of_ble_eq_true rfl) No.unfix
 unfold ref01_digit at h0
 refine Cx.rseq hX [] [0] (l' := [(0, .v (.int .u8 c))]) (B' := []) (by kernel_rfl) fun ρ w a hX => ?_
 refine wp_seq_k fun K2 hK2 => ?_
 refine wp_block ?_
 refine Cx.rseq hX [] [0, 3] (l' := [(0, .v (.int .u8 c)), (3, .v (.bool ((decide (c ≥ 48)) && (decide (c ≤ 57)))))]) (B' := []) (by kernel_rfl) fun ρ w a hX => ?_
 refine Cx.cond hX (b := ((decide (c ≥ 48)) && (decide (c ≤ 57)))) (by kernel_rfl) (fun hb => ?_) (fun hb => ?_)
 ·have h0 := ite_tt h0 hb
  refine Cx.rseq hX [] [2] (l' := [(2, .v (.int .i64 (IntKind.wrap .i64 (IntKind.wrap .u8 (c - 48)))))]) (B' := []) (by kernel_rfl) fun ρ w a hX => ?_
  refine wp_ret ?_
  have hr := Option.some.inj (show some _ = some _ from h0)
  subst hr
  exact hX.ret0 (ss := [.v (.int .i64 (IntKind.wrap .i64 (IntKind.wrap .u8 (c - 48))))]) (by kernel_rfl) (by kernel_rfl) rfl
 ·have h0 := ite_ff h0 hb
  refine Cx.rseq hX [] [0, 13] (l' := [(0, .v (.int .u8 c)), (13, .v (.bool ((decide (c ≥ 97)) && (decide (c ≤ 102)))))]) (B' := []) (by kernel_rfl) fun ρ w a hX => ?_
  refine Cx.cond hX (b := ((decide (c ≥ 97)) && (decide (c ≤ 102)))) (by kernel_rfl) (fun hb => ?_) (fun hb => ?_)
  ·have h0 := ite_tt h0 hb
   refine Cx.rseq hX [] [2] (l' := [(2, .v (.int .i64 (IntKind.wrap .i64 ((IntKind.wrap .i64 (IntKind.wrap .u8 (c - 97))) + 10))))]) (B' := []) (by kernel_rfl) fun ρ w a hX => ?_
   refine wp_ret ?_
   have hr := Option.some.inj (show some _ = some _ from h0)
   subst hr
   exact hX.ret0 (ss := [.v (.int .i64 (IntKind.wrap .i64 ((IntKind.wrap .i64 (IntKind.wrap .u8 (c - 97))) + 10)))]) (by kernel_rfl) (by kernel_rfl) rfl
  ·have h0 := ite_ff h0 hb
   refine Cx.rseq hX [] [0, 24] (l' := [(0, .v (.int .u8 c)), (24, .v (.bool ((decide (c ≥ 65)) && (decide (c ≤ 70)))))]) (B' := []) (by kernel_rfl) fun ρ w a hX => ?_
   refine Cx.cond hX (b := ((decide (c ≥ 65)) && (decide (c ≤ 70)))) (by kernel_rfl) (fun hb => ?_) (fun hb => ?_)
   ·have h0 := ite_tt h0 hb
    refine Cx.rseq hX [] [2] (l' := [(2, .v (.int .i64 (IntKind.wrap .i64 ((IntKind.wrap .i64 (IntKind.wrap .u8 (c - 65))) + 10))))]) (B' := []) (by kernel_rfl) fun ρ w a hX => ?_
    refine wp_ret ?_
    have hr := Option.some.inj (show some _ = some _ from h0)
    subst hr
    exact hX.ret0 (ss := [.v (.int .i64 (IntKind.wrap .i64 ((IntKind.wrap .i64 (IntKind.wrap .u8 (c - 65))) + 10)))]) (by kernel_rfl) (by kernel_rfl) rfl
   ·have h0 := ite_ff h0 hb
    refine wp_skip ?_
    refine hK2 _ _ ?_
    refine Cx.rseq hX [] [2] (l' := [(2, .v (.int .i64 (-1)))]) (B' := []) (by kernel_rfl) fun ρ w a hX => ?_
    refine wp_ret ?_
    have hr := Option.some.inj (show some _ = some _ from h0)
    subst hr
    exact hX.ret0 (ss := [.v (.int .i64 (-1))]) (by kernel_rfl) (by kernel_rfl) rfl
def ref01_digits.j2 (s_ : Str) (at_ : Int) (x6 : Int) (x7 : Int) (x10 : Bool) : Option ((Int × Int) ⊕ ((Int) ⊕ (Int))) :=
  if x10 = true then
    some (.inr (.inr (-1)))
  else
    Option.bind (getB s_ (IntKind.wrap .i64 (at_ + x7))) fun v11 =>
    Option.bind (ref01_digit v11) fun v12 =>
    some (.inl ((IntKind.wrap .i64 ((IntKind.wrap .i64 (16 * x6)) + v12)), (IntKind.wrap .i64 (x7 + 1))))
def ref01_digits.l1 (s_ : Str) (at_ : Int) (many : Int) (s : Int × Int) : Option ((Int × Int) ⊕ ((Int) ⊕ (Int))) := match s with
  | (x6, x7) =>
  if (decide (x7 < many)) = true then
    if (decide ((IntKind.wrap .i64 (at_ + x7)) ≥ ((s_.length : Nat) : Int))) = true then
      ref01_digits.j2 s_ at_ x6 x7 true
    else
      Option.bind (getB s_ (IntKind.wrap .i64 (at_ + x7))) fun v8 =>
      Option.bind (ref01_digit v8) fun v9 =>
      ref01_digits.j2 s_ at_ x6 x7 (decide (v9 < 0))
  else
    some (.inr (.inl x6))
def ref01_digits (s_ : Str) (at_ : Int) (many : Int) : Option (Int) :=
  Option.bind (loopM (ref01_digits.l1 s_ at_ many) (0, 0)) fun e => match e with
  | (.inl x15) =>
    some x15
  | (.inr r16) =>
    some r16
theorem ref01_digits.ok (s_ : Str) (at_ : Int) (many : Int) (r : Int) (h0 : ref01_digits s_ at_ many = some r) (w0 : World) (F0 : Heap) (hv : F0.Sub w0) (hG : Glob F0) (hg : SV.goods F0 [.v (.string ⟨⟨s_⟩⟩), .v (.int .i64 at_), .v (.int .i64 many)]) (ρ : Nat → Nat) :
    Calls Tryz.prog 67 (SV.dens ρ [.v (.string ⟨⟨s_⟩⟩), .v (.int .i64 at_), .v (.int .i64 many)]).toArray w0 (Ret0 w0 F0 fun s => s = .v (.int .i64 r)) := by
 refine calls_of_wp Tryz.func67 rfl ?_
 have hX := Cx.enter (D := No) (B := []) (L := []) (ρ := ρ) (N := 39) Tryz.ntmps67 [.v (.string ⟨⟨s_⟩⟩), .v (.int .i64 at_), .v (.int .i64 many)] (St.start hv) rfl hg (by kernel_rfl) (fun _ h => by cases h) (Nat.le_of_ble_eq_true rfl) No.unfix
 unfold ref01_digits at h0
 refine Cx.rseq hX [] [0, 1, 2] (l' := [(0, .v (.string ⟨⟨s_⟩⟩)), (1, .v (.int .i64 at_)), (2, .v (.int .i64 many))]) (B' := []) (by kernel_rfl) fun ρ w a hX => ?_
 refine Cx.rseq hX [] [0, 1, 2, 7] (l' := [(0, .v (.string ⟨⟨s_⟩⟩)), (1, .v (.int .i64 at_)), (2, .v (.int .i64 many)), (7, .v (.int .i64 0))]) (B' := []) (by kernel_rfl) fun ρ w a hX => ?_
 refine wp_seq_k fun K3 hK3 => ?_
 refine Cx.rseq hX [] [0, 1, 7, 9, 10] (l' := [(0, .v (.string ⟨⟨s_⟩⟩)), (1, .v (.int .i64 at_)), (7, .v (.int .i64 0)), (9, .v (.int .i64 many)), (10, .v (.int .i64 0))]) (B' := []) (by kernel_rfl) fun ρ w a hX => ?_
 refine wp_block ?_
 have hX := hX.keeps [0, 1, 7, 9, 10] (l' := [(0, .v (.string ⟨⟨s_⟩⟩)), (1, .v (.int .i64 at_)), (7, .v (.int .i64 0)), (9, .v (.int .i64 many)), (10, .v (.int .i64 0))]) (by kernel_rfl)
 obtain ⟨e1, he1, h0⟩ := bnd_some h0
 have E1x0 : ∀ (x15 : Int), e1 = (.inl x15) → ∀ (ρ : Nat → Nat) (w : World) (F : Heap) (a : Act), Cx 39 w0 F0 No w F [] [] ρ [(7, .v (.int .i64 x15))] a → K3 a w := by
  intro x15 he  ρ w F a hX
  replace he := he.symm
  subst he
  (try dsimp only at h0)
  refine hK3 _ _ ?_
  refine Cx.rseq hX [] [6] (l' := [(6, .v (.int .i64 x15))]) (B' := []) (by kernel_rfl) fun ρ w a hX => ?_
  refine wp_ret ?_
  have hr := Option.some.inj (show some _ = some _ from h0)
  subst hr
  exact hX.ret0 (ss := [.v (.int .i64 x15)]) (by kernel_rfl) (by kernel_rfl) rfl
 refine loop_go (fun (s : Int × Int) a w => match s with | (x6, x7) => ∃ (ρ : Nat → Nat) (F : Heap), Cx 39 w0 F0 No w F [] [] ρ [(0, .v (.string ⟨⟨s_⟩⟩)), (1, .v (.int .i64 at_)), (7, .v (.int .i64 x6)), (9, .v (.int .i64 many)), (10, .v (.int .i64 x7))] a) he1 (fun LW1 s o1 h1 hb1 hx1 a w hI => ?_) _ _ ?_
 ·obtain ⟨x6, x7⟩ := s
  obtain ⟨ρ, F, hX⟩ := hI
  unfold ref01_digits.l1 at h1
  (try dsimp only at h1)
  refine Cx.rseq hX [] [0, 1, 7, 9, 10, 11] (l' := [(0, .v (.string ⟨⟨s_⟩⟩)), (1, .v (.int .i64 at_)), (7, .v (.int .i64 x6)), (9, .v (.int .i64 many)), (10, .v (.int .i64 x7)), (11, .v (.bool (decide (x7 < many))))]) (B' := []) (by kernel_rfl) fun ρ w a hX => ?_
  refine wp_seq_k fun K13 hK13 => ?_
  refine Cx.cond hX (b := (decide (x7 < many))) (by kernel_rfl) (fun hb => ?_) (fun hb => ?_)
  ·have h1 := ite_tt h1 hb
   refine wp_skip ?_
   refine hK13 _ _ ?_
   refine wp_seq_k fun K14 hK14 => ?_
   refine wp_block ?_
   refine Cx.rseq hX [] [0, 1, 7, 8, 9, 10] (l' := [(0, .v (.string ⟨⟨s_⟩⟩)), (1, .v (.int .i64 at_)), (7, .v (.int .i64 x6)), (8, .v (.int .i64 x7)), (9, .v (.int .i64 many)), (10, .v (.int .i64 x7))]) (B' := []) (by kernel_rfl) fun ρ w a hX => ?_
   refine wp_seq_k fun K16 hK16 => ?_
   refine wp_seq_k fun K17 hK17 => ?_
   have J17 : ∀ (x10 : Bool), ref01_digits.j2 s_ at_ x6 x7 x10 = some o1 → ∀ (ρ : Nat → Nat) (w : World) (F : Heap) (a : Act), Cx 39 w0 F0 No w F [] [] ρ [(0, .v (.string ⟨⟨s_⟩⟩)), (1, .v (.int .i64 at_)), (7, .v (.int .i64 x6)), (8, .v (.int .i64 x7)), (9, .v (.int .i64 many)), (10, .v (.int .i64 x7)), (27, .v (.bool x10))] a → K17 a w := by
    intro x10 h1  ρ w F a hX
    unfold ref01_digits.j2 at h1
    refine hK17 _ _ ?_
    refine Cx.cond hX (b := x10) (by kernel_rfl) (fun hb => ?_) (fun hb => ?_)
    ·have h1 := ite_tt h1 hb
     refine Cx.rseq hX [] [6] (l' := [(6, .v (.int .i64 (-1)))]) (B' := []) (by kernel_rfl) fun ρ w a hX => ?_
     refine wp_ret ?_
     have he := hx1 _ (out_eq h1)
     subst he
     (try dsimp only at h0)
     have hr := Option.some.inj (show some _ = some _ from h0)
     subst hr
     exact hX.ret0 (ss := [.v (.int .i64 (-1))]) (by kernel_rfl) (by kernel_rfl) rfl
    ·have h1 := ite_ff h1 hb
     refine wp_skip ?_
     refine hK16 _ _ ?_
     refine wp_region_list ?_
     refine hX.part [] 6 [0, 1, 7, 9, 10, 29, 30, 33] (l' := [(0, .v (.string ⟨⟨s_⟩⟩)), (1, .v (.int .i64 at_)), (7, .v (.int .i64 x6)), (9, .v (.int .i64 many)), (10, .v (.int .i64 x7)), (29, .v (.int .i64 (IntKind.wrap .i64 (16 * x6)))), (30, .v (.string ⟨⟨s_⟩⟩)), (33, .v (.int .i64 (IntKind.wrap .i64 (at_ + x7))))]) (B' := []) (by kernel_rfl) fun ρ w a hX => ?_
     obtain ⟨v11, hv11, h1⟩ := bnd_some h1
     refine hX.idxStr (lit := []) (by kernel_rfl) (by kernel_rfl) rfl (s := s_) (k := .i64) (n := (IntKind.wrap .i64 (at_ + x7))) (b := v11) (by kernel_rfl) (by kernel_rfl) (by kernel_rfl) hv11 fun a hX => ?_
     refine hX.part [] 0 [0, 1, 7, 9, 10, 29, 34] (l' := [(0, .v (.string ⟨⟨s_⟩⟩)), (1, .v (.int .i64 at_)), (7, .v (.int .i64 x6)), (9, .v (.int .i64 many)), (10, .v (.int .i64 x7)), (29, .v (.int .i64 (IntKind.wrap .i64 (16 * x6)))), (34, .v (.int .u8 v11))]) (B' := []) (by kernel_rfl) fun ρ w a hX => ?_
     obtain ⟨v12, hv12, h1⟩ := bnd_some h1
     refine Cx.call0 hX (lit := []) (by kernel_rfl) rfl (by kernel_rfl) ⟨⟨_, Tryz.func78, by kernel_rfl, rfl⟩⟩ (ss := [.v (.int .u8 v11)]) (by kernel_rfl) [.v (.int .u8 v11)] rfl (fun hg => hg) (fun hv hle hg => ref01_digit.ok v11 v12 hv12 _ _ hv (hG.mono hle) hg _) (fun s F w a hp hX => ?_)
     subst hp
     refine hX.part [] 2 [0, 1, 7, 9, 10] (l' := [(0, .v (.string ⟨⟨s_⟩⟩)), (1, .v (.int .i64 at_)), (7, .v (.int .i64 (IntKind.wrap .i64 ((IntKind.wrap .i64 (16 * x6)) + v12)))), (9, .v (.int .i64 many)), (10, .v (.int .i64 x7))]) (B' := []) (by kernel_rfl) fun ρ w a hX => ?_
     refine wpList_end ?_
     refine hK14 _ _ ?_
     refine Cx.region hX [] [0, 1, 7, 9, 10] (l' := [(0, .v (.string ⟨⟨s_⟩⟩)), (1, .v (.int .i64 at_)), (7, .v (.int .i64 (IntKind.wrap .i64 ((IntKind.wrap .i64 (16 * x6)) + v12)))), (9, .v (.int .i64 many)), (10, .v (.int .i64 (IntKind.wrap .i64 (x7 + 1))))]) (B' := []) (by kernel_rfl) fun ρ w a hX => ?_
     have hX := hX.keeps [0, 1, 7, 9, 10] (l' := [(0, .v (.string ⟨⟨s_⟩⟩)), (1, .v (.int .i64 at_)), (7, .v (.int .i64 (IntKind.wrap .i64 ((IntKind.wrap .i64 (16 * x6)) + v12)))), (9, .v (.int .i64 many)), (10, .v (.int .i64 (IntKind.wrap .i64 (x7 + 1))))]) (by kernel_rfl)
     exact hb1 ((IntKind.wrap .i64 ((IntKind.wrap .i64 (16 * x6)) + v12)), (IntKind.wrap .i64 (x7 + 1))) (out_eq h1) _ _ ⟨_, _, hX⟩
   refine wp_region_list ?_
   refine hX.part [] 7 [0, 1, 7, 8, 9, 10, 19] (l' := [(0, .v (.string ⟨⟨s_⟩⟩)), (1, .v (.int .i64 at_)), (7, .v (.int .i64 x6)), (8, .v (.int .i64 x7)), (9, .v (.int .i64 many)), (10, .v (.int .i64 x7)), (19, .v (.bool (decide ((IntKind.wrap .i64 (at_ + x7)) ≥ ((s_.length : Nat) : Int)))))]) (B' := []) (by kernel_rfl) fun ρ w a hX => ?_
   refine ite_go h1 (fun hb h1 => ?_) (fun hb h1 => ?_)
   ·have hX := hX.relit 19 hb (by kernel_rfl)
    refine hX.part [6] 8 [0, 1, 7, 8, 9, 10, 27] (l' := [(0, .v (.string ⟨⟨s_⟩⟩)), (1, .v (.int .i64 at_)), (7, .v (.int .i64 x6)), (8, .v (.int .i64 x7)), (9, .v (.int .i64 many)), (10, .v (.int .i64 x7)), (27, .v (.bool true))]) (B' := []) (by kernel_rfl) fun ρ w a hX => ?_
    refine wpList_end ?_
    have hX := hX.keeps [0, 1, 7, 8, 9, 10, 27] (l' := [(0, .v (.string ⟨⟨s_⟩⟩)), (1, .v (.int .i64 at_)), (7, .v (.int .i64 x6)), (8, .v (.int .i64 x7)), (9, .v (.int .i64 many)), (10, .v (.int .i64 x7)), (27, .v (.bool true))]) (by kernel_rfl)
    exact J17 true h1  _ _ _ _ hX
   ·have hX := hX.relit 19 hb (by kernel_rfl)
    refine hX.part [6] 4 [0, 1, 7, 8, 9, 10, 19, 20, 23] (l' := [(0, .v (.string ⟨⟨s_⟩⟩)), (1, .v (.int .i64 at_)), (7, .v (.int .i64 x6)), (8, .v (.int .i64 x7)), (9, .v (.int .i64 many)), (10, .v (.int .i64 x7)), (19, .v (.bool false)), (20, .v (.string ⟨⟨s_⟩⟩)), (23, .v (.int .i64 (IntKind.wrap .i64 (at_ + x7))))]) (B' := []) (by kernel_rfl) fun ρ w a hX => ?_
    obtain ⟨v8, hv8, h1⟩ := bnd_some h1
    refine hX.idxStr (lit := [6]) (by kernel_rfl) (by kernel_rfl) rfl (s := s_) (k := .i64) (n := (IntKind.wrap .i64 (at_ + x7))) (b := v8) (by kernel_rfl) (by kernel_rfl) (by kernel_rfl) hv8 fun a hX => ?_
    refine hX.part [6] 0 [0, 1, 7, 8, 9, 10, 19, 24] (l' := [(0, .v (.string ⟨⟨s_⟩⟩)), (1, .v (.int .i64 at_)), (7, .v (.int .i64 x6)), (8, .v (.int .i64 x7)), (9, .v (.int .i64 many)), (10, .v (.int .i64 x7)), (19, .v (.bool false)), (24, .v (.int .u8 v8))]) (B' := []) (by kernel_rfl) fun ρ w a hX => ?_
    obtain ⟨v9, hv9, h1⟩ := bnd_some h1
    refine Cx.call0 hX (lit := [6]) (by kernel_rfl) rfl (by kernel_rfl) ⟨⟨_, Tryz.func78, by kernel_rfl, rfl⟩⟩ (ss := [.v (.int .u8 v8)]) (by kernel_rfl) [.v (.int .u8 v8)] rfl (fun hg => hg) (fun hv hle hg => ref01_digit.ok v8 v9 hv9 _ _ hv (hG.mono hle) hg _) (fun s F w a hp hX => ?_)
    subst hp
    refine hX.part [6] 2 [0, 1, 7, 8, 9, 10, 27] (l' := [(0, .v (.string ⟨⟨s_⟩⟩)), (1, .v (.int .i64 at_)), (7, .v (.int .i64 x6)), (8, .v (.int .i64 x7)), (9, .v (.int .i64 many)), (10, .v (.int .i64 x7)), (27, .v (.bool (decide (v9 < 0))))]) (B' := []) (by kernel_rfl) fun ρ w a hX => ?_
    refine wpList_end ?_
    have hX := hX.keeps [0, 1, 7, 8, 9, 10, 27] (l' := [(0, .v (.string ⟨⟨s_⟩⟩)), (1, .v (.int .i64 at_)), (7, .v (.int .i64 x6)), (8, .v (.int .i64 x7)), (9, .v (.int .i64 many)), (10, .v (.int .i64 x7)), (27, .v (.bool (decide (v9 < 0))))]) (by kernel_rfl)
    exact J17 (decide (v9 < 0)) h1  _ _ _ _ hX
  ·have h1 := ite_ff h1 hb
   refine wp_exit ?_
   have hX := hX.keeps [7] (l' := [(7, .v (.int .i64 x6))]) (by kernel_rfl)
   exact E1x0 x6 (hx1 _ (out_eq h1)).symm  _ _ _ _ hX
 ·exact ⟨_, _, hX⟩
def ref01_simple (c : Int) : Option (Int) :=
  if (c == 110) = true then
    some 10
  else
    if (c == 116) = true then
      some 9
    else
      if (c == 114) = true then
        some 13
      else
        if (c == 98) = true then
          some 8
        else
          if (c == 102) = true then
            some 12
          else
            if (c == 118) = true then
              some 11
            else
              if ((((((decide (c > 127)) || (c == 13)) || (c == 120)) || (c == 117)) || ((decide (c ≥ 48)) && (decide (c ≤ 57)))) || (c == 10)) = true then
                some (-1)
              else
                some (IntKind.wrap .i64 c)
theorem ref01_simple.ok (c : Int) (r : Int) (h0 : ref01_simple c = some r) (w0 : World) (F0 : Heap) (hv : F0.Sub w0) (hG : Glob F0) (hg : SV.goods F0 [.v (.int .u8 c)]) (ρ : Nat → Nat) :
    Calls Tryz.prog 68 (SV.dens ρ [.v (.int .u8 c)]).toArray w0 (Ret0 w0 F0 fun s => s = .v (.int .i64 r)) := by
 refine calls_of_wp Tryz.func68 rfl ?_
 have hX := Cx.enter (D := No) (B := []) (L := []) (ρ := ρ) (N := 44) Tryz.ntmps68 [.v (.int .u8 c)] (St.start hv) rfl hg (by kernel_rfl) (fun _ h => by cases h) (Nat.le_of_ble_eq_true rfl) No.unfix
 unfold ref01_simple at h0
 refine Cx.rseq hX [] [0] (l' := [(0, .v (.int .u8 c))]) (B' := []) (by kernel_rfl) fun ρ w a hX => ?_
 refine wp_seq_k fun K2 hK2 => ?_
 refine Cx.rseq hX [] [0, 3] (l' := [(0, .v (.int .u8 c)), (3, .v (.int .u8 c))]) (B' := []) (by kernel_rfl) fun ρ w a hX => ?_
 refine wp_block ?_
 refine Cx.rseq hX [] [0, 3, 4] (l' := [(0, .v (.int .u8 c)), (3, .v (.int .u8 c)), (4, .v (.bool (c == 110)))]) (B' := []) (by kernel_rfl) fun ρ w a hX => ?_
 refine Cx.cond hX (b := (c == 110)) (by kernel_rfl) (fun hb => ?_) (fun hb => ?_)
 ·have h0 := ite_tt h0 hb
  refine Cx.rseq hX [] [2] (l' := [(2, .v (.int .i64 10))]) (B' := []) (by kernel_rfl) fun ρ w a hX => ?_
  refine wp_ret ?_
  have hr := Option.some.inj (show some _ = some _ from h0)
  subst hr
  exact hX.ret0 (ss := [.v (.int .i64 10)]) (by kernel_rfl) (by kernel_rfl) rfl
 ·have h0 := ite_ff h0 hb
  refine Cx.rseq hX [] [0, 3, 6] (l' := [(0, .v (.int .u8 c)), (3, .v (.int .u8 c)), (6, .v (.bool (c == 116)))]) (B' := []) (by kernel_rfl) fun ρ w a hX => ?_
  refine Cx.cond hX (b := (c == 116)) (by kernel_rfl) (fun hb => ?_) (fun hb => ?_)
  ·have h0 := ite_tt h0 hb
   refine Cx.rseq hX [] [2] (l' := [(2, .v (.int .i64 9))]) (B' := []) (by kernel_rfl) fun ρ w a hX => ?_
   refine wp_ret ?_
   have hr := Option.some.inj (show some _ = some _ from h0)
   subst hr
   exact hX.ret0 (ss := [.v (.int .i64 9)]) (by kernel_rfl) (by kernel_rfl) rfl
  ·have h0 := ite_ff h0 hb
   refine Cx.rseq hX [] [0, 3, 8] (l' := [(0, .v (.int .u8 c)), (3, .v (.int .u8 c)), (8, .v (.bool (c == 114)))]) (B' := []) (by kernel_rfl) fun ρ w a hX => ?_
   refine Cx.cond hX (b := (c == 114)) (by kernel_rfl) (fun hb => ?_) (fun hb => ?_)
   ·have h0 := ite_tt h0 hb
    refine Cx.rseq hX [] [2] (l' := [(2, .v (.int .i64 13))]) (B' := []) (by kernel_rfl) fun ρ w a hX => ?_
    refine wp_ret ?_
    have hr := Option.some.inj (show some _ = some _ from h0)
    subst hr
    exact hX.ret0 (ss := [.v (.int .i64 13)]) (by kernel_rfl) (by kernel_rfl) rfl
   ·have h0 := ite_ff h0 hb
    refine Cx.rseq hX [] [0, 3, 10] (l' := [(0, .v (.int .u8 c)), (3, .v (.int .u8 c)), (10, .v (.bool (c == 98)))]) (B' := []) (by kernel_rfl) fun ρ w a hX => ?_
    refine Cx.cond hX (b := (c == 98)) (by kernel_rfl) (fun hb => ?_) (fun hb => ?_)
    ·have h0 := ite_tt h0 hb
     refine Cx.rseq hX [] [2] (l' := [(2, .v (.int .i64 8))]) (B' := []) (by kernel_rfl) fun ρ w a hX => ?_
     refine wp_ret ?_
     have hr := Option.some.inj (show some _ = some _ from h0)
     subst hr
     exact hX.ret0 (ss := [.v (.int .i64 8)]) (by kernel_rfl) (by kernel_rfl) rfl
    ·have h0 := ite_ff h0 hb
     refine Cx.rseq hX [] [0, 3, 12] (l' := [(0, .v (.int .u8 c)), (3, .v (.int .u8 c)), (12, .v (.bool (c == 102)))]) (B' := []) (by kernel_rfl) fun ρ w a hX => ?_
     refine Cx.cond hX (b := (c == 102)) (by kernel_rfl) (fun hb => ?_) (fun hb => ?_)
     ·have h0 := ite_tt h0 hb
      refine Cx.rseq hX [] [2] (l' := [(2, .v (.int .i64 12))]) (B' := []) (by kernel_rfl) fun ρ w a hX => ?_
      refine wp_ret ?_
      have hr := Option.some.inj (show some _ = some _ from h0)
      subst hr
      exact hX.ret0 (ss := [.v (.int .i64 12)]) (by kernel_rfl) (by kernel_rfl) rfl
     ·have h0 := ite_ff h0 hb
      refine Cx.rseq hX [] [0, 14] (l' := [(0, .v (.int .u8 c)), (14, .v (.bool (c == 118)))]) (B' := []) (by kernel_rfl) fun ρ w a hX => ?_
      refine Cx.cond hX (b := (c == 118)) (by kernel_rfl) (fun hb => ?_) (fun hb => ?_)
      ·have h0 := ite_tt h0 hb
       refine Cx.rseq hX [] [2] (l' := [(2, .v (.int .i64 11))]) (B' := []) (by kernel_rfl) fun ρ w a hX => ?_
       refine wp_ret ?_
       have hr := Option.some.inj (show some _ = some _ from h0)
       subst hr
       exact hX.ret0 (ss := [.v (.int .i64 11)]) (by kernel_rfl) (by kernel_rfl) rfl
      ·have h0 := ite_ff h0 hb
       refine wp_skip ?_
       refine hK2 _ _ ?_
       refine wp_seq_k fun K16 hK16 => ?_
       refine Cx.rseq hX [] [0, 41] (l' := [(0, .v (.int .u8 c)), (41, .v (.bool ((((((decide (c > 127)) || (c == 13)) || (c == 120)) || (c == 117)) || ((decide (c ≥ 48)) && (decide (c ≤ 57)))) || (c == 10))))]) (B' := []) (by kernel_rfl) fun ρ w a hX => ?_
       refine Cx.cond hX (b := ((((((decide (c > 127)) || (c == 13)) || (c == 120)) || (c == 117)) || ((decide (c ≥ 48)) && (decide (c ≤ 57)))) || (c == 10))) (by kernel_rfl) (fun hb => ?_) (fun hb => ?_)
       ·have h0 := ite_tt h0 hb
        refine Cx.rseq hX [] [2] (l' := [(2, .v (.int .i64 (-1)))]) (B' := []) (by kernel_rfl) fun ρ w a hX => ?_
        refine wp_ret ?_
        have hr := Option.some.inj (show some _ = some _ from h0)
        subst hr
        exact hX.ret0 (ss := [.v (.int .i64 (-1))]) (by kernel_rfl) (by kernel_rfl) rfl
       ·have h0 := ite_ff h0 hb
        refine wp_skip ?_
        refine hK16 _ _ ?_
        refine Cx.rseq hX [] [2] (l' := [(2, .v (.int .i64 (IntKind.wrap .i64 c)))]) (B' := []) (by kernel_rfl) fun ρ w a hX => ?_
        refine wp_ret ?_
        have hr := Option.some.inj (show some _ = some _ from h0)
        subst hr
        exact hX.ret0 (ss := [.v (.int .i64 (IntKind.wrap .i64 c))]) (by kernel_rfl) (by kernel_rfl) rfl
def ref01_escaped.j1 (x4 : Bool) : Option ((List Int) × Int) :=
  if x4 = true then
    some (([] : List Int), (-1))
  else
    some (([0] : List Int), 1)
def ref01_escaped (s_ : Str) (at_ : Int) : Option ((List Int) × Int) :=
  if (decide (at_ ≥ ((s_.length : Nat) : Int))) = true then
    some (([] : List Int), (-1))
  else
    Option.bind (getB s_ at_) fun v1 =>
    if (v1 == 10) = true then
      some (([] : List Int), 1)
    else
      if (v1 == 48) = true then
        if (decide ((IntKind.wrap .i64 (at_ + 1)) < ((s_.length : Nat) : Int))) = true then
          Option.bind (getB s_ (IntKind.wrap .i64 (at_ + 1))) fun v2 =>
          if (decide (v2 ≥ 48)) = true then
            Option.bind (getB s_ (IntKind.wrap .i64 (at_ + 1))) fun v3 =>
            ref01_escaped.j1 (decide (v3 ≤ 57))
          else
            ref01_escaped.j1 false
        else
          ref01_escaped.j1 false
      else
        if (v1 == 120) = true then
          Option.bind (ref01_digits s_ (IntKind.wrap .i64 (at_ + 1)) 2) fun v6 =>
          if (decide (v6 < 0)) = true then
            some (([] : List Int), (-1))
          else
            some (([v6] : List Int), 3)
        else
          if (v1 == 117) = true then
            Option.bind (ref01_digits s_ (IntKind.wrap .i64 (at_ + 1)) 4) fun v8 =>
            if (decide (v8 < 0)) = true then
              some (([] : List Int), (-1))
            else
              some (([v8] : List Int), 5)
          else
            Option.bind (getB s_ at_) fun v10 =>
            Option.bind (ref01_simple v10) fun v11 =>
            if (decide (v11 < 0)) = true then
              some (([] : List Int), (-1))
            else
              some (([v11] : List Int), 1)
theorem ref01_escaped.ok (s_ : Str) (at_ : Int) (r : (List Int) × Int) (h0 : ref01_escaped s_ at_ = some r) (w0 : World) (F0 : Heap) (hv : F0.Sub w0) (hG : Glob F0) (hg : SV.goods F0 [.v (.string ⟨⟨s_⟩⟩), .v (.int .i64 at_)]) (ρ : Nat → Nat) :
    Calls Tryz.prog 57 (SV.dens ρ [.v (.string ⟨⟨s_⟩⟩), .v (.int .i64 at_)]).toArray w0 (Ret0 w0 F0 fun s => ∃ s1 s2, s = .tup [s1, s2] ∧ (∃ A c, s1 = SV.sl (kInt .i64) r.1 A c) ∧ (s2 = .v (.int .i64 r.2))) := by
 refine calls_of_wp Tryz.func57 rfl ?_
 have hX := Cx.enter (D := No) (B := []) (L := []) (ρ := ρ) (N := 68) Tryz.ntmps57 [.v (.string ⟨⟨s_⟩⟩), .v (.int .i64 at_)] (St.start hv) rfl hg (by kernel_rfl) (fun _ h => by cases h) (Nat.le_of_ble_eq_true rfl) No.unfix
 unfold ref01_escaped at h0
 refine Cx.rseq hX [] [0, 1] (l' := [(0, .v (.string ⟨⟨s_⟩⟩)), (1, .v (.int .i64 at_))]) (B' := []) (by kernel_rfl) fun ρ w a hX => ?_
 refine wp_seq_k fun K2 hK2 => ?_
 refine Cx.rseq hX [] [0, 1, 12] (l' := [(0, .v (.string ⟨⟨s_⟩⟩)), (1, .v (.int .i64 at_)), (12, .v (.bool (decide (at_ ≥ ((s_.length : Nat) : Int)))))]) (B' := []) (by kernel_rfl) fun ρ w a hX => ?_
 refine Cx.cond hX (b := (decide (at_ ≥ ((s_.length : Nat) : Int)))) (by kernel_rfl) (fun hb => ?_) (fun hb => ?_)
 ·have h0 := ite_tt h0 hb
  refine Cx.rseq hX [] [4, 5] (l' := [(4, .v (.slice none 0 0)), (5, .v (.int .i64 (-1)))]) (B' := []) (by kernel_rfl) fun ρ w a hX => ?_
  refine wp_ret ?_
  have hX := hX.nilSl 4 (kInt .i64) (by kernel_rfl)
  have hr := Option.some.inj (show some _ = some _ from h0)
  subst hr
  exact hX.ret0 (ss := [SV.sl (kInt .i64) ([] : List Int) none 0, .v (.int .i64 (-1))]) (by kernel_rfl) (by kernel_rfl) ⟨_, _, rfl, ⟨_, _, rfl⟩, rfl⟩
 ·have h0 := ite_ff h0 hb
  refine wp_skip ?_
  refine hK2 _ _ ?_
  refine wp_seq_k fun K5 hK5 => ?_
  refine wp_seq_k fun K6 hK6 => ?_
  refine wp_region_list ?_
  refine hX.part [] 2 [0, 1, 13, 14] (l' := [(0, .v (.string ⟨⟨s_⟩⟩)), (1, .v (.int .i64 at_)), (13, .v (.string ⟨⟨s_⟩⟩)), (14, .v (.int .i64 at_))]) (B' := []) (by kernel_rfl) fun ρ w a hX => ?_
  obtain ⟨v1, hv1, h0⟩ := bnd_some h0
  refine hX.idxStr (lit := []) (by kernel_rfl) (by kernel_rfl) rfl (s := s_) (k := .i64) (n := at_) (b := v1) (by kernel_rfl) (by kernel_rfl) (by kernel_rfl) hv1 fun a hX => ?_
  refine hX.part [] 0 [0, 1, 15] (l' := [(0, .v (.string ⟨⟨s_⟩⟩)), (1, .v (.int .i64 at_)), (15, .v (.int .u8 v1))]) (B' := []) (by kernel_rfl) fun ρ w a hX => ?_
  refine wpList_end ?_
  refine hK6 _ _ ?_
  refine wp_block ?_
  refine Cx.rseq hX [] [0, 1, 15, 16] (l' := [(0, .v (.string ⟨⟨s_⟩⟩)), (1, .v (.int .i64 at_)), (15, .v (.int .u8 v1)), (16, .v (.bool (v1 == 10)))]) (B' := []) (by kernel_rfl) fun ρ w a hX => ?_
  refine Cx.cond hX (b := (v1 == 10)) (by kernel_rfl) (fun hb => ?_) (fun hb => ?_)
  ·have h0 := ite_tt h0 hb
   refine Cx.rseq hX [] [4, 5] (l' := [(4, .v (.slice none 0 0)), (5, .v (.int .i64 1))]) (B' := []) (by kernel_rfl) fun ρ w a hX => ?_
   refine wp_ret ?_
   have hX := hX.nilSl 4 (kInt .i64) (by kernel_rfl)
   have hr := Option.some.inj (show some _ = some _ from h0)
   subst hr
   exact hX.ret0 (ss := [SV.sl (kInt .i64) ([] : List Int) none 0, .v (.int .i64 1)]) (by kernel_rfl) (by kernel_rfl) ⟨_, _, rfl, ⟨_, _, rfl⟩, rfl⟩
  ·have h0 := ite_ff h0 hb
   refine Cx.rseq hX [] [0, 1, 15, 18] (l' := [(0, .v (.string ⟨⟨s_⟩⟩)), (1, .v (.int .i64 at_)), (15, .v (.int .u8 v1)), (18, .v (.bool (v1 == 48)))]) (B' := []) (by kernel_rfl) fun ρ w a hX => ?_
   refine Cx.cond hX (b := (v1 == 48)) (by kernel_rfl) (fun hb => ?_) (fun hb => ?_)
   ·have h0 := ite_tt h0 hb
    refine wp_seq_k fun K10 hK10 => ?_
    refine wp_seq_k fun K11 hK11 => ?_
    have J11 : ∀ (x4 : Bool), ref01_escaped.j1 x4 = some r → ∀ (ρ : Nat → Nat) (w : World) (F : Heap) (a : Act), Cx 68 w0 F0 No w F [] [] ρ [(38, .v (.bool x4))] a → K11 a w := by
     intro x4 h0  ρ w F a hX
     unfold ref01_escaped.j1 at h0
     refine hK11 _ _ ?_
     refine Cx.cond hX (b := x4) (by kernel_rfl) (fun hb => ?_) (fun hb => ?_)
     ·have h0 := ite_tt h0 hb
      refine Cx.rseq hX [] [4, 5] (l' := [(4, .v (.slice none 0 0)), (5, .v (.int .i64 (-1)))]) (B' := []) (by kernel_rfl) fun ρ w a hX => ?_
      refine wp_ret ?_
      have hX := hX.nilSl 4 (kInt .i64) (by kernel_rfl)
      have hr := Option.some.inj (show some _ = some _ from h0)
      subst hr
      exact hX.ret0 (ss := [SV.sl (kInt .i64) ([] : List Int) none 0, .v (.int .i64 (-1))]) (by kernel_rfl) (by kernel_rfl) ⟨_, _, rfl, ⟨_, _, rfl⟩, rfl⟩
     ·have h0 := ite_ff h0 hb
      refine wp_skip ?_
      refine hK10 _ _ ?_
      refine Cx.rseq hX [] [4, 5] (l' := [(4, .slc 0 0 1 1), (5, .v (.int .i64 1))]) (B' := [some ⟨3, [.v (.int .i64 0)]⟩]) (by kernel_rfl) fun ρ w a hX => ?_
      refine wp_ret ?_
      obtain ⟨b5, hb, hX⟩ := hX.boxAcc2 (d := (kInt .i64)) (e := 3) (k := 0) (t := 4) (m := 1) ([(0, ())] : List (Int × ((kInt .i64)).Y)) (by kernel_rfl) (by kernel_rfl) rfl rfl (by decide) ⟨_, rfl⟩
      have hX : Cx 68 _ _ _ _ _ [accP 3 (kInt .i64) (some ⟨b5, 0, none⟩) 1 ([0] : List Int)] [none] ρ _ a := hX
      obtain ⟨F, hX⟩ := hX.freeze (i := 0) (t := 4) (e := 3) (d := (kInt .i64)) (A := (some ⟨b5, 0, none⟩)) (c := 1) (xs := ([0] : List Int)) rfl (by kernel_rfl)
      have hX : Cx 68 _ _ _ _ _ [] [none] ρ _ a := hX
      have hr := Option.some.inj (show some _ = some _ from h0)
      subst hr
      exact hX.ret0 (ss := [SV.sl (kInt .i64) ([0] : List Int) (some ⟨b5, 0, none⟩) 1, .v (.int .i64 1)]) (by kernel_rfl) (by kernel_rfl) ⟨_, _, rfl, ⟨_, _, rfl⟩, rfl⟩
    refine wp_region_list ?_
    refine hX.part [] 6 [0, 1, 25] (l' := [(0, .v (.string ⟨⟨s_⟩⟩)), (1, .v (.int .i64 at_)), (25, .v (.bool (decide ((IntKind.wrap .i64 (at_ + 1)) < ((s_.length : Nat) : Int)))))]) (B' := []) (by kernel_rfl) fun ρ w a hX => ?_
    refine ite_go h0 (fun hb h0 => ?_) (fun hb h0 => ?_)
    ·have hX := hX.relit 25 hb (by kernel_rfl)
     refine hX.part [5] 3 [0, 1, 25, 26, 28] (l' := [(0, .v (.string ⟨⟨s_⟩⟩)), (1, .v (.int .i64 at_)), (25, .v (.bool true)), (26, .v (.string ⟨⟨s_⟩⟩)), (28, .v (.int .i64 (IntKind.wrap .i64 (at_ + 1))))]) (B' := []) (by kernel_rfl) fun ρ w a hX => ?_
     obtain ⟨v2, hv2, h0⟩ := bnd_some h0
     refine hX.idxStr (lit := [5]) (by kernel_rfl) (by kernel_rfl) rfl (s := s_) (k := .i64) (n := (IntKind.wrap .i64 (at_ + 1))) (b := v2) (by kernel_rfl) (by kernel_rfl) (by kernel_rfl) hv2 fun a hX => ?_
     refine hX.part [5] 3 [0, 1, 32] (l' := [(0, .v (.string ⟨⟨s_⟩⟩)), (1, .v (.int .i64 at_)), (32, .v (.bool (decide (v2 ≥ 48))))]) (B' := []) (by kernel_rfl) fun ρ w a hX => ?_
     refine ite_go h0 (fun hb h0 => ?_) (fun hb h0 => ?_)
     ·have hX := hX.relit 32 hb (by kernel_rfl)
      refine hX.part [12] 3 [32, 33, 35] (l' := [(32, .v (.bool true)), (33, .v (.string ⟨⟨s_⟩⟩)), (35, .v (.int .i64 (IntKind.wrap .i64 (at_ + 1))))]) (B' := []) (by kernel_rfl) fun ρ w a hX => ?_
      obtain ⟨v3, hv3, h0⟩ := bnd_some h0
      refine hX.idxStr (lit := [12]) (by kernel_rfl) (by kernel_rfl) rfl (s := s_) (k := .i64) (n := (IntKind.wrap .i64 (at_ + 1))) (b := v3) (by kernel_rfl) (by kernel_rfl) (by kernel_rfl) hv3 fun a hX => ?_
      refine hX.part [12] 2 [38] (l' := [(38, .v (.bool (decide (v3 ≤ 57))))]) (B' := []) (by kernel_rfl) fun ρ w a hX => ?_
      refine wpList_end ?_
      have hX := hX.keeps [38] (l' := [(38, .v (.bool (decide (v3 ≤ 57))))]) (by kernel_rfl)
      exact J11 (decide (v3 ≤ 57)) h0  _ _ _ _ hX
     ·have hX := hX.relit 32 hb (by kernel_rfl)
      refine hX.part [12] 6 [38] (l' := [(38, .v (.bool false))]) (B' := []) (by kernel_rfl) fun ρ w a hX => ?_
      refine wpList_end ?_
      have hX := hX.keeps [38] (l' := [(38, .v (.bool false))]) (by kernel_rfl)
      exact J11 false h0  _ _ _ _ hX
    ·have hX := hX.relit 25 hb (by kernel_rfl)
     refine hX.part [5, 12] 13 [38] (l' := [(38, .v (.bool false))]) (B' := []) (by kernel_rfl) fun ρ w a hX => ?_
     refine wpList_end ?_
     have hX := hX.keeps [38] (l' := [(38, .v (.bool false))]) (by kernel_rfl)
     exact J11 false h0  _ _ _ _ hX
   ·have h0 := ite_ff h0 hb
    refine Cx.rseq hX [] [0, 1, 15, 40] (l' := [(0, .v (.string ⟨⟨s_⟩⟩)), (1, .v (.int .i64 at_)), (15, .v (.int .u8 v1)), (40, .v (.bool (v1 == 120)))]) (B' := []) (by kernel_rfl) fun ρ w a hX => ?_
    refine Cx.cond hX (b := (v1 == 120)) (by kernel_rfl) (fun hb => ?_) (fun hb => ?_)
    ·have h0 := ite_tt h0 hb
     refine wp_seq_k fun K15 hK15 => ?_
     refine wp_region_list ?_
     refine hX.part [] 3 [42, 44] (l' := [(42, .v (.string ⟨⟨s_⟩⟩)), (44, .v (.int .i64 (IntKind.wrap .i64 (at_ + 1))))]) (B' := []) (by kernel_rfl) fun ρ w a hX => ?_
     obtain ⟨v6, hv6, h0⟩ := bnd_some h0
     refine Cx.call0 hX (lit := []) (by kernel_rfl) rfl (by kernel_rfl) ⟨⟨_, Tryz.func67, by kernel_rfl, rfl⟩⟩ (ss := [.v (.string ⟨⟨s_⟩⟩), .v (.int .i64 (IntKind.wrap .i64 (at_ + 1))), .v (.int .i64 2)]) (by kernel_rfl) [.v (.string ⟨⟨s_⟩⟩), .v (.int .i64 (IntKind.wrap .i64 (at_ + 1))), .v (.int .i64 2)] rfl (fun hg => hg) (fun hv hle hg => ref01_digits.ok s_ (IntKind.wrap .i64 (at_ + 1)) 2 v6 hv6 _ _ hv (hG.mono hle) hg _) (fun s F w a hp hX => ?_)
     subst hp
     refine hX.part [] 1 [6] (l' := [(6, .v (.int .i64 v6))]) (B' := []) (by kernel_rfl) fun ρ w a hX => ?_
     refine wpList_end ?_
     refine hK15 _ _ ?_
     refine wp_seq_k fun K16 hK16 => ?_
     refine Cx.rseq hX [] [6, 47] (l' := [(6, .v (.int .i64 v6)), (47, .v (.bool (decide (v6 < 0))))]) (B' := []) (by kernel_rfl) fun ρ w a hX => ?_
     refine Cx.cond hX (b := (decide (v6 < 0))) (by kernel_rfl) (fun hb => ?_) (fun hb => ?_)
     ·have h0 := ite_tt h0 hb
      refine Cx.rseq hX [] [4, 5] (l' := [(4, .v (.slice none 0 0)), (5, .v (.int .i64 (-1)))]) (B' := []) (by kernel_rfl) fun ρ w a hX => ?_
      refine wp_ret ?_
      have hX := hX.nilSl 4 (kInt .i64) (by kernel_rfl)
      have hr := Option.some.inj (show some _ = some _ from h0)
      subst hr
      exact hX.ret0 (ss := [SV.sl (kInt .i64) ([] : List Int) none 0, .v (.int .i64 (-1))]) (by kernel_rfl) (by kernel_rfl) ⟨_, _, rfl, ⟨_, _, rfl⟩, rfl⟩
     ·have h0 := ite_ff h0 hb
      refine wp_skip ?_
      refine hK16 _ _ ?_
      refine Cx.rseq hX [] [4, 5] (l' := [(4, .slc 0 0 1 1), (5, .v (.int .i64 3))]) (B' := [some ⟨3, [.v (.int .i64 v6)]⟩]) (by kernel_rfl) fun ρ w a hX => ?_
      refine wp_ret ?_
      obtain ⟨b7, hb, hX⟩ := hX.boxAcc2 (d := (kInt .i64)) (e := 3) (k := 0) (t := 4) (m := 1) ([(v6, ())] : List (Int × ((kInt .i64)).Y)) (by kernel_rfl) (by kernel_rfl) rfl rfl (by decide) ⟨_, rfl⟩
      have hX : Cx 68 _ _ _ _ _ [accP 3 (kInt .i64) (some ⟨b7, 0, none⟩) 1 ([v6] : List Int)] [none] ρ _ a := hX
      obtain ⟨F, hX⟩ := hX.freeze (i := 0) (t := 4) (e := 3) (d := (kInt .i64)) (A := (some ⟨b7, 0, none⟩)) (c := 1) (xs := ([v6] : List Int)) rfl (by kernel_rfl)
      have hX : Cx 68 _ _ _ _ _ [] [none] ρ _ a := hX
      have hr := Option.some.inj (show some _ = some _ from h0)
      subst hr
      exact hX.ret0 (ss := [SV.sl (kInt .i64) ([v6] : List Int) (some ⟨b7, 0, none⟩) 1, .v (.int .i64 3)]) (by kernel_rfl) (by kernel_rfl) ⟨_, _, rfl, ⟨_, _, rfl⟩, rfl⟩
    ·have h0 := ite_ff h0 hb
     refine Cx.rseq hX [] [0, 1, 50] (l' := [(0, .v (.string ⟨⟨s_⟩⟩)), (1, .v (.int .i64 at_)), (50, .v (.bool (v1 == 117)))]) (B' := []) (by kernel_rfl) fun ρ w a hX => ?_
     refine Cx.cond hX (b := (v1 == 117)) (by kernel_rfl) (fun hb => ?_) (fun hb => ?_)
     ·have h0 := ite_tt h0 hb
      refine wp_seq_k fun K21 hK21 => ?_
      refine wp_region_list ?_
      refine hX.part [] 3 [52, 54] (l' := [(52, .v (.string ⟨⟨s_⟩⟩)), (54, .v (.int .i64 (IntKind.wrap .i64 (at_ + 1))))]) (B' := []) (by kernel_rfl) fun ρ w a hX => ?_
      obtain ⟨v8, hv8, h0⟩ := bnd_some h0
      refine Cx.call0 hX (lit := []) (by kernel_rfl) rfl (by kernel_rfl) ⟨⟨_, Tryz.func67, by kernel_rfl, rfl⟩⟩ (ss := [.v (.string ⟨⟨s_⟩⟩), .v (.int .i64 (IntKind.wrap .i64 (at_ + 1))), .v (.int .i64 4)]) (by kernel_rfl) [.v (.string ⟨⟨s_⟩⟩), .v (.int .i64 (IntKind.wrap .i64 (at_ + 1))), .v (.int .i64 4)] rfl (fun hg => hg) (fun hv hle hg => ref01_digits.ok s_ (IntKind.wrap .i64 (at_ + 1)) 4 v8 hv8 _ _ hv (hG.mono hle) hg _) (fun s F w a hp hX => ?_)
      subst hp
      refine hX.part [] 1 [7] (l' := [(7, .v (.int .i64 v8))]) (B' := []) (by kernel_rfl) fun ρ w a hX => ?_
      refine wpList_end ?_
      refine hK21 _ _ ?_
      refine wp_seq_k fun K22 hK22 => ?_
      refine Cx.rseq hX [] [7, 57] (l' := [(7, .v (.int .i64 v8)), (57, .v (.bool (decide (v8 < 0))))]) (B' := []) (by kernel_rfl) fun ρ w a hX => ?_
      refine Cx.cond hX (b := (decide (v8 < 0))) (by kernel_rfl) (fun hb => ?_) (fun hb => ?_)
      ·have h0 := ite_tt h0 hb
       refine Cx.rseq hX [] [4, 5] (l' := [(4, .v (.slice none 0 0)), (5, .v (.int .i64 (-1)))]) (B' := []) (by kernel_rfl) fun ρ w a hX => ?_
       refine wp_ret ?_
       have hX := hX.nilSl 4 (kInt .i64) (by kernel_rfl)
       have hr := Option.some.inj (show some _ = some _ from h0)
       subst hr
       exact hX.ret0 (ss := [SV.sl (kInt .i64) ([] : List Int) none 0, .v (.int .i64 (-1))]) (by kernel_rfl) (by kernel_rfl) ⟨_, _, rfl, ⟨_, _, rfl⟩, rfl⟩
      ·have h0 := ite_ff h0 hb
       refine wp_skip ?_
       refine hK22 _ _ ?_
       refine Cx.rseq hX [] [4, 5] (l' := [(4, .slc 0 0 1 1), (5, .v (.int .i64 5))]) (B' := [some ⟨3, [.v (.int .i64 v8)]⟩]) (by kernel_rfl) fun ρ w a hX => ?_
       refine wp_ret ?_
       obtain ⟨b9, hb, hX⟩ := hX.boxAcc2 (d := (kInt .i64)) (e := 3) (k := 0) (t := 4) (m := 1) ([(v8, ())] : List (Int × ((kInt .i64)).Y)) (by kernel_rfl) (by kernel_rfl) rfl rfl (by decide) ⟨_, rfl⟩
       have hX : Cx 68 _ _ _ _ _ [accP 3 (kInt .i64) (some ⟨b9, 0, none⟩) 1 ([v8] : List Int)] [none] ρ _ a := hX
       obtain ⟨F, hX⟩ := hX.freeze (i := 0) (t := 4) (e := 3) (d := (kInt .i64)) (A := (some ⟨b9, 0, none⟩)) (c := 1) (xs := ([v8] : List Int)) rfl (by kernel_rfl)
       have hX : Cx 68 _ _ _ _ _ [] [none] ρ _ a := hX
       have hr := Option.some.inj (show some _ = some _ from h0)
       subst hr
       exact hX.ret0 (ss := [SV.sl (kInt .i64) ([v8] : List Int) (some ⟨b9, 0, none⟩) 1, .v (.int .i64 5)]) (by kernel_rfl) (by kernel_rfl) ⟨_, _, rfl, ⟨_, _, rfl⟩, rfl⟩
     ·have h0 := ite_ff h0 hb
      refine wp_skip ?_
      refine hK5 _ _ ?_
      refine wp_seq_k fun K26 hK26 => ?_
      refine wp_region_list ?_
      refine hX.part [] 2 [60, 61] (l' := [(60, .v (.string ⟨⟨s_⟩⟩)), (61, .v (.int .i64 at_))]) (B' := []) (by kernel_rfl) fun ρ w a hX => ?_
      obtain ⟨v10, hv10, h0⟩ := bnd_some h0
      refine hX.idxStr (lit := []) (by kernel_rfl) (by kernel_rfl) rfl (s := s_) (k := .i64) (n := at_) (b := v10) (by kernel_rfl) (by kernel_rfl) (by kernel_rfl) hv10 fun a hX => ?_
      refine hX.part [] 0 [62] (l' := [(62, .v (.int .u8 v10))]) (B' := []) (by kernel_rfl) fun ρ w a hX => ?_
      obtain ⟨v11, hv11, h0⟩ := bnd_some h0
      refine Cx.call0 hX (lit := []) (by kernel_rfl) rfl (by kernel_rfl) ⟨⟨_, Tryz.func68, by kernel_rfl, rfl⟩⟩ (ss := [.v (.int .u8 v10)]) (by kernel_rfl) [.v (.int .u8 v10)] rfl (fun hg => hg) (fun hv hle hg => ref01_simple.ok v10 v11 hv11 _ _ hv (hG.mono hle) hg _) (fun s F w a hp hX => ?_)
      subst hp
      refine hX.part [] 1 [8] (l' := [(8, .v (.int .i64 v11))]) (B' := []) (by kernel_rfl) fun ρ w a hX => ?_
      refine wpList_end ?_
      refine hK26 _ _ ?_
      refine wp_seq_k fun K27 hK27 => ?_
      refine Cx.rseq hX [] [8, 65] (l' := [(8, .v (.int .i64 v11)), (65, .v (.bool (decide (v11 < 0))))]) (B' := []) (by kernel_rfl) fun ρ w a hX => ?_
      refine Cx.cond hX (b := (decide (v11 < 0))) (by kernel_rfl) (fun hb => ?_) (fun hb => ?_)
      ·have h0 := ite_tt h0 hb
       refine Cx.rseq hX [] [4, 5] (l' := [(4, .v (.slice none 0 0)), (5, .v (.int .i64 (-1)))]) (B' := []) (by kernel_rfl) fun ρ w a hX => ?_
       refine wp_ret ?_
       have hX := hX.nilSl 4 (kInt .i64) (by kernel_rfl)
       have hr := Option.some.inj (show some _ = some _ from h0)
       subst hr
       exact hX.ret0 (ss := [SV.sl (kInt .i64) ([] : List Int) none 0, .v (.int .i64 (-1))]) (by kernel_rfl) (by kernel_rfl) ⟨_, _, rfl, ⟨_, _, rfl⟩, rfl⟩
      ·have h0 := ite_ff h0 hb
       refine wp_skip ?_
       refine hK27 _ _ ?_
       refine Cx.rseq hX [] [4, 5] (l' := [(4, .slc 0 0 1 1), (5, .v (.int .i64 1))]) (B' := [some ⟨3, [.v (.int .i64 v11)]⟩]) (by kernel_rfl) fun ρ w a hX => ?_
       refine wp_ret ?_
       obtain ⟨b12, hb, hX⟩ := hX.boxAcc2 (d := (kInt .i64)) (e := 3) (k := 0) (t := 4) (m := 1) ([(v11, ())] : List (Int × ((kInt .i64)).Y)) (by kernel_rfl) (by kernel_rfl) rfl rfl (by decide) ⟨_, rfl⟩
       have hX : Cx 68 _ _ _ _ _ [accP 3 (kInt .i64) (some ⟨b12, 0, none⟩) 1 ([v11] : List Int)] [none] ρ _ a := hX
       obtain ⟨F, hX⟩ := hX.freeze (i := 0) (t := 4) (e := 3) (d := (kInt .i64)) (A := (some ⟨b12, 0, none⟩)) (c := 1) (xs := ([v11] : List Int)) rfl (by kernel_rfl)
       have hX : Cx 68 _ _ _ _ _ [] [none] ρ _ a := hX
       have hr := Option.some.inj (show some _ = some _ from h0)
       subst hr
       exact hX.ret0 (ss := [SV.sl (kInt .i64) ([v11] : List Int) (some ⟨b12, 0, none⟩) 1, .v (.int .i64 1)]) (by kernel_rfl) (by kernel_rfl) ⟨_, _, rfl, ⟨_, _, rfl⟩, rfl⟩
def ref01_Read.l1 (s_ : Str) (s : Int × (List Int)) : Option ((Int × (List Int)) ⊕ ((Unit) ⊕ (Str × Int × Int))) := match s with
  | (x16, x17) =>
  if (decide (x16 < ((s_.length : Nat) : Int))) = true then
    Option.bind (getB s_ x16) fun v20 =>
    Option.bind (getB s_ 0) fun v21 =>
    if (v20 == v21) = true then
      Option.bind (ref01_Make x17) fun v22 =>
      some (.inr (.inr (v22, (IntKind.wrap .i64 (x16 + 1)), 0)))
    else
      if (((v20 == 10) || (v20 == 13)) || (decide (v20 > 127))) = true then
        some (.inr (.inr (([] : Str), 0, 10)))
      else
        if (v20 == 92) = true then
          Option.bind (ref01_escaped s_ (IntKind.wrap .i64 (x16 + 1))) fun v23 =>
          if (decide (v23.2 < 0)) = true then
            some (.inr (.inr (([] : Str), 0, 10)))
          else
            Option.bind (room (x17.length + v23.1.length)) fun u28 =>
            some (.inl ((IntKind.wrap .i64 (x16 + (IntKind.wrap .i64 (1 + v23.2)))), (x17 ++ v23.1)))
        else
          Option.bind (room (x17.length + 1)) fun u31 =>
          some (.inl ((IntKind.wrap .i64 (x16 + 1)), (x17 ++ [(IntKind.wrap .i64 v20)])))
  else
    some (.inr (.inl ()))
def ref01_Read.j1 (s_ : Str) (x3 : Bool) : Option (Str × Int × Int) :=
  if x3 = true then
    some (([] : Str), 0, 10)
  else
    Option.bind (loopM (ref01_Read.l1 s_) (1, ([] : List Int))) fun e => match e with
    | (.inl ()) =>
      some (([] : Str), 0, 10)
    | (.inr r36) =>
      some r36
def ref01_Read (s_ : Str) : Option (Str × Int × Int) :=
  if (s_ == ([] : Str)) = true then
    ref01_Read.j1 s_ true
  else
    Option.bind (getB s_ 0) fun v1 =>
    if (v1 != 39) = true then
      Option.bind (getB s_ 0) fun v2 =>
      ref01_Read.j1 s_ (v2 != 34)
    else
      ref01_Read.j1 s_ false
theorem ref01_Read.ok (s_ : Str) (r : Str × Int × Int) (h0 : ref01_Read s_ = some r) (w0 : World) (F0 : Heap) (hv : F0.Sub w0) (hG : Glob F0) (hg : SV.goods F0 [.v (.string ⟨⟨s_⟩⟩)]) (ρ : Nat → Nat) :
    Calls Tryz.prog 41 (SV.dens ρ [.v (.string ⟨⟨s_⟩⟩)]).toArray w0 (Ret0 w0 F0 fun s => ∃ s1 s2 s3, s = .tup [s1, s2, s3] ∧ (s1 = .v (.string ⟨⟨r.1⟩⟩)) ∧ (s2 = .v (.int .i64 r.2.1)) ∧ (s3 = .v (.int .i64 r.2.2))) := by
 refine calls_of_wp Tryz.func41 rfl ?_
 have hX := Cx.enter (D := No) (B := []) (L := []) (ρ := ρ) (N := 75) Tryz.ntmps41 [.v (.string ⟨⟨s_⟩⟩)] (St.start hv) rfl hg (by kernel_rfl) (fun _ h => by cases h) (Nat.le_of_ble_eq_true rfl) No.unfix
 unfold ref01_Read at h0
 refine Cx.rseq hX [] [0] (l' := [(0, .v (.string ⟨⟨s_⟩⟩))]) (B' := []) (by kernel_rfl) fun ρ w a hX => ?_
 refine wp_seq_k fun K2 hK2 => ?_
 refine wp_seq_k fun K3 hK3 => ?_
 have J3 : ∀ (x3 : Bool), ref01_Read.j1 s_ x3 = some r → ∀ (ρ : Nat → Nat) (w : World) (F : Heap) (a : Act), Cx 75 w0 F0 No w F [] [] ρ [(0, .v (.string ⟨⟨s_⟩⟩)), (21, .v (.bool x3))] a → K3 a w := by
  intro x3 h0  ρ w F a hX
  unfold ref01_Read.j1 at h0
  refine hK3 _ _ ?_
  refine Cx.cond hX (b := x3) (by kernel_rfl) (fun hb => ?_) (fun hb => ?_)
  ·have h0 := ite_tt h0 hb
   refine Cx.rseq hX [] [2, 3, 4] (l' := [(2, .v (.string ⟨⟨([] : Str)⟩⟩)), (3, .v (.int .i64 0)), (4, .v (.int .i64 10))]) (B' := []) (by kernel_rfl) fun ρ w a hX => ?_
   refine wp_ret ?_
   have hr := Option.some.inj (show some _ = some _ from h0)
   subst hr
   exact hX.ret0 (ss := [.v (.string ⟨⟨([] : Str)⟩⟩), .v (.int .i64 0), .v (.int .i64 10)]) (by kernel_rfl) (by kernel_rfl) ⟨_, _, _, rfl, rfl, rfl, rfl⟩
  ·have h0 := ite_ff h0 hb
   refine wp_skip ?_
   refine hK2 _ _ ?_
   refine Cx.rseq hX [] [0, 5] (l' := [(0, .v (.string ⟨⟨s_⟩⟩)), (5, .v (.slice none 0 0))]) (B' := []) (by kernel_rfl) fun ρ w a hX => ?_
   refine wp_seq_k fun K6 hK6 => ?_
   refine Cx.rseq hX [] [0, 5, 6] (l' := [(0, .v (.string ⟨⟨s_⟩⟩)), (5, .v (.slice none 0 0)), (6, .v (.int .i64 1))]) (B' := []) (by kernel_rfl) fun ρ w a hX => ?_
   refine wp_block ?_
   have hX := hX.newAcc 3 (kInt .i64)
   have hX := hX.keeps [0, 5, 6] (l' := [(0, .v (.string ⟨⟨s_⟩⟩)), (5, .v (.slice none ([] : List Int).length 0)), (6, .v (.int .i64 1))]) (by kernel_rfl)
   obtain ⟨e1, he1, h0⟩ := bnd_some h0
   have E1x0 : ∀ (_ : Unit), e1 = (.inl ()) → ∀ (ρ : Nat → Nat) (w : World) (F : Heap) (a : Act), Cx 75 w0 F0 No w F [] [] ρ [] a → K6 a w := by
    intro _ he  ρ w F a hX
    replace he := he.symm
    subst he
    (try dsimp only at h0)
    refine hK6 _ _ ?_
    refine Cx.rseq hX [] [2, 3, 4] (l' := [(2, .v (.string ⟨⟨([] : Str)⟩⟩)), (3, .v (.int .i64 0)), (4, .v (.int .i64 10))]) (B' := []) (by kernel_rfl) fun ρ w a hX => ?_
    refine wp_ret ?_
    have hr := Option.some.inj (show some _ = some _ from h0)
    subst hr
    exact hX.ret0 (ss := [.v (.string ⟨⟨([] : Str)⟩⟩), .v (.int .i64 0), .v (.int .i64 10)]) (by kernel_rfl) (by kernel_rfl) ⟨_, _, _, rfl, rfl, rfl, rfl⟩
   refine loop_go (fun (s : Int × (List Int)) a w => match s with | (x16, x17) => ∃ (A18 : Option Addr) (c19 : Nat) (ρ : Nat → Nat) (F : Heap), Cx 75 w0 F0 No w F [accP 3 (kInt .i64) A18 c19 x17] [] ρ [(0, .v (.string ⟨⟨s_⟩⟩)), (5, .v (.slice A18 x17.length c19)), (6, .v (.int .i64 x16))] a) he1 (fun LW1 s o1 h1 hb1 hx1 a w hI => ?_) _ _ ?_
   ·obtain ⟨x16, x17⟩ := s
    obtain ⟨A18, c19, ρ, F, hX⟩ := hI
    unfold ref01_Read.l1 at h1
    (try dsimp only at h1)
    refine wp_seq_k fun K22 hK22 => ?_
    refine Cx.rseq hX [] [0, 5, 6, 25] (l' := [(0, .v (.string ⟨⟨s_⟩⟩)), (5, .v (.slice A18 x17.length c19)), (6, .v (.int .i64 x16)), (25, .v (.bool (decide (x16 < ((s_.length : Nat) : Int)))))]) (B' := []) (by kernel_rfl) fun ρ w a hX => ?_
    refine Cx.cond hX (b := (decide (x16 < ((s_.length : Nat) : Int)))) (by kernel_rfl) (fun hb => ?_) (fun hb => ?_)
    ·have h1 := ite_tt h1 hb
     refine wp_skip ?_
     refine hK22 _ _ ?_
     refine wp_block ?_
     refine wp_seq_k fun K24 hK24 => ?_
     refine wp_region_list ?_
     refine hX.part [] 2 [0, 5, 6, 26, 27] (l' := [(0, .v (.string ⟨⟨s_⟩⟩)), (5, .v (.slice A18 x17.length c19)), (6, .v (.int .i64 x16)), (26, .v (.string ⟨⟨s_⟩⟩)), (27, .v (.int .i64 x16))]) (B' := []) (by kernel_rfl) fun ρ w a hX => ?_
     obtain ⟨v20, hv20, h1⟩ := bnd_some h1
     refine hX.idxStr (lit := []) (by kernel_rfl) (by kernel_rfl) rfl (s := s_) (k := .i64) (n := x16) (b := v20) (by kernel_rfl) (by kernel_rfl) (by kernel_rfl) hv20 fun a hX => ?_
     refine hX.part [] 1 [0, 5, 6, 7] (l' := [(0, .v (.string ⟨⟨s_⟩⟩)), (5, .v (.slice A18 x17.length c19)), (6, .v (.int .i64 x16)), (7, .v (.int .u8 v20))]) (B' := []) (by kernel_rfl) fun ρ w a hX => ?_
     refine wpList_end ?_
     refine hK24 _ _ ?_
     refine wp_block ?_
     refine wp_seq_k fun K25 hK25 => ?_
     refine wp_region_list ?_
     refine hX.part [] 2 [0, 5, 6, 7, 37, 38] (l' := [(0, .v (.string ⟨⟨s_⟩⟩)), (5, .v (.slice A18 x17.length c19)), (6, .v (.int .i64 x16)), (7, .v (.int .u8 v20)), (37, .v (.int .u8 v20)), (38, .v (.string ⟨⟨s_⟩⟩))]) (B' := []) (by kernel_rfl) fun ρ w a hX => ?_
     obtain ⟨v21, hv21, h1⟩ := bnd_some h1
     refine hX.idxStr (lit := []) (by kernel_rfl) (by kernel_rfl) rfl (s := s_) (k := .i64) (n := 0) (b := v21) (by kernel_rfl) (by kernel_rfl) (by kernel_rfl) hv21 fun a hX => ?_
     refine hX.part [] 2 [0, 5, 6, 7, 36] (l' := [(0, .v (.string ⟨⟨s_⟩⟩)), (5, .v (.slice A18 x17.length c19)), (6, .v (.int .i64 x16)), (7, .v (.int .u8 v20)), (36, .v (.bool (v20 == v21)))]) (B' := []) (by kernel_rfl) fun ρ w a hX => ?_
     refine wpList_end ?_
     refine hK25 _ _ ?_
     refine Cx.cond hX (b := (v20 == v21)) (by kernel_rfl) (fun hb => ?_) (fun hb => ?_)
     ·have h1 := ite_tt h1 hb
      refine wp_seq_k fun K26 hK26 => ?_
      refine wp_region_list ?_
      refine hX.part [] 1 [6, 41] (l' := [(6, .v (.int .i64 x16)), (41, .v (.slice A18 x17.length c19))]) (B' := []) (by kernel_rfl) fun ρ w a hX => ?_
      obtain ⟨v22, hv22, h1⟩ := bnd_some h1
      obtain ⟨F, hX⟩ := hX.freeze (i := 0) (t := 41) (e := 3) (d := (kInt .i64)) (A := A18) (c := c19) (xs := x17) rfl (by kernel_rfl)
      have hX : Cx 75 _ _ _ _ _ [] [] ρ _ a := hX
      refine Cx.call0 hX (lit := []) (by kernel_rfl) rfl (by kernel_rfl) ⟨⟨_, Tryz.func56, by kernel_rfl, rfl⟩⟩ (ss := [SV.sl (kInt .i64) x17 A18 c19]) (by kernel_rfl) [SV.sl (kInt .i64) x17 A18 c19] rfl (fun hg => hg) (fun hv hle hg => ref01_Make.ok x17 (A18, c19) v22 hv22 _ _ hv (hG.mono hle) hg _) (fun s F w a hp hX => ?_)
      subst hp
      refine hX.part [] 5 [2, 3, 4] (l' := [(2, .v (.string ⟨⟨v22⟩⟩)), (3, .v (.int .i64 (IntKind.wrap .i64 (x16 + 1)))), (4, .v (.int .i64 0))]) (B' := []) (by kernel_rfl) fun ρ w a hX => ?_
      refine wpList_end ?_
      refine hK26 _ _ ?_
      refine wp_ret ?_
      have he := hx1 _ (out_eq h1)
      subst he
      (try dsimp only at h0)
      have hr := Option.some.inj (show some _ = some _ from h0)
      subst hr
      exact hX.ret0 (ss := [.v (.string ⟨⟨v22⟩⟩), .v (.int .i64 (IntKind.wrap .i64 (x16 + 1))), .v (.int .i64 0)]) (by kernel_rfl) (by kernel_rfl) ⟨_, _, _, rfl, rfl, rfl, rfl⟩
     ·have h1 := ite_ff h1 hb
      refine Cx.rseq hX [] [0, 5, 6, 7, 45] (l' := [(0, .v (.string ⟨⟨s_⟩⟩)), (5, .v (.slice A18 x17.length c19)), (6, .v (.int .i64 x16)), (7, .v (.int .u8 v20)), (45, .v (.bool (((v20 == 10) || (v20 == 13)) || (decide (v20 > 127)))))]) (B' := []) (by kernel_rfl) fun ρ w a hX => ?_
      refine Cx.cond hX (b := (((v20 == 10) || (v20 == 13)) || (decide (v20 > 127)))) (by kernel_rfl) (fun hb => ?_) (fun hb => ?_)
      ·have h1 := ite_tt h1 hb
       refine Cx.rseq hX [] [2, 3, 4] (l' := [(2, .v (.string ⟨⟨([] : Str)⟩⟩)), (3, .v (.int .i64 0)), (4, .v (.int .i64 10))]) (B' := []) (by kernel_rfl) fun ρ w a hX => ?_
       refine wp_ret ?_
       have he := hx1 _ (out_eq h1)
       subst he
       (try dsimp only at h0)
       have hr := Option.some.inj (show some _ = some _ from h0)
       subst hr
       exact hX.ret0 (ss := [.v (.string ⟨⟨([] : Str)⟩⟩), .v (.int .i64 0), .v (.int .i64 10)]) (by kernel_rfl) (by kernel_rfl) ⟨_, _, _, rfl, rfl, rfl, rfl⟩
      ·have h1 := ite_ff h1 hb
       refine Cx.rseq hX [] [0, 5, 6, 7, 56] (l' := [(0, .v (.string ⟨⟨s_⟩⟩)), (5, .v (.slice A18 x17.length c19)), (6, .v (.int .i64 x16)), (7, .v (.int .u8 v20)), (56, .v (.bool (v20 == 92)))]) (B' := []) (by kernel_rfl) fun ρ w a hX => ?_
       refine Cx.cond hX (b := (v20 == 92)) (by kernel_rfl) (fun hb => ?_) (fun hb => ?_)
       ·have h1 := ite_tt h1 hb
        refine wp_seq_k fun K30 hK30 => ?_
        refine wp_region_list ?_
        refine hX.part [] 3 [0, 5, 6, 60, 62] (l' := [(0, .v (.string ⟨⟨s_⟩⟩)), (5, .v (.slice A18 x17.length c19)), (6, .v (.int .i64 x16)), (60, .v (.string ⟨⟨s_⟩⟩)), (62, .v (.int .i64 (IntKind.wrap .i64 (x16 + 1))))]) (B' := []) (by kernel_rfl) fun ρ w a hX => ?_
        obtain ⟨v23, hv23, h1⟩ := bnd_some h1
        refine Cx.call0 hX (lit := []) (by kernel_rfl) rfl (by kernel_rfl) ⟨⟨_, Tryz.func57, by kernel_rfl, rfl⟩⟩ (ss := [.v (.string ⟨⟨s_⟩⟩), .v (.int .i64 (IntKind.wrap .i64 (x16 + 1)))]) (by kernel_rfl) [.v (.string ⟨⟨s_⟩⟩), .v (.int .i64 (IntKind.wrap .i64 (x16 + 1)))] rfl (fun hg => hg) (fun hv hle hg => ref01_escaped.ok s_ (IntKind.wrap .i64 (x16 + 1)) v23 hv23 _ _ hv (hG.mono hle) hg _) (fun s F w a hp hX => ?_)
        obtain ⟨_, _, rfl, ⟨A24, c25, rfl⟩, rfl⟩ := hp
        refine hX.part [] 5 [0, 5, 6, 8, 9] (l' := [(0, .v (.string ⟨⟨s_⟩⟩)), (5, .v (.slice A18 x17.length c19)), (6, .v (.int .i64 x16)), (8, SV.sl (kInt .i64) v23.1 A24 c25), (9, .v (.int .i64 v23.2))]) (B' := []) (by kernel_rfl) fun ρ w a hX => ?_
        refine wpList_end ?_
        refine hK30 _ _ ?_
        refine wp_seq_k fun K31 hK31 => ?_
        refine Cx.rseq hX [] [0, 5, 6, 8, 9, 67] (l' := [(0, .v (.string ⟨⟨s_⟩⟩)), (5, .v (.slice A18 x17.length c19)), (6, .v (.int .i64 x16)), (8, SV.sl (kInt .i64) v23.1 A24 c25), (9, .v (.int .i64 v23.2)), (67, .v (.bool (decide (v23.2 < 0))))]) (B' := []) (by kernel_rfl) fun ρ w a hX => ?_
        refine Cx.cond hX (b := (decide (v23.2 < 0))) (by kernel_rfl) (fun hb => ?_) (fun hb => ?_)
        ·have h1 := ite_tt h1 hb
         refine Cx.rseq hX [] [2, 3, 4] (l' := [(2, .v (.string ⟨⟨([] : Str)⟩⟩)), (3, .v (.int .i64 0)), (4, .v (.int .i64 10))]) (B' := []) (by kernel_rfl) fun ρ w a hX => ?_
         refine wp_ret ?_
         have he := hx1 _ (out_eq h1)
         subst he
         (try dsimp only at h0)
         have hr := Option.some.inj (show some _ = some _ from h0)
         subst hr
         exact hX.ret0 (ss := [.v (.string ⟨⟨([] : Str)⟩⟩), .v (.int .i64 0), .v (.int .i64 10)]) (by kernel_rfl) (by kernel_rfl) ⟨_, _, _, rfl, rfl, rfl, rfl⟩
        ·have h1 := ite_ff h1 hb
         refine wp_skip ?_
         refine hK31 _ _ ?_
         refine wp_seq_k fun K34 hK34 => ?_
         refine wp_region_list ?_
         refine hX.part [] 2 [0, 5, 6, 9, 68, 69] (l' := [(0, .v (.string ⟨⟨s_⟩⟩)), (5, .v (.slice A18 x17.length c19)), (6, .v (.int .i64 x16)), (9, .v (.int .i64 v23.2)), (68, .v (.slice A18 x17.length c19)), (69, SV.sl (kInt .i64) v23.1 A24 c25)]) (B' := []) (by kernel_rfl) fun ρ w a hX => ?_
         obtain ⟨u28, hu28, h1⟩ := bnd_some h1
         refine hX.appSl (d := (kInt .i64)) (bytes := 8) (A2 := A24) (c2 := c25) (ys := v23.1) (lit := []) (i := 0) (e := 3) (xs := x17) (A := A18) (c := c19) (by kernel_rfl) (by kernel_rfl) rfl rfl (by kernel_rfl) (by kernel_rfl) (by kernel_rfl) (by kernel_rfl) (by decide) hu28 fun A26 c27 w a hX => ?_
         have hX : Cx 75 _ _ _ _ _ [accP 3 (kInt .i64) A26 c27 (x17 ++ v23.1)] [] ρ _ a := hX
         refine hX.part [] 1 [0, 5, 6, 9] (l' := [(0, .v (.string ⟨⟨s_⟩⟩)), (5, .v (.slice A26 (x17 ++ v23.1).length c27)), (6, .v (.int .i64 x16)), (9, .v (.int .i64 v23.2))]) (B' := []) (by kernel_rfl) fun ρ w a hX => ?_
         refine wpList_end ?_
         refine hK34 _ _ ?_
         refine Cx.region hX [] [0, 5, 6] (l' := [(0, .v (.string ⟨⟨s_⟩⟩)), (5, .v (.slice A26 (x17 ++ v23.1).length c27)), (6, .v (.int .i64 (IntKind.wrap .i64 (x16 + (IntKind.wrap .i64 (1 + v23.2))))))]) (B' := []) (by kernel_rfl) fun ρ w a hX => ?_
         have hX := hX.keeps [0, 5, 6] (l' := [(0, .v (.string ⟨⟨s_⟩⟩)), (5, .v (.slice A26 (x17 ++ v23.1).length c27)), (6, .v (.int .i64 (IntKind.wrap .i64 (x16 + (IntKind.wrap .i64 (1 + v23.2))))))]) (by kernel_rfl)
         exact hb1 ((IntKind.wrap .i64 (x16 + (IntKind.wrap .i64 (1 + v23.2)))), (x17 ++ v23.1)) (out_eq h1) _ _ ⟨A26, c27, _, _, hX⟩
       ·have h1 := ite_ff h1 hb
        refine wp_seq_k fun K35 hK35 => ?_
        refine wp_region_list ?_
        refine hX.part [] 4 [0, 5, 6, 29, 32] (l' := [(0, .v (.string ⟨⟨s_⟩⟩)), (5, .v (.slice A18 x17.length c19)), (6, .v (.int .i64 x16)), (29, .v (.slice A18 x17.length c19)), (32, .slc 0 0 1 1)]) (B' := [some ⟨3, [.v (.int .i64 (IntKind.wrap .i64 v20))]⟩]) (by kernel_rfl) fun ρ w a hX => ?_
        obtain ⟨u31, hu31, h1⟩ := bnd_some h1
        refine hX.appLit (d := (kInt .i64)) (k := 0) (m := 1) (bytes := 8) (cells := [.v (.int .i64 (IntKind.wrap .i64 v20))]) (lit := []) (i := 0) (e := 3) (xs := x17) (A := A18) (c := c19) ([((IntKind.wrap .i64 v20), ())] : List (Int × ((kInt .i64)).Y)) (by kernel_rfl) (by kernel_rfl) rfl rfl (by kernel_rfl) (by kernel_rfl) (by kernel_rfl) (by kernel_rfl) (by kernel_rfl) rfl rfl (by decide) hu31 ⟨_, rfl⟩ fun A29 c30 w a hX => ?_
        have hX : Cx 75 _ _ _ _ _ [accP 3 (kInt .i64) A29 c30 (x17 ++ [(IntKind.wrap .i64 v20)])] [some ⟨3, [.v (.int .i64 (IntKind.wrap .i64 v20))]⟩] ρ _ a := hX
        refine hX.part [] 1 [0, 5, 6] (l' := [(0, .v (.string ⟨⟨s_⟩⟩)), (5, .v (.slice A29 (x17 ++ [(IntKind.wrap .i64 v20)]).length c30)), (6, .v (.int .i64 x16))]) (B' := [some ⟨3, [.v (.int .i64 (IntKind.wrap .i64 v20))]⟩]) (by kernel_rfl) fun ρ w a hX => ?_
        refine wpList_end ?_
        refine hK35 _ _ ?_
        refine Cx.region hX [] [0, 5, 6] (l' := [(0, .v (.string ⟨⟨s_⟩⟩)), (5, .v (.slice A29 (x17 ++ [(IntKind.wrap .i64 v20)]).length c30)), (6, .v (.int .i64 (IntKind.wrap .i64 (x16 + 1))))]) (B' := [some ⟨3, [.v (.int .i64 (IntKind.wrap .i64 v20))]⟩]) (by kernel_rfl) fun ρ w a hX => ?_
        have hX := hX.keeps [0, 5, 6] (l' := [(0, .v (.string ⟨⟨s_⟩⟩)), (5, .v (.slice A29 (x17 ++ [(IntKind.wrap .i64 v20)]).length c30)), (6, .v (.int .i64 (IntKind.wrap .i64 (x16 + 1))))]) (by kernel_rfl)
        have hX := hX.shrink 0 (B' := []) (by kernel_rfl) (Nat.le_of_ble_eq_true rfl) (by kernel_rfl) (by kernel_rfl) (Nat.zero_le _)
        exact hb1 ((IntKind.wrap .i64 (x16 + 1)), (x17 ++ [(IntKind.wrap .i64 v20)])) (out_eq h1) _ _ ⟨A29, c30, _, _, hX⟩
    ·have h1 := ite_ff h1 hb
     refine wp_exit ?_
     have hX := hX.dropL 0 rfl rfl
     have hX := hX.keeps [] (l' := []) (by kernel_rfl)
     exact E1x0 () (hx1 _ (out_eq h1)).symm  _ _ _ _ hX
   ·exact ⟨none, 0, _, _, hX⟩
 refine wp_region_list ?_
 refine hX.part [] 3 [0, 12] (l' := [(0, .v (.string ⟨⟨s_⟩⟩)), (12, .v (.bool (s_ == ([] : Str))))]) (B' := []) (by kernel_rfl) fun ρ w a hX => ?_
 refine ite_go h0 (fun hb h0 => ?_) (fun hb h0 => ?_)
 ·have hX := hX.relit 12 hb (by kernel_rfl)
  refine hX.part [2, 6] 9 [0, 21] (l' := [(0, .v (.string ⟨⟨s_⟩⟩)), (21, .v (.bool true))]) (B' := []) (by kernel_rfl) fun ρ w a hX => ?_
  refine wpList_end ?_
  have hX := hX.keeps [0, 21] (l' := [(0, .v (.string ⟨⟨s_⟩⟩)), (21, .v (.bool true))]) (by kernel_rfl)
  exact J3 true h0  _ _ _ _ hX
 ·have hX := hX.relit 12 hb (by kernel_rfl)
  refine hX.part [2] 1 [0, 12, 13] (l' := [(0, .v (.string ⟨⟨s_⟩⟩)), (12, .v (.bool false)), (13, .v (.string ⟨⟨s_⟩⟩))]) (B' := []) (by kernel_rfl) fun ρ w a hX => ?_
  obtain ⟨v1, hv1, h0⟩ := bnd_some h0
  refine hX.idxStr (lit := [2]) (by kernel_rfl) (by kernel_rfl) rfl (s := s_) (k := .i64) (n := 0) (b := v1) (by kernel_rfl) (by kernel_rfl) (by kernel_rfl) hv1 fun a hX => ?_
  refine hX.part [2] 2 [0, 12, 16] (l' := [(0, .v (.string ⟨⟨s_⟩⟩)), (12, .v (.bool false)), (16, .v (.bool (v1 != 39)))]) (B' := []) (by kernel_rfl) fun ρ w a hX => ?_
  refine ite_go h0 (fun hb h0 => ?_) (fun hb h0 => ?_)
  ·have hX := hX.relit 16 hb (by kernel_rfl)
   refine hX.part [6] 1 [0, 12, 16, 17] (l' := [(0, .v (.string ⟨⟨s_⟩⟩)), (12, .v (.bool false)), (16, .v (.bool true)), (17, .v (.string ⟨⟨s_⟩⟩))]) (B' := []) (by kernel_rfl) fun ρ w a hX => ?_
   obtain ⟨v2, hv2, h0⟩ := bnd_some h0
   refine hX.idxStr (lit := [6]) (by kernel_rfl) (by kernel_rfl) rfl (s := s_) (k := .i64) (n := 0) (b := v2) (by kernel_rfl) (by kernel_rfl) (by kernel_rfl) hv2 fun a hX => ?_
   refine hX.part [2, 6] 3 [0, 21] (l' := [(0, .v (.string ⟨⟨s_⟩⟩)), (21, .v (.bool (v2 != 34)))]) (B' := []) (by kernel_rfl) fun ρ w a hX => ?_
   refine wpList_end ?_
   have hX := hX.keeps [0, 21] (l' := [(0, .v (.string ⟨⟨s_⟩⟩)), (21, .v (.bool (v2 != 34)))]) (by kernel_rfl)
   exact J3 (v2 != 34) h0  _ _ _ _ hX
  ·have hX := hX.relit 16 hb (by kernel_rfl)
   refine hX.part [2, 6] 5 [0, 21] (l' := [(0, .v (.string ⟨⟨s_⟩⟩)), (21, .v (.bool false))]) (B' := []) (by kernel_rfl) fun ρ w a hX => ?_
   refine wpList_end ?_
   have hX := hX.keeps [0, 21] (l' := [(0, .v (.string ⟨⟨s_⟩⟩)), (21, .v (.bool false))]) (by kernel_rfl)
   exact J3 false h0  _ _ _ _ hX
def ref06_signs : Option ((List Str)) :=
  some ([([61, 61, 61] : Str), ([33, 61, 61] : Str), ([60, 61] : Str), ([62, 61] : Str), ([61, 61] : Str), ([33, 61] : Str), ([43, 43] : Str), ([45, 45] : Str), ([38, 38] : Str), ([124, 124] : Str), ([43, 61] : Str), ([45, 61] : Str), ([42, 61] : Str), ([47, 61] : Str), ([37, 61] : Str), ([123] : Str), ([125] : Str), ([40] : Str), ([41] : Str), ([91] : Str), ([93] : Str), ([46] : Str), ([59] : Str), ([44] : Str), ([60] : Str), ([62] : Str), ([43] : Str), ([45] : Str), ([42] : Str), ([47] : Str), ([37] : Str), ([33] : Str), ([63] : Str), ([58] : Str), ([61] : Str)] : List Str)
theorem ref06_signs.ok (r : (List Str)) (h0 : ref06_signs = some r) (w0 : World) (F0 : Heap) (hv : F0.Sub w0) (hG : Glob F0) (hg : SV.goods F0 []) (ρ : Nat → Nat) :
    Calls Tryz.prog 42 (SV.dens ρ []).toArray w0 (Ret0 w0 F0 fun s => ∃ A c, s = SV.sl kStr r A c) := by
 refine calls_of_wp Tryz.func42 rfl ?_
 have hX := Cx.enter (D := No) (B := []) (L := []) (ρ := ρ) (N := 2) Tryz.ntmps42 [] (St.start hv) rfl hg (by kernel_rfl) (fun _ h => by cases h) (Nat.le_of_ble_eq_true rfl) No.unfix
 unfold ref06_signs at h0
 refine Cx.rseq hX [] [] (l' := []) (B' := []) (by kernel_rfl) fun ρ w a hX => ?_
 refine Cx.rseq hX [] [0] (l' := [(0, .slc 0 0 35 35)]) (B' := [some ⟨9, [.v (.string ⟨⟨([61, 61, 61] : Str)⟩⟩), .v (.string ⟨⟨([33, 61, 61] : Str)⟩⟩), .v (.string ⟨⟨([60, 61] : Str)⟩⟩), .v (.string ⟨⟨([62, 61] : Str)⟩⟩), .v (.string ⟨⟨([61, 61] : Str)⟩⟩), .v (.string ⟨⟨([33, 61] : Str)⟩⟩), .v (.string ⟨⟨([43, 43] : Str)⟩⟩), .v (.string ⟨⟨([45, 45] : Str)⟩⟩), .v (.string ⟨⟨([38, 38] : Str)⟩⟩), .v (.string ⟨⟨([124, 124] : Str)⟩⟩), .v (.string ⟨⟨([43, 61] : Str)⟩⟩), .v (.string ⟨⟨([45, 61] : Str)⟩⟩), .v (.string ⟨⟨([42, 61] : Str)⟩⟩), .v (.string ⟨⟨([47, 61] : Str)⟩⟩), .v (.string ⟨⟨([37, 61] : Str)⟩⟩), .v (.string ⟨⟨([123] : Str)⟩⟩), .v (.string ⟨⟨([125] : Str)⟩⟩), .v (.string ⟨⟨([40] : Str)⟩⟩), .v (.string ⟨⟨([41] : Str)⟩⟩), .v (.string ⟨⟨([91] : Str)⟩⟩), .v (.string ⟨⟨([93] : Str)⟩⟩), .v (.string ⟨⟨([46] : Str)⟩⟩), .v (.string ⟨⟨([59] : Str)⟩⟩), .v (.string ⟨⟨([44] : Str)⟩⟩), .v (.string ⟨⟨([60] : Str)⟩⟩), .v (.string ⟨⟨([62] : Str)⟩⟩), .v (.string ⟨⟨([43] : Str)⟩⟩), .v (.string ⟨⟨([45] : Str)⟩⟩), .v (.string ⟨⟨([42] : Str)⟩⟩), .v (.string ⟨⟨([47] : Str)⟩⟩), .v (.string ⟨⟨([37] : Str)⟩⟩), .v (.string ⟨⟨([33] : Str)⟩⟩), .v (.string ⟨⟨([63] : Str)⟩⟩), .v (.string ⟨⟨([58] : Str)⟩⟩), .v (.string ⟨⟨([61] : Str)⟩⟩)]⟩]) (by kernel_rfl) fun ρ w a hX => ?_
 refine wp_ret ?_
 obtain ⟨b1, hb, hX⟩ := hX.boxAcc2 (d := kStr) (e := 9) (k := 0) (t := 0) (m := 35) ([(([61, 61, 61] : Str), ()), (([33, 61, 61] : Str), ()), (([60, 61] : Str), ()), (([62, 61] : Str), ()), (([61, 61] : Str), ()), (([33, 61] : Str), ()), (([43, 43] : Str), ()), (([45, 45] : Str), ()), (([38, 38] : Str), ()), (([124, 124] : Str), ()), (([43, 61] : Str), ()), (([45, 61] : Str), ()), (([42, 61] : Str), ()), (([47, 61] : Str), ()), (([37, 61] : Str), ()), (([123] : Str), ()), (([125] : Str), ()), (([40] : Str), ()), (([41] : Str), ()), (([91] : Str), ()), (([93] : Str), ()), (([46] : Str), ()), (([59] : Str), ()), (([44] : Str), ()), (([60] : Str), ()), (([62] : Str), ()), (([43] : Str), ()), (([45] : Str), ()), (([42] : Str), ()), (([47] : Str), ()), (([37] : Str), ()), (([33] : Str), ()), (([63] : Str), ()), (([58] : Str), ()), (([61] : Str), ())] : List (Str × (kStr).Y)) (by kernel_rfl) (by kernel_rfl) rfl rfl (by decide) ⟨_, rfl⟩
 have hX : Cx 2 _ _ _ _ _ [accP 9 kStr (some ⟨b1, 0, none⟩) 35 ([([61, 61, 61] : Str), ([33, 61, 61] : Str), ([60, 61] : Str), ([62, 61] : Str), ([61, 61] : Str), ([33, 61] : Str), ([43, 43] : Str), ([45, 45] : Str), ([38, 38] : Str), ([124, 124] : Str), ([43, 61] : Str), ([45, 61] : Str), ([42, 61] : Str), ([47, 61] : Str), ([37, 61] : Str), ([123] : Str), ([125] : Str), ([40] : Str), ([41] : Str), ([91] : Str), ([93] : Str), ([46] : Str), ([59] : Str), ([44] : Str), ([60] : Str), ([62] : Str), ([43] : Str), ([45] : Str), ([42] : Str), ([47] : Str), ([37] : Str), ([33] : Str), ([63] : Str), ([58] : Str), ([61] : Str)] : List Str)] [none] ρ _ a := hX
 obtain ⟨F, hX⟩ := hX.freeze (i := 0) (t := 0) (e := 9) (d := kStr) (A := (some ⟨b1, 0, none⟩)) (c := 35) (xs := ([([61, 61, 61] : Str), ([33, 61, 61] : Str), ([60, 61] : Str), ([62, 61] : Str), ([61, 61] : Str), ([33, 61] : Str), ([43, 43] : Str), ([45, 45] : Str), ([38, 38] : Str), ([124, 124] : Str), ([43, 61] : Str), ([45, 61] : Str), ([42, 61] : Str), ([47, 61] : Str), ([37, 61] : Str), ([123] : Str), ([125] : Str), ([40] : Str), ([41] : Str), ([91] : Str), ([93] : Str), ([46] : Str), ([59] : Str), ([44] : Str), ([60] : Str), ([62] : Str), ([43] : Str), ([45] : Str), ([42] : Str), ([47] : Str), ([37] : Str), ([33] : Str), ([63] : Str), ([58] : Str), ([61] : Str)] : List Str)) rfl (by kernel_rfl)
 have hX : Cx 2 _ _ _ _ _ [] [none] ρ _ a := hX
 have hr := Option.some.inj (show some _ = some _ from h0)
 subst hr
 exact hX.ret0 (ss := [SV.sl kStr ([([61, 61, 61] : Str), ([33, 61, 61] : Str), ([60, 61] : Str), ([62, 61] : Str), ([61, 61] : Str), ([33, 61] : Str), ([43, 43] : Str), ([45, 45] : Str), ([38, 38] : Str), ([124, 124] : Str), ([43, 61] : Str), ([45, 61] : Str), ([42, 61] : Str), ([47, 61] : Str), ([37, 61] : Str), ([123] : Str), ([125] : Str), ([40] : Str), ([41] : Str), ([91] : Str), ([93] : Str), ([46] : Str), ([59] : Str), ([44] : Str), ([60] : Str), ([62] : Str), ([43] : Str), ([45] : Str), ([42] : Str), ([47] : Str), ([37] : Str), ([33] : Str), ([63] : Str), ([58] : Str), ([61] : Str)] : List Str) (some ⟨b1, 0, none⟩) 35]) (by kernel_rfl) (by kernel_rfl) ⟨_, _, rfl⟩
def ref06_one.j2 (x8 : Int) (x13 : Bool) : Option ((Int) ⊕ ((Int))) :=
  if x13 = true then
    some (.inl (IntKind.wrap .i64 (x8 + 1)))
  else
    some (.inr x8)
def ref06_one.l1 (s_ : Str) (x8 : Int) : Option ((Int) ⊕ ((Int))) :=
  if (decide (x8 < ((s_.length : Nat) : Int))) = true then
    Option.bind (getB s_ x8) fun v9 =>
    Option.bind (ref06_letter v9) fun v10 =>
    if v10 = true then
      ref06_one.j2 x8 true
    else
      Option.bind (getB s_ x8) fun v11 =>
      Option.bind (ref06_digit v11) fun v12 =>
      ref06_one.j2 x8 v12
  else
    ref06_one.j2 x8 false
def ref06_one.j3 (at_ : Int) (x15 : Int) (v16 : Str) (x18 : Int) : Option (T_api_Token × Int) :=
  some (({ Kind := x18, Text := v16, Num := 0, At := 0, Fresh := false } : T_api_Token), (IntKind.wrap .i64 (x15 - at_)))
def ref06_one.l2 (s_ : Str) (at_ : Int) (v23 : (List Str)) (x31 : Int) : Option ((Int) ⊕ ((Unit) ⊕ (T_api_Token × Int))) :=
  if (decide (x31 < ((v23.length : Nat) : Int))) = true then
    Option.bind (getI v23 x31) fun v32 =>
    Option.bind (ref06_begins s_ at_ v32) fun v36 =>
    if v36 = true then
      some (.inr (.inr (({ Kind := 5, Text := v32, Num := 0, At := 0, Fresh := false } : T_api_Token), ((v32.length : Nat) : Int))))
    else
      some (.inl (IntKind.wrap .i64 (x31 + 1)))
  else
    some (.inr (.inl ()))
def ref06_one (s_ : Str) (at_ : Int) : Option (T_api_Token × Int) :=
  Option.bind (getB s_ at_) fun v1 =>
  Option.bind (ref06_letter v1) fun v2 =>
  if v2 = true then
    Option.bind (loopM (ref06_one.l1 s_) at_) fun e => match e with
    | x15 =>
      if (decide ((IntKind.wrap .i64 (x15 - at_)) > 32)) = true then
        some (({ Kind := 0, Text := ([] : Str), Num := 0, At := 0, Fresh := false } : T_api_Token), 0)
      else
        Option.bind (cutL s_ at_ x15) fun v16 =>
        Option.bind (ref06_IsWord v16) fun v17 =>
        if v17 = true then
          ref06_one.j3 at_ x15 v16 2
        else
          ref06_one.j3 at_ x15 v16 1
  else
    Option.bind (ref06_digit v1) fun v19 =>
    if v19 = true then
      Option.bind (ref06_number s_ at_) fun v20 =>
      some (({ Kind := 3, Text := ([] : Str), Num := v20.1, At := 0, Fresh := false } : T_api_Token), v20.2)
    else
      if ((v1 == 39) || (v1 == 34)) = true then
        Option.bind (cutL s_ at_ ((s_.length : Nat) : Int)) fun v21 =>
        Option.bind (ref01_Read v21) fun v22 =>
        some (({ Kind := 4, Text := v22.1, Num := 0, At := 0, Fresh := false } : T_api_Token), v22.2.1)
      else
        Option.bind (ref06_signs) fun v23 =>
        Option.bind (loopM (ref06_one.l2 s_ at_ v23) 0) fun e => match e with
        | (.inl ()) =>
          some (({ Kind := 0, Text := ([] : Str), Num := 0, At := 0, Fresh := false } : T_api_Token), 0)
        | (.inr r38) =>
          some r38
theorem ref06_one.ok (s_ : Str) (at_ : Int) (r : T_api_Token × Int) (h0 : ref06_one s_ at_ = some r) (w0 : World) (F0 : Heap) (hv : F0.Sub w0) (hG : Glob F0) (hg : SV.goods F0 [.v (.string ⟨⟨s_⟩⟩), .v (.int .i64 at_)]) (ρ : Nat → Nat) :
    Calls Tryz.prog 28 (SV.dens ρ [.v (.string ⟨⟨s_⟩⟩), .v (.int .i64 at_)]).toArray w0 (Ret0 w0 F0 fun s => ∃ s1 s2, s = .tup [s1, s2] ∧ (s1 = .agg (fT_api_Token r.1 ())) ∧ (s2 = .v (.int .i64 r.2))) := by
 refine calls_of_wp Tryz.func28 rfl ?_
 have hX := Cx.enter (D := No) (B := []) (L := []) (ρ := ρ) (N := 105) Tryz.ntmps28 [.v (.string ⟨⟨s_⟩⟩), .v (.int .i64 at_)] (St.start hv) rfl hg (by kernel_rfl) (fun _ h => by cases h) (Nat.le_of_ble_eq_true rfl) No.unfix
 unfold ref06_one at h0
 refine Cx.rseq hX [] [0, 1, 4] (l' := [(0, .v (.string ⟨⟨s_⟩⟩)), (1, .v (.int .i64 at_)), (4, .ptr 0 0)]) (B' := [some ⟨25, [.v (.int .i64 0), .v (.string ⟨⟨([] : Str)⟩⟩), .v (.int .i64 0), .v (.int .i64 0), .v (.bool false)]⟩]) (by kernel_rfl) fun ρ w a hX => ?_
 refine wp_seq_k fun K2 hK2 => ?_
 refine wp_region_list ?_
 refine hX.part [] 2 [0, 1, 4, 16, 17] (l' := [(0, .v (.string ⟨⟨s_⟩⟩)), (1, .v (.int .i64 at_)), (4, .ptr 0 0), (16, .v (.string ⟨⟨s_⟩⟩)), (17, .v (.int .i64 at_))]) (B' := [some ⟨25, [.v (.int .i64 0), .v (.string ⟨⟨([] : Str)⟩⟩), .v (.int .i64 0), .v (.int .i64 0), .v (.bool false)]⟩]) (by kernel_rfl) fun ρ w a hX => ?_
 obtain ⟨v1, hv1, h0⟩ := bnd_some h0
 refine hX.idxStr (lit := []) (by kernel_rfl) (by kernel_rfl) rfl (s := s_) (k := .i64) (n := at_) (b := v1) (by kernel_rfl) (by kernel_rfl) (by kernel_rfl) hv1 fun a hX => ?_
 refine hX.part [] 1 [0, 1, 4, 6] (l' := [(0, .v (.string ⟨⟨s_⟩⟩)), (1, .v (.int .i64 at_)), (4, .ptr 0 0), (6, .v (.int .u8 v1))]) (B' := [some ⟨25, [.v (.int .i64 0), .v (.string ⟨⟨([] : Str)⟩⟩), .v (.int .i64 0), .v (.int .i64 0), .v (.bool false)]⟩]) (by kernel_rfl) fun ρ w a hX => ?_
 refine wpList_end ?_
 refine hK2 _ _ ?_
 refine wp_seq_k fun K3 hK3 => ?_
 refine wp_block ?_
 refine wp_seq_k fun K4 hK4 => ?_
 refine wp_region_list ?_
 refine hX.part [] 1 [0, 1, 4, 6, 20] (l' := [(0, .v (.string ⟨⟨s_⟩⟩)), (1, .v (.int .i64 at_)), (4, .ptr 0 0), (6, .v (.int .u8 v1)), (20, .v (.int .u8 v1))]) (B' := [some ⟨25, [.v (.int .i64 0), .v (.string ⟨⟨([] : Str)⟩⟩), .v (.int .i64 0), .v (.int .i64 0), .v (.bool false)]⟩]) (by kernel_rfl) fun ρ w a hX => ?_
 obtain ⟨v2, hv2, h0⟩ := bnd_some h0
 refine Cx.call0 hX (lit := []) (by kernel_rfl) rfl (by kernel_rfl) ⟨⟨_, Tryz.func22, by kernel_rfl, rfl⟩⟩ (ss := [.v (.int .u8 v1)]) (by kernel_rfl) [.v (.int .u8 v1)] rfl (fun hg => hg) (fun hv hle hg => ref06_letter.ok v1 v2 hv2 _ _ hv (hG.mono hle) hg _) (fun s F w a hp hX => ?_)
 subst hp
 refine hX.part [] 1 [0, 1, 4, 6, 19] (l' := [(0, .v (.string ⟨⟨s_⟩⟩)), (1, .v (.int .i64 at_)), (4, .ptr 0 0), (6, .v (.int .u8 v1)), (19, .v (.bool v2))]) (B' := [some ⟨25, [.v (.int .i64 0), .v (.string ⟨⟨([] : Str)⟩⟩), .v (.int .i64 0), .v (.int .i64 0), .v (.bool false)]⟩]) (by kernel_rfl) fun ρ w a hX => ?_
 refine wpList_end ?_
 refine hK4 _ _ ?_
 refine Cx.cond hX (b := v2) (by kernel_rfl) (fun hb => ?_) (fun hb => ?_)
 ·have h0 := ite_tt h0 hb
  refine Cx.rseq hX [] [0, 1, 4, 7] (l' := [(0, .v (.string ⟨⟨s_⟩⟩)), (1, .v (.int .i64 at_)), (4, .ptr 0 0), (7, .v (.int .i64 at_))]) (B' := [some ⟨25, [.v (.int .i64 0), .v (.string ⟨⟨([] : Str)⟩⟩), .v (.int .i64 0), .v (.int .i64 0), .v (.bool false)]⟩]) (by kernel_rfl) fun ρ w a hX => ?_
  refine wp_seq_k fun K6 hK6 => ?_
  refine wp_block ?_
  have hX := hX.keeps [0, 1, 4, 7] (l' := [(0, .v (.string ⟨⟨s_⟩⟩)), (1, .v (.int .i64 at_)), (4, .ptr 0 0), (7, .v (.int .i64 at_))]) (by kernel_rfl)
  obtain ⟨e1, he1, h0⟩ := bnd_some h0
  have E1x0 : ∀ (x15 : Int), e1 = x15 → ∀ (ρ : Nat → Nat) (w : World) (F : Heap) (a : Act), Cx 105 w0 F0 No w F [] [some ⟨25, [.v (.int .i64 0), .v (.string ⟨⟨([] : Str)⟩⟩), .v (.int .i64 0), .v (.int .i64 0), .v (.bool false)]⟩] ρ [(0, .v (.string ⟨⟨s_⟩⟩)), (1, .v (.int .i64 at_)), (4, .ptr 0 0), (7, .v (.int .i64 x15))] a → K6 a w := by
   intro x15 he  ρ w F a hX
   replace he := he.symm
   subst he
   (try dsimp only at h0)
   refine hK6 _ _ ?_
   refine wp_seq_k fun K11 hK11 => ?_
   refine Cx.rseq hX [] [0, 1, 4, 7, 44] (l' := [(0, .v (.string ⟨⟨s_⟩⟩)), (1, .v (.int .i64 at_)), (4, .ptr 0 0), (7, .v (.int .i64 x15)), (44, .v (.bool (decide ((IntKind.wrap .i64 (x15 - at_)) > 32))))]) (B' := [some ⟨25, [.v (.int .i64 0), .v (.string ⟨⟨([] : Str)⟩⟩), .v (.int .i64 0), .v (.int .i64 0), .v (.bool false)]⟩]) (by kernel_rfl) fun ρ w a hX => ?_
   refine Cx.cond hX (b := (decide ((IntKind.wrap .i64 (x15 - at_)) > 32))) (by kernel_rfl) (fun hb => ?_) (fun hb => ?_)
   ·have h0 := ite_tt h0 hb
    refine Cx.rseq hX [] [4, 5] (l' := [(4, .ptr 0 0), (5, .v (.int .i64 0))]) (B' := [some ⟨25, [.v (.int .i64 0), .v (.string ⟨⟨([] : Str)⟩⟩), .v (.int .i64 0), .v (.int .i64 0), .v (.bool false)]⟩]) (by kernel_rfl) fun ρ w a hX => ?_
    refine wp_ret ?_
    have hr := Option.some.inj (show some _ = some _ from h0)
    subst hr
    exact hX.retC (ss := [.agg [.v (.int .i64 0), .v (.string ⟨⟨([] : Str)⟩⟩), .v (.int .i64 0), .v (.int .i64 0), .v (.bool false)], .v (.int .i64 0)]) (by kernel_rfl) (by kernel_rfl) ⟨_, _, rfl, rfl, rfl⟩
   ·have h0 := ite_ff h0 hb
    refine wp_skip ?_
    refine hK11 _ _ ?_
    refine wp_seq_k fun K14 hK14 => ?_
    refine wp_region_list ?_
    refine hX.part [] 3 [1, 4, 7, 46, 47, 48] (l' := [(1, .v (.int .i64 at_)), (4, .ptr 0 0), (7, .v (.int .i64 x15)), (46, .v (.string ⟨⟨s_⟩⟩)), (47, .v (.int .i64 at_)), (48, .v (.int .i64 x15))]) (B' := [some ⟨25, [.v (.int .i64 0), .v (.string ⟨⟨([] : Str)⟩⟩), .v (.int .i64 0), .v (.int .i64 0), .v (.bool false)]⟩]) (by kernel_rfl) fun ρ w a hX => ?_
    obtain ⟨v16, hv16, h0⟩ := bnd_some h0
    refine hX.cutStr (lit := []) (by kernel_rfl) (by kernel_rfl) rfl (s := s_) (ol := some at_) (oh := some x15) (r := v16) (by kernel_rfl) (by kernel_rfl) (by kernel_rfl) (by kernel_rfl) hv16 fun a hX => ?_
    refine hX.part [] 3 [1, 4, 7, 8] (l' := [(1, .v (.int .i64 at_)), (4, .ptr 0 0), (7, .v (.int .i64 x15)), (8, .ptr 1 0)]) (B' := [some ⟨25, [.v (.int .i64 0), .v (.string ⟨⟨([] : Str)⟩⟩), .v (.int .i64 0), .v (.int .i64 0), .v (.bool false)]⟩, some ⟨25, [.v (.int .i64 1), .v (.string ⟨⟨v16⟩⟩), .v (.int .i64 0), .v (.int .i64 0), .v (.bool false)]⟩]) (by kernel_rfl) fun ρ w a hX => ?_
    refine wpList_end ?_
    refine hK14 _ _ ?_
    refine wp_seq_k fun K15 hK15 => ?_
    have J15 : ∀ (x18 : Int), ref06_one.j3 at_ x15 v16 x18 = some r → ∀ (ρ : Nat → Nat) (w : World) (F : Heap) (a : Act), Cx 105 w0 F0 No w F [] [some ⟨25, [.v (.int .i64 0), .v (.string ⟨⟨([] : Str)⟩⟩), .v (.int .i64 0), .v (.int .i64 0), .v (.bool false)]⟩, some ⟨25, [.v (.int .i64 x18), .v (.string ⟨⟨v16⟩⟩), .v (.int .i64 0), .v (.int .i64 0), .v (.bool false)]⟩] ρ [(1, .v (.int .i64 at_)), (4, .ptr 0 0), (7, .v (.int .i64 x15)), (8, .ptr 1 0)] a → K15 a w := by
     intro x18 h0  ρ w F a hX
     unfold ref06_one.j3 at h0
     refine hK15 _ _ ?_
     refine Cx.rseq hX [] [4, 5] (l' := [(4, .ptr 0 0), (5, .v (.int .i64 (IntKind.wrap .i64 (x15 - at_))))]) (B' := [some ⟨25, [.v (.int .i64 x18), .v (.string ⟨⟨v16⟩⟩), .v (.int .i64 0), .v (.int .i64 0), .v (.bool false)]⟩, some ⟨25, [.v (.int .i64 x18), .v (.string ⟨⟨v16⟩⟩), .v (.int .i64 0), .v (.int .i64 0), .v (.bool false)]⟩]) (by kernel_rfl) fun ρ w a hX => ?_
     refine wp_ret ?_
     have hr := Option.some.inj (show some _ = some _ from h0)
     subst hr
     exact hX.retC (ss := [.agg [.v (.int .i64 x18), .v (.string ⟨⟨v16⟩⟩), .v (.int .i64 0), .v (.int .i64 0), .v (.bool false)], .v (.int .i64 (IntKind.wrap .i64 (x15 - at_)))]) (by kernel_rfl) (by kernel_rfl) ⟨_, _, rfl, rfl, rfl⟩
    refine wp_seq_k fun K16 hK16 => ?_
    refine wp_region_list ?_
    refine hX.part [] 2 [1, 4, 7, 8, 52] (l' := [(1, .v (.int .i64 at_)), (4, .ptr 0 0), (7, .v (.int .i64 x15)), (8, .ptr 1 0), (52, .v (.string ⟨⟨v16⟩⟩))]) (B' := [some ⟨25, [.v (.int .i64 0), .v (.string ⟨⟨([] : Str)⟩⟩), .v (.int .i64 0), .v (.int .i64 0), .v (.bool false)]⟩, some ⟨25, [.v (.int .i64 1), .v (.string ⟨⟨v16⟩⟩), .v (.int .i64 0), .v (.int .i64 0), .v (.bool false)]⟩]) (by kernel_rfl) fun ρ w a hX => ?_
    obtain ⟨v17, hv17, h0⟩ := bnd_some h0
    refine Cx.call0 hX (lit := []) (by kernel_rfl) rfl (by kernel_rfl) ⟨⟨_, Tryz.func11, by kernel_rfl, rfl⟩⟩ (ss := [.v (.string ⟨⟨v16⟩⟩)]) (by kernel_rfl) [.v (.string ⟨⟨v16⟩⟩)] rfl (fun hg => hg) (fun hv hle hg => ref06_IsWord.ok v16 v17 hv17 _ _ hv (hG.mono hle) hg _) (fun s F w a hp hX => ?_)
    subst hp
    refine hX.part [] 0 [1, 4, 7, 8, 53] (l' := [(1, .v (.int .i64 at_)), (4, .ptr 0 0), (7, .v (.int .i64 x15)), (8, .ptr 1 0), (53, .v (.bool v17))]) (B' := [some ⟨25, [.v (.int .i64 0), .v (.string ⟨⟨([] : Str)⟩⟩), .v (.int .i64 0), .v (.int .i64 0), .v (.bool false)]⟩, some ⟨25, [.v (.int .i64 1), .v (.string ⟨⟨v16⟩⟩), .v (.int .i64 0), .v (.int .i64 0), .v (.bool false)]⟩]) (by kernel_rfl) fun ρ w a hX => ?_
    refine wpList_end ?_
    refine hK16 _ _ ?_
    refine Cx.cond hX (b := v17) (by kernel_rfl) (fun hb => ?_) (fun hb => ?_)
    ·have h0 := ite_tt h0 hb
     refine Cx.region hX [] [1, 4, 7, 8] (l' := [(1, .v (.int .i64 at_)), (4, .ptr 0 0), (7, .v (.int .i64 x15)), (8, .ptr 1 0)]) (B' := [some ⟨25, [.v (.int .i64 0), .v (.string ⟨⟨([] : Str)⟩⟩), .v (.int .i64 0), .v (.int .i64 0), .v (.bool false)]⟩, some ⟨25, [.v (.int .i64 2), .v (.string ⟨⟨v16⟩⟩), .v (.int .i64 0), .v (.int .i64 0), .v (.bool false)]⟩]) (by kernel_rfl) fun ρ w a hX => ?_
     have hX := hX.keeps [1, 4, 7, 8] (l' := [(1, .v (.int .i64 at_)), (4, .ptr 0 0), (7, .v (.int .i64 x15)), (8, .ptr 1 0)]) (by kernel_rfl)
     exact J15 2 h0  _ _ _ _ hX
    ·have h0 := ite_ff h0 hb
     refine wp_skip ?_
     have hX := hX.keeps [1, 4, 7, 8] (l' := [(1, .v (.int .i64 at_)), (4, .ptr 0 0), (7, .v (.int .i64 x15)), (8, .ptr 1 0)]) (by kernel_rfl)
     exact J15 1 h0  _ _ _ _ hX
  refine loop_go (fun (x8 : Int) a w => ∃ (ρ : Nat → Nat) (F : Heap), Cx 105 w0 F0 No w F [] [some ⟨25, [.v (.int .i64 0), .v (.string ⟨⟨([] : Str)⟩⟩), .v (.int .i64 0), .v (.int .i64 0), .v (.bool false)]⟩] ρ [(0, .v (.string ⟨⟨s_⟩⟩)), (1, .v (.int .i64 at_)), (4, .ptr 0 0), (7, .v (.int .i64 x8))] a) he1 (fun LW1 x8 o1 h1 hb1 hx1 a w hI => ?_) _ _ ?_
  ·obtain ⟨ρ, F, hX⟩ := hI
   unfold ref06_one.l1 at h1
   (try dsimp only at h1)
   refine wp_seq_k fun K9 hK9 => ?_
   refine wp_seq_k fun K10 hK10 => ?_
   have J10 : ∀ (x13 : Bool), ref06_one.j2 x8 x13 = some o1 → ∀ (ρ : Nat → Nat) (w : World) (F : Heap) (a : Act), Cx 105 w0 F0 No w F [] [some ⟨25, [.v (.int .i64 0), .v (.string ⟨⟨([] : Str)⟩⟩), .v (.int .i64 0), .v (.int .i64 0), .v (.bool false)]⟩] ρ [(0, .v (.string ⟨⟨s_⟩⟩)), (1, .v (.int .i64 at_)), (4, .ptr 0 0), (7, .v (.int .i64 x8)), (38, .v (.bool x13))] a → K10 a w := by
    intro x13 h1  ρ w F a hX
    unfold ref06_one.j2 at h1
    refine hK10 _ _ ?_
    refine Cx.cond hX (b := x13) (by kernel_rfl) (fun hb => ?_) (fun hb => ?_)
    ·have h1 := ite_tt h1 hb
     refine wp_skip ?_
     refine hK9 _ _ ?_
     refine wp_block ?_
     refine Cx.region hX [] [0, 1, 4, 7] (l' := [(0, .v (.string ⟨⟨s_⟩⟩)), (1, .v (.int .i64 at_)), (4, .ptr 0 0), (7, .v (.int .i64 (IntKind.wrap .i64 (x8 + 1))))]) (B' := [some ⟨25, [.v (.int .i64 0), .v (.string ⟨⟨([] : Str)⟩⟩), .v (.int .i64 0), .v (.int .i64 0), .v (.bool false)]⟩]) (by kernel_rfl) fun ρ w a hX => ?_
     have hX := hX.keeps [0, 1, 4, 7] (l' := [(0, .v (.string ⟨⟨s_⟩⟩)), (1, .v (.int .i64 at_)), (4, .ptr 0 0), (7, .v (.int .i64 (IntKind.wrap .i64 (x8 + 1))))]) (by kernel_rfl)
     exact hb1 (IntKind.wrap .i64 (x8 + 1)) (out_eq h1) _ _ ⟨_, _, hX⟩
    ·have h1 := ite_ff h1 hb
     refine wp_exit ?_
     have hX := hX.keeps [0, 1, 4, 7] (l' := [(0, .v (.string ⟨⟨s_⟩⟩)), (1, .v (.int .i64 at_)), (4, .ptr 0 0), (7, .v (.int .i64 x8))]) (by kernel_rfl)
     exact E1x0 x8 (hx1 _ (out_eq h1)).symm  _ _ _ _ hX
   refine wp_region_list ?_
   refine hX.part [] 5 [0, 1, 4, 7, 27] (l' := [(0, .v (.string ⟨⟨s_⟩⟩)), (1, .v (.int .i64 at_)), (4, .ptr 0 0), (7, .v (.int .i64 x8)), (27, .v (.bool (decide (x8 < ((s_.length : Nat) : Int)))))]) (B' := [some ⟨25, [.v (.int .i64 0), .v (.string ⟨⟨([] : Str)⟩⟩), .v (.int .i64 0), .v (.int .i64 0), .v (.bool false)]⟩]) (by kernel_rfl) fun ρ w a hX => ?_
   refine ite_go h1 (fun hb h1 => ?_) (fun hb h1 => ?_)
   ·have hX := hX.relit 27 hb (by kernel_rfl)
    refine hX.part [4] 2 [0, 1, 4, 7, 27, 28, 29] (l' := [(0, .v (.string ⟨⟨s_⟩⟩)), (1, .v (.int .i64 at_)), (4, .ptr 0 0), (7, .v (.int .i64 x8)), (27, .v (.bool true)), (28, .v (.string ⟨⟨s_⟩⟩)), (29, .v (.int .i64 x8))]) (B' := [some ⟨25, [.v (.int .i64 0), .v (.string ⟨⟨([] : Str)⟩⟩), .v (.int .i64 0), .v (.int .i64 0), .v (.bool false)]⟩]) (by kernel_rfl) fun ρ w a hX => ?_
    obtain ⟨v9, hv9, h1⟩ := bnd_some h1
    refine hX.idxStr (lit := [4]) (by kernel_rfl) (by kernel_rfl) rfl (s := s_) (k := .i64) (n := x8) (b := v9) (by kernel_rfl) (by kernel_rfl) (by kernel_rfl) hv9 fun a hX => ?_
    refine hX.part [4] 0 [0, 1, 4, 7, 27, 30] (l' := [(0, .v (.string ⟨⟨s_⟩⟩)), (1, .v (.int .i64 at_)), (4, .ptr 0 0), (7, .v (.int .i64 x8)), (27, .v (.bool true)), (30, .v (.int .u8 v9))]) (B' := [some ⟨25, [.v (.int .i64 0), .v (.string ⟨⟨([] : Str)⟩⟩), .v (.int .i64 0), .v (.int .i64 0), .v (.bool false)]⟩]) (by kernel_rfl) fun ρ w a hX => ?_
    obtain ⟨v10, hv10, h1⟩ := bnd_some h1
    refine Cx.call0 hX (lit := [4]) (by kernel_rfl) rfl (by kernel_rfl) ⟨⟨_, Tryz.func22, by kernel_rfl, rfl⟩⟩ (ss := [.v (.int .u8 v9)]) (by kernel_rfl) [.v (.int .u8 v9)] rfl (fun hg => hg) (fun hv hle hg => ref06_letter.ok v9 v10 hv10 _ _ hv (hG.mono hle) hg _) (fun s F w a hp hX => ?_)
    subst hp
    refine hX.part [4] 1 [0, 1, 4, 7, 27, 32] (l' := [(0, .v (.string ⟨⟨s_⟩⟩)), (1, .v (.int .i64 at_)), (4, .ptr 0 0), (7, .v (.int .i64 x8)), (27, .v (.bool true)), (32, .v (.bool v10))]) (B' := [some ⟨25, [.v (.int .i64 0), .v (.string ⟨⟨([] : Str)⟩⟩), .v (.int .i64 0), .v (.int .i64 0), .v (.bool false)]⟩]) (by kernel_rfl) fun ρ w a hX => ?_
    refine ite_go h1 (fun hb h1 => ?_) (fun hb h1 => ?_)
    ·have hX := hX.relit 32 hb (by kernel_rfl)
     refine hX.part [4, 9] 6 [0, 1, 4, 7, 38] (l' := [(0, .v (.string ⟨⟨s_⟩⟩)), (1, .v (.int .i64 at_)), (4, .ptr 0 0), (7, .v (.int .i64 x8)), (38, .v (.bool true))]) (B' := [some ⟨25, [.v (.int .i64 0), .v (.string ⟨⟨([] : Str)⟩⟩), .v (.int .i64 0), .v (.int .i64 0), .v (.bool false)]⟩]) (by kernel_rfl) fun ρ w a hX => ?_
     refine wpList_end ?_
     have hX := hX.keeps [0, 1, 4, 7, 38] (l' := [(0, .v (.string ⟨⟨s_⟩⟩)), (1, .v (.int .i64 at_)), (4, .ptr 0 0), (7, .v (.int .i64 x8)), (38, .v (.bool true))]) (by kernel_rfl)
     exact J10 true h1  _ _ _ _ hX
    ·have hX := hX.relit 32 hb (by kernel_rfl)
     refine hX.part [9] 2 [0, 1, 4, 7, 27, 32, 33, 34] (l' := [(0, .v (.string ⟨⟨s_⟩⟩)), (1, .v (.int .i64 at_)), (4, .ptr 0 0), (7, .v (.int .i64 x8)), (27, .v (.bool true)), (32, .v (.bool false)), (33, .v (.string ⟨⟨s_⟩⟩)), (34, .v (.int .i64 x8))]) (B' := [some ⟨25, [.v (.int .i64 0), .v (.string ⟨⟨([] : Str)⟩⟩), .v (.int .i64 0), .v (.int .i64 0), .v (.bool false)]⟩]) (by kernel_rfl) fun ρ w a hX => ?_
     obtain ⟨v11, hv11, h1⟩ := bnd_some h1
     refine hX.idxStr (lit := [9]) (by kernel_rfl) (by kernel_rfl) rfl (s := s_) (k := .i64) (n := x8) (b := v11) (by kernel_rfl) (by kernel_rfl) (by kernel_rfl) hv11 fun a hX => ?_
     refine hX.part [9] 0 [0, 1, 4, 7, 27, 32, 35] (l' := [(0, .v (.string ⟨⟨s_⟩⟩)), (1, .v (.int .i64 at_)), (4, .ptr 0 0), (7, .v (.int .i64 x8)), (27, .v (.bool true)), (32, .v (.bool false)), (35, .v (.int .u8 v11))]) (B' := [some ⟨25, [.v (.int .i64 0), .v (.string ⟨⟨([] : Str)⟩⟩), .v (.int .i64 0), .v (.int .i64 0), .v (.bool false)]⟩]) (by kernel_rfl) fun ρ w a hX => ?_
     obtain ⟨v12, hv12, h1⟩ := bnd_some h1
     refine Cx.call0 hX (lit := [9]) (by kernel_rfl) rfl (by kernel_rfl) ⟨⟨_, Tryz.func21, by kernel_rfl, rfl⟩⟩ (ss := [.v (.int .u8 v11)]) (by kernel_rfl) [.v (.int .u8 v11)] rfl (fun hg => hg) (fun hv hle hg => ref06_digit.ok v11 v12 hv12 _ _ hv (hG.mono hle) hg _) (fun s F w a hp hX => ?_)
     subst hp
     refine hX.part [4] 2 [0, 1, 4, 7, 38] (l' := [(0, .v (.string ⟨⟨s_⟩⟩)), (1, .v (.int .i64 at_)), (4, .ptr 0 0), (7, .v (.int .i64 x8)), (38, .v (.bool v12))]) (B' := [some ⟨25, [.v (.int .i64 0), .v (.string ⟨⟨([] : Str)⟩⟩), .v (.int .i64 0), .v (.int .i64 0), .v (.bool false)]⟩]) (by kernel_rfl) fun ρ w a hX => ?_
     refine wpList_end ?_
     have hX := hX.keeps [0, 1, 4, 7, 38] (l' := [(0, .v (.string ⟨⟨s_⟩⟩)), (1, .v (.int .i64 at_)), (4, .ptr 0 0), (7, .v (.int .i64 x8)), (38, .v (.bool v12))]) (by kernel_rfl)
     exact J10 v12 h1  _ _ _ _ hX
   ·have hX := hX.relit 27 hb (by kernel_rfl)
    refine hX.part [4, 9] 11 [0, 1, 4, 7, 38] (l' := [(0, .v (.string ⟨⟨s_⟩⟩)), (1, .v (.int .i64 at_)), (4, .ptr 0 0), (7, .v (.int .i64 x8)), (38, .v (.bool false))]) (B' := [some ⟨25, [.v (.int .i64 0), .v (.string ⟨⟨([] : Str)⟩⟩), .v (.int .i64 0), .v (.int .i64 0), .v (.bool false)]⟩]) (by kernel_rfl) fun ρ w a hX => ?_
    refine wpList_end ?_
    have hX := hX.keeps [0, 1, 4, 7, 38] (l' := [(0, .v (.string ⟨⟨s_⟩⟩)), (1, .v (.int .i64 at_)), (4, .ptr 0 0), (7, .v (.int .i64 x8)), (38, .v (.bool false))]) (by kernel_rfl)
    exact J10 false h1  _ _ _ _ hX
  ·exact ⟨_, _, hX⟩
 ·have h0 := ite_ff h0 hb
  refine wp_seq_k fun K18 hK18 => ?_
  refine wp_region_list ?_
  refine hX.part [] 1 [0, 1, 4, 6, 60] (l' := [(0, .v (.string ⟨⟨s_⟩⟩)), (1, .v (.int .i64 at_)), (4, .ptr 0 0), (6, .v (.int .u8 v1)), (60, .v (.int .u8 v1))]) (B' := [some ⟨25, [.v (.int .i64 0), .v (.string ⟨⟨([] : Str)⟩⟩), .v (.int .i64 0), .v (.int .i64 0), .v (.bool false)]⟩]) (by kernel_rfl) fun ρ w a hX => ?_
  obtain ⟨v19, hv19, h0⟩ := bnd_some h0
  refine Cx.call0 hX (lit := []) (by kernel_rfl) rfl (by kernel_rfl) ⟨⟨_, Tryz.func21, by kernel_rfl, rfl⟩⟩ (ss := [.v (.int .u8 v1)]) (by kernel_rfl) [.v (.int .u8 v1)] rfl (fun hg => hg) (fun hv hle hg => ref06_digit.ok v1 v19 hv19 _ _ hv (hG.mono hle) hg _) (fun s F w a hp hX => ?_)
  subst hp
  refine hX.part [] 1 [0, 1, 4, 6, 59] (l' := [(0, .v (.string ⟨⟨s_⟩⟩)), (1, .v (.int .i64 at_)), (4, .ptr 0 0), (6, .v (.int .u8 v1)), (59, .v (.bool v19))]) (B' := [some ⟨25, [.v (.int .i64 0), .v (.string ⟨⟨([] : Str)⟩⟩), .v (.int .i64 0), .v (.int .i64 0), .v (.bool false)]⟩]) (by kernel_rfl) fun ρ w a hX => ?_
  refine wpList_end ?_
  refine hK18 _ _ ?_
  refine Cx.cond hX (b := v19) (by kernel_rfl) (fun hb => ?_) (fun hb => ?_)
  ·have h0 := ite_tt h0 hb
   refine wp_seq_k fun K19 hK19 => ?_
   refine wp_region_list ?_
   refine hX.part [] 2 [4, 63, 64] (l' := [(4, .ptr 0 0), (63, .v (.string ⟨⟨s_⟩⟩)), (64, .v (.int .i64 at_))]) (B' := [some ⟨25, [.v (.int .i64 0), .v (.string ⟨⟨([] : Str)⟩⟩), .v (.int .i64 0), .v (.int .i64 0), .v (.bool false)]⟩]) (by kernel_rfl) fun ρ w a hX => ?_
   obtain ⟨v20, hv20, h0⟩ := bnd_some h0
   refine Cx.call0 hX (lit := []) (by kernel_rfl) rfl (by kernel_rfl) ⟨⟨_, Tryz.func40, by kernel_rfl, rfl⟩⟩ (ss := [.v (.string ⟨⟨s_⟩⟩), .v (.int .i64 at_)]) (by kernel_rfl) [.v (.string ⟨⟨s_⟩⟩), .v (.int .i64 at_)] rfl (fun hg => hg) (fun hv hle hg => ref06_number.ok s_ at_ v20 hv20 _ _ hv (hG.mono hle) hg _) (fun s F w a hp hX => ?_)
   obtain ⟨_, _, rfl, rfl, rfl⟩ := hp
   refine hX.part [] 5 [4, 9, 10] (l' := [(4, .ptr 0 0), (9, .v (.int .i64 v20.1)), (10, .v (.int .i64 v20.2))]) (B' := [some ⟨25, [.v (.int .i64 0), .v (.string ⟨⟨([] : Str)⟩⟩), .v (.int .i64 0), .v (.int .i64 0), .v (.bool false)]⟩]) (by kernel_rfl) fun ρ w a hX => ?_
   refine wpList_end ?_
   refine hK19 _ _ ?_
   refine Cx.rseq hX [] [4, 5] (l' := [(4, .ptr 0 0), (5, .v (.int .i64 v20.2))]) (B' := [some ⟨25, [.v (.int .i64 3), .v (.string ⟨⟨([] : Str)⟩⟩), .v (.int .i64 v20.1), .v (.int .i64 0), .v (.bool false)]⟩]) (by kernel_rfl) fun ρ w a hX => ?_
   refine wp_ret ?_
   have hr := Option.some.inj (show some _ = some _ from h0)
   subst hr
   exact hX.retC (ss := [.agg [.v (.int .i64 3), .v (.string ⟨⟨([] : Str)⟩⟩), .v (.int .i64 v20.1), .v (.int .i64 0), .v (.bool false)], .v (.int .i64 v20.2)]) (by kernel_rfl) (by kernel_rfl) ⟨_, _, rfl, rfl, rfl⟩
  ·have h0 := ite_ff h0 hb
   refine Cx.rseq hX [] [0, 1, 4, 71] (l' := [(0, .v (.string ⟨⟨s_⟩⟩)), (1, .v (.int .i64 at_)), (4, .ptr 0 0), (71, .v (.bool ((v1 == 39) || (v1 == 34))))]) (B' := [some ⟨25, [.v (.int .i64 0), .v (.string ⟨⟨([] : Str)⟩⟩), .v (.int .i64 0), .v (.int .i64 0), .v (.bool false)]⟩]) (by kernel_rfl) fun ρ w a hX => ?_
   refine Cx.cond hX (b := ((v1 == 39) || (v1 == 34))) (by kernel_rfl) (fun hb => ?_) (fun hb => ?_)
   ·have h0 := ite_tt h0 hb
    refine wp_seq_k fun K22 hK22 => ?_
    refine wp_region_list ?_
    refine hX.part [] 2 [4, 79, 80] (l' := [(4, .ptr 0 0), (79, .v (.string ⟨⟨s_⟩⟩)), (80, .v (.int .i64 at_))]) (B' := [some ⟨25, [.v (.int .i64 0), .v (.string ⟨⟨([] : Str)⟩⟩), .v (.int .i64 0), .v (.int .i64 0), .v (.bool false)]⟩]) (by kernel_rfl) fun ρ w a hX => ?_
    obtain ⟨v21, hv21, h0⟩ := bnd_some h0
    refine hX.cutStr (lit := []) (by kernel_rfl) (by kernel_rfl) rfl (s := s_) (ol := some at_) (oh := none) (r := v21) (by kernel_rfl) (by kernel_rfl) (by kernel_rfl) (by kernel_rfl) hv21 fun a hX => ?_
    refine hX.part [] 0 [4, 81] (l' := [(4, .ptr 0 0), (81, .v (.string ⟨⟨v21⟩⟩))]) (B' := [some ⟨25, [.v (.int .i64 0), .v (.string ⟨⟨([] : Str)⟩⟩), .v (.int .i64 0), .v (.int .i64 0), .v (.bool false)]⟩]) (by kernel_rfl) fun ρ w a hX => ?_
    obtain ⟨v22, hv22, h0⟩ := bnd_some h0
    refine Cx.call0 hX (lit := []) (by kernel_rfl) rfl (by kernel_rfl) ⟨⟨_, Tryz.func41, by kernel_rfl, rfl⟩⟩ (ss := [.v (.string ⟨⟨v21⟩⟩)]) (by kernel_rfl) [.v (.string ⟨⟨v21⟩⟩)] rfl (fun hg => hg) (fun hv hle hg => ref01_Read.ok v21 v22 hv22 _ _ hv (hG.mono hle) hg _) (fun s F w a hp hX => ?_)
    obtain ⟨_, _, _, rfl, rfl, rfl, rfl⟩ := hp
    refine hX.part [] 7 [4, 11, 12] (l' := [(4, .ptr 0 0), (11, .v (.string ⟨⟨v22.1⟩⟩)), (12, .v (.int .i64 v22.2.1))]) (B' := [some ⟨25, [.v (.int .i64 0), .v (.string ⟨⟨([] : Str)⟩⟩), .v (.int .i64 0), .v (.int .i64 0), .v (.bool false)]⟩]) (by kernel_rfl) fun ρ w a hX => ?_
    refine wpList_end ?_
    refine hK22 _ _ ?_
    refine Cx.rseq hX [] [4, 5] (l' := [(4, .ptr 0 0), (5, .v (.int .i64 v22.2.1))]) (B' := [some ⟨25, [.v (.int .i64 4), .v (.string ⟨⟨v22.1⟩⟩), .v (.int .i64 0), .v (.int .i64 0), .v (.bool false)]⟩]) (by kernel_rfl) fun ρ w a hX => ?_
    refine wp_ret ?_
    have hr := Option.some.inj (show some _ = some _ from h0)
    subst hr
    exact hX.retC (ss := [.agg [.v (.int .i64 4), .v (.string ⟨⟨v22.1⟩⟩), .v (.int .i64 0), .v (.int .i64 0), .v (.bool false)], .v (.int .i64 v22.2.1)]) (by kernel_rfl) (by kernel_rfl) ⟨_, _, rfl, rfl, rfl⟩
   ·have h0 := ite_ff h0 hb
    refine wp_skip ?_
    refine hK3 _ _ ?_
    refine wp_seq_k fun K24 hK24 => ?_
    refine wp_seq_k fun K25 hK25 => ?_
    refine wp_region_list ?_
    refine hX.part [] 0 [0, 1, 4] (l' := [(0, .v (.string ⟨⟨s_⟩⟩)), (1, .v (.int .i64 at_)), (4, .ptr 0 0)]) (B' := [some ⟨25, [.v (.int .i64 0), .v (.string ⟨⟨([] : Str)⟩⟩), .v (.int .i64 0), .v (.int .i64 0), .v (.bool false)]⟩]) (by kernel_rfl) fun ρ w a hX => ?_
    obtain ⟨v23, hv23, h0⟩ := bnd_some h0
    refine Cx.call0 hX (lit := []) (by kernel_rfl) rfl (by kernel_rfl) ⟨⟨_, Tryz.func42, by kernel_rfl, rfl⟩⟩ (ss := []) (by kernel_rfl) [] rfl (fun hg => hg) (fun hv hle hg => ref06_signs.ok v23 hv23 _ _ hv (hG.mono hle) hg _) (fun s F w a hp hX => ?_)
    obtain ⟨A24, c25, rfl⟩ := hp
    refine hX.part [] 2 [0, 1, 4, 89, 90, 91] (l' := [(0, .v (.string ⟨⟨s_⟩⟩)), (1, .v (.int .i64 at_)), (4, .ptr 0 0), (89, SV.sl kStr v23 A24 c25), (90, .v (.int .i64 ((v23.length : Nat) : Int))), (91, .v (.int .i64 0))]) (B' := [some ⟨25, [.v (.int .i64 0), .v (.string ⟨⟨([] : Str)⟩⟩), .v (.int .i64 0), .v (.int .i64 0), .v (.bool false)]⟩]) (by kernel_rfl) fun ρ w a hX => ?_
    refine wpList_end ?_
    refine hK25 _ _ ?_
    refine wp_block ?_
    have hX := hX.keeps [0, 1, 4, 89, 90, 91] (l' := [(0, .v (.string ⟨⟨s_⟩⟩)), (1, .v (.int .i64 at_)), (4, .ptr 0 0), (89, SV.sl kStr v23 A24 c25), (90, .v (.int .i64 ((v23.length : Nat) : Int))), (91, .v (.int .i64 0))]) (by kernel_rfl)
    obtain ⟨e1, he1, h0⟩ := bnd_some h0
    have E1x0 : ∀ (_ : Unit), e1 = (.inl ()) → ∀ (ρ : Nat → Nat) (w : World) (F : Heap) (a : Act), Cx 105 w0 F0 No w F [] [some ⟨25, [.v (.int .i64 0), .v (.string ⟨⟨([] : Str)⟩⟩), .v (.int .i64 0), .v (.int .i64 0), .v (.bool false)]⟩] ρ [(4, .ptr 0 0)] a → K24 a w := by
     intro _ he  ρ w F a hX
     replace he := he.symm
     subst he
     (try dsimp only at h0)
     refine hK24 _ _ ?_
     refine Cx.rseq hX [] [4, 5] (l' := [(4, .ptr 0 0), (5, .v (.int .i64 0))]) (B' := [some ⟨25, [.v (.int .i64 0), .v (.string ⟨⟨([] : Str)⟩⟩), .v (.int .i64 0), .v (.int .i64 0), .v (.bool false)]⟩]) (by kernel_rfl) fun ρ w a hX => ?_
     refine wp_ret ?_
     have hr := Option.some.inj (show some _ = some _ from h0)
     subst hr
     exact hX.retC (ss := [.agg [.v (.int .i64 0), .v (.string ⟨⟨([] : Str)⟩⟩), .v (.int .i64 0), .v (.int .i64 0), .v (.bool false)], .v (.int .i64 0)]) (by kernel_rfl) (by kernel_rfl) ⟨_, _, rfl, rfl, rfl⟩
    refine loop_go (fun (x31 : Int) a w => ∃ (ρ : Nat → Nat) (F : Heap), Cx 105 w0 F0 No w F [] [some ⟨25, [.v (.int .i64 0), .v (.string ⟨⟨([] : Str)⟩⟩), .v (.int .i64 0), .v (.int .i64 0), .v (.bool false)]⟩] ρ [(0, .v (.string ⟨⟨s_⟩⟩)), (1, .v (.int .i64 at_)), (4, .ptr 0 0), (89, SV.sl kStr v23 A24 c25), (90, .v (.int .i64 ((v23.length : Nat) : Int))), (91, .v (.int .i64 x31))] a) he1 (fun LW1 x31 o1 h1 hb1 hx1 a w hI => ?_) _ _ ?_
    ·obtain ⟨ρ, F, hX⟩ := hI
     unfold ref06_one.l2 at h1
     (try dsimp only at h1)
     refine Cx.rseq hX [] [0, 1, 4, 89, 90, 91, 92] (l' := [(0, .v (.string ⟨⟨s_⟩⟩)), (1, .v (.int .i64 at_)), (4, .ptr 0 0), (89, SV.sl kStr v23 A24 c25), (90, .v (.int .i64 ((v23.length : Nat) : Int))), (91, .v (.int .i64 x31)), (92, .v (.bool (decide (x31 < ((v23.length : Nat) : Int)))))]) (B' := [some ⟨25, [.v (.int .i64 0), .v (.string ⟨⟨([] : Str)⟩⟩), .v (.int .i64 0), .v (.int .i64 0), .v (.bool false)]⟩]) (by kernel_rfl) fun ρ w a hX => ?_
     refine wp_seq_k fun K33 hK33 => ?_
     refine Cx.cond hX (b := (decide (x31 < ((v23.length : Nat) : Int)))) (by kernel_rfl) (fun hb => ?_) (fun hb => ?_)
     ·have h1 := ite_tt h1 hb
      refine wp_skip ?_
      refine hK33 _ _ ?_
      refine wp_seq_k fun K34 hK34 => ?_
      refine wp_block ?_
      refine wp_seq_k fun K35 hK35 => ?_
      refine wp_region_list ?_
      refine hX.part [] 0 [0, 1, 4, 89, 90, 91] (l' := [(0, .v (.string ⟨⟨s_⟩⟩)), (1, .v (.int .i64 at_)), (4, .ptr 0 0), (89, SV.sl kStr v23 A24 c25), (90, .v (.int .i64 ((v23.length : Nat) : Int))), (91, .v (.int .i64 x31))]) (B' := [some ⟨25, [.v (.int .i64 0), .v (.string ⟨⟨([] : Str)⟩⟩), .v (.int .i64 0), .v (.int .i64 0), .v (.bool false)]⟩]) (by kernel_rfl) fun ρ w a hX => ?_
      obtain ⟨v32, hv32, h1⟩ := bnd_some h1
      refine hX.idxSl (lit := []) (by kernel_rfl) (by kernel_rfl) rfl (d := kStr) (e := 9) (xs := v23) (A := A24) (c := c25) (k := .i64) (n := x31) (v := v32) (by kernel_rfl) (by kernel_rfl) (by kernel_rfl) (by kernel_rfl) hv32 fun y33 b34 o35 a hX => ?_
      refine hX.part [] 2 [0, 1, 4, 15, 89, 90, 91] (l' := [(0, .v (.string ⟨⟨s_⟩⟩)), (1, .v (.int .i64 at_)), (4, .ptr 0 0), (15, .v (.string ⟨⟨v32⟩⟩)), (89, SV.sl kStr v23 A24 c25), (90, .v (.int .i64 ((v23.length : Nat) : Int))), (91, .v (.int .i64 x31))]) (B' := [some ⟨25, [.v (.int .i64 0), .v (.string ⟨⟨([] : Str)⟩⟩), .v (.int .i64 0), .v (.int .i64 0), .v (.bool false)]⟩]) (by kernel_rfl) fun ρ w a hX => ?_
      refine wpList_end ?_
      refine hK35 _ _ ?_
      refine wp_seq_k fun K36 hK36 => ?_
      refine wp_region_list ?_
      refine hX.part [] 3 [0, 1, 4, 15, 89, 90, 91, 95, 96, 97] (l' := [(0, .v (.string ⟨⟨s_⟩⟩)), (1, .v (.int .i64 at_)), (4, .ptr 0 0), (15, .v (.string ⟨⟨v32⟩⟩)), (89, SV.sl kStr v23 A24 c25), (90, .v (.int .i64 ((v23.length : Nat) : Int))), (91, .v (.int .i64 x31)), (95, .v (.string ⟨⟨s_⟩⟩)), (96, .v (.int .i64 at_)), (97, .v (.string ⟨⟨v32⟩⟩))]) (B' := [some ⟨25, [.v (.int .i64 0), .v (.string ⟨⟨([] : Str)⟩⟩), .v (.int .i64 0), .v (.int .i64 0), .v (.bool false)]⟩]) (by kernel_rfl) fun ρ w a hX => ?_
      obtain ⟨v36, hv36, h1⟩ := bnd_some h1
      refine Cx.call0 hX (lit := []) (by kernel_rfl) rfl (by kernel_rfl) ⟨⟨_, Tryz.func39, by kernel_rfl, rfl⟩⟩ (ss := [.v (.string ⟨⟨s_⟩⟩), .v (.int .i64 at_), .v (.string ⟨⟨v32⟩⟩)]) (by kernel_rfl) [.v (.string ⟨⟨s_⟩⟩), .v (.int .i64 at_), .v (.string ⟨⟨v32⟩⟩)] rfl (fun hg => hg) (fun hv hle hg => ref06_begins.ok s_ at_ v32 v36 hv36 _ _ hv (hG.mono hle) hg _) (fun s F w a hp hX => ?_)
      subst hp
      refine hX.part [] 0 [0, 1, 4, 15, 89, 90, 91, 98] (l' := [(0, .v (.string ⟨⟨s_⟩⟩)), (1, .v (.int .i64 at_)), (4, .ptr 0 0), (15, .v (.string ⟨⟨v32⟩⟩)), (89, SV.sl kStr v23 A24 c25), (90, .v (.int .i64 ((v23.length : Nat) : Int))), (91, .v (.int .i64 x31)), (98, .v (.bool v36))]) (B' := [some ⟨25, [.v (.int .i64 0), .v (.string ⟨⟨([] : Str)⟩⟩), .v (.int .i64 0), .v (.int .i64 0), .v (.bool false)]⟩]) (by kernel_rfl) fun ρ w a hX => ?_
      refine wpList_end ?_
      refine hK36 _ _ ?_
      refine Cx.cond hX (b := v36) (by kernel_rfl) (fun hb => ?_) (fun hb => ?_)
      ·have h1 := ite_tt h1 hb
       refine Cx.rseq hX [] [4, 5] (l' := [(4, .ptr 0 0), (5, .v (.int .i64 ((v32.length : Nat) : Int)))]) (B' := [some ⟨25, [.v (.int .i64 5), .v (.string ⟨⟨v32⟩⟩), .v (.int .i64 0), .v (.int .i64 0), .v (.bool false)]⟩]) (by kernel_rfl) fun ρ w a hX => ?_
       refine wp_ret ?_
       have he := hx1 _ (out_eq h1)
       subst he
       (try dsimp only at h0)
       have hr := Option.some.inj (show some _ = some _ from h0)
       subst hr
       exact hX.retC (ss := [.agg [.v (.int .i64 5), .v (.string ⟨⟨v32⟩⟩), .v (.int .i64 0), .v (.int .i64 0), .v (.bool false)], .v (.int .i64 ((v32.length : Nat) : Int))]) (by kernel_rfl) (by kernel_rfl) ⟨_, _, rfl, rfl, rfl⟩
      ·have h1 := ite_ff h1 hb
       refine wp_skip ?_
       refine hK34 _ _ ?_
       refine Cx.region hX [] [0, 1, 4, 89, 90, 91] (l' := [(0, .v (.string ⟨⟨s_⟩⟩)), (1, .v (.int .i64 at_)), (4, .ptr 0 0), (89, SV.sl kStr v23 A24 c25), (90, .v (.int .i64 ((v23.length : Nat) : Int))), (91, .v (.int .i64 (IntKind.wrap .i64 (x31 + 1))))]) (B' := [some ⟨25, [.v (.int .i64 0), .v (.string ⟨⟨([] : Str)⟩⟩), .v (.int .i64 0), .v (.int .i64 0), .v (.bool false)]⟩]) (by kernel_rfl) fun ρ w a hX => ?_
       have hX := hX.keeps [0, 1, 4, 89, 90, 91] (l' := [(0, .v (.string ⟨⟨s_⟩⟩)), (1, .v (.int .i64 at_)), (4, .ptr 0 0), (89, SV.sl kStr v23 A24 c25), (90, .v (.int .i64 ((v23.length : Nat) : Int))), (91, .v (.int .i64 (IntKind.wrap .i64 (x31 + 1))))]) (by kernel_rfl)
       exact hb1 (IntKind.wrap .i64 (x31 + 1)) (out_eq h1) _ _ ⟨_, _, hX⟩
     ·have h1 := ite_ff h1 hb
      refine wp_exit ?_
      have hX := hX.keeps [4] (l' := [(4, .ptr 0 0)]) (by kernel_rfl)
      exact E1x0 () (hx1 _ (out_eq h1)).symm  _ _ _ _ hX
    ·exact ⟨_, _, hX⟩
end
end Go.Gw
