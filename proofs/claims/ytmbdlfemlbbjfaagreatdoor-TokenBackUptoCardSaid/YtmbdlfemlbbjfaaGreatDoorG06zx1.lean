/- Texts for the statements of this seat. -/
import Derived.Test.YtmbdlfemlbbjfaaGreatDoorG06zx0
import Derived.Test.YtmbdlfemlbbjfaaGreatDoorGwU
import Derived.Test.YtmbdlfemlbbjfaaGreatDoorShelf06z
import Derived.Test.YtmbdlfemlbbjfaaGreatDoorNlAny06z
import Derived.Shelf.Strings.SlTrimAscii
import Derived.Test.YtmbdlfemlbbjfaaGreatDoorProg
import Derived.KernelRfl
set_option linter.unusedVariables false
set_option linter.unusedSimpArgs false
set_option linter.unnecessarySimpa false
namespace Go.Gw
open Go.Proofs Go.RowKit
set_option maxRecDepth 100000
set_option linter.unusedVariables false
set_option linter.unusedSimpArgs false
noncomputable section
def internal_strconv_ParseUint_c16_c16.l1 (t : Str) (v1 : Int) (s : Bool × Int × Int) : Option ((Bool × Int × Int) ⊕ ((Bool × Int) ⊕ (Int × GErr))) := match s with
  | (x15, x16, x17) =>
  if (decide (x17 < ((t.length : Nat) : Int))) = true then
    Option.bind (getI t x17) fun v18 =>
    if ((((v18.toNat : Nat) : Int) == 95) && false) = true then
      internal_strconv_ParseUint_c16_c16.j6 x17 true x16
    else
      if ((decide (48 ≤ ((v18.toNat : Nat) : Int))) && (decide (((v18.toNat : Nat) : Int) ≤ 57))) = true then
        internal_strconv_ParseUint_c16_c16.j5 v1 x15 x16 x17 (IntKind.wrap .u8 (((v18.toNat : Nat) : Int) - 48))
      else
        Option.bind (internal_strconv_lower ((v18.toNat : Nat) : Int)) fun v22 =>
        if (decide (97 ≤ v22)) = true then
          Option.bind (internal_strconv_lower ((v18.toNat : Nat) : Int)) fun v23 =>
          internal_strconv_ParseUint_c16_c16.j4 v1 x15 x16 x17 v18 (decide (v23 ≤ 122))
        else
          internal_strconv_ParseUint_c16_c16.j4 v1 x15 x16 x17 v18 false
  else
    some (.inr (.inl (x15, x16)))
def internal_strconv_ParseUint_c16_c16.j7 (x33 : Int) (x36 : Bool) : Option (Int × GErr) :=
  if x36 = true then
    some (0, (GErr.code 99 2))
  else
    some (x33, GErr.nil)
def internal_strconv_ParseUint_c16_c16 (t : Str) : Option (Int × GErr) :=
  if (t == ([] : Str)) = true then
    some (0, (GErr.code 99 2))
  else
    Option.bind (shlI .u64 1 16) fun v1 =>
    Option.bind (loopM (internal_strconv_ParseUint_c16_c16.l1 t v1) (false, 0, 0)) fun e => match e with
    | (.inl (x32, x33)) =>
      if x32 = true then
        Option.bind (internal_strconv_underscoreOK t) fun v35 =>
        internal_strconv_ParseUint_c16_c16.j7 x33 (!v35)
      else
        internal_strconv_ParseUint_c16_c16.j7 x33 false
    | (.inr r34) =>
      some r34
theorem internal_strconv_ParseUint_c16_c16.ok (t : Str) (r : Int × GErr) (h0 : internal_strconv_ParseUint_c16_c16 t = some r) (w0 : World) (F0 : Heap) (hv : F0.Sub w0) (hG : Glob F0) (hg : SV.goods F0 [.v (.string ⟨⟨t⟩⟩), .v (.int .i64 16), .v (.int .i64 16)]) (ρ : Nat → Nat) :
    Calls Tryz.prog 62 (SV.dens ρ [.v (.string ⟨⟨t⟩⟩), .v (.int .i64 16), .v (.int .i64 16)]).toArray w0 (Ret0 w0 F0 fun s => ∃ s1 s2, s = .tup [s1, s2] ∧ (s1 = .v (.int .u64 r.1)) ∧ (∃ q, s2 = .v (errV r.2 q))) := by
 refine calls_of_wp Tryz.func62 rfl ?_
 have hX := Cx.enter (D := No) (B := []) (L := []) (ρ := ρ) (N := 172) Tryz.ntmps62 [.v (.string ⟨⟨t⟩⟩), .v (.int .i64 16), .v (.int .i64 16)] (St.start hv) rfl hg (by kernel_rfl) (fun _ h => by cases h) (Nat.le_of_ble_eq_true rfl) No.unfix
 unfold internal_strconv_ParseUint_c16_c16 at h0
 refine Cx.rseq hX [] [0, 1, 2] (l' := [(0, .v (.string ⟨⟨t⟩⟩)), (1, .v (.int .i64 16)), (2, .v (.int .i64 16))]) (B' := []) (by kernel_rfl) fun ρ w a hX => ?_
 refine wp_seq_k fun K2 hK2 => ?_
 refine Cx.rseq hX [] [0, 1, 2, 19] (l' := [(0, .v (.string ⟨⟨t⟩⟩)), (1, .v (.int .i64 16)), (2, .v (.int .i64 16)), (19, .v (.bool (t == ([] : Str))))]) (B' := []) (by kernel_rfl) fun ρ w a hX => ?_
 refine Cx.cond hX (b := (t == ([] : Str))) (by kernel_rfl) (fun hb => ?_) (fun hb => ?_)
 ·have h0 := ite_tt h0 hb
  refine wp_seq_k fun K4 hK4 => ?_
  refine wp_region_list ?_
  refine hX.part [] 0 [] (l' := []) (B' := []) (by kernel_rfl) fun ρ w a hX => ?_
  refine hX.mkErr (lit := []) (by kernel_rfl) (by kernel_rfl) rfl (n := 2) (by kernel_rfl) (by kernel_rfl) fun a hX => ?_
  refine hX.part [] 2 [6, 7] (l' := [(6, .v (.int .u64 0)), (7, .v (errV (GErr.code 99 2) errY))]) (B' := []) (by kernel_rfl) fun ρ w a hX => ?_
  refine wpList_end ?_
  refine hK4 _ _ ?_
  refine wp_ret ?_
  have hr := Option.some.inj (show some _ = some _ from h0)
  subst hr
  exact hX.ret0 (ss := [.v (.int .u64 0), .v (errV (GErr.code 99 2) errY)]) (by kernel_rfl) (by kernel_rfl) ⟨_, _, rfl, rfl, ⟨errY, rfl⟩⟩
 ·have h0 := ite_ff h0 hb
  refine wp_skip ?_
  refine hK2 _ _ ?_
  refine Cx.rseq hX [] [0, 1, 2, 8] (l' := [(0, .v (.string ⟨⟨t⟩⟩)), (1, .v (.int .i64 16)), (2, .v (.int .i64 16)), (8, .v (.bool false))]) (B' := []) (by kernel_rfl) fun ρ w a hX => ?_
  refine Cx.rseq hX [] [0, 1, 2, 8, 9] (l' := [(0, .v (.string ⟨⟨t⟩⟩)), (1, .v (.int .i64 16)), (2, .v (.int .i64 16)), (8, .v (.bool false)), (9, .v (.string ⟨⟨t⟩⟩))]) (B' := []) (by kernel_rfl) fun ρ w a hX => ?_
  refine wp_seq_k fun K7 hK7 => ?_
  refine wp_block ?_
  refine Cx.rseq hX [2] [0, 1, 2, 8, 9, 25] (l' := [(0, .v (.string ⟨⟨t⟩⟩)), (1, .v (.int .i64 16)), (2, .v (.int .i64 16)), (8, .v (.bool false)), (9, .v (.string ⟨⟨t⟩⟩)), (25, .v (.bool true))]) (B' := []) (by kernel_rfl) fun ρ w a hX => ?_
  refine Cx.cond hX (b := true) (by kernel_rfl) (fun _ => ?_) (fun h => by cases h)
  refine wp_skip ?_
  refine hK7 _ _ ?_
  refine wp_seq_k fun K9 hK9 => ?_
  refine Cx.rseq hX [] [0, 1, 2, 8, 9, 77] (l' := [(0, .v (.string ⟨⟨t⟩⟩)), (1, .v (.int .i64 16)), (2, .v (.int .i64 16)), (8, .v (.bool false)), (9, .v (.string ⟨⟨t⟩⟩)), (77, .v (.bool false))]) (B' := []) (by kernel_rfl) fun ρ w a hX => ?_
  refine Cx.cond hX (b := false) (by kernel_rfl) (fun h => by cases h) (fun _ => ?_)
  refine Cx.rseq hX [2] [0, 1, 2, 8, 9, 83] (l' := [(0, .v (.string ⟨⟨t⟩⟩)), (1, .v (.int .i64 16)), (2, .v (.int .i64 16)), (8, .v (.bool false)), (9, .v (.string ⟨⟨t⟩⟩)), (83, .v (.bool false))]) (B' := []) (by kernel_rfl) fun ρ w a hX => ?_
  refine Cx.cond hX (b := false) (by kernel_rfl) (fun h => by cases h) (fun _ => ?_)
  refine wp_skip ?_
  refine hK9 _ _ ?_
  refine Cx.rseq hX [] [0, 1, 2, 8, 9] (l' := [(0, .v (.string ⟨⟨t⟩⟩)), (1, .v (.int .i64 16)), (2, .v (.int .i64 16)), (8, .v (.bool false)), (9, .v (.string ⟨⟨t⟩⟩))]) (B' := []) (by kernel_rfl) fun ρ w a hX => ?_
  refine wp_seq_k fun K13 hK13 => ?_
  refine Cx.rseq hX [] [0, 1, 2, 8, 9, 85] (l' := [(0, .v (.string ⟨⟨t⟩⟩)), (1, .v (.int .i64 16)), (2, .v (.int .i64 16)), (8, .v (.bool false)), (9, .v (.string ⟨⟨t⟩⟩)), (85, .v (.int .i64 16))]) (B' := []) (by kernel_rfl) fun ρ w a hX => ?_
  refine wp_block ?_
  refine Cx.rseq hX [] [0, 1, 2, 8, 9, 85, 90] (l' := [(0, .v (.string ⟨⟨t⟩⟩)), (1, .v (.int .i64 16)), (2, .v (.int .i64 16)), (8, .v (.bool false)), (9, .v (.string ⟨⟨t⟩⟩)), (85, .v (.int .i64 16)), (90, .v (.bool false))]) (B' := []) (by kernel_rfl) fun ρ w a hX => ?_
  refine Cx.cond hX (b := false) (by kernel_rfl) (fun h => by cases h) (fun _ => ?_)
  refine Cx.rseq hX [] [0, 1, 2, 8, 9, 92] (l' := [(0, .v (.string ⟨⟨t⟩⟩)), (1, .v (.int .i64 16)), (2, .v (.int .i64 16)), (8, .v (.bool false)), (9, .v (.string ⟨⟨t⟩⟩)), (92, .v (.bool true))]) (B' := []) (by kernel_rfl) fun ρ w a hX => ?_
  refine Cx.cond hX (b := true) (by kernel_rfl) (fun _ => ?_) (fun h => by cases h)
  refine Cx.region hX [] [0, 1, 2, 8, 9, 10] (l' := [(0, .v (.string ⟨⟨t⟩⟩)), (1, .v (.int .i64 16)), (2, .v (.int .i64 16)), (8, .v (.bool false)), (9, .v (.string ⟨⟨t⟩⟩)), (10, .v (.int .u64 1152921504606846976))]) (B' := []) (by kernel_rfl) fun ρ w a hX => ?_
  refine hK13 _ _ ?_
  refine wp_seq_k fun K17 hK17 => ?_
  refine wp_region_list ?_
  refine hX.part [] 2 [0, 1, 8, 9, 10, 95] (l' := [(0, .v (.string ⟨⟨t⟩⟩)), (1, .v (.int .i64 16)), (8, .v (.bool false)), (9, .v (.string ⟨⟨t⟩⟩)), (10, .v (.int .u64 1152921504606846976)), (95, .v (.int .u64 16))]) (B' := []) (by kernel_rfl) fun ρ w a hX => ?_
  obtain ⟨v1, hv1, h0⟩ := bnd_some h0
  refine hX.arith (lit := []) (by kernel_rfl) (by kernel_rfl) rfl (k := .u64) (k' := .u64) (m := 1) (n := 16) (r := v1) (by kernel_rfl) (by kernel_rfl) (by decide) hv1 fun a hX => ?_
  refine hX.part [] 2 [0, 1, 8, 9, 10, 11] (l' := [(0, .v (.string ⟨⟨t⟩⟩)), (1, .v (.int .i64 16)), (8, .v (.bool false)), (9, .v (.string ⟨⟨t⟩⟩)), (10, .v (.int .u64 1152921504606846976)), (11, .v (.int .u64 (IntKind.wrap .u64 (v1 - 1))))]) (B' := []) (by kernel_rfl) fun ρ w a hX => ?_
  refine wpList_end ?_
  refine hK17 _ _ ?_
  refine Cx.rseq hX [] [0, 1, 8, 9, 10, 11, 12] (l' := [(0, .v (.string ⟨⟨t⟩⟩)), (1, .v (.int .i64 16)), (8, .v (.bool false)), (9, .v (.string ⟨⟨t⟩⟩)), (10, .v (.int .u64 1152921504606846976)), (11, .v (.int .u64 (IntKind.wrap .u64 (v1 - 1)))), (12, .v (.bool false))]) (B' := []) (by kernel_rfl) fun ρ w a hX => ?_
  refine Cx.rseq hX [] [0, 1, 8, 9, 10, 11, 12, 13] (l' := [(0, .v (.string ⟨⟨t⟩⟩)), (1, .v (.int .i64 16)), (8, .v (.bool false)), (9, .v (.string ⟨⟨t⟩⟩)), (10, .v (.int .u64 1152921504606846976)), (11, .v (.int .u64 (IntKind.wrap .u64 (v1 - 1)))), (12, .v (.bool false)), (13, .v (.int .u64 0))]) (B' := []) (by kernel_rfl) fun ρ w a hX => ?_
  refine wp_seq_k fun K20 hK20 => ?_
  refine wp_seq_k fun K21 hK21 => ?_
  refine wp_region_list ?_
  refine hX.part [] 1 [1, 8, 9, 10, 11, 12, 13, 98] (l' := [(1, .v (.int .i64 16)), (8, .v (.bool false)), (9, .v (.string ⟨⟨t⟩⟩)), (10, .v (.int .u64 1152921504606846976)), (11, .v (.int .u64 (IntKind.wrap .u64 (v1 - 1)))), (12, .v (.bool false)), (13, .v (.int .u64 0)), (98, .v (.string ⟨⟨t⟩⟩))]) (B' := []) (by kernel_rfl) fun ρ w a hX => ?_
  refine hX.toBytes (lit := []) (by kernel_rfl) (by kernel_rfl) rfl (e := 5) (s := t) (by kernel_rfl) (by kernel_rfl) (by kernel_rfl) (by kernel_rfl) fun F A2 c3 w a hX => ?_
  refine hX.part [] 2 [1, 8, 9, 10, 11, 12, 13, 99, 100, 101] (l' := [(1, .v (.int .i64 16)), (8, .v (.bool false)), (9, .v (.string ⟨⟨t⟩⟩)), (10, .v (.int .u64 1152921504606846976)), (11, .v (.int .u64 (IntKind.wrap .u64 (v1 - 1)))), (12, .v (.bool false)), (13, .v (.int .u64 0)), (99, SV.sl kByte t A2 c3), (100, .v (.int .i64 ((t.length : Nat) : Int))), (101, .v (.int .i64 0))]) (B' := []) (by kernel_rfl) fun ρ w a hX => ?_
  refine wpList_end ?_
  refine hK21 _ _ ?_
  refine wp_block ?_
  have hX := hX.keeps [1, 8, 9, 10, 11, 12, 13, 99, 100, 101] (l' := [(1, .v (.int .i64 16)), (8, .v (.bool false)), (9, .v (.string ⟨⟨t⟩⟩)), (10, .v (.int .u64 1152921504606846976)), (11, .v (.int .u64 (IntKind.wrap .u64 (v1 - 1)))), (12, .v (.bool false)), (13, .v (.int .u64 0)), (99, SV.sl kByte t A2 c3), (100, .v (.int .i64 ((t.length : Nat) : Int))), (101, .v (.int .i64 0))]) (by kernel_rfl)
  obtain ⟨e1, he1, h0⟩ := bnd_some h0
  have E1x0 : ∀ (x32 : Bool) (x33 : Int), e1 = (.inl (x32, x33)) → ∀ (ρ : Nat → Nat) (w : World) (F : Heap) (a : Act), Cx 172 w0 F0 No w F [] [] ρ [(9, .v (.string ⟨⟨t⟩⟩)), (12, .v (.bool x32)), (13, .v (.int .u64 x33))] a → K20 a w := by
   intro x32 x33 he  ρ w F a hX
   replace he := he.symm
   subst he
   (try dsimp only at h0)
   refine hK20 _ _ ?_
   refine wp_seq_k fun K65 hK65 => ?_
   refine wp_seq_k fun K66 hK66 => ?_
   have J66 : ∀ (x36 : Bool), internal_strconv_ParseUint_c16_c16.j7 x33 x36 = some r → ∀ (ρ : Nat → Nat) (w : World) (F : Heap) (a : Act), Cx 172 w0 F0 No w F [] [] ρ [(13, .v (.int .u64 x33)), (169, .v (.bool x36))] a → K66 a w := by
    intro x36 h0  ρ w F a hX
    unfold internal_strconv_ParseUint_c16_c16.j7 at h0
    refine hK66 _ _ ?_
    refine Cx.cond hX (b := x36) (by kernel_rfl) (fun hb => ?_) (fun hb => ?_)
    ·have h0 := ite_tt h0 hb
     refine wp_seq_k fun K67 hK67 => ?_
     refine wp_region_list ?_
     refine hX.part [] 0 [] (l' := []) (B' := []) (by kernel_rfl) fun ρ w a hX => ?_
     refine hX.mkErr (lit := []) (by kernel_rfl) (by kernel_rfl) rfl (n := 2) (by kernel_rfl) (by kernel_rfl) fun a hX => ?_
     refine hX.part [] 2 [6, 7] (l' := [(6, .v (.int .u64 0)), (7, .v (errV (GErr.code 99 2) errY))]) (B' := []) (by kernel_rfl) fun ρ w a hX => ?_
     refine wpList_end ?_
     refine hK67 _ _ ?_
     refine wp_ret ?_
     have hr := Option.some.inj (show some _ = some _ from h0)
     subst hr
     exact hX.ret0 (ss := [.v (.int .u64 0), .v (errV (GErr.code 99 2) errY)]) (by kernel_rfl) (by kernel_rfl) ⟨_, _, rfl, rfl, ⟨errY, rfl⟩⟩
    ·have h0 := ite_ff h0 hb
     refine wp_skip ?_
     refine hK65 _ _ ?_
     refine Cx.rseq hX [] [6, 7] (l' := [(6, .v (.int .u64 x33)), (7, .v .nilIface)]) (B' := []) (by kernel_rfl) fun ρ w a hX => ?_
     refine wp_ret ?_
     have hr := Option.some.inj (show some _ = some _ from h0)
     subst hr
     exact hX.ret0 (ss := [.v (.int .u64 x33), .v .nilIface]) (by kernel_rfl) (by kernel_rfl) ⟨_, _, rfl, rfl, ⟨errY, rfl⟩⟩
   refine wp_region_list ?_
   refine hX.part [] 2 [9, 13, 165] (l' := [(9, .v (.string ⟨⟨t⟩⟩)), (13, .v (.int .u64 x33)), (165, .v (.bool x32))]) (B' := []) (by kernel_rfl) fun ρ w a hX => ?_
   refine ite_go h0 (fun hb h0 => ?_) (fun hb h0 => ?_)
   ·have hX := hX.relit 165 hb (by kernel_rfl)
    refine hX.part [1] 1 [13, 165, 166] (l' := [(13, .v (.int .u64 x33)), (165, .v (.bool true)), (166, .v (.string ⟨⟨t⟩⟩))]) (B' := []) (by kernel_rfl) fun ρ w a hX => ?_
    obtain ⟨v35, hv35, h0⟩ := bnd_some h0
    refine Cx.call0 hX (lit := [1]) (by kernel_rfl) rfl (by kernel_rfl) ⟨⟨_, Tryz.func71, by kernel_rfl, rfl⟩⟩ (ss := [.v (.string ⟨⟨t⟩⟩)]) (by kernel_rfl) [.v (.string ⟨⟨t⟩⟩)] rfl (fun hg => hg) (fun hv hle hg => internal_strconv_underscoreOK.ok t v35 hv35 _ _ hv (hG.mono hle) hg _) (fun s F w a hp hX => ?_)
    subst hp
    refine hX.part [1] 2 [13, 169] (l' := [(13, .v (.int .u64 x33)), (169, .v (.bool (!v35)))]) (B' := []) (by kernel_rfl) fun ρ w a hX => ?_
    refine wpList_end ?_
    have hX := hX.keeps [13, 169] (l' := [(13, .v (.int .u64 x33)), (169, .v (.bool (!v35)))]) (by kernel_rfl)
    exact J66 (!v35) h0  _ _ _ _ hX
   ·have hX := hX.relit 165 hb (by kernel_rfl)
    refine hX.part [1] 4 [13, 169] (l' := [(13, .v (.int .u64 x33)), (169, .v (.bool false))]) (B' := []) (by kernel_rfl) fun ρ w a hX => ?_
    refine wpList_end ?_
    have hX := hX.keeps [13, 169] (l' := [(13, .v (.int .u64 x33)), (169, .v (.bool false))]) (by kernel_rfl)
    exact J66 false h0  _ _ _ _ hX
  refine loop_go (fun (s : Bool × Int × Int) a w => match s with | (x15, x16, x17) => ∃ (ρ : Nat → Nat) (F : Heap), Cx 172 w0 F0 No w F [] [] ρ [(1, .v (.int .i64 16)), (8, .v (.bool false)), (9, .v (.string ⟨⟨t⟩⟩)), (10, .v (.int .u64 1152921504606846976)), (11, .v (.int .u64 (IntKind.wrap .u64 (v1 - 1)))), (12, .v (.bool x15)), (13, .v (.int .u64 x16)), (99, SV.sl kByte t A2 c3), (100, .v (.int .i64 ((t.length : Nat) : Int))), (101, .v (.int .i64 x17))] a) he1 (fun LW1 s o1 h1 hb1 hx1 a w hI => ?_) _ _ ?_
  ·obtain ⟨x15, x16, x17⟩ := s
   obtain ⟨ρ, F, hX⟩ := hI
   unfold internal_strconv_ParseUint_c16_c16.l1 at h1
   (try dsimp only at h1)
   refine Cx.rseq hX [] [1, 8, 9, 10, 11, 12, 13, 99, 100, 101, 102] (l' := [(1, .v (.int .i64 16)), (8, .v (.bool false)), (9, .v (.string ⟨⟨t⟩⟩)), (10, .v (.int .u64 1152921504606846976)), (11, .v (.int .u64 (IntKind.wrap .u64 (v1 - 1)))), (12, .v (.bool x15)), (13, .v (.int .u64 x16)), (99, SV.sl kByte t A2 c3), (100, .v (.int .i64 ((t.length : Nat) : Int))), (101, .v (.int .i64 x17)), (102, .v (.bool (decide (x17 < ((t.length : Nat) : Int)))))]) (B' := []) (by kernel_rfl) fun ρ w a hX => ?_
   refine wp_seq_k fun K44 hK44 => ?_
   refine Cx.cond hX (b := (decide (x17 < ((t.length : Nat) : Int)))) (by kernel_rfl) (fun hb => ?_) (fun hb => ?_)
   ·have h1 := ite_tt h1 hb
    refine wp_skip ?_
    refine hK44 _ _ ?_
    refine wp_seq_k fun K45 hK45 => ?_
    have J45 : ∀ (x27 : Bool) (x28 : Int), internal_strconv_ParseUint_c16_c16.j6 x17 x27 x28 = some o1 → ∀ (ρ : Nat → Nat) (w : World) (F : Heap) (a : Act), Cx 172 w0 F0 No w F [] [] ρ [(1, .v (.int .i64 16)), (8, .v (.bool false)), (9, .v (.string ⟨⟨t⟩⟩)), (10, .v (.int .u64 1152921504606846976)), (11, .v (.int .u64 (IntKind.wrap .u64 (v1 - 1)))), (12, .v (.bool x27)), (13, .v (.int .u64 x28)), (99, SV.sl kByte t A2 c3), (100, .v (.int .i64 ((t.length : Nat) : Int))), (101, .v (.int .i64 x17))] a → K45 a w := by
     intro x27 x28 h1  ρ w F a hX
     unfold internal_strconv_ParseUint_c16_c16.j6 at h1
     refine hK45 _ _ ?_
     refine Cx.region hX [] [1, 8, 9, 10, 11, 12, 13, 99, 100, 101] (l' := [(1, .v (.int .i64 16)), (8, .v (.bool false)), (9, .v (.string ⟨⟨t⟩⟩)), (10, .v (.int .u64 1152921504606846976)), (11, .v (.int .u64 (IntKind.wrap .u64 (v1 - 1)))), (12, .v (.bool x27)), (13, .v (.int .u64 x28)), (99, SV.sl kByte t A2 c3), (100, .v (.int .i64 ((t.length : Nat) : Int))), (101, .v (.int .i64 (IntKind.wrap .i64 (x17 + 1))))]) (B' := []) (by kernel_rfl) fun ρ w a hX => ?_
     have hX := hX.keeps [1, 8, 9, 10, 11, 12, 13, 99, 100, 101] (l' := [(1, .v (.int .i64 16)), (8, .v (.bool false)), (9, .v (.string ⟨⟨t⟩⟩)), (10, .v (.int .u64 1152921504606846976)), (11, .v (.int .u64 (IntKind.wrap .u64 (v1 - 1)))), (12, .v (.bool x27)), (13, .v (.int .u64 x28)), (99, SV.sl kByte t A2 c3), (100, .v (.int .i64 ((t.length : Nat) : Int))), (101, .v (.int .i64 (IntKind.wrap .i64 (x17 + 1))))]) (by kernel_rfl)
     exact hb1 (x27, x28, (IntKind.wrap .i64 (x17 + 1))) (out_eq h1) _ _ ⟨_, _, hX⟩
    refine wp_block ?_
    refine wp_seq_k fun K46 hK46 => ?_
    refine wp_region_list ?_
    refine hX.part [] 0 [1, 8, 9, 10, 11, 12, 13, 99, 100, 101] (l' := [(1, .v (.int .i64 16)), (8, .v (.bool false)), (9, .v (.string ⟨⟨t⟩⟩)), (10, .v (.int .u64 1152921504606846976)), (11, .v (.int .u64 (IntKind.wrap .u64 (v1 - 1)))), (12, .v (.bool x15)), (13, .v (.int .u64 x16)), (99, SV.sl kByte t A2 c3), (100, .v (.int .i64 ((t.length : Nat) : Int))), (101, .v (.int .i64 x17))]) (B' := []) (by kernel_rfl) fun ρ w a hX => ?_
    obtain ⟨v18, hv18, h1⟩ := bnd_some h1
    refine hX.idxSl (lit := []) (by kernel_rfl) (by kernel_rfl) rfl (d := kByte) (e := 5) (xs := t) (A := A2) (c := c3) (k := .i64) (n := x17) (v := v18) (by kernel_rfl) (by kernel_rfl) (by kernel_rfl) (by kernel_rfl) hv18 fun y19 b20 o21 a hX => ?_
    refine hX.part [] 2 [1, 8, 9, 10, 11, 12, 13, 15, 99, 100, 101] (l' := [(1, .v (.int .i64 16)), (8, .v (.bool false)), (9, .v (.string ⟨⟨t⟩⟩)), (10, .v (.int .u64 1152921504606846976)), (11, .v (.int .u64 (IntKind.wrap .u64 (v1 - 1)))), (12, .v (.bool x15)), (13, .v (.int .u64 x16)), (15, .v (.int .u8 ((v18.toNat : Nat) : Int))), (99, SV.sl kByte t A2 c3), (100, .v (.int .i64 ((t.length : Nat) : Int))), (101, .v (.int .i64 x17))]) (B' := []) (by kernel_rfl) fun ρ w a hX => ?_
    refine wpList_end ?_
    refine hK46 _ _ ?_
    refine Cx.rseq hX [] [1, 8, 9, 10, 11, 12, 13, 15, 99, 100, 101] (l' := [(1, .v (.int .i64 16)), (8, .v (.bool false)), (9, .v (.string ⟨⟨t⟩⟩)), (10, .v (.int .u64 1152921504606846976)), (11, .v (.int .u64 (IntKind.wrap .u64 (v1 - 1)))), (12, .v (.bool x15)), (13, .v (.int .u64 x16)), (15, .v (.int .u8 ((v18.toNat : Nat) : Int))), (99, SV.sl kByte t A2 c3), (100, .v (.int .i64 ((t.length : Nat) : Int))), (101, .v (.int .i64 x17))]) (B' := []) (by kernel_rfl) fun ρ w a hX => ?_
    refine wp_seq_k fun K48 hK48 => ?_
    have J48 : ∀ (x26 : Int), internal_strconv_ParseUint_c16_c16.j5 v1 x15 x16 x17 x26 = some o1 → ∀ (ρ : Nat → Nat) (w : World) (F : Heap) (a : Act), Cx 172 w0 F0 No w F [] [] ρ [(1, .v (.int .i64 16)), (8, .v (.bool false)), (9, .v (.string ⟨⟨t⟩⟩)), (10, .v (.int .u64 1152921504606846976)), (11, .v (.int .u64 (IntKind.wrap .u64 (v1 - 1)))), (12, .v (.bool x15)), (13, .v (.int .u64 x16)), (16, .v (.int .u8 x26)), (99, SV.sl kByte t A2 c3), (100, .v (.int .i64 ((t.length : Nat) : Int))), (101, .v (.int .i64 x17))] a → K48 a w := by
     intro x26 h1  ρ w F a hX
     unfold internal_strconv_ParseUint_c16_c16.j5 at h1
     refine hK48 _ _ ?_
     refine wp_seq_k fun K54 hK54 => ?_
     refine Cx.rseq hX [] [1, 8, 9, 10, 11, 12, 13, 16, 99, 100, 101, 137] (l' := [(1, .v (.int .i64 16)), (8, .v (.bool false)), (9, .v (.string ⟨⟨t⟩⟩)), (10, .v (.int .u64 1152921504606846976)), (11, .v (.int .u64 (IntKind.wrap .u64 (v1 - 1)))), (12, .v (.bool x15)), (13, .v (.int .u64 x16)), (16, .v (.int .u8 x26)), (99, SV.sl kByte t A2 c3), (100, .v (.int .i64 ((t.length : Nat) : Int))), (101, .v (.int .i64 x17)), (137, .v (.bool (decide (x26 ≥ 16))))]) (B' := []) (by kernel_rfl) fun ρ w a hX => ?_
     refine Cx.cond hX (b := (decide (x26 ≥ 16))) (by kernel_rfl) (fun hb => ?_) (fun hb => ?_)
     ·have h1 := ite_tt h1 hb
      refine wp_seq_k fun K56 hK56 => ?_
      refine wp_region_list ?_
      refine hX.part [] 0 [] (l' := []) (B' := []) (by kernel_rfl) fun ρ w a hX => ?_
      refine hX.mkErr (lit := []) (by kernel_rfl) (by kernel_rfl) rfl (n := 2) (by kernel_rfl) (by kernel_rfl) fun a hX => ?_
      refine hX.part [] 2 [6, 7] (l' := [(6, .v (.int .u64 0)), (7, .v (errV (GErr.code 99 2) errY))]) (B' := []) (by kernel_rfl) fun ρ w a hX => ?_
      refine wpList_end ?_
      refine hK56 _ _ ?_
      refine wp_ret ?_
      have he := hx1 _ (out_eq h1)
      subst he
      (try dsimp only at h0)
      have hr := Option.some.inj (show some _ = some _ from h0)
      subst hr
      exact hX.ret0 (ss := [.v (.int .u64 0), .v (errV (GErr.code 99 2) errY)]) (by kernel_rfl) (by kernel_rfl) ⟨_, _, rfl, rfl, ⟨errY, rfl⟩⟩
     ·have h1 := ite_ff h1 hb
      refine wp_skip ?_
      refine hK54 _ _ ?_
      refine wp_seq_k fun K57 hK57 => ?_
      refine Cx.rseq hX [] [1, 8, 9, 10, 11, 12, 13, 16, 99, 100, 101, 141] (l' := [(1, .v (.int .i64 16)), (8, .v (.bool false)), (9, .v (.string ⟨⟨t⟩⟩)), (10, .v (.int .u64 1152921504606846976)), (11, .v (.int .u64 (IntKind.wrap .u64 (v1 - 1)))), (12, .v (.bool x15)), (13, .v (.int .u64 x16)), (16, .v (.int .u8 x26)), (99, SV.sl kByte t A2 c3), (100, .v (.int .i64 ((t.length : Nat) : Int))), (101, .v (.int .i64 x17)), (141, .v (.bool (decide (x16 ≥ 1152921504606846976))))]) (B' := []) (by kernel_rfl) fun ρ w a hX => ?_
      refine Cx.cond hX (b := (decide (x16 ≥ 1152921504606846976))) (by kernel_rfl) (fun hb => ?_) (fun hb => ?_)
      ·have h1 := ite_tt h1 hb
       refine wp_seq_k fun K59 hK59 => ?_
       refine wp_region_list ?_
       refine hX.part [] 1 [142] (l' := [(142, .v (.int .u64 (IntKind.wrap .u64 (v1 - 1))))]) (B' := []) (by kernel_rfl) fun ρ w a hX => ?_
       refine hX.mkErr (lit := []) (by kernel_rfl) (by kernel_rfl) rfl (n := 1) (by kernel_rfl) (by kernel_rfl) fun a hX => ?_
       refine hX.part [] 2 [6, 7] (l' := [(6, .v (.int .u64 (IntKind.wrap .u64 (v1 - 1)))), (7, .v (errV (GErr.code 99 1) errY))]) (B' := []) (by kernel_rfl) fun ρ w a hX => ?_
       refine wpList_end ?_
       refine hK59 _ _ ?_
       refine wp_ret ?_
       have he := hx1 _ (out_eq h1)
       subst he
       (try dsimp only at h0)
       have hr := Option.some.inj (show some _ = some _ from h0)
       subst hr
       exact hX.ret0 (ss := [.v (.int .u64 (IntKind.wrap .u64 (v1 - 1))), .v (errV (GErr.code 99 1) errY)]) (by kernel_rfl) (by kernel_rfl) ⟨_, _, rfl, rfl, ⟨errY, rfl⟩⟩
      ·have h1 := ite_ff h1 hb
       refine wp_skip ?_
       refine hK57 _ _ ?_
       refine Cx.rseq hX [] [1, 8, 9, 10, 11, 12, 13, 16, 99, 100, 101] (l' := [(1, .v (.int .i64 16)), (8, .v (.bool false)), (9, .v (.string ⟨⟨t⟩⟩)), (10, .v (.int .u64 1152921504606846976)), (11, .v (.int .u64 (IntKind.wrap .u64 (v1 - 1)))), (12, .v (.bool x15)), (13, .v (.int .u64 (IntKind.wrap .u64 (x16 * 16)))), (16, .v (.int .u8 x26)), (99, SV.sl kByte t A2 c3), (100, .v (.int .i64 ((t.length : Nat) : Int))), (101, .v (.int .i64 x17))]) (B' := []) (by kernel_rfl) fun ρ w a hX => ?_
       refine Cx.rseq hX [] [1, 8, 9, 10, 11, 12, 13, 17, 99, 100, 101] (l' := [(1, .v (.int .i64 16)), (8, .v (.bool false)), (9, .v (.string ⟨⟨t⟩⟩)), (10, .v (.int .u64 1152921504606846976)), (11, .v (.int .u64 (IntKind.wrap .u64 (v1 - 1)))), (12, .v (.bool x15)), (13, .v (.int .u64 (IntKind.wrap .u64 (x16 * 16)))), (17, .v (.int .u64 (IntKind.wrap .u64 ((IntKind.wrap .u64 (x16 * 16)) + (IntKind.wrap .u64 x26))))), (99, SV.sl kByte t A2 c3), (100, .v (.int .i64 ((t.length : Nat) : Int))), (101, .v (.int .i64 x17))]) (B' := []) (by kernel_rfl) fun ρ w a hX => ?_
       refine wp_seq_k fun K62 hK62 => ?_
       refine Cx.rseq hX [] [1, 8, 9, 10, 11, 12, 17, 99, 100, 101, 159] (l' := [(1, .v (.int .i64 16)), (8, .v (.bool false)), (9, .v (.string ⟨⟨t⟩⟩)), (10, .v (.int .u64 1152921504606846976)), (11, .v (.int .u64 (IntKind.wrap .u64 (v1 - 1)))), (12, .v (.bool x15)), (17, .v (.int .u64 (IntKind.wrap .u64 ((IntKind.wrap .u64 (x16 * 16)) + (IntKind.wrap .u64 x26))))), (99, SV.sl kByte t A2 c3), (100, .v (.int .i64 ((t.length : Nat) : Int))), (101, .v (.int .i64 x17)), (159, .v (.bool ((decide ((IntKind.wrap .u64 ((IntKind.wrap .u64 (x16 * 16)) + (IntKind.wrap .u64 x26))) < (IntKind.wrap .u64 (x16 * 16)))) || (decide ((IntKind.wrap .u64 ((IntKind.wrap .u64 (x16 * 16)) + (IntKind.wrap .u64 x26))) > (IntKind.wrap .u64 (v1 - 1)))))))]) (B' := []) (by kernel_rfl) fun ρ w a hX => ?_
       refine Cx.cond hX (b := ((decide ((IntKind.wrap .u64 ((IntKind.wrap .u64 (x16 * 16)) + (IntKind.wrap .u64 x26))) < (IntKind.wrap .u64 (x16 * 16)))) || (decide ((IntKind.wrap .u64 ((IntKind.wrap .u64 (x16 * 16)) + (IntKind.wrap .u64 x26))) > (IntKind.wrap .u64 (v1 - 1)))))) (by kernel_rfl) (fun hb => ?_) (fun hb => ?_)
       ·have h1 := ite_tt h1 hb
        refine wp_seq_k fun K64 hK64 => ?_
        refine wp_region_list ?_
        refine hX.part [] 1 [160] (l' := [(160, .v (.int .u64 (IntKind.wrap .u64 (v1 - 1))))]) (B' := []) (by kernel_rfl) fun ρ w a hX => ?_
        refine hX.mkErr (lit := []) (by kernel_rfl) (by kernel_rfl) rfl (n := 1) (by kernel_rfl) (by kernel_rfl) fun a hX => ?_
        refine hX.part [] 2 [6, 7] (l' := [(6, .v (.int .u64 (IntKind.wrap .u64 (v1 - 1)))), (7, .v (errV (GErr.code 99 1) errY))]) (B' := []) (by kernel_rfl) fun ρ w a hX => ?_
        refine wpList_end ?_
        refine hK64 _ _ ?_
        refine wp_ret ?_
        have he := hx1 _ (out_eq h1)
        subst he
        (try dsimp only at h0)
        have hr := Option.some.inj (show some _ = some _ from h0)
        subst hr
        exact hX.ret0 (ss := [.v (.int .u64 (IntKind.wrap .u64 (v1 - 1))), .v (errV (GErr.code 99 1) errY)]) (by kernel_rfl) (by kernel_rfl) ⟨_, _, rfl, rfl, ⟨errY, rfl⟩⟩
       ·have h1 := ite_ff h1 hb
        refine wp_skip ?_
        refine hK62 _ _ ?_
        refine Cx.region hX [] [1, 8, 9, 10, 11, 12, 13, 99, 100, 101] (l' := [(1, .v (.int .i64 16)), (8, .v (.bool false)), (9, .v (.string ⟨⟨t⟩⟩)), (10, .v (.int .u64 1152921504606846976)), (11, .v (.int .u64 (IntKind.wrap .u64 (v1 - 1)))), (12, .v (.bool x15)), (13, .v (.int .u64 (IntKind.wrap .u64 ((IntKind.wrap .u64 (x16 * 16)) + (IntKind.wrap .u64 x26))))), (99, SV.sl kByte t A2 c3), (100, .v (.int .i64 ((t.length : Nat) : Int))), (101, .v (.int .i64 x17))]) (B' := []) (by kernel_rfl) fun ρ w a hX => ?_
        have hX := hX.keeps [1, 8, 9, 10, 11, 12, 13, 99, 100, 101] (l' := [(1, .v (.int .i64 16)), (8, .v (.bool false)), (9, .v (.string ⟨⟨t⟩⟩)), (10, .v (.int .u64 1152921504606846976)), (11, .v (.int .u64 (IntKind.wrap .u64 (v1 - 1)))), (12, .v (.bool x15)), (13, .v (.int .u64 (IntKind.wrap .u64 ((IntKind.wrap .u64 (x16 * 16)) + (IntKind.wrap .u64 x26))))), (99, SV.sl kByte t A2 c3), (100, .v (.int .i64 ((t.length : Nat) : Int))), (101, .v (.int .i64 x17))]) (by kernel_rfl)
        exact J45 x15 (IntKind.wrap .u64 ((IntKind.wrap .u64 (x16 * 16)) + (IntKind.wrap .u64 x26))) h1  _ _ _ _ hX
    refine wp_block ?_
    refine Cx.rseq hX [] [1, 8, 9, 10, 11, 12, 13, 15, 99, 100, 101, 106] (l' := [(1, .v (.int .i64 16)), (8, .v (.bool false)), (9, .v (.string ⟨⟨t⟩⟩)), (10, .v (.int .u64 1152921504606846976)), (11, .v (.int .u64 (IntKind.wrap .u64 (v1 - 1)))), (12, .v (.bool x15)), (13, .v (.int .u64 x16)), (15, .v (.int .u8 ((v18.toNat : Nat) : Int))), (99, SV.sl kByte t A2 c3), (100, .v (.int .i64 ((t.length : Nat) : Int))), (101, .v (.int .i64 x17)), (106, .v (.bool ((((v18.toNat : Nat) : Int) == 95) && false)))]) (B' := []) (by kernel_rfl) fun ρ w a hX => ?_
    refine Cx.cond hX (b := ((((v18.toNat : Nat) : Int) == 95) && false)) (by kernel_rfl) (fun hb => ?_) (fun hb => ?_)
    ·have h1 := ite_tt h1 hb
     refine Cx.rseq hX [] [1, 8, 9, 10, 11, 12, 13, 99, 100, 101] (l' := [(1, .v (.int .i64 16)), (8, .v (.bool false)), (9, .v (.string ⟨⟨t⟩⟩)), (10, .v (.int .u64 1152921504606846976)), (11, .v (.int .u64 (IntKind.wrap .u64 (v1 - 1)))), (12, .v (.bool true)), (13, .v (.int .u64 x16)), (99, SV.sl kByte t A2 c3), (100, .v (.int .i64 ((t.length : Nat) : Int))), (101, .v (.int .i64 x17))]) (B' := []) (by kernel_rfl) fun ρ w a hX => ?_
     refine wp_exit ?_
     have hX := hX.keeps [1, 8, 9, 10, 11, 12, 13, 99, 100, 101] (l' := [(1, .v (.int .i64 16)), (8, .v (.bool false)), (9, .v (.string ⟨⟨t⟩⟩)), (10, .v (.int .u64 1152921504606846976)), (11, .v (.int .u64 (IntKind.wrap .u64 (v1 - 1)))), (12, .v (.bool true)), (13, .v (.int .u64 x16)), (99, SV.sl kByte t A2 c3), (100, .v (.int .i64 ((t.length : Nat) : Int))), (101, .v (.int .i64 x17))]) (by kernel_rfl)
     exact J45 true x16 h1  _ _ _ _ hX
    ·have h1 := ite_ff h1 hb
     refine Cx.rseq hX [] [1, 8, 9, 10, 11, 12, 13, 15, 99, 100, 101, 112] (l' := [(1, .v (.int .i64 16)), (8, .v (.bool false)), (9, .v (.string ⟨⟨t⟩⟩)), (10, .v (.int .u64 1152921504606846976)), (11, .v (.int .u64 (IntKind.wrap .u64 (v1 - 1)))), (12, .v (.bool x15)), (13, .v (.int .u64 x16)), (15, .v (.int .u8 ((v18.toNat : Nat) : Int))), (99, SV.sl kByte t A2 c3), (100, .v (.int .i64 ((t.length : Nat) : Int))), (101, .v (.int .i64 x17)), (112, .v (.bool ((decide (48 ≤ ((v18.toNat : Nat) : Int))) && (decide (((v18.toNat : Nat) : Int) ≤ 57)))))]) (B' := []) (by kernel_rfl) fun ρ w a hX => ?_
     refine Cx.cond hX (b := ((decide (48 ≤ ((v18.toNat : Nat) : Int))) && (decide (((v18.toNat : Nat) : Int) ≤ 57)))) (by kernel_rfl) (fun hb => ?_) (fun hb => ?_)
     ·have h1 := ite_tt h1 hb
      refine Cx.region hX [] [1, 8, 9, 10, 11, 12, 13, 16, 99, 100, 101] (l' := [(1, .v (.int .i64 16)), (8, .v (.bool false)), (9, .v (.string ⟨⟨t⟩⟩)), (10, .v (.int .u64 1152921504606846976)), (11, .v (.int .u64 (IntKind.wrap .u64 (v1 - 1)))), (12, .v (.bool x15)), (13, .v (.int .u64 x16)), (16, .v (.int .u8 (IntKind.wrap .u8 (((v18.toNat : Nat) : Int) - 48)))), (99, SV.sl kByte t A2 c3), (100, .v (.int .i64 ((t.length : Nat) : Int))), (101, .v (.int .i64 x17))]) (B' := []) (by kernel_rfl) fun ρ w a hX => ?_
      have hX := hX.keeps [1, 8, 9, 10, 11, 12, 13, 16, 99, 100, 101] (l' := [(1, .v (.int .i64 16)), (8, .v (.bool false)), (9, .v (.string ⟨⟨t⟩⟩)), (10, .v (.int .u64 1152921504606846976)), (11, .v (.int .u64 (IntKind.wrap .u64 (v1 - 1)))), (12, .v (.bool x15)), (13, .v (.int .u64 x16)), (16, .v (.int .u8 (IntKind.wrap .u8 (((v18.toNat : Nat) : Int) - 48)))), (99, SV.sl kByte t A2 c3), (100, .v (.int .i64 ((t.length : Nat) : Int))), (101, .v (.int .i64 x17))]) (by kernel_rfl)
      exact J48 (IntKind.wrap .u8 (((v18.toNat : Nat) : Int) - 48)) h1  _ _ _ _ hX
     ·have h1 := ite_ff h1 hb
      refine wp_seq_k fun K52 hK52 => ?_
      have J52 : ∀ (x24 : Bool), internal_strconv_ParseUint_c16_c16.j4 v1 x15 x16 x17 v18 x24 = some o1 → ∀ (ρ : Nat → Nat) (w : World) (F : Heap) (a : Act), Cx 172 w0 F0 No w F [] [] ρ [(1, .v (.int .i64 16)), (8, .v (.bool false)), (9, .v (.string ⟨⟨t⟩⟩)), (10, .v (.int .u64 1152921504606846976)), (11, .v (.int .u64 (IntKind.wrap .u64 (v1 - 1)))), (12, .v (.bool x15)), (13, .v (.int .u64 x16)), (15, .v (.int .u8 ((v18.toNat : Nat) : Int))), (99, SV.sl kByte t A2 c3), (100, .v (.int .i64 ((t.length : Nat) : Int))), (101, .v (.int .i64 x17)), (121, .v (.bool x24))] a → K52 a w := by
       intro x24 h1  ρ w F a hX
       unfold internal_strconv_ParseUint_c16_c16.j4 at h1
       refine hK52 _ _ ?_
       refine Cx.cond hX (b := x24) (by kernel_rfl) (fun hb => ?_) (fun hb => ?_)
       ·have h1 := ite_tt h1 hb
        refine wp_region_list ?_
        refine hX.part [] 1 [1, 8, 9, 10, 11, 12, 13, 99, 100, 101, 130] (l' := [(1, .v (.int .i64 16)), (8, .v (.bool false)), (9, .v (.string ⟨⟨t⟩⟩)), (10, .v (.int .u64 1152921504606846976)), (11, .v (.int .u64 (IntKind.wrap .u64 (v1 - 1)))), (12, .v (.bool x15)), (13, .v (.int .u64 x16)), (99, SV.sl kByte t A2 c3), (100, .v (.int .i64 ((t.length : Nat) : Int))), (101, .v (.int .i64 x17)), (130, .v (.int .u8 ((v18.toNat : Nat) : Int)))]) (B' := []) (by kernel_rfl) fun ρ w a hX => ?_
        obtain ⟨v25, hv25, h1⟩ := bnd_some h1
        refine Cx.call0 hX (lit := []) (by kernel_rfl) rfl (by kernel_rfl) ⟨⟨_, Tryz.func70, by kernel_rfl, rfl⟩⟩ (ss := [.v (.int .u8 ((v18.toNat : Nat) : Int))]) (by kernel_rfl) [.v (.int .u8 ((v18.toNat : Nat) : Int))] rfl (fun hg => hg) (fun hv hle hg => internal_strconv_lower.ok ((v18.toNat : Nat) : Int) v25 hv25 _ _ hv (hG.mono hle) hg _) (fun s F w a hp hX => ?_)
        subst hp
        refine hX.part [] 3 [1, 8, 9, 10, 11, 12, 13, 16, 99, 100, 101] (l' := [(1, .v (.int .i64 16)), (8, .v (.bool false)), (9, .v (.string ⟨⟨t⟩⟩)), (10, .v (.int .u64 1152921504606846976)), (11, .v (.int .u64 (IntKind.wrap .u64 (v1 - 1)))), (12, .v (.bool x15)), (13, .v (.int .u64 x16)), (16, .v (.int .u8 (IntKind.wrap .u8 ((IntKind.wrap .u8 (v25 - 97)) + 10)))), (99, SV.sl kByte t A2 c3), (100, .v (.int .i64 ((t.length : Nat) : Int))), (101, .v (.int .i64 x17))]) (B' := []) (by kernel_rfl) fun ρ w a hX => ?_
        refine wpList_end ?_
        have hX := hX.keeps [1, 8, 9, 10, 11, 12, 13, 16, 99, 100, 101] (l' := [(1, .v (.int .i64 16)), (8, .v (.bool false)), (9, .v (.string ⟨⟨t⟩⟩)), (10, .v (.int .u64 1152921504606846976)), (11, .v (.int .u64 (IntKind.wrap .u64 (v1 - 1)))), (12, .v (.bool x15)), (13, .v (.int .u64 x16)), (16, .v (.int .u8 (IntKind.wrap .u8 ((IntKind.wrap .u8 (v25 - 97)) + 10)))), (99, SV.sl kByte t A2 c3), (100, .v (.int .i64 ((t.length : Nat) : Int))), (101, .v (.int .i64 x17))]) (by kernel_rfl)
        exact J48 (IntKind.wrap .u8 ((IntKind.wrap .u8 (v25 - 97)) + 10)) h1  _ _ _ _ hX
       ·have h1 := ite_ff h1 hb
        refine wp_seq_k fun K53 hK53 => ?_
        refine wp_region_list ?_
        refine hX.part [] 0 [] (l' := []) (B' := []) (by kernel_rfl) fun ρ w a hX => ?_
        refine hX.mkErr (lit := []) (by kernel_rfl) (by kernel_rfl) rfl (n := 2) (by kernel_rfl) (by kernel_rfl) fun a hX => ?_
        refine hX.part [] 2 [6, 7] (l' := [(6, .v (.int .u64 0)), (7, .v (errV (GErr.code 99 2) errY))]) (B' := []) (by kernel_rfl) fun ρ w a hX => ?_
        refine wpList_end ?_
        refine hK53 _ _ ?_
        refine wp_ret ?_
        have he := hx1 _ (out_eq h1)
        subst he
        (try dsimp only at h0)
        have hr := Option.some.inj (show some _ = some _ from h0)
        subst hr
        exact hX.ret0 (ss := [.v (.int .u64 0), .v (errV (GErr.code 99 2) errY)]) (by kernel_rfl) (by kernel_rfl) ⟨_, _, rfl, rfl, ⟨errY, rfl⟩⟩
      refine wp_region_list ?_
      refine hX.part [] 1 [1, 8, 9, 10, 11, 12, 13, 15, 99, 100, 101, 122] (l' := [(1, .v (.int .i64 16)), (8, .v (.bool false)), (9, .v (.string ⟨⟨t⟩⟩)), (10, .v (.int .u64 1152921504606846976)), (11, .v (.int .u64 (IntKind.wrap .u64 (v1 - 1)))), (12, .v (.bool x15)), (13, .v (.int .u64 x16)), (15, .v (.int .u8 ((v18.toNat : Nat) : Int))), (99, SV.sl kByte t A2 c3), (100, .v (.int .i64 ((t.length : Nat) : Int))), (101, .v (.int .i64 x17)), (122, .v (.int .u8 ((v18.toNat : Nat) : Int)))]) (B' := []) (by kernel_rfl) fun ρ w a hX => ?_
      obtain ⟨v22, hv22, h1⟩ := bnd_some h1
      refine Cx.call0 hX (lit := []) (by kernel_rfl) rfl (by kernel_rfl) ⟨⟨_, Tryz.func70, by kernel_rfl, rfl⟩⟩ (ss := [.v (.int .u8 ((v18.toNat : Nat) : Int))]) (by kernel_rfl) [.v (.int .u8 ((v18.toNat : Nat) : Int))] rfl (fun hg => hg) (fun hv hle hg => internal_strconv_lower.ok ((v18.toNat : Nat) : Int) v22 hv22 _ _ hv (hG.mono hle) hg _) (fun s F w a hp hX => ?_)
      subst hp
      refine hX.part [] 2 [1, 8, 9, 10, 11, 12, 13, 15, 99, 100, 101, 125] (l' := [(1, .v (.int .i64 16)), (8, .v (.bool false)), (9, .v (.string ⟨⟨t⟩⟩)), (10, .v (.int .u64 1152921504606846976)), (11, .v (.int .u64 (IntKind.wrap .u64 (v1 - 1)))), (12, .v (.bool x15)), (13, .v (.int .u64 x16)), (15, .v (.int .u8 ((v18.toNat : Nat) : Int))), (99, SV.sl kByte t A2 c3), (100, .v (.int .i64 ((t.length : Nat) : Int))), (101, .v (.int .i64 x17)), (125, .v (.bool (decide (97 ≤ v22))))]) (B' := []) (by kernel_rfl) fun ρ w a hX => ?_
      refine ite_go h1 (fun hb h1 => ?_) (fun hb h1 => ?_)
      ·have hX := hX.relit 125 hb (by kernel_rfl)
       refine hX.part [3] 1 [1, 8, 9, 10, 11, 12, 13, 15, 99, 100, 101, 125, 126] (l' := [(1, .v (.int .i64 16)), (8, .v (.bool false)), (9, .v (.string ⟨⟨t⟩⟩)), (10, .v (.int .u64 1152921504606846976)), (11, .v (.int .u64 (IntKind.wrap .u64 (v1 - 1)))), (12, .v (.bool x15)), (13, .v (.int .u64 x16)), (15, .v (.int .u8 ((v18.toNat : Nat) : Int))), (99, SV.sl kByte t A2 c3), (100, .v (.int .i64 ((t.length : Nat) : Int))), (101, .v (.int .i64 x17)), (125, .v (.bool true)), (126, .v (.int .u8 ((v18.toNat : Nat) : Int)))]) (B' := []) (by kernel_rfl) fun ρ w a hX => ?_
       obtain ⟨v23, hv23, h1⟩ := bnd_some h1
       refine Cx.call0 hX (lit := [3]) (by kernel_rfl) rfl (by kernel_rfl) ⟨⟨_, Tryz.func70, by kernel_rfl, rfl⟩⟩ (ss := [.v (.int .u8 ((v18.toNat : Nat) : Int))]) (by kernel_rfl) [.v (.int .u8 ((v18.toNat : Nat) : Int))] rfl (fun hg => hg) (fun hv hle hg => internal_strconv_lower.ok ((v18.toNat : Nat) : Int) v23 hv23 _ _ hv (hG.mono hle) hg _) (fun s F w a hp hX => ?_)
       subst hp
       refine hX.part [3] 3 [1, 8, 9, 10, 11, 12, 13, 15, 99, 100, 101, 121] (l' := [(1, .v (.int .i64 16)), (8, .v (.bool false)), (9, .v (.string ⟨⟨t⟩⟩)), (10, .v (.int .u64 1152921504606846976)), (11, .v (.int .u64 (IntKind.wrap .u64 (v1 - 1)))), (12, .v (.bool x15)), (13, .v (.int .u64 x16)), (15, .v (.int .u8 ((v18.toNat : Nat) : Int))), (99, SV.sl kByte t A2 c3), (100, .v (.int .i64 ((t.length : Nat) : Int))), (101, .v (.int .i64 x17)), (121, .v (.bool (decide (v23 ≤ 122))))]) (B' := []) (by kernel_rfl) fun ρ w a hX => ?_
       refine wpList_end ?_
       have hX := hX.keeps [1, 8, 9, 10, 11, 12, 13, 15, 99, 100, 101, 121] (l' := [(1, .v (.int .i64 16)), (8, .v (.bool false)), (9, .v (.string ⟨⟨t⟩⟩)), (10, .v (.int .u64 1152921504606846976)), (11, .v (.int .u64 (IntKind.wrap .u64 (v1 - 1)))), (12, .v (.bool x15)), (13, .v (.int .u64 x16)), (15, .v (.int .u8 ((v18.toNat : Nat) : Int))), (99, SV.sl kByte t A2 c3), (100, .v (.int .i64 ((t.length : Nat) : Int))), (101, .v (.int .i64 x17)), (121, .v (.bool (decide (v23 ≤ 122))))]) (by kernel_rfl)
       exact J52 (decide (v23 ≤ 122)) h1  _ _ _ _ hX
      ·have hX := hX.relit 125 hb (by kernel_rfl)
       refine hX.part [3] 5 [1, 8, 9, 10, 11, 12, 13, 15, 99, 100, 101, 121] (l' := [(1, .v (.int .i64 16)), (8, .v (.bool false)), (9, .v (.string ⟨⟨t⟩⟩)), (10, .v (.int .u64 1152921504606846976)), (11, .v (.int .u64 (IntKind.wrap .u64 (v1 - 1)))), (12, .v (.bool x15)), (13, .v (.int .u64 x16)), (15, .v (.int .u8 ((v18.toNat : Nat) : Int))), (99, SV.sl kByte t A2 c3), (100, .v (.int .i64 ((t.length : Nat) : Int))), (101, .v (.int .i64 x17)), (121, .v (.bool false))]) (B' := []) (by kernel_rfl) fun ρ w a hX => ?_
       refine wpList_end ?_
       have hX := hX.keeps [1, 8, 9, 10, 11, 12, 13, 15, 99, 100, 101, 121] (l' := [(1, .v (.int .i64 16)), (8, .v (.bool false)), (9, .v (.string ⟨⟨t⟩⟩)), (10, .v (.int .u64 1152921504606846976)), (11, .v (.int .u64 (IntKind.wrap .u64 (v1 - 1)))), (12, .v (.bool x15)), (13, .v (.int .u64 x16)), (15, .v (.int .u8 ((v18.toNat : Nat) : Int))), (99, SV.sl kByte t A2 c3), (100, .v (.int .i64 ((t.length : Nat) : Int))), (101, .v (.int .i64 x17)), (121, .v (.bool false))]) (by kernel_rfl)
       exact J52 false h1  _ _ _ _ hX
   ·have h1 := ite_ff h1 hb
    refine wp_exit ?_
    have hX := hX.keeps [9, 12, 13] (l' := [(9, .v (.string ⟨⟨t⟩⟩)), (12, .v (.bool x15)), (13, .v (.int .u64 x16))]) (by kernel_rfl)
    exact E1x0 x15 x16 (hx1 _ (out_eq h1)).symm  _ _ _ _ hX
  ·exact ⟨_, _, hX⟩
def strconv_ParseUint_c16_c16 (s_ : Str) : Option (Int × GErr) :=
  Option.bind (internal_strconv_ParseUint_c16_c16 s_) fun v1 =>
  if (!v1.2.isNil) = true then
    Option.bind (strconv_toError ([80, 97, 114, 115, 101, 85, 105, 110, 116] : Str) s_ 16 16 v1.2) fun v3 =>
    some (v1.1, v3)
  else
    some (v1.1, GErr.nil)
theorem strconv_ParseUint_c16_c16.ok (s_ : Str) (r : Int × GErr) (h0 : strconv_ParseUint_c16_c16 s_ = some r) (w0 : World) (F0 : Heap) (hv : F0.Sub w0) (hG : Glob F0) (hg : SV.goods F0 [.v (.string ⟨⟨s_⟩⟩), .v (.int .i64 16), .v (.int .i64 16)]) (ρ : Nat → Nat) :
    Calls Tryz.prog 49 (SV.dens ρ [.v (.string ⟨⟨s_⟩⟩), .v (.int .i64 16), .v (.int .i64 16)]).toArray w0 (Ret0 w0 F0 fun s => ∃ s1 s2, s = .tup [s1, s2] ∧ (s1 = .v (.int .u64 r.1)) ∧ (∃ q, s2 = .v (errV r.2 q))) := by
 refine calls_of_wp Tryz.func49 rfl ?_
 have hX := Cx.enter (D := No) (B := []) (L := []) (ρ := ρ) (N := 26) Tryz.ntmps49 [.v (.string ⟨⟨s_⟩⟩), .v (.int .i64 16), .v (.int .i64 16)] (St.start hv) rfl hg (by kernel_rfl) (fun _ h => by cases h) (Nat.le_of_ble_eq_true rfl) No.unfix
 unfold strconv_ParseUint_c16_c16 at h0
 refine Cx.rseq hX [] [0, 1, 2] (l' := [(0, .v (.string ⟨⟨s_⟩⟩)), (1, .v (.int .i64 16)), (2, .v (.int .i64 16))]) (B' := []) (by kernel_rfl) fun ρ w a hX => ?_
 refine wp_seq_k fun K2 hK2 => ?_
 refine wp_region_list ?_
 refine hX.part [] 3 [0, 1, 2, 11, 12, 13] (l' := [(0, .v (.string ⟨⟨s_⟩⟩)), (1, .v (.int .i64 16)), (2, .v (.int .i64 16)), (11, .v (.string ⟨⟨s_⟩⟩)), (12, .v (.int .i64 16)), (13, .v (.int .i64 16))]) (B' := []) (by kernel_rfl) fun ρ w a hX => ?_
 obtain ⟨v1, hv1, h0⟩ := bnd_some h0
 refine Cx.call0 hX (lit := []) (by kernel_rfl) rfl (by kernel_rfl) ⟨⟨_, Tryz.func62, by kernel_rfl, rfl⟩⟩ (ss := [.v (.string ⟨⟨s_⟩⟩), .v (.int .i64 16), .v (.int .i64 16)]) (by kernel_rfl) [.v (.string ⟨⟨s_⟩⟩), .v (.int .i64 16), .v (.int .i64 16)] rfl (fun hg => hg) (fun hv hle hg => internal_strconv_ParseUint_c16_c16.ok s_ v1 hv1 _ _ hv (hG.mono hle) hg _) (fun s F w a hp hX => ?_)
 obtain ⟨_, _, rfl, rfl, ⟨q2, rfl⟩⟩ := hp
 refine hX.part [] 5 [0, 1, 2, 8, 9] (l' := [(0, .v (.string ⟨⟨s_⟩⟩)), (1, .v (.int .i64 16)), (2, .v (.int .i64 16)), (8, .v (.int .u64 v1.1)), (9, .v (errV v1.2 q2))]) (B' := []) (by kernel_rfl) fun ρ w a hX => ?_
 refine wpList_end ?_
 refine hK2 _ _ ?_
 refine wp_seq_k fun K3 hK3 => ?_
 refine wp_seq_k fun K4 hK4 => ?_
 refine wp_region_list ?_
 refine hX.part [] 1 [0, 1, 2, 8, 9, 17] (l' := [(0, .v (.string ⟨⟨s_⟩⟩)), (1, .v (.int .i64 16)), (2, .v (.int .i64 16)), (8, .v (.int .u64 v1.1)), (9, .v (errV v1.2 q2)), (17, .v (errV v1.2 q2))]) (B' := []) (by kernel_rfl) fun ρ w a hX => ?_
 refine hX.errNil (lit := []) (by kernel_rfl) (by kernel_rfl) rfl (op := .neq) (e := v1.2) (q := q2) (b := (!v1.2.isNil)) (by first | exact .inl ⟨rfl, rfl⟩ | exact .inr ⟨rfl, rfl⟩) (by kernel_rfl) (by kernel_rfl) rfl fun a hX => ?_
 refine hX.part [] 0 [0, 1, 2, 8, 9, 18] (l' := [(0, .v (.string ⟨⟨s_⟩⟩)), (1, .v (.int .i64 16)), (2, .v (.int .i64 16)), (8, .v (.int .u64 v1.1)), (9, .v (errV v1.2 q2)), (18, .v (.bool (!v1.2.isNil)))]) (B' := []) (by kernel_rfl) fun ρ w a hX => ?_
 refine wpList_end ?_
 refine hK4 _ _ ?_
 refine Cx.cond hX (b := (!v1.2.isNil)) (by kernel_rfl) (fun hb => ?_) (fun hb => ?_)
 ·have h0 := ite_tt h0 hb
  refine wp_seq_k fun K5 hK5 => ?_
  refine wp_region_list ?_
  refine hX.part [] 5 [19, 20, 21, 22, 23] (l' := [(19, .v (.int .u64 v1.1)), (20, .v (.string ⟨⟨s_⟩⟩)), (21, .v (.int .i64 16)), (22, .v (.int .i64 16)), (23, .v (errV v1.2 q2))]) (B' := []) (by kernel_rfl) fun ρ w a hX => ?_
  obtain ⟨v3, hv3, h0⟩ := bnd_some h0
  refine Cx.call0 hX (lit := []) (by kernel_rfl) rfl (by kernel_rfl) ⟨⟨_, Tryz.func63, by kernel_rfl, rfl⟩⟩ (ss := [.v (.string ⟨⟨([80, 97, 114, 115, 101, 85, 105, 110, 116] : Str)⟩⟩), .v (.string ⟨⟨s_⟩⟩), .v (.int .i64 16), .v (.int .i64 16), .v (errV v1.2 q2)]) (by kernel_rfl) [.v (.string ⟨⟨([80, 97, 114, 115, 101, 85, 105, 110, 116] : Str)⟩⟩), .v (.string ⟨⟨s_⟩⟩), .v (.int .i64 16), .v (.int .i64 16), .v (errV v1.2 q2)] rfl (fun hg => hg) (fun hv hle hg => strconv_toError.ok ([80, 97, 114, 115, 101, 85, 105, 110, 116] : Str) s_ 16 16 v1.2 q2 v3 hv3 _ _ hv (hG.mono hle) hg _) (fun s F w a hp hX => ?_)
  obtain ⟨q4, rfl⟩ := hp
  refine hX.part [] 2 [6, 7] (l' := [(6, .v (.int .u64 v1.1)), (7, .v (errV v3 q4))]) (B' := []) (by kernel_rfl) fun ρ w a hX => ?_
  refine wpList_end ?_
  refine hK5 _ _ ?_
  refine wp_ret ?_
  have hr := Option.some.inj (show some _ = some _ from h0)
  subst hr
  exact hX.ret0 (ss := [.v (.int .u64 v1.1), .v (errV v3 q4)]) (by kernel_rfl) (by kernel_rfl) ⟨_, _, rfl, rfl, ⟨q4, rfl⟩⟩
 ·have h0 := ite_ff h0 hb
  refine wp_skip ?_
  refine hK3 _ _ ?_
  refine Cx.rseq hX [] [6, 7] (l' := [(6, .v (.int .u64 v1.1)), (7, .v .nilIface)]) (B' := []) (by kernel_rfl) fun ρ w a hX => ?_
  refine wp_ret ?_
  have hr := Option.some.inj (show some _ = some _ from h0)
  subst hr
  exact hX.ret0 (ss := [.v (.int .u64 v1.1), .v .nilIface]) (by kernel_rfl) (by kernel_rfl) ⟨_, _, rfl, rfl, ⟨errY, rfl⟩⟩
def units_reader_digits.j1 (r_ : T_units_reader) (many : Int) (x6 : Bool) : Option (Bool × T_units_reader) :=
  if x6 = true then
    some (false, r_)
  else
    Option.bind (cutL r_.s 0 many) fun v7 =>
    Option.bind (strconv_ParseUint_c16_c16 v7) fun v8 =>
    Option.bind (cutL r_.s many ((r_.s.length : Nat) : Int)) fun v10 =>
    Option.bind (units_unit (IntKind.wrap .i64 v8.1)) fun v11 =>
    Option.bind (strings_Builder_WriteString_at_units_reader_1 ({ s := v10, out := r_.out } : T_units_reader) v11) fun v12 =>
    some (true, v12.2.2)
def units_reader_digits (r_ : T_units_reader) (many : Int) : Option (Bool × T_units_reader) :=
  if (decide (((r_.s.length : Nat) : Int) < many)) = true then
    units_reader_digits.j1 r_ many true
  else
    Option.bind (cutL r_.s 0 many) fun v4 =>
    Option.bind (strings_Trim v4 ([48, 49, 50, 51, 52, 53, 54, 55, 56, 57, 97, 98, 99, 100, 101, 102, 65, 66, 67, 68, 69, 70] : Str)) fun v5 =>
    units_reader_digits.j1 r_ many (!(v5 == ([] : Str)))
theorem units_reader_digits.ok (r_ : T_units_reader) (many : Int) (r : Bool × T_units_reader) (h0 : units_reader_digits r_ many = some r) (w0 : World) (F0 : Heap) (hv : F0.Sub w0) (hG : Glob F0) (hg : SV.goods F0 [.ptr 0 0, .v (.int .i64 many)]) (ρ : Nat → Nat) (D : Own) (hD : D.known = [ρ 0]) (hst : St w0 F0 D w0 F0 [own_units_reader r_ (ρ 0)]) :
    Calls Tryz.prog 64 (SV.dens ρ [.ptr 0 0, .v (.int .i64 many)]).toArray w0 (RetH w0 F0 D fun s M => (s = .v (.bool r.1)) ∧ M = [own_units_reader r.2 (ρ 0)]) := by
 refine calls_of_wp Tryz.func64 rfl ?_
 have hX := Cx.enter (D := D) (B := nones 1) (L := [own_units_reader r_ (ρ 0)]) (ρ := ρ) (N := 50) Tryz.ntmps64 [.ptr 0 0, .v (.int .i64 many)] (hst.emps ρ 1) rfl hg (by kernel_rfl) (fun _ h => (nones_mem h).elim) (Nat.le_of_ble_eq_true rfl) (fix1 hD)
 unfold units_reader_digits at h0
 have hX : Cx 50 _ _ _ _ _ [own_units_reader r_ (ρ 0)] [none] ρ _ _ := hX
 obtain ⟨⟨q1, A2, c3⟩, hX⟩ := Cx.unpackP (k := 0) (Y := (Bool × Option Addr × Nat)) (ty := 80) hX (fun (y : (Bool × Option Addr × Nat)) => [.v (.string ⟨⟨r_.s⟩⟩), .opt y.1 0 1, .v (.slice y.2.1 r_.out.length y.2.2)]) rfl (fun y => rfl) (fun y F h => h) (fun y => rfl)
 have hX : Cx 50 _ _ _ _ _ [accP 5 kByte A2 c3 r_.out] [some ⟨80, [.v (.string ⟨⟨r_.s⟩⟩), .opt q1 0 1, .v (.slice A2 r_.out.length c3)]⟩] ρ _ _ := hX
 refine Cx.rseq hX [] [0, 1] (l' := [(0, .ptr 0 0), (1, .v (.int .i64 many))]) (B' := [some ⟨80, [.v (.string ⟨⟨r_.s⟩⟩), .opt q1 0 1, .v (.slice A2 r_.out.length c3)]⟩]) (by kernel_rfl) fun ρ w a hX => ?_
 refine wp_seq_k fun K2 hK2 => ?_
 refine wp_seq_k fun K3 hK3 => ?_
 have J3 : ∀ (x6 : Bool), units_reader_digits.j1 r_ many x6 = some r → ∀ (ρ : Nat → Nat) (w : World) (F : Heap) (a : Act), Cx 50 w0 F0 D w F [accP 5 kByte A2 c3 r_.out] [some ⟨80, [.v (.string ⟨⟨r_.s⟩⟩), .opt q1 0 1, .v (.slice A2 r_.out.length c3)]⟩] ρ [(0, .ptr 0 0), (1, .v (.int .i64 many)), (23, .v (.bool x6))] a → K3 a w := by
  intro x6 h0  ρ w F a hX
  unfold units_reader_digits.j1 at h0
  refine hK3 _ _ ?_
  refine Cx.cond hX (b := x6) (by kernel_rfl) (fun hb => ?_) (fun hb => ?_)
  ·have h0 := ite_tt h0 hb
   refine Cx.rseq hX [] [4] (l' := [(4, .v (.bool false))]) (B' := [some ⟨80, [.v (.string ⟨⟨r_.s⟩⟩), .opt q1 0 1, .v (.slice A2 r_.out.length c3)]⟩]) (by kernel_rfl) fun ρ w a hX => ?_
   refine wp_ret ?_
   have hX : Cx 50 _ _ _ _ _ [accP 5 kByte A2 c3 r_.out] [some ⟨80, [.v (.string ⟨⟨r_.s⟩⟩), .opt q1 0 1, .v (.slice A2 r_.out.length c3)]⟩] ρ _ _ := hX
   have hX : Cx 50 _ _ _ _ _ [own_units_reader r_ (ρ 0)] [none] ρ _ _ := Cx.packP (Y := (Bool × Option Addr × Nat)) hX 0 ((q1, A2, c3) : (Bool × Option Addr × Nat)) rfl rfl rfl rfl (fun h => h)
   have hX : Cx 50 _ _ _ _ _ [own_units_reader r_ (ρ 0)] [none] ρ _ _ := hX
   have hr := Option.some.inj (show some _ = some _ from h0)
   subst hr
   exact hX.retH (M := [own_units_reader r_ (ρ 0)]) (ss := [.v (.bool false)]) (by kernel_rfl) (by kernel_rfl) ⟨rfl, by rw [(hX.fix 0 _ (by rw [hD]; rfl)).2]⟩
  ·have h0 := ite_ff h0 hb
   refine wp_skip ?_
   refine hK2 _ _ ?_
   refine wp_seq_k fun K5 hK5 => ?_
   refine wp_region_list ?_
   refine hX.part [] 5 [0, 1, 28, 29] (l' := [(0, .ptr 0 0), (1, .v (.int .i64 many)), (28, .v (.string ⟨⟨r_.s⟩⟩)), (29, .v (.int .i64 many))]) (B' := [some ⟨80, [.v (.string ⟨⟨r_.s⟩⟩), .opt q1 0 1, .v (.slice A2 r_.out.length c3)]⟩]) (by kernel_rfl) fun ρ w a hX => ?_
   obtain ⟨v7, hv7, h0⟩ := bnd_some h0
   refine hX.cutStr (lit := []) (by kernel_rfl) (by kernel_rfl) rfl (s := r_.s) (ol := none) (oh := some many) (r := v7) (by kernel_rfl) (by kernel_rfl) (by kernel_rfl) (by kernel_rfl) hv7 fun a hX => ?_
   refine hX.part [] 0 [0, 1, 30] (l' := [(0, .ptr 0 0), (1, .v (.int .i64 many)), (30, .v (.string ⟨⟨v7⟩⟩))]) (B' := [some ⟨80, [.v (.string ⟨⟨r_.s⟩⟩), .opt q1 0 1, .v (.slice A2 r_.out.length c3)]⟩]) (by kernel_rfl) fun ρ w a hX => ?_
   obtain ⟨v8, hv8, h0⟩ := bnd_some h0
   refine Cx.call0 hX (lit := []) (by kernel_rfl) rfl (by kernel_rfl) ⟨⟨_, Tryz.func49, by kernel_rfl, rfl⟩⟩ (ss := [.v (.string ⟨⟨v7⟩⟩), .v (.int .i64 16), .v (.int .i64 16)]) (by kernel_rfl) [.v (.string ⟨⟨v7⟩⟩), .v (.int .i64 16), .v (.int .i64 16)] rfl (fun hg => hg) (fun hv hle hg => strconv_ParseUint_c16_c16.ok v7 v8 hv8 _ _ hv (hG.mono hle) hg _) (fun s F w a hp hX => ?_)
   obtain ⟨_, _, rfl, rfl, ⟨q9, rfl⟩⟩ := hp
   refine hX.part [] 5 [0, 1, 5] (l' := [(0, .ptr 0 0), (1, .v (.int .i64 many)), (5, .v (.int .u64 v8.1))]) (B' := [some ⟨80, [.v (.string ⟨⟨r_.s⟩⟩), .opt q1 0 1, .v (.slice A2 r_.out.length c3)]⟩]) (by kernel_rfl) fun ρ w a hX => ?_
   refine wpList_end ?_
   refine hK5 _ _ ?_
   refine wp_seq_k fun K6 hK6 => ?_
   refine wp_region_list ?_
   refine hX.part [] 6 [0, 5, 34, 38, 39] (l' := [(0, .ptr 0 0), (5, .v (.int .u64 v8.1)), (34, .ptr 0 0), (38, .v (.string ⟨⟨r_.s⟩⟩)), (39, .v (.int .i64 many))]) (B' := [some ⟨80, [.v (.string ⟨⟨r_.s⟩⟩), .opt q1 0 1, .v (.slice A2 r_.out.length c3)]⟩]) (by kernel_rfl) fun ρ w a hX => ?_
   obtain ⟨v10, hv10, h0⟩ := bnd_some h0
   refine hX.cutStr (lit := []) (by kernel_rfl) (by kernel_rfl) rfl (s := r_.s) (ol := some many) (oh := none) (r := v10) (by kernel_rfl) (by kernel_rfl) (by kernel_rfl) (by kernel_rfl) hv10 fun a hX => ?_
   refine hX.part [] 3 [0, 5] (l' := [(0, .ptr 0 0), (5, .v (.int .u64 v8.1))]) (B' := [some ⟨80, [.v (.string ⟨⟨v10⟩⟩), .opt q1 0 1, .v (.slice A2 r_.out.length c3)]⟩]) (by kernel_rfl) fun ρ w a hX => ?_
   refine wpList_end ?_
   refine hK6 _ _ ?_
   refine wp_seq_k fun K7 hK7 => ?_
   have hGd := hG.mono hX.st.le
   refine hX.draw rfl (n := 7) rfl #[false, false, false, false, false, false, false] (by kernel_rfl) fun w D' hDk back hX => ?_
   refine hX.dq 0 rfl (lit := []) (by kernel_rfl) (listed' := #[true, false, false, false, false, false, false]) (by kernel_rfl) (by kernel_rfl) (s := .ptr 0 0) (by kernel_rfl) fun a hX => ?_
   refine hX.dq 1 rfl (lit := []) (by kernel_rfl) (listed' := #[true, true, false, false, false, false, false]) (by kernel_rfl) (by kernel_rfl) (s := .ptr 0 0) (by kernel_rfl) fun a hX => ?_
   refine hX.dq 2 rfl (lit := []) (by kernel_rfl) (listed' := #[true, true, true, false, false, false, false]) (by kernel_rfl) (by kernel_rfl) (s := .ptr 0 1) (by kernel_rfl) fun a hX => ?_
   refine hX.dq 3 rfl (lit := []) (by kernel_rfl) (listed' := #[true, true, true, true, false, false, false]) (by kernel_rfl) (by kernel_rfl) (s := .v (.int .u64 v8.1)) (by kernel_rfl) fun a hX => ?_
   refine hX.dq 4 rfl (lit := []) (by kernel_rfl) (listed' := #[true, true, true, true, true, false, false]) (by kernel_rfl) (by kernel_rfl) (s := .v (.int .i64 (IntKind.wrap .i64 v8.1))) (by kernel_rfl) fun a hX => ?_
   refine dseq (listed' := #[true, true, true, true, true, true, false]) 5 (by kernel_rfl) rfl (by kernel_rfl) ?_
   obtain ⟨v11, hv11, h0⟩ := bnd_some h0
   refine Cx.call0 hX (lit := []) (by kernel_rfl) rfl (by kernel_rfl) ⟨⟨_, Tryz.func53, by kernel_rfl, rfl⟩⟩ (ss := [.v (.int .i64 (IntKind.wrap .i64 v8.1))]) (by kernel_rfl) [.v (.int .i64 (IntKind.wrap .i64 v8.1))] rfl (fun hg => hg) (fun hv hle hg => units_unit.ok (IntKind.wrap .i64 v8.1) v11 hv11 _ _ hv (hGd.mono hle) hg _) (fun s F w a hp hX => ?_)
   subst hp
   refine dnext hX.st.sub0 ?_
   refine dseq (listed' := #[true, true, true, true, true, true, true]) 6 (by kernel_rfl) rfl (by kernel_rfl) ?_
   obtain ⟨v12, hv12, h0⟩ := bnd_some h0
   have hX : Cx 50 _ _ _ _ _ [accP 5 kByte A2 c3 r_.out] [some ⟨80, [.v (.string ⟨⟨v10⟩⟩), .opt q1 0 1, .v (.slice A2 r_.out.length c3)]⟩] ρ _ _ := hX
   have hX : Cx 50 _ _ _ _ _ [own_units_reader ({ s := v10, out := r_.out } : T_units_reader) (ρ 0)] [none] ρ _ _ := Cx.packP (Y := (Bool × Option Addr × Nat)) hX 0 ((q1, A2, c3) : (Bool × Option Addr × Nat)) rfl rfl rfl rfl (fun h => h)
   have hX : Cx 50 _ _ _ _ _ [own_units_reader ({ s := v10, out := r_.out } : T_units_reader) (ρ 0)] [none] ρ _ _ := hX
   refine Cx.callH (M := [own_units_reader ({ s := v10, out := r_.out } : T_units_reader) (ρ 0)]) (L := []) hX (lit := []) (by kernel_rfl) rfl (by kernel_rfl) ⟨⟨_, Tryz.func52, by kernel_rfl, rfl⟩⟩ (ss := [.ptr 0 1, .v (.string ⟨⟨v11⟩⟩)]) (by kernel_rfl) [.ptr 0 1, .v (.string ⟨⟨v11⟩⟩)] rfl (fun hg => ⟨trivial, hg.2.1, trivial⟩) [ρ 0] (fun D' hD' hv hle hg hst => strings_Builder_WriteString_at_units_reader_1.ok ({ s := v10, out := r_.out } : T_units_reader) v11 v12 hv12 _ _ hv (hGd.mono hle) hg (fun k => match k with | 0 => ρ 0 | _ => 0) D' hD' hst) (fun s F M w a hp hX => ?_)
   obtain ⟨hp, rfl⟩ := hp
   obtain ⟨_, _, rfl, rfl, ⟨q13, rfl⟩⟩ := hp
   have hX : Cx 50 _ _ _ _ _ [own_units_reader v12.2.2 (ρ 0)] [none] ρ _ _ := hX
   obtain ⟨⟨q14, A15, c16⟩, hX⟩ := Cx.unpackP (k := 0) (Y := (Bool × Option Addr × Nat)) (ty := 80) hX (fun (y : (Bool × Option Addr × Nat)) => [.v (.string ⟨⟨v12.2.2.s⟩⟩), .opt y.1 0 1, .v (.slice y.2.1 v12.2.2.out.length y.2.2)]) rfl (fun y => rfl) (fun y F h => h) (fun y => rfl)
   have hX : Cx 50 _ _ _ _ _ [accP 5 kByte A15 c16 v12.2.2.out] [some ⟨80, [.v (.string ⟨⟨v12.2.2.s⟩⟩), .opt q14 0 1, .v (.slice A15 v12.2.2.out.length c16)]⟩] ρ _ _ := hX
   refine dnext hX.st.sub0 ?_
   have hX := back hX
   refine ddone (by kernel_rfl) ?_
   refine hK7 _ _ ?_
   refine Cx.rseq hX [] [4] (l' := [(4, .v (.bool true))]) (B' := [some ⟨80, [.v (.string ⟨⟨v12.2.2.s⟩⟩), .opt q14 0 1, .v (.slice A15 v12.2.2.out.length c16)]⟩]) (by kernel_rfl) fun ρ w a hX => ?_
   refine wp_ret ?_
   have hX : Cx 50 _ _ _ _ _ [accP 5 kByte A15 c16 v12.2.2.out] [some ⟨80, [.v (.string ⟨⟨v12.2.2.s⟩⟩), .opt q14 0 1, .v (.slice A15 v12.2.2.out.length c16)]⟩] ρ _ _ := hX
   have hX : Cx 50 _ _ _ _ _ [own_units_reader v12.2.2 (ρ 0)] [none] ρ _ _ := Cx.packP (Y := (Bool × Option Addr × Nat)) hX 0 ((q14, A15, c16) : (Bool × Option Addr × Nat)) rfl rfl rfl rfl (fun h => h)
   have hX : Cx 50 _ _ _ _ _ [own_units_reader v12.2.2 (ρ 0)] [none] ρ _ _ := hX
   have hr := Option.some.inj (show some _ = some _ from h0)
   subst hr
   exact hX.retH (M := [own_units_reader v12.2.2 (ρ 0)]) (ss := [.v (.bool true)]) (by kernel_rfl) (by kernel_rfl) ⟨rfl, by rw [(hX.fix 0 _ (by rw [hD]; rfl)).2]⟩
 refine wp_region_list ?_
 refine hX.part [] 8 [0, 1, 14] (l' := [(0, .ptr 0 0), (1, .v (.int .i64 many)), (14, .v (.bool (decide (((r_.s.length : Nat) : Int) < many))))]) (B' := [some ⟨80, [.v (.string ⟨⟨r_.s⟩⟩), .opt q1 0 1, .v (.slice A2 r_.out.length c3)]⟩]) (by kernel_rfl) fun ρ w a hX => ?_
 refine ite_go h0 (fun hb h0 => ?_) (fun hb h0 => ?_)
 ·have hX := hX.relit 14 hb (by kernel_rfl)
  refine hX.part [7] 9 [0, 1, 23] (l' := [(0, .ptr 0 0), (1, .v (.int .i64 many)), (23, .v (.bool true))]) (B' := [some ⟨80, [.v (.string ⟨⟨r_.s⟩⟩), .opt q1 0 1, .v (.slice A2 r_.out.length c3)]⟩]) (by kernel_rfl) fun ρ w a hX => ?_
  refine wpList_end ?_
  have hX := hX.keeps [0, 1, 23] (l' := [(0, .ptr 0 0), (1, .v (.int .i64 many)), (23, .v (.bool true))]) (by kernel_rfl)
  exact J3 true h0  _ _ _ _ hX
 ·have hX := hX.relit 14 hb (by kernel_rfl)
  refine hX.part [7] 5 [0, 1, 14, 18, 19] (l' := [(0, .ptr 0 0), (1, .v (.int .i64 many)), (14, .v (.bool false)), (18, .v (.string ⟨⟨r_.s⟩⟩)), (19, .v (.int .i64 many))]) (B' := [some ⟨80, [.v (.string ⟨⟨r_.s⟩⟩), .opt q1 0 1, .v (.slice A2 r_.out.length c3)]⟩]) (by kernel_rfl) fun ρ w a hX => ?_
  obtain ⟨v4, hv4, h0⟩ := bnd_some h0
  refine hX.cutStr (lit := [7]) (by kernel_rfl) (by kernel_rfl) rfl (s := r_.s) (ol := none) (oh := some many) (r := v4) (by kernel_rfl) (by kernel_rfl) (by kernel_rfl) (by kernel_rfl) hv4 fun a hX => ?_
  refine hX.part [7] 0 [0, 1, 14, 20] (l' := [(0, .ptr 0 0), (1, .v (.int .i64 many)), (14, .v (.bool false)), (20, .v (.string ⟨⟨v4⟩⟩))]) (B' := [some ⟨80, [.v (.string ⟨⟨r_.s⟩⟩), .opt q1 0 1, .v (.slice A2 r_.out.length c3)]⟩]) (by kernel_rfl) fun ρ w a hX => ?_
  obtain ⟨v5, hv5, h0⟩ := bnd_some h0
  refine Cx.call0 hX (lit := [7]) (by kernel_rfl) rfl (by kernel_rfl) ⟨⟨_, Tryz.func76, by kernel_rfl, rfl⟩⟩ (ss := [.v (.string ⟨⟨v4⟩⟩), .v (.string ⟨⟨([48, 49, 50, 51, 52, 53, 54, 55, 56, 57, 97, 98, 99, 100, 101, 102, 65, 66, 67, 68, 69, 70] : Str)⟩⟩)]) (by kernel_rfl) [.v (.string ⟨⟨v4⟩⟩), .v (.string ⟨⟨([48, 49, 50, 51, 52, 53, 54, 55, 56, 57, 97, 98, 99, 100, 101, 102, 65, 66, 67, 68, 69, 70] : Str)⟩⟩)] rfl (fun hg => hg) (fun hv hle hg => strings_Trim.ok v4 ([48, 49, 50, 51, 52, 53, 54, 55, 56, 57, 97, 98, 99, 100, 101, 102, 65, 66, 67, 68, 69, 70] : Str) v5 hv5 _ _ hv (hG.mono hle) hg _) (fun s F w a hp hX => ?_)
  subst hp
  refine hX.part [7] 2 [0, 1, 23] (l' := [(0, .ptr 0 0), (1, .v (.int .i64 many)), (23, .v (.bool (!(v5 == ([] : Str)))))]) (B' := [some ⟨80, [.v (.string ⟨⟨r_.s⟩⟩), .opt q1 0 1, .v (.slice A2 r_.out.length c3)]⟩]) (by kernel_rfl) fun ρ w a hX => ?_
  refine wpList_end ?_
  have hX := hX.keeps [0, 1, 23] (l' := [(0, .ptr 0 0), (1, .v (.int .i64 many)), (23, .v (.bool (!(v5 == ([] : Str)))))]) (by kernel_rfl)
  exact J3 (!(v5 == ([] : Str))) h0  _ _ _ _ hX
def units_reader_escape.j2 (x37 : Str) (x39 : List UInt8) : Option (Bool × T_units_reader) :=
  some (true, ({ s := x37, out := x39 } : T_units_reader))
def units_reader_escape.j1 (v23 : Int × GErr × T_units_reader) (x30 : Bool) : Option (Bool × T_units_reader) :=
  some (x30, v23.2.2)
def units_reader_escape (r_ : T_units_reader) : Option (Bool × T_units_reader) :=
  if (r_.s == ([] : Str)) = true then
    some (false, r_)
  else
    Option.bind (getB r_.s 0) fun v4 =>
    Option.bind (cutL r_.s 1 ((r_.s.length : Nat) : Int)) fun v5 =>
    Option.bind (strings_IndexByte ([110, 116, 114, 98, 102, 118] : Str) v4) fun v6 =>
    if (decide (v6 ≥ 0)) = true then
      Option.bind (getB ([10, 9, 13, 8, 12, 11] : Str) v6) fun v7 =>
      Option.bind (units_unit (IntKind.wrap .i64 v7)) fun v8 =>
      Option.bind (strings_Builder_WriteString_at_units_reader_1 ({ s := v5, out := r_.out } : T_units_reader) v8) fun v9 =>
      some (true, v9.2.2)
    else
      if (v4 == 10) = true then
        units_reader_escape.j2 v5 r_.out
      else
        if (v4 == 120) = true then
          Option.bind (units_reader_digits ({ s := v5, out := r_.out } : T_units_reader) 2) fun v14 =>
          some (v14.1, v14.2)
        else
          if (v4 == 117) = true then
            Option.bind (units_reader_digits ({ s := v5, out := r_.out } : T_units_reader) 4) fun v18 =>
            some (v18.1, v18.2)
          else
            if (v4 == 48) = true then
              Option.bind (units_unit 0) fun v22 =>
              Option.bind (strings_Builder_WriteString_at_units_reader_1 ({ s := v5, out := r_.out } : T_units_reader) v22) fun v23 =>
              if (v23.2.2.s == ([] : Str)) = true then
                units_reader_escape.j1 v23 true
              else
                Option.bind (getB v23.2.2.s 0) fun v28 =>
                if (decide (v28 < 48)) = true then
                  units_reader_escape.j1 v23 true
                else
                  Option.bind (getB v23.2.2.s 0) fun v29 =>
                  units_reader_escape.j1 v23 (decide (v29 > 57))
            else
              if (((v4 == 13) || ((decide (v4 ≥ 49)) && (decide (v4 ≤ 57)))) || (decide (v4 ≥ 128))) = true then
                some (false, ({ s := v5, out := r_.out } : T_units_reader))
              else
                Option.bind (units_unit (IntKind.wrap .i64 v4)) fun v31 =>
                Option.bind (strings_Builder_WriteString_at_units_reader_1 ({ s := v5, out := r_.out } : T_units_reader) v31) fun v32 =>
                units_reader_escape.j2 v32.2.2.s v32.2.2.out
theorem units_reader_escape.ok (r_ : T_units_reader) (r : Bool × T_units_reader) (h0 : units_reader_escape r_ = some r) (w0 : World) (F0 : Heap) (hv : F0.Sub w0) (hG : Glob F0) (hg : SV.goods F0 [.ptr 0 0]) (ρ : Nat → Nat) (D : Own) (hD : D.known = [ρ 0]) (hst : St w0 F0 D w0 F0 [own_units_reader r_ (ρ 0)]) :
    Calls Tryz.prog 51 (SV.dens ρ [.ptr 0 0]).toArray w0 (RetH w0 F0 D fun s M => (s = .v (.bool r.1)) ∧ M = [own_units_reader r.2 (ρ 0)]) := by
 refine calls_of_wp Tryz.func51 rfl ?_
 have hX := Cx.enter (D := D) (B := nones 1) (L := [own_units_reader r_ (ρ 0)]) (ρ := ρ) (N := 99) Tryz.ntmps51 [.ptr 0 0] (hst.emps ρ 1) rfl hg (by kernel_rfl) (fun _ h => (nones_mem h).elim) (Nat.le_of_ble_eq_true rfl) (fix1 hD)
 unfold units_reader_escape at h0
 have hX : Cx 99 _ _ _ _ _ [own_units_reader r_ (ρ 0)] [none] ρ _ _ := hX
 obtain ⟨⟨q1, A2, c3⟩, hX⟩ := Cx.unpackP (k := 0) (Y := (Bool × Option Addr × Nat)) (ty := 80) hX (fun (y : (Bool × Option Addr × Nat)) => [.v (.string ⟨⟨r_.s⟩⟩), .opt y.1 0 1, .v (.slice y.2.1 r_.out.length y.2.2)]) rfl (fun y => rfl) (fun y F h => h) (fun y => rfl)
 have hX : Cx 99 _ _ _ _ _ [accP 5 kByte A2 c3 r_.out] [some ⟨80, [.v (.string ⟨⟨r_.s⟩⟩), .opt q1 0 1, .v (.slice A2 r_.out.length c3)]⟩] ρ _ _ := hX
 refine Cx.rseq hX [] [0] (l' := [(0, .ptr 0 0)]) (B' := [some ⟨80, [.v (.string ⟨⟨r_.s⟩⟩), .opt q1 0 1, .v (.slice A2 r_.out.length c3)]⟩]) (by kernel_rfl) fun ρ w a hX => ?_
 refine wp_seq_k fun K2 hK2 => ?_
 refine Cx.rseq hX [] [0, 9] (l' := [(0, .ptr 0 0), (9, .v (.bool (r_.s == ([] : Str))))]) (B' := [some ⟨80, [.v (.string ⟨⟨r_.s⟩⟩), .opt q1 0 1, .v (.slice A2 r_.out.length c3)]⟩]) (by kernel_rfl) fun ρ w a hX => ?_
 refine Cx.cond hX (b := (r_.s == ([] : Str))) (by kernel_rfl) (fun hb => ?_) (fun hb => ?_)
 ·have h0 := ite_tt h0 hb
  refine Cx.rseq hX [] [2] (l' := [(2, .v (.bool false))]) (B' := [some ⟨80, [.v (.string ⟨⟨r_.s⟩⟩), .opt q1 0 1, .v (.slice A2 r_.out.length c3)]⟩]) (by kernel_rfl) fun ρ w a hX => ?_
  refine wp_ret ?_
  have hX : Cx 99 _ _ _ _ _ [accP 5 kByte A2 c3 r_.out] [some ⟨80, [.v (.string ⟨⟨r_.s⟩⟩), .opt q1 0 1, .v (.slice A2 r_.out.length c3)]⟩] ρ _ _ := hX
  have hX : Cx 99 _ _ _ _ _ [own_units_reader r_ (ρ 0)] [none] ρ _ _ := Cx.packP (Y := (Bool × Option Addr × Nat)) hX 0 ((q1, A2, c3) : (Bool × Option Addr × Nat)) rfl rfl rfl rfl (fun h => h)
  have hX : Cx 99 _ _ _ _ _ [own_units_reader r_ (ρ 0)] [none] ρ _ _ := hX
  have hr := Option.some.inj (show some _ = some _ from h0)
  subst hr
  exact hX.retH (M := [own_units_reader r_ (ρ 0)]) (ss := [.v (.bool false)]) (by kernel_rfl) (by kernel_rfl) ⟨rfl, by rw [(hX.fix 0 _ (by rw [hD]; rfl)).2]⟩
 ·have h0 := ite_ff h0 hb
  refine wp_skip ?_
  refine hK2 _ _ ?_
  refine wp_seq_k fun K5 hK5 => ?_
  refine wp_region_list ?_
  refine hX.part [] 4 [0, 13] (l' := [(0, .ptr 0 0), (13, .v (.string ⟨⟨r_.s⟩⟩))]) (B' := [some ⟨80, [.v (.string ⟨⟨r_.s⟩⟩), .opt q1 0 1, .v (.slice A2 r_.out.length c3)]⟩]) (by kernel_rfl) fun ρ w a hX => ?_
  obtain ⟨v4, hv4, h0⟩ := bnd_some h0
  refine hX.idxStr (lit := []) (by kernel_rfl) (by kernel_rfl) rfl (s := r_.s) (k := .i64) (n := 0) (b := v4) (by kernel_rfl) (by kernel_rfl) (by kernel_rfl) hv4 fun a hX => ?_
  refine hX.part [] 1 [0, 3] (l' := [(0, .ptr 0 0), (3, .v (.int .u8 v4))]) (B' := [some ⟨80, [.v (.string ⟨⟨r_.s⟩⟩), .opt q1 0 1, .v (.slice A2 r_.out.length c3)]⟩]) (by kernel_rfl) fun ρ w a hX => ?_
  refine wpList_end ?_
  refine hK5 _ _ ?_
  refine wp_seq_k fun K6 hK6 => ?_
  refine wp_region_list ?_
  refine hX.part [] 5 [0, 3, 15, 19] (l' := [(0, .ptr 0 0), (3, .v (.int .u8 v4)), (15, .ptr 0 0), (19, .v (.string ⟨⟨r_.s⟩⟩))]) (B' := [some ⟨80, [.v (.string ⟨⟨r_.s⟩⟩), .opt q1 0 1, .v (.slice A2 r_.out.length c3)]⟩]) (by kernel_rfl) fun ρ w a hX => ?_
  obtain ⟨v5, hv5, h0⟩ := bnd_some h0
  refine hX.cutStr (lit := []) (by kernel_rfl) (by kernel_rfl) rfl (s := r_.s) (ol := some 1) (oh := none) (r := v5) (by kernel_rfl) (by kernel_rfl) (by kernel_rfl) (by kernel_rfl) hv5 fun a hX => ?_
  refine hX.part [] 3 [0, 3] (l' := [(0, .ptr 0 0), (3, .v (.int .u8 v4))]) (B' := [some ⟨80, [.v (.string ⟨⟨v5⟩⟩), .opt q1 0 1, .v (.slice A2 r_.out.length c3)]⟩]) (by kernel_rfl) fun ρ w a hX => ?_
  refine wpList_end ?_
  refine hK6 _ _ ?_
  refine wp_seq_k fun K7 hK7 => ?_
  refine wp_seq_k fun K8 hK8 => ?_
  refine wp_region_list ?_
  refine hX.part [] 1 [0, 3, 23] (l' := [(0, .ptr 0 0), (3, .v (.int .u8 v4)), (23, .v (.int .u8 v4))]) (B' := [some ⟨80, [.v (.string ⟨⟨v5⟩⟩), .opt q1 0 1, .v (.slice A2 r_.out.length c3)]⟩]) (by kernel_rfl) fun ρ w a hX => ?_
  obtain ⟨v6, hv6, h0⟩ := bnd_some h0
  refine Cx.call0 hX (lit := []) (by kernel_rfl) rfl (by kernel_rfl) ⟨⟨_, Tryz.func36, by kernel_rfl, rfl⟩⟩ (ss := [.v (.string ⟨⟨([110, 116, 114, 98, 102, 118] : Str)⟩⟩), .v (.int .u8 v4)]) (by kernel_rfl) [.v (.string ⟨⟨([110, 116, 114, 98, 102, 118] : Str)⟩⟩), .v (.int .u8 v4)] rfl (fun hg => hg) (fun hv hle hg => strings_IndexByte.ok ([110, 116, 114, 98, 102, 118] : Str) v4 v6 hv6 _ _ hv (hG.mono hle) hg _) (fun s F w a hp hX => ?_)
  subst hp
  refine hX.part [] 1 [0, 3, 4] (l' := [(0, .ptr 0 0), (3, .v (.int .u8 v4)), (4, .v (.int .i64 v6))]) (B' := [some ⟨80, [.v (.string ⟨⟨v5⟩⟩), .opt q1 0 1, .v (.slice A2 r_.out.length c3)]⟩]) (by kernel_rfl) fun ρ w a hX => ?_
  refine wpList_end ?_
  refine hK8 _ _ ?_
  refine Cx.rseq hX [] [0, 3, 4, 26] (l' := [(0, .ptr 0 0), (3, .v (.int .u8 v4)), (4, .v (.int .i64 v6)), (26, .v (.bool (decide (v6 ≥ 0))))]) (B' := [some ⟨80, [.v (.string ⟨⟨v5⟩⟩), .opt q1 0 1, .v (.slice A2 r_.out.length c3)]⟩]) (by kernel_rfl) fun ρ w a hX => ?_
  refine Cx.cond hX (b := (decide (v6 ≥ 0))) (by kernel_rfl) (fun hb => ?_) (fun hb => ?_)
  ·have h0 := ite_tt h0 hb
   refine wp_seq_k fun K10 hK10 => ?_
   have hGd := hG.mono hX.st.le
   refine hX.draw rfl (n := 8) rfl #[false, false, false, false, false, false, false, false] (by kernel_rfl) fun w D' hDk back hX => ?_
   refine hX.dq 0 rfl (lit := []) (by kernel_rfl) (listed' := #[true, false, false, false, false, false, false, false]) (by kernel_rfl) (by kernel_rfl) (s := .ptr 0 0) (by kernel_rfl) fun a hX => ?_
   refine hX.dq 1 rfl (lit := []) (by kernel_rfl) (listed' := #[true, true, false, false, false, false, false, false]) (by kernel_rfl) (by kernel_rfl) (s := .ptr 0 0) (by kernel_rfl) fun a hX => ?_
   refine hX.dq 2 rfl (lit := []) (by kernel_rfl) (listed' := #[true, true, true, false, false, false, false, false]) (by kernel_rfl) (by kernel_rfl) (s := .ptr 0 1) (by kernel_rfl) fun a hX => ?_
   refine hX.dq 3 rfl (lit := []) (by kernel_rfl) (listed' := #[true, true, true, true, false, false, false, false]) (by kernel_rfl) (by kernel_rfl) (s := .v (.int .i64 v6)) (by kernel_rfl) fun a hX => ?_
   obtain ⟨v7, hv7, h0⟩ := bnd_some h0
   refine hX.dIdxStr 4 rfl (lit := []) (by kernel_rfl) (listed' := #[true, true, true, true, true, false, false, false]) (by kernel_rfl) (by kernel_rfl) rfl (s := ([10, 9, 13, 8, 12, 11] : Str)) (k := .i64) (m := v6) (b := v7) (by kernel_rfl) (by kernel_rfl) (by kernel_rfl) hv7 fun a hX => ?_
   refine hX.dq 5 rfl (lit := []) (by kernel_rfl) (listed' := #[true, true, true, true, true, true, false, false]) (by kernel_rfl) (by kernel_rfl) (s := .v (.int .i64 (IntKind.wrap .i64 v7))) (by kernel_rfl) fun a hX => ?_
   refine dseq (listed' := #[true, true, true, true, true, true, true, false]) 6 (by kernel_rfl) rfl (by kernel_rfl) ?_
   obtain ⟨v8, hv8, h0⟩ := bnd_some h0
   refine Cx.call0 hX (lit := []) (by kernel_rfl) rfl (by kernel_rfl) ⟨⟨_, Tryz.func53, by kernel_rfl, rfl⟩⟩ (ss := [.v (.int .i64 (IntKind.wrap .i64 v7))]) (by kernel_rfl) [.v (.int .i64 (IntKind.wrap .i64 v7))] rfl (fun hg => hg) (fun hv hle hg => units_unit.ok (IntKind.wrap .i64 v7) v8 hv8 _ _ hv (hGd.mono hle) hg _) (fun s F w a hp hX => ?_)
   subst hp
   refine dnext hX.st.sub0 ?_
   refine dseq (listed' := #[true, true, true, true, true, true, true, true]) 7 (by kernel_rfl) rfl (by kernel_rfl) ?_
   obtain ⟨v9, hv9, h0⟩ := bnd_some h0
   have hX : Cx 99 _ _ _ _ _ [accP 5 kByte A2 c3 r_.out] [some ⟨80, [.v (.string ⟨⟨v5⟩⟩), .opt q1 0 1, .v (.slice A2 r_.out.length c3)]⟩] ρ _ _ := hX
   have hX : Cx 99 _ _ _ _ _ [own_units_reader ({ s := v5, out := r_.out } : T_units_reader) (ρ 0)] [none] ρ _ _ := Cx.packP (Y := (Bool × Option Addr × Nat)) hX 0 ((q1, A2, c3) : (Bool × Option Addr × Nat)) rfl rfl rfl rfl (fun h => h)
   have hX : Cx 99 _ _ _ _ _ [own_units_reader ({ s := v5, out := r_.out } : T_units_reader) (ρ 0)] [none] ρ _ _ := hX
   refine Cx.callH (M := [own_units_reader ({ s := v5, out := r_.out } : T_units_reader) (ρ 0)]) (L := []) hX (lit := []) (by kernel_rfl) rfl (by kernel_rfl) ⟨⟨_, Tryz.func52, by kernel_rfl, rfl⟩⟩ (ss := [.ptr 0 1, .v (.string ⟨⟨v8⟩⟩)]) (by kernel_rfl) [.ptr 0 1, .v (.string ⟨⟨v8⟩⟩)] rfl (fun hg => ⟨trivial, hg.2.1, trivial⟩) [ρ 0] (fun D' hD' hv hle hg hst => strings_Builder_WriteString_at_units_reader_1.ok ({ s := v5, out := r_.out } : T_units_reader) v8 v9 hv9 _ _ hv (hGd.mono hle) hg (fun k => match k with | 0 => ρ 0 | _ => 0) D' hD' hst) (fun s F M w a hp hX => ?_)
   obtain ⟨hp, rfl⟩ := hp
   obtain ⟨_, _, rfl, rfl, ⟨q10, rfl⟩⟩ := hp
   have hX : Cx 99 _ _ _ _ _ [own_units_reader v9.2.2 (ρ 0)] [none] ρ _ _ := hX
   obtain ⟨⟨q11, A12, c13⟩, hX⟩ := Cx.unpackP (k := 0) (Y := (Bool × Option Addr × Nat)) (ty := 80) hX (fun (y : (Bool × Option Addr × Nat)) => [.v (.string ⟨⟨v9.2.2.s⟩⟩), .opt y.1 0 1, .v (.slice y.2.1 v9.2.2.out.length y.2.2)]) rfl (fun y => rfl) (fun y F h => h) (fun y => rfl)
   have hX : Cx 99 _ _ _ _ _ [accP 5 kByte A12 c13 v9.2.2.out] [some ⟨80, [.v (.string ⟨⟨v9.2.2.s⟩⟩), .opt q11 0 1, .v (.slice A12 v9.2.2.out.length c13)]⟩] ρ _ _ := hX
   refine dnext hX.st.sub0 ?_
   have hX := back hX
   refine ddone (by kernel_rfl) ?_
   refine hK10 _ _ ?_
   refine Cx.rseq hX [] [2] (l' := [(2, .v (.bool true))]) (B' := [some ⟨80, [.v (.string ⟨⟨v9.2.2.s⟩⟩), .opt q11 0 1, .v (.slice A12 v9.2.2.out.length c13)]⟩]) (by kernel_rfl) fun ρ w a hX => ?_
   refine wp_ret ?_
   have hX : Cx 99 _ _ _ _ _ [accP 5 kByte A12 c13 v9.2.2.out] [some ⟨80, [.v (.string ⟨⟨v9.2.2.s⟩⟩), .opt q11 0 1, .v (.slice A12 v9.2.2.out.length c13)]⟩] ρ _ _ := hX
   have hX : Cx 99 _ _ _ _ _ [own_units_reader v9.2.2 (ρ 0)] [none] ρ _ _ := Cx.packP (Y := (Bool × Option Addr × Nat)) hX 0 ((q11, A12, c13) : (Bool × Option Addr × Nat)) rfl rfl rfl rfl (fun h => h)
   have hX : Cx 99 _ _ _ _ _ [own_units_reader v9.2.2 (ρ 0)] [none] ρ _ _ := hX
   have hr := Option.some.inj (show some _ = some _ from h0)
   subst hr
   exact hX.retH (M := [own_units_reader v9.2.2 (ρ 0)]) (ss := [.v (.bool true)]) (by kernel_rfl) (by kernel_rfl) ⟨rfl, by rw [(hX.fix 0 _ (by rw [hD]; rfl)).2]⟩
  ·have h0 := ite_ff h0 hb
   refine wp_skip ?_
   refine hK7 _ _ ?_
   refine wp_seq_k fun K12 hK12 => ?_
   have J12 : ∀ (x37 : Str) (x39 : List UInt8), units_reader_escape.j2 x37 x39 = some r → ∀ (q38 : Bool) (A40 : Option Addr) (c41 : Nat) (ρ : Nat → Nat) (w : World) (F : Heap) (a : Act), Cx 99 w0 F0 D w F [accP 5 kByte A40 c41 x39] [some ⟨80, [.v (.string ⟨⟨x37⟩⟩), .opt q38 0 1, .v (.slice A40 x39.length c41)]⟩] ρ [] a → K12 a w := by
    intro x37 x39 h0 q38 A40 c41 ρ w F a hX
    unfold units_reader_escape.j2 at h0
    refine hK12 _ _ ?_
    refine Cx.rseq hX [] [2] (l' := [(2, .v (.bool true))]) (B' := [some ⟨80, [.v (.string ⟨⟨x37⟩⟩), .opt q38 0 1, .v (.slice A40 x39.length c41)]⟩]) (by kernel_rfl) fun ρ w a hX => ?_
    refine wp_ret ?_
    have hX : Cx 99 _ _ _ _ _ [accP 5 kByte A40 c41 x39] [some ⟨80, [.v (.string ⟨⟨x37⟩⟩), .opt q38 0 1, .v (.slice A40 x39.length c41)]⟩] ρ _ _ := hX
    have hX : Cx 99 _ _ _ _ _ [own_units_reader ({ s := x37, out := x39 } : T_units_reader) (ρ 0)] [none] ρ _ _ := Cx.packP (Y := (Bool × Option Addr × Nat)) hX 0 ((q38, A40, c41) : (Bool × Option Addr × Nat)) rfl rfl rfl rfl (fun h => h)
    have hX : Cx 99 _ _ _ _ _ [own_units_reader ({ s := x37, out := x39 } : T_units_reader) (ρ 0)] [none] ρ _ _ := hX
    have hr := Option.some.inj (show some _ = some _ from h0)
    subst hr
    exact hX.retH (M := [own_units_reader ({ s := x37, out := x39 } : T_units_reader) (ρ 0)]) (ss := [.v (.bool true)]) (by kernel_rfl) (by kernel_rfl) ⟨rfl, by rw [(hX.fix 0 _ (by rw [hD]; rfl)).2]⟩
   refine wp_block ?_
   refine Cx.rseq hX [] [0, 3, 42] (l' := [(0, .ptr 0 0), (3, .v (.int .u8 v4)), (42, .v (.bool (v4 == 10)))]) (B' := [some ⟨80, [.v (.string ⟨⟨v5⟩⟩), .opt q1 0 1, .v (.slice A2 r_.out.length c3)]⟩]) (by kernel_rfl) fun ρ w a hX => ?_
   refine Cx.cond hX (b := (v4 == 10)) (by kernel_rfl) (fun hb => ?_) (fun hb => ?_)
   ·have h0 := ite_tt h0 hb
    refine wp_skip ?_
    have hX := hX.keeps [] (l' := []) (by kernel_rfl)
    exact J12 v5 r_.out h0 q1 A2 c3 _ _ _ _ hX
   ·have h0 := ite_ff h0 hb
    refine Cx.rseq hX [] [0, 3, 45] (l' := [(0, .ptr 0 0), (3, .v (.int .u8 v4)), (45, .v (.bool (v4 == 120)))]) (B' := [some ⟨80, [.v (.string ⟨⟨v5⟩⟩), .opt q1 0 1, .v (.slice A2 r_.out.length c3)]⟩]) (by kernel_rfl) fun ρ w a hX => ?_
    refine Cx.cond hX (b := (v4 == 120)) (by kernel_rfl) (fun hb => ?_) (fun hb => ?_)
    ·have h0 := ite_tt h0 hb
     refine wp_seq_k fun K15 hK15 => ?_
     refine wp_region_list ?_
     refine hX.part [] 1 [48] (l' := [(48, .ptr 0 0)]) (B' := [some ⟨80, [.v (.string ⟨⟨v5⟩⟩), .opt q1 0 1, .v (.slice A2 r_.out.length c3)]⟩]) (by kernel_rfl) fun ρ w a hX => ?_
     obtain ⟨v14, hv14, h0⟩ := bnd_some h0
     have hX : Cx 99 _ _ _ _ _ [accP 5 kByte A2 c3 r_.out] [some ⟨80, [.v (.string ⟨⟨v5⟩⟩), .opt q1 0 1, .v (.slice A2 r_.out.length c3)]⟩] ρ _ _ := hX
     have hX : Cx 99 _ _ _ _ _ [own_units_reader ({ s := v5, out := r_.out } : T_units_reader) (ρ 0)] [none] ρ _ _ := Cx.packP (Y := (Bool × Option Addr × Nat)) hX 0 ((q1, A2, c3) : (Bool × Option Addr × Nat)) rfl rfl rfl rfl (fun h => h)
     have hX : Cx 99 _ _ _ _ _ [own_units_reader ({ s := v5, out := r_.out } : T_units_reader) (ρ 0)] [none] ρ _ _ := hX
     refine Cx.callH (M := [own_units_reader ({ s := v5, out := r_.out } : T_units_reader) (ρ 0)]) (L := []) hX (lit := []) (by kernel_rfl) rfl (by kernel_rfl) ⟨⟨_, Tryz.func64, by kernel_rfl, rfl⟩⟩ (ss := [.ptr 0 0, .v (.int .i64 2)]) (by kernel_rfl) [.ptr 0 0, .v (.int .i64 2)] rfl (fun hg => ⟨trivial, hg.2.1, trivial⟩) [ρ 0] (fun D' hD' hv hle hg hst => units_reader_digits.ok ({ s := v5, out := r_.out } : T_units_reader) 2 v14 hv14 _ _ hv (hG.mono hle) hg (fun k => match k with | 0 => ρ 0 | _ => 0) D' hD' hst) (fun s F M w a hp hX => ?_)
     obtain ⟨hp, rfl⟩ := hp
     subst hp
     have hX : Cx 99 _ _ _ _ _ [own_units_reader v14.2 (ρ 0)] [none] ρ _ _ := hX
     obtain ⟨⟨q15, A16, c17⟩, hX⟩ := Cx.unpackP (k := 0) (Y := (Bool × Option Addr × Nat)) (ty := 80) hX (fun (y : (Bool × Option Addr × Nat)) => [.v (.string ⟨⟨v14.2.s⟩⟩), .opt y.1 0 1, .v (.slice y.2.1 v14.2.out.length y.2.2)]) rfl (fun y => rfl) (fun y F h => h) (fun y => rfl)
     have hX : Cx 99 _ _ _ _ _ [accP 5 kByte A16 c17 v14.2.out] [some ⟨80, [.v (.string ⟨⟨v14.2.s⟩⟩), .opt q15 0 1, .v (.slice A16 v14.2.out.length c17)]⟩] ρ _ _ := hX
     refine hX.part [] 1 [2] (l' := [(2, .v (.bool v14.1))]) (B' := [some ⟨80, [.v (.string ⟨⟨v14.2.s⟩⟩), .opt q15 0 1, .v (.slice A16 v14.2.out.length c17)]⟩]) (by kernel_rfl) fun ρ w a hX => ?_
     refine wpList_end ?_
     refine hK15 _ _ ?_
     refine wp_ret ?_
     have hX : Cx 99 _ _ _ _ _ [accP 5 kByte A16 c17 v14.2.out] [some ⟨80, [.v (.string ⟨⟨v14.2.s⟩⟩), .opt q15 0 1, .v (.slice A16 v14.2.out.length c17)]⟩] ρ _ _ := hX
     have hX : Cx 99 _ _ _ _ _ [own_units_reader v14.2 (ρ 0)] [none] ρ _ _ := Cx.packP (Y := (Bool × Option Addr × Nat)) hX 0 ((q15, A16, c17) : (Bool × Option Addr × Nat)) rfl rfl rfl rfl (fun h => h)
     have hX : Cx 99 _ _ _ _ _ [own_units_reader v14.2 (ρ 0)] [none] ρ _ _ := hX
     have hr := Option.some.inj (show some _ = some _ from h0)
     subst hr
     exact hX.retH (M := [own_units_reader v14.2 (ρ 0)]) (ss := [.v (.bool v14.1)]) (by kernel_rfl) (by kernel_rfl) ⟨rfl, by rw [(hX.fix 0 _ (by rw [hD]; rfl)).2]⟩
    ·have h0 := ite_ff h0 hb
     refine Cx.rseq hX [] [0, 3, 50] (l' := [(0, .ptr 0 0), (3, .v (.int .u8 v4)), (50, .v (.bool (v4 == 117)))]) (B' := [some ⟨80, [.v (.string ⟨⟨v5⟩⟩), .opt q1 0 1, .v (.slice A2 r_.out.length c3)]⟩]) (by kernel_rfl) fun ρ w a hX => ?_
     refine Cx.cond hX (b := (v4 == 117)) (by kernel_rfl) (fun hb => ?_) (fun hb => ?_)
     ·have h0 := ite_tt h0 hb
      refine wp_seq_k fun K17 hK17 => ?_
      refine wp_region_list ?_
      refine hX.part [] 1 [53] (l' := [(53, .ptr 0 0)]) (B' := [some ⟨80, [.v (.string ⟨⟨v5⟩⟩), .opt q1 0 1, .v (.slice A2 r_.out.length c3)]⟩]) (by kernel_rfl) fun ρ w a hX => ?_
      obtain ⟨v18, hv18, h0⟩ := bnd_some h0
      have hX : Cx 99 _ _ _ _ _ [accP 5 kByte A2 c3 r_.out] [some ⟨80, [.v (.string ⟨⟨v5⟩⟩), .opt q1 0 1, .v (.slice A2 r_.out.length c3)]⟩] ρ _ _ := hX
      have hX : Cx 99 _ _ _ _ _ [own_units_reader ({ s := v5, out := r_.out } : T_units_reader) (ρ 0)] [none] ρ _ _ := Cx.packP (Y := (Bool × Option Addr × Nat)) hX 0 ((q1, A2, c3) : (Bool × Option Addr × Nat)) rfl rfl rfl rfl (fun h => h)
      have hX : Cx 99 _ _ _ _ _ [own_units_reader ({ s := v5, out := r_.out } : T_units_reader) (ρ 0)] [none] ρ _ _ := hX
      refine Cx.callH (M := [own_units_reader ({ s := v5, out := r_.out } : T_units_reader) (ρ 0)]) (L := []) hX (lit := []) (by kernel_rfl) rfl (by kernel_rfl) ⟨⟨_, Tryz.func64, by kernel_rfl, rfl⟩⟩ (ss := [.ptr 0 0, .v (.int .i64 4)]) (by kernel_rfl) [.ptr 0 0, .v (.int .i64 4)] rfl (fun hg => ⟨trivial, hg.2.1, trivial⟩) [ρ 0] (fun D' hD' hv hle hg hst => units_reader_digits.ok ({ s := v5, out := r_.out } : T_units_reader) 4 v18 hv18 _ _ hv (hG.mono hle) hg (fun k => match k with | 0 => ρ 0 | _ => 0) D' hD' hst) (fun s F M w a hp hX => ?_)
      obtain ⟨hp, rfl⟩ := hp
      subst hp
      have hX : Cx 99 _ _ _ _ _ [own_units_reader v18.2 (ρ 0)] [none] ρ _ _ := hX
      obtain ⟨⟨q19, A20, c21⟩, hX⟩ := Cx.unpackP (k := 0) (Y := (Bool × Option Addr × Nat)) (ty := 80) hX (fun (y : (Bool × Option Addr × Nat)) => [.v (.string ⟨⟨v18.2.s⟩⟩), .opt y.1 0 1, .v (.slice y.2.1 v18.2.out.length y.2.2)]) rfl (fun y => rfl) (fun y F h => h) (fun y => rfl)
      have hX : Cx 99 _ _ _ _ _ [accP 5 kByte A20 c21 v18.2.out] [some ⟨80, [.v (.string ⟨⟨v18.2.s⟩⟩), .opt q19 0 1, .v (.slice A20 v18.2.out.length c21)]⟩] ρ _ _ := hX
      refine hX.part [] 1 [2] (l' := [(2, .v (.bool v18.1))]) (B' := [some ⟨80, [.v (.string ⟨⟨v18.2.s⟩⟩), .opt q19 0 1, .v (.slice A20 v18.2.out.length c21)]⟩]) (by kernel_rfl) fun ρ w a hX => ?_
      refine wpList_end ?_
      refine hK17 _ _ ?_
      refine wp_ret ?_
      have hX : Cx 99 _ _ _ _ _ [accP 5 kByte A20 c21 v18.2.out] [some ⟨80, [.v (.string ⟨⟨v18.2.s⟩⟩), .opt q19 0 1, .v (.slice A20 v18.2.out.length c21)]⟩] ρ _ _ := hX
      have hX : Cx 99 _ _ _ _ _ [own_units_reader v18.2 (ρ 0)] [none] ρ _ _ := Cx.packP (Y := (Bool × Option Addr × Nat)) hX 0 ((q19, A20, c21) : (Bool × Option Addr × Nat)) rfl rfl rfl rfl (fun h => h)
      have hX : Cx 99 _ _ _ _ _ [own_units_reader v18.2 (ρ 0)] [none] ρ _ _ := hX
      have hr := Option.some.inj (show some _ = some _ from h0)
      subst hr
      exact hX.retH (M := [own_units_reader v18.2 (ρ 0)]) (ss := [.v (.bool v18.1)]) (by kernel_rfl) (by kernel_rfl) ⟨rfl, by rw [(hX.fix 0 _ (by rw [hD]; rfl)).2]⟩
     ·have h0 := ite_ff h0 hb
      refine Cx.rseq hX [] [0, 3, 55] (l' := [(0, .ptr 0 0), (3, .v (.int .u8 v4)), (55, .v (.bool (v4 == 48)))]) (B' := [some ⟨80, [.v (.string ⟨⟨v5⟩⟩), .opt q1 0 1, .v (.slice A2 r_.out.length c3)]⟩]) (by kernel_rfl) fun ρ w a hX => ?_
      refine Cx.cond hX (b := (v4 == 48)) (by kernel_rfl) (fun hb => ?_) (fun hb => ?_)
      ·have h0 := ite_tt h0 hb
       refine wp_seq_k fun K19 hK19 => ?_
       have hGd := hG.mono hX.st.le
       refine hX.draw rfl (n := 5) rfl #[false, false, false, false, false] (by kernel_rfl) fun w D' hDk back hX => ?_
       refine hX.dq 0 rfl (lit := []) (by kernel_rfl) (listed' := #[true, false, false, false, false]) (by kernel_rfl) (by kernel_rfl) (s := .ptr 0 0) (by kernel_rfl) fun a hX => ?_
       refine hX.dq 1 rfl (lit := []) (by kernel_rfl) (listed' := #[true, true, false, false, false]) (by kernel_rfl) (by kernel_rfl) (s := .ptr 0 0) (by kernel_rfl) fun a hX => ?_
       refine hX.dq 2 rfl (lit := []) (by kernel_rfl) (listed' := #[true, true, true, false, false]) (by kernel_rfl) (by kernel_rfl) (s := .ptr 0 1) (by kernel_rfl) fun a hX => ?_
       refine dseq (listed' := #[true, true, true, true, false]) 3 (by kernel_rfl) rfl (by kernel_rfl) ?_
       obtain ⟨v22, hv22, h0⟩ := bnd_some h0
       refine Cx.call0 hX (lit := []) (by kernel_rfl) rfl (by kernel_rfl) ⟨⟨_, Tryz.func53, by kernel_rfl, rfl⟩⟩ (ss := [.v (.int .i64 0)]) (by kernel_rfl) [.v (.int .i64 0)] rfl (fun hg => hg) (fun hv hle hg => units_unit.ok 0 v22 hv22 _ _ hv (hGd.mono hle) hg _) (fun s F w a hp hX => ?_)
       subst hp
       refine dnext hX.st.sub0 ?_
       refine dseq (listed' := #[true, true, true, true, true]) 4 (by kernel_rfl) rfl (by kernel_rfl) ?_
       obtain ⟨v23, hv23, h0⟩ := bnd_some h0
       have hX : Cx 99 _ _ _ _ _ [accP 5 kByte A2 c3 r_.out] [some ⟨80, [.v (.string ⟨⟨v5⟩⟩), .opt q1 0 1, .v (.slice A2 r_.out.length c3)]⟩] ρ _ _ := hX
       have hX : Cx 99 _ _ _ _ _ [own_units_reader ({ s := v5, out := r_.out } : T_units_reader) (ρ 0)] [none] ρ _ _ := Cx.packP (Y := (Bool × Option Addr × Nat)) hX 0 ((q1, A2, c3) : (Bool × Option Addr × Nat)) rfl rfl rfl rfl (fun h => h)
       have hX : Cx 99 _ _ _ _ _ [own_units_reader ({ s := v5, out := r_.out } : T_units_reader) (ρ 0)] [none] ρ _ _ := hX
       refine Cx.callH (M := [own_units_reader ({ s := v5, out := r_.out } : T_units_reader) (ρ 0)]) (L := []) hX (lit := []) (by kernel_rfl) rfl (by kernel_rfl) ⟨⟨_, Tryz.func52, by kernel_rfl, rfl⟩⟩ (ss := [.ptr 0 1, .v (.string ⟨⟨v22⟩⟩)]) (by kernel_rfl) [.ptr 0 1, .v (.string ⟨⟨v22⟩⟩)] rfl (fun hg => ⟨trivial, hg.2.1, trivial⟩) [ρ 0] (fun D' hD' hv hle hg hst => strings_Builder_WriteString_at_units_reader_1.ok ({ s := v5, out := r_.out } : T_units_reader) v22 v23 hv23 _ _ hv (hGd.mono hle) hg (fun k => match k with | 0 => ρ 0 | _ => 0) D' hD' hst) (fun s F M w a hp hX => ?_)
       obtain ⟨hp, rfl⟩ := hp
       obtain ⟨_, _, rfl, rfl, ⟨q24, rfl⟩⟩ := hp
       have hX : Cx 99 _ _ _ _ _ [own_units_reader v23.2.2 (ρ 0)] [none] ρ _ _ := hX
       obtain ⟨⟨q25, A26, c27⟩, hX⟩ := Cx.unpackP (k := 0) (Y := (Bool × Option Addr × Nat)) (ty := 80) hX (fun (y : (Bool × Option Addr × Nat)) => [.v (.string ⟨⟨v23.2.2.s⟩⟩), .opt y.1 0 1, .v (.slice y.2.1 v23.2.2.out.length y.2.2)]) rfl (fun y => rfl) (fun y F h => h) (fun y => rfl)
       have hX : Cx 99 _ _ _ _ _ [accP 5 kByte A26 c27 v23.2.2.out] [some ⟨80, [.v (.string ⟨⟨v23.2.2.s⟩⟩), .opt q25 0 1, .v (.slice A26 v23.2.2.out.length c27)]⟩] ρ _ _ := hX
       refine dnext hX.st.sub0 ?_
       have hX := back hX
       refine ddone (by kernel_rfl) ?_
       refine hK19 _ _ ?_
       refine wp_seq_k fun K20 hK20 => ?_
       have J20 : ∀ (x30 : Bool), units_reader_escape.j1 v23 x30 = some r → ∀ (ρ : Nat → Nat) (w : World) (F : Heap) (a : Act), Cx 99 w0 F0 D w F [accP 5 kByte A26 c27 v23.2.2.out] [some ⟨80, [.v (.string ⟨⟨v23.2.2.s⟩⟩), .opt q25 0 1, .v (.slice A26 v23.2.2.out.length c27)]⟩] ρ [(2, .v (.bool x30))] a → K20 a w := by
        intro x30 h0  ρ w F a hX
        unfold units_reader_escape.j1 at h0
        refine hK20 _ _ ?_
        refine wp_ret ?_
        have hX : Cx 99 _ _ _ _ _ [accP 5 kByte A26 c27 v23.2.2.out] [some ⟨80, [.v (.string ⟨⟨v23.2.2.s⟩⟩), .opt q25 0 1, .v (.slice A26 v23.2.2.out.length c27)]⟩] ρ _ _ := hX
        have hX : Cx 99 _ _ _ _ _ [own_units_reader v23.2.2 (ρ 0)] [none] ρ _ _ := Cx.packP (Y := (Bool × Option Addr × Nat)) hX 0 ((q25, A26, c27) : (Bool × Option Addr × Nat)) rfl rfl rfl rfl (fun h => h)
        have hX : Cx 99 _ _ _ _ _ [own_units_reader v23.2.2 (ρ 0)] [none] ρ _ _ := hX
        have hr := Option.some.inj (show some _ = some _ from h0)
        subst hr
        exact hX.retH (M := [own_units_reader v23.2.2 (ρ 0)]) (ss := [.v (.bool x30)]) (by kernel_rfl) (by kernel_rfl) ⟨rfl, by rw [(hX.fix 0 _ (by rw [hD]; rfl)).2]⟩
       refine wp_region_list ?_
       refine hX.part [] 6 [0, 68] (l' := [(0, .ptr 0 0), (68, .v (.bool (v23.2.2.s == ([] : Str))))]) (B' := [some ⟨80, [.v (.string ⟨⟨v23.2.2.s⟩⟩), .opt q25 0 1, .v (.slice A26 v23.2.2.out.length c27)]⟩]) (by kernel_rfl) fun ρ w a hX => ?_
       refine ite_go h0 (fun hb h0 => ?_) (fun hb h0 => ?_)
       ·have hX := hX.relit 68 hb (by kernel_rfl)
        refine hX.part [5, 13] 16 [2] (l' := [(2, .v (.bool true))]) (B' := [some ⟨80, [.v (.string ⟨⟨v23.2.2.s⟩⟩), .opt q25 0 1, .v (.slice A26 v23.2.2.out.length c27)]⟩]) (by kernel_rfl) fun ρ w a hX => ?_
        refine wpList_end ?_
        have hX := hX.keeps [2] (l' := [(2, .v (.bool true))]) (by kernel_rfl)
        exact J20 true h0  _ _ _ _ hX
       ·have hX := hX.relit 68 hb (by kernel_rfl)
        refine hX.part [5] 4 [0, 68, 72] (l' := [(0, .ptr 0 0), (68, .v (.bool false)), (72, .v (.string ⟨⟨v23.2.2.s⟩⟩))]) (B' := [some ⟨80, [.v (.string ⟨⟨v23.2.2.s⟩⟩), .opt q25 0 1, .v (.slice A26 v23.2.2.out.length c27)]⟩]) (by kernel_rfl) fun ρ w a hX => ?_
        obtain ⟨v28, hv28, h0⟩ := bnd_some h0
        refine hX.idxStr (lit := [5]) (by kernel_rfl) (by kernel_rfl) rfl (s := v23.2.2.s) (k := .i64) (n := 0) (b := v28) (by kernel_rfl) (by kernel_rfl) (by kernel_rfl) hv28 fun a hX => ?_
        refine hX.part [5] 3 [0, 76] (l' := [(0, .ptr 0 0), (76, .v (.bool (decide (v28 < 48))))]) (B' := [some ⟨80, [.v (.string ⟨⟨v23.2.2.s⟩⟩), .opt q25 0 1, .v (.slice A26 v23.2.2.out.length c27)]⟩]) (by kernel_rfl) fun ρ w a hX => ?_
        refine ite_go h0 (fun hb h0 => ?_) (fun hb h0 => ?_)
        ·have hX := hX.relit 76 hb (by kernel_rfl)
         refine hX.part [13] 8 [2] (l' := [(2, .v (.bool true))]) (B' := [some ⟨80, [.v (.string ⟨⟨v23.2.2.s⟩⟩), .opt q25 0 1, .v (.slice A26 v23.2.2.out.length c27)]⟩]) (by kernel_rfl) fun ρ w a hX => ?_
         refine wpList_end ?_
         have hX := hX.keeps [2] (l' := [(2, .v (.bool true))]) (by kernel_rfl)
         exact J20 true h0  _ _ _ _ hX
        ·have hX := hX.relit 76 hb (by kernel_rfl)
         refine hX.part [13] 4 [76, 80] (l' := [(76, .v (.bool false)), (80, .v (.string ⟨⟨v23.2.2.s⟩⟩))]) (B' := [some ⟨80, [.v (.string ⟨⟨v23.2.2.s⟩⟩), .opt q25 0 1, .v (.slice A26 v23.2.2.out.length c27)]⟩]) (by kernel_rfl) fun ρ w a hX => ?_
         obtain ⟨v29, hv29, h0⟩ := bnd_some h0
         refine hX.idxStr (lit := [13]) (by kernel_rfl) (by kernel_rfl) rfl (s := v23.2.2.s) (k := .i64) (n := 0) (b := v29) (by kernel_rfl) (by kernel_rfl) (by kernel_rfl) hv29 fun a hX => ?_
         refine hX.part [13] 3 [2] (l' := [(2, .v (.bool (decide (v29 > 57))))]) (B' := [some ⟨80, [.v (.string ⟨⟨v23.2.2.s⟩⟩), .opt q25 0 1, .v (.slice A26 v23.2.2.out.length c27)]⟩]) (by kernel_rfl) fun ρ w a hX => ?_
         refine wpList_end ?_
         have hX := hX.keeps [2] (l' := [(2, .v (.bool (decide (v29 > 57))))]) (by kernel_rfl)
         exact J20 (decide (v29 > 57)) h0  _ _ _ _ hX
      ·have h0 := ite_ff h0 hb
       refine Cx.rseq hX [] [0, 3, 84] (l' := [(0, .ptr 0 0), (3, .v (.int .u8 v4)), (84, .v (.bool (((v4 == 13) || ((decide (v4 ≥ 49)) && (decide (v4 ≤ 57)))) || (decide (v4 ≥ 128)))))]) (B' := [some ⟨80, [.v (.string ⟨⟨v5⟩⟩), .opt q1 0 1, .v (.slice A2 r_.out.length c3)]⟩]) (by kernel_rfl) fun ρ w a hX => ?_
       refine Cx.cond hX (b := (((v4 == 13) || ((decide (v4 ≥ 49)) && (decide (v4 ≤ 57)))) || (decide (v4 ≥ 128)))) (by kernel_rfl) (fun hb => ?_) (fun hb => ?_)
       ·have h0 := ite_tt h0 hb
        refine Cx.rseq hX [] [2] (l' := [(2, .v (.bool false))]) (B' := [some ⟨80, [.v (.string ⟨⟨v5⟩⟩), .opt q1 0 1, .v (.slice A2 r_.out.length c3)]⟩]) (by kernel_rfl) fun ρ w a hX => ?_
        refine wp_ret ?_
        have hX : Cx 99 _ _ _ _ _ [accP 5 kByte A2 c3 r_.out] [some ⟨80, [.v (.string ⟨⟨v5⟩⟩), .opt q1 0 1, .v (.slice A2 r_.out.length c3)]⟩] ρ _ _ := hX
        have hX : Cx 99 _ _ _ _ _ [own_units_reader ({ s := v5, out := r_.out } : T_units_reader) (ρ 0)] [none] ρ _ _ := Cx.packP (Y := (Bool × Option Addr × Nat)) hX 0 ((q1, A2, c3) : (Bool × Option Addr × Nat)) rfl rfl rfl rfl (fun h => h)
        have hX : Cx 99 _ _ _ _ _ [own_units_reader ({ s := v5, out := r_.out } : T_units_reader) (ρ 0)] [none] ρ _ _ := hX
        have hr := Option.some.inj (show some _ = some _ from h0)
        subst hr
        exact hX.retH (M := [own_units_reader ({ s := v5, out := r_.out } : T_units_reader) (ρ 0)]) (ss := [.v (.bool false)]) (by kernel_rfl) (by kernel_rfl) ⟨rfl, by rw [(hX.fix 0 _ (by rw [hD]; rfl)).2]⟩
       ·have h0 := ite_ff h0 hb
        have hGd := hG.mono hX.st.le
        refine hX.draw rfl (n := 7) rfl #[false, false, false, false, false, false, false] (by kernel_rfl) fun w D' hDk back hX => ?_
        refine hX.dq 0 rfl (lit := []) (by kernel_rfl) (listed' := #[true, false, false, false, false, false, false]) (by kernel_rfl) (by kernel_rfl) (s := .ptr 0 0) (by kernel_rfl) fun a hX => ?_
        refine hX.dq 1 rfl (lit := []) (by kernel_rfl) (listed' := #[true, true, false, false, false, false, false]) (by kernel_rfl) (by kernel_rfl) (s := .ptr 0 0) (by kernel_rfl) fun a hX => ?_
        refine hX.dq 2 rfl (lit := []) (by kernel_rfl) (listed' := #[true, true, true, false, false, false, false]) (by kernel_rfl) (by kernel_rfl) (s := .ptr 0 1) (by kernel_rfl) fun a hX => ?_
        refine hX.dq 3 rfl (lit := []) (by kernel_rfl) (listed' := #[true, true, true, true, false, false, false]) (by kernel_rfl) (by kernel_rfl) (s := .v (.int .u8 v4)) (by kernel_rfl) fun a hX => ?_
        refine hX.dq 4 rfl (lit := []) (by kernel_rfl) (listed' := #[true, true, true, true, true, false, false]) (by kernel_rfl) (by kernel_rfl) (s := .v (.int .i64 (IntKind.wrap .i64 v4))) (by kernel_rfl) fun a hX => ?_
        refine dseq (listed' := #[true, true, true, true, true, true, false]) 5 (by kernel_rfl) rfl (by kernel_rfl) ?_
        obtain ⟨v31, hv31, h0⟩ := bnd_some h0
        refine Cx.call0 hX (lit := []) (by kernel_rfl) rfl (by kernel_rfl) ⟨⟨_, Tryz.func53, by kernel_rfl, rfl⟩⟩ (ss := [.v (.int .i64 (IntKind.wrap .i64 v4))]) (by kernel_rfl) [.v (.int .i64 (IntKind.wrap .i64 v4))] rfl (fun hg => hg) (fun hv hle hg => units_unit.ok (IntKind.wrap .i64 v4) v31 hv31 _ _ hv (hGd.mono hle) hg _) (fun s F w a hp hX => ?_)
        subst hp
        refine dnext hX.st.sub0 ?_
        refine dseq (listed' := #[true, true, true, true, true, true, true]) 6 (by kernel_rfl) rfl (by kernel_rfl) ?_
        obtain ⟨v32, hv32, h0⟩ := bnd_some h0
        have hX : Cx 99 _ _ _ _ _ [accP 5 kByte A2 c3 r_.out] [some ⟨80, [.v (.string ⟨⟨v5⟩⟩), .opt q1 0 1, .v (.slice A2 r_.out.length c3)]⟩] ρ _ _ := hX
        have hX : Cx 99 _ _ _ _ _ [own_units_reader ({ s := v5, out := r_.out } : T_units_reader) (ρ 0)] [none] ρ _ _ := Cx.packP (Y := (Bool × Option Addr × Nat)) hX 0 ((q1, A2, c3) : (Bool × Option Addr × Nat)) rfl rfl rfl rfl (fun h => h)
        have hX : Cx 99 _ _ _ _ _ [own_units_reader ({ s := v5, out := r_.out } : T_units_reader) (ρ 0)] [none] ρ _ _ := hX
        refine Cx.callH (M := [own_units_reader ({ s := v5, out := r_.out } : T_units_reader) (ρ 0)]) (L := []) hX (lit := []) (by kernel_rfl) rfl (by kernel_rfl) ⟨⟨_, Tryz.func52, by kernel_rfl, rfl⟩⟩ (ss := [.ptr 0 1, .v (.string ⟨⟨v31⟩⟩)]) (by kernel_rfl) [.ptr 0 1, .v (.string ⟨⟨v31⟩⟩)] rfl (fun hg => ⟨trivial, hg.2.1, trivial⟩) [ρ 0] (fun D' hD' hv hle hg hst => strings_Builder_WriteString_at_units_reader_1.ok ({ s := v5, out := r_.out } : T_units_reader) v31 v32 hv32 _ _ hv (hGd.mono hle) hg (fun k => match k with | 0 => ρ 0 | _ => 0) D' hD' hst) (fun s F M w a hp hX => ?_)
        obtain ⟨hp, rfl⟩ := hp
        obtain ⟨_, _, rfl, rfl, ⟨q33, rfl⟩⟩ := hp
        have hX : Cx 99 _ _ _ _ _ [own_units_reader v32.2.2 (ρ 0)] [none] ρ _ _ := hX
        obtain ⟨⟨q34, A35, c36⟩, hX⟩ := Cx.unpackP (k := 0) (Y := (Bool × Option Addr × Nat)) (ty := 80) hX (fun (y : (Bool × Option Addr × Nat)) => [.v (.string ⟨⟨v32.2.2.s⟩⟩), .opt y.1 0 1, .v (.slice y.2.1 v32.2.2.out.length y.2.2)]) rfl (fun y => rfl) (fun y F h => h) (fun y => rfl)
        have hX : Cx 99 _ _ _ _ _ [accP 5 kByte A35 c36 v32.2.2.out] [some ⟨80, [.v (.string ⟨⟨v32.2.2.s⟩⟩), .opt q34 0 1, .v (.slice A35 v32.2.2.out.length c36)]⟩] ρ _ _ := hX
        refine dnext hX.st.sub0 ?_
        have hX := back hX
        refine ddone (by kernel_rfl) ?_
        have hX := hX.keeps [] (l' := []) (by kernel_rfl)
        exact J12 v32.2.2.s v32.2.2.out h0 q34 A35 c36 _ _ _ _ hX
def units_Read.j4 (x42 : Str) (x43 : Int) : Option ((Str × (List UInt8)) ⊕ ((Unit) ⊕ (Str × Int × Int))) :=
  some (.inr (.inr (x42, x43, 0)))
def units_Read.j5 (v35 : Int) (x48 : Bool) (x49 : Str) (x51 : List UInt8) : Option ((Str × (List UInt8)) ⊕ ((Unit) ⊕ (Str × Int × Int))) :=
  if x48 = true then
    some (.inr (.inr (([] : Str), 0, 10)))
  else
    if (v35 != 92) = true then
      Option.bind (units_unit (IntKind.wrap .i64 v35)) fun v54 =>
      Option.bind (strings_Builder_WriteString_at_units_reader_1 ({ s := x49, out := x51 } : T_units_reader) v54) fun v55 =>
      some (.inl (v55.2.2.s, v55.2.2.out))
    else
      some (.inl (x49, x51))
def units_Read.l1 (s_ : Str) (s : Str × (List UInt8)) : Option ((Str × (List UInt8)) ⊕ ((Unit) ⊕ (Str × Int × Int))) := match s with
  | (x30, x32) =>
  if (!(x30 == ([] : Str))) = true then
    Option.bind (getB x30 0) fun v35 =>
    Option.bind (cutL x30 1 ((x30.length : Nat) : Int)) fun v36 =>
    Option.bind (getB s_ 0) fun v37 =>
    if (v35 == v37) = true then
      Option.bind (strings_Builder_String_at_units_reader_1 ({ s := v36, out := x32 } : T_units_reader)) fun v38 =>
      units_Read.j4 v38 (IntKind.wrap .i64 (((s_.length : Nat) : Int) - (((({ s := v36, out := x32 } : T_units_reader).s).length : Nat) : Int)))
    else
      if (((v35 == 10) || (v35 == 13)) || (decide (v35 ≥ 128))) = true then
        units_Read.j5 v35 (((v35 == 10) || (v35 == 13)) || (decide (v35 ≥ 128))) v36 x32
      else
        if (v35 == 92) = true then
          Option.bind (units_reader_escape ({ s := v36, out := x32 } : T_units_reader)) fun v44 =>
          units_Read.j5 v35 (!v44.1) v44.2.s v44.2.out
        else
          units_Read.j5 v35 false v36 x32
  else
    some (.inr (.inl ()))
def units_Read.j1 (s_ : Str) (x3 : Bool) : Option (Str × Int × Int) :=
  if x3 = true then
    some (([] : Str), 0, 10)
  else
    Option.bind (cutL s_ 1 ((s_.length : Nat) : Int)) fun v4 =>
    Option.bind (loopM (units_Read.l1 s_) (v4, [])) fun e => match e with
    | (.inl ()) =>
      some (([] : Str), 0, 10)
    | (.inr r65) =>
      some r65
def units_Read (s_ : Str) : Option (Str × Int × Int) :=
  if (s_ == ([] : Str)) = true then
    units_Read.j1 s_ true
  else
    Option.bind (getB s_ 0) fun v1 =>
    if (v1 != 39) = true then
      Option.bind (getB s_ 0) fun v2 =>
      units_Read.j1 s_ (v2 != 34)
    else
      units_Read.j1 s_ false
theorem units_Read.ok (s_ : Str) (r : Str × Int × Int) (h0 : units_Read s_ = some r) (w0 : World) (F0 : Heap) (hv : F0.Sub w0) (hG : Glob F0) (hg : SV.goods F0 [.v (.string ⟨⟨s_⟩⟩)]) (ρ : Nat → Nat) :
    Calls Tryz.prog 35 (SV.dens ρ [.v (.string ⟨⟨s_⟩⟩)]).toArray w0 (Ret0 w0 F0 fun s => ∃ s1 s2 s3, s = .tup [s1, s2, s3] ∧ (s1 = .v (.string ⟨⟨r.1⟩⟩)) ∧ (s2 = .v (.int .i64 r.2.1)) ∧ (s3 = .v (.int .i64 r.2.2))) := by
 refine calls_of_wp Tryz.func35 rfl ?_
 have hX := Cx.enter (D := No) (B := []) (L := []) (ρ := ρ) (N := 86) Tryz.ntmps35 [.v (.string ⟨⟨s_⟩⟩)] (St.start hv) rfl hg (by kernel_rfl) (fun _ h => by cases h) (Nat.le_of_ble_eq_true rfl) No.unfix
 unfold units_Read at h0
 refine Cx.rseq hX [] [0] (l' := [(0, .v (.string ⟨⟨s_⟩⟩))]) (B' := []) (by kernel_rfl) fun ρ w a hX => ?_
 refine wp_seq_k fun K2 hK2 => ?_
 refine wp_seq_k fun K3 hK3 => ?_
 have J3 : ∀ (x3 : Bool), units_Read.j1 s_ x3 = some r → ∀ (ρ : Nat → Nat) (w : World) (F : Heap) (a : Act), Cx 86 w0 F0 No w F [] [] ρ [(0, .v (.string ⟨⟨s_⟩⟩)), (18, .v (.bool x3))] a → K3 a w := by
  intro x3 h0  ρ w F a hX
  unfold units_Read.j1 at h0
  refine hK3 _ _ ?_
  refine Cx.cond hX (b := x3) (by kernel_rfl) (fun hb => ?_) (fun hb => ?_)
  ·have h0 := ite_tt h0 hb
   refine Cx.rseq hX [] [2, 3, 4] (l' := [(2, .v (.string ⟨⟨([] : Str)⟩⟩)), (3, .v (.int .i64 0)), (4, .v (.int .i64 10))]) (B' := []) (by kernel_rfl) fun ρ w a hX => ?_
   refine wp_ret ?_
   have hr := Option.some.inj (show some _ = some _ from h0)
   subst hr
   exact hX.ret0 (ss := [.v (.string ⟨⟨([] : Str)⟩⟩), .v (.int .i64 0), .v (.int .i64 10)]) (by kernel_rfl) (by kernel_rfl) ⟨_, _, _, rfl, rfl, rfl, rfl⟩
  ·have h0 := ite_ff h0 hb
   refine wp_skip ?_
   refine hK2 _ _ ?_
   refine wp_seq_k fun K5 hK5 => ?_
   refine wp_region_list ?_
   refine hX.part [] 1 [0, 19] (l' := [(0, .v (.string ⟨⟨s_⟩⟩)), (19, .v (.string ⟨⟨s_⟩⟩))]) (B' := []) (by kernel_rfl) fun ρ w a hX => ?_
   obtain ⟨v4, hv4, h0⟩ := bnd_some h0
   refine hX.cutStr (lit := []) (by kernel_rfl) (by kernel_rfl) rfl (s := s_) (ol := some 1) (oh := none) (r := v4) (by kernel_rfl) (by kernel_rfl) (by kernel_rfl) (by kernel_rfl) hv4 fun a hX => ?_
   refine hX.part [] 3 [0, 5] (l' := [(0, .v (.string ⟨⟨s_⟩⟩)), (5, .ptr 0 0)]) (B' := [some ⟨80, [.v (.string ⟨⟨v4⟩⟩), .v (.pointer none), .v (.slice none 0 0)]⟩]) (by kernel_rfl) fun ρ w a hX => ?_
   refine wpList_end ?_
   refine hK5 _ _ ?_
   refine wp_seq_k fun K6 hK6 => ?_
   refine wp_block ?_
   have hX := hX.newAcc 5 kByte
   have hX := hX.rebox 0 (b := ⟨80, [.v (.string ⟨⟨v4⟩⟩), .v (.pointer none), .v (.slice none 0 0)]⟩) (cs := [.v (.string ⟨⟨v4⟩⟩), .opt false 0 1, .v (.slice none ([] : List UInt8).length 0)]) (B' := [some ⟨80, [.v (.string ⟨⟨v4⟩⟩), .opt false 0 1, .v (.slice none ([] : List UInt8).length 0)]⟩]) (by kernel_rfl) (fun ρ => by rfl) (by have hg := (hX.bgood ⟨80, [.v (.string ⟨⟨v4⟩⟩), .v (.pointer none), .v (.slice none 0 0)]⟩ (List.mem_of_getElem? (i := 0) (by kernel_rfl))).1; exact ⟨trivial, trivial, trivial, trivial⟩) (by kernel_rfl) (by kernel_rfl)
   have hX := hX.keeps [0, 5] (l' := [(0, .v (.string ⟨⟨s_⟩⟩)), (5, .ptr 0 0)]) (by kernel_rfl)
   obtain ⟨e1, he1, h0⟩ := bnd_some h0
   have E1x0 : ∀ (_ : Unit), e1 = (.inl ()) → ∀ (ρ : Nat → Nat) (w : World) (F : Heap) (a : Act), Cx 86 w0 F0 No w F [] [] ρ [] a → K6 a w := by
    intro _ he  ρ w F a hX
    replace he := he.symm
    subst he
    (try dsimp only at h0)
    refine hK6 _ _ ?_
    refine Cx.rseq hX [] [2, 3, 4] (l' := [(2, .v (.string ⟨⟨([] : Str)⟩⟩)), (3, .v (.int .i64 0)), (4, .v (.int .i64 10))]) (B' := []) (by kernel_rfl) fun ρ w a hX => ?_
    refine wp_ret ?_
    have hr := Option.some.inj (show some _ = some _ from h0)
    subst hr
    exact hX.ret0 (ss := [.v (.string ⟨⟨([] : Str)⟩⟩), .v (.int .i64 0), .v (.int .i64 10)]) (by kernel_rfl) (by kernel_rfl) ⟨_, _, _, rfl, rfl, rfl, rfl⟩
   refine loop_go (fun (s : Str × (List UInt8)) a w => match s with | (x30, x32) => ∃ (q31 : Bool) (A33 : Option Addr) (c34 : Nat) (ρ : Nat → Nat) (F : Heap), Cx 86 w0 F0 No w F [accP 5 kByte A33 c34 x32] [some ⟨80, [.v (.string ⟨⟨x30⟩⟩), .opt q31 0 1, .v (.slice A33 x32.length c34)]⟩] ρ [(0, .v (.string ⟨⟨s_⟩⟩)), (5, .ptr 0 0)] a) he1 (fun LW1 s o1 h1 hb1 hx1 a w hI => ?_) _ _ ?_
   ·obtain ⟨x30, x32⟩ := s
    obtain ⟨q31, A33, c34, ρ, F, hX⟩ := hI
    unfold units_Read.l1 at h1
    (try dsimp only at h1)
    refine wp_seq_k fun K17 hK17 => ?_
    refine Cx.rseq hX [] [0, 5, 27] (l' := [(0, .v (.string ⟨⟨s_⟩⟩)), (5, .ptr 0 0), (27, .v (.bool (!(x30 == ([] : Str)))))]) (B' := [some ⟨80, [.v (.string ⟨⟨x30⟩⟩), .opt q31 0 1, .v (.slice A33 x32.length c34)]⟩]) (by kernel_rfl) fun ρ w a hX => ?_
    refine Cx.cond hX (b := (!(x30 == ([] : Str)))) (by kernel_rfl) (fun hb => ?_) (fun hb => ?_)
    ·have h1 := ite_tt h1 hb
     refine wp_skip ?_
     refine hK17 _ _ ?_
     refine wp_block ?_
     refine wp_seq_k fun K19 hK19 => ?_
     refine wp_region_list ?_
     refine hX.part [] 4 [0, 5, 31] (l' := [(0, .v (.string ⟨⟨s_⟩⟩)), (5, .ptr 0 0), (31, .v (.string ⟨⟨x30⟩⟩))]) (B' := [some ⟨80, [.v (.string ⟨⟨x30⟩⟩), .opt q31 0 1, .v (.slice A33 x32.length c34)]⟩]) (by kernel_rfl) fun ρ w a hX => ?_
     obtain ⟨v35, hv35, h1⟩ := bnd_some h1
     refine hX.idxStr (lit := []) (by kernel_rfl) (by kernel_rfl) rfl (s := x30) (k := .i64) (n := 0) (b := v35) (by kernel_rfl) (by kernel_rfl) (by kernel_rfl) hv35 fun a hX => ?_
     refine hX.part [] 1 [0, 5, 6] (l' := [(0, .v (.string ⟨⟨s_⟩⟩)), (5, .ptr 0 0), (6, .v (.int .u8 v35))]) (B' := [some ⟨80, [.v (.string ⟨⟨x30⟩⟩), .opt q31 0 1, .v (.slice A33 x32.length c34)]⟩]) (by kernel_rfl) fun ρ w a hX => ?_
     refine wpList_end ?_
     refine hK19 _ _ ?_
     refine wp_seq_k fun K20 hK20 => ?_
     refine wp_region_list ?_
     refine hX.part [] 5 [0, 5, 6, 33, 37] (l' := [(0, .v (.string ⟨⟨s_⟩⟩)), (5, .ptr 0 0), (6, .v (.int .u8 v35)), (33, .ptr 0 0), (37, .v (.string ⟨⟨x30⟩⟩))]) (B' := [some ⟨80, [.v (.string ⟨⟨x30⟩⟩), .opt q31 0 1, .v (.slice A33 x32.length c34)]⟩]) (by kernel_rfl) fun ρ w a hX => ?_
     obtain ⟨v36, hv36, h1⟩ := bnd_some h1
     refine hX.cutStr (lit := []) (by kernel_rfl) (by kernel_rfl) rfl (s := x30) (ol := some 1) (oh := none) (r := v36) (by kernel_rfl) (by kernel_rfl) (by kernel_rfl) (by kernel_rfl) hv36 fun a hX => ?_
     refine hX.part [] 3 [0, 5, 6] (l' := [(0, .v (.string ⟨⟨s_⟩⟩)), (5, .ptr 0 0), (6, .v (.int .u8 v35))]) (B' := [some ⟨80, [.v (.string ⟨⟨v36⟩⟩), .opt q31 0 1, .v (.slice A33 x32.length c34)]⟩]) (by kernel_rfl) fun ρ w a hX => ?_
     refine wpList_end ?_
     refine hK20 _ _ ?_
     refine wp_block ?_
     refine wp_seq_k fun K21 hK21 => ?_
     refine wp_region_list ?_
     refine hX.part [] 2 [0, 5, 6, 42, 43] (l' := [(0, .v (.string ⟨⟨s_⟩⟩)), (5, .ptr 0 0), (6, .v (.int .u8 v35)), (42, .v (.int .u8 v35)), (43, .v (.string ⟨⟨s_⟩⟩))]) (B' := [some ⟨80, [.v (.string ⟨⟨v36⟩⟩), .opt q31 0 1, .v (.slice A33 x32.length c34)]⟩]) (by kernel_rfl) fun ρ w a hX => ?_
     obtain ⟨v37, hv37, h1⟩ := bnd_some h1
     refine hX.idxStr (lit := []) (by kernel_rfl) (by kernel_rfl) rfl (s := s_) (k := .i64) (n := 0) (b := v37) (by kernel_rfl) (by kernel_rfl) (by kernel_rfl) hv37 fun a hX => ?_
     refine hX.part [] 2 [0, 5, 6, 41] (l' := [(0, .v (.string ⟨⟨s_⟩⟩)), (5, .ptr 0 0), (6, .v (.int .u8 v35)), (41, .v (.bool (v35 == v37)))]) (B' := [some ⟨80, [.v (.string ⟨⟨v36⟩⟩), .opt q31 0 1, .v (.slice A33 x32.length c34)]⟩]) (by kernel_rfl) fun ρ w a hX => ?_
     refine wpList_end ?_
     refine hK21 _ _ ?_
     refine Cx.cond hX (b := (v35 == v37)) (by kernel_rfl) (fun hb => ?_) (fun hb => ?_)
     ·have h1 := ite_tt h1 hb
      refine wp_seq_k fun K22 hK22 => ?_
      have J22 : ∀ (x42 : Str) (x43 : Int), units_Read.j4 x42 x43 = some o1 → ∀ (ρ : Nat → Nat) (w : World) (F : Heap) (a : Act), Cx 86 w0 F0 No w F [] [] ρ [(2, .v (.string ⟨⟨x42⟩⟩)), (3, .v (.int .i64 x43)), (4, .v (.int .i64 0))] a → K22 a w := by
       intro x42 x43 h1  ρ w F a hX
       unfold units_Read.j4 at h1
       refine hK22 _ _ ?_
       refine wp_ret ?_
       have he := hx1 _ (out_eq h1)
       subst he
       (try dsimp only at h0)
       have hr := Option.some.inj (show some _ = some _ from h0)
       subst hr
       exact hX.ret0 (ss := [.v (.string ⟨⟨x42⟩⟩), .v (.int .i64 x43), .v (.int .i64 0)]) (by kernel_rfl) (by kernel_rfl) ⟨_, _, _, rfl, rfl, rfl, rfl⟩
      have hGd := hG.mono hX.st.le
      refine hX.draw rfl (n := 15) rfl #[false, false, false, false, false, false, false, false, false, false, false, false, false, false, false] (by kernel_rfl) fun w D' hDk back hX => ?_
      refine hX.dq 0 rfl (lit := []) (by kernel_rfl) (listed' := #[true, false, false, false, false, false, false, false, false, false, false, false, false, false, false]) (by kernel_rfl) (by kernel_rfl) (s := .ptr 0 0) (by kernel_rfl) fun a hX => ?_
      refine hX.dq 1 rfl (lit := []) (by kernel_rfl) (listed' := #[true, true, false, false, false, false, false, false, false, false, false, false, false, false, false]) (by kernel_rfl) (by kernel_rfl) (s := .ptr 0 0) (by kernel_rfl) fun a hX => ?_
      refine hX.dq 2 rfl (lit := []) (by kernel_rfl) (listed' := #[true, true, true, false, false, false, false, false, false, false, false, false, false, false, false]) (by kernel_rfl) (by kernel_rfl) (s := .ptr 0 1) (by kernel_rfl) fun a hX => ?_
      refine hX.dq 4 rfl (lit := []) (by kernel_rfl) (listed' := #[true, true, true, false, true, false, false, false, false, false, false, false, false, false, false]) (by kernel_rfl) (by kernel_rfl) (s := .v (.string ⟨⟨s_⟩⟩)) (by kernel_rfl) fun a hX => ?_
      refine hX.dq 5 rfl (lit := []) (by kernel_rfl) (listed' := #[true, true, true, false, true, true, false, false, false, false, false, false, false, false, false]) (by kernel_rfl) (by kernel_rfl) (s := .v (.int .i64 ((s_.length : Nat) : Int))) (by kernel_rfl) fun a hX => ?_
      refine hX.dq 6 rfl (lit := []) (by kernel_rfl) (listed' := #[true, true, true, false, true, true, true, false, false, false, false, false, false, false, false]) (by kernel_rfl) (by kernel_rfl) (s := .ptr 0 0) (by kernel_rfl) fun a hX => ?_
      refine hX.dq 7 rfl (lit := []) (by kernel_rfl) (listed' := #[true, true, true, false, true, true, true, true, false, false, false, false, false, false, false]) (by kernel_rfl) (by kernel_rfl) (s := .ptr 0 0) (by kernel_rfl) fun a hX => ?_
      refine hX.dq 8 rfl (lit := []) (by kernel_rfl) (listed' := #[true, true, true, false, true, true, true, true, true, false, false, false, false, false, false]) (by kernel_rfl) (by kernel_rfl) (s := .ptr 0 0) (by kernel_rfl) fun a hX => ?_
      obtain ⟨v38, hv38, h1⟩ := bnd_some h1
      refine dord (r := [3, 9]) (by kernel_rfl) (by decide) fun i hi => ?_
      simp only [List.mem_cons, List.not_mem_nil, or_false] at hi
      rcases hi with rfl | rfl
      ·refine dtry (listed' := #[true, true, true, true, true, true, true, true, true, false, false, false, false, false, false]) 3 rfl (by kernel_rfl) ?_
       have hX : Cx 86 _ _ _ _ _ [accP 5 kByte A33 c34 x32] [some ⟨80, [.v (.string ⟨⟨v36⟩⟩), .opt q31 0 1, .v (.slice A33 x32.length c34)]⟩] ρ _ _ := hX
       have hX : Cx 86 _ _ _ _ _ [own_units_reader ({ s := v36, out := x32 } : T_units_reader) (ρ 0)] [none] ρ _ _ := Cx.packP (Y := (Bool × Option Addr × Nat)) hX 0 ((q31, A33, c34) : (Bool × Option Addr × Nat)) rfl rfl rfl rfl (fun h => h)
       have hX : Cx 86 _ _ _ _ _ [own_units_reader ({ s := v36, out := x32 } : T_units_reader) (ρ 0)] [none] ρ _ _ := hX
       refine Cx.callH (M := [own_units_reader ({ s := v36, out := x32 } : T_units_reader) (ρ 0)]) (L := []) hX (lit := []) (by kernel_rfl) rfl (by kernel_rfl) ⟨⟨_, Tryz.func50, by kernel_rfl, rfl⟩⟩ (ss := [.ptr 0 1]) (by kernel_rfl) [.ptr 0 1] rfl (fun hg => ⟨trivial, trivial⟩) [ρ 0] (fun D' hD' hv hle hg hst => strings_Builder_String_at_units_reader_1.ok ({ s := v36, out := x32 } : T_units_reader) v38 hv38 _ _ hv (hGd.mono hle) hg (fun k => match k with | 0 => ρ 0 | _ => 0) D' hD' hst) (fun s F M w a hp hX => ?_)
       obtain ⟨hp, rfl⟩ := hp
       subst hp
       have hX : Cx 86 _ _ _ _ _ [own_units_reader_d ({ s := v36, out := x32 } : T_units_reader) (ρ 0)] [none] ρ _ _ := hX
       obtain ⟨⟨q39, A40, c41⟩, hX⟩ := Cx.unpackP (k := 0) (Y := (Bool × Option Addr × Nat)) (ty := 80) hX (fun (y : (Bool × Option Addr × Nat)) => [.v (.string ⟨⟨({ s := v36, out := x32 } : T_units_reader).s⟩⟩), .opt y.1 0 1, .v (.slice y.2.1 (({ s := v36, out := x32 } : T_units_reader).out).length y.2.2)]) rfl (fun y => rfl) (fun y F h => h) (fun y => rfl)
       have hX : Cx 86 _ _ _ _ _ [] [some ⟨80, [.v (.string ⟨⟨({ s := v36, out := x32 } : T_units_reader).s⟩⟩), .opt q39 0 1, .v (.slice A40 (({ s := v36, out := x32 } : T_units_reader).out).length c41)]⟩] ρ _ _ := hX
       refine dnext hX.st.sub0 ?_
       refine hX.moveS 12 rfl (lit := []) (by kernel_rfl) (listed' := #[true, true, true, true, true, true, true, true, true, false, false, false, true, false, false]) (by kernel_rfl) (by kernel_rfl) hX.st.sub0 (.inr rfl) (s := .v (.string ⟨⟨v38⟩⟩)) (by kernel_rfl) fun a hX => ?_
       refine dseq (listed' := #[true, true, true, true, true, true, true, true, true, true, false, false, true, false, false]) 9 (by kernel_rfl) rfl (by kernel_rfl) ?_
       refine hX.part [] 1 [0, 2, 5, 6, 41, 46, 47, 48, 49, 50, 51, 52, 53, 54, 55] (l' := [(0, .v (.string ⟨⟨s_⟩⟩)), (2, .v (.string ⟨⟨v38⟩⟩)), (5, .ptr 0 0), (6, .v (.int .u8 v35)), (41, .v (.bool (v35 == v37))), (46, .ptr 0 0), (47, .ptr 0 0), (48, .ptr 0 1), (49, .v (.string ⟨⟨v38⟩⟩)), (50, .v (.string ⟨⟨s_⟩⟩)), (51, .v (.int .i64 ((s_.length : Nat) : Int))), (52, .ptr 0 0), (53, .ptr 0 0), (54, .ptr 0 0), (55, .v (.string ⟨⟨({ s := v36, out := x32 } : T_units_reader).s⟩⟩))]) (B' := [some ⟨80, [.v (.string ⟨⟨({ s := v36, out := x32 } : T_units_reader).s⟩⟩), .opt q39 0 1, .v (.slice A40 (({ s := v36, out := x32 } : T_units_reader).out).length c41)]⟩]) (by kernel_rfl) fun ρ w a hX => ?_
       refine dnext hX.st.sub0 ?_
       refine dseq (listed' := #[true, true, true, true, true, true, true, true, true, true, true, false, true, false, false]) 10 (by kernel_rfl) rfl (by kernel_rfl) ?_
       refine hX.part [] 1 [0, 2, 5, 6, 41, 46, 47, 48, 49, 50, 51, 52, 53, 54, 55, 56] (l' := [(0, .v (.string ⟨⟨s_⟩⟩)), (2, .v (.string ⟨⟨v38⟩⟩)), (5, .ptr 0 0), (6, .v (.int .u8 v35)), (41, .v (.bool (v35 == v37))), (46, .ptr 0 0), (47, .ptr 0 0), (48, .ptr 0 1), (49, .v (.string ⟨⟨v38⟩⟩)), (50, .v (.string ⟨⟨s_⟩⟩)), (51, .v (.int .i64 ((s_.length : Nat) : Int))), (52, .ptr 0 0), (53, .ptr 0 0), (54, .ptr 0 0), (55, .v (.string ⟨⟨({ s := v36, out := x32 } : T_units_reader).s⟩⟩)), (56, .v (.int .i64 (((({ s := v36, out := x32 } : T_units_reader).s).length : Nat) : Int)))]) (B' := [some ⟨80, [.v (.string ⟨⟨({ s := v36, out := x32 } : T_units_reader).s⟩⟩), .opt q39 0 1, .v (.slice A40 (({ s := v36, out := x32 } : T_units_reader).out).length c41)]⟩]) (by kernel_rfl) fun ρ w a hX => ?_
       refine dnext hX.st.sub0 ?_
       refine hX.quietS 11 rfl (lit := []) (by kernel_rfl) (listed' := #[true, true, true, true, true, true, true, true, true, true, true, true, true, false, false]) (by kernel_rfl) (by kernel_rfl) hX.st.sub0 (s := .v (.int .i64 (IntKind.wrap .i64 (((s_.length : Nat) : Int) - (((({ s := v36, out := x32 } : T_units_reader).s).length : Nat) : Int))))) (by kernel_rfl) fun a hX => ?_
       refine hX.moveS 13 rfl (lit := []) (by kernel_rfl) (listed' := #[true, true, true, true, true, true, true, true, true, true, true, true, true, true, false]) (by kernel_rfl) (by kernel_rfl) hX.st.sub0 (.inr rfl) (s := .v (.int .i64 (IntKind.wrap .i64 (((s_.length : Nat) : Int) - (((({ s := v36, out := x32 } : T_units_reader).s).length : Nat) : Int))))) (by kernel_rfl) fun a hX => ?_
       refine hX.moveS 14 rfl (lit := []) (by kernel_rfl) (listed' := #[true, true, true, true, true, true, true, true, true, true, true, true, true, true, true]) (by kernel_rfl) (by kernel_rfl) hX.st.sub0 (.inr rfl) (s := .v (.int .i64 0)) (by kernel_rfl) fun a hX => ?_
       have hX := back hX
       refine ddone (by kernel_rfl) ?_
       have hX := hX.keeps [2, 3, 4] (l' := [(2, .v (.string ⟨⟨v38⟩⟩)), (3, .v (.int .i64 (IntKind.wrap .i64 (((s_.length : Nat) : Int) - (((({ s := v36, out := x32 } : T_units_reader).s).length : Nat) : Int))))), (4, .v (.int .i64 0))]) (by kernel_rfl)
       have hX := hX.shrink 0 (B' := []) (by kernel_rfl) (Nat.le_of_ble_eq_true rfl) (by kernel_rfl) (by kernel_rfl) (Nat.zero_le _)
       exact J22 v38 (IntKind.wrap .i64 (((s_.length : Nat) : Int) - (((({ s := v36, out := x32 } : T_units_reader).s).length : Nat) : Int))) h1  _ _ _ _ hX
      ·refine dtry (listed' := #[true, true, true, false, true, true, true, true, true, true, false, false, false, false, false]) 9 rfl (by kernel_rfl) ?_
       refine hX.part [] 1 [0, 5, 6, 41, 46, 47, 48, 50, 51, 52, 53, 54, 55] (l' := [(0, .v (.string ⟨⟨s_⟩⟩)), (5, .ptr 0 0), (6, .v (.int .u8 v35)), (41, .v (.bool (v35 == v37))), (46, .ptr 0 0), (47, .ptr 0 0), (48, .ptr 0 1), (50, .v (.string ⟨⟨s_⟩⟩)), (51, .v (.int .i64 ((s_.length : Nat) : Int))), (52, .ptr 0 0), (53, .ptr 0 0), (54, .ptr 0 0), (55, .v (.string ⟨⟨v36⟩⟩))]) (B' := [some ⟨80, [.v (.string ⟨⟨v36⟩⟩), .opt q31 0 1, .v (.slice A33 x32.length c34)]⟩]) (by kernel_rfl) fun ρ w a hX => ?_
       refine dnext hX.st.sub0 ?_
       refine hX.dq 10 rfl (lit := []) (by kernel_rfl) (listed' := #[true, true, true, false, true, true, true, true, true, true, true, false, false, false, false]) (by kernel_rfl) (by kernel_rfl) (s := .v (.int .i64 ((v36.length : Nat) : Int))) (by kernel_rfl) fun a hX => ?_
       refine hX.dq 11 rfl (lit := []) (by kernel_rfl) (listed' := #[true, true, true, false, true, true, true, true, true, true, true, true, false, false, false]) (by kernel_rfl) (by kernel_rfl) (s := .v (.int .i64 (IntKind.wrap .i64 (((s_.length : Nat) : Int) - ((v36.length : Nat) : Int))))) (by kernel_rfl) fun a hX => ?_
       refine dseq (listed' := #[true, true, true, true, true, true, true, true, true, true, true, true, false, false, false]) 3 (by kernel_rfl) rfl (by kernel_rfl) ?_
       have hX : Cx 86 _ _ _ _ _ [accP 5 kByte A33 c34 x32] [some ⟨80, [.v (.string ⟨⟨v36⟩⟩), .opt q31 0 1, .v (.slice A33 x32.length c34)]⟩] ρ _ _ := hX
       have hX : Cx 86 _ _ _ _ _ [own_units_reader ({ s := v36, out := x32 } : T_units_reader) (ρ 0)] [none] ρ _ _ := Cx.packP (Y := (Bool × Option Addr × Nat)) hX 0 ((q31, A33, c34) : (Bool × Option Addr × Nat)) rfl rfl rfl rfl (fun h => h)
       have hX : Cx 86 _ _ _ _ _ [own_units_reader ({ s := v36, out := x32 } : T_units_reader) (ρ 0)] [none] ρ _ _ := hX
       refine Cx.callH (M := [own_units_reader ({ s := v36, out := x32 } : T_units_reader) (ρ 0)]) (L := []) hX (lit := []) (by kernel_rfl) rfl (by kernel_rfl) ⟨⟨_, Tryz.func50, by kernel_rfl, rfl⟩⟩ (ss := [.ptr 0 1]) (by kernel_rfl) [.ptr 0 1] rfl (fun hg => ⟨trivial, trivial⟩) [ρ 0] (fun D' hD' hv hle hg hst => strings_Builder_String_at_units_reader_1.ok ({ s := v36, out := x32 } : T_units_reader) v38 hv38 _ _ hv (hGd.mono hle) hg (fun k => match k with | 0 => ρ 0 | _ => 0) D' hD' hst) (fun s F M w a hp hX => ?_)
       obtain ⟨hp, rfl⟩ := hp
       subst hp
       have hX : Cx 86 _ _ _ _ _ [own_units_reader_d ({ s := v36, out := x32 } : T_units_reader) (ρ 0)] [none] ρ _ _ := hX
       obtain ⟨⟨q39, A40, c41⟩, hX⟩ := Cx.unpackP (k := 0) (Y := (Bool × Option Addr × Nat)) (ty := 80) hX (fun (y : (Bool × Option Addr × Nat)) => [.v (.string ⟨⟨({ s := v36, out := x32 } : T_units_reader).s⟩⟩), .opt y.1 0 1, .v (.slice y.2.1 (({ s := v36, out := x32 } : T_units_reader).out).length y.2.2)]) rfl (fun y => rfl) (fun y F h => h) (fun y => rfl)
       have hX : Cx 86 _ _ _ _ _ [] [some ⟨80, [.v (.string ⟨⟨({ s := v36, out := x32 } : T_units_reader).s⟩⟩), .opt q39 0 1, .v (.slice A40 (({ s := v36, out := x32 } : T_units_reader).out).length c41)]⟩] ρ _ _ := hX
       refine dnext hX.st.sub0 ?_
       refine hX.moveS 12 rfl (lit := []) (by kernel_rfl) (listed' := #[true, true, true, true, true, true, true, true, true, true, true, true, true, false, false]) (by kernel_rfl) (by kernel_rfl) hX.st.sub0 (.inr rfl) (s := .v (.string ⟨⟨v38⟩⟩)) (by kernel_rfl) fun a hX => ?_
       refine hX.moveS 13 rfl (lit := []) (by kernel_rfl) (listed' := #[true, true, true, true, true, true, true, true, true, true, true, true, true, true, false]) (by kernel_rfl) (by kernel_rfl) hX.st.sub0 (.inr rfl) (s := .v (.int .i64 (IntKind.wrap .i64 (((s_.length : Nat) : Int) - ((v36.length : Nat) : Int))))) (by kernel_rfl) fun a hX => ?_
       refine hX.moveS 14 rfl (lit := []) (by kernel_rfl) (listed' := #[true, true, true, true, true, true, true, true, true, true, true, true, true, true, true]) (by kernel_rfl) (by kernel_rfl) hX.st.sub0 (.inr rfl) (s := .v (.int .i64 0)) (by kernel_rfl) fun a hX => ?_
       have hX := back hX
       refine ddone (by kernel_rfl) ?_
       have hX := hX.keeps [2, 3, 4] (l' := [(2, .v (.string ⟨⟨v38⟩⟩)), (3, .v (.int .i64 (IntKind.wrap .i64 (((s_.length : Nat) : Int) - ((v36.length : Nat) : Int))))), (4, .v (.int .i64 0))]) (by kernel_rfl)
       have hX := hX.shrink 0 (B' := []) (by kernel_rfl) (Nat.le_of_ble_eq_true rfl) (by kernel_rfl) (by kernel_rfl) (Nat.zero_le _)
       exact J22 v38 (IntKind.wrap .i64 (((s_.length : Nat) : Int) - ((v36.length : Nat) : Int))) h1  _ _ _ _ hX
     ·have h1 := ite_ff h1 hb
      refine wp_seq_k fun K23 hK23 => ?_
      have J23 : ∀ (x48 : Bool) (x49 : Str) (x51 : List UInt8), units_Read.j5 v35 x48 x49 x51 = some o1 → ∀ (q50 : Bool) (A52 : Option Addr) (c53 : Nat) (ρ : Nat → Nat) (w : World) (F : Heap) (a : Act), Cx 86 w0 F0 No w F [accP 5 kByte A52 c53 x51] [some ⟨80, [.v (.string ⟨⟨x49⟩⟩), .opt q50 0 1, .v (.slice A52 x51.length c53)]⟩] ρ [(0, .v (.string ⟨⟨s_⟩⟩)), (5, .ptr 0 0), (6, .v (.int .u8 v35)), (58, .v (.bool x48))] a → K23 a w := by
       intro x48 x49 x51 h1 q50 A52 c53 ρ w F a hX
       unfold units_Read.j5 at h1
       refine hK23 _ _ ?_
       refine Cx.cond hX (b := x48) (by kernel_rfl) (fun hb => ?_) (fun hb => ?_)
       ·have h1 := ite_tt h1 hb
        refine Cx.rseq hX [] [2, 3, 4] (l' := [(2, .v (.string ⟨⟨([] : Str)⟩⟩)), (3, .v (.int .i64 0)), (4, .v (.int .i64 10))]) (B' := [some ⟨80, [.v (.string ⟨⟨x49⟩⟩), .opt q50 0 1, .v (.slice A52 x51.length c53)]⟩]) (by kernel_rfl) fun ρ w a hX => ?_
        refine wp_ret ?_
        have he := hx1 _ (out_eq h1)
        subst he
        (try dsimp only at h0)
        have hr := Option.some.inj (show some _ = some _ from h0)
        subst hr
        exact hX.ret0 (ss := [.v (.string ⟨⟨([] : Str)⟩⟩), .v (.int .i64 0), .v (.int .i64 10)]) (by kernel_rfl) (by kernel_rfl) ⟨_, _, _, rfl, rfl, rfl, rfl⟩
       ·have h1 := ite_ff h1 hb
        refine Cx.rseq hX [] [0, 5, 6, 76] (l' := [(0, .v (.string ⟨⟨s_⟩⟩)), (5, .ptr 0 0), (6, .v (.int .u8 v35)), (76, .v (.bool (v35 != 92)))]) (B' := [some ⟨80, [.v (.string ⟨⟨x49⟩⟩), .opt q50 0 1, .v (.slice A52 x51.length c53)]⟩]) (by kernel_rfl) fun ρ w a hX => ?_
        refine Cx.cond hX (b := (v35 != 92)) (by kernel_rfl) (fun hb => ?_) (fun hb => ?_)
        ·have h1 := ite_tt h1 hb
         have hGd := hG.mono hX.st.le
         refine hX.draw rfl (n := 7) rfl #[false, false, false, false, false, false, false] (by kernel_rfl) fun w D' hDk back hX => ?_
         refine hX.dq 0 rfl (lit := []) (by kernel_rfl) (listed' := #[true, false, false, false, false, false, false]) (by kernel_rfl) (by kernel_rfl) (s := .ptr 0 0) (by kernel_rfl) fun a hX => ?_
         refine hX.dq 1 rfl (lit := []) (by kernel_rfl) (listed' := #[true, true, false, false, false, false, false]) (by kernel_rfl) (by kernel_rfl) (s := .ptr 0 0) (by kernel_rfl) fun a hX => ?_
         refine hX.dq 2 rfl (lit := []) (by kernel_rfl) (listed' := #[true, true, true, false, false, false, false]) (by kernel_rfl) (by kernel_rfl) (s := .ptr 0 1) (by kernel_rfl) fun a hX => ?_
         refine hX.dq 3 rfl (lit := []) (by kernel_rfl) (listed' := #[true, true, true, true, false, false, false]) (by kernel_rfl) (by kernel_rfl) (s := .v (.int .u8 v35)) (by kernel_rfl) fun a hX => ?_
         refine hX.dq 4 rfl (lit := []) (by kernel_rfl) (listed' := #[true, true, true, true, true, false, false]) (by kernel_rfl) (by kernel_rfl) (s := .v (.int .i64 (IntKind.wrap .i64 v35))) (by kernel_rfl) fun a hX => ?_
         refine dseq (listed' := #[true, true, true, true, true, true, false]) 5 (by kernel_rfl) rfl (by kernel_rfl) ?_
         obtain ⟨v54, hv54, h1⟩ := bnd_some h1
         refine Cx.call0 hX (lit := []) (by kernel_rfl) rfl (by kernel_rfl) ⟨⟨_, Tryz.func53, by kernel_rfl, rfl⟩⟩ (ss := [.v (.int .i64 (IntKind.wrap .i64 v35))]) (by kernel_rfl) [.v (.int .i64 (IntKind.wrap .i64 v35))] rfl (fun hg => hg) (fun hv hle hg => units_unit.ok (IntKind.wrap .i64 v35) v54 hv54 _ _ hv (hGd.mono hle) hg _) (fun s F w a hp hX => ?_)
         subst hp
         refine dnext hX.st.sub0 ?_
         refine dseq (listed' := #[true, true, true, true, true, true, true]) 6 (by kernel_rfl) rfl (by kernel_rfl) ?_
         obtain ⟨v55, hv55, h1⟩ := bnd_some h1
         have hX : Cx 86 _ _ _ _ _ [accP 5 kByte A52 c53 x51] [some ⟨80, [.v (.string ⟨⟨x49⟩⟩), .opt q50 0 1, .v (.slice A52 x51.length c53)]⟩] ρ _ _ := hX
         have hX : Cx 86 _ _ _ _ _ [own_units_reader ({ s := x49, out := x51 } : T_units_reader) (ρ 0)] [none] ρ _ _ := Cx.packP (Y := (Bool × Option Addr × Nat)) hX 0 ((q50, A52, c53) : (Bool × Option Addr × Nat)) rfl rfl rfl rfl (fun h => h)
         have hX : Cx 86 _ _ _ _ _ [own_units_reader ({ s := x49, out := x51 } : T_units_reader) (ρ 0)] [none] ρ _ _ := hX
         refine Cx.callH (M := [own_units_reader ({ s := x49, out := x51 } : T_units_reader) (ρ 0)]) (L := []) hX (lit := []) (by kernel_rfl) rfl (by kernel_rfl) ⟨⟨_, Tryz.func52, by kernel_rfl, rfl⟩⟩ (ss := [.ptr 0 1, .v (.string ⟨⟨v54⟩⟩)]) (by kernel_rfl) [.ptr 0 1, .v (.string ⟨⟨v54⟩⟩)] rfl (fun hg => ⟨trivial, hg.2.1, trivial⟩) [ρ 0] (fun D' hD' hv hle hg hst => strings_Builder_WriteString_at_units_reader_1.ok ({ s := x49, out := x51 } : T_units_reader) v54 v55 hv55 _ _ hv (hGd.mono hle) hg (fun k => match k with | 0 => ρ 0 | _ => 0) D' hD' hst) (fun s F M w a hp hX => ?_)
         obtain ⟨hp, rfl⟩ := hp
         obtain ⟨_, _, rfl, rfl, ⟨q56, rfl⟩⟩ := hp
         have hX : Cx 86 _ _ _ _ _ [own_units_reader v55.2.2 (ρ 0)] [none] ρ _ _ := hX
         obtain ⟨⟨q57, A58, c59⟩, hX⟩ := Cx.unpackP (k := 0) (Y := (Bool × Option Addr × Nat)) (ty := 80) hX (fun (y : (Bool × Option Addr × Nat)) => [.v (.string ⟨⟨v55.2.2.s⟩⟩), .opt y.1 0 1, .v (.slice y.2.1 v55.2.2.out.length y.2.2)]) rfl (fun y => rfl) (fun y F h => h) (fun y => rfl)
         have hX : Cx 86 _ _ _ _ _ [accP 5 kByte A58 c59 v55.2.2.out] [some ⟨80, [.v (.string ⟨⟨v55.2.2.s⟩⟩), .opt q57 0 1, .v (.slice A58 v55.2.2.out.length c59)]⟩] ρ _ _ := hX
         refine dnext hX.st.sub0 ?_
         have hX := back hX
         refine ddone (by kernel_rfl) ?_
         have hX := hX.keeps [0, 5] (l' := [(0, .v (.string ⟨⟨s_⟩⟩)), (5, .ptr 0 0)]) (by kernel_rfl)
         exact hb1 (v55.2.2.s, v55.2.2.out) (out_eq h1) _ _ ⟨q57, A58, c59, _, _, hX⟩
        ·have h1 := ite_ff h1 hb
         refine wp_skip ?_
         have hX := hX.keeps [0, 5] (l' := [(0, .v (.string ⟨⟨s_⟩⟩)), (5, .ptr 0 0)]) (by kernel_rfl)
         exact hb1 (x49, x51) (out_eq h1) _ _ ⟨q50, A52, c53, _, _, hX⟩
      refine Cx.rseq hX [] [0, 5, 6, 58] (l' := [(0, .v (.string ⟨⟨s_⟩⟩)), (5, .ptr 0 0), (6, .v (.int .u8 v35)), (58, .v (.bool (((v35 == 10) || (v35 == 13)) || (decide (v35 ≥ 128)))))]) (B' := [some ⟨80, [.v (.string ⟨⟨v36⟩⟩), .opt q31 0 1, .v (.slice A33 x32.length c34)]⟩]) (by kernel_rfl) fun ρ w a hX => ?_
      refine Cx.cond hX (b := (((v35 == 10) || (v35 == 13)) || (decide (v35 ≥ 128)))) (by kernel_rfl) (fun hb => ?_) (fun hb => ?_)
      ·have h1 := ite_tt h1 hb
       refine wp_skip ?_
       have hX := hX.keeps [0, 5, 6, 58] (l' := [(0, .v (.string ⟨⟨s_⟩⟩)), (5, .ptr 0 0), (6, .v (.int .u8 v35)), (58, .v (.bool (((v35 == 10) || (v35 == 13)) || (decide (v35 ≥ 128)))))]) (by kernel_rfl)
       exact J23 (((v35 == 10) || (v35 == 13)) || (decide (v35 ≥ 128))) v36 x32 h1 q31 A33 c34 _ _ _ _ hX
      ·have h1 := ite_ff h1 hb
       refine wp_region_list ?_
       refine hX.part [] 3 [0, 5, 6, 58, 71] (l' := [(0, .v (.string ⟨⟨s_⟩⟩)), (5, .ptr 0 0), (6, .v (.int .u8 v35)), (58, .v (.bool (((v35 == 10) || (v35 == 13)) || (decide (v35 ≥ 128))))), (71, .v (.bool (v35 == 92)))]) (B' := [some ⟨80, [.v (.string ⟨⟨v36⟩⟩), .opt q31 0 1, .v (.slice A33 x32.length c34)]⟩]) (by kernel_rfl) fun ρ w a hX => ?_
       refine ite_go h1 (fun hb h1 => ?_) (fun hb h1 => ?_)
       ·have hX := hX.relit 71 hb (by kernel_rfl)
        refine hX.part [2] 1 [0, 5, 6, 58, 71, 72] (l' := [(0, .v (.string ⟨⟨s_⟩⟩)), (5, .ptr 0 0), (6, .v (.int .u8 v35)), (58, .v (.bool (((v35 == 10) || (v35 == 13)) || (decide (v35 ≥ 128))))), (71, .v (.bool true)), (72, .ptr 0 0)]) (B' := [some ⟨80, [.v (.string ⟨⟨v36⟩⟩), .opt q31 0 1, .v (.slice A33 x32.length c34)]⟩]) (by kernel_rfl) fun ρ w a hX => ?_
        obtain ⟨v44, hv44, h1⟩ := bnd_some h1
        have hX : Cx 86 _ _ _ _ _ [accP 5 kByte A33 c34 x32] [some ⟨80, [.v (.string ⟨⟨v36⟩⟩), .opt q31 0 1, .v (.slice A33 x32.length c34)]⟩] ρ _ _ := hX
        have hX : Cx 86 _ _ _ _ _ [own_units_reader ({ s := v36, out := x32 } : T_units_reader) (ρ 0)] [none] ρ _ _ := Cx.packP (Y := (Bool × Option Addr × Nat)) hX 0 ((q31, A33, c34) : (Bool × Option Addr × Nat)) rfl rfl rfl rfl (fun h => h)
        have hX : Cx 86 _ _ _ _ _ [own_units_reader ({ s := v36, out := x32 } : T_units_reader) (ρ 0)] [none] ρ _ _ := hX
        refine Cx.callH (M := [own_units_reader ({ s := v36, out := x32 } : T_units_reader) (ρ 0)]) (L := []) hX (lit := [2]) (by kernel_rfl) rfl (by kernel_rfl) ⟨⟨_, Tryz.func51, by kernel_rfl, rfl⟩⟩ (ss := [.ptr 0 0]) (by kernel_rfl) [.ptr 0 0] rfl (fun hg => ⟨trivial, trivial⟩) [ρ 0] (fun D' hD' hv hle hg hst => units_reader_escape.ok ({ s := v36, out := x32 } : T_units_reader) v44 hv44 _ _ hv (hG.mono hle) hg (fun k => match k with | 0 => ρ 0 | _ => 0) D' hD' hst) (fun s F M w a hp hX => ?_)
        obtain ⟨hp, rfl⟩ := hp
        subst hp
        have hX : Cx 86 _ _ _ _ _ [own_units_reader v44.2 (ρ 0)] [none] ρ _ _ := hX
        obtain ⟨⟨q45, A46, c47⟩, hX⟩ := Cx.unpackP (k := 0) (Y := (Bool × Option Addr × Nat)) (ty := 80) hX (fun (y : (Bool × Option Addr × Nat)) => [.v (.string ⟨⟨v44.2.s⟩⟩), .opt y.1 0 1, .v (.slice y.2.1 v44.2.out.length y.2.2)]) rfl (fun y => rfl) (fun y F h => h) (fun y => rfl)
        have hX : Cx 86 _ _ _ _ _ [accP 5 kByte A46 c47 v44.2.out] [some ⟨80, [.v (.string ⟨⟨v44.2.s⟩⟩), .opt q45 0 1, .v (.slice A46 v44.2.out.length c47)]⟩] ρ _ _ := hX
        refine hX.part [2] 3 [0, 5, 6, 58] (l' := [(0, .v (.string ⟨⟨s_⟩⟩)), (5, .ptr 0 0), (6, .v (.int .u8 v35)), (58, .v (.bool (!v44.1)))]) (B' := [some ⟨80, [.v (.string ⟨⟨v44.2.s⟩⟩), .opt q45 0 1, .v (.slice A46 v44.2.out.length c47)]⟩]) (by kernel_rfl) fun ρ w a hX => ?_
        refine wpList_end ?_
        have hX := hX.keeps [0, 5, 6, 58] (l' := [(0, .v (.string ⟨⟨s_⟩⟩)), (5, .ptr 0 0), (6, .v (.int .u8 v35)), (58, .v (.bool (!v44.1)))]) (by kernel_rfl)
        exact J23 (!v44.1) v44.2.s v44.2.out h1 q45 A46 c47 _ _ _ _ hX
       ·have hX := hX.relit 71 hb (by kernel_rfl)
        refine hX.part [2] 5 [0, 5, 6, 58] (l' := [(0, .v (.string ⟨⟨s_⟩⟩)), (5, .ptr 0 0), (6, .v (.int .u8 v35)), (58, .v (.bool false))]) (B' := [some ⟨80, [.v (.string ⟨⟨v36⟩⟩), .opt q31 0 1, .v (.slice A33 x32.length c34)]⟩]) (by kernel_rfl) fun ρ w a hX => ?_
        refine wpList_end ?_
        have hX := hX.keeps [0, 5, 6, 58] (l' := [(0, .v (.string ⟨⟨s_⟩⟩)), (5, .ptr 0 0), (6, .v (.int .u8 v35)), (58, .v (.bool false))]) (by kernel_rfl)
        exact J23 false v36 x32 h1 q31 A33 c34 _ _ _ _ hX
    ·have h1 := ite_ff h1 hb
     refine wp_exit ?_
     have hX := hX.dropL 0 rfl rfl
     have hX := hX.keeps [] (l' := []) (by kernel_rfl)
     have hX := hX.shrink 0 (B' := []) (by kernel_rfl) (Nat.le_of_ble_eq_true rfl) (by kernel_rfl) (by kernel_rfl) (Nat.zero_le _)
     exact E1x0 () (hx1 _ (out_eq h1)).symm  _ _ _ _ hX
   ·exact ⟨false, none, 0, _, _, hX⟩
 refine wp_region_list ?_
 refine hX.part [] 3 [0, 9] (l' := [(0, .v (.string ⟨⟨s_⟩⟩)), (9, .v (.bool (s_ == ([] : Str))))]) (B' := []) (by kernel_rfl) fun ρ w a hX => ?_
 refine ite_go h0 (fun hb h0 => ?_) (fun hb h0 => ?_)
 ·have hX := hX.relit 9 hb (by kernel_rfl)
  refine hX.part [2, 6] 9 [0, 18] (l' := [(0, .v (.string ⟨⟨s_⟩⟩)), (18, .v (.bool true))]) (B' := []) (by kernel_rfl) fun ρ w a hX => ?_
  refine wpList_end ?_
  have hX := hX.keeps [0, 18] (l' := [(0, .v (.string ⟨⟨s_⟩⟩)), (18, .v (.bool true))]) (by kernel_rfl)
  exact J3 true h0  _ _ _ _ hX
 ·have hX := hX.relit 9 hb (by kernel_rfl)
  refine hX.part [2] 1 [0, 9, 10] (l' := [(0, .v (.string ⟨⟨s_⟩⟩)), (9, .v (.bool false)), (10, .v (.string ⟨⟨s_⟩⟩))]) (B' := []) (by kernel_rfl) fun ρ w a hX => ?_
  obtain ⟨v1, hv1, h0⟩ := bnd_some h0
  refine hX.idxStr (lit := [2]) (by kernel_rfl) (by kernel_rfl) rfl (s := s_) (k := .i64) (n := 0) (b := v1) (by kernel_rfl) (by kernel_rfl) (by kernel_rfl) hv1 fun a hX => ?_
  refine hX.part [2] 2 [0, 9, 13] (l' := [(0, .v (.string ⟨⟨s_⟩⟩)), (9, .v (.bool false)), (13, .v (.bool (v1 != 39)))]) (B' := []) (by kernel_rfl) fun ρ w a hX => ?_
  refine ite_go h0 (fun hb h0 => ?_) (fun hb h0 => ?_)
  ·have hX := hX.relit 13 hb (by kernel_rfl)
   refine hX.part [6] 1 [0, 9, 13, 14] (l' := [(0, .v (.string ⟨⟨s_⟩⟩)), (9, .v (.bool false)), (13, .v (.bool true)), (14, .v (.string ⟨⟨s_⟩⟩))]) (B' := []) (by kernel_rfl) fun ρ w a hX => ?_
   obtain ⟨v2, hv2, h0⟩ := bnd_some h0
   refine hX.idxStr (lit := [6]) (by kernel_rfl) (by kernel_rfl) rfl (s := s_) (k := .i64) (n := 0) (b := v2) (by kernel_rfl) (by kernel_rfl) (by kernel_rfl) hv2 fun a hX => ?_
   refine hX.part [2, 6] 3 [0, 18] (l' := [(0, .v (.string ⟨⟨s_⟩⟩)), (18, .v (.bool (v2 != 34)))]) (B' := []) (by kernel_rfl) fun ρ w a hX => ?_
   refine wpList_end ?_
   have hX := hX.keeps [0, 18] (l' := [(0, .v (.string ⟨⟨s_⟩⟩)), (18, .v (.bool (v2 != 34)))]) (by kernel_rfl)
   exact J3 (v2 != 34) h0  _ _ _ _ hX
  ·have hX := hX.relit 13 hb (by kernel_rfl)
   refine hX.part [2, 6] 5 [0, 18] (l' := [(0, .v (.string ⟨⟨s_⟩⟩)), (18, .v (.bool false))]) (B' := []) (by kernel_rfl) fun ρ w a hX => ?_
   refine wpList_end ?_
   have hX := hX.keeps [0, 18] (l' := [(0, .v (.string ⟨⟨s_⟩⟩)), (18, .v (.bool false))]) (by kernel_rfl)
   exact J3 false h0  _ _ _ _ hX
def token_cutter_one.j4 (x16 : Int) (x17 : Int) (x19 : Int) (x21 : Str) : Option (T_api_Token × Int) :=
  some (({ Kind := x17, Text := x21, Num := x19, At := 0, Fresh := false } : T_api_Token), x16)
def token_cutter_one.j3 (c : T_token_cutter) (x16 : Int) (x17 : Int) (x18 : Str) (x19 : Int) : Option (T_api_Token × Int) :=
  if (x17 == 5) = true then
    Option.bind (cutL c.rest 0 x16) fun v20 =>
    token_cutter_one.j4 x16 x17 x19 v20
  else
    token_cutter_one.j4 x16 x17 x19 x18
def token_cutter_one.j2 (c : T_token_cutter) (v1 : Int) (x14 : Bool) : Option (T_api_Token × Int) :=
  if x14 = true then
    token_cutter_one.j3 c 2 5 ([] : Str) 0
  else
    Option.bind (strings_IndexByte ([123, 125, 40, 41, 91, 93, 46, 59, 44, 60, 62, 43, 45, 42, 47, 37, 33, 63, 58, 61] : Str) v1) fun v15 =>
    if (decide (v15 ≥ 0)) = true then
      token_cutter_one.j3 c 1 5 ([] : Str) 0
    else
      token_cutter_one.j3 c 0 0 ([] : Str) 0
def token_cutter_one.j1 (c : T_token_cutter) (v1 : Int) (x11 : Bool) : Option (T_api_Token × Int) :=
  if x11 = true then
    token_cutter_one.j3 c 3 5 ([] : Str) 0
  else
    if (decide (((c.rest.length : Nat) : Int) > 1)) = true then
      Option.bind (cutL c.rest 0 2) fun v12 =>
      Option.bind (token_among ([32, 60, 61, 32, 62, 61, 32, 61, 61, 32, 33, 61, 32, 43, 43, 32, 45, 45, 32, 38, 38, 32, 124, 124, 32, 43, 61, 32, 45, 61, 32, 42, 61, 32, 47, 61, 32, 37, 61, 32] : Str) v12) fun v13 =>
      token_cutter_one.j2 c v1 v13
    else
      token_cutter_one.j2 c v1 false
def token_cutter_one (c : T_token_cutter) : Option (T_api_Token × Int) :=
  Option.bind (getB c.rest 0) fun v1 =>
  Option.bind (token_letter v1) fun v2 =>
  if v2 = true then
    Option.bind (token_row c.rest) fun v3 =>
    if (decide (v3 > 32)) = true then
      some (({ Kind := 0, Text := ([] : Str), Num := 0, At := 0, Fresh := false } : T_api_Token), 0)
    else
      Option.bind (cutL c.rest 0 v3) fun v4 =>
      Option.bind (token_IsWord v4) fun v5 =>
      if v5 = true then
        token_cutter_one.j3 c v3 2 v4 0
      else
        token_cutter_one.j3 c v3 1 v4 0
  else
    Option.bind (token_digit v1) fun v6 =>
    if v6 = true then
      Option.bind (token_cutter_number c) fun v7 =>
      token_cutter_one.j3 c v7.2 3 ([] : Str) v7.1
    else
      if ((v1 == 39) || (v1 == 34)) = true then
        Option.bind (units_Read c.rest) fun v8 =>
        token_cutter_one.j3 c v8.2.1 4 v8.1 0
      else
        if (decide (((c.rest.length : Nat) : Int) > 2)) = true then
          Option.bind (cutL c.rest 0 3) fun v9 =>
          Option.bind (token_among ([32, 61, 61, 61, 32, 33, 61, 61, 32] : Str) v9) fun v10 =>
          token_cutter_one.j1 c v1 v10
        else
          token_cutter_one.j1 c v1 false
theorem token_cutter_one.ok (c : T_token_cutter) (r : T_api_Token × Int) (h0 : token_cutter_one c = some r) (w0 : World) (F0 : Heap) (hv : F0.Sub w0) (hG : Glob F0) (hg : SV.goods F0 [.ptr 0 0]) (ρ : Nat → Nat) (D : Own) (hD : D.known = [ρ 0]) (hst : St w0 F0 D w0 F0 [own_token_cutter c (ρ 0)]) :
    Calls Tryz.prog 17 (SV.dens ρ [.ptr 0 0]).toArray w0 (RetH w0 F0 D fun s M => (∃ s1 s2, s = .tup [s1, s2] ∧ (s1 = .agg (fT_api_Token r.1 ())) ∧ (s2 = .v (.int .i64 r.2))) ∧ M = [own_token_cutter c (ρ 0)]) := by
 refine calls_of_wp Tryz.func17 rfl ?_
 have hX := Cx.enter (D := D) (B := nones 1) (L := [own_token_cutter c (ρ 0)]) (ρ := ρ) (N := 88) Tryz.ntmps17 [.ptr 0 0] (hst.emps ρ 1) rfl hg (by kernel_rfl) (fun _ h => (nones_mem h).elim) (Nat.le_of_ble_eq_true rfl) (fix1 hD)
 unfold token_cutter_one at h0
 have hX : Cx 88 _ _ _ _ _ [own_token_cutter c (ρ 0)] [none] ρ _ _ := hX
 obtain ⟨_, hX⟩ := Cx.unpackP (k := 0) (Y := Unit) (ty := 39) hX (fun (y : Unit) => [.v (.string ⟨⟨c.src⟩⟩), .v (.string ⟨⟨c.rest⟩⟩), .v (.bool c.fresh)]) rfl (fun y => rfl) (fun y F h => h) (fun y => rfl)
 have hX : Cx 88 _ _ _ _ _ [] [some ⟨39, [.v (.string ⟨⟨c.src⟩⟩), .v (.string ⟨⟨c.rest⟩⟩), .v (.bool c.fresh)]⟩] ρ _ _ := hX
 refine Cx.rseq hX [] [0, 2, 3] (l' := [(0, .ptr 0 0), (2, .ptr 1 0), (3, .v (.int .i64 0))]) (B' := [some ⟨39, [.v (.string ⟨⟨c.src⟩⟩), .v (.string ⟨⟨c.rest⟩⟩), .v (.bool c.fresh)]⟩, some ⟨25, [.v (.int .i64 0), .v (.string ⟨⟨([] : Str)⟩⟩), .v (.int .i64 0), .v (.int .i64 0), .v (.bool false)]⟩]) (by kernel_rfl) fun ρ w a hX => ?_
 refine Cx.rseq hX [] [0, 2, 3, 4] (l' := [(0, .ptr 0 0), (2, .ptr 1 0), (3, .v (.int .i64 0)), (4, .v (.string ⟨⟨c.rest⟩⟩))]) (B' := [some ⟨39, [.v (.string ⟨⟨c.src⟩⟩), .v (.string ⟨⟨c.rest⟩⟩), .v (.bool c.fresh)]⟩, some ⟨25, [.v (.int .i64 0), .v (.string ⟨⟨([] : Str)⟩⟩), .v (.int .i64 0), .v (.int .i64 0), .v (.bool false)]⟩]) (by kernel_rfl) fun ρ w a hX => ?_
 refine wp_seq_k fun K3 hK3 => ?_
 have J3 : ∀ (x16 : Int) (x17 : Int) (x18 : Str) (x19 : Int), token_cutter_one.j3 c x16 x17 x18 x19 = some r → ∀ (ρ : Nat → Nat) (w : World) (F : Heap) (a : Act), Cx 88 w0 F0 D w F [] [some ⟨39, [.v (.string ⟨⟨c.src⟩⟩), .v (.string ⟨⟨c.rest⟩⟩), .v (.bool c.fresh)]⟩, some ⟨25, [.v (.int .i64 x17), .v (.string ⟨⟨x18⟩⟩), .v (.int .i64 x19), .v (.int .i64 0), .v (.bool false)]⟩] ρ [(2, .ptr 1 0), (3, .v (.int .i64 x16)), (4, .v (.string ⟨⟨c.rest⟩⟩))] a → K3 a w := by
  intro x16 x17 x18 x19 h0  ρ w F a hX
  unfold token_cutter_one.j3 at h0
  refine hK3 _ _ ?_
  refine wp_seq_k fun K19 hK19 => ?_
  have J19 : ∀ (x21 : Str), token_cutter_one.j4 x16 x17 x19 x21 = some r → ∀ (ρ : Nat → Nat) (w : World) (F : Heap) (a : Act), Cx 88 w0 F0 D w F [] [some ⟨39, [.v (.string ⟨⟨c.src⟩⟩), .v (.string ⟨⟨c.rest⟩⟩), .v (.bool c.fresh)]⟩, some ⟨25, [.v (.int .i64 x17), .v (.string ⟨⟨x21⟩⟩), .v (.int .i64 x19), .v (.int .i64 0), .v (.bool false)]⟩] ρ [(2, .ptr 1 0), (3, .v (.int .i64 x16))] a → K19 a w := by
   intro x21 h0  ρ w F a hX
   unfold token_cutter_one.j4 at h0
   refine hK19 _ _ ?_
   refine Cx.rseq hX [] [2, 3] (l' := [(2, .ptr 1 0), (3, .v (.int .i64 x16))]) (B' := [some ⟨39, [.v (.string ⟨⟨c.src⟩⟩), .v (.string ⟨⟨c.rest⟩⟩), .v (.bool c.fresh)]⟩, some ⟨25, [.v (.int .i64 x17), .v (.string ⟨⟨x21⟩⟩), .v (.int .i64 x19), .v (.int .i64 0), .v (.bool false)]⟩]) (by kernel_rfl) fun ρ w a hX => ?_
   refine wp_ret ?_
   have hX : Cx 88 _ _ _ _ _ [] [some ⟨39, [.v (.string ⟨⟨c.src⟩⟩), .v (.string ⟨⟨c.rest⟩⟩), .v (.bool c.fresh)]⟩, some ⟨25, [.v (.int .i64 x17), .v (.string ⟨⟨x21⟩⟩), .v (.int .i64 x19), .v (.int .i64 0), .v (.bool false)]⟩] ρ _ _ := hX
   have hX : Cx 88 _ _ _ _ _ [own_token_cutter c (ρ 0)] [none, some ⟨25, [.v (.int .i64 x17), .v (.string ⟨⟨x21⟩⟩), .v (.int .i64 x19), .v (.int .i64 0), .v (.bool false)]⟩] ρ _ _ := Cx.packP (Y := Unit) hX 0 (() : Unit) rfl rfl rfl rfl (fun h => h)
   have hX : Cx 88 _ _ _ _ _ [own_token_cutter c (ρ 0)] [none, some ⟨25, [.v (.int .i64 x17), .v (.string ⟨⟨x21⟩⟩), .v (.int .i64 x19), .v (.int .i64 0), .v (.bool false)]⟩] ρ _ _ := hX
   have hr := Option.some.inj (show some _ = some _ from h0)
   subst hr
   exact hX.retH (M := [own_token_cutter c (ρ 0)]) (ss := [.agg [.v (.int .i64 x17), .v (.string ⟨⟨x21⟩⟩), .v (.int .i64 x19), .v (.int .i64 0), .v (.bool false)], .v (.int .i64 x16)]) (by kernel_rfl) (by kernel_rfl) ⟨⟨_, _, rfl, rfl, rfl⟩, by rw [(hX.fix 0 _ (by rw [hD]; rfl)).2]⟩
  refine Cx.rseq hX [] [2, 3, 4, 81] (l' := [(2, .ptr 1 0), (3, .v (.int .i64 x16)), (4, .v (.string ⟨⟨c.rest⟩⟩)), (81, .v (.bool (x17 == 5)))]) (B' := [some ⟨39, [.v (.string ⟨⟨c.src⟩⟩), .v (.string ⟨⟨c.rest⟩⟩), .v (.bool c.fresh)]⟩, some ⟨25, [.v (.int .i64 x17), .v (.string ⟨⟨x18⟩⟩), .v (.int .i64 x19), .v (.int .i64 0), .v (.bool false)]⟩]) (by kernel_rfl) fun ρ w a hX => ?_
  refine Cx.cond hX (b := (x17 == 5)) (by kernel_rfl) (fun hb => ?_) (fun hb => ?_)
  ·have h0 := ite_tt h0 hb
   refine wp_region_list ?_
   refine hX.part [] 2 [2, 3, 82, 83] (l' := [(2, .ptr 1 0), (3, .v (.int .i64 x16)), (82, .v (.string ⟨⟨c.rest⟩⟩)), (83, .v (.int .i64 x16))]) (B' := [some ⟨39, [.v (.string ⟨⟨c.src⟩⟩), .v (.string ⟨⟨c.rest⟩⟩), .v (.bool c.fresh)]⟩, some ⟨25, [.v (.int .i64 x17), .v (.string ⟨⟨x18⟩⟩), .v (.int .i64 x19), .v (.int .i64 0), .v (.bool false)]⟩]) (by kernel_rfl) fun ρ w a hX => ?_
   obtain ⟨v20, hv20, h0⟩ := bnd_some h0
   refine hX.cutStr (lit := []) (by kernel_rfl) (by kernel_rfl) rfl (s := c.rest) (ol := none) (oh := some x16) (r := v20) (by kernel_rfl) (by kernel_rfl) (by kernel_rfl) (by kernel_rfl) hv20 fun a hX => ?_
   refine hX.part [] 2 [2, 3] (l' := [(2, .ptr 1 0), (3, .v (.int .i64 x16))]) (B' := [some ⟨39, [.v (.string ⟨⟨c.src⟩⟩), .v (.string ⟨⟨c.rest⟩⟩), .v (.bool c.fresh)]⟩, some ⟨25, [.v (.int .i64 x17), .v (.string ⟨⟨v20⟩⟩), .v (.int .i64 x19), .v (.int .i64 0), .v (.bool false)]⟩]) (by kernel_rfl) fun ρ w a hX => ?_
   refine wpList_end ?_
   have hX := hX.keeps [2, 3] (l' := [(2, .ptr 1 0), (3, .v (.int .i64 x16))]) (by kernel_rfl)
   exact J19 v20 h0  _ _ _ _ hX
  ·have h0 := ite_ff h0 hb
   refine wp_skip ?_
   have hX := hX.keeps [2, 3] (l' := [(2, .ptr 1 0), (3, .v (.int .i64 x16))]) (by kernel_rfl)
   exact J19 x18 h0  _ _ _ _ hX
 refine wp_seq_k fun K4 hK4 => ?_
 refine wp_region_list ?_
 refine hX.part [] 1 [0, 2, 3, 4, 10] (l' := [(0, .ptr 0 0), (2, .ptr 1 0), (3, .v (.int .i64 0)), (4, .v (.string ⟨⟨c.rest⟩⟩)), (10, .v (.string ⟨⟨c.rest⟩⟩))]) (B' := [some ⟨39, [.v (.string ⟨⟨c.src⟩⟩), .v (.string ⟨⟨c.rest⟩⟩), .v (.bool c.fresh)]⟩, some ⟨25, [.v (.int .i64 0), .v (.string ⟨⟨([] : Str)⟩⟩), .v (.int .i64 0), .v (.int .i64 0), .v (.bool false)]⟩]) (by kernel_rfl) fun ρ w a hX => ?_
 obtain ⟨v1, hv1, h0⟩ := bnd_some h0
 refine hX.idxStr (lit := []) (by kernel_rfl) (by kernel_rfl) rfl (s := c.rest) (k := .i64) (n := 0) (b := v1) (by kernel_rfl) (by kernel_rfl) (by kernel_rfl) hv1 fun a hX => ?_
 refine hX.part [] 1 [0, 2, 3, 4, 5] (l' := [(0, .ptr 0 0), (2, .ptr 1 0), (3, .v (.int .i64 0)), (4, .v (.string ⟨⟨c.rest⟩⟩)), (5, .v (.int .u8 v1))]) (B' := [some ⟨39, [.v (.string ⟨⟨c.src⟩⟩), .v (.string ⟨⟨c.rest⟩⟩), .v (.bool c.fresh)]⟩, some ⟨25, [.v (.int .i64 0), .v (.string ⟨⟨([] : Str)⟩⟩), .v (.int .i64 0), .v (.int .i64 0), .v (.bool false)]⟩]) (by kernel_rfl) fun ρ w a hX => ?_
 refine wpList_end ?_
 refine hK4 _ _ ?_
 refine wp_block ?_
 refine wp_seq_k fun K5 hK5 => ?_
 refine wp_region_list ?_
 refine hX.part [] 1 [0, 2, 3, 4, 5, 13] (l' := [(0, .ptr 0 0), (2, .ptr 1 0), (3, .v (.int .i64 0)), (4, .v (.string ⟨⟨c.rest⟩⟩)), (5, .v (.int .u8 v1)), (13, .v (.int .u8 v1))]) (B' := [some ⟨39, [.v (.string ⟨⟨c.src⟩⟩), .v (.string ⟨⟨c.rest⟩⟩), .v (.bool c.fresh)]⟩, some ⟨25, [.v (.int .i64 0), .v (.string ⟨⟨([] : Str)⟩⟩), .v (.int .i64 0), .v (.int .i64 0), .v (.bool false)]⟩]) (by kernel_rfl) fun ρ w a hX => ?_
 obtain ⟨v2, hv2, h0⟩ := bnd_some h0
 refine Cx.call0 hX (lit := []) (by kernel_rfl) rfl (by kernel_rfl) ⟨⟨_, Tryz.func19, by kernel_rfl, rfl⟩⟩ (ss := [.v (.int .u8 v1)]) (by kernel_rfl) [.v (.int .u8 v1)] rfl (fun hg => hg) (fun hv hle hg => token_letter.ok v1 v2 hv2 _ _ hv (hG.mono hle) hg _) (fun s F w a hp hX => ?_)
 subst hp
 refine hX.part [] 1 [0, 2, 3, 4, 5, 12] (l' := [(0, .ptr 0 0), (2, .ptr 1 0), (3, .v (.int .i64 0)), (4, .v (.string ⟨⟨c.rest⟩⟩)), (5, .v (.int .u8 v1)), (12, .v (.bool v2))]) (B' := [some ⟨39, [.v (.string ⟨⟨c.src⟩⟩), .v (.string ⟨⟨c.rest⟩⟩), .v (.bool c.fresh)]⟩, some ⟨25, [.v (.int .i64 0), .v (.string ⟨⟨([] : Str)⟩⟩), .v (.int .i64 0), .v (.int .i64 0), .v (.bool false)]⟩]) (by kernel_rfl) fun ρ w a hX => ?_
 refine wpList_end ?_
 refine hK5 _ _ ?_
 refine Cx.cond hX (b := v2) (by kernel_rfl) (fun hb => ?_) (fun hb => ?_)
 ·have h0 := ite_tt h0 hb
  refine wp_seq_k fun K6 hK6 => ?_
  refine wp_region_list ?_
  refine hX.part [] 1 [2, 3, 4, 15] (l' := [(2, .ptr 1 0), (3, .v (.int .i64 0)), (4, .v (.string ⟨⟨c.rest⟩⟩)), (15, .v (.string ⟨⟨c.rest⟩⟩))]) (B' := [some ⟨39, [.v (.string ⟨⟨c.src⟩⟩), .v (.string ⟨⟨c.rest⟩⟩), .v (.bool c.fresh)]⟩, some ⟨25, [.v (.int .i64 0), .v (.string ⟨⟨([] : Str)⟩⟩), .v (.int .i64 0), .v (.int .i64 0), .v (.bool false)]⟩]) (by kernel_rfl) fun ρ w a hX => ?_
  obtain ⟨v3, hv3, h0⟩ := bnd_some h0
  refine Cx.call0 hX (lit := []) (by kernel_rfl) rfl (by kernel_rfl) ⟨⟨_, Tryz.func20, by kernel_rfl, rfl⟩⟩ (ss := [.v (.string ⟨⟨c.rest⟩⟩)]) (by kernel_rfl) [.v (.string ⟨⟨c.rest⟩⟩)] rfl (fun hg => hg) (fun hv hle hg => token_row.ok c.rest v3 hv3 _ _ hv (hG.mono hle) hg _) (fun s F w a hp hX => ?_)
  subst hp
  refine hX.part [] 1 [2, 3, 4] (l' := [(2, .ptr 1 0), (3, .v (.int .i64 v3)), (4, .v (.string ⟨⟨c.rest⟩⟩))]) (B' := [some ⟨39, [.v (.string ⟨⟨c.src⟩⟩), .v (.string ⟨⟨c.rest⟩⟩), .v (.bool c.fresh)]⟩, some ⟨25, [.v (.int .i64 0), .v (.string ⟨⟨([] : Str)⟩⟩), .v (.int .i64 0), .v (.int .i64 0), .v (.bool false)]⟩]) (by kernel_rfl) fun ρ w a hX => ?_
  refine wpList_end ?_
  refine hK6 _ _ ?_
  refine wp_seq_k fun K7 hK7 => ?_
  refine Cx.rseq hX [] [2, 3, 4, 18] (l' := [(2, .ptr 1 0), (3, .v (.int .i64 v3)), (4, .v (.string ⟨⟨c.rest⟩⟩)), (18, .v (.bool (decide (v3 > 32))))]) (B' := [some ⟨39, [.v (.string ⟨⟨c.src⟩⟩), .v (.string ⟨⟨c.rest⟩⟩), .v (.bool c.fresh)]⟩, some ⟨25, [.v (.int .i64 0), .v (.string ⟨⟨([] : Str)⟩⟩), .v (.int .i64 0), .v (.int .i64 0), .v (.bool false)]⟩]) (by kernel_rfl) fun ρ w a hX => ?_
  refine Cx.cond hX (b := (decide (v3 > 32))) (by kernel_rfl) (fun hb => ?_) (fun hb => ?_)
  ·have h0 := ite_tt h0 hb
   refine Cx.rseq hX [] [2, 3] (l' := [(2, .ptr 1 0), (3, .v (.int .i64 0))]) (B' := [some ⟨39, [.v (.string ⟨⟨c.src⟩⟩), .v (.string ⟨⟨c.rest⟩⟩), .v (.bool c.fresh)]⟩, some ⟨25, [.v (.int .i64 0), .v (.string ⟨⟨([] : Str)⟩⟩), .v (.int .i64 0), .v (.int .i64 0), .v (.bool false)]⟩]) (by kernel_rfl) fun ρ w a hX => ?_
   refine wp_ret ?_
   have hX : Cx 88 _ _ _ _ _ [] [some ⟨39, [.v (.string ⟨⟨c.src⟩⟩), .v (.string ⟨⟨c.rest⟩⟩), .v (.bool c.fresh)]⟩, some ⟨25, [.v (.int .i64 0), .v (.string ⟨⟨([] : Str)⟩⟩), .v (.int .i64 0), .v (.int .i64 0), .v (.bool false)]⟩] ρ _ _ := hX
   have hX : Cx 88 _ _ _ _ _ [own_token_cutter c (ρ 0)] [none, some ⟨25, [.v (.int .i64 0), .v (.string ⟨⟨([] : Str)⟩⟩), .v (.int .i64 0), .v (.int .i64 0), .v (.bool false)]⟩] ρ _ _ := Cx.packP (Y := Unit) hX 0 (() : Unit) rfl rfl rfl rfl (fun h => h)
   have hX : Cx 88 _ _ _ _ _ [own_token_cutter c (ρ 0)] [none, some ⟨25, [.v (.int .i64 0), .v (.string ⟨⟨([] : Str)⟩⟩), .v (.int .i64 0), .v (.int .i64 0), .v (.bool false)]⟩] ρ _ _ := hX
   have hr := Option.some.inj (show some _ = some _ from h0)
   subst hr
   exact hX.retH (M := [own_token_cutter c (ρ 0)]) (ss := [.agg [.v (.int .i64 0), .v (.string ⟨⟨([] : Str)⟩⟩), .v (.int .i64 0), .v (.int .i64 0), .v (.bool false)], .v (.int .i64 0)]) (by kernel_rfl) (by kernel_rfl) ⟨⟨_, _, rfl, rfl, rfl⟩, by rw [(hX.fix 0 _ (by rw [hD]; rfl)).2]⟩
  ·have h0 := ite_ff h0 hb
   refine wp_skip ?_
   refine hK7 _ _ ?_
   refine wp_seq_k fun K10 hK10 => ?_
   have hGd := hG.mono hX.st.le
   refine hX.draw rfl (n := 7) rfl #[false, false, false, false, false, false, false] (by kernel_rfl) fun w D' hDk back hX => ?_
   refine hX.dq 0 rfl (lit := []) (by kernel_rfl) (listed' := #[true, false, false, false, false, false, false]) (by kernel_rfl) (by kernel_rfl) (s := .v (.string ⟨⟨c.rest⟩⟩)) (by kernel_rfl) fun a hX => ?_
   refine hX.dq 1 rfl (lit := []) (by kernel_rfl) (listed' := #[true, true, false, false, false, false, false]) (by kernel_rfl) (by kernel_rfl) (s := .v (.int .i64 v3)) (by kernel_rfl) fun a hX => ?_
   obtain ⟨v4, hv4, h0⟩ := bnd_some h0
   refine hX.dCutStr 2 rfl (lit := []) (by kernel_rfl) (listed' := #[true, true, true, false, false, false, false]) (by kernel_rfl) (by kernel_rfl) rfl (s := c.rest) (ol := none) (oh := some v3) (r := v4) (by kernel_rfl) (by kernel_rfl) (by kernel_rfl) (by kernel_rfl) hv4 fun a hX => ?_
   refine hX.dq 3 rfl (lit := []) (by kernel_rfl) (listed' := #[true, true, true, true, false, false, false]) (by kernel_rfl) (by kernel_rfl) (s := .ptr 1 0) (by kernel_rfl) fun a hX => ?_
   refine dseq (listed' := #[true, true, true, true, true, false, false]) 4 (by kernel_rfl) rfl (by kernel_rfl) ?_
   refine hX.part [] 1 [2, 3, 4, 18, 20, 21, 22, 23] (l' := [(2, .ptr 1 0), (3, .v (.int .i64 v3)), (4, .v (.string ⟨⟨c.rest⟩⟩)), (18, .v (.bool (decide (v3 > 32)))), (20, .v (.string ⟨⟨c.rest⟩⟩)), (21, .v (.int .i64 v3)), (22, .v (.string ⟨⟨v4⟩⟩)), (23, .ptr 1 0)]) (B' := [some ⟨39, [.v (.string ⟨⟨c.src⟩⟩), .v (.string ⟨⟨c.rest⟩⟩), .v (.bool c.fresh)]⟩, some ⟨25, [.v (.int .i64 1), .v (.string ⟨⟨([] : Str)⟩⟩), .v (.int .i64 0), .v (.int .i64 0), .v (.bool false)]⟩]) (by kernel_rfl) fun ρ w a hX => ?_
   refine dnext hX.st.sub0 ?_
   refine hX.dq 5 rfl (lit := []) (by kernel_rfl) (listed' := #[true, true, true, true, true, true, false]) (by kernel_rfl) (by kernel_rfl) (s := .ptr 1 1) (by kernel_rfl) fun a hX => ?_
   refine dseq (listed' := #[true, true, true, true, true, true, true]) 6 (by kernel_rfl) rfl (by kernel_rfl) ?_
   refine hX.part [] 1 [2, 3, 4, 18, 20, 21, 22, 23, 24] (l' := [(2, .ptr 1 0), (3, .v (.int .i64 v3)), (4, .v (.string ⟨⟨c.rest⟩⟩)), (18, .v (.bool (decide (v3 > 32)))), (20, .v (.string ⟨⟨c.rest⟩⟩)), (21, .v (.int .i64 v3)), (22, .v (.string ⟨⟨v4⟩⟩)), (23, .ptr 1 0), (24, .ptr 1 1)]) (B' := [some ⟨39, [.v (.string ⟨⟨c.src⟩⟩), .v (.string ⟨⟨c.rest⟩⟩), .v (.bool c.fresh)]⟩, some ⟨25, [.v (.int .i64 1), .v (.string ⟨⟨v4⟩⟩), .v (.int .i64 0), .v (.int .i64 0), .v (.bool false)]⟩]) (by kernel_rfl) fun ρ w a hX => ?_
   refine dnext hX.st.sub0 ?_
   have hX := back hX
   refine ddone (by kernel_rfl) ?_
   refine hK10 _ _ ?_
   refine wp_seq_k fun K11 hK11 => ?_
   refine wp_region_list ?_
   refine hX.part [] 2 [2, 3, 4, 26] (l' := [(2, .ptr 1 0), (3, .v (.int .i64 v3)), (4, .v (.string ⟨⟨c.rest⟩⟩)), (26, .v (.string ⟨⟨v4⟩⟩))]) (B' := [some ⟨39, [.v (.string ⟨⟨c.src⟩⟩), .v (.string ⟨⟨c.rest⟩⟩), .v (.bool c.fresh)]⟩, some ⟨25, [.v (.int .i64 1), .v (.string ⟨⟨v4⟩⟩), .v (.int .i64 0), .v (.int .i64 0), .v (.bool false)]⟩]) (by kernel_rfl) fun ρ w a hX => ?_
   obtain ⟨v5, hv5, h0⟩ := bnd_some h0
   refine Cx.call0 hX (lit := []) (by kernel_rfl) rfl (by kernel_rfl) ⟨⟨_, Tryz.func8, by kernel_rfl, rfl⟩⟩ (ss := [.v (.string ⟨⟨v4⟩⟩)]) (by kernel_rfl) [.v (.string ⟨⟨v4⟩⟩)] rfl (fun hg => hg) (fun hv hle hg => token_IsWord.ok v4 v5 hv5 _ _ hv (hG.mono hle) hg _) (fun s F w a hp hX => ?_)
   subst hp
   refine hX.part [] 0 [2, 3, 4, 27] (l' := [(2, .ptr 1 0), (3, .v (.int .i64 v3)), (4, .v (.string ⟨⟨c.rest⟩⟩)), (27, .v (.bool v5))]) (B' := [some ⟨39, [.v (.string ⟨⟨c.src⟩⟩), .v (.string ⟨⟨c.rest⟩⟩), .v (.bool c.fresh)]⟩, some ⟨25, [.v (.int .i64 1), .v (.string ⟨⟨v4⟩⟩), .v (.int .i64 0), .v (.int .i64 0), .v (.bool false)]⟩]) (by kernel_rfl) fun ρ w a hX => ?_
   refine wpList_end ?_
   refine hK11 _ _ ?_
   refine Cx.cond hX (b := v5) (by kernel_rfl) (fun hb => ?_) (fun hb => ?_)
   ·have h0 := ite_tt h0 hb
    refine Cx.region hX [] [2, 3, 4] (l' := [(2, .ptr 1 0), (3, .v (.int .i64 v3)), (4, .v (.string ⟨⟨c.rest⟩⟩))]) (B' := [some ⟨39, [.v (.string ⟨⟨c.src⟩⟩), .v (.string ⟨⟨c.rest⟩⟩), .v (.bool c.fresh)]⟩, some ⟨25, [.v (.int .i64 2), .v (.string ⟨⟨v4⟩⟩), .v (.int .i64 0), .v (.int .i64 0), .v (.bool false)]⟩]) (by kernel_rfl) fun ρ w a hX => ?_
    have hX := hX.keeps [2, 3, 4] (l' := [(2, .ptr 1 0), (3, .v (.int .i64 v3)), (4, .v (.string ⟨⟨c.rest⟩⟩))]) (by kernel_rfl)
    exact J3 v3 2 v4 0 h0  _ _ _ _ hX
   ·have h0 := ite_ff h0 hb
    refine wp_skip ?_
    have hX := hX.keeps [2, 3, 4] (l' := [(2, .ptr 1 0), (3, .v (.int .i64 v3)), (4, .v (.string ⟨⟨c.rest⟩⟩))]) (by kernel_rfl)
    exact J3 v3 1 v4 0 h0  _ _ _ _ hX
 ·have h0 := ite_ff h0 hb
  refine wp_seq_k fun K12 hK12 => ?_
  refine wp_region_list ?_
  refine hX.part [] 1 [0, 2, 3, 4, 5, 30] (l' := [(0, .ptr 0 0), (2, .ptr 1 0), (3, .v (.int .i64 0)), (4, .v (.string ⟨⟨c.rest⟩⟩)), (5, .v (.int .u8 v1)), (30, .v (.int .u8 v1))]) (B' := [some ⟨39, [.v (.string ⟨⟨c.src⟩⟩), .v (.string ⟨⟨c.rest⟩⟩), .v (.bool c.fresh)]⟩, some ⟨25, [.v (.int .i64 0), .v (.string ⟨⟨([] : Str)⟩⟩), .v (.int .i64 0), .v (.int .i64 0), .v (.bool false)]⟩]) (by kernel_rfl) fun ρ w a hX => ?_
  obtain ⟨v6, hv6, h0⟩ := bnd_some h0
  refine Cx.call0 hX (lit := []) (by kernel_rfl) rfl (by kernel_rfl) ⟨⟨_, Tryz.func33, by kernel_rfl, rfl⟩⟩ (ss := [.v (.int .u8 v1)]) (by kernel_rfl) [.v (.int .u8 v1)] rfl (fun hg => hg) (fun hv hle hg => token_digit.ok v1 v6 hv6 _ _ hv (hG.mono hle) hg _) (fun s F w a hp hX => ?_)
  subst hp
  refine hX.part [] 1 [0, 2, 3, 4, 5, 29] (l' := [(0, .ptr 0 0), (2, .ptr 1 0), (3, .v (.int .i64 0)), (4, .v (.string ⟨⟨c.rest⟩⟩)), (5, .v (.int .u8 v1)), (29, .v (.bool v6))]) (B' := [some ⟨39, [.v (.string ⟨⟨c.src⟩⟩), .v (.string ⟨⟨c.rest⟩⟩), .v (.bool c.fresh)]⟩, some ⟨25, [.v (.int .i64 0), .v (.string ⟨⟨([] : Str)⟩⟩), .v (.int .i64 0), .v (.int .i64 0), .v (.bool false)]⟩]) (by kernel_rfl) fun ρ w a hX => ?_
  refine wpList_end ?_
  refine hK12 _ _ ?_
  refine Cx.cond hX (b := v6) (by kernel_rfl) (fun hb => ?_) (fun hb => ?_)
  ·have h0 := ite_tt h0 hb
   refine Cx.rseq hX [] [0, 2, 4] (l' := [(0, .ptr 0 0), (2, .ptr 1 0), (4, .v (.string ⟨⟨c.rest⟩⟩))]) (B' := [some ⟨39, [.v (.string ⟨⟨c.src⟩⟩), .v (.string ⟨⟨c.rest⟩⟩), .v (.bool c.fresh)]⟩, some ⟨25, [.v (.int .i64 3), .v (.string ⟨⟨([] : Str)⟩⟩), .v (.int .i64 0), .v (.int .i64 0), .v (.bool false)]⟩]) (by kernel_rfl) fun ρ w a hX => ?_
   refine wp_region_list ?_
   refine hX.part [] 1 [2, 4, 34] (l' := [(2, .ptr 1 0), (4, .v (.string ⟨⟨c.rest⟩⟩)), (34, .ptr 0 0)]) (B' := [some ⟨39, [.v (.string ⟨⟨c.src⟩⟩), .v (.string ⟨⟨c.rest⟩⟩), .v (.bool c.fresh)]⟩, some ⟨25, [.v (.int .i64 3), .v (.string ⟨⟨([] : Str)⟩⟩), .v (.int .i64 0), .v (.int .i64 0), .v (.bool false)]⟩]) (by kernel_rfl) fun ρ w a hX => ?_
   obtain ⟨v7, hv7, h0⟩ := bnd_some h0
   have hX : Cx 88 _ _ _ _ _ [] [some ⟨39, [.v (.string ⟨⟨c.src⟩⟩), .v (.string ⟨⟨c.rest⟩⟩), .v (.bool c.fresh)]⟩, some ⟨25, [.v (.int .i64 3), .v (.string ⟨⟨([] : Str)⟩⟩), .v (.int .i64 0), .v (.int .i64 0), .v (.bool false)]⟩] ρ _ _ := hX
   have hX : Cx 88 _ _ _ _ _ [own_token_cutter c (ρ 0)] [none, some ⟨25, [.v (.int .i64 3), .v (.string ⟨⟨([] : Str)⟩⟩), .v (.int .i64 0), .v (.int .i64 0), .v (.bool false)]⟩] ρ _ _ := Cx.packP (Y := Unit) hX 0 (() : Unit) rfl rfl rfl rfl (fun h => h)
   have hX : Cx 88 _ _ _ _ _ [own_token_cutter c (ρ 0)] [none, some ⟨25, [.v (.int .i64 3), .v (.string ⟨⟨([] : Str)⟩⟩), .v (.int .i64 0), .v (.int .i64 0), .v (.bool false)]⟩] ρ _ _ := hX
   refine Cx.callH (M := [own_token_cutter c (ρ 0)]) (L := []) hX (lit := []) (by kernel_rfl) rfl (by kernel_rfl) ⟨⟨_, Tryz.func34, by kernel_rfl, rfl⟩⟩ (ss := [.ptr 0 0]) (by kernel_rfl) [.ptr 0 0] rfl (fun hg => ⟨trivial, trivial⟩) [ρ 0] (fun D' hD' hv hle hg hst => token_cutter_number.ok c v7 hv7 _ _ hv (hG.mono hle) hg (fun k => match k with | 0 => ρ 0 | _ => 0) D' hD' hst) (fun s F M w a hp hX => ?_)
   obtain ⟨hp, rfl⟩ := hp
   obtain ⟨_, _, rfl, rfl, rfl⟩ := hp
   have hX : Cx 88 _ _ _ _ _ [own_token_cutter c (ρ 0)] [none, some ⟨25, [.v (.int .i64 3), .v (.string ⟨⟨([] : Str)⟩⟩), .v (.int .i64 0), .v (.int .i64 0), .v (.bool false)]⟩] ρ _ _ := hX
   obtain ⟨_, hX⟩ := Cx.unpackP (k := 0) (Y := Unit) (ty := 39) hX (fun (y : Unit) => [.v (.string ⟨⟨c.src⟩⟩), .v (.string ⟨⟨c.rest⟩⟩), .v (.bool c.fresh)]) rfl (fun y => rfl) (fun y F h => h) (fun y => rfl)
   have hX : Cx 88 _ _ _ _ _ [] [some ⟨39, [.v (.string ⟨⟨c.src⟩⟩), .v (.string ⟨⟨c.rest⟩⟩), .v (.bool c.fresh)]⟩, some ⟨25, [.v (.int .i64 3), .v (.string ⟨⟨([] : Str)⟩⟩), .v (.int .i64 0), .v (.int .i64 0), .v (.bool false)]⟩] ρ _ _ := hX
   refine hX.part [] 6 [2, 3, 4] (l' := [(2, .ptr 1 0), (3, .v (.int .i64 v7.2)), (4, .v (.string ⟨⟨c.rest⟩⟩))]) (B' := [some ⟨39, [.v (.string ⟨⟨c.src⟩⟩), .v (.string ⟨⟨c.rest⟩⟩), .v (.bool c.fresh)]⟩, some ⟨25, [.v (.int .i64 3), .v (.string ⟨⟨([] : Str)⟩⟩), .v (.int .i64 v7.1), .v (.int .i64 0), .v (.bool false)]⟩]) (by kernel_rfl) fun ρ w a hX => ?_
   refine wpList_end ?_
   have hX := hX.keeps [2, 3, 4] (l' := [(2, .ptr 1 0), (3, .v (.int .i64 v7.2)), (4, .v (.string ⟨⟨c.rest⟩⟩))]) (by kernel_rfl)
   exact J3 v7.2 3 ([] : Str) v7.1 h0  _ _ _ _ hX
  ·have h0 := ite_ff h0 hb
   refine Cx.rseq hX [] [2, 3, 4, 5, 39] (l' := [(2, .ptr 1 0), (3, .v (.int .i64 0)), (4, .v (.string ⟨⟨c.rest⟩⟩)), (5, .v (.int .u8 v1)), (39, .v (.bool ((v1 == 39) || (v1 == 34))))]) (B' := [some ⟨39, [.v (.string ⟨⟨c.src⟩⟩), .v (.string ⟨⟨c.rest⟩⟩), .v (.bool c.fresh)]⟩, some ⟨25, [.v (.int .i64 0), .v (.string ⟨⟨([] : Str)⟩⟩), .v (.int .i64 0), .v (.int .i64 0), .v (.bool false)]⟩]) (by kernel_rfl) fun ρ w a hX => ?_
   refine Cx.cond hX (b := ((v1 == 39) || (v1 == 34))) (by kernel_rfl) (fun hb => ?_) (fun hb => ?_)
   ·have h0 := ite_tt h0 hb
    refine Cx.rseq hX [] [2, 4] (l' := [(2, .ptr 1 0), (4, .v (.string ⟨⟨c.rest⟩⟩))]) (B' := [some ⟨39, [.v (.string ⟨⟨c.src⟩⟩), .v (.string ⟨⟨c.rest⟩⟩), .v (.bool c.fresh)]⟩, some ⟨25, [.v (.int .i64 4), .v (.string ⟨⟨([] : Str)⟩⟩), .v (.int .i64 0), .v (.int .i64 0), .v (.bool false)]⟩]) (by kernel_rfl) fun ρ w a hX => ?_
    refine wp_region_list ?_
    refine hX.part [] 1 [2, 4, 48] (l' := [(2, .ptr 1 0), (4, .v (.string ⟨⟨c.rest⟩⟩)), (48, .v (.string ⟨⟨c.rest⟩⟩))]) (B' := [some ⟨39, [.v (.string ⟨⟨c.src⟩⟩), .v (.string ⟨⟨c.rest⟩⟩), .v (.bool c.fresh)]⟩, some ⟨25, [.v (.int .i64 4), .v (.string ⟨⟨([] : Str)⟩⟩), .v (.int .i64 0), .v (.int .i64 0), .v (.bool false)]⟩]) (by kernel_rfl) fun ρ w a hX => ?_
    obtain ⟨v8, hv8, h0⟩ := bnd_some h0
    refine Cx.call0 hX (lit := []) (by kernel_rfl) rfl (by kernel_rfl) ⟨⟨_, Tryz.func35, by kernel_rfl, rfl⟩⟩ (ss := [.v (.string ⟨⟨c.rest⟩⟩)]) (by kernel_rfl) [.v (.string ⟨⟨c.rest⟩⟩)] rfl (fun hg => hg) (fun hv hle hg => units_Read.ok c.rest v8 hv8 _ _ hv (hG.mono hle) hg _) (fun s F w a hp hX => ?_)
    obtain ⟨_, _, _, rfl, rfl, rfl, rfl⟩ := hp
    refine hX.part [] 7 [2, 3, 4] (l' := [(2, .ptr 1 0), (3, .v (.int .i64 v8.2.1)), (4, .v (.string ⟨⟨c.rest⟩⟩))]) (B' := [some ⟨39, [.v (.string ⟨⟨c.src⟩⟩), .v (.string ⟨⟨c.rest⟩⟩), .v (.bool c.fresh)]⟩, some ⟨25, [.v (.int .i64 4), .v (.string ⟨⟨v8.1⟩⟩), .v (.int .i64 0), .v (.int .i64 0), .v (.bool false)]⟩]) (by kernel_rfl) fun ρ w a hX => ?_
    refine wpList_end ?_
    have hX := hX.keeps [2, 3, 4] (l' := [(2, .ptr 1 0), (3, .v (.int .i64 v8.2.1)), (4, .v (.string ⟨⟨c.rest⟩⟩))]) (by kernel_rfl)
    exact J3 v8.2.1 4 v8.1 0 h0  _ _ _ _ hX
   ·have h0 := ite_ff h0 hb
    refine wp_seq_k fun K16 hK16 => ?_
    have J16 : ∀ (x11 : Bool), token_cutter_one.j1 c v1 x11 = some r → ∀ (ρ : Nat → Nat) (w : World) (F : Heap) (a : Act), Cx 88 w0 F0 D w F [] [some ⟨39, [.v (.string ⟨⟨c.src⟩⟩), .v (.string ⟨⟨c.rest⟩⟩), .v (.bool c.fresh)]⟩, some ⟨25, [.v (.int .i64 0), .v (.string ⟨⟨([] : Str)⟩⟩), .v (.int .i64 0), .v (.int .i64 0), .v (.bool false)]⟩] ρ [(2, .ptr 1 0), (3, .v (.int .i64 0)), (4, .v (.string ⟨⟨c.rest⟩⟩)), (5, .v (.int .u8 v1)), (54, .v (.bool x11))] a → K16 a w := by
     intro x11 h0  ρ w F a hX
     unfold token_cutter_one.j1 at h0
     refine hK16 _ _ ?_
     refine Cx.cond hX (b := x11) (by kernel_rfl) (fun hb => ?_) (fun hb => ?_)
     ·have h0 := ite_tt h0 hb
      refine Cx.region hX [] [2, 3, 4] (l' := [(2, .ptr 1 0), (3, .v (.int .i64 3)), (4, .v (.string ⟨⟨c.rest⟩⟩))]) (B' := [some ⟨39, [.v (.string ⟨⟨c.src⟩⟩), .v (.string ⟨⟨c.rest⟩⟩), .v (.bool c.fresh)]⟩, some ⟨25, [.v (.int .i64 5), .v (.string ⟨⟨([] : Str)⟩⟩), .v (.int .i64 0), .v (.int .i64 0), .v (.bool false)]⟩]) (by kernel_rfl) fun ρ w a hX => ?_
      have hX := hX.keeps [2, 3, 4] (l' := [(2, .ptr 1 0), (3, .v (.int .i64 3)), (4, .v (.string ⟨⟨c.rest⟩⟩))]) (by kernel_rfl)
      exact J3 3 5 ([] : Str) 0 h0  _ _ _ _ hX
     ·have h0 := ite_ff h0 hb
      refine wp_seq_k fun K17 hK17 => ?_
      have J17 : ∀ (x14 : Bool), token_cutter_one.j2 c v1 x14 = some r → ∀ (ρ : Nat → Nat) (w : World) (F : Heap) (a : Act), Cx 88 w0 F0 D w F [] [some ⟨39, [.v (.string ⟨⟨c.src⟩⟩), .v (.string ⟨⟨c.rest⟩⟩), .v (.bool c.fresh)]⟩, some ⟨25, [.v (.int .i64 0), .v (.string ⟨⟨([] : Str)⟩⟩), .v (.int .i64 0), .v (.int .i64 0), .v (.bool false)]⟩] ρ [(2, .ptr 1 0), (3, .v (.int .i64 0)), (4, .v (.string ⟨⟨c.rest⟩⟩)), (5, .v (.int .u8 v1)), (64, .v (.bool x14))] a → K17 a w := by
       intro x14 h0  ρ w F a hX
       unfold token_cutter_one.j2 at h0
       refine hK17 _ _ ?_
       refine Cx.cond hX (b := x14) (by kernel_rfl) (fun hb => ?_) (fun hb => ?_)
       ·have h0 := ite_tt h0 hb
        refine Cx.region hX [] [2, 3, 4] (l' := [(2, .ptr 1 0), (3, .v (.int .i64 2)), (4, .v (.string ⟨⟨c.rest⟩⟩))]) (B' := [some ⟨39, [.v (.string ⟨⟨c.src⟩⟩), .v (.string ⟨⟨c.rest⟩⟩), .v (.bool c.fresh)]⟩, some ⟨25, [.v (.int .i64 5), .v (.string ⟨⟨([] : Str)⟩⟩), .v (.int .i64 0), .v (.int .i64 0), .v (.bool false)]⟩]) (by kernel_rfl) fun ρ w a hX => ?_
        have hX := hX.keeps [2, 3, 4] (l' := [(2, .ptr 1 0), (3, .v (.int .i64 2)), (4, .v (.string ⟨⟨c.rest⟩⟩))]) (by kernel_rfl)
        exact J3 2 5 ([] : Str) 0 h0  _ _ _ _ hX
       ·have h0 := ite_ff h0 hb
        refine wp_seq_k fun K18 hK18 => ?_
        refine wp_region_list ?_
        refine hX.part [] 1 [2, 3, 4, 75] (l' := [(2, .ptr 1 0), (3, .v (.int .i64 0)), (4, .v (.string ⟨⟨c.rest⟩⟩)), (75, .v (.int .u8 v1))]) (B' := [some ⟨39, [.v (.string ⟨⟨c.src⟩⟩), .v (.string ⟨⟨c.rest⟩⟩), .v (.bool c.fresh)]⟩, some ⟨25, [.v (.int .i64 0), .v (.string ⟨⟨([] : Str)⟩⟩), .v (.int .i64 0), .v (.int .i64 0), .v (.bool false)]⟩]) (by kernel_rfl) fun ρ w a hX => ?_
        obtain ⟨v15, hv15, h0⟩ := bnd_some h0
        refine Cx.call0 hX (lit := []) (by kernel_rfl) rfl (by kernel_rfl) ⟨⟨_, Tryz.func36, by kernel_rfl, rfl⟩⟩ (ss := [.v (.string ⟨⟨([123, 125, 40, 41, 91, 93, 46, 59, 44, 60, 62, 43, 45, 42, 47, 37, 33, 63, 58, 61] : Str)⟩⟩), .v (.int .u8 v1)]) (by kernel_rfl) [.v (.string ⟨⟨([123, 125, 40, 41, 91, 93, 46, 59, 44, 60, 62, 43, 45, 42, 47, 37, 33, 63, 58, 61] : Str)⟩⟩), .v (.int .u8 v1)] rfl (fun hg => hg) (fun hv hle hg => strings_IndexByte.ok ([123, 125, 40, 41, 91, 93, 46, 59, 44, 60, 62, 43, 45, 42, 47, 37, 33, 63, 58, 61] : Str) v1 v15 hv15 _ _ hv (hG.mono hle) hg _) (fun s F w a hp hX => ?_)
        subst hp
        refine hX.part [] 2 [2, 3, 4, 74] (l' := [(2, .ptr 1 0), (3, .v (.int .i64 0)), (4, .v (.string ⟨⟨c.rest⟩⟩)), (74, .v (.bool (decide (v15 ≥ 0))))]) (B' := [some ⟨39, [.v (.string ⟨⟨c.src⟩⟩), .v (.string ⟨⟨c.rest⟩⟩), .v (.bool c.fresh)]⟩, some ⟨25, [.v (.int .i64 0), .v (.string ⟨⟨([] : Str)⟩⟩), .v (.int .i64 0), .v (.int .i64 0), .v (.bool false)]⟩]) (by kernel_rfl) fun ρ w a hX => ?_
        refine wpList_end ?_
        refine hK18 _ _ ?_
        refine Cx.cond hX (b := (decide (v15 ≥ 0))) (by kernel_rfl) (fun hb => ?_) (fun hb => ?_)
        ·have h0 := ite_tt h0 hb
         refine Cx.region hX [] [2, 3, 4] (l' := [(2, .ptr 1 0), (3, .v (.int .i64 1)), (4, .v (.string ⟨⟨c.rest⟩⟩))]) (B' := [some ⟨39, [.v (.string ⟨⟨c.src⟩⟩), .v (.string ⟨⟨c.rest⟩⟩), .v (.bool c.fresh)]⟩, some ⟨25, [.v (.int .i64 5), .v (.string ⟨⟨([] : Str)⟩⟩), .v (.int .i64 0), .v (.int .i64 0), .v (.bool false)]⟩]) (by kernel_rfl) fun ρ w a hX => ?_
         have hX := hX.keeps [2, 3, 4] (l' := [(2, .ptr 1 0), (3, .v (.int .i64 1)), (4, .v (.string ⟨⟨c.rest⟩⟩))]) (by kernel_rfl)
         exact J3 1 5 ([] : Str) 0 h0  _ _ _ _ hX
        ·have h0 := ite_ff h0 hb
         refine wp_skip ?_
         have hX := hX.keeps [2, 3, 4] (l' := [(2, .ptr 1 0), (3, .v (.int .i64 0)), (4, .v (.string ⟨⟨c.rest⟩⟩))]) (by kernel_rfl)
         exact J3 0 0 ([] : Str) 0 h0  _ _ _ _ hX
      refine wp_region_list ?_
      refine hX.part [] 4 [2, 3, 4, 5, 68] (l' := [(2, .ptr 1 0), (3, .v (.int .i64 0)), (4, .v (.string ⟨⟨c.rest⟩⟩)), (5, .v (.int .u8 v1)), (68, .v (.bool (decide (((c.rest.length : Nat) : Int) > 1))))]) (B' := [some ⟨39, [.v (.string ⟨⟨c.src⟩⟩), .v (.string ⟨⟨c.rest⟩⟩), .v (.bool c.fresh)]⟩, some ⟨25, [.v (.int .i64 0), .v (.string ⟨⟨([] : Str)⟩⟩), .v (.int .i64 0), .v (.int .i64 0), .v (.bool false)]⟩]) (by kernel_rfl) fun ρ w a hX => ?_
      refine ite_go h0 (fun hb h0 => ?_) (fun hb h0 => ?_)
      ·have hX := hX.relit 68 hb (by kernel_rfl)
       refine hX.part [3] 1 [2, 3, 4, 5, 68, 69] (l' := [(2, .ptr 1 0), (3, .v (.int .i64 0)), (4, .v (.string ⟨⟨c.rest⟩⟩)), (5, .v (.int .u8 v1)), (68, .v (.bool true)), (69, .v (.string ⟨⟨c.rest⟩⟩))]) (B' := [some ⟨39, [.v (.string ⟨⟨c.src⟩⟩), .v (.string ⟨⟨c.rest⟩⟩), .v (.bool c.fresh)]⟩, some ⟨25, [.v (.int .i64 0), .v (.string ⟨⟨([] : Str)⟩⟩), .v (.int .i64 0), .v (.int .i64 0), .v (.bool false)]⟩]) (by kernel_rfl) fun ρ w a hX => ?_
       obtain ⟨v12, hv12, h0⟩ := bnd_some h0
       refine hX.cutStr (lit := [3]) (by kernel_rfl) (by kernel_rfl) rfl (s := c.rest) (ol := none) (oh := some 2) (r := v12) (by kernel_rfl) (by kernel_rfl) (by kernel_rfl) (by kernel_rfl) hv12 fun a hX => ?_
       refine hX.part [3] 0 [2, 3, 4, 5, 68, 70] (l' := [(2, .ptr 1 0), (3, .v (.int .i64 0)), (4, .v (.string ⟨⟨c.rest⟩⟩)), (5, .v (.int .u8 v1)), (68, .v (.bool true)), (70, .v (.string ⟨⟨v12⟩⟩))]) (B' := [some ⟨39, [.v (.string ⟨⟨c.src⟩⟩), .v (.string ⟨⟨c.rest⟩⟩), .v (.bool c.fresh)]⟩, some ⟨25, [.v (.int .i64 0), .v (.string ⟨⟨([] : Str)⟩⟩), .v (.int .i64 0), .v (.int .i64 0), .v (.bool false)]⟩]) (by kernel_rfl) fun ρ w a hX => ?_
       obtain ⟨v13, hv13, h0⟩ := bnd_some h0
       refine Cx.call0 hX (lit := [3]) (by kernel_rfl) rfl (by kernel_rfl) ⟨⟨_, Tryz.func18, by kernel_rfl, rfl⟩⟩ (ss := [.v (.string ⟨⟨([32, 60, 61, 32, 62, 61, 32, 61, 61, 32, 33, 61, 32, 43, 43, 32, 45, 45, 32, 38, 38, 32, 124, 124, 32, 43, 61, 32, 45, 61, 32, 42, 61, 32, 47, 61, 32, 37, 61, 32] : Str)⟩⟩), .v (.string ⟨⟨v12⟩⟩)]) (by kernel_rfl) [.v (.string ⟨⟨([32, 60, 61, 32, 62, 61, 32, 61, 61, 32, 33, 61, 32, 43, 43, 32, 45, 45, 32, 38, 38, 32, 124, 124, 32, 43, 61, 32, 45, 61, 32, 42, 61, 32, 47, 61, 32, 37, 61, 32] : Str)⟩⟩), .v (.string ⟨⟨v12⟩⟩)] rfl (fun hg => hg) (fun hv hle hg => token_among.ok ([32, 60, 61, 32, 62, 61, 32, 61, 61, 32, 33, 61, 32, 43, 43, 32, 45, 45, 32, 38, 38, 32, 124, 124, 32, 43, 61, 32, 45, 61, 32, 42, 61, 32, 47, 61, 32, 37, 61, 32] : Str) v12 v13 hv13 _ _ hv (hG.mono hle) hg _) (fun s F w a hp hX => ?_)
       subst hp
       refine hX.part [] 2 [2, 3, 4, 5, 64] (l' := [(2, .ptr 1 0), (3, .v (.int .i64 0)), (4, .v (.string ⟨⟨c.rest⟩⟩)), (5, .v (.int .u8 v1)), (64, .v (.bool v13))]) (B' := [some ⟨39, [.v (.string ⟨⟨c.src⟩⟩), .v (.string ⟨⟨c.rest⟩⟩), .v (.bool c.fresh)]⟩, some ⟨25, [.v (.int .i64 0), .v (.string ⟨⟨([] : Str)⟩⟩), .v (.int .i64 0), .v (.int .i64 0), .v (.bool false)]⟩]) (by kernel_rfl) fun ρ w a hX => ?_
       refine wpList_end ?_
       have hX := hX.keeps [2, 3, 4, 5, 64] (l' := [(2, .ptr 1 0), (3, .v (.int .i64 0)), (4, .v (.string ⟨⟨c.rest⟩⟩)), (5, .v (.int .u8 v1)), (64, .v (.bool v13))]) (by kernel_rfl)
       exact J17 v13 h0  _ _ _ _ hX
      ·have hX := hX.relit 68 hb (by kernel_rfl)
       refine hX.part [3] 5 [2, 3, 4, 5, 64] (l' := [(2, .ptr 1 0), (3, .v (.int .i64 0)), (4, .v (.string ⟨⟨c.rest⟩⟩)), (5, .v (.int .u8 v1)), (64, .v (.bool false))]) (B' := [some ⟨39, [.v (.string ⟨⟨c.src⟩⟩), .v (.string ⟨⟨c.rest⟩⟩), .v (.bool c.fresh)]⟩, some ⟨25, [.v (.int .i64 0), .v (.string ⟨⟨([] : Str)⟩⟩), .v (.int .i64 0), .v (.int .i64 0), .v (.bool false)]⟩]) (by kernel_rfl) fun ρ w a hX => ?_
       refine wpList_end ?_
       have hX := hX.keeps [2, 3, 4, 5, 64] (l' := [(2, .ptr 1 0), (3, .v (.int .i64 0)), (4, .v (.string ⟨⟨c.rest⟩⟩)), (5, .v (.int .u8 v1)), (64, .v (.bool false))]) (by kernel_rfl)
       exact J17 false h0  _ _ _ _ hX
    refine wp_region_list ?_
    refine hX.part [] 4 [2, 3, 4, 5, 58] (l' := [(2, .ptr 1 0), (3, .v (.int .i64 0)), (4, .v (.string ⟨⟨c.rest⟩⟩)), (5, .v (.int .u8 v1)), (58, .v (.bool (decide (((c.rest.length : Nat) : Int) > 2))))]) (B' := [some ⟨39, [.v (.string ⟨⟨c.src⟩⟩), .v (.string ⟨⟨c.rest⟩⟩), .v (.bool c.fresh)]⟩, some ⟨25, [.v (.int .i64 0), .v (.string ⟨⟨([] : Str)⟩⟩), .v (.int .i64 0), .v (.int .i64 0), .v (.bool false)]⟩]) (by kernel_rfl) fun ρ w a hX => ?_
    refine ite_go h0 (fun hb h0 => ?_) (fun hb h0 => ?_)
    ·have hX := hX.relit 58 hb (by kernel_rfl)
     refine hX.part [3] 1 [2, 3, 4, 5, 58, 59] (l' := [(2, .ptr 1 0), (3, .v (.int .i64 0)), (4, .v (.string ⟨⟨c.rest⟩⟩)), (5, .v (.int .u8 v1)), (58, .v (.bool true)), (59, .v (.string ⟨⟨c.rest⟩⟩))]) (B' := [some ⟨39, [.v (.string ⟨⟨c.src⟩⟩), .v (.string ⟨⟨c.rest⟩⟩), .v (.bool c.fresh)]⟩, some ⟨25, [.v (.int .i64 0), .v (.string ⟨⟨([] : Str)⟩⟩), .v (.int .i64 0), .v (.int .i64 0), .v (.bool false)]⟩]) (by kernel_rfl) fun ρ w a hX => ?_
     obtain ⟨v9, hv9, h0⟩ := bnd_some h0
     refine hX.cutStr (lit := [3]) (by kernel_rfl) (by kernel_rfl) rfl (s := c.rest) (ol := none) (oh := some 3) (r := v9) (by kernel_rfl) (by kernel_rfl) (by kernel_rfl) (by kernel_rfl) hv9 fun a hX => ?_
     refine hX.part [3] 0 [2, 3, 4, 5, 58, 60] (l' := [(2, .ptr 1 0), (3, .v (.int .i64 0)), (4, .v (.string ⟨⟨c.rest⟩⟩)), (5, .v (.int .u8 v1)), (58, .v (.bool true)), (60, .v (.string ⟨⟨v9⟩⟩))]) (B' := [some ⟨39, [.v (.string ⟨⟨c.src⟩⟩), .v (.string ⟨⟨c.rest⟩⟩), .v (.bool c.fresh)]⟩, some ⟨25, [.v (.int .i64 0), .v (.string ⟨⟨([] : Str)⟩⟩), .v (.int .i64 0), .v (.int .i64 0), .v (.bool false)]⟩]) (by kernel_rfl) fun ρ w a hX => ?_
     obtain ⟨v10, hv10, h0⟩ := bnd_some h0
     refine Cx.call0 hX (lit := [3]) (by kernel_rfl) rfl (by kernel_rfl) ⟨⟨_, Tryz.func18, by kernel_rfl, rfl⟩⟩ (ss := [.v (.string ⟨⟨([32, 61, 61, 61, 32, 33, 61, 61, 32] : Str)⟩⟩), .v (.string ⟨⟨v9⟩⟩)]) (by kernel_rfl) [.v (.string ⟨⟨([32, 61, 61, 61, 32, 33, 61, 61, 32] : Str)⟩⟩), .v (.string ⟨⟨v9⟩⟩)] rfl (fun hg => hg) (fun hv hle hg => token_among.ok ([32, 61, 61, 61, 32, 33, 61, 61, 32] : Str) v9 v10 hv10 _ _ hv (hG.mono hle) hg _) (fun s F w a hp hX => ?_)
     subst hp
     refine hX.part [] 2 [2, 3, 4, 5, 54] (l' := [(2, .ptr 1 0), (3, .v (.int .i64 0)), (4, .v (.string ⟨⟨c.rest⟩⟩)), (5, .v (.int .u8 v1)), (54, .v (.bool v10))]) (B' := [some ⟨39, [.v (.string ⟨⟨c.src⟩⟩), .v (.string ⟨⟨c.rest⟩⟩), .v (.bool c.fresh)]⟩, some ⟨25, [.v (.int .i64 0), .v (.string ⟨⟨([] : Str)⟩⟩), .v (.int .i64 0), .v (.int .i64 0), .v (.bool false)]⟩]) (by kernel_rfl) fun ρ w a hX => ?_
     refine wpList_end ?_
     have hX := hX.keeps [2, 3, 4, 5, 54] (l' := [(2, .ptr 1 0), (3, .v (.int .i64 0)), (4, .v (.string ⟨⟨c.rest⟩⟩)), (5, .v (.int .u8 v1)), (54, .v (.bool v10))]) (by kernel_rfl)
     exact J16 v10 h0  _ _ _ _ hX
    ·have hX := hX.relit 58 hb (by kernel_rfl)
     refine hX.part [3] 5 [2, 3, 4, 5, 54] (l' := [(2, .ptr 1 0), (3, .v (.int .i64 0)), (4, .v (.string ⟨⟨c.rest⟩⟩)), (5, .v (.int .u8 v1)), (54, .v (.bool false))]) (B' := [some ⟨39, [.v (.string ⟨⟨c.src⟩⟩), .v (.string ⟨⟨c.rest⟩⟩), .v (.bool c.fresh)]⟩, some ⟨25, [.v (.int .i64 0), .v (.string ⟨⟨([] : Str)⟩⟩), .v (.int .i64 0), .v (.int .i64 0), .v (.bool false)]⟩]) (by kernel_rfl) fun ρ w a hX => ?_
     refine wpList_end ?_
     have hX := hX.keeps [2, 3, 4, 5, 54] (l' := [(2, .ptr 1 0), (3, .v (.int .i64 0)), (4, .v (.string ⟨⟨c.rest⟩⟩)), (5, .v (.int .u8 v1)), (54, .v (.bool false))]) (by kernel_rfl)
     exact J16 false h0  _ _ _ _ hX
def token_Cut.j2 (src : Str) (x16 : List T_api_Token) (v19 : Bool × T_token_cutter) (v26 : T_api_Token × Int) : Option ((Str × Str × Bool × (List T_api_Token)) ⊕ ((Str × Str × Bool) ⊕ ((List T_api_Token) × Int × Int))) :=
  Option.bind (room (x16.length + 1)) fun u29 =>
  Option.bind (cutL v19.2.rest v26.2 ((v19.2.rest.length : Nat) : Int)) fun v30 =>
  some (.inl (v19.2.src, v30, v19.2.fresh, (x16 ++ [({ Kind := v26.1.Kind, Text := v26.1.Text, Num := v26.1.Num, At := (IntKind.wrap .i64 (((src.length : Nat) : Int) - ((v19.2.rest.length : Nat) : Int))), Fresh := v19.2.fresh } : T_api_Token)])))
def token_Cut.l1 (src : Str) (s : Str × Str × Bool × (List T_api_Token)) : Option ((Str × Str × Bool × (List T_api_Token)) ⊕ ((Str × Str × Bool) ⊕ ((List T_api_Token) × Int × Int))) := match s with
  | (x13, x14, x15, x16) =>
  Option.bind (token_cutter_blanks ({ src := x13, rest := x14, fresh := x15 } : T_token_cutter)) fun v19 =>
  if v19.1 = true then
    if (v19.2.rest == ([] : Str)) = true then
      Option.bind (room (x16.length + 1)) fun u22 =>
      Option.bind (slices_Clip_api_Token_api_Token (x16 ++ [({ Kind := 0, Text := ([] : Str), Num := 0, At := (IntKind.wrap .i64 (((src.length : Nat) : Int) - ((v19.2.rest.length : Nat) : Int))), Fresh := v19.2.fresh } : T_api_Token)])) fun v23 =>
      some (.inr (.inr (v23, 0, 0)))
    else
      Option.bind (token_cutter_one v19.2) fun v26 =>
      if (v26.2 == 0) = true then
        some (.inr (.inl (v19.2.src, v19.2.rest, v19.2.fresh)))
      else
        token_Cut.j2 src x16 v19 v26
  else
    some (.inr (.inl (v19.2.src, v19.2.rest, v19.2.fresh)))
def token_Cut (src : Str) : Option ((List T_api_Token) × Int × Int) :=
  if (decide (((src.length : Nat) : Int) > 4096)) = true then
    some (([] : List T_api_Token), 0, 2)
  else
    Option.bind (loopM (token_Cut.l1 src) (src, src, false, ([] : List T_api_Token))) fun e => match e with
    | (.inl (x37, x38, x39)) =>
      some (([] : List T_api_Token), (IntKind.wrap .i64 (((src.length : Nat) : Int) - ((x38.length : Nat) : Int))), 60)
    | (.inr r40) =>
      some r40
theorem token_Cut.ok (src : Str) (r : (List T_api_Token) × Int × Int) (h0 : token_Cut src = some r) (w0 : World) (F0 : Heap) (hv : F0.Sub w0) (hG : Glob F0) (hg : SV.goods F0 [.v (.string ⟨⟨src⟩⟩)]) (ρ : Nat → Nat) :
    Calls Tryz.prog 6 (SV.dens ρ [.v (.string ⟨⟨src⟩⟩)]).toArray w0 (Ret0 w0 F0 fun s => ∃ s1 s2 s3, s = .tup [s1, s2, s3] ∧ (∃ A c, s1 = SV.sl kT_api_Token r.1 A c) ∧ (s2 = .v (.int .i64 r.2.1)) ∧ (s3 = .v (.int .i64 r.2.2))) := by
 refine calls_of_wp Tryz.func6 rfl ?_
 have hX := Cx.enter (D := No) (B := []) (L := []) (ρ := ρ) (N := 78) Tryz.ntmps6 [.v (.string ⟨⟨src⟩⟩)] (St.start hv) rfl hg (by kernel_rfl) (fun _ h => by cases h) (Nat.le_of_ble_eq_true rfl) No.unfix
 unfold token_Cut at h0
 refine Cx.rseq hX [] [0] (l' := [(0, .v (.string ⟨⟨src⟩⟩))]) (B' := []) (by kernel_rfl) fun ρ w a hX => ?_
 refine wp_seq_k fun K2 hK2 => ?_
 refine Cx.rseq hX [] [0, 12] (l' := [(0, .v (.string ⟨⟨src⟩⟩)), (12, .v (.bool (decide (((src.length : Nat) : Int) > 4096))))]) (B' := []) (by kernel_rfl) fun ρ w a hX => ?_
 refine Cx.cond hX (b := (decide (((src.length : Nat) : Int) > 4096))) (by kernel_rfl) (fun hb => ?_) (fun hb => ?_)
 ·have h0 := ite_tt h0 hb
  refine Cx.rseq hX [] [2, 3, 4] (l' := [(2, .v (.slice none 0 0)), (3, .v (.int .i64 0)), (4, .v (.int .i64 2))]) (B' := []) (by kernel_rfl) fun ρ w a hX => ?_
  refine wp_ret ?_
  have hX := hX.nilSl 2 kT_api_Token (by kernel_rfl)
  have hr := Option.some.inj (show some _ = some _ from h0)
  subst hr
  exact hX.ret0 (ss := [SV.sl kT_api_Token ([] : List T_api_Token) none 0, .v (.int .i64 0), .v (.int .i64 2)]) (by kernel_rfl) (by kernel_rfl) ⟨_, _, _, rfl, ⟨_, _, rfl⟩, rfl, rfl⟩
 ·have h0 := ite_ff h0 hb
  refine wp_skip ?_
  refine hK2 _ _ ?_
  refine Cx.rseq hX [] [0, 5] (l' := [(0, .v (.string ⟨⟨src⟩⟩)), (5, .ptr 0 0)]) (B' := [some ⟨39, [.v (.string ⟨⟨src⟩⟩), .v (.string ⟨⟨src⟩⟩), .v (.bool false)]⟩]) (by kernel_rfl) fun ρ w a hX => ?_
  refine Cx.rseq hX [] [0, 5, 6] (l' := [(0, .v (.string ⟨⟨src⟩⟩)), (5, .ptr 0 0), (6, .v (.slice none 0 0))]) (B' := [some ⟨39, [.v (.string ⟨⟨src⟩⟩), .v (.string ⟨⟨src⟩⟩), .v (.bool false)]⟩]) (by kernel_rfl) fun ρ w a hX => ?_
  refine wp_seq_k fun K7 hK7 => ?_
  refine wp_block ?_
  have hX := hX.newAcc 25 kT_api_Token
  have hX := hX.keeps [0, 5, 6] (l' := [(0, .v (.string ⟨⟨src⟩⟩)), (5, .ptr 0 0), (6, .v (.slice none ([] : List T_api_Token).length 0))]) (by kernel_rfl)
  obtain ⟨e1, he1, h0⟩ := bnd_some h0
  have E1x0 : ∀ (x37 : Str) (x38 : Str) (x39 : Bool), e1 = (.inl (x37, x38, x39)) → ∀ (ρ : Nat → Nat) (w : World) (F : Heap) (a : Act), Cx 78 w0 F0 No w F [] [some ⟨39, [.v (.string ⟨⟨x37⟩⟩), .v (.string ⟨⟨x38⟩⟩), .v (.bool x39)]⟩] ρ [(0, .v (.string ⟨⟨src⟩⟩)), (5, .ptr 0 0)] a → K7 a w := by
   intro x37 x38 x39 he  ρ w F a hX
   replace he := he.symm
   subst he
   (try dsimp only at h0)
   refine hK7 _ _ ?_
   refine wp_seq_k fun K32 hK32 => ?_
   have hGd := hG.mono hX.st.le
   refine hX.draw rfl (n := 11) rfl #[false, false, false, false, false, false, false, false, false, false, false] (by kernel_rfl) fun w D' hDk back hX => ?_
   refine hX.dq 0 rfl (lit := []) (by kernel_rfl) (listed' := #[true, false, false, false, false, false, false, false, false, false, false]) (by kernel_rfl) (by kernel_rfl) (s := .v (.string ⟨⟨src⟩⟩)) (by kernel_rfl) fun a hX => ?_
   refine hX.dq 1 rfl (lit := []) (by kernel_rfl) (listed' := #[true, true, false, false, false, false, false, false, false, false, false]) (by kernel_rfl) (by kernel_rfl) (s := .v (.int .i64 ((src.length : Nat) : Int))) (by kernel_rfl) fun a hX => ?_
   refine hX.dq 2 rfl (lit := []) (by kernel_rfl) (listed' := #[true, true, true, false, false, false, false, false, false, false, false]) (by kernel_rfl) (by kernel_rfl) (s := .ptr 0 0) (by kernel_rfl) fun a hX => ?_
   refine hX.dq 3 rfl (lit := []) (by kernel_rfl) (listed' := #[true, true, true, true, false, false, false, false, false, false, false]) (by kernel_rfl) (by kernel_rfl) (s := .ptr 0 0) (by kernel_rfl) fun a hX => ?_
   refine hX.dq 4 rfl (lit := []) (by kernel_rfl) (listed' := #[true, true, true, true, true, false, false, false, false, false, false]) (by kernel_rfl) (by kernel_rfl) (s := .ptr 0 1) (by kernel_rfl) fun a hX => ?_
   refine hX.dq 8 rfl (lit := []) (by kernel_rfl) (listed' := #[true, true, true, true, true, false, false, false, true, false, false]) (by kernel_rfl) (by kernel_rfl) (s := .v (.slice none 0 0)) (by kernel_rfl) fun a hX => ?_
   refine dseq (listed' := #[true, true, true, true, true, true, false, false, true, false, false]) 5 (by kernel_rfl) rfl (by kernel_rfl) ?_
   refine hX.part [] 1 [0, 2, 5, 70, 71, 72, 73, 74, 75] (l' := [(0, .v (.string ⟨⟨src⟩⟩)), (2, .v (.slice none 0 0)), (5, .ptr 0 0), (70, .v (.string ⟨⟨src⟩⟩)), (71, .v (.int .i64 ((src.length : Nat) : Int))), (72, .ptr 0 0), (73, .ptr 0 0), (74, .ptr 0 1), (75, .v (.string ⟨⟨x38⟩⟩))]) (B' := [some ⟨39, [.v (.string ⟨⟨x37⟩⟩), .v (.string ⟨⟨x38⟩⟩), .v (.bool x39)]⟩]) (by kernel_rfl) fun ρ w a hX => ?_
   refine dnext hX.st.sub0 ?_
   refine hX.dq 6 rfl (lit := []) (by kernel_rfl) (listed' := #[true, true, true, true, true, true, true, false, true, false, false]) (by kernel_rfl) (by kernel_rfl) (s := .v (.int .i64 ((x38.length : Nat) : Int))) (by kernel_rfl) fun a hX => ?_
   refine hX.dq 7 rfl (lit := []) (by kernel_rfl) (listed' := #[true, true, true, true, true, true, true, true, true, false, false]) (by kernel_rfl) (by kernel_rfl) (s := .v (.int .i64 (IntKind.wrap .i64 (((src.length : Nat) : Int) - ((x38.length : Nat) : Int))))) (by kernel_rfl) fun a hX => ?_
   refine hX.dq 9 rfl (lit := []) (by kernel_rfl) (listed' := #[true, true, true, true, true, true, true, true, true, true, false]) (by kernel_rfl) (by kernel_rfl) (s := .v (.int .i64 (IntKind.wrap .i64 (((src.length : Nat) : Int) - ((x38.length : Nat) : Int))))) (by kernel_rfl) fun a hX => ?_
   refine hX.dq 10 rfl (lit := []) (by kernel_rfl) (listed' := #[true, true, true, true, true, true, true, true, true, true, true]) (by kernel_rfl) (by kernel_rfl) (s := .v (.int .i64 60)) (by kernel_rfl) fun a hX => ?_
   have hX := back hX
   refine ddone (by kernel_rfl) ?_
   refine hK32 _ _ ?_
   refine wp_ret ?_
   have hX := hX.nilSl 2 kT_api_Token (by kernel_rfl)
   have hr := Option.some.inj (show some _ = some _ from h0)
   subst hr
   exact hX.ret0 (ss := [SV.sl kT_api_Token ([] : List T_api_Token) none 0, .v (.int .i64 (IntKind.wrap .i64 (((src.length : Nat) : Int) - ((x38.length : Nat) : Int)))), .v (.int .i64 60)]) (by kernel_rfl) (by kernel_rfl) ⟨_, _, _, rfl, ⟨_, _, rfl⟩, rfl, rfl⟩
  refine loop_go (fun (s : Str × Str × Bool × (List T_api_Token)) a w => match s with | (x13, x14, x15, x16) => ∃ (A17 : Option Addr) (c18 : Nat) (ρ : Nat → Nat) (F : Heap), Cx 78 w0 F0 No w F [accP 25 kT_api_Token A17 c18 x16] [some ⟨39, [.v (.string ⟨⟨x13⟩⟩), .v (.string ⟨⟨x14⟩⟩), .v (.bool x15)]⟩] ρ [(0, .v (.string ⟨⟨src⟩⟩)), (5, .ptr 0 0), (6, .v (.slice A17 x16.length c18))] a) he1 (fun LW1 s o1 h1 hb1 hx1 a w hI => ?_) _ _ ?_
  ·obtain ⟨x13, x14, x15, x16⟩ := s
   obtain ⟨A17, c18, ρ, F, hX⟩ := hI
   unfold token_Cut.l1 at h1
   (try dsimp only at h1)
   refine wp_seq_k fun K20 hK20 => ?_
   refine wp_seq_k fun K21 hK21 => ?_
   refine wp_region_list ?_
   refine hX.part [] 1 [0, 5, 6, 17] (l' := [(0, .v (.string ⟨⟨src⟩⟩)), (5, .ptr 0 0), (6, .v (.slice A17 x16.length c18)), (17, .ptr 0 0)]) (B' := [some ⟨39, [.v (.string ⟨⟨x13⟩⟩), .v (.string ⟨⟨x14⟩⟩), .v (.bool x15)]⟩]) (by kernel_rfl) fun ρ w a hX => ?_
   obtain ⟨v19, hv19, h1⟩ := bnd_some h1
   have hX : Cx 78 _ _ _ _ _ [accP 25 kT_api_Token A17 c18 x16] [some ⟨39, [.v (.string ⟨⟨x13⟩⟩), .v (.string ⟨⟨x14⟩⟩), .v (.bool x15)]⟩] ρ _ _ := hX
   have hX : Cx 78 _ _ _ _ _ [own_token_cutter ({ src := x13, rest := x14, fresh := x15 } : T_token_cutter) (ρ 0), accP 25 kT_api_Token A17 c18 x16] [none] ρ _ _ := Cx.packP (Y := Unit) hX 0 (() : Unit) rfl rfl rfl rfl (fun h => h)
   have hX : Cx 78 _ _ _ _ _ [own_token_cutter ({ src := x13, rest := x14, fresh := x15 } : T_token_cutter) (ρ 0), accP 25 kT_api_Token A17 c18 x16] [none] ρ _ _ := hX
   refine Cx.callH (M := [own_token_cutter ({ src := x13, rest := x14, fresh := x15 } : T_token_cutter) (ρ 0)]) (L := [accP 25 kT_api_Token A17 c18 x16]) hX (lit := []) (by kernel_rfl) rfl (by kernel_rfl) ⟨⟨_, Tryz.func15, by kernel_rfl, rfl⟩⟩ (ss := [.ptr 0 0]) (by kernel_rfl) [.ptr 0 0] rfl (fun hg => ⟨trivial, trivial⟩) [ρ 0] (fun D' hD' hv hle hg hst => token_cutter_blanks.ok ({ src := x13, rest := x14, fresh := x15 } : T_token_cutter) v19 hv19 _ _ hv (hG.mono hle) hg (fun k => match k with | 0 => ρ 0 | _ => 0) D' hD' hst) (fun s F M w a hp hX => ?_)
   obtain ⟨hp, rfl⟩ := hp
   subst hp
   have hX : Cx 78 _ _ _ _ _ [own_token_cutter v19.2 (ρ 0), accP 25 kT_api_Token A17 c18 x16] [none] ρ _ _ := hX
   obtain ⟨_, hX⟩ := Cx.unpackP (k := 0) (Y := Unit) (ty := 39) hX (fun (y : Unit) => [.v (.string ⟨⟨v19.2.src⟩⟩), .v (.string ⟨⟨v19.2.rest⟩⟩), .v (.bool v19.2.fresh)]) rfl (fun y => rfl) (fun y F h => h) (fun y => rfl)
   have hX : Cx 78 _ _ _ _ _ [accP 25 kT_api_Token A17 c18 x16] [some ⟨39, [.v (.string ⟨⟨v19.2.src⟩⟩), .v (.string ⟨⟨v19.2.rest⟩⟩), .v (.bool v19.2.fresh)]⟩] ρ _ _ := hX
   refine hX.part [] 0 [0, 5, 6, 18] (l' := [(0, .v (.string ⟨⟨src⟩⟩)), (5, .ptr 0 0), (6, .v (.slice A17 x16.length c18)), (18, .v (.bool v19.1))]) (B' := [some ⟨39, [.v (.string ⟨⟨v19.2.src⟩⟩), .v (.string ⟨⟨v19.2.rest⟩⟩), .v (.bool v19.2.fresh)]⟩]) (by kernel_rfl) fun ρ w a hX => ?_
   refine wpList_end ?_
   refine hK21 _ _ ?_
   refine Cx.cond hX (b := v19.1) (by kernel_rfl) (fun hb => ?_) (fun hb => ?_)
   ·have h1 := ite_tt h1 hb
    refine wp_skip ?_
    refine hK20 _ _ ?_
    refine wp_block ?_
    refine Cx.rseq hX [] [0, 5, 6, 7] (l' := [(0, .v (.string ⟨⟨src⟩⟩)), (5, .ptr 0 0), (6, .v (.slice A17 x16.length c18)), (7, .v (.int .i64 (IntKind.wrap .i64 (((src.length : Nat) : Int) - ((v19.2.rest.length : Nat) : Int)))))]) (B' := [some ⟨39, [.v (.string ⟨⟨v19.2.src⟩⟩), .v (.string ⟨⟨v19.2.rest⟩⟩), .v (.bool v19.2.fresh)]⟩]) (by kernel_rfl) fun ρ w a hX => ?_
    refine wp_seq_k fun K23 hK23 => ?_
    refine Cx.rseq hX [] [0, 5, 6, 7, 31] (l' := [(0, .v (.string ⟨⟨src⟩⟩)), (5, .ptr 0 0), (6, .v (.slice A17 x16.length c18)), (7, .v (.int .i64 (IntKind.wrap .i64 (((src.length : Nat) : Int) - ((v19.2.rest.length : Nat) : Int))))), (31, .v (.bool (v19.2.rest == ([] : Str))))]) (B' := [some ⟨39, [.v (.string ⟨⟨v19.2.src⟩⟩), .v (.string ⟨⟨v19.2.rest⟩⟩), .v (.bool v19.2.fresh)]⟩]) (by kernel_rfl) fun ρ w a hX => ?_
    refine Cx.cond hX (b := (v19.2.rest == ([] : Str))) (by kernel_rfl) (fun hb => ?_) (fun hb => ?_)
    ·have h1 := ite_tt h1 hb
     refine wp_seq_k fun K25 hK25 => ?_
     refine wp_region_list ?_
     refine hX.part [] 8 [6, 32, 39] (l' := [(6, .v (.slice A17 x16.length c18)), (32, .v (.slice A17 x16.length c18)), (39, .slc 1 0 1 1)]) (B' := [some ⟨39, [.v (.string ⟨⟨v19.2.src⟩⟩), .v (.string ⟨⟨v19.2.rest⟩⟩), .v (.bool v19.2.fresh)]⟩, some ⟨25, [.v (.int .i64 0), .v (.string ⟨⟨([] : Str)⟩⟩), .v (.int .i64 0), .v (.int .i64 (IntKind.wrap .i64 (((src.length : Nat) : Int) - ((v19.2.rest.length : Nat) : Int)))), .v (.bool v19.2.fresh)]⟩]) (by kernel_rfl) fun ρ w a hX => ?_
     obtain ⟨u22, hu22, h1⟩ := bnd_some h1
     refine hX.appLit (d := kT_api_Token) (k := 1) (m := 1) (bytes := 48) (cells := [.v (.int .i64 0), .v (.string ⟨⟨([] : Str)⟩⟩), .v (.int .i64 0), .v (.int .i64 (IntKind.wrap .i64 (((src.length : Nat) : Int) - ((v19.2.rest.length : Nat) : Int)))), .v (.bool v19.2.fresh)]) (lit := []) (i := 0) (e := 25) (xs := x16) (A := A17) (c := c18) ([(({ Kind := 0, Text := ([] : Str), Num := 0, At := (IntKind.wrap .i64 (((src.length : Nat) : Int) - ((v19.2.rest.length : Nat) : Int))), Fresh := v19.2.fresh } : T_api_Token), ())] : List (T_api_Token × (kT_api_Token).Y)) (by kernel_rfl) (by kernel_rfl) rfl rfl (by kernel_rfl) (by kernel_rfl) (by kernel_rfl) (by kernel_rfl) (by kernel_rfl) rfl rfl (by decide) hu22 ⟨_, rfl⟩ fun A20 c21 w a hX => ?_
     have hX : Cx 78 _ _ _ _ _ [accP 25 kT_api_Token A20 c21 (x16 ++ [({ Kind := 0, Text := ([] : Str), Num := 0, At := (IntKind.wrap .i64 (((src.length : Nat) : Int) - ((v19.2.rest.length : Nat) : Int))), Fresh := v19.2.fresh } : T_api_Token)])] [some ⟨39, [.v (.string ⟨⟨v19.2.src⟩⟩), .v (.string ⟨⟨v19.2.rest⟩⟩), .v (.bool v19.2.fresh)]⟩, some ⟨25, [.v (.int .i64 0), .v (.string ⟨⟨([] : Str)⟩⟩), .v (.int .i64 0), .v (.int .i64 (IntKind.wrap .i64 (((src.length : Nat) : Int) - ((v19.2.rest.length : Nat) : Int)))), .v (.bool v19.2.fresh)]⟩] ρ _ a := hX
     refine hX.part [] 1 [6] (l' := [(6, .v (.slice A20 (x16 ++ [({ Kind := 0, Text := ([] : Str), Num := 0, At := (IntKind.wrap .i64 (((src.length : Nat) : Int) - ((v19.2.rest.length : Nat) : Int))), Fresh := v19.2.fresh } : T_api_Token)]).length c21))]) (B' := [some ⟨39, [.v (.string ⟨⟨v19.2.src⟩⟩), .v (.string ⟨⟨v19.2.rest⟩⟩), .v (.bool v19.2.fresh)]⟩, some ⟨25, [.v (.int .i64 0), .v (.string ⟨⟨([] : Str)⟩⟩), .v (.int .i64 0), .v (.int .i64 (IntKind.wrap .i64 (((src.length : Nat) : Int) - ((v19.2.rest.length : Nat) : Int)))), .v (.bool v19.2.fresh)]⟩]) (by kernel_rfl) fun ρ w a hX => ?_
     refine wpList_end ?_
     refine hK25 _ _ ?_
     refine wp_seq_k fun K26 hK26 => ?_
     refine wp_region_list ?_
     refine hX.part [] 1 [41] (l' := [(41, .v (.slice A20 (x16 ++ [({ Kind := 0, Text := ([] : Str), Num := 0, At := (IntKind.wrap .i64 (((src.length : Nat) : Int) - ((v19.2.rest.length : Nat) : Int))), Fresh := v19.2.fresh } : T_api_Token)]).length c21))]) (B' := [some ⟨39, [.v (.string ⟨⟨v19.2.src⟩⟩), .v (.string ⟨⟨v19.2.rest⟩⟩), .v (.bool v19.2.fresh)]⟩, some ⟨25, [.v (.int .i64 0), .v (.string ⟨⟨([] : Str)⟩⟩), .v (.int .i64 0), .v (.int .i64 (IntKind.wrap .i64 (((src.length : Nat) : Int) - ((v19.2.rest.length : Nat) : Int)))), .v (.bool v19.2.fresh)]⟩]) (by kernel_rfl) fun ρ w a hX => ?_
     obtain ⟨v23, hv23, h1⟩ := bnd_some h1
     obtain ⟨F, hX⟩ := hX.freeze (i := 0) (t := 41) (e := 25) (d := kT_api_Token) (A := A20) (c := c21) (xs := (x16 ++ [({ Kind := 0, Text := ([] : Str), Num := 0, At := (IntKind.wrap .i64 (((src.length : Nat) : Int) - ((v19.2.rest.length : Nat) : Int))), Fresh := v19.2.fresh } : T_api_Token)])) rfl (by kernel_rfl)
     have hX : Cx 78 _ _ _ _ _ [] [some ⟨39, [.v (.string ⟨⟨v19.2.src⟩⟩), .v (.string ⟨⟨v19.2.rest⟩⟩), .v (.bool v19.2.fresh)]⟩, some ⟨25, [.v (.int .i64 0), .v (.string ⟨⟨([] : Str)⟩⟩), .v (.int .i64 0), .v (.int .i64 (IntKind.wrap .i64 (((src.length : Nat) : Int) - ((v19.2.rest.length : Nat) : Int)))), .v (.bool v19.2.fresh)]⟩] ρ _ a := hX
     refine Cx.call0 hX (lit := []) (by kernel_rfl) rfl (by kernel_rfl) ⟨⟨_, Tryz.func16, by kernel_rfl, rfl⟩⟩ (ss := [SV.sl kT_api_Token (x16 ++ [({ Kind := 0, Text := ([] : Str), Num := 0, At := (IntKind.wrap .i64 (((src.length : Nat) : Int) - ((v19.2.rest.length : Nat) : Int))), Fresh := v19.2.fresh } : T_api_Token)]) A20 c21]) (by kernel_rfl) [SV.sl kT_api_Token (x16 ++ [({ Kind := 0, Text := ([] : Str), Num := 0, At := (IntKind.wrap .i64 (((src.length : Nat) : Int) - ((v19.2.rest.length : Nat) : Int))), Fresh := v19.2.fresh } : T_api_Token)]) A20 c21] rfl (fun hg => hg) (fun hv hle hg => slices_Clip_api_Token_api_Token.ok (x16 ++ [({ Kind := 0, Text := ([] : Str), Num := 0, At := (IntKind.wrap .i64 (((src.length : Nat) : Int) - ((v19.2.rest.length : Nat) : Int))), Fresh := v19.2.fresh } : T_api_Token)]) (A20, c21) v23 hv23 _ _ hv (hG.mono hle) hg _) (fun s F w a hp hX => ?_)
     obtain ⟨A24, c25, rfl⟩ := hp
     refine hX.part [] 3 [2, 3, 4] (l' := [(2, SV.sl kT_api_Token v23 A24 c25), (3, .v (.int .i64 0)), (4, .v (.int .i64 0))]) (B' := [some ⟨39, [.v (.string ⟨⟨v19.2.src⟩⟩), .v (.string ⟨⟨v19.2.rest⟩⟩), .v (.bool v19.2.fresh)]⟩, some ⟨25, [.v (.int .i64 0), .v (.string ⟨⟨([] : Str)⟩⟩), .v (.int .i64 0), .v (.int .i64 (IntKind.wrap .i64 (((src.length : Nat) : Int) - ((v19.2.rest.length : Nat) : Int)))), .v (.bool v19.2.fresh)]⟩]) (by kernel_rfl) fun ρ w a hX => ?_
     refine wpList_end ?_
     refine hK26 _ _ ?_
     refine wp_ret ?_
     have he := hx1 _ (out_eq h1)
     subst he
     (try dsimp only at h0)
     have hr := Option.some.inj (show some _ = some _ from h0)
     subst hr
     exact hX.ret0 (ss := [SV.sl kT_api_Token v23 A24 c25, .v (.int .i64 0), .v (.int .i64 0)]) (by kernel_rfl) (by kernel_rfl) ⟨_, _, _, rfl, ⟨_, _, rfl⟩, rfl, rfl⟩
    ·have h1 := ite_ff h1 hb
     refine wp_skip ?_
     refine hK23 _ _ ?_
     refine wp_seq_k fun K27 hK27 => ?_
     refine wp_region_list ?_
     refine hX.part [] 1 [0, 5, 6, 7, 44] (l' := [(0, .v (.string ⟨⟨src⟩⟩)), (5, .ptr 0 0), (6, .v (.slice A17 x16.length c18)), (7, .v (.int .i64 (IntKind.wrap .i64 (((src.length : Nat) : Int) - ((v19.2.rest.length : Nat) : Int))))), (44, .ptr 0 0)]) (B' := [some ⟨39, [.v (.string ⟨⟨v19.2.src⟩⟩), .v (.string ⟨⟨v19.2.rest⟩⟩), .v (.bool v19.2.fresh)]⟩]) (by kernel_rfl) fun ρ w a hX => ?_
     obtain ⟨v26, hv26, h1⟩ := bnd_some h1
     have hX : Cx 78 _ _ _ _ _ [accP 25 kT_api_Token A17 c18 x16] [some ⟨39, [.v (.string ⟨⟨v19.2.src⟩⟩), .v (.string ⟨⟨v19.2.rest⟩⟩), .v (.bool v19.2.fresh)]⟩] ρ _ _ := hX
     have hX : Cx 78 _ _ _ _ _ [own_token_cutter v19.2 (ρ 0), accP 25 kT_api_Token A17 c18 x16] [none] ρ _ _ := Cx.packP (Y := Unit) hX 0 (() : Unit) rfl rfl rfl rfl (fun h => h)
     have hX : Cx 78 _ _ _ _ _ [own_token_cutter v19.2 (ρ 0), accP 25 kT_api_Token A17 c18 x16] [none] ρ _ _ := hX
     refine Cx.callH (M := [own_token_cutter v19.2 (ρ 0)]) (L := [accP 25 kT_api_Token A17 c18 x16]) hX (lit := []) (by kernel_rfl) rfl (by kernel_rfl) ⟨⟨_, Tryz.func17, by kernel_rfl, rfl⟩⟩ (ss := [.ptr 0 0]) (by kernel_rfl) [.ptr 0 0] rfl (fun hg => ⟨trivial, trivial⟩) [ρ 0] (fun D' hD' hv hle hg hst => token_cutter_one.ok v19.2 v26 hv26 _ _ hv (hG.mono hle) hg (fun k => match k with | 0 => ρ 0 | _ => 0) D' hD' hst) (fun s F M w a hp hX => ?_)
     obtain ⟨hp, rfl⟩ := hp
     obtain ⟨_, _, rfl, rfl, rfl⟩ := hp
     have hX : Cx 78 _ _ _ _ _ [own_token_cutter v19.2 (ρ 0), accP 25 kT_api_Token A17 c18 x16] [none] ρ _ _ := hX
     obtain ⟨_, hX⟩ := Cx.unpackP (k := 0) (Y := Unit) (ty := 39) hX (fun (y : Unit) => [.v (.string ⟨⟨v19.2.src⟩⟩), .v (.string ⟨⟨v19.2.rest⟩⟩), .v (.bool v19.2.fresh)]) rfl (fun y => rfl) (fun y F h => h) (fun y => rfl)
     have hX : Cx 78 _ _ _ _ _ [accP 25 kT_api_Token A17 c18 x16] [some ⟨39, [.v (.string ⟨⟨v19.2.src⟩⟩), .v (.string ⟨⟨v19.2.rest⟩⟩), .v (.bool v19.2.fresh)]⟩] ρ _ _ := hX
     refine hX.part [] 6 [0, 5, 6, 7, 8, 9] (l' := [(0, .v (.string ⟨⟨src⟩⟩)), (5, .ptr 0 0), (6, .v (.slice A17 x16.length c18)), (7, .v (.int .i64 (IntKind.wrap .i64 (((src.length : Nat) : Int) - ((v19.2.rest.length : Nat) : Int))))), (8, .ptr 1 0), (9, .v (.int .i64 v26.2))]) (B' := [some ⟨39, [.v (.string ⟨⟨v19.2.src⟩⟩), .v (.string ⟨⟨v19.2.rest⟩⟩), .v (.bool v19.2.fresh)]⟩, some ⟨25, [.v (.int .i64 v26.1.Kind), .v (.string ⟨⟨v26.1.Text⟩⟩), .v (.int .i64 v26.1.Num), .v (.int .i64 v26.1.At), .v (.bool v26.1.Fresh)]⟩]) (by kernel_rfl) fun ρ w a hX => ?_
     refine wpList_end ?_
     refine hK27 _ _ ?_
     refine wp_seq_k fun K28 hK28 => ?_
     refine Cx.rseq hX [] [0, 5, 6, 7, 8, 9, 49] (l' := [(0, .v (.string ⟨⟨src⟩⟩)), (5, .ptr 0 0), (6, .v (.slice A17 x16.length c18)), (7, .v (.int .i64 (IntKind.wrap .i64 (((src.length : Nat) : Int) - ((v19.2.rest.length : Nat) : Int))))), (8, .ptr 1 0), (9, .v (.int .i64 v26.2)), (49, .v (.bool (v26.2 == 0)))]) (B' := [some ⟨39, [.v (.string ⟨⟨v19.2.src⟩⟩), .v (.string ⟨⟨v19.2.rest⟩⟩), .v (.bool v19.2.fresh)]⟩, some ⟨25, [.v (.int .i64 v26.1.Kind), .v (.string ⟨⟨v26.1.Text⟩⟩), .v (.int .i64 v26.1.Num), .v (.int .i64 v26.1.At), .v (.bool v26.1.Fresh)]⟩]) (by kernel_rfl) fun ρ w a hX => ?_
     refine Cx.cond hX (b := (v26.2 == 0)) (by kernel_rfl) (fun hb => ?_) (fun hb => ?_)
     ·have h1 := ite_tt h1 hb
      refine wp_exit ?_
      have hX := hX.dropL 0 rfl rfl
      have hX := hX.keeps [0, 5] (l' := [(0, .v (.string ⟨⟨src⟩⟩)), (5, .ptr 0 0)]) (by kernel_rfl)
      have hX := hX.shrink 1 (B' := [some ⟨39, [.v (.string ⟨⟨v19.2.src⟩⟩), .v (.string ⟨⟨v19.2.rest⟩⟩), .v (.bool v19.2.fresh)]⟩]) (by kernel_rfl) (Nat.le_of_ble_eq_true rfl) (by kernel_rfl) (by kernel_rfl) (Nat.zero_le _)
      exact E1x0 v19.2.src v19.2.rest v19.2.fresh (hx1 _ (out_eq h1)).symm  _ _ _ _ hX
     ·have h1 := ite_ff h1 hb
      refine wp_skip ?_
      refine hK28 _ _ ?_
      refine wp_seq_k fun K30 hK30 => ?_
      have J30 : ∀ (_ : Unit), token_Cut.j2 src x16 v19 v26 = some o1 → ∀ (ρ : Nat → Nat) (w : World) (F : Heap) (a : Act), Cx 78 w0 F0 No w F [accP 25 kT_api_Token A17 c18 x16] [some ⟨39, [.v (.string ⟨⟨v19.2.src⟩⟩), .v (.string ⟨⟨v19.2.rest⟩⟩), .v (.bool v19.2.fresh)]⟩, some ⟨25, [.v (.int .i64 v26.1.Kind), .v (.string ⟨⟨v26.1.Text⟩⟩), .v (.int .i64 v26.1.Num), .v (.int .i64 (IntKind.wrap .i64 (((src.length : Nat) : Int) - ((v19.2.rest.length : Nat) : Int)))), .v (.bool v19.2.fresh)]⟩] ρ [(0, .v (.string ⟨⟨src⟩⟩)), (5, .ptr 0 0), (6, .v (.slice A17 x16.length c18)), (8, .ptr 1 0), (9, .v (.int .i64 v26.2))] a → K30 a w := by
       intro _ h1  ρ w F a hX
       unfold token_Cut.j2 at h1
       refine hK30 _ _ ?_
       refine wp_seq_k fun K31 hK31 => ?_
       refine wp_region_list ?_
       refine hX.part [] 3 [0, 5, 6, 9, 57, 59] (l' := [(0, .v (.string ⟨⟨src⟩⟩)), (5, .ptr 0 0), (6, .v (.slice A17 x16.length c18)), (9, .v (.int .i64 v26.2)), (57, .v (.slice A17 x16.length c18)), (59, .slc 2 0 1 1)]) (B' := [some ⟨39, [.v (.string ⟨⟨v19.2.src⟩⟩), .v (.string ⟨⟨v19.2.rest⟩⟩), .v (.bool v19.2.fresh)]⟩, some ⟨25, [.v (.int .i64 v26.1.Kind), .v (.string ⟨⟨v26.1.Text⟩⟩), .v (.int .i64 v26.1.Num), .v (.int .i64 (IntKind.wrap .i64 (((src.length : Nat) : Int) - ((v19.2.rest.length : Nat) : Int)))), .v (.bool v19.2.fresh)]⟩, some ⟨25, [.v (.int .i64 v26.1.Kind), .v (.string ⟨⟨v26.1.Text⟩⟩), .v (.int .i64 v26.1.Num), .v (.int .i64 (IntKind.wrap .i64 (((src.length : Nat) : Int) - ((v19.2.rest.length : Nat) : Int)))), .v (.bool v19.2.fresh)]⟩]) (by kernel_rfl) fun ρ w a hX => ?_
       obtain ⟨u29, hu29, h1⟩ := bnd_some h1
       refine hX.appLit (d := kT_api_Token) (k := 2) (m := 1) (bytes := 48) (cells := [.v (.int .i64 v26.1.Kind), .v (.string ⟨⟨v26.1.Text⟩⟩), .v (.int .i64 v26.1.Num), .v (.int .i64 (IntKind.wrap .i64 (((src.length : Nat) : Int) - ((v19.2.rest.length : Nat) : Int)))), .v (.bool v19.2.fresh)]) (lit := []) (i := 0) (e := 25) (xs := x16) (A := A17) (c := c18) ([(({ Kind := v26.1.Kind, Text := v26.1.Text, Num := v26.1.Num, At := (IntKind.wrap .i64 (((src.length : Nat) : Int) - ((v19.2.rest.length : Nat) : Int))), Fresh := v19.2.fresh } : T_api_Token), ())] : List (T_api_Token × (kT_api_Token).Y)) (by kernel_rfl) (by kernel_rfl) rfl rfl (by kernel_rfl) (by kernel_rfl) (by kernel_rfl) (by kernel_rfl) (by kernel_rfl) rfl rfl (by decide) hu29 ⟨_, rfl⟩ fun A27 c28 w a hX => ?_
       have hX : Cx 78 _ _ _ _ _ [accP 25 kT_api_Token A27 c28 (x16 ++ [({ Kind := v26.1.Kind, Text := v26.1.Text, Num := v26.1.Num, At := (IntKind.wrap .i64 (((src.length : Nat) : Int) - ((v19.2.rest.length : Nat) : Int))), Fresh := v19.2.fresh } : T_api_Token)])] [some ⟨39, [.v (.string ⟨⟨v19.2.src⟩⟩), .v (.string ⟨⟨v19.2.rest⟩⟩), .v (.bool v19.2.fresh)]⟩, some ⟨25, [.v (.int .i64 v26.1.Kind), .v (.string ⟨⟨v26.1.Text⟩⟩), .v (.int .i64 v26.1.Num), .v (.int .i64 (IntKind.wrap .i64 (((src.length : Nat) : Int) - ((v19.2.rest.length : Nat) : Int)))), .v (.bool v19.2.fresh)]⟩, some ⟨25, [.v (.int .i64 v26.1.Kind), .v (.string ⟨⟨v26.1.Text⟩⟩), .v (.int .i64 v26.1.Num), .v (.int .i64 (IntKind.wrap .i64 (((src.length : Nat) : Int) - ((v19.2.rest.length : Nat) : Int)))), .v (.bool v19.2.fresh)]⟩] ρ _ a := hX
       refine hX.part [] 1 [0, 5, 6, 9] (l' := [(0, .v (.string ⟨⟨src⟩⟩)), (5, .ptr 0 0), (6, .v (.slice A27 (x16 ++ [({ Kind := v26.1.Kind, Text := v26.1.Text, Num := v26.1.Num, At := (IntKind.wrap .i64 (((src.length : Nat) : Int) - ((v19.2.rest.length : Nat) : Int))), Fresh := v19.2.fresh } : T_api_Token)]).length c28)), (9, .v (.int .i64 v26.2))]) (B' := [some ⟨39, [.v (.string ⟨⟨v19.2.src⟩⟩), .v (.string ⟨⟨v19.2.rest⟩⟩), .v (.bool v19.2.fresh)]⟩, some ⟨25, [.v (.int .i64 v26.1.Kind), .v (.string ⟨⟨v26.1.Text⟩⟩), .v (.int .i64 v26.1.Num), .v (.int .i64 (IntKind.wrap .i64 (((src.length : Nat) : Int) - ((v19.2.rest.length : Nat) : Int)))), .v (.bool v19.2.fresh)]⟩, some ⟨25, [.v (.int .i64 v26.1.Kind), .v (.string ⟨⟨v26.1.Text⟩⟩), .v (.int .i64 v26.1.Num), .v (.int .i64 (IntKind.wrap .i64 (((src.length : Nat) : Int) - ((v19.2.rest.length : Nat) : Int)))), .v (.bool v19.2.fresh)]⟩]) (by kernel_rfl) fun ρ w a hX => ?_
       refine wpList_end ?_
       refine hK31 _ _ ?_
       refine wp_region_list ?_
       refine hX.part [] 6 [0, 5, 6, 61, 65, 66] (l' := [(0, .v (.string ⟨⟨src⟩⟩)), (5, .ptr 0 0), (6, .v (.slice A27 (x16 ++ [({ Kind := v26.1.Kind, Text := v26.1.Text, Num := v26.1.Num, At := (IntKind.wrap .i64 (((src.length : Nat) : Int) - ((v19.2.rest.length : Nat) : Int))), Fresh := v19.2.fresh } : T_api_Token)]).length c28)), (61, .ptr 0 0), (65, .v (.string ⟨⟨v19.2.rest⟩⟩)), (66, .v (.int .i64 v26.2))]) (B' := [some ⟨39, [.v (.string ⟨⟨v19.2.src⟩⟩), .v (.string ⟨⟨v19.2.rest⟩⟩), .v (.bool v19.2.fresh)]⟩, some ⟨25, [.v (.int .i64 v26.1.Kind), .v (.string ⟨⟨v26.1.Text⟩⟩), .v (.int .i64 v26.1.Num), .v (.int .i64 (IntKind.wrap .i64 (((src.length : Nat) : Int) - ((v19.2.rest.length : Nat) : Int)))), .v (.bool v19.2.fresh)]⟩, some ⟨25, [.v (.int .i64 v26.1.Kind), .v (.string ⟨⟨v26.1.Text⟩⟩), .v (.int .i64 v26.1.Num), .v (.int .i64 (IntKind.wrap .i64 (((src.length : Nat) : Int) - ((v19.2.rest.length : Nat) : Int)))), .v (.bool v19.2.fresh)]⟩]) (by kernel_rfl) fun ρ w a hX => ?_
       obtain ⟨v30, hv30, h1⟩ := bnd_some h1
       refine hX.cutStr (lit := []) (by kernel_rfl) (by kernel_rfl) rfl (s := v19.2.rest) (ol := some v26.2) (oh := none) (r := v30) (by kernel_rfl) (by kernel_rfl) (by kernel_rfl) (by kernel_rfl) hv30 fun a hX => ?_
       refine hX.part [] 3 [0, 5, 6] (l' := [(0, .v (.string ⟨⟨src⟩⟩)), (5, .ptr 0 0), (6, .v (.slice A27 (x16 ++ [({ Kind := v26.1.Kind, Text := v26.1.Text, Num := v26.1.Num, At := (IntKind.wrap .i64 (((src.length : Nat) : Int) - ((v19.2.rest.length : Nat) : Int))), Fresh := v19.2.fresh } : T_api_Token)]).length c28))]) (B' := [some ⟨39, [.v (.string ⟨⟨v19.2.src⟩⟩), .v (.string ⟨⟨v30⟩⟩), .v (.bool v19.2.fresh)]⟩, some ⟨25, [.v (.int .i64 v26.1.Kind), .v (.string ⟨⟨v26.1.Text⟩⟩), .v (.int .i64 v26.1.Num), .v (.int .i64 (IntKind.wrap .i64 (((src.length : Nat) : Int) - ((v19.2.rest.length : Nat) : Int)))), .v (.bool v19.2.fresh)]⟩, some ⟨25, [.v (.int .i64 v26.1.Kind), .v (.string ⟨⟨v26.1.Text⟩⟩), .v (.int .i64 v26.1.Num), .v (.int .i64 (IntKind.wrap .i64 (((src.length : Nat) : Int) - ((v19.2.rest.length : Nat) : Int)))), .v (.bool v19.2.fresh)]⟩]) (by kernel_rfl) fun ρ w a hX => ?_
       refine wpList_end ?_
       have hX := hX.keeps [0, 5, 6] (l' := [(0, .v (.string ⟨⟨src⟩⟩)), (5, .ptr 0 0), (6, .v (.slice A27 (x16 ++ [({ Kind := v26.1.Kind, Text := v26.1.Text, Num := v26.1.Num, At := (IntKind.wrap .i64 (((src.length : Nat) : Int) - ((v19.2.rest.length : Nat) : Int))), Fresh := v19.2.fresh } : T_api_Token)]).length c28))]) (by kernel_rfl)
       have hX := hX.shrink 1 (B' := [some ⟨39, [.v (.string ⟨⟨v19.2.src⟩⟩), .v (.string ⟨⟨v30⟩⟩), .v (.bool v19.2.fresh)]⟩]) (by kernel_rfl) (Nat.le_of_ble_eq_true rfl) (by kernel_rfl) (by kernel_rfl) (Nat.zero_le _)
       exact hb1 (v19.2.src, v30, v19.2.fresh, (x16 ++ [({ Kind := v26.1.Kind, Text := v26.1.Text, Num := v26.1.Num, At := (IntKind.wrap .i64 (((src.length : Nat) : Int) - ((v19.2.rest.length : Nat) : Int))), Fresh := v19.2.fresh } : T_api_Token)])) (out_eq h1) _ _ ⟨A27, c28, _, _, hX⟩
      have hGd := hG.mono hX.st.le
      refine hX.draw rfl (n := 9) rfl #[false, false, false, false, false, false, false, false, false] (by kernel_rfl) fun w D' hDk back hX => ?_
      refine hX.dq 0 rfl (lit := []) (by kernel_rfl) (listed' := #[true, false, false, false, false, false, false, false, false]) (by kernel_rfl) (by kernel_rfl) (s := .v (.int .i64 (IntKind.wrap .i64 (((src.length : Nat) : Int) - ((v19.2.rest.length : Nat) : Int))))) (by kernel_rfl) fun a hX => ?_
      refine hX.dq 1 rfl (lit := []) (by kernel_rfl) (listed' := #[true, true, false, false, false, false, false, false, false]) (by kernel_rfl) (by kernel_rfl) (s := .ptr 0 0) (by kernel_rfl) fun a hX => ?_
      refine hX.dq 2 rfl (lit := []) (by kernel_rfl) (listed' := #[true, true, true, false, false, false, false, false, false]) (by kernel_rfl) (by kernel_rfl) (s := .ptr 0 0) (by kernel_rfl) fun a hX => ?_
      refine hX.dq 3 rfl (lit := []) (by kernel_rfl) (listed' := #[true, true, true, true, false, false, false, false, false]) (by kernel_rfl) (by kernel_rfl) (s := .ptr 0 2) (by kernel_rfl) fun a hX => ?_
      refine hX.dq 5 rfl (lit := []) (by kernel_rfl) (listed' := #[true, true, true, true, false, true, false, false, false]) (by kernel_rfl) (by kernel_rfl) (s := .ptr 1 3) (by kernel_rfl) fun a hX => ?_
      refine dord (r := [4, 6]) (by kernel_rfl) (by decide) fun i hi => ?_
      simp only [List.mem_cons, List.not_mem_nil, or_false] at hi
      rcases hi with rfl | rfl
      ·refine dtry (listed' := #[true, true, true, true, true, true, false, false, false]) 4 rfl (by kernel_rfl) ?_
       refine hX.part [] 1 [0, 5, 6, 7, 8, 9, 49, 50, 51, 52, 53, 54, 55] (l' := [(0, .v (.string ⟨⟨src⟩⟩)), (5, .ptr 0 0), (6, .v (.slice A17 x16.length c18)), (7, .v (.int .i64 (IntKind.wrap .i64 (((src.length : Nat) : Int) - ((v19.2.rest.length : Nat) : Int))))), (8, .ptr 1 0), (9, .v (.int .i64 v26.2)), (49, .v (.bool (v26.2 == 0))), (50, .v (.int .i64 (IntKind.wrap .i64 (((src.length : Nat) : Int) - ((v19.2.rest.length : Nat) : Int))))), (51, .ptr 0 0), (52, .ptr 0 0), (53, .ptr 0 2), (54, .v (.bool v19.2.fresh)), (55, .ptr 1 3)]) (B' := [some ⟨39, [.v (.string ⟨⟨v19.2.src⟩⟩), .v (.string ⟨⟨v19.2.rest⟩⟩), .v (.bool v19.2.fresh)]⟩, some ⟨25, [.v (.int .i64 v26.1.Kind), .v (.string ⟨⟨v26.1.Text⟩⟩), .v (.int .i64 v26.1.Num), .v (.int .i64 v26.1.At), .v (.bool v26.1.Fresh)]⟩]) (by kernel_rfl) fun ρ w a hX => ?_
       refine dnext hX.st.sub0 ?_
       refine dseq (listed' := #[true, true, true, true, true, true, true, false, false]) 6 (by kernel_rfl) rfl (by kernel_rfl) ?_
       refine hX.part [] 1 [0, 5, 6, 7, 8, 9, 49, 50, 51, 52, 53, 54, 55] (l' := [(0, .v (.string ⟨⟨src⟩⟩)), (5, .ptr 0 0), (6, .v (.slice A17 x16.length c18)), (7, .v (.int .i64 (IntKind.wrap .i64 (((src.length : Nat) : Int) - ((v19.2.rest.length : Nat) : Int))))), (8, .ptr 1 0), (9, .v (.int .i64 v26.2)), (49, .v (.bool (v26.2 == 0))), (50, .v (.int .i64 (IntKind.wrap .i64 (((src.length : Nat) : Int) - ((v19.2.rest.length : Nat) : Int))))), (51, .ptr 0 0), (52, .ptr 0 0), (53, .ptr 0 2), (54, .v (.bool v19.2.fresh)), (55, .ptr 1 3)]) (B' := [some ⟨39, [.v (.string ⟨⟨v19.2.src⟩⟩), .v (.string ⟨⟨v19.2.rest⟩⟩), .v (.bool v19.2.fresh)]⟩, some ⟨25, [.v (.int .i64 v26.1.Kind), .v (.string ⟨⟨v26.1.Text⟩⟩), .v (.int .i64 v26.1.Num), .v (.int .i64 (IntKind.wrap .i64 (((src.length : Nat) : Int) - ((v19.2.rest.length : Nat) : Int)))), .v (.bool v26.1.Fresh)]⟩]) (by kernel_rfl) fun ρ w a hX => ?_
       refine dnext hX.st.sub0 ?_
       refine hX.dq 7 rfl (lit := []) (by kernel_rfl) (listed' := #[true, true, true, true, true, true, true, true, false]) (by kernel_rfl) (by kernel_rfl) (s := .ptr 1 4) (by kernel_rfl) fun a hX => ?_
       refine dseq (listed' := #[true, true, true, true, true, true, true, true, true]) 8 (by kernel_rfl) rfl (by kernel_rfl) ?_
       refine hX.part [] 1 [0, 5, 6, 7, 8, 9, 49, 50, 51, 52, 53, 54, 55, 56] (l' := [(0, .v (.string ⟨⟨src⟩⟩)), (5, .ptr 0 0), (6, .v (.slice A17 x16.length c18)), (7, .v (.int .i64 (IntKind.wrap .i64 (((src.length : Nat) : Int) - ((v19.2.rest.length : Nat) : Int))))), (8, .ptr 1 0), (9, .v (.int .i64 v26.2)), (49, .v (.bool (v26.2 == 0))), (50, .v (.int .i64 (IntKind.wrap .i64 (((src.length : Nat) : Int) - ((v19.2.rest.length : Nat) : Int))))), (51, .ptr 0 0), (52, .ptr 0 0), (53, .ptr 0 2), (54, .v (.bool v19.2.fresh)), (55, .ptr 1 3), (56, .ptr 1 4)]) (B' := [some ⟨39, [.v (.string ⟨⟨v19.2.src⟩⟩), .v (.string ⟨⟨v19.2.rest⟩⟩), .v (.bool v19.2.fresh)]⟩, some ⟨25, [.v (.int .i64 v26.1.Kind), .v (.string ⟨⟨v26.1.Text⟩⟩), .v (.int .i64 v26.1.Num), .v (.int .i64 (IntKind.wrap .i64 (((src.length : Nat) : Int) - ((v19.2.rest.length : Nat) : Int)))), .v (.bool v19.2.fresh)]⟩]) (by kernel_rfl) fun ρ w a hX => ?_
       refine dnext hX.st.sub0 ?_
       have hX := back hX
       refine ddone (by kernel_rfl) ?_
       have hX := hX.keeps [0, 5, 6, 8, 9] (l' := [(0, .v (.string ⟨⟨src⟩⟩)), (5, .ptr 0 0), (6, .v (.slice A17 x16.length c18)), (8, .ptr 1 0), (9, .v (.int .i64 v26.2))]) (by kernel_rfl)
       exact J30 () h1  _ _ _ _ hX
      ·refine dtry (listed' := #[true, true, true, true, false, true, true, false, false]) 6 rfl (by kernel_rfl) ?_
       refine hX.part [] 1 [0, 5, 6, 7, 8, 9, 49, 50, 51, 52, 53, 55] (l' := [(0, .v (.string ⟨⟨src⟩⟩)), (5, .ptr 0 0), (6, .v (.slice A17 x16.length c18)), (7, .v (.int .i64 (IntKind.wrap .i64 (((src.length : Nat) : Int) - ((v19.2.rest.length : Nat) : Int))))), (8, .ptr 1 0), (9, .v (.int .i64 v26.2)), (49, .v (.bool (v26.2 == 0))), (50, .v (.int .i64 (IntKind.wrap .i64 (((src.length : Nat) : Int) - ((v19.2.rest.length : Nat) : Int))))), (51, .ptr 0 0), (52, .ptr 0 0), (53, .ptr 0 2), (55, .ptr 1 3)]) (B' := [some ⟨39, [.v (.string ⟨⟨v19.2.src⟩⟩), .v (.string ⟨⟨v19.2.rest⟩⟩), .v (.bool v19.2.fresh)]⟩, some ⟨25, [.v (.int .i64 v26.1.Kind), .v (.string ⟨⟨v26.1.Text⟩⟩), .v (.int .i64 v26.1.Num), .v (.int .i64 (IntKind.wrap .i64 (((src.length : Nat) : Int) - ((v19.2.rest.length : Nat) : Int)))), .v (.bool v26.1.Fresh)]⟩]) (by kernel_rfl) fun ρ w a hX => ?_
       refine dnext hX.st.sub0 ?_
       refine dseq (listed' := #[true, true, true, true, true, true, true, false, false]) 4 (by kernel_rfl) rfl (by kernel_rfl) ?_
       refine hX.part [] 1 [0, 5, 6, 7, 8, 9, 49, 50, 51, 52, 53, 54, 55] (l' := [(0, .v (.string ⟨⟨src⟩⟩)), (5, .ptr 0 0), (6, .v (.slice A17 x16.length c18)), (7, .v (.int .i64 (IntKind.wrap .i64 (((src.length : Nat) : Int) - ((v19.2.rest.length : Nat) : Int))))), (8, .ptr 1 0), (9, .v (.int .i64 v26.2)), (49, .v (.bool (v26.2 == 0))), (50, .v (.int .i64 (IntKind.wrap .i64 (((src.length : Nat) : Int) - ((v19.2.rest.length : Nat) : Int))))), (51, .ptr 0 0), (52, .ptr 0 0), (53, .ptr 0 2), (54, .v (.bool v19.2.fresh)), (55, .ptr 1 3)]) (B' := [some ⟨39, [.v (.string ⟨⟨v19.2.src⟩⟩), .v (.string ⟨⟨v19.2.rest⟩⟩), .v (.bool v19.2.fresh)]⟩, some ⟨25, [.v (.int .i64 v26.1.Kind), .v (.string ⟨⟨v26.1.Text⟩⟩), .v (.int .i64 v26.1.Num), .v (.int .i64 (IntKind.wrap .i64 (((src.length : Nat) : Int) - ((v19.2.rest.length : Nat) : Int)))), .v (.bool v26.1.Fresh)]⟩]) (by kernel_rfl) fun ρ w a hX => ?_
       refine dnext hX.st.sub0 ?_
       refine hX.dq 7 rfl (lit := []) (by kernel_rfl) (listed' := #[true, true, true, true, true, true, true, true, false]) (by kernel_rfl) (by kernel_rfl) (s := .ptr 1 4) (by kernel_rfl) fun a hX => ?_
       refine dseq (listed' := #[true, true, true, true, true, true, true, true, true]) 8 (by kernel_rfl) rfl (by kernel_rfl) ?_
       refine hX.part [] 1 [0, 5, 6, 7, 8, 9, 49, 50, 51, 52, 53, 54, 55, 56] (l' := [(0, .v (.string ⟨⟨src⟩⟩)), (5, .ptr 0 0), (6, .v (.slice A17 x16.length c18)), (7, .v (.int .i64 (IntKind.wrap .i64 (((src.length : Nat) : Int) - ((v19.2.rest.length : Nat) : Int))))), (8, .ptr 1 0), (9, .v (.int .i64 v26.2)), (49, .v (.bool (v26.2 == 0))), (50, .v (.int .i64 (IntKind.wrap .i64 (((src.length : Nat) : Int) - ((v19.2.rest.length : Nat) : Int))))), (51, .ptr 0 0), (52, .ptr 0 0), (53, .ptr 0 2), (54, .v (.bool v19.2.fresh)), (55, .ptr 1 3), (56, .ptr 1 4)]) (B' := [some ⟨39, [.v (.string ⟨⟨v19.2.src⟩⟩), .v (.string ⟨⟨v19.2.rest⟩⟩), .v (.bool v19.2.fresh)]⟩, some ⟨25, [.v (.int .i64 v26.1.Kind), .v (.string ⟨⟨v26.1.Text⟩⟩), .v (.int .i64 v26.1.Num), .v (.int .i64 (IntKind.wrap .i64 (((src.length : Nat) : Int) - ((v19.2.rest.length : Nat) : Int)))), .v (.bool v19.2.fresh)]⟩]) (by kernel_rfl) fun ρ w a hX => ?_
       refine dnext hX.st.sub0 ?_
       have hX := back hX
       refine ddone (by kernel_rfl) ?_
       have hX := hX.keeps [0, 5, 6, 8, 9] (l' := [(0, .v (.string ⟨⟨src⟩⟩)), (5, .ptr 0 0), (6, .v (.slice A17 x16.length c18)), (8, .ptr 1 0), (9, .v (.int .i64 v26.2))]) (by kernel_rfl)
       exact J30 () h1  _ _ _ _ hX
   ·have h1 := ite_ff h1 hb
    refine wp_exit ?_
    have hX := hX.dropL 0 rfl rfl
    have hX := hX.keeps [0, 5] (l' := [(0, .v (.string ⟨⟨src⟩⟩)), (5, .ptr 0 0)]) (by kernel_rfl)
    exact E1x0 v19.2.src v19.2.rest v19.2.fresh (hx1 _ (out_eq h1)).symm  _ _ _ _ hX
  ·exact ⟨none, 0, _, _, hX⟩
def ref06_Same.l1 (a_ : List T_api_Token) (b_ : List T_api_Token) (x9 : Int) : Option ((Int) ⊕ ((Unit) ⊕ (Bool))) :=
  if (decide (x9 < ((a_.length : Nat) : Int))) = true then
    Option.bind (getI a_ x9) fun v10 =>
    Option.bind (getI b_ x9) fun v14 =>
    if (!((v10.Kind == v14.Kind) && ((v10.Text == v14.Text) && ((v10.Num == v14.Num) && ((v10.At == v14.At) && ((v10.Fresh == v14.Fresh) && true)))))) = true then
      some (.inr (.inr false))
    else
      some (.inl (IntKind.wrap .i64 (x9 + 1)))
  else
    some (.inr (.inl ()))
def ref06_Same (a_ : List T_api_Token) (b_ : List T_api_Token) : Option (Bool) :=
  if (((a_.length : Nat) : Int) != ((b_.length : Nat) : Int)) = true then
    some false
  else
    Option.bind (loopM (ref06_Same.l1 a_ b_) 0) fun e => match e with
    | (.inl ()) =>
      some true
    | (.inr r19) =>
      some r19
theorem ref06_Same.ok (a_ : List T_api_Token) (b_ : List T_api_Token) (y_a_ : (Option Addr × Nat)) (y_b_ : (Option Addr × Nat)) (r : Bool) (h0 : ref06_Same a_ b_ = some r) (w0 : World) (F0 : Heap) (hv : F0.Sub w0) (hG : Glob F0) (hg : SV.goods F0 [SV.sl kT_api_Token a_ y_a_.1 y_a_.2, SV.sl kT_api_Token b_ y_b_.1 y_b_.2]) (ρ : Nat → Nat) :
    Calls Tryz.prog 7 (SV.dens ρ [SV.sl kT_api_Token a_ y_a_.1 y_a_.2, SV.sl kT_api_Token b_ y_b_.1 y_b_.2]).toArray w0 (Ret0 w0 F0 fun s => s = .v (.bool r)) := by
 refine calls_of_wp Tryz.func7 rfl ?_
 have hX := Cx.enter (D := No) (B := []) (L := []) (ρ := ρ) (N := 26) Tryz.ntmps7 [SV.sl kT_api_Token a_ y_a_.1 y_a_.2, SV.sl kT_api_Token b_ y_b_.1 y_b_.2] (St.start hv) rfl hg (by kernel_rfl) (fun _ h => by cases h) (Nat.le_of_ble_eq_true rfl) No.unfix
 unfold ref06_Same at h0
 refine Cx.rseq hX [] [0, 1] (l' := [(0, SV.sl kT_api_Token a_ y_a_.1 y_a_.2), (1, SV.sl kT_api_Token b_ y_b_.1 y_b_.2)]) (B' := []) (by kernel_rfl) fun ρ w a hX => ?_
 refine wp_seq_k fun K2 hK2 => ?_
 refine Cx.rseq hX [] [0, 1, 10] (l' := [(0, SV.sl kT_api_Token a_ y_a_.1 y_a_.2), (1, SV.sl kT_api_Token b_ y_b_.1 y_b_.2), (10, .v (.bool (((a_.length : Nat) : Int) != ((b_.length : Nat) : Int))))]) (B' := []) (by kernel_rfl) fun ρ w a hX => ?_
 refine Cx.cond hX (b := (((a_.length : Nat) : Int) != ((b_.length : Nat) : Int))) (by kernel_rfl) (fun hb => ?_) (fun hb => ?_)
 ·have h0 := ite_tt h0 hb
  refine Cx.rseq hX [] [4] (l' := [(4, .v (.bool false))]) (B' := []) (by kernel_rfl) fun ρ w a hX => ?_
  refine wp_ret ?_
  have hr := Option.some.inj (show some _ = some _ from h0)
  subst hr
  exact hX.ret0 (ss := [.v (.bool false)]) (by kernel_rfl) (by kernel_rfl) rfl
 ·have h0 := ite_ff h0 hb
  refine wp_skip ?_
  refine hK2 _ _ ?_
  refine wp_seq_k fun K5 hK5 => ?_
  refine Cx.rseq hX [] [0, 1, 12, 13] (l' := [(0, SV.sl kT_api_Token a_ y_a_.1 y_a_.2), (1, SV.sl kT_api_Token b_ y_b_.1 y_b_.2), (12, .v (.int .i64 ((a_.length : Nat) : Int))), (13, .v (.int .i64 0))]) (B' := []) (by kernel_rfl) fun ρ w a hX => ?_
  refine wp_block ?_
  have hX := hX.keeps [0, 1, 12, 13] (l' := [(0, SV.sl kT_api_Token a_ y_a_.1 y_a_.2), (1, SV.sl kT_api_Token b_ y_b_.1 y_b_.2), (12, .v (.int .i64 ((a_.length : Nat) : Int))), (13, .v (.int .i64 0))]) (by kernel_rfl)
  obtain ⟨e1, he1, h0⟩ := bnd_some h0
  have E1x0 : ∀ (_ : Unit), e1 = (.inl ()) → ∀ (ρ : Nat → Nat) (w : World) (F : Heap) (a : Act), Cx 26 w0 F0 No w F [] [] ρ [] a → K5 a w := by
   intro _ he  ρ w F a hX
   replace he := he.symm
   subst he
   (try dsimp only at h0)
   refine hK5 _ _ ?_
   refine Cx.rseq hX [] [4] (l' := [(4, .v (.bool true))]) (B' := []) (by kernel_rfl) fun ρ w a hX => ?_
   refine wp_ret ?_
   have hr := Option.some.inj (show some _ = some _ from h0)
   subst hr
   exact hX.ret0 (ss := [.v (.bool true)]) (by kernel_rfl) (by kernel_rfl) rfl
  refine loop_go (fun (x9 : Int) a w => ∃ (ρ : Nat → Nat) (F : Heap), Cx 26 w0 F0 No w F [] [] ρ [(0, SV.sl kT_api_Token a_ y_a_.1 y_a_.2), (1, SV.sl kT_api_Token b_ y_b_.1 y_b_.2), (12, .v (.int .i64 ((a_.length : Nat) : Int))), (13, .v (.int .i64 x9))] a) he1 (fun LW1 x9 o1 h1 hb1 hx1 a w hI => ?_) _ _ ?_
  ·obtain ⟨ρ, F, hX⟩ := hI
   unfold ref06_Same.l1 at h1
   (try dsimp only at h1)
   refine Cx.rseq hX [] [0, 1, 12, 13, 14] (l' := [(0, SV.sl kT_api_Token a_ y_a_.1 y_a_.2), (1, SV.sl kT_api_Token b_ y_b_.1 y_b_.2), (12, .v (.int .i64 ((a_.length : Nat) : Int))), (13, .v (.int .i64 x9)), (14, .v (.bool (decide (x9 < ((a_.length : Nat) : Int)))))]) (B' := []) (by kernel_rfl) fun ρ w a hX => ?_
   refine wp_seq_k fun K14 hK14 => ?_
   refine Cx.cond hX (b := (decide (x9 < ((a_.length : Nat) : Int)))) (by kernel_rfl) (fun hb => ?_) (fun hb => ?_)
   ·have h1 := ite_tt h1 hb
    refine wp_skip ?_
    refine hK14 _ _ ?_
    refine wp_seq_k fun K15 hK15 => ?_
    refine wp_block ?_
    refine Cx.rseq hX [] [0, 1, 5, 12, 13] (l' := [(0, SV.sl kT_api_Token a_ y_a_.1 y_a_.2), (1, SV.sl kT_api_Token b_ y_b_.1 y_b_.2), (5, .v (.int .i64 x9)), (12, .v (.int .i64 ((a_.length : Nat) : Int))), (13, .v (.int .i64 x9))]) (B' := []) (by kernel_rfl) fun ρ w a hX => ?_
    refine wp_seq_k fun K17 hK17 => ?_
    have hGd := hG.mono hX.st.le
    refine hX.draw rfl (n := 9) rfl #[false, false, false, false, false, false, false, false, false] (by kernel_rfl) fun w D' hDk back hX => ?_
    refine hX.dq 0 rfl (lit := []) (by kernel_rfl) (listed' := #[true, false, false, false, false, false, false, false, false]) (by kernel_rfl) (by kernel_rfl) (s := SV.sl kT_api_Token a_ y_a_.1 y_a_.2) (by kernel_rfl) fun a hX => ?_
    refine hX.dq 1 rfl (lit := []) (by kernel_rfl) (listed' := #[true, true, false, false, false, false, false, false, false]) (by kernel_rfl) (by kernel_rfl) (s := .v (.int .i64 x9)) (by kernel_rfl) fun a hX => ?_
    obtain ⟨v10, hv10, h1⟩ := bnd_some h1
    refine hX.dIdxSl 2 rfl (lit := []) (by kernel_rfl) (listed' := #[true, true, true, false, false, false, false, false, false]) (by kernel_rfl) (by kernel_rfl) rfl (d := kT_api_Token) (e := 25) (xs := a_) (A := y_a_.1) (c := y_a_.2) (k := .i64) (m := x9) (v := v10) (by kernel_rfl) (by kernel_rfl) (by kernel_rfl) (by kernel_rfl) hv10 fun y11 b12 o13 a hX => ?_
    refine hX.dq 3 rfl (lit := []) (by kernel_rfl) (listed' := #[true, true, true, true, false, false, false, false, false]) (by kernel_rfl) (by kernel_rfl) (s := .agg [.v (.int .i64 v10.Kind), .v (.string ⟨⟨v10.Text⟩⟩), .v (.int .i64 v10.Num), .v (.int .i64 v10.At), .v (.bool v10.Fresh)]) (by kernel_rfl) fun a hX => ?_
    refine hX.dq 4 rfl (lit := []) (by kernel_rfl) (listed' := #[true, true, true, true, true, false, false, false, false]) (by kernel_rfl) (by kernel_rfl) (s := SV.sl kT_api_Token b_ y_b_.1 y_b_.2) (by kernel_rfl) fun a hX => ?_
    refine hX.dq 5 rfl (lit := []) (by kernel_rfl) (listed' := #[true, true, true, true, true, true, false, false, false]) (by kernel_rfl) (by kernel_rfl) (s := .v (.int .i64 x9)) (by kernel_rfl) fun a hX => ?_
    obtain ⟨v14, hv14, h1⟩ := bnd_some h1
    refine hX.dIdxSl 6 rfl (lit := []) (by kernel_rfl) (listed' := #[true, true, true, true, true, true, true, false, false]) (by kernel_rfl) (by kernel_rfl) rfl (d := kT_api_Token) (e := 25) (xs := b_) (A := y_b_.1) (c := y_b_.2) (k := .i64) (m := x9) (v := v14) (by kernel_rfl) (by kernel_rfl) (by kernel_rfl) (by kernel_rfl) hv14 fun y15 b16 o17 a hX => ?_
    refine hX.dq 7 rfl (lit := []) (by kernel_rfl) (listed' := #[true, true, true, true, true, true, true, true, false]) (by kernel_rfl) (by kernel_rfl) (s := .agg [.v (.int .i64 v14.Kind), .v (.string ⟨⟨v14.Text⟩⟩), .v (.int .i64 v14.Num), .v (.int .i64 v14.At), .v (.bool v14.Fresh)]) (by kernel_rfl) fun a hX => ?_
    refine hX.dq 8 rfl (lit := []) (by kernel_rfl) (listed' := #[true, true, true, true, true, true, true, true, true]) (by kernel_rfl) (by kernel_rfl) (s := .v (.bool (!((v10.Kind == v14.Kind) && ((v10.Text == v14.Text) && ((v10.Num == v14.Num) && ((v10.At == v14.At) && ((v10.Fresh == v14.Fresh) && true)))))))) (by kernel_rfl) fun a hX => ?_
    have hX := back hX
    refine ddone (by kernel_rfl) ?_
    refine hK17 _ _ ?_
    refine Cx.cond hX (b := (!((v10.Kind == v14.Kind) && ((v10.Text == v14.Text) && ((v10.Num == v14.Num) && ((v10.At == v14.At) && ((v10.Fresh == v14.Fresh) && true))))))) (by kernel_rfl) (fun hb => ?_) (fun hb => ?_)
    ·have h1 := ite_tt h1 hb
     refine Cx.rseq hX [] [4] (l' := [(4, .v (.bool false))]) (B' := []) (by kernel_rfl) fun ρ w a hX => ?_
     refine wp_ret ?_
     have he := hx1 _ (out_eq h1)
     subst he
     (try dsimp only at h0)
     have hr := Option.some.inj (show some _ = some _ from h0)
     subst hr
     exact hX.ret0 (ss := [.v (.bool false)]) (by kernel_rfl) (by kernel_rfl) rfl
    ·have h1 := ite_ff h1 hb
     refine wp_skip ?_
     refine hK15 _ _ ?_
     refine Cx.region hX [] [0, 1, 12, 13] (l' := [(0, SV.sl kT_api_Token a_ y_a_.1 y_a_.2), (1, SV.sl kT_api_Token b_ y_b_.1 y_b_.2), (12, .v (.int .i64 ((a_.length : Nat) : Int))), (13, .v (.int .i64 (IntKind.wrap .i64 (x9 + 1))))]) (B' := []) (by kernel_rfl) fun ρ w a hX => ?_
     have hX := hX.keeps [0, 1, 12, 13] (l' := [(0, SV.sl kT_api_Token a_ y_a_.1 y_a_.2), (1, SV.sl kT_api_Token b_ y_b_.1 y_b_.2), (12, .v (.int .i64 ((a_.length : Nat) : Int))), (13, .v (.int .i64 (IntKind.wrap .i64 (x9 + 1))))]) (by kernel_rfl)
     exact hb1 (IntKind.wrap .i64 (x9 + 1)) (out_eq h1) _ _ ⟨_, _, hX⟩
   ·have h1 := ite_ff h1 hb
    refine wp_exit ?_
    have hX := hX.keeps [] (l' := []) (by kernel_rfl)
    exact E1x0 () (hx1 _ (out_eq h1)).symm  _ _ _ _ hX
  ·exact ⟨_, _, hX⟩
def token_IsIdent.j1 (x4 : Bool) : Option (Bool) :=
  some x4
def token_IsIdent (s_ : Str) : Option (Bool) :=
  if ((!(s_ == ([] : Str))) && (decide (((s_.length : Nat) : Int) ≤ 32))) = true then
    Option.bind (getB s_ 0) fun v1 =>
    Option.bind (token_letter v1) fun v2 =>
    if v2 = true then
      Option.bind (token_row s_) fun v3 =>
      token_IsIdent.j1 (v3 == ((s_.length : Nat) : Int))
    else
      token_IsIdent.j1 false
  else
    token_IsIdent.j1 false
theorem token_IsIdent.ok (s_ : Str) (r : Bool) (h0 : token_IsIdent s_ = some r) (w0 : World) (F0 : Heap) (hv : F0.Sub w0) (hG : Glob F0) (hg : SV.goods F0 [.v (.string ⟨⟨s_⟩⟩)]) (ρ : Nat → Nat) :
    Calls Tryz.prog 9 (SV.dens ρ [.v (.string ⟨⟨s_⟩⟩)]).toArray w0 (Ret0 w0 F0 fun s => s = .v (.bool r)) := by
 refine calls_of_wp Tryz.func9 rfl ?_
 have hX := Cx.enter (D := No) (B := []) (L := []) (ρ := ρ) (N := 22) Tryz.ntmps9 [.v (.string ⟨⟨s_⟩⟩)] (St.start hv) rfl hg (by kernel_rfl) (fun _ h => by cases h) (Nat.le_of_ble_eq_true rfl) No.unfix
 unfold token_IsIdent at h0
 refine Cx.rseq hX [] [0] (l' := [(0, .v (.string ⟨⟨s_⟩⟩))]) (B' := []) (by kernel_rfl) fun ρ w a hX => ?_
 refine wp_seq_k fun K2 hK2 => ?_
 have J2 : ∀ (x4 : Bool), token_IsIdent.j1 x4 = some r → ∀ (ρ : Nat → Nat) (w : World) (F : Heap) (a : Act), Cx 22 w0 F0 No w F [] [] ρ [(2, .v (.bool x4))] a → K2 a w := by
  intro x4 h0  ρ w F a hX
  unfold token_IsIdent.j1 at h0
  refine hK2 _ _ ?_
  refine wp_ret ?_
  have hr := Option.some.inj (show some _ = some _ from h0)
  subst hr
  exact hX.ret0 (ss := [.v (.bool x4)]) (by kernel_rfl) (by kernel_rfl) rfl
 refine wp_region_list ?_
 refine hX.part [] 8 [0, 10] (l' := [(0, .v (.string ⟨⟨s_⟩⟩)), (10, .v (.bool ((!(s_ == ([] : Str))) && (decide (((s_.length : Nat) : Int) ≤ 32)))))]) (B' := []) (by kernel_rfl) fun ρ w a hX => ?_
 refine ite_go h0 (fun hb h0 => ?_) (fun hb h0 => ?_)
 ·have hX := hX.relit 10 hb (by kernel_rfl)
  refine hX.part [7] 1 [0, 10, 11] (l' := [(0, .v (.string ⟨⟨s_⟩⟩)), (10, .v (.bool true)), (11, .v (.string ⟨⟨s_⟩⟩))]) (B' := []) (by kernel_rfl) fun ρ w a hX => ?_
  obtain ⟨v1, hv1, h0⟩ := bnd_some h0
  refine hX.idxStr (lit := [7]) (by kernel_rfl) (by kernel_rfl) rfl (s := s_) (k := .i64) (n := 0) (b := v1) (by kernel_rfl) (by kernel_rfl) (by kernel_rfl) hv1 fun a hX => ?_
  refine hX.part [7] 0 [0, 10, 12] (l' := [(0, .v (.string ⟨⟨s_⟩⟩)), (10, .v (.bool true)), (12, .v (.int .u8 v1))]) (B' := []) (by kernel_rfl) fun ρ w a hX => ?_
  obtain ⟨v2, hv2, h0⟩ := bnd_some h0
  refine Cx.call0 hX (lit := [7]) (by kernel_rfl) rfl (by kernel_rfl) ⟨⟨_, Tryz.func19, by kernel_rfl, rfl⟩⟩ (ss := [.v (.int .u8 v1)]) (by kernel_rfl) [.v (.int .u8 v1)] rfl (fun hg => hg) (fun hv hle hg => token_letter.ok v1 v2 hv2 _ _ hv (hG.mono hle) hg _) (fun s F w a hp hX => ?_)
  subst hp
  refine hX.part [] 2 [0, 15] (l' := [(0, .v (.string ⟨⟨s_⟩⟩)), (15, .v (.bool v2))]) (B' := []) (by kernel_rfl) fun ρ w a hX => ?_
  refine ite_go h0 (fun hb h0 => ?_) (fun hb h0 => ?_)
  ·have hX := hX.relit 15 hb (by kernel_rfl)
   refine hX.part [12] 1 [0, 15, 16] (l' := [(0, .v (.string ⟨⟨s_⟩⟩)), (15, .v (.bool true)), (16, .v (.string ⟨⟨s_⟩⟩))]) (B' := []) (by kernel_rfl) fun ρ w a hX => ?_
   obtain ⟨v3, hv3, h0⟩ := bnd_some h0
   refine Cx.call0 hX (lit := [12]) (by kernel_rfl) rfl (by kernel_rfl) ⟨⟨_, Tryz.func20, by kernel_rfl, rfl⟩⟩ (ss := [.v (.string ⟨⟨s_⟩⟩)]) (by kernel_rfl) [.v (.string ⟨⟨s_⟩⟩)] rfl (fun hg => hg) (fun hv hle hg => token_row.ok s_ v3 hv3 _ _ hv (hG.mono hle) hg _) (fun s F w a hp hX => ?_)
   subst hp
   refine hX.part [12] 5 [2] (l' := [(2, .v (.bool (v3 == ((s_.length : Nat) : Int))))]) (B' := []) (by kernel_rfl) fun ρ w a hX => ?_
   refine wpList_end ?_
   have hX := hX.keeps [2] (l' := [(2, .v (.bool (v3 == ((s_.length : Nat) : Int))))]) (by kernel_rfl)
   exact J2 (v3 == ((s_.length : Nat) : Int)) h0  _ _ _ _ hX
  ·have hX := hX.relit 15 hb (by kernel_rfl)
   refine hX.part [12] 7 [2] (l' := [(2, .v (.bool false))]) (B' := []) (by kernel_rfl) fun ρ w a hX => ?_
   refine wpList_end ?_
   have hX := hX.keeps [2] (l' := [(2, .v (.bool false))]) (by kernel_rfl)
   exact J2 false h0  _ _ _ _ hX
 ·have hX := hX.relit 10 hb (by kernel_rfl)
  refine hX.part [7, 12] 12 [2] (l' := [(2, .v (.bool false))]) (B' := []) (by kernel_rfl) fun ρ w a hX => ?_
  refine wpList_end ?_
  have hX := hX.keeps [2] (l' := [(2, .v (.bool false))]) (by kernel_rfl)
  exact J2 false h0  _ _ _ _ hX
def law06_live.j1 (x12 : Bool) : Option (Bool) :=
  some x12
def law06_live : Option (Bool) :=
  Option.bind (token_Cut ([97, 32, 47, 47, 32, 120, 10, 43, 61, 32, 48, 120, 49, 70] : Str)) fun v1 =>
  Option.bind (token_Cut ([97, 32, 38, 32, 98] : Str)) fun v4 =>
  Option.bind (ref06_Same v1.1 ([({ Kind := 1, Text := ([97] : Str), Num := 0, At := 0, Fresh := false } : T_api_Token), ({ Kind := 5, Text := ([43, 61] : Str), Num := 0, At := 7, Fresh := true } : T_api_Token), ({ Kind := 3, Text := ([] : Str), Num := 31, At := 10, Fresh := false } : T_api_Token), ({ Kind := 0, Text := ([] : Str), Num := 0, At := 14, Fresh := false } : T_api_Token)] : List T_api_Token)) fun v8 =>
  if (((v8 && (v1.2.2 == 0)) && (v4.2.1 == 2)) && (v4.2.2 == 60)) = true then
    Option.bind (token_IsWord ([119, 104, 105, 108, 101] : Str)) fun v9 =>
    if v9 = true then
      Option.bind (token_IsWord ([97] : Str)) fun v10 =>
      if (!v10) = true then
        Option.bind (token_IsIdent ([119, 104, 105, 108, 101] : Str)) fun v11 =>
        law06_live.j1 v11
      else
        law06_live.j1 false
    else
      law06_live.j1 false
  else
    law06_live.j1 false
theorem law06_live.ok (r : Bool) (h0 : law06_live = some r) (w0 : World) (F0 : Heap) (hv : F0.Sub w0) (hG : Glob F0) (hg : SV.goods F0 []) (ρ : Nat → Nat) :
    Calls Tryz.prog 4 (SV.dens ρ []).toArray w0 (Ret0 w0 F0 fun s => s = .v (.bool r)) := by
 refine calls_of_wp Tryz.func4 rfl ?_
 have hX := Cx.enter (D := No) (B := []) (L := []) (ρ := ρ) (N := 46) Tryz.ntmps4 [] (St.start hv) rfl hg (by kernel_rfl) (fun _ h => by cases h) (Nat.le_of_ble_eq_true rfl) No.unfix
 unfold law06_live at h0
 refine Cx.rseq hX [] [] (l' := []) (B' := []) (by kernel_rfl) fun ρ w a hX => ?_
 refine wp_seq_k fun K2 hK2 => ?_
 refine wp_region_list ?_
 refine hX.part [] 0 [] (l' := []) (B' := []) (by kernel_rfl) fun ρ w a hX => ?_
 obtain ⟨v1, hv1, h0⟩ := bnd_some h0
 refine Cx.call0 hX (lit := []) (by kernel_rfl) rfl (by kernel_rfl) ⟨⟨_, Tryz.func6, by kernel_rfl, rfl⟩⟩ (ss := [.v (.string ⟨⟨([97, 32, 47, 47, 32, 120, 10, 43, 61, 32, 48, 120, 49, 70] : Str)⟩⟩)]) (by kernel_rfl) [.v (.string ⟨⟨([97, 32, 47, 47, 32, 120, 10, 43, 61, 32, 48, 120, 49, 70] : Str)⟩⟩)] rfl (fun hg => hg) (fun hv hle hg => token_Cut.ok ([97, 32, 47, 47, 32, 120, 10, 43, 61, 32, 48, 120, 49, 70] : Str) v1 hv1 _ _ hv (hG.mono hle) hg _) (fun s F w a hp hX => ?_)
 obtain ⟨_, _, _, rfl, ⟨A2, c3, rfl⟩, rfl, rfl⟩ := hp
 refine hX.part [] 7 [1, 3] (l' := [(1, SV.sl kT_api_Token v1.1 A2 c3), (3, .v (.int .i64 v1.2.2))]) (B' := []) (by kernel_rfl) fun ρ w a hX => ?_
 refine wpList_end ?_
 refine hK2 _ _ ?_
 refine wp_seq_k fun K3 hK3 => ?_
 refine wp_region_list ?_
 refine hX.part [] 0 [1, 3] (l' := [(1, SV.sl kT_api_Token v1.1 A2 c3), (3, .v (.int .i64 v1.2.2))]) (B' := []) (by kernel_rfl) fun ρ w a hX => ?_
 obtain ⟨v4, hv4, h0⟩ := bnd_some h0
 refine Cx.call0 hX (lit := []) (by kernel_rfl) rfl (by kernel_rfl) ⟨⟨_, Tryz.func6, by kernel_rfl, rfl⟩⟩ (ss := [.v (.string ⟨⟨([97, 32, 38, 32, 98] : Str)⟩⟩)]) (by kernel_rfl) [.v (.string ⟨⟨([97, 32, 38, 32, 98] : Str)⟩⟩)] rfl (fun hg => hg) (fun hv hle hg => token_Cut.ok ([97, 32, 38, 32, 98] : Str) v4 hv4 _ _ hv (hG.mono hle) hg _) (fun s F w a hp hX => ?_)
 obtain ⟨_, _, _, rfl, ⟨A5, c6, rfl⟩, rfl, rfl⟩ := hp
 refine hX.part [] 7 [1, 3, 5, 6] (l' := [(1, SV.sl kT_api_Token v1.1 A2 c3), (3, .v (.int .i64 v1.2.2)), (5, .v (.int .i64 v4.2.1)), (6, .v (.int .i64 v4.2.2))]) (B' := []) (by kernel_rfl) fun ρ w a hX => ?_
 refine wpList_end ?_
 refine hK3 _ _ ?_
 refine wp_seq_k fun K4 hK4 => ?_
 have J4 : ∀ (x12 : Bool), law06_live.j1 x12 = some r → ∀ (ρ : Nat → Nat) (w : World) (F : Heap) (a : Act), Cx 46 w0 F0 No w F [] [] ρ [(0, .v (.bool x12))] a → K4 a w := by
  intro x12 h0  ρ w F a hX
  unfold law06_live.j1 at h0
  refine hK4 _ _ ?_
  refine wp_ret ?_
  have hr := Option.some.inj (show some _ = some _ from h0)
  subst hr
  exact hX.ret0 (ss := [.v (.bool x12)]) (by kernel_rfl) (by kernel_rfl) rfl
 refine wp_region_list ?_
 refine hX.part [] 6 [3, 5, 6, 17, 22] (l' := [(3, .v (.int .i64 v1.2.2)), (5, .v (.int .i64 v4.2.1)), (6, .v (.int .i64 v4.2.2)), (17, SV.sl kT_api_Token v1.1 A2 c3), (22, .slc 0 0 4 4)]) (B' := [some ⟨25, [.v (.int .i64 1), .v (.string ⟨⟨([97] : Str)⟩⟩), .v (.int .i64 0), .v (.int .i64 0), .v (.bool false), .v (.int .i64 5), .v (.string ⟨⟨([43, 61] : Str)⟩⟩), .v (.int .i64 0), .v (.int .i64 7), .v (.bool true), .v (.int .i64 3), .v (.string ⟨⟨([] : Str)⟩⟩), .v (.int .i64 31), .v (.int .i64 10), .v (.bool false), .v (.int .i64 0), .v (.string ⟨⟨([] : Str)⟩⟩), .v (.int .i64 0), .v (.int .i64 14), .v (.bool false)]⟩]) (by kernel_rfl) fun ρ w a hX => ?_
 obtain ⟨v8, hv8, h0⟩ := bnd_some h0
 obtain ⟨b7, hb, hX⟩ := hX.boxAcc2 (d := kT_api_Token) (e := 25) (k := 0) (t := 22) (m := 4) ([(({ Kind := 1, Text := ([97] : Str), Num := 0, At := 0, Fresh := false } : T_api_Token), ()), (({ Kind := 5, Text := ([43, 61] : Str), Num := 0, At := 7, Fresh := true } : T_api_Token), ()), (({ Kind := 3, Text := ([] : Str), Num := 31, At := 10, Fresh := false } : T_api_Token), ()), (({ Kind := 0, Text := ([] : Str), Num := 0, At := 14, Fresh := false } : T_api_Token), ())] : List (T_api_Token × (kT_api_Token).Y)) (by kernel_rfl) (by kernel_rfl) rfl rfl (by decide) ⟨_, rfl⟩
 have hX : Cx 46 _ _ _ _ _ [accP 25 kT_api_Token (some ⟨b7, 0, none⟩) 4 ([({ Kind := 1, Text := ([97] : Str), Num := 0, At := 0, Fresh := false } : T_api_Token), ({ Kind := 5, Text := ([43, 61] : Str), Num := 0, At := 7, Fresh := true } : T_api_Token), ({ Kind := 3, Text := ([] : Str), Num := 31, At := 10, Fresh := false } : T_api_Token), ({ Kind := 0, Text := ([] : Str), Num := 0, At := 14, Fresh := false } : T_api_Token)] : List T_api_Token)] [none] ρ _ a := hX
 obtain ⟨F, hX⟩ := hX.freeze (i := 0) (t := 22) (e := 25) (d := kT_api_Token) (A := (some ⟨b7, 0, none⟩)) (c := 4) (xs := ([({ Kind := 1, Text := ([97] : Str), Num := 0, At := 0, Fresh := false } : T_api_Token), ({ Kind := 5, Text := ([43, 61] : Str), Num := 0, At := 7, Fresh := true } : T_api_Token), ({ Kind := 3, Text := ([] : Str), Num := 31, At := 10, Fresh := false } : T_api_Token), ({ Kind := 0, Text := ([] : Str), Num := 0, At := 14, Fresh := false } : T_api_Token)] : List T_api_Token)) rfl (by kernel_rfl)
 have hX : Cx 46 _ _ _ _ _ [] [none] ρ _ a := hX
 refine Cx.call0 hX (lit := []) (by kernel_rfl) rfl (by kernel_rfl) ⟨⟨_, Tryz.func7, by kernel_rfl, rfl⟩⟩ (ss := [SV.sl kT_api_Token v1.1 A2 c3, SV.sl kT_api_Token ([({ Kind := 1, Text := ([97] : Str), Num := 0, At := 0, Fresh := false } : T_api_Token), ({ Kind := 5, Text := ([43, 61] : Str), Num := 0, At := 7, Fresh := true } : T_api_Token), ({ Kind := 3, Text := ([] : Str), Num := 31, At := 10, Fresh := false } : T_api_Token), ({ Kind := 0, Text := ([] : Str), Num := 0, At := 14, Fresh := false } : T_api_Token)] : List T_api_Token) (some ⟨b7, 0, none⟩) 4]) (by kernel_rfl) [SV.sl kT_api_Token v1.1 A2 c3, SV.sl kT_api_Token ([({ Kind := 1, Text := ([97] : Str), Num := 0, At := 0, Fresh := false } : T_api_Token), ({ Kind := 5, Text := ([43, 61] : Str), Num := 0, At := 7, Fresh := true } : T_api_Token), ({ Kind := 3, Text := ([] : Str), Num := 31, At := 10, Fresh := false } : T_api_Token), ({ Kind := 0, Text := ([] : Str), Num := 0, At := 14, Fresh := false } : T_api_Token)] : List T_api_Token) (some ⟨b7, 0, none⟩) 4] rfl (fun hg => hg) (fun hv hle hg => ref06_Same.ok v1.1 ([({ Kind := 1, Text := ([97] : Str), Num := 0, At := 0, Fresh := false } : T_api_Token), ({ Kind := 5, Text := ([43, 61] : Str), Num := 0, At := 7, Fresh := true } : T_api_Token), ({ Kind := 3, Text := ([] : Str), Num := 31, At := 10, Fresh := false } : T_api_Token), ({ Kind := 0, Text := ([] : Str), Num := 0, At := 14, Fresh := false } : T_api_Token)] : List T_api_Token) (A2, c3) ((some ⟨b7, 0, none⟩), 4) v8 hv8 _ _ hv (hG.mono hle) hg _) (fun s F w a hp hX => ?_)
 subst hp
 refine hX.part [] 13 [36] (l' := [(36, .v (.bool (((v8 && (v1.2.2 == 0)) && (v4.2.1 == 2)) && (v4.2.2 == 60))))]) (B' := [none]) (by kernel_rfl) fun ρ w a hX => ?_
 refine ite_go h0 (fun hb h0 => ?_) (fun hb h0 => ?_)
 ·have hX := hX.relit 36 hb (by kernel_rfl)
  refine hX.part [19] 0 [36] (l' := [(36, .v (.bool true))]) (B' := [none]) (by kernel_rfl) fun ρ w a hX => ?_
  obtain ⟨v9, hv9, h0⟩ := bnd_some h0
  refine Cx.call0 hX (lit := [19]) (by kernel_rfl) rfl (by kernel_rfl) ⟨⟨_, Tryz.func8, by kernel_rfl, rfl⟩⟩ (ss := [.v (.string ⟨⟨([119, 104, 105, 108, 101] : Str)⟩⟩)]) (by kernel_rfl) [.v (.string ⟨⟨([119, 104, 105, 108, 101] : Str)⟩⟩)] rfl (fun hg => hg) (fun hv hle hg => token_IsWord.ok ([119, 104, 105, 108, 101] : Str) v9 hv9 _ _ hv (hG.mono hle) hg _) (fun s F w a hp hX => ?_)
  subst hp
  refine hX.part [] 2 [39] (l' := [(39, .v (.bool v9))]) (B' := [none]) (by kernel_rfl) fun ρ w a hX => ?_
  refine ite_go h0 (fun hb h0 => ?_) (fun hb h0 => ?_)
  ·have hX := hX.relit 39 hb (by kernel_rfl)
   refine hX.part [22] 0 [39] (l' := [(39, .v (.bool true))]) (B' := [none]) (by kernel_rfl) fun ρ w a hX => ?_
   obtain ⟨v10, hv10, h0⟩ := bnd_some h0
   refine Cx.call0 hX (lit := [22]) (by kernel_rfl) rfl (by kernel_rfl) ⟨⟨_, Tryz.func8, by kernel_rfl, rfl⟩⟩ (ss := [.v (.string ⟨⟨([97] : Str)⟩⟩)]) (by kernel_rfl) [.v (.string ⟨⟨([97] : Str)⟩⟩)] rfl (fun hg => hg) (fun hv hle hg => token_IsWord.ok ([97] : Str) v10 hv10 _ _ hv (hG.mono hle) hg _) (fun s F w a hp hX => ?_)
   subst hp
   refine hX.part [22] 3 [43] (l' := [(43, .v (.bool (!v10)))]) (B' := [none]) (by kernel_rfl) fun ρ w a hX => ?_
   refine ite_go h0 (fun hb h0 => ?_) (fun hb h0 => ?_)
   ·have hX := hX.relit 43 hb (by kernel_rfl)
    refine hX.part [26] 0 [43] (l' := [(43, .v (.bool true))]) (B' := [none]) (by kernel_rfl) fun ρ w a hX => ?_
    obtain ⟨v11, hv11, h0⟩ := bnd_some h0
    refine Cx.call0 hX (lit := [26]) (by kernel_rfl) rfl (by kernel_rfl) ⟨⟨_, Tryz.func9, by kernel_rfl, rfl⟩⟩ (ss := [.v (.string ⟨⟨([119, 104, 105, 108, 101] : Str)⟩⟩)]) (by kernel_rfl) [.v (.string ⟨⟨([119, 104, 105, 108, 101] : Str)⟩⟩)] rfl (fun hg => hg) (fun hv hle hg => token_IsIdent.ok ([119, 104, 105, 108, 101] : Str) v11 hv11 _ _ hv (hG.mono hle) hg _) (fun s F w a hp hX => ?_)
    subst hp
    refine hX.part [] 2 [0] (l' := [(0, .v (.bool v11))]) (B' := [none]) (by kernel_rfl) fun ρ w a hX => ?_
    refine wpList_end ?_
    have hX := hX.keeps [0] (l' := [(0, .v (.bool v11))]) (by kernel_rfl)
    have hX := hX.shrink 0 (B' := []) (by kernel_rfl) (Nat.le_of_ble_eq_true rfl) (by kernel_rfl) (by kernel_rfl) (Nat.zero_le _)
    exact J4 v11 h0  _ _ _ _ hX
   ·have hX := hX.relit 43 hb (by kernel_rfl)
    refine hX.part [26] 3 [0] (l' := [(0, .v (.bool false))]) (B' := [none]) (by kernel_rfl) fun ρ w a hX => ?_
    refine wpList_end ?_
    have hX := hX.keeps [0] (l' := [(0, .v (.bool false))]) (by kernel_rfl)
    have hX := hX.shrink 0 (B' := []) (by kernel_rfl) (Nat.le_of_ble_eq_true rfl) (by kernel_rfl) (by kernel_rfl) (Nat.zero_le _)
    exact J4 false h0  _ _ _ _ hX
  ·have hX := hX.relit 39 hb (by kernel_rfl)
   refine hX.part [22, 26] 7 [0] (l' := [(0, .v (.bool false))]) (B' := [none]) (by kernel_rfl) fun ρ w a hX => ?_
   refine wpList_end ?_
   have hX := hX.keeps [0] (l' := [(0, .v (.bool false))]) (by kernel_rfl)
   have hX := hX.shrink 0 (B' := []) (by kernel_rfl) (Nat.le_of_ble_eq_true rfl) (by kernel_rfl) (by kernel_rfl) (Nat.zero_le _)
   exact J4 false h0  _ _ _ _ hX
 ·have hX := hX.relit 36 hb (by kernel_rfl)
  refine hX.part [19, 22, 26] 10 [0] (l' := [(0, .v (.bool false))]) (B' := [none]) (by kernel_rfl) fun ρ w a hX => ?_
  refine wpList_end ?_
  have hX := hX.keeps [0] (l' := [(0, .v (.bool false))]) (by kernel_rfl)
  have hX := hX.shrink 0 (B' := []) (by kernel_rfl) (Nat.le_of_ble_eq_true rfl) (by kernel_rfl) (by kernel_rfl) (Nat.zero_le _)
  exact J4 false h0  _ _ _ _ hX
end
end Go.Gw
