/- Texts for the statements of this seat. -/
import Derived.Test.YtnggnpppaaiflaaDoorG01x1
import Derived.Test.YtnggnpppaaiflaaDoorGwQ
import Derived.Test.YtnggnpppaaiflaaDoorShelf01
import Derived.Shelf.Strings.SlTrimAscii
import Derived.Test.YtnggnpppaaiflaaDoorProg
import Derived.KernelRfl
set_option linter.unusedVariables false
set_option linter.unusedSimpArgs false
set_option linter.unnecessarySimpa false
namespace Go.Gw
open Go.Proofs Go.RowKit
set_option maxRecDepth 100000
set_option linter.unusedVariables false
set_option linter.unusedSimpArgs false
noncomputable section
def ref01_Read.l1 (s_ : Str) (s : Int × (List Int)) : Option ((Int × (List Int)) ⊕ ((Unit) ⊕ (Str × Int × Int))) := match s with
  | (x16, x17) =>
  if (decide (x16 < ((s_.length : Nat) : Int))) = true then
    Option.bind (getB s_ x16) fun v20 =>
    Option.bind (getB s_ 0) fun v21 =>
    if (v20 == v21) = true then
      Option.bind (ref01_Make x17) fun v22 =>
      some (.inr (.inr (v22, (IntKind.wrap .i64 (x16 + 1)), 0)))
    else
      if (((v20 == 10) || (v20 == 13)) || (decide (v20 > 127))) = true then
        some (.inr (.inr (([] : Str), 0, 10)))
      else
        if (v20 == 92) = true then
          Option.bind (ref01_escaped s_ (IntKind.wrap .i64 (x16 + 1))) fun v23 =>
          if (decide (v23.2 < 0)) = true then
            some (.inr (.inr (([] : Str), 0, 10)))
          else
            Option.bind (room (x17.length + v23.1.length)) fun u28 =>
            some (.inl ((IntKind.wrap .i64 (x16 + (IntKind.wrap .i64 (1 + v23.2)))), (x17 ++ v23.1)))
        else
          Option.bind (room (x17.length + 1)) fun u31 =>
          some (.inl ((IntKind.wrap .i64 (x16 + 1)), (x17 ++ [(IntKind.wrap .i64 v20)])))
  else
    some (.inr (.inl ()))
def ref01_Read.j1 (s_ : Str) (x3 : Bool) : Option (Str × Int × Int) :=
  if x3 = true then
    some (([] : Str), 0, 10)
  else
    Option.bind (loopM (ref01_Read.l1 s_) (1, ([] : List Int))) fun e => match e with
    | (.inl ()) =>
      some (([] : Str), 0, 10)
    | (.inr r36) =>
      some r36
def ref01_Read (s_ : Str) : Option (Str × Int × Int) :=
  if (s_ == ([] : Str)) = true then
    ref01_Read.j1 s_ true
  else
    Option.bind (getB s_ 0) fun v1 =>
    if (v1 != 39) = true then
      Option.bind (getB s_ 0) fun v2 =>
      ref01_Read.j1 s_ (v2 != 34)
    else
      ref01_Read.j1 s_ false
theorem ref01_Read.ok (s_ : Str) (r : Str × Int × Int) (h0 : ref01_Read s_ = some r) (w0 : World) (F0 : Heap) (hv : F0.Sub w0) (hG : Glob F0) (hg : SV.goods F0 [.v (.string ⟨⟨s_⟩⟩)]) (ρ : Nat → Nat) :
    Calls Tryd.prog 20 (SV.dens ρ [.v (.string ⟨⟨s_⟩⟩)]).toArray w0 (Ret0 w0 F0 fun s => ∃ s1 s2 s3, s = .tup [s1, s2, s3] ∧ (s1 = .v (.string ⟨⟨r.1⟩⟩)) ∧ (s2 = .v (.int .i64 r.2.1)) ∧ (s3 = .v (.int .i64 r.2.2))) := by
  refine calls_of_wp Tryd.func20 rfl ?_
  have hX := Cx.enter (D := No) (B := []) (L := []) (ρ := ρ) (N := 75) Tryd.ntmps20 [.v (.string ⟨⟨s_⟩⟩)] (St.start hv) rfl hg (by kernel_rfl) (fun _ h => by cases h) (Nat.le_of_ble_eq_true rfl) No.unfix
  unfold ref01_Read at h0
  refine Cx.rseq hX [] [0] (l' := [(0, .v (.string ⟨⟨s_⟩⟩))]) (B' := []) (by kernel_rfl) fun ρ w a hX => ?_
  refine wp_seq_k fun K2 hK2 => ?_
  refine wp_seq_k fun K3 hK3 => ?_
  have J3 : ∀ (x3 : Bool), ref01_Read.j1 s_ x3 = some r → ∀ (ρ : Nat → Nat) (w : World) (F : Heap) (a : Act), Cx 75 w0 F0 No w F [] [] ρ [(0, .v (.string ⟨⟨s_⟩⟩)), (21, .v (.bool x3))] a → K3 a w := by
    intro x3 h0  ρ w F a hX
    unfold ref01_Read.j1 at h0
    refine hK3 _ _ ?_
    refine Cx.cond hX (b := x3) (by kernel_rfl) (fun hb => ?_) (fun hb => ?_)
    · have h0 := ite_tt h0 hb
      refine Cx.rseq hX [] [2, 3, 4] (l' := [(2, .v (.string ⟨⟨([] : Str)⟩⟩)), (3, .v (.int .i64 0)), (4, .v (.int .i64 10))]) (B' := []) (by kernel_rfl) fun ρ w a hX => ?_
      refine wp_ret ?_
      have hr := Option.some.inj (show some _ = some _ from h0)
      subst hr
      exact hX.ret0 (ss := [.v (.string ⟨⟨([] : Str)⟩⟩), .v (.int .i64 0), .v (.int .i64 10)]) (by kernel_rfl) (by kernel_rfl) ⟨_, _, _, rfl, rfl, rfl, rfl⟩
    · have h0 := ite_ff h0 hb
      refine wp_skip ?_
      refine hK2 _ _ ?_
      refine Cx.rseq hX [] [0, 5] (l' := [(0, .v (.string ⟨⟨s_⟩⟩)), (5, .v (.slice none 0 0))]) (B' := []) (by kernel_rfl) fun ρ w a hX => ?_
      refine wp_seq_k fun K6 hK6 => ?_
      refine Cx.rseq hX [] [0, 5, 6] (l' := [(0, .v (.string ⟨⟨s_⟩⟩)), (5, .v (.slice none 0 0)), (6, .v (.int .i64 1))]) (B' := []) (by kernel_rfl) fun ρ w a hX => ?_
      refine wp_block ?_
      have hX := hX.newAcc 3 (kInt .i64)
      have hX := hX.keeps [0, 5, 6] (l' := [(0, .v (.string ⟨⟨s_⟩⟩)), (5, .v (.slice none ([] : List Int).length 0)), (6, .v (.int .i64 1))]) (by kernel_rfl)
      obtain ⟨e1, he1, h0⟩ := bnd_some h0
      have E1x0 : ∀ (_ : Unit), e1 = (.inl ()) → ∀ (ρ : Nat → Nat) (w : World) (F : Heap) (a : Act), Cx 75 w0 F0 No w F [] [] ρ [] a → K6 a w := by
        intro _ he  ρ w F a hX
        replace he := he.symm
        subst he
        (try dsimp only at h0)
        refine hK6 _ _ ?_
        refine Cx.rseq hX [] [2, 3, 4] (l' := [(2, .v (.string ⟨⟨([] : Str)⟩⟩)), (3, .v (.int .i64 0)), (4, .v (.int .i64 10))]) (B' := []) (by kernel_rfl) fun ρ w a hX => ?_
        refine wp_ret ?_
        have hr := Option.some.inj (show some _ = some _ from h0)
        subst hr
        exact hX.ret0 (ss := [.v (.string ⟨⟨([] : Str)⟩⟩), .v (.int .i64 0), .v (.int .i64 10)]) (by kernel_rfl) (by kernel_rfl) ⟨_, _, _, rfl, rfl, rfl, rfl⟩
      refine loop_go (fun (s : Int × (List Int)) a w => match s with | (x16, x17) => ∃ (A18 : Option Addr) (c19 : Nat) (ρ : Nat → Nat) (F : Heap), Cx 75 w0 F0 No w F [accP 3 (kInt .i64) A18 c19 x17] [] ρ [(0, .v (.string ⟨⟨s_⟩⟩)), (5, .v (.slice A18 x17.length c19)), (6, .v (.int .i64 x16))] a) he1 (fun LW1 s o1 h1 hb1 hx1 a w hI => ?_) _ _ ?_
      · obtain ⟨x16, x17⟩ := s
        obtain ⟨A18, c19, ρ, F, hX⟩ := hI
        unfold ref01_Read.l1 at h1
        (try dsimp only at h1)
        refine wp_seq_k fun K22 hK22 => ?_
        refine Cx.rseq hX [] [0, 5, 6, 25] (l' := [(0, .v (.string ⟨⟨s_⟩⟩)), (5, .v (.slice A18 x17.length c19)), (6, .v (.int .i64 x16)), (25, .v (.bool (decide (x16 < ((s_.length : Nat) : Int)))))]) (B' := []) (by kernel_rfl) fun ρ w a hX => ?_
        refine Cx.cond hX (b := (decide (x16 < ((s_.length : Nat) : Int)))) (by kernel_rfl) (fun hb => ?_) (fun hb => ?_)
        · have h1 := ite_tt h1 hb
          refine wp_skip ?_
          refine hK22 _ _ ?_
          refine wp_block ?_
          refine wp_seq_k fun K24 hK24 => ?_
          refine wp_region_list ?_
          refine hX.part [] 2 [0, 5, 6, 26, 27] (l' := [(0, .v (.string ⟨⟨s_⟩⟩)), (5, .v (.slice A18 x17.length c19)), (6, .v (.int .i64 x16)), (26, .v (.string ⟨⟨s_⟩⟩)), (27, .v (.int .i64 x16))]) (B' := []) (by kernel_rfl) fun ρ w a hX => ?_
          obtain ⟨v20, hv20, h1⟩ := bnd_some h1
          refine hX.idxStr (lit := []) (by kernel_rfl) (by kernel_rfl) rfl (s := s_) (k := .i64) (n := x16) (b := v20) (by kernel_rfl) (by kernel_rfl) (by kernel_rfl) hv20 fun a hX => ?_
          refine hX.part [] 1 [0, 5, 6, 7] (l' := [(0, .v (.string ⟨⟨s_⟩⟩)), (5, .v (.slice A18 x17.length c19)), (6, .v (.int .i64 x16)), (7, .v (.int .u8 v20))]) (B' := []) (by kernel_rfl) fun ρ w a hX => ?_
          refine wpList_end ?_
          refine hK24 _ _ ?_
          refine wp_block ?_
          refine wp_seq_k fun K25 hK25 => ?_
          refine wp_region_list ?_
          refine hX.part [] 2 [0, 5, 6, 7, 37, 38] (l' := [(0, .v (.string ⟨⟨s_⟩⟩)), (5, .v (.slice A18 x17.length c19)), (6, .v (.int .i64 x16)), (7, .v (.int .u8 v20)), (37, .v (.int .u8 v20)), (38, .v (.string ⟨⟨s_⟩⟩))]) (B' := []) (by kernel_rfl) fun ρ w a hX => ?_
          obtain ⟨v21, hv21, h1⟩ := bnd_some h1
          refine hX.idxStr (lit := []) (by kernel_rfl) (by kernel_rfl) rfl (s := s_) (k := .i64) (n := 0) (b := v21) (by kernel_rfl) (by kernel_rfl) (by kernel_rfl) hv21 fun a hX => ?_
          refine hX.part [] 2 [0, 5, 6, 7, 36] (l' := [(0, .v (.string ⟨⟨s_⟩⟩)), (5, .v (.slice A18 x17.length c19)), (6, .v (.int .i64 x16)), (7, .v (.int .u8 v20)), (36, .v (.bool (v20 == v21)))]) (B' := []) (by kernel_rfl) fun ρ w a hX => ?_
          refine wpList_end ?_
          refine hK25 _ _ ?_
          refine Cx.cond hX (b := (v20 == v21)) (by kernel_rfl) (fun hb => ?_) (fun hb => ?_)
          · have h1 := ite_tt h1 hb
            refine wp_seq_k fun K26 hK26 => ?_
            refine wp_region_list ?_
            refine hX.part [] 1 [6, 41] (l' := [(6, .v (.int .i64 x16)), (41, .v (.slice A18 x17.length c19))]) (B' := []) (by kernel_rfl) fun ρ w a hX => ?_
            obtain ⟨v22, hv22, h1⟩ := bnd_some h1
            obtain ⟨F, hX⟩ := hX.freeze (i := 0) (t := 41) (e := 3) (d := (kInt .i64)) (A := A18) (c := c19) (xs := x17) rfl (by kernel_rfl)
            have hX : Cx 75 _ _ _ _ _ [] [] ρ _ a := hX
            refine Cx.call0 hX (lit := []) (by kernel_rfl) rfl (by kernel_rfl) ⟨⟨_, Tryd.func30, by kernel_rfl, rfl⟩⟩ (ss := [SV.sl (kInt .i64) x17 A18 c19]) (by kernel_rfl) [SV.sl (kInt .i64) x17 A18 c19] rfl (fun hg => hg) (fun hv hle hg => ref01_Make.ok x17 (A18, c19) v22 hv22 _ _ hv (hG.mono hle) hg _) (fun s F w a hp hX => ?_)
            subst hp
            refine hX.part [] 5 [2, 3, 4] (l' := [(2, .v (.string ⟨⟨v22⟩⟩)), (3, .v (.int .i64 (IntKind.wrap .i64 (x16 + 1)))), (4, .v (.int .i64 0))]) (B' := []) (by kernel_rfl) fun ρ w a hX => ?_
            refine wpList_end ?_
            refine hK26 _ _ ?_
            refine wp_ret ?_
            have he := hx1 _ (out_eq h1)
            subst he
            (try dsimp only at h0)
            have hr := Option.some.inj (show some _ = some _ from h0)
            subst hr
            exact hX.ret0 (ss := [.v (.string ⟨⟨v22⟩⟩), .v (.int .i64 (IntKind.wrap .i64 (x16 + 1))), .v (.int .i64 0)]) (by kernel_rfl) (by kernel_rfl) ⟨_, _, _, rfl, rfl, rfl, rfl⟩
          · have h1 := ite_ff h1 hb
            refine Cx.rseq hX [] [0, 5, 6, 7, 45] (l' := [(0, .v (.string ⟨⟨s_⟩⟩)), (5, .v (.slice A18 x17.length c19)), (6, .v (.int .i64 x16)), (7, .v (.int .u8 v20)), (45, .v (.bool (((v20 == 10) || (v20 == 13)) || (decide (v20 > 127)))))]) (B' := []) (by kernel_rfl) fun ρ w a hX => ?_
            refine Cx.cond hX (b := (((v20 == 10) || (v20 == 13)) || (decide (v20 > 127)))) (by kernel_rfl) (fun hb => ?_) (fun hb => ?_)
            · have h1 := ite_tt h1 hb
              refine Cx.rseq hX [] [2, 3, 4] (l' := [(2, .v (.string ⟨⟨([] : Str)⟩⟩)), (3, .v (.int .i64 0)), (4, .v (.int .i64 10))]) (B' := []) (by kernel_rfl) fun ρ w a hX => ?_
              refine wp_ret ?_
              have he := hx1 _ (out_eq h1)
              subst he
              (try dsimp only at h0)
              have hr := Option.some.inj (show some _ = some _ from h0)
              subst hr
              exact hX.ret0 (ss := [.v (.string ⟨⟨([] : Str)⟩⟩), .v (.int .i64 0), .v (.int .i64 10)]) (by kernel_rfl) (by kernel_rfl) ⟨_, _, _, rfl, rfl, rfl, rfl⟩
            · have h1 := ite_ff h1 hb
              refine Cx.rseq hX [] [0, 5, 6, 7, 56] (l' := [(0, .v (.string ⟨⟨s_⟩⟩)), (5, .v (.slice A18 x17.length c19)), (6, .v (.int .i64 x16)), (7, .v (.int .u8 v20)), (56, .v (.bool (v20 == 92)))]) (B' := []) (by kernel_rfl) fun ρ w a hX => ?_
              refine Cx.cond hX (b := (v20 == 92)) (by kernel_rfl) (fun hb => ?_) (fun hb => ?_)
              · have h1 := ite_tt h1 hb
                refine wp_seq_k fun K30 hK30 => ?_
                refine wp_region_list ?_
                refine hX.part [] 3 [0, 5, 6, 60, 62] (l' := [(0, .v (.string ⟨⟨s_⟩⟩)), (5, .v (.slice A18 x17.length c19)), (6, .v (.int .i64 x16)), (60, .v (.string ⟨⟨s_⟩⟩)), (62, .v (.int .i64 (IntKind.wrap .i64 (x16 + 1))))]) (B' := []) (by kernel_rfl) fun ρ w a hX => ?_
                obtain ⟨v23, hv23, h1⟩ := bnd_some h1
                refine Cx.call0 hX (lit := []) (by kernel_rfl) rfl (by kernel_rfl) ⟨⟨_, Tryd.func39, by kernel_rfl, rfl⟩⟩ (ss := [.v (.string ⟨⟨s_⟩⟩), .v (.int .i64 (IntKind.wrap .i64 (x16 + 1)))]) (by kernel_rfl) [.v (.string ⟨⟨s_⟩⟩), .v (.int .i64 (IntKind.wrap .i64 (x16 + 1)))] rfl (fun hg => hg) (fun hv hle hg => ref01_escaped.ok s_ (IntKind.wrap .i64 (x16 + 1)) v23 hv23 _ _ hv (hG.mono hle) hg _) (fun s F w a hp hX => ?_)
                obtain ⟨_, _, rfl, ⟨A24, c25, rfl⟩, rfl⟩ := hp
                refine hX.part [] 5 [0, 5, 6, 8, 9] (l' := [(0, .v (.string ⟨⟨s_⟩⟩)), (5, .v (.slice A18 x17.length c19)), (6, .v (.int .i64 x16)), (8, SV.sl (kInt .i64) v23.1 A24 c25), (9, .v (.int .i64 v23.2))]) (B' := []) (by kernel_rfl) fun ρ w a hX => ?_
                refine wpList_end ?_
                refine hK30 _ _ ?_
                refine wp_seq_k fun K31 hK31 => ?_
                refine Cx.rseq hX [] [0, 5, 6, 8, 9, 67] (l' := [(0, .v (.string ⟨⟨s_⟩⟩)), (5, .v (.slice A18 x17.length c19)), (6, .v (.int .i64 x16)), (8, SV.sl (kInt .i64) v23.1 A24 c25), (9, .v (.int .i64 v23.2)), (67, .v (.bool (decide (v23.2 < 0))))]) (B' := []) (by kernel_rfl) fun ρ w a hX => ?_
                refine Cx.cond hX (b := (decide (v23.2 < 0))) (by kernel_rfl) (fun hb => ?_) (fun hb => ?_)
                · have h1 := ite_tt h1 hb
                  refine Cx.rseq hX [] [2, 3, 4] (l' := [(2, .v (.string ⟨⟨([] : Str)⟩⟩)), (3, .v (.int .i64 0)), (4, .v (.int .i64 10))]) (B' := []) (by kernel_rfl) fun ρ w a hX => ?_
                  refine wp_ret ?_
                  have he := hx1 _ (out_eq h1)
                  subst he
                  (try dsimp only at h0)
                  have hr := Option.some.inj (show some _ = some _ from h0)
                  subst hr
                  exact hX.ret0 (ss := [.v (.string ⟨⟨([] : Str)⟩⟩), .v (.int .i64 0), .v (.int .i64 10)]) (by kernel_rfl) (by kernel_rfl) ⟨_, _, _, rfl, rfl, rfl, rfl⟩
                · have h1 := ite_ff h1 hb
                  refine wp_skip ?_
                  refine hK31 _ _ ?_
                  refine wp_seq_k fun K34 hK34 => ?_
                  refine wp_region_list ?_
                  refine hX.part [] 2 [0, 5, 6, 9, 68, 69] (l' := [(0, .v (.string ⟨⟨s_⟩⟩)), (5, .v (.slice A18 x17.length c19)), (6, .v (.int .i64 x16)), (9, .v (.int .i64 v23.2)), (68, .v (.slice A18 x17.length c19)), (69, SV.sl (kInt .i64) v23.1 A24 c25)]) (B' := []) (by kernel_rfl) fun ρ w a hX => ?_
                  obtain ⟨u28, hu28, h1⟩ := bnd_some h1
                  refine hX.appSl (d := (kInt .i64)) (bytes := 8) (A2 := A24) (c2 := c25) (ys := v23.1) (lit := []) (i := 0) (e := 3) (xs := x17) (A := A18) (c := c19) (by kernel_rfl) (by kernel_rfl) rfl rfl (by kernel_rfl) (by kernel_rfl) (by kernel_rfl) (by kernel_rfl) (by decide) hu28 fun A26 c27 w a hX => ?_
                  have hX : Cx 75 _ _ _ _ _ [accP 3 (kInt .i64) A26 c27 (x17 ++ v23.1)] [] ρ _ a := hX
                  refine hX.part [] 1 [0, 5, 6, 9] (l' := [(0, .v (.string ⟨⟨s_⟩⟩)), (5, .v (.slice A26 (x17 ++ v23.1).length c27)), (6, .v (.int .i64 x16)), (9, .v (.int .i64 v23.2))]) (B' := []) (by kernel_rfl) fun ρ w a hX => ?_
                  refine wpList_end ?_
                  refine hK34 _ _ ?_
                  refine Cx.region hX [] [0, 5, 6] (l' := [(0, .v (.string ⟨⟨s_⟩⟩)), (5, .v (.slice A26 (x17 ++ v23.1).length c27)), (6, .v (.int .i64 (IntKind.wrap .i64 (x16 + (IntKind.wrap .i64 (1 + v23.2))))))]) (B' := []) (by kernel_rfl) fun ρ w a hX => ?_
                  have hX := hX.keeps [0, 5, 6] (l' := [(0, .v (.string ⟨⟨s_⟩⟩)), (5, .v (.slice A26 (x17 ++ v23.1).length c27)), (6, .v (.int .i64 (IntKind.wrap .i64 (x16 + (IntKind.wrap .i64 (1 + v23.2))))))]) (by kernel_rfl)
                  exact hb1 ((IntKind.wrap .i64 (x16 + (IntKind.wrap .i64 (1 + v23.2)))), (x17 ++ v23.1)) (out_eq h1) _ _ ⟨A26, c27, _, _, hX⟩
              · have h1 := ite_ff h1 hb
                refine wp_seq_k fun K35 hK35 => ?_
                refine wp_region_list ?_
                refine hX.part [] 4 [0, 5, 6, 29, 32] (l' := [(0, .v (.string ⟨⟨s_⟩⟩)), (5, .v (.slice A18 x17.length c19)), (6, .v (.int .i64 x16)), (29, .v (.slice A18 x17.length c19)), (32, .slc 0 0 1 1)]) (B' := [some ⟨3, [.v (.int .i64 (IntKind.wrap .i64 v20))]⟩]) (by kernel_rfl) fun ρ w a hX => ?_
                obtain ⟨u31, hu31, h1⟩ := bnd_some h1
                refine hX.appLit (d := (kInt .i64)) (k := 0) (m := 1) (bytes := 8) (cells := [.v (.int .i64 (IntKind.wrap .i64 v20))]) (lit := []) (i := 0) (e := 3) (xs := x17) (A := A18) (c := c19) ([((IntKind.wrap .i64 v20), ())] : List (Int × ((kInt .i64)).Y)) (by kernel_rfl) (by kernel_rfl) rfl rfl (by kernel_rfl) (by kernel_rfl) (by kernel_rfl) (by kernel_rfl) (by kernel_rfl) rfl rfl (by decide) hu31 ⟨_, rfl⟩ fun A29 c30 w a hX => ?_
                have hX : Cx 75 _ _ _ _ _ [accP 3 (kInt .i64) A29 c30 (x17 ++ [(IntKind.wrap .i64 v20)])] [some ⟨3, [.v (.int .i64 (IntKind.wrap .i64 v20))]⟩] ρ _ a := hX
                refine hX.part [] 1 [0, 5, 6] (l' := [(0, .v (.string ⟨⟨s_⟩⟩)), (5, .v (.slice A29 (x17 ++ [(IntKind.wrap .i64 v20)]).length c30)), (6, .v (.int .i64 x16))]) (B' := [some ⟨3, [.v (.int .i64 (IntKind.wrap .i64 v20))]⟩]) (by kernel_rfl) fun ρ w a hX => ?_
                refine wpList_end ?_
                refine hK35 _ _ ?_
                refine Cx.region hX [] [0, 5, 6] (l' := [(0, .v (.string ⟨⟨s_⟩⟩)), (5, .v (.slice A29 (x17 ++ [(IntKind.wrap .i64 v20)]).length c30)), (6, .v (.int .i64 (IntKind.wrap .i64 (x16 + 1))))]) (B' := [some ⟨3, [.v (.int .i64 (IntKind.wrap .i64 v20))]⟩]) (by kernel_rfl) fun ρ w a hX => ?_
                have hX := hX.keeps [0, 5, 6] (l' := [(0, .v (.string ⟨⟨s_⟩⟩)), (5, .v (.slice A29 (x17 ++ [(IntKind.wrap .i64 v20)]).length c30)), (6, .v (.int .i64 (IntKind.wrap .i64 (x16 + 1))))]) (by kernel_rfl)
                have hX := hX.shrink 0 (B' := []) (by kernel_rfl) (Nat.le_of_ble_eq_true rfl) (by kernel_rfl) (by kernel_rfl) (Nat.zero_le _)
                exact hb1 ((IntKind.wrap .i64 (x16 + 1)), (x17 ++ [(IntKind.wrap .i64 v20)])) (out_eq h1) _ _ ⟨A29, c30, _, _, hX⟩
        · have h1 := ite_ff h1 hb
          refine wp_exit ?_
          have hX := hX.dropL 0 rfl rfl
          have hX := hX.keeps [] (l' := []) (by kernel_rfl)
          exact E1x0 () (hx1 _ (out_eq h1)).symm  _ _ _ _ hX
      · exact ⟨none, 0, _, _, hX⟩
  refine wp_region_list ?_
  refine hX.part [] 3 [0, 12] (l' := [(0, .v (.string ⟨⟨s_⟩⟩)), (12, .v (.bool (s_ == ([] : Str))))]) (B' := []) (by kernel_rfl) fun ρ w a hX => ?_
  refine ite_go h0 (fun hb h0 => ?_) (fun hb h0 => ?_)
  · have hX := hX.relit 12 hb (by kernel_rfl)
    refine hX.part [2, 6] 9 [0, 21] (l' := [(0, .v (.string ⟨⟨s_⟩⟩)), (21, .v (.bool true))]) (B' := []) (by kernel_rfl) fun ρ w a hX => ?_
    refine wpList_end ?_
    have hX := hX.keeps [0, 21] (l' := [(0, .v (.string ⟨⟨s_⟩⟩)), (21, .v (.bool true))]) (by kernel_rfl)
    exact J3 true h0  _ _ _ _ hX
  · have hX := hX.relit 12 hb (by kernel_rfl)
    refine hX.part [2] 1 [0, 12, 13] (l' := [(0, .v (.string ⟨⟨s_⟩⟩)), (12, .v (.bool false)), (13, .v (.string ⟨⟨s_⟩⟩))]) (B' := []) (by kernel_rfl) fun ρ w a hX => ?_
    obtain ⟨v1, hv1, h0⟩ := bnd_some h0
    refine hX.idxStr (lit := [2]) (by kernel_rfl) (by kernel_rfl) rfl (s := s_) (k := .i64) (n := 0) (b := v1) (by kernel_rfl) (by kernel_rfl) (by kernel_rfl) hv1 fun a hX => ?_
    refine hX.part [2] 2 [0, 12, 16] (l' := [(0, .v (.string ⟨⟨s_⟩⟩)), (12, .v (.bool false)), (16, .v (.bool (v1 != 39)))]) (B' := []) (by kernel_rfl) fun ρ w a hX => ?_
    refine ite_go h0 (fun hb h0 => ?_) (fun hb h0 => ?_)
    · have hX := hX.relit 16 hb (by kernel_rfl)
      refine hX.part [6] 1 [0, 12, 16, 17] (l' := [(0, .v (.string ⟨⟨s_⟩⟩)), (12, .v (.bool false)), (16, .v (.bool true)), (17, .v (.string ⟨⟨s_⟩⟩))]) (B' := []) (by kernel_rfl) fun ρ w a hX => ?_
      obtain ⟨v2, hv2, h0⟩ := bnd_some h0
      refine hX.idxStr (lit := [6]) (by kernel_rfl) (by kernel_rfl) rfl (s := s_) (k := .i64) (n := 0) (b := v2) (by kernel_rfl) (by kernel_rfl) (by kernel_rfl) hv2 fun a hX => ?_
      refine hX.part [2, 6] 3 [0, 21] (l' := [(0, .v (.string ⟨⟨s_⟩⟩)), (21, .v (.bool (v2 != 34)))]) (B' := []) (by kernel_rfl) fun ρ w a hX => ?_
      refine wpList_end ?_
      have hX := hX.keeps [0, 21] (l' := [(0, .v (.string ⟨⟨s_⟩⟩)), (21, .v (.bool (v2 != 34)))]) (by kernel_rfl)
      exact J3 (v2 != 34) h0  _ _ _ _ hX
    · have hX := hX.relit 16 hb (by kernel_rfl)
      refine hX.part [2, 6] 5 [0, 21] (l' := [(0, .v (.string ⟨⟨s_⟩⟩)), (21, .v (.bool false))]) (B' := []) (by kernel_rfl) fun ρ w a hX => ?_
      refine wpList_end ?_
      have hX := hX.keeps [0, 21] (l' := [(0, .v (.string ⟨⟨s_⟩⟩)), (21, .v (.bool false))]) (by kernel_rfl)
      exact J3 false h0  _ _ _ _ hX
def law01_UnitsRead (s_ : Str) : Option (Bool) :=
  Option.bind (units_Read s_) fun v1 =>
  Option.bind (ref01_Read s_) fun v2 =>
  Option.bind (law01_live) fun v3 =>
  some (((v3 && (v1.1 == v2.1)) && (v1.2.1 == v2.2.1)) && (v1.2.2 == v2.2.2))
theorem law01_UnitsRead.ok (s_ : Str) (r : Bool) (h0 : law01_UnitsRead s_ = some r) (w0 : World) (F0 : Heap) (hv : F0.Sub w0) (hG : Glob F0) (hg : SV.goods F0 [.v (.string ⟨⟨s_⟩⟩)]) (ρ : Nat → Nat) :
    Calls Tryd.prog 6 (SV.dens ρ [.v (.string ⟨⟨s_⟩⟩)]).toArray w0 (Ret0 w0 F0 fun s => s = .v (.bool r)) := by
  refine calls_of_wp Tryd.func6 rfl ?_
  have hX := Cx.enter (D := No) (B := []) (L := []) (ρ := ρ) (N := 37) Tryd.ntmps6 [.v (.string ⟨⟨s_⟩⟩)] (St.start hv) rfl hg (by kernel_rfl) (fun _ h => by cases h) (Nat.le_of_ble_eq_true rfl) No.unfix
  unfold law01_UnitsRead at h0
  refine Cx.rseq hX [] [0] (l' := [(0, .v (.string ⟨⟨s_⟩⟩))]) (B' := []) (by kernel_rfl) fun ρ w a hX => ?_
  refine wp_seq_k fun K2 hK2 => ?_
  refine wp_region_list ?_
  refine hX.part [] 1 [0, 10] (l' := [(0, .v (.string ⟨⟨s_⟩⟩)), (10, .v (.string ⟨⟨s_⟩⟩))]) (B' := []) (by kernel_rfl) fun ρ w a hX => ?_
  obtain ⟨v1, hv1, h0⟩ := bnd_some h0
  refine Cx.call0 hX (lit := []) (by kernel_rfl) rfl (by kernel_rfl) ⟨⟨_, Tryd.func19, by kernel_rfl, rfl⟩⟩ (ss := [.v (.string ⟨⟨s_⟩⟩)]) (by kernel_rfl) [.v (.string ⟨⟨s_⟩⟩)] rfl (fun hg => hg) (fun hv hle hg => units_Read.ok s_ v1 hv1 _ _ hv (hG.mono hle) hg _) (fun s F w a hp hX => ?_)
  obtain ⟨_, _, _, rfl, rfl, rfl, rfl⟩ := hp
  refine hX.part [] 7 [0, 3, 4, 5] (l' := [(0, .v (.string ⟨⟨s_⟩⟩)), (3, .v (.string ⟨⟨v1.1⟩⟩)), (4, .v (.int .i64 v1.2.1)), (5, .v (.int .i64 v1.2.2))]) (B' := []) (by kernel_rfl) fun ρ w a hX => ?_
  refine wpList_end ?_
  refine hK2 _ _ ?_
  refine wp_seq_k fun K3 hK3 => ?_
  refine wp_region_list ?_
  refine hX.part [] 1 [3, 4, 5, 16] (l' := [(3, .v (.string ⟨⟨v1.1⟩⟩)), (4, .v (.int .i64 v1.2.1)), (5, .v (.int .i64 v1.2.2)), (16, .v (.string ⟨⟨s_⟩⟩))]) (B' := []) (by kernel_rfl) fun ρ w a hX => ?_
  obtain ⟨v2, hv2, h0⟩ := bnd_some h0
  refine Cx.call0 hX (lit := []) (by kernel_rfl) rfl (by kernel_rfl) ⟨⟨_, Tryd.func20, by kernel_rfl, rfl⟩⟩ (ss := [.v (.string ⟨⟨s_⟩⟩)]) (by kernel_rfl) [.v (.string ⟨⟨s_⟩⟩)] rfl (fun hg => hg) (fun hv hle hg => ref01_Read.ok s_ v2 hv2 _ _ hv (hG.mono hle) hg _) (fun s F w a hp hX => ?_)
  obtain ⟨_, _, _, rfl, rfl, rfl, rfl⟩ := hp
  refine hX.part [] 7 [3, 4, 5, 6, 7, 8] (l' := [(3, .v (.string ⟨⟨v1.1⟩⟩)), (4, .v (.int .i64 v1.2.1)), (5, .v (.int .i64 v1.2.2)), (6, .v (.string ⟨⟨v2.1⟩⟩)), (7, .v (.int .i64 v2.2.1)), (8, .v (.int .i64 v2.2.2))]) (B' := []) (by kernel_rfl) fun ρ w a hX => ?_
  refine wpList_end ?_
  refine hK3 _ _ ?_
  refine wp_seq_k fun K4 hK4 => ?_
  refine wp_region_list ?_
  refine hX.part [] 0 [3, 4, 5, 6, 7, 8] (l' := [(3, .v (.string ⟨⟨v1.1⟩⟩)), (4, .v (.int .i64 v1.2.1)), (5, .v (.int .i64 v1.2.2)), (6, .v (.string ⟨⟨v2.1⟩⟩)), (7, .v (.int .i64 v2.2.1)), (8, .v (.int .i64 v2.2.2))]) (B' := []) (by kernel_rfl) fun ρ w a hX => ?_
  obtain ⟨v3, hv3, h0⟩ := bnd_some h0
  refine Cx.call0 hX (lit := []) (by kernel_rfl) rfl (by kernel_rfl) ⟨⟨_, Tryd.func14, by kernel_rfl, rfl⟩⟩ (ss := []) (by kernel_rfl) [] rfl (fun hg => hg) (fun hv hle hg => law01_live.ok v3 hv3 _ _ hv (hG.mono hle) hg _) (fun s F w a hp hX => ?_)
  subst hp
  refine hX.part [] 16 [2] (l' := [(2, .v (.bool (((v3 && (v1.1 == v2.1)) && (v1.2.1 == v2.2.1)) && (v1.2.2 == v2.2.2))))]) (B' := []) (by kernel_rfl) fun ρ w a hX => ?_
  refine wpList_end ?_
  refine hK4 _ _ ?_
  refine wp_ret ?_
  have hr := Option.some.inj (show some _ = some _ from h0)
  subst hr
  exact hX.ret0 (ss := [.v (.bool (((v3 && (v1.1 == v2.1)) && (v1.2.1 == v2.2.1)) && (v1.2.2 == v2.2.2)))]) (by kernel_rfl) (by kernel_rfl) rfl
def law01_UnitsBack.j1 (x4 : Bool) : Option (Bool) :=
  some x4
def law01_UnitsBack (u : Str) (behind : Str) : Option (Bool) :=
  Option.bind (law01_live) fun v1 =>
  Option.bind (units_Quote u) fun v2 =>
  if (v2.2 != 0) = true then
    if v1 = true then
      Option.bind (units_Check u) fun v3 =>
      law01_UnitsBack.j1 (!v3)
    else
      law01_UnitsBack.j1 false
  else
    Option.bind (catS v2.1 behind) fun v5 =>
    Option.bind (units_Read v5) fun v6 =>
    some (((v1 && (v6.2.2 == 0)) && (v6.1 == u)) && (v6.2.1 == ((v2.1.length : Nat) : Int)))
theorem law01_UnitsBack.ok (u : Str) (behind : Str) (r : Bool) (h0 : law01_UnitsBack u behind = some r) (w0 : World) (F0 : Heap) (hv : F0.Sub w0) (hG : Glob F0) (hg : SV.goods F0 [.v (.string ⟨⟨u⟩⟩), .v (.string ⟨⟨behind⟩⟩)]) (ρ : Nat → Nat) :
    Calls Tryd.prog 7 (SV.dens ρ [.v (.string ⟨⟨u⟩⟩), .v (.string ⟨⟨behind⟩⟩)]).toArray w0 (Ret0 w0 F0 fun s => s = .v (.bool r)) := by
  refine calls_of_wp Tryd.func7 rfl ?_
  have hX := Cx.enter (D := No) (B := []) (L := []) (ρ := ρ) (N := 49) Tryd.ntmps7 [.v (.string ⟨⟨u⟩⟩), .v (.string ⟨⟨behind⟩⟩)] (St.start hv) rfl hg (by kernel_rfl) (fun _ h => by cases h) (Nat.le_of_ble_eq_true rfl) No.unfix
  unfold law01_UnitsBack at h0
  refine Cx.rseq hX [] [0, 1] (l' := [(0, .v (.string ⟨⟨u⟩⟩)), (1, .v (.string ⟨⟨behind⟩⟩))]) (B' := []) (by kernel_rfl) fun ρ w a hX => ?_
  refine wp_seq_k fun K2 hK2 => ?_
  refine wp_region_list ?_
  refine hX.part [] 0 [0, 1] (l' := [(0, .v (.string ⟨⟨u⟩⟩)), (1, .v (.string ⟨⟨behind⟩⟩))]) (B' := []) (by kernel_rfl) fun ρ w a hX => ?_
  obtain ⟨v1, hv1, h0⟩ := bnd_some h0
  refine Cx.call0 hX (lit := []) (by kernel_rfl) rfl (by kernel_rfl) ⟨⟨_, Tryd.func14, by kernel_rfl, rfl⟩⟩ (ss := []) (by kernel_rfl) [] rfl (fun hg => hg) (fun hv hle hg => law01_live.ok v1 hv1 _ _ hv (hG.mono hle) hg _) (fun s F w a hp hX => ?_)
  subst hp
  refine hX.part [] 1 [0, 1, 5] (l' := [(0, .v (.string ⟨⟨u⟩⟩)), (1, .v (.string ⟨⟨behind⟩⟩)), (5, .v (.bool v1))]) (B' := []) (by kernel_rfl) fun ρ w a hX => ?_
  refine wpList_end ?_
  refine hK2 _ _ ?_
  refine wp_seq_k fun K3 hK3 => ?_
  refine wp_region_list ?_
  refine hX.part [] 1 [0, 1, 5, 13] (l' := [(0, .v (.string ⟨⟨u⟩⟩)), (1, .v (.string ⟨⟨behind⟩⟩)), (5, .v (.bool v1)), (13, .v (.string ⟨⟨u⟩⟩))]) (B' := []) (by kernel_rfl) fun ρ w a hX => ?_
  obtain ⟨v2, hv2, h0⟩ := bnd_some h0
  refine Cx.call0 hX (lit := []) (by kernel_rfl) rfl (by kernel_rfl) ⟨⟨_, Tryd.func17, by kernel_rfl, rfl⟩⟩ (ss := [.v (.string ⟨⟨u⟩⟩)]) (by kernel_rfl) [.v (.string ⟨⟨u⟩⟩)] rfl (fun hg => hg) (fun hv hle hg => units_Quote.ok u v2 hv2 _ _ hv (hG.mono hle) hg _) (fun s F w a hp hX => ?_)
  obtain ⟨_, _, rfl, rfl, rfl⟩ := hp
  refine hX.part [] 5 [0, 1, 5, 6, 7] (l' := [(0, .v (.string ⟨⟨u⟩⟩)), (1, .v (.string ⟨⟨behind⟩⟩)), (5, .v (.bool v1)), (6, .v (.string ⟨⟨v2.1⟩⟩)), (7, .v (.int .i64 v2.2))]) (B' := []) (by kernel_rfl) fun ρ w a hX => ?_
  refine wpList_end ?_
  refine hK3 _ _ ?_
  refine wp_seq_k fun K4 hK4 => ?_
  refine Cx.rseq hX [] [0, 1, 5, 6, 18] (l' := [(0, .v (.string ⟨⟨u⟩⟩)), (1, .v (.string ⟨⟨behind⟩⟩)), (5, .v (.bool v1)), (6, .v (.string ⟨⟨v2.1⟩⟩)), (18, .v (.bool (v2.2 != 0)))]) (B' := []) (by kernel_rfl) fun ρ w a hX => ?_
  refine Cx.cond hX (b := (v2.2 != 0)) (by kernel_rfl) (fun hb => ?_) (fun hb => ?_)
  · have h0 := ite_tt h0 hb
    refine wp_seq_k fun K6 hK6 => ?_
    have J6 : ∀ (x4 : Bool), law01_UnitsBack.j1 x4 = some r → ∀ (ρ : Nat → Nat) (w : World) (F : Heap) (a : Act), Cx 49 w0 F0 No w F [] [] ρ [(4, .v (.bool x4))] a → K6 a w := by
      intro x4 h0  ρ w F a hX
      unfold law01_UnitsBack.j1 at h0
      refine hK6 _ _ ?_
      refine wp_ret ?_
      have hr := Option.some.inj (show some _ = some _ from h0)
      subst hr
      exact hX.ret0 (ss := [.v (.bool x4)]) (by kernel_rfl) (by kernel_rfl) rfl
    refine wp_region_list ?_
    refine hX.part [] 2 [0, 20] (l' := [(0, .v (.string ⟨⟨u⟩⟩)), (20, .v (.bool v1))]) (B' := []) (by kernel_rfl) fun ρ w a hX => ?_
    refine ite_go h0 (fun hb h0 => ?_) (fun hb h0 => ?_)
    · have hX := hX.relit 20 hb (by kernel_rfl)
      refine hX.part [1] 1 [20, 21] (l' := [(20, .v (.bool true)), (21, .v (.string ⟨⟨u⟩⟩))]) (B' := []) (by kernel_rfl) fun ρ w a hX => ?_
      obtain ⟨v3, hv3, h0⟩ := bnd_some h0
      refine Cx.call0 hX (lit := [1]) (by kernel_rfl) rfl (by kernel_rfl) ⟨⟨_, Tryd.func21, by kernel_rfl, rfl⟩⟩ (ss := [.v (.string ⟨⟨u⟩⟩)]) (by kernel_rfl) [.v (.string ⟨⟨u⟩⟩)] rfl (fun hg => hg) (fun hv hle hg => units_Check.ok u v3 hv3 _ _ hv (hG.mono hle) hg _) (fun s F w a hp hX => ?_)
      subst hp
      refine hX.part [1] 3 [4] (l' := [(4, .v (.bool (!v3)))]) (B' := []) (by kernel_rfl) fun ρ w a hX => ?_
      refine wpList_end ?_
      have hX := hX.keeps [4] (l' := [(4, .v (.bool (!v3)))]) (by kernel_rfl)
      exact J6 (!v3) h0  _ _ _ _ hX
    · have hX := hX.relit 20 hb (by kernel_rfl)
      refine hX.part [1] 5 [4] (l' := [(4, .v (.bool false))]) (B' := []) (by kernel_rfl) fun ρ w a hX => ?_
      refine wpList_end ?_
      have hX := hX.keeps [4] (l' := [(4, .v (.bool false))]) (by kernel_rfl)
      exact J6 false h0  _ _ _ _ hX
  · have h0 := ite_ff h0 hb
    refine wp_skip ?_
    refine hK4 _ _ ?_
    refine wp_seq_k fun K7 hK7 => ?_
    refine wp_region_list ?_
    refine hX.part [] 2 [0, 5, 6, 26, 27] (l' := [(0, .v (.string ⟨⟨u⟩⟩)), (5, .v (.bool v1)), (6, .v (.string ⟨⟨v2.1⟩⟩)), (26, .v (.string ⟨⟨v2.1⟩⟩)), (27, .v (.string ⟨⟨behind⟩⟩))]) (B' := []) (by kernel_rfl) fun ρ w a hX => ?_
    obtain ⟨v5, hv5, h0⟩ := bnd_some h0
    refine hX.catStr (lit := []) (by kernel_rfl) (by kernel_rfl) rfl (s := v2.1) (t := behind) (r := v5) (by kernel_rfl) (by kernel_rfl) hv5 fun a hX => ?_
    refine hX.part [] 0 [0, 5, 6, 28] (l' := [(0, .v (.string ⟨⟨u⟩⟩)), (5, .v (.bool v1)), (6, .v (.string ⟨⟨v2.1⟩⟩)), (28, .v (.string ⟨⟨v5⟩⟩))]) (B' := []) (by kernel_rfl) fun ρ w a hX => ?_
    obtain ⟨v6, hv6, h0⟩ := bnd_some h0
    refine Cx.call0 hX (lit := []) (by kernel_rfl) rfl (by kernel_rfl) ⟨⟨_, Tryd.func19, by kernel_rfl, rfl⟩⟩ (ss := [.v (.string ⟨⟨v5⟩⟩)]) (by kernel_rfl) [.v (.string ⟨⟨v5⟩⟩)] rfl (fun hg => hg) (fun hv hle hg => units_Read.ok v5 v6 hv6 _ _ hv (hG.mono hle) hg _) (fun s F w a hp hX => ?_)
    obtain ⟨_, _, _, rfl, rfl, rfl, rfl⟩ := hp
    refine hX.part [] 7 [0, 5, 6, 8, 9, 10] (l' := [(0, .v (.string ⟨⟨u⟩⟩)), (5, .v (.bool v1)), (6, .v (.string ⟨⟨v2.1⟩⟩)), (8, .v (.string ⟨⟨v6.1⟩⟩)), (9, .v (.int .i64 v6.2.1)), (10, .v (.int .i64 v6.2.2))]) (B' := []) (by kernel_rfl) fun ρ w a hX => ?_
    refine wpList_end ?_
    refine hK7 _ _ ?_
    refine Cx.rseq hX [] [4] (l' := [(4, .v (.bool (((v1 && (v6.2.2 == 0)) && (v6.1 == u)) && (v6.2.1 == ((v2.1.length : Nat) : Int)))))]) (B' := []) (by kernel_rfl) fun ρ w a hX => ?_
    refine wp_ret ?_
    have hr := Option.some.inj (show some _ = some _ from h0)
    subst hr
    exact hX.ret0 (ss := [.v (.bool (((v1 && (v6.2.2 == 0)) && (v6.1 == u)) && (v6.2.1 == ((v2.1.length : Nat) : Int))))]) (by kernel_rfl) (by kernel_rfl) rfl
def law01_UnitsJoin.j2 (x12 : Bool) : Option (Bool) :=
  some x12
def law01_UnitsJoin.j3 (x16 : Bool) : Option (Bool) :=
  some x16
def law01_UnitsJoin.j1 (u : Str) (v : Str) (i : Int) (v1 : Bool) (x4 : Bool) : Option (Bool) :=
  if x4 = true then
    some v1
  else
    Option.bind (units_Len u) fun v5 =>
    Option.bind (catS u v) fun v6 =>
    Option.bind (units_Len v6) fun v7 =>
    Option.bind (units_Len v) fun v8 =>
    if (v7 != (IntKind.wrap .i64 (v5 + v8))) = true then
      some false
    else
      if ((decide (i ≥ 0)) && (decide (i < v5))) = true then
        if v1 = true then
          Option.bind (catS u v) fun v9 =>
          Option.bind (units_At v9 i) fun v10 =>
          Option.bind (units_At u i) fun v11 =>
          law01_UnitsJoin.j2 (v10 == v11)
        else
          law01_UnitsJoin.j2 false
      else
        if v1 = true then
          if (decide (i < v5)) = true then
            law01_UnitsJoin.j3 true
          else
            Option.bind (catS u v) fun v13 =>
            Option.bind (units_At v13 i) fun v14 =>
            Option.bind (units_At v (IntKind.wrap .i64 (i - v5))) fun v15 =>
            law01_UnitsJoin.j3 (v14 == v15)
        else
          law01_UnitsJoin.j3 false
def law01_UnitsJoin (u : Str) (v : Str) (i : Int) : Option (Bool) :=
  Option.bind (law01_live) fun v1 =>
  Option.bind (units_Check u) fun v2 =>
  if (!v2) = true then
    law01_UnitsJoin.j1 u v i v1 true
  else
    Option.bind (units_Check v) fun v3 =>
    law01_UnitsJoin.j1 u v i v1 (!v3)
theorem law01_UnitsJoin.ok (u : Str) (v : Str) (i : Int) (r : Bool) (h0 : law01_UnitsJoin u v i = some r) (w0 : World) (F0 : Heap) (hv : F0.Sub w0) (hG : Glob F0) (hg : SV.goods F0 [.v (.string ⟨⟨u⟩⟩), .v (.string ⟨⟨v⟩⟩), .v (.int .i64 i)]) (ρ : Nat → Nat) :
    Calls Tryd.prog 8 (SV.dens ρ [.v (.string ⟨⟨u⟩⟩), .v (.string ⟨⟨v⟩⟩), .v (.int .i64 i)]).toArray w0 (Ret0 w0 F0 fun s => s = .v (.bool r)) := by
  refine calls_of_wp Tryd.func8 rfl ?_
  have hX := Cx.enter (D := No) (B := []) (L := []) (ρ := ρ) (N := 68) Tryd.ntmps8 [.v (.string ⟨⟨u⟩⟩), .v (.string ⟨⟨v⟩⟩), .v (.int .i64 i)] (St.start hv) rfl hg (by kernel_rfl) (fun _ h => by cases h) (Nat.le_of_ble_eq_true rfl) No.unfix
  unfold law01_UnitsJoin at h0
  refine Cx.rseq hX [] [0, 1, 2] (l' := [(0, .v (.string ⟨⟨u⟩⟩)), (1, .v (.string ⟨⟨v⟩⟩)), (2, .v (.int .i64 i))]) (B' := []) (by kernel_rfl) fun ρ w a hX => ?_
  refine wp_seq_k fun K2 hK2 => ?_
  refine wp_region_list ?_
  refine hX.part [] 0 [0, 1, 2] (l' := [(0, .v (.string ⟨⟨u⟩⟩)), (1, .v (.string ⟨⟨v⟩⟩)), (2, .v (.int .i64 i))]) (B' := []) (by kernel_rfl) fun ρ w a hX => ?_
  obtain ⟨v1, hv1, h0⟩ := bnd_some h0
  refine Cx.call0 hX (lit := []) (by kernel_rfl) rfl (by kernel_rfl) ⟨⟨_, Tryd.func14, by kernel_rfl, rfl⟩⟩ (ss := []) (by kernel_rfl) [] rfl (fun hg => hg) (fun hv hle hg => law01_live.ok v1 hv1 _ _ hv (hG.mono hle) hg _) (fun s F w a hp hX => ?_)
  subst hp
  refine hX.part [] 1 [0, 1, 2, 7] (l' := [(0, .v (.string ⟨⟨u⟩⟩)), (1, .v (.string ⟨⟨v⟩⟩)), (2, .v (.int .i64 i)), (7, .v (.bool v1))]) (B' := []) (by kernel_rfl) fun ρ w a hX => ?_
  refine wpList_end ?_
  refine hK2 _ _ ?_
  refine wp_seq_k fun K3 hK3 => ?_
  refine wp_seq_k fun K4 hK4 => ?_
  have J4 : ∀ (x4 : Bool), law01_UnitsJoin.j1 u v i v1 x4 = some r → ∀ (ρ : Nat → Nat) (w : World) (F : Heap) (a : Act), Cx 68 w0 F0 No w F [] [] ρ [(0, .v (.string ⟨⟨u⟩⟩)), (1, .v (.string ⟨⟨v⟩⟩)), (2, .v (.int .i64 i)), (7, .v (.bool v1)), (17, .v (.bool x4))] a → K4 a w := by
    intro x4 h0  ρ w F a hX
    unfold law01_UnitsJoin.j1 at h0
    refine hK4 _ _ ?_
    refine Cx.cond hX (b := x4) (by kernel_rfl) (fun hb => ?_) (fun hb => ?_)
    · have h0 := ite_tt h0 hb
      refine Cx.rseq hX [] [6] (l' := [(6, .v (.bool v1))]) (B' := []) (by kernel_rfl) fun ρ w a hX => ?_
      refine wp_ret ?_
      have hr := Option.some.inj (show some _ = some _ from h0)
      subst hr
      exact hX.ret0 (ss := [.v (.bool v1)]) (by kernel_rfl) (by kernel_rfl) rfl
    · have h0 := ite_ff h0 hb
      refine wp_skip ?_
      refine hK3 _ _ ?_
      refine wp_seq_k fun K6 hK6 => ?_
      refine wp_region_list ?_
      refine hX.part [] 1 [0, 1, 2, 7, 19] (l' := [(0, .v (.string ⟨⟨u⟩⟩)), (1, .v (.string ⟨⟨v⟩⟩)), (2, .v (.int .i64 i)), (7, .v (.bool v1)), (19, .v (.string ⟨⟨u⟩⟩))]) (B' := []) (by kernel_rfl) fun ρ w a hX => ?_
      obtain ⟨v5, hv5, h0⟩ := bnd_some h0
      refine Cx.call0 hX (lit := []) (by kernel_rfl) rfl (by kernel_rfl) ⟨⟨_, Tryd.func22, by kernel_rfl, rfl⟩⟩ (ss := [.v (.string ⟨⟨u⟩⟩)]) (by kernel_rfl) [.v (.string ⟨⟨u⟩⟩)] rfl (fun hg => hg) (fun hv hle hg => units_Len.ok u v5 hv5 _ _ hv (hG.mono hle) hg _) (fun s F w a hp hX => ?_)
      subst hp
      refine hX.part [] 1 [0, 1, 2, 7, 8] (l' := [(0, .v (.string ⟨⟨u⟩⟩)), (1, .v (.string ⟨⟨v⟩⟩)), (2, .v (.int .i64 i)), (7, .v (.bool v1)), (8, .v (.int .i64 v5))]) (B' := []) (by kernel_rfl) fun ρ w a hX => ?_
      refine wpList_end ?_
      refine hK6 _ _ ?_
      refine wp_seq_k fun K7 hK7 => ?_
      refine wp_seq_k fun K8 hK8 => ?_
      refine wp_region_list ?_
      refine hX.part [] 2 [0, 1, 2, 7, 8, 21, 22] (l' := [(0, .v (.string ⟨⟨u⟩⟩)), (1, .v (.string ⟨⟨v⟩⟩)), (2, .v (.int .i64 i)), (7, .v (.bool v1)), (8, .v (.int .i64 v5)), (21, .v (.string ⟨⟨u⟩⟩)), (22, .v (.string ⟨⟨v⟩⟩))]) (B' := []) (by kernel_rfl) fun ρ w a hX => ?_
      obtain ⟨v6, hv6, h0⟩ := bnd_some h0
      refine hX.catStr (lit := []) (by kernel_rfl) (by kernel_rfl) rfl (s := u) (t := v) (r := v6) (by kernel_rfl) (by kernel_rfl) hv6 fun a hX => ?_
      refine hX.part [] 0 [0, 1, 2, 7, 8, 23] (l' := [(0, .v (.string ⟨⟨u⟩⟩)), (1, .v (.string ⟨⟨v⟩⟩)), (2, .v (.int .i64 i)), (7, .v (.bool v1)), (8, .v (.int .i64 v5)), (23, .v (.string ⟨⟨v6⟩⟩))]) (B' := []) (by kernel_rfl) fun ρ w a hX => ?_
      obtain ⟨v7, hv7, h0⟩ := bnd_some h0
      refine Cx.call0 hX (lit := []) (by kernel_rfl) rfl (by kernel_rfl) ⟨⟨_, Tryd.func22, by kernel_rfl, rfl⟩⟩ (ss := [.v (.string ⟨⟨v6⟩⟩)]) (by kernel_rfl) [.v (.string ⟨⟨v6⟩⟩)] rfl (fun hg => hg) (fun hv hle hg => units_Len.ok v6 v7 hv7 _ _ hv (hG.mono hle) hg _) (fun s F w a hp hX => ?_)
      subst hp
      refine hX.part [] 2 [0, 1, 2, 7, 8, 24, 25, 26] (l' := [(0, .v (.string ⟨⟨u⟩⟩)), (1, .v (.string ⟨⟨v⟩⟩)), (2, .v (.int .i64 i)), (7, .v (.bool v1)), (8, .v (.int .i64 v5)), (24, .v (.int .i64 v7)), (25, .v (.int .i64 v5)), (26, .v (.string ⟨⟨v⟩⟩))]) (B' := []) (by kernel_rfl) fun ρ w a hX => ?_
      obtain ⟨v8, hv8, h0⟩ := bnd_some h0
      refine Cx.call0 hX (lit := []) (by kernel_rfl) rfl (by kernel_rfl) ⟨⟨_, Tryd.func22, by kernel_rfl, rfl⟩⟩ (ss := [.v (.string ⟨⟨v⟩⟩)]) (by kernel_rfl) [.v (.string ⟨⟨v⟩⟩)] rfl (fun hg => hg) (fun hv hle hg => units_Len.ok v v8 hv8 _ _ hv (hG.mono hle) hg _) (fun s F w a hp hX => ?_)
      subst hp
      refine hX.part [] 2 [0, 1, 2, 7, 8, 29] (l' := [(0, .v (.string ⟨⟨u⟩⟩)), (1, .v (.string ⟨⟨v⟩⟩)), (2, .v (.int .i64 i)), (7, .v (.bool v1)), (8, .v (.int .i64 v5)), (29, .v (.bool (v7 != (IntKind.wrap .i64 (v5 + v8)))))]) (B' := []) (by kernel_rfl) fun ρ w a hX => ?_
      refine wpList_end ?_
      refine hK8 _ _ ?_
      refine Cx.cond hX (b := (v7 != (IntKind.wrap .i64 (v5 + v8)))) (by kernel_rfl) (fun hb => ?_) (fun hb => ?_)
      · have h0 := ite_tt h0 hb
        refine Cx.rseq hX [] [6] (l' := [(6, .v (.bool false))]) (B' := []) (by kernel_rfl) fun ρ w a hX => ?_
        refine wp_ret ?_
        have hr := Option.some.inj (show some _ = some _ from h0)
        subst hr
        exact hX.ret0 (ss := [.v (.bool false)]) (by kernel_rfl) (by kernel_rfl) rfl
      · have h0 := ite_ff h0 hb
        refine wp_skip ?_
        refine hK7 _ _ ?_
        refine wp_seq_k fun K10 hK10 => ?_
        refine Cx.rseq hX [] [0, 1, 2, 7, 8, 36] (l' := [(0, .v (.string ⟨⟨u⟩⟩)), (1, .v (.string ⟨⟨v⟩⟩)), (2, .v (.int .i64 i)), (7, .v (.bool v1)), (8, .v (.int .i64 v5)), (36, .v (.bool ((decide (i ≥ 0)) && (decide (i < v5)))))]) (B' := []) (by kernel_rfl) fun ρ w a hX => ?_
        refine Cx.cond hX (b := ((decide (i ≥ 0)) && (decide (i < v5)))) (by kernel_rfl) (fun hb => ?_) (fun hb => ?_)
        · have h0 := ite_tt h0 hb
          refine wp_seq_k fun K12 hK12 => ?_
          have J12 : ∀ (x12 : Bool), law01_UnitsJoin.j2 x12 = some r → ∀ (ρ : Nat → Nat) (w : World) (F : Heap) (a : Act), Cx 68 w0 F0 No w F [] [] ρ [(6, .v (.bool x12))] a → K12 a w := by
            intro x12 h0  ρ w F a hX
            unfold law01_UnitsJoin.j2 at h0
            refine hK12 _ _ ?_
            refine wp_ret ?_
            have hr := Option.some.inj (show some _ = some _ from h0)
            subst hr
            exact hX.ret0 (ss := [.v (.bool x12)]) (by kernel_rfl) (by kernel_rfl) rfl
          refine wp_region_list ?_
          refine hX.part [] 2 [0, 1, 2, 38] (l' := [(0, .v (.string ⟨⟨u⟩⟩)), (1, .v (.string ⟨⟨v⟩⟩)), (2, .v (.int .i64 i)), (38, .v (.bool v1))]) (B' := []) (by kernel_rfl) fun ρ w a hX => ?_
          refine ite_go h0 (fun hb h0 => ?_) (fun hb h0 => ?_)
          · have hX := hX.relit 38 hb (by kernel_rfl)
            refine hX.part [1] 2 [0, 2, 38, 39, 40] (l' := [(0, .v (.string ⟨⟨u⟩⟩)), (2, .v (.int .i64 i)), (38, .v (.bool true)), (39, .v (.string ⟨⟨u⟩⟩)), (40, .v (.string ⟨⟨v⟩⟩))]) (B' := []) (by kernel_rfl) fun ρ w a hX => ?_
            obtain ⟨v9, hv9, h0⟩ := bnd_some h0
            refine hX.catStr (lit := [1]) (by kernel_rfl) (by kernel_rfl) rfl (s := u) (t := v) (r := v9) (by kernel_rfl) (by kernel_rfl) hv9 fun a hX => ?_
            refine hX.part [1] 1 [0, 2, 38, 41, 42] (l' := [(0, .v (.string ⟨⟨u⟩⟩)), (2, .v (.int .i64 i)), (38, .v (.bool true)), (41, .v (.string ⟨⟨v9⟩⟩)), (42, .v (.int .i64 i))]) (B' := []) (by kernel_rfl) fun ρ w a hX => ?_
            obtain ⟨v10, hv10, h0⟩ := bnd_some h0
            refine Cx.call0 hX (lit := [1]) (by kernel_rfl) rfl (by kernel_rfl) ⟨⟨_, Tryd.func23, by kernel_rfl, rfl⟩⟩ (ss := [.v (.string ⟨⟨v9⟩⟩), .v (.int .i64 i)]) (by kernel_rfl) [.v (.string ⟨⟨v9⟩⟩), .v (.int .i64 i)] rfl (fun hg => hg) (fun hv hle hg => units_At.ok v9 i v10 hv10 _ _ hv (hG.mono hle) hg _) (fun s F w a hp hX => ?_)
            subst hp
            refine hX.part [1] 2 [38, 43, 44, 45] (l' := [(38, .v (.bool true)), (43, .v (.int .i64 v10)), (44, .v (.string ⟨⟨u⟩⟩)), (45, .v (.int .i64 i))]) (B' := []) (by kernel_rfl) fun ρ w a hX => ?_
            obtain ⟨v11, hv11, h0⟩ := bnd_some h0
            refine Cx.call0 hX (lit := [1]) (by kernel_rfl) rfl (by kernel_rfl) ⟨⟨_, Tryd.func23, by kernel_rfl, rfl⟩⟩ (ss := [.v (.string ⟨⟨u⟩⟩), .v (.int .i64 i)]) (by kernel_rfl) [.v (.string ⟨⟨u⟩⟩), .v (.int .i64 i)] rfl (fun hg => hg) (fun hv hle hg => units_At.ok u i v11 hv11 _ _ hv (hG.mono hle) hg _) (fun s F w a hp hX => ?_)
            subst hp
            refine hX.part [1] 3 [6] (l' := [(6, .v (.bool (v10 == v11)))]) (B' := []) (by kernel_rfl) fun ρ w a hX => ?_
            refine wpList_end ?_
            have hX := hX.keeps [6] (l' := [(6, .v (.bool (v10 == v11)))]) (by kernel_rfl)
            exact J12 (v10 == v11) h0  _ _ _ _ hX
          · have hX := hX.relit 38 hb (by kernel_rfl)
            refine hX.part [1] 11 [6] (l' := [(6, .v (.bool false))]) (B' := []) (by kernel_rfl) fun ρ w a hX => ?_
            refine wpList_end ?_
            have hX := hX.keeps [6] (l' := [(6, .v (.bool false))]) (by kernel_rfl)
            exact J12 false h0  _ _ _ _ hX
        · have h0 := ite_ff h0 hb
          refine wp_skip ?_
          refine hK10 _ _ ?_
          refine wp_seq_k fun K13 hK13 => ?_
          have J13 : ∀ (x16 : Bool), law01_UnitsJoin.j3 x16 = some r → ∀ (ρ : Nat → Nat) (w : World) (F : Heap) (a : Act), Cx 68 w0 F0 No w F [] [] ρ [(6, .v (.bool x16))] a → K13 a w := by
            intro x16 h0  ρ w F a hX
            unfold law01_UnitsJoin.j3 at h0
            refine hK13 _ _ ?_
            refine wp_ret ?_
            have hr := Option.some.inj (show some _ = some _ from h0)
            subst hr
            exact hX.ret0 (ss := [.v (.bool x16)]) (by kernel_rfl) (by kernel_rfl) rfl
          refine wp_region_list ?_
          refine hX.part [] 2 [0, 1, 2, 8, 50] (l' := [(0, .v (.string ⟨⟨u⟩⟩)), (1, .v (.string ⟨⟨v⟩⟩)), (2, .v (.int .i64 i)), (8, .v (.int .i64 v5)), (50, .v (.bool v1))]) (B' := []) (by kernel_rfl) fun ρ w a hX => ?_
          refine ite_go h0 (fun hb h0 => ?_) (fun hb h0 => ?_)
          · have hX := hX.relit 50 hb (by kernel_rfl)
            refine hX.part [1] 4 [0, 1, 2, 8, 50, 54] (l' := [(0, .v (.string ⟨⟨u⟩⟩)), (1, .v (.string ⟨⟨v⟩⟩)), (2, .v (.int .i64 i)), (8, .v (.int .i64 v5)), (50, .v (.bool true)), (54, .v (.bool (decide (i < v5))))]) (B' := []) (by kernel_rfl) fun ρ w a hX => ?_
            refine ite_go h0 (fun hb h0 => ?_) (fun hb h0 => ?_)
            · have hX := hX.relit 54 hb (by kernel_rfl)
              refine hX.part [1, 5] 14 [6] (l' := [(6, .v (.bool true))]) (B' := []) (by kernel_rfl) fun ρ w a hX => ?_
              refine wpList_end ?_
              have hX := hX.keeps [6] (l' := [(6, .v (.bool true))]) (by kernel_rfl)
              exact J13 true h0  _ _ _ _ hX
            · have hX := hX.relit 54 hb (by kernel_rfl)
              refine hX.part [5] 2 [1, 2, 8, 50, 54, 55, 56] (l' := [(1, .v (.string ⟨⟨v⟩⟩)), (2, .v (.int .i64 i)), (8, .v (.int .i64 v5)), (50, .v (.bool true)), (54, .v (.bool false)), (55, .v (.string ⟨⟨u⟩⟩)), (56, .v (.string ⟨⟨v⟩⟩))]) (B' := []) (by kernel_rfl) fun ρ w a hX => ?_
              obtain ⟨v13, hv13, h0⟩ := bnd_some h0
              refine hX.catStr (lit := [5]) (by kernel_rfl) (by kernel_rfl) rfl (s := u) (t := v) (r := v13) (by kernel_rfl) (by kernel_rfl) hv13 fun a hX => ?_
              refine hX.part [5] 1 [1, 2, 8, 50, 54, 57, 58] (l' := [(1, .v (.string ⟨⟨v⟩⟩)), (2, .v (.int .i64 i)), (8, .v (.int .i64 v5)), (50, .v (.bool true)), (54, .v (.bool false)), (57, .v (.string ⟨⟨v13⟩⟩)), (58, .v (.int .i64 i))]) (B' := []) (by kernel_rfl) fun ρ w a hX => ?_
              obtain ⟨v14, hv14, h0⟩ := bnd_some h0
              refine Cx.call0 hX (lit := [5]) (by kernel_rfl) rfl (by kernel_rfl) ⟨⟨_, Tryd.func23, by kernel_rfl, rfl⟩⟩ (ss := [.v (.string ⟨⟨v13⟩⟩), .v (.int .i64 i)]) (by kernel_rfl) [.v (.string ⟨⟨v13⟩⟩), .v (.int .i64 i)] rfl (fun hg => hg) (fun hv hle hg => units_At.ok v13 i v14 hv14 _ _ hv (hG.mono hle) hg _) (fun s F w a hp hX => ?_)
              subst hp
              refine hX.part [5] 4 [50, 54, 59, 60, 63] (l' := [(50, .v (.bool true)), (54, .v (.bool false)), (59, .v (.int .i64 v14)), (60, .v (.string ⟨⟨v⟩⟩)), (63, .v (.int .i64 (IntKind.wrap .i64 (i - v5))))]) (B' := []) (by kernel_rfl) fun ρ w a hX => ?_
              obtain ⟨v15, hv15, h0⟩ := bnd_some h0
              refine Cx.call0 hX (lit := [5]) (by kernel_rfl) rfl (by kernel_rfl) ⟨⟨_, Tryd.func23, by kernel_rfl, rfl⟩⟩ (ss := [.v (.string ⟨⟨v⟩⟩), .v (.int .i64 (IntKind.wrap .i64 (i - v5)))]) (by kernel_rfl) [.v (.string ⟨⟨v⟩⟩), .v (.int .i64 (IntKind.wrap .i64 (i - v5)))] rfl (fun hg => hg) (fun hv hle hg => units_At.ok v (IntKind.wrap .i64 (i - v5)) v15 hv15 _ _ hv (hG.mono hle) hg _) (fun s F w a hp hX => ?_)
              subst hp
              refine hX.part [1, 5] 4 [6] (l' := [(6, .v (.bool (v14 == v15)))]) (B' := []) (by kernel_rfl) fun ρ w a hX => ?_
              refine wpList_end ?_
              have hX := hX.keeps [6] (l' := [(6, .v (.bool (v14 == v15)))]) (by kernel_rfl)
              exact J13 (v14 == v15) h0  _ _ _ _ hX
          · have hX := hX.relit 50 hb (by kernel_rfl)
            refine hX.part [1, 5] 18 [6] (l' := [(6, .v (.bool false))]) (B' := []) (by kernel_rfl) fun ρ w a hX => ?_
            refine wpList_end ?_
            have hX := hX.keeps [6] (l' := [(6, .v (.bool false))]) (by kernel_rfl)
            exact J13 false h0  _ _ _ _ hX
  refine wp_region_list ?_
  refine hX.part [] 1 [0, 1, 2, 7, 10] (l' := [(0, .v (.string ⟨⟨u⟩⟩)), (1, .v (.string ⟨⟨v⟩⟩)), (2, .v (.int .i64 i)), (7, .v (.bool v1)), (10, .v (.string ⟨⟨u⟩⟩))]) (B' := []) (by kernel_rfl) fun ρ w a hX => ?_
  obtain ⟨v2, hv2, h0⟩ := bnd_some h0
  refine Cx.call0 hX (lit := []) (by kernel_rfl) rfl (by kernel_rfl) ⟨⟨_, Tryd.func21, by kernel_rfl, rfl⟩⟩ (ss := [.v (.string ⟨⟨u⟩⟩)]) (by kernel_rfl) [.v (.string ⟨⟨u⟩⟩)] rfl (fun hg => hg) (fun hv hle hg => units_Check.ok u v2 hv2 _ _ hv (hG.mono hle) hg _) (fun s F w a hp hX => ?_)
  subst hp
  refine hX.part [] 2 [0, 1, 2, 7, 13] (l' := [(0, .v (.string ⟨⟨u⟩⟩)), (1, .v (.string ⟨⟨v⟩⟩)), (2, .v (.int .i64 i)), (7, .v (.bool v1)), (13, .v (.bool (!v2)))]) (B' := []) (by kernel_rfl) fun ρ w a hX => ?_
  refine ite_go h0 (fun hb h0 => ?_) (fun hb h0 => ?_)
  · have hX := hX.relit 13 hb (by kernel_rfl)
    refine hX.part [3] 4 [0, 1, 2, 7, 17] (l' := [(0, .v (.string ⟨⟨u⟩⟩)), (1, .v (.string ⟨⟨v⟩⟩)), (2, .v (.int .i64 i)), (7, .v (.bool v1)), (17, .v (.bool true))]) (B' := []) (by kernel_rfl) fun ρ w a hX => ?_
    refine wpList_end ?_
    have hX := hX.keeps [0, 1, 2, 7, 17] (l' := [(0, .v (.string ⟨⟨u⟩⟩)), (1, .v (.string ⟨⟨v⟩⟩)), (2, .v (.int .i64 i)), (7, .v (.bool v1)), (17, .v (.bool true))]) (by kernel_rfl)
    exact J4 true h0  _ _ _ _ hX
  · have hX := hX.relit 13 hb (by kernel_rfl)
    refine hX.part [3] 1 [0, 1, 2, 7, 13, 14] (l' := [(0, .v (.string ⟨⟨u⟩⟩)), (1, .v (.string ⟨⟨v⟩⟩)), (2, .v (.int .i64 i)), (7, .v (.bool v1)), (13, .v (.bool false)), (14, .v (.string ⟨⟨v⟩⟩))]) (B' := []) (by kernel_rfl) fun ρ w a hX => ?_
    obtain ⟨v3, hv3, h0⟩ := bnd_some h0
    refine Cx.call0 hX (lit := [3]) (by kernel_rfl) rfl (by kernel_rfl) ⟨⟨_, Tryd.func21, by kernel_rfl, rfl⟩⟩ (ss := [.v (.string ⟨⟨v⟩⟩)]) (by kernel_rfl) [.v (.string ⟨⟨v⟩⟩)] rfl (fun hg => hg) (fun hv hle hg => units_Check.ok v v3 hv3 _ _ hv (hG.mono hle) hg _) (fun s F w a hp hX => ?_)
    subst hp
    refine hX.part [3] 2 [0, 1, 2, 7, 17] (l' := [(0, .v (.string ⟨⟨u⟩⟩)), (1, .v (.string ⟨⟨v⟩⟩)), (2, .v (.int .i64 i)), (7, .v (.bool v1)), (17, .v (.bool (!v3)))]) (B' := []) (by kernel_rfl) fun ρ w a hX => ?_
    refine wpList_end ?_
    have hX := hX.keeps [0, 1, 2, 7, 17] (l' := [(0, .v (.string ⟨⟨u⟩⟩)), (1, .v (.string ⟨⟨v⟩⟩)), (2, .v (.int .i64 i)), (7, .v (.bool v1)), (17, .v (.bool (!v3)))]) (by kernel_rfl)
    exact J4 (!v3) h0  _ _ _ _ hX
def ref01_Len (u : Str) : Option (Int) :=
  Option.bind (ref01_List u) fun v1 =>
  some ((v1.length : Nat) : Int)
theorem ref01_Len.ok (u : Str) (r : Int) (h0 : ref01_Len u = some r) (w0 : World) (F0 : Heap) (hv : F0.Sub w0) (hG : Glob F0) (hg : SV.goods F0 [.v (.string ⟨⟨u⟩⟩)]) (ρ : Nat → Nat) :
    Calls Tryd.prog 25 (SV.dens ρ [.v (.string ⟨⟨u⟩⟩)]).toArray w0 (Ret0 w0 F0 fun s => s = .v (.int .i64 r)) := by
  refine calls_of_wp Tryd.func25 rfl ?_
  have hX := Cx.enter (D := No) (B := []) (L := []) (ρ := ρ) (N := 6) Tryd.ntmps25 [.v (.string ⟨⟨u⟩⟩)] (St.start hv) rfl hg (by kernel_rfl) (fun _ h => by cases h) (Nat.le_of_ble_eq_true rfl) No.unfix
  unfold ref01_Len at h0
  refine Cx.rseq hX [] [0] (l' := [(0, .v (.string ⟨⟨u⟩⟩))]) (B' := []) (by kernel_rfl) fun ρ w a hX => ?_
  refine wp_seq_k fun K2 hK2 => ?_
  refine wp_region_list ?_
  refine hX.part [] 1 [3] (l' := [(3, .v (.string ⟨⟨u⟩⟩))]) (B' := []) (by kernel_rfl) fun ρ w a hX => ?_
  obtain ⟨v1, hv1, h0⟩ := bnd_some h0
  refine Cx.call0 hX (lit := []) (by kernel_rfl) rfl (by kernel_rfl) ⟨⟨_, Tryd.func31, by kernel_rfl, rfl⟩⟩ (ss := [.v (.string ⟨⟨u⟩⟩)]) (by kernel_rfl) [.v (.string ⟨⟨u⟩⟩)] rfl (fun hg => hg) (fun hv hle hg => ref01_List.ok u v1 hv1 _ _ hv (hG.mono hle) hg _) (fun s F w a hp hX => ?_)
  obtain ⟨A2, c3, rfl⟩ := hp
  refine hX.part [] 2 [2] (l' := [(2, .v (.int .i64 ((v1.length : Nat) : Int)))]) (B' := []) (by kernel_rfl) fun ρ w a hX => ?_
  refine wpList_end ?_
  refine hK2 _ _ ?_
  refine wp_ret ?_
  have hr := Option.some.inj (show some _ = some _ from h0)
  subst hr
  exact hX.ret0 (ss := [.v (.int .i64 ((v1.length : Nat) : Int))]) (by kernel_rfl) (by kernel_rfl) rfl
def ref01_At (u : Str) (i : Int) : Option (Int) :=
  Option.bind (ref01_List u) fun v1 =>
  if ((decide (i < 0)) || (decide (i ≥ ((v1.length : Nat) : Int)))) = true then
    some (-1)
  else
    Option.bind (getI v1 i) fun v4 =>
    some v4
theorem ref01_At.ok (u : Str) (i : Int) (r : Int) (h0 : ref01_At u i = some r) (w0 : World) (F0 : Heap) (hv : F0.Sub w0) (hG : Glob F0) (hg : SV.goods F0 [.v (.string ⟨⟨u⟩⟩), .v (.int .i64 i)]) (ρ : Nat → Nat) :
    Calls Tryd.prog 26 (SV.dens ρ [.v (.string ⟨⟨u⟩⟩), .v (.int .i64 i)]).toArray w0 (Ret0 w0 F0 fun s => s = .v (.int .i64 r)) := by
  refine calls_of_wp Tryd.func26 rfl ?_
  have hX := Cx.enter (D := No) (B := []) (L := []) (ρ := ρ) (N := 20) Tryd.ntmps26 [.v (.string ⟨⟨u⟩⟩), .v (.int .i64 i)] (St.start hv) rfl hg (by kernel_rfl) (fun _ h => by cases h) (Nat.le_of_ble_eq_true rfl) No.unfix
  unfold ref01_At at h0
  refine Cx.rseq hX [] [0, 1] (l' := [(0, .v (.string ⟨⟨u⟩⟩)), (1, .v (.int .i64 i))]) (B' := []) (by kernel_rfl) fun ρ w a hX => ?_
  refine wp_seq_k fun K2 hK2 => ?_
  refine wp_region_list ?_
  refine hX.part [] 1 [1, 6] (l' := [(1, .v (.int .i64 i)), (6, .v (.string ⟨⟨u⟩⟩))]) (B' := []) (by kernel_rfl) fun ρ w a hX => ?_
  obtain ⟨v1, hv1, h0⟩ := bnd_some h0
  refine Cx.call0 hX (lit := []) (by kernel_rfl) rfl (by kernel_rfl) ⟨⟨_, Tryd.func31, by kernel_rfl, rfl⟩⟩ (ss := [.v (.string ⟨⟨u⟩⟩)]) (by kernel_rfl) [.v (.string ⟨⟨u⟩⟩)] rfl (fun hg => hg) (fun hv hle hg => ref01_List.ok u v1 hv1 _ _ hv (hG.mono hle) hg _) (fun s F w a hp hX => ?_)
  obtain ⟨A2, c3, rfl⟩ := hp
  refine hX.part [] 1 [1, 5] (l' := [(1, .v (.int .i64 i)), (5, SV.sl (kInt .i64) v1 A2 c3)]) (B' := []) (by kernel_rfl) fun ρ w a hX => ?_
  refine wpList_end ?_
  refine hK2 _ _ ?_
  refine wp_seq_k fun K3 hK3 => ?_
  refine Cx.rseq hX [] [1, 5, 15] (l' := [(1, .v (.int .i64 i)), (5, SV.sl (kInt .i64) v1 A2 c3), (15, .v (.bool ((decide (i < 0)) || (decide (i ≥ ((v1.length : Nat) : Int))))))]) (B' := []) (by kernel_rfl) fun ρ w a hX => ?_
  refine Cx.cond hX (b := ((decide (i < 0)) || (decide (i ≥ ((v1.length : Nat) : Int))))) (by kernel_rfl) (fun hb => ?_) (fun hb => ?_)
  · have h0 := ite_tt h0 hb
    refine Cx.rseq hX [] [4] (l' := [(4, .v (.int .i64 (-1)))]) (B' := []) (by kernel_rfl) fun ρ w a hX => ?_
    refine wp_ret ?_
    have hr := Option.some.inj (show some _ = some _ from h0)
    subst hr
    exact hX.ret0 (ss := [.v (.int .i64 (-1))]) (by kernel_rfl) (by kernel_rfl) rfl
  · have h0 := ite_ff h0 hb
    refine wp_skip ?_
    refine hK3 _ _ ?_
    refine wp_seq_k fun K6 hK6 => ?_
    refine wp_region_list ?_
    refine hX.part [] 2 [16, 17] (l' := [(16, SV.sl (kInt .i64) v1 A2 c3), (17, .v (.int .i64 i))]) (B' := []) (by kernel_rfl) fun ρ w a hX => ?_
    obtain ⟨v4, hv4, h0⟩ := bnd_some h0
    refine hX.idxSl (lit := []) (by kernel_rfl) (by kernel_rfl) rfl (d := (kInt .i64)) (e := 3) (xs := v1) (A := A2) (c := c3) (k := .i64) (n := i) (v := v4) (by kernel_rfl) (by kernel_rfl) (by kernel_rfl) (by kernel_rfl) hv4 fun y5 b6 o7 a hX => ?_
    refine hX.part [] 2 [4] (l' := [(4, .v (.int .i64 v4))]) (B' := []) (by kernel_rfl) fun ρ w a hX => ?_
    refine wpList_end ?_
    refine hK6 _ _ ?_
    refine wp_ret ?_
    have hr := Option.some.inj (show some _ = some _ from h0)
    subst hr
    exact hX.ret0 (ss := [.v (.int .i64 v4)]) (by kernel_rfl) (by kernel_rfl) rfl
def units_Cut (u : Str) (from_ : Int) (to_ : Int) : Option (Str) :=
  Option.bind (units_Len u) fun v1 =>
  if (decide ((if 0 > from_ then 0 else from_) ≥ (if v1 < to_ then v1 else to_))) = true then
    some ([] : Str)
  else
    Option.bind (cutL u (IntKind.wrap .i64 (2 * (if 0 > from_ then 0 else from_))) (IntKind.wrap .i64 (2 * (if v1 < to_ then v1 else to_)))) fun v2 =>
    some v2
theorem units_Cut.ok (u : Str) (from_ : Int) (to_ : Int) (r : Str) (h0 : units_Cut u from_ to_ = some r) (w0 : World) (F0 : Heap) (hv : F0.Sub w0) (hG : Glob F0) (hg : SV.goods F0 [.v (.string ⟨⟨u⟩⟩), .v (.int .i64 from_), .v (.int .i64 to_)]) (ρ : Nat → Nat) :
    Calls Tryd.prog 27 (SV.dens ρ [.v (.string ⟨⟨u⟩⟩), .v (.int .i64 from_), .v (.int .i64 to_)]).toArray w0 (Ret0 w0 F0 fun s => s = .v (.string ⟨⟨r⟩⟩)) := by
  refine calls_of_wp Tryd.func27 rfl ?_
  have hX := Cx.enter (D := No) (B := []) (L := []) (ρ := ρ) (N := 22) Tryd.ntmps27 [.v (.string ⟨⟨u⟩⟩), .v (.int .i64 from_), .v (.int .i64 to_)] (St.start hv) rfl hg (by kernel_rfl) (fun _ h => by cases h) (Nat.le_of_ble_eq_true rfl) No.unfix
  unfold units_Cut at h0
  refine Cx.rseq hX [] [0, 1, 2] (l' := [(0, .v (.string ⟨⟨u⟩⟩)), (1, .v (.int .i64 from_)), (2, .v (.int .i64 to_))]) (B' := []) (by kernel_rfl) fun ρ w a hX => ?_
  refine wp_seq_k fun K2 hK2 => ?_
  refine wp_region_list ?_
  refine hX.part [] 4 [0, 1, 2, 8, 9, 10] (l' := [(0, .v (.string ⟨⟨u⟩⟩)), (1, .v (.int .i64 from_)), (2, .v (.int .i64 to_)), (8, .v (.int .i64 (if 0 > from_ then 0 else from_))), (9, .v (.int .i64 to_)), (10, .v (.string ⟨⟨u⟩⟩))]) (B' := []) (by kernel_rfl) fun ρ w a hX => ?_
  obtain ⟨v1, hv1, h0⟩ := bnd_some h0
  refine Cx.call0 hX (lit := []) (by kernel_rfl) rfl (by kernel_rfl) ⟨⟨_, Tryd.func22, by kernel_rfl, rfl⟩⟩ (ss := [.v (.string ⟨⟨u⟩⟩)]) (by kernel_rfl) [.v (.string ⟨⟨u⟩⟩)] rfl (fun hg => hg) (fun hv hle hg => units_Len.ok u v1 hv1 _ _ hv (hG.mono hle) hg _) (fun s F w a hp hX => ?_)
  subst hp
  refine hX.part [] 3 [0, 1, 2] (l' := [(0, .v (.string ⟨⟨u⟩⟩)), (1, .v (.int .i64 (if 0 > from_ then 0 else from_))), (2, .v (.int .i64 (if v1 < to_ then v1 else to_)))]) (B' := []) (by kernel_rfl) fun ρ w a hX => ?_
  refine wpList_end ?_
  refine hK2 _ _ ?_
  refine wp_seq_k fun K3 hK3 => ?_
  refine Cx.rseq hX [] [0, 1, 2, 15] (l' := [(0, .v (.string ⟨⟨u⟩⟩)), (1, .v (.int .i64 (if 0 > from_ then 0 else from_))), (2, .v (.int .i64 (if v1 < to_ then v1 else to_))), (15, .v (.bool (decide ((if 0 > from_ then 0 else from_) ≥ (if v1 < to_ then v1 else to_)))))]) (B' := []) (by kernel_rfl) fun ρ w a hX => ?_
  refine Cx.cond hX (b := (decide ((if 0 > from_ then 0 else from_) ≥ (if v1 < to_ then v1 else to_)))) (by kernel_rfl) (fun hb => ?_) (fun hb => ?_)
  · have h0 := ite_tt h0 hb
    refine Cx.rseq hX [] [6] (l' := [(6, .v (.string ⟨⟨([] : Str)⟩⟩))]) (B' := []) (by kernel_rfl) fun ρ w a hX => ?_
    refine wp_ret ?_
    have hr := Option.some.inj (show some _ = some _ from h0)
    subst hr
    exact hX.ret0 (ss := [.v (.string ⟨⟨([] : Str)⟩⟩)]) (by kernel_rfl) (by kernel_rfl) rfl
  · have h0 := ite_ff h0 hb
    refine wp_skip ?_
    refine hK3 _ _ ?_
    refine wp_seq_k fun K6 hK6 => ?_
    refine wp_region_list ?_
    refine hX.part [] 5 [16, 18, 20] (l' := [(16, .v (.string ⟨⟨u⟩⟩)), (18, .v (.int .i64 (IntKind.wrap .i64 (2 * (if 0 > from_ then 0 else from_))))), (20, .v (.int .i64 (IntKind.wrap .i64 (2 * (if v1 < to_ then v1 else to_)))))]) (B' := []) (by kernel_rfl) fun ρ w a hX => ?_
    obtain ⟨v2, hv2, h0⟩ := bnd_some h0
    refine hX.cutStr (lit := []) (by kernel_rfl) (by kernel_rfl) rfl (s := u) (ol := some (IntKind.wrap .i64 (2 * (if 0 > from_ then 0 else from_)))) (oh := some (IntKind.wrap .i64 (2 * (if v1 < to_ then v1 else to_)))) (r := v2) (by kernel_rfl) (by kernel_rfl) (by kernel_rfl) (by kernel_rfl) hv2 fun a hX => ?_
    refine hX.part [] 1 [6] (l' := [(6, .v (.string ⟨⟨v2⟩⟩))]) (B' := []) (by kernel_rfl) fun ρ w a hX => ?_
    refine wpList_end ?_
    refine hK6 _ _ ?_
    refine wp_ret ?_
    have hr := Option.some.inj (show some _ = some _ from h0)
    subst hr
    exact hX.ret0 (ss := [.v (.string ⟨⟨v2⟩⟩)]) (by kernel_rfl) (by kernel_rfl) rfl
def ref01_Cut.j2 (x14 : Int) (x25 : List Int) : Option ((Int × (List Int)) ⊕ (((List Int)))) :=
  some (.inl ((IntKind.wrap .i64 (x14 + 1)), x25))
def ref01_Cut.l1 (from_ : Int) (to_ : Int) (v1 : (List Int)) (s : Int × (List Int)) : Option ((Int × (List Int)) ⊕ (((List Int)))) := match s with
  | (x14, x15) =>
  if (decide (x14 < ((v1.length : Nat) : Int))) = true then
    Option.bind (getI v1 x14) fun v18 =>
    if ((decide (x14 ≥ from_)) && (decide (x14 < to_))) = true then
      Option.bind (room (x15.length + 1)) fun u24 =>
      ref01_Cut.j2 x14 (x15 ++ [v18])
    else
      ref01_Cut.j2 x14 x15
  else
    some (.inr x15)
def ref01_Cut (u : Str) (from_ : Int) (to_ : Int) : Option (Str) :=
  Option.bind (ref01_List u) fun v1 =>
  Option.bind (loopM (ref01_Cut.l1 from_ to_ v1) (0, ([] : List Int))) fun e => match e with
  | x32 =>
    Option.bind (ref01_Make x32) fun v35 =>
    some v35
theorem ref01_Cut.ok (u : Str) (from_ : Int) (to_ : Int) (r : Str) (h0 : ref01_Cut u from_ to_ = some r) (w0 : World) (F0 : Heap) (hv : F0.Sub w0) (hG : Glob F0) (hg : SV.goods F0 [.v (.string ⟨⟨u⟩⟩), .v (.int .i64 from_), .v (.int .i64 to_)]) (ρ : Nat → Nat) :
    Calls Tryd.prog 28 (SV.dens ρ [.v (.string ⟨⟨u⟩⟩), .v (.int .i64 from_), .v (.int .i64 to_)]).toArray w0 (Ret0 w0 F0 fun s => s = .v (.string ⟨⟨r⟩⟩)) := by
  refine calls_of_wp Tryd.func28 rfl ?_
  have hX := Cx.enter (D := No) (B := []) (L := []) (ρ := ρ) (N := 33) Tryd.ntmps28 [.v (.string ⟨⟨u⟩⟩), .v (.int .i64 from_), .v (.int .i64 to_)] (St.start hv) rfl hg (by kernel_rfl) (fun _ h => by cases h) (Nat.le_of_ble_eq_true rfl) No.unfix
  unfold ref01_Cut at h0
  refine Cx.rseq hX [] [0, 1, 2] (l' := [(0, .v (.string ⟨⟨u⟩⟩)), (1, .v (.int .i64 from_)), (2, .v (.int .i64 to_))]) (B' := []) (by kernel_rfl) fun ρ w a hX => ?_
  refine Cx.rseq hX [] [0, 1, 2, 7] (l' := [(0, .v (.string ⟨⟨u⟩⟩)), (1, .v (.int .i64 from_)), (2, .v (.int .i64 to_)), (7, .v (.slice none 0 0))]) (B' := []) (by kernel_rfl) fun ρ w a hX => ?_
  refine wp_seq_k fun K3 hK3 => ?_
  refine wp_seq_k fun K4 hK4 => ?_
  refine wp_region_list ?_
  refine hX.part [] 1 [1, 2, 7, 10] (l' := [(1, .v (.int .i64 from_)), (2, .v (.int .i64 to_)), (7, .v (.slice none 0 0)), (10, .v (.string ⟨⟨u⟩⟩))]) (B' := []) (by kernel_rfl) fun ρ w a hX => ?_
  obtain ⟨v1, hv1, h0⟩ := bnd_some h0
  refine Cx.call0 hX (lit := []) (by kernel_rfl) rfl (by kernel_rfl) ⟨⟨_, Tryd.func31, by kernel_rfl, rfl⟩⟩ (ss := [.v (.string ⟨⟨u⟩⟩)]) (by kernel_rfl) [.v (.string ⟨⟨u⟩⟩)] rfl (fun hg => hg) (fun hv hle hg => ref01_List.ok u v1 hv1 _ _ hv (hG.mono hle) hg _) (fun s F w a hp hX => ?_)
  obtain ⟨A2, c3, rfl⟩ := hp
  refine hX.part [] 2 [1, 2, 7, 11, 12, 13] (l' := [(1, .v (.int .i64 from_)), (2, .v (.int .i64 to_)), (7, .v (.slice none 0 0)), (11, SV.sl (kInt .i64) v1 A2 c3), (12, .v (.int .i64 ((v1.length : Nat) : Int))), (13, .v (.int .i64 0))]) (B' := []) (by kernel_rfl) fun ρ w a hX => ?_
  refine wpList_end ?_
  refine hK4 _ _ ?_
  refine wp_block ?_
  have hX := hX.newAcc 3 (kInt .i64)
  have hX := hX.keeps [1, 2, 7, 11, 12, 13] (l' := [(1, .v (.int .i64 from_)), (2, .v (.int .i64 to_)), (7, .v (.slice none ([] : List Int).length 0)), (11, SV.sl (kInt .i64) v1 A2 c3), (12, .v (.int .i64 ((v1.length : Nat) : Int))), (13, .v (.int .i64 0))]) (by kernel_rfl)
  obtain ⟨e1, he1, h0⟩ := bnd_some h0
  have E1x0 : ∀ (x32 : List Int), e1 = x32 → ∀ (A33 : Option Addr) (c34 : Nat) (ρ : Nat → Nat) (w : World) (F : Heap) (a : Act), Cx 33 w0 F0 No w F [accP 3 (kInt .i64) A33 c34 x32] [] ρ [(7, .v (.slice A33 x32.length c34))] a → K3 a w := by
    intro x32 he A33 c34 ρ w F a hX
    replace he := he.symm
    subst he
    (try dsimp only at h0)
    refine hK3 _ _ ?_
    refine wp_seq_k fun K15 hK15 => ?_
    refine wp_region_list ?_
    refine hX.part [] 1 [31] (l' := [(31, .v (.slice A33 x32.length c34))]) (B' := []) (by kernel_rfl) fun ρ w a hX => ?_
    obtain ⟨v35, hv35, h0⟩ := bnd_some h0
    obtain ⟨F, hX⟩ := hX.freeze (i := 0) (t := 31) (e := 3) (d := (kInt .i64)) (A := A33) (c := c34) (xs := x32) rfl (by kernel_rfl)
    have hX : Cx 33 _ _ _ _ _ [] [] ρ _ a := hX
    refine Cx.call0 hX (lit := []) (by kernel_rfl) rfl (by kernel_rfl) ⟨⟨_, Tryd.func30, by kernel_rfl, rfl⟩⟩ (ss := [SV.sl (kInt .i64) x32 A33 c34]) (by kernel_rfl) [SV.sl (kInt .i64) x32 A33 c34] rfl (fun hg => hg) (fun hv hle hg => ref01_Make.ok x32 (A33, c34) v35 hv35 _ _ hv (hG.mono hle) hg _) (fun s F w a hp hX => ?_)
    subst hp
    refine hX.part [] 1 [6] (l' := [(6, .v (.string ⟨⟨v35⟩⟩))]) (B' := []) (by kernel_rfl) fun ρ w a hX => ?_
    refine wpList_end ?_
    refine hK15 _ _ ?_
    refine wp_ret ?_
    have hr := Option.some.inj (show some _ = some _ from h0)
    subst hr
    exact hX.ret0 (ss := [.v (.string ⟨⟨v35⟩⟩)]) (by kernel_rfl) (by kernel_rfl) rfl
  refine loop_go (fun (s : Int × (List Int)) a w => match s with | (x14, x15) => ∃ (A16 : Option Addr) (c17 : Nat) (ρ : Nat → Nat) (F : Heap), Cx 33 w0 F0 No w F [accP 3 (kInt .i64) A16 c17 x15] [] ρ [(1, .v (.int .i64 from_)), (2, .v (.int .i64 to_)), (7, .v (.slice A16 x15.length c17)), (11, SV.sl (kInt .i64) v1 A2 c3), (12, .v (.int .i64 ((v1.length : Nat) : Int))), (13, .v (.int .i64 x14))] a) he1 (fun LW1 s o1 h1 hb1 hx1 a w hI => ?_) _ _ ?_
  · obtain ⟨x14, x15⟩ := s
    obtain ⟨A16, c17, ρ, F, hX⟩ := hI
    unfold ref01_Cut.l1 at h1
    (try dsimp only at h1)
    refine Cx.rseq hX [] [1, 2, 7, 11, 12, 13, 14] (l' := [(1, .v (.int .i64 from_)), (2, .v (.int .i64 to_)), (7, .v (.slice A16 x15.length c17)), (11, SV.sl (kInt .i64) v1 A2 c3), (12, .v (.int .i64 ((v1.length : Nat) : Int))), (13, .v (.int .i64 x14)), (14, .v (.bool (decide (x14 < ((v1.length : Nat) : Int)))))]) (B' := []) (by kernel_rfl) fun ρ w a hX => ?_
    refine wp_seq_k fun K11 hK11 => ?_
    refine Cx.cond hX (b := (decide (x14 < ((v1.length : Nat) : Int)))) (by kernel_rfl) (fun hb => ?_) (fun hb => ?_)
    · have h1 := ite_tt h1 hb
      refine wp_skip ?_
      refine hK11 _ _ ?_
      refine wp_seq_k fun K12 hK12 => ?_
      have J12 : ∀ (x25 : List Int), ref01_Cut.j2 x14 x25 = some o1 → ∀ (A26 : Option Addr) (c27 : Nat) (ρ : Nat → Nat) (w : World) (F : Heap) (a : Act), Cx 33 w0 F0 No w F [accP 3 (kInt .i64) A26 c27 x25] [] ρ [(1, .v (.int .i64 from_)), (2, .v (.int .i64 to_)), (7, .v (.slice A26 x25.length c27)), (11, SV.sl (kInt .i64) v1 A2 c3), (12, .v (.int .i64 ((v1.length : Nat) : Int))), (13, .v (.int .i64 x14))] a → K12 a w := by
        intro x25 h1 A26 c27 ρ w F a hX
        unfold ref01_Cut.j2 at h1
        refine hK12 _ _ ?_
        refine Cx.region hX [] [1, 2, 7, 11, 12, 13] (l' := [(1, .v (.int .i64 from_)), (2, .v (.int .i64 to_)), (7, .v (.slice A26 x25.length c27)), (11, SV.sl (kInt .i64) v1 A2 c3), (12, .v (.int .i64 ((v1.length : Nat) : Int))), (13, .v (.int .i64 (IntKind.wrap .i64 (x14 + 1))))]) (B' := []) (by kernel_rfl) fun ρ w a hX => ?_
        have hX := hX.keeps [1, 2, 7, 11, 12, 13] (l' := [(1, .v (.int .i64 from_)), (2, .v (.int .i64 to_)), (7, .v (.slice A26 x25.length c27)), (11, SV.sl (kInt .i64) v1 A2 c3), (12, .v (.int .i64 ((v1.length : Nat) : Int))), (13, .v (.int .i64 (IntKind.wrap .i64 (x14 + 1))))]) (by kernel_rfl)
        exact hb1 ((IntKind.wrap .i64 (x14 + 1)), x25) (out_eq h1) _ _ ⟨A26, c27, _, _, hX⟩
      refine wp_block ?_
      refine wp_seq_k fun K13 hK13 => ?_
      refine wp_region_list ?_
      refine hX.part [] 1 [1, 2, 7, 11, 12, 13, 15] (l' := [(1, .v (.int .i64 from_)), (2, .v (.int .i64 to_)), (7, .v (.slice A16 x15.length c17)), (11, SV.sl (kInt .i64) v1 A2 c3), (12, .v (.int .i64 ((v1.length : Nat) : Int))), (13, .v (.int .i64 x14)), (15, .v (.int .i64 x14))]) (B' := []) (by kernel_rfl) fun ρ w a hX => ?_
      obtain ⟨v18, hv18, h1⟩ := bnd_some h1
      refine hX.idxSl (lit := []) (by kernel_rfl) (by kernel_rfl) rfl (d := (kInt .i64)) (e := 3) (xs := v1) (A := A2) (c := c3) (k := .i64) (n := x14) (v := v18) (by kernel_rfl) (by kernel_rfl) (by kernel_rfl) (by kernel_rfl) hv18 fun y19 b20 o21 a hX => ?_
      refine hX.part [] 3 [1, 2, 7, 8, 9, 11, 12, 13] (l' := [(1, .v (.int .i64 from_)), (2, .v (.int .i64 to_)), (7, .v (.slice A16 x15.length c17)), (8, .v (.int .i64 x14)), (9, .v (.int .i64 v18)), (11, SV.sl (kInt .i64) v1 A2 c3), (12, .v (.int .i64 ((v1.length : Nat) : Int))), (13, .v (.int .i64 x14))]) (B' := []) (by kernel_rfl) fun ρ w a hX => ?_
      refine wpList_end ?_
      refine hK13 _ _ ?_
      refine Cx.rseq hX [] [1, 2, 7, 9, 11, 12, 13, 25] (l' := [(1, .v (.int .i64 from_)), (2, .v (.int .i64 to_)), (7, .v (.slice A16 x15.length c17)), (9, .v (.int .i64 v18)), (11, SV.sl (kInt .i64) v1 A2 c3), (12, .v (.int .i64 ((v1.length : Nat) : Int))), (13, .v (.int .i64 x14)), (25, .v (.bool ((decide (x14 ≥ from_)) && (decide (x14 < to_)))))]) (B' := []) (by kernel_rfl) fun ρ w a hX => ?_
      refine Cx.cond hX (b := ((decide (x14 ≥ from_)) && (decide (x14 < to_)))) (by kernel_rfl) (fun hb => ?_) (fun hb => ?_)
      · have h1 := ite_tt h1 hb
        refine wp_region_list ?_
        refine hX.part [] 3 [1, 2, 7, 11, 12, 13, 26, 28] (l' := [(1, .v (.int .i64 from_)), (2, .v (.int .i64 to_)), (7, .v (.slice A16 x15.length c17)), (11, SV.sl (kInt .i64) v1 A2 c3), (12, .v (.int .i64 ((v1.length : Nat) : Int))), (13, .v (.int .i64 x14)), (26, .v (.slice A16 x15.length c17)), (28, .slc 0 0 1 1)]) (B' := [some ⟨3, [.v (.int .i64 v18)]⟩]) (by kernel_rfl) fun ρ w a hX => ?_
        obtain ⟨u24, hu24, h1⟩ := bnd_some h1
        refine hX.appLit (d := (kInt .i64)) (k := 0) (m := 1) (bytes := 8) (cells := [.v (.int .i64 v18)]) (lit := []) (i := 0) (e := 3) (xs := x15) (A := A16) (c := c17) ([(v18, ())] : List (Int × ((kInt .i64)).Y)) (by kernel_rfl) (by kernel_rfl) rfl rfl (by kernel_rfl) (by kernel_rfl) (by kernel_rfl) (by kernel_rfl) (by kernel_rfl) rfl rfl (by decide) hu24 ⟨_, rfl⟩ fun A22 c23 w a hX => ?_
        have hX : Cx 33 _ _ _ _ _ [accP 3 (kInt .i64) A22 c23 (x15 ++ [v18])] [some ⟨3, [.v (.int .i64 v18)]⟩] ρ _ a := hX
        refine hX.part [] 1 [1, 2, 7, 11, 12, 13] (l' := [(1, .v (.int .i64 from_)), (2, .v (.int .i64 to_)), (7, .v (.slice A22 (x15 ++ [v18]).length c23)), (11, SV.sl (kInt .i64) v1 A2 c3), (12, .v (.int .i64 ((v1.length : Nat) : Int))), (13, .v (.int .i64 x14))]) (B' := [some ⟨3, [.v (.int .i64 v18)]⟩]) (by kernel_rfl) fun ρ w a hX => ?_
        refine wpList_end ?_
        have hX := hX.keeps [1, 2, 7, 11, 12, 13] (l' := [(1, .v (.int .i64 from_)), (2, .v (.int .i64 to_)), (7, .v (.slice A22 (x15 ++ [v18]).length c23)), (11, SV.sl (kInt .i64) v1 A2 c3), (12, .v (.int .i64 ((v1.length : Nat) : Int))), (13, .v (.int .i64 x14))]) (by kernel_rfl)
        have hX := hX.shrink 0 (B' := []) (by kernel_rfl) (Nat.le_of_ble_eq_true rfl) (by kernel_rfl) (by kernel_rfl) (Nat.zero_le _)
        exact J12 (x15 ++ [v18]) h1 A22 c23 _ _ _ _ hX
      · have h1 := ite_ff h1 hb
        refine wp_skip ?_
        have hX := hX.keeps [1, 2, 7, 11, 12, 13] (l' := [(1, .v (.int .i64 from_)), (2, .v (.int .i64 to_)), (7, .v (.slice A16 x15.length c17)), (11, SV.sl (kInt .i64) v1 A2 c3), (12, .v (.int .i64 ((v1.length : Nat) : Int))), (13, .v (.int .i64 x14))]) (by kernel_rfl)
        exact J12 x15 h1 A16 c17 _ _ _ _ hX
    · have h1 := ite_ff h1 hb
      refine wp_exit ?_
      have hX := hX.keeps [7] (l' := [(7, .v (.slice A16 x15.length c17))]) (by kernel_rfl)
      exact E1x0 x15 (hx1 _ (out_eq h1)).symm A16 c17 _ _ _ _ hX
  · exact ⟨none, 0, _, _, hX⟩
def law01_UnitsLook.j1 (x10 : Bool) : Option (Bool) :=
  some x10
def law01_UnitsLook (u : Str) (i : Int) (from_ : Int) (to_ : Int) : Option (Bool) :=
  Option.bind (law01_live) fun v1 =>
  if v1 = true then
    Option.bind (units_Check u) fun v2 =>
    Option.bind (ref01_Check u) fun v3 =>
    if (v2 == v3) = true then
      Option.bind (units_Len u) fun v4 =>
      Option.bind (ref01_Len u) fun v5 =>
      if (v4 == v5) = true then
        Option.bind (units_At u i) fun v6 =>
        Option.bind (ref01_At u i) fun v7 =>
        if (v6 == v7) = true then
          Option.bind (units_Cut u from_ to_) fun v8 =>
          Option.bind (ref01_Cut u from_ to_) fun v9 =>
          law01_UnitsLook.j1 (v8 == v9)
        else
          law01_UnitsLook.j1 false
      else
        law01_UnitsLook.j1 false
    else
      law01_UnitsLook.j1 false
  else
    law01_UnitsLook.j1 false
theorem law01_UnitsLook.ok (u : Str) (i : Int) (from_ : Int) (to_ : Int) (r : Bool) (h0 : law01_UnitsLook u i from_ to_ = some r) (w0 : World) (F0 : Heap) (hv : F0.Sub w0) (hG : Glob F0) (hg : SV.goods F0 [.v (.string ⟨⟨u⟩⟩), .v (.int .i64 i), .v (.int .i64 from_), .v (.int .i64 to_)]) (ρ : Nat → Nat) :
    Calls Tryd.prog 9 (SV.dens ρ [.v (.string ⟨⟨u⟩⟩), .v (.int .i64 i), .v (.int .i64 from_), .v (.int .i64 to_)]).toArray w0 (Ret0 w0 F0 fun s => s = .v (.bool r)) := by
  refine calls_of_wp Tryd.func9 rfl ?_
  have hX := Cx.enter (D := No) (B := []) (L := []) (ρ := ρ) (N := 44) Tryd.ntmps9 [.v (.string ⟨⟨u⟩⟩), .v (.int .i64 i), .v (.int .i64 from_), .v (.int .i64 to_)] (St.start hv) rfl hg (by kernel_rfl) (fun _ h => by cases h) (Nat.le_of_ble_eq_true rfl) No.unfix
  unfold law01_UnitsLook at h0
  refine Cx.rseq hX [] [0, 1, 2, 3] (l' := [(0, .v (.string ⟨⟨u⟩⟩)), (1, .v (.int .i64 i)), (2, .v (.int .i64 from_)), (3, .v (.int .i64 to_))]) (B' := []) (by kernel_rfl) fun ρ w a hX => ?_
  refine wp_seq_k fun K2 hK2 => ?_
  have J2 : ∀ (x10 : Bool), law01_UnitsLook.j1 x10 = some r → ∀ (ρ : Nat → Nat) (w : World) (F : Heap) (a : Act), Cx 44 w0 F0 No w F [] [] ρ [(8, .v (.bool x10))] a → K2 a w := by
    intro x10 h0  ρ w F a hX
    unfold law01_UnitsLook.j1 at h0
    refine hK2 _ _ ?_
    refine wp_ret ?_
    have hr := Option.some.inj (show some _ = some _ from h0)
    subst hr
    exact hX.ret0 (ss := [.v (.bool x10)]) (by kernel_rfl) (by kernel_rfl) rfl
  refine wp_region_list ?_
  refine hX.part [] 0 [0, 1, 2, 3] (l' := [(0, .v (.string ⟨⟨u⟩⟩)), (1, .v (.int .i64 i)), (2, .v (.int .i64 from_)), (3, .v (.int .i64 to_))]) (B' := []) (by kernel_rfl) fun ρ w a hX => ?_
  obtain ⟨v1, hv1, h0⟩ := bnd_some h0
  refine Cx.call0 hX (lit := []) (by kernel_rfl) rfl (by kernel_rfl) ⟨⟨_, Tryd.func14, by kernel_rfl, rfl⟩⟩ (ss := []) (by kernel_rfl) [] rfl (fun hg => hg) (fun hv hle hg => law01_live.ok v1 hv1 _ _ hv (hG.mono hle) hg _) (fun s F w a hp hX => ?_)
  subst hp
  refine hX.part [] 1 [0, 1, 2, 3, 10] (l' := [(0, .v (.string ⟨⟨u⟩⟩)), (1, .v (.int .i64 i)), (2, .v (.int .i64 from_)), (3, .v (.int .i64 to_)), (10, .v (.bool v1))]) (B' := []) (by kernel_rfl) fun ρ w a hX => ?_
  refine ite_go h0 (fun hb h0 => ?_) (fun hb h0 => ?_)
  · have hX := hX.relit 10 hb (by kernel_rfl)
    refine hX.part [1] 1 [0, 1, 2, 3, 10, 11] (l' := [(0, .v (.string ⟨⟨u⟩⟩)), (1, .v (.int .i64 i)), (2, .v (.int .i64 from_)), (3, .v (.int .i64 to_)), (10, .v (.bool true)), (11, .v (.string ⟨⟨u⟩⟩))]) (B' := []) (by kernel_rfl) fun ρ w a hX => ?_
    obtain ⟨v2, hv2, h0⟩ := bnd_some h0
    refine Cx.call0 hX (lit := [1]) (by kernel_rfl) rfl (by kernel_rfl) ⟨⟨_, Tryd.func21, by kernel_rfl, rfl⟩⟩ (ss := [.v (.string ⟨⟨u⟩⟩)]) (by kernel_rfl) [.v (.string ⟨⟨u⟩⟩)] rfl (fun hg => hg) (fun hv hle hg => units_Check.ok u v2 hv2 _ _ hv (hG.mono hle) hg _) (fun s F w a hp hX => ?_)
    subst hp
    refine hX.part [1] 1 [0, 1, 2, 3, 10, 12, 13] (l' := [(0, .v (.string ⟨⟨u⟩⟩)), (1, .v (.int .i64 i)), (2, .v (.int .i64 from_)), (3, .v (.int .i64 to_)), (10, .v (.bool true)), (12, .v (.bool v2)), (13, .v (.string ⟨⟨u⟩⟩))]) (B' := []) (by kernel_rfl) fun ρ w a hX => ?_
    obtain ⟨v3, hv3, h0⟩ := bnd_some h0
    refine Cx.call0 hX (lit := [1]) (by kernel_rfl) rfl (by kernel_rfl) ⟨⟨_, Tryd.func24, by kernel_rfl, rfl⟩⟩ (ss := [.v (.string ⟨⟨u⟩⟩)]) (by kernel_rfl) [.v (.string ⟨⟨u⟩⟩)] rfl (fun hg => hg) (fun hv hle hg => ref01_Check.ok u v3 hv3 _ _ hv (hG.mono hle) hg _) (fun s F w a hp hX => ?_)
    subst hp
    refine hX.part [1] 3 [0, 1, 2, 3, 17] (l' := [(0, .v (.string ⟨⟨u⟩⟩)), (1, .v (.int .i64 i)), (2, .v (.int .i64 from_)), (3, .v (.int .i64 to_)), (17, .v (.bool (v2 == v3)))]) (B' := []) (by kernel_rfl) fun ρ w a hX => ?_
    refine ite_go h0 (fun hb h0 => ?_) (fun hb h0 => ?_)
    · have hX := hX.relit 17 hb (by kernel_rfl)
      refine hX.part [8] 1 [0, 1, 2, 3, 17, 18] (l' := [(0, .v (.string ⟨⟨u⟩⟩)), (1, .v (.int .i64 i)), (2, .v (.int .i64 from_)), (3, .v (.int .i64 to_)), (17, .v (.bool true)), (18, .v (.string ⟨⟨u⟩⟩))]) (B' := []) (by kernel_rfl) fun ρ w a hX => ?_
      obtain ⟨v4, hv4, h0⟩ := bnd_some h0
      refine Cx.call0 hX (lit := [8]) (by kernel_rfl) rfl (by kernel_rfl) ⟨⟨_, Tryd.func22, by kernel_rfl, rfl⟩⟩ (ss := [.v (.string ⟨⟨u⟩⟩)]) (by kernel_rfl) [.v (.string ⟨⟨u⟩⟩)] rfl (fun hg => hg) (fun hv hle hg => units_Len.ok u v4 hv4 _ _ hv (hG.mono hle) hg _) (fun s F w a hp hX => ?_)
      subst hp
      refine hX.part [8] 1 [0, 1, 2, 3, 17, 19, 20] (l' := [(0, .v (.string ⟨⟨u⟩⟩)), (1, .v (.int .i64 i)), (2, .v (.int .i64 from_)), (3, .v (.int .i64 to_)), (17, .v (.bool true)), (19, .v (.int .i64 v4)), (20, .v (.string ⟨⟨u⟩⟩))]) (B' := []) (by kernel_rfl) fun ρ w a hX => ?_
      obtain ⟨v5, hv5, h0⟩ := bnd_some h0
      refine Cx.call0 hX (lit := [8]) (by kernel_rfl) rfl (by kernel_rfl) ⟨⟨_, Tryd.func25, by kernel_rfl, rfl⟩⟩ (ss := [.v (.string ⟨⟨u⟩⟩)]) (by kernel_rfl) [.v (.string ⟨⟨u⟩⟩)] rfl (fun hg => hg) (fun hv hle hg => ref01_Len.ok u v5 hv5 _ _ hv (hG.mono hle) hg _) (fun s F w a hp hX => ?_)
      subst hp
      refine hX.part [8] 3 [0, 1, 2, 3, 24] (l' := [(0, .v (.string ⟨⟨u⟩⟩)), (1, .v (.int .i64 i)), (2, .v (.int .i64 from_)), (3, .v (.int .i64 to_)), (24, .v (.bool (v4 == v5)))]) (B' := []) (by kernel_rfl) fun ρ w a hX => ?_
      refine ite_go h0 (fun hb h0 => ?_) (fun hb h0 => ?_)
      · have hX := hX.relit 24 hb (by kernel_rfl)
        refine hX.part [15] 2 [0, 1, 2, 3, 24, 25, 26] (l' := [(0, .v (.string ⟨⟨u⟩⟩)), (1, .v (.int .i64 i)), (2, .v (.int .i64 from_)), (3, .v (.int .i64 to_)), (24, .v (.bool true)), (25, .v (.string ⟨⟨u⟩⟩)), (26, .v (.int .i64 i))]) (B' := []) (by kernel_rfl) fun ρ w a hX => ?_
        obtain ⟨v6, hv6, h0⟩ := bnd_some h0
        refine Cx.call0 hX (lit := [15]) (by kernel_rfl) rfl (by kernel_rfl) ⟨⟨_, Tryd.func23, by kernel_rfl, rfl⟩⟩ (ss := [.v (.string ⟨⟨u⟩⟩), .v (.int .i64 i)]) (by kernel_rfl) [.v (.string ⟨⟨u⟩⟩), .v (.int .i64 i)] rfl (fun hg => hg) (fun hv hle hg => units_At.ok u i v6 hv6 _ _ hv (hG.mono hle) hg _) (fun s F w a hp hX => ?_)
        subst hp
        refine hX.part [15] 2 [0, 2, 3, 24, 27, 28, 29] (l' := [(0, .v (.string ⟨⟨u⟩⟩)), (2, .v (.int .i64 from_)), (3, .v (.int .i64 to_)), (24, .v (.bool true)), (27, .v (.int .i64 v6)), (28, .v (.string ⟨⟨u⟩⟩)), (29, .v (.int .i64 i))]) (B' := []) (by kernel_rfl) fun ρ w a hX => ?_
        obtain ⟨v7, hv7, h0⟩ := bnd_some h0
        refine Cx.call0 hX (lit := [15]) (by kernel_rfl) rfl (by kernel_rfl) ⟨⟨_, Tryd.func26, by kernel_rfl, rfl⟩⟩ (ss := [.v (.string ⟨⟨u⟩⟩), .v (.int .i64 i)]) (by kernel_rfl) [.v (.string ⟨⟨u⟩⟩), .v (.int .i64 i)] rfl (fun hg => hg) (fun hv hle hg => ref01_At.ok u i v7 hv7 _ _ hv (hG.mono hle) hg _) (fun s F w a hp hX => ?_)
        subst hp
        refine hX.part [15] 3 [0, 2, 3, 33] (l' := [(0, .v (.string ⟨⟨u⟩⟩)), (2, .v (.int .i64 from_)), (3, .v (.int .i64 to_)), (33, .v (.bool (v6 == v7)))]) (B' := []) (by kernel_rfl) fun ρ w a hX => ?_
        refine ite_go h0 (fun hb h0 => ?_) (fun hb h0 => ?_)
        · have hX := hX.relit 33 hb (by kernel_rfl)
          refine hX.part [24] 3 [0, 2, 3, 33, 34, 35, 36] (l' := [(0, .v (.string ⟨⟨u⟩⟩)), (2, .v (.int .i64 from_)), (3, .v (.int .i64 to_)), (33, .v (.bool true)), (34, .v (.string ⟨⟨u⟩⟩)), (35, .v (.int .i64 from_)), (36, .v (.int .i64 to_))]) (B' := []) (by kernel_rfl) fun ρ w a hX => ?_
          obtain ⟨v8, hv8, h0⟩ := bnd_some h0
          refine Cx.call0 hX (lit := [24]) (by kernel_rfl) rfl (by kernel_rfl) ⟨⟨_, Tryd.func27, by kernel_rfl, rfl⟩⟩ (ss := [.v (.string ⟨⟨u⟩⟩), .v (.int .i64 from_), .v (.int .i64 to_)]) (by kernel_rfl) [.v (.string ⟨⟨u⟩⟩), .v (.int .i64 from_), .v (.int .i64 to_)] rfl (fun hg => hg) (fun hv hle hg => units_Cut.ok u from_ to_ v8 hv8 _ _ hv (hG.mono hle) hg _) (fun s F w a hp hX => ?_)
          subst hp
          refine hX.part [24] 3 [33, 37, 38, 39, 40] (l' := [(33, .v (.bool true)), (37, .v (.string ⟨⟨v8⟩⟩)), (38, .v (.string ⟨⟨u⟩⟩)), (39, .v (.int .i64 from_)), (40, .v (.int .i64 to_))]) (B' := []) (by kernel_rfl) fun ρ w a hX => ?_
          obtain ⟨v9, hv9, h0⟩ := bnd_some h0
          refine Cx.call0 hX (lit := [24]) (by kernel_rfl) rfl (by kernel_rfl) ⟨⟨_, Tryd.func28, by kernel_rfl, rfl⟩⟩ (ss := [.v (.string ⟨⟨u⟩⟩), .v (.int .i64 from_), .v (.int .i64 to_)]) (by kernel_rfl) [.v (.string ⟨⟨u⟩⟩), .v (.int .i64 from_), .v (.int .i64 to_)] rfl (fun hg => hg) (fun hv hle hg => ref01_Cut.ok u from_ to_ v9 hv9 _ _ hv (hG.mono hle) hg _) (fun s F w a hp hX => ?_)
          subst hp
          refine hX.part [24] 3 [8] (l' := [(8, .v (.bool (v8 == v9)))]) (B' := []) (by kernel_rfl) fun ρ w a hX => ?_
          refine wpList_end ?_
          have hX := hX.keeps [8] (l' := [(8, .v (.bool (v8 == v9)))]) (by kernel_rfl)
          exact J2 (v8 == v9) h0  _ _ _ _ hX
        · have hX := hX.relit 33 hb (by kernel_rfl)
          refine hX.part [24] 11 [8] (l' := [(8, .v (.bool false))]) (B' := []) (by kernel_rfl) fun ρ w a hX => ?_
          refine wpList_end ?_
          have hX := hX.keeps [8] (l' := [(8, .v (.bool false))]) (by kernel_rfl)
          exact J2 false h0  _ _ _ _ hX
      · have hX := hX.relit 24 hb (by kernel_rfl)
        refine hX.part [15, 24] 20 [8] (l' := [(8, .v (.bool false))]) (B' := []) (by kernel_rfl) fun ρ w a hX => ?_
        refine wpList_end ?_
        have hX := hX.keeps [8] (l' := [(8, .v (.bool false))]) (by kernel_rfl)
        exact J2 false h0  _ _ _ _ hX
    · have hX := hX.relit 17 hb (by kernel_rfl)
      refine hX.part [8, 15, 24] 27 [8] (l' := [(8, .v (.bool false))]) (B' := []) (by kernel_rfl) fun ρ w a hX => ?_
      refine wpList_end ?_
      have hX := hX.keeps [8] (l' := [(8, .v (.bool false))]) (by kernel_rfl)
      exact J2 false h0  _ _ _ _ hX
  · have hX := hX.relit 10 hb (by kernel_rfl)
    refine hX.part [1, 8, 15, 24] 34 [8] (l' := [(8, .v (.bool false))]) (B' := []) (by kernel_rfl) fun ρ w a hX => ?_
    refine wpList_end ?_
    have hX := hX.keeps [8] (l' := [(8, .v (.bool false))]) (by kernel_rfl)
    exact J2 false h0  _ _ _ _ hX
def strings_Index (t : Str) (sub : Str) : Option (Int) := if t.length < 4294967281 then some (Lib.index t sub) else none
theorem strings_Index.ok (t : Str) (sub : Str) (r : Int) (h0 : strings_Index t sub = some r) (w0 : World) (F0 : Heap) (hv : F0.Sub w0) (hG : Glob F0) (hg : SV.goods F0 [.v (.string ⟨⟨t⟩⟩), .v (.string ⟨⟨sub⟩⟩)]) (ρ : Nat → Nat) :
    Calls Tryd.prog 40 (SV.dens ρ [.v (.string ⟨⟨t⟩⟩), .v (.string ⟨⟨sub⟩⟩)]).toArray w0 (Ret0 w0 F0 fun s => s = .v (.int .i64 r)) := by
  unfold strings_Index at h0
  split at h0
  · rename_i hc
    cases h0
    obtain ⟨m, hm⟩ := hG.maxLen
    refine (Tryd.strings_Index ⟨⟨t⟩⟩ ⟨⟨sub⟩⟩ m w0 hc (cellF_read hv hm)).mono fun e w' h => ?_
    exact Ret0.pure (s := .v _) hv h.1 h.2 trivial rfl rfl
  · cases h0
def units_Find.l1 (u : Str) (v1 : Str) (x5 : Int) : Option ((Int) ⊕ ((Unit) ⊕ (Int))) :=
  Option.bind (units_Len u) fun v6 =>
  if (decide (x5 ≤ v6)) = true then
    Option.bind (cutL u (IntKind.wrap .i64 (2 * x5)) (IntKind.wrap .i64 ((BitVec.ofInt 64 ((u.length : Nat) : Int) &&& ~~~BitVec.ofInt 64 1).toNat))) fun v7 =>
    Option.bind (strings_Index v7 v1) fun v8 =>
    if (decide (v8 < 0)) = true then
      some (.inr (.inr (-1)))
    else
      if ((Int.tmod v8 2) == 0) = true then
        some (.inr (.inr (IntKind.wrap .i64 (x5 + (IntKind.wrap .i64 (Int.tdiv v8 2))))))
      else
        some (.inl (IntKind.wrap .i64 (x5 + (IntKind.wrap .i64 ((IntKind.wrap .i64 (Int.tdiv v8 2)) + 1)))))
  else
    some (.inr (.inl ()))
def units_Find (u : Str) (v : Str) (from_ : Int) : Option (Int) :=
  Option.bind (cutL v 0 (IntKind.wrap .i64 ((BitVec.ofInt 64 ((v.length : Nat) : Int) &&& ~~~BitVec.ofInt 64 1).toNat))) fun v1 =>
  Option.bind (loopM (units_Find.l1 u v1) (if 0 > from_ then 0 else from_)) fun e => match e with
  | (.inl ()) =>
    some (-1)
  | (.inr r10) =>
    some r10
theorem units_Find.ok (u : Str) (v : Str) (from_ : Int) (r : Int) (h0 : units_Find u v from_ = some r) (w0 : World) (F0 : Heap) (hv : F0.Sub w0) (hG : Glob F0) (hg : SV.goods F0 [.v (.string ⟨⟨u⟩⟩), .v (.string ⟨⟨v⟩⟩), .v (.int .i64 from_)]) (ρ : Nat → Nat) :
    Calls Tryd.prog 29 (SV.dens ρ [.v (.string ⟨⟨u⟩⟩), .v (.string ⟨⟨v⟩⟩), .v (.int .i64 from_)]).toArray w0 (Ret0 w0 F0 fun s => s = .v (.int .i64 r)) := by
  refine calls_of_wp Tryd.func29 rfl ?_
  have hX := Cx.enter (D := No) (B := []) (L := []) (ρ := ρ) (N := 44) Tryd.ntmps29 [.v (.string ⟨⟨u⟩⟩), .v (.string ⟨⟨v⟩⟩), .v (.int .i64 from_)] (St.start hv) rfl hg (by kernel_rfl) (fun _ h => by cases h) (Nat.le_of_ble_eq_true rfl) No.unfix
  unfold units_Find at h0
  refine Cx.rseq hX [] [0, 1, 2] (l' := [(0, .v (.string ⟨⟨u⟩⟩)), (1, .v (.string ⟨⟨v⟩⟩)), (2, .v (.int .i64 from_))]) (B' := []) (by kernel_rfl) fun ρ w a hX => ?_
  refine wp_seq_k fun K2 hK2 => ?_
  have hGd := hG.mono hX.st.le
  refine hX.draw rfl (n := 9) rfl #[false, false, false, false, false, false, false, false, false] (by kernel_rfl) fun w D' hDk back hX => ?_
  refine hX.dq 0 rfl rfl (listed' := #[true, false, false, false, false, false, false, false, false]) (by kernel_rfl) (by kernel_rfl) (s := .v (.int .i64 from_)) (by kernel_rfl) fun a hX => ?_
  refine hX.dq 1 rfl rfl (listed' := #[true, true, false, false, false, false, false, false, false]) (by kernel_rfl) (by kernel_rfl) (s := .v (.int .i64 (if 0 > from_ then 0 else from_))) (by kernel_rfl) fun a hX => ?_
  refine hX.dq 2 rfl rfl (listed' := #[true, true, true, false, false, false, false, false, false]) (by kernel_rfl) (by kernel_rfl) (s := .v (.string ⟨⟨v⟩⟩)) (by kernel_rfl) fun a hX => ?_
  refine hX.dq 3 rfl rfl (listed' := #[true, true, true, true, false, false, false, false, false]) (by kernel_rfl) (by kernel_rfl) (s := .v (.string ⟨⟨v⟩⟩)) (by kernel_rfl) fun a hX => ?_
  refine hX.dq 4 rfl rfl (listed' := #[true, true, true, true, true, false, false, false, false]) (by kernel_rfl) (by kernel_rfl) (s := .v (.int .i64 ((v.length : Nat) : Int))) (by kernel_rfl) fun a hX => ?_
  refine hX.dq 5 rfl rfl (listed' := #[true, true, true, true, true, true, false, false, false]) (by kernel_rfl) (by kernel_rfl) (s := .v (.int .i64 (IntKind.wrap .i64 ((BitVec.ofInt 64 ((v.length : Nat) : Int) &&& ~~~BitVec.ofInt 64 1).toNat)))) (by kernel_rfl) fun a hX => ?_
  obtain ⟨v1, hv1, h0⟩ := bnd_some h0
  refine hX.dCutStr 6 rfl rfl (listed' := #[true, true, true, true, true, true, true, false, false]) (by kernel_rfl) (by kernel_rfl) rfl (s := v) (ol := none) (oh := some (IntKind.wrap .i64 ((BitVec.ofInt 64 ((v.length : Nat) : Int) &&& ~~~BitVec.ofInt 64 1).toNat))) (r := v1) (by kernel_rfl) (by kernel_rfl) (by kernel_rfl) (by kernel_rfl) hv1 fun a hX => ?_
  refine hX.dq 7 rfl rfl (listed' := #[true, true, true, true, true, true, true, true, false]) (by kernel_rfl) (by kernel_rfl) (s := .v (.int .i64 (if 0 > from_ then 0 else from_))) (by kernel_rfl) fun a hX => ?_
  refine hX.dq 8 rfl rfl (listed' := #[true, true, true, true, true, true, true, true, true]) (by kernel_rfl) (by kernel_rfl) (s := .v (.string ⟨⟨v1⟩⟩)) (by kernel_rfl) fun a hX => ?_
  have hX := back hX
  refine ddone (by kernel_rfl) ?_
  refine hK2 _ _ ?_
  refine wp_seq_k fun K3 hK3 => ?_
  refine wp_block ?_
  have hX := hX.keeps [0, 1, 2] (l' := [(0, .v (.string ⟨⟨u⟩⟩)), (1, .v (.string ⟨⟨v1⟩⟩)), (2, .v (.int .i64 (if 0 > from_ then 0 else from_)))]) (by kernel_rfl)
  obtain ⟨e1, he1, h0⟩ := bnd_some h0
  have E1x0 : ∀ (_ : Unit), e1 = (.inl ()) → ∀ (ρ : Nat → Nat) (w : World) (F : Heap) (a : Act), Cx 44 w0 F0 No w F [] [] ρ [] a → K3 a w := by
    intro _ he  ρ w F a hX
    replace he := he.symm
    subst he
    (try dsimp only at h0)
    refine hK3 _ _ ?_
    refine Cx.rseq hX [] [6] (l' := [(6, .v (.int .i64 (-1)))]) (B' := []) (by kernel_rfl) fun ρ w a hX => ?_
    refine wp_ret ?_
    have hr := Option.some.inj (show some _ = some _ from h0)
    subst hr
    exact hX.ret0 (ss := [.v (.int .i64 (-1))]) (by kernel_rfl) (by kernel_rfl) rfl
  refine loop_go (fun (x5 : Int) a w => ∃ (ρ : Nat → Nat) (F : Heap), Cx 44 w0 F0 No w F [] [] ρ [(0, .v (.string ⟨⟨u⟩⟩)), (1, .v (.string ⟨⟨v1⟩⟩)), (2, .v (.int .i64 x5))] a) he1 (fun LW1 x5 o1 h1 hb1 hx1 a w hI => ?_) _ _ ?_
  · obtain ⟨ρ, F, hX⟩ := hI
    unfold units_Find.l1 at h1
    (try dsimp only at h1)
    refine wp_seq_k fun K12 hK12 => ?_
    refine wp_seq_k fun K13 hK13 => ?_
    refine wp_region_list ?_
    refine hX.part [] 2 [0, 1, 2, 15, 16] (l' := [(0, .v (.string ⟨⟨u⟩⟩)), (1, .v (.string ⟨⟨v1⟩⟩)), (2, .v (.int .i64 x5)), (15, .v (.int .i64 x5)), (16, .v (.string ⟨⟨u⟩⟩))]) (B' := []) (by kernel_rfl) fun ρ w a hX => ?_
    obtain ⟨v6, hv6, h1⟩ := bnd_some h1
    refine Cx.call0 hX (lit := []) (by kernel_rfl) rfl (by kernel_rfl) ⟨⟨_, Tryd.func22, by kernel_rfl, rfl⟩⟩ (ss := [.v (.string ⟨⟨u⟩⟩)]) (by kernel_rfl) [.v (.string ⟨⟨u⟩⟩)] rfl (fun hg => hg) (fun hv hle hg => units_Len.ok u v6 hv6 _ _ hv (hG.mono hle) hg _) (fun s F w a hp hX => ?_)
    subst hp
    refine hX.part [] 1 [0, 1, 2, 18] (l' := [(0, .v (.string ⟨⟨u⟩⟩)), (1, .v (.string ⟨⟨v1⟩⟩)), (2, .v (.int .i64 x5)), (18, .v (.bool (decide (x5 ≤ v6))))]) (B' := []) (by kernel_rfl) fun ρ w a hX => ?_
    refine wpList_end ?_
    refine hK13 _ _ ?_
    refine Cx.cond hX (b := (decide (x5 ≤ v6))) (by kernel_rfl) (fun hb => ?_) (fun hb => ?_)
    · have h1 := ite_tt h1 hb
      refine wp_skip ?_
      refine hK12 _ _ ?_
      refine wp_block ?_
      refine wp_seq_k fun K14 hK14 => ?_
      refine wp_region_list ?_
      refine hX.part [] 6 [0, 1, 2, 19, 21, 24] (l' := [(0, .v (.string ⟨⟨u⟩⟩)), (1, .v (.string ⟨⟨v1⟩⟩)), (2, .v (.int .i64 x5)), (19, .v (.string ⟨⟨u⟩⟩)), (21, .v (.int .i64 (IntKind.wrap .i64 (2 * x5)))), (24, .v (.int .i64 (IntKind.wrap .i64 ((BitVec.ofInt 64 ((u.length : Nat) : Int) &&& ~~~BitVec.ofInt 64 1).toNat))))]) (B' := []) (by kernel_rfl) fun ρ w a hX => ?_
      obtain ⟨v7, hv7, h1⟩ := bnd_some h1
      refine hX.cutStr (lit := []) (by kernel_rfl) (by kernel_rfl) rfl (s := u) (ol := some (IntKind.wrap .i64 (2 * x5))) (oh := some (IntKind.wrap .i64 ((BitVec.ofInt 64 ((u.length : Nat) : Int) &&& ~~~BitVec.ofInt 64 1).toNat))) (r := v7) (by kernel_rfl) (by kernel_rfl) (by kernel_rfl) (by kernel_rfl) hv7 fun a hX => ?_
      refine hX.part [] 1 [0, 1, 2, 25, 26] (l' := [(0, .v (.string ⟨⟨u⟩⟩)), (1, .v (.string ⟨⟨v1⟩⟩)), (2, .v (.int .i64 x5)), (25, .v (.string ⟨⟨v7⟩⟩)), (26, .v (.string ⟨⟨v1⟩⟩))]) (B' := []) (by kernel_rfl) fun ρ w a hX => ?_
      obtain ⟨v8, hv8, h1⟩ := bnd_some h1
      refine Cx.call0 hX (lit := []) (by kernel_rfl) rfl (by kernel_rfl) ⟨⟨_, Tryd.func40, by kernel_rfl, rfl⟩⟩ (ss := [.v (.string ⟨⟨v7⟩⟩), .v (.string ⟨⟨v1⟩⟩)]) (by kernel_rfl) [.v (.string ⟨⟨v7⟩⟩), .v (.string ⟨⟨v1⟩⟩)] rfl (fun hg => hg) (fun hv hle hg => strings_Index.ok v7 v1 v8 hv8 _ _ hv (hG.mono hle) hg _) (fun s F w a hp hX => ?_)
      subst hp
      refine hX.part [] 1 [0, 1, 2, 7] (l' := [(0, .v (.string ⟨⟨u⟩⟩)), (1, .v (.string ⟨⟨v1⟩⟩)), (2, .v (.int .i64 x5)), (7, .v (.int .i64 v8))]) (B' := []) (by kernel_rfl) fun ρ w a hX => ?_
      refine wpList_end ?_
      refine hK14 _ _ ?_
      refine wp_seq_k fun K15 hK15 => ?_
      refine wp_block ?_
      refine Cx.rseq hX [] [0, 1, 2, 7, 28] (l' := [(0, .v (.string ⟨⟨u⟩⟩)), (1, .v (.string ⟨⟨v1⟩⟩)), (2, .v (.int .i64 x5)), (7, .v (.int .i64 v8)), (28, .v (.bool (decide (v8 < 0))))]) (B' := []) (by kernel_rfl) fun ρ w a hX => ?_
      refine Cx.cond hX (b := (decide (v8 < 0))) (by kernel_rfl) (fun hb => ?_) (fun hb => ?_)
      · have h1 := ite_tt h1 hb
        refine Cx.rseq hX [] [6] (l' := [(6, .v (.int .i64 (-1)))]) (B' := []) (by kernel_rfl) fun ρ w a hX => ?_
        refine wp_ret ?_
        have he := hx1 _ (out_eq h1)
        subst he
        (try dsimp only at h0)
        have hr := Option.some.inj (show some _ = some _ from h0)
        subst hr
        exact hX.ret0 (ss := [.v (.int .i64 (-1))]) (by kernel_rfl) (by kernel_rfl) rfl
      · have h1 := ite_ff h1 hb
        refine Cx.rseq hX [] [0, 1, 2, 7, 31] (l' := [(0, .v (.string ⟨⟨u⟩⟩)), (1, .v (.string ⟨⟨v1⟩⟩)), (2, .v (.int .i64 x5)), (7, .v (.int .i64 v8)), (31, .v (.bool ((Int.tmod v8 2) == 0)))]) (B' := []) (by kernel_rfl) fun ρ w a hX => ?_
        refine Cx.cond hX (b := ((Int.tmod v8 2) == 0)) (by kernel_rfl) (fun hb => ?_) (fun hb => ?_)
        · have h1 := ite_tt h1 hb
          refine Cx.rseq hX [] [6] (l' := [(6, .v (.int .i64 (IntKind.wrap .i64 (x5 + (IntKind.wrap .i64 (Int.tdiv v8 2))))))]) (B' := []) (by kernel_rfl) fun ρ w a hX => ?_
          refine wp_ret ?_
          have he := hx1 _ (out_eq h1)
          subst he
          (try dsimp only at h0)
          have hr := Option.some.inj (show some _ = some _ from h0)
          subst hr
          exact hX.ret0 (ss := [.v (.int .i64 (IntKind.wrap .i64 (x5 + (IntKind.wrap .i64 (Int.tdiv v8 2)))))]) (by kernel_rfl) (by kernel_rfl) rfl
        · have h1 := ite_ff h1 hb
          refine wp_skip ?_
          refine hK15 _ _ ?_
          refine Cx.region hX [] [0, 1, 2] (l' := [(0, .v (.string ⟨⟨u⟩⟩)), (1, .v (.string ⟨⟨v1⟩⟩)), (2, .v (.int .i64 (IntKind.wrap .i64 (x5 + (IntKind.wrap .i64 ((IntKind.wrap .i64 (Int.tdiv v8 2)) + 1))))))]) (B' := []) (by kernel_rfl) fun ρ w a hX => ?_
          have hX := hX.keeps [0, 1, 2] (l' := [(0, .v (.string ⟨⟨u⟩⟩)), (1, .v (.string ⟨⟨v1⟩⟩)), (2, .v (.int .i64 (IntKind.wrap .i64 (x5 + (IntKind.wrap .i64 ((IntKind.wrap .i64 (Int.tdiv v8 2)) + 1))))))]) (by kernel_rfl)
          exact hb1 (IntKind.wrap .i64 (x5 + (IntKind.wrap .i64 ((IntKind.wrap .i64 (Int.tdiv v8 2)) + 1)))) (out_eq h1) _ _ ⟨_, _, hX⟩
    · have h1 := ite_ff h1 hb
      refine wp_exit ?_
      have hX := hX.keeps [] (l' := []) (by kernel_rfl)
      exact E1x0 () (hx1 _ (out_eq h1)).symm  _ _ _ _ hX
  · exact ⟨_, _, hX⟩
def law01_UnitsParts.j1 (x10 : Bool) : Option (Bool) :=
  some x10
def law01_UnitsParts (u : Str) (at_ : Int) (to_ : Int) : Option (Bool) :=
  Option.bind (law01_live) fun v1 =>
  Option.bind (units_Check u) fun v2 =>
  if (!v2) = true then
    some v1
  else
    Option.bind (units_Len u) fun v3 =>
    Option.bind (units_Cut u 0 (if v3 < (if 0 > at_ then 0 else at_) then v3 else (if 0 > at_ then 0 else at_))) fun v4 =>
    Option.bind (units_Cut u (if v3 < (if 0 > at_ then 0 else at_) then v3 else (if 0 > at_ then 0 else at_)) (if v3 < (if (if v3 < (if 0 > at_ then 0 else at_) then v3 else (if 0 > at_ then 0 else at_)) > to_ then (if v3 < (if 0 > at_ then 0 else at_) then v3 else (if 0 > at_ then 0 else at_)) else to_) then v3 else (if (if v3 < (if 0 > at_ then 0 else at_) then v3 else (if 0 > at_ then 0 else at_)) > to_ then (if v3 < (if 0 > at_ then 0 else at_) then v3 else (if 0 > at_ then 0 else at_)) else to_))) fun v5 =>
    Option.bind (units_Cut u (if v3 < (if (if v3 < (if 0 > at_ then 0 else at_) then v3 else (if 0 > at_ then 0 else at_)) > to_ then (if v3 < (if 0 > at_ then 0 else at_) then v3 else (if 0 > at_ then 0 else at_)) else to_) then v3 else (if (if v3 < (if 0 > at_ then 0 else at_) then v3 else (if 0 > at_ then 0 else at_)) > to_ then (if v3 < (if 0 > at_ then 0 else at_) then v3 else (if 0 > at_ then 0 else at_)) else to_)) v3) fun v6 =>
    Option.bind (units_Find u v5 (if v3 < (if 0 > at_ then 0 else at_) then v3 else (if 0 > at_ then 0 else at_))) fun v7 =>
    if v1 = true then
      Option.bind (catS v4 v5) fun v8 =>
      Option.bind (catS v8 v6) fun v9 =>
      law01_UnitsParts.j1 ((v9 == u) && (v7 == (if v3 < (if 0 > at_ then 0 else at_) then v3 else (if 0 > at_ then 0 else at_))))
    else
      law01_UnitsParts.j1 false
theorem law01_UnitsParts.ok (u : Str) (at_ : Int) (to_ : Int) (r : Bool) (h0 : law01_UnitsParts u at_ to_ = some r) (w0 : World) (F0 : Heap) (hv : F0.Sub w0) (hG : Glob F0) (hg : SV.goods F0 [.v (.string ⟨⟨u⟩⟩), .v (.int .i64 at_), .v (.int .i64 to_)]) (ρ : Nat → Nat) :
    Calls Tryd.prog 10 (SV.dens ρ [.v (.string ⟨⟨u⟩⟩), .v (.int .i64 at_), .v (.int .i64 to_)]).toArray w0 (Ret0 w0 F0 fun s => s = .v (.bool r)) := by
  refine calls_of_wp Tryd.func10 rfl ?_
  have hX := Cx.enter (D := No) (B := []) (L := []) (ρ := ρ) (N := 59) Tryd.ntmps10 [.v (.string ⟨⟨u⟩⟩), .v (.int .i64 at_), .v (.int .i64 to_)] (St.start hv) rfl hg (by kernel_rfl) (fun _ h => by cases h) (Nat.le_of_ble_eq_true rfl) No.unfix
  unfold law01_UnitsParts at h0
  refine Cx.rseq hX [] [0, 1, 2] (l' := [(0, .v (.string ⟨⟨u⟩⟩)), (1, .v (.int .i64 at_)), (2, .v (.int .i64 to_))]) (B' := []) (by kernel_rfl) fun ρ w a hX => ?_
  refine wp_seq_k fun K2 hK2 => ?_
  refine wp_region_list ?_
  refine hX.part [] 0 [0, 1, 2] (l' := [(0, .v (.string ⟨⟨u⟩⟩)), (1, .v (.int .i64 at_)), (2, .v (.int .i64 to_))]) (B' := []) (by kernel_rfl) fun ρ w a hX => ?_
  obtain ⟨v1, hv1, h0⟩ := bnd_some h0
  refine Cx.call0 hX (lit := []) (by kernel_rfl) rfl (by kernel_rfl) ⟨⟨_, Tryd.func14, by kernel_rfl, rfl⟩⟩ (ss := []) (by kernel_rfl) [] rfl (fun hg => hg) (fun hv hle hg => law01_live.ok v1 hv1 _ _ hv (hG.mono hle) hg _) (fun s F w a hp hX => ?_)
  subst hp
  refine hX.part [] 1 [0, 1, 2, 7] (l' := [(0, .v (.string ⟨⟨u⟩⟩)), (1, .v (.int .i64 at_)), (2, .v (.int .i64 to_)), (7, .v (.bool v1))]) (B' := []) (by kernel_rfl) fun ρ w a hX => ?_
  refine wpList_end ?_
  refine hK2 _ _ ?_
  refine wp_seq_k fun K3 hK3 => ?_
  refine wp_seq_k fun K4 hK4 => ?_
  refine wp_region_list ?_
  refine hX.part [] 1 [0, 1, 2, 7, 14] (l' := [(0, .v (.string ⟨⟨u⟩⟩)), (1, .v (.int .i64 at_)), (2, .v (.int .i64 to_)), (7, .v (.bool v1)), (14, .v (.string ⟨⟨u⟩⟩))]) (B' := []) (by kernel_rfl) fun ρ w a hX => ?_
  obtain ⟨v2, hv2, h0⟩ := bnd_some h0
  refine Cx.call0 hX (lit := []) (by kernel_rfl) rfl (by kernel_rfl) ⟨⟨_, Tryd.func21, by kernel_rfl, rfl⟩⟩ (ss := [.v (.string ⟨⟨u⟩⟩)]) (by kernel_rfl) [.v (.string ⟨⟨u⟩⟩)] rfl (fun hg => hg) (fun hv hle hg => units_Check.ok u v2 hv2 _ _ hv (hG.mono hle) hg _) (fun s F w a hp hX => ?_)
  subst hp
  refine hX.part [] 1 [0, 1, 2, 7, 16] (l' := [(0, .v (.string ⟨⟨u⟩⟩)), (1, .v (.int .i64 at_)), (2, .v (.int .i64 to_)), (7, .v (.bool v1)), (16, .v (.bool (!v2)))]) (B' := []) (by kernel_rfl) fun ρ w a hX => ?_
  refine wpList_end ?_
  refine hK4 _ _ ?_
  refine Cx.cond hX (b := (!v2)) (by kernel_rfl) (fun hb => ?_) (fun hb => ?_)
  · have h0 := ite_tt h0 hb
    refine Cx.rseq hX [] [6] (l' := [(6, .v (.bool v1))]) (B' := []) (by kernel_rfl) fun ρ w a hX => ?_
    refine wp_ret ?_
    have hr := Option.some.inj (show some _ = some _ from h0)
    subst hr
    exact hX.ret0 (ss := [.v (.bool v1)]) (by kernel_rfl) (by kernel_rfl) rfl
  · have h0 := ite_ff h0 hb
    refine wp_skip ?_
    refine hK3 _ _ ?_
    refine wp_seq_k fun K6 hK6 => ?_
    refine wp_region_list ?_
    refine hX.part [] 1 [0, 1, 2, 7, 18] (l' := [(0, .v (.string ⟨⟨u⟩⟩)), (1, .v (.int .i64 at_)), (2, .v (.int .i64 to_)), (7, .v (.bool v1)), (18, .v (.string ⟨⟨u⟩⟩))]) (B' := []) (by kernel_rfl) fun ρ w a hX => ?_
    obtain ⟨v3, hv3, h0⟩ := bnd_some h0
    refine Cx.call0 hX (lit := []) (by kernel_rfl) rfl (by kernel_rfl) ⟨⟨_, Tryd.func22, by kernel_rfl, rfl⟩⟩ (ss := [.v (.string ⟨⟨u⟩⟩)]) (by kernel_rfl) [.v (.string ⟨⟨u⟩⟩)] rfl (fun hg => hg) (fun hv hle hg => units_Len.ok u v3 hv3 _ _ hv (hG.mono hle) hg _) (fun s F w a hp hX => ?_)
    subst hp
    refine hX.part [] 1 [0, 1, 2, 7, 8] (l' := [(0, .v (.string ⟨⟨u⟩⟩)), (1, .v (.int .i64 at_)), (2, .v (.int .i64 to_)), (7, .v (.bool v1)), (8, .v (.int .i64 v3))]) (B' := []) (by kernel_rfl) fun ρ w a hX => ?_
    refine wpList_end ?_
    refine hK6 _ _ ?_
    refine Cx.rseq hX [] [0, 1, 2, 7, 8] (l' := [(0, .v (.string ⟨⟨u⟩⟩)), (1, .v (.int .i64 (if v3 < (if 0 > at_ then 0 else at_) then v3 else (if 0 > at_ then 0 else at_)))), (2, .v (.int .i64 to_)), (7, .v (.bool v1)), (8, .v (.int .i64 v3))]) (B' := []) (by kernel_rfl) fun ρ w a hX => ?_
    refine Cx.rseq hX [] [0, 1, 2, 7, 8] (l' := [(0, .v (.string ⟨⟨u⟩⟩)), (1, .v (.int .i64 (if v3 < (if 0 > at_ then 0 else at_) then v3 else (if 0 > at_ then 0 else at_)))), (2, .v (.int .i64 (if v3 < (if (if v3 < (if 0 > at_ then 0 else at_) then v3 else (if 0 > at_ then 0 else at_)) > to_ then (if v3 < (if 0 > at_ then 0 else at_) then v3 else (if 0 > at_ then 0 else at_)) else to_) then v3 else (if (if v3 < (if 0 > at_ then 0 else at_) then v3 else (if 0 > at_ then 0 else at_)) > to_ then (if v3 < (if 0 > at_ then 0 else at_) then v3 else (if 0 > at_ then 0 else at_)) else to_)))), (7, .v (.bool v1)), (8, .v (.int .i64 v3))]) (B' := []) (by kernel_rfl) fun ρ w a hX => ?_
    refine wp_seq_k fun K9 hK9 => ?_
    refine wp_region_list ?_
    refine hX.part [] 2 [0, 1, 2, 7, 8, 29, 30] (l' := [(0, .v (.string ⟨⟨u⟩⟩)), (1, .v (.int .i64 (if v3 < (if 0 > at_ then 0 else at_) then v3 else (if 0 > at_ then 0 else at_)))), (2, .v (.int .i64 (if v3 < (if (if v3 < (if 0 > at_ then 0 else at_) then v3 else (if 0 > at_ then 0 else at_)) > to_ then (if v3 < (if 0 > at_ then 0 else at_) then v3 else (if 0 > at_ then 0 else at_)) else to_) then v3 else (if (if v3 < (if 0 > at_ then 0 else at_) then v3 else (if 0 > at_ then 0 else at_)) > to_ then (if v3 < (if 0 > at_ then 0 else at_) then v3 else (if 0 > at_ then 0 else at_)) else to_)))), (7, .v (.bool v1)), (8, .v (.int .i64 v3)), (29, .v (.string ⟨⟨u⟩⟩)), (30, .v (.int .i64 (if v3 < (if 0 > at_ then 0 else at_) then v3 else (if 0 > at_ then 0 else at_))))]) (B' := []) (by kernel_rfl) fun ρ w a hX => ?_
    obtain ⟨v4, hv4, h0⟩ := bnd_some h0
    refine Cx.call0 hX (lit := []) (by kernel_rfl) rfl (by kernel_rfl) ⟨⟨_, Tryd.func27, by kernel_rfl, rfl⟩⟩ (ss := [.v (.string ⟨⟨u⟩⟩), .v (.int .i64 0), .v (.int .i64 (if v3 < (if 0 > at_ then 0 else at_) then v3 else (if 0 > at_ then 0 else at_)))]) (by kernel_rfl) [.v (.string ⟨⟨u⟩⟩), .v (.int .i64 0), .v (.int .i64 (if v3 < (if 0 > at_ then 0 else at_) then v3 else (if 0 > at_ then 0 else at_)))] rfl (fun hg => hg) (fun hv hle hg => units_Cut.ok u 0 (if v3 < (if 0 > at_ then 0 else at_) then v3 else (if 0 > at_ then 0 else at_)) v4 hv4 _ _ hv (hG.mono hle) hg _) (fun s F w a hp hX => ?_)
    subst hp
    refine hX.part [] 1 [0, 1, 2, 7, 8, 9] (l' := [(0, .v (.string ⟨⟨u⟩⟩)), (1, .v (.int .i64 (if v3 < (if 0 > at_ then 0 else at_) then v3 else (if 0 > at_ then 0 else at_)))), (2, .v (.int .i64 (if v3 < (if (if v3 < (if 0 > at_ then 0 else at_) then v3 else (if 0 > at_ then 0 else at_)) > to_ then (if v3 < (if 0 > at_ then 0 else at_) then v3 else (if 0 > at_ then 0 else at_)) else to_) then v3 else (if (if v3 < (if 0 > at_ then 0 else at_) then v3 else (if 0 > at_ then 0 else at_)) > to_ then (if v3 < (if 0 > at_ then 0 else at_) then v3 else (if 0 > at_ then 0 else at_)) else to_)))), (7, .v (.bool v1)), (8, .v (.int .i64 v3)), (9, .v (.string ⟨⟨v4⟩⟩))]) (B' := []) (by kernel_rfl) fun ρ w a hX => ?_
    refine wpList_end ?_
    refine hK9 _ _ ?_
    refine wp_seq_k fun K10 hK10 => ?_
    refine wp_region_list ?_
    refine hX.part [] 3 [0, 1, 2, 7, 8, 9, 32, 33, 34] (l' := [(0, .v (.string ⟨⟨u⟩⟩)), (1, .v (.int .i64 (if v3 < (if 0 > at_ then 0 else at_) then v3 else (if 0 > at_ then 0 else at_)))), (2, .v (.int .i64 (if v3 < (if (if v3 < (if 0 > at_ then 0 else at_) then v3 else (if 0 > at_ then 0 else at_)) > to_ then (if v3 < (if 0 > at_ then 0 else at_) then v3 else (if 0 > at_ then 0 else at_)) else to_) then v3 else (if (if v3 < (if 0 > at_ then 0 else at_) then v3 else (if 0 > at_ then 0 else at_)) > to_ then (if v3 < (if 0 > at_ then 0 else at_) then v3 else (if 0 > at_ then 0 else at_)) else to_)))), (7, .v (.bool v1)), (8, .v (.int .i64 v3)), (9, .v (.string ⟨⟨v4⟩⟩)), (32, .v (.string ⟨⟨u⟩⟩)), (33, .v (.int .i64 (if v3 < (if 0 > at_ then 0 else at_) then v3 else (if 0 > at_ then 0 else at_)))), (34, .v (.int .i64 (if v3 < (if (if v3 < (if 0 > at_ then 0 else at_) then v3 else (if 0 > at_ then 0 else at_)) > to_ then (if v3 < (if 0 > at_ then 0 else at_) then v3 else (if 0 > at_ then 0 else at_)) else to_) then v3 else (if (if v3 < (if 0 > at_ then 0 else at_) then v3 else (if 0 > at_ then 0 else at_)) > to_ then (if v3 < (if 0 > at_ then 0 else at_) then v3 else (if 0 > at_ then 0 else at_)) else to_))))]) (B' := []) (by kernel_rfl) fun ρ w a hX => ?_
    obtain ⟨v5, hv5, h0⟩ := bnd_some h0
    refine Cx.call0 hX (lit := []) (by kernel_rfl) rfl (by kernel_rfl) ⟨⟨_, Tryd.func27, by kernel_rfl, rfl⟩⟩ (ss := [.v (.string ⟨⟨u⟩⟩), .v (.int .i64 (if v3 < (if 0 > at_ then 0 else at_) then v3 else (if 0 > at_ then 0 else at_))), .v (.int .i64 (if v3 < (if (if v3 < (if 0 > at_ then 0 else at_) then v3 else (if 0 > at_ then 0 else at_)) > to_ then (if v3 < (if 0 > at_ then 0 else at_) then v3 else (if 0 > at_ then 0 else at_)) else to_) then v3 else (if (if v3 < (if 0 > at_ then 0 else at_) then v3 else (if 0 > at_ then 0 else at_)) > to_ then (if v3 < (if 0 > at_ then 0 else at_) then v3 else (if 0 > at_ then 0 else at_)) else to_)))]) (by kernel_rfl) [.v (.string ⟨⟨u⟩⟩), .v (.int .i64 (if v3 < (if 0 > at_ then 0 else at_) then v3 else (if 0 > at_ then 0 else at_))), .v (.int .i64 (if v3 < (if (if v3 < (if 0 > at_ then 0 else at_) then v3 else (if 0 > at_ then 0 else at_)) > to_ then (if v3 < (if 0 > at_ then 0 else at_) then v3 else (if 0 > at_ then 0 else at_)) else to_) then v3 else (if (if v3 < (if 0 > at_ then 0 else at_) then v3 else (if 0 > at_ then 0 else at_)) > to_ then (if v3 < (if 0 > at_ then 0 else at_) then v3 else (if 0 > at_ then 0 else at_)) else to_)))] rfl (fun hg => hg) (fun hv hle hg => units_Cut.ok u (if v3 < (if 0 > at_ then 0 else at_) then v3 else (if 0 > at_ then 0 else at_)) (if v3 < (if (if v3 < (if 0 > at_ then 0 else at_) then v3 else (if 0 > at_ then 0 else at_)) > to_ then (if v3 < (if 0 > at_ then 0 else at_) then v3 else (if 0 > at_ then 0 else at_)) else to_) then v3 else (if (if v3 < (if 0 > at_ then 0 else at_) then v3 else (if 0 > at_ then 0 else at_)) > to_ then (if v3 < (if 0 > at_ then 0 else at_) then v3 else (if 0 > at_ then 0 else at_)) else to_)) v5 hv5 _ _ hv (hG.mono hle) hg _) (fun s F w a hp hX => ?_)
    subst hp
    refine hX.part [] 1 [0, 1, 2, 7, 8, 9, 10] (l' := [(0, .v (.string ⟨⟨u⟩⟩)), (1, .v (.int .i64 (if v3 < (if 0 > at_ then 0 else at_) then v3 else (if 0 > at_ then 0 else at_)))), (2, .v (.int .i64 (if v3 < (if (if v3 < (if 0 > at_ then 0 else at_) then v3 else (if 0 > at_ then 0 else at_)) > to_ then (if v3 < (if 0 > at_ then 0 else at_) then v3 else (if 0 > at_ then 0 else at_)) else to_) then v3 else (if (if v3 < (if 0 > at_ then 0 else at_) then v3 else (if 0 > at_ then 0 else at_)) > to_ then (if v3 < (if 0 > at_ then 0 else at_) then v3 else (if 0 > at_ then 0 else at_)) else to_)))), (7, .v (.bool v1)), (8, .v (.int .i64 v3)), (9, .v (.string ⟨⟨v4⟩⟩)), (10, .v (.string ⟨⟨v5⟩⟩))]) (B' := []) (by kernel_rfl) fun ρ w a hX => ?_
    refine wpList_end ?_
    refine hK10 _ _ ?_
    refine wp_seq_k fun K11 hK11 => ?_
    refine wp_region_list ?_
    refine hX.part [] 3 [0, 1, 7, 9, 10, 36, 37, 38] (l' := [(0, .v (.string ⟨⟨u⟩⟩)), (1, .v (.int .i64 (if v3 < (if 0 > at_ then 0 else at_) then v3 else (if 0 > at_ then 0 else at_)))), (7, .v (.bool v1)), (9, .v (.string ⟨⟨v4⟩⟩)), (10, .v (.string ⟨⟨v5⟩⟩)), (36, .v (.string ⟨⟨u⟩⟩)), (37, .v (.int .i64 (if v3 < (if (if v3 < (if 0 > at_ then 0 else at_) then v3 else (if 0 > at_ then 0 else at_)) > to_ then (if v3 < (if 0 > at_ then 0 else at_) then v3 else (if 0 > at_ then 0 else at_)) else to_) then v3 else (if (if v3 < (if 0 > at_ then 0 else at_) then v3 else (if 0 > at_ then 0 else at_)) > to_ then (if v3 < (if 0 > at_ then 0 else at_) then v3 else (if 0 > at_ then 0 else at_)) else to_)))), (38, .v (.int .i64 v3))]) (B' := []) (by kernel_rfl) fun ρ w a hX => ?_
    obtain ⟨v6, hv6, h0⟩ := bnd_some h0
    refine Cx.call0 hX (lit := []) (by kernel_rfl) rfl (by kernel_rfl) ⟨⟨_, Tryd.func27, by kernel_rfl, rfl⟩⟩ (ss := [.v (.string ⟨⟨u⟩⟩), .v (.int .i64 (if v3 < (if (if v3 < (if 0 > at_ then 0 else at_) then v3 else (if 0 > at_ then 0 else at_)) > to_ then (if v3 < (if 0 > at_ then 0 else at_) then v3 else (if 0 > at_ then 0 else at_)) else to_) then v3 else (if (if v3 < (if 0 > at_ then 0 else at_) then v3 else (if 0 > at_ then 0 else at_)) > to_ then (if v3 < (if 0 > at_ then 0 else at_) then v3 else (if 0 > at_ then 0 else at_)) else to_))), .v (.int .i64 v3)]) (by kernel_rfl) [.v (.string ⟨⟨u⟩⟩), .v (.int .i64 (if v3 < (if (if v3 < (if 0 > at_ then 0 else at_) then v3 else (if 0 > at_ then 0 else at_)) > to_ then (if v3 < (if 0 > at_ then 0 else at_) then v3 else (if 0 > at_ then 0 else at_)) else to_) then v3 else (if (if v3 < (if 0 > at_ then 0 else at_) then v3 else (if 0 > at_ then 0 else at_)) > to_ then (if v3 < (if 0 > at_ then 0 else at_) then v3 else (if 0 > at_ then 0 else at_)) else to_))), .v (.int .i64 v3)] rfl (fun hg => hg) (fun hv hle hg => units_Cut.ok u (if v3 < (if (if v3 < (if 0 > at_ then 0 else at_) then v3 else (if 0 > at_ then 0 else at_)) > to_ then (if v3 < (if 0 > at_ then 0 else at_) then v3 else (if 0 > at_ then 0 else at_)) else to_) then v3 else (if (if v3 < (if 0 > at_ then 0 else at_) then v3 else (if 0 > at_ then 0 else at_)) > to_ then (if v3 < (if 0 > at_ then 0 else at_) then v3 else (if 0 > at_ then 0 else at_)) else to_)) v3 v6 hv6 _ _ hv (hG.mono hle) hg _) (fun s F w a hp hX => ?_)
    subst hp
    refine hX.part [] 1 [0, 1, 7, 9, 10, 11] (l' := [(0, .v (.string ⟨⟨u⟩⟩)), (1, .v (.int .i64 (if v3 < (if 0 > at_ then 0 else at_) then v3 else (if 0 > at_ then 0 else at_)))), (7, .v (.bool v1)), (9, .v (.string ⟨⟨v4⟩⟩)), (10, .v (.string ⟨⟨v5⟩⟩)), (11, .v (.string ⟨⟨v6⟩⟩))]) (B' := []) (by kernel_rfl) fun ρ w a hX => ?_
    refine wpList_end ?_
    refine hK11 _ _ ?_
    refine wp_seq_k fun K12 hK12 => ?_
    refine wp_region_list ?_
    refine hX.part [] 3 [0, 1, 7, 9, 10, 11, 40, 41, 42] (l' := [(0, .v (.string ⟨⟨u⟩⟩)), (1, .v (.int .i64 (if v3 < (if 0 > at_ then 0 else at_) then v3 else (if 0 > at_ then 0 else at_)))), (7, .v (.bool v1)), (9, .v (.string ⟨⟨v4⟩⟩)), (10, .v (.string ⟨⟨v5⟩⟩)), (11, .v (.string ⟨⟨v6⟩⟩)), (40, .v (.string ⟨⟨u⟩⟩)), (41, .v (.string ⟨⟨v5⟩⟩)), (42, .v (.int .i64 (if v3 < (if 0 > at_ then 0 else at_) then v3 else (if 0 > at_ then 0 else at_))))]) (B' := []) (by kernel_rfl) fun ρ w a hX => ?_
    obtain ⟨v7, hv7, h0⟩ := bnd_some h0
    refine Cx.call0 hX (lit := []) (by kernel_rfl) rfl (by kernel_rfl) ⟨⟨_, Tryd.func29, by kernel_rfl, rfl⟩⟩ (ss := [.v (.string ⟨⟨u⟩⟩), .v (.string ⟨⟨v5⟩⟩), .v (.int .i64 (if v3 < (if 0 > at_ then 0 else at_) then v3 else (if 0 > at_ then 0 else at_)))]) (by kernel_rfl) [.v (.string ⟨⟨u⟩⟩), .v (.string ⟨⟨v5⟩⟩), .v (.int .i64 (if v3 < (if 0 > at_ then 0 else at_) then v3 else (if 0 > at_ then 0 else at_)))] rfl (fun hg => hg) (fun hv hle hg => units_Find.ok u v5 (if v3 < (if 0 > at_ then 0 else at_) then v3 else (if 0 > at_ then 0 else at_)) v7 hv7 _ _ hv (hG.mono hle) hg _) (fun s F w a hp hX => ?_)
    subst hp
    refine hX.part [] 1 [0, 1, 7, 9, 10, 11, 12] (l' := [(0, .v (.string ⟨⟨u⟩⟩)), (1, .v (.int .i64 (if v3 < (if 0 > at_ then 0 else at_) then v3 else (if 0 > at_ then 0 else at_)))), (7, .v (.bool v1)), (9, .v (.string ⟨⟨v4⟩⟩)), (10, .v (.string ⟨⟨v5⟩⟩)), (11, .v (.string ⟨⟨v6⟩⟩)), (12, .v (.int .i64 v7))]) (B' := []) (by kernel_rfl) fun ρ w a hX => ?_
    refine wpList_end ?_
    refine hK12 _ _ ?_
    refine wp_seq_k fun K13 hK13 => ?_
    have J13 : ∀ (x10 : Bool), law01_UnitsParts.j1 x10 = some r → ∀ (ρ : Nat → Nat) (w : World) (F : Heap) (a : Act), Cx 59 w0 F0 No w F [] [] ρ [(6, .v (.bool x10))] a → K13 a w := by
      intro x10 h0  ρ w F a hX
      unfold law01_UnitsParts.j1 at h0
      refine hK13 _ _ ?_
      refine wp_ret ?_
      have hr := Option.some.inj (show some _ = some _ from h0)
      subst hr
      exact hX.ret0 (ss := [.v (.bool x10)]) (by kernel_rfl) (by kernel_rfl) rfl
    refine wp_region_list ?_
    refine hX.part [] 2 [0, 1, 9, 10, 11, 12, 45] (l' := [(0, .v (.string ⟨⟨u⟩⟩)), (1, .v (.int .i64 (if v3 < (if 0 > at_ then 0 else at_) then v3 else (if 0 > at_ then 0 else at_)))), (9, .v (.string ⟨⟨v4⟩⟩)), (10, .v (.string ⟨⟨v5⟩⟩)), (11, .v (.string ⟨⟨v6⟩⟩)), (12, .v (.int .i64 v7)), (45, .v (.bool v1))]) (B' := []) (by kernel_rfl) fun ρ w a hX => ?_
    refine ite_go h0 (fun hb h0 => ?_) (fun hb h0 => ?_)
    · have hX := hX.relit 45 hb (by kernel_rfl)
      refine hX.part [1] 2 [0, 1, 11, 12, 45, 46, 47] (l' := [(0, .v (.string ⟨⟨u⟩⟩)), (1, .v (.int .i64 (if v3 < (if 0 > at_ then 0 else at_) then v3 else (if 0 > at_ then 0 else at_)))), (11, .v (.string ⟨⟨v6⟩⟩)), (12, .v (.int .i64 v7)), (45, .v (.bool true)), (46, .v (.string ⟨⟨v4⟩⟩)), (47, .v (.string ⟨⟨v5⟩⟩))]) (B' := []) (by kernel_rfl) fun ρ w a hX => ?_
      obtain ⟨v8, hv8, h0⟩ := bnd_some h0
      refine hX.catStr (lit := [1]) (by kernel_rfl) (by kernel_rfl) rfl (s := v4) (t := v5) (r := v8) (by kernel_rfl) (by kernel_rfl) hv8 fun a hX => ?_
      refine hX.part [1] 1 [0, 1, 12, 45, 48, 49] (l' := [(0, .v (.string ⟨⟨u⟩⟩)), (1, .v (.int .i64 (if v3 < (if 0 > at_ then 0 else at_) then v3 else (if 0 > at_ then 0 else at_)))), (12, .v (.int .i64 v7)), (45, .v (.bool true)), (48, .v (.string ⟨⟨v8⟩⟩)), (49, .v (.string ⟨⟨v6⟩⟩))]) (B' := []) (by kernel_rfl) fun ρ w a hX => ?_
      obtain ⟨v9, hv9, h0⟩ := bnd_some h0
      refine hX.catStr (lit := [1]) (by kernel_rfl) (by kernel_rfl) rfl (s := v8) (t := v6) (r := v9) (by kernel_rfl) (by kernel_rfl) hv9 fun a hX => ?_
      refine hX.part [1] 9 [6] (l' := [(6, .v (.bool ((v9 == u) && (v7 == (if v3 < (if 0 > at_ then 0 else at_) then v3 else (if 0 > at_ then 0 else at_))))))]) (B' := []) (by kernel_rfl) fun ρ w a hX => ?_
      refine wpList_end ?_
      have hX := hX.keeps [6] (l' := [(6, .v (.bool ((v9 == u) && (v7 == (if v3 < (if 0 > at_ then 0 else at_) then v3 else (if 0 > at_ then 0 else at_))))))]) (by kernel_rfl)
      exact J13 ((v9 == u) && (v7 == (if v3 < (if 0 > at_ then 0 else at_) then v3 else (if 0 > at_ then 0 else at_)))) h0  _ _ _ _ hX
    · have hX := hX.relit 45 hb (by kernel_rfl)
      refine hX.part [1, 10] 14 [6] (l' := [(6, .v (.bool false))]) (B' := []) (by kernel_rfl) fun ρ w a hX => ?_
      refine wpList_end ?_
      have hX := hX.keeps [6] (l' := [(6, .v (.bool false))]) (by kernel_rfl)
      exact J13 false h0  _ _ _ _ hX
def law01_UnitsFound.j2 (x14 : Bool) : Option (Bool) :=
  some x14
def law01_UnitsFound.j1 (u : Str) (v : Str) (w_ : Str) (v1 : Bool) (x5 : Bool) : Option (Bool) :=
  if x5 = true then
    some v1
  else
    Option.bind (catS u v) fun v6 =>
    Option.bind (catS v6 w_) fun v7 =>
    Option.bind (units_Find v7 v 0) fun v8 =>
    if (v1 && (decide (v8 ≥ 0))) = true then
      Option.bind (units_Len u) fun v9 =>
      if (decide (v8 ≤ v9)) = true then
        Option.bind (catS u v) fun v10 =>
        Option.bind (catS v10 w_) fun v11 =>
        Option.bind (units_Len v) fun v12 =>
        Option.bind (units_Cut v11 v8 (IntKind.wrap .i64 (v8 + v12))) fun v13 =>
        law01_UnitsFound.j2 (v13 == v)
      else
        law01_UnitsFound.j2 false
    else
      law01_UnitsFound.j2 false
def law01_UnitsFound (u : Str) (v : Str) (w_ : Str) : Option (Bool) :=
  Option.bind (law01_live) fun v1 =>
  Option.bind (units_Check u) fun v2 =>
  if (!v2) = true then
    law01_UnitsFound.j1 u v w_ v1 true
  else
    Option.bind (units_Check v) fun v3 =>
    if (!v3) = true then
      law01_UnitsFound.j1 u v w_ v1 true
    else
      Option.bind (units_Check w_) fun v4 =>
      law01_UnitsFound.j1 u v w_ v1 (!v4)
theorem law01_UnitsFound.ok (u : Str) (v : Str) (w_ : Str) (r : Bool) (h0 : law01_UnitsFound u v w_ = some r) (w0 : World) (F0 : Heap) (hv : F0.Sub w0) (hG : Glob F0) (hg : SV.goods F0 [.v (.string ⟨⟨u⟩⟩), .v (.string ⟨⟨v⟩⟩), .v (.string ⟨⟨w_⟩⟩)]) (ρ : Nat → Nat) :
    Calls Tryd.prog 11 (SV.dens ρ [.v (.string ⟨⟨u⟩⟩), .v (.string ⟨⟨v⟩⟩), .v (.string ⟨⟨w_⟩⟩)]).toArray w0 (Ret0 w0 F0 fun s => s = .v (.bool r)) := by
  refine calls_of_wp Tryd.func11 rfl ?_
  have hX := Cx.enter (D := No) (B := []) (L := []) (ρ := ρ) (N := 57) Tryd.ntmps11 [.v (.string ⟨⟨u⟩⟩), .v (.string ⟨⟨v⟩⟩), .v (.string ⟨⟨w_⟩⟩)] (St.start hv) rfl hg (by kernel_rfl) (fun _ h => by cases h) (Nat.le_of_ble_eq_true rfl) No.unfix
  unfold law01_UnitsFound at h0
  refine Cx.rseq hX [] [0, 1, 2] (l' := [(0, .v (.string ⟨⟨u⟩⟩)), (1, .v (.string ⟨⟨v⟩⟩)), (2, .v (.string ⟨⟨w_⟩⟩))]) (B' := []) (by kernel_rfl) fun ρ w a hX => ?_
  refine wp_seq_k fun K2 hK2 => ?_
  refine wp_region_list ?_
  refine hX.part [] 0 [0, 1, 2] (l' := [(0, .v (.string ⟨⟨u⟩⟩)), (1, .v (.string ⟨⟨v⟩⟩)), (2, .v (.string ⟨⟨w_⟩⟩))]) (B' := []) (by kernel_rfl) fun ρ w a hX => ?_
  obtain ⟨v1, hv1, h0⟩ := bnd_some h0
  refine Cx.call0 hX (lit := []) (by kernel_rfl) rfl (by kernel_rfl) ⟨⟨_, Tryd.func14, by kernel_rfl, rfl⟩⟩ (ss := []) (by kernel_rfl) [] rfl (fun hg => hg) (fun hv hle hg => law01_live.ok v1 hv1 _ _ hv (hG.mono hle) hg _) (fun s F w a hp hX => ?_)
  subst hp
  refine hX.part [] 1 [0, 1, 2, 7] (l' := [(0, .v (.string ⟨⟨u⟩⟩)), (1, .v (.string ⟨⟨v⟩⟩)), (2, .v (.string ⟨⟨w_⟩⟩)), (7, .v (.bool v1))]) (B' := []) (by kernel_rfl) fun ρ w a hX => ?_
  refine wpList_end ?_
  refine hK2 _ _ ?_
  refine wp_seq_k fun K3 hK3 => ?_
  refine wp_seq_k fun K4 hK4 => ?_
  have J4 : ∀ (x5 : Bool), law01_UnitsFound.j1 u v w_ v1 x5 = some r → ∀ (ρ : Nat → Nat) (w : World) (F : Heap) (a : Act), Cx 57 w0 F0 No w F [] [] ρ [(0, .v (.string ⟨⟨u⟩⟩)), (1, .v (.string ⟨⟨v⟩⟩)), (2, .v (.string ⟨⟨w_⟩⟩)), (7, .v (.bool v1)), (22, .v (.bool x5))] a → K4 a w := by
    intro x5 h0  ρ w F a hX
    unfold law01_UnitsFound.j1 at h0
    refine hK4 _ _ ?_
    refine Cx.cond hX (b := x5) (by kernel_rfl) (fun hb => ?_) (fun hb => ?_)
    · have h0 := ite_tt h0 hb
      refine Cx.rseq hX [] [6] (l' := [(6, .v (.bool v1))]) (B' := []) (by kernel_rfl) fun ρ w a hX => ?_
      refine wp_ret ?_
      have hr := Option.some.inj (show some _ = some _ from h0)
      subst hr
      exact hX.ret0 (ss := [.v (.bool v1)]) (by kernel_rfl) (by kernel_rfl) rfl
    · have h0 := ite_ff h0 hb
      refine wp_skip ?_
      refine hK3 _ _ ?_
      refine wp_seq_k fun K6 hK6 => ?_
      refine wp_region_list ?_
      refine hX.part [] 2 [0, 1, 2, 7, 24, 25] (l' := [(0, .v (.string ⟨⟨u⟩⟩)), (1, .v (.string ⟨⟨v⟩⟩)), (2, .v (.string ⟨⟨w_⟩⟩)), (7, .v (.bool v1)), (24, .v (.string ⟨⟨u⟩⟩)), (25, .v (.string ⟨⟨v⟩⟩))]) (B' := []) (by kernel_rfl) fun ρ w a hX => ?_
      obtain ⟨v6, hv6, h0⟩ := bnd_some h0
      refine hX.catStr (lit := []) (by kernel_rfl) (by kernel_rfl) rfl (s := u) (t := v) (r := v6) (by kernel_rfl) (by kernel_rfl) hv6 fun a hX => ?_
      refine hX.part [] 1 [0, 1, 2, 7, 26, 27] (l' := [(0, .v (.string ⟨⟨u⟩⟩)), (1, .v (.string ⟨⟨v⟩⟩)), (2, .v (.string ⟨⟨w_⟩⟩)), (7, .v (.bool v1)), (26, .v (.string ⟨⟨v6⟩⟩)), (27, .v (.string ⟨⟨w_⟩⟩))]) (B' := []) (by kernel_rfl) fun ρ w a hX => ?_
      obtain ⟨v7, hv7, h0⟩ := bnd_some h0
      refine hX.catStr (lit := []) (by kernel_rfl) (by kernel_rfl) rfl (s := v6) (t := w_) (r := v7) (by kernel_rfl) (by kernel_rfl) hv7 fun a hX => ?_
      refine hX.part [] 1 [0, 1, 2, 7, 28, 29] (l' := [(0, .v (.string ⟨⟨u⟩⟩)), (1, .v (.string ⟨⟨v⟩⟩)), (2, .v (.string ⟨⟨w_⟩⟩)), (7, .v (.bool v1)), (28, .v (.string ⟨⟨v7⟩⟩)), (29, .v (.string ⟨⟨v⟩⟩))]) (B' := []) (by kernel_rfl) fun ρ w a hX => ?_
      obtain ⟨v8, hv8, h0⟩ := bnd_some h0
      refine Cx.call0 hX (lit := []) (by kernel_rfl) rfl (by kernel_rfl) ⟨⟨_, Tryd.func29, by kernel_rfl, rfl⟩⟩ (ss := [.v (.string ⟨⟨v7⟩⟩), .v (.string ⟨⟨v⟩⟩), .v (.int .i64 0)]) (by kernel_rfl) [.v (.string ⟨⟨v7⟩⟩), .v (.string ⟨⟨v⟩⟩), .v (.int .i64 0)] rfl (fun hg => hg) (fun hv hle hg => units_Find.ok v7 v 0 v8 hv8 _ _ hv (hG.mono hle) hg _) (fun s F w a hp hX => ?_)
      subst hp
      refine hX.part [] 1 [0, 1, 2, 7, 8] (l' := [(0, .v (.string ⟨⟨u⟩⟩)), (1, .v (.string ⟨⟨v⟩⟩)), (2, .v (.string ⟨⟨w_⟩⟩)), (7, .v (.bool v1)), (8, .v (.int .i64 v8))]) (B' := []) (by kernel_rfl) fun ρ w a hX => ?_
      refine wpList_end ?_
      refine hK6 _ _ ?_
      refine wp_seq_k fun K7 hK7 => ?_
      have J7 : ∀ (x14 : Bool), law01_UnitsFound.j2 x14 = some r → ∀ (ρ : Nat → Nat) (w : World) (F : Heap) (a : Act), Cx 57 w0 F0 No w F [] [] ρ [(6, .v (.bool x14))] a → K7 a w := by
        intro x14 h0  ρ w F a hX
        unfold law01_UnitsFound.j2 at h0
        refine hK7 _ _ ?_
        refine wp_ret ?_
        have hr := Option.some.inj (show some _ = some _ from h0)
        subst hr
        exact hX.ret0 (ss := [.v (.bool x14)]) (by kernel_rfl) (by kernel_rfl) rfl
      refine wp_region_list ?_
      refine hX.part [] 6 [0, 1, 2, 8, 36] (l' := [(0, .v (.string ⟨⟨u⟩⟩)), (1, .v (.string ⟨⟨v⟩⟩)), (2, .v (.string ⟨⟨w_⟩⟩)), (8, .v (.int .i64 v8)), (36, .v (.bool (v1 && (decide (v8 ≥ 0)))))]) (B' := []) (by kernel_rfl) fun ρ w a hX => ?_
      refine ite_go h0 (fun hb h0 => ?_) (fun hb h0 => ?_)
      · have hX := hX.relit 36 hb (by kernel_rfl)
        refine hX.part [5] 2 [0, 1, 2, 8, 36, 37, 38] (l' := [(0, .v (.string ⟨⟨u⟩⟩)), (1, .v (.string ⟨⟨v⟩⟩)), (2, .v (.string ⟨⟨w_⟩⟩)), (8, .v (.int .i64 v8)), (36, .v (.bool true)), (37, .v (.int .i64 v8)), (38, .v (.string ⟨⟨u⟩⟩))]) (B' := []) (by kernel_rfl) fun ρ w a hX => ?_
        obtain ⟨v9, hv9, h0⟩ := bnd_some h0
        refine Cx.call0 hX (lit := [5]) (by kernel_rfl) rfl (by kernel_rfl) ⟨⟨_, Tryd.func22, by kernel_rfl, rfl⟩⟩ (ss := [.v (.string ⟨⟨u⟩⟩)]) (by kernel_rfl) [.v (.string ⟨⟨u⟩⟩)] rfl (fun hg => hg) (fun hv hle hg => units_Len.ok u v9 hv9 _ _ hv (hG.mono hle) hg _) (fun s F w a hp hX => ?_)
        subst hp
        refine hX.part [5] 3 [0, 1, 2, 8, 42] (l' := [(0, .v (.string ⟨⟨u⟩⟩)), (1, .v (.string ⟨⟨v⟩⟩)), (2, .v (.string ⟨⟨w_⟩⟩)), (8, .v (.int .i64 v8)), (42, .v (.bool (decide (v8 ≤ v9))))]) (B' := []) (by kernel_rfl) fun ρ w a hX => ?_
        refine ite_go h0 (fun hb h0 => ?_) (fun hb h0 => ?_)
        · have hX := hX.relit 42 hb (by kernel_rfl)
          refine hX.part [11] 2 [1, 2, 8, 42, 43, 44] (l' := [(1, .v (.string ⟨⟨v⟩⟩)), (2, .v (.string ⟨⟨w_⟩⟩)), (8, .v (.int .i64 v8)), (42, .v (.bool true)), (43, .v (.string ⟨⟨u⟩⟩)), (44, .v (.string ⟨⟨v⟩⟩))]) (B' := []) (by kernel_rfl) fun ρ w a hX => ?_
          obtain ⟨v10, hv10, h0⟩ := bnd_some h0
          refine hX.catStr (lit := [11]) (by kernel_rfl) (by kernel_rfl) rfl (s := u) (t := v) (r := v10) (by kernel_rfl) (by kernel_rfl) hv10 fun a hX => ?_
          refine hX.part [11] 1 [1, 8, 42, 45, 46] (l' := [(1, .v (.string ⟨⟨v⟩⟩)), (8, .v (.int .i64 v8)), (42, .v (.bool true)), (45, .v (.string ⟨⟨v10⟩⟩)), (46, .v (.string ⟨⟨w_⟩⟩))]) (B' := []) (by kernel_rfl) fun ρ w a hX => ?_
          obtain ⟨v11, hv11, h0⟩ := bnd_some h0
          refine hX.catStr (lit := [11]) (by kernel_rfl) (by kernel_rfl) rfl (s := v10) (t := w_) (r := v11) (by kernel_rfl) (by kernel_rfl) hv11 fun a hX => ?_
          refine hX.part [11] 3 [1, 42, 47, 48, 49, 50] (l' := [(1, .v (.string ⟨⟨v⟩⟩)), (42, .v (.bool true)), (47, .v (.string ⟨⟨v11⟩⟩)), (48, .v (.int .i64 v8)), (49, .v (.int .i64 v8)), (50, .v (.string ⟨⟨v⟩⟩))]) (B' := []) (by kernel_rfl) fun ρ w a hX => ?_
          obtain ⟨v12, hv12, h0⟩ := bnd_some h0
          refine Cx.call0 hX (lit := [11]) (by kernel_rfl) rfl (by kernel_rfl) ⟨⟨_, Tryd.func22, by kernel_rfl, rfl⟩⟩ (ss := [.v (.string ⟨⟨v⟩⟩)]) (by kernel_rfl) [.v (.string ⟨⟨v⟩⟩)] rfl (fun hg => hg) (fun hv hle hg => units_Len.ok v v12 hv12 _ _ hv (hG.mono hle) hg _) (fun s F w a hp hX => ?_)
          subst hp
          refine hX.part [11] 1 [1, 42, 47, 48, 52] (l' := [(1, .v (.string ⟨⟨v⟩⟩)), (42, .v (.bool true)), (47, .v (.string ⟨⟨v11⟩⟩)), (48, .v (.int .i64 v8)), (52, .v (.int .i64 (IntKind.wrap .i64 (v8 + v12))))]) (B' := []) (by kernel_rfl) fun ρ w a hX => ?_
          obtain ⟨v13, hv13, h0⟩ := bnd_some h0
          refine Cx.call0 hX (lit := [11]) (by kernel_rfl) rfl (by kernel_rfl) ⟨⟨_, Tryd.func27, by kernel_rfl, rfl⟩⟩ (ss := [.v (.string ⟨⟨v11⟩⟩), .v (.int .i64 v8), .v (.int .i64 (IntKind.wrap .i64 (v8 + v12)))]) (by kernel_rfl) [.v (.string ⟨⟨v11⟩⟩), .v (.int .i64 v8), .v (.int .i64 (IntKind.wrap .i64 (v8 + v12)))] rfl (fun hg => hg) (fun hv hle hg => units_Cut.ok v11 v8 (IntKind.wrap .i64 (v8 + v12)) v13 hv13 _ _ hv (hG.mono hle) hg _) (fun s F w a hp hX => ?_)
          subst hp
          refine hX.part [11] 4 [6] (l' := [(6, .v (.bool (v13 == v)))]) (B' := []) (by kernel_rfl) fun ρ w a hX => ?_
          refine wpList_end ?_
          have hX := hX.keeps [6] (l' := [(6, .v (.bool (v13 == v)))]) (by kernel_rfl)
          exact J7 (v13 == v) h0  _ _ _ _ hX
        · have hX := hX.relit 42 hb (by kernel_rfl)
          refine hX.part [11] 15 [6] (l' := [(6, .v (.bool false))]) (B' := []) (by kernel_rfl) fun ρ w a hX => ?_
          refine wpList_end ?_
          have hX := hX.keeps [6] (l' := [(6, .v (.bool false))]) (by kernel_rfl)
          exact J7 false h0  _ _ _ _ hX
      · have hX := hX.relit 36 hb (by kernel_rfl)
        refine hX.part [5, 11] 21 [6] (l' := [(6, .v (.bool false))]) (B' := []) (by kernel_rfl) fun ρ w a hX => ?_
        refine wpList_end ?_
        have hX := hX.keeps [6] (l' := [(6, .v (.bool false))]) (by kernel_rfl)
        exact J7 false h0  _ _ _ _ hX
  refine wp_region_list ?_
  refine hX.part [] 1 [0, 1, 2, 7, 10] (l' := [(0, .v (.string ⟨⟨u⟩⟩)), (1, .v (.string ⟨⟨v⟩⟩)), (2, .v (.string ⟨⟨w_⟩⟩)), (7, .v (.bool v1)), (10, .v (.string ⟨⟨u⟩⟩))]) (B' := []) (by kernel_rfl) fun ρ w a hX => ?_
  obtain ⟨v2, hv2, h0⟩ := bnd_some h0
  refine Cx.call0 hX (lit := []) (by kernel_rfl) rfl (by kernel_rfl) ⟨⟨_, Tryd.func21, by kernel_rfl, rfl⟩⟩ (ss := [.v (.string ⟨⟨u⟩⟩)]) (by kernel_rfl) [.v (.string ⟨⟨u⟩⟩)] rfl (fun hg => hg) (fun hv hle hg => units_Check.ok u v2 hv2 _ _ hv (hG.mono hle) hg _) (fun s F w a hp hX => ?_)
  subst hp
  refine hX.part [] 2 [0, 1, 2, 7, 13] (l' := [(0, .v (.string ⟨⟨u⟩⟩)), (1, .v (.string ⟨⟨v⟩⟩)), (2, .v (.string ⟨⟨w_⟩⟩)), (7, .v (.bool v1)), (13, .v (.bool (!v2)))]) (B' := []) (by kernel_rfl) fun ρ w a hX => ?_
  refine ite_go h0 (fun hb h0 => ?_) (fun hb h0 => ?_)
  · have hX := hX.relit 13 hb (by kernel_rfl)
    refine hX.part [3, 8] 9 [0, 1, 2, 7, 22] (l' := [(0, .v (.string ⟨⟨u⟩⟩)), (1, .v (.string ⟨⟨v⟩⟩)), (2, .v (.string ⟨⟨w_⟩⟩)), (7, .v (.bool v1)), (22, .v (.bool true))]) (B' := []) (by kernel_rfl) fun ρ w a hX => ?_
    refine wpList_end ?_
    have hX := hX.keeps [0, 1, 2, 7, 22] (l' := [(0, .v (.string ⟨⟨u⟩⟩)), (1, .v (.string ⟨⟨v⟩⟩)), (2, .v (.string ⟨⟨w_⟩⟩)), (7, .v (.bool v1)), (22, .v (.bool true))]) (by kernel_rfl)
    exact J4 true h0  _ _ _ _ hX
  · have hX := hX.relit 13 hb (by kernel_rfl)
    refine hX.part [3] 1 [0, 1, 2, 7, 13, 14] (l' := [(0, .v (.string ⟨⟨u⟩⟩)), (1, .v (.string ⟨⟨v⟩⟩)), (2, .v (.string ⟨⟨w_⟩⟩)), (7, .v (.bool v1)), (13, .v (.bool false)), (14, .v (.string ⟨⟨v⟩⟩))]) (B' := []) (by kernel_rfl) fun ρ w a hX => ?_
    obtain ⟨v3, hv3, h0⟩ := bnd_some h0
    refine Cx.call0 hX (lit := [3]) (by kernel_rfl) rfl (by kernel_rfl) ⟨⟨_, Tryd.func21, by kernel_rfl, rfl⟩⟩ (ss := [.v (.string ⟨⟨v⟩⟩)]) (by kernel_rfl) [.v (.string ⟨⟨v⟩⟩)] rfl (fun hg => hg) (fun hv hle hg => units_Check.ok v v3 hv3 _ _ hv (hG.mono hle) hg _) (fun s F w a hp hX => ?_)
    subst hp
    refine hX.part [3] 3 [0, 1, 2, 7, 18] (l' := [(0, .v (.string ⟨⟨u⟩⟩)), (1, .v (.string ⟨⟨v⟩⟩)), (2, .v (.string ⟨⟨w_⟩⟩)), (7, .v (.bool v1)), (18, .v (.bool (!v3)))]) (B' := []) (by kernel_rfl) fun ρ w a hX => ?_
    refine ite_go h0 (fun hb h0 => ?_) (fun hb h0 => ?_)
    · have hX := hX.relit 18 hb (by kernel_rfl)
      refine hX.part [8] 4 [0, 1, 2, 7, 22] (l' := [(0, .v (.string ⟨⟨u⟩⟩)), (1, .v (.string ⟨⟨v⟩⟩)), (2, .v (.string ⟨⟨w_⟩⟩)), (7, .v (.bool v1)), (22, .v (.bool true))]) (B' := []) (by kernel_rfl) fun ρ w a hX => ?_
      refine wpList_end ?_
      have hX := hX.keeps [0, 1, 2, 7, 22] (l' := [(0, .v (.string ⟨⟨u⟩⟩)), (1, .v (.string ⟨⟨v⟩⟩)), (2, .v (.string ⟨⟨w_⟩⟩)), (7, .v (.bool v1)), (22, .v (.bool true))]) (by kernel_rfl)
      exact J4 true h0  _ _ _ _ hX
    · have hX := hX.relit 18 hb (by kernel_rfl)
      refine hX.part [8] 1 [0, 1, 2, 7, 18, 19] (l' := [(0, .v (.string ⟨⟨u⟩⟩)), (1, .v (.string ⟨⟨v⟩⟩)), (2, .v (.string ⟨⟨w_⟩⟩)), (7, .v (.bool v1)), (18, .v (.bool false)), (19, .v (.string ⟨⟨w_⟩⟩))]) (B' := []) (by kernel_rfl) fun ρ w a hX => ?_
      obtain ⟨v4, hv4, h0⟩ := bnd_some h0
      refine Cx.call0 hX (lit := [8]) (by kernel_rfl) rfl (by kernel_rfl) ⟨⟨_, Tryd.func21, by kernel_rfl, rfl⟩⟩ (ss := [.v (.string ⟨⟨w_⟩⟩)]) (by kernel_rfl) [.v (.string ⟨⟨w_⟩⟩)] rfl (fun hg => hg) (fun hv hle hg => units_Check.ok w_ v4 hv4 _ _ hv (hG.mono hle) hg _) (fun s F w a hp hX => ?_)
      subst hp
      refine hX.part [8] 2 [0, 1, 2, 7, 22] (l' := [(0, .v (.string ⟨⟨u⟩⟩)), (1, .v (.string ⟨⟨v⟩⟩)), (2, .v (.string ⟨⟨w_⟩⟩)), (7, .v (.bool v1)), (22, .v (.bool (!v4)))]) (B' := []) (by kernel_rfl) fun ρ w a hX => ?_
      refine wpList_end ?_
      have hX := hX.keeps [0, 1, 2, 7, 22] (l' := [(0, .v (.string ⟨⟨u⟩⟩)), (1, .v (.string ⟨⟨v⟩⟩)), (2, .v (.string ⟨⟨w_⟩⟩)), (7, .v (.bool v1)), (22, .v (.bool (!v4)))]) (by kernel_rfl)
      exact J4 (!v4) h0  _ _ _ _ hX
end
end Go.Gw
