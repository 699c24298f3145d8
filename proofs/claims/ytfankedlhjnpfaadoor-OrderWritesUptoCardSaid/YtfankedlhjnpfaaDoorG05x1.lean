/- Texts for the statements of this seat. -/
import Derived.Test.YtfankedlhjnpfaaDoorG05x0
import Derived.Test.YtfankedlhjnpfaaDoorGwK
import Derived.Test.YtfankedlhjnpfaaDoorShelf05
import Derived.Test.YtfankedlhjnpfaaDoorProg
import Derived.KernelRfl
set_option linter.unusedVariables false
set_option linter.unusedSimpArgs false
set_option linter.unnecessarySimpa false
namespace Go.Gw
open Go.Proofs Go.RowKit
set_option maxRecDepth 100000
set_option linter.unusedVariables false
set_option linter.unusedSimpArgs false
noncomputable section
def law05_OrderTotal.j2 (x9 : Bool) : Option (Bool) :=
  some x9
def law05_OrderTotal.j1 (a_ : List T_api_Part) (b : List T_api_Part) (c : List T_api_Part) (v1 : Bool) (x5 : Bool) : Option (Bool) :=
  if x5 = true then
    some false
  else
    if v1 = true then
      Option.bind (order_Compare a_ b) fun v6 =>
      if (decide (v6 > 0)) = true then
        law05_OrderTotal.j2 true
      else
        Option.bind (order_Compare b c) fun v7 =>
        if (decide (v7 > 0)) = true then
          law05_OrderTotal.j2 true
        else
          Option.bind (order_Compare a_ c) fun v8 =>
          law05_OrderTotal.j2 (decide (v8 ≤ 0))
    else
      law05_OrderTotal.j2 false
def law05_OrderTotal (a_ : List T_api_Part) (b : List T_api_Part) (c : List T_api_Part) : Option (Bool) :=
  Option.bind (law05_live) fun v1 =>
  Option.bind (order_Compare a_ b) fun v2 =>
  Option.bind (order_Compare b a_) fun v3 =>
  if (v2 != (IntKind.wrap .i64 (0 - v3))) = true then
    law05_OrderTotal.j1 a_ b c v1 true
  else
    Option.bind (order_Compare a_ a_) fun v4 =>
    law05_OrderTotal.j1 a_ b c v1 (v4 != 0)
theorem law05_OrderTotal.ok (a_ : List T_api_Part) (b : List T_api_Part) (c : List T_api_Part) (y_a_ : (Option Addr × Nat)) (y_b : (Option Addr × Nat)) (y_c : (Option Addr × Nat)) (r : Bool) (h0 : law05_OrderTotal a_ b c = some r) (w0 : World) (F0 : Heap) (hv : F0.Sub w0) (hG : Glob F0) (hg : SV.goods F0 [SV.sl kT_api_Part a_ y_a_.1 y_a_.2, SV.sl kT_api_Part b y_b.1 y_b.2, SV.sl kT_api_Part c y_c.1 y_c.2]) (ρ : Nat → Nat) :
    Calls Tryd.prog 7 (SV.dens ρ [SV.sl kT_api_Part a_ y_a_.1 y_a_.2, SV.sl kT_api_Part b y_b.1 y_b.2, SV.sl kT_api_Part c y_c.1 y_c.2]).toArray w0 (Ret0 w0 F0 fun s => s = .v (.bool r)) := by
  refine calls_of_wp Tryd.func7 rfl ?_
  have hX := Cx.enter (D := No) (B := []) (L := []) (ρ := ρ) (N := 42) Tryd.ntmps7 [SV.sl kT_api_Part a_ y_a_.1 y_a_.2, SV.sl kT_api_Part b y_b.1 y_b.2, SV.sl kT_api_Part c y_c.1 y_c.2] (St.start hv) rfl hg (by kernel_rfl) (fun _ h => by cases h) (Nat.le_of_ble_eq_true rfl)
  unfold law05_OrderTotal at h0
  refine Cx.rseq hX [] [0, 1, 2] (l' := [(0, SV.sl kT_api_Part a_ y_a_.1 y_a_.2), (1, SV.sl kT_api_Part b y_b.1 y_b.2), (2, SV.sl kT_api_Part c y_c.1 y_c.2)]) (B' := []) (by kernel_rfl) fun ρ w a hX => ?_
  refine wp_seq_k fun K2 hK2 => ?_
  refine wp_region_list ?_
  refine hX.part [] 0 [0, 1, 2] (l' := [(0, SV.sl kT_api_Part a_ y_a_.1 y_a_.2), (1, SV.sl kT_api_Part b y_b.1 y_b.2), (2, SV.sl kT_api_Part c y_c.1 y_c.2)]) (B' := []) (by kernel_rfl) fun ρ w a hX => ?_
  obtain ⟨v1, hv1, h0⟩ := bnd_some h0
  refine Cx.call0 hX (lit := []) (by kernel_rfl) rfl (by kernel_rfl) ⟨⟨_, Tryd.func12, by kernel_rfl, rfl⟩⟩ (ss := []) (by kernel_rfl) [] rfl (fun hg => hg) (fun hv hle hg => law05_live.ok v1 hv1 _ _ hv (hG.mono hle) hg _) (fun s F w a hp hX => ?_)
  subst hp
  refine hX.part [] 1 [0, 1, 2, 7] (l' := [(0, SV.sl kT_api_Part a_ y_a_.1 y_a_.2), (1, SV.sl kT_api_Part b y_b.1 y_b.2), (2, SV.sl kT_api_Part c y_c.1 y_c.2), (7, .v (.bool v1))]) (B' := []) (by kernel_rfl) fun ρ w a hX => ?_
  refine wpList_end ?_
  refine hK2 _ _ ?_
  refine wp_seq_k fun K3 hK3 => ?_
  refine wp_seq_k fun K4 hK4 => ?_
  have J4 : ∀ (x5 : Bool), law05_OrderTotal.j1 a_ b c v1 x5 = some r → ∀ (ρ : Nat → Nat) (w : World) (F : Heap) (a : Act), Cx 42 w0 F0 No w F [] [] ρ [(0, SV.sl kT_api_Part a_ y_a_.1 y_a_.2), (1, SV.sl kT_api_Part b y_b.1 y_b.2), (2, SV.sl kT_api_Part c y_c.1 y_c.2), (7, .v (.bool v1)), (22, .v (.bool x5))] a → K4 a w := by
    intro x5 h0  ρ w F a hX
    unfold law05_OrderTotal.j1 at h0
    refine hK4 _ _ ?_
    refine Cx.cond hX (b := x5) (by kernel_rfl) (fun hb => ?_) (fun hb => ?_)
    · have h0 := ite_tt h0 hb
      refine Cx.rseq hX [] [6] (l' := [(6, .v (.bool false))]) (B' := []) (by kernel_rfl) fun ρ w a hX => ?_
      refine wp_ret ?_
      have hr := Option.some.inj (show some _ = some _ from h0)
      subst hr
      exact hX.ret0 (ss := [.v (.bool false)]) (by kernel_rfl) (by kernel_rfl) rfl
    · have h0 := ite_ff h0 hb
      refine wp_skip ?_
      refine hK3 _ _ ?_
      refine wp_seq_k fun K6 hK6 => ?_
      have J6 : ∀ (x9 : Bool), law05_OrderTotal.j2 x9 = some r → ∀ (ρ : Nat → Nat) (w : World) (F : Heap) (a : Act), Cx 42 w0 F0 No w F [] [] ρ [(6, .v (.bool x9))] a → K6 a w := by
        intro x9 h0  ρ w F a hX
        unfold law05_OrderTotal.j2 at h0
        refine hK6 _ _ ?_
        refine wp_ret ?_
        have hr := Option.some.inj (show some _ = some _ from h0)
        subst hr
        exact hX.ret0 (ss := [.v (.bool x9)]) (by kernel_rfl) (by kernel_rfl) rfl
      refine wp_region_list ?_
      refine hX.part [] 2 [0, 1, 2, 24] (l' := [(0, SV.sl kT_api_Part a_ y_a_.1 y_a_.2), (1, SV.sl kT_api_Part b y_b.1 y_b.2), (2, SV.sl kT_api_Part c y_c.1 y_c.2), (24, .v (.bool v1))]) (B' := []) (by kernel_rfl) fun ρ w a hX => ?_
      refine ite_go h0 (fun hb h0 => ?_) (fun hb h0 => ?_)
      · have hX := hX.relit 24 hb (by kernel_rfl)
        refine hX.part [1] 2 [0, 1, 2, 24, 25, 26] (l' := [(0, SV.sl kT_api_Part a_ y_a_.1 y_a_.2), (1, SV.sl kT_api_Part b y_b.1 y_b.2), (2, SV.sl kT_api_Part c y_c.1 y_c.2), (24, .v (.bool true)), (25, SV.sl kT_api_Part a_ y_a_.1 y_a_.2), (26, SV.sl kT_api_Part b y_b.1 y_b.2)]) (B' := []) (by kernel_rfl) fun ρ w a hX => ?_
        obtain ⟨v6, hv6, h0⟩ := bnd_some h0
        refine Cx.call0 hX (lit := [1]) (by kernel_rfl) rfl (by kernel_rfl) ⟨⟨_, Tryd.func14, by kernel_rfl, rfl⟩⟩ (ss := [SV.sl kT_api_Part a_ y_a_.1 y_a_.2, SV.sl kT_api_Part b y_b.1 y_b.2]) (by kernel_rfl) [SV.sl kT_api_Part a_ y_a_.1 y_a_.2, SV.sl kT_api_Part b y_b.1 y_b.2] rfl (fun hg => hg) (fun hv hle hg => order_Compare.ok a_ b (y_a_.1, y_a_.2) (y_b.1, y_b.2) v6 hv6 _ _ hv (hG.mono hle) hg _) (fun s F w a hp hX => ?_)
        subst hp
        refine hX.part [1] 2 [0, 1, 2, 24, 29] (l' := [(0, SV.sl kT_api_Part a_ y_a_.1 y_a_.2), (1, SV.sl kT_api_Part b y_b.1 y_b.2), (2, SV.sl kT_api_Part c y_c.1 y_c.2), (24, .v (.bool true)), (29, .v (.bool (decide (v6 > 0))))]) (B' := []) (by kernel_rfl) fun ρ w a hX => ?_
        refine ite_go h0 (fun hb h0 => ?_) (fun hb h0 => ?_)
        · have hX := hX.relit 29 hb (by kernel_rfl)
          refine hX.part [1, 6, 12] 13 [6] (l' := [(6, .v (.bool true))]) (B' := []) (by kernel_rfl) fun ρ w a hX => ?_
          refine wpList_end ?_
          have hX := hX.keeps [6] (l' := [(6, .v (.bool true))]) (by kernel_rfl)
          exact J6 true h0  _ _ _ _ hX
        · have hX := hX.relit 29 hb (by kernel_rfl)
          refine hX.part [6] 2 [0, 2, 24, 29, 30, 31] (l' := [(0, SV.sl kT_api_Part a_ y_a_.1 y_a_.2), (2, SV.sl kT_api_Part c y_c.1 y_c.2), (24, .v (.bool true)), (29, .v (.bool false)), (30, SV.sl kT_api_Part b y_b.1 y_b.2), (31, SV.sl kT_api_Part c y_c.1 y_c.2)]) (B' := []) (by kernel_rfl) fun ρ w a hX => ?_
          obtain ⟨v7, hv7, h0⟩ := bnd_some h0
          refine Cx.call0 hX (lit := [6]) (by kernel_rfl) rfl (by kernel_rfl) ⟨⟨_, Tryd.func14, by kernel_rfl, rfl⟩⟩ (ss := [SV.sl kT_api_Part b y_b.1 y_b.2, SV.sl kT_api_Part c y_c.1 y_c.2]) (by kernel_rfl) [SV.sl kT_api_Part b y_b.1 y_b.2, SV.sl kT_api_Part c y_c.1 y_c.2] rfl (fun hg => hg) (fun hv hle hg => order_Compare.ok b c (y_b.1, y_b.2) (y_c.1, y_c.2) v7 hv7 _ _ hv (hG.mono hle) hg _) (fun s F w a hp hX => ?_)
          subst hp
          refine hX.part [1, 6] 3 [0, 2, 24, 35] (l' := [(0, SV.sl kT_api_Part a_ y_a_.1 y_a_.2), (2, SV.sl kT_api_Part c y_c.1 y_c.2), (24, .v (.bool true)), (35, .v (.bool (decide (v7 > 0))))]) (B' := []) (by kernel_rfl) fun ρ w a hX => ?_
          refine ite_go h0 (fun hb h0 => ?_) (fun hb h0 => ?_)
          · have hX := hX.relit 35 hb (by kernel_rfl)
            refine hX.part [1, 12] 7 [6] (l' := [(6, .v (.bool true))]) (B' := []) (by kernel_rfl) fun ρ w a hX => ?_
            refine wpList_end ?_
            have hX := hX.keeps [6] (l' := [(6, .v (.bool true))]) (by kernel_rfl)
            exact J6 true h0  _ _ _ _ hX
          · have hX := hX.relit 35 hb (by kernel_rfl)
            refine hX.part [12] 2 [24, 35, 36, 37] (l' := [(24, .v (.bool true)), (35, .v (.bool false)), (36, SV.sl kT_api_Part a_ y_a_.1 y_a_.2), (37, SV.sl kT_api_Part c y_c.1 y_c.2)]) (B' := []) (by kernel_rfl) fun ρ w a hX => ?_
            obtain ⟨v8, hv8, h0⟩ := bnd_some h0
            refine Cx.call0 hX (lit := [12]) (by kernel_rfl) rfl (by kernel_rfl) ⟨⟨_, Tryd.func14, by kernel_rfl, rfl⟩⟩ (ss := [SV.sl kT_api_Part a_ y_a_.1 y_a_.2, SV.sl kT_api_Part c y_c.1 y_c.2]) (by kernel_rfl) [SV.sl kT_api_Part a_ y_a_.1 y_a_.2, SV.sl kT_api_Part c y_c.1 y_c.2] rfl (fun hg => hg) (fun hv hle hg => order_Compare.ok a_ c (y_a_.1, y_a_.2) (y_c.1, y_c.2) v8 hv8 _ _ hv (hG.mono hle) hg _) (fun s F w a hp hX => ?_)
            subst hp
            refine hX.part [1, 12] 4 [6] (l' := [(6, .v (.bool (decide (v8 ≤ 0))))]) (B' := []) (by kernel_rfl) fun ρ w a hX => ?_
            refine wpList_end ?_
            have hX := hX.keeps [6] (l' := [(6, .v (.bool (decide (v8 ≤ 0))))]) (by kernel_rfl)
            exact J6 (decide (v8 ≤ 0)) h0  _ _ _ _ hX
      · have hX := hX.relit 24 hb (by kernel_rfl)
        refine hX.part [1, 6, 12] 18 [6] (l' := [(6, .v (.bool false))]) (B' := []) (by kernel_rfl) fun ρ w a hX => ?_
        refine wpList_end ?_
        have hX := hX.keeps [6] (l' := [(6, .v (.bool false))]) (by kernel_rfl)
        exact J6 false h0  _ _ _ _ hX
  refine wp_region_list ?_
  refine hX.part [] 2 [0, 1, 2, 7, 9, 10] (l' := [(0, SV.sl kT_api_Part a_ y_a_.1 y_a_.2), (1, SV.sl kT_api_Part b y_b.1 y_b.2), (2, SV.sl kT_api_Part c y_c.1 y_c.2), (7, .v (.bool v1)), (9, SV.sl kT_api_Part a_ y_a_.1 y_a_.2), (10, SV.sl kT_api_Part b y_b.1 y_b.2)]) (B' := []) (by kernel_rfl) fun ρ w a hX => ?_
  obtain ⟨v2, hv2, h0⟩ := bnd_some h0
  refine Cx.call0 hX (lit := []) (by kernel_rfl) rfl (by kernel_rfl) ⟨⟨_, Tryd.func14, by kernel_rfl, rfl⟩⟩ (ss := [SV.sl kT_api_Part a_ y_a_.1 y_a_.2, SV.sl kT_api_Part b y_b.1 y_b.2]) (by kernel_rfl) [SV.sl kT_api_Part a_ y_a_.1 y_a_.2, SV.sl kT_api_Part b y_b.1 y_b.2] rfl (fun hg => hg) (fun hv hle hg => order_Compare.ok a_ b (y_a_.1, y_a_.2) (y_b.1, y_b.2) v2 hv2 _ _ hv (hG.mono hle) hg _) (fun s F w a hp hX => ?_)
  subst hp
  refine hX.part [] 2 [0, 1, 2, 7, 11, 12, 13] (l' := [(0, SV.sl kT_api_Part a_ y_a_.1 y_a_.2), (1, SV.sl kT_api_Part b y_b.1 y_b.2), (2, SV.sl kT_api_Part c y_c.1 y_c.2), (7, .v (.bool v1)), (11, .v (.int .i64 v2)), (12, SV.sl kT_api_Part b y_b.1 y_b.2), (13, SV.sl kT_api_Part a_ y_a_.1 y_a_.2)]) (B' := []) (by kernel_rfl) fun ρ w a hX => ?_
  obtain ⟨v3, hv3, h0⟩ := bnd_some h0
  refine Cx.call0 hX (lit := []) (by kernel_rfl) rfl (by kernel_rfl) ⟨⟨_, Tryd.func14, by kernel_rfl, rfl⟩⟩ (ss := [SV.sl kT_api_Part b y_b.1 y_b.2, SV.sl kT_api_Part a_ y_a_.1 y_a_.2]) (by kernel_rfl) [SV.sl kT_api_Part b y_b.1 y_b.2, SV.sl kT_api_Part a_ y_a_.1 y_a_.2] rfl (fun hg => hg) (fun hv hle hg => order_Compare.ok b a_ (y_b.1, y_b.2) (y_a_.1, y_a_.2) v3 hv3 _ _ hv (hG.mono hle) hg _) (fun s F w a hp hX => ?_)
  subst hp
  refine hX.part [] 3 [0, 1, 2, 7, 17] (l' := [(0, SV.sl kT_api_Part a_ y_a_.1 y_a_.2), (1, SV.sl kT_api_Part b y_b.1 y_b.2), (2, SV.sl kT_api_Part c y_c.1 y_c.2), (7, .v (.bool v1)), (17, .v (.bool (v2 != (IntKind.wrap .i64 (0 - v3)))))]) (B' := []) (by kernel_rfl) fun ρ w a hX => ?_
  refine ite_go h0 (fun hb h0 => ?_) (fun hb h0 => ?_)
  · have hX := hX.relit 17 hb (by kernel_rfl)
    refine hX.part [8] 5 [0, 1, 2, 7, 22] (l' := [(0, SV.sl kT_api_Part a_ y_a_.1 y_a_.2), (1, SV.sl kT_api_Part b y_b.1 y_b.2), (2, SV.sl kT_api_Part c y_c.1 y_c.2), (7, .v (.bool v1)), (22, .v (.bool true))]) (B' := []) (by kernel_rfl) fun ρ w a hX => ?_
    refine wpList_end ?_
    have hX := hX.keeps [0, 1, 2, 7, 22] (l' := [(0, SV.sl kT_api_Part a_ y_a_.1 y_a_.2), (1, SV.sl kT_api_Part b y_b.1 y_b.2), (2, SV.sl kT_api_Part c y_c.1 y_c.2), (7, .v (.bool v1)), (22, .v (.bool true))]) (by kernel_rfl)
    exact J4 true h0  _ _ _ _ hX
  · have hX := hX.relit 17 hb (by kernel_rfl)
    refine hX.part [8] 2 [0, 1, 2, 7, 17, 18, 19] (l' := [(0, SV.sl kT_api_Part a_ y_a_.1 y_a_.2), (1, SV.sl kT_api_Part b y_b.1 y_b.2), (2, SV.sl kT_api_Part c y_c.1 y_c.2), (7, .v (.bool v1)), (17, .v (.bool false)), (18, SV.sl kT_api_Part a_ y_a_.1 y_a_.2), (19, SV.sl kT_api_Part a_ y_a_.1 y_a_.2)]) (B' := []) (by kernel_rfl) fun ρ w a hX => ?_
    obtain ⟨v4, hv4, h0⟩ := bnd_some h0
    refine Cx.call0 hX (lit := [8]) (by kernel_rfl) rfl (by kernel_rfl) ⟨⟨_, Tryd.func14, by kernel_rfl, rfl⟩⟩ (ss := [SV.sl kT_api_Part a_ y_a_.1 y_a_.2, SV.sl kT_api_Part a_ y_a_.1 y_a_.2]) (by kernel_rfl) [SV.sl kT_api_Part a_ y_a_.1 y_a_.2, SV.sl kT_api_Part a_ y_a_.1 y_a_.2] rfl (fun hg => hg) (fun hv hle hg => order_Compare.ok a_ a_ (y_a_.1, y_a_.2) (y_a_.1, y_a_.2) v4 hv4 _ _ hv (hG.mono hle) hg _) (fun s F w a hp hX => ?_)
    subst hp
    refine hX.part [8] 2 [0, 1, 2, 7, 22] (l' := [(0, SV.sl kT_api_Part a_ y_a_.1 y_a_.2), (1, SV.sl kT_api_Part b y_b.1 y_b.2), (2, SV.sl kT_api_Part c y_c.1 y_c.2), (7, .v (.bool v1)), (22, .v (.bool (v4 != 0)))]) (B' := []) (by kernel_rfl) fun ρ w a hX => ?_
    refine wpList_end ?_
    have hX := hX.keeps [0, 1, 2, 7, 22] (l' := [(0, SV.sl kT_api_Part a_ y_a_.1 y_a_.2), (1, SV.sl kT_api_Part b y_b.1 y_b.2), (2, SV.sl kT_api_Part c y_c.1 y_c.2), (7, .v (.bool v1)), (22, .v (.bool (v4 != 0)))]) (by kernel_rfl)
    exact J4 (v4 != 0) h0  _ _ _ _ hX
def order_Behind.j1 (v1 : Str × Int) (x3 : Str) : Option (Str × Int) :=
  some (x3, v1.2)
def order_Behind (k : List T_api_Part) : Option (Str × Int) :=
  Option.bind (order_Encode k) fun v1 =>
  if (v1.2 == 0) = true then
    Option.bind (catS v1.1 ([255] : Str)) fun v2 =>
    order_Behind.j1 v1 v2
  else
    order_Behind.j1 v1 v1.1
theorem order_Behind.ok (k : List T_api_Part) (y_k : (Option Addr × Nat)) (r : Str × Int) (h0 : order_Behind k = some r) (w0 : World) (F0 : Heap) (hv : F0.Sub w0) (hG : Glob F0) (hg : SV.goods F0 [SV.sl kT_api_Part k y_k.1 y_k.2]) (ρ : Nat → Nat) :
    Calls Tryd.prog 18 (SV.dens ρ [SV.sl kT_api_Part k y_k.1 y_k.2]).toArray w0 (Ret0 w0 F0 fun s => ∃ s1 s2, s = .tup [s1, s2] ∧ (s1 = .v (.string ⟨⟨r.1⟩⟩)) ∧ (s2 = .v (.int .i64 r.2))) := by
  refine calls_of_wp Tryd.func18 rfl ?_
  have hX := Cx.enter (D := No) (B := []) (L := []) (ρ := ρ) (N := 17) Tryd.ntmps18 [SV.sl kT_api_Part k y_k.1 y_k.2] (St.start hv) rfl hg (by kernel_rfl) (fun _ h => by cases h) (Nat.le_of_ble_eq_true rfl)
  unfold order_Behind at h0
  refine Cx.rseq hX [] [0] (l' := [(0, SV.sl kT_api_Part k y_k.1 y_k.2)]) (B' := []) (by kernel_rfl) fun ρ w a hX => ?_
  refine wp_seq_k fun K2 hK2 => ?_
  refine wp_region_list ?_
  refine hX.part [] 1 [7] (l' := [(7, SV.sl kT_api_Part k y_k.1 y_k.2)]) (B' := []) (by kernel_rfl) fun ρ w a hX => ?_
  obtain ⟨v1, hv1, h0⟩ := bnd_some h0
  refine Cx.call0 hX (lit := []) (by kernel_rfl) rfl (by kernel_rfl) ⟨⟨_, Tryd.func16, by kernel_rfl, rfl⟩⟩ (ss := [SV.sl kT_api_Part k y_k.1 y_k.2]) (by kernel_rfl) [SV.sl kT_api_Part k y_k.1 y_k.2] rfl (fun hg => hg) (fun hv hle hg => order_Encode.ok k (y_k.1, y_k.2) v1 hv1 _ _ hv (hG.mono hle) hg _) (fun s F w a hp hX => ?_)
  obtain ⟨_, _, rfl, rfl, rfl⟩ := hp
  refine hX.part [] 5 [4, 5] (l' := [(4, .v (.string ⟨⟨v1.1⟩⟩)), (5, .v (.int .i64 v1.2))]) (B' := []) (by kernel_rfl) fun ρ w a hX => ?_
  refine wpList_end ?_
  refine hK2 _ _ ?_
  refine wp_seq_k fun K3 hK3 => ?_
  have J3 : ∀ (x3 : Str), order_Behind.j1 v1 x3 = some r → ∀ (ρ : Nat → Nat) (w : World) (F : Heap) (a : Act), Cx 17 w0 F0 No w F [] [] ρ [(4, .v (.string ⟨⟨x3⟩⟩)), (5, .v (.int .i64 v1.2))] a → K3 a w := by
    intro x3 h0  ρ w F a hX
    unfold order_Behind.j1 at h0
    refine hK3 _ _ ?_
    refine Cx.rseq hX [] [2, 3] (l' := [(2, .v (.string ⟨⟨x3⟩⟩)), (3, .v (.int .i64 v1.2))]) (B' := []) (by kernel_rfl) fun ρ w a hX => ?_
    refine wp_ret ?_
    have hr := Option.some.inj (show some _ = some _ from h0)
    subst hr
    exact hX.ret0 (ss := [.v (.string ⟨⟨x3⟩⟩), .v (.int .i64 v1.2)]) (by kernel_rfl) (by kernel_rfl) ⟨_, _, rfl, rfl, rfl⟩
  refine Cx.rseq hX [] [4, 5, 12] (l' := [(4, .v (.string ⟨⟨v1.1⟩⟩)), (5, .v (.int .i64 v1.2)), (12, .v (.bool (v1.2 == 0)))]) (B' := []) (by kernel_rfl) fun ρ w a hX => ?_
  refine Cx.cond hX (b := (v1.2 == 0)) (by kernel_rfl) (fun hb => ?_) (fun hb => ?_)
  · have h0 := ite_tt h0 hb
    refine wp_region_list ?_
    refine hX.part [] 1 [4, 5, 13] (l' := [(4, .v (.string ⟨⟨v1.1⟩⟩)), (5, .v (.int .i64 v1.2)), (13, .v (.string ⟨⟨v1.1⟩⟩))]) (B' := []) (by kernel_rfl) fun ρ w a hX => ?_
    obtain ⟨v2, hv2, h0⟩ := bnd_some h0
    refine hX.catStr (lit := []) (by kernel_rfl) (by kernel_rfl) rfl (s := v1.1) (t := ([255] : Str)) (r := v2) (by kernel_rfl) (by kernel_rfl) hv2 fun a hX => ?_
    refine hX.part [] 1 [4, 5] (l' := [(4, .v (.string ⟨⟨v2⟩⟩)), (5, .v (.int .i64 v1.2))]) (B' := []) (by kernel_rfl) fun ρ w a hX => ?_
    refine wpList_end ?_
    have hX := hX.keeps [4, 5] (l' := [(4, .v (.string ⟨⟨v2⟩⟩)), (5, .v (.int .i64 v1.2))]) (by kernel_rfl)
    exact J3 v2 h0  _ _ _ _ hX
  · have h0 := ite_ff h0 hb
    refine wp_skip ?_
    have hX := hX.keeps [4, 5] (l' := [(4, .v (.string ⟨⟨v1.1⟩⟩)), (5, .v (.int .i64 v1.2))]) (by kernel_rfl)
    exact J3 v1.1 h0  _ _ _ _ hX
def law05_begins.j1 (x5 : Bool) : Option (Bool) :=
  some x5
def law05_begins (k : List T_api_Part) (with_ : List T_api_Part) : Option (Bool) :=
  if (decide (((k.length : Nat) : Int) ≥ ((with_.length : Nat) : Int))) = true then
    Option.bind (cutL k 0 ((with_.length : Nat) : Int)) fun v1 =>
    Option.bind (ref05_Same v1 with_) fun v4 =>
    law05_begins.j1 v4
  else
    law05_begins.j1 false
theorem law05_begins.ok (k : List T_api_Part) (with_ : List T_api_Part) (y_k : (Option Addr × Nat)) (y_with_ : (Option Addr × Nat)) (r : Bool) (h0 : law05_begins k with_ = some r) (w0 : World) (F0 : Heap) (hv : F0.Sub w0) (hG : Glob F0) (hg : SV.goods F0 [SV.sl kT_api_Part k y_k.1 y_k.2, SV.sl kT_api_Part with_ y_with_.1 y_with_.2]) (ρ : Nat → Nat) :
    Calls Tryd.prog 19 (SV.dens ρ [SV.sl kT_api_Part k y_k.1 y_k.2, SV.sl kT_api_Part with_ y_with_.1 y_with_.2]).toArray w0 (Ret0 w0 F0 fun s => s = .v (.bool r)) := by
  refine calls_of_wp Tryd.func19 rfl ?_
  have hX := Cx.enter (D := No) (B := []) (L := []) (ρ := ρ) (N := 18) Tryd.ntmps19 [SV.sl kT_api_Part k y_k.1 y_k.2, SV.sl kT_api_Part with_ y_with_.1 y_with_.2] (St.start hv) rfl hg (by kernel_rfl) (fun _ h => by cases h) (Nat.le_of_ble_eq_true rfl)
  unfold law05_begins at h0
  refine Cx.rseq hX [] [0, 1] (l' := [(0, SV.sl kT_api_Part k y_k.1 y_k.2), (1, SV.sl kT_api_Part with_ y_with_.1 y_with_.2)]) (B' := []) (by kernel_rfl) fun ρ w a hX => ?_
  refine wp_seq_k fun K2 hK2 => ?_
  have J2 : ∀ (x5 : Bool), law05_begins.j1 x5 = some r → ∀ (ρ : Nat → Nat) (w : World) (F : Heap) (a : Act), Cx 18 w0 F0 No w F [] [] ρ [(4, .v (.bool x5))] a → K2 a w := by
    intro x5 h0  ρ w F a hX
    unfold law05_begins.j1 at h0
    refine hK2 _ _ ?_
    refine wp_ret ?_
    have hr := Option.some.inj (show some _ = some _ from h0)
    subst hr
    exact hX.ret0 (ss := [.v (.bool x5)]) (by kernel_rfl) (by kernel_rfl) rfl
  refine wp_region_list ?_
  refine hX.part [] 6 [0, 1, 10] (l' := [(0, SV.sl kT_api_Part k y_k.1 y_k.2), (1, SV.sl kT_api_Part with_ y_with_.1 y_with_.2), (10, .v (.bool (decide (((k.length : Nat) : Int) ≥ ((with_.length : Nat) : Int)))))]) (B' := []) (by kernel_rfl) fun ρ w a hX => ?_
  refine ite_go h0 (fun hb h0 => ?_) (fun hb h0 => ?_)
  · have hX := hX.relit 10 hb (by kernel_rfl)
    refine hX.part [5] 3 [1, 10, 11, 13] (l' := [(1, SV.sl kT_api_Part with_ y_with_.1 y_with_.2), (10, .v (.bool true)), (11, SV.sl kT_api_Part k y_k.1 y_k.2), (13, .v (.int .i64 ((with_.length : Nat) : Int)))]) (B' := []) (by kernel_rfl) fun ρ w a hX => ?_
    obtain ⟨v1, hv1, h0⟩ := bnd_some h0
    refine hX.cutSl (lit := [5]) (by kernel_rfl) (by kernel_rfl) rfl (d := kT_api_Part) (e := 40) (xs := k) (A := y_k.1) (c := y_k.2) (ol := none) (oh := some ((with_.length : Nat) : Int)) (r := v1) (by kernel_rfl) (by kernel_rfl) (by kernel_rfl) (by kernel_rfl) (by kernel_rfl) hv1 fun A2 c3 a hX => ?_
    refine hX.part [5] 1 [10, 14, 15] (l' := [(10, .v (.bool true)), (14, SV.sl kT_api_Part v1 A2 c3), (15, SV.sl kT_api_Part with_ y_with_.1 y_with_.2)]) (B' := []) (by kernel_rfl) fun ρ w a hX => ?_
    obtain ⟨v4, hv4, h0⟩ := bnd_some h0
    refine Cx.call0 hX (lit := [5]) (by kernel_rfl) rfl (by kernel_rfl) ⟨⟨_, Tryd.func13, by kernel_rfl, rfl⟩⟩ (ss := [SV.sl kT_api_Part v1 A2 c3, SV.sl kT_api_Part with_ y_with_.1 y_with_.2]) (by kernel_rfl) [SV.sl kT_api_Part v1 A2 c3, SV.sl kT_api_Part with_ y_with_.1 y_with_.2] rfl (fun hg => hg) (fun hv hle hg => ref05_Same.ok v1 with_ (A2, c3) (y_with_.1, y_with_.2) v4 hv4 _ _ hv (hG.mono hle) hg _) (fun s F w a hp hX => ?_)
    subst hp
    refine hX.part [] 2 [4] (l' := [(4, .v (.bool v4))]) (B' := []) (by kernel_rfl) fun ρ w a hX => ?_
    refine wpList_end ?_
    have hX := hX.keeps [4] (l' := [(4, .v (.bool v4))]) (by kernel_rfl)
    exact J2 v4 h0  _ _ _ _ hX
  · have hX := hX.relit 10 hb (by kernel_rfl)
    refine hX.part [5] 8 [4] (l' := [(4, .v (.bool false))]) (B' := []) (by kernel_rfl) fun ρ w a hX => ?_
    refine wpList_end ?_
    have hX := hX.keeps [4] (l' := [(4, .v (.bool false))]) (by kernel_rfl)
    exact J2 false h0  _ _ _ _ hX
def law05_OrderWithin.j1 (x6 : Bool) : Option (Bool) :=
  some x6
def law05_OrderWithin (k : List T_api_Part) (with_ : List T_api_Part) : Option (Bool) :=
  Option.bind (law05_live) fun v1 =>
  Option.bind (order_Encode k) fun v2 =>
  Option.bind (order_Encode with_) fun v3 =>
  Option.bind (order_Behind with_) fun v4 =>
  if (((v2.2 != 0) || (v3.2 != 0)) || (v4.2 != 0)) = true then
    some v1
  else
    if v1 = true then
      Option.bind (law05_begins k with_) fun v5 =>
      law05_OrderWithin.j1 ((((Op.bytesLess v3.1 v2.1) || (v3.1 == v2.1)) && (Op.bytesLess v2.1 v4.1)) == v5)
    else
      law05_OrderWithin.j1 false
theorem law05_OrderWithin.ok (k : List T_api_Part) (with_ : List T_api_Part) (y_k : (Option Addr × Nat)) (y_with_ : (Option Addr × Nat)) (r : Bool) (h0 : law05_OrderWithin k with_ = some r) (w0 : World) (F0 : Heap) (hv : F0.Sub w0) (hG : Glob F0) (hg : SV.goods F0 [SV.sl kT_api_Part k y_k.1 y_k.2, SV.sl kT_api_Part with_ y_with_.1 y_with_.2]) (ρ : Nat → Nat) :
    Calls Tryd.prog 8 (SV.dens ρ [SV.sl kT_api_Part k y_k.1 y_k.2, SV.sl kT_api_Part with_ y_with_.1 y_with_.2]).toArray w0 (Ret0 w0 F0 fun s => s = .v (.bool r)) := by
  refine calls_of_wp Tryd.func8 rfl ?_
  have hX := Cx.enter (D := No) (B := []) (L := []) (ρ := ρ) (N := 54) Tryd.ntmps8 [SV.sl kT_api_Part k y_k.1 y_k.2, SV.sl kT_api_Part with_ y_with_.1 y_with_.2] (St.start hv) rfl hg (by kernel_rfl) (fun _ h => by cases h) (Nat.le_of_ble_eq_true rfl)
  unfold law05_OrderWithin at h0
  refine Cx.rseq hX [] [0, 1] (l' := [(0, SV.sl kT_api_Part k y_k.1 y_k.2), (1, SV.sl kT_api_Part with_ y_with_.1 y_with_.2)]) (B' := []) (by kernel_rfl) fun ρ w a hX => ?_
  refine wp_seq_k fun K2 hK2 => ?_
  refine wp_region_list ?_
  refine hX.part [] 0 [0, 1] (l' := [(0, SV.sl kT_api_Part k y_k.1 y_k.2), (1, SV.sl kT_api_Part with_ y_with_.1 y_with_.2)]) (B' := []) (by kernel_rfl) fun ρ w a hX => ?_
  obtain ⟨v1, hv1, h0⟩ := bnd_some h0
  refine Cx.call0 hX (lit := []) (by kernel_rfl) rfl (by kernel_rfl) ⟨⟨_, Tryd.func12, by kernel_rfl, rfl⟩⟩ (ss := []) (by kernel_rfl) [] rfl (fun hg => hg) (fun hv hle hg => law05_live.ok v1 hv1 _ _ hv (hG.mono hle) hg _) (fun s F w a hp hX => ?_)
  subst hp
  refine hX.part [] 1 [0, 1, 5] (l' := [(0, SV.sl kT_api_Part k y_k.1 y_k.2), (1, SV.sl kT_api_Part with_ y_with_.1 y_with_.2), (5, .v (.bool v1))]) (B' := []) (by kernel_rfl) fun ρ w a hX => ?_
  refine wpList_end ?_
  refine hK2 _ _ ?_
  refine wp_seq_k fun K3 hK3 => ?_
  refine wp_region_list ?_
  refine hX.part [] 1 [0, 1, 5, 14] (l' := [(0, SV.sl kT_api_Part k y_k.1 y_k.2), (1, SV.sl kT_api_Part with_ y_with_.1 y_with_.2), (5, .v (.bool v1)), (14, SV.sl kT_api_Part k y_k.1 y_k.2)]) (B' := []) (by kernel_rfl) fun ρ w a hX => ?_
  obtain ⟨v2, hv2, h0⟩ := bnd_some h0
  refine Cx.call0 hX (lit := []) (by kernel_rfl) rfl (by kernel_rfl) ⟨⟨_, Tryd.func16, by kernel_rfl, rfl⟩⟩ (ss := [SV.sl kT_api_Part k y_k.1 y_k.2]) (by kernel_rfl) [SV.sl kT_api_Part k y_k.1 y_k.2] rfl (fun hg => hg) (fun hv hle hg => order_Encode.ok k (y_k.1, y_k.2) v2 hv2 _ _ hv (hG.mono hle) hg _) (fun s F w a hp hX => ?_)
  obtain ⟨_, _, rfl, rfl, rfl⟩ := hp
  refine hX.part [] 5 [0, 1, 5, 6, 7] (l' := [(0, SV.sl kT_api_Part k y_k.1 y_k.2), (1, SV.sl kT_api_Part with_ y_with_.1 y_with_.2), (5, .v (.bool v1)), (6, .v (.string ⟨⟨v2.1⟩⟩)), (7, .v (.int .i64 v2.2))]) (B' := []) (by kernel_rfl) fun ρ w a hX => ?_
  refine wpList_end ?_
  refine hK3 _ _ ?_
  refine wp_seq_k fun K4 hK4 => ?_
  refine wp_region_list ?_
  refine hX.part [] 1 [0, 1, 5, 6, 7, 19] (l' := [(0, SV.sl kT_api_Part k y_k.1 y_k.2), (1, SV.sl kT_api_Part with_ y_with_.1 y_with_.2), (5, .v (.bool v1)), (6, .v (.string ⟨⟨v2.1⟩⟩)), (7, .v (.int .i64 v2.2)), (19, SV.sl kT_api_Part with_ y_with_.1 y_with_.2)]) (B' := []) (by kernel_rfl) fun ρ w a hX => ?_
  obtain ⟨v3, hv3, h0⟩ := bnd_some h0
  refine Cx.call0 hX (lit := []) (by kernel_rfl) rfl (by kernel_rfl) ⟨⟨_, Tryd.func16, by kernel_rfl, rfl⟩⟩ (ss := [SV.sl kT_api_Part with_ y_with_.1 y_with_.2]) (by kernel_rfl) [SV.sl kT_api_Part with_ y_with_.1 y_with_.2] rfl (fun hg => hg) (fun hv hle hg => order_Encode.ok with_ (y_with_.1, y_with_.2) v3 hv3 _ _ hv (hG.mono hle) hg _) (fun s F w a hp hX => ?_)
  obtain ⟨_, _, rfl, rfl, rfl⟩ := hp
  refine hX.part [] 5 [0, 1, 5, 6, 7, 8, 9] (l' := [(0, SV.sl kT_api_Part k y_k.1 y_k.2), (1, SV.sl kT_api_Part with_ y_with_.1 y_with_.2), (5, .v (.bool v1)), (6, .v (.string ⟨⟨v2.1⟩⟩)), (7, .v (.int .i64 v2.2)), (8, .v (.string ⟨⟨v3.1⟩⟩)), (9, .v (.int .i64 v3.2))]) (B' := []) (by kernel_rfl) fun ρ w a hX => ?_
  refine wpList_end ?_
  refine hK4 _ _ ?_
  refine wp_seq_k fun K5 hK5 => ?_
  refine wp_region_list ?_
  refine hX.part [] 1 [0, 1, 5, 6, 7, 8, 9, 24] (l' := [(0, SV.sl kT_api_Part k y_k.1 y_k.2), (1, SV.sl kT_api_Part with_ y_with_.1 y_with_.2), (5, .v (.bool v1)), (6, .v (.string ⟨⟨v2.1⟩⟩)), (7, .v (.int .i64 v2.2)), (8, .v (.string ⟨⟨v3.1⟩⟩)), (9, .v (.int .i64 v3.2)), (24, SV.sl kT_api_Part with_ y_with_.1 y_with_.2)]) (B' := []) (by kernel_rfl) fun ρ w a hX => ?_
  obtain ⟨v4, hv4, h0⟩ := bnd_some h0
  refine Cx.call0 hX (lit := []) (by kernel_rfl) rfl (by kernel_rfl) ⟨⟨_, Tryd.func18, by kernel_rfl, rfl⟩⟩ (ss := [SV.sl kT_api_Part with_ y_with_.1 y_with_.2]) (by kernel_rfl) [SV.sl kT_api_Part with_ y_with_.1 y_with_.2] rfl (fun hg => hg) (fun hv hle hg => order_Behind.ok with_ (y_with_.1, y_with_.2) v4 hv4 _ _ hv (hG.mono hle) hg _) (fun s F w a hp hX => ?_)
  obtain ⟨_, _, rfl, rfl, rfl⟩ := hp
  refine hX.part [] 5 [0, 1, 5, 6, 7, 8, 9, 10, 11] (l' := [(0, SV.sl kT_api_Part k y_k.1 y_k.2), (1, SV.sl kT_api_Part with_ y_with_.1 y_with_.2), (5, .v (.bool v1)), (6, .v (.string ⟨⟨v2.1⟩⟩)), (7, .v (.int .i64 v2.2)), (8, .v (.string ⟨⟨v3.1⟩⟩)), (9, .v (.int .i64 v3.2)), (10, .v (.string ⟨⟨v4.1⟩⟩)), (11, .v (.int .i64 v4.2))]) (B' := []) (by kernel_rfl) fun ρ w a hX => ?_
  refine wpList_end ?_
  refine hK5 _ _ ?_
  refine wp_seq_k fun K6 hK6 => ?_
  refine Cx.rseq hX [] [0, 1, 5, 6, 8, 10, 37] (l' := [(0, SV.sl kT_api_Part k y_k.1 y_k.2), (1, SV.sl kT_api_Part with_ y_with_.1 y_with_.2), (5, .v (.bool v1)), (6, .v (.string ⟨⟨v2.1⟩⟩)), (8, .v (.string ⟨⟨v3.1⟩⟩)), (10, .v (.string ⟨⟨v4.1⟩⟩)), (37, .v (.bool (((v2.2 != 0) || (v3.2 != 0)) || (v4.2 != 0))))]) (B' := []) (by kernel_rfl) fun ρ w a hX => ?_
  refine Cx.cond hX (b := (((v2.2 != 0) || (v3.2 != 0)) || (v4.2 != 0))) (by kernel_rfl) (fun hb => ?_) (fun hb => ?_)
  · have h0 := ite_tt h0 hb
    refine Cx.rseq hX [] [4] (l' := [(4, .v (.bool v1))]) (B' := []) (by kernel_rfl) fun ρ w a hX => ?_
    refine wp_ret ?_
    have hr := Option.some.inj (show some _ = some _ from h0)
    subst hr
    exact hX.ret0 (ss := [.v (.bool v1)]) (by kernel_rfl) (by kernel_rfl) rfl
  · have h0 := ite_ff h0 hb
    refine wp_skip ?_
    refine hK6 _ _ ?_
    refine wp_seq_k fun K9 hK9 => ?_
    have J9 : ∀ (x6 : Bool), law05_OrderWithin.j1 x6 = some r → ∀ (ρ : Nat → Nat) (w : World) (F : Heap) (a : Act), Cx 54 w0 F0 No w F [] [] ρ [(4, .v (.bool x6))] a → K9 a w := by
      intro x6 h0  ρ w F a hX
      unfold law05_OrderWithin.j1 at h0
      refine hK9 _ _ ?_
      refine wp_ret ?_
      have hr := Option.some.inj (show some _ = some _ from h0)
      subst hr
      exact hX.ret0 (ss := [.v (.bool x6)]) (by kernel_rfl) (by kernel_rfl) rfl
    refine wp_region_list ?_
    refine hX.part [] 2 [0, 1, 6, 8, 10, 40] (l' := [(0, SV.sl kT_api_Part k y_k.1 y_k.2), (1, SV.sl kT_api_Part with_ y_with_.1 y_with_.2), (6, .v (.string ⟨⟨v2.1⟩⟩)), (8, .v (.string ⟨⟨v3.1⟩⟩)), (10, .v (.string ⟨⟨v4.1⟩⟩)), (40, .v (.bool v1))]) (B' := []) (by kernel_rfl) fun ρ w a hX => ?_
    refine ite_go h0 (fun hb h0 => ?_) (fun hb h0 => ?_)
    · have hX := hX.relit 40 hb (by kernel_rfl)
      refine hX.part [1] 10 [40, 48, 49, 50] (l' := [(40, .v (.bool true)), (48, .v (.bool (((Op.bytesLess v3.1 v2.1) || (v3.1 == v2.1)) && (Op.bytesLess v2.1 v4.1)))), (49, SV.sl kT_api_Part k y_k.1 y_k.2), (50, SV.sl kT_api_Part with_ y_with_.1 y_with_.2)]) (B' := []) (by kernel_rfl) fun ρ w a hX => ?_
      obtain ⟨v5, hv5, h0⟩ := bnd_some h0
      refine Cx.call0 hX (lit := [1]) (by kernel_rfl) rfl (by kernel_rfl) ⟨⟨_, Tryd.func19, by kernel_rfl, rfl⟩⟩ (ss := [SV.sl kT_api_Part k y_k.1 y_k.2, SV.sl kT_api_Part with_ y_with_.1 y_with_.2]) (by kernel_rfl) [SV.sl kT_api_Part k y_k.1 y_k.2, SV.sl kT_api_Part with_ y_with_.1 y_with_.2] rfl (fun hg => hg) (fun hv hle hg => law05_begins.ok k with_ (y_k.1, y_k.2) (y_with_.1, y_with_.2) v5 hv5 _ _ hv (hG.mono hle) hg _) (fun s F w a hp hX => ?_)
      subst hp
      refine hX.part [1] 3 [4] (l' := [(4, .v (.bool ((((Op.bytesLess v3.1 v2.1) || (v3.1 == v2.1)) && (Op.bytesLess v2.1 v4.1)) == v5)))]) (B' := []) (by kernel_rfl) fun ρ w a hX => ?_
      refine wpList_end ?_
      have hX := hX.keeps [4] (l' := [(4, .v (.bool ((((Op.bytesLess v3.1 v2.1) || (v3.1 == v2.1)) && (Op.bytesLess v2.1 v4.1)) == v5)))]) (by kernel_rfl)
      exact J9 ((((Op.bytesLess v3.1 v2.1) || (v3.1 == v2.1)) && (Op.bytesLess v2.1 v4.1)) == v5) h0  _ _ _ _ hX
    · have hX := hX.relit 40 hb (by kernel_rfl)
      refine hX.part [1, 5] 14 [4] (l' := [(4, .v (.bool false))]) (B' := []) (by kernel_rfl) fun ρ w a hX => ?_
      refine wpList_end ?_
      have hX := hX.keeps [4] (l' := [(4, .v (.bool false))]) (by kernel_rfl)
      exact J9 false h0  _ _ _ _ hX
def ref05_part.l1 (p : T_api_Part) (s : Int × (List UInt8)) : Option ((Int × (List UInt8)) ⊕ (((List UInt8)))) := match s with
  | (x7, x8) =>
  if (decide (x7 ≥ 0)) = true then
    Option.bind (shrI .u64 (IntKind.wrap .u64 ((IntKind.wrap .u64 p.N) + 9223372036854775808)) (IntKind.wrap .u64 (IntKind.wrap .i64 (8 * x7)))) fun v11 =>
    Option.bind (toB (IntKind.wrap .u8 v11)) fun b15 =>
    Option.bind (room (x8.length + 1)) fun u14 =>
    some (.inl ((IntKind.wrap .i64 (x7 - 1)), (x8 ++ [b15])))
  else
    some (.inr x8)
def ref05_part.j2 (x37 : Int) (x50 : List UInt8) : Option ((Int × (List UInt8)) ⊕ (((List UInt8)))) :=
  some (.inl ((IntKind.wrap .i64 (x37 + 1)), x50))
def ref05_part.l2 (p : T_api_Part) (s : Int × (List UInt8)) : Option ((Int × (List UInt8)) ⊕ (((List UInt8)))) := match s with
  | (x37, x38) =>
  if (decide (x37 < ((p.S.length : Nat) : Int))) = true then
    Option.bind (getB p.S x37) fun v41 =>
    Option.bind (toB v41) fun b45 =>
    Option.bind (room (x38.length + 1)) fun u44 =>
    Option.bind (getB p.S x37) fun v46 =>
    if (v46 == 0) = true then
      Option.bind (room ((x38 ++ [b45]).length + 1)) fun u49 =>
      ref05_part.j2 x37 ((x38 ++ [b45]) ++ [(255 : UInt8)])
    else
      ref05_part.j2 x37 (x38 ++ [b45])
  else
    some (.inr x38)
def ref05_part (p : T_api_Part) : Option (Str) :=
  if (!p.IsText) = true then
    Option.bind (loopM (ref05_part.l1 p) (7, ([(16 : UInt8)] : List UInt8))) fun e => match e with
    | x21 =>
      some x21
  else
    Option.bind (loopM (ref05_part.l2 p) (0, ([(32 : UInt8)] : List UInt8))) fun e => match e with
    | x58 =>
      Option.bind (room (x58.length + 2)) fun u63 =>
      some (x58 ++ [(0 : UInt8), (1 : UInt8)])
theorem ref05_part.ok (p : T_api_Part) (r : Str) (h0 : ref05_part p = some r) (w0 : World) (F0 : Heap) (hv : F0.Sub w0) (hG : Glob F0) (hg : SV.goods F0 [.agg [.v (.bool p.IsText), .v (.int .i64 p.N), .v (.string ⟨⟨p.S⟩⟩)]]) (ρ : Nat → Nat) :
    Calls Tryd.prog 39 (SV.dens ρ [.agg [.v (.bool p.IsText), .v (.int .i64 p.N), .v (.string ⟨⟨p.S⟩⟩)]]).toArray w0 (Ret0 w0 F0 fun s => s = .v (.string ⟨⟨r⟩⟩)) := by
  refine calls_of_wp Tryd.func39 rfl ?_
  have hX := Cx.enter (D := No) (B := []) (L := []) (ρ := ρ) (N := 58) Tryd.ntmps39 [.agg [.v (.bool p.IsText), .v (.int .i64 p.N), .v (.string ⟨⟨p.S⟩⟩)]] (St.start hv) rfl hg (by kernel_rfl) (fun _ h => by cases h) (Nat.le_of_ble_eq_true rfl)
  unfold ref05_part at h0
  refine Cx.rseq hX [] [1] (l' := [(1, .ptr 0 0)]) (B' := [some ⟨40, [.v (.bool p.IsText), .v (.int .i64 p.N), .v (.string ⟨⟨p.S⟩⟩)]⟩]) (by kernel_rfl) fun ρ w a hX => ?_
  refine wp_seq_k fun K2 hK2 => ?_
  refine Cx.rseq hX [] [1, 10] (l' := [(1, .ptr 0 0), (10, .v (.bool (!p.IsText)))]) (B' := [some ⟨40, [.v (.bool p.IsText), .v (.int .i64 p.N), .v (.string ⟨⟨p.S⟩⟩)]⟩]) (by kernel_rfl) fun ρ w a hX => ?_
  refine Cx.cond hX (b := (!p.IsText)) (by kernel_rfl) (fun hb => ?_) (fun hb => ?_)
  · have h0 := ite_tt h0 hb
    refine Cx.rseq hX [] [3] (l' := [(3, .v (.int .u64 (IntKind.wrap .u64 ((IntKind.wrap .u64 p.N) + 9223372036854775808))))]) (B' := [some ⟨40, [.v (.bool p.IsText), .v (.int .i64 p.N), .v (.string ⟨⟨p.S⟩⟩)]⟩]) (by kernel_rfl) fun ρ w a hX => ?_
    refine Cx.rseq hX [] [3, 4] (l' := [(3, .v (.int .u64 (IntKind.wrap .u64 ((IntKind.wrap .u64 p.N) + 9223372036854775808)))), (4, .slc 1 0 1 1)]) (B' := [some ⟨40, [.v (.bool p.IsText), .v (.int .i64 p.N), .v (.string ⟨⟨p.S⟩⟩)]⟩, some ⟨5, [.v (.int .u8 16)]⟩]) (by kernel_rfl) fun ρ w a hX => ?_
    refine wp_seq_k fun K6 hK6 => ?_
    refine Cx.rseq hX [] [3, 4, 5] (l' := [(3, .v (.int .u64 (IntKind.wrap .u64 ((IntKind.wrap .u64 p.N) + 9223372036854775808)))), (4, .slc 1 0 1 1), (5, .v (.int .i64 7))]) (B' := [some ⟨40, [.v (.bool p.IsText), .v (.int .i64 p.N), .v (.string ⟨⟨p.S⟩⟩)]⟩, some ⟨5, [.v (.int .u8 16)]⟩]) (by kernel_rfl) fun ρ w a hX => ?_
    refine wp_block ?_
    obtain ⟨b20, hb, hX⟩ := hX.boxAcc2 (d := kByte) (e := 5) (k := 1) (t := 4) (m := 1) ([((16 : UInt8), ())] : List (UInt8 × (kByte).Y)) (by kernel_rfl) (by kernel_rfl) rfl rfl (by decide) ⟨_, rfl⟩
    have hX : Cx 58 _ _ _ _ _ [accP 5 kByte (some ⟨b20, 0, none⟩) 1 ([(16 : UInt8)] : List UInt8)] [some ⟨40, [.v (.bool p.IsText), .v (.int .i64 p.N), .v (.string ⟨⟨p.S⟩⟩)]⟩, none] ρ _ a := hX
    have hX := hX.keeps [3, 4, 5] (l' := [(3, .v (.int .u64 (IntKind.wrap .u64 ((IntKind.wrap .u64 p.N) + 9223372036854775808)))), (4, .v (.slice (some ⟨b20, 0, none⟩) ([(16 : UInt8)] : List UInt8).length 1)), (5, .v (.int .i64 7))]) (by kernel_rfl)
    have hX := hX.shrink 0 (B' := []) (by kernel_rfl) (Nat.le_of_ble_eq_true rfl) (by kernel_rfl) (by kernel_rfl)
    obtain ⟨e1, he1, h0⟩ := bnd_some h0
    have E1x0 : ∀ (x21 : List UInt8), e1 = x21 → ∀ (A22 : Option Addr) (c23 : Nat) (ρ : Nat → Nat) (w : World) (F : Heap) (a : Act), Cx 58 w0 F0 No w F [accP 5 kByte A22 c23 x21] [] ρ [(4, .v (.slice A22 x21.length c23))] a → K6 a w := by
      intro x21 he A22 c23 ρ w F a hX
      replace he := he.symm
      subst he
      (try dsimp only at h0)
      refine hK6 _ _ ?_
      refine wp_seq_k fun K14 hK14 => ?_
      refine wp_region_list ?_
      refine hX.part [] 1 [29] (l' := [(29, .v (.slice A22 x21.length c23))]) (B' := []) (by kernel_rfl) fun ρ w a hX => ?_
      refine hX.strAcc (lit := []) (i := 0) (e := 5) (e2 := 5) (xs := x21) (A := A22) (c := c23) (by kernel_rfl) (by kernel_rfl) rfl rfl (by kernel_rfl) (by kernel_rfl) (by kernel_rfl) (by kernel_rfl) fun a hX => ?_
      refine hX.part [] 1 [2] (l' := [(2, .v (.string ⟨⟨x21⟩⟩))]) (B' := []) (by kernel_rfl) fun ρ w a hX => ?_
      refine wpList_end ?_
      refine hK14 _ _ ?_
      refine wp_ret ?_
      have hr := Option.some.inj (show some _ = some _ from h0)
      subst hr
      exact hX.ret0 (ss := [.v (.string ⟨⟨x21⟩⟩)]) (by kernel_rfl) (by kernel_rfl) rfl
    refine loop_go (fun (s : Int × (List UInt8)) a w => match s with | (x7, x8) => ∃ (A9 : Option Addr) (c10 : Nat) (ρ : Nat → Nat) (F : Heap), Cx 58 w0 F0 No w F [accP 5 kByte A9 c10 x8] [] ρ [(3, .v (.int .u64 (IntKind.wrap .u64 ((IntKind.wrap .u64 p.N) + 9223372036854775808)))), (4, .v (.slice A9 x8.length c10)), (5, .v (.int .i64 x7))] a) he1 (fun LW1 s o1 h1 hb1 hx1 a w hI => ?_) _ _ ?_
    · obtain ⟨x7, x8⟩ := s
      obtain ⟨A9, c10, ρ, F, hX⟩ := hI
      unfold ref05_part.l1 at h1
      (try dsimp only at h1)
      refine wp_seq_k fun K11 hK11 => ?_
      refine Cx.rseq hX [] [3, 4, 5, 17] (l' := [(3, .v (.int .u64 (IntKind.wrap .u64 ((IntKind.wrap .u64 p.N) + 9223372036854775808)))), (4, .v (.slice A9 x8.length c10)), (5, .v (.int .i64 x7)), (17, .v (.bool (decide (x7 ≥ 0))))]) (B' := []) (by kernel_rfl) fun ρ w a hX => ?_
      refine Cx.cond hX (b := (decide (x7 ≥ 0))) (by kernel_rfl) (fun hb => ?_) (fun hb => ?_)
      · have h1 := ite_tt h1 hb
        refine wp_skip ?_
        refine hK11 _ _ ?_
        refine wp_seq_k fun K13 hK13 => ?_
        refine wp_block ?_
        refine wp_region_list ?_
        refine hX.part [] 5 [3, 4, 5, 20, 21, 24] (l' := [(3, .v (.int .u64 (IntKind.wrap .u64 ((IntKind.wrap .u64 p.N) + 9223372036854775808)))), (4, .v (.slice A9 x8.length c10)), (5, .v (.int .i64 x7)), (20, .v (.slice A9 x8.length c10)), (21, .v (.int .u64 (IntKind.wrap .u64 ((IntKind.wrap .u64 p.N) + 9223372036854775808)))), (24, .v (.int .u64 (IntKind.wrap .u64 (IntKind.wrap .i64 (8 * x7)))))]) (B' := []) (by kernel_rfl) fun ρ w a hX => ?_
        obtain ⟨v11, hv11, h1⟩ := bnd_some h1
        refine hX.arith (lit := []) (by kernel_rfl) (by kernel_rfl) rfl (k := .u64) (k' := .u64) (m := (IntKind.wrap .u64 ((IntKind.wrap .u64 p.N) + 9223372036854775808))) (n := (IntKind.wrap .u64 (IntKind.wrap .i64 (8 * x7)))) (r := v11) (by kernel_rfl) (by kernel_rfl) (by decide) hv11 fun a hX => ?_
        refine hX.part [] 2 [3, 4, 5, 20, 27] (l' := [(3, .v (.int .u64 (IntKind.wrap .u64 ((IntKind.wrap .u64 p.N) + 9223372036854775808)))), (4, .v (.slice A9 x8.length c10)), (5, .v (.int .i64 x7)), (20, .v (.slice A9 x8.length c10)), (27, .slc 0 0 1 1)]) (B' := [some ⟨5, [.v (.int .u8 (IntKind.wrap .u8 v11))]⟩]) (by kernel_rfl) fun ρ w a hX => ?_
        obtain ⟨b15, hb15, h1⟩ := bnd_some h1
        obtain ⟨u14, hu14, h1⟩ := bnd_some h1
        have hX := hX.rebox 0 (b := ⟨5, [.v (.int .u8 (IntKind.wrap .u8 v11))]⟩) (cs := [.v (.int .u8 ((b15.toNat : Nat) : Int))]) (B' := [some ⟨5, [.v (.int .u8 ((b15.toNat : Nat) : Int))]⟩]) (by kernel_rfl) (fun ρ => by simp only [SV.dens, SV.den, toB_some hb15]) (by have hg := (hX.bgood ⟨5, [.v (.int .u8 (IntKind.wrap .u8 v11))]⟩ (List.mem_of_getElem? (i := 0) (by kernel_rfl))).1; exact ⟨trivial, trivial⟩) (by kernel_rfl) (by kernel_rfl)
        refine hX.appLit (d := kByte) (k := 0) (m := 1) (bytes := 1) (cells := [.v (.int .u8 ((b15.toNat : Nat) : Int))]) (lit := []) (i := 0) (e := 5) (xs := x8) (A := A9) (c := c10) ([(b15, ())] : List (UInt8 × (kByte).Y)) (by kernel_rfl) (by kernel_rfl) rfl rfl (by kernel_rfl) (by kernel_rfl) (by kernel_rfl) (by kernel_rfl) (by kernel_rfl) rfl rfl (by decide) hu14 ⟨_, rfl⟩ fun A12 c13 w a hX => ?_
        have hX : Cx 58 _ _ _ _ _ [accP 5 kByte A12 c13 (x8 ++ [b15])] [some ⟨5, [.v (.int .u8 ((b15.toNat : Nat) : Int))]⟩] ρ _ a := hX
        refine hX.part [] 1 [3, 4, 5] (l' := [(3, .v (.int .u64 (IntKind.wrap .u64 ((IntKind.wrap .u64 p.N) + 9223372036854775808)))), (4, .v (.slice A12 (x8 ++ [b15]).length c13)), (5, .v (.int .i64 x7))]) (B' := [some ⟨5, [.v (.int .u8 ((b15.toNat : Nat) : Int))]⟩]) (by kernel_rfl) fun ρ w a hX => ?_
        refine wpList_end ?_
        refine hK13 _ _ ?_
        refine Cx.region hX [] [3, 4, 5] (l' := [(3, .v (.int .u64 (IntKind.wrap .u64 ((IntKind.wrap .u64 p.N) + 9223372036854775808)))), (4, .v (.slice A12 (x8 ++ [b15]).length c13)), (5, .v (.int .i64 (IntKind.wrap .i64 (x7 - 1))))]) (B' := [some ⟨5, [.v (.int .u8 ((b15.toNat : Nat) : Int))]⟩]) (by kernel_rfl) fun ρ w a hX => ?_
        have hX := hX.keeps [3, 4, 5] (l' := [(3, .v (.int .u64 (IntKind.wrap .u64 ((IntKind.wrap .u64 p.N) + 9223372036854775808)))), (4, .v (.slice A12 (x8 ++ [b15]).length c13)), (5, .v (.int .i64 (IntKind.wrap .i64 (x7 - 1))))]) (by kernel_rfl)
        have hX := hX.shrink 0 (B' := []) (by kernel_rfl) (Nat.le_of_ble_eq_true rfl) (by kernel_rfl) (by kernel_rfl)
        exact hb1 ((IntKind.wrap .i64 (x7 - 1)), (x8 ++ [b15])) (out_eq h1) _ _ ⟨A12, c13, _, _, hX⟩
      · have h1 := ite_ff h1 hb
        refine wp_exit ?_
        have hX := hX.keeps [4] (l' := [(4, .v (.slice A9 x8.length c10))]) (by kernel_rfl)
        exact E1x0 x8 (hx1 _ (out_eq h1)).symm A9 c10 _ _ _ _ hX
    · exact ⟨(some ⟨b20, 0, none⟩), 1, _, _, hX⟩
  · have h0 := ite_ff h0 hb
    refine wp_skip ?_
    refine hK2 _ _ ?_
    refine Cx.rseq hX [] [1, 6] (l' := [(1, .ptr 0 0), (6, .slc 1 0 1 1)]) (B' := [some ⟨40, [.v (.bool p.IsText), .v (.int .i64 p.N), .v (.string ⟨⟨p.S⟩⟩)]⟩, some ⟨5, [.v (.int .u8 32)]⟩]) (by kernel_rfl) fun ρ w a hX => ?_
    refine wp_seq_k fun K16 hK16 => ?_
    refine Cx.rseq hX [] [1, 6, 7] (l' := [(1, .ptr 0 0), (6, .slc 1 0 1 1), (7, .v (.int .i64 0))]) (B' := [some ⟨40, [.v (.bool p.IsText), .v (.int .i64 p.N), .v (.string ⟨⟨p.S⟩⟩)]⟩, some ⟨5, [.v (.int .u8 32)]⟩]) (by kernel_rfl) fun ρ w a hX => ?_
    refine wp_block ?_
    obtain ⟨b57, hb, hX⟩ := hX.boxAcc2 (d := kByte) (e := 5) (k := 1) (t := 6) (m := 1) ([((32 : UInt8), ())] : List (UInt8 × (kByte).Y)) (by kernel_rfl) (by kernel_rfl) rfl rfl (by decide) ⟨_, rfl⟩
    have hX : Cx 58 _ _ _ _ _ [accP 5 kByte (some ⟨b57, 0, none⟩) 1 ([(32 : UInt8)] : List UInt8)] [some ⟨40, [.v (.bool p.IsText), .v (.int .i64 p.N), .v (.string ⟨⟨p.S⟩⟩)]⟩, none] ρ _ a := hX
    have hX := hX.keeps [1, 6, 7] (l' := [(1, .ptr 0 0), (6, .v (.slice (some ⟨b57, 0, none⟩) ([(32 : UInt8)] : List UInt8).length 1)), (7, .v (.int .i64 0))]) (by kernel_rfl)
    have hX := hX.shrink 1 (B' := [some ⟨40, [.v (.bool p.IsText), .v (.int .i64 p.N), .v (.string ⟨⟨p.S⟩⟩)]⟩]) (by kernel_rfl) (Nat.le_of_ble_eq_true rfl) (by kernel_rfl) (by kernel_rfl)
    obtain ⟨e1, he1, h0⟩ := bnd_some h0
    have E1x0 : ∀ (x58 : List UInt8), e1 = x58 → ∀ (A59 : Option Addr) (c60 : Nat) (ρ : Nat → Nat) (w : World) (F : Heap) (a : Act), Cx 58 w0 F0 No w F [accP 5 kByte A59 c60 x58] [] ρ [(6, .v (.slice A59 x58.length c60))] a → K16 a w := by
      intro x58 he A59 c60 ρ w F a hX
      replace he := he.symm
      subst he
      (try dsimp only at h0)
      refine hK16 _ _ ?_
      refine wp_seq_k fun K28 hK28 => ?_
      refine wp_region_list ?_
      refine hX.part [] 2 [54, 55] (l' := [(54, .v (.slice A59 x58.length c60)), (55, .slc 0 0 2 2)]) (B' := [some ⟨5, [.v (.int .u8 0), .v (.int .u8 1)]⟩]) (by kernel_rfl) fun ρ w a hX => ?_
      obtain ⟨u63, hu63, h0⟩ := bnd_some h0
      refine hX.appLit (d := kByte) (k := 0) (m := 2) (bytes := 1) (cells := [.v (.int .u8 0), .v (.int .u8 1)]) (lit := []) (i := 0) (e := 5) (xs := x58) (A := A59) (c := c60) ([((0 : UInt8), ()), ((1 : UInt8), ())] : List (UInt8 × (kByte).Y)) (by kernel_rfl) (by kernel_rfl) rfl rfl (by kernel_rfl) (by kernel_rfl) (by kernel_rfl) (by kernel_rfl) (by kernel_rfl) rfl rfl (by decide) hu63 ⟨_, rfl⟩ fun A61 c62 w a hX => ?_
      have hX : Cx 58 _ _ _ _ _ [accP 5 kByte A61 c62 (x58 ++ [(0 : UInt8), (1 : UInt8)])] [some ⟨5, [.v (.int .u8 0), .v (.int .u8 1)]⟩] ρ _ a := hX
      refine hX.part [] 0 [56] (l' := [(56, .v (.slice A61 (x58 ++ [(0 : UInt8), (1 : UInt8)]).length c62))]) (B' := [some ⟨5, [.v (.int .u8 0), .v (.int .u8 1)]⟩]) (by kernel_rfl) fun ρ w a hX => ?_
      refine hX.strAcc (lit := []) (i := 0) (e := 5) (e2 := 5) (xs := (x58 ++ [(0 : UInt8), (1 : UInt8)])) (A := A61) (c := c62) (by kernel_rfl) (by kernel_rfl) rfl rfl (by kernel_rfl) (by kernel_rfl) (by kernel_rfl) (by kernel_rfl) fun a hX => ?_
      refine hX.part [] 1 [2] (l' := [(2, .v (.string ⟨⟨(x58 ++ [(0 : UInt8), (1 : UInt8)])⟩⟩))]) (B' := [some ⟨5, [.v (.int .u8 0), .v (.int .u8 1)]⟩]) (by kernel_rfl) fun ρ w a hX => ?_
      refine wpList_end ?_
      refine hK28 _ _ ?_
      refine wp_ret ?_
      have hr := Option.some.inj (show some _ = some _ from h0)
      subst hr
      exact hX.ret0 (ss := [.v (.string ⟨⟨(x58 ++ [(0 : UInt8), (1 : UInt8)])⟩⟩)]) (by kernel_rfl) (by kernel_rfl) rfl
    refine loop_go (fun (s : Int × (List UInt8)) a w => match s with | (x37, x38) => ∃ (A39 : Option Addr) (c40 : Nat) (ρ : Nat → Nat) (F : Heap), Cx 58 w0 F0 No w F [accP 5 kByte A39 c40 x38] [some ⟨40, [.v (.bool p.IsText), .v (.int .i64 p.N), .v (.string ⟨⟨p.S⟩⟩)]⟩] ρ [(1, .ptr 0 0), (6, .v (.slice A39 x38.length c40)), (7, .v (.int .i64 x37))] a) he1 (fun LW1 s o1 h1 hb1 hx1 a w hI => ?_) _ _ ?_
    · obtain ⟨x37, x38⟩ := s
      obtain ⟨A39, c40, ρ, F, hX⟩ := hI
      unfold ref05_part.l2 at h1
      (try dsimp only at h1)
      refine wp_seq_k fun K23 hK23 => ?_
      refine Cx.rseq hX [] [1, 6, 7, 36] (l' := [(1, .ptr 0 0), (6, .v (.slice A39 x38.length c40)), (7, .v (.int .i64 x37)), (36, .v (.bool (decide (x37 < ((p.S.length : Nat) : Int)))))]) (B' := [some ⟨40, [.v (.bool p.IsText), .v (.int .i64 p.N), .v (.string ⟨⟨p.S⟩⟩)]⟩]) (by kernel_rfl) fun ρ w a hX => ?_
      refine Cx.cond hX (b := (decide (x37 < ((p.S.length : Nat) : Int)))) (by kernel_rfl) (fun hb => ?_) (fun hb => ?_)
      · have h1 := ite_tt h1 hb
        refine wp_skip ?_
        refine hK23 _ _ ?_
        refine wp_seq_k fun K25 hK25 => ?_
        have J25 : ∀ (x50 : List UInt8), ref05_part.j2 x37 x50 = some o1 → ∀ (A51 : Option Addr) (c52 : Nat) (ρ : Nat → Nat) (w : World) (F : Heap) (a : Act), Cx 58 w0 F0 No w F [accP 5 kByte A51 c52 x50] [some ⟨40, [.v (.bool p.IsText), .v (.int .i64 p.N), .v (.string ⟨⟨p.S⟩⟩)]⟩] ρ [(1, .ptr 0 0), (6, .v (.slice A51 x50.length c52)), (7, .v (.int .i64 x37))] a → K25 a w := by
          intro x50 h1 A51 c52 ρ w F a hX
          unfold ref05_part.j2 at h1
          refine hK25 _ _ ?_
          refine Cx.region hX [] [1, 6, 7] (l' := [(1, .ptr 0 0), (6, .v (.slice A51 x50.length c52)), (7, .v (.int .i64 (IntKind.wrap .i64 (x37 + 1))))]) (B' := [some ⟨40, [.v (.bool p.IsText), .v (.int .i64 p.N), .v (.string ⟨⟨p.S⟩⟩)]⟩]) (by kernel_rfl) fun ρ w a hX => ?_
          have hX := hX.keeps [1, 6, 7] (l' := [(1, .ptr 0 0), (6, .v (.slice A51 x50.length c52)), (7, .v (.int .i64 (IntKind.wrap .i64 (x37 + 1))))]) (by kernel_rfl)
          exact hb1 ((IntKind.wrap .i64 (x37 + 1)), x50) (out_eq h1) _ _ ⟨A51, c52, _, _, hX⟩
        refine wp_block ?_
        refine wp_seq_k fun K26 hK26 => ?_
        refine wp_region_list ?_
        refine hX.part [] 4 [1, 6, 7, 39, 41, 42] (l' := [(1, .ptr 0 0), (6, .v (.slice A39 x38.length c40)), (7, .v (.int .i64 x37)), (39, .v (.slice A39 x38.length c40)), (41, .v (.string ⟨⟨p.S⟩⟩)), (42, .v (.int .i64 x37))]) (B' := [some ⟨40, [.v (.bool p.IsText), .v (.int .i64 p.N), .v (.string ⟨⟨p.S⟩⟩)]⟩]) (by kernel_rfl) fun ρ w a hX => ?_
        obtain ⟨v41, hv41, h1⟩ := bnd_some h1
        refine hX.idxStr (lit := []) (by kernel_rfl) (by kernel_rfl) rfl (s := p.S) (k := .i64) (n := x37) (b := v41) (by kernel_rfl) (by kernel_rfl) (by kernel_rfl) hv41 fun a hX => ?_
        refine hX.part [] 1 [1, 6, 7, 39, 44] (l' := [(1, .ptr 0 0), (6, .v (.slice A39 x38.length c40)), (7, .v (.int .i64 x37)), (39, .v (.slice A39 x38.length c40)), (44, .slc 1 0 1 1)]) (B' := [some ⟨40, [.v (.bool p.IsText), .v (.int .i64 p.N), .v (.string ⟨⟨p.S⟩⟩)]⟩, some ⟨5, [.v (.int .u8 v41)]⟩]) (by kernel_rfl) fun ρ w a hX => ?_
        obtain ⟨b45, hb45, h1⟩ := bnd_some h1
        obtain ⟨u44, hu44, h1⟩ := bnd_some h1
        have hX := hX.rebox 1 (b := ⟨5, [.v (.int .u8 v41)]⟩) (cs := [.v (.int .u8 ((b45.toNat : Nat) : Int))]) (B' := [some ⟨40, [.v (.bool p.IsText), .v (.int .i64 p.N), .v (.string ⟨⟨p.S⟩⟩)]⟩, some ⟨5, [.v (.int .u8 ((b45.toNat : Nat) : Int))]⟩]) (by kernel_rfl) (fun ρ => by simp only [SV.dens, SV.den, toB_some hb45]) (by have hg := (hX.bgood ⟨5, [.v (.int .u8 v41)]⟩ (List.mem_of_getElem? (i := 1) (by kernel_rfl))).1; exact ⟨trivial, trivial⟩) (by kernel_rfl) (by kernel_rfl)
        refine hX.appLit (d := kByte) (k := 1) (m := 1) (bytes := 1) (cells := [.v (.int .u8 ((b45.toNat : Nat) : Int))]) (lit := []) (i := 0) (e := 5) (xs := x38) (A := A39) (c := c40) ([(b45, ())] : List (UInt8 × (kByte).Y)) (by kernel_rfl) (by kernel_rfl) rfl rfl (by kernel_rfl) (by kernel_rfl) (by kernel_rfl) (by kernel_rfl) (by kernel_rfl) rfl rfl (by decide) hu44 ⟨_, rfl⟩ fun A42 c43 w a hX => ?_
        have hX : Cx 58 _ _ _ _ _ [accP 5 kByte A42 c43 (x38 ++ [b45])] [some ⟨40, [.v (.bool p.IsText), .v (.int .i64 p.N), .v (.string ⟨⟨p.S⟩⟩)]⟩, some ⟨5, [.v (.int .u8 ((b45.toNat : Nat) : Int))]⟩] ρ _ a := hX
        refine hX.part [] 1 [1, 6, 7] (l' := [(1, .ptr 0 0), (6, .v (.slice A42 (x38 ++ [b45]).length c43)), (7, .v (.int .i64 x37))]) (B' := [some ⟨40, [.v (.bool p.IsText), .v (.int .i64 p.N), .v (.string ⟨⟨p.S⟩⟩)]⟩, some ⟨5, [.v (.int .u8 ((b45.toNat : Nat) : Int))]⟩]) (by kernel_rfl) fun ρ w a hX => ?_
        refine wpList_end ?_
        refine hK26 _ _ ?_
        refine wp_seq_k fun K27 hK27 => ?_
        refine wp_region_list ?_
        refine hX.part [] 3 [1, 6, 7, 47, 48] (l' := [(1, .ptr 0 0), (6, .v (.slice A42 (x38 ++ [b45]).length c43)), (7, .v (.int .i64 x37)), (47, .v (.string ⟨⟨p.S⟩⟩)), (48, .v (.int .i64 x37))]) (B' := [some ⟨40, [.v (.bool p.IsText), .v (.int .i64 p.N), .v (.string ⟨⟨p.S⟩⟩)]⟩, some ⟨5, [.v (.int .u8 ((b45.toNat : Nat) : Int))]⟩]) (by kernel_rfl) fun ρ w a hX => ?_
        obtain ⟨v46, hv46, h1⟩ := bnd_some h1
        refine hX.idxStr (lit := []) (by kernel_rfl) (by kernel_rfl) rfl (s := p.S) (k := .i64) (n := x37) (b := v46) (by kernel_rfl) (by kernel_rfl) (by kernel_rfl) hv46 fun a hX => ?_
        refine hX.part [] 1 [1, 6, 7, 50] (l' := [(1, .ptr 0 0), (6, .v (.slice A42 (x38 ++ [b45]).length c43)), (7, .v (.int .i64 x37)), (50, .v (.bool (v46 == 0)))]) (B' := [some ⟨40, [.v (.bool p.IsText), .v (.int .i64 p.N), .v (.string ⟨⟨p.S⟩⟩)]⟩, some ⟨5, [.v (.int .u8 ((b45.toNat : Nat) : Int))]⟩]) (by kernel_rfl) fun ρ w a hX => ?_
        refine wpList_end ?_
        refine hK27 _ _ ?_
        refine Cx.cond hX (b := (v46 == 0)) (by kernel_rfl) (fun hb => ?_) (fun hb => ?_)
        · have h1 := ite_tt h1 hb
          refine wp_region_list ?_
          refine hX.part [] 2 [1, 6, 7, 51, 52] (l' := [(1, .ptr 0 0), (6, .v (.slice A42 (x38 ++ [b45]).length c43)), (7, .v (.int .i64 x37)), (51, .v (.slice A42 (x38 ++ [b45]).length c43)), (52, .slc 2 0 1 1)]) (B' := [some ⟨40, [.v (.bool p.IsText), .v (.int .i64 p.N), .v (.string ⟨⟨p.S⟩⟩)]⟩, some ⟨5, [.v (.int .u8 ((b45.toNat : Nat) : Int))]⟩, some ⟨5, [.v (.int .u8 255)]⟩]) (by kernel_rfl) fun ρ w a hX => ?_
          obtain ⟨u49, hu49, h1⟩ := bnd_some h1
          refine hX.appLit (d := kByte) (k := 2) (m := 1) (bytes := 1) (cells := [.v (.int .u8 255)]) (lit := []) (i := 0) (e := 5) (xs := (x38 ++ [b45])) (A := A42) (c := c43) ([((255 : UInt8), ())] : List (UInt8 × (kByte).Y)) (by kernel_rfl) (by kernel_rfl) rfl rfl (by kernel_rfl) (by kernel_rfl) (by kernel_rfl) (by kernel_rfl) (by kernel_rfl) rfl rfl (by decide) hu49 ⟨_, rfl⟩ fun A47 c48 w a hX => ?_
          have hX : Cx 58 _ _ _ _ _ [accP 5 kByte A47 c48 ((x38 ++ [b45]) ++ [(255 : UInt8)])] [some ⟨40, [.v (.bool p.IsText), .v (.int .i64 p.N), .v (.string ⟨⟨p.S⟩⟩)]⟩, some ⟨5, [.v (.int .u8 ((b45.toNat : Nat) : Int))]⟩, some ⟨5, [.v (.int .u8 255)]⟩] ρ _ a := hX
          refine hX.part [] 1 [1, 6, 7] (l' := [(1, .ptr 0 0), (6, .v (.slice A47 ((x38 ++ [b45]) ++ [(255 : UInt8)]).length c48)), (7, .v (.int .i64 x37))]) (B' := [some ⟨40, [.v (.bool p.IsText), .v (.int .i64 p.N), .v (.string ⟨⟨p.S⟩⟩)]⟩, some ⟨5, [.v (.int .u8 ((b45.toNat : Nat) : Int))]⟩, some ⟨5, [.v (.int .u8 255)]⟩]) (by kernel_rfl) fun ρ w a hX => ?_
          refine wpList_end ?_
          have hX := hX.keeps [1, 6, 7] (l' := [(1, .ptr 0 0), (6, .v (.slice A47 ((x38 ++ [b45]) ++ [(255 : UInt8)]).length c48)), (7, .v (.int .i64 x37))]) (by kernel_rfl)
          have hX := hX.shrink 1 (B' := [some ⟨40, [.v (.bool p.IsText), .v (.int .i64 p.N), .v (.string ⟨⟨p.S⟩⟩)]⟩]) (by kernel_rfl) (Nat.le_of_ble_eq_true rfl) (by kernel_rfl) (by kernel_rfl)
          exact J25 ((x38 ++ [b45]) ++ [(255 : UInt8)]) h1 A47 c48 _ _ _ _ hX
        · have h1 := ite_ff h1 hb
          refine wp_skip ?_
          have hX := hX.keeps [1, 6, 7] (l' := [(1, .ptr 0 0), (6, .v (.slice A42 (x38 ++ [b45]).length c43)), (7, .v (.int .i64 x37))]) (by kernel_rfl)
          have hX := hX.shrink 1 (B' := [some ⟨40, [.v (.bool p.IsText), .v (.int .i64 p.N), .v (.string ⟨⟨p.S⟩⟩)]⟩]) (by kernel_rfl) (Nat.le_of_ble_eq_true rfl) (by kernel_rfl) (by kernel_rfl)
          exact J25 (x38 ++ [b45]) h1 A42 c43 _ _ _ _ hX
      · have h1 := ite_ff h1 hb
        refine wp_exit ?_
        have hX := hX.keeps [6] (l' := [(6, .v (.slice A39 x38.length c40))]) (by kernel_rfl)
        have hX := hX.shrink 0 (B' := []) (by kernel_rfl) (Nat.le_of_ble_eq_true rfl) (by kernel_rfl) (by kernel_rfl)
        exact E1x0 x38 (hx1 _ (out_eq h1)).symm A39 c40 _ _ _ _ hX
    · exact ⟨(some ⟨b57, 0, none⟩), 1, _, _, hX⟩
def ref05_bytes.l1 (k : List T_api_Part) (s : Str × Int) : Option ((Str × Int) ⊕ ((Str) ⊕ (Str × Bool))) := match s with
  | (x8, x9) =>
  if (decide (x9 < ((k.length : Nat) : Int))) = true then
    Option.bind (getI k x9) fun v10 =>
    Option.bind (ref05_may v10) fun v14 =>
    if (!v14) = true then
      some (.inr (.inr (([] : Str), false)))
    else
      Option.bind (ref05_part v10) fun v15 =>
      Option.bind (catS x8 v15) fun v16 =>
      some (.inl (v16, (IntKind.wrap .i64 (x9 + 1))))
  else
    some (.inr (.inl x8))
def ref05_bytes (k : List T_api_Part) : Option (Str × Bool) :=
  Option.bind (loopM (ref05_bytes.l1 k) (([] : Str), 0)) fun e => match e with
  | (.inl x19) =>
    some (x19, true)
  | (.inr r20) =>
    some r20
theorem ref05_bytes.ok (k : List T_api_Part) (y_k : (Option Addr × Nat)) (r : Str × Bool) (h0 : ref05_bytes k = some r) (w0 : World) (F0 : Heap) (hv : F0.Sub w0) (hG : Glob F0) (hg : SV.goods F0 [SV.sl kT_api_Part k y_k.1 y_k.2]) (ρ : Nat → Nat) :
    Calls Tryd.prog 33 (SV.dens ρ [SV.sl kT_api_Part k y_k.1 y_k.2]).toArray w0 (Ret0 w0 F0 fun s => ∃ s1 s2, s = .tup [s1, s2] ∧ (s1 = .v (.string ⟨⟨r.1⟩⟩)) ∧ (s2 = .v (.bool r.2))) := by
  refine calls_of_wp Tryd.func33 rfl ?_
  have hX := Cx.enter (D := No) (B := []) (L := []) (ρ := ρ) (N := 22) Tryd.ntmps33 [SV.sl kT_api_Part k y_k.1 y_k.2] (St.start hv) rfl hg (by kernel_rfl) (fun _ h => by cases h) (Nat.le_of_ble_eq_true rfl)
  unfold ref05_bytes at h0
  refine Cx.rseq hX [] [0] (l' := [(0, SV.sl kT_api_Part k y_k.1 y_k.2)]) (B' := []) (by kernel_rfl) fun ρ w a hX => ?_
  refine Cx.rseq hX [] [0, 4] (l' := [(0, SV.sl kT_api_Part k y_k.1 y_k.2), (4, .v (.string ⟨⟨([] : Str)⟩⟩))]) (B' := []) (by kernel_rfl) fun ρ w a hX => ?_
  refine wp_seq_k fun K3 hK3 => ?_
  refine Cx.rseq hX [] [4, 7, 8, 9] (l' := [(4, .v (.string ⟨⟨([] : Str)⟩⟩)), (7, SV.sl kT_api_Part k y_k.1 y_k.2), (8, .v (.int .i64 ((k.length : Nat) : Int))), (9, .v (.int .i64 0))]) (B' := []) (by kernel_rfl) fun ρ w a hX => ?_
  refine wp_block ?_
  have hX := hX.keeps [4, 7, 8, 9] (l' := [(4, .v (.string ⟨⟨([] : Str)⟩⟩)), (7, SV.sl kT_api_Part k y_k.1 y_k.2), (8, .v (.int .i64 ((k.length : Nat) : Int))), (9, .v (.int .i64 0))]) (by kernel_rfl)
  obtain ⟨e1, he1, h0⟩ := bnd_some h0
  have E1x0 : ∀ (x19 : Str), e1 = (.inl x19) → ∀ (ρ : Nat → Nat) (w : World) (F : Heap) (a : Act), Cx 22 w0 F0 No w F [] [] ρ [(4, .v (.string ⟨⟨x19⟩⟩))] a → K3 a w := by
    intro x19 he  ρ w F a hX
    replace he := he.symm
    subst he
    (try dsimp only at h0)
    refine hK3 _ _ ?_
    refine Cx.rseq hX [] [2, 3] (l' := [(2, .v (.string ⟨⟨x19⟩⟩)), (3, .v (.bool true))]) (B' := []) (by kernel_rfl) fun ρ w a hX => ?_
    refine wp_ret ?_
    have hr := Option.some.inj (show some _ = some _ from h0)
    subst hr
    exact hX.ret0 (ss := [.v (.string ⟨⟨x19⟩⟩), .v (.bool true)]) (by kernel_rfl) (by kernel_rfl) ⟨_, _, rfl, rfl, rfl⟩
  refine loop_go (fun (s : Str × Int) a w => match s with | (x8, x9) => ∃ (ρ : Nat → Nat) (F : Heap), Cx 22 w0 F0 No w F [] [] ρ [(4, .v (.string ⟨⟨x8⟩⟩)), (7, SV.sl kT_api_Part k y_k.1 y_k.2), (8, .v (.int .i64 ((k.length : Nat) : Int))), (9, .v (.int .i64 x9))] a) he1 (fun LW1 s o1 h1 hb1 hx1 a w hI => ?_) _ _ ?_
  · obtain ⟨x8, x9⟩ := s
    obtain ⟨ρ, F, hX⟩ := hI
    unfold ref05_bytes.l1 at h1
    (try dsimp only at h1)
    refine Cx.rseq hX [] [4, 7, 8, 9, 10] (l' := [(4, .v (.string ⟨⟨x8⟩⟩)), (7, SV.sl kT_api_Part k y_k.1 y_k.2), (8, .v (.int .i64 ((k.length : Nat) : Int))), (9, .v (.int .i64 x9)), (10, .v (.bool (decide (x9 < ((k.length : Nat) : Int)))))]) (B' := []) (by kernel_rfl) fun ρ w a hX => ?_
    refine wp_seq_k fun K13 hK13 => ?_
    refine Cx.cond hX (b := (decide (x9 < ((k.length : Nat) : Int)))) (by kernel_rfl) (fun hb => ?_) (fun hb => ?_)
    · have h1 := ite_tt h1 hb
      refine wp_skip ?_
      refine hK13 _ _ ?_
      refine wp_seq_k fun K14 hK14 => ?_
      refine wp_block ?_
      refine wp_seq_k fun K15 hK15 => ?_
      refine wp_region_list ?_
      refine hX.part [] 0 [4, 7, 8, 9] (l' := [(4, .v (.string ⟨⟨x8⟩⟩)), (7, SV.sl kT_api_Part k y_k.1 y_k.2), (8, .v (.int .i64 ((k.length : Nat) : Int))), (9, .v (.int .i64 x9))]) (B' := []) (by kernel_rfl) fun ρ w a hX => ?_
      obtain ⟨v10, hv10, h1⟩ := bnd_some h1
      refine hX.idxSl (lit := []) (by kernel_rfl) (by kernel_rfl) rfl (d := kT_api_Part) (e := 40) (xs := k) (A := y_k.1) (c := y_k.2) (k := .i64) (n := x9) (v := v10) (by kernel_rfl) (by kernel_rfl) (by kernel_rfl) (by kernel_rfl) hv10 fun y11 b12 o13 a hX => ?_
      refine hX.part [] 3 [4, 6, 7, 8, 9] (l' := [(4, .v (.string ⟨⟨x8⟩⟩)), (6, .ptr 0 0), (7, SV.sl kT_api_Part k y_k.1 y_k.2), (8, .v (.int .i64 ((k.length : Nat) : Int))), (9, .v (.int .i64 x9))]) (B' := [some ⟨40, [.v (.bool v10.IsText), .v (.int .i64 v10.N), .v (.string ⟨⟨v10.S⟩⟩)]⟩]) (by kernel_rfl) fun ρ w a hX => ?_
      refine wpList_end ?_
      refine hK15 _ _ ?_
      refine wp_seq_k fun K16 hK16 => ?_
      refine wp_seq_k fun K17 hK17 => ?_
      refine wp_region_list ?_
      refine hX.part [] 1 [4, 6, 7, 8, 9, 13] (l' := [(4, .v (.string ⟨⟨x8⟩⟩)), (6, .ptr 0 0), (7, SV.sl kT_api_Part k y_k.1 y_k.2), (8, .v (.int .i64 ((k.length : Nat) : Int))), (9, .v (.int .i64 x9)), (13, .agg [.v (.bool v10.IsText), .v (.int .i64 v10.N), .v (.string ⟨⟨v10.S⟩⟩)])]) (B' := [some ⟨40, [.v (.bool v10.IsText), .v (.int .i64 v10.N), .v (.string ⟨⟨v10.S⟩⟩)]⟩]) (by kernel_rfl) fun ρ w a hX => ?_
      obtain ⟨v14, hv14, h1⟩ := bnd_some h1
      refine Cx.call0 hX (lit := []) (by kernel_rfl) rfl (by kernel_rfl) ⟨⟨_, Tryd.func28, by kernel_rfl, rfl⟩⟩ (ss := [.agg [.v (.bool v10.IsText), .v (.int .i64 v10.N), .v (.string ⟨⟨v10.S⟩⟩)]]) (by kernel_rfl) [.agg [.v (.bool v10.IsText), .v (.int .i64 v10.N), .v (.string ⟨⟨v10.S⟩⟩)]] rfl (fun hg => hg) (fun hv hle hg => ref05_may.ok v10 v14 hv14 _ _ hv (hG.mono hle) hg _) (fun s F w a hp hX => ?_)
      subst hp
      refine hX.part [] 1 [4, 6, 7, 8, 9, 15] (l' := [(4, .v (.string ⟨⟨x8⟩⟩)), (6, .ptr 0 0), (7, SV.sl kT_api_Part k y_k.1 y_k.2), (8, .v (.int .i64 ((k.length : Nat) : Int))), (9, .v (.int .i64 x9)), (15, .v (.bool (!v14)))]) (B' := [some ⟨40, [.v (.bool v10.IsText), .v (.int .i64 v10.N), .v (.string ⟨⟨v10.S⟩⟩)]⟩]) (by kernel_rfl) fun ρ w a hX => ?_
      refine wpList_end ?_
      refine hK17 _ _ ?_
      refine Cx.cond hX (b := (!v14)) (by kernel_rfl) (fun hb => ?_) (fun hb => ?_)
      · have h1 := ite_tt h1 hb
        refine Cx.rseq hX [] [2, 3] (l' := [(2, .v (.string ⟨⟨([] : Str)⟩⟩)), (3, .v (.bool false))]) (B' := [some ⟨40, [.v (.bool v10.IsText), .v (.int .i64 v10.N), .v (.string ⟨⟨v10.S⟩⟩)]⟩]) (by kernel_rfl) fun ρ w a hX => ?_
        refine wp_ret ?_
        have he := hx1 _ (out_eq h1)
        subst he
        (try dsimp only at h0)
        have hr := Option.some.inj (show some _ = some _ from h0)
        subst hr
        exact hX.ret0 (ss := [.v (.string ⟨⟨([] : Str)⟩⟩), .v (.bool false)]) (by kernel_rfl) (by kernel_rfl) ⟨_, _, rfl, rfl, rfl⟩
      · have h1 := ite_ff h1 hb
        refine wp_skip ?_
        refine hK16 _ _ ?_
        refine wp_region_list ?_
        refine hX.part [] 2 [4, 7, 8, 9, 16, 17] (l' := [(4, .v (.string ⟨⟨x8⟩⟩)), (7, SV.sl kT_api_Part k y_k.1 y_k.2), (8, .v (.int .i64 ((k.length : Nat) : Int))), (9, .v (.int .i64 x9)), (16, .v (.string ⟨⟨x8⟩⟩)), (17, .agg [.v (.bool v10.IsText), .v (.int .i64 v10.N), .v (.string ⟨⟨v10.S⟩⟩)])]) (B' := [some ⟨40, [.v (.bool v10.IsText), .v (.int .i64 v10.N), .v (.string ⟨⟨v10.S⟩⟩)]⟩]) (by kernel_rfl) fun ρ w a hX => ?_
        obtain ⟨v15, hv15, h1⟩ := bnd_some h1
        refine Cx.call0 hX (lit := []) (by kernel_rfl) rfl (by kernel_rfl) ⟨⟨_, Tryd.func39, by kernel_rfl, rfl⟩⟩ (ss := [.agg [.v (.bool v10.IsText), .v (.int .i64 v10.N), .v (.string ⟨⟨v10.S⟩⟩)]]) (by kernel_rfl) [.agg [.v (.bool v10.IsText), .v (.int .i64 v10.N), .v (.string ⟨⟨v10.S⟩⟩)]] rfl (fun hg => hg) (fun hv hle hg => ref05_part.ok v10 v15 hv15 _ _ hv (hG.mono hle) hg _) (fun s F w a hp hX => ?_)
        subst hp
        refine hX.part [] 0 [4, 7, 8, 9, 16, 18] (l' := [(4, .v (.string ⟨⟨x8⟩⟩)), (7, SV.sl kT_api_Part k y_k.1 y_k.2), (8, .v (.int .i64 ((k.length : Nat) : Int))), (9, .v (.int .i64 x9)), (16, .v (.string ⟨⟨x8⟩⟩)), (18, .v (.string ⟨⟨v15⟩⟩))]) (B' := [some ⟨40, [.v (.bool v10.IsText), .v (.int .i64 v10.N), .v (.string ⟨⟨v10.S⟩⟩)]⟩]) (by kernel_rfl) fun ρ w a hX => ?_
        obtain ⟨v16, hv16, h1⟩ := bnd_some h1
        refine hX.catStr (lit := []) (by kernel_rfl) (by kernel_rfl) rfl (s := x8) (t := v15) (r := v16) (by kernel_rfl) (by kernel_rfl) hv16 fun a hX => ?_
        refine hX.part [] 1 [4, 7, 8, 9] (l' := [(4, .v (.string ⟨⟨v16⟩⟩)), (7, SV.sl kT_api_Part k y_k.1 y_k.2), (8, .v (.int .i64 ((k.length : Nat) : Int))), (9, .v (.int .i64 x9))]) (B' := [some ⟨40, [.v (.bool v10.IsText), .v (.int .i64 v10.N), .v (.string ⟨⟨v10.S⟩⟩)]⟩]) (by kernel_rfl) fun ρ w a hX => ?_
        refine wpList_end ?_
        refine hK14 _ _ ?_
        refine Cx.region hX [] [4, 7, 8, 9] (l' := [(4, .v (.string ⟨⟨v16⟩⟩)), (7, SV.sl kT_api_Part k y_k.1 y_k.2), (8, .v (.int .i64 ((k.length : Nat) : Int))), (9, .v (.int .i64 (IntKind.wrap .i64 (x9 + 1))))]) (B' := [some ⟨40, [.v (.bool v10.IsText), .v (.int .i64 v10.N), .v (.string ⟨⟨v10.S⟩⟩)]⟩]) (by kernel_rfl) fun ρ w a hX => ?_
        have hX := hX.keeps [4, 7, 8, 9] (l' := [(4, .v (.string ⟨⟨v16⟩⟩)), (7, SV.sl kT_api_Part k y_k.1 y_k.2), (8, .v (.int .i64 ((k.length : Nat) : Int))), (9, .v (.int .i64 (IntKind.wrap .i64 (x9 + 1))))]) (by kernel_rfl)
        have hX := hX.shrink 0 (B' := []) (by kernel_rfl) (Nat.le_of_ble_eq_true rfl) (by kernel_rfl) (by kernel_rfl)
        exact hb1 (v16, (IntKind.wrap .i64 (x9 + 1))) (out_eq h1) _ _ ⟨_, _, hX⟩
    · have h1 := ite_ff h1 hb
      refine wp_exit ?_
      have hX := hX.keeps [4] (l' := [(4, .v (.string ⟨⟨x8⟩⟩))]) (by kernel_rfl)
      exact E1x0 x8 (hx1 _ (out_eq h1)).symm  _ _ _ _ hX
  · exact ⟨_, _, hX⟩
def ref05_Encode (k : List T_api_Part) : Option (Str × Int) :=
  Option.bind (ref05_bytes k) fun v1 =>
  if (!v1.2) = true then
    some (([] : Str), 50)
  else
    if (decide (((v1.1.length : Nat) : Int) > 256)) = true then
      some (([] : Str), 2)
    else
      some (v1.1, 0)
theorem ref05_Encode.ok (k : List T_api_Part) (y_k : (Option Addr × Nat)) (r : Str × Int) (h0 : ref05_Encode k = some r) (w0 : World) (F0 : Heap) (hv : F0.Sub w0) (hG : Glob F0) (hg : SV.goods F0 [SV.sl kT_api_Part k y_k.1 y_k.2]) (ρ : Nat → Nat) :
    Calls Tryd.prog 20 (SV.dens ρ [SV.sl kT_api_Part k y_k.1 y_k.2]).toArray w0 (Ret0 w0 F0 fun s => ∃ s1 s2, s = .tup [s1, s2] ∧ (s1 = .v (.string ⟨⟨r.1⟩⟩)) ∧ (s2 = .v (.int .i64 r.2))) := by
  refine calls_of_wp Tryd.func20 rfl ?_
  have hX := Cx.enter (D := No) (B := []) (L := []) (ρ := ρ) (N := 17) Tryd.ntmps20 [SV.sl kT_api_Part k y_k.1 y_k.2] (St.start hv) rfl hg (by kernel_rfl) (fun _ h => by cases h) (Nat.le_of_ble_eq_true rfl)
  unfold ref05_Encode at h0
  refine Cx.rseq hX [] [0] (l' := [(0, SV.sl kT_api_Part k y_k.1 y_k.2)]) (B' := []) (by kernel_rfl) fun ρ w a hX => ?_
  refine wp_seq_k fun K2 hK2 => ?_
  refine wp_region_list ?_
  refine hX.part [] 1 [7] (l' := [(7, SV.sl kT_api_Part k y_k.1 y_k.2)]) (B' := []) (by kernel_rfl) fun ρ w a hX => ?_
  obtain ⟨v1, hv1, h0⟩ := bnd_some h0
  refine Cx.call0 hX (lit := []) (by kernel_rfl) rfl (by kernel_rfl) ⟨⟨_, Tryd.func33, by kernel_rfl, rfl⟩⟩ (ss := [SV.sl kT_api_Part k y_k.1 y_k.2]) (by kernel_rfl) [SV.sl kT_api_Part k y_k.1 y_k.2] rfl (fun hg => hg) (fun hv hle hg => ref05_bytes.ok k (y_k.1, y_k.2) v1 hv1 _ _ hv (hG.mono hle) hg _) (fun s F w a hp hX => ?_)
  obtain ⟨_, _, rfl, rfl, rfl⟩ := hp
  refine hX.part [] 5 [4, 5] (l' := [(4, .v (.string ⟨⟨v1.1⟩⟩)), (5, .v (.bool v1.2))]) (B' := []) (by kernel_rfl) fun ρ w a hX => ?_
  refine wpList_end ?_
  refine hK2 _ _ ?_
  refine wp_seq_k fun K3 hK3 => ?_
  refine Cx.rseq hX [] [4, 12] (l' := [(4, .v (.string ⟨⟨v1.1⟩⟩)), (12, .v (.bool (!v1.2)))]) (B' := []) (by kernel_rfl) fun ρ w a hX => ?_
  refine Cx.cond hX (b := (!v1.2)) (by kernel_rfl) (fun hb => ?_) (fun hb => ?_)
  · have h0 := ite_tt h0 hb
    refine Cx.rseq hX [] [2, 3] (l' := [(2, .v (.string ⟨⟨([] : Str)⟩⟩)), (3, .v (.int .i64 50))]) (B' := []) (by kernel_rfl) fun ρ w a hX => ?_
    refine wp_ret ?_
    have hr := Option.some.inj (show some _ = some _ from h0)
    subst hr
    exact hX.ret0 (ss := [.v (.string ⟨⟨([] : Str)⟩⟩), .v (.int .i64 50)]) (by kernel_rfl) (by kernel_rfl) ⟨_, _, rfl, rfl, rfl⟩
  · have h0 := ite_ff h0 hb
    refine wp_skip ?_
    refine hK3 _ _ ?_
    refine wp_seq_k fun K6 hK6 => ?_
    refine Cx.rseq hX [] [4, 15] (l' := [(4, .v (.string ⟨⟨v1.1⟩⟩)), (15, .v (.bool (decide (((v1.1.length : Nat) : Int) > 256))))]) (B' := []) (by kernel_rfl) fun ρ w a hX => ?_
    refine Cx.cond hX (b := (decide (((v1.1.length : Nat) : Int) > 256))) (by kernel_rfl) (fun hb => ?_) (fun hb => ?_)
    · have h0 := ite_tt h0 hb
      refine Cx.rseq hX [] [2, 3] (l' := [(2, .v (.string ⟨⟨([] : Str)⟩⟩)), (3, .v (.int .i64 2))]) (B' := []) (by kernel_rfl) fun ρ w a hX => ?_
      refine wp_ret ?_
      have hr := Option.some.inj (show some _ = some _ from h0)
      subst hr
      exact hX.ret0 (ss := [.v (.string ⟨⟨([] : Str)⟩⟩), .v (.int .i64 2)]) (by kernel_rfl) (by kernel_rfl) ⟨_, _, rfl, rfl, rfl⟩
    · have h0 := ite_ff h0 hb
      refine wp_skip ?_
      refine hK6 _ _ ?_
      refine Cx.rseq hX [] [2, 3] (l' := [(2, .v (.string ⟨⟨v1.1⟩⟩)), (3, .v (.int .i64 0))]) (B' := []) (by kernel_rfl) fun ρ w a hX => ?_
      refine wp_ret ?_
      have hr := Option.some.inj (show some _ = some _ from h0)
      subst hr
      exact hX.ret0 (ss := [.v (.string ⟨⟨v1.1⟩⟩), .v (.int .i64 0)]) (by kernel_rfl) (by kernel_rfl) ⟨_, _, rfl, rfl, rfl⟩
def ref05_Behind (k : List T_api_Part) : Option (Str × Int) :=
  Option.bind (ref05_Encode k) fun v1 =>
  if (v1.2 != 0) = true then
    some (([] : Str), v1.2)
  else
    Option.bind (catS v1.1 ([(255 : UInt8)] : List UInt8)) fun v3 =>
    some (v3, 0)
theorem ref05_Behind.ok (k : List T_api_Part) (y_k : (Option Addr × Nat)) (r : Str × Int) (h0 : ref05_Behind k = some r) (w0 : World) (F0 : Heap) (hv : F0.Sub w0) (hG : Glob F0) (hg : SV.goods F0 [SV.sl kT_api_Part k y_k.1 y_k.2]) (ρ : Nat → Nat) :
    Calls Tryd.prog 21 (SV.dens ρ [SV.sl kT_api_Part k y_k.1 y_k.2]).toArray w0 (Ret0 w0 F0 fun s => ∃ s1 s2, s = .tup [s1, s2] ∧ (s1 = .v (.string ⟨⟨r.1⟩⟩)) ∧ (s2 = .v (.int .i64 r.2))) := by
  refine calls_of_wp Tryd.func21 rfl ?_
  have hX := Cx.enter (D := No) (B := []) (L := []) (ρ := ρ) (N := 18) Tryd.ntmps21 [SV.sl kT_api_Part k y_k.1 y_k.2] (St.start hv) rfl hg (by kernel_rfl) (fun _ h => by cases h) (Nat.le_of_ble_eq_true rfl)
  unfold ref05_Behind at h0
  refine Cx.rseq hX [] [0] (l' := [(0, SV.sl kT_api_Part k y_k.1 y_k.2)]) (B' := []) (by kernel_rfl) fun ρ w a hX => ?_
  refine wp_seq_k fun K2 hK2 => ?_
  refine wp_region_list ?_
  refine hX.part [] 1 [7] (l' := [(7, SV.sl kT_api_Part k y_k.1 y_k.2)]) (B' := []) (by kernel_rfl) fun ρ w a hX => ?_
  obtain ⟨v1, hv1, h0⟩ := bnd_some h0
  refine Cx.call0 hX (lit := []) (by kernel_rfl) rfl (by kernel_rfl) ⟨⟨_, Tryd.func20, by kernel_rfl, rfl⟩⟩ (ss := [SV.sl kT_api_Part k y_k.1 y_k.2]) (by kernel_rfl) [SV.sl kT_api_Part k y_k.1 y_k.2] rfl (fun hg => hg) (fun hv hle hg => ref05_Encode.ok k (y_k.1, y_k.2) v1 hv1 _ _ hv (hG.mono hle) hg _) (fun s F w a hp hX => ?_)
  obtain ⟨_, _, rfl, rfl, rfl⟩ := hp
  refine hX.part [] 5 [4, 5] (l' := [(4, .v (.string ⟨⟨v1.1⟩⟩)), (5, .v (.int .i64 v1.2))]) (B' := []) (by kernel_rfl) fun ρ w a hX => ?_
  refine wpList_end ?_
  refine hK2 _ _ ?_
  refine wp_seq_k fun K3 hK3 => ?_
  refine Cx.rseq hX [] [4, 5, 12] (l' := [(4, .v (.string ⟨⟨v1.1⟩⟩)), (5, .v (.int .i64 v1.2)), (12, .v (.bool (v1.2 != 0)))]) (B' := []) (by kernel_rfl) fun ρ w a hX => ?_
  refine Cx.cond hX (b := (v1.2 != 0)) (by kernel_rfl) (fun hb => ?_) (fun hb => ?_)
  · have h0 := ite_tt h0 hb
    refine Cx.rseq hX [] [2, 3] (l' := [(2, .v (.string ⟨⟨([] : Str)⟩⟩)), (3, .v (.int .i64 v1.2))]) (B' := []) (by kernel_rfl) fun ρ w a hX => ?_
    refine wp_ret ?_
    have hr := Option.some.inj (show some _ = some _ from h0)
    subst hr
    exact hX.ret0 (ss := [.v (.string ⟨⟨([] : Str)⟩⟩), .v (.int .i64 v1.2)]) (by kernel_rfl) (by kernel_rfl) ⟨_, _, rfl, rfl, rfl⟩
  · have h0 := ite_ff h0 hb
    refine wp_skip ?_
    refine hK3 _ _ ?_
    refine wp_seq_k fun K6 hK6 => ?_
    refine wp_region_list ?_
    refine hX.part [] 2 [14, 15] (l' := [(14, .v (.string ⟨⟨v1.1⟩⟩)), (15, .slc 0 0 1 1)]) (B' := [some ⟨5, [.v (.int .u8 255)]⟩]) (by kernel_rfl) fun ρ w a hX => ?_
    obtain ⟨b2, hb, hX⟩ := hX.boxAcc2 (d := kByte) (e := 5) (k := 0) (t := 15) (m := 1) ([((255 : UInt8), ())] : List (UInt8 × (kByte).Y)) (by kernel_rfl) (by kernel_rfl) rfl rfl (by decide) ⟨_, rfl⟩
    have hX : Cx 18 _ _ _ _ _ [accP 5 kByte (some ⟨b2, 0, none⟩) 1 ([(255 : UInt8)] : List UInt8)] [none] ρ _ a := hX
    obtain ⟨F, hX⟩ := hX.freeze (i := 0) (t := 15) (e := 5) (d := kByte) (A := (some ⟨b2, 0, none⟩)) (c := 1) (xs := ([(255 : UInt8)] : List UInt8)) rfl (by kernel_rfl)
    have hX : Cx 18 _ _ _ _ _ [] [none] ρ _ a := hX
    refine hX.strSl (lit := []) (by kernel_rfl) (by kernel_rfl) rfl (e := 5) (xs := ([(255 : UInt8)] : List UInt8)) (A := (some ⟨b2, 0, none⟩)) (c := 1) (by kernel_rfl) (by kernel_rfl) (by kernel_rfl) (by kernel_rfl) fun a hX => ?_
    refine hX.part [] 0 [14, 16] (l' := [(14, .v (.string ⟨⟨v1.1⟩⟩)), (16, .v (.string ⟨⟨([(255 : UInt8)] : List UInt8)⟩⟩))]) (B' := [none]) (by kernel_rfl) fun ρ w a hX => ?_
    obtain ⟨v3, hv3, h0⟩ := bnd_some h0
    refine hX.catStr (lit := []) (by kernel_rfl) (by kernel_rfl) rfl (s := v1.1) (t := ([(255 : UInt8)] : List UInt8)) (r := v3) (by kernel_rfl) (by kernel_rfl) hv3 fun a hX => ?_
    refine hX.part [] 2 [2, 3] (l' := [(2, .v (.string ⟨⟨v3⟩⟩)), (3, .v (.int .i64 0))]) (B' := [none]) (by kernel_rfl) fun ρ w a hX => ?_
    refine wpList_end ?_
    refine hK6 _ _ ?_
    refine wp_ret ?_
    have hr := Option.some.inj (show some _ = some _ from h0)
    subst hr
    exact hX.ret0 (ss := [.v (.string ⟨⟨v3⟩⟩), .v (.int .i64 0)]) (by kernel_rfl) (by kernel_rfl) ⟨_, _, rfl, rfl, rfl⟩
def order_Check (k : List T_api_Part) : Option (Int) :=
  Option.bind (order_Encode k) fun v1 =>
  some v1.2
theorem order_Check.ok (k : List T_api_Part) (y_k : (Option Addr × Nat)) (r : Int) (h0 : order_Check k = some r) (w0 : World) (F0 : Heap) (hv : F0.Sub w0) (hG : Glob F0) (hg : SV.goods F0 [SV.sl kT_api_Part k y_k.1 y_k.2]) (ρ : Nat → Nat) :
    Calls Tryd.prog 22 (SV.dens ρ [SV.sl kT_api_Part k y_k.1 y_k.2]).toArray w0 (Ret0 w0 F0 fun s => s = .v (.int .i64 r)) := by
  refine calls_of_wp Tryd.func22 rfl ?_
  have hX := Cx.enter (D := No) (B := []) (L := []) (ρ := ρ) (N := 11) Tryd.ntmps22 [SV.sl kT_api_Part k y_k.1 y_k.2] (St.start hv) rfl hg (by kernel_rfl) (fun _ h => by cases h) (Nat.le_of_ble_eq_true rfl)
  unfold order_Check at h0
  refine Cx.rseq hX [] [0] (l' := [(0, SV.sl kT_api_Part k y_k.1 y_k.2)]) (B' := []) (by kernel_rfl) fun ρ w a hX => ?_
  refine wp_seq_k fun K2 hK2 => ?_
  refine wp_region_list ?_
  refine hX.part [] 1 [6] (l' := [(6, SV.sl kT_api_Part k y_k.1 y_k.2)]) (B' := []) (by kernel_rfl) fun ρ w a hX => ?_
  obtain ⟨v1, hv1, h0⟩ := bnd_some h0
  refine Cx.call0 hX (lit := []) (by kernel_rfl) rfl (by kernel_rfl) ⟨⟨_, Tryd.func16, by kernel_rfl, rfl⟩⟩ (ss := [SV.sl kT_api_Part k y_k.1 y_k.2]) (by kernel_rfl) [SV.sl kT_api_Part k y_k.1 y_k.2] rfl (fun hg => hg) (fun hv hle hg => order_Encode.ok k (y_k.1, y_k.2) v1 hv1 _ _ hv (hG.mono hle) hg _) (fun s F w a hp hX => ?_)
  obtain ⟨_, _, rfl, rfl, rfl⟩ := hp
  refine hX.part [] 5 [4] (l' := [(4, .v (.int .i64 v1.2))]) (B' := []) (by kernel_rfl) fun ρ w a hX => ?_
  refine wpList_end ?_
  refine hK2 _ _ ?_
  refine Cx.rseq hX [] [2] (l' := [(2, .v (.int .i64 v1.2))]) (B' := []) (by kernel_rfl) fun ρ w a hX => ?_
  refine wp_ret ?_
  have hr := Option.some.inj (show some _ = some _ from h0)
  subst hr
  exact hX.ret0 (ss := [.v (.int .i64 v1.2)]) (by kernel_rfl) (by kernel_rfl) rfl
def ref05_Check (k : List T_api_Part) : Option (Int) :=
  Option.bind (ref05_Encode k) fun v1 =>
  some v1.2
theorem ref05_Check.ok (k : List T_api_Part) (y_k : (Option Addr × Nat)) (r : Int) (h0 : ref05_Check k = some r) (w0 : World) (F0 : Heap) (hv : F0.Sub w0) (hG : Glob F0) (hg : SV.goods F0 [SV.sl kT_api_Part k y_k.1 y_k.2]) (ρ : Nat → Nat) :
    Calls Tryd.prog 23 (SV.dens ρ [SV.sl kT_api_Part k y_k.1 y_k.2]).toArray w0 (Ret0 w0 F0 fun s => s = .v (.int .i64 r)) := by
  refine calls_of_wp Tryd.func23 rfl ?_
  have hX := Cx.enter (D := No) (B := []) (L := []) (ρ := ρ) (N := 11) Tryd.ntmps23 [SV.sl kT_api_Part k y_k.1 y_k.2] (St.start hv) rfl hg (by kernel_rfl) (fun _ h => by cases h) (Nat.le_of_ble_eq_true rfl)
  unfold ref05_Check at h0
  refine Cx.rseq hX [] [0] (l' := [(0, SV.sl kT_api_Part k y_k.1 y_k.2)]) (B' := []) (by kernel_rfl) fun ρ w a hX => ?_
  refine wp_seq_k fun K2 hK2 => ?_
  refine wp_region_list ?_
  refine hX.part [] 1 [6] (l' := [(6, SV.sl kT_api_Part k y_k.1 y_k.2)]) (B' := []) (by kernel_rfl) fun ρ w a hX => ?_
  obtain ⟨v1, hv1, h0⟩ := bnd_some h0
  refine Cx.call0 hX (lit := []) (by kernel_rfl) rfl (by kernel_rfl) ⟨⟨_, Tryd.func20, by kernel_rfl, rfl⟩⟩ (ss := [SV.sl kT_api_Part k y_k.1 y_k.2]) (by kernel_rfl) [SV.sl kT_api_Part k y_k.1 y_k.2] rfl (fun hg => hg) (fun hv hle hg => ref05_Encode.ok k (y_k.1, y_k.2) v1 hv1 _ _ hv (hG.mono hle) hg _) (fun s F w a hp hX => ?_)
  obtain ⟨_, _, rfl, rfl, rfl⟩ := hp
  refine hX.part [] 5 [4] (l' := [(4, .v (.int .i64 v1.2))]) (B' := []) (by kernel_rfl) fun ρ w a hX => ?_
  refine wpList_end ?_
  refine hK2 _ _ ?_
  refine Cx.rseq hX [] [2] (l' := [(2, .v (.int .i64 v1.2))]) (B' := []) (by kernel_rfl) fun ρ w a hX => ?_
  refine wp_ret ?_
  have hr := Option.some.inj (show some _ = some _ from h0)
  subst hr
  exact hX.ret0 (ss := [.v (.int .i64 v1.2)]) (by kernel_rfl) (by kernel_rfl) rfl
def law05_OrderWrites.j1 (x12 : Bool) : Option (Bool) :=
  some x12
def law05_OrderWrites (k : List T_api_Part) : Option (Bool) :=
  Option.bind (room (([] : List T_api_Part).length + k.length)) fun u3 =>
  Option.bind (order_Encode (([] : List T_api_Part) ++ k)) fun v4 =>
  Option.bind (ref05_Encode k) fun v5 =>
  Option.bind (order_Behind (([] : List T_api_Part) ++ k)) fun v6 =>
  Option.bind (ref05_Behind k) fun v7 =>
  Option.bind (law05_live) fun v8 =>
  if ((((v8 && (v4.1 == v5.1)) && (v4.2 == v5.2)) && (v6.1 == v7.1)) && (v6.2 == v7.2)) = true then
    Option.bind (order_Check (([] : List T_api_Part) ++ k)) fun v9 =>
    Option.bind (ref05_Check k) fun v10 =>
    if (v9 == v10) = true then
      Option.bind (ref05_Same (([] : List T_api_Part) ++ k) k) fun v11 =>
      law05_OrderWrites.j1 v11
    else
      law05_OrderWrites.j1 false
  else
    law05_OrderWrites.j1 false
theorem law05_OrderWrites.ok (k : List T_api_Part) (y_k : (Option Addr × Nat)) (r : Bool) (h0 : law05_OrderWrites k = some r) (w0 : World) (F0 : Heap) (hv : F0.Sub w0) (hG : Glob F0) (hg : SV.goods F0 [SV.sl kT_api_Part k y_k.1 y_k.2]) (ρ : Nat → Nat) :
    Calls Tryd.prog 9 (SV.dens ρ [SV.sl kT_api_Part k y_k.1 y_k.2]).toArray w0 (Ret0 w0 F0 fun s => s = .v (.bool r)) := by
  refine calls_of_wp Tryd.func9 rfl ?_
  have hX := Cx.enter (D := No) (B := []) (L := []) (ρ := ρ) (N := 67) Tryd.ntmps9 [SV.sl kT_api_Part k y_k.1 y_k.2] (St.start hv) rfl hg (by kernel_rfl) (fun _ h => by cases h) (Nat.le_of_ble_eq_true rfl)
  unfold law05_OrderWrites at h0
  refine Cx.rseq hX [] [0] (l' := [(0, SV.sl kT_api_Part k y_k.1 y_k.2)]) (B' := []) (by kernel_rfl) fun ρ w a hX => ?_
  refine wp_seq_k fun K2 hK2 => ?_
  refine wp_region_list ?_
  refine hX.part [] 1 [0, 12] (l' := [(0, SV.sl kT_api_Part k y_k.1 y_k.2), (12, SV.sl kT_api_Part k y_k.1 y_k.2)]) (B' := []) (by kernel_rfl) fun ρ w a hX => ?_
  obtain ⟨u3, hu3, h0⟩ := bnd_some h0
  have hX := hX.newAcc 40 kT_api_Part
  refine hX.appSl (d := kT_api_Part) (bytes := 32) (A2 := y_k.1) (c2 := y_k.2) (ys := k) (lit := []) (i := 0) (e := 40) (xs := ([] : List T_api_Part)) (A := none) (c := 0) (by kernel_rfl) (by kernel_rfl) rfl rfl (by kernel_rfl) (by kernel_rfl) (by kernel_rfl) (by kernel_rfl) (by decide) hu3 fun A1 c2 w a hX => ?_
  have hX : Cx 67 _ _ _ _ _ [accP 40 kT_api_Part A1 c2 (([] : List T_api_Part) ++ k)] [] ρ _ a := hX
  refine hX.part [] 1 [0, 3] (l' := [(0, SV.sl kT_api_Part k y_k.1 y_k.2), (3, .v (.slice A1 (([] : List T_api_Part) ++ k).length c2))]) (B' := []) (by kernel_rfl) fun ρ w a hX => ?_
  refine wpList_end ?_
  refine hK2 _ _ ?_
  refine wp_seq_k fun K3 hK3 => ?_
  refine wp_region_list ?_
  refine hX.part [] 1 [0, 3, 15] (l' := [(0, SV.sl kT_api_Part k y_k.1 y_k.2), (3, .v (.slice A1 (([] : List T_api_Part) ++ k).length c2)), (15, .v (.slice A1 (([] : List T_api_Part) ++ k).length c2))]) (B' := []) (by kernel_rfl) fun ρ w a hX => ?_
  obtain ⟨v4, hv4, h0⟩ := bnd_some h0
  obtain ⟨F, hX⟩ := hX.freeze (i := 0) (t := 15) (e := 40) (d := kT_api_Part) (A := A1) (c := c2) (xs := (([] : List T_api_Part) ++ k)) rfl (by kernel_rfl)
  have hX : Cx 67 _ _ _ _ _ [] [] ρ _ a := hX
  have hX := hX.alsoSl (d := kT_api_Part) (xs := (([] : List T_api_Part) ++ k)) (A := A1) (c := c2) 15 3 (by kernel_rfl) (by kernel_rfl)
  refine Cx.call0 hX (lit := []) (by kernel_rfl) rfl (by kernel_rfl) ⟨⟨_, Tryd.func16, by kernel_rfl, rfl⟩⟩ (ss := [SV.sl kT_api_Part (([] : List T_api_Part) ++ k) A1 c2]) (by kernel_rfl) [SV.sl kT_api_Part (([] : List T_api_Part) ++ k) A1 c2] rfl (fun hg => hg) (fun hv hle hg => order_Encode.ok (([] : List T_api_Part) ++ k) (A1, c2) v4 hv4 _ _ hv (hG.mono hle) hg _) (fun s F w a hp hX => ?_)
  obtain ⟨_, _, rfl, rfl, rfl⟩ := hp
  refine hX.part [] 5 [0, 3, 4, 5] (l' := [(0, SV.sl kT_api_Part k y_k.1 y_k.2), (3, SV.sl kT_api_Part (([] : List T_api_Part) ++ k) A1 c2), (4, .v (.string ⟨⟨v4.1⟩⟩)), (5, .v (.int .i64 v4.2))]) (B' := []) (by kernel_rfl) fun ρ w a hX => ?_
  refine wpList_end ?_
  refine hK3 _ _ ?_
  refine wp_seq_k fun K4 hK4 => ?_
  refine wp_region_list ?_
  refine hX.part [] 1 [0, 3, 4, 5, 20] (l' := [(0, SV.sl kT_api_Part k y_k.1 y_k.2), (3, SV.sl kT_api_Part (([] : List T_api_Part) ++ k) A1 c2), (4, .v (.string ⟨⟨v4.1⟩⟩)), (5, .v (.int .i64 v4.2)), (20, SV.sl kT_api_Part k y_k.1 y_k.2)]) (B' := []) (by kernel_rfl) fun ρ w a hX => ?_
  obtain ⟨v5, hv5, h0⟩ := bnd_some h0
  refine Cx.call0 hX (lit := []) (by kernel_rfl) rfl (by kernel_rfl) ⟨⟨_, Tryd.func20, by kernel_rfl, rfl⟩⟩ (ss := [SV.sl kT_api_Part k y_k.1 y_k.2]) (by kernel_rfl) [SV.sl kT_api_Part k y_k.1 y_k.2] rfl (fun hg => hg) (fun hv hle hg => ref05_Encode.ok k (y_k.1, y_k.2) v5 hv5 _ _ hv (hG.mono hle) hg _) (fun s F w a hp hX => ?_)
  obtain ⟨_, _, rfl, rfl, rfl⟩ := hp
  refine hX.part [] 5 [0, 3, 4, 5, 6, 7] (l' := [(0, SV.sl kT_api_Part k y_k.1 y_k.2), (3, SV.sl kT_api_Part (([] : List T_api_Part) ++ k) A1 c2), (4, .v (.string ⟨⟨v4.1⟩⟩)), (5, .v (.int .i64 v4.2)), (6, .v (.string ⟨⟨v5.1⟩⟩)), (7, .v (.int .i64 v5.2))]) (B' := []) (by kernel_rfl) fun ρ w a hX => ?_
  refine wpList_end ?_
  refine hK4 _ _ ?_
  refine wp_seq_k fun K5 hK5 => ?_
  refine wp_region_list ?_
  refine hX.part [] 1 [0, 3, 4, 5, 6, 7, 25] (l' := [(0, SV.sl kT_api_Part k y_k.1 y_k.2), (3, SV.sl kT_api_Part (([] : List T_api_Part) ++ k) A1 c2), (4, .v (.string ⟨⟨v4.1⟩⟩)), (5, .v (.int .i64 v4.2)), (6, .v (.string ⟨⟨v5.1⟩⟩)), (7, .v (.int .i64 v5.2)), (25, SV.sl kT_api_Part (([] : List T_api_Part) ++ k) A1 c2)]) (B' := []) (by kernel_rfl) fun ρ w a hX => ?_
  obtain ⟨v6, hv6, h0⟩ := bnd_some h0
  refine Cx.call0 hX (lit := []) (by kernel_rfl) rfl (by kernel_rfl) ⟨⟨_, Tryd.func18, by kernel_rfl, rfl⟩⟩ (ss := [SV.sl kT_api_Part (([] : List T_api_Part) ++ k) A1 c2]) (by kernel_rfl) [SV.sl kT_api_Part (([] : List T_api_Part) ++ k) A1 c2] rfl (fun hg => hg) (fun hv hle hg => order_Behind.ok (([] : List T_api_Part) ++ k) (A1, c2) v6 hv6 _ _ hv (hG.mono hle) hg _) (fun s F w a hp hX => ?_)
  obtain ⟨_, _, rfl, rfl, rfl⟩ := hp
  refine hX.part [] 5 [0, 3, 4, 5, 6, 7, 8, 9] (l' := [(0, SV.sl kT_api_Part k y_k.1 y_k.2), (3, SV.sl kT_api_Part (([] : List T_api_Part) ++ k) A1 c2), (4, .v (.string ⟨⟨v4.1⟩⟩)), (5, .v (.int .i64 v4.2)), (6, .v (.string ⟨⟨v5.1⟩⟩)), (7, .v (.int .i64 v5.2)), (8, .v (.string ⟨⟨v6.1⟩⟩)), (9, .v (.int .i64 v6.2))]) (B' := []) (by kernel_rfl) fun ρ w a hX => ?_
  refine wpList_end ?_
  refine hK5 _ _ ?_
  refine wp_seq_k fun K6 hK6 => ?_
  refine wp_region_list ?_
  refine hX.part [] 1 [0, 3, 4, 5, 6, 7, 8, 9, 30] (l' := [(0, SV.sl kT_api_Part k y_k.1 y_k.2), (3, SV.sl kT_api_Part (([] : List T_api_Part) ++ k) A1 c2), (4, .v (.string ⟨⟨v4.1⟩⟩)), (5, .v (.int .i64 v4.2)), (6, .v (.string ⟨⟨v5.1⟩⟩)), (7, .v (.int .i64 v5.2)), (8, .v (.string ⟨⟨v6.1⟩⟩)), (9, .v (.int .i64 v6.2)), (30, SV.sl kT_api_Part k y_k.1 y_k.2)]) (B' := []) (by kernel_rfl) fun ρ w a hX => ?_
  obtain ⟨v7, hv7, h0⟩ := bnd_some h0
  refine Cx.call0 hX (lit := []) (by kernel_rfl) rfl (by kernel_rfl) ⟨⟨_, Tryd.func21, by kernel_rfl, rfl⟩⟩ (ss := [SV.sl kT_api_Part k y_k.1 y_k.2]) (by kernel_rfl) [SV.sl kT_api_Part k y_k.1 y_k.2] rfl (fun hg => hg) (fun hv hle hg => ref05_Behind.ok k (y_k.1, y_k.2) v7 hv7 _ _ hv (hG.mono hle) hg _) (fun s F w a hp hX => ?_)
  obtain ⟨_, _, rfl, rfl, rfl⟩ := hp
  refine hX.part [] 5 [0, 3, 4, 5, 6, 7, 8, 9, 10, 11] (l' := [(0, SV.sl kT_api_Part k y_k.1 y_k.2), (3, SV.sl kT_api_Part (([] : List T_api_Part) ++ k) A1 c2), (4, .v (.string ⟨⟨v4.1⟩⟩)), (5, .v (.int .i64 v4.2)), (6, .v (.string ⟨⟨v5.1⟩⟩)), (7, .v (.int .i64 v5.2)), (8, .v (.string ⟨⟨v6.1⟩⟩)), (9, .v (.int .i64 v6.2)), (10, .v (.string ⟨⟨v7.1⟩⟩)), (11, .v (.int .i64 v7.2))]) (B' := []) (by kernel_rfl) fun ρ w a hX => ?_
  refine wpList_end ?_
  refine hK6 _ _ ?_
  refine wp_seq_k fun K7 hK7 => ?_
  have J7 : ∀ (x12 : Bool), law05_OrderWrites.j1 x12 = some r → ∀ (ρ : Nat → Nat) (w : World) (F : Heap) (a : Act), Cx 67 w0 F0 No w F [] [] ρ [(2, .v (.bool x12))] a → K7 a w := by
    intro x12 h0  ρ w F a hX
    unfold law05_OrderWrites.j1 at h0
    refine hK7 _ _ ?_
    refine wp_ret ?_
    have hr := Option.some.inj (show some _ = some _ from h0)
    subst hr
    exact hX.ret0 (ss := [.v (.bool x12)]) (by kernel_rfl) (by kernel_rfl) rfl
  refine wp_region_list ?_
  refine hX.part [] 0 [0, 3, 4, 5, 6, 7, 8, 9, 10, 11] (l' := [(0, SV.sl kT_api_Part k y_k.1 y_k.2), (3, SV.sl kT_api_Part (([] : List T_api_Part) ++ k) A1 c2), (4, .v (.string ⟨⟨v4.1⟩⟩)), (5, .v (.int .i64 v4.2)), (6, .v (.string ⟨⟨v5.1⟩⟩)), (7, .v (.int .i64 v5.2)), (8, .v (.string ⟨⟨v6.1⟩⟩)), (9, .v (.int .i64 v6.2)), (10, .v (.string ⟨⟨v7.1⟩⟩)), (11, .v (.int .i64 v7.2))]) (B' := []) (by kernel_rfl) fun ρ w a hX => ?_
  obtain ⟨v8, hv8, h0⟩ := bnd_some h0
  refine Cx.call0 hX (lit := []) (by kernel_rfl) rfl (by kernel_rfl) ⟨⟨_, Tryd.func12, by kernel_rfl, rfl⟩⟩ (ss := []) (by kernel_rfl) [] rfl (fun hg => hg) (fun hv hle hg => law05_live.ok v8 hv8 _ _ hv (hG.mono hle) hg _) (fun s F w a hp hX => ?_)
  subst hp
  refine hX.part [] 21 [0, 3, 55] (l' := [(0, SV.sl kT_api_Part k y_k.1 y_k.2), (3, SV.sl kT_api_Part (([] : List T_api_Part) ++ k) A1 c2), (55, .v (.bool ((((v8 && (v4.1 == v5.1)) && (v4.2 == v5.2)) && (v6.1 == v7.1)) && (v6.2 == v7.2))))]) (B' := []) (by kernel_rfl) fun ρ w a hX => ?_
  refine ite_go h0 (fun hb h0 => ?_) (fun hb h0 => ?_)
  · have hX := hX.relit 55 hb (by kernel_rfl)
    refine hX.part [21] 1 [0, 3, 55, 56] (l' := [(0, SV.sl kT_api_Part k y_k.1 y_k.2), (3, SV.sl kT_api_Part (([] : List T_api_Part) ++ k) A1 c2), (55, .v (.bool true)), (56, SV.sl kT_api_Part (([] : List T_api_Part) ++ k) A1 c2)]) (B' := []) (by kernel_rfl) fun ρ w a hX => ?_
    obtain ⟨v9, hv9, h0⟩ := bnd_some h0
    refine Cx.call0 hX (lit := [21]) (by kernel_rfl) rfl (by kernel_rfl) ⟨⟨_, Tryd.func22, by kernel_rfl, rfl⟩⟩ (ss := [SV.sl kT_api_Part (([] : List T_api_Part) ++ k) A1 c2]) (by kernel_rfl) [SV.sl kT_api_Part (([] : List T_api_Part) ++ k) A1 c2] rfl (fun hg => hg) (fun hv hle hg => order_Check.ok (([] : List T_api_Part) ++ k) (A1, c2) v9 hv9 _ _ hv (hG.mono hle) hg _) (fun s F w a hp hX => ?_)
    subst hp
    refine hX.part [21] 1 [0, 3, 55, 57, 58] (l' := [(0, SV.sl kT_api_Part k y_k.1 y_k.2), (3, SV.sl kT_api_Part (([] : List T_api_Part) ++ k) A1 c2), (55, .v (.bool true)), (57, .v (.int .i64 v9)), (58, SV.sl kT_api_Part k y_k.1 y_k.2)]) (B' := []) (by kernel_rfl) fun ρ w a hX => ?_
    obtain ⟨v10, hv10, h0⟩ := bnd_some h0
    refine Cx.call0 hX (lit := [21]) (by kernel_rfl) rfl (by kernel_rfl) ⟨⟨_, Tryd.func23, by kernel_rfl, rfl⟩⟩ (ss := [SV.sl kT_api_Part k y_k.1 y_k.2]) (by kernel_rfl) [SV.sl kT_api_Part k y_k.1 y_k.2] rfl (fun hg => hg) (fun hv hle hg => ref05_Check.ok k (y_k.1, y_k.2) v10 hv10 _ _ hv (hG.mono hle) hg _) (fun s F w a hp hX => ?_)
    subst hp
    refine hX.part [21] 3 [0, 3, 62] (l' := [(0, SV.sl kT_api_Part k y_k.1 y_k.2), (3, SV.sl kT_api_Part (([] : List T_api_Part) ++ k) A1 c2), (62, .v (.bool (v9 == v10)))]) (B' := []) (by kernel_rfl) fun ρ w a hX => ?_
    refine ite_go h0 (fun hb h0 => ?_) (fun hb h0 => ?_)
    · have hX := hX.relit 62 hb (by kernel_rfl)
      refine hX.part [28] 2 [62, 63, 64] (l' := [(62, .v (.bool true)), (63, SV.sl kT_api_Part (([] : List T_api_Part) ++ k) A1 c2), (64, SV.sl kT_api_Part k y_k.1 y_k.2)]) (B' := []) (by kernel_rfl) fun ρ w a hX => ?_
      obtain ⟨v11, hv11, h0⟩ := bnd_some h0
      refine Cx.call0 hX (lit := [28]) (by kernel_rfl) rfl (by kernel_rfl) ⟨⟨_, Tryd.func13, by kernel_rfl, rfl⟩⟩ (ss := [SV.sl kT_api_Part (([] : List T_api_Part) ++ k) A1 c2, SV.sl kT_api_Part k y_k.1 y_k.2]) (by kernel_rfl) [SV.sl kT_api_Part (([] : List T_api_Part) ++ k) A1 c2, SV.sl kT_api_Part k y_k.1 y_k.2] rfl (fun hg => hg) (fun hv hle hg => ref05_Same.ok (([] : List T_api_Part) ++ k) k (A1, c2) (y_k.1, y_k.2) v11 hv11 _ _ hv (hG.mono hle) hg _) (fun s F w a hp hX => ?_)
      subst hp
      refine hX.part [] 2 [2] (l' := [(2, .v (.bool v11))]) (B' := []) (by kernel_rfl) fun ρ w a hX => ?_
      refine wpList_end ?_
      have hX := hX.keeps [2] (l' := [(2, .v (.bool v11))]) (by kernel_rfl)
      exact J7 v11 h0  _ _ _ _ hX
    · have hX := hX.relit 62 hb (by kernel_rfl)
      refine hX.part [28] 5 [2] (l' := [(2, .v (.bool false))]) (B' := []) (by kernel_rfl) fun ρ w a hX => ?_
      refine wpList_end ?_
      have hX := hX.keeps [2] (l' := [(2, .v (.bool false))]) (by kernel_rfl)
      exact J7 false h0  _ _ _ _ hX
  · have hX := hX.relit 55 hb (by kernel_rfl)
    refine hX.part [21, 28] 12 [2] (l' := [(2, .v (.bool false))]) (B' := []) (by kernel_rfl) fun ρ w a hX => ?_
    refine wpList_end ?_
    have hX := hX.keeps [2] (l' := [(2, .v (.bool false))]) (by kernel_rfl)
    exact J7 false h0  _ _ _ _ hX
end
end Go.Gw
