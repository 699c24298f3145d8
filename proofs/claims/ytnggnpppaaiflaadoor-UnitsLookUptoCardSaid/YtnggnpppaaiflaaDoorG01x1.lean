/- Texts for the statements of this seat. -/
import Derived.Test.YtnggnpppaaiflaaDoorG01x0
import Derived.Test.YtnggnpppaaiflaaDoorGwQ
import Derived.Test.YtnggnpppaaiflaaDoorShelf01
import Derived.Shelf.Strings.SlTrimAscii
import Derived.Test.YtnggnpppaaiflaaDoorProg
import Derived.KernelRfl
set_option linter.unusedVariables false
set_option linter.unusedSimpArgs false
set_option linter.unnecessarySimpa false
namespace Go.Gw
open Go.Proofs Go.RowKit
set_option maxRecDepth 100000
set_option linter.unusedVariables false
set_option linter.unusedSimpArgs false
noncomputable section
def strconv_ParseUint_c16_c16 (s_ : Str) : Option (Int × Unit) :=
  Option.bind (internal_strconv_ParseUint_c16_c16 s_) fun v1 =>
  some (v1.1, ())
theorem strconv_ParseUint_c16_c16.ok (s_ : Str) (r : Int × Unit) (h0 : strconv_ParseUint_c16_c16 s_ = some r) (w0 : World) (F0 : Heap) (hv : F0.Sub w0) (hG : Glob F0) (hg : SV.goods F0 [.v (.string ⟨⟨s_⟩⟩), .v (.int .i64 16), .v (.int .i64 16)]) (ρ : Nat → Nat) :
    Calls Tryd.prog 55 (SV.dens ρ [.v (.string ⟨⟨s_⟩⟩), .v (.int .i64 16), .v (.int .i64 16)]).toArray w0 (Ret0 w0 F0 fun s => ∃ s1 s2, s = .tup [s1, s2] ∧ (s1 = .v (.int .u64 r.1)) ∧ (s2 = .v .nilIface)) := by
  refine calls_of_wp Tryd.func55 rfl ?_
  have hX := Cx.enter (D := No) (B := []) (L := []) (ρ := ρ) (N := 26) Tryd.ntmps55 [.v (.string ⟨⟨s_⟩⟩), .v (.int .i64 16), .v (.int .i64 16)] (St.start hv) rfl hg (by kernel_rfl) (fun _ h => by cases h) (Nat.le_of_ble_eq_true rfl) No.unfix
  unfold strconv_ParseUint_c16_c16 at h0
  refine Cx.rseq hX [] [0, 1, 2] (l' := [(0, .v (.string ⟨⟨s_⟩⟩)), (1, .v (.int .i64 16)), (2, .v (.int .i64 16))]) (B' := []) (by kernel_rfl) fun ρ w a hX => ?_
  refine wp_seq_k fun K2 hK2 => ?_
  refine wp_region_list ?_
  refine hX.part [] 3 [0, 1, 2, 11, 12, 13] (l' := [(0, .v (.string ⟨⟨s_⟩⟩)), (1, .v (.int .i64 16)), (2, .v (.int .i64 16)), (11, .v (.string ⟨⟨s_⟩⟩)), (12, .v (.int .i64 16)), (13, .v (.int .i64 16))]) (B' := []) (by kernel_rfl) fun ρ w a hX => ?_
  obtain ⟨v1, hv1, h0⟩ := bnd_some h0
  refine Cx.call0 hX (lit := []) (by kernel_rfl) rfl (by kernel_rfl) ⟨⟨_, Tryd.func73, by kernel_rfl, rfl⟩⟩ (ss := [.v (.string ⟨⟨s_⟩⟩), .v (.int .i64 16), .v (.int .i64 16)]) (by kernel_rfl) [.v (.string ⟨⟨s_⟩⟩), .v (.int .i64 16), .v (.int .i64 16)] rfl (fun hg => hg) (fun hv hle hg => internal_strconv_ParseUint_c16_c16.ok s_ v1 hv1 _ _ hv (hG.mono hle) hg _) (fun s F w a hp hX => ?_)
  obtain ⟨_, _, rfl, rfl, rfl⟩ := hp
  refine hX.part [] 5 [0, 1, 2, 8, 9] (l' := [(0, .v (.string ⟨⟨s_⟩⟩)), (1, .v (.int .i64 16)), (2, .v (.int .i64 16)), (8, .v (.int .u64 v1.1)), (9, .v .nilIface)]) (B' := []) (by kernel_rfl) fun ρ w a hX => ?_
  refine wpList_end ?_
  refine hK2 _ _ ?_
  refine wp_seq_k fun K3 hK3 => ?_
  refine wp_seq_k fun K4 hK4 => ?_
  refine wp_region_list ?_
  refine hX.part [] 1 [0, 1, 2, 8, 9, 17] (l' := [(0, .v (.string ⟨⟨s_⟩⟩)), (1, .v (.int .i64 16)), (2, .v (.int .i64 16)), (8, .v (.int .u64 v1.1)), (9, .v .nilIface), (17, .v .nilIface)]) (B' := []) (by kernel_rfl) fun ρ w a hX => ?_
  refine hX.ifaceNil (lit := []) (by kernel_rfl) (by kernel_rfl) rfl (op := .neq) (b := false) (by decide) (by kernel_rfl) (by kernel_rfl) rfl fun a hX => ?_
  refine hX.part [] 0 [0, 1, 2, 8, 9, 18] (l' := [(0, .v (.string ⟨⟨s_⟩⟩)), (1, .v (.int .i64 16)), (2, .v (.int .i64 16)), (8, .v (.int .u64 v1.1)), (9, .v .nilIface), (18, .v (.bool false))]) (B' := []) (by kernel_rfl) fun ρ w a hX => ?_
  refine wpList_end ?_
  refine hK4 _ _ ?_
  refine Cx.cond hX (b := false) (by kernel_rfl) (fun h => by cases h) (fun _ => ?_)
  refine wp_skip ?_
  refine hK3 _ _ ?_
  refine Cx.rseq hX [] [6, 7] (l' := [(6, .v (.int .u64 v1.1)), (7, .v .nilIface)]) (B' := []) (by kernel_rfl) fun ρ w a hX => ?_
  refine wp_ret ?_
  have hr := Option.some.inj (show some _ = some _ from h0)
  subst hr
  exact hX.ret0 (ss := [.v (.int .u64 v1.1), .v .nilIface]) (by kernel_rfl) (by kernel_rfl) ⟨_, _, rfl, rfl, rfl⟩
def units_reader_digits.j1 (r_ : T_units_reader) (many : Int) (x6 : Bool) : Option (Bool × T_units_reader) :=
  if x6 = true then
    some (false, r_)
  else
    Option.bind (cutL r_.s 0 many) fun v7 =>
    Option.bind (strconv_ParseUint_c16_c16 v7) fun v8 =>
    Option.bind (cutL r_.s many ((r_.s.length : Nat) : Int)) fun v9 =>
    Option.bind (units_unit (IntKind.wrap .i64 v8.1)) fun v10 =>
    Option.bind (strings_Builder_WriteString_at_units_reader_1 ({ s := v9, out := r_.out } : T_units_reader) v10) fun v11 =>
    some (true, v11.2.2)
def units_reader_digits (r_ : T_units_reader) (many : Int) : Option (Bool × T_units_reader) :=
  if (decide (((r_.s.length : Nat) : Int) < many)) = true then
    units_reader_digits.j1 r_ many true
  else
    Option.bind (cutL r_.s 0 many) fun v4 =>
    Option.bind (strings_Trim v4 ([48, 49, 50, 51, 52, 53, 54, 55, 56, 57, 97, 98, 99, 100, 101, 102, 65, 66, 67, 68, 69, 70] : Str)) fun v5 =>
    units_reader_digits.j1 r_ many (!(v5 == ([] : Str)))
theorem units_reader_digits.ok (r_ : T_units_reader) (many : Int) (r : Bool × T_units_reader) (h0 : units_reader_digits r_ many = some r) (w0 : World) (F0 : Heap) (hv : F0.Sub w0) (hG : Glob F0) (hg : SV.goods F0 [.ptr 0 0, .v (.int .i64 many)]) (ρ : Nat → Nat) (D : Own) (hD : D.known = [ρ 0]) (hst : St w0 F0 D w0 F0 [own_units_reader r_ (ρ 0)]) :
    Calls Tryd.prog 44 (SV.dens ρ [.ptr 0 0, .v (.int .i64 many)]).toArray w0 (RetH w0 F0 D fun s M => (s = .v (.bool r.1)) ∧ M = [own_units_reader r.2 (ρ 0)]) := by
  refine calls_of_wp Tryd.func44 rfl ?_
  have hX := Cx.enter (D := D) (B := nones 1) (L := [own_units_reader r_ (ρ 0)]) (ρ := ρ) (N := 50) Tryd.ntmps44 [.ptr 0 0, .v (.int .i64 many)] (hst.emps ρ 1) rfl hg (by kernel_rfl) (fun _ h => (nones_mem h).elim) (Nat.le_of_ble_eq_true rfl) (fix1 hD)
  unfold units_reader_digits at h0
  have hX : Cx 50 _ _ _ _ _ [own_units_reader r_ (ρ 0)] [none] ρ _ _ := hX
  obtain ⟨⟨q1, A2, c3⟩, hX⟩ := Cx.unpackP (k := 0) (Y := (Bool × Option Addr × Nat)) (ty := 52) hX (fun (y : (Bool × Option Addr × Nat)) => [.v (.string ⟨⟨r_.s⟩⟩), .opt y.1 0 1, .v (.slice y.2.1 r_.out.length y.2.2)]) rfl (fun y => rfl) (fun y F h => h) (fun y => rfl)
  have hX : Cx 50 _ _ _ _ _ [accP 5 kByte A2 c3 r_.out] [some ⟨52, [.v (.string ⟨⟨r_.s⟩⟩), .opt q1 0 1, .v (.slice A2 r_.out.length c3)]⟩] ρ _ _ := hX
  refine Cx.rseq hX [] [0, 1] (l' := [(0, .ptr 0 0), (1, .v (.int .i64 many))]) (B' := [some ⟨52, [.v (.string ⟨⟨r_.s⟩⟩), .opt q1 0 1, .v (.slice A2 r_.out.length c3)]⟩]) (by kernel_rfl) fun ρ w a hX => ?_
  refine wp_seq_k fun K2 hK2 => ?_
  refine wp_seq_k fun K3 hK3 => ?_
  have J3 : ∀ (x6 : Bool), units_reader_digits.j1 r_ many x6 = some r → ∀ (ρ : Nat → Nat) (w : World) (F : Heap) (a : Act), Cx 50 w0 F0 D w F [accP 5 kByte A2 c3 r_.out] [some ⟨52, [.v (.string ⟨⟨r_.s⟩⟩), .opt q1 0 1, .v (.slice A2 r_.out.length c3)]⟩] ρ [(0, .ptr 0 0), (1, .v (.int .i64 many)), (23, .v (.bool x6))] a → K3 a w := by
    intro x6 h0  ρ w F a hX
    unfold units_reader_digits.j1 at h0
    refine hK3 _ _ ?_
    refine Cx.cond hX (b := x6) (by kernel_rfl) (fun hb => ?_) (fun hb => ?_)
    · have h0 := ite_tt h0 hb
      refine Cx.rseq hX [] [4] (l' := [(4, .v (.bool false))]) (B' := [some ⟨52, [.v (.string ⟨⟨r_.s⟩⟩), .opt q1 0 1, .v (.slice A2 r_.out.length c3)]⟩]) (by kernel_rfl) fun ρ w a hX => ?_
      refine wp_ret ?_
      have hX : Cx 50 _ _ _ _ _ [accP 5 kByte A2 c3 r_.out] [some ⟨52, [.v (.string ⟨⟨r_.s⟩⟩), .opt q1 0 1, .v (.slice A2 r_.out.length c3)]⟩] ρ _ _ := hX
      have hX : Cx 50 _ _ _ _ _ [own_units_reader r_ (ρ 0)] [none] ρ _ _ := Cx.packP (Y := (Bool × Option Addr × Nat)) hX 0 ((q1, A2, c3) : (Bool × Option Addr × Nat)) rfl rfl rfl rfl (fun h => h)
      have hX : Cx 50 _ _ _ _ _ [own_units_reader r_ (ρ 0)] [none] ρ _ _ := hX
      have hr := Option.some.inj (show some _ = some _ from h0)
      subst hr
      exact hX.retH (M := [own_units_reader r_ (ρ 0)]) (ss := [.v (.bool false)]) (by kernel_rfl) (by kernel_rfl) ⟨rfl, by rw [(hX.fix 0 _ (by rw [hD]; rfl)).2]⟩
    · have h0 := ite_ff h0 hb
      refine wp_skip ?_
      refine hK2 _ _ ?_
      refine wp_seq_k fun K5 hK5 => ?_
      refine wp_region_list ?_
      refine hX.part [] 5 [0, 1, 28, 29] (l' := [(0, .ptr 0 0), (1, .v (.int .i64 many)), (28, .v (.string ⟨⟨r_.s⟩⟩)), (29, .v (.int .i64 many))]) (B' := [some ⟨52, [.v (.string ⟨⟨r_.s⟩⟩), .opt q1 0 1, .v (.slice A2 r_.out.length c3)]⟩]) (by kernel_rfl) fun ρ w a hX => ?_
      obtain ⟨v7, hv7, h0⟩ := bnd_some h0
      refine hX.cutStr (lit := []) (by kernel_rfl) (by kernel_rfl) rfl (s := r_.s) (ol := none) (oh := some many) (r := v7) (by kernel_rfl) (by kernel_rfl) (by kernel_rfl) (by kernel_rfl) hv7 fun a hX => ?_
      refine hX.part [] 0 [0, 1, 30] (l' := [(0, .ptr 0 0), (1, .v (.int .i64 many)), (30, .v (.string ⟨⟨v7⟩⟩))]) (B' := [some ⟨52, [.v (.string ⟨⟨r_.s⟩⟩), .opt q1 0 1, .v (.slice A2 r_.out.length c3)]⟩]) (by kernel_rfl) fun ρ w a hX => ?_
      obtain ⟨v8, hv8, h0⟩ := bnd_some h0
      refine Cx.call0 hX (lit := []) (by kernel_rfl) rfl (by kernel_rfl) ⟨⟨_, Tryd.func55, by kernel_rfl, rfl⟩⟩ (ss := [.v (.string ⟨⟨v7⟩⟩), .v (.int .i64 16), .v (.int .i64 16)]) (by kernel_rfl) [.v (.string ⟨⟨v7⟩⟩), .v (.int .i64 16), .v (.int .i64 16)] rfl (fun hg => hg) (fun hv hle hg => strconv_ParseUint_c16_c16.ok v7 v8 hv8 _ _ hv (hG.mono hle) hg _) (fun s F w a hp hX => ?_)
      obtain ⟨_, _, rfl, rfl, rfl⟩ := hp
      refine hX.part [] 5 [0, 1, 5] (l' := [(0, .ptr 0 0), (1, .v (.int .i64 many)), (5, .v (.int .u64 v8.1))]) (B' := [some ⟨52, [.v (.string ⟨⟨r_.s⟩⟩), .opt q1 0 1, .v (.slice A2 r_.out.length c3)]⟩]) (by kernel_rfl) fun ρ w a hX => ?_
      refine wpList_end ?_
      refine hK5 _ _ ?_
      refine wp_seq_k fun K6 hK6 => ?_
      refine wp_region_list ?_
      refine hX.part [] 6 [0, 5, 34, 38, 39] (l' := [(0, .ptr 0 0), (5, .v (.int .u64 v8.1)), (34, .ptr 0 0), (38, .v (.string ⟨⟨r_.s⟩⟩)), (39, .v (.int .i64 many))]) (B' := [some ⟨52, [.v (.string ⟨⟨r_.s⟩⟩), .opt q1 0 1, .v (.slice A2 r_.out.length c3)]⟩]) (by kernel_rfl) fun ρ w a hX => ?_
      obtain ⟨v9, hv9, h0⟩ := bnd_some h0
      refine hX.cutStr (lit := []) (by kernel_rfl) (by kernel_rfl) rfl (s := r_.s) (ol := some many) (oh := none) (r := v9) (by kernel_rfl) (by kernel_rfl) (by kernel_rfl) (by kernel_rfl) hv9 fun a hX => ?_
      refine hX.part [] 3 [0, 5] (l' := [(0, .ptr 0 0), (5, .v (.int .u64 v8.1))]) (B' := [some ⟨52, [.v (.string ⟨⟨v9⟩⟩), .opt q1 0 1, .v (.slice A2 r_.out.length c3)]⟩]) (by kernel_rfl) fun ρ w a hX => ?_
      refine wpList_end ?_
      refine hK6 _ _ ?_
      refine wp_seq_k fun K7 hK7 => ?_
      have hGd := hG.mono hX.st.le
      refine hX.draw rfl (n := 7) rfl #[false, false, false, false, false, false, false] (by kernel_rfl) fun w D' hDk back hX => ?_
      refine hX.dq 0 rfl rfl (listed' := #[true, false, false, false, false, false, false]) (by kernel_rfl) (by kernel_rfl) (s := .ptr 0 0) (by kernel_rfl) fun a hX => ?_
      refine hX.dq 1 rfl rfl (listed' := #[true, true, false, false, false, false, false]) (by kernel_rfl) (by kernel_rfl) (s := .ptr 0 0) (by kernel_rfl) fun a hX => ?_
      refine hX.dq 2 rfl rfl (listed' := #[true, true, true, false, false, false, false]) (by kernel_rfl) (by kernel_rfl) (s := .ptr 0 1) (by kernel_rfl) fun a hX => ?_
      refine hX.dq 3 rfl rfl (listed' := #[true, true, true, true, false, false, false]) (by kernel_rfl) (by kernel_rfl) (s := .v (.int .u64 v8.1)) (by kernel_rfl) fun a hX => ?_
      refine hX.dq 4 rfl rfl (listed' := #[true, true, true, true, true, false, false]) (by kernel_rfl) (by kernel_rfl) (s := .v (.int .i64 (IntKind.wrap .i64 v8.1))) (by kernel_rfl) fun a hX => ?_
      refine dseq (listed' := #[true, true, true, true, true, true, false]) 5 (by kernel_rfl) rfl (by kernel_rfl) ?_
      obtain ⟨v10, hv10, h0⟩ := bnd_some h0
      refine Cx.call0 hX (lit := []) (by kernel_rfl) rfl (by kernel_rfl) ⟨⟨_, Tryd.func38, by kernel_rfl, rfl⟩⟩ (ss := [.v (.int .i64 (IntKind.wrap .i64 v8.1))]) (by kernel_rfl) [.v (.int .i64 (IntKind.wrap .i64 v8.1))] rfl (fun hg => hg) (fun hv hle hg => units_unit.ok (IntKind.wrap .i64 v8.1) v10 hv10 _ _ hv (hGd.mono hle) hg _) (fun s F w a hp hX => ?_)
      subst hp
      refine dnext hX.st.sub0 ?_
      refine dseq (listed' := #[true, true, true, true, true, true, true]) 6 (by kernel_rfl) rfl (by kernel_rfl) ?_
      obtain ⟨v11, hv11, h0⟩ := bnd_some h0
      have hX : Cx 50 _ _ _ _ _ [accP 5 kByte A2 c3 r_.out] [some ⟨52, [.v (.string ⟨⟨v9⟩⟩), .opt q1 0 1, .v (.slice A2 r_.out.length c3)]⟩] ρ _ _ := hX
      have hX : Cx 50 _ _ _ _ _ [own_units_reader ({ s := v9, out := r_.out } : T_units_reader) (ρ 0)] [none] ρ _ _ := Cx.packP (Y := (Bool × Option Addr × Nat)) hX 0 ((q1, A2, c3) : (Bool × Option Addr × Nat)) rfl rfl rfl rfl (fun h => h)
      have hX : Cx 50 _ _ _ _ _ [own_units_reader ({ s := v9, out := r_.out } : T_units_reader) (ρ 0)] [none] ρ _ _ := hX
      refine Cx.callH (M := [own_units_reader ({ s := v9, out := r_.out } : T_units_reader) (ρ 0)]) (L := []) hX (lit := []) (by kernel_rfl) rfl (by kernel_rfl) ⟨⟨_, Tryd.func37, by kernel_rfl, rfl⟩⟩ (ss := [.ptr 0 1, .v (.string ⟨⟨v10⟩⟩)]) (by kernel_rfl) [.ptr 0 1, .v (.string ⟨⟨v10⟩⟩)] rfl (fun hg => ⟨trivial, hg.2.1, trivial⟩) [ρ 0] (fun D' hD' hv hle hg hst => strings_Builder_WriteString_at_units_reader_1.ok ({ s := v9, out := r_.out } : T_units_reader) v10 v11 hv11 _ _ hv (hGd.mono hle) hg (fun k => match k with | 0 => ρ 0 | _ => 0) D' hD' hst) (fun s F M w a hp hX => ?_)
      obtain ⟨hp, rfl⟩ := hp
      obtain ⟨_, _, rfl, rfl, rfl⟩ := hp
      have hX : Cx 50 _ _ _ _ _ [own_units_reader v11.2.2 (ρ 0)] [none] ρ _ _ := hX
      obtain ⟨⟨q12, A13, c14⟩, hX⟩ := Cx.unpackP (k := 0) (Y := (Bool × Option Addr × Nat)) (ty := 52) hX (fun (y : (Bool × Option Addr × Nat)) => [.v (.string ⟨⟨v11.2.2.s⟩⟩), .opt y.1 0 1, .v (.slice y.2.1 v11.2.2.out.length y.2.2)]) rfl (fun y => rfl) (fun y F h => h) (fun y => rfl)
      have hX : Cx 50 _ _ _ _ _ [accP 5 kByte A13 c14 v11.2.2.out] [some ⟨52, [.v (.string ⟨⟨v11.2.2.s⟩⟩), .opt q12 0 1, .v (.slice A13 v11.2.2.out.length c14)]⟩] ρ _ _ := hX
      refine dnext hX.st.sub0 ?_
      have hX := back hX
      refine ddone (by kernel_rfl) ?_
      refine hK7 _ _ ?_
      refine Cx.rseq hX [] [4] (l' := [(4, .v (.bool true))]) (B' := [some ⟨52, [.v (.string ⟨⟨v11.2.2.s⟩⟩), .opt q12 0 1, .v (.slice A13 v11.2.2.out.length c14)]⟩]) (by kernel_rfl) fun ρ w a hX => ?_
      refine wp_ret ?_
      have hX : Cx 50 _ _ _ _ _ [accP 5 kByte A13 c14 v11.2.2.out] [some ⟨52, [.v (.string ⟨⟨v11.2.2.s⟩⟩), .opt q12 0 1, .v (.slice A13 v11.2.2.out.length c14)]⟩] ρ _ _ := hX
      have hX : Cx 50 _ _ _ _ _ [own_units_reader v11.2.2 (ρ 0)] [none] ρ _ _ := Cx.packP (Y := (Bool × Option Addr × Nat)) hX 0 ((q12, A13, c14) : (Bool × Option Addr × Nat)) rfl rfl rfl rfl (fun h => h)
      have hX : Cx 50 _ _ _ _ _ [own_units_reader v11.2.2 (ρ 0)] [none] ρ _ _ := hX
      have hr := Option.some.inj (show some _ = some _ from h0)
      subst hr
      exact hX.retH (M := [own_units_reader v11.2.2 (ρ 0)]) (ss := [.v (.bool true)]) (by kernel_rfl) (by kernel_rfl) ⟨rfl, by rw [(hX.fix 0 _ (by rw [hD]; rfl)).2]⟩
  refine wp_region_list ?_
  refine hX.part [] 8 [0, 1, 14] (l' := [(0, .ptr 0 0), (1, .v (.int .i64 many)), (14, .v (.bool (decide (((r_.s.length : Nat) : Int) < many))))]) (B' := [some ⟨52, [.v (.string ⟨⟨r_.s⟩⟩), .opt q1 0 1, .v (.slice A2 r_.out.length c3)]⟩]) (by kernel_rfl) fun ρ w a hX => ?_
  refine ite_go h0 (fun hb h0 => ?_) (fun hb h0 => ?_)
  · have hX := hX.relit 14 hb (by kernel_rfl)
    refine hX.part [7] 9 [0, 1, 23] (l' := [(0, .ptr 0 0), (1, .v (.int .i64 many)), (23, .v (.bool true))]) (B' := [some ⟨52, [.v (.string ⟨⟨r_.s⟩⟩), .opt q1 0 1, .v (.slice A2 r_.out.length c3)]⟩]) (by kernel_rfl) fun ρ w a hX => ?_
    refine wpList_end ?_
    have hX := hX.keeps [0, 1, 23] (l' := [(0, .ptr 0 0), (1, .v (.int .i64 many)), (23, .v (.bool true))]) (by kernel_rfl)
    exact J3 true h0  _ _ _ _ hX
  · have hX := hX.relit 14 hb (by kernel_rfl)
    refine hX.part [7] 5 [0, 1, 14, 18, 19] (l' := [(0, .ptr 0 0), (1, .v (.int .i64 many)), (14, .v (.bool false)), (18, .v (.string ⟨⟨r_.s⟩⟩)), (19, .v (.int .i64 many))]) (B' := [some ⟨52, [.v (.string ⟨⟨r_.s⟩⟩), .opt q1 0 1, .v (.slice A2 r_.out.length c3)]⟩]) (by kernel_rfl) fun ρ w a hX => ?_
    obtain ⟨v4, hv4, h0⟩ := bnd_some h0
    refine hX.cutStr (lit := [7]) (by kernel_rfl) (by kernel_rfl) rfl (s := r_.s) (ol := none) (oh := some many) (r := v4) (by kernel_rfl) (by kernel_rfl) (by kernel_rfl) (by kernel_rfl) hv4 fun a hX => ?_
    refine hX.part [7] 0 [0, 1, 14, 20] (l' := [(0, .ptr 0 0), (1, .v (.int .i64 many)), (14, .v (.bool false)), (20, .v (.string ⟨⟨v4⟩⟩))]) (B' := [some ⟨52, [.v (.string ⟨⟨r_.s⟩⟩), .opt q1 0 1, .v (.slice A2 r_.out.length c3)]⟩]) (by kernel_rfl) fun ρ w a hX => ?_
    obtain ⟨v5, hv5, h0⟩ := bnd_some h0
    refine Cx.call0 hX (lit := [7]) (by kernel_rfl) rfl (by kernel_rfl) ⟨⟨_, Tryd.func54, by kernel_rfl, rfl⟩⟩ (ss := [.v (.string ⟨⟨v4⟩⟩), .v (.string ⟨⟨([48, 49, 50, 51, 52, 53, 54, 55, 56, 57, 97, 98, 99, 100, 101, 102, 65, 66, 67, 68, 69, 70] : Str)⟩⟩)]) (by kernel_rfl) [.v (.string ⟨⟨v4⟩⟩), .v (.string ⟨⟨([48, 49, 50, 51, 52, 53, 54, 55, 56, 57, 97, 98, 99, 100, 101, 102, 65, 66, 67, 68, 69, 70] : Str)⟩⟩)] rfl (fun hg => hg) (fun hv hle hg => strings_Trim.ok v4 ([48, 49, 50, 51, 52, 53, 54, 55, 56, 57, 97, 98, 99, 100, 101, 102, 65, 66, 67, 68, 69, 70] : Str) v5 hv5 _ _ hv (hG.mono hle) hg _) (fun s F w a hp hX => ?_)
    subst hp
    refine hX.part [7] 2 [0, 1, 23] (l' := [(0, .ptr 0 0), (1, .v (.int .i64 many)), (23, .v (.bool (!(v5 == ([] : Str)))))]) (B' := [some ⟨52, [.v (.string ⟨⟨r_.s⟩⟩), .opt q1 0 1, .v (.slice A2 r_.out.length c3)]⟩]) (by kernel_rfl) fun ρ w a hX => ?_
    refine wpList_end ?_
    have hX := hX.keeps [0, 1, 23] (l' := [(0, .ptr 0 0), (1, .v (.int .i64 many)), (23, .v (.bool (!(v5 == ([] : Str)))))]) (by kernel_rfl)
    exact J3 (!(v5 == ([] : Str))) h0  _ _ _ _ hX
def units_reader_escape.j2 (x34 : Str) (x36 : List UInt8) : Option (Bool × T_units_reader) :=
  some (true, ({ s := x34, out := x36 } : T_units_reader))
def units_reader_escape.j1 (v22 : Int × Unit × T_units_reader) (x28 : Bool) : Option (Bool × T_units_reader) :=
  some (x28, v22.2.2)
def units_reader_escape (r_ : T_units_reader) : Option (Bool × T_units_reader) :=
  if (r_.s == ([] : Str)) = true then
    some (false, r_)
  else
    Option.bind (getB r_.s 0) fun v4 =>
    Option.bind (cutL r_.s 1 ((r_.s.length : Nat) : Int)) fun v5 =>
    Option.bind (strings_IndexByte ([110, 116, 114, 98, 102, 118] : Str) v4) fun v6 =>
    if (decide (v6 ≥ 0)) = true then
      Option.bind (getB ([10, 9, 13, 8, 12, 11] : Str) v6) fun v7 =>
      Option.bind (units_unit (IntKind.wrap .i64 v7)) fun v8 =>
      Option.bind (strings_Builder_WriteString_at_units_reader_1 ({ s := v5, out := r_.out } : T_units_reader) v8) fun v9 =>
      some (true, v9.2.2)
    else
      if (v4 == 10) = true then
        units_reader_escape.j2 v5 r_.out
      else
        if (v4 == 120) = true then
          Option.bind (units_reader_digits ({ s := v5, out := r_.out } : T_units_reader) 2) fun v13 =>
          some (v13.1, v13.2)
        else
          if (v4 == 117) = true then
            Option.bind (units_reader_digits ({ s := v5, out := r_.out } : T_units_reader) 4) fun v17 =>
            some (v17.1, v17.2)
          else
            if (v4 == 48) = true then
              Option.bind (units_unit 0) fun v21 =>
              Option.bind (strings_Builder_WriteString_at_units_reader_1 ({ s := v5, out := r_.out } : T_units_reader) v21) fun v22 =>
              if (v22.2.2.s == ([] : Str)) = true then
                units_reader_escape.j1 v22 true
              else
                Option.bind (getB v22.2.2.s 0) fun v26 =>
                if (decide (v26 < 48)) = true then
                  units_reader_escape.j1 v22 true
                else
                  Option.bind (getB v22.2.2.s 0) fun v27 =>
                  units_reader_escape.j1 v22 (decide (v27 > 57))
            else
              if (((v4 == 13) || ((decide (v4 ≥ 49)) && (decide (v4 ≤ 57)))) || (decide (v4 ≥ 128))) = true then
                some (false, ({ s := v5, out := r_.out } : T_units_reader))
              else
                Option.bind (units_unit (IntKind.wrap .i64 v4)) fun v29 =>
                Option.bind (strings_Builder_WriteString_at_units_reader_1 ({ s := v5, out := r_.out } : T_units_reader) v29) fun v30 =>
                units_reader_escape.j2 v30.2.2.s v30.2.2.out
theorem units_reader_escape.ok (r_ : T_units_reader) (r : Bool × T_units_reader) (h0 : units_reader_escape r_ = some r) (w0 : World) (F0 : Heap) (hv : F0.Sub w0) (hG : Glob F0) (hg : SV.goods F0 [.ptr 0 0]) (ρ : Nat → Nat) (D : Own) (hD : D.known = [ρ 0]) (hst : St w0 F0 D w0 F0 [own_units_reader r_ (ρ 0)]) :
    Calls Tryd.prog 36 (SV.dens ρ [.ptr 0 0]).toArray w0 (RetH w0 F0 D fun s M => (s = .v (.bool r.1)) ∧ M = [own_units_reader r.2 (ρ 0)]) := by
  refine calls_of_wp Tryd.func36 rfl ?_
  have hX := Cx.enter (D := D) (B := nones 1) (L := [own_units_reader r_ (ρ 0)]) (ρ := ρ) (N := 99) Tryd.ntmps36 [.ptr 0 0] (hst.emps ρ 1) rfl hg (by kernel_rfl) (fun _ h => (nones_mem h).elim) (Nat.le_of_ble_eq_true rfl) (fix1 hD)
  unfold units_reader_escape at h0
  have hX : Cx 99 _ _ _ _ _ [own_units_reader r_ (ρ 0)] [none] ρ _ _ := hX
  obtain ⟨⟨q1, A2, c3⟩, hX⟩ := Cx.unpackP (k := 0) (Y := (Bool × Option Addr × Nat)) (ty := 52) hX (fun (y : (Bool × Option Addr × Nat)) => [.v (.string ⟨⟨r_.s⟩⟩), .opt y.1 0 1, .v (.slice y.2.1 r_.out.length y.2.2)]) rfl (fun y => rfl) (fun y F h => h) (fun y => rfl)
  have hX : Cx 99 _ _ _ _ _ [accP 5 kByte A2 c3 r_.out] [some ⟨52, [.v (.string ⟨⟨r_.s⟩⟩), .opt q1 0 1, .v (.slice A2 r_.out.length c3)]⟩] ρ _ _ := hX
  refine Cx.rseq hX [] [0] (l' := [(0, .ptr 0 0)]) (B' := [some ⟨52, [.v (.string ⟨⟨r_.s⟩⟩), .opt q1 0 1, .v (.slice A2 r_.out.length c3)]⟩]) (by kernel_rfl) fun ρ w a hX => ?_
  refine wp_seq_k fun K2 hK2 => ?_
  refine Cx.rseq hX [] [0, 9] (l' := [(0, .ptr 0 0), (9, .v (.bool (r_.s == ([] : Str))))]) (B' := [some ⟨52, [.v (.string ⟨⟨r_.s⟩⟩), .opt q1 0 1, .v (.slice A2 r_.out.length c3)]⟩]) (by kernel_rfl) fun ρ w a hX => ?_
  refine Cx.cond hX (b := (r_.s == ([] : Str))) (by kernel_rfl) (fun hb => ?_) (fun hb => ?_)
  · have h0 := ite_tt h0 hb
    refine Cx.rseq hX [] [2] (l' := [(2, .v (.bool false))]) (B' := [some ⟨52, [.v (.string ⟨⟨r_.s⟩⟩), .opt q1 0 1, .v (.slice A2 r_.out.length c3)]⟩]) (by kernel_rfl) fun ρ w a hX => ?_
    refine wp_ret ?_
    have hX : Cx 99 _ _ _ _ _ [accP 5 kByte A2 c3 r_.out] [some ⟨52, [.v (.string ⟨⟨r_.s⟩⟩), .opt q1 0 1, .v (.slice A2 r_.out.length c3)]⟩] ρ _ _ := hX
    have hX : Cx 99 _ _ _ _ _ [own_units_reader r_ (ρ 0)] [none] ρ _ _ := Cx.packP (Y := (Bool × Option Addr × Nat)) hX 0 ((q1, A2, c3) : (Bool × Option Addr × Nat)) rfl rfl rfl rfl (fun h => h)
    have hX : Cx 99 _ _ _ _ _ [own_units_reader r_ (ρ 0)] [none] ρ _ _ := hX
    have hr := Option.some.inj (show some _ = some _ from h0)
    subst hr
    exact hX.retH (M := [own_units_reader r_ (ρ 0)]) (ss := [.v (.bool false)]) (by kernel_rfl) (by kernel_rfl) ⟨rfl, by rw [(hX.fix 0 _ (by rw [hD]; rfl)).2]⟩
  · have h0 := ite_ff h0 hb
    refine wp_skip ?_
    refine hK2 _ _ ?_
    refine wp_seq_k fun K5 hK5 => ?_
    refine wp_region_list ?_
    refine hX.part [] 4 [0, 13] (l' := [(0, .ptr 0 0), (13, .v (.string ⟨⟨r_.s⟩⟩))]) (B' := [some ⟨52, [.v (.string ⟨⟨r_.s⟩⟩), .opt q1 0 1, .v (.slice A2 r_.out.length c3)]⟩]) (by kernel_rfl) fun ρ w a hX => ?_
    obtain ⟨v4, hv4, h0⟩ := bnd_some h0
    refine hX.idxStr (lit := []) (by kernel_rfl) (by kernel_rfl) rfl (s := r_.s) (k := .i64) (n := 0) (b := v4) (by kernel_rfl) (by kernel_rfl) (by kernel_rfl) hv4 fun a hX => ?_
    refine hX.part [] 1 [0, 3] (l' := [(0, .ptr 0 0), (3, .v (.int .u8 v4))]) (B' := [some ⟨52, [.v (.string ⟨⟨r_.s⟩⟩), .opt q1 0 1, .v (.slice A2 r_.out.length c3)]⟩]) (by kernel_rfl) fun ρ w a hX => ?_
    refine wpList_end ?_
    refine hK5 _ _ ?_
    refine wp_seq_k fun K6 hK6 => ?_
    refine wp_region_list ?_
    refine hX.part [] 5 [0, 3, 15, 19] (l' := [(0, .ptr 0 0), (3, .v (.int .u8 v4)), (15, .ptr 0 0), (19, .v (.string ⟨⟨r_.s⟩⟩))]) (B' := [some ⟨52, [.v (.string ⟨⟨r_.s⟩⟩), .opt q1 0 1, .v (.slice A2 r_.out.length c3)]⟩]) (by kernel_rfl) fun ρ w a hX => ?_
    obtain ⟨v5, hv5, h0⟩ := bnd_some h0
    refine hX.cutStr (lit := []) (by kernel_rfl) (by kernel_rfl) rfl (s := r_.s) (ol := some 1) (oh := none) (r := v5) (by kernel_rfl) (by kernel_rfl) (by kernel_rfl) (by kernel_rfl) hv5 fun a hX => ?_
    refine hX.part [] 3 [0, 3] (l' := [(0, .ptr 0 0), (3, .v (.int .u8 v4))]) (B' := [some ⟨52, [.v (.string ⟨⟨v5⟩⟩), .opt q1 0 1, .v (.slice A2 r_.out.length c3)]⟩]) (by kernel_rfl) fun ρ w a hX => ?_
    refine wpList_end ?_
    refine hK6 _ _ ?_
    refine wp_seq_k fun K7 hK7 => ?_
    refine wp_seq_k fun K8 hK8 => ?_
    refine wp_region_list ?_
    refine hX.part [] 1 [0, 3, 23] (l' := [(0, .ptr 0 0), (3, .v (.int .u8 v4)), (23, .v (.int .u8 v4))]) (B' := [some ⟨52, [.v (.string ⟨⟨v5⟩⟩), .opt q1 0 1, .v (.slice A2 r_.out.length c3)]⟩]) (by kernel_rfl) fun ρ w a hX => ?_
    obtain ⟨v6, hv6, h0⟩ := bnd_some h0
    refine Cx.call0 hX (lit := []) (by kernel_rfl) rfl (by kernel_rfl) ⟨⟨_, Tryd.func32, by kernel_rfl, rfl⟩⟩ (ss := [.v (.string ⟨⟨([110, 116, 114, 98, 102, 118] : Str)⟩⟩), .v (.int .u8 v4)]) (by kernel_rfl) [.v (.string ⟨⟨([110, 116, 114, 98, 102, 118] : Str)⟩⟩), .v (.int .u8 v4)] rfl (fun hg => hg) (fun hv hle hg => strings_IndexByte.ok ([110, 116, 114, 98, 102, 118] : Str) v4 v6 hv6 _ _ hv (hG.mono hle) hg _) (fun s F w a hp hX => ?_)
    subst hp
    refine hX.part [] 1 [0, 3, 4] (l' := [(0, .ptr 0 0), (3, .v (.int .u8 v4)), (4, .v (.int .i64 v6))]) (B' := [some ⟨52, [.v (.string ⟨⟨v5⟩⟩), .opt q1 0 1, .v (.slice A2 r_.out.length c3)]⟩]) (by kernel_rfl) fun ρ w a hX => ?_
    refine wpList_end ?_
    refine hK8 _ _ ?_
    refine Cx.rseq hX [] [0, 3, 4, 26] (l' := [(0, .ptr 0 0), (3, .v (.int .u8 v4)), (4, .v (.int .i64 v6)), (26, .v (.bool (decide (v6 ≥ 0))))]) (B' := [some ⟨52, [.v (.string ⟨⟨v5⟩⟩), .opt q1 0 1, .v (.slice A2 r_.out.length c3)]⟩]) (by kernel_rfl) fun ρ w a hX => ?_
    refine Cx.cond hX (b := (decide (v6 ≥ 0))) (by kernel_rfl) (fun hb => ?_) (fun hb => ?_)
    · have h0 := ite_tt h0 hb
      refine wp_seq_k fun K10 hK10 => ?_
      have hGd := hG.mono hX.st.le
      refine hX.draw rfl (n := 8) rfl #[false, false, false, false, false, false, false, false] (by kernel_rfl) fun w D' hDk back hX => ?_
      refine hX.dq 0 rfl rfl (listed' := #[true, false, false, false, false, false, false, false]) (by kernel_rfl) (by kernel_rfl) (s := .ptr 0 0) (by kernel_rfl) fun a hX => ?_
      refine hX.dq 1 rfl rfl (listed' := #[true, true, false, false, false, false, false, false]) (by kernel_rfl) (by kernel_rfl) (s := .ptr 0 0) (by kernel_rfl) fun a hX => ?_
      refine hX.dq 2 rfl rfl (listed' := #[true, true, true, false, false, false, false, false]) (by kernel_rfl) (by kernel_rfl) (s := .ptr 0 1) (by kernel_rfl) fun a hX => ?_
      refine hX.dq 3 rfl rfl (listed' := #[true, true, true, true, false, false, false, false]) (by kernel_rfl) (by kernel_rfl) (s := .v (.int .i64 v6)) (by kernel_rfl) fun a hX => ?_
      obtain ⟨v7, hv7, h0⟩ := bnd_some h0
      refine hX.dIdxStr 4 rfl rfl (listed' := #[true, true, true, true, true, false, false, false]) (by kernel_rfl) (by kernel_rfl) rfl (s := ([10, 9, 13, 8, 12, 11] : Str)) (k := .i64) (m := v6) (b := v7) (by kernel_rfl) (by kernel_rfl) (by kernel_rfl) hv7 fun a hX => ?_
      refine hX.dq 5 rfl rfl (listed' := #[true, true, true, true, true, true, false, false]) (by kernel_rfl) (by kernel_rfl) (s := .v (.int .i64 (IntKind.wrap .i64 v7))) (by kernel_rfl) fun a hX => ?_
      refine dseq (listed' := #[true, true, true, true, true, true, true, false]) 6 (by kernel_rfl) rfl (by kernel_rfl) ?_
      obtain ⟨v8, hv8, h0⟩ := bnd_some h0
      refine Cx.call0 hX (lit := []) (by kernel_rfl) rfl (by kernel_rfl) ⟨⟨_, Tryd.func38, by kernel_rfl, rfl⟩⟩ (ss := [.v (.int .i64 (IntKind.wrap .i64 v7))]) (by kernel_rfl) [.v (.int .i64 (IntKind.wrap .i64 v7))] rfl (fun hg => hg) (fun hv hle hg => units_unit.ok (IntKind.wrap .i64 v7) v8 hv8 _ _ hv (hGd.mono hle) hg _) (fun s F w a hp hX => ?_)
      subst hp
      refine dnext hX.st.sub0 ?_
      refine dseq (listed' := #[true, true, true, true, true, true, true, true]) 7 (by kernel_rfl) rfl (by kernel_rfl) ?_
      obtain ⟨v9, hv9, h0⟩ := bnd_some h0
      have hX : Cx 99 _ _ _ _ _ [accP 5 kByte A2 c3 r_.out] [some ⟨52, [.v (.string ⟨⟨v5⟩⟩), .opt q1 0 1, .v (.slice A2 r_.out.length c3)]⟩] ρ _ _ := hX
      have hX : Cx 99 _ _ _ _ _ [own_units_reader ({ s := v5, out := r_.out } : T_units_reader) (ρ 0)] [none] ρ _ _ := Cx.packP (Y := (Bool × Option Addr × Nat)) hX 0 ((q1, A2, c3) : (Bool × Option Addr × Nat)) rfl rfl rfl rfl (fun h => h)
      have hX : Cx 99 _ _ _ _ _ [own_units_reader ({ s := v5, out := r_.out } : T_units_reader) (ρ 0)] [none] ρ _ _ := hX
      refine Cx.callH (M := [own_units_reader ({ s := v5, out := r_.out } : T_units_reader) (ρ 0)]) (L := []) hX (lit := []) (by kernel_rfl) rfl (by kernel_rfl) ⟨⟨_, Tryd.func37, by kernel_rfl, rfl⟩⟩ (ss := [.ptr 0 1, .v (.string ⟨⟨v8⟩⟩)]) (by kernel_rfl) [.ptr 0 1, .v (.string ⟨⟨v8⟩⟩)] rfl (fun hg => ⟨trivial, hg.2.1, trivial⟩) [ρ 0] (fun D' hD' hv hle hg hst => strings_Builder_WriteString_at_units_reader_1.ok ({ s := v5, out := r_.out } : T_units_reader) v8 v9 hv9 _ _ hv (hGd.mono hle) hg (fun k => match k with | 0 => ρ 0 | _ => 0) D' hD' hst) (fun s F M w a hp hX => ?_)
      obtain ⟨hp, rfl⟩ := hp
      obtain ⟨_, _, rfl, rfl, rfl⟩ := hp
      have hX : Cx 99 _ _ _ _ _ [own_units_reader v9.2.2 (ρ 0)] [none] ρ _ _ := hX
      obtain ⟨⟨q10, A11, c12⟩, hX⟩ := Cx.unpackP (k := 0) (Y := (Bool × Option Addr × Nat)) (ty := 52) hX (fun (y : (Bool × Option Addr × Nat)) => [.v (.string ⟨⟨v9.2.2.s⟩⟩), .opt y.1 0 1, .v (.slice y.2.1 v9.2.2.out.length y.2.2)]) rfl (fun y => rfl) (fun y F h => h) (fun y => rfl)
      have hX : Cx 99 _ _ _ _ _ [accP 5 kByte A11 c12 v9.2.2.out] [some ⟨52, [.v (.string ⟨⟨v9.2.2.s⟩⟩), .opt q10 0 1, .v (.slice A11 v9.2.2.out.length c12)]⟩] ρ _ _ := hX
      refine dnext hX.st.sub0 ?_
      have hX := back hX
      refine ddone (by kernel_rfl) ?_
      refine hK10 _ _ ?_
      refine Cx.rseq hX [] [2] (l' := [(2, .v (.bool true))]) (B' := [some ⟨52, [.v (.string ⟨⟨v9.2.2.s⟩⟩), .opt q10 0 1, .v (.slice A11 v9.2.2.out.length c12)]⟩]) (by kernel_rfl) fun ρ w a hX => ?_
      refine wp_ret ?_
      have hX : Cx 99 _ _ _ _ _ [accP 5 kByte A11 c12 v9.2.2.out] [some ⟨52, [.v (.string ⟨⟨v9.2.2.s⟩⟩), .opt q10 0 1, .v (.slice A11 v9.2.2.out.length c12)]⟩] ρ _ _ := hX
      have hX : Cx 99 _ _ _ _ _ [own_units_reader v9.2.2 (ρ 0)] [none] ρ _ _ := Cx.packP (Y := (Bool × Option Addr × Nat)) hX 0 ((q10, A11, c12) : (Bool × Option Addr × Nat)) rfl rfl rfl rfl (fun h => h)
      have hX : Cx 99 _ _ _ _ _ [own_units_reader v9.2.2 (ρ 0)] [none] ρ _ _ := hX
      have hr := Option.some.inj (show some _ = some _ from h0)
      subst hr
      exact hX.retH (M := [own_units_reader v9.2.2 (ρ 0)]) (ss := [.v (.bool true)]) (by kernel_rfl) (by kernel_rfl) ⟨rfl, by rw [(hX.fix 0 _ (by rw [hD]; rfl)).2]⟩
    · have h0 := ite_ff h0 hb
      refine wp_skip ?_
      refine hK7 _ _ ?_
      refine wp_seq_k fun K12 hK12 => ?_
      have J12 : ∀ (x34 : Str) (x36 : List UInt8), units_reader_escape.j2 x34 x36 = some r → ∀ (q35 : Bool) (A37 : Option Addr) (c38 : Nat) (ρ : Nat → Nat) (w : World) (F : Heap) (a : Act), Cx 99 w0 F0 D w F [accP 5 kByte A37 c38 x36] [some ⟨52, [.v (.string ⟨⟨x34⟩⟩), .opt q35 0 1, .v (.slice A37 x36.length c38)]⟩] ρ [] a → K12 a w := by
        intro x34 x36 h0 q35 A37 c38 ρ w F a hX
        unfold units_reader_escape.j2 at h0
        refine hK12 _ _ ?_
        refine Cx.rseq hX [] [2] (l' := [(2, .v (.bool true))]) (B' := [some ⟨52, [.v (.string ⟨⟨x34⟩⟩), .opt q35 0 1, .v (.slice A37 x36.length c38)]⟩]) (by kernel_rfl) fun ρ w a hX => ?_
        refine wp_ret ?_
        have hX : Cx 99 _ _ _ _ _ [accP 5 kByte A37 c38 x36] [some ⟨52, [.v (.string ⟨⟨x34⟩⟩), .opt q35 0 1, .v (.slice A37 x36.length c38)]⟩] ρ _ _ := hX
        have hX : Cx 99 _ _ _ _ _ [own_units_reader ({ s := x34, out := x36 } : T_units_reader) (ρ 0)] [none] ρ _ _ := Cx.packP (Y := (Bool × Option Addr × Nat)) hX 0 ((q35, A37, c38) : (Bool × Option Addr × Nat)) rfl rfl rfl rfl (fun h => h)
        have hX : Cx 99 _ _ _ _ _ [own_units_reader ({ s := x34, out := x36 } : T_units_reader) (ρ 0)] [none] ρ _ _ := hX
        have hr := Option.some.inj (show some _ = some _ from h0)
        subst hr
        exact hX.retH (M := [own_units_reader ({ s := x34, out := x36 } : T_units_reader) (ρ 0)]) (ss := [.v (.bool true)]) (by kernel_rfl) (by kernel_rfl) ⟨rfl, by rw [(hX.fix 0 _ (by rw [hD]; rfl)).2]⟩
      refine wp_block ?_
      refine Cx.rseq hX [] [0, 3, 42] (l' := [(0, .ptr 0 0), (3, .v (.int .u8 v4)), (42, .v (.bool (v4 == 10)))]) (B' := [some ⟨52, [.v (.string ⟨⟨v5⟩⟩), .opt q1 0 1, .v (.slice A2 r_.out.length c3)]⟩]) (by kernel_rfl) fun ρ w a hX => ?_
      refine Cx.cond hX (b := (v4 == 10)) (by kernel_rfl) (fun hb => ?_) (fun hb => ?_)
      · have h0 := ite_tt h0 hb
        refine wp_skip ?_
        have hX := hX.keeps [] (l' := []) (by kernel_rfl)
        exact J12 v5 r_.out h0 q1 A2 c3 _ _ _ _ hX
      · have h0 := ite_ff h0 hb
        refine Cx.rseq hX [] [0, 3, 45] (l' := [(0, .ptr 0 0), (3, .v (.int .u8 v4)), (45, .v (.bool (v4 == 120)))]) (B' := [some ⟨52, [.v (.string ⟨⟨v5⟩⟩), .opt q1 0 1, .v (.slice A2 r_.out.length c3)]⟩]) (by kernel_rfl) fun ρ w a hX => ?_
        refine Cx.cond hX (b := (v4 == 120)) (by kernel_rfl) (fun hb => ?_) (fun hb => ?_)
        · have h0 := ite_tt h0 hb
          refine wp_seq_k fun K15 hK15 => ?_
          refine wp_region_list ?_
          refine hX.part [] 1 [48] (l' := [(48, .ptr 0 0)]) (B' := [some ⟨52, [.v (.string ⟨⟨v5⟩⟩), .opt q1 0 1, .v (.slice A2 r_.out.length c3)]⟩]) (by kernel_rfl) fun ρ w a hX => ?_
          obtain ⟨v13, hv13, h0⟩ := bnd_some h0
          have hX : Cx 99 _ _ _ _ _ [accP 5 kByte A2 c3 r_.out] [some ⟨52, [.v (.string ⟨⟨v5⟩⟩), .opt q1 0 1, .v (.slice A2 r_.out.length c3)]⟩] ρ _ _ := hX
          have hX : Cx 99 _ _ _ _ _ [own_units_reader ({ s := v5, out := r_.out } : T_units_reader) (ρ 0)] [none] ρ _ _ := Cx.packP (Y := (Bool × Option Addr × Nat)) hX 0 ((q1, A2, c3) : (Bool × Option Addr × Nat)) rfl rfl rfl rfl (fun h => h)
          have hX : Cx 99 _ _ _ _ _ [own_units_reader ({ s := v5, out := r_.out } : T_units_reader) (ρ 0)] [none] ρ _ _ := hX
          refine Cx.callH (M := [own_units_reader ({ s := v5, out := r_.out } : T_units_reader) (ρ 0)]) (L := []) hX (lit := []) (by kernel_rfl) rfl (by kernel_rfl) ⟨⟨_, Tryd.func44, by kernel_rfl, rfl⟩⟩ (ss := [.ptr 0 0, .v (.int .i64 2)]) (by kernel_rfl) [.ptr 0 0, .v (.int .i64 2)] rfl (fun hg => ⟨trivial, hg.2.1, trivial⟩) [ρ 0] (fun D' hD' hv hle hg hst => units_reader_digits.ok ({ s := v5, out := r_.out } : T_units_reader) 2 v13 hv13 _ _ hv (hG.mono hle) hg (fun k => match k with | 0 => ρ 0 | _ => 0) D' hD' hst) (fun s F M w a hp hX => ?_)
          obtain ⟨hp, rfl⟩ := hp
          subst hp
          have hX : Cx 99 _ _ _ _ _ [own_units_reader v13.2 (ρ 0)] [none] ρ _ _ := hX
          obtain ⟨⟨q14, A15, c16⟩, hX⟩ := Cx.unpackP (k := 0) (Y := (Bool × Option Addr × Nat)) (ty := 52) hX (fun (y : (Bool × Option Addr × Nat)) => [.v (.string ⟨⟨v13.2.s⟩⟩), .opt y.1 0 1, .v (.slice y.2.1 v13.2.out.length y.2.2)]) rfl (fun y => rfl) (fun y F h => h) (fun y => rfl)
          have hX : Cx 99 _ _ _ _ _ [accP 5 kByte A15 c16 v13.2.out] [some ⟨52, [.v (.string ⟨⟨v13.2.s⟩⟩), .opt q14 0 1, .v (.slice A15 v13.2.out.length c16)]⟩] ρ _ _ := hX
          refine hX.part [] 1 [2] (l' := [(2, .v (.bool v13.1))]) (B' := [some ⟨52, [.v (.string ⟨⟨v13.2.s⟩⟩), .opt q14 0 1, .v (.slice A15 v13.2.out.length c16)]⟩]) (by kernel_rfl) fun ρ w a hX => ?_
          refine wpList_end ?_
          refine hK15 _ _ ?_
          refine wp_ret ?_
          have hX : Cx 99 _ _ _ _ _ [accP 5 kByte A15 c16 v13.2.out] [some ⟨52, [.v (.string ⟨⟨v13.2.s⟩⟩), .opt q14 0 1, .v (.slice A15 v13.2.out.length c16)]⟩] ρ _ _ := hX
          have hX : Cx 99 _ _ _ _ _ [own_units_reader v13.2 (ρ 0)] [none] ρ _ _ := Cx.packP (Y := (Bool × Option Addr × Nat)) hX 0 ((q14, A15, c16) : (Bool × Option Addr × Nat)) rfl rfl rfl rfl (fun h => h)
          have hX : Cx 99 _ _ _ _ _ [own_units_reader v13.2 (ρ 0)] [none] ρ _ _ := hX
          have hr := Option.some.inj (show some _ = some _ from h0)
          subst hr
          exact hX.retH (M := [own_units_reader v13.2 (ρ 0)]) (ss := [.v (.bool v13.1)]) (by kernel_rfl) (by kernel_rfl) ⟨rfl, by rw [(hX.fix 0 _ (by rw [hD]; rfl)).2]⟩
        · have h0 := ite_ff h0 hb
          refine Cx.rseq hX [] [0, 3, 50] (l' := [(0, .ptr 0 0), (3, .v (.int .u8 v4)), (50, .v (.bool (v4 == 117)))]) (B' := [some ⟨52, [.v (.string ⟨⟨v5⟩⟩), .opt q1 0 1, .v (.slice A2 r_.out.length c3)]⟩]) (by kernel_rfl) fun ρ w a hX => ?_
          refine Cx.cond hX (b := (v4 == 117)) (by kernel_rfl) (fun hb => ?_) (fun hb => ?_)
          · have h0 := ite_tt h0 hb
            refine wp_seq_k fun K17 hK17 => ?_
            refine wp_region_list ?_
            refine hX.part [] 1 [53] (l' := [(53, .ptr 0 0)]) (B' := [some ⟨52, [.v (.string ⟨⟨v5⟩⟩), .opt q1 0 1, .v (.slice A2 r_.out.length c3)]⟩]) (by kernel_rfl) fun ρ w a hX => ?_
            obtain ⟨v17, hv17, h0⟩ := bnd_some h0
            have hX : Cx 99 _ _ _ _ _ [accP 5 kByte A2 c3 r_.out] [some ⟨52, [.v (.string ⟨⟨v5⟩⟩), .opt q1 0 1, .v (.slice A2 r_.out.length c3)]⟩] ρ _ _ := hX
            have hX : Cx 99 _ _ _ _ _ [own_units_reader ({ s := v5, out := r_.out } : T_units_reader) (ρ 0)] [none] ρ _ _ := Cx.packP (Y := (Bool × Option Addr × Nat)) hX 0 ((q1, A2, c3) : (Bool × Option Addr × Nat)) rfl rfl rfl rfl (fun h => h)
            have hX : Cx 99 _ _ _ _ _ [own_units_reader ({ s := v5, out := r_.out } : T_units_reader) (ρ 0)] [none] ρ _ _ := hX
            refine Cx.callH (M := [own_units_reader ({ s := v5, out := r_.out } : T_units_reader) (ρ 0)]) (L := []) hX (lit := []) (by kernel_rfl) rfl (by kernel_rfl) ⟨⟨_, Tryd.func44, by kernel_rfl, rfl⟩⟩ (ss := [.ptr 0 0, .v (.int .i64 4)]) (by kernel_rfl) [.ptr 0 0, .v (.int .i64 4)] rfl (fun hg => ⟨trivial, hg.2.1, trivial⟩) [ρ 0] (fun D' hD' hv hle hg hst => units_reader_digits.ok ({ s := v5, out := r_.out } : T_units_reader) 4 v17 hv17 _ _ hv (hG.mono hle) hg (fun k => match k with | 0 => ρ 0 | _ => 0) D' hD' hst) (fun s F M w a hp hX => ?_)
            obtain ⟨hp, rfl⟩ := hp
            subst hp
            have hX : Cx 99 _ _ _ _ _ [own_units_reader v17.2 (ρ 0)] [none] ρ _ _ := hX
            obtain ⟨⟨q18, A19, c20⟩, hX⟩ := Cx.unpackP (k := 0) (Y := (Bool × Option Addr × Nat)) (ty := 52) hX (fun (y : (Bool × Option Addr × Nat)) => [.v (.string ⟨⟨v17.2.s⟩⟩), .opt y.1 0 1, .v (.slice y.2.1 v17.2.out.length y.2.2)]) rfl (fun y => rfl) (fun y F h => h) (fun y => rfl)
            have hX : Cx 99 _ _ _ _ _ [accP 5 kByte A19 c20 v17.2.out] [some ⟨52, [.v (.string ⟨⟨v17.2.s⟩⟩), .opt q18 0 1, .v (.slice A19 v17.2.out.length c20)]⟩] ρ _ _ := hX
            refine hX.part [] 1 [2] (l' := [(2, .v (.bool v17.1))]) (B' := [some ⟨52, [.v (.string ⟨⟨v17.2.s⟩⟩), .opt q18 0 1, .v (.slice A19 v17.2.out.length c20)]⟩]) (by kernel_rfl) fun ρ w a hX => ?_
            refine wpList_end ?_
            refine hK17 _ _ ?_
            refine wp_ret ?_
            have hX : Cx 99 _ _ _ _ _ [accP 5 kByte A19 c20 v17.2.out] [some ⟨52, [.v (.string ⟨⟨v17.2.s⟩⟩), .opt q18 0 1, .v (.slice A19 v17.2.out.length c20)]⟩] ρ _ _ := hX
            have hX : Cx 99 _ _ _ _ _ [own_units_reader v17.2 (ρ 0)] [none] ρ _ _ := Cx.packP (Y := (Bool × Option Addr × Nat)) hX 0 ((q18, A19, c20) : (Bool × Option Addr × Nat)) rfl rfl rfl rfl (fun h => h)
            have hX : Cx 99 _ _ _ _ _ [own_units_reader v17.2 (ρ 0)] [none] ρ _ _ := hX
            have hr := Option.some.inj (show some _ = some _ from h0)
            subst hr
            exact hX.retH (M := [own_units_reader v17.2 (ρ 0)]) (ss := [.v (.bool v17.1)]) (by kernel_rfl) (by kernel_rfl) ⟨rfl, by rw [(hX.fix 0 _ (by rw [hD]; rfl)).2]⟩
          · have h0 := ite_ff h0 hb
            refine Cx.rseq hX [] [0, 3, 55] (l' := [(0, .ptr 0 0), (3, .v (.int .u8 v4)), (55, .v (.bool (v4 == 48)))]) (B' := [some ⟨52, [.v (.string ⟨⟨v5⟩⟩), .opt q1 0 1, .v (.slice A2 r_.out.length c3)]⟩]) (by kernel_rfl) fun ρ w a hX => ?_
            refine Cx.cond hX (b := (v4 == 48)) (by kernel_rfl) (fun hb => ?_) (fun hb => ?_)
            · have h0 := ite_tt h0 hb
              refine wp_seq_k fun K19 hK19 => ?_
              have hGd := hG.mono hX.st.le
              refine hX.draw rfl (n := 5) rfl #[false, false, false, false, false] (by kernel_rfl) fun w D' hDk back hX => ?_
              refine hX.dq 0 rfl rfl (listed' := #[true, false, false, false, false]) (by kernel_rfl) (by kernel_rfl) (s := .ptr 0 0) (by kernel_rfl) fun a hX => ?_
              refine hX.dq 1 rfl rfl (listed' := #[true, true, false, false, false]) (by kernel_rfl) (by kernel_rfl) (s := .ptr 0 0) (by kernel_rfl) fun a hX => ?_
              refine hX.dq 2 rfl rfl (listed' := #[true, true, true, false, false]) (by kernel_rfl) (by kernel_rfl) (s := .ptr 0 1) (by kernel_rfl) fun a hX => ?_
              refine dseq (listed' := #[true, true, true, true, false]) 3 (by kernel_rfl) rfl (by kernel_rfl) ?_
              obtain ⟨v21, hv21, h0⟩ := bnd_some h0
              refine Cx.call0 hX (lit := []) (by kernel_rfl) rfl (by kernel_rfl) ⟨⟨_, Tryd.func38, by kernel_rfl, rfl⟩⟩ (ss := [.v (.int .i64 0)]) (by kernel_rfl) [.v (.int .i64 0)] rfl (fun hg => hg) (fun hv hle hg => units_unit.ok 0 v21 hv21 _ _ hv (hGd.mono hle) hg _) (fun s F w a hp hX => ?_)
              subst hp
              refine dnext hX.st.sub0 ?_
              refine dseq (listed' := #[true, true, true, true, true]) 4 (by kernel_rfl) rfl (by kernel_rfl) ?_
              obtain ⟨v22, hv22, h0⟩ := bnd_some h0
              have hX : Cx 99 _ _ _ _ _ [accP 5 kByte A2 c3 r_.out] [some ⟨52, [.v (.string ⟨⟨v5⟩⟩), .opt q1 0 1, .v (.slice A2 r_.out.length c3)]⟩] ρ _ _ := hX
              have hX : Cx 99 _ _ _ _ _ [own_units_reader ({ s := v5, out := r_.out } : T_units_reader) (ρ 0)] [none] ρ _ _ := Cx.packP (Y := (Bool × Option Addr × Nat)) hX 0 ((q1, A2, c3) : (Bool × Option Addr × Nat)) rfl rfl rfl rfl (fun h => h)
              have hX : Cx 99 _ _ _ _ _ [own_units_reader ({ s := v5, out := r_.out } : T_units_reader) (ρ 0)] [none] ρ _ _ := hX
              refine Cx.callH (M := [own_units_reader ({ s := v5, out := r_.out } : T_units_reader) (ρ 0)]) (L := []) hX (lit := []) (by kernel_rfl) rfl (by kernel_rfl) ⟨⟨_, Tryd.func37, by kernel_rfl, rfl⟩⟩ (ss := [.ptr 0 1, .v (.string ⟨⟨v21⟩⟩)]) (by kernel_rfl) [.ptr 0 1, .v (.string ⟨⟨v21⟩⟩)] rfl (fun hg => ⟨trivial, hg.2.1, trivial⟩) [ρ 0] (fun D' hD' hv hle hg hst => strings_Builder_WriteString_at_units_reader_1.ok ({ s := v5, out := r_.out } : T_units_reader) v21 v22 hv22 _ _ hv (hGd.mono hle) hg (fun k => match k with | 0 => ρ 0 | _ => 0) D' hD' hst) (fun s F M w a hp hX => ?_)
              obtain ⟨hp, rfl⟩ := hp
              obtain ⟨_, _, rfl, rfl, rfl⟩ := hp
              have hX : Cx 99 _ _ _ _ _ [own_units_reader v22.2.2 (ρ 0)] [none] ρ _ _ := hX
              obtain ⟨⟨q23, A24, c25⟩, hX⟩ := Cx.unpackP (k := 0) (Y := (Bool × Option Addr × Nat)) (ty := 52) hX (fun (y : (Bool × Option Addr × Nat)) => [.v (.string ⟨⟨v22.2.2.s⟩⟩), .opt y.1 0 1, .v (.slice y.2.1 v22.2.2.out.length y.2.2)]) rfl (fun y => rfl) (fun y F h => h) (fun y => rfl)
              have hX : Cx 99 _ _ _ _ _ [accP 5 kByte A24 c25 v22.2.2.out] [some ⟨52, [.v (.string ⟨⟨v22.2.2.s⟩⟩), .opt q23 0 1, .v (.slice A24 v22.2.2.out.length c25)]⟩] ρ _ _ := hX
              refine dnext hX.st.sub0 ?_
              have hX := back hX
              refine ddone (by kernel_rfl) ?_
              refine hK19 _ _ ?_
              refine wp_seq_k fun K20 hK20 => ?_
              have J20 : ∀ (x28 : Bool), units_reader_escape.j1 v22 x28 = some r → ∀ (ρ : Nat → Nat) (w : World) (F : Heap) (a : Act), Cx 99 w0 F0 D w F [accP 5 kByte A24 c25 v22.2.2.out] [some ⟨52, [.v (.string ⟨⟨v22.2.2.s⟩⟩), .opt q23 0 1, .v (.slice A24 v22.2.2.out.length c25)]⟩] ρ [(2, .v (.bool x28))] a → K20 a w := by
                intro x28 h0  ρ w F a hX
                unfold units_reader_escape.j1 at h0
                refine hK20 _ _ ?_
                refine wp_ret ?_
                have hX : Cx 99 _ _ _ _ _ [accP 5 kByte A24 c25 v22.2.2.out] [some ⟨52, [.v (.string ⟨⟨v22.2.2.s⟩⟩), .opt q23 0 1, .v (.slice A24 v22.2.2.out.length c25)]⟩] ρ _ _ := hX
                have hX : Cx 99 _ _ _ _ _ [own_units_reader v22.2.2 (ρ 0)] [none] ρ _ _ := Cx.packP (Y := (Bool × Option Addr × Nat)) hX 0 ((q23, A24, c25) : (Bool × Option Addr × Nat)) rfl rfl rfl rfl (fun h => h)
                have hX : Cx 99 _ _ _ _ _ [own_units_reader v22.2.2 (ρ 0)] [none] ρ _ _ := hX
                have hr := Option.some.inj (show some _ = some _ from h0)
                subst hr
                exact hX.retH (M := [own_units_reader v22.2.2 (ρ 0)]) (ss := [.v (.bool x28)]) (by kernel_rfl) (by kernel_rfl) ⟨rfl, by rw [(hX.fix 0 _ (by rw [hD]; rfl)).2]⟩
              refine wp_region_list ?_
              refine hX.part [] 6 [0, 68] (l' := [(0, .ptr 0 0), (68, .v (.bool (v22.2.2.s == ([] : Str))))]) (B' := [some ⟨52, [.v (.string ⟨⟨v22.2.2.s⟩⟩), .opt q23 0 1, .v (.slice A24 v22.2.2.out.length c25)]⟩]) (by kernel_rfl) fun ρ w a hX => ?_
              refine ite_go h0 (fun hb h0 => ?_) (fun hb h0 => ?_)
              · have hX := hX.relit 68 hb (by kernel_rfl)
                refine hX.part [5, 13] 16 [2] (l' := [(2, .v (.bool true))]) (B' := [some ⟨52, [.v (.string ⟨⟨v22.2.2.s⟩⟩), .opt q23 0 1, .v (.slice A24 v22.2.2.out.length c25)]⟩]) (by kernel_rfl) fun ρ w a hX => ?_
                refine wpList_end ?_
                have hX := hX.keeps [2] (l' := [(2, .v (.bool true))]) (by kernel_rfl)
                exact J20 true h0  _ _ _ _ hX
              · have hX := hX.relit 68 hb (by kernel_rfl)
                refine hX.part [5] 4 [0, 68, 72] (l' := [(0, .ptr 0 0), (68, .v (.bool false)), (72, .v (.string ⟨⟨v22.2.2.s⟩⟩))]) (B' := [some ⟨52, [.v (.string ⟨⟨v22.2.2.s⟩⟩), .opt q23 0 1, .v (.slice A24 v22.2.2.out.length c25)]⟩]) (by kernel_rfl) fun ρ w a hX => ?_
                obtain ⟨v26, hv26, h0⟩ := bnd_some h0
                refine hX.idxStr (lit := [5]) (by kernel_rfl) (by kernel_rfl) rfl (s := v22.2.2.s) (k := .i64) (n := 0) (b := v26) (by kernel_rfl) (by kernel_rfl) (by kernel_rfl) hv26 fun a hX => ?_
                refine hX.part [5] 3 [0, 76] (l' := [(0, .ptr 0 0), (76, .v (.bool (decide (v26 < 48))))]) (B' := [some ⟨52, [.v (.string ⟨⟨v22.2.2.s⟩⟩), .opt q23 0 1, .v (.slice A24 v22.2.2.out.length c25)]⟩]) (by kernel_rfl) fun ρ w a hX => ?_
                refine ite_go h0 (fun hb h0 => ?_) (fun hb h0 => ?_)
                · have hX := hX.relit 76 hb (by kernel_rfl)
                  refine hX.part [13] 8 [2] (l' := [(2, .v (.bool true))]) (B' := [some ⟨52, [.v (.string ⟨⟨v22.2.2.s⟩⟩), .opt q23 0 1, .v (.slice A24 v22.2.2.out.length c25)]⟩]) (by kernel_rfl) fun ρ w a hX => ?_
                  refine wpList_end ?_
                  have hX := hX.keeps [2] (l' := [(2, .v (.bool true))]) (by kernel_rfl)
                  exact J20 true h0  _ _ _ _ hX
                · have hX := hX.relit 76 hb (by kernel_rfl)
                  refine hX.part [13] 4 [76, 80] (l' := [(76, .v (.bool false)), (80, .v (.string ⟨⟨v22.2.2.s⟩⟩))]) (B' := [some ⟨52, [.v (.string ⟨⟨v22.2.2.s⟩⟩), .opt q23 0 1, .v (.slice A24 v22.2.2.out.length c25)]⟩]) (by kernel_rfl) fun ρ w a hX => ?_
                  obtain ⟨v27, hv27, h0⟩ := bnd_some h0
                  refine hX.idxStr (lit := [13]) (by kernel_rfl) (by kernel_rfl) rfl (s := v22.2.2.s) (k := .i64) (n := 0) (b := v27) (by kernel_rfl) (by kernel_rfl) (by kernel_rfl) hv27 fun a hX => ?_
                  refine hX.part [13] 3 [2] (l' := [(2, .v (.bool (decide (v27 > 57))))]) (B' := [some ⟨52, [.v (.string ⟨⟨v22.2.2.s⟩⟩), .opt q23 0 1, .v (.slice A24 v22.2.2.out.length c25)]⟩]) (by kernel_rfl) fun ρ w a hX => ?_
                  refine wpList_end ?_
                  have hX := hX.keeps [2] (l' := [(2, .v (.bool (decide (v27 > 57))))]) (by kernel_rfl)
                  exact J20 (decide (v27 > 57)) h0  _ _ _ _ hX
            · have h0 := ite_ff h0 hb
              refine Cx.rseq hX [] [0, 3, 84] (l' := [(0, .ptr 0 0), (3, .v (.int .u8 v4)), (84, .v (.bool (((v4 == 13) || ((decide (v4 ≥ 49)) && (decide (v4 ≤ 57)))) || (decide (v4 ≥ 128)))))]) (B' := [some ⟨52, [.v (.string ⟨⟨v5⟩⟩), .opt q1 0 1, .v (.slice A2 r_.out.length c3)]⟩]) (by kernel_rfl) fun ρ w a hX => ?_
              refine Cx.cond hX (b := (((v4 == 13) || ((decide (v4 ≥ 49)) && (decide (v4 ≤ 57)))) || (decide (v4 ≥ 128)))) (by kernel_rfl) (fun hb => ?_) (fun hb => ?_)
              · have h0 := ite_tt h0 hb
                refine Cx.rseq hX [] [2] (l' := [(2, .v (.bool false))]) (B' := [some ⟨52, [.v (.string ⟨⟨v5⟩⟩), .opt q1 0 1, .v (.slice A2 r_.out.length c3)]⟩]) (by kernel_rfl) fun ρ w a hX => ?_
                refine wp_ret ?_
                have hX : Cx 99 _ _ _ _ _ [accP 5 kByte A2 c3 r_.out] [some ⟨52, [.v (.string ⟨⟨v5⟩⟩), .opt q1 0 1, .v (.slice A2 r_.out.length c3)]⟩] ρ _ _ := hX
                have hX : Cx 99 _ _ _ _ _ [own_units_reader ({ s := v5, out := r_.out } : T_units_reader) (ρ 0)] [none] ρ _ _ := Cx.packP (Y := (Bool × Option Addr × Nat)) hX 0 ((q1, A2, c3) : (Bool × Option Addr × Nat)) rfl rfl rfl rfl (fun h => h)
                have hX : Cx 99 _ _ _ _ _ [own_units_reader ({ s := v5, out := r_.out } : T_units_reader) (ρ 0)] [none] ρ _ _ := hX
                have hr := Option.some.inj (show some _ = some _ from h0)
                subst hr
                exact hX.retH (M := [own_units_reader ({ s := v5, out := r_.out } : T_units_reader) (ρ 0)]) (ss := [.v (.bool false)]) (by kernel_rfl) (by kernel_rfl) ⟨rfl, by rw [(hX.fix 0 _ (by rw [hD]; rfl)).2]⟩
              · have h0 := ite_ff h0 hb
                have hGd := hG.mono hX.st.le
                refine hX.draw rfl (n := 7) rfl #[false, false, false, false, false, false, false] (by kernel_rfl) fun w D' hDk back hX => ?_
                refine hX.dq 0 rfl rfl (listed' := #[true, false, false, false, false, false, false]) (by kernel_rfl) (by kernel_rfl) (s := .ptr 0 0) (by kernel_rfl) fun a hX => ?_
                refine hX.dq 1 rfl rfl (listed' := #[true, true, false, false, false, false, false]) (by kernel_rfl) (by kernel_rfl) (s := .ptr 0 0) (by kernel_rfl) fun a hX => ?_
                refine hX.dq 2 rfl rfl (listed' := #[true, true, true, false, false, false, false]) (by kernel_rfl) (by kernel_rfl) (s := .ptr 0 1) (by kernel_rfl) fun a hX => ?_
                refine hX.dq 3 rfl rfl (listed' := #[true, true, true, true, false, false, false]) (by kernel_rfl) (by kernel_rfl) (s := .v (.int .u8 v4)) (by kernel_rfl) fun a hX => ?_
                refine hX.dq 4 rfl rfl (listed' := #[true, true, true, true, true, false, false]) (by kernel_rfl) (by kernel_rfl) (s := .v (.int .i64 (IntKind.wrap .i64 v4))) (by kernel_rfl) fun a hX => ?_
                refine dseq (listed' := #[true, true, true, true, true, true, false]) 5 (by kernel_rfl) rfl (by kernel_rfl) ?_
                obtain ⟨v29, hv29, h0⟩ := bnd_some h0
                refine Cx.call0 hX (lit := []) (by kernel_rfl) rfl (by kernel_rfl) ⟨⟨_, Tryd.func38, by kernel_rfl, rfl⟩⟩ (ss := [.v (.int .i64 (IntKind.wrap .i64 v4))]) (by kernel_rfl) [.v (.int .i64 (IntKind.wrap .i64 v4))] rfl (fun hg => hg) (fun hv hle hg => units_unit.ok (IntKind.wrap .i64 v4) v29 hv29 _ _ hv (hGd.mono hle) hg _) (fun s F w a hp hX => ?_)
                subst hp
                refine dnext hX.st.sub0 ?_
                refine dseq (listed' := #[true, true, true, true, true, true, true]) 6 (by kernel_rfl) rfl (by kernel_rfl) ?_
                obtain ⟨v30, hv30, h0⟩ := bnd_some h0
                have hX : Cx 99 _ _ _ _ _ [accP 5 kByte A2 c3 r_.out] [some ⟨52, [.v (.string ⟨⟨v5⟩⟩), .opt q1 0 1, .v (.slice A2 r_.out.length c3)]⟩] ρ _ _ := hX
                have hX : Cx 99 _ _ _ _ _ [own_units_reader ({ s := v5, out := r_.out } : T_units_reader) (ρ 0)] [none] ρ _ _ := Cx.packP (Y := (Bool × Option Addr × Nat)) hX 0 ((q1, A2, c3) : (Bool × Option Addr × Nat)) rfl rfl rfl rfl (fun h => h)
                have hX : Cx 99 _ _ _ _ _ [own_units_reader ({ s := v5, out := r_.out } : T_units_reader) (ρ 0)] [none] ρ _ _ := hX
                refine Cx.callH (M := [own_units_reader ({ s := v5, out := r_.out } : T_units_reader) (ρ 0)]) (L := []) hX (lit := []) (by kernel_rfl) rfl (by kernel_rfl) ⟨⟨_, Tryd.func37, by kernel_rfl, rfl⟩⟩ (ss := [.ptr 0 1, .v (.string ⟨⟨v29⟩⟩)]) (by kernel_rfl) [.ptr 0 1, .v (.string ⟨⟨v29⟩⟩)] rfl (fun hg => ⟨trivial, hg.2.1, trivial⟩) [ρ 0] (fun D' hD' hv hle hg hst => strings_Builder_WriteString_at_units_reader_1.ok ({ s := v5, out := r_.out } : T_units_reader) v29 v30 hv30 _ _ hv (hGd.mono hle) hg (fun k => match k with | 0 => ρ 0 | _ => 0) D' hD' hst) (fun s F M w a hp hX => ?_)
                obtain ⟨hp, rfl⟩ := hp
                obtain ⟨_, _, rfl, rfl, rfl⟩ := hp
                have hX : Cx 99 _ _ _ _ _ [own_units_reader v30.2.2 (ρ 0)] [none] ρ _ _ := hX
                obtain ⟨⟨q31, A32, c33⟩, hX⟩ := Cx.unpackP (k := 0) (Y := (Bool × Option Addr × Nat)) (ty := 52) hX (fun (y : (Bool × Option Addr × Nat)) => [.v (.string ⟨⟨v30.2.2.s⟩⟩), .opt y.1 0 1, .v (.slice y.2.1 v30.2.2.out.length y.2.2)]) rfl (fun y => rfl) (fun y F h => h) (fun y => rfl)
                have hX : Cx 99 _ _ _ _ _ [accP 5 kByte A32 c33 v30.2.2.out] [some ⟨52, [.v (.string ⟨⟨v30.2.2.s⟩⟩), .opt q31 0 1, .v (.slice A32 v30.2.2.out.length c33)]⟩] ρ _ _ := hX
                refine dnext hX.st.sub0 ?_
                have hX := back hX
                refine ddone (by kernel_rfl) ?_
                have hX := hX.keeps [] (l' := []) (by kernel_rfl)
                exact J12 v30.2.2.s v30.2.2.out h0 q31 A32 c33 _ _ _ _ hX
def units_Read.j4 (x41 : Str) (x42 : Int) : Option ((Str × (List UInt8)) ⊕ ((Unit) ⊕ (Str × Int × Int))) :=
  some (.inr (.inr (x41, x42, 0)))
def units_Read.j5 (v34 : Int) (x47 : Bool) (x48 : Str) (x50 : List UInt8) : Option ((Str × (List UInt8)) ⊕ ((Unit) ⊕ (Str × Int × Int))) :=
  if x47 = true then
    some (.inr (.inr (([] : Str), 0, 10)))
  else
    if (v34 != 92) = true then
      Option.bind (units_unit (IntKind.wrap .i64 v34)) fun v53 =>
      Option.bind (strings_Builder_WriteString_at_units_reader_1 ({ s := x48, out := x50 } : T_units_reader) v53) fun v54 =>
      some (.inl (v54.2.2.s, v54.2.2.out))
    else
      some (.inl (x48, x50))
def units_Read.l1 (s_ : Str) (s : Str × (List UInt8)) : Option ((Str × (List UInt8)) ⊕ ((Unit) ⊕ (Str × Int × Int))) := match s with
  | (x29, x31) =>
  if (!(x29 == ([] : Str))) = true then
    Option.bind (getB x29 0) fun v34 =>
    Option.bind (cutL x29 1 ((x29.length : Nat) : Int)) fun v35 =>
    Option.bind (getB s_ 0) fun v36 =>
    if (v34 == v36) = true then
      Option.bind (strings_Builder_String_at_units_reader_1 ({ s := v35, out := x31 } : T_units_reader)) fun v37 =>
      units_Read.j4 v37 (IntKind.wrap .i64 (((s_.length : Nat) : Int) - (((({ s := v35, out := x31 } : T_units_reader).s).length : Nat) : Int)))
    else
      if (((v34 == 10) || (v34 == 13)) || (decide (v34 ≥ 128))) = true then
        units_Read.j5 v34 (((v34 == 10) || (v34 == 13)) || (decide (v34 ≥ 128))) v35 x31
      else
        if (v34 == 92) = true then
          Option.bind (units_reader_escape ({ s := v35, out := x31 } : T_units_reader)) fun v43 =>
          units_Read.j5 v34 (!v43.1) v43.2.s v43.2.out
        else
          units_Read.j5 v34 false v35 x31
  else
    some (.inr (.inl ()))
def units_Read.j1 (s_ : Str) (x3 : Bool) : Option (Str × Int × Int) :=
  if x3 = true then
    some (([] : Str), 0, 10)
  else
    Option.bind (cutL s_ 1 ((s_.length : Nat) : Int)) fun v4 =>
    Option.bind (loopM (units_Read.l1 s_) (v4, [])) fun e => match e with
    | (.inl ()) =>
      some (([] : Str), 0, 10)
    | (.inr r63) =>
      some r63
def units_Read (s_ : Str) : Option (Str × Int × Int) :=
  if (s_ == ([] : Str)) = true then
    units_Read.j1 s_ true
  else
    Option.bind (getB s_ 0) fun v1 =>
    if (v1 != 39) = true then
      Option.bind (getB s_ 0) fun v2 =>
      units_Read.j1 s_ (v2 != 34)
    else
      units_Read.j1 s_ false
theorem units_Read.ok (s_ : Str) (r : Str × Int × Int) (h0 : units_Read s_ = some r) (w0 : World) (F0 : Heap) (hv : F0.Sub w0) (hG : Glob F0) (hg : SV.goods F0 [.v (.string ⟨⟨s_⟩⟩)]) (ρ : Nat → Nat) :
    Calls Tryd.prog 19 (SV.dens ρ [.v (.string ⟨⟨s_⟩⟩)]).toArray w0 (Ret0 w0 F0 fun s => ∃ s1 s2 s3, s = .tup [s1, s2, s3] ∧ (s1 = .v (.string ⟨⟨r.1⟩⟩)) ∧ (s2 = .v (.int .i64 r.2.1)) ∧ (s3 = .v (.int .i64 r.2.2))) := by
  refine calls_of_wp Tryd.func19 rfl ?_
  have hX := Cx.enter (D := No) (B := []) (L := []) (ρ := ρ) (N := 86) Tryd.ntmps19 [.v (.string ⟨⟨s_⟩⟩)] (St.start hv) rfl hg (by kernel_rfl) (fun _ h => by cases h) (Nat.le_of_ble_eq_true rfl) No.unfix
  unfold units_Read at h0
  refine Cx.rseq hX [] [0] (l' := [(0, .v (.string ⟨⟨s_⟩⟩))]) (B' := []) (by kernel_rfl) fun ρ w a hX => ?_
  refine wp_seq_k fun K2 hK2 => ?_
  refine wp_seq_k fun K3 hK3 => ?_
  have J3 : ∀ (x3 : Bool), units_Read.j1 s_ x3 = some r → ∀ (ρ : Nat → Nat) (w : World) (F : Heap) (a : Act), Cx 86 w0 F0 No w F [] [] ρ [(0, .v (.string ⟨⟨s_⟩⟩)), (18, .v (.bool x3))] a → K3 a w := by
    intro x3 h0  ρ w F a hX
    unfold units_Read.j1 at h0
    refine hK3 _ _ ?_
    refine Cx.cond hX (b := x3) (by kernel_rfl) (fun hb => ?_) (fun hb => ?_)
    · have h0 := ite_tt h0 hb
      refine Cx.rseq hX [] [2, 3, 4] (l' := [(2, .v (.string ⟨⟨([] : Str)⟩⟩)), (3, .v (.int .i64 0)), (4, .v (.int .i64 10))]) (B' := []) (by kernel_rfl) fun ρ w a hX => ?_
      refine wp_ret ?_
      have hr := Option.some.inj (show some _ = some _ from h0)
      subst hr
      exact hX.ret0 (ss := [.v (.string ⟨⟨([] : Str)⟩⟩), .v (.int .i64 0), .v (.int .i64 10)]) (by kernel_rfl) (by kernel_rfl) ⟨_, _, _, rfl, rfl, rfl, rfl⟩
    · have h0 := ite_ff h0 hb
      refine wp_skip ?_
      refine hK2 _ _ ?_
      refine wp_seq_k fun K5 hK5 => ?_
      refine wp_region_list ?_
      refine hX.part [] 1 [0, 19] (l' := [(0, .v (.string ⟨⟨s_⟩⟩)), (19, .v (.string ⟨⟨s_⟩⟩))]) (B' := []) (by kernel_rfl) fun ρ w a hX => ?_
      obtain ⟨v4, hv4, h0⟩ := bnd_some h0
      refine hX.cutStr (lit := []) (by kernel_rfl) (by kernel_rfl) rfl (s := s_) (ol := some 1) (oh := none) (r := v4) (by kernel_rfl) (by kernel_rfl) (by kernel_rfl) (by kernel_rfl) hv4 fun a hX => ?_
      refine hX.part [] 3 [0, 5] (l' := [(0, .v (.string ⟨⟨s_⟩⟩)), (5, .ptr 0 0)]) (B' := [some ⟨52, [.v (.string ⟨⟨v4⟩⟩), .v (.pointer none), .v (.slice none 0 0)]⟩]) (by kernel_rfl) fun ρ w a hX => ?_
      refine wpList_end ?_
      refine hK5 _ _ ?_
      refine wp_seq_k fun K6 hK6 => ?_
      refine wp_block ?_
      have hX := hX.newAcc 5 kByte
      have hX := hX.rebox 0 (b := ⟨52, [.v (.string ⟨⟨v4⟩⟩), .v (.pointer none), .v (.slice none 0 0)]⟩) (cs := [.v (.string ⟨⟨v4⟩⟩), .opt false 0 1, .v (.slice none ([] : List UInt8).length 0)]) (B' := [some ⟨52, [.v (.string ⟨⟨v4⟩⟩), .opt false 0 1, .v (.slice none ([] : List UInt8).length 0)]⟩]) (by kernel_rfl) (fun ρ => by rfl) (by have hg := (hX.bgood ⟨52, [.v (.string ⟨⟨v4⟩⟩), .v (.pointer none), .v (.slice none 0 0)]⟩ (List.mem_of_getElem? (i := 0) (by kernel_rfl))).1; exact ⟨trivial, trivial, trivial, trivial⟩) (by kernel_rfl) (by kernel_rfl)
      have hX := hX.keeps [0, 5] (l' := [(0, .v (.string ⟨⟨s_⟩⟩)), (5, .ptr 0 0)]) (by kernel_rfl)
      obtain ⟨e1, he1, h0⟩ := bnd_some h0
      have E1x0 : ∀ (_ : Unit), e1 = (.inl ()) → ∀ (ρ : Nat → Nat) (w : World) (F : Heap) (a : Act), Cx 86 w0 F0 No w F [] [] ρ [] a → K6 a w := by
        intro _ he  ρ w F a hX
        replace he := he.symm
        subst he
        (try dsimp only at h0)
        refine hK6 _ _ ?_
        refine Cx.rseq hX [] [2, 3, 4] (l' := [(2, .v (.string ⟨⟨([] : Str)⟩⟩)), (3, .v (.int .i64 0)), (4, .v (.int .i64 10))]) (B' := []) (by kernel_rfl) fun ρ w a hX => ?_
        refine wp_ret ?_
        have hr := Option.some.inj (show some _ = some _ from h0)
        subst hr
        exact hX.ret0 (ss := [.v (.string ⟨⟨([] : Str)⟩⟩), .v (.int .i64 0), .v (.int .i64 10)]) (by kernel_rfl) (by kernel_rfl) ⟨_, _, _, rfl, rfl, rfl, rfl⟩
      refine loop_go (fun (s : Str × (List UInt8)) a w => match s with | (x29, x31) => ∃ (q30 : Bool) (A32 : Option Addr) (c33 : Nat) (ρ : Nat → Nat) (F : Heap), Cx 86 w0 F0 No w F [accP 5 kByte A32 c33 x31] [some ⟨52, [.v (.string ⟨⟨x29⟩⟩), .opt q30 0 1, .v (.slice A32 x31.length c33)]⟩] ρ [(0, .v (.string ⟨⟨s_⟩⟩)), (5, .ptr 0 0)] a) he1 (fun LW1 s o1 h1 hb1 hx1 a w hI => ?_) _ _ ?_
      · obtain ⟨x29, x31⟩ := s
        obtain ⟨q30, A32, c33, ρ, F, hX⟩ := hI
        unfold units_Read.l1 at h1
        (try dsimp only at h1)
        refine wp_seq_k fun K17 hK17 => ?_
        refine Cx.rseq hX [] [0, 5, 27] (l' := [(0, .v (.string ⟨⟨s_⟩⟩)), (5, .ptr 0 0), (27, .v (.bool (!(x29 == ([] : Str)))))]) (B' := [some ⟨52, [.v (.string ⟨⟨x29⟩⟩), .opt q30 0 1, .v (.slice A32 x31.length c33)]⟩]) (by kernel_rfl) fun ρ w a hX => ?_
        refine Cx.cond hX (b := (!(x29 == ([] : Str)))) (by kernel_rfl) (fun hb => ?_) (fun hb => ?_)
        · have h1 := ite_tt h1 hb
          refine wp_skip ?_
          refine hK17 _ _ ?_
          refine wp_block ?_
          refine wp_seq_k fun K19 hK19 => ?_
          refine wp_region_list ?_
          refine hX.part [] 4 [0, 5, 31] (l' := [(0, .v (.string ⟨⟨s_⟩⟩)), (5, .ptr 0 0), (31, .v (.string ⟨⟨x29⟩⟩))]) (B' := [some ⟨52, [.v (.string ⟨⟨x29⟩⟩), .opt q30 0 1, .v (.slice A32 x31.length c33)]⟩]) (by kernel_rfl) fun ρ w a hX => ?_
          obtain ⟨v34, hv34, h1⟩ := bnd_some h1
          refine hX.idxStr (lit := []) (by kernel_rfl) (by kernel_rfl) rfl (s := x29) (k := .i64) (n := 0) (b := v34) (by kernel_rfl) (by kernel_rfl) (by kernel_rfl) hv34 fun a hX => ?_
          refine hX.part [] 1 [0, 5, 6] (l' := [(0, .v (.string ⟨⟨s_⟩⟩)), (5, .ptr 0 0), (6, .v (.int .u8 v34))]) (B' := [some ⟨52, [.v (.string ⟨⟨x29⟩⟩), .opt q30 0 1, .v (.slice A32 x31.length c33)]⟩]) (by kernel_rfl) fun ρ w a hX => ?_
          refine wpList_end ?_
          refine hK19 _ _ ?_
          refine wp_seq_k fun K20 hK20 => ?_
          refine wp_region_list ?_
          refine hX.part [] 5 [0, 5, 6, 33, 37] (l' := [(0, .v (.string ⟨⟨s_⟩⟩)), (5, .ptr 0 0), (6, .v (.int .u8 v34)), (33, .ptr 0 0), (37, .v (.string ⟨⟨x29⟩⟩))]) (B' := [some ⟨52, [.v (.string ⟨⟨x29⟩⟩), .opt q30 0 1, .v (.slice A32 x31.length c33)]⟩]) (by kernel_rfl) fun ρ w a hX => ?_
          obtain ⟨v35, hv35, h1⟩ := bnd_some h1
          refine hX.cutStr (lit := []) (by kernel_rfl) (by kernel_rfl) rfl (s := x29) (ol := some 1) (oh := none) (r := v35) (by kernel_rfl) (by kernel_rfl) (by kernel_rfl) (by kernel_rfl) hv35 fun a hX => ?_
          refine hX.part [] 3 [0, 5, 6] (l' := [(0, .v (.string ⟨⟨s_⟩⟩)), (5, .ptr 0 0), (6, .v (.int .u8 v34))]) (B' := [some ⟨52, [.v (.string ⟨⟨v35⟩⟩), .opt q30 0 1, .v (.slice A32 x31.length c33)]⟩]) (by kernel_rfl) fun ρ w a hX => ?_
          refine wpList_end ?_
          refine hK20 _ _ ?_
          refine wp_block ?_
          refine wp_seq_k fun K21 hK21 => ?_
          refine wp_region_list ?_
          refine hX.part [] 2 [0, 5, 6, 42, 43] (l' := [(0, .v (.string ⟨⟨s_⟩⟩)), (5, .ptr 0 0), (6, .v (.int .u8 v34)), (42, .v (.int .u8 v34)), (43, .v (.string ⟨⟨s_⟩⟩))]) (B' := [some ⟨52, [.v (.string ⟨⟨v35⟩⟩), .opt q30 0 1, .v (.slice A32 x31.length c33)]⟩]) (by kernel_rfl) fun ρ w a hX => ?_
          obtain ⟨v36, hv36, h1⟩ := bnd_some h1
          refine hX.idxStr (lit := []) (by kernel_rfl) (by kernel_rfl) rfl (s := s_) (k := .i64) (n := 0) (b := v36) (by kernel_rfl) (by kernel_rfl) (by kernel_rfl) hv36 fun a hX => ?_
          refine hX.part [] 2 [0, 5, 6, 41] (l' := [(0, .v (.string ⟨⟨s_⟩⟩)), (5, .ptr 0 0), (6, .v (.int .u8 v34)), (41, .v (.bool (v34 == v36)))]) (B' := [some ⟨52, [.v (.string ⟨⟨v35⟩⟩), .opt q30 0 1, .v (.slice A32 x31.length c33)]⟩]) (by kernel_rfl) fun ρ w a hX => ?_
          refine wpList_end ?_
          refine hK21 _ _ ?_
          refine Cx.cond hX (b := (v34 == v36)) (by kernel_rfl) (fun hb => ?_) (fun hb => ?_)
          · have h1 := ite_tt h1 hb
            refine wp_seq_k fun K22 hK22 => ?_
            have J22 : ∀ (x41 : Str) (x42 : Int), units_Read.j4 x41 x42 = some o1 → ∀ (ρ : Nat → Nat) (w : World) (F : Heap) (a : Act), Cx 86 w0 F0 No w F [] [] ρ [(2, .v (.string ⟨⟨x41⟩⟩)), (3, .v (.int .i64 x42)), (4, .v (.int .i64 0))] a → K22 a w := by
              intro x41 x42 h1  ρ w F a hX
              unfold units_Read.j4 at h1
              refine hK22 _ _ ?_
              refine wp_ret ?_
              have he := hx1 _ (out_eq h1)
              subst he
              (try dsimp only at h0)
              have hr := Option.some.inj (show some _ = some _ from h0)
              subst hr
              exact hX.ret0 (ss := [.v (.string ⟨⟨x41⟩⟩), .v (.int .i64 x42), .v (.int .i64 0)]) (by kernel_rfl) (by kernel_rfl) ⟨_, _, _, rfl, rfl, rfl, rfl⟩
            obtain ⟨v37, hv37, h1⟩ := bnd_some h1
            have hGd := hG.mono hX.st.le
            refine hX.draw rfl (n := 15) rfl #[false, false, false, false, false, false, false, false, false, false, false, false, false, false, false] (by kernel_rfl) fun w D' hDk back hX => ?_
            refine hX.dq 0 rfl rfl (listed' := #[true, false, false, false, false, false, false, false, false, false, false, false, false, false, false]) (by kernel_rfl) (by kernel_rfl) (s := .ptr 0 0) (by kernel_rfl) fun a hX => ?_
            refine hX.dq 1 rfl rfl (listed' := #[true, true, false, false, false, false, false, false, false, false, false, false, false, false, false]) (by kernel_rfl) (by kernel_rfl) (s := .ptr 0 0) (by kernel_rfl) fun a hX => ?_
            refine hX.dq 2 rfl rfl (listed' := #[true, true, true, false, false, false, false, false, false, false, false, false, false, false, false]) (by kernel_rfl) (by kernel_rfl) (s := .ptr 0 1) (by kernel_rfl) fun a hX => ?_
            refine hX.dq 4 rfl rfl (listed' := #[true, true, true, false, true, false, false, false, false, false, false, false, false, false, false]) (by kernel_rfl) (by kernel_rfl) (s := .v (.string ⟨⟨s_⟩⟩)) (by kernel_rfl) fun a hX => ?_
            refine hX.dq 5 rfl rfl (listed' := #[true, true, true, false, true, true, false, false, false, false, false, false, false, false, false]) (by kernel_rfl) (by kernel_rfl) (s := .v (.int .i64 ((s_.length : Nat) : Int))) (by kernel_rfl) fun a hX => ?_
            refine hX.dq 6 rfl rfl (listed' := #[true, true, true, false, true, true, true, false, false, false, false, false, false, false, false]) (by kernel_rfl) (by kernel_rfl) (s := .ptr 0 0) (by kernel_rfl) fun a hX => ?_
            refine hX.dq 7 rfl rfl (listed' := #[true, true, true, false, true, true, true, true, false, false, false, false, false, false, false]) (by kernel_rfl) (by kernel_rfl) (s := .ptr 0 0) (by kernel_rfl) fun a hX => ?_
            refine hX.dq 8 rfl rfl (listed' := #[true, true, true, false, true, true, true, true, true, false, false, false, false, false, false]) (by kernel_rfl) (by kernel_rfl) (s := .ptr 0 0) (by kernel_rfl) fun a hX => ?_
            refine dord (r := [3, 9]) (by kernel_rfl) (by decide) fun i hi => ?_
            simp only [List.mem_cons, List.not_mem_nil, or_false] at hi
            rcases hi with rfl | rfl
            · refine dtry (listed' := #[true, true, true, true, true, true, true, true, true, false, false, false, false, false, false]) 3 rfl (by kernel_rfl) ?_
              have hX : Cx 86 _ _ _ _ _ [accP 5 kByte A32 c33 x31] [some ⟨52, [.v (.string ⟨⟨v35⟩⟩), .opt q30 0 1, .v (.slice A32 x31.length c33)]⟩] ρ _ _ := hX
              have hX : Cx 86 _ _ _ _ _ [own_units_reader ({ s := v35, out := x31 } : T_units_reader) (ρ 0)] [none] ρ _ _ := Cx.packP (Y := (Bool × Option Addr × Nat)) hX 0 ((q30, A32, c33) : (Bool × Option Addr × Nat)) rfl rfl rfl rfl (fun h => h)
              have hX : Cx 86 _ _ _ _ _ [own_units_reader ({ s := v35, out := x31 } : T_units_reader) (ρ 0)] [none] ρ _ _ := hX
              refine Cx.callH (M := [own_units_reader ({ s := v35, out := x31 } : T_units_reader) (ρ 0)]) (L := []) hX (lit := []) (by kernel_rfl) rfl (by kernel_rfl) ⟨⟨_, Tryd.func35, by kernel_rfl, rfl⟩⟩ (ss := [.ptr 0 1]) (by kernel_rfl) [.ptr 0 1] rfl (fun hg => ⟨trivial, trivial⟩) [ρ 0] (fun D' hD' hv hle hg hst => strings_Builder_String_at_units_reader_1.ok ({ s := v35, out := x31 } : T_units_reader) v37 hv37 _ _ hv (hGd.mono hle) hg (fun k => match k with | 0 => ρ 0 | _ => 0) D' hD' hst) (fun s F M w a hp hX => ?_)
              obtain ⟨hp, rfl⟩ := hp
              subst hp
              have hX : Cx 86 _ _ _ _ _ [own_units_reader_d ({ s := v35, out := x31 } : T_units_reader) (ρ 0)] [none] ρ _ _ := hX
              obtain ⟨⟨q38, A39, c40⟩, hX⟩ := Cx.unpackP (k := 0) (Y := (Bool × Option Addr × Nat)) (ty := 52) hX (fun (y : (Bool × Option Addr × Nat)) => [.v (.string ⟨⟨({ s := v35, out := x31 } : T_units_reader).s⟩⟩), .opt y.1 0 1, .v (.slice y.2.1 (({ s := v35, out := x31 } : T_units_reader).out).length y.2.2)]) rfl (fun y => rfl) (fun y F h => h) (fun y => rfl)
              have hX : Cx 86 _ _ _ _ _ [] [some ⟨52, [.v (.string ⟨⟨({ s := v35, out := x31 } : T_units_reader).s⟩⟩), .opt q38 0 1, .v (.slice A39 (({ s := v35, out := x31 } : T_units_reader).out).length c40)]⟩] ρ _ _ := hX
              refine dnext hX.st.sub0 ?_
              refine dord (r := [9, 12]) (by kernel_rfl) (by decide) fun i hi => ?_
              simp only [List.mem_cons, List.not_mem_nil, or_false] at hi
              rcases hi with rfl | rfl
              · refine dtry (listed' := #[true, true, true, true, true, true, true, true, true, true, false, false, false, false, false]) 9 rfl (by kernel_rfl) ?_
                refine hX.part [] 1 [0, 5, 6, 41, 46, 47, 48, 49, 50, 51, 52, 53, 54, 55] (l' := [(0, .v (.string ⟨⟨s_⟩⟩)), (5, .ptr 0 0), (6, .v (.int .u8 v34)), (41, .v (.bool (v34 == v36))), (46, .ptr 0 0), (47, .ptr 0 0), (48, .ptr 0 1), (49, .v (.string ⟨⟨v37⟩⟩)), (50, .v (.string ⟨⟨s_⟩⟩)), (51, .v (.int .i64 ((s_.length : Nat) : Int))), (52, .ptr 0 0), (53, .ptr 0 0), (54, .ptr 0 0), (55, .v (.string ⟨⟨({ s := v35, out := x31 } : T_units_reader).s⟩⟩))]) (B' := [some ⟨52, [.v (.string ⟨⟨({ s := v35, out := x31 } : T_units_reader).s⟩⟩), .opt q38 0 1, .v (.slice A39 (({ s := v35, out := x31 } : T_units_reader).out).length c40)]⟩]) (by kernel_rfl) fun ρ w a hX => ?_
                refine dnext hX.st.sub0 ?_
                refine dord (r := [10, 12]) (by kernel_rfl) (by decide) fun i hi => ?_
                simp only [List.mem_cons, List.not_mem_nil, or_false] at hi
                rcases hi with rfl | rfl
                · refine dtry (listed' := #[true, true, true, true, true, true, true, true, true, true, true, false, false, false, false]) 10 rfl (by kernel_rfl) ?_
                  refine hX.part [] 1 [0, 5, 6, 41, 46, 47, 48, 49, 50, 51, 52, 53, 54, 55, 56] (l' := [(0, .v (.string ⟨⟨s_⟩⟩)), (5, .ptr 0 0), (6, .v (.int .u8 v34)), (41, .v (.bool (v34 == v36))), (46, .ptr 0 0), (47, .ptr 0 0), (48, .ptr 0 1), (49, .v (.string ⟨⟨v37⟩⟩)), (50, .v (.string ⟨⟨s_⟩⟩)), (51, .v (.int .i64 ((s_.length : Nat) : Int))), (52, .ptr 0 0), (53, .ptr 0 0), (54, .ptr 0 0), (55, .v (.string ⟨⟨({ s := v35, out := x31 } : T_units_reader).s⟩⟩)), (56, .v (.int .i64 (((({ s := v35, out := x31 } : T_units_reader).s).length : Nat) : Int)))]) (B' := [some ⟨52, [.v (.string ⟨⟨({ s := v35, out := x31 } : T_units_reader).s⟩⟩), .opt q38 0 1, .v (.slice A39 (({ s := v35, out := x31 } : T_units_reader).out).length c40)]⟩]) (by kernel_rfl) fun ρ w a hX => ?_
                  refine dnext hX.st.sub0 ?_
                  refine dord (r := [11, 12]) (by kernel_rfl) (by decide) fun i hi => ?_
                  simp only [List.mem_cons, List.not_mem_nil, or_false] at hi
                  rcases hi with rfl | rfl
                  · refine dtry (listed' := #[true, true, true, true, true, true, true, true, true, true, true, true, false, false, false]) 11 rfl (by kernel_rfl) ?_
                    refine hX.part [] 1 [0, 5, 6, 41, 46, 47, 48, 49, 50, 51, 52, 53, 54, 55, 56, 57] (l' := [(0, .v (.string ⟨⟨s_⟩⟩)), (5, .ptr 0 0), (6, .v (.int .u8 v34)), (41, .v (.bool (v34 == v36))), (46, .ptr 0 0), (47, .ptr 0 0), (48, .ptr 0 1), (49, .v (.string ⟨⟨v37⟩⟩)), (50, .v (.string ⟨⟨s_⟩⟩)), (51, .v (.int .i64 ((s_.length : Nat) : Int))), (52, .ptr 0 0), (53, .ptr 0 0), (54, .ptr 0 0), (55, .v (.string ⟨⟨({ s := v35, out := x31 } : T_units_reader).s⟩⟩)), (56, .v (.int .i64 (((({ s := v35, out := x31 } : T_units_reader).s).length : Nat) : Int))), (57, .v (.int .i64 (IntKind.wrap .i64 (((s_.length : Nat) : Int) - (((({ s := v35, out := x31 } : T_units_reader).s).length : Nat) : Int)))))]) (B' := [some ⟨52, [.v (.string ⟨⟨({ s := v35, out := x31 } : T_units_reader).s⟩⟩), .opt q38 0 1, .v (.slice A39 (({ s := v35, out := x31 } : T_units_reader).out).length c40)]⟩]) (by kernel_rfl) fun ρ w a hX => ?_
                    refine dnext hX.st.sub0 ?_
                    refine dseq (listed' := #[true, true, true, true, true, true, true, true, true, true, true, true, true, false, false]) 12 (by kernel_rfl) rfl (by kernel_rfl) ?_
                    refine hX.part [] 1 [0, 2, 5, 6, 41, 46, 47, 48, 49, 50, 51, 52, 53, 54, 55, 56, 57] (l' := [(0, .v (.string ⟨⟨s_⟩⟩)), (2, .v (.string ⟨⟨v37⟩⟩)), (5, .ptr 0 0), (6, .v (.int .u8 v34)), (41, .v (.bool (v34 == v36))), (46, .ptr 0 0), (47, .ptr 0 0), (48, .ptr 0 1), (49, .v (.string ⟨⟨v37⟩⟩)), (50, .v (.string ⟨⟨s_⟩⟩)), (51, .v (.int .i64 ((s_.length : Nat) : Int))), (52, .ptr 0 0), (53, .ptr 0 0), (54, .ptr 0 0), (55, .v (.string ⟨⟨({ s := v35, out := x31 } : T_units_reader).s⟩⟩)), (56, .v (.int .i64 (((({ s := v35, out := x31 } : T_units_reader).s).length : Nat) : Int))), (57, .v (.int .i64 (IntKind.wrap .i64 (((s_.length : Nat) : Int) - (((({ s := v35, out := x31 } : T_units_reader).s).length : Nat) : Int)))))]) (B' := [some ⟨52, [.v (.string ⟨⟨({ s := v35, out := x31 } : T_units_reader).s⟩⟩), .opt q38 0 1, .v (.slice A39 (({ s := v35, out := x31 } : T_units_reader).out).length c40)]⟩]) (by kernel_rfl) fun ρ w a hX => ?_
                    refine dnext hX.st.sub0 ?_
                    refine dseq (listed' := #[true, true, true, true, true, true, true, true, true, true, true, true, true, true, false]) 13 (by kernel_rfl) rfl (by kernel_rfl) ?_
                    refine hX.part [] 1 [0, 2, 3, 5, 6, 41, 46, 47, 48, 49, 50, 51, 52, 53, 54, 55, 56, 57] (l' := [(0, .v (.string ⟨⟨s_⟩⟩)), (2, .v (.string ⟨⟨v37⟩⟩)), (3, .v (.int .i64 (IntKind.wrap .i64 (((s_.length : Nat) : Int) - (((({ s := v35, out := x31 } : T_units_reader).s).length : Nat) : Int))))), (5, .ptr 0 0), (6, .v (.int .u8 v34)), (41, .v (.bool (v34 == v36))), (46, .ptr 0 0), (47, .ptr 0 0), (48, .ptr 0 1), (49, .v (.string ⟨⟨v37⟩⟩)), (50, .v (.string ⟨⟨s_⟩⟩)), (51, .v (.int .i64 ((s_.length : Nat) : Int))), (52, .ptr 0 0), (53, .ptr 0 0), (54, .ptr 0 0), (55, .v (.string ⟨⟨({ s := v35, out := x31 } : T_units_reader).s⟩⟩)), (56, .v (.int .i64 (((({ s := v35, out := x31 } : T_units_reader).s).length : Nat) : Int))), (57, .v (.int .i64 (IntKind.wrap .i64 (((s_.length : Nat) : Int) - (((({ s := v35, out := x31 } : T_units_reader).s).length : Nat) : Int)))))]) (B' := [some ⟨52, [.v (.string ⟨⟨({ s := v35, out := x31 } : T_units_reader).s⟩⟩), .opt q38 0 1, .v (.slice A39 (({ s := v35, out := x31 } : T_units_reader).out).length c40)]⟩]) (by kernel_rfl) fun ρ w a hX => ?_
                    refine dnext hX.st.sub0 ?_
                    refine dseq (listed' := #[true, true, true, true, true, true, true, true, true, true, true, true, true, true, true]) 14 (by kernel_rfl) rfl (by kernel_rfl) ?_
                    refine hX.part [] 1 [0, 2, 3, 4, 5, 6, 41, 46, 47, 48, 49, 50, 51, 52, 53, 54, 55, 56, 57] (l' := [(0, .v (.string ⟨⟨s_⟩⟩)), (2, .v (.string ⟨⟨v37⟩⟩)), (3, .v (.int .i64 (IntKind.wrap .i64 (((s_.length : Nat) : Int) - (((({ s := v35, out := x31 } : T_units_reader).s).length : Nat) : Int))))), (4, .v (.int .i64 0)), (5, .ptr 0 0), (6, .v (.int .u8 v34)), (41, .v (.bool (v34 == v36))), (46, .ptr 0 0), (47, .ptr 0 0), (48, .ptr 0 1), (49, .v (.string ⟨⟨v37⟩⟩)), (50, .v (.string ⟨⟨s_⟩⟩)), (51, .v (.int .i64 ((s_.length : Nat) : Int))), (52, .ptr 0 0), (53, .ptr 0 0), (54, .ptr 0 0), (55, .v (.string ⟨⟨({ s := v35, out := x31 } : T_units_reader).s⟩⟩)), (56, .v (.int .i64 (((({ s := v35, out := x31 } : T_units_reader).s).length : Nat) : Int))), (57, .v (.int .i64 (IntKind.wrap .i64 (((s_.length : Nat) : Int) - (((({ s := v35, out := x31 } : T_units_reader).s).length : Nat) : Int)))))]) (B' := [some ⟨52, [.v (.string ⟨⟨({ s := v35, out := x31 } : T_units_reader).s⟩⟩), .opt q38 0 1, .v (.slice A39 (({ s := v35, out := x31 } : T_units_reader).out).length c40)]⟩]) (by kernel_rfl) fun ρ w a hX => ?_
                    refine dnext hX.st.sub0 ?_
                    have hX := back hX
                    refine ddone (by kernel_rfl) ?_
                    have hX := hX.keeps [2, 3, 4] (l' := [(2, .v (.string ⟨⟨v37⟩⟩)), (3, .v (.int .i64 (IntKind.wrap .i64 (((s_.length : Nat) : Int) - (((({ s := v35, out := x31 } : T_units_reader).s).length : Nat) : Int))))), (4, .v (.int .i64 0))]) (by kernel_rfl)
                    have hX := hX.shrink 0 (B' := []) (by kernel_rfl) (Nat.le_of_ble_eq_true rfl) (by kernel_rfl) (by kernel_rfl) (Nat.zero_le _)
                    exact J22 v37 (IntKind.wrap .i64 (((s_.length : Nat) : Int) - (((({ s := v35, out := x31 } : T_units_reader).s).length : Nat) : Int))) h1  _ _ _ _ hX
                  · refine dtry (listed' := #[true, true, true, true, true, true, true, true, true, true, true, false, true, false, false]) 12 rfl (by kernel_rfl) ?_
                    refine hX.part [] 1 [0, 2, 5, 6, 41, 46, 47, 48, 49, 50, 51, 52, 53, 54, 55, 56] (l' := [(0, .v (.string ⟨⟨s_⟩⟩)), (2, .v (.string ⟨⟨v37⟩⟩)), (5, .ptr 0 0), (6, .v (.int .u8 v34)), (41, .v (.bool (v34 == v36))), (46, .ptr 0 0), (47, .ptr 0 0), (48, .ptr 0 1), (49, .v (.string ⟨⟨v37⟩⟩)), (50, .v (.string ⟨⟨s_⟩⟩)), (51, .v (.int .i64 ((s_.length : Nat) : Int))), (52, .ptr 0 0), (53, .ptr 0 0), (54, .ptr 0 0), (55, .v (.string ⟨⟨({ s := v35, out := x31 } : T_units_reader).s⟩⟩)), (56, .v (.int .i64 (((({ s := v35, out := x31 } : T_units_reader).s).length : Nat) : Int)))]) (B' := [some ⟨52, [.v (.string ⟨⟨({ s := v35, out := x31 } : T_units_reader).s⟩⟩), .opt q38 0 1, .v (.slice A39 (({ s := v35, out := x31 } : T_units_reader).out).length c40)]⟩]) (by kernel_rfl) fun ρ w a hX => ?_
                    refine dnext hX.st.sub0 ?_
                    refine dseq (listed' := #[true, true, true, true, true, true, true, true, true, true, true, true, true, false, false]) 11 (by kernel_rfl) rfl (by kernel_rfl) ?_
                    refine hX.part [] 1 [0, 2, 5, 6, 41, 46, 47, 48, 49, 50, 51, 52, 53, 54, 55, 56, 57] (l' := [(0, .v (.string ⟨⟨s_⟩⟩)), (2, .v (.string ⟨⟨v37⟩⟩)), (5, .ptr 0 0), (6, .v (.int .u8 v34)), (41, .v (.bool (v34 == v36))), (46, .ptr 0 0), (47, .ptr 0 0), (48, .ptr 0 1), (49, .v (.string ⟨⟨v37⟩⟩)), (50, .v (.string ⟨⟨s_⟩⟩)), (51, .v (.int .i64 ((s_.length : Nat) : Int))), (52, .ptr 0 0), (53, .ptr 0 0), (54, .ptr 0 0), (55, .v (.string ⟨⟨({ s := v35, out := x31 } : T_units_reader).s⟩⟩)), (56, .v (.int .i64 (((({ s := v35, out := x31 } : T_units_reader).s).length : Nat) : Int))), (57, .v (.int .i64 (IntKind.wrap .i64 (((s_.length : Nat) : Int) - (((({ s := v35, out := x31 } : T_units_reader).s).length : Nat) : Int)))))]) (B' := [some ⟨52, [.v (.string ⟨⟨({ s := v35, out := x31 } : T_units_reader).s⟩⟩), .opt q38 0 1, .v (.slice A39 (({ s := v35, out := x31 } : T_units_reader).out).length c40)]⟩]) (by kernel_rfl) fun ρ w a hX => ?_
                    refine dnext hX.st.sub0 ?_
                    refine dseq (listed' := #[true, true, true, true, true, true, true, true, true, true, true, true, true, true, false]) 13 (by kernel_rfl) rfl (by kernel_rfl) ?_
                    refine hX.part [] 1 [0, 2, 3, 5, 6, 41, 46, 47, 48, 49, 50, 51, 52, 53, 54, 55, 56, 57] (l' := [(0, .v (.string ⟨⟨s_⟩⟩)), (2, .v (.string ⟨⟨v37⟩⟩)), (3, .v (.int .i64 (IntKind.wrap .i64 (((s_.length : Nat) : Int) - (((({ s := v35, out := x31 } : T_units_reader).s).length : Nat) : Int))))), (5, .ptr 0 0), (6, .v (.int .u8 v34)), (41, .v (.bool (v34 == v36))), (46, .ptr 0 0), (47, .ptr 0 0), (48, .ptr 0 1), (49, .v (.string ⟨⟨v37⟩⟩)), (50, .v (.string ⟨⟨s_⟩⟩)), (51, .v (.int .i64 ((s_.length : Nat) : Int))), (52, .ptr 0 0), (53, .ptr 0 0), (54, .ptr 0 0), (55, .v (.string ⟨⟨({ s := v35, out := x31 } : T_units_reader).s⟩⟩)), (56, .v (.int .i64 (((({ s := v35, out := x31 } : T_units_reader).s).length : Nat) : Int))), (57, .v (.int .i64 (IntKind.wrap .i64 (((s_.length : Nat) : Int) - (((({ s := v35, out := x31 } : T_units_reader).s).length : Nat) : Int)))))]) (B' := [some ⟨52, [.v (.string ⟨⟨({ s := v35, out := x31 } : T_units_reader).s⟩⟩), .opt q38 0 1, .v (.slice A39 (({ s := v35, out := x31 } : T_units_reader).out).length c40)]⟩]) (by kernel_rfl) fun ρ w a hX => ?_
                    refine dnext hX.st.sub0 ?_
                    refine dseq (listed' := #[true, true, true, true, true, true, true, true, true, true, true, true, true, true, true]) 14 (by kernel_rfl) rfl (by kernel_rfl) ?_
                    refine hX.part [] 1 [0, 2, 3, 4, 5, 6, 41, 46, 47, 48, 49, 50, 51, 52, 53, 54, 55, 56, 57] (l' := [(0, .v (.string ⟨⟨s_⟩⟩)), (2, .v (.string ⟨⟨v37⟩⟩)), (3, .v (.int .i64 (IntKind.wrap .i64 (((s_.length : Nat) : Int) - (((({ s := v35, out := x31 } : T_units_reader).s).length : Nat) : Int))))), (4, .v (.int .i64 0)), (5, .ptr 0 0), (6, .v (.int .u8 v34)), (41, .v (.bool (v34 == v36))), (46, .ptr 0 0), (47, .ptr 0 0), (48, .ptr 0 1), (49, .v (.string ⟨⟨v37⟩⟩)), (50, .v (.string ⟨⟨s_⟩⟩)), (51, .v (.int .i64 ((s_.length : Nat) : Int))), (52, .ptr 0 0), (53, .ptr 0 0), (54, .ptr 0 0), (55, .v (.string ⟨⟨({ s := v35, out := x31 } : T_units_reader).s⟩⟩)), (56, .v (.int .i64 (((({ s := v35, out := x31 } : T_units_reader).s).length : Nat) : Int))), (57, .v (.int .i64 (IntKind.wrap .i64 (((s_.length : Nat) : Int) - (((({ s := v35, out := x31 } : T_units_reader).s).length : Nat) : Int)))))]) (B' := [some ⟨52, [.v (.string ⟨⟨({ s := v35, out := x31 } : T_units_reader).s⟩⟩), .opt q38 0 1, .v (.slice A39 (({ s := v35, out := x31 } : T_units_reader).out).length c40)]⟩]) (by kernel_rfl) fun ρ w a hX => ?_
                    refine dnext hX.st.sub0 ?_
                    have hX := back hX
                    refine ddone (by kernel_rfl) ?_
                    have hX := hX.keeps [2, 3, 4] (l' := [(2, .v (.string ⟨⟨v37⟩⟩)), (3, .v (.int .i64 (IntKind.wrap .i64 (((s_.length : Nat) : Int) - (((({ s := v35, out := x31 } : T_units_reader).s).length : Nat) : Int))))), (4, .v (.int .i64 0))]) (by kernel_rfl)
                    have hX := hX.shrink 0 (B' := []) (by kernel_rfl) (Nat.le_of_ble_eq_true rfl) (by kernel_rfl) (by kernel_rfl) (Nat.zero_le _)
                    exact J22 v37 (IntKind.wrap .i64 (((s_.length : Nat) : Int) - (((({ s := v35, out := x31 } : T_units_reader).s).length : Nat) : Int))) h1  _ _ _ _ hX
                · refine dtry (listed' := #[true, true, true, true, true, true, true, true, true, true, false, false, true, false, false]) 12 rfl (by kernel_rfl) ?_
                  refine hX.part [] 1 [0, 2, 5, 6, 41, 46, 47, 48, 49, 50, 51, 52, 53, 54, 55] (l' := [(0, .v (.string ⟨⟨s_⟩⟩)), (2, .v (.string ⟨⟨v37⟩⟩)), (5, .ptr 0 0), (6, .v (.int .u8 v34)), (41, .v (.bool (v34 == v36))), (46, .ptr 0 0), (47, .ptr 0 0), (48, .ptr 0 1), (49, .v (.string ⟨⟨v37⟩⟩)), (50, .v (.string ⟨⟨s_⟩⟩)), (51, .v (.int .i64 ((s_.length : Nat) : Int))), (52, .ptr 0 0), (53, .ptr 0 0), (54, .ptr 0 0), (55, .v (.string ⟨⟨({ s := v35, out := x31 } : T_units_reader).s⟩⟩))]) (B' := [some ⟨52, [.v (.string ⟨⟨({ s := v35, out := x31 } : T_units_reader).s⟩⟩), .opt q38 0 1, .v (.slice A39 (({ s := v35, out := x31 } : T_units_reader).out).length c40)]⟩]) (by kernel_rfl) fun ρ w a hX => ?_
                  refine dnext hX.st.sub0 ?_
                  refine dseq (listed' := #[true, true, true, true, true, true, true, true, true, true, true, false, true, false, false]) 10 (by kernel_rfl) rfl (by kernel_rfl) ?_
                  refine hX.part [] 1 [0, 2, 5, 6, 41, 46, 47, 48, 49, 50, 51, 52, 53, 54, 55, 56] (l' := [(0, .v (.string ⟨⟨s_⟩⟩)), (2, .v (.string ⟨⟨v37⟩⟩)), (5, .ptr 0 0), (6, .v (.int .u8 v34)), (41, .v (.bool (v34 == v36))), (46, .ptr 0 0), (47, .ptr 0 0), (48, .ptr 0 1), (49, .v (.string ⟨⟨v37⟩⟩)), (50, .v (.string ⟨⟨s_⟩⟩)), (51, .v (.int .i64 ((s_.length : Nat) : Int))), (52, .ptr 0 0), (53, .ptr 0 0), (54, .ptr 0 0), (55, .v (.string ⟨⟨({ s := v35, out := x31 } : T_units_reader).s⟩⟩)), (56, .v (.int .i64 (((({ s := v35, out := x31 } : T_units_reader).s).length : Nat) : Int)))]) (B' := [some ⟨52, [.v (.string ⟨⟨({ s := v35, out := x31 } : T_units_reader).s⟩⟩), .opt q38 0 1, .v (.slice A39 (({ s := v35, out := x31 } : T_units_reader).out).length c40)]⟩]) (by kernel_rfl) fun ρ w a hX => ?_
                  refine dnext hX.st.sub0 ?_
                  refine dseq (listed' := #[true, true, true, true, true, true, true, true, true, true, true, true, true, false, false]) 11 (by kernel_rfl) rfl (by kernel_rfl) ?_
                  refine hX.part [] 1 [0, 2, 5, 6, 41, 46, 47, 48, 49, 50, 51, 52, 53, 54, 55, 56, 57] (l' := [(0, .v (.string ⟨⟨s_⟩⟩)), (2, .v (.string ⟨⟨v37⟩⟩)), (5, .ptr 0 0), (6, .v (.int .u8 v34)), (41, .v (.bool (v34 == v36))), (46, .ptr 0 0), (47, .ptr 0 0), (48, .ptr 0 1), (49, .v (.string ⟨⟨v37⟩⟩)), (50, .v (.string ⟨⟨s_⟩⟩)), (51, .v (.int .i64 ((s_.length : Nat) : Int))), (52, .ptr 0 0), (53, .ptr 0 0), (54, .ptr 0 0), (55, .v (.string ⟨⟨({ s := v35, out := x31 } : T_units_reader).s⟩⟩)), (56, .v (.int .i64 (((({ s := v35, out := x31 } : T_units_reader).s).length : Nat) : Int))), (57, .v (.int .i64 (IntKind.wrap .i64 (((s_.length : Nat) : Int) - (((({ s := v35, out := x31 } : T_units_reader).s).length : Nat) : Int)))))]) (B' := [some ⟨52, [.v (.string ⟨⟨({ s := v35, out := x31 } : T_units_reader).s⟩⟩), .opt q38 0 1, .v (.slice A39 (({ s := v35, out := x31 } : T_units_reader).out).length c40)]⟩]) (by kernel_rfl) fun ρ w a hX => ?_
                  refine dnext hX.st.sub0 ?_
                  refine dseq (listed' := #[true, true, true, true, true, true, true, true, true, true, true, true, true, true, false]) 13 (by kernel_rfl) rfl (by kernel_rfl) ?_
                  refine hX.part [] 1 [0, 2, 3, 5, 6, 41, 46, 47, 48, 49, 50, 51, 52, 53, 54, 55, 56, 57] (l' := [(0, .v (.string ⟨⟨s_⟩⟩)), (2, .v (.string ⟨⟨v37⟩⟩)), (3, .v (.int .i64 (IntKind.wrap .i64 (((s_.length : Nat) : Int) - (((({ s := v35, out := x31 } : T_units_reader).s).length : Nat) : Int))))), (5, .ptr 0 0), (6, .v (.int .u8 v34)), (41, .v (.bool (v34 == v36))), (46, .ptr 0 0), (47, .ptr 0 0), (48, .ptr 0 1), (49, .v (.string ⟨⟨v37⟩⟩)), (50, .v (.string ⟨⟨s_⟩⟩)), (51, .v (.int .i64 ((s_.length : Nat) : Int))), (52, .ptr 0 0), (53, .ptr 0 0), (54, .ptr 0 0), (55, .v (.string ⟨⟨({ s := v35, out := x31 } : T_units_reader).s⟩⟩)), (56, .v (.int .i64 (((({ s := v35, out := x31 } : T_units_reader).s).length : Nat) : Int))), (57, .v (.int .i64 (IntKind.wrap .i64 (((s_.length : Nat) : Int) - (((({ s := v35, out := x31 } : T_units_reader).s).length : Nat) : Int)))))]) (B' := [some ⟨52, [.v (.string ⟨⟨({ s := v35, out := x31 } : T_units_reader).s⟩⟩), .opt q38 0 1, .v (.slice A39 (({ s := v35, out := x31 } : T_units_reader).out).length c40)]⟩]) (by kernel_rfl) fun ρ w a hX => ?_
                  refine dnext hX.st.sub0 ?_
                  refine dseq (listed' := #[true, true, true, true, true, true, true, true, true, true, true, true, true, true, true]) 14 (by kernel_rfl) rfl (by kernel_rfl) ?_
                  refine hX.part [] 1 [0, 2, 3, 4, 5, 6, 41, 46, 47, 48, 49, 50, 51, 52, 53, 54, 55, 56, 57] (l' := [(0, .v (.string ⟨⟨s_⟩⟩)), (2, .v (.string ⟨⟨v37⟩⟩)), (3, .v (.int .i64 (IntKind.wrap .i64 (((s_.length : Nat) : Int) - (((({ s := v35, out := x31 } : T_units_reader).s).length : Nat) : Int))))), (4, .v (.int .i64 0)), (5, .ptr 0 0), (6, .v (.int .u8 v34)), (41, .v (.bool (v34 == v36))), (46, .ptr 0 0), (47, .ptr 0 0), (48, .ptr 0 1), (49, .v (.string ⟨⟨v37⟩⟩)), (50, .v (.string ⟨⟨s_⟩⟩)), (51, .v (.int .i64 ((s_.length : Nat) : Int))), (52, .ptr 0 0), (53, .ptr 0 0), (54, .ptr 0 0), (55, .v (.string ⟨⟨({ s := v35, out := x31 } : T_units_reader).s⟩⟩)), (56, .v (.int .i64 (((({ s := v35, out := x31 } : T_units_reader).s).length : Nat) : Int))), (57, .v (.int .i64 (IntKind.wrap .i64 (((s_.length : Nat) : Int) - (((({ s := v35, out := x31 } : T_units_reader).s).length : Nat) : Int)))))]) (B' := [some ⟨52, [.v (.string ⟨⟨({ s := v35, out := x31 } : T_units_reader).s⟩⟩), .opt q38 0 1, .v (.slice A39 (({ s := v35, out := x31 } : T_units_reader).out).length c40)]⟩]) (by kernel_rfl) fun ρ w a hX => ?_
                  refine dnext hX.st.sub0 ?_
                  have hX := back hX
                  refine ddone (by kernel_rfl) ?_
                  have hX := hX.keeps [2, 3, 4] (l' := [(2, .v (.string ⟨⟨v37⟩⟩)), (3, .v (.int .i64 (IntKind.wrap .i64 (((s_.length : Nat) : Int) - (((({ s := v35, out := x31 } : T_units_reader).s).length : Nat) : Int))))), (4, .v (.int .i64 0))]) (by kernel_rfl)
                  have hX := hX.shrink 0 (B' := []) (by kernel_rfl) (Nat.le_of_ble_eq_true rfl) (by kernel_rfl) (by kernel_rfl) (Nat.zero_le _)
                  exact J22 v37 (IntKind.wrap .i64 (((s_.length : Nat) : Int) - (((({ s := v35, out := x31 } : T_units_reader).s).length : Nat) : Int))) h1  _ _ _ _ hX
              · refine dtry (listed' := #[true, true, true, true, true, true, true, true, true, false, false, false, true, false, false]) 12 rfl (by kernel_rfl) ?_
                refine hX.part [] 1 [0, 2, 5, 6, 41, 46, 47, 48, 49, 50, 51, 52, 53, 54] (l' := [(0, .v (.string ⟨⟨s_⟩⟩)), (2, .v (.string ⟨⟨v37⟩⟩)), (5, .ptr 0 0), (6, .v (.int .u8 v34)), (41, .v (.bool (v34 == v36))), (46, .ptr 0 0), (47, .ptr 0 0), (48, .ptr 0 1), (49, .v (.string ⟨⟨v37⟩⟩)), (50, .v (.string ⟨⟨s_⟩⟩)), (51, .v (.int .i64 ((s_.length : Nat) : Int))), (52, .ptr 0 0), (53, .ptr 0 0), (54, .ptr 0 0)]) (B' := [some ⟨52, [.v (.string ⟨⟨({ s := v35, out := x31 } : T_units_reader).s⟩⟩), .opt q38 0 1, .v (.slice A39 (({ s := v35, out := x31 } : T_units_reader).out).length c40)]⟩]) (by kernel_rfl) fun ρ w a hX => ?_
                refine dnext hX.st.sub0 ?_
                refine dseq (listed' := #[true, true, true, true, true, true, true, true, true, true, false, false, true, false, false]) 9 (by kernel_rfl) rfl (by kernel_rfl) ?_
                refine hX.part [] 1 [0, 2, 5, 6, 41, 46, 47, 48, 49, 50, 51, 52, 53, 54, 55] (l' := [(0, .v (.string ⟨⟨s_⟩⟩)), (2, .v (.string ⟨⟨v37⟩⟩)), (5, .ptr 0 0), (6, .v (.int .u8 v34)), (41, .v (.bool (v34 == v36))), (46, .ptr 0 0), (47, .ptr 0 0), (48, .ptr 0 1), (49, .v (.string ⟨⟨v37⟩⟩)), (50, .v (.string ⟨⟨s_⟩⟩)), (51, .v (.int .i64 ((s_.length : Nat) : Int))), (52, .ptr 0 0), (53, .ptr 0 0), (54, .ptr 0 0), (55, .v (.string ⟨⟨({ s := v35, out := x31 } : T_units_reader).s⟩⟩))]) (B' := [some ⟨52, [.v (.string ⟨⟨({ s := v35, out := x31 } : T_units_reader).s⟩⟩), .opt q38 0 1, .v (.slice A39 (({ s := v35, out := x31 } : T_units_reader).out).length c40)]⟩]) (by kernel_rfl) fun ρ w a hX => ?_
                refine dnext hX.st.sub0 ?_
                refine dseq (listed' := #[true, true, true, true, true, true, true, true, true, true, true, false, true, false, false]) 10 (by kernel_rfl) rfl (by kernel_rfl) ?_
                refine hX.part [] 1 [0, 2, 5, 6, 41, 46, 47, 48, 49, 50, 51, 52, 53, 54, 55, 56] (l' := [(0, .v (.string ⟨⟨s_⟩⟩)), (2, .v (.string ⟨⟨v37⟩⟩)), (5, .ptr 0 0), (6, .v (.int .u8 v34)), (41, .v (.bool (v34 == v36))), (46, .ptr 0 0), (47, .ptr 0 0), (48, .ptr 0 1), (49, .v (.string ⟨⟨v37⟩⟩)), (50, .v (.string ⟨⟨s_⟩⟩)), (51, .v (.int .i64 ((s_.length : Nat) : Int))), (52, .ptr 0 0), (53, .ptr 0 0), (54, .ptr 0 0), (55, .v (.string ⟨⟨({ s := v35, out := x31 } : T_units_reader).s⟩⟩)), (56, .v (.int .i64 (((({ s := v35, out := x31 } : T_units_reader).s).length : Nat) : Int)))]) (B' := [some ⟨52, [.v (.string ⟨⟨({ s := v35, out := x31 } : T_units_reader).s⟩⟩), .opt q38 0 1, .v (.slice A39 (({ s := v35, out := x31 } : T_units_reader).out).length c40)]⟩]) (by kernel_rfl) fun ρ w a hX => ?_
                refine dnext hX.st.sub0 ?_
                refine dseq (listed' := #[true, true, true, true, true, true, true, true, true, true, true, true, true, false, false]) 11 (by kernel_rfl) rfl (by kernel_rfl) ?_
                refine hX.part [] 1 [0, 2, 5, 6, 41, 46, 47, 48, 49, 50, 51, 52, 53, 54, 55, 56, 57] (l' := [(0, .v (.string ⟨⟨s_⟩⟩)), (2, .v (.string ⟨⟨v37⟩⟩)), (5, .ptr 0 0), (6, .v (.int .u8 v34)), (41, .v (.bool (v34 == v36))), (46, .ptr 0 0), (47, .ptr 0 0), (48, .ptr 0 1), (49, .v (.string ⟨⟨v37⟩⟩)), (50, .v (.string ⟨⟨s_⟩⟩)), (51, .v (.int .i64 ((s_.length : Nat) : Int))), (52, .ptr 0 0), (53, .ptr 0 0), (54, .ptr 0 0), (55, .v (.string ⟨⟨({ s := v35, out := x31 } : T_units_reader).s⟩⟩)), (56, .v (.int .i64 (((({ s := v35, out := x31 } : T_units_reader).s).length : Nat) : Int))), (57, .v (.int .i64 (IntKind.wrap .i64 (((s_.length : Nat) : Int) - (((({ s := v35, out := x31 } : T_units_reader).s).length : Nat) : Int)))))]) (B' := [some ⟨52, [.v (.string ⟨⟨({ s := v35, out := x31 } : T_units_reader).s⟩⟩), .opt q38 0 1, .v (.slice A39 (({ s := v35, out := x31 } : T_units_reader).out).length c40)]⟩]) (by kernel_rfl) fun ρ w a hX => ?_
                refine dnext hX.st.sub0 ?_
                refine dseq (listed' := #[true, true, true, true, true, true, true, true, true, true, true, true, true, true, false]) 13 (by kernel_rfl) rfl (by kernel_rfl) ?_
                refine hX.part [] 1 [0, 2, 3, 5, 6, 41, 46, 47, 48, 49, 50, 51, 52, 53, 54, 55, 56, 57] (l' := [(0, .v (.string ⟨⟨s_⟩⟩)), (2, .v (.string ⟨⟨v37⟩⟩)), (3, .v (.int .i64 (IntKind.wrap .i64 (((s_.length : Nat) : Int) - (((({ s := v35, out := x31 } : T_units_reader).s).length : Nat) : Int))))), (5, .ptr 0 0), (6, .v (.int .u8 v34)), (41, .v (.bool (v34 == v36))), (46, .ptr 0 0), (47, .ptr 0 0), (48, .ptr 0 1), (49, .v (.string ⟨⟨v37⟩⟩)), (50, .v (.string ⟨⟨s_⟩⟩)), (51, .v (.int .i64 ((s_.length : Nat) : Int))), (52, .ptr 0 0), (53, .ptr 0 0), (54, .ptr 0 0), (55, .v (.string ⟨⟨({ s := v35, out := x31 } : T_units_reader).s⟩⟩)), (56, .v (.int .i64 (((({ s := v35, out := x31 } : T_units_reader).s).length : Nat) : Int))), (57, .v (.int .i64 (IntKind.wrap .i64 (((s_.length : Nat) : Int) - (((({ s := v35, out := x31 } : T_units_reader).s).length : Nat) : Int)))))]) (B' := [some ⟨52, [.v (.string ⟨⟨({ s := v35, out := x31 } : T_units_reader).s⟩⟩), .opt q38 0 1, .v (.slice A39 (({ s := v35, out := x31 } : T_units_reader).out).length c40)]⟩]) (by kernel_rfl) fun ρ w a hX => ?_
                refine dnext hX.st.sub0 ?_
                refine dseq (listed' := #[true, true, true, true, true, true, true, true, true, true, true, true, true, true, true]) 14 (by kernel_rfl) rfl (by kernel_rfl) ?_
                refine hX.part [] 1 [0, 2, 3, 4, 5, 6, 41, 46, 47, 48, 49, 50, 51, 52, 53, 54, 55, 56, 57] (l' := [(0, .v (.string ⟨⟨s_⟩⟩)), (2, .v (.string ⟨⟨v37⟩⟩)), (3, .v (.int .i64 (IntKind.wrap .i64 (((s_.length : Nat) : Int) - (((({ s := v35, out := x31 } : T_units_reader).s).length : Nat) : Int))))), (4, .v (.int .i64 0)), (5, .ptr 0 0), (6, .v (.int .u8 v34)), (41, .v (.bool (v34 == v36))), (46, .ptr 0 0), (47, .ptr 0 0), (48, .ptr 0 1), (49, .v (.string ⟨⟨v37⟩⟩)), (50, .v (.string ⟨⟨s_⟩⟩)), (51, .v (.int .i64 ((s_.length : Nat) : Int))), (52, .ptr 0 0), (53, .ptr 0 0), (54, .ptr 0 0), (55, .v (.string ⟨⟨({ s := v35, out := x31 } : T_units_reader).s⟩⟩)), (56, .v (.int .i64 (((({ s := v35, out := x31 } : T_units_reader).s).length : Nat) : Int))), (57, .v (.int .i64 (IntKind.wrap .i64 (((s_.length : Nat) : Int) - (((({ s := v35, out := x31 } : T_units_reader).s).length : Nat) : Int)))))]) (B' := [some ⟨52, [.v (.string ⟨⟨({ s := v35, out := x31 } : T_units_reader).s⟩⟩), .opt q38 0 1, .v (.slice A39 (({ s := v35, out := x31 } : T_units_reader).out).length c40)]⟩]) (by kernel_rfl) fun ρ w a hX => ?_
                refine dnext hX.st.sub0 ?_
                have hX := back hX
                refine ddone (by kernel_rfl) ?_
                have hX := hX.keeps [2, 3, 4] (l' := [(2, .v (.string ⟨⟨v37⟩⟩)), (3, .v (.int .i64 (IntKind.wrap .i64 (((s_.length : Nat) : Int) - (((({ s := v35, out := x31 } : T_units_reader).s).length : Nat) : Int))))), (4, .v (.int .i64 0))]) (by kernel_rfl)
                have hX := hX.shrink 0 (B' := []) (by kernel_rfl) (Nat.le_of_ble_eq_true rfl) (by kernel_rfl) (by kernel_rfl) (Nat.zero_le _)
                exact J22 v37 (IntKind.wrap .i64 (((s_.length : Nat) : Int) - (((({ s := v35, out := x31 } : T_units_reader).s).length : Nat) : Int))) h1  _ _ _ _ hX
            · refine dtry (listed' := #[true, true, true, false, true, true, true, true, true, true, false, false, false, false, false]) 9 rfl (by kernel_rfl) ?_
              refine hX.part [] 1 [0, 5, 6, 41, 46, 47, 48, 50, 51, 52, 53, 54, 55] (l' := [(0, .v (.string ⟨⟨s_⟩⟩)), (5, .ptr 0 0), (6, .v (.int .u8 v34)), (41, .v (.bool (v34 == v36))), (46, .ptr 0 0), (47, .ptr 0 0), (48, .ptr 0 1), (50, .v (.string ⟨⟨s_⟩⟩)), (51, .v (.int .i64 ((s_.length : Nat) : Int))), (52, .ptr 0 0), (53, .ptr 0 0), (54, .ptr 0 0), (55, .v (.string ⟨⟨v35⟩⟩))]) (B' := [some ⟨52, [.v (.string ⟨⟨v35⟩⟩), .opt q30 0 1, .v (.slice A32 x31.length c33)]⟩]) (by kernel_rfl) fun ρ w a hX => ?_
              refine dnext hX.st.sub0 ?_
              refine hX.dq 10 rfl rfl (listed' := #[true, true, true, false, true, true, true, true, true, true, true, false, false, false, false]) (by kernel_rfl) (by kernel_rfl) (s := .v (.int .i64 ((v35.length : Nat) : Int))) (by kernel_rfl) fun a hX => ?_
              refine hX.dq 11 rfl rfl (listed' := #[true, true, true, false, true, true, true, true, true, true, true, true, false, false, false]) (by kernel_rfl) (by kernel_rfl) (s := .v (.int .i64 (IntKind.wrap .i64 (((s_.length : Nat) : Int) - ((v35.length : Nat) : Int))))) (by kernel_rfl) fun a hX => ?_
              refine dseq (listed' := #[true, true, true, true, true, true, true, true, true, true, true, true, false, false, false]) 3 (by kernel_rfl) rfl (by kernel_rfl) ?_
              have hX : Cx 86 _ _ _ _ _ [accP 5 kByte A32 c33 x31] [some ⟨52, [.v (.string ⟨⟨v35⟩⟩), .opt q30 0 1, .v (.slice A32 x31.length c33)]⟩] ρ _ _ := hX
              have hX : Cx 86 _ _ _ _ _ [own_units_reader ({ s := v35, out := x31 } : T_units_reader) (ρ 0)] [none] ρ _ _ := Cx.packP (Y := (Bool × Option Addr × Nat)) hX 0 ((q30, A32, c33) : (Bool × Option Addr × Nat)) rfl rfl rfl rfl (fun h => h)
              have hX : Cx 86 _ _ _ _ _ [own_units_reader ({ s := v35, out := x31 } : T_units_reader) (ρ 0)] [none] ρ _ _ := hX
              refine Cx.callH (M := [own_units_reader ({ s := v35, out := x31 } : T_units_reader) (ρ 0)]) (L := []) hX (lit := []) (by kernel_rfl) rfl (by kernel_rfl) ⟨⟨_, Tryd.func35, by kernel_rfl, rfl⟩⟩ (ss := [.ptr 0 1]) (by kernel_rfl) [.ptr 0 1] rfl (fun hg => ⟨trivial, trivial⟩) [ρ 0] (fun D' hD' hv hle hg hst => strings_Builder_String_at_units_reader_1.ok ({ s := v35, out := x31 } : T_units_reader) v37 hv37 _ _ hv (hGd.mono hle) hg (fun k => match k with | 0 => ρ 0 | _ => 0) D' hD' hst) (fun s F M w a hp hX => ?_)
              obtain ⟨hp, rfl⟩ := hp
              subst hp
              have hX : Cx 86 _ _ _ _ _ [own_units_reader_d ({ s := v35, out := x31 } : T_units_reader) (ρ 0)] [none] ρ _ _ := hX
              obtain ⟨⟨q38, A39, c40⟩, hX⟩ := Cx.unpackP (k := 0) (Y := (Bool × Option Addr × Nat)) (ty := 52) hX (fun (y : (Bool × Option Addr × Nat)) => [.v (.string ⟨⟨({ s := v35, out := x31 } : T_units_reader).s⟩⟩), .opt y.1 0 1, .v (.slice y.2.1 (({ s := v35, out := x31 } : T_units_reader).out).length y.2.2)]) rfl (fun y => rfl) (fun y F h => h) (fun y => rfl)
              have hX : Cx 86 _ _ _ _ _ [] [some ⟨52, [.v (.string ⟨⟨({ s := v35, out := x31 } : T_units_reader).s⟩⟩), .opt q38 0 1, .v (.slice A39 (({ s := v35, out := x31 } : T_units_reader).out).length c40)]⟩] ρ _ _ := hX
              refine dnext hX.st.sub0 ?_
              refine dseq (listed' := #[true, true, true, true, true, true, true, true, true, true, true, true, true, false, false]) 12 (by kernel_rfl) rfl (by kernel_rfl) ?_
              refine hX.part [] 1 [0, 2, 5, 6, 41, 46, 47, 48, 49, 50, 51, 52, 53, 54, 55, 56, 57] (l' := [(0, .v (.string ⟨⟨s_⟩⟩)), (2, .v (.string ⟨⟨v37⟩⟩)), (5, .ptr 0 0), (6, .v (.int .u8 v34)), (41, .v (.bool (v34 == v36))), (46, .ptr 0 0), (47, .ptr 0 0), (48, .ptr 0 1), (49, .v (.string ⟨⟨v37⟩⟩)), (50, .v (.string ⟨⟨s_⟩⟩)), (51, .v (.int .i64 ((s_.length : Nat) : Int))), (52, .ptr 0 0), (53, .ptr 0 0), (54, .ptr 0 0), (55, .v (.string ⟨⟨v35⟩⟩)), (56, .v (.int .i64 ((v35.length : Nat) : Int))), (57, .v (.int .i64 (IntKind.wrap .i64 (((s_.length : Nat) : Int) - ((v35.length : Nat) : Int)))))]) (B' := [some ⟨52, [.v (.string ⟨⟨({ s := v35, out := x31 } : T_units_reader).s⟩⟩), .opt q38 0 1, .v (.slice A39 (({ s := v35, out := x31 } : T_units_reader).out).length c40)]⟩]) (by kernel_rfl) fun ρ w a hX => ?_
              refine dnext hX.st.sub0 ?_
              refine dseq (listed' := #[true, true, true, true, true, true, true, true, true, true, true, true, true, true, false]) 13 (by kernel_rfl) rfl (by kernel_rfl) ?_
              refine hX.part [] 1 [0, 2, 3, 5, 6, 41, 46, 47, 48, 49, 50, 51, 52, 53, 54, 55, 56, 57] (l' := [(0, .v (.string ⟨⟨s_⟩⟩)), (2, .v (.string ⟨⟨v37⟩⟩)), (3, .v (.int .i64 (IntKind.wrap .i64 (((s_.length : Nat) : Int) - ((v35.length : Nat) : Int))))), (5, .ptr 0 0), (6, .v (.int .u8 v34)), (41, .v (.bool (v34 == v36))), (46, .ptr 0 0), (47, .ptr 0 0), (48, .ptr 0 1), (49, .v (.string ⟨⟨v37⟩⟩)), (50, .v (.string ⟨⟨s_⟩⟩)), (51, .v (.int .i64 ((s_.length : Nat) : Int))), (52, .ptr 0 0), (53, .ptr 0 0), (54, .ptr 0 0), (55, .v (.string ⟨⟨v35⟩⟩)), (56, .v (.int .i64 ((v35.length : Nat) : Int))), (57, .v (.int .i64 (IntKind.wrap .i64 (((s_.length : Nat) : Int) - ((v35.length : Nat) : Int)))))]) (B' := [some ⟨52, [.v (.string ⟨⟨({ s := v35, out := x31 } : T_units_reader).s⟩⟩), .opt q38 0 1, .v (.slice A39 (({ s := v35, out := x31 } : T_units_reader).out).length c40)]⟩]) (by kernel_rfl) fun ρ w a hX => ?_
              refine dnext hX.st.sub0 ?_
              refine dseq (listed' := #[true, true, true, true, true, true, true, true, true, true, true, true, true, true, true]) 14 (by kernel_rfl) rfl (by kernel_rfl) ?_
              refine hX.part [] 1 [0, 2, 3, 4, 5, 6, 41, 46, 47, 48, 49, 50, 51, 52, 53, 54, 55, 56, 57] (l' := [(0, .v (.string ⟨⟨s_⟩⟩)), (2, .v (.string ⟨⟨v37⟩⟩)), (3, .v (.int .i64 (IntKind.wrap .i64 (((s_.length : Nat) : Int) - ((v35.length : Nat) : Int))))), (4, .v (.int .i64 0)), (5, .ptr 0 0), (6, .v (.int .u8 v34)), (41, .v (.bool (v34 == v36))), (46, .ptr 0 0), (47, .ptr 0 0), (48, .ptr 0 1), (49, .v (.string ⟨⟨v37⟩⟩)), (50, .v (.string ⟨⟨s_⟩⟩)), (51, .v (.int .i64 ((s_.length : Nat) : Int))), (52, .ptr 0 0), (53, .ptr 0 0), (54, .ptr 0 0), (55, .v (.string ⟨⟨v35⟩⟩)), (56, .v (.int .i64 ((v35.length : Nat) : Int))), (57, .v (.int .i64 (IntKind.wrap .i64 (((s_.length : Nat) : Int) - ((v35.length : Nat) : Int)))))]) (B' := [some ⟨52, [.v (.string ⟨⟨({ s := v35, out := x31 } : T_units_reader).s⟩⟩), .opt q38 0 1, .v (.slice A39 (({ s := v35, out := x31 } : T_units_reader).out).length c40)]⟩]) (by kernel_rfl) fun ρ w a hX => ?_
              refine dnext hX.st.sub0 ?_
              have hX := back hX
              refine ddone (by kernel_rfl) ?_
              have hX := hX.keeps [2, 3, 4] (l' := [(2, .v (.string ⟨⟨v37⟩⟩)), (3, .v (.int .i64 (IntKind.wrap .i64 (((s_.length : Nat) : Int) - ((v35.length : Nat) : Int))))), (4, .v (.int .i64 0))]) (by kernel_rfl)
              have hX := hX.shrink 0 (B' := []) (by kernel_rfl) (Nat.le_of_ble_eq_true rfl) (by kernel_rfl) (by kernel_rfl) (Nat.zero_le _)
              exact J22 v37 (IntKind.wrap .i64 (((s_.length : Nat) : Int) - ((v35.length : Nat) : Int))) h1  _ _ _ _ hX
          · have h1 := ite_ff h1 hb
            refine wp_seq_k fun K23 hK23 => ?_
            have J23 : ∀ (x47 : Bool) (x48 : Str) (x50 : List UInt8), units_Read.j5 v34 x47 x48 x50 = some o1 → ∀ (q49 : Bool) (A51 : Option Addr) (c52 : Nat) (ρ : Nat → Nat) (w : World) (F : Heap) (a : Act), Cx 86 w0 F0 No w F [accP 5 kByte A51 c52 x50] [some ⟨52, [.v (.string ⟨⟨x48⟩⟩), .opt q49 0 1, .v (.slice A51 x50.length c52)]⟩] ρ [(0, .v (.string ⟨⟨s_⟩⟩)), (5, .ptr 0 0), (6, .v (.int .u8 v34)), (58, .v (.bool x47))] a → K23 a w := by
              intro x47 x48 x50 h1 q49 A51 c52 ρ w F a hX
              unfold units_Read.j5 at h1
              refine hK23 _ _ ?_
              refine Cx.cond hX (b := x47) (by kernel_rfl) (fun hb => ?_) (fun hb => ?_)
              · have h1 := ite_tt h1 hb
                refine Cx.rseq hX [] [2, 3, 4] (l' := [(2, .v (.string ⟨⟨([] : Str)⟩⟩)), (3, .v (.int .i64 0)), (4, .v (.int .i64 10))]) (B' := [some ⟨52, [.v (.string ⟨⟨x48⟩⟩), .opt q49 0 1, .v (.slice A51 x50.length c52)]⟩]) (by kernel_rfl) fun ρ w a hX => ?_
                refine wp_ret ?_
                have he := hx1 _ (out_eq h1)
                subst he
                (try dsimp only at h0)
                have hr := Option.some.inj (show some _ = some _ from h0)
                subst hr
                exact hX.ret0 (ss := [.v (.string ⟨⟨([] : Str)⟩⟩), .v (.int .i64 0), .v (.int .i64 10)]) (by kernel_rfl) (by kernel_rfl) ⟨_, _, _, rfl, rfl, rfl, rfl⟩
              · have h1 := ite_ff h1 hb
                refine Cx.rseq hX [] [0, 5, 6, 76] (l' := [(0, .v (.string ⟨⟨s_⟩⟩)), (5, .ptr 0 0), (6, .v (.int .u8 v34)), (76, .v (.bool (v34 != 92)))]) (B' := [some ⟨52, [.v (.string ⟨⟨x48⟩⟩), .opt q49 0 1, .v (.slice A51 x50.length c52)]⟩]) (by kernel_rfl) fun ρ w a hX => ?_
                refine Cx.cond hX (b := (v34 != 92)) (by kernel_rfl) (fun hb => ?_) (fun hb => ?_)
                · have h1 := ite_tt h1 hb
                  have hGd := hG.mono hX.st.le
                  refine hX.draw rfl (n := 7) rfl #[false, false, false, false, false, false, false] (by kernel_rfl) fun w D' hDk back hX => ?_
                  refine hX.dq 0 rfl rfl (listed' := #[true, false, false, false, false, false, false]) (by kernel_rfl) (by kernel_rfl) (s := .ptr 0 0) (by kernel_rfl) fun a hX => ?_
                  refine hX.dq 1 rfl rfl (listed' := #[true, true, false, false, false, false, false]) (by kernel_rfl) (by kernel_rfl) (s := .ptr 0 0) (by kernel_rfl) fun a hX => ?_
                  refine hX.dq 2 rfl rfl (listed' := #[true, true, true, false, false, false, false]) (by kernel_rfl) (by kernel_rfl) (s := .ptr 0 1) (by kernel_rfl) fun a hX => ?_
                  refine hX.dq 3 rfl rfl (listed' := #[true, true, true, true, false, false, false]) (by kernel_rfl) (by kernel_rfl) (s := .v (.int .u8 v34)) (by kernel_rfl) fun a hX => ?_
                  refine hX.dq 4 rfl rfl (listed' := #[true, true, true, true, true, false, false]) (by kernel_rfl) (by kernel_rfl) (s := .v (.int .i64 (IntKind.wrap .i64 v34))) (by kernel_rfl) fun a hX => ?_
                  refine dseq (listed' := #[true, true, true, true, true, true, false]) 5 (by kernel_rfl) rfl (by kernel_rfl) ?_
                  obtain ⟨v53, hv53, h1⟩ := bnd_some h1
                  refine Cx.call0 hX (lit := []) (by kernel_rfl) rfl (by kernel_rfl) ⟨⟨_, Tryd.func38, by kernel_rfl, rfl⟩⟩ (ss := [.v (.int .i64 (IntKind.wrap .i64 v34))]) (by kernel_rfl) [.v (.int .i64 (IntKind.wrap .i64 v34))] rfl (fun hg => hg) (fun hv hle hg => units_unit.ok (IntKind.wrap .i64 v34) v53 hv53 _ _ hv (hGd.mono hle) hg _) (fun s F w a hp hX => ?_)
                  subst hp
                  refine dnext hX.st.sub0 ?_
                  refine dseq (listed' := #[true, true, true, true, true, true, true]) 6 (by kernel_rfl) rfl (by kernel_rfl) ?_
                  obtain ⟨v54, hv54, h1⟩ := bnd_some h1
                  have hX : Cx 86 _ _ _ _ _ [accP 5 kByte A51 c52 x50] [some ⟨52, [.v (.string ⟨⟨x48⟩⟩), .opt q49 0 1, .v (.slice A51 x50.length c52)]⟩] ρ _ _ := hX
                  have hX : Cx 86 _ _ _ _ _ [own_units_reader ({ s := x48, out := x50 } : T_units_reader) (ρ 0)] [none] ρ _ _ := Cx.packP (Y := (Bool × Option Addr × Nat)) hX 0 ((q49, A51, c52) : (Bool × Option Addr × Nat)) rfl rfl rfl rfl (fun h => h)
                  have hX : Cx 86 _ _ _ _ _ [own_units_reader ({ s := x48, out := x50 } : T_units_reader) (ρ 0)] [none] ρ _ _ := hX
                  refine Cx.callH (M := [own_units_reader ({ s := x48, out := x50 } : T_units_reader) (ρ 0)]) (L := []) hX (lit := []) (by kernel_rfl) rfl (by kernel_rfl) ⟨⟨_, Tryd.func37, by kernel_rfl, rfl⟩⟩ (ss := [.ptr 0 1, .v (.string ⟨⟨v53⟩⟩)]) (by kernel_rfl) [.ptr 0 1, .v (.string ⟨⟨v53⟩⟩)] rfl (fun hg => ⟨trivial, hg.2.1, trivial⟩) [ρ 0] (fun D' hD' hv hle hg hst => strings_Builder_WriteString_at_units_reader_1.ok ({ s := x48, out := x50 } : T_units_reader) v53 v54 hv54 _ _ hv (hGd.mono hle) hg (fun k => match k with | 0 => ρ 0 | _ => 0) D' hD' hst) (fun s F M w a hp hX => ?_)
                  obtain ⟨hp, rfl⟩ := hp
                  obtain ⟨_, _, rfl, rfl, rfl⟩ := hp
                  have hX : Cx 86 _ _ _ _ _ [own_units_reader v54.2.2 (ρ 0)] [none] ρ _ _ := hX
                  obtain ⟨⟨q55, A56, c57⟩, hX⟩ := Cx.unpackP (k := 0) (Y := (Bool × Option Addr × Nat)) (ty := 52) hX (fun (y : (Bool × Option Addr × Nat)) => [.v (.string ⟨⟨v54.2.2.s⟩⟩), .opt y.1 0 1, .v (.slice y.2.1 v54.2.2.out.length y.2.2)]) rfl (fun y => rfl) (fun y F h => h) (fun y => rfl)
                  have hX : Cx 86 _ _ _ _ _ [accP 5 kByte A56 c57 v54.2.2.out] [some ⟨52, [.v (.string ⟨⟨v54.2.2.s⟩⟩), .opt q55 0 1, .v (.slice A56 v54.2.2.out.length c57)]⟩] ρ _ _ := hX
                  refine dnext hX.st.sub0 ?_
                  have hX := back hX
                  refine ddone (by kernel_rfl) ?_
                  have hX := hX.keeps [0, 5] (l' := [(0, .v (.string ⟨⟨s_⟩⟩)), (5, .ptr 0 0)]) (by kernel_rfl)
                  exact hb1 (v54.2.2.s, v54.2.2.out) (out_eq h1) _ _ ⟨q55, A56, c57, _, _, hX⟩
                · have h1 := ite_ff h1 hb
                  refine wp_skip ?_
                  have hX := hX.keeps [0, 5] (l' := [(0, .v (.string ⟨⟨s_⟩⟩)), (5, .ptr 0 0)]) (by kernel_rfl)
                  exact hb1 (x48, x50) (out_eq h1) _ _ ⟨q49, A51, c52, _, _, hX⟩
            refine Cx.rseq hX [] [0, 5, 6, 58] (l' := [(0, .v (.string ⟨⟨s_⟩⟩)), (5, .ptr 0 0), (6, .v (.int .u8 v34)), (58, .v (.bool (((v34 == 10) || (v34 == 13)) || (decide (v34 ≥ 128)))))]) (B' := [some ⟨52, [.v (.string ⟨⟨v35⟩⟩), .opt q30 0 1, .v (.slice A32 x31.length c33)]⟩]) (by kernel_rfl) fun ρ w a hX => ?_
            refine Cx.cond hX (b := (((v34 == 10) || (v34 == 13)) || (decide (v34 ≥ 128)))) (by kernel_rfl) (fun hb => ?_) (fun hb => ?_)
            · have h1 := ite_tt h1 hb
              refine wp_skip ?_
              have hX := hX.keeps [0, 5, 6, 58] (l' := [(0, .v (.string ⟨⟨s_⟩⟩)), (5, .ptr 0 0), (6, .v (.int .u8 v34)), (58, .v (.bool (((v34 == 10) || (v34 == 13)) || (decide (v34 ≥ 128)))))]) (by kernel_rfl)
              exact J23 (((v34 == 10) || (v34 == 13)) || (decide (v34 ≥ 128))) v35 x31 h1 q30 A32 c33 _ _ _ _ hX
            · have h1 := ite_ff h1 hb
              refine wp_region_list ?_
              refine hX.part [] 3 [0, 5, 6, 58, 71] (l' := [(0, .v (.string ⟨⟨s_⟩⟩)), (5, .ptr 0 0), (6, .v (.int .u8 v34)), (58, .v (.bool (((v34 == 10) || (v34 == 13)) || (decide (v34 ≥ 128))))), (71, .v (.bool (v34 == 92)))]) (B' := [some ⟨52, [.v (.string ⟨⟨v35⟩⟩), .opt q30 0 1, .v (.slice A32 x31.length c33)]⟩]) (by kernel_rfl) fun ρ w a hX => ?_
              refine ite_go h1 (fun hb h1 => ?_) (fun hb h1 => ?_)
              · have hX := hX.relit 71 hb (by kernel_rfl)
                refine hX.part [2] 1 [0, 5, 6, 58, 71, 72] (l' := [(0, .v (.string ⟨⟨s_⟩⟩)), (5, .ptr 0 0), (6, .v (.int .u8 v34)), (58, .v (.bool (((v34 == 10) || (v34 == 13)) || (decide (v34 ≥ 128))))), (71, .v (.bool true)), (72, .ptr 0 0)]) (B' := [some ⟨52, [.v (.string ⟨⟨v35⟩⟩), .opt q30 0 1, .v (.slice A32 x31.length c33)]⟩]) (by kernel_rfl) fun ρ w a hX => ?_
                obtain ⟨v43, hv43, h1⟩ := bnd_some h1
                have hX : Cx 86 _ _ _ _ _ [accP 5 kByte A32 c33 x31] [some ⟨52, [.v (.string ⟨⟨v35⟩⟩), .opt q30 0 1, .v (.slice A32 x31.length c33)]⟩] ρ _ _ := hX
                have hX : Cx 86 _ _ _ _ _ [own_units_reader ({ s := v35, out := x31 } : T_units_reader) (ρ 0)] [none] ρ _ _ := Cx.packP (Y := (Bool × Option Addr × Nat)) hX 0 ((q30, A32, c33) : (Bool × Option Addr × Nat)) rfl rfl rfl rfl (fun h => h)
                have hX : Cx 86 _ _ _ _ _ [own_units_reader ({ s := v35, out := x31 } : T_units_reader) (ρ 0)] [none] ρ _ _ := hX
                refine Cx.callH (M := [own_units_reader ({ s := v35, out := x31 } : T_units_reader) (ρ 0)]) (L := []) hX (lit := [2]) (by kernel_rfl) rfl (by kernel_rfl) ⟨⟨_, Tryd.func36, by kernel_rfl, rfl⟩⟩ (ss := [.ptr 0 0]) (by kernel_rfl) [.ptr 0 0] rfl (fun hg => ⟨trivial, trivial⟩) [ρ 0] (fun D' hD' hv hle hg hst => units_reader_escape.ok ({ s := v35, out := x31 } : T_units_reader) v43 hv43 _ _ hv (hG.mono hle) hg (fun k => match k with | 0 => ρ 0 | _ => 0) D' hD' hst) (fun s F M w a hp hX => ?_)
                obtain ⟨hp, rfl⟩ := hp
                subst hp
                have hX : Cx 86 _ _ _ _ _ [own_units_reader v43.2 (ρ 0)] [none] ρ _ _ := hX
                obtain ⟨⟨q44, A45, c46⟩, hX⟩ := Cx.unpackP (k := 0) (Y := (Bool × Option Addr × Nat)) (ty := 52) hX (fun (y : (Bool × Option Addr × Nat)) => [.v (.string ⟨⟨v43.2.s⟩⟩), .opt y.1 0 1, .v (.slice y.2.1 v43.2.out.length y.2.2)]) rfl (fun y => rfl) (fun y F h => h) (fun y => rfl)
                have hX : Cx 86 _ _ _ _ _ [accP 5 kByte A45 c46 v43.2.out] [some ⟨52, [.v (.string ⟨⟨v43.2.s⟩⟩), .opt q44 0 1, .v (.slice A45 v43.2.out.length c46)]⟩] ρ _ _ := hX
                refine hX.part [2] 3 [0, 5, 6, 58] (l' := [(0, .v (.string ⟨⟨s_⟩⟩)), (5, .ptr 0 0), (6, .v (.int .u8 v34)), (58, .v (.bool (!v43.1)))]) (B' := [some ⟨52, [.v (.string ⟨⟨v43.2.s⟩⟩), .opt q44 0 1, .v (.slice A45 v43.2.out.length c46)]⟩]) (by kernel_rfl) fun ρ w a hX => ?_
                refine wpList_end ?_
                have hX := hX.keeps [0, 5, 6, 58] (l' := [(0, .v (.string ⟨⟨s_⟩⟩)), (5, .ptr 0 0), (6, .v (.int .u8 v34)), (58, .v (.bool (!v43.1)))]) (by kernel_rfl)
                exact J23 (!v43.1) v43.2.s v43.2.out h1 q44 A45 c46 _ _ _ _ hX
              · have hX := hX.relit 71 hb (by kernel_rfl)
                refine hX.part [2] 5 [0, 5, 6, 58] (l' := [(0, .v (.string ⟨⟨s_⟩⟩)), (5, .ptr 0 0), (6, .v (.int .u8 v34)), (58, .v (.bool false))]) (B' := [some ⟨52, [.v (.string ⟨⟨v35⟩⟩), .opt q30 0 1, .v (.slice A32 x31.length c33)]⟩]) (by kernel_rfl) fun ρ w a hX => ?_
                refine wpList_end ?_
                have hX := hX.keeps [0, 5, 6, 58] (l' := [(0, .v (.string ⟨⟨s_⟩⟩)), (5, .ptr 0 0), (6, .v (.int .u8 v34)), (58, .v (.bool false))]) (by kernel_rfl)
                exact J23 false v35 x31 h1 q30 A32 c33 _ _ _ _ hX
        · have h1 := ite_ff h1 hb
          refine wp_exit ?_
          have hX := hX.dropL 0 rfl rfl
          have hX := hX.keeps [] (l' := []) (by kernel_rfl)
          have hX := hX.shrink 0 (B' := []) (by kernel_rfl) (Nat.le_of_ble_eq_true rfl) (by kernel_rfl) (by kernel_rfl) (Nat.zero_le _)
          exact E1x0 () (hx1 _ (out_eq h1)).symm  _ _ _ _ hX
      · exact ⟨false, none, 0, _, _, hX⟩
  refine wp_region_list ?_
  refine hX.part [] 3 [0, 9] (l' := [(0, .v (.string ⟨⟨s_⟩⟩)), (9, .v (.bool (s_ == ([] : Str))))]) (B' := []) (by kernel_rfl) fun ρ w a hX => ?_
  refine ite_go h0 (fun hb h0 => ?_) (fun hb h0 => ?_)
  · have hX := hX.relit 9 hb (by kernel_rfl)
    refine hX.part [2, 6] 9 [0, 18] (l' := [(0, .v (.string ⟨⟨s_⟩⟩)), (18, .v (.bool true))]) (B' := []) (by kernel_rfl) fun ρ w a hX => ?_
    refine wpList_end ?_
    have hX := hX.keeps [0, 18] (l' := [(0, .v (.string ⟨⟨s_⟩⟩)), (18, .v (.bool true))]) (by kernel_rfl)
    exact J3 true h0  _ _ _ _ hX
  · have hX := hX.relit 9 hb (by kernel_rfl)
    refine hX.part [2] 1 [0, 9, 10] (l' := [(0, .v (.string ⟨⟨s_⟩⟩)), (9, .v (.bool false)), (10, .v (.string ⟨⟨s_⟩⟩))]) (B' := []) (by kernel_rfl) fun ρ w a hX => ?_
    obtain ⟨v1, hv1, h0⟩ := bnd_some h0
    refine hX.idxStr (lit := [2]) (by kernel_rfl) (by kernel_rfl) rfl (s := s_) (k := .i64) (n := 0) (b := v1) (by kernel_rfl) (by kernel_rfl) (by kernel_rfl) hv1 fun a hX => ?_
    refine hX.part [2] 2 [0, 9, 13] (l' := [(0, .v (.string ⟨⟨s_⟩⟩)), (9, .v (.bool false)), (13, .v (.bool (v1 != 39)))]) (B' := []) (by kernel_rfl) fun ρ w a hX => ?_
    refine ite_go h0 (fun hb h0 => ?_) (fun hb h0 => ?_)
    · have hX := hX.relit 13 hb (by kernel_rfl)
      refine hX.part [6] 1 [0, 9, 13, 14] (l' := [(0, .v (.string ⟨⟨s_⟩⟩)), (9, .v (.bool false)), (13, .v (.bool true)), (14, .v (.string ⟨⟨s_⟩⟩))]) (B' := []) (by kernel_rfl) fun ρ w a hX => ?_
      obtain ⟨v2, hv2, h0⟩ := bnd_some h0
      refine hX.idxStr (lit := [6]) (by kernel_rfl) (by kernel_rfl) rfl (s := s_) (k := .i64) (n := 0) (b := v2) (by kernel_rfl) (by kernel_rfl) (by kernel_rfl) hv2 fun a hX => ?_
      refine hX.part [2, 6] 3 [0, 18] (l' := [(0, .v (.string ⟨⟨s_⟩⟩)), (18, .v (.bool (v2 != 34)))]) (B' := []) (by kernel_rfl) fun ρ w a hX => ?_
      refine wpList_end ?_
      have hX := hX.keeps [0, 18] (l' := [(0, .v (.string ⟨⟨s_⟩⟩)), (18, .v (.bool (v2 != 34)))]) (by kernel_rfl)
      exact J3 (v2 != 34) h0  _ _ _ _ hX
    · have hX := hX.relit 13 hb (by kernel_rfl)
      refine hX.part [2, 6] 5 [0, 18] (l' := [(0, .v (.string ⟨⟨s_⟩⟩)), (18, .v (.bool false))]) (B' := []) (by kernel_rfl) fun ρ w a hX => ?_
      refine wpList_end ?_
      have hX := hX.keeps [0, 18] (l' := [(0, .v (.string ⟨⟨s_⟩⟩)), (18, .v (.bool false))]) (by kernel_rfl)
      exact J3 false h0  _ _ _ _ hX
def units_Index.l1 (u : Str) (v1 : Int) (s : Int × Int) : Option ((Int × Int) ⊕ ((Int) ⊕ (Int × Bool))) := match s with
  | (x5, x6) =>
  if (decide (x6 < v1)) = true then
    Option.bind (units_At u x6) fun v7 =>
    if ((decide (v7 < 48)) || (decide (v7 > 57))) = true then
      some (.inr (.inr (0, false)))
    else
      some (.inl ((IntKind.wrap .i64 ((IntKind.wrap .i64 ((IntKind.wrap .i64 (10 * x5)) + v7)) - 48)), (IntKind.wrap .i64 (x6 + 1))))
  else
    some (.inr (.inl x5))
def units_Index.j1 (u : Str) (v1 : Int) (x3 : Bool) : Option (Int × Bool) :=
  if x3 = true then
    some (0, false)
  else
    Option.bind (loopM (units_Index.l1 u v1) (0, 0)) fun e => match e with
    | (.inl x10) =>
      some (x10, true)
    | (.inr r11) =>
      some r11
def units_Index (u : Str) : Option (Int × Bool) :=
  Option.bind (units_Len u) fun v1 =>
  if ((v1 == 0) || (decide (v1 > 9))) = true then
    units_Index.j1 u v1 true
  else
    Option.bind (units_At u 0) fun v2 =>
    units_Index.j1 u v1 ((v2 == 48) && (decide (v1 > 1)))
theorem units_Index.ok (u : Str) (r : Int × Bool) (h0 : units_Index u = some r) (w0 : World) (F0 : Heap) (hv : F0.Sub w0) (hG : Glob F0) (hg : SV.goods F0 [.v (.string ⟨⟨u⟩⟩)]) (ρ : Nat → Nat) :
    Calls Tryd.prog 15 (SV.dens ρ [.v (.string ⟨⟨u⟩⟩)]).toArray w0 (Ret0 w0 F0 fun s => ∃ s1 s2, s = .tup [s1, s2] ∧ (s1 = .v (.int .i64 r.1)) ∧ (s2 = .v (.bool r.2))) := by
  refine calls_of_wp Tryd.func15 rfl ?_
  have hX := Cx.enter (D := No) (B := []) (L := []) (ρ := ρ) (N := 45) Tryd.ntmps15 [.v (.string ⟨⟨u⟩⟩)] (St.start hv) rfl hg (by kernel_rfl) (fun _ h => by cases h) (Nat.le_of_ble_eq_true rfl) No.unfix
  unfold units_Index at h0
  refine Cx.rseq hX [] [0] (l' := [(0, .v (.string ⟨⟨u⟩⟩))]) (B' := []) (by kernel_rfl) fun ρ w a hX => ?_
  refine wp_seq_k fun K2 hK2 => ?_
  refine wp_region_list ?_
  refine hX.part [] 1 [0, 8] (l' := [(0, .v (.string ⟨⟨u⟩⟩)), (8, .v (.string ⟨⟨u⟩⟩))]) (B' := []) (by kernel_rfl) fun ρ w a hX => ?_
  obtain ⟨v1, hv1, h0⟩ := bnd_some h0
  refine Cx.call0 hX (lit := []) (by kernel_rfl) rfl (by kernel_rfl) ⟨⟨_, Tryd.func22, by kernel_rfl, rfl⟩⟩ (ss := [.v (.string ⟨⟨u⟩⟩)]) (by kernel_rfl) [.v (.string ⟨⟨u⟩⟩)] rfl (fun hg => hg) (fun hv hle hg => units_Len.ok u v1 hv1 _ _ hv (hG.mono hle) hg _) (fun s F w a hp hX => ?_)
  subst hp
  refine hX.part [] 1 [0, 4] (l' := [(0, .v (.string ⟨⟨u⟩⟩)), (4, .v (.int .i64 v1))]) (B' := []) (by kernel_rfl) fun ρ w a hX => ?_
  refine wpList_end ?_
  refine hK2 _ _ ?_
  refine wp_seq_k fun K3 hK3 => ?_
  refine wp_seq_k fun K4 hK4 => ?_
  have J4 : ∀ (x3 : Bool), units_Index.j1 u v1 x3 = some r → ∀ (ρ : Nat → Nat) (w : World) (F : Heap) (a : Act), Cx 45 w0 F0 No w F [] [] ρ [(0, .v (.string ⟨⟨u⟩⟩)), (4, .v (.int .i64 v1)), (24, .v (.bool x3))] a → K4 a w := by
    intro x3 h0  ρ w F a hX
    unfold units_Index.j1 at h0
    refine hK4 _ _ ?_
    refine Cx.cond hX (b := x3) (by kernel_rfl) (fun hb => ?_) (fun hb => ?_)
    · have h0 := ite_tt h0 hb
      refine Cx.rseq hX [] [2, 3] (l' := [(2, .v (.int .i64 0)), (3, .v (.bool false))]) (B' := []) (by kernel_rfl) fun ρ w a hX => ?_
      refine wp_ret ?_
      have hr := Option.some.inj (show some _ = some _ from h0)
      subst hr
      exact hX.ret0 (ss := [.v (.int .i64 0), .v (.bool false)]) (by kernel_rfl) (by kernel_rfl) ⟨_, _, rfl, rfl, rfl⟩
    · have h0 := ite_ff h0 hb
      refine wp_skip ?_
      refine hK3 _ _ ?_
      refine Cx.rseq hX [] [0, 4, 5] (l' := [(0, .v (.string ⟨⟨u⟩⟩)), (4, .v (.int .i64 v1)), (5, .v (.int .i64 0))]) (B' := []) (by kernel_rfl) fun ρ w a hX => ?_
      refine wp_seq_k fun K7 hK7 => ?_
      refine Cx.rseq hX [] [0, 5, 25, 26] (l' := [(0, .v (.string ⟨⟨u⟩⟩)), (5, .v (.int .i64 0)), (25, .v (.int .i64 v1)), (26, .v (.int .i64 0))]) (B' := []) (by kernel_rfl) fun ρ w a hX => ?_
      refine wp_block ?_
      have hX := hX.keeps [0, 5, 25, 26] (l' := [(0, .v (.string ⟨⟨u⟩⟩)), (5, .v (.int .i64 0)), (25, .v (.int .i64 v1)), (26, .v (.int .i64 0))]) (by kernel_rfl)
      obtain ⟨e1, he1, h0⟩ := bnd_some h0
      have E1x0 : ∀ (x10 : Int), e1 = (.inl x10) → ∀ (ρ : Nat → Nat) (w : World) (F : Heap) (a : Act), Cx 45 w0 F0 No w F [] [] ρ [(5, .v (.int .i64 x10))] a → K7 a w := by
        intro x10 he  ρ w F a hX
        replace he := he.symm
        subst he
        (try dsimp only at h0)
        refine hK7 _ _ ?_
        refine Cx.rseq hX [] [2, 3] (l' := [(2, .v (.int .i64 x10)), (3, .v (.bool true))]) (B' := []) (by kernel_rfl) fun ρ w a hX => ?_
        refine wp_ret ?_
        have hr := Option.some.inj (show some _ = some _ from h0)
        subst hr
        exact hX.ret0 (ss := [.v (.int .i64 x10), .v (.bool true)]) (by kernel_rfl) (by kernel_rfl) ⟨_, _, rfl, rfl, rfl⟩
      refine loop_go (fun (s : Int × Int) a w => match s with | (x5, x6) => ∃ (ρ : Nat → Nat) (F : Heap), Cx 45 w0 F0 No w F [] [] ρ [(0, .v (.string ⟨⟨u⟩⟩)), (5, .v (.int .i64 x5)), (25, .v (.int .i64 v1)), (26, .v (.int .i64 x6))] a) he1 (fun LW1 s o1 h1 hb1 hx1 a w hI => ?_) _ _ ?_
      · obtain ⟨x5, x6⟩ := s
        obtain ⟨ρ, F, hX⟩ := hI
        unfold units_Index.l1 at h1
        (try dsimp only at h1)
        refine Cx.rseq hX [] [0, 5, 25, 26, 27] (l' := [(0, .v (.string ⟨⟨u⟩⟩)), (5, .v (.int .i64 x5)), (25, .v (.int .i64 v1)), (26, .v (.int .i64 x6)), (27, .v (.bool (decide (x6 < v1))))]) (B' := []) (by kernel_rfl) fun ρ w a hX => ?_
        refine wp_seq_k fun K18 hK18 => ?_
        refine Cx.cond hX (b := (decide (x6 < v1))) (by kernel_rfl) (fun hb => ?_) (fun hb => ?_)
        · have h1 := ite_tt h1 hb
          refine wp_skip ?_
          refine hK18 _ _ ?_
          refine wp_seq_k fun K19 hK19 => ?_
          refine wp_block ?_
          refine Cx.rseq hX [] [0, 5, 6, 25, 26] (l' := [(0, .v (.string ⟨⟨u⟩⟩)), (5, .v (.int .i64 x5)), (6, .v (.int .i64 x6)), (25, .v (.int .i64 v1)), (26, .v (.int .i64 x6))]) (B' := []) (by kernel_rfl) fun ρ w a hX => ?_
          refine wp_seq_k fun K21 hK21 => ?_
          refine wp_region_list ?_
          refine hX.part [] 2 [0, 5, 25, 26, 29, 30] (l' := [(0, .v (.string ⟨⟨u⟩⟩)), (5, .v (.int .i64 x5)), (25, .v (.int .i64 v1)), (26, .v (.int .i64 x6)), (29, .v (.string ⟨⟨u⟩⟩)), (30, .v (.int .i64 x6))]) (B' := []) (by kernel_rfl) fun ρ w a hX => ?_
          obtain ⟨v7, hv7, h1⟩ := bnd_some h1
          refine Cx.call0 hX (lit := []) (by kernel_rfl) rfl (by kernel_rfl) ⟨⟨_, Tryd.func23, by kernel_rfl, rfl⟩⟩ (ss := [.v (.string ⟨⟨u⟩⟩), .v (.int .i64 x6)]) (by kernel_rfl) [.v (.string ⟨⟨u⟩⟩), .v (.int .i64 x6)] rfl (fun hg => hg) (fun hv hle hg => units_At.ok u x6 v7 hv7 _ _ hv (hG.mono hle) hg _) (fun s F w a hp hX => ?_)
          subst hp
          refine hX.part [] 1 [0, 5, 7, 25, 26] (l' := [(0, .v (.string ⟨⟨u⟩⟩)), (5, .v (.int .i64 x5)), (7, .v (.int .i64 v7)), (25, .v (.int .i64 v1)), (26, .v (.int .i64 x6))]) (B' := []) (by kernel_rfl) fun ρ w a hX => ?_
          refine wpList_end ?_
          refine hK21 _ _ ?_
          refine wp_seq_k fun K22 hK22 => ?_
          refine Cx.rseq hX [] [0, 5, 7, 25, 26, 37] (l' := [(0, .v (.string ⟨⟨u⟩⟩)), (5, .v (.int .i64 x5)), (7, .v (.int .i64 v7)), (25, .v (.int .i64 v1)), (26, .v (.int .i64 x6)), (37, .v (.bool ((decide (v7 < 48)) || (decide (v7 > 57)))))]) (B' := []) (by kernel_rfl) fun ρ w a hX => ?_
          refine Cx.cond hX (b := ((decide (v7 < 48)) || (decide (v7 > 57)))) (by kernel_rfl) (fun hb => ?_) (fun hb => ?_)
          · have h1 := ite_tt h1 hb
            refine Cx.rseq hX [] [2, 3] (l' := [(2, .v (.int .i64 0)), (3, .v (.bool false))]) (B' := []) (by kernel_rfl) fun ρ w a hX => ?_
            refine wp_ret ?_
            have he := hx1 _ (out_eq h1)
            subst he
            (try dsimp only at h0)
            have hr := Option.some.inj (show some _ = some _ from h0)
            subst hr
            exact hX.ret0 (ss := [.v (.int .i64 0), .v (.bool false)]) (by kernel_rfl) (by kernel_rfl) ⟨_, _, rfl, rfl, rfl⟩
          · have h1 := ite_ff h1 hb
            refine wp_skip ?_
            refine hK22 _ _ ?_
            refine Cx.region hX [] [0, 5, 25, 26] (l' := [(0, .v (.string ⟨⟨u⟩⟩)), (5, .v (.int .i64 (IntKind.wrap .i64 ((IntKind.wrap .i64 ((IntKind.wrap .i64 (10 * x5)) + v7)) - 48)))), (25, .v (.int .i64 v1)), (26, .v (.int .i64 x6))]) (B' := []) (by kernel_rfl) fun ρ w a hX => ?_
            refine hK19 _ _ ?_
            refine Cx.region hX [] [0, 5, 25, 26] (l' := [(0, .v (.string ⟨⟨u⟩⟩)), (5, .v (.int .i64 (IntKind.wrap .i64 ((IntKind.wrap .i64 ((IntKind.wrap .i64 (10 * x5)) + v7)) - 48)))), (25, .v (.int .i64 v1)), (26, .v (.int .i64 (IntKind.wrap .i64 (x6 + 1))))]) (B' := []) (by kernel_rfl) fun ρ w a hX => ?_
            have hX := hX.keeps [0, 5, 25, 26] (l' := [(0, .v (.string ⟨⟨u⟩⟩)), (5, .v (.int .i64 (IntKind.wrap .i64 ((IntKind.wrap .i64 ((IntKind.wrap .i64 (10 * x5)) + v7)) - 48)))), (25, .v (.int .i64 v1)), (26, .v (.int .i64 (IntKind.wrap .i64 (x6 + 1))))]) (by kernel_rfl)
            exact hb1 ((IntKind.wrap .i64 ((IntKind.wrap .i64 ((IntKind.wrap .i64 (10 * x5)) + v7)) - 48)), (IntKind.wrap .i64 (x6 + 1))) (out_eq h1) _ _ ⟨_, _, hX⟩
        · have h1 := ite_ff h1 hb
          refine wp_exit ?_
          have hX := hX.keeps [5] (l' := [(5, .v (.int .i64 x5))]) (by kernel_rfl)
          exact E1x0 x5 (hx1 _ (out_eq h1)).symm  _ _ _ _ hX
      · exact ⟨_, _, hX⟩
  refine wp_region_list ?_
  refine hX.part [] 7 [0, 4, 16] (l' := [(0, .v (.string ⟨⟨u⟩⟩)), (4, .v (.int .i64 v1)), (16, .v (.bool ((v1 == 0) || (decide (v1 > 9)))))]) (B' := []) (by kernel_rfl) fun ρ w a hX => ?_
  refine ite_go h0 (fun hb h0 => ?_) (fun hb h0 => ?_)
  · have hX := hX.relit 16 hb (by kernel_rfl)
    refine hX.part [6, 10] 8 [0, 4, 24] (l' := [(0, .v (.string ⟨⟨u⟩⟩)), (4, .v (.int .i64 v1)), (24, .v (.bool true))]) (B' := []) (by kernel_rfl) fun ρ w a hX => ?_
    refine wpList_end ?_
    have hX := hX.keeps [0, 4, 24] (l' := [(0, .v (.string ⟨⟨u⟩⟩)), (4, .v (.int .i64 v1)), (24, .v (.bool true))]) (by kernel_rfl)
    exact J4 true h0  _ _ _ _ hX
  · have hX := hX.relit 16 hb (by kernel_rfl)
    refine hX.part [6] 1 [0, 4, 16, 17] (l' := [(0, .v (.string ⟨⟨u⟩⟩)), (4, .v (.int .i64 v1)), (16, .v (.bool false)), (17, .v (.string ⟨⟨u⟩⟩))]) (B' := []) (by kernel_rfl) fun ρ w a hX => ?_
    obtain ⟨v2, hv2, h0⟩ := bnd_some h0
    refine Cx.call0 hX (lit := [6]) (by kernel_rfl) rfl (by kernel_rfl) ⟨⟨_, Tryd.func23, by kernel_rfl, rfl⟩⟩ (ss := [.v (.string ⟨⟨u⟩⟩), .v (.int .i64 0)]) (by kernel_rfl) [.v (.string ⟨⟨u⟩⟩), .v (.int .i64 0)] rfl (fun hg => hg) (fun hv hle hg => units_At.ok u 0 v2 hv2 _ _ hv (hG.mono hle) hg _) (fun s F w a hp hX => ?_)
    subst hp
    refine hX.part [6] 6 [0, 4, 24] (l' := [(0, .v (.string ⟨⟨u⟩⟩)), (4, .v (.int .i64 v1)), (24, .v (.bool ((v2 == 48) && (decide (v1 > 1)))))]) (B' := []) (by kernel_rfl) fun ρ w a hX => ?_
    refine wpList_end ?_
    have hX := hX.keeps [0, 4, 24] (l' := [(0, .v (.string ⟨⟨u⟩⟩)), (4, .v (.int .i64 v1)), (24, .v (.bool ((v2 == 48) && (decide (v1 > 1)))))]) (by kernel_rfl)
    exact J4 ((v2 == 48) && (decide (v1 > 1))) h0  _ _ _ _ hX
def law01_live : Option (Bool) :=
  Option.bind (units_Of ([97, 98] : Str)) fun v1 =>
  Option.bind (units_Quote ([0, 34, 0, 10, 0, 233] : Str)) fun v2 =>
  Option.bind (units_Read ([39, 97, 92, 120, 52, 49, 39, 32, 43, 32, 98] : Str)) fun v3 =>
  Option.bind (units_Index ([0, 49, 0, 48] : Str)) fun v4 =>
  some (((((((((v1.1 == ([0, 97, 0, 98] : Str)) && (v1.2 == 0)) && (v2.1 == ([34, 92, 34, 92, 110, 92, 117, 48, 48, 101, 57, 34] : Str))) && (v2.2 == 0)) && (v3.1 == ([0, 97, 0, 65] : Str))) && (v3.2.1 == 7)) && (v3.2.2 == 0)) && (v4.1 == 10)) && v4.2)
theorem law01_live.ok (r : Bool) (h0 : law01_live = some r) (w0 : World) (F0 : Heap) (hv : F0.Sub w0) (hG : Glob F0) (hg : SV.goods F0 []) (ρ : Nat → Nat) :
    Calls Tryd.prog 14 (SV.dens ρ []).toArray w0 (Ret0 w0 F0 fun s => s = .v (.bool r)) := by
  refine calls_of_wp Tryd.func14 rfl ?_
  have hX := Cx.enter (D := No) (B := []) (L := []) (ρ := ρ) (N := 60) Tryd.ntmps14 [] (St.start hv) rfl hg (by kernel_rfl) (fun _ h => by cases h) (Nat.le_of_ble_eq_true rfl) No.unfix
  unfold law01_live at h0
  refine Cx.rseq hX [] [] (l' := []) (B' := []) (by kernel_rfl) fun ρ w a hX => ?_
  refine wp_seq_k fun K2 hK2 => ?_
  refine wp_region_list ?_
  refine hX.part [] 0 [] (l' := []) (B' := []) (by kernel_rfl) fun ρ w a hX => ?_
  obtain ⟨v1, hv1, h0⟩ := bnd_some h0
  refine Cx.call0 hX (lit := []) (by kernel_rfl) rfl (by kernel_rfl) ⟨⟨_, Tryd.func12, by kernel_rfl, rfl⟩⟩ (ss := [.v (.string ⟨⟨([97, 98] : Str)⟩⟩)]) (by kernel_rfl) [.v (.string ⟨⟨([97, 98] : Str)⟩⟩)] rfl (fun hg => hg) (fun hv hle hg => units_Of.ok ([97, 98] : Str) v1 hv1 _ _ hv (hG.mono hle) hg _) (fun s F w a hp hX => ?_)
  obtain ⟨_, _, rfl, rfl, rfl⟩ := hp
  refine hX.part [] 5 [1, 2] (l' := [(1, .v (.string ⟨⟨v1.1⟩⟩)), (2, .v (.int .i64 v1.2))]) (B' := []) (by kernel_rfl) fun ρ w a hX => ?_
  refine wpList_end ?_
  refine hK2 _ _ ?_
  refine wp_seq_k fun K3 hK3 => ?_
  refine wp_region_list ?_
  refine hX.part [] 0 [1, 2] (l' := [(1, .v (.string ⟨⟨v1.1⟩⟩)), (2, .v (.int .i64 v1.2))]) (B' := []) (by kernel_rfl) fun ρ w a hX => ?_
  obtain ⟨v2, hv2, h0⟩ := bnd_some h0
  refine Cx.call0 hX (lit := []) (by kernel_rfl) rfl (by kernel_rfl) ⟨⟨_, Tryd.func17, by kernel_rfl, rfl⟩⟩ (ss := [.v (.string ⟨⟨([0, 34, 0, 10, 0, 233] : Str)⟩⟩)]) (by kernel_rfl) [.v (.string ⟨⟨([0, 34, 0, 10, 0, 233] : Str)⟩⟩)] rfl (fun hg => hg) (fun hv hle hg => units_Quote.ok ([0, 34, 0, 10, 0, 233] : Str) v2 hv2 _ _ hv (hG.mono hle) hg _) (fun s F w a hp hX => ?_)
  obtain ⟨_, _, rfl, rfl, rfl⟩ := hp
  refine hX.part [] 5 [1, 2, 3, 4] (l' := [(1, .v (.string ⟨⟨v1.1⟩⟩)), (2, .v (.int .i64 v1.2)), (3, .v (.string ⟨⟨v2.1⟩⟩)), (4, .v (.int .i64 v2.2))]) (B' := []) (by kernel_rfl) fun ρ w a hX => ?_
  refine wpList_end ?_
  refine hK3 _ _ ?_
  refine wp_seq_k fun K4 hK4 => ?_
  refine wp_region_list ?_
  refine hX.part [] 0 [1, 2, 3, 4] (l' := [(1, .v (.string ⟨⟨v1.1⟩⟩)), (2, .v (.int .i64 v1.2)), (3, .v (.string ⟨⟨v2.1⟩⟩)), (4, .v (.int .i64 v2.2))]) (B' := []) (by kernel_rfl) fun ρ w a hX => ?_
  obtain ⟨v3, hv3, h0⟩ := bnd_some h0
  refine Cx.call0 hX (lit := []) (by kernel_rfl) rfl (by kernel_rfl) ⟨⟨_, Tryd.func19, by kernel_rfl, rfl⟩⟩ (ss := [.v (.string ⟨⟨([39, 97, 92, 120, 52, 49, 39, 32, 43, 32, 98] : Str)⟩⟩)]) (by kernel_rfl) [.v (.string ⟨⟨([39, 97, 92, 120, 52, 49, 39, 32, 43, 32, 98] : Str)⟩⟩)] rfl (fun hg => hg) (fun hv hle hg => units_Read.ok ([39, 97, 92, 120, 52, 49, 39, 32, 43, 32, 98] : Str) v3 hv3 _ _ hv (hG.mono hle) hg _) (fun s F w a hp hX => ?_)
  obtain ⟨_, _, _, rfl, rfl, rfl, rfl⟩ := hp
  refine hX.part [] 7 [1, 2, 3, 4, 5, 6, 7] (l' := [(1, .v (.string ⟨⟨v1.1⟩⟩)), (2, .v (.int .i64 v1.2)), (3, .v (.string ⟨⟨v2.1⟩⟩)), (4, .v (.int .i64 v2.2)), (5, .v (.string ⟨⟨v3.1⟩⟩)), (6, .v (.int .i64 v3.2.1)), (7, .v (.int .i64 v3.2.2))]) (B' := []) (by kernel_rfl) fun ρ w a hX => ?_
  refine wpList_end ?_
  refine hK4 _ _ ?_
  refine wp_seq_k fun K5 hK5 => ?_
  refine wp_region_list ?_
  refine hX.part [] 0 [1, 2, 3, 4, 5, 6, 7] (l' := [(1, .v (.string ⟨⟨v1.1⟩⟩)), (2, .v (.int .i64 v1.2)), (3, .v (.string ⟨⟨v2.1⟩⟩)), (4, .v (.int .i64 v2.2)), (5, .v (.string ⟨⟨v3.1⟩⟩)), (6, .v (.int .i64 v3.2.1)), (7, .v (.int .i64 v3.2.2))]) (B' := []) (by kernel_rfl) fun ρ w a hX => ?_
  obtain ⟨v4, hv4, h0⟩ := bnd_some h0
  refine Cx.call0 hX (lit := []) (by kernel_rfl) rfl (by kernel_rfl) ⟨⟨_, Tryd.func15, by kernel_rfl, rfl⟩⟩ (ss := [.v (.string ⟨⟨([0, 49, 0, 48] : Str)⟩⟩)]) (by kernel_rfl) [.v (.string ⟨⟨([0, 49, 0, 48] : Str)⟩⟩)] rfl (fun hg => hg) (fun hv hle hg => units_Index.ok ([0, 49, 0, 48] : Str) v4 hv4 _ _ hv (hG.mono hle) hg _) (fun s F w a hp hX => ?_)
  obtain ⟨_, _, rfl, rfl, rfl⟩ := hp
  refine hX.part [] 5 [1, 2, 3, 4, 5, 6, 7, 8, 9] (l' := [(1, .v (.string ⟨⟨v1.1⟩⟩)), (2, .v (.int .i64 v1.2)), (3, .v (.string ⟨⟨v2.1⟩⟩)), (4, .v (.int .i64 v2.2)), (5, .v (.string ⟨⟨v3.1⟩⟩)), (6, .v (.int .i64 v3.2.1)), (7, .v (.int .i64 v3.2.2)), (8, .v (.int .i64 v4.1)), (9, .v (.bool v4.2))]) (B' := []) (by kernel_rfl) fun ρ w a hX => ?_
  refine wpList_end ?_
  refine hK5 _ _ ?_
  refine Cx.rseq hX [] [0] (l' := [(0, .v (.bool (((((((((v1.1 == ([0, 97, 0, 98] : Str)) && (v1.2 == 0)) && (v2.1 == ([34, 92, 34, 92, 110, 92, 117, 48, 48, 101, 57, 34] : Str))) && (v2.2 == 0)) && (v3.1 == ([0, 97, 0, 65] : Str))) && (v3.2.1 == 7)) && (v3.2.2 == 0)) && (v4.1 == 10)) && v4.2)))]) (B' := []) (by kernel_rfl) fun ρ w a hX => ?_
  refine wp_ret ?_
  have hr := Option.some.inj (show some _ = some _ from h0)
  subst hr
  exact hX.ret0 (ss := [.v (.bool (((((((((v1.1 == ([0, 97, 0, 98] : Str)) && (v1.2 == 0)) && (v2.1 == ([34, 92, 34, 92, 110, 92, 117, 48, 48, 101, 57, 34] : Str))) && (v2.2 == 0)) && (v3.1 == ([0, 97, 0, 65] : Str))) && (v3.2.1 == 7)) && (v3.2.2 == 0)) && (v4.1 == 10)) && v4.2))]) (by kernel_rfl) (by kernel_rfl) rfl
def law01_UnitsOf (s_ : Str) : Option (Bool) :=
  Option.bind (units_Of s_) fun v1 =>
  Option.bind (ref01_Of s_) fun v2 =>
  Option.bind (law01_live) fun v3 =>
  some ((v3 && (v1.1 == v2.1)) && (v1.2 == v2.2))
theorem law01_UnitsOf.ok (s_ : Str) (r : Bool) (h0 : law01_UnitsOf s_ = some r) (w0 : World) (F0 : Heap) (hv : F0.Sub w0) (hG : Glob F0) (hg : SV.goods F0 [.v (.string ⟨⟨s_⟩⟩)]) (ρ : Nat → Nat) :
    Calls Tryd.prog 3 (SV.dens ρ [.v (.string ⟨⟨s_⟩⟩)]).toArray w0 (Ret0 w0 F0 fun s => s = .v (.bool r)) := by
  refine calls_of_wp Tryd.func3 rfl ?_
  have hX := Cx.enter (D := No) (B := []) (L := []) (ρ := ρ) (N := 28) Tryd.ntmps3 [.v (.string ⟨⟨s_⟩⟩)] (St.start hv) rfl hg (by kernel_rfl) (fun _ h => by cases h) (Nat.le_of_ble_eq_true rfl) No.unfix
  unfold law01_UnitsOf at h0
  refine Cx.rseq hX [] [0] (l' := [(0, .v (.string ⟨⟨s_⟩⟩))]) (B' := []) (by kernel_rfl) fun ρ w a hX => ?_
  refine wp_seq_k fun K2 hK2 => ?_
  refine wp_region_list ?_
  refine hX.part [] 1 [0, 8] (l' := [(0, .v (.string ⟨⟨s_⟩⟩)), (8, .v (.string ⟨⟨s_⟩⟩))]) (B' := []) (by kernel_rfl) fun ρ w a hX => ?_
  obtain ⟨v1, hv1, h0⟩ := bnd_some h0
  refine Cx.call0 hX (lit := []) (by kernel_rfl) rfl (by kernel_rfl) ⟨⟨_, Tryd.func12, by kernel_rfl, rfl⟩⟩ (ss := [.v (.string ⟨⟨s_⟩⟩)]) (by kernel_rfl) [.v (.string ⟨⟨s_⟩⟩)] rfl (fun hg => hg) (fun hv hle hg => units_Of.ok s_ v1 hv1 _ _ hv (hG.mono hle) hg _) (fun s F w a hp hX => ?_)
  obtain ⟨_, _, rfl, rfl, rfl⟩ := hp
  refine hX.part [] 5 [0, 3, 4] (l' := [(0, .v (.string ⟨⟨s_⟩⟩)), (3, .v (.string ⟨⟨v1.1⟩⟩)), (4, .v (.int .i64 v1.2))]) (B' := []) (by kernel_rfl) fun ρ w a hX => ?_
  refine wpList_end ?_
  refine hK2 _ _ ?_
  refine wp_seq_k fun K3 hK3 => ?_
  refine wp_region_list ?_
  refine hX.part [] 1 [3, 4, 13] (l' := [(3, .v (.string ⟨⟨v1.1⟩⟩)), (4, .v (.int .i64 v1.2)), (13, .v (.string ⟨⟨s_⟩⟩))]) (B' := []) (by kernel_rfl) fun ρ w a hX => ?_
  obtain ⟨v2, hv2, h0⟩ := bnd_some h0
  refine Cx.call0 hX (lit := []) (by kernel_rfl) rfl (by kernel_rfl) ⟨⟨_, Tryd.func13, by kernel_rfl, rfl⟩⟩ (ss := [.v (.string ⟨⟨s_⟩⟩)]) (by kernel_rfl) [.v (.string ⟨⟨s_⟩⟩)] rfl (fun hg => hg) (fun hv hle hg => ref01_Of.ok s_ v2 hv2 _ _ hv (hG.mono hle) hg _) (fun s F w a hp hX => ?_)
  obtain ⟨_, _, rfl, rfl, rfl⟩ := hp
  refine hX.part [] 5 [3, 4, 5, 6] (l' := [(3, .v (.string ⟨⟨v1.1⟩⟩)), (4, .v (.int .i64 v1.2)), (5, .v (.string ⟨⟨v2.1⟩⟩)), (6, .v (.int .i64 v2.2))]) (B' := []) (by kernel_rfl) fun ρ w a hX => ?_
  refine wpList_end ?_
  refine hK3 _ _ ?_
  refine wp_seq_k fun K4 hK4 => ?_
  refine wp_region_list ?_
  refine hX.part [] 0 [3, 4, 5, 6] (l' := [(3, .v (.string ⟨⟨v1.1⟩⟩)), (4, .v (.int .i64 v1.2)), (5, .v (.string ⟨⟨v2.1⟩⟩)), (6, .v (.int .i64 v2.2))]) (B' := []) (by kernel_rfl) fun ρ w a hX => ?_
  obtain ⟨v3, hv3, h0⟩ := bnd_some h0
  refine Cx.call0 hX (lit := []) (by kernel_rfl) rfl (by kernel_rfl) ⟨⟨_, Tryd.func14, by kernel_rfl, rfl⟩⟩ (ss := []) (by kernel_rfl) [] rfl (fun hg => hg) (fun hv hle hg => law01_live.ok v3 hv3 _ _ hv (hG.mono hle) hg _) (fun s F w a hp hX => ?_)
  subst hp
  refine hX.part [] 11 [2] (l' := [(2, .v (.bool ((v3 && (v1.1 == v2.1)) && (v1.2 == v2.2))))]) (B' := []) (by kernel_rfl) fun ρ w a hX => ?_
  refine wpList_end ?_
  refine hK4 _ _ ?_
  refine wp_ret ?_
  have hr := Option.some.inj (show some _ = some _ from h0)
  subst hr
  exact hX.ret0 (ss := [.v (.bool ((v3 && (v1.1 == v2.1)) && (v1.2 == v2.2)))]) (by kernel_rfl) (by kernel_rfl) rfl
def ref01_List.l1 (u : Str) (s : Int × (List Int)) : Option ((Int × (List Int)) ⊕ (((List Int)))) := match s with
  | (x6, x7) =>
  if (decide ((IntKind.wrap .i64 (x6 + 1)) < ((u.length : Nat) : Int))) = true then
    Option.bind (getB u x6) fun v10 =>
    Option.bind (getB u (IntKind.wrap .i64 (x6 + 1))) fun v11 =>
    Option.bind (room (x7.length + 1)) fun u14 =>
    some (.inl ((IntKind.wrap .i64 (x6 + 2)), (x7 ++ [(IntKind.wrap .i64 ((IntKind.wrap .i64 ((IntKind.wrap .i64 v10) * 256)) + (IntKind.wrap .i64 v11)))])))
  else
    some (.inr x7)
def ref01_List (u : Str) : Option ((List Int)) :=
  Option.bind (loopM (ref01_List.l1 u) (0, ([] : List Int))) fun e => match e with
  | x19 =>
    some x19
theorem ref01_List.ok (u : Str) (r : (List Int)) (h0 : ref01_List u = some r) (w0 : World) (F0 : Heap) (hv : F0.Sub w0) (hG : Glob F0) (hg : SV.goods F0 [.v (.string ⟨⟨u⟩⟩)]) (ρ : Nat → Nat) :
    Calls Tryd.prog 31 (SV.dens ρ [.v (.string ⟨⟨u⟩⟩)]).toArray w0 (Ret0 w0 F0 fun s => ∃ A c, s = SV.sl (kInt .i64) r A c) := by
  refine calls_of_wp Tryd.func31 rfl ?_
  have hX := Cx.enter (D := No) (B := []) (L := []) (ρ := ρ) (N := 27) Tryd.ntmps31 [.v (.string ⟨⟨u⟩⟩)] (St.start hv) rfl hg (by kernel_rfl) (fun _ h => by cases h) (Nat.le_of_ble_eq_true rfl) No.unfix
  unfold ref01_List at h0
  refine Cx.rseq hX [] [0] (l' := [(0, .v (.string ⟨⟨u⟩⟩))]) (B' := []) (by kernel_rfl) fun ρ w a hX => ?_
  refine Cx.rseq hX [] [0, 3] (l' := [(0, .v (.string ⟨⟨u⟩⟩)), (3, .v (.slice none 0 0))]) (B' := []) (by kernel_rfl) fun ρ w a hX => ?_
  refine wp_seq_k fun K3 hK3 => ?_
  refine Cx.rseq hX [] [0, 3, 4] (l' := [(0, .v (.string ⟨⟨u⟩⟩)), (3, .v (.slice none 0 0)), (4, .v (.int .i64 0))]) (B' := []) (by kernel_rfl) fun ρ w a hX => ?_
  refine wp_block ?_
  have hX := hX.newAcc 3 (kInt .i64)
  have hX := hX.keeps [0, 3, 4] (l' := [(0, .v (.string ⟨⟨u⟩⟩)), (3, .v (.slice none ([] : List Int).length 0)), (4, .v (.int .i64 0))]) (by kernel_rfl)
  obtain ⟨e1, he1, h0⟩ := bnd_some h0
  have E1x0 : ∀ (x19 : List Int), e1 = x19 → ∀ (A20 : Option Addr) (c21 : Nat) (ρ : Nat → Nat) (w : World) (F : Heap) (a : Act), Cx 27 w0 F0 No w F [accP 3 (kInt .i64) A20 c21 x19] [] ρ [(3, .v (.slice A20 x19.length c21))] a → K3 a w := by
    intro x19 he A20 c21 ρ w F a hX
    replace he := he.symm
    subst he
    (try dsimp only at h0)
    refine hK3 _ _ ?_
    refine Cx.rseq hX [] [2] (l' := [(2, .v (.slice A20 x19.length c21))]) (B' := []) (by kernel_rfl) fun ρ w a hX => ?_
    refine wp_ret ?_
    obtain ⟨F, hX⟩ := hX.freeze (i := 0) (t := 2) (e := 3) (d := (kInt .i64)) (A := A20) (c := c21) (xs := x19) rfl (by kernel_rfl)
    have hX : Cx 27 _ _ _ _ _ [] [] ρ _ a := hX
    have hr := Option.some.inj (show some _ = some _ from h0)
    subst hr
    exact hX.ret0 (ss := [SV.sl (kInt .i64) x19 A20 c21]) (by kernel_rfl) (by kernel_rfl) ⟨_, _, rfl⟩
  refine loop_go (fun (s : Int × (List Int)) a w => match s with | (x6, x7) => ∃ (A8 : Option Addr) (c9 : Nat) (ρ : Nat → Nat) (F : Heap), Cx 27 w0 F0 No w F [accP 3 (kInt .i64) A8 c9 x7] [] ρ [(0, .v (.string ⟨⟨u⟩⟩)), (3, .v (.slice A8 x7.length c9)), (4, .v (.int .i64 x6))] a) he1 (fun LW1 s o1 h1 hb1 hx1 a w hI => ?_) _ _ ?_
  · obtain ⟨x6, x7⟩ := s
    obtain ⟨A8, c9, ρ, F, hX⟩ := hI
    unfold ref01_List.l1 at h1
    (try dsimp only at h1)
    refine wp_seq_k fun K8 hK8 => ?_
    refine Cx.rseq hX [] [0, 3, 4, 9] (l' := [(0, .v (.string ⟨⟨u⟩⟩)), (3, .v (.slice A8 x7.length c9)), (4, .v (.int .i64 x6)), (9, .v (.bool (decide ((IntKind.wrap .i64 (x6 + 1)) < ((u.length : Nat) : Int)))))]) (B' := []) (by kernel_rfl) fun ρ w a hX => ?_
    refine Cx.cond hX (b := (decide ((IntKind.wrap .i64 (x6 + 1)) < ((u.length : Nat) : Int)))) (by kernel_rfl) (fun hb => ?_) (fun hb => ?_)
    · have h1 := ite_tt h1 hb
      refine wp_skip ?_
      refine hK8 _ _ ?_
      refine wp_seq_k fun K10 hK10 => ?_
      refine wp_block ?_
      have hGd := hG.mono hX.st.le
      refine hX.draw rfl (n := 15) rfl #[false, false, false, false, false, false, false, false, false, false, false, false, false, false, false] (by kernel_rfl) fun w D' hDk back hX => ?_
      refine hX.dq 0 rfl rfl (listed' := #[true, false, false, false, false, false, false, false, false, false, false, false, false, false, false]) (by kernel_rfl) (by kernel_rfl) (s := .v (.slice A8 x7.length c9)) (by kernel_rfl) fun a hX => ?_
      refine hX.dq 1 rfl rfl (listed' := #[true, true, false, false, false, false, false, false, false, false, false, false, false, false, false]) (by kernel_rfl) (by kernel_rfl) (s := .v (.string ⟨⟨u⟩⟩)) (by kernel_rfl) fun a hX => ?_
      refine hX.dq 2 rfl rfl (listed' := #[true, true, true, false, false, false, false, false, false, false, false, false, false, false, false]) (by kernel_rfl) (by kernel_rfl) (s := .v (.int .i64 x6)) (by kernel_rfl) fun a hX => ?_
      obtain ⟨v10, hv10, h1⟩ := bnd_some h1
      refine hX.dIdxStr 3 rfl rfl (listed' := #[true, true, true, true, false, false, false, false, false, false, false, false, false, false, false]) (by kernel_rfl) (by kernel_rfl) rfl (s := u) (k := .i64) (m := x6) (b := v10) (by kernel_rfl) (by kernel_rfl) (by kernel_rfl) hv10 fun a hX => ?_
      refine hX.dq 4 rfl rfl (listed' := #[true, true, true, true, true, false, false, false, false, false, false, false, false, false, false]) (by kernel_rfl) (by kernel_rfl) (s := .v (.int .i64 (IntKind.wrap .i64 v10))) (by kernel_rfl) fun a hX => ?_
      refine hX.dq 5 rfl rfl (listed' := #[true, true, true, true, true, true, false, false, false, false, false, false, false, false, false]) (by kernel_rfl) (by kernel_rfl) (s := .v (.int .i64 (IntKind.wrap .i64 ((IntKind.wrap .i64 v10) * 256)))) (by kernel_rfl) fun a hX => ?_
      refine hX.dq 6 rfl rfl (listed' := #[true, true, true, true, true, true, true, false, false, false, false, false, false, false, false]) (by kernel_rfl) (by kernel_rfl) (s := .v (.string ⟨⟨u⟩⟩)) (by kernel_rfl) fun a hX => ?_
      refine hX.dq 7 rfl rfl (listed' := #[true, true, true, true, true, true, true, true, false, false, false, false, false, false, false]) (by kernel_rfl) (by kernel_rfl) (s := .v (.int .i64 x6)) (by kernel_rfl) fun a hX => ?_
      refine hX.dq 8 rfl rfl (listed' := #[true, true, true, true, true, true, true, true, true, false, false, false, false, false, false]) (by kernel_rfl) (by kernel_rfl) (s := .v (.int .i64 (IntKind.wrap .i64 (x6 + 1)))) (by kernel_rfl) fun a hX => ?_
      obtain ⟨v11, hv11, h1⟩ := bnd_some h1
      refine hX.dIdxStr 9 rfl rfl (listed' := #[true, true, true, true, true, true, true, true, true, true, false, false, false, false, false]) (by kernel_rfl) (by kernel_rfl) rfl (s := u) (k := .i64) (m := (IntKind.wrap .i64 (x6 + 1))) (b := v11) (by kernel_rfl) (by kernel_rfl) (by kernel_rfl) hv11 fun a hX => ?_
      refine hX.dq 10 rfl rfl (listed' := #[true, true, true, true, true, true, true, true, true, true, true, false, false, false, false]) (by kernel_rfl) (by kernel_rfl) (s := .v (.int .i64 (IntKind.wrap .i64 v11))) (by kernel_rfl) fun a hX => ?_
      refine hX.dq 11 rfl rfl (listed' := #[true, true, true, true, true, true, true, true, true, true, true, true, false, false, false]) (by kernel_rfl) (by kernel_rfl) (s := .v (.int .i64 (IntKind.wrap .i64 ((IntKind.wrap .i64 ((IntKind.wrap .i64 v10) * 256)) + (IntKind.wrap .i64 v11))))) (by kernel_rfl) fun a hX => ?_
      refine dseq (listed' := #[true, true, true, true, true, true, true, true, true, true, true, true, true, false, false]) 12 (by kernel_rfl) rfl (by kernel_rfl) ?_
      refine hX.part [] 1 [0, 3, 4, 9, 12, 13, 14, 15, 16, 17, 18, 19, 20, 21, 22, 23, 24] (l' := [(0, .v (.string ⟨⟨u⟩⟩)), (3, .v (.slice A8 x7.length c9)), (4, .v (.int .i64 x6)), (9, .v (.bool (decide ((IntKind.wrap .i64 (x6 + 1)) < ((u.length : Nat) : Int))))), (12, .v (.slice A8 x7.length c9)), (13, .v (.string ⟨⟨u⟩⟩)), (14, .v (.int .i64 x6)), (15, .v (.int .u8 v10)), (16, .v (.int .i64 (IntKind.wrap .i64 v10))), (17, .v (.int .i64 (IntKind.wrap .i64 ((IntKind.wrap .i64 v10) * 256)))), (18, .v (.string ⟨⟨u⟩⟩)), (19, .v (.int .i64 x6)), (20, .v (.int .i64 (IntKind.wrap .i64 (x6 + 1)))), (21, .v (.int .u8 v11)), (22, .v (.int .i64 (IntKind.wrap .i64 v11))), (23, .v (.int .i64 (IntKind.wrap .i64 ((IntKind.wrap .i64 ((IntKind.wrap .i64 v10) * 256)) + (IntKind.wrap .i64 v11))))), (24, .slc 0 0 1 1)]) (B' := [some ⟨3, [.v (.int .i64 (IntKind.wrap .i64 ((IntKind.wrap .i64 ((IntKind.wrap .i64 v10) * 256)) + (IntKind.wrap .i64 v11))))]⟩]) (by kernel_rfl) fun ρ w a hX => ?_
      refine dnext hX.st.sub0 ?_
      refine dseq (listed' := #[true, true, true, true, true, true, true, true, true, true, true, true, true, true, false]) 13 (by kernel_rfl) rfl (by kernel_rfl) ?_
      obtain ⟨u14, hu14, h1⟩ := bnd_some h1
      refine hX.appLit (d := (kInt .i64)) (k := 0) (m := 1) (bytes := 8) (cells := [.v (.int .i64 (IntKind.wrap .i64 ((IntKind.wrap .i64 ((IntKind.wrap .i64 v10) * 256)) + (IntKind.wrap .i64 v11))))]) (lit := []) (i := 0) (e := 3) (xs := x7) (A := A8) (c := c9) ([((IntKind.wrap .i64 ((IntKind.wrap .i64 ((IntKind.wrap .i64 v10) * 256)) + (IntKind.wrap .i64 v11))), ())] : List (Int × ((kInt .i64)).Y)) (by kernel_rfl) (by kernel_rfl) rfl rfl (by kernel_rfl) (by kernel_rfl) (by kernel_rfl) (by kernel_rfl) (by kernel_rfl) rfl rfl (by decide) hu14 ⟨_, rfl⟩ fun A12 c13 w a hX => ?_
      have hX : Cx 27 _ _ _ _ _ [accP 3 (kInt .i64) A12 c13 (x7 ++ [(IntKind.wrap .i64 ((IntKind.wrap .i64 ((IntKind.wrap .i64 v10) * 256)) + (IntKind.wrap .i64 v11)))])] [some ⟨3, [.v (.int .i64 (IntKind.wrap .i64 ((IntKind.wrap .i64 ((IntKind.wrap .i64 v10) * 256)) + (IntKind.wrap .i64 v11))))]⟩] ρ _ a := hX
      refine dnext hX.st.sub0 ?_
      refine hX.dq 14 rfl rfl (listed' := #[true, true, true, true, true, true, true, true, true, true, true, true, true, true, true]) (by kernel_rfl) (by kernel_rfl) (s := .v (.slice A12 (x7 ++ [(IntKind.wrap .i64 ((IntKind.wrap .i64 ((IntKind.wrap .i64 v10) * 256)) + (IntKind.wrap .i64 v11)))]).length c13)) (by kernel_rfl) fun a hX => ?_
      have hX := back hX
      refine ddone (by kernel_rfl) ?_
      refine hK10 _ _ ?_
      refine Cx.region hX [] [0, 3, 4] (l' := [(0, .v (.string ⟨⟨u⟩⟩)), (3, .v (.slice A12 (x7 ++ [(IntKind.wrap .i64 ((IntKind.wrap .i64 ((IntKind.wrap .i64 v10) * 256)) + (IntKind.wrap .i64 v11)))]).length c13)), (4, .v (.int .i64 (IntKind.wrap .i64 (x6 + 2))))]) (B' := [some ⟨3, [.v (.int .i64 (IntKind.wrap .i64 ((IntKind.wrap .i64 ((IntKind.wrap .i64 v10) * 256)) + (IntKind.wrap .i64 v11))))]⟩]) (by kernel_rfl) fun ρ w a hX => ?_
      have hX := hX.keeps [0, 3, 4] (l' := [(0, .v (.string ⟨⟨u⟩⟩)), (3, .v (.slice A12 (x7 ++ [(IntKind.wrap .i64 ((IntKind.wrap .i64 ((IntKind.wrap .i64 v10) * 256)) + (IntKind.wrap .i64 v11)))]).length c13)), (4, .v (.int .i64 (IntKind.wrap .i64 (x6 + 2))))]) (by kernel_rfl)
      have hX := hX.shrink 0 (B' := []) (by kernel_rfl) (Nat.le_of_ble_eq_true rfl) (by kernel_rfl) (by kernel_rfl) (Nat.zero_le _)
      exact hb1 ((IntKind.wrap .i64 (x6 + 2)), (x7 ++ [(IntKind.wrap .i64 ((IntKind.wrap .i64 ((IntKind.wrap .i64 v10) * 256)) + (IntKind.wrap .i64 v11)))])) (out_eq h1) _ _ ⟨A12, c13, _, _, hX⟩
    · have h1 := ite_ff h1 hb
      refine wp_exit ?_
      have hX := hX.keeps [3] (l' := [(3, .v (.slice A8 x7.length c9))]) (by kernel_rfl)
      exact E1x0 x7 (hx1 _ (out_eq h1)).symm A8 c9 _ _ _ _ hX
  · exact ⟨none, 0, _, _, hX⟩
def ref01_Index.l1 (v1 : (List Int)) (s : Int × Int) : Option ((Int × Int) ⊕ ((Int) ⊕ (Int × Bool))) := match s with
  | (x13, x14) =>
  if (decide (x14 < ((v1.length : Nat) : Int))) = true then
    Option.bind (getI v1 x14) fun v15 =>
    if ((decide (v15 < 48)) || (decide (v15 > 57))) = true then
      some (.inr (.inr (0, false)))
    else
      some (.inl ((IntKind.wrap .i64 ((IntKind.wrap .i64 (10 * x13)) + (IntKind.wrap .i64 (v15 - 48)))), (IntKind.wrap .i64 (x14 + 1))))
  else
    some (.inr (.inl x13))
def ref01_Index.j1 (v1 : (List Int)) (x8 : Bool) : Option (Int × Bool) :=
  if x8 = true then
    some (0, false)
  else
    Option.bind (loopM (ref01_Index.l1 v1) (0, 0)) fun e => match e with
    | (.inl x21) =>
      some (x21, true)
    | (.inr r22) =>
      some r22
def ref01_Index (u : Str) : Option (Int × Bool) :=
  Option.bind (ref01_List u) fun v1 =>
  if ((decide (((v1.length : Nat) : Int) < 1)) || (decide (((v1.length : Nat) : Int) > 9))) = true then
    ref01_Index.j1 v1 true
  else
    Option.bind (getI v1 0) fun v4 =>
    ref01_Index.j1 v1 ((v4 == 48) && (decide (((v1.length : Nat) : Int) > 1)))
theorem ref01_Index.ok (u : Str) (r : Int × Bool) (h0 : ref01_Index u = some r) (w0 : World) (F0 : Heap) (hv : F0.Sub w0) (hG : Glob F0) (hg : SV.goods F0 [.v (.string ⟨⟨u⟩⟩)]) (ρ : Nat → Nat) :
    Calls Tryd.prog 16 (SV.dens ρ [.v (.string ⟨⟨u⟩⟩)]).toArray w0 (Ret0 w0 F0 fun s => ∃ s1 s2, s = .tup [s1, s2] ∧ (s1 = .v (.int .i64 r.1)) ∧ (s2 = .v (.bool r.2))) := by
  refine calls_of_wp Tryd.func16 rfl ?_
  have hX := Cx.enter (D := No) (B := []) (L := []) (ρ := ρ) (N := 48) Tryd.ntmps16 [.v (.string ⟨⟨u⟩⟩)] (St.start hv) rfl hg (by kernel_rfl) (fun _ h => by cases h) (Nat.le_of_ble_eq_true rfl) No.unfix
  unfold ref01_Index at h0
  refine Cx.rseq hX [] [0] (l' := [(0, .v (.string ⟨⟨u⟩⟩))]) (B' := []) (by kernel_rfl) fun ρ w a hX => ?_
  refine wp_seq_k fun K2 hK2 => ?_
  refine wp_region_list ?_
  refine hX.part [] 1 [8] (l' := [(8, .v (.string ⟨⟨u⟩⟩))]) (B' := []) (by kernel_rfl) fun ρ w a hX => ?_
  obtain ⟨v1, hv1, h0⟩ := bnd_some h0
  refine Cx.call0 hX (lit := []) (by kernel_rfl) rfl (by kernel_rfl) ⟨⟨_, Tryd.func31, by kernel_rfl, rfl⟩⟩ (ss := [.v (.string ⟨⟨u⟩⟩)]) (by kernel_rfl) [.v (.string ⟨⟨u⟩⟩)] rfl (fun hg => hg) (fun hv hle hg => ref01_List.ok u v1 hv1 _ _ hv (hG.mono hle) hg _) (fun s F w a hp hX => ?_)
  obtain ⟨A2, c3, rfl⟩ := hp
  refine hX.part [] 1 [4] (l' := [(4, SV.sl (kInt .i64) v1 A2 c3)]) (B' := []) (by kernel_rfl) fun ρ w a hX => ?_
  refine wpList_end ?_
  refine hK2 _ _ ?_
  refine wp_seq_k fun K3 hK3 => ?_
  refine wp_seq_k fun K4 hK4 => ?_
  have J4 : ∀ (x8 : Bool), ref01_Index.j1 v1 x8 = some r → ∀ (ρ : Nat → Nat) (w : World) (F : Heap) (a : Act), Cx 48 w0 F0 No w F [] [] ρ [(4, SV.sl (kInt .i64) v1 A2 c3), (28, .v (.bool x8))] a → K4 a w := by
    intro x8 h0  ρ w F a hX
    unfold ref01_Index.j1 at h0
    refine hK4 _ _ ?_
    refine Cx.cond hX (b := x8) (by kernel_rfl) (fun hb => ?_) (fun hb => ?_)
    · have h0 := ite_tt h0 hb
      refine Cx.rseq hX [] [2, 3] (l' := [(2, .v (.int .i64 0)), (3, .v (.bool false))]) (B' := []) (by kernel_rfl) fun ρ w a hX => ?_
      refine wp_ret ?_
      have hr := Option.some.inj (show some _ = some _ from h0)
      subst hr
      exact hX.ret0 (ss := [.v (.int .i64 0), .v (.bool false)]) (by kernel_rfl) (by kernel_rfl) ⟨_, _, rfl, rfl, rfl⟩
    · have h0 := ite_ff h0 hb
      refine wp_skip ?_
      refine hK3 _ _ ?_
      refine Cx.rseq hX [] [4, 5] (l' := [(4, SV.sl (kInt .i64) v1 A2 c3), (5, .v (.int .i64 0))]) (B' := []) (by kernel_rfl) fun ρ w a hX => ?_
      refine wp_seq_k fun K7 hK7 => ?_
      refine Cx.rseq hX [] [5, 29, 30, 31] (l' := [(5, .v (.int .i64 0)), (29, SV.sl (kInt .i64) v1 A2 c3), (30, .v (.int .i64 ((v1.length : Nat) : Int))), (31, .v (.int .i64 0))]) (B' := []) (by kernel_rfl) fun ρ w a hX => ?_
      refine wp_block ?_
      have hX := hX.keeps [5, 29, 30, 31] (l' := [(5, .v (.int .i64 0)), (29, SV.sl (kInt .i64) v1 A2 c3), (30, .v (.int .i64 ((v1.length : Nat) : Int))), (31, .v (.int .i64 0))]) (by kernel_rfl)
      obtain ⟨e1, he1, h0⟩ := bnd_some h0
      have E1x0 : ∀ (x21 : Int), e1 = (.inl x21) → ∀ (ρ : Nat → Nat) (w : World) (F : Heap) (a : Act), Cx 48 w0 F0 No w F [] [] ρ [(5, .v (.int .i64 x21))] a → K7 a w := by
        intro x21 he  ρ w F a hX
        replace he := he.symm
        subst he
        (try dsimp only at h0)
        refine hK7 _ _ ?_
        refine Cx.rseq hX [] [2, 3] (l' := [(2, .v (.int .i64 x21)), (3, .v (.bool true))]) (B' := []) (by kernel_rfl) fun ρ w a hX => ?_
        refine wp_ret ?_
        have hr := Option.some.inj (show some _ = some _ from h0)
        subst hr
        exact hX.ret0 (ss := [.v (.int .i64 x21), .v (.bool true)]) (by kernel_rfl) (by kernel_rfl) ⟨_, _, rfl, rfl, rfl⟩
      refine loop_go (fun (s : Int × Int) a w => match s with | (x13, x14) => ∃ (ρ : Nat → Nat) (F : Heap), Cx 48 w0 F0 No w F [] [] ρ [(5, .v (.int .i64 x13)), (29, SV.sl (kInt .i64) v1 A2 c3), (30, .v (.int .i64 ((v1.length : Nat) : Int))), (31, .v (.int .i64 x14))] a) he1 (fun LW1 s o1 h1 hb1 hx1 a w hI => ?_) _ _ ?_
      · obtain ⟨x13, x14⟩ := s
        obtain ⟨ρ, F, hX⟩ := hI
        unfold ref01_Index.l1 at h1
        (try dsimp only at h1)
        refine Cx.rseq hX [] [5, 29, 30, 31, 32] (l' := [(5, .v (.int .i64 x13)), (29, SV.sl (kInt .i64) v1 A2 c3), (30, .v (.int .i64 ((v1.length : Nat) : Int))), (31, .v (.int .i64 x14)), (32, .v (.bool (decide (x14 < ((v1.length : Nat) : Int)))))]) (B' := []) (by kernel_rfl) fun ρ w a hX => ?_
        refine wp_seq_k fun K17 hK17 => ?_
        refine Cx.cond hX (b := (decide (x14 < ((v1.length : Nat) : Int)))) (by kernel_rfl) (fun hb => ?_) (fun hb => ?_)
        · have h1 := ite_tt h1 hb
          refine wp_skip ?_
          refine hK17 _ _ ?_
          refine wp_seq_k fun K18 hK18 => ?_
          refine wp_block ?_
          refine wp_seq_k fun K19 hK19 => ?_
          refine wp_region_list ?_
          refine hX.part [] 0 [5, 29, 30, 31] (l' := [(5, .v (.int .i64 x13)), (29, SV.sl (kInt .i64) v1 A2 c3), (30, .v (.int .i64 ((v1.length : Nat) : Int))), (31, .v (.int .i64 x14))]) (B' := []) (by kernel_rfl) fun ρ w a hX => ?_
          obtain ⟨v15, hv15, h1⟩ := bnd_some h1
          refine hX.idxSl (lit := []) (by kernel_rfl) (by kernel_rfl) rfl (d := (kInt .i64)) (e := 3) (xs := v1) (A := A2) (c := c3) (k := .i64) (n := x14) (v := v15) (by kernel_rfl) (by kernel_rfl) (by kernel_rfl) (by kernel_rfl) hv15 fun y16 b17 o18 a hX => ?_
          refine hX.part [] 2 [5, 7, 29, 30, 31] (l' := [(5, .v (.int .i64 x13)), (7, .v (.int .i64 v15)), (29, SV.sl (kInt .i64) v1 A2 c3), (30, .v (.int .i64 ((v1.length : Nat) : Int))), (31, .v (.int .i64 x14))]) (B' := []) (by kernel_rfl) fun ρ w a hX => ?_
          refine wpList_end ?_
          refine hK19 _ _ ?_
          refine wp_seq_k fun K20 hK20 => ?_
          refine Cx.rseq hX [] [5, 7, 29, 30, 31, 40] (l' := [(5, .v (.int .i64 x13)), (7, .v (.int .i64 v15)), (29, SV.sl (kInt .i64) v1 A2 c3), (30, .v (.int .i64 ((v1.length : Nat) : Int))), (31, .v (.int .i64 x14)), (40, .v (.bool ((decide (v15 < 48)) || (decide (v15 > 57)))))]) (B' := []) (by kernel_rfl) fun ρ w a hX => ?_
          refine Cx.cond hX (b := ((decide (v15 < 48)) || (decide (v15 > 57)))) (by kernel_rfl) (fun hb => ?_) (fun hb => ?_)
          · have h1 := ite_tt h1 hb
            refine Cx.rseq hX [] [2, 3] (l' := [(2, .v (.int .i64 0)), (3, .v (.bool false))]) (B' := []) (by kernel_rfl) fun ρ w a hX => ?_
            refine wp_ret ?_
            have he := hx1 _ (out_eq h1)
            subst he
            (try dsimp only at h0)
            have hr := Option.some.inj (show some _ = some _ from h0)
            subst hr
            exact hX.ret0 (ss := [.v (.int .i64 0), .v (.bool false)]) (by kernel_rfl) (by kernel_rfl) ⟨_, _, rfl, rfl, rfl⟩
          · have h1 := ite_ff h1 hb
            refine wp_skip ?_
            refine hK20 _ _ ?_
            refine Cx.region hX [] [5, 29, 30, 31] (l' := [(5, .v (.int .i64 (IntKind.wrap .i64 ((IntKind.wrap .i64 (10 * x13)) + (IntKind.wrap .i64 (v15 - 48)))))), (29, SV.sl (kInt .i64) v1 A2 c3), (30, .v (.int .i64 ((v1.length : Nat) : Int))), (31, .v (.int .i64 x14))]) (B' := []) (by kernel_rfl) fun ρ w a hX => ?_
            refine hK18 _ _ ?_
            refine Cx.region hX [] [5, 29, 30, 31] (l' := [(5, .v (.int .i64 (IntKind.wrap .i64 ((IntKind.wrap .i64 (10 * x13)) + (IntKind.wrap .i64 (v15 - 48)))))), (29, SV.sl (kInt .i64) v1 A2 c3), (30, .v (.int .i64 ((v1.length : Nat) : Int))), (31, .v (.int .i64 (IntKind.wrap .i64 (x14 + 1))))]) (B' := []) (by kernel_rfl) fun ρ w a hX => ?_
            have hX := hX.keeps [5, 29, 30, 31] (l' := [(5, .v (.int .i64 (IntKind.wrap .i64 ((IntKind.wrap .i64 (10 * x13)) + (IntKind.wrap .i64 (v15 - 48)))))), (29, SV.sl (kInt .i64) v1 A2 c3), (30, .v (.int .i64 ((v1.length : Nat) : Int))), (31, .v (.int .i64 (IntKind.wrap .i64 (x14 + 1))))]) (by kernel_rfl)
            exact hb1 ((IntKind.wrap .i64 ((IntKind.wrap .i64 (10 * x13)) + (IntKind.wrap .i64 (v15 - 48)))), (IntKind.wrap .i64 (x14 + 1))) (out_eq h1) _ _ ⟨_, _, hX⟩
        · have h1 := ite_ff h1 hb
          refine wp_exit ?_
          have hX := hX.keeps [5] (l' := [(5, .v (.int .i64 x13))]) (by kernel_rfl)
          exact E1x0 x13 (hx1 _ (out_eq h1)).symm  _ _ _ _ hX
      · exact ⟨_, _, hX⟩
  refine wp_region_list ?_
  refine hX.part [] 9 [4, 18] (l' := [(4, SV.sl (kInt .i64) v1 A2 c3), (18, .v (.bool ((decide (((v1.length : Nat) : Int) < 1)) || (decide (((v1.length : Nat) : Int) > 9)))))]) (B' := []) (by kernel_rfl) fun ρ w a hX => ?_
  refine ite_go h0 (fun hb h0 => ?_) (fun hb h0 => ?_)
  · have hX := hX.relit 18 hb (by kernel_rfl)
    refine hX.part [8, 13] 10 [4, 28] (l' := [(4, SV.sl (kInt .i64) v1 A2 c3), (28, .v (.bool true))]) (B' := []) (by kernel_rfl) fun ρ w a hX => ?_
    refine wpList_end ?_
    have hX := hX.keeps [4, 28] (l' := [(4, SV.sl (kInt .i64) v1 A2 c3), (28, .v (.bool true))]) (by kernel_rfl)
    exact J4 true h0  _ _ _ _ hX
  · have hX := hX.relit 18 hb (by kernel_rfl)
    refine hX.part [8] 1 [4, 18, 19] (l' := [(4, SV.sl (kInt .i64) v1 A2 c3), (18, .v (.bool false)), (19, SV.sl (kInt .i64) v1 A2 c3)]) (B' := []) (by kernel_rfl) fun ρ w a hX => ?_
    obtain ⟨v4, hv4, h0⟩ := bnd_some h0
    refine hX.idxSl (lit := [8]) (by kernel_rfl) (by kernel_rfl) rfl (d := (kInt .i64)) (e := 3) (xs := v1) (A := A2) (c := c3) (k := .i64) (n := 0) (v := v4) (by kernel_rfl) (by kernel_rfl) (by kernel_rfl) (by kernel_rfl) hv4 fun y5 b6 o7 a hX => ?_
    refine hX.part [8] 8 [4, 28] (l' := [(4, SV.sl (kInt .i64) v1 A2 c3), (28, .v (.bool ((v4 == 48) && (decide (((v1.length : Nat) : Int) > 1)))))]) (B' := []) (by kernel_rfl) fun ρ w a hX => ?_
    refine wpList_end ?_
    have hX := hX.keeps [4, 28] (l' := [(4, SV.sl (kInt .i64) v1 A2 c3), (28, .v (.bool ((v4 == 48) && (decide (((v1.length : Nat) : Int) > 1)))))]) (by kernel_rfl)
    exact J4 ((v4 == 48) && (decide (((v1.length : Nat) : Int) > 1))) h0  _ _ _ _ hX
def law01_UnitsIndex (u : Str) : Option (Bool) :=
  Option.bind (units_Index u) fun v1 =>
  Option.bind (ref01_Index u) fun v2 =>
  Option.bind (law01_live) fun v3 =>
  some ((v3 && (v1.1 == v2.1)) && (v1.2 == v2.2))
theorem law01_UnitsIndex.ok (u : Str) (r : Bool) (h0 : law01_UnitsIndex u = some r) (w0 : World) (F0 : Heap) (hv : F0.Sub w0) (hG : Glob F0) (hg : SV.goods F0 [.v (.string ⟨⟨u⟩⟩)]) (ρ : Nat → Nat) :
    Calls Tryd.prog 4 (SV.dens ρ [.v (.string ⟨⟨u⟩⟩)]).toArray w0 (Ret0 w0 F0 fun s => s = .v (.bool r)) := by
  refine calls_of_wp Tryd.func4 rfl ?_
  have hX := Cx.enter (D := No) (B := []) (L := []) (ρ := ρ) (N := 28) Tryd.ntmps4 [.v (.string ⟨⟨u⟩⟩)] (St.start hv) rfl hg (by kernel_rfl) (fun _ h => by cases h) (Nat.le_of_ble_eq_true rfl) No.unfix
  unfold law01_UnitsIndex at h0
  refine Cx.rseq hX [] [0] (l' := [(0, .v (.string ⟨⟨u⟩⟩))]) (B' := []) (by kernel_rfl) fun ρ w a hX => ?_
  refine wp_seq_k fun K2 hK2 => ?_
  refine wp_region_list ?_
  refine hX.part [] 1 [0, 8] (l' := [(0, .v (.string ⟨⟨u⟩⟩)), (8, .v (.string ⟨⟨u⟩⟩))]) (B' := []) (by kernel_rfl) fun ρ w a hX => ?_
  obtain ⟨v1, hv1, h0⟩ := bnd_some h0
  refine Cx.call0 hX (lit := []) (by kernel_rfl) rfl (by kernel_rfl) ⟨⟨_, Tryd.func15, by kernel_rfl, rfl⟩⟩ (ss := [.v (.string ⟨⟨u⟩⟩)]) (by kernel_rfl) [.v (.string ⟨⟨u⟩⟩)] rfl (fun hg => hg) (fun hv hle hg => units_Index.ok u v1 hv1 _ _ hv (hG.mono hle) hg _) (fun s F w a hp hX => ?_)
  obtain ⟨_, _, rfl, rfl, rfl⟩ := hp
  refine hX.part [] 5 [0, 3, 4] (l' := [(0, .v (.string ⟨⟨u⟩⟩)), (3, .v (.int .i64 v1.1)), (4, .v (.bool v1.2))]) (B' := []) (by kernel_rfl) fun ρ w a hX => ?_
  refine wpList_end ?_
  refine hK2 _ _ ?_
  refine wp_seq_k fun K3 hK3 => ?_
  refine wp_region_list ?_
  refine hX.part [] 1 [3, 4, 13] (l' := [(3, .v (.int .i64 v1.1)), (4, .v (.bool v1.2)), (13, .v (.string ⟨⟨u⟩⟩))]) (B' := []) (by kernel_rfl) fun ρ w a hX => ?_
  obtain ⟨v2, hv2, h0⟩ := bnd_some h0
  refine Cx.call0 hX (lit := []) (by kernel_rfl) rfl (by kernel_rfl) ⟨⟨_, Tryd.func16, by kernel_rfl, rfl⟩⟩ (ss := [.v (.string ⟨⟨u⟩⟩)]) (by kernel_rfl) [.v (.string ⟨⟨u⟩⟩)] rfl (fun hg => hg) (fun hv hle hg => ref01_Index.ok u v2 hv2 _ _ hv (hG.mono hle) hg _) (fun s F w a hp hX => ?_)
  obtain ⟨_, _, rfl, rfl, rfl⟩ := hp
  refine hX.part [] 5 [3, 4, 5, 6] (l' := [(3, .v (.int .i64 v1.1)), (4, .v (.bool v1.2)), (5, .v (.int .i64 v2.1)), (6, .v (.bool v2.2))]) (B' := []) (by kernel_rfl) fun ρ w a hX => ?_
  refine wpList_end ?_
  refine hK3 _ _ ?_
  refine wp_seq_k fun K4 hK4 => ?_
  refine wp_region_list ?_
  refine hX.part [] 0 [3, 4, 5, 6] (l' := [(3, .v (.int .i64 v1.1)), (4, .v (.bool v1.2)), (5, .v (.int .i64 v2.1)), (6, .v (.bool v2.2))]) (B' := []) (by kernel_rfl) fun ρ w a hX => ?_
  obtain ⟨v3, hv3, h0⟩ := bnd_some h0
  refine Cx.call0 hX (lit := []) (by kernel_rfl) rfl (by kernel_rfl) ⟨⟨_, Tryd.func14, by kernel_rfl, rfl⟩⟩ (ss := []) (by kernel_rfl) [] rfl (fun hg => hg) (fun hv hle hg => law01_live.ok v3 hv3 _ _ hv (hG.mono hle) hg _) (fun s F w a hp hX => ?_)
  subst hp
  refine hX.part [] 11 [2] (l' := [(2, .v (.bool ((v3 && (v1.1 == v2.1)) && (v1.2 == v2.2))))]) (B' := []) (by kernel_rfl) fun ρ w a hX => ?_
  refine wpList_end ?_
  refine hK4 _ _ ?_
  refine wp_ret ?_
  have hr := Option.some.inj (show some _ = some _ from h0)
  subst hr
  exact hX.ret0 (ss := [.v (.bool ((v3 && (v1.1 == v2.1)) && (v1.2 == v2.2)))]) (by kernel_rfl) (by kernel_rfl) rfl
def ref01_Check (u : Str) : Option (Bool) :=
  some ((Int.tmod ((u.length : Nat) : Int) 2) == 0)
theorem ref01_Check.ok (u : Str) (r : Bool) (h0 : ref01_Check u = some r) (w0 : World) (F0 : Heap) (hv : F0.Sub w0) (hG : Glob F0) (hg : SV.goods F0 [.v (.string ⟨⟨u⟩⟩)]) (ρ : Nat → Nat) :
    Calls Tryd.prog 24 (SV.dens ρ [.v (.string ⟨⟨u⟩⟩)]).toArray w0 (Ret0 w0 F0 fun s => s = .v (.bool r)) := by
  refine calls_of_wp Tryd.func24 rfl ?_
  have hX := Cx.enter (D := No) (B := []) (L := []) (ρ := ρ) (N := 7) Tryd.ntmps24 [.v (.string ⟨⟨u⟩⟩)] (St.start hv) rfl hg (by kernel_rfl) (fun _ h => by cases h) (Nat.le_of_ble_eq_true rfl) No.unfix
  unfold ref01_Check at h0
  refine Cx.rseq hX [] [0] (l' := [(0, .v (.string ⟨⟨u⟩⟩))]) (B' := []) (by kernel_rfl) fun ρ w a hX => ?_
  refine Cx.rseq hX [] [2] (l' := [(2, .v (.bool ((Int.tmod ((u.length : Nat) : Int) 2) == 0)))]) (B' := []) (by kernel_rfl) fun ρ w a hX => ?_
  refine wp_ret ?_
  have hr := Option.some.inj (show some _ = some _ from h0)
  subst hr
  exact hX.ret0 (ss := [.v (.bool ((Int.tmod ((u.length : Nat) : Int) 2) == 0))]) (by kernel_rfl) (by kernel_rfl) rfl
def ref01_hex (n : Int) : Option (Int) :=
  if (decide (n < 10)) = true then
    some (IntKind.wrap .u8 (IntKind.wrap .i64 (48 + n)))
  else
    some (IntKind.wrap .u8 (IntKind.wrap .i64 ((IntKind.wrap .i64 (97 + n)) - 10)))
theorem ref01_hex.ok (n : Int) (r : Int) (h0 : ref01_hex n = some r) (w0 : World) (F0 : Heap) (hv : F0.Sub w0) (hG : Glob F0) (hg : SV.goods F0 [.v (.int .i64 n)]) (ρ : Nat → Nat) :
    Calls Tryd.prog 43 (SV.dens ρ [.v (.int .i64 n)]).toArray w0 (Ret0 w0 F0 fun s => s = .v (.int .u8 r)) := by
  refine calls_of_wp Tryd.func43 rfl ?_
  have hX := Cx.enter (D := No) (B := []) (L := []) (ρ := ρ) (N := 12) Tryd.ntmps43 [.v (.int .i64 n)] (St.start hv) rfl hg (by kernel_rfl) (fun _ h => by cases h) (Nat.le_of_ble_eq_true rfl) No.unfix
  unfold ref01_hex at h0
  refine Cx.rseq hX [] [0] (l' := [(0, .v (.int .i64 n))]) (B' := []) (by kernel_rfl) fun ρ w a hX => ?_
  refine wp_seq_k fun K2 hK2 => ?_
  refine Cx.rseq hX [] [0, 4] (l' := [(0, .v (.int .i64 n)), (4, .v (.bool (decide (n < 10))))]) (B' := []) (by kernel_rfl) fun ρ w a hX => ?_
  refine Cx.cond hX (b := (decide (n < 10))) (by kernel_rfl) (fun hb => ?_) (fun hb => ?_)
  · have h0 := ite_tt h0 hb
    refine Cx.rseq hX [] [2] (l' := [(2, .v (.int .u8 (IntKind.wrap .u8 (IntKind.wrap .i64 (48 + n)))))]) (B' := []) (by kernel_rfl) fun ρ w a hX => ?_
    refine wp_ret ?_
    have hr := Option.some.inj (show some _ = some _ from h0)
    subst hr
    exact hX.ret0 (ss := [.v (.int .u8 (IntKind.wrap .u8 (IntKind.wrap .i64 (48 + n))))]) (by kernel_rfl) (by kernel_rfl) rfl
  · have h0 := ite_ff h0 hb
    refine wp_skip ?_
    refine hK2 _ _ ?_
    refine Cx.rseq hX [] [2] (l' := [(2, .v (.int .u8 (IntKind.wrap .u8 (IntKind.wrap .i64 ((IntKind.wrap .i64 (97 + n)) - 10)))))]) (B' := []) (by kernel_rfl) fun ρ w a hX => ?_
    refine wp_ret ?_
    have hr := Option.some.inj (show some _ = some _ from h0)
    subst hr
    exact hX.ret0 (ss := [.v (.int .u8 (IntKind.wrap .u8 (IntKind.wrap .i64 ((IntKind.wrap .i64 (97 + n)) - 10))))]) (by kernel_rfl) (by kernel_rfl) rfl
def ref01_quoted (n : Int) : Option (Str) :=
  if (n == 34) = true then
    some ([92, 34] : Str)
  else
    if (n == 92) = true then
      some ([92, 92] : Str)
    else
      if (n == 8) = true then
        some ([92, 98] : Str)
      else
        if (n == 9) = true then
          some ([92, 116] : Str)
        else
          if (n == 10) = true then
            some ([92, 110] : Str)
          else
            if (n == 12) = true then
              some ([92, 102] : Str)
            else
              if (n == 13) = true then
                some ([92, 114] : Str)
              else
                if ((decide (n < 32)) || (decide (n > 126))) = true then
                  Option.bind (ref01_hex (IntKind.wrap .i64 (Int.tdiv n 4096))) fun v1 =>
                  Option.bind (ref01_hex (Int.tmod (IntKind.wrap .i64 (Int.tdiv n 256)) 16)) fun v2 =>
                  Option.bind (ref01_hex (Int.tmod (IntKind.wrap .i64 (Int.tdiv n 16)) 16)) fun v3 =>
                  Option.bind (ref01_hex (Int.tmod n 16)) fun v4 =>
                  Option.bind (toB v1) fun b5 =>
                  Option.bind (toB v2) fun b6 =>
                  Option.bind (toB v3) fun b7 =>
                  Option.bind (toB v4) fun b8 =>
                  some ([(92 : UInt8), (117 : UInt8), b5, b6, b7, b8] : List UInt8)
                else
                  Option.bind (toB (IntKind.wrap .u8 n)) fun b10 =>
                  some ([b10] : List UInt8)
theorem ref01_quoted.ok (n : Int) (r : Str) (h0 : ref01_quoted n = some r) (w0 : World) (F0 : Heap) (hv : F0.Sub w0) (hG : Glob F0) (hg : SV.goods F0 [.v (.int .i64 n)]) (ρ : Nat → Nat) :
    Calls Tryd.prog 34 (SV.dens ρ [.v (.int .i64 n)]).toArray w0 (Ret0 w0 F0 fun s => s = .v (.string ⟨⟨r⟩⟩)) := by
  refine calls_of_wp Tryd.func34 rfl ?_
  have hX := Cx.enter (D := No) (B := []) (L := []) (ρ := ρ) (N := 44) Tryd.ntmps34 [.v (.int .i64 n)] (St.start hv) rfl hg (by kernel_rfl) (fun _ h => by cases h) (Nat.le_of_ble_eq_true rfl) No.unfix
  unfold ref01_quoted at h0
  refine Cx.rseq hX [] [0] (l' := [(0, .v (.int .i64 n))]) (B' := []) (by kernel_rfl) fun ρ w a hX => ?_
  refine wp_seq_k fun K2 hK2 => ?_
  refine Cx.rseq hX [] [0, 3] (l' := [(0, .v (.int .i64 n)), (3, .v (.int .i64 n))]) (B' := []) (by kernel_rfl) fun ρ w a hX => ?_
  refine wp_block ?_
  refine Cx.rseq hX [] [0, 3, 4] (l' := [(0, .v (.int .i64 n)), (3, .v (.int .i64 n)), (4, .v (.bool (n == 34)))]) (B' := []) (by kernel_rfl) fun ρ w a hX => ?_
  refine Cx.cond hX (b := (n == 34)) (by kernel_rfl) (fun hb => ?_) (fun hb => ?_)
  · have h0 := ite_tt h0 hb
    refine Cx.rseq hX [] [2] (l' := [(2, .v (.string ⟨⟨([92, 34] : Str)⟩⟩))]) (B' := []) (by kernel_rfl) fun ρ w a hX => ?_
    refine wp_ret ?_
    have hr := Option.some.inj (show some _ = some _ from h0)
    subst hr
    exact hX.ret0 (ss := [.v (.string ⟨⟨([92, 34] : Str)⟩⟩)]) (by kernel_rfl) (by kernel_rfl) rfl
  · have h0 := ite_ff h0 hb
    refine Cx.rseq hX [] [0, 3, 6] (l' := [(0, .v (.int .i64 n)), (3, .v (.int .i64 n)), (6, .v (.bool (n == 92)))]) (B' := []) (by kernel_rfl) fun ρ w a hX => ?_
    refine Cx.cond hX (b := (n == 92)) (by kernel_rfl) (fun hb => ?_) (fun hb => ?_)
    · have h0 := ite_tt h0 hb
      refine Cx.rseq hX [] [2] (l' := [(2, .v (.string ⟨⟨([92, 92] : Str)⟩⟩))]) (B' := []) (by kernel_rfl) fun ρ w a hX => ?_
      refine wp_ret ?_
      have hr := Option.some.inj (show some _ = some _ from h0)
      subst hr
      exact hX.ret0 (ss := [.v (.string ⟨⟨([92, 92] : Str)⟩⟩)]) (by kernel_rfl) (by kernel_rfl) rfl
    · have h0 := ite_ff h0 hb
      refine Cx.rseq hX [] [0, 3, 8] (l' := [(0, .v (.int .i64 n)), (3, .v (.int .i64 n)), (8, .v (.bool (n == 8)))]) (B' := []) (by kernel_rfl) fun ρ w a hX => ?_
      refine Cx.cond hX (b := (n == 8)) (by kernel_rfl) (fun hb => ?_) (fun hb => ?_)
      · have h0 := ite_tt h0 hb
        refine Cx.rseq hX [] [2] (l' := [(2, .v (.string ⟨⟨([92, 98] : Str)⟩⟩))]) (B' := []) (by kernel_rfl) fun ρ w a hX => ?_
        refine wp_ret ?_
        have hr := Option.some.inj (show some _ = some _ from h0)
        subst hr
        exact hX.ret0 (ss := [.v (.string ⟨⟨([92, 98] : Str)⟩⟩)]) (by kernel_rfl) (by kernel_rfl) rfl
      · have h0 := ite_ff h0 hb
        refine Cx.rseq hX [] [0, 3, 10] (l' := [(0, .v (.int .i64 n)), (3, .v (.int .i64 n)), (10, .v (.bool (n == 9)))]) (B' := []) (by kernel_rfl) fun ρ w a hX => ?_
        refine Cx.cond hX (b := (n == 9)) (by kernel_rfl) (fun hb => ?_) (fun hb => ?_)
        · have h0 := ite_tt h0 hb
          refine Cx.rseq hX [] [2] (l' := [(2, .v (.string ⟨⟨([92, 116] : Str)⟩⟩))]) (B' := []) (by kernel_rfl) fun ρ w a hX => ?_
          refine wp_ret ?_
          have hr := Option.some.inj (show some _ = some _ from h0)
          subst hr
          exact hX.ret0 (ss := [.v (.string ⟨⟨([92, 116] : Str)⟩⟩)]) (by kernel_rfl) (by kernel_rfl) rfl
        · have h0 := ite_ff h0 hb
          refine Cx.rseq hX [] [0, 3, 12] (l' := [(0, .v (.int .i64 n)), (3, .v (.int .i64 n)), (12, .v (.bool (n == 10)))]) (B' := []) (by kernel_rfl) fun ρ w a hX => ?_
          refine Cx.cond hX (b := (n == 10)) (by kernel_rfl) (fun hb => ?_) (fun hb => ?_)
          · have h0 := ite_tt h0 hb
            refine Cx.rseq hX [] [2] (l' := [(2, .v (.string ⟨⟨([92, 110] : Str)⟩⟩))]) (B' := []) (by kernel_rfl) fun ρ w a hX => ?_
            refine wp_ret ?_
            have hr := Option.some.inj (show some _ = some _ from h0)
            subst hr
            exact hX.ret0 (ss := [.v (.string ⟨⟨([92, 110] : Str)⟩⟩)]) (by kernel_rfl) (by kernel_rfl) rfl
          · have h0 := ite_ff h0 hb
            refine Cx.rseq hX [] [0, 3, 14] (l' := [(0, .v (.int .i64 n)), (3, .v (.int .i64 n)), (14, .v (.bool (n == 12)))]) (B' := []) (by kernel_rfl) fun ρ w a hX => ?_
            refine Cx.cond hX (b := (n == 12)) (by kernel_rfl) (fun hb => ?_) (fun hb => ?_)
            · have h0 := ite_tt h0 hb
              refine Cx.rseq hX [] [2] (l' := [(2, .v (.string ⟨⟨([92, 102] : Str)⟩⟩))]) (B' := []) (by kernel_rfl) fun ρ w a hX => ?_
              refine wp_ret ?_
              have hr := Option.some.inj (show some _ = some _ from h0)
              subst hr
              exact hX.ret0 (ss := [.v (.string ⟨⟨([92, 102] : Str)⟩⟩)]) (by kernel_rfl) (by kernel_rfl) rfl
            · have h0 := ite_ff h0 hb
              refine Cx.rseq hX [] [0, 16] (l' := [(0, .v (.int .i64 n)), (16, .v (.bool (n == 13)))]) (B' := []) (by kernel_rfl) fun ρ w a hX => ?_
              refine Cx.cond hX (b := (n == 13)) (by kernel_rfl) (fun hb => ?_) (fun hb => ?_)
              · have h0 := ite_tt h0 hb
                refine Cx.rseq hX [] [2] (l' := [(2, .v (.string ⟨⟨([92, 114] : Str)⟩⟩))]) (B' := []) (by kernel_rfl) fun ρ w a hX => ?_
                refine wp_ret ?_
                have hr := Option.some.inj (show some _ = some _ from h0)
                subst hr
                exact hX.ret0 (ss := [.v (.string ⟨⟨([92, 114] : Str)⟩⟩)]) (by kernel_rfl) (by kernel_rfl) rfl
              · have h0 := ite_ff h0 hb
                refine wp_skip ?_
                refine hK2 _ _ ?_
                refine wp_seq_k fun K18 hK18 => ?_
                refine Cx.rseq hX [] [0, 23] (l' := [(0, .v (.int .i64 n)), (23, .v (.bool ((decide (n < 32)) || (decide (n > 126)))))]) (B' := []) (by kernel_rfl) fun ρ w a hX => ?_
                refine Cx.cond hX (b := ((decide (n < 32)) || (decide (n > 126)))) (by kernel_rfl) (fun hb => ?_) (fun hb => ?_)
                · have h0 := ite_tt h0 hb
                  refine wp_seq_k fun K20 hK20 => ?_
                  refine wp_region_list ?_
                  refine hX.part [] 2 [0, 25] (l' := [(0, .v (.int .i64 n)), (25, .v (.int .i64 (IntKind.wrap .i64 (Int.tdiv n 4096))))]) (B' := []) (by kernel_rfl) fun ρ w a hX => ?_
                  obtain ⟨v1, hv1, h0⟩ := bnd_some h0
                  refine Cx.call0 hX (lit := []) (by kernel_rfl) rfl (by kernel_rfl) ⟨⟨_, Tryd.func43, by kernel_rfl, rfl⟩⟩ (ss := [.v (.int .i64 (IntKind.wrap .i64 (Int.tdiv n 4096)))]) (by kernel_rfl) [.v (.int .i64 (IntKind.wrap .i64 (Int.tdiv n 4096)))] rfl (fun hg => hg) (fun hv hle hg => ref01_hex.ok (IntKind.wrap .i64 (Int.tdiv n 4096)) v1 hv1 _ _ hv (hG.mono hle) hg _) (fun s F w a hp hX => ?_)
                  subst hp
                  refine hX.part [] 3 [0, 26, 29] (l' := [(0, .v (.int .i64 n)), (26, .v (.int .u8 v1)), (29, .v (.int .i64 (Int.tmod (IntKind.wrap .i64 (Int.tdiv n 256)) 16)))]) (B' := []) (by kernel_rfl) fun ρ w a hX => ?_
                  obtain ⟨v2, hv2, h0⟩ := bnd_some h0
                  refine Cx.call0 hX (lit := []) (by kernel_rfl) rfl (by kernel_rfl) ⟨⟨_, Tryd.func43, by kernel_rfl, rfl⟩⟩ (ss := [.v (.int .i64 (Int.tmod (IntKind.wrap .i64 (Int.tdiv n 256)) 16))]) (by kernel_rfl) [.v (.int .i64 (Int.tmod (IntKind.wrap .i64 (Int.tdiv n 256)) 16))] rfl (fun hg => hg) (fun hv hle hg => ref01_hex.ok (Int.tmod (IntKind.wrap .i64 (Int.tdiv n 256)) 16) v2 hv2 _ _ hv (hG.mono hle) hg _) (fun s F w a hp hX => ?_)
                  subst hp
                  refine hX.part [] 3 [0, 26, 30, 33] (l' := [(0, .v (.int .i64 n)), (26, .v (.int .u8 v1)), (30, .v (.int .u8 v2)), (33, .v (.int .i64 (Int.tmod (IntKind.wrap .i64 (Int.tdiv n 16)) 16)))]) (B' := []) (by kernel_rfl) fun ρ w a hX => ?_
                  obtain ⟨v3, hv3, h0⟩ := bnd_some h0
                  refine Cx.call0 hX (lit := []) (by kernel_rfl) rfl (by kernel_rfl) ⟨⟨_, Tryd.func43, by kernel_rfl, rfl⟩⟩ (ss := [.v (.int .i64 (Int.tmod (IntKind.wrap .i64 (Int.tdiv n 16)) 16))]) (by kernel_rfl) [.v (.int .i64 (Int.tmod (IntKind.wrap .i64 (Int.tdiv n 16)) 16))] rfl (fun hg => hg) (fun hv hle hg => ref01_hex.ok (Int.tmod (IntKind.wrap .i64 (Int.tdiv n 16)) 16) v3 hv3 _ _ hv (hG.mono hle) hg _) (fun s F w a hp hX => ?_)
                  subst hp
                  refine hX.part [] 2 [26, 30, 34, 36] (l' := [(26, .v (.int .u8 v1)), (30, .v (.int .u8 v2)), (34, .v (.int .u8 v3)), (36, .v (.int .i64 (Int.tmod n 16)))]) (B' := []) (by kernel_rfl) fun ρ w a hX => ?_
                  obtain ⟨v4, hv4, h0⟩ := bnd_some h0
                  refine Cx.call0 hX (lit := []) (by kernel_rfl) rfl (by kernel_rfl) ⟨⟨_, Tryd.func43, by kernel_rfl, rfl⟩⟩ (ss := [.v (.int .i64 (Int.tmod n 16))]) (by kernel_rfl) [.v (.int .i64 (Int.tmod n 16))] rfl (fun hg => hg) (fun hv hle hg => ref01_hex.ok (Int.tmod n 16) v4 hv4 _ _ hv (hG.mono hle) hg _) (fun s F w a hp hX => ?_)
                  subst hp
                  refine hX.part [] 1 [38] (l' := [(38, .slc 0 0 6 6)]) (B' := [some ⟨5, [.v (.int .u8 92), .v (.int .u8 117), .v (.int .u8 v1), .v (.int .u8 v2), .v (.int .u8 v3), .v (.int .u8 v4)]⟩]) (by kernel_rfl) fun ρ w a hX => ?_
                  obtain ⟨b5, hb5, h0⟩ := bnd_some h0
                  obtain ⟨b6, hb6, h0⟩ := bnd_some h0
                  obtain ⟨b7, hb7, h0⟩ := bnd_some h0
                  obtain ⟨b8, hb8, h0⟩ := bnd_some h0
                  have hX := hX.rebox 0 (b := ⟨5, [.v (.int .u8 92), .v (.int .u8 117), .v (.int .u8 v1), .v (.int .u8 v2), .v (.int .u8 v3), .v (.int .u8 v4)]⟩) (cs := [.v (.int .u8 92), .v (.int .u8 117), .v (.int .u8 ((b5.toNat : Nat) : Int)), .v (.int .u8 ((b6.toNat : Nat) : Int)), .v (.int .u8 ((b7.toNat : Nat) : Int)), .v (.int .u8 ((b8.toNat : Nat) : Int))]) (B' := [some ⟨5, [.v (.int .u8 92), .v (.int .u8 117), .v (.int .u8 ((b5.toNat : Nat) : Int)), .v (.int .u8 ((b6.toNat : Nat) : Int)), .v (.int .u8 ((b7.toNat : Nat) : Int)), .v (.int .u8 ((b8.toNat : Nat) : Int))]⟩]) (by kernel_rfl) (fun ρ => by simp only [SV.dens, SV.den, toB_some hb5, toB_some hb6, toB_some hb7, toB_some hb8]) (by have hg := (hX.bgood ⟨5, [.v (.int .u8 92), .v (.int .u8 117), .v (.int .u8 v1), .v (.int .u8 v2), .v (.int .u8 v3), .v (.int .u8 v4)]⟩ (List.mem_of_getElem? (i := 0) (by kernel_rfl))).1; exact ⟨trivial, trivial, trivial, trivial, trivial, trivial, trivial⟩) (by kernel_rfl) (by kernel_rfl)
                  obtain ⟨b9, hb, hX⟩ := hX.boxAcc2 (d := kByte) (e := 5) (k := 0) (t := 38) (m := 6) ([((92 : UInt8), ()), ((117 : UInt8), ()), (b5, ()), (b6, ()), (b7, ()), (b8, ())] : List (UInt8 × (kByte).Y)) (by kernel_rfl) (by kernel_rfl) rfl rfl (by decide) ⟨_, rfl⟩
                  have hX : Cx 44 _ _ _ _ _ [accP 5 kByte (some ⟨b9, 0, none⟩) 6 ([(92 : UInt8), (117 : UInt8), b5, b6, b7, b8] : List UInt8)] [none] ρ _ a := hX
                  obtain ⟨F, hX⟩ := hX.freeze (i := 0) (t := 38) (e := 5) (d := kByte) (A := (some ⟨b9, 0, none⟩)) (c := 6) (xs := ([(92 : UInt8), (117 : UInt8), b5, b6, b7, b8] : List UInt8)) rfl (by kernel_rfl)
                  have hX : Cx 44 _ _ _ _ _ [] [none] ρ _ a := hX
                  refine hX.strSl (lit := []) (by kernel_rfl) (by kernel_rfl) rfl (e := 5) (xs := ([(92 : UInt8), (117 : UInt8), b5, b6, b7, b8] : List UInt8)) (A := (some ⟨b9, 0, none⟩)) (c := 6) (by kernel_rfl) (by kernel_rfl) (by kernel_rfl) (by kernel_rfl) fun a hX => ?_
                  refine hX.part [] 1 [2] (l' := [(2, .v (.string ⟨⟨([(92 : UInt8), (117 : UInt8), b5, b6, b7, b8] : List UInt8)⟩⟩))]) (B' := [none]) (by kernel_rfl) fun ρ w a hX => ?_
                  refine wpList_end ?_
                  refine hK20 _ _ ?_
                  refine wp_ret ?_
                  have hr := Option.some.inj (show some _ = some _ from h0)
                  subst hr
                  exact hX.ret0 (ss := [.v (.string ⟨⟨([(92 : UInt8), (117 : UInt8), b5, b6, b7, b8] : List UInt8)⟩⟩)]) (by kernel_rfl) (by kernel_rfl) rfl
                · have h0 := ite_ff h0 hb
                  refine wp_skip ?_
                  refine hK18 _ _ ?_
                  refine wp_seq_k fun K21 hK21 => ?_
                  refine wp_region_list ?_
                  refine hX.part [] 3 [42] (l' := [(42, .slc 0 0 1 1)]) (B' := [some ⟨5, [.v (.int .u8 (IntKind.wrap .u8 n))]⟩]) (by kernel_rfl) fun ρ w a hX => ?_
                  obtain ⟨b10, hb10, h0⟩ := bnd_some h0
                  have hX := hX.rebox 0 (b := ⟨5, [.v (.int .u8 (IntKind.wrap .u8 n))]⟩) (cs := [.v (.int .u8 ((b10.toNat : Nat) : Int))]) (B' := [some ⟨5, [.v (.int .u8 ((b10.toNat : Nat) : Int))]⟩]) (by kernel_rfl) (fun ρ => by simp only [SV.dens, SV.den, toB_some hb10]) (by have hg := (hX.bgood ⟨5, [.v (.int .u8 (IntKind.wrap .u8 n))]⟩ (List.mem_of_getElem? (i := 0) (by kernel_rfl))).1; exact ⟨trivial, trivial⟩) (by kernel_rfl) (by kernel_rfl)
                  obtain ⟨b11, hb, hX⟩ := hX.boxAcc2 (d := kByte) (e := 5) (k := 0) (t := 42) (m := 1) ([(b10, ())] : List (UInt8 × (kByte).Y)) (by kernel_rfl) (by kernel_rfl) rfl rfl (by decide) ⟨_, rfl⟩
                  have hX : Cx 44 _ _ _ _ _ [accP 5 kByte (some ⟨b11, 0, none⟩) 1 ([b10] : List UInt8)] [none] ρ _ a := hX
                  obtain ⟨F, hX⟩ := hX.freeze (i := 0) (t := 42) (e := 5) (d := kByte) (A := (some ⟨b11, 0, none⟩)) (c := 1) (xs := ([b10] : List UInt8)) rfl (by kernel_rfl)
                  have hX : Cx 44 _ _ _ _ _ [] [none] ρ _ a := hX
                  refine hX.strSl (lit := []) (by kernel_rfl) (by kernel_rfl) rfl (e := 5) (xs := ([b10] : List UInt8)) (A := (some ⟨b11, 0, none⟩)) (c := 1) (by kernel_rfl) (by kernel_rfl) (by kernel_rfl) (by kernel_rfl) fun a hX => ?_
                  refine hX.part [] 1 [2] (l' := [(2, .v (.string ⟨⟨([b10] : List UInt8)⟩⟩))]) (B' := [none]) (by kernel_rfl) fun ρ w a hX => ?_
                  refine wpList_end ?_
                  refine hK21 _ _ ?_
                  refine wp_ret ?_
                  have hr := Option.some.inj (show some _ = some _ from h0)
                  subst hr
                  exact hX.ret0 (ss := [.v (.string ⟨⟨([b10] : List UInt8)⟩⟩)]) (by kernel_rfl) (by kernel_rfl) rfl
def ref01_Quote.l1 (v2 : (List Int)) (s : Str × Int) : Option ((Str × Int) ⊕ ((Str))) := match s with
  | (x11, x12) =>
  if (decide (x12 < ((v2.length : Nat) : Int))) = true then
    Option.bind (getI v2 x12) fun v13 =>
    Option.bind (ref01_quoted v13) fun v17 =>
    Option.bind (catS x11 v17) fun v18 =>
    some (.inl (v18, (IntKind.wrap .i64 (x12 + 1))))
  else
    some (.inr x11)
def ref01_Quote (u : Str) : Option (Str × Int) :=
  Option.bind (ref01_Check u) fun v1 =>
  if (!v1) = true then
    some (([] : Str), 10)
  else
    Option.bind (ref01_List u) fun v2 =>
    Option.bind (loopM (ref01_Quote.l1 v2) (([34] : Str), 0)) fun e => match e with
    | x21 =>
      Option.bind (catS x21 ([34] : Str)) fun v22 =>
      some (v22, 0)
theorem ref01_Quote.ok (u : Str) (r : Str × Int) (h0 : ref01_Quote u = some r) (w0 : World) (F0 : Heap) (hv : F0.Sub w0) (hG : Glob F0) (hg : SV.goods F0 [.v (.string ⟨⟨u⟩⟩)]) (ρ : Nat → Nat) :
    Calls Tryd.prog 18 (SV.dens ρ [.v (.string ⟨⟨u⟩⟩)]).toArray w0 (Ret0 w0 F0 fun s => ∃ s1 s2, s = .tup [s1, s2] ∧ (s1 = .v (.string ⟨⟨r.1⟩⟩)) ∧ (s2 = .v (.int .i64 r.2))) := by
  refine calls_of_wp Tryd.func18 rfl ?_
  have hX := Cx.enter (D := No) (B := []) (L := []) (ρ := ρ) (N := 24) Tryd.ntmps18 [.v (.string ⟨⟨u⟩⟩)] (St.start hv) rfl hg (by kernel_rfl) (fun _ h => by cases h) (Nat.le_of_ble_eq_true rfl) No.unfix
  unfold ref01_Quote at h0
  refine Cx.rseq hX [] [0] (l' := [(0, .v (.string ⟨⟨u⟩⟩))]) (B' := []) (by kernel_rfl) fun ρ w a hX => ?_
  refine wp_seq_k fun K2 hK2 => ?_
  refine wp_seq_k fun K3 hK3 => ?_
  refine wp_region_list ?_
  refine hX.part [] 1 [0, 7] (l' := [(0, .v (.string ⟨⟨u⟩⟩)), (7, .v (.string ⟨⟨u⟩⟩))]) (B' := []) (by kernel_rfl) fun ρ w a hX => ?_
  obtain ⟨v1, hv1, h0⟩ := bnd_some h0
  refine Cx.call0 hX (lit := []) (by kernel_rfl) rfl (by kernel_rfl) ⟨⟨_, Tryd.func24, by kernel_rfl, rfl⟩⟩ (ss := [.v (.string ⟨⟨u⟩⟩)]) (by kernel_rfl) [.v (.string ⟨⟨u⟩⟩)] rfl (fun hg => hg) (fun hv hle hg => ref01_Check.ok u v1 hv1 _ _ hv (hG.mono hle) hg _) (fun s F w a hp hX => ?_)
  subst hp
  refine hX.part [] 1 [0, 9] (l' := [(0, .v (.string ⟨⟨u⟩⟩)), (9, .v (.bool (!v1)))]) (B' := []) (by kernel_rfl) fun ρ w a hX => ?_
  refine wpList_end ?_
  refine hK3 _ _ ?_
  refine Cx.cond hX (b := (!v1)) (by kernel_rfl) (fun hb => ?_) (fun hb => ?_)
  · have h0 := ite_tt h0 hb
    refine Cx.rseq hX [] [2, 3] (l' := [(2, .v (.string ⟨⟨([] : Str)⟩⟩)), (3, .v (.int .i64 10))]) (B' := []) (by kernel_rfl) fun ρ w a hX => ?_
    refine wp_ret ?_
    have hr := Option.some.inj (show some _ = some _ from h0)
    subst hr
    exact hX.ret0 (ss := [.v (.string ⟨⟨([] : Str)⟩⟩), .v (.int .i64 10)]) (by kernel_rfl) (by kernel_rfl) ⟨_, _, rfl, rfl, rfl⟩
  · have h0 := ite_ff h0 hb
    refine wp_skip ?_
    refine hK2 _ _ ?_
    refine Cx.rseq hX [] [0, 4] (l' := [(0, .v (.string ⟨⟨u⟩⟩)), (4, .v (.string ⟨⟨([34] : Str)⟩⟩))]) (B' := []) (by kernel_rfl) fun ρ w a hX => ?_
    refine wp_seq_k fun K6 hK6 => ?_
    refine wp_seq_k fun K7 hK7 => ?_
    refine wp_region_list ?_
    refine hX.part [] 1 [4, 10] (l' := [(4, .v (.string ⟨⟨([34] : Str)⟩⟩)), (10, .v (.string ⟨⟨u⟩⟩))]) (B' := []) (by kernel_rfl) fun ρ w a hX => ?_
    obtain ⟨v2, hv2, h0⟩ := bnd_some h0
    refine Cx.call0 hX (lit := []) (by kernel_rfl) rfl (by kernel_rfl) ⟨⟨_, Tryd.func31, by kernel_rfl, rfl⟩⟩ (ss := [.v (.string ⟨⟨u⟩⟩)]) (by kernel_rfl) [.v (.string ⟨⟨u⟩⟩)] rfl (fun hg => hg) (fun hv hle hg => ref01_List.ok u v2 hv2 _ _ hv (hG.mono hle) hg _) (fun s F w a hp hX => ?_)
    obtain ⟨A3, c4, rfl⟩ := hp
    refine hX.part [] 2 [4, 11, 12, 13] (l' := [(4, .v (.string ⟨⟨([34] : Str)⟩⟩)), (11, SV.sl (kInt .i64) v2 A3 c4), (12, .v (.int .i64 ((v2.length : Nat) : Int))), (13, .v (.int .i64 0))]) (B' := []) (by kernel_rfl) fun ρ w a hX => ?_
    refine wpList_end ?_
    refine hK7 _ _ ?_
    refine wp_block ?_
    have hX := hX.keeps [4, 11, 12, 13] (l' := [(4, .v (.string ⟨⟨([34] : Str)⟩⟩)), (11, SV.sl (kInt .i64) v2 A3 c4), (12, .v (.int .i64 ((v2.length : Nat) : Int))), (13, .v (.int .i64 0))]) (by kernel_rfl)
    obtain ⟨e1, he1, h0⟩ := bnd_some h0
    have E1x0 : ∀ (x21 : Str), e1 = x21 → ∀ (ρ : Nat → Nat) (w : World) (F : Heap) (a : Act), Cx 24 w0 F0 No w F [] [] ρ [(4, .v (.string ⟨⟨x21⟩⟩))] a → K6 a w := by
      intro x21 he  ρ w F a hX
      replace he := he.symm
      subst he
      (try dsimp only at h0)
      refine hK6 _ _ ?_
      refine wp_seq_k fun K16 hK16 => ?_
      refine wp_region_list ?_
      refine hX.part [] 1 [22] (l' := [(22, .v (.string ⟨⟨x21⟩⟩))]) (B' := []) (by kernel_rfl) fun ρ w a hX => ?_
      obtain ⟨v22, hv22, h0⟩ := bnd_some h0
      refine hX.catStr (lit := []) (by kernel_rfl) (by kernel_rfl) rfl (s := x21) (t := ([34] : Str)) (r := v22) (by kernel_rfl) (by kernel_rfl) hv22 fun a hX => ?_
      refine hX.part [] 2 [2, 3] (l' := [(2, .v (.string ⟨⟨v22⟩⟩)), (3, .v (.int .i64 0))]) (B' := []) (by kernel_rfl) fun ρ w a hX => ?_
      refine wpList_end ?_
      refine hK16 _ _ ?_
      refine wp_ret ?_
      have hr := Option.some.inj (show some _ = some _ from h0)
      subst hr
      exact hX.ret0 (ss := [.v (.string ⟨⟨v22⟩⟩), .v (.int .i64 0)]) (by kernel_rfl) (by kernel_rfl) ⟨_, _, rfl, rfl, rfl⟩
    refine loop_go (fun (s : Str × Int) a w => match s with | (x11, x12) => ∃ (ρ : Nat → Nat) (F : Heap), Cx 24 w0 F0 No w F [] [] ρ [(4, .v (.string ⟨⟨x11⟩⟩)), (11, SV.sl (kInt .i64) v2 A3 c4), (12, .v (.int .i64 ((v2.length : Nat) : Int))), (13, .v (.int .i64 x12))] a) he1 (fun LW1 s o1 h1 hb1 hx1 a w hI => ?_) _ _ ?_
    · obtain ⟨x11, x12⟩ := s
      obtain ⟨ρ, F, hX⟩ := hI
      unfold ref01_Quote.l1 at h1
      (try dsimp only at h1)
      refine Cx.rseq hX [] [4, 11, 12, 13, 14] (l' := [(4, .v (.string ⟨⟨x11⟩⟩)), (11, SV.sl (kInt .i64) v2 A3 c4), (12, .v (.int .i64 ((v2.length : Nat) : Int))), (13, .v (.int .i64 x12)), (14, .v (.bool (decide (x12 < ((v2.length : Nat) : Int)))))]) (B' := []) (by kernel_rfl) fun ρ w a hX => ?_
      refine wp_seq_k fun K13 hK13 => ?_
      refine Cx.cond hX (b := (decide (x12 < ((v2.length : Nat) : Int)))) (by kernel_rfl) (fun hb => ?_) (fun hb => ?_)
      · have h1 := ite_tt h1 hb
        refine wp_skip ?_
        refine hK13 _ _ ?_
        refine wp_seq_k fun K14 hK14 => ?_
        refine wp_block ?_
        refine wp_seq_k fun K15 hK15 => ?_
        refine wp_region_list ?_
        refine hX.part [] 0 [4, 11, 12, 13] (l' := [(4, .v (.string ⟨⟨x11⟩⟩)), (11, SV.sl (kInt .i64) v2 A3 c4), (12, .v (.int .i64 ((v2.length : Nat) : Int))), (13, .v (.int .i64 x12))]) (B' := []) (by kernel_rfl) fun ρ w a hX => ?_
        obtain ⟨v13, hv13, h1⟩ := bnd_some h1
        refine hX.idxSl (lit := []) (by kernel_rfl) (by kernel_rfl) rfl (d := (kInt .i64)) (e := 3) (xs := v2) (A := A3) (c := c4) (k := .i64) (n := x12) (v := v13) (by kernel_rfl) (by kernel_rfl) (by kernel_rfl) (by kernel_rfl) hv13 fun y14 b15 o16 a hX => ?_
        refine hX.part [] 2 [4, 6, 11, 12, 13] (l' := [(4, .v (.string ⟨⟨x11⟩⟩)), (6, .v (.int .i64 v13)), (11, SV.sl (kInt .i64) v2 A3 c4), (12, .v (.int .i64 ((v2.length : Nat) : Int))), (13, .v (.int .i64 x12))]) (B' := []) (by kernel_rfl) fun ρ w a hX => ?_
        refine wpList_end ?_
        refine hK15 _ _ ?_
        refine wp_region_list ?_
        refine hX.part [] 2 [4, 11, 12, 13, 17, 18] (l' := [(4, .v (.string ⟨⟨x11⟩⟩)), (11, SV.sl (kInt .i64) v2 A3 c4), (12, .v (.int .i64 ((v2.length : Nat) : Int))), (13, .v (.int .i64 x12)), (17, .v (.string ⟨⟨x11⟩⟩)), (18, .v (.int .i64 v13))]) (B' := []) (by kernel_rfl) fun ρ w a hX => ?_
        obtain ⟨v17, hv17, h1⟩ := bnd_some h1
        refine Cx.call0 hX (lit := []) (by kernel_rfl) rfl (by kernel_rfl) ⟨⟨_, Tryd.func34, by kernel_rfl, rfl⟩⟩ (ss := [.v (.int .i64 v13)]) (by kernel_rfl) [.v (.int .i64 v13)] rfl (fun hg => hg) (fun hv hle hg => ref01_quoted.ok v13 v17 hv17 _ _ hv (hG.mono hle) hg _) (fun s F w a hp hX => ?_)
        subst hp
        refine hX.part [] 0 [4, 11, 12, 13, 17, 19] (l' := [(4, .v (.string ⟨⟨x11⟩⟩)), (11, SV.sl (kInt .i64) v2 A3 c4), (12, .v (.int .i64 ((v2.length : Nat) : Int))), (13, .v (.int .i64 x12)), (17, .v (.string ⟨⟨x11⟩⟩)), (19, .v (.string ⟨⟨v17⟩⟩))]) (B' := []) (by kernel_rfl) fun ρ w a hX => ?_
        obtain ⟨v18, hv18, h1⟩ := bnd_some h1
        refine hX.catStr (lit := []) (by kernel_rfl) (by kernel_rfl) rfl (s := x11) (t := v17) (r := v18) (by kernel_rfl) (by kernel_rfl) hv18 fun a hX => ?_
        refine hX.part [] 1 [4, 11, 12, 13] (l' := [(4, .v (.string ⟨⟨v18⟩⟩)), (11, SV.sl (kInt .i64) v2 A3 c4), (12, .v (.int .i64 ((v2.length : Nat) : Int))), (13, .v (.int .i64 x12))]) (B' := []) (by kernel_rfl) fun ρ w a hX => ?_
        refine wpList_end ?_
        refine hK14 _ _ ?_
        refine Cx.region hX [] [4, 11, 12, 13] (l' := [(4, .v (.string ⟨⟨v18⟩⟩)), (11, SV.sl (kInt .i64) v2 A3 c4), (12, .v (.int .i64 ((v2.length : Nat) : Int))), (13, .v (.int .i64 (IntKind.wrap .i64 (x12 + 1))))]) (B' := []) (by kernel_rfl) fun ρ w a hX => ?_
        have hX := hX.keeps [4, 11, 12, 13] (l' := [(4, .v (.string ⟨⟨v18⟩⟩)), (11, SV.sl (kInt .i64) v2 A3 c4), (12, .v (.int .i64 ((v2.length : Nat) : Int))), (13, .v (.int .i64 (IntKind.wrap .i64 (x12 + 1))))]) (by kernel_rfl)
        exact hb1 (v18, (IntKind.wrap .i64 (x12 + 1))) (out_eq h1) _ _ ⟨_, _, hX⟩
      · have h1 := ite_ff h1 hb
        refine wp_exit ?_
        have hX := hX.keeps [4] (l' := [(4, .v (.string ⟨⟨x11⟩⟩))]) (by kernel_rfl)
        exact E1x0 x11 (hx1 _ (out_eq h1)).symm  _ _ _ _ hX
    · exact ⟨_, _, hX⟩
def law01_UnitsQuote (u : Str) : Option (Bool) :=
  Option.bind (units_Quote u) fun v1 =>
  Option.bind (ref01_Quote u) fun v2 =>
  Option.bind (law01_live) fun v3 =>
  some ((v3 && (v1.1 == v2.1)) && (v1.2 == v2.2))
theorem law01_UnitsQuote.ok (u : Str) (r : Bool) (h0 : law01_UnitsQuote u = some r) (w0 : World) (F0 : Heap) (hv : F0.Sub w0) (hG : Glob F0) (hg : SV.goods F0 [.v (.string ⟨⟨u⟩⟩)]) (ρ : Nat → Nat) :
    Calls Tryd.prog 5 (SV.dens ρ [.v (.string ⟨⟨u⟩⟩)]).toArray w0 (Ret0 w0 F0 fun s => s = .v (.bool r)) := by
  refine calls_of_wp Tryd.func5 rfl ?_
  have hX := Cx.enter (D := No) (B := []) (L := []) (ρ := ρ) (N := 28) Tryd.ntmps5 [.v (.string ⟨⟨u⟩⟩)] (St.start hv) rfl hg (by kernel_rfl) (fun _ h => by cases h) (Nat.le_of_ble_eq_true rfl) No.unfix
  unfold law01_UnitsQuote at h0
  refine Cx.rseq hX [] [0] (l' := [(0, .v (.string ⟨⟨u⟩⟩))]) (B' := []) (by kernel_rfl) fun ρ w a hX => ?_
  refine wp_seq_k fun K2 hK2 => ?_
  refine wp_region_list ?_
  refine hX.part [] 1 [0, 8] (l' := [(0, .v (.string ⟨⟨u⟩⟩)), (8, .v (.string ⟨⟨u⟩⟩))]) (B' := []) (by kernel_rfl) fun ρ w a hX => ?_
  obtain ⟨v1, hv1, h0⟩ := bnd_some h0
  refine Cx.call0 hX (lit := []) (by kernel_rfl) rfl (by kernel_rfl) ⟨⟨_, Tryd.func17, by kernel_rfl, rfl⟩⟩ (ss := [.v (.string ⟨⟨u⟩⟩)]) (by kernel_rfl) [.v (.string ⟨⟨u⟩⟩)] rfl (fun hg => hg) (fun hv hle hg => units_Quote.ok u v1 hv1 _ _ hv (hG.mono hle) hg _) (fun s F w a hp hX => ?_)
  obtain ⟨_, _, rfl, rfl, rfl⟩ := hp
  refine hX.part [] 5 [0, 3, 4] (l' := [(0, .v (.string ⟨⟨u⟩⟩)), (3, .v (.string ⟨⟨v1.1⟩⟩)), (4, .v (.int .i64 v1.2))]) (B' := []) (by kernel_rfl) fun ρ w a hX => ?_
  refine wpList_end ?_
  refine hK2 _ _ ?_
  refine wp_seq_k fun K3 hK3 => ?_
  refine wp_region_list ?_
  refine hX.part [] 1 [3, 4, 13] (l' := [(3, .v (.string ⟨⟨v1.1⟩⟩)), (4, .v (.int .i64 v1.2)), (13, .v (.string ⟨⟨u⟩⟩))]) (B' := []) (by kernel_rfl) fun ρ w a hX => ?_
  obtain ⟨v2, hv2, h0⟩ := bnd_some h0
  refine Cx.call0 hX (lit := []) (by kernel_rfl) rfl (by kernel_rfl) ⟨⟨_, Tryd.func18, by kernel_rfl, rfl⟩⟩ (ss := [.v (.string ⟨⟨u⟩⟩)]) (by kernel_rfl) [.v (.string ⟨⟨u⟩⟩)] rfl (fun hg => hg) (fun hv hle hg => ref01_Quote.ok u v2 hv2 _ _ hv (hG.mono hle) hg _) (fun s F w a hp hX => ?_)
  obtain ⟨_, _, rfl, rfl, rfl⟩ := hp
  refine hX.part [] 5 [3, 4, 5, 6] (l' := [(3, .v (.string ⟨⟨v1.1⟩⟩)), (4, .v (.int .i64 v1.2)), (5, .v (.string ⟨⟨v2.1⟩⟩)), (6, .v (.int .i64 v2.2))]) (B' := []) (by kernel_rfl) fun ρ w a hX => ?_
  refine wpList_end ?_
  refine hK3 _ _ ?_
  refine wp_seq_k fun K4 hK4 => ?_
  refine wp_region_list ?_
  refine hX.part [] 0 [3, 4, 5, 6] (l' := [(3, .v (.string ⟨⟨v1.1⟩⟩)), (4, .v (.int .i64 v1.2)), (5, .v (.string ⟨⟨v2.1⟩⟩)), (6, .v (.int .i64 v2.2))]) (B' := []) (by kernel_rfl) fun ρ w a hX => ?_
  obtain ⟨v3, hv3, h0⟩ := bnd_some h0
  refine Cx.call0 hX (lit := []) (by kernel_rfl) rfl (by kernel_rfl) ⟨⟨_, Tryd.func14, by kernel_rfl, rfl⟩⟩ (ss := []) (by kernel_rfl) [] rfl (fun hg => hg) (fun hv hle hg => law01_live.ok v3 hv3 _ _ hv (hG.mono hle) hg _) (fun s F w a hp hX => ?_)
  subst hp
  refine hX.part [] 11 [2] (l' := [(2, .v (.bool ((v3 && (v1.1 == v2.1)) && (v1.2 == v2.2))))]) (B' := []) (by kernel_rfl) fun ρ w a hX => ?_
  refine wpList_end ?_
  refine hK4 _ _ ?_
  refine wp_ret ?_
  have hr := Option.some.inj (show some _ = some _ from h0)
  subst hr
  exact hX.ret0 (ss := [.v (.bool ((v3 && (v1.1 == v2.1)) && (v1.2 == v2.2)))]) (by kernel_rfl) (by kernel_rfl) rfl
def ref01_digit (c : Int) : Option (Int) :=
  if ((decide (c ≥ 48)) && (decide (c ≤ 57))) = true then
    some (IntKind.wrap .i64 (IntKind.wrap .u8 (c - 48)))
  else
    if ((decide (c ≥ 97)) && (decide (c ≤ 102))) = true then
      some (IntKind.wrap .i64 ((IntKind.wrap .i64 (IntKind.wrap .u8 (c - 97))) + 10))
    else
      if ((decide (c ≥ 65)) && (decide (c ≤ 70))) = true then
        some (IntKind.wrap .i64 ((IntKind.wrap .i64 (IntKind.wrap .u8 (c - 65))) + 10))
      else
        some (-1)
theorem ref01_digit.ok (c : Int) (r : Int) (h0 : ref01_digit c = some r) (w0 : World) (F0 : Heap) (hv : F0.Sub w0) (hG : Glob F0) (hg : SV.goods F0 [.v (.int .u8 c)]) (ρ : Nat → Nat) :
    Calls Tryd.prog 57 (SV.dens ρ [.v (.int .u8 c)]).toArray w0 (Ret0 w0 F0 fun s => s = .v (.int .i64 r)) := by
  refine calls_of_wp Tryd.func57 rfl ?_
  have hX := Cx.enter (D := No) (B := []) (L := []) (ρ := ρ) (N := 35) Tryd.ntmps57 [.v (.int .u8 c)] (St.start hv) rfl hg (by kernel_rfl) (fun _ h => by cases h) (Nat.le_of_ble_eq_true rfl) No.unfix
  unfold ref01_digit at h0
  refine Cx.rseq hX [] [0] (l' := [(0, .v (.int .u8 c))]) (B' := []) (by kernel_rfl) fun ρ w a hX => ?_
  refine wp_seq_k fun K2 hK2 => ?_
  refine wp_block ?_
  refine Cx.rseq hX [] [0, 3] (l' := [(0, .v (.int .u8 c)), (3, .v (.bool ((decide (c ≥ 48)) && (decide (c ≤ 57)))))]) (B' := []) (by kernel_rfl) fun ρ w a hX => ?_
  refine Cx.cond hX (b := ((decide (c ≥ 48)) && (decide (c ≤ 57)))) (by kernel_rfl) (fun hb => ?_) (fun hb => ?_)
  · have h0 := ite_tt h0 hb
    refine Cx.rseq hX [] [2] (l' := [(2, .v (.int .i64 (IntKind.wrap .i64 (IntKind.wrap .u8 (c - 48)))))]) (B' := []) (by kernel_rfl) fun ρ w a hX => ?_
    refine wp_ret ?_
    have hr := Option.some.inj (show some _ = some _ from h0)
    subst hr
    exact hX.ret0 (ss := [.v (.int .i64 (IntKind.wrap .i64 (IntKind.wrap .u8 (c - 48))))]) (by kernel_rfl) (by kernel_rfl) rfl
  · have h0 := ite_ff h0 hb
    refine Cx.rseq hX [] [0, 13] (l' := [(0, .v (.int .u8 c)), (13, .v (.bool ((decide (c ≥ 97)) && (decide (c ≤ 102)))))]) (B' := []) (by kernel_rfl) fun ρ w a hX => ?_
    refine Cx.cond hX (b := ((decide (c ≥ 97)) && (decide (c ≤ 102)))) (by kernel_rfl) (fun hb => ?_) (fun hb => ?_)
    · have h0 := ite_tt h0 hb
      refine Cx.rseq hX [] [2] (l' := [(2, .v (.int .i64 (IntKind.wrap .i64 ((IntKind.wrap .i64 (IntKind.wrap .u8 (c - 97))) + 10))))]) (B' := []) (by kernel_rfl) fun ρ w a hX => ?_
      refine wp_ret ?_
      have hr := Option.some.inj (show some _ = some _ from h0)
      subst hr
      exact hX.ret0 (ss := [.v (.int .i64 (IntKind.wrap .i64 ((IntKind.wrap .i64 (IntKind.wrap .u8 (c - 97))) + 10)))]) (by kernel_rfl) (by kernel_rfl) rfl
    · have h0 := ite_ff h0 hb
      refine Cx.rseq hX [] [0, 24] (l' := [(0, .v (.int .u8 c)), (24, .v (.bool ((decide (c ≥ 65)) && (decide (c ≤ 70)))))]) (B' := []) (by kernel_rfl) fun ρ w a hX => ?_
      refine Cx.cond hX (b := ((decide (c ≥ 65)) && (decide (c ≤ 70)))) (by kernel_rfl) (fun hb => ?_) (fun hb => ?_)
      · have h0 := ite_tt h0 hb
        refine Cx.rseq hX [] [2] (l' := [(2, .v (.int .i64 (IntKind.wrap .i64 ((IntKind.wrap .i64 (IntKind.wrap .u8 (c - 65))) + 10))))]) (B' := []) (by kernel_rfl) fun ρ w a hX => ?_
        refine wp_ret ?_
        have hr := Option.some.inj (show some _ = some _ from h0)
        subst hr
        exact hX.ret0 (ss := [.v (.int .i64 (IntKind.wrap .i64 ((IntKind.wrap .i64 (IntKind.wrap .u8 (c - 65))) + 10)))]) (by kernel_rfl) (by kernel_rfl) rfl
      · have h0 := ite_ff h0 hb
        refine wp_skip ?_
        refine hK2 _ _ ?_
        refine Cx.rseq hX [] [2] (l' := [(2, .v (.int .i64 (-1)))]) (B' := []) (by kernel_rfl) fun ρ w a hX => ?_
        refine wp_ret ?_
        have hr := Option.some.inj (show some _ = some _ from h0)
        subst hr
        exact hX.ret0 (ss := [.v (.int .i64 (-1))]) (by kernel_rfl) (by kernel_rfl) rfl
def ref01_digits.j2 (s_ : Str) (at_ : Int) (x6 : Int) (x7 : Int) (x10 : Bool) : Option ((Int × Int) ⊕ ((Int) ⊕ (Int))) :=
  if x10 = true then
    some (.inr (.inr (-1)))
  else
    Option.bind (getB s_ (IntKind.wrap .i64 (at_ + x7))) fun v11 =>
    Option.bind (ref01_digit v11) fun v12 =>
    some (.inl ((IntKind.wrap .i64 ((IntKind.wrap .i64 (16 * x6)) + v12)), (IntKind.wrap .i64 (x7 + 1))))
def ref01_digits.l1 (s_ : Str) (at_ : Int) (many : Int) (s : Int × Int) : Option ((Int × Int) ⊕ ((Int) ⊕ (Int))) := match s with
  | (x6, x7) =>
  if (decide (x7 < many)) = true then
    if (decide ((IntKind.wrap .i64 (at_ + x7)) ≥ ((s_.length : Nat) : Int))) = true then
      ref01_digits.j2 s_ at_ x6 x7 true
    else
      Option.bind (getB s_ (IntKind.wrap .i64 (at_ + x7))) fun v8 =>
      Option.bind (ref01_digit v8) fun v9 =>
      ref01_digits.j2 s_ at_ x6 x7 (decide (v9 < 0))
  else
    some (.inr (.inl x6))
def ref01_digits (s_ : Str) (at_ : Int) (many : Int) : Option (Int) :=
  Option.bind (loopM (ref01_digits.l1 s_ at_ many) (0, 0)) fun e => match e with
  | (.inl x15) =>
    some x15
  | (.inr r16) =>
    some r16
theorem ref01_digits.ok (s_ : Str) (at_ : Int) (many : Int) (r : Int) (h0 : ref01_digits s_ at_ many = some r) (w0 : World) (F0 : Heap) (hv : F0.Sub w0) (hG : Glob F0) (hg : SV.goods F0 [.v (.string ⟨⟨s_⟩⟩), .v (.int .i64 at_), .v (.int .i64 many)]) (ρ : Nat → Nat) :
    Calls Tryd.prog 46 (SV.dens ρ [.v (.string ⟨⟨s_⟩⟩), .v (.int .i64 at_), .v (.int .i64 many)]).toArray w0 (Ret0 w0 F0 fun s => s = .v (.int .i64 r)) := by
  refine calls_of_wp Tryd.func46 rfl ?_
  have hX := Cx.enter (D := No) (B := []) (L := []) (ρ := ρ) (N := 39) Tryd.ntmps46 [.v (.string ⟨⟨s_⟩⟩), .v (.int .i64 at_), .v (.int .i64 many)] (St.start hv) rfl hg (by kernel_rfl) (fun _ h => by cases h) (Nat.le_of_ble_eq_true rfl) No.unfix
  unfold ref01_digits at h0
  refine Cx.rseq hX [] [0, 1, 2] (l' := [(0, .v (.string ⟨⟨s_⟩⟩)), (1, .v (.int .i64 at_)), (2, .v (.int .i64 many))]) (B' := []) (by kernel_rfl) fun ρ w a hX => ?_
  refine Cx.rseq hX [] [0, 1, 2, 7] (l' := [(0, .v (.string ⟨⟨s_⟩⟩)), (1, .v (.int .i64 at_)), (2, .v (.int .i64 many)), (7, .v (.int .i64 0))]) (B' := []) (by kernel_rfl) fun ρ w a hX => ?_
  refine wp_seq_k fun K3 hK3 => ?_
  refine Cx.rseq hX [] [0, 1, 7, 9, 10] (l' := [(0, .v (.string ⟨⟨s_⟩⟩)), (1, .v (.int .i64 at_)), (7, .v (.int .i64 0)), (9, .v (.int .i64 many)), (10, .v (.int .i64 0))]) (B' := []) (by kernel_rfl) fun ρ w a hX => ?_
  refine wp_block ?_
  have hX := hX.keeps [0, 1, 7, 9, 10] (l' := [(0, .v (.string ⟨⟨s_⟩⟩)), (1, .v (.int .i64 at_)), (7, .v (.int .i64 0)), (9, .v (.int .i64 many)), (10, .v (.int .i64 0))]) (by kernel_rfl)
  obtain ⟨e1, he1, h0⟩ := bnd_some h0
  have E1x0 : ∀ (x15 : Int), e1 = (.inl x15) → ∀ (ρ : Nat → Nat) (w : World) (F : Heap) (a : Act), Cx 39 w0 F0 No w F [] [] ρ [(7, .v (.int .i64 x15))] a → K3 a w := by
    intro x15 he  ρ w F a hX
    replace he := he.symm
    subst he
    (try dsimp only at h0)
    refine hK3 _ _ ?_
    refine Cx.rseq hX [] [6] (l' := [(6, .v (.int .i64 x15))]) (B' := []) (by kernel_rfl) fun ρ w a hX => ?_
    refine wp_ret ?_
    have hr := Option.some.inj (show some _ = some _ from h0)
    subst hr
    exact hX.ret0 (ss := [.v (.int .i64 x15)]) (by kernel_rfl) (by kernel_rfl) rfl
  refine loop_go (fun (s : Int × Int) a w => match s with | (x6, x7) => ∃ (ρ : Nat → Nat) (F : Heap), Cx 39 w0 F0 No w F [] [] ρ [(0, .v (.string ⟨⟨s_⟩⟩)), (1, .v (.int .i64 at_)), (7, .v (.int .i64 x6)), (9, .v (.int .i64 many)), (10, .v (.int .i64 x7))] a) he1 (fun LW1 s o1 h1 hb1 hx1 a w hI => ?_) _ _ ?_
  · obtain ⟨x6, x7⟩ := s
    obtain ⟨ρ, F, hX⟩ := hI
    unfold ref01_digits.l1 at h1
    (try dsimp only at h1)
    refine Cx.rseq hX [] [0, 1, 7, 9, 10, 11] (l' := [(0, .v (.string ⟨⟨s_⟩⟩)), (1, .v (.int .i64 at_)), (7, .v (.int .i64 x6)), (9, .v (.int .i64 many)), (10, .v (.int .i64 x7)), (11, .v (.bool (decide (x7 < many))))]) (B' := []) (by kernel_rfl) fun ρ w a hX => ?_
    refine wp_seq_k fun K13 hK13 => ?_
    refine Cx.cond hX (b := (decide (x7 < many))) (by kernel_rfl) (fun hb => ?_) (fun hb => ?_)
    · have h1 := ite_tt h1 hb
      refine wp_skip ?_
      refine hK13 _ _ ?_
      refine wp_seq_k fun K14 hK14 => ?_
      refine wp_block ?_
      refine Cx.rseq hX [] [0, 1, 7, 8, 9, 10] (l' := [(0, .v (.string ⟨⟨s_⟩⟩)), (1, .v (.int .i64 at_)), (7, .v (.int .i64 x6)), (8, .v (.int .i64 x7)), (9, .v (.int .i64 many)), (10, .v (.int .i64 x7))]) (B' := []) (by kernel_rfl) fun ρ w a hX => ?_
      refine wp_seq_k fun K16 hK16 => ?_
      refine wp_seq_k fun K17 hK17 => ?_
      have J17 : ∀ (x10 : Bool), ref01_digits.j2 s_ at_ x6 x7 x10 = some o1 → ∀ (ρ : Nat → Nat) (w : World) (F : Heap) (a : Act), Cx 39 w0 F0 No w F [] [] ρ [(0, .v (.string ⟨⟨s_⟩⟩)), (1, .v (.int .i64 at_)), (7, .v (.int .i64 x6)), (8, .v (.int .i64 x7)), (9, .v (.int .i64 many)), (10, .v (.int .i64 x7)), (27, .v (.bool x10))] a → K17 a w := by
        intro x10 h1  ρ w F a hX
        unfold ref01_digits.j2 at h1
        refine hK17 _ _ ?_
        refine Cx.cond hX (b := x10) (by kernel_rfl) (fun hb => ?_) (fun hb => ?_)
        · have h1 := ite_tt h1 hb
          refine Cx.rseq hX [] [6] (l' := [(6, .v (.int .i64 (-1)))]) (B' := []) (by kernel_rfl) fun ρ w a hX => ?_
          refine wp_ret ?_
          have he := hx1 _ (out_eq h1)
          subst he
          (try dsimp only at h0)
          have hr := Option.some.inj (show some _ = some _ from h0)
          subst hr
          exact hX.ret0 (ss := [.v (.int .i64 (-1))]) (by kernel_rfl) (by kernel_rfl) rfl
        · have h1 := ite_ff h1 hb
          refine wp_skip ?_
          refine hK16 _ _ ?_
          refine wp_region_list ?_
          refine hX.part [] 6 [0, 1, 7, 9, 10, 29, 30, 33] (l' := [(0, .v (.string ⟨⟨s_⟩⟩)), (1, .v (.int .i64 at_)), (7, .v (.int .i64 x6)), (9, .v (.int .i64 many)), (10, .v (.int .i64 x7)), (29, .v (.int .i64 (IntKind.wrap .i64 (16 * x6)))), (30, .v (.string ⟨⟨s_⟩⟩)), (33, .v (.int .i64 (IntKind.wrap .i64 (at_ + x7))))]) (B' := []) (by kernel_rfl) fun ρ w a hX => ?_
          obtain ⟨v11, hv11, h1⟩ := bnd_some h1
          refine hX.idxStr (lit := []) (by kernel_rfl) (by kernel_rfl) rfl (s := s_) (k := .i64) (n := (IntKind.wrap .i64 (at_ + x7))) (b := v11) (by kernel_rfl) (by kernel_rfl) (by kernel_rfl) hv11 fun a hX => ?_
          refine hX.part [] 0 [0, 1, 7, 9, 10, 29, 34] (l' := [(0, .v (.string ⟨⟨s_⟩⟩)), (1, .v (.int .i64 at_)), (7, .v (.int .i64 x6)), (9, .v (.int .i64 many)), (10, .v (.int .i64 x7)), (29, .v (.int .i64 (IntKind.wrap .i64 (16 * x6)))), (34, .v (.int .u8 v11))]) (B' := []) (by kernel_rfl) fun ρ w a hX => ?_
          obtain ⟨v12, hv12, h1⟩ := bnd_some h1
          refine Cx.call0 hX (lit := []) (by kernel_rfl) rfl (by kernel_rfl) ⟨⟨_, Tryd.func57, by kernel_rfl, rfl⟩⟩ (ss := [.v (.int .u8 v11)]) (by kernel_rfl) [.v (.int .u8 v11)] rfl (fun hg => hg) (fun hv hle hg => ref01_digit.ok v11 v12 hv12 _ _ hv (hG.mono hle) hg _) (fun s F w a hp hX => ?_)
          subst hp
          refine hX.part [] 2 [0, 1, 7, 9, 10] (l' := [(0, .v (.string ⟨⟨s_⟩⟩)), (1, .v (.int .i64 at_)), (7, .v (.int .i64 (IntKind.wrap .i64 ((IntKind.wrap .i64 (16 * x6)) + v12)))), (9, .v (.int .i64 many)), (10, .v (.int .i64 x7))]) (B' := []) (by kernel_rfl) fun ρ w a hX => ?_
          refine wpList_end ?_
          refine hK14 _ _ ?_
          refine Cx.region hX [] [0, 1, 7, 9, 10] (l' := [(0, .v (.string ⟨⟨s_⟩⟩)), (1, .v (.int .i64 at_)), (7, .v (.int .i64 (IntKind.wrap .i64 ((IntKind.wrap .i64 (16 * x6)) + v12)))), (9, .v (.int .i64 many)), (10, .v (.int .i64 (IntKind.wrap .i64 (x7 + 1))))]) (B' := []) (by kernel_rfl) fun ρ w a hX => ?_
          have hX := hX.keeps [0, 1, 7, 9, 10] (l' := [(0, .v (.string ⟨⟨s_⟩⟩)), (1, .v (.int .i64 at_)), (7, .v (.int .i64 (IntKind.wrap .i64 ((IntKind.wrap .i64 (16 * x6)) + v12)))), (9, .v (.int .i64 many)), (10, .v (.int .i64 (IntKind.wrap .i64 (x7 + 1))))]) (by kernel_rfl)
          exact hb1 ((IntKind.wrap .i64 ((IntKind.wrap .i64 (16 * x6)) + v12)), (IntKind.wrap .i64 (x7 + 1))) (out_eq h1) _ _ ⟨_, _, hX⟩
      refine wp_region_list ?_
      refine hX.part [] 7 [0, 1, 7, 8, 9, 10, 19] (l' := [(0, .v (.string ⟨⟨s_⟩⟩)), (1, .v (.int .i64 at_)), (7, .v (.int .i64 x6)), (8, .v (.int .i64 x7)), (9, .v (.int .i64 many)), (10, .v (.int .i64 x7)), (19, .v (.bool (decide ((IntKind.wrap .i64 (at_ + x7)) ≥ ((s_.length : Nat) : Int)))))]) (B' := []) (by kernel_rfl) fun ρ w a hX => ?_
      refine ite_go h1 (fun hb h1 => ?_) (fun hb h1 => ?_)
      · have hX := hX.relit 19 hb (by kernel_rfl)
        refine hX.part [6] 8 [0, 1, 7, 8, 9, 10, 27] (l' := [(0, .v (.string ⟨⟨s_⟩⟩)), (1, .v (.int .i64 at_)), (7, .v (.int .i64 x6)), (8, .v (.int .i64 x7)), (9, .v (.int .i64 many)), (10, .v (.int .i64 x7)), (27, .v (.bool true))]) (B' := []) (by kernel_rfl) fun ρ w a hX => ?_
        refine wpList_end ?_
        have hX := hX.keeps [0, 1, 7, 8, 9, 10, 27] (l' := [(0, .v (.string ⟨⟨s_⟩⟩)), (1, .v (.int .i64 at_)), (7, .v (.int .i64 x6)), (8, .v (.int .i64 x7)), (9, .v (.int .i64 many)), (10, .v (.int .i64 x7)), (27, .v (.bool true))]) (by kernel_rfl)
        exact J17 true h1  _ _ _ _ hX
      · have hX := hX.relit 19 hb (by kernel_rfl)
        refine hX.part [6] 4 [0, 1, 7, 8, 9, 10, 19, 20, 23] (l' := [(0, .v (.string ⟨⟨s_⟩⟩)), (1, .v (.int .i64 at_)), (7, .v (.int .i64 x6)), (8, .v (.int .i64 x7)), (9, .v (.int .i64 many)), (10, .v (.int .i64 x7)), (19, .v (.bool false)), (20, .v (.string ⟨⟨s_⟩⟩)), (23, .v (.int .i64 (IntKind.wrap .i64 (at_ + x7))))]) (B' := []) (by kernel_rfl) fun ρ w a hX => ?_
        obtain ⟨v8, hv8, h1⟩ := bnd_some h1
        refine hX.idxStr (lit := [6]) (by kernel_rfl) (by kernel_rfl) rfl (s := s_) (k := .i64) (n := (IntKind.wrap .i64 (at_ + x7))) (b := v8) (by kernel_rfl) (by kernel_rfl) (by kernel_rfl) hv8 fun a hX => ?_
        refine hX.part [6] 0 [0, 1, 7, 8, 9, 10, 19, 24] (l' := [(0, .v (.string ⟨⟨s_⟩⟩)), (1, .v (.int .i64 at_)), (7, .v (.int .i64 x6)), (8, .v (.int .i64 x7)), (9, .v (.int .i64 many)), (10, .v (.int .i64 x7)), (19, .v (.bool false)), (24, .v (.int .u8 v8))]) (B' := []) (by kernel_rfl) fun ρ w a hX => ?_
        obtain ⟨v9, hv9, h1⟩ := bnd_some h1
        refine Cx.call0 hX (lit := [6]) (by kernel_rfl) rfl (by kernel_rfl) ⟨⟨_, Tryd.func57, by kernel_rfl, rfl⟩⟩ (ss := [.v (.int .u8 v8)]) (by kernel_rfl) [.v (.int .u8 v8)] rfl (fun hg => hg) (fun hv hle hg => ref01_digit.ok v8 v9 hv9 _ _ hv (hG.mono hle) hg _) (fun s F w a hp hX => ?_)
        subst hp
        refine hX.part [6] 2 [0, 1, 7, 8, 9, 10, 27] (l' := [(0, .v (.string ⟨⟨s_⟩⟩)), (1, .v (.int .i64 at_)), (7, .v (.int .i64 x6)), (8, .v (.int .i64 x7)), (9, .v (.int .i64 many)), (10, .v (.int .i64 x7)), (27, .v (.bool (decide (v9 < 0))))]) (B' := []) (by kernel_rfl) fun ρ w a hX => ?_
        refine wpList_end ?_
        have hX := hX.keeps [0, 1, 7, 8, 9, 10, 27] (l' := [(0, .v (.string ⟨⟨s_⟩⟩)), (1, .v (.int .i64 at_)), (7, .v (.int .i64 x6)), (8, .v (.int .i64 x7)), (9, .v (.int .i64 many)), (10, .v (.int .i64 x7)), (27, .v (.bool (decide (v9 < 0))))]) (by kernel_rfl)
        exact J17 (decide (v9 < 0)) h1  _ _ _ _ hX
    · have h1 := ite_ff h1 hb
      refine wp_exit ?_
      have hX := hX.keeps [7] (l' := [(7, .v (.int .i64 x6))]) (by kernel_rfl)
      exact E1x0 x6 (hx1 _ (out_eq h1)).symm  _ _ _ _ hX
  · exact ⟨_, _, hX⟩
def ref01_simple (c : Int) : Option (Int) :=
  if (c == 110) = true then
    some 10
  else
    if (c == 116) = true then
      some 9
    else
      if (c == 114) = true then
        some 13
      else
        if (c == 98) = true then
          some 8
        else
          if (c == 102) = true then
            some 12
          else
            if (c == 118) = true then
              some 11
            else
              if ((((((decide (c > 127)) || (c == 13)) || (c == 120)) || (c == 117)) || ((decide (c ≥ 48)) && (decide (c ≤ 57)))) || (c == 10)) = true then
                some (-1)
              else
                some (IntKind.wrap .i64 c)
theorem ref01_simple.ok (c : Int) (r : Int) (h0 : ref01_simple c = some r) (w0 : World) (F0 : Heap) (hv : F0.Sub w0) (hG : Glob F0) (hg : SV.goods F0 [.v (.int .u8 c)]) (ρ : Nat → Nat) :
    Calls Tryd.prog 47 (SV.dens ρ [.v (.int .u8 c)]).toArray w0 (Ret0 w0 F0 fun s => s = .v (.int .i64 r)) := by
  refine calls_of_wp Tryd.func47 rfl ?_
  have hX := Cx.enter (D := No) (B := []) (L := []) (ρ := ρ) (N := 44) Tryd.ntmps47 [.v (.int .u8 c)] (St.start hv) rfl hg (by kernel_rfl) (fun _ h => by cases h) (Nat.le_of_ble_eq_true rfl) No.unfix
  unfold ref01_simple at h0
  refine Cx.rseq hX [] [0] (l' := [(0, .v (.int .u8 c))]) (B' := []) (by kernel_rfl) fun ρ w a hX => ?_
  refine wp_seq_k fun K2 hK2 => ?_
  refine Cx.rseq hX [] [0, 3] (l' := [(0, .v (.int .u8 c)), (3, .v (.int .u8 c))]) (B' := []) (by kernel_rfl) fun ρ w a hX => ?_
  refine wp_block ?_
  refine Cx.rseq hX [] [0, 3, 4] (l' := [(0, .v (.int .u8 c)), (3, .v (.int .u8 c)), (4, .v (.bool (c == 110)))]) (B' := []) (by kernel_rfl) fun ρ w a hX => ?_
  refine Cx.cond hX (b := (c == 110)) (by kernel_rfl) (fun hb => ?_) (fun hb => ?_)
  · have h0 := ite_tt h0 hb
    refine Cx.rseq hX [] [2] (l' := [(2, .v (.int .i64 10))]) (B' := []) (by kernel_rfl) fun ρ w a hX => ?_
    refine wp_ret ?_
    have hr := Option.some.inj (show some _ = some _ from h0)
    subst hr
    exact hX.ret0 (ss := [.v (.int .i64 10)]) (by kernel_rfl) (by kernel_rfl) rfl
  · have h0 := ite_ff h0 hb
    refine Cx.rseq hX [] [0, 3, 6] (l' := [(0, .v (.int .u8 c)), (3, .v (.int .u8 c)), (6, .v (.bool (c == 116)))]) (B' := []) (by kernel_rfl) fun ρ w a hX => ?_
    refine Cx.cond hX (b := (c == 116)) (by kernel_rfl) (fun hb => ?_) (fun hb => ?_)
    · have h0 := ite_tt h0 hb
      refine Cx.rseq hX [] [2] (l' := [(2, .v (.int .i64 9))]) (B' := []) (by kernel_rfl) fun ρ w a hX => ?_
      refine wp_ret ?_
      have hr := Option.some.inj (show some _ = some _ from h0)
      subst hr
      exact hX.ret0 (ss := [.v (.int .i64 9)]) (by kernel_rfl) (by kernel_rfl) rfl
    · have h0 := ite_ff h0 hb
      refine Cx.rseq hX [] [0, 3, 8] (l' := [(0, .v (.int .u8 c)), (3, .v (.int .u8 c)), (8, .v (.bool (c == 114)))]) (B' := []) (by kernel_rfl) fun ρ w a hX => ?_
      refine Cx.cond hX (b := (c == 114)) (by kernel_rfl) (fun hb => ?_) (fun hb => ?_)
      · have h0 := ite_tt h0 hb
        refine Cx.rseq hX [] [2] (l' := [(2, .v (.int .i64 13))]) (B' := []) (by kernel_rfl) fun ρ w a hX => ?_
        refine wp_ret ?_
        have hr := Option.some.inj (show some _ = some _ from h0)
        subst hr
        exact hX.ret0 (ss := [.v (.int .i64 13)]) (by kernel_rfl) (by kernel_rfl) rfl
      · have h0 := ite_ff h0 hb
        refine Cx.rseq hX [] [0, 3, 10] (l' := [(0, .v (.int .u8 c)), (3, .v (.int .u8 c)), (10, .v (.bool (c == 98)))]) (B' := []) (by kernel_rfl) fun ρ w a hX => ?_
        refine Cx.cond hX (b := (c == 98)) (by kernel_rfl) (fun hb => ?_) (fun hb => ?_)
        · have h0 := ite_tt h0 hb
          refine Cx.rseq hX [] [2] (l' := [(2, .v (.int .i64 8))]) (B' := []) (by kernel_rfl) fun ρ w a hX => ?_
          refine wp_ret ?_
          have hr := Option.some.inj (show some _ = some _ from h0)
          subst hr
          exact hX.ret0 (ss := [.v (.int .i64 8)]) (by kernel_rfl) (by kernel_rfl) rfl
        · have h0 := ite_ff h0 hb
          refine Cx.rseq hX [] [0, 3, 12] (l' := [(0, .v (.int .u8 c)), (3, .v (.int .u8 c)), (12, .v (.bool (c == 102)))]) (B' := []) (by kernel_rfl) fun ρ w a hX => ?_
          refine Cx.cond hX (b := (c == 102)) (by kernel_rfl) (fun hb => ?_) (fun hb => ?_)
          · have h0 := ite_tt h0 hb
            refine Cx.rseq hX [] [2] (l' := [(2, .v (.int .i64 12))]) (B' := []) (by kernel_rfl) fun ρ w a hX => ?_
            refine wp_ret ?_
            have hr := Option.some.inj (show some _ = some _ from h0)
            subst hr
            exact hX.ret0 (ss := [.v (.int .i64 12)]) (by kernel_rfl) (by kernel_rfl) rfl
          · have h0 := ite_ff h0 hb
            refine Cx.rseq hX [] [0, 14] (l' := [(0, .v (.int .u8 c)), (14, .v (.bool (c == 118)))]) (B' := []) (by kernel_rfl) fun ρ w a hX => ?_
            refine Cx.cond hX (b := (c == 118)) (by kernel_rfl) (fun hb => ?_) (fun hb => ?_)
            · have h0 := ite_tt h0 hb
              refine Cx.rseq hX [] [2] (l' := [(2, .v (.int .i64 11))]) (B' := []) (by kernel_rfl) fun ρ w a hX => ?_
              refine wp_ret ?_
              have hr := Option.some.inj (show some _ = some _ from h0)
              subst hr
              exact hX.ret0 (ss := [.v (.int .i64 11)]) (by kernel_rfl) (by kernel_rfl) rfl
            · have h0 := ite_ff h0 hb
              refine wp_skip ?_
              refine hK2 _ _ ?_
              refine wp_seq_k fun K16 hK16 => ?_
              refine Cx.rseq hX [] [0, 41] (l' := [(0, .v (.int .u8 c)), (41, .v (.bool ((((((decide (c > 127)) || (c == 13)) || (c == 120)) || (c == 117)) || ((decide (c ≥ 48)) && (decide (c ≤ 57)))) || (c == 10))))]) (B' := []) (by kernel_rfl) fun ρ w a hX => ?_
              refine Cx.cond hX (b := ((((((decide (c > 127)) || (c == 13)) || (c == 120)) || (c == 117)) || ((decide (c ≥ 48)) && (decide (c ≤ 57)))) || (c == 10))) (by kernel_rfl) (fun hb => ?_) (fun hb => ?_)
              · have h0 := ite_tt h0 hb
                refine Cx.rseq hX [] [2] (l' := [(2, .v (.int .i64 (-1)))]) (B' := []) (by kernel_rfl) fun ρ w a hX => ?_
                refine wp_ret ?_
                have hr := Option.some.inj (show some _ = some _ from h0)
                subst hr
                exact hX.ret0 (ss := [.v (.int .i64 (-1))]) (by kernel_rfl) (by kernel_rfl) rfl
              · have h0 := ite_ff h0 hb
                refine wp_skip ?_
                refine hK16 _ _ ?_
                refine Cx.rseq hX [] [2] (l' := [(2, .v (.int .i64 (IntKind.wrap .i64 c)))]) (B' := []) (by kernel_rfl) fun ρ w a hX => ?_
                refine wp_ret ?_
                have hr := Option.some.inj (show some _ = some _ from h0)
                subst hr
                exact hX.ret0 (ss := [.v (.int .i64 (IntKind.wrap .i64 c))]) (by kernel_rfl) (by kernel_rfl) rfl
def ref01_escaped.j1 (x4 : Bool) : Option ((List Int) × Int) :=
  if x4 = true then
    some (([] : List Int), (-1))
  else
    some (([0] : List Int), 1)
def ref01_escaped (s_ : Str) (at_ : Int) : Option ((List Int) × Int) :=
  if (decide (at_ ≥ ((s_.length : Nat) : Int))) = true then
    some (([] : List Int), (-1))
  else
    Option.bind (getB s_ at_) fun v1 =>
    if (v1 == 10) = true then
      some (([] : List Int), 1)
    else
      if (v1 == 48) = true then
        if (decide ((IntKind.wrap .i64 (at_ + 1)) < ((s_.length : Nat) : Int))) = true then
          Option.bind (getB s_ (IntKind.wrap .i64 (at_ + 1))) fun v2 =>
          if (decide (v2 ≥ 48)) = true then
            Option.bind (getB s_ (IntKind.wrap .i64 (at_ + 1))) fun v3 =>
            ref01_escaped.j1 (decide (v3 ≤ 57))
          else
            ref01_escaped.j1 false
        else
          ref01_escaped.j1 false
      else
        if (v1 == 120) = true then
          Option.bind (ref01_digits s_ (IntKind.wrap .i64 (at_ + 1)) 2) fun v6 =>
          if (decide (v6 < 0)) = true then
            some (([] : List Int), (-1))
          else
            some (([v6] : List Int), 3)
        else
          if (v1 == 117) = true then
            Option.bind (ref01_digits s_ (IntKind.wrap .i64 (at_ + 1)) 4) fun v8 =>
            if (decide (v8 < 0)) = true then
              some (([] : List Int), (-1))
            else
              some (([v8] : List Int), 5)
          else
            Option.bind (getB s_ at_) fun v10 =>
            Option.bind (ref01_simple v10) fun v11 =>
            if (decide (v11 < 0)) = true then
              some (([] : List Int), (-1))
            else
              some (([v11] : List Int), 1)
theorem ref01_escaped.ok (s_ : Str) (at_ : Int) (r : (List Int) × Int) (h0 : ref01_escaped s_ at_ = some r) (w0 : World) (F0 : Heap) (hv : F0.Sub w0) (hG : Glob F0) (hg : SV.goods F0 [.v (.string ⟨⟨s_⟩⟩), .v (.int .i64 at_)]) (ρ : Nat → Nat) :
    Calls Tryd.prog 39 (SV.dens ρ [.v (.string ⟨⟨s_⟩⟩), .v (.int .i64 at_)]).toArray w0 (Ret0 w0 F0 fun s => ∃ s1 s2, s = .tup [s1, s2] ∧ (∃ A c, s1 = SV.sl (kInt .i64) r.1 A c) ∧ (s2 = .v (.int .i64 r.2))) := by
  refine calls_of_wp Tryd.func39 rfl ?_
  have hX := Cx.enter (D := No) (B := []) (L := []) (ρ := ρ) (N := 68) Tryd.ntmps39 [.v (.string ⟨⟨s_⟩⟩), .v (.int .i64 at_)] (St.start hv) rfl hg (by kernel_rfl) (fun _ h => by cases h) (Nat.le_of_ble_eq_true rfl) No.unfix
  unfold ref01_escaped at h0
  refine Cx.rseq hX [] [0, 1] (l' := [(0, .v (.string ⟨⟨s_⟩⟩)), (1, .v (.int .i64 at_))]) (B' := []) (by kernel_rfl) fun ρ w a hX => ?_
  refine wp_seq_k fun K2 hK2 => ?_
  refine Cx.rseq hX [] [0, 1, 12] (l' := [(0, .v (.string ⟨⟨s_⟩⟩)), (1, .v (.int .i64 at_)), (12, .v (.bool (decide (at_ ≥ ((s_.length : Nat) : Int)))))]) (B' := []) (by kernel_rfl) fun ρ w a hX => ?_
  refine Cx.cond hX (b := (decide (at_ ≥ ((s_.length : Nat) : Int)))) (by kernel_rfl) (fun hb => ?_) (fun hb => ?_)
  · have h0 := ite_tt h0 hb
    refine Cx.rseq hX [] [4, 5] (l' := [(4, .v (.slice none 0 0)), (5, .v (.int .i64 (-1)))]) (B' := []) (by kernel_rfl) fun ρ w a hX => ?_
    refine wp_ret ?_
    have hX := hX.nilSl 4 (kInt .i64) (by kernel_rfl)
    have hr := Option.some.inj (show some _ = some _ from h0)
    subst hr
    exact hX.ret0 (ss := [SV.sl (kInt .i64) ([] : List Int) none 0, .v (.int .i64 (-1))]) (by kernel_rfl) (by kernel_rfl) ⟨_, _, rfl, ⟨_, _, rfl⟩, rfl⟩
  · have h0 := ite_ff h0 hb
    refine wp_skip ?_
    refine hK2 _ _ ?_
    refine wp_seq_k fun K5 hK5 => ?_
    refine wp_seq_k fun K6 hK6 => ?_
    refine wp_region_list ?_
    refine hX.part [] 2 [0, 1, 13, 14] (l' := [(0, .v (.string ⟨⟨s_⟩⟩)), (1, .v (.int .i64 at_)), (13, .v (.string ⟨⟨s_⟩⟩)), (14, .v (.int .i64 at_))]) (B' := []) (by kernel_rfl) fun ρ w a hX => ?_
    obtain ⟨v1, hv1, h0⟩ := bnd_some h0
    refine hX.idxStr (lit := []) (by kernel_rfl) (by kernel_rfl) rfl (s := s_) (k := .i64) (n := at_) (b := v1) (by kernel_rfl) (by kernel_rfl) (by kernel_rfl) hv1 fun a hX => ?_
    refine hX.part [] 0 [0, 1, 15] (l' := [(0, .v (.string ⟨⟨s_⟩⟩)), (1, .v (.int .i64 at_)), (15, .v (.int .u8 v1))]) (B' := []) (by kernel_rfl) fun ρ w a hX => ?_
    refine wpList_end ?_
    refine hK6 _ _ ?_
    refine wp_block ?_
    refine Cx.rseq hX [] [0, 1, 15, 16] (l' := [(0, .v (.string ⟨⟨s_⟩⟩)), (1, .v (.int .i64 at_)), (15, .v (.int .u8 v1)), (16, .v (.bool (v1 == 10)))]) (B' := []) (by kernel_rfl) fun ρ w a hX => ?_
    refine Cx.cond hX (b := (v1 == 10)) (by kernel_rfl) (fun hb => ?_) (fun hb => ?_)
    · have h0 := ite_tt h0 hb
      refine Cx.rseq hX [] [4, 5] (l' := [(4, .v (.slice none 0 0)), (5, .v (.int .i64 1))]) (B' := []) (by kernel_rfl) fun ρ w a hX => ?_
      refine wp_ret ?_
      have hX := hX.nilSl 4 (kInt .i64) (by kernel_rfl)
      have hr := Option.some.inj (show some _ = some _ from h0)
      subst hr
      exact hX.ret0 (ss := [SV.sl (kInt .i64) ([] : List Int) none 0, .v (.int .i64 1)]) (by kernel_rfl) (by kernel_rfl) ⟨_, _, rfl, ⟨_, _, rfl⟩, rfl⟩
    · have h0 := ite_ff h0 hb
      refine Cx.rseq hX [] [0, 1, 15, 18] (l' := [(0, .v (.string ⟨⟨s_⟩⟩)), (1, .v (.int .i64 at_)), (15, .v (.int .u8 v1)), (18, .v (.bool (v1 == 48)))]) (B' := []) (by kernel_rfl) fun ρ w a hX => ?_
      refine Cx.cond hX (b := (v1 == 48)) (by kernel_rfl) (fun hb => ?_) (fun hb => ?_)
      · have h0 := ite_tt h0 hb
        refine wp_seq_k fun K10 hK10 => ?_
        refine wp_seq_k fun K11 hK11 => ?_
        have J11 : ∀ (x4 : Bool), ref01_escaped.j1 x4 = some r → ∀ (ρ : Nat → Nat) (w : World) (F : Heap) (a : Act), Cx 68 w0 F0 No w F [] [] ρ [(38, .v (.bool x4))] a → K11 a w := by
          intro x4 h0  ρ w F a hX
          unfold ref01_escaped.j1 at h0
          refine hK11 _ _ ?_
          refine Cx.cond hX (b := x4) (by kernel_rfl) (fun hb => ?_) (fun hb => ?_)
          · have h0 := ite_tt h0 hb
            refine Cx.rseq hX [] [4, 5] (l' := [(4, .v (.slice none 0 0)), (5, .v (.int .i64 (-1)))]) (B' := []) (by kernel_rfl) fun ρ w a hX => ?_
            refine wp_ret ?_
            have hX := hX.nilSl 4 (kInt .i64) (by kernel_rfl)
            have hr := Option.some.inj (show some _ = some _ from h0)
            subst hr
            exact hX.ret0 (ss := [SV.sl (kInt .i64) ([] : List Int) none 0, .v (.int .i64 (-1))]) (by kernel_rfl) (by kernel_rfl) ⟨_, _, rfl, ⟨_, _, rfl⟩, rfl⟩
          · have h0 := ite_ff h0 hb
            refine wp_skip ?_
            refine hK10 _ _ ?_
            refine Cx.rseq hX [] [4, 5] (l' := [(4, .slc 0 0 1 1), (5, .v (.int .i64 1))]) (B' := [some ⟨3, [.v (.int .i64 0)]⟩]) (by kernel_rfl) fun ρ w a hX => ?_
            refine wp_ret ?_
            obtain ⟨b5, hb, hX⟩ := hX.boxAcc2 (d := (kInt .i64)) (e := 3) (k := 0) (t := 4) (m := 1) ([(0, ())] : List (Int × ((kInt .i64)).Y)) (by kernel_rfl) (by kernel_rfl) rfl rfl (by decide) ⟨_, rfl⟩
            have hX : Cx 68 _ _ _ _ _ [accP 3 (kInt .i64) (some ⟨b5, 0, none⟩) 1 ([0] : List Int)] [none] ρ _ a := hX
            obtain ⟨F, hX⟩ := hX.freeze (i := 0) (t := 4) (e := 3) (d := (kInt .i64)) (A := (some ⟨b5, 0, none⟩)) (c := 1) (xs := ([0] : List Int)) rfl (by kernel_rfl)
            have hX : Cx 68 _ _ _ _ _ [] [none] ρ _ a := hX
            have hr := Option.some.inj (show some _ = some _ from h0)
            subst hr
            exact hX.ret0 (ss := [SV.sl (kInt .i64) ([0] : List Int) (some ⟨b5, 0, none⟩) 1, .v (.int .i64 1)]) (by kernel_rfl) (by kernel_rfl) ⟨_, _, rfl, ⟨_, _, rfl⟩, rfl⟩
        refine wp_region_list ?_
        refine hX.part [] 6 [0, 1, 25] (l' := [(0, .v (.string ⟨⟨s_⟩⟩)), (1, .v (.int .i64 at_)), (25, .v (.bool (decide ((IntKind.wrap .i64 (at_ + 1)) < ((s_.length : Nat) : Int)))))]) (B' := []) (by kernel_rfl) fun ρ w a hX => ?_
        refine ite_go h0 (fun hb h0 => ?_) (fun hb h0 => ?_)
        · have hX := hX.relit 25 hb (by kernel_rfl)
          refine hX.part [5] 3 [0, 1, 25, 26, 28] (l' := [(0, .v (.string ⟨⟨s_⟩⟩)), (1, .v (.int .i64 at_)), (25, .v (.bool true)), (26, .v (.string ⟨⟨s_⟩⟩)), (28, .v (.int .i64 (IntKind.wrap .i64 (at_ + 1))))]) (B' := []) (by kernel_rfl) fun ρ w a hX => ?_
          obtain ⟨v2, hv2, h0⟩ := bnd_some h0
          refine hX.idxStr (lit := [5]) (by kernel_rfl) (by kernel_rfl) rfl (s := s_) (k := .i64) (n := (IntKind.wrap .i64 (at_ + 1))) (b := v2) (by kernel_rfl) (by kernel_rfl) (by kernel_rfl) hv2 fun a hX => ?_
          refine hX.part [5] 3 [0, 1, 32] (l' := [(0, .v (.string ⟨⟨s_⟩⟩)), (1, .v (.int .i64 at_)), (32, .v (.bool (decide (v2 ≥ 48))))]) (B' := []) (by kernel_rfl) fun ρ w a hX => ?_
          refine ite_go h0 (fun hb h0 => ?_) (fun hb h0 => ?_)
          · have hX := hX.relit 32 hb (by kernel_rfl)
            refine hX.part [12] 3 [32, 33, 35] (l' := [(32, .v (.bool true)), (33, .v (.string ⟨⟨s_⟩⟩)), (35, .v (.int .i64 (IntKind.wrap .i64 (at_ + 1))))]) (B' := []) (by kernel_rfl) fun ρ w a hX => ?_
            obtain ⟨v3, hv3, h0⟩ := bnd_some h0
            refine hX.idxStr (lit := [12]) (by kernel_rfl) (by kernel_rfl) rfl (s := s_) (k := .i64) (n := (IntKind.wrap .i64 (at_ + 1))) (b := v3) (by kernel_rfl) (by kernel_rfl) (by kernel_rfl) hv3 fun a hX => ?_
            refine hX.part [12] 2 [38] (l' := [(38, .v (.bool (decide (v3 ≤ 57))))]) (B' := []) (by kernel_rfl) fun ρ w a hX => ?_
            refine wpList_end ?_
            have hX := hX.keeps [38] (l' := [(38, .v (.bool (decide (v3 ≤ 57))))]) (by kernel_rfl)
            exact J11 (decide (v3 ≤ 57)) h0  _ _ _ _ hX
          · have hX := hX.relit 32 hb (by kernel_rfl)
            refine hX.part [12] 6 [38] (l' := [(38, .v (.bool false))]) (B' := []) (by kernel_rfl) fun ρ w a hX => ?_
            refine wpList_end ?_
            have hX := hX.keeps [38] (l' := [(38, .v (.bool false))]) (by kernel_rfl)
            exact J11 false h0  _ _ _ _ hX
        · have hX := hX.relit 25 hb (by kernel_rfl)
          refine hX.part [5, 12] 13 [38] (l' := [(38, .v (.bool false))]) (B' := []) (by kernel_rfl) fun ρ w a hX => ?_
          refine wpList_end ?_
          have hX := hX.keeps [38] (l' := [(38, .v (.bool false))]) (by kernel_rfl)
          exact J11 false h0  _ _ _ _ hX
      · have h0 := ite_ff h0 hb
        refine Cx.rseq hX [] [0, 1, 15, 40] (l' := [(0, .v (.string ⟨⟨s_⟩⟩)), (1, .v (.int .i64 at_)), (15, .v (.int .u8 v1)), (40, .v (.bool (v1 == 120)))]) (B' := []) (by kernel_rfl) fun ρ w a hX => ?_
        refine Cx.cond hX (b := (v1 == 120)) (by kernel_rfl) (fun hb => ?_) (fun hb => ?_)
        · have h0 := ite_tt h0 hb
          refine wp_seq_k fun K15 hK15 => ?_
          refine wp_region_list ?_
          refine hX.part [] 3 [42, 44] (l' := [(42, .v (.string ⟨⟨s_⟩⟩)), (44, .v (.int .i64 (IntKind.wrap .i64 (at_ + 1))))]) (B' := []) (by kernel_rfl) fun ρ w a hX => ?_
          obtain ⟨v6, hv6, h0⟩ := bnd_some h0
          refine Cx.call0 hX (lit := []) (by kernel_rfl) rfl (by kernel_rfl) ⟨⟨_, Tryd.func46, by kernel_rfl, rfl⟩⟩ (ss := [.v (.string ⟨⟨s_⟩⟩), .v (.int .i64 (IntKind.wrap .i64 (at_ + 1))), .v (.int .i64 2)]) (by kernel_rfl) [.v (.string ⟨⟨s_⟩⟩), .v (.int .i64 (IntKind.wrap .i64 (at_ + 1))), .v (.int .i64 2)] rfl (fun hg => hg) (fun hv hle hg => ref01_digits.ok s_ (IntKind.wrap .i64 (at_ + 1)) 2 v6 hv6 _ _ hv (hG.mono hle) hg _) (fun s F w a hp hX => ?_)
          subst hp
          refine hX.part [] 1 [6] (l' := [(6, .v (.int .i64 v6))]) (B' := []) (by kernel_rfl) fun ρ w a hX => ?_
          refine wpList_end ?_
          refine hK15 _ _ ?_
          refine wp_seq_k fun K16 hK16 => ?_
          refine Cx.rseq hX [] [6, 47] (l' := [(6, .v (.int .i64 v6)), (47, .v (.bool (decide (v6 < 0))))]) (B' := []) (by kernel_rfl) fun ρ w a hX => ?_
          refine Cx.cond hX (b := (decide (v6 < 0))) (by kernel_rfl) (fun hb => ?_) (fun hb => ?_)
          · have h0 := ite_tt h0 hb
            refine Cx.rseq hX [] [4, 5] (l' := [(4, .v (.slice none 0 0)), (5, .v (.int .i64 (-1)))]) (B' := []) (by kernel_rfl) fun ρ w a hX => ?_
            refine wp_ret ?_
            have hX := hX.nilSl 4 (kInt .i64) (by kernel_rfl)
            have hr := Option.some.inj (show some _ = some _ from h0)
            subst hr
            exact hX.ret0 (ss := [SV.sl (kInt .i64) ([] : List Int) none 0, .v (.int .i64 (-1))]) (by kernel_rfl) (by kernel_rfl) ⟨_, _, rfl, ⟨_, _, rfl⟩, rfl⟩
          · have h0 := ite_ff h0 hb
            refine wp_skip ?_
            refine hK16 _ _ ?_
            refine Cx.rseq hX [] [4, 5] (l' := [(4, .slc 0 0 1 1), (5, .v (.int .i64 3))]) (B' := [some ⟨3, [.v (.int .i64 v6)]⟩]) (by kernel_rfl) fun ρ w a hX => ?_
            refine wp_ret ?_
            obtain ⟨b7, hb, hX⟩ := hX.boxAcc2 (d := (kInt .i64)) (e := 3) (k := 0) (t := 4) (m := 1) ([(v6, ())] : List (Int × ((kInt .i64)).Y)) (by kernel_rfl) (by kernel_rfl) rfl rfl (by decide) ⟨_, rfl⟩
            have hX : Cx 68 _ _ _ _ _ [accP 3 (kInt .i64) (some ⟨b7, 0, none⟩) 1 ([v6] : List Int)] [none] ρ _ a := hX
            obtain ⟨F, hX⟩ := hX.freeze (i := 0) (t := 4) (e := 3) (d := (kInt .i64)) (A := (some ⟨b7, 0, none⟩)) (c := 1) (xs := ([v6] : List Int)) rfl (by kernel_rfl)
            have hX : Cx 68 _ _ _ _ _ [] [none] ρ _ a := hX
            have hr := Option.some.inj (show some _ = some _ from h0)
            subst hr
            exact hX.ret0 (ss := [SV.sl (kInt .i64) ([v6] : List Int) (some ⟨b7, 0, none⟩) 1, .v (.int .i64 3)]) (by kernel_rfl) (by kernel_rfl) ⟨_, _, rfl, ⟨_, _, rfl⟩, rfl⟩
        · have h0 := ite_ff h0 hb
          refine Cx.rseq hX [] [0, 1, 50] (l' := [(0, .v (.string ⟨⟨s_⟩⟩)), (1, .v (.int .i64 at_)), (50, .v (.bool (v1 == 117)))]) (B' := []) (by kernel_rfl) fun ρ w a hX => ?_
          refine Cx.cond hX (b := (v1 == 117)) (by kernel_rfl) (fun hb => ?_) (fun hb => ?_)
          · have h0 := ite_tt h0 hb
            refine wp_seq_k fun K21 hK21 => ?_
            refine wp_region_list ?_
            refine hX.part [] 3 [52, 54] (l' := [(52, .v (.string ⟨⟨s_⟩⟩)), (54, .v (.int .i64 (IntKind.wrap .i64 (at_ + 1))))]) (B' := []) (by kernel_rfl) fun ρ w a hX => ?_
            obtain ⟨v8, hv8, h0⟩ := bnd_some h0
            refine Cx.call0 hX (lit := []) (by kernel_rfl) rfl (by kernel_rfl) ⟨⟨_, Tryd.func46, by kernel_rfl, rfl⟩⟩ (ss := [.v (.string ⟨⟨s_⟩⟩), .v (.int .i64 (IntKind.wrap .i64 (at_ + 1))), .v (.int .i64 4)]) (by kernel_rfl) [.v (.string ⟨⟨s_⟩⟩), .v (.int .i64 (IntKind.wrap .i64 (at_ + 1))), .v (.int .i64 4)] rfl (fun hg => hg) (fun hv hle hg => ref01_digits.ok s_ (IntKind.wrap .i64 (at_ + 1)) 4 v8 hv8 _ _ hv (hG.mono hle) hg _) (fun s F w a hp hX => ?_)
            subst hp
            refine hX.part [] 1 [7] (l' := [(7, .v (.int .i64 v8))]) (B' := []) (by kernel_rfl) fun ρ w a hX => ?_
            refine wpList_end ?_
            refine hK21 _ _ ?_
            refine wp_seq_k fun K22 hK22 => ?_
            refine Cx.rseq hX [] [7, 57] (l' := [(7, .v (.int .i64 v8)), (57, .v (.bool (decide (v8 < 0))))]) (B' := []) (by kernel_rfl) fun ρ w a hX => ?_
            refine Cx.cond hX (b := (decide (v8 < 0))) (by kernel_rfl) (fun hb => ?_) (fun hb => ?_)
            · have h0 := ite_tt h0 hb
              refine Cx.rseq hX [] [4, 5] (l' := [(4, .v (.slice none 0 0)), (5, .v (.int .i64 (-1)))]) (B' := []) (by kernel_rfl) fun ρ w a hX => ?_
              refine wp_ret ?_
              have hX := hX.nilSl 4 (kInt .i64) (by kernel_rfl)
              have hr := Option.some.inj (show some _ = some _ from h0)
              subst hr
              exact hX.ret0 (ss := [SV.sl (kInt .i64) ([] : List Int) none 0, .v (.int .i64 (-1))]) (by kernel_rfl) (by kernel_rfl) ⟨_, _, rfl, ⟨_, _, rfl⟩, rfl⟩
            · have h0 := ite_ff h0 hb
              refine wp_skip ?_
              refine hK22 _ _ ?_
              refine Cx.rseq hX [] [4, 5] (l' := [(4, .slc 0 0 1 1), (5, .v (.int .i64 5))]) (B' := [some ⟨3, [.v (.int .i64 v8)]⟩]) (by kernel_rfl) fun ρ w a hX => ?_
              refine wp_ret ?_
              obtain ⟨b9, hb, hX⟩ := hX.boxAcc2 (d := (kInt .i64)) (e := 3) (k := 0) (t := 4) (m := 1) ([(v8, ())] : List (Int × ((kInt .i64)).Y)) (by kernel_rfl) (by kernel_rfl) rfl rfl (by decide) ⟨_, rfl⟩
              have hX : Cx 68 _ _ _ _ _ [accP 3 (kInt .i64) (some ⟨b9, 0, none⟩) 1 ([v8] : List Int)] [none] ρ _ a := hX
              obtain ⟨F, hX⟩ := hX.freeze (i := 0) (t := 4) (e := 3) (d := (kInt .i64)) (A := (some ⟨b9, 0, none⟩)) (c := 1) (xs := ([v8] : List Int)) rfl (by kernel_rfl)
              have hX : Cx 68 _ _ _ _ _ [] [none] ρ _ a := hX
              have hr := Option.some.inj (show some _ = some _ from h0)
              subst hr
              exact hX.ret0 (ss := [SV.sl (kInt .i64) ([v8] : List Int) (some ⟨b9, 0, none⟩) 1, .v (.int .i64 5)]) (by kernel_rfl) (by kernel_rfl) ⟨_, _, rfl, ⟨_, _, rfl⟩, rfl⟩
          · have h0 := ite_ff h0 hb
            refine wp_skip ?_
            refine hK5 _ _ ?_
            refine wp_seq_k fun K26 hK26 => ?_
            refine wp_region_list ?_
            refine hX.part [] 2 [60, 61] (l' := [(60, .v (.string ⟨⟨s_⟩⟩)), (61, .v (.int .i64 at_))]) (B' := []) (by kernel_rfl) fun ρ w a hX => ?_
            obtain ⟨v10, hv10, h0⟩ := bnd_some h0
            refine hX.idxStr (lit := []) (by kernel_rfl) (by kernel_rfl) rfl (s := s_) (k := .i64) (n := at_) (b := v10) (by kernel_rfl) (by kernel_rfl) (by kernel_rfl) hv10 fun a hX => ?_
            refine hX.part [] 0 [62] (l' := [(62, .v (.int .u8 v10))]) (B' := []) (by kernel_rfl) fun ρ w a hX => ?_
            obtain ⟨v11, hv11, h0⟩ := bnd_some h0
            refine Cx.call0 hX (lit := []) (by kernel_rfl) rfl (by kernel_rfl) ⟨⟨_, Tryd.func47, by kernel_rfl, rfl⟩⟩ (ss := [.v (.int .u8 v10)]) (by kernel_rfl) [.v (.int .u8 v10)] rfl (fun hg => hg) (fun hv hle hg => ref01_simple.ok v10 v11 hv11 _ _ hv (hG.mono hle) hg _) (fun s F w a hp hX => ?_)
            subst hp
            refine hX.part [] 1 [8] (l' := [(8, .v (.int .i64 v11))]) (B' := []) (by kernel_rfl) fun ρ w a hX => ?_
            refine wpList_end ?_
            refine hK26 _ _ ?_
            refine wp_seq_k fun K27 hK27 => ?_
            refine Cx.rseq hX [] [8, 65] (l' := [(8, .v (.int .i64 v11)), (65, .v (.bool (decide (v11 < 0))))]) (B' := []) (by kernel_rfl) fun ρ w a hX => ?_
            refine Cx.cond hX (b := (decide (v11 < 0))) (by kernel_rfl) (fun hb => ?_) (fun hb => ?_)
            · have h0 := ite_tt h0 hb
              refine Cx.rseq hX [] [4, 5] (l' := [(4, .v (.slice none 0 0)), (5, .v (.int .i64 (-1)))]) (B' := []) (by kernel_rfl) fun ρ w a hX => ?_
              refine wp_ret ?_
              have hX := hX.nilSl 4 (kInt .i64) (by kernel_rfl)
              have hr := Option.some.inj (show some _ = some _ from h0)
              subst hr
              exact hX.ret0 (ss := [SV.sl (kInt .i64) ([] : List Int) none 0, .v (.int .i64 (-1))]) (by kernel_rfl) (by kernel_rfl) ⟨_, _, rfl, ⟨_, _, rfl⟩, rfl⟩
            · have h0 := ite_ff h0 hb
              refine wp_skip ?_
              refine hK27 _ _ ?_
              refine Cx.rseq hX [] [4, 5] (l' := [(4, .slc 0 0 1 1), (5, .v (.int .i64 1))]) (B' := [some ⟨3, [.v (.int .i64 v11)]⟩]) (by kernel_rfl) fun ρ w a hX => ?_
              refine wp_ret ?_
              obtain ⟨b12, hb, hX⟩ := hX.boxAcc2 (d := (kInt .i64)) (e := 3) (k := 0) (t := 4) (m := 1) ([(v11, ())] : List (Int × ((kInt .i64)).Y)) (by kernel_rfl) (by kernel_rfl) rfl rfl (by decide) ⟨_, rfl⟩
              have hX : Cx 68 _ _ _ _ _ [accP 3 (kInt .i64) (some ⟨b12, 0, none⟩) 1 ([v11] : List Int)] [none] ρ _ a := hX
              obtain ⟨F, hX⟩ := hX.freeze (i := 0) (t := 4) (e := 3) (d := (kInt .i64)) (A := (some ⟨b12, 0, none⟩)) (c := 1) (xs := ([v11] : List Int)) rfl (by kernel_rfl)
              have hX : Cx 68 _ _ _ _ _ [] [none] ρ _ a := hX
              have hr := Option.some.inj (show some _ = some _ from h0)
              subst hr
              exact hX.ret0 (ss := [SV.sl (kInt .i64) ([v11] : List Int) (some ⟨b12, 0, none⟩) 1, .v (.int .i64 1)]) (by kernel_rfl) (by kernel_rfl) ⟨_, _, rfl, ⟨_, _, rfl⟩, rfl⟩
end
end Go.Gw
