/- Texts for the statements of this seat. -/
import Derived.Test.YtnggnpppaaiflaaDoorGwQ
import Derived.Test.YtnggnpppaaiflaaDoorShelf01
import Derived.Shelf.Strings.SlTrimAscii
import Derived.Test.YtnggnpppaaiflaaDoorProg
import Derived.KernelRfl
set_option linter.unusedVariables false
set_option linter.unusedSimpArgs false
set_option linter.unnecessarySimpa false
namespace Go.Gw
open Go.Proofs Go.RowKit
set_option maxRecDepth 100000
set_option linter.unusedVariables false
set_option linter.unusedSimpArgs false
noncomputable section
structure Glob (F : Heap) : Prop where
  maxLen : ∃ m, cellF F 0 0 (.int .i64 m)
  g3_15 : cellF F 3 15 (.int .u8 4)
theorem Glob.mono {F F' : Heap} (h : Glob F) (hle : F.Le F') : Glob F' := ⟨h.maxLen.imp fun _ e => cellF_mono hle e, cellF_mono hle h.g3_15⟩


structure T_units_reader where
  s : Str
  out : Str
def own_units_reader (x : T_units_reader) (b : Nat) : SP := ownP (Y := (Bool × Option Addr × Nat)) (fun b y => [.v (.string ⟨⟨x.s⟩⟩), .v (.pointer (if y.1 = true then some ⟨b, 1, none⟩ else none)), .v (.slice y.2.1 x.out.length y.2.2)]) (fun y => [accP 5 kByte y.2.1 y.2.2 x.out]) 52 b
def own_units_reader_d (x : T_units_reader) (b : Nat) : SP := ownP (Y := (Bool × Option Addr × Nat)) (fun b y => [.v (.string ⟨⟨x.s⟩⟩), .v (.pointer (if y.1 = true then some ⟨b, 1, none⟩ else none)), .v (.slice y.2.1 x.out.length y.2.2)]) (fun y => []) 52 b
def units_Of.l1 (s_ : Str) (s : Int × (List UInt8)) : Option ((Int × (List UInt8)) ⊕ (((List UInt8)) ⊕ (Str × Int))) := match s with
  | (x8, x9) =>
  if (decide (x8 < ((s_.length : Nat) : Int))) = true then
    Option.bind (getB s_ x8) fun v10 =>
    if (decide (v10 ≥ 128)) = true then
      some (.inr (.inr (([] : Str), 10)))
    else
      Option.bind (getB s_ x8) fun v11 =>
      Option.bind (getI x9 (IntKind.wrap .i64 ((IntKind.wrap .i64 (2 * x8)) + 1))) fun v12 =>
      Option.bind (toB v11) fun b14 =>
      some (.inl ((IntKind.wrap .i64 (x8 + 1)), (setI x9 (IntKind.wrap .i64 ((IntKind.wrap .i64 (2 * x8)) + 1)) b14)))
  else
    some (.inr (.inl x9))
def units_Of (s_ : Str) : Option (Str × Int) :=
  Option.bind (mkL (0 : UInt8) (IntKind.wrap .i64 (2 * ((s_.length : Nat) : Int)))) fun x1 =>
  Option.bind (loopM (units_Of.l1 s_) (0, x1)) fun e => match e with
  | (.inl x17) =>
    some (x17, 0)
  | (.inr r18) =>
    some r18
theorem units_Of.ok (s_ : Str) (r : Str × Int) (h0 : units_Of s_ = some r) (w0 : World) (F0 : Heap) (hv : F0.Sub w0) (hG : Glob F0) (hg : SV.goods F0 [.v (.string ⟨⟨s_⟩⟩)]) (ρ : Nat → Nat) :
    Calls Tryd.prog 12 (SV.dens ρ [.v (.string ⟨⟨s_⟩⟩)]).toArray w0 (Ret0 w0 F0 fun s => ∃ s1 s2, s = .tup [s1, s2] ∧ (s1 = .v (.string ⟨⟨r.1⟩⟩)) ∧ (s2 = .v (.int .i64 r.2))) := by
  refine calls_of_wp Tryd.func12 rfl ?_
  have hX := Cx.enter (D := No) (B := []) (L := []) (ρ := ρ) (N := 30) Tryd.ntmps12 [.v (.string ⟨⟨s_⟩⟩)] (St.start hv) rfl hg (by kernel_rfl) (fun _ h => by cases h) (Nat.le_of_ble_eq_true rfl) No.unfix
  unfold units_Of at h0
  refine Cx.rseq hX [] [0] (l' := [(0, .v (.string ⟨⟨s_⟩⟩))]) (B' := []) (by kernel_rfl) fun ρ w a hX => ?_
  refine wp_seq_k fun K2 hK2 => ?_
  refine wp_region_list ?_
  refine hX.part [] 3 [0, 8] (l' := [(0, .v (.string ⟨⟨s_⟩⟩)), (8, .v (.int .i64 (IntKind.wrap .i64 (2 * ((s_.length : Nat) : Int)))))]) (B' := []) (by kernel_rfl) fun ρ w a hX => ?_
  obtain ⟨x1, hx1, h0⟩ := bnd_some h0
  refine hX.makeAcc (d := kByte) (e := 5) (k := .i64) (k' := .i64) (n := (IntKind.wrap .i64 (2 * ((s_.length : Nat) : Int)))) (bytes := 1) (xs := x1) (0 : UInt8) () (lit := []) (by kernel_rfl) (by kernel_rfl) rfl (by kernel_rfl) (by kernel_rfl) (by kernel_rfl) (by decide) rfl (fun F => ⟨trivial, trivial⟩) (by kernel_rfl) (by kernel_rfl) hx1 fun b2 w a hX => ?_
  have hX : Cx 30 _ _ _ _ _ [accP 5 kByte (some ⟨b2, 0, none⟩) ((IntKind.wrap .i64 (2 * ((s_.length : Nat) : Int))).toNat) x1] [] ρ _ _ := hX
  refine hX.part [] 1 [0, 4] (l' := [(0, .v (.string ⟨⟨s_⟩⟩)), (4, .v (.slice (some ⟨b2, 0, none⟩) x1.length ((IntKind.wrap .i64 (2 * ((s_.length : Nat) : Int))).toNat)))]) (B' := []) (by kernel_rfl) fun ρ w a hX => ?_
  refine wpList_end ?_
  refine hK2 _ _ ?_
  refine wp_seq_k fun K3 hK3 => ?_
  refine Cx.rseq hX [] [0, 4, 11, 12] (l' := [(0, .v (.string ⟨⟨s_⟩⟩)), (4, .v (.slice (some ⟨b2, 0, none⟩) x1.length ((IntKind.wrap .i64 (2 * ((s_.length : Nat) : Int))).toNat))), (11, .v (.int .i64 ((s_.length : Nat) : Int))), (12, .v (.int .i64 0))]) (B' := []) (by kernel_rfl) fun ρ w a hX => ?_
  refine wp_block ?_
  have hX := hX.keeps [0, 4, 11, 12] (l' := [(0, .v (.string ⟨⟨s_⟩⟩)), (4, .v (.slice (some ⟨b2, 0, none⟩) x1.length ((IntKind.wrap .i64 (2 * ((s_.length : Nat) : Int))).toNat))), (11, .v (.int .i64 ((s_.length : Nat) : Int))), (12, .v (.int .i64 0))]) (by kernel_rfl)
  obtain ⟨e1, he1, h0⟩ := bnd_some h0
  have E1x0 : ∀ (x17 : List UInt8), e1 = (.inl x17) → ∀ (ρ : Nat → Nat) (w : World) (F : Heap) (a : Act), Cx 30 w0 F0 No w F [accP 5 kByte (some ⟨b2, 0, none⟩) ((IntKind.wrap .i64 (2 * ((s_.length : Nat) : Int))).toNat) x17] [] ρ [(4, .v (.slice (some ⟨b2, 0, none⟩) x17.length ((IntKind.wrap .i64 (2 * ((s_.length : Nat) : Int))).toNat)))] a → K3 a w := by
    intro x17 he  ρ w F a hX
    replace he := he.symm
    subst he
    (try dsimp only at h0)
    refine hK3 _ _ ?_
    refine wp_seq_k fun K19 hK19 => ?_
    refine wp_region_list ?_
    refine hX.part [] 1 [28] (l' := [(28, .v (.slice (some ⟨b2, 0, none⟩) x17.length ((IntKind.wrap .i64 (2 * ((s_.length : Nat) : Int))).toNat)))]) (B' := []) (by kernel_rfl) fun ρ w a hX => ?_
    refine hX.strAcc (lit := []) (i := 0) (e := 5) (e2 := 5) (xs := x17) (A := (some ⟨b2, 0, none⟩)) (c := (IntKind.wrap .i64 (2 * ((s_.length : Nat) : Int))).toNat) (by kernel_rfl) (by kernel_rfl) rfl rfl (by kernel_rfl) (by kernel_rfl) (by kernel_rfl) (by kernel_rfl) fun a hX => ?_
    refine hX.part [] 2 [2, 3] (l' := [(2, .v (.string ⟨⟨x17⟩⟩)), (3, .v (.int .i64 0))]) (B' := []) (by kernel_rfl) fun ρ w a hX => ?_
    refine wpList_end ?_
    refine hK19 _ _ ?_
    refine wp_ret ?_
    have hr := Option.some.inj (show some _ = some _ from h0)
    subst hr
    exact hX.ret0 (ss := [.v (.string ⟨⟨x17⟩⟩), .v (.int .i64 0)]) (by kernel_rfl) (by kernel_rfl) ⟨_, _, rfl, rfl, rfl⟩
  refine loop_go (fun (s : Int × (List UInt8)) a w => match s with | (x8, x9) => ∃ (ρ : Nat → Nat) (F : Heap), Cx 30 w0 F0 No w F [accP 5 kByte (some ⟨b2, 0, none⟩) ((IntKind.wrap .i64 (2 * ((s_.length : Nat) : Int))).toNat) x9] [] ρ [(0, .v (.string ⟨⟨s_⟩⟩)), (4, .v (.slice (some ⟨b2, 0, none⟩) x9.length ((IntKind.wrap .i64 (2 * ((s_.length : Nat) : Int))).toNat))), (11, .v (.int .i64 ((s_.length : Nat) : Int))), (12, .v (.int .i64 x8))] a) he1 (fun LW1 s o1 h1 hb1 hx1 a w hI => ?_) _ _ ?_
  · obtain ⟨x8, x9⟩ := s
    obtain ⟨ρ, F, hX⟩ := hI
    unfold units_Of.l1 at h1
    (try dsimp only at h1)
    refine Cx.rseq hX [] [0, 4, 11, 12, 13] (l' := [(0, .v (.string ⟨⟨s_⟩⟩)), (4, .v (.slice (some ⟨b2, 0, none⟩) x9.length ((IntKind.wrap .i64 (2 * ((s_.length : Nat) : Int))).toNat))), (11, .v (.int .i64 ((s_.length : Nat) : Int))), (12, .v (.int .i64 x8)), (13, .v (.bool (decide (x8 < ((s_.length : Nat) : Int)))))]) (B' := []) (by kernel_rfl) fun ρ w a hX => ?_
    refine wp_seq_k fun K13 hK13 => ?_
    refine Cx.cond hX (b := (decide (x8 < ((s_.length : Nat) : Int)))) (by kernel_rfl) (fun hb => ?_) (fun hb => ?_)
    · have h1 := ite_tt h1 hb
      refine wp_skip ?_
      refine hK13 _ _ ?_
      refine wp_seq_k fun K14 hK14 => ?_
      refine wp_block ?_
      refine Cx.rseq hX [] [0, 4, 5, 11, 12] (l' := [(0, .v (.string ⟨⟨s_⟩⟩)), (4, .v (.slice (some ⟨b2, 0, none⟩) x9.length ((IntKind.wrap .i64 (2 * ((s_.length : Nat) : Int))).toNat))), (5, .v (.int .i64 x8)), (11, .v (.int .i64 ((s_.length : Nat) : Int))), (12, .v (.int .i64 x8))]) (B' := []) (by kernel_rfl) fun ρ w a hX => ?_
      refine wp_seq_k fun K16 hK16 => ?_
      refine wp_seq_k fun K17 hK17 => ?_
      refine wp_region_list ?_
      refine hX.part [] 2 [0, 4, 5, 11, 12, 15, 16] (l' := [(0, .v (.string ⟨⟨s_⟩⟩)), (4, .v (.slice (some ⟨b2, 0, none⟩) x9.length ((IntKind.wrap .i64 (2 * ((s_.length : Nat) : Int))).toNat))), (5, .v (.int .i64 x8)), (11, .v (.int .i64 ((s_.length : Nat) : Int))), (12, .v (.int .i64 x8)), (15, .v (.string ⟨⟨s_⟩⟩)), (16, .v (.int .i64 x8))]) (B' := []) (by kernel_rfl) fun ρ w a hX => ?_
      obtain ⟨v10, hv10, h1⟩ := bnd_some h1
      refine hX.idxStr (lit := []) (by kernel_rfl) (by kernel_rfl) rfl (s := s_) (k := .i64) (n := x8) (b := v10) (by kernel_rfl) (by kernel_rfl) (by kernel_rfl) hv10 fun a hX => ?_
      refine hX.part [] 1 [0, 4, 5, 11, 12, 18] (l' := [(0, .v (.string ⟨⟨s_⟩⟩)), (4, .v (.slice (some ⟨b2, 0, none⟩) x9.length ((IntKind.wrap .i64 (2 * ((s_.length : Nat) : Int))).toNat))), (5, .v (.int .i64 x8)), (11, .v (.int .i64 ((s_.length : Nat) : Int))), (12, .v (.int .i64 x8)), (18, .v (.bool (decide (v10 ≥ 128))))]) (B' := []) (by kernel_rfl) fun ρ w a hX => ?_
      refine wpList_end ?_
      refine hK17 _ _ ?_
      refine Cx.cond hX (b := (decide (v10 ≥ 128))) (by kernel_rfl) (fun hb => ?_) (fun hb => ?_)
      · have h1 := ite_tt h1 hb
        refine Cx.rseq hX [] [2, 3] (l' := [(2, .v (.string ⟨⟨([] : Str)⟩⟩)), (3, .v (.int .i64 10))]) (B' := []) (by kernel_rfl) fun ρ w a hX => ?_
        refine wp_ret ?_
        have he := hx1 _ (out_eq h1)
        subst he
        (try dsimp only at h0)
        have hr := Option.some.inj (show some _ = some _ from h0)
        subst hr
        exact hX.ret0 (ss := [.v (.string ⟨⟨([] : Str)⟩⟩), .v (.int .i64 10)]) (by kernel_rfl) (by kernel_rfl) ⟨_, _, rfl, rfl, rfl⟩
      · have h1 := ite_ff h1 hb
        refine wp_skip ?_
        refine hK16 _ _ ?_
        refine wp_region_list ?_
        refine hX.part [] 6 [0, 4, 11, 12, 19, 22, 23, 24] (l' := [(0, .v (.string ⟨⟨s_⟩⟩)), (4, .v (.slice (some ⟨b2, 0, none⟩) x9.length ((IntKind.wrap .i64 (2 * ((s_.length : Nat) : Int))).toNat))), (11, .v (.int .i64 ((s_.length : Nat) : Int))), (12, .v (.int .i64 x8)), (19, .v (.slice (some ⟨b2, 0, none⟩) x9.length ((IntKind.wrap .i64 (2 * ((s_.length : Nat) : Int))).toNat))), (22, .v (.int .i64 (IntKind.wrap .i64 ((IntKind.wrap .i64 (2 * x8)) + 1)))), (23, .v (.string ⟨⟨s_⟩⟩)), (24, .v (.int .i64 x8))]) (B' := []) (by kernel_rfl) fun ρ w a hX => ?_
        obtain ⟨v11, hv11, h1⟩ := bnd_some h1
        refine hX.idxStr (lit := []) (by kernel_rfl) (by kernel_rfl) rfl (s := s_) (k := .i64) (n := x8) (b := v11) (by kernel_rfl) (by kernel_rfl) (by kernel_rfl) hv11 fun a hX => ?_
        refine hX.part [] 0 [0, 4, 11, 12, 19, 22, 25] (l' := [(0, .v (.string ⟨⟨s_⟩⟩)), (4, .v (.slice (some ⟨b2, 0, none⟩) x9.length ((IntKind.wrap .i64 (2 * ((s_.length : Nat) : Int))).toNat))), (11, .v (.int .i64 ((s_.length : Nat) : Int))), (12, .v (.int .i64 x8)), (19, .v (.slice (some ⟨b2, 0, none⟩) x9.length ((IntKind.wrap .i64 (2 * ((s_.length : Nat) : Int))).toNat))), (22, .v (.int .i64 (IntKind.wrap .i64 ((IntKind.wrap .i64 (2 * x8)) + 1)))), (25, .v (.int .u8 v11))]) (B' := []) (by kernel_rfl) fun ρ w a hX => ?_
        obtain ⟨v12, hv12, h1⟩ := bnd_some h1
        refine hX.accAddr (d := kByte) (e := 5) (i := 0) (xs := x9) (A := (some ⟨b2, 0, none⟩)) (c := (IntKind.wrap .i64 (2 * ((s_.length : Nat) : Int))).toNat) (k := .i64) (n := (IntKind.wrap .i64 ((IntKind.wrap .i64 (2 * x8)) + 1))) (v := v12) (lit := []) (by kernel_rfl) (by kernel_rfl) rfl rfl (by kernel_rfl) (by kernel_rfl) (by kernel_rfl) (by kernel_rfl) hv12 fun b13 a hAb13 hX => ?_
        obtain rfl := (Addr.mk.inj (Option.some.inj hAb13)).1
        refine hX.part [] 0 [0, 4, 11, 12, 25, 26] (l' := [(0, .v (.string ⟨⟨s_⟩⟩)), (4, .v (.slice (some ⟨b2, 0, none⟩) x9.length ((IntKind.wrap .i64 (2 * ((s_.length : Nat) : Int))).toNat))), (11, .v (.int .i64 ((s_.length : Nat) : Int))), (12, .v (.int .i64 x8)), (25, .v (.int .u8 v11)), (26, .v (.pointer (some ⟨b2, (IntKind.wrap .i64 ((IntKind.wrap .i64 (2 * x8)) + 1)).toNat * 1, none⟩)))]) (B' := []) (by kernel_rfl) fun ρ w a hX => ?_
        obtain ⟨b14, hb14, h1⟩ := bnd_some h1
        have hX := hX.retell (t := 25) (s := .v (.int .u8 v11)) (s' := .v (.int .u8 ((b14.toNat : Nat) : Int))) (by kernel_rfl) (by simp only [SV.den, toB_some hb14]) trivial rfl
        refine hX.accStore (d := kByte) (lit := []) (e := 5) (i := 0) (b := b2) (xs := x9) (c := (IntKind.wrap .i64 (2 * ((s_.length : Nat) : Int))).toNat) (n := (IntKind.wrap .i64 ((IntKind.wrap .i64 (2 * x8)) + 1))) (v := v12) (u := b14) (y := ()) (s := .v (.int .u8 ((b14.toNat : Nat) : Int))) (by kernel_rfl) rfl rfl rfl (by kernel_rfl) (by kernel_rfl) (by kernel_rfl) (by kernel_rfl) ⟨_, rfl⟩ hv12 fun w a hX => ?_
        have hX : Cx 30 _ _ _ _ _ [accP 5 kByte (some ⟨b2, 0, none⟩) ((IntKind.wrap .i64 (2 * ((s_.length : Nat) : Int))).toNat) (setI x9 (IntKind.wrap .i64 ((IntKind.wrap .i64 (2 * x8)) + 1)) b14)] [] ρ _ _ := hX
        have hX := hX.relen (A := (some ⟨b2, 0, none⟩)) (c := (IntKind.wrap .i64 (2 * ((s_.length : Nat) : Int))).toNat) 4 (xs := x9) (ys := (setI x9 (IntKind.wrap .i64 ((IntKind.wrap .i64 (2 * x8)) + 1)) b14)) (by kernel_rfl) (setI_length _ _ _)
        refine hX.part [] 0 [0, 4, 11, 12] (l' := [(0, .v (.string ⟨⟨s_⟩⟩)), (4, .v (.slice (some ⟨b2, 0, none⟩) (setI x9 (IntKind.wrap .i64 ((IntKind.wrap .i64 (2 * x8)) + 1)) b14).length ((IntKind.wrap .i64 (2 * ((s_.length : Nat) : Int))).toNat))), (11, .v (.int .i64 ((s_.length : Nat) : Int))), (12, .v (.int .i64 x8))]) (B' := []) (by kernel_rfl) fun ρ w a hX => ?_
        refine wpList_end ?_
        refine hK14 _ _ ?_
        refine Cx.region hX [] [0, 4, 11, 12] (l' := [(0, .v (.string ⟨⟨s_⟩⟩)), (4, .v (.slice (some ⟨b2, 0, none⟩) (setI x9 (IntKind.wrap .i64 ((IntKind.wrap .i64 (2 * x8)) + 1)) b14).length ((IntKind.wrap .i64 (2 * ((s_.length : Nat) : Int))).toNat))), (11, .v (.int .i64 ((s_.length : Nat) : Int))), (12, .v (.int .i64 (IntKind.wrap .i64 (x8 + 1))))]) (B' := []) (by kernel_rfl) fun ρ w a hX => ?_
        have hX := hX.keeps [0, 4, 11, 12] (l' := [(0, .v (.string ⟨⟨s_⟩⟩)), (4, .v (.slice (some ⟨b2, 0, none⟩) (setI x9 (IntKind.wrap .i64 ((IntKind.wrap .i64 (2 * x8)) + 1)) b14).length ((IntKind.wrap .i64 (2 * ((s_.length : Nat) : Int))).toNat))), (11, .v (.int .i64 ((s_.length : Nat) : Int))), (12, .v (.int .i64 (IntKind.wrap .i64 (x8 + 1))))]) (by kernel_rfl)
        exact hb1 ((IntKind.wrap .i64 (x8 + 1)), (setI x9 (IntKind.wrap .i64 ((IntKind.wrap .i64 (2 * x8)) + 1)) b14)) (out_eq h1) _ _ ⟨_, _, hX⟩
    · have h1 := ite_ff h1 hb
      refine wp_exit ?_
      have hX := hX.keeps [4] (l' := [(4, .v (.slice (some ⟨b2, 0, none⟩) x9.length ((IntKind.wrap .i64 (2 * ((s_.length : Nat) : Int))).toNat)))]) (by kernel_rfl)
      exact E1x0 x9 (hx1 _ (out_eq h1)).symm  _ _ _ _ hX
  · exact ⟨_, _, hX⟩
def ref01_Make.l1 (l_ : List Int) (s : Int × (List UInt8)) : Option ((Int × (List UInt8)) ⊕ (((List UInt8)))) := match s with
  | (x10, x11) =>
  if (decide (x10 < ((l_.length : Nat) : Int))) = true then
    Option.bind (getI l_ x10) fun v14 =>
    Option.bind (toB (IntKind.wrap .u8 (IntKind.wrap .i64 (Int.tdiv v14 256)))) fun b21 =>
    Option.bind (toB (IntKind.wrap .u8 (Int.tmod v14 256))) fun b22 =>
    Option.bind (room (x11.length + 2)) fun u20 =>
    some (.inl ((IntKind.wrap .i64 (x10 + 1)), (x11 ++ [b21, b22])))
  else
    some (.inr x11)
def ref01_Make (l_ : List Int) : Option (Str) :=
  Option.bind (loopM (ref01_Make.l1 l_) (0, ([] : List UInt8))) fun e => match e with
  | x27 =>
    some x27
theorem ref01_Make.ok (l_ : List Int) (y_l_ : (Option Addr × Nat)) (r : Str) (h0 : ref01_Make l_ = some r) (w0 : World) (F0 : Heap) (hv : F0.Sub w0) (hG : Glob F0) (hg : SV.goods F0 [SV.sl (kInt .i64) l_ y_l_.1 y_l_.2]) (ρ : Nat → Nat) :
    Calls Tryd.prog 30 (SV.dens ρ [SV.sl (kInt .i64) l_ y_l_.1 y_l_.2]).toArray w0 (Ret0 w0 F0 fun s => s = .v (.string ⟨⟨r⟩⟩)) := by
  refine calls_of_wp Tryd.func30 rfl ?_
  have hX := Cx.enter (D := No) (B := []) (L := []) (ρ := ρ) (N := 24) Tryd.ntmps30 [SV.sl (kInt .i64) l_ y_l_.1 y_l_.2] (St.start hv) rfl hg (by kernel_rfl) (fun _ h => by cases h) (Nat.le_of_ble_eq_true rfl) No.unfix
  unfold ref01_Make at h0
  refine Cx.rseq hX [] [0] (l' := [(0, SV.sl (kInt .i64) l_ y_l_.1 y_l_.2)]) (B' := []) (by kernel_rfl) fun ρ w a hX => ?_
  refine Cx.rseq hX [] [0, 3] (l' := [(0, SV.sl (kInt .i64) l_ y_l_.1 y_l_.2), (3, .v (.slice none 0 0))]) (B' := []) (by kernel_rfl) fun ρ w a hX => ?_
  refine wp_seq_k fun K3 hK3 => ?_
  refine Cx.rseq hX [] [3, 6, 7, 8] (l' := [(3, .v (.slice none 0 0)), (6, SV.sl (kInt .i64) l_ y_l_.1 y_l_.2), (7, .v (.int .i64 ((l_.length : Nat) : Int))), (8, .v (.int .i64 0))]) (B' := []) (by kernel_rfl) fun ρ w a hX => ?_
  refine wp_block ?_
  have hX := hX.newAcc 5 kByte
  have hX := hX.keeps [3, 6, 7, 8] (l' := [(3, .v (.slice none ([] : List UInt8).length 0)), (6, SV.sl (kInt .i64) l_ y_l_.1 y_l_.2), (7, .v (.int .i64 ((l_.length : Nat) : Int))), (8, .v (.int .i64 0))]) (by kernel_rfl)
  obtain ⟨e1, he1, h0⟩ := bnd_some h0
  have E1x0 : ∀ (x27 : List UInt8), e1 = x27 → ∀ (A28 : Option Addr) (c29 : Nat) (ρ : Nat → Nat) (w : World) (F : Heap) (a : Act), Cx 24 w0 F0 No w F [accP 5 kByte A28 c29 x27] [] ρ [(3, .v (.slice A28 x27.length c29))] a → K3 a w := by
    intro x27 he A28 c29 ρ w F a hX
    replace he := he.symm
    subst he
    (try dsimp only at h0)
    refine hK3 _ _ ?_
    refine wp_seq_k fun K13 hK13 => ?_
    refine wp_region_list ?_
    refine hX.part [] 1 [22] (l' := [(22, .v (.slice A28 x27.length c29))]) (B' := []) (by kernel_rfl) fun ρ w a hX => ?_
    refine hX.strAcc (lit := []) (i := 0) (e := 5) (e2 := 5) (xs := x27) (A := A28) (c := c29) (by kernel_rfl) (by kernel_rfl) rfl rfl (by kernel_rfl) (by kernel_rfl) (by kernel_rfl) (by kernel_rfl) fun a hX => ?_
    refine hX.part [] 1 [2] (l' := [(2, .v (.string ⟨⟨x27⟩⟩))]) (B' := []) (by kernel_rfl) fun ρ w a hX => ?_
    refine wpList_end ?_
    refine hK13 _ _ ?_
    refine wp_ret ?_
    have hr := Option.some.inj (show some _ = some _ from h0)
    subst hr
    exact hX.ret0 (ss := [.v (.string ⟨⟨x27⟩⟩)]) (by kernel_rfl) (by kernel_rfl) rfl
  refine loop_go (fun (s : Int × (List UInt8)) a w => match s with | (x10, x11) => ∃ (A12 : Option Addr) (c13 : Nat) (ρ : Nat → Nat) (F : Heap), Cx 24 w0 F0 No w F [accP 5 kByte A12 c13 x11] [] ρ [(3, .v (.slice A12 x11.length c13)), (6, SV.sl (kInt .i64) l_ y_l_.1 y_l_.2), (7, .v (.int .i64 ((l_.length : Nat) : Int))), (8, .v (.int .i64 x10))] a) he1 (fun LW1 s o1 h1 hb1 hx1 a w hI => ?_) _ _ ?_
  · obtain ⟨x10, x11⟩ := s
    obtain ⟨A12, c13, ρ, F, hX⟩ := hI
    unfold ref01_Make.l1 at h1
    (try dsimp only at h1)
    refine Cx.rseq hX [] [3, 6, 7, 8, 9] (l' := [(3, .v (.slice A12 x11.length c13)), (6, SV.sl (kInt .i64) l_ y_l_.1 y_l_.2), (7, .v (.int .i64 ((l_.length : Nat) : Int))), (8, .v (.int .i64 x10)), (9, .v (.bool (decide (x10 < ((l_.length : Nat) : Int)))))]) (B' := []) (by kernel_rfl) fun ρ w a hX => ?_
    refine wp_seq_k fun K10 hK10 => ?_
    refine Cx.cond hX (b := (decide (x10 < ((l_.length : Nat) : Int)))) (by kernel_rfl) (fun hb => ?_) (fun hb => ?_)
    · have h1 := ite_tt h1 hb
      refine wp_skip ?_
      refine hK10 _ _ ?_
      refine wp_seq_k fun K11 hK11 => ?_
      refine wp_block ?_
      refine wp_seq_k fun K12 hK12 => ?_
      refine wp_region_list ?_
      refine hX.part [] 0 [3, 6, 7, 8] (l' := [(3, .v (.slice A12 x11.length c13)), (6, SV.sl (kInt .i64) l_ y_l_.1 y_l_.2), (7, .v (.int .i64 ((l_.length : Nat) : Int))), (8, .v (.int .i64 x10))]) (B' := []) (by kernel_rfl) fun ρ w a hX => ?_
      obtain ⟨v14, hv14, h1⟩ := bnd_some h1
      refine hX.idxSl (lit := []) (by kernel_rfl) (by kernel_rfl) rfl (d := (kInt .i64)) (e := 3) (xs := l_) (A := y_l_.1) (c := y_l_.2) (k := .i64) (n := x10) (v := v14) (by kernel_rfl) (by kernel_rfl) (by kernel_rfl) (by kernel_rfl) hv14 fun y15 b16 o17 a hX => ?_
      refine hX.part [] 2 [3, 5, 6, 7, 8] (l' := [(3, .v (.slice A12 x11.length c13)), (5, .v (.int .i64 v14)), (6, SV.sl (kInt .i64) l_ y_l_.1 y_l_.2), (7, .v (.int .i64 ((l_.length : Nat) : Int))), (8, .v (.int .i64 x10))]) (B' := []) (by kernel_rfl) fun ρ w a hX => ?_
      refine wpList_end ?_
      refine hK12 _ _ ?_
      refine wp_region_list ?_
      refine hX.part [] 8 [3, 6, 7, 8, 12, 19] (l' := [(3, .v (.slice A12 x11.length c13)), (6, SV.sl (kInt .i64) l_ y_l_.1 y_l_.2), (7, .v (.int .i64 ((l_.length : Nat) : Int))), (8, .v (.int .i64 x10)), (12, .v (.slice A12 x11.length c13)), (19, .slc 0 0 2 2)]) (B' := [some ⟨5, [.v (.int .u8 (IntKind.wrap .u8 (IntKind.wrap .i64 (Int.tdiv v14 256)))), .v (.int .u8 (IntKind.wrap .u8 (Int.tmod v14 256)))]⟩]) (by kernel_rfl) fun ρ w a hX => ?_
      obtain ⟨b21, hb21, h1⟩ := bnd_some h1
      obtain ⟨b22, hb22, h1⟩ := bnd_some h1
      obtain ⟨u20, hu20, h1⟩ := bnd_some h1
      have hX := hX.rebox 0 (b := ⟨5, [.v (.int .u8 (IntKind.wrap .u8 (IntKind.wrap .i64 (Int.tdiv v14 256)))), .v (.int .u8 (IntKind.wrap .u8 (Int.tmod v14 256)))]⟩) (cs := [.v (.int .u8 ((b21.toNat : Nat) : Int)), .v (.int .u8 ((b22.toNat : Nat) : Int))]) (B' := [some ⟨5, [.v (.int .u8 ((b21.toNat : Nat) : Int)), .v (.int .u8 ((b22.toNat : Nat) : Int))]⟩]) (by kernel_rfl) (fun ρ => by simp only [SV.dens, SV.den, toB_some hb21, toB_some hb22]) (by have hg := (hX.bgood ⟨5, [.v (.int .u8 (IntKind.wrap .u8 (IntKind.wrap .i64 (Int.tdiv v14 256)))), .v (.int .u8 (IntKind.wrap .u8 (Int.tmod v14 256)))]⟩ (List.mem_of_getElem? (i := 0) (by kernel_rfl))).1; exact ⟨trivial, trivial, trivial⟩) (by kernel_rfl) (by kernel_rfl)
      refine hX.appLit (d := kByte) (k := 0) (m := 2) (bytes := 1) (cells := [.v (.int .u8 ((b21.toNat : Nat) : Int)), .v (.int .u8 ((b22.toNat : Nat) : Int))]) (lit := []) (i := 0) (e := 5) (xs := x11) (A := A12) (c := c13) ([(b21, ()), (b22, ())] : List (UInt8 × (kByte).Y)) (by kernel_rfl) (by kernel_rfl) rfl rfl (by kernel_rfl) (by kernel_rfl) (by kernel_rfl) (by kernel_rfl) (by kernel_rfl) rfl rfl (by decide) hu20 ⟨_, rfl⟩ fun A18 c19 w a hX => ?_
      have hX : Cx 24 _ _ _ _ _ [accP 5 kByte A18 c19 (x11 ++ [b21, b22])] [some ⟨5, [.v (.int .u8 ((b21.toNat : Nat) : Int)), .v (.int .u8 ((b22.toNat : Nat) : Int))]⟩] ρ _ a := hX
      refine hX.part [] 1 [3, 6, 7, 8] (l' := [(3, .v (.slice A18 (x11 ++ [b21, b22]).length c19)), (6, SV.sl (kInt .i64) l_ y_l_.1 y_l_.2), (7, .v (.int .i64 ((l_.length : Nat) : Int))), (8, .v (.int .i64 x10))]) (B' := [some ⟨5, [.v (.int .u8 ((b21.toNat : Nat) : Int)), .v (.int .u8 ((b22.toNat : Nat) : Int))]⟩]) (by kernel_rfl) fun ρ w a hX => ?_
      refine wpList_end ?_
      refine hK11 _ _ ?_
      refine Cx.region hX [] [3, 6, 7, 8] (l' := [(3, .v (.slice A18 (x11 ++ [b21, b22]).length c19)), (6, SV.sl (kInt .i64) l_ y_l_.1 y_l_.2), (7, .v (.int .i64 ((l_.length : Nat) : Int))), (8, .v (.int .i64 (IntKind.wrap .i64 (x10 + 1))))]) (B' := [some ⟨5, [.v (.int .u8 ((b21.toNat : Nat) : Int)), .v (.int .u8 ((b22.toNat : Nat) : Int))]⟩]) (by kernel_rfl) fun ρ w a hX => ?_
      have hX := hX.keeps [3, 6, 7, 8] (l' := [(3, .v (.slice A18 (x11 ++ [b21, b22]).length c19)), (6, SV.sl (kInt .i64) l_ y_l_.1 y_l_.2), (7, .v (.int .i64 ((l_.length : Nat) : Int))), (8, .v (.int .i64 (IntKind.wrap .i64 (x10 + 1))))]) (by kernel_rfl)
      have hX := hX.shrink 0 (B' := []) (by kernel_rfl) (Nat.le_of_ble_eq_true rfl) (by kernel_rfl) (by kernel_rfl) (Nat.zero_le _)
      exact hb1 ((IntKind.wrap .i64 (x10 + 1)), (x11 ++ [b21, b22])) (out_eq h1) _ _ ⟨A18, c19, _, _, hX⟩
    · have h1 := ite_ff h1 hb
      refine wp_exit ?_
      have hX := hX.keeps [3] (l' := [(3, .v (.slice A12 x11.length c13))]) (by kernel_rfl)
      exact E1x0 x11 (hx1 _ (out_eq h1)).symm A12 c13 _ _ _ _ hX
  · exact ⟨none, 0, _, _, hX⟩
def ref01_Of.l1 (s_ : Str) (s : Int × (List Int)) : Option ((Int × (List Int)) ⊕ (((List Int)) ⊕ (Str × Int))) := match s with
  | (x6, x7) =>
  if (decide (x6 < ((s_.length : Nat) : Int))) = true then
    Option.bind (getB s_ x6) fun v10 =>
    if (decide (v10 > 127)) = true then
      some (.inr (.inr (([] : Str), 10)))
    else
      Option.bind (getB s_ x6) fun v11 =>
      Option.bind (room (x7.length + 1)) fun u14 =>
      some (.inl ((IntKind.wrap .i64 (x6 + 1)), (x7 ++ [(IntKind.wrap .i64 v11)])))
  else
    some (.inr (.inl x7))
def ref01_Of (s_ : Str) : Option (Str × Int) :=
  Option.bind (loopM (ref01_Of.l1 s_) (0, ([] : List Int))) fun e => match e with
  | (.inl x19) =>
    Option.bind (ref01_Make x19) fun v23 =>
    some (v23, 0)
  | (.inr r22) =>
    some r22
theorem ref01_Of.ok (s_ : Str) (r : Str × Int) (h0 : ref01_Of s_ = some r) (w0 : World) (F0 : Heap) (hv : F0.Sub w0) (hG : Glob F0) (hg : SV.goods F0 [.v (.string ⟨⟨s_⟩⟩)]) (ρ : Nat → Nat) :
    Calls Tryd.prog 13 (SV.dens ρ [.v (.string ⟨⟨s_⟩⟩)]).toArray w0 (Ret0 w0 F0 fun s => ∃ s1 s2, s = .tup [s1, s2] ∧ (s1 = .v (.string ⟨⟨r.1⟩⟩)) ∧ (s2 = .v (.int .i64 r.2))) := by
  refine calls_of_wp Tryd.func13 rfl ?_
  have hX := Cx.enter (D := No) (B := []) (L := []) (ρ := ρ) (N := 25) Tryd.ntmps13 [.v (.string ⟨⟨s_⟩⟩)] (St.start hv) rfl hg (by kernel_rfl) (fun _ h => by cases h) (Nat.le_of_ble_eq_true rfl) No.unfix
  unfold ref01_Of at h0
  refine Cx.rseq hX [] [0] (l' := [(0, .v (.string ⟨⟨s_⟩⟩))]) (B' := []) (by kernel_rfl) fun ρ w a hX => ?_
  refine Cx.rseq hX [] [0, 4] (l' := [(0, .v (.string ⟨⟨s_⟩⟩)), (4, .v (.slice none 0 0))]) (B' := []) (by kernel_rfl) fun ρ w a hX => ?_
  refine wp_seq_k fun K3 hK3 => ?_
  refine Cx.rseq hX [] [0, 4, 5] (l' := [(0, .v (.string ⟨⟨s_⟩⟩)), (4, .v (.slice none 0 0)), (5, .v (.int .i64 0))]) (B' := []) (by kernel_rfl) fun ρ w a hX => ?_
  refine wp_block ?_
  have hX := hX.newAcc 3 (kInt .i64)
  have hX := hX.keeps [0, 4, 5] (l' := [(0, .v (.string ⟨⟨s_⟩⟩)), (4, .v (.slice none ([] : List Int).length 0)), (5, .v (.int .i64 0))]) (by kernel_rfl)
  obtain ⟨e1, he1, h0⟩ := bnd_some h0
  have E1x0 : ∀ (x19 : List Int), e1 = (.inl x19) → ∀ (A20 : Option Addr) (c21 : Nat) (ρ : Nat → Nat) (w : World) (F : Heap) (a : Act), Cx 25 w0 F0 No w F [accP 3 (kInt .i64) A20 c21 x19] [] ρ [(4, .v (.slice A20 x19.length c21))] a → K3 a w := by
    intro x19 he A20 c21 ρ w F a hX
    replace he := he.symm
    subst he
    (try dsimp only at h0)
    refine hK3 _ _ ?_
    refine wp_seq_k fun K17 hK17 => ?_
    refine wp_region_list ?_
    refine hX.part [] 1 [23] (l' := [(23, .v (.slice A20 x19.length c21))]) (B' := []) (by kernel_rfl) fun ρ w a hX => ?_
    obtain ⟨v23, hv23, h0⟩ := bnd_some h0
    obtain ⟨F, hX⟩ := hX.freeze (i := 0) (t := 23) (e := 3) (d := (kInt .i64)) (A := A20) (c := c21) (xs := x19) rfl (by kernel_rfl)
    have hX : Cx 25 _ _ _ _ _ [] [] ρ _ a := hX
    refine Cx.call0 hX (lit := []) (by kernel_rfl) rfl (by kernel_rfl) ⟨⟨_, Tryd.func30, by kernel_rfl, rfl⟩⟩ (ss := [SV.sl (kInt .i64) x19 A20 c21]) (by kernel_rfl) [SV.sl (kInt .i64) x19 A20 c21] rfl (fun hg => hg) (fun hv hle hg => ref01_Make.ok x19 (A20, c21) v23 hv23 _ _ hv (hG.mono hle) hg _) (fun s F w a hp hX => ?_)
    subst hp
    refine hX.part [] 2 [2, 3] (l' := [(2, .v (.string ⟨⟨v23⟩⟩)), (3, .v (.int .i64 0))]) (B' := []) (by kernel_rfl) fun ρ w a hX => ?_
    refine wpList_end ?_
    refine hK17 _ _ ?_
    refine wp_ret ?_
    have hr := Option.some.inj (show some _ = some _ from h0)
    subst hr
    exact hX.ret0 (ss := [.v (.string ⟨⟨v23⟩⟩), .v (.int .i64 0)]) (by kernel_rfl) (by kernel_rfl) ⟨_, _, rfl, rfl, rfl⟩
  refine loop_go (fun (s : Int × (List Int)) a w => match s with | (x6, x7) => ∃ (A8 : Option Addr) (c9 : Nat) (ρ : Nat → Nat) (F : Heap), Cx 25 w0 F0 No w F [accP 3 (kInt .i64) A8 c9 x7] [] ρ [(0, .v (.string ⟨⟨s_⟩⟩)), (4, .v (.slice A8 x7.length c9)), (5, .v (.int .i64 x6))] a) he1 (fun LW1 s o1 h1 hb1 hx1 a w hI => ?_) _ _ ?_
  · obtain ⟨x6, x7⟩ := s
    obtain ⟨A8, c9, ρ, F, hX⟩ := hI
    unfold ref01_Of.l1 at h1
    (try dsimp only at h1)
    refine wp_seq_k fun K11 hK11 => ?_
    refine Cx.rseq hX [] [0, 4, 5, 9] (l' := [(0, .v (.string ⟨⟨s_⟩⟩)), (4, .v (.slice A8 x7.length c9)), (5, .v (.int .i64 x6)), (9, .v (.bool (decide (x6 < ((s_.length : Nat) : Int)))))]) (B' := []) (by kernel_rfl) fun ρ w a hX => ?_
    refine Cx.cond hX (b := (decide (x6 < ((s_.length : Nat) : Int)))) (by kernel_rfl) (fun hb => ?_) (fun hb => ?_)
    · have h1 := ite_tt h1 hb
      refine wp_skip ?_
      refine hK11 _ _ ?_
      refine wp_seq_k fun K13 hK13 => ?_
      refine wp_block ?_
      refine wp_seq_k fun K14 hK14 => ?_
      refine wp_seq_k fun K15 hK15 => ?_
      refine wp_region_list ?_
      refine hX.part [] 2 [0, 4, 5, 12, 13] (l' := [(0, .v (.string ⟨⟨s_⟩⟩)), (4, .v (.slice A8 x7.length c9)), (5, .v (.int .i64 x6)), (12, .v (.string ⟨⟨s_⟩⟩)), (13, .v (.int .i64 x6))]) (B' := []) (by kernel_rfl) fun ρ w a hX => ?_
      obtain ⟨v10, hv10, h1⟩ := bnd_some h1
      refine hX.idxStr (lit := []) (by kernel_rfl) (by kernel_rfl) rfl (s := s_) (k := .i64) (n := x6) (b := v10) (by kernel_rfl) (by kernel_rfl) (by kernel_rfl) hv10 fun a hX => ?_
      refine hX.part [] 1 [0, 4, 5, 15] (l' := [(0, .v (.string ⟨⟨s_⟩⟩)), (4, .v (.slice A8 x7.length c9)), (5, .v (.int .i64 x6)), (15, .v (.bool (decide (v10 > 127))))]) (B' := []) (by kernel_rfl) fun ρ w a hX => ?_
      refine wpList_end ?_
      refine hK15 _ _ ?_
      refine Cx.cond hX (b := (decide (v10 > 127))) (by kernel_rfl) (fun hb => ?_) (fun hb => ?_)
      · have h1 := ite_tt h1 hb
        refine Cx.rseq hX [] [2, 3] (l' := [(2, .v (.string ⟨⟨([] : Str)⟩⟩)), (3, .v (.int .i64 10))]) (B' := []) (by kernel_rfl) fun ρ w a hX => ?_
        refine wp_ret ?_
        have he := hx1 _ (out_eq h1)
        subst he
        (try dsimp only at h0)
        have hr := Option.some.inj (show some _ = some _ from h0)
        subst hr
        exact hX.ret0 (ss := [.v (.string ⟨⟨([] : Str)⟩⟩), .v (.int .i64 10)]) (by kernel_rfl) (by kernel_rfl) ⟨_, _, rfl, rfl, rfl⟩
      · have h1 := ite_ff h1 hb
        refine wp_skip ?_
        refine hK14 _ _ ?_
        refine wp_region_list ?_
        refine hX.part [] 3 [0, 4, 5, 16, 17, 18] (l' := [(0, .v (.string ⟨⟨s_⟩⟩)), (4, .v (.slice A8 x7.length c9)), (5, .v (.int .i64 x6)), (16, .v (.slice A8 x7.length c9)), (17, .v (.string ⟨⟨s_⟩⟩)), (18, .v (.int .i64 x6))]) (B' := []) (by kernel_rfl) fun ρ w a hX => ?_
        obtain ⟨v11, hv11, h1⟩ := bnd_some h1
        refine hX.idxStr (lit := []) (by kernel_rfl) (by kernel_rfl) rfl (s := s_) (k := .i64) (n := x6) (b := v11) (by kernel_rfl) (by kernel_rfl) (by kernel_rfl) hv11 fun a hX => ?_
        refine hX.part [] 2 [0, 4, 5, 16, 21] (l' := [(0, .v (.string ⟨⟨s_⟩⟩)), (4, .v (.slice A8 x7.length c9)), (5, .v (.int .i64 x6)), (16, .v (.slice A8 x7.length c9)), (21, .slc 0 0 1 1)]) (B' := [some ⟨3, [.v (.int .i64 (IntKind.wrap .i64 v11))]⟩]) (by kernel_rfl) fun ρ w a hX => ?_
        obtain ⟨u14, hu14, h1⟩ := bnd_some h1
        refine hX.appLit (d := (kInt .i64)) (k := 0) (m := 1) (bytes := 8) (cells := [.v (.int .i64 (IntKind.wrap .i64 v11))]) (lit := []) (i := 0) (e := 3) (xs := x7) (A := A8) (c := c9) ([((IntKind.wrap .i64 v11), ())] : List (Int × ((kInt .i64)).Y)) (by kernel_rfl) (by kernel_rfl) rfl rfl (by kernel_rfl) (by kernel_rfl) (by kernel_rfl) (by kernel_rfl) (by kernel_rfl) rfl rfl (by decide) hu14 ⟨_, rfl⟩ fun A12 c13 w a hX => ?_
        have hX : Cx 25 _ _ _ _ _ [accP 3 (kInt .i64) A12 c13 (x7 ++ [(IntKind.wrap .i64 v11)])] [some ⟨3, [.v (.int .i64 (IntKind.wrap .i64 v11))]⟩] ρ _ a := hX
        refine hX.part [] 1 [0, 4, 5] (l' := [(0, .v (.string ⟨⟨s_⟩⟩)), (4, .v (.slice A12 (x7 ++ [(IntKind.wrap .i64 v11)]).length c13)), (5, .v (.int .i64 x6))]) (B' := [some ⟨3, [.v (.int .i64 (IntKind.wrap .i64 v11))]⟩]) (by kernel_rfl) fun ρ w a hX => ?_
        refine wpList_end ?_
        refine hK13 _ _ ?_
        refine Cx.region hX [] [0, 4, 5] (l' := [(0, .v (.string ⟨⟨s_⟩⟩)), (4, .v (.slice A12 (x7 ++ [(IntKind.wrap .i64 v11)]).length c13)), (5, .v (.int .i64 (IntKind.wrap .i64 (x6 + 1))))]) (B' := [some ⟨3, [.v (.int .i64 (IntKind.wrap .i64 v11))]⟩]) (by kernel_rfl) fun ρ w a hX => ?_
        have hX := hX.keeps [0, 4, 5] (l' := [(0, .v (.string ⟨⟨s_⟩⟩)), (4, .v (.slice A12 (x7 ++ [(IntKind.wrap .i64 v11)]).length c13)), (5, .v (.int .i64 (IntKind.wrap .i64 (x6 + 1))))]) (by kernel_rfl)
        have hX := hX.shrink 0 (B' := []) (by kernel_rfl) (Nat.le_of_ble_eq_true rfl) (by kernel_rfl) (by kernel_rfl) (Nat.zero_le _)
        exact hb1 ((IntKind.wrap .i64 (x6 + 1)), (x7 ++ [(IntKind.wrap .i64 v11)])) (out_eq h1) _ _ ⟨A12, c13, _, _, hX⟩
    · have h1 := ite_ff h1 hb
      refine wp_exit ?_
      have hX := hX.keeps [4] (l' := [(4, .v (.slice A8 x7.length c9))]) (by kernel_rfl)
      exact E1x0 x7 (hx1 _ (out_eq h1)).symm A8 c9 _ _ _ _ hX
  · exact ⟨none, 0, _, _, hX⟩
def units_Check (u : Str) : Option (Bool) :=
  some ((IntKind.wrap .i64 ((BitVec.ofInt 64 ((u.length : Nat) : Int) &&& BitVec.ofInt 64 1).toNat)) == 0)
theorem units_Check.ok (u : Str) (r : Bool) (h0 : units_Check u = some r) (w0 : World) (F0 : Heap) (hv : F0.Sub w0) (hG : Glob F0) (hg : SV.goods F0 [.v (.string ⟨⟨u⟩⟩)]) (ρ : Nat → Nat) :
    Calls Tryd.prog 21 (SV.dens ρ [.v (.string ⟨⟨u⟩⟩)]).toArray w0 (Ret0 w0 F0 fun s => s = .v (.bool r)) := by
  refine calls_of_wp Tryd.func21 rfl ?_
  have hX := Cx.enter (D := No) (B := []) (L := []) (ρ := ρ) (N := 7) Tryd.ntmps21 [.v (.string ⟨⟨u⟩⟩)] (St.start hv) rfl hg (by kernel_rfl) (fun _ h => by cases h) (Nat.le_of_ble_eq_true rfl) No.unfix
  unfold units_Check at h0
  refine Cx.rseq hX [] [0] (l' := [(0, .v (.string ⟨⟨u⟩⟩))]) (B' := []) (by kernel_rfl) fun ρ w a hX => ?_
  refine Cx.rseq hX [] [2] (l' := [(2, .v (.bool ((IntKind.wrap .i64 ((BitVec.ofInt 64 ((u.length : Nat) : Int) &&& BitVec.ofInt 64 1).toNat)) == 0)))]) (B' := []) (by kernel_rfl) fun ρ w a hX => ?_
  refine wp_ret ?_
  have hr := Option.some.inj (show some _ = some _ from h0)
  subst hr
  exact hX.ret0 (ss := [.v (.bool ((IntKind.wrap .i64 ((BitVec.ofInt 64 ((u.length : Nat) : Int) &&& BitVec.ofInt 64 1).toNat)) == 0))]) (by kernel_rfl) (by kernel_rfl) rfl
def units_Len (u : Str) : Option (Int) :=
  some (IntKind.wrap .i64 (Int.tdiv ((u.length : Nat) : Int) 2))
theorem units_Len.ok (u : Str) (r : Int) (h0 : units_Len u = some r) (w0 : World) (F0 : Heap) (hv : F0.Sub w0) (hG : Glob F0) (hg : SV.goods F0 [.v (.string ⟨⟨u⟩⟩)]) (ρ : Nat → Nat) :
    Calls Tryd.prog 22 (SV.dens ρ [.v (.string ⟨⟨u⟩⟩)]).toArray w0 (Ret0 w0 F0 fun s => s = .v (.int .i64 r)) := by
  refine calls_of_wp Tryd.func22 rfl ?_
  have hX := Cx.enter (D := No) (B := []) (L := []) (ρ := ρ) (N := 6) Tryd.ntmps22 [.v (.string ⟨⟨u⟩⟩)] (St.start hv) rfl hg (by kernel_rfl) (fun _ h => by cases h) (Nat.le_of_ble_eq_true rfl) No.unfix
  unfold units_Len at h0
  refine Cx.rseq hX [] [0] (l' := [(0, .v (.string ⟨⟨u⟩⟩))]) (B' := []) (by kernel_rfl) fun ρ w a hX => ?_
  refine Cx.rseq hX [] [2] (l' := [(2, .v (.int .i64 (IntKind.wrap .i64 (Int.tdiv ((u.length : Nat) : Int) 2))))]) (B' := []) (by kernel_rfl) fun ρ w a hX => ?_
  refine wp_ret ?_
  have hr := Option.some.inj (show some _ = some _ from h0)
  subst hr
  exact hX.ret0 (ss := [.v (.int .i64 (IntKind.wrap .i64 (Int.tdiv ((u.length : Nat) : Int) 2)))]) (by kernel_rfl) (by kernel_rfl) rfl
def units_At.j1 (u : Str) (i : Int) (x2 : Bool) : Option (Int) :=
  if x2 = true then
    some (-1)
  else
    Option.bind (getB u (IntKind.wrap .i64 (2 * i))) fun v3 =>
    Option.bind (getB u (IntKind.wrap .i64 ((IntKind.wrap .i64 (2 * i)) + 1))) fun v4 =>
    some (IntKind.wrap .i64 ((BitVec.ofInt 64 (IntKind.wrap .i64 ((IntKind.wrap .i64 v3) * 2 ^ 8)) ||| BitVec.ofInt 64 (IntKind.wrap .i64 v4)).toNat))
def units_At (u : Str) (i : Int) : Option (Int) :=
  if (decide (i < 0)) = true then
    units_At.j1 u i true
  else
    Option.bind (units_Len u) fun v1 =>
    units_At.j1 u i (decide (i ≥ v1))
theorem units_At.ok (u : Str) (i : Int) (r : Int) (h0 : units_At u i = some r) (w0 : World) (F0 : Heap) (hv : F0.Sub w0) (hG : Glob F0) (hg : SV.goods F0 [.v (.string ⟨⟨u⟩⟩), .v (.int .i64 i)]) (ρ : Nat → Nat) :
    Calls Tryd.prog 23 (SV.dens ρ [.v (.string ⟨⟨u⟩⟩), .v (.int .i64 i)]).toArray w0 (Ret0 w0 F0 fun s => s = .v (.int .i64 r)) := by
  refine calls_of_wp Tryd.func23 rfl ?_
  have hX := Cx.enter (D := No) (B := []) (L := []) (ρ := ρ) (N := 26) Tryd.ntmps23 [.v (.string ⟨⟨u⟩⟩), .v (.int .i64 i)] (St.start hv) rfl hg (by kernel_rfl) (fun _ h => by cases h) (Nat.le_of_ble_eq_true rfl) No.unfix
  unfold units_At at h0
  refine Cx.rseq hX [] [0, 1] (l' := [(0, .v (.string ⟨⟨u⟩⟩)), (1, .v (.int .i64 i))]) (B' := []) (by kernel_rfl) fun ρ w a hX => ?_
  refine wp_seq_k fun K2 hK2 => ?_
  refine wp_seq_k fun K3 hK3 => ?_
  have J3 : ∀ (x2 : Bool), units_At.j1 u i x2 = some r → ∀ (ρ : Nat → Nat) (w : World) (F : Heap) (a : Act), Cx 26 w0 F0 No w F [] [] ρ [(0, .v (.string ⟨⟨u⟩⟩)), (1, .v (.int .i64 i)), (12, .v (.bool x2))] a → K3 a w := by
    intro x2 h0  ρ w F a hX
    unfold units_At.j1 at h0
    refine hK3 _ _ ?_
    refine Cx.cond hX (b := x2) (by kernel_rfl) (fun hb => ?_) (fun hb => ?_)
    · have h0 := ite_tt h0 hb
      refine Cx.rseq hX [] [4] (l' := [(4, .v (.int .i64 (-1)))]) (B' := []) (by kernel_rfl) fun ρ w a hX => ?_
      refine wp_ret ?_
      have hr := Option.some.inj (show some _ = some _ from h0)
      subst hr
      exact hX.ret0 (ss := [.v (.int .i64 (-1))]) (by kernel_rfl) (by kernel_rfl) rfl
    · have h0 := ite_ff h0 hb
      refine wp_skip ?_
      refine hK2 _ _ ?_
      refine wp_seq_k fun K5 hK5 => ?_
      have hGd := hG.mono hX.st.le
      refine hX.draw rfl (n := 14) rfl #[false, false, false, false, false, false, false, false, false, false, false, false, false, false] (by kernel_rfl) fun w D' hDk back hX => ?_
      refine hX.dq 0 rfl rfl (listed' := #[true, false, false, false, false, false, false, false, false, false, false, false, false, false]) (by kernel_rfl) (by kernel_rfl) (s := .v (.string ⟨⟨u⟩⟩)) (by kernel_rfl) fun a hX => ?_
      refine hX.dq 1 rfl rfl (listed' := #[true, true, false, false, false, false, false, false, false, false, false, false, false, false]) (by kernel_rfl) (by kernel_rfl) (s := .v (.int .i64 i)) (by kernel_rfl) fun a hX => ?_
      refine hX.dq 2 rfl rfl (listed' := #[true, true, true, false, false, false, false, false, false, false, false, false, false, false]) (by kernel_rfl) (by kernel_rfl) (s := .v (.int .i64 (IntKind.wrap .i64 (2 * i)))) (by kernel_rfl) fun a hX => ?_
      obtain ⟨v3, hv3, h0⟩ := bnd_some h0
      refine hX.dIdxStr 3 rfl rfl (listed' := #[true, true, true, true, false, false, false, false, false, false, false, false, false, false]) (by kernel_rfl) (by kernel_rfl) rfl (s := u) (k := .i64) (m := (IntKind.wrap .i64 (2 * i))) (b := v3) (by kernel_rfl) (by kernel_rfl) (by kernel_rfl) hv3 fun a hX => ?_
      refine hX.dq 4 rfl rfl (listed' := #[true, true, true, true, true, false, false, false, false, false, false, false, false, false]) (by kernel_rfl) (by kernel_rfl) (s := .v (.int .i64 (IntKind.wrap .i64 v3))) (by kernel_rfl) fun a hX => ?_
      refine hX.dq 5 rfl rfl (listed' := #[true, true, true, true, true, true, false, false, false, false, false, false, false, false]) (by kernel_rfl) (by kernel_rfl) (s := .v (.int .i64 (IntKind.wrap .i64 ((IntKind.wrap .i64 v3) * 2 ^ 8)))) (by kernel_rfl) fun a hX => ?_
      refine hX.dq 6 rfl rfl (listed' := #[true, true, true, true, true, true, true, false, false, false, false, false, false, false]) (by kernel_rfl) (by kernel_rfl) (s := .v (.string ⟨⟨u⟩⟩)) (by kernel_rfl) fun a hX => ?_
      refine hX.dq 7 rfl rfl (listed' := #[true, true, true, true, true, true, true, true, false, false, false, false, false, false]) (by kernel_rfl) (by kernel_rfl) (s := .v (.int .i64 i)) (by kernel_rfl) fun a hX => ?_
      refine hX.dq 8 rfl rfl (listed' := #[true, true, true, true, true, true, true, true, true, false, false, false, false, false]) (by kernel_rfl) (by kernel_rfl) (s := .v (.int .i64 (IntKind.wrap .i64 (2 * i)))) (by kernel_rfl) fun a hX => ?_
      refine hX.dq 9 rfl rfl (listed' := #[true, true, true, true, true, true, true, true, true, true, false, false, false, false]) (by kernel_rfl) (by kernel_rfl) (s := .v (.int .i64 (IntKind.wrap .i64 ((IntKind.wrap .i64 (2 * i)) + 1)))) (by kernel_rfl) fun a hX => ?_
      obtain ⟨v4, hv4, h0⟩ := bnd_some h0
      refine hX.dIdxStr 10 rfl rfl (listed' := #[true, true, true, true, true, true, true, true, true, true, true, false, false, false]) (by kernel_rfl) (by kernel_rfl) rfl (s := u) (k := .i64) (m := (IntKind.wrap .i64 ((IntKind.wrap .i64 (2 * i)) + 1))) (b := v4) (by kernel_rfl) (by kernel_rfl) (by kernel_rfl) hv4 fun a hX => ?_
      refine hX.dq 11 rfl rfl (listed' := #[true, true, true, true, true, true, true, true, true, true, true, true, false, false]) (by kernel_rfl) (by kernel_rfl) (s := .v (.int .i64 (IntKind.wrap .i64 v4))) (by kernel_rfl) fun a hX => ?_
      refine hX.dq 12 rfl rfl (listed' := #[true, true, true, true, true, true, true, true, true, true, true, true, true, false]) (by kernel_rfl) (by kernel_rfl) (s := .v (.int .i64 (IntKind.wrap .i64 ((BitVec.ofInt 64 (IntKind.wrap .i64 ((IntKind.wrap .i64 v3) * 2 ^ 8)) ||| BitVec.ofInt 64 (IntKind.wrap .i64 v4)).toNat)))) (by kernel_rfl) fun a hX => ?_
      refine hX.dq 13 rfl rfl (listed' := #[true, true, true, true, true, true, true, true, true, true, true, true, true, true]) (by kernel_rfl) (by kernel_rfl) (s := .v (.int .i64 (IntKind.wrap .i64 ((BitVec.ofInt 64 (IntKind.wrap .i64 ((IntKind.wrap .i64 v3) * 2 ^ 8)) ||| BitVec.ofInt 64 (IntKind.wrap .i64 v4)).toNat)))) (by kernel_rfl) fun a hX => ?_
      have hX := back hX
      refine ddone (by kernel_rfl) ?_
      refine hK5 _ _ ?_
      refine wp_ret ?_
      have hr := Option.some.inj (show some _ = some _ from h0)
      subst hr
      exact hX.ret0 (ss := [.v (.int .i64 (IntKind.wrap .i64 ((BitVec.ofInt 64 (IntKind.wrap .i64 ((IntKind.wrap .i64 v3) * 2 ^ 8)) ||| BitVec.ofInt 64 (IntKind.wrap .i64 v4)).toNat)))]) (by kernel_rfl) (by kernel_rfl) rfl
  refine wp_region_list ?_
  refine hX.part [] 3 [0, 1, 7] (l' := [(0, .v (.string ⟨⟨u⟩⟩)), (1, .v (.int .i64 i)), (7, .v (.bool (decide (i < 0))))]) (B' := []) (by kernel_rfl) fun ρ w a hX => ?_
  refine ite_go h0 (fun hb h0 => ?_) (fun hb h0 => ?_)
  · have hX := hX.relit 7 hb (by kernel_rfl)
    refine hX.part [2] 5 [0, 1, 12] (l' := [(0, .v (.string ⟨⟨u⟩⟩)), (1, .v (.int .i64 i)), (12, .v (.bool true))]) (B' := []) (by kernel_rfl) fun ρ w a hX => ?_
    refine wpList_end ?_
    have hX := hX.keeps [0, 1, 12] (l' := [(0, .v (.string ⟨⟨u⟩⟩)), (1, .v (.int .i64 i)), (12, .v (.bool true))]) (by kernel_rfl)
    exact J3 true h0  _ _ _ _ hX
  · have hX := hX.relit 7 hb (by kernel_rfl)
    refine hX.part [2] 2 [0, 1, 7, 8, 9] (l' := [(0, .v (.string ⟨⟨u⟩⟩)), (1, .v (.int .i64 i)), (7, .v (.bool false)), (8, .v (.int .i64 i)), (9, .v (.string ⟨⟨u⟩⟩))]) (B' := []) (by kernel_rfl) fun ρ w a hX => ?_
    obtain ⟨v1, hv1, h0⟩ := bnd_some h0
    refine Cx.call0 hX (lit := [2]) (by kernel_rfl) rfl (by kernel_rfl) ⟨⟨_, Tryd.func22, by kernel_rfl, rfl⟩⟩ (ss := [.v (.string ⟨⟨u⟩⟩)]) (by kernel_rfl) [.v (.string ⟨⟨u⟩⟩)] rfl (fun hg => hg) (fun hv hle hg => units_Len.ok u v1 hv1 _ _ hv (hG.mono hle) hg _) (fun s F w a hp hX => ?_)
    subst hp
    refine hX.part [2] 2 [0, 1, 12] (l' := [(0, .v (.string ⟨⟨u⟩⟩)), (1, .v (.int .i64 i)), (12, .v (.bool (decide (i ≥ v1))))]) (B' := []) (by kernel_rfl) fun ρ w a hX => ?_
    refine wpList_end ?_
    have hX := hX.keeps [0, 1, 12] (l' := [(0, .v (.string ⟨⟨u⟩⟩)), (1, .v (.int .i64 i)), (12, .v (.bool (decide (i ≥ v1))))]) (by kernel_rfl)
    exact J3 (decide (i ≥ v1)) h0  _ _ _ _ hX
def strings_IndexByte (s_ : Str) (c : Int) : Option (Int) := some (Lib.indexByte s_ c.toNat.toUInt8)
theorem strings_IndexByte.ok (s_ : Str) (c : Int) (r : Int) (h0 : strings_IndexByte s_ c = some r) (w0 : World) (F0 : Heap) (hv : F0.Sub w0) (hG : Glob F0) (hg : SV.goods F0 [.v (.string ⟨⟨s_⟩⟩), .v (.int .u8 c)]) (ρ : Nat → Nat) :
    Calls Tryd.prog 32 (SV.dens ρ [.v (.string ⟨⟨s_⟩⟩), .v (.int .u8 c)]).toArray w0 (Ret0 w0 F0 fun s => s = .v (.int .i64 r)) := by
  refine (Tryd.strings_IndexByte ⟨⟨s_⟩⟩ c w0).mono fun e w' h => ?_
  cases h0
  exact Ret0.pure (s := .v _) hv h.1 h.2 trivial rfl rfl
def internal_strconv_isPowerOfTwo_c16 : Option (Bool) :=
  some true
theorem internal_strconv_isPowerOfTwo_c16.ok (r : Bool) (h0 : internal_strconv_isPowerOfTwo_c16 = some r) (w0 : World) (F0 : Heap) (hv : F0.Sub w0) (hG : Glob F0) (hg : SV.goods F0 [.v (.int .i64 16)]) (ρ : Nat → Nat) :
    Calls Tryd.prog 64 (SV.dens ρ [.v (.int .i64 16)]).toArray w0 (Ret0 w0 F0 fun s => s = .v (.bool r)) := by
  refine calls_of_wp Tryd.func64 rfl ?_
  have hX := Cx.enter (D := No) (B := []) (L := []) (ρ := ρ) (N := 8) Tryd.ntmps64 [.v (.int .i64 16)] (St.start hv) rfl hg (by kernel_rfl) (fun _ h => by cases h) (Nat.le_of_ble_eq_true rfl) No.unfix
  unfold internal_strconv_isPowerOfTwo_c16 at h0
  refine Cx.rseq hX [] [0] (l' := [(0, .v (.int .i64 16))]) (B' := []) (by kernel_rfl) fun ρ w a hX => ?_
  refine Cx.rseq hX [] [2] (l' := [(2, .v (.bool true))]) (B' := []) (by kernel_rfl) fun ρ w a hX => ?_
  refine wp_ret ?_
  have hr := Option.some.inj (show some _ = some _ from h0)
  subst hr
  exact hX.ret0 (ss := [.v (.bool true)]) (by kernel_rfl) (by kernel_rfl) rfl
def math_bits_TrailingZeros64_c16 : Option (Int) :=
  some 4
theorem math_bits_TrailingZeros64_c16.ok (r : Int) (h0 : math_bits_TrailingZeros64_c16 = some r) (w0 : World) (F0 : Heap) (hv : F0.Sub w0) (hG : Glob F0) (hg : SV.goods F0 [.v (.int .u64 16)]) (ρ : Nat → Nat) :
    Calls Tryd.prog 77 (SV.dens ρ [.v (.int .u64 16)]).toArray w0 (Ret0 w0 F0 fun s => s = .v (.int .i64 r)) := by
  refine calls_of_wp Tryd.func77 rfl ?_
  have hX := Cx.enter (D := No) (B := []) (L := []) (ρ := ρ) (N := 14) Tryd.ntmps77 [.v (.int .u64 16)] (St.start hv) rfl hg (by kernel_rfl) (fun _ h => by cases h) (Nat.le_of_ble_eq_true rfl) No.unfix
  unfold math_bits_TrailingZeros64_c16 at h0
  refine Cx.rseq hX [] [0] (l' := [(0, .v (.int .u64 16))]) (B' := []) (by kernel_rfl) fun ρ w a hX => ?_
  refine wp_seq_k fun K2 hK2 => ?_
  refine Cx.rseq hX [] [0, 4] (l' := [(0, .v (.int .u64 16)), (4, .v (.bool false))]) (B' := []) (by kernel_rfl) fun ρ w a hX => ?_
  refine Cx.cond hX (b := false) (by kernel_rfl) (fun h => by cases h) (fun _ => ?_)
  refine wp_skip ?_
  refine hK2 _ _ ?_
  refine wp_seq_k fun K4 hK4 => ?_
  refine wp_region_list ?_
  refine hX.part [] 6 [10] (l' := [(10, .v (.int .u64 15))]) (B' := []) (by kernel_rfl) fun ρ w a hX => ?_
  refine hX.globAt (k := .u64) (lit := []) (by kernel_rfl) (by kernel_rfl) rfl (g := 3) (n := 15) (by kernel_rfl) (by kernel_rfl) (by kernel_rfl) (hG.mono hX.st.le).g3_15 fun a hX => ?_
  refine hX.part [] 3 [2] (l' := [(2, .v (.int .i64 4))]) (B' := []) (by kernel_rfl) fun ρ w a hX => ?_
  refine wpList_end ?_
  refine hK4 _ _ ?_
  refine wp_ret ?_
  have hr := Option.some.inj (show some _ = some _ from h0)
  subst hr
  exact hX.ret0 (ss := [.v (.int .i64 4)]) (by kernel_rfl) (by kernel_rfl) rfl
def math_bits_TrailingZeros_c16 : Option (Int) :=
  Option.bind (math_bits_TrailingZeros64_c16) fun v1 =>
  some v1
theorem math_bits_TrailingZeros_c16.ok (r : Int) (h0 : math_bits_TrailingZeros_c16 = some r) (w0 : World) (F0 : Heap) (hv : F0.Sub w0) (hG : Glob F0) (hg : SV.goods F0 [.v (.int .u64 16)]) (ρ : Nat → Nat) :
    Calls Tryd.prog 65 (SV.dens ρ [.v (.int .u64 16)]).toArray w0 (Ret0 w0 F0 fun s => s = .v (.int .i64 r)) := by
  refine calls_of_wp Tryd.func65 rfl ?_
  have hX := Cx.enter (D := No) (B := []) (L := []) (ρ := ρ) (N := 8) Tryd.ntmps65 [.v (.int .u64 16)] (St.start hv) rfl hg (by kernel_rfl) (fun _ h => by cases h) (Nat.le_of_ble_eq_true rfl) No.unfix
  unfold math_bits_TrailingZeros_c16 at h0
  refine Cx.rseq hX [] [0] (l' := [(0, .v (.int .u64 16))]) (B' := []) (by kernel_rfl) fun ρ w a hX => ?_
  refine wp_seq_k fun K2 hK2 => ?_
  refine Cx.cond hX (b := false) (by kernel_rfl) (fun h => by cases h) (fun _ => ?_)
  refine wp_skip ?_
  refine hK2 _ _ ?_
  refine wp_seq_k fun K3 hK3 => ?_
  refine wp_region_list ?_
  refine hX.part [] 1 [6] (l' := [(6, .v (.int .u64 16))]) (B' := []) (by kernel_rfl) fun ρ w a hX => ?_
  obtain ⟨v1, hv1, h0⟩ := bnd_some h0
  refine Cx.call0 hX (lit := []) (by kernel_rfl) rfl (by kernel_rfl) ⟨⟨_, Tryd.func77, by kernel_rfl, rfl⟩⟩ (ss := [.v (.int .u64 16)]) (by kernel_rfl) [.v (.int .u64 16)] rfl (fun hg => hg) (fun hv hle hg => math_bits_TrailingZeros64_c16.ok v1 hv1 _ _ hv (hG.mono hle) hg _) (fun s F w a hp hX => ?_)
  subst hp
  refine hX.part [] 1 [2] (l' := [(2, .v (.int .i64 v1))]) (B' := []) (by kernel_rfl) fun ρ w a hX => ?_
  refine wpList_end ?_
  refine hK3 _ _ ?_
  refine wp_ret ?_
  have hr := Option.some.inj (show some _ = some _ from h0)
  subst hr
  exact hX.ret0 (ss := [.v (.int .i64 v1)]) (by kernel_rfl) (by kernel_rfl) rfl
def internal_strconv_formatBits_cn_c16_cfalse.l1 (v4 : Int) (s : Int × Int × (List UInt8)) : Option ((Int × Int × (List UInt8)) ⊕ ((Int × Int × (List UInt8)))) := match s with
  | (x9, x10, x11) =>
  if (decide (x9 ≥ 16)) = true then
    Option.bind (getB ([48, 49, 50, 51, 52, 53, 54, 55, 56, 57, 97, 98, 99, 100, 101, 102, 103, 104, 105, 106, 107, 108, 109, 110, 111, 112, 113, 114, 115, 116, 117, 118, 119, 120, 121, 122] : Str) (IntKind.wrap .u64 ((BitVec.ofInt 64 x9 &&& BitVec.ofInt 64 15).toNat))) fun v12 =>
    Option.bind (arrI 65 x11 (IntKind.wrap .i64 (x10 - 1))) fun v13 =>
    Option.bind (toB v12) fun b14 =>
    Option.bind (shrI .u64 x9 (IntKind.wrap .u64 v4)) fun v15 =>
    some (.inl (v15, (IntKind.wrap .i64 (x10 - 1)), (setI x11 (IntKind.wrap .i64 (x10 - 1)) b14)))
  else
    some (.inr (x9, x10, x11))
def internal_strconv_formatBits_cn_c16_cfalse.j3 (x48 : Int) (x49 : List UInt8) : Option ((List UInt8) × Str) :=
  Option.bind (cutA 65 x49 x48 ((x49.length : Nat) : Int)) fun v50 =>
  some (([] : List UInt8), v50)
def internal_strconv_formatBits_cn_c16_cfalse.j2 (neg : Bool) (x45 : Int) (x46 : List UInt8) : Option ((List UInt8) × Str) :=
  if neg = true then
    Option.bind (arrI 65 x46 (IntKind.wrap .i64 (x45 - 1))) fun v47 =>
    internal_strconv_formatBits_cn_c16_cfalse.j3 (IntKind.wrap .i64 (x45 - 1)) (setI x46 (IntKind.wrap .i64 (x45 - 1)) (45 : UInt8))
  else
    internal_strconv_formatBits_cn_c16_cfalse.j3 x45 x46
def internal_strconv_formatBits_cn_c16_cfalse.l2 (s : Int × Int × (List UInt8)) : Option ((Int × Int × (List UInt8)) ⊕ ((Int × Int × (List UInt8)))) := match s with
  | (x29, x30, x31) =>
  if (decide (x29 ≥ 16)) = true then
    Option.bind (quoI .u64 x29 16) fun v32 =>
    Option.bind (getB ([48, 49, 50, 51, 52, 53, 54, 55, 56, 57, 97, 98, 99, 100, 101, 102, 103, 104, 105, 106, 107, 108, 109, 110, 111, 112, 113, 114, 115, 116, 117, 118, 119, 120, 121, 122] : Str) (IntKind.wrap .u64 (x29 - (IntKind.wrap .u64 (v32 * 16))))) fun v33 =>
    Option.bind (arrI 65 x31 (IntKind.wrap .i64 (x30 - 1))) fun v34 =>
    Option.bind (toB v33) fun b35 =>
    some (.inl (v32, (IntKind.wrap .i64 (x30 - 1)), (setI x31 (IntKind.wrap .i64 (x30 - 1)) b35)))
  else
    some (.inr (x29, x30, x31))
def internal_strconv_formatBits_cn_c16_cfalse.j1 (neg : Bool) (x2 : Int) : Option ((List UInt8) × Str) :=
  Option.bind (internal_strconv_isPowerOfTwo_c16) fun v3 =>
  if v3 = true then
    Option.bind (math_bits_TrailingZeros_c16) fun v4 =>
    Option.bind (loopM (internal_strconv_formatBits_cn_c16_cfalse.l1 v4) (x2, 65, (List.replicate 65 (0 : UInt8)))) fun e => match e with
    | (x19, x20, x21) =>
      Option.bind (getB ([48, 49, 50, 51, 52, 53, 54, 55, 56, 57, 97, 98, 99, 100, 101, 102, 103, 104, 105, 106, 107, 108, 109, 110, 111, 112, 113, 114, 115, 116, 117, 118, 119, 120, 121, 122] : Str) x19) fun v22 =>
      Option.bind (arrI 65 x21 (IntKind.wrap .i64 (x20 - 1))) fun v23 =>
      Option.bind (toB v22) fun b24 =>
      internal_strconv_formatBits_cn_c16_cfalse.j2 neg (IntKind.wrap .i64 (x20 - 1)) (setI x21 (IntKind.wrap .i64 (x20 - 1)) b24)
  else
    Option.bind (loopM (internal_strconv_formatBits_cn_c16_cfalse.l2) (x2, 65, (List.replicate 65 (0 : UInt8)))) fun e => match e with
    | (x39, x40, x41) =>
      Option.bind (getB ([48, 49, 50, 51, 52, 53, 54, 55, 56, 57, 97, 98, 99, 100, 101, 102, 103, 104, 105, 106, 107, 108, 109, 110, 111, 112, 113, 114, 115, 116, 117, 118, 119, 120, 121, 122] : Str) x39) fun v42 =>
      Option.bind (arrI 65 x41 (IntKind.wrap .i64 (x40 - 1))) fun v43 =>
      Option.bind (toB v42) fun b44 =>
      internal_strconv_formatBits_cn_c16_cfalse.j2 neg (IntKind.wrap .i64 (x40 - 1)) (setI x41 (IntKind.wrap .i64 (x40 - 1)) b44)
def internal_strconv_formatBits_cn_c16_cfalse (u : Int) (neg : Bool) : Option ((List UInt8) × Str) :=
  if neg = true then
    internal_strconv_formatBits_cn_c16_cfalse.j1 neg (IntKind.wrap .u64 (0 - u))
  else
    internal_strconv_formatBits_cn_c16_cfalse.j1 neg u
theorem internal_strconv_formatBits_cn_c16_cfalse.ok (u : Int) (neg : Bool) (r : (List UInt8) × Str) (h0 : internal_strconv_formatBits_cn_c16_cfalse u neg = some r) (w0 : World) (F0 : Heap) (hv : F0.Sub w0) (hG : Glob F0) (hg : SV.goods F0 [.v (.slice none 0 0), .v (.int .u64 u), .v (.int .i64 16), .v (.bool neg), .v (.bool false)]) (ρ : Nat → Nat) :
    Calls Tryd.prog 53 (SV.dens ρ [.v (.slice none 0 0), .v (.int .u64 u), .v (.int .i64 16), .v (.bool neg), .v (.bool false)]).toArray w0 (Ret0 w0 F0 fun s => ∃ s1 s2, s = .tup [s1, s2] ∧ (∃ A c, s1 = SV.sl kByte r.1 A c) ∧ (s2 = .v (.string ⟨⟨r.2⟩⟩))) := by
  refine calls_of_wp Tryd.func53 rfl ?_
  have hX := Cx.enter (D := No) (B := []) (L := []) (ρ := ρ) (N := 102) Tryd.ntmps53 [.v (.slice none 0 0), .v (.int .u64 u), .v (.int .i64 16), .v (.bool neg), .v (.bool false)] (St.start hv) rfl hg (by kernel_rfl) (fun _ h => by cases h) (Nat.le_of_ble_eq_true rfl) No.unfix
  unfold internal_strconv_formatBits_cn_c16_cfalse at h0
  refine Cx.rseq hX [] [0, 1, 2, 3, 4, 10, 11] (l' := [(0, .v (.slice none 0 0)), (1, .v (.int .u64 u)), (2, .v (.int .i64 16)), (3, .v (.bool neg)), (4, .v (.bool false)), (10, .v (.slice none 0 0)), (11, .v (.string ⟨⟨([] : Str)⟩⟩))]) (B' := []) (by kernel_rfl) fun ρ w a hX => ?_
  refine wp_seq_k fun K2 hK2 => ?_
  refine Cx.rseq hX [2, 6] [0, 1, 2, 3, 4, 10, 11, 28] (l' := [(0, .v (.slice none 0 0)), (1, .v (.int .u64 u)), (2, .v (.int .i64 16)), (3, .v (.bool neg)), (4, .v (.bool false)), (10, .v (.slice none 0 0)), (11, .v (.string ⟨⟨([] : Str)⟩⟩)), (28, .v (.bool false))]) (B' := []) (by kernel_rfl) fun ρ w a hX => ?_
  refine Cx.cond hX (b := false) (by kernel_rfl) (fun h => by cases h) (fun _ => ?_)
  refine wp_skip ?_
  refine hK2 _ _ ?_
  refine wp_seq_k fun K4 hK4 => ?_
  refine wp_region_list ?_
  refine hX.part [] 0 [0, 1, 2, 3, 4, 10, 11] (l' := [(0, .v (.slice none 0 0)), (1, .v (.int .u64 u)), (2, .v (.int .i64 16)), (3, .v (.bool neg)), (4, .v (.bool false)), (10, .v (.slice none 0 0)), (11, .v (.string ⟨⟨([] : Str)⟩⟩))]) (B' := []) (by kernel_rfl) fun ρ w a hX => ?_
  refine hX.part [] 1 [0, 1, 2, 3, 4, 10, 11, 12] (l' := [(0, .v (.slice none 0 0)), (1, .v (.int .u64 u)), (2, .v (.int .i64 16)), (3, .v (.bool neg)), (4, .v (.bool false)), (10, .v (.slice none 0 0)), (11, .v (.string ⟨⟨([] : Str)⟩⟩)), (12, .ptr 0 0)]) (B' := [some ⟨82, [.v (.int .u8 0), .v (.int .u8 0), .v (.int .u8 0), .v (.int .u8 0), .v (.int .u8 0), .v (.int .u8 0), .v (.int .u8 0), .v (.int .u8 0), .v (.int .u8 0), .v (.int .u8 0), .v (.int .u8 0), .v (.int .u8 0), .v (.int .u8 0), .v (.int .u8 0), .v (.int .u8 0), .v (.int .u8 0), .v (.int .u8 0), .v (.int .u8 0), .v (.int .u8 0), .v (.int .u8 0), .v (.int .u8 0), .v (.int .u8 0), .v (.int .u8 0), .v (.int .u8 0), .v (.int .u8 0), .v (.int .u8 0), .v (.int .u8 0), .v (.int .u8 0), .v (.int .u8 0), .v (.int .u8 0), .v (.int .u8 0), .v (.int .u8 0), .v (.int .u8 0), .v (.int .u8 0), .v (.int .u8 0), .v (.int .u8 0), .v (.int .u8 0), .v (.int .u8 0), .v (.int .u8 0), .v (.int .u8 0), .v (.int .u8 0), .v (.int .u8 0), .v (.int .u8 0), .v (.int .u8 0), .v (.int .u8 0), .v (.int .u8 0), .v (.int .u8 0), .v (.int .u8 0), .v (.int .u8 0), .v (.int .u8 0), .v (.int .u8 0), .v (.int .u8 0), .v (.int .u8 0), .v (.int .u8 0), .v (.int .u8 0), .v (.int .u8 0), .v (.int .u8 0), .v (.int .u8 0), .v (.int .u8 0), .v (.int .u8 0), .v (.int .u8 0), .v (.int .u8 0), .v (.int .u8 0), .v (.int .u8 0), .v (.int .u8 0)]⟩]) (by kernel_rfl) fun ρ w a hX => ?_
  obtain ⟨b1, hX⟩ := Cx.boxArr (d := kByte) (e := 82) (k := 0) (t := 12) (m := 65) (List.replicate 65 ((0 : UInt8), ())) hX rfl (by kernel_rfl) (by kernel_rfl) rfl (by decide) ⟨_, rfl⟩ rfl
  have hX : Cx 102 _ _ _ _ _ [accP 82 kByte (some ⟨b1, 0, none⟩) 65 (List.replicate 65 (0 : UInt8))] [none] ρ _ _ := hX
  refine hX.part [] 0 [0, 1, 2, 3, 4, 10, 11, 12] (l' := [(0, .v (.slice none 0 0)), (1, .v (.int .u64 u)), (2, .v (.int .i64 16)), (3, .v (.bool neg)), (4, .v (.bool false)), (10, .v (.slice none 0 0)), (11, .v (.string ⟨⟨([] : Str)⟩⟩)), (12, .v (.pointer (some ⟨b1, 0, none⟩)))]) (B' := [none]) (by kernel_rfl) fun ρ w a hX => ?_
  refine wpList_end ?_
  refine hK4 _ _ ?_
  refine Cx.rseq hX [] [0, 1, 2, 3, 4, 10, 11, 12, 13] (l' := [(0, .v (.slice none 0 0)), (1, .v (.int .u64 u)), (2, .v (.int .i64 16)), (3, .v (.bool neg)), (4, .v (.bool false)), (10, .v (.slice none 0 0)), (11, .v (.string ⟨⟨([] : Str)⟩⟩)), (12, .v (.pointer (some ⟨b1, 0, none⟩))), (13, .v (.int .i64 65))]) (B' := [none]) (by kernel_rfl) fun ρ w a hX => ?_
  refine wp_seq_k fun K6 hK6 => ?_
  have J6 : ∀ (x2 : Int), internal_strconv_formatBits_cn_c16_cfalse.j1 neg x2 = some r → ∀ (ρ : Nat → Nat) (w : World) (F : Heap) (a : Act), Cx 102 w0 F0 No w F [accP 82 kByte (some ⟨b1, 0, none⟩) 65 (List.replicate 65 (0 : UInt8))] [] ρ [(0, .v (.slice none 0 0)), (1, .v (.int .u64 x2)), (2, .v (.int .i64 16)), (3, .v (.bool neg)), (4, .v (.bool false)), (10, .v (.slice none 0 0)), (11, .v (.string ⟨⟨([] : Str)⟩⟩)), (12, .v (.pointer (some ⟨b1, 0, none⟩))), (13, .v (.int .i64 65))] a → K6 a w := by
    intro x2 h0  ρ w F a hX
    unfold internal_strconv_formatBits_cn_c16_cfalse.j1 at h0
    refine hK6 _ _ ?_
    refine wp_seq_k fun K8 hK8 => ?_
    have J8 : ∀ (x45 : Int) (x46 : List UInt8), internal_strconv_formatBits_cn_c16_cfalse.j2 neg x45 x46 = some r → ∀ (ρ : Nat → Nat) (w : World) (F : Heap) (a : Act), Cx 102 w0 F0 No w F [accP 82 kByte (some ⟨b1, 0, none⟩) 65 x46] [] ρ [(0, .v (.slice none 0 0)), (3, .v (.bool neg)), (4, .v (.bool false)), (10, .v (.slice none 0 0)), (11, .v (.string ⟨⟨([] : Str)⟩⟩)), (12, .v (.pointer (some ⟨b1, 0, none⟩))), (13, .v (.int .i64 x45))] a → K8 a w := by
      intro x45 x46 h0  ρ w F a hX
      unfold internal_strconv_formatBits_cn_c16_cfalse.j2 at h0
      refine hK8 _ _ ?_
      refine wp_seq_k fun K36 hK36 => ?_
      have J36 : ∀ (x48 : Int) (x49 : List UInt8), internal_strconv_formatBits_cn_c16_cfalse.j3 x48 x49 = some r → ∀ (ρ : Nat → Nat) (w : World) (F : Heap) (a : Act), Cx 102 w0 F0 No w F [accP 82 kByte (some ⟨b1, 0, none⟩) 65 x49] [] ρ [(0, .v (.slice none 0 0)), (4, .v (.bool false)), (10, .v (.slice none 0 0)), (11, .v (.string ⟨⟨([] : Str)⟩⟩)), (12, .v (.pointer (some ⟨b1, 0, none⟩))), (13, .v (.int .i64 x48))] a → K36 a w := by
        intro x48 x49 h0  ρ w F a hX
        unfold internal_strconv_formatBits_cn_c16_cfalse.j3 at h0
        refine hK36 _ _ ?_
        refine wp_seq_k fun K39 hK39 => ?_
        refine Cx.rseq hX [] [0, 10, 11, 12, 13, 94] (l' := [(0, .v (.slice none 0 0)), (10, .v (.slice none 0 0)), (11, .v (.string ⟨⟨([] : Str)⟩⟩)), (12, .v (.pointer (some ⟨b1, 0, none⟩))), (13, .v (.int .i64 x48)), (94, .v (.bool false))]) (B' := []) (by kernel_rfl) fun ρ w a hX => ?_
        refine Cx.cond hX (b := false) (by kernel_rfl) (fun h => by cases h) (fun _ => ?_)
        refine wp_skip ?_
        refine hK39 _ _ ?_
        refine wp_seq_k fun K41 hK41 => ?_
        refine wp_region_list ?_
        refine hX.part [] 1 [10, 11, 12, 99] (l' := [(10, .v (.slice none 0 0)), (11, .v (.string ⟨⟨([] : Str)⟩⟩)), (12, .v (.pointer (some ⟨b1, 0, none⟩))), (99, .v (.int .i64 x48))]) (B' := []) (by kernel_rfl) fun ρ w a hX => ?_
        obtain ⟨v50, hv50, h0⟩ := bnd_some h0
        have hmv50 := (cutA_some hv50).1
        replace hv50 := (cutA_some hv50).2
        refine hX.cutArr (d := kByte) (e := 5) (e2 := 82) (i := 0) (b := b1) (m := 65) (xs := x49) (ol := some x48) (oh := none) (r := v50) (lit := []) (by kernel_rfl) (by kernel_rfl) rfl hmv50 rfl (by kernel_rfl) (by kernel_rfl) (by kernel_rfl) (by kernel_rfl) (by kernel_rfl) hv50 fun F A51 c52 a hX => ?_
        have hX : Cx 102 _ _ _ _ _ [] [] ρ _ _ := hX
        refine hX.part [] 0 [10, 11, 100] (l' := [(10, .v (.slice none 0 0)), (11, .v (.string ⟨⟨([] : Str)⟩⟩)), (100, SV.sl kByte v50 A51 c52)]) (B' := []) (by kernel_rfl) fun ρ w a hX => ?_
        refine hX.strSl (lit := []) (by kernel_rfl) (by kernel_rfl) rfl (e := 5) (xs := v50) (A := A51) (c := c52) (by kernel_rfl) (by kernel_rfl) (by kernel_rfl) (by kernel_rfl) fun a hX => ?_
        refine hX.part [] 1 [10, 11] (l' := [(10, .v (.slice none 0 0)), (11, .v (.string ⟨⟨v50⟩⟩))]) (B' := []) (by kernel_rfl) fun ρ w a hX => ?_
        refine wpList_end ?_
        refine hK41 _ _ ?_
        refine wp_ret ?_
        have hX := hX.nilSl 10 kByte (by kernel_rfl)
        have hr := Option.some.inj (show some _ = some _ from h0)
        subst hr
        exact hX.ret0 (ss := [SV.sl kByte ([] : List UInt8) none 0, .v (.string ⟨⟨v50⟩⟩)]) (by kernel_rfl) (by kernel_rfl) ⟨_, _, rfl, ⟨_, _, rfl⟩, rfl⟩
      refine Cx.rseq hX [] [0, 4, 10, 11, 12, 13, 89] (l' := [(0, .v (.slice none 0 0)), (4, .v (.bool false)), (10, .v (.slice none 0 0)), (11, .v (.string ⟨⟨([] : Str)⟩⟩)), (12, .v (.pointer (some ⟨b1, 0, none⟩))), (13, .v (.int .i64 x45)), (89, .v (.bool neg))]) (B' := []) (by kernel_rfl) fun ρ w a hX => ?_
      refine Cx.cond hX (b := neg) (by kernel_rfl) (fun hb => ?_) (fun hb => ?_)
      · have h0 := ite_tt h0 hb
        refine Cx.rseq hX [] [0, 4, 10, 11, 12, 13] (l' := [(0, .v (.slice none 0 0)), (4, .v (.bool false)), (10, .v (.slice none 0 0)), (11, .v (.string ⟨⟨([] : Str)⟩⟩)), (12, .v (.pointer (some ⟨b1, 0, none⟩))), (13, .v (.int .i64 (IntKind.wrap .i64 (x45 - 1))))]) (B' := []) (by kernel_rfl) fun ρ w a hX => ?_
        refine wp_region_list ?_
        refine hX.part [] 1 [0, 4, 10, 11, 12, 13, 92] (l' := [(0, .v (.slice none 0 0)), (4, .v (.bool false)), (10, .v (.slice none 0 0)), (11, .v (.string ⟨⟨([] : Str)⟩⟩)), (12, .v (.pointer (some ⟨b1, 0, none⟩))), (13, .v (.int .i64 (IntKind.wrap .i64 (x45 - 1)))), (92, .v (.int .i64 (IntKind.wrap .i64 (x45 - 1))))]) (B' := []) (by kernel_rfl) fun ρ w a hX => ?_
        obtain ⟨v47, hv47, h0⟩ := bnd_some h0
        have hmv47 := (arrI_some hv47).1
        replace hv47 := (arrI_some hv47).2
        refine hX.accAddrA (d := kByte) (e := 5) (b := b1) (xs := x46) (k := .i64) (n := (IntKind.wrap .i64 (x45 - 1))) (v := v47) (lit := []) (by kernel_rfl) (by kernel_rfl) rfl (by kernel_rfl) (by kernel_rfl) (by kernel_rfl) (by kernel_rfl) hv47 hmv47 fun a hX => ?_
        refine hX.part [] 0 [0, 4, 10, 11, 12, 13, 93] (l' := [(0, .v (.slice none 0 0)), (4, .v (.bool false)), (10, .v (.slice none 0 0)), (11, .v (.string ⟨⟨([] : Str)⟩⟩)), (12, .v (.pointer (some ⟨b1, 0, none⟩))), (13, .v (.int .i64 (IntKind.wrap .i64 (x45 - 1)))), (93, .v (.pointer (some ⟨b1, (IntKind.wrap .i64 (x45 - 1)).toNat * 1, none⟩)))]) (B' := []) (by kernel_rfl) fun ρ w a hX => ?_
        refine hX.accStore (d := kByte) (lit := []) (e := 82) (i := 0) (b := b1) (xs := x46) (c := 65) (n := (IntKind.wrap .i64 (x45 - 1))) (v := v47) (u := (45 : UInt8)) (y := ()) (s := .v (.int .u8 45)) (by kernel_rfl) rfl rfl rfl (by kernel_rfl) (by kernel_rfl) (by kernel_rfl) (by kernel_rfl) ⟨_, rfl⟩ hv47 fun w a hX => ?_
        have hX : Cx 102 _ _ _ _ _ [accP 82 kByte (some ⟨b1, 0, none⟩) 65 (setI x46 (IntKind.wrap .i64 (x45 - 1)) (45 : UInt8))] [] ρ _ _ := hX
        refine hX.part [] 0 [0, 4, 10, 11, 12, 13] (l' := [(0, .v (.slice none 0 0)), (4, .v (.bool false)), (10, .v (.slice none 0 0)), (11, .v (.string ⟨⟨([] : Str)⟩⟩)), (12, .v (.pointer (some ⟨b1, 0, none⟩))), (13, .v (.int .i64 (IntKind.wrap .i64 (x45 - 1))))]) (B' := []) (by kernel_rfl) fun ρ w a hX => ?_
        refine wpList_end ?_
        have hX := hX.keeps [0, 4, 10, 11, 12, 13] (l' := [(0, .v (.slice none 0 0)), (4, .v (.bool false)), (10, .v (.slice none 0 0)), (11, .v (.string ⟨⟨([] : Str)⟩⟩)), (12, .v (.pointer (some ⟨b1, 0, none⟩))), (13, .v (.int .i64 (IntKind.wrap .i64 (x45 - 1))))]) (by kernel_rfl)
        exact J36 (IntKind.wrap .i64 (x45 - 1)) (setI x46 (IntKind.wrap .i64 (x45 - 1)) (45 : UInt8)) h0  _ _ _ _ hX
      · have h0 := ite_ff h0 hb
        refine wp_skip ?_
        have hX := hX.keeps [0, 4, 10, 11, 12, 13] (l' := [(0, .v (.slice none 0 0)), (4, .v (.bool false)), (10, .v (.slice none 0 0)), (11, .v (.string ⟨⟨([] : Str)⟩⟩)), (12, .v (.pointer (some ⟨b1, 0, none⟩))), (13, .v (.int .i64 x45))]) (by kernel_rfl)
        exact J36 x45 x46 h0  _ _ _ _ hX
    refine wp_seq_k fun K9 hK9 => ?_
    refine wp_region_list ?_
    refine hX.part [] 1 [0, 1, 2, 3, 4, 10, 11, 12, 13, 33] (l' := [(0, .v (.slice none 0 0)), (1, .v (.int .u64 x2)), (2, .v (.int .i64 16)), (3, .v (.bool neg)), (4, .v (.bool false)), (10, .v (.slice none 0 0)), (11, .v (.string ⟨⟨([] : Str)⟩⟩)), (12, .v (.pointer (some ⟨b1, 0, none⟩))), (13, .v (.int .i64 65)), (33, .v (.int .i64 16))]) (B' := []) (by kernel_rfl) fun ρ w a hX => ?_
    obtain ⟨v3, hv3, h0⟩ := bnd_some h0
    refine Cx.call0 hX (lit := []) (by kernel_rfl) rfl (by kernel_rfl) ⟨⟨_, Tryd.func64, by kernel_rfl, rfl⟩⟩ (ss := [.v (.int .i64 16)]) (by kernel_rfl) [.v (.int .i64 16)] rfl (fun hg => hg) (fun hv hle hg => internal_strconv_isPowerOfTwo_c16.ok v3 hv3 _ _ hv (hG.mono hle) hg _) (fun s F w a hp hX => ?_)
    subst hp
    refine hX.part [] 0 [0, 1, 2, 3, 4, 10, 11, 12, 13, 34] (l' := [(0, .v (.slice none 0 0)), (1, .v (.int .u64 x2)), (2, .v (.int .i64 16)), (3, .v (.bool neg)), (4, .v (.bool false)), (10, .v (.slice none 0 0)), (11, .v (.string ⟨⟨([] : Str)⟩⟩)), (12, .v (.pointer (some ⟨b1, 0, none⟩))), (13, .v (.int .i64 65)), (34, .v (.bool v3))]) (B' := []) (by kernel_rfl) fun ρ w a hX => ?_
    refine wpList_end ?_
    refine hK9 _ _ ?_
    refine Cx.cond hX (b := v3) (by kernel_rfl) (fun hb => ?_) (fun hb => ?_)
    · have h0 := ite_tt h0 hb
      refine wp_seq_k fun K10 hK10 => ?_
      refine wp_region_list ?_
      refine hX.part [] 2 [0, 1, 2, 3, 4, 10, 11, 12, 13, 36] (l' := [(0, .v (.slice none 0 0)), (1, .v (.int .u64 x2)), (2, .v (.int .i64 16)), (3, .v (.bool neg)), (4, .v (.bool false)), (10, .v (.slice none 0 0)), (11, .v (.string ⟨⟨([] : Str)⟩⟩)), (12, .v (.pointer (some ⟨b1, 0, none⟩))), (13, .v (.int .i64 65)), (36, .v (.int .u64 16))]) (B' := []) (by kernel_rfl) fun ρ w a hX => ?_
      obtain ⟨v4, hv4, h0⟩ := bnd_some h0
      refine Cx.call0 hX (lit := []) (by kernel_rfl) rfl (by kernel_rfl) ⟨⟨_, Tryd.func65, by kernel_rfl, rfl⟩⟩ (ss := [.v (.int .u64 16)]) (by kernel_rfl) [.v (.int .u64 16)] rfl (fun hg => hg) (fun hv hle hg => math_bits_TrailingZeros_c16.ok v4 hv4 _ _ hv (hG.mono hle) hg _) (fun s F w a hp hX => ?_)
      subst hp
      refine hX.part [] 2 [0, 1, 2, 3, 4, 10, 11, 12, 13, 14] (l' := [(0, .v (.slice none 0 0)), (1, .v (.int .u64 x2)), (2, .v (.int .i64 16)), (3, .v (.bool neg)), (4, .v (.bool false)), (10, .v (.slice none 0 0)), (11, .v (.string ⟨⟨([] : Str)⟩⟩)), (12, .v (.pointer (some ⟨b1, 0, none⟩))), (13, .v (.int .i64 65)), (14, .v (.int .u64 (IntKind.wrap .u64 v4)))]) (B' := []) (by kernel_rfl) fun ρ w a hX => ?_
      refine wpList_end ?_
      refine hK10 _ _ ?_
      refine Cx.rseq hX [] [0, 1, 2, 3, 4, 10, 11, 12, 13, 14, 15] (l' := [(0, .v (.slice none 0 0)), (1, .v (.int .u64 x2)), (2, .v (.int .i64 16)), (3, .v (.bool neg)), (4, .v (.bool false)), (10, .v (.slice none 0 0)), (11, .v (.string ⟨⟨([] : Str)⟩⟩)), (12, .v (.pointer (some ⟨b1, 0, none⟩))), (13, .v (.int .i64 65)), (14, .v (.int .u64 (IntKind.wrap .u64 v4))), (15, .v (.int .u64 16))]) (B' := []) (by kernel_rfl) fun ρ w a hX => ?_
      refine Cx.rseq hX [] [0, 1, 3, 4, 10, 11, 12, 13, 14, 15, 16] (l' := [(0, .v (.slice none 0 0)), (1, .v (.int .u64 x2)), (3, .v (.bool neg)), (4, .v (.bool false)), (10, .v (.slice none 0 0)), (11, .v (.string ⟨⟨([] : Str)⟩⟩)), (12, .v (.pointer (some ⟨b1, 0, none⟩))), (13, .v (.int .i64 65)), (14, .v (.int .u64 (IntKind.wrap .u64 v4))), (15, .v (.int .u64 16)), (16, .v (.int .u64 15))]) (B' := []) (by kernel_rfl) fun ρ w a hX => ?_
      refine wp_seq_k fun K13 hK13 => ?_
      refine wp_block ?_
      have hX := hX.keeps [0, 1, 3, 4, 10, 11, 12, 13, 14, 15, 16] (l' := [(0, .v (.slice none 0 0)), (1, .v (.int .u64 x2)), (3, .v (.bool neg)), (4, .v (.bool false)), (10, .v (.slice none 0 0)), (11, .v (.string ⟨⟨([] : Str)⟩⟩)), (12, .v (.pointer (some ⟨b1, 0, none⟩))), (13, .v (.int .i64 65)), (14, .v (.int .u64 (IntKind.wrap .u64 v4))), (15, .v (.int .u64 16)), (16, .v (.int .u64 15))]) (by kernel_rfl)
      obtain ⟨e1, he1, h0⟩ := bnd_some h0
      have E1x0 : ∀ (x19 : Int) (x20 : Int) (x21 : List UInt8), e1 = (x19, x20, x21) → ∀ (ρ : Nat → Nat) (w : World) (F : Heap) (a : Act), Cx 102 w0 F0 No w F [accP 82 kByte (some ⟨b1, 0, none⟩) 65 x21] [] ρ [(0, .v (.slice none 0 0)), (1, .v (.int .u64 x19)), (3, .v (.bool neg)), (4, .v (.bool false)), (10, .v (.slice none 0 0)), (11, .v (.string ⟨⟨([] : Str)⟩⟩)), (12, .v (.pointer (some ⟨b1, 0, none⟩))), (13, .v (.int .i64 x20))] a → K13 a w := by
        intro x19 x20 x21 he  ρ w F a hX
        replace he := he.symm
        subst he
        (try dsimp only at h0)
        refine hK13 _ _ ?_
        refine Cx.rseq hX [] [0, 1, 3, 4, 10, 11, 12, 13] (l' := [(0, .v (.slice none 0 0)), (1, .v (.int .u64 x19)), (3, .v (.bool neg)), (4, .v (.bool false)), (10, .v (.slice none 0 0)), (11, .v (.string ⟨⟨([] : Str)⟩⟩)), (12, .v (.pointer (some ⟨b1, 0, none⟩))), (13, .v (.int .i64 (IntKind.wrap .i64 (x20 - 1))))]) (B' := []) (by kernel_rfl) fun ρ w a hX => ?_
        refine wp_region_list ?_
        refine hX.part [] 2 [0, 3, 4, 10, 11, 12, 13, 60, 61] (l' := [(0, .v (.slice none 0 0)), (3, .v (.bool neg)), (4, .v (.bool false)), (10, .v (.slice none 0 0)), (11, .v (.string ⟨⟨([] : Str)⟩⟩)), (12, .v (.pointer (some ⟨b1, 0, none⟩))), (13, .v (.int .i64 (IntKind.wrap .i64 (x20 - 1)))), (60, .v (.int .i64 (IntKind.wrap .i64 (x20 - 1)))), (61, .v (.int .u64 x19))]) (B' := []) (by kernel_rfl) fun ρ w a hX => ?_
        obtain ⟨v22, hv22, h0⟩ := bnd_some h0
        refine hX.idxStr (lit := []) (by kernel_rfl) (by kernel_rfl) rfl (s := ([48, 49, 50, 51, 52, 53, 54, 55, 56, 57, 97, 98, 99, 100, 101, 102, 103, 104, 105, 106, 107, 108, 109, 110, 111, 112, 113, 114, 115, 116, 117, 118, 119, 120, 121, 122] : Str)) (k := .u64) (n := x19) (b := v22) (by kernel_rfl) (by kernel_rfl) (by kernel_rfl) hv22 fun a hX => ?_
        refine hX.part [] 0 [0, 3, 4, 10, 11, 12, 13, 60, 62] (l' := [(0, .v (.slice none 0 0)), (3, .v (.bool neg)), (4, .v (.bool false)), (10, .v (.slice none 0 0)), (11, .v (.string ⟨⟨([] : Str)⟩⟩)), (12, .v (.pointer (some ⟨b1, 0, none⟩))), (13, .v (.int .i64 (IntKind.wrap .i64 (x20 - 1)))), (60, .v (.int .i64 (IntKind.wrap .i64 (x20 - 1)))), (62, .v (.int .u8 v22))]) (B' := []) (by kernel_rfl) fun ρ w a hX => ?_
        obtain ⟨v23, hv23, h0⟩ := bnd_some h0
        have hmv23 := (arrI_some hv23).1
        replace hv23 := (arrI_some hv23).2
        refine hX.accAddrA (d := kByte) (e := 5) (b := b1) (xs := x21) (k := .i64) (n := (IntKind.wrap .i64 (x20 - 1))) (v := v23) (lit := []) (by kernel_rfl) (by kernel_rfl) rfl (by kernel_rfl) (by kernel_rfl) (by kernel_rfl) (by kernel_rfl) hv23 hmv23 fun a hX => ?_
        refine hX.part [] 0 [0, 3, 4, 10, 11, 12, 13, 62, 63] (l' := [(0, .v (.slice none 0 0)), (3, .v (.bool neg)), (4, .v (.bool false)), (10, .v (.slice none 0 0)), (11, .v (.string ⟨⟨([] : Str)⟩⟩)), (12, .v (.pointer (some ⟨b1, 0, none⟩))), (13, .v (.int .i64 (IntKind.wrap .i64 (x20 - 1)))), (62, .v (.int .u8 v22)), (63, .v (.pointer (some ⟨b1, (IntKind.wrap .i64 (x20 - 1)).toNat * 1, none⟩)))]) (B' := []) (by kernel_rfl) fun ρ w a hX => ?_
        obtain ⟨b24, hb24, h0⟩ := bnd_some h0
        have hX := hX.retell (t := 62) (s := .v (.int .u8 v22)) (s' := .v (.int .u8 ((b24.toNat : Nat) : Int))) (by kernel_rfl) (by simp only [SV.den, toB_some hb24]) trivial rfl
        refine hX.accStore (d := kByte) (lit := []) (e := 82) (i := 0) (b := b1) (xs := x21) (c := 65) (n := (IntKind.wrap .i64 (x20 - 1))) (v := v23) (u := b24) (y := ()) (s := .v (.int .u8 ((b24.toNat : Nat) : Int))) (by kernel_rfl) rfl rfl rfl (by kernel_rfl) (by kernel_rfl) (by kernel_rfl) (by kernel_rfl) ⟨_, rfl⟩ hv23 fun w a hX => ?_
        have hX : Cx 102 _ _ _ _ _ [accP 82 kByte (some ⟨b1, 0, none⟩) 65 (setI x21 (IntKind.wrap .i64 (x20 - 1)) b24)] [] ρ _ _ := hX
        refine hX.part [] 0 [0, 3, 4, 10, 11, 12, 13] (l' := [(0, .v (.slice none 0 0)), (3, .v (.bool neg)), (4, .v (.bool false)), (10, .v (.slice none 0 0)), (11, .v (.string ⟨⟨([] : Str)⟩⟩)), (12, .v (.pointer (some ⟨b1, 0, none⟩))), (13, .v (.int .i64 (IntKind.wrap .i64 (x20 - 1))))]) (B' := []) (by kernel_rfl) fun ρ w a hX => ?_
        refine wpList_end ?_
        have hX := hX.keeps [0, 3, 4, 10, 11, 12, 13] (l' := [(0, .v (.slice none 0 0)), (3, .v (.bool neg)), (4, .v (.bool false)), (10, .v (.slice none 0 0)), (11, .v (.string ⟨⟨([] : Str)⟩⟩)), (12, .v (.pointer (some ⟨b1, 0, none⟩))), (13, .v (.int .i64 (IntKind.wrap .i64 (x20 - 1))))]) (by kernel_rfl)
        exact J8 (IntKind.wrap .i64 (x20 - 1)) (setI x21 (IntKind.wrap .i64 (x20 - 1)) b24) h0  _ _ _ _ hX
      refine loop_go (fun (s : Int × Int × (List UInt8)) a w => match s with | (x9, x10, x11) => ∃ (ρ : Nat → Nat) (F : Heap), Cx 102 w0 F0 No w F [accP 82 kByte (some ⟨b1, 0, none⟩) 65 x11] [] ρ [(0, .v (.slice none 0 0)), (1, .v (.int .u64 x9)), (3, .v (.bool neg)), (4, .v (.bool false)), (10, .v (.slice none 0 0)), (11, .v (.string ⟨⟨([] : Str)⟩⟩)), (12, .v (.pointer (some ⟨b1, 0, none⟩))), (13, .v (.int .i64 x10)), (14, .v (.int .u64 (IntKind.wrap .u64 v4))), (15, .v (.int .u64 16)), (16, .v (.int .u64 15))] a) he1 (fun LW1 s o1 h1 hb1 hx1 a w hI => ?_) _ _ ?_
      · obtain ⟨x9, x10, x11⟩ := s
        obtain ⟨ρ, F, hX⟩ := hI
        unfold internal_strconv_formatBits_cn_c16_cfalse.l1 at h1
        (try dsimp only at h1)
        refine wp_seq_k fun K18 hK18 => ?_
        refine Cx.rseq hX [] [0, 1, 3, 4, 10, 11, 12, 13, 14, 15, 16, 46] (l' := [(0, .v (.slice none 0 0)), (1, .v (.int .u64 x9)), (3, .v (.bool neg)), (4, .v (.bool false)), (10, .v (.slice none 0 0)), (11, .v (.string ⟨⟨([] : Str)⟩⟩)), (12, .v (.pointer (some ⟨b1, 0, none⟩))), (13, .v (.int .i64 x10)), (14, .v (.int .u64 (IntKind.wrap .u64 v4))), (15, .v (.int .u64 16)), (16, .v (.int .u64 15)), (46, .v (.bool (decide (x9 ≥ 16))))]) (B' := []) (by kernel_rfl) fun ρ w a hX => ?_
        refine Cx.cond hX (b := (decide (x9 ≥ 16))) (by kernel_rfl) (fun hb => ?_) (fun hb => ?_)
        · have h1 := ite_tt h1 hb
          refine wp_skip ?_
          refine hK18 _ _ ?_
          refine wp_block ?_
          refine Cx.rseq hX [] [0, 1, 3, 4, 10, 11, 12, 13, 14, 15, 16] (l' := [(0, .v (.slice none 0 0)), (1, .v (.int .u64 x9)), (3, .v (.bool neg)), (4, .v (.bool false)), (10, .v (.slice none 0 0)), (11, .v (.string ⟨⟨([] : Str)⟩⟩)), (12, .v (.pointer (some ⟨b1, 0, none⟩))), (13, .v (.int .i64 (IntKind.wrap .i64 (x10 - 1)))), (14, .v (.int .u64 (IntKind.wrap .u64 v4))), (15, .v (.int .u64 16)), (16, .v (.int .u64 15))]) (B' := []) (by kernel_rfl) fun ρ w a hX => ?_
          refine wp_seq_k fun K21 hK21 => ?_
          refine wp_region_list ?_
          refine hX.part [] 4 [0, 1, 3, 4, 10, 11, 12, 13, 14, 15, 16, 49, 52] (l' := [(0, .v (.slice none 0 0)), (1, .v (.int .u64 x9)), (3, .v (.bool neg)), (4, .v (.bool false)), (10, .v (.slice none 0 0)), (11, .v (.string ⟨⟨([] : Str)⟩⟩)), (12, .v (.pointer (some ⟨b1, 0, none⟩))), (13, .v (.int .i64 (IntKind.wrap .i64 (x10 - 1)))), (14, .v (.int .u64 (IntKind.wrap .u64 v4))), (15, .v (.int .u64 16)), (16, .v (.int .u64 15)), (49, .v (.int .i64 (IntKind.wrap .i64 (x10 - 1)))), (52, .v (.int .u64 (IntKind.wrap .u64 ((BitVec.ofInt 64 x9 &&& BitVec.ofInt 64 15).toNat))))]) (B' := []) (by kernel_rfl) fun ρ w a hX => ?_
          obtain ⟨v12, hv12, h1⟩ := bnd_some h1
          refine hX.idxStr (lit := []) (by kernel_rfl) (by kernel_rfl) rfl (s := ([48, 49, 50, 51, 52, 53, 54, 55, 56, 57, 97, 98, 99, 100, 101, 102, 103, 104, 105, 106, 107, 108, 109, 110, 111, 112, 113, 114, 115, 116, 117, 118, 119, 120, 121, 122] : Str)) (k := .u64) (n := (IntKind.wrap .u64 ((BitVec.ofInt 64 x9 &&& BitVec.ofInt 64 15).toNat))) (b := v12) (by kernel_rfl) (by kernel_rfl) (by kernel_rfl) hv12 fun a hX => ?_
          refine hX.part [] 0 [0, 1, 3, 4, 10, 11, 12, 13, 14, 15, 16, 49, 53] (l' := [(0, .v (.slice none 0 0)), (1, .v (.int .u64 x9)), (3, .v (.bool neg)), (4, .v (.bool false)), (10, .v (.slice none 0 0)), (11, .v (.string ⟨⟨([] : Str)⟩⟩)), (12, .v (.pointer (some ⟨b1, 0, none⟩))), (13, .v (.int .i64 (IntKind.wrap .i64 (x10 - 1)))), (14, .v (.int .u64 (IntKind.wrap .u64 v4))), (15, .v (.int .u64 16)), (16, .v (.int .u64 15)), (49, .v (.int .i64 (IntKind.wrap .i64 (x10 - 1)))), (53, .v (.int .u8 v12))]) (B' := []) (by kernel_rfl) fun ρ w a hX => ?_
          obtain ⟨v13, hv13, h1⟩ := bnd_some h1
          have hmv13 := (arrI_some hv13).1
          replace hv13 := (arrI_some hv13).2
          refine hX.accAddrA (d := kByte) (e := 5) (b := b1) (xs := x11) (k := .i64) (n := (IntKind.wrap .i64 (x10 - 1))) (v := v13) (lit := []) (by kernel_rfl) (by kernel_rfl) rfl (by kernel_rfl) (by kernel_rfl) (by kernel_rfl) (by kernel_rfl) hv13 hmv13 fun a hX => ?_
          refine hX.part [] 0 [0, 1, 3, 4, 10, 11, 12, 13, 14, 15, 16, 53, 54] (l' := [(0, .v (.slice none 0 0)), (1, .v (.int .u64 x9)), (3, .v (.bool neg)), (4, .v (.bool false)), (10, .v (.slice none 0 0)), (11, .v (.string ⟨⟨([] : Str)⟩⟩)), (12, .v (.pointer (some ⟨b1, 0, none⟩))), (13, .v (.int .i64 (IntKind.wrap .i64 (x10 - 1)))), (14, .v (.int .u64 (IntKind.wrap .u64 v4))), (15, .v (.int .u64 16)), (16, .v (.int .u64 15)), (53, .v (.int .u8 v12)), (54, .v (.pointer (some ⟨b1, (IntKind.wrap .i64 (x10 - 1)).toNat * 1, none⟩)))]) (B' := []) (by kernel_rfl) fun ρ w a hX => ?_
          obtain ⟨b14, hb14, h1⟩ := bnd_some h1
          have hX := hX.retell (t := 53) (s := .v (.int .u8 v12)) (s' := .v (.int .u8 ((b14.toNat : Nat) : Int))) (by kernel_rfl) (by simp only [SV.den, toB_some hb14]) trivial rfl
          refine hX.accStore (d := kByte) (lit := []) (e := 82) (i := 0) (b := b1) (xs := x11) (c := 65) (n := (IntKind.wrap .i64 (x10 - 1))) (v := v13) (u := b14) (y := ()) (s := .v (.int .u8 ((b14.toNat : Nat) : Int))) (by kernel_rfl) rfl rfl rfl (by kernel_rfl) (by kernel_rfl) (by kernel_rfl) (by kernel_rfl) ⟨_, rfl⟩ hv13 fun w a hX => ?_
          have hX : Cx 102 _ _ _ _ _ [accP 82 kByte (some ⟨b1, 0, none⟩) 65 (setI x11 (IntKind.wrap .i64 (x10 - 1)) b14)] [] ρ _ _ := hX
          refine hX.part [] 0 [0, 1, 3, 4, 10, 11, 12, 13, 14, 15, 16] (l' := [(0, .v (.slice none 0 0)), (1, .v (.int .u64 x9)), (3, .v (.bool neg)), (4, .v (.bool false)), (10, .v (.slice none 0 0)), (11, .v (.string ⟨⟨([] : Str)⟩⟩)), (12, .v (.pointer (some ⟨b1, 0, none⟩))), (13, .v (.int .i64 (IntKind.wrap .i64 (x10 - 1)))), (14, .v (.int .u64 (IntKind.wrap .u64 v4))), (15, .v (.int .u64 16)), (16, .v (.int .u64 15))]) (B' := []) (by kernel_rfl) fun ρ w a hX => ?_
          refine wpList_end ?_
          refine hK21 _ _ ?_
          refine wp_region_list ?_
          refine hX.part [] 2 [0, 1, 3, 4, 10, 11, 12, 13, 14, 15, 16, 55, 56] (l' := [(0, .v (.slice none 0 0)), (1, .v (.int .u64 x9)), (3, .v (.bool neg)), (4, .v (.bool false)), (10, .v (.slice none 0 0)), (11, .v (.string ⟨⟨([] : Str)⟩⟩)), (12, .v (.pointer (some ⟨b1, 0, none⟩))), (13, .v (.int .i64 (IntKind.wrap .i64 (x10 - 1)))), (14, .v (.int .u64 (IntKind.wrap .u64 v4))), (15, .v (.int .u64 16)), (16, .v (.int .u64 15)), (55, .v (.int .u64 x9)), (56, .v (.int .u64 (IntKind.wrap .u64 v4)))]) (B' := []) (by kernel_rfl) fun ρ w a hX => ?_
          obtain ⟨v15, hv15, h1⟩ := bnd_some h1
          refine hX.arith (lit := []) (by kernel_rfl) (by kernel_rfl) rfl (k := .u64) (k' := .u64) (m := x9) (n := (IntKind.wrap .u64 v4)) (r := v15) (by kernel_rfl) (by kernel_rfl) (by decide) hv15 fun a hX => ?_
          refine hX.part [] 1 [0, 1, 3, 4, 10, 11, 12, 13, 14, 15, 16] (l' := [(0, .v (.slice none 0 0)), (1, .v (.int .u64 v15)), (3, .v (.bool neg)), (4, .v (.bool false)), (10, .v (.slice none 0 0)), (11, .v (.string ⟨⟨([] : Str)⟩⟩)), (12, .v (.pointer (some ⟨b1, 0, none⟩))), (13, .v (.int .i64 (IntKind.wrap .i64 (x10 - 1)))), (14, .v (.int .u64 (IntKind.wrap .u64 v4))), (15, .v (.int .u64 16)), (16, .v (.int .u64 15))]) (B' := []) (by kernel_rfl) fun ρ w a hX => ?_
          refine wpList_end ?_
          have hX := hX.keeps [0, 1, 3, 4, 10, 11, 12, 13, 14, 15, 16] (l' := [(0, .v (.slice none 0 0)), (1, .v (.int .u64 v15)), (3, .v (.bool neg)), (4, .v (.bool false)), (10, .v (.slice none 0 0)), (11, .v (.string ⟨⟨([] : Str)⟩⟩)), (12, .v (.pointer (some ⟨b1, 0, none⟩))), (13, .v (.int .i64 (IntKind.wrap .i64 (x10 - 1)))), (14, .v (.int .u64 (IntKind.wrap .u64 v4))), (15, .v (.int .u64 16)), (16, .v (.int .u64 15))]) (by kernel_rfl)
          exact hb1 (v15, (IntKind.wrap .i64 (x10 - 1)), (setI x11 (IntKind.wrap .i64 (x10 - 1)) b14)) (out_eq h1) _ _ ⟨_, _, hX⟩
        · have h1 := ite_ff h1 hb
          refine wp_exit ?_
          have hX := hX.keeps [0, 1, 3, 4, 10, 11, 12, 13] (l' := [(0, .v (.slice none 0 0)), (1, .v (.int .u64 x9)), (3, .v (.bool neg)), (4, .v (.bool false)), (10, .v (.slice none 0 0)), (11, .v (.string ⟨⟨([] : Str)⟩⟩)), (12, .v (.pointer (some ⟨b1, 0, none⟩))), (13, .v (.int .i64 x10))]) (by kernel_rfl)
          exact E1x0 x9 x10 x11 (hx1 _ (out_eq h1)).symm  _ _ _ _ hX
      · exact ⟨_, _, hX⟩
    · have h0 := ite_ff h0 hb
      refine Cx.rseq hX [] [0, 1, 3, 4, 10, 11, 12, 13, 17] (l' := [(0, .v (.slice none 0 0)), (1, .v (.int .u64 x2)), (3, .v (.bool neg)), (4, .v (.bool false)), (10, .v (.slice none 0 0)), (11, .v (.string ⟨⟨([] : Str)⟩⟩)), (12, .v (.pointer (some ⟨b1, 0, none⟩))), (13, .v (.int .i64 65)), (17, .v (.int .u64 16))]) (B' := []) (by kernel_rfl) fun ρ w a hX => ?_
      refine wp_seq_k fun K24 hK24 => ?_
      refine wp_block ?_
      have hX := hX.keeps [0, 1, 3, 4, 10, 11, 12, 13, 17] (l' := [(0, .v (.slice none 0 0)), (1, .v (.int .u64 x2)), (3, .v (.bool neg)), (4, .v (.bool false)), (10, .v (.slice none 0 0)), (11, .v (.string ⟨⟨([] : Str)⟩⟩)), (12, .v (.pointer (some ⟨b1, 0, none⟩))), (13, .v (.int .i64 65)), (17, .v (.int .u64 16))]) (by kernel_rfl)
      obtain ⟨e1, he1, h0⟩ := bnd_some h0
      have E1x0 : ∀ (x39 : Int) (x40 : Int) (x41 : List UInt8), e1 = (x39, x40, x41) → ∀ (ρ : Nat → Nat) (w : World) (F : Heap) (a : Act), Cx 102 w0 F0 No w F [accP 82 kByte (some ⟨b1, 0, none⟩) 65 x41] [] ρ [(0, .v (.slice none 0 0)), (1, .v (.int .u64 x39)), (3, .v (.bool neg)), (4, .v (.bool false)), (10, .v (.slice none 0 0)), (11, .v (.string ⟨⟨([] : Str)⟩⟩)), (12, .v (.pointer (some ⟨b1, 0, none⟩))), (13, .v (.int .i64 x40))] a → K24 a w := by
        intro x39 x40 x41 he  ρ w F a hX
        replace he := he.symm
        subst he
        (try dsimp only at h0)
        refine hK24 _ _ ?_
        refine Cx.rseq hX [] [0, 1, 3, 4, 10, 11, 12, 13] (l' := [(0, .v (.slice none 0 0)), (1, .v (.int .u64 x39)), (3, .v (.bool neg)), (4, .v (.bool false)), (10, .v (.slice none 0 0)), (11, .v (.string ⟨⟨([] : Str)⟩⟩)), (12, .v (.pointer (some ⟨b1, 0, none⟩))), (13, .v (.int .i64 (IntKind.wrap .i64 (x40 - 1))))]) (B' := []) (by kernel_rfl) fun ρ w a hX => ?_
        refine wp_region_list ?_
        refine hX.part [] 2 [0, 3, 4, 10, 11, 12, 13, 85, 86] (l' := [(0, .v (.slice none 0 0)), (3, .v (.bool neg)), (4, .v (.bool false)), (10, .v (.slice none 0 0)), (11, .v (.string ⟨⟨([] : Str)⟩⟩)), (12, .v (.pointer (some ⟨b1, 0, none⟩))), (13, .v (.int .i64 (IntKind.wrap .i64 (x40 - 1)))), (85, .v (.int .i64 (IntKind.wrap .i64 (x40 - 1)))), (86, .v (.int .u64 x39))]) (B' := []) (by kernel_rfl) fun ρ w a hX => ?_
        obtain ⟨v42, hv42, h0⟩ := bnd_some h0
        refine hX.idxStr (lit := []) (by kernel_rfl) (by kernel_rfl) rfl (s := ([48, 49, 50, 51, 52, 53, 54, 55, 56, 57, 97, 98, 99, 100, 101, 102, 103, 104, 105, 106, 107, 108, 109, 110, 111, 112, 113, 114, 115, 116, 117, 118, 119, 120, 121, 122] : Str)) (k := .u64) (n := x39) (b := v42) (by kernel_rfl) (by kernel_rfl) (by kernel_rfl) hv42 fun a hX => ?_
        refine hX.part [] 0 [0, 3, 4, 10, 11, 12, 13, 85, 87] (l' := [(0, .v (.slice none 0 0)), (3, .v (.bool neg)), (4, .v (.bool false)), (10, .v (.slice none 0 0)), (11, .v (.string ⟨⟨([] : Str)⟩⟩)), (12, .v (.pointer (some ⟨b1, 0, none⟩))), (13, .v (.int .i64 (IntKind.wrap .i64 (x40 - 1)))), (85, .v (.int .i64 (IntKind.wrap .i64 (x40 - 1)))), (87, .v (.int .u8 v42))]) (B' := []) (by kernel_rfl) fun ρ w a hX => ?_
        obtain ⟨v43, hv43, h0⟩ := bnd_some h0
        have hmv43 := (arrI_some hv43).1
        replace hv43 := (arrI_some hv43).2
        refine hX.accAddrA (d := kByte) (e := 5) (b := b1) (xs := x41) (k := .i64) (n := (IntKind.wrap .i64 (x40 - 1))) (v := v43) (lit := []) (by kernel_rfl) (by kernel_rfl) rfl (by kernel_rfl) (by kernel_rfl) (by kernel_rfl) (by kernel_rfl) hv43 hmv43 fun a hX => ?_
        refine hX.part [] 0 [0, 3, 4, 10, 11, 12, 13, 87, 88] (l' := [(0, .v (.slice none 0 0)), (3, .v (.bool neg)), (4, .v (.bool false)), (10, .v (.slice none 0 0)), (11, .v (.string ⟨⟨([] : Str)⟩⟩)), (12, .v (.pointer (some ⟨b1, 0, none⟩))), (13, .v (.int .i64 (IntKind.wrap .i64 (x40 - 1)))), (87, .v (.int .u8 v42)), (88, .v (.pointer (some ⟨b1, (IntKind.wrap .i64 (x40 - 1)).toNat * 1, none⟩)))]) (B' := []) (by kernel_rfl) fun ρ w a hX => ?_
        obtain ⟨b44, hb44, h0⟩ := bnd_some h0
        have hX := hX.retell (t := 87) (s := .v (.int .u8 v42)) (s' := .v (.int .u8 ((b44.toNat : Nat) : Int))) (by kernel_rfl) (by simp only [SV.den, toB_some hb44]) trivial rfl
        refine hX.accStore (d := kByte) (lit := []) (e := 82) (i := 0) (b := b1) (xs := x41) (c := 65) (n := (IntKind.wrap .i64 (x40 - 1))) (v := v43) (u := b44) (y := ()) (s := .v (.int .u8 ((b44.toNat : Nat) : Int))) (by kernel_rfl) rfl rfl rfl (by kernel_rfl) (by kernel_rfl) (by kernel_rfl) (by kernel_rfl) ⟨_, rfl⟩ hv43 fun w a hX => ?_
        have hX : Cx 102 _ _ _ _ _ [accP 82 kByte (some ⟨b1, 0, none⟩) 65 (setI x41 (IntKind.wrap .i64 (x40 - 1)) b44)] [] ρ _ _ := hX
        refine hX.part [] 0 [0, 3, 4, 10, 11, 12, 13] (l' := [(0, .v (.slice none 0 0)), (3, .v (.bool neg)), (4, .v (.bool false)), (10, .v (.slice none 0 0)), (11, .v (.string ⟨⟨([] : Str)⟩⟩)), (12, .v (.pointer (some ⟨b1, 0, none⟩))), (13, .v (.int .i64 (IntKind.wrap .i64 (x40 - 1))))]) (B' := []) (by kernel_rfl) fun ρ w a hX => ?_
        refine wpList_end ?_
        have hX := hX.keeps [0, 3, 4, 10, 11, 12, 13] (l' := [(0, .v (.slice none 0 0)), (3, .v (.bool neg)), (4, .v (.bool false)), (10, .v (.slice none 0 0)), (11, .v (.string ⟨⟨([] : Str)⟩⟩)), (12, .v (.pointer (some ⟨b1, 0, none⟩))), (13, .v (.int .i64 (IntKind.wrap .i64 (x40 - 1))))]) (by kernel_rfl)
        exact J8 (IntKind.wrap .i64 (x40 - 1)) (setI x41 (IntKind.wrap .i64 (x40 - 1)) b44) h0  _ _ _ _ hX
      refine loop_go (fun (s : Int × Int × (List UInt8)) a w => match s with | (x29, x30, x31) => ∃ (ρ : Nat → Nat) (F : Heap), Cx 102 w0 F0 No w F [accP 82 kByte (some ⟨b1, 0, none⟩) 65 x31] [] ρ [(0, .v (.slice none 0 0)), (1, .v (.int .u64 x29)), (3, .v (.bool neg)), (4, .v (.bool false)), (10, .v (.slice none 0 0)), (11, .v (.string ⟨⟨([] : Str)⟩⟩)), (12, .v (.pointer (some ⟨b1, 0, none⟩))), (13, .v (.int .i64 x30)), (17, .v (.int .u64 16))] a) he1 (fun LW1 s o1 h1 hb1 hx1 a w hI => ?_) _ _ ?_
      · obtain ⟨x29, x30, x31⟩ := s
        obtain ⟨ρ, F, hX⟩ := hI
        unfold internal_strconv_formatBits_cn_c16_cfalse.l2 at h1
        (try dsimp only at h1)
        refine wp_seq_k fun K30 hK30 => ?_
        refine Cx.rseq hX [] [0, 1, 3, 4, 10, 11, 12, 13, 17, 68] (l' := [(0, .v (.slice none 0 0)), (1, .v (.int .u64 x29)), (3, .v (.bool neg)), (4, .v (.bool false)), (10, .v (.slice none 0 0)), (11, .v (.string ⟨⟨([] : Str)⟩⟩)), (12, .v (.pointer (some ⟨b1, 0, none⟩))), (13, .v (.int .i64 x30)), (17, .v (.int .u64 16)), (68, .v (.bool (decide (x29 ≥ 16))))]) (B' := []) (by kernel_rfl) fun ρ w a hX => ?_
        refine Cx.cond hX (b := (decide (x29 ≥ 16))) (by kernel_rfl) (fun hb => ?_) (fun hb => ?_)
        · have h1 := ite_tt h1 hb
          refine wp_skip ?_
          refine hK30 _ _ ?_
          refine wp_block ?_
          refine Cx.rseq hX [] [0, 1, 3, 4, 10, 11, 12, 13, 17] (l' := [(0, .v (.slice none 0 0)), (1, .v (.int .u64 x29)), (3, .v (.bool neg)), (4, .v (.bool false)), (10, .v (.slice none 0 0)), (11, .v (.string ⟨⟨([] : Str)⟩⟩)), (12, .v (.pointer (some ⟨b1, 0, none⟩))), (13, .v (.int .i64 (IntKind.wrap .i64 (x30 - 1)))), (17, .v (.int .u64 16))]) (B' := []) (by kernel_rfl) fun ρ w a hX => ?_
          refine wp_seq_k fun K33 hK33 => ?_
          refine wp_region_list ?_
          refine hX.part [] 2 [0, 1, 3, 4, 10, 11, 12, 13, 17, 71, 72] (l' := [(0, .v (.slice none 0 0)), (1, .v (.int .u64 x29)), (3, .v (.bool neg)), (4, .v (.bool false)), (10, .v (.slice none 0 0)), (11, .v (.string ⟨⟨([] : Str)⟩⟩)), (12, .v (.pointer (some ⟨b1, 0, none⟩))), (13, .v (.int .i64 (IntKind.wrap .i64 (x30 - 1)))), (17, .v (.int .u64 16)), (71, .v (.int .u64 x29)), (72, .v (.int .u64 16))]) (B' := []) (by kernel_rfl) fun ρ w a hX => ?_
          obtain ⟨v32, hv32, h1⟩ := bnd_some h1
          refine hX.arith (lit := []) (by kernel_rfl) (by kernel_rfl) rfl (k := .u64) (k' := .u64) (m := x29) (n := 16) (r := v32) (by kernel_rfl) (by kernel_rfl) (by decide) hv32 fun a hX => ?_
          refine hX.part [] 1 [0, 1, 3, 4, 10, 11, 12, 13, 17, 18] (l' := [(0, .v (.slice none 0 0)), (1, .v (.int .u64 x29)), (3, .v (.bool neg)), (4, .v (.bool false)), (10, .v (.slice none 0 0)), (11, .v (.string ⟨⟨([] : Str)⟩⟩)), (12, .v (.pointer (some ⟨b1, 0, none⟩))), (13, .v (.int .i64 (IntKind.wrap .i64 (x30 - 1)))), (17, .v (.int .u64 16)), (18, .v (.int .u64 v32))]) (B' := []) (by kernel_rfl) fun ρ w a hX => ?_
          refine wpList_end ?_
          refine hK33 _ _ ?_
          refine wp_seq_k fun K34 hK34 => ?_
          refine wp_region_list ?_
          refine hX.part [] 6 [0, 3, 4, 10, 11, 12, 13, 17, 18, 74, 79] (l' := [(0, .v (.slice none 0 0)), (3, .v (.bool neg)), (4, .v (.bool false)), (10, .v (.slice none 0 0)), (11, .v (.string ⟨⟨([] : Str)⟩⟩)), (12, .v (.pointer (some ⟨b1, 0, none⟩))), (13, .v (.int .i64 (IntKind.wrap .i64 (x30 - 1)))), (17, .v (.int .u64 16)), (18, .v (.int .u64 v32)), (74, .v (.int .i64 (IntKind.wrap .i64 (x30 - 1)))), (79, .v (.int .u64 (IntKind.wrap .u64 (x29 - (IntKind.wrap .u64 (v32 * 16))))))]) (B' := []) (by kernel_rfl) fun ρ w a hX => ?_
          obtain ⟨v33, hv33, h1⟩ := bnd_some h1
          refine hX.idxStr (lit := []) (by kernel_rfl) (by kernel_rfl) rfl (s := ([48, 49, 50, 51, 52, 53, 54, 55, 56, 57, 97, 98, 99, 100, 101, 102, 103, 104, 105, 106, 107, 108, 109, 110, 111, 112, 113, 114, 115, 116, 117, 118, 119, 120, 121, 122] : Str)) (k := .u64) (n := (IntKind.wrap .u64 (x29 - (IntKind.wrap .u64 (v32 * 16))))) (b := v33) (by kernel_rfl) (by kernel_rfl) (by kernel_rfl) hv33 fun a hX => ?_
          refine hX.part [] 0 [0, 3, 4, 10, 11, 12, 13, 17, 18, 74, 80] (l' := [(0, .v (.slice none 0 0)), (3, .v (.bool neg)), (4, .v (.bool false)), (10, .v (.slice none 0 0)), (11, .v (.string ⟨⟨([] : Str)⟩⟩)), (12, .v (.pointer (some ⟨b1, 0, none⟩))), (13, .v (.int .i64 (IntKind.wrap .i64 (x30 - 1)))), (17, .v (.int .u64 16)), (18, .v (.int .u64 v32)), (74, .v (.int .i64 (IntKind.wrap .i64 (x30 - 1)))), (80, .v (.int .u8 v33))]) (B' := []) (by kernel_rfl) fun ρ w a hX => ?_
          obtain ⟨v34, hv34, h1⟩ := bnd_some h1
          have hmv34 := (arrI_some hv34).1
          replace hv34 := (arrI_some hv34).2
          refine hX.accAddrA (d := kByte) (e := 5) (b := b1) (xs := x31) (k := .i64) (n := (IntKind.wrap .i64 (x30 - 1))) (v := v34) (lit := []) (by kernel_rfl) (by kernel_rfl) rfl (by kernel_rfl) (by kernel_rfl) (by kernel_rfl) (by kernel_rfl) hv34 hmv34 fun a hX => ?_
          refine hX.part [] 0 [0, 3, 4, 10, 11, 12, 13, 17, 18, 80, 81] (l' := [(0, .v (.slice none 0 0)), (3, .v (.bool neg)), (4, .v (.bool false)), (10, .v (.slice none 0 0)), (11, .v (.string ⟨⟨([] : Str)⟩⟩)), (12, .v (.pointer (some ⟨b1, 0, none⟩))), (13, .v (.int .i64 (IntKind.wrap .i64 (x30 - 1)))), (17, .v (.int .u64 16)), (18, .v (.int .u64 v32)), (80, .v (.int .u8 v33)), (81, .v (.pointer (some ⟨b1, (IntKind.wrap .i64 (x30 - 1)).toNat * 1, none⟩)))]) (B' := []) (by kernel_rfl) fun ρ w a hX => ?_
          obtain ⟨b35, hb35, h1⟩ := bnd_some h1
          have hX := hX.retell (t := 80) (s := .v (.int .u8 v33)) (s' := .v (.int .u8 ((b35.toNat : Nat) : Int))) (by kernel_rfl) (by simp only [SV.den, toB_some hb35]) trivial rfl
          refine hX.accStore (d := kByte) (lit := []) (e := 82) (i := 0) (b := b1) (xs := x31) (c := 65) (n := (IntKind.wrap .i64 (x30 - 1))) (v := v34) (u := b35) (y := ()) (s := .v (.int .u8 ((b35.toNat : Nat) : Int))) (by kernel_rfl) rfl rfl rfl (by kernel_rfl) (by kernel_rfl) (by kernel_rfl) (by kernel_rfl) ⟨_, rfl⟩ hv34 fun w a hX => ?_
          have hX : Cx 102 _ _ _ _ _ [accP 82 kByte (some ⟨b1, 0, none⟩) 65 (setI x31 (IntKind.wrap .i64 (x30 - 1)) b35)] [] ρ _ _ := hX
          refine hX.part [] 0 [0, 3, 4, 10, 11, 12, 13, 17, 18] (l' := [(0, .v (.slice none 0 0)), (3, .v (.bool neg)), (4, .v (.bool false)), (10, .v (.slice none 0 0)), (11, .v (.string ⟨⟨([] : Str)⟩⟩)), (12, .v (.pointer (some ⟨b1, 0, none⟩))), (13, .v (.int .i64 (IntKind.wrap .i64 (x30 - 1)))), (17, .v (.int .u64 16)), (18, .v (.int .u64 v32))]) (B' := []) (by kernel_rfl) fun ρ w a hX => ?_
          refine wpList_end ?_
          refine hK34 _ _ ?_
          refine Cx.region hX [] [0, 1, 3, 4, 10, 11, 12, 13, 17] (l' := [(0, .v (.slice none 0 0)), (1, .v (.int .u64 v32)), (3, .v (.bool neg)), (4, .v (.bool false)), (10, .v (.slice none 0 0)), (11, .v (.string ⟨⟨([] : Str)⟩⟩)), (12, .v (.pointer (some ⟨b1, 0, none⟩))), (13, .v (.int .i64 (IntKind.wrap .i64 (x30 - 1)))), (17, .v (.int .u64 16))]) (B' := []) (by kernel_rfl) fun ρ w a hX => ?_
          have hX := hX.keeps [0, 1, 3, 4, 10, 11, 12, 13, 17] (l' := [(0, .v (.slice none 0 0)), (1, .v (.int .u64 v32)), (3, .v (.bool neg)), (4, .v (.bool false)), (10, .v (.slice none 0 0)), (11, .v (.string ⟨⟨([] : Str)⟩⟩)), (12, .v (.pointer (some ⟨b1, 0, none⟩))), (13, .v (.int .i64 (IntKind.wrap .i64 (x30 - 1)))), (17, .v (.int .u64 16))]) (by kernel_rfl)
          exact hb1 (v32, (IntKind.wrap .i64 (x30 - 1)), (setI x31 (IntKind.wrap .i64 (x30 - 1)) b35)) (out_eq h1) _ _ ⟨_, _, hX⟩
        · have h1 := ite_ff h1 hb
          refine wp_exit ?_
          have hX := hX.keeps [0, 1, 3, 4, 10, 11, 12, 13] (l' := [(0, .v (.slice none 0 0)), (1, .v (.int .u64 x29)), (3, .v (.bool neg)), (4, .v (.bool false)), (10, .v (.slice none 0 0)), (11, .v (.string ⟨⟨([] : Str)⟩⟩)), (12, .v (.pointer (some ⟨b1, 0, none⟩))), (13, .v (.int .i64 x30))]) (by kernel_rfl)
          exact E1x0 x29 x30 x31 (hx1 _ (out_eq h1)).symm  _ _ _ _ hX
      · exact ⟨_, _, hX⟩
  refine Cx.rseq hX [] [0, 1, 2, 3, 4, 10, 11, 12, 13, 30] (l' := [(0, .v (.slice none 0 0)), (1, .v (.int .u64 u)), (2, .v (.int .i64 16)), (3, .v (.bool neg)), (4, .v (.bool false)), (10, .v (.slice none 0 0)), (11, .v (.string ⟨⟨([] : Str)⟩⟩)), (12, .v (.pointer (some ⟨b1, 0, none⟩))), (13, .v (.int .i64 65)), (30, .v (.bool neg))]) (B' := [none]) (by kernel_rfl) fun ρ w a hX => ?_
  refine Cx.cond hX (b := neg) (by kernel_rfl) (fun hb => ?_) (fun hb => ?_)
  · have h0 := ite_tt h0 hb
    refine Cx.region hX [] [0, 1, 2, 3, 4, 10, 11, 12, 13] (l' := [(0, .v (.slice none 0 0)), (1, .v (.int .u64 (IntKind.wrap .u64 (0 - u)))), (2, .v (.int .i64 16)), (3, .v (.bool neg)), (4, .v (.bool false)), (10, .v (.slice none 0 0)), (11, .v (.string ⟨⟨([] : Str)⟩⟩)), (12, .v (.pointer (some ⟨b1, 0, none⟩))), (13, .v (.int .i64 65))]) (B' := [none]) (by kernel_rfl) fun ρ w a hX => ?_
    have hX := hX.keeps [0, 1, 2, 3, 4, 10, 11, 12, 13] (l' := [(0, .v (.slice none 0 0)), (1, .v (.int .u64 (IntKind.wrap .u64 (0 - u)))), (2, .v (.int .i64 16)), (3, .v (.bool neg)), (4, .v (.bool false)), (10, .v (.slice none 0 0)), (11, .v (.string ⟨⟨([] : Str)⟩⟩)), (12, .v (.pointer (some ⟨b1, 0, none⟩))), (13, .v (.int .i64 65))]) (by kernel_rfl)
    have hX := hX.shrink 0 (B' := []) (by kernel_rfl) (Nat.le_of_ble_eq_true rfl) (by kernel_rfl) (by kernel_rfl) (Nat.zero_le _)
    exact J6 (IntKind.wrap .u64 (0 - u)) h0  _ _ _ _ hX
  · have h0 := ite_ff h0 hb
    refine wp_skip ?_
    have hX := hX.keeps [0, 1, 2, 3, 4, 10, 11, 12, 13] (l' := [(0, .v (.slice none 0 0)), (1, .v (.int .u64 u)), (2, .v (.int .i64 16)), (3, .v (.bool neg)), (4, .v (.bool false)), (10, .v (.slice none 0 0)), (11, .v (.string ⟨⟨([] : Str)⟩⟩)), (12, .v (.pointer (some ⟨b1, 0, none⟩))), (13, .v (.int .i64 65))]) (by kernel_rfl)
    have hX := hX.shrink 0 (B' := []) (by kernel_rfl) (Nat.le_of_ble_eq_true rfl) (by kernel_rfl) (by kernel_rfl) (Nat.zero_le _)
    exact J6 u h0  _ _ _ _ hX
def internal_strconv_FormatInt_c16 (i : Int) : Option (Str) :=
  Option.bind (internal_strconv_formatBits_cn_c16_cfalse (IntKind.wrap .u64 i) (decide (i < 0))) fun v1 =>
  some v1.2
theorem internal_strconv_FormatInt_c16.ok (i : Int) (r : Str) (h0 : internal_strconv_FormatInt_c16 i = some r) (w0 : World) (F0 : Heap) (hv : F0.Sub w0) (hG : Glob F0) (hg : SV.goods F0 [.v (.int .i64 i), .v (.int .i64 16)]) (ρ : Nat → Nat) :
    Calls Tryd.prog 42 (SV.dens ρ [.v (.int .i64 i), .v (.int .i64 16)]).toArray w0 (Ret0 w0 F0 fun s => s = .v (.string ⟨⟨r⟩⟩)) := by
  refine calls_of_wp Tryd.func42 rfl ?_
  have hX := Cx.enter (D := No) (B := []) (L := []) (ρ := ρ) (N := 54) Tryd.ntmps42 [.v (.int .i64 i), .v (.int .i64 16)] (St.start hv) rfl hg (by kernel_rfl) (fun _ h => by cases h) (Nat.le_of_ble_eq_true rfl) No.unfix
  unfold internal_strconv_FormatInt_c16 at h0
  refine Cx.rseq hX [] [0, 1] (l' := [(0, .v (.int .i64 i)), (1, .v (.int .i64 16))]) (B' := []) (by kernel_rfl) fun ρ w a hX => ?_
  refine wp_seq_k fun K2 hK2 => ?_
  refine Cx.rseq hX [] [0, 1, 11] (l' := [(0, .v (.int .i64 i)), (1, .v (.int .i64 16)), (11, .v (.bool false))]) (B' := []) (by kernel_rfl) fun ρ w a hX => ?_
  refine Cx.cond hX (b := false) (by kernel_rfl) (fun h => by cases h) (fun _ => ?_)
  refine wp_skip ?_
  refine hK2 _ _ ?_
  refine wp_seq_k fun K4 hK4 => ?_
  refine wp_region_list ?_
  refine hX.part [] 5 [46, 47, 49] (l' := [(46, .v (.int .u64 (IntKind.wrap .u64 i))), (47, .v (.int .i64 16)), (49, .v (.bool (decide (i < 0))))]) (B' := []) (by kernel_rfl) fun ρ w a hX => ?_
  obtain ⟨v1, hv1, h0⟩ := bnd_some h0
  refine Cx.call0 hX (lit := []) (by kernel_rfl) rfl (by kernel_rfl) ⟨⟨_, Tryd.func53, by kernel_rfl, rfl⟩⟩ (ss := [.v (.slice none 0 0), .v (.int .u64 (IntKind.wrap .u64 i)), .v (.int .i64 16), .v (.bool (decide (i < 0))), .v (.bool false)]) (by kernel_rfl) [.v (.slice none 0 0), .v (.int .u64 (IntKind.wrap .u64 i)), .v (.int .i64 16), .v (.bool (decide (i < 0))), .v (.bool false)] rfl (fun hg => ⟨trivial, hg.2.1, hg.2.2.1, hg.2.2.2.1, hg.2.2.2.2.1, trivial⟩) (fun hv hle hg => internal_strconv_formatBits_cn_c16_cfalse.ok (IntKind.wrap .u64 i) (decide (i < 0)) v1 hv1 _ _ hv (hG.mono hle) hg _) (fun s F w a hp hX => ?_)
  obtain ⟨_, _, rfl, ⟨A2, c3, rfl⟩, rfl⟩ := hp
  refine hX.part [] 5 [9] (l' := [(9, .v (.string ⟨⟨v1.2⟩⟩))]) (B' := []) (by kernel_rfl) fun ρ w a hX => ?_
  refine wpList_end ?_
  refine hK4 _ _ ?_
  refine Cx.rseq hX [] [4] (l' := [(4, .v (.string ⟨⟨v1.2⟩⟩))]) (B' := []) (by kernel_rfl) fun ρ w a hX => ?_
  refine wp_ret ?_
  have hr := Option.some.inj (show some _ = some _ from h0)
  subst hr
  exact hX.ret0 (ss := [.v (.string ⟨⟨v1.2⟩⟩)]) (by kernel_rfl) (by kernel_rfl) rfl
def strconv_FormatInt_c16 (i : Int) : Option (Str) :=
  Option.bind (internal_strconv_FormatInt_c16 i) fun v1 =>
  some v1
theorem strconv_FormatInt_c16.ok (i : Int) (r : Str) (h0 : strconv_FormatInt_c16 i = some r) (w0 : World) (F0 : Heap) (hv : F0.Sub w0) (hG : Glob F0) (hg : SV.goods F0 [.v (.int .i64 i), .v (.int .i64 16)]) (ρ : Nat → Nat) :
    Calls Tryd.prog 33 (SV.dens ρ [.v (.int .i64 i), .v (.int .i64 16)]).toArray w0 (Ret0 w0 F0 fun s => s = .v (.string ⟨⟨r⟩⟩)) := by
  refine calls_of_wp Tryd.func33 rfl ?_
  have hX := Cx.enter (D := No) (B := []) (L := []) (ρ := ρ) (N := 8) Tryd.ntmps33 [.v (.int .i64 i), .v (.int .i64 16)] (St.start hv) rfl hg (by kernel_rfl) (fun _ h => by cases h) (Nat.le_of_ble_eq_true rfl) No.unfix
  unfold strconv_FormatInt_c16 at h0
  refine Cx.rseq hX [] [0, 1] (l' := [(0, .v (.int .i64 i)), (1, .v (.int .i64 16))]) (B' := []) (by kernel_rfl) fun ρ w a hX => ?_
  refine wp_seq_k fun K2 hK2 => ?_
  refine wp_region_list ?_
  refine hX.part [] 2 [5, 6] (l' := [(5, .v (.int .i64 i)), (6, .v (.int .i64 16))]) (B' := []) (by kernel_rfl) fun ρ w a hX => ?_
  obtain ⟨v1, hv1, h0⟩ := bnd_some h0
  refine Cx.call0 hX (lit := []) (by kernel_rfl) rfl (by kernel_rfl) ⟨⟨_, Tryd.func42, by kernel_rfl, rfl⟩⟩ (ss := [.v (.int .i64 i), .v (.int .i64 16)]) (by kernel_rfl) [.v (.int .i64 i), .v (.int .i64 16)] rfl (fun hg => hg) (fun hv hle hg => internal_strconv_FormatInt_c16.ok i v1 hv1 _ _ hv (hG.mono hle) hg _) (fun s F w a hp hX => ?_)
  subst hp
  refine hX.part [] 1 [4] (l' := [(4, .v (.string ⟨⟨v1⟩⟩))]) (B' := []) (by kernel_rfl) fun ρ w a hX => ?_
  refine wpList_end ?_
  refine hK2 _ _ ?_
  refine wp_ret ?_
  have hr := Option.some.inj (show some _ = some _ from h0)
  subst hr
  exact hX.ret0 (ss := [.v (.string ⟨⟨v1⟩⟩)]) (by kernel_rfl) (by kernel_rfl) rfl
def units_Quote.j4 (x32 : Int) (x58 : List UInt8) : Option ((Int × (List UInt8)) ⊕ (((List UInt8)))) :=
  some (.inl ((IntKind.wrap .i64 (x32 + 1)), x58))
def units_Quote.j3 (x32 : Int) (x33 : List UInt8) (v36 : Int) (x38 : Int) : Option ((Int × (List UInt8)) ⊕ (((List UInt8)))) :=
  if ((v36 == 34) || (v36 == 92)) = true then
    Option.bind (toB (IntKind.wrap .u8 v36)) fun b42 =>
    Option.bind (room (x33.length + 2)) fun u41 =>
    units_Quote.j4 x32 (x33 ++ [(92 : UInt8), b42])
  else
    if (decide (x38 ≥ 0)) = true then
      Option.bind (getB ([98, 116, 110, 102, 114] : Str) x38) fun v43 =>
      Option.bind (toB v43) fun b47 =>
      Option.bind (room (x33.length + 2)) fun u46 =>
      units_Quote.j4 x32 (x33 ++ [(92 : UInt8), b47])
    else
      if ((decide (v36 < 32)) || (decide (v36 > 126))) = true then
        Option.bind (strconv_FormatInt_c16 (IntKind.wrap .i64 ((BitVec.ofInt 64 v36 ||| BitVec.ofInt 64 65536).toNat))) fun v48 =>
        Option.bind (cutL v48 1 ((v48.length : Nat) : Int)) fun v49 =>
        Option.bind (catS ([92, 117] : Str) v49) fun v50 =>
        Option.bind (room (x33.length + v50.length)) fun u53 =>
        units_Quote.j4 x32 (x33 ++ v50)
      else
        Option.bind (toB (IntKind.wrap .u8 v36)) fun b57 =>
        Option.bind (room (x33.length + 1)) fun u56 =>
        units_Quote.j4 x32 (x33 ++ [b57])
def units_Quote.l1 (u : Str) (v2 : Int) (s : Int × (List UInt8)) : Option ((Int × (List UInt8)) ⊕ (((List UInt8)))) := match s with
  | (x32, x33) =>
  if (decide (x32 < v2)) = true then
    Option.bind (units_At u x32) fun v36 =>
    if (decide (v36 < 128)) = true then
      Option.bind (strings_IndexByte ([8, 9, 10, 12, 13] : Str) (IntKind.wrap .u8 v36)) fun v37 =>
      units_Quote.j3 x32 x33 v36 v37
    else
      units_Quote.j3 x32 x33 v36 (-1)
  else
    some (.inr x33)
def units_Quote (u : Str) : Option (Str × Int) :=
  Option.bind (units_Check u) fun v1 =>
  if (!v1) = true then
    some (([] : Str), 10)
  else
    Option.bind (units_Len u) fun v2 =>
    Option.bind (loopM (units_Quote.l1 u v2) (0, ([(34 : UInt8)] : List UInt8))) fun e => match e with
    | x66 =>
      Option.bind (room (x66.length + 1)) fun u71 =>
      some ((x66 ++ [(34 : UInt8)]), 0)
theorem units_Quote.ok (u : Str) (r : Str × Int) (h0 : units_Quote u = some r) (w0 : World) (F0 : Heap) (hv : F0.Sub w0) (hG : Glob F0) (hg : SV.goods F0 [.v (.string ⟨⟨u⟩⟩)]) (ρ : Nat → Nat) :
    Calls Tryd.prog 17 (SV.dens ρ [.v (.string ⟨⟨u⟩⟩)]).toArray w0 (Ret0 w0 F0 fun s => ∃ s1 s2, s = .tup [s1, s2] ∧ (s1 = .v (.string ⟨⟨r.1⟩⟩)) ∧ (s2 = .v (.int .i64 r.2))) := by
  refine calls_of_wp Tryd.func17 rfl ?_
  have hX := Cx.enter (D := No) (B := []) (L := []) (ρ := ρ) (N := 71) Tryd.ntmps17 [.v (.string ⟨⟨u⟩⟩)] (St.start hv) rfl hg (by kernel_rfl) (fun _ h => by cases h) (Nat.le_of_ble_eq_true rfl) No.unfix
  unfold units_Quote at h0
  refine Cx.rseq hX [] [0] (l' := [(0, .v (.string ⟨⟨u⟩⟩))]) (B' := []) (by kernel_rfl) fun ρ w a hX => ?_
  refine wp_seq_k fun K2 hK2 => ?_
  refine wp_seq_k fun K3 hK3 => ?_
  refine wp_region_list ?_
  refine hX.part [] 1 [0, 9] (l' := [(0, .v (.string ⟨⟨u⟩⟩)), (9, .v (.string ⟨⟨u⟩⟩))]) (B' := []) (by kernel_rfl) fun ρ w a hX => ?_
  obtain ⟨v1, hv1, h0⟩ := bnd_some h0
  refine Cx.call0 hX (lit := []) (by kernel_rfl) rfl (by kernel_rfl) ⟨⟨_, Tryd.func21, by kernel_rfl, rfl⟩⟩ (ss := [.v (.string ⟨⟨u⟩⟩)]) (by kernel_rfl) [.v (.string ⟨⟨u⟩⟩)] rfl (fun hg => hg) (fun hv hle hg => units_Check.ok u v1 hv1 _ _ hv (hG.mono hle) hg _) (fun s F w a hp hX => ?_)
  subst hp
  refine hX.part [] 1 [0, 11] (l' := [(0, .v (.string ⟨⟨u⟩⟩)), (11, .v (.bool (!v1)))]) (B' := []) (by kernel_rfl) fun ρ w a hX => ?_
  refine wpList_end ?_
  refine hK3 _ _ ?_
  refine Cx.cond hX (b := (!v1)) (by kernel_rfl) (fun hb => ?_) (fun hb => ?_)
  · have h0 := ite_tt h0 hb
    refine Cx.rseq hX [] [2, 3] (l' := [(2, .v (.string ⟨⟨([] : Str)⟩⟩)), (3, .v (.int .i64 10))]) (B' := []) (by kernel_rfl) fun ρ w a hX => ?_
    refine wp_ret ?_
    have hr := Option.some.inj (show some _ = some _ from h0)
    subst hr
    exact hX.ret0 (ss := [.v (.string ⟨⟨([] : Str)⟩⟩), .v (.int .i64 10)]) (by kernel_rfl) (by kernel_rfl) ⟨_, _, rfl, rfl, rfl⟩
  · have h0 := ite_ff h0 hb
    refine wp_skip ?_
    refine hK2 _ _ ?_
    refine Cx.rseq hX [] [0, 4] (l' := [(0, .v (.string ⟨⟨u⟩⟩)), (4, .slc 0 0 1 1)]) (B' := [some ⟨5, [.v (.int .u8 34)]⟩]) (by kernel_rfl) fun ρ w a hX => ?_
    refine wp_seq_k fun K6 hK6 => ?_
    refine wp_seq_k fun K7 hK7 => ?_
    refine wp_region_list ?_
    refine hX.part [] 1 [0, 4, 13] (l' := [(0, .v (.string ⟨⟨u⟩⟩)), (4, .slc 0 0 1 1), (13, .v (.string ⟨⟨u⟩⟩))]) (B' := [some ⟨5, [.v (.int .u8 34)]⟩]) (by kernel_rfl) fun ρ w a hX => ?_
    obtain ⟨v2, hv2, h0⟩ := bnd_some h0
    refine Cx.call0 hX (lit := []) (by kernel_rfl) rfl (by kernel_rfl) ⟨⟨_, Tryd.func22, by kernel_rfl, rfl⟩⟩ (ss := [.v (.string ⟨⟨u⟩⟩)]) (by kernel_rfl) [.v (.string ⟨⟨u⟩⟩)] rfl (fun hg => hg) (fun hv hle hg => units_Len.ok u v2 hv2 _ _ hv (hG.mono hle) hg _) (fun s F w a hp hX => ?_)
    subst hp
    refine hX.part [] 1 [0, 4, 14, 15] (l' := [(0, .v (.string ⟨⟨u⟩⟩)), (4, .slc 0 0 1 1), (14, .v (.int .i64 v2)), (15, .v (.int .i64 0))]) (B' := [some ⟨5, [.v (.int .u8 34)]⟩]) (by kernel_rfl) fun ρ w a hX => ?_
    refine wpList_end ?_
    refine hK7 _ _ ?_
    refine wp_block ?_
    obtain ⟨b65, hb, hX⟩ := hX.boxAcc2 (d := kByte) (e := 5) (k := 0) (t := 4) (m := 1) ([((34 : UInt8), ())] : List (UInt8 × (kByte).Y)) (by kernel_rfl) (by kernel_rfl) rfl rfl (by decide) ⟨_, rfl⟩
    have hX : Cx 71 _ _ _ _ _ [accP 5 kByte (some ⟨b65, 0, none⟩) 1 ([(34 : UInt8)] : List UInt8)] [none] ρ _ a := hX
    have hX := hX.keeps [0, 4, 14, 15] (l' := [(0, .v (.string ⟨⟨u⟩⟩)), (4, .v (.slice (some ⟨b65, 0, none⟩) ([(34 : UInt8)] : List UInt8).length 1)), (14, .v (.int .i64 v2)), (15, .v (.int .i64 0))]) (by kernel_rfl)
    have hX := hX.shrink 0 (B' := []) (by kernel_rfl) (Nat.le_of_ble_eq_true rfl) (by kernel_rfl) (by kernel_rfl) (Nat.zero_le _)
    obtain ⟨e1, he1, h0⟩ := bnd_some h0
    have E1x0 : ∀ (x66 : List UInt8), e1 = x66 → ∀ (A67 : Option Addr) (c68 : Nat) (ρ : Nat → Nat) (w : World) (F : Heap) (a : Act), Cx 71 w0 F0 No w F [accP 5 kByte A67 c68 x66] [] ρ [(4, .v (.slice A67 x66.length c68))] a → K6 a w := by
      intro x66 he A67 c68 ρ w F a hX
      replace he := he.symm
      subst he
      (try dsimp only at h0)
      refine hK6 _ _ ?_
      refine wp_seq_k fun K32 hK32 => ?_
      refine wp_region_list ?_
      refine hX.part [] 2 [67, 68] (l' := [(67, .v (.slice A67 x66.length c68)), (68, .slc 0 0 1 1)]) (B' := [some ⟨5, [.v (.int .u8 34)]⟩]) (by kernel_rfl) fun ρ w a hX => ?_
      obtain ⟨u71, hu71, h0⟩ := bnd_some h0
      refine hX.appLit (d := kByte) (k := 0) (m := 1) (bytes := 1) (cells := [.v (.int .u8 34)]) (lit := []) (i := 0) (e := 5) (xs := x66) (A := A67) (c := c68) ([((34 : UInt8), ())] : List (UInt8 × (kByte).Y)) (by kernel_rfl) (by kernel_rfl) rfl rfl (by kernel_rfl) (by kernel_rfl) (by kernel_rfl) (by kernel_rfl) (by kernel_rfl) rfl rfl (by decide) hu71 ⟨_, rfl⟩ fun A69 c70 w a hX => ?_
      have hX : Cx 71 _ _ _ _ _ [accP 5 kByte A69 c70 (x66 ++ [(34 : UInt8)])] [some ⟨5, [.v (.int .u8 34)]⟩] ρ _ a := hX
      refine hX.part [] 0 [69] (l' := [(69, .v (.slice A69 (x66 ++ [(34 : UInt8)]).length c70))]) (B' := [some ⟨5, [.v (.int .u8 34)]⟩]) (by kernel_rfl) fun ρ w a hX => ?_
      refine hX.strAcc (lit := []) (i := 0) (e := 5) (e2 := 5) (xs := (x66 ++ [(34 : UInt8)])) (A := A69) (c := c70) (by kernel_rfl) (by kernel_rfl) rfl rfl (by kernel_rfl) (by kernel_rfl) (by kernel_rfl) (by kernel_rfl) fun a hX => ?_
      refine hX.part [] 2 [2, 3] (l' := [(2, .v (.string ⟨⟨(x66 ++ [(34 : UInt8)])⟩⟩)), (3, .v (.int .i64 0))]) (B' := [some ⟨5, [.v (.int .u8 34)]⟩]) (by kernel_rfl) fun ρ w a hX => ?_
      refine wpList_end ?_
      refine hK32 _ _ ?_
      refine wp_ret ?_
      have hr := Option.some.inj (show some _ = some _ from h0)
      subst hr
      exact hX.ret0 (ss := [.v (.string ⟨⟨(x66 ++ [(34 : UInt8)])⟩⟩), .v (.int .i64 0)]) (by kernel_rfl) (by kernel_rfl) ⟨_, _, rfl, rfl, rfl⟩
    refine loop_go (fun (s : Int × (List UInt8)) a w => match s with | (x32, x33) => ∃ (A34 : Option Addr) (c35 : Nat) (ρ : Nat → Nat) (F : Heap), Cx 71 w0 F0 No w F [accP 5 kByte A34 c35 x33] [] ρ [(0, .v (.string ⟨⟨u⟩⟩)), (4, .v (.slice A34 x33.length c35)), (14, .v (.int .i64 v2)), (15, .v (.int .i64 x32))] a) he1 (fun LW1 s o1 h1 hb1 hx1 a w hI => ?_) _ _ ?_
    · obtain ⟨x32, x33⟩ := s
      obtain ⟨A34, c35, ρ, F, hX⟩ := hI
      unfold units_Quote.l1 at h1
      (try dsimp only at h1)
      refine Cx.rseq hX [] [0, 4, 14, 15, 16] (l' := [(0, .v (.string ⟨⟨u⟩⟩)), (4, .v (.slice A34 x33.length c35)), (14, .v (.int .i64 v2)), (15, .v (.int .i64 x32)), (16, .v (.bool (decide (x32 < v2))))]) (B' := []) (by kernel_rfl) fun ρ w a hX => ?_
      refine wp_seq_k fun K21 hK21 => ?_
      refine Cx.cond hX (b := (decide (x32 < v2))) (by kernel_rfl) (fun hb => ?_) (fun hb => ?_)
      · have h1 := ite_tt h1 hb
        refine wp_skip ?_
        refine hK21 _ _ ?_
        refine wp_seq_k fun K22 hK22 => ?_
        have J22 : ∀ (x58 : List UInt8), units_Quote.j4 x32 x58 = some o1 → ∀ (A59 : Option Addr) (c60 : Nat) (ρ : Nat → Nat) (w : World) (F : Heap) (a : Act), Cx 71 w0 F0 No w F [accP 5 kByte A59 c60 x58] [] ρ [(0, .v (.string ⟨⟨u⟩⟩)), (4, .v (.slice A59 x58.length c60)), (14, .v (.int .i64 v2)), (15, .v (.int .i64 x32))] a → K22 a w := by
          intro x58 h1 A59 c60 ρ w F a hX
          unfold units_Quote.j4 at h1
          refine hK22 _ _ ?_
          refine Cx.region hX [] [0, 4, 14, 15] (l' := [(0, .v (.string ⟨⟨u⟩⟩)), (4, .v (.slice A59 x58.length c60)), (14, .v (.int .i64 v2)), (15, .v (.int .i64 (IntKind.wrap .i64 (x32 + 1))))]) (B' := []) (by kernel_rfl) fun ρ w a hX => ?_
          have hX := hX.keeps [0, 4, 14, 15] (l' := [(0, .v (.string ⟨⟨u⟩⟩)), (4, .v (.slice A59 x58.length c60)), (14, .v (.int .i64 v2)), (15, .v (.int .i64 (IntKind.wrap .i64 (x32 + 1))))]) (by kernel_rfl)
          exact hb1 ((IntKind.wrap .i64 (x32 + 1)), x58) (out_eq h1) _ _ ⟨A59, c60, _, _, hX⟩
        refine wp_block ?_
        refine Cx.rseq hX [] [0, 4, 5, 14, 15] (l' := [(0, .v (.string ⟨⟨u⟩⟩)), (4, .v (.slice A34 x33.length c35)), (5, .v (.int .i64 x32)), (14, .v (.int .i64 v2)), (15, .v (.int .i64 x32))]) (B' := []) (by kernel_rfl) fun ρ w a hX => ?_
        refine wp_seq_k fun K24 hK24 => ?_
        refine wp_region_list ?_
        refine hX.part [] 2 [0, 4, 14, 15, 18, 19] (l' := [(0, .v (.string ⟨⟨u⟩⟩)), (4, .v (.slice A34 x33.length c35)), (14, .v (.int .i64 v2)), (15, .v (.int .i64 x32)), (18, .v (.string ⟨⟨u⟩⟩)), (19, .v (.int .i64 x32))]) (B' := []) (by kernel_rfl) fun ρ w a hX => ?_
        obtain ⟨v36, hv36, h1⟩ := bnd_some h1
        refine Cx.call0 hX (lit := []) (by kernel_rfl) rfl (by kernel_rfl) ⟨⟨_, Tryd.func23, by kernel_rfl, rfl⟩⟩ (ss := [.v (.string ⟨⟨u⟩⟩), .v (.int .i64 x32)]) (by kernel_rfl) [.v (.string ⟨⟨u⟩⟩), .v (.int .i64 x32)] rfl (fun hg => hg) (fun hv hle hg => units_At.ok u x32 v36 hv36 _ _ hv (hG.mono hle) hg _) (fun s F w a hp hX => ?_)
        subst hp
        refine hX.part [] 1 [0, 4, 6, 14, 15] (l' := [(0, .v (.string ⟨⟨u⟩⟩)), (4, .v (.slice A34 x33.length c35)), (6, .v (.int .i64 v36)), (14, .v (.int .i64 v2)), (15, .v (.int .i64 x32))]) (B' := []) (by kernel_rfl) fun ρ w a hX => ?_
        refine wpList_end ?_
        refine hK24 _ _ ?_
        refine Cx.rseq hX [] [0, 4, 6, 7, 14, 15] (l' := [(0, .v (.string ⟨⟨u⟩⟩)), (4, .v (.slice A34 x33.length c35)), (6, .v (.int .i64 v36)), (7, .v (.int .i64 (-1))), (14, .v (.int .i64 v2)), (15, .v (.int .i64 x32))]) (B' := []) (by kernel_rfl) fun ρ w a hX => ?_
        refine wp_seq_k fun K26 hK26 => ?_
        have J26 : ∀ (x38 : Int), units_Quote.j3 x32 x33 v36 x38 = some o1 → ∀ (ρ : Nat → Nat) (w : World) (F : Heap) (a : Act), Cx 71 w0 F0 No w F [accP 5 kByte A34 c35 x33] [] ρ [(0, .v (.string ⟨⟨u⟩⟩)), (4, .v (.slice A34 x33.length c35)), (6, .v (.int .i64 v36)), (7, .v (.int .i64 x38)), (14, .v (.int .i64 v2)), (15, .v (.int .i64 x32))] a → K26 a w := by
          intro x38 h1  ρ w F a hX
          unfold units_Quote.j3 at h1
          refine hK26 _ _ ?_
          refine wp_block ?_
          refine Cx.rseq hX [] [0, 4, 6, 7, 14, 15, 31] (l' := [(0, .v (.string ⟨⟨u⟩⟩)), (4, .v (.slice A34 x33.length c35)), (6, .v (.int .i64 v36)), (7, .v (.int .i64 x38)), (14, .v (.int .i64 v2)), (15, .v (.int .i64 x32)), (31, .v (.bool ((v36 == 34) || (v36 == 92))))]) (B' := []) (by kernel_rfl) fun ρ w a hX => ?_
          refine Cx.cond hX (b := ((v36 == 34) || (v36 == 92))) (by kernel_rfl) (fun hb => ?_) (fun hb => ?_)
          · have h1 := ite_tt h1 hb
            refine wp_region_list ?_
            refine hX.part [] 4 [0, 4, 14, 15, 38, 41] (l' := [(0, .v (.string ⟨⟨u⟩⟩)), (4, .v (.slice A34 x33.length c35)), (14, .v (.int .i64 v2)), (15, .v (.int .i64 x32)), (38, .v (.slice A34 x33.length c35)), (41, .slc 0 0 2 2)]) (B' := [some ⟨5, [.v (.int .u8 92), .v (.int .u8 (IntKind.wrap .u8 v36))]⟩]) (by kernel_rfl) fun ρ w a hX => ?_
            obtain ⟨b42, hb42, h1⟩ := bnd_some h1
            obtain ⟨u41, hu41, h1⟩ := bnd_some h1
            have hX := hX.rebox 0 (b := ⟨5, [.v (.int .u8 92), .v (.int .u8 (IntKind.wrap .u8 v36))]⟩) (cs := [.v (.int .u8 92), .v (.int .u8 ((b42.toNat : Nat) : Int))]) (B' := [some ⟨5, [.v (.int .u8 92), .v (.int .u8 ((b42.toNat : Nat) : Int))]⟩]) (by kernel_rfl) (fun ρ => by simp only [SV.dens, SV.den, toB_some hb42]) (by have hg := (hX.bgood ⟨5, [.v (.int .u8 92), .v (.int .u8 (IntKind.wrap .u8 v36))]⟩ (List.mem_of_getElem? (i := 0) (by kernel_rfl))).1; exact ⟨trivial, trivial, trivial⟩) (by kernel_rfl) (by kernel_rfl)
            refine hX.appLit (d := kByte) (k := 0) (m := 2) (bytes := 1) (cells := [.v (.int .u8 92), .v (.int .u8 ((b42.toNat : Nat) : Int))]) (lit := []) (i := 0) (e := 5) (xs := x33) (A := A34) (c := c35) ([((92 : UInt8), ()), (b42, ())] : List (UInt8 × (kByte).Y)) (by kernel_rfl) (by kernel_rfl) rfl rfl (by kernel_rfl) (by kernel_rfl) (by kernel_rfl) (by kernel_rfl) (by kernel_rfl) rfl rfl (by decide) hu41 ⟨_, rfl⟩ fun A39 c40 w a hX => ?_
            have hX : Cx 71 _ _ _ _ _ [accP 5 kByte A39 c40 (x33 ++ [(92 : UInt8), b42])] [some ⟨5, [.v (.int .u8 92), .v (.int .u8 ((b42.toNat : Nat) : Int))]⟩] ρ _ a := hX
            refine hX.part [] 1 [0, 4, 14, 15] (l' := [(0, .v (.string ⟨⟨u⟩⟩)), (4, .v (.slice A39 (x33 ++ [(92 : UInt8), b42]).length c40)), (14, .v (.int .i64 v2)), (15, .v (.int .i64 x32))]) (B' := [some ⟨5, [.v (.int .u8 92), .v (.int .u8 ((b42.toNat : Nat) : Int))]⟩]) (by kernel_rfl) fun ρ w a hX => ?_
            refine wpList_end ?_
            have hX := hX.keeps [0, 4, 14, 15] (l' := [(0, .v (.string ⟨⟨u⟩⟩)), (4, .v (.slice A39 (x33 ++ [(92 : UInt8), b42]).length c40)), (14, .v (.int .i64 v2)), (15, .v (.int .i64 x32))]) (by kernel_rfl)
            have hX := hX.shrink 0 (B' := []) (by kernel_rfl) (Nat.le_of_ble_eq_true rfl) (by kernel_rfl) (by kernel_rfl) (Nat.zero_le _)
            exact J22 (x33 ++ [(92 : UInt8), b42]) h1 A39 c40 _ _ _ _ hX
          · have h1 := ite_ff h1 hb
            refine Cx.rseq hX [] [0, 4, 6, 7, 14, 15, 43] (l' := [(0, .v (.string ⟨⟨u⟩⟩)), (4, .v (.slice A34 x33.length c35)), (6, .v (.int .i64 v36)), (7, .v (.int .i64 x38)), (14, .v (.int .i64 v2)), (15, .v (.int .i64 x32)), (43, .v (.bool (decide (x38 ≥ 0))))]) (B' := []) (by kernel_rfl) fun ρ w a hX => ?_
            refine Cx.cond hX (b := (decide (x38 ≥ 0))) (by kernel_rfl) (fun hb => ?_) (fun hb => ?_)
            · have h1 := ite_tt h1 hb
              refine wp_region_list ?_
              refine hX.part [] 2 [0, 4, 14, 15, 46, 47] (l' := [(0, .v (.string ⟨⟨u⟩⟩)), (4, .v (.slice A34 x33.length c35)), (14, .v (.int .i64 v2)), (15, .v (.int .i64 x32)), (46, .v (.slice A34 x33.length c35)), (47, .v (.int .i64 x38))]) (B' := []) (by kernel_rfl) fun ρ w a hX => ?_
              obtain ⟨v43, hv43, h1⟩ := bnd_some h1
              refine hX.idxStr (lit := []) (by kernel_rfl) (by kernel_rfl) rfl (s := ([98, 116, 110, 102, 114] : Str)) (k := .i64) (n := x38) (b := v43) (by kernel_rfl) (by kernel_rfl) (by kernel_rfl) hv43 fun a hX => ?_
              refine hX.part [] 1 [0, 4, 14, 15, 46, 49] (l' := [(0, .v (.string ⟨⟨u⟩⟩)), (4, .v (.slice A34 x33.length c35)), (14, .v (.int .i64 v2)), (15, .v (.int .i64 x32)), (46, .v (.slice A34 x33.length c35)), (49, .slc 0 0 2 2)]) (B' := [some ⟨5, [.v (.int .u8 92), .v (.int .u8 v43)]⟩]) (by kernel_rfl) fun ρ w a hX => ?_
              obtain ⟨b47, hb47, h1⟩ := bnd_some h1
              obtain ⟨u46, hu46, h1⟩ := bnd_some h1
              have hX := hX.rebox 0 (b := ⟨5, [.v (.int .u8 92), .v (.int .u8 v43)]⟩) (cs := [.v (.int .u8 92), .v (.int .u8 ((b47.toNat : Nat) : Int))]) (B' := [some ⟨5, [.v (.int .u8 92), .v (.int .u8 ((b47.toNat : Nat) : Int))]⟩]) (by kernel_rfl) (fun ρ => by simp only [SV.dens, SV.den, toB_some hb47]) (by have hg := (hX.bgood ⟨5, [.v (.int .u8 92), .v (.int .u8 v43)]⟩ (List.mem_of_getElem? (i := 0) (by kernel_rfl))).1; exact ⟨trivial, trivial, trivial⟩) (by kernel_rfl) (by kernel_rfl)
              refine hX.appLit (d := kByte) (k := 0) (m := 2) (bytes := 1) (cells := [.v (.int .u8 92), .v (.int .u8 ((b47.toNat : Nat) : Int))]) (lit := []) (i := 0) (e := 5) (xs := x33) (A := A34) (c := c35) ([((92 : UInt8), ()), (b47, ())] : List (UInt8 × (kByte).Y)) (by kernel_rfl) (by kernel_rfl) rfl rfl (by kernel_rfl) (by kernel_rfl) (by kernel_rfl) (by kernel_rfl) (by kernel_rfl) rfl rfl (by decide) hu46 ⟨_, rfl⟩ fun A44 c45 w a hX => ?_
              have hX : Cx 71 _ _ _ _ _ [accP 5 kByte A44 c45 (x33 ++ [(92 : UInt8), b47])] [some ⟨5, [.v (.int .u8 92), .v (.int .u8 ((b47.toNat : Nat) : Int))]⟩] ρ _ a := hX
              refine hX.part [] 1 [0, 4, 14, 15] (l' := [(0, .v (.string ⟨⟨u⟩⟩)), (4, .v (.slice A44 (x33 ++ [(92 : UInt8), b47]).length c45)), (14, .v (.int .i64 v2)), (15, .v (.int .i64 x32))]) (B' := [some ⟨5, [.v (.int .u8 92), .v (.int .u8 ((b47.toNat : Nat) : Int))]⟩]) (by kernel_rfl) fun ρ w a hX => ?_
              refine wpList_end ?_
              have hX := hX.keeps [0, 4, 14, 15] (l' := [(0, .v (.string ⟨⟨u⟩⟩)), (4, .v (.slice A44 (x33 ++ [(92 : UInt8), b47]).length c45)), (14, .v (.int .i64 v2)), (15, .v (.int .i64 x32))]) (by kernel_rfl)
              have hX := hX.shrink 0 (B' := []) (by kernel_rfl) (Nat.le_of_ble_eq_true rfl) (by kernel_rfl) (by kernel_rfl) (Nat.zero_le _)
              exact J22 (x33 ++ [(92 : UInt8), b47]) h1 A44 c45 _ _ _ _ hX
            · have h1 := ite_ff h1 hb
              refine Cx.rseq hX [] [0, 4, 6, 14, 15, 51] (l' := [(0, .v (.string ⟨⟨u⟩⟩)), (4, .v (.slice A34 x33.length c35)), (6, .v (.int .i64 v36)), (14, .v (.int .i64 v2)), (15, .v (.int .i64 x32)), (51, .v (.bool ((decide (v36 < 32)) || (decide (v36 > 126)))))]) (B' := []) (by kernel_rfl) fun ρ w a hX => ?_
              refine Cx.cond hX (b := ((decide (v36 < 32)) || (decide (v36 > 126)))) (by kernel_rfl) (fun hb => ?_) (fun hb => ?_)
              · have h1 := ite_tt h1 hb
                refine wp_seq_k fun K31 hK31 => ?_
                refine wp_region_list ?_
                refine hX.part [] 2 [0, 4, 14, 15, 59] (l' := [(0, .v (.string ⟨⟨u⟩⟩)), (4, .v (.slice A34 x33.length c35)), (14, .v (.int .i64 v2)), (15, .v (.int .i64 x32)), (59, .v (.int .i64 (IntKind.wrap .i64 ((BitVec.ofInt 64 v36 ||| BitVec.ofInt 64 65536).toNat))))]) (B' := []) (by kernel_rfl) fun ρ w a hX => ?_
                obtain ⟨v48, hv48, h1⟩ := bnd_some h1
                refine Cx.call0 hX (lit := []) (by kernel_rfl) rfl (by kernel_rfl) ⟨⟨_, Tryd.func33, by kernel_rfl, rfl⟩⟩ (ss := [.v (.int .i64 (IntKind.wrap .i64 ((BitVec.ofInt 64 v36 ||| BitVec.ofInt 64 65536).toNat))), .v (.int .i64 16)]) (by kernel_rfl) [.v (.int .i64 (IntKind.wrap .i64 ((BitVec.ofInt 64 v36 ||| BitVec.ofInt 64 65536).toNat))), .v (.int .i64 16)] rfl (fun hg => hg) (fun hv hle hg => strconv_FormatInt_c16.ok (IntKind.wrap .i64 ((BitVec.ofInt 64 v36 ||| BitVec.ofInt 64 65536).toNat)) v48 hv48 _ _ hv (hG.mono hle) hg _) (fun s F w a hp hX => ?_)
                subst hp
                refine hX.part [] 1 [0, 4, 8, 14, 15] (l' := [(0, .v (.string ⟨⟨u⟩⟩)), (4, .v (.slice A34 x33.length c35)), (8, .v (.string ⟨⟨v48⟩⟩)), (14, .v (.int .i64 v2)), (15, .v (.int .i64 x32))]) (B' := []) (by kernel_rfl) fun ρ w a hX => ?_
                refine wpList_end ?_
                refine hK31 _ _ ?_
                refine wp_region_list ?_
                refine hX.part [] 2 [0, 4, 14, 15, 61, 62] (l' := [(0, .v (.string ⟨⟨u⟩⟩)), (4, .v (.slice A34 x33.length c35)), (14, .v (.int .i64 v2)), (15, .v (.int .i64 x32)), (61, .v (.slice A34 x33.length c35)), (62, .v (.string ⟨⟨v48⟩⟩))]) (B' := []) (by kernel_rfl) fun ρ w a hX => ?_
                obtain ⟨v49, hv49, h1⟩ := bnd_some h1
                refine hX.cutStr (lit := []) (by kernel_rfl) (by kernel_rfl) rfl (s := v48) (ol := some 1) (oh := none) (r := v49) (by kernel_rfl) (by kernel_rfl) (by kernel_rfl) (by kernel_rfl) hv49 fun a hX => ?_
                refine hX.part [] 0 [0, 4, 14, 15, 61, 63] (l' := [(0, .v (.string ⟨⟨u⟩⟩)), (4, .v (.slice A34 x33.length c35)), (14, .v (.int .i64 v2)), (15, .v (.int .i64 x32)), (61, .v (.slice A34 x33.length c35)), (63, .v (.string ⟨⟨v49⟩⟩))]) (B' := []) (by kernel_rfl) fun ρ w a hX => ?_
                obtain ⟨v50, hv50, h1⟩ := bnd_some h1
                refine hX.catStr (lit := []) (by kernel_rfl) (by kernel_rfl) rfl (s := ([92, 117] : Str)) (t := v49) (r := v50) (by kernel_rfl) (by kernel_rfl) hv50 fun a hX => ?_
                refine hX.part [] 0 [0, 4, 14, 15, 61, 64] (l' := [(0, .v (.string ⟨⟨u⟩⟩)), (4, .v (.slice A34 x33.length c35)), (14, .v (.int .i64 v2)), (15, .v (.int .i64 x32)), (61, .v (.slice A34 x33.length c35)), (64, .v (.string ⟨⟨v50⟩⟩))]) (B' := []) (by kernel_rfl) fun ρ w a hX => ?_
                obtain ⟨u53, hu53, h1⟩ := bnd_some h1
                refine hX.appStr (lit := []) (i := 0) (e := 5) (xs := x33) (A := A34) (c := c35) (t := v50) (by kernel_rfl) (by kernel_rfl) rfl rfl (by kernel_rfl) (by kernel_rfl) (by kernel_rfl) (by kernel_rfl) (by kernel_rfl) hu53 fun A51 c52 w a hX => ?_
                have hX : Cx 71 _ _ _ _ _ [accP 5 kByte A51 c52 (x33 ++ v50)] [] ρ _ a := hX
                refine hX.part [] 1 [0, 4, 14, 15] (l' := [(0, .v (.string ⟨⟨u⟩⟩)), (4, .v (.slice A51 (x33 ++ v50).length c52)), (14, .v (.int .i64 v2)), (15, .v (.int .i64 x32))]) (B' := []) (by kernel_rfl) fun ρ w a hX => ?_
                refine wpList_end ?_
                have hX := hX.keeps [0, 4, 14, 15] (l' := [(0, .v (.string ⟨⟨u⟩⟩)), (4, .v (.slice A51 (x33 ++ v50).length c52)), (14, .v (.int .i64 v2)), (15, .v (.int .i64 x32))]) (by kernel_rfl)
                exact J22 (x33 ++ v50) h1 A51 c52 _ _ _ _ hX
              · have h1 := ite_ff h1 hb
                refine wp_region_list ?_
                refine hX.part [] 4 [0, 4, 14, 15, 26, 29] (l' := [(0, .v (.string ⟨⟨u⟩⟩)), (4, .v (.slice A34 x33.length c35)), (14, .v (.int .i64 v2)), (15, .v (.int .i64 x32)), (26, .v (.slice A34 x33.length c35)), (29, .slc 0 0 1 1)]) (B' := [some ⟨5, [.v (.int .u8 (IntKind.wrap .u8 v36))]⟩]) (by kernel_rfl) fun ρ w a hX => ?_
                obtain ⟨b57, hb57, h1⟩ := bnd_some h1
                obtain ⟨u56, hu56, h1⟩ := bnd_some h1
                have hX := hX.rebox 0 (b := ⟨5, [.v (.int .u8 (IntKind.wrap .u8 v36))]⟩) (cs := [.v (.int .u8 ((b57.toNat : Nat) : Int))]) (B' := [some ⟨5, [.v (.int .u8 ((b57.toNat : Nat) : Int))]⟩]) (by kernel_rfl) (fun ρ => by simp only [SV.dens, SV.den, toB_some hb57]) (by have hg := (hX.bgood ⟨5, [.v (.int .u8 (IntKind.wrap .u8 v36))]⟩ (List.mem_of_getElem? (i := 0) (by kernel_rfl))).1; exact ⟨trivial, trivial⟩) (by kernel_rfl) (by kernel_rfl)
                refine hX.appLit (d := kByte) (k := 0) (m := 1) (bytes := 1) (cells := [.v (.int .u8 ((b57.toNat : Nat) : Int))]) (lit := []) (i := 0) (e := 5) (xs := x33) (A := A34) (c := c35) ([(b57, ())] : List (UInt8 × (kByte).Y)) (by kernel_rfl) (by kernel_rfl) rfl rfl (by kernel_rfl) (by kernel_rfl) (by kernel_rfl) (by kernel_rfl) (by kernel_rfl) rfl rfl (by decide) hu56 ⟨_, rfl⟩ fun A54 c55 w a hX => ?_
                have hX : Cx 71 _ _ _ _ _ [accP 5 kByte A54 c55 (x33 ++ [b57])] [some ⟨5, [.v (.int .u8 ((b57.toNat : Nat) : Int))]⟩] ρ _ a := hX
                refine hX.part [] 1 [0, 4, 14, 15] (l' := [(0, .v (.string ⟨⟨u⟩⟩)), (4, .v (.slice A54 (x33 ++ [b57]).length c55)), (14, .v (.int .i64 v2)), (15, .v (.int .i64 x32))]) (B' := [some ⟨5, [.v (.int .u8 ((b57.toNat : Nat) : Int))]⟩]) (by kernel_rfl) fun ρ w a hX => ?_
                refine wpList_end ?_
                have hX := hX.keeps [0, 4, 14, 15] (l' := [(0, .v (.string ⟨⟨u⟩⟩)), (4, .v (.slice A54 (x33 ++ [b57]).length c55)), (14, .v (.int .i64 v2)), (15, .v (.int .i64 x32))]) (by kernel_rfl)
                have hX := hX.shrink 0 (B' := []) (by kernel_rfl) (Nat.le_of_ble_eq_true rfl) (by kernel_rfl) (by kernel_rfl) (Nat.zero_le _)
                exact J22 (x33 ++ [b57]) h1 A54 c55 _ _ _ _ hX
        refine Cx.rseq hX [] [0, 4, 6, 7, 14, 15, 22] (l' := [(0, .v (.string ⟨⟨u⟩⟩)), (4, .v (.slice A34 x33.length c35)), (6, .v (.int .i64 v36)), (7, .v (.int .i64 (-1))), (14, .v (.int .i64 v2)), (15, .v (.int .i64 x32)), (22, .v (.bool (decide (v36 < 128))))]) (B' := []) (by kernel_rfl) fun ρ w a hX => ?_
        refine Cx.cond hX (b := (decide (v36 < 128))) (by kernel_rfl) (fun hb => ?_) (fun hb => ?_)
        · have h1 := ite_tt h1 hb
          refine wp_region_list ?_
          refine hX.part [] 2 [0, 4, 6, 7, 14, 15, 24] (l' := [(0, .v (.string ⟨⟨u⟩⟩)), (4, .v (.slice A34 x33.length c35)), (6, .v (.int .i64 v36)), (7, .v (.int .i64 (-1))), (14, .v (.int .i64 v2)), (15, .v (.int .i64 x32)), (24, .v (.int .u8 (IntKind.wrap .u8 v36)))]) (B' := []) (by kernel_rfl) fun ρ w a hX => ?_
          obtain ⟨v37, hv37, h1⟩ := bnd_some h1
          refine Cx.call0 hX (lit := []) (by kernel_rfl) rfl (by kernel_rfl) ⟨⟨_, Tryd.func32, by kernel_rfl, rfl⟩⟩ (ss := [.v (.string ⟨⟨([8, 9, 10, 12, 13] : Str)⟩⟩), .v (.int .u8 (IntKind.wrap .u8 v36))]) (by kernel_rfl) [.v (.string ⟨⟨([8, 9, 10, 12, 13] : Str)⟩⟩), .v (.int .u8 (IntKind.wrap .u8 v36))] rfl (fun hg => hg) (fun hv hle hg => strings_IndexByte.ok ([8, 9, 10, 12, 13] : Str) (IntKind.wrap .u8 v36) v37 hv37 _ _ hv (hG.mono hle) hg _) (fun s F w a hp hX => ?_)
          subst hp
          refine hX.part [] 1 [0, 4, 6, 7, 14, 15] (l' := [(0, .v (.string ⟨⟨u⟩⟩)), (4, .v (.slice A34 x33.length c35)), (6, .v (.int .i64 v36)), (7, .v (.int .i64 v37)), (14, .v (.int .i64 v2)), (15, .v (.int .i64 x32))]) (B' := []) (by kernel_rfl) fun ρ w a hX => ?_
          refine wpList_end ?_
          have hX := hX.keeps [0, 4, 6, 7, 14, 15] (l' := [(0, .v (.string ⟨⟨u⟩⟩)), (4, .v (.slice A34 x33.length c35)), (6, .v (.int .i64 v36)), (7, .v (.int .i64 v37)), (14, .v (.int .i64 v2)), (15, .v (.int .i64 x32))]) (by kernel_rfl)
          exact J26 v37 h1  _ _ _ _ hX
        · have h1 := ite_ff h1 hb
          refine wp_skip ?_
          have hX := hX.keeps [0, 4, 6, 7, 14, 15] (l' := [(0, .v (.string ⟨⟨u⟩⟩)), (4, .v (.slice A34 x33.length c35)), (6, .v (.int .i64 v36)), (7, .v (.int .i64 (-1))), (14, .v (.int .i64 v2)), (15, .v (.int .i64 x32))]) (by kernel_rfl)
          exact J26 (-1) h1  _ _ _ _ hX
      · have h1 := ite_ff h1 hb
        refine wp_exit ?_
        have hX := hX.keeps [4] (l' := [(4, .v (.slice A34 x33.length c35))]) (by kernel_rfl)
        exact E1x0 x33 (hx1 _ (out_eq h1)).symm A34 c35 _ _ _ _ hX
    · exact ⟨(some ⟨b65, 0, none⟩), 1, _, _, hX⟩
def strings_Builder_String_at_units_reader_1.j1 (b_ : T_units_reader) : Option (Str) :=
  some b_.out
def strings_Builder_String_at_units_reader_1 (b_ : T_units_reader) : Option (Str) :=
  strings_Builder_String_at_units_reader_1.j1 b_
theorem strings_Builder_String_at_units_reader_1.ok (b_ : T_units_reader) (r : Str) (h0 : strings_Builder_String_at_units_reader_1 b_ = some r) (w0 : World) (F0 : Heap) (hv : F0.Sub w0) (hG : Glob F0) (hg : SV.goods F0 [.ptr 0 1]) (ρ : Nat → Nat) (D : Own) (hD : D.known = [ρ 0]) (hst : St w0 F0 D w0 F0 [own_units_reader b_ (ρ 0)]) :
    Calls Tryd.prog 35 (SV.dens ρ [.ptr 0 1]).toArray w0 (RetH w0 F0 D fun s M => (s = .v (.string ⟨⟨r⟩⟩)) ∧ M = [own_units_reader_d b_ (ρ 0)]) := by
  refine calls_of_wp Tryd.func35 rfl ?_
  have hX := Cx.enter (D := D) (B := nones 1) (L := [own_units_reader b_ (ρ 0)]) (ρ := ρ) (N := 14) Tryd.ntmps35 [.ptr 0 1] (hst.emps ρ 1) rfl hg (by kernel_rfl) (fun _ h => (nones_mem h).elim) (Nat.le_of_ble_eq_true rfl) (fix1 hD)
  unfold strings_Builder_String_at_units_reader_1 at h0
  have hX : Cx 14 _ _ _ _ _ [own_units_reader b_ (ρ 0)] [none] ρ _ _ := hX
  obtain ⟨⟨q1, A2, c3⟩, hX⟩ := Cx.unpackP (k := 0) (Y := (Bool × Option Addr × Nat)) (ty := 52) hX (fun (y : (Bool × Option Addr × Nat)) => [.v (.string ⟨⟨b_.s⟩⟩), .opt y.1 0 1, .v (.slice y.2.1 b_.out.length y.2.2)]) rfl (fun y => rfl) (fun y F h => h) (fun y => rfl)
  have hX : Cx 14 _ _ _ _ _ [accP 5 kByte A2 c3 b_.out] [some ⟨52, [.v (.string ⟨⟨b_.s⟩⟩), .opt q1 0 1, .v (.slice A2 b_.out.length c3)]⟩] ρ _ _ := hX
  refine Cx.rseq hX [] [0] (l' := [(0, .ptr 0 1)]) (B' := [some ⟨52, [.v (.string ⟨⟨b_.s⟩⟩), .opt q1 0 1, .v (.slice A2 b_.out.length c3)]⟩]) (by kernel_rfl) fun ρ w a hX => ?_
  refine wp_seq_k fun K2 hK2 => ?_
  have J2 : ∀ (_ : Unit), strings_Builder_String_at_units_reader_1.j1 b_ = some r → ∀ (ρ : Nat → Nat) (w : World) (F : Heap) (a : Act), Cx 14 w0 F0 D w F [] [some ⟨52, [.v (.string ⟨⟨b_.s⟩⟩), .opt q1 0 1, .v (.slice A2 b_.out.length c3)]⟩] ρ [(2, .v (.string ⟨⟨b_.out⟩⟩))] a → K2 a w := by
    intro _ h0  ρ w F a hX
    unfold strings_Builder_String_at_units_reader_1.j1 at h0
    refine hK2 _ _ ?_
    refine wp_ret ?_
    have hX : Cx 14 _ _ _ _ _ [] [some ⟨52, [.v (.string ⟨⟨b_.s⟩⟩), .opt q1 0 1, .v (.slice A2 b_.out.length c3)]⟩] ρ _ _ := hX
    have hX : Cx 14 _ _ _ _ _ [own_units_reader_d b_ (ρ 0)] [none] ρ _ _ := Cx.packP (Y := (Bool × Option Addr × Nat)) hX 0 ((q1, A2, c3) : (Bool × Option Addr × Nat)) rfl rfl rfl rfl (fun h => h)
    have hX : Cx 14 _ _ _ _ _ [own_units_reader_d b_ (ρ 0)] [none] ρ _ _ := hX
    have hr := Option.some.inj (show some _ = some _ from h0)
    subst hr
    exact hX.retH (M := [own_units_reader_d b_ (ρ 0)]) (ss := [.v (.string ⟨⟨b_.out⟩⟩)]) (by kernel_rfl) (by kernel_rfl) ⟨rfl, by rw [(hX.fix 0 _ (by rw [hD]; rfl)).2]⟩
  have hGd := hG.mono hX.st.le
  refine hX.draw rfl (n := 12) rfl #[false, false, false, false, false, false, false, false, false, false, false, false] (by kernel_rfl) fun w D' hDk back hX => ?_
  refine hX.dq 0 rfl rfl (listed' := #[true, false, false, false, false, false, false, false, false, false, false, false]) (by kernel_rfl) (by kernel_rfl) (s := .ptr 0 1) (by kernel_rfl) fun a hX => ?_
  refine hX.dq 1 rfl rfl (listed' := #[true, true, false, false, false, false, false, false, false, false, false, false]) (by kernel_rfl) (by kernel_rfl) (s := .ptr 0 1) (by kernel_rfl) fun a hX => ?_
  refine hX.dq 2 rfl rfl (listed' := #[true, true, true, false, false, false, false, false, false, false, false, false]) (by kernel_rfl) (by kernel_rfl) (s := .ptr 0 2) (by kernel_rfl) fun a hX => ?_
  refine hX.dq 5 rfl rfl (listed' := #[true, true, true, false, false, true, false, false, false, false, false, false]) (by kernel_rfl) (by kernel_rfl) (s := .ptr 0 1) (by kernel_rfl) fun a hX => ?_
  refine hX.dq 6 rfl rfl (listed' := #[true, true, true, false, false, true, true, false, false, false, false, false]) (by kernel_rfl) (by kernel_rfl) (s := .ptr 0 1) (by kernel_rfl) fun a hX => ?_
  refine hX.dq 7 rfl rfl (listed' := #[true, true, true, false, false, true, true, true, false, false, false, false]) (by kernel_rfl) (by kernel_rfl) (s := .ptr 0 2) (by kernel_rfl) fun a hX => ?_
  refine dord (r := [3, 8]) (by kernel_rfl) (by decide) fun i hi => ?_
  simp only [List.mem_cons, List.not_mem_nil, or_false] at hi
  rcases hi with rfl | rfl
  · refine dtry (listed' := #[true, true, true, true, false, true, true, true, false, false, false, false]) 3 rfl (by kernel_rfl) ?_
    refine hX.part [] 1 [0, 3, 4, 5, 6, 8, 9, 10] (l' := [(0, .ptr 0 1), (3, .ptr 0 1), (4, .ptr 0 1), (5, .ptr 0 2), (6, .v (.slice A2 b_.out.length c3)), (8, .ptr 0 1), (9, .ptr 0 1), (10, .ptr 0 2)]) (B' := [some ⟨52, [.v (.string ⟨⟨b_.s⟩⟩), .opt q1 0 1, .v (.slice A2 b_.out.length c3)]⟩]) (by kernel_rfl) fun ρ w a hX => ?_
    refine dnext hX.st.sub0 ?_
    refine dord (r := [4, 8]) (by kernel_rfl) (by decide) fun i hi => ?_
    simp only [List.mem_cons, List.not_mem_nil, or_false] at hi
    rcases hi with rfl | rfl
    · refine dtry (listed' := #[true, true, true, true, true, true, true, true, false, false, false, false]) 4 rfl (by kernel_rfl) ?_
      refine hX.sliceData (lit := []) (e := 5) (e2 := 5) (i := 0) (xs := b_.out) (A := A2) (c := c3) (by kernel_rfl) (by kernel_rfl) rfl rfl (by kernel_rfl) (by kernel_rfl) fun q4 w a hqq4 hX => ?_
      refine dnext hX.st.sub0 ?_
      refine dseq (listed' := #[true, true, true, true, true, true, true, true, true, false, false, false]) 8 (by kernel_rfl) rfl (by kernel_rfl) ?_
      refine hX.part [] 1 [0, 3, 4, 5, 6, 7, 8, 9, 10, 11] (l' := [(0, .ptr 0 1), (3, .ptr 0 1), (4, .ptr 0 1), (5, .ptr 0 2), (6, .v (.slice A2 b_.out.length c3)), (7, .v (.pointer q4)), (8, .ptr 0 1), (9, .ptr 0 1), (10, .ptr 0 2), (11, .v (.slice A2 b_.out.length c3))]) (B' := [some ⟨52, [.v (.string ⟨⟨b_.s⟩⟩), .opt q1 0 1, .v (.slice A2 b_.out.length c3)]⟩]) (by kernel_rfl) fun ρ w a hX => ?_
      refine dnext hX.st.sub0 ?_
      refine hX.dq 9 rfl rfl (listed' := #[true, true, true, true, true, true, true, true, true, true, false, false]) (by kernel_rfl) (by kernel_rfl) (s := .v (.int .i64 ((b_.out.length : Nat) : Int))) (by kernel_rfl) fun a hX => ?_
      refine dseq (listed' := #[true, true, true, true, true, true, true, true, true, true, true, false]) 10 (by kernel_rfl) rfl (by kernel_rfl) ?_
      refine hX.unsString (lit := []) (e := 5) (i := 0) (xs := b_.out) (A := A2) (q := q4) (c := c3) (by kernel_rfl) (by kernel_rfl) rfl rfl (by kernel_rfl) (by kernel_rfl) (by kernel_rfl) (by kernel_rfl) hqq4 fun w a hX => ?_
      have hX : Cx 14 _ _ _ _ _ [] [some ⟨52, [.v (.string ⟨⟨b_.s⟩⟩), .opt q1 0 1, .v (.slice A2 b_.out.length c3)]⟩] ρ _ _ := hX
      refine dnext hX.st.sub0 ?_
      refine hX.dq 11 rfl rfl (listed' := #[true, true, true, true, true, true, true, true, true, true, true, true]) (by kernel_rfl) (by kernel_rfl) (s := .v (.string ⟨⟨b_.out⟩⟩)) (by kernel_rfl) fun a hX => ?_
      have hX := back hX
      refine ddone (by kernel_rfl) ?_
      have hX := hX.keeps [2] (l' := [(2, .v (.string ⟨⟨b_.out⟩⟩))]) (by kernel_rfl)
      exact J2 () h0  _ _ _ _ hX
    · refine dtry (listed' := #[true, true, true, true, false, true, true, true, true, false, false, false]) 8 rfl (by kernel_rfl) ?_
      refine hX.part [] 1 [0, 3, 4, 5, 6, 8, 9, 10, 11] (l' := [(0, .ptr 0 1), (3, .ptr 0 1), (4, .ptr 0 1), (5, .ptr 0 2), (6, .v (.slice A2 b_.out.length c3)), (8, .ptr 0 1), (9, .ptr 0 1), (10, .ptr 0 2), (11, .v (.slice A2 b_.out.length c3))]) (B' := [some ⟨52, [.v (.string ⟨⟨b_.s⟩⟩), .opt q1 0 1, .v (.slice A2 b_.out.length c3)]⟩]) (by kernel_rfl) fun ρ w a hX => ?_
      refine dnext hX.st.sub0 ?_
      refine hX.dq 9 rfl rfl (listed' := #[true, true, true, true, false, true, true, true, true, true, false, false]) (by kernel_rfl) (by kernel_rfl) (s := .v (.int .i64 ((b_.out.length : Nat) : Int))) (by kernel_rfl) fun a hX => ?_
      refine dseq (listed' := #[true, true, true, true, true, true, true, true, true, true, false, false]) 4 (by kernel_rfl) rfl (by kernel_rfl) ?_
      refine hX.sliceData (lit := []) (e := 5) (e2 := 5) (i := 0) (xs := b_.out) (A := A2) (c := c3) (by kernel_rfl) (by kernel_rfl) rfl rfl (by kernel_rfl) (by kernel_rfl) fun q4 w a hqq4 hX => ?_
      refine dnext hX.st.sub0 ?_
      refine dseq (listed' := #[true, true, true, true, true, true, true, true, true, true, true, false]) 10 (by kernel_rfl) rfl (by kernel_rfl) ?_
      refine hX.unsString (lit := []) (e := 5) (i := 0) (xs := b_.out) (A := A2) (q := q4) (c := c3) (by kernel_rfl) (by kernel_rfl) rfl rfl (by kernel_rfl) (by kernel_rfl) (by kernel_rfl) (by kernel_rfl) hqq4 fun w a hX => ?_
      have hX : Cx 14 _ _ _ _ _ [] [some ⟨52, [.v (.string ⟨⟨b_.s⟩⟩), .opt q1 0 1, .v (.slice A2 b_.out.length c3)]⟩] ρ _ _ := hX
      refine dnext hX.st.sub0 ?_
      refine hX.dq 11 rfl rfl (listed' := #[true, true, true, true, true, true, true, true, true, true, true, true]) (by kernel_rfl) (by kernel_rfl) (s := .v (.string ⟨⟨b_.out⟩⟩)) (by kernel_rfl) fun a hX => ?_
      have hX := back hX
      refine ddone (by kernel_rfl) ?_
      have hX := hX.keeps [2] (l' := [(2, .v (.string ⟨⟨b_.out⟩⟩))]) (by kernel_rfl)
      exact J2 () h0  _ _ _ _ hX
  · refine dtry (listed' := #[true, true, true, false, false, true, true, true, true, false, false, false]) 8 rfl (by kernel_rfl) ?_
    refine hX.part [] 1 [0, 3, 4, 5, 8, 9, 10, 11] (l' := [(0, .ptr 0 1), (3, .ptr 0 1), (4, .ptr 0 1), (5, .ptr 0 2), (8, .ptr 0 1), (9, .ptr 0 1), (10, .ptr 0 2), (11, .v (.slice A2 b_.out.length c3))]) (B' := [some ⟨52, [.v (.string ⟨⟨b_.s⟩⟩), .opt q1 0 1, .v (.slice A2 b_.out.length c3)]⟩]) (by kernel_rfl) fun ρ w a hX => ?_
    refine dnext hX.st.sub0 ?_
    refine hX.dq 9 rfl rfl (listed' := #[true, true, true, false, false, true, true, true, true, true, false, false]) (by kernel_rfl) (by kernel_rfl) (s := .v (.int .i64 ((b_.out.length : Nat) : Int))) (by kernel_rfl) fun a hX => ?_
    refine dseq (listed' := #[true, true, true, true, false, true, true, true, true, true, false, false]) 3 (by kernel_rfl) rfl (by kernel_rfl) ?_
    refine hX.part [] 1 [0, 3, 4, 5, 6, 8, 9, 10, 11, 12] (l' := [(0, .ptr 0 1), (3, .ptr 0 1), (4, .ptr 0 1), (5, .ptr 0 2), (6, .v (.slice A2 b_.out.length c3)), (8, .ptr 0 1), (9, .ptr 0 1), (10, .ptr 0 2), (11, .v (.slice A2 b_.out.length c3)), (12, .v (.int .i64 ((b_.out.length : Nat) : Int)))]) (B' := [some ⟨52, [.v (.string ⟨⟨b_.s⟩⟩), .opt q1 0 1, .v (.slice A2 b_.out.length c3)]⟩]) (by kernel_rfl) fun ρ w a hX => ?_
    refine dnext hX.st.sub0 ?_
    refine dseq (listed' := #[true, true, true, true, true, true, true, true, true, true, false, false]) 4 (by kernel_rfl) rfl (by kernel_rfl) ?_
    refine hX.sliceData (lit := []) (e := 5) (e2 := 5) (i := 0) (xs := b_.out) (A := A2) (c := c3) (by kernel_rfl) (by kernel_rfl) rfl rfl (by kernel_rfl) (by kernel_rfl) fun q4 w a hqq4 hX => ?_
    refine dnext hX.st.sub0 ?_
    refine dseq (listed' := #[true, true, true, true, true, true, true, true, true, true, true, false]) 10 (by kernel_rfl) rfl (by kernel_rfl) ?_
    refine hX.unsString (lit := []) (e := 5) (i := 0) (xs := b_.out) (A := A2) (q := q4) (c := c3) (by kernel_rfl) (by kernel_rfl) rfl rfl (by kernel_rfl) (by kernel_rfl) (by kernel_rfl) (by kernel_rfl) hqq4 fun w a hX => ?_
    have hX : Cx 14 _ _ _ _ _ [] [some ⟨52, [.v (.string ⟨⟨b_.s⟩⟩), .opt q1 0 1, .v (.slice A2 b_.out.length c3)]⟩] ρ _ _ := hX
    refine dnext hX.st.sub0 ?_
    refine hX.dq 11 rfl rfl (listed' := #[true, true, true, true, true, true, true, true, true, true, true, true]) (by kernel_rfl) (by kernel_rfl) (s := .v (.string ⟨⟨b_.out⟩⟩)) (by kernel_rfl) fun a hX => ?_
    have hX := back hX
    refine ddone (by kernel_rfl) ?_
    have hX := hX.keeps [2] (l' := [(2, .v (.string ⟨⟨b_.out⟩⟩))]) (by kernel_rfl)
    exact J2 () h0  _ _ _ _ hX
def units_unit (n : Int) : Option (Str) :=
  Option.bind (toB (IntKind.wrap .u8 (Int.fdiv n (2 ^ 8)))) fun b1 =>
  Option.bind (toB (IntKind.wrap .u8 n)) fun b2 =>
  some ([b1, b2] : List UInt8)
theorem units_unit.ok (n : Int) (r : Str) (h0 : units_unit n = some r) (w0 : World) (F0 : Heap) (hv : F0.Sub w0) (hG : Glob F0) (hg : SV.goods F0 [.v (.int .i64 n)]) (ρ : Nat → Nat) :
    Calls Tryd.prog 38 (SV.dens ρ [.v (.int .i64 n)]).toArray w0 (Ret0 w0 F0 fun s => s = .v (.string ⟨⟨r⟩⟩)) := by
  refine calls_of_wp Tryd.func38 rfl ?_
  have hX := Cx.enter (D := No) (B := []) (L := []) (ρ := ρ) (N := 10) Tryd.ntmps38 [.v (.int .i64 n)] (St.start hv) rfl hg (by kernel_rfl) (fun _ h => by cases h) (Nat.le_of_ble_eq_true rfl) No.unfix
  unfold units_unit at h0
  refine Cx.rseq hX [] [0] (l' := [(0, .v (.int .i64 n))]) (B' := []) (by kernel_rfl) fun ρ w a hX => ?_
  refine wp_seq_k fun K2 hK2 => ?_
  refine wp_region_list ?_
  refine hX.part [] 6 [8] (l' := [(8, .slc 0 0 2 2)]) (B' := [some ⟨5, [.v (.int .u8 (IntKind.wrap .u8 (Int.fdiv n (2 ^ 8)))), .v (.int .u8 (IntKind.wrap .u8 n))]⟩]) (by kernel_rfl) fun ρ w a hX => ?_
  obtain ⟨b1, hb1, h0⟩ := bnd_some h0
  obtain ⟨b2, hb2, h0⟩ := bnd_some h0
  have hX := hX.rebox 0 (b := ⟨5, [.v (.int .u8 (IntKind.wrap .u8 (Int.fdiv n (2 ^ 8)))), .v (.int .u8 (IntKind.wrap .u8 n))]⟩) (cs := [.v (.int .u8 ((b1.toNat : Nat) : Int)), .v (.int .u8 ((b2.toNat : Nat) : Int))]) (B' := [some ⟨5, [.v (.int .u8 ((b1.toNat : Nat) : Int)), .v (.int .u8 ((b2.toNat : Nat) : Int))]⟩]) (by kernel_rfl) (fun ρ => by simp only [SV.dens, SV.den, toB_some hb1, toB_some hb2]) (by have hg := (hX.bgood ⟨5, [.v (.int .u8 (IntKind.wrap .u8 (Int.fdiv n (2 ^ 8)))), .v (.int .u8 (IntKind.wrap .u8 n))]⟩ (List.mem_of_getElem? (i := 0) (by kernel_rfl))).1; exact ⟨trivial, trivial, trivial⟩) (by kernel_rfl) (by kernel_rfl)
  obtain ⟨b3, hb, hX⟩ := hX.boxAcc2 (d := kByte) (e := 5) (k := 0) (t := 8) (m := 2) ([(b1, ()), (b2, ())] : List (UInt8 × (kByte).Y)) (by kernel_rfl) (by kernel_rfl) rfl rfl (by decide) ⟨_, rfl⟩
  have hX : Cx 10 _ _ _ _ _ [accP 5 kByte (some ⟨b3, 0, none⟩) 2 ([b1, b2] : List UInt8)] [none] ρ _ a := hX
  obtain ⟨F, hX⟩ := hX.freeze (i := 0) (t := 8) (e := 5) (d := kByte) (A := (some ⟨b3, 0, none⟩)) (c := 2) (xs := ([b1, b2] : List UInt8)) rfl (by kernel_rfl)
  have hX : Cx 10 _ _ _ _ _ [] [none] ρ _ a := hX
  refine hX.strSl (lit := []) (by kernel_rfl) (by kernel_rfl) rfl (e := 5) (xs := ([b1, b2] : List UInt8)) (A := (some ⟨b3, 0, none⟩)) (c := 2) (by kernel_rfl) (by kernel_rfl) (by kernel_rfl) (by kernel_rfl) fun a hX => ?_
  refine hX.part [] 1 [2] (l' := [(2, .v (.string ⟨⟨([b1, b2] : List UInt8)⟩⟩))]) (B' := [none]) (by kernel_rfl) fun ρ w a hX => ?_
  refine wpList_end ?_
  refine hK2 _ _ ?_
  refine wp_ret ?_
  have hr := Option.some.inj (show some _ = some _ from h0)
  subst hr
  exact hX.ret0 (ss := [.v (.string ⟨⟨([b1, b2] : List UInt8)⟩⟩)]) (by kernel_rfl) (by kernel_rfl) rfl
def strings_Builder_copyCheck_at_units_reader_1 (b_ : T_units_reader) : Option (Unit) :=
  some ()
theorem strings_Builder_copyCheck_at_units_reader_1.ok (b_ : T_units_reader) (r : Unit) (h0 : strings_Builder_copyCheck_at_units_reader_1 b_ = some r) (w0 : World) (F0 : Heap) (hv : F0.Sub w0) (hG : Glob F0) (hg : SV.goods F0 [.ptr 0 1]) (ρ : Nat → Nat) (D : Own) (hD : D.known = [ρ 0]) (hst : St w0 F0 D w0 F0 [own_units_reader b_ (ρ 0)]) :
    Calls Tryd.prog 45 (SV.dens ρ [.ptr 0 1]).toArray w0 (RetH w0 F0 D fun s M => (s = .tup []) ∧ M = [own_units_reader b_ (ρ 0)]) := by
  refine calls_of_wp Tryd.func45 rfl ?_
  have hX := Cx.enter (D := D) (B := nones 1) (L := [own_units_reader b_ (ρ 0)]) (ρ := ρ) (N := 20) Tryd.ntmps45 [.ptr 0 1] (hst.emps ρ 1) rfl hg (by kernel_rfl) (fun _ h => (nones_mem h).elim) (Nat.le_of_ble_eq_true rfl) (fix1 hD)
  unfold strings_Builder_copyCheck_at_units_reader_1 at h0
  have hX : Cx 20 _ _ _ _ _ [own_units_reader b_ (ρ 0)] [none] ρ _ _ := hX
  obtain ⟨⟨q1, A2, c3⟩, hX⟩ := Cx.unpackP (k := 0) (Y := (Bool × Option Addr × Nat)) (ty := 52) hX (fun (y : (Bool × Option Addr × Nat)) => [.v (.string ⟨⟨b_.s⟩⟩), .opt y.1 0 1, .v (.slice y.2.1 b_.out.length y.2.2)]) rfl (fun y => rfl) (fun y F h => h) (fun y => rfl)
  have hX : Cx 20 _ _ _ _ _ [accP 5 kByte A2 c3 b_.out] [some ⟨52, [.v (.string ⟨⟨b_.s⟩⟩), .opt q1 0 1, .v (.slice A2 b_.out.length c3)]⟩] ρ _ _ := hX
  rcases q1 with _ | _
  · refine wp_seq_k fun K1 hK1 => ?_
    refine wp_region_list ?_
    refine hX.part [] 4 [0, 5] (l' := [(0, .ptr 0 1), (5, .opt false 0 1)]) (B' := [some ⟨52, [.v (.string ⟨⟨b_.s⟩⟩), .opt false 0 1, .v (.slice A2 b_.out.length c3)]⟩]) (by kernel_rfl) fun ρ w a hX => ?_
    refine hX.ptrNil (t := 50) (lit := []) (by kernel_rfl) (by kernel_rfl) rfl (s := .opt false 0 1) (q := none) (by kernel_rfl) (by kernel_rfl) rfl (by kernel_rfl) fun a hX => ?_
    refine hX.part [] 0 [0, 6] (l' := [(0, .ptr 0 1), (6, .v (.bool true))]) (B' := [some ⟨52, [.v (.string ⟨⟨b_.s⟩⟩), .opt false 0 1, .v (.slice A2 b_.out.length c3)]⟩]) (by kernel_rfl) fun ρ w a hX => ?_
    refine wpList_end ?_
    refine hK1 _ _ ?_
    refine Cx.cond hX (b := true) (by kernel_rfl) (fun _ => ?_) (fun h => by cases h)
    refine wp_region_list ?_
    refine hX.part [] 2 [7, 8] (l' := [(7, .ptr 0 1), (8, .ptr 0 1)]) (B' := [some ⟨52, [.v (.string ⟨⟨b_.s⟩⟩), .opt false 0 1, .v (.slice A2 b_.out.length c3)]⟩]) (by kernel_rfl) fun ρ w a hX => ?_
    refine hX.toUns (t := 50) (lit := []) (by kernel_rfl) (by kernel_rfl) rfl (e := 52) (cells := [.v (.string ⟨⟨b_.s⟩⟩), .opt false 0 1, .v (.slice A2 b_.out.length c3)]) (k := 0) (off := 1) (by kernel_rfl) (by kernel_rfl) (by kernel_rfl) (by kernel_rfl) (by kernel_rfl) (by kernel_rfl) fun a hX => ?_
    refine hX.part [] 0 [7, 9] (l' := [(7, .ptr 0 1), (9, .ptr 0 1)]) (B' := [some ⟨52, [.v (.string ⟨⟨b_.s⟩⟩), .opt false 0 1, .v (.slice A2 b_.out.length c3)]⟩]) (by kernel_rfl) fun ρ w a hX => ?_
    refine hX.noEsc (lit := []) (by kernel_rfl) (by kernel_rfl) rfl rfl Tryd.func56 (by kernel_rfl) (by kernel_rfl) (by kernel_rfl) (by kernel_rfl) (s := .ptr 0 1) (by kernel_rfl) fun a hX => ?_
    refine hX.part [] 0 [7, 10] (l' := [(7, .ptr 0 1), (10, .ptr 0 1)]) (B' := [some ⟨52, [.v (.string ⟨⟨b_.s⟩⟩), .opt false 0 1, .v (.slice A2 b_.out.length c3)]⟩]) (by kernel_rfl) fun ρ w a hX => ?_
    refine hX.fromUns (t := 50) (lit := []) (by kernel_rfl) (by kernel_rfl) rfl (e := 52) (cells := [.v (.string ⟨⟨b_.s⟩⟩), .opt false 0 1, .v (.slice A2 b_.out.length c3)]) (k := 0) (off := 1) (by kernel_rfl) (by kernel_rfl) (by kernel_rfl) (by kernel_rfl) (by kernel_rfl) (by kernel_rfl) fun a hX => ?_
    refine hX.part [] 3 [] (l' := []) (B' := [some ⟨52, [.v (.string ⟨⟨b_.s⟩⟩), .ptr 0 1, .v (.slice A2 b_.out.length c3)]⟩]) (by kernel_rfl) fun ρ w a hX => ?_
    refine wpList_end ?_
    have hX : Cx 20 _ _ _ _ _ [accP 5 kByte A2 c3 b_.out] [some ⟨52, [.v (.string ⟨⟨b_.s⟩⟩), .ptr 0 1, .v (.slice A2 b_.out.length c3)]⟩] ρ _ _ := hX
    have hX : Cx 20 _ _ _ _ _ [own_units_reader b_ (ρ 0)] [none] ρ _ _ := Cx.packP (Y := (Bool × Option Addr × Nat)) hX 0 ((true, A2, c3) : (Bool × Option Addr × Nat)) rfl rfl rfl rfl (fun h => h)
    have hX : Cx 20 _ _ _ _ _ [own_units_reader b_ (ρ 0)] [none] ρ _ _ := hX
    have hr := Option.some.inj (show some _ = some _ from h0)
    subst hr
    exact hX.retH (M := [own_units_reader b_ (ρ 0)]) (ss := []) (by kernel_rfl) (by kernel_rfl) ⟨rfl, by rw [(hX.fix 0 _ (by rw [hD]; rfl)).2]⟩
  · refine wp_seq_k fun K2 hK2 => ?_
    refine wp_region_list ?_
    refine hX.part [] 4 [0, 5] (l' := [(0, .ptr 0 1), (5, .opt true 0 1)]) (B' := [some ⟨52, [.v (.string ⟨⟨b_.s⟩⟩), .opt true 0 1, .v (.slice A2 b_.out.length c3)]⟩]) (by kernel_rfl) fun ρ w a hX => ?_
    refine hX.ptrNil (t := 50) (lit := []) (by kernel_rfl) (by kernel_rfl) rfl (s := .opt true 0 1) (q := some ⟨ρ 0, 1, none⟩) (by kernel_rfl) (by kernel_rfl) rfl (by kernel_rfl) fun a hX => ?_
    refine hX.part [] 0 [0, 6] (l' := [(0, .ptr 0 1), (6, .v (.bool false))]) (B' := [some ⟨52, [.v (.string ⟨⟨b_.s⟩⟩), .opt true 0 1, .v (.slice A2 b_.out.length c3)]⟩]) (by kernel_rfl) fun ρ w a hX => ?_
    refine wpList_end ?_
    refine hK2 _ _ ?_
    refine Cx.cond hX (b := false) (by kernel_rfl) (fun h => by cases h) (fun _ => ?_)
    refine wp_seq_k fun K3 hK3 => ?_
    refine wp_region_list ?_
    refine hX.part [] 5 [17, 18] (l' := [(17, .opt true 0 1), (18, .ptr 0 1)]) (B' := [some ⟨52, [.v (.string ⟨⟨b_.s⟩⟩), .opt true 0 1, .v (.slice A2 b_.out.length c3)]⟩]) (by kernel_rfl) fun ρ w a hX => ?_
    refine hX.ptrSelf (t := 50) (lit := []) (by kernel_rfl) (by kernel_rfl) rfl (s := .opt true 0 1) (s2 := .ptr 0 1) (p := ⟨ρ 0, 1, none⟩) (by kernel_rfl) (by kernel_rfl) (by kernel_rfl) rfl (by kernel_rfl) rfl fun a hX => ?_
    refine hX.part [] 0 [19] (l' := [(19, .v (.bool false))]) (B' := [some ⟨52, [.v (.string ⟨⟨b_.s⟩⟩), .opt true 0 1, .v (.slice A2 b_.out.length c3)]⟩]) (by kernel_rfl) fun ρ w a hX => ?_
    refine wpList_end ?_
    refine hK3 _ _ ?_
    refine Cx.cond hX (b := false) (by kernel_rfl) (fun h => by cases h) (fun _ => ?_)
    refine wp_skip ?_
    have hX : Cx 20 _ _ _ _ _ [accP 5 kByte A2 c3 b_.out] [some ⟨52, [.v (.string ⟨⟨b_.s⟩⟩), .opt true 0 1, .v (.slice A2 b_.out.length c3)]⟩] ρ _ _ := hX
    have hX : Cx 20 _ _ _ _ _ [own_units_reader b_ (ρ 0)] [none] ρ _ _ := Cx.packP (Y := (Bool × Option Addr × Nat)) hX 0 ((true, A2, c3) : (Bool × Option Addr × Nat)) rfl rfl rfl rfl (fun h => h)
    have hX : Cx 20 _ _ _ _ _ [own_units_reader b_ (ρ 0)] [none] ρ _ _ := hX
    have hr := Option.some.inj (show some _ = some _ from h0)
    subst hr
    exact hX.retH (M := [own_units_reader b_ (ρ 0)]) (ss := []) (by kernel_rfl) (by kernel_rfl) ⟨rfl, by rw [(hX.fix 0 _ (by rw [hD]; rfl)).2]⟩
def strings_Builder_WriteString_at_units_reader_1 (b_ : T_units_reader) (s_ : Str) : Option (Int × Unit × T_units_reader) :=
  Option.bind (strings_Builder_copyCheck_at_units_reader_1 b_) fun v4 =>
  Option.bind (room (b_.out.length + s_.length)) fun u10 =>
  some (((s_.length : Nat) : Int), (), ({ s := b_.s, out := (b_.out ++ s_) } : T_units_reader))
theorem strings_Builder_WriteString_at_units_reader_1.ok (b_ : T_units_reader) (s_ : Str) (r : Int × Unit × T_units_reader) (h0 : strings_Builder_WriteString_at_units_reader_1 b_ s_ = some r) (w0 : World) (F0 : Heap) (hv : F0.Sub w0) (hG : Glob F0) (hg : SV.goods F0 [.ptr 0 1, .v (.string ⟨⟨s_⟩⟩)]) (ρ : Nat → Nat) (D : Own) (hD : D.known = [ρ 0]) (hst : St w0 F0 D w0 F0 [own_units_reader b_ (ρ 0)]) :
    Calls Tryd.prog 37 (SV.dens ρ [.ptr 0 1, .v (.string ⟨⟨s_⟩⟩)]).toArray w0 (RetH w0 F0 D fun s M => (∃ s1 s2, s = .tup [s1, s2] ∧ (s1 = .v (.int .i64 r.1)) ∧ (s2 = .v .nilIface)) ∧ M = [own_units_reader r.2.2 (ρ 0)]) := by
  refine calls_of_wp Tryd.func37 rfl ?_
  have hX := Cx.enter (D := D) (B := nones 1) (L := [own_units_reader b_ (ρ 0)]) (ρ := ρ) (N := 19) Tryd.ntmps37 [.ptr 0 1, .v (.string ⟨⟨s_⟩⟩)] (hst.emps ρ 1) rfl hg (by kernel_rfl) (fun _ h => (nones_mem h).elim) (Nat.le_of_ble_eq_true rfl) (fix1 hD)
  unfold strings_Builder_WriteString_at_units_reader_1 at h0
  have hX : Cx 19 _ _ _ _ _ [own_units_reader b_ (ρ 0)] [none] ρ _ _ := hX
  obtain ⟨⟨q1, A2, c3⟩, hX⟩ := Cx.unpackP (k := 0) (Y := (Bool × Option Addr × Nat)) (ty := 52) hX (fun (y : (Bool × Option Addr × Nat)) => [.v (.string ⟨⟨b_.s⟩⟩), .opt y.1 0 1, .v (.slice y.2.1 b_.out.length y.2.2)]) rfl (fun y => rfl) (fun y F h => h) (fun y => rfl)
  have hX : Cx 19 _ _ _ _ _ [accP 5 kByte A2 c3 b_.out] [some ⟨52, [.v (.string ⟨⟨b_.s⟩⟩), .opt q1 0 1, .v (.slice A2 b_.out.length c3)]⟩] ρ _ _ := hX
  refine Cx.rseq hX [] [0, 1] (l' := [(0, .ptr 0 1), (1, .v (.string ⟨⟨s_⟩⟩))]) (B' := [some ⟨52, [.v (.string ⟨⟨b_.s⟩⟩), .opt q1 0 1, .v (.slice A2 b_.out.length c3)]⟩]) (by kernel_rfl) fun ρ w a hX => ?_
  refine wp_seq_k fun K2 hK2 => ?_
  refine wp_region_list ?_
  refine hX.part [] 1 [0, 1, 6] (l' := [(0, .ptr 0 1), (1, .v (.string ⟨⟨s_⟩⟩)), (6, .ptr 0 1)]) (B' := [some ⟨52, [.v (.string ⟨⟨b_.s⟩⟩), .opt q1 0 1, .v (.slice A2 b_.out.length c3)]⟩]) (by kernel_rfl) fun ρ w a hX => ?_
  obtain ⟨v4, hv4, h0⟩ := bnd_some h0
  have hX : Cx 19 _ _ _ _ _ [accP 5 kByte A2 c3 b_.out] [some ⟨52, [.v (.string ⟨⟨b_.s⟩⟩), .opt q1 0 1, .v (.slice A2 b_.out.length c3)]⟩] ρ _ _ := hX
  have hX : Cx 19 _ _ _ _ _ [own_units_reader b_ (ρ 0)] [none] ρ _ _ := Cx.packP (Y := (Bool × Option Addr × Nat)) hX 0 ((q1, A2, c3) : (Bool × Option Addr × Nat)) rfl rfl rfl rfl (fun h => h)
  have hX : Cx 19 _ _ _ _ _ [own_units_reader b_ (ρ 0)] [none] ρ _ _ := hX
  refine Cx.callH (M := [own_units_reader b_ (ρ 0)]) (L := []) hX (lit := []) (by kernel_rfl) rfl (by kernel_rfl) ⟨⟨_, Tryd.func45, by kernel_rfl, rfl⟩⟩ (ss := [.ptr 0 1]) (by kernel_rfl) [.ptr 0 1] rfl (fun hg => ⟨trivial, trivial⟩) [ρ 0] (fun D' hD' hv hle hg hst => strings_Builder_copyCheck_at_units_reader_1.ok b_ v4 hv4 _ _ hv (hG.mono hle) hg (fun k => match k with | 0 => ρ 0 | _ => 0) D' hD' hst) (fun s F M w a hp hX => ?_)
  obtain ⟨hp, rfl⟩ := hp
  subst hp
  have hX : Cx 19 _ _ _ _ _ [own_units_reader b_ (ρ 0)] [none] ρ _ _ := hX
  obtain ⟨⟨q5, A6, c7⟩, hX⟩ := Cx.unpackP (k := 0) (Y := (Bool × Option Addr × Nat)) (ty := 52) hX (fun (y : (Bool × Option Addr × Nat)) => [.v (.string ⟨⟨b_.s⟩⟩), .opt y.1 0 1, .v (.slice y.2.1 b_.out.length y.2.2)]) rfl (fun y => rfl) (fun y F h => h) (fun y => rfl)
  have hX : Cx 19 _ _ _ _ _ [accP 5 kByte A6 c7 b_.out] [some ⟨52, [.v (.string ⟨⟨b_.s⟩⟩), .opt q5 0 1, .v (.slice A6 b_.out.length c7)]⟩] ρ _ _ := hX
  refine hX.part [] 0 [0, 1] (l' := [(0, .ptr 0 1), (1, .v (.string ⟨⟨s_⟩⟩))]) (B' := [some ⟨52, [.v (.string ⟨⟨b_.s⟩⟩), .opt q5 0 1, .v (.slice A6 b_.out.length c7)]⟩]) (by kernel_rfl) fun ρ w a hX => ?_
  refine wpList_end ?_
  refine hK2 _ _ ?_
  refine wp_seq_k fun K3 hK3 => ?_
  refine wp_region_list ?_
  refine hX.part [] 6 [1, 8, 12, 13] (l' := [(1, .v (.string ⟨⟨s_⟩⟩)), (8, .ptr 0 1), (12, .v (.slice A6 b_.out.length c7)), (13, .v (.string ⟨⟨s_⟩⟩))]) (B' := [some ⟨52, [.v (.string ⟨⟨b_.s⟩⟩), .opt q5 0 1, .v (.slice A6 b_.out.length c7)]⟩]) (by kernel_rfl) fun ρ w a hX => ?_
  obtain ⟨u10, hu10, h0⟩ := bnd_some h0
  refine hX.appStr (lit := []) (i := 0) (e := 5) (xs := b_.out) (A := A6) (c := c7) (t := s_) (by kernel_rfl) (by kernel_rfl) rfl rfl (by kernel_rfl) (by kernel_rfl) (by kernel_rfl) (by kernel_rfl) (by kernel_rfl) hu10 fun A8 c9 w a hX => ?_
  have hX : Cx 19 _ _ _ _ _ [accP 5 kByte A8 c9 (b_.out ++ s_)] [some ⟨52, [.v (.string ⟨⟨b_.s⟩⟩), .opt q5 0 1, .v (.slice A6 b_.out.length c7)]⟩] ρ _ a := hX
  refine hX.part [] 3 [1] (l' := [(1, .v (.string ⟨⟨s_⟩⟩))]) (B' := [some ⟨52, [.v (.string ⟨⟨b_.s⟩⟩), .opt q5 0 1, .v (.slice A8 (b_.out ++ s_).length c9)]⟩]) (by kernel_rfl) fun ρ w a hX => ?_
  refine wpList_end ?_
  refine hK3 _ _ ?_
  refine Cx.rseq hX [] [4, 5] (l' := [(4, .v (.int .i64 ((s_.length : Nat) : Int))), (5, .v .nilIface)]) (B' := [some ⟨52, [.v (.string ⟨⟨b_.s⟩⟩), .opt q5 0 1, .v (.slice A8 (b_.out ++ s_).length c9)]⟩]) (by kernel_rfl) fun ρ w a hX => ?_
  refine wp_ret ?_
  have hX : Cx 19 _ _ _ _ _ [accP 5 kByte A8 c9 (b_.out ++ s_)] [some ⟨52, [.v (.string ⟨⟨b_.s⟩⟩), .opt q5 0 1, .v (.slice A8 (b_.out ++ s_).length c9)]⟩] ρ _ _ := hX
  have hX : Cx 19 _ _ _ _ _ [own_units_reader ({ s := b_.s, out := (b_.out ++ s_) } : T_units_reader) (ρ 0)] [none] ρ _ _ := Cx.packP (Y := (Bool × Option Addr × Nat)) hX 0 ((q5, A8, c9) : (Bool × Option Addr × Nat)) rfl rfl rfl rfl (fun h => h)
  have hX : Cx 19 _ _ _ _ _ [own_units_reader ({ s := b_.s, out := (b_.out ++ s_) } : T_units_reader) (ρ 0)] [none] ρ _ _ := hX
  have hr := Option.some.inj (show some _ = some _ from h0)
  subst hr
  exact hX.retH (M := [own_units_reader ({ s := b_.s, out := (b_.out ++ s_) } : T_units_reader) (ρ 0)]) (ss := [.v (.int .i64 ((s_.length : Nat) : Int)), .v .nilIface]) (by kernel_rfl) (by kernel_rfl) ⟨⟨_, _, rfl, rfl, rfl⟩, by rw [(hX.fix 0 _ (by rw [hD]; rfl)).2]⟩
def strings_Trim (t : Str) (cs : Str) : Option (Str) := if t.length < 4294967281 ∧ cs.length < 4294967281 ∧ cs.all (fun b => decide (b.toNat < 128)) = true then some (Lib.trimS t cs) else none
theorem strings_Trim.ok (t : Str) (cs : Str) (r : Str) (h0 : strings_Trim t cs = some r) (w0 : World) (F0 : Heap) (hv : F0.Sub w0) (hG : Glob F0) (hg : SV.goods F0 [.v (.string ⟨⟨t⟩⟩), .v (.string ⟨⟨cs⟩⟩)]) (ρ : Nat → Nat) :
    Calls Tryd.prog 54 (SV.dens ρ [.v (.string ⟨⟨t⟩⟩), .v (.string ⟨⟨cs⟩⟩)]).toArray w0 (Ret0 w0 F0 fun s => s = .v (.string ⟨⟨r⟩⟩)) := by
  unfold strings_Trim at h0
  split at h0
  · rename_i hc
    cases h0
    refine (Any.strings_Trim_ascii Tryd.lays160 (zeroValue_of (z := .agg (Array.replicate 256 (.bool false))) (by kernel_rfl)) (by kernel_rfl) ⟨⟨t⟩⟩ ⟨⟨cs⟩⟩ w0 (Nat.le_of_lt (Nat.lt_trans hc.1 (by decide))) hc.2.1 (fun j b hb => by have := List.all_eq_true.1 hc.2.2 b (List.mem_of_getElem? hb); simpa using this)).mono fun e w' h => ?_
    exact Ret0.below (s := .v (.string ⟨⟨_⟩⟩)) hv h.1 h.2 trivial rfl rfl
  · cases h0
def internal_strconv_lower (c : Int) : Option (Int) :=
  some (IntKind.wrap .u8 ((BitVec.ofInt 8 c ||| BitVec.ofInt 8 32).toNat))
theorem internal_strconv_lower.ok (c : Int) (r : Int) (h0 : internal_strconv_lower c = some r) (w0 : World) (F0 : Heap) (hv : F0.Sub w0) (hG : Glob F0) (hg : SV.goods F0 [.v (.int .u8 c)]) (ρ : Nat → Nat) :
    Calls Tryd.prog 82 (SV.dens ρ [.v (.int .u8 c)]).toArray w0 (Ret0 w0 F0 fun s => s = .v (.int .u8 r)) := by
  refine calls_of_wp Tryd.func82 rfl ?_
  have hX := Cx.enter (D := No) (B := []) (L := []) (ρ := ρ) (N := 5) Tryd.ntmps82 [.v (.int .u8 c)] (St.start hv) rfl hg (by kernel_rfl) (fun _ h => by cases h) (Nat.le_of_ble_eq_true rfl) No.unfix
  unfold internal_strconv_lower at h0
  refine Cx.rseq hX [] [0] (l' := [(0, .v (.int .u8 c))]) (B' := []) (by kernel_rfl) fun ρ w a hX => ?_
  refine Cx.rseq hX [] [2] (l' := [(2, .v (.int .u8 (IntKind.wrap .u8 ((BitVec.ofInt 8 c ||| BitVec.ofInt 8 32).toNat))))]) (B' := []) (by kernel_rfl) fun ρ w a hX => ?_
  refine wp_ret ?_
  have hr := Option.some.inj (show some _ = some _ from h0)
  subst hr
  exact hX.ret0 (ss := [.v (.int .u8 (IntKind.wrap .u8 ((BitVec.ofInt 8 c ||| BitVec.ofInt 8 32).toNat)))]) (by kernel_rfl) (by kernel_rfl) rfl
def internal_strconv_underscoreOK.j8 (x33 : Int) (x46 : Int) : Option ((Int × Int) ⊕ ((Int) ⊕ (Bool))) :=
  some (.inl (x46, (IntKind.wrap .i64 (x33 + 1))))
def internal_strconv_underscoreOK.j7 (x5 : Str) (x32 : Int) (x33 : Int) (x44 : Bool) : Option ((Int × Int) ⊕ ((Int) ⊕ (Bool))) :=
  if x44 = true then
    internal_strconv_underscoreOK.j8 x33 48
  else
    Option.bind (getB x5 x33) fun v45 =>
    if (v45 == 95) = true then
      if (x32 != 48) = true then
        some (.inr (.inr false))
      else
        internal_strconv_underscoreOK.j8 x33 95
    else
      if (x32 == 95) = true then
        some (.inr (.inr false))
      else
        internal_strconv_underscoreOK.j8 x33 33
def internal_strconv_underscoreOK.l1 (x5 : Str) (x18 : Bool) (s : Int × Int) : Option ((Int × Int) ⊕ ((Int) ⊕ (Bool))) := match s with
  | (x32, x33) =>
  if (decide (x33 < ((x5.length : Nat) : Int))) = true then
    Option.bind (getB x5 x33) fun v34 =>
    if (decide (48 ≤ v34)) = true then
      Option.bind (getB x5 x33) fun v35 =>
      if (decide (v35 ≤ 57)) = true then
        internal_strconv_underscoreOK.j7 x5 x32 x33 true
      else
        if x18 = true then
          Option.bind (getB x5 x33) fun v36 =>
          Option.bind (internal_strconv_lower v36) fun v37 =>
          if (decide (97 ≤ v37)) = true then
            Option.bind (getB x5 x33) fun v38 =>
            Option.bind (internal_strconv_lower v38) fun v39 =>
            internal_strconv_underscoreOK.j7 x5 x32 x33 (decide (v39 ≤ 102))
          else
            internal_strconv_underscoreOK.j7 x5 x32 x33 false
        else
          internal_strconv_underscoreOK.j7 x5 x32 x33 false
    else
      if x18 = true then
        Option.bind (getB x5 x33) fun v40 =>
        Option.bind (internal_strconv_lower v40) fun v41 =>
        if (decide (97 ≤ v41)) = true then
          Option.bind (getB x5 x33) fun v42 =>
          Option.bind (internal_strconv_lower v42) fun v43 =>
          internal_strconv_underscoreOK.j7 x5 x32 x33 (decide (v43 ≤ 102))
        else
          internal_strconv_underscoreOK.j7 x5 x32 x33 false
      else
        internal_strconv_underscoreOK.j7 x5 x32 x33 false
  else
    some (.inr (.inl x32))
def internal_strconv_underscoreOK.j4 (x5 : Str) (x16 : Int) (x17 : Int) (x18 : Bool) : Option (Bool) :=
  Option.bind (loopM (internal_strconv_underscoreOK.l1 x5 x18) (x16, x17)) fun e => match e with
  | (.inl x49) =>
    some (x49 != 95)
  | (.inr r50) =>
    some r50
def internal_strconv_underscoreOK.j3 (x5 : Str) (x13 : Bool) : Option (Bool) :=
  if x13 = true then
    Option.bind (getB x5 1) fun v14 =>
    Option.bind (internal_strconv_lower v14) fun v15 =>
    internal_strconv_underscoreOK.j4 x5 48 2 (v15 == 120)
  else
    internal_strconv_underscoreOK.j4 x5 94 0 false
def internal_strconv_underscoreOK.j2 (x5 : Str) : Option (Bool) :=
  if (decide (((x5.length : Nat) : Int) ≥ 2)) = true then
    Option.bind (getB x5 0) fun v6 =>
    if (v6 == 48) = true then
      Option.bind (getB x5 1) fun v7 =>
      Option.bind (internal_strconv_lower v7) fun v8 =>
      if (v8 == 98) = true then
        internal_strconv_underscoreOK.j3 x5 true
      else
        Option.bind (getB x5 1) fun v9 =>
        Option.bind (internal_strconv_lower v9) fun v10 =>
        if (v10 == 111) = true then
          internal_strconv_underscoreOK.j3 x5 true
        else
          Option.bind (getB x5 1) fun v11 =>
          Option.bind (internal_strconv_lower v11) fun v12 =>
          internal_strconv_underscoreOK.j3 x5 (v12 == 120)
    else
      internal_strconv_underscoreOK.j3 x5 false
  else
    internal_strconv_underscoreOK.j3 x5 false
def internal_strconv_underscoreOK.j1 (s_ : Str) (x3 : Bool) : Option (Bool) :=
  if x3 = true then
    Option.bind (cutL s_ 1 ((s_.length : Nat) : Int)) fun v4 =>
    internal_strconv_underscoreOK.j2 v4
  else
    internal_strconv_underscoreOK.j2 s_
def internal_strconv_underscoreOK (s_ : Str) : Option (Bool) :=
  if (decide (((s_.length : Nat) : Int) ≥ 1)) = true then
    Option.bind (getB s_ 0) fun v1 =>
    if (v1 == 45) = true then
      internal_strconv_underscoreOK.j1 s_ true
    else
      Option.bind (getB s_ 0) fun v2 =>
      internal_strconv_underscoreOK.j1 s_ (v2 == 43)
  else
    internal_strconv_underscoreOK.j1 s_ false
theorem internal_strconv_underscoreOK.ok (s_ : Str) (r : Bool) (h0 : internal_strconv_underscoreOK s_ = some r) (w0 : World) (F0 : Heap) (hv : F0.Sub w0) (hG : Glob F0) (hg : SV.goods F0 [.v (.string ⟨⟨s_⟩⟩)]) (ρ : Nat → Nat) :
    Calls Tryd.prog 83 (SV.dens ρ [.v (.string ⟨⟨s_⟩⟩)]).toArray w0 (Ret0 w0 F0 fun s => s = .v (.bool r)) := by
  refine calls_of_wp Tryd.func83 rfl ?_
  have hX := Cx.enter (D := No) (B := []) (L := []) (ρ := ρ) (N := 94) Tryd.ntmps83 [.v (.string ⟨⟨s_⟩⟩)] (St.start hv) rfl hg (by kernel_rfl) (fun _ h => by cases h) (Nat.le_of_ble_eq_true rfl) No.unfix
  unfold internal_strconv_underscoreOK at h0
  refine Cx.rseq hX [] [0] (l' := [(0, .v (.string ⟨⟨s_⟩⟩))]) (B' := []) (by kernel_rfl) fun ρ w a hX => ?_
  refine Cx.rseq hX [] [0, 3] (l' := [(0, .v (.string ⟨⟨s_⟩⟩)), (3, .v (.int .i32 94))]) (B' := []) (by kernel_rfl) fun ρ w a hX => ?_
  refine Cx.rseq hX [] [0, 3, 4] (l' := [(0, .v (.string ⟨⟨s_⟩⟩)), (3, .v (.int .i32 94)), (4, .v (.int .i64 0))]) (B' := []) (by kernel_rfl) fun ρ w a hX => ?_
  refine wp_seq_k fun K4 hK4 => ?_
  have J4 : ∀ (x5 : Str), internal_strconv_underscoreOK.j2 x5 = some r → ∀ (ρ : Nat → Nat) (w : World) (F : Heap) (a : Act), Cx 94 w0 F0 No w F [] [] ρ [(0, .v (.string ⟨⟨x5⟩⟩)), (3, .v (.int .i32 94)), (4, .v (.int .i64 0))] a → K4 a w := by
    intro x5 h0  ρ w F a hX
    unfold internal_strconv_underscoreOK.j2 at h0
    refine hK4 _ _ ?_
    refine Cx.rseq hX [] [0, 3, 4, 5] (l' := [(0, .v (.string ⟨⟨x5⟩⟩)), (3, .v (.int .i32 94)), (4, .v (.int .i64 0)), (5, .v (.bool false))]) (B' := []) (by kernel_rfl) fun ρ w a hX => ?_
    refine wp_seq_k fun K7 hK7 => ?_
    have J7 : ∀ (x16 : Int) (x17 : Int) (x18 : Bool), internal_strconv_underscoreOK.j4 x5 x16 x17 x18 = some r → ∀ (ρ : Nat → Nat) (w : World) (F : Heap) (a : Act), Cx 94 w0 F0 No w F [] [] ρ [(0, .v (.string ⟨⟨x5⟩⟩)), (3, .v (.int .i32 x16)), (4, .v (.int .i64 x17)), (5, .v (.bool x18))] a → K7 a w := by
      intro x16 x17 x18 h0  ρ w F a hX
      unfold internal_strconv_underscoreOK.j4 at h0
      refine hK7 _ _ ?_
      refine wp_seq_k fun K11 hK11 => ?_
      refine wp_block ?_
      have hX := hX.keeps [0, 3, 4, 5] (l' := [(0, .v (.string ⟨⟨x5⟩⟩)), (3, .v (.int .i32 x16)), (4, .v (.int .i64 x17)), (5, .v (.bool x18))]) (by kernel_rfl)
      obtain ⟨e1, he1, h0⟩ := bnd_some h0
      have E1x0 : ∀ (x49 : Int), e1 = (.inl x49) → ∀ (ρ : Nat → Nat) (w : World) (F : Heap) (a : Act), Cx 94 w0 F0 No w F [] [] ρ [(3, .v (.int .i32 x49))] a → K11 a w := by
        intro x49 he  ρ w F a hX
        replace he := he.symm
        subst he
        (try dsimp only at h0)
        refine hK11 _ _ ?_
        refine Cx.rseq hX [] [2] (l' := [(2, .v (.bool (x49 != 95)))]) (B' := []) (by kernel_rfl) fun ρ w a hX => ?_
        refine wp_ret ?_
        have hr := Option.some.inj (show some _ = some _ from h0)
        subst hr
        exact hX.ret0 (ss := [.v (.bool (x49 != 95))]) (by kernel_rfl) (by kernel_rfl) rfl
      refine loop_go (fun (s : Int × Int) a w => match s with | (x32, x33) => ∃ (ρ : Nat → Nat) (F : Heap), Cx 94 w0 F0 No w F [] [] ρ [(0, .v (.string ⟨⟨x5⟩⟩)), (3, .v (.int .i32 x32)), (4, .v (.int .i64 x33)), (5, .v (.bool x18))] a) he1 (fun LW1 s o1 h1 hb1 hx1 a w hI => ?_) _ _ ?_
      · obtain ⟨x32, x33⟩ := s
        obtain ⟨ρ, F, hX⟩ := hI
        unfold internal_strconv_underscoreOK.l1 at h1
        (try dsimp only at h1)
        refine wp_seq_k fun K27 hK27 => ?_
        refine Cx.rseq hX [] [0, 3, 4, 5, 54] (l' := [(0, .v (.string ⟨⟨x5⟩⟩)), (3, .v (.int .i32 x32)), (4, .v (.int .i64 x33)), (5, .v (.bool x18)), (54, .v (.bool (decide (x33 < ((x5.length : Nat) : Int)))))]) (B' := []) (by kernel_rfl) fun ρ w a hX => ?_
        refine Cx.cond hX (b := (decide (x33 < ((x5.length : Nat) : Int)))) (by kernel_rfl) (fun hb => ?_) (fun hb => ?_)
        · have h1 := ite_tt h1 hb
          refine wp_skip ?_
          refine hK27 _ _ ?_
          refine wp_seq_k fun K29 hK29 => ?_
          have J29 : ∀ (x46 : Int), internal_strconv_underscoreOK.j8 x33 x46 = some o1 → ∀ (ρ : Nat → Nat) (w : World) (F : Heap) (a : Act), Cx 94 w0 F0 No w F [] [] ρ [(0, .v (.string ⟨⟨x5⟩⟩)), (3, .v (.int .i32 x46)), (4, .v (.int .i64 x33)), (5, .v (.bool x18))] a → K29 a w := by
            intro x46 h1  ρ w F a hX
            unfold internal_strconv_underscoreOK.j8 at h1
            refine hK29 _ _ ?_
            refine Cx.region hX [] [0, 3, 4, 5] (l' := [(0, .v (.string ⟨⟨x5⟩⟩)), (3, .v (.int .i32 x46)), (4, .v (.int .i64 (IntKind.wrap .i64 (x33 + 1)))), (5, .v (.bool x18))]) (B' := []) (by kernel_rfl) fun ρ w a hX => ?_
            have hX := hX.keeps [0, 3, 4, 5] (l' := [(0, .v (.string ⟨⟨x5⟩⟩)), (3, .v (.int .i32 x46)), (4, .v (.int .i64 (IntKind.wrap .i64 (x33 + 1)))), (5, .v (.bool x18))]) (by kernel_rfl)
            exact hb1 (x46, (IntKind.wrap .i64 (x33 + 1))) (out_eq h1) _ _ ⟨_, _, hX⟩
          refine wp_block ?_
          refine wp_seq_k fun K30 hK30 => ?_
          refine wp_seq_k fun K31 hK31 => ?_
          have J31 : ∀ (x44 : Bool), internal_strconv_underscoreOK.j7 x5 x32 x33 x44 = some o1 → ∀ (ρ : Nat → Nat) (w : World) (F : Heap) (a : Act), Cx 94 w0 F0 No w F [] [] ρ [(0, .v (.string ⟨⟨x5⟩⟩)), (3, .v (.int .i32 x32)), (4, .v (.int .i64 x33)), (5, .v (.bool x18)), (83, .v (.bool x44))] a → K31 a w := by
            intro x44 h1  ρ w F a hX
            unfold internal_strconv_underscoreOK.j7 at h1
            refine hK31 _ _ ?_
            refine Cx.cond hX (b := x44) (by kernel_rfl) (fun hb => ?_) (fun hb => ?_)
            · have h1 := ite_tt h1 hb
              refine Cx.rseq hX [] [0, 3, 4, 5] (l' := [(0, .v (.string ⟨⟨x5⟩⟩)), (3, .v (.int .i32 48)), (4, .v (.int .i64 x33)), (5, .v (.bool x18))]) (B' := []) (by kernel_rfl) fun ρ w a hX => ?_
              refine wp_exit ?_
              have hX := hX.keeps [0, 3, 4, 5] (l' := [(0, .v (.string ⟨⟨x5⟩⟩)), (3, .v (.int .i32 48)), (4, .v (.int .i64 x33)), (5, .v (.bool x18))]) (by kernel_rfl)
              exact J29 48 h1  _ _ _ _ hX
            · have h1 := ite_ff h1 hb
              refine wp_skip ?_
              refine hK30 _ _ ?_
              refine wp_seq_k fun K33 hK33 => ?_
              refine wp_seq_k fun K34 hK34 => ?_
              refine wp_region_list ?_
              refine hX.part [] 2 [0, 3, 4, 5, 84, 85] (l' := [(0, .v (.string ⟨⟨x5⟩⟩)), (3, .v (.int .i32 x32)), (4, .v (.int .i64 x33)), (5, .v (.bool x18)), (84, .v (.string ⟨⟨x5⟩⟩)), (85, .v (.int .i64 x33))]) (B' := []) (by kernel_rfl) fun ρ w a hX => ?_
              obtain ⟨v45, hv45, h1⟩ := bnd_some h1
              refine hX.idxStr (lit := []) (by kernel_rfl) (by kernel_rfl) rfl (s := x5) (k := .i64) (n := x33) (b := v45) (by kernel_rfl) (by kernel_rfl) (by kernel_rfl) hv45 fun a hX => ?_
              refine hX.part [] 1 [0, 3, 4, 5, 87] (l' := [(0, .v (.string ⟨⟨x5⟩⟩)), (3, .v (.int .i32 x32)), (4, .v (.int .i64 x33)), (5, .v (.bool x18)), (87, .v (.bool (v45 == 95)))]) (B' := []) (by kernel_rfl) fun ρ w a hX => ?_
              refine wpList_end ?_
              refine hK34 _ _ ?_
              refine Cx.cond hX (b := (v45 == 95)) (by kernel_rfl) (fun hb => ?_) (fun hb => ?_)
              · have h1 := ite_tt h1 hb
                refine wp_seq_k fun K35 hK35 => ?_
                refine Cx.rseq hX [] [0, 4, 5, 89] (l' := [(0, .v (.string ⟨⟨x5⟩⟩)), (4, .v (.int .i64 x33)), (5, .v (.bool x18)), (89, .v (.bool (x32 != 48)))]) (B' := []) (by kernel_rfl) fun ρ w a hX => ?_
                refine Cx.cond hX (b := (x32 != 48)) (by kernel_rfl) (fun hb => ?_) (fun hb => ?_)
                · have h1 := ite_tt h1 hb
                  refine Cx.rseq hX [] [2] (l' := [(2, .v (.bool false))]) (B' := []) (by kernel_rfl) fun ρ w a hX => ?_
                  refine wp_ret ?_
                  have he := hx1 _ (out_eq h1)
                  subst he
                  (try dsimp only at h0)
                  have hr := Option.some.inj (show some _ = some _ from h0)
                  subst hr
                  exact hX.ret0 (ss := [.v (.bool false)]) (by kernel_rfl) (by kernel_rfl) rfl
                · have h1 := ite_ff h1 hb
                  refine wp_skip ?_
                  refine hK35 _ _ ?_
                  refine Cx.rseq hX [] [0, 3, 4, 5] (l' := [(0, .v (.string ⟨⟨x5⟩⟩)), (3, .v (.int .i32 95)), (4, .v (.int .i64 x33)), (5, .v (.bool x18))]) (B' := []) (by kernel_rfl) fun ρ w a hX => ?_
                  refine wp_exit ?_
                  have hX := hX.keeps [0, 3, 4, 5] (l' := [(0, .v (.string ⟨⟨x5⟩⟩)), (3, .v (.int .i32 95)), (4, .v (.int .i64 x33)), (5, .v (.bool x18))]) (by kernel_rfl)
                  exact J29 95 h1  _ _ _ _ hX
              · have h1 := ite_ff h1 hb
                refine wp_skip ?_
                refine hK33 _ _ ?_
                refine wp_seq_k fun K39 hK39 => ?_
                refine Cx.rseq hX [] [0, 4, 5, 91] (l' := [(0, .v (.string ⟨⟨x5⟩⟩)), (4, .v (.int .i64 x33)), (5, .v (.bool x18)), (91, .v (.bool (x32 == 95)))]) (B' := []) (by kernel_rfl) fun ρ w a hX => ?_
                refine Cx.cond hX (b := (x32 == 95)) (by kernel_rfl) (fun hb => ?_) (fun hb => ?_)
                · have h1 := ite_tt h1 hb
                  refine Cx.rseq hX [] [2] (l' := [(2, .v (.bool false))]) (B' := []) (by kernel_rfl) fun ρ w a hX => ?_
                  refine wp_ret ?_
                  have he := hx1 _ (out_eq h1)
                  subst he
                  (try dsimp only at h0)
                  have hr := Option.some.inj (show some _ = some _ from h0)
                  subst hr
                  exact hX.ret0 (ss := [.v (.bool false)]) (by kernel_rfl) (by kernel_rfl) rfl
                · have h1 := ite_ff h1 hb
                  refine wp_skip ?_
                  refine hK39 _ _ ?_
                  refine Cx.region hX [] [0, 3, 4, 5] (l' := [(0, .v (.string ⟨⟨x5⟩⟩)), (3, .v (.int .i32 33)), (4, .v (.int .i64 x33)), (5, .v (.bool x18))]) (B' := []) (by kernel_rfl) fun ρ w a hX => ?_
                  have hX := hX.keeps [0, 3, 4, 5] (l' := [(0, .v (.string ⟨⟨x5⟩⟩)), (3, .v (.int .i32 33)), (4, .v (.int .i64 x33)), (5, .v (.bool x18))]) (by kernel_rfl)
                  exact J29 33 h1  _ _ _ _ hX
          refine wp_region_list ?_
          refine hX.part [] 2 [0, 3, 4, 5, 57, 58] (l' := [(0, .v (.string ⟨⟨x5⟩⟩)), (3, .v (.int .i32 x32)), (4, .v (.int .i64 x33)), (5, .v (.bool x18)), (57, .v (.string ⟨⟨x5⟩⟩)), (58, .v (.int .i64 x33))]) (B' := []) (by kernel_rfl) fun ρ w a hX => ?_
          obtain ⟨v34, hv34, h1⟩ := bnd_some h1
          refine hX.idxStr (lit := []) (by kernel_rfl) (by kernel_rfl) rfl (s := x5) (k := .i64) (n := x33) (b := v34) (by kernel_rfl) (by kernel_rfl) (by kernel_rfl) hv34 fun a hX => ?_
          refine hX.part [] 2 [0, 3, 4, 5, 61] (l' := [(0, .v (.string ⟨⟨x5⟩⟩)), (3, .v (.int .i32 x32)), (4, .v (.int .i64 x33)), (5, .v (.bool x18)), (61, .v (.bool (decide (48 ≤ v34))))]) (B' := []) (by kernel_rfl) fun ρ w a hX => ?_
          refine ite_go h1 (fun hb h1 => ?_) (fun hb h1 => ?_)
          · have hX := hX.relit 61 hb (by kernel_rfl)
            refine hX.part [4] 2 [0, 3, 4, 5, 61, 62, 63] (l' := [(0, .v (.string ⟨⟨x5⟩⟩)), (3, .v (.int .i32 x32)), (4, .v (.int .i64 x33)), (5, .v (.bool x18)), (61, .v (.bool true)), (62, .v (.string ⟨⟨x5⟩⟩)), (63, .v (.int .i64 x33))]) (B' := []) (by kernel_rfl) fun ρ w a hX => ?_
            obtain ⟨v35, hv35, h1⟩ := bnd_some h1
            refine hX.idxStr (lit := [4]) (by kernel_rfl) (by kernel_rfl) rfl (s := x5) (k := .i64) (n := x33) (b := v35) (by kernel_rfl) (by kernel_rfl) (by kernel_rfl) hv35 fun a hX => ?_
            refine hX.part [4] 3 [0, 3, 4, 5, 67] (l' := [(0, .v (.string ⟨⟨x5⟩⟩)), (3, .v (.int .i32 x32)), (4, .v (.int .i64 x33)), (5, .v (.bool x18)), (67, .v (.bool (decide (v35 ≤ 57))))]) (B' := []) (by kernel_rfl) fun ρ w a hX => ?_
            refine ite_go h1 (fun hb h1 => ?_) (fun hb h1 => ?_)
            · have hX := hX.relit 67 hb (by kernel_rfl)
              refine hX.part [10, 12, 19] 16 [0, 3, 4, 5, 83] (l' := [(0, .v (.string ⟨⟨x5⟩⟩)), (3, .v (.int .i32 x32)), (4, .v (.int .i64 x33)), (5, .v (.bool x18)), (83, .v (.bool true))]) (B' := []) (by kernel_rfl) fun ρ w a hX => ?_
              refine wpList_end ?_
              have hX := hX.keeps [0, 3, 4, 5, 83] (l' := [(0, .v (.string ⟨⟨x5⟩⟩)), (3, .v (.int .i32 x32)), (4, .v (.int .i64 x33)), (5, .v (.bool x18)), (83, .v (.bool true))]) (by kernel_rfl)
              exact J31 true h1  _ _ _ _ hX
            · have hX := hX.relit 67 hb (by kernel_rfl)
              refine hX.part [10] 2 [0, 3, 4, 5, 67, 69] (l' := [(0, .v (.string ⟨⟨x5⟩⟩)), (3, .v (.int .i32 x32)), (4, .v (.int .i64 x33)), (5, .v (.bool x18)), (67, .v (.bool false)), (69, .v (.bool x18))]) (B' := []) (by kernel_rfl) fun ρ w a hX => ?_
              refine ite_go h1 (fun hb h1 => ?_) (fun hb h1 => ?_)
              · have hX := hX.relit 69 hb (by kernel_rfl)
                refine hX.part [12] 2 [0, 3, 4, 5, 67, 69, 70, 71] (l' := [(0, .v (.string ⟨⟨x5⟩⟩)), (3, .v (.int .i32 x32)), (4, .v (.int .i64 x33)), (5, .v (.bool x18)), (67, .v (.bool false)), (69, .v (.bool true)), (70, .v (.string ⟨⟨x5⟩⟩)), (71, .v (.int .i64 x33))]) (B' := []) (by kernel_rfl) fun ρ w a hX => ?_
                obtain ⟨v36, hv36, h1⟩ := bnd_some h1
                refine hX.idxStr (lit := [12]) (by kernel_rfl) (by kernel_rfl) rfl (s := x5) (k := .i64) (n := x33) (b := v36) (by kernel_rfl) (by kernel_rfl) (by kernel_rfl) hv36 fun a hX => ?_
                refine hX.part [12] 0 [0, 3, 4, 5, 67, 69, 72] (l' := [(0, .v (.string ⟨⟨x5⟩⟩)), (3, .v (.int .i32 x32)), (4, .v (.int .i64 x33)), (5, .v (.bool x18)), (67, .v (.bool false)), (69, .v (.bool true)), (72, .v (.int .u8 v36))]) (B' := []) (by kernel_rfl) fun ρ w a hX => ?_
                obtain ⟨v37, hv37, h1⟩ := bnd_some h1
                refine Cx.call0 hX (lit := [12]) (by kernel_rfl) rfl (by kernel_rfl) ⟨⟨_, Tryd.func82, by kernel_rfl, rfl⟩⟩ (ss := [.v (.int .u8 v36)]) (by kernel_rfl) [.v (.int .u8 v36)] rfl (fun hg => hg) (fun hv hle hg => internal_strconv_lower.ok v36 v37 hv37 _ _ hv (hG.mono hle) hg _) (fun s F w a hp hX => ?_)
                subst hp
                refine hX.part [10, 12] 3 [0, 3, 4, 5, 67, 76] (l' := [(0, .v (.string ⟨⟨x5⟩⟩)), (3, .v (.int .i32 x32)), (4, .v (.int .i64 x33)), (5, .v (.bool x18)), (67, .v (.bool false)), (76, .v (.bool (decide (97 ≤ v37))))]) (B' := []) (by kernel_rfl) fun ρ w a hX => ?_
                refine ite_go h1 (fun hb h1 => ?_) (fun hb h1 => ?_)
                · have hX := hX.relit 76 hb (by kernel_rfl)
                  refine hX.part [19] 2 [0, 3, 4, 5, 67, 76, 77, 78] (l' := [(0, .v (.string ⟨⟨x5⟩⟩)), (3, .v (.int .i32 x32)), (4, .v (.int .i64 x33)), (5, .v (.bool x18)), (67, .v (.bool false)), (76, .v (.bool true)), (77, .v (.string ⟨⟨x5⟩⟩)), (78, .v (.int .i64 x33))]) (B' := []) (by kernel_rfl) fun ρ w a hX => ?_
                  obtain ⟨v38, hv38, h1⟩ := bnd_some h1
                  refine hX.idxStr (lit := [19]) (by kernel_rfl) (by kernel_rfl) rfl (s := x5) (k := .i64) (n := x33) (b := v38) (by kernel_rfl) (by kernel_rfl) (by kernel_rfl) hv38 fun a hX => ?_
                  refine hX.part [19] 0 [0, 3, 4, 5, 67, 76, 79] (l' := [(0, .v (.string ⟨⟨x5⟩⟩)), (3, .v (.int .i32 x32)), (4, .v (.int .i64 x33)), (5, .v (.bool x18)), (67, .v (.bool false)), (76, .v (.bool true)), (79, .v (.int .u8 v38))]) (B' := []) (by kernel_rfl) fun ρ w a hX => ?_
                  obtain ⟨v39, hv39, h1⟩ := bnd_some h1
                  refine Cx.call0 hX (lit := [19]) (by kernel_rfl) rfl (by kernel_rfl) ⟨⟨_, Tryd.func82, by kernel_rfl, rfl⟩⟩ (ss := [.v (.int .u8 v38)]) (by kernel_rfl) [.v (.int .u8 v38)] rfl (fun hg => hg) (fun hv hle hg => internal_strconv_lower.ok v38 v39 hv39 _ _ hv (hG.mono hle) hg _) (fun s F w a hp hX => ?_)
                  subst hp
                  refine hX.part [10, 19] 3 [0, 3, 4, 5, 83] (l' := [(0, .v (.string ⟨⟨x5⟩⟩)), (3, .v (.int .i32 x32)), (4, .v (.int .i64 x33)), (5, .v (.bool x18)), (83, .v (.bool (decide (v39 ≤ 102))))]) (B' := []) (by kernel_rfl) fun ρ w a hX => ?_
                  refine wpList_end ?_
                  have hX := hX.keeps [0, 3, 4, 5, 83] (l' := [(0, .v (.string ⟨⟨x5⟩⟩)), (3, .v (.int .i32 x32)), (4, .v (.int .i64 x33)), (5, .v (.bool x18)), (83, .v (.bool (decide (v39 ≤ 102))))]) (by kernel_rfl)
                  exact J31 (decide (v39 ≤ 102)) h1  _ _ _ _ hX
                · have hX := hX.relit 76 hb (by kernel_rfl)
                  refine hX.part [10, 19] 7 [0, 3, 4, 5, 83] (l' := [(0, .v (.string ⟨⟨x5⟩⟩)), (3, .v (.int .i32 x32)), (4, .v (.int .i64 x33)), (5, .v (.bool x18)), (83, .v (.bool false))]) (B' := []) (by kernel_rfl) fun ρ w a hX => ?_
                  refine wpList_end ?_
                  have hX := hX.keeps [0, 3, 4, 5, 83] (l' := [(0, .v (.string ⟨⟨x5⟩⟩)), (3, .v (.int .i32 x32)), (4, .v (.int .i64 x33)), (5, .v (.bool x18)), (83, .v (.bool false))]) (by kernel_rfl)
                  exact J31 false h1  _ _ _ _ hX
              · have hX := hX.relit 69 hb (by kernel_rfl)
                refine hX.part [10, 12, 19] 14 [0, 3, 4, 5, 83] (l' := [(0, .v (.string ⟨⟨x5⟩⟩)), (3, .v (.int .i32 x32)), (4, .v (.int .i64 x33)), (5, .v (.bool x18)), (83, .v (.bool false))]) (B' := []) (by kernel_rfl) fun ρ w a hX => ?_
                refine wpList_end ?_
                have hX := hX.keeps [0, 3, 4, 5, 83] (l' := [(0, .v (.string ⟨⟨x5⟩⟩)), (3, .v (.int .i32 x32)), (4, .v (.int .i64 x33)), (5, .v (.bool x18)), (83, .v (.bool false))]) (by kernel_rfl)
                exact J31 false h1  _ _ _ _ hX
          · have hX := hX.relit 61 hb (by kernel_rfl)
            refine hX.part [4, 10] 8 [0, 3, 4, 5, 67, 69] (l' := [(0, .v (.string ⟨⟨x5⟩⟩)), (3, .v (.int .i32 x32)), (4, .v (.int .i64 x33)), (5, .v (.bool x18)), (67, .v (.bool false)), (69, .v (.bool x18))]) (B' := []) (by kernel_rfl) fun ρ w a hX => ?_
            refine ite_go h1 (fun hb h1 => ?_) (fun hb h1 => ?_)
            · have hX := hX.relit 69 hb (by kernel_rfl)
              refine hX.part [12] 2 [0, 3, 4, 5, 67, 69, 70, 71] (l' := [(0, .v (.string ⟨⟨x5⟩⟩)), (3, .v (.int .i32 x32)), (4, .v (.int .i64 x33)), (5, .v (.bool x18)), (67, .v (.bool false)), (69, .v (.bool true)), (70, .v (.string ⟨⟨x5⟩⟩)), (71, .v (.int .i64 x33))]) (B' := []) (by kernel_rfl) fun ρ w a hX => ?_
              obtain ⟨v40, hv40, h1⟩ := bnd_some h1
              refine hX.idxStr (lit := [12]) (by kernel_rfl) (by kernel_rfl) rfl (s := x5) (k := .i64) (n := x33) (b := v40) (by kernel_rfl) (by kernel_rfl) (by kernel_rfl) hv40 fun a hX => ?_
              refine hX.part [12] 0 [0, 3, 4, 5, 67, 69, 72] (l' := [(0, .v (.string ⟨⟨x5⟩⟩)), (3, .v (.int .i32 x32)), (4, .v (.int .i64 x33)), (5, .v (.bool x18)), (67, .v (.bool false)), (69, .v (.bool true)), (72, .v (.int .u8 v40))]) (B' := []) (by kernel_rfl) fun ρ w a hX => ?_
              obtain ⟨v41, hv41, h1⟩ := bnd_some h1
              refine Cx.call0 hX (lit := [12]) (by kernel_rfl) rfl (by kernel_rfl) ⟨⟨_, Tryd.func82, by kernel_rfl, rfl⟩⟩ (ss := [.v (.int .u8 v40)]) (by kernel_rfl) [.v (.int .u8 v40)] rfl (fun hg => hg) (fun hv hle hg => internal_strconv_lower.ok v40 v41 hv41 _ _ hv (hG.mono hle) hg _) (fun s F w a hp hX => ?_)
              subst hp
              refine hX.part [10, 12] 3 [0, 3, 4, 5, 67, 76] (l' := [(0, .v (.string ⟨⟨x5⟩⟩)), (3, .v (.int .i32 x32)), (4, .v (.int .i64 x33)), (5, .v (.bool x18)), (67, .v (.bool false)), (76, .v (.bool (decide (97 ≤ v41))))]) (B' := []) (by kernel_rfl) fun ρ w a hX => ?_
              refine ite_go h1 (fun hb h1 => ?_) (fun hb h1 => ?_)
              · have hX := hX.relit 76 hb (by kernel_rfl)
                refine hX.part [19] 2 [0, 3, 4, 5, 67, 76, 77, 78] (l' := [(0, .v (.string ⟨⟨x5⟩⟩)), (3, .v (.int .i32 x32)), (4, .v (.int .i64 x33)), (5, .v (.bool x18)), (67, .v (.bool false)), (76, .v (.bool true)), (77, .v (.string ⟨⟨x5⟩⟩)), (78, .v (.int .i64 x33))]) (B' := []) (by kernel_rfl) fun ρ w a hX => ?_
                obtain ⟨v42, hv42, h1⟩ := bnd_some h1
                refine hX.idxStr (lit := [19]) (by kernel_rfl) (by kernel_rfl) rfl (s := x5) (k := .i64) (n := x33) (b := v42) (by kernel_rfl) (by kernel_rfl) (by kernel_rfl) hv42 fun a hX => ?_
                refine hX.part [19] 0 [0, 3, 4, 5, 67, 76, 79] (l' := [(0, .v (.string ⟨⟨x5⟩⟩)), (3, .v (.int .i32 x32)), (4, .v (.int .i64 x33)), (5, .v (.bool x18)), (67, .v (.bool false)), (76, .v (.bool true)), (79, .v (.int .u8 v42))]) (B' := []) (by kernel_rfl) fun ρ w a hX => ?_
                obtain ⟨v43, hv43, h1⟩ := bnd_some h1
                refine Cx.call0 hX (lit := [19]) (by kernel_rfl) rfl (by kernel_rfl) ⟨⟨_, Tryd.func82, by kernel_rfl, rfl⟩⟩ (ss := [.v (.int .u8 v42)]) (by kernel_rfl) [.v (.int .u8 v42)] rfl (fun hg => hg) (fun hv hle hg => internal_strconv_lower.ok v42 v43 hv43 _ _ hv (hG.mono hle) hg _) (fun s F w a hp hX => ?_)
                subst hp
                refine hX.part [10, 19] 3 [0, 3, 4, 5, 83] (l' := [(0, .v (.string ⟨⟨x5⟩⟩)), (3, .v (.int .i32 x32)), (4, .v (.int .i64 x33)), (5, .v (.bool x18)), (83, .v (.bool (decide (v43 ≤ 102))))]) (B' := []) (by kernel_rfl) fun ρ w a hX => ?_
                refine wpList_end ?_
                have hX := hX.keeps [0, 3, 4, 5, 83] (l' := [(0, .v (.string ⟨⟨x5⟩⟩)), (3, .v (.int .i32 x32)), (4, .v (.int .i64 x33)), (5, .v (.bool x18)), (83, .v (.bool (decide (v43 ≤ 102))))]) (by kernel_rfl)
                exact J31 (decide (v43 ≤ 102)) h1  _ _ _ _ hX
              · have hX := hX.relit 76 hb (by kernel_rfl)
                refine hX.part [10, 19] 7 [0, 3, 4, 5, 83] (l' := [(0, .v (.string ⟨⟨x5⟩⟩)), (3, .v (.int .i32 x32)), (4, .v (.int .i64 x33)), (5, .v (.bool x18)), (83, .v (.bool false))]) (B' := []) (by kernel_rfl) fun ρ w a hX => ?_
                refine wpList_end ?_
                have hX := hX.keeps [0, 3, 4, 5, 83] (l' := [(0, .v (.string ⟨⟨x5⟩⟩)), (3, .v (.int .i32 x32)), (4, .v (.int .i64 x33)), (5, .v (.bool x18)), (83, .v (.bool false))]) (by kernel_rfl)
                exact J31 false h1  _ _ _ _ hX
            · have hX := hX.relit 69 hb (by kernel_rfl)
              refine hX.part [10, 12, 19] 14 [0, 3, 4, 5, 83] (l' := [(0, .v (.string ⟨⟨x5⟩⟩)), (3, .v (.int .i32 x32)), (4, .v (.int .i64 x33)), (5, .v (.bool x18)), (83, .v (.bool false))]) (B' := []) (by kernel_rfl) fun ρ w a hX => ?_
              refine wpList_end ?_
              have hX := hX.keeps [0, 3, 4, 5, 83] (l' := [(0, .v (.string ⟨⟨x5⟩⟩)), (3, .v (.int .i32 x32)), (4, .v (.int .i64 x33)), (5, .v (.bool x18)), (83, .v (.bool false))]) (by kernel_rfl)
              exact J31 false h1  _ _ _ _ hX
        · have h1 := ite_ff h1 hb
          refine wp_exit ?_
          have hX := hX.keeps [3] (l' := [(3, .v (.int .i32 x32))]) (by kernel_rfl)
          exact E1x0 x32 (hx1 _ (out_eq h1)).symm  _ _ _ _ hX
      · exact ⟨_, _, hX⟩
    refine wp_seq_k fun K8 hK8 => ?_
    have J8 : ∀ (x13 : Bool), internal_strconv_underscoreOK.j3 x5 x13 = some r → ∀ (ρ : Nat → Nat) (w : World) (F : Heap) (a : Act), Cx 94 w0 F0 No w F [] [] ρ [(0, .v (.string ⟨⟨x5⟩⟩)), (3, .v (.int .i32 94)), (4, .v (.int .i64 0)), (5, .v (.bool false)), (46, .v (.bool x13))] a → K8 a w := by
      intro x13 h0  ρ w F a hX
      unfold internal_strconv_underscoreOK.j3 at h0
      refine hK8 _ _ ?_
      refine Cx.cond hX (b := x13) (by kernel_rfl) (fun hb => ?_) (fun hb => ?_)
      · have h0 := ite_tt h0 hb
        refine Cx.rseq hX [] [0, 4] (l' := [(0, .v (.string ⟨⟨x5⟩⟩)), (4, .v (.int .i64 2))]) (B' := []) (by kernel_rfl) fun ρ w a hX => ?_
        refine Cx.rseq hX [] [0, 3, 4] (l' := [(0, .v (.string ⟨⟨x5⟩⟩)), (3, .v (.int .i32 48)), (4, .v (.int .i64 2))]) (B' := []) (by kernel_rfl) fun ρ w a hX => ?_
        refine wp_region_list ?_
        refine hX.part [] 1 [0, 3, 4, 47] (l' := [(0, .v (.string ⟨⟨x5⟩⟩)), (3, .v (.int .i32 48)), (4, .v (.int .i64 2)), (47, .v (.string ⟨⟨x5⟩⟩))]) (B' := []) (by kernel_rfl) fun ρ w a hX => ?_
        obtain ⟨v14, hv14, h0⟩ := bnd_some h0
        refine hX.idxStr (lit := []) (by kernel_rfl) (by kernel_rfl) rfl (s := x5) (k := .i64) (n := 1) (b := v14) (by kernel_rfl) (by kernel_rfl) (by kernel_rfl) hv14 fun a hX => ?_
        refine hX.part [] 0 [0, 3, 4, 48] (l' := [(0, .v (.string ⟨⟨x5⟩⟩)), (3, .v (.int .i32 48)), (4, .v (.int .i64 2)), (48, .v (.int .u8 v14))]) (B' := []) (by kernel_rfl) fun ρ w a hX => ?_
        obtain ⟨v15, hv15, h0⟩ := bnd_some h0
        refine Cx.call0 hX (lit := []) (by kernel_rfl) rfl (by kernel_rfl) ⟨⟨_, Tryd.func82, by kernel_rfl, rfl⟩⟩ (ss := [.v (.int .u8 v14)]) (by kernel_rfl) [.v (.int .u8 v14)] rfl (fun hg => hg) (fun hv hle hg => internal_strconv_lower.ok v14 v15 hv15 _ _ hv (hG.mono hle) hg _) (fun s F w a hp hX => ?_)
        subst hp
        refine hX.part [] 2 [0, 3, 4, 5] (l' := [(0, .v (.string ⟨⟨x5⟩⟩)), (3, .v (.int .i32 48)), (4, .v (.int .i64 2)), (5, .v (.bool (v15 == 120)))]) (B' := []) (by kernel_rfl) fun ρ w a hX => ?_
        refine wpList_end ?_
        have hX := hX.keeps [0, 3, 4, 5] (l' := [(0, .v (.string ⟨⟨x5⟩⟩)), (3, .v (.int .i32 48)), (4, .v (.int .i64 2)), (5, .v (.bool (v15 == 120)))]) (by kernel_rfl)
        exact J7 48 2 (v15 == 120) h0  _ _ _ _ hX
      · have h0 := ite_ff h0 hb
        refine wp_skip ?_
        have hX := hX.keeps [0, 3, 4, 5] (l' := [(0, .v (.string ⟨⟨x5⟩⟩)), (3, .v (.int .i32 94)), (4, .v (.int .i64 0)), (5, .v (.bool false))]) (by kernel_rfl)
        exact J7 94 0 false h0  _ _ _ _ hX
    refine wp_region_list ?_
    refine hX.part [] 4 [0, 3, 4, 5, 24] (l' := [(0, .v (.string ⟨⟨x5⟩⟩)), (3, .v (.int .i32 94)), (4, .v (.int .i64 0)), (5, .v (.bool false)), (24, .v (.bool (decide (((x5.length : Nat) : Int) ≥ 2))))]) (B' := []) (by kernel_rfl) fun ρ w a hX => ?_
    refine ite_go h0 (fun hb h0 => ?_) (fun hb h0 => ?_)
    · have hX := hX.relit 24 hb (by kernel_rfl)
      refine hX.part [3] 1 [0, 3, 4, 5, 24, 25] (l' := [(0, .v (.string ⟨⟨x5⟩⟩)), (3, .v (.int .i32 94)), (4, .v (.int .i64 0)), (5, .v (.bool false)), (24, .v (.bool true)), (25, .v (.string ⟨⟨x5⟩⟩))]) (B' := []) (by kernel_rfl) fun ρ w a hX => ?_
      obtain ⟨v6, hv6, h0⟩ := bnd_some h0
      refine hX.idxStr (lit := [3]) (by kernel_rfl) (by kernel_rfl) rfl (s := x5) (k := .i64) (n := 0) (b := v6) (by kernel_rfl) (by kernel_rfl) (by kernel_rfl) hv6 fun a hX => ?_
      refine hX.part [3] 3 [0, 3, 4, 5, 29] (l' := [(0, .v (.string ⟨⟨x5⟩⟩)), (3, .v (.int .i32 94)), (4, .v (.int .i64 0)), (5, .v (.bool false)), (29, .v (.bool (v6 == 48)))]) (B' := []) (by kernel_rfl) fun ρ w a hX => ?_
      refine ite_go h0 (fun hb h0 => ?_) (fun hb h0 => ?_)
      · have hX := hX.relit 29 hb (by kernel_rfl)
        refine hX.part [8] 1 [0, 3, 4, 5, 29, 30] (l' := [(0, .v (.string ⟨⟨x5⟩⟩)), (3, .v (.int .i32 94)), (4, .v (.int .i64 0)), (5, .v (.bool false)), (29, .v (.bool true)), (30, .v (.string ⟨⟨x5⟩⟩))]) (B' := []) (by kernel_rfl) fun ρ w a hX => ?_
        obtain ⟨v7, hv7, h0⟩ := bnd_some h0
        refine hX.idxStr (lit := [8]) (by kernel_rfl) (by kernel_rfl) rfl (s := x5) (k := .i64) (n := 1) (b := v7) (by kernel_rfl) (by kernel_rfl) (by kernel_rfl) hv7 fun a hX => ?_
        refine hX.part [8] 0 [0, 3, 4, 5, 29, 31] (l' := [(0, .v (.string ⟨⟨x5⟩⟩)), (3, .v (.int .i32 94)), (4, .v (.int .i64 0)), (5, .v (.bool false)), (29, .v (.bool true)), (31, .v (.int .u8 v7))]) (B' := []) (by kernel_rfl) fun ρ w a hX => ?_
        obtain ⟨v8, hv8, h0⟩ := bnd_some h0
        refine Cx.call0 hX (lit := [8]) (by kernel_rfl) rfl (by kernel_rfl) ⟨⟨_, Tryd.func82, by kernel_rfl, rfl⟩⟩ (ss := [.v (.int .u8 v7)]) (by kernel_rfl) [.v (.int .u8 v7)] rfl (fun hg => hg) (fun hv hle hg => internal_strconv_lower.ok v7 v8 hv8 _ _ hv (hG.mono hle) hg _) (fun s F w a hp hX => ?_)
        subst hp
        refine hX.part [8] 2 [0, 3, 4, 5, 29, 34] (l' := [(0, .v (.string ⟨⟨x5⟩⟩)), (3, .v (.int .i32 94)), (4, .v (.int .i64 0)), (5, .v (.bool false)), (29, .v (.bool true)), (34, .v (.bool (v8 == 98)))]) (B' := []) (by kernel_rfl) fun ρ w a hX => ?_
        refine ite_go h0 (fun hb h0 => ?_) (fun hb h0 => ?_)
        · have hX := hX.relit 34 hb (by kernel_rfl)
          refine hX.part [8, 13, 19] 12 [0, 3, 4, 5, 46] (l' := [(0, .v (.string ⟨⟨x5⟩⟩)), (3, .v (.int .i32 94)), (4, .v (.int .i64 0)), (5, .v (.bool false)), (46, .v (.bool true))]) (B' := []) (by kernel_rfl) fun ρ w a hX => ?_
          refine wpList_end ?_
          have hX := hX.keeps [0, 3, 4, 5, 46] (l' := [(0, .v (.string ⟨⟨x5⟩⟩)), (3, .v (.int .i32 94)), (4, .v (.int .i64 0)), (5, .v (.bool false)), (46, .v (.bool true))]) (by kernel_rfl)
          exact J8 true h0  _ _ _ _ hX
        · have hX := hX.relit 34 hb (by kernel_rfl)
          refine hX.part [13] 1 [0, 3, 4, 5, 29, 34, 35] (l' := [(0, .v (.string ⟨⟨x5⟩⟩)), (3, .v (.int .i32 94)), (4, .v (.int .i64 0)), (5, .v (.bool false)), (29, .v (.bool true)), (34, .v (.bool false)), (35, .v (.string ⟨⟨x5⟩⟩))]) (B' := []) (by kernel_rfl) fun ρ w a hX => ?_
          obtain ⟨v9, hv9, h0⟩ := bnd_some h0
          refine hX.idxStr (lit := [13]) (by kernel_rfl) (by kernel_rfl) rfl (s := x5) (k := .i64) (n := 1) (b := v9) (by kernel_rfl) (by kernel_rfl) (by kernel_rfl) hv9 fun a hX => ?_
          refine hX.part [13] 0 [0, 3, 4, 5, 29, 34, 36] (l' := [(0, .v (.string ⟨⟨x5⟩⟩)), (3, .v (.int .i32 94)), (4, .v (.int .i64 0)), (5, .v (.bool false)), (29, .v (.bool true)), (34, .v (.bool false)), (36, .v (.int .u8 v9))]) (B' := []) (by kernel_rfl) fun ρ w a hX => ?_
          obtain ⟨v10, hv10, h0⟩ := bnd_some h0
          refine Cx.call0 hX (lit := [13]) (by kernel_rfl) rfl (by kernel_rfl) ⟨⟨_, Tryd.func82, by kernel_rfl, rfl⟩⟩ (ss := [.v (.int .u8 v9)]) (by kernel_rfl) [.v (.int .u8 v9)] rfl (fun hg => hg) (fun hv hle hg => internal_strconv_lower.ok v9 v10 hv10 _ _ hv (hG.mono hle) hg _) (fun s F w a hp hX => ?_)
          subst hp
          refine hX.part [8, 13] 3 [0, 3, 4, 5, 29, 40] (l' := [(0, .v (.string ⟨⟨x5⟩⟩)), (3, .v (.int .i32 94)), (4, .v (.int .i64 0)), (5, .v (.bool false)), (29, .v (.bool true)), (40, .v (.bool (v10 == 111)))]) (B' := []) (by kernel_rfl) fun ρ w a hX => ?_
          refine ite_go h0 (fun hb h0 => ?_) (fun hb h0 => ?_)
          · have hX := hX.relit 40 hb (by kernel_rfl)
            refine hX.part [8, 19] 6 [0, 3, 4, 5, 46] (l' := [(0, .v (.string ⟨⟨x5⟩⟩)), (3, .v (.int .i32 94)), (4, .v (.int .i64 0)), (5, .v (.bool false)), (46, .v (.bool true))]) (B' := []) (by kernel_rfl) fun ρ w a hX => ?_
            refine wpList_end ?_
            have hX := hX.keeps [0, 3, 4, 5, 46] (l' := [(0, .v (.string ⟨⟨x5⟩⟩)), (3, .v (.int .i32 94)), (4, .v (.int .i64 0)), (5, .v (.bool false)), (46, .v (.bool true))]) (by kernel_rfl)
            exact J8 true h0  _ _ _ _ hX
          · have hX := hX.relit 40 hb (by kernel_rfl)
            refine hX.part [19] 1 [0, 3, 4, 5, 29, 40, 41] (l' := [(0, .v (.string ⟨⟨x5⟩⟩)), (3, .v (.int .i32 94)), (4, .v (.int .i64 0)), (5, .v (.bool false)), (29, .v (.bool true)), (40, .v (.bool false)), (41, .v (.string ⟨⟨x5⟩⟩))]) (B' := []) (by kernel_rfl) fun ρ w a hX => ?_
            obtain ⟨v11, hv11, h0⟩ := bnd_some h0
            refine hX.idxStr (lit := [19]) (by kernel_rfl) (by kernel_rfl) rfl (s := x5) (k := .i64) (n := 1) (b := v11) (by kernel_rfl) (by kernel_rfl) (by kernel_rfl) hv11 fun a hX => ?_
            refine hX.part [19] 0 [0, 3, 4, 5, 29, 40, 42] (l' := [(0, .v (.string ⟨⟨x5⟩⟩)), (3, .v (.int .i32 94)), (4, .v (.int .i64 0)), (5, .v (.bool false)), (29, .v (.bool true)), (40, .v (.bool false)), (42, .v (.int .u8 v11))]) (B' := []) (by kernel_rfl) fun ρ w a hX => ?_
            obtain ⟨v12, hv12, h0⟩ := bnd_some h0
            refine Cx.call0 hX (lit := [19]) (by kernel_rfl) rfl (by kernel_rfl) ⟨⟨_, Tryd.func82, by kernel_rfl, rfl⟩⟩ (ss := [.v (.int .u8 v11)]) (by kernel_rfl) [.v (.int .u8 v11)] rfl (fun hg => hg) (fun hv hle hg => internal_strconv_lower.ok v11 v12 hv12 _ _ hv (hG.mono hle) hg _) (fun s F w a hp hX => ?_)
            subst hp
            refine hX.part [8, 19] 3 [0, 3, 4, 5, 46] (l' := [(0, .v (.string ⟨⟨x5⟩⟩)), (3, .v (.int .i32 94)), (4, .v (.int .i64 0)), (5, .v (.bool false)), (46, .v (.bool (v12 == 120)))]) (B' := []) (by kernel_rfl) fun ρ w a hX => ?_
            refine wpList_end ?_
            have hX := hX.keeps [0, 3, 4, 5, 46] (l' := [(0, .v (.string ⟨⟨x5⟩⟩)), (3, .v (.int .i32 94)), (4, .v (.int .i64 0)), (5, .v (.bool false)), (46, .v (.bool (v12 == 120)))]) (by kernel_rfl)
            exact J8 (v12 == 120) h0  _ _ _ _ hX
      · have hX := hX.relit 29 hb (by kernel_rfl)
        refine hX.part [8, 13, 19] 17 [0, 3, 4, 5, 46] (l' := [(0, .v (.string ⟨⟨x5⟩⟩)), (3, .v (.int .i32 94)), (4, .v (.int .i64 0)), (5, .v (.bool false)), (46, .v (.bool false))]) (B' := []) (by kernel_rfl) fun ρ w a hX => ?_
        refine wpList_end ?_
        have hX := hX.keeps [0, 3, 4, 5, 46] (l' := [(0, .v (.string ⟨⟨x5⟩⟩)), (3, .v (.int .i32 94)), (4, .v (.int .i64 0)), (5, .v (.bool false)), (46, .v (.bool false))]) (by kernel_rfl)
        exact J8 false h0  _ _ _ _ hX
    · have hX := hX.relit 24 hb (by kernel_rfl)
      refine hX.part [3, 8, 13, 19] 22 [0, 3, 4, 5, 46] (l' := [(0, .v (.string ⟨⟨x5⟩⟩)), (3, .v (.int .i32 94)), (4, .v (.int .i64 0)), (5, .v (.bool false)), (46, .v (.bool false))]) (B' := []) (by kernel_rfl) fun ρ w a hX => ?_
      refine wpList_end ?_
      have hX := hX.keeps [0, 3, 4, 5, 46] (l' := [(0, .v (.string ⟨⟨x5⟩⟩)), (3, .v (.int .i32 94)), (4, .v (.int .i64 0)), (5, .v (.bool false)), (46, .v (.bool false))]) (by kernel_rfl)
      exact J8 false h0  _ _ _ _ hX
  refine wp_seq_k fun K5 hK5 => ?_
  have J5 : ∀ (x3 : Bool), internal_strconv_underscoreOK.j1 s_ x3 = some r → ∀ (ρ : Nat → Nat) (w : World) (F : Heap) (a : Act), Cx 94 w0 F0 No w F [] [] ρ [(0, .v (.string ⟨⟨s_⟩⟩)), (3, .v (.int .i32 94)), (4, .v (.int .i64 0)), (18, .v (.bool x3))] a → K5 a w := by
    intro x3 h0  ρ w F a hX
    unfold internal_strconv_underscoreOK.j1 at h0
    refine hK5 _ _ ?_
    refine Cx.cond hX (b := x3) (by kernel_rfl) (fun hb => ?_) (fun hb => ?_)
    · have h0 := ite_tt h0 hb
      refine wp_region_list ?_
      refine hX.part [] 1 [0, 3, 4, 19] (l' := [(0, .v (.string ⟨⟨s_⟩⟩)), (3, .v (.int .i32 94)), (4, .v (.int .i64 0)), (19, .v (.string ⟨⟨s_⟩⟩))]) (B' := []) (by kernel_rfl) fun ρ w a hX => ?_
      obtain ⟨v4, hv4, h0⟩ := bnd_some h0
      refine hX.cutStr (lit := []) (by kernel_rfl) (by kernel_rfl) rfl (s := s_) (ol := some 1) (oh := none) (r := v4) (by kernel_rfl) (by kernel_rfl) (by kernel_rfl) (by kernel_rfl) hv4 fun a hX => ?_
      refine hX.part [] 1 [0, 3, 4] (l' := [(0, .v (.string ⟨⟨v4⟩⟩)), (3, .v (.int .i32 94)), (4, .v (.int .i64 0))]) (B' := []) (by kernel_rfl) fun ρ w a hX => ?_
      refine wpList_end ?_
      have hX := hX.keeps [0, 3, 4] (l' := [(0, .v (.string ⟨⟨v4⟩⟩)), (3, .v (.int .i32 94)), (4, .v (.int .i64 0))]) (by kernel_rfl)
      exact J4 v4 h0  _ _ _ _ hX
    · have h0 := ite_ff h0 hb
      refine wp_skip ?_
      have hX := hX.keeps [0, 3, 4] (l' := [(0, .v (.string ⟨⟨s_⟩⟩)), (3, .v (.int .i32 94)), (4, .v (.int .i64 0))]) (by kernel_rfl)
      exact J4 s_ h0  _ _ _ _ hX
  refine wp_region_list ?_
  refine hX.part [] 4 [0, 3, 4, 9] (l' := [(0, .v (.string ⟨⟨s_⟩⟩)), (3, .v (.int .i32 94)), (4, .v (.int .i64 0)), (9, .v (.bool (decide (((s_.length : Nat) : Int) ≥ 1))))]) (B' := []) (by kernel_rfl) fun ρ w a hX => ?_
  refine ite_go h0 (fun hb h0 => ?_) (fun hb h0 => ?_)
  · have hX := hX.relit 9 hb (by kernel_rfl)
    refine hX.part [3] 1 [0, 3, 4, 9, 10] (l' := [(0, .v (.string ⟨⟨s_⟩⟩)), (3, .v (.int .i32 94)), (4, .v (.int .i64 0)), (9, .v (.bool true)), (10, .v (.string ⟨⟨s_⟩⟩))]) (B' := []) (by kernel_rfl) fun ρ w a hX => ?_
    obtain ⟨v1, hv1, h0⟩ := bnd_some h0
    refine hX.idxStr (lit := [3]) (by kernel_rfl) (by kernel_rfl) rfl (s := s_) (k := .i64) (n := 0) (b := v1) (by kernel_rfl) (by kernel_rfl) (by kernel_rfl) hv1 fun a hX => ?_
    refine hX.part [3] 2 [0, 3, 4, 9, 13] (l' := [(0, .v (.string ⟨⟨s_⟩⟩)), (3, .v (.int .i32 94)), (4, .v (.int .i64 0)), (9, .v (.bool true)), (13, .v (.bool (v1 == 45)))]) (B' := []) (by kernel_rfl) fun ρ w a hX => ?_
    refine ite_go h0 (fun hb h0 => ?_) (fun hb h0 => ?_)
    · have hX := hX.relit 13 hb (by kernel_rfl)
      refine hX.part [3, 7] 5 [0, 3, 4, 18] (l' := [(0, .v (.string ⟨⟨s_⟩⟩)), (3, .v (.int .i32 94)), (4, .v (.int .i64 0)), (18, .v (.bool true))]) (B' := []) (by kernel_rfl) fun ρ w a hX => ?_
      refine wpList_end ?_
      have hX := hX.keeps [0, 3, 4, 18] (l' := [(0, .v (.string ⟨⟨s_⟩⟩)), (3, .v (.int .i32 94)), (4, .v (.int .i64 0)), (18, .v (.bool true))]) (by kernel_rfl)
      exact J5 true h0  _ _ _ _ hX
    · have hX := hX.relit 13 hb (by kernel_rfl)
      refine hX.part [7] 1 [0, 3, 4, 9, 13, 14] (l' := [(0, .v (.string ⟨⟨s_⟩⟩)), (3, .v (.int .i32 94)), (4, .v (.int .i64 0)), (9, .v (.bool true)), (13, .v (.bool false)), (14, .v (.string ⟨⟨s_⟩⟩))]) (B' := []) (by kernel_rfl) fun ρ w a hX => ?_
      obtain ⟨v2, hv2, h0⟩ := bnd_some h0
      refine hX.idxStr (lit := [7]) (by kernel_rfl) (by kernel_rfl) rfl (s := s_) (k := .i64) (n := 0) (b := v2) (by kernel_rfl) (by kernel_rfl) (by kernel_rfl) hv2 fun a hX => ?_
      refine hX.part [3, 7] 3 [0, 3, 4, 18] (l' := [(0, .v (.string ⟨⟨s_⟩⟩)), (3, .v (.int .i32 94)), (4, .v (.int .i64 0)), (18, .v (.bool (v2 == 43)))]) (B' := []) (by kernel_rfl) fun ρ w a hX => ?_
      refine wpList_end ?_
      have hX := hX.keeps [0, 3, 4, 18] (l' := [(0, .v (.string ⟨⟨s_⟩⟩)), (3, .v (.int .i32 94)), (4, .v (.int .i64 0)), (18, .v (.bool (v2 == 43)))]) (by kernel_rfl)
      exact J5 (v2 == 43) h0  _ _ _ _ hX
  · have hX := hX.relit 9 hb (by kernel_rfl)
    refine hX.part [3, 7] 9 [0, 3, 4, 18] (l' := [(0, .v (.string ⟨⟨s_⟩⟩)), (3, .v (.int .i32 94)), (4, .v (.int .i64 0)), (18, .v (.bool false))]) (B' := []) (by kernel_rfl) fun ρ w a hX => ?_
    refine wpList_end ?_
    have hX := hX.keeps [0, 3, 4, 18] (l' := [(0, .v (.string ⟨⟨s_⟩⟩)), (3, .v (.int .i32 94)), (4, .v (.int .i64 0)), (18, .v (.bool false))]) (by kernel_rfl)
    exact J5 false h0  _ _ _ _ hX
def internal_strconv_ParseUint_c16_c16.j6 (x17 : Int) (x27 : Bool) (x28 : Int) : Option ((Bool × Int × Int) ⊕ ((Bool × Int))) :=
  some (.inl (x27, x28, (IntKind.wrap .i64 (x17 + 1))))
def internal_strconv_ParseUint_c16_c16.j5 (v1 : Int) (x15 : Bool) (x16 : Int) (x17 : Int) (x26 : Int) : Option ((Bool × Int × Int) ⊕ ((Bool × Int))) :=
  if (decide (x26 ≥ 16)) = true then
    none
  else
    if (decide (x16 ≥ 1152921504606846976)) = true then
      none
    else
      if ((decide ((IntKind.wrap .u64 ((IntKind.wrap .u64 (x16 * 16)) + (IntKind.wrap .u64 x26))) < (IntKind.wrap .u64 (x16 * 16)))) || (decide ((IntKind.wrap .u64 ((IntKind.wrap .u64 (x16 * 16)) + (IntKind.wrap .u64 x26))) > (IntKind.wrap .u64 (v1 - 1))))) = true then
        none
      else
        internal_strconv_ParseUint_c16_c16.j6 x17 x15 (IntKind.wrap .u64 ((IntKind.wrap .u64 (x16 * 16)) + (IntKind.wrap .u64 x26)))
def internal_strconv_ParseUint_c16_c16.j4 (v1 : Int) (x15 : Bool) (x16 : Int) (x17 : Int) (v18 : UInt8) (x24 : Bool) : Option ((Bool × Int × Int) ⊕ ((Bool × Int))) :=
  if x24 = true then
    Option.bind (internal_strconv_lower ((v18.toNat : Nat) : Int)) fun v25 =>
    internal_strconv_ParseUint_c16_c16.j5 v1 x15 x16 x17 (IntKind.wrap .u8 ((IntKind.wrap .u8 (v25 - 97)) + 10))
  else
    none
def internal_strconv_ParseUint_c16_c16.l1 (t : Str) (v1 : Int) (s : Bool × Int × Int) : Option ((Bool × Int × Int) ⊕ ((Bool × Int))) := match s with
  | (x15, x16, x17) =>
  if (decide (x17 < ((t.length : Nat) : Int))) = true then
    Option.bind (getI t x17) fun v18 =>
    if ((((v18.toNat : Nat) : Int) == 95) && false) = true then
      internal_strconv_ParseUint_c16_c16.j6 x17 true x16
    else
      if ((decide (48 ≤ ((v18.toNat : Nat) : Int))) && (decide (((v18.toNat : Nat) : Int) ≤ 57))) = true then
        internal_strconv_ParseUint_c16_c16.j5 v1 x15 x16 x17 (IntKind.wrap .u8 (((v18.toNat : Nat) : Int) - 48))
      else
        Option.bind (internal_strconv_lower ((v18.toNat : Nat) : Int)) fun v22 =>
        if (decide (97 ≤ v22)) = true then
          Option.bind (internal_strconv_lower ((v18.toNat : Nat) : Int)) fun v23 =>
          internal_strconv_ParseUint_c16_c16.j4 v1 x15 x16 x17 v18 (decide (v23 ≤ 122))
        else
          internal_strconv_ParseUint_c16_c16.j4 v1 x15 x16 x17 v18 false
  else
    some (.inr (x15, x16))
def internal_strconv_ParseUint_c16_c16.j7 (x33 : Int) (x35 : Bool) : Option (Int × Unit) :=
  if x35 = true then
    none
  else
    some (x33, ())
def internal_strconv_ParseUint_c16_c16 (t : Str) : Option (Int × Unit) :=
  if (t == ([] : Str)) = true then
    none
  else
    Option.bind (shlI .u64 1 16) fun v1 =>
    Option.bind (loopM (internal_strconv_ParseUint_c16_c16.l1 t v1) (false, 0, 0)) fun e => match e with
    | (x32, x33) =>
      if x32 = true then
        Option.bind (internal_strconv_underscoreOK t) fun v34 =>
        internal_strconv_ParseUint_c16_c16.j7 x33 (!v34)
      else
        internal_strconv_ParseUint_c16_c16.j7 x33 false
theorem internal_strconv_ParseUint_c16_c16.ok (t : Str) (r : Int × Unit) (h0 : internal_strconv_ParseUint_c16_c16 t = some r) (w0 : World) (F0 : Heap) (hv : F0.Sub w0) (hG : Glob F0) (hg : SV.goods F0 [.v (.string ⟨⟨t⟩⟩), .v (.int .i64 16), .v (.int .i64 16)]) (ρ : Nat → Nat) :
    Calls Tryd.prog 73 (SV.dens ρ [.v (.string ⟨⟨t⟩⟩), .v (.int .i64 16), .v (.int .i64 16)]).toArray w0 (Ret0 w0 F0 fun s => ∃ s1 s2, s = .tup [s1, s2] ∧ (s1 = .v (.int .u64 r.1)) ∧ (s2 = .v .nilIface)) := by
  refine calls_of_wp Tryd.func73 rfl ?_
  have hX := Cx.enter (D := No) (B := []) (L := []) (ρ := ρ) (N := 172) Tryd.ntmps73 [.v (.string ⟨⟨t⟩⟩), .v (.int .i64 16), .v (.int .i64 16)] (St.start hv) rfl hg (by kernel_rfl) (fun _ h => by cases h) (Nat.le_of_ble_eq_true rfl) No.unfix
  unfold internal_strconv_ParseUint_c16_c16 at h0
  refine Cx.rseq hX [] [0, 1, 2] (l' := [(0, .v (.string ⟨⟨t⟩⟩)), (1, .v (.int .i64 16)), (2, .v (.int .i64 16))]) (B' := []) (by kernel_rfl) fun ρ w a hX => ?_
  refine wp_seq_k fun K2 hK2 => ?_
  refine Cx.rseq hX [] [0, 1, 2, 19] (l' := [(0, .v (.string ⟨⟨t⟩⟩)), (1, .v (.int .i64 16)), (2, .v (.int .i64 16)), (19, .v (.bool (t == ([] : Str))))]) (B' := []) (by kernel_rfl) fun ρ w a hX => ?_
  refine Cx.cond hX (b := (t == ([] : Str))) (by kernel_rfl) (fun hb => ?_) (fun hb => ?_)
  · have h0 := ite_tt h0 hb
    exact nomatch h0
  · have h0 := ite_ff h0 hb
    refine wp_skip ?_
    refine hK2 _ _ ?_
    refine Cx.rseq hX [] [0, 1, 2, 8] (l' := [(0, .v (.string ⟨⟨t⟩⟩)), (1, .v (.int .i64 16)), (2, .v (.int .i64 16)), (8, .v (.bool false))]) (B' := []) (by kernel_rfl) fun ρ w a hX => ?_
    refine Cx.rseq hX [] [0, 1, 2, 8, 9] (l' := [(0, .v (.string ⟨⟨t⟩⟩)), (1, .v (.int .i64 16)), (2, .v (.int .i64 16)), (8, .v (.bool false)), (9, .v (.string ⟨⟨t⟩⟩))]) (B' := []) (by kernel_rfl) fun ρ w a hX => ?_
    refine wp_seq_k fun K7 hK7 => ?_
    refine wp_block ?_
    refine Cx.rseq hX [2] [0, 1, 2, 8, 9, 25] (l' := [(0, .v (.string ⟨⟨t⟩⟩)), (1, .v (.int .i64 16)), (2, .v (.int .i64 16)), (8, .v (.bool false)), (9, .v (.string ⟨⟨t⟩⟩)), (25, .v (.bool true))]) (B' := []) (by kernel_rfl) fun ρ w a hX => ?_
    refine Cx.cond hX (b := true) (by kernel_rfl) (fun _ => ?_) (fun h => by cases h)
    refine wp_skip ?_
    refine hK7 _ _ ?_
    refine wp_seq_k fun K9 hK9 => ?_
    refine Cx.rseq hX [] [0, 1, 2, 8, 9, 77] (l' := [(0, .v (.string ⟨⟨t⟩⟩)), (1, .v (.int .i64 16)), (2, .v (.int .i64 16)), (8, .v (.bool false)), (9, .v (.string ⟨⟨t⟩⟩)), (77, .v (.bool false))]) (B' := []) (by kernel_rfl) fun ρ w a hX => ?_
    refine Cx.cond hX (b := false) (by kernel_rfl) (fun h => by cases h) (fun _ => ?_)
    refine Cx.rseq hX [2] [0, 1, 2, 8, 9, 83] (l' := [(0, .v (.string ⟨⟨t⟩⟩)), (1, .v (.int .i64 16)), (2, .v (.int .i64 16)), (8, .v (.bool false)), (9, .v (.string ⟨⟨t⟩⟩)), (83, .v (.bool false))]) (B' := []) (by kernel_rfl) fun ρ w a hX => ?_
    refine Cx.cond hX (b := false) (by kernel_rfl) (fun h => by cases h) (fun _ => ?_)
    refine wp_skip ?_
    refine hK9 _ _ ?_
    refine Cx.rseq hX [] [0, 1, 2, 8, 9] (l' := [(0, .v (.string ⟨⟨t⟩⟩)), (1, .v (.int .i64 16)), (2, .v (.int .i64 16)), (8, .v (.bool false)), (9, .v (.string ⟨⟨t⟩⟩))]) (B' := []) (by kernel_rfl) fun ρ w a hX => ?_
    refine wp_seq_k fun K13 hK13 => ?_
    refine Cx.rseq hX [] [0, 1, 2, 8, 9, 85] (l' := [(0, .v (.string ⟨⟨t⟩⟩)), (1, .v (.int .i64 16)), (2, .v (.int .i64 16)), (8, .v (.bool false)), (9, .v (.string ⟨⟨t⟩⟩)), (85, .v (.int .i64 16))]) (B' := []) (by kernel_rfl) fun ρ w a hX => ?_
    refine wp_block ?_
    refine Cx.rseq hX [] [0, 1, 2, 8, 9, 85, 90] (l' := [(0, .v (.string ⟨⟨t⟩⟩)), (1, .v (.int .i64 16)), (2, .v (.int .i64 16)), (8, .v (.bool false)), (9, .v (.string ⟨⟨t⟩⟩)), (85, .v (.int .i64 16)), (90, .v (.bool false))]) (B' := []) (by kernel_rfl) fun ρ w a hX => ?_
    refine Cx.cond hX (b := false) (by kernel_rfl) (fun h => by cases h) (fun _ => ?_)
    refine Cx.rseq hX [] [0, 1, 2, 8, 9, 92] (l' := [(0, .v (.string ⟨⟨t⟩⟩)), (1, .v (.int .i64 16)), (2, .v (.int .i64 16)), (8, .v (.bool false)), (9, .v (.string ⟨⟨t⟩⟩)), (92, .v (.bool true))]) (B' := []) (by kernel_rfl) fun ρ w a hX => ?_
    refine Cx.cond hX (b := true) (by kernel_rfl) (fun _ => ?_) (fun h => by cases h)
    refine Cx.region hX [] [0, 1, 2, 8, 9, 10] (l' := [(0, .v (.string ⟨⟨t⟩⟩)), (1, .v (.int .i64 16)), (2, .v (.int .i64 16)), (8, .v (.bool false)), (9, .v (.string ⟨⟨t⟩⟩)), (10, .v (.int .u64 1152921504606846976))]) (B' := []) (by kernel_rfl) fun ρ w a hX => ?_
    refine hK13 _ _ ?_
    refine wp_seq_k fun K17 hK17 => ?_
    refine wp_region_list ?_
    refine hX.part [] 2 [0, 1, 8, 9, 10, 95] (l' := [(0, .v (.string ⟨⟨t⟩⟩)), (1, .v (.int .i64 16)), (8, .v (.bool false)), (9, .v (.string ⟨⟨t⟩⟩)), (10, .v (.int .u64 1152921504606846976)), (95, .v (.int .u64 16))]) (B' := []) (by kernel_rfl) fun ρ w a hX => ?_
    obtain ⟨v1, hv1, h0⟩ := bnd_some h0
    refine hX.arith (lit := []) (by kernel_rfl) (by kernel_rfl) rfl (k := .u64) (k' := .u64) (m := 1) (n := 16) (r := v1) (by kernel_rfl) (by kernel_rfl) (by decide) hv1 fun a hX => ?_
    refine hX.part [] 2 [0, 1, 8, 9, 10, 11] (l' := [(0, .v (.string ⟨⟨t⟩⟩)), (1, .v (.int .i64 16)), (8, .v (.bool false)), (9, .v (.string ⟨⟨t⟩⟩)), (10, .v (.int .u64 1152921504606846976)), (11, .v (.int .u64 (IntKind.wrap .u64 (v1 - 1))))]) (B' := []) (by kernel_rfl) fun ρ w a hX => ?_
    refine wpList_end ?_
    refine hK17 _ _ ?_
    refine Cx.rseq hX [] [0, 1, 8, 9, 10, 11, 12] (l' := [(0, .v (.string ⟨⟨t⟩⟩)), (1, .v (.int .i64 16)), (8, .v (.bool false)), (9, .v (.string ⟨⟨t⟩⟩)), (10, .v (.int .u64 1152921504606846976)), (11, .v (.int .u64 (IntKind.wrap .u64 (v1 - 1)))), (12, .v (.bool false))]) (B' := []) (by kernel_rfl) fun ρ w a hX => ?_
    refine Cx.rseq hX [] [0, 1, 8, 9, 10, 11, 12, 13] (l' := [(0, .v (.string ⟨⟨t⟩⟩)), (1, .v (.int .i64 16)), (8, .v (.bool false)), (9, .v (.string ⟨⟨t⟩⟩)), (10, .v (.int .u64 1152921504606846976)), (11, .v (.int .u64 (IntKind.wrap .u64 (v1 - 1)))), (12, .v (.bool false)), (13, .v (.int .u64 0))]) (B' := []) (by kernel_rfl) fun ρ w a hX => ?_
    refine wp_seq_k fun K20 hK20 => ?_
    refine wp_seq_k fun K21 hK21 => ?_
    refine wp_region_list ?_
    refine hX.part [] 1 [1, 8, 9, 10, 11, 12, 13, 98] (l' := [(1, .v (.int .i64 16)), (8, .v (.bool false)), (9, .v (.string ⟨⟨t⟩⟩)), (10, .v (.int .u64 1152921504606846976)), (11, .v (.int .u64 (IntKind.wrap .u64 (v1 - 1)))), (12, .v (.bool false)), (13, .v (.int .u64 0)), (98, .v (.string ⟨⟨t⟩⟩))]) (B' := []) (by kernel_rfl) fun ρ w a hX => ?_
    refine hX.toBytes (lit := []) (by kernel_rfl) (by kernel_rfl) rfl (e := 5) (s := t) (by kernel_rfl) (by kernel_rfl) (by kernel_rfl) (by kernel_rfl) fun F A2 c3 w a hX => ?_
    refine hX.part [] 2 [1, 8, 9, 10, 11, 12, 13, 99, 100, 101] (l' := [(1, .v (.int .i64 16)), (8, .v (.bool false)), (9, .v (.string ⟨⟨t⟩⟩)), (10, .v (.int .u64 1152921504606846976)), (11, .v (.int .u64 (IntKind.wrap .u64 (v1 - 1)))), (12, .v (.bool false)), (13, .v (.int .u64 0)), (99, SV.sl kByte t A2 c3), (100, .v (.int .i64 ((t.length : Nat) : Int))), (101, .v (.int .i64 0))]) (B' := []) (by kernel_rfl) fun ρ w a hX => ?_
    refine wpList_end ?_
    refine hK21 _ _ ?_
    refine wp_block ?_
    have hX := hX.keeps [1, 8, 9, 10, 11, 12, 13, 99, 100, 101] (l' := [(1, .v (.int .i64 16)), (8, .v (.bool false)), (9, .v (.string ⟨⟨t⟩⟩)), (10, .v (.int .u64 1152921504606846976)), (11, .v (.int .u64 (IntKind.wrap .u64 (v1 - 1)))), (12, .v (.bool false)), (13, .v (.int .u64 0)), (99, SV.sl kByte t A2 c3), (100, .v (.int .i64 ((t.length : Nat) : Int))), (101, .v (.int .i64 0))]) (by kernel_rfl)
    obtain ⟨e1, he1, h0⟩ := bnd_some h0
    have E1x0 : ∀ (x32 : Bool) (x33 : Int), e1 = (x32, x33) → ∀ (ρ : Nat → Nat) (w : World) (F : Heap) (a : Act), Cx 172 w0 F0 No w F [] [] ρ [(9, .v (.string ⟨⟨t⟩⟩)), (12, .v (.bool x32)), (13, .v (.int .u64 x33))] a → K20 a w := by
      intro x32 x33 he  ρ w F a hX
      replace he := he.symm
      subst he
      (try dsimp only at h0)
      refine hK20 _ _ ?_
      refine wp_seq_k fun K65 hK65 => ?_
      refine wp_seq_k fun K66 hK66 => ?_
      have J66 : ∀ (x35 : Bool), internal_strconv_ParseUint_c16_c16.j7 x33 x35 = some r → ∀ (ρ : Nat → Nat) (w : World) (F : Heap) (a : Act), Cx 172 w0 F0 No w F [] [] ρ [(13, .v (.int .u64 x33)), (169, .v (.bool x35))] a → K66 a w := by
        intro x35 h0  ρ w F a hX
        unfold internal_strconv_ParseUint_c16_c16.j7 at h0
        refine hK66 _ _ ?_
        refine Cx.cond hX (b := x35) (by kernel_rfl) (fun hb => ?_) (fun hb => ?_)
        · have h0 := ite_tt h0 hb
          exact nomatch h0
        · have h0 := ite_ff h0 hb
          refine wp_skip ?_
          refine hK65 _ _ ?_
          refine Cx.rseq hX [] [6, 7] (l' := [(6, .v (.int .u64 x33)), (7, .v .nilIface)]) (B' := []) (by kernel_rfl) fun ρ w a hX => ?_
          refine wp_ret ?_
          have hr := Option.some.inj (show some _ = some _ from h0)
          subst hr
          exact hX.ret0 (ss := [.v (.int .u64 x33), .v .nilIface]) (by kernel_rfl) (by kernel_rfl) ⟨_, _, rfl, rfl, rfl⟩
      refine wp_region_list ?_
      refine hX.part [] 2 [9, 13, 165] (l' := [(9, .v (.string ⟨⟨t⟩⟩)), (13, .v (.int .u64 x33)), (165, .v (.bool x32))]) (B' := []) (by kernel_rfl) fun ρ w a hX => ?_
      refine ite_go h0 (fun hb h0 => ?_) (fun hb h0 => ?_)
      · have hX := hX.relit 165 hb (by kernel_rfl)
        refine hX.part [1] 1 [13, 165, 166] (l' := [(13, .v (.int .u64 x33)), (165, .v (.bool true)), (166, .v (.string ⟨⟨t⟩⟩))]) (B' := []) (by kernel_rfl) fun ρ w a hX => ?_
        obtain ⟨v34, hv34, h0⟩ := bnd_some h0
        refine Cx.call0 hX (lit := [1]) (by kernel_rfl) rfl (by kernel_rfl) ⟨⟨_, Tryd.func83, by kernel_rfl, rfl⟩⟩ (ss := [.v (.string ⟨⟨t⟩⟩)]) (by kernel_rfl) [.v (.string ⟨⟨t⟩⟩)] rfl (fun hg => hg) (fun hv hle hg => internal_strconv_underscoreOK.ok t v34 hv34 _ _ hv (hG.mono hle) hg _) (fun s F w a hp hX => ?_)
        subst hp
        refine hX.part [1] 2 [13, 169] (l' := [(13, .v (.int .u64 x33)), (169, .v (.bool (!v34)))]) (B' := []) (by kernel_rfl) fun ρ w a hX => ?_
        refine wpList_end ?_
        have hX := hX.keeps [13, 169] (l' := [(13, .v (.int .u64 x33)), (169, .v (.bool (!v34)))]) (by kernel_rfl)
        exact J66 (!v34) h0  _ _ _ _ hX
      · have hX := hX.relit 165 hb (by kernel_rfl)
        refine hX.part [1] 4 [13, 169] (l' := [(13, .v (.int .u64 x33)), (169, .v (.bool false))]) (B' := []) (by kernel_rfl) fun ρ w a hX => ?_
        refine wpList_end ?_
        have hX := hX.keeps [13, 169] (l' := [(13, .v (.int .u64 x33)), (169, .v (.bool false))]) (by kernel_rfl)
        exact J66 false h0  _ _ _ _ hX
    refine loop_go (fun (s : Bool × Int × Int) a w => match s with | (x15, x16, x17) => ∃ (ρ : Nat → Nat) (F : Heap), Cx 172 w0 F0 No w F [] [] ρ [(1, .v (.int .i64 16)), (8, .v (.bool false)), (9, .v (.string ⟨⟨t⟩⟩)), (10, .v (.int .u64 1152921504606846976)), (11, .v (.int .u64 (IntKind.wrap .u64 (v1 - 1)))), (12, .v (.bool x15)), (13, .v (.int .u64 x16)), (99, SV.sl kByte t A2 c3), (100, .v (.int .i64 ((t.length : Nat) : Int))), (101, .v (.int .i64 x17))] a) he1 (fun LW1 s o1 h1 hb1 hx1 a w hI => ?_) _ _ ?_
    · obtain ⟨x15, x16, x17⟩ := s
      obtain ⟨ρ, F, hX⟩ := hI
      unfold internal_strconv_ParseUint_c16_c16.l1 at h1
      (try dsimp only at h1)
      refine Cx.rseq hX [] [1, 8, 9, 10, 11, 12, 13, 99, 100, 101, 102] (l' := [(1, .v (.int .i64 16)), (8, .v (.bool false)), (9, .v (.string ⟨⟨t⟩⟩)), (10, .v (.int .u64 1152921504606846976)), (11, .v (.int .u64 (IntKind.wrap .u64 (v1 - 1)))), (12, .v (.bool x15)), (13, .v (.int .u64 x16)), (99, SV.sl kByte t A2 c3), (100, .v (.int .i64 ((t.length : Nat) : Int))), (101, .v (.int .i64 x17)), (102, .v (.bool (decide (x17 < ((t.length : Nat) : Int)))))]) (B' := []) (by kernel_rfl) fun ρ w a hX => ?_
      refine wp_seq_k fun K44 hK44 => ?_
      refine Cx.cond hX (b := (decide (x17 < ((t.length : Nat) : Int)))) (by kernel_rfl) (fun hb => ?_) (fun hb => ?_)
      · have h1 := ite_tt h1 hb
        refine wp_skip ?_
        refine hK44 _ _ ?_
        refine wp_seq_k fun K45 hK45 => ?_
        have J45 : ∀ (x27 : Bool) (x28 : Int), internal_strconv_ParseUint_c16_c16.j6 x17 x27 x28 = some o1 → ∀ (ρ : Nat → Nat) (w : World) (F : Heap) (a : Act), Cx 172 w0 F0 No w F [] [] ρ [(1, .v (.int .i64 16)), (8, .v (.bool false)), (9, .v (.string ⟨⟨t⟩⟩)), (10, .v (.int .u64 1152921504606846976)), (11, .v (.int .u64 (IntKind.wrap .u64 (v1 - 1)))), (12, .v (.bool x27)), (13, .v (.int .u64 x28)), (99, SV.sl kByte t A2 c3), (100, .v (.int .i64 ((t.length : Nat) : Int))), (101, .v (.int .i64 x17))] a → K45 a w := by
          intro x27 x28 h1  ρ w F a hX
          unfold internal_strconv_ParseUint_c16_c16.j6 at h1
          refine hK45 _ _ ?_
          refine Cx.region hX [] [1, 8, 9, 10, 11, 12, 13, 99, 100, 101] (l' := [(1, .v (.int .i64 16)), (8, .v (.bool false)), (9, .v (.string ⟨⟨t⟩⟩)), (10, .v (.int .u64 1152921504606846976)), (11, .v (.int .u64 (IntKind.wrap .u64 (v1 - 1)))), (12, .v (.bool x27)), (13, .v (.int .u64 x28)), (99, SV.sl kByte t A2 c3), (100, .v (.int .i64 ((t.length : Nat) : Int))), (101, .v (.int .i64 (IntKind.wrap .i64 (x17 + 1))))]) (B' := []) (by kernel_rfl) fun ρ w a hX => ?_
          have hX := hX.keeps [1, 8, 9, 10, 11, 12, 13, 99, 100, 101] (l' := [(1, .v (.int .i64 16)), (8, .v (.bool false)), (9, .v (.string ⟨⟨t⟩⟩)), (10, .v (.int .u64 1152921504606846976)), (11, .v (.int .u64 (IntKind.wrap .u64 (v1 - 1)))), (12, .v (.bool x27)), (13, .v (.int .u64 x28)), (99, SV.sl kByte t A2 c3), (100, .v (.int .i64 ((t.length : Nat) : Int))), (101, .v (.int .i64 (IntKind.wrap .i64 (x17 + 1))))]) (by kernel_rfl)
          exact hb1 (x27, x28, (IntKind.wrap .i64 (x17 + 1))) (out_eq h1) _ _ ⟨_, _, hX⟩
        refine wp_block ?_
        refine wp_seq_k fun K46 hK46 => ?_
        refine wp_region_list ?_
        refine hX.part [] 0 [1, 8, 9, 10, 11, 12, 13, 99, 100, 101] (l' := [(1, .v (.int .i64 16)), (8, .v (.bool false)), (9, .v (.string ⟨⟨t⟩⟩)), (10, .v (.int .u64 1152921504606846976)), (11, .v (.int .u64 (IntKind.wrap .u64 (v1 - 1)))), (12, .v (.bool x15)), (13, .v (.int .u64 x16)), (99, SV.sl kByte t A2 c3), (100, .v (.int .i64 ((t.length : Nat) : Int))), (101, .v (.int .i64 x17))]) (B' := []) (by kernel_rfl) fun ρ w a hX => ?_
        obtain ⟨v18, hv18, h1⟩ := bnd_some h1
        refine hX.idxSl (lit := []) (by kernel_rfl) (by kernel_rfl) rfl (d := kByte) (e := 5) (xs := t) (A := A2) (c := c3) (k := .i64) (n := x17) (v := v18) (by kernel_rfl) (by kernel_rfl) (by kernel_rfl) (by kernel_rfl) hv18 fun y19 b20 o21 a hX => ?_
        refine hX.part [] 2 [1, 8, 9, 10, 11, 12, 13, 15, 99, 100, 101] (l' := [(1, .v (.int .i64 16)), (8, .v (.bool false)), (9, .v (.string ⟨⟨t⟩⟩)), (10, .v (.int .u64 1152921504606846976)), (11, .v (.int .u64 (IntKind.wrap .u64 (v1 - 1)))), (12, .v (.bool x15)), (13, .v (.int .u64 x16)), (15, .v (.int .u8 ((v18.toNat : Nat) : Int))), (99, SV.sl kByte t A2 c3), (100, .v (.int .i64 ((t.length : Nat) : Int))), (101, .v (.int .i64 x17))]) (B' := []) (by kernel_rfl) fun ρ w a hX => ?_
        refine wpList_end ?_
        refine hK46 _ _ ?_
        refine Cx.rseq hX [] [1, 8, 9, 10, 11, 12, 13, 15, 99, 100, 101] (l' := [(1, .v (.int .i64 16)), (8, .v (.bool false)), (9, .v (.string ⟨⟨t⟩⟩)), (10, .v (.int .u64 1152921504606846976)), (11, .v (.int .u64 (IntKind.wrap .u64 (v1 - 1)))), (12, .v (.bool x15)), (13, .v (.int .u64 x16)), (15, .v (.int .u8 ((v18.toNat : Nat) : Int))), (99, SV.sl kByte t A2 c3), (100, .v (.int .i64 ((t.length : Nat) : Int))), (101, .v (.int .i64 x17))]) (B' := []) (by kernel_rfl) fun ρ w a hX => ?_
        refine wp_seq_k fun K48 hK48 => ?_
        have J48 : ∀ (x26 : Int), internal_strconv_ParseUint_c16_c16.j5 v1 x15 x16 x17 x26 = some o1 → ∀ (ρ : Nat → Nat) (w : World) (F : Heap) (a : Act), Cx 172 w0 F0 No w F [] [] ρ [(1, .v (.int .i64 16)), (8, .v (.bool false)), (9, .v (.string ⟨⟨t⟩⟩)), (10, .v (.int .u64 1152921504606846976)), (11, .v (.int .u64 (IntKind.wrap .u64 (v1 - 1)))), (12, .v (.bool x15)), (13, .v (.int .u64 x16)), (16, .v (.int .u8 x26)), (99, SV.sl kByte t A2 c3), (100, .v (.int .i64 ((t.length : Nat) : Int))), (101, .v (.int .i64 x17))] a → K48 a w := by
          intro x26 h1  ρ w F a hX
          unfold internal_strconv_ParseUint_c16_c16.j5 at h1
          refine hK48 _ _ ?_
          refine wp_seq_k fun K54 hK54 => ?_
          refine Cx.rseq hX [] [1, 8, 9, 10, 11, 12, 13, 16, 99, 100, 101, 137] (l' := [(1, .v (.int .i64 16)), (8, .v (.bool false)), (9, .v (.string ⟨⟨t⟩⟩)), (10, .v (.int .u64 1152921504606846976)), (11, .v (.int .u64 (IntKind.wrap .u64 (v1 - 1)))), (12, .v (.bool x15)), (13, .v (.int .u64 x16)), (16, .v (.int .u8 x26)), (99, SV.sl kByte t A2 c3), (100, .v (.int .i64 ((t.length : Nat) : Int))), (101, .v (.int .i64 x17)), (137, .v (.bool (decide (x26 ≥ 16))))]) (B' := []) (by kernel_rfl) fun ρ w a hX => ?_
          refine Cx.cond hX (b := (decide (x26 ≥ 16))) (by kernel_rfl) (fun hb => ?_) (fun hb => ?_)
          · have h1 := ite_tt h1 hb
            exact nomatch h1
          · have h1 := ite_ff h1 hb
            refine wp_skip ?_
            refine hK54 _ _ ?_
            refine wp_seq_k fun K57 hK57 => ?_
            refine Cx.rseq hX [] [1, 8, 9, 10, 11, 12, 13, 16, 99, 100, 101, 141] (l' := [(1, .v (.int .i64 16)), (8, .v (.bool false)), (9, .v (.string ⟨⟨t⟩⟩)), (10, .v (.int .u64 1152921504606846976)), (11, .v (.int .u64 (IntKind.wrap .u64 (v1 - 1)))), (12, .v (.bool x15)), (13, .v (.int .u64 x16)), (16, .v (.int .u8 x26)), (99, SV.sl kByte t A2 c3), (100, .v (.int .i64 ((t.length : Nat) : Int))), (101, .v (.int .i64 x17)), (141, .v (.bool (decide (x16 ≥ 1152921504606846976))))]) (B' := []) (by kernel_rfl) fun ρ w a hX => ?_
            refine Cx.cond hX (b := (decide (x16 ≥ 1152921504606846976))) (by kernel_rfl) (fun hb => ?_) (fun hb => ?_)
            · have h1 := ite_tt h1 hb
              exact nomatch h1
            · have h1 := ite_ff h1 hb
              refine wp_skip ?_
              refine hK57 _ _ ?_
              refine Cx.rseq hX [] [1, 8, 9, 10, 11, 12, 13, 16, 99, 100, 101] (l' := [(1, .v (.int .i64 16)), (8, .v (.bool false)), (9, .v (.string ⟨⟨t⟩⟩)), (10, .v (.int .u64 1152921504606846976)), (11, .v (.int .u64 (IntKind.wrap .u64 (v1 - 1)))), (12, .v (.bool x15)), (13, .v (.int .u64 (IntKind.wrap .u64 (x16 * 16)))), (16, .v (.int .u8 x26)), (99, SV.sl kByte t A2 c3), (100, .v (.int .i64 ((t.length : Nat) : Int))), (101, .v (.int .i64 x17))]) (B' := []) (by kernel_rfl) fun ρ w a hX => ?_
              refine Cx.rseq hX [] [1, 8, 9, 10, 11, 12, 13, 17, 99, 100, 101] (l' := [(1, .v (.int .i64 16)), (8, .v (.bool false)), (9, .v (.string ⟨⟨t⟩⟩)), (10, .v (.int .u64 1152921504606846976)), (11, .v (.int .u64 (IntKind.wrap .u64 (v1 - 1)))), (12, .v (.bool x15)), (13, .v (.int .u64 (IntKind.wrap .u64 (x16 * 16)))), (17, .v (.int .u64 (IntKind.wrap .u64 ((IntKind.wrap .u64 (x16 * 16)) + (IntKind.wrap .u64 x26))))), (99, SV.sl kByte t A2 c3), (100, .v (.int .i64 ((t.length : Nat) : Int))), (101, .v (.int .i64 x17))]) (B' := []) (by kernel_rfl) fun ρ w a hX => ?_
              refine wp_seq_k fun K62 hK62 => ?_
              refine Cx.rseq hX [] [1, 8, 9, 10, 11, 12, 17, 99, 100, 101, 159] (l' := [(1, .v (.int .i64 16)), (8, .v (.bool false)), (9, .v (.string ⟨⟨t⟩⟩)), (10, .v (.int .u64 1152921504606846976)), (11, .v (.int .u64 (IntKind.wrap .u64 (v1 - 1)))), (12, .v (.bool x15)), (17, .v (.int .u64 (IntKind.wrap .u64 ((IntKind.wrap .u64 (x16 * 16)) + (IntKind.wrap .u64 x26))))), (99, SV.sl kByte t A2 c3), (100, .v (.int .i64 ((t.length : Nat) : Int))), (101, .v (.int .i64 x17)), (159, .v (.bool ((decide ((IntKind.wrap .u64 ((IntKind.wrap .u64 (x16 * 16)) + (IntKind.wrap .u64 x26))) < (IntKind.wrap .u64 (x16 * 16)))) || (decide ((IntKind.wrap .u64 ((IntKind.wrap .u64 (x16 * 16)) + (IntKind.wrap .u64 x26))) > (IntKind.wrap .u64 (v1 - 1)))))))]) (B' := []) (by kernel_rfl) fun ρ w a hX => ?_
              refine Cx.cond hX (b := ((decide ((IntKind.wrap .u64 ((IntKind.wrap .u64 (x16 * 16)) + (IntKind.wrap .u64 x26))) < (IntKind.wrap .u64 (x16 * 16)))) || (decide ((IntKind.wrap .u64 ((IntKind.wrap .u64 (x16 * 16)) + (IntKind.wrap .u64 x26))) > (IntKind.wrap .u64 (v1 - 1)))))) (by kernel_rfl) (fun hb => ?_) (fun hb => ?_)
              · have h1 := ite_tt h1 hb
                exact nomatch h1
              · have h1 := ite_ff h1 hb
                refine wp_skip ?_
                refine hK62 _ _ ?_
                refine Cx.region hX [] [1, 8, 9, 10, 11, 12, 13, 99, 100, 101] (l' := [(1, .v (.int .i64 16)), (8, .v (.bool false)), (9, .v (.string ⟨⟨t⟩⟩)), (10, .v (.int .u64 1152921504606846976)), (11, .v (.int .u64 (IntKind.wrap .u64 (v1 - 1)))), (12, .v (.bool x15)), (13, .v (.int .u64 (IntKind.wrap .u64 ((IntKind.wrap .u64 (x16 * 16)) + (IntKind.wrap .u64 x26))))), (99, SV.sl kByte t A2 c3), (100, .v (.int .i64 ((t.length : Nat) : Int))), (101, .v (.int .i64 x17))]) (B' := []) (by kernel_rfl) fun ρ w a hX => ?_
                have hX := hX.keeps [1, 8, 9, 10, 11, 12, 13, 99, 100, 101] (l' := [(1, .v (.int .i64 16)), (8, .v (.bool false)), (9, .v (.string ⟨⟨t⟩⟩)), (10, .v (.int .u64 1152921504606846976)), (11, .v (.int .u64 (IntKind.wrap .u64 (v1 - 1)))), (12, .v (.bool x15)), (13, .v (.int .u64 (IntKind.wrap .u64 ((IntKind.wrap .u64 (x16 * 16)) + (IntKind.wrap .u64 x26))))), (99, SV.sl kByte t A2 c3), (100, .v (.int .i64 ((t.length : Nat) : Int))), (101, .v (.int .i64 x17))]) (by kernel_rfl)
                exact J45 x15 (IntKind.wrap .u64 ((IntKind.wrap .u64 (x16 * 16)) + (IntKind.wrap .u64 x26))) h1  _ _ _ _ hX
        refine wp_block ?_
        refine Cx.rseq hX [] [1, 8, 9, 10, 11, 12, 13, 15, 99, 100, 101, 106] (l' := [(1, .v (.int .i64 16)), (8, .v (.bool false)), (9, .v (.string ⟨⟨t⟩⟩)), (10, .v (.int .u64 1152921504606846976)), (11, .v (.int .u64 (IntKind.wrap .u64 (v1 - 1)))), (12, .v (.bool x15)), (13, .v (.int .u64 x16)), (15, .v (.int .u8 ((v18.toNat : Nat) : Int))), (99, SV.sl kByte t A2 c3), (100, .v (.int .i64 ((t.length : Nat) : Int))), (101, .v (.int .i64 x17)), (106, .v (.bool ((((v18.toNat : Nat) : Int) == 95) && false)))]) (B' := []) (by kernel_rfl) fun ρ w a hX => ?_
        refine Cx.cond hX (b := ((((v18.toNat : Nat) : Int) == 95) && false)) (by kernel_rfl) (fun hb => ?_) (fun hb => ?_)
        · have h1 := ite_tt h1 hb
          refine Cx.rseq hX [] [1, 8, 9, 10, 11, 12, 13, 99, 100, 101] (l' := [(1, .v (.int .i64 16)), (8, .v (.bool false)), (9, .v (.string ⟨⟨t⟩⟩)), (10, .v (.int .u64 1152921504606846976)), (11, .v (.int .u64 (IntKind.wrap .u64 (v1 - 1)))), (12, .v (.bool true)), (13, .v (.int .u64 x16)), (99, SV.sl kByte t A2 c3), (100, .v (.int .i64 ((t.length : Nat) : Int))), (101, .v (.int .i64 x17))]) (B' := []) (by kernel_rfl) fun ρ w a hX => ?_
          refine wp_exit ?_
          have hX := hX.keeps [1, 8, 9, 10, 11, 12, 13, 99, 100, 101] (l' := [(1, .v (.int .i64 16)), (8, .v (.bool false)), (9, .v (.string ⟨⟨t⟩⟩)), (10, .v (.int .u64 1152921504606846976)), (11, .v (.int .u64 (IntKind.wrap .u64 (v1 - 1)))), (12, .v (.bool true)), (13, .v (.int .u64 x16)), (99, SV.sl kByte t A2 c3), (100, .v (.int .i64 ((t.length : Nat) : Int))), (101, .v (.int .i64 x17))]) (by kernel_rfl)
          exact J45 true x16 h1  _ _ _ _ hX
        · have h1 := ite_ff h1 hb
          refine Cx.rseq hX [] [1, 8, 9, 10, 11, 12, 13, 15, 99, 100, 101, 112] (l' := [(1, .v (.int .i64 16)), (8, .v (.bool false)), (9, .v (.string ⟨⟨t⟩⟩)), (10, .v (.int .u64 1152921504606846976)), (11, .v (.int .u64 (IntKind.wrap .u64 (v1 - 1)))), (12, .v (.bool x15)), (13, .v (.int .u64 x16)), (15, .v (.int .u8 ((v18.toNat : Nat) : Int))), (99, SV.sl kByte t A2 c3), (100, .v (.int .i64 ((t.length : Nat) : Int))), (101, .v (.int .i64 x17)), (112, .v (.bool ((decide (48 ≤ ((v18.toNat : Nat) : Int))) && (decide (((v18.toNat : Nat) : Int) ≤ 57)))))]) (B' := []) (by kernel_rfl) fun ρ w a hX => ?_
          refine Cx.cond hX (b := ((decide (48 ≤ ((v18.toNat : Nat) : Int))) && (decide (((v18.toNat : Nat) : Int) ≤ 57)))) (by kernel_rfl) (fun hb => ?_) (fun hb => ?_)
          · have h1 := ite_tt h1 hb
            refine Cx.region hX [] [1, 8, 9, 10, 11, 12, 13, 16, 99, 100, 101] (l' := [(1, .v (.int .i64 16)), (8, .v (.bool false)), (9, .v (.string ⟨⟨t⟩⟩)), (10, .v (.int .u64 1152921504606846976)), (11, .v (.int .u64 (IntKind.wrap .u64 (v1 - 1)))), (12, .v (.bool x15)), (13, .v (.int .u64 x16)), (16, .v (.int .u8 (IntKind.wrap .u8 (((v18.toNat : Nat) : Int) - 48)))), (99, SV.sl kByte t A2 c3), (100, .v (.int .i64 ((t.length : Nat) : Int))), (101, .v (.int .i64 x17))]) (B' := []) (by kernel_rfl) fun ρ w a hX => ?_
            have hX := hX.keeps [1, 8, 9, 10, 11, 12, 13, 16, 99, 100, 101] (l' := [(1, .v (.int .i64 16)), (8, .v (.bool false)), (9, .v (.string ⟨⟨t⟩⟩)), (10, .v (.int .u64 1152921504606846976)), (11, .v (.int .u64 (IntKind.wrap .u64 (v1 - 1)))), (12, .v (.bool x15)), (13, .v (.int .u64 x16)), (16, .v (.int .u8 (IntKind.wrap .u8 (((v18.toNat : Nat) : Int) - 48)))), (99, SV.sl kByte t A2 c3), (100, .v (.int .i64 ((t.length : Nat) : Int))), (101, .v (.int .i64 x17))]) (by kernel_rfl)
            exact J48 (IntKind.wrap .u8 (((v18.toNat : Nat) : Int) - 48)) h1  _ _ _ _ hX
          · have h1 := ite_ff h1 hb
            refine wp_seq_k fun K52 hK52 => ?_
            have J52 : ∀ (x24 : Bool), internal_strconv_ParseUint_c16_c16.j4 v1 x15 x16 x17 v18 x24 = some o1 → ∀ (ρ : Nat → Nat) (w : World) (F : Heap) (a : Act), Cx 172 w0 F0 No w F [] [] ρ [(1, .v (.int .i64 16)), (8, .v (.bool false)), (9, .v (.string ⟨⟨t⟩⟩)), (10, .v (.int .u64 1152921504606846976)), (11, .v (.int .u64 (IntKind.wrap .u64 (v1 - 1)))), (12, .v (.bool x15)), (13, .v (.int .u64 x16)), (15, .v (.int .u8 ((v18.toNat : Nat) : Int))), (99, SV.sl kByte t A2 c3), (100, .v (.int .i64 ((t.length : Nat) : Int))), (101, .v (.int .i64 x17)), (121, .v (.bool x24))] a → K52 a w := by
              intro x24 h1  ρ w F a hX
              unfold internal_strconv_ParseUint_c16_c16.j4 at h1
              refine hK52 _ _ ?_
              refine Cx.cond hX (b := x24) (by kernel_rfl) (fun hb => ?_) (fun hb => ?_)
              · have h1 := ite_tt h1 hb
                refine wp_region_list ?_
                refine hX.part [] 1 [1, 8, 9, 10, 11, 12, 13, 99, 100, 101, 130] (l' := [(1, .v (.int .i64 16)), (8, .v (.bool false)), (9, .v (.string ⟨⟨t⟩⟩)), (10, .v (.int .u64 1152921504606846976)), (11, .v (.int .u64 (IntKind.wrap .u64 (v1 - 1)))), (12, .v (.bool x15)), (13, .v (.int .u64 x16)), (99, SV.sl kByte t A2 c3), (100, .v (.int .i64 ((t.length : Nat) : Int))), (101, .v (.int .i64 x17)), (130, .v (.int .u8 ((v18.toNat : Nat) : Int)))]) (B' := []) (by kernel_rfl) fun ρ w a hX => ?_
                obtain ⟨v25, hv25, h1⟩ := bnd_some h1
                refine Cx.call0 hX (lit := []) (by kernel_rfl) rfl (by kernel_rfl) ⟨⟨_, Tryd.func82, by kernel_rfl, rfl⟩⟩ (ss := [.v (.int .u8 ((v18.toNat : Nat) : Int))]) (by kernel_rfl) [.v (.int .u8 ((v18.toNat : Nat) : Int))] rfl (fun hg => hg) (fun hv hle hg => internal_strconv_lower.ok ((v18.toNat : Nat) : Int) v25 hv25 _ _ hv (hG.mono hle) hg _) (fun s F w a hp hX => ?_)
                subst hp
                refine hX.part [] 3 [1, 8, 9, 10, 11, 12, 13, 16, 99, 100, 101] (l' := [(1, .v (.int .i64 16)), (8, .v (.bool false)), (9, .v (.string ⟨⟨t⟩⟩)), (10, .v (.int .u64 1152921504606846976)), (11, .v (.int .u64 (IntKind.wrap .u64 (v1 - 1)))), (12, .v (.bool x15)), (13, .v (.int .u64 x16)), (16, .v (.int .u8 (IntKind.wrap .u8 ((IntKind.wrap .u8 (v25 - 97)) + 10)))), (99, SV.sl kByte t A2 c3), (100, .v (.int .i64 ((t.length : Nat) : Int))), (101, .v (.int .i64 x17))]) (B' := []) (by kernel_rfl) fun ρ w a hX => ?_
                refine wpList_end ?_
                have hX := hX.keeps [1, 8, 9, 10, 11, 12, 13, 16, 99, 100, 101] (l' := [(1, .v (.int .i64 16)), (8, .v (.bool false)), (9, .v (.string ⟨⟨t⟩⟩)), (10, .v (.int .u64 1152921504606846976)), (11, .v (.int .u64 (IntKind.wrap .u64 (v1 - 1)))), (12, .v (.bool x15)), (13, .v (.int .u64 x16)), (16, .v (.int .u8 (IntKind.wrap .u8 ((IntKind.wrap .u8 (v25 - 97)) + 10)))), (99, SV.sl kByte t A2 c3), (100, .v (.int .i64 ((t.length : Nat) : Int))), (101, .v (.int .i64 x17))]) (by kernel_rfl)
                exact J48 (IntKind.wrap .u8 ((IntKind.wrap .u8 (v25 - 97)) + 10)) h1  _ _ _ _ hX
              · have h1 := ite_ff h1 hb
                exact nomatch h1
            refine wp_region_list ?_
            refine hX.part [] 1 [1, 8, 9, 10, 11, 12, 13, 15, 99, 100, 101, 122] (l' := [(1, .v (.int .i64 16)), (8, .v (.bool false)), (9, .v (.string ⟨⟨t⟩⟩)), (10, .v (.int .u64 1152921504606846976)), (11, .v (.int .u64 (IntKind.wrap .u64 (v1 - 1)))), (12, .v (.bool x15)), (13, .v (.int .u64 x16)), (15, .v (.int .u8 ((v18.toNat : Nat) : Int))), (99, SV.sl kByte t A2 c3), (100, .v (.int .i64 ((t.length : Nat) : Int))), (101, .v (.int .i64 x17)), (122, .v (.int .u8 ((v18.toNat : Nat) : Int)))]) (B' := []) (by kernel_rfl) fun ρ w a hX => ?_
            obtain ⟨v22, hv22, h1⟩ := bnd_some h1
            refine Cx.call0 hX (lit := []) (by kernel_rfl) rfl (by kernel_rfl) ⟨⟨_, Tryd.func82, by kernel_rfl, rfl⟩⟩ (ss := [.v (.int .u8 ((v18.toNat : Nat) : Int))]) (by kernel_rfl) [.v (.int .u8 ((v18.toNat : Nat) : Int))] rfl (fun hg => hg) (fun hv hle hg => internal_strconv_lower.ok ((v18.toNat : Nat) : Int) v22 hv22 _ _ hv (hG.mono hle) hg _) (fun s F w a hp hX => ?_)
            subst hp
            refine hX.part [] 2 [1, 8, 9, 10, 11, 12, 13, 15, 99, 100, 101, 125] (l' := [(1, .v (.int .i64 16)), (8, .v (.bool false)), (9, .v (.string ⟨⟨t⟩⟩)), (10, .v (.int .u64 1152921504606846976)), (11, .v (.int .u64 (IntKind.wrap .u64 (v1 - 1)))), (12, .v (.bool x15)), (13, .v (.int .u64 x16)), (15, .v (.int .u8 ((v18.toNat : Nat) : Int))), (99, SV.sl kByte t A2 c3), (100, .v (.int .i64 ((t.length : Nat) : Int))), (101, .v (.int .i64 x17)), (125, .v (.bool (decide (97 ≤ v22))))]) (B' := []) (by kernel_rfl) fun ρ w a hX => ?_
            refine ite_go h1 (fun hb h1 => ?_) (fun hb h1 => ?_)
            · have hX := hX.relit 125 hb (by kernel_rfl)
              refine hX.part [3] 1 [1, 8, 9, 10, 11, 12, 13, 15, 99, 100, 101, 125, 126] (l' := [(1, .v (.int .i64 16)), (8, .v (.bool false)), (9, .v (.string ⟨⟨t⟩⟩)), (10, .v (.int .u64 1152921504606846976)), (11, .v (.int .u64 (IntKind.wrap .u64 (v1 - 1)))), (12, .v (.bool x15)), (13, .v (.int .u64 x16)), (15, .v (.int .u8 ((v18.toNat : Nat) : Int))), (99, SV.sl kByte t A2 c3), (100, .v (.int .i64 ((t.length : Nat) : Int))), (101, .v (.int .i64 x17)), (125, .v (.bool true)), (126, .v (.int .u8 ((v18.toNat : Nat) : Int)))]) (B' := []) (by kernel_rfl) fun ρ w a hX => ?_
              obtain ⟨v23, hv23, h1⟩ := bnd_some h1
              refine Cx.call0 hX (lit := [3]) (by kernel_rfl) rfl (by kernel_rfl) ⟨⟨_, Tryd.func82, by kernel_rfl, rfl⟩⟩ (ss := [.v (.int .u8 ((v18.toNat : Nat) : Int))]) (by kernel_rfl) [.v (.int .u8 ((v18.toNat : Nat) : Int))] rfl (fun hg => hg) (fun hv hle hg => internal_strconv_lower.ok ((v18.toNat : Nat) : Int) v23 hv23 _ _ hv (hG.mono hle) hg _) (fun s F w a hp hX => ?_)
              subst hp
              refine hX.part [3] 3 [1, 8, 9, 10, 11, 12, 13, 15, 99, 100, 101, 121] (l' := [(1, .v (.int .i64 16)), (8, .v (.bool false)), (9, .v (.string ⟨⟨t⟩⟩)), (10, .v (.int .u64 1152921504606846976)), (11, .v (.int .u64 (IntKind.wrap .u64 (v1 - 1)))), (12, .v (.bool x15)), (13, .v (.int .u64 x16)), (15, .v (.int .u8 ((v18.toNat : Nat) : Int))), (99, SV.sl kByte t A2 c3), (100, .v (.int .i64 ((t.length : Nat) : Int))), (101, .v (.int .i64 x17)), (121, .v (.bool (decide (v23 ≤ 122))))]) (B' := []) (by kernel_rfl) fun ρ w a hX => ?_
              refine wpList_end ?_
              have hX := hX.keeps [1, 8, 9, 10, 11, 12, 13, 15, 99, 100, 101, 121] (l' := [(1, .v (.int .i64 16)), (8, .v (.bool false)), (9, .v (.string ⟨⟨t⟩⟩)), (10, .v (.int .u64 1152921504606846976)), (11, .v (.int .u64 (IntKind.wrap .u64 (v1 - 1)))), (12, .v (.bool x15)), (13, .v (.int .u64 x16)), (15, .v (.int .u8 ((v18.toNat : Nat) : Int))), (99, SV.sl kByte t A2 c3), (100, .v (.int .i64 ((t.length : Nat) : Int))), (101, .v (.int .i64 x17)), (121, .v (.bool (decide (v23 ≤ 122))))]) (by kernel_rfl)
              exact J52 (decide (v23 ≤ 122)) h1  _ _ _ _ hX
            · have hX := hX.relit 125 hb (by kernel_rfl)
              refine hX.part [3] 5 [1, 8, 9, 10, 11, 12, 13, 15, 99, 100, 101, 121] (l' := [(1, .v (.int .i64 16)), (8, .v (.bool false)), (9, .v (.string ⟨⟨t⟩⟩)), (10, .v (.int .u64 1152921504606846976)), (11, .v (.int .u64 (IntKind.wrap .u64 (v1 - 1)))), (12, .v (.bool x15)), (13, .v (.int .u64 x16)), (15, .v (.int .u8 ((v18.toNat : Nat) : Int))), (99, SV.sl kByte t A2 c3), (100, .v (.int .i64 ((t.length : Nat) : Int))), (101, .v (.int .i64 x17)), (121, .v (.bool false))]) (B' := []) (by kernel_rfl) fun ρ w a hX => ?_
              refine wpList_end ?_
              have hX := hX.keeps [1, 8, 9, 10, 11, 12, 13, 15, 99, 100, 101, 121] (l' := [(1, .v (.int .i64 16)), (8, .v (.bool false)), (9, .v (.string ⟨⟨t⟩⟩)), (10, .v (.int .u64 1152921504606846976)), (11, .v (.int .u64 (IntKind.wrap .u64 (v1 - 1)))), (12, .v (.bool x15)), (13, .v (.int .u64 x16)), (15, .v (.int .u8 ((v18.toNat : Nat) : Int))), (99, SV.sl kByte t A2 c3), (100, .v (.int .i64 ((t.length : Nat) : Int))), (101, .v (.int .i64 x17)), (121, .v (.bool false))]) (by kernel_rfl)
              exact J52 false h1  _ _ _ _ hX
      · have h1 := ite_ff h1 hb
        refine wp_exit ?_
        have hX := hX.keeps [9, 12, 13] (l' := [(9, .v (.string ⟨⟨t⟩⟩)), (12, .v (.bool x15)), (13, .v (.int .u64 x16))]) (by kernel_rfl)
        exact E1x0 x15 x16 (hx1 _ (out_eq h1)).symm  _ _ _ _ hX
    · exact ⟨_, _, hX⟩
end
end Go.Gw
