/- Texts for the statements of this seat. -/
import Derived.Test.YtglnkknalibgdaaDoorGwU
import Derived.Test.YtglnkknalibgdaaDoorShelf13d
import Derived.Test.YtglnkknalibgdaaDoorProg
import Derived.KernelRfl
set_option linter.unusedVariables false
set_option linter.unusedSimpArgs false
set_option linter.unnecessarySimpa false
namespace Go.Gw
open Go.Proofs Go.RowKit
set_option maxRecDepth 100000
set_option linter.unusedVariables false
set_option linter.unusedSimpArgs false
noncomputable section
structure Glob (F : Heap) : Prop where
  maxLen : ∃ m, cellF F 0 0 (.int .i64 m)
  g3_15 : cellF F 3 15 (.int .u8 4)
theorem Glob.mono {F F' : Heap} (h : Glob F) (hle : F.Le F') : Glob F' := ⟨h.maxLen.imp fun _ e => cellF_mono hle e, cellF_mono hle h.g3_15⟩
def internal_strconv_isPowerOfTwo_c16 : Option (Bool) :=
  some true
theorem internal_strconv_isPowerOfTwo_c16.ok (r : Bool) (h0 : internal_strconv_isPowerOfTwo_c16 = some r) (w0 : World) (F0 : Heap) (hv : F0.Sub w0) (hG : Glob F0) (hg : SV.goods F0 [.v (.int .i64 16)]) (ρ : Nat → Nat) :
    Calls Tryd.prog 89 (SV.dens ρ [.v (.int .i64 16)]).toArray w0 (Ret0 w0 F0 fun s => s = .v (.bool r)) := by
 refine calls_of_wp Tryd.func89 rfl ?_
 have hX := Cx.enter (D := No) (B := []) (L := []) (ρ := ρ) (N := 8) Tryd.ntmps89 [.v (.int .i64 16)] (St.start hv) rfl hg (by kernel_rfl) (fun _ h => by cases h) (Nat.le_of_ble_eq_true rfl) No.unfix
 unfold internal_strconv_isPowerOfTwo_c16 at h0
 refine Cx.rseq hX [] [0] (l' := [(0, .v (.int .i64 16))]) (B' := []) (by kernel_rfl) fun ρ w a hX => ?_
 refine Cx.rseq hX [] [2] (l' := [(2, .v (.bool true))]) (B' := []) (by kernel_rfl) fun ρ w a hX => ?_
 refine wp_ret ?_
 have hr := Option.some.inj (show some _ = some _ from h0)
 subst hr
 exact hX.ret0 (ss := [.v (.bool true)]) (by kernel_rfl) (by kernel_rfl) rfl
def math_bits_TrailingZeros64_c16 : Option (Int) :=
  some 4
theorem math_bits_TrailingZeros64_c16.ok (r : Int) (h0 : math_bits_TrailingZeros64_c16 = some r) (w0 : World) (F0 : Heap) (hv : F0.Sub w0) (hG : Glob F0) (hg : SV.goods F0 [.v (.int .u64 16)]) (ρ : Nat → Nat) :
    Calls Tryd.prog 92 (SV.dens ρ [.v (.int .u64 16)]).toArray w0 (Ret0 w0 F0 fun s => s = .v (.int .i64 r)) := by
 refine calls_of_wp Tryd.func92 rfl ?_
 have hX := Cx.enter (D := No) (B := []) (L := []) (ρ := ρ) (N := 14) Tryd.ntmps92 [.v (.int .u64 16)] (St.start hv) rfl hg (by kernel_rfl) (fun _ h => by cases h) (Nat.le_of_ble_eq_true rfl) No.unfix
 unfold math_bits_TrailingZeros64_c16 at h0
 refine Cx.rseq hX [] [0] (l' := [(0, .v (.int .u64 16))]) (B' := []) (by kernel_rfl) fun ρ w a hX => ?_
 refine wp_seq_k fun K2 hK2 => ?_
 refine Cx.rseq hX [] [0, 4] (l' := [(0, .v (.int .u64 16)), (4, .v (.bool false))]) (B' := []) (by kernel_rfl) fun ρ w a hX => ?_
 refine Cx.cond hX (b := false) (by kernel_rfl) (fun h => by cases h) (fun _ => ?_)
 refine wp_skip ?_
 refine hK2 _ _ ?_
 refine wp_seq_k fun K4 hK4 => ?_
 refine wp_region_list ?_
 refine hX.part [] 6 [10] (l' := [(10, .v (.int .u64 15))]) (B' := []) (by kernel_rfl) fun ρ w a hX => ?_
 refine hX.globAt (k := .u64) (lit := []) (by kernel_rfl) (by kernel_rfl) rfl (g := 3) (n := 15) (by kernel_rfl) (by kernel_rfl) (by kernel_rfl) (hG.mono hX.st.le).g3_15 fun a hX => ?_
 refine hX.part [] 3 [2] (l' := [(2, .v (.int .i64 4))]) (B' := []) (by kernel_rfl) fun ρ w a hX => ?_
 refine wpList_end ?_
 refine hK4 _ _ ?_
 refine wp_ret ?_
 have hr := Option.some.inj (show some _ = some _ from h0)
 subst hr
 exact hX.ret0 (ss := [.v (.int .i64 4)]) (by kernel_rfl) (by kernel_rfl) rfl
def math_bits_TrailingZeros_c16 : Option (Int) :=
  Option.bind (math_bits_TrailingZeros64_c16) fun v1 =>
  some v1
theorem math_bits_TrailingZeros_c16.ok (r : Int) (h0 : math_bits_TrailingZeros_c16 = some r) (w0 : World) (F0 : Heap) (hv : F0.Sub w0) (hG : Glob F0) (hg : SV.goods F0 [.v (.int .u64 16)]) (ρ : Nat → Nat) :
    Calls Tryd.prog 90 (SV.dens ρ [.v (.int .u64 16)]).toArray w0 (Ret0 w0 F0 fun s => s = .v (.int .i64 r)) := by
 refine calls_of_wp Tryd.func90 rfl ?_
 have hX := Cx.enter (D := No) (B := []) (L := []) (ρ := ρ) (N := 8) Tryd.ntmps90 [.v (.int .u64 16)] (St.start hv) rfl hg (by kernel_rfl) (fun _ h => by cases h) (Nat.le_of_ble_eq_true rfl) No.unfix
 unfold math_bits_TrailingZeros_c16 at h0
 refine Cx.rseq hX [] [0] (l' := [(0, .v (.int .u64 16))]) (B' := []) (by kernel_rfl) fun ρ w a hX => ?_
 refine wp_seq_k fun K2 hK2 => ?_
 refine Cx.cond hX (b := false) (by kernel_rfl) (fun h => by cases h) (fun _ => ?_)
 refine wp_skip ?_
 refine hK2 _ _ ?_
 refine wp_seq_k fun K3 hK3 => ?_
 refine wp_region_list ?_
 refine hX.part [] 1 [6] (l' := [(6, .v (.int .u64 16))]) (B' := []) (by kernel_rfl) fun ρ w a hX => ?_
 obtain ⟨v1, hv1, h0⟩ := bnd_some h0
 refine Cx.call0 hX (lit := []) (by kernel_rfl) rfl (by kernel_rfl) ⟨⟨_, Tryd.func92, by kernel_rfl, rfl⟩⟩ (ss := [.v (.int .u64 16)]) (by kernel_rfl) [.v (.int .u64 16)] rfl (fun hg => hg) (fun hv hle hg => math_bits_TrailingZeros64_c16.ok v1 hv1 _ _ hv (hG.mono hle) hg _) (fun s F w a hp hX => ?_)
 subst hp
 refine hX.part [] 1 [2] (l' := [(2, .v (.int .i64 v1))]) (B' := []) (by kernel_rfl) fun ρ w a hX => ?_
 refine wpList_end ?_
 refine hK3 _ _ ?_
 refine wp_ret ?_
 have hr := Option.some.inj (show some _ = some _ from h0)
 subst hr
 exact hX.ret0 (ss := [.v (.int .i64 v1)]) (by kernel_rfl) (by kernel_rfl) rfl
def internal_strconv_formatBits_cn_c16_cfalse.l1 (v4 : Int) (s : Int × Int × (List UInt8)) : Option ((Int × Int × (List UInt8)) ⊕ ((Int × Int × (List UInt8)))) := match s with
  | (x9, x10, x11) =>
  if (decide (x9 ≥ 16)) = true then
    Option.bind (getB ([48, 49, 50, 51, 52, 53, 54, 55, 56, 57, 97, 98, 99, 100, 101, 102, 103, 104, 105, 106, 107, 108, 109, 110, 111, 112, 113, 114, 115, 116, 117, 118, 119, 120, 121, 122] : Str) (IntKind.wrap .u64 ((BitVec.ofInt 64 x9 &&& BitVec.ofInt 64 15).toNat))) fun v12 =>
    Option.bind (arrI 65 x11 (IntKind.wrap .i64 (x10 - 1))) fun v13 =>
    Option.bind (toB v12) fun b14 =>
    Option.bind (shrI .u64 x9 (IntKind.wrap .u64 v4)) fun v15 =>
    some (.inl (v15, (IntKind.wrap .i64 (x10 - 1)), (setI x11 (IntKind.wrap .i64 (x10 - 1)) b14)))
  else
    some (.inr (x9, x10, x11))
def internal_strconv_formatBits_cn_c16_cfalse.j3 (x48 : Int) (x49 : List UInt8) : Option ((List UInt8) × Str) :=
  Option.bind (cutA 65 x49 x48 ((x49.length : Nat) : Int)) fun v50 =>
  some (([] : List UInt8), v50)
def internal_strconv_formatBits_cn_c16_cfalse.j2 (neg : Bool) (x45 : Int) (x46 : List UInt8) : Option ((List UInt8) × Str) :=
  if neg = true then
    Option.bind (arrI 65 x46 (IntKind.wrap .i64 (x45 - 1))) fun v47 =>
    internal_strconv_formatBits_cn_c16_cfalse.j3 (IntKind.wrap .i64 (x45 - 1)) (setI x46 (IntKind.wrap .i64 (x45 - 1)) (45 : UInt8))
  else
    internal_strconv_formatBits_cn_c16_cfalse.j3 x45 x46
def internal_strconv_formatBits_cn_c16_cfalse.l2 (s : Int × Int × (List UInt8)) : Option ((Int × Int × (List UInt8)) ⊕ ((Int × Int × (List UInt8)))) := match s with
  | (x29, x30, x31) =>
  if (decide (x29 ≥ 16)) = true then
    Option.bind (quoI .u64 x29 16) fun v32 =>
    Option.bind (getB ([48, 49, 50, 51, 52, 53, 54, 55, 56, 57, 97, 98, 99, 100, 101, 102, 103, 104, 105, 106, 107, 108, 109, 110, 111, 112, 113, 114, 115, 116, 117, 118, 119, 120, 121, 122] : Str) (IntKind.wrap .u64 (x29 - (IntKind.wrap .u64 (v32 * 16))))) fun v33 =>
    Option.bind (arrI 65 x31 (IntKind.wrap .i64 (x30 - 1))) fun v34 =>
    Option.bind (toB v33) fun b35 =>
    some (.inl (v32, (IntKind.wrap .i64 (x30 - 1)), (setI x31 (IntKind.wrap .i64 (x30 - 1)) b35)))
  else
    some (.inr (x29, x30, x31))
def internal_strconv_formatBits_cn_c16_cfalse.j1 (neg : Bool) (x2 : Int) : Option ((List UInt8) × Str) :=
  Option.bind (internal_strconv_isPowerOfTwo_c16) fun v3 =>
  if v3 = true then
    Option.bind (math_bits_TrailingZeros_c16) fun v4 =>
    Option.bind (loopM (internal_strconv_formatBits_cn_c16_cfalse.l1 v4) (x2, 65, (List.replicate 65 (0 : UInt8)))) fun e => match e with
    | (x19, x20, x21) =>
      Option.bind (getB ([48, 49, 50, 51, 52, 53, 54, 55, 56, 57, 97, 98, 99, 100, 101, 102, 103, 104, 105, 106, 107, 108, 109, 110, 111, 112, 113, 114, 115, 116, 117, 118, 119, 120, 121, 122] : Str) x19) fun v22 =>
      Option.bind (arrI 65 x21 (IntKind.wrap .i64 (x20 - 1))) fun v23 =>
      Option.bind (toB v22) fun b24 =>
      internal_strconv_formatBits_cn_c16_cfalse.j2 neg (IntKind.wrap .i64 (x20 - 1)) (setI x21 (IntKind.wrap .i64 (x20 - 1)) b24)
  else
    Option.bind (loopM (internal_strconv_formatBits_cn_c16_cfalse.l2) (x2, 65, (List.replicate 65 (0 : UInt8)))) fun e => match e with
    | (x39, x40, x41) =>
      Option.bind (getB ([48, 49, 50, 51, 52, 53, 54, 55, 56, 57, 97, 98, 99, 100, 101, 102, 103, 104, 105, 106, 107, 108, 109, 110, 111, 112, 113, 114, 115, 116, 117, 118, 119, 120, 121, 122] : Str) x39) fun v42 =>
      Option.bind (arrI 65 x41 (IntKind.wrap .i64 (x40 - 1))) fun v43 =>
      Option.bind (toB v42) fun b44 =>
      internal_strconv_formatBits_cn_c16_cfalse.j2 neg (IntKind.wrap .i64 (x40 - 1)) (setI x41 (IntKind.wrap .i64 (x40 - 1)) b44)
def internal_strconv_formatBits_cn_c16_cfalse (u : Int) (neg : Bool) : Option ((List UInt8) × Str) :=
  if neg = true then
    internal_strconv_formatBits_cn_c16_cfalse.j1 neg (IntKind.wrap .u64 (0 - u))
  else
    internal_strconv_formatBits_cn_c16_cfalse.j1 neg u
theorem internal_strconv_formatBits_cn_c16_cfalse.ok (u : Int) (neg : Bool) (r : (List UInt8) × Str) (h0 : internal_strconv_formatBits_cn_c16_cfalse u neg = some r) (w0 : World) (F0 : Heap) (hv : F0.Sub w0) (hG : Glob F0) (hg : SV.goods F0 [.v (.slice none 0 0), .v (.int .u64 u), .v (.int .i64 16), .v (.bool neg), .v (.bool false)]) (ρ : Nat → Nat) :
    Calls Tryd.prog 85 (SV.dens ρ [.v (.slice none 0 0), .v (.int .u64 u), .v (.int .i64 16), .v (.bool neg), .v (.bool false)]).toArray w0 (Ret0 w0 F0 fun s => ∃ s1 s2, s = .tup [s1, s2] ∧ (∃ A c, s1 = SV.sl kByte r.1 A c) ∧ (s2 = .v (.string ⟨⟨r.2⟩⟩))) := by
 refine calls_of_wp Tryd.func85 rfl ?_
 have hX := Cx.enter (D := No) (B := []) (L := []) (ρ := ρ) (N := 102) Tryd.ntmps85 [.v (.slice none 0 0), .v (.int .u64 u), .v (.int .i64 16), .v (.bool neg), .v (.bool false)] (St.start hv) rfl hg (by kernel_rfl) (fun _ h => by cases h) (Nat.le_of_ble_eq_true rfl) No.unfix
 unfold internal_strconv_formatBits_cn_c16_cfalse at h0
 refine Cx.rseq hX [] [0, 1, 2, 3, 4, 10, 11] (l' := [(0, .v (.slice none 0 0)), (1, .v (.int .u64 u)), (2, .v (.int .i64 16)), (3, .v (.bool neg)), (4, .v (.bool false)), (10, .v (.slice none 0 0)), (11, .v (.string ⟨⟨([] : Str)⟩⟩))]) (B' := []) (by kernel_rfl) fun ρ w a hX => ?_
 refine wp_seq_k fun K2 hK2 => ?_
 refine Cx.rseq hX [2, 6] [0, 1, 2, 3, 4, 10, 11, 28] (l' := [(0, .v (.slice none 0 0)), (1, .v (.int .u64 u)), (2, .v (.int .i64 16)), (3, .v (.bool neg)), (4, .v (.bool false)), (10, .v (.slice none 0 0)), (11, .v (.string ⟨⟨([] : Str)⟩⟩)), (28, .v (.bool false))]) (B' := []) (by kernel_rfl) fun ρ w a hX => ?_
 refine Cx.cond hX (b := false) (by kernel_rfl) (fun h => by cases h) (fun _ => ?_)
 refine wp_skip ?_
 refine hK2 _ _ ?_
 refine wp_seq_k fun K4 hK4 => ?_
 refine wp_region_list ?_
 refine hX.part [] 1 [0, 1, 2, 3, 4, 10, 11, 12] (l' := [(0, .v (.slice none 0 0)), (1, .v (.int .u64 u)), (2, .v (.int .i64 16)), (3, .v (.bool neg)), (4, .v (.bool false)), (10, .v (.slice none 0 0)), (11, .v (.string ⟨⟨([] : Str)⟩⟩)), (12, .ptr 0 0)]) (B' := [some ⟨102, [.v (.int .u8 0), .v (.int .u8 0), .v (.int .u8 0), .v (.int .u8 0), .v (.int .u8 0), .v (.int .u8 0), .v (.int .u8 0), .v (.int .u8 0), .v (.int .u8 0), .v (.int .u8 0), .v (.int .u8 0), .v (.int .u8 0), .v (.int .u8 0), .v (.int .u8 0), .v (.int .u8 0), .v (.int .u8 0), .v (.int .u8 0), .v (.int .u8 0), .v (.int .u8 0), .v (.int .u8 0), .v (.int .u8 0), .v (.int .u8 0), .v (.int .u8 0), .v (.int .u8 0), .v (.int .u8 0), .v (.int .u8 0), .v (.int .u8 0), .v (.int .u8 0), .v (.int .u8 0), .v (.int .u8 0), .v (.int .u8 0), .v (.int .u8 0), .v (.int .u8 0), .v (.int .u8 0), .v (.int .u8 0), .v (.int .u8 0), .v (.int .u8 0), .v (.int .u8 0), .v (.int .u8 0), .v (.int .u8 0), .v (.int .u8 0), .v (.int .u8 0), .v (.int .u8 0), .v (.int .u8 0), .v (.int .u8 0), .v (.int .u8 0), .v (.int .u8 0), .v (.int .u8 0), .v (.int .u8 0), .v (.int .u8 0), .v (.int .u8 0), .v (.int .u8 0), .v (.int .u8 0), .v (.int .u8 0), .v (.int .u8 0), .v (.int .u8 0), .v (.int .u8 0), .v (.int .u8 0), .v (.int .u8 0), .v (.int .u8 0), .v (.int .u8 0), .v (.int .u8 0), .v (.int .u8 0), .v (.int .u8 0), .v (.int .u8 0)]⟩]) (by kernel_rfl) fun ρ w a hX => ?_
 obtain ⟨b1, hX⟩ := Cx.boxArr (d := kByte) (e := 102) (k := 0) (t := 12) (m := 65) (List.replicate 65 ((0 : UInt8), ())) hX rfl (by kernel_rfl) (by kernel_rfl) rfl (by decide) ⟨_, rfl⟩ rfl
 have hX : Cx 102 _ _ _ _ _ [accP 102 kByte (some ⟨b1, 0, none⟩) 65 (List.replicate 65 (0 : UInt8))] [none] ρ _ _ := hX
 refine wpList_end ?_
 refine hK4 _ _ ?_
 refine Cx.rseq hX [] [0, 1, 2, 3, 4, 10, 11, 12, 13] (l' := [(0, .v (.slice none 0 0)), (1, .v (.int .u64 u)), (2, .v (.int .i64 16)), (3, .v (.bool neg)), (4, .v (.bool false)), (10, .v (.slice none 0 0)), (11, .v (.string ⟨⟨([] : Str)⟩⟩)), (12, .v (.pointer (some ⟨b1, 0, none⟩))), (13, .v (.int .i64 65))]) (B' := [none]) (by kernel_rfl) fun ρ w a hX => ?_
 refine wp_seq_k fun K6 hK6 => ?_
 have J6 : ∀ (x2 : Int), internal_strconv_formatBits_cn_c16_cfalse.j1 neg x2 = some r → ∀ (ρ : Nat → Nat) (w : World) (F : Heap) (a : Act), Cx 102 w0 F0 No w F [accP 102 kByte (some ⟨b1, 0, none⟩) 65 (List.replicate 65 (0 : UInt8))] [] ρ [(0, .v (.slice none 0 0)), (1, .v (.int .u64 x2)), (2, .v (.int .i64 16)), (3, .v (.bool neg)), (4, .v (.bool false)), (10, .v (.slice none 0 0)), (11, .v (.string ⟨⟨([] : Str)⟩⟩)), (12, .v (.pointer (some ⟨b1, 0, none⟩))), (13, .v (.int .i64 65))] a → K6 a w := by
  intro x2 h0  ρ w F a hX
  unfold internal_strconv_formatBits_cn_c16_cfalse.j1 at h0
  refine hK6 _ _ ?_
  refine wp_seq_k fun K8 hK8 => ?_
  have J8 : ∀ (x45 : Int) (x46 : List UInt8), internal_strconv_formatBits_cn_c16_cfalse.j2 neg x45 x46 = some r → ∀ (ρ : Nat → Nat) (w : World) (F : Heap) (a : Act), Cx 102 w0 F0 No w F [accP 102 kByte (some ⟨b1, 0, none⟩) 65 x46] [] ρ [(0, .v (.slice none 0 0)), (3, .v (.bool neg)), (4, .v (.bool false)), (10, .v (.slice none 0 0)), (11, .v (.string ⟨⟨([] : Str)⟩⟩)), (12, .v (.pointer (some ⟨b1, 0, none⟩))), (13, .v (.int .i64 x45))] a → K8 a w := by
   intro x45 x46 h0  ρ w F a hX
   unfold internal_strconv_formatBits_cn_c16_cfalse.j2 at h0
   refine hK8 _ _ ?_
   refine wp_seq_k fun K36 hK36 => ?_
   have J36 : ∀ (x48 : Int) (x49 : List UInt8), internal_strconv_formatBits_cn_c16_cfalse.j3 x48 x49 = some r → ∀ (ρ : Nat → Nat) (w : World) (F : Heap) (a : Act), Cx 102 w0 F0 No w F [accP 102 kByte (some ⟨b1, 0, none⟩) 65 x49] [] ρ [(0, .v (.slice none 0 0)), (4, .v (.bool false)), (10, .v (.slice none 0 0)), (11, .v (.string ⟨⟨([] : Str)⟩⟩)), (12, .v (.pointer (some ⟨b1, 0, none⟩))), (13, .v (.int .i64 x48))] a → K36 a w := by
    intro x48 x49 h0  ρ w F a hX
    unfold internal_strconv_formatBits_cn_c16_cfalse.j3 at h0
    refine hK36 _ _ ?_
    refine wp_seq_k fun K39 hK39 => ?_
    refine Cx.rseq hX [] [0, 10, 11, 12, 13, 94] (l' := [(0, .v (.slice none 0 0)), (10, .v (.slice none 0 0)), (11, .v (.string ⟨⟨([] : Str)⟩⟩)), (12, .v (.pointer (some ⟨b1, 0, none⟩))), (13, .v (.int .i64 x48)), (94, .v (.bool false))]) (B' := []) (by kernel_rfl) fun ρ w a hX => ?_
    refine Cx.cond hX (b := false) (by kernel_rfl) (fun h => by cases h) (fun _ => ?_)
    refine wp_skip ?_
    refine hK39 _ _ ?_
    refine wp_seq_k fun K41 hK41 => ?_
    refine wp_region_list ?_
    refine hX.part [] 1 [10, 11, 12, 99] (l' := [(10, .v (.slice none 0 0)), (11, .v (.string ⟨⟨([] : Str)⟩⟩)), (12, .v (.pointer (some ⟨b1, 0, none⟩))), (99, .v (.int .i64 x48))]) (B' := []) (by kernel_rfl) fun ρ w a hX => ?_
    obtain ⟨v50, hv50, h0⟩ := bnd_some h0
    have hmv50 := (cutA_some hv50).1
    replace hv50 := (cutA_some hv50).2
    refine hX.cutArr (d := kByte) (e := 5) (e2 := 102) (i := 0) (b := b1) (m := 65) (xs := x49) (ol := some x48) (oh := none) (r := v50) (lit := []) (by kernel_rfl) (by kernel_rfl) rfl hmv50 rfl (by kernel_rfl) (by kernel_rfl) (by kernel_rfl) (by kernel_rfl) (by kernel_rfl) hv50 fun F A51 c52 a hX => ?_
    have hX : Cx 102 _ _ _ _ _ [] [] ρ _ _ := hX
    refine hX.strSl (lit := []) (by kernel_rfl) (by kernel_rfl) rfl (e := 5) (xs := v50) (A := A51) (c := c52) (by kernel_rfl) (by kernel_rfl) (by kernel_rfl) (by kernel_rfl) fun a hX => ?_
    refine hX.part [] 1 [10, 11] (l' := [(10, .v (.slice none 0 0)), (11, .v (.string ⟨⟨v50⟩⟩))]) (B' := []) (by kernel_rfl) fun ρ w a hX => ?_
    refine wpList_end ?_
    refine hK41 _ _ ?_
    refine wp_ret ?_
    have hX := hX.nilSl 10 kByte (by kernel_rfl)
    have hr := Option.some.inj (show some _ = some _ from h0)
    subst hr
    exact hX.ret0 (ss := [SV.sl kByte ([] : List UInt8) none 0, .v (.string ⟨⟨v50⟩⟩)]) (by kernel_rfl) (by kernel_rfl) ⟨_, _, rfl, ⟨_, _, rfl⟩, rfl⟩
   refine Cx.rseq hX [] [0, 4, 10, 11, 12, 13, 89] (l' := [(0, .v (.slice none 0 0)), (4, .v (.bool false)), (10, .v (.slice none 0 0)), (11, .v (.string ⟨⟨([] : Str)⟩⟩)), (12, .v (.pointer (some ⟨b1, 0, none⟩))), (13, .v (.int .i64 x45)), (89, .v (.bool neg))]) (B' := []) (by kernel_rfl) fun ρ w a hX => ?_
   refine Cx.cond hX (b := neg) (by kernel_rfl) (fun hb => ?_) (fun hb => ?_)
   ·have h0 := ite_tt h0 hb
    refine Cx.rseq hX [] [0, 4, 10, 11, 12, 13] (l' := [(0, .v (.slice none 0 0)), (4, .v (.bool false)), (10, .v (.slice none 0 0)), (11, .v (.string ⟨⟨([] : Str)⟩⟩)), (12, .v (.pointer (some ⟨b1, 0, none⟩))), (13, .v (.int .i64 (IntKind.wrap .i64 (x45 - 1))))]) (B' := []) (by kernel_rfl) fun ρ w a hX => ?_
    refine wp_region_list ?_
    refine hX.part [] 1 [0, 4, 10, 11, 12, 13, 92] (l' := [(0, .v (.slice none 0 0)), (4, .v (.bool false)), (10, .v (.slice none 0 0)), (11, .v (.string ⟨⟨([] : Str)⟩⟩)), (12, .v (.pointer (some ⟨b1, 0, none⟩))), (13, .v (.int .i64 (IntKind.wrap .i64 (x45 - 1)))), (92, .v (.int .i64 (IntKind.wrap .i64 (x45 - 1))))]) (B' := []) (by kernel_rfl) fun ρ w a hX => ?_
    obtain ⟨v47, hv47, h0⟩ := bnd_some h0
    have hmv47 := (arrI_some hv47).1
    replace hv47 := (arrI_some hv47).2
    refine hX.accAddrA (d := kByte) (e := 5) (b := b1) (xs := x46) (k := .i64) (n := (IntKind.wrap .i64 (x45 - 1))) (v := v47) (lit := []) (by kernel_rfl) (by kernel_rfl) rfl (by kernel_rfl) (by kernel_rfl) (by kernel_rfl) (by kernel_rfl) hv47 hmv47 fun a hX => ?_
    refine hX.accStore (d := kByte) (lit := []) (e := 102) (i := 0) (b := b1) (xs := x46) (c := 65) (n := (IntKind.wrap .i64 (x45 - 1))) (v := v47) (u := (45 : UInt8)) (y := ()) (s := .v (.int .u8 45)) (by kernel_rfl) rfl rfl rfl (by kernel_rfl) (by kernel_rfl) (by kernel_rfl) (by kernel_rfl) ⟨_, rfl⟩ hv47 fun w a hX => ?_
    have hX : Cx 102 _ _ _ _ _ [accP 102 kByte (some ⟨b1, 0, none⟩) 65 (setI x46 (IntKind.wrap .i64 (x45 - 1)) (45 : UInt8))] [] ρ _ _ := hX
    refine wpList_end ?_
    have hX := hX.keeps [0, 4, 10, 11, 12, 13] (l' := [(0, .v (.slice none 0 0)), (4, .v (.bool false)), (10, .v (.slice none 0 0)), (11, .v (.string ⟨⟨([] : Str)⟩⟩)), (12, .v (.pointer (some ⟨b1, 0, none⟩))), (13, .v (.int .i64 (IntKind.wrap .i64 (x45 - 1))))]) (by kernel_rfl)
    exact J36 (IntKind.wrap .i64 (x45 - 1)) (setI x46 (IntKind.wrap .i64 (x45 - 1)) (45 : UInt8)) h0  _ _ _ _ hX
   ·have h0 := ite_ff h0 hb
    refine wp_skip ?_
    have hX := hX.keeps [0, 4, 10, 11, 12, 13] (l' := [(0, .v (.slice none 0 0)), (4, .v (.bool false)), (10, .v (.slice none 0 0)), (11, .v (.string ⟨⟨([] : Str)⟩⟩)), (12, .v (.pointer (some ⟨b1, 0, none⟩))), (13, .v (.int .i64 x45))]) (by kernel_rfl)
    exact J36 x45 x46 h0  _ _ _ _ hX
  refine wp_seq_k fun K9 hK9 => ?_
  refine wp_region_list ?_
  refine hX.part [] 1 [0, 1, 2, 3, 4, 10, 11, 12, 13, 33] (l' := [(0, .v (.slice none 0 0)), (1, .v (.int .u64 x2)), (2, .v (.int .i64 16)), (3, .v (.bool neg)), (4, .v (.bool false)), (10, .v (.slice none 0 0)), (11, .v (.string ⟨⟨([] : Str)⟩⟩)), (12, .v (.pointer (some ⟨b1, 0, none⟩))), (13, .v (.int .i64 65)), (33, .v (.int .i64 16))]) (B' := []) (by kernel_rfl) fun ρ w a hX => ?_
  obtain ⟨v3, hv3, h0⟩ := bnd_some h0
  refine Cx.call0 hX (lit := []) (by kernel_rfl) rfl (by kernel_rfl) ⟨⟨_, Tryd.func89, by kernel_rfl, rfl⟩⟩ (ss := [.v (.int .i64 16)]) (by kernel_rfl) [.v (.int .i64 16)] rfl (fun hg => hg) (fun hv hle hg => internal_strconv_isPowerOfTwo_c16.ok v3 hv3 _ _ hv (hG.mono hle) hg _) (fun s F w a hp hX => ?_)
  subst hp
  refine wpList_end ?_
  refine hK9 _ _ ?_
  refine Cx.cond hX (b := v3) (by kernel_rfl) (fun hb => ?_) (fun hb => ?_)
  ·have h0 := ite_tt h0 hb
   refine wp_seq_k fun K10 hK10 => ?_
   refine wp_region_list ?_
   refine hX.part [] 2 [0, 1, 2, 3, 4, 10, 11, 12, 13, 36] (l' := [(0, .v (.slice none 0 0)), (1, .v (.int .u64 x2)), (2, .v (.int .i64 16)), (3, .v (.bool neg)), (4, .v (.bool false)), (10, .v (.slice none 0 0)), (11, .v (.string ⟨⟨([] : Str)⟩⟩)), (12, .v (.pointer (some ⟨b1, 0, none⟩))), (13, .v (.int .i64 65)), (36, .v (.int .u64 16))]) (B' := []) (by kernel_rfl) fun ρ w a hX => ?_
   obtain ⟨v4, hv4, h0⟩ := bnd_some h0
   refine Cx.call0 hX (lit := []) (by kernel_rfl) rfl (by kernel_rfl) ⟨⟨_, Tryd.func90, by kernel_rfl, rfl⟩⟩ (ss := [.v (.int .u64 16)]) (by kernel_rfl) [.v (.int .u64 16)] rfl (fun hg => hg) (fun hv hle hg => math_bits_TrailingZeros_c16.ok v4 hv4 _ _ hv (hG.mono hle) hg _) (fun s F w a hp hX => ?_)
   subst hp
   refine hX.part [] 2 [0, 1, 2, 3, 4, 10, 11, 12, 13, 14] (l' := [(0, .v (.slice none 0 0)), (1, .v (.int .u64 x2)), (2, .v (.int .i64 16)), (3, .v (.bool neg)), (4, .v (.bool false)), (10, .v (.slice none 0 0)), (11, .v (.string ⟨⟨([] : Str)⟩⟩)), (12, .v (.pointer (some ⟨b1, 0, none⟩))), (13, .v (.int .i64 65)), (14, .v (.int .u64 (IntKind.wrap .u64 v4)))]) (B' := []) (by kernel_rfl) fun ρ w a hX => ?_
   refine wpList_end ?_
   refine hK10 _ _ ?_
   refine Cx.rseq hX [] [0, 1, 2, 3, 4, 10, 11, 12, 13, 14, 15] (l' := [(0, .v (.slice none 0 0)), (1, .v (.int .u64 x2)), (2, .v (.int .i64 16)), (3, .v (.bool neg)), (4, .v (.bool false)), (10, .v (.slice none 0 0)), (11, .v (.string ⟨⟨([] : Str)⟩⟩)), (12, .v (.pointer (some ⟨b1, 0, none⟩))), (13, .v (.int .i64 65)), (14, .v (.int .u64 (IntKind.wrap .u64 v4))), (15, .v (.int .u64 16))]) (B' := []) (by kernel_rfl) fun ρ w a hX => ?_
   refine Cx.rseq hX [] [0, 1, 3, 4, 10, 11, 12, 13, 14, 15, 16] (l' := [(0, .v (.slice none 0 0)), (1, .v (.int .u64 x2)), (3, .v (.bool neg)), (4, .v (.bool false)), (10, .v (.slice none 0 0)), (11, .v (.string ⟨⟨([] : Str)⟩⟩)), (12, .v (.pointer (some ⟨b1, 0, none⟩))), (13, .v (.int .i64 65)), (14, .v (.int .u64 (IntKind.wrap .u64 v4))), (15, .v (.int .u64 16)), (16, .v (.int .u64 15))]) (B' := []) (by kernel_rfl) fun ρ w a hX => ?_
   refine wp_seq_k fun K13 hK13 => ?_
   refine wp_block ?_
   have hX := hX.keeps [0, 1, 3, 4, 10, 11, 12, 13, 14, 15, 16] (l' := [(0, .v (.slice none 0 0)), (1, .v (.int .u64 x2)), (3, .v (.bool neg)), (4, .v (.bool false)), (10, .v (.slice none 0 0)), (11, .v (.string ⟨⟨([] : Str)⟩⟩)), (12, .v (.pointer (some ⟨b1, 0, none⟩))), (13, .v (.int .i64 65)), (14, .v (.int .u64 (IntKind.wrap .u64 v4))), (15, .v (.int .u64 16)), (16, .v (.int .u64 15))]) (by kernel_rfl)
   obtain ⟨e1, he1, h0⟩ := bnd_some h0
   have E1x0 : ∀ (x19 : Int) (x20 : Int) (x21 : List UInt8), e1 = (x19, x20, x21) → ∀ (ρ : Nat → Nat) (w : World) (F : Heap) (a : Act), Cx 102 w0 F0 No w F [accP 102 kByte (some ⟨b1, 0, none⟩) 65 x21] [] ρ [(0, .v (.slice none 0 0)), (1, .v (.int .u64 x19)), (3, .v (.bool neg)), (4, .v (.bool false)), (10, .v (.slice none 0 0)), (11, .v (.string ⟨⟨([] : Str)⟩⟩)), (12, .v (.pointer (some ⟨b1, 0, none⟩))), (13, .v (.int .i64 x20))] a → K13 a w := by
    intro x19 x20 x21 he  ρ w F a hX
    replace he := he.symm
    subst he
    (try dsimp only at h0)
    refine hK13 _ _ ?_
    refine Cx.rseq hX [] [0, 1, 3, 4, 10, 11, 12, 13] (l' := [(0, .v (.slice none 0 0)), (1, .v (.int .u64 x19)), (3, .v (.bool neg)), (4, .v (.bool false)), (10, .v (.slice none 0 0)), (11, .v (.string ⟨⟨([] : Str)⟩⟩)), (12, .v (.pointer (some ⟨b1, 0, none⟩))), (13, .v (.int .i64 (IntKind.wrap .i64 (x20 - 1))))]) (B' := []) (by kernel_rfl) fun ρ w a hX => ?_
    refine wp_region_list ?_
    refine hX.part [] 2 [0, 3, 4, 10, 11, 12, 13, 60, 61] (l' := [(0, .v (.slice none 0 0)), (3, .v (.bool neg)), (4, .v (.bool false)), (10, .v (.slice none 0 0)), (11, .v (.string ⟨⟨([] : Str)⟩⟩)), (12, .v (.pointer (some ⟨b1, 0, none⟩))), (13, .v (.int .i64 (IntKind.wrap .i64 (x20 - 1)))), (60, .v (.int .i64 (IntKind.wrap .i64 (x20 - 1)))), (61, .v (.int .u64 x19))]) (B' := []) (by kernel_rfl) fun ρ w a hX => ?_
    obtain ⟨v22, hv22, h0⟩ := bnd_some h0
    refine hX.idxStr (lit := []) (by kernel_rfl) (by kernel_rfl) rfl (s := ([48, 49, 50, 51, 52, 53, 54, 55, 56, 57, 97, 98, 99, 100, 101, 102, 103, 104, 105, 106, 107, 108, 109, 110, 111, 112, 113, 114, 115, 116, 117, 118, 119, 120, 121, 122] : Str)) (k := .u64) (n := x19) (b := v22) (by kernel_rfl) (by kernel_rfl) (by kernel_rfl) hv22 fun a hX => ?_
    obtain ⟨v23, hv23, h0⟩ := bnd_some h0
    have hmv23 := (arrI_some hv23).1
    replace hv23 := (arrI_some hv23).2
    refine hX.accAddrA (d := kByte) (e := 5) (b := b1) (xs := x21) (k := .i64) (n := (IntKind.wrap .i64 (x20 - 1))) (v := v23) (lit := []) (by kernel_rfl) (by kernel_rfl) rfl (by kernel_rfl) (by kernel_rfl) (by kernel_rfl) (by kernel_rfl) hv23 hmv23 fun a hX => ?_
    obtain ⟨b24, hb24, h0⟩ := bnd_some h0
    have hX := hX.retell (t := 62) (s := .v (.int .u8 v22)) (s' := .v (.int .u8 ((b24.toNat : Nat) : Int))) (by kernel_rfl) (by simp only [SV.den, toB_some hb24]) trivial rfl
    refine hX.accStore (d := kByte) (lit := []) (e := 102) (i := 0) (b := b1) (xs := x21) (c := 65) (n := (IntKind.wrap .i64 (x20 - 1))) (v := v23) (u := b24) (y := ()) (s := .v (.int .u8 ((b24.toNat : Nat) : Int))) (by kernel_rfl) rfl rfl rfl (by kernel_rfl) (by kernel_rfl) (by kernel_rfl) (by kernel_rfl) ⟨_, rfl⟩ hv23 fun w a hX => ?_
    have hX : Cx 102 _ _ _ _ _ [accP 102 kByte (some ⟨b1, 0, none⟩) 65 (setI x21 (IntKind.wrap .i64 (x20 - 1)) b24)] [] ρ _ _ := hX
    refine wpList_end ?_
    have hX := hX.keeps [0, 3, 4, 10, 11, 12, 13] (l' := [(0, .v (.slice none 0 0)), (3, .v (.bool neg)), (4, .v (.bool false)), (10, .v (.slice none 0 0)), (11, .v (.string ⟨⟨([] : Str)⟩⟩)), (12, .v (.pointer (some ⟨b1, 0, none⟩))), (13, .v (.int .i64 (IntKind.wrap .i64 (x20 - 1))))]) (by kernel_rfl)
    exact J8 (IntKind.wrap .i64 (x20 - 1)) (setI x21 (IntKind.wrap .i64 (x20 - 1)) b24) h0  _ _ _ _ hX
   refine loop_go (fun (s : Int × Int × (List UInt8)) a w => match s with | (x9, x10, x11) => ∃ (ρ : Nat → Nat) (F : Heap), Cx 102 w0 F0 No w F [accP 102 kByte (some ⟨b1, 0, none⟩) 65 x11] [] ρ [(0, .v (.slice none 0 0)), (1, .v (.int .u64 x9)), (3, .v (.bool neg)), (4, .v (.bool false)), (10, .v (.slice none 0 0)), (11, .v (.string ⟨⟨([] : Str)⟩⟩)), (12, .v (.pointer (some ⟨b1, 0, none⟩))), (13, .v (.int .i64 x10)), (14, .v (.int .u64 (IntKind.wrap .u64 v4))), (15, .v (.int .u64 16)), (16, .v (.int .u64 15))] a) he1 (fun LW1 s o1 h1 hb1 hx1 a w hI => ?_) _ _ ?_
   ·obtain ⟨x9, x10, x11⟩ := s
    obtain ⟨ρ, F, hX⟩ := hI
    unfold internal_strconv_formatBits_cn_c16_cfalse.l1 at h1
    (try dsimp only at h1)
    refine wp_seq_k fun K18 hK18 => ?_
    refine Cx.rseq hX [] [0, 1, 3, 4, 10, 11, 12, 13, 14, 15, 16, 46] (l' := [(0, .v (.slice none 0 0)), (1, .v (.int .u64 x9)), (3, .v (.bool neg)), (4, .v (.bool false)), (10, .v (.slice none 0 0)), (11, .v (.string ⟨⟨([] : Str)⟩⟩)), (12, .v (.pointer (some ⟨b1, 0, none⟩))), (13, .v (.int .i64 x10)), (14, .v (.int .u64 (IntKind.wrap .u64 v4))), (15, .v (.int .u64 16)), (16, .v (.int .u64 15)), (46, .v (.bool (decide (x9 ≥ 16))))]) (B' := []) (by kernel_rfl) fun ρ w a hX => ?_
    refine Cx.cond hX (b := (decide (x9 ≥ 16))) (by kernel_rfl) (fun hb => ?_) (fun hb => ?_)
    ·have h1 := ite_tt h1 hb
     refine wp_skip ?_
     refine hK18 _ _ ?_
     refine wp_block ?_
     refine Cx.rseq hX [] [0, 1, 3, 4, 10, 11, 12, 13, 14, 15, 16] (l' := [(0, .v (.slice none 0 0)), (1, .v (.int .u64 x9)), (3, .v (.bool neg)), (4, .v (.bool false)), (10, .v (.slice none 0 0)), (11, .v (.string ⟨⟨([] : Str)⟩⟩)), (12, .v (.pointer (some ⟨b1, 0, none⟩))), (13, .v (.int .i64 (IntKind.wrap .i64 (x10 - 1)))), (14, .v (.int .u64 (IntKind.wrap .u64 v4))), (15, .v (.int .u64 16)), (16, .v (.int .u64 15))]) (B' := []) (by kernel_rfl) fun ρ w a hX => ?_
     refine wp_seq_k fun K21 hK21 => ?_
     refine wp_region_list ?_
     refine hX.part [] 4 [0, 1, 3, 4, 10, 11, 12, 13, 14, 15, 16, 49, 52] (l' := [(0, .v (.slice none 0 0)), (1, .v (.int .u64 x9)), (3, .v (.bool neg)), (4, .v (.bool false)), (10, .v (.slice none 0 0)), (11, .v (.string ⟨⟨([] : Str)⟩⟩)), (12, .v (.pointer (some ⟨b1, 0, none⟩))), (13, .v (.int .i64 (IntKind.wrap .i64 (x10 - 1)))), (14, .v (.int .u64 (IntKind.wrap .u64 v4))), (15, .v (.int .u64 16)), (16, .v (.int .u64 15)), (49, .v (.int .i64 (IntKind.wrap .i64 (x10 - 1)))), (52, .v (.int .u64 (IntKind.wrap .u64 ((BitVec.ofInt 64 x9 &&& BitVec.ofInt 64 15).toNat))))]) (B' := []) (by kernel_rfl) fun ρ w a hX => ?_
     obtain ⟨v12, hv12, h1⟩ := bnd_some h1
     refine hX.idxStr (lit := []) (by kernel_rfl) (by kernel_rfl) rfl (s := ([48, 49, 50, 51, 52, 53, 54, 55, 56, 57, 97, 98, 99, 100, 101, 102, 103, 104, 105, 106, 107, 108, 109, 110, 111, 112, 113, 114, 115, 116, 117, 118, 119, 120, 121, 122] : Str)) (k := .u64) (n := (IntKind.wrap .u64 ((BitVec.ofInt 64 x9 &&& BitVec.ofInt 64 15).toNat))) (b := v12) (by kernel_rfl) (by kernel_rfl) (by kernel_rfl) hv12 fun a hX => ?_
     obtain ⟨v13, hv13, h1⟩ := bnd_some h1
     have hmv13 := (arrI_some hv13).1
     replace hv13 := (arrI_some hv13).2
     refine hX.accAddrA (d := kByte) (e := 5) (b := b1) (xs := x11) (k := .i64) (n := (IntKind.wrap .i64 (x10 - 1))) (v := v13) (lit := []) (by kernel_rfl) (by kernel_rfl) rfl (by kernel_rfl) (by kernel_rfl) (by kernel_rfl) (by kernel_rfl) hv13 hmv13 fun a hX => ?_
     obtain ⟨b14, hb14, h1⟩ := bnd_some h1
     have hX := hX.retell (t := 53) (s := .v (.int .u8 v12)) (s' := .v (.int .u8 ((b14.toNat : Nat) : Int))) (by kernel_rfl) (by simp only [SV.den, toB_some hb14]) trivial rfl
     refine hX.accStore (d := kByte) (lit := []) (e := 102) (i := 0) (b := b1) (xs := x11) (c := 65) (n := (IntKind.wrap .i64 (x10 - 1))) (v := v13) (u := b14) (y := ()) (s := .v (.int .u8 ((b14.toNat : Nat) : Int))) (by kernel_rfl) rfl rfl rfl (by kernel_rfl) (by kernel_rfl) (by kernel_rfl) (by kernel_rfl) ⟨_, rfl⟩ hv13 fun w a hX => ?_
     have hX : Cx 102 _ _ _ _ _ [accP 102 kByte (some ⟨b1, 0, none⟩) 65 (setI x11 (IntKind.wrap .i64 (x10 - 1)) b14)] [] ρ _ _ := hX
     refine wpList_end ?_
     refine hK21 _ _ ?_
     refine wp_region_list ?_
     refine hX.part [] 2 [0, 1, 3, 4, 10, 11, 12, 13, 14, 15, 16, 55, 56] (l' := [(0, .v (.slice none 0 0)), (1, .v (.int .u64 x9)), (3, .v (.bool neg)), (4, .v (.bool false)), (10, .v (.slice none 0 0)), (11, .v (.string ⟨⟨([] : Str)⟩⟩)), (12, .v (.pointer (some ⟨b1, 0, none⟩))), (13, .v (.int .i64 (IntKind.wrap .i64 (x10 - 1)))), (14, .v (.int .u64 (IntKind.wrap .u64 v4))), (15, .v (.int .u64 16)), (16, .v (.int .u64 15)), (55, .v (.int .u64 x9)), (56, .v (.int .u64 (IntKind.wrap .u64 v4)))]) (B' := []) (by kernel_rfl) fun ρ w a hX => ?_
     obtain ⟨v15, hv15, h1⟩ := bnd_some h1
     refine hX.arith (lit := []) (by kernel_rfl) (by kernel_rfl) rfl (k := .u64) (k' := .u64) (m := x9) (n := (IntKind.wrap .u64 v4)) (r := v15) (by kernel_rfl) (by kernel_rfl) (by decide) hv15 fun a hX => ?_
     refine hX.part [] 1 [0, 1, 3, 4, 10, 11, 12, 13, 14, 15, 16] (l' := [(0, .v (.slice none 0 0)), (1, .v (.int .u64 v15)), (3, .v (.bool neg)), (4, .v (.bool false)), (10, .v (.slice none 0 0)), (11, .v (.string ⟨⟨([] : Str)⟩⟩)), (12, .v (.pointer (some ⟨b1, 0, none⟩))), (13, .v (.int .i64 (IntKind.wrap .i64 (x10 - 1)))), (14, .v (.int .u64 (IntKind.wrap .u64 v4))), (15, .v (.int .u64 16)), (16, .v (.int .u64 15))]) (B' := []) (by kernel_rfl) fun ρ w a hX => ?_
     refine wpList_end ?_
     have hX := hX.keeps [0, 1, 3, 4, 10, 11, 12, 13, 14, 15, 16] (l' := [(0, .v (.slice none 0 0)), (1, .v (.int .u64 v15)), (3, .v (.bool neg)), (4, .v (.bool false)), (10, .v (.slice none 0 0)), (11, .v (.string ⟨⟨([] : Str)⟩⟩)), (12, .v (.pointer (some ⟨b1, 0, none⟩))), (13, .v (.int .i64 (IntKind.wrap .i64 (x10 - 1)))), (14, .v (.int .u64 (IntKind.wrap .u64 v4))), (15, .v (.int .u64 16)), (16, .v (.int .u64 15))]) (by kernel_rfl)
     exact hb1 (v15, (IntKind.wrap .i64 (x10 - 1)), (setI x11 (IntKind.wrap .i64 (x10 - 1)) b14)) (out_eq h1) _ _ ⟨_, _, hX⟩
    ·have h1 := ite_ff h1 hb
     refine wp_exit ?_
     have hX := hX.keeps [0, 1, 3, 4, 10, 11, 12, 13] (l' := [(0, .v (.slice none 0 0)), (1, .v (.int .u64 x9)), (3, .v (.bool neg)), (4, .v (.bool false)), (10, .v (.slice none 0 0)), (11, .v (.string ⟨⟨([] : Str)⟩⟩)), (12, .v (.pointer (some ⟨b1, 0, none⟩))), (13, .v (.int .i64 x10))]) (by kernel_rfl)
     exact E1x0 x9 x10 x11 (hx1 _ (out_eq h1)).symm  _ _ _ _ hX
   ·exact ⟨_, _, hX⟩
  ·have h0 := ite_ff h0 hb
   refine Cx.rseq hX [] [0, 1, 3, 4, 10, 11, 12, 13, 17] (l' := [(0, .v (.slice none 0 0)), (1, .v (.int .u64 x2)), (3, .v (.bool neg)), (4, .v (.bool false)), (10, .v (.slice none 0 0)), (11, .v (.string ⟨⟨([] : Str)⟩⟩)), (12, .v (.pointer (some ⟨b1, 0, none⟩))), (13, .v (.int .i64 65)), (17, .v (.int .u64 16))]) (B' := []) (by kernel_rfl) fun ρ w a hX => ?_
   refine wp_seq_k fun K24 hK24 => ?_
   refine wp_block ?_
   have hX := hX.keeps [0, 1, 3, 4, 10, 11, 12, 13, 17] (l' := [(0, .v (.slice none 0 0)), (1, .v (.int .u64 x2)), (3, .v (.bool neg)), (4, .v (.bool false)), (10, .v (.slice none 0 0)), (11, .v (.string ⟨⟨([] : Str)⟩⟩)), (12, .v (.pointer (some ⟨b1, 0, none⟩))), (13, .v (.int .i64 65)), (17, .v (.int .u64 16))]) (by kernel_rfl)
   obtain ⟨e1, he1, h0⟩ := bnd_some h0
   have E1x0 : ∀ (x39 : Int) (x40 : Int) (x41 : List UInt8), e1 = (x39, x40, x41) → ∀ (ρ : Nat → Nat) (w : World) (F : Heap) (a : Act), Cx 102 w0 F0 No w F [accP 102 kByte (some ⟨b1, 0, none⟩) 65 x41] [] ρ [(0, .v (.slice none 0 0)), (1, .v (.int .u64 x39)), (3, .v (.bool neg)), (4, .v (.bool false)), (10, .v (.slice none 0 0)), (11, .v (.string ⟨⟨([] : Str)⟩⟩)), (12, .v (.pointer (some ⟨b1, 0, none⟩))), (13, .v (.int .i64 x40))] a → K24 a w := by
    intro x39 x40 x41 he  ρ w F a hX
    replace he := he.symm
    subst he
    (try dsimp only at h0)
    refine hK24 _ _ ?_
    refine Cx.rseq hX [] [0, 1, 3, 4, 10, 11, 12, 13] (l' := [(0, .v (.slice none 0 0)), (1, .v (.int .u64 x39)), (3, .v (.bool neg)), (4, .v (.bool false)), (10, .v (.slice none 0 0)), (11, .v (.string ⟨⟨([] : Str)⟩⟩)), (12, .v (.pointer (some ⟨b1, 0, none⟩))), (13, .v (.int .i64 (IntKind.wrap .i64 (x40 - 1))))]) (B' := []) (by kernel_rfl) fun ρ w a hX => ?_
    refine wp_region_list ?_
    refine hX.part [] 2 [0, 3, 4, 10, 11, 12, 13, 85, 86] (l' := [(0, .v (.slice none 0 0)), (3, .v (.bool neg)), (4, .v (.bool false)), (10, .v (.slice none 0 0)), (11, .v (.string ⟨⟨([] : Str)⟩⟩)), (12, .v (.pointer (some ⟨b1, 0, none⟩))), (13, .v (.int .i64 (IntKind.wrap .i64 (x40 - 1)))), (85, .v (.int .i64 (IntKind.wrap .i64 (x40 - 1)))), (86, .v (.int .u64 x39))]) (B' := []) (by kernel_rfl) fun ρ w a hX => ?_
    obtain ⟨v42, hv42, h0⟩ := bnd_some h0
    refine hX.idxStr (lit := []) (by kernel_rfl) (by kernel_rfl) rfl (s := ([48, 49, 50, 51, 52, 53, 54, 55, 56, 57, 97, 98, 99, 100, 101, 102, 103, 104, 105, 106, 107, 108, 109, 110, 111, 112, 113, 114, 115, 116, 117, 118, 119, 120, 121, 122] : Str)) (k := .u64) (n := x39) (b := v42) (by kernel_rfl) (by kernel_rfl) (by kernel_rfl) hv42 fun a hX => ?_
    obtain ⟨v43, hv43, h0⟩ := bnd_some h0
    have hmv43 := (arrI_some hv43).1
    replace hv43 := (arrI_some hv43).2
    refine hX.accAddrA (d := kByte) (e := 5) (b := b1) (xs := x41) (k := .i64) (n := (IntKind.wrap .i64 (x40 - 1))) (v := v43) (lit := []) (by kernel_rfl) (by kernel_rfl) rfl (by kernel_rfl) (by kernel_rfl) (by kernel_rfl) (by kernel_rfl) hv43 hmv43 fun a hX => ?_
    obtain ⟨b44, hb44, h0⟩ := bnd_some h0
    have hX := hX.retell (t := 87) (s := .v (.int .u8 v42)) (s' := .v (.int .u8 ((b44.toNat : Nat) : Int))) (by kernel_rfl) (by simp only [SV.den, toB_some hb44]) trivial rfl
    refine hX.accStore (d := kByte) (lit := []) (e := 102) (i := 0) (b := b1) (xs := x41) (c := 65) (n := (IntKind.wrap .i64 (x40 - 1))) (v := v43) (u := b44) (y := ()) (s := .v (.int .u8 ((b44.toNat : Nat) : Int))) (by kernel_rfl) rfl rfl rfl (by kernel_rfl) (by kernel_rfl) (by kernel_rfl) (by kernel_rfl) ⟨_, rfl⟩ hv43 fun w a hX => ?_
    have hX : Cx 102 _ _ _ _ _ [accP 102 kByte (some ⟨b1, 0, none⟩) 65 (setI x41 (IntKind.wrap .i64 (x40 - 1)) b44)] [] ρ _ _ := hX
    refine wpList_end ?_
    have hX := hX.keeps [0, 3, 4, 10, 11, 12, 13] (l' := [(0, .v (.slice none 0 0)), (3, .v (.bool neg)), (4, .v (.bool false)), (10, .v (.slice none 0 0)), (11, .v (.string ⟨⟨([] : Str)⟩⟩)), (12, .v (.pointer (some ⟨b1, 0, none⟩))), (13, .v (.int .i64 (IntKind.wrap .i64 (x40 - 1))))]) (by kernel_rfl)
    exact J8 (IntKind.wrap .i64 (x40 - 1)) (setI x41 (IntKind.wrap .i64 (x40 - 1)) b44) h0  _ _ _ _ hX
   refine loop_go (fun (s : Int × Int × (List UInt8)) a w => match s with | (x29, x30, x31) => ∃ (ρ : Nat → Nat) (F : Heap), Cx 102 w0 F0 No w F [accP 102 kByte (some ⟨b1, 0, none⟩) 65 x31] [] ρ [(0, .v (.slice none 0 0)), (1, .v (.int .u64 x29)), (3, .v (.bool neg)), (4, .v (.bool false)), (10, .v (.slice none 0 0)), (11, .v (.string ⟨⟨([] : Str)⟩⟩)), (12, .v (.pointer (some ⟨b1, 0, none⟩))), (13, .v (.int .i64 x30)), (17, .v (.int .u64 16))] a) he1 (fun LW1 s o1 h1 hb1 hx1 a w hI => ?_) _ _ ?_
   ·obtain ⟨x29, x30, x31⟩ := s
    obtain ⟨ρ, F, hX⟩ := hI
    unfold internal_strconv_formatBits_cn_c16_cfalse.l2 at h1
    (try dsimp only at h1)
    refine wp_seq_k fun K30 hK30 => ?_
    refine Cx.rseq hX [] [0, 1, 3, 4, 10, 11, 12, 13, 17, 68] (l' := [(0, .v (.slice none 0 0)), (1, .v (.int .u64 x29)), (3, .v (.bool neg)), (4, .v (.bool false)), (10, .v (.slice none 0 0)), (11, .v (.string ⟨⟨([] : Str)⟩⟩)), (12, .v (.pointer (some ⟨b1, 0, none⟩))), (13, .v (.int .i64 x30)), (17, .v (.int .u64 16)), (68, .v (.bool (decide (x29 ≥ 16))))]) (B' := []) (by kernel_rfl) fun ρ w a hX => ?_
    refine Cx.cond hX (b := (decide (x29 ≥ 16))) (by kernel_rfl) (fun hb => ?_) (fun hb => ?_)
    ·have h1 := ite_tt h1 hb
     refine wp_skip ?_
     refine hK30 _ _ ?_
     refine wp_block ?_
     refine Cx.rseq hX [] [0, 1, 3, 4, 10, 11, 12, 13, 17] (l' := [(0, .v (.slice none 0 0)), (1, .v (.int .u64 x29)), (3, .v (.bool neg)), (4, .v (.bool false)), (10, .v (.slice none 0 0)), (11, .v (.string ⟨⟨([] : Str)⟩⟩)), (12, .v (.pointer (some ⟨b1, 0, none⟩))), (13, .v (.int .i64 (IntKind.wrap .i64 (x30 - 1)))), (17, .v (.int .u64 16))]) (B' := []) (by kernel_rfl) fun ρ w a hX => ?_
     refine wp_seq_k fun K33 hK33 => ?_
     refine wp_region_list ?_
     refine hX.part [] 2 [0, 1, 3, 4, 10, 11, 12, 13, 17, 71, 72] (l' := [(0, .v (.slice none 0 0)), (1, .v (.int .u64 x29)), (3, .v (.bool neg)), (4, .v (.bool false)), (10, .v (.slice none 0 0)), (11, .v (.string ⟨⟨([] : Str)⟩⟩)), (12, .v (.pointer (some ⟨b1, 0, none⟩))), (13, .v (.int .i64 (IntKind.wrap .i64 (x30 - 1)))), (17, .v (.int .u64 16)), (71, .v (.int .u64 x29)), (72, .v (.int .u64 16))]) (B' := []) (by kernel_rfl) fun ρ w a hX => ?_
     obtain ⟨v32, hv32, h1⟩ := bnd_some h1
     refine hX.arith (lit := []) (by kernel_rfl) (by kernel_rfl) rfl (k := .u64) (k' := .u64) (m := x29) (n := 16) (r := v32) (by kernel_rfl) (by kernel_rfl) (by decide) hv32 fun a hX => ?_
     refine hX.part [] 1 [0, 1, 3, 4, 10, 11, 12, 13, 17, 18] (l' := [(0, .v (.slice none 0 0)), (1, .v (.int .u64 x29)), (3, .v (.bool neg)), (4, .v (.bool false)), (10, .v (.slice none 0 0)), (11, .v (.string ⟨⟨([] : Str)⟩⟩)), (12, .v (.pointer (some ⟨b1, 0, none⟩))), (13, .v (.int .i64 (IntKind.wrap .i64 (x30 - 1)))), (17, .v (.int .u64 16)), (18, .v (.int .u64 v32))]) (B' := []) (by kernel_rfl) fun ρ w a hX => ?_
     refine wpList_end ?_
     refine hK33 _ _ ?_
     refine wp_seq_k fun K34 hK34 => ?_
     refine wp_region_list ?_
     refine hX.part [] 6 [0, 3, 4, 10, 11, 12, 13, 17, 18, 74, 79] (l' := [(0, .v (.slice none 0 0)), (3, .v (.bool neg)), (4, .v (.bool false)), (10, .v (.slice none 0 0)), (11, .v (.string ⟨⟨([] : Str)⟩⟩)), (12, .v (.pointer (some ⟨b1, 0, none⟩))), (13, .v (.int .i64 (IntKind.wrap .i64 (x30 - 1)))), (17, .v (.int .u64 16)), (18, .v (.int .u64 v32)), (74, .v (.int .i64 (IntKind.wrap .i64 (x30 - 1)))), (79, .v (.int .u64 (IntKind.wrap .u64 (x29 - (IntKind.wrap .u64 (v32 * 16))))))]) (B' := []) (by kernel_rfl) fun ρ w a hX => ?_
     obtain ⟨v33, hv33, h1⟩ := bnd_some h1
     refine hX.idxStr (lit := []) (by kernel_rfl) (by kernel_rfl) rfl (s := ([48, 49, 50, 51, 52, 53, 54, 55, 56, 57, 97, 98, 99, 100, 101, 102, 103, 104, 105, 106, 107, 108, 109, 110, 111, 112, 113, 114, 115, 116, 117, 118, 119, 120, 121, 122] : Str)) (k := .u64) (n := (IntKind.wrap .u64 (x29 - (IntKind.wrap .u64 (v32 * 16))))) (b := v33) (by kernel_rfl) (by kernel_rfl) (by kernel_rfl) hv33 fun a hX => ?_
     obtain ⟨v34, hv34, h1⟩ := bnd_some h1
     have hmv34 := (arrI_some hv34).1
     replace hv34 := (arrI_some hv34).2
     refine hX.accAddrA (d := kByte) (e := 5) (b := b1) (xs := x31) (k := .i64) (n := (IntKind.wrap .i64 (x30 - 1))) (v := v34) (lit := []) (by kernel_rfl) (by kernel_rfl) rfl (by kernel_rfl) (by kernel_rfl) (by kernel_rfl) (by kernel_rfl) hv34 hmv34 fun a hX => ?_
     obtain ⟨b35, hb35, h1⟩ := bnd_some h1
     have hX := hX.retell (t := 80) (s := .v (.int .u8 v33)) (s' := .v (.int .u8 ((b35.toNat : Nat) : Int))) (by kernel_rfl) (by simp only [SV.den, toB_some hb35]) trivial rfl
     refine hX.accStore (d := kByte) (lit := []) (e := 102) (i := 0) (b := b1) (xs := x31) (c := 65) (n := (IntKind.wrap .i64 (x30 - 1))) (v := v34) (u := b35) (y := ()) (s := .v (.int .u8 ((b35.toNat : Nat) : Int))) (by kernel_rfl) rfl rfl rfl (by kernel_rfl) (by kernel_rfl) (by kernel_rfl) (by kernel_rfl) ⟨_, rfl⟩ hv34 fun w a hX => ?_
     have hX : Cx 102 _ _ _ _ _ [accP 102 kByte (some ⟨b1, 0, none⟩) 65 (setI x31 (IntKind.wrap .i64 (x30 - 1)) b35)] [] ρ _ _ := hX
     refine wpList_end ?_
     refine hK34 _ _ ?_
     refine Cx.region hX [] [0, 1, 3, 4, 10, 11, 12, 13, 17] (l' := [(0, .v (.slice none 0 0)), (1, .v (.int .u64 v32)), (3, .v (.bool neg)), (4, .v (.bool false)), (10, .v (.slice none 0 0)), (11, .v (.string ⟨⟨([] : Str)⟩⟩)), (12, .v (.pointer (some ⟨b1, 0, none⟩))), (13, .v (.int .i64 (IntKind.wrap .i64 (x30 - 1)))), (17, .v (.int .u64 16))]) (B' := []) (by kernel_rfl) fun ρ w a hX => ?_
     have hX := hX.keeps [0, 1, 3, 4, 10, 11, 12, 13, 17] (l' := [(0, .v (.slice none 0 0)), (1, .v (.int .u64 v32)), (3, .v (.bool neg)), (4, .v (.bool false)), (10, .v (.slice none 0 0)), (11, .v (.string ⟨⟨([] : Str)⟩⟩)), (12, .v (.pointer (some ⟨b1, 0, none⟩))), (13, .v (.int .i64 (IntKind.wrap .i64 (x30 - 1)))), (17, .v (.int .u64 16))]) (by kernel_rfl)
     exact hb1 (v32, (IntKind.wrap .i64 (x30 - 1)), (setI x31 (IntKind.wrap .i64 (x30 - 1)) b35)) (out_eq h1) _ _ ⟨_, _, hX⟩
    ·have h1 := ite_ff h1 hb
     refine wp_exit ?_
     have hX := hX.keeps [0, 1, 3, 4, 10, 11, 12, 13] (l' := [(0, .v (.slice none 0 0)), (1, .v (.int .u64 x29)), (3, .v (.bool neg)), (4, .v (.bool false)), (10, .v (.slice none 0 0)), (11, .v (.string ⟨⟨([] : Str)⟩⟩)), (12, .v (.pointer (some ⟨b1, 0, none⟩))), (13, .v (.int .i64 x30))]) (by kernel_rfl)
     exact E1x0 x29 x30 x31 (hx1 _ (out_eq h1)).symm  _ _ _ _ hX
   ·exact ⟨_, _, hX⟩
 refine Cx.rseq hX [] [0, 1, 2, 3, 4, 10, 11, 12, 13, 30] (l' := [(0, .v (.slice none 0 0)), (1, .v (.int .u64 u)), (2, .v (.int .i64 16)), (3, .v (.bool neg)), (4, .v (.bool false)), (10, .v (.slice none 0 0)), (11, .v (.string ⟨⟨([] : Str)⟩⟩)), (12, .v (.pointer (some ⟨b1, 0, none⟩))), (13, .v (.int .i64 65)), (30, .v (.bool neg))]) (B' := [none]) (by kernel_rfl) fun ρ w a hX => ?_
 refine Cx.cond hX (b := neg) (by kernel_rfl) (fun hb => ?_) (fun hb => ?_)
 ·have h0 := ite_tt h0 hb
  refine Cx.region hX [] [0, 1, 2, 3, 4, 10, 11, 12, 13] (l' := [(0, .v (.slice none 0 0)), (1, .v (.int .u64 (IntKind.wrap .u64 (0 - u)))), (2, .v (.int .i64 16)), (3, .v (.bool neg)), (4, .v (.bool false)), (10, .v (.slice none 0 0)), (11, .v (.string ⟨⟨([] : Str)⟩⟩)), (12, .v (.pointer (some ⟨b1, 0, none⟩))), (13, .v (.int .i64 65))]) (B' := [none]) (by kernel_rfl) fun ρ w a hX => ?_
  have hX := hX.keeps [0, 1, 2, 3, 4, 10, 11, 12, 13] (l' := [(0, .v (.slice none 0 0)), (1, .v (.int .u64 (IntKind.wrap .u64 (0 - u)))), (2, .v (.int .i64 16)), (3, .v (.bool neg)), (4, .v (.bool false)), (10, .v (.slice none 0 0)), (11, .v (.string ⟨⟨([] : Str)⟩⟩)), (12, .v (.pointer (some ⟨b1, 0, none⟩))), (13, .v (.int .i64 65))]) (by kernel_rfl)
  have hX := hX.shrink 0 (B' := []) (by kernel_rfl) (Nat.le_of_ble_eq_true rfl) (by kernel_rfl) (by kernel_rfl) (Nat.zero_le _)
  exact J6 (IntKind.wrap .u64 (0 - u)) h0  _ _ _ _ hX
 ·have h0 := ite_ff h0 hb
  refine wp_skip ?_
  have hX := hX.keeps [0, 1, 2, 3, 4, 10, 11, 12, 13] (l' := [(0, .v (.slice none 0 0)), (1, .v (.int .u64 u)), (2, .v (.int .i64 16)), (3, .v (.bool neg)), (4, .v (.bool false)), (10, .v (.slice none 0 0)), (11, .v (.string ⟨⟨([] : Str)⟩⟩)), (12, .v (.pointer (some ⟨b1, 0, none⟩))), (13, .v (.int .i64 65))]) (by kernel_rfl)
  have hX := hX.shrink 0 (B' := []) (by kernel_rfl) (Nat.le_of_ble_eq_true rfl) (by kernel_rfl) (by kernel_rfl) (Nat.zero_le _)
  exact J6 u h0  _ _ _ _ hX
def internal_strconv_FormatInt_c16 (i : Int) : Option (Str) :=
  Option.bind (internal_strconv_formatBits_cn_c16_cfalse (IntKind.wrap .u64 i) (decide (i < 0))) fun v1 =>
  some v1.2
theorem internal_strconv_FormatInt_c16.ok (i : Int) (r : Str) (h0 : internal_strconv_FormatInt_c16 i = some r) (w0 : World) (F0 : Heap) (hv : F0.Sub w0) (hG : Glob F0) (hg : SV.goods F0 [.v (.int .i64 i), .v (.int .i64 16)]) (ρ : Nat → Nat) :
    Calls Tryd.prog 80 (SV.dens ρ [.v (.int .i64 i), .v (.int .i64 16)]).toArray w0 (Ret0 w0 F0 fun s => s = .v (.string ⟨⟨r⟩⟩)) := by
 refine calls_of_wp Tryd.func80 rfl ?_
 have hX := Cx.enter (D := No) (B := []) (L := []) (ρ := ρ) (N := 54) Tryd.ntmps80 [.v (.int .i64 i), .v (.int .i64 16)] (St.start hv) rfl hg (by kernel_rfl) (fun _ h => by cases h) (Nat.le_of_ble_eq_true rfl) No.unfix
 unfold internal_strconv_FormatInt_c16 at h0
 refine Cx.rseq hX [] [0, 1] (l' := [(0, .v (.int .i64 i)), (1, .v (.int .i64 16))]) (B' := []) (by kernel_rfl) fun ρ w a hX => ?_
 refine wp_seq_k fun K2 hK2 => ?_
 refine Cx.rseq hX [] [0, 1, 11] (l' := [(0, .v (.int .i64 i)), (1, .v (.int .i64 16)), (11, .v (.bool false))]) (B' := []) (by kernel_rfl) fun ρ w a hX => ?_
 refine Cx.cond hX (b := false) (by kernel_rfl) (fun h => by cases h) (fun _ => ?_)
 refine wp_skip ?_
 refine hK2 _ _ ?_
 refine wp_seq_k fun K4 hK4 => ?_
 refine wp_region_list ?_
 refine hX.part [] 5 [46, 47, 49] (l' := [(46, .v (.int .u64 (IntKind.wrap .u64 i))), (47, .v (.int .i64 16)), (49, .v (.bool (decide (i < 0))))]) (B' := []) (by kernel_rfl) fun ρ w a hX => ?_
 obtain ⟨v1, hv1, h0⟩ := bnd_some h0
 refine Cx.call0 hX (lit := []) (by kernel_rfl) rfl (by kernel_rfl) ⟨⟨_, Tryd.func85, by kernel_rfl, rfl⟩⟩ (ss := [.v (.slice none 0 0), .v (.int .u64 (IntKind.wrap .u64 i)), .v (.int .i64 16), .v (.bool (decide (i < 0))), .v (.bool false)]) (by kernel_rfl) [.v (.slice none 0 0), .v (.int .u64 (IntKind.wrap .u64 i)), .v (.int .i64 16), .v (.bool (decide (i < 0))), .v (.bool false)] rfl (fun hg => ⟨trivial, hg.2.1, hg.2.2.1, hg.2.2.2.1, hg.2.2.2.2.1, trivial⟩) (fun hv hle hg => internal_strconv_formatBits_cn_c16_cfalse.ok (IntKind.wrap .u64 i) (decide (i < 0)) v1 hv1 _ _ hv (hG.mono hle) hg _) (fun s F w a hp hX => ?_)
 obtain ⟨_, _, rfl, ⟨A2, c3, rfl⟩, rfl⟩ := hp
 refine hX.part [] 5 [9] (l' := [(9, .v (.string ⟨⟨v1.2⟩⟩))]) (B' := []) (by kernel_rfl) fun ρ w a hX => ?_
 refine wpList_end ?_
 refine hK4 _ _ ?_
 refine Cx.rseq hX [] [4] (l' := [(4, .v (.string ⟨⟨v1.2⟩⟩))]) (B' := []) (by kernel_rfl) fun ρ w a hX => ?_
 refine wp_ret ?_
 have hr := Option.some.inj (show some _ = some _ from h0)
 subst hr
 exact hX.ret0 (ss := [.v (.string ⟨⟨v1.2⟩⟩)]) (by kernel_rfl) (by kernel_rfl) rfl
def strconv_FormatInt_c16 (i : Int) : Option (Str) :=
  Option.bind (internal_strconv_FormatInt_c16 i) fun v1 =>
  some v1
theorem strconv_FormatInt_c16.ok (i : Int) (r : Str) (h0 : strconv_FormatInt_c16 i = some r) (w0 : World) (F0 : Heap) (hv : F0.Sub w0) (hG : Glob F0) (hg : SV.goods F0 [.v (.int .i64 i), .v (.int .i64 16)]) (ρ : Nat → Nat) :
    Calls Tryd.prog 75 (SV.dens ρ [.v (.int .i64 i), .v (.int .i64 16)]).toArray w0 (Ret0 w0 F0 fun s => s = .v (.string ⟨⟨r⟩⟩)) := by
 refine calls_of_wp Tryd.func75 rfl ?_
 have hX := Cx.enter (D := No) (B := []) (L := []) (ρ := ρ) (N := 8) Tryd.ntmps75 [.v (.int .i64 i), .v (.int .i64 16)] (St.start hv) rfl hg (by kernel_rfl) (fun _ h => by cases h) (Nat.le_of_ble_eq_true rfl) No.unfix
 unfold strconv_FormatInt_c16 at h0
 refine Cx.rseq hX [] [0, 1] (l' := [(0, .v (.int .i64 i)), (1, .v (.int .i64 16))]) (B' := []) (by kernel_rfl) fun ρ w a hX => ?_
 refine wp_seq_k fun K2 hK2 => ?_
 refine wp_region_list ?_
 refine hX.part [] 2 [5, 6] (l' := [(5, .v (.int .i64 i)), (6, .v (.int .i64 16))]) (B' := []) (by kernel_rfl) fun ρ w a hX => ?_
 obtain ⟨v1, hv1, h0⟩ := bnd_some h0
 refine Cx.call0 hX (lit := []) (by kernel_rfl) rfl (by kernel_rfl) ⟨⟨_, Tryd.func80, by kernel_rfl, rfl⟩⟩ (ss := [.v (.int .i64 i), .v (.int .i64 16)]) (by kernel_rfl) [.v (.int .i64 i), .v (.int .i64 16)] rfl (fun hg => hg) (fun hv hle hg => internal_strconv_FormatInt_c16.ok i v1 hv1 _ _ hv (hG.mono hle) hg _) (fun s F w a hp hX => ?_)
 subst hp
 refine hX.part [] 1 [4] (l' := [(4, .v (.string ⟨⟨v1⟩⟩))]) (B' := []) (by kernel_rfl) fun ρ w a hX => ?_
 refine wpList_end ?_
 refine hK2 _ _ ?_
 refine wp_ret ?_
 have hr := Option.some.inj (show some _ = some _ from h0)
 subst hr
 exact hX.ret0 (ss := [.v (.string ⟨⟨v1⟩⟩)]) (by kernel_rfl) (by kernel_rfl) rfl
end
end Go.Gw

