/- Texts for the statements of this seat. -/
import Derived.Test.YtfankedlhjnpfaaDoorGwK
import Derived.Test.YtfankedlhjnpfaaDoorShelf05
import Derived.Test.YtfankedlhjnpfaaDoorProg
import Derived.KernelRfl
set_option linter.unusedVariables false
set_option linter.unusedSimpArgs false
set_option linter.unnecessarySimpa false
namespace Go.Gw
open Go.Proofs Go.RowKit
set_option maxRecDepth 100000
set_option linter.unusedVariables false
set_option linter.unusedSimpArgs false
noncomputable section
structure Glob (F : Heap) : Prop where
  maxLen : ∃ m, cellF F 0 0 (.int .i64 m)
theorem Glob.mono {F F' : Heap} (h : Glob F) (hle : F.Le F') : Glob F' := ⟨h.maxLen.imp fun _ e => cellF_mono hle e⟩
structure T_api_Part where
  IsText : Bool
  N : Int
  S : Str
def fT_api_Part (x : T_api_Part) (y : Unit) : List SV := [.v (.bool x.IsText), .v (.int .i64 x.N), .v (.string ⟨⟨x.S⟩⟩)]
def kT_api_Part : Kind T_api_Part where
  sz := 3
  Y := Unit
  f := fT_api_Part
  holds F x cs := ∃ y, SV.plains (fT_api_Part x y) = some cs ∧ SV.goods F (fT_api_Part x y)
  mono h := fun ⟨y, e, g⟩ => ⟨y, e, SV.goods_mono h g⟩
  opn h := h
  shut e g := ⟨_, e, g⟩
  closed _ _ := rfl
  len _ _ := rfl
  ones _ _ := rfl

def strings_ReplaceAll (t : Str) (old : Str) (new : Str) : Option (Str) := if t.length < 4294967281 ∧ 1 ≤ old.length ∧ t.length + Lib.countB ⟨⟨t⟩⟩ ⟨⟨old⟩⟩ * new.length ≤ 140737488355328 then some (Lib.replaceAll t old new) else none
theorem strings_ReplaceAll.ok (t : Str) (old : Str) (new : Str) (r : Str) (h0 : strings_ReplaceAll t old new = some r) (w0 : World) (F0 : Heap) (hv : F0.Sub w0) (hG : Glob F0) (hg : SV.goods F0 [.v (.string ⟨⟨t⟩⟩), .v (.string ⟨⟨old⟩⟩), .v (.string ⟨⟨new⟩⟩)]) (ρ : Nat → Nat) :
    Calls Tryd.prog 24 (SV.dens ρ [.v (.string ⟨⟨t⟩⟩), .v (.string ⟨⟨old⟩⟩), .v (.string ⟨⟨new⟩⟩)]).toArray w0 (Ret0 w0 F0 fun s => s = .v (.string ⟨⟨r⟩⟩)) := by
  unfold strings_ReplaceAll at h0
  split at h0
  · rename_i hc
    cases h0
    obtain ⟨m, hm⟩ := hG.maxLen
    refine (Tryd.strings_ReplaceAll ⟨⟨t⟩⟩ ⟨⟨old⟩⟩ ⟨⟨new⟩⟩ m w0 hc.1 (cellF_read hv hm) hc.2.1 hc.2.2).mono fun e w' h => ?_
    exact Ret0.below (s := .v (.string ⟨⟨_⟩⟩)) hv h.1 h.2 trivial rfl rfl
  · cases h0
def units_Check (u : Str) : Option (Bool) :=
  some ((IntKind.wrap .i64 ((BitVec.ofInt 64 ((u.length : Nat) : Int) &&& BitVec.ofInt 64 1).toNat)) == 0)
theorem units_Check.ok (u : Str) (r : Bool) (h0 : units_Check u = some r) (w0 : World) (F0 : Heap) (hv : F0.Sub w0) (hG : Glob F0) (hg : SV.goods F0 [.v (.string ⟨⟨u⟩⟩)]) (ρ : Nat → Nat) :
    Calls Tryd.prog 25 (SV.dens ρ [.v (.string ⟨⟨u⟩⟩)]).toArray w0 (Ret0 w0 F0 fun s => s = .v (.bool r)) := by
  refine calls_of_wp Tryd.func25 rfl ?_
  have hX := Cx.enter (D := No) (B := []) (L := []) (ρ := ρ) (N := 7) Tryd.ntmps25 [.v (.string ⟨⟨u⟩⟩)] (St.start hv) rfl hg (by kernel_rfl) (fun _ h => by cases h) (Nat.le_of_ble_eq_true rfl)
  unfold units_Check at h0
  refine Cx.rseq hX [] [0] (l' := [(0, .v (.string ⟨⟨u⟩⟩))]) (B' := []) (by kernel_rfl) fun ρ w a hX => ?_
  refine Cx.rseq hX [] [2] (l' := [(2, .v (.bool ((IntKind.wrap .i64 ((BitVec.ofInt 64 ((u.length : Nat) : Int) &&& BitVec.ofInt 64 1).toNat)) == 0)))]) (B' := []) (by kernel_rfl) fun ρ w a hX => ?_
  refine wp_ret ?_
  have hr := Option.some.inj (show some _ = some _ from h0)
  subst hr
  exact hX.ret0 (ss := [.v (.bool ((IntKind.wrap .i64 ((BitVec.ofInt 64 ((u.length : Nat) : Int) &&& BitVec.ofInt 64 1).toNat)) == 0))]) (by kernel_rfl) (by kernel_rfl) rfl
def order_Decode.l4 (x41 : Str) (s : Int × Int) : Option ((Int × Int) ⊕ ((Int))) := match s with
  | (x47, x48) =>
  if (decide (x48 < 9)) = true then
    Option.bind (getB x41 x48) fun v49 =>
    some (.inl ((IntKind.wrap .u64 ((BitVec.ofInt 64 (IntKind.wrap .u64 (x47 * 2 ^ 8)) ||| BitVec.ofInt 64 (IntKind.wrap .u64 v49)).toNat)), (IntKind.wrap .i64 (x48 + 1))))
  else
    some (.inr x47)
def order_Decode.l5 (x41 : Str) (x42 : List T_api_Part) (x68 : Int) : Option ((Int) ⊕ ((Unit) ⊕ ((List T_api_Part) × Int) ⊕ (Str × (List T_api_Part)))) :=
  if (decide ((IntKind.wrap .i64 (x68 + 1)) < ((x41.length : Nat) : Int))) = true then
    Option.bind (getB x41 x68) fun v69 =>
    if (v69 != 0) = true then
      some (.inl (IntKind.wrap .i64 (x68 + 1)))
    else
      Option.bind (cutL x41 x68 (IntKind.wrap .i64 (x68 + 2))) fun v70 =>
      if (v70 == ([0, 1] : Str)) = true then
        Option.bind (cutL x41 1 x68) fun v71 =>
        Option.bind (strings_ReplaceAll v71 ([0, 255] : Str) ([0] : Str)) fun v72 =>
        Option.bind (units_Check v72) fun v73 =>
        if (!v73) = true then
          some (.inr (.inr (.inl (([] : List T_api_Part), 22))))
        else
          Option.bind (cutL x41 (IntKind.wrap .i64 (x68 + 2)) ((x41.length : Nat) : Int)) fun v74 =>
          Option.bind (room (x42.length + 1)) fun u77 =>
          some (.inr (.inr (.inr (v74, (x42 ++ [({ IsText := true, N := 0, S := v72 } : T_api_Part)])))))
      else
        Option.bind (cutL x41 x68 (IntKind.wrap .i64 (x68 + 2))) fun v78 =>
        if (!(v78 == ([0, 255] : Str))) = true then
          some (.inr (.inr (.inl (([] : List T_api_Part), 22))))
        else
          some (.inl (IntKind.wrap .i64 (x68 + 2)))
  else
    some (.inr (.inl ()))
def order_Decode.j2 : Option ((Str × (List T_api_Part)) ⊕ (((List T_api_Part)) ⊕ ((List T_api_Part) × Int))) :=
  some (.inr (.inr (([] : List T_api_Part), 22)))
def order_Decode.l1 (s : Str × (List T_api_Part)) : Option ((Str × (List T_api_Part)) ⊕ (((List T_api_Part)) ⊕ ((List T_api_Part) × Int))) := match s with
  | (x41, x42) =>
  if (!(x41 == ([] : Str))) = true then
    Option.bind (cutL x41 0 1) fun v45 =>
    if ((v45 == ([16] : Str)) && (decide (((x41.length : Nat) : Int) ≥ 9))) = true then
      Option.bind (loopM (order_Decode.l4 x41) (0, 1)) fun e => match e with
      | x52 =>
        if ((decide ((IntKind.wrap .i64 (IntKind.wrap .u64 ((BitVec.ofInt 64 x52 ^^^ BitVec.ofInt 64 9223372036854775808).toNat))) < (-9007199254740991))) || (decide ((IntKind.wrap .i64 (IntKind.wrap .u64 ((BitVec.ofInt 64 x52 ^^^ BitVec.ofInt 64 9223372036854775808).toNat))) > 9007199254740991))) = true then
          some (.inr (.inr (([] : List T_api_Part), 22)))
        else
          Option.bind (cutL x41 9 ((x41.length : Nat) : Int)) fun v53 =>
          Option.bind (room (x42.length + 1)) fun u56 =>
          some (.inl (v53, (x42 ++ [({ IsText := false, N := (IntKind.wrap .i64 (IntKind.wrap .u64 ((BitVec.ofInt 64 x52 ^^^ BitVec.ofInt 64 9223372036854775808).toNat))), S := ([] : Str) } : T_api_Part)])))
    else
      Option.bind (cutL x41 0 1) fun v57 =>
      if (v57 == ([32] : Str)) = true then
        Option.bind (loopM (order_Decode.l5 x41 x42) 1) fun e => match e with
        | (.inl ()) =>
          order_Decode.j2
        | (.inr (.inl r80)) =>
          some (.inr (.inr r80))
        | (.inr (.inr (x81, x82))) =>
          some (.inl (x81, x82))
      else
        order_Decode.j2
  else
    some (.inr (.inl x42))
def order_Decode (s_ : Str) : Option ((List T_api_Part) × Int) :=
  if (decide (((s_.length : Nat) : Int) > 256)) = true then
    some (([] : List T_api_Part), 22)
  else
    Option.bind (loopM (order_Decode.l1) (s_, ([] : List T_api_Part))) fun e => match e with
    | (.inl x89) =>
      some (x89, 0)
    | (.inr r92) =>
      some r92
theorem order_Decode.ok (s_ : Str) (r : (List T_api_Part) × Int) (h0 : order_Decode s_ = some r) (w0 : World) (F0 : Heap) (hv : F0.Sub w0) (hG : Glob F0) (hg : SV.goods F0 [.v (.string ⟨⟨s_⟩⟩)]) (ρ : Nat → Nat) :
    Calls Tryd.prog 10 (SV.dens ρ [.v (.string ⟨⟨s_⟩⟩)]).toArray w0 (Ret0 w0 F0 fun s => ∃ s1 s2, s = .tup [s1, s2] ∧ (∃ A c, s1 = SV.sl kT_api_Part r.1 A c) ∧ (s2 = .v (.int .i64 r.2))) := by
  refine calls_of_wp Tryd.func10 rfl ?_
  have hX := Cx.enter (D := No) (B := []) (L := []) (ρ := ρ) (N := 98) Tryd.ntmps10 [.v (.string ⟨⟨s_⟩⟩)] (St.start hv) rfl hg (by kernel_rfl) (fun _ h => by cases h) (Nat.le_of_ble_eq_true rfl)
  unfold order_Decode at h0
  refine Cx.rseq hX [] [0, 2] (l' := [(0, .v (.string ⟨⟨s_⟩⟩)), (2, .v (.slice none 0 0))]) (B' := []) (by kernel_rfl) fun ρ w a hX => ?_
  refine wp_scope_straight ?_
  refine wp_seq_k fun K2 hK2 => ?_
  refine Cx.rseq hX [] [0, 2, 11] (l' := [(0, .v (.string ⟨⟨s_⟩⟩)), (2, .v (.slice none 0 0)), (11, .v (.bool (decide (((s_.length : Nat) : Int) > 256))))]) (B' := []) (by kernel_rfl) fun ρ w a hX => ?_
  refine Cx.cond hX (b := (decide (((s_.length : Nat) : Int) > 256))) (by kernel_rfl) (fun hb => ?_) (fun hb => ?_)
  · have h0 := ite_tt h0 hb
    refine Cx.rseq hX [] [2, 3] (l' := [(2, .v (.slice none 0 0)), (3, .v (.int .i64 22))]) (B' := []) (by kernel_rfl) fun ρ w a hX => ?_
    refine wp_ret ?_
    have hX := hX.nilSl 2 kT_api_Part (by kernel_rfl)
    have hr := Option.some.inj (show some _ = some _ from h0)
    subst hr
    exact hX.ret0 (ss := [SV.sl kT_api_Part ([] : List T_api_Part) none 0, .v (.int .i64 22)]) (by kernel_rfl) (by kernel_rfl) ⟨_, _, rfl, ⟨_, _, rfl⟩, rfl⟩
  · have h0 := ite_ff h0 hb
    refine wp_skip ?_
    refine hK2 _ _ ?_
    refine wp_seq_k fun K5 hK5 => ?_
    refine wp_label ?_
    refine hK5 _ _ ?_
    refine wp_seq_k fun K6 hK6 => ?_
    refine wp_block ?_
    have hX := hX.newAcc 40 kT_api_Part
    have hX := hX.keeps [0, 2] (l' := [(0, .v (.string ⟨⟨s_⟩⟩)), (2, .v (.slice none ([] : List T_api_Part).length 0))]) (by kernel_rfl)
    obtain ⟨e1, he1, h0⟩ := bnd_some h0
    have E1x0 : ∀ (x89 : List T_api_Part), e1 = (.inl x89) → ∀ (A90 : Option Addr) (c91 : Nat) (ρ : Nat → Nat) (w : World) (F : Heap) (a : Act), Cx 98 w0 F0 No w F [accP 40 kT_api_Part A90 c91 x89] [] ρ [(2, .v (.slice A90 x89.length c91))] a → K6 a w := by
      intro x89 he A90 c91 ρ w F a hX
      replace he := he.symm
      subst he
      (try dsimp only at h0)
      refine hK6 _ _ ?_
      refine Cx.rseq hX [] [2, 3] (l' := [(2, .v (.slice A90 x89.length c91)), (3, .v (.int .i64 0))]) (B' := []) (by kernel_rfl) fun ρ w a hX => ?_
      refine wp_ret ?_
      obtain ⟨F, hX⟩ := hX.freeze (i := 0) (t := 2) (e := 40) (d := kT_api_Part) (A := A90) (c := c91) (xs := x89) rfl (by kernel_rfl)
      have hX : Cx 98 _ _ _ _ _ [] [] ρ _ a := hX
      have hr := Option.some.inj (show some _ = some _ from h0)
      subst hr
      exact hX.ret0 (ss := [SV.sl kT_api_Part x89 A90 c91, .v (.int .i64 0)]) (by kernel_rfl) (by kernel_rfl) ⟨_, _, rfl, ⟨_, _, rfl⟩, rfl⟩
    refine loop_go (fun (s : Str × (List T_api_Part)) a w => match s with | (x41, x42) => ∃ (A43 : Option Addr) (c44 : Nat) (ρ : Nat → Nat) (F : Heap), Cx 98 w0 F0 No w F [accP 40 kT_api_Part A43 c44 x42] [] ρ [(0, .v (.string ⟨⟨x41⟩⟩)), (2, .v (.slice A43 x42.length c44))] a) he1 (fun LW1 s o1 h1 hb1 hx1 a w hI => ?_) _ _ ?_
    · obtain ⟨x41, x42⟩ := s
      obtain ⟨A43, c44, ρ, F, hX⟩ := hI
      unfold order_Decode.l1 at h1
      (try dsimp only at h1)
      refine wp_seq_k fun K58 hK58 => ?_
      refine Cx.rseq hX [] [0, 2, 13] (l' := [(0, .v (.string ⟨⟨x41⟩⟩)), (2, .v (.slice A43 x42.length c44)), (13, .v (.bool (!(x41 == ([] : Str)))))]) (B' := []) (by kernel_rfl) fun ρ w a hX => ?_
      refine Cx.cond hX (b := (!(x41 == ([] : Str)))) (by kernel_rfl) (fun hb => ?_) (fun hb => ?_)
      · have h1 := ite_tt h1 hb
        refine wp_skip ?_
        refine hK58 _ _ ?_
        refine wp_block ?_
        refine wp_seq_k fun K60 hK60 => ?_
        have J60 : ∀ (_ : Unit), order_Decode.j2 = some o1 → ∀ (ρ : Nat → Nat) (w : World) (F : Heap) (a : Act), Cx 98 w0 F0 No w F [] [] ρ [] a → K60 a w := by
          intro _ h1  ρ w F a hX
          unfold order_Decode.j2 at h1
          refine hK60 _ _ ?_
          refine Cx.rseq hX [] [2, 3] (l' := [(2, .v (.slice none 0 0)), (3, .v (.int .i64 22))]) (B' := []) (by kernel_rfl) fun ρ w a hX => ?_
          refine wp_ret ?_
          have hX := hX.nilSl 2 kT_api_Part (by kernel_rfl)
          have he := hx1 _ (out_eq h1)
          subst he
          (try dsimp only at h0)
          have hr := Option.some.inj (show some _ = some _ from h0)
          subst hr
          exact hX.ret0 (ss := [SV.sl kT_api_Part ([] : List T_api_Part) none 0, .v (.int .i64 22)]) (by kernel_rfl) (by kernel_rfl) ⟨_, _, rfl, ⟨_, _, rfl⟩, rfl⟩
        refine wp_block ?_
        refine wp_seq_k fun K61 hK61 => ?_
        refine wp_region_list ?_
        refine hX.part [] 1 [0, 2, 15] (l' := [(0, .v (.string ⟨⟨x41⟩⟩)), (2, .v (.slice A43 x42.length c44)), (15, .v (.string ⟨⟨x41⟩⟩))]) (B' := []) (by kernel_rfl) fun ρ w a hX => ?_
        obtain ⟨v45, hv45, h1⟩ := bnd_some h1
        refine hX.cutStr (lit := []) (by kernel_rfl) (by kernel_rfl) rfl (s := x41) (ol := none) (oh := some 1) (r := v45) (by kernel_rfl) (by kernel_rfl) (by kernel_rfl) (by kernel_rfl) hv45 fun a hX => ?_
        refine hX.part [] 7 [0, 2, 14] (l' := [(0, .v (.string ⟨⟨x41⟩⟩)), (2, .v (.slice A43 x42.length c44)), (14, .v (.bool ((v45 == ([16] : Str)) && (decide (((x41.length : Nat) : Int) ≥ 9)))))]) (B' := []) (by kernel_rfl) fun ρ w a hX => ?_
        refine wpList_end ?_
        refine hK61 _ _ ?_
        refine Cx.cond hX (b := ((v45 == ([16] : Str)) && (decide (((x41.length : Nat) : Int) ≥ 9)))) (by kernel_rfl) (fun hb => ?_) (fun hb => ?_)
        · have h1 := ite_tt h1 hb
          refine Cx.rseq hX [] [0, 2, 4] (l' := [(0, .v (.string ⟨⟨x41⟩⟩)), (2, .v (.slice A43 x42.length c44)), (4, .v (.int .u64 0))]) (B' := []) (by kernel_rfl) fun ρ w a hX => ?_
          refine wp_seq_k fun K63 hK63 => ?_
          refine Cx.rseq hX [] [0, 2, 4, 5] (l' := [(0, .v (.string ⟨⟨x41⟩⟩)), (2, .v (.slice A43 x42.length c44)), (4, .v (.int .u64 0)), (5, .v (.int .i64 1))]) (B' := []) (by kernel_rfl) fun ρ w a hX => ?_
          refine wp_block ?_
          have hX := hX.keeps [0, 2, 4, 5] (l' := [(0, .v (.string ⟨⟨x41⟩⟩)), (2, .v (.slice A43 x42.length c44)), (4, .v (.int .u64 0)), (5, .v (.int .i64 1))]) (by kernel_rfl)
          obtain ⟨e2, he2, h1⟩ := bnd_some h1
          have E2x0 : ∀ (x52 : Int), e2 = x52 → ∀ (ρ : Nat → Nat) (w : World) (F : Heap) (a : Act), Cx 98 w0 F0 No w F [accP 40 kT_api_Part A43 c44 x42] [] ρ [(0, .v (.string ⟨⟨x41⟩⟩)), (2, .v (.slice A43 x42.length c44)), (4, .v (.int .u64 x52))] a → K63 a w := by
            intro x52 he  ρ w F a hX
            replace he := he.symm
            subst he
            (try dsimp only at h1)
            refine hK63 _ _ ?_
            refine Cx.rseq hX [] [0, 2, 6] (l' := [(0, .v (.string ⟨⟨x41⟩⟩)), (2, .v (.slice A43 x42.length c44)), (6, .ptr 0 0)]) (B' := [some ⟨40, [.v (.bool false), .v (.int .i64 (IntKind.wrap .i64 (IntKind.wrap .u64 ((BitVec.ofInt 64 x52 ^^^ BitVec.ofInt 64 9223372036854775808).toNat)))), .v (.string ⟨⟨([] : Str)⟩⟩)]⟩]) (by kernel_rfl) fun ρ w a hX => ?_
            refine wp_seq_k fun K72 hK72 => ?_
            refine Cx.rseq hX [] [0, 2, 6, 45] (l' := [(0, .v (.string ⟨⟨x41⟩⟩)), (2, .v (.slice A43 x42.length c44)), (6, .ptr 0 0), (45, .v (.bool ((decide ((IntKind.wrap .i64 (IntKind.wrap .u64 ((BitVec.ofInt 64 x52 ^^^ BitVec.ofInt 64 9223372036854775808).toNat))) < (-9007199254740991))) || (decide ((IntKind.wrap .i64 (IntKind.wrap .u64 ((BitVec.ofInt 64 x52 ^^^ BitVec.ofInt 64 9223372036854775808).toNat))) > 9007199254740991)))))]) (B' := [some ⟨40, [.v (.bool false), .v (.int .i64 (IntKind.wrap .i64 (IntKind.wrap .u64 ((BitVec.ofInt 64 x52 ^^^ BitVec.ofInt 64 9223372036854775808).toNat)))), .v (.string ⟨⟨([] : Str)⟩⟩)]⟩]) (by kernel_rfl) fun ρ w a hX => ?_
            refine Cx.cond hX (b := ((decide ((IntKind.wrap .i64 (IntKind.wrap .u64 ((BitVec.ofInt 64 x52 ^^^ BitVec.ofInt 64 9223372036854775808).toNat))) < (-9007199254740991))) || (decide ((IntKind.wrap .i64 (IntKind.wrap .u64 ((BitVec.ofInt 64 x52 ^^^ BitVec.ofInt 64 9223372036854775808).toNat))) > 9007199254740991)))) (by kernel_rfl) (fun hb => ?_) (fun hb => ?_)
            · have h1 := ite_tt h1 hb
              refine Cx.rseq hX [] [2, 3] (l' := [(2, .v (.slice none 0 0)), (3, .v (.int .i64 22))]) (B' := [some ⟨40, [.v (.bool false), .v (.int .i64 (IntKind.wrap .i64 (IntKind.wrap .u64 ((BitVec.ofInt 64 x52 ^^^ BitVec.ofInt 64 9223372036854775808).toNat)))), .v (.string ⟨⟨([] : Str)⟩⟩)]⟩]) (by kernel_rfl) fun ρ w a hX => ?_
              refine wp_ret ?_
              have hX := hX.nilSl 2 kT_api_Part (by kernel_rfl)
              have he := hx1 _ (out_eq h1)
              subst he
              (try dsimp only at h0)
              have hr := Option.some.inj (show some _ = some _ from h0)
              subst hr
              exact hX.ret0 (ss := [SV.sl kT_api_Part ([] : List T_api_Part) none 0, .v (.int .i64 22)]) (by kernel_rfl) (by kernel_rfl) ⟨_, _, rfl, ⟨_, _, rfl⟩, rfl⟩
            · have h1 := ite_ff h1 hb
              refine wp_skip ?_
              refine hK72 _ _ ?_
              refine wp_seq_k fun K75 hK75 => ?_
              have hGd := hG.mono hX.st.le
              refine hX.draw rfl (n := 8) rfl #[false, false, false, false, false, false, false, false] (by kernel_rfl) fun w D' back hX => ?_
              refine hX.dq 0 rfl rfl (listed' := #[true, false, false, false, false, false, false, false]) (by kernel_rfl) (by kernel_rfl) (s := .v (.slice A43 x42.length c44)) (by kernel_rfl) fun a hX => ?_
              refine hX.dq 4 rfl rfl (listed' := #[true, false, false, false, true, false, false, false]) (by kernel_rfl) (by kernel_rfl) (s := .v (.string ⟨⟨x41⟩⟩)) (by kernel_rfl) fun a hX => ?_
              obtain ⟨v53, hv53, h1⟩ := bnd_some h1
              refine hX.dCutStr 5 rfl rfl (listed' := #[true, false, false, false, true, true, false, false]) (by kernel_rfl) (by kernel_rfl) rfl (s := x41) (ol := some 9) (oh := none) (r := v53) (by kernel_rfl) (by kernel_rfl) (by kernel_rfl) (by kernel_rfl) hv53 fun a hX => ?_
              refine dseq (listed' := #[true, true, false, false, true, true, false, false]) 1 (by kernel_rfl) rfl (by kernel_rfl) ?_
              refine hX.part [] 1 [0, 2, 6, 45, 46, 47, 50, 51] (l' := [(0, .v (.string ⟨⟨x41⟩⟩)), (2, .v (.slice A43 x42.length c44)), (6, .ptr 0 0), (45, .v (.bool ((decide ((IntKind.wrap .i64 (IntKind.wrap .u64 ((BitVec.ofInt 64 x52 ^^^ BitVec.ofInt 64 9223372036854775808).toNat))) < (-9007199254740991))) || (decide ((IntKind.wrap .i64 (IntKind.wrap .u64 ((BitVec.ofInt 64 x52 ^^^ BitVec.ofInt 64 9223372036854775808).toNat))) > 9007199254740991))))), (46, .v (.slice A43 x42.length c44)), (47, .agg [.v (.bool false), .v (.int .i64 (IntKind.wrap .i64 (IntKind.wrap .u64 ((BitVec.ofInt 64 x52 ^^^ BitVec.ofInt 64 9223372036854775808).toNat)))), .v (.string ⟨⟨([] : Str)⟩⟩)]), (50, .v (.string ⟨⟨x41⟩⟩)), (51, .v (.string ⟨⟨v53⟩⟩))]) (B' := [some ⟨40, [.v (.bool false), .v (.int .i64 (IntKind.wrap .i64 (IntKind.wrap .u64 ((BitVec.ofInt 64 x52 ^^^ BitVec.ofInt 64 9223372036854775808).toNat)))), .v (.string ⟨⟨([] : Str)⟩⟩)]⟩]) (by kernel_rfl) fun ρ w a hX => ?_
              refine dnext hX.st.sub0 ?_
              refine dseq (listed' := #[true, true, true, false, true, true, false, false]) 2 (by kernel_rfl) rfl (by kernel_rfl) ?_
              refine hX.part [] 1 [0, 2, 6, 45, 46, 47, 48, 50, 51] (l' := [(0, .v (.string ⟨⟨x41⟩⟩)), (2, .v (.slice A43 x42.length c44)), (6, .ptr 0 0), (45, .v (.bool ((decide ((IntKind.wrap .i64 (IntKind.wrap .u64 ((BitVec.ofInt 64 x52 ^^^ BitVec.ofInt 64 9223372036854775808).toNat))) < (-9007199254740991))) || (decide ((IntKind.wrap .i64 (IntKind.wrap .u64 ((BitVec.ofInt 64 x52 ^^^ BitVec.ofInt 64 9223372036854775808).toNat))) > 9007199254740991))))), (46, .v (.slice A43 x42.length c44)), (47, .agg [.v (.bool false), .v (.int .i64 (IntKind.wrap .i64 (IntKind.wrap .u64 ((BitVec.ofInt 64 x52 ^^^ BitVec.ofInt 64 9223372036854775808).toNat)))), .v (.string ⟨⟨([] : Str)⟩⟩)]), (48, .slc 1 0 1 1), (50, .v (.string ⟨⟨x41⟩⟩)), (51, .v (.string ⟨⟨v53⟩⟩))]) (B' := [some ⟨40, [.v (.bool false), .v (.int .i64 (IntKind.wrap .i64 (IntKind.wrap .u64 ((BitVec.ofInt 64 x52 ^^^ BitVec.ofInt 64 9223372036854775808).toNat)))), .v (.string ⟨⟨([] : Str)⟩⟩)]⟩, some ⟨40, [.v (.bool false), .v (.int .i64 (IntKind.wrap .i64 (IntKind.wrap .u64 ((BitVec.ofInt 64 x52 ^^^ BitVec.ofInt 64 9223372036854775808).toNat)))), .v (.string ⟨⟨([] : Str)⟩⟩)]⟩]) (by kernel_rfl) fun ρ w a hX => ?_
              refine dnext hX.st.sub0 ?_
              refine dseq (listed' := #[true, true, true, true, true, true, false, false]) 3 (by kernel_rfl) rfl (by kernel_rfl) ?_
              obtain ⟨u56, hu56, h1⟩ := bnd_some h1
              refine hX.appLit (d := kT_api_Part) (k := 1) (m := 1) (bytes := 32) (cells := [.v (.bool false), .v (.int .i64 (IntKind.wrap .i64 (IntKind.wrap .u64 ((BitVec.ofInt 64 x52 ^^^ BitVec.ofInt 64 9223372036854775808).toNat)))), .v (.string ⟨⟨([] : Str)⟩⟩)]) (lit := []) (i := 0) (e := 40) (xs := x42) (A := A43) (c := c44) ([(({ IsText := false, N := (IntKind.wrap .i64 (IntKind.wrap .u64 ((BitVec.ofInt 64 x52 ^^^ BitVec.ofInt 64 9223372036854775808).toNat))), S := ([] : Str) } : T_api_Part), ())] : List (T_api_Part × (kT_api_Part).Y)) (by kernel_rfl) (by kernel_rfl) rfl rfl (by kernel_rfl) (by kernel_rfl) (by kernel_rfl) (by kernel_rfl) (by kernel_rfl) rfl rfl (by decide) hu56 ⟨_, rfl⟩ fun A54 c55 w a hX => ?_
              have hX : Cx 98 _ _ _ _ _ [accP 40 kT_api_Part A54 c55 (x42 ++ [({ IsText := false, N := (IntKind.wrap .i64 (IntKind.wrap .u64 ((BitVec.ofInt 64 x52 ^^^ BitVec.ofInt 64 9223372036854775808).toNat))), S := ([] : Str) } : T_api_Part)])] [some ⟨40, [.v (.bool false), .v (.int .i64 (IntKind.wrap .i64 (IntKind.wrap .u64 ((BitVec.ofInt 64 x52 ^^^ BitVec.ofInt 64 9223372036854775808).toNat)))), .v (.string ⟨⟨([] : Str)⟩⟩)]⟩, some ⟨40, [.v (.bool false), .v (.int .i64 (IntKind.wrap .i64 (IntKind.wrap .u64 ((BitVec.ofInt 64 x52 ^^^ BitVec.ofInt 64 9223372036854775808).toNat)))), .v (.string ⟨⟨([] : Str)⟩⟩)]⟩] ρ _ a := hX
              refine dnext hX.st.sub0 ?_
              refine hX.dq 6 rfl rfl (listed' := #[true, true, true, true, true, true, true, false]) (by kernel_rfl) (by kernel_rfl) (s := .v (.slice A54 (x42 ++ [({ IsText := false, N := (IntKind.wrap .i64 (IntKind.wrap .u64 ((BitVec.ofInt 64 x52 ^^^ BitVec.ofInt 64 9223372036854775808).toNat))), S := ([] : Str) } : T_api_Part)]).length c55)) (by kernel_rfl) fun a hX => ?_
              refine hX.dq 7 rfl rfl (listed' := #[true, true, true, true, true, true, true, true]) (by kernel_rfl) (by kernel_rfl) (s := .v (.string ⟨⟨v53⟩⟩)) (by kernel_rfl) fun a hX => ?_
              have hX := back hX
              refine ddone (by kernel_rfl) ?_
              refine hK75 _ _ ?_
              refine wp_exit ?_
              have hX := hX.keeps [0, 2] (l' := [(0, .v (.string ⟨⟨v53⟩⟩)), (2, .v (.slice A54 (x42 ++ [({ IsText := false, N := (IntKind.wrap .i64 (IntKind.wrap .u64 ((BitVec.ofInt 64 x52 ^^^ BitVec.ofInt 64 9223372036854775808).toNat))), S := ([] : Str) } : T_api_Part)]).length c55))]) (by kernel_rfl)
              have hX := hX.shrink 0 (B' := []) (by kernel_rfl) (Nat.le_of_ble_eq_true rfl) (by kernel_rfl) (by kernel_rfl)
              exact hb1 (v53, (x42 ++ [({ IsText := false, N := (IntKind.wrap .i64 (IntKind.wrap .u64 ((BitVec.ofInt 64 x52 ^^^ BitVec.ofInt 64 9223372036854775808).toNat))), S := ([] : Str) } : T_api_Part)])) (out_eq h1) _ _ ⟨A54, c55, _, _, hX⟩
          refine loop_go (fun (s : Int × Int) a w => match s with | (x47, x48) => ∃ (ρ : Nat → Nat) (F : Heap), Cx 98 w0 F0 No w F [accP 40 kT_api_Part A43 c44 x42] [] ρ [(0, .v (.string ⟨⟨x41⟩⟩)), (2, .v (.slice A43 x42.length c44)), (4, .v (.int .u64 x47)), (5, .v (.int .i64 x48))] a) he2 (fun LW2 s o2 h2 hb2 hx2 a w hI => ?_) _ _ ?_
          · obtain ⟨x47, x48⟩ := s
            obtain ⟨ρ, F, hX⟩ := hI
            unfold order_Decode.l4 at h2
            (try dsimp only at h2)
            refine wp_seq_k fun K68 hK68 => ?_
            refine Cx.rseq hX [] [0, 2, 4, 5, 24] (l' := [(0, .v (.string ⟨⟨x41⟩⟩)), (2, .v (.slice A43 x42.length c44)), (4, .v (.int .u64 x47)), (5, .v (.int .i64 x48)), (24, .v (.bool (decide (x48 < 9))))]) (B' := []) (by kernel_rfl) fun ρ w a hX => ?_
            refine Cx.cond hX (b := (decide (x48 < 9))) (by kernel_rfl) (fun hb => ?_) (fun hb => ?_)
            · have h2 := ite_tt h2 hb
              refine wp_skip ?_
              refine hK68 _ _ ?_
              refine wp_seq_k fun K70 hK70 => ?_
              refine wp_block ?_
              refine wp_region_list ?_
              refine hX.part [] 4 [0, 2, 4, 5, 28, 29, 30] (l' := [(0, .v (.string ⟨⟨x41⟩⟩)), (2, .v (.slice A43 x42.length c44)), (4, .v (.int .u64 x47)), (5, .v (.int .i64 x48)), (28, .v (.int .u64 (IntKind.wrap .u64 (x47 * 2 ^ 8)))), (29, .v (.string ⟨⟨x41⟩⟩)), (30, .v (.int .i64 x48))]) (B' := []) (by kernel_rfl) fun ρ w a hX => ?_
              obtain ⟨v49, hv49, h2⟩ := bnd_some h2
              refine hX.idxStr (lit := []) (by kernel_rfl) (by kernel_rfl) rfl (s := x41) (k := .i64) (n := x48) (b := v49) (by kernel_rfl) (by kernel_rfl) (by kernel_rfl) hv49 fun a hX => ?_
              refine hX.part [] 3 [0, 2, 4, 5] (l' := [(0, .v (.string ⟨⟨x41⟩⟩)), (2, .v (.slice A43 x42.length c44)), (4, .v (.int .u64 (IntKind.wrap .u64 ((BitVec.ofInt 64 (IntKind.wrap .u64 (x47 * 2 ^ 8)) ||| BitVec.ofInt 64 (IntKind.wrap .u64 v49)).toNat)))), (5, .v (.int .i64 x48))]) (B' := []) (by kernel_rfl) fun ρ w a hX => ?_
              refine wpList_end ?_
              refine hK70 _ _ ?_
              refine Cx.region hX [] [0, 2, 4, 5] (l' := [(0, .v (.string ⟨⟨x41⟩⟩)), (2, .v (.slice A43 x42.length c44)), (4, .v (.int .u64 (IntKind.wrap .u64 ((BitVec.ofInt 64 (IntKind.wrap .u64 (x47 * 2 ^ 8)) ||| BitVec.ofInt 64 (IntKind.wrap .u64 v49)).toNat)))), (5, .v (.int .i64 (IntKind.wrap .i64 (x48 + 1))))]) (B' := []) (by kernel_rfl) fun ρ w a hX => ?_
              have hX := hX.keeps [0, 2, 4, 5] (l' := [(0, .v (.string ⟨⟨x41⟩⟩)), (2, .v (.slice A43 x42.length c44)), (4, .v (.int .u64 (IntKind.wrap .u64 ((BitVec.ofInt 64 (IntKind.wrap .u64 (x47 * 2 ^ 8)) ||| BitVec.ofInt 64 (IntKind.wrap .u64 v49)).toNat)))), (5, .v (.int .i64 (IntKind.wrap .i64 (x48 + 1))))]) (by kernel_rfl)
              exact hb2 ((IntKind.wrap .u64 ((BitVec.ofInt 64 (IntKind.wrap .u64 (x47 * 2 ^ 8)) ||| BitVec.ofInt 64 (IntKind.wrap .u64 v49)).toNat)), (IntKind.wrap .i64 (x48 + 1))) (out_eq h2) _ _ ⟨_, _, hX⟩
            · have h2 := ite_ff h2 hb
              refine wp_exit ?_
              have hX := hX.keeps [0, 2, 4] (l' := [(0, .v (.string ⟨⟨x41⟩⟩)), (2, .v (.slice A43 x42.length c44)), (4, .v (.int .u64 x47))]) (by kernel_rfl)
              exact E2x0 x47 (hx2 _ (out_eq h2)).symm  _ _ _ _ hX
          · exact ⟨_, _, hX⟩
        · have h1 := ite_ff h1 hb
          refine wp_seq_k fun K76 hK76 => ?_
          refine wp_region_list ?_
          refine hX.part [] 1 [0, 2, 53] (l' := [(0, .v (.string ⟨⟨x41⟩⟩)), (2, .v (.slice A43 x42.length c44)), (53, .v (.string ⟨⟨x41⟩⟩))]) (B' := []) (by kernel_rfl) fun ρ w a hX => ?_
          obtain ⟨v57, hv57, h1⟩ := bnd_some h1
          refine hX.cutStr (lit := []) (by kernel_rfl) (by kernel_rfl) rfl (s := x41) (ol := none) (oh := some 1) (r := v57) (by kernel_rfl) (by kernel_rfl) (by kernel_rfl) (by kernel_rfl) hv57 fun a hX => ?_
          refine hX.part [] 2 [0, 2, 52] (l' := [(0, .v (.string ⟨⟨x41⟩⟩)), (2, .v (.slice A43 x42.length c44)), (52, .v (.bool (v57 == ([32] : Str))))]) (B' := []) (by kernel_rfl) fun ρ w a hX => ?_
          refine wpList_end ?_
          refine hK76 _ _ ?_
          refine Cx.cond hX (b := (v57 == ([32] : Str))) (by kernel_rfl) (fun hb => ?_) (fun hb => ?_)
          · have h1 := ite_tt h1 hb
            refine Cx.rseq hX [] [0, 2, 7] (l' := [(0, .v (.string ⟨⟨x41⟩⟩)), (2, .v (.slice A43 x42.length c44)), (7, .v (.int .i64 1))]) (B' := []) (by kernel_rfl) fun ρ w a hX => ?_
            refine wp_block ?_
            have hX := hX.keeps [0, 2, 7] (l' := [(0, .v (.string ⟨⟨x41⟩⟩)), (2, .v (.slice A43 x42.length c44)), (7, .v (.int .i64 1))]) (by kernel_rfl)
            obtain ⟨e2, he2, h1⟩ := bnd_some h1
            have E2x0 : ∀ (_ : Unit), e2 = (.inl ()) → ∀ (ρ : Nat → Nat) (w : World) (F : Heap) (a : Act), Cx 98 w0 F0 No w F [] [] ρ [] a → K60 a w := by
              intro _ he  ρ w F a hX
              replace he := he.symm
              subst he
              (try dsimp only at h1)
              have hX := hX.keeps [] (l' := []) (by kernel_rfl)
              exact J60 () h1  _ _ _ _ hX
            have E2x2 : ∀ (x81 : Str) (x82 : List T_api_Part), e2 = (.inr (.inr (x81, x82))) → ∀ (A83 : Option Addr) (c84 : Nat) (ρ : Nat → Nat) (w : World) (F : Heap) (a : Act), Cx 98 w0 F0 No w F [accP 40 kT_api_Part A83 c84 x82] [] ρ [(0, .v (.string ⟨⟨x81⟩⟩)), (2, .v (.slice A83 x82.length c84))] a → LW1 a w := by
              intro x81 x82 he A83 c84 ρ w F a hX
              replace he := he.symm
              subst he
              (try dsimp only at h1)
              have hX := hX.keeps [0, 2] (l' := [(0, .v (.string ⟨⟨x81⟩⟩)), (2, .v (.slice A83 x82.length c84))]) (by kernel_rfl)
              exact hb1 (x81, x82) (out_eq h1) _ _ ⟨A83, c84, _, _, hX⟩
            refine loop_go (fun (x68 : Int) a w => ∃ (ρ : Nat → Nat) (F : Heap), Cx 98 w0 F0 No w F [accP 40 kT_api_Part A43 c44 x42] [] ρ [(0, .v (.string ⟨⟨x41⟩⟩)), (2, .v (.slice A43 x42.length c44)), (7, .v (.int .i64 x68))] a) he2 (fun LW2 x68 o2 h2 hb2 hx2 a w hI => ?_) _ _ ?_
            · obtain ⟨ρ, F, hX⟩ := hI
              unfold order_Decode.l5 at h2
              (try dsimp only at h2)
              refine wp_seq_k fun K93 hK93 => ?_
              refine Cx.rseq hX [] [0, 2, 7, 60] (l' := [(0, .v (.string ⟨⟨x41⟩⟩)), (2, .v (.slice A43 x42.length c44)), (7, .v (.int .i64 x68)), (60, .v (.bool (decide ((IntKind.wrap .i64 (x68 + 1)) < ((x41.length : Nat) : Int)))))]) (B' := []) (by kernel_rfl) fun ρ w a hX => ?_
              refine Cx.cond hX (b := (decide ((IntKind.wrap .i64 (x68 + 1)) < ((x41.length : Nat) : Int)))) (by kernel_rfl) (fun hb => ?_) (fun hb => ?_)
              · have h2 := ite_tt h2 hb
                refine wp_skip ?_
                refine hK93 _ _ ?_
                refine wp_block ?_
                refine wp_seq_k fun K95 hK95 => ?_
                refine wp_seq_k fun K96 hK96 => ?_
                refine wp_region_list ?_
                refine hX.part [] 2 [0, 2, 7, 61, 62] (l' := [(0, .v (.string ⟨⟨x41⟩⟩)), (2, .v (.slice A43 x42.length c44)), (7, .v (.int .i64 x68)), (61, .v (.string ⟨⟨x41⟩⟩)), (62, .v (.int .i64 x68))]) (B' := []) (by kernel_rfl) fun ρ w a hX => ?_
                obtain ⟨v69, hv69, h2⟩ := bnd_some h2
                refine hX.idxStr (lit := []) (by kernel_rfl) (by kernel_rfl) rfl (s := x41) (k := .i64) (n := x68) (b := v69) (by kernel_rfl) (by kernel_rfl) (by kernel_rfl) hv69 fun a hX => ?_
                refine hX.part [] 1 [0, 2, 7, 64] (l' := [(0, .v (.string ⟨⟨x41⟩⟩)), (2, .v (.slice A43 x42.length c44)), (7, .v (.int .i64 x68)), (64, .v (.bool (v69 != 0)))]) (B' := []) (by kernel_rfl) fun ρ w a hX => ?_
                refine wpList_end ?_
                refine hK96 _ _ ?_
                refine Cx.cond hX (b := (v69 != 0)) (by kernel_rfl) (fun hb => ?_) (fun hb => ?_)
                · have h2 := ite_tt h2 hb
                  refine Cx.rseq hX [] [0, 2, 7] (l' := [(0, .v (.string ⟨⟨x41⟩⟩)), (2, .v (.slice A43 x42.length c44)), (7, .v (.int .i64 (IntKind.wrap .i64 (x68 + 1))))]) (B' := []) (by kernel_rfl) fun ρ w a hX => ?_
                  refine wp_exit ?_
                  have hX := hX.keeps [0, 2, 7] (l' := [(0, .v (.string ⟨⟨x41⟩⟩)), (2, .v (.slice A43 x42.length c44)), (7, .v (.int .i64 (IntKind.wrap .i64 (x68 + 1))))]) (by kernel_rfl)
                  exact hb2 (IntKind.wrap .i64 (x68 + 1)) (out_eq h2) _ _ ⟨_, _, hX⟩
                · have h2 := ite_ff h2 hb
                  refine wp_skip ?_
                  refine hK95 _ _ ?_
                  refine wp_seq_k fun K98 hK98 => ?_
                  refine wp_seq_k fun K99 hK99 => ?_
                  refine wp_region_list ?_
                  refine hX.part [] 4 [0, 2, 7, 67, 68, 70] (l' := [(0, .v (.string ⟨⟨x41⟩⟩)), (2, .v (.slice A43 x42.length c44)), (7, .v (.int .i64 x68)), (67, .v (.string ⟨⟨x41⟩⟩)), (68, .v (.int .i64 x68)), (70, .v (.int .i64 (IntKind.wrap .i64 (x68 + 2))))]) (B' := []) (by kernel_rfl) fun ρ w a hX => ?_
                  obtain ⟨v70, hv70, h2⟩ := bnd_some h2
                  refine hX.cutStr (lit := []) (by kernel_rfl) (by kernel_rfl) rfl (s := x41) (ol := some x68) (oh := some (IntKind.wrap .i64 (x68 + 2))) (r := v70) (by kernel_rfl) (by kernel_rfl) (by kernel_rfl) (by kernel_rfl) hv70 fun a hX => ?_
                  refine hX.part [] 1 [0, 2, 7, 72] (l' := [(0, .v (.string ⟨⟨x41⟩⟩)), (2, .v (.slice A43 x42.length c44)), (7, .v (.int .i64 x68)), (72, .v (.bool (v70 == ([0, 1] : Str))))]) (B' := []) (by kernel_rfl) fun ρ w a hX => ?_
                  refine wpList_end ?_
                  refine hK99 _ _ ?_
                  refine Cx.cond hX (b := (v70 == ([0, 1] : Str))) (by kernel_rfl) (fun hb => ?_) (fun hb => ?_)
                  · have h2 := ite_tt h2 hb
                    refine wp_seq_k fun K100 hK100 => ?_
                    refine wp_region_list ?_
                    refine hX.part [] 2 [0, 2, 7, 73, 74] (l' := [(0, .v (.string ⟨⟨x41⟩⟩)), (2, .v (.slice A43 x42.length c44)), (7, .v (.int .i64 x68)), (73, .v (.string ⟨⟨x41⟩⟩)), (74, .v (.int .i64 x68))]) (B' := []) (by kernel_rfl) fun ρ w a hX => ?_
                    obtain ⟨v71, hv71, h2⟩ := bnd_some h2
                    refine hX.cutStr (lit := []) (by kernel_rfl) (by kernel_rfl) rfl (s := x41) (ol := some 1) (oh := some x68) (r := v71) (by kernel_rfl) (by kernel_rfl) (by kernel_rfl) (by kernel_rfl) hv71 fun a hX => ?_
                    refine hX.part [] 0 [0, 2, 7, 75] (l' := [(0, .v (.string ⟨⟨x41⟩⟩)), (2, .v (.slice A43 x42.length c44)), (7, .v (.int .i64 x68)), (75, .v (.string ⟨⟨v71⟩⟩))]) (B' := []) (by kernel_rfl) fun ρ w a hX => ?_
                    obtain ⟨v72, hv72, h2⟩ := bnd_some h2
                    refine Cx.call0 hX (lit := []) (by kernel_rfl) rfl (by kernel_rfl) ⟨⟨_, Tryd.func24, by kernel_rfl, rfl⟩⟩ (ss := [.v (.string ⟨⟨v71⟩⟩), .v (.string ⟨⟨([0, 255] : Str)⟩⟩), .v (.string ⟨⟨([0] : Str)⟩⟩)]) (by kernel_rfl) [.v (.string ⟨⟨v71⟩⟩), .v (.string ⟨⟨([0, 255] : Str)⟩⟩), .v (.string ⟨⟨([0] : Str)⟩⟩)] rfl (fun hg => hg) (fun hv hle hg => strings_ReplaceAll.ok v71 ([0, 255] : Str) ([0] : Str) v72 hv72 _ _ hv (hG.mono hle) hg _) (fun s F w a hp hX => ?_)
                    subst hp
                    refine hX.part [] 1 [0, 2, 7, 8] (l' := [(0, .v (.string ⟨⟨x41⟩⟩)), (2, .v (.slice A43 x42.length c44)), (7, .v (.int .i64 x68)), (8, .v (.string ⟨⟨v72⟩⟩))]) (B' := []) (by kernel_rfl) fun ρ w a hX => ?_
                    refine wpList_end ?_
                    refine hK100 _ _ ?_
                    refine wp_seq_k fun K101 hK101 => ?_
                    refine wp_seq_k fun K102 hK102 => ?_
                    refine wp_region_list ?_
                    refine hX.part [] 1 [0, 2, 7, 8, 77] (l' := [(0, .v (.string ⟨⟨x41⟩⟩)), (2, .v (.slice A43 x42.length c44)), (7, .v (.int .i64 x68)), (8, .v (.string ⟨⟨v72⟩⟩)), (77, .v (.string ⟨⟨v72⟩⟩))]) (B' := []) (by kernel_rfl) fun ρ w a hX => ?_
                    obtain ⟨v73, hv73, h2⟩ := bnd_some h2
                    refine Cx.call0 hX (lit := []) (by kernel_rfl) rfl (by kernel_rfl) ⟨⟨_, Tryd.func25, by kernel_rfl, rfl⟩⟩ (ss := [.v (.string ⟨⟨v72⟩⟩)]) (by kernel_rfl) [.v (.string ⟨⟨v72⟩⟩)] rfl (fun hg => hg) (fun hv hle hg => units_Check.ok v72 v73 hv73 _ _ hv (hG.mono hle) hg _) (fun s F w a hp hX => ?_)
                    subst hp
                    refine hX.part [] 1 [0, 2, 7, 8, 79] (l' := [(0, .v (.string ⟨⟨x41⟩⟩)), (2, .v (.slice A43 x42.length c44)), (7, .v (.int .i64 x68)), (8, .v (.string ⟨⟨v72⟩⟩)), (79, .v (.bool (!v73)))]) (B' := []) (by kernel_rfl) fun ρ w a hX => ?_
                    refine wpList_end ?_
                    refine hK102 _ _ ?_
                    refine Cx.cond hX (b := (!v73)) (by kernel_rfl) (fun hb => ?_) (fun hb => ?_)
                    · have h2 := ite_tt h2 hb
                      refine Cx.rseq hX [] [2, 3] (l' := [(2, .v (.slice none 0 0)), (3, .v (.int .i64 22))]) (B' := []) (by kernel_rfl) fun ρ w a hX => ?_
                      refine wp_ret ?_
                      have hX := hX.nilSl 2 kT_api_Part (by kernel_rfl)
                      have he := hx2 _ (out_eq h2)
                      subst he
                      (try dsimp only at h1)
                      have he := hx1 _ (out_eq h1)
                      subst he
                      (try dsimp only at h0)
                      have hr := Option.some.inj (show some _ = some _ from h0)
                      subst hr
                      exact hX.ret0 (ss := [SV.sl kT_api_Part ([] : List T_api_Part) none 0, .v (.int .i64 22)]) (by kernel_rfl) (by kernel_rfl) ⟨_, _, rfl, ⟨_, _, rfl⟩, rfl⟩
                    · have h2 := ite_ff h2 hb
                      refine wp_skip ?_
                      refine hK101 _ _ ?_
                      refine wp_seq_k fun K104 hK104 => ?_
                      have hGd := hG.mono hX.st.le
                      refine hX.draw rfl (n := 11) rfl #[false, false, false, false, false, false, false, false, false, false, false] (by kernel_rfl) fun w D' back hX => ?_
                      refine hX.dq 0 rfl rfl (listed' := #[true, false, false, false, false, false, false, false, false, false, false]) (by kernel_rfl) (by kernel_rfl) (s := .v (.slice A43 x42.length c44)) (by kernel_rfl) fun a hX => ?_
                      refine hX.dq 1 rfl rfl (listed' := #[true, true, false, false, false, false, false, false, false, false, false]) (by kernel_rfl) (by kernel_rfl) (s := .v (.string ⟨⟨v72⟩⟩)) (by kernel_rfl) fun a hX => ?_
                      refine hX.dq 2 rfl rfl (listed' := #[true, true, true, false, false, false, false, false, false, false, false]) (by kernel_rfl) (by kernel_rfl) (s := .agg [.v (.bool true), .v (.int .i64 0), .v (.string ⟨⟨v72⟩⟩)]) (by kernel_rfl) fun a hX => ?_
                      refine hX.dq 5 rfl rfl (listed' := #[true, true, true, false, false, true, false, false, false, false, false]) (by kernel_rfl) (by kernel_rfl) (s := .v (.string ⟨⟨x41⟩⟩)) (by kernel_rfl) fun a hX => ?_
                      refine hX.dq 6 rfl rfl (listed' := #[true, true, true, false, false, true, true, false, false, false, false]) (by kernel_rfl) (by kernel_rfl) (s := .v (.int .i64 x68)) (by kernel_rfl) fun a hX => ?_
                      refine hX.dq 7 rfl rfl (listed' := #[true, true, true, false, false, true, true, true, false, false, false]) (by kernel_rfl) (by kernel_rfl) (s := .v (.int .i64 (IntKind.wrap .i64 (x68 + 2)))) (by kernel_rfl) fun a hX => ?_
                      obtain ⟨v74, hv74, h2⟩ := bnd_some h2
                      refine hX.dCutStr 8 rfl rfl (listed' := #[true, true, true, false, false, true, true, true, true, false, false]) (by kernel_rfl) (by kernel_rfl) rfl (s := x41) (ol := some (IntKind.wrap .i64 (x68 + 2))) (oh := none) (r := v74) (by kernel_rfl) (by kernel_rfl) (by kernel_rfl) (by kernel_rfl) hv74 fun a hX => ?_
                      refine dseq (listed' := #[true, true, true, true, false, true, true, true, true, false, false]) 3 (by kernel_rfl) rfl (by kernel_rfl) ?_
                      refine hX.part [] 1 [0, 2, 7, 8, 79, 80, 81, 82, 83, 85, 86, 87, 88] (l' := [(0, .v (.string ⟨⟨x41⟩⟩)), (2, .v (.slice A43 x42.length c44)), (7, .v (.int .i64 x68)), (8, .v (.string ⟨⟨v72⟩⟩)), (79, .v (.bool (!v73))), (80, .v (.slice A43 x42.length c44)), (81, .v (.string ⟨⟨v72⟩⟩)), (82, .agg [.v (.bool true), .v (.int .i64 0), .v (.string ⟨⟨v72⟩⟩)]), (83, .slc 0 0 1 1), (85, .v (.string ⟨⟨x41⟩⟩)), (86, .v (.int .i64 x68)), (87, .v (.int .i64 (IntKind.wrap .i64 (x68 + 2)))), (88, .v (.string ⟨⟨v74⟩⟩))]) (B' := [some ⟨40, [.v (.bool true), .v (.int .i64 0), .v (.string ⟨⟨v72⟩⟩)]⟩]) (by kernel_rfl) fun ρ w a hX => ?_
                      refine dnext hX.st.sub0 ?_
                      refine dseq (listed' := #[true, true, true, true, true, true, true, true, true, false, false]) 4 (by kernel_rfl) rfl (by kernel_rfl) ?_
                      obtain ⟨u77, hu77, h2⟩ := bnd_some h2
                      refine hX.appLit (d := kT_api_Part) (k := 0) (m := 1) (bytes := 32) (cells := [.v (.bool true), .v (.int .i64 0), .v (.string ⟨⟨v72⟩⟩)]) (lit := []) (i := 0) (e := 40) (xs := x42) (A := A43) (c := c44) ([(({ IsText := true, N := 0, S := v72 } : T_api_Part), ())] : List (T_api_Part × (kT_api_Part).Y)) (by kernel_rfl) (by kernel_rfl) rfl rfl (by kernel_rfl) (by kernel_rfl) (by kernel_rfl) (by kernel_rfl) (by kernel_rfl) rfl rfl (by decide) hu77 ⟨_, rfl⟩ fun A75 c76 w a hX => ?_
                      have hX : Cx 98 _ _ _ _ _ [accP 40 kT_api_Part A75 c76 (x42 ++ [({ IsText := true, N := 0, S := v72 } : T_api_Part)])] [some ⟨40, [.v (.bool true), .v (.int .i64 0), .v (.string ⟨⟨v72⟩⟩)]⟩] ρ _ a := hX
                      refine dnext hX.st.sub0 ?_
                      refine hX.dq 9 rfl rfl (listed' := #[true, true, true, true, true, true, true, true, true, true, false]) (by kernel_rfl) (by kernel_rfl) (s := .v (.slice A75 (x42 ++ [({ IsText := true, N := 0, S := v72 } : T_api_Part)]).length c76)) (by kernel_rfl) fun a hX => ?_
                      refine hX.dq 10 rfl rfl (listed' := #[true, true, true, true, true, true, true, true, true, true, true]) (by kernel_rfl) (by kernel_rfl) (s := .v (.string ⟨⟨v74⟩⟩)) (by kernel_rfl) fun a hX => ?_
                      have hX := back hX
                      refine ddone (by kernel_rfl) ?_
                      refine hK104 _ _ ?_
                      refine wp_exit ?_
                      have hX := hX.keeps [0, 2] (l' := [(0, .v (.string ⟨⟨v74⟩⟩)), (2, .v (.slice A75 (x42 ++ [({ IsText := true, N := 0, S := v72 } : T_api_Part)]).length c76))]) (by kernel_rfl)
                      have hX := hX.shrink 0 (B' := []) (by kernel_rfl) (Nat.le_of_ble_eq_true rfl) (by kernel_rfl) (by kernel_rfl)
                      exact E2x2 v74 (x42 ++ [({ IsText := true, N := 0, S := v72 } : T_api_Part)]) (hx2 _ (out_eq h2)).symm A75 c76 _ _ _ _ hX
                  · have h2 := ite_ff h2 hb
                    refine wp_skip ?_
                    refine hK98 _ _ ?_
                    refine wp_seq_k fun K105 hK105 => ?_
                    refine wp_seq_k fun K106 hK106 => ?_
                    refine wp_region_list ?_
                    refine hX.part [] 4 [0, 2, 7, 89, 90, 92] (l' := [(0, .v (.string ⟨⟨x41⟩⟩)), (2, .v (.slice A43 x42.length c44)), (7, .v (.int .i64 x68)), (89, .v (.string ⟨⟨x41⟩⟩)), (90, .v (.int .i64 x68)), (92, .v (.int .i64 (IntKind.wrap .i64 (x68 + 2))))]) (B' := []) (by kernel_rfl) fun ρ w a hX => ?_
                    obtain ⟨v78, hv78, h2⟩ := bnd_some h2
                    refine hX.cutStr (lit := []) (by kernel_rfl) (by kernel_rfl) rfl (s := x41) (ol := some x68) (oh := some (IntKind.wrap .i64 (x68 + 2))) (r := v78) (by kernel_rfl) (by kernel_rfl) (by kernel_rfl) (by kernel_rfl) hv78 fun a hX => ?_
                    refine hX.part [] 1 [0, 2, 7, 94] (l' := [(0, .v (.string ⟨⟨x41⟩⟩)), (2, .v (.slice A43 x42.length c44)), (7, .v (.int .i64 x68)), (94, .v (.bool (!(v78 == ([0, 255] : Str)))))]) (B' := []) (by kernel_rfl) fun ρ w a hX => ?_
                    refine wpList_end ?_
                    refine hK106 _ _ ?_
                    refine Cx.cond hX (b := (!(v78 == ([0, 255] : Str)))) (by kernel_rfl) (fun hb => ?_) (fun hb => ?_)
                    · have h2 := ite_tt h2 hb
                      refine Cx.rseq hX [] [2, 3] (l' := [(2, .v (.slice none 0 0)), (3, .v (.int .i64 22))]) (B' := []) (by kernel_rfl) fun ρ w a hX => ?_
                      refine wp_ret ?_
                      have hX := hX.nilSl 2 kT_api_Part (by kernel_rfl)
                      have he := hx2 _ (out_eq h2)
                      subst he
                      (try dsimp only at h1)
                      have he := hx1 _ (out_eq h1)
                      subst he
                      (try dsimp only at h0)
                      have hr := Option.some.inj (show some _ = some _ from h0)
                      subst hr
                      exact hX.ret0 (ss := [SV.sl kT_api_Part ([] : List T_api_Part) none 0, .v (.int .i64 22)]) (by kernel_rfl) (by kernel_rfl) ⟨_, _, rfl, ⟨_, _, rfl⟩, rfl⟩
                    · have h2 := ite_ff h2 hb
                      refine wp_skip ?_
                      refine hK105 _ _ ?_
                      refine Cx.region hX [] [0, 2, 7] (l' := [(0, .v (.string ⟨⟨x41⟩⟩)), (2, .v (.slice A43 x42.length c44)), (7, .v (.int .i64 (IntKind.wrap .i64 (x68 + 2))))]) (B' := []) (by kernel_rfl) fun ρ w a hX => ?_
                      have hX := hX.keeps [0, 2, 7] (l' := [(0, .v (.string ⟨⟨x41⟩⟩)), (2, .v (.slice A43 x42.length c44)), (7, .v (.int .i64 (IntKind.wrap .i64 (x68 + 2))))]) (by kernel_rfl)
                      exact hb2 (IntKind.wrap .i64 (x68 + 2)) (out_eq h2) _ _ ⟨_, _, hX⟩
              · have h2 := ite_ff h2 hb
                refine wp_exit ?_
                have hX := hX.dropL 0 rfl rfl
                have hX := hX.keeps [] (l' := []) (by kernel_rfl)
                exact E2x0 () (hx2 _ (out_eq h2)).symm  _ _ _ _ hX
            · exact ⟨_, _, hX⟩
          · have h1 := ite_ff h1 hb
            refine wp_skip ?_
            have hX := hX.dropL 0 rfl rfl
            have hX := hX.keeps [] (l' := []) (by kernel_rfl)
            exact J60 () h1  _ _ _ _ hX
      · have h1 := ite_ff h1 hb
        refine wp_exit ?_
        have hX := hX.keeps [2] (l' := [(2, .v (.slice A43 x42.length c44))]) (by kernel_rfl)
        exact E1x0 x42 (hx1 _ (out_eq h1)).symm A43 c44 _ _ _ _ hX
    · exact ⟨none, 0, _, _, hX⟩
def ref05_number.l1 (s_ : Str) (s : Int × Int) : Option ((Int × Int) ⊕ ((Int))) := match s with
  | (x2, x3) =>
  if (decide (x3 < 9)) = true then
    Option.bind (getB s_ x3) fun v4 =>
    some (.inl ((IntKind.wrap .u64 ((BitVec.ofInt 64 (IntKind.wrap .u64 (x2 * 2 ^ 8)) ||| BitVec.ofInt 64 (IntKind.wrap .u64 v4)).toNat)), (IntKind.wrap .i64 (x3 + 1))))
  else
    some (.inr x2)
def ref05_number (s_ : Str) : Option (T_api_Part × Int) :=
  if (decide (((s_.length : Nat) : Int) < 9)) = true then
    some (({ IsText := false, N := 0, S := ([] : Str) } : T_api_Part), 0)
  else
    Option.bind (loopM (ref05_number.l1 s_) (0, 1)) fun e => match e with
    | x7 =>
      some (({ IsText := false, N := (IntKind.wrap .i64 (IntKind.wrap .u64 (x7 - 9223372036854775808))), S := ([] : Str) } : T_api_Part), 9)
theorem ref05_number.ok (s_ : Str) (r : T_api_Part × Int) (h0 : ref05_number s_ = some r) (w0 : World) (F0 : Heap) (hv : F0.Sub w0) (hG : Glob F0) (hg : SV.goods F0 [.v (.string ⟨⟨s_⟩⟩)]) (ρ : Nat → Nat) :
    Calls Tryd.prog 26 (SV.dens ρ [.v (.string ⟨⟨s_⟩⟩)]).toArray w0 (Ret0 w0 F0 fun s => ∃ s1 s2, s = .tup [s1, s2] ∧ (s1 = .agg (fT_api_Part r.1 ())) ∧ (s2 = .v (.int .i64 r.2))) := by
  refine calls_of_wp Tryd.func26 rfl ?_
  have hX := Cx.enter (D := No) (B := []) (L := []) (ρ := ρ) (N := 25) Tryd.ntmps26 [.v (.string ⟨⟨s_⟩⟩)] (St.start hv) rfl hg (by kernel_rfl) (fun _ h => by cases h) (Nat.le_of_ble_eq_true rfl)
  unfold ref05_number at h0
  refine Cx.rseq hX [] [0, 2] (l' := [(0, .v (.string ⟨⟨s_⟩⟩)), (2, .ptr 0 0)]) (B' := [some ⟨40, [.v (.bool false), .v (.int .i64 0), .v (.string ⟨⟨([] : Str)⟩⟩)]⟩]) (by kernel_rfl) fun ρ w a hX => ?_
  refine wp_seq_k fun K2 hK2 => ?_
  refine Cx.rseq hX [] [0, 2, 8] (l' := [(0, .v (.string ⟨⟨s_⟩⟩)), (2, .ptr 0 0), (8, .v (.bool (decide (((s_.length : Nat) : Int) < 9))))]) (B' := [some ⟨40, [.v (.bool false), .v (.int .i64 0), .v (.string ⟨⟨([] : Str)⟩⟩)]⟩]) (by kernel_rfl) fun ρ w a hX => ?_
  refine Cx.cond hX (b := (decide (((s_.length : Nat) : Int) < 9))) (by kernel_rfl) (fun hb => ?_) (fun hb => ?_)
  · have h0 := ite_tt h0 hb
    refine Cx.rseq hX [] [2, 3] (l' := [(2, .ptr 0 0), (3, .v (.int .i64 0))]) (B' := [some ⟨40, [.v (.bool false), .v (.int .i64 0), .v (.string ⟨⟨([] : Str)⟩⟩)]⟩]) (by kernel_rfl) fun ρ w a hX => ?_
    refine wp_ret ?_
    have hr := Option.some.inj (show some _ = some _ from h0)
    subst hr
    exact hX.retC (ss := [.agg [.v (.bool false), .v (.int .i64 0), .v (.string ⟨⟨([] : Str)⟩⟩)], .v (.int .i64 0)]) (by kernel_rfl) (by kernel_rfl) ⟨_, _, rfl, rfl, rfl⟩
  · have h0 := ite_ff h0 hb
    refine wp_skip ?_
    refine hK2 _ _ ?_
    refine Cx.rseq hX [] [0, 2, 4] (l' := [(0, .v (.string ⟨⟨s_⟩⟩)), (2, .ptr 0 0), (4, .v (.int .u64 0))]) (B' := [some ⟨40, [.v (.bool false), .v (.int .i64 0), .v (.string ⟨⟨([] : Str)⟩⟩)]⟩]) (by kernel_rfl) fun ρ w a hX => ?_
    refine wp_seq_k fun K6 hK6 => ?_
    refine Cx.rseq hX [] [0, 2, 4, 5] (l' := [(0, .v (.string ⟨⟨s_⟩⟩)), (2, .ptr 0 0), (4, .v (.int .u64 0)), (5, .v (.int .i64 1))]) (B' := [some ⟨40, [.v (.bool false), .v (.int .i64 0), .v (.string ⟨⟨([] : Str)⟩⟩)]⟩]) (by kernel_rfl) fun ρ w a hX => ?_
    refine wp_block ?_
    have hX := hX.keeps [0, 2, 4, 5] (l' := [(0, .v (.string ⟨⟨s_⟩⟩)), (2, .ptr 0 0), (4, .v (.int .u64 0)), (5, .v (.int .i64 1))]) (by kernel_rfl)
    obtain ⟨e1, he1, h0⟩ := bnd_some h0
    have E1x0 : ∀ (x7 : Int), e1 = x7 → ∀ (ρ : Nat → Nat) (w : World) (F : Heap) (a : Act), Cx 25 w0 F0 No w F [] [some ⟨40, [.v (.bool false), .v (.int .i64 0), .v (.string ⟨⟨([] : Str)⟩⟩)]⟩] ρ [(2, .ptr 0 0), (4, .v (.int .u64 x7))] a → K6 a w := by
      intro x7 he  ρ w F a hX
      replace he := he.symm
      subst he
      (try dsimp only at h0)
      refine hK6 _ _ ?_
      refine Cx.rseq hX [] [2, 3] (l' := [(2, .ptr 0 0), (3, .v (.int .i64 9))]) (B' := [some ⟨40, [.v (.bool false), .v (.int .i64 (IntKind.wrap .i64 (IntKind.wrap .u64 (x7 - 9223372036854775808)))), .v (.string ⟨⟨([] : Str)⟩⟩)]⟩]) (by kernel_rfl) fun ρ w a hX => ?_
      refine wp_ret ?_
      have hr := Option.some.inj (show some _ = some _ from h0)
      subst hr
      exact hX.retC (ss := [.agg [.v (.bool false), .v (.int .i64 (IntKind.wrap .i64 (IntKind.wrap .u64 (x7 - 9223372036854775808)))), .v (.string ⟨⟨([] : Str)⟩⟩)], .v (.int .i64 9)]) (by kernel_rfl) (by kernel_rfl) ⟨_, _, rfl, rfl, rfl⟩
    refine loop_go (fun (s : Int × Int) a w => match s with | (x2, x3) => ∃ (ρ : Nat → Nat) (F : Heap), Cx 25 w0 F0 No w F [] [some ⟨40, [.v (.bool false), .v (.int .i64 0), .v (.string ⟨⟨([] : Str)⟩⟩)]⟩] ρ [(0, .v (.string ⟨⟨s_⟩⟩)), (2, .ptr 0 0), (4, .v (.int .u64 x2)), (5, .v (.int .i64 x3))] a) he1 (fun LW1 s o1 h1 hb1 hx1 a w hI => ?_) _ _ ?_
    · obtain ⟨x2, x3⟩ := s
      obtain ⟨ρ, F, hX⟩ := hI
      unfold ref05_number.l1 at h1
      (try dsimp only at h1)
      refine wp_seq_k fun K11 hK11 => ?_
      refine Cx.rseq hX [] [0, 2, 4, 5, 11] (l' := [(0, .v (.string ⟨⟨s_⟩⟩)), (2, .ptr 0 0), (4, .v (.int .u64 x2)), (5, .v (.int .i64 x3)), (11, .v (.bool (decide (x3 < 9))))]) (B' := [some ⟨40, [.v (.bool false), .v (.int .i64 0), .v (.string ⟨⟨([] : Str)⟩⟩)]⟩]) (by kernel_rfl) fun ρ w a hX => ?_
      refine Cx.cond hX (b := (decide (x3 < 9))) (by kernel_rfl) (fun hb => ?_) (fun hb => ?_)
      · have h1 := ite_tt h1 hb
        refine wp_skip ?_
        refine hK11 _ _ ?_
        refine wp_seq_k fun K13 hK13 => ?_
        refine wp_block ?_
        refine wp_region_list ?_
        refine hX.part [] 4 [0, 2, 4, 5, 15, 16, 17] (l' := [(0, .v (.string ⟨⟨s_⟩⟩)), (2, .ptr 0 0), (4, .v (.int .u64 x2)), (5, .v (.int .i64 x3)), (15, .v (.int .u64 (IntKind.wrap .u64 (x2 * 2 ^ 8)))), (16, .v (.string ⟨⟨s_⟩⟩)), (17, .v (.int .i64 x3))]) (B' := [some ⟨40, [.v (.bool false), .v (.int .i64 0), .v (.string ⟨⟨([] : Str)⟩⟩)]⟩]) (by kernel_rfl) fun ρ w a hX => ?_
        obtain ⟨v4, hv4, h1⟩ := bnd_some h1
        refine hX.idxStr (lit := []) (by kernel_rfl) (by kernel_rfl) rfl (s := s_) (k := .i64) (n := x3) (b := v4) (by kernel_rfl) (by kernel_rfl) (by kernel_rfl) hv4 fun a hX => ?_
        refine hX.part [] 3 [0, 2, 4, 5] (l' := [(0, .v (.string ⟨⟨s_⟩⟩)), (2, .ptr 0 0), (4, .v (.int .u64 (IntKind.wrap .u64 ((BitVec.ofInt 64 (IntKind.wrap .u64 (x2 * 2 ^ 8)) ||| BitVec.ofInt 64 (IntKind.wrap .u64 v4)).toNat)))), (5, .v (.int .i64 x3))]) (B' := [some ⟨40, [.v (.bool false), .v (.int .i64 0), .v (.string ⟨⟨([] : Str)⟩⟩)]⟩]) (by kernel_rfl) fun ρ w a hX => ?_
        refine wpList_end ?_
        refine hK13 _ _ ?_
        refine Cx.region hX [] [0, 2, 4, 5] (l' := [(0, .v (.string ⟨⟨s_⟩⟩)), (2, .ptr 0 0), (4, .v (.int .u64 (IntKind.wrap .u64 ((BitVec.ofInt 64 (IntKind.wrap .u64 (x2 * 2 ^ 8)) ||| BitVec.ofInt 64 (IntKind.wrap .u64 v4)).toNat)))), (5, .v (.int .i64 (IntKind.wrap .i64 (x3 + 1))))]) (B' := [some ⟨40, [.v (.bool false), .v (.int .i64 0), .v (.string ⟨⟨([] : Str)⟩⟩)]⟩]) (by kernel_rfl) fun ρ w a hX => ?_
        have hX := hX.keeps [0, 2, 4, 5] (l' := [(0, .v (.string ⟨⟨s_⟩⟩)), (2, .ptr 0 0), (4, .v (.int .u64 (IntKind.wrap .u64 ((BitVec.ofInt 64 (IntKind.wrap .u64 (x2 * 2 ^ 8)) ||| BitVec.ofInt 64 (IntKind.wrap .u64 v4)).toNat)))), (5, .v (.int .i64 (IntKind.wrap .i64 (x3 + 1))))]) (by kernel_rfl)
        exact hb1 ((IntKind.wrap .u64 ((BitVec.ofInt 64 (IntKind.wrap .u64 (x2 * 2 ^ 8)) ||| BitVec.ofInt 64 (IntKind.wrap .u64 v4)).toNat)), (IntKind.wrap .i64 (x3 + 1))) (out_eq h1) _ _ ⟨_, _, hX⟩
      · have h1 := ite_ff h1 hb
        refine wp_exit ?_
        have hX := hX.keeps [2, 4] (l' := [(2, .ptr 0 0), (4, .v (.int .u64 x2))]) (by kernel_rfl)
        exact E1x0 x2 (hx1 _ (out_eq h1)).symm  _ _ _ _ hX
    · exact ⟨_, _, hX⟩
def ref05_text.j4 (x35 : Int) (x36 : List UInt8) : Option ((Int × (List UInt8)) ⊕ ((Unit) ⊕ (T_api_Part × Int))) :=
  some (.inl ((IntKind.wrap .i64 (x35 + 1)), x36))
def ref05_text.j3 (s_ : Str) (x18 : Int) (x19 : List UInt8) (b26 : UInt8) (x30 : Bool) : Option ((Int × (List UInt8)) ⊕ ((Unit) ⊕ (T_api_Part × Int))) :=
  if x30 = true then
    some (.inr (.inr (({ IsText := false, N := 0, S := ([] : Str) } : T_api_Part), 0)))
  else
    Option.bind (getB s_ (IntKind.wrap .i64 (x18 + 1))) fun v31 =>
    if (v31 == 1) = true then
      Option.bind (cutL (x19 ++ [b26]) 0 (IntKind.wrap .i64 ((((x19 ++ [b26]).length : Nat) : Int) - 1))) fun v32 =>
      some (.inr (.inr (({ IsText := true, N := 0, S := v32 } : T_api_Part), (IntKind.wrap .i64 ((IntKind.wrap .i64 (x18 + 1)) + 1)))))
    else
      ref05_text.j4 (IntKind.wrap .i64 (x18 + 1)) (x19 ++ [b26])
def ref05_text.l1 (s_ : Str) (s : Int × (List UInt8)) : Option ((Int × (List UInt8)) ⊕ ((Unit) ⊕ (T_api_Part × Int))) := match s with
  | (x18, x19) =>
  if (decide (x18 < ((s_.length : Nat) : Int))) = true then
    Option.bind (getB s_ x18) fun v22 =>
    Option.bind (toB v22) fun b26 =>
    Option.bind (room (x19.length + 1)) fun u25 =>
    Option.bind (getB s_ x18) fun v27 =>
    if (v27 != 0) = true then
      ref05_text.j4 x18 (x19 ++ [b26])
    else
      if (decide ((IntKind.wrap .i64 (x18 + 1)) ≥ ((s_.length : Nat) : Int))) = true then
        ref05_text.j3 s_ x18 x19 b26 true
      else
        Option.bind (getB s_ (IntKind.wrap .i64 (x18 + 1))) fun v28 =>
        if (v28 != 255) = true then
          Option.bind (getB s_ (IntKind.wrap .i64 (x18 + 1))) fun v29 =>
          ref05_text.j3 s_ x18 x19 b26 (v29 != 1)
        else
          ref05_text.j3 s_ x18 x19 b26 false
  else
    some (.inr (.inl ()))
def ref05_text (s_ : Str) : Option (T_api_Part × Int) :=
  Option.bind (loopM (ref05_text.l1 s_) (1, ([] : List UInt8))) fun e => match e with
  | (.inl ()) =>
    some (({ IsText := false, N := 0, S := ([] : Str) } : T_api_Part), 0)
  | (.inr r43) =>
    some r43
theorem ref05_text.ok (s_ : Str) (r : T_api_Part × Int) (h0 : ref05_text s_ = some r) (w0 : World) (F0 : Heap) (hv : F0.Sub w0) (hG : Glob F0) (hg : SV.goods F0 [.v (.string ⟨⟨s_⟩⟩)]) (ρ : Nat → Nat) :
    Calls Tryd.prog 27 (SV.dens ρ [.v (.string ⟨⟨s_⟩⟩)]).toArray w0 (Ret0 w0 F0 fun s => ∃ s1 s2, s = .tup [s1, s2] ∧ (s1 = .agg (fT_api_Part r.1 ())) ∧ (s2 = .v (.int .i64 r.2))) := by
  refine calls_of_wp Tryd.func27 rfl ?_
  have hX := Cx.enter (D := No) (B := []) (L := []) (ρ := ρ) (N := 55) Tryd.ntmps27 [.v (.string ⟨⟨s_⟩⟩)] (St.start hv) rfl hg (by kernel_rfl) (fun _ h => by cases h) (Nat.le_of_ble_eq_true rfl)
  unfold ref05_text at h0
  refine Cx.rseq hX [] [0, 2] (l' := [(0, .v (.string ⟨⟨s_⟩⟩)), (2, .ptr 0 0)]) (B' := [some ⟨40, [.v (.bool false), .v (.int .i64 0), .v (.string ⟨⟨([] : Str)⟩⟩)]⟩]) (by kernel_rfl) fun ρ w a hX => ?_
  refine Cx.rseq hX [] [0, 2, 4] (l' := [(0, .v (.string ⟨⟨s_⟩⟩)), (2, .ptr 0 0), (4, .v (.slice none 0 0))]) (B' := [some ⟨40, [.v (.bool false), .v (.int .i64 0), .v (.string ⟨⟨([] : Str)⟩⟩)]⟩]) (by kernel_rfl) fun ρ w a hX => ?_
  refine wp_seq_k fun K3 hK3 => ?_
  refine Cx.rseq hX [] [0, 2, 4, 5] (l' := [(0, .v (.string ⟨⟨s_⟩⟩)), (2, .ptr 0 0), (4, .v (.slice none 0 0)), (5, .v (.int .i64 1))]) (B' := [some ⟨40, [.v (.bool false), .v (.int .i64 0), .v (.string ⟨⟨([] : Str)⟩⟩)]⟩]) (by kernel_rfl) fun ρ w a hX => ?_
  refine wp_block ?_
  have hX := hX.newAcc 5 kByte
  have hX := hX.keeps [0, 2, 4, 5] (l' := [(0, .v (.string ⟨⟨s_⟩⟩)), (2, .ptr 0 0), (4, .v (.slice none ([] : List UInt8).length 0)), (5, .v (.int .i64 1))]) (by kernel_rfl)
  obtain ⟨e1, he1, h0⟩ := bnd_some h0
  have E1x0 : ∀ (_ : Unit), e1 = (.inl ()) → ∀ (ρ : Nat → Nat) (w : World) (F : Heap) (a : Act), Cx 55 w0 F0 No w F [] [some ⟨40, [.v (.bool false), .v (.int .i64 0), .v (.string ⟨⟨([] : Str)⟩⟩)]⟩] ρ [(2, .ptr 0 0)] a → K3 a w := by
    intro _ he  ρ w F a hX
    replace he := he.symm
    subst he
    (try dsimp only at h0)
    refine hK3 _ _ ?_
    refine Cx.rseq hX [] [2, 3] (l' := [(2, .ptr 0 0), (3, .v (.int .i64 0))]) (B' := [some ⟨40, [.v (.bool false), .v (.int .i64 0), .v (.string ⟨⟨([] : Str)⟩⟩)]⟩]) (by kernel_rfl) fun ρ w a hX => ?_
    refine wp_ret ?_
    have hr := Option.some.inj (show some _ = some _ from h0)
    subst hr
    exact hX.retC (ss := [.agg [.v (.bool false), .v (.int .i64 0), .v (.string ⟨⟨([] : Str)⟩⟩)], .v (.int .i64 0)]) (by kernel_rfl) (by kernel_rfl) ⟨_, _, rfl, rfl, rfl⟩
  refine loop_go (fun (s : Int × (List UInt8)) a w => match s with | (x18, x19) => ∃ (A20 : Option Addr) (c21 : Nat) (ρ : Nat → Nat) (F : Heap), Cx 55 w0 F0 No w F [accP 5 kByte A20 c21 x19] [some ⟨40, [.v (.bool false), .v (.int .i64 0), .v (.string ⟨⟨([] : Str)⟩⟩)]⟩] ρ [(0, .v (.string ⟨⟨s_⟩⟩)), (2, .ptr 0 0), (4, .v (.slice A20 x19.length c21)), (5, .v (.int .i64 x18))] a) he1 (fun LW1 s o1 h1 hb1 hx1 a w hI => ?_) _ _ ?_
  · obtain ⟨x18, x19⟩ := s
    obtain ⟨A20, c21, ρ, F, hX⟩ := hI
    unfold ref05_text.l1 at h1
    (try dsimp only at h1)
    refine wp_seq_k fun K17 hK17 => ?_
    refine Cx.rseq hX [] [0, 2, 4, 5, 9] (l' := [(0, .v (.string ⟨⟨s_⟩⟩)), (2, .ptr 0 0), (4, .v (.slice A20 x19.length c21)), (5, .v (.int .i64 x18)), (9, .v (.bool (decide (x18 < ((s_.length : Nat) : Int)))))]) (B' := [some ⟨40, [.v (.bool false), .v (.int .i64 0), .v (.string ⟨⟨([] : Str)⟩⟩)]⟩]) (by kernel_rfl) fun ρ w a hX => ?_
    refine Cx.cond hX (b := (decide (x18 < ((s_.length : Nat) : Int)))) (by kernel_rfl) (fun hb => ?_) (fun hb => ?_)
    · have h1 := ite_tt h1 hb
      refine wp_skip ?_
      refine hK17 _ _ ?_
      refine wp_seq_k fun K19 hK19 => ?_
      have J19 : ∀ (x35 : Int) (x36 : List UInt8), ref05_text.j4 x35 x36 = some o1 → ∀ (A37 : Option Addr) (c38 : Nat) (ρ : Nat → Nat) (w : World) (F : Heap) (a : Act), Cx 55 w0 F0 No w F [accP 5 kByte A37 c38 x36] [some ⟨40, [.v (.bool false), .v (.int .i64 0), .v (.string ⟨⟨([] : Str)⟩⟩)]⟩] ρ [(0, .v (.string ⟨⟨s_⟩⟩)), (2, .ptr 0 0), (4, .v (.slice A37 x36.length c38)), (5, .v (.int .i64 x35))] a → K19 a w := by
        intro x35 x36 h1 A37 c38 ρ w F a hX
        unfold ref05_text.j4 at h1
        refine hK19 _ _ ?_
        refine Cx.region hX [] [0, 2, 4, 5] (l' := [(0, .v (.string ⟨⟨s_⟩⟩)), (2, .ptr 0 0), (4, .v (.slice A37 x36.length c38)), (5, .v (.int .i64 (IntKind.wrap .i64 (x35 + 1))))]) (B' := [some ⟨40, [.v (.bool false), .v (.int .i64 0), .v (.string ⟨⟨([] : Str)⟩⟩)]⟩]) (by kernel_rfl) fun ρ w a hX => ?_
        have hX := hX.keeps [0, 2, 4, 5] (l' := [(0, .v (.string ⟨⟨s_⟩⟩)), (2, .ptr 0 0), (4, .v (.slice A37 x36.length c38)), (5, .v (.int .i64 (IntKind.wrap .i64 (x35 + 1))))]) (by kernel_rfl)
        exact hb1 ((IntKind.wrap .i64 (x35 + 1)), x36) (out_eq h1) _ _ ⟨A37, c38, _, _, hX⟩
      refine wp_block ?_
      refine wp_seq_k fun K20 hK20 => ?_
      refine wp_region_list ?_
      refine hX.part [] 3 [0, 2, 4, 5, 12, 13, 14] (l' := [(0, .v (.string ⟨⟨s_⟩⟩)), (2, .ptr 0 0), (4, .v (.slice A20 x19.length c21)), (5, .v (.int .i64 x18)), (12, .v (.slice A20 x19.length c21)), (13, .v (.string ⟨⟨s_⟩⟩)), (14, .v (.int .i64 x18))]) (B' := [some ⟨40, [.v (.bool false), .v (.int .i64 0), .v (.string ⟨⟨([] : Str)⟩⟩)]⟩]) (by kernel_rfl) fun ρ w a hX => ?_
      obtain ⟨v22, hv22, h1⟩ := bnd_some h1
      refine hX.idxStr (lit := []) (by kernel_rfl) (by kernel_rfl) rfl (s := s_) (k := .i64) (n := x18) (b := v22) (by kernel_rfl) (by kernel_rfl) (by kernel_rfl) hv22 fun a hX => ?_
      refine hX.part [] 1 [0, 2, 4, 5, 12, 16] (l' := [(0, .v (.string ⟨⟨s_⟩⟩)), (2, .ptr 0 0), (4, .v (.slice A20 x19.length c21)), (5, .v (.int .i64 x18)), (12, .v (.slice A20 x19.length c21)), (16, .slc 1 0 1 1)]) (B' := [some ⟨40, [.v (.bool false), .v (.int .i64 0), .v (.string ⟨⟨([] : Str)⟩⟩)]⟩, some ⟨5, [.v (.int .u8 v22)]⟩]) (by kernel_rfl) fun ρ w a hX => ?_
      obtain ⟨b26, hb26, h1⟩ := bnd_some h1
      obtain ⟨u25, hu25, h1⟩ := bnd_some h1
      have hX := hX.rebox 1 (b := ⟨5, [.v (.int .u8 v22)]⟩) (cs := [.v (.int .u8 ((b26.toNat : Nat) : Int))]) (B' := [some ⟨40, [.v (.bool false), .v (.int .i64 0), .v (.string ⟨⟨([] : Str)⟩⟩)]⟩, some ⟨5, [.v (.int .u8 ((b26.toNat : Nat) : Int))]⟩]) (by kernel_rfl) (fun ρ => by simp only [SV.dens, SV.den, toB_some hb26]) (by have hg := (hX.bgood ⟨5, [.v (.int .u8 v22)]⟩ (List.mem_of_getElem? (i := 1) (by kernel_rfl))).1; exact ⟨trivial, trivial⟩) (by kernel_rfl) (by kernel_rfl)
      refine hX.appLit (d := kByte) (k := 1) (m := 1) (bytes := 1) (cells := [.v (.int .u8 ((b26.toNat : Nat) : Int))]) (lit := []) (i := 0) (e := 5) (xs := x19) (A := A20) (c := c21) ([(b26, ())] : List (UInt8 × (kByte).Y)) (by kernel_rfl) (by kernel_rfl) rfl rfl (by kernel_rfl) (by kernel_rfl) (by kernel_rfl) (by kernel_rfl) (by kernel_rfl) rfl rfl (by decide) hu25 ⟨_, rfl⟩ fun A23 c24 w a hX => ?_
      have hX : Cx 55 _ _ _ _ _ [accP 5 kByte A23 c24 (x19 ++ [b26])] [some ⟨40, [.v (.bool false), .v (.int .i64 0), .v (.string ⟨⟨([] : Str)⟩⟩)]⟩, some ⟨5, [.v (.int .u8 ((b26.toNat : Nat) : Int))]⟩] ρ _ a := hX
      refine hX.part [] 1 [0, 2, 4, 5] (l' := [(0, .v (.string ⟨⟨s_⟩⟩)), (2, .ptr 0 0), (4, .v (.slice A23 (x19 ++ [b26]).length c24)), (5, .v (.int .i64 x18))]) (B' := [some ⟨40, [.v (.bool false), .v (.int .i64 0), .v (.string ⟨⟨([] : Str)⟩⟩)]⟩, some ⟨5, [.v (.int .u8 ((b26.toNat : Nat) : Int))]⟩]) (by kernel_rfl) fun ρ w a hX => ?_
      refine wpList_end ?_
      refine hK20 _ _ ?_
      refine wp_seq_k fun K21 hK21 => ?_
      refine wp_seq_k fun K22 hK22 => ?_
      refine wp_region_list ?_
      refine hX.part [] 2 [0, 2, 4, 5, 18, 19] (l' := [(0, .v (.string ⟨⟨s_⟩⟩)), (2, .ptr 0 0), (4, .v (.slice A23 (x19 ++ [b26]).length c24)), (5, .v (.int .i64 x18)), (18, .v (.string ⟨⟨s_⟩⟩)), (19, .v (.int .i64 x18))]) (B' := [some ⟨40, [.v (.bool false), .v (.int .i64 0), .v (.string ⟨⟨([] : Str)⟩⟩)]⟩, some ⟨5, [.v (.int .u8 ((b26.toNat : Nat) : Int))]⟩]) (by kernel_rfl) fun ρ w a hX => ?_
      obtain ⟨v27, hv27, h1⟩ := bnd_some h1
      refine hX.idxStr (lit := []) (by kernel_rfl) (by kernel_rfl) rfl (s := s_) (k := .i64) (n := x18) (b := v27) (by kernel_rfl) (by kernel_rfl) (by kernel_rfl) hv27 fun a hX => ?_
      refine hX.part [] 1 [0, 2, 4, 5, 21] (l' := [(0, .v (.string ⟨⟨s_⟩⟩)), (2, .ptr 0 0), (4, .v (.slice A23 (x19 ++ [b26]).length c24)), (5, .v (.int .i64 x18)), (21, .v (.bool (v27 != 0)))]) (B' := [some ⟨40, [.v (.bool false), .v (.int .i64 0), .v (.string ⟨⟨([] : Str)⟩⟩)]⟩, some ⟨5, [.v (.int .u8 ((b26.toNat : Nat) : Int))]⟩]) (by kernel_rfl) fun ρ w a hX => ?_
      refine wpList_end ?_
      refine hK22 _ _ ?_
      refine Cx.cond hX (b := (v27 != 0)) (by kernel_rfl) (fun hb => ?_) (fun hb => ?_)
      · have h1 := ite_tt h1 hb
        refine wp_exit ?_
        have hX := hX.keeps [0, 2, 4, 5] (l' := [(0, .v (.string ⟨⟨s_⟩⟩)), (2, .ptr 0 0), (4, .v (.slice A23 (x19 ++ [b26]).length c24)), (5, .v (.int .i64 x18))]) (by kernel_rfl)
        have hX := hX.shrink 1 (B' := [some ⟨40, [.v (.bool false), .v (.int .i64 0), .v (.string ⟨⟨([] : Str)⟩⟩)]⟩]) (by kernel_rfl) (Nat.le_of_ble_eq_true rfl) (by kernel_rfl) (by kernel_rfl)
        exact J19 x18 (x19 ++ [b26]) h1 A23 c24 _ _ _ _ hX
      · have h1 := ite_ff h1 hb
        refine wp_skip ?_
        refine hK21 _ _ ?_
        refine Cx.rseq hX [] [0, 2, 4, 5] (l' := [(0, .v (.string ⟨⟨s_⟩⟩)), (2, .ptr 0 0), (4, .v (.slice A23 (x19 ++ [b26]).length c24)), (5, .v (.int .i64 (IntKind.wrap .i64 (x18 + 1))))]) (B' := [some ⟨40, [.v (.bool false), .v (.int .i64 0), .v (.string ⟨⟨([] : Str)⟩⟩)]⟩, some ⟨5, [.v (.int .u8 ((b26.toNat : Nat) : Int))]⟩]) (by kernel_rfl) fun ρ w a hX => ?_
        refine wp_seq_k fun K24 hK24 => ?_
        refine wp_seq_k fun K25 hK25 => ?_
        have J25 : ∀ (x30 : Bool), ref05_text.j3 s_ x18 x19 b26 x30 = some o1 → ∀ (ρ : Nat → Nat) (w : World) (F : Heap) (a : Act), Cx 55 w0 F0 No w F [accP 5 kByte A23 c24 (x19 ++ [b26])] [some ⟨40, [.v (.bool false), .v (.int .i64 0), .v (.string ⟨⟨([] : Str)⟩⟩)]⟩] ρ [(0, .v (.string ⟨⟨s_⟩⟩)), (2, .ptr 0 0), (4, .v (.slice A23 (x19 ++ [b26]).length c24)), (5, .v (.int .i64 (IntKind.wrap .i64 (x18 + 1)))), (39, .v (.bool x30))] a → K25 a w := by
          intro x30 h1  ρ w F a hX
          unfold ref05_text.j3 at h1
          refine hK25 _ _ ?_
          refine Cx.cond hX (b := x30) (by kernel_rfl) (fun hb => ?_) (fun hb => ?_)
          · have h1 := ite_tt h1 hb
            refine Cx.rseq hX [] [2, 3] (l' := [(2, .ptr 0 0), (3, .v (.int .i64 0))]) (B' := [some ⟨40, [.v (.bool false), .v (.int .i64 0), .v (.string ⟨⟨([] : Str)⟩⟩)]⟩]) (by kernel_rfl) fun ρ w a hX => ?_
            refine wp_ret ?_
            have he := hx1 _ (out_eq h1)
            subst he
            (try dsimp only at h0)
            have hr := Option.some.inj (show some _ = some _ from h0)
            subst hr
            exact hX.retC (ss := [.agg [.v (.bool false), .v (.int .i64 0), .v (.string ⟨⟨([] : Str)⟩⟩)], .v (.int .i64 0)]) (by kernel_rfl) (by kernel_rfl) ⟨_, _, rfl, rfl, rfl⟩
          · have h1 := ite_ff h1 hb
            refine wp_skip ?_
            refine hK24 _ _ ?_
            refine wp_seq_k fun K27 hK27 => ?_
            refine wp_region_list ?_
            refine hX.part [] 2 [0, 2, 4, 5, 41, 42] (l' := [(0, .v (.string ⟨⟨s_⟩⟩)), (2, .ptr 0 0), (4, .v (.slice A23 (x19 ++ [b26]).length c24)), (5, .v (.int .i64 (IntKind.wrap .i64 (x18 + 1)))), (41, .v (.string ⟨⟨s_⟩⟩)), (42, .v (.int .i64 (IntKind.wrap .i64 (x18 + 1))))]) (B' := [some ⟨40, [.v (.bool false), .v (.int .i64 0), .v (.string ⟨⟨([] : Str)⟩⟩)]⟩]) (by kernel_rfl) fun ρ w a hX => ?_
            obtain ⟨v31, hv31, h1⟩ := bnd_some h1
            refine hX.idxStr (lit := []) (by kernel_rfl) (by kernel_rfl) rfl (s := s_) (k := .i64) (n := (IntKind.wrap .i64 (x18 + 1))) (b := v31) (by kernel_rfl) (by kernel_rfl) (by kernel_rfl) hv31 fun a hX => ?_
            refine hX.part [] 1 [0, 2, 4, 5, 44] (l' := [(0, .v (.string ⟨⟨s_⟩⟩)), (2, .ptr 0 0), (4, .v (.slice A23 (x19 ++ [b26]).length c24)), (5, .v (.int .i64 (IntKind.wrap .i64 (x18 + 1)))), (44, .v (.bool (v31 == 1)))]) (B' := [some ⟨40, [.v (.bool false), .v (.int .i64 0), .v (.string ⟨⟨([] : Str)⟩⟩)]⟩]) (by kernel_rfl) fun ρ w a hX => ?_
            refine wpList_end ?_
            refine hK27 _ _ ?_
            refine Cx.cond hX (b := (v31 == 1)) (by kernel_rfl) (fun hb => ?_) (fun hb => ?_)
            · have h1 := ite_tt h1 hb
              refine wp_seq_k fun K28 hK28 => ?_
              refine wp_region_list ?_
              refine hX.part [] 4 [2, 5, 45, 48] (l' := [(2, .ptr 0 0), (5, .v (.int .i64 (IntKind.wrap .i64 (x18 + 1)))), (45, .v (.slice A23 (x19 ++ [b26]).length c24)), (48, .v (.int .i64 (IntKind.wrap .i64 ((((x19 ++ [b26]).length : Nat) : Int) - 1))))]) (B' := [some ⟨40, [.v (.bool false), .v (.int .i64 0), .v (.string ⟨⟨([] : Str)⟩⟩)]⟩]) (by kernel_rfl) fun ρ w a hX => ?_
              obtain ⟨v32, hv32, h1⟩ := bnd_some h1
              obtain ⟨F, hX⟩ := hX.freeze (i := 0) (t := 45) (e := 5) (d := kByte) (A := A23) (c := c24) (xs := (x19 ++ [b26])) rfl (by kernel_rfl)
              have hX : Cx 55 _ _ _ _ _ [] [some ⟨40, [.v (.bool false), .v (.int .i64 0), .v (.string ⟨⟨([] : Str)⟩⟩)]⟩] ρ _ a := hX
              refine hX.cutSl (lit := []) (by kernel_rfl) (by kernel_rfl) rfl (d := kByte) (e := 5) (xs := (x19 ++ [b26])) (A := A23) (c := c24) (ol := none) (oh := some (IntKind.wrap .i64 ((((x19 ++ [b26]).length : Nat) : Int) - 1))) (r := v32) (by kernel_rfl) (by kernel_rfl) (by kernel_rfl) (by kernel_rfl) (by kernel_rfl) hv32 fun A33 c34 a hX => ?_
              refine hX.part [] 0 [2, 5, 49] (l' := [(2, .ptr 0 0), (5, .v (.int .i64 (IntKind.wrap .i64 (x18 + 1)))), (49, SV.sl kByte v32 A33 c34)]) (B' := [some ⟨40, [.v (.bool false), .v (.int .i64 0), .v (.string ⟨⟨([] : Str)⟩⟩)]⟩]) (by kernel_rfl) fun ρ w a hX => ?_
              refine hX.strSl (lit := []) (by kernel_rfl) (by kernel_rfl) rfl (e := 5) (xs := v32) (A := A33) (c := c34) (by kernel_rfl) (by kernel_rfl) (by kernel_rfl) (by kernel_rfl) fun a hX => ?_
              refine hX.part [] 5 [2, 3] (l' := [(2, .ptr 0 0), (3, .v (.int .i64 (IntKind.wrap .i64 ((IntKind.wrap .i64 (x18 + 1)) + 1))))]) (B' := [some ⟨40, [.v (.bool true), .v (.int .i64 0), .v (.string ⟨⟨v32⟩⟩)]⟩]) (by kernel_rfl) fun ρ w a hX => ?_
              refine wpList_end ?_
              refine hK28 _ _ ?_
              refine wp_ret ?_
              have he := hx1 _ (out_eq h1)
              subst he
              (try dsimp only at h0)
              have hr := Option.some.inj (show some _ = some _ from h0)
              subst hr
              exact hX.retC (ss := [.agg [.v (.bool true), .v (.int .i64 0), .v (.string ⟨⟨v32⟩⟩)], .v (.int .i64 (IntKind.wrap .i64 ((IntKind.wrap .i64 (x18 + 1)) + 1)))]) (by kernel_rfl) (by kernel_rfl) ⟨_, _, rfl, rfl, rfl⟩
            · have h1 := ite_ff h1 hb
              refine wp_skip ?_
              have hX := hX.keeps [0, 2, 4, 5] (l' := [(0, .v (.string ⟨⟨s_⟩⟩)), (2, .ptr 0 0), (4, .v (.slice A23 (x19 ++ [b26]).length c24)), (5, .v (.int .i64 (IntKind.wrap .i64 (x18 + 1))))]) (by kernel_rfl)
              exact J19 (IntKind.wrap .i64 (x18 + 1)) (x19 ++ [b26]) h1 A23 c24 _ _ _ _ hX
        refine wp_region_list ?_
        refine hX.part [] 5 [0, 2, 4, 5, 28] (l' := [(0, .v (.string ⟨⟨s_⟩⟩)), (2, .ptr 0 0), (4, .v (.slice A23 (x19 ++ [b26]).length c24)), (5, .v (.int .i64 (IntKind.wrap .i64 (x18 + 1)))), (28, .v (.bool (decide ((IntKind.wrap .i64 (x18 + 1)) ≥ ((s_.length : Nat) : Int)))))]) (B' := [some ⟨40, [.v (.bool false), .v (.int .i64 0), .v (.string ⟨⟨([] : Str)⟩⟩)]⟩, some ⟨5, [.v (.int .u8 ((b26.toNat : Nat) : Int))]⟩]) (by kernel_rfl) fun ρ w a hX => ?_
        refine ite_go h1 (fun hb h1 => ?_) (fun hb h1 => ?_)
        · have hX := hX.relit 28 hb (by kernel_rfl)
          refine hX.part [4, 9] 11 [0, 2, 4, 5, 39] (l' := [(0, .v (.string ⟨⟨s_⟩⟩)), (2, .ptr 0 0), (4, .v (.slice A23 (x19 ++ [b26]).length c24)), (5, .v (.int .i64 (IntKind.wrap .i64 (x18 + 1)))), (39, .v (.bool true))]) (B' := [some ⟨40, [.v (.bool false), .v (.int .i64 0), .v (.string ⟨⟨([] : Str)⟩⟩)]⟩, some ⟨5, [.v (.int .u8 ((b26.toNat : Nat) : Int))]⟩]) (by kernel_rfl) fun ρ w a hX => ?_
          refine wpList_end ?_
          have hX := hX.keeps [0, 2, 4, 5, 39] (l' := [(0, .v (.string ⟨⟨s_⟩⟩)), (2, .ptr 0 0), (4, .v (.slice A23 (x19 ++ [b26]).length c24)), (5, .v (.int .i64 (IntKind.wrap .i64 (x18 + 1)))), (39, .v (.bool true))]) (by kernel_rfl)
          have hX := hX.shrink 1 (B' := [some ⟨40, [.v (.bool false), .v (.int .i64 0), .v (.string ⟨⟨([] : Str)⟩⟩)]⟩]) (by kernel_rfl) (Nat.le_of_ble_eq_true rfl) (by kernel_rfl) (by kernel_rfl)
          exact J25 true h1  _ _ _ _ hX
        · have hX := hX.relit 28 hb (by kernel_rfl)
          refine hX.part [4] 2 [0, 2, 4, 5, 28, 29, 30] (l' := [(0, .v (.string ⟨⟨s_⟩⟩)), (2, .ptr 0 0), (4, .v (.slice A23 (x19 ++ [b26]).length c24)), (5, .v (.int .i64 (IntKind.wrap .i64 (x18 + 1)))), (28, .v (.bool false)), (29, .v (.string ⟨⟨s_⟩⟩)), (30, .v (.int .i64 (IntKind.wrap .i64 (x18 + 1))))]) (B' := [some ⟨40, [.v (.bool false), .v (.int .i64 0), .v (.string ⟨⟨([] : Str)⟩⟩)]⟩, some ⟨5, [.v (.int .u8 ((b26.toNat : Nat) : Int))]⟩]) (by kernel_rfl) fun ρ w a hX => ?_
          obtain ⟨v28, hv28, h1⟩ := bnd_some h1
          refine hX.idxStr (lit := [4]) (by kernel_rfl) (by kernel_rfl) rfl (s := s_) (k := .i64) (n := (IntKind.wrap .i64 (x18 + 1))) (b := v28) (by kernel_rfl) (by kernel_rfl) (by kernel_rfl) hv28 fun a hX => ?_
          refine hX.part [4] 2 [0, 2, 4, 5, 28, 33] (l' := [(0, .v (.string ⟨⟨s_⟩⟩)), (2, .ptr 0 0), (4, .v (.slice A23 (x19 ++ [b26]).length c24)), (5, .v (.int .i64 (IntKind.wrap .i64 (x18 + 1)))), (28, .v (.bool false)), (33, .v (.bool (v28 != 255)))]) (B' := [some ⟨40, [.v (.bool false), .v (.int .i64 0), .v (.string ⟨⟨([] : Str)⟩⟩)]⟩, some ⟨5, [.v (.int .u8 ((b26.toNat : Nat) : Int))]⟩]) (by kernel_rfl) fun ρ w a hX => ?_
          refine ite_go h1 (fun hb h1 => ?_) (fun hb h1 => ?_)
          · have hX := hX.relit 33 hb (by kernel_rfl)
            refine hX.part [9] 2 [0, 2, 4, 5, 28, 33, 34, 35] (l' := [(0, .v (.string ⟨⟨s_⟩⟩)), (2, .ptr 0 0), (4, .v (.slice A23 (x19 ++ [b26]).length c24)), (5, .v (.int .i64 (IntKind.wrap .i64 (x18 + 1)))), (28, .v (.bool false)), (33, .v (.bool true)), (34, .v (.string ⟨⟨s_⟩⟩)), (35, .v (.int .i64 (IntKind.wrap .i64 (x18 + 1))))]) (B' := [some ⟨40, [.v (.bool false), .v (.int .i64 0), .v (.string ⟨⟨([] : Str)⟩⟩)]⟩, some ⟨5, [.v (.int .u8 ((b26.toNat : Nat) : Int))]⟩]) (by kernel_rfl) fun ρ w a hX => ?_
            obtain ⟨v29, hv29, h1⟩ := bnd_some h1
            refine hX.idxStr (lit := [9]) (by kernel_rfl) (by kernel_rfl) rfl (s := s_) (k := .i64) (n := (IntKind.wrap .i64 (x18 + 1))) (b := v29) (by kernel_rfl) (by kernel_rfl) (by kernel_rfl) hv29 fun a hX => ?_
            refine hX.part [4, 9] 3 [0, 2, 4, 5, 39] (l' := [(0, .v (.string ⟨⟨s_⟩⟩)), (2, .ptr 0 0), (4, .v (.slice A23 (x19 ++ [b26]).length c24)), (5, .v (.int .i64 (IntKind.wrap .i64 (x18 + 1)))), (39, .v (.bool (v29 != 1)))]) (B' := [some ⟨40, [.v (.bool false), .v (.int .i64 0), .v (.string ⟨⟨([] : Str)⟩⟩)]⟩, some ⟨5, [.v (.int .u8 ((b26.toNat : Nat) : Int))]⟩]) (by kernel_rfl) fun ρ w a hX => ?_
            refine wpList_end ?_
            have hX := hX.keeps [0, 2, 4, 5, 39] (l' := [(0, .v (.string ⟨⟨s_⟩⟩)), (2, .ptr 0 0), (4, .v (.slice A23 (x19 ++ [b26]).length c24)), (5, .v (.int .i64 (IntKind.wrap .i64 (x18 + 1)))), (39, .v (.bool (v29 != 1)))]) (by kernel_rfl)
            have hX := hX.shrink 1 (B' := [some ⟨40, [.v (.bool false), .v (.int .i64 0), .v (.string ⟨⟨([] : Str)⟩⟩)]⟩]) (by kernel_rfl) (Nat.le_of_ble_eq_true rfl) (by kernel_rfl) (by kernel_rfl)
            exact J25 (v29 != 1) h1  _ _ _ _ hX
          · have hX := hX.relit 33 hb (by kernel_rfl)
            refine hX.part [4, 9] 6 [0, 2, 4, 5, 39] (l' := [(0, .v (.string ⟨⟨s_⟩⟩)), (2, .ptr 0 0), (4, .v (.slice A23 (x19 ++ [b26]).length c24)), (5, .v (.int .i64 (IntKind.wrap .i64 (x18 + 1)))), (39, .v (.bool false))]) (B' := [some ⟨40, [.v (.bool false), .v (.int .i64 0), .v (.string ⟨⟨([] : Str)⟩⟩)]⟩, some ⟨5, [.v (.int .u8 ((b26.toNat : Nat) : Int))]⟩]) (by kernel_rfl) fun ρ w a hX => ?_
            refine wpList_end ?_
            have hX := hX.keeps [0, 2, 4, 5, 39] (l' := [(0, .v (.string ⟨⟨s_⟩⟩)), (2, .ptr 0 0), (4, .v (.slice A23 (x19 ++ [b26]).length c24)), (5, .v (.int .i64 (IntKind.wrap .i64 (x18 + 1)))), (39, .v (.bool false))]) (by kernel_rfl)
            have hX := hX.shrink 1 (B' := [some ⟨40, [.v (.bool false), .v (.int .i64 0), .v (.string ⟨⟨([] : Str)⟩⟩)]⟩]) (by kernel_rfl) (Nat.le_of_ble_eq_true rfl) (by kernel_rfl) (by kernel_rfl)
            exact J25 false h1  _ _ _ _ hX
    · have h1 := ite_ff h1 hb
      refine wp_exit ?_
      have hX := hX.dropL 0 rfl rfl
      have hX := hX.keeps [2] (l' := [(2, .ptr 0 0)]) (by kernel_rfl)
      exact E1x0 () (hx1 _ (out_eq h1)).symm  _ _ _ _ hX
  · exact ⟨none, 0, _, _, hX⟩
def ref01_Check (u : Str) : Option (Bool) :=
  some ((Int.tmod ((u.length : Nat) : Int) 2) == 0)
theorem ref01_Check.ok (u : Str) (r : Bool) (h0 : ref01_Check u = some r) (w0 : World) (F0 : Heap) (hv : F0.Sub w0) (hG : Glob F0) (hg : SV.goods F0 [.v (.string ⟨⟨u⟩⟩)]) (ρ : Nat → Nat) :
    Calls Tryd.prog 35 (SV.dens ρ [.v (.string ⟨⟨u⟩⟩)]).toArray w0 (Ret0 w0 F0 fun s => s = .v (.bool r)) := by
  refine calls_of_wp Tryd.func35 rfl ?_
  have hX := Cx.enter (D := No) (B := []) (L := []) (ρ := ρ) (N := 7) Tryd.ntmps35 [.v (.string ⟨⟨u⟩⟩)] (St.start hv) rfl hg (by kernel_rfl) (fun _ h => by cases h) (Nat.le_of_ble_eq_true rfl)
  unfold ref01_Check at h0
  refine Cx.rseq hX [] [0] (l' := [(0, .v (.string ⟨⟨u⟩⟩))]) (B' := []) (by kernel_rfl) fun ρ w a hX => ?_
  refine Cx.rseq hX [] [2] (l' := [(2, .v (.bool ((Int.tmod ((u.length : Nat) : Int) 2) == 0)))]) (B' := []) (by kernel_rfl) fun ρ w a hX => ?_
  refine wp_ret ?_
  have hr := Option.some.inj (show some _ = some _ from h0)
  subst hr
  exact hX.ret0 (ss := [.v (.bool ((Int.tmod ((u.length : Nat) : Int) 2) == 0))]) (by kernel_rfl) (by kernel_rfl) rfl
def ref05_may.j1 (x2 : Bool) : Option (Bool) :=
  some x2
def ref05_may (p : T_api_Part) : Option (Bool) :=
  if p.IsText = true then
    if (p.N == 0) = true then
      Option.bind (ref01_Check p.S) fun v1 =>
      ref05_may.j1 v1
    else
      ref05_may.j1 false
  else
    some (((p.S == ([] : Str)) && (decide (p.N ≥ (-9007199254740991)))) && (decide (p.N ≤ 9007199254740991)))
theorem ref05_may.ok (p : T_api_Part) (r : Bool) (h0 : ref05_may p = some r) (w0 : World) (F0 : Heap) (hv : F0.Sub w0) (hG : Glob F0) (hg : SV.goods F0 [.agg [.v (.bool p.IsText), .v (.int .i64 p.N), .v (.string ⟨⟨p.S⟩⟩)]]) (ρ : Nat → Nat) :
    Calls Tryd.prog 28 (SV.dens ρ [.agg [.v (.bool p.IsText), .v (.int .i64 p.N), .v (.string ⟨⟨p.S⟩⟩)]]).toArray w0 (Ret0 w0 F0 fun s => s = .v (.bool r)) := by
  refine calls_of_wp Tryd.func28 rfl ?_
  have hX := Cx.enter (D := No) (B := []) (L := []) (ρ := ρ) (N := 26) Tryd.ntmps28 [.agg [.v (.bool p.IsText), .v (.int .i64 p.N), .v (.string ⟨⟨p.S⟩⟩)]] (St.start hv) rfl hg (by kernel_rfl) (fun _ h => by cases h) (Nat.le_of_ble_eq_true rfl)
  unfold ref05_may at h0
  refine Cx.rseq hX [] [1] (l' := [(1, .ptr 0 0)]) (B' := [some ⟨40, [.v (.bool p.IsText), .v (.int .i64 p.N), .v (.string ⟨⟨p.S⟩⟩)]⟩]) (by kernel_rfl) fun ρ w a hX => ?_
  refine wp_seq_k fun K2 hK2 => ?_
  refine Cx.rseq hX [] [1, 4] (l' := [(1, .ptr 0 0), (4, .v (.bool p.IsText))]) (B' := [some ⟨40, [.v (.bool p.IsText), .v (.int .i64 p.N), .v (.string ⟨⟨p.S⟩⟩)]⟩]) (by kernel_rfl) fun ρ w a hX => ?_
  refine Cx.cond hX (b := p.IsText) (by kernel_rfl) (fun hb => ?_) (fun hb => ?_)
  · have h0 := ite_tt h0 hb
    refine wp_seq_k fun K4 hK4 => ?_
    have J4 : ∀ (x2 : Bool), ref05_may.j1 x2 = some r → ∀ (ρ : Nat → Nat) (w : World) (F : Heap) (a : Act), Cx 26 w0 F0 No w F [] [] ρ [(2, .v (.bool x2))] a → K4 a w := by
      intro x2 h0  ρ w F a hX
      unfold ref05_may.j1 at h0
      refine hK4 _ _ ?_
      refine wp_ret ?_
      have hr := Option.some.inj (show some _ = some _ from h0)
      subst hr
      exact hX.ret0 (ss := [.v (.bool x2)]) (by kernel_rfl) (by kernel_rfl) rfl
    refine wp_region_list ?_
    refine hX.part [] 4 [1, 8] (l' := [(1, .ptr 0 0), (8, .v (.bool (p.N == 0)))]) (B' := [some ⟨40, [.v (.bool p.IsText), .v (.int .i64 p.N), .v (.string ⟨⟨p.S⟩⟩)]⟩]) (by kernel_rfl) fun ρ w a hX => ?_
    refine ite_go h0 (fun hb h0 => ?_) (fun hb h0 => ?_)
    · have hX := hX.relit 8 hb (by kernel_rfl)
      refine hX.part [3] 2 [8, 10] (l' := [(8, .v (.bool true)), (10, .v (.string ⟨⟨p.S⟩⟩))]) (B' := [some ⟨40, [.v (.bool p.IsText), .v (.int .i64 p.N), .v (.string ⟨⟨p.S⟩⟩)]⟩]) (by kernel_rfl) fun ρ w a hX => ?_
      obtain ⟨v1, hv1, h0⟩ := bnd_some h0
      refine Cx.call0 hX (lit := [3]) (by kernel_rfl) rfl (by kernel_rfl) ⟨⟨_, Tryd.func35, by kernel_rfl, rfl⟩⟩ (ss := [.v (.string ⟨⟨p.S⟩⟩)]) (by kernel_rfl) [.v (.string ⟨⟨p.S⟩⟩)] rfl (fun hg => hg) (fun hv hle hg => ref01_Check.ok p.S v1 hv1 _ _ hv (hG.mono hle) hg _) (fun s F w a hp hX => ?_)
      subst hp
      refine hX.part [] 2 [2] (l' := [(2, .v (.bool v1))]) (B' := [some ⟨40, [.v (.bool p.IsText), .v (.int .i64 p.N), .v (.string ⟨⟨p.S⟩⟩)]⟩]) (by kernel_rfl) fun ρ w a hX => ?_
      refine wpList_end ?_
      have hX := hX.keeps [2] (l' := [(2, .v (.bool v1))]) (by kernel_rfl)
      have hX := hX.shrink 0 (B' := []) (by kernel_rfl) (Nat.le_of_ble_eq_true rfl) (by kernel_rfl) (by kernel_rfl)
      exact J4 v1 h0  _ _ _ _ hX
    · have hX := hX.relit 8 hb (by kernel_rfl)
      refine hX.part [3] 5 [2] (l' := [(2, .v (.bool false))]) (B' := [some ⟨40, [.v (.bool p.IsText), .v (.int .i64 p.N), .v (.string ⟨⟨p.S⟩⟩)]⟩]) (by kernel_rfl) fun ρ w a hX => ?_
      refine wpList_end ?_
      have hX := hX.keeps [2] (l' := [(2, .v (.bool false))]) (by kernel_rfl)
      have hX := hX.shrink 0 (B' := []) (by kernel_rfl) (Nat.le_of_ble_eq_true rfl) (by kernel_rfl) (by kernel_rfl)
      exact J4 false h0  _ _ _ _ hX
  · have h0 := ite_ff h0 hb
    refine wp_skip ?_
    refine hK2 _ _ ?_
    refine Cx.rseq hX [] [2] (l' := [(2, .v (.bool (((p.S == ([] : Str)) && (decide (p.N ≥ (-9007199254740991)))) && (decide (p.N ≤ 9007199254740991)))))]) (B' := [some ⟨40, [.v (.bool p.IsText), .v (.int .i64 p.N), .v (.string ⟨⟨p.S⟩⟩)]⟩]) (by kernel_rfl) fun ρ w a hX => ?_
    refine wp_ret ?_
    have hr := Option.some.inj (show some _ = some _ from h0)
    subst hr
    exact hX.ret0 (ss := [.v (.bool (((p.S == ([] : Str)) && (decide (p.N ≥ (-9007199254740991)))) && (decide (p.N ≤ 9007199254740991))))]) (by kernel_rfl) (by kernel_rfl) rfl
def ref05_Decode.j4 (x15 : Int) (x16 : List T_api_Part) (x24 : Int) (x25 : Bool) (x26 : Int) (x27 : Str) (x29 : Bool) : Option ((Int × (List T_api_Part)) ⊕ (((List T_api_Part)) ⊕ ((List T_api_Part) × Int))) :=
  if x29 = true then
    some (.inr (.inr (([] : List T_api_Part), 22)))
  else
    Option.bind (room (x16.length + 1)) fun u32 =>
    some (.inl ((IntKind.wrap .i64 (x15 + x24)), (x16 ++ [({ IsText := x25, N := x26, S := x27 } : T_api_Part)])))
def ref05_Decode.j3 (x15 : Int) (x16 : List T_api_Part) (x24 : Int) (x25 : Bool) (x26 : Int) (x27 : Str) : Option ((Int × (List T_api_Part)) ⊕ (((List T_api_Part)) ⊕ ((List T_api_Part) × Int))) :=
  if (x24 == 0) = true then
    ref05_Decode.j4 x15 x16 x24 x25 x26 x27 true
  else
    Option.bind (ref05_may ({ IsText := x25, N := x26, S := x27 } : T_api_Part)) fun v28 =>
    ref05_Decode.j4 x15 x16 x24 x25 x26 x27 (!v28)
def ref05_Decode.l1 (s_ : Str) (s : Int × (List T_api_Part)) : Option ((Int × (List T_api_Part)) ⊕ (((List T_api_Part)) ⊕ ((List T_api_Part) × Int))) := match s with
  | (x15, x16) =>
  if (decide (x15 < ((s_.length : Nat) : Int))) = true then
    Option.bind (getB s_ x15) fun v19 =>
    if (v19 == 16) = true then
      Option.bind (cutL s_ x15 ((s_.length : Nat) : Int)) fun v20 =>
      Option.bind (ref05_number v20) fun v21 =>
      ref05_Decode.j3 x15 x16 v21.2 v21.1.IsText v21.1.N v21.1.S
    else
      if (v19 == 32) = true then
        Option.bind (cutL s_ x15 ((s_.length : Nat) : Int)) fun v22 =>
        Option.bind (ref05_text v22) fun v23 =>
        ref05_Decode.j3 x15 x16 v23.2 v23.1.IsText v23.1.N v23.1.S
      else
        ref05_Decode.j3 x15 x16 0 false 0 ([] : Str)
  else
    some (.inr (.inl x16))
def ref05_Decode (s_ : Str) : Option ((List T_api_Part) × Int) :=
  Option.bind (loopM (ref05_Decode.l1 s_) (0, ([] : List T_api_Part))) fun e => match e with
  | (.inl x37) =>
    if (decide (((s_.length : Nat) : Int) > 256)) = true then
      some (([] : List T_api_Part), 22)
    else
      some (x37, 0)
  | (.inr r40) =>
    some r40
theorem ref05_Decode.ok (s_ : Str) (r : (List T_api_Part) × Int) (h0 : ref05_Decode s_ = some r) (w0 : World) (F0 : Heap) (hv : F0.Sub w0) (hG : Glob F0) (hg : SV.goods F0 [.v (.string ⟨⟨s_⟩⟩)]) (ρ : Nat → Nat) :
    Calls Tryd.prog 11 (SV.dens ρ [.v (.string ⟨⟨s_⟩⟩)]).toArray w0 (Ret0 w0 F0 fun s => ∃ s1 s2, s = .tup [s1, s2] ∧ (∃ A c, s1 = SV.sl kT_api_Part r.1 A c) ∧ (s2 = .v (.int .i64 r.2))) := by
  refine calls_of_wp Tryd.func11 rfl ?_
  have hX := Cx.enter (D := No) (B := []) (L := []) (ρ := ρ) (N := 52) Tryd.ntmps11 [.v (.string ⟨⟨s_⟩⟩)] (St.start hv) rfl hg (by kernel_rfl) (fun _ h => by cases h) (Nat.le_of_ble_eq_true rfl)
  unfold ref05_Decode at h0
  refine Cx.rseq hX [] [0] (l' := [(0, .v (.string ⟨⟨s_⟩⟩))]) (B' := []) (by kernel_rfl) fun ρ w a hX => ?_
  refine Cx.rseq hX [] [0, 4] (l' := [(0, .v (.string ⟨⟨s_⟩⟩)), (4, .v (.slice none 0 0))]) (B' := []) (by kernel_rfl) fun ρ w a hX => ?_
  refine wp_seq_k fun K3 hK3 => ?_
  refine Cx.rseq hX [] [0, 4, 5] (l' := [(0, .v (.string ⟨⟨s_⟩⟩)), (4, .v (.slice none 0 0)), (5, .v (.int .i64 0))]) (B' := []) (by kernel_rfl) fun ρ w a hX => ?_
  refine wp_block ?_
  have hX := hX.newAcc 40 kT_api_Part
  have hX := hX.keeps [0, 4, 5] (l' := [(0, .v (.string ⟨⟨s_⟩⟩)), (4, .v (.slice none ([] : List T_api_Part).length 0)), (5, .v (.int .i64 0))]) (by kernel_rfl)
  obtain ⟨e1, he1, h0⟩ := bnd_some h0
  have E1x0 : ∀ (x37 : List T_api_Part), e1 = (.inl x37) → ∀ (A38 : Option Addr) (c39 : Nat) (ρ : Nat → Nat) (w : World) (F : Heap) (a : Act), Cx 52 w0 F0 No w F [accP 40 kT_api_Part A38 c39 x37] [] ρ [(0, .v (.string ⟨⟨s_⟩⟩)), (4, .v (.slice A38 x37.length c39))] a → K3 a w := by
    intro x37 he A38 c39 ρ w F a hX
    replace he := he.symm
    subst he
    (try dsimp only at h0)
    refine hK3 _ _ ?_
    refine wp_seq_k fun K29 hK29 => ?_
    refine Cx.rseq hX [] [4, 50] (l' := [(4, .v (.slice A38 x37.length c39)), (50, .v (.bool (decide (((s_.length : Nat) : Int) > 256))))]) (B' := []) (by kernel_rfl) fun ρ w a hX => ?_
    refine Cx.cond hX (b := (decide (((s_.length : Nat) : Int) > 256))) (by kernel_rfl) (fun hb => ?_) (fun hb => ?_)
    · have h0 := ite_tt h0 hb
      refine Cx.rseq hX [] [2, 3] (l' := [(2, .v (.slice none 0 0)), (3, .v (.int .i64 22))]) (B' := []) (by kernel_rfl) fun ρ w a hX => ?_
      refine wp_ret ?_
      have hX := hX.nilSl 2 kT_api_Part (by kernel_rfl)
      have hr := Option.some.inj (show some _ = some _ from h0)
      subst hr
      exact hX.ret0 (ss := [SV.sl kT_api_Part ([] : List T_api_Part) none 0, .v (.int .i64 22)]) (by kernel_rfl) (by kernel_rfl) ⟨_, _, rfl, ⟨_, _, rfl⟩, rfl⟩
    · have h0 := ite_ff h0 hb
      refine wp_skip ?_
      refine hK29 _ _ ?_
      refine Cx.rseq hX [] [2, 3] (l' := [(2, .v (.slice A38 x37.length c39)), (3, .v (.int .i64 0))]) (B' := []) (by kernel_rfl) fun ρ w a hX => ?_
      refine wp_ret ?_
      obtain ⟨F, hX⟩ := hX.freeze (i := 0) (t := 2) (e := 40) (d := kT_api_Part) (A := A38) (c := c39) (xs := x37) rfl (by kernel_rfl)
      have hX : Cx 52 _ _ _ _ _ [] [] ρ _ a := hX
      have hr := Option.some.inj (show some _ = some _ from h0)
      subst hr
      exact hX.ret0 (ss := [SV.sl kT_api_Part x37 A38 c39, .v (.int .i64 0)]) (by kernel_rfl) (by kernel_rfl) ⟨_, _, rfl, ⟨_, _, rfl⟩, rfl⟩
  refine loop_go (fun (s : Int × (List T_api_Part)) a w => match s with | (x15, x16) => ∃ (A17 : Option Addr) (c18 : Nat) (ρ : Nat → Nat) (F : Heap), Cx 52 w0 F0 No w F [accP 40 kT_api_Part A17 c18 x16] [] ρ [(0, .v (.string ⟨⟨s_⟩⟩)), (4, .v (.slice A17 x16.length c18)), (5, .v (.int .i64 x15))] a) he1 (fun LW1 s o1 h1 hb1 hx1 a w hI => ?_) _ _ ?_
  · obtain ⟨x15, x16⟩ := s
    obtain ⟨A17, c18, ρ, F, hX⟩ := hI
    unfold ref05_Decode.l1 at h1
    (try dsimp only at h1)
    refine wp_seq_k fun K17 hK17 => ?_
    refine Cx.rseq hX [] [0, 4, 5, 11] (l' := [(0, .v (.string ⟨⟨s_⟩⟩)), (4, .v (.slice A17 x16.length c18)), (5, .v (.int .i64 x15)), (11, .v (.bool (decide (x15 < ((s_.length : Nat) : Int)))))]) (B' := []) (by kernel_rfl) fun ρ w a hX => ?_
    refine Cx.cond hX (b := (decide (x15 < ((s_.length : Nat) : Int)))) (by kernel_rfl) (fun hb => ?_) (fun hb => ?_)
    · have h1 := ite_tt h1 hb
      refine wp_skip ?_
      refine hK17 _ _ ?_
      refine wp_block ?_
      refine Cx.rseq hX [] [0, 4, 5, 6] (l' := [(0, .v (.string ⟨⟨s_⟩⟩)), (4, .v (.slice A17 x16.length c18)), (5, .v (.int .i64 x15)), (6, .ptr 0 0)]) (B' := [some ⟨40, [.v (.bool false), .v (.int .i64 0), .v (.string ⟨⟨([] : Str)⟩⟩)]⟩]) (by kernel_rfl) fun ρ w a hX => ?_
      refine Cx.rseq hX [] [0, 4, 5, 6, 7] (l' := [(0, .v (.string ⟨⟨s_⟩⟩)), (4, .v (.slice A17 x16.length c18)), (5, .v (.int .i64 x15)), (6, .ptr 0 0), (7, .v (.int .i64 0))]) (B' := [some ⟨40, [.v (.bool false), .v (.int .i64 0), .v (.string ⟨⟨([] : Str)⟩⟩)]⟩]) (by kernel_rfl) fun ρ w a hX => ?_
      refine wp_seq_k fun K21 hK21 => ?_
      have J21 : ∀ (x24 : Int) (x25 : Bool) (x26 : Int) (x27 : Str), ref05_Decode.j3 x15 x16 x24 x25 x26 x27 = some o1 → ∀ (ρ : Nat → Nat) (w : World) (F : Heap) (a : Act), Cx 52 w0 F0 No w F [accP 40 kT_api_Part A17 c18 x16] [some ⟨40, [.v (.bool x25), .v (.int .i64 x26), .v (.string ⟨⟨x27⟩⟩)]⟩] ρ [(0, .v (.string ⟨⟨s_⟩⟩)), (4, .v (.slice A17 x16.length c18)), (5, .v (.int .i64 x15)), (6, .ptr 0 0), (7, .v (.int .i64 x24))] a → K21 a w := by
        intro x24 x25 x26 x27 h1  ρ w F a hX
        unfold ref05_Decode.j3 at h1
        refine hK21 _ _ ?_
        refine wp_seq_k fun K25 hK25 => ?_
        refine wp_seq_k fun K26 hK26 => ?_
        have J26 : ∀ (x29 : Bool), ref05_Decode.j4 x15 x16 x24 x25 x26 x27 x29 = some o1 → ∀ (ρ : Nat → Nat) (w : World) (F : Heap) (a : Act), Cx 52 w0 F0 No w F [accP 40 kT_api_Part A17 c18 x16] [some ⟨40, [.v (.bool x25), .v (.int .i64 x26), .v (.string ⟨⟨x27⟩⟩)]⟩] ρ [(0, .v (.string ⟨⟨s_⟩⟩)), (4, .v (.slice A17 x16.length c18)), (5, .v (.int .i64 x15)), (6, .ptr 0 0), (7, .v (.int .i64 x24)), (40, .v (.bool x29))] a → K26 a w := by
          intro x29 h1  ρ w F a hX
          unfold ref05_Decode.j4 at h1
          refine hK26 _ _ ?_
          refine Cx.cond hX (b := x29) (by kernel_rfl) (fun hb => ?_) (fun hb => ?_)
          · have h1 := ite_tt h1 hb
            refine Cx.rseq hX [] [2, 3] (l' := [(2, .v (.slice none 0 0)), (3, .v (.int .i64 22))]) (B' := [some ⟨40, [.v (.bool x25), .v (.int .i64 x26), .v (.string ⟨⟨x27⟩⟩)]⟩]) (by kernel_rfl) fun ρ w a hX => ?_
            refine wp_ret ?_
            have hX := hX.nilSl 2 kT_api_Part (by kernel_rfl)
            have he := hx1 _ (out_eq h1)
            subst he
            (try dsimp only at h0)
            have hr := Option.some.inj (show some _ = some _ from h0)
            subst hr
            exact hX.ret0 (ss := [SV.sl kT_api_Part ([] : List T_api_Part) none 0, .v (.int .i64 22)]) (by kernel_rfl) (by kernel_rfl) ⟨_, _, rfl, ⟨_, _, rfl⟩, rfl⟩
          · have h1 := ite_ff h1 hb
            refine wp_skip ?_
            refine hK25 _ _ ?_
            refine wp_seq_k fun K28 hK28 => ?_
            refine wp_region_list ?_
            refine hX.part [] 3 [0, 4, 5, 7, 41, 43] (l' := [(0, .v (.string ⟨⟨s_⟩⟩)), (4, .v (.slice A17 x16.length c18)), (5, .v (.int .i64 x15)), (7, .v (.int .i64 x24)), (41, .v (.slice A17 x16.length c18)), (43, .slc 1 0 1 1)]) (B' := [some ⟨40, [.v (.bool x25), .v (.int .i64 x26), .v (.string ⟨⟨x27⟩⟩)]⟩, some ⟨40, [.v (.bool x25), .v (.int .i64 x26), .v (.string ⟨⟨x27⟩⟩)]⟩]) (by kernel_rfl) fun ρ w a hX => ?_
            obtain ⟨u32, hu32, h1⟩ := bnd_some h1
            refine hX.appLit (d := kT_api_Part) (k := 1) (m := 1) (bytes := 32) (cells := [.v (.bool x25), .v (.int .i64 x26), .v (.string ⟨⟨x27⟩⟩)]) (lit := []) (i := 0) (e := 40) (xs := x16) (A := A17) (c := c18) ([(({ IsText := x25, N := x26, S := x27 } : T_api_Part), ())] : List (T_api_Part × (kT_api_Part).Y)) (by kernel_rfl) (by kernel_rfl) rfl rfl (by kernel_rfl) (by kernel_rfl) (by kernel_rfl) (by kernel_rfl) (by kernel_rfl) rfl rfl (by decide) hu32 ⟨_, rfl⟩ fun A30 c31 w a hX => ?_
            have hX : Cx 52 _ _ _ _ _ [accP 40 kT_api_Part A30 c31 (x16 ++ [({ IsText := x25, N := x26, S := x27 } : T_api_Part)])] [some ⟨40, [.v (.bool x25), .v (.int .i64 x26), .v (.string ⟨⟨x27⟩⟩)]⟩, some ⟨40, [.v (.bool x25), .v (.int .i64 x26), .v (.string ⟨⟨x27⟩⟩)]⟩] ρ _ a := hX
            refine hX.part [] 1 [0, 4, 5, 7] (l' := [(0, .v (.string ⟨⟨s_⟩⟩)), (4, .v (.slice A30 (x16 ++ [({ IsText := x25, N := x26, S := x27 } : T_api_Part)]).length c31)), (5, .v (.int .i64 x15)), (7, .v (.int .i64 x24))]) (B' := [some ⟨40, [.v (.bool x25), .v (.int .i64 x26), .v (.string ⟨⟨x27⟩⟩)]⟩, some ⟨40, [.v (.bool x25), .v (.int .i64 x26), .v (.string ⟨⟨x27⟩⟩)]⟩]) (by kernel_rfl) fun ρ w a hX => ?_
            refine wpList_end ?_
            refine hK28 _ _ ?_
            refine Cx.region hX [] [0, 4, 5] (l' := [(0, .v (.string ⟨⟨s_⟩⟩)), (4, .v (.slice A30 (x16 ++ [({ IsText := x25, N := x26, S := x27 } : T_api_Part)]).length c31)), (5, .v (.int .i64 (IntKind.wrap .i64 (x15 + x24))))]) (B' := [some ⟨40, [.v (.bool x25), .v (.int .i64 x26), .v (.string ⟨⟨x27⟩⟩)]⟩, some ⟨40, [.v (.bool x25), .v (.int .i64 x26), .v (.string ⟨⟨x27⟩⟩)]⟩]) (by kernel_rfl) fun ρ w a hX => ?_
            have hX := hX.keeps [0, 4, 5] (l' := [(0, .v (.string ⟨⟨s_⟩⟩)), (4, .v (.slice A30 (x16 ++ [({ IsText := x25, N := x26, S := x27 } : T_api_Part)]).length c31)), (5, .v (.int .i64 (IntKind.wrap .i64 (x15 + x24))))]) (by kernel_rfl)
            have hX := hX.shrink 0 (B' := []) (by kernel_rfl) (Nat.le_of_ble_eq_true rfl) (by kernel_rfl) (by kernel_rfl)
            exact hb1 ((IntKind.wrap .i64 (x15 + x24)), (x16 ++ [({ IsText := x25, N := x26, S := x27 } : T_api_Part)])) (out_eq h1) _ _ ⟨A30, c31, _, _, hX⟩
        refine wp_region_list ?_
        refine hX.part [] 3 [0, 4, 5, 6, 7, 36] (l' := [(0, .v (.string ⟨⟨s_⟩⟩)), (4, .v (.slice A17 x16.length c18)), (5, .v (.int .i64 x15)), (6, .ptr 0 0), (7, .v (.int .i64 x24)), (36, .v (.bool (x24 == 0)))]) (B' := [some ⟨40, [.v (.bool x25), .v (.int .i64 x26), .v (.string ⟨⟨x27⟩⟩)]⟩]) (by kernel_rfl) fun ρ w a hX => ?_
        refine ite_go h1 (fun hb h1 => ?_) (fun hb h1 => ?_)
        · have hX := hX.relit 36 hb (by kernel_rfl)
          refine hX.part [2] 4 [0, 4, 5, 6, 7, 40] (l' := [(0, .v (.string ⟨⟨s_⟩⟩)), (4, .v (.slice A17 x16.length c18)), (5, .v (.int .i64 x15)), (6, .ptr 0 0), (7, .v (.int .i64 x24)), (40, .v (.bool true))]) (B' := [some ⟨40, [.v (.bool x25), .v (.int .i64 x26), .v (.string ⟨⟨x27⟩⟩)]⟩]) (by kernel_rfl) fun ρ w a hX => ?_
          refine wpList_end ?_
          have hX := hX.keeps [0, 4, 5, 6, 7, 40] (l' := [(0, .v (.string ⟨⟨s_⟩⟩)), (4, .v (.slice A17 x16.length c18)), (5, .v (.int .i64 x15)), (6, .ptr 0 0), (7, .v (.int .i64 x24)), (40, .v (.bool true))]) (by kernel_rfl)
          exact J26 true h1  _ _ _ _ hX
        · have hX := hX.relit 36 hb (by kernel_rfl)
          refine hX.part [2] 1 [0, 4, 5, 6, 7, 36, 37] (l' := [(0, .v (.string ⟨⟨s_⟩⟩)), (4, .v (.slice A17 x16.length c18)), (5, .v (.int .i64 x15)), (6, .ptr 0 0), (7, .v (.int .i64 x24)), (36, .v (.bool false)), (37, .agg [.v (.bool x25), .v (.int .i64 x26), .v (.string ⟨⟨x27⟩⟩)])]) (B' := [some ⟨40, [.v (.bool x25), .v (.int .i64 x26), .v (.string ⟨⟨x27⟩⟩)]⟩]) (by kernel_rfl) fun ρ w a hX => ?_
          obtain ⟨v28, hv28, h1⟩ := bnd_some h1
          refine Cx.call0 hX (lit := [2]) (by kernel_rfl) rfl (by kernel_rfl) ⟨⟨_, Tryd.func28, by kernel_rfl, rfl⟩⟩ (ss := [.agg [.v (.bool x25), .v (.int .i64 x26), .v (.string ⟨⟨x27⟩⟩)]]) (by kernel_rfl) [.agg [.v (.bool x25), .v (.int .i64 x26), .v (.string ⟨⟨x27⟩⟩)]] rfl (fun hg => hg) (fun hv hle hg => ref05_may.ok ({ IsText := x25, N := x26, S := x27 } : T_api_Part) v28 hv28 _ _ hv (hG.mono hle) hg _) (fun s F w a hp hX => ?_)
          subst hp
          refine hX.part [2] 2 [0, 4, 5, 6, 7, 40] (l' := [(0, .v (.string ⟨⟨s_⟩⟩)), (4, .v (.slice A17 x16.length c18)), (5, .v (.int .i64 x15)), (6, .ptr 0 0), (7, .v (.int .i64 x24)), (40, .v (.bool (!v28)))]) (B' := [some ⟨40, [.v (.bool x25), .v (.int .i64 x26), .v (.string ⟨⟨x27⟩⟩)]⟩]) (by kernel_rfl) fun ρ w a hX => ?_
          refine wpList_end ?_
          have hX := hX.keeps [0, 4, 5, 6, 7, 40] (l' := [(0, .v (.string ⟨⟨s_⟩⟩)), (4, .v (.slice A17 x16.length c18)), (5, .v (.int .i64 x15)), (6, .ptr 0 0), (7, .v (.int .i64 x24)), (40, .v (.bool (!v28)))]) (by kernel_rfl)
          exact J26 (!v28) h1  _ _ _ _ hX
      refine wp_seq_k fun K22 hK22 => ?_
      refine wp_region_list ?_
      refine hX.part [] 2 [0, 4, 5, 6, 7, 13, 14] (l' := [(0, .v (.string ⟨⟨s_⟩⟩)), (4, .v (.slice A17 x16.length c18)), (5, .v (.int .i64 x15)), (6, .ptr 0 0), (7, .v (.int .i64 0)), (13, .v (.string ⟨⟨s_⟩⟩)), (14, .v (.int .i64 x15))]) (B' := [some ⟨40, [.v (.bool false), .v (.int .i64 0), .v (.string ⟨⟨([] : Str)⟩⟩)]⟩]) (by kernel_rfl) fun ρ w a hX => ?_
      obtain ⟨v19, hv19, h1⟩ := bnd_some h1
      refine hX.idxStr (lit := []) (by kernel_rfl) (by kernel_rfl) rfl (s := s_) (k := .i64) (n := x15) (b := v19) (by kernel_rfl) (by kernel_rfl) (by kernel_rfl) hv19 fun a hX => ?_
      refine hX.part [] 0 [0, 4, 5, 6, 7, 15] (l' := [(0, .v (.string ⟨⟨s_⟩⟩)), (4, .v (.slice A17 x16.length c18)), (5, .v (.int .i64 x15)), (6, .ptr 0 0), (7, .v (.int .i64 0)), (15, .v (.int .u8 v19))]) (B' := [some ⟨40, [.v (.bool false), .v (.int .i64 0), .v (.string ⟨⟨([] : Str)⟩⟩)]⟩]) (by kernel_rfl) fun ρ w a hX => ?_
      refine wpList_end ?_
      refine hK22 _ _ ?_
      refine wp_block ?_
      refine Cx.rseq hX [] [0, 4, 5, 6, 7, 15, 16] (l' := [(0, .v (.string ⟨⟨s_⟩⟩)), (4, .v (.slice A17 x16.length c18)), (5, .v (.int .i64 x15)), (6, .ptr 0 0), (7, .v (.int .i64 0)), (15, .v (.int .u8 v19)), (16, .v (.bool (v19 == 16)))]) (B' := [some ⟨40, [.v (.bool false), .v (.int .i64 0), .v (.string ⟨⟨([] : Str)⟩⟩)]⟩]) (by kernel_rfl) fun ρ w a hX => ?_
      refine Cx.cond hX (b := (v19 == 16)) (by kernel_rfl) (fun hb => ?_) (fun hb => ?_)
      · have h1 := ite_tt h1 hb
        refine wp_region_list ?_
        refine hX.part [] 2 [0, 4, 5, 6, 7, 19, 20] (l' := [(0, .v (.string ⟨⟨s_⟩⟩)), (4, .v (.slice A17 x16.length c18)), (5, .v (.int .i64 x15)), (6, .ptr 0 0), (7, .v (.int .i64 0)), (19, .v (.string ⟨⟨s_⟩⟩)), (20, .v (.int .i64 x15))]) (B' := [some ⟨40, [.v (.bool false), .v (.int .i64 0), .v (.string ⟨⟨([] : Str)⟩⟩)]⟩]) (by kernel_rfl) fun ρ w a hX => ?_
        obtain ⟨v20, hv20, h1⟩ := bnd_some h1
        refine hX.cutStr (lit := []) (by kernel_rfl) (by kernel_rfl) rfl (s := s_) (ol := some x15) (oh := none) (r := v20) (by kernel_rfl) (by kernel_rfl) (by kernel_rfl) (by kernel_rfl) hv20 fun a hX => ?_
        refine hX.part [] 0 [0, 4, 5, 6, 7, 21] (l' := [(0, .v (.string ⟨⟨s_⟩⟩)), (4, .v (.slice A17 x16.length c18)), (5, .v (.int .i64 x15)), (6, .ptr 0 0), (7, .v (.int .i64 0)), (21, .v (.string ⟨⟨v20⟩⟩))]) (B' := [some ⟨40, [.v (.bool false), .v (.int .i64 0), .v (.string ⟨⟨([] : Str)⟩⟩)]⟩]) (by kernel_rfl) fun ρ w a hX => ?_
        obtain ⟨v21, hv21, h1⟩ := bnd_some h1
        refine Cx.call0 hX (lit := []) (by kernel_rfl) rfl (by kernel_rfl) ⟨⟨_, Tryd.func26, by kernel_rfl, rfl⟩⟩ (ss := [.v (.string ⟨⟨v20⟩⟩)]) (by kernel_rfl) [.v (.string ⟨⟨v20⟩⟩)] rfl (fun hg => hg) (fun hv hle hg => ref05_number.ok v20 v21 hv21 _ _ hv (hG.mono hle) hg _) (fun s F w a hp hX => ?_)
        obtain ⟨_, _, rfl, rfl, rfl⟩ := hp
        refine hX.part [] 5 [0, 4, 5, 6, 7] (l' := [(0, .v (.string ⟨⟨s_⟩⟩)), (4, .v (.slice A17 x16.length c18)), (5, .v (.int .i64 x15)), (6, .ptr 0 0), (7, .v (.int .i64 v21.2))]) (B' := [some ⟨40, [.v (.bool v21.1.IsText), .v (.int .i64 v21.1.N), .v (.string ⟨⟨v21.1.S⟩⟩)]⟩]) (by kernel_rfl) fun ρ w a hX => ?_
        refine wpList_end ?_
        have hX := hX.keeps [0, 4, 5, 6, 7] (l' := [(0, .v (.string ⟨⟨s_⟩⟩)), (4, .v (.slice A17 x16.length c18)), (5, .v (.int .i64 x15)), (6, .ptr 0 0), (7, .v (.int .i64 v21.2))]) (by kernel_rfl)
        exact J21 v21.2 v21.1.IsText v21.1.N v21.1.S h1  _ _ _ _ hX
      · have h1 := ite_ff h1 hb
        refine Cx.rseq hX [] [0, 4, 5, 6, 7, 25] (l' := [(0, .v (.string ⟨⟨s_⟩⟩)), (4, .v (.slice A17 x16.length c18)), (5, .v (.int .i64 x15)), (6, .ptr 0 0), (7, .v (.int .i64 0)), (25, .v (.bool (v19 == 32)))]) (B' := [some ⟨40, [.v (.bool false), .v (.int .i64 0), .v (.string ⟨⟨([] : Str)⟩⟩)]⟩]) (by kernel_rfl) fun ρ w a hX => ?_
        refine Cx.cond hX (b := (v19 == 32)) (by kernel_rfl) (fun hb => ?_) (fun hb => ?_)
        · have h1 := ite_tt h1 hb
          refine wp_region_list ?_
          refine hX.part [] 2 [0, 4, 5, 6, 7, 28, 29] (l' := [(0, .v (.string ⟨⟨s_⟩⟩)), (4, .v (.slice A17 x16.length c18)), (5, .v (.int .i64 x15)), (6, .ptr 0 0), (7, .v (.int .i64 0)), (28, .v (.string ⟨⟨s_⟩⟩)), (29, .v (.int .i64 x15))]) (B' := [some ⟨40, [.v (.bool false), .v (.int .i64 0), .v (.string ⟨⟨([] : Str)⟩⟩)]⟩]) (by kernel_rfl) fun ρ w a hX => ?_
          obtain ⟨v22, hv22, h1⟩ := bnd_some h1
          refine hX.cutStr (lit := []) (by kernel_rfl) (by kernel_rfl) rfl (s := s_) (ol := some x15) (oh := none) (r := v22) (by kernel_rfl) (by kernel_rfl) (by kernel_rfl) (by kernel_rfl) hv22 fun a hX => ?_
          refine hX.part [] 0 [0, 4, 5, 6, 7, 30] (l' := [(0, .v (.string ⟨⟨s_⟩⟩)), (4, .v (.slice A17 x16.length c18)), (5, .v (.int .i64 x15)), (6, .ptr 0 0), (7, .v (.int .i64 0)), (30, .v (.string ⟨⟨v22⟩⟩))]) (B' := [some ⟨40, [.v (.bool false), .v (.int .i64 0), .v (.string ⟨⟨([] : Str)⟩⟩)]⟩]) (by kernel_rfl) fun ρ w a hX => ?_
          obtain ⟨v23, hv23, h1⟩ := bnd_some h1
          refine Cx.call0 hX (lit := []) (by kernel_rfl) rfl (by kernel_rfl) ⟨⟨_, Tryd.func27, by kernel_rfl, rfl⟩⟩ (ss := [.v (.string ⟨⟨v22⟩⟩)]) (by kernel_rfl) [.v (.string ⟨⟨v22⟩⟩)] rfl (fun hg => hg) (fun hv hle hg => ref05_text.ok v22 v23 hv23 _ _ hv (hG.mono hle) hg _) (fun s F w a hp hX => ?_)
          obtain ⟨_, _, rfl, rfl, rfl⟩ := hp
          refine hX.part [] 5 [0, 4, 5, 6, 7] (l' := [(0, .v (.string ⟨⟨s_⟩⟩)), (4, .v (.slice A17 x16.length c18)), (5, .v (.int .i64 x15)), (6, .ptr 0 0), (7, .v (.int .i64 v23.2))]) (B' := [some ⟨40, [.v (.bool v23.1.IsText), .v (.int .i64 v23.1.N), .v (.string ⟨⟨v23.1.S⟩⟩)]⟩]) (by kernel_rfl) fun ρ w a hX => ?_
          refine wpList_end ?_
          have hX := hX.keeps [0, 4, 5, 6, 7] (l' := [(0, .v (.string ⟨⟨s_⟩⟩)), (4, .v (.slice A17 x16.length c18)), (5, .v (.int .i64 x15)), (6, .ptr 0 0), (7, .v (.int .i64 v23.2))]) (by kernel_rfl)
          exact J21 v23.2 v23.1.IsText v23.1.N v23.1.S h1  _ _ _ _ hX
        · have h1 := ite_ff h1 hb
          refine wp_skip ?_
          have hX := hX.keeps [0, 4, 5, 6, 7] (l' := [(0, .v (.string ⟨⟨s_⟩⟩)), (4, .v (.slice A17 x16.length c18)), (5, .v (.int .i64 x15)), (6, .ptr 0 0), (7, .v (.int .i64 0))]) (by kernel_rfl)
          exact J21 0 false 0 ([] : Str) h1  _ _ _ _ hX
    · have h1 := ite_ff h1 hb
      refine wp_exit ?_
      have hX := hX.keeps [0, 4] (l' := [(0, .v (.string ⟨⟨s_⟩⟩)), (4, .v (.slice A17 x16.length c18))]) (by kernel_rfl)
      exact E1x0 x16 (hx1 _ (out_eq h1)).symm A17 c18 _ _ _ _ hX
  · exact ⟨none, 0, _, _, hX⟩
def order_Encode.j4 (x44 : Int) (x88 : List UInt8) : Option ((Int × (List UInt8)) ⊕ (((List UInt8)) ⊕ (Str × Int))) :=
  some (.inl ((IntKind.wrap .i64 (x44 + 1)), x88))
def order_Encode.l3 (v48 : T_api_Part) (s : Int × (List UInt8)) : Option ((Int × (List UInt8)) ⊕ (((List UInt8)))) := match s with
  | (x72, x73) =>
  if (decide (x72 ≥ 0)) = true then
    Option.bind (shrI .u64 (IntKind.wrap .u64 ((BitVec.ofInt 64 (IntKind.wrap .u64 v48.N) ^^^ BitVec.ofInt 64 9223372036854775808).toNat)) (IntKind.wrap .u64 x72)) fun v76 =>
    Option.bind (toB (IntKind.wrap .u8 v76)) fun b80 =>
    Option.bind (room (x73.length + 1)) fun u79 =>
    some (.inl ((IntKind.wrap .i64 (x72 - 8)), (x73 ++ [b80])))
  else
    some (.inr x73)
def order_Encode.j3 (x44 : Int) (x45 : List UInt8) (v48 : T_api_Part) (x53 : Bool) : Option ((Int × (List UInt8)) ⊕ (((List UInt8)) ⊕ (Str × Int))) :=
  if x53 = true then
    Option.bind (room (x45.length + ([32] : Str).length)) fun u56 =>
    Option.bind (strings_ReplaceAll v48.S ([0] : Str) ([0, 255] : Str)) fun v57 =>
    Option.bind (room ((x45 ++ ([32] : Str)).length + v57.length)) fun u60 =>
    Option.bind (room (((x45 ++ ([32] : Str)) ++ v57).length + ([0, 1] : Str).length)) fun u63 =>
    order_Encode.j4 x44 (((x45 ++ ([32] : Str)) ++ v57) ++ ([0, 1] : Str))
  else
    if ((((!v48.IsText) && (v48.S == ([] : Str))) && (decide (v48.N ≥ (-9007199254740991)))) && (decide (v48.N ≤ 9007199254740991))) = true then
      Option.bind (room (x45.length + ([16] : Str).length)) fun u66 =>
      Option.bind (loopM (order_Encode.l3 v48) (56, (x45 ++ ([16] : Str)))) fun e => match e with
      | x85 =>
        order_Encode.j4 x44 x85
    else
      some (.inr (.inr (([] : Str), 50)))
def order_Encode.l1 (k : List T_api_Part) (s : Int × (List UInt8)) : Option ((Int × (List UInt8)) ⊕ (((List UInt8)) ⊕ (Str × Int))) := match s with
  | (x44, x45) =>
  if (decide (x44 < ((k.length : Nat) : Int))) = true then
    Option.bind (getI k x44) fun v48 =>
    if (v48.IsText && (v48.N == 0)) = true then
      Option.bind (units_Check v48.S) fun v52 =>
      order_Encode.j3 x44 x45 v48 v52
    else
      order_Encode.j3 x44 x45 v48 false
  else
    some (.inr (.inl x45))
def order_Encode (k : List T_api_Part) : Option (Str × Int) :=
  Option.bind (loopM (order_Encode.l1 k) (0, ([] : List UInt8))) fun e => match e with
  | (.inl x95) =>
    if (decide (((x95.length : Nat) : Int) > 256)) = true then
      some (([] : Str), 2)
    else
      some (x95, 0)
  | (.inr r98) =>
    some r98
theorem order_Encode.ok (k : List T_api_Part) (y_k : (Option Addr × Nat)) (r : Str × Int) (h0 : order_Encode k = some r) (w0 : World) (F0 : Heap) (hv : F0.Sub w0) (hG : Glob F0) (hg : SV.goods F0 [SV.sl kT_api_Part k y_k.1 y_k.2]) (ρ : Nat → Nat) :
    Calls Tryd.prog 16 (SV.dens ρ [SV.sl kT_api_Part k y_k.1 y_k.2]).toArray w0 (Ret0 w0 F0 fun s => ∃ s1 s2, s = .tup [s1, s2] ∧ (s1 = .v (.string ⟨⟨r.1⟩⟩)) ∧ (s2 = .v (.int .i64 r.2))) := by
  refine calls_of_wp Tryd.func16 rfl ?_
  have hX := Cx.enter (D := No) (B := []) (L := []) (ρ := ρ) (N := 80) Tryd.ntmps16 [SV.sl kT_api_Part k y_k.1 y_k.2] (St.start hv) rfl hg (by kernel_rfl) (fun _ h => by cases h) (Nat.le_of_ble_eq_true rfl)
  unfold order_Encode at h0
  refine Cx.rseq hX [] [0] (l' := [(0, SV.sl kT_api_Part k y_k.1 y_k.2)]) (B' := []) (by kernel_rfl) fun ρ w a hX => ?_
  refine Cx.rseq hX [] [0, 4] (l' := [(0, SV.sl kT_api_Part k y_k.1 y_k.2), (4, .v (.slice none 0 0))]) (B' := []) (by kernel_rfl) fun ρ w a hX => ?_
  refine wp_seq_k fun K3 hK3 => ?_
  refine Cx.rseq hX [] [4, 9, 10, 11] (l' := [(4, .v (.slice none 0 0)), (9, SV.sl kT_api_Part k y_k.1 y_k.2), (10, .v (.int .i64 ((k.length : Nat) : Int))), (11, .v (.int .i64 0))]) (B' := []) (by kernel_rfl) fun ρ w a hX => ?_
  refine wp_block ?_
  have hX := hX.newAcc 5 kByte
  have hX := hX.keeps [4, 9, 10, 11] (l' := [(4, .v (.slice none ([] : List UInt8).length 0)), (9, SV.sl kT_api_Part k y_k.1 y_k.2), (10, .v (.int .i64 ((k.length : Nat) : Int))), (11, .v (.int .i64 0))]) (by kernel_rfl)
  obtain ⟨e1, he1, h0⟩ := bnd_some h0
  have E1x0 : ∀ (x95 : List UInt8), e1 = (.inl x95) → ∀ (A96 : Option Addr) (c97 : Nat) (ρ : Nat → Nat) (w : World) (F : Heap) (a : Act), Cx 80 w0 F0 No w F [accP 5 kByte A96 c97 x95] [] ρ [(4, .v (.slice A96 x95.length c97))] a → K3 a w := by
    intro x95 he A96 c97 ρ w F a hX
    replace he := he.symm
    subst he
    (try dsimp only at h0)
    refine hK3 _ _ ?_
    refine wp_seq_k fun K41 hK41 => ?_
    refine Cx.rseq hX [] [4, 77] (l' := [(4, .v (.slice A96 x95.length c97)), (77, .v (.bool (decide (((x95.length : Nat) : Int) > 256))))]) (B' := []) (by kernel_rfl) fun ρ w a hX => ?_
    refine Cx.cond hX (b := (decide (((x95.length : Nat) : Int) > 256))) (by kernel_rfl) (fun hb => ?_) (fun hb => ?_)
    · have h0 := ite_tt h0 hb
      refine Cx.rseq hX [] [2, 3] (l' := [(2, .v (.string ⟨⟨([] : Str)⟩⟩)), (3, .v (.int .i64 2))]) (B' := []) (by kernel_rfl) fun ρ w a hX => ?_
      refine wp_ret ?_
      have hr := Option.some.inj (show some _ = some _ from h0)
      subst hr
      exact hX.ret0 (ss := [.v (.string ⟨⟨([] : Str)⟩⟩), .v (.int .i64 2)]) (by kernel_rfl) (by kernel_rfl) ⟨_, _, rfl, rfl, rfl⟩
    · have h0 := ite_ff h0 hb
      refine wp_skip ?_
      refine hK41 _ _ ?_
      refine wp_seq_k fun K44 hK44 => ?_
      refine wp_region_list ?_
      refine hX.part [] 1 [78] (l' := [(78, .v (.slice A96 x95.length c97))]) (B' := []) (by kernel_rfl) fun ρ w a hX => ?_
      refine hX.strAcc (lit := []) (i := 0) (e := 5) (e2 := 5) (xs := x95) (A := A96) (c := c97) (by kernel_rfl) (by kernel_rfl) rfl rfl (by kernel_rfl) (by kernel_rfl) (by kernel_rfl) (by kernel_rfl) fun a hX => ?_
      refine hX.part [] 2 [2, 3] (l' := [(2, .v (.string ⟨⟨x95⟩⟩)), (3, .v (.int .i64 0))]) (B' := []) (by kernel_rfl) fun ρ w a hX => ?_
      refine wpList_end ?_
      refine hK44 _ _ ?_
      refine wp_ret ?_
      have hr := Option.some.inj (show some _ = some _ from h0)
      subst hr
      exact hX.ret0 (ss := [.v (.string ⟨⟨x95⟩⟩), .v (.int .i64 0)]) (by kernel_rfl) (by kernel_rfl) ⟨_, _, rfl, rfl, rfl⟩
  refine loop_go (fun (s : Int × (List UInt8)) a w => match s with | (x44, x45) => ∃ (A46 : Option Addr) (c47 : Nat) (ρ : Nat → Nat) (F : Heap), Cx 80 w0 F0 No w F [accP 5 kByte A46 c47 x45] [] ρ [(4, .v (.slice A46 x45.length c47)), (9, SV.sl kT_api_Part k y_k.1 y_k.2), (10, .v (.int .i64 ((k.length : Nat) : Int))), (11, .v (.int .i64 x44))] a) he1 (fun LW1 s o1 h1 hb1 hx1 a w hI => ?_) _ _ ?_
  · obtain ⟨x44, x45⟩ := s
    obtain ⟨A46, c47, ρ, F, hX⟩ := hI
    unfold order_Encode.l1 at h1
    (try dsimp only at h1)
    refine Cx.rseq hX [] [4, 9, 10, 11, 12] (l' := [(4, .v (.slice A46 x45.length c47)), (9, SV.sl kT_api_Part k y_k.1 y_k.2), (10, .v (.int .i64 ((k.length : Nat) : Int))), (11, .v (.int .i64 x44)), (12, .v (.bool (decide (x44 < ((k.length : Nat) : Int)))))]) (B' := []) (by kernel_rfl) fun ρ w a hX => ?_
    refine wp_seq_k fun K24 hK24 => ?_
    refine Cx.cond hX (b := (decide (x44 < ((k.length : Nat) : Int)))) (by kernel_rfl) (fun hb => ?_) (fun hb => ?_)
    · have h1 := ite_tt h1 hb
      refine wp_skip ?_
      refine hK24 _ _ ?_
      refine wp_seq_k fun K25 hK25 => ?_
      have J25 : ∀ (x88 : List UInt8), order_Encode.j4 x44 x88 = some o1 → ∀ (A89 : Option Addr) (c90 : Nat) (ρ : Nat → Nat) (w : World) (F : Heap) (a : Act), Cx 80 w0 F0 No w F [accP 5 kByte A89 c90 x88] [] ρ [(4, .v (.slice A89 x88.length c90)), (9, SV.sl kT_api_Part k y_k.1 y_k.2), (10, .v (.int .i64 ((k.length : Nat) : Int))), (11, .v (.int .i64 x44))] a → K25 a w := by
        intro x88 h1 A89 c90 ρ w F a hX
        unfold order_Encode.j4 at h1
        refine hK25 _ _ ?_
        refine Cx.region hX [] [4, 9, 10, 11] (l' := [(4, .v (.slice A89 x88.length c90)), (9, SV.sl kT_api_Part k y_k.1 y_k.2), (10, .v (.int .i64 ((k.length : Nat) : Int))), (11, .v (.int .i64 (IntKind.wrap .i64 (x44 + 1))))]) (B' := []) (by kernel_rfl) fun ρ w a hX => ?_
        have hX := hX.keeps [4, 9, 10, 11] (l' := [(4, .v (.slice A89 x88.length c90)), (9, SV.sl kT_api_Part k y_k.1 y_k.2), (10, .v (.int .i64 ((k.length : Nat) : Int))), (11, .v (.int .i64 (IntKind.wrap .i64 (x44 + 1))))]) (by kernel_rfl)
        exact hb1 ((IntKind.wrap .i64 (x44 + 1)), x88) (out_eq h1) _ _ ⟨A89, c90, _, _, hX⟩
      refine wp_block ?_
      refine wp_seq_k fun K26 hK26 => ?_
      refine wp_region_list ?_
      refine hX.part [] 0 [4, 9, 10, 11] (l' := [(4, .v (.slice A46 x45.length c47)), (9, SV.sl kT_api_Part k y_k.1 y_k.2), (10, .v (.int .i64 ((k.length : Nat) : Int))), (11, .v (.int .i64 x44))]) (B' := []) (by kernel_rfl) fun ρ w a hX => ?_
      obtain ⟨v48, hv48, h1⟩ := bnd_some h1
      refine hX.idxSl (lit := []) (by kernel_rfl) (by kernel_rfl) rfl (d := kT_api_Part) (e := 40) (xs := k) (A := y_k.1) (c := y_k.2) (k := .i64) (n := x44) (v := v48) (by kernel_rfl) (by kernel_rfl) (by kernel_rfl) (by kernel_rfl) hv48 fun y49 b50 o51 a hX => ?_
      refine hX.part [] 3 [4, 6, 9, 10, 11] (l' := [(4, .v (.slice A46 x45.length c47)), (6, .ptr 0 0), (9, SV.sl kT_api_Part k y_k.1 y_k.2), (10, .v (.int .i64 ((k.length : Nat) : Int))), (11, .v (.int .i64 x44))]) (B' := [some ⟨40, [.v (.bool v48.IsText), .v (.int .i64 v48.N), .v (.string ⟨⟨v48.S⟩⟩)]⟩]) (by kernel_rfl) fun ρ w a hX => ?_
      refine wpList_end ?_
      refine hK26 _ _ ?_
      refine wp_block ?_
      refine wp_seq_k fun K27 hK27 => ?_
      have J27 : ∀ (x53 : Bool), order_Encode.j3 x44 x45 v48 x53 = some o1 → ∀ (ρ : Nat → Nat) (w : World) (F : Heap) (a : Act), Cx 80 w0 F0 No w F [accP 5 kByte A46 c47 x45] [some ⟨40, [.v (.bool v48.IsText), .v (.int .i64 v48.N), .v (.string ⟨⟨v48.S⟩⟩)]⟩] ρ [(4, .v (.slice A46 x45.length c47)), (6, .ptr 0 0), (9, SV.sl kT_api_Part k y_k.1 y_k.2), (10, .v (.int .i64 ((k.length : Nat) : Int))), (11, .v (.int .i64 x44)), (15, .v (.bool x53))] a → K27 a w := by
        intro x53 h1  ρ w F a hX
        unfold order_Encode.j3 at h1
        refine hK27 _ _ ?_
        refine Cx.cond hX (b := x53) (by kernel_rfl) (fun hb => ?_) (fun hb => ?_)
        · have h1 := ite_tt h1 hb
          refine wp_seq_k fun K28 hK28 => ?_
          refine wp_region_list ?_
          refine hX.part [] 1 [4, 6, 9, 10, 11, 28] (l' := [(4, .v (.slice A46 x45.length c47)), (6, .ptr 0 0), (9, SV.sl kT_api_Part k y_k.1 y_k.2), (10, .v (.int .i64 ((k.length : Nat) : Int))), (11, .v (.int .i64 x44)), (28, .v (.slice A46 x45.length c47))]) (B' := [some ⟨40, [.v (.bool v48.IsText), .v (.int .i64 v48.N), .v (.string ⟨⟨v48.S⟩⟩)]⟩]) (by kernel_rfl) fun ρ w a hX => ?_
          obtain ⟨u56, hu56, h1⟩ := bnd_some h1
          refine hX.appStr (lit := []) (i := 0) (e := 5) (xs := x45) (A := A46) (c := c47) (t := ([32] : Str)) (by kernel_rfl) (by kernel_rfl) rfl rfl (by kernel_rfl) (by kernel_rfl) (by kernel_rfl) (by kernel_rfl) (by kernel_rfl) hu56 fun A54 c55 w a hX => ?_
          have hX : Cx 80 _ _ _ _ _ [accP 5 kByte A54 c55 (x45 ++ ([32] : Str))] [some ⟨40, [.v (.bool v48.IsText), .v (.int .i64 v48.N), .v (.string ⟨⟨v48.S⟩⟩)]⟩] ρ _ a := hX
          refine hX.part [] 1 [4, 6, 9, 10, 11] (l' := [(4, .v (.slice A54 (x45 ++ ([32] : Str)).length c55)), (6, .ptr 0 0), (9, SV.sl kT_api_Part k y_k.1 y_k.2), (10, .v (.int .i64 ((k.length : Nat) : Int))), (11, .v (.int .i64 x44))]) (B' := [some ⟨40, [.v (.bool v48.IsText), .v (.int .i64 v48.N), .v (.string ⟨⟨v48.S⟩⟩)]⟩]) (by kernel_rfl) fun ρ w a hX => ?_
          refine wpList_end ?_
          refine hK28 _ _ ?_
          refine wp_seq_k fun K29 hK29 => ?_
          refine wp_region_list ?_
          refine hX.part [] 3 [4, 9, 10, 11, 30, 32] (l' := [(4, .v (.slice A54 (x45 ++ ([32] : Str)).length c55)), (9, SV.sl kT_api_Part k y_k.1 y_k.2), (10, .v (.int .i64 ((k.length : Nat) : Int))), (11, .v (.int .i64 x44)), (30, .v (.slice A54 (x45 ++ ([32] : Str)).length c55)), (32, .v (.string ⟨⟨v48.S⟩⟩))]) (B' := [some ⟨40, [.v (.bool v48.IsText), .v (.int .i64 v48.N), .v (.string ⟨⟨v48.S⟩⟩)]⟩]) (by kernel_rfl) fun ρ w a hX => ?_
          obtain ⟨v57, hv57, h1⟩ := bnd_some h1
          refine Cx.call0 hX (lit := []) (by kernel_rfl) rfl (by kernel_rfl) ⟨⟨_, Tryd.func24, by kernel_rfl, rfl⟩⟩ (ss := [.v (.string ⟨⟨v48.S⟩⟩), .v (.string ⟨⟨([0] : Str)⟩⟩), .v (.string ⟨⟨([0, 255] : Str)⟩⟩)]) (by kernel_rfl) [.v (.string ⟨⟨v48.S⟩⟩), .v (.string ⟨⟨([0] : Str)⟩⟩), .v (.string ⟨⟨([0, 255] : Str)⟩⟩)] rfl (fun hg => hg) (fun hv hle hg => strings_ReplaceAll.ok v48.S ([0] : Str) ([0, 255] : Str) v57 hv57 _ _ hv (hG.mono hle) hg _) (fun s F w a hp hX => ?_)
          subst hp
          refine hX.part [] 0 [4, 9, 10, 11, 30, 33] (l' := [(4, .v (.slice A54 (x45 ++ ([32] : Str)).length c55)), (9, SV.sl kT_api_Part k y_k.1 y_k.2), (10, .v (.int .i64 ((k.length : Nat) : Int))), (11, .v (.int .i64 x44)), (30, .v (.slice A54 (x45 ++ ([32] : Str)).length c55)), (33, .v (.string ⟨⟨v57⟩⟩))]) (B' := [some ⟨40, [.v (.bool v48.IsText), .v (.int .i64 v48.N), .v (.string ⟨⟨v48.S⟩⟩)]⟩]) (by kernel_rfl) fun ρ w a hX => ?_
          obtain ⟨u60, hu60, h1⟩ := bnd_some h1
          refine hX.appStr (lit := []) (i := 0) (e := 5) (xs := (x45 ++ ([32] : Str))) (A := A54) (c := c55) (t := v57) (by kernel_rfl) (by kernel_rfl) rfl rfl (by kernel_rfl) (by kernel_rfl) (by kernel_rfl) (by kernel_rfl) (by kernel_rfl) hu60 fun A58 c59 w a hX => ?_
          have hX : Cx 80 _ _ _ _ _ [accP 5 kByte A58 c59 ((x45 ++ ([32] : Str)) ++ v57)] [some ⟨40, [.v (.bool v48.IsText), .v (.int .i64 v48.N), .v (.string ⟨⟨v48.S⟩⟩)]⟩] ρ _ a := hX
          refine hX.part [] 1 [4, 9, 10, 11] (l' := [(4, .v (.slice A58 ((x45 ++ ([32] : Str)) ++ v57).length c59)), (9, SV.sl kT_api_Part k y_k.1 y_k.2), (10, .v (.int .i64 ((k.length : Nat) : Int))), (11, .v (.int .i64 x44))]) (B' := [some ⟨40, [.v (.bool v48.IsText), .v (.int .i64 v48.N), .v (.string ⟨⟨v48.S⟩⟩)]⟩]) (by kernel_rfl) fun ρ w a hX => ?_
          refine wpList_end ?_
          refine hK29 _ _ ?_
          refine wp_region_list ?_
          refine hX.part [] 1 [4, 9, 10, 11, 35] (l' := [(4, .v (.slice A58 ((x45 ++ ([32] : Str)) ++ v57).length c59)), (9, SV.sl kT_api_Part k y_k.1 y_k.2), (10, .v (.int .i64 ((k.length : Nat) : Int))), (11, .v (.int .i64 x44)), (35, .v (.slice A58 ((x45 ++ ([32] : Str)) ++ v57).length c59))]) (B' := [some ⟨40, [.v (.bool v48.IsText), .v (.int .i64 v48.N), .v (.string ⟨⟨v48.S⟩⟩)]⟩]) (by kernel_rfl) fun ρ w a hX => ?_
          obtain ⟨u63, hu63, h1⟩ := bnd_some h1
          refine hX.appStr (lit := []) (i := 0) (e := 5) (xs := ((x45 ++ ([32] : Str)) ++ v57)) (A := A58) (c := c59) (t := ([0, 1] : Str)) (by kernel_rfl) (by kernel_rfl) rfl rfl (by kernel_rfl) (by kernel_rfl) (by kernel_rfl) (by kernel_rfl) (by kernel_rfl) hu63 fun A61 c62 w a hX => ?_
          have hX : Cx 80 _ _ _ _ _ [accP 5 kByte A61 c62 (((x45 ++ ([32] : Str)) ++ v57) ++ ([0, 1] : Str))] [some ⟨40, [.v (.bool v48.IsText), .v (.int .i64 v48.N), .v (.string ⟨⟨v48.S⟩⟩)]⟩] ρ _ a := hX
          refine hX.part [] 1 [4, 9, 10, 11] (l' := [(4, .v (.slice A61 (((x45 ++ ([32] : Str)) ++ v57) ++ ([0, 1] : Str)).length c62)), (9, SV.sl kT_api_Part k y_k.1 y_k.2), (10, .v (.int .i64 ((k.length : Nat) : Int))), (11, .v (.int .i64 x44))]) (B' := [some ⟨40, [.v (.bool v48.IsText), .v (.int .i64 v48.N), .v (.string ⟨⟨v48.S⟩⟩)]⟩]) (by kernel_rfl) fun ρ w a hX => ?_
          refine wpList_end ?_
          have hX := hX.keeps [4, 9, 10, 11] (l' := [(4, .v (.slice A61 (((x45 ++ ([32] : Str)) ++ v57) ++ ([0, 1] : Str)).length c62)), (9, SV.sl kT_api_Part k y_k.1 y_k.2), (10, .v (.int .i64 ((k.length : Nat) : Int))), (11, .v (.int .i64 x44))]) (by kernel_rfl)
          have hX := hX.shrink 0 (B' := []) (by kernel_rfl) (Nat.le_of_ble_eq_true rfl) (by kernel_rfl) (by kernel_rfl)
          exact J25 (((x45 ++ ([32] : Str)) ++ v57) ++ ([0, 1] : Str)) h1 A61 c62 _ _ _ _ hX
        · have h1 := ite_ff h1 hb
          refine Cx.rseq hX [] [4, 6, 9, 10, 11, 37] (l' := [(4, .v (.slice A46 x45.length c47)), (6, .ptr 0 0), (9, SV.sl kT_api_Part k y_k.1 y_k.2), (10, .v (.int .i64 ((k.length : Nat) : Int))), (11, .v (.int .i64 x44)), (37, .v (.bool ((((!v48.IsText) && (v48.S == ([] : Str))) && (decide (v48.N ≥ (-9007199254740991)))) && (decide (v48.N ≤ 9007199254740991)))))]) (B' := [some ⟨40, [.v (.bool v48.IsText), .v (.int .i64 v48.N), .v (.string ⟨⟨v48.S⟩⟩)]⟩]) (by kernel_rfl) fun ρ w a hX => ?_
          refine Cx.cond hX (b := ((((!v48.IsText) && (v48.S == ([] : Str))) && (decide (v48.N ≥ (-9007199254740991)))) && (decide (v48.N ≤ 9007199254740991)))) (by kernel_rfl) (fun hb => ?_) (fun hb => ?_)
          · have h1 := ite_tt h1 hb
            refine wp_seq_k fun K31 hK31 => ?_
            refine wp_region_list ?_
            refine hX.part [] 1 [4, 6, 9, 10, 11, 56] (l' := [(4, .v (.slice A46 x45.length c47)), (6, .ptr 0 0), (9, SV.sl kT_api_Part k y_k.1 y_k.2), (10, .v (.int .i64 ((k.length : Nat) : Int))), (11, .v (.int .i64 x44)), (56, .v (.slice A46 x45.length c47))]) (B' := [some ⟨40, [.v (.bool v48.IsText), .v (.int .i64 v48.N), .v (.string ⟨⟨v48.S⟩⟩)]⟩]) (by kernel_rfl) fun ρ w a hX => ?_
            obtain ⟨u66, hu66, h1⟩ := bnd_some h1
            refine hX.appStr (lit := []) (i := 0) (e := 5) (xs := x45) (A := A46) (c := c47) (t := ([16] : Str)) (by kernel_rfl) (by kernel_rfl) rfl rfl (by kernel_rfl) (by kernel_rfl) (by kernel_rfl) (by kernel_rfl) (by kernel_rfl) hu66 fun A64 c65 w a hX => ?_
            have hX : Cx 80 _ _ _ _ _ [accP 5 kByte A64 c65 (x45 ++ ([16] : Str))] [some ⟨40, [.v (.bool v48.IsText), .v (.int .i64 v48.N), .v (.string ⟨⟨v48.S⟩⟩)]⟩] ρ _ a := hX
            refine hX.part [] 1 [4, 6, 9, 10, 11] (l' := [(4, .v (.slice A64 (x45 ++ ([16] : Str)).length c65)), (6, .ptr 0 0), (9, SV.sl kT_api_Part k y_k.1 y_k.2), (10, .v (.int .i64 ((k.length : Nat) : Int))), (11, .v (.int .i64 x44))]) (B' := [some ⟨40, [.v (.bool v48.IsText), .v (.int .i64 v48.N), .v (.string ⟨⟨v48.S⟩⟩)]⟩]) (by kernel_rfl) fun ρ w a hX => ?_
            refine wpList_end ?_
            refine hK31 _ _ ?_
            refine Cx.rseq hX [] [4, 7, 9, 10, 11] (l' := [(4, .v (.slice A64 (x45 ++ ([16] : Str)).length c65)), (7, .v (.int .u64 (IntKind.wrap .u64 ((BitVec.ofInt 64 (IntKind.wrap .u64 v48.N) ^^^ BitVec.ofInt 64 9223372036854775808).toNat)))), (9, SV.sl kT_api_Part k y_k.1 y_k.2), (10, .v (.int .i64 ((k.length : Nat) : Int))), (11, .v (.int .i64 x44))]) (B' := [some ⟨40, [.v (.bool v48.IsText), .v (.int .i64 v48.N), .v (.string ⟨⟨v48.S⟩⟩)]⟩]) (by kernel_rfl) fun ρ w a hX => ?_
            refine Cx.rseq hX [] [4, 7, 8, 9, 10, 11] (l' := [(4, .v (.slice A64 (x45 ++ ([16] : Str)).length c65)), (7, .v (.int .u64 (IntKind.wrap .u64 ((BitVec.ofInt 64 (IntKind.wrap .u64 v48.N) ^^^ BitVec.ofInt 64 9223372036854775808).toNat)))), (8, .v (.int .i64 56)), (9, SV.sl kT_api_Part k y_k.1 y_k.2), (10, .v (.int .i64 ((k.length : Nat) : Int))), (11, .v (.int .i64 x44))]) (B' := [some ⟨40, [.v (.bool v48.IsText), .v (.int .i64 v48.N), .v (.string ⟨⟨v48.S⟩⟩)]⟩]) (by kernel_rfl) fun ρ w a hX => ?_
            refine wp_block ?_
            have hX := hX.keeps [4, 7, 8, 9, 10, 11] (l' := [(4, .v (.slice A64 (x45 ++ ([16] : Str)).length c65)), (7, .v (.int .u64 (IntKind.wrap .u64 ((BitVec.ofInt 64 (IntKind.wrap .u64 v48.N) ^^^ BitVec.ofInt 64 9223372036854775808).toNat)))), (8, .v (.int .i64 56)), (9, SV.sl kT_api_Part k y_k.1 y_k.2), (10, .v (.int .i64 ((k.length : Nat) : Int))), (11, .v (.int .i64 x44))]) (by kernel_rfl)
            have hX := hX.shrink 0 (B' := []) (by kernel_rfl) (Nat.le_of_ble_eq_true rfl) (by kernel_rfl) (by kernel_rfl)
            obtain ⟨e2, he2, h1⟩ := bnd_some h1
            have E2x0 : ∀ (x85 : List UInt8), e2 = x85 → ∀ (A86 : Option Addr) (c87 : Nat) (ρ : Nat → Nat) (w : World) (F : Heap) (a : Act), Cx 80 w0 F0 No w F [accP 5 kByte A86 c87 x85] [] ρ [(4, .v (.slice A86 x85.length c87)), (9, SV.sl kT_api_Part k y_k.1 y_k.2), (10, .v (.int .i64 ((k.length : Nat) : Int))), (11, .v (.int .i64 x44))] a → K25 a w := by
              intro x85 he A86 c87 ρ w F a hX
              replace he := he.symm
              subst he
              (try dsimp only at h1)
              have hX := hX.keeps [4, 9, 10, 11] (l' := [(4, .v (.slice A86 x85.length c87)), (9, SV.sl kT_api_Part k y_k.1 y_k.2), (10, .v (.int .i64 ((k.length : Nat) : Int))), (11, .v (.int .i64 x44))]) (by kernel_rfl)
              exact J25 x85 h1 A86 c87 _ _ _ _ hX
            refine loop_go (fun (s : Int × (List UInt8)) a w => match s with | (x72, x73) => ∃ (A74 : Option Addr) (c75 : Nat) (ρ : Nat → Nat) (F : Heap), Cx 80 w0 F0 No w F [accP 5 kByte A74 c75 x73] [] ρ [(4, .v (.slice A74 x73.length c75)), (7, .v (.int .u64 (IntKind.wrap .u64 ((BitVec.ofInt 64 (IntKind.wrap .u64 v48.N) ^^^ BitVec.ofInt 64 9223372036854775808).toNat)))), (8, .v (.int .i64 x72)), (9, SV.sl kT_api_Part k y_k.1 y_k.2), (10, .v (.int .i64 ((k.length : Nat) : Int))), (11, .v (.int .i64 x44))] a) he2 (fun LW2 s o2 h2 hb2 hx2 a w hI => ?_) _ _ ?_
            · obtain ⟨x72, x73⟩ := s
              obtain ⟨A74, c75, ρ, F, hX⟩ := hI
              unfold order_Encode.l3 at h2
              (try dsimp only at h2)
              refine wp_seq_k fun K37 hK37 => ?_
              refine Cx.rseq hX [] [4, 7, 8, 9, 10, 11, 63] (l' := [(4, .v (.slice A74 x73.length c75)), (7, .v (.int .u64 (IntKind.wrap .u64 ((BitVec.ofInt 64 (IntKind.wrap .u64 v48.N) ^^^ BitVec.ofInt 64 9223372036854775808).toNat)))), (8, .v (.int .i64 x72)), (9, SV.sl kT_api_Part k y_k.1 y_k.2), (10, .v (.int .i64 ((k.length : Nat) : Int))), (11, .v (.int .i64 x44)), (63, .v (.bool (decide (x72 ≥ 0))))]) (B' := []) (by kernel_rfl) fun ρ w a hX => ?_
              refine Cx.cond hX (b := (decide (x72 ≥ 0))) (by kernel_rfl) (fun hb => ?_) (fun hb => ?_)
              · have h2 := ite_tt h2 hb
                refine wp_skip ?_
                refine hK37 _ _ ?_
                refine wp_seq_k fun K39 hK39 => ?_
                refine wp_block ?_
                refine wp_region_list ?_
                refine hX.part [] 4 [4, 7, 8, 9, 10, 11, 66, 67, 69] (l' := [(4, .v (.slice A74 x73.length c75)), (7, .v (.int .u64 (IntKind.wrap .u64 ((BitVec.ofInt 64 (IntKind.wrap .u64 v48.N) ^^^ BitVec.ofInt 64 9223372036854775808).toNat)))), (8, .v (.int .i64 x72)), (9, SV.sl kT_api_Part k y_k.1 y_k.2), (10, .v (.int .i64 ((k.length : Nat) : Int))), (11, .v (.int .i64 x44)), (66, .v (.slice A74 x73.length c75)), (67, .v (.int .u64 (IntKind.wrap .u64 ((BitVec.ofInt 64 (IntKind.wrap .u64 v48.N) ^^^ BitVec.ofInt 64 9223372036854775808).toNat)))), (69, .v (.int .u64 (IntKind.wrap .u64 x72)))]) (B' := []) (by kernel_rfl) fun ρ w a hX => ?_
                obtain ⟨v76, hv76, h2⟩ := bnd_some h2
                refine hX.arith (lit := []) (by kernel_rfl) (by kernel_rfl) rfl (k := .u64) (k' := .u64) (m := (IntKind.wrap .u64 ((BitVec.ofInt 64 (IntKind.wrap .u64 v48.N) ^^^ BitVec.ofInt 64 9223372036854775808).toNat))) (n := (IntKind.wrap .u64 x72)) (r := v76) (by kernel_rfl) (by kernel_rfl) (by decide) hv76 fun a hX => ?_
                refine hX.part [] 2 [4, 7, 8, 9, 10, 11, 66, 72] (l' := [(4, .v (.slice A74 x73.length c75)), (7, .v (.int .u64 (IntKind.wrap .u64 ((BitVec.ofInt 64 (IntKind.wrap .u64 v48.N) ^^^ BitVec.ofInt 64 9223372036854775808).toNat)))), (8, .v (.int .i64 x72)), (9, SV.sl kT_api_Part k y_k.1 y_k.2), (10, .v (.int .i64 ((k.length : Nat) : Int))), (11, .v (.int .i64 x44)), (66, .v (.slice A74 x73.length c75)), (72, .slc 0 0 1 1)]) (B' := [some ⟨5, [.v (.int .u8 (IntKind.wrap .u8 v76))]⟩]) (by kernel_rfl) fun ρ w a hX => ?_
                obtain ⟨b80, hb80, h2⟩ := bnd_some h2
                obtain ⟨u79, hu79, h2⟩ := bnd_some h2
                have hX := hX.rebox 0 (b := ⟨5, [.v (.int .u8 (IntKind.wrap .u8 v76))]⟩) (cs := [.v (.int .u8 ((b80.toNat : Nat) : Int))]) (B' := [some ⟨5, [.v (.int .u8 ((b80.toNat : Nat) : Int))]⟩]) (by kernel_rfl) (fun ρ => by simp only [SV.dens, SV.den, toB_some hb80]) (by have hg := (hX.bgood ⟨5, [.v (.int .u8 (IntKind.wrap .u8 v76))]⟩ (List.mem_of_getElem? (i := 0) (by kernel_rfl))).1; exact ⟨trivial, trivial⟩) (by kernel_rfl) (by kernel_rfl)
                refine hX.appLit (d := kByte) (k := 0) (m := 1) (bytes := 1) (cells := [.v (.int .u8 ((b80.toNat : Nat) : Int))]) (lit := []) (i := 0) (e := 5) (xs := x73) (A := A74) (c := c75) ([(b80, ())] : List (UInt8 × (kByte).Y)) (by kernel_rfl) (by kernel_rfl) rfl rfl (by kernel_rfl) (by kernel_rfl) (by kernel_rfl) (by kernel_rfl) (by kernel_rfl) rfl rfl (by decide) hu79 ⟨_, rfl⟩ fun A77 c78 w a hX => ?_
                have hX : Cx 80 _ _ _ _ _ [accP 5 kByte A77 c78 (x73 ++ [b80])] [some ⟨5, [.v (.int .u8 ((b80.toNat : Nat) : Int))]⟩] ρ _ a := hX
                refine hX.part [] 1 [4, 7, 8, 9, 10, 11] (l' := [(4, .v (.slice A77 (x73 ++ [b80]).length c78)), (7, .v (.int .u64 (IntKind.wrap .u64 ((BitVec.ofInt 64 (IntKind.wrap .u64 v48.N) ^^^ BitVec.ofInt 64 9223372036854775808).toNat)))), (8, .v (.int .i64 x72)), (9, SV.sl kT_api_Part k y_k.1 y_k.2), (10, .v (.int .i64 ((k.length : Nat) : Int))), (11, .v (.int .i64 x44))]) (B' := [some ⟨5, [.v (.int .u8 ((b80.toNat : Nat) : Int))]⟩]) (by kernel_rfl) fun ρ w a hX => ?_
                refine wpList_end ?_
                refine hK39 _ _ ?_
                refine Cx.region hX [] [4, 7, 8, 9, 10, 11] (l' := [(4, .v (.slice A77 (x73 ++ [b80]).length c78)), (7, .v (.int .u64 (IntKind.wrap .u64 ((BitVec.ofInt 64 (IntKind.wrap .u64 v48.N) ^^^ BitVec.ofInt 64 9223372036854775808).toNat)))), (8, .v (.int .i64 (IntKind.wrap .i64 (x72 - 8)))), (9, SV.sl kT_api_Part k y_k.1 y_k.2), (10, .v (.int .i64 ((k.length : Nat) : Int))), (11, .v (.int .i64 x44))]) (B' := [some ⟨5, [.v (.int .u8 ((b80.toNat : Nat) : Int))]⟩]) (by kernel_rfl) fun ρ w a hX => ?_
                have hX := hX.keeps [4, 7, 8, 9, 10, 11] (l' := [(4, .v (.slice A77 (x73 ++ [b80]).length c78)), (7, .v (.int .u64 (IntKind.wrap .u64 ((BitVec.ofInt 64 (IntKind.wrap .u64 v48.N) ^^^ BitVec.ofInt 64 9223372036854775808).toNat)))), (8, .v (.int .i64 (IntKind.wrap .i64 (x72 - 8)))), (9, SV.sl kT_api_Part k y_k.1 y_k.2), (10, .v (.int .i64 ((k.length : Nat) : Int))), (11, .v (.int .i64 x44))]) (by kernel_rfl)
                have hX := hX.shrink 0 (B' := []) (by kernel_rfl) (Nat.le_of_ble_eq_true rfl) (by kernel_rfl) (by kernel_rfl)
                exact hb2 ((IntKind.wrap .i64 (x72 - 8)), (x73 ++ [b80])) (out_eq h2) _ _ ⟨A77, c78, _, _, hX⟩
              · have h2 := ite_ff h2 hb
                refine wp_exit ?_
                have hX := hX.keeps [4, 9, 10, 11] (l' := [(4, .v (.slice A74 x73.length c75)), (9, SV.sl kT_api_Part k y_k.1 y_k.2), (10, .v (.int .i64 ((k.length : Nat) : Int))), (11, .v (.int .i64 x44))]) (by kernel_rfl)
                exact E2x0 x73 (hx2 _ (out_eq h2)).symm A74 c75 _ _ _ _ hX
            · exact ⟨A64, c65, _, _, hX⟩
          · have h1 := ite_ff h1 hb
            refine Cx.rseq hX [] [2, 3] (l' := [(2, .v (.string ⟨⟨([] : Str)⟩⟩)), (3, .v (.int .i64 50))]) (B' := [some ⟨40, [.v (.bool v48.IsText), .v (.int .i64 v48.N), .v (.string ⟨⟨v48.S⟩⟩)]⟩]) (by kernel_rfl) fun ρ w a hX => ?_
            refine wp_ret ?_
            have he := hx1 _ (out_eq h1)
            subst he
            (try dsimp only at h0)
            have hr := Option.some.inj (show some _ = some _ from h0)
            subst hr
            exact hX.ret0 (ss := [.v (.string ⟨⟨([] : Str)⟩⟩), .v (.int .i64 50)]) (by kernel_rfl) (by kernel_rfl) ⟨_, _, rfl, rfl, rfl⟩
      refine wp_region_list ?_
      refine hX.part [] 8 [4, 6, 9, 10, 11, 23] (l' := [(4, .v (.slice A46 x45.length c47)), (6, .ptr 0 0), (9, SV.sl kT_api_Part k y_k.1 y_k.2), (10, .v (.int .i64 ((k.length : Nat) : Int))), (11, .v (.int .i64 x44)), (23, .v (.bool (v48.IsText && (v48.N == 0))))]) (B' := [some ⟨40, [.v (.bool v48.IsText), .v (.int .i64 v48.N), .v (.string ⟨⟨v48.S⟩⟩)]⟩]) (by kernel_rfl) fun ρ w a hX => ?_
      refine ite_go h1 (fun hb h1 => ?_) (fun hb h1 => ?_)
      · have hX := hX.relit 23 hb (by kernel_rfl)
        refine hX.part [7] 2 [4, 6, 9, 10, 11, 23, 25] (l' := [(4, .v (.slice A46 x45.length c47)), (6, .ptr 0 0), (9, SV.sl kT_api_Part k y_k.1 y_k.2), (10, .v (.int .i64 ((k.length : Nat) : Int))), (11, .v (.int .i64 x44)), (23, .v (.bool true)), (25, .v (.string ⟨⟨v48.S⟩⟩))]) (B' := [some ⟨40, [.v (.bool v48.IsText), .v (.int .i64 v48.N), .v (.string ⟨⟨v48.S⟩⟩)]⟩]) (by kernel_rfl) fun ρ w a hX => ?_
        obtain ⟨v52, hv52, h1⟩ := bnd_some h1
        refine Cx.call0 hX (lit := [7]) (by kernel_rfl) rfl (by kernel_rfl) ⟨⟨_, Tryd.func25, by kernel_rfl, rfl⟩⟩ (ss := [.v (.string ⟨⟨v48.S⟩⟩)]) (by kernel_rfl) [.v (.string ⟨⟨v48.S⟩⟩)] rfl (fun hg => hg) (fun hv hle hg => units_Check.ok v48.S v52 hv52 _ _ hv (hG.mono hle) hg _) (fun s F w a hp hX => ?_)
        subst hp
        refine hX.part [] 2 [4, 6, 9, 10, 11, 15] (l' := [(4, .v (.slice A46 x45.length c47)), (6, .ptr 0 0), (9, SV.sl kT_api_Part k y_k.1 y_k.2), (10, .v (.int .i64 ((k.length : Nat) : Int))), (11, .v (.int .i64 x44)), (15, .v (.bool v52))]) (B' := [some ⟨40, [.v (.bool v48.IsText), .v (.int .i64 v48.N), .v (.string ⟨⟨v48.S⟩⟩)]⟩]) (by kernel_rfl) fun ρ w a hX => ?_
        refine wpList_end ?_
        have hX := hX.keeps [4, 6, 9, 10, 11, 15] (l' := [(4, .v (.slice A46 x45.length c47)), (6, .ptr 0 0), (9, SV.sl kT_api_Part k y_k.1 y_k.2), (10, .v (.int .i64 ((k.length : Nat) : Int))), (11, .v (.int .i64 x44)), (15, .v (.bool v52))]) (by kernel_rfl)
        exact J27 v52 h1  _ _ _ _ hX
      · have hX := hX.relit 23 hb (by kernel_rfl)
        refine hX.part [7] 5 [4, 6, 9, 10, 11, 15] (l' := [(4, .v (.slice A46 x45.length c47)), (6, .ptr 0 0), (9, SV.sl kT_api_Part k y_k.1 y_k.2), (10, .v (.int .i64 ((k.length : Nat) : Int))), (11, .v (.int .i64 x44)), (15, .v (.bool false))]) (B' := [some ⟨40, [.v (.bool v48.IsText), .v (.int .i64 v48.N), .v (.string ⟨⟨v48.S⟩⟩)]⟩]) (by kernel_rfl) fun ρ w a hX => ?_
        refine wpList_end ?_
        have hX := hX.keeps [4, 6, 9, 10, 11, 15] (l' := [(4, .v (.slice A46 x45.length c47)), (6, .ptr 0 0), (9, SV.sl kT_api_Part k y_k.1 y_k.2), (10, .v (.int .i64 ((k.length : Nat) : Int))), (11, .v (.int .i64 x44)), (15, .v (.bool false))]) (by kernel_rfl)
        exact J27 false h1  _ _ _ _ hX
    · have h1 := ite_ff h1 hb
      refine wp_exit ?_
      have hX := hX.keeps [4] (l' := [(4, .v (.slice A46 x45.length c47))]) (by kernel_rfl)
      exact E1x0 x45 (hx1 _ (out_eq h1)).symm A46 c47 _ _ _ _ hX
  · exact ⟨none, 0, _, _, hX⟩
def ref05_Same.l1 (a_ : List T_api_Part) (b : List T_api_Part) (x9 : Int) : Option ((Int) ⊕ ((Unit) ⊕ (Bool))) :=
  if (decide (x9 < ((a_.length : Nat) : Int))) = true then
    Option.bind (getI a_ x9) fun v10 =>
    Option.bind (getI b x9) fun v14 =>
    if (!((v10.IsText == v14.IsText) && ((v10.N == v14.N) && ((v10.S == v14.S) && true)))) = true then
      some (.inr (.inr false))
    else
      some (.inl (IntKind.wrap .i64 (x9 + 1)))
  else
    some (.inr (.inl ()))
def ref05_Same (a_ : List T_api_Part) (b : List T_api_Part) : Option (Bool) :=
  if (((a_.length : Nat) : Int) != ((b.length : Nat) : Int)) = true then
    some false
  else
    Option.bind (loopM (ref05_Same.l1 a_ b) 0) fun e => match e with
    | (.inl ()) =>
      some true
    | (.inr r19) =>
      some r19
theorem ref05_Same.ok (a_ : List T_api_Part) (b : List T_api_Part) (y_a_ : (Option Addr × Nat)) (y_b : (Option Addr × Nat)) (r : Bool) (h0 : ref05_Same a_ b = some r) (w0 : World) (F0 : Heap) (hv : F0.Sub w0) (hG : Glob F0) (hg : SV.goods F0 [SV.sl kT_api_Part a_ y_a_.1 y_a_.2, SV.sl kT_api_Part b y_b.1 y_b.2]) (ρ : Nat → Nat) :
    Calls Tryd.prog 13 (SV.dens ρ [SV.sl kT_api_Part a_ y_a_.1 y_a_.2, SV.sl kT_api_Part b y_b.1 y_b.2]).toArray w0 (Ret0 w0 F0 fun s => s = .v (.bool r)) := by
  refine calls_of_wp Tryd.func13 rfl ?_
  have hX := Cx.enter (D := No) (B := []) (L := []) (ρ := ρ) (N := 26) Tryd.ntmps13 [SV.sl kT_api_Part a_ y_a_.1 y_a_.2, SV.sl kT_api_Part b y_b.1 y_b.2] (St.start hv) rfl hg (by kernel_rfl) (fun _ h => by cases h) (Nat.le_of_ble_eq_true rfl)
  unfold ref05_Same at h0
  refine Cx.rseq hX [] [0, 1] (l' := [(0, SV.sl kT_api_Part a_ y_a_.1 y_a_.2), (1, SV.sl kT_api_Part b y_b.1 y_b.2)]) (B' := []) (by kernel_rfl) fun ρ w a hX => ?_
  refine wp_seq_k fun K2 hK2 => ?_
  refine Cx.rseq hX [] [0, 1, 10] (l' := [(0, SV.sl kT_api_Part a_ y_a_.1 y_a_.2), (1, SV.sl kT_api_Part b y_b.1 y_b.2), (10, .v (.bool (((a_.length : Nat) : Int) != ((b.length : Nat) : Int))))]) (B' := []) (by kernel_rfl) fun ρ w a hX => ?_
  refine Cx.cond hX (b := (((a_.length : Nat) : Int) != ((b.length : Nat) : Int))) (by kernel_rfl) (fun hb => ?_) (fun hb => ?_)
  · have h0 := ite_tt h0 hb
    refine Cx.rseq hX [] [4] (l' := [(4, .v (.bool false))]) (B' := []) (by kernel_rfl) fun ρ w a hX => ?_
    refine wp_ret ?_
    have hr := Option.some.inj (show some _ = some _ from h0)
    subst hr
    exact hX.ret0 (ss := [.v (.bool false)]) (by kernel_rfl) (by kernel_rfl) rfl
  · have h0 := ite_ff h0 hb
    refine wp_skip ?_
    refine hK2 _ _ ?_
    refine wp_seq_k fun K5 hK5 => ?_
    refine Cx.rseq hX [] [0, 1, 12, 13] (l' := [(0, SV.sl kT_api_Part a_ y_a_.1 y_a_.2), (1, SV.sl kT_api_Part b y_b.1 y_b.2), (12, .v (.int .i64 ((a_.length : Nat) : Int))), (13, .v (.int .i64 0))]) (B' := []) (by kernel_rfl) fun ρ w a hX => ?_
    refine wp_block ?_
    have hX := hX.keeps [0, 1, 12, 13] (l' := [(0, SV.sl kT_api_Part a_ y_a_.1 y_a_.2), (1, SV.sl kT_api_Part b y_b.1 y_b.2), (12, .v (.int .i64 ((a_.length : Nat) : Int))), (13, .v (.int .i64 0))]) (by kernel_rfl)
    obtain ⟨e1, he1, h0⟩ := bnd_some h0
    have E1x0 : ∀ (_ : Unit), e1 = (.inl ()) → ∀ (ρ : Nat → Nat) (w : World) (F : Heap) (a : Act), Cx 26 w0 F0 No w F [] [] ρ [] a → K5 a w := by
      intro _ he  ρ w F a hX
      replace he := he.symm
      subst he
      (try dsimp only at h0)
      refine hK5 _ _ ?_
      refine Cx.rseq hX [] [4] (l' := [(4, .v (.bool true))]) (B' := []) (by kernel_rfl) fun ρ w a hX => ?_
      refine wp_ret ?_
      have hr := Option.some.inj (show some _ = some _ from h0)
      subst hr
      exact hX.ret0 (ss := [.v (.bool true)]) (by kernel_rfl) (by kernel_rfl) rfl
    refine loop_go (fun (x9 : Int) a w => ∃ (ρ : Nat → Nat) (F : Heap), Cx 26 w0 F0 No w F [] [] ρ [(0, SV.sl kT_api_Part a_ y_a_.1 y_a_.2), (1, SV.sl kT_api_Part b y_b.1 y_b.2), (12, .v (.int .i64 ((a_.length : Nat) : Int))), (13, .v (.int .i64 x9))] a) he1 (fun LW1 x9 o1 h1 hb1 hx1 a w hI => ?_) _ _ ?_
    · obtain ⟨ρ, F, hX⟩ := hI
      unfold ref05_Same.l1 at h1
      (try dsimp only at h1)
      refine Cx.rseq hX [] [0, 1, 12, 13, 14] (l' := [(0, SV.sl kT_api_Part a_ y_a_.1 y_a_.2), (1, SV.sl kT_api_Part b y_b.1 y_b.2), (12, .v (.int .i64 ((a_.length : Nat) : Int))), (13, .v (.int .i64 x9)), (14, .v (.bool (decide (x9 < ((a_.length : Nat) : Int)))))]) (B' := []) (by kernel_rfl) fun ρ w a hX => ?_
      refine wp_seq_k fun K14 hK14 => ?_
      refine Cx.cond hX (b := (decide (x9 < ((a_.length : Nat) : Int)))) (by kernel_rfl) (fun hb => ?_) (fun hb => ?_)
      · have h1 := ite_tt h1 hb
        refine wp_skip ?_
        refine hK14 _ _ ?_
        refine wp_seq_k fun K15 hK15 => ?_
        refine wp_block ?_
        refine Cx.rseq hX [] [0, 1, 5, 12, 13] (l' := [(0, SV.sl kT_api_Part a_ y_a_.1 y_a_.2), (1, SV.sl kT_api_Part b y_b.1 y_b.2), (5, .v (.int .i64 x9)), (12, .v (.int .i64 ((a_.length : Nat) : Int))), (13, .v (.int .i64 x9))]) (B' := []) (by kernel_rfl) fun ρ w a hX => ?_
        refine wp_seq_k fun K17 hK17 => ?_
        have hGd := hG.mono hX.st.le
        refine hX.draw rfl (n := 9) rfl #[false, false, false, false, false, false, false, false, false] (by kernel_rfl) fun w D' back hX => ?_
        refine hX.dq 0 rfl rfl (listed' := #[true, false, false, false, false, false, false, false, false]) (by kernel_rfl) (by kernel_rfl) (s := SV.sl kT_api_Part a_ y_a_.1 y_a_.2) (by kernel_rfl) fun a hX => ?_
        refine hX.dq 1 rfl rfl (listed' := #[true, true, false, false, false, false, false, false, false]) (by kernel_rfl) (by kernel_rfl) (s := .v (.int .i64 x9)) (by kernel_rfl) fun a hX => ?_
        obtain ⟨v10, hv10, h1⟩ := bnd_some h1
        refine hX.dIdxSl 2 rfl rfl (listed' := #[true, true, true, false, false, false, false, false, false]) (by kernel_rfl) (by kernel_rfl) rfl (d := kT_api_Part) (e := 40) (xs := a_) (A := y_a_.1) (c := y_a_.2) (k := .i64) (m := x9) (v := v10) (by kernel_rfl) (by kernel_rfl) (by kernel_rfl) (by kernel_rfl) hv10 fun y11 b12 o13 a hX => ?_
        refine hX.dq 3 rfl rfl (listed' := #[true, true, true, true, false, false, false, false, false]) (by kernel_rfl) (by kernel_rfl) (s := .agg [.v (.bool v10.IsText), .v (.int .i64 v10.N), .v (.string ⟨⟨v10.S⟩⟩)]) (by kernel_rfl) fun a hX => ?_
        refine hX.dq 4 rfl rfl (listed' := #[true, true, true, true, true, false, false, false, false]) (by kernel_rfl) (by kernel_rfl) (s := SV.sl kT_api_Part b y_b.1 y_b.2) (by kernel_rfl) fun a hX => ?_
        refine hX.dq 5 rfl rfl (listed' := #[true, true, true, true, true, true, false, false, false]) (by kernel_rfl) (by kernel_rfl) (s := .v (.int .i64 x9)) (by kernel_rfl) fun a hX => ?_
        obtain ⟨v14, hv14, h1⟩ := bnd_some h1
        refine hX.dIdxSl 6 rfl rfl (listed' := #[true, true, true, true, true, true, true, false, false]) (by kernel_rfl) (by kernel_rfl) rfl (d := kT_api_Part) (e := 40) (xs := b) (A := y_b.1) (c := y_b.2) (k := .i64) (m := x9) (v := v14) (by kernel_rfl) (by kernel_rfl) (by kernel_rfl) (by kernel_rfl) hv14 fun y15 b16 o17 a hX => ?_
        refine hX.dq 7 rfl rfl (listed' := #[true, true, true, true, true, true, true, true, false]) (by kernel_rfl) (by kernel_rfl) (s := .agg [.v (.bool v14.IsText), .v (.int .i64 v14.N), .v (.string ⟨⟨v14.S⟩⟩)]) (by kernel_rfl) fun a hX => ?_
        refine hX.dq 8 rfl rfl (listed' := #[true, true, true, true, true, true, true, true, true]) (by kernel_rfl) (by kernel_rfl) (s := .v (.bool (!((v10.IsText == v14.IsText) && ((v10.N == v14.N) && ((v10.S == v14.S) && true)))))) (by kernel_rfl) fun a hX => ?_
        have hX := back hX
        refine ddone (by kernel_rfl) ?_
        refine hK17 _ _ ?_
        refine Cx.cond hX (b := (!((v10.IsText == v14.IsText) && ((v10.N == v14.N) && ((v10.S == v14.S) && true))))) (by kernel_rfl) (fun hb => ?_) (fun hb => ?_)
        · have h1 := ite_tt h1 hb
          refine Cx.rseq hX [] [4] (l' := [(4, .v (.bool false))]) (B' := []) (by kernel_rfl) fun ρ w a hX => ?_
          refine wp_ret ?_
          have he := hx1 _ (out_eq h1)
          subst he
          (try dsimp only at h0)
          have hr := Option.some.inj (show some _ = some _ from h0)
          subst hr
          exact hX.ret0 (ss := [.v (.bool false)]) (by kernel_rfl) (by kernel_rfl) rfl
        · have h1 := ite_ff h1 hb
          refine wp_skip ?_
          refine hK15 _ _ ?_
          refine Cx.region hX [] [0, 1, 12, 13] (l' := [(0, SV.sl kT_api_Part a_ y_a_.1 y_a_.2), (1, SV.sl kT_api_Part b y_b.1 y_b.2), (12, .v (.int .i64 ((a_.length : Nat) : Int))), (13, .v (.int .i64 (IntKind.wrap .i64 (x9 + 1))))]) (B' := []) (by kernel_rfl) fun ρ w a hX => ?_
          have hX := hX.keeps [0, 1, 12, 13] (l' := [(0, SV.sl kT_api_Part a_ y_a_.1 y_a_.2), (1, SV.sl kT_api_Part b y_b.1 y_b.2), (12, .v (.int .i64 ((a_.length : Nat) : Int))), (13, .v (.int .i64 (IntKind.wrap .i64 (x9 + 1))))]) (by kernel_rfl)
          exact hb1 (IntKind.wrap .i64 (x9 + 1)) (out_eq h1) _ _ ⟨_, _, hX⟩
      · have h1 := ite_ff h1 hb
        refine wp_exit ?_
        have hX := hX.keeps [] (l' := []) (by kernel_rfl)
        exact E1x0 () (hx1 _ (out_eq h1)).symm  _ _ _ _ hX
    · exact ⟨_, _, hX⟩
def strings_Compare (a : Str) (b : Str) : Option (Int) := some (Lib.compareBytes a b)
theorem strings_Compare.ok (a : Str) (b : Str) (r : Int) (h0 : strings_Compare a b = some r) (w0 : World) (F0 : Heap) (hv : F0.Sub w0) (hG : Glob F0) (hg : SV.goods F0 [.v (.string ⟨⟨a⟩⟩), .v (.string ⟨⟨b⟩⟩)]) (ρ : Nat → Nat) :
    Calls Tryd.prog 29 (SV.dens ρ [.v (.string ⟨⟨a⟩⟩), .v (.string ⟨⟨b⟩⟩)]).toArray w0 (Ret0 w0 F0 fun s => s = .v (.int .i64 r)) := by
  refine (Tryd.strings_Compare ⟨⟨a⟩⟩ ⟨⟨b⟩⟩ w0).mono fun e w' h => ?_
  cases h0
  exact Ret0.pure (s := .v _) hv h.1 h.2 trivial rfl rfl
def cmp_isNaN_int64 (x : Int) : Option (Bool) :=
  some (x != x)
theorem cmp_isNaN_int64.ok (x : Int) (r : Bool) (h0 : cmp_isNaN_int64 x = some r) (w0 : World) (F0 : Heap) (hv : F0.Sub w0) (hG : Glob F0) (hg : SV.goods F0 [.v (.int .i64 x)]) (ρ : Nat → Nat) :
    Calls Tryd.prog 37 (SV.dens ρ [.v (.int .i64 x)]).toArray w0 (Ret0 w0 F0 fun s => s = .v (.bool r)) := by
  refine calls_of_wp Tryd.func37 rfl ?_
  have hX := Cx.enter (D := No) (B := []) (L := []) (ρ := ρ) (N := 6) Tryd.ntmps37 [.v (.int .i64 x)] (St.start hv) rfl hg (by kernel_rfl) (fun _ h => by cases h) (Nat.le_of_ble_eq_true rfl)
  unfold cmp_isNaN_int64 at h0
  refine Cx.rseq hX [] [0] (l' := [(0, .v (.int .i64 x))]) (B' := []) (by kernel_rfl) fun ρ w a hX => ?_
  refine Cx.rseq hX [] [2] (l' := [(2, .v (.bool (x != x)))]) (B' := []) (by kernel_rfl) fun ρ w a hX => ?_
  refine wp_ret ?_
  have hr := Option.some.inj (show some _ = some _ from h0)
  subst hr
  exact hX.ret0 (ss := [.v (.bool (x != x))]) (by kernel_rfl) (by kernel_rfl) rfl
def cmp_Compare_int64 (x : Int) (y : Int) : Option (Int) :=
  Option.bind (cmp_isNaN_int64 x) fun v1 =>
  Option.bind (cmp_isNaN_int64 y) fun v2 =>
  if v1 = true then
    if v2 = true then
      some 0
    else
      some (-1)
  else
    if v2 = true then
      some 1
    else
      if (decide (x < y)) = true then
        some (-1)
      else
        if (decide (x > y)) = true then
          some 1
        else
          some 0
theorem cmp_Compare_int64.ok (x : Int) (y : Int) (r : Int) (h0 : cmp_Compare_int64 x y = some r) (w0 : World) (F0 : Heap) (hv : F0.Sub w0) (hG : Glob F0) (hg : SV.goods F0 [.v (.int .i64 x), .v (.int .i64 y)]) (ρ : Nat → Nat) :
    Calls Tryd.prog 30 (SV.dens ρ [.v (.int .i64 x), .v (.int .i64 y)]).toArray w0 (Ret0 w0 F0 fun s => s = .v (.int .i64 r)) := by
  refine calls_of_wp Tryd.func30 rfl ?_
  have hX := Cx.enter (D := No) (B := []) (L := []) (ρ := ρ) (N := 20) Tryd.ntmps30 [.v (.int .i64 x), .v (.int .i64 y)] (St.start hv) rfl hg (by kernel_rfl) (fun _ h => by cases h) (Nat.le_of_ble_eq_true rfl)
  unfold cmp_Compare_int64 at h0
  refine Cx.rseq hX [] [0, 1] (l' := [(0, .v (.int .i64 x)), (1, .v (.int .i64 y))]) (B' := []) (by kernel_rfl) fun ρ w a hX => ?_
  refine wp_seq_k fun K2 hK2 => ?_
  refine wp_region_list ?_
  refine hX.part [] 1 [0, 1, 7] (l' := [(0, .v (.int .i64 x)), (1, .v (.int .i64 y)), (7, .v (.int .i64 x))]) (B' := []) (by kernel_rfl) fun ρ w a hX => ?_
  obtain ⟨v1, hv1, h0⟩ := bnd_some h0
  refine Cx.call0 hX (lit := []) (by kernel_rfl) rfl (by kernel_rfl) ⟨⟨_, Tryd.func37, by kernel_rfl, rfl⟩⟩ (ss := [.v (.int .i64 x)]) (by kernel_rfl) [.v (.int .i64 x)] rfl (fun hg => hg) (fun hv hle hg => cmp_isNaN_int64.ok x v1 hv1 _ _ hv (hG.mono hle) hg _) (fun s F w a hp hX => ?_)
  subst hp
  refine hX.part [] 1 [0, 1, 5] (l' := [(0, .v (.int .i64 x)), (1, .v (.int .i64 y)), (5, .v (.bool v1))]) (B' := []) (by kernel_rfl) fun ρ w a hX => ?_
  refine wpList_end ?_
  refine hK2 _ _ ?_
  refine wp_seq_k fun K3 hK3 => ?_
  refine wp_region_list ?_
  refine hX.part [] 1 [0, 1, 5, 9] (l' := [(0, .v (.int .i64 x)), (1, .v (.int .i64 y)), (5, .v (.bool v1)), (9, .v (.int .i64 y))]) (B' := []) (by kernel_rfl) fun ρ w a hX => ?_
  obtain ⟨v2, hv2, h0⟩ := bnd_some h0
  refine Cx.call0 hX (lit := []) (by kernel_rfl) rfl (by kernel_rfl) ⟨⟨_, Tryd.func37, by kernel_rfl, rfl⟩⟩ (ss := [.v (.int .i64 y)]) (by kernel_rfl) [.v (.int .i64 y)] rfl (fun hg => hg) (fun hv hle hg => cmp_isNaN_int64.ok y v2 hv2 _ _ hv (hG.mono hle) hg _) (fun s F w a hp hX => ?_)
  subst hp
  refine hX.part [] 1 [0, 1, 5, 6] (l' := [(0, .v (.int .i64 x)), (1, .v (.int .i64 y)), (5, .v (.bool v1)), (6, .v (.bool v2))]) (B' := []) (by kernel_rfl) fun ρ w a hX => ?_
  refine wpList_end ?_
  refine hK3 _ _ ?_
  refine wp_seq_k fun K4 hK4 => ?_
  refine Cx.rseq hX [] [0, 1, 6, 11] (l' := [(0, .v (.int .i64 x)), (1, .v (.int .i64 y)), (6, .v (.bool v2)), (11, .v (.bool v1))]) (B' := []) (by kernel_rfl) fun ρ w a hX => ?_
  refine Cx.cond hX (b := v1) (by kernel_rfl) (fun hb => ?_) (fun hb => ?_)
  · have h0 := ite_tt h0 hb
    refine wp_seq_k fun K6 hK6 => ?_
    refine Cx.rseq hX [] [12] (l' := [(12, .v (.bool v2))]) (B' := []) (by kernel_rfl) fun ρ w a hX => ?_
    refine Cx.cond hX (b := v2) (by kernel_rfl) (fun hb => ?_) (fun hb => ?_)
    · have h0 := ite_tt h0 hb
      refine Cx.rseq hX [] [4] (l' := [(4, .v (.int .i64 0))]) (B' := []) (by kernel_rfl) fun ρ w a hX => ?_
      refine wp_ret ?_
      have hr := Option.some.inj (show some _ = some _ from h0)
      subst hr
      exact hX.ret0 (ss := [.v (.int .i64 0)]) (by kernel_rfl) (by kernel_rfl) rfl
    · have h0 := ite_ff h0 hb
      refine wp_skip ?_
      refine hK6 _ _ ?_
      refine Cx.rseq hX [] [4] (l' := [(4, .v (.int .i64 (-1)))]) (B' := []) (by kernel_rfl) fun ρ w a hX => ?_
      refine wp_ret ?_
      have hr := Option.some.inj (show some _ = some _ from h0)
      subst hr
      exact hX.ret0 (ss := [.v (.int .i64 (-1))]) (by kernel_rfl) (by kernel_rfl) rfl
  · have h0 := ite_ff h0 hb
    refine wp_skip ?_
    refine hK4 _ _ ?_
    refine wp_seq_k fun K10 hK10 => ?_
    refine Cx.rseq hX [] [0, 1, 13] (l' := [(0, .v (.int .i64 x)), (1, .v (.int .i64 y)), (13, .v (.bool v2))]) (B' := []) (by kernel_rfl) fun ρ w a hX => ?_
    refine Cx.cond hX (b := v2) (by kernel_rfl) (fun hb => ?_) (fun hb => ?_)
    · have h0 := ite_tt h0 hb
      refine Cx.rseq hX [] [4] (l' := [(4, .v (.int .i64 1))]) (B' := []) (by kernel_rfl) fun ρ w a hX => ?_
      refine wp_ret ?_
      have hr := Option.some.inj (show some _ = some _ from h0)
      subst hr
      exact hX.ret0 (ss := [.v (.int .i64 1)]) (by kernel_rfl) (by kernel_rfl) rfl
    · have h0 := ite_ff h0 hb
      refine wp_skip ?_
      refine hK10 _ _ ?_
      refine wp_seq_k fun K13 hK13 => ?_
      refine Cx.rseq hX [] [0, 1, 16] (l' := [(0, .v (.int .i64 x)), (1, .v (.int .i64 y)), (16, .v (.bool (decide (x < y))))]) (B' := []) (by kernel_rfl) fun ρ w a hX => ?_
      refine Cx.cond hX (b := (decide (x < y))) (by kernel_rfl) (fun hb => ?_) (fun hb => ?_)
      · have h0 := ite_tt h0 hb
        refine Cx.rseq hX [] [4] (l' := [(4, .v (.int .i64 (-1)))]) (B' := []) (by kernel_rfl) fun ρ w a hX => ?_
        refine wp_ret ?_
        have hr := Option.some.inj (show some _ = some _ from h0)
        subst hr
        exact hX.ret0 (ss := [.v (.int .i64 (-1))]) (by kernel_rfl) (by kernel_rfl) rfl
      · have h0 := ite_ff h0 hb
        refine wp_skip ?_
        refine hK13 _ _ ?_
        refine wp_seq_k fun K16 hK16 => ?_
        refine Cx.rseq hX [] [19] (l' := [(19, .v (.bool (decide (x > y))))]) (B' := []) (by kernel_rfl) fun ρ w a hX => ?_
        refine Cx.cond hX (b := (decide (x > y))) (by kernel_rfl) (fun hb => ?_) (fun hb => ?_)
        · have h0 := ite_tt h0 hb
          refine Cx.rseq hX [] [4] (l' := [(4, .v (.int .i64 1))]) (B' := []) (by kernel_rfl) fun ρ w a hX => ?_
          refine wp_ret ?_
          have hr := Option.some.inj (show some _ = some _ from h0)
          subst hr
          exact hX.ret0 (ss := [.v (.int .i64 1)]) (by kernel_rfl) (by kernel_rfl) rfl
        · have h0 := ite_ff h0 hb
          refine wp_skip ?_
          refine hK16 _ _ ?_
          refine Cx.rseq hX [] [4] (l' := [(4, .v (.int .i64 0))]) (B' := []) (by kernel_rfl) fun ρ w a hX => ?_
          refine wp_ret ?_
          have hr := Option.some.inj (show some _ = some _ from h0)
          subst hr
          exact hX.ret0 (ss := [.v (.int .i64 0)]) (by kernel_rfl) (by kernel_rfl) rfl
def cmp_Compare_int (x : Int) (y : Int) : Option (Int) := some (Lib.compareInt x y)
theorem cmp_Compare_int.ok (x : Int) (y : Int) (r : Int) (h0 : cmp_Compare_int x y = some r) (w0 : World) (F0 : Heap) (hv : F0.Sub w0) (hG : Glob F0) (hg : SV.goods F0 [.v (.int .i64 x), .v (.int .i64 y)]) (ρ : Nat → Nat) :
    Calls Tryd.prog 31 (SV.dens ρ [.v (.int .i64 x), .v (.int .i64 y)]).toArray w0 (Ret0 w0 F0 fun s => s = .v (.int .i64 r)) := by
  refine (Tryd.cmp_Compare_int x y w0).mono fun e w' h => ?_
  cases h0
  exact Ret0.pure (s := .v _) hv h.1 h.2 trivial rfl rfl
def order_Compare.j2 (x15 : Int) (x26 : Int) : Option ((Int) ⊕ ((Unit) ⊕ (Int))) :=
  if (x26 != 0) = true then
    some (.inr (.inr x26))
  else
    some (.inl (IntKind.wrap .i64 (x15 + 1)))
def order_Compare.l1 (b : List T_api_Part) (v1 : List T_api_Part) (x15 : Int) : Option ((Int) ⊕ ((Unit) ⊕ (Int))) :=
  if (decide (x15 < ((v1.length : Nat) : Int))) = true then
    Option.bind (getI v1 x15) fun v16 =>
    Option.bind (getI b x15) fun v20 =>
    if (v16.IsText && v20.IsText) = true then
      Option.bind (strings_Compare v16.S v20.S) fun v24 =>
      order_Compare.j2 x15 v24
    else
      if v16.IsText = true then
        order_Compare.j2 x15 1
      else
        if v20.IsText = true then
          order_Compare.j2 x15 (-1)
        else
          Option.bind (cmp_Compare_int64 v16.N v20.N) fun v25 =>
          order_Compare.j2 x15 v25
  else
    some (.inr (.inl ()))
def order_Compare (a_ : List T_api_Part) (b : List T_api_Part) : Option (Int) :=
  Option.bind (cutL a_ 0 (if ((b.length : Nat) : Int) < ((a_.length : Nat) : Int) then ((b.length : Nat) : Int) else ((a_.length : Nat) : Int))) fun v1 =>
  Option.bind (loopM (order_Compare.l1 b v1) 0) fun e => match e with
  | (.inl ()) =>
    Option.bind (cmp_Compare_int ((a_.length : Nat) : Int) ((b.length : Nat) : Int)) fun v29 =>
    some v29
  | (.inr r28) =>
    some r28
theorem order_Compare.ok (a_ : List T_api_Part) (b : List T_api_Part) (y_a_ : (Option Addr × Nat)) (y_b : (Option Addr × Nat)) (r : Int) (h0 : order_Compare a_ b = some r) (w0 : World) (F0 : Heap) (hv : F0.Sub w0) (hG : Glob F0) (hg : SV.goods F0 [SV.sl kT_api_Part a_ y_a_.1 y_a_.2, SV.sl kT_api_Part b y_b.1 y_b.2]) (ρ : Nat → Nat) :
    Calls Tryd.prog 14 (SV.dens ρ [SV.sl kT_api_Part a_ y_a_.1 y_a_.2, SV.sl kT_api_Part b y_b.1 y_b.2]).toArray w0 (Ret0 w0 F0 fun s => s = .v (.int .i64 r)) := by
  refine calls_of_wp Tryd.func14 rfl ?_
  have hX := Cx.enter (D := No) (B := []) (L := []) (ρ := ρ) (N := 58) Tryd.ntmps14 [SV.sl kT_api_Part a_ y_a_.1 y_a_.2, SV.sl kT_api_Part b y_b.1 y_b.2] (St.start hv) rfl hg (by kernel_rfl) (fun _ h => by cases h) (Nat.le_of_ble_eq_true rfl)
  unfold order_Compare at h0
  refine Cx.rseq hX [] [0, 1] (l' := [(0, SV.sl kT_api_Part a_ y_a_.1 y_a_.2), (1, SV.sl kT_api_Part b y_b.1 y_b.2)]) (B' := []) (by kernel_rfl) fun ρ w a hX => ?_
  refine wp_seq_k fun K2 hK2 => ?_
  refine wp_seq_k fun K3 hK3 => ?_
  refine wp_region_list ?_
  refine hX.part [] 6 [0, 1, 9, 14] (l' := [(0, SV.sl kT_api_Part a_ y_a_.1 y_a_.2), (1, SV.sl kT_api_Part b y_b.1 y_b.2), (9, SV.sl kT_api_Part a_ y_a_.1 y_a_.2), (14, .v (.int .i64 (if ((b.length : Nat) : Int) < ((a_.length : Nat) : Int) then ((b.length : Nat) : Int) else ((a_.length : Nat) : Int))))]) (B' := []) (by kernel_rfl) fun ρ w a hX => ?_
  obtain ⟨v1, hv1, h0⟩ := bnd_some h0
  refine hX.cutSl (lit := []) (by kernel_rfl) (by kernel_rfl) rfl (d := kT_api_Part) (e := 40) (xs := a_) (A := y_a_.1) (c := y_a_.2) (ol := none) (oh := some (if ((b.length : Nat) : Int) < ((a_.length : Nat) : Int) then ((b.length : Nat) : Int) else ((a_.length : Nat) : Int))) (r := v1) (by kernel_rfl) (by kernel_rfl) (by kernel_rfl) (by kernel_rfl) (by kernel_rfl) hv1 fun A2 c3 a hX => ?_
  refine hX.part [] 2 [0, 1, 15, 16, 17] (l' := [(0, SV.sl kT_api_Part a_ y_a_.1 y_a_.2), (1, SV.sl kT_api_Part b y_b.1 y_b.2), (15, SV.sl kT_api_Part v1 A2 c3), (16, .v (.int .i64 ((v1.length : Nat) : Int))), (17, .v (.int .i64 0))]) (B' := []) (by kernel_rfl) fun ρ w a hX => ?_
  refine wpList_end ?_
  refine hK3 _ _ ?_
  refine wp_block ?_
  have hX := hX.keeps [0, 1, 15, 16, 17] (l' := [(0, SV.sl kT_api_Part a_ y_a_.1 y_a_.2), (1, SV.sl kT_api_Part b y_b.1 y_b.2), (15, SV.sl kT_api_Part v1 A2 c3), (16, .v (.int .i64 ((v1.length : Nat) : Int))), (17, .v (.int .i64 0))]) (by kernel_rfl)
  obtain ⟨e1, he1, h0⟩ := bnd_some h0
  have E1x0 : ∀ (_ : Unit), e1 = (.inl ()) → ∀ (ρ : Nat → Nat) (w : World) (F : Heap) (a : Act), Cx 58 w0 F0 No w F [] [] ρ [(0, SV.sl kT_api_Part a_ y_a_.1 y_a_.2), (1, SV.sl kT_api_Part b y_b.1 y_b.2)] a → K2 a w := by
    intro _ he  ρ w F a hX
    replace he := he.symm
    subst he
    (try dsimp only at h0)
    refine hK2 _ _ ?_
    refine wp_seq_k fun K26 hK26 => ?_
    refine wp_region_list ?_
    refine hX.part [] 4 [54, 56] (l' := [(54, .v (.int .i64 ((a_.length : Nat) : Int))), (56, .v (.int .i64 ((b.length : Nat) : Int)))]) (B' := []) (by kernel_rfl) fun ρ w a hX => ?_
    obtain ⟨v29, hv29, h0⟩ := bnd_some h0
    refine Cx.call0 hX (lit := []) (by kernel_rfl) rfl (by kernel_rfl) ⟨⟨_, Tryd.func31, by kernel_rfl, rfl⟩⟩ (ss := [.v (.int .i64 ((a_.length : Nat) : Int)), .v (.int .i64 ((b.length : Nat) : Int))]) (by kernel_rfl) [.v (.int .i64 ((a_.length : Nat) : Int)), .v (.int .i64 ((b.length : Nat) : Int))] rfl (fun hg => hg) (fun hv hle hg => cmp_Compare_int.ok ((a_.length : Nat) : Int) ((b.length : Nat) : Int) v29 hv29 _ _ hv (hG.mono hle) hg _) (fun s F w a hp hX => ?_)
    subst hp
    refine hX.part [] 1 [4] (l' := [(4, .v (.int .i64 v29))]) (B' := []) (by kernel_rfl) fun ρ w a hX => ?_
    refine wpList_end ?_
    refine hK26 _ _ ?_
    refine wp_ret ?_
    have hr := Option.some.inj (show some _ = some _ from h0)
    subst hr
    exact hX.ret0 (ss := [.v (.int .i64 v29)]) (by kernel_rfl) (by kernel_rfl) rfl
  refine loop_go (fun (x15 : Int) a w => ∃ (ρ : Nat → Nat) (F : Heap), Cx 58 w0 F0 No w F [] [] ρ [(0, SV.sl kT_api_Part a_ y_a_.1 y_a_.2), (1, SV.sl kT_api_Part b y_b.1 y_b.2), (15, SV.sl kT_api_Part v1 A2 c3), (16, .v (.int .i64 ((v1.length : Nat) : Int))), (17, .v (.int .i64 x15))] a) he1 (fun LW1 x15 o1 h1 hb1 hx1 a w hI => ?_) _ _ ?_
  · obtain ⟨ρ, F, hX⟩ := hI
    unfold order_Compare.l1 at h1
    (try dsimp only at h1)
    refine Cx.rseq hX [] [0, 1, 15, 16, 17, 18] (l' := [(0, SV.sl kT_api_Part a_ y_a_.1 y_a_.2), (1, SV.sl kT_api_Part b y_b.1 y_b.2), (15, SV.sl kT_api_Part v1 A2 c3), (16, .v (.int .i64 ((v1.length : Nat) : Int))), (17, .v (.int .i64 x15)), (18, .v (.bool (decide (x15 < ((v1.length : Nat) : Int)))))]) (B' := []) (by kernel_rfl) fun ρ w a hX => ?_
    refine wp_seq_k fun K16 hK16 => ?_
    refine Cx.cond hX (b := (decide (x15 < ((v1.length : Nat) : Int)))) (by kernel_rfl) (fun hb => ?_) (fun hb => ?_)
    · have h1 := ite_tt h1 hb
      refine wp_skip ?_
      refine hK16 _ _ ?_
      refine wp_seq_k fun K17 hK17 => ?_
      refine wp_block ?_
      refine wp_seq_k fun K18 hK18 => ?_
      refine wp_region_list ?_
      refine hX.part [] 1 [0, 1, 15, 16, 17, 19] (l' := [(0, SV.sl kT_api_Part a_ y_a_.1 y_a_.2), (1, SV.sl kT_api_Part b y_b.1 y_b.2), (15, SV.sl kT_api_Part v1 A2 c3), (16, .v (.int .i64 ((v1.length : Nat) : Int))), (17, .v (.int .i64 x15)), (19, .v (.int .i64 x15))]) (B' := []) (by kernel_rfl) fun ρ w a hX => ?_
      obtain ⟨v16, hv16, h1⟩ := bnd_some h1
      refine hX.idxSl (lit := []) (by kernel_rfl) (by kernel_rfl) rfl (d := kT_api_Part) (e := 40) (xs := v1) (A := A2) (c := c3) (k := .i64) (n := x15) (v := v16) (by kernel_rfl) (by kernel_rfl) (by kernel_rfl) (by kernel_rfl) hv16 fun y17 b18 o19 a hX => ?_
      refine hX.part [] 4 [0, 1, 5, 6, 15, 16, 17] (l' := [(0, SV.sl kT_api_Part a_ y_a_.1 y_a_.2), (1, SV.sl kT_api_Part b y_b.1 y_b.2), (5, .v (.int .i64 x15)), (6, .ptr 0 0), (15, SV.sl kT_api_Part v1 A2 c3), (16, .v (.int .i64 ((v1.length : Nat) : Int))), (17, .v (.int .i64 x15))]) (B' := [some ⟨40, [.v (.bool v16.IsText), .v (.int .i64 v16.N), .v (.string ⟨⟨v16.S⟩⟩)]⟩]) (by kernel_rfl) fun ρ w a hX => ?_
      refine wpList_end ?_
      refine hK18 _ _ ?_
      refine wp_seq_k fun K19 hK19 => ?_
      refine wp_region_list ?_
      refine hX.part [] 2 [0, 1, 6, 15, 16, 17, 22, 23] (l' := [(0, SV.sl kT_api_Part a_ y_a_.1 y_a_.2), (1, SV.sl kT_api_Part b y_b.1 y_b.2), (6, .ptr 0 0), (15, SV.sl kT_api_Part v1 A2 c3), (16, .v (.int .i64 ((v1.length : Nat) : Int))), (17, .v (.int .i64 x15)), (22, SV.sl kT_api_Part b y_b.1 y_b.2), (23, .v (.int .i64 x15))]) (B' := [some ⟨40, [.v (.bool v16.IsText), .v (.int .i64 v16.N), .v (.string ⟨⟨v16.S⟩⟩)]⟩]) (by kernel_rfl) fun ρ w a hX => ?_
      obtain ⟨v20, hv20, h1⟩ := bnd_some h1
      refine hX.idxSl (lit := []) (by kernel_rfl) (by kernel_rfl) rfl (d := kT_api_Part) (e := 40) (xs := b) (A := y_b.1) (c := y_b.2) (k := .i64) (n := x15) (v := v20) (by kernel_rfl) (by kernel_rfl) (by kernel_rfl) (by kernel_rfl) hv20 fun y21 b22 o23 a hX => ?_
      refine hX.part [] 4 [0, 1, 6, 7, 15, 16, 17] (l' := [(0, SV.sl kT_api_Part a_ y_a_.1 y_a_.2), (1, SV.sl kT_api_Part b y_b.1 y_b.2), (6, .ptr 0 0), (7, .ptr 1 0), (15, SV.sl kT_api_Part v1 A2 c3), (16, .v (.int .i64 ((v1.length : Nat) : Int))), (17, .v (.int .i64 x15))]) (B' := [some ⟨40, [.v (.bool v16.IsText), .v (.int .i64 v16.N), .v (.string ⟨⟨v16.S⟩⟩)]⟩, some ⟨40, [.v (.bool v20.IsText), .v (.int .i64 v20.N), .v (.string ⟨⟨v20.S⟩⟩)]⟩]) (by kernel_rfl) fun ρ w a hX => ?_
      refine wpList_end ?_
      refine hK19 _ _ ?_
      refine wp_seq_k fun K20 hK20 => ?_
      have J20 : ∀ (x26 : Int), order_Compare.j2 x15 x26 = some o1 → ∀ (ρ : Nat → Nat) (w : World) (F : Heap) (a : Act), Cx 58 w0 F0 No w F [] [] ρ [(0, SV.sl kT_api_Part a_ y_a_.1 y_a_.2), (1, SV.sl kT_api_Part b y_b.1 y_b.2), (8, .v (.int .i64 x26)), (15, SV.sl kT_api_Part v1 A2 c3), (16, .v (.int .i64 ((v1.length : Nat) : Int))), (17, .v (.int .i64 x15))] a → K20 a w := by
        intro x26 h1  ρ w F a hX
        unfold order_Compare.j2 at h1
        refine hK20 _ _ ?_
        refine Cx.rseq hX [] [0, 1, 8, 15, 16, 17, 50] (l' := [(0, SV.sl kT_api_Part a_ y_a_.1 y_a_.2), (1, SV.sl kT_api_Part b y_b.1 y_b.2), (8, .v (.int .i64 x26)), (15, SV.sl kT_api_Part v1 A2 c3), (16, .v (.int .i64 ((v1.length : Nat) : Int))), (17, .v (.int .i64 x15)), (50, .v (.bool (x26 != 0)))]) (B' := []) (by kernel_rfl) fun ρ w a hX => ?_
        refine Cx.cond hX (b := (x26 != 0)) (by kernel_rfl) (fun hb => ?_) (fun hb => ?_)
        · have h1 := ite_tt h1 hb
          refine Cx.rseq hX [] [4] (l' := [(4, .v (.int .i64 x26))]) (B' := []) (by kernel_rfl) fun ρ w a hX => ?_
          refine wp_ret ?_
          have he := hx1 _ (out_eq h1)
          subst he
          (try dsimp only at h0)
          have hr := Option.some.inj (show some _ = some _ from h0)
          subst hr
          exact hX.ret0 (ss := [.v (.int .i64 x26)]) (by kernel_rfl) (by kernel_rfl) rfl
        · have h1 := ite_ff h1 hb
          refine wp_skip ?_
          refine hK17 _ _ ?_
          refine Cx.region hX [] [0, 1, 15, 16, 17] (l' := [(0, SV.sl kT_api_Part a_ y_a_.1 y_a_.2), (1, SV.sl kT_api_Part b y_b.1 y_b.2), (15, SV.sl kT_api_Part v1 A2 c3), (16, .v (.int .i64 ((v1.length : Nat) : Int))), (17, .v (.int .i64 (IntKind.wrap .i64 (x15 + 1))))]) (B' := []) (by kernel_rfl) fun ρ w a hX => ?_
          have hX := hX.keeps [0, 1, 15, 16, 17] (l' := [(0, SV.sl kT_api_Part a_ y_a_.1 y_a_.2), (1, SV.sl kT_api_Part b y_b.1 y_b.2), (15, SV.sl kT_api_Part v1 A2 c3), (16, .v (.int .i64 ((v1.length : Nat) : Int))), (17, .v (.int .i64 (IntKind.wrap .i64 (x15 + 1))))]) (by kernel_rfl)
          exact hb1 (IntKind.wrap .i64 (x15 + 1)) (out_eq h1) _ _ ⟨_, _, hX⟩
      refine wp_block ?_
      refine Cx.rseq hX [] [0, 1, 6, 7, 15, 16, 17, 31] (l' := [(0, SV.sl kT_api_Part a_ y_a_.1 y_a_.2), (1, SV.sl kT_api_Part b y_b.1 y_b.2), (6, .ptr 0 0), (7, .ptr 1 0), (15, SV.sl kT_api_Part v1 A2 c3), (16, .v (.int .i64 ((v1.length : Nat) : Int))), (17, .v (.int .i64 x15)), (31, .v (.bool (v16.IsText && v20.IsText)))]) (B' := [some ⟨40, [.v (.bool v16.IsText), .v (.int .i64 v16.N), .v (.string ⟨⟨v16.S⟩⟩)]⟩, some ⟨40, [.v (.bool v20.IsText), .v (.int .i64 v20.N), .v (.string ⟨⟨v20.S⟩⟩)]⟩]) (by kernel_rfl) fun ρ w a hX => ?_
      refine Cx.cond hX (b := (v16.IsText && v20.IsText)) (by kernel_rfl) (fun hb => ?_) (fun hb => ?_)
      · have h1 := ite_tt h1 hb
        refine wp_region_list ?_
        refine hX.part [] 4 [0, 1, 15, 16, 17, 39, 41] (l' := [(0, SV.sl kT_api_Part a_ y_a_.1 y_a_.2), (1, SV.sl kT_api_Part b y_b.1 y_b.2), (15, SV.sl kT_api_Part v1 A2 c3), (16, .v (.int .i64 ((v1.length : Nat) : Int))), (17, .v (.int .i64 x15)), (39, .v (.string ⟨⟨v16.S⟩⟩)), (41, .v (.string ⟨⟨v20.S⟩⟩))]) (B' := [some ⟨40, [.v (.bool v16.IsText), .v (.int .i64 v16.N), .v (.string ⟨⟨v16.S⟩⟩)]⟩, some ⟨40, [.v (.bool v20.IsText), .v (.int .i64 v20.N), .v (.string ⟨⟨v20.S⟩⟩)]⟩]) (by kernel_rfl) fun ρ w a hX => ?_
        obtain ⟨v24, hv24, h1⟩ := bnd_some h1
        refine Cx.call0 hX (lit := []) (by kernel_rfl) rfl (by kernel_rfl) ⟨⟨_, Tryd.func29, by kernel_rfl, rfl⟩⟩ (ss := [.v (.string ⟨⟨v16.S⟩⟩), .v (.string ⟨⟨v20.S⟩⟩)]) (by kernel_rfl) [.v (.string ⟨⟨v16.S⟩⟩), .v (.string ⟨⟨v20.S⟩⟩)] rfl (fun hg => hg) (fun hv hle hg => strings_Compare.ok v16.S v20.S v24 hv24 _ _ hv (hG.mono hle) hg _) (fun s F w a hp hX => ?_)
        subst hp
        refine hX.part [] 1 [0, 1, 8, 15, 16, 17] (l' := [(0, SV.sl kT_api_Part a_ y_a_.1 y_a_.2), (1, SV.sl kT_api_Part b y_b.1 y_b.2), (8, .v (.int .i64 v24)), (15, SV.sl kT_api_Part v1 A2 c3), (16, .v (.int .i64 ((v1.length : Nat) : Int))), (17, .v (.int .i64 x15))]) (B' := [some ⟨40, [.v (.bool v16.IsText), .v (.int .i64 v16.N), .v (.string ⟨⟨v16.S⟩⟩)]⟩, some ⟨40, [.v (.bool v20.IsText), .v (.int .i64 v20.N), .v (.string ⟨⟨v20.S⟩⟩)]⟩]) (by kernel_rfl) fun ρ w a hX => ?_
        refine wpList_end ?_
        have hX := hX.keeps [0, 1, 8, 15, 16, 17] (l' := [(0, SV.sl kT_api_Part a_ y_a_.1 y_a_.2), (1, SV.sl kT_api_Part b y_b.1 y_b.2), (8, .v (.int .i64 v24)), (15, SV.sl kT_api_Part v1 A2 c3), (16, .v (.int .i64 ((v1.length : Nat) : Int))), (17, .v (.int .i64 x15))]) (by kernel_rfl)
        have hX := hX.shrink 0 (B' := []) (by kernel_rfl) (Nat.le_of_ble_eq_true rfl) (by kernel_rfl) (by kernel_rfl)
        exact J20 v24 h1  _ _ _ _ hX
      · have h1 := ite_ff h1 hb
        refine Cx.rseq hX [] [0, 1, 6, 7, 15, 16, 17, 43] (l' := [(0, SV.sl kT_api_Part a_ y_a_.1 y_a_.2), (1, SV.sl kT_api_Part b y_b.1 y_b.2), (6, .ptr 0 0), (7, .ptr 1 0), (15, SV.sl kT_api_Part v1 A2 c3), (16, .v (.int .i64 ((v1.length : Nat) : Int))), (17, .v (.int .i64 x15)), (43, .v (.bool v16.IsText))]) (B' := [some ⟨40, [.v (.bool v16.IsText), .v (.int .i64 v16.N), .v (.string ⟨⟨v16.S⟩⟩)]⟩, some ⟨40, [.v (.bool v20.IsText), .v (.int .i64 v20.N), .v (.string ⟨⟨v20.S⟩⟩)]⟩]) (by kernel_rfl) fun ρ w a hX => ?_
        refine Cx.cond hX (b := v16.IsText) (by kernel_rfl) (fun hb => ?_) (fun hb => ?_)
        · have h1 := ite_tt h1 hb
          refine Cx.region hX [] [0, 1, 8, 15, 16, 17] (l' := [(0, SV.sl kT_api_Part a_ y_a_.1 y_a_.2), (1, SV.sl kT_api_Part b y_b.1 y_b.2), (8, .v (.int .i64 1)), (15, SV.sl kT_api_Part v1 A2 c3), (16, .v (.int .i64 ((v1.length : Nat) : Int))), (17, .v (.int .i64 x15))]) (B' := [some ⟨40, [.v (.bool v16.IsText), .v (.int .i64 v16.N), .v (.string ⟨⟨v16.S⟩⟩)]⟩, some ⟨40, [.v (.bool v20.IsText), .v (.int .i64 v20.N), .v (.string ⟨⟨v20.S⟩⟩)]⟩]) (by kernel_rfl) fun ρ w a hX => ?_
          have hX := hX.keeps [0, 1, 8, 15, 16, 17] (l' := [(0, SV.sl kT_api_Part a_ y_a_.1 y_a_.2), (1, SV.sl kT_api_Part b y_b.1 y_b.2), (8, .v (.int .i64 1)), (15, SV.sl kT_api_Part v1 A2 c3), (16, .v (.int .i64 ((v1.length : Nat) : Int))), (17, .v (.int .i64 x15))]) (by kernel_rfl)
          have hX := hX.shrink 0 (B' := []) (by kernel_rfl) (Nat.le_of_ble_eq_true rfl) (by kernel_rfl) (by kernel_rfl)
          exact J20 1 h1  _ _ _ _ hX
        · have h1 := ite_ff h1 hb
          refine Cx.rseq hX [] [0, 1, 6, 7, 15, 16, 17, 46] (l' := [(0, SV.sl kT_api_Part a_ y_a_.1 y_a_.2), (1, SV.sl kT_api_Part b y_b.1 y_b.2), (6, .ptr 0 0), (7, .ptr 1 0), (15, SV.sl kT_api_Part v1 A2 c3), (16, .v (.int .i64 ((v1.length : Nat) : Int))), (17, .v (.int .i64 x15)), (46, .v (.bool v20.IsText))]) (B' := [some ⟨40, [.v (.bool v16.IsText), .v (.int .i64 v16.N), .v (.string ⟨⟨v16.S⟩⟩)]⟩, some ⟨40, [.v (.bool v20.IsText), .v (.int .i64 v20.N), .v (.string ⟨⟨v20.S⟩⟩)]⟩]) (by kernel_rfl) fun ρ w a hX => ?_
          refine Cx.cond hX (b := v20.IsText) (by kernel_rfl) (fun hb => ?_) (fun hb => ?_)
          · have h1 := ite_tt h1 hb
            refine Cx.region hX [] [0, 1, 8, 15, 16, 17] (l' := [(0, SV.sl kT_api_Part a_ y_a_.1 y_a_.2), (1, SV.sl kT_api_Part b y_b.1 y_b.2), (8, .v (.int .i64 (-1))), (15, SV.sl kT_api_Part v1 A2 c3), (16, .v (.int .i64 ((v1.length : Nat) : Int))), (17, .v (.int .i64 x15))]) (B' := [some ⟨40, [.v (.bool v16.IsText), .v (.int .i64 v16.N), .v (.string ⟨⟨v16.S⟩⟩)]⟩, some ⟨40, [.v (.bool v20.IsText), .v (.int .i64 v20.N), .v (.string ⟨⟨v20.S⟩⟩)]⟩]) (by kernel_rfl) fun ρ w a hX => ?_
            have hX := hX.keeps [0, 1, 8, 15, 16, 17] (l' := [(0, SV.sl kT_api_Part a_ y_a_.1 y_a_.2), (1, SV.sl kT_api_Part b y_b.1 y_b.2), (8, .v (.int .i64 (-1))), (15, SV.sl kT_api_Part v1 A2 c3), (16, .v (.int .i64 ((v1.length : Nat) : Int))), (17, .v (.int .i64 x15))]) (by kernel_rfl)
            have hX := hX.shrink 0 (B' := []) (by kernel_rfl) (Nat.le_of_ble_eq_true rfl) (by kernel_rfl) (by kernel_rfl)
            exact J20 (-1) h1  _ _ _ _ hX
          · have h1 := ite_ff h1 hb
            refine wp_region_list ?_
            refine hX.part [] 4 [0, 1, 15, 16, 17, 27, 29] (l' := [(0, SV.sl kT_api_Part a_ y_a_.1 y_a_.2), (1, SV.sl kT_api_Part b y_b.1 y_b.2), (15, SV.sl kT_api_Part v1 A2 c3), (16, .v (.int .i64 ((v1.length : Nat) : Int))), (17, .v (.int .i64 x15)), (27, .v (.int .i64 v16.N)), (29, .v (.int .i64 v20.N))]) (B' := [some ⟨40, [.v (.bool v16.IsText), .v (.int .i64 v16.N), .v (.string ⟨⟨v16.S⟩⟩)]⟩, some ⟨40, [.v (.bool v20.IsText), .v (.int .i64 v20.N), .v (.string ⟨⟨v20.S⟩⟩)]⟩]) (by kernel_rfl) fun ρ w a hX => ?_
            obtain ⟨v25, hv25, h1⟩ := bnd_some h1
            refine Cx.call0 hX (lit := []) (by kernel_rfl) rfl (by kernel_rfl) ⟨⟨_, Tryd.func30, by kernel_rfl, rfl⟩⟩ (ss := [.v (.int .i64 v16.N), .v (.int .i64 v20.N)]) (by kernel_rfl) [.v (.int .i64 v16.N), .v (.int .i64 v20.N)] rfl (fun hg => hg) (fun hv hle hg => cmp_Compare_int64.ok v16.N v20.N v25 hv25 _ _ hv (hG.mono hle) hg _) (fun s F w a hp hX => ?_)
            subst hp
            refine hX.part [] 1 [0, 1, 8, 15, 16, 17] (l' := [(0, SV.sl kT_api_Part a_ y_a_.1 y_a_.2), (1, SV.sl kT_api_Part b y_b.1 y_b.2), (8, .v (.int .i64 v25)), (15, SV.sl kT_api_Part v1 A2 c3), (16, .v (.int .i64 ((v1.length : Nat) : Int))), (17, .v (.int .i64 x15))]) (B' := [some ⟨40, [.v (.bool v16.IsText), .v (.int .i64 v16.N), .v (.string ⟨⟨v16.S⟩⟩)]⟩, some ⟨40, [.v (.bool v20.IsText), .v (.int .i64 v20.N), .v (.string ⟨⟨v20.S⟩⟩)]⟩]) (by kernel_rfl) fun ρ w a hX => ?_
            refine wpList_end ?_
            have hX := hX.keeps [0, 1, 8, 15, 16, 17] (l' := [(0, SV.sl kT_api_Part a_ y_a_.1 y_a_.2), (1, SV.sl kT_api_Part b y_b.1 y_b.2), (8, .v (.int .i64 v25)), (15, SV.sl kT_api_Part v1 A2 c3), (16, .v (.int .i64 ((v1.length : Nat) : Int))), (17, .v (.int .i64 x15))]) (by kernel_rfl)
            have hX := hX.shrink 0 (B' := []) (by kernel_rfl) (Nat.le_of_ble_eq_true rfl) (by kernel_rfl) (by kernel_rfl)
            exact J20 v25 h1  _ _ _ _ hX
    · have h1 := ite_ff h1 hb
      refine wp_exit ?_
      have hX := hX.keeps [0, 1] (l' := [(0, SV.sl kT_api_Part a_ y_a_.1 y_a_.2), (1, SV.sl kT_api_Part b y_b.1 y_b.2)]) (by kernel_rfl)
      exact E1x0 () (hx1 _ (out_eq h1)).symm  _ _ _ _ hX
  · exact ⟨_, _, hX⟩
def law05_live.j1 (x13 : Bool) : Option (Bool) :=
  some x13
def law05_live : Option (Bool) :=
  Option.bind (order_Encode ([({ IsText := true, N := 0, S := ([0, 97] : Str) } : T_api_Part)] : List T_api_Part)) fun v2 =>
  Option.bind (order_Decode v2.1) fun v3 =>
  if (((v2.1 == ([32, 0, 255, 97, 0, 1] : Str)) && (v2.2 == 0)) && (v3.2 == 0)) = true then
    Option.bind (ref05_Same v3.1 ([({ IsText := true, N := 0, S := ([0, 97] : Str) } : T_api_Part)] : List T_api_Part)) fun v6 =>
    if v6 = true then
      Option.bind (order_Compare ([({ IsText := false, N := 2, S := ([] : Str) } : T_api_Part)] : List T_api_Part) ([({ IsText := false, N := 10, S := ([] : Str) } : T_api_Part)] : List T_api_Part)) fun v9 =>
      if (v9 == (-1)) = true then
        Option.bind (order_Compare ([({ IsText := false, N := 10, S := ([] : Str) } : T_api_Part)] : List T_api_Part) ([({ IsText := true, N := 0, S := ([] : Str) } : T_api_Part)] : List T_api_Part)) fun v12 =>
        law05_live.j1 (v12 == (-1))
      else
        law05_live.j1 false
    else
      law05_live.j1 false
  else
    law05_live.j1 false
theorem law05_live.ok (r : Bool) (h0 : law05_live = some r) (w0 : World) (F0 : Heap) (hv : F0.Sub w0) (hG : Glob F0) (hg : SV.goods F0 []) (ρ : Nat → Nat) :
    Calls Tryd.prog 12 (SV.dens ρ []).toArray w0 (Ret0 w0 F0 fun s => s = .v (.bool r)) := by
  refine calls_of_wp Tryd.func12 rfl ?_
  have hX := Cx.enter (D := No) (B := []) (L := []) (ρ := ρ) (N := 49) Tryd.ntmps12 [] (St.start hv) rfl hg (by kernel_rfl) (fun _ h => by cases h) (Nat.le_of_ble_eq_true rfl)
  unfold law05_live at h0
  refine Cx.rseq hX [] [] (l' := []) (B' := []) (by kernel_rfl) fun ρ w a hX => ?_
  refine Cx.rseq hX [] [1] (l' := [(1, .slc 0 0 1 1)]) (B' := [some ⟨40, [.v (.bool true), .v (.int .i64 0), .v (.string ⟨⟨([0, 97] : Str)⟩⟩)]⟩]) (by kernel_rfl) fun ρ w a hX => ?_
  refine wp_seq_k fun K3 hK3 => ?_
  refine wp_region_list ?_
  refine hX.part [] 1 [1, 9] (l' := [(1, .slc 0 0 1 1), (9, .slc 0 0 1 1)]) (B' := [some ⟨40, [.v (.bool true), .v (.int .i64 0), .v (.string ⟨⟨([0, 97] : Str)⟩⟩)]⟩]) (by kernel_rfl) fun ρ w a hX => ?_
  obtain ⟨v2, hv2, h0⟩ := bnd_some h0
  obtain ⟨b1, hb, hX⟩ := hX.boxAcc2 (d := kT_api_Part) (e := 40) (k := 0) (t := 9) (m := 1) ([(({ IsText := true, N := 0, S := ([0, 97] : Str) } : T_api_Part), ())] : List (T_api_Part × (kT_api_Part).Y)) (by kernel_rfl) (by kernel_rfl) rfl rfl (by decide) ⟨_, rfl⟩
  have hX : Cx 49 _ _ _ _ _ [accP 40 kT_api_Part (some ⟨b1, 0, none⟩) 1 ([({ IsText := true, N := 0, S := ([0, 97] : Str) } : T_api_Part)] : List T_api_Part)] [none] ρ _ a := hX
  have hX := hX.retell (t := 1) (s := .slc 0 0 1 1) (s' := .v (.slice (some ⟨b1, 0, none⟩) ([({ IsText := true, N := 0, S := ([0, 97] : Str) } : T_api_Part)] : List T_api_Part).length 1)) (by kernel_rfl) (by rw [hb]; rfl) trivial rfl
  obtain ⟨F, hX⟩ := hX.freeze (i := 0) (t := 9) (e := 40) (d := kT_api_Part) (A := (some ⟨b1, 0, none⟩)) (c := 1) (xs := ([({ IsText := true, N := 0, S := ([0, 97] : Str) } : T_api_Part)] : List T_api_Part)) rfl (by kernel_rfl)
  have hX : Cx 49 _ _ _ _ _ [] [none] ρ _ a := hX
  have hX := hX.alsoSl (d := kT_api_Part) (xs := ([({ IsText := true, N := 0, S := ([0, 97] : Str) } : T_api_Part)] : List T_api_Part)) (A := (some ⟨b1, 0, none⟩)) (c := 1) 9 1 (by kernel_rfl) (by kernel_rfl)
  refine Cx.call0 hX (lit := []) (by kernel_rfl) rfl (by kernel_rfl) ⟨⟨_, Tryd.func16, by kernel_rfl, rfl⟩⟩ (ss := [SV.sl kT_api_Part ([({ IsText := true, N := 0, S := ([0, 97] : Str) } : T_api_Part)] : List T_api_Part) (some ⟨b1, 0, none⟩) 1]) (by kernel_rfl) [SV.sl kT_api_Part ([({ IsText := true, N := 0, S := ([0, 97] : Str) } : T_api_Part)] : List T_api_Part) (some ⟨b1, 0, none⟩) 1] rfl (fun hg => hg) (fun hv hle hg => order_Encode.ok ([({ IsText := true, N := 0, S := ([0, 97] : Str) } : T_api_Part)] : List T_api_Part) ((some ⟨b1, 0, none⟩), 1) v2 hv2 _ _ hv (hG.mono hle) hg _) (fun s F w a hp hX => ?_)
  obtain ⟨_, _, rfl, rfl, rfl⟩ := hp
  refine hX.part [] 5 [1, 2, 3] (l' := [(1, SV.sl kT_api_Part ([({ IsText := true, N := 0, S := ([0, 97] : Str) } : T_api_Part)] : List T_api_Part) (some ⟨b1, 0, none⟩) 1), (2, .v (.string ⟨⟨v2.1⟩⟩)), (3, .v (.int .i64 v2.2))]) (B' := [none]) (by kernel_rfl) fun ρ w a hX => ?_
  refine wpList_end ?_
  refine hK3 _ _ ?_
  refine wp_seq_k fun K4 hK4 => ?_
  refine wp_region_list ?_
  refine hX.part [] 1 [1, 2, 3, 14] (l' := [(1, SV.sl kT_api_Part ([({ IsText := true, N := 0, S := ([0, 97] : Str) } : T_api_Part)] : List T_api_Part) (some ⟨b1, 0, none⟩) 1), (2, .v (.string ⟨⟨v2.1⟩⟩)), (3, .v (.int .i64 v2.2)), (14, .v (.string ⟨⟨v2.1⟩⟩))]) (B' := [none]) (by kernel_rfl) fun ρ w a hX => ?_
  obtain ⟨v3, hv3, h0⟩ := bnd_some h0
  refine Cx.call0 hX (lit := []) (by kernel_rfl) rfl (by kernel_rfl) ⟨⟨_, Tryd.func10, by kernel_rfl, rfl⟩⟩ (ss := [.v (.string ⟨⟨v2.1⟩⟩)]) (by kernel_rfl) [.v (.string ⟨⟨v2.1⟩⟩)] rfl (fun hg => hg) (fun hv hle hg => order_Decode.ok v2.1 v3 hv3 _ _ hv (hG.mono hle) hg _) (fun s F w a hp hX => ?_)
  obtain ⟨_, _, rfl, ⟨A4, c5, rfl⟩, rfl⟩ := hp
  refine hX.part [] 5 [1, 2, 3, 4, 5] (l' := [(1, SV.sl kT_api_Part ([({ IsText := true, N := 0, S := ([0, 97] : Str) } : T_api_Part)] : List T_api_Part) (some ⟨b1, 0, none⟩) 1), (2, .v (.string ⟨⟨v2.1⟩⟩)), (3, .v (.int .i64 v2.2)), (4, SV.sl kT_api_Part v3.1 A4 c5), (5, .v (.int .i64 v3.2))]) (B' := [none]) (by kernel_rfl) fun ρ w a hX => ?_
  refine wpList_end ?_
  refine hK4 _ _ ?_
  refine wp_seq_k fun K5 hK5 => ?_
  have J5 : ∀ (x13 : Bool), law05_live.j1 x13 = some r → ∀ (ρ : Nat → Nat) (w : World) (F : Heap) (a : Act), Cx 49 w0 F0 No w F [] [] ρ [(0, .v (.bool x13))] a → K5 a w := by
    intro x13 h0  ρ w F a hX
    unfold law05_live.j1 at h0
    refine hK5 _ _ ?_
    refine wp_ret ?_
    have hr := Option.some.inj (show some _ = some _ from h0)
    subst hr
    exact hX.ret0 (ss := [.v (.bool x13)]) (by kernel_rfl) (by kernel_rfl) rfl
  refine wp_region_list ?_
  refine hX.part [] 11 [1, 4, 28] (l' := [(1, SV.sl kT_api_Part ([({ IsText := true, N := 0, S := ([0, 97] : Str) } : T_api_Part)] : List T_api_Part) (some ⟨b1, 0, none⟩) 1), (4, SV.sl kT_api_Part v3.1 A4 c5), (28, .v (.bool (((v2.1 == ([32, 0, 255, 97, 0, 1] : Str)) && (v2.2 == 0)) && (v3.2 == 0))))]) (B' := [none]) (by kernel_rfl) fun ρ w a hX => ?_
  refine ite_go h0 (fun hb h0 => ?_) (fun hb h0 => ?_)
  · have hX := hX.relit 28 hb (by kernel_rfl)
    refine hX.part [10] 2 [28, 29, 30] (l' := [(28, .v (.bool true)), (29, SV.sl kT_api_Part v3.1 A4 c5), (30, SV.sl kT_api_Part ([({ IsText := true, N := 0, S := ([0, 97] : Str) } : T_api_Part)] : List T_api_Part) (some ⟨b1, 0, none⟩) 1)]) (B' := [none]) (by kernel_rfl) fun ρ w a hX => ?_
    obtain ⟨v6, hv6, h0⟩ := bnd_some h0
    refine Cx.call0 hX (lit := [10]) (by kernel_rfl) rfl (by kernel_rfl) ⟨⟨_, Tryd.func13, by kernel_rfl, rfl⟩⟩ (ss := [SV.sl kT_api_Part v3.1 A4 c5, SV.sl kT_api_Part ([({ IsText := true, N := 0, S := ([0, 97] : Str) } : T_api_Part)] : List T_api_Part) (some ⟨b1, 0, none⟩) 1]) (by kernel_rfl) [SV.sl kT_api_Part v3.1 A4 c5, SV.sl kT_api_Part ([({ IsText := true, N := 0, S := ([0, 97] : Str) } : T_api_Part)] : List T_api_Part) (some ⟨b1, 0, none⟩) 1] rfl (fun hg => hg) (fun hv hle hg => ref05_Same.ok v3.1 ([({ IsText := true, N := 0, S := ([0, 97] : Str) } : T_api_Part)] : List T_api_Part) (A4, c5) ((some ⟨b1, 0, none⟩), 1) v6 hv6 _ _ hv (hG.mono hle) hg _) (fun s F w a hp hX => ?_)
    subst hp
    refine hX.part [] 2 [33] (l' := [(33, .v (.bool v6))]) (B' := [none]) (by kernel_rfl) fun ρ w a hX => ?_
    refine ite_go h0 (fun hb h0 => ?_) (fun hb h0 => ?_)
    · have hX := hX.relit 33 hb (by kernel_rfl)
      refine hX.part [15] 4 [33, 35, 37] (l' := [(33, .v (.bool true)), (35, .slc 1 0 1 1), (37, .slc 2 0 1 1)]) (B' := [none, some ⟨40, [.v (.bool false), .v (.int .i64 2), .v (.string ⟨⟨([] : Str)⟩⟩)]⟩, some ⟨40, [.v (.bool false), .v (.int .i64 10), .v (.string ⟨⟨([] : Str)⟩⟩)]⟩]) (by kernel_rfl) fun ρ w a hX => ?_
      obtain ⟨v9, hv9, h0⟩ := bnd_some h0
      obtain ⟨b7, hb, hX⟩ := hX.boxAcc2 (d := kT_api_Part) (e := 40) (k := 1) (t := 35) (m := 1) ([(({ IsText := false, N := 2, S := ([] : Str) } : T_api_Part), ())] : List (T_api_Part × (kT_api_Part).Y)) (by kernel_rfl) (by kernel_rfl) rfl rfl (by decide) ⟨_, rfl⟩
      have hX : Cx 49 _ _ _ _ _ [accP 40 kT_api_Part (some ⟨b7, 0, none⟩) 1 ([({ IsText := false, N := 2, S := ([] : Str) } : T_api_Part)] : List T_api_Part)] [none, none, some ⟨40, [.v (.bool false), .v (.int .i64 10), .v (.string ⟨⟨([] : Str)⟩⟩)]⟩] ρ _ a := hX
      obtain ⟨F, hX⟩ := hX.freeze (i := 0) (t := 35) (e := 40) (d := kT_api_Part) (A := (some ⟨b7, 0, none⟩)) (c := 1) (xs := ([({ IsText := false, N := 2, S := ([] : Str) } : T_api_Part)] : List T_api_Part)) rfl (by kernel_rfl)
      have hX : Cx 49 _ _ _ _ _ [] [none, none, some ⟨40, [.v (.bool false), .v (.int .i64 10), .v (.string ⟨⟨([] : Str)⟩⟩)]⟩] ρ _ a := hX
      obtain ⟨b8, hb, hX⟩ := hX.boxAcc2 (d := kT_api_Part) (e := 40) (k := 2) (t := 37) (m := 1) ([(({ IsText := false, N := 10, S := ([] : Str) } : T_api_Part), ())] : List (T_api_Part × (kT_api_Part).Y)) (by kernel_rfl) (by kernel_rfl) rfl rfl (by decide) ⟨_, rfl⟩
      have hX : Cx 49 _ _ _ _ _ [accP 40 kT_api_Part (some ⟨b8, 0, none⟩) 1 ([({ IsText := false, N := 10, S := ([] : Str) } : T_api_Part)] : List T_api_Part)] [none, none, none] ρ _ a := hX
      obtain ⟨F, hX⟩ := hX.freeze (i := 0) (t := 37) (e := 40) (d := kT_api_Part) (A := (some ⟨b8, 0, none⟩)) (c := 1) (xs := ([({ IsText := false, N := 10, S := ([] : Str) } : T_api_Part)] : List T_api_Part)) rfl (by kernel_rfl)
      have hX : Cx 49 _ _ _ _ _ [] [none, none, none] ρ _ a := hX
      refine Cx.call0 hX (lit := [15]) (by kernel_rfl) rfl (by kernel_rfl) ⟨⟨_, Tryd.func14, by kernel_rfl, rfl⟩⟩ (ss := [SV.sl kT_api_Part ([({ IsText := false, N := 2, S := ([] : Str) } : T_api_Part)] : List T_api_Part) (some ⟨b7, 0, none⟩) 1, SV.sl kT_api_Part ([({ IsText := false, N := 10, S := ([] : Str) } : T_api_Part)] : List T_api_Part) (some ⟨b8, 0, none⟩) 1]) (by kernel_rfl) [SV.sl kT_api_Part ([({ IsText := false, N := 2, S := ([] : Str) } : T_api_Part)] : List T_api_Part) (some ⟨b7, 0, none⟩) 1, SV.sl kT_api_Part ([({ IsText := false, N := 10, S := ([] : Str) } : T_api_Part)] : List T_api_Part) (some ⟨b8, 0, none⟩) 1] rfl (fun hg => hg) (fun hv hle hg => order_Compare.ok ([({ IsText := false, N := 2, S := ([] : Str) } : T_api_Part)] : List T_api_Part) ([({ IsText := false, N := 10, S := ([] : Str) } : T_api_Part)] : List T_api_Part) ((some ⟨b7, 0, none⟩), 1) ((some ⟨b8, 0, none⟩), 1) v9 hv9 _ _ hv (hG.mono hle) hg _) (fun s F w a hp hX => ?_)
      subst hp
      refine hX.part [15] 3 [41] (l' := [(41, .v (.bool (v9 == (-1))))]) (B' := [none, none, none]) (by kernel_rfl) fun ρ w a hX => ?_
      refine ite_go h0 (fun hb h0 => ?_) (fun hb h0 => ?_)
      · have hX := hX.relit 41 hb (by kernel_rfl)
        refine hX.part [23] 4 [41, 43, 45] (l' := [(41, .v (.bool true)), (43, .slc 3 0 1 1), (45, .slc 4 0 1 1)]) (B' := [none, none, none, some ⟨40, [.v (.bool false), .v (.int .i64 10), .v (.string ⟨⟨([] : Str)⟩⟩)]⟩, some ⟨40, [.v (.bool true), .v (.int .i64 0), .v (.string ⟨⟨([] : Str)⟩⟩)]⟩]) (by kernel_rfl) fun ρ w a hX => ?_
        obtain ⟨v12, hv12, h0⟩ := bnd_some h0
        obtain ⟨b10, hb, hX⟩ := hX.boxAcc2 (d := kT_api_Part) (e := 40) (k := 3) (t := 43) (m := 1) ([(({ IsText := false, N := 10, S := ([] : Str) } : T_api_Part), ())] : List (T_api_Part × (kT_api_Part).Y)) (by kernel_rfl) (by kernel_rfl) rfl rfl (by decide) ⟨_, rfl⟩
        have hX : Cx 49 _ _ _ _ _ [accP 40 kT_api_Part (some ⟨b10, 0, none⟩) 1 ([({ IsText := false, N := 10, S := ([] : Str) } : T_api_Part)] : List T_api_Part)] [none, none, none, none, some ⟨40, [.v (.bool true), .v (.int .i64 0), .v (.string ⟨⟨([] : Str)⟩⟩)]⟩] ρ _ a := hX
        obtain ⟨F, hX⟩ := hX.freeze (i := 0) (t := 43) (e := 40) (d := kT_api_Part) (A := (some ⟨b10, 0, none⟩)) (c := 1) (xs := ([({ IsText := false, N := 10, S := ([] : Str) } : T_api_Part)] : List T_api_Part)) rfl (by kernel_rfl)
        have hX : Cx 49 _ _ _ _ _ [] [none, none, none, none, some ⟨40, [.v (.bool true), .v (.int .i64 0), .v (.string ⟨⟨([] : Str)⟩⟩)]⟩] ρ _ a := hX
        obtain ⟨b11, hb, hX⟩ := hX.boxAcc2 (d := kT_api_Part) (e := 40) (k := 4) (t := 45) (m := 1) ([(({ IsText := true, N := 0, S := ([] : Str) } : T_api_Part), ())] : List (T_api_Part × (kT_api_Part).Y)) (by kernel_rfl) (by kernel_rfl) rfl rfl (by decide) ⟨_, rfl⟩
        have hX : Cx 49 _ _ _ _ _ [accP 40 kT_api_Part (some ⟨b11, 0, none⟩) 1 ([({ IsText := true, N := 0, S := ([] : Str) } : T_api_Part)] : List T_api_Part)] [none, none, none, none, none] ρ _ a := hX
        obtain ⟨F, hX⟩ := hX.freeze (i := 0) (t := 45) (e := 40) (d := kT_api_Part) (A := (some ⟨b11, 0, none⟩)) (c := 1) (xs := ([({ IsText := true, N := 0, S := ([] : Str) } : T_api_Part)] : List T_api_Part)) rfl (by kernel_rfl)
        have hX : Cx 49 _ _ _ _ _ [] [none, none, none, none, none] ρ _ a := hX
        refine Cx.call0 hX (lit := [23]) (by kernel_rfl) rfl (by kernel_rfl) ⟨⟨_, Tryd.func14, by kernel_rfl, rfl⟩⟩ (ss := [SV.sl kT_api_Part ([({ IsText := false, N := 10, S := ([] : Str) } : T_api_Part)] : List T_api_Part) (some ⟨b10, 0, none⟩) 1, SV.sl kT_api_Part ([({ IsText := true, N := 0, S := ([] : Str) } : T_api_Part)] : List T_api_Part) (some ⟨b11, 0, none⟩) 1]) (by kernel_rfl) [SV.sl kT_api_Part ([({ IsText := false, N := 10, S := ([] : Str) } : T_api_Part)] : List T_api_Part) (some ⟨b10, 0, none⟩) 1, SV.sl kT_api_Part ([({ IsText := true, N := 0, S := ([] : Str) } : T_api_Part)] : List T_api_Part) (some ⟨b11, 0, none⟩) 1] rfl (fun hg => hg) (fun hv hle hg => order_Compare.ok ([({ IsText := false, N := 10, S := ([] : Str) } : T_api_Part)] : List T_api_Part) ([({ IsText := true, N := 0, S := ([] : Str) } : T_api_Part)] : List T_api_Part) ((some ⟨b10, 0, none⟩), 1) ((some ⟨b11, 0, none⟩), 1) v12 hv12 _ _ hv (hG.mono hle) hg _) (fun s F w a hp hX => ?_)
        subst hp
        refine hX.part [23] 3 [0] (l' := [(0, .v (.bool (v12 == (-1))))]) (B' := [none, none, none, none, none]) (by kernel_rfl) fun ρ w a hX => ?_
        refine wpList_end ?_
        have hX := hX.keeps [0] (l' := [(0, .v (.bool (v12 == (-1))))]) (by kernel_rfl)
        have hX := hX.shrink 0 (B' := []) (by kernel_rfl) (Nat.le_of_ble_eq_true rfl) (by kernel_rfl) (by kernel_rfl)
        exact J5 (v12 == (-1)) h0  _ _ _ _ hX
      · have hX := hX.relit 41 hb (by kernel_rfl)
        refine hX.part [23] 8 [0] (l' := [(0, .v (.bool false))]) (B' := [none, none, none]) (by kernel_rfl) fun ρ w a hX => ?_
        refine wpList_end ?_
        have hX := hX.keeps [0] (l' := [(0, .v (.bool false))]) (by kernel_rfl)
        have hX := hX.shrink 0 (B' := []) (by kernel_rfl) (Nat.le_of_ble_eq_true rfl) (by kernel_rfl) (by kernel_rfl)
        exact J5 false h0  _ _ _ _ hX
    · have hX := hX.relit 33 hb (by kernel_rfl)
      refine hX.part [15, 23] 16 [0] (l' := [(0, .v (.bool false))]) (B' := [none]) (by kernel_rfl) fun ρ w a hX => ?_
      refine wpList_end ?_
      have hX := hX.keeps [0] (l' := [(0, .v (.bool false))]) (by kernel_rfl)
      have hX := hX.shrink 0 (B' := []) (by kernel_rfl) (Nat.le_of_ble_eq_true rfl) (by kernel_rfl) (by kernel_rfl)
      exact J5 false h0  _ _ _ _ hX
  · have hX := hX.relit 28 hb (by kernel_rfl)
    refine hX.part [10, 15, 23] 21 [0] (l' := [(0, .v (.bool false))]) (B' := [none]) (by kernel_rfl) fun ρ w a hX => ?_
    refine wpList_end ?_
    have hX := hX.keeps [0] (l' := [(0, .v (.bool false))]) (by kernel_rfl)
    have hX := hX.shrink 0 (B' := []) (by kernel_rfl) (Nat.le_of_ble_eq_true rfl) (by kernel_rfl) (by kernel_rfl)
    exact J5 false h0  _ _ _ _ hX
def law05_OrderReads.j1 (x9 : Bool) : Option (Bool) :=
  some x9
def law05_OrderReads (s_ : Str) : Option (Bool) :=
  Option.bind (order_Decode s_) fun v1 =>
  Option.bind (ref05_Decode s_) fun v4 =>
  Option.bind (law05_live) fun v7 =>
  if v7 = true then
    Option.bind (ref05_Same v1.1 v4.1) fun v8 =>
    law05_OrderReads.j1 (v8 && (v1.2 == v4.2))
  else
    law05_OrderReads.j1 false
theorem law05_OrderReads.ok (s_ : Str) (r : Bool) (h0 : law05_OrderReads s_ = some r) (w0 : World) (F0 : Heap) (hv : F0.Sub w0) (hG : Glob F0) (hg : SV.goods F0 [.v (.string ⟨⟨s_⟩⟩)]) (ρ : Nat → Nat) :
    Calls Tryd.prog 3 (SV.dens ρ [.v (.string ⟨⟨s_⟩⟩)]).toArray w0 (Ret0 w0 F0 fun s => s = .v (.bool r)) := by
  refine calls_of_wp Tryd.func3 rfl ?_
  have hX := Cx.enter (D := No) (B := []) (L := []) (ρ := ρ) (N := 28) Tryd.ntmps3 [.v (.string ⟨⟨s_⟩⟩)] (St.start hv) rfl hg (by kernel_rfl) (fun _ h => by cases h) (Nat.le_of_ble_eq_true rfl)
  unfold law05_OrderReads at h0
  refine Cx.rseq hX [] [0] (l' := [(0, .v (.string ⟨⟨s_⟩⟩))]) (B' := []) (by kernel_rfl) fun ρ w a hX => ?_
  refine wp_seq_k fun K2 hK2 => ?_
  refine wp_region_list ?_
  refine hX.part [] 1 [0, 8] (l' := [(0, .v (.string ⟨⟨s_⟩⟩)), (8, .v (.string ⟨⟨s_⟩⟩))]) (B' := []) (by kernel_rfl) fun ρ w a hX => ?_
  obtain ⟨v1, hv1, h0⟩ := bnd_some h0
  refine Cx.call0 hX (lit := []) (by kernel_rfl) rfl (by kernel_rfl) ⟨⟨_, Tryd.func10, by kernel_rfl, rfl⟩⟩ (ss := [.v (.string ⟨⟨s_⟩⟩)]) (by kernel_rfl) [.v (.string ⟨⟨s_⟩⟩)] rfl (fun hg => hg) (fun hv hle hg => order_Decode.ok s_ v1 hv1 _ _ hv (hG.mono hle) hg _) (fun s F w a hp hX => ?_)
  obtain ⟨_, _, rfl, ⟨A2, c3, rfl⟩, rfl⟩ := hp
  refine hX.part [] 5 [0, 3, 4] (l' := [(0, .v (.string ⟨⟨s_⟩⟩)), (3, SV.sl kT_api_Part v1.1 A2 c3), (4, .v (.int .i64 v1.2))]) (B' := []) (by kernel_rfl) fun ρ w a hX => ?_
  refine wpList_end ?_
  refine hK2 _ _ ?_
  refine wp_seq_k fun K3 hK3 => ?_
  refine wp_region_list ?_
  refine hX.part [] 1 [3, 4, 13] (l' := [(3, SV.sl kT_api_Part v1.1 A2 c3), (4, .v (.int .i64 v1.2)), (13, .v (.string ⟨⟨s_⟩⟩))]) (B' := []) (by kernel_rfl) fun ρ w a hX => ?_
  obtain ⟨v4, hv4, h0⟩ := bnd_some h0
  refine Cx.call0 hX (lit := []) (by kernel_rfl) rfl (by kernel_rfl) ⟨⟨_, Tryd.func11, by kernel_rfl, rfl⟩⟩ (ss := [.v (.string ⟨⟨s_⟩⟩)]) (by kernel_rfl) [.v (.string ⟨⟨s_⟩⟩)] rfl (fun hg => hg) (fun hv hle hg => ref05_Decode.ok s_ v4 hv4 _ _ hv (hG.mono hle) hg _) (fun s F w a hp hX => ?_)
  obtain ⟨_, _, rfl, ⟨A5, c6, rfl⟩, rfl⟩ := hp
  refine hX.part [] 5 [3, 4, 5, 6] (l' := [(3, SV.sl kT_api_Part v1.1 A2 c3), (4, .v (.int .i64 v1.2)), (5, SV.sl kT_api_Part v4.1 A5 c6), (6, .v (.int .i64 v4.2))]) (B' := []) (by kernel_rfl) fun ρ w a hX => ?_
  refine wpList_end ?_
  refine hK3 _ _ ?_
  refine wp_seq_k fun K4 hK4 => ?_
  have J4 : ∀ (x9 : Bool), law05_OrderReads.j1 x9 = some r → ∀ (ρ : Nat → Nat) (w : World) (F : Heap) (a : Act), Cx 28 w0 F0 No w F [] [] ρ [(2, .v (.bool x9))] a → K4 a w := by
    intro x9 h0  ρ w F a hX
    unfold law05_OrderReads.j1 at h0
    refine hK4 _ _ ?_
    refine wp_ret ?_
    have hr := Option.some.inj (show some _ = some _ from h0)
    subst hr
    exact hX.ret0 (ss := [.v (.bool x9)]) (by kernel_rfl) (by kernel_rfl) rfl
  refine wp_region_list ?_
  refine hX.part [] 0 [3, 4, 5, 6] (l' := [(3, SV.sl kT_api_Part v1.1 A2 c3), (4, .v (.int .i64 v1.2)), (5, SV.sl kT_api_Part v4.1 A5 c6), (6, .v (.int .i64 v4.2))]) (B' := []) (by kernel_rfl) fun ρ w a hX => ?_
  obtain ⟨v7, hv7, h0⟩ := bnd_some h0
  refine Cx.call0 hX (lit := []) (by kernel_rfl) rfl (by kernel_rfl) ⟨⟨_, Tryd.func12, by kernel_rfl, rfl⟩⟩ (ss := []) (by kernel_rfl) [] rfl (fun hg => hg) (fun hv hle hg => law05_live.ok v7 hv7 _ _ hv (hG.mono hle) hg _) (fun s F w a hp hX => ?_)
  subst hp
  refine hX.part [] 1 [3, 4, 5, 6, 18] (l' := [(3, SV.sl kT_api_Part v1.1 A2 c3), (4, .v (.int .i64 v1.2)), (5, SV.sl kT_api_Part v4.1 A5 c6), (6, .v (.int .i64 v4.2)), (18, .v (.bool v7))]) (B' := []) (by kernel_rfl) fun ρ w a hX => ?_
  refine ite_go h0 (fun hb h0 => ?_) (fun hb h0 => ?_)
  · have hX := hX.relit 18 hb (by kernel_rfl)
    refine hX.part [1] 2 [4, 6, 18, 19, 20] (l' := [(4, .v (.int .i64 v1.2)), (6, .v (.int .i64 v4.2)), (18, .v (.bool true)), (19, SV.sl kT_api_Part v1.1 A2 c3), (20, SV.sl kT_api_Part v4.1 A5 c6)]) (B' := []) (by kernel_rfl) fun ρ w a hX => ?_
    obtain ⟨v8, hv8, h0⟩ := bnd_some h0
    refine Cx.call0 hX (lit := [1]) (by kernel_rfl) rfl (by kernel_rfl) ⟨⟨_, Tryd.func13, by kernel_rfl, rfl⟩⟩ (ss := [SV.sl kT_api_Part v1.1 A2 c3, SV.sl kT_api_Part v4.1 A5 c6]) (by kernel_rfl) [SV.sl kT_api_Part v1.1 A2 c3, SV.sl kT_api_Part v4.1 A5 c6] rfl (fun hg => hg) (fun hv hle hg => ref05_Same.ok v1.1 v4.1 (A2, c3) (A5, c6) v8 hv8 _ _ hv (hG.mono hle) hg _) (fun s F w a hp hX => ?_)
    subst hp
    refine hX.part [] 7 [2] (l' := [(2, .v (.bool (v8 && (v1.2 == v4.2))))]) (B' := []) (by kernel_rfl) fun ρ w a hX => ?_
    refine wpList_end ?_
    have hX := hX.keeps [2] (l' := [(2, .v (.bool (v8 && (v1.2 == v4.2))))]) (by kernel_rfl)
    exact J4 (v8 && (v1.2 == v4.2)) h0  _ _ _ _ hX
  · have hX := hX.relit 18 hb (by kernel_rfl)
    refine hX.part [1, 6] 10 [2] (l' := [(2, .v (.bool false))]) (B' := []) (by kernel_rfl) fun ρ w a hX => ?_
    refine wpList_end ?_
    have hX := hX.keeps [2] (l' := [(2, .v (.bool false))]) (by kernel_rfl)
    exact J4 false h0  _ _ _ _ hX
def ref05_compare (a_ : T_api_Part) (b : T_api_Part) : Option (Int) :=
  if (a_.IsText && (!b.IsText)) = true then
    some 1
  else
    if (b.IsText && (!a_.IsText)) = true then
      some (-1)
    else
      if ((a_.IsText && (Op.bytesLess a_.S b.S)) || ((!a_.IsText) && (decide (a_.N < b.N)))) = true then
        some (-1)
      else
        if ((a_.IsText && (!((Op.bytesLess a_.S b.S) || (a_.S == b.S)))) || ((!a_.IsText) && (decide (a_.N > b.N)))) = true then
          some 1
        else
          some 0
theorem ref05_compare.ok (a_ : T_api_Part) (b : T_api_Part) (r : Int) (h0 : ref05_compare a_ b = some r) (w0 : World) (F0 : Heap) (hv : F0.Sub w0) (hG : Glob F0) (hg : SV.goods F0 [.agg [.v (.bool a_.IsText), .v (.int .i64 a_.N), .v (.string ⟨⟨a_.S⟩⟩)], .agg [.v (.bool b.IsText), .v (.int .i64 b.N), .v (.string ⟨⟨b.S⟩⟩)]]) (ρ : Nat → Nat) :
    Calls Tryd.prog 32 (SV.dens ρ [.agg [.v (.bool a_.IsText), .v (.int .i64 a_.N), .v (.string ⟨⟨a_.S⟩⟩)], .agg [.v (.bool b.IsText), .v (.int .i64 b.N), .v (.string ⟨⟨b.S⟩⟩)]]).toArray w0 (Ret0 w0 F0 fun s => s = .v (.int .i64 r)) := by
  refine calls_of_wp Tryd.func32 rfl ?_
  have hX := Cx.enter (D := No) (B := []) (L := []) (ρ := ρ) (N := 65) Tryd.ntmps32 [.agg [.v (.bool a_.IsText), .v (.int .i64 a_.N), .v (.string ⟨⟨a_.S⟩⟩)], .agg [.v (.bool b.IsText), .v (.int .i64 b.N), .v (.string ⟨⟨b.S⟩⟩)]] (St.start hv) rfl hg (by kernel_rfl) (fun _ h => by cases h) (Nat.le_of_ble_eq_true rfl)
  unfold ref05_compare at h0
  refine Cx.rseq hX [] [2, 3] (l' := [(2, .ptr 0 0), (3, .ptr 1 0)]) (B' := [some ⟨40, [.v (.bool a_.IsText), .v (.int .i64 a_.N), .v (.string ⟨⟨a_.S⟩⟩)]⟩, some ⟨40, [.v (.bool b.IsText), .v (.int .i64 b.N), .v (.string ⟨⟨b.S⟩⟩)]⟩]) (by kernel_rfl) fun ρ w a hX => ?_
  refine wp_seq_k fun K2 hK2 => ?_
  refine wp_block ?_
  refine Cx.rseq hX [] [2, 3, 5] (l' := [(2, .ptr 0 0), (3, .ptr 1 0), (5, .v (.bool (a_.IsText && (!b.IsText))))]) (B' := [some ⟨40, [.v (.bool a_.IsText), .v (.int .i64 a_.N), .v (.string ⟨⟨a_.S⟩⟩)]⟩, some ⟨40, [.v (.bool b.IsText), .v (.int .i64 b.N), .v (.string ⟨⟨b.S⟩⟩)]⟩]) (by kernel_rfl) fun ρ w a hX => ?_
  refine Cx.cond hX (b := (a_.IsText && (!b.IsText))) (by kernel_rfl) (fun hb => ?_) (fun hb => ?_)
  · have h0 := ite_tt h0 hb
    refine Cx.rseq hX [] [4] (l' := [(4, .v (.int .i64 1))]) (B' := [some ⟨40, [.v (.bool a_.IsText), .v (.int .i64 a_.N), .v (.string ⟨⟨a_.S⟩⟩)]⟩, some ⟨40, [.v (.bool b.IsText), .v (.int .i64 b.N), .v (.string ⟨⟨b.S⟩⟩)]⟩]) (by kernel_rfl) fun ρ w a hX => ?_
    refine wp_ret ?_
    have hr := Option.some.inj (show some _ = some _ from h0)
    subst hr
    exact hX.ret0 (ss := [.v (.int .i64 1)]) (by kernel_rfl) (by kernel_rfl) rfl
  · have h0 := ite_ff h0 hb
    refine Cx.rseq hX [] [2, 3, 13] (l' := [(2, .ptr 0 0), (3, .ptr 1 0), (13, .v (.bool (b.IsText && (!a_.IsText))))]) (B' := [some ⟨40, [.v (.bool a_.IsText), .v (.int .i64 a_.N), .v (.string ⟨⟨a_.S⟩⟩)]⟩, some ⟨40, [.v (.bool b.IsText), .v (.int .i64 b.N), .v (.string ⟨⟨b.S⟩⟩)]⟩]) (by kernel_rfl) fun ρ w a hX => ?_
    refine Cx.cond hX (b := (b.IsText && (!a_.IsText))) (by kernel_rfl) (fun hb => ?_) (fun hb => ?_)
    · have h0 := ite_tt h0 hb
      refine Cx.rseq hX [] [4] (l' := [(4, .v (.int .i64 (-1)))]) (B' := [some ⟨40, [.v (.bool a_.IsText), .v (.int .i64 a_.N), .v (.string ⟨⟨a_.S⟩⟩)]⟩, some ⟨40, [.v (.bool b.IsText), .v (.int .i64 b.N), .v (.string ⟨⟨b.S⟩⟩)]⟩]) (by kernel_rfl) fun ρ w a hX => ?_
      refine wp_ret ?_
      have hr := Option.some.inj (show some _ = some _ from h0)
      subst hr
      exact hX.ret0 (ss := [.v (.int .i64 (-1))]) (by kernel_rfl) (by kernel_rfl) rfl
    · have h0 := ite_ff h0 hb
      refine Cx.rseq hX [] [2, 3, 21] (l' := [(2, .ptr 0 0), (3, .ptr 1 0), (21, .v (.bool ((a_.IsText && (Op.bytesLess a_.S b.S)) || ((!a_.IsText) && (decide (a_.N < b.N))))))]) (B' := [some ⟨40, [.v (.bool a_.IsText), .v (.int .i64 a_.N), .v (.string ⟨⟨a_.S⟩⟩)]⟩, some ⟨40, [.v (.bool b.IsText), .v (.int .i64 b.N), .v (.string ⟨⟨b.S⟩⟩)]⟩]) (by kernel_rfl) fun ρ w a hX => ?_
      refine Cx.cond hX (b := ((a_.IsText && (Op.bytesLess a_.S b.S)) || ((!a_.IsText) && (decide (a_.N < b.N))))) (by kernel_rfl) (fun hb => ?_) (fun hb => ?_)
      · have h0 := ite_tt h0 hb
        refine Cx.rseq hX [] [4] (l' := [(4, .v (.int .i64 (-1)))]) (B' := [some ⟨40, [.v (.bool a_.IsText), .v (.int .i64 a_.N), .v (.string ⟨⟨a_.S⟩⟩)]⟩, some ⟨40, [.v (.bool b.IsText), .v (.int .i64 b.N), .v (.string ⟨⟨b.S⟩⟩)]⟩]) (by kernel_rfl) fun ρ w a hX => ?_
        refine wp_ret ?_
        have hr := Option.some.inj (show some _ = some _ from h0)
        subst hr
        exact hX.ret0 (ss := [.v (.int .i64 (-1))]) (by kernel_rfl) (by kernel_rfl) rfl
      · have h0 := ite_ff h0 hb
        refine Cx.rseq hX [] [43] (l' := [(43, .v (.bool ((a_.IsText && (!((Op.bytesLess a_.S b.S) || (a_.S == b.S)))) || ((!a_.IsText) && (decide (a_.N > b.N))))))]) (B' := [some ⟨40, [.v (.bool a_.IsText), .v (.int .i64 a_.N), .v (.string ⟨⟨a_.S⟩⟩)]⟩, some ⟨40, [.v (.bool b.IsText), .v (.int .i64 b.N), .v (.string ⟨⟨b.S⟩⟩)]⟩]) (by kernel_rfl) fun ρ w a hX => ?_
        refine Cx.cond hX (b := ((a_.IsText && (!((Op.bytesLess a_.S b.S) || (a_.S == b.S)))) || ((!a_.IsText) && (decide (a_.N > b.N))))) (by kernel_rfl) (fun hb => ?_) (fun hb => ?_)
        · have h0 := ite_tt h0 hb
          refine Cx.rseq hX [] [4] (l' := [(4, .v (.int .i64 1))]) (B' := [some ⟨40, [.v (.bool a_.IsText), .v (.int .i64 a_.N), .v (.string ⟨⟨a_.S⟩⟩)]⟩, some ⟨40, [.v (.bool b.IsText), .v (.int .i64 b.N), .v (.string ⟨⟨b.S⟩⟩)]⟩]) (by kernel_rfl) fun ρ w a hX => ?_
          refine wp_ret ?_
          have hr := Option.some.inj (show some _ = some _ from h0)
          subst hr
          exact hX.ret0 (ss := [.v (.int .i64 1)]) (by kernel_rfl) (by kernel_rfl) rfl
        · have h0 := ite_ff h0 hb
          refine wp_skip ?_
          refine hK2 _ _ ?_
          refine Cx.rseq hX [] [4] (l' := [(4, .v (.int .i64 0))]) (B' := [some ⟨40, [.v (.bool a_.IsText), .v (.int .i64 a_.N), .v (.string ⟨⟨a_.S⟩⟩)]⟩, some ⟨40, [.v (.bool b.IsText), .v (.int .i64 b.N), .v (.string ⟨⟨b.S⟩⟩)]⟩]) (by kernel_rfl) fun ρ w a hX => ?_
          refine wp_ret ?_
          have hr := Option.some.inj (show some _ = some _ from h0)
          subst hr
          exact hX.ret0 (ss := [.v (.int .i64 0)]) (by kernel_rfl) (by kernel_rfl) rfl
def ref05_Compare.l1 (a_ : List T_api_Part) (b : List T_api_Part) (x10 : Int) : Option ((Int) ⊕ ((Unit) ⊕ (Int))) :=
  if ((decide (x10 < ((a_.length : Nat) : Int))) && (decide (x10 < ((b.length : Nat) : Int)))) = true then
    Option.bind (getI a_ x10) fun v11 =>
    Option.bind (getI b x10) fun v15 =>
    Option.bind (ref05_compare v11 v15) fun v19 =>
    if (v19 != 0) = true then
      some (.inr (.inr v19))
    else
      some (.inl (IntKind.wrap .i64 (x10 + 1)))
  else
    some (.inr (.inl ()))
def ref05_Compare (a_ : List T_api_Part) (b : List T_api_Part) : Option (Int) :=
  Option.bind (loopM (ref05_Compare.l1 a_ b) 0) fun e => match e with
  | (.inl ()) =>
    if (decide (((a_.length : Nat) : Int) < ((b.length : Nat) : Int))) = true then
      some (-1)
    else
      if (decide (((a_.length : Nat) : Int) > ((b.length : Nat) : Int))) = true then
        some 1
      else
        some 0
  | (.inr r21) =>
    some r21
theorem ref05_Compare.ok (a_ : List T_api_Part) (b : List T_api_Part) (y_a_ : (Option Addr × Nat)) (y_b : (Option Addr × Nat)) (r : Int) (h0 : ref05_Compare a_ b = some r) (w0 : World) (F0 : Heap) (hv : F0.Sub w0) (hG : Glob F0) (hg : SV.goods F0 [SV.sl kT_api_Part a_ y_a_.1 y_a_.2, SV.sl kT_api_Part b y_b.1 y_b.2]) (ρ : Nat → Nat) :
    Calls Tryd.prog 15 (SV.dens ρ [SV.sl kT_api_Part a_ y_a_.1 y_a_.2, SV.sl kT_api_Part b y_b.1 y_b.2]).toArray w0 (Ret0 w0 F0 fun s => s = .v (.int .i64 r)) := by
  refine calls_of_wp Tryd.func15 rfl ?_
  have hX := Cx.enter (D := No) (B := []) (L := []) (ρ := ρ) (N := 43) Tryd.ntmps15 [SV.sl kT_api_Part a_ y_a_.1 y_a_.2, SV.sl kT_api_Part b y_b.1 y_b.2] (St.start hv) rfl hg (by kernel_rfl) (fun _ h => by cases h) (Nat.le_of_ble_eq_true rfl)
  unfold ref05_Compare at h0
  refine Cx.rseq hX [] [0, 1] (l' := [(0, SV.sl kT_api_Part a_ y_a_.1 y_a_.2), (1, SV.sl kT_api_Part b y_b.1 y_b.2)]) (B' := []) (by kernel_rfl) fun ρ w a hX => ?_
  refine wp_seq_k fun K2 hK2 => ?_
  refine Cx.rseq hX [] [0, 1, 5] (l' := [(0, SV.sl kT_api_Part a_ y_a_.1 y_a_.2), (1, SV.sl kT_api_Part b y_b.1 y_b.2), (5, .v (.int .i64 0))]) (B' := []) (by kernel_rfl) fun ρ w a hX => ?_
  refine wp_block ?_
  have hX := hX.keeps [0, 1, 5] (l' := [(0, SV.sl kT_api_Part a_ y_a_.1 y_a_.2), (1, SV.sl kT_api_Part b y_b.1 y_b.2), (5, .v (.int .i64 0))]) (by kernel_rfl)
  obtain ⟨e1, he1, h0⟩ := bnd_some h0
  have E1x0 : ∀ (_ : Unit), e1 = (.inl ()) → ∀ (ρ : Nat → Nat) (w : World) (F : Heap) (a : Act), Cx 43 w0 F0 No w F [] [] ρ [(0, SV.sl kT_api_Part a_ y_a_.1 y_a_.2), (1, SV.sl kT_api_Part b y_b.1 y_b.2)] a → K2 a w := by
    intro _ he  ρ w F a hX
    replace he := he.symm
    subst he
    (try dsimp only at h0)
    refine hK2 _ _ ?_
    refine wp_seq_k fun K16 hK16 => ?_
    refine wp_block ?_
    refine Cx.rseq hX [] [0, 1, 31] (l' := [(0, SV.sl kT_api_Part a_ y_a_.1 y_a_.2), (1, SV.sl kT_api_Part b y_b.1 y_b.2), (31, .v (.bool (decide (((a_.length : Nat) : Int) < ((b.length : Nat) : Int)))))]) (B' := []) (by kernel_rfl) fun ρ w a hX => ?_
    refine Cx.cond hX (b := (decide (((a_.length : Nat) : Int) < ((b.length : Nat) : Int)))) (by kernel_rfl) (fun hb => ?_) (fun hb => ?_)
    · have h0 := ite_tt h0 hb
      refine Cx.rseq hX [] [4] (l' := [(4, .v (.int .i64 (-1)))]) (B' := []) (by kernel_rfl) fun ρ w a hX => ?_
      refine wp_ret ?_
      have hr := Option.some.inj (show some _ = some _ from h0)
      subst hr
      exact hX.ret0 (ss := [.v (.int .i64 (-1))]) (by kernel_rfl) (by kernel_rfl) rfl
    · have h0 := ite_ff h0 hb
      refine Cx.rseq hX [] [37] (l' := [(37, .v (.bool (decide (((a_.length : Nat) : Int) > ((b.length : Nat) : Int)))))]) (B' := []) (by kernel_rfl) fun ρ w a hX => ?_
      refine Cx.cond hX (b := (decide (((a_.length : Nat) : Int) > ((b.length : Nat) : Int)))) (by kernel_rfl) (fun hb => ?_) (fun hb => ?_)
      · have h0 := ite_tt h0 hb
        refine Cx.rseq hX [] [4] (l' := [(4, .v (.int .i64 1))]) (B' := []) (by kernel_rfl) fun ρ w a hX => ?_
        refine wp_ret ?_
        have hr := Option.some.inj (show some _ = some _ from h0)
        subst hr
        exact hX.ret0 (ss := [.v (.int .i64 1)]) (by kernel_rfl) (by kernel_rfl) rfl
      · have h0 := ite_ff h0 hb
        refine wp_skip ?_
        refine hK16 _ _ ?_
        refine Cx.rseq hX [] [4] (l' := [(4, .v (.int .i64 0))]) (B' := []) (by kernel_rfl) fun ρ w a hX => ?_
        refine wp_ret ?_
        have hr := Option.some.inj (show some _ = some _ from h0)
        subst hr
        exact hX.ret0 (ss := [.v (.int .i64 0)]) (by kernel_rfl) (by kernel_rfl) rfl
  refine loop_go (fun (x10 : Int) a w => ∃ (ρ : Nat → Nat) (F : Heap), Cx 43 w0 F0 No w F [] [] ρ [(0, SV.sl kT_api_Part a_ y_a_.1 y_a_.2), (1, SV.sl kT_api_Part b y_b.1 y_b.2), (5, .v (.int .i64 x10))] a) he1 (fun LW1 x10 o1 h1 hb1 hx1 a w hI => ?_) _ _ ?_
  · obtain ⟨ρ, F, hX⟩ := hI
    unfold ref05_Compare.l1 at h1
    (try dsimp only at h1)
    refine wp_seq_k fun K10 hK10 => ?_
    refine Cx.rseq hX [] [0, 1, 5, 16] (l' := [(0, SV.sl kT_api_Part a_ y_a_.1 y_a_.2), (1, SV.sl kT_api_Part b y_b.1 y_b.2), (5, .v (.int .i64 x10)), (16, .v (.bool ((decide (x10 < ((a_.length : Nat) : Int))) && (decide (x10 < ((b.length : Nat) : Int))))))]) (B' := []) (by kernel_rfl) fun ρ w a hX => ?_
    refine Cx.cond hX (b := ((decide (x10 < ((a_.length : Nat) : Int))) && (decide (x10 < ((b.length : Nat) : Int))))) (by kernel_rfl) (fun hb => ?_) (fun hb => ?_)
    · have h1 := ite_tt h1 hb
      refine wp_skip ?_
      refine hK10 _ _ ?_
      refine wp_seq_k fun K12 hK12 => ?_
      refine wp_block ?_
      refine wp_seq_k fun K13 hK13 => ?_
      have hGd := hG.mono hX.st.le
      refine hX.draw rfl (n := 10) rfl #[false, false, false, false, false, false, false, false, false, false] (by kernel_rfl) fun w D' back hX => ?_
      refine hX.dq 0 rfl rfl (listed' := #[true, false, false, false, false, false, false, false, false, false]) (by kernel_rfl) (by kernel_rfl) (s := SV.sl kT_api_Part a_ y_a_.1 y_a_.2) (by kernel_rfl) fun a hX => ?_
      refine hX.dq 1 rfl rfl (listed' := #[true, true, false, false, false, false, false, false, false, false]) (by kernel_rfl) (by kernel_rfl) (s := .v (.int .i64 x10)) (by kernel_rfl) fun a hX => ?_
      obtain ⟨v11, hv11, h1⟩ := bnd_some h1
      refine hX.dIdxSl 2 rfl rfl (listed' := #[true, true, true, false, false, false, false, false, false, false]) (by kernel_rfl) (by kernel_rfl) rfl (d := kT_api_Part) (e := 40) (xs := a_) (A := y_a_.1) (c := y_a_.2) (k := .i64) (m := x10) (v := v11) (by kernel_rfl) (by kernel_rfl) (by kernel_rfl) (by kernel_rfl) hv11 fun y12 b13 o14 a hX => ?_
      refine hX.dq 3 rfl rfl (listed' := #[true, true, true, true, false, false, false, false, false, false]) (by kernel_rfl) (by kernel_rfl) (s := .agg [.v (.bool v11.IsText), .v (.int .i64 v11.N), .v (.string ⟨⟨v11.S⟩⟩)]) (by kernel_rfl) fun a hX => ?_
      refine hX.dq 4 rfl rfl (listed' := #[true, true, true, true, true, false, false, false, false, false]) (by kernel_rfl) (by kernel_rfl) (s := SV.sl kT_api_Part b y_b.1 y_b.2) (by kernel_rfl) fun a hX => ?_
      refine hX.dq 5 rfl rfl (listed' := #[true, true, true, true, true, true, false, false, false, false]) (by kernel_rfl) (by kernel_rfl) (s := .v (.int .i64 x10)) (by kernel_rfl) fun a hX => ?_
      obtain ⟨v15, hv15, h1⟩ := bnd_some h1
      refine hX.dIdxSl 6 rfl rfl (listed' := #[true, true, true, true, true, true, true, false, false, false]) (by kernel_rfl) (by kernel_rfl) rfl (d := kT_api_Part) (e := 40) (xs := b) (A := y_b.1) (c := y_b.2) (k := .i64) (m := x10) (v := v15) (by kernel_rfl) (by kernel_rfl) (by kernel_rfl) (by kernel_rfl) hv15 fun y16 b17 o18 a hX => ?_
      refine hX.dq 7 rfl rfl (listed' := #[true, true, true, true, true, true, true, true, false, false]) (by kernel_rfl) (by kernel_rfl) (s := .agg [.v (.bool v15.IsText), .v (.int .i64 v15.N), .v (.string ⟨⟨v15.S⟩⟩)]) (by kernel_rfl) fun a hX => ?_
      refine dseq (listed' := #[true, true, true, true, true, true, true, true, true, false]) 8 (by kernel_rfl) rfl (by kernel_rfl) ?_
      obtain ⟨v19, hv19, h1⟩ := bnd_some h1
      refine Cx.call0 hX (lit := []) (by kernel_rfl) rfl (by kernel_rfl) ⟨⟨_, Tryd.func32, by kernel_rfl, rfl⟩⟩ (ss := [.agg [.v (.bool v11.IsText), .v (.int .i64 v11.N), .v (.string ⟨⟨v11.S⟩⟩)], .agg [.v (.bool v15.IsText), .v (.int .i64 v15.N), .v (.string ⟨⟨v15.S⟩⟩)]]) (by kernel_rfl) [.agg [.v (.bool v11.IsText), .v (.int .i64 v11.N), .v (.string ⟨⟨v11.S⟩⟩)], .agg [.v (.bool v15.IsText), .v (.int .i64 v15.N), .v (.string ⟨⟨v15.S⟩⟩)]] rfl (fun hg => hg) (fun hv hle hg => ref05_compare.ok v11 v15 v19 hv19 _ _ hv (hGd.mono hle) hg _) (fun s F w a hp hX => ?_)
      subst hp
      refine dnext hX.st.sub0 ?_
      refine dseq (listed' := #[true, true, true, true, true, true, true, true, true, true]) 9 (by kernel_rfl) rfl (by kernel_rfl) ?_
      refine hX.part [] 1 [0, 1, 5, 6, 16, 19, 20, 21, 22, 23, 24, 25, 26, 27] (l' := [(0, SV.sl kT_api_Part a_ y_a_.1 y_a_.2), (1, SV.sl kT_api_Part b y_b.1 y_b.2), (5, .v (.int .i64 x10)), (6, .v (.int .i64 v19)), (16, .v (.bool ((decide (x10 < ((a_.length : Nat) : Int))) && (decide (x10 < ((b.length : Nat) : Int)))))), (19, SV.sl kT_api_Part a_ y_a_.1 y_a_.2), (20, .v (.int .i64 x10)), (21, .el b13 o14 [.v (.bool v11.IsText), .v (.int .i64 v11.N), .v (.string ⟨⟨v11.S⟩⟩)]), (22, .agg [.v (.bool v11.IsText), .v (.int .i64 v11.N), .v (.string ⟨⟨v11.S⟩⟩)]), (23, SV.sl kT_api_Part b y_b.1 y_b.2), (24, .v (.int .i64 x10)), (25, .el b17 o18 [.v (.bool v15.IsText), .v (.int .i64 v15.N), .v (.string ⟨⟨v15.S⟩⟩)]), (26, .agg [.v (.bool v15.IsText), .v (.int .i64 v15.N), .v (.string ⟨⟨v15.S⟩⟩)]), (27, .v (.int .i64 v19))]) (B' := []) (by kernel_rfl) fun ρ w a hX => ?_
      refine dnext hX.st.sub0 ?_
      have hX := back hX
      refine ddone (by kernel_rfl) ?_
      refine hK13 _ _ ?_
      refine Cx.rseq hX [] [0, 1, 5, 6, 29] (l' := [(0, SV.sl kT_api_Part a_ y_a_.1 y_a_.2), (1, SV.sl kT_api_Part b y_b.1 y_b.2), (5, .v (.int .i64 x10)), (6, .v (.int .i64 v19)), (29, .v (.bool (v19 != 0)))]) (B' := []) (by kernel_rfl) fun ρ w a hX => ?_
      refine Cx.cond hX (b := (v19 != 0)) (by kernel_rfl) (fun hb => ?_) (fun hb => ?_)
      · have h1 := ite_tt h1 hb
        refine Cx.rseq hX [] [4] (l' := [(4, .v (.int .i64 v19))]) (B' := []) (by kernel_rfl) fun ρ w a hX => ?_
        refine wp_ret ?_
        have he := hx1 _ (out_eq h1)
        subst he
        (try dsimp only at h0)
        have hr := Option.some.inj (show some _ = some _ from h0)
        subst hr
        exact hX.ret0 (ss := [.v (.int .i64 v19)]) (by kernel_rfl) (by kernel_rfl) rfl
      · have h1 := ite_ff h1 hb
        refine wp_skip ?_
        refine hK12 _ _ ?_
        refine Cx.region hX [] [0, 1, 5] (l' := [(0, SV.sl kT_api_Part a_ y_a_.1 y_a_.2), (1, SV.sl kT_api_Part b y_b.1 y_b.2), (5, .v (.int .i64 (IntKind.wrap .i64 (x10 + 1))))]) (B' := []) (by kernel_rfl) fun ρ w a hX => ?_
        have hX := hX.keeps [0, 1, 5] (l' := [(0, SV.sl kT_api_Part a_ y_a_.1 y_a_.2), (1, SV.sl kT_api_Part b y_b.1 y_b.2), (5, .v (.int .i64 (IntKind.wrap .i64 (x10 + 1))))]) (by kernel_rfl)
        exact hb1 (IntKind.wrap .i64 (x10 + 1)) (out_eq h1) _ _ ⟨_, _, hX⟩
    · have h1 := ite_ff h1 hb
      refine wp_exit ?_
      have hX := hX.keeps [0, 1] (l' := [(0, SV.sl kT_api_Part a_ y_a_.1 y_a_.2), (1, SV.sl kT_api_Part b y_b.1 y_b.2)]) (by kernel_rfl)
      exact E1x0 () (hx1 _ (out_eq h1)).symm  _ _ _ _ hX
  · exact ⟨_, _, hX⟩
def law05_OrderCompares.j1 (x4 : Bool) : Option (Bool) :=
  some x4
def law05_OrderCompares (a_ : List T_api_Part) (b : List T_api_Part) : Option (Bool) :=
  Option.bind (law05_live) fun v1 =>
  if v1 = true then
    Option.bind (order_Compare a_ b) fun v2 =>
    Option.bind (ref05_Compare a_ b) fun v3 =>
    law05_OrderCompares.j1 (v2 == v3)
  else
    law05_OrderCompares.j1 false
theorem law05_OrderCompares.ok (a_ : List T_api_Part) (b : List T_api_Part) (y_a_ : (Option Addr × Nat)) (y_b : (Option Addr × Nat)) (r : Bool) (h0 : law05_OrderCompares a_ b = some r) (w0 : World) (F0 : Heap) (hv : F0.Sub w0) (hG : Glob F0) (hg : SV.goods F0 [SV.sl kT_api_Part a_ y_a_.1 y_a_.2, SV.sl kT_api_Part b y_b.1 y_b.2]) (ρ : Nat → Nat) :
    Calls Tryd.prog 4 (SV.dens ρ [SV.sl kT_api_Part a_ y_a_.1 y_a_.2, SV.sl kT_api_Part b y_b.1 y_b.2]).toArray w0 (Ret0 w0 F0 fun s => s = .v (.bool r)) := by
  refine calls_of_wp Tryd.func4 rfl ?_
  have hX := Cx.enter (D := No) (B := []) (L := []) (ρ := ρ) (N := 15) Tryd.ntmps4 [SV.sl kT_api_Part a_ y_a_.1 y_a_.2, SV.sl kT_api_Part b y_b.1 y_b.2] (St.start hv) rfl hg (by kernel_rfl) (fun _ h => by cases h) (Nat.le_of_ble_eq_true rfl)
  unfold law05_OrderCompares at h0
  refine Cx.rseq hX [] [0, 1] (l' := [(0, SV.sl kT_api_Part a_ y_a_.1 y_a_.2), (1, SV.sl kT_api_Part b y_b.1 y_b.2)]) (B' := []) (by kernel_rfl) fun ρ w a hX => ?_
  refine wp_seq_k fun K2 hK2 => ?_
  have J2 : ∀ (x4 : Bool), law05_OrderCompares.j1 x4 = some r → ∀ (ρ : Nat → Nat) (w : World) (F : Heap) (a : Act), Cx 15 w0 F0 No w F [] [] ρ [(4, .v (.bool x4))] a → K2 a w := by
    intro x4 h0  ρ w F a hX
    unfold law05_OrderCompares.j1 at h0
    refine hK2 _ _ ?_
    refine wp_ret ?_
    have hr := Option.some.inj (show some _ = some _ from h0)
    subst hr
    exact hX.ret0 (ss := [.v (.bool x4)]) (by kernel_rfl) (by kernel_rfl) rfl
  refine wp_region_list ?_
  refine hX.part [] 0 [0, 1] (l' := [(0, SV.sl kT_api_Part a_ y_a_.1 y_a_.2), (1, SV.sl kT_api_Part b y_b.1 y_b.2)]) (B' := []) (by kernel_rfl) fun ρ w a hX => ?_
  obtain ⟨v1, hv1, h0⟩ := bnd_some h0
  refine Cx.call0 hX (lit := []) (by kernel_rfl) rfl (by kernel_rfl) ⟨⟨_, Tryd.func12, by kernel_rfl, rfl⟩⟩ (ss := []) (by kernel_rfl) [] rfl (fun hg => hg) (fun hv hle hg => law05_live.ok v1 hv1 _ _ hv (hG.mono hle) hg _) (fun s F w a hp hX => ?_)
  subst hp
  refine hX.part [] 1 [0, 1, 6] (l' := [(0, SV.sl kT_api_Part a_ y_a_.1 y_a_.2), (1, SV.sl kT_api_Part b y_b.1 y_b.2), (6, .v (.bool v1))]) (B' := []) (by kernel_rfl) fun ρ w a hX => ?_
  refine ite_go h0 (fun hb h0 => ?_) (fun hb h0 => ?_)
  · have hX := hX.relit 6 hb (by kernel_rfl)
    refine hX.part [1] 2 [0, 1, 6, 7, 8] (l' := [(0, SV.sl kT_api_Part a_ y_a_.1 y_a_.2), (1, SV.sl kT_api_Part b y_b.1 y_b.2), (6, .v (.bool true)), (7, SV.sl kT_api_Part a_ y_a_.1 y_a_.2), (8, SV.sl kT_api_Part b y_b.1 y_b.2)]) (B' := []) (by kernel_rfl) fun ρ w a hX => ?_
    obtain ⟨v2, hv2, h0⟩ := bnd_some h0
    refine Cx.call0 hX (lit := [1]) (by kernel_rfl) rfl (by kernel_rfl) ⟨⟨_, Tryd.func14, by kernel_rfl, rfl⟩⟩ (ss := [SV.sl kT_api_Part a_ y_a_.1 y_a_.2, SV.sl kT_api_Part b y_b.1 y_b.2]) (by kernel_rfl) [SV.sl kT_api_Part a_ y_a_.1 y_a_.2, SV.sl kT_api_Part b y_b.1 y_b.2] rfl (fun hg => hg) (fun hv hle hg => order_Compare.ok a_ b (y_a_.1, y_a_.2) (y_b.1, y_b.2) v2 hv2 _ _ hv (hG.mono hle) hg _) (fun s F w a hp hX => ?_)
    subst hp
    refine hX.part [1] 2 [6, 9, 10, 11] (l' := [(6, .v (.bool true)), (9, .v (.int .i64 v2)), (10, SV.sl kT_api_Part a_ y_a_.1 y_a_.2), (11, SV.sl kT_api_Part b y_b.1 y_b.2)]) (B' := []) (by kernel_rfl) fun ρ w a hX => ?_
    obtain ⟨v3, hv3, h0⟩ := bnd_some h0
    refine Cx.call0 hX (lit := [1]) (by kernel_rfl) rfl (by kernel_rfl) ⟨⟨_, Tryd.func15, by kernel_rfl, rfl⟩⟩ (ss := [SV.sl kT_api_Part a_ y_a_.1 y_a_.2, SV.sl kT_api_Part b y_b.1 y_b.2]) (by kernel_rfl) [SV.sl kT_api_Part a_ y_a_.1 y_a_.2, SV.sl kT_api_Part b y_b.1 y_b.2] rfl (fun hg => hg) (fun hv hle hg => ref05_Compare.ok a_ b (y_a_.1, y_a_.2) (y_b.1, y_b.2) v3 hv3 _ _ hv (hG.mono hle) hg _) (fun s F w a hp hX => ?_)
    subst hp
    refine hX.part [1] 3 [4] (l' := [(4, .v (.bool (v2 == v3)))]) (B' := []) (by kernel_rfl) fun ρ w a hX => ?_
    refine wpList_end ?_
    have hX := hX.keeps [4] (l' := [(4, .v (.bool (v2 == v3)))]) (by kernel_rfl)
    exact J2 (v2 == v3) h0  _ _ _ _ hX
  · have hX := hX.relit 6 hb (by kernel_rfl)
    refine hX.part [1] 9 [4] (l' := [(4, .v (.bool false))]) (B' := []) (by kernel_rfl) fun ρ w a hX => ?_
    refine wpList_end ?_
    have hX := hX.keeps [4] (l' := [(4, .v (.bool false))]) (by kernel_rfl)
    exact J2 false h0  _ _ _ _ hX
def law05_side (a_ : Str) (b : Str) : Option (Int) :=
  if (Op.bytesLess a_ b) = true then
    some (-1)
  else
    if (!((Op.bytesLess a_ b) || (a_ == b))) = true then
      some 1
    else
      some 0
theorem law05_side.ok (a_ : Str) (b : Str) (r : Int) (h0 : law05_side a_ b = some r) (w0 : World) (F0 : Heap) (hv : F0.Sub w0) (hG : Glob F0) (hg : SV.goods F0 [.v (.string ⟨⟨a_⟩⟩), .v (.string ⟨⟨b⟩⟩)]) (ρ : Nat → Nat) :
    Calls Tryd.prog 17 (SV.dens ρ [.v (.string ⟨⟨a_⟩⟩), .v (.string ⟨⟨b⟩⟩)]).toArray w0 (Ret0 w0 F0 fun s => s = .v (.int .i64 r)) := by
  refine calls_of_wp Tryd.func17 rfl ?_
  have hX := Cx.enter (D := No) (B := []) (L := []) (ρ := ρ) (N := 13) Tryd.ntmps17 [.v (.string ⟨⟨a_⟩⟩), .v (.string ⟨⟨b⟩⟩)] (St.start hv) rfl hg (by kernel_rfl) (fun _ h => by cases h) (Nat.le_of_ble_eq_true rfl)
  unfold law05_side at h0
  refine Cx.rseq hX [] [0, 1] (l' := [(0, .v (.string ⟨⟨a_⟩⟩)), (1, .v (.string ⟨⟨b⟩⟩))]) (B' := []) (by kernel_rfl) fun ρ w a hX => ?_
  refine wp_seq_k fun K2 hK2 => ?_
  refine wp_block ?_
  refine Cx.rseq hX [] [0, 1, 5] (l' := [(0, .v (.string ⟨⟨a_⟩⟩)), (1, .v (.string ⟨⟨b⟩⟩)), (5, .v (.bool (Op.bytesLess a_ b)))]) (B' := []) (by kernel_rfl) fun ρ w a hX => ?_
  refine Cx.cond hX (b := (Op.bytesLess a_ b)) (by kernel_rfl) (fun hb => ?_) (fun hb => ?_)
  · have h0 := ite_tt h0 hb
    refine Cx.rseq hX [] [4] (l' := [(4, .v (.int .i64 (-1)))]) (B' := []) (by kernel_rfl) fun ρ w a hX => ?_
    refine wp_ret ?_
    have hr := Option.some.inj (show some _ = some _ from h0)
    subst hr
    exact hX.ret0 (ss := [.v (.int .i64 (-1))]) (by kernel_rfl) (by kernel_rfl) rfl
  · have h0 := ite_ff h0 hb
    refine Cx.rseq hX [] [9] (l' := [(9, .v (.bool (!((Op.bytesLess a_ b) || (a_ == b)))))]) (B' := []) (by kernel_rfl) fun ρ w a hX => ?_
    refine Cx.cond hX (b := (!((Op.bytesLess a_ b) || (a_ == b)))) (by kernel_rfl) (fun hb => ?_) (fun hb => ?_)
    · have h0 := ite_tt h0 hb
      refine Cx.rseq hX [] [4] (l' := [(4, .v (.int .i64 1))]) (B' := []) (by kernel_rfl) fun ρ w a hX => ?_
      refine wp_ret ?_
      have hr := Option.some.inj (show some _ = some _ from h0)
      subst hr
      exact hX.ret0 (ss := [.v (.int .i64 1)]) (by kernel_rfl) (by kernel_rfl) rfl
    · have h0 := ite_ff h0 hb
      refine wp_skip ?_
      refine hK2 _ _ ?_
      refine Cx.rseq hX [] [4] (l' := [(4, .v (.int .i64 0))]) (B' := []) (by kernel_rfl) fun ρ w a hX => ?_
      refine wp_ret ?_
      have hr := Option.some.inj (show some _ = some _ from h0)
      subst hr
      exact hX.ret0 (ss := [.v (.int .i64 0)]) (by kernel_rfl) (by kernel_rfl) rfl
def law05_OrderKeeps.j1 (x6 : Bool) : Option (Bool) :=
  some x6
def law05_OrderKeeps (a_ : List T_api_Part) (b : List T_api_Part) : Option (Bool) :=
  Option.bind (law05_live) fun v1 =>
  Option.bind (order_Encode a_) fun v2 =>
  Option.bind (order_Encode b) fun v3 =>
  if ((v2.2 != 0) || (v3.2 != 0)) = true then
    some v1
  else
    if v1 = true then
      Option.bind (law05_side v2.1 v3.1) fun v4 =>
      Option.bind (order_Compare a_ b) fun v5 =>
      law05_OrderKeeps.j1 (v4 == v5)
    else
      law05_OrderKeeps.j1 false
theorem law05_OrderKeeps.ok (a_ : List T_api_Part) (b : List T_api_Part) (y_a_ : (Option Addr × Nat)) (y_b : (Option Addr × Nat)) (r : Bool) (h0 : law05_OrderKeeps a_ b = some r) (w0 : World) (F0 : Heap) (hv : F0.Sub w0) (hG : Glob F0) (hg : SV.goods F0 [SV.sl kT_api_Part a_ y_a_.1 y_a_.2, SV.sl kT_api_Part b y_b.1 y_b.2]) (ρ : Nat → Nat) :
    Calls Tryd.prog 5 (SV.dens ρ [SV.sl kT_api_Part a_ y_a_.1 y_a_.2, SV.sl kT_api_Part b y_b.1 y_b.2]).toArray w0 (Ret0 w0 F0 fun s => s = .v (.bool r)) := by
  refine calls_of_wp Tryd.func5 rfl ?_
  have hX := Cx.enter (D := No) (B := []) (L := []) (ρ := ρ) (N := 38) Tryd.ntmps5 [SV.sl kT_api_Part a_ y_a_.1 y_a_.2, SV.sl kT_api_Part b y_b.1 y_b.2] (St.start hv) rfl hg (by kernel_rfl) (fun _ h => by cases h) (Nat.le_of_ble_eq_true rfl)
  unfold law05_OrderKeeps at h0
  refine Cx.rseq hX [] [0, 1] (l' := [(0, SV.sl kT_api_Part a_ y_a_.1 y_a_.2), (1, SV.sl kT_api_Part b y_b.1 y_b.2)]) (B' := []) (by kernel_rfl) fun ρ w a hX => ?_
  refine wp_seq_k fun K2 hK2 => ?_
  refine wp_region_list ?_
  refine hX.part [] 0 [0, 1] (l' := [(0, SV.sl kT_api_Part a_ y_a_.1 y_a_.2), (1, SV.sl kT_api_Part b y_b.1 y_b.2)]) (B' := []) (by kernel_rfl) fun ρ w a hX => ?_
  obtain ⟨v1, hv1, h0⟩ := bnd_some h0
  refine Cx.call0 hX (lit := []) (by kernel_rfl) rfl (by kernel_rfl) ⟨⟨_, Tryd.func12, by kernel_rfl, rfl⟩⟩ (ss := []) (by kernel_rfl) [] rfl (fun hg => hg) (fun hv hle hg => law05_live.ok v1 hv1 _ _ hv (hG.mono hle) hg _) (fun s F w a hp hX => ?_)
  subst hp
  refine hX.part [] 1 [0, 1, 5] (l' := [(0, SV.sl kT_api_Part a_ y_a_.1 y_a_.2), (1, SV.sl kT_api_Part b y_b.1 y_b.2), (5, .v (.bool v1))]) (B' := []) (by kernel_rfl) fun ρ w a hX => ?_
  refine wpList_end ?_
  refine hK2 _ _ ?_
  refine wp_seq_k fun K3 hK3 => ?_
  refine wp_region_list ?_
  refine hX.part [] 1 [0, 1, 5, 12] (l' := [(0, SV.sl kT_api_Part a_ y_a_.1 y_a_.2), (1, SV.sl kT_api_Part b y_b.1 y_b.2), (5, .v (.bool v1)), (12, SV.sl kT_api_Part a_ y_a_.1 y_a_.2)]) (B' := []) (by kernel_rfl) fun ρ w a hX => ?_
  obtain ⟨v2, hv2, h0⟩ := bnd_some h0
  refine Cx.call0 hX (lit := []) (by kernel_rfl) rfl (by kernel_rfl) ⟨⟨_, Tryd.func16, by kernel_rfl, rfl⟩⟩ (ss := [SV.sl kT_api_Part a_ y_a_.1 y_a_.2]) (by kernel_rfl) [SV.sl kT_api_Part a_ y_a_.1 y_a_.2] rfl (fun hg => hg) (fun hv hle hg => order_Encode.ok a_ (y_a_.1, y_a_.2) v2 hv2 _ _ hv (hG.mono hle) hg _) (fun s F w a hp hX => ?_)
  obtain ⟨_, _, rfl, rfl, rfl⟩ := hp
  refine hX.part [] 5 [0, 1, 5, 6, 7] (l' := [(0, SV.sl kT_api_Part a_ y_a_.1 y_a_.2), (1, SV.sl kT_api_Part b y_b.1 y_b.2), (5, .v (.bool v1)), (6, .v (.string ⟨⟨v2.1⟩⟩)), (7, .v (.int .i64 v2.2))]) (B' := []) (by kernel_rfl) fun ρ w a hX => ?_
  refine wpList_end ?_
  refine hK3 _ _ ?_
  refine wp_seq_k fun K4 hK4 => ?_
  refine wp_region_list ?_
  refine hX.part [] 1 [0, 1, 5, 6, 7, 17] (l' := [(0, SV.sl kT_api_Part a_ y_a_.1 y_a_.2), (1, SV.sl kT_api_Part b y_b.1 y_b.2), (5, .v (.bool v1)), (6, .v (.string ⟨⟨v2.1⟩⟩)), (7, .v (.int .i64 v2.2)), (17, SV.sl kT_api_Part b y_b.1 y_b.2)]) (B' := []) (by kernel_rfl) fun ρ w a hX => ?_
  obtain ⟨v3, hv3, h0⟩ := bnd_some h0
  refine Cx.call0 hX (lit := []) (by kernel_rfl) rfl (by kernel_rfl) ⟨⟨_, Tryd.func16, by kernel_rfl, rfl⟩⟩ (ss := [SV.sl kT_api_Part b y_b.1 y_b.2]) (by kernel_rfl) [SV.sl kT_api_Part b y_b.1 y_b.2] rfl (fun hg => hg) (fun hv hle hg => order_Encode.ok b (y_b.1, y_b.2) v3 hv3 _ _ hv (hG.mono hle) hg _) (fun s F w a hp hX => ?_)
  obtain ⟨_, _, rfl, rfl, rfl⟩ := hp
  refine hX.part [] 5 [0, 1, 5, 6, 7, 8, 9] (l' := [(0, SV.sl kT_api_Part a_ y_a_.1 y_a_.2), (1, SV.sl kT_api_Part b y_b.1 y_b.2), (5, .v (.bool v1)), (6, .v (.string ⟨⟨v2.1⟩⟩)), (7, .v (.int .i64 v2.2)), (8, .v (.string ⟨⟨v3.1⟩⟩)), (9, .v (.int .i64 v3.2))]) (B' := []) (by kernel_rfl) fun ρ w a hX => ?_
  refine wpList_end ?_
  refine hK4 _ _ ?_
  refine wp_seq_k fun K5 hK5 => ?_
  refine Cx.rseq hX [] [0, 1, 5, 6, 8, 26] (l' := [(0, SV.sl kT_api_Part a_ y_a_.1 y_a_.2), (1, SV.sl kT_api_Part b y_b.1 y_b.2), (5, .v (.bool v1)), (6, .v (.string ⟨⟨v2.1⟩⟩)), (8, .v (.string ⟨⟨v3.1⟩⟩)), (26, .v (.bool ((v2.2 != 0) || (v3.2 != 0))))]) (B' := []) (by kernel_rfl) fun ρ w a hX => ?_
  refine Cx.cond hX (b := ((v2.2 != 0) || (v3.2 != 0))) (by kernel_rfl) (fun hb => ?_) (fun hb => ?_)
  · have h0 := ite_tt h0 hb
    refine Cx.rseq hX [] [4] (l' := [(4, .v (.bool v1))]) (B' := []) (by kernel_rfl) fun ρ w a hX => ?_
    refine wp_ret ?_
    have hr := Option.some.inj (show some _ = some _ from h0)
    subst hr
    exact hX.ret0 (ss := [.v (.bool v1)]) (by kernel_rfl) (by kernel_rfl) rfl
  · have h0 := ite_ff h0 hb
    refine wp_skip ?_
    refine hK5 _ _ ?_
    refine wp_seq_k fun K8 hK8 => ?_
    have J8 : ∀ (x6 : Bool), law05_OrderKeeps.j1 x6 = some r → ∀ (ρ : Nat → Nat) (w : World) (F : Heap) (a : Act), Cx 38 w0 F0 No w F [] [] ρ [(4, .v (.bool x6))] a → K8 a w := by
      intro x6 h0  ρ w F a hX
      unfold law05_OrderKeeps.j1 at h0
      refine hK8 _ _ ?_
      refine wp_ret ?_
      have hr := Option.some.inj (show some _ = some _ from h0)
      subst hr
      exact hX.ret0 (ss := [.v (.bool x6)]) (by kernel_rfl) (by kernel_rfl) rfl
    refine wp_region_list ?_
    refine hX.part [] 2 [0, 1, 6, 8, 29] (l' := [(0, SV.sl kT_api_Part a_ y_a_.1 y_a_.2), (1, SV.sl kT_api_Part b y_b.1 y_b.2), (6, .v (.string ⟨⟨v2.1⟩⟩)), (8, .v (.string ⟨⟨v3.1⟩⟩)), (29, .v (.bool v1))]) (B' := []) (by kernel_rfl) fun ρ w a hX => ?_
    refine ite_go h0 (fun hb h0 => ?_) (fun hb h0 => ?_)
    · have hX := hX.relit 29 hb (by kernel_rfl)
      refine hX.part [1] 2 [0, 1, 29, 30, 31] (l' := [(0, SV.sl kT_api_Part a_ y_a_.1 y_a_.2), (1, SV.sl kT_api_Part b y_b.1 y_b.2), (29, .v (.bool true)), (30, .v (.string ⟨⟨v2.1⟩⟩)), (31, .v (.string ⟨⟨v3.1⟩⟩))]) (B' := []) (by kernel_rfl) fun ρ w a hX => ?_
      obtain ⟨v4, hv4, h0⟩ := bnd_some h0
      refine Cx.call0 hX (lit := [1]) (by kernel_rfl) rfl (by kernel_rfl) ⟨⟨_, Tryd.func17, by kernel_rfl, rfl⟩⟩ (ss := [.v (.string ⟨⟨v2.1⟩⟩), .v (.string ⟨⟨v3.1⟩⟩)]) (by kernel_rfl) [.v (.string ⟨⟨v2.1⟩⟩), .v (.string ⟨⟨v3.1⟩⟩)] rfl (fun hg => hg) (fun hv hle hg => law05_side.ok v2.1 v3.1 v4 hv4 _ _ hv (hG.mono hle) hg _) (fun s F w a hp hX => ?_)
      subst hp
      refine hX.part [1] 2 [29, 32, 33, 34] (l' := [(29, .v (.bool true)), (32, .v (.int .i64 v4)), (33, SV.sl kT_api_Part a_ y_a_.1 y_a_.2), (34, SV.sl kT_api_Part b y_b.1 y_b.2)]) (B' := []) (by kernel_rfl) fun ρ w a hX => ?_
      obtain ⟨v5, hv5, h0⟩ := bnd_some h0
      refine Cx.call0 hX (lit := [1]) (by kernel_rfl) rfl (by kernel_rfl) ⟨⟨_, Tryd.func14, by kernel_rfl, rfl⟩⟩ (ss := [SV.sl kT_api_Part a_ y_a_.1 y_a_.2, SV.sl kT_api_Part b y_b.1 y_b.2]) (by kernel_rfl) [SV.sl kT_api_Part a_ y_a_.1 y_a_.2, SV.sl kT_api_Part b y_b.1 y_b.2] rfl (fun hg => hg) (fun hv hle hg => order_Compare.ok a_ b (y_a_.1, y_a_.2) (y_b.1, y_b.2) v5 hv5 _ _ hv (hG.mono hle) hg _) (fun s F w a hp hX => ?_)
      subst hp
      refine hX.part [1] 3 [4] (l' := [(4, .v (.bool (v4 == v5)))]) (B' := []) (by kernel_rfl) fun ρ w a hX => ?_
      refine wpList_end ?_
      have hX := hX.keeps [4] (l' := [(4, .v (.bool (v4 == v5)))]) (by kernel_rfl)
      exact J8 (v4 == v5) h0  _ _ _ _ hX
    · have hX := hX.relit 29 hb (by kernel_rfl)
      refine hX.part [1] 9 [4] (l' := [(4, .v (.bool false))]) (B' := []) (by kernel_rfl) fun ρ w a hX => ?_
      refine wpList_end ?_
      have hX := hX.keeps [4] (l' := [(4, .v (.bool false))]) (by kernel_rfl)
      exact J8 false h0  _ _ _ _ hX
def law05_OrderBack.j1 (s_ : Str) (v1 : Bool) (x7 : Bool) : Option (Bool) :=
  if x7 = true then
    some false
  else
    Option.bind (order_Decode s_) fun v8 =>
    Option.bind (order_Encode v8.1) fun v11 =>
    some (v1 && ((v8.2 != 0) || ((v11.2 == 0) && (v11.1 == s_))))
def law05_OrderBack (k : List T_api_Part) (s_ : Str) : Option (Bool) :=
  Option.bind (law05_live) fun v1 =>
  Option.bind (order_Encode k) fun v2 =>
  Option.bind (order_Decode v2.1) fun v3 =>
  if (v2.2 == 0) = true then
    if (v3.2 != 0) = true then
      law05_OrderBack.j1 s_ v1 true
    else
      Option.bind (ref05_Same k v3.1) fun v6 =>
      law05_OrderBack.j1 s_ v1 (!v6)
  else
    law05_OrderBack.j1 s_ v1 false
theorem law05_OrderBack.ok (k : List T_api_Part) (s_ : Str) (y_k : (Option Addr × Nat)) (r : Bool) (h0 : law05_OrderBack k s_ = some r) (w0 : World) (F0 : Heap) (hv : F0.Sub w0) (hG : Glob F0) (hg : SV.goods F0 [SV.sl kT_api_Part k y_k.1 y_k.2, .v (.string ⟨⟨s_⟩⟩)]) (ρ : Nat → Nat) :
    Calls Tryd.prog 6 (SV.dens ρ [SV.sl kT_api_Part k y_k.1 y_k.2, .v (.string ⟨⟨s_⟩⟩)]).toArray w0 (Ret0 w0 F0 fun s => s = .v (.bool r)) := by
  refine calls_of_wp Tryd.func6 rfl ?_
  have hX := Cx.enter (D := No) (B := []) (L := []) (ρ := ρ) (N := 61) Tryd.ntmps6 [SV.sl kT_api_Part k y_k.1 y_k.2, .v (.string ⟨⟨s_⟩⟩)] (St.start hv) rfl hg (by kernel_rfl) (fun _ h => by cases h) (Nat.le_of_ble_eq_true rfl)
  unfold law05_OrderBack at h0
  refine Cx.rseq hX [] [0, 1] (l' := [(0, SV.sl kT_api_Part k y_k.1 y_k.2), (1, .v (.string ⟨⟨s_⟩⟩))]) (B' := []) (by kernel_rfl) fun ρ w a hX => ?_
  refine wp_seq_k fun K2 hK2 => ?_
  refine wp_region_list ?_
  refine hX.part [] 0 [0, 1] (l' := [(0, SV.sl kT_api_Part k y_k.1 y_k.2), (1, .v (.string ⟨⟨s_⟩⟩))]) (B' := []) (by kernel_rfl) fun ρ w a hX => ?_
  obtain ⟨v1, hv1, h0⟩ := bnd_some h0
  refine Cx.call0 hX (lit := []) (by kernel_rfl) rfl (by kernel_rfl) ⟨⟨_, Tryd.func12, by kernel_rfl, rfl⟩⟩ (ss := []) (by kernel_rfl) [] rfl (fun hg => hg) (fun hv hle hg => law05_live.ok v1 hv1 _ _ hv (hG.mono hle) hg _) (fun s F w a hp hX => ?_)
  subst hp
  refine hX.part [] 1 [0, 1, 5] (l' := [(0, SV.sl kT_api_Part k y_k.1 y_k.2), (1, .v (.string ⟨⟨s_⟩⟩)), (5, .v (.bool v1))]) (B' := []) (by kernel_rfl) fun ρ w a hX => ?_
  refine wpList_end ?_
  refine hK2 _ _ ?_
  refine wp_seq_k fun K3 hK3 => ?_
  refine wp_region_list ?_
  refine hX.part [] 1 [0, 1, 5, 16] (l' := [(0, SV.sl kT_api_Part k y_k.1 y_k.2), (1, .v (.string ⟨⟨s_⟩⟩)), (5, .v (.bool v1)), (16, SV.sl kT_api_Part k y_k.1 y_k.2)]) (B' := []) (by kernel_rfl) fun ρ w a hX => ?_
  obtain ⟨v2, hv2, h0⟩ := bnd_some h0
  refine Cx.call0 hX (lit := []) (by kernel_rfl) rfl (by kernel_rfl) ⟨⟨_, Tryd.func16, by kernel_rfl, rfl⟩⟩ (ss := [SV.sl kT_api_Part k y_k.1 y_k.2]) (by kernel_rfl) [SV.sl kT_api_Part k y_k.1 y_k.2] rfl (fun hg => hg) (fun hv hle hg => order_Encode.ok k (y_k.1, y_k.2) v2 hv2 _ _ hv (hG.mono hle) hg _) (fun s F w a hp hX => ?_)
  obtain ⟨_, _, rfl, rfl, rfl⟩ := hp
  refine hX.part [] 5 [0, 1, 5, 6, 7] (l' := [(0, SV.sl kT_api_Part k y_k.1 y_k.2), (1, .v (.string ⟨⟨s_⟩⟩)), (5, .v (.bool v1)), (6, .v (.string ⟨⟨v2.1⟩⟩)), (7, .v (.int .i64 v2.2))]) (B' := []) (by kernel_rfl) fun ρ w a hX => ?_
  refine wpList_end ?_
  refine hK3 _ _ ?_
  refine wp_seq_k fun K4 hK4 => ?_
  refine wp_region_list ?_
  refine hX.part [] 1 [0, 1, 5, 7, 21] (l' := [(0, SV.sl kT_api_Part k y_k.1 y_k.2), (1, .v (.string ⟨⟨s_⟩⟩)), (5, .v (.bool v1)), (7, .v (.int .i64 v2.2)), (21, .v (.string ⟨⟨v2.1⟩⟩))]) (B' := []) (by kernel_rfl) fun ρ w a hX => ?_
  obtain ⟨v3, hv3, h0⟩ := bnd_some h0
  refine Cx.call0 hX (lit := []) (by kernel_rfl) rfl (by kernel_rfl) ⟨⟨_, Tryd.func10, by kernel_rfl, rfl⟩⟩ (ss := [.v (.string ⟨⟨v2.1⟩⟩)]) (by kernel_rfl) [.v (.string ⟨⟨v2.1⟩⟩)] rfl (fun hg => hg) (fun hv hle hg => order_Decode.ok v2.1 v3 hv3 _ _ hv (hG.mono hle) hg _) (fun s F w a hp hX => ?_)
  obtain ⟨_, _, rfl, ⟨A4, c5, rfl⟩, rfl⟩ := hp
  refine hX.part [] 5 [0, 1, 5, 7, 8, 9] (l' := [(0, SV.sl kT_api_Part k y_k.1 y_k.2), (1, .v (.string ⟨⟨s_⟩⟩)), (5, .v (.bool v1)), (7, .v (.int .i64 v2.2)), (8, SV.sl kT_api_Part v3.1 A4 c5), (9, .v (.int .i64 v3.2))]) (B' := []) (by kernel_rfl) fun ρ w a hX => ?_
  refine wpList_end ?_
  refine hK4 _ _ ?_
  refine wp_seq_k fun K5 hK5 => ?_
  refine wp_seq_k fun K6 hK6 => ?_
  have J6 : ∀ (x7 : Bool), law05_OrderBack.j1 s_ v1 x7 = some r → ∀ (ρ : Nat → Nat) (w : World) (F : Heap) (a : Act), Cx 61 w0 F0 No w F [] [] ρ [(1, .v (.string ⟨⟨s_⟩⟩)), (5, .v (.bool v1)), (36, .v (.bool x7))] a → K6 a w := by
    intro x7 h0  ρ w F a hX
    unfold law05_OrderBack.j1 at h0
    refine hK6 _ _ ?_
    refine Cx.cond hX (b := x7) (by kernel_rfl) (fun hb => ?_) (fun hb => ?_)
    · have h0 := ite_tt h0 hb
      refine Cx.rseq hX [] [4] (l' := [(4, .v (.bool false))]) (B' := []) (by kernel_rfl) fun ρ w a hX => ?_
      refine wp_ret ?_
      have hr := Option.some.inj (show some _ = some _ from h0)
      subst hr
      exact hX.ret0 (ss := [.v (.bool false)]) (by kernel_rfl) (by kernel_rfl) rfl
    · have h0 := ite_ff h0 hb
      refine wp_skip ?_
      refine hK5 _ _ ?_
      refine wp_seq_k fun K8 hK8 => ?_
      refine wp_region_list ?_
      refine hX.part [] 1 [1, 5, 38] (l' := [(1, .v (.string ⟨⟨s_⟩⟩)), (5, .v (.bool v1)), (38, .v (.string ⟨⟨s_⟩⟩))]) (B' := []) (by kernel_rfl) fun ρ w a hX => ?_
      obtain ⟨v8, hv8, h0⟩ := bnd_some h0
      refine Cx.call0 hX (lit := []) (by kernel_rfl) rfl (by kernel_rfl) ⟨⟨_, Tryd.func10, by kernel_rfl, rfl⟩⟩ (ss := [.v (.string ⟨⟨s_⟩⟩)]) (by kernel_rfl) [.v (.string ⟨⟨s_⟩⟩)] rfl (fun hg => hg) (fun hv hle hg => order_Decode.ok s_ v8 hv8 _ _ hv (hG.mono hle) hg _) (fun s F w a hp hX => ?_)
      obtain ⟨_, _, rfl, ⟨A9, c10, rfl⟩, rfl⟩ := hp
      refine hX.part [] 5 [1, 5, 10, 11] (l' := [(1, .v (.string ⟨⟨s_⟩⟩)), (5, .v (.bool v1)), (10, SV.sl kT_api_Part v8.1 A9 c10), (11, .v (.int .i64 v8.2))]) (B' := []) (by kernel_rfl) fun ρ w a hX => ?_
      refine wpList_end ?_
      refine hK8 _ _ ?_
      refine wp_seq_k fun K9 hK9 => ?_
      refine wp_region_list ?_
      refine hX.part [] 1 [1, 5, 11, 43] (l' := [(1, .v (.string ⟨⟨s_⟩⟩)), (5, .v (.bool v1)), (11, .v (.int .i64 v8.2)), (43, SV.sl kT_api_Part v8.1 A9 c10)]) (B' := []) (by kernel_rfl) fun ρ w a hX => ?_
      obtain ⟨v11, hv11, h0⟩ := bnd_some h0
      refine Cx.call0 hX (lit := []) (by kernel_rfl) rfl (by kernel_rfl) ⟨⟨_, Tryd.func16, by kernel_rfl, rfl⟩⟩ (ss := [SV.sl kT_api_Part v8.1 A9 c10]) (by kernel_rfl) [SV.sl kT_api_Part v8.1 A9 c10] rfl (fun hg => hg) (fun hv hle hg => order_Encode.ok v8.1 (A9, c10) v11 hv11 _ _ hv (hG.mono hle) hg _) (fun s F w a hp hX => ?_)
      obtain ⟨_, _, rfl, rfl, rfl⟩ := hp
      refine hX.part [] 5 [1, 5, 11, 12, 13] (l' := [(1, .v (.string ⟨⟨s_⟩⟩)), (5, .v (.bool v1)), (11, .v (.int .i64 v8.2)), (12, .v (.string ⟨⟨v11.1⟩⟩)), (13, .v (.int .i64 v11.2))]) (B' := []) (by kernel_rfl) fun ρ w a hX => ?_
      refine wpList_end ?_
      refine hK9 _ _ ?_
      refine Cx.rseq hX [] [4] (l' := [(4, .v (.bool (v1 && ((v8.2 != 0) || ((v11.2 == 0) && (v11.1 == s_))))))]) (B' := []) (by kernel_rfl) fun ρ w a hX => ?_
      refine wp_ret ?_
      have hr := Option.some.inj (show some _ = some _ from h0)
      subst hr
      exact hX.ret0 (ss := [.v (.bool (v1 && ((v8.2 != 0) || ((v11.2 == 0) && (v11.1 == s_)))))]) (by kernel_rfl) (by kernel_rfl) rfl
  refine wp_region_list ?_
  refine hX.part [] 3 [0, 1, 5, 8, 9, 27] (l' := [(0, SV.sl kT_api_Part k y_k.1 y_k.2), (1, .v (.string ⟨⟨s_⟩⟩)), (5, .v (.bool v1)), (8, SV.sl kT_api_Part v3.1 A4 c5), (9, .v (.int .i64 v3.2)), (27, .v (.bool (v2.2 == 0)))]) (B' := []) (by kernel_rfl) fun ρ w a hX => ?_
  refine ite_go h0 (fun hb h0 => ?_) (fun hb h0 => ?_)
  · have hX := hX.relit 27 hb (by kernel_rfl)
    refine hX.part [2] 3 [0, 1, 5, 8, 27, 30] (l' := [(0, SV.sl kT_api_Part k y_k.1 y_k.2), (1, .v (.string ⟨⟨s_⟩⟩)), (5, .v (.bool v1)), (8, SV.sl kT_api_Part v3.1 A4 c5), (27, .v (.bool true)), (30, .v (.bool (v3.2 != 0)))]) (B' := []) (by kernel_rfl) fun ρ w a hX => ?_
    refine ite_go h0 (fun hb h0 => ?_) (fun hb h0 => ?_)
    · have hX := hX.relit 30 hb (by kernel_rfl)
      refine hX.part [2, 5] 6 [1, 5, 36] (l' := [(1, .v (.string ⟨⟨s_⟩⟩)), (5, .v (.bool v1)), (36, .v (.bool true))]) (B' := []) (by kernel_rfl) fun ρ w a hX => ?_
      refine wpList_end ?_
      have hX := hX.keeps [1, 5, 36] (l' := [(1, .v (.string ⟨⟨s_⟩⟩)), (5, .v (.bool v1)), (36, .v (.bool true))]) (by kernel_rfl)
      exact J6 true h0  _ _ _ _ hX
    · have hX := hX.relit 30 hb (by kernel_rfl)
      refine hX.part [5] 2 [1, 5, 27, 30, 31, 32] (l' := [(1, .v (.string ⟨⟨s_⟩⟩)), (5, .v (.bool v1)), (27, .v (.bool true)), (30, .v (.bool false)), (31, SV.sl kT_api_Part k y_k.1 y_k.2), (32, SV.sl kT_api_Part v3.1 A4 c5)]) (B' := []) (by kernel_rfl) fun ρ w a hX => ?_
      obtain ⟨v6, hv6, h0⟩ := bnd_some h0
      refine Cx.call0 hX (lit := [5]) (by kernel_rfl) rfl (by kernel_rfl) ⟨⟨_, Tryd.func13, by kernel_rfl, rfl⟩⟩ (ss := [SV.sl kT_api_Part k y_k.1 y_k.2, SV.sl kT_api_Part v3.1 A4 c5]) (by kernel_rfl) [SV.sl kT_api_Part k y_k.1 y_k.2, SV.sl kT_api_Part v3.1 A4 c5] rfl (fun hg => hg) (fun hv hle hg => ref05_Same.ok k v3.1 (y_k.1, y_k.2) (A4, c5) v6 hv6 _ _ hv (hG.mono hle) hg _) (fun s F w a hp hX => ?_)
      subst hp
      refine hX.part [2, 5] 3 [1, 5, 36] (l' := [(1, .v (.string ⟨⟨s_⟩⟩)), (5, .v (.bool v1)), (36, .v (.bool (!v6)))]) (B' := []) (by kernel_rfl) fun ρ w a hX => ?_
      refine wpList_end ?_
      have hX := hX.keeps [1, 5, 36] (l' := [(1, .v (.string ⟨⟨s_⟩⟩)), (5, .v (.bool v1)), (36, .v (.bool (!v6)))]) (by kernel_rfl)
      exact J6 (!v6) h0  _ _ _ _ hX
  · have hX := hX.relit 27 hb (by kernel_rfl)
    refine hX.part [2, 5] 9 [1, 5, 36] (l' := [(1, .v (.string ⟨⟨s_⟩⟩)), (5, .v (.bool v1)), (36, .v (.bool false))]) (B' := []) (by kernel_rfl) fun ρ w a hX => ?_
    refine wpList_end ?_
    have hX := hX.keeps [1, 5, 36] (l' := [(1, .v (.string ⟨⟨s_⟩⟩)), (5, .v (.bool v1)), (36, .v (.bool false))]) (by kernel_rfl)
    exact J6 false h0  _ _ _ _ hX
end
end Go.Gw
