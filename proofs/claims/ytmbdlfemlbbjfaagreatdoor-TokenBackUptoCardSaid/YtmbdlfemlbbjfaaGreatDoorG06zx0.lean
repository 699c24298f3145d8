/- Texts for the statements of this seat. -/
import Derived.Test.YtmbdlfemlbbjfaaGreatDoorGwU
import Derived.Test.YtmbdlfemlbbjfaaGreatDoorShelf06z
import Derived.Test.YtmbdlfemlbbjfaaGreatDoorNlAny06z
import Derived.Shelf.Strings.SlTrimAscii
import Derived.Test.YtmbdlfemlbbjfaaGreatDoorProg
import Derived.KernelRfl
set_option linter.unusedVariables false
set_option linter.unusedSimpArgs false
set_option linter.unnecessarySimpa false
namespace Go.Gw
open Go.Proofs Go.RowKit
set_option maxRecDepth 100000
set_option linter.unusedVariables false
set_option linter.unusedSimpArgs false
noncomputable section
structure Glob (F : Heap) : Prop where
  maxLen : ∃ m, cellF F 0 0 (.int .i64 m)
  err1 : ∃ t p, cellF F 1 0 (.iface t p)
  err2 : ∃ t p, cellF F 2 0 (.iface t p)
theorem Glob.mono {F F' : Heap} (h : Glob F) (hle : F.Le F') : Glob F' := ⟨h.maxLen.imp fun _ e => cellF_mono hle e, h.err1.imp fun _ e => e.imp fun _ e => cellF_mono hle e, h.err2.imp fun _ e => e.imp fun _ e => cellF_mono hle e⟩
structure T_api_Token where
  Kind : Int
  Text : Str
  Num : Int
  At : Int
  Fresh : Bool
def fT_api_Token (x : T_api_Token) (y : Unit) : List SV := [.v (.int .i64 x.Kind), .v (.string ⟨⟨x.Text⟩⟩), .v (.int .i64 x.Num), .v (.int .i64 x.At), .v (.bool x.Fresh)]
def kT_api_Token : Kind T_api_Token where
  sz := 5
  Y := Unit
  f := fT_api_Token
  holds F x cs := ∃ y, SV.plains (fT_api_Token x y) = some cs ∧ SV.goods F (fT_api_Token x y)
  mono h := fun ⟨y, e, g⟩ => ⟨y, e, SV.goods_mono h g⟩
  opn h := h
  shut e g := ⟨_, e, g⟩
  closed _ _ := rfl
  len _ _ := rfl
  ones _ _ := rfl
structure T_token_cutter where
  src : Str
  rest : Str
  fresh : Bool
def own_token_cutter (x : T_token_cutter) (b : Nat) : SP := ownP (Y := Unit) (fun b y => [.v (.string ⟨⟨x.src⟩⟩), .v (.string ⟨⟨x.rest⟩⟩), .v (.bool x.fresh)]) (fun y => []) 39 b
structure T_units_reader where
  s : Str
  out : Str
def own_units_reader (x : T_units_reader) (b : Nat) : SP := ownP (Y := (Bool × Option Addr × Nat)) (fun b y => [.v (.string ⟨⟨x.s⟩⟩), .v (.pointer (if y.1 = true then some ⟨b, 1, none⟩ else none)), .v (.slice y.2.1 x.out.length y.2.2)]) (fun y => [accP 5 kByte y.2.1 y.2.2 x.out]) 80 b
def own_units_reader_d (x : T_units_reader) (b : Nat) : SP := ownP (Y := (Bool × Option Addr × Nat)) (fun b y => [.v (.string ⟨⟨x.s⟩⟩), .v (.pointer (if y.1 = true then some ⟨b, 1, none⟩ else none)), .v (.slice y.2.1 x.out.length y.2.2)]) (fun y => []) 80 b
def strings_HasPrefix (t : Str) (p : Str) : Option (Bool) := some (Lib.hasPrefix t p)
theorem strings_HasPrefix.ok (t : Str) (p : Str) (r : Bool) (h0 : strings_HasPrefix t p = some r) (w0 : World) (F0 : Heap) (hv : F0.Sub w0) (hG : Glob F0) (hg : SV.goods F0 [.v (.string ⟨⟨t⟩⟩), .v (.string ⟨⟨p⟩⟩)]) (ρ : Nat → Nat) :
    Calls Tryz.prog 29 (SV.dens ρ [.v (.string ⟨⟨t⟩⟩), .v (.string ⟨⟨p⟩⟩)]).toArray w0 (Ret0 w0 F0 fun s => s = .v (.bool r)) := by
  refine (Tryz.strings_HasPrefix ⟨⟨t⟩⟩ ⟨⟨p⟩⟩ w0).mono fun e w' h => ?_
  cases h0
  exact Ret0.pure (s := .v _) hv h.1 h.2 trivial rfl rfl
def strings_IndexAny (t : Str) (cs : Str) : Option (Int) := if t.length < 4294967281 ∧ cs = [10, 13] then some (Lib.indexAny t [10, 13]) else none
theorem strings_IndexAny.ok (t : Str) (cs : Str) (r : Int) (h0 : strings_IndexAny t cs = some r) (w0 : World) (F0 : Heap) (hv : F0.Sub w0) (hG : Glob F0) (hg : SV.goods F0 [.v (.string ⟨⟨t⟩⟩), .v (.string ⟨⟨cs⟩⟩)]) (ρ : Nat → Nat) :
    Calls Tryz.prog 30 (SV.dens ρ [.v (.string ⟨⟨t⟩⟩), .v (.string ⟨⟨cs⟩⟩)]).toArray w0 (Ret0 w0 F0 fun s => s = .v (.int .i64 r)) := by
  unfold strings_IndexAny at h0
  split at h0
  · rename_i hc
    cases h0
    obtain ⟨hc, rfl⟩ := hc
    refine (strings_IndexAny_nl Tryz.lays153 (by kernel_rfl) ⟨⟨t⟩⟩ w0 hc).mono fun e w' h => ?_
    exact Ret0.below (s := .v _) hv h.1 h.2 trivial rfl rfl
  · cases h0
def strings_Index (t : Str) (sub : Str) : Option (Int) := if t.length < 4294967281 then some (Lib.index t sub) else none
theorem strings_Index.ok (t : Str) (sub : Str) (r : Int) (h0 : strings_Index t sub = some r) (w0 : World) (F0 : Heap) (hv : F0.Sub w0) (hG : Glob F0) (hg : SV.goods F0 [.v (.string ⟨⟨t⟩⟩), .v (.string ⟨⟨sub⟩⟩)]) (ρ : Nat → Nat) :
    Calls Tryz.prog 31 (SV.dens ρ [.v (.string ⟨⟨t⟩⟩), .v (.string ⟨⟨sub⟩⟩)]).toArray w0 (Ret0 w0 F0 fun s => s = .v (.int .i64 r)) := by
  unfold strings_Index at h0
  split at h0
  · rename_i hc
    cases h0
    obtain ⟨m, hm⟩ := hG.maxLen
    refine (Tryz.strings_Index ⟨⟨t⟩⟩ ⟨⟨sub⟩⟩ m w0 hc (cellF_read hv hm)).mono fun e w' h => ?_
    exact Ret0.pure (s := .v _) hv h.1 h.2 trivial rfl rfl
  · cases h0
def strings_ContainsAny (t : Str) (cs : Str) : Option (Bool) := if t.length < 4294967281 ∧ cs = [10, 13] then some (Lib.containsAny t [10, 13]) else none
theorem strings_ContainsAny.ok (t : Str) (cs : Str) (r : Bool) (h0 : strings_ContainsAny t cs = some r) (w0 : World) (F0 : Heap) (hv : F0.Sub w0) (hG : Glob F0) (hg : SV.goods F0 [.v (.string ⟨⟨t⟩⟩), .v (.string ⟨⟨cs⟩⟩)]) (ρ : Nat → Nat) :
    Calls Tryz.prog 32 (SV.dens ρ [.v (.string ⟨⟨t⟩⟩), .v (.string ⟨⟨cs⟩⟩)]).toArray w0 (Ret0 w0 F0 fun s => s = .v (.bool r)) := by
  unfold strings_ContainsAny at h0
  split at h0
  · rename_i hc
    cases h0
    obtain ⟨hc, rfl⟩ := hc
    refine (strings_ContainsAny_nl Tryz.lays150 (by kernel_rfl) ⟨⟨t⟩⟩ w0 hc).mono fun e w' h => ?_
    exact Ret0.below (s := .v _) hv h.1 h.2 trivial rfl rfl
  · cases h0
def token_cutter_blanks.j5 (x14 : Str) (x25 : Int) (x28 : Bool) : Option ((Str × Bool) ⊕ ((Str × Bool) ⊕ (Bool × T_token_cutter))) :=
  Option.bind (cutL x14 x25 ((x14.length : Nat) : Int)) fun v29 =>
  some (.inl (v29, x28))
def token_cutter_blanks.j4 (x14 : Str) (x15 : Bool) (x25 : Int) : Option ((Str × Bool) ⊕ ((Str × Bool) ⊕ (Bool × T_token_cutter))) :=
  if x15 = true then
    token_cutter_blanks.j5 x14 x25 true
  else
    Option.bind (cutL x14 0 x25) fun v26 =>
    Option.bind (strings_ContainsAny v26 ([10, 13] : Str)) fun v27 =>
    token_cutter_blanks.j5 x14 x25 v27
def token_cutter_blanks.j3 (x14 : Str) (x15 : Bool) (x24 : Bool) : Option ((Str × Bool) ⊕ ((Str × Bool) ⊕ (Bool × T_token_cutter))) :=
  if x24 = true then
    some (.inr (.inl (x14, x15)))
  else
    token_cutter_blanks.j4 x14 x15 1
def token_cutter_blanks.l1 (c : T_token_cutter) (s : Str × Bool) : Option ((Str × Bool) ⊕ ((Str × Bool) ⊕ (Bool × T_token_cutter))) := match s with
  | (x14, x15) =>
  if (!(x14 == ([] : Str))) = true then
    Option.bind (strings_HasPrefix x14 ([47, 47] : Str)) fun v16 =>
    if v16 = true then
      Option.bind (strings_IndexAny x14 ([10, 13] : Str)) fun v17 =>
      if (decide (v17 < 0)) = true then
        token_cutter_blanks.j4 x14 x15 ((x14.length : Nat) : Int)
      else
        token_cutter_blanks.j4 x14 x15 v17
    else
      Option.bind (strings_HasPrefix x14 ([47, 42] : Str)) fun v18 =>
      if v18 = true then
        Option.bind (cutL x14 2 ((x14.length : Nat) : Int)) fun v19 =>
        Option.bind (strings_Index v19 ([42, 47] : Str)) fun v20 =>
        if (decide (v20 < 0)) = true then
          some (.inr (.inr (false, ({ src := c.src, rest := x14, fresh := x15 } : T_token_cutter))))
        else
          token_cutter_blanks.j4 x14 x15 (IntKind.wrap .i64 (v20 + 4))
      else
        Option.bind (getB x14 0) fun v21 =>
        if (v21 != 32) = true then
          Option.bind (getB x14 0) fun v22 =>
          if (decide (v22 < 9)) = true then
            token_cutter_blanks.j3 x14 x15 true
          else
            Option.bind (getB x14 0) fun v23 =>
            token_cutter_blanks.j3 x14 x15 (decide (v23 > 13))
        else
          token_cutter_blanks.j3 x14 x15 false
  else
    some (.inr (.inl (x14, x15)))
def token_cutter_blanks (c : T_token_cutter) : Option (Bool × T_token_cutter) :=
  Option.bind (loopM (token_cutter_blanks.l1 c) (c.rest, false)) fun e => match e with
  | (.inl (x32, x33)) =>
    some (true, ({ src := c.src, rest := x32, fresh := x33 } : T_token_cutter))
  | (.inr r34) =>
    some r34
theorem token_cutter_blanks.ok (c : T_token_cutter) (r : Bool × T_token_cutter) (h0 : token_cutter_blanks c = some r) (w0 : World) (F0 : Heap) (hv : F0.Sub w0) (hG : Glob F0) (hg : SV.goods F0 [.ptr 0 0]) (ρ : Nat → Nat) (D : Own) (hD : D.known = [ρ 0]) (hst : St w0 F0 D w0 F0 [own_token_cutter c (ρ 0)]) :
    Calls Tryz.prog 15 (SV.dens ρ [.ptr 0 0]).toArray w0 (RetH w0 F0 D fun s M => (s = .v (.bool r.1)) ∧ M = [own_token_cutter r.2 (ρ 0)]) := by
 refine calls_of_wp Tryz.func15 rfl ?_
 have hX := Cx.enter (D := D) (B := nones 1) (L := [own_token_cutter c (ρ 0)]) (ρ := ρ) (N := 94) Tryz.ntmps15 [.ptr 0 0] (hst.emps ρ 1) rfl hg (by kernel_rfl) (fun _ h => (nones_mem h).elim) (Nat.le_of_ble_eq_true rfl) (fix1 hD)
 unfold token_cutter_blanks at h0
 have hX : Cx 94 _ _ _ _ _ [own_token_cutter c (ρ 0)] [none] ρ _ _ := hX
 obtain ⟨_, hX⟩ := Cx.unpackP (k := 0) (Y := Unit) (ty := 39) hX (fun (y : Unit) => [.v (.string ⟨⟨c.src⟩⟩), .v (.string ⟨⟨c.rest⟩⟩), .v (.bool c.fresh)]) rfl (fun y => rfl) (fun y F h => h) (fun y => rfl)
 have hX : Cx 94 _ _ _ _ _ [] [some ⟨39, [.v (.string ⟨⟨c.src⟩⟩), .v (.string ⟨⟨c.rest⟩⟩), .v (.bool c.fresh)]⟩] ρ _ _ := hX
 refine Cx.rseq hX [] [0] (l' := [(0, .ptr 0 0)]) (B' := [some ⟨39, [.v (.string ⟨⟨c.src⟩⟩), .v (.string ⟨⟨c.rest⟩⟩), .v (.bool c.fresh)]⟩]) (by kernel_rfl) fun ρ w a hX => ?_
 refine wp_scope_straight ?_
 refine Cx.rseq hX [] [0] (l' := [(0, .ptr 0 0)]) (B' := [some ⟨39, [.v (.string ⟨⟨c.src⟩⟩), .v (.string ⟨⟨c.rest⟩⟩), .v (.bool false)]⟩]) (by kernel_rfl) fun ρ w a hX => ?_
 refine wp_seq_k fun K3 hK3 => ?_
 refine wp_label ?_
 refine hK3 _ _ ?_
 refine wp_seq_k fun K4 hK4 => ?_
 refine wp_block ?_
 have hX := hX.keeps [0] (l' := [(0, .ptr 0 0)]) (by kernel_rfl)
 obtain ⟨e1, he1, h0⟩ := bnd_some h0
 have E1x0 : ∀ (x32 : Str) (x33 : Bool), e1 = (.inl (x32, x33)) → ∀ (ρ : Nat → Nat) (w : World) (F : Heap) (a : Act), Cx 94 w0 F0 D w F [] [some ⟨39, [.v (.string ⟨⟨c.src⟩⟩), .v (.string ⟨⟨x32⟩⟩), .v (.bool x33)]⟩] ρ [] a → K4 a w := by
  intro x32 x33 he  ρ w F a hX
  replace he := he.symm
  subst he
  (try dsimp only at h0)
  refine hK4 _ _ ?_
  refine Cx.rseq hX [] [2] (l' := [(2, .v (.bool true))]) (B' := [some ⟨39, [.v (.string ⟨⟨c.src⟩⟩), .v (.string ⟨⟨x32⟩⟩), .v (.bool x33)]⟩]) (by kernel_rfl) fun ρ w a hX => ?_
  refine wp_ret ?_
  have hX : Cx 94 _ _ _ _ _ [] [some ⟨39, [.v (.string ⟨⟨c.src⟩⟩), .v (.string ⟨⟨x32⟩⟩), .v (.bool x33)]⟩] ρ _ _ := hX
  have hX : Cx 94 _ _ _ _ _ [own_token_cutter ({ src := c.src, rest := x32, fresh := x33 } : T_token_cutter) (ρ 0)] [none] ρ _ _ := Cx.packP (Y := Unit) hX 0 (() : Unit) rfl rfl rfl rfl (fun h => h)
  have hX : Cx 94 _ _ _ _ _ [own_token_cutter ({ src := c.src, rest := x32, fresh := x33 } : T_token_cutter) (ρ 0)] [none] ρ _ _ := hX
  have hr := Option.some.inj (show some _ = some _ from h0)
  subst hr
  exact hX.retH (M := [own_token_cutter ({ src := c.src, rest := x32, fresh := x33 } : T_token_cutter) (ρ 0)]) (ss := [.v (.bool true)]) (by kernel_rfl) (by kernel_rfl) ⟨rfl, by rw [(hX.fix 0 _ (by rw [hD]; rfl)).2]⟩
 refine loop_go (fun (s : Str × Bool) a w => match s with | (x14, x15) => ∃ (ρ : Nat → Nat) (F : Heap), Cx 94 w0 F0 D w F [] [some ⟨39, [.v (.string ⟨⟨c.src⟩⟩), .v (.string ⟨⟨x14⟩⟩), .v (.bool x15)]⟩] ρ [(0, .ptr 0 0)] a) he1 (fun LW1 s o1 h1 hb1 hx1 a w hI => ?_) _ _ ?_
 ·obtain ⟨x14, x15⟩ := s
  obtain ⟨ρ, F, hX⟩ := hI
  unfold token_cutter_blanks.l1 at h1
  (try dsimp only at h1)
  refine wp_seq_k fun K19 hK19 => ?_
  refine Cx.rseq hX [] [0, 11] (l' := [(0, .ptr 0 0), (11, .v (.bool (!(x14 == ([] : Str)))))]) (B' := [some ⟨39, [.v (.string ⟨⟨c.src⟩⟩), .v (.string ⟨⟨x14⟩⟩), .v (.bool x15)]⟩]) (by kernel_rfl) fun ρ w a hX => ?_
  refine Cx.cond hX (b := (!(x14 == ([] : Str)))) (by kernel_rfl) (fun hb => ?_) (fun hb => ?_)
  ·have h1 := ite_tt h1 hb
   refine wp_skip ?_
   refine hK19 _ _ ?_
   refine wp_block ?_
   refine Cx.rseq hX [] [0, 3] (l' := [(0, .ptr 0 0), (3, .v (.int .i64 1))]) (B' := [some ⟨39, [.v (.string ⟨⟨c.src⟩⟩), .v (.string ⟨⟨x14⟩⟩), .v (.bool x15)]⟩]) (by kernel_rfl) fun ρ w a hX => ?_
   refine wp_seq_k fun K22 hK22 => ?_
   have J22 : ∀ (x25 : Int), token_cutter_blanks.j4 x14 x15 x25 = some o1 → ∀ (ρ : Nat → Nat) (w : World) (F : Heap) (a : Act), Cx 94 w0 F0 D w F [] [some ⟨39, [.v (.string ⟨⟨c.src⟩⟩), .v (.string ⟨⟨x14⟩⟩), .v (.bool x15)]⟩] ρ [(0, .ptr 0 0), (3, .v (.int .i64 x25))] a → K22 a w := by
    intro x25 h1  ρ w F a hX
    unfold token_cutter_blanks.j4 at h1
    refine hK22 _ _ ?_
    refine wp_seq_k fun K32 hK32 => ?_
    have J32 : ∀ (x28 : Bool), token_cutter_blanks.j5 x14 x25 x28 = some o1 → ∀ (ρ : Nat → Nat) (w : World) (F : Heap) (a : Act), Cx 94 w0 F0 D w F [] [some ⟨39, [.v (.string ⟨⟨c.src⟩⟩), .v (.string ⟨⟨x14⟩⟩), .v (.bool x28)]⟩] ρ [(0, .ptr 0 0), (3, .v (.int .i64 x25))] a → K32 a w := by
     intro x28 h1  ρ w F a hX
     unfold token_cutter_blanks.j5 at h1
     refine hK32 _ _ ?_
     refine wp_region_list ?_
     refine hX.part [] 6 [0, 85, 89, 90] (l' := [(0, .ptr 0 0), (85, .ptr 0 0), (89, .v (.string ⟨⟨x14⟩⟩)), (90, .v (.int .i64 x25))]) (B' := [some ⟨39, [.v (.string ⟨⟨c.src⟩⟩), .v (.string ⟨⟨x14⟩⟩), .v (.bool x28)]⟩]) (by kernel_rfl) fun ρ w a hX => ?_
     obtain ⟨v29, hv29, h1⟩ := bnd_some h1
     refine hX.cutStr (lit := []) (by kernel_rfl) (by kernel_rfl) rfl (s := x14) (ol := some x25) (oh := none) (r := v29) (by kernel_rfl) (by kernel_rfl) (by kernel_rfl) (by kernel_rfl) hv29 fun a hX => ?_
     refine hX.part [] 3 [0] (l' := [(0, .ptr 0 0)]) (B' := [some ⟨39, [.v (.string ⟨⟨c.src⟩⟩), .v (.string ⟨⟨v29⟩⟩), .v (.bool x28)]⟩]) (by kernel_rfl) fun ρ w a hX => ?_
     refine wpList_end ?_
     have hX := hX.keeps [0] (l' := [(0, .ptr 0 0)]) (by kernel_rfl)
     exact hb1 (v29, x28) (out_eq h1) _ _ ⟨_, _, hX⟩
    refine wp_region_list ?_
    refine hX.part [] 6 [0, 3, 69, 74] (l' := [(0, .ptr 0 0), (3, .v (.int .i64 x25)), (69, .ptr 0 0), (74, .v (.bool x15))]) (B' := [some ⟨39, [.v (.string ⟨⟨c.src⟩⟩), .v (.string ⟨⟨x14⟩⟩), .v (.bool x15)]⟩]) (by kernel_rfl) fun ρ w a hX => ?_
    refine ite_go h1 (fun hb h1 => ?_) (fun hb h1 => ?_)
    ·have hX := hX.relit 74 hb (by kernel_rfl)
     refine hX.part [5] 11 [0, 3] (l' := [(0, .ptr 0 0), (3, .v (.int .i64 x25))]) (B' := [some ⟨39, [.v (.string ⟨⟨c.src⟩⟩), .v (.string ⟨⟨x14⟩⟩), .v (.bool true)]⟩]) (by kernel_rfl) fun ρ w a hX => ?_
     refine wpList_end ?_
     have hX := hX.keeps [0, 3] (l' := [(0, .ptr 0 0), (3, .v (.int .i64 x25))]) (by kernel_rfl)
     exact J32 true h1  _ _ _ _ hX
    ·have hX := hX.relit 74 hb (by kernel_rfl)
     refine hX.part [5] 5 [0, 3, 69, 74, 78, 79] (l' := [(0, .ptr 0 0), (3, .v (.int .i64 x25)), (69, .ptr 0 0), (74, .v (.bool false)), (78, .v (.string ⟨⟨x14⟩⟩)), (79, .v (.int .i64 x25))]) (B' := [some ⟨39, [.v (.string ⟨⟨c.src⟩⟩), .v (.string ⟨⟨x14⟩⟩), .v (.bool x15)]⟩]) (by kernel_rfl) fun ρ w a hX => ?_
     obtain ⟨v26, hv26, h1⟩ := bnd_some h1
     refine hX.cutStr (lit := [5]) (by kernel_rfl) (by kernel_rfl) rfl (s := x14) (ol := none) (oh := some x25) (r := v26) (by kernel_rfl) (by kernel_rfl) (by kernel_rfl) (by kernel_rfl) hv26 fun a hX => ?_
     refine hX.part [5] 0 [0, 3, 69, 74, 80] (l' := [(0, .ptr 0 0), (3, .v (.int .i64 x25)), (69, .ptr 0 0), (74, .v (.bool false)), (80, .v (.string ⟨⟨v26⟩⟩))]) (B' := [some ⟨39, [.v (.string ⟨⟨c.src⟩⟩), .v (.string ⟨⟨x14⟩⟩), .v (.bool x15)]⟩]) (by kernel_rfl) fun ρ w a hX => ?_
     obtain ⟨v27, hv27, h1⟩ := bnd_some h1
     refine Cx.call0 hX (lit := [5]) (by kernel_rfl) rfl (by kernel_rfl) ⟨⟨_, Tryz.func32, by kernel_rfl, rfl⟩⟩ (ss := [.v (.string ⟨⟨v26⟩⟩), .v (.string ⟨⟨([10, 13] : Str)⟩⟩)]) (by kernel_rfl) [.v (.string ⟨⟨v26⟩⟩), .v (.string ⟨⟨([10, 13] : Str)⟩⟩)] rfl (fun hg => hg) (fun hv hle hg => strings_ContainsAny.ok v26 ([10, 13] : Str) v27 hv27 _ _ hv (hG.mono hle) hg _) (fun s F w a hp hX => ?_)
     subst hp
     refine hX.part [] 4 [0, 3] (l' := [(0, .ptr 0 0), (3, .v (.int .i64 x25))]) (B' := [some ⟨39, [.v (.string ⟨⟨c.src⟩⟩), .v (.string ⟨⟨x14⟩⟩), .v (.bool v27)]⟩]) (by kernel_rfl) fun ρ w a hX => ?_
     refine wpList_end ?_
     have hX := hX.keeps [0, 3] (l' := [(0, .ptr 0 0), (3, .v (.int .i64 x25))]) (by kernel_rfl)
     exact J32 v27 h1  _ _ _ _ hX
   refine wp_block ?_
   refine wp_seq_k fun K23 hK23 => ?_
   refine wp_region_list ?_
   refine hX.part [] 4 [0, 3, 16] (l' := [(0, .ptr 0 0), (3, .v (.int .i64 1)), (16, .v (.string ⟨⟨x14⟩⟩))]) (B' := [some ⟨39, [.v (.string ⟨⟨c.src⟩⟩), .v (.string ⟨⟨x14⟩⟩), .v (.bool x15)]⟩]) (by kernel_rfl) fun ρ w a hX => ?_
   obtain ⟨v16, hv16, h1⟩ := bnd_some h1
   refine Cx.call0 hX (lit := []) (by kernel_rfl) rfl (by kernel_rfl) ⟨⟨_, Tryz.func29, by kernel_rfl, rfl⟩⟩ (ss := [.v (.string ⟨⟨x14⟩⟩), .v (.string ⟨⟨([47, 47] : Str)⟩⟩)]) (by kernel_rfl) [.v (.string ⟨⟨x14⟩⟩), .v (.string ⟨⟨([47, 47] : Str)⟩⟩)] rfl (fun hg => hg) (fun hv hle hg => strings_HasPrefix.ok x14 ([47, 47] : Str) v16 hv16 _ _ hv (hG.mono hle) hg _) (fun s F w a hp hX => ?_)
   subst hp
   refine hX.part [] 1 [0, 3, 12] (l' := [(0, .ptr 0 0), (3, .v (.int .i64 1)), (12, .v (.bool v16))]) (B' := [some ⟨39, [.v (.string ⟨⟨c.src⟩⟩), .v (.string ⟨⟨x14⟩⟩), .v (.bool x15)]⟩]) (by kernel_rfl) fun ρ w a hX => ?_
   refine wpList_end ?_
   refine hK23 _ _ ?_
   refine Cx.cond hX (b := v16) (by kernel_rfl) (fun hb => ?_) (fun hb => ?_)
   ·have h1 := ite_tt h1 hb
    refine wp_seq_k fun K24 hK24 => ?_
    refine wp_region_list ?_
    refine hX.part [] 4 [0, 3, 21] (l' := [(0, .ptr 0 0), (3, .v (.int .i64 1)), (21, .v (.string ⟨⟨x14⟩⟩))]) (B' := [some ⟨39, [.v (.string ⟨⟨c.src⟩⟩), .v (.string ⟨⟨x14⟩⟩), .v (.bool x15)]⟩]) (by kernel_rfl) fun ρ w a hX => ?_
    obtain ⟨v17, hv17, h1⟩ := bnd_some h1
    refine Cx.call0 hX (lit := []) (by kernel_rfl) rfl (by kernel_rfl) ⟨⟨_, Tryz.func30, by kernel_rfl, rfl⟩⟩ (ss := [.v (.string ⟨⟨x14⟩⟩), .v (.string ⟨⟨([10, 13] : Str)⟩⟩)]) (by kernel_rfl) [.v (.string ⟨⟨x14⟩⟩), .v (.string ⟨⟨([10, 13] : Str)⟩⟩)] rfl (fun hg => hg) (fun hv hle hg => strings_IndexAny.ok x14 ([10, 13] : Str) v17 hv17 _ _ hv (hG.mono hle) hg _) (fun s F w a hp hX => ?_)
    subst hp
    refine hX.part [] 1 [0, 3] (l' := [(0, .ptr 0 0), (3, .v (.int .i64 v17))]) (B' := [some ⟨39, [.v (.string ⟨⟨c.src⟩⟩), .v (.string ⟨⟨x14⟩⟩), .v (.bool x15)]⟩]) (by kernel_rfl) fun ρ w a hX => ?_
    refine wpList_end ?_
    refine hK24 _ _ ?_
    refine Cx.rseq hX [] [0, 3, 24] (l' := [(0, .ptr 0 0), (3, .v (.int .i64 v17)), (24, .v (.bool (decide (v17 < 0))))]) (B' := [some ⟨39, [.v (.string ⟨⟨c.src⟩⟩), .v (.string ⟨⟨x14⟩⟩), .v (.bool x15)]⟩]) (by kernel_rfl) fun ρ w a hX => ?_
    refine Cx.cond hX (b := (decide (v17 < 0))) (by kernel_rfl) (fun hb => ?_) (fun hb => ?_)
    ·have h1 := ite_tt h1 hb
     refine Cx.region hX [] [0, 3] (l' := [(0, .ptr 0 0), (3, .v (.int .i64 ((x14.length : Nat) : Int)))]) (B' := [some ⟨39, [.v (.string ⟨⟨c.src⟩⟩), .v (.string ⟨⟨x14⟩⟩), .v (.bool x15)]⟩]) (by kernel_rfl) fun ρ w a hX => ?_
     have hX := hX.keeps [0, 3] (l' := [(0, .ptr 0 0), (3, .v (.int .i64 ((x14.length : Nat) : Int)))]) (by kernel_rfl)
     exact J22 ((x14.length : Nat) : Int) h1  _ _ _ _ hX
    ·have h1 := ite_ff h1 hb
     refine wp_skip ?_
     have hX := hX.keeps [0, 3] (l' := [(0, .ptr 0 0), (3, .v (.int .i64 v17))]) (by kernel_rfl)
     exact J22 v17 h1  _ _ _ _ hX
   ·have h1 := ite_ff h1 hb
    refine wp_seq_k fun K26 hK26 => ?_
    refine wp_region_list ?_
    refine hX.part [] 4 [0, 3, 34] (l' := [(0, .ptr 0 0), (3, .v (.int .i64 1)), (34, .v (.string ⟨⟨x14⟩⟩))]) (B' := [some ⟨39, [.v (.string ⟨⟨c.src⟩⟩), .v (.string ⟨⟨x14⟩⟩), .v (.bool x15)]⟩]) (by kernel_rfl) fun ρ w a hX => ?_
    obtain ⟨v18, hv18, h1⟩ := bnd_some h1
    refine Cx.call0 hX (lit := []) (by kernel_rfl) rfl (by kernel_rfl) ⟨⟨_, Tryz.func29, by kernel_rfl, rfl⟩⟩ (ss := [.v (.string ⟨⟨x14⟩⟩), .v (.string ⟨⟨([47, 42] : Str)⟩⟩)]) (by kernel_rfl) [.v (.string ⟨⟨x14⟩⟩), .v (.string ⟨⟨([47, 42] : Str)⟩⟩)] rfl (fun hg => hg) (fun hv hle hg => strings_HasPrefix.ok x14 ([47, 42] : Str) v18 hv18 _ _ hv (hG.mono hle) hg _) (fun s F w a hp hX => ?_)
    subst hp
    refine hX.part [] 1 [0, 3, 30] (l' := [(0, .ptr 0 0), (3, .v (.int .i64 1)), (30, .v (.bool v18))]) (B' := [some ⟨39, [.v (.string ⟨⟨c.src⟩⟩), .v (.string ⟨⟨x14⟩⟩), .v (.bool x15)]⟩]) (by kernel_rfl) fun ρ w a hX => ?_
    refine wpList_end ?_
    refine hK26 _ _ ?_
    refine Cx.cond hX (b := v18) (by kernel_rfl) (fun hb => ?_) (fun hb => ?_)
    ·have h1 := ite_tt h1 hb
     refine wp_seq_k fun K27 hK27 => ?_
     refine wp_region_list ?_
     refine hX.part [] 4 [0, 3, 39] (l' := [(0, .ptr 0 0), (3, .v (.int .i64 1)), (39, .v (.string ⟨⟨x14⟩⟩))]) (B' := [some ⟨39, [.v (.string ⟨⟨c.src⟩⟩), .v (.string ⟨⟨x14⟩⟩), .v (.bool x15)]⟩]) (by kernel_rfl) fun ρ w a hX => ?_
     obtain ⟨v19, hv19, h1⟩ := bnd_some h1
     refine hX.cutStr (lit := []) (by kernel_rfl) (by kernel_rfl) rfl (s := x14) (ol := some 2) (oh := none) (r := v19) (by kernel_rfl) (by kernel_rfl) (by kernel_rfl) (by kernel_rfl) hv19 fun a hX => ?_
     refine hX.part [] 0 [0, 3, 40] (l' := [(0, .ptr 0 0), (3, .v (.int .i64 1)), (40, .v (.string ⟨⟨v19⟩⟩))]) (B' := [some ⟨39, [.v (.string ⟨⟨c.src⟩⟩), .v (.string ⟨⟨x14⟩⟩), .v (.bool x15)]⟩]) (by kernel_rfl) fun ρ w a hX => ?_
     obtain ⟨v20, hv20, h1⟩ := bnd_some h1
     refine Cx.call0 hX (lit := []) (by kernel_rfl) rfl (by kernel_rfl) ⟨⟨_, Tryz.func31, by kernel_rfl, rfl⟩⟩ (ss := [.v (.string ⟨⟨v19⟩⟩), .v (.string ⟨⟨([42, 47] : Str)⟩⟩)]) (by kernel_rfl) [.v (.string ⟨⟨v19⟩⟩), .v (.string ⟨⟨([42, 47] : Str)⟩⟩)] rfl (fun hg => hg) (fun hv hle hg => strings_Index.ok v19 ([42, 47] : Str) v20 hv20 _ _ hv (hG.mono hle) hg _) (fun s F w a hp hX => ?_)
     subst hp
     refine hX.part [] 1 [0, 3] (l' := [(0, .ptr 0 0), (3, .v (.int .i64 v20))]) (B' := [some ⟨39, [.v (.string ⟨⟨c.src⟩⟩), .v (.string ⟨⟨x14⟩⟩), .v (.bool x15)]⟩]) (by kernel_rfl) fun ρ w a hX => ?_
     refine wpList_end ?_
     refine hK27 _ _ ?_
     refine wp_seq_k fun K28 hK28 => ?_
     refine Cx.rseq hX [] [0, 3, 43] (l' := [(0, .ptr 0 0), (3, .v (.int .i64 v20)), (43, .v (.bool (decide (v20 < 0))))]) (B' := [some ⟨39, [.v (.string ⟨⟨c.src⟩⟩), .v (.string ⟨⟨x14⟩⟩), .v (.bool x15)]⟩]) (by kernel_rfl) fun ρ w a hX => ?_
     refine Cx.cond hX (b := (decide (v20 < 0))) (by kernel_rfl) (fun hb => ?_) (fun hb => ?_)
     ·have h1 := ite_tt h1 hb
      refine Cx.rseq hX [] [2] (l' := [(2, .v (.bool false))]) (B' := [some ⟨39, [.v (.string ⟨⟨c.src⟩⟩), .v (.string ⟨⟨x14⟩⟩), .v (.bool x15)]⟩]) (by kernel_rfl) fun ρ w a hX => ?_
      refine wp_ret ?_
      have hX : Cx 94 _ _ _ _ _ [] [some ⟨39, [.v (.string ⟨⟨c.src⟩⟩), .v (.string ⟨⟨x14⟩⟩), .v (.bool x15)]⟩] ρ _ _ := hX
      have hX : Cx 94 _ _ _ _ _ [own_token_cutter ({ src := c.src, rest := x14, fresh := x15 } : T_token_cutter) (ρ 0)] [none] ρ _ _ := Cx.packP (Y := Unit) hX 0 (() : Unit) rfl rfl rfl rfl (fun h => h)
      have hX : Cx 94 _ _ _ _ _ [own_token_cutter ({ src := c.src, rest := x14, fresh := x15 } : T_token_cutter) (ρ 0)] [none] ρ _ _ := hX
      have he := hx1 _ (out_eq h1)
      subst he
      (try dsimp only at h0)
      have hr := Option.some.inj (show some _ = some _ from h0)
      subst hr
      exact hX.retH (M := [own_token_cutter ({ src := c.src, rest := x14, fresh := x15 } : T_token_cutter) (ρ 0)]) (ss := [.v (.bool false)]) (by kernel_rfl) (by kernel_rfl) ⟨rfl, by rw [(hX.fix 0 _ (by rw [hD]; rfl)).2]⟩
     ·have h1 := ite_ff h1 hb
      refine wp_skip ?_
      refine hK28 _ _ ?_
      refine Cx.region hX [] [0, 3] (l' := [(0, .ptr 0 0), (3, .v (.int .i64 (IntKind.wrap .i64 (v20 + 4))))]) (B' := [some ⟨39, [.v (.string ⟨⟨c.src⟩⟩), .v (.string ⟨⟨x14⟩⟩), .v (.bool x15)]⟩]) (by kernel_rfl) fun ρ w a hX => ?_
      have hX := hX.keeps [0, 3] (l' := [(0, .ptr 0 0), (3, .v (.int .i64 (IntKind.wrap .i64 (v20 + 4))))]) (by kernel_rfl)
      exact J22 (IntKind.wrap .i64 (v20 + 4)) h1  _ _ _ _ hX
    ·have h1 := ite_ff h1 hb
     refine wp_seq_k fun K31 hK31 => ?_
     have J31 : ∀ (x24 : Bool), token_cutter_blanks.j3 x14 x15 x24 = some o1 → ∀ (ρ : Nat → Nat) (w : World) (F : Heap) (a : Act), Cx 94 w0 F0 D w F [] [some ⟨39, [.v (.string ⟨⟨c.src⟩⟩), .v (.string ⟨⟨x14⟩⟩), .v (.bool x15)]⟩] ρ [(0, .ptr 0 0), (3, .v (.int .i64 1)), (46, .v (.bool x24))] a → K31 a w := by
      intro x24 h1  ρ w F a hX
      unfold token_cutter_blanks.j3 at h1
      refine hK31 _ _ ?_
      refine Cx.cond hX (b := x24) (by kernel_rfl) (fun hb => ?_) (fun hb => ?_)
      ·have h1 := ite_tt h1 hb
       refine wp_exit ?_
       have hX := hX.keeps [] (l' := []) (by kernel_rfl)
       exact E1x0 x14 x15 (hx1 _ (out_eq h1)).symm  _ _ _ _ hX
      ·have h1 := ite_ff h1 hb
       refine wp_skip ?_
       have hX := hX.keeps [0, 3] (l' := [(0, .ptr 0 0), (3, .v (.int .i64 1))]) (by kernel_rfl)
       exact J22 1 h1  _ _ _ _ hX
     refine wp_region_list ?_
     refine hX.part [] 4 [0, 3, 50] (l' := [(0, .ptr 0 0), (3, .v (.int .i64 1)), (50, .v (.string ⟨⟨x14⟩⟩))]) (B' := [some ⟨39, [.v (.string ⟨⟨c.src⟩⟩), .v (.string ⟨⟨x14⟩⟩), .v (.bool x15)]⟩]) (by kernel_rfl) fun ρ w a hX => ?_
     obtain ⟨v21, hv21, h1⟩ := bnd_some h1
     refine hX.idxStr (lit := []) (by kernel_rfl) (by kernel_rfl) rfl (s := x14) (k := .i64) (n := 0) (b := v21) (by kernel_rfl) (by kernel_rfl) (by kernel_rfl) hv21 fun a hX => ?_
     refine hX.part [] 2 [0, 3, 53] (l' := [(0, .ptr 0 0), (3, .v (.int .i64 1)), (53, .v (.bool (v21 != 32)))]) (B' := [some ⟨39, [.v (.string ⟨⟨c.src⟩⟩), .v (.string ⟨⟨x14⟩⟩), .v (.bool x15)]⟩]) (by kernel_rfl) fun ρ w a hX => ?_
     refine ite_go h1 (fun hb h1 => ?_) (fun hb h1 => ?_)
     ·have hX := hX.relit 53 hb (by kernel_rfl)
      refine hX.part [6] 4 [0, 3, 53, 57] (l' := [(0, .ptr 0 0), (3, .v (.int .i64 1)), (53, .v (.bool true)), (57, .v (.string ⟨⟨x14⟩⟩))]) (B' := [some ⟨39, [.v (.string ⟨⟨c.src⟩⟩), .v (.string ⟨⟨x14⟩⟩), .v (.bool x15)]⟩]) (by kernel_rfl) fun ρ w a hX => ?_
      obtain ⟨v22, hv22, h1⟩ := bnd_some h1
      refine hX.idxStr (lit := [6]) (by kernel_rfl) (by kernel_rfl) rfl (s := x14) (k := .i64) (n := 0) (b := v22) (by kernel_rfl) (by kernel_rfl) (by kernel_rfl) hv22 fun a hX => ?_
      refine hX.part [6] 2 [0, 3, 53, 60] (l' := [(0, .ptr 0 0), (3, .v (.int .i64 1)), (53, .v (.bool true)), (60, .v (.bool (decide (v22 < 9))))]) (B' := [some ⟨39, [.v (.string ⟨⟨c.src⟩⟩), .v (.string ⟨⟨x14⟩⟩), .v (.bool x15)]⟩]) (by kernel_rfl) fun ρ w a hX => ?_
      refine ite_go h1 (fun hb h1 => ?_) (fun hb h1 => ?_)
      ·have hX := hX.relit 60 hb (by kernel_rfl)
       refine hX.part [6, 13] 9 [0, 3, 46] (l' := [(0, .ptr 0 0), (3, .v (.int .i64 1)), (46, .v (.bool true))]) (B' := [some ⟨39, [.v (.string ⟨⟨c.src⟩⟩), .v (.string ⟨⟨x14⟩⟩), .v (.bool x15)]⟩]) (by kernel_rfl) fun ρ w a hX => ?_
       refine wpList_end ?_
       have hX := hX.keeps [0, 3, 46] (l' := [(0, .ptr 0 0), (3, .v (.int .i64 1)), (46, .v (.bool true))]) (by kernel_rfl)
       exact J31 true h1  _ _ _ _ hX
      ·have hX := hX.relit 60 hb (by kernel_rfl)
       refine hX.part [13] 4 [0, 3, 53, 60, 64] (l' := [(0, .ptr 0 0), (3, .v (.int .i64 1)), (53, .v (.bool true)), (60, .v (.bool false)), (64, .v (.string ⟨⟨x14⟩⟩))]) (B' := [some ⟨39, [.v (.string ⟨⟨c.src⟩⟩), .v (.string ⟨⟨x14⟩⟩), .v (.bool x15)]⟩]) (by kernel_rfl) fun ρ w a hX => ?_
       obtain ⟨v23, hv23, h1⟩ := bnd_some h1
       refine hX.idxStr (lit := [13]) (by kernel_rfl) (by kernel_rfl) rfl (s := x14) (k := .i64) (n := 0) (b := v23) (by kernel_rfl) (by kernel_rfl) (by kernel_rfl) hv23 fun a hX => ?_
       refine hX.part [6, 13] 4 [0, 3, 46] (l' := [(0, .ptr 0 0), (3, .v (.int .i64 1)), (46, .v (.bool (decide (v23 > 13))))]) (B' := [some ⟨39, [.v (.string ⟨⟨c.src⟩⟩), .v (.string ⟨⟨x14⟩⟩), .v (.bool x15)]⟩]) (by kernel_rfl) fun ρ w a hX => ?_
       refine wpList_end ?_
       have hX := hX.keeps [0, 3, 46] (l' := [(0, .ptr 0 0), (3, .v (.int .i64 1)), (46, .v (.bool (decide (v23 > 13))))]) (by kernel_rfl)
       exact J31 (decide (v23 > 13)) h1  _ _ _ _ hX
     ·have hX := hX.relit 53 hb (by kernel_rfl)
      refine hX.part [6, 13] 16 [0, 3, 46] (l' := [(0, .ptr 0 0), (3, .v (.int .i64 1)), (46, .v (.bool false))]) (B' := [some ⟨39, [.v (.string ⟨⟨c.src⟩⟩), .v (.string ⟨⟨x14⟩⟩), .v (.bool x15)]⟩]) (by kernel_rfl) fun ρ w a hX => ?_
      refine wpList_end ?_
      have hX := hX.keeps [0, 3, 46] (l' := [(0, .ptr 0 0), (3, .v (.int .i64 1)), (46, .v (.bool false))]) (by kernel_rfl)
      exact J31 false h1  _ _ _ _ hX
  ·have h1 := ite_ff h1 hb
   refine wp_exit ?_
   have hX := hX.keeps [] (l' := []) (by kernel_rfl)
   exact E1x0 x14 x15 (hx1 _ (out_eq h1)).symm  _ _ _ _ hX
 ·exact ⟨_, _, hX⟩
def slices_Clip_api_Token_api_Token (s_ : List T_api_Token) : Option ((List T_api_Token)) :=
  some s_
theorem slices_Clip_api_Token_api_Token.ok (s_ : List T_api_Token) (y_s_ : (Option Addr × Nat)) (r : (List T_api_Token)) (h0 : slices_Clip_api_Token_api_Token s_ = some r) (w0 : World) (F0 : Heap) (hv : F0.Sub w0) (hG : Glob F0) (hg : SV.goods F0 [SV.sl kT_api_Token s_ y_s_.1 y_s_.2]) (ρ : Nat → Nat) :
    Calls Tryz.prog 16 (SV.dens ρ [SV.sl kT_api_Token s_ y_s_.1 y_s_.2]).toArray w0 (Ret0 w0 F0 fun s => ∃ A c, s = SV.sl kT_api_Token r A c) := by
 refine calls_of_wp Tryz.func16 rfl ?_
 have hX := Cx.enter (D := No) (B := []) (L := []) (ρ := ρ) (N := 9) Tryz.ntmps16 [SV.sl kT_api_Token s_ y_s_.1 y_s_.2] (St.start hv) rfl hg (by kernel_rfl) (fun _ h => by cases h) (Nat.le_of_ble_eq_true rfl) No.unfix
 unfold slices_Clip_api_Token_api_Token at h0
 refine Cx.rseq hX [] [0] (l' := [(0, SV.sl kT_api_Token s_ y_s_.1 y_s_.2)]) (B' := []) (by kernel_rfl) fun ρ w a hX => ?_
 refine wp_seq_k fun K2 hK2 => ?_
 refine wp_region_list ?_
 refine hX.part [] 5 [3, 5, 7] (l' := [(3, SV.sl kT_api_Token s_ y_s_.1 y_s_.2), (5, .v (.int .i64 ((s_.length : Nat) : Int))), (7, .v (.int .i64 ((s_.length : Nat) : Int)))]) (B' := []) (by kernel_rfl) fun ρ w a hX => ?_
 refine hX.clipSl (d := kT_api_Token) (e := 25) (xs := s_) (A := y_s_.1) (c := y_s_.2) (n := ((s_.length : Nat) : Int)) (lit := []) (by kernel_rfl) (by kernel_rfl) rfl (by kernel_rfl) (by kernel_rfl) (by kernel_rfl) (by kernel_rfl) (by kernel_rfl) rfl fun a hX => ?_
 refine hX.part [] 1 [2] (l' := [(2, SV.sl kT_api_Token s_ y_s_.1 s_.length)]) (B' := []) (by kernel_rfl) fun ρ w a hX => ?_
 refine wpList_end ?_
 refine hK2 _ _ ?_
 refine wp_ret ?_
 have hr := Option.some.inj (show some _ = some _ from h0)
 subst hr
 exact hX.ret0 (ss := [SV.sl kT_api_Token s_ y_s_.1 s_.length]) (by kernel_rfl) (by kernel_rfl) ⟨_, _, rfl⟩
def token_letter (c : Int) : Option (Bool) :=
  some ((((decide ((IntKind.wrap .u8 ((BitVec.ofInt 8 c ||| BitVec.ofInt 8 32).toNat)) ≥ 97)) && (decide ((IntKind.wrap .u8 ((BitVec.ofInt 8 c ||| BitVec.ofInt 8 32).toNat)) ≤ 122))) || (c == 95)) || (c == 36))
theorem token_letter.ok (c : Int) (r : Bool) (h0 : token_letter c = some r) (w0 : World) (F0 : Heap) (hv : F0.Sub w0) (hG : Glob F0) (hg : SV.goods F0 [.v (.int .u8 c)]) (ρ : Nat → Nat) :
    Calls Tryz.prog 19 (SV.dens ρ [.v (.int .u8 c)]).toArray w0 (Ret0 w0 F0 fun s => s = .v (.bool r)) := by
 refine calls_of_wp Tryz.func19 rfl ?_
 have hX := Cx.enter (D := No) (B := []) (L := []) (ρ := ρ) (N := 19) Tryz.ntmps19 [.v (.int .u8 c)] (St.start hv) rfl hg (by kernel_rfl) (fun _ h => by cases h) (Nat.le_of_ble_eq_true rfl) No.unfix
 unfold token_letter at h0
 refine Cx.rseq hX [] [0] (l' := [(0, .v (.int .u8 c))]) (B' := []) (by kernel_rfl) fun ρ w a hX => ?_
 refine Cx.rseq hX [] [2] (l' := [(2, .v (.bool ((((decide ((IntKind.wrap .u8 ((BitVec.ofInt 8 c ||| BitVec.ofInt 8 32).toNat)) ≥ 97)) && (decide ((IntKind.wrap .u8 ((BitVec.ofInt 8 c ||| BitVec.ofInt 8 32).toNat)) ≤ 122))) || (c == 95)) || (c == 36))))]) (B' := []) (by kernel_rfl) fun ρ w a hX => ?_
 refine wp_ret ?_
 have hr := Option.some.inj (show some _ = some _ from h0)
 subst hr
 exact hX.ret0 (ss := [.v (.bool ((((decide ((IntKind.wrap .u8 ((BitVec.ofInt 8 c ||| BitVec.ofInt 8 32).toNat)) ≥ 97)) && (decide ((IntKind.wrap .u8 ((BitVec.ofInt 8 c ||| BitVec.ofInt 8 32).toNat)) ≤ 122))) || (c == 95)) || (c == 36)))]) (by kernel_rfl) (by kernel_rfl) rfl
def token_digit (c : Int) : Option (Bool) :=
  some ((decide (c ≥ 48)) && (decide (c ≤ 57)))
theorem token_digit.ok (c : Int) (r : Bool) (h0 : token_digit c = some r) (w0 : World) (F0 : Heap) (hv : F0.Sub w0) (hG : Glob F0) (hg : SV.goods F0 [.v (.int .u8 c)]) (ρ : Nat → Nat) :
    Calls Tryz.prog 33 (SV.dens ρ [.v (.int .u8 c)]).toArray w0 (Ret0 w0 F0 fun s => s = .v (.bool r)) := by
 refine calls_of_wp Tryz.func33 rfl ?_
 have hX := Cx.enter (D := No) (B := []) (L := []) (ρ := ρ) (N := 9) Tryz.ntmps33 [.v (.int .u8 c)] (St.start hv) rfl hg (by kernel_rfl) (fun _ h => by cases h) (Nat.le_of_ble_eq_true rfl) No.unfix
 unfold token_digit at h0
 refine Cx.rseq hX [] [0] (l' := [(0, .v (.int .u8 c))]) (B' := []) (by kernel_rfl) fun ρ w a hX => ?_
 refine Cx.rseq hX [] [2] (l' := [(2, .v (.bool ((decide (c ≥ 48)) && (decide (c ≤ 57)))))]) (B' := []) (by kernel_rfl) fun ρ w a hX => ?_
 refine wp_ret ?_
 have hr := Option.some.inj (show some _ = some _ from h0)
 subst hr
 exact hX.ret0 (ss := [.v (.bool ((decide (c ≥ 48)) && (decide (c ≤ 57))))]) (by kernel_rfl) (by kernel_rfl) rfl
def token_row.j2 (x6 : Int) (x11 : Bool) : Option ((Int) ⊕ ((Unit) ⊕ (Int))) :=
  if x11 = true then
    some (.inr (.inr x6))
  else
    some (.inl (IntKind.wrap .i64 (x6 + 1)))
def token_row.l1 (s_ : Str) (x6 : Int) : Option ((Int) ⊕ ((Unit) ⊕ (Int))) :=
  if (decide (x6 < ((s_.length : Nat) : Int))) = true then
    Option.bind (getB s_ x6) fun v7 =>
    Option.bind (token_letter v7) fun v8 =>
    if (!v8) = true then
      Option.bind (getB s_ x6) fun v9 =>
      Option.bind (token_digit v9) fun v10 =>
      token_row.j2 x6 (!v10)
    else
      token_row.j2 x6 false
  else
    some (.inr (.inl ()))
def token_row (s_ : Str) : Option (Int) :=
  Option.bind (loopM (token_row.l1 s_) 0) fun e => match e with
  | (.inl ()) =>
    some ((s_.length : Nat) : Int)
  | (.inr r13) =>
    some r13
theorem token_row.ok (s_ : Str) (r : Int) (h0 : token_row s_ = some r) (w0 : World) (F0 : Heap) (hv : F0.Sub w0) (hG : Glob F0) (hg : SV.goods F0 [.v (.string ⟨⟨s_⟩⟩)]) (ρ : Nat → Nat) :
    Calls Tryz.prog 20 (SV.dens ρ [.v (.string ⟨⟨s_⟩⟩)]).toArray w0 (Ret0 w0 F0 fun s => s = .v (.int .i64 r)) := by
 refine calls_of_wp Tryz.func20 rfl ?_
 have hX := Cx.enter (D := No) (B := []) (L := []) (ρ := ρ) (N := 25) Tryz.ntmps20 [.v (.string ⟨⟨s_⟩⟩)] (St.start hv) rfl hg (by kernel_rfl) (fun _ h => by cases h) (Nat.le_of_ble_eq_true rfl) No.unfix
 unfold token_row at h0
 refine Cx.rseq hX [] [0] (l' := [(0, .v (.string ⟨⟨s_⟩⟩))]) (B' := []) (by kernel_rfl) fun ρ w a hX => ?_
 refine wp_seq_k fun K2 hK2 => ?_
 refine Cx.rseq hX [] [0, 5, 6] (l' := [(0, .v (.string ⟨⟨s_⟩⟩)), (5, .v (.int .i64 ((s_.length : Nat) : Int))), (6, .v (.int .i64 0))]) (B' := []) (by kernel_rfl) fun ρ w a hX => ?_
 refine wp_block ?_
 have hX := hX.keeps [0, 5, 6] (l' := [(0, .v (.string ⟨⟨s_⟩⟩)), (5, .v (.int .i64 ((s_.length : Nat) : Int))), (6, .v (.int .i64 0))]) (by kernel_rfl)
 obtain ⟨e1, he1, h0⟩ := bnd_some h0
 have E1x0 : ∀ (_ : Unit), e1 = (.inl ()) → ∀ (ρ : Nat → Nat) (w : World) (F : Heap) (a : Act), Cx 25 w0 F0 No w F [] [] ρ [(0, .v (.string ⟨⟨s_⟩⟩))] a → K2 a w := by
  intro _ he  ρ w F a hX
  replace he := he.symm
  subst he
  (try dsimp only at h0)
  refine hK2 _ _ ?_
  refine Cx.rseq hX [] [2] (l' := [(2, .v (.int .i64 ((s_.length : Nat) : Int)))]) (B' := []) (by kernel_rfl) fun ρ w a hX => ?_
  refine wp_ret ?_
  have hr := Option.some.inj (show some _ = some _ from h0)
  subst hr
  exact hX.ret0 (ss := [.v (.int .i64 ((s_.length : Nat) : Int))]) (by kernel_rfl) (by kernel_rfl) rfl
 refine loop_go (fun (x6 : Int) a w => ∃ (ρ : Nat → Nat) (F : Heap), Cx 25 w0 F0 No w F [] [] ρ [(0, .v (.string ⟨⟨s_⟩⟩)), (5, .v (.int .i64 ((s_.length : Nat) : Int))), (6, .v (.int .i64 x6))] a) he1 (fun LW1 x6 o1 h1 hb1 hx1 a w hI => ?_) _ _ ?_
 ·obtain ⟨ρ, F, hX⟩ := hI
  unfold token_row.l1 at h1
  (try dsimp only at h1)
  refine Cx.rseq hX [] [0, 5, 6, 7] (l' := [(0, .v (.string ⟨⟨s_⟩⟩)), (5, .v (.int .i64 ((s_.length : Nat) : Int))), (6, .v (.int .i64 x6)), (7, .v (.bool (decide (x6 < ((s_.length : Nat) : Int)))))]) (B' := []) (by kernel_rfl) fun ρ w a hX => ?_
  refine wp_seq_k fun K11 hK11 => ?_
  refine Cx.cond hX (b := (decide (x6 < ((s_.length : Nat) : Int)))) (by kernel_rfl) (fun hb => ?_) (fun hb => ?_)
  ·have h1 := ite_tt h1 hb
   refine wp_skip ?_
   refine hK11 _ _ ?_
   refine wp_seq_k fun K12 hK12 => ?_
   refine wp_block ?_
   refine Cx.rseq hX [] [0, 3, 5, 6] (l' := [(0, .v (.string ⟨⟨s_⟩⟩)), (3, .v (.int .i64 x6)), (5, .v (.int .i64 ((s_.length : Nat) : Int))), (6, .v (.int .i64 x6))]) (B' := []) (by kernel_rfl) fun ρ w a hX => ?_
   refine wp_seq_k fun K14 hK14 => ?_
   have J14 : ∀ (x11 : Bool), token_row.j2 x6 x11 = some o1 → ∀ (ρ : Nat → Nat) (w : World) (F : Heap) (a : Act), Cx 25 w0 F0 No w F [] [] ρ [(0, .v (.string ⟨⟨s_⟩⟩)), (3, .v (.int .i64 x6)), (5, .v (.int .i64 ((s_.length : Nat) : Int))), (6, .v (.int .i64 x6)), (20, .v (.bool x11))] a → K14 a w := by
    intro x11 h1  ρ w F a hX
    unfold token_row.j2 at h1
    refine hK14 _ _ ?_
    refine Cx.cond hX (b := x11) (by kernel_rfl) (fun hb => ?_) (fun hb => ?_)
    ·have h1 := ite_tt h1 hb
     refine Cx.rseq hX [] [2] (l' := [(2, .v (.int .i64 x6))]) (B' := []) (by kernel_rfl) fun ρ w a hX => ?_
     refine wp_ret ?_
     have he := hx1 _ (out_eq h1)
     subst he
     (try dsimp only at h0)
     have hr := Option.some.inj (show some _ = some _ from h0)
     subst hr
     exact hX.ret0 (ss := [.v (.int .i64 x6)]) (by kernel_rfl) (by kernel_rfl) rfl
    ·have h1 := ite_ff h1 hb
     refine wp_skip ?_
     refine hK12 _ _ ?_
     refine Cx.region hX [] [0, 5, 6] (l' := [(0, .v (.string ⟨⟨s_⟩⟩)), (5, .v (.int .i64 ((s_.length : Nat) : Int))), (6, .v (.int .i64 (IntKind.wrap .i64 (x6 + 1))))]) (B' := []) (by kernel_rfl) fun ρ w a hX => ?_
     have hX := hX.keeps [0, 5, 6] (l' := [(0, .v (.string ⟨⟨s_⟩⟩)), (5, .v (.int .i64 ((s_.length : Nat) : Int))), (6, .v (.int .i64 (IntKind.wrap .i64 (x6 + 1))))]) (by kernel_rfl)
     exact hb1 (IntKind.wrap .i64 (x6 + 1)) (out_eq h1) _ _ ⟨_, _, hX⟩
   refine wp_region_list ?_
   refine hX.part [] 2 [0, 3, 5, 6, 9, 10] (l' := [(0, .v (.string ⟨⟨s_⟩⟩)), (3, .v (.int .i64 x6)), (5, .v (.int .i64 ((s_.length : Nat) : Int))), (6, .v (.int .i64 x6)), (9, .v (.string ⟨⟨s_⟩⟩)), (10, .v (.int .i64 x6))]) (B' := []) (by kernel_rfl) fun ρ w a hX => ?_
   obtain ⟨v7, hv7, h1⟩ := bnd_some h1
   refine hX.idxStr (lit := []) (by kernel_rfl) (by kernel_rfl) rfl (s := s_) (k := .i64) (n := x6) (b := v7) (by kernel_rfl) (by kernel_rfl) (by kernel_rfl) hv7 fun a hX => ?_
   refine hX.part [] 0 [0, 3, 5, 6, 11] (l' := [(0, .v (.string ⟨⟨s_⟩⟩)), (3, .v (.int .i64 x6)), (5, .v (.int .i64 ((s_.length : Nat) : Int))), (6, .v (.int .i64 x6)), (11, .v (.int .u8 v7))]) (B' := []) (by kernel_rfl) fun ρ w a hX => ?_
   obtain ⟨v8, hv8, h1⟩ := bnd_some h1
   refine Cx.call0 hX (lit := []) (by kernel_rfl) rfl (by kernel_rfl) ⟨⟨_, Tryz.func19, by kernel_rfl, rfl⟩⟩ (ss := [.v (.int .u8 v7)]) (by kernel_rfl) [.v (.int .u8 v7)] rfl (fun hg => hg) (fun hv hle hg => token_letter.ok v7 v8 hv8 _ _ hv (hG.mono hle) hg _) (fun s F w a hp hX => ?_)
   subst hp
   refine hX.part [] 2 [0, 3, 5, 6, 14] (l' := [(0, .v (.string ⟨⟨s_⟩⟩)), (3, .v (.int .i64 x6)), (5, .v (.int .i64 ((s_.length : Nat) : Int))), (6, .v (.int .i64 x6)), (14, .v (.bool (!v8)))]) (B' := []) (by kernel_rfl) fun ρ w a hX => ?_
   refine ite_go h1 (fun hb h1 => ?_) (fun hb h1 => ?_)
   ·have hX := hX.relit 14 hb (by kernel_rfl)
    refine hX.part [5] 2 [0, 3, 5, 6, 14, 15, 16] (l' := [(0, .v (.string ⟨⟨s_⟩⟩)), (3, .v (.int .i64 x6)), (5, .v (.int .i64 ((s_.length : Nat) : Int))), (6, .v (.int .i64 x6)), (14, .v (.bool true)), (15, .v (.string ⟨⟨s_⟩⟩)), (16, .v (.int .i64 x6))]) (B' := []) (by kernel_rfl) fun ρ w a hX => ?_
    obtain ⟨v9, hv9, h1⟩ := bnd_some h1
    refine hX.idxStr (lit := [5]) (by kernel_rfl) (by kernel_rfl) rfl (s := s_) (k := .i64) (n := x6) (b := v9) (by kernel_rfl) (by kernel_rfl) (by kernel_rfl) hv9 fun a hX => ?_
    refine hX.part [5] 0 [0, 3, 5, 6, 14, 17] (l' := [(0, .v (.string ⟨⟨s_⟩⟩)), (3, .v (.int .i64 x6)), (5, .v (.int .i64 ((s_.length : Nat) : Int))), (6, .v (.int .i64 x6)), (14, .v (.bool true)), (17, .v (.int .u8 v9))]) (B' := []) (by kernel_rfl) fun ρ w a hX => ?_
    obtain ⟨v10, hv10, h1⟩ := bnd_some h1
    refine Cx.call0 hX (lit := [5]) (by kernel_rfl) rfl (by kernel_rfl) ⟨⟨_, Tryz.func33, by kernel_rfl, rfl⟩⟩ (ss := [.v (.int .u8 v9)]) (by kernel_rfl) [.v (.int .u8 v9)] rfl (fun hg => hg) (fun hv hle hg => token_digit.ok v9 v10 hv10 _ _ hv (hG.mono hle) hg _) (fun s F w a hp hX => ?_)
    subst hp
    refine hX.part [5] 2 [0, 3, 5, 6, 20] (l' := [(0, .v (.string ⟨⟨s_⟩⟩)), (3, .v (.int .i64 x6)), (5, .v (.int .i64 ((s_.length : Nat) : Int))), (6, .v (.int .i64 x6)), (20, .v (.bool (!v10)))]) (B' := []) (by kernel_rfl) fun ρ w a hX => ?_
    refine wpList_end ?_
    have hX := hX.keeps [0, 3, 5, 6, 20] (l' := [(0, .v (.string ⟨⟨s_⟩⟩)), (3, .v (.int .i64 x6)), (5, .v (.int .i64 ((s_.length : Nat) : Int))), (6, .v (.int .i64 x6)), (20, .v (.bool (!v10)))]) (by kernel_rfl)
    exact J14 (!v10) h1  _ _ _ _ hX
   ·have hX := hX.relit 14 hb (by kernel_rfl)
    refine hX.part [5] 6 [0, 3, 5, 6, 20] (l' := [(0, .v (.string ⟨⟨s_⟩⟩)), (3, .v (.int .i64 x6)), (5, .v (.int .i64 ((s_.length : Nat) : Int))), (6, .v (.int .i64 x6)), (20, .v (.bool false))]) (B' := []) (by kernel_rfl) fun ρ w a hX => ?_
    refine wpList_end ?_
    have hX := hX.keeps [0, 3, 5, 6, 20] (l' := [(0, .v (.string ⟨⟨s_⟩⟩)), (3, .v (.int .i64 x6)), (5, .v (.int .i64 ((s_.length : Nat) : Int))), (6, .v (.int .i64 x6)), (20, .v (.bool false))]) (by kernel_rfl)
    exact J14 false h1  _ _ _ _ hX
  ·have h1 := ite_ff h1 hb
   refine wp_exit ?_
   have hX := hX.keeps [0] (l' := [(0, .v (.string ⟨⟨s_⟩⟩))]) (by kernel_rfl)
   exact E1x0 () (hx1 _ (out_eq h1)).symm  _ _ _ _ hX
 ·exact ⟨_, _, hX⟩
def strings_Contains (t : Str) (sub : Str) : Option (Bool) := if t.length < 4294967281 then some (Lib.contains t sub) else none
theorem strings_Contains.ok (t : Str) (sub : Str) (r : Bool) (h0 : strings_Contains t sub = some r) (w0 : World) (F0 : Heap) (hv : F0.Sub w0) (hG : Glob F0) (hg : SV.goods F0 [.v (.string ⟨⟨t⟩⟩), .v (.string ⟨⟨sub⟩⟩)]) (ρ : Nat → Nat) :
    Calls Tryz.prog 37 (SV.dens ρ [.v (.string ⟨⟨t⟩⟩), .v (.string ⟨⟨sub⟩⟩)]).toArray w0 (Ret0 w0 F0 fun s => s = .v (.bool r)) := by
  unfold strings_Contains at h0
  split at h0
  · rename_i hc
    cases h0
    obtain ⟨m, hm⟩ := hG.maxLen
    refine (Tryz.strings_Contains ⟨⟨t⟩⟩ ⟨⟨sub⟩⟩ m w0 hc (cellF_read hv hm)).mono fun e w' h => ?_
    exact Ret0.pure (s := .v _) hv h.1 h.2 trivial rfl rfl
  · cases h0
def token_among.j1 (x5 : Bool) : Option (Bool) :=
  some x5
def token_among (list : Str) (s_ : Str) : Option (Bool) :=
  if (!(s_ == ([] : Str))) = true then
    Option.bind (strings_Contains s_ ([32] : Str)) fun v1 =>
    if (!v1) = true then
      Option.bind (catS ([32] : Str) s_) fun v2 =>
      Option.bind (catS v2 ([32] : Str)) fun v3 =>
      Option.bind (strings_Contains list v3) fun v4 =>
      token_among.j1 v4
    else
      token_among.j1 false
  else
    token_among.j1 false
theorem token_among.ok (list : Str) (s_ : Str) (r : Bool) (h0 : token_among list s_ = some r) (w0 : World) (F0 : Heap) (hv : F0.Sub w0) (hG : Glob F0) (hg : SV.goods F0 [.v (.string ⟨⟨list⟩⟩), .v (.string ⟨⟨s_⟩⟩)]) (ρ : Nat → Nat) :
    Calls Tryz.prog 18 (SV.dens ρ [.v (.string ⟨⟨list⟩⟩), .v (.string ⟨⟨s_⟩⟩)]).toArray w0 (Ret0 w0 F0 fun s => s = .v (.bool r)) := by
 refine calls_of_wp Tryz.func18 rfl ?_
 have hX := Cx.enter (D := No) (B := []) (L := []) (ρ := ρ) (N := 19) Tryz.ntmps18 [.v (.string ⟨⟨list⟩⟩), .v (.string ⟨⟨s_⟩⟩)] (St.start hv) rfl hg (by kernel_rfl) (fun _ h => by cases h) (Nat.le_of_ble_eq_true rfl) No.unfix
 unfold token_among at h0
 refine Cx.rseq hX [] [0, 1] (l' := [(0, .v (.string ⟨⟨list⟩⟩)), (1, .v (.string ⟨⟨s_⟩⟩))]) (B' := []) (by kernel_rfl) fun ρ w a hX => ?_
 refine wp_seq_k fun K2 hK2 => ?_
 have J2 : ∀ (x5 : Bool), token_among.j1 x5 = some r → ∀ (ρ : Nat → Nat) (w : World) (F : Heap) (a : Act), Cx 19 w0 F0 No w F [] [] ρ [(4, .v (.bool x5))] a → K2 a w := by
  intro x5 h0  ρ w F a hX
  unfold token_among.j1 at h0
  refine hK2 _ _ ?_
  refine wp_ret ?_
  have hr := Option.some.inj (show some _ = some _ from h0)
  subst hr
  exact hX.ret0 (ss := [.v (.bool x5)]) (by kernel_rfl) (by kernel_rfl) rfl
 refine wp_region_list ?_
 refine hX.part [] 3 [0, 1, 7] (l' := [(0, .v (.string ⟨⟨list⟩⟩)), (1, .v (.string ⟨⟨s_⟩⟩)), (7, .v (.bool (!(s_ == ([] : Str)))))]) (B' := []) (by kernel_rfl) fun ρ w a hX => ?_
 refine ite_go h0 (fun hb h0 => ?_) (fun hb h0 => ?_)
 ·have hX := hX.relit 7 hb (by kernel_rfl)
  refine hX.part [2] 1 [0, 1, 7, 8] (l' := [(0, .v (.string ⟨⟨list⟩⟩)), (1, .v (.string ⟨⟨s_⟩⟩)), (7, .v (.bool true)), (8, .v (.string ⟨⟨s_⟩⟩))]) (B' := []) (by kernel_rfl) fun ρ w a hX => ?_
  obtain ⟨v1, hv1, h0⟩ := bnd_some h0
  refine Cx.call0 hX (lit := [2]) (by kernel_rfl) rfl (by kernel_rfl) ⟨⟨_, Tryz.func37, by kernel_rfl, rfl⟩⟩ (ss := [.v (.string ⟨⟨s_⟩⟩), .v (.string ⟨⟨([32] : Str)⟩⟩)]) (by kernel_rfl) [.v (.string ⟨⟨s_⟩⟩), .v (.string ⟨⟨([32] : Str)⟩⟩)] rfl (fun hg => hg) (fun hv hle hg => strings_Contains.ok s_ ([32] : Str) v1 hv1 _ _ hv (hG.mono hle) hg _) (fun s F w a hp hX => ?_)
  subst hp
  refine hX.part [2] 3 [0, 1, 12] (l' := [(0, .v (.string ⟨⟨list⟩⟩)), (1, .v (.string ⟨⟨s_⟩⟩)), (12, .v (.bool (!v1)))]) (B' := []) (by kernel_rfl) fun ρ w a hX => ?_
  refine ite_go h0 (fun hb h0 => ?_) (fun hb h0 => ?_)
  ·have hX := hX.relit 12 hb (by kernel_rfl)
   refine hX.part [7] 2 [12, 13, 14] (l' := [(12, .v (.bool true)), (13, .v (.string ⟨⟨list⟩⟩)), (14, .v (.string ⟨⟨s_⟩⟩))]) (B' := []) (by kernel_rfl) fun ρ w a hX => ?_
   obtain ⟨v2, hv2, h0⟩ := bnd_some h0
   refine hX.catStr (lit := [7]) (by kernel_rfl) (by kernel_rfl) rfl (s := ([32] : Str)) (t := s_) (r := v2) (by kernel_rfl) (by kernel_rfl) hv2 fun a hX => ?_
   refine hX.part [7] 0 [12, 13, 15] (l' := [(12, .v (.bool true)), (13, .v (.string ⟨⟨list⟩⟩)), (15, .v (.string ⟨⟨v2⟩⟩))]) (B' := []) (by kernel_rfl) fun ρ w a hX => ?_
   obtain ⟨v3, hv3, h0⟩ := bnd_some h0
   refine hX.catStr (lit := [7]) (by kernel_rfl) (by kernel_rfl) rfl (s := v2) (t := ([32] : Str)) (r := v3) (by kernel_rfl) (by kernel_rfl) hv3 fun a hX => ?_
   refine hX.part [7] 0 [12, 13, 16] (l' := [(12, .v (.bool true)), (13, .v (.string ⟨⟨list⟩⟩)), (16, .v (.string ⟨⟨v3⟩⟩))]) (B' := []) (by kernel_rfl) fun ρ w a hX => ?_
   obtain ⟨v4, hv4, h0⟩ := bnd_some h0
   refine Cx.call0 hX (lit := [7]) (by kernel_rfl) rfl (by kernel_rfl) ⟨⟨_, Tryz.func37, by kernel_rfl, rfl⟩⟩ (ss := [.v (.string ⟨⟨list⟩⟩), .v (.string ⟨⟨v3⟩⟩)]) (by kernel_rfl) [.v (.string ⟨⟨list⟩⟩), .v (.string ⟨⟨v3⟩⟩)] rfl (fun hg => hg) (fun hv hle hg => strings_Contains.ok list v3 v4 hv4 _ _ hv (hG.mono hle) hg _) (fun s F w a hp hX => ?_)
   subst hp
   refine hX.part [] 2 [4] (l' := [(4, .v (.bool v4))]) (B' := []) (by kernel_rfl) fun ρ w a hX => ?_
   refine wpList_end ?_
   have hX := hX.keeps [4] (l' := [(4, .v (.bool v4))]) (by kernel_rfl)
   exact J2 v4 h0  _ _ _ _ hX
  ·have hX := hX.relit 12 hb (by kernel_rfl)
   refine hX.part [7] 7 [4] (l' := [(4, .v (.bool false))]) (B' := []) (by kernel_rfl) fun ρ w a hX => ?_
   refine wpList_end ?_
   have hX := hX.keeps [4] (l' := [(4, .v (.bool false))]) (by kernel_rfl)
   exact J2 false h0  _ _ _ _ hX
 ·have hX := hX.relit 7 hb (by kernel_rfl)
  refine hX.part [2, 7] 12 [4] (l' := [(4, .v (.bool false))]) (B' := []) (by kernel_rfl) fun ρ w a hX => ?_
  refine wpList_end ?_
  have hX := hX.keeps [4] (l' := [(4, .v (.bool false))]) (by kernel_rfl)
  exact J2 false h0  _ _ _ _ hX
def token_IsWord (s_ : Str) : Option (Bool) :=
  Option.bind (token_among ([32, 98, 114, 101, 97, 107, 32, 99, 97, 115, 101, 32, 99, 97, 116, 99, 104, 32, 99, 108, 97, 115, 115, 32, 99, 111, 110, 115, 116, 32, 99, 111, 110, 116, 105, 110, 117, 101, 32, 100, 101, 98, 117, 103, 103, 101, 114, 32, 100, 101, 102, 97, 117, 108, 116, 32, 100, 101, 108, 101, 116, 101, 32, 100, 111, 32, 101, 108, 115, 101, 32, 101, 110, 117, 109, 32, 101, 120, 112, 111, 114, 116, 32, 101, 120, 116, 101, 110, 100, 115, 32, 102, 97, 108, 115, 101, 32, 102, 105, 110, 97, 108, 108, 121, 32, 102, 111, 114, 32, 102, 117, 110, 99, 116, 105, 111, 110, 32, 105, 102, 32, 105, 109, 112, 108, 101, 109, 101, 110, 116, 115, 32, 105, 109, 112, 111, 114, 116, 32, 105, 110, 32, 105, 110, 115, 116, 97, 110, 99, 101, 111, 102, 32, 105, 110, 116, 101, 114, 102, 97, 99, 101, 32, 108, 101, 116, 32, 110, 101, 119, 32, 110, 117, 108, 108, 32, 112, 97, 99, 107, 97, 103, 101, 32, 112, 114, 105, 118, 97, 116, 101, 32, 112, 114, 111, 116, 101, 99, 116, 101, 100, 32, 112, 117, 98, 108, 105, 99, 32, 114, 101, 116, 117, 114, 110, 32, 115, 116, 97, 116, 105, 99, 32, 115, 117, 112, 101, 114, 32, 115, 119, 105, 116, 99, 104, 32, 116, 104, 105, 115, 32, 116, 104, 114, 111, 119, 32, 116, 114, 117, 101, 32, 116, 114, 121, 32, 116, 121, 112, 101, 111, 102, 32, 118, 97, 114, 32, 118, 111, 105, 100, 32, 119, 104, 105, 108, 101, 32, 119, 105, 116, 104, 32, 121, 105, 101, 108, 100, 32] : Str) s_) fun v1 =>
  some v1
theorem token_IsWord.ok (s_ : Str) (r : Bool) (h0 : token_IsWord s_ = some r) (w0 : World) (F0 : Heap) (hv : F0.Sub w0) (hG : Glob F0) (hg : SV.goods F0 [.v (.string ⟨⟨s_⟩⟩)]) (ρ : Nat → Nat) :
    Calls Tryz.prog 8 (SV.dens ρ [.v (.string ⟨⟨s_⟩⟩)]).toArray w0 (Ret0 w0 F0 fun s => s = .v (.bool r)) := by
 refine calls_of_wp Tryz.func8 rfl ?_
 have hX := Cx.enter (D := No) (B := []) (L := []) (ρ := ρ) (N := 5) Tryz.ntmps8 [.v (.string ⟨⟨s_⟩⟩)] (St.start hv) rfl hg (by kernel_rfl) (fun _ h => by cases h) (Nat.le_of_ble_eq_true rfl) No.unfix
 unfold token_IsWord at h0
 refine Cx.rseq hX [] [0] (l' := [(0, .v (.string ⟨⟨s_⟩⟩))]) (B' := []) (by kernel_rfl) fun ρ w a hX => ?_
 refine wp_seq_k fun K2 hK2 => ?_
 refine wp_region_list ?_
 refine hX.part [] 1 [3] (l' := [(3, .v (.string ⟨⟨s_⟩⟩))]) (B' := []) (by kernel_rfl) fun ρ w a hX => ?_
 obtain ⟨v1, hv1, h0⟩ := bnd_some h0
 refine Cx.call0 hX (lit := []) (by kernel_rfl) rfl (by kernel_rfl) ⟨⟨_, Tryz.func18, by kernel_rfl, rfl⟩⟩ (ss := [.v (.string ⟨⟨([32, 98, 114, 101, 97, 107, 32, 99, 97, 115, 101, 32, 99, 97, 116, 99, 104, 32, 99, 108, 97, 115, 115, 32, 99, 111, 110, 115, 116, 32, 99, 111, 110, 116, 105, 110, 117, 101, 32, 100, 101, 98, 117, 103, 103, 101, 114, 32, 100, 101, 102, 97, 117, 108, 116, 32, 100, 101, 108, 101, 116, 101, 32, 100, 111, 32, 101, 108, 115, 101, 32, 101, 110, 117, 109, 32, 101, 120, 112, 111, 114, 116, 32, 101, 120, 116, 101, 110, 100, 115, 32, 102, 97, 108, 115, 101, 32, 102, 105, 110, 97, 108, 108, 121, 32, 102, 111, 114, 32, 102, 117, 110, 99, 116, 105, 111, 110, 32, 105, 102, 32, 105, 109, 112, 108, 101, 109, 101, 110, 116, 115, 32, 105, 109, 112, 111, 114, 116, 32, 105, 110, 32, 105, 110, 115, 116, 97, 110, 99, 101, 111, 102, 32, 105, 110, 116, 101, 114, 102, 97, 99, 101, 32, 108, 101, 116, 32, 110, 101, 119, 32, 110, 117, 108, 108, 32, 112, 97, 99, 107, 97, 103, 101, 32, 112, 114, 105, 118, 97, 116, 101, 32, 112, 114, 111, 116, 101, 99, 116, 101, 100, 32, 112, 117, 98, 108, 105, 99, 32, 114, 101, 116, 117, 114, 110, 32, 115, 116, 97, 116, 105, 99, 32, 115, 117, 112, 101, 114, 32, 115, 119, 105, 116, 99, 104, 32, 116, 104, 105, 115, 32, 116, 104, 114, 111, 119, 32, 116, 114, 117, 101, 32, 116, 114, 121, 32, 116, 121, 112, 101, 111, 102, 32, 118, 97, 114, 32, 118, 111, 105, 100, 32, 119, 104, 105, 108, 101, 32, 119, 105, 116, 104, 32, 121, 105, 101, 108, 100, 32] : Str)⟩⟩), .v (.string ⟨⟨s_⟩⟩)]) (by kernel_rfl) [.v (.string ⟨⟨([32, 98, 114, 101, 97, 107, 32, 99, 97, 115, 101, 32, 99, 97, 116, 99, 104, 32, 99, 108, 97, 115, 115, 32, 99, 111, 110, 115, 116, 32, 99, 111, 110, 116, 105, 110, 117, 101, 32, 100, 101, 98, 117, 103, 103, 101, 114, 32, 100, 101, 102, 97, 117, 108, 116, 32, 100, 101, 108, 101, 116, 101, 32, 100, 111, 32, 101, 108, 115, 101, 32, 101, 110, 117, 109, 32, 101, 120, 112, 111, 114, 116, 32, 101, 120, 116, 101, 110, 100, 115, 32, 102, 97, 108, 115, 101, 32, 102, 105, 110, 97, 108, 108, 121, 32, 102, 111, 114, 32, 102, 117, 110, 99, 116, 105, 111, 110, 32, 105, 102, 32, 105, 109, 112, 108, 101, 109, 101, 110, 116, 115, 32, 105, 109, 112, 111, 114, 116, 32, 105, 110, 32, 105, 110, 115, 116, 97, 110, 99, 101, 111, 102, 32, 105, 110, 116, 101, 114, 102, 97, 99, 101, 32, 108, 101, 116, 32, 110, 101, 119, 32, 110, 117, 108, 108, 32, 112, 97, 99, 107, 97, 103, 101, 32, 112, 114, 105, 118, 97, 116, 101, 32, 112, 114, 111, 116, 101, 99, 116, 101, 100, 32, 112, 117, 98, 108, 105, 99, 32, 114, 101, 116, 117, 114, 110, 32, 115, 116, 97, 116, 105, 99, 32, 115, 117, 112, 101, 114, 32, 115, 119, 105, 116, 99, 104, 32, 116, 104, 105, 115, 32, 116, 104, 114, 111, 119, 32, 116, 114, 117, 101, 32, 116, 114, 121, 32, 116, 121, 112, 101, 111, 102, 32, 118, 97, 114, 32, 118, 111, 105, 100, 32, 119, 104, 105, 108, 101, 32, 119, 105, 116, 104, 32, 121, 105, 101, 108, 100, 32] : Str)⟩⟩), .v (.string ⟨⟨s_⟩⟩)] rfl (fun hg => hg) (fun hv hle hg => token_among.ok ([32, 98, 114, 101, 97, 107, 32, 99, 97, 115, 101, 32, 99, 97, 116, 99, 104, 32, 99, 108, 97, 115, 115, 32, 99, 111, 110, 115, 116, 32, 99, 111, 110, 116, 105, 110, 117, 101, 32, 100, 101, 98, 117, 103, 103, 101, 114, 32, 100, 101, 102, 97, 117, 108, 116, 32, 100, 101, 108, 101, 116, 101, 32, 100, 111, 32, 101, 108, 115, 101, 32, 101, 110, 117, 109, 32, 101, 120, 112, 111, 114, 116, 32, 101, 120, 116, 101, 110, 100, 115, 32, 102, 97, 108, 115, 101, 32, 102, 105, 110, 97, 108, 108, 121, 32, 102, 111, 114, 32, 102, 117, 110, 99, 116, 105, 111, 110, 32, 105, 102, 32, 105, 109, 112, 108, 101, 109, 101, 110, 116, 115, 32, 105, 109, 112, 111, 114, 116, 32, 105, 110, 32, 105, 110, 115, 116, 97, 110, 99, 101, 111, 102, 32, 105, 110, 116, 101, 114, 102, 97, 99, 101, 32, 108, 101, 116, 32, 110, 101, 119, 32, 110, 117, 108, 108, 32, 112, 97, 99, 107, 97, 103, 101, 32, 112, 114, 105, 118, 97, 116, 101, 32, 112, 114, 111, 116, 101, 99, 116, 101, 100, 32, 112, 117, 98, 108, 105, 99, 32, 114, 101, 116, 117, 114, 110, 32, 115, 116, 97, 116, 105, 99, 32, 115, 117, 112, 101, 114, 32, 115, 119, 105, 116, 99, 104, 32, 116, 104, 105, 115, 32, 116, 104, 114, 111, 119, 32, 116, 114, 117, 101, 32, 116, 114, 121, 32, 116, 121, 112, 101, 111, 102, 32, 118, 97, 114, 32, 118, 111, 105, 100, 32, 119, 104, 105, 108, 101, 32, 119, 105, 116, 104, 32, 121, 105, 101, 108, 100, 32] : Str) s_ v1 hv1 _ _ hv (hG.mono hle) hg _) (fun s F w a hp hX => ?_)
 subst hp
 refine hX.part [] 1 [2] (l' := [(2, .v (.bool v1))]) (B' := []) (by kernel_rfl) fun ρ w a hX => ?_
 refine wpList_end ?_
 refine hK2 _ _ ?_
 refine wp_ret ?_
 have hr := Option.some.inj (show some _ = some _ from h0)
 subst hr
 exact hX.ret0 (ss := [.v (.bool v1)]) (by kernel_rfl) (by kernel_rfl) rfl
def internal_strconv_lower (c : Int) : Option (Int) :=
  some (IntKind.wrap .u8 ((BitVec.ofInt 8 c ||| BitVec.ofInt 8 32).toNat))
theorem internal_strconv_lower.ok (c : Int) (r : Int) (h0 : internal_strconv_lower c = some r) (w0 : World) (F0 : Heap) (hv : F0.Sub w0) (hG : Glob F0) (hg : SV.goods F0 [.v (.int .u8 c)]) (ρ : Nat → Nat) :
    Calls Tryz.prog 70 (SV.dens ρ [.v (.int .u8 c)]).toArray w0 (Ret0 w0 F0 fun s => s = .v (.int .u8 r)) := by
 refine calls_of_wp Tryz.func70 rfl ?_
 have hX := Cx.enter (D := No) (B := []) (L := []) (ρ := ρ) (N := 5) Tryz.ntmps70 [.v (.int .u8 c)] (St.start hv) rfl hg (by kernel_rfl) (fun _ h => by cases h) (Nat.le_of_ble_eq_true rfl) No.unfix
 unfold internal_strconv_lower at h0
 refine Cx.rseq hX [] [0] (l' := [(0, .v (.int .u8 c))]) (B' := []) (by kernel_rfl) fun ρ w a hX => ?_
 refine Cx.rseq hX [] [2] (l' := [(2, .v (.int .u8 (IntKind.wrap .u8 ((BitVec.ofInt 8 c ||| BitVec.ofInt 8 32).toNat))))]) (B' := []) (by kernel_rfl) fun ρ w a hX => ?_
 refine wp_ret ?_
 have hr := Option.some.inj (show some _ = some _ from h0)
 subst hr
 exact hX.ret0 (ss := [.v (.int .u8 (IntKind.wrap .u8 ((BitVec.ofInt 8 c ||| BitVec.ofInt 8 32).toNat)))]) (by kernel_rfl) (by kernel_rfl) rfl
def internal_strconv_underscoreOK.j8 (x33 : Int) (x46 : Int) : Option ((Int × Int) ⊕ ((Int) ⊕ (Bool))) :=
  some (.inl (x46, (IntKind.wrap .i64 (x33 + 1))))
def internal_strconv_underscoreOK.j7 (x5 : Str) (x32 : Int) (x33 : Int) (x44 : Bool) : Option ((Int × Int) ⊕ ((Int) ⊕ (Bool))) :=
  if x44 = true then
    internal_strconv_underscoreOK.j8 x33 48
  else
    Option.bind (getB x5 x33) fun v45 =>
    if (v45 == 95) = true then
      if (x32 != 48) = true then
        some (.inr (.inr false))
      else
        internal_strconv_underscoreOK.j8 x33 95
    else
      if (x32 == 95) = true then
        some (.inr (.inr false))
      else
        internal_strconv_underscoreOK.j8 x33 33
def internal_strconv_underscoreOK.l1 (x5 : Str) (x18 : Bool) (s : Int × Int) : Option ((Int × Int) ⊕ ((Int) ⊕ (Bool))) := match s with
  | (x32, x33) =>
  if (decide (x33 < ((x5.length : Nat) : Int))) = true then
    Option.bind (getB x5 x33) fun v34 =>
    if (decide (48 ≤ v34)) = true then
      Option.bind (getB x5 x33) fun v35 =>
      if (decide (v35 ≤ 57)) = true then
        internal_strconv_underscoreOK.j7 x5 x32 x33 true
      else
        if x18 = true then
          Option.bind (getB x5 x33) fun v36 =>
          Option.bind (internal_strconv_lower v36) fun v37 =>
          if (decide (97 ≤ v37)) = true then
            Option.bind (getB x5 x33) fun v38 =>
            Option.bind (internal_strconv_lower v38) fun v39 =>
            internal_strconv_underscoreOK.j7 x5 x32 x33 (decide (v39 ≤ 102))
          else
            internal_strconv_underscoreOK.j7 x5 x32 x33 false
        else
          internal_strconv_underscoreOK.j7 x5 x32 x33 false
    else
      if x18 = true then
        Option.bind (getB x5 x33) fun v40 =>
        Option.bind (internal_strconv_lower v40) fun v41 =>
        if (decide (97 ≤ v41)) = true then
          Option.bind (getB x5 x33) fun v42 =>
          Option.bind (internal_strconv_lower v42) fun v43 =>
          internal_strconv_underscoreOK.j7 x5 x32 x33 (decide (v43 ≤ 102))
        else
          internal_strconv_underscoreOK.j7 x5 x32 x33 false
      else
        internal_strconv_underscoreOK.j7 x5 x32 x33 false
  else
    some (.inr (.inl x32))
def internal_strconv_underscoreOK.j4 (x5 : Str) (x16 : Int) (x17 : Int) (x18 : Bool) : Option (Bool) :=
  Option.bind (loopM (internal_strconv_underscoreOK.l1 x5 x18) (x16, x17)) fun e => match e with
  | (.inl x49) =>
    some (x49 != 95)
  | (.inr r50) =>
    some r50
def internal_strconv_underscoreOK.j3 (x5 : Str) (x13 : Bool) : Option (Bool) :=
  if x13 = true then
    Option.bind (getB x5 1) fun v14 =>
    Option.bind (internal_strconv_lower v14) fun v15 =>
    internal_strconv_underscoreOK.j4 x5 48 2 (v15 == 120)
  else
    internal_strconv_underscoreOK.j4 x5 94 0 false
def internal_strconv_underscoreOK.j2 (x5 : Str) : Option (Bool) :=
  if (decide (((x5.length : Nat) : Int) ≥ 2)) = true then
    Option.bind (getB x5 0) fun v6 =>
    if (v6 == 48) = true then
      Option.bind (getB x5 1) fun v7 =>
      Option.bind (internal_strconv_lower v7) fun v8 =>
      if (v8 == 98) = true then
        internal_strconv_underscoreOK.j3 x5 true
      else
        Option.bind (getB x5 1) fun v9 =>
        Option.bind (internal_strconv_lower v9) fun v10 =>
        if (v10 == 111) = true then
          internal_strconv_underscoreOK.j3 x5 true
        else
          Option.bind (getB x5 1) fun v11 =>
          Option.bind (internal_strconv_lower v11) fun v12 =>
          internal_strconv_underscoreOK.j3 x5 (v12 == 120)
    else
      internal_strconv_underscoreOK.j3 x5 false
  else
    internal_strconv_underscoreOK.j3 x5 false
def internal_strconv_underscoreOK.j1 (s_ : Str) (x3 : Bool) : Option (Bool) :=
  if x3 = true then
    Option.bind (cutL s_ 1 ((s_.length : Nat) : Int)) fun v4 =>
    internal_strconv_underscoreOK.j2 v4
  else
    internal_strconv_underscoreOK.j2 s_
def internal_strconv_underscoreOK (s_ : Str) : Option (Bool) :=
  if (decide (((s_.length : Nat) : Int) ≥ 1)) = true then
    Option.bind (getB s_ 0) fun v1 =>
    if (v1 == 45) = true then
      internal_strconv_underscoreOK.j1 s_ true
    else
      Option.bind (getB s_ 0) fun v2 =>
      internal_strconv_underscoreOK.j1 s_ (v2 == 43)
  else
    internal_strconv_underscoreOK.j1 s_ false
theorem internal_strconv_underscoreOK.ok (s_ : Str) (r : Bool) (h0 : internal_strconv_underscoreOK s_ = some r) (w0 : World) (F0 : Heap) (hv : F0.Sub w0) (hG : Glob F0) (hg : SV.goods F0 [.v (.string ⟨⟨s_⟩⟩)]) (ρ : Nat → Nat) :
    Calls Tryz.prog 71 (SV.dens ρ [.v (.string ⟨⟨s_⟩⟩)]).toArray w0 (Ret0 w0 F0 fun s => s = .v (.bool r)) := by
 refine calls_of_wp Tryz.func71 rfl ?_
 have hX := Cx.enter (D := No) (B := []) (L := []) (ρ := ρ) (N := 94) Tryz.ntmps71 [.v (.string ⟨⟨s_⟩⟩)] (St.start hv) rfl hg (by kernel_rfl) (fun _ h => by cases h) (Nat.le_of_ble_eq_true rfl) No.unfix
 unfold internal_strconv_underscoreOK at h0
 refine Cx.rseq hX [] [0] (l' := [(0, .v (.string ⟨⟨s_⟩⟩))]) (B' := []) (by kernel_rfl) fun ρ w a hX => ?_
 refine Cx.rseq hX [] [0, 3] (l' := [(0, .v (.string ⟨⟨s_⟩⟩)), (3, .v (.int .i32 94))]) (B' := []) (by kernel_rfl) fun ρ w a hX => ?_
 refine Cx.rseq hX [] [0, 3, 4] (l' := [(0, .v (.string ⟨⟨s_⟩⟩)), (3, .v (.int .i32 94)), (4, .v (.int .i64 0))]) (B' := []) (by kernel_rfl) fun ρ w a hX => ?_
 refine wp_seq_k fun K4 hK4 => ?_
 have J4 : ∀ (x5 : Str), internal_strconv_underscoreOK.j2 x5 = some r → ∀ (ρ : Nat → Nat) (w : World) (F : Heap) (a : Act), Cx 94 w0 F0 No w F [] [] ρ [(0, .v (.string ⟨⟨x5⟩⟩)), (3, .v (.int .i32 94)), (4, .v (.int .i64 0))] a → K4 a w := by
  intro x5 h0  ρ w F a hX
  unfold internal_strconv_underscoreOK.j2 at h0
  refine hK4 _ _ ?_
  refine Cx.rseq hX [] [0, 3, 4, 5] (l' := [(0, .v (.string ⟨⟨x5⟩⟩)), (3, .v (.int .i32 94)), (4, .v (.int .i64 0)), (5, .v (.bool false))]) (B' := []) (by kernel_rfl) fun ρ w a hX => ?_
  refine wp_seq_k fun K7 hK7 => ?_
  have J7 : ∀ (x16 : Int) (x17 : Int) (x18 : Bool), internal_strconv_underscoreOK.j4 x5 x16 x17 x18 = some r → ∀ (ρ : Nat → Nat) (w : World) (F : Heap) (a : Act), Cx 94 w0 F0 No w F [] [] ρ [(0, .v (.string ⟨⟨x5⟩⟩)), (3, .v (.int .i32 x16)), (4, .v (.int .i64 x17)), (5, .v (.bool x18))] a → K7 a w := by
   intro x16 x17 x18 h0  ρ w F a hX
   unfold internal_strconv_underscoreOK.j4 at h0
   refine hK7 _ _ ?_
   refine wp_seq_k fun K11 hK11 => ?_
   refine wp_block ?_
   have hX := hX.keeps [0, 3, 4, 5] (l' := [(0, .v (.string ⟨⟨x5⟩⟩)), (3, .v (.int .i32 x16)), (4, .v (.int .i64 x17)), (5, .v (.bool x18))]) (by kernel_rfl)
   obtain ⟨e1, he1, h0⟩ := bnd_some h0
   have E1x0 : ∀ (x49 : Int), e1 = (.inl x49) → ∀ (ρ : Nat → Nat) (w : World) (F : Heap) (a : Act), Cx 94 w0 F0 No w F [] [] ρ [(3, .v (.int .i32 x49))] a → K11 a w := by
    intro x49 he  ρ w F a hX
    replace he := he.symm
    subst he
    (try dsimp only at h0)
    refine hK11 _ _ ?_
    refine Cx.rseq hX [] [2] (l' := [(2, .v (.bool (x49 != 95)))]) (B' := []) (by kernel_rfl) fun ρ w a hX => ?_
    refine wp_ret ?_
    have hr := Option.some.inj (show some _ = some _ from h0)
    subst hr
    exact hX.ret0 (ss := [.v (.bool (x49 != 95))]) (by kernel_rfl) (by kernel_rfl) rfl
   refine loop_go (fun (s : Int × Int) a w => match s with | (x32, x33) => ∃ (ρ : Nat → Nat) (F : Heap), Cx 94 w0 F0 No w F [] [] ρ [(0, .v (.string ⟨⟨x5⟩⟩)), (3, .v (.int .i32 x32)), (4, .v (.int .i64 x33)), (5, .v (.bool x18))] a) he1 (fun LW1 s o1 h1 hb1 hx1 a w hI => ?_) _ _ ?_
   ·obtain ⟨x32, x33⟩ := s
    obtain ⟨ρ, F, hX⟩ := hI
    unfold internal_strconv_underscoreOK.l1 at h1
    (try dsimp only at h1)
    refine wp_seq_k fun K27 hK27 => ?_
    refine Cx.rseq hX [] [0, 3, 4, 5, 54] (l' := [(0, .v (.string ⟨⟨x5⟩⟩)), (3, .v (.int .i32 x32)), (4, .v (.int .i64 x33)), (5, .v (.bool x18)), (54, .v (.bool (decide (x33 < ((x5.length : Nat) : Int)))))]) (B' := []) (by kernel_rfl) fun ρ w a hX => ?_
    refine Cx.cond hX (b := (decide (x33 < ((x5.length : Nat) : Int)))) (by kernel_rfl) (fun hb => ?_) (fun hb => ?_)
    ·have h1 := ite_tt h1 hb
     refine wp_skip ?_
     refine hK27 _ _ ?_
     refine wp_seq_k fun K29 hK29 => ?_
     have J29 : ∀ (x46 : Int), internal_strconv_underscoreOK.j8 x33 x46 = some o1 → ∀ (ρ : Nat → Nat) (w : World) (F : Heap) (a : Act), Cx 94 w0 F0 No w F [] [] ρ [(0, .v (.string ⟨⟨x5⟩⟩)), (3, .v (.int .i32 x46)), (4, .v (.int .i64 x33)), (5, .v (.bool x18))] a → K29 a w := by
      intro x46 h1  ρ w F a hX
      unfold internal_strconv_underscoreOK.j8 at h1
      refine hK29 _ _ ?_
      refine Cx.region hX [] [0, 3, 4, 5] (l' := [(0, .v (.string ⟨⟨x5⟩⟩)), (3, .v (.int .i32 x46)), (4, .v (.int .i64 (IntKind.wrap .i64 (x33 + 1)))), (5, .v (.bool x18))]) (B' := []) (by kernel_rfl) fun ρ w a hX => ?_
      have hX := hX.keeps [0, 3, 4, 5] (l' := [(0, .v (.string ⟨⟨x5⟩⟩)), (3, .v (.int .i32 x46)), (4, .v (.int .i64 (IntKind.wrap .i64 (x33 + 1)))), (5, .v (.bool x18))]) (by kernel_rfl)
      exact hb1 (x46, (IntKind.wrap .i64 (x33 + 1))) (out_eq h1) _ _ ⟨_, _, hX⟩
     refine wp_block ?_
     refine wp_seq_k fun K30 hK30 => ?_
     refine wp_seq_k fun K31 hK31 => ?_
     have J31 : ∀ (x44 : Bool), internal_strconv_underscoreOK.j7 x5 x32 x33 x44 = some o1 → ∀ (ρ : Nat → Nat) (w : World) (F : Heap) (a : Act), Cx 94 w0 F0 No w F [] [] ρ [(0, .v (.string ⟨⟨x5⟩⟩)), (3, .v (.int .i32 x32)), (4, .v (.int .i64 x33)), (5, .v (.bool x18)), (83, .v (.bool x44))] a → K31 a w := by
      intro x44 h1  ρ w F a hX
      unfold internal_strconv_underscoreOK.j7 at h1
      refine hK31 _ _ ?_
      refine Cx.cond hX (b := x44) (by kernel_rfl) (fun hb => ?_) (fun hb => ?_)
      ·have h1 := ite_tt h1 hb
       refine Cx.rseq hX [] [0, 3, 4, 5] (l' := [(0, .v (.string ⟨⟨x5⟩⟩)), (3, .v (.int .i32 48)), (4, .v (.int .i64 x33)), (5, .v (.bool x18))]) (B' := []) (by kernel_rfl) fun ρ w a hX => ?_
       refine wp_exit ?_
       have hX := hX.keeps [0, 3, 4, 5] (l' := [(0, .v (.string ⟨⟨x5⟩⟩)), (3, .v (.int .i32 48)), (4, .v (.int .i64 x33)), (5, .v (.bool x18))]) (by kernel_rfl)
       exact J29 48 h1  _ _ _ _ hX
      ·have h1 := ite_ff h1 hb
       refine wp_skip ?_
       refine hK30 _ _ ?_
       refine wp_seq_k fun K33 hK33 => ?_
       refine wp_seq_k fun K34 hK34 => ?_
       refine wp_region_list ?_
       refine hX.part [] 2 [0, 3, 4, 5, 84, 85] (l' := [(0, .v (.string ⟨⟨x5⟩⟩)), (3, .v (.int .i32 x32)), (4, .v (.int .i64 x33)), (5, .v (.bool x18)), (84, .v (.string ⟨⟨x5⟩⟩)), (85, .v (.int .i64 x33))]) (B' := []) (by kernel_rfl) fun ρ w a hX => ?_
       obtain ⟨v45, hv45, h1⟩ := bnd_some h1
       refine hX.idxStr (lit := []) (by kernel_rfl) (by kernel_rfl) rfl (s := x5) (k := .i64) (n := x33) (b := v45) (by kernel_rfl) (by kernel_rfl) (by kernel_rfl) hv45 fun a hX => ?_
       refine hX.part [] 1 [0, 3, 4, 5, 87] (l' := [(0, .v (.string ⟨⟨x5⟩⟩)), (3, .v (.int .i32 x32)), (4, .v (.int .i64 x33)), (5, .v (.bool x18)), (87, .v (.bool (v45 == 95)))]) (B' := []) (by kernel_rfl) fun ρ w a hX => ?_
       refine wpList_end ?_
       refine hK34 _ _ ?_
       refine Cx.cond hX (b := (v45 == 95)) (by kernel_rfl) (fun hb => ?_) (fun hb => ?_)
       ·have h1 := ite_tt h1 hb
        refine wp_seq_k fun K35 hK35 => ?_
        refine Cx.rseq hX [] [0, 4, 5, 89] (l' := [(0, .v (.string ⟨⟨x5⟩⟩)), (4, .v (.int .i64 x33)), (5, .v (.bool x18)), (89, .v (.bool (x32 != 48)))]) (B' := []) (by kernel_rfl) fun ρ w a hX => ?_
        refine Cx.cond hX (b := (x32 != 48)) (by kernel_rfl) (fun hb => ?_) (fun hb => ?_)
        ·have h1 := ite_tt h1 hb
         refine Cx.rseq hX [] [2] (l' := [(2, .v (.bool false))]) (B' := []) (by kernel_rfl) fun ρ w a hX => ?_
         refine wp_ret ?_
         have he := hx1 _ (out_eq h1)
         subst he
         (try dsimp only at h0)
         have hr := Option.some.inj (show some _ = some _ from h0)
         subst hr
         exact hX.ret0 (ss := [.v (.bool false)]) (by kernel_rfl) (by kernel_rfl) rfl
        ·have h1 := ite_ff h1 hb
         refine wp_skip ?_
         refine hK35 _ _ ?_
         refine Cx.rseq hX [] [0, 3, 4, 5] (l' := [(0, .v (.string ⟨⟨x5⟩⟩)), (3, .v (.int .i32 95)), (4, .v (.int .i64 x33)), (5, .v (.bool x18))]) (B' := []) (by kernel_rfl) fun ρ w a hX => ?_
         refine wp_exit ?_
         have hX := hX.keeps [0, 3, 4, 5] (l' := [(0, .v (.string ⟨⟨x5⟩⟩)), (3, .v (.int .i32 95)), (4, .v (.int .i64 x33)), (5, .v (.bool x18))]) (by kernel_rfl)
         exact J29 95 h1  _ _ _ _ hX
       ·have h1 := ite_ff h1 hb
        refine wp_skip ?_
        refine hK33 _ _ ?_
        refine wp_seq_k fun K39 hK39 => ?_
        refine Cx.rseq hX [] [0, 4, 5, 91] (l' := [(0, .v (.string ⟨⟨x5⟩⟩)), (4, .v (.int .i64 x33)), (5, .v (.bool x18)), (91, .v (.bool (x32 == 95)))]) (B' := []) (by kernel_rfl) fun ρ w a hX => ?_
        refine Cx.cond hX (b := (x32 == 95)) (by kernel_rfl) (fun hb => ?_) (fun hb => ?_)
        ·have h1 := ite_tt h1 hb
         refine Cx.rseq hX [] [2] (l' := [(2, .v (.bool false))]) (B' := []) (by kernel_rfl) fun ρ w a hX => ?_
         refine wp_ret ?_
         have he := hx1 _ (out_eq h1)
         subst he
         (try dsimp only at h0)
         have hr := Option.some.inj (show some _ = some _ from h0)
         subst hr
         exact hX.ret0 (ss := [.v (.bool false)]) (by kernel_rfl) (by kernel_rfl) rfl
        ·have h1 := ite_ff h1 hb
         refine wp_skip ?_
         refine hK39 _ _ ?_
         refine Cx.region hX [] [0, 3, 4, 5] (l' := [(0, .v (.string ⟨⟨x5⟩⟩)), (3, .v (.int .i32 33)), (4, .v (.int .i64 x33)), (5, .v (.bool x18))]) (B' := []) (by kernel_rfl) fun ρ w a hX => ?_
         have hX := hX.keeps [0, 3, 4, 5] (l' := [(0, .v (.string ⟨⟨x5⟩⟩)), (3, .v (.int .i32 33)), (4, .v (.int .i64 x33)), (5, .v (.bool x18))]) (by kernel_rfl)
         exact J29 33 h1  _ _ _ _ hX
     refine wp_region_list ?_
     refine hX.part [] 2 [0, 3, 4, 5, 57, 58] (l' := [(0, .v (.string ⟨⟨x5⟩⟩)), (3, .v (.int .i32 x32)), (4, .v (.int .i64 x33)), (5, .v (.bool x18)), (57, .v (.string ⟨⟨x5⟩⟩)), (58, .v (.int .i64 x33))]) (B' := []) (by kernel_rfl) fun ρ w a hX => ?_
     obtain ⟨v34, hv34, h1⟩ := bnd_some h1
     refine hX.idxStr (lit := []) (by kernel_rfl) (by kernel_rfl) rfl (s := x5) (k := .i64) (n := x33) (b := v34) (by kernel_rfl) (by kernel_rfl) (by kernel_rfl) hv34 fun a hX => ?_
     refine hX.part [] 2 [0, 3, 4, 5, 61] (l' := [(0, .v (.string ⟨⟨x5⟩⟩)), (3, .v (.int .i32 x32)), (4, .v (.int .i64 x33)), (5, .v (.bool x18)), (61, .v (.bool (decide (48 ≤ v34))))]) (B' := []) (by kernel_rfl) fun ρ w a hX => ?_
     refine ite_go h1 (fun hb h1 => ?_) (fun hb h1 => ?_)
     ·have hX := hX.relit 61 hb (by kernel_rfl)
      refine hX.part [4] 2 [0, 3, 4, 5, 61, 62, 63] (l' := [(0, .v (.string ⟨⟨x5⟩⟩)), (3, .v (.int .i32 x32)), (4, .v (.int .i64 x33)), (5, .v (.bool x18)), (61, .v (.bool true)), (62, .v (.string ⟨⟨x5⟩⟩)), (63, .v (.int .i64 x33))]) (B' := []) (by kernel_rfl) fun ρ w a hX => ?_
      obtain ⟨v35, hv35, h1⟩ := bnd_some h1
      refine hX.idxStr (lit := [4]) (by kernel_rfl) (by kernel_rfl) rfl (s := x5) (k := .i64) (n := x33) (b := v35) (by kernel_rfl) (by kernel_rfl) (by kernel_rfl) hv35 fun a hX => ?_
      refine hX.part [4] 3 [0, 3, 4, 5, 67] (l' := [(0, .v (.string ⟨⟨x5⟩⟩)), (3, .v (.int .i32 x32)), (4, .v (.int .i64 x33)), (5, .v (.bool x18)), (67, .v (.bool (decide (v35 ≤ 57))))]) (B' := []) (by kernel_rfl) fun ρ w a hX => ?_
      refine ite_go h1 (fun hb h1 => ?_) (fun hb h1 => ?_)
      ·have hX := hX.relit 67 hb (by kernel_rfl)
       refine hX.part [10, 12, 19] 16 [0, 3, 4, 5, 83] (l' := [(0, .v (.string ⟨⟨x5⟩⟩)), (3, .v (.int .i32 x32)), (4, .v (.int .i64 x33)), (5, .v (.bool x18)), (83, .v (.bool true))]) (B' := []) (by kernel_rfl) fun ρ w a hX => ?_
       refine wpList_end ?_
       have hX := hX.keeps [0, 3, 4, 5, 83] (l' := [(0, .v (.string ⟨⟨x5⟩⟩)), (3, .v (.int .i32 x32)), (4, .v (.int .i64 x33)), (5, .v (.bool x18)), (83, .v (.bool true))]) (by kernel_rfl)
       exact J31 true h1  _ _ _ _ hX
      ·have hX := hX.relit 67 hb (by kernel_rfl)
       refine hX.part [10] 2 [0, 3, 4, 5, 67, 69] (l' := [(0, .v (.string ⟨⟨x5⟩⟩)), (3, .v (.int .i32 x32)), (4, .v (.int .i64 x33)), (5, .v (.bool x18)), (67, .v (.bool false)), (69, .v (.bool x18))]) (B' := []) (by kernel_rfl) fun ρ w a hX => ?_
       refine ite_go h1 (fun hb h1 => ?_) (fun hb h1 => ?_)
       ·have hX := hX.relit 69 hb (by kernel_rfl)
        refine hX.part [12] 2 [0, 3, 4, 5, 67, 69, 70, 71] (l' := [(0, .v (.string ⟨⟨x5⟩⟩)), (3, .v (.int .i32 x32)), (4, .v (.int .i64 x33)), (5, .v (.bool x18)), (67, .v (.bool false)), (69, .v (.bool true)), (70, .v (.string ⟨⟨x5⟩⟩)), (71, .v (.int .i64 x33))]) (B' := []) (by kernel_rfl) fun ρ w a hX => ?_
        obtain ⟨v36, hv36, h1⟩ := bnd_some h1
        refine hX.idxStr (lit := [12]) (by kernel_rfl) (by kernel_rfl) rfl (s := x5) (k := .i64) (n := x33) (b := v36) (by kernel_rfl) (by kernel_rfl) (by kernel_rfl) hv36 fun a hX => ?_
        refine hX.part [12] 0 [0, 3, 4, 5, 67, 69, 72] (l' := [(0, .v (.string ⟨⟨x5⟩⟩)), (3, .v (.int .i32 x32)), (4, .v (.int .i64 x33)), (5, .v (.bool x18)), (67, .v (.bool false)), (69, .v (.bool true)), (72, .v (.int .u8 v36))]) (B' := []) (by kernel_rfl) fun ρ w a hX => ?_
        obtain ⟨v37, hv37, h1⟩ := bnd_some h1
        refine Cx.call0 hX (lit := [12]) (by kernel_rfl) rfl (by kernel_rfl) ⟨⟨_, Tryz.func70, by kernel_rfl, rfl⟩⟩ (ss := [.v (.int .u8 v36)]) (by kernel_rfl) [.v (.int .u8 v36)] rfl (fun hg => hg) (fun hv hle hg => internal_strconv_lower.ok v36 v37 hv37 _ _ hv (hG.mono hle) hg _) (fun s F w a hp hX => ?_)
        subst hp
        refine hX.part [10, 12] 3 [0, 3, 4, 5, 67, 76] (l' := [(0, .v (.string ⟨⟨x5⟩⟩)), (3, .v (.int .i32 x32)), (4, .v (.int .i64 x33)), (5, .v (.bool x18)), (67, .v (.bool false)), (76, .v (.bool (decide (97 ≤ v37))))]) (B' := []) (by kernel_rfl) fun ρ w a hX => ?_
        refine ite_go h1 (fun hb h1 => ?_) (fun hb h1 => ?_)
        ·have hX := hX.relit 76 hb (by kernel_rfl)
         refine hX.part [19] 2 [0, 3, 4, 5, 67, 76, 77, 78] (l' := [(0, .v (.string ⟨⟨x5⟩⟩)), (3, .v (.int .i32 x32)), (4, .v (.int .i64 x33)), (5, .v (.bool x18)), (67, .v (.bool false)), (76, .v (.bool true)), (77, .v (.string ⟨⟨x5⟩⟩)), (78, .v (.int .i64 x33))]) (B' := []) (by kernel_rfl) fun ρ w a hX => ?_
         obtain ⟨v38, hv38, h1⟩ := bnd_some h1
         refine hX.idxStr (lit := [19]) (by kernel_rfl) (by kernel_rfl) rfl (s := x5) (k := .i64) (n := x33) (b := v38) (by kernel_rfl) (by kernel_rfl) (by kernel_rfl) hv38 fun a hX => ?_
         refine hX.part [19] 0 [0, 3, 4, 5, 67, 76, 79] (l' := [(0, .v (.string ⟨⟨x5⟩⟩)), (3, .v (.int .i32 x32)), (4, .v (.int .i64 x33)), (5, .v (.bool x18)), (67, .v (.bool false)), (76, .v (.bool true)), (79, .v (.int .u8 v38))]) (B' := []) (by kernel_rfl) fun ρ w a hX => ?_
         obtain ⟨v39, hv39, h1⟩ := bnd_some h1
         refine Cx.call0 hX (lit := [19]) (by kernel_rfl) rfl (by kernel_rfl) ⟨⟨_, Tryz.func70, by kernel_rfl, rfl⟩⟩ (ss := [.v (.int .u8 v38)]) (by kernel_rfl) [.v (.int .u8 v38)] rfl (fun hg => hg) (fun hv hle hg => internal_strconv_lower.ok v38 v39 hv39 _ _ hv (hG.mono hle) hg _) (fun s F w a hp hX => ?_)
         subst hp
         refine hX.part [10, 19] 3 [0, 3, 4, 5, 83] (l' := [(0, .v (.string ⟨⟨x5⟩⟩)), (3, .v (.int .i32 x32)), (4, .v (.int .i64 x33)), (5, .v (.bool x18)), (83, .v (.bool (decide (v39 ≤ 102))))]) (B' := []) (by kernel_rfl) fun ρ w a hX => ?_
         refine wpList_end ?_
         have hX := hX.keeps [0, 3, 4, 5, 83] (l' := [(0, .v (.string ⟨⟨x5⟩⟩)), (3, .v (.int .i32 x32)), (4, .v (.int .i64 x33)), (5, .v (.bool x18)), (83, .v (.bool (decide (v39 ≤ 102))))]) (by kernel_rfl)
         exact J31 (decide (v39 ≤ 102)) h1  _ _ _ _ hX
        ·have hX := hX.relit 76 hb (by kernel_rfl)
         refine hX.part [10, 19] 7 [0, 3, 4, 5, 83] (l' := [(0, .v (.string ⟨⟨x5⟩⟩)), (3, .v (.int .i32 x32)), (4, .v (.int .i64 x33)), (5, .v (.bool x18)), (83, .v (.bool false))]) (B' := []) (by kernel_rfl) fun ρ w a hX => ?_
         refine wpList_end ?_
         have hX := hX.keeps [0, 3, 4, 5, 83] (l' := [(0, .v (.string ⟨⟨x5⟩⟩)), (3, .v (.int .i32 x32)), (4, .v (.int .i64 x33)), (5, .v (.bool x18)), (83, .v (.bool false))]) (by kernel_rfl)
         exact J31 false h1  _ _ _ _ hX
       ·have hX := hX.relit 69 hb (by kernel_rfl)
        refine hX.part [10, 12, 19] 14 [0, 3, 4, 5, 83] (l' := [(0, .v (.string ⟨⟨x5⟩⟩)), (3, .v (.int .i32 x32)), (4, .v (.int .i64 x33)), (5, .v (.bool x18)), (83, .v (.bool false))]) (B' := []) (by kernel_rfl) fun ρ w a hX => ?_
        refine wpList_end ?_
        have hX := hX.keeps [0, 3, 4, 5, 83] (l' := [(0, .v (.string ⟨⟨x5⟩⟩)), (3, .v (.int .i32 x32)), (4, .v (.int .i64 x33)), (5, .v (.bool x18)), (83, .v (.bool false))]) (by kernel_rfl)
        exact J31 false h1  _ _ _ _ hX
     ·have hX := hX.relit 61 hb (by kernel_rfl)
      refine hX.part [4, 10] 8 [0, 3, 4, 5, 67, 69] (l' := [(0, .v (.string ⟨⟨x5⟩⟩)), (3, .v (.int .i32 x32)), (4, .v (.int .i64 x33)), (5, .v (.bool x18)), (67, .v (.bool false)), (69, .v (.bool x18))]) (B' := []) (by kernel_rfl) fun ρ w a hX => ?_
      refine ite_go h1 (fun hb h1 => ?_) (fun hb h1 => ?_)
      ·have hX := hX.relit 69 hb (by kernel_rfl)
       refine hX.part [12] 2 [0, 3, 4, 5, 67, 69, 70, 71] (l' := [(0, .v (.string ⟨⟨x5⟩⟩)), (3, .v (.int .i32 x32)), (4, .v (.int .i64 x33)), (5, .v (.bool x18)), (67, .v (.bool false)), (69, .v (.bool true)), (70, .v (.string ⟨⟨x5⟩⟩)), (71, .v (.int .i64 x33))]) (B' := []) (by kernel_rfl) fun ρ w a hX => ?_
       obtain ⟨v40, hv40, h1⟩ := bnd_some h1
       refine hX.idxStr (lit := [12]) (by kernel_rfl) (by kernel_rfl) rfl (s := x5) (k := .i64) (n := x33) (b := v40) (by kernel_rfl) (by kernel_rfl) (by kernel_rfl) hv40 fun a hX => ?_
       refine hX.part [12] 0 [0, 3, 4, 5, 67, 69, 72] (l' := [(0, .v (.string ⟨⟨x5⟩⟩)), (3, .v (.int .i32 x32)), (4, .v (.int .i64 x33)), (5, .v (.bool x18)), (67, .v (.bool false)), (69, .v (.bool true)), (72, .v (.int .u8 v40))]) (B' := []) (by kernel_rfl) fun ρ w a hX => ?_
       obtain ⟨v41, hv41, h1⟩ := bnd_some h1
       refine Cx.call0 hX (lit := [12]) (by kernel_rfl) rfl (by kernel_rfl) ⟨⟨_, Tryz.func70, by kernel_rfl, rfl⟩⟩ (ss := [.v (.int .u8 v40)]) (by kernel_rfl) [.v (.int .u8 v40)] rfl (fun hg => hg) (fun hv hle hg => internal_strconv_lower.ok v40 v41 hv41 _ _ hv (hG.mono hle) hg _) (fun s F w a hp hX => ?_)
       subst hp
       refine hX.part [10, 12] 3 [0, 3, 4, 5, 67, 76] (l' := [(0, .v (.string ⟨⟨x5⟩⟩)), (3, .v (.int .i32 x32)), (4, .v (.int .i64 x33)), (5, .v (.bool x18)), (67, .v (.bool false)), (76, .v (.bool (decide (97 ≤ v41))))]) (B' := []) (by kernel_rfl) fun ρ w a hX => ?_
       refine ite_go h1 (fun hb h1 => ?_) (fun hb h1 => ?_)
       ·have hX := hX.relit 76 hb (by kernel_rfl)
        refine hX.part [19] 2 [0, 3, 4, 5, 67, 76, 77, 78] (l' := [(0, .v (.string ⟨⟨x5⟩⟩)), (3, .v (.int .i32 x32)), (4, .v (.int .i64 x33)), (5, .v (.bool x18)), (67, .v (.bool false)), (76, .v (.bool true)), (77, .v (.string ⟨⟨x5⟩⟩)), (78, .v (.int .i64 x33))]) (B' := []) (by kernel_rfl) fun ρ w a hX => ?_
        obtain ⟨v42, hv42, h1⟩ := bnd_some h1
        refine hX.idxStr (lit := [19]) (by kernel_rfl) (by kernel_rfl) rfl (s := x5) (k := .i64) (n := x33) (b := v42) (by kernel_rfl) (by kernel_rfl) (by kernel_rfl) hv42 fun a hX => ?_
        refine hX.part [19] 0 [0, 3, 4, 5, 67, 76, 79] (l' := [(0, .v (.string ⟨⟨x5⟩⟩)), (3, .v (.int .i32 x32)), (4, .v (.int .i64 x33)), (5, .v (.bool x18)), (67, .v (.bool false)), (76, .v (.bool true)), (79, .v (.int .u8 v42))]) (B' := []) (by kernel_rfl) fun ρ w a hX => ?_
        obtain ⟨v43, hv43, h1⟩ := bnd_some h1
        refine Cx.call0 hX (lit := [19]) (by kernel_rfl) rfl (by kernel_rfl) ⟨⟨_, Tryz.func70, by kernel_rfl, rfl⟩⟩ (ss := [.v (.int .u8 v42)]) (by kernel_rfl) [.v (.int .u8 v42)] rfl (fun hg => hg) (fun hv hle hg => internal_strconv_lower.ok v42 v43 hv43 _ _ hv (hG.mono hle) hg _) (fun s F w a hp hX => ?_)
        subst hp
        refine hX.part [10, 19] 3 [0, 3, 4, 5, 83] (l' := [(0, .v (.string ⟨⟨x5⟩⟩)), (3, .v (.int .i32 x32)), (4, .v (.int .i64 x33)), (5, .v (.bool x18)), (83, .v (.bool (decide (v43 ≤ 102))))]) (B' := []) (by kernel_rfl) fun ρ w a hX => ?_
        refine wpList_end ?_
        have hX := hX.keeps [0, 3, 4, 5, 83] (l' := [(0, .v (.string ⟨⟨x5⟩⟩)), (3, .v (.int .i32 x32)), (4, .v (.int .i64 x33)), (5, .v (.bool x18)), (83, .v (.bool (decide (v43 ≤ 102))))]) (by kernel_rfl)
        exact J31 (decide (v43 ≤ 102)) h1  _ _ _ _ hX
       ·have hX := hX.relit 76 hb (by kernel_rfl)
        refine hX.part [10, 19] 7 [0, 3, 4, 5, 83] (l' := [(0, .v (.string ⟨⟨x5⟩⟩)), (3, .v (.int .i32 x32)), (4, .v (.int .i64 x33)), (5, .v (.bool x18)), (83, .v (.bool false))]) (B' := []) (by kernel_rfl) fun ρ w a hX => ?_
        refine wpList_end ?_
        have hX := hX.keeps [0, 3, 4, 5, 83] (l' := [(0, .v (.string ⟨⟨x5⟩⟩)), (3, .v (.int .i32 x32)), (4, .v (.int .i64 x33)), (5, .v (.bool x18)), (83, .v (.bool false))]) (by kernel_rfl)
        exact J31 false h1  _ _ _ _ hX
      ·have hX := hX.relit 69 hb (by kernel_rfl)
       refine hX.part [10, 12, 19] 14 [0, 3, 4, 5, 83] (l' := [(0, .v (.string ⟨⟨x5⟩⟩)), (3, .v (.int .i32 x32)), (4, .v (.int .i64 x33)), (5, .v (.bool x18)), (83, .v (.bool false))]) (B' := []) (by kernel_rfl) fun ρ w a hX => ?_
       refine wpList_end ?_
       have hX := hX.keeps [0, 3, 4, 5, 83] (l' := [(0, .v (.string ⟨⟨x5⟩⟩)), (3, .v (.int .i32 x32)), (4, .v (.int .i64 x33)), (5, .v (.bool x18)), (83, .v (.bool false))]) (by kernel_rfl)
       exact J31 false h1  _ _ _ _ hX
    ·have h1 := ite_ff h1 hb
     refine wp_exit ?_
     have hX := hX.keeps [3] (l' := [(3, .v (.int .i32 x32))]) (by kernel_rfl)
     exact E1x0 x32 (hx1 _ (out_eq h1)).symm  _ _ _ _ hX
   ·exact ⟨_, _, hX⟩
  refine wp_seq_k fun K8 hK8 => ?_
  have J8 : ∀ (x13 : Bool), internal_strconv_underscoreOK.j3 x5 x13 = some r → ∀ (ρ : Nat → Nat) (w : World) (F : Heap) (a : Act), Cx 94 w0 F0 No w F [] [] ρ [(0, .v (.string ⟨⟨x5⟩⟩)), (3, .v (.int .i32 94)), (4, .v (.int .i64 0)), (5, .v (.bool false)), (46, .v (.bool x13))] a → K8 a w := by
   intro x13 h0  ρ w F a hX
   unfold internal_strconv_underscoreOK.j3 at h0
   refine hK8 _ _ ?_
   refine Cx.cond hX (b := x13) (by kernel_rfl) (fun hb => ?_) (fun hb => ?_)
   ·have h0 := ite_tt h0 hb
    refine Cx.rseq hX [] [0, 4] (l' := [(0, .v (.string ⟨⟨x5⟩⟩)), (4, .v (.int .i64 2))]) (B' := []) (by kernel_rfl) fun ρ w a hX => ?_
    refine Cx.rseq hX [] [0, 3, 4] (l' := [(0, .v (.string ⟨⟨x5⟩⟩)), (3, .v (.int .i32 48)), (4, .v (.int .i64 2))]) (B' := []) (by kernel_rfl) fun ρ w a hX => ?_
    refine wp_region_list ?_
    refine hX.part [] 1 [0, 3, 4, 47] (l' := [(0, .v (.string ⟨⟨x5⟩⟩)), (3, .v (.int .i32 48)), (4, .v (.int .i64 2)), (47, .v (.string ⟨⟨x5⟩⟩))]) (B' := []) (by kernel_rfl) fun ρ w a hX => ?_
    obtain ⟨v14, hv14, h0⟩ := bnd_some h0
    refine hX.idxStr (lit := []) (by kernel_rfl) (by kernel_rfl) rfl (s := x5) (k := .i64) (n := 1) (b := v14) (by kernel_rfl) (by kernel_rfl) (by kernel_rfl) hv14 fun a hX => ?_
    refine hX.part [] 0 [0, 3, 4, 48] (l' := [(0, .v (.string ⟨⟨x5⟩⟩)), (3, .v (.int .i32 48)), (4, .v (.int .i64 2)), (48, .v (.int .u8 v14))]) (B' := []) (by kernel_rfl) fun ρ w a hX => ?_
    obtain ⟨v15, hv15, h0⟩ := bnd_some h0
    refine Cx.call0 hX (lit := []) (by kernel_rfl) rfl (by kernel_rfl) ⟨⟨_, Tryz.func70, by kernel_rfl, rfl⟩⟩ (ss := [.v (.int .u8 v14)]) (by kernel_rfl) [.v (.int .u8 v14)] rfl (fun hg => hg) (fun hv hle hg => internal_strconv_lower.ok v14 v15 hv15 _ _ hv (hG.mono hle) hg _) (fun s F w a hp hX => ?_)
    subst hp
    refine hX.part [] 2 [0, 3, 4, 5] (l' := [(0, .v (.string ⟨⟨x5⟩⟩)), (3, .v (.int .i32 48)), (4, .v (.int .i64 2)), (5, .v (.bool (v15 == 120)))]) (B' := []) (by kernel_rfl) fun ρ w a hX => ?_
    refine wpList_end ?_
    have hX := hX.keeps [0, 3, 4, 5] (l' := [(0, .v (.string ⟨⟨x5⟩⟩)), (3, .v (.int .i32 48)), (4, .v (.int .i64 2)), (5, .v (.bool (v15 == 120)))]) (by kernel_rfl)
    exact J7 48 2 (v15 == 120) h0  _ _ _ _ hX
   ·have h0 := ite_ff h0 hb
    refine wp_skip ?_
    have hX := hX.keeps [0, 3, 4, 5] (l' := [(0, .v (.string ⟨⟨x5⟩⟩)), (3, .v (.int .i32 94)), (4, .v (.int .i64 0)), (5, .v (.bool false))]) (by kernel_rfl)
    exact J7 94 0 false h0  _ _ _ _ hX
  refine wp_region_list ?_
  refine hX.part [] 4 [0, 3, 4, 5, 24] (l' := [(0, .v (.string ⟨⟨x5⟩⟩)), (3, .v (.int .i32 94)), (4, .v (.int .i64 0)), (5, .v (.bool false)), (24, .v (.bool (decide (((x5.length : Nat) : Int) ≥ 2))))]) (B' := []) (by kernel_rfl) fun ρ w a hX => ?_
  refine ite_go h0 (fun hb h0 => ?_) (fun hb h0 => ?_)
  ·have hX := hX.relit 24 hb (by kernel_rfl)
   refine hX.part [3] 1 [0, 3, 4, 5, 24, 25] (l' := [(0, .v (.string ⟨⟨x5⟩⟩)), (3, .v (.int .i32 94)), (4, .v (.int .i64 0)), (5, .v (.bool false)), (24, .v (.bool true)), (25, .v (.string ⟨⟨x5⟩⟩))]) (B' := []) (by kernel_rfl) fun ρ w a hX => ?_
   obtain ⟨v6, hv6, h0⟩ := bnd_some h0
   refine hX.idxStr (lit := [3]) (by kernel_rfl) (by kernel_rfl) rfl (s := x5) (k := .i64) (n := 0) (b := v6) (by kernel_rfl) (by kernel_rfl) (by kernel_rfl) hv6 fun a hX => ?_
   refine hX.part [3] 3 [0, 3, 4, 5, 29] (l' := [(0, .v (.string ⟨⟨x5⟩⟩)), (3, .v (.int .i32 94)), (4, .v (.int .i64 0)), (5, .v (.bool false)), (29, .v (.bool (v6 == 48)))]) (B' := []) (by kernel_rfl) fun ρ w a hX => ?_
   refine ite_go h0 (fun hb h0 => ?_) (fun hb h0 => ?_)
   ·have hX := hX.relit 29 hb (by kernel_rfl)
    refine hX.part [8] 1 [0, 3, 4, 5, 29, 30] (l' := [(0, .v (.string ⟨⟨x5⟩⟩)), (3, .v (.int .i32 94)), (4, .v (.int .i64 0)), (5, .v (.bool false)), (29, .v (.bool true)), (30, .v (.string ⟨⟨x5⟩⟩))]) (B' := []) (by kernel_rfl) fun ρ w a hX => ?_
    obtain ⟨v7, hv7, h0⟩ := bnd_some h0
    refine hX.idxStr (lit := [8]) (by kernel_rfl) (by kernel_rfl) rfl (s := x5) (k := .i64) (n := 1) (b := v7) (by kernel_rfl) (by kernel_rfl) (by kernel_rfl) hv7 fun a hX => ?_
    refine hX.part [8] 0 [0, 3, 4, 5, 29, 31] (l' := [(0, .v (.string ⟨⟨x5⟩⟩)), (3, .v (.int .i32 94)), (4, .v (.int .i64 0)), (5, .v (.bool false)), (29, .v (.bool true)), (31, .v (.int .u8 v7))]) (B' := []) (by kernel_rfl) fun ρ w a hX => ?_
    obtain ⟨v8, hv8, h0⟩ := bnd_some h0
    refine Cx.call0 hX (lit := [8]) (by kernel_rfl) rfl (by kernel_rfl) ⟨⟨_, Tryz.func70, by kernel_rfl, rfl⟩⟩ (ss := [.v (.int .u8 v7)]) (by kernel_rfl) [.v (.int .u8 v7)] rfl (fun hg => hg) (fun hv hle hg => internal_strconv_lower.ok v7 v8 hv8 _ _ hv (hG.mono hle) hg _) (fun s F w a hp hX => ?_)
    subst hp
    refine hX.part [8] 2 [0, 3, 4, 5, 29, 34] (l' := [(0, .v (.string ⟨⟨x5⟩⟩)), (3, .v (.int .i32 94)), (4, .v (.int .i64 0)), (5, .v (.bool false)), (29, .v (.bool true)), (34, .v (.bool (v8 == 98)))]) (B' := []) (by kernel_rfl) fun ρ w a hX => ?_
    refine ite_go h0 (fun hb h0 => ?_) (fun hb h0 => ?_)
    ·have hX := hX.relit 34 hb (by kernel_rfl)
     refine hX.part [8, 13, 19] 12 [0, 3, 4, 5, 46] (l' := [(0, .v (.string ⟨⟨x5⟩⟩)), (3, .v (.int .i32 94)), (4, .v (.int .i64 0)), (5, .v (.bool false)), (46, .v (.bool true))]) (B' := []) (by kernel_rfl) fun ρ w a hX => ?_
     refine wpList_end ?_
     have hX := hX.keeps [0, 3, 4, 5, 46] (l' := [(0, .v (.string ⟨⟨x5⟩⟩)), (3, .v (.int .i32 94)), (4, .v (.int .i64 0)), (5, .v (.bool false)), (46, .v (.bool true))]) (by kernel_rfl)
     exact J8 true h0  _ _ _ _ hX
    ·have hX := hX.relit 34 hb (by kernel_rfl)
     refine hX.part [13] 1 [0, 3, 4, 5, 29, 34, 35] (l' := [(0, .v (.string ⟨⟨x5⟩⟩)), (3, .v (.int .i32 94)), (4, .v (.int .i64 0)), (5, .v (.bool false)), (29, .v (.bool true)), (34, .v (.bool false)), (35, .v (.string ⟨⟨x5⟩⟩))]) (B' := []) (by kernel_rfl) fun ρ w a hX => ?_
     obtain ⟨v9, hv9, h0⟩ := bnd_some h0
     refine hX.idxStr (lit := [13]) (by kernel_rfl) (by kernel_rfl) rfl (s := x5) (k := .i64) (n := 1) (b := v9) (by kernel_rfl) (by kernel_rfl) (by kernel_rfl) hv9 fun a hX => ?_
     refine hX.part [13] 0 [0, 3, 4, 5, 29, 34, 36] (l' := [(0, .v (.string ⟨⟨x5⟩⟩)), (3, .v (.int .i32 94)), (4, .v (.int .i64 0)), (5, .v (.bool false)), (29, .v (.bool true)), (34, .v (.bool false)), (36, .v (.int .u8 v9))]) (B' := []) (by kernel_rfl) fun ρ w a hX => ?_
     obtain ⟨v10, hv10, h0⟩ := bnd_some h0
     refine Cx.call0 hX (lit := [13]) (by kernel_rfl) rfl (by kernel_rfl) ⟨⟨_, Tryz.func70, by kernel_rfl, rfl⟩⟩ (ss := [.v (.int .u8 v9)]) (by kernel_rfl) [.v (.int .u8 v9)] rfl (fun hg => hg) (fun hv hle hg => internal_strconv_lower.ok v9 v10 hv10 _ _ hv (hG.mono hle) hg _) (fun s F w a hp hX => ?_)
     subst hp
     refine hX.part [8, 13] 3 [0, 3, 4, 5, 29, 40] (l' := [(0, .v (.string ⟨⟨x5⟩⟩)), (3, .v (.int .i32 94)), (4, .v (.int .i64 0)), (5, .v (.bool false)), (29, .v (.bool true)), (40, .v (.bool (v10 == 111)))]) (B' := []) (by kernel_rfl) fun ρ w a hX => ?_
     refine ite_go h0 (fun hb h0 => ?_) (fun hb h0 => ?_)
     ·have hX := hX.relit 40 hb (by kernel_rfl)
      refine hX.part [8, 19] 6 [0, 3, 4, 5, 46] (l' := [(0, .v (.string ⟨⟨x5⟩⟩)), (3, .v (.int .i32 94)), (4, .v (.int .i64 0)), (5, .v (.bool false)), (46, .v (.bool true))]) (B' := []) (by kernel_rfl) fun ρ w a hX => ?_
      refine wpList_end ?_
      have hX := hX.keeps [0, 3, 4, 5, 46] (l' := [(0, .v (.string ⟨⟨x5⟩⟩)), (3, .v (.int .i32 94)), (4, .v (.int .i64 0)), (5, .v (.bool false)), (46, .v (.bool true))]) (by kernel_rfl)
      exact J8 true h0  _ _ _ _ hX
     ·have hX := hX.relit 40 hb (by kernel_rfl)
      refine hX.part [19] 1 [0, 3, 4, 5, 29, 40, 41] (l' := [(0, .v (.string ⟨⟨x5⟩⟩)), (3, .v (.int .i32 94)), (4, .v (.int .i64 0)), (5, .v (.bool false)), (29, .v (.bool true)), (40, .v (.bool false)), (41, .v (.string ⟨⟨x5⟩⟩))]) (B' := []) (by kernel_rfl) fun ρ w a hX => ?_
      obtain ⟨v11, hv11, h0⟩ := bnd_some h0
      refine hX.idxStr (lit := [19]) (by kernel_rfl) (by kernel_rfl) rfl (s := x5) (k := .i64) (n := 1) (b := v11) (by kernel_rfl) (by kernel_rfl) (by kernel_rfl) hv11 fun a hX => ?_
      refine hX.part [19] 0 [0, 3, 4, 5, 29, 40, 42] (l' := [(0, .v (.string ⟨⟨x5⟩⟩)), (3, .v (.int .i32 94)), (4, .v (.int .i64 0)), (5, .v (.bool false)), (29, .v (.bool true)), (40, .v (.bool false)), (42, .v (.int .u8 v11))]) (B' := []) (by kernel_rfl) fun ρ w a hX => ?_
      obtain ⟨v12, hv12, h0⟩ := bnd_some h0
      refine Cx.call0 hX (lit := [19]) (by kernel_rfl) rfl (by kernel_rfl) ⟨⟨_, Tryz.func70, by kernel_rfl, rfl⟩⟩ (ss := [.v (.int .u8 v11)]) (by kernel_rfl) [.v (.int .u8 v11)] rfl (fun hg => hg) (fun hv hle hg => internal_strconv_lower.ok v11 v12 hv12 _ _ hv (hG.mono hle) hg _) (fun s F w a hp hX => ?_)
      subst hp
      refine hX.part [8, 19] 3 [0, 3, 4, 5, 46] (l' := [(0, .v (.string ⟨⟨x5⟩⟩)), (3, .v (.int .i32 94)), (4, .v (.int .i64 0)), (5, .v (.bool false)), (46, .v (.bool (v12 == 120)))]) (B' := []) (by kernel_rfl) fun ρ w a hX => ?_
      refine wpList_end ?_
      have hX := hX.keeps [0, 3, 4, 5, 46] (l' := [(0, .v (.string ⟨⟨x5⟩⟩)), (3, .v (.int .i32 94)), (4, .v (.int .i64 0)), (5, .v (.bool false)), (46, .v (.bool (v12 == 120)))]) (by kernel_rfl)
      exact J8 (v12 == 120) h0  _ _ _ _ hX
   ·have hX := hX.relit 29 hb (by kernel_rfl)
    refine hX.part [8, 13, 19] 17 [0, 3, 4, 5, 46] (l' := [(0, .v (.string ⟨⟨x5⟩⟩)), (3, .v (.int .i32 94)), (4, .v (.int .i64 0)), (5, .v (.bool false)), (46, .v (.bool false))]) (B' := []) (by kernel_rfl) fun ρ w a hX => ?_
    refine wpList_end ?_
    have hX := hX.keeps [0, 3, 4, 5, 46] (l' := [(0, .v (.string ⟨⟨x5⟩⟩)), (3, .v (.int .i32 94)), (4, .v (.int .i64 0)), (5, .v (.bool false)), (46, .v (.bool false))]) (by kernel_rfl)
    exact J8 false h0  _ _ _ _ hX
  ·have hX := hX.relit 24 hb (by kernel_rfl)
   refine hX.part [3, 8, 13, 19] 22 [0, 3, 4, 5, 46] (l' := [(0, .v (.string ⟨⟨x5⟩⟩)), (3, .v (.int .i32 94)), (4, .v (.int .i64 0)), (5, .v (.bool false)), (46, .v (.bool false))]) (B' := []) (by kernel_rfl) fun ρ w a hX => ?_
   refine wpList_end ?_
   have hX := hX.keeps [0, 3, 4, 5, 46] (l' := [(0, .v (.string ⟨⟨x5⟩⟩)), (3, .v (.int .i32 94)), (4, .v (.int .i64 0)), (5, .v (.bool false)), (46, .v (.bool false))]) (by kernel_rfl)
   exact J8 false h0  _ _ _ _ hX
 refine wp_seq_k fun K5 hK5 => ?_
 have J5 : ∀ (x3 : Bool), internal_strconv_underscoreOK.j1 s_ x3 = some r → ∀ (ρ : Nat → Nat) (w : World) (F : Heap) (a : Act), Cx 94 w0 F0 No w F [] [] ρ [(0, .v (.string ⟨⟨s_⟩⟩)), (3, .v (.int .i32 94)), (4, .v (.int .i64 0)), (18, .v (.bool x3))] a → K5 a w := by
  intro x3 h0  ρ w F a hX
  unfold internal_strconv_underscoreOK.j1 at h0
  refine hK5 _ _ ?_
  refine Cx.cond hX (b := x3) (by kernel_rfl) (fun hb => ?_) (fun hb => ?_)
  ·have h0 := ite_tt h0 hb
   refine wp_region_list ?_
   refine hX.part [] 1 [0, 3, 4, 19] (l' := [(0, .v (.string ⟨⟨s_⟩⟩)), (3, .v (.int .i32 94)), (4, .v (.int .i64 0)), (19, .v (.string ⟨⟨s_⟩⟩))]) (B' := []) (by kernel_rfl) fun ρ w a hX => ?_
   obtain ⟨v4, hv4, h0⟩ := bnd_some h0
   refine hX.cutStr (lit := []) (by kernel_rfl) (by kernel_rfl) rfl (s := s_) (ol := some 1) (oh := none) (r := v4) (by kernel_rfl) (by kernel_rfl) (by kernel_rfl) (by kernel_rfl) hv4 fun a hX => ?_
   refine hX.part [] 1 [0, 3, 4] (l' := [(0, .v (.string ⟨⟨v4⟩⟩)), (3, .v (.int .i32 94)), (4, .v (.int .i64 0))]) (B' := []) (by kernel_rfl) fun ρ w a hX => ?_
   refine wpList_end ?_
   have hX := hX.keeps [0, 3, 4] (l' := [(0, .v (.string ⟨⟨v4⟩⟩)), (3, .v (.int .i32 94)), (4, .v (.int .i64 0))]) (by kernel_rfl)
   exact J4 v4 h0  _ _ _ _ hX
  ·have h0 := ite_ff h0 hb
   refine wp_skip ?_
   have hX := hX.keeps [0, 3, 4] (l' := [(0, .v (.string ⟨⟨s_⟩⟩)), (3, .v (.int .i32 94)), (4, .v (.int .i64 0))]) (by kernel_rfl)
   exact J4 s_ h0  _ _ _ _ hX
 refine wp_region_list ?_
 refine hX.part [] 4 [0, 3, 4, 9] (l' := [(0, .v (.string ⟨⟨s_⟩⟩)), (3, .v (.int .i32 94)), (4, .v (.int .i64 0)), (9, .v (.bool (decide (((s_.length : Nat) : Int) ≥ 1))))]) (B' := []) (by kernel_rfl) fun ρ w a hX => ?_
 refine ite_go h0 (fun hb h0 => ?_) (fun hb h0 => ?_)
 ·have hX := hX.relit 9 hb (by kernel_rfl)
  refine hX.part [3] 1 [0, 3, 4, 9, 10] (l' := [(0, .v (.string ⟨⟨s_⟩⟩)), (3, .v (.int .i32 94)), (4, .v (.int .i64 0)), (9, .v (.bool true)), (10, .v (.string ⟨⟨s_⟩⟩))]) (B' := []) (by kernel_rfl) fun ρ w a hX => ?_
  obtain ⟨v1, hv1, h0⟩ := bnd_some h0
  refine hX.idxStr (lit := [3]) (by kernel_rfl) (by kernel_rfl) rfl (s := s_) (k := .i64) (n := 0) (b := v1) (by kernel_rfl) (by kernel_rfl) (by kernel_rfl) hv1 fun a hX => ?_
  refine hX.part [3] 2 [0, 3, 4, 9, 13] (l' := [(0, .v (.string ⟨⟨s_⟩⟩)), (3, .v (.int .i32 94)), (4, .v (.int .i64 0)), (9, .v (.bool true)), (13, .v (.bool (v1 == 45)))]) (B' := []) (by kernel_rfl) fun ρ w a hX => ?_
  refine ite_go h0 (fun hb h0 => ?_) (fun hb h0 => ?_)
  ·have hX := hX.relit 13 hb (by kernel_rfl)
   refine hX.part [3, 7] 5 [0, 3, 4, 18] (l' := [(0, .v (.string ⟨⟨s_⟩⟩)), (3, .v (.int .i32 94)), (4, .v (.int .i64 0)), (18, .v (.bool true))]) (B' := []) (by kernel_rfl) fun ρ w a hX => ?_
   refine wpList_end ?_
   have hX := hX.keeps [0, 3, 4, 18] (l' := [(0, .v (.string ⟨⟨s_⟩⟩)), (3, .v (.int .i32 94)), (4, .v (.int .i64 0)), (18, .v (.bool true))]) (by kernel_rfl)
   exact J5 true h0  _ _ _ _ hX
  ·have hX := hX.relit 13 hb (by kernel_rfl)
   refine hX.part [7] 1 [0, 3, 4, 9, 13, 14] (l' := [(0, .v (.string ⟨⟨s_⟩⟩)), (3, .v (.int .i32 94)), (4, .v (.int .i64 0)), (9, .v (.bool true)), (13, .v (.bool false)), (14, .v (.string ⟨⟨s_⟩⟩))]) (B' := []) (by kernel_rfl) fun ρ w a hX => ?_
   obtain ⟨v2, hv2, h0⟩ := bnd_some h0
   refine hX.idxStr (lit := [7]) (by kernel_rfl) (by kernel_rfl) rfl (s := s_) (k := .i64) (n := 0) (b := v2) (by kernel_rfl) (by kernel_rfl) (by kernel_rfl) hv2 fun a hX => ?_
   refine hX.part [3, 7] 3 [0, 3, 4, 18] (l' := [(0, .v (.string ⟨⟨s_⟩⟩)), (3, .v (.int .i32 94)), (4, .v (.int .i64 0)), (18, .v (.bool (v2 == 43)))]) (B' := []) (by kernel_rfl) fun ρ w a hX => ?_
   refine wpList_end ?_
   have hX := hX.keeps [0, 3, 4, 18] (l' := [(0, .v (.string ⟨⟨s_⟩⟩)), (3, .v (.int .i32 94)), (4, .v (.int .i64 0)), (18, .v (.bool (v2 == 43)))]) (by kernel_rfl)
   exact J5 (v2 == 43) h0  _ _ _ _ hX
 ·have hX := hX.relit 9 hb (by kernel_rfl)
  refine hX.part [3, 7] 9 [0, 3, 4, 18] (l' := [(0, .v (.string ⟨⟨s_⟩⟩)), (3, .v (.int .i32 94)), (4, .v (.int .i64 0)), (18, .v (.bool false))]) (B' := []) (by kernel_rfl) fun ρ w a hX => ?_
  refine wpList_end ?_
  have hX := hX.keeps [0, 3, 4, 18] (l' := [(0, .v (.string ⟨⟨s_⟩⟩)), (3, .v (.int .i32 94)), (4, .v (.int .i64 0)), (18, .v (.bool false))]) (by kernel_rfl)
  exact J5 false h0  _ _ _ _ hX
def internal_strconv_ParseUint_c53.j11 (x35 : Int) (x45 : Bool) (x46 : Int) : Option ((Bool × Int × Int) ⊕ ((Bool × Int) ⊕ (Int × GErr))) :=
  some (.inl (x45, x46, (IntKind.wrap .i64 (x35 + 1))))
def internal_strconv_ParseUint_c53.j10 (x16 : Int) (x18 : Int) (v19 : Int) (x33 : Bool) (x34 : Int) (x35 : Int) (x44 : Int) : Option ((Bool × Int × Int) ⊕ ((Bool × Int) ⊕ (Int × GErr))) :=
  if (decide (x44 ≥ (IntKind.wrap .u8 x16))) = true then
    some (.inr (.inr (0, (GErr.code 99 2))))
  else
    if (decide (x34 ≥ x18)) = true then
      some (.inr (.inr ((IntKind.wrap .u64 (v19 - 1)), (GErr.code 99 1))))
    else
      if ((decide ((IntKind.wrap .u64 ((IntKind.wrap .u64 (x34 * (IntKind.wrap .u64 x16))) + (IntKind.wrap .u64 x44))) < (IntKind.wrap .u64 (x34 * (IntKind.wrap .u64 x16))))) || (decide ((IntKind.wrap .u64 ((IntKind.wrap .u64 (x34 * (IntKind.wrap .u64 x16))) + (IntKind.wrap .u64 x44))) > (IntKind.wrap .u64 (v19 - 1))))) = true then
        some (.inr (.inr ((IntKind.wrap .u64 (v19 - 1)), (GErr.code 99 1))))
      else
        internal_strconv_ParseUint_c53.j11 x35 x33 (IntKind.wrap .u64 ((IntKind.wrap .u64 (x34 * (IntKind.wrap .u64 x16))) + (IntKind.wrap .u64 x44)))
def internal_strconv_ParseUint_c53.j9 (x16 : Int) (x18 : Int) (v19 : Int) (x33 : Bool) (x34 : Int) (x35 : Int) (v36 : UInt8) (x42 : Bool) : Option ((Bool × Int × Int) ⊕ ((Bool × Int) ⊕ (Int × GErr))) :=
  if x42 = true then
    Option.bind (internal_strconv_lower ((v36.toNat : Nat) : Int)) fun v43 =>
    internal_strconv_ParseUint_c53.j10 x16 x18 v19 x33 x34 x35 (IntKind.wrap .u8 ((IntKind.wrap .u8 (v43 - 97)) + 10))
  else
    some (.inr (.inr (0, (GErr.code 99 2))))
def internal_strconv_ParseUint_c53.l1 (o : Int) (x15 : Str) (x16 : Int) (x18 : Int) (v19 : Int) (s : Bool × Int × Int) : Option ((Bool × Int × Int) ⊕ ((Bool × Int) ⊕ (Int × GErr))) := match s with
  | (x33, x34, x35) =>
  if (decide (x35 < ((x15.length : Nat) : Int))) = true then
    Option.bind (getI x15 x35) fun v36 =>
    if ((((v36.toNat : Nat) : Int) == 95) && (o == 0)) = true then
      internal_strconv_ParseUint_c53.j11 x35 true x34
    else
      if ((decide (48 ≤ ((v36.toNat : Nat) : Int))) && (decide (((v36.toNat : Nat) : Int) ≤ 57))) = true then
        internal_strconv_ParseUint_c53.j10 x16 x18 v19 x33 x34 x35 (IntKind.wrap .u8 (((v36.toNat : Nat) : Int) - 48))
      else
        Option.bind (internal_strconv_lower ((v36.toNat : Nat) : Int)) fun v40 =>
        if (decide (97 ≤ v40)) = true then
          Option.bind (internal_strconv_lower ((v36.toNat : Nat) : Int)) fun v41 =>
          internal_strconv_ParseUint_c53.j9 x16 x18 v19 x33 x34 x35 v36 (decide (v41 ≤ 122))
        else
          internal_strconv_ParseUint_c53.j9 x16 x18 v19 x33 x34 x35 v36 false
  else
    some (.inr (.inl (x33, x34)))
def internal_strconv_ParseUint_c53.j12 (x51 : Int) (x54 : Bool) : Option (Int × GErr) :=
  if x54 = true then
    some (0, (GErr.code 99 2))
  else
    some (x51, GErr.nil)
def internal_strconv_ParseUint_c53.j5 (t : Str) (o : Int) (x15 : Str) (x16 : Int) (x18 : Int) : Option (Int × GErr) :=
  Option.bind (shlI .u64 1 53) fun v19 =>
  Option.bind (loopM (internal_strconv_ParseUint_c53.l1 o x15 x16 x18 v19) (false, 0, 0)) fun e => match e with
  | (.inl (x50, x51)) =>
    if x50 = true then
      Option.bind (internal_strconv_underscoreOK t) fun v53 =>
      internal_strconv_ParseUint_c53.j12 x51 (!v53)
    else
      internal_strconv_ParseUint_c53.j12 x51 false
  | (.inr r52) =>
    some r52
def internal_strconv_ParseUint_c53.j4 (t : Str) (o : Int) (x15 : Str) (x16 : Int) : Option (Int × GErr) :=
  if (x16 == 10) = true then
    internal_strconv_ParseUint_c53.j5 t o x15 x16 1844674407370955162
  else
    if (x16 == 16) = true then
      internal_strconv_ParseUint_c53.j5 t o x15 x16 1152921504606846976
    else
      Option.bind (quoI .u64 18446744073709551615 (IntKind.wrap .u64 x16)) fun v17 =>
      internal_strconv_ParseUint_c53.j5 t o x15 x16 (IntKind.wrap .u64 (v17 + 1))
def internal_strconv_ParseUint_c53.j3 (t : Str) (o : Int) (x12 : Bool) : Option (Int × GErr) :=
  if x12 = true then
    Option.bind (cutL t 2 ((t.length : Nat) : Int)) fun v13 =>
    internal_strconv_ParseUint_c53.j4 t o v13 16
  else
    Option.bind (cutL t 1 ((t.length : Nat) : Int)) fun v14 =>
    internal_strconv_ParseUint_c53.j4 t o v14 8
def internal_strconv_ParseUint_c53.j2 (t : Str) (o : Int) (x8 : Bool) : Option (Int × GErr) :=
  if x8 = true then
    Option.bind (cutL t 2 ((t.length : Nat) : Int)) fun v9 =>
    internal_strconv_ParseUint_c53.j4 t o v9 8
  else
    if (decide (((t.length : Nat) : Int) ≥ 3)) = true then
      Option.bind (getB t 1) fun v10 =>
      Option.bind (internal_strconv_lower v10) fun v11 =>
      internal_strconv_ParseUint_c53.j3 t o (v11 == 120)
    else
      internal_strconv_ParseUint_c53.j3 t o false
def internal_strconv_ParseUint_c53.j1 (t : Str) (o : Int) (x4 : Bool) : Option (Int × GErr) :=
  if x4 = true then
    Option.bind (cutL t 2 ((t.length : Nat) : Int)) fun v5 =>
    internal_strconv_ParseUint_c53.j4 t o v5 2
  else
    if (decide (((t.length : Nat) : Int) ≥ 3)) = true then
      Option.bind (getB t 1) fun v6 =>
      Option.bind (internal_strconv_lower v6) fun v7 =>
      internal_strconv_ParseUint_c53.j2 t o (v7 == 111)
    else
      internal_strconv_ParseUint_c53.j2 t o false
def internal_strconv_ParseUint_c53 (t : Str) (o : Int) : Option (Int × GErr) :=
  if (t == ([] : Str)) = true then
    some (0, (GErr.code 99 2))
  else
    if ((decide (2 ≤ o)) && (decide (o ≤ 36))) = true then
      internal_strconv_ParseUint_c53.j4 t o t o
    else
      if (o == 0) = true then
        Option.bind (getB t 0) fun v1 =>
        if (v1 == 48) = true then
          if (decide (((t.length : Nat) : Int) ≥ 3)) = true then
            Option.bind (getB t 1) fun v2 =>
            Option.bind (internal_strconv_lower v2) fun v3 =>
            internal_strconv_ParseUint_c53.j1 t o (v3 == 98)
          else
            internal_strconv_ParseUint_c53.j1 t o false
        else
          internal_strconv_ParseUint_c53.j4 t o t 10
      else
        some (0, (GErr.code 99 3))
theorem internal_strconv_ParseUint_c53.ok (t : Str) (o : Int) (r : Int × GErr) (h0 : internal_strconv_ParseUint_c53 t o = some r) (w0 : World) (F0 : Heap) (hv : F0.Sub w0) (hG : Glob F0) (hg : SV.goods F0 [.v (.string ⟨⟨t⟩⟩), .v (.int .i64 o), .v (.int .i64 53)]) (ρ : Nat → Nat) :
    Calls Tryz.prog 62 (SV.dens ρ [.v (.string ⟨⟨t⟩⟩), .v (.int .i64 o), .v (.int .i64 53)]).toArray w0 (Ret0 w0 F0 fun s => ∃ s1 s2, s = .tup [s1, s2] ∧ (s1 = .v (.int .u64 r.1)) ∧ (∃ q, s2 = .v (errV r.2 q))) := by
 refine calls_of_wp Tryz.func62 rfl ?_
 have hX := Cx.enter (D := No) (B := []) (L := []) (ρ := ρ) (N := 172) Tryz.ntmps62 [.v (.string ⟨⟨t⟩⟩), .v (.int .i64 o), .v (.int .i64 53)] (St.start hv) rfl hg (by kernel_rfl) (fun _ h => by cases h) (Nat.le_of_ble_eq_true rfl) No.unfix
 unfold internal_strconv_ParseUint_c53 at h0
 refine Cx.rseq hX [] [0, 1, 2] (l' := [(0, .v (.string ⟨⟨t⟩⟩)), (1, .v (.int .i64 o)), (2, .v (.int .i64 53))]) (B' := []) (by kernel_rfl) fun ρ w a hX => ?_
 refine wp_seq_k fun K2 hK2 => ?_
 refine Cx.rseq hX [] [0, 1, 2, 19] (l' := [(0, .v (.string ⟨⟨t⟩⟩)), (1, .v (.int .i64 o)), (2, .v (.int .i64 53)), (19, .v (.bool (t == ([] : Str))))]) (B' := []) (by kernel_rfl) fun ρ w a hX => ?_
 refine Cx.cond hX (b := (t == ([] : Str))) (by kernel_rfl) (fun hb => ?_) (fun hb => ?_)
 ·have h0 := ite_tt h0 hb
  refine wp_seq_k fun K4 hK4 => ?_
  refine wp_region_list ?_
  refine hX.part [] 0 [] (l' := []) (B' := []) (by kernel_rfl) fun ρ w a hX => ?_
  refine hX.mkErr (lit := []) (by kernel_rfl) (by kernel_rfl) rfl (n := 2) (by kernel_rfl) (by kernel_rfl) fun a hX => ?_
  refine hX.part [] 2 [6, 7] (l' := [(6, .v (.int .u64 0)), (7, .v (errV (GErr.code 99 2) errY))]) (B' := []) (by kernel_rfl) fun ρ w a hX => ?_
  refine wpList_end ?_
  refine hK4 _ _ ?_
  refine wp_ret ?_
  have hr := Option.some.inj (show some _ = some _ from h0)
  subst hr
  exact hX.ret0 (ss := [.v (.int .u64 0), .v (errV (GErr.code 99 2) errY)]) (by kernel_rfl) (by kernel_rfl) ⟨_, _, rfl, rfl, ⟨errY, rfl⟩⟩
 ·have h0 := ite_ff h0 hb
  refine wp_skip ?_
  refine hK2 _ _ ?_
  refine Cx.rseq hX [] [0, 1, 2, 8] (l' := [(0, .v (.string ⟨⟨t⟩⟩)), (1, .v (.int .i64 o)), (2, .v (.int .i64 53)), (8, .v (.bool (o == 0)))]) (B' := []) (by kernel_rfl) fun ρ w a hX => ?_
  refine Cx.rseq hX [] [0, 1, 2, 8, 9] (l' := [(0, .v (.string ⟨⟨t⟩⟩)), (1, .v (.int .i64 o)), (2, .v (.int .i64 53)), (8, .v (.bool (o == 0))), (9, .v (.string ⟨⟨t⟩⟩))]) (B' := []) (by kernel_rfl) fun ρ w a hX => ?_
  refine wp_seq_k fun K7 hK7 => ?_
  have J7 : ∀ (x15 : Str) (x16 : Int), internal_strconv_ParseUint_c53.j4 t o x15 x16 = some r → ∀ (ρ : Nat → Nat) (w : World) (F : Heap) (a : Act), Cx 172 w0 F0 No w F [] [] ρ [(0, .v (.string ⟨⟨x15⟩⟩)), (1, .v (.int .i64 x16)), (2, .v (.int .i64 53)), (8, .v (.bool (o == 0))), (9, .v (.string ⟨⟨t⟩⟩))] a → K7 a w := by
   intro x15 x16 h0  ρ w F a hX
   unfold internal_strconv_ParseUint_c53.j4 at h0
   refine hK7 _ _ ?_
   refine wp_seq_k fun K20 hK20 => ?_
   refine Cx.rseq hX [] [0, 1, 2, 8, 9, 77] (l' := [(0, .v (.string ⟨⟨x15⟩⟩)), (1, .v (.int .i64 x16)), (2, .v (.int .i64 53)), (8, .v (.bool (o == 0))), (9, .v (.string ⟨⟨t⟩⟩)), (77, .v (.bool false))]) (B' := []) (by kernel_rfl) fun ρ w a hX => ?_
   refine Cx.cond hX (b := false) (by kernel_rfl) (fun h => by cases h) (fun _ => ?_)
   refine Cx.rseq hX [2] [0, 1, 2, 8, 9, 83] (l' := [(0, .v (.string ⟨⟨x15⟩⟩)), (1, .v (.int .i64 x16)), (2, .v (.int .i64 53)), (8, .v (.bool (o == 0))), (9, .v (.string ⟨⟨t⟩⟩)), (83, .v (.bool false))]) (B' := []) (by kernel_rfl) fun ρ w a hX => ?_
   refine Cx.cond hX (b := false) (by kernel_rfl) (fun h => by cases h) (fun _ => ?_)
   refine wp_skip ?_
   refine hK20 _ _ ?_
   refine Cx.rseq hX [] [0, 1, 2, 8, 9] (l' := [(0, .v (.string ⟨⟨x15⟩⟩)), (1, .v (.int .i64 x16)), (2, .v (.int .i64 53)), (8, .v (.bool (o == 0))), (9, .v (.string ⟨⟨t⟩⟩))]) (B' := []) (by kernel_rfl) fun ρ w a hX => ?_
   refine wp_seq_k fun K24 hK24 => ?_
   have J24 : ∀ (x18 : Int), internal_strconv_ParseUint_c53.j5 t o x15 x16 x18 = some r → ∀ (ρ : Nat → Nat) (w : World) (F : Heap) (a : Act), Cx 172 w0 F0 No w F [] [] ρ [(0, .v (.string ⟨⟨x15⟩⟩)), (1, .v (.int .i64 x16)), (2, .v (.int .i64 53)), (8, .v (.bool (o == 0))), (9, .v (.string ⟨⟨t⟩⟩)), (10, .v (.int .u64 x18))] a → K24 a w := by
    intro x18 h0  ρ w F a hX
    unfold internal_strconv_ParseUint_c53.j5 at h0
    refine hK24 _ _ ?_
    refine wp_seq_k fun K28 hK28 => ?_
    refine wp_region_list ?_
    refine hX.part [] 2 [0, 1, 8, 9, 10, 95] (l' := [(0, .v (.string ⟨⟨x15⟩⟩)), (1, .v (.int .i64 x16)), (8, .v (.bool (o == 0))), (9, .v (.string ⟨⟨t⟩⟩)), (10, .v (.int .u64 x18)), (95, .v (.int .u64 53))]) (B' := []) (by kernel_rfl) fun ρ w a hX => ?_
    obtain ⟨v19, hv19, h0⟩ := bnd_some h0
    refine hX.arith (lit := []) (by kernel_rfl) (by kernel_rfl) rfl (k := .u64) (k' := .u64) (m := 1) (n := 53) (r := v19) (by kernel_rfl) (by kernel_rfl) (by decide) hv19 fun a hX => ?_
    refine hX.part [] 2 [0, 1, 8, 9, 10, 11] (l' := [(0, .v (.string ⟨⟨x15⟩⟩)), (1, .v (.int .i64 x16)), (8, .v (.bool (o == 0))), (9, .v (.string ⟨⟨t⟩⟩)), (10, .v (.int .u64 x18)), (11, .v (.int .u64 (IntKind.wrap .u64 (v19 - 1))))]) (B' := []) (by kernel_rfl) fun ρ w a hX => ?_
    refine wpList_end ?_
    refine hK28 _ _ ?_
    refine Cx.rseq hX [] [0, 1, 8, 9, 10, 11, 12] (l' := [(0, .v (.string ⟨⟨x15⟩⟩)), (1, .v (.int .i64 x16)), (8, .v (.bool (o == 0))), (9, .v (.string ⟨⟨t⟩⟩)), (10, .v (.int .u64 x18)), (11, .v (.int .u64 (IntKind.wrap .u64 (v19 - 1)))), (12, .v (.bool false))]) (B' := []) (by kernel_rfl) fun ρ w a hX => ?_
    refine Cx.rseq hX [] [0, 1, 8, 9, 10, 11, 12, 13] (l' := [(0, .v (.string ⟨⟨x15⟩⟩)), (1, .v (.int .i64 x16)), (8, .v (.bool (o == 0))), (9, .v (.string ⟨⟨t⟩⟩)), (10, .v (.int .u64 x18)), (11, .v (.int .u64 (IntKind.wrap .u64 (v19 - 1)))), (12, .v (.bool false)), (13, .v (.int .u64 0))]) (B' := []) (by kernel_rfl) fun ρ w a hX => ?_
    refine wp_seq_k fun K31 hK31 => ?_
    refine wp_seq_k fun K32 hK32 => ?_
    refine wp_region_list ?_
    refine hX.part [] 1 [1, 8, 9, 10, 11, 12, 13, 98] (l' := [(1, .v (.int .i64 x16)), (8, .v (.bool (o == 0))), (9, .v (.string ⟨⟨t⟩⟩)), (10, .v (.int .u64 x18)), (11, .v (.int .u64 (IntKind.wrap .u64 (v19 - 1)))), (12, .v (.bool false)), (13, .v (.int .u64 0)), (98, .v (.string ⟨⟨x15⟩⟩))]) (B' := []) (by kernel_rfl) fun ρ w a hX => ?_
    refine hX.toBytes (lit := []) (by kernel_rfl) (by kernel_rfl) rfl (e := 5) (s := x15) (by kernel_rfl) (by kernel_rfl) (by kernel_rfl) (by kernel_rfl) fun F A20 c21 w a hX => ?_
    refine hX.part [] 2 [1, 8, 9, 10, 11, 12, 13, 99, 100, 101] (l' := [(1, .v (.int .i64 x16)), (8, .v (.bool (o == 0))), (9, .v (.string ⟨⟨t⟩⟩)), (10, .v (.int .u64 x18)), (11, .v (.int .u64 (IntKind.wrap .u64 (v19 - 1)))), (12, .v (.bool false)), (13, .v (.int .u64 0)), (99, SV.sl kByte x15 A20 c21), (100, .v (.int .i64 ((x15.length : Nat) : Int))), (101, .v (.int .i64 0))]) (B' := []) (by kernel_rfl) fun ρ w a hX => ?_
    refine wpList_end ?_
    refine hK32 _ _ ?_
    refine wp_block ?_
    have hX := hX.keeps [1, 8, 9, 10, 11, 12, 13, 99, 100, 101] (l' := [(1, .v (.int .i64 x16)), (8, .v (.bool (o == 0))), (9, .v (.string ⟨⟨t⟩⟩)), (10, .v (.int .u64 x18)), (11, .v (.int .u64 (IntKind.wrap .u64 (v19 - 1)))), (12, .v (.bool false)), (13, .v (.int .u64 0)), (99, SV.sl kByte x15 A20 c21), (100, .v (.int .i64 ((x15.length : Nat) : Int))), (101, .v (.int .i64 0))]) (by kernel_rfl)
    obtain ⟨e1, he1, h0⟩ := bnd_some h0
    have E1x0 : ∀ (x50 : Bool) (x51 : Int), e1 = (.inl (x50, x51)) → ∀ (ρ : Nat → Nat) (w : World) (F : Heap) (a : Act), Cx 172 w0 F0 No w F [] [] ρ [(9, .v (.string ⟨⟨t⟩⟩)), (12, .v (.bool x50)), (13, .v (.int .u64 x51))] a → K31 a w := by
     intro x50 x51 he  ρ w F a hX
     replace he := he.symm
     subst he
     (try dsimp only at h0)
     refine hK31 _ _ ?_
     refine wp_seq_k fun K77 hK77 => ?_
     refine wp_seq_k fun K78 hK78 => ?_
     have J78 : ∀ (x54 : Bool), internal_strconv_ParseUint_c53.j12 x51 x54 = some r → ∀ (ρ : Nat → Nat) (w : World) (F : Heap) (a : Act), Cx 172 w0 F0 No w F [] [] ρ [(13, .v (.int .u64 x51)), (169, .v (.bool x54))] a → K78 a w := by
      intro x54 h0  ρ w F a hX
      unfold internal_strconv_ParseUint_c53.j12 at h0
      refine hK78 _ _ ?_
      refine Cx.cond hX (b := x54) (by kernel_rfl) (fun hb => ?_) (fun hb => ?_)
      ·have h0 := ite_tt h0 hb
       refine wp_seq_k fun K79 hK79 => ?_
       refine wp_region_list ?_
       refine hX.part [] 0 [] (l' := []) (B' := []) (by kernel_rfl) fun ρ w a hX => ?_
       refine hX.mkErr (lit := []) (by kernel_rfl) (by kernel_rfl) rfl (n := 2) (by kernel_rfl) (by kernel_rfl) fun a hX => ?_
       refine hX.part [] 2 [6, 7] (l' := [(6, .v (.int .u64 0)), (7, .v (errV (GErr.code 99 2) errY))]) (B' := []) (by kernel_rfl) fun ρ w a hX => ?_
       refine wpList_end ?_
       refine hK79 _ _ ?_
       refine wp_ret ?_
       have hr := Option.some.inj (show some _ = some _ from h0)
       subst hr
       exact hX.ret0 (ss := [.v (.int .u64 0), .v (errV (GErr.code 99 2) errY)]) (by kernel_rfl) (by kernel_rfl) ⟨_, _, rfl, rfl, ⟨errY, rfl⟩⟩
      ·have h0 := ite_ff h0 hb
       refine wp_skip ?_
       refine hK77 _ _ ?_
       refine Cx.rseq hX [] [6, 7] (l' := [(6, .v (.int .u64 x51)), (7, .v .nilIface)]) (B' := []) (by kernel_rfl) fun ρ w a hX => ?_
       refine wp_ret ?_
       have hr := Option.some.inj (show some _ = some _ from h0)
       subst hr
       exact hX.ret0 (ss := [.v (.int .u64 x51), .v .nilIface]) (by kernel_rfl) (by kernel_rfl) ⟨_, _, rfl, rfl, ⟨errY, rfl⟩⟩
     refine wp_region_list ?_
     refine hX.part [] 2 [9, 13, 165] (l' := [(9, .v (.string ⟨⟨t⟩⟩)), (13, .v (.int .u64 x51)), (165, .v (.bool x50))]) (B' := []) (by kernel_rfl) fun ρ w a hX => ?_
     refine ite_go h0 (fun hb h0 => ?_) (fun hb h0 => ?_)
     ·have hX := hX.relit 165 hb (by kernel_rfl)
      refine hX.part [1] 1 [13, 165, 166] (l' := [(13, .v (.int .u64 x51)), (165, .v (.bool true)), (166, .v (.string ⟨⟨t⟩⟩))]) (B' := []) (by kernel_rfl) fun ρ w a hX => ?_
      obtain ⟨v53, hv53, h0⟩ := bnd_some h0
      refine Cx.call0 hX (lit := [1]) (by kernel_rfl) rfl (by kernel_rfl) ⟨⟨_, Tryz.func71, by kernel_rfl, rfl⟩⟩ (ss := [.v (.string ⟨⟨t⟩⟩)]) (by kernel_rfl) [.v (.string ⟨⟨t⟩⟩)] rfl (fun hg => hg) (fun hv hle hg => internal_strconv_underscoreOK.ok t v53 hv53 _ _ hv (hG.mono hle) hg _) (fun s F w a hp hX => ?_)
      subst hp
      refine hX.part [1] 2 [13, 169] (l' := [(13, .v (.int .u64 x51)), (169, .v (.bool (!v53)))]) (B' := []) (by kernel_rfl) fun ρ w a hX => ?_
      refine wpList_end ?_
      have hX := hX.keeps [13, 169] (l' := [(13, .v (.int .u64 x51)), (169, .v (.bool (!v53)))]) (by kernel_rfl)
      exact J78 (!v53) h0  _ _ _ _ hX
     ·have hX := hX.relit 165 hb (by kernel_rfl)
      refine hX.part [1] 4 [13, 169] (l' := [(13, .v (.int .u64 x51)), (169, .v (.bool false))]) (B' := []) (by kernel_rfl) fun ρ w a hX => ?_
      refine wpList_end ?_
      have hX := hX.keeps [13, 169] (l' := [(13, .v (.int .u64 x51)), (169, .v (.bool false))]) (by kernel_rfl)
      exact J78 false h0  _ _ _ _ hX
    refine loop_go (fun (s : Bool × Int × Int) a w => match s with | (x33, x34, x35) => ∃ (ρ : Nat → Nat) (F : Heap), Cx 172 w0 F0 No w F [] [] ρ [(1, .v (.int .i64 x16)), (8, .v (.bool (o == 0))), (9, .v (.string ⟨⟨t⟩⟩)), (10, .v (.int .u64 x18)), (11, .v (.int .u64 (IntKind.wrap .u64 (v19 - 1)))), (12, .v (.bool x33)), (13, .v (.int .u64 x34)), (99, SV.sl kByte x15 A20 c21), (100, .v (.int .i64 ((x15.length : Nat) : Int))), (101, .v (.int .i64 x35))] a) he1 (fun LW1 s o1 h1 hb1 hx1 a w hI => ?_) _ _ ?_
    ·obtain ⟨x33, x34, x35⟩ := s
     obtain ⟨ρ, F, hX⟩ := hI
     unfold internal_strconv_ParseUint_c53.l1 at h1
     (try dsimp only at h1)
     refine Cx.rseq hX [] [1, 8, 9, 10, 11, 12, 13, 99, 100, 101, 102] (l' := [(1, .v (.int .i64 x16)), (8, .v (.bool (o == 0))), (9, .v (.string ⟨⟨t⟩⟩)), (10, .v (.int .u64 x18)), (11, .v (.int .u64 (IntKind.wrap .u64 (v19 - 1)))), (12, .v (.bool x33)), (13, .v (.int .u64 x34)), (99, SV.sl kByte x15 A20 c21), (100, .v (.int .i64 ((x15.length : Nat) : Int))), (101, .v (.int .i64 x35)), (102, .v (.bool (decide (x35 < ((x15.length : Nat) : Int)))))]) (B' := []) (by kernel_rfl) fun ρ w a hX => ?_
     refine wp_seq_k fun K56 hK56 => ?_
     refine Cx.cond hX (b := (decide (x35 < ((x15.length : Nat) : Int)))) (by kernel_rfl) (fun hb => ?_) (fun hb => ?_)
     ·have h1 := ite_tt h1 hb
      refine wp_skip ?_
      refine hK56 _ _ ?_
      refine wp_seq_k fun K57 hK57 => ?_
      have J57 : ∀ (x45 : Bool) (x46 : Int), internal_strconv_ParseUint_c53.j11 x35 x45 x46 = some o1 → ∀ (ρ : Nat → Nat) (w : World) (F : Heap) (a : Act), Cx 172 w0 F0 No w F [] [] ρ [(1, .v (.int .i64 x16)), (8, .v (.bool (o == 0))), (9, .v (.string ⟨⟨t⟩⟩)), (10, .v (.int .u64 x18)), (11, .v (.int .u64 (IntKind.wrap .u64 (v19 - 1)))), (12, .v (.bool x45)), (13, .v (.int .u64 x46)), (99, SV.sl kByte x15 A20 c21), (100, .v (.int .i64 ((x15.length : Nat) : Int))), (101, .v (.int .i64 x35))] a → K57 a w := by
       intro x45 x46 h1  ρ w F a hX
       unfold internal_strconv_ParseUint_c53.j11 at h1
       refine hK57 _ _ ?_
       refine Cx.region hX [] [1, 8, 9, 10, 11, 12, 13, 99, 100, 101] (l' := [(1, .v (.int .i64 x16)), (8, .v (.bool (o == 0))), (9, .v (.string ⟨⟨t⟩⟩)), (10, .v (.int .u64 x18)), (11, .v (.int .u64 (IntKind.wrap .u64 (v19 - 1)))), (12, .v (.bool x45)), (13, .v (.int .u64 x46)), (99, SV.sl kByte x15 A20 c21), (100, .v (.int .i64 ((x15.length : Nat) : Int))), (101, .v (.int .i64 (IntKind.wrap .i64 (x35 + 1))))]) (B' := []) (by kernel_rfl) fun ρ w a hX => ?_
       have hX := hX.keeps [1, 8, 9, 10, 11, 12, 13, 99, 100, 101] (l' := [(1, .v (.int .i64 x16)), (8, .v (.bool (o == 0))), (9, .v (.string ⟨⟨t⟩⟩)), (10, .v (.int .u64 x18)), (11, .v (.int .u64 (IntKind.wrap .u64 (v19 - 1)))), (12, .v (.bool x45)), (13, .v (.int .u64 x46)), (99, SV.sl kByte x15 A20 c21), (100, .v (.int .i64 ((x15.length : Nat) : Int))), (101, .v (.int .i64 (IntKind.wrap .i64 (x35 + 1))))]) (by kernel_rfl)
       exact hb1 (x45, x46, (IntKind.wrap .i64 (x35 + 1))) (out_eq h1) _ _ ⟨_, _, hX⟩
      refine wp_block ?_
      refine wp_seq_k fun K58 hK58 => ?_
      refine wp_region_list ?_
      refine hX.part [] 0 [1, 8, 9, 10, 11, 12, 13, 99, 100, 101] (l' := [(1, .v (.int .i64 x16)), (8, .v (.bool (o == 0))), (9, .v (.string ⟨⟨t⟩⟩)), (10, .v (.int .u64 x18)), (11, .v (.int .u64 (IntKind.wrap .u64 (v19 - 1)))), (12, .v (.bool x33)), (13, .v (.int .u64 x34)), (99, SV.sl kByte x15 A20 c21), (100, .v (.int .i64 ((x15.length : Nat) : Int))), (101, .v (.int .i64 x35))]) (B' := []) (by kernel_rfl) fun ρ w a hX => ?_
      obtain ⟨v36, hv36, h1⟩ := bnd_some h1
      refine hX.idxSl (lit := []) (by kernel_rfl) (by kernel_rfl) rfl (d := kByte) (e := 5) (xs := x15) (A := A20) (c := c21) (k := .i64) (n := x35) (v := v36) (by kernel_rfl) (by kernel_rfl) (by kernel_rfl) (by kernel_rfl) hv36 fun y37 b38 o39 a hX => ?_
      refine hX.part [] 2 [1, 8, 9, 10, 11, 12, 13, 15, 99, 100, 101] (l' := [(1, .v (.int .i64 x16)), (8, .v (.bool (o == 0))), (9, .v (.string ⟨⟨t⟩⟩)), (10, .v (.int .u64 x18)), (11, .v (.int .u64 (IntKind.wrap .u64 (v19 - 1)))), (12, .v (.bool x33)), (13, .v (.int .u64 x34)), (15, .v (.int .u8 ((v36.toNat : Nat) : Int))), (99, SV.sl kByte x15 A20 c21), (100, .v (.int .i64 ((x15.length : Nat) : Int))), (101, .v (.int .i64 x35))]) (B' := []) (by kernel_rfl) fun ρ w a hX => ?_
      refine wpList_end ?_
      refine hK58 _ _ ?_
      refine Cx.rseq hX [] [1, 8, 9, 10, 11, 12, 13, 15, 99, 100, 101] (l' := [(1, .v (.int .i64 x16)), (8, .v (.bool (o == 0))), (9, .v (.string ⟨⟨t⟩⟩)), (10, .v (.int .u64 x18)), (11, .v (.int .u64 (IntKind.wrap .u64 (v19 - 1)))), (12, .v (.bool x33)), (13, .v (.int .u64 x34)), (15, .v (.int .u8 ((v36.toNat : Nat) : Int))), (99, SV.sl kByte x15 A20 c21), (100, .v (.int .i64 ((x15.length : Nat) : Int))), (101, .v (.int .i64 x35))]) (B' := []) (by kernel_rfl) fun ρ w a hX => ?_
      refine wp_seq_k fun K60 hK60 => ?_
      have J60 : ∀ (x44 : Int), internal_strconv_ParseUint_c53.j10 x16 x18 v19 x33 x34 x35 x44 = some o1 → ∀ (ρ : Nat → Nat) (w : World) (F : Heap) (a : Act), Cx 172 w0 F0 No w F [] [] ρ [(1, .v (.int .i64 x16)), (8, .v (.bool (o == 0))), (9, .v (.string ⟨⟨t⟩⟩)), (10, .v (.int .u64 x18)), (11, .v (.int .u64 (IntKind.wrap .u64 (v19 - 1)))), (12, .v (.bool x33)), (13, .v (.int .u64 x34)), (16, .v (.int .u8 x44)), (99, SV.sl kByte x15 A20 c21), (100, .v (.int .i64 ((x15.length : Nat) : Int))), (101, .v (.int .i64 x35))] a → K60 a w := by
       intro x44 h1  ρ w F a hX
       unfold internal_strconv_ParseUint_c53.j10 at h1
       refine hK60 _ _ ?_
       refine wp_seq_k fun K66 hK66 => ?_
       refine Cx.rseq hX [] [1, 8, 9, 10, 11, 12, 13, 16, 99, 100, 101, 137] (l' := [(1, .v (.int .i64 x16)), (8, .v (.bool (o == 0))), (9, .v (.string ⟨⟨t⟩⟩)), (10, .v (.int .u64 x18)), (11, .v (.int .u64 (IntKind.wrap .u64 (v19 - 1)))), (12, .v (.bool x33)), (13, .v (.int .u64 x34)), (16, .v (.int .u8 x44)), (99, SV.sl kByte x15 A20 c21), (100, .v (.int .i64 ((x15.length : Nat) : Int))), (101, .v (.int .i64 x35)), (137, .v (.bool (decide (x44 ≥ (IntKind.wrap .u8 x16)))))]) (B' := []) (by kernel_rfl) fun ρ w a hX => ?_
       refine Cx.cond hX (b := (decide (x44 ≥ (IntKind.wrap .u8 x16)))) (by kernel_rfl) (fun hb => ?_) (fun hb => ?_)
       ·have h1 := ite_tt h1 hb
        refine wp_seq_k fun K68 hK68 => ?_
        refine wp_region_list ?_
        refine hX.part [] 0 [] (l' := []) (B' := []) (by kernel_rfl) fun ρ w a hX => ?_
        refine hX.mkErr (lit := []) (by kernel_rfl) (by kernel_rfl) rfl (n := 2) (by kernel_rfl) (by kernel_rfl) fun a hX => ?_
        refine hX.part [] 2 [6, 7] (l' := [(6, .v (.int .u64 0)), (7, .v (errV (GErr.code 99 2) errY))]) (B' := []) (by kernel_rfl) fun ρ w a hX => ?_
        refine wpList_end ?_
        refine hK68 _ _ ?_
        refine wp_ret ?_
        have he := hx1 _ (out_eq h1)
        subst he
        (try dsimp only at h0)
        have hr := Option.some.inj (show some _ = some _ from h0)
        subst hr
        exact hX.ret0 (ss := [.v (.int .u64 0), .v (errV (GErr.code 99 2) errY)]) (by kernel_rfl) (by kernel_rfl) ⟨_, _, rfl, rfl, ⟨errY, rfl⟩⟩
       ·have h1 := ite_ff h1 hb
        refine wp_skip ?_
        refine hK66 _ _ ?_
        refine wp_seq_k fun K69 hK69 => ?_
        refine Cx.rseq hX [] [1, 8, 9, 10, 11, 12, 13, 16, 99, 100, 101, 141] (l' := [(1, .v (.int .i64 x16)), (8, .v (.bool (o == 0))), (9, .v (.string ⟨⟨t⟩⟩)), (10, .v (.int .u64 x18)), (11, .v (.int .u64 (IntKind.wrap .u64 (v19 - 1)))), (12, .v (.bool x33)), (13, .v (.int .u64 x34)), (16, .v (.int .u8 x44)), (99, SV.sl kByte x15 A20 c21), (100, .v (.int .i64 ((x15.length : Nat) : Int))), (101, .v (.int .i64 x35)), (141, .v (.bool (decide (x34 ≥ x18))))]) (B' := []) (by kernel_rfl) fun ρ w a hX => ?_
        refine Cx.cond hX (b := (decide (x34 ≥ x18))) (by kernel_rfl) (fun hb => ?_) (fun hb => ?_)
        ·have h1 := ite_tt h1 hb
         refine wp_seq_k fun K71 hK71 => ?_
         refine wp_region_list ?_
         refine hX.part [] 1 [142] (l' := [(142, .v (.int .u64 (IntKind.wrap .u64 (v19 - 1))))]) (B' := []) (by kernel_rfl) fun ρ w a hX => ?_
         refine hX.mkErr (lit := []) (by kernel_rfl) (by kernel_rfl) rfl (n := 1) (by kernel_rfl) (by kernel_rfl) fun a hX => ?_
         refine hX.part [] 2 [6, 7] (l' := [(6, .v (.int .u64 (IntKind.wrap .u64 (v19 - 1)))), (7, .v (errV (GErr.code 99 1) errY))]) (B' := []) (by kernel_rfl) fun ρ w a hX => ?_
         refine wpList_end ?_
         refine hK71 _ _ ?_
         refine wp_ret ?_
         have he := hx1 _ (out_eq h1)
         subst he
         (try dsimp only at h0)
         have hr := Option.some.inj (show some _ = some _ from h0)
         subst hr
         exact hX.ret0 (ss := [.v (.int .u64 (IntKind.wrap .u64 (v19 - 1))), .v (errV (GErr.code 99 1) errY)]) (by kernel_rfl) (by kernel_rfl) ⟨_, _, rfl, rfl, ⟨errY, rfl⟩⟩
        ·have h1 := ite_ff h1 hb
         refine wp_skip ?_
         refine hK69 _ _ ?_
         refine Cx.rseq hX [] [1, 8, 9, 10, 11, 12, 13, 16, 99, 100, 101] (l' := [(1, .v (.int .i64 x16)), (8, .v (.bool (o == 0))), (9, .v (.string ⟨⟨t⟩⟩)), (10, .v (.int .u64 x18)), (11, .v (.int .u64 (IntKind.wrap .u64 (v19 - 1)))), (12, .v (.bool x33)), (13, .v (.int .u64 (IntKind.wrap .u64 (x34 * (IntKind.wrap .u64 x16))))), (16, .v (.int .u8 x44)), (99, SV.sl kByte x15 A20 c21), (100, .v (.int .i64 ((x15.length : Nat) : Int))), (101, .v (.int .i64 x35))]) (B' := []) (by kernel_rfl) fun ρ w a hX => ?_
         refine Cx.rseq hX [] [1, 8, 9, 10, 11, 12, 13, 17, 99, 100, 101] (l' := [(1, .v (.int .i64 x16)), (8, .v (.bool (o == 0))), (9, .v (.string ⟨⟨t⟩⟩)), (10, .v (.int .u64 x18)), (11, .v (.int .u64 (IntKind.wrap .u64 (v19 - 1)))), (12, .v (.bool x33)), (13, .v (.int .u64 (IntKind.wrap .u64 (x34 * (IntKind.wrap .u64 x16))))), (17, .v (.int .u64 (IntKind.wrap .u64 ((IntKind.wrap .u64 (x34 * (IntKind.wrap .u64 x16))) + (IntKind.wrap .u64 x44))))), (99, SV.sl kByte x15 A20 c21), (100, .v (.int .i64 ((x15.length : Nat) : Int))), (101, .v (.int .i64 x35))]) (B' := []) (by kernel_rfl) fun ρ w a hX => ?_
         refine wp_seq_k fun K74 hK74 => ?_
         refine Cx.rseq hX [] [1, 8, 9, 10, 11, 12, 17, 99, 100, 101, 159] (l' := [(1, .v (.int .i64 x16)), (8, .v (.bool (o == 0))), (9, .v (.string ⟨⟨t⟩⟩)), (10, .v (.int .u64 x18)), (11, .v (.int .u64 (IntKind.wrap .u64 (v19 - 1)))), (12, .v (.bool x33)), (17, .v (.int .u64 (IntKind.wrap .u64 ((IntKind.wrap .u64 (x34 * (IntKind.wrap .u64 x16))) + (IntKind.wrap .u64 x44))))), (99, SV.sl kByte x15 A20 c21), (100, .v (.int .i64 ((x15.length : Nat) : Int))), (101, .v (.int .i64 x35)), (159, .v (.bool ((decide ((IntKind.wrap .u64 ((IntKind.wrap .u64 (x34 * (IntKind.wrap .u64 x16))) + (IntKind.wrap .u64 x44))) < (IntKind.wrap .u64 (x34 * (IntKind.wrap .u64 x16))))) || (decide ((IntKind.wrap .u64 ((IntKind.wrap .u64 (x34 * (IntKind.wrap .u64 x16))) + (IntKind.wrap .u64 x44))) > (IntKind.wrap .u64 (v19 - 1)))))))]) (B' := []) (by kernel_rfl) fun ρ w a hX => ?_
         refine Cx.cond hX (b := ((decide ((IntKind.wrap .u64 ((IntKind.wrap .u64 (x34 * (IntKind.wrap .u64 x16))) + (IntKind.wrap .u64 x44))) < (IntKind.wrap .u64 (x34 * (IntKind.wrap .u64 x16))))) || (decide ((IntKind.wrap .u64 ((IntKind.wrap .u64 (x34 * (IntKind.wrap .u64 x16))) + (IntKind.wrap .u64 x44))) > (IntKind.wrap .u64 (v19 - 1)))))) (by kernel_rfl) (fun hb => ?_) (fun hb => ?_)
         ·have h1 := ite_tt h1 hb
          refine wp_seq_k fun K76 hK76 => ?_
          refine wp_region_list ?_
          refine hX.part [] 1 [160] (l' := [(160, .v (.int .u64 (IntKind.wrap .u64 (v19 - 1))))]) (B' := []) (by kernel_rfl) fun ρ w a hX => ?_
          refine hX.mkErr (lit := []) (by kernel_rfl) (by kernel_rfl) rfl (n := 1) (by kernel_rfl) (by kernel_rfl) fun a hX => ?_
          refine hX.part [] 2 [6, 7] (l' := [(6, .v (.int .u64 (IntKind.wrap .u64 (v19 - 1)))), (7, .v (errV (GErr.code 99 1) errY))]) (B' := []) (by kernel_rfl) fun ρ w a hX => ?_
          refine wpList_end ?_
          refine hK76 _ _ ?_
          refine wp_ret ?_
          have he := hx1 _ (out_eq h1)
          subst he
          (try dsimp only at h0)
          have hr := Option.some.inj (show some _ = some _ from h0)
          subst hr
          exact hX.ret0 (ss := [.v (.int .u64 (IntKind.wrap .u64 (v19 - 1))), .v (errV (GErr.code 99 1) errY)]) (by kernel_rfl) (by kernel_rfl) ⟨_, _, rfl, rfl, ⟨errY, rfl⟩⟩
         ·have h1 := ite_ff h1 hb
          refine wp_skip ?_
          refine hK74 _ _ ?_
          refine Cx.region hX [] [1, 8, 9, 10, 11, 12, 13, 99, 100, 101] (l' := [(1, .v (.int .i64 x16)), (8, .v (.bool (o == 0))), (9, .v (.string ⟨⟨t⟩⟩)), (10, .v (.int .u64 x18)), (11, .v (.int .u64 (IntKind.wrap .u64 (v19 - 1)))), (12, .v (.bool x33)), (13, .v (.int .u64 (IntKind.wrap .u64 ((IntKind.wrap .u64 (x34 * (IntKind.wrap .u64 x16))) + (IntKind.wrap .u64 x44))))), (99, SV.sl kByte x15 A20 c21), (100, .v (.int .i64 ((x15.length : Nat) : Int))), (101, .v (.int .i64 x35))]) (B' := []) (by kernel_rfl) fun ρ w a hX => ?_
          have hX := hX.keeps [1, 8, 9, 10, 11, 12, 13, 99, 100, 101] (l' := [(1, .v (.int .i64 x16)), (8, .v (.bool (o == 0))), (9, .v (.string ⟨⟨t⟩⟩)), (10, .v (.int .u64 x18)), (11, .v (.int .u64 (IntKind.wrap .u64 (v19 - 1)))), (12, .v (.bool x33)), (13, .v (.int .u64 (IntKind.wrap .u64 ((IntKind.wrap .u64 (x34 * (IntKind.wrap .u64 x16))) + (IntKind.wrap .u64 x44))))), (99, SV.sl kByte x15 A20 c21), (100, .v (.int .i64 ((x15.length : Nat) : Int))), (101, .v (.int .i64 x35))]) (by kernel_rfl)
          exact J57 x33 (IntKind.wrap .u64 ((IntKind.wrap .u64 (x34 * (IntKind.wrap .u64 x16))) + (IntKind.wrap .u64 x44))) h1  _ _ _ _ hX
      refine wp_block ?_
      refine Cx.rseq hX [] [1, 8, 9, 10, 11, 12, 13, 15, 99, 100, 101, 106] (l' := [(1, .v (.int .i64 x16)), (8, .v (.bool (o == 0))), (9, .v (.string ⟨⟨t⟩⟩)), (10, .v (.int .u64 x18)), (11, .v (.int .u64 (IntKind.wrap .u64 (v19 - 1)))), (12, .v (.bool x33)), (13, .v (.int .u64 x34)), (15, .v (.int .u8 ((v36.toNat : Nat) : Int))), (99, SV.sl kByte x15 A20 c21), (100, .v (.int .i64 ((x15.length : Nat) : Int))), (101, .v (.int .i64 x35)), (106, .v (.bool ((((v36.toNat : Nat) : Int) == 95) && (o == 0))))]) (B' := []) (by kernel_rfl) fun ρ w a hX => ?_
      refine Cx.cond hX (b := ((((v36.toNat : Nat) : Int) == 95) && (o == 0))) (by kernel_rfl) (fun hb => ?_) (fun hb => ?_)
      ·have h1 := ite_tt h1 hb
       refine Cx.rseq hX [] [1, 8, 9, 10, 11, 12, 13, 99, 100, 101] (l' := [(1, .v (.int .i64 x16)), (8, .v (.bool (o == 0))), (9, .v (.string ⟨⟨t⟩⟩)), (10, .v (.int .u64 x18)), (11, .v (.int .u64 (IntKind.wrap .u64 (v19 - 1)))), (12, .v (.bool true)), (13, .v (.int .u64 x34)), (99, SV.sl kByte x15 A20 c21), (100, .v (.int .i64 ((x15.length : Nat) : Int))), (101, .v (.int .i64 x35))]) (B' := []) (by kernel_rfl) fun ρ w a hX => ?_
       refine wp_exit ?_
       have hX := hX.keeps [1, 8, 9, 10, 11, 12, 13, 99, 100, 101] (l' := [(1, .v (.int .i64 x16)), (8, .v (.bool (o == 0))), (9, .v (.string ⟨⟨t⟩⟩)), (10, .v (.int .u64 x18)), (11, .v (.int .u64 (IntKind.wrap .u64 (v19 - 1)))), (12, .v (.bool true)), (13, .v (.int .u64 x34)), (99, SV.sl kByte x15 A20 c21), (100, .v (.int .i64 ((x15.length : Nat) : Int))), (101, .v (.int .i64 x35))]) (by kernel_rfl)
       exact J57 true x34 h1  _ _ _ _ hX
      ·have h1 := ite_ff h1 hb
       refine Cx.rseq hX [] [1, 8, 9, 10, 11, 12, 13, 15, 99, 100, 101, 112] (l' := [(1, .v (.int .i64 x16)), (8, .v (.bool (o == 0))), (9, .v (.string ⟨⟨t⟩⟩)), (10, .v (.int .u64 x18)), (11, .v (.int .u64 (IntKind.wrap .u64 (v19 - 1)))), (12, .v (.bool x33)), (13, .v (.int .u64 x34)), (15, .v (.int .u8 ((v36.toNat : Nat) : Int))), (99, SV.sl kByte x15 A20 c21), (100, .v (.int .i64 ((x15.length : Nat) : Int))), (101, .v (.int .i64 x35)), (112, .v (.bool ((decide (48 ≤ ((v36.toNat : Nat) : Int))) && (decide (((v36.toNat : Nat) : Int) ≤ 57)))))]) (B' := []) (by kernel_rfl) fun ρ w a hX => ?_
       refine Cx.cond hX (b := ((decide (48 ≤ ((v36.toNat : Nat) : Int))) && (decide (((v36.toNat : Nat) : Int) ≤ 57)))) (by kernel_rfl) (fun hb => ?_) (fun hb => ?_)
       ·have h1 := ite_tt h1 hb
        refine Cx.region hX [] [1, 8, 9, 10, 11, 12, 13, 16, 99, 100, 101] (l' := [(1, .v (.int .i64 x16)), (8, .v (.bool (o == 0))), (9, .v (.string ⟨⟨t⟩⟩)), (10, .v (.int .u64 x18)), (11, .v (.int .u64 (IntKind.wrap .u64 (v19 - 1)))), (12, .v (.bool x33)), (13, .v (.int .u64 x34)), (16, .v (.int .u8 (IntKind.wrap .u8 (((v36.toNat : Nat) : Int) - 48)))), (99, SV.sl kByte x15 A20 c21), (100, .v (.int .i64 ((x15.length : Nat) : Int))), (101, .v (.int .i64 x35))]) (B' := []) (by kernel_rfl) fun ρ w a hX => ?_
        have hX := hX.keeps [1, 8, 9, 10, 11, 12, 13, 16, 99, 100, 101] (l' := [(1, .v (.int .i64 x16)), (8, .v (.bool (o == 0))), (9, .v (.string ⟨⟨t⟩⟩)), (10, .v (.int .u64 x18)), (11, .v (.int .u64 (IntKind.wrap .u64 (v19 - 1)))), (12, .v (.bool x33)), (13, .v (.int .u64 x34)), (16, .v (.int .u8 (IntKind.wrap .u8 (((v36.toNat : Nat) : Int) - 48)))), (99, SV.sl kByte x15 A20 c21), (100, .v (.int .i64 ((x15.length : Nat) : Int))), (101, .v (.int .i64 x35))]) (by kernel_rfl)
        exact J60 (IntKind.wrap .u8 (((v36.toNat : Nat) : Int) - 48)) h1  _ _ _ _ hX
       ·have h1 := ite_ff h1 hb
        refine wp_seq_k fun K64 hK64 => ?_
        have J64 : ∀ (x42 : Bool), internal_strconv_ParseUint_c53.j9 x16 x18 v19 x33 x34 x35 v36 x42 = some o1 → ∀ (ρ : Nat → Nat) (w : World) (F : Heap) (a : Act), Cx 172 w0 F0 No w F [] [] ρ [(1, .v (.int .i64 x16)), (8, .v (.bool (o == 0))), (9, .v (.string ⟨⟨t⟩⟩)), (10, .v (.int .u64 x18)), (11, .v (.int .u64 (IntKind.wrap .u64 (v19 - 1)))), (12, .v (.bool x33)), (13, .v (.int .u64 x34)), (15, .v (.int .u8 ((v36.toNat : Nat) : Int))), (99, SV.sl kByte x15 A20 c21), (100, .v (.int .i64 ((x15.length : Nat) : Int))), (101, .v (.int .i64 x35)), (121, .v (.bool x42))] a → K64 a w := by
         intro x42 h1  ρ w F a hX
         unfold internal_strconv_ParseUint_c53.j9 at h1
         refine hK64 _ _ ?_
         refine Cx.cond hX (b := x42) (by kernel_rfl) (fun hb => ?_) (fun hb => ?_)
         ·have h1 := ite_tt h1 hb
          refine wp_region_list ?_
          refine hX.part [] 1 [1, 8, 9, 10, 11, 12, 13, 99, 100, 101, 130] (l' := [(1, .v (.int .i64 x16)), (8, .v (.bool (o == 0))), (9, .v (.string ⟨⟨t⟩⟩)), (10, .v (.int .u64 x18)), (11, .v (.int .u64 (IntKind.wrap .u64 (v19 - 1)))), (12, .v (.bool x33)), (13, .v (.int .u64 x34)), (99, SV.sl kByte x15 A20 c21), (100, .v (.int .i64 ((x15.length : Nat) : Int))), (101, .v (.int .i64 x35)), (130, .v (.int .u8 ((v36.toNat : Nat) : Int)))]) (B' := []) (by kernel_rfl) fun ρ w a hX => ?_
          obtain ⟨v43, hv43, h1⟩ := bnd_some h1
          refine Cx.call0 hX (lit := []) (by kernel_rfl) rfl (by kernel_rfl) ⟨⟨_, Tryz.func70, by kernel_rfl, rfl⟩⟩ (ss := [.v (.int .u8 ((v36.toNat : Nat) : Int))]) (by kernel_rfl) [.v (.int .u8 ((v36.toNat : Nat) : Int))] rfl (fun hg => hg) (fun hv hle hg => internal_strconv_lower.ok ((v36.toNat : Nat) : Int) v43 hv43 _ _ hv (hG.mono hle) hg _) (fun s F w a hp hX => ?_)
          subst hp
          refine hX.part [] 3 [1, 8, 9, 10, 11, 12, 13, 16, 99, 100, 101] (l' := [(1, .v (.int .i64 x16)), (8, .v (.bool (o == 0))), (9, .v (.string ⟨⟨t⟩⟩)), (10, .v (.int .u64 x18)), (11, .v (.int .u64 (IntKind.wrap .u64 (v19 - 1)))), (12, .v (.bool x33)), (13, .v (.int .u64 x34)), (16, .v (.int .u8 (IntKind.wrap .u8 ((IntKind.wrap .u8 (v43 - 97)) + 10)))), (99, SV.sl kByte x15 A20 c21), (100, .v (.int .i64 ((x15.length : Nat) : Int))), (101, .v (.int .i64 x35))]) (B' := []) (by kernel_rfl) fun ρ w a hX => ?_
          refine wpList_end ?_
          have hX := hX.keeps [1, 8, 9, 10, 11, 12, 13, 16, 99, 100, 101] (l' := [(1, .v (.int .i64 x16)), (8, .v (.bool (o == 0))), (9, .v (.string ⟨⟨t⟩⟩)), (10, .v (.int .u64 x18)), (11, .v (.int .u64 (IntKind.wrap .u64 (v19 - 1)))), (12, .v (.bool x33)), (13, .v (.int .u64 x34)), (16, .v (.int .u8 (IntKind.wrap .u8 ((IntKind.wrap .u8 (v43 - 97)) + 10)))), (99, SV.sl kByte x15 A20 c21), (100, .v (.int .i64 ((x15.length : Nat) : Int))), (101, .v (.int .i64 x35))]) (by kernel_rfl)
          exact J60 (IntKind.wrap .u8 ((IntKind.wrap .u8 (v43 - 97)) + 10)) h1  _ _ _ _ hX
         ·have h1 := ite_ff h1 hb
          refine wp_seq_k fun K65 hK65 => ?_
          refine wp_region_list ?_
          refine hX.part [] 0 [] (l' := []) (B' := []) (by kernel_rfl) fun ρ w a hX => ?_
          refine hX.mkErr (lit := []) (by kernel_rfl) (by kernel_rfl) rfl (n := 2) (by kernel_rfl) (by kernel_rfl) fun a hX => ?_
          refine hX.part [] 2 [6, 7] (l' := [(6, .v (.int .u64 0)), (7, .v (errV (GErr.code 99 2) errY))]) (B' := []) (by kernel_rfl) fun ρ w a hX => ?_
          refine wpList_end ?_
          refine hK65 _ _ ?_
          refine wp_ret ?_
          have he := hx1 _ (out_eq h1)
          subst he
          (try dsimp only at h0)
          have hr := Option.some.inj (show some _ = some _ from h0)
          subst hr
          exact hX.ret0 (ss := [.v (.int .u64 0), .v (errV (GErr.code 99 2) errY)]) (by kernel_rfl) (by kernel_rfl) ⟨_, _, rfl, rfl, ⟨errY, rfl⟩⟩
        refine wp_region_list ?_
        refine hX.part [] 1 [1, 8, 9, 10, 11, 12, 13, 15, 99, 100, 101, 122] (l' := [(1, .v (.int .i64 x16)), (8, .v (.bool (o == 0))), (9, .v (.string ⟨⟨t⟩⟩)), (10, .v (.int .u64 x18)), (11, .v (.int .u64 (IntKind.wrap .u64 (v19 - 1)))), (12, .v (.bool x33)), (13, .v (.int .u64 x34)), (15, .v (.int .u8 ((v36.toNat : Nat) : Int))), (99, SV.sl kByte x15 A20 c21), (100, .v (.int .i64 ((x15.length : Nat) : Int))), (101, .v (.int .i64 x35)), (122, .v (.int .u8 ((v36.toNat : Nat) : Int)))]) (B' := []) (by kernel_rfl) fun ρ w a hX => ?_
        obtain ⟨v40, hv40, h1⟩ := bnd_some h1
        refine Cx.call0 hX (lit := []) (by kernel_rfl) rfl (by kernel_rfl) ⟨⟨_, Tryz.func70, by kernel_rfl, rfl⟩⟩ (ss := [.v (.int .u8 ((v36.toNat : Nat) : Int))]) (by kernel_rfl) [.v (.int .u8 ((v36.toNat : Nat) : Int))] rfl (fun hg => hg) (fun hv hle hg => internal_strconv_lower.ok ((v36.toNat : Nat) : Int) v40 hv40 _ _ hv (hG.mono hle) hg _) (fun s F w a hp hX => ?_)
        subst hp
        refine hX.part [] 2 [1, 8, 9, 10, 11, 12, 13, 15, 99, 100, 101, 125] (l' := [(1, .v (.int .i64 x16)), (8, .v (.bool (o == 0))), (9, .v (.string ⟨⟨t⟩⟩)), (10, .v (.int .u64 x18)), (11, .v (.int .u64 (IntKind.wrap .u64 (v19 - 1)))), (12, .v (.bool x33)), (13, .v (.int .u64 x34)), (15, .v (.int .u8 ((v36.toNat : Nat) : Int))), (99, SV.sl kByte x15 A20 c21), (100, .v (.int .i64 ((x15.length : Nat) : Int))), (101, .v (.int .i64 x35)), (125, .v (.bool (decide (97 ≤ v40))))]) (B' := []) (by kernel_rfl) fun ρ w a hX => ?_
        refine ite_go h1 (fun hb h1 => ?_) (fun hb h1 => ?_)
        ·have hX := hX.relit 125 hb (by kernel_rfl)
         refine hX.part [3] 1 [1, 8, 9, 10, 11, 12, 13, 15, 99, 100, 101, 125, 126] (l' := [(1, .v (.int .i64 x16)), (8, .v (.bool (o == 0))), (9, .v (.string ⟨⟨t⟩⟩)), (10, .v (.int .u64 x18)), (11, .v (.int .u64 (IntKind.wrap .u64 (v19 - 1)))), (12, .v (.bool x33)), (13, .v (.int .u64 x34)), (15, .v (.int .u8 ((v36.toNat : Nat) : Int))), (99, SV.sl kByte x15 A20 c21), (100, .v (.int .i64 ((x15.length : Nat) : Int))), (101, .v (.int .i64 x35)), (125, .v (.bool true)), (126, .v (.int .u8 ((v36.toNat : Nat) : Int)))]) (B' := []) (by kernel_rfl) fun ρ w a hX => ?_
         obtain ⟨v41, hv41, h1⟩ := bnd_some h1
         refine Cx.call0 hX (lit := [3]) (by kernel_rfl) rfl (by kernel_rfl) ⟨⟨_, Tryz.func70, by kernel_rfl, rfl⟩⟩ (ss := [.v (.int .u8 ((v36.toNat : Nat) : Int))]) (by kernel_rfl) [.v (.int .u8 ((v36.toNat : Nat) : Int))] rfl (fun hg => hg) (fun hv hle hg => internal_strconv_lower.ok ((v36.toNat : Nat) : Int) v41 hv41 _ _ hv (hG.mono hle) hg _) (fun s F w a hp hX => ?_)
         subst hp
         refine hX.part [3] 3 [1, 8, 9, 10, 11, 12, 13, 15, 99, 100, 101, 121] (l' := [(1, .v (.int .i64 x16)), (8, .v (.bool (o == 0))), (9, .v (.string ⟨⟨t⟩⟩)), (10, .v (.int .u64 x18)), (11, .v (.int .u64 (IntKind.wrap .u64 (v19 - 1)))), (12, .v (.bool x33)), (13, .v (.int .u64 x34)), (15, .v (.int .u8 ((v36.toNat : Nat) : Int))), (99, SV.sl kByte x15 A20 c21), (100, .v (.int .i64 ((x15.length : Nat) : Int))), (101, .v (.int .i64 x35)), (121, .v (.bool (decide (v41 ≤ 122))))]) (B' := []) (by kernel_rfl) fun ρ w a hX => ?_
         refine wpList_end ?_
         have hX := hX.keeps [1, 8, 9, 10, 11, 12, 13, 15, 99, 100, 101, 121] (l' := [(1, .v (.int .i64 x16)), (8, .v (.bool (o == 0))), (9, .v (.string ⟨⟨t⟩⟩)), (10, .v (.int .u64 x18)), (11, .v (.int .u64 (IntKind.wrap .u64 (v19 - 1)))), (12, .v (.bool x33)), (13, .v (.int .u64 x34)), (15, .v (.int .u8 ((v36.toNat : Nat) : Int))), (99, SV.sl kByte x15 A20 c21), (100, .v (.int .i64 ((x15.length : Nat) : Int))), (101, .v (.int .i64 x35)), (121, .v (.bool (decide (v41 ≤ 122))))]) (by kernel_rfl)
         exact J64 (decide (v41 ≤ 122)) h1  _ _ _ _ hX
        ·have hX := hX.relit 125 hb (by kernel_rfl)
         refine hX.part [3] 5 [1, 8, 9, 10, 11, 12, 13, 15, 99, 100, 101, 121] (l' := [(1, .v (.int .i64 x16)), (8, .v (.bool (o == 0))), (9, .v (.string ⟨⟨t⟩⟩)), (10, .v (.int .u64 x18)), (11, .v (.int .u64 (IntKind.wrap .u64 (v19 - 1)))), (12, .v (.bool x33)), (13, .v (.int .u64 x34)), (15, .v (.int .u8 ((v36.toNat : Nat) : Int))), (99, SV.sl kByte x15 A20 c21), (100, .v (.int .i64 ((x15.length : Nat) : Int))), (101, .v (.int .i64 x35)), (121, .v (.bool false))]) (B' := []) (by kernel_rfl) fun ρ w a hX => ?_
         refine wpList_end ?_
         have hX := hX.keeps [1, 8, 9, 10, 11, 12, 13, 15, 99, 100, 101, 121] (l' := [(1, .v (.int .i64 x16)), (8, .v (.bool (o == 0))), (9, .v (.string ⟨⟨t⟩⟩)), (10, .v (.int .u64 x18)), (11, .v (.int .u64 (IntKind.wrap .u64 (v19 - 1)))), (12, .v (.bool x33)), (13, .v (.int .u64 x34)), (15, .v (.int .u8 ((v36.toNat : Nat) : Int))), (99, SV.sl kByte x15 A20 c21), (100, .v (.int .i64 ((x15.length : Nat) : Int))), (101, .v (.int .i64 x35)), (121, .v (.bool false))]) (by kernel_rfl)
         exact J64 false h1  _ _ _ _ hX
     ·have h1 := ite_ff h1 hb
      refine wp_exit ?_
      have hX := hX.keeps [9, 12, 13] (l' := [(9, .v (.string ⟨⟨t⟩⟩)), (12, .v (.bool x33)), (13, .v (.int .u64 x34))]) (by kernel_rfl)
      exact E1x0 x33 x34 (hx1 _ (out_eq h1)).symm  _ _ _ _ hX
    ·exact ⟨_, _, hX⟩
   refine Cx.rseq hX [] [0, 1, 2, 8, 9, 85] (l' := [(0, .v (.string ⟨⟨x15⟩⟩)), (1, .v (.int .i64 x16)), (2, .v (.int .i64 53)), (8, .v (.bool (o == 0))), (9, .v (.string ⟨⟨t⟩⟩)), (85, .v (.int .i64 x16))]) (B' := []) (by kernel_rfl) fun ρ w a hX => ?_
   refine wp_block ?_
   refine Cx.rseq hX [] [0, 1, 2, 8, 9, 85, 90] (l' := [(0, .v (.string ⟨⟨x15⟩⟩)), (1, .v (.int .i64 x16)), (2, .v (.int .i64 53)), (8, .v (.bool (o == 0))), (9, .v (.string ⟨⟨t⟩⟩)), (85, .v (.int .i64 x16)), (90, .v (.bool (x16 == 10)))]) (B' := []) (by kernel_rfl) fun ρ w a hX => ?_
   refine Cx.cond hX (b := (x16 == 10)) (by kernel_rfl) (fun hb => ?_) (fun hb => ?_)
   ·have h0 := ite_tt h0 hb
    refine Cx.region hX [] [0, 1, 2, 8, 9, 10] (l' := [(0, .v (.string ⟨⟨x15⟩⟩)), (1, .v (.int .i64 x16)), (2, .v (.int .i64 53)), (8, .v (.bool (o == 0))), (9, .v (.string ⟨⟨t⟩⟩)), (10, .v (.int .u64 1844674407370955162))]) (B' := []) (by kernel_rfl) fun ρ w a hX => ?_
    have hX := hX.keeps [0, 1, 2, 8, 9, 10] (l' := [(0, .v (.string ⟨⟨x15⟩⟩)), (1, .v (.int .i64 x16)), (2, .v (.int .i64 53)), (8, .v (.bool (o == 0))), (9, .v (.string ⟨⟨t⟩⟩)), (10, .v (.int .u64 1844674407370955162))]) (by kernel_rfl)
    exact J24 1844674407370955162 h0  _ _ _ _ hX
   ·have h0 := ite_ff h0 hb
    refine Cx.rseq hX [] [0, 1, 2, 8, 9, 92] (l' := [(0, .v (.string ⟨⟨x15⟩⟩)), (1, .v (.int .i64 x16)), (2, .v (.int .i64 53)), (8, .v (.bool (o == 0))), (9, .v (.string ⟨⟨t⟩⟩)), (92, .v (.bool (x16 == 16)))]) (B' := []) (by kernel_rfl) fun ρ w a hX => ?_
    refine Cx.cond hX (b := (x16 == 16)) (by kernel_rfl) (fun hb => ?_) (fun hb => ?_)
    ·have h0 := ite_tt h0 hb
     refine Cx.region hX [] [0, 1, 2, 8, 9, 10] (l' := [(0, .v (.string ⟨⟨x15⟩⟩)), (1, .v (.int .i64 x16)), (2, .v (.int .i64 53)), (8, .v (.bool (o == 0))), (9, .v (.string ⟨⟨t⟩⟩)), (10, .v (.int .u64 1152921504606846976))]) (B' := []) (by kernel_rfl) fun ρ w a hX => ?_
     have hX := hX.keeps [0, 1, 2, 8, 9, 10] (l' := [(0, .v (.string ⟨⟨x15⟩⟩)), (1, .v (.int .i64 x16)), (2, .v (.int .i64 53)), (8, .v (.bool (o == 0))), (9, .v (.string ⟨⟨t⟩⟩)), (10, .v (.int .u64 1152921504606846976))]) (by kernel_rfl)
     exact J24 1152921504606846976 h0  _ _ _ _ hX
    ·have h0 := ite_ff h0 hb
     refine wp_region_list ?_
     refine hX.part [] 2 [0, 1, 2, 8, 9, 87] (l' := [(0, .v (.string ⟨⟨x15⟩⟩)), (1, .v (.int .i64 x16)), (2, .v (.int .i64 53)), (8, .v (.bool (o == 0))), (9, .v (.string ⟨⟨t⟩⟩)), (87, .v (.int .u64 (IntKind.wrap .u64 x16)))]) (B' := []) (by kernel_rfl) fun ρ w a hX => ?_
     obtain ⟨v17, hv17, h0⟩ := bnd_some h0
     refine hX.arith (lit := []) (by kernel_rfl) (by kernel_rfl) rfl (k := .u64) (k' := .u64) (m := 18446744073709551615) (n := (IntKind.wrap .u64 x16)) (r := v17) (by kernel_rfl) (by kernel_rfl) (by decide) hv17 fun a hX => ?_
     refine hX.part [] 2 [0, 1, 2, 8, 9, 10] (l' := [(0, .v (.string ⟨⟨x15⟩⟩)), (1, .v (.int .i64 x16)), (2, .v (.int .i64 53)), (8, .v (.bool (o == 0))), (9, .v (.string ⟨⟨t⟩⟩)), (10, .v (.int .u64 (IntKind.wrap .u64 (v17 + 1))))]) (B' := []) (by kernel_rfl) fun ρ w a hX => ?_
     refine wpList_end ?_
     have hX := hX.keeps [0, 1, 2, 8, 9, 10] (l' := [(0, .v (.string ⟨⟨x15⟩⟩)), (1, .v (.int .i64 x16)), (2, .v (.int .i64 53)), (8, .v (.bool (o == 0))), (9, .v (.string ⟨⟨t⟩⟩)), (10, .v (.int .u64 (IntKind.wrap .u64 (v17 + 1))))]) (by kernel_rfl)
     exact J24 (IntKind.wrap .u64 (v17 + 1)) h0  _ _ _ _ hX
  refine wp_block ?_
  refine Cx.rseq hX [] [0, 1, 2, 8, 9, 25] (l' := [(0, .v (.string ⟨⟨t⟩⟩)), (1, .v (.int .i64 o)), (2, .v (.int .i64 53)), (8, .v (.bool (o == 0))), (9, .v (.string ⟨⟨t⟩⟩)), (25, .v (.bool ((decide (2 ≤ o)) && (decide (o ≤ 36)))))]) (B' := []) (by kernel_rfl) fun ρ w a hX => ?_
  refine Cx.cond hX (b := ((decide (2 ≤ o)) && (decide (o ≤ 36)))) (by kernel_rfl) (fun hb => ?_) (fun hb => ?_)
  ·have h0 := ite_tt h0 hb
   refine wp_skip ?_
   have hX := hX.keeps [0, 1, 2, 8, 9] (l' := [(0, .v (.string ⟨⟨t⟩⟩)), (1, .v (.int .i64 o)), (2, .v (.int .i64 53)), (8, .v (.bool (o == 0))), (9, .v (.string ⟨⟨t⟩⟩))]) (by kernel_rfl)
   exact J7 t o h0  _ _ _ _ hX
  ·have h0 := ite_ff h0 hb
   refine Cx.rseq hX [] [0, 2, 8, 9, 32] (l' := [(0, .v (.string ⟨⟨t⟩⟩)), (2, .v (.int .i64 53)), (8, .v (.bool (o == 0))), (9, .v (.string ⟨⟨t⟩⟩)), (32, .v (.bool (o == 0)))]) (B' := []) (by kernel_rfl) fun ρ w a hX => ?_
   refine Cx.cond hX (b := (o == 0)) (by kernel_rfl) (fun hb => ?_) (fun hb => ?_)
   ·have h0 := ite_tt h0 hb
    refine Cx.rseq hX [] [0, 1, 2, 8, 9] (l' := [(0, .v (.string ⟨⟨t⟩⟩)), (1, .v (.int .i64 10)), (2, .v (.int .i64 53)), (8, .v (.bool (o == 0))), (9, .v (.string ⟨⟨t⟩⟩))]) (B' := []) (by kernel_rfl) fun ρ w a hX => ?_
    refine wp_seq_k fun K11 hK11 => ?_
    refine wp_region_list ?_
    refine hX.part [] 1 [0, 1, 2, 8, 9, 35] (l' := [(0, .v (.string ⟨⟨t⟩⟩)), (1, .v (.int .i64 10)), (2, .v (.int .i64 53)), (8, .v (.bool (o == 0))), (9, .v (.string ⟨⟨t⟩⟩)), (35, .v (.string ⟨⟨t⟩⟩))]) (B' := []) (by kernel_rfl) fun ρ w a hX => ?_
    obtain ⟨v1, hv1, h0⟩ := bnd_some h0
    refine hX.idxStr (lit := []) (by kernel_rfl) (by kernel_rfl) rfl (s := t) (k := .i64) (n := 0) (b := v1) (by kernel_rfl) (by kernel_rfl) (by kernel_rfl) hv1 fun a hX => ?_
    refine hX.part [] 1 [0, 1, 2, 8, 9, 37] (l' := [(0, .v (.string ⟨⟨t⟩⟩)), (1, .v (.int .i64 10)), (2, .v (.int .i64 53)), (8, .v (.bool (o == 0))), (9, .v (.string ⟨⟨t⟩⟩)), (37, .v (.bool (v1 == 48)))]) (B' := []) (by kernel_rfl) fun ρ w a hX => ?_
    refine wpList_end ?_
    refine hK11 _ _ ?_
    refine Cx.cond hX (b := (v1 == 48)) (by kernel_rfl) (fun hb => ?_) (fun hb => ?_)
    ·have h0 := ite_tt h0 hb
     refine wp_block ?_
     refine wp_seq_k fun K12 hK12 => ?_
     have J12 : ∀ (x4 : Bool), internal_strconv_ParseUint_c53.j1 t o x4 = some r → ∀ (ρ : Nat → Nat) (w : World) (F : Heap) (a : Act), Cx 172 w0 F0 No w F [] [] ρ [(0, .v (.string ⟨⟨t⟩⟩)), (2, .v (.int .i64 53)), (8, .v (.bool (o == 0))), (9, .v (.string ⟨⟨t⟩⟩)), (40, .v (.bool x4))] a → K12 a w := by
      intro x4 h0  ρ w F a hX
      unfold internal_strconv_ParseUint_c53.j1 at h0
      refine hK12 _ _ ?_
      refine Cx.cond hX (b := x4) (by kernel_rfl) (fun hb => ?_) (fun hb => ?_)
      ·have h0 := ite_tt h0 hb
       refine Cx.rseq hX [] [0, 1, 2, 8, 9] (l' := [(0, .v (.string ⟨⟨t⟩⟩)), (1, .v (.int .i64 2)), (2, .v (.int .i64 53)), (8, .v (.bool (o == 0))), (9, .v (.string ⟨⟨t⟩⟩))]) (B' := []) (by kernel_rfl) fun ρ w a hX => ?_
       refine wp_region_list ?_
       refine hX.part [] 1 [0, 1, 2, 8, 9, 50] (l' := [(0, .v (.string ⟨⟨t⟩⟩)), (1, .v (.int .i64 2)), (2, .v (.int .i64 53)), (8, .v (.bool (o == 0))), (9, .v (.string ⟨⟨t⟩⟩)), (50, .v (.string ⟨⟨t⟩⟩))]) (B' := []) (by kernel_rfl) fun ρ w a hX => ?_
       obtain ⟨v5, hv5, h0⟩ := bnd_some h0
       refine hX.cutStr (lit := []) (by kernel_rfl) (by kernel_rfl) rfl (s := t) (ol := some 2) (oh := none) (r := v5) (by kernel_rfl) (by kernel_rfl) (by kernel_rfl) (by kernel_rfl) hv5 fun a hX => ?_
       refine hX.part [] 1 [0, 1, 2, 8, 9] (l' := [(0, .v (.string ⟨⟨v5⟩⟩)), (1, .v (.int .i64 2)), (2, .v (.int .i64 53)), (8, .v (.bool (o == 0))), (9, .v (.string ⟨⟨t⟩⟩))]) (B' := []) (by kernel_rfl) fun ρ w a hX => ?_
       refine wpList_end ?_
       have hX := hX.keeps [0, 1, 2, 8, 9] (l' := [(0, .v (.string ⟨⟨v5⟩⟩)), (1, .v (.int .i64 2)), (2, .v (.int .i64 53)), (8, .v (.bool (o == 0))), (9, .v (.string ⟨⟨t⟩⟩))]) (by kernel_rfl)
       exact J7 v5 2 h0  _ _ _ _ hX
      ·have h0 := ite_ff h0 hb
       refine wp_seq_k fun K14 hK14 => ?_
       have J14 : ∀ (x8 : Bool), internal_strconv_ParseUint_c53.j2 t o x8 = some r → ∀ (ρ : Nat → Nat) (w : World) (F : Heap) (a : Act), Cx 172 w0 F0 No w F [] [] ρ [(0, .v (.string ⟨⟨t⟩⟩)), (2, .v (.int .i64 53)), (8, .v (.bool (o == 0))), (9, .v (.string ⟨⟨t⟩⟩)), (52, .v (.bool x8))] a → K14 a w := by
        intro x8 h0  ρ w F a hX
        unfold internal_strconv_ParseUint_c53.j2 at h0
        refine hK14 _ _ ?_
        refine Cx.cond hX (b := x8) (by kernel_rfl) (fun hb => ?_) (fun hb => ?_)
        ·have h0 := ite_tt h0 hb
         refine Cx.rseq hX [] [0, 1, 2, 8, 9] (l' := [(0, .v (.string ⟨⟨t⟩⟩)), (1, .v (.int .i64 8)), (2, .v (.int .i64 53)), (8, .v (.bool (o == 0))), (9, .v (.string ⟨⟨t⟩⟩))]) (B' := []) (by kernel_rfl) fun ρ w a hX => ?_
         refine wp_region_list ?_
         refine hX.part [] 1 [0, 1, 2, 8, 9, 62] (l' := [(0, .v (.string ⟨⟨t⟩⟩)), (1, .v (.int .i64 8)), (2, .v (.int .i64 53)), (8, .v (.bool (o == 0))), (9, .v (.string ⟨⟨t⟩⟩)), (62, .v (.string ⟨⟨t⟩⟩))]) (B' := []) (by kernel_rfl) fun ρ w a hX => ?_
         obtain ⟨v9, hv9, h0⟩ := bnd_some h0
         refine hX.cutStr (lit := []) (by kernel_rfl) (by kernel_rfl) rfl (s := t) (ol := some 2) (oh := none) (r := v9) (by kernel_rfl) (by kernel_rfl) (by kernel_rfl) (by kernel_rfl) hv9 fun a hX => ?_
         refine hX.part [] 1 [0, 1, 2, 8, 9] (l' := [(0, .v (.string ⟨⟨v9⟩⟩)), (1, .v (.int .i64 8)), (2, .v (.int .i64 53)), (8, .v (.bool (o == 0))), (9, .v (.string ⟨⟨t⟩⟩))]) (B' := []) (by kernel_rfl) fun ρ w a hX => ?_
         refine wpList_end ?_
         have hX := hX.keeps [0, 1, 2, 8, 9] (l' := [(0, .v (.string ⟨⟨v9⟩⟩)), (1, .v (.int .i64 8)), (2, .v (.int .i64 53)), (8, .v (.bool (o == 0))), (9, .v (.string ⟨⟨t⟩⟩))]) (by kernel_rfl)
         exact J7 v9 8 h0  _ _ _ _ hX
        ·have h0 := ite_ff h0 hb
         refine wp_seq_k fun K16 hK16 => ?_
         have J16 : ∀ (x12 : Bool), internal_strconv_ParseUint_c53.j3 t o x12 = some r → ∀ (ρ : Nat → Nat) (w : World) (F : Heap) (a : Act), Cx 172 w0 F0 No w F [] [] ρ [(0, .v (.string ⟨⟨t⟩⟩)), (2, .v (.int .i64 53)), (8, .v (.bool (o == 0))), (9, .v (.string ⟨⟨t⟩⟩)), (64, .v (.bool x12))] a → K16 a w := by
          intro x12 h0  ρ w F a hX
          unfold internal_strconv_ParseUint_c53.j3 at h0
          refine hK16 _ _ ?_
          refine Cx.cond hX (b := x12) (by kernel_rfl) (fun hb => ?_) (fun hb => ?_)
          ·have h0 := ite_tt h0 hb
           refine Cx.rseq hX [] [0, 1, 2, 8, 9] (l' := [(0, .v (.string ⟨⟨t⟩⟩)), (1, .v (.int .i64 16)), (2, .v (.int .i64 53)), (8, .v (.bool (o == 0))), (9, .v (.string ⟨⟨t⟩⟩))]) (B' := []) (by kernel_rfl) fun ρ w a hX => ?_
           refine wp_region_list ?_
           refine hX.part [] 1 [0, 1, 2, 8, 9, 74] (l' := [(0, .v (.string ⟨⟨t⟩⟩)), (1, .v (.int .i64 16)), (2, .v (.int .i64 53)), (8, .v (.bool (o == 0))), (9, .v (.string ⟨⟨t⟩⟩)), (74, .v (.string ⟨⟨t⟩⟩))]) (B' := []) (by kernel_rfl) fun ρ w a hX => ?_
           obtain ⟨v13, hv13, h0⟩ := bnd_some h0
           refine hX.cutStr (lit := []) (by kernel_rfl) (by kernel_rfl) rfl (s := t) (ol := some 2) (oh := none) (r := v13) (by kernel_rfl) (by kernel_rfl) (by kernel_rfl) (by kernel_rfl) hv13 fun a hX => ?_
           refine hX.part [] 1 [0, 1, 2, 8, 9] (l' := [(0, .v (.string ⟨⟨v13⟩⟩)), (1, .v (.int .i64 16)), (2, .v (.int .i64 53)), (8, .v (.bool (o == 0))), (9, .v (.string ⟨⟨t⟩⟩))]) (B' := []) (by kernel_rfl) fun ρ w a hX => ?_
           refine wpList_end ?_
           have hX := hX.keeps [0, 1, 2, 8, 9] (l' := [(0, .v (.string ⟨⟨v13⟩⟩)), (1, .v (.int .i64 16)), (2, .v (.int .i64 53)), (8, .v (.bool (o == 0))), (9, .v (.string ⟨⟨t⟩⟩))]) (by kernel_rfl)
           exact J7 v13 16 h0  _ _ _ _ hX
          ·have h0 := ite_ff h0 hb
           refine Cx.rseq hX [] [0, 1, 2, 8, 9] (l' := [(0, .v (.string ⟨⟨t⟩⟩)), (1, .v (.int .i64 8)), (2, .v (.int .i64 53)), (8, .v (.bool (o == 0))), (9, .v (.string ⟨⟨t⟩⟩))]) (B' := []) (by kernel_rfl) fun ρ w a hX => ?_
           refine wp_region_list ?_
           refine hX.part [] 1 [0, 1, 2, 8, 9, 38] (l' := [(0, .v (.string ⟨⟨t⟩⟩)), (1, .v (.int .i64 8)), (2, .v (.int .i64 53)), (8, .v (.bool (o == 0))), (9, .v (.string ⟨⟨t⟩⟩)), (38, .v (.string ⟨⟨t⟩⟩))]) (B' := []) (by kernel_rfl) fun ρ w a hX => ?_
           obtain ⟨v14, hv14, h0⟩ := bnd_some h0
           refine hX.cutStr (lit := []) (by kernel_rfl) (by kernel_rfl) rfl (s := t) (ol := some 1) (oh := none) (r := v14) (by kernel_rfl) (by kernel_rfl) (by kernel_rfl) (by kernel_rfl) hv14 fun a hX => ?_
           refine hX.part [] 1 [0, 1, 2, 8, 9] (l' := [(0, .v (.string ⟨⟨v14⟩⟩)), (1, .v (.int .i64 8)), (2, .v (.int .i64 53)), (8, .v (.bool (o == 0))), (9, .v (.string ⟨⟨t⟩⟩))]) (B' := []) (by kernel_rfl) fun ρ w a hX => ?_
           refine wpList_end ?_
           have hX := hX.keeps [0, 1, 2, 8, 9] (l' := [(0, .v (.string ⟨⟨v14⟩⟩)), (1, .v (.int .i64 8)), (2, .v (.int .i64 53)), (8, .v (.bool (o == 0))), (9, .v (.string ⟨⟨t⟩⟩))]) (by kernel_rfl)
           exact J7 v14 8 h0  _ _ _ _ hX
         refine wp_region_list ?_
         refine hX.part [] 4 [0, 2, 8, 9, 68] (l' := [(0, .v (.string ⟨⟨t⟩⟩)), (2, .v (.int .i64 53)), (8, .v (.bool (o == 0))), (9, .v (.string ⟨⟨t⟩⟩)), (68, .v (.bool (decide (((t.length : Nat) : Int) ≥ 3))))]) (B' := []) (by kernel_rfl) fun ρ w a hX => ?_
         refine ite_go h0 (fun hb h0 => ?_) (fun hb h0 => ?_)
         ·have hX := hX.relit 68 hb (by kernel_rfl)
          refine hX.part [3] 1 [0, 2, 8, 9, 68, 69] (l' := [(0, .v (.string ⟨⟨t⟩⟩)), (2, .v (.int .i64 53)), (8, .v (.bool (o == 0))), (9, .v (.string ⟨⟨t⟩⟩)), (68, .v (.bool true)), (69, .v (.string ⟨⟨t⟩⟩))]) (B' := []) (by kernel_rfl) fun ρ w a hX => ?_
          obtain ⟨v10, hv10, h0⟩ := bnd_some h0
          refine hX.idxStr (lit := [3]) (by kernel_rfl) (by kernel_rfl) rfl (s := t) (k := .i64) (n := 1) (b := v10) (by kernel_rfl) (by kernel_rfl) (by kernel_rfl) hv10 fun a hX => ?_
          refine hX.part [3] 0 [0, 2, 8, 9, 68, 70] (l' := [(0, .v (.string ⟨⟨t⟩⟩)), (2, .v (.int .i64 53)), (8, .v (.bool (o == 0))), (9, .v (.string ⟨⟨t⟩⟩)), (68, .v (.bool true)), (70, .v (.int .u8 v10))]) (B' := []) (by kernel_rfl) fun ρ w a hX => ?_
          obtain ⟨v11, hv11, h0⟩ := bnd_some h0
          refine Cx.call0 hX (lit := [3]) (by kernel_rfl) rfl (by kernel_rfl) ⟨⟨_, Tryz.func70, by kernel_rfl, rfl⟩⟩ (ss := [.v (.int .u8 v10)]) (by kernel_rfl) [.v (.int .u8 v10)] rfl (fun hg => hg) (fun hv hle hg => internal_strconv_lower.ok v10 v11 hv11 _ _ hv (hG.mono hle) hg _) (fun s F w a hp hX => ?_)
          subst hp
          refine hX.part [3] 3 [0, 2, 8, 9, 64] (l' := [(0, .v (.string ⟨⟨t⟩⟩)), (2, .v (.int .i64 53)), (8, .v (.bool (o == 0))), (9, .v (.string ⟨⟨t⟩⟩)), (64, .v (.bool (v11 == 120)))]) (B' := []) (by kernel_rfl) fun ρ w a hX => ?_
          refine wpList_end ?_
          have hX := hX.keeps [0, 2, 8, 9, 64] (l' := [(0, .v (.string ⟨⟨t⟩⟩)), (2, .v (.int .i64 53)), (8, .v (.bool (o == 0))), (9, .v (.string ⟨⟨t⟩⟩)), (64, .v (.bool (v11 == 120)))]) (by kernel_rfl)
          exact J16 (v11 == 120) h0  _ _ _ _ hX
         ·have hX := hX.relit 68 hb (by kernel_rfl)
          refine hX.part [3] 6 [0, 2, 8, 9, 64] (l' := [(0, .v (.string ⟨⟨t⟩⟩)), (2, .v (.int .i64 53)), (8, .v (.bool (o == 0))), (9, .v (.string ⟨⟨t⟩⟩)), (64, .v (.bool false))]) (B' := []) (by kernel_rfl) fun ρ w a hX => ?_
          refine wpList_end ?_
          have hX := hX.keeps [0, 2, 8, 9, 64] (l' := [(0, .v (.string ⟨⟨t⟩⟩)), (2, .v (.int .i64 53)), (8, .v (.bool (o == 0))), (9, .v (.string ⟨⟨t⟩⟩)), (64, .v (.bool false))]) (by kernel_rfl)
          exact J16 false h0  _ _ _ _ hX
       refine wp_region_list ?_
       refine hX.part [] 4 [0, 2, 8, 9, 56] (l' := [(0, .v (.string ⟨⟨t⟩⟩)), (2, .v (.int .i64 53)), (8, .v (.bool (o == 0))), (9, .v (.string ⟨⟨t⟩⟩)), (56, .v (.bool (decide (((t.length : Nat) : Int) ≥ 3))))]) (B' := []) (by kernel_rfl) fun ρ w a hX => ?_
       refine ite_go h0 (fun hb h0 => ?_) (fun hb h0 => ?_)
       ·have hX := hX.relit 56 hb (by kernel_rfl)
        refine hX.part [3] 1 [0, 2, 8, 9, 56, 57] (l' := [(0, .v (.string ⟨⟨t⟩⟩)), (2, .v (.int .i64 53)), (8, .v (.bool (o == 0))), (9, .v (.string ⟨⟨t⟩⟩)), (56, .v (.bool true)), (57, .v (.string ⟨⟨t⟩⟩))]) (B' := []) (by kernel_rfl) fun ρ w a hX => ?_
        obtain ⟨v6, hv6, h0⟩ := bnd_some h0
        refine hX.idxStr (lit := [3]) (by kernel_rfl) (by kernel_rfl) rfl (s := t) (k := .i64) (n := 1) (b := v6) (by kernel_rfl) (by kernel_rfl) (by kernel_rfl) hv6 fun a hX => ?_
        refine hX.part [3] 0 [0, 2, 8, 9, 56, 58] (l' := [(0, .v (.string ⟨⟨t⟩⟩)), (2, .v (.int .i64 53)), (8, .v (.bool (o == 0))), (9, .v (.string ⟨⟨t⟩⟩)), (56, .v (.bool true)), (58, .v (.int .u8 v6))]) (B' := []) (by kernel_rfl) fun ρ w a hX => ?_
        obtain ⟨v7, hv7, h0⟩ := bnd_some h0
        refine Cx.call0 hX (lit := [3]) (by kernel_rfl) rfl (by kernel_rfl) ⟨⟨_, Tryz.func70, by kernel_rfl, rfl⟩⟩ (ss := [.v (.int .u8 v6)]) (by kernel_rfl) [.v (.int .u8 v6)] rfl (fun hg => hg) (fun hv hle hg => internal_strconv_lower.ok v6 v7 hv7 _ _ hv (hG.mono hle) hg _) (fun s F w a hp hX => ?_)
        subst hp
        refine hX.part [3] 3 [0, 2, 8, 9, 52] (l' := [(0, .v (.string ⟨⟨t⟩⟩)), (2, .v (.int .i64 53)), (8, .v (.bool (o == 0))), (9, .v (.string ⟨⟨t⟩⟩)), (52, .v (.bool (v7 == 111)))]) (B' := []) (by kernel_rfl) fun ρ w a hX => ?_
        refine wpList_end ?_
        have hX := hX.keeps [0, 2, 8, 9, 52] (l' := [(0, .v (.string ⟨⟨t⟩⟩)), (2, .v (.int .i64 53)), (8, .v (.bool (o == 0))), (9, .v (.string ⟨⟨t⟩⟩)), (52, .v (.bool (v7 == 111)))]) (by kernel_rfl)
        exact J14 (v7 == 111) h0  _ _ _ _ hX
       ·have hX := hX.relit 56 hb (by kernel_rfl)
        refine hX.part [3] 6 [0, 2, 8, 9, 52] (l' := [(0, .v (.string ⟨⟨t⟩⟩)), (2, .v (.int .i64 53)), (8, .v (.bool (o == 0))), (9, .v (.string ⟨⟨t⟩⟩)), (52, .v (.bool false))]) (B' := []) (by kernel_rfl) fun ρ w a hX => ?_
        refine wpList_end ?_
        have hX := hX.keeps [0, 2, 8, 9, 52] (l' := [(0, .v (.string ⟨⟨t⟩⟩)), (2, .v (.int .i64 53)), (8, .v (.bool (o == 0))), (9, .v (.string ⟨⟨t⟩⟩)), (52, .v (.bool false))]) (by kernel_rfl)
        exact J14 false h0  _ _ _ _ hX
     refine wp_region_list ?_
     refine hX.part [] 4 [0, 2, 8, 9, 44] (l' := [(0, .v (.string ⟨⟨t⟩⟩)), (2, .v (.int .i64 53)), (8, .v (.bool (o == 0))), (9, .v (.string ⟨⟨t⟩⟩)), (44, .v (.bool (decide (((t.length : Nat) : Int) ≥ 3))))]) (B' := []) (by kernel_rfl) fun ρ w a hX => ?_
     refine ite_go h0 (fun hb h0 => ?_) (fun hb h0 => ?_)
     ·have hX := hX.relit 44 hb (by kernel_rfl)
      refine hX.part [3] 1 [0, 2, 8, 9, 44, 45] (l' := [(0, .v (.string ⟨⟨t⟩⟩)), (2, .v (.int .i64 53)), (8, .v (.bool (o == 0))), (9, .v (.string ⟨⟨t⟩⟩)), (44, .v (.bool true)), (45, .v (.string ⟨⟨t⟩⟩))]) (B' := []) (by kernel_rfl) fun ρ w a hX => ?_
      obtain ⟨v2, hv2, h0⟩ := bnd_some h0
      refine hX.idxStr (lit := [3]) (by kernel_rfl) (by kernel_rfl) rfl (s := t) (k := .i64) (n := 1) (b := v2) (by kernel_rfl) (by kernel_rfl) (by kernel_rfl) hv2 fun a hX => ?_
      refine hX.part [3] 0 [0, 2, 8, 9, 44, 46] (l' := [(0, .v (.string ⟨⟨t⟩⟩)), (2, .v (.int .i64 53)), (8, .v (.bool (o == 0))), (9, .v (.string ⟨⟨t⟩⟩)), (44, .v (.bool true)), (46, .v (.int .u8 v2))]) (B' := []) (by kernel_rfl) fun ρ w a hX => ?_
      obtain ⟨v3, hv3, h0⟩ := bnd_some h0
      refine Cx.call0 hX (lit := [3]) (by kernel_rfl) rfl (by kernel_rfl) ⟨⟨_, Tryz.func70, by kernel_rfl, rfl⟩⟩ (ss := [.v (.int .u8 v2)]) (by kernel_rfl) [.v (.int .u8 v2)] rfl (fun hg => hg) (fun hv hle hg => internal_strconv_lower.ok v2 v3 hv3 _ _ hv (hG.mono hle) hg _) (fun s F w a hp hX => ?_)
      subst hp
      refine hX.part [3] 3 [0, 2, 8, 9, 40] (l' := [(0, .v (.string ⟨⟨t⟩⟩)), (2, .v (.int .i64 53)), (8, .v (.bool (o == 0))), (9, .v (.string ⟨⟨t⟩⟩)), (40, .v (.bool (v3 == 98)))]) (B' := []) (by kernel_rfl) fun ρ w a hX => ?_
      refine wpList_end ?_
      have hX := hX.keeps [0, 2, 8, 9, 40] (l' := [(0, .v (.string ⟨⟨t⟩⟩)), (2, .v (.int .i64 53)), (8, .v (.bool (o == 0))), (9, .v (.string ⟨⟨t⟩⟩)), (40, .v (.bool (v3 == 98)))]) (by kernel_rfl)
      exact J12 (v3 == 98) h0  _ _ _ _ hX
     ·have hX := hX.relit 44 hb (by kernel_rfl)
      refine hX.part [3] 6 [0, 2, 8, 9, 40] (l' := [(0, .v (.string ⟨⟨t⟩⟩)), (2, .v (.int .i64 53)), (8, .v (.bool (o == 0))), (9, .v (.string ⟨⟨t⟩⟩)), (40, .v (.bool false))]) (B' := []) (by kernel_rfl) fun ρ w a hX => ?_
      refine wpList_end ?_
      have hX := hX.keeps [0, 2, 8, 9, 40] (l' := [(0, .v (.string ⟨⟨t⟩⟩)), (2, .v (.int .i64 53)), (8, .v (.bool (o == 0))), (9, .v (.string ⟨⟨t⟩⟩)), (40, .v (.bool false))]) (by kernel_rfl)
      exact J12 false h0  _ _ _ _ hX
    ·have h0 := ite_ff h0 hb
     refine wp_skip ?_
     have hX := hX.keeps [0, 1, 2, 8, 9] (l' := [(0, .v (.string ⟨⟨t⟩⟩)), (1, .v (.int .i64 10)), (2, .v (.int .i64 53)), (8, .v (.bool (o == 0))), (9, .v (.string ⟨⟨t⟩⟩))]) (by kernel_rfl)
     exact J7 t 10 h0  _ _ _ _ hX
   ·have h0 := ite_ff h0 hb
    refine wp_seq_k fun K19 hK19 => ?_
    refine wp_region_list ?_
    refine hX.part [] 0 [] (l' := []) (B' := []) (by kernel_rfl) fun ρ w a hX => ?_
    refine hX.mkErr (lit := []) (by kernel_rfl) (by kernel_rfl) rfl (n := 3) (by kernel_rfl) (by kernel_rfl) fun a hX => ?_
    refine hX.part [] 2 [6, 7] (l' := [(6, .v (.int .u64 0)), (7, .v (errV (GErr.code 99 3) errY))]) (B' := []) (by kernel_rfl) fun ρ w a hX => ?_
    refine wpList_end ?_
    refine hK19 _ _ ?_
    refine wp_ret ?_
    have hr := Option.some.inj (show some _ = some _ from h0)
    subst hr
    exact hX.ret0 (ss := [.v (.int .u64 0), .v (errV (GErr.code 99 3) errY)]) (by kernel_rfl) (by kernel_rfl) ⟨_, _, rfl, rfl, ⟨errY, rfl⟩⟩
def strconv_toError (f_ : Str) (s_ : Str) (base : Int) (bits : Int) (er : GErr) : Option (GErr) := if s_.length ≤ 281474976710656 ∧ (er = .code 99 2 ∨ er = .code 99 1) then some .opq else none
theorem strconv_toError.ok (f_ : Str) (s_ : Str) (base : Int) (bits : Int) (er : GErr) (q : TypeId × Value) (r : GErr) (h0 : strconv_toError f_ s_ base bits er = some r) (w0 : World) (F0 : Heap) (hv : F0.Sub w0) (hG : Glob F0) (hg : SV.goods F0 [.v (.string ⟨⟨f_⟩⟩), .v (.string ⟨⟨s_⟩⟩), .v (.int .i64 base), .v (.int .i64 bits), .v (errV er q)]) (ρ : Nat → Nat) :
    Calls Tryz.prog 63 (SV.dens ρ [.v (.string ⟨⟨f_⟩⟩), .v (.string ⟨⟨s_⟩⟩), .v (.int .i64 base), .v (.int .i64 bits), .v (errV er q)]).toArray w0 (Ret0 w0 F0 fun s => ∃ q, s = .v (errV r q)) := by
  unfold strconv_toError at h0
  split at h0
  · rename_i hc
    cases h0
    obtain ⟨hc, rfl | rfl⟩ := hc
    · obtain ⟨te, pe, hm⟩ := hG.err1
      refine (Tryz.strconv_toError_syntax ⟨⟨f_⟩⟩ ⟨⟨s_⟩⟩ base bits _ w0 hc (cellF_read hv hm) (.inr ⟨te, pe, rfl⟩)).mono fun e w' h => ?_
      obtain ⟨n, h1, _, _, h2⟩ := h
      exact Ret0.below (s := .v (.iface _ (.pointer (some ⟨n, 0, none⟩)))) hv h1 h2 trivial rfl ⟨(_, _), rfl⟩
    · obtain ⟨te, pe, hm⟩ := hG.err2
      refine (Tryz.strconv_toError_range ⟨⟨f_⟩⟩ ⟨⟨s_⟩⟩ base bits _ w0 hc (cellF_read hv hm) (.inr ⟨te, pe, rfl⟩)).mono fun e w' h => ?_
      obtain ⟨n, h1, _, _, h2⟩ := h
      exact Ret0.below (s := .v (.iface _ (.pointer (some ⟨n, 0, none⟩)))) hv h1 h2 trivial rfl ⟨(_, _), rfl⟩
  · cases h0
def strconv_ParseUint_c53 (s_ : Str) (base : Int) : Option (Int × GErr) :=
  Option.bind (internal_strconv_ParseUint_c53 s_ base) fun v1 =>
  if (!v1.2.isNil) = true then
    Option.bind (strconv_toError ([80, 97, 114, 115, 101, 85, 105, 110, 116] : Str) s_ base 53 v1.2) fun v3 =>
    some (v1.1, v3)
  else
    some (v1.1, GErr.nil)
theorem strconv_ParseUint_c53.ok (s_ : Str) (base : Int) (r : Int × GErr) (h0 : strconv_ParseUint_c53 s_ base = some r) (w0 : World) (F0 : Heap) (hv : F0.Sub w0) (hG : Glob F0) (hg : SV.goods F0 [.v (.string ⟨⟨s_⟩⟩), .v (.int .i64 base), .v (.int .i64 53)]) (ρ : Nat → Nat) :
    Calls Tryz.prog 49 (SV.dens ρ [.v (.string ⟨⟨s_⟩⟩), .v (.int .i64 base), .v (.int .i64 53)]).toArray w0 (Ret0 w0 F0 fun s => ∃ s1 s2, s = .tup [s1, s2] ∧ (s1 = .v (.int .u64 r.1)) ∧ (∃ q, s2 = .v (errV r.2 q))) := by
 refine calls_of_wp Tryz.func49 rfl ?_
 have hX := Cx.enter (D := No) (B := []) (L := []) (ρ := ρ) (N := 26) Tryz.ntmps49 [.v (.string ⟨⟨s_⟩⟩), .v (.int .i64 base), .v (.int .i64 53)] (St.start hv) rfl hg (by kernel_rfl) (fun _ h => by cases h) (Nat.le_of_ble_eq_true rfl) No.unfix
 unfold strconv_ParseUint_c53 at h0
 refine Cx.rseq hX [] [0, 1, 2] (l' := [(0, .v (.string ⟨⟨s_⟩⟩)), (1, .v (.int .i64 base)), (2, .v (.int .i64 53))]) (B' := []) (by kernel_rfl) fun ρ w a hX => ?_
 refine wp_seq_k fun K2 hK2 => ?_
 refine wp_region_list ?_
 refine hX.part [] 3 [0, 1, 2, 11, 12, 13] (l' := [(0, .v (.string ⟨⟨s_⟩⟩)), (1, .v (.int .i64 base)), (2, .v (.int .i64 53)), (11, .v (.string ⟨⟨s_⟩⟩)), (12, .v (.int .i64 base)), (13, .v (.int .i64 53))]) (B' := []) (by kernel_rfl) fun ρ w a hX => ?_
 obtain ⟨v1, hv1, h0⟩ := bnd_some h0
 refine Cx.call0 hX (lit := []) (by kernel_rfl) rfl (by kernel_rfl) ⟨⟨_, Tryz.func62, by kernel_rfl, rfl⟩⟩ (ss := [.v (.string ⟨⟨s_⟩⟩), .v (.int .i64 base), .v (.int .i64 53)]) (by kernel_rfl) [.v (.string ⟨⟨s_⟩⟩), .v (.int .i64 base), .v (.int .i64 53)] rfl (fun hg => hg) (fun hv hle hg => internal_strconv_ParseUint_c53.ok s_ base v1 hv1 _ _ hv (hG.mono hle) hg _) (fun s F w a hp hX => ?_)
 obtain ⟨_, _, rfl, rfl, ⟨q2, rfl⟩⟩ := hp
 refine hX.part [] 5 [0, 1, 2, 8, 9] (l' := [(0, .v (.string ⟨⟨s_⟩⟩)), (1, .v (.int .i64 base)), (2, .v (.int .i64 53)), (8, .v (.int .u64 v1.1)), (9, .v (errV v1.2 q2))]) (B' := []) (by kernel_rfl) fun ρ w a hX => ?_
 refine wpList_end ?_
 refine hK2 _ _ ?_
 refine wp_seq_k fun K3 hK3 => ?_
 refine wp_seq_k fun K4 hK4 => ?_
 refine wp_region_list ?_
 refine hX.part [] 1 [0, 1, 2, 8, 9, 17] (l' := [(0, .v (.string ⟨⟨s_⟩⟩)), (1, .v (.int .i64 base)), (2, .v (.int .i64 53)), (8, .v (.int .u64 v1.1)), (9, .v (errV v1.2 q2)), (17, .v (errV v1.2 q2))]) (B' := []) (by kernel_rfl) fun ρ w a hX => ?_
 refine hX.errNil (lit := []) (by kernel_rfl) (by kernel_rfl) rfl (op := .neq) (e := v1.2) (q := q2) (b := (!v1.2.isNil)) (by first | exact .inl ⟨rfl, rfl⟩ | exact .inr ⟨rfl, rfl⟩) (by kernel_rfl) (by kernel_rfl) rfl fun a hX => ?_
 refine hX.part [] 0 [0, 1, 2, 8, 9, 18] (l' := [(0, .v (.string ⟨⟨s_⟩⟩)), (1, .v (.int .i64 base)), (2, .v (.int .i64 53)), (8, .v (.int .u64 v1.1)), (9, .v (errV v1.2 q2)), (18, .v (.bool (!v1.2.isNil)))]) (B' := []) (by kernel_rfl) fun ρ w a hX => ?_
 refine wpList_end ?_
 refine hK4 _ _ ?_
 refine Cx.cond hX (b := (!v1.2.isNil)) (by kernel_rfl) (fun hb => ?_) (fun hb => ?_)
 ·have h0 := ite_tt h0 hb
  refine wp_seq_k fun K5 hK5 => ?_
  refine wp_region_list ?_
  refine hX.part [] 5 [19, 20, 21, 22, 23] (l' := [(19, .v (.int .u64 v1.1)), (20, .v (.string ⟨⟨s_⟩⟩)), (21, .v (.int .i64 base)), (22, .v (.int .i64 53)), (23, .v (errV v1.2 q2))]) (B' := []) (by kernel_rfl) fun ρ w a hX => ?_
  obtain ⟨v3, hv3, h0⟩ := bnd_some h0
  refine Cx.call0 hX (lit := []) (by kernel_rfl) rfl (by kernel_rfl) ⟨⟨_, Tryz.func63, by kernel_rfl, rfl⟩⟩ (ss := [.v (.string ⟨⟨([80, 97, 114, 115, 101, 85, 105, 110, 116] : Str)⟩⟩), .v (.string ⟨⟨s_⟩⟩), .v (.int .i64 base), .v (.int .i64 53), .v (errV v1.2 q2)]) (by kernel_rfl) [.v (.string ⟨⟨([80, 97, 114, 115, 101, 85, 105, 110, 116] : Str)⟩⟩), .v (.string ⟨⟨s_⟩⟩), .v (.int .i64 base), .v (.int .i64 53), .v (errV v1.2 q2)] rfl (fun hg => hg) (fun hv hle hg => strconv_toError.ok ([80, 97, 114, 115, 101, 85, 105, 110, 116] : Str) s_ base 53 v1.2 q2 v3 hv3 _ _ hv (hG.mono hle) hg _) (fun s F w a hp hX => ?_)
  obtain ⟨q4, rfl⟩ := hp
  refine hX.part [] 2 [6, 7] (l' := [(6, .v (.int .u64 v1.1)), (7, .v (errV v3 q4))]) (B' := []) (by kernel_rfl) fun ρ w a hX => ?_
  refine wpList_end ?_
  refine hK5 _ _ ?_
  refine wp_ret ?_
  have hr := Option.some.inj (show some _ = some _ from h0)
  subst hr
  exact hX.ret0 (ss := [.v (.int .u64 v1.1), .v (errV v3 q4)]) (by kernel_rfl) (by kernel_rfl) ⟨_, _, rfl, rfl, ⟨q4, rfl⟩⟩
 ·have h0 := ite_ff h0 hb
  refine wp_skip ?_
  refine hK3 _ _ ?_
  refine Cx.rseq hX [] [6, 7] (l' := [(6, .v (.int .u64 v1.1)), (7, .v .nilIface)]) (B' := []) (by kernel_rfl) fun ρ w a hX => ?_
  refine wp_ret ?_
  have hr := Option.some.inj (show some _ = some _ from h0)
  subst hr
  exact hX.ret0 (ss := [.v (.int .u64 v1.1), .v .nilIface]) (by kernel_rfl) (by kernel_rfl) ⟨_, _, rfl, rfl, ⟨errY, rfl⟩⟩
def token_cutter_number.j6 (x2 : Int) (v14 : Int × GErr) (x17 : Bool) : Option (Int × Int) :=
  if x17 = true then
    some (0, 0)
  else
    some ((IntKind.wrap .i64 v14.1), x2)
def token_cutter_number.j5 (x2 : Int) (x12 : Int) (x13 : Str) : Option (Int × Int) :=
  Option.bind (strconv_ParseUint_c53 x13 x12) fun v14 =>
  if (!v14.2.isNil) = true then
    token_cutter_number.j6 x2 v14 true
  else
    Option.bind (strings_Contains x13 ([95] : Str)) fun v16 =>
    token_cutter_number.j6 x2 v14 v16
def token_cutter_number.j4 (x2 : Int) (v5 : Str) (x11 : Bool) : Option (Int × Int) :=
  if x11 = true then
    some (0, 0)
  else
    token_cutter_number.j5 x2 10 v5
def token_cutter_number.j3 (x2 : Int) (v5 : Str) (x8 : Bool) : Option (Int × Int) :=
  if x8 = true then
    Option.bind (cutL v5 2 ((v5.length : Nat) : Int)) fun v9 =>
    token_cutter_number.j5 x2 16 v9
  else
    if (decide (((v5.length : Nat) : Int) > 1)) = true then
      Option.bind (getB v5 0) fun v10 =>
      token_cutter_number.j4 x2 v5 (v10 == 48)
    else
      token_cutter_number.j4 x2 v5 false
def token_cutter_number.j2 (c : T_token_cutter) (x2 : Int) (x4 : Bool) : Option (Int × Int) :=
  if x4 = true then
    some (0, 0)
  else
    Option.bind (cutL c.rest 0 x2) fun v5 =>
    if (decide (((v5.length : Nat) : Int) > 2)) = true then
      Option.bind (cutL v5 0 2) fun v6 =>
      if (v6 == ([48, 120] : Str)) = true then
        token_cutter_number.j3 x2 v5 true
      else
        Option.bind (cutL v5 0 2) fun v7 =>
        token_cutter_number.j3 x2 v5 (v7 == ([48, 88] : Str))
    else
      token_cutter_number.j3 x2 v5 false
def token_cutter_number.j1 (c : T_token_cutter) (x2 : Int) : Option (Int × Int) :=
  if (decide (x2 < ((c.rest.length : Nat) : Int))) = true then
    Option.bind (getB c.rest x2) fun v3 =>
    token_cutter_number.j2 c x2 (v3 == 46)
  else
    token_cutter_number.j2 c x2 false
def token_cutter_number (c : T_token_cutter) : Option (Int × Int) :=
  Option.bind (token_row c.rest) fun v1 =>
  token_cutter_number.j1 c v1
theorem token_cutter_number.ok (c : T_token_cutter) (r : Int × Int) (h0 : token_cutter_number c = some r) (w0 : World) (F0 : Heap) (hv : F0.Sub w0) (hG : Glob F0) (hg : SV.goods F0 [.ptr 0 0]) (ρ : Nat → Nat) (D : Own) (hD : D.known = [ρ 0]) (hst : St w0 F0 D w0 F0 [own_token_cutter c (ρ 0)]) :
    Calls Tryz.prog 34 (SV.dens ρ [.ptr 0 0]).toArray w0 (RetH w0 F0 D fun s M => (∃ s1 s2, s = .tup [s1, s2] ∧ (s1 = .v (.int .i64 r.1)) ∧ (s2 = .v (.int .i64 r.2))) ∧ M = [own_token_cutter c (ρ 0)]) := by
 refine calls_of_wp Tryz.func34 rfl ?_
 have hX := Cx.enter (D := D) (B := nones 1) (L := [own_token_cutter c (ρ 0)]) (ρ := ρ) (N := 70) Tryz.ntmps34 [.ptr 0 0] (hst.emps ρ 1) rfl hg (by kernel_rfl) (fun _ h => (nones_mem h).elim) (Nat.le_of_ble_eq_true rfl) (fix1 hD)
 unfold token_cutter_number at h0
 have hX : Cx 70 _ _ _ _ _ [own_token_cutter c (ρ 0)] [none] ρ _ _ := hX
 obtain ⟨_, hX⟩ := Cx.unpackP (k := 0) (Y := Unit) (ty := 39) hX (fun (y : Unit) => [.v (.string ⟨⟨c.src⟩⟩), .v (.string ⟨⟨c.rest⟩⟩), .v (.bool c.fresh)]) rfl (fun y => rfl) (fun y F h => h) (fun y => rfl)
 have hX : Cx 70 _ _ _ _ _ [] [some ⟨39, [.v (.string ⟨⟨c.src⟩⟩), .v (.string ⟨⟨c.rest⟩⟩), .v (.bool c.fresh)]⟩] ρ _ _ := hX
 refine Cx.rseq hX [] [0] (l' := [(0, .ptr 0 0)]) (B' := [some ⟨39, [.v (.string ⟨⟨c.src⟩⟩), .v (.string ⟨⟨c.rest⟩⟩), .v (.bool c.fresh)]⟩]) (by kernel_rfl) fun ρ w a hX => ?_
 refine wp_seq_k fun K2 hK2 => ?_
 have J2 : ∀ (x2 : Int), token_cutter_number.j1 c x2 = some r → ∀ (ρ : Nat → Nat) (w : World) (F : Heap) (a : Act), Cx 70 w0 F0 D w F [] [some ⟨39, [.v (.string ⟨⟨c.src⟩⟩), .v (.string ⟨⟨c.rest⟩⟩), .v (.bool c.fresh)]⟩] ρ [(4, .v (.string ⟨⟨c.rest⟩⟩)), (5, .v (.int .i64 10)), (6, .v (.int .i64 x2))] a → K2 a w := by
  intro x2 h0  ρ w F a hX
  unfold token_cutter_number.j1 at h0
  refine hK2 _ _ ?_
  refine wp_seq_k fun K3 hK3 => ?_
  refine wp_seq_k fun K4 hK4 => ?_
  have J4 : ∀ (x4 : Bool), token_cutter_number.j2 c x2 x4 = some r → ∀ (ρ : Nat → Nat) (w : World) (F : Heap) (a : Act), Cx 70 w0 F0 D w F [] [some ⟨39, [.v (.string ⟨⟨c.src⟩⟩), .v (.string ⟨⟨c.rest⟩⟩), .v (.bool c.fresh)]⟩] ρ [(4, .v (.string ⟨⟨c.rest⟩⟩)), (5, .v (.int .i64 10)), (6, .v (.int .i64 x2)), (28, .v (.bool x4))] a → K4 a w := by
   intro x4 h0  ρ w F a hX
   unfold token_cutter_number.j2 at h0
   refine hK4 _ _ ?_
   refine Cx.cond hX (b := x4) (by kernel_rfl) (fun hb => ?_) (fun hb => ?_)
   ·have h0 := ite_tt h0 hb
    refine Cx.rseq hX [] [2, 3] (l' := [(2, .v (.int .i64 0)), (3, .v (.int .i64 0))]) (B' := [some ⟨39, [.v (.string ⟨⟨c.src⟩⟩), .v (.string ⟨⟨c.rest⟩⟩), .v (.bool c.fresh)]⟩]) (by kernel_rfl) fun ρ w a hX => ?_
    refine wp_ret ?_
    have hX : Cx 70 _ _ _ _ _ [] [some ⟨39, [.v (.string ⟨⟨c.src⟩⟩), .v (.string ⟨⟨c.rest⟩⟩), .v (.bool c.fresh)]⟩] ρ _ _ := hX
    have hX : Cx 70 _ _ _ _ _ [own_token_cutter c (ρ 0)] [none] ρ _ _ := Cx.packP (Y := Unit) hX 0 (() : Unit) rfl rfl rfl rfl (fun h => h)
    have hX : Cx 70 _ _ _ _ _ [own_token_cutter c (ρ 0)] [none] ρ _ _ := hX
    have hr := Option.some.inj (show some _ = some _ from h0)
    subst hr
    exact hX.retH (M := [own_token_cutter c (ρ 0)]) (ss := [.v (.int .i64 0), .v (.int .i64 0)]) (by kernel_rfl) (by kernel_rfl) ⟨⟨_, _, rfl, rfl, rfl⟩, by rw [(hX.fix 0 _ (by rw [hD]; rfl)).2]⟩
   ·have h0 := ite_ff h0 hb
    refine wp_skip ?_
    refine hK3 _ _ ?_
    refine wp_seq_k fun K6 hK6 => ?_
    refine wp_region_list ?_
    refine hX.part [] 2 [5, 6, 29, 30] (l' := [(5, .v (.int .i64 10)), (6, .v (.int .i64 x2)), (29, .v (.string ⟨⟨c.rest⟩⟩)), (30, .v (.int .i64 x2))]) (B' := [some ⟨39, [.v (.string ⟨⟨c.src⟩⟩), .v (.string ⟨⟨c.rest⟩⟩), .v (.bool c.fresh)]⟩]) (by kernel_rfl) fun ρ w a hX => ?_
    obtain ⟨v5, hv5, h0⟩ := bnd_some h0
    refine hX.cutStr (lit := []) (by kernel_rfl) (by kernel_rfl) rfl (s := c.rest) (ol := none) (oh := some x2) (r := v5) (by kernel_rfl) (by kernel_rfl) (by kernel_rfl) (by kernel_rfl) hv5 fun a hX => ?_
    refine hX.part [] 1 [5, 6, 7] (l' := [(5, .v (.int .i64 10)), (6, .v (.int .i64 x2)), (7, .v (.string ⟨⟨v5⟩⟩))]) (B' := [some ⟨39, [.v (.string ⟨⟨c.src⟩⟩), .v (.string ⟨⟨c.rest⟩⟩), .v (.bool c.fresh)]⟩]) (by kernel_rfl) fun ρ w a hX => ?_
    refine wpList_end ?_
    refine hK6 _ _ ?_
    refine wp_seq_k fun K7 hK7 => ?_
    have J7 : ∀ (x12 : Int) (x13 : Str), token_cutter_number.j5 x2 x12 x13 = some r → ∀ (ρ : Nat → Nat) (w : World) (F : Heap) (a : Act), Cx 70 w0 F0 D w F [] [some ⟨39, [.v (.string ⟨⟨c.src⟩⟩), .v (.string ⟨⟨c.rest⟩⟩), .v (.bool c.fresh)]⟩] ρ [(5, .v (.int .i64 x12)), (6, .v (.int .i64 x2)), (7, .v (.string ⟨⟨x13⟩⟩))] a → K7 a w := by
     intro x12 x13 h0  ρ w F a hX
     unfold token_cutter_number.j5 at h0
     refine hK7 _ _ ?_
     refine wp_seq_k fun K11 hK11 => ?_
     refine wp_region_list ?_
     refine hX.part [] 2 [6, 7, 56, 57] (l' := [(6, .v (.int .i64 x2)), (7, .v (.string ⟨⟨x13⟩⟩)), (56, .v (.string ⟨⟨x13⟩⟩)), (57, .v (.int .i64 x12))]) (B' := [some ⟨39, [.v (.string ⟨⟨c.src⟩⟩), .v (.string ⟨⟨c.rest⟩⟩), .v (.bool c.fresh)]⟩]) (by kernel_rfl) fun ρ w a hX => ?_
     obtain ⟨v14, hv14, h0⟩ := bnd_some h0
     refine Cx.call0 hX (lit := []) (by kernel_rfl) rfl (by kernel_rfl) ⟨⟨_, Tryz.func49, by kernel_rfl, rfl⟩⟩ (ss := [.v (.string ⟨⟨x13⟩⟩), .v (.int .i64 x12), .v (.int .i64 53)]) (by kernel_rfl) [.v (.string ⟨⟨x13⟩⟩), .v (.int .i64 x12), .v (.int .i64 53)] rfl (fun hg => hg) (fun hv hle hg => strconv_ParseUint_c53.ok x13 x12 v14 hv14 _ _ hv (hG.mono hle) hg _) (fun s F w a hp hX => ?_)
     obtain ⟨_, _, rfl, rfl, ⟨q15, rfl⟩⟩ := hp
     refine hX.part [] 5 [6, 7, 8, 9] (l' := [(6, .v (.int .i64 x2)), (7, .v (.string ⟨⟨x13⟩⟩)), (8, .v (.int .u64 v14.1)), (9, .v (errV v14.2 q15))]) (B' := [some ⟨39, [.v (.string ⟨⟨c.src⟩⟩), .v (.string ⟨⟨c.rest⟩⟩), .v (.bool c.fresh)]⟩]) (by kernel_rfl) fun ρ w a hX => ?_
     refine wpList_end ?_
     refine hK11 _ _ ?_
     refine wp_seq_k fun K12 hK12 => ?_
     refine wp_seq_k fun K13 hK13 => ?_
     have J13 : ∀ (x17 : Bool), token_cutter_number.j6 x2 v14 x17 = some r → ∀ (ρ : Nat → Nat) (w : World) (F : Heap) (a : Act), Cx 70 w0 F0 D w F [] [some ⟨39, [.v (.string ⟨⟨c.src⟩⟩), .v (.string ⟨⟨c.rest⟩⟩), .v (.bool c.fresh)]⟩] ρ [(6, .v (.int .i64 x2)), (8, .v (.int .u64 v14.1)), (66, .v (.bool x17))] a → K13 a w := by
      intro x17 h0  ρ w F a hX
      unfold token_cutter_number.j6 at h0
      refine hK13 _ _ ?_
      refine Cx.cond hX (b := x17) (by kernel_rfl) (fun hb => ?_) (fun hb => ?_)
      ·have h0 := ite_tt h0 hb
       refine Cx.rseq hX [] [2, 3] (l' := [(2, .v (.int .i64 0)), (3, .v (.int .i64 0))]) (B' := [some ⟨39, [.v (.string ⟨⟨c.src⟩⟩), .v (.string ⟨⟨c.rest⟩⟩), .v (.bool c.fresh)]⟩]) (by kernel_rfl) fun ρ w a hX => ?_
       refine wp_ret ?_
       have hX : Cx 70 _ _ _ _ _ [] [some ⟨39, [.v (.string ⟨⟨c.src⟩⟩), .v (.string ⟨⟨c.rest⟩⟩), .v (.bool c.fresh)]⟩] ρ _ _ := hX
       have hX : Cx 70 _ _ _ _ _ [own_token_cutter c (ρ 0)] [none] ρ _ _ := Cx.packP (Y := Unit) hX 0 (() : Unit) rfl rfl rfl rfl (fun h => h)
       have hX : Cx 70 _ _ _ _ _ [own_token_cutter c (ρ 0)] [none] ρ _ _ := hX
       have hr := Option.some.inj (show some _ = some _ from h0)
       subst hr
       exact hX.retH (M := [own_token_cutter c (ρ 0)]) (ss := [.v (.int .i64 0), .v (.int .i64 0)]) (by kernel_rfl) (by kernel_rfl) ⟨⟨_, _, rfl, rfl, rfl⟩, by rw [(hX.fix 0 _ (by rw [hD]; rfl)).2]⟩
      ·have h0 := ite_ff h0 hb
       refine wp_skip ?_
       refine hK12 _ _ ?_
       refine Cx.rseq hX [] [2, 3] (l' := [(2, .v (.int .i64 (IntKind.wrap .i64 v14.1))), (3, .v (.int .i64 x2))]) (B' := [some ⟨39, [.v (.string ⟨⟨c.src⟩⟩), .v (.string ⟨⟨c.rest⟩⟩), .v (.bool c.fresh)]⟩]) (by kernel_rfl) fun ρ w a hX => ?_
       refine wp_ret ?_
       have hX : Cx 70 _ _ _ _ _ [] [some ⟨39, [.v (.string ⟨⟨c.src⟩⟩), .v (.string ⟨⟨c.rest⟩⟩), .v (.bool c.fresh)]⟩] ρ _ _ := hX
       have hX : Cx 70 _ _ _ _ _ [own_token_cutter c (ρ 0)] [none] ρ _ _ := Cx.packP (Y := Unit) hX 0 (() : Unit) rfl rfl rfl rfl (fun h => h)
       have hX : Cx 70 _ _ _ _ _ [own_token_cutter c (ρ 0)] [none] ρ _ _ := hX
       have hr := Option.some.inj (show some _ = some _ from h0)
       subst hr
       exact hX.retH (M := [own_token_cutter c (ρ 0)]) (ss := [.v (.int .i64 (IntKind.wrap .i64 v14.1)), .v (.int .i64 x2)]) (by kernel_rfl) (by kernel_rfl) ⟨⟨_, _, rfl, rfl, rfl⟩, by rw [(hX.fix 0 _ (by rw [hD]; rfl)).2]⟩
     refine wp_region_list ?_
     refine hX.part [] 1 [6, 7, 8, 61] (l' := [(6, .v (.int .i64 x2)), (7, .v (.string ⟨⟨x13⟩⟩)), (8, .v (.int .u64 v14.1)), (61, .v (errV v14.2 q15))]) (B' := [some ⟨39, [.v (.string ⟨⟨c.src⟩⟩), .v (.string ⟨⟨c.rest⟩⟩), .v (.bool c.fresh)]⟩]) (by kernel_rfl) fun ρ w a hX => ?_
     refine hX.errNil (lit := []) (by kernel_rfl) (by kernel_rfl) rfl (op := .neq) (e := v14.2) (q := q15) (b := (!v14.2.isNil)) (by first | exact .inl ⟨rfl, rfl⟩ | exact .inr ⟨rfl, rfl⟩) (by kernel_rfl) (by kernel_rfl) rfl fun a hX => ?_
     refine hX.part [] 1 [6, 7, 8, 63] (l' := [(6, .v (.int .i64 x2)), (7, .v (.string ⟨⟨x13⟩⟩)), (8, .v (.int .u64 v14.1)), (63, .v (.bool (!v14.2.isNil)))]) (B' := [some ⟨39, [.v (.string ⟨⟨c.src⟩⟩), .v (.string ⟨⟨c.rest⟩⟩), .v (.bool c.fresh)]⟩]) (by kernel_rfl) fun ρ w a hX => ?_
     refine ite_go h0 (fun hb h0 => ?_) (fun hb h0 => ?_)
     ·have hX := hX.relit 63 hb (by kernel_rfl)
      refine hX.part [2] 3 [6, 8, 66] (l' := [(6, .v (.int .i64 x2)), (8, .v (.int .u64 v14.1)), (66, .v (.bool true))]) (B' := [some ⟨39, [.v (.string ⟨⟨c.src⟩⟩), .v (.string ⟨⟨c.rest⟩⟩), .v (.bool c.fresh)]⟩]) (by kernel_rfl) fun ρ w a hX => ?_
      refine wpList_end ?_
      have hX := hX.keeps [6, 8, 66] (l' := [(6, .v (.int .i64 x2)), (8, .v (.int .u64 v14.1)), (66, .v (.bool true))]) (by kernel_rfl)
      exact J13 true h0  _ _ _ _ hX
     ·have hX := hX.relit 63 hb (by kernel_rfl)
      refine hX.part [2] 1 [6, 8, 63, 64] (l' := [(6, .v (.int .i64 x2)), (8, .v (.int .u64 v14.1)), (63, .v (.bool false)), (64, .v (.string ⟨⟨x13⟩⟩))]) (B' := [some ⟨39, [.v (.string ⟨⟨c.src⟩⟩), .v (.string ⟨⟨c.rest⟩⟩), .v (.bool c.fresh)]⟩]) (by kernel_rfl) fun ρ w a hX => ?_
      obtain ⟨v16, hv16, h0⟩ := bnd_some h0
      refine Cx.call0 hX (lit := [2]) (by kernel_rfl) rfl (by kernel_rfl) ⟨⟨_, Tryz.func37, by kernel_rfl, rfl⟩⟩ (ss := [.v (.string ⟨⟨x13⟩⟩), .v (.string ⟨⟨([95] : Str)⟩⟩)]) (by kernel_rfl) [.v (.string ⟨⟨x13⟩⟩), .v (.string ⟨⟨([95] : Str)⟩⟩)] rfl (fun hg => hg) (fun hv hle hg => strings_Contains.ok x13 ([95] : Str) v16 hv16 _ _ hv (hG.mono hle) hg _) (fun s F w a hp hX => ?_)
      subst hp
      refine hX.part [] 1 [6, 8, 66] (l' := [(6, .v (.int .i64 x2)), (8, .v (.int .u64 v14.1)), (66, .v (.bool v16))]) (B' := [some ⟨39, [.v (.string ⟨⟨c.src⟩⟩), .v (.string ⟨⟨c.rest⟩⟩), .v (.bool c.fresh)]⟩]) (by kernel_rfl) fun ρ w a hX => ?_
      refine wpList_end ?_
      have hX := hX.keeps [6, 8, 66] (l' := [(6, .v (.int .i64 x2)), (8, .v (.int .u64 v14.1)), (66, .v (.bool v16))]) (by kernel_rfl)
      exact J13 v16 h0  _ _ _ _ hX
    refine wp_seq_k fun K8 hK8 => ?_
    have J8 : ∀ (x8 : Bool), token_cutter_number.j3 x2 v5 x8 = some r → ∀ (ρ : Nat → Nat) (w : World) (F : Heap) (a : Act), Cx 70 w0 F0 D w F [] [some ⟨39, [.v (.string ⟨⟨c.src⟩⟩), .v (.string ⟨⟨c.rest⟩⟩), .v (.bool c.fresh)]⟩] ρ [(5, .v (.int .i64 10)), (6, .v (.int .i64 x2)), (7, .v (.string ⟨⟨v5⟩⟩)), (44, .v (.bool x8))] a → K8 a w := by
     intro x8 h0  ρ w F a hX
     unfold token_cutter_number.j3 at h0
     refine hK8 _ _ ?_
     refine Cx.cond hX (b := x8) (by kernel_rfl) (fun hb => ?_) (fun hb => ?_)
     ·have h0 := ite_tt h0 hb
      have hGd := hG.mono hX.st.le
      refine hX.draw rfl (n := 4) rfl #[false, false, false, false] (by kernel_rfl) fun w D' hDk back hX => ?_
      refine hX.dq 0 rfl (lit := []) (by kernel_rfl) (listed' := #[true, false, false, false]) (by kernel_rfl) (by kernel_rfl) (s := .v (.string ⟨⟨v5⟩⟩)) (by kernel_rfl) fun a hX => ?_
      obtain ⟨v9, hv9, h0⟩ := bnd_some h0
      refine hX.dCutStr 1 rfl (lit := []) (by kernel_rfl) (listed' := #[true, true, false, false]) (by kernel_rfl) (by kernel_rfl) rfl (s := v5) (ol := some 2) (oh := none) (r := v9) (by kernel_rfl) (by kernel_rfl) (by kernel_rfl) (by kernel_rfl) hv9 fun a hX => ?_
      refine hX.dq 2 rfl (lit := []) (by kernel_rfl) (listed' := #[true, true, true, false]) (by kernel_rfl) (by kernel_rfl) (s := .v (.int .i64 16)) (by kernel_rfl) fun a hX => ?_
      refine hX.dq 3 rfl (lit := []) (by kernel_rfl) (listed' := #[true, true, true, true]) (by kernel_rfl) (by kernel_rfl) (s := .v (.string ⟨⟨v9⟩⟩)) (by kernel_rfl) fun a hX => ?_
      have hX := back hX
      refine ddone (by kernel_rfl) ?_
      have hX := hX.keeps [5, 6, 7] (l' := [(5, .v (.int .i64 16)), (6, .v (.int .i64 x2)), (7, .v (.string ⟨⟨v9⟩⟩))]) (by kernel_rfl)
      exact J7 16 v9 h0  _ _ _ _ hX
     ·have h0 := ite_ff h0 hb
      refine wp_seq_k fun K9 hK9 => ?_
      have J9 : ∀ (x11 : Bool), token_cutter_number.j4 x2 v5 x11 = some r → ∀ (ρ : Nat → Nat) (w : World) (F : Heap) (a : Act), Cx 70 w0 F0 D w F [] [some ⟨39, [.v (.string ⟨⟨c.src⟩⟩), .v (.string ⟨⟨c.rest⟩⟩), .v (.bool c.fresh)]⟩] ρ [(5, .v (.int .i64 10)), (6, .v (.int .i64 x2)), (7, .v (.string ⟨⟨v5⟩⟩)), (54, .v (.bool x11))] a → K9 a w := by
       intro x11 h0  ρ w F a hX
       unfold token_cutter_number.j4 at h0
       refine hK9 _ _ ?_
       refine Cx.cond hX (b := x11) (by kernel_rfl) (fun hb => ?_) (fun hb => ?_)
       ·have h0 := ite_tt h0 hb
        refine Cx.rseq hX [] [2, 3] (l' := [(2, .v (.int .i64 0)), (3, .v (.int .i64 0))]) (B' := [some ⟨39, [.v (.string ⟨⟨c.src⟩⟩), .v (.string ⟨⟨c.rest⟩⟩), .v (.bool c.fresh)]⟩]) (by kernel_rfl) fun ρ w a hX => ?_
        refine wp_ret ?_
        have hX : Cx 70 _ _ _ _ _ [] [some ⟨39, [.v (.string ⟨⟨c.src⟩⟩), .v (.string ⟨⟨c.rest⟩⟩), .v (.bool c.fresh)]⟩] ρ _ _ := hX
        have hX : Cx 70 _ _ _ _ _ [own_token_cutter c (ρ 0)] [none] ρ _ _ := Cx.packP (Y := Unit) hX 0 (() : Unit) rfl rfl rfl rfl (fun h => h)
        have hX : Cx 70 _ _ _ _ _ [own_token_cutter c (ρ 0)] [none] ρ _ _ := hX
        have hr := Option.some.inj (show some _ = some _ from h0)
        subst hr
        exact hX.retH (M := [own_token_cutter c (ρ 0)]) (ss := [.v (.int .i64 0), .v (.int .i64 0)]) (by kernel_rfl) (by kernel_rfl) ⟨⟨_, _, rfl, rfl, rfl⟩, by rw [(hX.fix 0 _ (by rw [hD]; rfl)).2]⟩
       ·have h0 := ite_ff h0 hb
        refine wp_skip ?_
        have hX := hX.keeps [5, 6, 7] (l' := [(5, .v (.int .i64 10)), (6, .v (.int .i64 x2)), (7, .v (.string ⟨⟨v5⟩⟩))]) (by kernel_rfl)
        exact J7 10 v5 h0  _ _ _ _ hX
      refine wp_region_list ?_
      refine hX.part [] 4 [5, 6, 7, 50] (l' := [(5, .v (.int .i64 10)), (6, .v (.int .i64 x2)), (7, .v (.string ⟨⟨v5⟩⟩)), (50, .v (.bool (decide (((v5.length : Nat) : Int) > 1))))]) (B' := [some ⟨39, [.v (.string ⟨⟨c.src⟩⟩), .v (.string ⟨⟨c.rest⟩⟩), .v (.bool c.fresh)]⟩]) (by kernel_rfl) fun ρ w a hX => ?_
      refine ite_go h0 (fun hb h0 => ?_) (fun hb h0 => ?_)
      ·have hX := hX.relit 50 hb (by kernel_rfl)
       refine hX.part [3] 1 [5, 6, 7, 50, 51] (l' := [(5, .v (.int .i64 10)), (6, .v (.int .i64 x2)), (7, .v (.string ⟨⟨v5⟩⟩)), (50, .v (.bool true)), (51, .v (.string ⟨⟨v5⟩⟩))]) (B' := [some ⟨39, [.v (.string ⟨⟨c.src⟩⟩), .v (.string ⟨⟨c.rest⟩⟩), .v (.bool c.fresh)]⟩]) (by kernel_rfl) fun ρ w a hX => ?_
       obtain ⟨v10, hv10, h0⟩ := bnd_some h0
       refine hX.idxStr (lit := [3]) (by kernel_rfl) (by kernel_rfl) rfl (s := v5) (k := .i64) (n := 0) (b := v10) (by kernel_rfl) (by kernel_rfl) (by kernel_rfl) hv10 fun a hX => ?_
       refine hX.part [3] 2 [5, 6, 7, 54] (l' := [(5, .v (.int .i64 10)), (6, .v (.int .i64 x2)), (7, .v (.string ⟨⟨v5⟩⟩)), (54, .v (.bool (v10 == 48)))]) (B' := [some ⟨39, [.v (.string ⟨⟨c.src⟩⟩), .v (.string ⟨⟨c.rest⟩⟩), .v (.bool c.fresh)]⟩]) (by kernel_rfl) fun ρ w a hX => ?_
       refine wpList_end ?_
       have hX := hX.keeps [5, 6, 7, 54] (l' := [(5, .v (.int .i64 10)), (6, .v (.int .i64 x2)), (7, .v (.string ⟨⟨v5⟩⟩)), (54, .v (.bool (v10 == 48)))]) (by kernel_rfl)
       exact J9 (v10 == 48) h0  _ _ _ _ hX
      ·have hX := hX.relit 50 hb (by kernel_rfl)
       refine hX.part [3] 4 [5, 6, 7, 54] (l' := [(5, .v (.int .i64 10)), (6, .v (.int .i64 x2)), (7, .v (.string ⟨⟨v5⟩⟩)), (54, .v (.bool false))]) (B' := [some ⟨39, [.v (.string ⟨⟨c.src⟩⟩), .v (.string ⟨⟨c.rest⟩⟩), .v (.bool c.fresh)]⟩]) (by kernel_rfl) fun ρ w a hX => ?_
       refine wpList_end ?_
       have hX := hX.keeps [5, 6, 7, 54] (l' := [(5, .v (.int .i64 10)), (6, .v (.int .i64 x2)), (7, .v (.string ⟨⟨v5⟩⟩)), (54, .v (.bool false))]) (by kernel_rfl)
       exact J9 false h0  _ _ _ _ hX
    refine wp_region_list ?_
    refine hX.part [] 4 [5, 6, 7, 35] (l' := [(5, .v (.int .i64 10)), (6, .v (.int .i64 x2)), (7, .v (.string ⟨⟨v5⟩⟩)), (35, .v (.bool (decide (((v5.length : Nat) : Int) > 2))))]) (B' := [some ⟨39, [.v (.string ⟨⟨c.src⟩⟩), .v (.string ⟨⟨c.rest⟩⟩), .v (.bool c.fresh)]⟩]) (by kernel_rfl) fun ρ w a hX => ?_
    refine ite_go h0 (fun hb h0 => ?_) (fun hb h0 => ?_)
    ·have hX := hX.relit 35 hb (by kernel_rfl)
     refine hX.part [3] 1 [5, 6, 7, 35, 36] (l' := [(5, .v (.int .i64 10)), (6, .v (.int .i64 x2)), (7, .v (.string ⟨⟨v5⟩⟩)), (35, .v (.bool true)), (36, .v (.string ⟨⟨v5⟩⟩))]) (B' := [some ⟨39, [.v (.string ⟨⟨c.src⟩⟩), .v (.string ⟨⟨c.rest⟩⟩), .v (.bool c.fresh)]⟩]) (by kernel_rfl) fun ρ w a hX => ?_
     obtain ⟨v6, hv6, h0⟩ := bnd_some h0
     refine hX.cutStr (lit := [3]) (by kernel_rfl) (by kernel_rfl) rfl (s := v5) (ol := none) (oh := some 2) (r := v6) (by kernel_rfl) (by kernel_rfl) (by kernel_rfl) (by kernel_rfl) hv6 fun a hX => ?_
     refine hX.part [3] 2 [5, 6, 7, 35, 39] (l' := [(5, .v (.int .i64 10)), (6, .v (.int .i64 x2)), (7, .v (.string ⟨⟨v5⟩⟩)), (35, .v (.bool true)), (39, .v (.bool (v6 == ([48, 120] : Str))))]) (B' := [some ⟨39, [.v (.string ⟨⟨c.src⟩⟩), .v (.string ⟨⟨c.rest⟩⟩), .v (.bool c.fresh)]⟩]) (by kernel_rfl) fun ρ w a hX => ?_
     refine ite_go h0 (fun hb h0 => ?_) (fun hb h0 => ?_)
     ·have hX := hX.relit 39 hb (by kernel_rfl)
      refine hX.part [3, 7] 5 [5, 6, 7, 44] (l' := [(5, .v (.int .i64 10)), (6, .v (.int .i64 x2)), (7, .v (.string ⟨⟨v5⟩⟩)), (44, .v (.bool true))]) (B' := [some ⟨39, [.v (.string ⟨⟨c.src⟩⟩), .v (.string ⟨⟨c.rest⟩⟩), .v (.bool c.fresh)]⟩]) (by kernel_rfl) fun ρ w a hX => ?_
      refine wpList_end ?_
      have hX := hX.keeps [5, 6, 7, 44] (l' := [(5, .v (.int .i64 10)), (6, .v (.int .i64 x2)), (7, .v (.string ⟨⟨v5⟩⟩)), (44, .v (.bool true))]) (by kernel_rfl)
      exact J8 true h0  _ _ _ _ hX
     ·have hX := hX.relit 39 hb (by kernel_rfl)
      refine hX.part [7] 1 [5, 6, 7, 35, 39, 40] (l' := [(5, .v (.int .i64 10)), (6, .v (.int .i64 x2)), (7, .v (.string ⟨⟨v5⟩⟩)), (35, .v (.bool true)), (39, .v (.bool false)), (40, .v (.string ⟨⟨v5⟩⟩))]) (B' := [some ⟨39, [.v (.string ⟨⟨c.src⟩⟩), .v (.string ⟨⟨c.rest⟩⟩), .v (.bool c.fresh)]⟩]) (by kernel_rfl) fun ρ w a hX => ?_
      obtain ⟨v7, hv7, h0⟩ := bnd_some h0
      refine hX.cutStr (lit := [7]) (by kernel_rfl) (by kernel_rfl) rfl (s := v5) (ol := none) (oh := some 2) (r := v7) (by kernel_rfl) (by kernel_rfl) (by kernel_rfl) (by kernel_rfl) hv7 fun a hX => ?_
      refine hX.part [3, 7] 3 [5, 6, 7, 44] (l' := [(5, .v (.int .i64 10)), (6, .v (.int .i64 x2)), (7, .v (.string ⟨⟨v5⟩⟩)), (44, .v (.bool (v7 == ([48, 88] : Str))))]) (B' := [some ⟨39, [.v (.string ⟨⟨c.src⟩⟩), .v (.string ⟨⟨c.rest⟩⟩), .v (.bool c.fresh)]⟩]) (by kernel_rfl) fun ρ w a hX => ?_
      refine wpList_end ?_
      have hX := hX.keeps [5, 6, 7, 44] (l' := [(5, .v (.int .i64 10)), (6, .v (.int .i64 x2)), (7, .v (.string ⟨⟨v5⟩⟩)), (44, .v (.bool (v7 == ([48, 88] : Str))))]) (by kernel_rfl)
      exact J8 (v7 == ([48, 88] : Str)) h0  _ _ _ _ hX
    ·have hX := hX.relit 35 hb (by kernel_rfl)
     refine hX.part [3, 7] 9 [5, 6, 7, 44] (l' := [(5, .v (.int .i64 10)), (6, .v (.int .i64 x2)), (7, .v (.string ⟨⟨v5⟩⟩)), (44, .v (.bool false))]) (B' := [some ⟨39, [.v (.string ⟨⟨c.src⟩⟩), .v (.string ⟨⟨c.rest⟩⟩), .v (.bool c.fresh)]⟩]) (by kernel_rfl) fun ρ w a hX => ?_
     refine wpList_end ?_
     have hX := hX.keeps [5, 6, 7, 44] (l' := [(5, .v (.int .i64 10)), (6, .v (.int .i64 x2)), (7, .v (.string ⟨⟨v5⟩⟩)), (44, .v (.bool false))]) (by kernel_rfl)
     exact J8 false h0  _ _ _ _ hX
  refine wp_region_list ?_
  refine hX.part [] 5 [4, 5, 6, 23] (l' := [(4, .v (.string ⟨⟨c.rest⟩⟩)), (5, .v (.int .i64 10)), (6, .v (.int .i64 x2)), (23, .v (.bool (decide (x2 < ((c.rest.length : Nat) : Int)))))]) (B' := [some ⟨39, [.v (.string ⟨⟨c.src⟩⟩), .v (.string ⟨⟨c.rest⟩⟩), .v (.bool c.fresh)]⟩]) (by kernel_rfl) fun ρ w a hX => ?_
  refine ite_go h0 (fun hb h0 => ?_) (fun hb h0 => ?_)
  ·have hX := hX.relit 23 hb (by kernel_rfl)
   refine hX.part [4] 2 [4, 5, 6, 23, 24, 25] (l' := [(4, .v (.string ⟨⟨c.rest⟩⟩)), (5, .v (.int .i64 10)), (6, .v (.int .i64 x2)), (23, .v (.bool true)), (24, .v (.string ⟨⟨c.rest⟩⟩)), (25, .v (.int .i64 x2))]) (B' := [some ⟨39, [.v (.string ⟨⟨c.src⟩⟩), .v (.string ⟨⟨c.rest⟩⟩), .v (.bool c.fresh)]⟩]) (by kernel_rfl) fun ρ w a hX => ?_
   obtain ⟨v3, hv3, h0⟩ := bnd_some h0
   refine hX.idxStr (lit := [4]) (by kernel_rfl) (by kernel_rfl) rfl (s := c.rest) (k := .i64) (n := x2) (b := v3) (by kernel_rfl) (by kernel_rfl) (by kernel_rfl) hv3 fun a hX => ?_
   refine hX.part [4] 2 [4, 5, 6, 28] (l' := [(4, .v (.string ⟨⟨c.rest⟩⟩)), (5, .v (.int .i64 10)), (6, .v (.int .i64 x2)), (28, .v (.bool (v3 == 46)))]) (B' := [some ⟨39, [.v (.string ⟨⟨c.src⟩⟩), .v (.string ⟨⟨c.rest⟩⟩), .v (.bool c.fresh)]⟩]) (by kernel_rfl) fun ρ w a hX => ?_
   refine wpList_end ?_
   have hX := hX.keeps [4, 5, 6, 28] (l' := [(4, .v (.string ⟨⟨c.rest⟩⟩)), (5, .v (.int .i64 10)), (6, .v (.int .i64 x2)), (28, .v (.bool (v3 == 46)))]) (by kernel_rfl)
   exact J4 (v3 == 46) h0  _ _ _ _ hX
  ·have hX := hX.relit 23 hb (by kernel_rfl)
   refine hX.part [4] 5 [4, 5, 6, 28] (l' := [(4, .v (.string ⟨⟨c.rest⟩⟩)), (5, .v (.int .i64 10)), (6, .v (.int .i64 x2)), (28, .v (.bool false))]) (B' := [some ⟨39, [.v (.string ⟨⟨c.src⟩⟩), .v (.string ⟨⟨c.rest⟩⟩), .v (.bool c.fresh)]⟩]) (by kernel_rfl) fun ρ w a hX => ?_
   refine wpList_end ?_
   have hX := hX.keeps [4, 5, 6, 28] (l' := [(4, .v (.string ⟨⟨c.rest⟩⟩)), (5, .v (.int .i64 10)), (6, .v (.int .i64 x2)), (28, .v (.bool false))]) (by kernel_rfl)
   exact J4 false h0  _ _ _ _ hX
 have hGd := hG.mono hX.st.le
 refine hX.draw rfl (n := 12) rfl #[false, false, false, false, false, false, false, false, false, false, false, false] (by kernel_rfl) fun w D' hDk back hX => ?_
 refine hX.dq 0 rfl (lit := []) (by kernel_rfl) (listed' := #[true, false, false, false, false, false, false, false, false, false, false, false]) (by kernel_rfl) (by kernel_rfl) (s := .ptr 0 0) (by kernel_rfl) fun a hX => ?_
 refine hX.dq 1 rfl (lit := []) (by kernel_rfl) (listed' := #[true, true, false, false, false, false, false, false, false, false, false, false]) (by kernel_rfl) (by kernel_rfl) (s := .ptr 0 0) (by kernel_rfl) fun a hX => ?_
 refine hX.dq 2 rfl (lit := []) (by kernel_rfl) (listed' := #[true, true, true, false, false, false, false, false, false, false, false, false]) (by kernel_rfl) (by kernel_rfl) (s := .ptr 0 1) (by kernel_rfl) fun a hX => ?_
 refine hX.dq 4 rfl (lit := []) (by kernel_rfl) (listed' := #[true, true, true, false, true, false, false, false, false, false, false, false]) (by kernel_rfl) (by kernel_rfl) (s := .ptr 0 0) (by kernel_rfl) fun a hX => ?_
 refine hX.dq 5 rfl (lit := []) (by kernel_rfl) (listed' := #[true, true, true, false, true, true, false, false, false, false, false, false]) (by kernel_rfl) (by kernel_rfl) (s := .ptr 0 0) (by kernel_rfl) fun a hX => ?_
 refine hX.dq 6 rfl (lit := []) (by kernel_rfl) (listed' := #[true, true, true, false, true, true, true, false, false, false, false, false]) (by kernel_rfl) (by kernel_rfl) (s := .ptr 0 1) (by kernel_rfl) fun a hX => ?_
 obtain ⟨v1, hv1, h0⟩ := bnd_some h0
 refine dord (r := [3, 7]) (by kernel_rfl) (by decide) fun i hi => ?_
 simp only [List.mem_cons, List.not_mem_nil, or_false] at hi
 rcases hi with rfl | rfl
 ·refine dtry (listed' := #[true, true, true, true, true, true, true, false, false, false, false, false]) 3 rfl (by kernel_rfl) ?_
  refine hX.part [] 1 [0, 10, 11, 12, 13, 14, 15, 16] (l' := [(0, .ptr 0 0), (10, .ptr 0 0), (11, .ptr 0 0), (12, .ptr 0 1), (13, .v (.string ⟨⟨c.rest⟩⟩)), (14, .ptr 0 0), (15, .ptr 0 0), (16, .ptr 0 1)]) (B' := [some ⟨39, [.v (.string ⟨⟨c.src⟩⟩), .v (.string ⟨⟨c.rest⟩⟩), .v (.bool c.fresh)]⟩]) (by kernel_rfl) fun ρ w a hX => ?_
  refine dnext hX.st.sub0 ?_
  refine dseq (listed' := #[true, true, true, true, true, true, true, true, false, false, false, false]) 7 (by kernel_rfl) rfl (by kernel_rfl) ?_
  refine hX.part [] 1 [0, 10, 11, 12, 13, 14, 15, 16, 17] (l' := [(0, .ptr 0 0), (10, .ptr 0 0), (11, .ptr 0 0), (12, .ptr 0 1), (13, .v (.string ⟨⟨c.rest⟩⟩)), (14, .ptr 0 0), (15, .ptr 0 0), (16, .ptr 0 1), (17, .v (.string ⟨⟨c.rest⟩⟩))]) (B' := [some ⟨39, [.v (.string ⟨⟨c.src⟩⟩), .v (.string ⟨⟨c.rest⟩⟩), .v (.bool c.fresh)]⟩]) (by kernel_rfl) fun ρ w a hX => ?_
  refine dnext hX.st.sub0 ?_
  refine dseq (listed' := #[true, true, true, true, true, true, true, true, true, false, false, false]) 8 (by kernel_rfl) rfl (by kernel_rfl) ?_
  refine Cx.call0 hX (lit := []) (by kernel_rfl) rfl (by kernel_rfl) ⟨⟨_, Tryz.func20, by kernel_rfl, rfl⟩⟩ (ss := [.v (.string ⟨⟨c.rest⟩⟩)]) (by kernel_rfl) [.v (.string ⟨⟨c.rest⟩⟩)] rfl (fun hg => hg) (fun hv hle hg => token_row.ok c.rest v1 hv1 _ _ hv (hGd.mono hle) hg _) (fun s F w a hp hX => ?_)
  subst hp
  refine dnext hX.st.sub0 ?_
  refine hX.moveS 9 rfl (lit := []) (by kernel_rfl) (listed' := #[true, true, true, true, true, true, true, true, true, true, false, false]) (by kernel_rfl) (by kernel_rfl) hX.st.sub0 (.inr rfl) (s := .v (.string ⟨⟨c.rest⟩⟩)) (by kernel_rfl) fun a hX => ?_
  refine hX.moveS 10 rfl (lit := []) (by kernel_rfl) (listed' := #[true, true, true, true, true, true, true, true, true, true, true, false]) (by kernel_rfl) (by kernel_rfl) hX.st.sub0 (.inr rfl) (s := .v (.int .i64 10)) (by kernel_rfl) fun a hX => ?_
  refine hX.moveS 11 rfl (lit := []) (by kernel_rfl) (listed' := #[true, true, true, true, true, true, true, true, true, true, true, true]) (by kernel_rfl) (by kernel_rfl) hX.st.sub0 (.inr rfl) (s := .v (.int .i64 v1)) (by kernel_rfl) fun a hX => ?_
  have hX := back hX
  refine ddone (by kernel_rfl) ?_
  have hX := hX.keeps [4, 5, 6] (l' := [(4, .v (.string ⟨⟨c.rest⟩⟩)), (5, .v (.int .i64 10)), (6, .v (.int .i64 v1))]) (by kernel_rfl)
  exact J2 v1 h0  _ _ _ _ hX
 ·refine dtry (listed' := #[true, true, true, false, true, true, true, true, false, false, false, false]) 7 rfl (by kernel_rfl) ?_
  refine hX.part [] 1 [0, 10, 11, 12, 14, 15, 16, 17] (l' := [(0, .ptr 0 0), (10, .ptr 0 0), (11, .ptr 0 0), (12, .ptr 0 1), (14, .ptr 0 0), (15, .ptr 0 0), (16, .ptr 0 1), (17, .v (.string ⟨⟨c.rest⟩⟩))]) (B' := [some ⟨39, [.v (.string ⟨⟨c.src⟩⟩), .v (.string ⟨⟨c.rest⟩⟩), .v (.bool c.fresh)]⟩]) (by kernel_rfl) fun ρ w a hX => ?_
  refine dnext hX.st.sub0 ?_
  refine dord (r := [3, 8]) (by kernel_rfl) (by decide) fun i hi => ?_
  simp only [List.mem_cons, List.not_mem_nil, or_false] at hi
  rcases hi with rfl | rfl
  ·refine dtry (listed' := #[true, true, true, true, true, true, true, true, false, false, false, false]) 3 rfl (by kernel_rfl) ?_
   refine hX.part [] 1 [0, 10, 11, 12, 13, 14, 15, 16, 17] (l' := [(0, .ptr 0 0), (10, .ptr 0 0), (11, .ptr 0 0), (12, .ptr 0 1), (13, .v (.string ⟨⟨c.rest⟩⟩)), (14, .ptr 0 0), (15, .ptr 0 0), (16, .ptr 0 1), (17, .v (.string ⟨⟨c.rest⟩⟩))]) (B' := [some ⟨39, [.v (.string ⟨⟨c.src⟩⟩), .v (.string ⟨⟨c.rest⟩⟩), .v (.bool c.fresh)]⟩]) (by kernel_rfl) fun ρ w a hX => ?_
   refine dnext hX.st.sub0 ?_
   refine dseq (listed' := #[true, true, true, true, true, true, true, true, true, false, false, false]) 8 (by kernel_rfl) rfl (by kernel_rfl) ?_
   refine Cx.call0 hX (lit := []) (by kernel_rfl) rfl (by kernel_rfl) ⟨⟨_, Tryz.func20, by kernel_rfl, rfl⟩⟩ (ss := [.v (.string ⟨⟨c.rest⟩⟩)]) (by kernel_rfl) [.v (.string ⟨⟨c.rest⟩⟩)] rfl (fun hg => hg) (fun hv hle hg => token_row.ok c.rest v1 hv1 _ _ hv (hGd.mono hle) hg _) (fun s F w a hp hX => ?_)
   subst hp
   refine dnext hX.st.sub0 ?_
   refine hX.moveS 9 rfl (lit := []) (by kernel_rfl) (listed' := #[true, true, true, true, true, true, true, true, true, true, false, false]) (by kernel_rfl) (by kernel_rfl) hX.st.sub0 (.inr rfl) (s := .v (.string ⟨⟨c.rest⟩⟩)) (by kernel_rfl) fun a hX => ?_
   refine hX.moveS 10 rfl (lit := []) (by kernel_rfl) (listed' := #[true, true, true, true, true, true, true, true, true, true, true, false]) (by kernel_rfl) (by kernel_rfl) hX.st.sub0 (.inr rfl) (s := .v (.int .i64 10)) (by kernel_rfl) fun a hX => ?_
   refine hX.moveS 11 rfl (lit := []) (by kernel_rfl) (listed' := #[true, true, true, true, true, true, true, true, true, true, true, true]) (by kernel_rfl) (by kernel_rfl) hX.st.sub0 (.inr rfl) (s := .v (.int .i64 v1)) (by kernel_rfl) fun a hX => ?_
   have hX := back hX
   refine ddone (by kernel_rfl) ?_
   have hX := hX.keeps [4, 5, 6] (l' := [(4, .v (.string ⟨⟨c.rest⟩⟩)), (5, .v (.int .i64 10)), (6, .v (.int .i64 v1))]) (by kernel_rfl)
   exact J2 v1 h0  _ _ _ _ hX
  ·refine dtry (listed' := #[true, true, true, false, true, true, true, true, true, false, false, false]) 8 rfl (by kernel_rfl) ?_
   refine Cx.call0 hX (lit := []) (by kernel_rfl) rfl (by kernel_rfl) ⟨⟨_, Tryz.func20, by kernel_rfl, rfl⟩⟩ (ss := [.v (.string ⟨⟨c.rest⟩⟩)]) (by kernel_rfl) [.v (.string ⟨⟨c.rest⟩⟩)] rfl (fun hg => hg) (fun hv hle hg => token_row.ok c.rest v1 hv1 _ _ hv (hGd.mono hle) hg _) (fun s F w a hp hX => ?_)
   subst hp
   refine dnext hX.st.sub0 ?_
   refine dseq (listed' := #[true, true, true, true, true, true, true, true, true, false, false, false]) 3 (by kernel_rfl) rfl (by kernel_rfl) ?_
   refine hX.part [] 1 [0, 10, 11, 12, 13, 14, 15, 16, 17, 18] (l' := [(0, .ptr 0 0), (10, .ptr 0 0), (11, .ptr 0 0), (12, .ptr 0 1), (13, .v (.string ⟨⟨c.rest⟩⟩)), (14, .ptr 0 0), (15, .ptr 0 0), (16, .ptr 0 1), (17, .v (.string ⟨⟨c.rest⟩⟩)), (18, .v (.int .i64 v1))]) (B' := [some ⟨39, [.v (.string ⟨⟨c.src⟩⟩), .v (.string ⟨⟨c.rest⟩⟩), .v (.bool c.fresh)]⟩]) (by kernel_rfl) fun ρ w a hX => ?_
   refine dnext hX.st.sub0 ?_
   refine hX.moveS 9 rfl (lit := []) (by kernel_rfl) (listed' := #[true, true, true, true, true, true, true, true, true, true, false, false]) (by kernel_rfl) (by kernel_rfl) hX.st.sub0 (.inr rfl) (s := .v (.string ⟨⟨c.rest⟩⟩)) (by kernel_rfl) fun a hX => ?_
   refine hX.moveS 10 rfl (lit := []) (by kernel_rfl) (listed' := #[true, true, true, true, true, true, true, true, true, true, true, false]) (by kernel_rfl) (by kernel_rfl) hX.st.sub0 (.inr rfl) (s := .v (.int .i64 10)) (by kernel_rfl) fun a hX => ?_
   refine hX.moveS 11 rfl (lit := []) (by kernel_rfl) (listed' := #[true, true, true, true, true, true, true, true, true, true, true, true]) (by kernel_rfl) (by kernel_rfl) hX.st.sub0 (.inr rfl) (s := .v (.int .i64 v1)) (by kernel_rfl) fun a hX => ?_
   have hX := back hX
   refine ddone (by kernel_rfl) ?_
   have hX := hX.keeps [4, 5, 6] (l' := [(4, .v (.string ⟨⟨c.rest⟩⟩)), (5, .v (.int .i64 10)), (6, .v (.int .i64 v1))]) (by kernel_rfl)
   exact J2 v1 h0  _ _ _ _ hX
def strings_Builder_String_at_units_reader_1.j1 (b_ : T_units_reader) : Option (Str) :=
  some b_.out
def strings_Builder_String_at_units_reader_1 (b_ : T_units_reader) : Option (Str) :=
  strings_Builder_String_at_units_reader_1.j1 b_
theorem strings_Builder_String_at_units_reader_1.ok (b_ : T_units_reader) (r : Str) (h0 : strings_Builder_String_at_units_reader_1 b_ = some r) (w0 : World) (F0 : Heap) (hv : F0.Sub w0) (hG : Glob F0) (hg : SV.goods F0 [.ptr 0 1]) (ρ : Nat → Nat) (D : Own) (hD : D.known = [ρ 0]) (hst : St w0 F0 D w0 F0 [own_units_reader b_ (ρ 0)]) :
    Calls Tryz.prog 50 (SV.dens ρ [.ptr 0 1]).toArray w0 (RetH w0 F0 D fun s M => (s = .v (.string ⟨⟨r⟩⟩)) ∧ M = [own_units_reader_d b_ (ρ 0)]) := by
 refine calls_of_wp Tryz.func50 rfl ?_
 have hX := Cx.enter (D := D) (B := nones 1) (L := [own_units_reader b_ (ρ 0)]) (ρ := ρ) (N := 14) Tryz.ntmps50 [.ptr 0 1] (hst.emps ρ 1) rfl hg (by kernel_rfl) (fun _ h => (nones_mem h).elim) (Nat.le_of_ble_eq_true rfl) (fix1 hD)
 unfold strings_Builder_String_at_units_reader_1 at h0
 have hX : Cx 14 _ _ _ _ _ [own_units_reader b_ (ρ 0)] [none] ρ _ _ := hX
 obtain ⟨⟨q1, A2, c3⟩, hX⟩ := Cx.unpackP (k := 0) (Y := (Bool × Option Addr × Nat)) (ty := 80) hX (fun (y : (Bool × Option Addr × Nat)) => [.v (.string ⟨⟨b_.s⟩⟩), .opt y.1 0 1, .v (.slice y.2.1 b_.out.length y.2.2)]) rfl (fun y => rfl) (fun y F h => h) (fun y => rfl)
 have hX : Cx 14 _ _ _ _ _ [accP 5 kByte A2 c3 b_.out] [some ⟨80, [.v (.string ⟨⟨b_.s⟩⟩), .opt q1 0 1, .v (.slice A2 b_.out.length c3)]⟩] ρ _ _ := hX
 refine Cx.rseq hX [] [0] (l' := [(0, .ptr 0 1)]) (B' := [some ⟨80, [.v (.string ⟨⟨b_.s⟩⟩), .opt q1 0 1, .v (.slice A2 b_.out.length c3)]⟩]) (by kernel_rfl) fun ρ w a hX => ?_
 refine wp_seq_k fun K2 hK2 => ?_
 have J2 : ∀ (_ : Unit), strings_Builder_String_at_units_reader_1.j1 b_ = some r → ∀ (ρ : Nat → Nat) (w : World) (F : Heap) (a : Act), Cx 14 w0 F0 D w F [] [some ⟨80, [.v (.string ⟨⟨b_.s⟩⟩), .opt q1 0 1, .v (.slice A2 b_.out.length c3)]⟩] ρ [(2, .v (.string ⟨⟨b_.out⟩⟩))] a → K2 a w := by
  intro _ h0  ρ w F a hX
  unfold strings_Builder_String_at_units_reader_1.j1 at h0
  refine hK2 _ _ ?_
  refine wp_ret ?_
  have hX : Cx 14 _ _ _ _ _ [] [some ⟨80, [.v (.string ⟨⟨b_.s⟩⟩), .opt q1 0 1, .v (.slice A2 b_.out.length c3)]⟩] ρ _ _ := hX
  have hX : Cx 14 _ _ _ _ _ [own_units_reader_d b_ (ρ 0)] [none] ρ _ _ := Cx.packP (Y := (Bool × Option Addr × Nat)) hX 0 ((q1, A2, c3) : (Bool × Option Addr × Nat)) rfl rfl rfl rfl (fun h => h)
  have hX : Cx 14 _ _ _ _ _ [own_units_reader_d b_ (ρ 0)] [none] ρ _ _ := hX
  have hr := Option.some.inj (show some _ = some _ from h0)
  subst hr
  exact hX.retH (M := [own_units_reader_d b_ (ρ 0)]) (ss := [.v (.string ⟨⟨b_.out⟩⟩)]) (by kernel_rfl) (by kernel_rfl) ⟨rfl, by rw [(hX.fix 0 _ (by rw [hD]; rfl)).2]⟩
 have hGd := hG.mono hX.st.le
 refine hX.draw rfl (n := 12) rfl #[false, false, false, false, false, false, false, false, false, false, false, false] (by kernel_rfl) fun w D' hDk back hX => ?_
 refine hX.dq 0 rfl (lit := []) (by kernel_rfl) (listed' := #[true, false, false, false, false, false, false, false, false, false, false, false]) (by kernel_rfl) (by kernel_rfl) (s := .ptr 0 1) (by kernel_rfl) fun a hX => ?_
 refine hX.dq 1 rfl (lit := []) (by kernel_rfl) (listed' := #[true, true, false, false, false, false, false, false, false, false, false, false]) (by kernel_rfl) (by kernel_rfl) (s := .ptr 0 1) (by kernel_rfl) fun a hX => ?_
 refine hX.dq 2 rfl (lit := []) (by kernel_rfl) (listed' := #[true, true, true, false, false, false, false, false, false, false, false, false]) (by kernel_rfl) (by kernel_rfl) (s := .ptr 0 2) (by kernel_rfl) fun a hX => ?_
 refine hX.dq 5 rfl (lit := []) (by kernel_rfl) (listed' := #[true, true, true, false, false, true, false, false, false, false, false, false]) (by kernel_rfl) (by kernel_rfl) (s := .ptr 0 1) (by kernel_rfl) fun a hX => ?_
 refine hX.dq 6 rfl (lit := []) (by kernel_rfl) (listed' := #[true, true, true, false, false, true, true, false, false, false, false, false]) (by kernel_rfl) (by kernel_rfl) (s := .ptr 0 1) (by kernel_rfl) fun a hX => ?_
 refine hX.dq 7 rfl (lit := []) (by kernel_rfl) (listed' := #[true, true, true, false, false, true, true, true, false, false, false, false]) (by kernel_rfl) (by kernel_rfl) (s := .ptr 0 2) (by kernel_rfl) fun a hX => ?_
 refine dord (r := [3, 8]) (by kernel_rfl) (by decide) fun i hi => ?_
 simp only [List.mem_cons, List.not_mem_nil, or_false] at hi
 rcases hi with rfl | rfl
 ·refine dtry (listed' := #[true, true, true, true, false, true, true, true, false, false, false, false]) 3 rfl (by kernel_rfl) ?_
  refine hX.part [] 1 [0, 3, 4, 5, 6, 8, 9, 10] (l' := [(0, .ptr 0 1), (3, .ptr 0 1), (4, .ptr 0 1), (5, .ptr 0 2), (6, .v (.slice A2 b_.out.length c3)), (8, .ptr 0 1), (9, .ptr 0 1), (10, .ptr 0 2)]) (B' := [some ⟨80, [.v (.string ⟨⟨b_.s⟩⟩), .opt q1 0 1, .v (.slice A2 b_.out.length c3)]⟩]) (by kernel_rfl) fun ρ w a hX => ?_
  refine dnext hX.st.sub0 ?_
  refine dord (r := [4, 8]) (by kernel_rfl) (by decide) fun i hi => ?_
  simp only [List.mem_cons, List.not_mem_nil, or_false] at hi
  rcases hi with rfl | rfl
  ·refine dtry (listed' := #[true, true, true, true, true, true, true, true, false, false, false, false]) 4 rfl (by kernel_rfl) ?_
   refine hX.sliceData (lit := []) (e := 5) (e2 := 5) (i := 0) (xs := b_.out) (A := A2) (c := c3) (by kernel_rfl) (by kernel_rfl) rfl rfl (by kernel_rfl) (by kernel_rfl) fun q4 w a hqq4 hX => ?_
   refine dnext hX.st.sub0 ?_
   refine dseq (listed' := #[true, true, true, true, true, true, true, true, true, false, false, false]) 8 (by kernel_rfl) rfl (by kernel_rfl) ?_
   refine hX.part [] 1 [0, 3, 4, 5, 6, 7, 8, 9, 10, 11] (l' := [(0, .ptr 0 1), (3, .ptr 0 1), (4, .ptr 0 1), (5, .ptr 0 2), (6, .v (.slice A2 b_.out.length c3)), (7, .v (.pointer q4)), (8, .ptr 0 1), (9, .ptr 0 1), (10, .ptr 0 2), (11, .v (.slice A2 b_.out.length c3))]) (B' := [some ⟨80, [.v (.string ⟨⟨b_.s⟩⟩), .opt q1 0 1, .v (.slice A2 b_.out.length c3)]⟩]) (by kernel_rfl) fun ρ w a hX => ?_
   refine dnext hX.st.sub0 ?_
   refine hX.dq 9 rfl (lit := []) (by kernel_rfl) (listed' := #[true, true, true, true, true, true, true, true, true, true, false, false]) (by kernel_rfl) (by kernel_rfl) (s := .v (.int .i64 ((b_.out.length : Nat) : Int))) (by kernel_rfl) fun a hX => ?_
   refine dseq (listed' := #[true, true, true, true, true, true, true, true, true, true, true, false]) 10 (by kernel_rfl) rfl (by kernel_rfl) ?_
   refine hX.unsString (lit := []) (e := 5) (i := 0) (xs := b_.out) (A := A2) (q := q4) (c := c3) (by kernel_rfl) (by kernel_rfl) rfl rfl (by kernel_rfl) (by kernel_rfl) (by kernel_rfl) (by kernel_rfl) hqq4 fun w a hX => ?_
   have hX : Cx 14 _ _ _ _ _ [] [some ⟨80, [.v (.string ⟨⟨b_.s⟩⟩), .opt q1 0 1, .v (.slice A2 b_.out.length c3)]⟩] ρ _ _ := hX
   refine dnext hX.st.sub0 ?_
   refine hX.dq 11 rfl (lit := []) (by kernel_rfl) (listed' := #[true, true, true, true, true, true, true, true, true, true, true, true]) (by kernel_rfl) (by kernel_rfl) (s := .v (.string ⟨⟨b_.out⟩⟩)) (by kernel_rfl) fun a hX => ?_
   have hX := back hX
   refine ddone (by kernel_rfl) ?_
   have hX := hX.keeps [2] (l' := [(2, .v (.string ⟨⟨b_.out⟩⟩))]) (by kernel_rfl)
   exact J2 () h0  _ _ _ _ hX
  ·refine dtry (listed' := #[true, true, true, true, false, true, true, true, true, false, false, false]) 8 rfl (by kernel_rfl) ?_
   refine hX.part [] 1 [0, 3, 4, 5, 6, 8, 9, 10, 11] (l' := [(0, .ptr 0 1), (3, .ptr 0 1), (4, .ptr 0 1), (5, .ptr 0 2), (6, .v (.slice A2 b_.out.length c3)), (8, .ptr 0 1), (9, .ptr 0 1), (10, .ptr 0 2), (11, .v (.slice A2 b_.out.length c3))]) (B' := [some ⟨80, [.v (.string ⟨⟨b_.s⟩⟩), .opt q1 0 1, .v (.slice A2 b_.out.length c3)]⟩]) (by kernel_rfl) fun ρ w a hX => ?_
   refine dnext hX.st.sub0 ?_
   refine hX.dq 9 rfl (lit := []) (by kernel_rfl) (listed' := #[true, true, true, true, false, true, true, true, true, true, false, false]) (by kernel_rfl) (by kernel_rfl) (s := .v (.int .i64 ((b_.out.length : Nat) : Int))) (by kernel_rfl) fun a hX => ?_
   refine dseq (listed' := #[true, true, true, true, true, true, true, true, true, true, false, false]) 4 (by kernel_rfl) rfl (by kernel_rfl) ?_
   refine hX.sliceData (lit := []) (e := 5) (e2 := 5) (i := 0) (xs := b_.out) (A := A2) (c := c3) (by kernel_rfl) (by kernel_rfl) rfl rfl (by kernel_rfl) (by kernel_rfl) fun q4 w a hqq4 hX => ?_
   refine dnext hX.st.sub0 ?_
   refine dseq (listed' := #[true, true, true, true, true, true, true, true, true, true, true, false]) 10 (by kernel_rfl) rfl (by kernel_rfl) ?_
   refine hX.unsString (lit := []) (e := 5) (i := 0) (xs := b_.out) (A := A2) (q := q4) (c := c3) (by kernel_rfl) (by kernel_rfl) rfl rfl (by kernel_rfl) (by kernel_rfl) (by kernel_rfl) (by kernel_rfl) hqq4 fun w a hX => ?_
   have hX : Cx 14 _ _ _ _ _ [] [some ⟨80, [.v (.string ⟨⟨b_.s⟩⟩), .opt q1 0 1, .v (.slice A2 b_.out.length c3)]⟩] ρ _ _ := hX
   refine dnext hX.st.sub0 ?_
   refine hX.dq 11 rfl (lit := []) (by kernel_rfl) (listed' := #[true, true, true, true, true, true, true, true, true, true, true, true]) (by kernel_rfl) (by kernel_rfl) (s := .v (.string ⟨⟨b_.out⟩⟩)) (by kernel_rfl) fun a hX => ?_
   have hX := back hX
   refine ddone (by kernel_rfl) ?_
   have hX := hX.keeps [2] (l' := [(2, .v (.string ⟨⟨b_.out⟩⟩))]) (by kernel_rfl)
   exact J2 () h0  _ _ _ _ hX
 ·refine dtry (listed' := #[true, true, true, false, false, true, true, true, true, false, false, false]) 8 rfl (by kernel_rfl) ?_
  refine hX.part [] 1 [0, 3, 4, 5, 8, 9, 10, 11] (l' := [(0, .ptr 0 1), (3, .ptr 0 1), (4, .ptr 0 1), (5, .ptr 0 2), (8, .ptr 0 1), (9, .ptr 0 1), (10, .ptr 0 2), (11, .v (.slice A2 b_.out.length c3))]) (B' := [some ⟨80, [.v (.string ⟨⟨b_.s⟩⟩), .opt q1 0 1, .v (.slice A2 b_.out.length c3)]⟩]) (by kernel_rfl) fun ρ w a hX => ?_
  refine dnext hX.st.sub0 ?_
  refine hX.dq 9 rfl (lit := []) (by kernel_rfl) (listed' := #[true, true, true, false, false, true, true, true, true, true, false, false]) (by kernel_rfl) (by kernel_rfl) (s := .v (.int .i64 ((b_.out.length : Nat) : Int))) (by kernel_rfl) fun a hX => ?_
  refine dseq (listed' := #[true, true, true, true, false, true, true, true, true, true, false, false]) 3 (by kernel_rfl) rfl (by kernel_rfl) ?_
  refine hX.part [] 1 [0, 3, 4, 5, 6, 8, 9, 10, 11, 12] (l' := [(0, .ptr 0 1), (3, .ptr 0 1), (4, .ptr 0 1), (5, .ptr 0 2), (6, .v (.slice A2 b_.out.length c3)), (8, .ptr 0 1), (9, .ptr 0 1), (10, .ptr 0 2), (11, .v (.slice A2 b_.out.length c3)), (12, .v (.int .i64 ((b_.out.length : Nat) : Int)))]) (B' := [some ⟨80, [.v (.string ⟨⟨b_.s⟩⟩), .opt q1 0 1, .v (.slice A2 b_.out.length c3)]⟩]) (by kernel_rfl) fun ρ w a hX => ?_
  refine dnext hX.st.sub0 ?_
  refine dseq (listed' := #[true, true, true, true, true, true, true, true, true, true, false, false]) 4 (by kernel_rfl) rfl (by kernel_rfl) ?_
  refine hX.sliceData (lit := []) (e := 5) (e2 := 5) (i := 0) (xs := b_.out) (A := A2) (c := c3) (by kernel_rfl) (by kernel_rfl) rfl rfl (by kernel_rfl) (by kernel_rfl) fun q4 w a hqq4 hX => ?_
  refine dnext hX.st.sub0 ?_
  refine dseq (listed' := #[true, true, true, true, true, true, true, true, true, true, true, false]) 10 (by kernel_rfl) rfl (by kernel_rfl) ?_
  refine hX.unsString (lit := []) (e := 5) (i := 0) (xs := b_.out) (A := A2) (q := q4) (c := c3) (by kernel_rfl) (by kernel_rfl) rfl rfl (by kernel_rfl) (by kernel_rfl) (by kernel_rfl) (by kernel_rfl) hqq4 fun w a hX => ?_
  have hX : Cx 14 _ _ _ _ _ [] [some ⟨80, [.v (.string ⟨⟨b_.s⟩⟩), .opt q1 0 1, .v (.slice A2 b_.out.length c3)]⟩] ρ _ _ := hX
  refine dnext hX.st.sub0 ?_
  refine hX.dq 11 rfl (lit := []) (by kernel_rfl) (listed' := #[true, true, true, true, true, true, true, true, true, true, true, true]) (by kernel_rfl) (by kernel_rfl) (s := .v (.string ⟨⟨b_.out⟩⟩)) (by kernel_rfl) fun a hX => ?_
  have hX := back hX
  refine ddone (by kernel_rfl) ?_
  have hX := hX.keeps [2] (l' := [(2, .v (.string ⟨⟨b_.out⟩⟩))]) (by kernel_rfl)
  exact J2 () h0  _ _ _ _ hX
def strings_IndexByte (s_ : Str) (c : Int) : Option (Int) := some (Lib.indexByte s_ c.toNat.toUInt8)
theorem strings_IndexByte.ok (s_ : Str) (c : Int) (r : Int) (h0 : strings_IndexByte s_ c = some r) (w0 : World) (F0 : Heap) (hv : F0.Sub w0) (hG : Glob F0) (hg : SV.goods F0 [.v (.string ⟨⟨s_⟩⟩), .v (.int .u8 c)]) (ρ : Nat → Nat) :
    Calls Tryz.prog 36 (SV.dens ρ [.v (.string ⟨⟨s_⟩⟩), .v (.int .u8 c)]).toArray w0 (Ret0 w0 F0 fun s => s = .v (.int .i64 r)) := by
  refine (Tryz.strings_IndexByte ⟨⟨s_⟩⟩ c w0).mono fun e w' h => ?_
  cases h0
  exact Ret0.pure (s := .v _) hv h.1 h.2 trivial rfl rfl
def units_unit (n_ : Int) : Option (Str) :=
  Option.bind (toB (IntKind.wrap .u8 (Int.fdiv n_ (2 ^ 8)))) fun b1 =>
  Option.bind (toB (IntKind.wrap .u8 n_)) fun b2 =>
  some ([b1, b2] : List UInt8)
theorem units_unit.ok (n_ : Int) (r : Str) (h0 : units_unit n_ = some r) (w0 : World) (F0 : Heap) (hv : F0.Sub w0) (hG : Glob F0) (hg : SV.goods F0 [.v (.int .i64 n_)]) (ρ : Nat → Nat) :
    Calls Tryz.prog 53 (SV.dens ρ [.v (.int .i64 n_)]).toArray w0 (Ret0 w0 F0 fun s => s = .v (.string ⟨⟨r⟩⟩)) := by
 refine calls_of_wp Tryz.func53 rfl ?_
 have hX := Cx.enter (D := No) (B := []) (L := []) (ρ := ρ) (N := 10) Tryz.ntmps53 [.v (.int .i64 n_)] (St.start hv) rfl hg (by kernel_rfl) (fun _ h => by cases h) (Nat.le_of_ble_eq_true rfl) No.unfix
 unfold units_unit at h0
 refine Cx.rseq hX [] [0] (l' := [(0, .v (.int .i64 n_))]) (B' := []) (by kernel_rfl) fun ρ w a hX => ?_
 refine wp_seq_k fun K2 hK2 => ?_
 refine wp_region_list ?_
 refine hX.part [] 6 [8] (l' := [(8, .slc 0 0 2 2)]) (B' := [some ⟨5, [.v (.int .u8 (IntKind.wrap .u8 (Int.fdiv n_ (2 ^ 8)))), .v (.int .u8 (IntKind.wrap .u8 n_))]⟩]) (by kernel_rfl) fun ρ w a hX => ?_
 obtain ⟨b1, hb1, h0⟩ := bnd_some h0
 obtain ⟨b2, hb2, h0⟩ := bnd_some h0
 have hX := hX.rebox 0 (b := ⟨5, [.v (.int .u8 (IntKind.wrap .u8 (Int.fdiv n_ (2 ^ 8)))), .v (.int .u8 (IntKind.wrap .u8 n_))]⟩) (cs := [.v (.int .u8 ((b1.toNat : Nat) : Int)), .v (.int .u8 ((b2.toNat : Nat) : Int))]) (B' := [some ⟨5, [.v (.int .u8 ((b1.toNat : Nat) : Int)), .v (.int .u8 ((b2.toNat : Nat) : Int))]⟩]) (by kernel_rfl) (fun ρ => by simp only [SV.dens, SV.den, toB_some hb1, toB_some hb2]) (by have hg := (hX.bgood ⟨5, [.v (.int .u8 (IntKind.wrap .u8 (Int.fdiv n_ (2 ^ 8)))), .v (.int .u8 (IntKind.wrap .u8 n_))]⟩ (List.mem_of_getElem? (i := 0) (by kernel_rfl))).1; exact ⟨trivial, trivial, trivial⟩) (by kernel_rfl) (by kernel_rfl)
 obtain ⟨b3, hb, hX⟩ := hX.boxAcc2 (d := kByte) (e := 5) (k := 0) (t := 8) (m := 2) ([(b1, ()), (b2, ())] : List (UInt8 × (kByte).Y)) (by kernel_rfl) (by kernel_rfl) rfl rfl (by decide) ⟨_, rfl⟩
 have hX : Cx 10 _ _ _ _ _ [accP 5 kByte (some ⟨b3, 0, none⟩) 2 ([b1, b2] : List UInt8)] [none] ρ _ a := hX
 obtain ⟨F, hX⟩ := hX.freeze (i := 0) (t := 8) (e := 5) (d := kByte) (A := (some ⟨b3, 0, none⟩)) (c := 2) (xs := ([b1, b2] : List UInt8)) rfl (by kernel_rfl)
 have hX : Cx 10 _ _ _ _ _ [] [none] ρ _ a := hX
 refine hX.strSl (lit := []) (by kernel_rfl) (by kernel_rfl) rfl (e := 5) (xs := ([b1, b2] : List UInt8)) (A := (some ⟨b3, 0, none⟩)) (c := 2) (by kernel_rfl) (by kernel_rfl) (by kernel_rfl) (by kernel_rfl) fun a hX => ?_
 refine hX.part [] 1 [2] (l' := [(2, .v (.string ⟨⟨([b1, b2] : List UInt8)⟩⟩))]) (B' := [none]) (by kernel_rfl) fun ρ w a hX => ?_
 refine wpList_end ?_
 refine hK2 _ _ ?_
 refine wp_ret ?_
 have hr := Option.some.inj (show some _ = some _ from h0)
 subst hr
 exact hX.ret0 (ss := [.v (.string ⟨⟨([b1, b2] : List UInt8)⟩⟩)]) (by kernel_rfl) (by kernel_rfl) rfl
def strings_Builder_copyCheck_at_units_reader_1 (b_ : T_units_reader) : Option (Unit) :=
  some ()
theorem strings_Builder_copyCheck_at_units_reader_1.ok (b_ : T_units_reader) (r : Unit) (h0 : strings_Builder_copyCheck_at_units_reader_1 b_ = some r) (w0 : World) (F0 : Heap) (hv : F0.Sub w0) (hG : Glob F0) (hg : SV.goods F0 [.ptr 0 1]) (ρ : Nat → Nat) (D : Own) (hD : D.known = [ρ 0]) (hst : St w0 F0 D w0 F0 [own_units_reader b_ (ρ 0)]) :
    Calls Tryz.prog 65 (SV.dens ρ [.ptr 0 1]).toArray w0 (RetH w0 F0 D fun s M => (s = .tup []) ∧ M = [own_units_reader b_ (ρ 0)]) := by
 refine calls_of_wp Tryz.func65 rfl ?_
 have hX := Cx.enter (D := D) (B := nones 1) (L := [own_units_reader b_ (ρ 0)]) (ρ := ρ) (N := 20) Tryz.ntmps65 [.ptr 0 1] (hst.emps ρ 1) rfl hg (by kernel_rfl) (fun _ h => (nones_mem h).elim) (Nat.le_of_ble_eq_true rfl) (fix1 hD)
 unfold strings_Builder_copyCheck_at_units_reader_1 at h0
 have hX : Cx 20 _ _ _ _ _ [own_units_reader b_ (ρ 0)] [none] ρ _ _ := hX
 obtain ⟨⟨q1, A2, c3⟩, hX⟩ := Cx.unpackP (k := 0) (Y := (Bool × Option Addr × Nat)) (ty := 80) hX (fun (y : (Bool × Option Addr × Nat)) => [.v (.string ⟨⟨b_.s⟩⟩), .opt y.1 0 1, .v (.slice y.2.1 b_.out.length y.2.2)]) rfl (fun y => rfl) (fun y F h => h) (fun y => rfl)
 have hX : Cx 20 _ _ _ _ _ [accP 5 kByte A2 c3 b_.out] [some ⟨80, [.v (.string ⟨⟨b_.s⟩⟩), .opt q1 0 1, .v (.slice A2 b_.out.length c3)]⟩] ρ _ _ := hX
 rcases q1 with _ | _
 ·refine wp_seq_k fun K1 hK1 => ?_
  refine wp_region_list ?_
  refine hX.part [] 4 [0, 5] (l' := [(0, .ptr 0 1), (5, .opt false 0 1)]) (B' := [some ⟨80, [.v (.string ⟨⟨b_.s⟩⟩), .opt false 0 1, .v (.slice A2 b_.out.length c3)]⟩]) (by kernel_rfl) fun ρ w a hX => ?_
  refine hX.ptrNil (t := 78) (lit := []) (by kernel_rfl) (by kernel_rfl) rfl (s := .opt false 0 1) (q := none) (by kernel_rfl) (by kernel_rfl) rfl (by kernel_rfl) fun a hX => ?_
  refine hX.part [] 0 [0, 6] (l' := [(0, .ptr 0 1), (6, .v (.bool true))]) (B' := [some ⟨80, [.v (.string ⟨⟨b_.s⟩⟩), .opt false 0 1, .v (.slice A2 b_.out.length c3)]⟩]) (by kernel_rfl) fun ρ w a hX => ?_
  refine wpList_end ?_
  refine hK1 _ _ ?_
  refine Cx.cond hX (b := true) (by kernel_rfl) (fun _ => ?_) (fun h => by cases h)
  refine wp_region_list ?_
  refine hX.part [] 2 [7, 8] (l' := [(7, .ptr 0 1), (8, .ptr 0 1)]) (B' := [some ⟨80, [.v (.string ⟨⟨b_.s⟩⟩), .opt false 0 1, .v (.slice A2 b_.out.length c3)]⟩]) (by kernel_rfl) fun ρ w a hX => ?_
  refine hX.toUns (t := 78) (lit := []) (by kernel_rfl) (by kernel_rfl) rfl (e := 80) (cells := [.v (.string ⟨⟨b_.s⟩⟩), .opt false 0 1, .v (.slice A2 b_.out.length c3)]) (k := 0) (off := 1) (by kernel_rfl) (by kernel_rfl) (by kernel_rfl) (by kernel_rfl) (by kernel_rfl) (by kernel_rfl) fun a hX => ?_
  refine hX.part [] 0 [7, 9] (l' := [(7, .ptr 0 1), (9, .ptr 0 1)]) (B' := [some ⟨80, [.v (.string ⟨⟨b_.s⟩⟩), .opt false 0 1, .v (.slice A2 b_.out.length c3)]⟩]) (by kernel_rfl) fun ρ w a hX => ?_
  refine hX.noEsc (lit := []) (by kernel_rfl) (by kernel_rfl) rfl rfl Tryz.func77 (by kernel_rfl) (by kernel_rfl) (by kernel_rfl) (by kernel_rfl) (s := .ptr 0 1) (by kernel_rfl) fun a hX => ?_
  refine hX.part [] 0 [7, 10] (l' := [(7, .ptr 0 1), (10, .ptr 0 1)]) (B' := [some ⟨80, [.v (.string ⟨⟨b_.s⟩⟩), .opt false 0 1, .v (.slice A2 b_.out.length c3)]⟩]) (by kernel_rfl) fun ρ w a hX => ?_
  refine hX.fromUns (t := 78) (lit := []) (by kernel_rfl) (by kernel_rfl) rfl (e := 80) (cells := [.v (.string ⟨⟨b_.s⟩⟩), .opt false 0 1, .v (.slice A2 b_.out.length c3)]) (k := 0) (off := 1) (by kernel_rfl) (by kernel_rfl) (by kernel_rfl) (by kernel_rfl) (by kernel_rfl) (by kernel_rfl) fun a hX => ?_
  refine hX.part [] 3 [] (l' := []) (B' := [some ⟨80, [.v (.string ⟨⟨b_.s⟩⟩), .ptr 0 1, .v (.slice A2 b_.out.length c3)]⟩]) (by kernel_rfl) fun ρ w a hX => ?_
  refine wpList_end ?_
  have hX : Cx 20 _ _ _ _ _ [accP 5 kByte A2 c3 b_.out] [some ⟨80, [.v (.string ⟨⟨b_.s⟩⟩), .ptr 0 1, .v (.slice A2 b_.out.length c3)]⟩] ρ _ _ := hX
  have hX : Cx 20 _ _ _ _ _ [own_units_reader b_ (ρ 0)] [none] ρ _ _ := Cx.packP (Y := (Bool × Option Addr × Nat)) hX 0 ((true, A2, c3) : (Bool × Option Addr × Nat)) rfl rfl rfl rfl (fun h => h)
  have hX : Cx 20 _ _ _ _ _ [own_units_reader b_ (ρ 0)] [none] ρ _ _ := hX
  have hr := Option.some.inj (show some _ = some _ from h0)
  subst hr
  exact hX.retH (M := [own_units_reader b_ (ρ 0)]) (ss := []) (by kernel_rfl) (by kernel_rfl) ⟨rfl, by rw [(hX.fix 0 _ (by rw [hD]; rfl)).2]⟩
 ·refine wp_seq_k fun K2 hK2 => ?_
  refine wp_region_list ?_
  refine hX.part [] 4 [0, 5] (l' := [(0, .ptr 0 1), (5, .opt true 0 1)]) (B' := [some ⟨80, [.v (.string ⟨⟨b_.s⟩⟩), .opt true 0 1, .v (.slice A2 b_.out.length c3)]⟩]) (by kernel_rfl) fun ρ w a hX => ?_
  refine hX.ptrNil (t := 78) (lit := []) (by kernel_rfl) (by kernel_rfl) rfl (s := .opt true 0 1) (q := some ⟨ρ 0, 1, none⟩) (by kernel_rfl) (by kernel_rfl) rfl (by kernel_rfl) fun a hX => ?_
  refine hX.part [] 0 [0, 6] (l' := [(0, .ptr 0 1), (6, .v (.bool false))]) (B' := [some ⟨80, [.v (.string ⟨⟨b_.s⟩⟩), .opt true 0 1, .v (.slice A2 b_.out.length c3)]⟩]) (by kernel_rfl) fun ρ w a hX => ?_
  refine wpList_end ?_
  refine hK2 _ _ ?_
  refine Cx.cond hX (b := false) (by kernel_rfl) (fun h => by cases h) (fun _ => ?_)
  refine wp_seq_k fun K3 hK3 => ?_
  refine wp_region_list ?_
  refine hX.part [] 5 [17, 18] (l' := [(17, .opt true 0 1), (18, .ptr 0 1)]) (B' := [some ⟨80, [.v (.string ⟨⟨b_.s⟩⟩), .opt true 0 1, .v (.slice A2 b_.out.length c3)]⟩]) (by kernel_rfl) fun ρ w a hX => ?_
  refine hX.ptrSelf (t := 78) (lit := []) (by kernel_rfl) (by kernel_rfl) rfl (s := .opt true 0 1) (s2 := .ptr 0 1) (p := ⟨ρ 0, 1, none⟩) (by kernel_rfl) (by kernel_rfl) (by kernel_rfl) rfl (by kernel_rfl) rfl fun a hX => ?_
  refine hX.part [] 0 [19] (l' := [(19, .v (.bool false))]) (B' := [some ⟨80, [.v (.string ⟨⟨b_.s⟩⟩), .opt true 0 1, .v (.slice A2 b_.out.length c3)]⟩]) (by kernel_rfl) fun ρ w a hX => ?_
  refine wpList_end ?_
  refine hK3 _ _ ?_
  refine Cx.cond hX (b := false) (by kernel_rfl) (fun h => by cases h) (fun _ => ?_)
  refine wp_skip ?_
  have hX : Cx 20 _ _ _ _ _ [accP 5 kByte A2 c3 b_.out] [some ⟨80, [.v (.string ⟨⟨b_.s⟩⟩), .opt true 0 1, .v (.slice A2 b_.out.length c3)]⟩] ρ _ _ := hX
  have hX : Cx 20 _ _ _ _ _ [own_units_reader b_ (ρ 0)] [none] ρ _ _ := Cx.packP (Y := (Bool × Option Addr × Nat)) hX 0 ((true, A2, c3) : (Bool × Option Addr × Nat)) rfl rfl rfl rfl (fun h => h)
  have hX : Cx 20 _ _ _ _ _ [own_units_reader b_ (ρ 0)] [none] ρ _ _ := hX
  have hr := Option.some.inj (show some _ = some _ from h0)
  subst hr
  exact hX.retH (M := [own_units_reader b_ (ρ 0)]) (ss := []) (by kernel_rfl) (by kernel_rfl) ⟨rfl, by rw [(hX.fix 0 _ (by rw [hD]; rfl)).2]⟩
def strings_Builder_WriteString_at_units_reader_1 (b_ : T_units_reader) (s_ : Str) : Option (Int × GErr × T_units_reader) :=
  Option.bind (strings_Builder_copyCheck_at_units_reader_1 b_) fun v4 =>
  Option.bind (room (b_.out.length + s_.length)) fun u10 =>
  some (((s_.length : Nat) : Int), GErr.nil, ({ s := b_.s, out := (b_.out ++ s_) } : T_units_reader))
theorem strings_Builder_WriteString_at_units_reader_1.ok (b_ : T_units_reader) (s_ : Str) (r : Int × GErr × T_units_reader) (h0 : strings_Builder_WriteString_at_units_reader_1 b_ s_ = some r) (w0 : World) (F0 : Heap) (hv : F0.Sub w0) (hG : Glob F0) (hg : SV.goods F0 [.ptr 0 1, .v (.string ⟨⟨s_⟩⟩)]) (ρ : Nat → Nat) (D : Own) (hD : D.known = [ρ 0]) (hst : St w0 F0 D w0 F0 [own_units_reader b_ (ρ 0)]) :
    Calls Tryz.prog 52 (SV.dens ρ [.ptr 0 1, .v (.string ⟨⟨s_⟩⟩)]).toArray w0 (RetH w0 F0 D fun s M => (∃ s1 s2, s = .tup [s1, s2] ∧ (s1 = .v (.int .i64 r.1)) ∧ (∃ q, s2 = .v (errV r.2.1 q))) ∧ M = [own_units_reader r.2.2 (ρ 0)]) := by
 refine calls_of_wp Tryz.func52 rfl ?_
 have hX := Cx.enter (D := D) (B := nones 1) (L := [own_units_reader b_ (ρ 0)]) (ρ := ρ) (N := 19) Tryz.ntmps52 [.ptr 0 1, .v (.string ⟨⟨s_⟩⟩)] (hst.emps ρ 1) rfl hg (by kernel_rfl) (fun _ h => (nones_mem h).elim) (Nat.le_of_ble_eq_true rfl) (fix1 hD)
 unfold strings_Builder_WriteString_at_units_reader_1 at h0
 have hX : Cx 19 _ _ _ _ _ [own_units_reader b_ (ρ 0)] [none] ρ _ _ := hX
 obtain ⟨⟨q1, A2, c3⟩, hX⟩ := Cx.unpackP (k := 0) (Y := (Bool × Option Addr × Nat)) (ty := 80) hX (fun (y : (Bool × Option Addr × Nat)) => [.v (.string ⟨⟨b_.s⟩⟩), .opt y.1 0 1, .v (.slice y.2.1 b_.out.length y.2.2)]) rfl (fun y => rfl) (fun y F h => h) (fun y => rfl)
 have hX : Cx 19 _ _ _ _ _ [accP 5 kByte A2 c3 b_.out] [some ⟨80, [.v (.string ⟨⟨b_.s⟩⟩), .opt q1 0 1, .v (.slice A2 b_.out.length c3)]⟩] ρ _ _ := hX
 refine Cx.rseq hX [] [0, 1] (l' := [(0, .ptr 0 1), (1, .v (.string ⟨⟨s_⟩⟩))]) (B' := [some ⟨80, [.v (.string ⟨⟨b_.s⟩⟩), .opt q1 0 1, .v (.slice A2 b_.out.length c3)]⟩]) (by kernel_rfl) fun ρ w a hX => ?_
 refine wp_seq_k fun K2 hK2 => ?_
 refine wp_region_list ?_
 refine hX.part [] 1 [0, 1, 6] (l' := [(0, .ptr 0 1), (1, .v (.string ⟨⟨s_⟩⟩)), (6, .ptr 0 1)]) (B' := [some ⟨80, [.v (.string ⟨⟨b_.s⟩⟩), .opt q1 0 1, .v (.slice A2 b_.out.length c3)]⟩]) (by kernel_rfl) fun ρ w a hX => ?_
 obtain ⟨v4, hv4, h0⟩ := bnd_some h0
 have hX : Cx 19 _ _ _ _ _ [accP 5 kByte A2 c3 b_.out] [some ⟨80, [.v (.string ⟨⟨b_.s⟩⟩), .opt q1 0 1, .v (.slice A2 b_.out.length c3)]⟩] ρ _ _ := hX
 have hX : Cx 19 _ _ _ _ _ [own_units_reader b_ (ρ 0)] [none] ρ _ _ := Cx.packP (Y := (Bool × Option Addr × Nat)) hX 0 ((q1, A2, c3) : (Bool × Option Addr × Nat)) rfl rfl rfl rfl (fun h => h)
 have hX : Cx 19 _ _ _ _ _ [own_units_reader b_ (ρ 0)] [none] ρ _ _ := hX
 refine Cx.callH (M := [own_units_reader b_ (ρ 0)]) (L := []) hX (lit := []) (by kernel_rfl) rfl (by kernel_rfl) ⟨⟨_, Tryz.func65, by kernel_rfl, rfl⟩⟩ (ss := [.ptr 0 1]) (by kernel_rfl) [.ptr 0 1] rfl (fun hg => ⟨trivial, trivial⟩) [ρ 0] (fun D' hD' hv hle hg hst => strings_Builder_copyCheck_at_units_reader_1.ok b_ v4 hv4 _ _ hv (hG.mono hle) hg (fun k => match k with | 0 => ρ 0 | _ => 0) D' hD' hst) (fun s F M w a hp hX => ?_)
 obtain ⟨hp, rfl⟩ := hp
 subst hp
 have hX : Cx 19 _ _ _ _ _ [own_units_reader b_ (ρ 0)] [none] ρ _ _ := hX
 obtain ⟨⟨q5, A6, c7⟩, hX⟩ := Cx.unpackP (k := 0) (Y := (Bool × Option Addr × Nat)) (ty := 80) hX (fun (y : (Bool × Option Addr × Nat)) => [.v (.string ⟨⟨b_.s⟩⟩), .opt y.1 0 1, .v (.slice y.2.1 b_.out.length y.2.2)]) rfl (fun y => rfl) (fun y F h => h) (fun y => rfl)
 have hX : Cx 19 _ _ _ _ _ [accP 5 kByte A6 c7 b_.out] [some ⟨80, [.v (.string ⟨⟨b_.s⟩⟩), .opt q5 0 1, .v (.slice A6 b_.out.length c7)]⟩] ρ _ _ := hX
 refine hX.part [] 0 [0, 1] (l' := [(0, .ptr 0 1), (1, .v (.string ⟨⟨s_⟩⟩))]) (B' := [some ⟨80, [.v (.string ⟨⟨b_.s⟩⟩), .opt q5 0 1, .v (.slice A6 b_.out.length c7)]⟩]) (by kernel_rfl) fun ρ w a hX => ?_
 refine wpList_end ?_
 refine hK2 _ _ ?_
 refine wp_seq_k fun K3 hK3 => ?_
 refine wp_region_list ?_
 refine hX.part [] 6 [1, 8, 12, 13] (l' := [(1, .v (.string ⟨⟨s_⟩⟩)), (8, .ptr 0 1), (12, .v (.slice A6 b_.out.length c7)), (13, .v (.string ⟨⟨s_⟩⟩))]) (B' := [some ⟨80, [.v (.string ⟨⟨b_.s⟩⟩), .opt q5 0 1, .v (.slice A6 b_.out.length c7)]⟩]) (by kernel_rfl) fun ρ w a hX => ?_
 obtain ⟨u10, hu10, h0⟩ := bnd_some h0
 refine hX.appStr (lit := []) (i := 0) (e := 5) (xs := b_.out) (A := A6) (c := c7) (t := s_) (by kernel_rfl) (by kernel_rfl) rfl rfl (by kernel_rfl) (by kernel_rfl) (by kernel_rfl) (by kernel_rfl) (by kernel_rfl) hu10 fun A8 c9 w a hX => ?_
 have hX : Cx 19 _ _ _ _ _ [accP 5 kByte A8 c9 (b_.out ++ s_)] [some ⟨80, [.v (.string ⟨⟨b_.s⟩⟩), .opt q5 0 1, .v (.slice A6 b_.out.length c7)]⟩] ρ _ a := hX
 refine hX.part [] 3 [1] (l' := [(1, .v (.string ⟨⟨s_⟩⟩))]) (B' := [some ⟨80, [.v (.string ⟨⟨b_.s⟩⟩), .opt q5 0 1, .v (.slice A8 (b_.out ++ s_).length c9)]⟩]) (by kernel_rfl) fun ρ w a hX => ?_
 refine wpList_end ?_
 refine hK3 _ _ ?_
 refine Cx.rseq hX [] [4, 5] (l' := [(4, .v (.int .i64 ((s_.length : Nat) : Int))), (5, .v .nilIface)]) (B' := [some ⟨80, [.v (.string ⟨⟨b_.s⟩⟩), .opt q5 0 1, .v (.slice A8 (b_.out ++ s_).length c9)]⟩]) (by kernel_rfl) fun ρ w a hX => ?_
 refine wp_ret ?_
 have hX : Cx 19 _ _ _ _ _ [accP 5 kByte A8 c9 (b_.out ++ s_)] [some ⟨80, [.v (.string ⟨⟨b_.s⟩⟩), .opt q5 0 1, .v (.slice A8 (b_.out ++ s_).length c9)]⟩] ρ _ _ := hX
 have hX : Cx 19 _ _ _ _ _ [own_units_reader ({ s := b_.s, out := (b_.out ++ s_) } : T_units_reader) (ρ 0)] [none] ρ _ _ := Cx.packP (Y := (Bool × Option Addr × Nat)) hX 0 ((q5, A8, c9) : (Bool × Option Addr × Nat)) rfl rfl rfl rfl (fun h => h)
 have hX : Cx 19 _ _ _ _ _ [own_units_reader ({ s := b_.s, out := (b_.out ++ s_) } : T_units_reader) (ρ 0)] [none] ρ _ _ := hX
 have hr := Option.some.inj (show some _ = some _ from h0)
 subst hr
 exact hX.retH (M := [own_units_reader ({ s := b_.s, out := (b_.out ++ s_) } : T_units_reader) (ρ 0)]) (ss := [.v (.int .i64 ((s_.length : Nat) : Int)), .v .nilIface]) (by kernel_rfl) (by kernel_rfl) ⟨⟨_, _, rfl, rfl, ⟨errY, rfl⟩⟩, by rw [(hX.fix 0 _ (by rw [hD]; rfl)).2]⟩
def strings_Trim (t : Str) (cs : Str) : Option (Str) := if t.length < 4294967281 ∧ cs.length < 4294967281 ∧ cs.all (fun b => decide (b.toNat < 128)) = true then some (Lib.trimS t cs) else none
theorem strings_Trim.ok (t : Str) (cs : Str) (r : Str) (h0 : strings_Trim t cs = some r) (w0 : World) (F0 : Heap) (hv : F0.Sub w0) (hG : Glob F0) (hg : SV.goods F0 [.v (.string ⟨⟨t⟩⟩), .v (.string ⟨⟨cs⟩⟩)]) (ρ : Nat → Nat) :
    Calls Tryz.prog 76 (SV.dens ρ [.v (.string ⟨⟨t⟩⟩), .v (.string ⟨⟨cs⟩⟩)]).toArray w0 (Ret0 w0 F0 fun s => s = .v (.string ⟨⟨r⟩⟩)) := by
  unfold strings_Trim at h0
  split at h0
  · rename_i hc
    cases h0
    refine (Any.strings_Trim_ascii Tryz.lays160 (zeroValue_of (z := .agg (Array.replicate 256 (.bool false))) (by kernel_rfl)) (by kernel_rfl) ⟨⟨t⟩⟩ ⟨⟨cs⟩⟩ w0 (Nat.le_of_lt (Nat.lt_trans hc.1 (by decide))) hc.2.1 (fun j b hb => by have := List.all_eq_true.1 hc.2.2 b (List.mem_of_getElem? hb); simpa using this)).mono fun e w' h => ?_
    exact Ret0.below (s := .v (.string ⟨⟨_⟩⟩)) hv h.1 h.2 trivial rfl rfl
  · cases h0
def internal_strconv_ParseUint_c16_c16.j6 (x17 : Int) (x27 : Bool) (x28 : Int) : Option ((Bool × Int × Int) ⊕ ((Bool × Int) ⊕ (Int × GErr))) :=
  some (.inl (x27, x28, (IntKind.wrap .i64 (x17 + 1))))
def internal_strconv_ParseUint_c16_c16.j5 (v1 : Int) (x15 : Bool) (x16 : Int) (x17 : Int) (x26 : Int) : Option ((Bool × Int × Int) ⊕ ((Bool × Int) ⊕ (Int × GErr))) :=
  if (decide (x26 ≥ 16)) = true then
    some (.inr (.inr (0, (GErr.code 99 2))))
  else
    if (decide (x16 ≥ 1152921504606846976)) = true then
      some (.inr (.inr ((IntKind.wrap .u64 (v1 - 1)), (GErr.code 99 1))))
    else
      if ((decide ((IntKind.wrap .u64 ((IntKind.wrap .u64 (x16 * 16)) + (IntKind.wrap .u64 x26))) < (IntKind.wrap .u64 (x16 * 16)))) || (decide ((IntKind.wrap .u64 ((IntKind.wrap .u64 (x16 * 16)) + (IntKind.wrap .u64 x26))) > (IntKind.wrap .u64 (v1 - 1))))) = true then
        some (.inr (.inr ((IntKind.wrap .u64 (v1 - 1)), (GErr.code 99 1))))
      else
        internal_strconv_ParseUint_c16_c16.j6 x17 x15 (IntKind.wrap .u64 ((IntKind.wrap .u64 (x16 * 16)) + (IntKind.wrap .u64 x26)))
def internal_strconv_ParseUint_c16_c16.j4 (v1 : Int) (x15 : Bool) (x16 : Int) (x17 : Int) (v18 : UInt8) (x24 : Bool) : Option ((Bool × Int × Int) ⊕ ((Bool × Int) ⊕ (Int × GErr))) :=
  if x24 = true then
    Option.bind (internal_strconv_lower ((v18.toNat : Nat) : Int)) fun v25 =>
    internal_strconv_ParseUint_c16_c16.j5 v1 x15 x16 x17 (IntKind.wrap .u8 ((IntKind.wrap .u8 (v25 - 97)) + 10))
  else
    some (.inr (.inr (0, (GErr.code 99 2))))
end
end Go.Gw
