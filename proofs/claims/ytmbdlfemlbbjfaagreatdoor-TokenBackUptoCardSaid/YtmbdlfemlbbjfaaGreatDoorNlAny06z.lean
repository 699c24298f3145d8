/- strings.IndexAny, strings.ContainsAny where chars is a line feed and a carriage return: at any bytes. Walked through the library's own text, over any program and any numbering. -/
import Derived.Shelf.Strings.IndexAnyAll
import Derived.Laws.Runes
import Derived.Laws.RangeAny
import Derived.Lib.OthersKept
import Derived.Lib.TrimU
import Derived.Shelf.Small.Utf8
import Derived.Shelf.RegionOpenPlain
import Derived.Test.YtmbdlfemlbbjfaaGreatDoorProg
set_option linter.unusedVariables false
set_option linter.unusedSimpArgs false
set_option linter.unnecessarySimpa false
namespace Go.Gw
open Go.Shelf Go.RowKit Go.Lib Go.Proofs
variable {ρ : Ren}

def nlB : ByteArray := ⟨#[10, 13]⟩

set_option maxHeartbeats 8000000 in
set_option maxRecDepth 1000000 in
/-- strings.IndexRune("\n\r", r) at a rune beyond ASCII. -/
theorem strings_IndexRune_nl (L : Lays.n152 Tryz.prog ρ) (r : Int) (w : World) (h0 : 128 ≤ r) (h1 : r ≤ 1114111) :
    Calls Tryz.prog (ρ.f 152) #[.string nlB, .int .i32 r] w fun e w' => e = .returned (.int .i64 (-1)) ∧ Below w.heap.size w w' := by
  have mixed := L.mixed
  have t3 := L.t3; have a3 := L.a3; have z3 := L.z3; have v3 := L.v3
  have t4 := L.t4; have a4 := L.a4; have z4 := L.z4; have v4 := L.v4
  have t5 := L.t5; have a5 := L.a5; have z5 := L.z5; have v5 := L.v5
  have t9 := L.t9; have a9 := L.a9; have z9 := L.z9; have v9 := L.v9
  have t21 := L.t21; have a21 := L.a21; have z21 := L.z21; have v21 := L.v21
  have e137 : ∀ args w, (callFunc (ρ.f 137) args).run Tryz.prog w = .ok (.enter (ρ.f 137) args) w := enters_of L.f137 (by kernel_rfl) rfl
  have e119 : ∀ args w, (callFunc (ρ.f 119) args).run Tryz.prog w = .ok (.enter (ρ.f 119) args) w := enters_of L.f119 (by kernel_rfl) rfl
  have hz1 : (0 : Int) ≤ r := by omega
  have hz2 : ¬ r < 128 := by omega
  by_cases hbad : r = 65533
  · subst hbad
    go_enter L.f152, Body.n152_ntmps ρ
    go_wp2
    go_loopg [5, 6] 2 (fun g _ _ wx => ∃ i : Nat, i + g = 2 ∧ wx = w.iter nlB i)
    case atStart => exact ⟨0, by omega, rfl⟩
    case round =>
      obtain ⟨i, hig, rfl⟩ := hrel
      match gk, i, hig with
      | 0, 2, _ =>
        have hnx := fun ty => run_next_end (P := Tryz.prog) w nlB 2 ty (by decide)
        go_wp2
        go_ret
        exact ⟨rfl, (Below.refl _ _).alloc (Nat.le_refl _) _⟩
      | 1, 1, _ =>
        have hnx := fun ty => run_next_ascii (P := Tryz.prog) w nlB 1 ty (by decide) (by decide)
        go_wp2
        go_roundg 0
        case measure => omega
        case rel => exact ⟨2, by omega, rfl⟩
      | 2, 0, _ =>
        have hnx := fun ty => run_next_ascii (P := Tryz.prog) w nlB 0 ty (by decide) (by decide)
        go_wp2
        go_roundg 1
        case measure => omega
        case rel => exact ⟨1, by omega, rfl⟩
  · cases hv : Lib.validRune r with
    | false =>
      go_enter L.f152, Body.n152_ntmps ρ
      go_wp2_with (go_at_fn (ρ.f 119); refine (Any.utf8_ValidRune { L with } _ _).mono ?_; rintro e w' ⟨rfl, hw⟩; rw [hw, hv])
      go_ret
      exact ⟨rfl, Below.refl _ _⟩
    | true =>
      obtain ⟨f1, f2, f3⟩ := encode_facts r (by rw [Go.validRune_eq]; exact hv) h0
      obtain ⟨E, hE⟩ : ∃ E, Utf8.encode r = E := ⟨_, rfl⟩
      rw [hE] at f1 f2 f3
      go_enter L.f152, Body.n152_ntmps ρ
      go_wp2_with (go_at_fn (ρ.f 119); refine (Any.utf8_ValidRune { L with } _ _).mono ?_; rintro e w' ⟨rfl, hw⟩; rw [hw, hv])
      refine wp_scope_straight ?_
      have hl1 : ((E.size : Int) - 1) = ((E.size - 1 : Nat) : Int) := by omega
      go_wp2
      have hs2 : nlB.size = 2 := rfl
      go_loopg [9] 0 (fun g s9 wx => s9 = .int .i64 ((E.size - 1 : Nat) : Int) ∧ wx = w)
      case atStart => exact ⟨rfl, rfl⟩
      case round =>
        obtain ⟨rfl, rfl⟩ := hrel
        by_cases h2 : E.size = 2
        · obtain ⟨x, hx⟩ : ∃ x : UInt8, E[1]'(by omega) = x := ⟨_, rfl⟩
          have hx128 : 128 ≤ x.toNat := by
            have := f3 (by omega)
            simp only [show E.size - 1 = 1 from by omega] at this
            rw [hx] at this; exact this
          rw [show E.size - 1 = 1 from by omega]
          have hne : ¬ (13 : UInt8) = x := by intro h; rw [← h] at hx128; revert hx128; decide
          have hE1 : (1 : Int) < (E.size : Int) := by omega
          go_wp2
          refine wp_scope_straight ?_
          go_wp2
          go_region
          have hb1 : (((nlB[1]'(by decide)).toNat : Int) != (x.toNat : Int)) = true := by
            have : (nlB[1]'(by decide)) = 13 := rfl
            rw [this]
            have h13 : ((13 : UInt8).toNat : Int) = 13 := rfl
            rw [h13]
            simp only [bne_iff_ne, ne_eq]; omega
          rw [hb1]
          go_wp2
          go_region_with_o (
            go_at_fn (ρ.f 137)
            refine (Any.strings_IndexByte { L with } _ _ _).mono ?_
            rintro e w' ⟨rfl, hw⟩
            rw [hw])
          all_goals (
            rw [show Lib.indexByte [] x = -1 from rfl]
            go_wp2
            simp only [Exit.noGoto, Exit.inBlock, Exit.then]
            go_ret
            exact ⟨rfl, Below.drew (Below.drew (Below.refl _ _))⟩)
        · have hlt : ¬ (((E.size - 1 : Nat) : Int) < 2) := by omega
          go_wp2
          go_ret
          exact ⟨rfl, Below.refl _ _⟩

theorem decode_wide (s : ByteArray) (pos : Nat) (h : pos < s.size) (ha : 128 ≤ (s[pos]'h).toNat) : pos + (Utf8.decode s pos).2 ≤ s.size ∧ ∀ k, k < (Utf8.decode s pos).2 → ∀ b, s.data.toList[pos + k]? = some b → 128 ≤ b.toNat := by
  have get : ∀ k b, s.data.toList[pos + k]? = some b → (s.get! (pos + k)).toNat = b.toNat := fun k b hb => by
    have hlt : pos + k < s.size := by
      rcases Nat.lt_or_ge (pos + k) s.size with h | h
      · exact h
      · rw [List.getElem?_eq_none (by rw [← Lib.size_eq]; exact h)] at hb; cases hb
    have := Lib.data_getElem? s (pos + k) hlt
    rw [hb] at this
    have e : s.get! (pos + k) = s[pos + k]'hlt := by
      show s.get! (pos + k) = _
      simp [ByteArray.get!, getElem!_pos, hlt]
      rfl
    rw [e]; rw [← Option.some.inj this]
  have e0 : (s.get! pos).toNat = (s[pos]'h).toNat := get 0 _ (Lib.data_getElem? s pos h)
  have g1 := get 1; have g2 := get 2; have g3 := get 3
  rw [Lib.decode_at]
  generalize (s.get! pos).toNat = b0 at e0
  generalize (s.get! (pos + 1)).toNat = b1 at g1
  generalize (s.get! (pos + 2)).toNat = b2 at g2
  generalize (s.get! (pos + 3)).toNat = b3 at g3
  have hn : ¬ b0 < 128 := by omega
  have h0 : ∀ b, s.data.toList[pos + 0]? = some b → 128 ≤ b.toNat := fun b hb => by
    have := Lib.data_getElem? s pos h
    rw [Nat.add_zero, this] at hb; cases hb; exact ha
  have one : pos + 1 ≤ s.size ∧ ∀ k, k < 1 → ∀ b, s.data.toList[pos + k]? = some b → 128 ≤ b.toNat := ⟨by omega, fun k hk b hb => by
    obtain rfl : k = 0 := by omega
    exact h0 b hb⟩
  unfold Lib.decodeN
  rw [if_neg hn]
  split
  · rename_i c
    split
    · refine ⟨by show pos + 2 ≤ _; omega, fun k hk b hb => ?_⟩
      have hk : k < 2 := hk
      rcases k with _ | _ | k
      · exact h0 b hb
      · have := g1 b hb; omega
      · omega
    · exact one
  · split
    · rename_i c
      split
      · refine ⟨by show pos + 3 ≤ _; omega, fun k hk b hb => ?_⟩
        have hk : k < 3 := hk
        rcases k with _ | _ | _ | k
        · exact h0 b hb
        · have := g1 b hb; omega
        · have := g2 b hb; omega
        · omega
      · exact one
    · split
      · rename_i c
        split
        · refine ⟨by show pos + 4 ≤ _; omega, fun k hk b hb => ?_⟩
          have hk : k < 4 := hk
          rcases k with _ | _ | _ | _ | k
          · exact h0 b hb
          · have := g1 b hb; omega
          · have := g2 b hb; omega
          · have := g3 b hb; omega
          · omega
        · exact one
      · exact one

set_option maxHeartbeats 8000000 in
set_option maxRecDepth 1000000 in
/-- strings.IndexAny(s, a line feed and a carriage return): s of at most 8 bytes, any bytes. -/
theorem strings_IndexAny_nl_short (L : Lays.n153 Tryz.prog ρ) (s : ByteArray) (w : World) (h8 : s.size ≤ 8) :
    Calls Tryz.prog (ρ.f 153) #[.string s, .string nlB] w fun e w' => e = .returned (.int .i64 (Lib.indexAny s.data.toList [10, 13])) ∧ Below w.heap.size w w' := by
  have hemp : nlB.toList.isEmpty = false := by rw [Lib.toList_data]; rfl
  have hn1 : ((nlB.size : Int) == 1) = false := rfl
  have h8z : decide ((8 : Int) < (s.size : Int)) = false := decide_eq_false (by omega)
  have mixed := L.mixed
  have t3 := L.t3; have a3 := L.a3; have z3 := L.z3; have v3 := L.v3
  have t4 := L.t4; have a4 := L.a4; have z4 := L.z4; have v4 := L.v4
  have t5 := L.t5; have a5 := L.a5; have z5 := L.z5; have v5 := L.v5
  have t9 := L.t9; have a9 := L.a9; have z9 := L.z9; have v9 := L.v9
  have t21 := L.t21; have a21 := L.a21; have z21 := L.z21; have v21 := L.v21
  have e152 : ∀ args w, (callFunc (ρ.f 152) args).run Tryz.prog w = .ok (.enter (ρ.f 152) args) w := enters_of L.f152 (by kernel_rfl) rfl
  have e226 : ∀ args w, (callFunc (ρ.f 226) args).run Tryz.prog w = .ok (.enter (ρ.f 226) args) w := enters_of L.f226 (by kernel_rfl) rfl
  go_enter L.f153, Body.n153_ntmps ρ
  go_wp2_with (go_at_fn (ρ.f 226); refine (Any.strings_shouldUseASCIISet { L with } _ _).mono ?_; rintro e w' ⟨rfl, hw⟩; rw [hw, h8z])
  go_loopg [9, 10] s.size (fun g _ _ wx => ∃ pos : Nat, s.size ≤ pos + g ∧ wx.heap[w.heap.size]? = some (.stringIter s pos) ∧ Below w.heap.size w wx ∧ Lib.NoAny s.data.toList [10, 13] pos)
  case atStart => exact ⟨0, by omega, World.iter_heap w s 0, (Below.refl _ _).alloc (Nat.le_refl _) _, Lib.NoAny.zero _ _⟩
  case round =>
    obtain ⟨pos, hig, hit, hbw, hno⟩ := hrel
    have HN : Aside (Lib.NoAny s.data.toList [10, 13] pos) := hno
    clear hno
    by_cases hp : pos < s.size
    · obtain ⟨g, rfl⟩ : ∃ g, gk = g + 1 := ⟨gk - 1, by omega⟩
      obtain ⟨x, hx⟩ : ∃ x : UInt8, s[pos]'hp = x := ⟨_, rfl⟩
      have hxl : s.data.toList[pos]? = some x := by rw [← hx]; exact Lib.data_getElem? s pos hp
      have Hx : Aside (s.data.toList[pos]? = some x) := hxl
      clear hxl
      have hlt := lt_of_block hit
      by_cases h128 : x.toNat < 128
      · have hnx : ∀ ty, (Instr.next (.pointer (some ⟨w.heap.size, 0, none⟩)) true ty).run Tryz.prog wr = _ := fun ty => Lib.run_next_ascii_at wr w.heap.size s pos ty hit hp (by rw [hx]; exact h128)
        rw [hx] at hnx
        have hit2 := Lib.iterAt_heap wr w.heap.size s pos (pos + 1) hit
        have hbw2 := Lib.below_iterAt hbw (k := w.heap.size) (Nat.le_refl _) s (pos + 1)
        obtain ⟨W1, hW1⟩ : ∃ W1, W1 = wr.iterAt w.heap.size s (pos + 1) := ⟨_, rfl⟩
        rw [← hW1] at hnx hit2 hbw2
        have hcon := Lib.contains_iff_indexByte nlB.data.toList x
        have hback : ((x.toNat : Int)).toNat.toUInt8 = x := by simp
        clear hW1 hit hbw hlt
        cases hin : nlB.data.toList.contains x
        · rw [hin] at hcon
          have hlt : ¬ ((0 : Int) ≤ Lib.indexByte nlB.data.toList x) := of_decide_eq_false hcon.symm
          clear hcon
          go_wp2_with (go_at_fn (ρ.f 152); refine (Any.strings_IndexRune_ascii { L with } _ _ _ (by omega) (by omega)).mono ?_; rintro e w' ⟨rfl, hw⟩; rw [hw, hback])
          go_roundg g
          case measure => omega
          case rel => exact ⟨pos + 1, by omega, hit2, hbw2, HN.out.succ Hx.out hin⟩
        · rw [hin] at hcon
          have hge : (0 : Int) ≤ Lib.indexByte nlB.data.toList x := of_decide_eq_true hcon.symm
          clear hcon
          go_wp2_with (go_at_fn (ρ.f 152); refine (Any.strings_IndexRune_ascii { L with } _ _ _ (by omega) (by omega)).mono ?_; rintro e w' ⟨rfl, hw⟩; rw [hw, hback])
          go_ret
          exact ⟨by rw [Lib.indexAny_hit HN.out Hx.out hin]; rfl, hbw2⟩
      · have hnx : ∀ ty, (Instr.next (.pointer (some ⟨w.heap.size, 0, none⟩)) true ty).run Tryz.prog wr = _ := fun ty => Lib.run_next_any_at wr w.heap.size s pos ty hit hp
        have hge : 128 ≤ (s[pos]'hp).toNat := by rw [hx]; omega
        have hdw := decode_wide s pos hp hge
        have hd1 := (decode_high s pos hp hge).1
        have hd2 := (decode_high s pos hp hge).2
        have hd3 := Lib.rune_le s pos
        have hit2 := Lib.iterAt_heap wr w.heap.size s pos (pos + (Utf8.decode s pos).2) hit
        have hbw2 := Lib.below_iterAt hbw (k := w.heap.size) (Nat.le_refl _) s (pos + (Utf8.decode s pos).2)
        have hsz := Lib.iterAt_size wr w.heap.size s (pos + (Utf8.decode s pos).2)
        obtain ⟨W1, hW1⟩ : ∃ W1, W1 = wr.iterAt w.heap.size s (pos + (Utf8.decode s pos).2) := ⟨_, rfl⟩
        rw [← hW1] at hnx hit2 hbw2 hsz
        obtain ⟨R, hR⟩ : ∃ R, (Utf8.decode s pos).1 = R := ⟨_, rfl⟩
        obtain ⟨wd, hwd⟩ : ∃ wd, (Utf8.decode s pos).2 = wd := ⟨_, rfl⟩
        rw [hR] at hnx hd1 hd3
        rw [hwd] at hit2 hdw hd2
        have HD : Aside (pos + wd ≤ s.size ∧ ∀ k, k < wd → ∀ b, s.data.toList[pos + k]? = some b → 128 ≤ b.toNat) := hdw
        have hlt2 : w.heap.size < W1.heap.size := by rw [hsz]; exact hlt
        clear hW1 hit hbw hR hwd hdw hsz
        go_wp2_with (go_at_fn (ρ.f 152); refine (strings_IndexRune_nl { L with } _ _ (by omega) (by omega)).mono ?_; rintro e w' ⟨rfl, hw⟩)
        go_roundg g
        case measure => omega
        case rel =>
          have hno2 : Lib.NoAny s.data.toList [10, 13] (pos + wd) := fun j b hj hb => by
            by_cases hjp : j < pos
            · exact HN.out j b hjp hb
            · have := HD.out.2 (j - pos) (by omega) b (by rw [show pos + (j - pos) = j from by omega]; exact hb)
              cases hc : ([10, 13] : List UInt8).contains b with
              | false => rfl
              | true =>
                exfalso
                simp only [List.contains_cons, List.contains_nil, Bool.or_false, Bool.or_eq_true, beq_iff_eq] at hc
                rcases hc with rfl | rfl <;> revert this <;> decide
          exact ⟨pos + wd, by omega, by rw [hw.block _ hlt2]; exact hit2, hbw2.trans (hw.mono (by omega)), hno2⟩
    · have hnx := fun ty => Lib.run_next_end_at (P := Tryz.prog) wr w.heap.size s pos ty hit hp
      go_wp2
      go_ret
      refine ⟨?_, hbw⟩
      have : Lib.indexAny s.data.toList [10, 13] = -1 := Lib.indexAny_none (fun j b hj hb => HN.out j b (by rw [← Lib.size_eq] at hj; omega) hb)
      rw [this]; rfl

/-- strings.IndexAny(s, a line feed and a carriage return) -/
theorem strings_IndexAny_nl (L : Lays.n153 Tryz.prog ρ) (h116 : (Tryz.prog.info? (ρ.t 116)).map (fun i => (i.zero, i.size)) = some (some (.agg (Array.replicate 256 (.bool false))), 256)) (s : ByteArray) (w : World) (hs : s.size < 4294967281) :
    Calls Tryz.prog (ρ.f 153) #[.string s, .string nlB] w fun e w' => e = .returned (.int .i64 (Lib.indexAny s.data.toList [10, 13])) ∧ Below w.heap.size w w' := by
  by_cases h8 : s.size ≤ 8
  · exact strings_IndexAny_nl_short L s w h8
  · refine (Any.strings_IndexAny_long L (zero_of_info h116).1 (zero_of_info h116).2 s nlB w (by decide) (by omega) hs (by decide) (fun j b hb => ?_)).mono fun e w' ⟨h1, h2⟩ => ⟨h1, ?_⟩
    · have : j < 2 := by
        rcases Nat.lt_or_ge j 2 with h | h
        · exact h
        · rw [List.getElem?_eq_none (by show 2 ≤ j; exact h)] at hb; cases hb
      rcases j with _ | _ | j
      · cases hb; decide
      · cases hb; decide
      · omega
    · rw [h2]
      exact ((Below.refl _ _).alloc (Nat.le_refl _) _).alloc (by simp) _
set_option maxHeartbeats 1000000 in
theorem strings_ContainsAny_nl (L : Lays.n150 Tryz.prog ρ) (h116 : (Tryz.prog.info? (ρ.t 116)).map (fun i => (i.zero, i.size)) = some (some (.agg (Array.replicate 256 (.bool false))), 256)) (s : ByteArray) (w : World) (hs : s.size < 4294967281) :
    Calls Tryz.prog (ρ.f 150) #[.string s, .string nlB] w fun e w' => e = .returned (.bool (Lib.containsAny s.data.toList [10, 13])) ∧ Below w.heap.size w w' := by
  have c := strings_IndexAny_nl { L with } h116 s w hs
  have t3 := L.t3; have a3 := L.a3; have z3 := L.z3; have v3 := L.v3
  have t4 := L.t4; have a4 := L.a4; have z4 := L.z4; have v4 := L.v4
  have t9 := L.t9; have a9 := L.a9; have z9 := L.z9; have v9 := L.v9
  have e153 : ∀ args w, (callFunc (ρ.f 153) args).run Tryz.prog w = .ok (.enter (ρ.f 153) args) w := enters_of L.f153 (by kernel_rfl) rfl
  go_enter L.f150, Body.n150_ntmps ρ
  go_wp2_with (go_at_fn (ρ.f 153); refine c.mono ?_; rintro e w' ⟨rfl, hw⟩)
  go_ret
  exact ⟨rfl, hw⟩
end Go.Gw

