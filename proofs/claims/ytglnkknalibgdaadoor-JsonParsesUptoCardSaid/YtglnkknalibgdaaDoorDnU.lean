/- Builders: their methods that look at addresses. Over any program and any numbering that bear their text. -/
import Derived.Test.YtglnkknalibgdaaDoorDnT
import Derived.Test.YtglnkknalibgdaaDoorDnQ
import Derived.Shelf.Strings.Builder1
set_option linter.unusedVariables false
set_option linter.unusedSimpArgs false
set_option linter.unnecessarySimpa false
namespace Go.Dn
open Go.Gw Go.RowKit Go.Shelf Go.Proofs
set_option linter.unusedSimpArgs false

section
variable {P : Program} {ρ : Ren}
/-- all but one block is as it was; there may be more -/
def Kept (g : Nat) (w w' : World) : Prop := w'.os = w.os ∧ w'.tape = w.tape ∧ w'.output = w.output ∧ w.heap.size ≤ w'.heap.size ∧ ∀ x, x < w.heap.size → x ≠ g → w'.heap[x]? = w.heap[x]?
theorem Kept.refl (g : Nat) (w : World) : Kept g w w := ⟨rfl, rfl, rfl, Nat.le_refl _, fun _ _ _ => rfl⟩
theorem Kept.drew {g : Nat} {w w' : World} (h : Kept g w w') : Kept g w w'.drew := h
theorem Kept.alloc {g : Nat} {w w' : World} (h : Kept g w w') (o : Obj) : Kept g w (w'.alloc o) :=
  ⟨h.1, h.2.1, h.2.2.1, Nat.le_trans h.2.2.2.1 (by show w'.heap.size ≤ (w'.heap.push o).size; rw [Array.size_push]; exact Nat.le_succ _), fun x h1 h2 => by
    have := h.2.2.2.1
    have hx : x < w'.heap.size := by omega
    rw [← h.2.2.2.2 x h1 h2]
    exact Lib.alloc_old w' o x hx⟩
theorem Kept.freeze {g : Nat} {w w' : World} (h : Kept g w w') (n : Nat) : Kept g w (w'.freeze ⟨g, 0, none⟩ n) :=
  ⟨(freeze_rest _ _ _).1.trans h.1, (freeze_rest _ _ _).2.1.trans h.2.1, (freeze_rest _ _ _).2.2.trans h.2.2.1, by rw [freeze_size]; exact h.2.2.2.1, fun x h1 h2 => by rw [freeze_block _ _ _ _ h2]; exact h.2.2.2.2 x h1 h2⟩

set_option maxHeartbeats 1000000 in
set_option maxRecDepth 100000 in
theorem bld_used (L : Lays.n240 P ρ) (X : Builder.X72 P ρ) (b off : Nat) (w : World) (h0 : w.cell? ⟨b, off, none⟩ = some (.pointer (some ⟨b, off, none⟩))) :
    Calls P (ρ.f 240) #[.pointer (some ⟨b, off, none⟩)] w fun e w' => e = .returned (.tuple #[]) ∧ w' = w := by
  obtain ⟨j, hj, _⟩ := Option.map_eq_some_iff.1 X.sizeBuilder
  have mixed := L.mixed
  have t72 := L.t72; have a72 := L.a72; have z72 := L.z72; have v72 := L.v72; have u72 := run_underlying L.t72
  have t70 := L.t70; have a70 := L.a70; have z70 := L.z70; have v70 := L.v70; have u70 := run_underlying L.t70
  have t9 := L.t9; have a9 := L.a9; have z9 := L.z9; have v9 := L.v9; have u9 := run_underlying L.t9
  have t4 := L.t4; have a4 := L.a4; have z4 := L.z4; have v4 := L.v4; have u4 := run_underlying L.t4
  have t164 := L.t164; have a164 := L.a164; have z164 := L.z164; have v164 := L.v164; have u164 := run_underlying L.t164
  go_enter L.f240, Body.n240_ntmps ρ
  go_wp2
  rw [Lib.run_neq_ptr_same w _ L.t70 hj]
  go_wp2
  go_end0
  exact ⟨rfl, rfl⟩

set_option maxHeartbeats 1000000 in
set_option maxRecDepth 100000 in
theorem bld_fresh (L : Lays.n240 P ρ) (X : Builder.X72 P ρ) (b off ty n : Nat) (w : World) (h0 : w.cell? ⟨b, off, none⟩ = some (.pointer none)) (hsh : w.shape? b = some (ty, n)) (hoff : off < n) (hlies : liesAt P P.depth ty (n / P.cellsOf ty) off (ρ.t 72) 1 = true) (hfz : w.frozen? ⟨b, off, none⟩ = false) :
    Calls P (ρ.f 240) #[.pointer (some ⟨b, off, none⟩)] w fun e w' => e = .returned (.tuple #[]) ∧ w' = w.setCell ⟨b, off, none⟩ (.pointer (some ⟨b, off, none⟩)) := by
  obtain ⟨j, hj, hjs⟩ := Option.map_eq_some_iff.1 X.sizeBuilder
  have mixed := L.mixed
  have t72 := L.t72; have a72 := L.a72; have z72 := L.z72; have v72 := L.v72; have u72 := run_underlying L.t72
  have t70 := L.t70; have a70 := L.a70; have z70 := L.z70; have v70 := L.v70; have u70 := run_underlying L.t70
  have t9 := L.t9; have a9 := L.a9; have z9 := L.z9; have v9 := L.v9; have u9 := run_underlying L.t9
  have t4 := L.t4; have a4 := L.a4; have z4 := L.z4; have v4 := L.v4; have u4 := run_underlying L.t4
  have t164 := L.t164; have a164 := L.a164; have z164 := L.z164; have v164 := L.v164; have u164 := run_underlying L.t164
  go_enter L.f240, Body.n240_ntmps ρ
  go_wp2
  rw [Lib.run_to_unsafe w ⟨b, off, none⟩ L.t70 L.t164 hj (by rw [hjs]; decide) hsh hoff]
  simp only [Result.andThen]
  rw [Oper.upon_value]
  go_wp2
  rw [run_callFunc_extern L.f276 (by kernel_rfl) (by kernel_rfl) (by kernel_rfl) (e := Extern.AbiNoEscape.same) (by kernel_rfl)]
  rw [Lib.run_noEscape]
  simp only [Result.andThen]
  rw [Oper.upon_value]
  go_wp2
  rw [Lib.run_from_unsafe w ⟨b, off, none⟩ L.t164 L.t70 hj hsh hlies]
  simp only [Result.andThen]
  rw [Oper.upon_value]
  go_wp2
  go_end0
  exact ⟨rfl, rfl⟩

set_option maxHeartbeats 2000000 in
set_option maxRecDepth 100000 in
theorem bld_string_nil (L : Lays.n169 P ρ) (X : Builder.Extra P ρ) (b off k : Nat) (w : World) (c0 : w.cell? ⟨b, off + 1, none⟩ = some (.slice none 0 0)) :
    Calls P (ρ.f 169) #[.pointer (some ⟨b, off, none⟩)] w fun e w' => e = .returned (.string ⟨#[]⟩) ∧ Kept k w w' := by
  have hUS := Any.unsafeString_none L X
  have c1 : w.drew.cell? ⟨b, off + 1, none⟩ = some (.slice none 0 0) := c0
  have hSD : (Builtin.unsafeSliceData_ #[(ρ.t 37)] (ρ.t 127) #[.slice none 0 0]).run P w.drew = .ok (.pointer none) w.drew := rfl
  have mixed := L.mixed
  have t72 := L.t72; have a72 := L.a72; have z72 := L.z72; have v72 := L.v72; have u72 := run_underlying L.t72
  have t70 := L.t70; have a70 := L.a70; have z70 := L.z70; have v70 := L.v70; have u70 := run_underlying L.t70
  have t37 := L.t37; have a37 := L.a37; have z37 := L.z37; have v37 := L.v37; have u37 := run_underlying L.t37
  have t127 := L.t127; have a127 := L.a127; have z127 := L.z127; have v127 := L.v127; have u127 := run_underlying L.t127
  have t3 := L.t3; have a3 := L.a3; have z3 := L.z3; have v3 := L.v3; have u3 := run_underlying L.t3
  have t9 := L.t9; have a9 := L.a9; have z9 := L.z9; have v9 := L.v9; have u9 := run_underlying L.t9
  have t5 := X.t5; have a5 := X.a5; have z5 := X.z5; have v5 := X.v5; have u5 := run_underlying X.t5
  go_enter L.f169, Body.n169_ntmps ρ
  go_wp2
  go_region_o
  all_goals (go_wp2; go_ret; exact ⟨rfl, Kept.refl k w⟩)

set_option maxHeartbeats 2000000 in
set_option maxRecDepth 100000 in
theorem bld_string_noroom (L : Lays.n169 P ρ) (X : Builder.Extra P ρ) (b off k g : Nat) (cur : Array Value) (w : World) (hlt : b < w.heap.size) (c0 : w.cell? ⟨b, off + 1, none⟩ = some (.slice (some ⟨g, 0, none⟩) 0 0)) (hg : w.heap[g]? = some (.cells cur (ρ.t 5) (0, 0))) :
    Calls P (ρ.f 169) #[.pointer (some ⟨b, off, none⟩)] w fun e w' => e = .returned (.string ⟨#[]⟩) ∧ Kept k w w' := by
  have hUS := Any.unsafeString_none L X
  have c1 : w.drew.cell? ⟨b, off + 1, none⟩ = some (.slice (some ⟨g, 0, none⟩) 0 0) := c0
  have hSD : (Builtin.unsafeSliceData_ #[(ρ.t 37)] (ρ.t 127) #[.slice (some ⟨g, 0, none⟩) 0 0]).run P w.drew = .ok (.pointer (some ⟨w.drew.heap.size, 0, none⟩)) (w.drew.alloc (.view ⟨g, 0, none⟩ (ρ.t 5))) :=
    Lib.run_unsafeSliceData_zero w.drew _ _ (ρ.t 5) L.t127 ⟨g, 0, none⟩ 0 ((ρ.t 5), cur.size) (by have hg' : w.drew.heap[g]? = some (.cells cur (ρ.t 5) (0, 0)) := hg; simp [World.shape?, hg'])
  have c2 : (w.drew.alloc (.view ⟨g, 0, none⟩ (ρ.t 5))).cell? ⟨b, off + 1, none⟩ = some (.slice (some ⟨g, 0, none⟩) 0 0) := by
    rw [World.cell?_alloc_past _ _ _ (by exact hlt)]; exact c1
  have c3 : (w.alloc (.view ⟨g, 0, none⟩ (ρ.t 5))).drew.cell? ⟨b, off + 1, none⟩ = some (.slice (some ⟨g, 0, none⟩) 0 0) := c2
  have mixed := L.mixed
  have t72 := L.t72; have a72 := L.a72; have z72 := L.z72; have v72 := L.v72; have u72 := run_underlying L.t72
  have t70 := L.t70; have a70 := L.a70; have z70 := L.z70; have v70 := L.v70; have u70 := run_underlying L.t70
  have t37 := L.t37; have a37 := L.a37; have z37 := L.z37; have v37 := L.v37; have u37 := run_underlying L.t37
  have t127 := L.t127; have a127 := L.a127; have z127 := L.z127; have v127 := L.v127; have u127 := run_underlying L.t127
  have t3 := L.t3; have a3 := L.a3; have z3 := L.z3; have v3 := L.v3; have u3 := run_underlying L.t3
  have t9 := L.t9; have a9 := L.a9; have z9 := L.z9; have v9 := L.v9; have u9 := run_underlying L.t9
  have t5 := X.t5; have a5 := X.a5; have z5 := X.z5; have v5 := X.v5; have u5 := run_underlying X.t5
  go_enter L.f169, Body.n169_ntmps ρ
  go_wp2
  go_region_o
  all_goals (go_wp2; go_ret; exact ⟨rfl, ((Kept.refl k w).drew).alloc _⟩)

set_option maxHeartbeats 2000000 in
set_option maxRecDepth 100000 in
theorem bld_string_room (L : Lays.n169 P ρ) (X : Builder.Extra P ρ) (b off k g cap : Nat) (w : World) (hc0 : cap ≠ 0) (c0 : w.cell? ⟨b, off + 1, none⟩ = some (.slice (some ⟨g, 0, none⟩) 0 cap)) :
    Calls P (ρ.f 169) #[.pointer (some ⟨b, off, none⟩)] w fun e w' => e = .returned (.string ⟨#[]⟩) ∧ Kept k w w' := by
  have hUS := Any.unsafeString_none L X
  have c1 : w.drew.cell? ⟨b, off + 1, none⟩ = some (.slice (some ⟨g, 0, none⟩) 0 cap) := c0
  have hSD : (Builtin.unsafeSliceData_ #[(ρ.t 37)] (ρ.t 127) #[.slice (some ⟨g, 0, none⟩) 0 cap]).run P w.drew = .ok (.pointer (some ⟨g, 0, none⟩)) w.drew :=
    Lib.run_unsafeSliceData_row _ _ _ _ _ _ hc0
  clear hc0
  have mixed := L.mixed
  have t72 := L.t72; have a72 := L.a72; have z72 := L.z72; have v72 := L.v72; have u72 := run_underlying L.t72
  have t70 := L.t70; have a70 := L.a70; have z70 := L.z70; have v70 := L.v70; have u70 := run_underlying L.t70
  have t37 := L.t37; have a37 := L.a37; have z37 := L.z37; have v37 := L.v37; have u37 := run_underlying L.t37
  have t127 := L.t127; have a127 := L.a127; have z127 := L.z127; have v127 := L.v127; have u127 := run_underlying L.t127
  have t3 := L.t3; have a3 := L.a3; have z3 := L.z3; have v3 := L.v3; have u3 := run_underlying L.t3
  have t9 := L.t9; have a9 := L.a9; have z9 := L.z9; have v9 := L.v9; have u9 := run_underlying L.t9
  have t5 := X.t5; have a5 := X.a5; have z5 := X.z5; have v5 := X.v5; have u5 := run_underlying X.t5
  go_enter L.f169, Body.n169_ntmps ρ
  go_wp2
  go_region_o
  all_goals (go_wp2; go_ret; exact ⟨rfl, Kept.refl k w⟩)

set_option maxHeartbeats 2000000 in
set_option maxRecDepth 100000 in
theorem bld_string_row (L : Lays.n169 P ρ) (X : Builder.Extra P ρ) (b off g cap : Nat) (cur : Array Value) (l : List UInt8) (w : World) (h0 : l ≠ []) (hcap : l.length ≤ cap) (hcs : cur.size = cap) (hcm : cap ≤ maxLen) (c0 : w.cell? ⟨b, off + 1, none⟩ = some (.slice (some ⟨g, 0, none⟩) l.length cap)) (hg : w.heap[g]? = some (.cells cur (ρ.t 5) (0, 0)))
    (hcur : ∀ (j : Nat) (x : UInt8), l[j]? = some x → cur[j]? = some (.int .u8 x.toNat)) :
    Calls P (ρ.f 169) #[.pointer (some ⟨b, off, none⟩)] w fun e w' => e = .returned (.string ⟨l.toArray⟩) ∧ Kept g w w' := by
  have hl0 : l.length ≠ 0 := by simpa using h0
  have c1 : w.drew.cell? ⟨b, off + 1, none⟩ = some (.slice (some ⟨g, 0, none⟩) l.length cap) := c0
  have hSD : (Builtin.unsafeSliceData_ #[(ρ.t 37)] (ρ.t 127) #[.slice (some ⟨g, 0, none⟩) l.length cap]).run P w.drew = .ok (.pointer (some ⟨g, 0, none⟩)) w.drew :=
    Lib.run_unsafeSliceData_row _ _ _ _ _ _ (by omega)
  have hUS : (Builtin.unsafeString_ #[(ρ.t 127), (ρ.t 3)] (ρ.t 9) #[.pointer (some ⟨g, 0, none⟩), .int .i64 l.length]).run P w.drew = .ok (.string ⟨l.toArray⟩) (w.drew.freeze ⟨g, 0, none⟩ l.length) := by
    refine Lib.run_unsafeString_row w.drew (ρ.t 127) (ρ.t 3) (ρ.t 9) (ρ.t 5) L.t127 X.cellsByte g cur.size (by have hg' : w.drew.heap[g]? = some (.cells cur (ρ.t 5) (0, 0)) := hg; simp [World.shape?, hg']) l h0 (by omega) (by rw [maxLen_eq] at hcm; omega) ?_
    intro j x hx
    have h3 := hcur j x hx
    rw [add_at, Nat.zero_add]
    have hg' : w.drew.heap[g]? = some (.cells cur (ρ.t 5) (0, 0)) := hg
    unfold World.cell?
    rw [hg']
    simp only [Option.isSome_none, Bool.false_eq_true, if_false]
    exact h3
  have mixed := L.mixed
  have t72 := L.t72; have a72 := L.a72; have z72 := L.z72; have v72 := L.v72; have u72 := run_underlying L.t72
  have t70 := L.t70; have a70 := L.a70; have z70 := L.z70; have v70 := L.v70; have u70 := run_underlying L.t70
  have t37 := L.t37; have a37 := L.a37; have z37 := L.z37; have v37 := L.v37; have u37 := run_underlying L.t37
  have t127 := L.t127; have a127 := L.a127; have z127 := L.z127; have v127 := L.v127; have u127 := run_underlying L.t127
  have t3 := L.t3; have a3 := L.a3; have z3 := L.z3; have v3 := L.v3; have u3 := run_underlying L.t3
  have t9 := L.t9; have a9 := L.a9; have z9 := L.z9; have v9 := L.v9; have u9 := run_underlying L.t9
  have t5 := X.t5; have a5 := X.a5; have z5 := X.z5; have v5 := X.v5; have u5 := run_underlying X.t5
  go_enter L.f169, Body.n169_ntmps ρ
  go_wp2
  go_region_o
  all_goals (go_wp2; go_ret; exact ⟨rfl, (Kept.refl g w).drew.freeze _⟩)
end

section
variable (Y : Tys) (P : Program)
def hasN (n : Nat) : List Nat → Bool
  | [] => false
  | a :: r => Nat.beq a n || hasN n r
/-- (*strings.Builder).copyCheck: behind it the first cell is the builder's own address, of which nothing is told -/
def copyC (tB : TypeId) : Callee Y where
  run {R} args ms k := match args with
    | [.ptr j off] => match ms[j]? with
      | some (.cells ty l) => bif hasN off (Y.bld ty) && (Nat.blt off l.length && liesAt P P.depth ty (l.length / P.cellsOf ty) off tB 1) then k (.ret (.tup [])) (ms.set j (.cells ty (l.set off .junk))) else none
      | _ => none
    | _ => none
  keep := []
  shs := [⟨[(0, .junk)], []⟩]
/-- (*strings.Builder).String: the bytes are given up -/
def strC (t5 : TypeId) : Callee Y where
  run {R} args ms k := match args with
    | [.ptr j off] => match ms[j]? with
      | some (.cells _ l) => match l[off + 1]? with
        | some (.own q) => match ms[q]? with
          | some (.arr _ _) => (match slAs Y.byt ms (.own q) with
            | some xs => bif Nat.beq Y.byt t5 then k (.ret (.v (.string ⟨⟨cast (congrArg List Y.isB) xs⟩⟩))) (ms.set q .gone) else none
            | none => none)
          | _ => none
        | some (.v (.slice none 0 0)) => k (.ret (.v (.string ⟨⟨[]⟩⟩))) ms
        | _ => none
      | _ => none
    | _ => none
  keep := []
  shs := [⟨[(0, .junk)], []⟩]
end

section
variable {Y : Tys} {hY : TysOk Y} {P : Program} {N : Nat} {w0 : World} {F0 : Heap} {D : Own} {H : List (Option Nat)} {w w' : World} {F F' : Heap} {ρ ρ' : List Pl} {os os' : List (Option Obj)} {s s' : Sy Y.T} {a a' : Act} {G : Heap → Prop}

theorem hasN_ok {n : Nat} : ∀ {l : List Nat}, hasN n l = true → n ∈ l
  | [], h => by cases h
  | a :: r, h => by
    simp only [hasN, Bool.or_eq_true] at h
    rcases h with h | h
    · rw [Nat.eq_of_beq_eq_true h]; exact List.mem_cons_self
    · exact List.mem_cons_of_mem _ (hasN_ok h)
/-- where a call begins -/
theorem begins {ms : List (Mem Y.T)} (hml : ms.length = ρ.length) (hol : os.length = ρ.length)
    (hm : ∀ (k : Nat) (x : Mem Y.T) (p : Pl) (o : Option Obj), ms[k]? = some x → ρ[k]? = some p → os[k]? = some o → MemRel hY F ρ x p o) (hst : Gw.St w F D w F (pts ρ os)) : Cy hY 0 w F D [] w F ρ os ⟨[], ms⟩ ⟨#[], []⟩ :=
  ⟨⟨rfl, rfl, fun t x hx => by cases hx⟩, hml, hol, hm, hst, fun k b hb => by simp at hb, Nat.zero_le _⟩
theorem Rels.junkAt {l : List (AV Y.T)} {vs : List Value} (r : Rels Y F ρ l vs) (i : Nat) : Rels Y F ρ (l.set i .junk) vs :=
  ⟨by simp [r.1], fun j x u hx hu => by
    rw [List.getElem?_set] at hx
    split at hx
    · split at hx
      · cases hx; exact .junk
      · cases hx
    · exact r.2 j x u hx hu⟩
theorem copyC_ok {σ : Ren} (L : Lays.n240 P σ) (X : Builder.X72 P σ) (hc : Callable P (σ.f 240)) : COk hY P G (σ.f 240) (copyC Y P (σ.t 72)) := by
  refine ⟨hc, fun {R} args ms r k e w F ρ os vals D hGF hargs hml hol hm hst => ?_⟩
  have h0 := begins hml hol hm hst
  simp only [copyC] at e
  split at e
  · rename_i j off
    split at e
    · rename_i ty l hj
      obtain ⟨hcond, e⟩ := bif_do e
      simp only [Bool.and_eq_true] at hcond
      obtain ⟨hb, hlt, hlies⟩ := hcond
      have hb := hasN_ok hb
      have hlt : off < l.length := Nat.le_of_ble_eq_true hlt
      obtain ⟨u, vr, rfl, hu, hvr⟩ := hargs.inv
      rw [hvr.nil_inv]
      cases hu with
      | @ptr _ _ p hp =>
      obtain ⟨p', o', hp', ho', hmr⟩ := h0.at hj
      rw [hp] at hp'; cases hp'
      obtain ⟨vs, hr, rfl, hbo⟩ := hmr
      have hblk := h0.blk hp ho'
      have hlv : off < vs.length := by rw [hr.1]; exact hlt
      have stay : ∀ (k : Nat) (ty2 : TypeId) (l2 : List (AV Y.T)) (q : Pl), ms[k]? = some (.cells ty2 l2) → ρ[k]? = some q → (∃ ty' l', (ms.set j (.cells ty (l.set off .junk)))[k]? = some (.cells ty' l')) ∧ ∃ p', ρ[k]? = some p' ∧ p'.blk = q.blk := fun k ty2 l2 q h1 h2 => by
        refine ⟨?_, q, h2, rfl⟩
        rw [List.getElem?_set]
        split
        · rename_i ejk
          subst ejk
          rw [if_pos (List.getElem?_eq_some_iff.1 h1).1]
          exact ⟨_, _, rfl⟩
        · exact ⟨_, _, h1⟩
      have ht : Rel Y F ρ (.tup []) (.tuple #[]) := .tup (vs := []) rfl (fun _ _ _ h => by simp at h)
      rcases hbo off hb with hv | hv
      · -- fresh
        have hcell : w.cell? ⟨p.blk, off, none⟩ = some (.pointer none) := cell_of_heap hblk hv
        have hsh : w.shape? p.blk = some (ty, l.length) := by
          unfold World.shape?
          rw [hblk]
          simp [hr.1]
        have hfz : w.frozen? ⟨p.blk, off, none⟩ = false := by
          unfold World.frozen?
          rw [hblk]
          simp
        refine (bld_fresh L X p.blk off ty l.length w hcell hsh hlt hlies hfz).mono fun en w' hh => ?_
        obtain ⟨rfl, rfl⟩ := hh
        have e1 : w.setCell ⟨p.blk, off, none⟩ (.pointer (some ⟨p.blk, off, none⟩)) = w.setCells p.blk off [.pointer (some ⟨p.blk, off, none⟩)] := rfl
        rw [e1]
        obtain ⟨q1, q2, q3, q4, q5⟩ := setCells_os p.blk [.pointer (some ⟨p.blk, off, none⟩)] off w
        have q6 := setCells_block p.blk [.pointer (some ⟨p.blk, off, none⟩)] off w _ hblk (by simp; omega)
        have hrj := hr.junkAt off
        have hr2 : Rels Y F ρ (l.set off .junk) (vs.take off ++ ([.pointer (some ⟨p.blk, off, none⟩)] ++ vs.drop (off + 1))) := by
          refine ⟨by simp [hr.1]; omega, fun i x v hx hv2 => ?_⟩
          by_cases hio : i = off
          · subst hio
            rw [List.getElem?_set, if_pos rfl, if_pos hlt] at hx
            cases hx
            exact .junk
          · refine hrj.2 i x v hx ?_
            rw [← hv2]
            rcases Nat.lt_or_gt_of_ne hio with h1 | h1
            · rw [List.getElem?_append_left (by simp; omega), List.getElem?_take, if_pos h1]
            · rw [List.getElem?_append_right (by simp; omega), List.getElem?_append_right (by simp; omega), List.getElem?_drop]
              congr 1
              simp
              omega
        have hbo2 : BldOk (Y.bld ty) p (vs.take off ++ ([.pointer (some ⟨p.blk, off, none⟩)] ++ vs.drop (off + 1))) := fun b hb2 => by
          by_cases hio : b = off
          · subst hio
            right
            have hl : (vs.take b).length = b := by rw [List.length_take]; omega
            rw [List.getElem?_append_right (by omega), hl, Nat.sub_self]
            rfl
          · have : (vs.take off ++ ([.pointer (some ⟨p.blk, off, none⟩)] ++ vs.drop (off + 1)))[b]? = vs[b]? := by
              rcases Nat.lt_or_gt_of_ne hio with h1 | h1
              · rw [List.getElem?_append_left (by simp; omega), List.getElem?_take, if_pos h1]
              · rw [List.getElem?_append_right (by simp; omega), List.getElem?_append_right (by simp; omega), List.getElem?_drop]
                congr 1
                simp
                omega
            rw [this]
            exact hbo b hb2
        have h2 := h0.setCells (w' := w.setCells p.blk off [.pointer (some ⟨p.blk, off, none⟩)]) (ty' := ty) (cs' := l.set off .junk) hj hp ho' hr2 hbo2 q1 q2 q3 q4 (by simpa using q6) q5
        exact ⟨_, F, ρ, _, _, e, .ret ht, h2.len, h2.lon, h2.mem, h2.st, Nat.le_refl _, stay⟩
      · -- used
        have hcell : w.cell? ⟨p.blk, off, none⟩ = some (.pointer (some ⟨p.blk, off, none⟩)) := cell_of_heap hblk hv
        refine (bld_used L X p.blk off w hcell).mono fun en w' hh => ?_
        obtain ⟨rfl, rfl⟩ := hh
        refine ⟨_, F, ρ, os, _, e, .ret ht, by simp [hml], hol, fun i x q o h1 h2 h3 => ?_, hst, Nat.le_refl _, stay⟩
        rw [List.getElem?_set] at h1
        split at h1
        · rename_i ejk
          subst ejk
          split at h1
          · cases h1
            rw [hp] at h2; cases h2
            rw [ho'] at h3; cases h3
            exact ⟨vs, hr.junkAt off, rfl, hbo⟩
          · cases h1
        · exact hm i x q o h1 h2 h3
    · cases e
  · cases e

/-- the block of an object, or one that there is not -/
def gOf (o : Option Obj) (p : Pl) (w : World) : Nat := match o with
  | some _ => p.blk
  | none => w.heap.size
theorem st_kept {L : List SP} (h : Gw.St w0 F0 D w F L) (k : Kept w.heap.size w w') : Gw.St w0 F0 D w' F L := by
  obtain ⟨k1, k2, k3, k4, k5⟩ := k
  have sub : ∀ {g : Heap}, g.Sub w → g.Sub w' := fun {g} hg => ⟨fun x o e => by
    have hlt := hg.lt e
    rw [k5 x hlt (Nat.ne_of_lt hlt)]; exact hg.out x o e⟩
  obtain ⟨x, a, s1, f, d⟩ := h.own
  exact ⟨k1.trans h.os, k2.trans h.tape, k3.trans h.output, Nat.le_trans h.size k4, fun b hb hD => by
    rw [k5 b (Nat.lt_of_lt_of_le hb h.size) (Nat.ne_of_lt (Nat.lt_of_lt_of_le hb h.size))]; exact h.frame b hb hD, h.le, h.new, sub h.view, x, a, sub s1, f, d⟩
/-- an object is given up -/
theorem Cy.drop (h : Cy hY N w0 F0 D H w F ρ os s a) {q : Nat} {p : Pl} {o : Option Obj} {e : Nat} {xs : List (Y.T e)} (hq : s.m[q]? = some (.arr e xs)) (hp : ρ[q]? = some p) (ho : os[q]? = some o)
    (hk : Kept (gOf o p w) w w') : Cy hY N w0 F0 D H w' F ρ (os.set q none) ⟨s.l, s.m.set q .gone⟩ a := by
  refine ⟨h.e, by simp [h.len], by simp [h.lon], fun j y r t h1 h2 h3 => ?_, ?_, fun j b e => ⟨(h.fix j b e).1, fun y h2 => ?_⟩, h.long⟩
  · rw [List.getElem?_set] at h1 h3
    split at h1
    · rename_i hj
      subst hj
      split at h1
      · cases h1; trivial
      · cases h1
    · rename_i hj
      rw [if_neg hj] at h3
      exact h.mem j y r t h1 h2 h3
  · rw [pts_seto hp]
    refine h.st.replace (A1 := spOf p none) (pts_get hp ho) fun g0 hg0 hs0 => ?_
    cases o with
    | none =>
      obtain ⟨k1, k2, k3, k4, k5⟩ := hk
      exact ⟨k1, k2, k3, k4, fun x hx _ => k5 x hx (Nat.ne_of_lt hx), Heap.nil, rfl, ⟨fun _ _ e => by cases e⟩, fun _ _ e => by cases e⟩
    | some ob =>
      obtain ⟨k1, k2, k3, k4, k5⟩ := hk
      refine ⟨k1, k2, k3, k4, fun x hx hx0 => k5 x hx fun ex => ?_, Heap.nil, rfl, ⟨fun _ _ e => by cases e⟩, fun _ _ e => by cases e⟩
      subst ex
      have hg0 : g0 = Heap.one p.blk ob := hg0
      have h9 : Heap.one p.blk ob p.blk = none := by rw [← hg0]; exact hx0
      rw [Heap.one_self] at h9
      cases h9
  · rw [List.getElem?_set] at h2
    split at h2
    · split at h2 <;> cases h2
      rfl
    · exact (h.fix j b e).2 y h2
theorem castG {β : Type} (hb : β = UInt8) (l : List β) : cast (congrArg List hb) l = l.map (cast hb) := by subst hb; show l = l.map id; simp
theorem strC_ok {σ : Ren} (L : Lays.n169 P σ) (X : Builder.Extra P σ) (hc : Callable P (σ.f 169)) (hsz : Y.sz Y.byt = 1) : COk hY P G (σ.f 169) (strC Y (σ.t 5)) := by
  refine ⟨hc, fun {R} args ms r k e w F ρ os vals D hGF hargs hml hol hm hst => ?_⟩
  have h0 := begins hml hol hm hst
  simp only [strC] at e
  split at e
  · rename_i j off
    obtain ⟨u, vr, rfl, hu, hvr⟩ := hargs.inv
    rw [hvr.nil_inv]
    cases hu with
    | @ptr _ _ p hp =>
    split at e
    · rename_i ty l hj
      obtain ⟨p', o', hp', ho', hmr⟩ := h0.at hj
      rw [hp] at hp'; cases hp'
      obtain ⟨vs, hr, rfl, hbo⟩ := hmr
      have hblk := h0.blk hp ho'
      split at e
      · rename_i q hq
        split at e
        · rename_i e1 xs1 hmq
          split at e
          · rename_i xs hxs
            obtain ⟨hb5, e⟩ := bif_do e
            have hb5 := Nat.eq_of_beq_eq_true hb5
            obtain ⟨pq, oq, hpq, hoq, hmrq⟩ := h0.at hmq
            obtain ⟨uq, huq, hrq⟩ := hr.get hq
            cases hrq with
            | @own _ pl2 hpl2 =>
            rw [hpq] at hpl2; cases hpl2
            obtain ⟨hmpq, hn, hmrq⟩ := hmrq
            have hcell : w.cell? ⟨p.blk, off + 1, none⟩ = some (.slice pq.A pq.n pq.c) := by rw [← Pl.val_sl hmpq]; exact cell_of_heap hblk huq
            have hxe : ∃ he : e1 = Y.byt, he ▸ xs1 = xs := by
              simp only [slAs, hmq] at hxs
              split at hxs
              · rename_i he; exact ⟨he, Option.some.inj hxs⟩
              · cases hxs
            obtain ⟨he, hxs2⟩ := hxe
            subst he
            simp only at hxs2
            subst hxs2
            have fin : ∀ {w' : World} {s : Str}, s = cast (congrArg List Y.isB) xs1 → Kept (gOf oq pq w) w w' → ∃ res F' ρ' os' ms', k res ms' = some r ∧ OutRel Y F' ρ' res (.returned (.string ⟨⟨s⟩⟩)) ∧ ms'.length = ρ'.length ∧ os'.length = ρ'.length ∧
                (∀ (k : Nat) (x : Mem Y.T) (p : Pl) (o : Option Obj), ms'[k]? = some x → ρ'[k]? = some p → os'[k]? = some o → MemRel hY F' ρ' x p o) ∧ Gw.St w F D w' F' (pts ρ' os') ∧ ρ.length ≤ ρ'.length ∧
                ∀ (k : Nat) (ty : TypeId) (l : List (AV Y.T)) (p : Pl), ms[k]? = some (.cells ty l) → ρ[k]? = some p → (∃ ty' l', ms'[k]? = some (.cells ty' l')) ∧ ∃ p', ρ'[k]? = some p' ∧ p'.blk = p.blk := fun {w' s} hs hk => by
              subst hs
              have h2 := h0.drop (w' := w') hmq hpq hoq hk
              refine ⟨_, F, ρ, _, _, e, .ret .v, h2.len, h2.lon, h2.mem, h2.st, Nat.le_refl _, fun i ty2 l2 q2 h3 h4 => ⟨?_, q2, h4, rfl⟩⟩
              show ∃ ty' l', (ms.set q .gone)[i]? = some (.cells ty' l')
              rw [List.getElem?_set]
              split
              · rename_i eqi
                subst eqi
                rw [hmq] at h3; cases h3
              · exact ⟨_, _, h3⟩
            rcases hmrq with ⟨hA, hcc, hx0, rfl⟩ | ⟨cs, hA, rfl, hlc, hcm, hcs, hrow⟩
            · subst hx0
              rw [hA, hcc, hn] at hcell
              exact (bld_string_nil L X p.blk off w.heap.size w hcell).mono fun en w' hh => by
                obtain ⟨rfl, hk⟩ := hh
                exact fin (w' := w') (s := []) (by rw [castG Y.isB]; rfl) hk
            · have hbq := h0.blk hpq hoq
              rw [hA, hn] at hcell
              rw [hb5] at hbq
              by_cases hx0 : xs1 = []
              · subst hx0
                by_cases hc0 : pq.c = 0
                · rw [hc0] at hcell
                  exact (bld_string_noroom L X p.blk off pq.blk pq.blk cs w (Array.getElem?_eq_some_iff.1 hblk).1 hcell hbq).mono fun en w' hh => by
                    obtain ⟨rfl, hk⟩ := hh
                    exact fin (w' := w') (s := []) (by rw [castG Y.isB]; rfl) hk
                · exact (bld_string_room L X p.blk off pq.blk pq.blk pq.c w hc0 hcell).mono fun en w' hh => by
                    obtain ⟨rfl, hk⟩ := hh
                    exact fin (w' := w') (s := []) (by rw [castG Y.isB]; rfl) hk
              · have hln : (cast (congrArg List Y.isB) xs1).length = xs1.length := by rw [castG Y.isB]; simp
                rw [← hln] at hcell
                exact (bld_string_row L X p.blk off pq.blk pq.c cs (cast (congrArg List Y.isB) xs1) w (fun h => hx0 (List.length_eq_zero_iff.1 (by rw [← hln, h]; rfl))) (by rw [hln]; exact hlc) (by rw [hcs, hsz, Nat.mul_one]) hcm hcell hbq (fun i x hx => by
                  rw [castG Y.isB, List.getElem?_map] at hx
                  cases hy : xs1[i]? with
                  | none => rw [hy] at hx; cases hx
                  | some y =>
                    rw [hy] at hx
                    obtain ⟨us, u1, u2⟩ := hrow i y hy
                    have u1 : Rels Y F [] (Y.cells Y.byt y) us := u1
                    rw [hY.byte] at u1
                    obtain ⟨u, ur, rfl, r1, r2⟩ := u1.inv
                    have h3 := u2 0 u rfl
                    have h4 : cs.toList[i]? = some u := by
                      have : i * (kR hY Y.byt).sz + 0 = i := by show i * Y.sz Y.byt + 0 = i; rw [hsz, Nat.mul_one, Nat.add_zero]
                      rw [this] at h3; exact h3
                    rw [Array.getElem?_toList] at h4
                    rw [h4, r1.v_inv]
                    cases hx
                    rfl)).mono fun en w' hh => by
                  obtain ⟨rfl, hk⟩ := hh
                  exact fin (w' := w') (s := cast (congrArg List Y.isB) xs1) rfl hk
          · cases e
        · cases e
      · rename_i hq
        obtain ⟨uq, huq, hrq⟩ := hr.get hq
        cases hrq
        have hcell : w.cell? ⟨p.blk, off + 1, none⟩ = some (.slice none 0 0) := cell_of_heap hblk huq
        exact (bld_string_nil L X p.blk off w.heap.size w hcell).mono fun en w' hh => by
          obtain ⟨rfl, hk⟩ := hh
          exact ⟨_, F, ρ, os, ms, e, .ret .v, hml, hol, hm, st_kept hst hk, Nat.le_refl _, fun i ty2 l2 q2 h3 h4 => ⟨⟨_, _, h3⟩, q2, h4, rfl⟩⟩
      · cases e
    · cases e
  · cases e
end
end Go.Dn

