/- Chapter 13: how a row's arguments are opened as data. -/
import Derived.Test.YtglnkknalibgdaaDoorP13A
import Derived.Test.YtglnkknalibgdaaDoorDnR
import Derived.Shelf.Vars
import Derived.Test.YtglnkknalibgdaaDoorRows
import Derived.Test.YtglnkknalibgdaaDoorCards
import Derived.Test.YtglnkknalibgdaaDoorTie
set_option linter.unusedVariables false
set_option linter.unusedSimpArgs false
set_option linter.unnecessarySimpa false
namespace Go.D13
open Go Go.Gw Go.Dn Go.RowKit Go.Proofs Go.Deep
open Go.Proofs.YtglnkknalibgdaaDoor.Rows (uptoBulk uptoBulkAll)
open Go.Proofs.YtglnkknalibgdaaDoor
open Go.ChangeShapes Go.WideShapes Go.ChangeAt
set_option linter.unusedSimpArgs false
set_option maxRecDepth 100000

theorem bulkAll_sum {H : Type} : ∀ l : List (DataW H), uptoBulkAll l = (l.map uptoBulk).sum
  | [] => by simp [uptoBulkAll]
  | d :: l => by simp [uptoBulkAll, bulkAll_sum l]
theorem bulk_pos {H : Type} (d : DataW H) : 0 < uptoBulk d := by
  match d with
  | .lit l => cases l <;> simp only [uptoBulk] <;> omega
  | .nil | .ptr _ | .slice _ _ | .agg _ | .iface _ _ | .map _ | .held _ => simp only [uptoBulk]; omega
theorem bulk : IsBulk (fun {H} => @uptoBulk H) := ⟨fun ds => by simp only [uptoBulk, bulkAll_sum]; omega, fun es sp => by simp only [uptoBulk, bulkAll_sum]; omega, fun s => by simp only [uptoBulk]; omega, bulk_pos⟩
theorem kids : Kids Tryd.prog (· < Tryd.prog.types.size) := kids_rows (by kernel_rfl) (by kernel_rfl)
theorem full : ∀ t e, t < Tryd.prog.types.size → Tryd.prog.underlying t = some (.slice e) → 0 < Tryd.prog.cellsOf e := slices_full_of Tryd.prog (by kernel_rfl)

abbrev OpD (w : World) {α : Type} (mk : α → List (AV Y.T)) (t : TypeId) (ok : α → Prop) (ms : α → Nat) (N : Nat) : Prop := OpF (fun {H} => @uptoBulk H) Y Tryd.prog w mk t ok ms N
theorem op_Strs (w : World) (N : Nat) : OpD w (fun xs => [.sl 9 xs]) 22 (fun _ => True) (fun xs : List Str => (xs.map fun s => s.length + 1).sum + 1) N := by
  cases N with
  | zero => exact OpF.zero
  | succ N =>
    have h : OpD w (Y.cells 9) 9 (fun s : Str => s.length ≤ maxLen) (fun s : Str => s.length + 1) N := opF_str (Y := Y) bulk Tryd.underlying9
    exact ⟨fun hf ht => by
      obtain ⟨a, h1, h2, h3⟩ := (opF_sl (e' := 9) bulk Tryd.underlying22 (by kernel_rfl) (by decide) h).opn hf ht
      exact ⟨a, h1, trivial, h3⟩⟩
theorem okL_of {l : List Data} (h : ∀ x ∈ l, okD x) : okL l := by
  induction l with
  | nil => trivial
  | cons x r ih => exact ⟨h x List.mem_cons_self, ih fun y hy => h y (List.mem_cons_of_mem _ hy)⟩
theorem bulkL_sum : ∀ l : List Data, bulkL l = (l.map bulkD).sum
  | [] => rfl
  | x :: r => by simp [bulkL, bulkL_sum r]
theorem i64_of {n : Int} (h : (Lit.int .i64 n).wf = true) : -9223372036854775808 ≤ n ∧ n ≤ 9223372036854775807 := by
  simp only [Lit.wf, Bool.and_eq_true, decide_eq_true_eq] at h
  have e1 : IntKind.min .i64 = -9223372036854775808 := by decide
  have e2 : IntKind.max .i64 = 9223372036854775807 := by decide
  rw [e1, e2] at h
  exact ⟨h.1, by omega⟩
theorem op_Data (w : World) : ∀ N : Nat, OpD w (Y.cells 25) 25 okD bulkD N
  | 0 => OpF.zero
  | N + 1 => ⟨fun {H enc base spare held fuel cs x} hfu h => by
    obtain ⟨xs, n, rfl, rfl, hl, hxs, hf⟩ := DataW.trod_struct Tryd.underlying25 h
    have hl : cs.length = 5 := hl.trans (by kernel_rfl)
    have hxs : xs.length = 5 := hxs
    have hn : n ≤ N := by omega
    match cs, hl, xs, hxs with
    | [c0, c1, c2, c3, c4], _, [x0, x1, x2, x3, x4], _ =>
      have h0 : DataW.trod enc Tryd.prog w base spare held n 3 [c0] = some x0 := hf 0 _ rfl
      have h1 : DataW.trod enc Tryd.prog w base spare held n 2 [c1] = some x1 := hf 1 _ rfl
      have h2 : DataW.trod enc Tryd.prog w base spare held n 9 [c2] = some x2 := hf 2 _ rfl
      have h3 : DataW.trod enc Tryd.prog w base spare held n 22 [c3] = some x3 := hf 3 _ rfl
      have h4 : DataW.trod enc Tryd.prog w base spare held n 23 [c4] = some x4 := hf 4 _ rfl
      obtain ⟨a0, r0, k0, m0⟩ := (opF_int (bulk := fun {H} => @uptoBulk H) (Y := Y) (N := N) bulk Tryd.underlying3).opn hn h0
      obtain ⟨a1, r1, k1, m1⟩ := (opF_int (bulk := fun {H} => @uptoBulk H) (Y := Y) (N := N) bulk Tryd.underlying2).opn hn h1
      obtain ⟨a2, r2, k2, m2⟩ := (opF_str (bulk := fun {H} => @uptoBulk H) (Y := Y) (N := N) bulk Tryd.underlying9).opn hn h2
      obtain ⟨a3, r3, k3, m3⟩ := (op_Strs w N).opn hn h3
      obtain ⟨a4, r4, k4, m4⟩ := (opF_sl (bulk := fun {H} => @uptoBulk H) (Y := Y) (e' := 25) bulk Tryd.underlying23 (by kernel_rfl) (by decide) (op_Data w N)).opn (by omega) h4
      have q := r0.append (r1.append (r2.append (r3.append r4)))
      refine ⟨(⟨a0, a1, a2, a3, a4⟩ : Data), q, ⟨i64_of k0, i64_of k1, okL_of k4⟩, ?_⟩
      have hb := bulk.agg (([x0, x1, x2, x3, x4] : List (DataW H × List MemPlace)).map (·.1))
      simp only [List.map_cons, List.map_nil, List.sum_cons, List.sum_nil] at hb
      have e5 : bulkL a4 = (a4.map bulkD).sum := bulkL_sum a4
      have m2 : a2.length + 1 ≤ uptoBulk x2.1 := m2
      have m3 : (a3.map fun s => s.length + 1).sum + 1 ≤ uptoBulk x3.1 := m3
      have m4 : (a4.map bulkD).sum + 1 ≤ uptoBulk x4.1 := m4
      rw [← e5] at m4
      have m0 : 1 ≤ uptoBulk x0.1 := m0
      have m1 : 1 ≤ uptoBulk x1.1 := m1
      show a2.length + (a3.map fun s => s.length + 1).sum + bulkL a4 + 5 ≤ uptoBulk (.agg [x0.1, x1.1, x2.1, x3.1, x4.1])
      omega⟩
/-- data that is handed in -/
theorem open_Data {H : Type} {enc : TypeId × Value → H} {W : World} {base b0 : Nat} {v : Value} {d : DataW H} {ps : List MemPlace} (hval : Value.okWide Tryd.prog W .any b0 25 v) (h : DataW.Trod enc Tryd.prog W base (fun _ => true) true 25 v d ps) :
    ∃ a : Data, Rel Y (heapOf W) [] (.agg (Y.cells 25 a)) v ∧ okD a ∧ bulkD a ≤ uptoBulk d := by
  obtain ⟨n, hn⟩ := h
  obtain ⟨a, h1, h2, h3⟩ := (op_Data W n).opn (Nat.le_refl _) hn
  obtain ⟨cs, rfl, hsz⟩ := okWide_struct Tryd.underlying25 hval
  refine ⟨a, ?_, h2, h3⟩
  have := Rel.agg h1.1 h1.2
  simpa [Value.cells] using this

/-- a string that is handed in -/
theorem open_Str {H : Type} {enc : TypeId × Value → H} {W : World} {base b0 : Nat} {v : Value} {d : DataW H} {ps : List MemPlace} (hval : Value.okWide Tryd.prog W .any b0 9 v) (h : DataW.Trod enc Tryd.prog W base (fun _ => true) true 9 v d ps) :
    ∃ a : Str, Rel Y (heapOf W) [] (.v (.string ⟨⟨a⟩⟩)) v ∧ True ∧ a.length + 1 ≤ uptoBulk d := by
  obtain ⟨n, hn⟩ := h
  obtain ⟨a, h1, h2, h3⟩ := (opF_str (bulk := fun {H} => @uptoBulk H) (Y := Y) (N := n) bulk Tryd.underlying9).opn (Nat.le_refl _) hn
  obtain ⟨s, rfl⟩ := okWide_string Tryd.underlying9 hval
  refine ⟨a, ?_, trivial, h3⟩
  obtain ⟨u, vs, e, q, r⟩ := h1.inv
  simp only [Value.cells] at e
  cases e
  exact q

def laid13 : List (String × DataW Unit) := Rows.jsonWritesUptoRow.laid
def tab64 : List Int := [0, 1, 56, 2, 57, 49, 28, 3, 61, 58, 42, 50, 38, 29, 17, 4, 62, 47, 59, 36, 45, 43, 51, 22, 53, 39, 33, 30, 24, 18, 12, 5, 63, 55, 48, 27, 60, 41, 37, 16, 46, 35, 44, 21, 52, 32, 23, 11, 54, 26, 40, 15, 34, 20, 31, 10, 25, 14, 19, 9, 13, 8, 7, 6]
theorem glob_of {W : World} (h : W.ShapedOpen Tryd.prog) (hL : laidMetH Tryd.prog laid13 W) : Glob (heapOf W) := by
  obtain ⟨m, hm⟩ := cell_of_shapedOpen_int (P := Tryd.prog) (w := W) (g := 0) (t := 3) (zero := #[.int .i64 0]) (k := .i64) h (of_decide_eq_true (by kernel_rfl)) (by kernel_rfl) rfl (by kernel_rfl) (by kernel_rfl) Tryd.underlying3
  have hb := tab_of (name := "math/bits.deBruijn64tab") (k := .u8) (zs := tab64) (g := 3) (t := 106) (e := 5) (n := 64) hL (by kernel_rfl) (by kernel_rfl) (by kernel_rfl) (by kernel_rfl) (by kernel_rfl) (by kernel_rfl) (by kernel_rfl) (by kernel_rfl) W ⟨fun _ _ e => e⟩
  exact ⟨⟨m, cellF_of hm⟩, cellF_of (hb.cell (g := 3) (by kernel_rfl) 15 (by decide)), fun w hs => tab_of (name := "internal/strconv.uint64pow10") (k := .u64) (zs := Lib.pow10Tab) (g := 1) (t := 100) (e := 84) (n := 20) hL (by kernel_rfl) (by kernel_rfl) (by kernel_rfl) (by kernel_rfl) (by kernel_rfl) (by kernel_rfl) (by kernel_rfl) (by kernel_rfl) w hs⟩
end Go.D13
