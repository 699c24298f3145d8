/- Chapter 6: what start-up code laid, as the listed values tell it. -/
import Derived.Test.YtmbdlfemlbbjfaaGreatDoorOpenS06z
import Derived.Test.YtmbdlfemlbbjfaaGreatDoorTokenCz
import Derived.Stop.LaidErr
set_option linter.unusedVariables false
set_option linter.unusedSimpArgs false
set_option linter.unnecessarySimpa false
namespace Go.Gw
open Go.Proofs Go.RowKit Go.Deep
open Go.ChangeShapes Go.WideShapes Go.ChangeAt
open Go.Proofs.YtmbdlfemlbbjfaaGreatDoor.Rows (uptoBulk uptoBulkAll)
open Go.Proofs.YtmbdlfemlbbjfaaGreatDoor
set_option linter.unusedSimpArgs false
set_option maxRecDepth 100000

def laid06 : List (String × DataW Unit) := Rows.tokenBackUptoRow.laid
theorem star : "*" ++ "errors.errorString" = "*errors.errorString" := by decide
theorem row113 (u : TypeId) (h : Tryz.prog.typeName? 3 u = some "*errors.errorString") : u = 113 :=
  typeName_ptr_named (nm := "errors.errorString") (by rw [star]; kernel_rfl) (by kernel_rfl) (by decide) u (by rw [star]; exact h)
theorem err_of {W : World} {name : String} {text : List UInt8} {g : Nat} (hL : laidMetH Tryz.prog laid06 W) (hf : (laid06.filter fun x => x.1 == name) = [(name, .iface "*errors.errorString" (.ptr (.agg [.lit (.string text)])))])
    (hg : Tryz.prog.globalNamed name = some g) (ht : (Tryz.prog.globals[g]?).map (·.type) = some 72) : ∃ t p, cellF (heapOf W) g 0 (.iface t p) := by
  rw [Go.MakeChecks.laidMetH_plain Tryz.prog laid06 W (by kernel_rfl)] at hL
  have h := hL.filter (fun x => x.1 == name)
  rw [hf] at h
  obtain ⟨a, s, hv, _, _, _⟩ := laid_sentinel h hg ht Tryz.underlying72 row113 Tryz.underlying113 Tryz.underlying115 rfl rfl Tryz.underlying9 (by kernel_rfl) (by kernel_rfl)
  have := World.var?_cell hg hv 0
  exact ⟨_, _, cellF_of (v := .iface 113 (.pointer (some a))) (by simpa using this)⟩
theorem glob_of {W : World} (h : W.ShapedOpen Tryz.prog) (hL : laidMetH Tryz.prog laid06 W) : Glob (heapOf W) := by
  obtain ⟨m, hm⟩ := Tryz.laysM219.s1_3 W h
  exact ⟨⟨m, cellF_of hm⟩, err_of (name := "strconv.ErrSyntax") (text := [105, 110, 118, 97, 108, 105, 100, 32, 115, 121, 110, 116, 97, 120]) hL (by kernel_rfl) (by kernel_rfl) (by kernel_rfl), err_of (name := "strconv.ErrRange") (text := [118, 97, 108, 117, 101, 32, 111, 117, 116, 32, 111, 102, 32, 114, 97, 110, 103, 101]) hL (by kernel_rfl) (by kernel_rfl) (by kernel_rfl)⟩
theorem opens_Tok (w : World) : Opens Tryz.prog w kT_api_Token 25 (fun t => t.Num < 9223372036854775808) (fun t => t.Text.length + 1) :=
  ⟨by kernel_rfl, fun {H enc base spare held fuel cs x} h => by
    obtain ⟨xs, n, rfl, rfl, hl, hxs, hf⟩ := DataW.trod_struct Tryz.underlying25 h
    have hl : cs.length = 5 := hl.trans (by kernel_rfl)
    have hxs : xs.length = 5 := hxs
    match cs, hl, xs, hxs with
    | [c0, c1, c2, c3, c4], _, [x0, x1, x2, x3, x4], _ =>
      have h0 : DataW.trod enc Tryz.prog w base spare held n 3 [c0] = some x0 := hf 0 _ rfl
      have h1 : DataW.trod enc Tryz.prog w base spare held n 9 [c1] = some x1 := hf 1 _ rfl
      have h2 : DataW.trod enc Tryz.prog w base spare held n 2 [c2] = some x2 := hf 2 _ rfl
      have h3 : DataW.trod enc Tryz.prog w base spare held n 3 [c3] = some x3 := hf 3 _ rfl
      have h4 : DataW.trod enc Tryz.prog w base spare held n 4 [c4] = some x4 := hf 4 _ rfl
      obtain ⟨i0, e0, k0, m0⟩ := (opens_int Tryz.underlying3 (by kernel_rfl)).opn h0
      obtain ⟨s1, e1, k1, m1⟩ := (opens_str Tryz.underlying9 (by kernel_rfl)).opn h1
      obtain ⟨i2, e2, k2, m2⟩ := (opens_int Tryz.underlying2 (by kernel_rfl)).opn h2
      obtain ⟨i3, e3, k3, m3⟩ := (opens_int Tryz.underlying3 (by kernel_rfl)).opn h3
      obtain ⟨b4, e4, k4, m4⟩ := (opens_bool Tryz.underlying4 (by kernel_rfl)).opn h4
      cases e0; cases e1; cases e2; cases e3; cases e4
      refine ⟨⟨i0, s1, i2, i3, b4⟩, ⟨(), rfl, trivial, trivial, trivial, trivial, trivial, trivial⟩, ?_, ?_⟩
      · simp only [Lit.wf, Bool.and_eq_true, decide_eq_true_eq] at k2
        have e : IntKind.max .i64 = 9223372036854775807 := by decide
        rw [e] at k2
        show i2 < 9223372036854775808
        omega
      · have m3 : s1.length + 1 ≤ uptoBulk x1.1 := m1
        show s1.length + 1 ≤ uptoBulk (.agg [x0.1, x1.1, x2.1, x3.1, x4.1])
        simp only [uptoBulk, uptoBulkAll]
        omega⟩
theorem opens_Toks (w : World) : Opens Tryz.prog w (kSl kT_api_Token) 22 (fun xs => ∀ x ∈ xs, x.Num < 9223372036854775808) (fun xs => (xs.map fun t => t.Text.length + 1).sum + 1) :=
  opens_sl Tryz.underlying22 (by kernel_rfl) (opens_Tok w) (by decide)
theorem sum_each : ∀ (l : List Tok) (n : Nat), (l.map fun t => t.Text.length + 1).sum ≤ n → l.length ≤ n ∧ ∀ t ∈ l, t.Text.length ≤ n
  | [], n, _ => ⟨by simp, fun t h => by cases h⟩
  | t :: l, n, h => by
    simp only [List.map_cons, List.sum_cons] at h
    obtain ⟨h1, h2⟩ := sum_each l (n - (t.Text.length + 1)) (by omega)
    refine ⟨by simp only [List.length_cons]; omega, fun u hu => ?_⟩
    rcases List.mem_cons.1 hu with rfl | hu
    · omega
    · have := h2 u hu; omega
/-- tokens that are handed in -/
theorem open_Toks {H : Type} {enc : TypeId × Value → H} {W : World} {base b0 : Nat} {v : Value} {d : DataW H} {ps : List MemPlace} (hval : Value.okWide Tryz.prog W .any b0 22 v) (h : DataW.Trod enc Tryz.prog W base (fun _ => true) true 22 v d ps) :
    ∃ (a : List Tok) (A : Option Addr) (c : Nat), v = .slice A a.length c ∧ (SV.sl kT_api_Token a A c).good (heapOf W) ∧ (uptoBulk d ≤ 1048576 → a.length ≤ 1048576 ∧ ∀ t ∈ a, t.Text.length ≤ 1048576 ∧ t.Num < 9223372036854775808) := by
  obtain ⟨n, hn⟩ := h
  obtain ⟨a, ⟨A, c, e, hc, hr⟩, hk, m⟩ := (opens_Toks W).opn hn
  obtain ⟨A', l', c', rfl⟩ := okWide_slice Tryz.underlying22 hval
  have e' : [Value.slice A' l' c'] = [Value.slice A a.length c] := e
  cases e'
  have m' : (a.map fun t => t.Text.length + 1).sum + 1 ≤ uptoBulk d := m
  have m2 : (a.map fun t => t.Text.length + 1).sum + 1 ≤ uptoBulk d := m'
  refine ⟨a, A, c, rfl, ⟨hc, hr⟩, fun hB => ?_⟩
  clear m m'
  obtain ⟨h1, h2⟩ := sum_each a 1048576 (Nat.le_trans (Nat.le_of_succ_le m2) hB)
  exact ⟨h1, fun t ht => ⟨h2 t ht, hk t ht⟩⟩
end Go.Gw

