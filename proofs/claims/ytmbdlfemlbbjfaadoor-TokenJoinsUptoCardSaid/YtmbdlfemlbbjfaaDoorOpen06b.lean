/- Chapter 6: what start-up code laid, as the listed values tell it. -/
import Derived.Test.YtmbdlfemlbbjfaaDoorOpenS06
import Derived.Test.YtmbdlfemlbbjfaaDoorG06x3
import Derived.Stop.LaidErr
set_option linter.unusedVariables false
set_option linter.unusedSimpArgs false
set_option linter.unnecessarySimpa false
namespace Go.Gw
open Go.Proofs Go.RowKit Go.Deep
open Go.Proofs.YtmbdlfemlbbjfaaDoor
set_option linter.unusedSimpArgs false
set_option maxRecDepth 100000

def laid06 : List (String × DataW Unit) := Rows.tokenWordsUptoRow.laid
theorem star : "*" ++ "errors.errorString" = "*errors.errorString" := by decide
theorem row105 (u : TypeId) (h : Tryd.prog.typeName? 3 u = some "*errors.errorString") : u = 105 :=
  typeName_ptr_named (nm := "errors.errorString") (by rw [star]; kernel_rfl) (by kernel_rfl) (by decide) u (by rw [star]; exact h)
theorem err_of {W : World} {name : String} {text : List UInt8} {g : Nat} (hL : laidMetH Tryd.prog laid06 W) (hf : (laid06.filter fun x => x.1 == name) = [(name, .iface "*errors.errorString" (.ptr (.agg [.lit (.string text)])))])
    (hg : Tryd.prog.globalNamed name = some g) (ht : (Tryd.prog.globals[g]?).map (·.type) = some 61) : ∃ t p, cellF (heapOf W) g 0 (.iface t p) := by
  rw [Go.MakeChecks.laidMetH_plain Tryd.prog laid06 W (by kernel_rfl)] at hL
  have h := hL.filter (fun x => x.1 == name)
  rw [hf] at h
  obtain ⟨a, s, hv, _, _, _⟩ := laid_sentinel h hg ht Tryd.underlying61 row105 Tryd.underlying105 Tryd.underlying107 rfl rfl Tryd.underlying9 (by kernel_rfl) (by kernel_rfl)
  have := World.var?_cell hg hv 0
  exact ⟨_, _, cellF_of (v := .iface 105 (.pointer (some a))) (by simpa using this)⟩
theorem glob_of {W : World} (h : W.ShapedOpen Tryd.prog) (hL : laidMetH Tryd.prog laid06 W) : Glob (heapOf W) := by
  obtain ⟨m, hm⟩ := Tryd.laysM219.s1_3 W h
  exact ⟨⟨m, cellF_of hm⟩, err_of (name := "strconv.ErrSyntax") (text := [105, 110, 118, 97, 108, 105, 100, 32, 115, 121, 110, 116, 97, 120]) hL (by kernel_rfl) (by kernel_rfl) (by kernel_rfl), err_of (name := "strconv.ErrRange") (text := [118, 97, 108, 117, 101, 32, 111, 117, 116, 32, 111, 102, 32, 114, 97, 110, 103, 101]) hL (by kernel_rfl) (by kernel_rfl) (by kernel_rfl)⟩
end Go.Gw
