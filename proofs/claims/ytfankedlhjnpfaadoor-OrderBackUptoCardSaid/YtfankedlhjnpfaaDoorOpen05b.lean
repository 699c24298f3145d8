/- Chapter 5: keys that are handed in. -/
import Derived.Test.YtfankedlhjnpfaaDoorOpenS05
import Derived.Test.YtfankedlhjnpfaaDoorOrder8
set_option linter.unusedVariables false
set_option linter.unusedSimpArgs false
set_option linter.unnecessarySimpa false
namespace Go.Gw
open Go.Proofs Go.RowKit Go.Deep
open Go.ChangeShapes Go.WideShapes Go.ChangeAt
open Go.Proofs.YtfankedlhjnpfaaDoor
open Go.Proofs.YtfankedlhjnpfaaDoor.Rows (uptoBulk uptoBulkAll)
set_option linter.unusedSimpArgs false

theorem opens_Part (w : World) : Opens Tryd.prog w kT_api_Part 40 (fun p => (Lit.int .i64 p.N).wf = true ∧ p.S.length ≤ maxLen) (fun p => p.S.length + 1) :=
  ⟨by kernel_rfl, fun {H enc base spare held fuel cs x} h => by
    obtain ⟨xs, n, rfl, rfl, hl, hxs, hf⟩ := DataW.trod_struct Tryd.underlying40 h
    have hl : cs.length = 3 := hl.trans (by kernel_rfl)
    have hxs : xs.length = 3 := hxs
    match cs, hl, xs, hxs with
    | [c0, c1, c2], _, [x0, x1, x2], _ =>
      have h0 : DataW.trod enc Tryd.prog w base spare held n 4 [c0] = some x0 := hf 0 _ rfl
      have h1 : DataW.trod enc Tryd.prog w base spare held n 2 [c1] = some x1 := hf 1 _ rfl
      have h2 : DataW.trod enc Tryd.prog w base spare held n 9 [c2] = some x2 := hf 2 _ rfl
      obtain ⟨b, e0, k0, m0⟩ := (opens_bool Tryd.underlying4 (by kernel_rfl)).opn h0
      obtain ⟨i, e1, k1, m1⟩ := (opens_int Tryd.underlying2 (by kernel_rfl)).opn h1
      obtain ⟨s, e2, k2, m2⟩ := (opens_str Tryd.underlying9 (by kernel_rfl)).opn h2
      cases e0; cases e1; cases e2
      refine ⟨⟨b, i, s⟩, ⟨(), rfl, trivial, trivial, trivial, trivial⟩, ⟨k1, k2⟩, ?_⟩
      have m3 : s.length + 1 ≤ uptoBulk x2.1 := m2
      show s.length + 1 ≤ uptoBulk (.agg [x0.1, x1.1, x2.1])
      simp only [uptoBulk, uptoBulkAll]
      omega⟩
theorem opens_Key (w : World) : Opens Tryd.prog w (kSl kT_api_Part) 22 (fun xs => ∀ x ∈ xs, (Lit.int .i64 x.N).wf = true ∧ x.S.length ≤ maxLen) (fun xs => weight xs + 1) :=
  opens_sl Tryd.underlying22 (by kernel_rfl) (opens_Part w) (by decide)

/-- a key that is handed in -/
theorem open_Key {H : Type} {enc : TypeId × Value → H} {W : World} {base b0 : Nat} {v : Value} {d : DataW H} {ps : List MemPlace} (hval : Value.okWide Tryd.prog W .any b0 22 v) (h : DataW.Trod enc Tryd.prog W base (fun _ => true) true 22 v d ps) :
    ∃ (a : List Part) (A : Option Addr) (c : Nat), v = .slice A a.length c ∧ (SV.sl kT_api_Part a A c).good (heapOf W) ∧ weight a + 1 ≤ uptoBulk d := by
  obtain ⟨n, hn⟩ := h
  obtain ⟨a, ⟨A, c, e, hc, hr⟩, _, m⟩ := (opens_Key W).opn hn
  obtain ⟨A', l', c', rfl⟩ := okWide_slice Tryd.underlying22 hval
  have e' : [Value.slice A' l' c'] = [Value.slice A a.length c] := e
  cases e'
  exact ⟨a, A, c, rfl, ⟨hc, hr⟩, m⟩

theorem glob_of {W : World} (h : W.ShapedOpen Tryd.prog) : Glob (heapOf W) := by
  obtain ⟨m, hm⟩ := Tryd.laysM155.s1_3 W h
  exact ⟨m, cellF_of hm⟩

end Go.Gw
