/- The rows of this chapter's statements, the laws being plainly true: each law answers true where what is handed in is of bulk at most 1048576, and leaves its arguments as they were. -/
import Derived.Test.YtmbdlfemlbbjfaaDoorWit06
import Derived.Test.YtmbdlfemlbbjfaaDoorToken10
set_option linter.unusedVariables false
set_option linter.unusedSimpArgs false
set_option linter.unnecessarySimpa false
namespace Go.Proofs.YtmbdlfemlbbjfaaDoor
open Go.Proofs Go.RowKit Go.Deep Go.Gw
open Go.ChangeShapes Go.WideShapes Go.ChangeAt
open Go.Proofs.YtmbdlfemlbbjfaaDoor.Rows (uptoBulk uptoBulkAll)
set_option linter.unusedSimpArgs false
set_option linter.unusedVariables false
set_option maxRecDepth 100000

theorem own : ownKnob Tryd.prog.godebug = none := by kernel_rfl
/-- TokenJoins -/
theorem tokenJoins_contract (H : Type) (enc : TypeId × Value → H) (W : World) (base : Nat) (args : Array Value) (ds gs : List (DataW H)) (before : List MemPlace)
    (hval : ∀ (j : Nat) t v, Tryd.f7.params[j]? = some t → args[j]? = some v → Value.okWide Tryd.prog W .any base t v)
    (hW : DataW.Whole enc Tryd.prog Tryd.f7.params.toList Rows.tokenJoinsSpec.vars false W args.toList ds gs before) (hB : uptoBulkAll (ds ++ gs) ≤ 1048576) (hS : W.ShapedOpen Tryd.prog) (hL : laidMetH Tryd.prog laid06 W) :
    Calls Tryd.prog 7 args W fun e W' => ∃ v, e = .returned v ∧ Rows.tokenJoinsSpec.post enc Tryd.prog Tryd.f7 false true false false W args v W' := by
  have hW' := hW
  obtain ⟨p, q, hA0, hV, rfl, hfz, hnd⟩ := hW
  have hA : DataW.TrodAll enc Tryd.prog W 0 (fun _ => true) true [9, 9] args.toList ds p := hA0
  obtain ⟨v0, vs0, d0, ds0, p0, q0, hargs, rfl, rfl, h0, r0⟩ := trodAll_cons hA
  obtain ⟨v1, vs1, d1, ds1, p1, q1, rfl, rfl, rfl, h1, r1⟩ := trodAll_cons r0
  obtain ⟨rfl, rfl, rfl⟩ := trodAll_nil r1
  obtain rfl : args = #[v0, v1] := by cases args; simp_all
  obtain ⟨rfl, rfl⟩ := trodVars_none hV
  obtain ⟨a0, rfl, m0⟩ := open_Str (hval 0 9 v0 rfl rfl) h0
  obtain ⟨a1, rfl, m1⟩ := open_Str (hval 1 9 v1 rfl rfl) h1
  simp only [List.cons_append, List.nil_append, uptoBulkAll] at hB
  have hcalls := law06_TokenJoins.ok a0 a1 true (law06_TokenJoins_true a0 a1 (by omega) (by omega)) W (heapOf W) (heapOf_sub W) (glob_of hS hL) ⟨trivial, trivial, trivial⟩ (fun _ => 0)
  refine hcalls.mono fun e W' h => ?_
  obtain ⟨F', s, rfl, _, _, hst, rfl⟩ := h
  have hb := hst.below
  exact ⟨.bool true, rfl, post_of_below (pv := []) hW' (fun _ _ _ => trodAll_cons_mk (shut_bool Tryd.underlying4 _) trodAll_mk0) (fun sp hsp => DataW.TrodAll.respare kids full (by decide) (trodAll_below hb hA0) (fun x hx => hsp x (by simpa using hx)))
    (fun _ _ => rfl) (by simp) hb (ok_one (by kernel_rfl) rfl (okWide_bool_mk Tryd.underlying4 _))⟩
theorem tokenJoins_reads (os : Os) {H : Type} (enc : TypeId × Value → H) : ∃ places, DataW.whole enc Tryd.prog ((laidWorld os).forCall (fun _ _ => 0) ⟨#[], #[.string .empty, .string .empty], []⟩).memory Tryd.f7.params.toList Rows.tokenJoinsSpec.vars false (#[.string .empty, .string .empty] : Array Value).toList 8 = some ([.lit (.string []), .lit (.string [])], [], places) :=
  ⟨[], by kernel_rfl⟩
theorem tokenJoins_laid (os : Os) : laidMet Tryd.prog Rows.tokenJoinsUptoRow.laid ((laidWorld os).forCall (fun _ _ => 0) ⟨#[], #[.string .empty, .string .empty], []⟩).memory := wit_laid os _
theorem tokenJoins_lifted (os : Os) (started : os.Started) (H : Type) (enc : TypeId × Value → H) (F : Stop.Interp) :
    ReturnsInHanded {} Tryd.checked os 7 .any ((Rows.OpenSpec.upto Rows.tokenJoinsSpec).preRow enc Tryd.prog Tryd.f7 Rows.tokenJoinsUptoRow.domain false Rows.tokenJoinsUptoRow.laid) (((Rows.OpenSpec.upto Rows.tokenJoinsSpec).at F).post enc Tryd.prog Tryd.f7 false true false false) := by
  obtain ⟨places, hx⟩ := tokenJoins_reads os enc
  refine returnsInHanded_of_row (C := Tryd.checked) (s := Rows.OpenSpec.upto Rows.tokenJoinsSpec) own started (by kernel_rfl) Tryd.func7
    (witness_row_atRef (enc := enc) (C := Tryd.checked) false (laidWorld os) #[.string .empty, .string .empty] (World.laidAll_os _ _ _) (wit_vars os _) (wit_rest os _) (by kernel_rfl)
      (OpenSpec.preRow_of_cond 8 hx (by kernel_rfl) (fun k hk => by cases hk; kernel_rfl) (by kernel_rfl) (tokenJoins_laid os))) ?_
  intro W base args ds gs before hval hW _ hcond _ hL hS _
  exact tokenJoins_contract H enc W base args ds gs before hval hW (of_decide_eq_true (hcond _ rfl)) hS hL
theorem tokenJoins_said : Rows.TokenJoinsUptoSaid :=
  OpenClaim.holds_of_cond 7 Tryd.f7 rfl rfl rfl rfl rfl rfl rfl ⟨rfl, rfl, rfl, rfl, rfl⟩ rfl rfl rfl rfl rfl (by kernel_rfl) Tryd.func7 (by kernel_rfl)
    (of_decide_eq_true (by kernel_rfl)) (by unfold Func.isWrapper; first | (rw [if_pos (by decide +kernel)]; kernel_rfl) | (rw [if_neg (by decide +kernel)]; exact ⟨rfl, rfl⟩))
    (fun os started H enc _ F => by rw [OpenClaim.pre_eq_preRow]; exact tokenJoins_lifted os started H enc F)
theorem tokenJoins_plain (f : FuncId) (fn : Func) (hf : Tryd.pinned.checked.prog.funcNamed "credenza/credenzalaw06.TokenJoins" = some f) (hfn : Tryd.pinned.checked.prog.funcs[f]? = some fn) :
    true = Tryd.pinned.checked.prog.looks [] ∧ ∀ (j : Nat) t, fn.params[j]? = some t → Tryd.pinned.checked.prog.wantsStandIn t = false := by
  obtain rfl : f = 7 := Option.some.inj ((show Tryd.prog.funcNamed "credenza/credenzalaw06.TokenJoins" = some 7 by kernel_rfl).symm.trans hf) |>.symm
  obtain rfl : fn = Tryd.f7 := (Option.some.inj (Tryd.func7.symm.trans hfn)).symm
  refine ⟨by kernel_rfl, fun j t ht => ?_⟩
  rw [Tryd.params7] at ht
  have hm := Array.mem_of_getElem? ht
  simp only [List.mem_toArray, List.mem_cons, List.not_mem_nil, or_false] at hm
  rcases hm with rfl | rfl
  · exact (show Tryd.prog.wantsStandIn 9 = false by kernel_rfl)
  · exact (show Tryd.prog.wantsStandIn 9 = false by kernel_rfl)
theorem tokenJoins_holds : Rows.TokenJoinsUptoCardSaid :=
  Claim7.holds_tied_plain_at .later [] _ _ _ _ tokenJoins_said (fun _ h => by cases h) (by kernel_rfl) (fun _ h => by cases h) tokenJoinsUpto_row_tie rfl ⟨rfl, rfl⟩ (by kernel_rfl) rfl tokenJoins_plain (by kernel_rfl)
end Go.Proofs.YtmbdlfemlbbjfaaDoor
