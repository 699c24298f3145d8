/- A row of this chapter's statements: the law answers true where what is handed in is of bulk at most 1048576, and leaves its arguments as they were. -/
import Derived.Test.YtilkjloabkgpaaaDoorWit07
import Derived.Test.YtilkjloabkgpaaaDoorP07B
set_option linter.unusedVariables false
set_option linter.unusedSimpArgs false
set_option linter.unnecessarySimpa false
namespace Go.Proofs.YtilkjloabkgpaaaDoor
open Go.Proofs Go.RowKit Go.Deep Go.Dn Go.D07
open Go.ChangeShapes Go.WideShapes Go.ChangeAt
open Go.Proofs.YtilkjloabkgpaaaDoor.Rows (uptoBulk uptoBulkAll)
set_option linter.unusedSimpArgs false
set_option linter.unusedVariables false
set_option maxRecDepth 100000

theorem own : ownKnob Tryd.prog.godebug = none := by kernel_rfl
/-- TreeJoins -/
theorem treeJoins_contract (H : Type) (enc : TypeId × Value → H) (W : World) (base : Nat) (args : Array Value) (ds gs : List (DataW H)) (before : List MemPlace)
    (hval : ∀ (j : Nat) t v, Tryd.f5.params[j]? = some t → args[j]? = some v → Value.okWide Tryd.prog W .any base t v)
    (hW : DataW.Whole enc Tryd.prog Tryd.f5.params.toList Rows.treeJoinsSpec.vars false W args.toList ds gs before) (hB : uptoBulkAll (ds ++ gs) ≤ 1048576) (hS : W.ShapedOpen Tryd.prog) (hL : laidMetH Tryd.prog laid07 W) :
    Calls Tryd.prog 5 args W fun e W' => ∃ v, e = .returned v ∧ Rows.treeJoinsSpec.post enc Tryd.prog Tryd.f5 false true false false W args v W' := by
  have hW' := hW
  obtain ⟨p, q, hA0, hV, rfl, hfz, hnd⟩ := hW
  have hA : DataW.TrodAll enc Tryd.prog W 0 (fun _ => true) true [25, 25] args.toList ds p := hA0
  obtain ⟨v0, vs0, d0, ds0, p0, q0, hargs, rfl, rfl, h0, r0⟩ := trodAll_cons hA
  obtain ⟨v1, vs1, d1, ds1, p1, q1, rfl, rfl, rfl, h1, r1⟩ := trodAll_cons r0
  obtain ⟨rfl, rfl, rfl⟩ := trodAll_nil r1
  obtain rfl : args = #[v0, v1] := by cases args; simp_all
  obtain ⟨rfl, rfl⟩ := trodVars_none hV
  obtain ⟨a0, g0, k0, m0⟩ := open_Node (hval 0 25 v0 rfl rfl) h0
  obtain ⟨a1, g1, k1, m1⟩ := open_Node (hval 1 25 v1 rfl rfl) h1
  simp only [List.cons_append, List.nil_append, uptoBulkAll] at hB
  have hlaw : credenzalaw07_TreeJoins (re25 a0) (re25 a1) = some (true, ()) := by
    have := law07_TreeJoins_true a0 a1 k0 k1 (by omega)
    simpa only [re25_eq] using this
  have hrun : credenzalaw07_TreeJoins_c.run [.agg (Y.cells 25 a0), .agg (Y.cells 25 a1)] [] saysTrue = Option.bind (credenzalaw07_TreeJoins (re25 a0) (re25 a1)) fun zo => outK2 Y credenzalaw07_TreeJoins_o zo saysTrue := by kernel_rfl
  have hcalls := credenzalaw07_TreeJoins_ok.holds (args := [.agg (Y.cells 25 a0), .agg (Y.cells 25 a1)]) (by rw [hrun, hlaw]; rfl) (glob_of hS hL) (Rels.cons g0 (Rels.cons g1 Rels.nil))
  refine hcalls.mono fun e W' h => ?_
  obtain ⟨rfl, hb⟩ := h
  exact ⟨.bool true, rfl, post_of_below (pv := []) hW' (fun _ _ _ => trodAll_cons_mk (shut_bool Tryd.underlying4 _) trodAll_mk0) (fun sp hsp => DataW.TrodAll.respare kids full (by decide) (trodAll_below hb hA0) (fun x hx => hsp x (by simpa using hx)))
    (fun _ _ => rfl) (by simp) hb (ok_one (by kernel_rfl) rfl (okWide_bool_mk Tryd.underlying4 _))⟩
theorem treeJoins_reads (os : Os) {H : Type} (enc : TypeId × Value → H) : ∃ places, DataW.whole enc Tryd.prog ((laidWorld os).forCall (fun _ _ => 0) ⟨#[], #[.agg #[.int .i64 0, .string ⟨#[]⟩, .int .i64 0, .string ⟨#[]⟩, .slice none 0 0, .slice none 0 0], .agg #[.int .i64 0, .string ⟨#[]⟩, .int .i64 0, .string ⟨#[]⟩, .slice none 0 0, .slice none 0 0]], []⟩).memory Tryd.f5.params.toList Rows.treeJoinsSpec.vars false (#[.agg #[.int .i64 0, .string ⟨#[]⟩, .int .i64 0, .string ⟨#[]⟩, .slice none 0 0, .slice none 0 0], .agg #[.int .i64 0, .string ⟨#[]⟩, .int .i64 0, .string ⟨#[]⟩, .slice none 0 0, .slice none 0 0]] : Array Value).toList 8 = some ([.agg [.lit (.int .i64 0), .lit (.string []), .lit (.int .i64 0), .lit (.string []), .nil, .nil], .agg [.lit (.int .i64 0), .lit (.string []), .lit (.int .i64 0), .lit (.string []), .nil, .nil]], [], places) :=
  ⟨[], by kernel_rfl⟩
theorem treeJoins_laid (os : Os) : laidMet Tryd.prog Rows.treeJoinsUptoRow.laid ((laidWorld os).forCall (fun _ _ => 0) ⟨#[], #[.agg #[.int .i64 0, .string ⟨#[]⟩, .int .i64 0, .string ⟨#[]⟩, .slice none 0 0, .slice none 0 0], .agg #[.int .i64 0, .string ⟨#[]⟩, .int .i64 0, .string ⟨#[]⟩, .slice none 0 0, .slice none 0 0]], []⟩).memory := wit_laid os _
theorem treeJoins_lifted (os : Os) (started : os.Started) (H : Type) (enc : TypeId × Value → H) (F : Stop.Interp) :
    ReturnsInHanded {} Tryd.checked os 5 .any ((Rows.OpenSpec.upto Rows.treeJoinsSpec).preRow enc Tryd.prog Tryd.f5 Rows.treeJoinsUptoRow.domain false Rows.treeJoinsUptoRow.laid) (((Rows.OpenSpec.upto Rows.treeJoinsSpec).at F).post enc Tryd.prog Tryd.f5 false true false false) := by
  obtain ⟨places, hx⟩ := treeJoins_reads os enc
  refine returnsInHanded_of_row (C := Tryd.checked) (s := Rows.OpenSpec.upto Rows.treeJoinsSpec) own started (by kernel_rfl) Tryd.func5
    (witness_row_atRef (enc := enc) (C := Tryd.checked) false (laidWorld os) #[.agg #[.int .i64 0, .string ⟨#[]⟩, .int .i64 0, .string ⟨#[]⟩, .slice none 0 0, .slice none 0 0], .agg #[.int .i64 0, .string ⟨#[]⟩, .int .i64 0, .string ⟨#[]⟩, .slice none 0 0, .slice none 0 0]] (World.laidAll_os _ _ _) (wit_vars os _) (wit_rest os _) (by kernel_rfl)
      (OpenSpec.preRow_of_cond 8 hx (by kernel_rfl) (fun k hk => by cases hk; kernel_rfl) (by kernel_rfl) (treeJoins_laid os))) ?_
  intro W base args ds gs before hval hW _ hcond _ hL hS _
  exact treeJoins_contract H enc W base args ds gs before hval hW (of_decide_eq_true (hcond _ rfl)) hS hL
theorem treeJoins_said : Rows.TreeJoinsUptoSaid :=
  OpenClaim.holds_of_cond 5 Tryd.f5 rfl rfl rfl rfl rfl rfl rfl ⟨rfl, rfl, rfl, rfl, rfl⟩ rfl rfl rfl rfl rfl (by kernel_rfl) Tryd.func5 (by kernel_rfl)
    (of_decide_eq_true (by kernel_rfl)) (by unfold Func.isWrapper; first | (rw [if_pos (by decide +kernel)]; kernel_rfl) | (rw [if_neg (by decide +kernel)]; exact ⟨rfl, rfl⟩))
    (fun os started H enc _ F => by rw [OpenClaim.pre_eq_preRow]; exact treeJoins_lifted os started H enc F)
theorem treeJoins_plain (f : FuncId) (fn : Func) (hf : Tryd.pinned.checked.prog.funcNamed "credenza/credenzalaw07.TreeJoins" = some f) (hfn : Tryd.pinned.checked.prog.funcs[f]? = some fn) :
    false = Tryd.pinned.checked.prog.looks [] ∧ ∀ (j : Nat) t, fn.params[j]? = some t → Tryd.pinned.checked.prog.wantsStandIn t = false := by
  obtain rfl : f = 5 := Option.some.inj ((show Tryd.prog.funcNamed "credenza/credenzalaw07.TreeJoins" = some 5 by kernel_rfl).symm.trans hf) |>.symm
  obtain rfl : fn = Tryd.f5 := (Option.some.inj (Tryd.func5.symm.trans hfn)).symm
  refine ⟨by kernel_rfl, fun j t ht => ?_⟩
  rw [Tryd.params5] at ht
  have hm := Array.mem_of_getElem? ht
  simp only [List.mem_toArray, List.mem_cons, List.not_mem_nil, or_false] at hm
  obtain rfl : t = 25 := by simpa using hm
  exact (show Tryd.prog.wantsStandIn 25 = false by kernel_rfl)
theorem treeJoins_holds : Rows.TreeJoinsUptoCardSaid :=
  Claim7.holds_tied_plain_at .later [] _ _ _ _ treeJoins_said (fun _ h => by cases h) (by kernel_rfl) (fun _ h => by cases h) treeJoinsUpto_row_tie rfl ⟨rfl, rfl⟩ (by kernel_rfl) rfl treeJoins_plain (by kernel_rfl)
end Go.Proofs.YtilkjloabkgpaaaDoor
