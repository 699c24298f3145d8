/- A row of this chapter's statements: the law answers true where what is handed in is of bulk at most 1048576, and leaves its arguments as they were. -/
import Derived.Test.YtilkjloabkgpaaaGreatDoorWit07z
import Derived.Test.YtilkjloabkgpaaaGreatDoorP07Cz
set_option linter.unusedVariables false
set_option linter.unusedSimpArgs false
set_option linter.unnecessarySimpa false
namespace Go.Proofs.YtilkjloabkgpaaaGreatDoor
open Go.Proofs Go.RowKit Go.Deep Go.Dn Go.D07
open Go.ChangeShapes Go.WideShapes Go.ChangeAt
open Go.Proofs.YtilkjloabkgpaaaGreatDoor.Rows (uptoBulk uptoBulkAll)
set_option linter.unusedSimpArgs false
set_option linter.unusedVariables false
set_option maxRecDepth 100000

theorem own : ownKnob Tryz.prog.godebug = none := by kernel_rfl
/-- TreeTexts -/
theorem treeTexts_contract (H : Type) (enc : TypeId × Value → H) (W : World) (base : Nat) (args : Array Value) (ds gs : List (DataW H)) (before : List MemPlace)
    (hval : ∀ (j : Nat) t v, Tryz.f4.params[j]? = some t → args[j]? = some v → Value.okWide Tryz.prog W .any base t v)
    (hW : DataW.Whole enc Tryz.prog Tryz.f4.params.toList Rows.treeTextsSpec.vars false W args.toList ds gs before) (hB : uptoBulkAll (ds ++ gs) ≤ 1048576) (hS : W.ShapedOpen Tryz.prog) (hL : laidMetH Tryz.prog laid07 W) :
    Calls Tryz.prog 4 args W fun e W' => ∃ v, e = .returned v ∧ Rows.treeTextsSpec.post enc Tryz.prog Tryz.f4 false true false false W args v W' := by
  have hW' := hW
  obtain ⟨p, q, hA0, hV, rfl, hfz, hnd⟩ := hW
  have hA : DataW.TrodAll enc Tryz.prog W 0 (fun _ => true) true [25] args.toList ds p := hA0
  obtain ⟨v0, vs0, d0, ds0, p0, q0, hargs, rfl, rfl, h0, r0⟩ := trodAll_cons hA
  obtain ⟨rfl, rfl, rfl⟩ := trodAll_nil r0
  obtain rfl : args = #[v0] := by cases args; simp_all
  obtain ⟨rfl, rfl⟩ := trodVars_none hV
  obtain ⟨a0, g0, k0, m0⟩ := open_Node (hval 0 25 v0 rfl rfl) h0
  simp only [List.cons_append, List.nil_append, uptoBulkAll] at hB
  have hlaw : credenzalaw07_TreeTexts (re25 a0) = some (true, ()) := by
    have := Go.D07.W.law07_TreeTexts_true a0 k0 (by omega)
    simpa only [re25_eq] using this
  have hrun : credenzalaw07_TreeTexts_c.run [.agg (Y.cells 25 a0)] [] saysTrue = Option.bind (credenzalaw07_TreeTexts (re25 a0)) fun zo => outK2 Y credenzalaw07_TreeTexts_o zo saysTrue := by kernel_rfl
  have hcalls := credenzalaw07_TreeTexts_ok.holds (args := [.agg (Y.cells 25 a0)]) (by rw [hrun, hlaw]; rfl) (glob_of hS hL) (Rels.cons g0 Rels.nil)
  refine hcalls.mono fun e W' h => ?_
  obtain ⟨rfl, hb⟩ := h
  exact ⟨.bool true, rfl, post_of_below (pv := []) hW' (fun _ _ _ => trodAll_cons_mk (shut_bool Tryz.underlying4 _) trodAll_mk0) (fun sp hsp => DataW.TrodAll.respare kids full (by decide) (trodAll_below hb hA0) (fun x hx => hsp x (by simpa using hx)))
    (fun _ _ => rfl) (by simp) hb (ok_one (by kernel_rfl) rfl (okWide_bool_mk Tryz.underlying4 _))⟩
theorem treeTexts_reads (os : Os) {H : Type} (enc : TypeId × Value → H) : ∃ places, DataW.whole enc Tryz.prog ((laidWorld os).forCall (fun _ _ => 0) ⟨#[], #[.agg #[.int .i64 0, .string ⟨#[]⟩, .int .i64 0, .string ⟨#[]⟩, .slice none 0 0, .slice none 0 0]], []⟩).memory Tryz.f4.params.toList Rows.treeTextsSpec.vars false (#[.agg #[.int .i64 0, .string ⟨#[]⟩, .int .i64 0, .string ⟨#[]⟩, .slice none 0 0, .slice none 0 0]] : Array Value).toList 8 = some ([.agg [.lit (.int .i64 0), .lit (.string []), .lit (.int .i64 0), .lit (.string []), .nil, .nil]], [], places) :=
  ⟨[], by kernel_rfl⟩
theorem treeTexts_laid (os : Os) : laidMet Tryz.prog Rows.treeTextsUptoRow.laid ((laidWorld os).forCall (fun _ _ => 0) ⟨#[], #[.agg #[.int .i64 0, .string ⟨#[]⟩, .int .i64 0, .string ⟨#[]⟩, .slice none 0 0, .slice none 0 0]], []⟩).memory := wit_laid os _
theorem treeTexts_lifted (os : Os) (started : os.Started) (H : Type) (enc : TypeId × Value → H) (F : Stop.Interp) :
    ReturnsInHanded {} Tryz.checked os 4 .any ((Rows.OpenSpec.upto Rows.treeTextsSpec).preRow enc Tryz.prog Tryz.f4 Rows.treeTextsUptoRow.domain false Rows.treeTextsUptoRow.laid) (((Rows.OpenSpec.upto Rows.treeTextsSpec).at F).post enc Tryz.prog Tryz.f4 false true false false) := by
  obtain ⟨places, hx⟩ := treeTexts_reads os enc
  refine returnsInHanded_of_row (C := Tryz.checked) (s := Rows.OpenSpec.upto Rows.treeTextsSpec) own started (by kernel_rfl) Tryz.func4
    (witness_row_atRef (enc := enc) (C := Tryz.checked) false (laidWorld os) #[.agg #[.int .i64 0, .string ⟨#[]⟩, .int .i64 0, .string ⟨#[]⟩, .slice none 0 0, .slice none 0 0]] (World.laidAll_os _ _ _) (wit_vars os _) (wit_rest os _) (by kernel_rfl)
      (OpenSpec.preRow_of_cond 8 hx (by kernel_rfl) (fun k hk => by cases hk; kernel_rfl) (by kernel_rfl) (treeTexts_laid os))) ?_
  intro W base args ds gs before hval hW _ hcond _ hL hS _
  exact treeTexts_contract H enc W base args ds gs before hval hW (of_decide_eq_true (hcond _ rfl)) hS hL
theorem treeTexts_said : Rows.TreeTextsUptoSaid :=
  OpenClaim.holds_of_cond 4 Tryz.f4 rfl rfl rfl rfl rfl rfl rfl ⟨rfl, rfl, rfl, rfl, rfl⟩ rfl rfl rfl rfl rfl (by kernel_rfl) Tryz.func4 (by kernel_rfl)
    (of_decide_eq_true (by kernel_rfl)) (by unfold Func.isWrapper; first | (rw [if_pos (by decide +kernel)]; kernel_rfl) | (rw [if_neg (by decide +kernel)]; exact ⟨rfl, rfl⟩))
    (fun os started H enc _ F => by rw [OpenClaim.pre_eq_preRow]; exact treeTexts_lifted os started H enc F)
theorem treeTexts_plain (f : FuncId) (fn : Func) (hf : Tryz.pinned.checked.prog.funcNamed "credenza/credenzalaw07.TreeTexts" = some f) (hfn : Tryz.pinned.checked.prog.funcs[f]? = some fn) :
    false = Tryz.pinned.checked.prog.looks [] ∧ ∀ (j : Nat) t, fn.params[j]? = some t → Tryz.pinned.checked.prog.wantsStandIn t = false := by
  obtain rfl : f = 4 := Option.some.inj ((show Tryz.prog.funcNamed "credenza/credenzalaw07.TreeTexts" = some 4 by kernel_rfl).symm.trans hf) |>.symm
  obtain rfl : fn = Tryz.f4 := (Option.some.inj (Tryz.func4.symm.trans hfn)).symm
  refine ⟨by kernel_rfl, fun j t ht => ?_⟩
  rw [Tryz.params4] at ht
  have hm := Array.mem_of_getElem? ht
  simp only [List.mem_toArray, List.mem_cons, List.not_mem_nil, or_false] at hm
  obtain rfl : t = 25 := by simpa using hm
  exact (show Tryz.prog.wantsStandIn 25 = false by kernel_rfl)
theorem treeTexts_holds : Rows.TreeTextsUptoCardSaid :=
  Claim7.holds_tied_plain_at .later [] _ _ _ _ treeTexts_said (fun _ h => by cases h) (by kernel_rfl) (fun _ h => by cases h) treeTextsUpto_row_tie rfl ⟨rfl, rfl⟩ (by kernel_rfl) rfl treeTexts_plain (by kernel_rfl)
end Go.Proofs.YtilkjloabkgpaaaGreatDoor
