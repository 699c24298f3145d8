/- A row of this chapter's statements: the law answers true where what is handed in is of bulk at most 1048576, and leaves its arguments as they were. -/
import Derived.Test.YtbicgpcndhppdaaDoorMa2
set_option linter.unusedSectionVars false
set_option linter.unusedVariables false
set_option linter.unusedSimpArgs false
set_option linter.unnecessarySimpa false
namespace Go.Proofs.YtbicgpcndhppdaaDoor
open Go.Proofs Go.RowKit Go.Deep Go.Dn Go.D06f
open Go.ChangeShapes Go.WideShapes Go.ChangeAt
open Go.Proofs.YtbicgpcndhppdaaDoor.Rows (uptoBulk uptoBulkAll)
set_option maxRecDepth 100000
theorem own:ownKnob Tryd.prog.godebug=none:=by kernel_rfl
theorem tokenFresh_contract(H:Type)(enc:TypeId×Value→H)(W:World)(base:Nat)(args:Array Value)(ds gs:List (DataW H))(before:List MemPlace)
  (hval: ∀(j:Nat) t v,Tryd.f3.params[j]? =some t→args[j]? =some v→Value.okWide Tryd.prog W .any base t v)
  (hW:DataW.Whole enc Tryd.prog Tryd.f3.params.toList Rows.tokenFreshSpec.vars false W args.toList ds gs before) (hB:uptoBulkAll (ds++gs)≤1048576) (hS:W.ShapedOpen Tryd.prog) (hL:laidMetH Tryd.prog laid06f W):
  Calls Tryd.prog 3 args W fun e W'=>∃v,e= .returned v∧Rows.tokenFreshSpec.post enc Tryd.prog Tryd.f3 false true false false W args v W':=by
 have hW':=hW
 obtain⟨p,q,hA0,hV,rfl,hfz,hnd⟩:=hW
 have hA:DataW.TrodAll enc Tryd.prog W 0 (fun _=>true) true [9] args.toList ds p:=hA0
 obtain⟨v0,vs0,d0,ds0,p0,q0,hargs,rfl,rfl,h0,r0⟩:=trodAll_cons hA
 obtain⟨rfl,rfl,rfl⟩:=trodAll_nil r0
 obtain rfl:args= #[v0]:=by cases args;simp_all
 obtain⟨rfl,rfl⟩:=trodVars_none hV
 obtain⟨a0,g0,k0,m0⟩:=open_Str (hval 0 9 v0 rfl rfl) h0
 simp only[List.cons_append,List.nil_append,uptoBulkAll]at hB
 have hlaw:credenzalaw06_TokenFresh a0=some (true,()):=by
  have:=fresh_law a0 (by omega)
  simpa only[re28_eq]using this
 have hrun:credenzalaw06_TokenFresh_c.run [.v (.string ⟨⟨a0⟩⟩)] [] saysTrue=Option.bind (credenzalaw06_TokenFresh a0) fun zo=>outK2 Y saysTrue credenzalaw06_TokenFresh_o zo:=by kernel_rfl
 have hcalls:=credenzalaw06_TokenFresh_ok.holds (args:=[.v (.string ⟨⟨a0⟩⟩)]) (by rw[hrun,hlaw];rfl) (glob_of hS hL) (Rels.cons g0 Rels.nil)
 refine hcalls.mono fun e W' h=>?_
 obtain⟨rfl,hb⟩:=h
 exact⟨.bool true,rfl,post_of_below (pv:=[]) hW' (fun _ _ _=>trodAll_cons_mk (shut_bool Tryd.underlying4 _) trodAll_mk0) (fun sp hsp=>DataW.TrodAll.respare kids full (by decide) (trodAll_below hb hA0) (fun x hx=>hsp x (by simpa using hx)))
  (fun _ _=>rfl) (by simp) hb (ok_one (by kernel_rfl) rfl (okWide_bool_mk Tryd.underlying4 _))⟩
theorem tokenFresh_reads(os:Os){H:Type}(enc:TypeId×Value→H): ∃places,DataW.whole enc Tryd.prog ((laidWorld os).forCall (fun _ _=>0) ⟨#[],#[.string ⟨#[]⟩],[]⟩).memory Tryd.f3.params.toList Rows.tokenFreshSpec.vars false (#[.string ⟨#[]⟩]:Array Value).toList 8=some ([.lit (.string [])],[],places):=
 ⟨[],by kernel_rfl⟩
theorem tokenFresh_laid(os:Os):laidMet Tryd.prog Rows.tokenFreshUptoRow.laid ((laidWorld os).forCall (fun _ _=>0) ⟨#[],#[.string ⟨#[]⟩],[]⟩).memory:=wit_laid os _
theorem tokenFresh_lifted(os:Os)(started:os.Started)(H:Type)(enc:TypeId×Value→H)(F:Stop.Interp):
  ReturnsInHanded {} Tryd.checked os 3 .any ((Rows.OpenSpec.upto Rows.tokenFreshSpec).preRow enc Tryd.prog Tryd.f3 Rows.tokenFreshUptoRow.domain false Rows.tokenFreshUptoRow.laid) (((Rows.OpenSpec.upto Rows.tokenFreshSpec).at F).post enc Tryd.prog Tryd.f3 false true false false):=by
 obtain⟨places,hx⟩:=tokenFresh_reads os enc
 refine returnsInHanded_of_row (C:=Tryd.checked) (s:=Rows.OpenSpec.upto Rows.tokenFreshSpec) own started (by kernel_rfl) Tryd.func3
  (witness_row_atRef (enc:=enc) (C:=Tryd.checked) false (laidWorld os) #[.string ⟨#[]⟩] (World.laidAll_os _ _ _) (wit_vars os _) (wit_rest os _) (by kernel_rfl)
   (OpenSpec.preRow_of_cond 8 hx (by kernel_rfl) (fun k hk=>by cases hk;kernel_rfl) (by kernel_rfl) (tokenFresh_laid os))) ?_
 intro W base args ds gs before hval hW _ hcond _ hL hS _
 exact tokenFresh_contract H enc W base args ds gs before hval hW (of_decide_eq_true (hcond _ rfl)) hS hL
theorem tokenFresh_said:Rows.TokenFreshUptoSaid:=
 OpenClaim.holds_of_cond 3 Tryd.f3 rfl rfl rfl rfl rfl rfl rfl ⟨rfl,rfl,rfl,rfl,rfl⟩ rfl rfl rfl rfl rfl (by kernel_rfl) Tryd.func3 (by kernel_rfl)
  (of_decide_eq_true (by kernel_rfl)) (by unfold Func.isWrapper;first| (rw[if_pos (by decide+kernel)];kernel_rfl)| (rw[if_neg (by decide+kernel)];exact⟨rfl,rfl⟩))
  (fun os started H enc _ F=>by rw[OpenClaim.pre_eq_preRow];exact tokenFresh_lifted os started H enc F)
theorem tokenFresh_plain(f:FuncId)(fn:Func)(hf:Tryd.pinned.checked.prog.funcNamed "credenza/credenzalaw06.TokenFresh"=some f)(hfn:Tryd.pinned.checked.prog.funcs[f]? =some fn):
  true=Tryd.pinned.checked.prog.looks []∧∀(j:Nat) t,fn.params[j]? =some t→Tryd.pinned.checked.prog.wantsStandIn t=false:=by
 obtain rfl:f=3:=Option.some.inj ((show Tryd.prog.funcNamed "credenza/credenzalaw06.TokenFresh"=some 3 by kernel_rfl).symm.trans hf)|>.symm
 obtain rfl:fn=Tryd.f3:=(Option.some.inj (Tryd.func3.symm.trans hfn)).symm
 refine⟨by kernel_rfl,fun j t ht=>?_⟩
 rw[Tryd.params3]at ht
 have hm:=Array.mem_of_getElem? ht
 simp only[List.mem_toArray,List.mem_cons,List.not_mem_nil,or_false]at hm
 obtain rfl:t=9:=by simpa using hm
 exact(show Tryd.prog.wantsStandIn 9=false by kernel_rfl)
theorem tokenFresh_holds:Rows.TokenFreshUptoCardSaid:=
 Claim7.holds_tied_plain_at .later [] _ _ _ _ tokenFresh_said (fun _ h=>by cases h) (by kernel_rfl) (fun _ h=>by cases h) tokenFreshUpto_row_tie rfl ⟨rfl,rfl⟩ (by kernel_rfl) rfl tokenFresh_plain (by kernel_rfl)
end Go.Proofs.YtbicgpcndhppdaaDoor
