/- A row of this chapter's statements: the law answers true where what is handed in is of bulk at most 1048576, and leaves its arguments as they were. -/
import Derived.Test.YtdapbipagjmolaaGreatDoorMd6
set_option linter.unusedSectionVars false
set_option linter.unusedVariables false
set_option linter.unusedSimpArgs false
set_option linter.unnecessarySimpa false
namespace Go.Proofs.YtdapbipagjmolaaGreatDoor
open Go.Proofs Go.RowKit Go.Deep Go.Dn Go.D08
open Go.ChangeShapes Go.WideShapes Go.ChangeAt
open Go.Proofs.YtdapbipagjmolaaGreatDoor.Rows (uptoBulk uptoBulkAll)
set_option maxRecDepth 100000
theorem own:ownKnob Tryz.prog.godebug=none:=by kernel_rfl
theorem zs5(H:Type)(enc:TypeId×Value->H)(W:World)(base:Nat)(args:Array Value)(ds gs:List (DataW H))(before:List MemPlace)
  (hval: ∀(j:Nat) t v,Tryz.f4.params[j]? =some t->args[j]? =some v->Value.okWide Tryz.prog W .any base t v)
  (hW:DataW.Whole enc Tryz.prog Tryz.f4.params.toList Rows.parseBlanksSpec.vars false W args.toList ds gs before) (hB:uptoBulkAll (ds++gs)<=1048576) (hS:W.ShapedOpen Tryz.prog) (hL:laidMetH Tryz.prog zoe W):
  Calls Tryz.prog 4 args W λe W'=>∃v,e= .returned v/\Rows.parseBlanksSpec.post enc Tryz.prog Tryz.f4 false true false false W args v W':=by
 have hW':=hW;obtain⟨p,q,hA0,hV,rfl,hfz,hnd⟩:=hW;have hA:DataW.TrodAll enc Tryz.prog W 0 (λ_=>true) true [9,3] args.toList ds p:=hA0;obtain⟨v0,vs0,d0,ds0,p0,q0,hargs,rfl,rfl,h0,r0⟩:=trodAll_cons hA;obtain⟨v1,vs1,d1,ds1,p1,q1,rfl,rfl,rfl,h1,r1⟩:=trodAll_cons r0;obtain⟨rfl,rfl,rfl⟩:=trodAll_nil r1;obtain rfl:args= #[v0,v1]:=by cases args;simp_all
 obtain⟨rfl,rfl⟩:=trodVars_none hV;obtain⟨a0,g0,k0,m0⟩:=zHj (hval 0 9 v0 rfl rfl) h0;obtain⟨a1,g1,k1,m1⟩:=zGV (hval 1 3 v1 rfl rfl) h1;simp only[yI,List.nil_append,uptoBulkAll]at hB
 have hlaw:zcH a0 a1=some (true,()):=by
  have:=zEw a0 a1 (by omega);simpa only[zC]using this
 have hrun:zhk.run [.v (.string ⟨⟨a0⟩⟩),.v (.int .i64 a1)] [] znV=Option.bind (zcH a0 a1) λzo=>zxQ Y znV zuY zo:=by kernel_rfl
 have hcalls:=zl0.holds (args:=[.v (.string ⟨⟨a0⟩⟩),.v (.int .i64 a1)]) (by rw[hrun,hlaw];rfl) (zHZ hS hL) (zF.cons g0 (zF.cons g1 zF.nil))
 refine hcalls.mono λe W' h=>?_
 obtain⟨rfl,hb⟩:=h
 exact⟨.bool true,rfl,zAF (pv:=[]) hW' (λ_ _ _=>trodAll_cons_mk (shut_bool Tryz.underlying4 _) trodAll_mk0) (λsp hsp=>DataW.TrodAll.respare kids full (by decide) (ztZ hb hA0) (λx hx=>hsp x (by simpa using hx)))
  (λ_ _=>rfl) (by simp) hb (ok_one (by kernel_rfl) rfl (okWide_bool_mk Tryz.underlying4 _))⟩
theorem zwF(os:Os){H:Type}(enc:TypeId×Value->H): ∃places,DataW.whole enc Tryz.prog ((laidWorld os).forCall (λ_ _=>0) ⟨#[],#[.string ⟨#[]⟩,.int .i64 0],[]⟩).memory Tryz.f4.params.toList Rows.parseBlanksSpec.vars false (#[.string ⟨#[]⟩,.int .i64 0]:Array Value).toList 8=some ([.lit (.string []),.lit (.int .i64 0)],[],places):=
 ⟨[],by kernel_rfl⟩
theorem zxx(os:Os):laidMet Tryz.prog Rows.parseBlanksUptoRow.laid ((laidWorld os).forCall (λ_ _=>0) ⟨#[],#[.string ⟨#[]⟩,.int .i64 0],[]⟩).memory:=zG5 os _
theorem zvK(os:Os)(started:os.Started)(H:Type)(enc:TypeId×Value->H)(F:Stop.Interp):
  ReturnsInHanded {} Tryz.checked os 4 .any ((Rows.OpenSpec.upto Rows.parseBlanksSpec).preRow enc Tryz.prog Tryz.f4 Rows.parseBlanksUptoRow.domain false Rows.parseBlanksUptoRow.laid) (((Rows.OpenSpec.upto Rows.parseBlanksSpec).at F).post enc Tryz.prog Tryz.f4 false true false false):=by
 obtain⟨places,hx⟩:=zwF os enc
 refine returnsInHanded_of_row (C:=Tryz.checked) (s:=Rows.OpenSpec.upto Rows.parseBlanksSpec) own started (by kernel_rfl) Tryz.func4
  (witness_row_atRef (enc:=enc) (C:=Tryz.checked) false (laidWorld os) #[.string ⟨#[]⟩,.int .i64 0] (World.laidAll_os _ _ _) (zGA os _) (zGW os _) (by kernel_rfl)
   (OpenSpec.preRow_of_cond 8 hx (by kernel_rfl) (λk hk=>by cases hk;kernel_rfl) (by kernel_rfl) (zxx os))) ?_
 intro W base args ds gs before hval hW _ hcond _ hL hS _;exact zs5 H enc W base args ds gs before hval hW (of_decide_eq_true (hcond _ rfl)) hS hL
theorem zxv:Rows.ParseBlanksUptoSaid:=
 OpenClaim.holds_of_cond 4 Tryz.f4 rfl rfl rfl rfl rfl rfl rfl ⟨rfl,rfl,rfl,rfl,rfl⟩ rfl rfl rfl rfl rfl (by kernel_rfl) Tryz.func4 (by kernel_rfl)
  (of_decide_eq_true (by kernel_rfl)) (by unfold Func.isWrapper;first| (rw[yL (by decide+kernel)];kernel_rfl)| (rw[yK (by decide+kernel)];exact⟨rfl,rfl⟩))
  (λos started H enc _ F=>by rw[OpenClaim.pre_eq_preRow];exact zvK os started H enc F)
theorem zwB(f:FuncId)(fn:Func)(hf:Tryz.pinned.checked.prog.funcNamed "credenza/credenzalaw08.ParseBlanks"=some f)(hfn:Tryz.pinned.checked.prog.funcs[f]? =some fn):
  true=Tryz.pinned.checked.prog.looks []/\∀(j:Nat) t,fn.params[j]? =some t->Tryz.pinned.checked.prog.wantsStandIn t=false:=by
 obtain rfl:f=4:=yS ((show Tryz.prog.funcNamed "credenza/credenzalaw08.ParseBlanks"=some 4 by kernel_rfl).symm.trans hf)|>.symm
 obtain rfl:fn=Tryz.f4:=(yS (Tryz.func4.symm.trans hfn)).symm;refine⟨by kernel_rfl,λj t ht=>?_⟩;rw[Tryz.params4]at ht;have hm:=Array.mem_of_getElem? ht;simp only[List.mem_toArray,yP,List.not_mem_nil,or_false]at hm;rcases hm with rfl|rfl
 ·exact(show Tryz.prog.wantsStandIn 9=false by kernel_rfl)
 ·exact(show Tryz.prog.wantsStandIn 3=false by kernel_rfl)
theorem parseBlanks_holds:Rows.ParseBlanksUptoCardSaid:=
 Claim7.holds_tied_plain_at .later [] _ _ _ _ zxv (λ_ h=>by cases h) (by kernel_rfl) (λ_ h=>by cases h) parseBlanksUpto_row_tie rfl ⟨rfl,rfl⟩ (by kernel_rfl) rfl zwB (by kernel_rfl)
end Go.Proofs.YtdapbipagjmolaaGreatDoor
