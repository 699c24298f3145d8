/- A row of this chapter's statements: the law answers true where what is handed in is of bulk at most 1048576, and leaves its arguments as they were. -/
import Derived.Test.YtdapbipagjmolaaGreatDoorMe6
set_option linter.unusedSectionVars false
set_option linter.unusedVariables false
set_option linter.unusedSimpArgs false
set_option linter.unnecessarySimpa false
namespace Go.Proofs.YtdapbipagjmolaaGreatDoor
open Go.Proofs Go.RowKit Go.Deep Go.Dn Go.D08
open Go.ChangeShapes Go.WideShapes Go.ChangeAt
open Go.Proofs.YtdapbipagjmolaaGreatDoor.Rows (uptoBulk uptoBulkAll)
set_option maxRecDepth 100000
theorem own:ownKnob Tryz.prog.godebug=none:=by kernel_rfl
theorem zA7(H:Type)(enc:TypeId×Value->H)(W:World)(base:Nat)(args:Array Value)(ds gs:List (DataW H))(before:List MemPlace)
  (hval: ∀(j:Nat) t v,Tryz.f3.params[j]? =some t->args[j]? =some v->Value.okWide Tryz.prog W .any base t v)
  (hW:DataW.Whole enc Tryz.prog Tryz.f3.params.toList Rows.parseReadsSpec.vars false W args.toList ds gs before) (hB:uptoBulkAll (ds++gs)<=1048576) (hS:W.ShapedOpen Tryz.prog) (hL:laidMetH Tryz.prog zuH W):
  Calls Tryz.prog 3 args W λe W'=>∃v,e= .returned v/\Rows.parseReadsSpec.post enc Tryz.prog Tryz.f3 false true false false W args v W':=by
 have hW':=hW;obtain⟨p,q,hA0,hV,rfl,hfz,hnd⟩:=hW;have hA:DataW.TrodAll enc Tryz.prog W 0 (λ_=>true) true [9] args.toList ds p:=hA0;obtain⟨v0,vs0,d0,ds0,p0,q0,hargs,rfl,rfl,h0,r0⟩:=trodAll_cons hA;obtain⟨rfl,rfl,rfl⟩:=trodAll_nil r0;obtain rfl:args= #[v0]:=by cases args;simp_all
 obtain⟨rfl,rfl⟩:=trodVars_none hV;obtain⟨a0,g0,k0,m0⟩:=zOw (hval 0 9 v0 rfl rfl) h0;simp only[yI,List.nil_append,uptoBulkAll]at hB
 have hlaw:ze6 a0=some (true,()):=by
  have:=zMh a0 (by omega);simpa only[zt]using this
 have hrun:zmc.run [.v (.string ⟨⟨a0⟩⟩)] [] zvh=Option.bind (ze6 a0) λzo=>zDu Y zvh zBR zo:=by kernel_rfl
 have hcalls:=zth.holds (args:=[.v (.string ⟨⟨a0⟩⟩)]) (by rw[hrun,hlaw];rfl) (zRM hS hL) (zad.cons g0 zad.nil)
 refine hcalls.mono λe W' h=>?_
 obtain⟨rfl,hb⟩:=h
 exact⟨.bool true,rfl,zHs (pv:=[]) hW' (λ_ _ _=>trodAll_cons_mk (shut_bool Tryz.underlying4 _) trodAll_mk0) (λsp hsp=>DataW.TrodAll.respare kids full (by decide) (zA2 hb hA0) (λx hx=>hsp x (by simpa using hx)))
  (λ_ _=>rfl) (by simp) hb (ok_one (by kernel_rfl) rfl (okWide_bool_mk Tryz.underlying4 _))⟩
theorem zD5(os:Os){H:Type}(enc:TypeId×Value->H): ∃places,DataW.whole enc Tryz.prog ((laidWorld os).forCall (λ_ _=>0) ⟨#[],#[.string ⟨#[]⟩],[]⟩).memory Tryz.f3.params.toList Rows.parseReadsSpec.vars false (#[.string ⟨#[]⟩]:Array Value).toList 8=some ([.lit (.string [])],[],places):=
 ⟨[],by kernel_rfl⟩
theorem zEW(os:Os):laidMet Tryz.prog Rows.parseReadsUptoRow.laid ((laidWorld os).forCall (λ_ _=>0) ⟨#[],#[.string ⟨#[]⟩],[]⟩).memory:=zNK os _
theorem zDy(os:Os)(started:os.Started)(H:Type)(enc:TypeId×Value->H)(F:Stop.Interp):
  ReturnsInHanded {} Tryz.checked os 3 .any ((Rows.OpenSpec.upto Rows.parseReadsSpec).preRow enc Tryz.prog Tryz.f3 Rows.parseReadsUptoRow.domain false Rows.parseReadsUptoRow.laid) (((Rows.OpenSpec.upto Rows.parseReadsSpec).at F).post enc Tryz.prog Tryz.f3 false true false false):=by
 obtain⟨places,hx⟩:=zD5 os enc
 refine returnsInHanded_of_row (C:=Tryz.checked) (s:=Rows.OpenSpec.upto Rows.parseReadsSpec) own started (by kernel_rfl) Tryz.func3
  (witness_row_atRef (enc:=enc) (C:=Tryz.checked) false (laidWorld os) #[.string ⟨#[]⟩] (World.laidAll_os _ _ _) (zOL os _) (zNd os _) (by kernel_rfl)
   (OpenSpec.preRow_of_cond 8 hx (by kernel_rfl) (λk hk=>by cases hk;kernel_rfl) (by kernel_rfl) (zEW os))) ?_
 intro W base args ds gs before hval hW _ hcond _ hL hS _;exact zA7 H enc W base args ds gs before hval hW (of_decide_eq_true (hcond _ rfl)) hS hL
theorem zEL:Rows.ParseReadsUptoSaid:=
 OpenClaim.holds_of_cond 3 Tryz.f3 rfl rfl rfl rfl rfl rfl rfl ⟨rfl,rfl,rfl,rfl,rfl⟩ rfl rfl rfl rfl rfl (by kernel_rfl) Tryz.func3 (by kernel_rfl)
  (of_decide_eq_true (by kernel_rfl)) (by unfold Func.isWrapper;first| (rw[yL (by decide+kernel)];kernel_rfl)| (rw[yK (by decide+kernel)];exact⟨rfl,rfl⟩))
  (λos started H enc _ F=>by rw[OpenClaim.pre_eq_preRow];exact zDy os started H enc F)
theorem zD0(f:FuncId)(fn:Func)(hf:Tryz.pinned.checked.prog.funcNamed "credenza/credenzalaw08.ParseReads"=some f)(hfn:Tryz.pinned.checked.prog.funcs[f]? =some fn):
  true=Tryz.pinned.checked.prog.looks []/\∀(j:Nat) t,fn.params[j]? =some t->Tryz.pinned.checked.prog.wantsStandIn t=false:=by
 obtain rfl:f=3:=yS ((show Tryz.prog.funcNamed "credenza/credenzalaw08.ParseReads"=some 3 by kernel_rfl).symm.trans hf)|>.symm
 obtain rfl:fn=Tryz.f3:=(yS (Tryz.func3.symm.trans hfn)).symm;refine⟨by kernel_rfl,λj t ht=>?_⟩;rw[Tryz.params3]at ht;have hm:=Array.mem_of_getElem? ht;simp only[List.mem_toArray,yP,List.not_mem_nil,or_false]at hm;obtain rfl:t=9:=by simpa using hm
 exact(show Tryz.prog.wantsStandIn 9=false by kernel_rfl)
theorem parseReads_holds:Rows.ParseReadsUptoCardSaid:=
 Claim7.holds_tied_plain_at .later [] _ _ _ _ zEL (λ_ h=>by cases h) (by kernel_rfl) (λ_ h=>by cases h) parseReadsUpto_row_tie rfl ⟨rfl,rfl⟩ (by kernel_rfl) rfl zD0 (by kernel_rfl)
end Go.Proofs.YtdapbipagjmolaaGreatDoor
