/- A row of this chapter's statements: the law answers true where what is handed in is of bulk at most 1048576, and leaves its arguments as they were. -/
import Derived.Test.YtdapbipagjmolaaGreatDoorMc5
set_option linter.unusedSectionVars false
set_option linter.unusedVariables false
set_option linter.unusedSimpArgs false
set_option linter.unnecessarySimpa false
namespace Go.Proofs.YtdapbipagjmolaaGreatDoor
open Go.Proofs Go.RowKit Go.Deep Go.Dn Go.D08
open Go.ChangeShapes Go.WideShapes Go.ChangeAt
open Go.Proofs.YtdapbipagjmolaaGreatDoor.Rows (uptoBulk uptoBulkAll)
set_option maxRecDepth 100000
theorem own:ownKnob Tryz.prog.godebug=none:=by kernel_rfl
theorem zr5(H:Type)(enc:TypeId×Value->H)(W:World)(base:Nat)(args:Array Value)(ds gs:List (DataW H))(before:List MemPlace)
  (hval: ∀(j:Nat) t v,Tryz.f5.params[j]? =some t->args[j]? =some v->Value.okWide Tryz.prog W .any base t v)
  (hW:DataW.Whole enc Tryz.prog Tryz.f5.params.toList Rows.parseJoinsSpec.vars false W args.toList ds gs before) (hB:uptoBulkAll (ds++gs)<=1048576) (hS:W.ShapedOpen Tryz.prog) (hL:laidMetH Tryz.prog zmH W):
  Calls Tryz.prog 5 args W λe W'=>∃v,e= .returned v/\Rows.parseJoinsSpec.post enc Tryz.prog Tryz.f5 false true false false W args v W':=by
 have hW':=hW;obtain⟨p,q,hA0,hV,rfl,hfz,hnd⟩:=hW;have hA:DataW.TrodAll enc Tryz.prog W 0 (λ_=>true) true [9,9] args.toList ds p:=hA0;obtain⟨v0,vs0,d0,ds0,p0,q0,hargs,rfl,rfl,h0,r0⟩:=trodAll_cons hA;obtain⟨v1,vs1,d1,ds1,p1,q1,rfl,rfl,rfl,h1,r1⟩:=trodAll_cons r0;obtain⟨rfl,rfl,rfl⟩:=trodAll_nil r1;obtain rfl:args= #[v0,v1]:=by cases args;simp_all
 obtain⟨rfl,rfl⟩:=trodVars_none hV;obtain⟨a0,g0,k0,m0⟩:=zx9 (hval 0 9 v0 rfl rfl) h0;obtain⟨a1,g1,k1,m1⟩:=zx9 (hval 1 9 v1 rfl rfl) h1;simp only[yI,List.nil_append,uptoBulkAll]at hB
 have hlaw:zcm a0 a1=some (true,()):=by
  have:=zBJ a0 a1 (by omega) (by omega);simpa only[zC]using this
 have hrun:zgW.run [.v (.string ⟨⟨a0⟩⟩),.v (.string ⟨⟨a1⟩⟩)] [] zmG=Option.bind (zcm a0 a1) λzo=>zvt Y zmG zrK zo:=by kernel_rfl
 have hcalls:=zlB.holds (args:=[.v (.string ⟨⟨a0⟩⟩),.v (.string ⟨⟨a1⟩⟩)]) (by rw[hrun,hlaw];rfl) (zG8 hS hL) (zH.cons g0 (zH.cons g1 zH.nil))
 refine hcalls.mono λe W' h=>?_
 obtain⟨rfl,hb⟩:=h
 exact⟨.bool true,rfl,zxB (pv:=[]) hW' (λ_ _ _=>trodAll_cons_mk (shut_bool Tryz.underlying4 _) trodAll_mk0) (λsp hsp=>DataW.TrodAll.respare kids full (by decide) (zrD hb hA0) (λx hx=>hsp x (by simpa using hx)))
  (λ_ _=>rfl) (by simp) hb (ok_one (by kernel_rfl) rfl (okWide_bool_mk Tryz.underlying4 _))⟩
theorem zux(os:Os){H:Type}(enc:TypeId×Value->H): ∃places,DataW.whole enc Tryz.prog ((laidWorld os).forCall (λ_ _=>0) ⟨#[],#[.string ⟨#[]⟩,.string ⟨#[]⟩],[]⟩).memory Tryz.f5.params.toList Rows.parseJoinsSpec.vars false (#[.string ⟨#[]⟩,.string ⟨#[]⟩]:Array Value).toList 8=some ([.lit (.string []),.lit (.string [])],[],places):=
 ⟨[],by kernel_rfl⟩
theorem zuV(os:Os):laidMet Tryz.prog Rows.parseJoinsUptoRow.laid ((laidWorld os).forCall (λ_ _=>0) ⟨#[],#[.string ⟨#[]⟩,.string ⟨#[]⟩],[]⟩).memory:=zEh os _
theorem zt2(os:Os)(started:os.Started)(H:Type)(enc:TypeId×Value->H)(F:Stop.Interp):
  ReturnsInHanded {} Tryz.checked os 5 .any ((Rows.OpenSpec.upto Rows.parseJoinsSpec).preRow enc Tryz.prog Tryz.f5 Rows.parseJoinsUptoRow.domain false Rows.parseJoinsUptoRow.laid) (((Rows.OpenSpec.upto Rows.parseJoinsSpec).at F).post enc Tryz.prog Tryz.f5 false true false false):=by
 obtain⟨places,hx⟩:=zux os enc
 refine returnsInHanded_of_row (C:=Tryz.checked) (s:=Rows.OpenSpec.upto Rows.parseJoinsSpec) own started (by kernel_rfl) Tryz.func5
  (witness_row_atRef (enc:=enc) (C:=Tryz.checked) false (laidWorld os) #[.string ⟨#[]⟩,.string ⟨#[]⟩] (World.laidAll_os _ _ _) (zEB os _) (zDx os _) (by kernel_rfl)
   (OpenSpec.preRow_of_cond 8 hx (by kernel_rfl) (λk hk=>by cases hk;kernel_rfl) (by kernel_rfl) (zuV os))) ?_
 intro W base args ds gs before hval hW _ hcond _ hL hS _;exact zr5 H enc W base args ds gs before hval hW (of_decide_eq_true (hcond _ rfl)) hS hL
theorem zvo:Rows.ParseJoinsUptoSaid:=
 OpenClaim.holds_of_cond 5 Tryz.f5 rfl rfl rfl rfl rfl rfl rfl ⟨rfl,rfl,rfl,rfl,rfl⟩ rfl rfl rfl rfl rfl (by kernel_rfl) Tryz.func5 (by kernel_rfl)
  (of_decide_eq_true (by kernel_rfl)) (by unfold Func.isWrapper;first| (rw[yL (by decide+kernel)];kernel_rfl)| (rw[yK (by decide+kernel)];exact⟨rfl,rfl⟩))
  (λos started H enc _ F=>by rw[OpenClaim.pre_eq_preRow];exact zt2 os started H enc F)
theorem zus(f:FuncId)(fn:Func)(hf:Tryz.pinned.checked.prog.funcNamed "credenza/credenzalaw08.ParseJoins"=some f)(hfn:Tryz.pinned.checked.prog.funcs[f]? =some fn):
  true=Tryz.pinned.checked.prog.looks []/\∀(j:Nat) t,fn.params[j]? =some t->Tryz.pinned.checked.prog.wantsStandIn t=false:=by
 obtain rfl:f=5:=yS ((show Tryz.prog.funcNamed "credenza/credenzalaw08.ParseJoins"=some 5 by kernel_rfl).symm.trans hf)|>.symm
 obtain rfl:fn=Tryz.f5:=(yS (Tryz.func5.symm.trans hfn)).symm;refine⟨by kernel_rfl,λj t ht=>?_⟩;rw[Tryz.params5]at ht;have hm:=Array.mem_of_getElem? ht;simp only[List.mem_toArray,yP,List.not_mem_nil,or_false]at hm;obtain rfl:t=9:=by simpa using hm
 exact(show Tryz.prog.wantsStandIn 9=false by kernel_rfl)
theorem parseJoins_holds:Rows.ParseJoinsUptoCardSaid:=
 Claim7.holds_tied_plain_at .later [] _ _ _ _ zvo (λ_ h=>by cases h) (by kernel_rfl) (λ_ h=>by cases h) parseJoinsUpto_row_tie rfl ⟨rfl,rfl⟩ (by kernel_rfl) rfl zus (by kernel_rfl)
end Go.Proofs.YtdapbipagjmolaaGreatDoor
