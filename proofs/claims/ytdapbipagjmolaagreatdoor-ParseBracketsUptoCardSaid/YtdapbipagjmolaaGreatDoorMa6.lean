/- Texts for a statement of this seat. -/
import Derived.Test.YtdapbipagjmolaaGreatDoorMa5
import Derived.Lib.ItoaLen
import Derived.ProofKit
import Derived.OpenShut
import Derived.Deep.DeepHandedRow
import Derived.Lib.LaidTab
import Derived.Deep.Slices
import Derived.ChangeShapes
import Derived.DataReads
import Derived.LaidSub
import Derived.MakeChecks
import Derived.Lay
import Derived.Deep.DeepWitnessRowRef
import Derived.Stop.LaidErr
import Derived.Test.YtdapbipagjmolaaGreatDoorRows
import Derived.Test.YtdapbipagjmolaaGreatDoorCards
import Derived.Test.YtdapbipagjmolaaGreatDoorTie
set_option linter.unusedSectionVars false
set_option linter.unusedVariables false
set_option linter.unusedSimpArgs false
set_option linter.unnecessarySimpa false
namespace Go.D08
open Go Go.Gw Go.Dn
set_option maxRecDepth 100000
theorem zon{b:Node}(h:b.Kind=25):zbf b=b:=by unfold zbf;rw[yL (by rw[h];rfl)]
theorem zJr: ∀{l:List Node} {e:Nat},ziG l e=true->e<2
 | [],e,h=>by simpa [ziG]using h
 |k::r,e,h=>by
  simp only[ziG,qz4]at h;have:=zJr h.2;split at this<;>omega
theorem zrb{a:Node}(he:zcu a.Kind=true):(a.Kind==42)=false/\(a.Kind==22)=false/\(a.Kind !=42)=true:=by
 rcases zgz he with h|h|h|h|h|h|h|h|h|h|h|h|h|h|h|h|h|h|h|h<;>rw[h]<;>decide
theorem zqm{a:Node}(he:zcu a.Kind=true)(least:Int)(no:Bool):zaG (tkN a) least no=atT (tkN a) least no:=by
 unfold zaG;rw[zdC,(zrb he).1,(zrb he).2.1];rfl
theorem zwA{a:Node}(h:a.Kind=42)(least:Int)(no:Bool):zaG (tkN a) least no=[]:=by
 unfold zaG;rw[zdC,h];rfl
theorem zzL{a:Node}(h:a.Kind=22)(least:Int)(no:Bool):zaG (tkN a) least no=[118,97,114]::commas (declT no) (tkL a.L):=by
 unfold zaG;rw[zdC,zjH,h];rfl
section
variable (c:Str->Tok)
structure BK (b:Node):Prop where
 kind:b.Kind=25
 bl: ∀r,BLOCK (T c (tkN b).st++r) (b,r)
variable {c:Str->Tok}
variable (C:Cls c)
include C
theorem BK.st{b:Node}(B:BK c b)(r:zB):zem (T c (tkN b).st++r) (b,r):=by
 have:=B.bl r;rw[zC0 B.kind]at this⊢;exact zOA (zai C (by decide)) this
theorem zFL{a:Node}(h:a=nd 42 []\/(zcu a.Kind=true/\RT c a))(w:Str)(hw:w=[59]\/w=[41])(r:zB):TILL w (T c (zaG (tkN a) 0 false)++c w::r) (a,r):=by
 have ho:zgh.contains w=true:=by rcases hw with rfl|rfl<;>decide
 have o:=zai C ho;rcases h with h| ⟨he,R⟩
 ·rw[zwA (by rw[h];rfl)]
  rw[h];exact zMg (by show tIs w (c w::r)=true;rw[o.is];simp)
 ·rw[zqm he];have hb:=zli C R 0 false (c w::r);exact zUI (t1:=c w::r) (hb.is (by rcases hw with rfl|rfl<;>decide)) (at_end C R false w r (by rcases hw with rfl|rfl<;>decide) ho 0) (by rw[o.is];simp)
theorem zWx{x:Node}(h:x.Kind=22)(V:VD c x):SR c x:=by
 have o:=zai C (w:=[118,97,114]) (by decide);have oe:=zai C (w:=[59]) (by decide);refine⟨λr=>?_,λr _=>?_⟩
 ·rw[zGH h];exact zey C _ _ (by decide) (by decide)
 ·obtain⟨d,l,hL⟩:=V.ne;rw[zGH h,zbo,zba,yE,yI];have hv:=vars_read C false x.L (by rw[hL];simp) V.ds (c [59]::r) (by rw[oe.is];decide) (by rw[oe.is];decide) (by rw[oe.fol];decide)
  have:=zTN o hv (by rw[oe.is];decide)
  rw[<-V.eq]at this;exact this
theorem zVI{x a:Node}(h:x.Kind=24)(ho:zao x=true)(hL:x.L=[a])(R:RT c a)(h1:zO a 101=true):SR c x:=by
 have o1:=zai C (w:=[40]) (by decide);have o2:=zai C (w:=[41]) (by decide);have oe:=zai C (w:=[59]) (by decide);have e:=zd0 h ho (by decide) (by decide);rw[hL]at e
 obtain⟨w,q,ht⟩: ∃w q,atT (tkN a) 0 false=w::q:=by
  cases e:atT (tkN a) 0 false with
  |nil=>exact absurd e (zGx h1 0 false)
  |cons w q=>exact⟨w,q,rfl⟩
 have hst:(tkN x).st=zb1 (w::q)++[[59]]:=by rw[zGD h,hL,tk0,ht]
 by_cases hc:(w==([123]:Str)||w==([102,117,110,99,116,105,111,110]:Str))=true
 ·have hb:zb1 (w::q)=[40]::((w::q)++[[41]]):=by unfold zb1;simp only[hc,yB]
  rw[hb]at hst;refine⟨λr=>?_,λr _=>?_⟩
  ·rw[hst];exact zey C _ _ (by decide) (by decide)
  ·rw[hst,<-ht,yI,zba,zbo,zbo,yI,yE,yE];show zem (c [40]::(T c (atT (tkN a) 0 false)++c [41]::c [59]::r)) (x,r);have hp:=zvW o1 (at_end C R false [41] (c [59]::r) (by decide) (by decide) 0) (by rw[o2.is];decide)
   have hm:MADE (c [40]::(T c (atT (tkN a) 0 false)++c [41]::c [59]::r)) (a,c [59]::r):=zoU (by rw[o1.is];decide) hp
   have hf:zbX false (c [59]::r)= -1:=by rw[oe.fol];decide
   have hx:EXPR false (c [40]::(T c (atT (tkN a) 0 false)++c [41]::c [59]::r)) (a,c [59]::r):=
    zCy (ziJ (zox (zp2 (by rw[o1.any];decide) (by rw[o1.any];decide) hm (zk1 (no:=false) (by omega)) (zEt (no:=false) (by omega))) (zle (by omega))) (zri (no:=false) (by omega)) (zu1 (no:=false) (by omega))) (zmG (by omega))
   have:=zHB (λw hw=>by
    rw[o1.is];have: ∀w∈zwD,(([40]:Str)==w)=false:=by decide
    exact this w hw) (by rw[(o1.kinds _).1];rfl) hx (by rw[oe.is];decide)
   rw[<-e]at this;exact this
 ·have hb:zb1 (w::q)=w::q:=by unfold zb1;simp only[hc,qz2,yA]
  rw[hb,<-ht]at hst
  have hc:w≠[123]/\w≠[102,117,110,99,116,105,111,110]:=by
   simp only[yQ,beq_iff_eq,not_or]at hc;exact hc
  have hsp: ∀(s:Str) (r:zB),w≠s->tIs s (T c (atT (tkN a) 0 false)++r)=false:=by
   intro s r hs;rw[ht];cases e:tIs s (T c (w::q)++r)with
   |false=>rfl
   |true=>
    have e:(opK (c w)&&((c w).text==s))=true:=e;rw[qz4]at e;have:=C.opt w e.1;exact absurd ((C.opt w e.1).symm.trans (eq_of_beq e.2)) hs
  refine⟨λr=>?_,λr _=>?_⟩
  ·rw[hst,zbo,yE];have hg:=zli C R 0 false (T c [[59]]++r);obtain⟨p,u,e1,_,hg⟩:=hg;refine⟨p,u,e1,?_⟩;rcases hg with hg|hg|hg| ⟨v,g1,g2,_⟩
   ·exact .inl hg
   ·exact .inr (.inl hg)
   ·exact .inr (.inr (.inl hg))
   ·refine .inr (.inr (.inr ⟨v,g1,?_⟩))
    have hv:v≠[102,117,110,99,116,105,111,110]:=by
     rintro rfl;have:=hsp [102,117,110,99,116,105,111,110] (T c [[59]]++r) hc.2;rw[e1,g1.is]at this;exact absurd this (by decide)
    have: ∀v∈zrH,v≠[102,117,110,99,116,105,111,110]->v∈zAX:=by decide
    exact this v g2 hv
  ·rw[hst,zbo,yE];have hg:=zli C R 0 false (c [59]::r)
   have:=zHB (t:=T c (atT (tkN a) 0 false)++c [59]::r) (λs hs=>by
    by_cases e1:s=[123]
    ·exact hsp s _ (by rw[e1];exact hc.1)
    ·by_cases e2:s=[102,117,110,99,116,105,111,110]
     ·exact hsp s _ (by rw[e2];exact hc.2)
     ·have: ∀s∈zwD,s≠[123]->s≠[102,117,110,99,116,105,111,110]->zrH.contains s=false:=by decide
      exact hg.is (this s hs e1 e2)) (by
    cases hk:zX (T c (atT (tkN a) 0 false)++c [59]::r)==1 with
    |false=>rfl
    |true=>
     rw[Bool.true_and];exact zM6 C R 0 false _ (by rw[oe.is];decide) (eq_of_beq hk)) (at_end C R false [59] r (by decide) (by decide) 0) (by rw[oe.is];decide)
   rw[<-e]at this;exact this
theorem zVO{x:Node}(B:BK c x):SR c x:=by
 refine⟨λr=>?_,λr _=>B.st C r⟩;rw[zC0 B.kind];exact zey C _ _ (by decide) (by decide)
theorem zVH{x a b:Node}(h:x.Kind=26)(ho:zao x=true)(hL:x.L=[a,b])(R:RT c a)(B:BK c b):SR c x:=by
 have o:=zai C (w:=[105,102]) (by decide);have e:=zd0 h ho (by decide) (by decide);rw[hL]at e;have hst:(tkN x).st=[105,102]::(([40]::(atT (tkN a) 0 false++[[41]]))++(tkN b).st):=by rw[zAW h,hL,tk0,tk1,zPW];simp[zc6]
 refine⟨λr=>?_,λr hf=>?_⟩
 ·rw[hst];exact zey C _ _ (by decide) (by decide)
 ·rw[hst,zba,yI,zbo,yE];have:=zT7 o (zpx C R _) (B.st C r) hf.els;rw[zon B.kind,<-e]at this;exact this
theorem zUD{x a b d:Node}(h:x.Kind=26)(ho:zao x=true)(hL:x.L=[a,b,d])(R:RT c a)(B:BK c b)(D:BK c d):SR c x:=by
 have o:=zai C (w:=[105,102]) (by decide);have oe:=zai C (w:=[101,108,115,101]) (by decide);have e:=zd0 h ho (by decide) (by decide);rw[hL]at e;have hst:(tkN x).st=[105,102]::(([40]::(atT (tkN a) 0 false++[[41]]))++((tkN b).st++([101,108,115,101]::(tkN d).st))):=by rw[zAW h,hL,tk0,tk1,tk2];simp[zc6]
 refine⟨λr=>?_,λr hf=>?_⟩
 ·rw[hst];exact zey C _ _ (by decide) (by decide)
 ·rw[hst,zba,yI,zbo,yE,zbo,yE,zba,yI];have:=zLM (t2:=c [101,108,115,101]::(T c (tkN d).st++r)) o (zpx C R _) (B.st C _) (by rw[oe.is];decide) (D.st C r)
  rw[zon B.kind,zon D.kind,<-e]at this;exact this
theorem zVZ{x a b:Node}(h:x.Kind=27)(ho:zao x=true)(hL:x.L=[a,b])(R:RT c a)(B:BK c b):SR c x:=by
 have o:=zai C (w:=[119,104,105,108,101]) (by decide);have e:=zd0 h ho (by decide) (by decide);rw[hL]at e;have hst:(tkN x).st=[119,104,105,108,101]::(([40]::(atT (tkN a) 0 false++[[41]]))++(tkN b).st):=by rw[zL6 h,hL,tk0,tk1];simp[zc6]
 refine⟨λr=>?_,λr hf=>?_⟩
 ·rw[hst];exact zey C _ _ (by decide) (by decide)
 ·rw[hst,zba,yI,zbo,yE];have:=zNn o (zpx C R _) (B.st C r);rw[zon B.kind,<-e]at this;exact this
theorem zVu{x a b:Node}(h:x.Kind=28)(ho:zao x=true)(hL:x.L=[a,b])(B:BK c a)(R:RT c b):SR c x:=by
 have o:=zai C (w:=[100,111]) (by decide);have ow:=zai C (w:=[119,104,105,108,101]) (by decide);have oe:=zai C (w:=[59]) (by decide);have e:=zd0 h ho (by decide) (by decide);rw[hL]at e;have hst:(tkN x).st=[100,111]::((tkN a).st++([119,104,105,108,101]::(([40]::(atT (tkN b) 0 false++[[41]]))++[[59]]))):=by rw[zMG h,hL,tk0,tk1];simp[zc6]
 refine⟨λr=>?_,λr hf=>?_⟩
 ·rw[hst];exact zey C _ _ (by decide) (by decide)
 ·rw[hst,zba,yI,zbo,yE,zba,yI,zbo,yE];have:=zUs o (B.st C (c [119,104,105,108,101]::(T c ([40]::(atT (tkN b) 0 false++[[41]]))++(c [59]::r)))) (by rw[ow.is];decide) (zpx C R (c [59]::r)) (by rw[oe.is];decide)
  rw[zon B.kind,<-e]at this;exact this
theorem zCY{a:Node}(h:(a.Kind=42/\a=nd 42 [])\/(a.Kind=22/\VD c a)\/(zcu a.Kind=true/\RT c a))(least:Int)(w:Str)(hw:w=[59]\/w=[105,110])(h42:a.Kind=42->w=[59])(r:zB):FIRST (T c (zaG (tkN a) least true)++c w::r) (a,c w::r):=by
 have how:zgh.contains w=true:=by rcases hw with rfl|rfl<;>decide
 have o:=zai C how;have ov:=zai C (w:=[118,97,114]) (by decide);have hf:zfk true w= -1:=by rcases hw with rfl|rfl<;>decide
 rcases h with⟨h,e⟩| ⟨h,V⟩| ⟨he,R⟩
 ·rw[zwA h];obtain rfl:=h42 h;rw[e];exact zLA (by show tIs [118,97,114] (c [59]::r)=false;rw[o.is];decide) (by show tIs [59] (c [59]::r)=true;rw[o.is];decide)
 ·obtain⟨d,l,hL⟩:=V.ne;rw[zzL h,zba,yI];have hv:=vars_read C true a.L (by rw[hL];simp) V.ds (c w::r) (by rw[o.is];rcases hw with rfl|rfl<;>decide) (by rw[o.is];rcases hw with rfl|rfl<;>decide) (by rw[o.fol,hf];decide)
  have:=zKb (t:=c [118,97,114]::(T c (commas (declT true) (tkL a.L))++c w::r)) (by rw[ov.is];decide) hv
  rw[<-V.eq]at this;exact this
 ·rw[zqm he];have hb:=zli C R least true (c w::r);exact zSA (hb.is (by decide)) (hb.is (by decide)) (zCm C R true _ _ (by rw[o.fol,hf];decide) (zmG (by rw[o.fol,hf];decide)) least)
theorem zVX{x a b d q:Node}(h:x.Kind=29)(ho:zao x=true)(hL:x.L=[a,b,d,q])(ha:(a.Kind=42/\a=nd 42 [])\/(a.Kind=22/\VD c a)\/(zcu a.Kind=true/\RT c a))(hb:b=nd 42 []\/(zcu b.Kind=true/\RT c b))(hd:d=nd 42 []\/(zcu d.Kind=true/\RT c d))(B:BK c q):SR c x:=by
 have o:=zai C (w:=[102,111,114]) (by decide);have o1:=zai C (w:=[40]) (by decide);have oe:=zai C (w:=[59]) (by decide);have e:=zd0 h ho (by decide) (by decide);rw[hL]at e;have hst:(tkN x).st=[102,111,114]::[40]::(zaG (tkN a) 0 true++([59]::(zaG (tkN b) 0 false++([59]::(zaG (tkN d) 0 false++([41]::(tkN q).st)))))):=by rw[zLU h,hL,tk0,tk1,tk2,tk3]
 refine⟨λr=>?_,λr hf=>?_⟩
 ·rw[hst];exact zey C _ _ (by decide) (by decide)
 ·rw[hst];simp only[zba,zbo,yI,yE];have h1:=zCY C ha 0 [59] (.inl rfl) (λ_=>rfl) (T c (zaG (tkN b) 0 false)++c [59]::(T c (zaG (tkN d) 0 false)++c [41]::(T c (tkN q).st++r)));have h2:=zFL C hb [59] (.inl rfl) (T c (zaG (tkN d) 0 false)++c [41]::(T c (tkN q).st++r));have h3:=zFL C hd [41] (.inr rfl) (T c (tkN q).st++r);have:=zMX (t:=c [40]::(T c (zaG (tkN a) 0 true)++c [59]::(T c (zaG (tkN b) 0 false)++c [59]::(T c (zaG (tkN d) 0 false)++c [41]::(T c (tkN q).st++r))))) (by rw[o1.is];decide) h1 (by rw[oe.is,show(([59]:Str)==[105,110])=false by decide,Bool.and_false]) (by rw[oe.is];decide) h2 h3 (B.st C r)
  rw[zon B.kind,<-e]at this;exact zKO o this
theorem zWo{x a b q:Node}(h:x.Kind=30)(ho:zao x=true)(hL:x.L=[a,b,q])(ha:(a.Kind=22/\VD c a)\/(zcu a.Kind=true/\RT c a))(he:zl9 a=true)(Rb:RT c b)(B:BK c q):SR c x:=by
 have o:=zai C (w:=[102,111,114]) (by decide);have o1:=zai C (w:=[40]) (by decide);have o2:=zai C (w:=[41]) (by decide);have oi:=zai C (w:=[105,110]) (by decide);have e:=zd0 h ho (by decide) (by decide);rw[hL]at e;have hst:(tkN x).st=[102,111,114]::[40]::(zaG (tkN a) 11 true++([105,110]::(atT (tkN b) 0 false++([41]::(tkN q).st)))):=by rw[zMk h,hL,tk0,tk1,tk2]
 refine⟨λr=>?_,λr hf=>?_⟩
 ·rw[hst];exact zey C _ _ (by decide) (by decide)
 ·rw[hst];simp only[zba,zbo,yI,yE]
  have h1:=zCY C (.inr ha) 11 [105,110] (.inr rfl) (λh42=>by
   rcases ha with⟨h,_⟩| ⟨h,_⟩
   ·rw[h]at h42;exact absurd h42 (by decide)
   ·have:=(zrb h).1;rw[h42]at this;exact absurd this (by decide)) (T c (atT (tkN b) 0 false)++c [41]::(T c (tkN q).st++r))
  have:=zNF (t:=c [40]::(T c (zaG (tkN a) 11 true)++c [105,110]::(T c (atT (tkN b) 0 false)++c [41]::(T c (tkN q).st++r)))) (by rw[o1.is];decide) h1 he (by rw[oi.is];decide) (at_end C Rb false [41] (T c (tkN q).st++r) (by decide) (by decide) 0) (by rw[o2.is];decide) (B.st C r)
  rw[zon B.kind,<-e]at this;exact zKO o this
theorem zRl{x:Node}(h:x.Kind=31\/x.Kind=32)(ho:zao x=true)(hL:x.L=[]):SR c x:=by
 have oe:=zai C (w:=[59]) (by decide)
 have hn:x.Name=[]\/zbU x.Name=true:=by
  have:=(zaN ho).1;rcases h with h|h<;>simpa [zab,h]using this
 have hlp: ∀k r,k=x.Kind->zkm k (T c (if(x.Name==([]:Str))=true then[]else[x.Name])++c [59]::r)=gt (x,r):=by
  intro k r hk;have e:=zl3 (k:=k) hk.symm ho (by rcases h with h|h<;>rw[hk,h]<;>decide)
  rw[hL]at e;rcases hn with n|n
  ·rw[n]at e⊢;show zkm k (c [59]::r)=_;rw[zSt (by rw[oe.is];decide),e];rfl
  ·have hne:(x.Name==([]:Str))=false:=by
    rw[yH];intro e;rw[e]at n;exact absurd n (by decide)
   obtain⟨k1,k2⟩:=C.name x.Name n;rw[hne];show zkm k (c x.Name::c [59]::r)=_;rw[zOr k1 (C.fresh _) (by rw[oe.is];decide),k2,<-e];rfl
 rcases h with h|h
 ·have o:=zai C (w:=[98,114,101,97,107]) (by decide);have hst:(tkN x).st=[98,114,101,97,107]::((if(x.Name==([]:Str))=true then[]else[x.Name])++[[59]]):=by rw[zMI h,hL];unfold zhx;rw[h];simp[tkL]
  refine⟨λr=>?_,λr _=>?_⟩
  ·rw[hst];exact zey C _ _ (by decide) (by decide)
  ·rw[hst,zba,zbo,yI,yE];exact zNN o (hlp 31 r h.symm)
 ·have o:=zai C (w:=[99,111,110,116,105,110,117,101]) (by decide);have hst:(tkN x).st=[99,111,110,116,105,110,117,101]::((if(x.Name==([]:Str))=true then[]else[x.Name])++[[59]]):=by rw[zMc h,hL];unfold zhx;rw[h];simp[tkL]
  refine⟨λr=>?_,λr _=>?_⟩
  ·rw[hst];exact zey C _ _ (by decide) (by decide)
  ·rw[hst,zba,zbo,yI,yE];exact zJm o (hlp 32 r h.symm)
theorem zWl{x:Node}(h:x.Kind=33)(ho:zao x=true)(hL:x.L=[]\/∃a,x.L=[a]/\RT c a):SR c x:=by
 have o:=zai C (w:=[114,101,116,117,114,110]) (by decide);have oe:=zai C (w:=[59]) (by decide);have e:=zd0 h ho (by decide) (by decide);have hn:=ze4 ho (by rw[h];decide)
 rcases hL with hL| ⟨a,hL,R⟩
 ·have hst:(tkN x).st=[[114,101,116,117,114,110],[59]]:=by rw[zGE h,hL];unfold zhx;rw[h,hn];simp[tkL]
  rw[hL]at e;refine⟨λr=>?_,λr _=>?_⟩
  ·rw[hst];exact zey C _ _ (by decide) (by decide)
  ·rw[hst];have:=zF4 (r:=c [59]::r) o (by rw[oe.is];decide)
   rw[<-e]at this;exact this
 ·have hst:(tkN x).st=[114,101,116,117,114,110]::(atT (tkN a) 0 false++[[59]]):=by rw[zGE h,hL];unfold zhx;rw[h,hn];simp[tkL]
  rw[hL]at e;refine⟨λr=>?_,λr _=>?_⟩
  ·rw[hst];exact zey C _ _ (by decide) (by decide)
  ·rw[hst,zba,zbo,yI,yE];have hb:=zli C R 0 false (c [59]::r);have:=zLS (r:=T c (atT (tkN a) 0 false)++c [59]::r) o (by unfold zk2;rw[hb.is (by decide),hb.is (by decide),hb.zGJ,hb.fresh];rfl) (at_end C R false [59] r (by decide) (by decide) 0) (by rw[oe.is];decide)
   rw[<-e]at this;exact this
theorem zVS{x a:Node}(h:x.Kind=34)(ho:zao x=true)(hL:x.L=[a])(R:RT c a):SR c x:=by
 have o:=zai C (w:=[116,104,114,111,119]) (by decide);have oe:=zai C (w:=[59]) (by decide);have e:=zd0 h ho (by decide) (by decide);have hn:=ze4 ho (by rw[h];decide)
 have hst:(tkN x).st=[116,104,114,111,119]::(atT (tkN a) 0 false++[[59]]):=by rw[zLQ h,hL];unfold zhx;rw[h,hn];simp[tkL]
 rw[hL]at e;refine⟨λr=>?_,λr _=>?_⟩
 ·rw[hst];exact zey C _ _ (by decide) (by decide)
 ·rw[hst,zba,zbo,yI,yE];have hb:=zli C R 0 false (c [59]::r);have:=zOK (r:=T c (atT (tkN a) 0 false)++c [59]::r) o hb.fresh (at_end C R false [59] r (by decide) (by decide) 0) (by rw[oe.is];decide)
  rw[<-e]at this;exact this
theorem zWt{x:Node}(h:x.Kind=40)(ho:zao x=true)(hL:x.L=[]):SR c x:=by
 have oe:=zai C (w:=[59]) (by decide);have e:=zd0 h ho (by decide) (by decide);have hn:=ze4 ho (by rw[h];decide)
 have hst:(tkN x).st=[[59]]:=by rw[zMl h,hL];unfold zhx;rw[h,hn];simp[tkL]
 rw[hL]at e;refine⟨λr=>?_,λr _=>?_⟩
 ·rw[hst];exact zey C _ _ (by decide) (by decide)
 ·rw[hst];have:=zOM (r:=r) oe;rw[<-e]at this;exact this
theorem zVG{x a:Node}(h:x.Kind=38)(ho:zao x=true)(hL:x.L=[a])(S:SR c a):SR c x:=by
 have o:=zai C (w:=[58]) (by decide);have e:=zl3 h ho (by decide);rw[hL]at e;have hn:zbU x.Name=true:=by simpa [zab,h]using(zaN ho).1
 obtain⟨k1,k2⟩:=C.name x.Name hn;have hst:(tkN x).st=x.Name::[58]::(tkN a).st:=by rw[zMr h,hL,tk0]
 refine⟨λr=>?_,λr hf=>?_⟩
 ·rw[hst];exact⟨c x.Name,T c ([58]::(tkN a).st)++r,rfl,.inl k1⟩
 ·rw[hst];have:=zOF (a:=c x.Name) (r:=c [58]::(T c (tkN a).st++r)) (λw _=>by show(opK (c x.Name)&&_)=false;rw[zdF (.inl k1)];rfl) k1 (by rw[o.is];decide) (S.rd r hf)
  rw[k2,<-e]at this;exact this
theorem zVD{x a b d:Node}(h:x.Kind=35)(ho:zao x=true)(hL:x.L=[a,b,d])(A:BK c a)(hb:BK c b\/b=nd 42 [])(hd:BK c d\/d=nd 42 [])(hno: ¬(b.Kind=42/\d.Kind=42)):SR c x:=by
 have o:=zai C (w:=[116,114,121]) (by decide);have oc:=zai C (w:=[99,97,116,99,104]) (by decide);have of:=zai C (w:=[102,105,110,97,108,108,121]) (by decide);have o1:=zai C (w:=[40]) (by decide);have o2:=zai C (w:=[41]) (by decide);have e:=zl3 h ho (by decide);rw[hL]at e
 have hst:(tkN x).st=[116,114,121]::((tkN a).st++((if(b.Kind==25)=true then[99,97,116,99,104]::[40]::x.Name::[41]::(tkN b).st else[])++(if(d.Kind==25)=true then[102,105,110,97,108,108,121]::(tkN d).st else[]))):=by
  rw[zMn h,hL,tk0,tk1,tk2,zdC,zdC]
 refine⟨λr=>?_,λr hf=>?_⟩
 ·rw[hst];exact zey C _ _ (by decide) (by decide)
 ·rw[hst,zba,yI,zbo,yE,zbo,yE]
  have hF:zGC (T c (if(d.Kind==25)=true then[102,105,110,97,108,108,121]::(tkN d).st else[])++r) (d,r):=by
   rcases hd with D|D
   ·rw[D.kind];exact zR5 (t:=c [102,105,110,97,108,108,121]::(T c (tkN d).st++r)) (by rw[of.is];decide) (D.bl r)
   ·rw[D];exact zMz hf.fin
  have hC:zGp (T c (if(b.Kind==25)=true then[99,97,116,99,104]::[40]::x.Name::[41]::(tkN b).st else[])++(T c (if(d.Kind==25)=true then[102,105,110,97,108,108,121]::(tkN d).st else[])++r)) ((x.Name,b),T c (if(d.Kind==25)=true then[102,105,110,97,108,108,121]::(tkN d).st else[])++r):=by
   have hnm:=(zaN ho).1;unfold zab at hnm;rw[h,hL]at hnm;have hnm:(if(b.Kind==25)=true then zbU x.Name else x.Name==([]:Str))=true:=hnm;rcases hb with B|B
   ·rw[B.kind]at hnm⊢;obtain⟨k1,k2⟩:=C.name x.Name hnm;have:=zSR (t:=c [99,97,116,99,104]::c [40]::c x.Name::c [41]::(T c (tkN b).st++(T c (if(d.Kind==25)=true then[102,105,110,97,108,108,121]::(tkN d).st else[])++r))) (by rw[oc.is];decide) (by show tIs [40] (c [40]::_)=true;rw[o1.is];decide) rfl k1 (by rw[o2.is];decide) (B.bl _)
    rw[k2]at this;exact this
   ·rw[B]at hnm⊢;have hnm:x.Name=[]:=eq_of_beq hnm;rw[hnm];refine zL9 ?_;show tIs [99,97,116,99,104] (T c (if(d.Kind==25)=true then[102,105,110,97,108,108,121]::(tkN d).st else[])++r)=false;rcases hd with D|D
    ·rw[D.kind];show tIs [99,97,116,99,104] (c [102,105,110,97,108,108,121]::_)=false;rw[of.is];decide
    ·rw[D];exact hf.cat
  have:=zTQ o (A.bl _) hC hF (by
   cases e1:(d.Kind==42)with
   |false=>rfl
   |true=>
    cases e2:(b.Kind==42)with
    |false=>rfl
    |true=>exact absurd ⟨eq_of_beq e2,eq_of_beq e1⟩ hno)
  rw[<-e]at this;exact this
theorem zMQ: ∀(ls:List Node) (e:Nat),ziG ls e=true->(∀k∈ls,CS c k)->∀r,CASES (decide (e=0)) (T c (zY (tkL ls))++c [125]::r) (ls,r):=by
 have ob:=zai C (w:=[125]) (by decide);have od:=zai C (w:=[100,101,102,97,117,108,116]) (by decide);have oc:=zai C (w:=[99,97,115,101]) (by decide);have o:=zai C (w:=[58]) (by decide)
 have hst: ∀k a l,CS c k->k.L=a::l->(tkN k).st=(if(a.Kind !=42)=true then[99,97,115,101]else[100,101,102,97,117,108,116])::(zaG (tkN a) 0 false++([58]::zY (tkL l))):=by
  intro k a l K hL;have hk:k.Kind=37:=by rw[K.eq];rfl
  rw[zMq hk,hL,tk0,tkT,zdC];simp
 have hend: ∀(ls:List Node) (r:zB),(∀k∈ls,CS c k)->(zbv [[99,97,115,101],[100,101,102,97,117,108,116],[125]] (T c (zY (tkL ls))++c [125]::r)||zX (T c (zY (tkL ls))++c [125]::r)==0)=true/\zr0 (T c (zY (tkL ls))++c [125]::r):=by
  intro ls r h;rcases ls with _| ⟨k,l⟩
  ·show(zbv _ (c [125]::r)||zX (c [125]::r)==0)=true/\zr0 (c [125]::r);exact⟨by rw[ob.any];rfl,ob.zfk _ (by decide)⟩
  ·have K:=h k qz7;obtain⟨a,q,hL,_⟩:=K.ex;have e:zY (tkL (k::l))=(tkN k).st++zY (tkL l):=by simp[zY,tkL]
   rw[e,hst k a q K hL];cases a.Kind !=42 with
   |true=>
    show(zbv _ (c [99,97,115,101]::_)||zX (c [99,97,115,101]::_)==0)=true/\zr0 (c [99,97,115,101]::_);exact⟨by rw[oc.any];rfl,oc.zfk _ (by decide)⟩
   |false=>
    show(zbv _ (c [100,101,102,97,117,108,116]::_)||zX (c [100,101,102,97,117,108,116]::_)==0)=true/\zr0 (c [100,101,102,97,117,108,116]::_);exact⟨by rw[od.any];rfl,od.zfk _ (by decide)⟩
 intro ls;induction ls with
 |nil=>intro e _ _ r;exact zJG (t:=c [125]::r) (by rw[ob.is];decide)
 |cons k l ih=>
  intro e he hk r;have K:=hk k qz7;have hl:=λq hq=>hk q (qz8 _ hq)
  obtain⟨a,q,hL,ha,hs⟩:=K.ex;simp only[ziG,qz4]at he;have e1:zY (tkL (k::l))=(tkN k).st++zY (tkL l):=by simp[zY,tkL]
  have ek:=K.eq;rw[hL]at ek;obtain⟨n1,n2⟩:=hend l r hl;have hB:=zNu q hs _ n1 n2;rw[e1,hst k a q K hL];simp only[zba,zbo,yI,yE];rcases ha with ha| ⟨ha,R⟩
  ·have hc:zwt k=true:=by unfold zwt;rw[hL,ha];rfl
   rw[hc]at he;have he:=he.2;simp only[yB]at he;have:=zJr he;obtain rfl:e=0:=by omega
   rw[zwA (by rw[ha];rfl)]
   have hr:=ih 1 he hl r;rw[ha];have:=zDH (t:=c [100,101,102,97,117,108,116]::(T c []++c [58]::(T c (zY (tkL q))++(T c (zY (tkL l))++c [125]::r)))) (by rw[od.is];decide) (by rw[od.is];decide) (by show tIs [58] (c [58]::_)=true;rw[o.is];decide) hB hr
   have ek2:nd 37 (nd 42 []::q)=k:=by rw[ek,ha]
   rw[ek2]at this;exact this
  ·have hc:zwt k=false:=by unfold zwt;rw[hL];exact(zrb ha).1
   rw[hc]at he;have he:=he.2;simp only[qz2,yA]at he;have hr:=ih e he hl r;rw[zqm ha,(zrb ha).2.2];have:=zHI (o:=decide (e=0)) (t:=c [99,97,115,101]::(T c (atT (tkN a) 0 false)++c [58]::(T c (zY (tkL q))++(T c (zY (tkL l))++c [125]::r)))) (by rw[oc.is];decide) (by rw[oc.is,show(([99,97,115,101]:Str)==[100,101,102,97,117,108,116])=false by decide,Bool.and_false]) (by rw[oc.is];decide) (at_end C R false [58] _ (by decide) (by decide) 0) (by rw[o.is];decide) hB hr
   rw[show nd 37 (a::q)=k from ek.symm]at this;exact this
theorem zVR{x a:Node}{l:List Node}(h:x.Kind=36)(ho:zao x=true)(hL:x.L=a::l)(R:RT c a)(hc:ziG l 0=true)(hk: ∀k∈l,CS c k):SR c x:=by
 have o:=zai C (w:=[115,119,105,116,99,104]) (by decide);have ob:=zai C (w:=[123]) (by decide);have e:=zd0 h ho (by decide) (by decide);rw[hL]at e;have hst:(tkN x).st=[115,119,105,116,99,104]::(([40]::(atT (tkN a) 0 false++[[41]]))++([123]::(zY (tkL l)++[[125]]))):=by rw[zMe h,hL,tk0,tkT];simp[zc6]
 refine⟨λr=>?_,λr hf=>?_⟩
 ·rw[hst];exact zey C _ _ (by decide) (by decide)
 ·have e2:T c (tkN x).st++r=c [115,119,105,116,99,104]::(T c ([40]::(atT (tkN a) 0 false++[[41]]))++c [123]::(T c (zY (tkL l))++c [125]::r)):=by rw[hst];simp[T]
  rw[e2];have:=zMD o (zpx C R (c [123]::(T c (zY (tkL l))++c [125]::r))) (by rw[ob.is];decide) (zMQ C l 0 hc hk r)
  rw[<-e]at this;exact this
end
section
variable {g:zi} {n:Nat}
theorem zQj(G:zbw g n)(y:Node)(l:List Str)(hd:20*zW y+14<=n+1)(h:y.Kind=24)(hm:zat y=true)(hb:zU y<=2097152)(hlen:l.length+(tkN y).st.length<=274877906944):zae g y false l=some (false,l++(tkN y).st,()):=by
 have a1:=zaR y;have a2:=zaA y;have hk: ∀k∈y.L,zW k<=za9 y.L/\zU k<=zaJ y.L:=λk hk=>⟨zaT hk,za7 hk⟩
 rw[zCK h,qz4]at hm;obtain⟨a,hL,h1⟩:=zdq hm.2;have ka:=hk a (by rw[hL];simp)
 have ha:=G.at_ a 0 (by omega) h1 (by omega) false l;rw[zGD h,hL,tk0]at hlen⊢;unfold zae;simp only[zq];rw[h,hL]
 obtain⟨w,r,ht⟩: ∃w r,atT (tkN a) 0 false=w::r:=by
  cases e:atT (tkN a) 0 false with
  |nil=>exact absurd e (zGx h1 0 false)
  |cons w r=>exact⟨w,r,rfl⟩
 rw[ht]at hlen ha⊢
 have hge:zN (l++w::r) ((l.length:Nat):Int)=some w:=by
  rw[zji];simp
 have e: ∀r:Bool×List Str×Unit,r=(false,l++w::r.2.1.drop (l.length+1),())->True:=λ_ _=>trivial
 clear e
 have hgo: ∀l2:List Str,l2=l++w::r->(Option.bind (zN l2 ((l.length:Nat):Int)) λ_=>Option.bind (zN l2 ((l.length:Nat):Int)) λx_5=>
   if(x_5==[123]||x_5==[102,117,110,99,116,105,111,110])=true then
    Option.bind (zhT ((l.length:Nat):Int) l2 ([[40]]:List Str)) λr_7=>Option.bind (room (r_7.1.length+([[41]]:List Str).length)) λ_=>Option.bind (zn ([[59]]:List Str) false (r_7.1++[[41]])) λr_9=>some (r_9.1,r_9.2.1,())
   else Option.bind (zn ([[59]]:List Str) false l2) λr_10=>some (r_10.1,r_10.2.1,()))=some (false,l++(zb1 (w::r)++[[59]]),()):=by
  intro l2 e2;rw[e2,hge];simp only[qz1];unfold zb1 at hlen⊢;by_cases hc:(w==[123]||w==[102,117,110,99,116,105,111,110])=true
  ·have hc2:(w==([123]:Str)||w==([102,117,110,99,116,105,111,110]:Str))=true:=hc;simp only[hc2,yB]at hlen⊢;rw[zM9 _ _ _ (by simp) (by simp) (by simp only[qz5,qz3,qz6]at hlen⊢;omega)]
   simp only[qz1];have e3:(l++w::r).take l.length++([[40]]++(l++w::r).drop l.length)=l++([40]::w::r):=by simp
   rw[e3,zd6 (by simp only[qz5,qz3,qz6]at hlen⊢;omega)]
   simp only[qz1];rw[zar _ _ _ (by simp only[qz5,qz3,qz6]at hlen⊢;omega)]
   simp
  ·have hc2: ¬(w==([123]:Str)||w==([102,117,110,99,116,105,111,110]:Str))=true:=hc;simp only[hc2,qz2,yA]at hlen⊢;rw[zar _ _ _ (by simp only[qz5,qz3,qz6]at hlen⊢;omega)]
   simp
 show Option.bind (g.zD a 0 false l) (λq=>Option.bind (zN q.2.1 ((l.length:Nat):Int)) λ_=>Option.bind (zN q.2.1 ((l.length:Nat):Int)) λx_5=>
   if(x_5==[123]||x_5==[102,117,110,99,116,105,111,110])=true then
    Option.bind (zhT ((l.length:Nat):Int) q.2.1 ([[40]]:List Str)) λr_7=>Option.bind (room (r_7.1.length+([[41]]:List Str).length)) λ_=>Option.bind (zn ([[59]]:List Str) q.1 (r_7.1++[[41]])) λr_9=>some (r_9.1,r_9.2.1,())
   else Option.bind (zn ([[59]]:List Str) q.1 q.2.1) λr_10=>some (r_10.1,r_10.2.1,()))=_
 rw[ha (by
  unfold zb1 at hlen;dsimp only at hlen;split at hlen
  ·simp only[qz5,qz3,qz6]at hlen⊢;omega
  ·simp only[qz5,qz3,qz6]at hlen⊢;omega)]
 exact hgo _ rfl
theorem zPT(G:zbw g n)(y:Node)(l:List Str)(hd:20*zW y+14<=n+1)(h:y.Kind=35)(hm:zat y=true)(hb:zU y<=2097152)(hlen:l.length+(tkN y).st.length<=274877906944):zae g y false l=some (false,l++(tkN y).st,()):=by
 have a1:=zaR y;have a2:=zaA y;have hk: ∀k∈y.L,zW k<=za9 y.L/\zU k<=zaJ y.L:=λk hk=>⟨zaT hk,za7 hk⟩
 rw[zH5 h,qz4]at hm;obtain⟨a,b,c,hL,h1,h2,h3,_⟩:=zJz hm.2;have ka:=hk a (by rw[hL];simp);have kb:=hk b (by rw[hL];simp);have kc:=hk c (by rw[hL];simp)
 rw[zMn h,hL,tk0,tk1,tk2,zdC,zdC]at hlen⊢
 have hj: ∀l:List Str,l.length+(if(c.Kind==25)=true then[102,105,110,97,108,108,121]::(tkN c).st else[]).length<=274877906944->zdl g [a,b,c] false l=some (false,l++(if(c.Kind==25)=true then[102,105,110,97,108,108,121]::(tkN c).st else[]),()):=by
  intro l hlen;unfold zdl;simp only[zRe,qz1,zq];rcases zzK h3 with⟨e,ho⟩|e
  ·rw[e]at hlen⊢;simp only[beq_self_eq_true,yB]at hlen⊢;rw[zar _ _ _ (by simp only[qz5,qz3,qz6]at hlen⊢;omega)]
   simp only[qz1];rw[G.stmt c _ (by omega) (ziE ho) (by omega) (by simp only[qz5,qz3,qz6]at hlen⊢;omega)]
   simp
  ·rw[e];show some (false,l,())=some (false,l++[],());simp
 unfold zae;simp only[zq];rw[h,hL];show Option.bind (zn [[116,114,121]] false l) (λr=>Option.bind (g.zaf a r.1 r.2.1) λr=>if(b.Kind==25)=true then Option.bind (zn [[99,97,116,99,104],[40],y.Name,[41]] r.1 r.2.1) λr=>Option.bind (g.zaf b r.1 r.2.1) λr=>zdl g [a,b,c] r.1 r.2.1 else zdl g [a,b,c] r.1 r.2.1)=_;rw[zar _ _ _ (by simp only[qz5,qz3,qz6]at hlen⊢;omega)]
 simp only[qz1];rw[G.stmt a _ (by omega) (ziE h1) (by omega) (by simp only[qz5,qz3,qz6]at hlen⊢;omega)]
 simp only[qz1];rcases zzK h2 with⟨e,ho⟩|e
 ·rw[e]at hlen⊢;simp only[beq_self_eq_true,yB]at hlen⊢;rw[zar _ _ _ (by simp only[qz5,qz3,qz6]at hlen⊢;omega)]
  simp only[qz1];rw[G.stmt b _ (by omega) (ziE ho) (by omega) (by simp only[qz5,qz3,qz6]at hlen⊢;omega)]
  simp only[qz1];rw[hj _ (by simp only[qz5,qz3,qz6]at hlen⊢;omega)]
  simp
 ·rw[e]at hlen⊢;have e1:((42:Int)==25)=false:=rfl;simp only[e1,qz2,yA,List.nil_append]at hlen⊢;rw[hj _ (by simp only[qz5,qz3,qz6]at hlen⊢;omega)]
  simp
theorem zQP(G:zbw g n)(y:Node)(l:List Str)(hd:20*zW y+14<=n+1)(h:y.Kind=26)(hm:zat y=true)(hb:zU y<=2097152)(hlen:l.length+(tkN y).st.length<=274877906944):zae g y false l=some (false,l++(tkN y).st,()):=by
 have a1:=zaR y;have a2:=zaA y;have hk: ∀k∈y.L,zW k<=za9 y.L/\zU k<=zaJ y.L:=λk hk=>⟨zaT hk,za7 hk⟩
 rw[zHU h,qz4]at hm;rcases zLv hm.2 with⟨a,b,hL,h1,h2⟩| ⟨a,b,c,hL,h1,h2,h3⟩
 ·have ka:=hk a (by rw[hL];simp);have kb:=hk b (by rw[hL];simp)
  rw[zAW h,hL,tk0,tk1,zPW]at hlen⊢;unfold zae;simp only[zq];rw[h,hL];show Option.bind (g.za4 [105,102] a false l) (λr=>Option.bind (g.zaf b r.1 r.2.1) λr=>some (r.1,r.2.1,()))=_;rw[G.head a _ _ (by omega) h1 (by omega) (by simp only[qz5,qz3,qz6]at hlen⊢;omega)]
  simp only[qz1];rw[G.stmt b _ (by omega) (ziE h2) (by omega) (by simp only[qz5,qz3,qz6]at hlen⊢;omega)]
  simp
 ·have ka:=hk a (by rw[hL];simp);have kb:=hk b (by rw[hL];simp);have kc:=hk c (by rw[hL];simp)
  rw[zAW h,hL,tk0,tk1,tk2]at hlen⊢;unfold zae;simp only[zq];rw[h,hL];show Option.bind (g.za4 [105,102] a false l) (λr=>Option.bind (g.zaf b r.1 r.2.1) λr=>Option.bind (zn [[101,108,115,101]] r.1 r.2.1) λr=>Option.bind (g.zaf c r.1 r.2.1) λr=>some (r.1,r.2.1,()))=_;rw[G.head a _ _ (by omega) h1 (by omega) (by simp only[qz5,qz3,qz6]at hlen⊢;omega)]
  simp only[qz1];rw[G.stmt b _ (by omega) (ziE h2) (by omega) (by simp only[qz5,qz3,qz6]at hlen⊢;omega)]
  simp only[qz1];rw[zar _ _ _ (by simp only[qz5,qz3,qz6]at hlen⊢;omega)]
  simp only[qz1];rw[G.stmt c _ (by omega) (ziE h3) (by omega) (by simp only[qz5,qz3,qz6]at hlen⊢;omega)]
  simp
theorem zPl(G:zbw g n)(y:Node)(l:List Str)(hd:20*zW y+14<=n+1)(h:y.Kind=37)(hm:zat y=true)(hb:zU y<=2097152)(hlen:l.length+(tkN y).st.length<=274877906944):zae g y false l=some (false,l++(tkN y).st,()):=by
 have a1:=zaR y;have a2:=zaA y;have hk: ∀k∈y.L,zW k<=za9 y.L/\zU k<=zaJ y.L:=λk hk=>⟨zaT hk,za7 hk⟩
 rw[zIw h,qz4]at hm;obtain⟨a,r,hL,h1,h2⟩:=zhS hm.2;have ka:=hk a (by rw[hL];simp)
 have kr:za9 r<=za9 y.L:=by rw[hL,zni];omega
 have kr2:zaJ r<=zaJ y.L:=by rw[hL];simp[zaJ]
 rw[zMq h,hL,tk0,tkT,zdC]at hlen⊢
 have hj: ∀w:Str,l.length+(w::zaG (tkN a) 0 false++([58]::zY (tkL r))).length<=274877906944->zdh g (a::r) w false l=some (false,l++(w::zaG (tkN a) 0 false++([58]::zY (tkL r))),()):=by
  intro w hlen;unfold zdh;rw[zar _ _ _ (by simp only[qz5,qz3,qz6]at hlen⊢;omega)]
  simp only[qz1,zCD,zq];rw[G.begin_ a 0 (by omega) (zq4 h1) (by omega) false _ (by simp only[qz5,qz3,qz6]at hlen⊢;omega)]
  simp only[qz1];rw[zar _ _ _ (by simp only[qz5,qz3,qz6]at hlen⊢;omega)]
  rw[zQC];simp only[qz1];rw[G.stmts r _ (by omega) (λk hk=>zBC (h2 k hk)) (by omega) (by simp only[qz5,qz3,qz6]at hlen⊢;omega)]
  simp
 unfold zae;simp only[zq];rw[h,hL];show(if(a.Kind !=42)=true then zdh g (a::r) [99,97,115,101] false l else zdh g (a::r) [100,101,102,97,117,108,116] false l)=_;cases hc:a.Kind !=42 with
 |true=>
  rw[hc]at hlen;exact hj _ hlen
 |false=>
  rw[hc]at hlen;exact hj _ hlen
theorem zUW(G:zbw g n)(y:Node)(l:List Str)(hd:20*zW y+14<=n+1)(ho:zhH y=true)(hb:zU y<=2097152)(hlen:l.length+(tkN y).st.length<=274877906944):zae g y false l=some (false,l++(tkN y).st,()):=by
 have a1:=zaR y;have a2:=zaA y;have hk: ∀k∈y.L,zW k<=za9 y.L/\zU k<=zaJ y.L:=λk hk=>⟨zaT hk,za7 hk⟩
 obtain⟨hm,hK⟩:=zGz ho
 have hloop:27<=y.Kind->y.Kind<=30->Option.bind (g.zca y false l) (λr=>some (r.1,r.2.1,()))=some (false,l++(tkN y).st,()):=λh1 h2=>by
  rw[G.loop y l (by omega) h1 h2 hm hb hlen];rfl
 have hword:(y.Kind=31\/y.Kind=32\/y.Kind=33\/y.Kind=34\/y.Kind=40)->Option.bind (g.zdI y false l) (λr=>some (r.1,r.2.1,()))=some (false,l++(tkN y).st,()):=λh1=>by
  rw[G.word y l (by omega) h1 hm hb hlen];rfl
 rcases hK with h|h|h|h|h|h|h|h|h|h|h|h|h|h|h|h|h|h
 ·rw[zGH h]at hlen⊢;have e:zaG (tkN y) 0 false=[118,97,114]::commas (declT false) (tkL y.L):=by unfold zaG;rw[zdC,zjH,h];rfl
  rw[<-e]at hlen⊢;unfold zae;simp only[zq];rw[h];show Option.bind (g.za3 y 0 false l) (λr=>Option.bind (zn [[59]] r.1 r.2.1) λr=>some (r.1,r.2.1,()))=_;rw[G.begin_ y 0 (by omega) (zHC h hm) hb false l (by simp only[qz5,qz3,qz6]at hlen⊢;omega)]
  simp only[qz1];rw[zar _ _ _ (by simp only[qz5,qz3,qz6]at hlen⊢;omega)]
  simp
 ·exact zQj G y l hd h hm hb hlen
 ·rw[zIv h,qz4]at hm;rw[zC0 h]at hlen⊢;unfold zae;simp only[zq];rw[h];show Option.bind (zn [[123]] false l) (λr=>Option.bind (g.zaU y.L r.1 r.2.1) λr=>Option.bind (zn [[125]] r.1 r.2.1) λr=>some (r.1,r.2.1,()))=_;rw[zar _ _ _ (by simp only[qz5,qz3,qz6]at hlen⊢;omega)]
  simp only[qz1];rw[G.stmts y.L _ (by omega) (λk hk=>zBC (zf2 hm.2 k hk)) (by omega) (by simp only[qz5,qz3,qz6]at hlen⊢;omega)]
  simp only[qz1];rw[zar _ _ _ (by simp only[qz5,qz3,qz6]at hlen⊢;omega)]
  simp
 ·exact zQP G y l hd h hm hb hlen
 ·have:=hloop (by omega) (by omega);unfold zae;simp only[zq];rw[h];exact this
 ·have:=hloop (by omega) (by omega);unfold zae;simp only[zq];rw[h];exact this
 ·have:=hloop (by omega) (by omega);unfold zae;simp only[zq];rw[h];exact this
 ·have:=hloop (by omega) (by omega);unfold zae;simp only[zq];rw[h];exact this
 ·have:=hword (by omega);unfold zae;simp only[zq];rw[h];exact this
 ·have:=hword (by omega);unfold zae;simp only[zq];rw[h];exact this
 ·have:=hword (by omega);unfold zae;simp only[zq];rw[h];exact this
 ·have:=hword (by omega);unfold zae;simp only[zq];rw[h];exact this
 ·exact zPT G y l hd h hm hb hlen
 ·rw[zHm h,qz4]at hm;obtain⟨a,r,hL,h1,h2⟩:=zyX hm.2;have ka:=hk a (by rw[hL];simp)
  have kr:za9 r<=za9 y.L:=by rw[hL,zni];omega
  have kr2:zaJ r<=zaJ y.L:=by rw[hL];simp[zaJ]
  rw[zMe h,hL,tk0,tkT]at hlen⊢;unfold zae;simp only[zq];rw[h,hL];show Option.bind (g.za4 [115,119,105,116,99,104] a false l) (λq=>Option.bind (zn [[123]] q.1 q.2.1) λq=>Option.bind (zaI (a::r) 1 (((a::r).length:Nat):Int)) λs=>Option.bind (g.zaU s q.1 q.2.1) λq=>Option.bind (zn [[125]] q.1 q.2.1) λq=>some (q.1,q.2.1,()))=_;rw[G.head a _ _ (by omega) h1 (by omega) (by simp only[qz5,qz3,qz6]at hlen⊢;omega)]
  simp only[qz1];rw[zar _ _ _ (by simp only[qz5,qz3,qz6]at hlen⊢;omega),zQC]
  simp only[qz1];rw[G.stmts r _ (by omega) (λk hk=>zUE (zrJ h2 k hk)) (by omega) (by simp only[qz5,qz3,qz6]at hlen⊢;omega)]
  simp only[qz1];rw[zar _ _ _ (by simp only[qz5,qz3,qz6]at hlen⊢;omega)]
  simp
 ·exact zPl G y l hd h hm hb hlen
 ·rw[zGW h,qz4]at hm;obtain⟨a,hL,h1⟩:=zdq hm.2;have ka:=hk a (by rw[hL];simp)
  rw[zMr h,hL,tk0]at hlen⊢;unfold zae;simp only[zq];rw[h,hL];show Option.bind (zn [y.Name,[58]] false l) (λr=>Option.bind (g.zaf a r.1 r.2.1) λr=>some (r.1,r.2.1,()))=_;rw[zar _ _ _ (by simp only[qz5,qz3,qz6]at hlen⊢;omega)]
  simp only[qz1];rw[G.stmt a _ (by omega) (zBC h1) (by omega) (by simp only[qz5,qz3,qz6]at hlen⊢;omega)]
  simp
 ·rw[zIz h,qz4]at hm;rw[zMB h]at hlen⊢;unfold zae;simp only[zq];rw[h];show Option.bind (g.zbs y false l) (λr=>some (r.1,r.2.1,()))=_;rw[G.func y (by omega) (λk hk=>zBE (zf2 hm.2 k hk)) hb false l hlen];rfl
 ·have:=hword (by omega);unfold zae;simp only[zq];rw[h];exact this
end
theorem zOI: ∀n:Nat,zbw (zy n) n
 |0=>⟨by intros;omega,by intros;omega,by intros;omega,by intros;omega,by intros;omega,by intros;omega,by intros;omega,by intros;omega,by intros;omega,by intros;omega,by intros;omega,by intros;omega,by intros;omega,by intros;omega,by intros;omega,by intros;omega,by intros;omega,by intros;omega,by intros;omega,by intros;omega,by intros;omega,by intros;omega,by intros;omega,by intros;omega,by intros;omega⟩
 |n+1=>
  have G:=zOI n
  ⟨w_at G,zQz G,zVv G,zUb G,zVC G,zT2 G,zWj G,zUm G,zUc G,zVn G,zVd G,zRZ G,zWL G,zVT G,zUv G,zVJ G,zT4 G,zVE G,zU7 G,zT5 G,zSG G,zVg G,zUe G,zUW G,zR0 G⟩
theorem zKl(ls:List Node)(hk: ∀k∈ls,zhH k=true)(hb:zaJ ls<=2097152)(hd:za9 ls<=10000000)(hlen:(zY (tkL ls)).length<=274877906944):zaU ls false []=some (false,zY (tkL ls),()):=by
 have:=(zOI 1000000000000).stmts ls [] (by omega) hk hb (by simpa using hlen);rw[List.nil_append]at this;exact this
noncomputable section
def wt(l:List Str):Nat:=(l.map λs=>s.length+1).sum
theorem zk5:wt []=0:=rfl
theorem zd5(s:Str)(l:List Str):wt (s::l)=s.length+1+wt l:=by simp[wt]
theorem zkG(a b:List Str):wt (a++b)=wt a+wt b:=by simp[wt]
theorem zUi(l:List Str):l.length<=wt l:=zr7 l
mutual
def wN:Node->Nat
 | ⟨_,n,m,t,ns,l⟩=>n.length+(zdm t).length+(Lib.itoa m).length+(ns.map λs=>s.length+3).sum+100+wL l
def wL:List Node->Nat
 | []=>0
 |x::r=>wN x+wL r
end
theorem zxp(x:Node):wN x=x.Name.length+(zdm x.Text).length+(Lib.itoa x.Num).length+(x.Names.map λs=>s.length+3).sum+100+wL x.L:=by cases x;simp[wN]
theorem zet(x:Node)(r:List Node):wL (x::r)=wN x+wL r:=by simp[wL]
theorem zHx(x:Node)(ls:Str): ∀(l:List Node) (i e:Nat),zhV x ls (zj6 l) i e=true->∀k∈l,zat k=true
 | [],_,_,_,k,hk=>by cases hk
 |y::r,i,e,h,k,hk=>by
  simp only[zj6,zhV]at h;split at h
  · cases h
  · simp only[qz4]at h;rcases yP.1 hk with rfl|hk
    · exact h.1.2
    · exact zHx x ls r _ _ h.2 k hk
theorem zFG{x:Node}(h:zat x=true):zhu x.Text=true/\∀k∈x.L,zat k=true:=by
 rw[zre]at h;unfold zzB at h;split at h
 ·cases h
 ·simp only[qz4,zwr]at h;exact⟨h.1.1.2.1.1.1,zHx x _ _ _ _ h.2⟩
theorem zN2: ∀l:List Str,(l.map λs=>s.length+3).sum<=3*(l.map λs=>s.length+1).sum
 | []=>by simp
 |x::r=>by simp only[List.map_cons,List.sum_cons];have:=zN2 r;omega
theorem zFW(s:Str)(hs:s.length<=100000000)(he:zhu s=true):(zdm s).length<=3*s.length+2:=by
 have h1:=zoy s hs he;have h2:=zz3 s hs he;rw[h1]at h2;simp only[Option.some.injEq,Prod.mk.injEq]at h2;rw[<-h2.1];exact zIo s
theorem zFD{x:Node}(h:okN x):i64 x.Num/\okL x.L:=by
 cases x;simp only[okN]at h;exact h.2
mutual
theorem zSI: ∀x:Node,okN x->zat x=true->zU x<=100000000->wN x<=30*zU x
 | ⟨k,n,m,t,ns,l⟩,ho,hm,hb=>by
  obtain⟨h1,h2⟩:=zFG hm;obtain⟨h3,h4⟩:=zFD ho;have b:=zaA ⟨k,n,m,t,ns,l⟩;have w:=zxp ⟨k,n,m,t,ns,l⟩;simp only at h1 h2 h3 h4 b w;have hL:=zEF l h4 h2 (by omega);have hq:=zFW t (by omega) h1;have hi:=Lib.itoa_length_le m h3.1 (by have:=h3.2;omega)
  have hs:=zN2 ns;omega
theorem zEF: ∀l:List Node,okL l->(∀k∈l,zat k=true)->zaJ l<=100000000->wL l<=30*zaJ l
 | [],_,_,_=>by simp[wL]
 |x::r,ho,hm,hb=>by
  simp only[okL]at ho;simp only[zaJ]at hb⊢;rw[zet];have:=zSI x ho.1 (hm x qz7) (by omega);have:=zEF r ho.2 (λk hk=>hm k (qz8 _ hk)) (by omega);omega
end
structure Few (y:Node):Prop where
 ex: ∀no,wt ((tkN y).ex no)+8<=wN y
 st:wt (tkN y).st+8<=wN y
 item: ∀no,wt (zah no (tkN y))+4<=wN y
 decl: ∀no,wt (declT no (tkN y))+4<=wN y
 beg: ∀least no,wt (zaG (tkN y) least no)+4<=wN y
theorem ziz{y:Node}(h: ∀no,wt ((tkN y).ex no)+8<=wN y)(least:Int)(no:Bool):wt (atT (tkN y) least no)+4<=wN y:=by
 unfold atT;have h1:=h false;have h2:=h no;split
 ·simp only[zd5,zkG,zk5,qz3,qz6];omega
 ·omega
theorem zDx(ls:List Node)(f:Tk->List Str)(h: ∀k∈ls,wt (f (tkN k))<=wN k):wt (k0 (tkL ls) f)<=wL ls:=by
 rcases ls with _| ⟨a,r⟩
 ·simp[tkL,k0,wt]
 ·rw[tk0,zet];have:=h a qz7;omega
theorem zO6(ls:List Node)(f:Node->List Str)(h: ∀k∈ls,wt (f k)+4<=wN k):wt (ls.flatMap λq=>[44]::f q)<=wL ls:=by
 induction ls with
 |nil=>simp[wt,wL]
 |cons a r ih=>
  have:=ih λk hk=>h k (qz8 _ hk)
  have:=h a qz7;rw[List.flatMap_cons,zkG,zd5,zet];simp only[qz3,qz6];omega
theorem zqj(ls:List Node)(f:Tk->List Str)(h: ∀k∈ls,wt (f (tkN k))+4<=wN k):wt (commas f (tkL ls))<=wL ls:=by
 rw[zzb];rcases ls with _| ⟨a,r⟩
 ·simp[zkQ,wt]
 ·have:=zO6 r (λy=>f (tkN y)) λk hk=>h k (qz8 _ hk)
  have:=h a qz7;simp only[zkQ,zkG];rw[zet];omega
theorem zrn(ls:List Node)(f:Tk->List Str)(h: ∀k∈ls,wt (f (tkN k))+4<=wN k):wt ((tkL ls).flatMap f)<=wL ls:=by
 induction ls with
 |nil=>simp[wt,wL,tkL]
 |cons a r ih=>
  have:=ih λk hk=>h k (qz8 _ hk)
  have:=h a qz7;rw[show tkL (a::r)=tkN a::tkL r by simp[tkL],List.flatMap_cons,zkG,zet];omega
theorem zrm(ls:List Node)(f0 f1 f2 f3:Tk->List Str)(p q r s:Nat)(h: ∀k∈ls,wt (f0 (tkN k))<=wN k+p/\wt (f1 (tkN k))<=wN k+q/\wt (f2 (tkN k))<=wN k+r/\wt (f3 (tkN k))<=wN k+s):
  wt (k0 (tkL ls) f0)+(wt (k1 (tkL ls) f1)+(wt (k2 (tkL ls) f2)+wt (k3 (tkL ls) f3)))<=wL ls+p+q+r+s:=by
 rcases ls with _| ⟨a,_| ⟨b,_| ⟨c,_| ⟨d,l⟩⟩⟩⟩
 ·simp[tkL,k0,k1,k2,k3,wt]
 ·have:=(h a (by simp)).1;rw[tk0,zet];simp only[tkL,k1,k2,k3,zk5];omega
 ·have:=(h a (by simp)).1;have:=(h b (by simp)).2.1;rw[tk0,tk1,zet,zet];simp only[tkL,k2,k3,zk5];omega
 ·have:=(h a (by simp)).1;have:=(h b (by simp)).2.1;have:=(h c (by simp)).2.2.1;rw[tk0,tk1,tk2,zet,zet,zet];simp only[tkL,k3,zk5];omega
 ·have:=(h a (by simp)).1;have:=(h b (by simp)).2.1;have:=(h c (by simp)).2.2.1;have:=(h d (by simp)).2.2.2;rw[tk0,tk1,tk2,tk3,zet,zet,zet,zet];omega
theorem zUk(ls:List Node)(f0 f1 f2 f3:Tk->List Str)(h: ∀k∈ls,wt (f0 (tkN k))<=wN k/\wt (f1 (tkN k))<=wN k/\wt (f2 (tkN k))<=wN k/\wt (f3 (tkN k))<=wN k):
  wt (k0 (tkL ls) f0)+(wt (k1 (tkL ls) f1)+(wt (k2 (tkL ls) f2)+wt (k3 (tkL ls) f3)))<=wL ls:=zrm ls f0 f1 f2 f3 0 0 0 0 h
theorem zEl(ls:List Node)(f g:Tk->List Str)(h: ∀k∈ls,wt (f (tkN k))<=wN k)(hg: ∀k∈ls,wt (g (tkN k))+4<=wN k):wt (k0 (tkL ls) f)+wt (commas g (tkL ls).tail)<=wL ls:=by
 rcases ls with _| ⟨a,r⟩
 ·simp[tkL,k0,commas,wt]
 ·have:=zqj r g λk hk=>hg k (qz8 _ hk)
  have:=h a qz7;rw[tk0,tkT,zet];omega
theorem zxL(ls:List Node)(f g:Tk->List Str)(p:Nat)(h: ∀k∈ls,wt (f (tkN k))<=wN k+p)(hg: ∀k∈ls,wt (g (tkN k))+4<=wN k):wt (k0 (tkL ls) f)+wt ((tkL ls).tail.flatMap g)<=wL ls+p:=by
 rcases ls with _| ⟨a,r⟩
 ·simp[tkL,k0,wt]
 ·have:=zrn r g λk hk=>hg k (qz8 _ hk)
  have:=h a qz7;rw[tk0,tkT,zet];omega
theorem zNf(ns:List Str):wt (namesT ns)<=(ns.map λs=>s.length+3).sum:=by
 have key: ∀r:List Str,wt (r.flatMap λq=>[[44],q])<=(r.map λs=>s.length+3).sum:=by
  intro r;induction r with
  |nil=>simp[wt]
  |cons a r ih=>rw[List.flatMap_cons,zkG];simp only[zd5,zk5,List.map_cons,List.sum_cons,qz3,qz6];omega
 rcases ns with _| ⟨a,r⟩
 ·simp[namesT,wt]
 ·have:=key r;simp only[namesT,zd5,List.map_cons,List.sum_cons];omega
theorem zK9(s:Str):wt (if(s==([]:Str))=true then[]else[s])<=s.length+1:=by
 split
 ·simp[wt]
 ·simp[wt]
theorem zG4(x:Node)(h: ∀k∈x.L,Few k):wt (zf7 x (tkL x.L))+60<=wN x:=by
 have h1:=zxp x;have h2:=zNf x.Names;have h3:=zrn x.L Tk.st λk hk=>by have:=(h k hk).st;omega
 have h4:=zK9 x.Name;unfold zf7 zY;simp only[zd5,zkG,zk5,qz3,qz6];omega
theorem zPg(x:Node):wt (zhx x)<=x.Name.length+20:=by
 have h4:=zK9 x.Name;unfold zhx;rw[zkG]
 have:wt (if(x.Kind==31)=true then[[98,114,101,97,107]]else if(x.Kind==32)=true then[[99,111,110,116,105,110,117,101]]else if(x.Kind==33)=true then[[114,101,116,117,114,110]]else if(x.Kind==34)=true then[[116,104,114,111,119]]else([]:List Str))<=10:=by
  split
  · decide
  · split
    · decide
    · split
      ·decide
      ·split<;>decide
 omega
theorem zP1(l:List Str):wt (zb1 l)<=wt l+4:=by
 unfold zb1;split
 ·simp[wt]
 ·split
  · simp only[zd5,zkG,zk5,qz3,qz6];omega
  · omega
theorem zPs(w:Str)(k:Node)(h:Few k):wt (zc6 w (tkN k))<=wN k+w.length+1:=by
 have:=ziz h.ex 0 false;unfold zc6;simp only[zd5,zkG,zk5,qz3,qz6];omega
theorem zD5(b:Bool):(Lib.formatBool b).length<=5:=by cases b<;>decide
theorem zLn{c:Prop}{d:Decidable c}{a b:List Str}{n m:Nat}(h1:c->wt a+n<=m)(h2: ¬c->wt b+n<=m):wt (if c then a else b)+n<=m:=by
 split
 ·exact h1 (by assumption)
 ·exact h2 (by assumption)
theorem zIV(x:Node)(h: ∀k∈x.L,Few k)(no:Bool):wt ((tkN x).ex no)+30<=wN x:=by
 have h1:=zxp x
 have A: ∀(a b c d:Int) (n1 n2 n3 n4:Bool),wt (k0 (tkL x.L) λk=>atT k a n1)+(wt (k1 (tkL x.L) λk=>atT k b n2)+(wt (k2 (tkL x.L) λk=>atT k c n3)+wt (k3 (tkL x.L) λk=>atT k d n4)))<=wL x.L:=λa b c d n1 n2 n3 n4=>
  zUk x.L _ _ _ _ λk hk=>⟨by have:=ziz (h k hk).ex a n1;omega,by have:=ziz (h k hk).ex b n2;omega,by have:=ziz (h k hk).ex c n3;omega,by have:=ziz (h k hk).ex d n4;omega⟩
 have C:wt (commas (zah false) (tkL x.L))<=wL x.L:=zqj x.L _ λk hk=>(h k hk).item false
 have T: ∀(a:Int),wt (k0 (tkL x.L) λk=>atT k a no)+wt (commas (zah false) (tkL x.L).tail)<=wL x.L:=λa=>zEl x.L _ _ (λk hk=>by have:=ziz (h k hk).ex a no;omega) λk hk=>(h k hk).item false
 have F:=zG4 x h;have B:=zD5 (x.Num==1);rw[zVx];unfold exT
 repeat' refine zLn (λ_=>?_) (λ_=>?_)
 all_goals try simp only[zd5,zkG,zk5,qz3,qz6]
 all_goals first
  |omega
  | (have:=T 11;omega)
  | (have:=T 12;omega)
  | (have:=A 11 0 0 0 no false no no;omega)
  | (have:=A 9 0 0 0 no false no no;omega)
  | (have:=A 3 1 1 0 no false no no;omega)
  | (have:=A 11 1 1 0 no no no no;omega)
  | (have:=A 0 1 1 0 no no no no;omega)
  | (have:=A (tkN x).lvl ((tkN x).lvl+1) 1 0 no no no no;omega)
theorem zTo(x:Node)(h: ∀k∈x.L,Few k)(least:Int)(no:Bool):wt (zaG (tkN x) least no)+4<=wN x:=by
 have h1:=zxp x;have h2:=ziz (y:=x) (λno=>by have:=zIV x h no;omega) least no
 have h3:wt (commas (declT no) (tkL x.L))<=wL x.L:=zqj x.L _ λk hk=>(h k hk).decl no
 unfold zaG;rw[zjH];split
 ·simp only[zk5];omega
 ·split
  · simp only[zd5,qz3,qz6];omega
  · exact h2
theorem zVa(x:Node)(h: ∀k∈x.L,Few k):wt (tkN x).st+8<=wN x:=by
 have h1:=zxp x;have D:wt (commas (declT false) (tkL x.L))<=wL x.L:=zqj x.L _ λk hk=>(h k hk).decl false
 have S:wt ((tkL x.L).flatMap Tk.st)<=wL x.L:=zrn x.L _ λk hk=>by have:=(h k hk).st;omega
 have W:=zPg x;have F:=zG4 x h;have V:wt ((tkL x.L).flatMap λk=>atT k 0 false)<=wL x.L:=zrn x.L _ λk hk=>ziz (h k hk).ex 0 false
 have B:wt (zb1 (k0 (tkL x.L) λk=>atT k 0 false))<=wL x.L+4:=by
  have:=zP1 (k0 (tkL x.L) λk=>atT k 0 false);have:=zDx x.L (λk=>atT k 0 false) λk hk=>by have:=ziz (h k hk).ex 0 false;omega
  omega
 have H: ∀w:Str,w.length<=8->∀k∈x.L,wt (zc6 w (tkN k))<=wN k+9:=λw hw k hk=>by have:=zPs w k (h k hk);omega
 have S1: ∀k∈x.L,wt (tkN k).st+8<=wN k:=λk hk=>(h k hk).st
 have B1: ∀(a:Int) (n:Bool),∀k∈x.L,wt (zaG (tkN k) a n)<=wN k:=λa n k hk=>by have:=(h k hk).beg a n;omega
 have A1: ∀(a:Int) (n:Bool),∀k∈x.L,wt (atT (tkN k) a n)<=wN k:=λa n k hk=>by have:=ziz (h k hk).ex a n;omega
 have Z26:=zrm x.L (zc6 [105,102]) Tk.st (λk=>[101,108,115,101]::k.st) (λ_=>[]) 9 0 0 0 λk hk=>⟨H _ (by decide) k hk,by have:=S1 k hk;omega,by have:=S1 k hk;rw[zd5];simp only[qz3,qz6];omega,by simp[wt]⟩
 have Z27:=zrm x.L (zc6 [119,104,105,108,101]) Tk.st (λ_=>[]) (λ_=>[]) 9 0 0 0 λk hk=>⟨H _ (by decide) k hk,by have:=S1 k hk;omega,by simp[wt],by simp[wt]⟩
 have Z28:=zrm x.L Tk.st (zc6 [119,104,105,108,101]) (λ_=>[]) (λ_=>[]) 0 9 0 0 λk hk=>⟨by have:=S1 k hk;omega,H _ (by decide) k hk,by simp[wt],by simp[wt]⟩
 have Z29:=zrm x.L (λk=>zaG k 0 true) (λk=>zaG k 0 false) (λk=>zaG k 0 false) Tk.st 0 0 0 0 λk hk=>⟨B1 _ _ k hk,B1 _ _ k hk,B1 _ _ k hk,by have:=S1 k hk;omega⟩
 have Z30:=zrm x.L (λk=>zaG k 11 true) (λk=>atT k 0 false) Tk.st (λ_=>[]) 0 0 0 0 λk hk=>⟨B1 _ _ k hk,A1 _ _ k hk,by have:=S1 k hk;omega,by simp[wt]⟩
 have Z35:=zrm x.L Tk.st (λk=>if(k.x.Kind==25)=true then[99,97,116,99,104]::[40]::x.Name::[41]::k.st else[]) (λk=>if(k.x.Kind==25)=true then[102,105,110,97,108,108,121]::k.st else[]) (λ_=>[]) 0 (x.Name.length+10) 0 0 λk hk=>⟨by have:=S1 k hk;omega,by
  have:=S1 k hk;split
  · simp only[zd5,qz3,qz6];omega
  · simp[wt],by
  have:=S1 k hk;split
  · simp only[zd5,qz3,qz6];omega
  · simp[wt],by simp[wt]⟩
 have Z36:=zxL x.L (zc6 [115,119,105,116,99,104]) Tk.st 9 (H _ (by decide)) λk hk=>by have:=S1 k hk;omega
 have Z37:=zxL x.L (λk=>(if(k.x.Kind !=42)=true then[99,97,115,101]else[100,101,102,97,117,108,116])::zaG k 0 false) Tk.st 9 (λk hk=>by
  have:=B1 0 false k hk;rw[zd5];have:(if((tkN k).x.Kind !=42)=true then[99,97,115,101]else[100,101,102,97,117,108,116]:Str).length<=7:=by split<;>decide
  omega) λk hk=>by have:=S1 k hk;omega
 have Z38:=zDx x.L Tk.st λk hk=>by have:=S1 k hk;omega
 rw[show(tkN x).st=stT x (tkL x.L) by rw[za0];rfl]
 unfold stT zY
 repeat' refine zLn (λ_=>?_) (λ_=>?_)
 all_goals try simp only[zd5,zkG,zk5,qz3,qz6]
 all_goals omega
theorem zQM(x:Node)(h: ∀k∈x.L,Few k)(no:Bool):wt (zah no (tkN x))+4<=wN x:=by
 have h1:=zxp x;have h2:=ziz (y:=x) (λno=>by have:=zIV x h no;omega) 1 no
 have h3:=zDx x.L (λk=>atT k 1 no) λk hk=>by have:=ziz (h k hk).ex 1 no;omega
 unfold zah;rw[zjH,zdC];split
 ·simp only[zd5,qz3,qz6];omega
 ·exact h2
theorem zP4(x:Node)(h: ∀k∈x.L,Few k)(no:Bool):wt (declT no (tkN x))+4<=wN x:=by
 have h1:=zxp x;have h3:=zDx x.L (λk=>[61]::atT k 1 no) λk hk=>by have:=ziz (h k hk).ex 1 no;rw[zd5];simp only[qz3,qz6];omega
 unfold declT;rw[zjH,zdC];simp only[zd5];omega
mutual
theorem zRg: ∀x:Node,Few x
 | ⟨k,n,m,t,ns,l⟩=>
  have h: ∀q∈(⟨k,n,m,t,ns,l⟩:Node).L,Few q:=zRo l
  ⟨λno=>by have:=zIV _ h no;omega,zVa _ h,zQM _ h,zP4 _ h,zTo _ h⟩
theorem zRo: ∀(l:List Node),∀q∈l,Few q
 | [],q,hq=>by cases hq
 |x::r,q,hq=>by
  have hx:=zRg x;rcases yP.1 hq with h|hq
  · exact h▸hx
  · exact zRo r q hq
end
theorem zNO(ls:List Node):wt (zY (tkL ls))<=wL ls:=zrn ls Tk.st λk hk=>by have:=(zRg k).st;omega
theorem zTk(l:List Str):(Lib.join l [32]).length<=wt l:=by
 rcases l with _| ⟨a,r⟩
 ·simp[Lib.join_nil,wt]
 ·rw[Lib.join_length]
  have key: ∀l:List Str,wt l=l.length+Lib.lens l:=by
    intro l;induction l with
    |nil=>rfl
    |cons a r ih=>rw[zd5,ih];simp only[Lib.lens,List.map_cons,List.sum_cons,qz3];omega
  rw[key];simp only[qz3,qz6];omega
def znL(x:Node):Str×Int:=
 if(zng x !=0)=true then([],zng x)else if 4096< (Lib.join (zY (tkL x.L)) [32]).length then([],2)else(Lib.join (zY (tkL x.L)) [32],0)
theorem zIO{x:Node}(h:zng x=0):x.Kind=41/\zat x=true/\zW x<=64:=by
 unfold zng at h;split at h
 ·rename_i hc;rw[qz4]at hc;split at h
  · exact absurd h (by decide)
  · exact⟨eq_of_beq hc.1,hc.2,by omega⟩
 ·exact absurd h (by decide)
theorem zyY{x:Node}(h:x.Kind=41)(hm:zat x=true): ∀k∈x.L,zhH k=true:=by
 rw[zNQ h,qz4]at hm;exact λk hk=>zBE (zf2 hm.2 k hk)
theorem zH6(x:Node)(ho:okN x)(hb:zU x<=2097152):zts x=some ((znL x).1,(znL x).2,()):=by
 unfold zts znL;simp only[zq,zF7 x hb,qz1];cases hc:zng x !=0 with
 |true=>rfl
 |false=>
  have hc:zng x=0:=by simpa using hc
  obtain⟨h1,h2,h3⟩:=zIO hc;have a1:=zaR x;have a2:=zaA x;obtain⟨p1,p2⟩:=zFG h2;have w1:=zNO x.L;have w2:=zEF x.L (zFD ho).2 p2 (by omega);have w3:=zUi (zY (tkL x.L));have w4:=zTk (zY (tkL x.L));have hw:=zKl x.L (zyY h1 h2) (by omega) (by omega) (by omega);simp only[qz2,yA,hw,qz1];unfold strings_Join;rw[yL ⟨by omega,by omega⟩];simp only[qz1];by_cases hl:4096< (Lib.join (zY (tkL x.L)) [32]).length
  · rw[yL hl,yL (by simpa using by omega)]
  · rw[yK hl,yK (by simpa using by omega)]
end
def zV3(l:List Node):Node:=⟨41,[],0,[],[],l⟩
theorem zqp(a b:Str)(r:List Str):Lib.join (a::b::r) [32]=a++([32]++Lib.join (b::r) [32]):=by
 simp[Lib.join,List.intercalate]
theorem zHu: ∀(a b:List Str),a≠[]->b≠[]->Lib.join (a++b) [32]=Lib.join a [32]++([32]++Lib.join b [32])
 | [],_,h,_=>absurd rfl h
 | [x],[],_,h=>absurd rfl h
 | [x],y::r,_,_=>by rw[List.singleton_append,zqp,Lib.join_one]
 |x::y::r,b,_,hb=>by
  have ih:=zHu (y::r) b (by simp) hb;rw[show(x::y::r)++b=x::y::(r++b) by simp,zqp,zqp];rw[show(y::r)++b=y::(r++b) by simp]at ih;rw[ih];simp
theorem zSD{x:Node}(h:(znL x).2=0):x.Kind=41/\zat x=true/\zW x<=64/\(znL x).1=Lib.join (zY (tkL x.L)) [32]/\(znL x).1.length<=4096:=by
 unfold znL at h⊢;split at h
 ·rename_i hc;exact absurd h (by simpa using hc)
 ·rename_i hc;rw[yK hc];have hc:zng x=0:=by simpa using hc
  obtain⟨h1,h2,h3⟩:=zIO hc;split at h
  ·exact absurd h (by decide)
  ·rename_i hl;rw[yK hl];exact⟨h1,h2,h3,rfl,by simpa using hl⟩
theorem zCH{s t:Str}(h1:s.length<=100000)(h2:t.length<=100000):zh9 s t=some (s++t):=zoF (by omega)
theorem zS8{y:Node}(h:zO y 120=true):zO y 115= !(y.Kind==39):=by
 have h1:stK y.Kind true=true:=zfX h;have h2:=zbY h;show(stK y.Kind false&&zat y)=_;rw[h2,Bool.and_true];unfold stK at h1⊢;simp only[Bool.or_true,Bool.and_true]at h1;rw[h1,Bool.true_and,Bool.or_false];rfl
section
variable (c:Str->Tok)
structure RA (x:Node):Prop where
 ex:zO x 101=true->RT c x
 st:zO x 115=true->SR c x
 fn:x.Kind=39->zat x=true->FN c x
 cs:x.Kind=37->zat x=true->CS c x
 pr:x.Kind=9->zat x=true->∃a,zDu c x a
 de:x.Kind=23->zat x=true->x=ndN 23 x.Name x.L/\zbU x.Name=true/\(x.L=[]\/∃a,x.L=[a]/\RT c a)
 vd:x.Kind=22->zat x=true->VD c x
 bk:x.Kind=25->zat x=true->BK c x
 em:x.Kind=42->zat x=true->x=nd 42 []
variable {c}
theorem RA.b{x:Node}(h:RA c x)(ho:zO x 98=true):BK c x:=h.bk (eq_of_beq (show(x.Kind==25)=true from zfX ho)) (zbY ho)
theorem RA.item{x:Node}(h:RA c x)(ho:zO x 101=true):RT c x/\x.Kind≠9:=by
 refine⟨h.ex ho,λe=>?_⟩;have:=(zcN ho).1;rw[e]at this;exact absurd this (by decide)
theorem RA.f{x:Node}(h:RA c x)(ho:zO x 102=true):x=nd 42 []\/(zcu x.Kind=true/\RT c x):=by
 have h1:(zcu x.Kind||x.Kind==42)=true:=zfX ho;rw[yQ]at h1;rcases h1 with h1|h1
 ·exact .inr ⟨h1,h.ex (by rw[zuF,h1,zbY ho];rfl)⟩
 ·exact .inl (h.em (eq_of_beq h1) (zbY ho))
theorem RA.v{x:Node}(h:RA c x)(ho:zO x 118=true):(x.Kind=42/\x=nd 42 [])\/(x.Kind=22/\VD c x)\/(zcu x.Kind=true/\RT c x):=by
 rcases zBK (zEo ho)with h1|h1|h1
 ·exact .inl ⟨h1,h.em h1 (zbY ho)⟩
 ·exact .inr (.inl ⟨h1,h.vd h1 (zbY ho)⟩)
 ·exact .inr (.inr ⟨(zcN h1).1,h.ex h1⟩)
theorem RA.w{x:Node}(h:RA c x)(ho:zO x 119=true):((x.Kind=22/\VD c x)\/(zcu x.Kind=true/\RT c x))/\zl9 x=true:=by
 have h1:(zdw x.Kind||(x.Kind==22&&(match x.L with| [d]=>d.L.isEmpty|_=>false)))=true:=zfX ho;rw[yQ]at h1;rcases h1 with h1|h1
 ·have he:zcu x.Kind=true:=by
   simp only[zdw,yQ,beq_iff_eq]at h1;rcases h1 with(h|h)|h<;>rw[h]<;>rfl
  refine⟨.inr ⟨he,h.ex (by rw[zuF,he,zbY ho];rfl)⟩,?_⟩
  unfold zl9;rw[(zrb he).2.1];exact h1
 ·rw[qz4]at h1;refine⟨.inl ⟨eq_of_beq h1.1,h.vd (eq_of_beq h1.1) (zbY ho)⟩,?_⟩;unfold zl9;rw[h1.1];exact h1.2
theorem RA.c99{x:Node}(h:RA c x)(ho:zO x 99=true):BK c x\/x=nd 42 []:=by
 rcases zzK ho with⟨_,h1⟩|h1
 ·exact .inl (h.b h1)
 ·exact .inr (h.em h1 (zbY ho))
theorem RA.zVj{x:Node}(h:RA c x)(ho:zO x 120=true):SR c x\/FN c x:=by
 by_cases hk:x.Kind=39
 ·exact .inr (h.fn hk (zbY ho))
 ·refine .inl (h.st ?_);rw[zS8 ho];rw[show(x.Kind==39)=false by rw[yH];exact hk];rfl
variable (C:Cls c)
include C
theorem zWd(x:Node)(hb:zU x<=2097152)(h: ∀k∈x.L,RA c k)(ho:zO x 101=true):RT c x:=by
 obtain⟨he,hm⟩:=zcN ho;have a2:=zaA x;have hi: ∀k∈x.L,zO k 101=true->RT c k/\k.Kind≠9:=λk hk h1=>(h k hk).item h1
 rcases zgz he with e|e|e|e|e|e|e|e|e|e|e|e|e|e|e|e|e|e|e|e
 ·rw[zMa e,qz4]at hm;exact zWA C e hm.1 (zgr hm.2)
 ·rw[zM4 e,qz4]at hm;exact zWE C e hm.1 (zgr hm.2) (by omega)
 ·rw[zRk e,qz4]at hm;exact zWC C e hm.1 (zgr hm.2)
 ·rw[zVM e,qz4]at hm;exact zWK C e hm.1 (zgr hm.2)
 ·rw[zVz e,qz4]at hm;exact zWP C e hm.1 (zgr hm.2)
 ·rw[zVF e,qz4]at hm;exact zWW C e hm.1 (zgr hm.2)
 ·rw[zMR e,qz4]at hm;exact zWz C e hm.1 λk hk=>hi k hk (zf2 hm.2 k hk)
 ·rw[zL8 e,qz4]at hm;exact zWG C e hm.1 λk hk=>(h k hk).pr (eq_of_beq (show(k.Kind==9)=true from zfX (zf2 hm.2 k hk))) (zbY (zf2 hm.2 k hk))
 ·rw[zI3 e,qz4]at hm;exact zV6 C e λr=>zFB C e (.inl rfl) hm.1 (λy hy=>(h y hy).zVj (zf2 hm.2 y hy)) r
 ·rw[zCi e,qz4]at hm;obtain⟨a,hL,h1⟩:=zdq hm.2;exact zVY C e hm.1 hL ((h a (by rw[hL];simp)).ex h1)
 ·rw[zDG e,qz4]at hm;obtain⟨a,b,hL,h1,h2⟩:=zdT hm.2;exact zVs C e hm.1 hL ((h a (by rw[hL];simp)).ex h1) ((h b (by rw[hL];simp)).ex h2)
 ·rw[zGY e,qz4]at hm;obtain⟨a,l,hL,h1,h2⟩:=zhS hm.2;exact zWm C e hm.1 hL ((h a (by rw[hL];simp)).ex h1) λk hk=>(h k (by rw[hL];exact qz8 _ hk)).item (h2 k hk)
 ·rw[zJs e,qz4]at hm;obtain⟨a,l,hL,h1,h2⟩:=zhS hm.2;exact zVQ C e hm.1 hL ((h a (by rw[hL];simp)).ex h1) λk hk=>(h k (by rw[hL];exact qz8 _ hk)).item (h2 k hk)
 ·rw[zHy e,qz4]at hm;obtain⟨a,hL,h1⟩:=zdq hm.2;exact zVt C e hm.1 hL ((h a (by rw[hL];simp)).ex h1)
 ·rw[zDf e,qz4]at hm;obtain⟨a,hL,h1⟩:=zdq hm.2;exact zWv C e hm.1 hL ((h a (by rw[hL];simp)).ex (zra h1)) (zfX h1)
 ·rw[zHv e,qz4]at hm;obtain⟨a,b,hL,h1,h2⟩:=zdT hm.2;exact zRh C (.inl rfl) e hm.1 hL (by have:=zRp e;omega) (λno hi=>zPA e hm.1 no hi) ((h a (by rw[hL];simp)).ex h1) ((h b (by rw[hL];simp)).ex h2)
 ·rw[zDs e,qz4]at hm;obtain⟨a,b,hL,h1,h2⟩:=zdT hm.2;exact zRh C (.inr rfl) e hm.1 hL (by have:=zRy e hm.1;omega) (λno _=>zPF e hm.1 no) ((h a (by rw[hL];simp)).ex h1) ((h b (by rw[hL];simp)).ex h2)
 ·rw[zIy e,qz4]at hm;obtain⟨a,b,d,hL,h1,h2,h3⟩:=zr1 hm.2;exact zWu C e hm.1 hL ((h a (by rw[hL];simp)).ex h1) ((h b (by rw[hL];simp)).ex h2) ((h d (by rw[hL];simp)).ex h3)
 ·rw[zHD e,qz4]at hm;obtain⟨a,b,hL,h1,h2⟩:=zdT hm.2;exact zV4 C e hm.1 hL ((h a (by rw[hL];simp)).ex (zra h1)) ((h b (by rw[hL];simp)).ex h2) (zfX h1)
 ·rw[zIx e,qz4]at hm;obtain⟨a,b,hL,h1,h2⟩:=zdT hm.2;exact zV5 C e hm.1 hL ((h a (by rw[hL];simp)).ex h1) ((h b (by rw[hL];simp)).ex h2)
theorem zRA(x:Node)(h: ∀k∈x.L,RA c k)(e:x.Kind=25)(hm:zat x=true):BK c x:=by
 rw[zIv e,qz4]at hm;exact⟨e,zMd C e hm.1 λy hy=>(h y hy).st (zf2 hm.2 y hy)⟩
theorem zRj(x:Node)(h: ∀k∈x.L,RA c k)(e:x.Kind=22)(hm:zat x=true):VD c x:=by
 rw[zIY e,qz4]at hm;obtain⟨d,l,hL,h1,h2⟩:=zhS hm.2
 have hk: ∀k∈x.L,zO k 100=true:=by
  rw[hL];intro k hk;rcases yP.1 hk with rfl|hk
  ·exact h1
  ·exact h2 k hk
 exact⟨zd0 e hm.1 (by decide) (by decide),⟨d,l,hL⟩,λk hk1=>(h k hk1).de (zAZ (hk k hk1)).1 (zbY (hk k hk1))⟩
theorem zWh(x:Node)(h: ∀k∈x.L,RA c k)(ho:zO x 115=true):SR c x:=by
 obtain⟨hm,hK⟩:=zGz (zBC ho);have h1:stK x.Kind false=true:=zfX ho;rcases hK with e|e|e|e|e|e|e|e|e|e|e|e|e|e|e|e|e|e
 ·exact zWx C e (zRj C x h e hm)
 ·rw[zCK e,qz4]at hm;obtain⟨a,hL,h1⟩:=zdq hm.2;exact zVI C e hm.1 hL ((h a (by rw[hL];simp)).ex h1) h1
 ·exact zVO C (zRA C x h e hm)
 ·rw[zHU e,qz4]at hm;rcases zLv hm.2 with⟨a,b,hL,h1,h2⟩| ⟨a,b,d,hL,h1,h2,h3⟩
  ·exact zVH C e hm.1 hL ((h a (by rw[hL];simp)).ex h1) ((h b (by rw[hL];simp)).b h2)
  ·exact zUD C e hm.1 hL ((h a (by rw[hL];simp)).ex h1) ((h b (by rw[hL];simp)).b h2) ((h d (by rw[hL];simp)).b h3)
 ·rw[zH8 e,qz4]at hm;obtain⟨a,b,hL,h1,h2⟩:=zdT hm.2;exact zVZ C e hm.1 hL ((h a (by rw[hL];simp)).ex h1) ((h b (by rw[hL];simp)).b h2)
 ·rw[zH9 e,qz4]at hm;obtain⟨a,b,hL,h1,h2⟩:=zdT hm.2;exact zVu C e hm.1 hL ((h a (by rw[hL];simp)).b h1) ((h b (by rw[hL];simp)).ex h2)
 ·rw[zGV e,qz4]at hm;obtain⟨a,b,d,q,hL,h1,h2,h3,h4⟩:=zHP hm.2;exact zVX C e hm.1 hL ((h a (by rw[hL];simp)).v h1) ((h b (by rw[hL];simp)).f h2) ((h d (by rw[hL];simp)).f h3) ((h q (by rw[hL];simp)).b h4)
 ·rw[zGT e,qz4]at hm;obtain⟨a,b,q,hL,h1,h2,h3⟩:=zr1 hm.2;obtain⟨w1,w2⟩:=(h a (by rw[hL];simp)).w h1
  exact zWo C e hm.1 hL w1 w2 ((h b (by rw[hL];simp)).ex h2) ((h q (by rw[hL];simp)).b h3)
 ·rw[zG8 e,qz4]at hm;exact zRl C (.inl e) hm.1 (zgr hm.2)
 ·rw[zIm e,qz4]at hm;exact zRl C (.inr e) hm.1 (zgr hm.2)
 ·rw[zIk e,qz4]at hm;refine zWl C e hm.1 ?_;rcases zIn hm.2 with hL| ⟨a,hL,h1⟩
  ·exact .inl hL
  ·exact .inr ⟨a,hL,(h a (by rw[hL];simp)).ex h1⟩
 ·rw[zHf e,qz4]at hm;obtain⟨a,hL,h1⟩:=zdq hm.2;exact zVS C e hm.1 hL ((h a (by rw[hL];simp)).ex h1)
 ·rw[zH5 e,qz4]at hm;obtain⟨a,b,d,hL,h1,h2,h3,h4⟩:=zJz hm.2;exact zVD C e hm.1 hL ((h a (by rw[hL];simp)).b h1) ((h b (by rw[hL];simp)).c99 h2) ((h d (by rw[hL];simp)).c99 h3) h4
 ·rw[zHm e,qz4]at hm;obtain⟨a,l,hL,h1,h2⟩:=zyX hm.2;exact zVR C e hm.1 hL ((h a (by rw[hL];simp)).ex h1) h2 λk hk=>(h k (by rw[hL];exact qz8 _ hk)).cs (eq_of_beq (show(k.Kind==37)=true from zfX (zrJ h2 k hk))) (zbY (zrJ h2 k hk))
 ·rw[e]at h1;exact absurd h1 (by decide)
 ·rw[zGW e,qz4]at hm;obtain⟨a,hL,h1⟩:=zdq hm.2;exact zVG C e hm.1 hL ((h a (by rw[hL];simp)).st h1)
 ·rw[e]at h1;exact absurd h1 (by decide)
 ·rw[zHR e,qz4]at hm;exact zWt C e hm.1 (zgr hm.2)
theorem zTj(x:Node)(hb:zU x<=2097152)(h: ∀k∈x.L,RA c k):RA c x:=by
 have a2:=zaA x;refine⟨zWd C x hb h,zWh C x h,λe hm=>?_,λe hm=>?_,λe hm=>?_,λe hm=>?_,zRj C x h,zRA C x h,λe hm=>?_⟩
 ·rw[zIz e,qz4]at hm;exact⟨by rw[zMB e];rfl,λr=>zFB C e (.inr rfl) hm.1 (λy hy=>(h y hy).zVj (zf2 hm.2 y hy)) r⟩
 ·rw[zIw e,qz4]at hm;obtain⟨a,l,hL,h1,h2⟩:=zhS hm.2;exact⟨zd0 e hm.1 (by decide) (by decide),a,l,hL,(h a (by rw[hL];simp)).f h1,λk hk=>(h k (by rw[hL];exact qz8 _ hk)).st (h2 k hk)⟩
 ·rw[zMj e,qz4]at hm;obtain⟨a,hL,h1⟩:=zdq hm.2;have:=zWU e hm.1;rw[hL]at this;exact⟨a,this,zrO hm.1,by omega,(h a (by rw[hL];simp)).ex h1⟩
 ·have hd:=zAZ (d:=x) (by show(x.Kind==23&&zat x)=true;rw[e,hm];rfl)
  rw[zH3 e,qz4]at hm;refine⟨zl3 e hm.1 (by decide),by simpa [zab,e]using(zaN hm.1).1,?_⟩;rcases hd.2 with hL| ⟨a,hL,h1⟩
  ·exact .inl hL
  ·exact .inr ⟨a,hL,(h a (by rw[hL];simp)).ex h1⟩
 ·rw[zUT e,qz4]at hm;have:=zd0 e hm.1 (by decide) (by decide);rw[zgr hm.2]at this;exact this
mutual
theorem zVo: ∀x:Node,zU x<=2097152->RA c x
 | ⟨k,n,m,t,ns,l⟩,hb=>
  have hb2:=zaA ⟨k,n,m,t,ns,l⟩
  zTj C _ hb (zUO l (by simp only at hb2;omega))
theorem zUO: ∀(l:List Node),zaJ l<=2097152->∀q∈l,RA c q
 | [],_,q,hq=>by cases hq
 |x::r,hb,q,hq=>by
  simp only[zaJ]at hb;have hx:=zVo x (by omega);rcases yP.1 hq with h|hq
  ·exact h▸hx
  ·exact zUO r (by omega) q hq
end
def zlJ:Tok:=⟨0,[],0,false⟩
theorem zTa{x:Node}(e:x.Kind=41)(hm:zat x=true):x=zV3 x.L:=by
 rw[zNQ e,qz4]at hm;exact zd0 e hm.1 (by decide) (by decide)
end
def ztB(c:UInt8):Nat:=if c.toNat<58 then c.toNat -48 else c.toNat -87
def zWZ(x:UInt8):Nat:=if x=34 then 34 else if x=92 then 92 else if x=98 then 8 else if x=116 then 9 else if x=110 then 10 else if x=102 then 12 else 13
def zQ4:Str->Option (Nat×Str)
 | []=>none
 |c::r=>if c=34 then none else if c=92 then(match r with
   | []=>none
   |x::r=>if x=117 then(match r with
     |a::b::e::d::r=>some (ztB a*4096+ztB b*256+ztB e*16+ztB d,r)
     |_=>none)else some (zWZ x,r))else some (c.toNat,r)
theorem zty{k:Nat}(h:k<16):ztB (zaX k)=k:=by
 have: ∀k:Fin 16,ztB (zaX k.val)=k.val:=by decide
 exact this ⟨k,h⟩
theorem zKt(n:Nat)(hn:n<65536)(r:Str):zQ4 (zdr n++r)=some (n,r):=by
 unfold zdr;split
 ·subst n;rfl
 ·split
  ·subst n;rfl
  ·split
   ·subst n;rfl
   ·split
    ·subst n;rfl
    ·split
     ·subst n;rfl
     ·split
      ·subst n;rfl
      ·split
       ·subst n;rfl
       ·split
        ·show some (ztB _*4096+ztB _*256+ztB _*16+ztB _,r)=_;rw[zty (by omega),zty (by omega),zty (by omega),zty (by omega)];congr 2;omega
        ·rename_i h1 h2 _ _ _ _ _ h8;have hn:(UInt8.ofNat n).toNat=n:=by rw[UInt8.toNat_ofNat'];omega
         have e1:UInt8.ofNat n≠34:=λe=>by have:=congrArg UInt8.toNat e;rw[hn]at this;exact h1 this
         have e2:UInt8.ofNat n≠92:=λe=>by have:=congrArg UInt8.toNat e;rw[hn]at this;exact h2 this
         show(if UInt8.ofNat n=34 then none else if UInt8.ofNat n=92 then _ else some ((UInt8.ofNat n).toNat,r))=_;rw[yK e1,yK e2,hn]
theorem zP6(r:Str):zQ4 (34::r)=none:=rfl
def zB7:Nat->Str->List Nat×Str
 |0,s=>([],s)
 |n+1,s=>match zQ4 s with
  |none=>([],s.tail)
  |some (u,r)=>(u::(zB7 n r).1,(zB7 n r).2)
theorem zBh: ∀(l:List Nat) (n:Nat) (r:Str),(∀u∈l,u<65536)->l.length<n->zB7 n (zaO l++34::r)=(l,r)
 | [],n+1,r,_,_=>by show zB7 (n+1) (34::r)=_;rw[zB7,zP6];rfl
 |u::l,n+1,r,h,hn=>by
  have e:zaO (u::l)=zdr u++zaO l:=by simp[zaO]
  rw[e,yE,zB7,zKt u (h u qz7)];simp only;rw[zBh l n r (λv hv=>h v (qz8 _ hv)) (by simp only[qz3]at hn;omega)]
theorem zMi(l:List Nat):l.length<=(zaO l).length:=by
 induction l with
 |nil=>simp
 |cons u l ih=>
  have e:zaO (u::l)=zdr u++zaO l:=by simp[zaO]
  have:1<=(zdr u).length:=by
   unfold zdr
   repeat' split
   all_goals simp
  rw[e,qz5,qz3];omega
def zzs(l:List Nat):Str:=l.flatMap λu=>[UInt8.ofNat (u/256),UInt8.ofNat (u%256)]
theorem zBw: ∀s:Str,s.length%2=0->zzs (zaq s)=s
 | [],_=>rfl
 | [_],h=>by simp at h
 |a::b::r,h=>by
  have ih:=zBw r (by simp only[qz3]at h;omega)
  have e:zzs (zaq (a::b::r))=[UInt8.ofNat ((a.toNat*256+b.toNat)/256),UInt8.ofNat ((a.toNat*256+b.toNat)%256)]++zzs (zaq r):=by simp[zzs,zaq]
  have ha:(a.toNat*256+b.toNat)/256=a.toNat:=by have:=b.toNat_lt;omega
  have hb:(a.toNat*256+b.toNat)%256=b.toNat:=by have:=b.toNat_lt;omega
  rw[e,ih,ha,hb];simp
def zIp(s:Str):Nat:=s.foldl (λa c=>a*10+(c.toNat -48)) 0
theorem zm8: ∀(k u:Nat),u<k->zIp (Lib.decDigits u)=u/\(∀c∈Lib.decDigits u,zfv c=true)/\Lib.decDigits u≠[]
 |0,u,h=>by omega
 |k+1,u,h=>by
  have hd: ∀d,d<10->(UInt8.ofNat (48+d)).toNat=48+d:=λd hd=>by rw[UInt8.toNat_ofNat'];omega
  have hdig: ∀d,d<10->zfv (UInt8.ofNat (48+d))=true:=λd h=>by unfold zfv;rw[hd d h];simp;omega
  rw[Lib.decDigits];split
  ·rename_i hu;refine⟨?_,?_,by simp⟩
   ·unfold zIp;simp only[List.foldl_cons,List.foldl_nil];rw[hd u hu];omega
   ·intro c hc;rw[List.mem_singleton.1 hc];exact hdig u hu
  ·rename_i hu;obtain⟨h1,h2,h3⟩:=zm8 k (u/10) (by omega);refine⟨?_,?_,by simp⟩
   ·unfold zIp at h1⊢;rw[List.foldl_append,h1];simp only[List.foldl_cons,List.foldl_nil];rw[hd _ (by omega)];omega
   ·intro c hc;rcases List.mem_append.1 hc with hc|hc
    ·exact h2 c hc
    ·rw[List.mem_singleton.1 hc];exact hdig _ (by omega)
theorem zoS(n:Int)(h:0<=n):Lib.itoa n=Lib.decDigits n.toNat:=by unfold Lib.itoa;rw[yK (by omega)]
def zxw:Str->Tok
 | []=>⟨5,[],0,false⟩
 |a::r=>if a=34 then⟨4,zzs (zB7 (r.length+1) r).1,0,false⟩
  else if zfv a=true then⟨3,[],((zIp (a::r):Nat):Int),false⟩
  else if isLet a=true then⟨if zwg (a::r)=true then 2 else 1,a::r,0,false⟩
  else⟨5,a::r,0,false⟩
theorem zSx(a:UInt8)(h:isLet a=true):zfv a=false/\a≠34:=by
 unfold isLet at h;unfold zfv;simp only[yT]at h;refine⟨by simp;omega,?_⟩
 rintro rfl;have e:(34:UInt8).toNat=34:=rfl;omega
theorem zTZ(a:UInt8)(h:zfv a=true):a≠34:=by
 unfold zfv at h;simp only[yT]at h;rintro rfl;have e:(34:UInt8).toNat=34:=rfl;omega
theorem zLL{s:Str}(h:zfD s=true): ∃a r,s=a::r/\isLet a=true/\∀c∈s,zf0 c=true:=by
 rcases s with _| ⟨a,r⟩
 ·cases h
 ·unfold zfD at h;simp only[qz4,List.all_eq_true]at h;exact⟨a,r,rfl,h.2.1,h.2.2⟩
theorem zFm{s:Str}(h:zfD s=true):zxw s=⟨if zwg s=true then 2 else 1,s,0,false⟩:=by
 obtain⟨a,r,rfl,h1,_⟩:=zLL h;obtain⟨h2,h3⟩:=zSx a h1;unfold zxw;simp only;rw[yK h3,yK (by rw[h2];decide),yL h1]
theorem zzz{s:Str}(he:zhu s=true)(hs:s.length<=100000000):zdm s=34::(zaO (zaq s)++[34]):=by
 have h1:=zoy s hs he;have h2:=zz3 s hs he;rw[h1]at h2;simp only[Option.some.injEq,Prod.mk.injEq]at h2;exact h2.1.symm
theorem zDL:Cls zxw where
 op:=by
  have: ∀w∈zgh,opK (zxw w)=true/\(zxw w).text=w:=by decide+kernel
  exact λw hw=>⟨(this w hw).1,(this w hw).2⟩
 name:=λs h=>by
  unfold zbU at h;rw[qz4]at h;rw[zFm h.1,show zwg s=false by simpa using h.2];exact⟨rfl,rfl⟩
 ident:=λs h=>by
  rw[zFm h];refine⟨?_,rfl⟩;cases zwg s
  ·exact .inl rfl
  ·exact .inr rfl
 num:=λn h1 h2=>by
  obtain⟨d1,d2,d3⟩:=zm8 (n.toNat+1) n.toNat (by omega);rw[zoS n h1];cases e:Lib.decDigits n.toNat with
  |nil=>exact absurd e d3
  |cons a r=>
   rw[e]at d1 d2;have da:=d2 a qz7;unfold zxw;simp only;rw[yK (zTZ a da),yL da,d1];exact⟨rfl,by show((n.toNat:Nat):Int)=n;omega⟩
 str:=λs he hs=>by
  rw[zzz he hs];have h2:s.length%2=0:=by unfold zhu at he;simpa using he
  have hu: ∀u∈zaq s,u<65536:=λu hu=>zmH s u hu
  have:=zBh (zaq s) ((zaO (zaq s)++[34]).length+1) [] hu (by have:=zMi (zaq s);rw[qz5];omega)
  unfold zxw;simp only[yB];rw[this];exact⟨trivial,zBw s h2⟩
 fresh:=λs=>by
  unfold zxw;split
  ·rfl
  ·split
   ·rfl
   ·split
    ·rfl
    ·split<;>rfl
 opt:=λs=>by
  unfold zxw;split
  ·intro _;rfl
  ·split
   ·intro h;exact Bool.noConfusion (show false=true from h)
   ·split
    ·intro h;exact Bool.noConfusion (show false=true from h)
    ·split
     ·intro _;rfl
     ·intro _;rfl
theorem zDt(w:Str)(l:List Str): ∃r,Lib.join (w::l) [32]=w++r/\(l=[]/\r=[]\/l≠[]/\r=32::Lib.join l [32]):=by
 rcases l with _| ⟨v,l⟩
 ·exact⟨[],by rw[Lib.join_one];simp,.inl ⟨rfl,rfl⟩⟩
 ·exact⟨32::Lib.join (v::l) [32],by rw[zqp];rfl,.inr ⟨by simp,rfl⟩⟩
end Go.D08
namespace Go.D08
open Go Go.Gw Go.Dn Go.Proofs
set_option maxRecDepth 100000
theorem zrE{α β γ:Type}(x:PR α)(f:α×zB->PR β)(g:β×zB->PR γ):(x.bd f).bd g=x.bd λp=>(f p).bd g:=by
 cases x with
 |none=>rfl
 |some p=>cases p<;>rfl
theorem zCd{β γ:Type}(x:PR Unit)(f:zB->PR β)(g:β×zB->PR γ):(x.bn f).bd g=x.bn λp=>(f p).bd g:=zrE x (λq=>f q.2) g
theorem zMt(i:Int)(h1:0<=i)(h2:i<=9007199254740991):(Lib.itoa i).length<=21:=Lib.itoa_length_le i (by omega) (by omega)
theorem itoa_ascii(i:Int)(h1:0<=i): ∀b∈Lib.itoa i,b<128:=by
 rw[zoS i h1];intro b hb;have:=(zm8 (i.toNat+1) i.toNat (by omega)).2.1 b hb;have h2:=of_decide_eq_true this;have h3:b.toNat<=57:=h2.2;show b.toNat<128;omega
theorem zQf(s:Str):(wide s).length=2*s.length:=by
 induction s with
 |nil=>rfl
 |cons c s ih=>unfold wide at ih⊢;rw[List.flatMap_cons,qz5,ih];simp;omega
theorem zN7(s:Str)(c:UInt8):wide (s++[c])=wide s++[0,c]:=by simp[wide]
theorem zLm(s:Str)(hs:s.length<=1000000000)(h128: ∀b∈s,b<128): ∀(b a:Str),s=a++b->
  zaF zjM (b.length+1) (s,((s.length:Nat):Int),((a.length:Nat):Int),wide a++List.replicate (2*b.length) 0,())=some (wide s,0,())
 | [],a,h=>by
  refine zaL ?_;obtain rfl:s=a:=by rw[h];simp
  have hc: ¬(((s.length:Nat):Int)< ((s.length:Nat):Int)):=by omega
  simp only[zjM,hc,decide_false,qz2,yA,qz6,Nat.mul_zero,List.replicate_zero,List.append_nil]
 |c::b,a,h=>by
  have hlen:s.length=a.length+(b.length+1):=by rw[h];simp
  have hc:((a.length:Nat):Int)< ((s.length:Nat):Int):=by omega
  have hb:c<128:=h128 c (by rw[h];simp)
  have hget:s[a.length]? =some c:=by rw[h];simp
  have hlt: ¬(((c.toNat:Nat):Int)>=128):=by
   have:c.toNat<128:=hb;omega
  have w1:IntKind.wrap .i64 (2*((a.length:Nat):Int))=((2*a.length:Nat):Int):=by rw[wrap_i64 (by omega) (by omega)];omega
  have w2:IntKind.wrap .i64 (((2*a.length:Nat):Int)+1)=((2*a.length+1:Nat):Int):=by rw[wrap_i64 (by omega) (by omega)];omega
  have w3:IntKind.wrap .i64 (((a.length:Nat):Int)+1)=((a.length+1:Nat):Int):=by rw[wrap_i64 (by omega) (by omega)];omega
  have hrow:wide a++List.replicate (2*(b.length+1)) (0:UInt8)=(wide a++[0])++0::List.replicate (2*b.length) 0:=by
   rw[show 2*(b.length+1)=2*b.length+1+1 by omega,List.replicate_succ,List.replicate_succ];simp
  have hl1:(wide a++[0]).length=2*a.length+1:=by rw[qz5,zQf];rfl
  have hg: ∀x,zN ((wide a++[0])++x::List.replicate (2*b.length) (0:UInt8)) ((2*a.length+1:Nat):Int)=some x:=λx=>by
   rw[zji,<-hl1];simp
  have hset:((wide a++[0])++0::List.replicate (2*b.length) (0:UInt8)).set (((2*a.length+1:Nat):Int)).toNat c=wide (a++[c])++List.replicate (2*b.length) 0:=by
   rw[Int.toNat_natCast,<-hl1,zN7];simp
  have hto:zLz ((c.toNat:Nat):Int)=some c:=by rw[zSk,zN4 (by omega) (zWw c)];simp
  have hstep:zjM (s,((s.length:Nat):Int),((a.length:Nat):Int),wide a++List.replicate (2*(b.length+1)) 0,())=some (.inl (s,((s.length:Nat):Int),(((a++[c]).length:Nat):Int),wide (a++[c])++List.replicate (2*b.length) 0,())):=by
   simp only[zjM,hc,decide_true,yB,zmk,hget,Option.map_some,qz1,hlt,decide_false,qz2,yA,w1,w2,w3,hrow,hg,hto,hset];rw[qz5];rfl
  rw[qz3,zbV hstep];exact zLm s hs h128 b (a++[c]) (by rw[h];simp)
theorem zoG(s:Str)(hs:s.length<=1000000000)(h128: ∀b∈s,b<128):zoJ s=some (wide s,0,()):=by
 unfold zoJ;have w1:IntKind.wrap .i64 (2*((s.length:Nat):Int))=((2*s.length:Nat):Int):=by rw[wrap_i64 (by omega) (by omega)];omega
 simp only[w1];rw[show zCA ((2*s.length:Nat):Int)=some (2*s.length) by unfold zCA;rw[yL (by omega),Int.toNat_natCast]]
 simp only[qz1];exact zdy (zLm s hs h128 s [] rfl) (by omega)
section
variable {α β γ δ ρ σ:Type} {L0 L:List zu} {no:Bool} {E':Int->σ->Prop} {O':β->List zu->σ->Prop}
theorem zT6(ok:TL L0 L):SG L0 ER (OL no) (zi6 (pp L no)) (zEr (L.map tk)):=by
 obtain⟨x,r,rfl⟩:=ok.ok.cons;have k4:=zhm ok 4;have k3:=zhm ok 3;have k1:=zhm ok 1;have k2:=zhm ok 2;rw[show((4:Nat):Int)=4 from rfl]at k4;rw[show((3:Nat):Int)=3 from rfl]at k3;rw[show((1:Nat):Int)=1 from rfl]at k1;rw[show((2:Nat):Int)=2 from rfl]at k2;have tl: ∀{k:Nat},(zX ((x::r).map tk)==k)=true->k≠0->TL L0 r:=λh hk=>ok.tail (zcV h hk)
 have tx:=ok.ok.texts x qz7;have asc:=ok.ok.ascii x qz7;have num:=ok.ok.nums x qz7;unfold zi6;simp only[zS,zdG,qz1,k4,k3,k1,k2];show SG _ _ _ _ (if(zX ((x::r).map tk)==4)=true then gt (x.Text,r.map tk)else if(zX ((x::r).map tk)==3)=true then gt (wide (Lib.itoa x.Num),r.map tk)else if(zX ((x::r).map tk)==1||zX ((x::r).map tk)==2)=true then gt (wide x.Text,r.map tk)else bad ((x::r).map tk));cases h4:zX ((x::r).map tk)==4 with
 |true=>
  simp only[yB];exact .take ok (zcV h4 (by decide)) λa ha ok1=> .gt ok1 rfl
 |false=>
  simp only[qz2,yA];cases h3:zX ((x::r).map tk)==3 with
  |true=>
   simp only[yB];have e3:x.Kind=3:=eq_of_beq (k3.trans h3);rw[fmt10 x.Num (num e3).1 (num e3).2];simp only[qz1];refine .take ok (zcV h3 (by decide)) λa ha ok1=>?_
   simp only;rw[zoG (Lib.itoa x.Num) (by have:=zMt x.Num (num e3).1 (num e3).2;omega) (itoa_ascii x.Num (num e3).1)]
   exact .gt ok1 rfl
  |false=>
   simp only[qz2,yA];cases h1:zX ((x::r).map tk)==1 with
   |true=>
    simp only[Bool.true_or,yB];have e1:x.Kind=1:=eq_of_beq (k1.trans h1);refine .take ok (zcV h1 (by decide)) λa ha ok1=>?_
    simp only;rw[zoG x.Text (by omega) (asc (.inl e1))];exact .gt ok1 rfl
   |false=>
    simp only[qz2,yA,Bool.false_or];cases h2:zX ((x::r).map tk)==2 with
    |true=>
     simp only[yB];have e2:x.Kind=2:=eq_of_beq (k2.trans h2);refine .take ok (zcV h2 (by decide)) λa ha ok1=>?_
     simp only;rw[zoG x.Text (by omega) (asc (.inr e2))];exact .gt ok1 rfl
    |false=>
     simp only[qz2,yA];exact .fail ok λa=>⟨_,rfl,_,rfl⟩
end
section
variable {L0 L:List zu} {no:Bool} {n M:Nat} (H: ∀k,k<=n->∀N,20*k+20<=N->zwx L0 (RG N) (pG k)) (hn:n<=10000000000) (hM:20*n+30<=M)
include H hn hM
theorem zPI(l:List Node)(hl:l.length<=20000000000)(ok:TL L0 L):SG L0 EL (λ(v:Node) L' r=>r= .inr (pp L' no,8,[],0,[],[],l++[v],())) ((RG M).zdg (pp L no) 8 [] 0 [] [] l)
  ((zEr (L.map tk)).bd λk=>(zaC [58] k.2).bn λt1=>((pG n).assign no t1).bd λx=>gt (⟨9,[],0,k.1,[],[x.1]⟩,x.2)):=by
 obtain⟨M,rfl⟩: ∃k,M=k+1:=⟨M -1,by omega⟩
 show SG _ _ _ (zf5 (RG M) (pp L no) 8 [] 0 [] [] l) _;unfold zf5;simp only[zS,zq,zgY];refine .r (zT6 ok) (λ_ _=>⟨_,rfl,_,rfl⟩) λk L1 ok1=>?_
 refine .need ok1 (λ_ _=>⟨_,rfl,_,rfl⟩) λL2 ok2=>?_
 refine .r ((H n (yJ _) M (by omega)).assign no L2 ok2) (λ_ _=>⟨_,rfl,_,rfl⟩) λv L3 ok3=>?_
 simp only[qz3,qz6,Nat.zero_add];rw[zd6 (by omega)];simp only[qz1,zId,zLb];exact .gt ok3 rfl
theorem zK5: ∀(k m:Nat),k<=n+1->k<=m->∀(l:List Node) (L:List zu),l.length+k<=n+1->TL L0 L->
  SG L0 EL (λ(v:List Node) L' r=>r= .inr (pp L' false,[125],8,[],0,[],[],l++v,true,())) (zaF (zdt (RG M)) m (pp L false,[125],8,[],0,[],[],l,true,())) ((pG k).props (L.map tk))
 |0,m,_,_,l,L,_,ok=>trivial
 |k+1,0,_,hm,l,L,_,ok=>by omega
 |k+1,m+1,hk,hm,l,L,hl,ok=>by
  show SG _ _ _ _ (zhU (pG k) (L.map tk))
  have e:zhU (pG k) (L.map tk)=if tIs [125] (L.map tk)=true then gt ([],(L.map tk).tail)else
    ((zEr (L.map tk)).bd λk'=>(zaC [58] k'.2).bn λt1=>((pG k).assign false t1).bd λx=>gt ((⟨9,[],0,k'.1,[],[x.1]⟩:Node),x.2)).bd λx=>
     if tIs [125] x.2=true then gt ([x.1],x.2.tail)else(zaC [44] x.2).bn λt2=>((pG k).props t2).bd λl=>gt (x.1::l.1,l.2):=by
   unfold zhU;simp only[zrE,zCd,zd1]
  have ih:=λl L hl ok=>zK5 k m (by omega) (by omega) l L hl ok
  rw[e,zfM];generalize zaF (zdt (RG M)) m=W at ih⊢;unfold zdt;simp only[zS];refine .assoc (.has ok (λh ok1=>?_) λh=>?_)
  ·simp only[yO,qz2,yA];exact .gt' ok1 (by rw[yM]) (by simp)
  ·simp only[yN,yB];refine .assoc ((zPI (no:=false) (λj hj=>H j (by omega)) (by omega) (by omega) l (by omega) ok).gen (by rintro a _ ⟨y,rfl⟩;exact⟨_,rfl,_,rfl⟩) ?_)
   rintro x L1 _ _ ok1 rfl;refine .assoc (.has ok1 (λh ok2=>?_) λh=>?_)
   ·simp only[yB];exact .gt' ok2 (by rw[yM]) rfl
   ·simp only[qz2,yA];refine .assoc (.need ok1 (λ_ _=>⟨_,rfl,_,rfl⟩) λL2 ok2=>?_);simp only[yO,qz2,yA];exact(ih (l++[x]) L2 (by rw[qz5];simp only[qz3,qz6];omega) ok2).map (λv=>x::v) (by rintro v L' _ rfl;simp)
theorem zQN(h9:20*n+39<=M)(ok:TL L0 L):SG L0 EL (λ(l:List Node) L' r=>r= .inr (pp L' no,8,[],0,[],[],l,())) (zfS (RG M) [125] true (pp L no) 8 [] 0 [] [] []) (zhU (pG n) (L.map tk)):=by
 obtain⟨M,rfl⟩: ∃k,M=k+2:=⟨M -2,by omega⟩
 show SG _ _ _ _ ((pG (n+1)).props (L.map tk))
 have h1:SG L0 EL (λ(v:List Node) L' r=>r= .inr (pp L' false,[125],8,[],0,[],[],v,true,())) (ze5 (RG M) (pp L false) [125] 8 [] 0 [] [] [] true) ((pG (n+1)).props (L.map tk)):=by
  unfold ze5;simp only[zS];exact .loop (zK5 H hn (by omega) (n+1) 1000000000000 (yJ _) (by omega) [] L (by simp) ok) (yJ _)
 have h2:SG L0 EL (λ(v:List Node) L' r=>r= .inr (pp L' no,[125],8,[],0,[],[],v,true,())) (zeN (RG (M+1)) (pp L no) [125] 8 [] 0 [] [] [] true) ((pG (n+1)).props (L.map tk)):=by
  unfold zeN;simp only[zS];exact h1.same (by rintro a _ ⟨y,rfl⟩;exact⟨_,rfl,_,rfl⟩) (by rintro v L' _ _ rfl;exact⟨_,rfl,rfl⟩)
 unfold zfS;simp only[zS];exact h2.same (by rintro a _ ⟨y,rfl⟩;exact⟨_,rfl,_,rfl⟩) (by rintro v L' _ _ rfl;exact⟨_,rfl,rfl⟩)
theorem zTD(h9:20*n+35<=M)(ok:TL L0 L)(h1:(zX (L.map tk)==1)=false)(h3:(zX (L.map tk)==3)=false)(h4:(zX (L.map tk)==4)=false):SG L0 ER (OL no) ((RG M).zdX (pp L no)) (zdY (pG n) (L.map tk)):=by
 obtain⟨M,rfl⟩: ∃k,M=k+1:=⟨M -1,by omega⟩
 have S:=H n (yJ _) M (by omega);show SG _ _ _ (zhz (RG M) (pp L no)) _;unfold zhz zdY;simp only[zS,zq,h1,h3,h4,qz2,yA];refine .has ok (λh ok1=> .gt' ok1 (by rw[yM]) rfl) λh=>?_
 simp only[qz2,yA];refine .has ok (λh ok1=> .gt' ok1 (by rw[yM]) rfl) λh=>?_
 simp only[qz2,yA];refine .has ok (λh ok1=> .gt' ok1 (by rw[yM]) rfl) λh=>?_
 simp only[qz2,yA];refine .has ok (λh ok1=> .gt' ok1 (by rw[yM]) rfl) λh=>?_
 simp only[qz2,yA];refine .has ok (λh ok1=>?_) λh=>?_
 ·simp only[yB];rw[<-yM];exact .ll (S.func no 10 _ ok1) (λ_ _=>⟨_,rfl,_,rfl⟩) λv L'=>⟨_,rfl,rfl⟩
 simp only[qz2,yA];refine .has ok (λh ok1=>?_) λh=>?_
 ·simp only[yB];rw[<-yM];refine(zPx H hn (by omega) ok1).gen (by rintro a _ ⟨y,rfl⟩;exact⟨_,rfl,_,rfl⟩) ?_
  rintro y L3 _ _ ok3 rfl;exact .need ok3 (λ_ _=>⟨_,rfl,_,rfl⟩) λL4 ok4=> .gt ok4 rfl
 simp only[qz2,yA];refine .has ok (λh ok1=>?_) λh=>?_
 ·simp only[yB];rw[<-yM];exact .r (S.exprs no _ _ _ ok1) (λ_ _=>⟨_,rfl,_,rfl⟩) λl L4 ok4=> .gt ok4 rfl
 simp only[qz2,yA];refine .has ok (λh ok1=>?_) λh=>?_
 ·simp only[yB];rw[<-yM];refine(S.props no _ ok1).gen (by rintro a _ ⟨y,rfl⟩;exact⟨_,rfl,_,rfl⟩) ?_
  rintro l L3 _ _ ok3 rfl;exact .gt ok3 rfl
 simp only[qz2,yA];exact .fail ok λa=>⟨_,rfl,_,rfl⟩
theorem zS1(h9:20*n+39<=M)(ok:TL L0 L):SG L0 ER (OL no) (zfQ (RG M) (pp L no)) (zdY (pG n) (L.map tk)):=by
 have hs:=zTD (no:=no) H hn hM (by omega) ok;obtain⟨x,r,rfl⟩:=ok.ok.cons;have k4:=zhm ok 4;have k3:=zhm ok 3;have k1:=zhm ok 1;rw[show((4:Nat):Int)=4 from rfl]at k4;rw[show((3:Nat):Int)=3 from rfl]at k3;rw[show((1:Nat):Int)=1 from rfl]at k1;unfold zfQ;simp only[zS,zq,zdG,qz1,k4,k3,k1];cases h1:zX ((x::r).map tk)==1 with
 |true=>
  unfold zdY;simp only[h1,yB];exact .take ok (zcV h1 (by decide)) λa ha ok1=> .gt ok1 rfl
 |false=>
  simp only[qz2,yA];cases h3:zX ((x::r).map tk)==3 with
  |true=>
   unfold zdY;simp only[h1,h3,yB,qz2,yA];exact .take ok (zcV h3 (by decide)) λa ha ok1=> .gt ok1 rfl
  |false=>
   simp only[qz2,yA];cases h4:zX ((x::r).map tk)==4 with
   |true=>
    unfold zdY;simp only[h1,h3,h4,yB,qz2,yA];exact .take ok (zcV h4 (by decide)) λa ha ok1=> .gt ok1 rfl
   |false=>
    simp only[qz2,yA];exact .rr (hs h1 h3 h4) (λ_ _=>⟨_,rfl,_,rfl⟩) λv L'=>⟨_,rfl,rfl⟩
end
theorem zLG{t:zB}(w:Wf t):zfL t=if tIs [41] t=true then gt ([],t.tail)else if(zX t==1)=true then
  (if tIs [41] t.tail=true then gt ([tText t],t.tail.tail)else(zaC [44] t.tail).bn λt'=>if tIs [41] t'=true then bad t' else(zfL t').bd λl=>gt (tText t::l.1,l.2))else bad t:=by
 unfold zfL;by_cases h:tIs [41] t=true
 ·rw[yL h,yL h]
 ·rw[yK h,yK h]
  match t,w with
  | [],w=>exact absurd w.pos (by simp)
  | [a],w=>
   have h0:a.kind=0:=by
    obtain⟨p,e,h1,h2,_⟩:=w;cases p with
    |nil=>simp at h1;rw[h1];exact h2
    |cons x p=>simp at h1
   have:(zX [a]==1)=false:=by show(a.kind==1)=false;rw[h0];rfl
   rw[this];rfl
  |a::b::r,w=>
   rw[zjy];by_cases h1:(a.kind==1)=true
   ·rw[yL h1,yL (show(zX (a::b::r)==1)=true from h1)];by_cases h2:tIs [41] (b::r)=true
    ·rw[yL h2,yL (show tIs [41] (a::b::r).tail=true from h2)];rfl
    ·rw[yK h2,yK (show ¬tIs [41] (a::b::r).tail=true from h2)];unfold zaC;by_cases h3:tIs [44] (b::r)=true
     ·rw[yL h3,yL (show tIs [44] (a::b::r).tail=true from h3)];show(if tIs [41] r=true then _ else _)=(if tIs [41] r=true then _ else _)
      by_cases h4:tIs [41] r=true
      ·rw[yL h4,yL h4];rfl
      ·rw[yK h4,yK h4];show(zjy r).bd _=(if tIs [41] r=true then gt ([],r.tail)else zjy r).bd _;rw[yK h4];rfl
     ·rw[yK h3,yK (show ¬tIs [44] (a::b::r).tail=true from h3)];rfl
   ·rw[yK h1,yK (show ¬(zX (a::b::r)==1)=true from h1)]
theorem TOk.wf{L:List zu}(h:TOk L):Wf (L.map tk):=by
 obtain⟨a,e,h1,h2,h3⟩:=h.last;refine⟨a.map tk,tk e,by rw[h1];simp,by unfold tk;rw[h2];rfl,λx hx=>?_⟩
 obtain⟨y,hy,rfl⟩:=List.mem_map.1 hx;have h4:=h3 y hy;have h5:=(h.kinds y (by rw[h1];exact List.mem_append_left _ hy)).1
 show y.Kind.toNat≠0;omega
section
variable {L0 L:List zu} {no:Bool}
theorem zKW(kd:Int)(nm:Str): ∀(m:Nat) (L:List zu) (l:List Str),L.length<m->l.length+L.length<=20000000000->TL L0 L->
  SG L0 EL (λ(v:List Str) L' r=>r= .inr (pp L' false,[41],kd,nm,0,[],l++v,[],false,())) (zaF zeh m (pp L false,[41],kd,nm,0,[],l,[],false,())) (zfL (L.map tk))
 |0,L,l,hm,_,_=>by omega
 |m+1,L,l,hm,hl,ok=>by
  have ih:=λL l hm hl ok=>zKW kd nm m L l hm hl ok
  rw[zLG ok.ok.wf,zfM];generalize zaF zeh m=W at ih⊢;unfold zeh zhK;simp only[zS];refine .assoc (.has ok (λh ok1=>?_) λh=>?_)
  ·simp only[yO,qz2,yA];exact .gt' ok1 (by rw[yM]) (by simp)
  ·simp only[yN,yB];refine .assoc (.assoc (.name ok (λ_ _=>⟨_,rfl,_,rfl⟩) λhk ok1=>?_))
   have hlen:L.tail.length+1=L.length:=by
    obtain⟨x,r,rfl⟩:=ok.ok.cons;rfl
   simp only[qz3,qz6,Nat.zero_add];rw[zd6 (by omega)];simp only[qz1];rw[<-yM,<-yM];refine .assoc (.has ok1 (λh ok2=>?_) λh=>?_)
   ·simp only[yB];exact .gt' ok2 rfl rfl
   ·simp only[qz2,yA];refine .assoc (.need' ok1 (λ_ _=>⟨_,rfl,_,rfl⟩) λL2 ok2 hl2=>?_);simp only[yN,yB];refine .assoc (.is ok2 (λh=>?_) λh=>?_)
    ·simp only[yB];exact .assoc (.fail ok2 λa=>⟨_,rfl,_,rfl⟩)
    ·simp only[qz2,yA];exact(ih L2 (l++[tText (L.map tk)]) (by omega) (by rw[qz5];simp only[qz3,qz6];omega) ok2).map (λv=>tText (L.map tk)::v) (by rintro v L' _ rfl;simp)
theorem zPZ(kd:Int)(nm:Str)(ok:TL L0 L)(hlen:L.length<=10000000000):SG L0 EL (λ(v:List Str) L' r=>r= .inr (pp L' no,kd,nm,0,[],v,[],())) (zix [41] false (pp L no) kd nm 0 [] [] []) (zfL (L.map tk)):=by
 have h1:SG L0 EL (λ(v:List Str) L' r=>r= .inr (pp L' false,[41],kd,nm,0,[],v,[],false,())) (zhC (pp L false) [41] kd nm 0 [] [] [] false) (zfL (L.map tk)):=by
  unfold zhC;simp only[zS];exact .loop (zKW kd nm (L.length+1) L [] (by omega) (by simp;omega) ok) (by omega)
 have h2:SG L0 EL (λ(v:List Str) L' r=>r= .inr (pp L' no,[41],kd,nm,0,[],v,[],false,())) (zhn (pp L no) [41] kd nm 0 [] [] [] false) (zfL (L.map tk)):=by
  unfold zhn;simp only[zS];exact h1.same (by rintro a _ ⟨y,rfl⟩;exact⟨_,rfl,_,rfl⟩) (by rintro v L' _ _ rfl;exact⟨_,rfl,rfl⟩)
 unfold zix;simp only[zS];exact h2.same (by rintro a _ ⟨y,rfl⟩;exact⟨_,rfl,_,rfl⟩) (by rintro v L' _ _ rfl;exact⟨_,rfl,rfl⟩)
end
section
variable {L0 L:List zu} {no:Bool} {n M:Nat} (H: ∀k,k<=n->∀N,20*k+20<=N->zwx L0 (RG N) (pG k)) (hn:n<=10000000000) (hM:20*n+30<=M) (h0:L0.length<=10000000000)
include H hn hM
theorem zQJ(k:Int)(nm:Str)(ns:List Str)(ok:TL L0 L):SG L0 ER (λ(v:List Node) L' r=>r= .inl (pp L' no,k,nm,0,[],v,ns,[],())) ((RG M).zcv (pp L no) k nm 0 [] ns []) ((pG n).stmts true (L.map tk)):=by
 obtain⟨M,rfl⟩: ∃k,M=k+2:=⟨M -2,by omega⟩
 have h1:SG L0 ER (λ(v:List Node) L' r=>r= .inl (pp L' false,k,nm,0,[],v,ns,[],())) (zeC (RG M) (pp L false) k nm 0 [] ns []) ((pG n).stmts true (L.map tk)):=by
  unfold zeC;simp only[zS,zq];exact .rr ((H n (yJ _) M (by omega)).stmts true L ok) (λ_ _=>⟨_,rfl,_,rfl⟩) λv L'=>⟨_,rfl,rfl⟩
 show SG _ _ _ (zeS (RG (M+1)) (pp L no) k nm 0 [] ns []) _;unfold zeS;simp only[zS,zq];exact h1.same (by rintro a _ ⟨y,rfl⟩;exact⟨_,rfl,_,rfl⟩) (by rintro v L' _ _ rfl;exact⟨_,rfl,rfl⟩)
include h0 in
theorem zQU(k:Int)(nm:Str)(ok:TL L0 L):SG L0 EL (OR no) (zdE (RG M) (pp L no) 0 [] 0 [] k nm 0 [] [] [] [] [])
  ((zaC [40] (L.map tk)).bn λt=>(zfL t).bd λns=>(zaC [123] ns.2).bn λt=>((pG n).stmts true t).bd λl=>(zaC [125] l.2).bn λt=>gt (⟨k,nm,0,[],ns.1,l.1⟩,t)):=by
 unfold zdE zhc zhg zg7;simp only[zS,zq];refine .need ok (λ_ _=>⟨_,rfl,_,rfl⟩) λL1 ok1=>?_
 refine(zPZ (no:=no) k nm ok1 (by have:=ok1.suf.length_le;omega)).gen (by rintro a _ ⟨y,rfl⟩;exact⟨_,rfl,_,rfl⟩) ?_
 rintro ns L2 _ _ ok2 rfl;refine .need ok2 (λ_ _=>⟨_,rfl,_,rfl⟩) λL3 ok3=>?_
 refine(zQJ (no:=no) H hn hM k nm ns ok3).gen (by rintro a _ ⟨y,rfl⟩;exact⟨_,rfl,_,rfl⟩) ?_
 rintro l L4 _ _ ok4 rfl;exact .need ok4 (λ_ _=>⟨_,rfl,_,rfl⟩) λL5 ok5=> .gt ok5 rfl
include h0 in
theorem zRP(k:Int)(ok:TL L0 L):SG L0 EL (OR no) (zfw (RG M) k (pp L no)) (ztm (pG n) k (L.map tk)):=by
 obtain⟨x,r,rfl⟩:=ok.ok.cons;have hk:=zhm ok 1;rw[show((1:Nat):Int)=1 from rfl]at hk;have h1:=λ(L1:List zu) nm ok1=>zQU (no:=no) (L:=L1) H hn hM h0 k nm ok1
 unfold zfw ztm;simp only[zS,zq,zdG,qz1,hk];cases h39:k==39 with
 |true=>
  simp only[yB,qz1];have e: ∀(f:Str×zB->PR Node),((if(zX ((x::r).map tk)==1)=true then gt (tText ((x::r).map tk),((x::r).map tk).tail)else bad ((x::r).map tk)).bd f)=if(zX ((x::r).map tk)==1)=true then f (tText ((x::r).map tk),((x::r).map tk).tail)else bad ((x::r).map tk):=λf=>by split<;>rfl
  rw[e];refine .name ok (λ_ _=>⟨_,rfl,_,rfl⟩) λhk ok1=>?_
  rw[<-yM];exact h1 _ _ ok1
 |false=>
  simp only[qz2,yA,qz1];cases hk1:zX ((x::r).map tk)==1 with
  |true=>
   simp only[yB];have e: ∀(f:Str×zB->PR Node),((Go.D08.gt (tText ((x::r).map tk),((x::r).map tk).tail)).bd f)=if(zX ((x::r).map tk)==1)=true then f (tText ((x::r).map tk),((x::r).map tk).tail)else bad ((x::r).map tk):=λf=>by rw[yL hk1];rfl
   rw[e];refine .name ok (λ_ _=>⟨_,rfl,_,rfl⟩) λhk ok1=>?_
   rw[<-yM];exact h1 _ _ ok1
  |false=>
   simp only[qz2,yA,zd1];exact h1 _ _ ok
theorem zKC: ∀(k m:Nat),k<=n+1->k<=m->∀(l:List Node) (L:List zu),l.length+k<=n+1->TL L0 L->
  SG L0 EL (λ(v:List Node) L' r=>r= .inr (nd 22 (l++v),pp L' no,())) (zaF (zeM (RG M)) m (pp L no,0,[],0,[],22,[],0,[],[],[],[],l,())) ((pG k).vars no (L.map tk))
 |0,m,_,_,l,L,_,ok=>trivial
 |k+1,0,_,hm,l,L,_,ok=>by omega
 |k+1,m+1,hk,hm,l,L,hl,ok=>by
  have ih:=λl L hl ok=>zKC k m (by omega) (by omega) l L hl ok
  show SG _ _ _ _ (zm3 (pG k) no (L.map tk));rw[zfM];generalize zaF (zeM (RG M)) m=W at ih⊢
  have fin: ∀(d:List Node) (L1:List zu),TL L0 L1->SG L0 EL (λ(v:List Node) L' r=>r= .inr (nd 22 (l++v),pp L' no,()))
    ((zeY (RG M) (pp L1 no) 0 [] 0 [] 22 [] 0 [] 23 (tText (L.map tk)) 0 [] [] [] [] l [] d).bind (zIQ W))
    (if tIs [44] (L1.map tk)=true then((pG k).vars no (L1.map tk).tail).bd λq=>gt (ndN 23 (tText (L.map tk)) d::q.1,q.2)else gt ([ndN 23 (tText (L.map tk)) d],L1.map tk)):=λd L1 ok1=>by
   unfold zeY zjo;simp only[zS,qz3,qz6,Nat.zero_add];rw[zd6 (by omega)];simp only[qz1];refine .assoc (.has ok1 (λh ok2=>?_) λh=>?_)
   ·simp only[yO,qz2,yA];rw[<-yM];exact(ih (l++[ndN 23 (tText (L.map tk)) d]) _ (by rw[qz5];simp only[qz3,qz6];omega) ok2).map (λv=>ndN 23 (tText (L.map tk)) d::v) (by rintro v L' _ rfl;simp)
   ·simp only[yN,yB];exact .gt ok1 rfl
  unfold zm3;unfold zeM;simp only[zS,zq];refine .assoc (.name ok (λ_ _=>⟨_,rfl,_,rfl⟩) λhk1 ok1=>?_)
  have e: ∀(f:List Node×zB->PR (List Node)),((if tIs [61] (L.map tk).tail=true then((pG k).assign no (L.map tk).tail.tail).bd λy=>Go.D08.gt ([y.1],y.2)else Go.D08.gt ([],(L.map tk).tail)).bd f)=
    if tIs [61] (L.tail.map tk)=true then((pG k).assign no (L.tail.map tk).tail).bd λy=>f ([y.1],y.2)else f ([],L.tail.map tk):=λf=>by
   rw[yM];split
   ·rw[zrE];rfl
   ·rfl
  rw[e];refine .assoc (.has ok1 (λh ok2=>?_) λh=>?_)
  ·simp only[yB];rw[<-yM];refine .assoc (.r ((H k (by omega) M (by omega)).assign no _ ok2) (λ_ _=>⟨_,rfl,_,rfl⟩) λy L3 ok3=>?_);exact fin [y] L3 ok3
  ·simp only[qz2,yA];exact fin [] _ ok1
theorem zSU(ok:TL L0 L):SG L0 EL (λl L' r=>r= .inr (nd 22 l,pp L' no,())) (zhk (RG M) (pp L no)) (zm3 (pG n) no (L.map tk)):=by
 unfold zhk;simp only[zS];exact .loop (zKC H hn hM (n+1) 1000000000000 (yJ _) (by omega) [] L (by simp) ok) (yJ _)
theorem zQQ(ok:TL L0 L):SG L0 EL (OR false) (zgC (RG M) (pp L false)) (zlS (pG n) (L.map tk)):=by
 unfold zgC zlS;simp only[zS,zq,zgY];refine .need ok (λ_ _=>⟨_,rfl,_,rfl⟩) λL1 ok1=>?_
 refine .r ((H n (yJ _) M (by omega)).stmts false L1 ok1) (λ_ _=>⟨_,rfl,_,rfl⟩) λl L2 ok2=>?_
 exact .need ok2 (λ_ _=>⟨_,rfl,_,rfl⟩) λL3 ok3=> .gt ok3 rfl
theorem zTS(ok:TL L0 L):SG L0 EL (OR false) (zhs (RG M) (pp L false)) (ztt (pG n) (L.map tk)):=by
 unfold zhs ztt;simp only[zS,zq,zgY];refine .need ok (λ_ _=>⟨_,rfl,_,rfl⟩) λL1 ok1=>?_
 refine .r ((H n (yJ _) M (by omega)).expr false L1 ok1) (λ_ _=>⟨_,rfl,_,rfl⟩) λl L2 ok2=>?_
 exact .need ok2 (λ_ _=>⟨_,rfl,_,rfl⟩) λL3 ok3=> .gt ok3 rfl
theorem zSV(s:Str)(ok:TL L0 L):SG L0 ER (OL false) (zgL (RG M) s (pp L false)) (zlN (pG n) s (L.map tk)):=by
 unfold zgL zlN;simp only[zS,zq,zgY];refine .has ok (λh ok1=>?_) λh=>?_
 ·exact .gt' ok1 (by rw[yM]) rfl
 ·refine .r ((H n (yJ _) M (by omega)).expr false L ok) (λ_ _=>⟨_,rfl,_,rfl⟩) λl L2 ok2=>?_
  exact .need ok2 (λ_ _=>⟨_,rfl,_,rfl⟩) λL3 ok3=> .gt ok3 rfl
theorem zAL(ok:TL L0 L):SG L0 EL (λv L' r=>r= .inr (zbf v,pp L' false,())) ((RG M).zbi (pp L false)) ((pG n).stmt (L.map tk)):=by
 obtain⟨M,rfl⟩: ∃k,M=k+1:=⟨M -1,by omega⟩
 show SG _ _ _ (zhv (RG M) (pp L false)) _;unfold zhv;simp only[zS,zq];refine .ll ((H n (yJ _) M (by omega)).stmt L ok) (λ_ _=>⟨_,rfl,_,rfl⟩) λv L'=>?_
 simp only[bne];unfold zbf;cases v.Kind==25 with
 |true=>exact⟨_,rfl,rfl⟩
 |false=>exact⟨_,rfl,rfl⟩
def zN0(g:PG)(each:Bool)(x:Node)(t:zB):PR Node:=
 if(each&&tIs [105,110] t)=true then(g.expr false t.tail).bd λy=>(zaC [41] y.2).bn λt=>(g.stmt t).bd λb=>gt (nd 30 [x,y.1,zbf b.1],b.2)
 else(zaC [59] t).bn λt=>(g.till [59] t).bd λy=>(g.till [41] y.2).bd λz=>(g.stmt z.2).bd λb=>gt (nd 29 [x,y.1,z.1,zbf b.1],b.2)
theorem zQ0(x:Node)(ok:TL L0 L):SG L0 EL (OR false) (zeQ (RG M) (pp L false) 0 [] 0 [] 29 [] 0 [] [] [] [] [x])
  ((zaC [59] (L.map tk)).bn λt=>((pG n).till [59] t).bd λy=>((pG n).till [41] y.2).bd λz=>((pG n).stmt z.2).bd λb=>gt (nd 29 [x,y.1,z.1,zbf b.1],b.2)):=by
 have S:=H n (yJ _) M (by omega);unfold zeQ zjs ziV ziS zeB;simp only[zS,zq];refine .need ok (λ_ _=>⟨_,rfl,_,rfl⟩) λL1 ok1=>?_
 refine .r (S.till [59] L1 ok1) (λ_ _=>⟨_,rfl,_,rfl⟩) λy L2 ok2=>?_
 refine .r (S.till [41] L2 ok2) (λ_ _=>⟨_,rfl,_,rfl⟩) λz L3 ok3=>?_
 refine .room (by simp) ?_;refine(zAL H hn hM ok3).gen (by rintro a _ ⟨y,rfl⟩;exact⟨_,rfl,_,rfl⟩) ?_
 rintro b L4 _ _ ok4 rfl;exact .room (by simp) (.gt ok4 rfl)
theorem zPV(x:Node)(each:Bool)(ok:TL L0 L):SG L0 EL (OR false) (ze0 (RG M) each (pp L false) 0 [] 0 [] 29 [] 0 [] [] [] [] [x]) (zN0 (pG n) each x (L.map tk)):=by
 have S:=H n (yJ _) M (by omega);have h8:=zQ0 H hn hM x ok;unfold ze0 zN0;simp only[zS,zq];cases each with
 |false=>
  simp only[qz2,yA,Bool.false_and];exact h8
 |true=>
  simp only[yB,Bool.true_and];refine .has ok (λh ok1=>?_) λh=>?_
  ·simp only[yB];unfold zjh zjf zjj zi7 zeB;simp only[zS,zq];rw[<-yM];refine .r (S.expr false _ ok1) (λ_ _=>⟨_,rfl,_,rfl⟩) λy L2 ok2=>?_
   refine .room (by simp) ?_;refine .need ok2 (λ_ _=>⟨_,rfl,_,rfl⟩) λL3 ok3=>?_
   refine(zAL H hn hM ok3).gen (by rintro a _ ⟨y,rfl⟩;exact⟨_,rfl,_,rfl⟩) ?_
   rintro b L4 _ _ ok4 rfl;exact .room (by simp) (.gt ok4 rfl)
  ·simp only[qz2,yA];exact h8
theorem zR3(ok:TL L0 L):SG L0 EL (OR false) (zhh (RG M) (pp L false)) (zoL (pG n) (L.map tk)):=by
 have S:=H n (yJ _) M (by omega);have h3:=λ(L1:List zu) x each ok1=>zPV (L:=L1) H hn hM x each ok1
 unfold zhh ze9 zi0 zoL znz;simp only[zS,zq,zFl,qz1];refine .need ok (λ_ _=>⟨_,rfl,_,rfl⟩) λL1 ok1=>?_
 have e: ∀(f:Node×zB->PR Node),((if tIs [118,97,114] (L1.map tk)=true then((pG n).vars true (L1.map tk).tail).bd λl=>Go.D08.gt (nd 22 l.1,l.2)else if tIs [59] (L1.map tk)=true then Go.D08.gt (nd 42 [],L1.map tk)else(pG n).expr true (L1.map tk)).bd f)=
   if tIs [118,97,114] (L1.map tk)=true then((pG n).vars true (L1.map tk).tail).bd λl=>f (nd 22 l.1,l.2)else if tIs [59] (L1.map tk)=true then f (nd 42 [],L1.map tk)else((pG n).expr true (L1.map tk)).bd f:=λf=>by
  split
  ·rw[zrE];rfl
  ·split<;>rfl
 rw[e];refine .has (no:=true) ok1 (λh ok2=>?_) λh=>?_
 ·simp only[yB];rw[<-yM];refine(S.vars true _ ok2).gen (by rintro a _ ⟨y,rfl⟩;exact⟨_,rfl,_,rfl⟩) ?_
  rintro l L3 _ _ ok3 rfl;rcases l with _| ⟨d,_| ⟨d2,r⟩⟩
  ·exact h3 L3 (nd 22 []) false ok3
  ·have hb:(((d.L.length:Nat):Int)==0)=d.L.isEmpty:=by
    cases d.L with
    |nil=>rfl
    |cons a r=>exact yH.2 (by simp only[qz3];omega)
   show SG _ _ _ (ze0 (RG M) (((d.L.length:Nat):Int)==0) (pp L3 false) 0 [] 0 [] 29 [] 0 [] [] [] [] [nd 22 [d]]) _;rw[hb];exact h3 L3 (nd 22 [d]) d.L.isEmpty ok3
  ·have hb:((((d::d2::r).length:Nat):Int)==1)=false:=by rw[yH];simp only[qz3];omega
   simp only[nd,hb,qz2,yA,qz1];exact h3 L3 (nd 22 (d::d2::r)) false ok3
 ·simp only[qz2,yA];refine .is (no:=true) ok1 (λh=>?_) λh=>?_
  ·simp only[yO,qz2,yA];exact h3 L1 (nd 42 []) false ok1
  ·simp only[yN,yB];refine(S.expr true _ ok1).gen (by rintro a _ ⟨y,rfl⟩;exact⟨_,rfl,_,rfl⟩) ?_
   rintro x L3 _ hq ok3 rfl;have hx:x.Kind≠22:=(zQ7 n).expr _ _ _ hq;have he:zl9 x=zdw x.Kind:=by unfold zl9;rw[yK (by simpa using hx)]
   show SG _ _ _ _ (if(zl9 x&&tIs [105,110] (L3.map tk))=true then _ else _);rw[he];exact h3 L3 x (zdw x.Kind) ok3
end
section
variable {L0 L:List zu} {no:Bool} {n M:Nat} (H: ∀k,k<=n->∀N,20*k+20<=N->zwx L0 (RG N) (pG k)) (hn:n<=10000000000) (hM:20*n+30<=M) (h0:L0.length<=10000000000)
include H hn hM
theorem zR8(caught:Bool)(nm:Str)(b c:Node)(hc:(c.Kind==42)= !caught)(ok:TL L0 L):SG L0 EL (OR false) (zfC (RG M) caught (pp L false) 0 [] 0 [] 35 nm 0 [] [] [] [] [b,c,nd 42 []])
  ((zkE (pG n) (L.map tk)).bd λf=>if(f.1.Kind==42&&c.Kind==42)=true then bad f.2 else gt (ndN 35 nm [b,c,f.1],f.2)):=by
 have S:=H n (yJ _) M (by omega);unfold zfC zj4 zkb zgH zkE;simp only[zS,zq]
 have e: ∀(f:Node×zB->PR Node),((if tIs [102,105,110,97,108,108,121] (L.map tk)=true then(pG n).block (L.map tk).tail else Go.D08.gt (nd 42 [],L.map tk)).bd f)=if tIs [102,105,110,97,108,108,121] (L.map tk)=true then((pG n).block (L.map tk).tail).bd f else f (nd 42 [],L.map tk):=λf=>by
  split<;>rfl
 rw[e];refine .has ok (λh ok1=>?_) λh=>?_
 ·simp only[yB];rw[<-yM];refine(S.block _ ok1).gen (by rintro a _ ⟨y,rfl⟩;exact⟨_,rfl,_,rfl⟩) ?_
  rintro f L2 _ hq ok2 rfl;have h25:f.Kind=25:=zHl hq;have hf:(f.Kind==42)=false:=by rw[h25];rfl
  simp only[hf,Bool.false_and,qz2,yA];exact .gt ok2 rfl
 ·simp only[qz2,yA,hc];cases caught with
  |true=>
   simp only[yO,qz2,yA,Bool.and_false];exact .gt ok rfl
  |false=>
   simp only[yN,yB];exact .fail ok λa=>⟨_,rfl,_,rfl⟩
theorem zVh(h9:20*n+35<=M)(ok:TL L0 L):SG L0 EL (OR false) ((RG M).zep (pp L false)) (zEA (pG n) (L.map tk)):=by
 obtain⟨M,rfl⟩: ∃k,M=k+1:=⟨M -1,by omega⟩
 have S:=H n (yJ _) M (by omega);have h7:=λ(L1:List zu) caught nm b c hc ok1=>zR8 (L:=L1) (M:=M) H hn (by omega) caught nm b c hc ok1
 show SG _ _ _ (zh4 (RG M) (pp L false)) _;unfold zh4 zhj zj2 zjZ zjV zj5 zjW zEA zm2;simp only[zS,zq,zgY];refine .l (S.block L ok) (λ_ _=>⟨_,rfl,_,rfl⟩) λb L1 ok1=>?_
 have e: ∀(x y:PR (Str×Node)) (f:(Str×Node)×zB->PR Node),((if tIs [99,97,116,99,104] (L1.map tk)=true then x else y).bd f)=if tIs [99,97,116,99,104] (L1.map tk)=true then x.bd f else y.bd f:=λx y f=>by
  split<;>rfl
 rw[e];refine .has ok1 (λh ok2=>?_) λh=>?_
 ·simp only[yB];rw[<-yM,zCd];refine .need ok2 (λ_ _=>⟨_,rfl,_,rfl⟩) λL3 ok3=>?_
  have e2: ∀(x:PR (Str×Node)) (f:(Str×Node)×zB->PR Node),((if(zX (L3.map tk)==1)=true then x else bad (L3.map tk)).bd f)=if(zX (L3.map tk)==1)=true then x.bd f else bad (L3.map tk):=λx f=>by
   split<;>rfl
  rw[e2];refine .name ok3 (λ_ _=>⟨_,rfl,_,rfl⟩) λhk ok4=>?_
  rw[<-yM,zCd];refine .need ok4 (λ_ _=>⟨_,rfl,_,rfl⟩) λL5 ok5=>?_
  rw[zrE];refine(S.block L5 ok5).gen (by rintro a _ ⟨y,rfl⟩;exact⟨_,rfl,_,rfl⟩) ?_
  rintro c L6 _ hq ok6 rfl;have h25:c.Kind=25:=zHl hq;exact h7 L6 true (tText (L3.map tk)) b c (by rw[h25];rfl) ok6
 ·simp only[qz2,yA];exact h7 L1 false [] b (nd 42 []) rfl ok1
theorem zND(h9:20*n+35<=M)(ok:TL L0 L):SG L0 EL (OR false) ((RG M).zdi (pp L false))
  (((pG n).head (L.map tk)).bd λx=>((pG n).stmt x.2).bd λb=>if tIs [101,108,115,101] b.2=true then((pG n).stmt b.2.tail).bd λc=>gt (nd 26 [x.1,zbf b.1,zbf c.1],c.2)else gt (nd 26 [x.1,zbf b.1],b.2)):=by
 obtain⟨M,rfl⟩: ∃k,M=k+1:=⟨M -1,by omega⟩
 have S:=H n (yJ _) M (by omega);have hb:=λ(L1:List zu) ok1=>zAL (L:=L1) (M:=M) H hn (by omega) ok1
 show SG _ _ _ (zf6 (RG M) (pp L false)) _;unfold zf6 zfT zii zid;simp only[zS,zq,zgY];refine .l (S.head L ok) (λ_ _=>⟨_,rfl,_,rfl⟩) λx L1 ok1=>?_
 refine(hb L1 ok1).gen (by rintro a _ ⟨y,rfl⟩;exact⟨_,rfl,_,rfl⟩) ?_
 rintro b L2 _ _ ok2 rfl;refine .has ok2 (λh ok3=>?_) λh=>?_
 ·simp only[yB];rw[<-yM];refine(hb _ ok3).gen (by rintro a _ ⟨y,rfl⟩;exact⟨_,rfl,_,rfl⟩) ?_
  rintro c L4 _ _ ok4 rfl;exact .room (by simp) (.gt ok4 rfl)
 ·simp only[qz2,yA];exact .gt ok2 rfl
theorem zK4(o:Bool)(acc:List Node)(ha:acc.length<=20000000000): ∀(k m:Nat),k<=n->k<=m->∀(cur:List Node) (L:List zu),cur.length+k<=n+1->TL L0 L->
  SG L0 (λa r=>∃y,r= .inr (.inl (zad.code 45 a,y))) (λ(v:List Node) L' r=>r= .inl (o,pp L' false,0,[],0,[],36,[],0,[],[],[],[],acc++[nd 37 (cur++v)],()))
   (zaF (zeu (RG M)) m (o,pp L false,0,[],0,[],36,[],0,[],37,[],0,[],[],[],[],acc,[],cur,())) ((pG k).body (L.map tk))
 |0,m,_,_,l,L,_,ok=>trivial
 |k+1,0,_,hm,l,L,_,ok=>by omega
 |k+1,m+1,hk,hm,cur,L,hl,ok=>by
  show SG _ _ _ _ (zoM (pG k) (L.map tk));have ih:=λcur L hl ok=>zK4 o acc ha k m (by omega) (by omega) cur L hl ok
  unfold zoM;rw[zfM];generalize zaF (zeu (RG M)) m=W at ih⊢;unfold zeu;simp only[zS,zq];rw[zmj ok.ok [[99,97,115,101],[100,101,102,97,117,108,116],[125]] ([32,99,97,115,101,32,100,101,102,97,117,108,116,32,125,32]:Str) (by decide+kernel) (by decide+kernel) (by decide),qz1];obtain⟨x,r,rfl⟩:=ok.ok.cons;have k0:=zhm ok 0;rw[show((0:Nat):Int)=0 from rfl]at k0;simp only[zdG,qz1,bne,k0,qz3,qz6,Nat.zero_add];cases h1:zbv [[99,97,115,101],[100,101,102,97,117,108,116],[125]] ((x::r).map tk)with
  |true=>
   simp only[yO,qz2,yA,qz1,Bool.true_or,yB];rw[zd6 (by omega)];exact .gt ok (by show _=_;rw[List.append_nil];rfl)
  |false=>
   simp only[yN,yB,qz1,Bool.false_or];cases h2:zX ((x::r).map tk)==0 with
   |true=>
    simp only[yO,qz2,yA,yB];rw[zd6 (by omega)];exact .gt ok (by show _=_;rw[List.append_nil];rfl)
   |false=>
    simp only[yN,yB,qz2,yA];refine .assoc (.l ((H k (by omega) M (by omega)).stmt _ ok) (λ_ _=>⟨_,rfl,_,rfl⟩) λy L3 ok3=>?_);refine .assoc (.room (by omega) ?_);exact(ih (cur++[y]) L3 (by rw[qz5];simp only[qz3,qz6];omega) ok3).map (λv=>y::v) (by rintro v L' _ rfl;simp)
theorem zKY: ∀(k m:Nat),k<=n->k<=m->∀(o:Bool) (acc:List Node) (L:List zu),acc.length+k<=n+1->TL L0 L->
  SG L0 EL (λ(v:List Node) L' r=>r= .inr (nd 36 (acc++v),pp L' false,())) (zaF (zez (RG M)) m (o,pp L false,0,[],0,[],36,[],0,[],[],[],[],acc,())) ((pG k).cases o (L.map tk))
 |0,m,_,_,o,l,L,_,ok=>trivial
 |k+1,0,_,hm,o,l,L,_,ok=>by omega
 |k+1,m+1,hk,hm,o,acc,L,hl,ok=>by
  have S:=H k (by omega) M (by omega);have ih:=λo acc L hl ok=>zKY k m (by omega) (by omega) o acc L hl ok
  show SG _ _ _ _ (zjJ (pG k) o (L.map tk));rw[zfM];generalize zaF (zez (RG M)) m=W at ih⊢
  have j4: ∀(o':Bool) (x:Node) (L1:List zu),TL L0 L1->SG L0 EL (λ(v:List Node) L' r=>r= .inr (nd 36 (acc++v),pp L' false,()))
    ((zer (RG M) o' (pp L1 false) 0 [] 0 [] 36 [] 0 [] 37 [] 0 [] [] [] [] acc [] [x]).bind (zIQ W))
    ((zaC [58] (L1.map tk)).bn λt=>((pG k).body t).bd λl=>((pG k).cases o' l.2).bd λr=>gt (nd 37 (x::l.1)::r.1,r.2)):=λo' x L1 ok1=>by
   unfold zer;simp only[zS];refine .assoc (.need ok1 (λ_ _=>⟨_,rfl,_,rfl⟩) λL2 ok2=>?_);have hb:=SG.loop (zK4 H hn hM o' acc (by omega) k 1000000000000 (by omega) (by omega) [x] L2 (by simp;omega) ok2) (yJ _)
   refine hb.gen (by rintro a _ ⟨y,rfl⟩;exact⟨_,rfl,_,rfl⟩) ?_
   rintro l L3 _ _ ok3 rfl;exact(ih o' (acc++[nd 37 ([x]++l)]) L3 (by rw[qz5];simp only[qz3,qz6];omega) ok3).map (λv=>nd 37 (x::l)::v) (by rintro v L' _ rfl;simp)
  have j2: ∀(L1:List zu),TL L0 L1->SG L0 EL (λ(v:List Node) L' r=>r= .inr (nd 36 (acc++v),pp L' false,()))
    ((zew (RG M) o (pp L1 false) 0 [] 0 [] 36 [] 0 [] 37 [] 0 [] [] [] [] acc [] [nd 42 []]).bind (zIQ W))
    ((zaC [99,97,115,101] (L1.map tk)).bn λt=>((pG k).expr false t).bd λx=>(zaC [58] x.2).bn λt=>((pG k).body t).bd λl=>((pG k).cases o l.2).bd λr=>gt (nd 37 (x.1::l.1)::r.1,r.2)):=λL1 ok1=>by
   unfold zew ziB;simp only[zS,zq];refine .assoc (.need ok1 (λ_ _=>⟨_,rfl,_,rfl⟩) λL2 ok2=>?_);refine .assoc (.r (S.expr false L2 ok2) (λ_ _=>⟨_,rfl,_,rfl⟩) λx L3 ok3=>?_);exact j4 o x L3 ok3
  unfold zjJ;unfold zez;simp only[zS,zq];refine .assoc (.has ok (λh ok1=>?_) λh=>?_)
  ·simp only[yO,qz2,yA];exact .gt' ok1 (by rw[yM]) (by show _=_;rw[List.append_nil];rfl)
  ·simp only[yN,yB];cases o with
   |false=>
    simp only[Bool.false_and,qz2,yA];exact j2 L ok
   |true=>
    simp only[Bool.true_and,yB];refine .assoc (.has ok (λh ok1=>?_) λh=>?_)
    ·simp only[yB];rw[<-yM];exact j4 false (nd 42 []) _ ok1
    ·simp only[qz2,yA];exact j2 L ok
theorem zPi(h9:20*n+35<=M)(ok:TL L0 L):SG L0 EL (OR false) ((RG M).zdH (pp L false))
  (((pG n).head (L.map tk)).bd λx=>(zaC [123] x.2).bn λt=>((pG n).cases true t).bd λl=>gt (nd 36 (x.1::l.1),l.2)):=by
 obtain⟨M,rfl⟩: ∃k,M=k+1:=⟨M -1,by omega⟩
 have S:=H n (yJ _) M (by omega);show SG _ _ _ (zgK (RG M) (pp L false)) _;unfold zgK;simp only[zS,zq];refine .l (S.head L ok) (λ_ _=>⟨_,rfl,_,rfl⟩) λx L1 ok1=>?_
 refine .need ok1 (λ_ _=>⟨_,rfl,_,rfl⟩) λL2 ok2=>?_
 exact(SG.loop (zKY H hn (by omega) n 1000000000000 (yJ _) (by omega) true [x] L2 (by simp;omega) ok2) (yJ _)).map (λv=>nd 36 (x::v)) (by rintro v L' _ rfl;rfl)
theorem zLk(k:Int)(ok:TL L0 L):SG L0 EL (OR false) (zgs k (pp L false)) (zkm k (L.map tk)):=by
 obtain⟨x,r,rfl⟩:=ok.ok.cons;have k1:=zhm ok 1;rw[show((1:Nat):Int)=1 from rfl]at k1;have hf:x.Fresh=ze6 ((x::r).map tk):=rfl;unfold zgs zkm;simp only[zS,zdG,qz1,k1,hf];cases h1:zX ((x::r).map tk)==1 with
 |false=>
  simp only[qz2,yA,qz1,Bool.false_and];exact .end ok (λ_ _=>⟨_,rfl,_,rfl⟩) λL3 ok3=> .gt ok3 rfl
 |true=>
  simp only[yB,qz1,Bool.true_and];cases h2:ze6 ((x::r).map tk)with
  |true=>
   simp only[yO,qz2,yA];exact .end ok (λ_ _=>⟨_,rfl,_,rfl⟩) λL3 ok3=> .gt ok3 rfl
  |false=>
   simp only[yN,yB];refine .take ok (zcV h1 (by decide)) λa ha ok2=>?_
   rw[<-yM];refine .end ok2 (λ_ _=>⟨_,rfl,_,rfl⟩) λL3 ok3=> .gt ok3 ?_
   simp only[ha];rfl
theorem zLa: ∀(k m:Nat),k<=n+1->k<=m->∀(f:Bool) (l:List Node) (L:List zu),l.length+k<=n+1->TL L0 L->
  SG L0 ER (λ(v:List Node) L' r=>r= .inl (l++v,pp L' false,())) (zaF (zev (RG M)) m (f,[125],pp L false,l,())) ((pG k).stmts f (L.map tk))
 |0,m,_,_,f,l,L,_,ok=>trivial
 |k+1,0,_,hm,f,l,L,_,ok=>by omega
 |k+1,m+1,hk,hm,f,l,L,hl,ok=>by
  have S:=H k (by omega) M (by omega);have ih:=λl L hl ok=>zLa k m (by omega) (by omega) f l L hl ok
  show SG _ _ _ _ (ziA (pG k) f (L.map tk));rw[zfM];generalize zaF (zev (RG M)) m=W at ih⊢
  have go: ∀(y:Node) (L3:List zu),TL L0 L3->SG L0 ER (λ(v:List Node) L' r=>r= .inl (l++v,pp L' false,())) (W (f,[125],pp L3 false,l++[y],())) (((pG k).stmts f (L3.map tk)).bd λq=>gt (y::q.1,q.2)):=λy L3 ok3=>
   (ih (l++[y]) L3 (by rw[qz5];simp only[qz3,qz6];omega) ok3).map (λv=>y::v) (by rintro v L' _ rfl;simp)
  have j2:SG L0 ER (λ(v:List Node) L' r=>r= .inl (l++v,pp L' false,()))
    ((zes (RG M) f [125] (pp L false) l 0 [] 0 [] [] []).bind (zIQ W)) (((pG k).stmt (L.map tk)).bd λx=>((pG k).stmts f x.2).bd λq=>gt (x.1::q.1,q.2)):=by
   unfold zes;simp only[zS,zq,qz3,qz6,Nat.zero_add];refine .assoc (.l (S.stmt L ok) (λ_ _=>⟨_,rfl,_,rfl⟩) λy L3 ok3=>?_);exact .assoc (.room (by omega) (go y L3 ok3))
  unfold ziA;unfold zev;simp only[zS,zq];rw[ztg ok.ok [125],qz1];have hget:zN L 0=some (L.head (by obtain⟨x,r,rfl⟩:=ok.ok.cons;simp)):=by obtain⟨x,r,rfl⟩:=ok.ok.cons;rfl
  have k0:((L.head (by obtain⟨x,r,rfl⟩:=ok.ok.cons;simp)).Kind==0)=(zX (L.map tk)==0):=by obtain⟨x,r,rfl⟩:=ok.ok.cons;exact zhm ok 0
  simp only[hget,qz1,bne,k0,qz3,qz6,Nat.zero_add];cases h1:tIs [125] (L.map tk)with
  |true=>
   simp only[yO,qz2,yA,qz1,Bool.true_or,yB];exact .gt ok (by simp)
  |false=>
   simp only[yN,yB,qz1,Bool.false_or];cases h2:zX (L.map tk)==0 with
   |true=>
    simp only[yO,qz2,yA,yB];exact .gt ok (by simp)
   |false=>
    simp only[yN,yB,qz2,yA];cases f with
    |false=>
     simp only[Bool.false_and,qz2,yA];exact j2
    |true=>
     simp only[Bool.true_and,yB]
     have e: ∀(x y:PR Node) (f:Node×zB->PR (List Node)),((if tIs [102,117,110,99,116,105,111,110] (L.map tk)=true then x else y).bd f)=if tIs [102,117,110,99,116,105,111,110] (L.map tk)=true then x.bd f else y.bd f:=λx y f=>by
      split<;>rfl
     rw[e];refine .assoc (.has ok (λh ok1=>?_) λh=>?_)
     ·simp only[yB];rw[<-yM];refine .assoc (.l (S.func false 39 _ ok1) (λ_ _=>⟨_,rfl,_,rfl⟩) λy L3 ok3=>?_);exact .assoc (.room (by omega) (go y L3 ok3))
     ·simp only[qz2,yA];exact j2
theorem zPU(f:Bool)(ok:TL L0 L):SG L0 ER (OL false) (zgP (RG M) f [125] (pp L false)) (ziA (pG n) f (L.map tk)):=by
 unfold zgP;simp only[zS];exact .loop (zLa H hn hM (n+1) 1000000000000 (yJ _) (by omega) f [] L (by simp) ok) (yJ _)
end
section
variable {L0 L:List zu} {no:Bool} {n M:Nat} (H: ∀k,k<=n->∀N,20*k+20<=N->zwx L0 (RG N) (pG k)) (hn:n<=10000000000) (hM:20*n+39<=M) (h0:L0.length<=10000000000)
include H hn hM
theorem zTw(ok:TL L0 L):SG L0 EL (OR false) (zhA (RG M) (pp L false)) (zbO (pG n) (L.map tk)):=by
 have S:=H n (yJ _) M (by omega);have hb:=λ(L1:List zu) ok1=>zAL (L:=L1) (M:=M) H hn (by omega) ok1
 unfold zhA zbO;simp only[zS,zq];refine .is ok (λh=>?_) λh=>?_
 ·exact .ll (S.block L ok) (λ_ _=>⟨_,rfl,_,rfl⟩) λv L'=>⟨_,rfl,rfl⟩
 simp only[qz2,yA];refine .has ok (λh ok1=> .gt' ok1 (by rw[yM]) rfl) λh=>?_
 simp only[qz2,yA];refine .has ok (λh ok1=>?_) λh=>?_
 ·simp only[yB];rw[<-yM];refine(S.vars false _ ok1).gen (by rintro a _ ⟨y,rfl⟩;exact⟨_,rfl,_,rfl⟩) ?_
  rintro l L2 _ _ ok2 rfl;exact .end ok2 (λ_ _=>⟨_,rfl,_,rfl⟩) λL3 ok3=> .gt ok3 rfl
 simp only[qz2,yA];refine .has ok (λh ok1=>?_) λh=>?_
 ·simp only[yB];rw[<-yM];exact .ll (zND H hn (by omega) (by omega) ok1) (λ_ _=>⟨_,rfl,_,rfl⟩) λv L'=>⟨_,rfl,rfl⟩
 simp only[qz2,yA];refine .has ok (λh ok1=>?_) λh=>?_
 ·simp only[yB];rw[<-yM];refine .l (S.head _ ok1) (λ_ _=>⟨_,rfl,_,rfl⟩) λx L2 ok2=>?_
  refine(hb L2 ok2).gen (by rintro a _ ⟨y,rfl⟩;exact⟨_,rfl,_,rfl⟩) ?_
  rintro b L3 _ _ ok3 rfl;exact .gt ok3 rfl
 simp only[qz2,yA];refine .has ok (λh ok1=>?_) λh=>?_
 ·simp only[yB];rw[<-yM];refine(hb _ ok1).gen (by rintro a _ ⟨y,rfl⟩;exact⟨_,rfl,_,rfl⟩) ?_
  rintro b L3 _ _ ok3 rfl;refine .need ok3 (λ_ _=>⟨_,rfl,_,rfl⟩) λL4 ok4=>?_
  refine .l (S.head _ ok4) (λ_ _=>⟨_,rfl,_,rfl⟩) λx L2 ok2=>?_
  exact .end ok2 (λ_ _=>⟨_,rfl,_,rfl⟩) λL3 ok3=> .gt ok3 rfl
 simp only[qz2,yA];refine .has ok (λh ok1=>?_) λh=>?_
 ·simp only[yB];rw[<-yM];exact .ll (S.loop _ ok1) (λ_ _=>⟨_,rfl,_,rfl⟩) λv L'=>⟨_,rfl,rfl⟩
 simp only[qz2,yA];refine .has ok (λh ok1=>?_) λh=>?_
 ·simp only[yB];rw[<-yM];exact .ll (zLk (M:=M) H hn (by omega) 31 ok1) (λ_ _=>⟨_,rfl,_,rfl⟩) λv L'=>⟨_,rfl,rfl⟩
 simp only[qz2,yA];refine .has ok (λh ok1=>?_) λh=>?_
 ·simp only[yB];rw[<-yM];exact .ll (zLk (M:=M) H hn (by omega) 32 ok1) (λ_ _=>⟨_,rfl,_,rfl⟩) λv L'=>⟨_,rfl,rfl⟩
 simp only[qz2,yA];refine .has ok (λh ok1=>?_) λh=>?_
 ·simp only[yB];rw[<-yM,ztg ok1.ok [59],qz1];cases h59:tIs [59] (L.tail.map tk)with
  |true=>
   simp only[yO,qz2,yA,Bool.false_and];exact .end ok1 (λ_ _=>⟨_,rfl,_,rfl⟩) λL3 ok3=> .gt ok3 rfl
  |false=>
   simp only[yN,yB,Bool.true_and];refine .stops ok1 ?_;cases hs:zk2 (L.tail.map tk)with
   |true=>
    simp only[yO,qz2,yA];exact .end ok1 (λ_ _=>⟨_,rfl,_,rfl⟩) λL3 ok3=> .gt ok3 rfl
   |false=>
    simp only[yN,yB];refine .r (S.expr false _ ok1) (λ_ _=>⟨_,rfl,_,rfl⟩) λx L2 ok2=>?_
    exact .end ok2 (λ_ _=>⟨_,rfl,_,rfl⟩) λL3 ok3=> .gt ok3 rfl
 simp only[qz2,yA];refine .has ok (λh ok1=>?_) λh=>?_
 ·simp only[yB];rw[<-yM];obtain⟨a,r,hL⟩:=ok1.ok.cons;rw[hL]at ok1⊢;have hf:a.Fresh=ze6 ((a::r).map tk):=rfl;simp only[zdG,qz1,hf];cases hfr:ze6 ((a::r).map tk)with
  |true=>
   simp only[yB];exact .fail ok1 λa=>⟨_,rfl,_,rfl⟩
  |false=>
   simp only[qz2,yA];refine .r (S.expr false _ ok1) (λ_ _=>⟨_,rfl,_,rfl⟩) λx L2 ok2=>?_
   exact .end ok2 (λ_ _=>⟨_,rfl,_,rfl⟩) λL3 ok3=> .gt ok3 rfl
 simp only[qz2,yA];refine .has ok (λh ok1=>?_) λh=>?_
 ·simp only[yB];rw[<-yM];exact .ll (zVh H hn (by omega) (by omega) ok1) (λ_ _=>⟨_,rfl,_,rfl⟩) λv L'=>⟨_,rfl,rfl⟩
 simp only[qz2,yA];refine .has ok (λh ok1=>?_) λh=>?_
 ·simp only[yB];rw[<-yM];exact .ll (zPi H hn (by omega) (by omega) ok1) (λ_ _=>⟨_,rfl,_,rfl⟩) λv L'=>⟨_,rfl,rfl⟩
 simp only[qz2,yA];refine .is ok (λh=>?_) λh=>?_
 ·simp only[yB];exact .fail ok λa=>⟨_,rfl,_,rfl⟩
 simp only[qz2,yA];obtain⟨a,r,rfl⟩:=ok.ok.cons;have k1:=zhm ok 1;rw[show((1:Nat):Int)=1 from rfl]at k1;simp only[zdG,qz1,k1]
 have last:SG L0 EL (OR false) (((RG M).zau (pp (a::r) false)).bind λr_95=>
   match r_95 with
   |Sum.inl r_96=>
    (zbF r_96.2.1).bind λr_97=>
     match r_97 with
     |Sum.inl r_98=>some (Sum.inl (r_98.1,r_98.2.1,()))
     |Sum.inr r_99=>some (Sum.inr ((⟨24,[],0,[],[],[r_96.1]⟩:zg),r_99.1,()))
   |Sum.inr r_100=>some (Sum.inl (r_100.1,r_100.2.1,())))
   (((pG n).expr false ((a::r).map tk)).bd λx=>(zgN x.2).bn λt=>gt (nd 24 [x.1],t)):=by
  refine .r (S.expr false _ ok) (λ_ _=>⟨_,rfl,_,rfl⟩) λx L2 ok2=>?_
  exact .end ok2 (λ_ _=>⟨_,rfl,_,rfl⟩) λL3 ok3=> .gt ok3 rfl
 cases h1:zX ((a::r).map tk)==1 with
 |false=>
  simp only[qz2,yA,qz1,Bool.false_and];exact last
 |true=>
  have ok1:=ok.tail (zcV h1 (by decide));obtain⟨b,r',hr⟩:=ok1.ok.cons;obtain rfl:r=b::r':=hr;have hget:zN (a::b::r') 1=some b:=rfl;have k5:=zhm ok1 5;rw[show((5:Nat):Int)=5 from rfl]at k5
  have h58:tIs [58] ((b::r').map tk)=(zX ((b::r').map tk)==5&&b.Text==[58]):=by
   show(opK (tk b)&&(b.Text==([58]:Str)))=((tk b).kind==5&&b.Text==([58]:Str))
   unfold opK;cases h5:(tk b).kind==5 with
   |true=>rfl
   |false=>
    simp only[Bool.false_or,Bool.false_and];cases h2:(tk b).kind==2 with
    |false=>rfl
    |true=>
     have e2:b.Kind=2:=eq_of_beq ((zhm ok1 2).trans h2);rw[Bool.true_and,yH];exact ok1.ok.colon b qz7 e2
  have ht:((a::b::r').map tk).tail=(b::r').map tk:=rfl;simp only[hget,yB,qz1,k5,Bool.true_and,ht,h58];cases h5:zX ((b::r').map tk)==5 with
  |false=>
   simp only[qz2,yA,qz1,Bool.false_and];exact last
  |true=>
   simp only[yB,qz1,Bool.true_and];cases h6:b.Text==([58]:Str)with
   |false=>
    simp only[qz2,yA];exact last
   |true=>
    simp only[yB];have e: ∀q:PR Node,q=if(zX ((a::b::r').map tk)==1)=true then q else bad ((a::b::r').map tk):=λq=>by rw[yL h1]
    rw[e (((pG n).stmt _).bd _)];refine .name ok (λ_ _=>⟨_,rfl,_,rfl⟩) λ_ ok1=>?_
    refine .take ok1 (zcV h5 (by decide)) λc hc ok2=>?_
    exact .l (S.stmt _ ok2) (λ_ _=>⟨_,rfl,_,rfl⟩) λx L2 ok2=> .gt ok2 rfl
include h0 in
theorem zOC(N:Nat)(hN:20*n+40<=N):zwx L0 (RG N) (pG (n+1)):=by
 obtain⟨K,rfl⟩: ∃k,N=k+1:=⟨N -1,by omega⟩
 have m1:20*n+30<=K:=by omega
 have m2:20*n+39<=K:=by omega
 exact{
  expr:=λno L ok=>zTl H hn m1 ok
  assign:=λno L ok=>zOQ H hn m1 ok
  binary:=λno b L ok hb=>zOp H hn m1 b hb ok
  unary:=λno L ok=>zQV H hn m1 ok
  mems:=λno x c L ok=>zSp H hn m1 x c ok
  made:=λno L ok=>zRI H hn m1 ok
  prim:=λno L ok=>zS1 H hn m1 m2 ok
  exprs:=λno s last L ok=>zQn H hn m1 m2 s last ok
  props:=λno L ok=>zQN H hn m1 m2 ok
  func:=λno k L ok=>zRP H hn m1 h0 k ok
  vars:=λno L ok=>zSU H hn m1 ok
  block:=λL ok=>zQQ H hn m1 ok
  head:=λL ok=>zTS H hn m1 ok
  till:=λs L ok=>zSV H hn m1 s ok
  loop:=λL ok=>zR3 H hn m1 ok
  stmt:=λL ok=>zTw H hn m2 ok
  stmts:=λf L ok=>zPU H hn m1 f ok}
end
theorem zJq{L0:List zu}(h0:L0.length<=10000000000): ∀n,n<=10000000001->∀k,k<=n->∀N,20*k+20<=N->zwx L0 (RG N) (pG k)
 |0,_,k,hk,N,_=>by
  obtain rfl:k=0:=by omega
  constructor<;>intros<;>trivial
 |n+1,hn,k,hk,N,hN=>by
  have H:=zJq h0 n (by omega);by_cases h:k<=n
  ·exact H k h N hN
  ·obtain rfl:k=n+1:=by omega
   exact zOC H (by omega) (M:=20*n+39) (yJ _) h0 N (by omega)
def zAR(L:List zu):Node×Int×Int:=
 match(pG (10*L.length+20)).stmts true (L.map tk)with
 |none=>(nd 0 [],0,0)
 |some (.inl k)=>(nd 0 [],atK L k,80)
 |some (.inr q)=>if zX q.2=0 then(if 64<zW (nd 41 q.1)then(nd 0 [],0,31)else(nd 41 q.1,0,0))else(nd 0 [],atK L q.2.length,80)
theorem zDO{t:zB}(w:Wf t): ∃r,(pG (10*t.length+20)).stmts true t=some r:=by
 have:=(zRz (10*t.length+20)).stmts true t w (by omega);cases h:(pG (10*t.length+20)).stmts true t with
 |none=>rw[h]at this;exact this.elim
 |some r=>exact⟨r,rfl⟩
theorem zQu{t:zB}(w:Wf t){q:List Node×zB}(h:zoQ true t q):(pG (10*t.length+20)).stmts true t=gt q:=by
 obtain⟨r,hr⟩:=zDO w;obtain⟨N,hN⟩:=h;have h1:=zLy N hr;have h2:(pG (10*t.length+20+N)).stmts true t=gt q:=hN (10*t.length+20+N) (by omega);rw[h1]at h2;rw[hr];exact h2
theorem zwX{src:Str}{L:List zu}(hs:src.length<=100000000)(hc:U.zj9 src=(L,0,0))(ok:TOk L)(hl:L.length<=100000000)
  (hz: ∀q,(pG (10*L.length+20)).stmts true (L.map tk)=gt q->zkk (nd 41 q.1)<=2097152):zcJ src=some ((zAR L).1,(zAR L).2.1,(zAR L).2.2,()):=by
 have okL:TL L L:=⟨ok,List.suffix_refl L⟩
 have S:=(zJq (L0:=L) (by omega) (10*L.length+20) (by omega) _ (yJ _) 1000000000000 (by omega)).stmts true L okL;obtain⟨r,hr⟩:=zDO ok.wf;rw[List.length_map]at hr;unfold zcJ zAR;rw[U.zHi src hs,hc];simp only[qz1,bne_self_eq_false,qz2,yA];rw[hr]at S hz⊢;cases r with
 |inl k=>
  obtain⟨r,e,y,rfl⟩:=S;have e:zbn true [125] ⟨L,false⟩=some (.inr (zad.code 45 (atK L k),y)):=e;rw[e];rfl
 |inr q=>
  obtain⟨r,L',e,e2,ok',rfl⟩:=S;have e:zbn true [125] ⟨L,false⟩=some (.inl (q.1,pp L' false,())):=e;rw[e];obtain⟨x,r,rfl⟩:=ok'.ok.cons;have k0:=zhm ok' 0;rw[show((0:Nat):Int)=0 from rfl]at k0;have hd:=zzC (nd 41 q.1) (hz q rfl);simp only[qz1,zdG,bne,k0];rw[<-e2];cases h0:zX ((x::r).map tk)==0 with
  |false=>
   have h1: ¬zX ((x::r).map tk)=0:=by simpa using h0
   rw[yK h1,ok'.at_];rfl
  |true=>
   have h1:zX ((x::r).map tk)=0:=by simpa using h0
   rw[yL h1];simp only[yO,qz2,yA];rw[show zex (⟨41,[],0,[],[],q.1⟩:zg)=some ((zW (nd 41 q.1):Int),())from hd];simp only[qz1];by_cases hdp:64<zW (nd 41 q.1)
   ·rw[yL hdp,decide_eq_true (by omega)];rfl
   ·rw[yK hdp,decide_eq_false (by omega)];rfl
end Go.D08
namespace Go.D08.U
open Go Go.Gw Go.Dn Go.Proofs
set_option maxRecDepth 100000
theorem zO4{r:Str}{us:List Nat}{k:Nat}(h:zmg r=some (us,k)):us.length<=1:=by
 cases r with
 |nil=>cases h
 |cons c r=>
  unfold zmg at h;dsimp only at h;split at h
  ·cases h;simp
  ·split at h
   ·split at h
    ·cases h;simp
    ·split at h
     ·cases h
     ·cases h;simp
   ·split at h
    ·cases e:hexN 2 r 0 with
     |none=>rw[e]at h;cases h
     |some n=>rw[e]at h;cases h;simp
    ·split at h
     ·cases e:hexN 4 r 0 with
      |none=>rw[e]at h;cases h
      |some n=>rw[e]at h;cases h;simp
     ·cases e:zmo c with
      |none=>rw[e]at h;cases h
      |some n=>rw[e]at h;cases h;simp
theorem ztR(q:UInt8): ∀(m:Nat) (r:Str) (acc us:List Nat) (k:Nat),zeF q m r acc=some (us,k)->us.length<=acc.length+m
 |0,_,_,_,_,h=>by cases h
 |m+1,[],_,_,_,h=>by cases h
 |m+1,c::r,acc,us,k,h=>by
  unfold zeF at h;split at h
  ·cases h;omega
  ·split at h
   ·cases h
   ·split at h
    ·split at h
     ·cases h
     ·rename_i us' k' he;have:=ztR q m _ _ _ _ h;have h1:=zO4 he;rw[qz5]at this;omega
    ·have:=ztR q m _ _ _ _ h;rw[qz5]at this;simp only[qz3,qz6]at this;omega
theorem zMT{s:Str}{u:Str}{n e:Int}(h:zdZ s=(u,n,e))(hn:n≠0): ∃us:List Nat,u=zeJ us/\us.length<=s.length:=by
 cases s with
 |nil=>cases h;exact absurd rfl hn
 |cons q r=>
  unfold zdZ at h;simp only at h;split at h
  ·cases hg:zeF q (r.length+1) r []with
   |none=>rw[hg]at h;cases h;exact absurd rfl hn
   |some p=>
    obtain⟨us,k⟩:=p;rw[hg]at h;cases h;have:=ztR q _ _ _ _ _ hg;exact⟨us,rfl,by simpa using this⟩
  ·cases h;exact absurd rfl hn
structure zAV (s:Str) (t:Tok):Prop where
 len:t.Text.length<=2*s.length
 ident:t.Kind=1\/t.Kind=2->t.Text=s.take (za2 s)/\za2 s<=32/\∃c r,s=c::r/\isLet c=true
 word:t.Kind=1\/t.Kind=2->(t.Kind=2↔zlo t.Text=true)
 num:t.Kind=3->0<=t.Num/\t.Num<=9007199254740991/\t.Text=[]
 str:t.Kind=4->∃us:List Nat,t.Text=zeJ us/\us.length<=s.length
 sign:t.Kind=5->t.Text=s.take (zcs s)/\zcs s≠0
theorem zUU{s:Str}{t:Tok}{n:Nat}(h:zgt s=some (t,n)):zAV s t:=by
 cases s with
 |nil=>cases h
 |cons c s=>
  have hrow:=zmJ (c::s);have hsg:=zBX c s;unfold zgt at h;dsimp only at h;split at h
  ·rename_i hl;split at h
   ·cases h
   ·rename_i h32;cases h;have hk: ∀b:Bool,(if b=true then(2:Int)else 1)=2↔b=true:=by intro b;cases b<;>decide
    have hk3: ∀b:Bool,(if b=true then(2:Int)else 1)≠3/\(if b=true then(2:Int)else 1)≠4/\(if b=true then(2:Int)else 1)≠5:=by intro b;cases b<;>decide
    exact⟨by rw[List.length_take];omega,λ_=>⟨rfl,by omega,c,s,rfl,hl⟩,λ_=>hk _,λe=>absurd e (hk3 _).1,λe=>absurd e (hk3 _).2.1,λe=>absurd e (hk3 _).2.2⟩
  ·split at h
   ·cases hn:znd (c::s)with
    |none=>rw[hn]at h;cases h
    |some p=>
     rw[hn]at h;cases h
     have hb:p.1<=9007199254740991:=by
      unfold znd at hn;split at hn
      ·cases hn
      ·split at hn
       ·cases hn
       ·split at hn
        ·cases hn;assumption
        ·cases hn
     exact⟨by simp,λe=>by rcases e with e|e<;>exact absurd e (by simp),λe=>by rcases e with e|e<;>exact absurd e (by simp),λ_=>⟨by simp only;omega,by simp only;omega,rfl⟩,λe=>absurd e (by simp),λe=>absurd e (by simp)⟩
   ·split at h
    ·generalize hx:zdZ (c::s)=q at h;obtain⟨u,n',e⟩:=q;simp only at h;split at h
     ·cases h
     ·rename_i hne;cases h;obtain⟨us,h1,h2⟩:=zMT hx hne;exact⟨by rw[h1,zoP];omega,λe=>by rcases e with e|e<;>exact absurd e (by simp),λe=>by rcases e with e|e<;>exact absurd e (by simp),λe=>absurd e (by simp),λ_=>⟨us,h1,h2⟩,λe=>absurd e (by simp)⟩
    ·split at h
     ·cases h
     ·rename_i hne;cases h;exact⟨by rw[List.length_take];omega,λe=>by rcases e with e|e<;>exact absurd e (by simp),λe=>by rcases e with e|e<;>exact absurd e (by simp),λe=>absurd e (by simp),λe=>absurd e (by simp),λ_=>⟨rfl,hne⟩⟩
theorem zTP: ∀b:Fin 256,zf0 (UInt8.ofNat b.val)=true->b.val<128/\b.val≠32/\b.val≠58:=by decide+kernel
theorem zBD(b:UInt8)(h:zf0 b=true):b<128/\b≠32/\b≠58:=by
 have:=zTP ⟨b.toNat,b.toNat_lt⟩;have e:UInt8.ofNat b.toNat=b:=by simp
 simp only[e]at this;obtain⟨h1,h2,h3⟩:=this h;exact⟨h1,λe=>h2 (by rw[e];rfl),λe=>h3 (by rw[e];rfl)⟩
theorem zN1(c:UInt8)(r:Str)(h:zcs (c::r)≠0):(32:UInt8)∉(c::r).take (zcs (c::r)):=by
 unfold zcs at h⊢;split
 ·rename_i h3;have: ∀w∈zjv,(32:UInt8)∉w:=by decide+kernel
  exact this _ (by simpa using h3.2)
 ·split
  ·rename_i h2;have: ∀w∈zki,(32:UInt8)∉w:=by decide+kernel
   exact this _ (by simpa using h2.2)
  ·split
   ·rename_i h1;have h1:c∈zAE:=by simpa using h1
    have: ∀c∈zAE,(32:UInt8)≠c:=by decide+kernel
    simp[this c h1]
   ·simp
theorem zz1{s:Str}{t:Tok}(o:zAV s t)(hk:t.Kind=1\/t.Kind=2):(∀b∈t.Text,zf0 b=true)/\t.Text≠[]:=by
 obtain⟨h1,h2,c,r,rfl,hl⟩:=o.ident hk;have ha:=zNw (c::r);rw[<-h1]at ha;refine⟨λb hb=>List.all_eq_true.1 ha b hb,λe=>?_⟩;have:1<=za2 (c::r):=by rw[zgU,yL (by simp[zf0,hl])];omega
 rw[h1]at e;have:=congrArg List.length e;rw[List.length_take]at this;simp at this;omega
inductive zqW (b:Nat):List Tok->Prop
 |fin (e:Tok):e.Kind=0->e.Text=[]->zqW b [e]
 |one (s:Str) (t:Tok) (l:List Tok):zAV s t->s.length<=b->1<=t.Kind->t.Kind<=5->zqW b l->zqW b (t::l)
theorem zAV.fresh{s:Str}{t:Tok}(o:zAV s t)(f:Bool)(n:Int):zAV s ((t.fresh f).at_ n):=⟨o.len,o.ident,o.word,o.num,o.str,o.sign⟩
theorem zE5(len:Nat): ∀(m:Nat) (s:Str) (f:Bool) (l:List (Tok×Nat)),zd9 m s f= .inl l->s.length<=len->zqW len (zjC len l)/\(zjC len l).length<=s.length+1
 |0,_,_,_,h,_=>by cases h
 |m+1,s,f,l,h,hs=>by
  have hl:=zec (s.length+1) s f;rw[zd9]at h;generalize zaW (s.length+1) s f=q at h hl;obtain⟨r,f',ok⟩:=q;simp only at h hl;split at h
  ·cases h
  ·split at h
   ·cases h;exact⟨.fin _ rfl rfl,by simp[zjC]⟩
   ·cases ho:zgt r with
    |none=>rw[ho]at h;cases h
    |some p=>
     obtain⟨t,n⟩:=p;rw[ho]at h;simp only at h;have hn:=zkC ho;cases hc:zd9 m (r.drop n) false with
     |inr k=>rw[hc]at h;cases h
     |inl l'=>
      rw[hc]at h;cases h;have hd:(r.drop n).length=r.length -n:=List.length_drop;obtain⟨g1,g2⟩:=zE5 len m (r.drop n) false l' hc (by omega);rw[zuq];exact⟨.one r _ _ ((zUU ho).fresh f' _) (by omega) hn.2.2.1 hn.2.2.2.1 g1,by simp only[qz3];omega⟩
theorem ztx{src:Str}{L:List Tok}(h:zj9 src=(L,0,0)):zqW 4096 L/\L.length<=4097/\src.length<=4096:=by
 unfold zj9 at h;split at h
 ·exact absurd (congrArg (λx=>x.2.2) h) (by simp)
 ·split at h
  ·rename_i l hc;obtain rfl:zjC src.length l=L:=congrArg (λx=>x.1) h;obtain⟨g1,g2⟩:=zE5 src.length _ _ _ _ hc (yJ _);refine⟨?_,by omega,by omega⟩
   have up: ∀{l:List Tok},zqW src.length l->zqW 4096 l:=λh=>by
    induction h with
    |fin e h1 h2=>exact .fin e h1 h2
    |one s t l h1 h2 h3 h4 _ ih=>exact .one s t l h1 (by omega) h3 h4 ih
   exact up g1
  ·exact absurd (congrArg (λx=>x.2.2) h) (by simp)
theorem zqW.ok{L:List Tok}(h:zqW 4096 L):TOk L:=by
 induction h with
 |fin e h1 h2=>
  refine⟨?_,?_,?_,?_,?_,?_,[],e,rfl,h1,λt ht=>by cases ht⟩<;>intro t ht<;>(obtain rfl:t=e:=by simpa using ht)
  ·omega
  ·rw[h2];simp
  ·rw[h2];simp
  ·intro hk;omega
  ·intro hk;omega
  ·intro hk;omega
 |one s t l o hs k1 k5 _ ih=>
  obtain⟨a,e,e1,e2,e3⟩:=ih.last;refine⟨?_,?_,?_,?_,?_,?_,t::a,e,by rw[e1];rfl,e2,?_⟩
  ·intro x hx;rcases yP.1 hx with rfl|hx
   ·omega
   ·exact ih.kinds x hx
  ·intro x hx;rcases yP.1 hx with rfl|hx
   ·have:=o.len;omega
   ·exact ih.texts x hx
  ·intro x hx;rcases yP.1 hx with rfl|hx
   ·intro hop
    have hk:x.Kind=5\/x.Kind=2:=by
     unfold opK tk at hop;simp only[yQ,beq_iff_eq]at hop;omega
    rcases hk with hk|hk
    ·obtain⟨h1,h2⟩:=o.sign hk;rw[h1];cases s with
     |nil=>simp
     |cons c r=>exact zN1 c r h2
    ·intro hm;exact(zBD 32 ((zz1 o (.inr hk)).1 32 hm)).2.1 rfl
   ·exact ih.plain x hx
  ·intro x hx;rcases yP.1 hx with rfl|hx
   ·intro hk b hb;exact(zBD b ((zz1 o hk).1 b hb)).1
   ·exact ih.ascii x hx
  ·intro x hx;rcases yP.1 hx with rfl|hx
   ·intro hk e;have:=(zz1 o (.inr hk)).1 58 (by rw[e];exact qz7)
    exact(zBD 58 this).2.2 rfl
   ·exact ih.colon x hx
  ·intro x hx;rcases yP.1 hx with rfl|hx
   ·intro hk;have:=o.num hk;exact⟨this.1,this.2.1⟩
   ·exact ih.nums x hx
  ·intro x hx;rcases yP.1 hx with rfl|hx
   ·omega
   ·exact e3 x hx
theorem zB9(x:UInt8): ∀(p s b:Str),x∉p->p.isPrefixOf (s++x::b)=p.isPrefixOf s
 | [],s,b,_=>by cases s<;>rfl
 |a::p,[],b,h=>by
  simp only[yP,not_or]at h;have:(a==x)=false:=yH.2 (λe=>h.1 e.symm);simp[List.isPrefixOf,this]
 |a::p,c::s,b,h=>by
  simp only[yP,not_or]at h;simp only[yI,List.isPrefixOf,zB9 x p s b h.2]
theorem zRa(b:Str): ∀s:Str,s.all zf0=true->za2 (s++32::b)=s.length
 | [],_=>by rw[List.nil_append,zgU,yK (by decide)];rfl
 |c::s,h=>by
  simp only[List.all_cons,qz4]at h;rw[yI,zgU,yL h.1,zRa b s h.2];rfl
theorem zNs{s b:Str}{k:Nat}{x:UInt8}(h:s.length<k):x∈(s++x::b).take k:=by
 rw[List.mem_iff_getElem?];refine⟨s.length,?_⟩;rw[List.getElem?_take_of_lt h,yG (yJ _)];simp
theorem zCB{x:UInt8}{L:List Str}(hL: ∀w∈L,x∉w){y:Str}(h:x∈y):L.contains y=false:=by
 rw[<-Bool.not_eq_true,List.contains_iff_mem];intro hm;exact hL y hm h
theorem zTJ(c:UInt8)(s b:Str):zcs ((c::s)++32::b)=zcs (c::s):=by
 unfold zcs
 have e3:(2< ((c::s)++32::b).length/\zjv.contains (((c::s)++32::b).take 3)=true)=(2< (c::s).length/\zjv.contains ((c::s).take 3)=true):=by
  by_cases h:2< (c::s).length
  ·rw[List.take_append_of_le_length (by omega)];have:2< ((c::s)++32::b).length:=by simp only[qz5];omega
   simp only[this,h,true_and]
  ·rw[zCB (x:=32) (L:=zjv) (by decide) (zNs (by omega))];rw[eq_iff_iff];exact⟨λe=>(by cases e.2),λe=>absurd e.1 h⟩
 have e2:(1< ((c::s)++32::b).length/\zki.contains (((c::s)++32::b).take 2)=true)=(1< (c::s).length/\zki.contains ((c::s).take 2)=true):=by
  by_cases h:1< (c::s).length
  ·rw[List.take_append_of_le_length (by omega)];have:1< ((c::s)++32::b).length:=by simp only[qz5];omega
   simp only[this,h,true_and]
  ·rw[zCB (x:=32) (L:=zki) (by decide) (zNs (by omega))];rw[eq_iff_iff];exact⟨λe=>(by cases e.2),λe=>absurd e.1 h⟩
 simp only[e3,e2];rfl
def zm5(s:Str):Bool:=match s with
 | []=>false
 |c::r=> !zcm c&&(!decide (c=32\/c=9\/c=11\/c=12)&&(!([47,47]:Str).isPrefixOf (c::r)&& !([47,42]:Str).isPrefixOf (c::r)))
theorem zoT{s:Str}(h:zm5 s=true)(m:Nat)(f:Bool):zaW (m+1) s f=(s,f,true):=by
 cases s with
 |nil=>cases h
 |cons c r=>
  simp only[zm5,qz4,Bool.not_eq_true',decide_eq_false_iff_not]at h;obtain⟨h1,h2,h3,h4⟩:=h;unfold zaW;rw[yK (by rw[h1];simp),yK h2,yK (by rw[h3];simp),yK (by rw[h4];simp)]
theorem zS9(a b:UInt8):enc1 (a.toNat*256+b.toNat)=[a,b]:=by
 have h1:=a.toNat_lt;have h2:=b.toNat_lt;unfold enc1;have e1:(a.toNat*256+b.toNat)/256=a.toNat:=by omega
 have e2:(a.toNat*256+b.toNat)%256=b.toNat:=by omega
 rw[e1,e2];simp
theorem zCI: ∀u:Str,u.length%2=0->zeJ (zaq u)=u
 | [],_=>rfl
 | [_],h=>by simp at h
 |a::b::r,h=>by
  have ih:=zCI r (by simp only[qz3]at h;omega)
  unfold zeJ at ih⊢;simp only[zaq,List.flatMap_cons,zS9,ih];rfl
theorem zBL{c:UInt8}{r:Str}(h:zf0 c=true\/c=34):zm5 (c::r)=true:=by
 have key: ∀b:Fin 256,zf0 (UInt8.ofNat b.val)=true\/UInt8.ofNat b.val=34->zcm (UInt8.ofNat b.val)=false/\¬(UInt8.ofNat b.val=32\/UInt8.ofNat b.val=9\/UInt8.ofNat b.val=11\/UInt8.ofNat b.val=12)/\UInt8.ofNat b.val≠47:=by decide+kernel
 have:=key ⟨c.toNat,c.toNat_lt⟩;rw[ofN]at this;obtain⟨h1,h2,h3⟩:=this h;have e:((47:UInt8)==c)=false:=yH.2 (λe=>h3 e.symm);simp only[zm5,h1,h2,List.isPrefixOf,e,decide_false,Bool.false_and,yN,Bool.and_self]
theorem zz5(o:Nat)(t:Str): ∀(s:Str) (a:Nat),zek o (s++t) a=(zek o s a).bind (zek o t)
 | [],a=>rfl
 |c::s,a=>by
  simp only[yI,zek];cases hexV c with
  |none=>rfl
  |some d=>
   simp only;split
   ·exact zz5 o t s _
   ·rfl
theorem zwE: ∀s:Str,zaq s=Go.D08.zaq s
 | []=>rfl
 | [_]=>rfl
 |a::b::r=>by
  show _::zaq r=_::Go.D08.zaq r;rw[zwE r]
theorem zCS(l:List Nat):zaO l=Go.Gw.zaO l:=rfl
def Behind(r:Str):Prop:=r=[]\/∃b,r=32::b
theorem zRu{r:Str}(hr:Behind r){s:Str}(h:s.all zf0=true):za2 (s++r)=s.length:=by
 rcases hr with rfl| ⟨b,rfl⟩
 ·rw[List.append_nil];exact(zB8 s).2 h
 ·exact zRa b s h
theorem zUn{r:Str}(hr:Behind r)(c:UInt8)(s:Str):zcs ((c::s)++r)=zcs (c::s):=by
 rcases hr with rfl| ⟨b,rfl⟩
 ·rw[List.append_nil]
 ·exact zTJ c s b
theorem zV1{r:Str}(hr:Behind r)(s:Str):(s++r)[s.length]? ≠some 46:=by
 rcases hr with rfl| ⟨b,rfl⟩
 ·simp
 ·rw[yG (yJ _)];simp
structure WR (w:Str) (t:Tok):Prop where
 one: ∀r,Behind r->zgt (w++r)=some (t,w.length)
 stop: ∀r,Behind r->zm5 (w++r)=true
theorem zDr{r:Str}(hr:Behind r){s:Str}(h:zm5 s=true):zm5 (s++r)=true:=by
 rcases hr with rfl| ⟨b,rfl⟩
 ·rw[List.append_nil];exact h
 ·cases s with
  |nil=>cases h
  |cons c r=>
   rw[yI];simp only[zm5]at h⊢;rw[<-yI,zB9 32 _ _ _ (by decide),zB9 32 _ _ _ (by decide)];exact h
theorem zrI{w:Str}(h:zfD w=true):WR w {Kind:=if zlo w=true then 2 else 1,Text:=w,Num:=0,At:=0,Fresh:=false}:=by
 cases w with
 |nil=>cases h
 |cons c s=>
  simp only[zfD,qz4,yT]at h;obtain⟨h32,hl,hall⟩:=h;refine⟨λr hr=>?_,λr hr=>zDr hr (zBL (.inl (by simp[zf0,hl])))⟩;have hrow:=zRu hr hall;have htake:((c::s)++r).take (c::s).length=c::s:=List.take_left;rw[yI]at hrow htake⊢;unfold zgt;simp only[hl,yB,hrow,htake,show ¬(32< (c::s).length) by omega,yA]
theorem zFF: ∀(k u:Nat),u<k->zek 10 (Lib.decDigits u) 0=some u/\∃c r,Lib.decDigits u=c::r/\zfv c=true/\(c=48->r=[])
 |0,u,h=>by omega
 |k+1,u,h=>by
  have hd: ∀d,d<10->(UInt8.ofNat (48+d)).toNat=48+d:=λd hd=>by rw[UInt8.toNat_ofNat'];omega
  have hv: ∀d,d<10->hexV (UInt8.ofNat (48+d))=some d:=λd h=>by unfold hexV;rw[hd d h,yL (by omega)];congr 1;omega
  have hg: ∀d,d<10->zfv (UInt8.ofNat (48+d))=true:=λd h=>by unfold zfv;rw[hd d h];simp;omega
  rw[Lib.decDigits];split
  ·rename_i hu;refine⟨?_,_,_,rfl,hg u hu,λ_=>rfl⟩;simp only[zek,hv u hu,hu,yB];simp
  ·rename_i hu;obtain⟨h1,c,r,h2,h3,h4⟩:=zFF k (u/10) (by omega);refine⟨?_,c,r++[UInt8.ofNat (48+u%10)],by rw[h2];rfl,h3,λe=>?_⟩
   ·rw[zz5,h1];simp only[qz1,zek,hv (u%10) (by omega),show u%10<10 by omega,yB];congr 1;omega
   ·exfalso;have hr:=h4 e;rw[e,hr]at h2;have h6:=(zm8 (u/10+1) (u/10) (by omega)).1;rw[h2]at h6;have h7:zIp [48]=0:=by decide
    rw[h7]at h6;omega
theorem zIG{n:Nat}(h:n<=9007199254740991):WR (Lib.decDigits n) {Kind:=3,Text:=[],Num:=(n:Int),At:=0,Fresh:=false}:=by
 obtain⟨h1,c,s,h2,h3,h48⟩:=zFF (n+1) n (by omega);have hd:=(zm8 (n+1) n (by omega)).2.1;rw[h2]at h1 hd⊢
 have hcl:isLet c=false:=by
  have key: ∀b:Fin 256,zfv (UInt8.ofNat b.val)=true->isLet (UInt8.ofNat b.val)=false:=by decide+kernel
  have:=key ⟨c.toNat,c.toNat_lt⟩;rw[ofN]at this;exact this h3
 have hall:(c::s).all zf0=true:=by
  rw[List.all_eq_true];intro x hx;unfold zf0;rw[hd x hx,Bool.or_true]
 refine⟨λr hr=>?_,λr hr=>zDr hr (zBL (.inl (by unfold zf0;rw[h3,Bool.or_true])))⟩
 have hrow:=zRu hr hall;have htake:((c::s)++r).take (c::s).length=c::s:=List.take_left;have hget:=zV1 hr (c::s)
 have hnum:znd ((c::s)++r)=some (n,(c::s).length):=by
  unfold znd;rw[hrow,htake,yK hget]
  have hD:zCc (c::s)=some n:=by
   unfold zCc
   have n1: ¬((c::s).take 2=[48,120]\/(c::s).take 2=[48,88]):=by
    cases s with
    |nil=>simp
    |cons d r=>
     have hdd:=hd d (by simp);simp only[List.take_succ_cons,List.take_zero,List.cons.injEq,and_true];rintro(⟨_,rfl⟩| ⟨_,rfl⟩)
     ·exact absurd hdd (by decide)
     ·exact absurd hdd (by decide)
   have n2: ¬(1< (c::s).length/\(c::s).head?=some 48):=by
    rintro⟨l1,l2⟩;simp only[List.head?_cons,Option.some.injEq]at l2;rw[h48 l2]at l1;simp at l1
   rw[yK (λh=>n1 h.2),yK n2,h1]
  rw[hD];simp only[h,yB]
 rw[yI]at hnum⊢;unfold zgt;simp only[hcl,qz2,yA,h3,yB,hnum,Option.map_some]
theorem zJE{u:Str}(he:u.length%2=0):WR (34::(zaO (zaq u)++[34])) {Kind:=4,Text:=u,Num:=0,At:=0,Fresh:=false}:=by
 refine⟨λr hr=>?_,λr hr=>zDr hr (zBL (.inr rfl))⟩
 have hrd:zdZ (34::(zaO (zaq u)++[34])++r)=(u,(((34::(zaO (zaq u)++[34])).length:Nat):Int),0):=by
  have hg:=zGX r (zaq u) [] ((zaO (zaq u)++34::r).length+1) (zmH u) (by have:=zDl (zaq u);rw[qz5];omega)
  have e:34::(zaO (zaq u)++[34])++r=34::(zaO (zaq u)++34::r):=by simp
  rw[e];unfold zdZ;simp only[or_true,yB];rw[hg];simp only[List.nil_append,zCI u he];congr 2;simp only[qz3,qz5,qz6];omega
 rw[yI]at hrd⊢;have c1:isLet 34=false:=by decide
 have c2:zfv 34=false:=by decide
 unfold zgt;simp only[c1,c2,qz2,yA,or_true,yB,hrd];have hne: ¬((((34::(zaO (zaq u)++[34])).length:Nat):Int)=0):=by simp;omega
 simp only[hne,yA,Int.toNat_natCast]
def zMZ(w:Str):Bool:=match w with
 | []=>false
 |c::s=> !isLet c&&(!zfv c&&(!decide (c=39\/c=34)&&(zm5 w&&zcs w==w.length)))
theorem zEJ{w:Str}(h:zMZ w=true):WR w {Kind:=5,Text:=w,Num:=0,At:=0,Fresh:=false}:=by
 cases w with
 |nil=>cases h
 |cons c s=>
  simp only[zMZ,qz4,Bool.not_eq_true',decide_eq_false_iff_not,beq_iff_eq]at h;obtain⟨h1,h2,h3,h4,h5⟩:=h;refine⟨λr hr=>?_,λr hr=>zDr hr h4⟩;have hs:=zUn hr c s;have htake:((c::s)++r).take (c::s).length=c::s:=List.take_left;have h0: ¬(c::s).length=0:=by simp
  rw[yI]at hs htake⊢;unfold zgt;simp only[h1,h2,h3,hs,h5,htake,h0,qz2,yA]
theorem zEB: ∀w∈zgh,zMZ w=true\/zfD w=true:=by decide+kernel
def zl8(w:Str):Prop:=zgh.contains w=true\/zfD w=true\/(∃n,n<=9007199254740991/\w=Lib.decDigits n)\/∃u:Str,u.length%2=0/\w=34::(zaO (zaq u)++[34])
theorem zLj{w:Str}(h:zl8 w): ∃t,WR w t/\t.Fresh=false:=by
 rcases h with h|h| ⟨n,hn,rfl⟩| ⟨u,hu,rfl⟩
 ·rcases zEB w (by simpa using h)with h|h
  ·exact⟨_,zEJ h,rfl⟩
  ·exact⟨_,zrI h,rfl⟩
 ·exact⟨_,zrI h,rfl⟩
 ·exact⟨_,zIG hn,rfl⟩
 ·exact⟨_,zJE hu,rfl⟩
theorem WR.uniq{w:Str}{t t':Tok}(h:WR w t)(h':WR w t'):t=t':=by
 have h1:=h.one [] (.inl rfl);have h2:=h'.one [] (.inl rfl);rw[h1]at h2;simpa using h2
theorem zN5{w:Str}(h:zl8 w){t:Tok}(hw:WR w t):opK (tk t)=true->t.Text=w:=by
 rcases h with h|h| ⟨n,hn,rfl⟩| ⟨u,hu,rfl⟩
 ·rcases zEB w (by simpa using h)with h|h
  ·rw[hw.uniq (zEJ h)];exact λ_=>rfl
  ·rw[hw.uniq (zrI h)];exact λ_=>rfl
 ·rw[hw.uniq (zrI h)];exact λ_=>rfl
 ·rw[hw.uniq (zIG hn)];exact λe=>by cases e
 ·rw[hw.uniq (zJE hu)];exact λe=>by cases e
def cT(w:Str):Go.D08.Tok:=match zgt w with|some p=>if(!opK (tk p.1)||p.1.Text==w)=true then tk p.1 else⟨6,w,0,false⟩|none=>⟨6,w,0,false⟩
theorem WR.cT{w:Str}{t:Tok}(h:WR w t)(ho:opK (tk t)=true->t.Text=w):cT w=tk t:=by
 have:=h.one [] (.inl rfl);rw[List.append_nil]at this;unfold Go.D08.U.cT;rw[this];refine yL ?_;cases h:opK (tk t)with
 |false=>rfl
 |true=>simp[ho h]
theorem zQX(w:Str):(cT w).fresh=false:=by
 unfold cT;cases h:zgt w with
 |none=>rfl
 |some p=>
  simp only;split
  ·exact(zkC h).2.2.2.2.2
  ·rfl
theorem zB2{w:Str}(h:zfD w=true):cT w=⟨if zlo w=true then 2 else 1,w,0,false⟩:=by
 rw[(zrI h).cT λ_=>rfl];unfold tk;simp only;congr 1;split<;>rfl
theorem zDL:Cls cT where
 op:=λw hw=>by
  rcases zEB w hw with h|h
  ·rw[(zEJ h).cT λ_=>rfl];exact⟨rfl,rfl⟩
  ·have hword: ∀w∈zgh,zfD w=true->zlo w=true:=by decide+kernel
   rw[zB2 h,hword w hw h];exact⟨rfl,rfl⟩
 name:=λs h=>by
  unfold zbU at h;rw[qz4,zET]at h;rw[zB2 h.1,show zlo s=false by simpa using h.2];exact⟨rfl,rfl⟩
 ident:=λs h=>by
  rw[zB2 h];refine⟨?_,rfl⟩;cases zlo s
  ·exact .inl rfl
  ·exact .inr rfl
 num:=λn h1 h2=>by
  rw[zoS n h1,(zIG (n:=n.toNat) (by omega)).cT λe=>by cases e];exact⟨rfl,by show((n.toNat:Nat):Int)=n;omega⟩
 str:=λs he hs=>by
  rw[zzz he hs,<-zwE,<-zCS,(zJE (u:=s) (by unfold zhu at he;simpa using he)).cT λe=>by cases e]
  exact⟨rfl,rfl⟩
 fresh:=zQX
 opt:=λs h=>by
  unfold cT at h⊢;cases ho:zgt s with
  |none=>rw[ho]at h
  |some p=>
   rw[ho]at h;simp only at h⊢;split at h
   ·rename_i hc;rw[yL hc];rw[h]at hc;have:p.1.Text=s:=by simpa using hc
    exact this
   ·cases h
theorem zLF{s:Str}(h:zm5 s=true):zaW ((32::s).length+1) (32::s) false=zaW (s.length+1) s false:=by
 rw[zoT h];rw[qz3];conv=>lhs;unfold zaW
 rw[yK (by decide),yL (by decide)];exact zoT h _ _
theorem zWf(t:Tok)(f:Bool)(n:Int)(h:t.Fresh=f):tk ((t.fresh f).at_ n)=tk t:=by
 unfold tk Tok.fresh Tok.at_;rw[h]
theorem zER(len:Nat): ∀(ws:List Str) (m:Nat),(∀w∈ws,zl8 w)->(Lib.join ws [32]).length<m->∃l,zd9 m (Lib.join ws [32]) false= .inl l/\(zjC len l).map tk=ws.map cT++[zlJ]
 | [],0,_,h=>by omega
 | [],m+1,_,_=>⟨[(zHL false,0)],rfl,rfl⟩
 |w::ws,0,_,h=>by omega
 |w::ws,m+1,hw,hm=>by
  obtain⟨t,hwr,hf⟩:=zLj (hw w qz7);have hct:cT w=tk t:=hwr.cT (zN5 (hw w qz7) hwr);obtain⟨r,hj,hr⟩:=zDt w ws
  have hbeh:Behind r:=by
   rcases hr with⟨_,h⟩| ⟨_,h⟩
   ·exact .inl h
   ·exact .inr ⟨_,h⟩
  have hone:=hwr.one r hbeh;have hstop:=hwr.stop r hbeh;have hne: ¬w++r=[]:=by intro e;rw[e]at hstop;cases hstop
  have hlen:w.length≠0:=by have:=(zkC hone).1;omega
  rw[hj]at hm⊢;rw[qz5]at hm;have hdrop:(w++r).drop w.length=r:=List.drop_left
  have go: ∃l,zd9 m r false= .inl l/\(zjC len l).map tk=ws.map cT++[zlJ]:=by
   rcases hr with⟨rfl,rfl⟩| ⟨hn,rfl⟩
   ·obtain⟨k,rfl⟩: ∃k,m=k+1:=⟨m -1,by omega⟩
    exact⟨[(zHL false,0)],rfl,rfl⟩
   ·obtain⟨l,h1,h2⟩:=zER len ws m (λv hv=>hw v (qz8 _ hv)) (by simp only[qz3]at hm;omega)
    refine⟨l,?_,h2⟩;rw[<-h1];refine zFh (by omega) (by simp only[qz3]at hm;omega) (zLF ?_)
    rcases ws with _| ⟨v,vs⟩
    ·exact absurd rfl hn
    ·obtain⟨t2,hwr2,_⟩:=zLj (hw v (qz8 _ qz7));obtain⟨r2,hj2,hr2⟩:=zDt v vs;rw[hj2]
     exact hwr2.stop r2 (by
      rcases hr2 with⟨_,h⟩| ⟨_,h⟩
      ·exact .inl h
      ·exact .inr ⟨_,h⟩)
  obtain⟨l,h1,h2⟩:=go;refine⟨(t.fresh false,(w++r).length)::l,?_,?_⟩
  ·rw[zd9,zoT hstop];simp only[Bool.true_eq_false,yA,hne,hone,hdrop,h1]
  ·rw[zuq,List.map_cons,List.map_cons,h2,zWf t false _ hf,hct];rfl
end Go.D08.U
namespace Go.D08
open Go Go.Gw Go.Dn
set_option maxRecDepth 100000
def zdP(l:List Str):Prop:=∀w∈l,U.zl8 w
theorem all_nil:zdP []:=λ_ h=>by cases h
theorem all_cons{w:Str}{l:List Str}(h:U.zl8 w)(hl:zdP l):zdP (w::l):=λv hv=>by
 rcases yP.1 hv with rfl|hv
 ·exact h
 ·exact hl v hv
theorem zax{a b:List Str}(ha:zdP a)(hb:zdP b):zdP (a++b):=λv hv=>by
 rcases List.mem_append.1 hv with hv|hv
 ·exact ha v hv
 ·exact hb v hv
theorem zV{w:Str}{l:List Str}(h:zgh.contains w=true)(hl:zdP l):zdP (w::l):=all_cons (.inl h) hl
theorem zrf{w:Str}{l:List Str}(h:w∈l)(hl: ∀w∈l,zgh.contains w=true):U.zl8 w:= .inl (hl w h)
theorem zE3{w:Str}(h:zfD w=true):U.zl8 w:= .inr (.inl h)
theorem zmd{w:Str}(h:zbU w=true):U.zl8 w:=by
 unfold zbU at h;rw[qz4]at h;exact zE3 h.1
theorem zTe{n:Int}(h:0<=n/\n<=9007199254740991):U.zl8 (Lib.itoa n):=by
 rw[zoS n h.1];exact .inr (.inr (.inl ⟨_,by omega,rfl⟩))
theorem zE7{s:Str}(he:zhu s=true)(hs:s.length<=100000000):U.zl8 (zdm s):=by
 rw[zzz he hs,<-U.zwE,<-U.zCS];exact .inr (.inr (.inr ⟨s,by unfold zhu at he;simpa using he,rfl⟩))
theorem zgq{y:Node}(h: ∀no,zdP ((tkN y).ex no))(least:Int)(no:Bool):zdP (atT (tkN y) least no):=by
 unfold atT;split
 ·exact zV (by decide) (zax (h false) (zV (by decide) all_nil))
 ·exact h no
theorem znh{ls:List Node}{f:Tk->List Str}(h: ∀k∈ls,zdP (f (tkN k))):zdP (commas f (tkL ls)):=by
 rw[zzb];rcases ls with _| ⟨a,r⟩
 ·exact all_nil
 ·refine zax (h a qz7) λw hw=>?_
  obtain⟨q,hq,hw⟩:=List.mem_flatMap.1 hw;exact zV (by decide) (h q (qz8 _ hq)) w hw
theorem zpj{ls:List Node}(h: ∀k∈ls,zdP (tkN k).st):zdP (zY (tkL ls)):=λw hw=>by
 unfold zY at hw;rw[zAx]at hw;obtain⟨q,hq,hw⟩:=List.mem_flatMap.1 hw;obtain⟨k,hk,rfl⟩:=List.mem_map.1 hq;exact h k hk w hw
theorem zNh{ns:List Str}(h: ∀s∈ns,zbU s=true):zdP (namesT ns):=by
 rcases ns with _| ⟨s,r⟩
 ·exact all_nil
 ·refine all_cons (zmd (h s qz7)) λw hw=>?_
  obtain⟨q,hq,hw⟩:=List.mem_flatMap.1 hw;exact zV (by decide) (all_cons (zmd (h q (qz8 _ hq))) all_nil) w hw
theorem zKG{s:Str}(h:s=[]\/zbU s=true):zdP (if(s==([]:Str))=true then[]else[s]):=by
 rcases h with h|h
 ·rw[h];exact all_nil
 ·split
  ·exact all_nil
  ·exact all_cons (zmd h) all_nil
theorem zGR{x:Node}(ho:zao x=true)(hk:x.Kind=10\/x.Kind=39)(h: ∀k∈x.L,zdP (tkN k).st):zdP (zf7 x (tkL x.L)):=by
 have hns: ∀s∈x.Names,zbU s=true:=by
  simp only[zao,qz4]at ho;simpa using ho.2.2.2.2
 have hnm:x.Name=[]\/zbU x.Name=true:=by
  have:=(zaN ho).1;rcases hk with e|e
  ·simpa [zab,e]using this
  ·exact .inr (by simpa [zab,e]using this)
 unfold zf7;exact zV (by decide) (zax (zKG hnm) (zV (by decide) (zax (zNh hns) (zV (by decide) (zV (by decide) (zax (zpj h) (zV (by decide) all_nil)))))))
structure TA (x:Node):Prop where
 ex:zO x 101=true->∀no,zdP ((tkN x).ex no)
 st:zhH x=true->zdP (tkN x).st
 it:zdL x=true->zdP (zah false (tkN x))
 de:zO x 100=true->∀no,zdP (declT no (tkN x))
 bg:ziT x=true->∀least no,zdP (zaG (tkN x) least no)
theorem TA.at_{x:Node}(h:TA x)(ho:zO x 101=true)(least:Int)(no:Bool):zdP (atT (tkN x) least no):=zgq (h.ex ho) least no
theorem zMV(x:Node)(hb:zU x<=2097152)(h: ∀k∈x.L,TA k)(ho:zO x 101=true)(no:Bool):zdP ((tkN x).ex no):=by
 obtain⟨he,hm⟩:=zcN ho;have a2:=zaA x;rcases zgz he with e|e|e|e|e|e|e|e|e|e|e|e|e|e|e|e|e|e|e|e
 ·rw[zMa e,qz4]at hm;have hn:0<=x.Num/\x.Num<=9007199254740991:=by simpa [zbH,e]using(zaN hm.1).2
  rw[zMS e];exact all_cons (zTe hn) all_nil
 ·rw[zM4 e,qz4]at hm;rw[zMb e];exact all_cons (zE7 (zrO hm.1) (by omega)) all_nil
 ·rw[zRk e,qz4]at hm;rw[zL7 e];exact all_cons (zmd (by simpa [zab,e]using(zaN hm.1).1)) all_nil
 ·rw[zLr e];exact zV (by decide) all_nil
 ·rw[zMy e];exact zV (by decide) all_nil
 ·rw[zIA e];cases x.Num==1
  ·exact zV (by decide) all_nil
  ·exact zV (by decide) all_nil
 ·rw[zMR e,qz4]at hm;rw[zBP e];exact zV (by decide) (zax (znh λk hk=>(h k hk).it (zvL (zf2 hm.2 k hk))) (zV (by decide) all_nil))
 ·rw[zL8 e,qz4]at hm;rw[zB3 e];exact zV (by decide) (zax (znh λk hk=>(h k hk).it (zOx (zf2 hm.2 k hk))) (zV (by decide) all_nil))
 ·rw[zI3 e,qz4]at hm;rw[zv5 e];exact zGR hm.1 (.inl e) λk hk=>(h k hk).st (zBE (zf2 hm.2 k hk))
 ·rw[zCi e,qz4]at hm;obtain⟨a,hL,h1⟩:=zdq hm.2;rw[zGN e,hL,tk0];exact zax ((h a (by rw[hL];simp)).at_ h1 _ _) (zV (by decide) (all_cons (zE3 (by simpa [zab,e]using(zaN hm.1).1)) all_nil))
 ·rw[zDG e,qz4]at hm;obtain⟨a,b,hL,h1,h2⟩:=zdT hm.2;rw[zGk e,hL,tk0,tk1];exact zax ((h a (by rw[hL];simp)).at_ h1 _ _) (zV (by decide) (zax ((h b (by rw[hL];simp)).at_ h2 _ _) (zV (by decide) all_nil)))
 ·rw[zGY e,qz4]at hm;obtain⟨a,l,hL,h1,h2⟩:=zhS hm.2;rw[zGv e,hL,tk0,tkT];exact zax ((h a (by rw[hL];simp)).at_ h1 _ _) (zV (by decide) (zax (znh λk hk=>(h k (by rw[hL];exact qz8 _ hk)).it (zvL (h2 k hk))) (zV (by decide) all_nil)))
 ·rw[zJs e,qz4]at hm;obtain⟨a,l,hL,h1,h2⟩:=zhS hm.2;rw[zGK e,hL,tk0,tkT];exact zV (by decide) (zax ((h a (by rw[hL];simp)).at_ h1 _ _) (zV (by decide) (zax (znh λk hk=>(h k (by rw[hL];exact qz8 _ hk)).it (zvL (h2 k hk))) (zV (by decide) all_nil))))
 ·rw[zHy e,qz4]at hm;obtain⟨a,hL,h1⟩:=zdq hm.2;have hn:x.Name∈ztP:=by simpa [zab,e]using(zaN hm.1).1
  rw[zGQ e,hL,tk0];exact all_cons (zrf hn (by decide)) ((h a (by rw[hL];simp)).at_ h1 _ _)
 ·rw[zDf e,qz4]at hm;obtain⟨a,hL,h1⟩:=zdq hm.2;have hn:x.Name∈zir:=by simpa [zab,e]using(zaN hm.1).1
  have ha:=(h a (by rw[hL];simp)).at_ (zra h1) 11 no
  rw[zDy e,hL,tk0];split
  ·exact all_cons (zrf hn (by decide)) ha
  ·exact zax ha (all_cons (zrf hn (by decide)) all_nil)
 ·rw[zHv e,qz4]at hm;obtain⟨a,b,hL,h1,h2⟩:=zdT hm.2;have hn:x.Name∈zAP:=by simpa [zab,e]using(zaN hm.1).1
  rw[zGn e,hL,tk0,tk1];exact zax ((h a (by rw[hL];simp)).at_ h1 _ _) (all_cons (zrf hn (by decide)) ((h b (by rw[hL];simp)).at_ h2 _ _))
 ·rw[zDs e,qz4]at hm;obtain⟨a,b,hL,h1,h2⟩:=zdT hm.2;have hn:x.Name∈zAK:=by simpa [zab,e]using(zaN hm.1).1
  rw[zGl e,hL,tk0,tk1];exact zax ((h a (by rw[hL];simp)).at_ h1 _ _) (all_cons (zrf hn (by decide)) ((h b (by rw[hL];simp)).at_ h2 _ _))
 ·rw[zIy e,qz4]at hm;obtain⟨a,b,d,hL,h1,h2,h3⟩:=zr1 hm.2;rw[zGq e,hL,tk0,tk1,tk2];exact zax ((h a (by rw[hL];simp)).at_ h1 _ _) (zV (by decide) (zax ((h b (by rw[hL];simp)).at_ h2 _ _) (zV (by decide) ((h d (by rw[hL];simp)).at_ h3 _ _))))
 ·rw[zHD e,qz4]at hm;obtain⟨a,b,hL,h1,h2⟩:=zdT hm.2;have hn:x.Name∈zt6:=by simpa [zab,e]using(zaN hm.1).1
  rw[zGy e,hL,tk0,tk1];exact zax ((h a (by rw[hL];simp)).at_ (zra h1) _ _) (all_cons (zrf hn (by decide)) ((h b (by rw[hL];simp)).at_ h2 _ _))
 ·rw[zIx e,qz4]at hm;obtain⟨a,b,hL,h1,h2⟩:=zdT hm.2;rw[zGu e,hL,tk0,tk1];exact zax ((h a (by rw[hL];simp)).at_ h1 _ _) (zV (by decide) ((h b (by rw[hL];simp)).at_ h2 _ _))
theorem zRt(x:Node)(h: ∀k∈x.L,TA k)(hx: ∀no,zO x 101=true->zdP ((tkN x).ex no))(ho:ziT x=true)(least:Int)(no:Bool):zdP (zaG (tkN x) least no):=by
 rcases zBK ho with e|e|e
 ·rw[zwA e];exact all_nil
 ·rw[zzL e];have hm:=zbY (c:=118) ho;rw[zIY e,qz4]at hm;obtain⟨d,l,hL,h1,h2⟩:=zhS hm.2
  have hk: ∀k∈x.L,zO k 100=true:=by
   rw[hL];intro k hk;rcases yP.1 hk with rfl|hk
   ·exact h1
   ·exact h2 k hk
  exact zV (by decide) (znh λk hk1=>(h k hk1).de (hk k hk1) no)
 ·rw[zqm (zcN e).1];exact zgq (λno=>hx no e) least no
theorem zrj{w:Str}{k:Node}(hw:zgh.contains w=true)(h:TA k)(ho:zO k 101=true):zdP (zc6 w (tkN k)):=by
 unfold zc6;exact zV hw (zV (by decide) (zax (h.at_ ho _ _) (zV (by decide) all_nil)))
theorem zQT{l:List Str}(h:zdP l):zdP (zb1 l):=by
 unfold zb1;split
 ·exact all_nil
 ·split
  ·exact zV (by decide) (zax h (zV (by decide) all_nil))
  ·exact h
theorem zvX(x:Node)(hk:x.Kind=31\/x.Kind=32\/x.Kind=33\/x.Kind=34\/x.Kind=40)(ho:zao x=true):zdP (zhx x):=by
 have hnm:x.Name=[]\/zbU x.Name=true:=by
  have:=(zaN ho).1;rcases hk with e|e|e|e|e
  ·simpa [zab,e]using this
  ·simpa [zab,e]using this
  ·exact .inl (ze4 ho (by rw[e];decide))
  ·exact .inl (ze4 ho (by rw[e];decide))
  ·exact .inl (ze4 ho (by rw[e];decide))
 unfold zhx;refine zax ?_ (zKG hnm);rcases hk with e|e|e|e|e<;>rw[e]
 ·exact zV (by decide) all_nil
 ·exact zV (by decide) all_nil
 ·exact zV (by decide) all_nil
 ·exact zV (by decide) all_nil
 ·exact all_nil
theorem zHp{ls:List Node}(h: ∀k∈ls,TA k)(ho: ∀k∈ls,zO k 101=true):zdP ((tkL ls).flatMap λk=>atT k 0 false):=λw hw=>by
 rw[zAx]at hw;obtain⟨q,hq,hw⟩:=List.mem_flatMap.1 hw;obtain⟨k,hk,rfl⟩:=List.mem_map.1 hq;exact(h k hk).at_ (ho k hk) 0 false w hw
theorem zVK(x:Node)(h: ∀k∈x.L,TA k)(ho:zhH x=true):zdP (tkN x).st:=by
 obtain⟨hm,hK⟩:=zGz ho;have hend:zdP [[59]]:=zV (by decide) all_nil;rcases hK with e|e|e|e|e|e|e|e|e|e|e|e|e|e|e|e|e|e
 ·have hbg:=zRt x h (λno h101=>by
   have:=(zcN h101).1;rw[e]at this;exact absurd this (by decide)) (zHC e hm) 0 false
  rw[zzL e]at hbg;rw[zGH e];exact zax hbg hend
 ·rw[zCK e,qz4]at hm;obtain⟨a,hL,h1⟩:=zdq hm.2;rw[zGD e,hL,tk0];exact zax (zQT ((h a (by rw[hL];simp)).at_ h1 _ _)) hend
 ·rw[zIv e,qz4]at hm;rw[zC0 e];exact zV (by decide) (zax (zpj λk hk=>(h k hk).st (zBC (zf2 hm.2 k hk))) (zV (by decide) all_nil))
 ·rw[zHU e,qz4]at hm;rcases zLv hm.2 with⟨a,b,hL,h1,h2⟩| ⟨a,b,d,hL,h1,h2,h3⟩
  ·rw[zAW e,hL,tk0,tk1,zPW];exact zax (zrj (by decide) (h a (by rw[hL];simp)) h1) (zax ((h b (by rw[hL];simp)).st (ziE h2)) all_nil)
  ·rw[zAW e,hL,tk0,tk1,tk2];exact zax (zrj (by decide) (h a (by rw[hL];simp)) h1) (zax ((h b (by rw[hL];simp)).st (ziE h2)) (zV (by decide) ((h d (by rw[hL];simp)).st (ziE h3))))
 ·rw[zH8 e,qz4]at hm;obtain⟨a,b,hL,h1,h2⟩:=zdT hm.2;rw[zL6 e,hL,tk0,tk1];exact zax (zrj (by decide) (h a (by rw[hL];simp)) h1) ((h b (by rw[hL];simp)).st (ziE h2))
 ·rw[zH9 e,qz4]at hm;obtain⟨a,b,hL,h1,h2⟩:=zdT hm.2;rw[zMG e,hL,tk0,tk1];exact zV (by decide) (zax ((h a (by rw[hL];simp)).st (ziE h1)) (zax (zrj (by decide) (h b (by rw[hL];simp)) h2) hend))
 ·rw[zGV e,qz4]at hm;obtain⟨a,b,d,q,hL,h1,h2,h3,h4⟩:=zHP hm.2;rw[zLU e,hL,tk0,tk1,tk2,tk3];exact zV (by decide) (zV (by decide) (zax ((h a (by rw[hL];simp)).bg (zEo h1) _ _) (zV (by decide) (zax ((h b (by rw[hL];simp)).bg (zq4 h2) _ _) (zV (by decide) (zax ((h d (by rw[hL];simp)).bg (zq4 h3) _ _) (zV (by decide) ((h q (by rw[hL];simp)).st (ziE h4)))))))))
 ·rw[zGT e,qz4]at hm;obtain⟨a,b,q,hL,h1,h2,h3⟩:=zr1 hm.2;rw[zMk e,hL,tk0,tk1,tk2];exact zV (by decide) (zV (by decide) (zax ((h a (by rw[hL];simp)).bg (zKA h1) _ _) (zV (by decide) (zax ((h b (by rw[hL];simp)).at_ h2 _ _) (zV (by decide) ((h q (by rw[hL];simp)).st (ziE h3)))))))
 ·rw[zG8 e,qz4]at hm;rw[zMI e,zgr hm.2];exact zax (zvX x (by omega) hm.1) (zax (by simp[tkL];exact all_nil) hend)
 ·rw[zIm e,qz4]at hm;rw[zMc e,zgr hm.2];exact zax (zvX x (by omega) hm.1) (zax (by simp[tkL];exact all_nil) hend)
 ·rw[zIk e,qz4]at hm;rw[zGE e];refine zax (zvX x (by omega) hm.1) (zax (zHp h ?_) hend);rcases zIn hm.2 with hL| ⟨a,hL,h1⟩
  ·rw[hL];simp
  ·rw[hL];simpa using h1
 ·rw[zHf e,qz4]at hm;obtain⟨a,hL,h1⟩:=zdq hm.2;rw[zLQ e];exact zax (zvX x (by omega) hm.1) (zax (zHp h (by rw[hL];simpa using h1)) hend)
 ·rw[zH5 e,qz4]at hm;obtain⟨a,b,d,hL,h1,h2,h3,h4⟩:=zJz hm.2;have hnm:=(zaN hm.1).1;unfold zab at hnm;rw[e,hL]at hnm;have hnm:(if(b.Kind==25)=true then zbU x.Name else x.Name==([]:Str))=true:=hnm;rw[zMn e,hL,tk0,tk1,tk2,zdC,zdC];refine zV (by decide) (zax ((h a (by rw[hL];simp)).st (ziE h1)) (zax ?_ ?_))
  ·rcases zzK h2 with⟨k,h5⟩|k
   ·rw[k]at hnm⊢;exact zV (by decide) (zV (by decide) (all_cons (zmd hnm) (zV (by decide) ((h b (by rw[hL];simp)).st (ziE h5)))))
   ·rw[k];exact all_nil
  ·rcases zzK h3 with⟨k,h5⟩|k
   ·rw[k];exact zV (by decide) ((h d (by rw[hL];simp)).st (ziE h5))
   ·rw[k];exact all_nil
 ·rw[zHm e,qz4]at hm;obtain⟨a,l,hL,h1,h2⟩:=zyX hm.2;rw[zMe e,hL,tk0,tkT];exact zax (zrj (by decide) (h a (by rw[hL];simp)) h1) (zV (by decide) (zax (zpj λk hk=>(h k (by rw[hL];exact qz8 _ hk)).st (zUE (zrJ h2 k hk))) (zV (by decide) all_nil)))
 ·rw[zIw e,qz4]at hm;obtain⟨a,l,hL,h1,h2⟩:=zhS hm.2;rw[zMq e,hL,tk0,tkT];refine zax (all_cons ?_ ((h a (by rw[hL];simp)).bg (zq4 h1) _ _)) (zV (by decide) (zpj λk hk=>(h k (by rw[hL];exact qz8 _ hk)).st (zBC (h2 k hk))))
  split
  ·exact .inl (by decide)
  ·exact .inl (by decide)
 ·rw[zGW e,qz4]at hm;obtain⟨a,hL,h1⟩:=zdq hm.2;rw[zMr e,hL,tk0];exact all_cons (zmd (by simpa [zab,e]using(zaN hm.1).1)) (zV (by decide) ((h a (by rw[hL];simp)).st (zBC h1)))
 ·rw[zIz e,qz4]at hm;rw[zMB e];exact zGR hm.1 (.inr e) λk hk=>(h k hk).st (zBE (zf2 hm.2 k hk))
 ·rw[zHR e,qz4]at hm;rw[zMl e,zgr hm.2];exact zax (zvX x (by omega) hm.1) (zax (by simp[tkL];exact all_nil) hend)
theorem zST(x:Node)(hb:zU x<=2097152)(h: ∀k∈x.L,TA k):TA x:=by
 have a2:=zaA x;refine⟨λho no=>zMV x hb h ho no,zVK x h,λho=>?_,λho no=>?_,λho least no=>zRt x h (λno h1=>zMV x hb h h1 no) ho least no⟩
 ·unfold zah;rw[zdC,zjH];split
  ·rename_i e;have e:=eq_of_beq e
   have hm:zat x=true:=by
    unfold zdL at ho;rw[yQ]at ho;rcases ho with h|h<;>exact zbY h
   rw[zMj e,qz4]at hm;obtain⟨a,hL,h1⟩:=zdq hm.2;rw[hL,tk0];exact all_cons (zE7 (zrO hm.1) (by omega)) (zV (by decide) ((h a (by rw[hL];simp)).at_ h1 _ _))
  ·rename_i e;refine zgq (λno=>zMV x hb h ?_ no) _ _;unfold zdL at ho;rw[yQ]at ho;rcases ho with h1|h1
   ·exact h1
   ·exact absurd (show(x.Kind==9)=true from zfX h1) e
 ·obtain⟨e,hL⟩:=zAZ ho;have hm:=zbY ho;rw[zH3 e,qz4]at hm;unfold declT;rw[zdC,zjH];refine all_cons (zmd (by simpa [zab,e]using(zaN hm.1).1)) ?_;rcases hL with hL| ⟨a,hL,h1⟩
  ·rw[hL];simp[tkL,k0];exact all_nil
  ·rw[hL,tk0];exact zV (by decide) ((h a (by rw[hL];simp)).at_ h1 _ _)
mutual
theorem zWS: ∀x:Node,zU x<=2097152->TA x
 | ⟨k,n,m,t,ns,l⟩,hb=>
  have hb2:=zaA ⟨k,n,m,t,ns,l⟩
  zST _ hb (zQe l (by simp only at hb2;omega))
theorem zQe: ∀(l:List Node),zaJ l<=2097152->∀q∈l,TA q
 | [],_,q,hq=>by cases hq
 |x::r,hb,q,hq=>by
  simp only[zaJ]at hb;have hx:=zWS x (by omega);rcases yP.1 hq with h|hq
  ·exact h▸hx
  ·exact zQe r (by omega) q hq
end
mutual
theorem zES: ∀a b:Node,zqH a b=true↔a=b
 | ⟨k,n,m,t,ns,l⟩,⟨k',n',m',t',ns',l'⟩=>by
  have:=zFw l l';simp only[zqH,qz4,beq_iff_eq,this];constructor
  ·rintro⟨⟨⟨⟨⟨rfl,rfl⟩,rfl⟩,rfl⟩,rfl⟩,rfl⟩;rfl
  ·intro e;injection e with e1 e2 e3 e4 e5 e6
   exact⟨⟨⟨⟨⟨e1,e2⟩,e3⟩,e4⟩,e5⟩,e6⟩
theorem zFw: ∀a b:List Node,zd2 a b=true↔a=b
 | [],[]=>by simp[zd2]
 | [],y::r=>by simp[zd2]
 |x::r,[]=>by simp[zd2]
 |x::r,y::q=>by
  have h1:=zES x y;have h2:=zFw r q;simp only[zd2,qz4,h1,h2,List.cons.injEq]
end
theorem zOg{x:Node}(hb:zU x<=2097152)(e:x.Kind=41)(hm:zat x=true): ∀w∈zY (tkL x.L),U.zl8 w:=by
 have a2:=zaA x;exact zpj λk hk=>(zQe x.L (by omega) k hk).st (zyY e hm k hk)
end Go.D08
namespace Go.D08
open Go Go.Gw Go.Dn Go.Proofs
set_option maxRecDepth 100000
theorem zSY(x y:Node)(hx:zU x<=2097152)(hy:zU y<=2097152):zbJ x y=some (zqH x y,()):=by
 have h1:=zkL x;have h2:=zkL y;have h3:=zxr x;have h4:=zxr y;exact zLg 1000000000000 x y (by have:=zpd x;omega) (by omega) (by omega) (by omega) (by omega)
theorem zBI{src:Str}{L:List zu}{ns:List Node}{e:Tok}(hs:src.length<=100000000)(hc:U.zj9 src=(L,0,0))(ok:TOk L)(hl:L.length<=100000000)(h:(pG (10*L.length+20)).stmts true (L.map tk)=gt (ns,[e]))(he:e.kind=0)
  (hz:zkk (nd 41 ns)<=2097152) (hd:zW (nd 41 ns)<=64):zcJ src=some (nd 41 ns,0,0,()):=by
 rw[zwX hs hc ok hl (λq hq=>by rw[h]at hq;cases hq;exact hz)]
 unfold zAR;rw[h];simp only;rw[yL (show zX [e]=0 from he),yK (by omega)]
theorem zOD{src:Str}{L:List zu}{k:Nat}(hs:src.length<=100000000)(hc:U.zj9 src=(L,0,0))(ok:TOk L)(hl:L.length<=100000000)(h:(pG (10*L.length+20)).stmts true (L.map tk)=some (.inl k)):zcJ src=some (nd 0 [],atK L k,80,()):=by
 rw[zwX hs hc ok hl (λq hq=>by rw[h]at hq;cases hq)]
 unfold zAR;rw[h]
def nm1(c:UInt8):Node:=ndN 3 [c] []
theorem zWQ:zcJ [97,32,61,32,98,10,43,43,99]=some (nd 41 [nd 24 [ndN 20 [61] [nm1 97,nm1 98]],nd 24 [⟨16,[43,43],1,[],[],[nm1 99]⟩]],0,0,()):=by
 have hc:U.zj9 [97,32,61,32,98,10,43,43,99]=((U.zj9 [97,32,61,32,98,10,43,43,99]).1,0,0):=by kernel_rfl
 obtain⟨h1,h2,_⟩:=U.ztx hc;exact zBI (e:=zlJ) (by decide) hc h1.ok (by omega) (by kernel_rfl) rfl (by decide+kernel) (by decide+kernel)
theorem zWB:zcJ [114,101,116,117,114,110,10,97]=some (nd 41 [nd 33 [],nd 24 [nm1 97]],0,0,()):=by
 have hc:U.zj9 [114,101,116,117,114,110,10,97]=((U.zj9 [114,101,116,117,114,110,10,97]).1,0,0):=by kernel_rfl
 obtain⟨h1,h2,_⟩:=U.ztx hc;exact zBI (e:=zlJ) (by decide) hc h1.ok (by omega) (by kernel_rfl) rfl (by decide+kernel) (by decide+kernel)
theorem zWT:zcJ [49,32,61,32,50]=some (nd 0 [],2,80,()):=by
 have hc:U.zj9 [49,32,61,32,50]=((U.zj9 [49,32,61,32,50]).1,0,0):=by kernel_rfl
 obtain⟨h1,h2,_⟩:=U.ztx hc;have:=zOD (k:=3) (by decide) hc h1.ok (by omega) (by kernel_rfl);have e:atK (U.zj9 [49,32,61,32,50]).1 3=2:=by kernel_rfl
 rw[this,e]
theorem zOh:zh3=some (true,()):=by
 unfold zh3;rw[zWQ,zWB,zWT];rfl
end Go.D08
namespace Go.Dn
open Go.Gw Go.RowKit Go.Deep
open Go.ChangeShapes Go.WideShapes Go.ChangeAt
set_option maxRecDepth 100000
def ziD(w:World):Heap:=λb=>w.heap[b]?
theorem zMu(w:World):(ziD w).Sub w:=⟨λ_ _ e=>e⟩
theorem zw8{w:World}{b off:Nat}{v:Value}(h:w.cell? ⟨b,off,none⟩=some v):zhX (ziD w) b off v:=by
 unfold World.cell? at h;cases hb:w.heap[b]? with
 |none=>rw[hb]at h;cases h
 |some o=>
  rw[hb]at h;cases o<;>simp only[Option.isSome_none,qz2,yA]at h<;>try cases h
  exact⟨_,_,_,hb,h⟩
theorem zFc{w:World}{base b off n:Nat}{cs:List Value}(h:w.cells? base ⟨b,off,none⟩ n=some cs):zkP (ziD w) b off cs/\cs.length=n:=by
 obtain⟨_,h2,h3⟩:=World.cells?_some h;refine⟨λj v e=>?_,h2⟩;have hj:j<n:=by rw[<-h2];exact(qz0 e).1
 have:=h3 j hj;rw[e,zef]at this;exact zw8 this
structure zCw (bulk:{H:Type}->DataW H->Nat):Prop where
 agg: ∀{H:Type} (ds:List (DataW H)),(ds.map bulk).sum+1<=bulk (.agg ds)
 sl: ∀{H:Type} (es sp:List (DataW H)),(es.map bulk).sum+1<=bulk (.slice es sp)
 str: ∀{H:Type} (s:List UInt8),s.length+1<=bulk (.lit (.string s):DataW H)
 pos: ∀{H:Type} (d:DataW H),0<bulk d
section
variable {bulk:{H:Type}->DataW H->Nat}
structure OpF (bulk:{H:Type}->DataW H->Nat) (Y:Tys) (P:Program) (w:World) {α:Type} (mk:α->List (AV Y.T)) (t:TypeId) (ok:α->Prop) (ms:α->Nat) (N:Nat):Prop where
 opn: ∀{H:Type} {enc:TypeId×Value->H} {base:Nat} {spare:Nat->Bool} {held:Bool} {fuel:Nat} {cs:List Value} {x:DataW H×List MemPlace},
  fuel<=N->DataW.trod enc P w base spare held fuel t cs=some x->∃a,zH Y (ziD w) [] (mk a) cs/\ok a/\ms a<=bulk x.1
variable {Y:Tys} {P:Program} {w:World} {t e:TypeId} {N:Nat}
theorem OpF.zero{α:Type}{mk:α->List (AV Y.T)}{ok:α->Prop}{ms:α->Nat}:OpF bulk Y P w mk t ok ms 0:=⟨λ{H enc base spare held fuel cs x} hf h=>by
 obtain rfl:fuel=0:=by omega
 simp[DataW.trod]at h⟩
theorem zLi{k:IntKind}(hB:zCw bulk)(ht:P.underlying t=some (.int k)):OpF bulk Y P w (λn=>[.v (.int k n)]) t (λn=>(Lit.int k n).wf=true) (λ_=>1) N:=
 ⟨λ_ h=>by
  obtain⟨b,rfl,rfl,hw⟩:=DataW.trod_int ht h;exact⟨b,zH.cons .v zH.nil,hw,hB.pos _⟩⟩
theorem zEs(hB:zCw bulk)(ht:P.underlying t=some .string):OpF bulk Y P w (λs:Str=>[.v (.string ⟨⟨s⟩⟩)]) t (λs=>s.length<=maxLen) (λs=>s.length+1) N:=
 ⟨λ_ h=>by
  obtain⟨b,rfl,rfl,hw⟩:=DataW.trod_string ht h;exact⟨b.data.toList,zH.cons .v zH.nil,hw,hB.str _⟩⟩
theorem zK8: ∀{α:Type} (xs:List α) (f:α->Nat) (ds:List Nat),xs.length=ds.length->(∀(i:Nat) x d,xs[i]? =some x->ds[i]? =some d->f x<=d)->(xs.map f).sum<=ds.sum
 |_,[],_,[],_,_=>by simp
 |_,x::xs,f,d::ds,hn,h=>by
  have ih:=zK8 xs f ds (by simpa using hn) (λi y d' hy hd=>h (i+1) y d' (by simpa using hy) (by simpa using hd));have h0:=h 0 x d rfl rfl;simp only[List.map_cons,List.sum_cons];omega
theorem zNL{e':Nat}{ok:Y.T e'->Prop}{ms:Y.T e'->Nat}(hB:zCw bulk)(ht:P.underlying t=some (.slice e))(hsz:P.cellsOf e=Y.sz e')(hpos:0<Y.sz e')(he:OpF bulk Y P w (Y.cells e') e ok ms N):
  OpF bulk Y P w (λxs=>[.sl e' xs]) t (λxs=>∀x∈xs,ok x) (λxs=>(xs.map ms).sum+1) (N+1):=
 ⟨λ{H enc base spare held fuel cs x} hf h=>by
  rcases DataW.trod_slice ht h with⟨rfl,rfl⟩| ⟨a,len,cap,elems,rest,n,rfl,rfl,rfl,hb,hl,hm,hel,hx,_,_⟩
  ·exact⟨[],zH.cons (.sl 0 0 (λ_=>[]) (Nat.zero_le _) (λi x hx=>by simp at hx) (λi x hx=>by simp at hx) (λi x j a u hx=>by simp at hx)) zH.nil,by simp,by have h1:=hB.pos (DataW.nil (H:=H));simp only[List.map_nil,List.sum_nil];omega⟩
  ·have key: ∀i:Fin len,∃(y:Y.T e') (cs':List Value),w.cells? base (a.add (i.val*P.cellsOf e)) (P.cellsOf e)=some cs'/\zH Y (ziD w) [] (Y.cells e' y) cs'/\ok y/\∀d,elems[i.val]? =some d->ms y<=bulk d.1:=λi=>by
    have h1:=hx i.val i.isLt;have h2:elems[i.val]? =some elems[i.val]:=qz9 (by rw[hel];exact i.isLt)
    rw[h2]at h1;obtain⟨cs',h3,h4⟩:=Option.bind_eq_some_iff.1 h1;obtain⟨y,h5,h6,h7⟩:=he.opn (by omega) h4;refine⟨y,cs',h3,h5,h6,λd hd=>?_⟩;rw[h2]at hd;cases hd;exact h7
   let f:Fin len->Y.T e':=λi=>Classical.choose (key i)
   have hf':=λi=>Classical.choose_spec (key i)
   let g:Nat->List Value:=λi=>if hi:i<len then Classical.choose (hf' ⟨i,hi⟩)else[]
   have hg: ∀(i:Nat) (hi:i<len),w.cells? base (a.add (i*P.cellsOf e)) (P.cellsOf e)=some (g i)/\zH Y (ziD w) [] (Y.cells e' (f ⟨i,hi⟩)) (g i)/\ok (f ⟨i,hi⟩)/\∀d,elems[i]? =some d->ms (f ⟨i,hi⟩)<=bulk d.1:=λi hi=>by
    have:=Classical.choose_spec (hf' ⟨i,hi⟩);simp only[g,dif_pos hi];exact this
   have at_: ∀(i:Nat) (x:Y.T e'),(List.ofFn f)[i]? =some x->∃hi:i<len,x=f ⟨i,hi⟩:=λi x hx=>by
    obtain⟨hi,rfl⟩:=qz0 hx;exact⟨by simpa using hi,by rw[List.getElem_ofFn]⟩
   obtain⟨b,off,spot⟩:=a
   have hs:0<len->spot=none:=λh0=>by
    obtain⟨h1,_⟩:=hg 0 h0;obtain⟨_,h3,h4⟩:=World.cells?_some h1;rw[hsz]at h4 h3;have:=h4 0 hpos;simp only[Nat.zero_mul]at this;have e1:((⟨b,off,spot⟩:Addr).add 0).add 0=⟨b,off,spot⟩:=by simp[Addr.add]
    rw[e1]at this;have h5:(g 0)[0]? =some ((g 0)[0]'(by rw[h3];exact hpos)):=qz9 _
    rw[h5]at this;unfold World.cell? at this;cases hb:w.heap[b]? with
    |none=>simp only[hb]at this;cases this
    |some o=>
     cases o<;>simp only[hb]at this<;>try cases this
     cases spot with
     |none=>rfl
     |some q=>simp at this
   refine⟨List.ofFn f,zH.cons ?_ zH.nil,?_,?_⟩
   ·have hlen:(List.ofFn f).length=len:=by simp
    rw[show(Value.slice (some ⟨b,off,spot⟩) len cap)=Value.slice (some ⟨b,off,spot⟩) (List.ofFn f).length cap by rw[hlen]];refine .sl b off g (by omega) (λi x hx=>?_) (λi x hx=>?_) (λi x j a u hx ha hu=>?_)
    ·obtain⟨hi,rfl⟩:=at_ i x hx;rw[hs (by omega)]
    ·obtain⟨hi,rfl⟩:=at_ i x hx;obtain⟨h1,_⟩:=hg i hi;rw[hs (by omega),hsz,zef]at h1;exact⟨(zFc h1).2,(zFc h1).1⟩
    ·obtain⟨hi,rfl⟩:=at_ i x hx;exact(hg i hi).2.1.2 j a u ha hu
   ·intro y hy;obtain⟨i,rfl⟩:=List.mem_ofFn.1 hy;exact(hg i.val i.isLt).2.2.1
   ·have:=zK8 (List.ofFn f) ms ((elems.map (·.1)).map bulk) (by simp[hel]) (λi y d hy hd=>by
     obtain⟨hi,rfl⟩:=at_ i y hy;rw[List.getElem?_map,List.getElem?_map]at hd;cases he2:elems[i]? with
     |none=>rw[he2]at hd;cases hd
     |some q=>
      rw[he2]at hd;cases hd;exact(hg i hi).2.2.2 q he2)
    have h2:=hB.sl (elems.map (·.1)) (rest.map (·.1));show _<=bulk (DataW.slice (elems.map (·.1)) (rest.map (·.1)));omega⟩
end
theorem zxI{H:Type}{enc:TypeId×Value->H}{P:Program}{W W':World}{base:Nat}{spare:Nat->Bool}{held:Bool}(hb:Below W.heap.size W W'): ∀{ts:List TypeId} {vs:List Value} {ds:List (DataW H)} {ps:List MemPlace},
  DataW.TrodAll enc P W base spare held ts vs ds ps->DataW.TrodAll enc P W' base spare held ts vs ds ps
 | [],[],[],_,h=>h
 |_::_,_::_,_::_,_,⟨p,q,⟨n,h1⟩,h2,e⟩=>⟨p,q,⟨n,DataW.trod_carry n _ _ _ h1 λx hx=>hb.same (DataW.trod_lt n _ _ _ h1 x hx)⟩,zxI hb h2,e⟩
theorem zFN{H:Type}{enc:TypeId×Value->H}{P:Program}{f:Func}{s:ChangeSpec}{apart fresh handsOn again:Bool}{W W':World}{args:Array Value}{v:Value}{ds gs:List (DataW H)}{before pa pv:List MemPlace}
  (hW:DataW.Whole enc P f.params.toList s.vars apart W args.toList ds gs before)
  (hres: ∀(b:Nat) (sp:Nat->Bool) (hd:Bool),DataW.TrodAll enc P W' b sp hd f.resultTypes.toList (v.resultList f.resultTypes.size) (s.fn H (ds++gs)).results [])
  (hargs: ∀sp:Nat->Bool,(∀p∈before,sp p.block=true)->DataW.TrodAll enc P W' 0 sp true f.params.toList args.toList (s.fn H (ds++gs)).args pa)
  (hvars: ∀sp:Nat->Bool,(∀p∈before,sp p.block=true)->DataW.TrodVars enc P W' sp s.vars (s.fn H (ds++gs)).vars pv)
  (hps:before=pa++pv) (hb:Below W.heap.size W W')
  (hok: ∀(j:Nat) (t:TypeId) (r:Value),f.resultTypes[j]? =some t->(v.resultList f.resultTypes.size)[j]? =some r->Value.okWide P W' .any 0 t r):
  s.post enc P f apart fresh handsOn again W args v W':=by
 have hlt:=hW.lt;have hold: ∀p∈before,(λb=>decide (b<W.heap.size)) p.block=true:=λp hp=>by simpa using hlt p hp
 refine⟨ds,gs,before,[],pa,pv,hW,hres _ _ _,hargs _ hold,hvars _ hold,World.keptBut_mono (λp hp=>⟨hp,?_⟩) (hb.frame (· ∈before)),λ_=>?_⟩
 ·rw[hps,List.mem_append]at hp;exact Or.inr hp
 ·obtain⟨_,_,_,_,_,hz,hn⟩:=hW;refine⟨hok,_,_,([]++pa)++pv,⟨[]++pa,pv,trodAll_append (hargs _ (λ_ _=>rfl)) (hres _ _ _),hvars _ (λ_ _=>rfl),rfl,?_,?_⟩,?_⟩
  ·intro b off hp;have hp':MemPlace.cell b off∈before:=by rw[hps];simpa using hp
   rw[hb.frozen (p:=⟨b,off,none⟩) (hlt _ hp')];exact hz b off hp'
  ·intro ha;have:=hn ha;rw[hps]at this;simpa using this
  ·intro p hp _;rw[hps];simpa using hp
def zr3{T:Nat->Type}:Out T->List (Mem T)->Option Unit
 | .ret (.v (.bool true)),_=>some ()
 |_,_=>Option.none
theorem COk.holds{Y:Tys}{hY:zbe Y}{P:Program}{G:Heap->Prop}{f:FuncId}{C:Callee Y}(h:COk hY P G f C){args:List (AV Y.T)}
  (hr:C.run args [] zr3=some ()) {W:World} (hG:G (ziD W)) {vals:List Value} (hv:zH Y (ziD W) [] args vals):
  Calls P f vals.toArray W λe W'=>e= .returned (.bool true)/\Below W.heap.size W W':=by
 have h1:=h.2 args [] () _ hr W (ziD W) [] [] vals No hG hv rfl rfl (λk x p o hx=>by simp at hx) (St.start (zMu W));refine h1.mono λe W' h2=>?_
 obtain⟨res,F',ρ',os',ms',hp,hrel,_,_,_,hst,_⟩:=h2;refine⟨?_,hst.below⟩;cases hrel with
 |pan _=>cases hp
 |ret hx=>
  rename_i x u
  have key: ∀(o:Out Y.T) (m:List (Mem Y.T)),zr3 o m=some ()->o= .ret (.v (.bool Bool.true)):=by
   intro o m;unfold zr3;split
   ·intro _;rfl
   ·intro e;cases e
  cases key _ _ hp;rw[hx.zbj]
theorem zNv{P:Program}{W:World}{l:List (String×DataW Unit)}{name:String}{k:IntKind}{zs:List Int}{g:Nat}{t e:TypeId}{n:Nat}(hL:laidMetH P l W)(hall:(l.all λx=>x.2.handleName?.isNone)=true)
  (hf:(l.filter λx=>x.1==name)=[(name,Lib.tabData k zs)]) (hg:P.globalNamed name=some g) (hty:(P.globals[g]?).map (·.type)=some t) (ht:P.underlying t=some (.array n e)) (he:P.underlying e=some (.int k)) (hce:P.cellsOf e=1) (hct:P.cellsOf t=n) (w:World) (hs:(ziD W).Sub w):
  Lib.TabIs P w name k zs:=by
 rw[Go.MakeChecks.laidMetH_plain P l W hall]at hL;have h:=hL.filter (λx=>x.1==name);rw[hf]at h;have h2:=Lib.tabIs_of_head hg hty ht he hce hct h;unfold Lib.TabIs World.var? at h2⊢;rw[hg]at h2⊢;simp only[qz1]at h2⊢;cases hb:W.heap[g]? with
 |none=>rw[hb]at h2;cases h2
 |some o=>
  rw[hb]at h2;rw[show w.heap[g]? =some o from hs.out g o hb];exact h2
end Go.Dn
namespace Go.D08
open Go Go.Gw Go.Dn Go.RowKit Go.Proofs Go.Deep
open Go.Proofs.YtdapbipagjmolaaGreatDoor.Rows (uptoBulk uptoBulkAll)
open Go.Proofs.YtdapbipagjmolaaGreatDoor
open Go.ChangeShapes Go.WideShapes Go.ChangeAt
set_option maxRecDepth 100000
theorem zui{H:Type}: ∀l:List (DataW H),uptoBulkAll l=(l.map uptoBulk).sum
 | []=>by simp[uptoBulkAll]
 |d::l=>by simp[uptoBulkAll,zui l]
theorem zP7{H:Type}(d:DataW H):0<uptoBulk d:=by
 match d with
 | .lit l=>cases l<;>simp only[uptoBulk]<;>omega
 | .nil| .ptr _| .slice _ _| .agg _| .iface _ _| .map _| .held _=>simp only[uptoBulk];omega
theorem bulk:zCw (λ{H}=> @uptoBulk H):=⟨λds=>by simp only[uptoBulk,zui];omega,λes sp=>by simp only[uptoBulk,zui];omega,λs=>by simp only[uptoBulk];omega,zP7⟩
theorem kids:Kids Tryz.prog (· <Tryz.prog.types.size):=kids_rows (by kernel_rfl) (by kernel_rfl)
theorem full: ∀t e,t<Tryz.prog.types.size->Tryz.prog.underlying t=some (.slice e)->0<Tryz.prog.cellsOf e:=slices_full_of Tryz.prog (by kernel_rfl)
abbrev OpD(w:World){α:Type}(mk:α->List (AV Y.T))(t:TypeId)(ok:α->Prop)(ms:α->Nat)(N:Nat):Prop:=OpF (λ{H}=> @uptoBulk H) Y Tryz.prog w mk t ok ms N
theorem zTd(w:World)(N:Nat):OpD w (λxs=>[.sl 9 xs]) 22 (λ_=>True) (λxs:List Str=>(xs.map λs=>s.length+1).sum+1) N:=by
 cases N with
 |zero=>exact OpF.zero
 |succ N=>
  have h:OpD w (Y.cells 9) 9 (λs:Str=>s.length<=maxLen) (λs:Str=>s.length+1) N:=zEs (Y:=Y) bulk Tryz.underlying9
  exact⟨λhf ht=>by
   obtain⟨a,h1,h2,h3⟩:=(zNL (e':=9) bulk Tryz.underlying22 (by kernel_rfl) (by decide) h).opn hf ht;exact⟨a,h1,trivial,h3⟩⟩
theorem zKN(w:World): ∀N:Nat,OpD w (Y.cells 25) 25 okN zU N
 |0=>OpF.zero
 |N+1=>⟨λ{H enc base spare held fuel cs x} hfu h=>by
  obtain⟨xs,n,rfl,rfl,hl,hxs,hf⟩:=DataW.trod_struct Tryz.underlying25 h;have hl:cs.length=6:=hl.trans (by kernel_rfl);have hxs:xs.length=6:=hxs;have hn:n<=N:=by omega
  match cs,hl,xs,hxs with
  | [c0,c1,c2,c3,c4,c5],_,[x0,x1,x2,x3,x4,x5],_=>
   have h0:DataW.trod enc Tryz.prog w base spare held n 3 [c0]=some x0:=hf 0 _ rfl;have h1:DataW.trod enc Tryz.prog w base spare held n 9 [c1]=some x1:=hf 1 _ rfl;have h2:DataW.trod enc Tryz.prog w base spare held n 2 [c2]=some x2:=hf 2 _ rfl;have h3:DataW.trod enc Tryz.prog w base spare held n 9 [c3]=some x3:=hf 3 _ rfl;have h4:DataW.trod enc Tryz.prog w base spare held n 22 [c4]=some x4:=hf 4 _ rfl;have h5:DataW.trod enc Tryz.prog w base spare held n 23 [c5]=some x5:=hf 5 _ rfl;obtain⟨a0,r0,k0,m0⟩:=(zLi (bulk:=λ{H}=> @uptoBulk H) (Y:=Y) (N:=N) bulk Tryz.underlying3).opn hn h0;obtain⟨a1,r1,k1,m1⟩:=(zEs (bulk:=λ{H}=> @uptoBulk H) (Y:=Y) (N:=N) bulk Tryz.underlying9).opn hn h1
   obtain⟨a2,r2,k2,m2⟩:=(zLi (bulk:=λ{H}=> @uptoBulk H) (Y:=Y) (N:=N) bulk Tryz.underlying2).opn hn h2;obtain⟨a3,r3,k3,m3⟩:=(zEs (bulk:=λ{H}=> @uptoBulk H) (Y:=Y) (N:=N) bulk Tryz.underlying9).opn hn h3;obtain⟨a4,r4,k4,m4⟩:=(zTd w N).opn hn h4;obtain⟨a5,r5,k5,m5⟩:=(zNL (bulk:=λ{H}=> @uptoBulk H) (Y:=Y) (e':=25) bulk Tryz.underlying23 (by kernel_rfl) (by decide) (zKN w N)).opn (by omega) h5;have q:=r0.append (r1.append (r2.append (r3.append (r4.append r5))));refine⟨(⟨a0,a1,a2,a3,a4,a5⟩:Node),q,⟨zOm k0,zOm k2,zNE k5⟩,?_⟩;have hb:=bulk.agg (([x0,x1,x2,x3,x4,x5]:List (DataW H×List MemPlace)).map (·.1))
   simp only[List.map_cons,List.map_nil,List.sum_cons,List.sum_nil]at hb;have e5:zaJ a5=(a5.map zU).sum:=zFC a5;have m1:a1.length+1<=uptoBulk x1.1:=m1;have m3:a3.length+1<=uptoBulk x3.1:=m3;have m4:(a4.map λs=>s.length+1).sum+1<=uptoBulk x4.1:=m4;have m5:(a5.map zU).sum+1<=uptoBulk x5.1:=m5;rw[<-e5]at m5;have m0:1<=uptoBulk x0.1:=m0;have m2:1<=uptoBulk x2.1:=m2;show a1.length+a3.length+(a4.map λs=>s.length+1).sum+zaJ a5+7<=uptoBulk (.agg [x0.1,x1.1,x2.1,x3.1,x4.1,x5.1]);omega⟩
theorem zOO{H:Type}{enc:TypeId×Value->H}{W:World}{base b0:Nat}{v:Value}{d:DataW H}{ps:List MemPlace}(hval:Value.okWide Tryz.prog W .any b0 25 v)(h:DataW.Trod enc Tryz.prog W base (λ_=>true) true 25 v d ps):
  ∃a:Node,Rel Y (ziD W) [] (.agg (Y.cells 25 a)) v/\okN a/\zU a<=uptoBulk d:=by
 obtain⟨n,hn⟩:=h;obtain⟨a,h1,h2,h3⟩:=(zKN W n).opn (yJ _) hn;obtain⟨cs,rfl,hsz⟩:=okWide_struct Tryz.underlying25 hval;refine⟨a,?_,h2,h3⟩;have:=Rel.agg h1.1 h1.2;simpa [Value.cells]using this
def zsa:List (String×DataW Unit):=Rows.parseBackUptoRow.laid
def zWp:List Int:=[0,1,56,2,57,49,28,3,61,58,42,50,38,29,17,4,62,47,59,36,45,43,51,22,53,39,33,30,24,18,12,5,63,55,48,27,60,41,37,16,46,35,44,21,52,32,23,11,54,26,40,15,34,20,31,10,25,14,19,9,13,8,7,6]
theorem star: "*"++ "errors.errorString"= "*errors.errorString":=by decide
theorem zUS(u:TypeId)(h:Tryz.prog.typeName? 3 u=some "*errors.errorString"):u=179:=
 typeName_ptr_named (nm:= "errors.errorString") (by rw[star];kernel_rfl) (by kernel_rfl) (by decide) u (by rw[star];exact h)
theorem zNm{W:World}{name:String}{text:List UInt8}{g:Nat}(hL:laidMetH Tryz.prog zsa W)(hf:(zsa.filter λx=>x.1==name)=[(name,.iface "*errors.errorString" (.ptr (.agg [.lit (.string text)])))])
  (hg:Tryz.prog.globalNamed name=some g) (ht:(Tryz.prog.globals[g]?).map (·.type)=some 88): ∃t p,zhX (ziD W) g 0 (.iface t p):=by
 rw[Go.MakeChecks.laidMetH_plain Tryz.prog zsa W (by kernel_rfl)]at hL;have h:=hL.filter (λx=>x.1==name);rw[hf]at h;obtain⟨a,s,hv,_,_,_⟩:=laid_sentinel h hg ht Tryz.underlying88 zUS Tryz.underlying179 Tryz.underlying181 rfl rfl Tryz.underlying9 (by kernel_rfl) (by kernel_rfl);have:=World.var?_cell hg hv 0;exact⟨_,_,zw8 (v:= .iface 179 (.pointer (some a))) (by simpa using this)⟩
theorem zRE{W:World}(h:W.ShapedOpen Tryz.prog)(hL:laidMetH Tryz.prog zsa W):zam (ziD W):=by
 obtain⟨m,hm⟩:=Tryz.laysM219.s1_3 W h
 have hb:=zNv (name:= "math/bits.deBruijn64tab") (k:= .u8) (zs:=zWp) (g:=7) (t:=198) (e:=5) (n:=64) hL (by kernel_rfl) (by kernel_rfl) (by kernel_rfl) (by kernel_rfl) (by kernel_rfl) (by kernel_rfl) (by kernel_rfl) (by kernel_rfl) W ⟨λ_ _ e=>e⟩
 exact⟨⟨m,zw8 hm⟩,zw8 (hb.cell (g:=7) (by kernel_rfl) 15 (by decide)),zNm (name:= "strconv.ErrSyntax") (text:=[105,110,118,97,108,105,100,32,115,121,110,116,97,120]) hL (by kernel_rfl) (by kernel_rfl) (by kernel_rfl),zNm (name:= "strconv.ErrRange") (text:=[118,97,108,117,101,32,111,117,116,32,111,102,32,114,97,110,103,101]) hL (by kernel_rfl) (by kernel_rfl) (by kernel_rfl),
  λw hs=>zNv (name:= "internal/strconv.uint64pow10") (k:= .u64) (zs:=Lib.pow10Tab) (g:=3) (t:=188) (e:=129) (n:=20) hL (by kernel_rfl) (by kernel_rfl) (by kernel_rfl) (by kernel_rfl) (by kernel_rfl) (by kernel_rfl) (by kernel_rfl) (by kernel_rfl) w hs⟩
end Go.D08
namespace Go.Proofs.YtdapbipagjmolaaGreatDoor
open Go.Proofs Go.RowKit Go.Deep
set_option maxRecDepth 1000000
noncomputable def laidWorld (os:Os):World:=World.laidAll Tryz.prog os Go.D08.zsa
theorem zQI(os:Os)(args:Array Value):((laidWorld os).forCall (λ_ _=>0) ⟨#[],args,[]⟩).variablesRefB Tryz.prog=true:=by kernel_rfl
theorem zQh(os:Os)(args:Array Value):(((laidWorld os).forCall (λ_ _=>0) ⟨#[],args,[]⟩).heap.toList.drop Tryz.prog.globals.size).take ((begin Tryz.prog (λ_ _=>0) default).world.heap.size -Tryz.prog.globals.size)=
  (begin Tryz.prog (λ_ _=>0) default).world.heap.toList.drop Tryz.prog.globals.size:=by kernel_rfl
theorem zPY(os:Os)(args:Array Value):laidMet Tryz.prog Go.D08.zsa ((laidWorld os).forCall (λ_ _=>0) ⟨#[],args,[]⟩).memory:=
 laidMet_laidAll args (by kernel_rfl) (by kernel_rfl)
end Go.Proofs.YtdapbipagjmolaaGreatDoor
namespace Go.D08
open Go Go.Gw Go.Dn Go.Proofs
set_option maxRecDepth 100000
theorem zG2{t t1:zB}{x:Node}(hs: ∀w∈zwD,tIs w t=false)(h:(zX t==1&&tIs [58] t.tail)=false)(h1:EXPR false t (x,t1))(h2:zgN t1=gt ((),t1)):zem t (nd 24 [x],t1):=
 (h1.bind (g:=λx _=>(zgN x.2).bn λt=>gt (nd 24 [x.1],t)) ((Ok.ret _).eq (by funext n;simp only[h2,zd1,zfy]))).up λn=>by
  have hs:=λw h=>hs w h
  simp only[zwD,yP,List.not_mem_nil,or_false]at hs;show zbO (pG n) t=_;unfold zbO;simp only[hs _ (.inl rfl),hs _ (.inr (.inl rfl)),hs _ (.inr (.inr (.inl rfl))),hs _ (.inr (.inr (.inr (.inl rfl)))),hs _ (.inr (.inr (.inr (.inr (.inl rfl))))),hs _ (.inr (.inr (.inr (.inr (.inr (.inl rfl)))))),hs _ (.inr (.inr (.inr (.inr (.inr (.inr (.inl rfl))))))),hs _ (.inr (.inr (.inr (.inr (.inr (.inr (.inr (.inl rfl)))))))),hs _ (.inr (.inr (.inr (.inr (.inr (.inr (.inr (.inr (.inl rfl))))))))),hs _ (.inr (.inr (.inr (.inr (.inr (.inr (.inr (.inr (.inr (.inl rfl)))))))))),hs _ (.inr (.inr (.inr (.inr (.inr (.inr (.inr (.inr (.inr (.inr (.inl rfl))))))))))),hs _ (.inr (.inr (.inr (.inr (.inr (.inr (.inr (.inr (.inr (.inr (.inr (.inl rfl)))))))))))),hs _ (.inr (.inr (.inr (.inr (.inr (.inr (.inr (.inr (.inr (.inr (.inr (.inr (.inl rfl))))))))))))),hs _ (.inr (.inr (.inr (.inr (.inr (.inr (.inr (.inr (.inr (.inr (.inr (.inr (.inr rfl))))))))))))),h,qz2,yA]
theorem zzd{o:Tok}(ho:zct o [40]){t r:zB}{x:Node}(h:zoH (o::t) (x,r))(hf:zbX false r= -1):EXPR false (o::t) (x,r):=
 zCy (ziJ (zox (zp2 (by rw[ho.any];decide) (by rw[ho.any];decide) (zoU (by rw[ho.is];decide) h) (zk1 (no:=false) (by omega)) (zEt (no:=false) (by omega))) (zle (by omega))) (zri (no:=false) (by omega)) (zu1 (no:=false) (by omega))) (zmG (by omega))
theorem zQO{c:Str->Tok}(C:Cls c){a:Node}(R:RT c a)(h1:zO a 101=true){k:Tok}(hk:zct k [41])(r:zB):EXPR false (T c (zb1 (atT (tkN a) 0 false))++k::r) (a,k::r):=by
 have o1:=zai C (w:=[40]) (by decide);have o2:=zai C (w:=[41]) (by decide);have hf:zbX false (k::r)= -1:=by rw[hk.fol];decide
 obtain⟨w,q,ht⟩: ∃w q,atT (tkN a) 0 false=w::q:=by
  cases e:atT (tkN a) 0 false with
  |nil=>exact absurd e (zGx h1 0 false)
  |cons w q=>exact⟨w,q,rfl⟩
 rw[ht];by_cases hc:(w==([123]:Str)||w==([102,117,110,99,116,105,111,110]:Str))=true
 ·have hb:zb1 (w::q)=[40]::((w::q)++[[41]]):=by unfold zb1;simp only[hc,yB]
  rw[hb,<-ht,zba,zbo,yI,yE];exact zzd o1 (zvW o1 (at_end C R false [41] (k::r) (by decide) (by decide) 0) (by rw[o2.is];decide)) hf
 ·have hb:zb1 (w::q)=w::q:=by unfold zb1;simp only[hc,qz2,yA]
  rw[hb,<-ht];exact zCm C R false (k::r) (a,k::r) (by omega) (zmG (by omega)) 0
def zot(f:Bool):Tok:=⟨5,[41],0,f⟩
theorem zAS(f:Bool):zct (zot f) [41]:=⟨rfl,rfl⟩
theorem zF2{c:Str->Tok}(C:Cls c){a:Node}(R:RT c a)(h1:zO a 101=true):
  zoQ true (c [40]::c [40]::(T c (zb1 (atT (tkN a) 0 false))++[zot true,zot false,zlJ])) ([nd 24 [a]],[zlJ]):=by
 have o1:=zai C (w:=[40]) (by decide);have hf:zbX false [zot false,zlJ]= -1:=by rw[(zAS false).fol];decide
 have p1:=zvW o1 (zQO C R h1 (zAS true) [zot false,zlJ]) (by rw[(zAS true).is];decide)
 have e1:=zzd o1 p1 hf;have p2:=zvW o1 e1 (by rw[List.tail_cons,(zAS false).is];decide)
 have e2:=zzd o1 p2 rfl
 have s1:=zG2 (λw hw=>by
  rw[o1.is];have: ∀w∈zwD,(([40]:Str)==w)=false:=by decide
  exact this w hw) (by rw[(o1.kinds _).1];rfl) e2 rfl
 exact zKL (by rw[o1.is,(o1.kinds _).2.2.2];decide) (by rw[o1.is];decide) s1 (zBm rfl)
namespace U
theorem zO1(s:Str):zgt (40::s)=some ({Kind:=5,Text:=[40],Num:=0,At:=0,Fresh:=false},1):=by
 have h3:zjv.contains ((40::s).take 3)=false:=by
  rcases s with _| ⟨b,_| ⟨d,r⟩⟩<;>simp[zjv]
 have h2:zki.contains ((40::s).take 2)=false:=by
  rcases s with _| ⟨b,r⟩<;>simp[zki]
 have hs:zcs (40::s)=1:=by
  unfold zcs;rw[h3,h2];simp only[qz2,and_false,yA];rfl
 unfold zgt;have c1:isLet 40=false:=by decide
 have c2:zfv 40=false:=by decide
 have c3: ¬((40:UInt8)=39\/(40:UInt8)=34):=by decide
 simp only[c1,c2,c3,hs,qz2,yA];rfl
theorem zHa{s:Str}{m:Nat}{l:List (Tok×Nat)}(h:zd9 m s false= .inl l):zd9 (m+1) (40::s) false= .inl ((Tok.fresh ({Kind:=5,Text:=[40],Num:=0,At:=0,Fresh:=false}:zu) false,(40::s).length)::l):=by
 rw[zd9,zoT (s:=40::s) (by
  unfold zm5;simp[zcm,List.isPrefixOf])]
 have hd:(40::s).drop 1=s:=rfl;simp only[Bool.true_eq_false,yA,zO1,hd,h];rfl
theorem zKI(len:Nat)(l:List (Tok×Nat)):(zjC len l).map tk=l.map λp=>tk p.1:=by
 unfold zjC;rw[List.map_map];rfl
theorem zI2{ws:List Str}(hw: ∀w∈ws,zl8 w)(hl:(Lib.join ws [32]).length<=4000): ∃L,zj9 ([40,40]++Lib.join ws [32]++[10,41,41])=(L,0,0)/\L.map tk=cT [40]::cT [40]::(ws.map cT++[zot true,zot false,zlJ]):=by
 obtain⟨l,h1,h2⟩:=zER 0 ws ((Lib.join ws [32]).length+1) hw (by omega);have h3:=zHa (zHa h1);have h4:=zHt [41,41] _ _ _ _ (by simp only[qz3];omega) h3 ((40::40::Lib.join ws [32]++[10,41,41]).length+1) (by simp)
 have h5:zd9 (([41,41]:Str).length+1) [41,41] true= .inl [({Kind:=5,Text:=[41],Num:=0,At:=0,Fresh:=true},2),({Kind:=5,Text:=[41],Num:=0,At:=0,Fresh:=false},1),(zHL false,0)]:=by kernel_rfl
 rw[h5]at h4;rw[zKI]at h2;have e:([40,40]:Str)++Lib.join ws [32]++[10,41,41]=40::40::Lib.join ws [32]++10::[41,41]:=by simp
 rw[e];unfold zj9;have hlen:(40::40::Lib.join ws [32]++10::[41,41]:Str).length=(Lib.join ws [32]).length+5:=by simp
 rw[yK (by omega)];have h4:zd9 ((40::40::Lib.join ws [32]++10::[41,41]:Str).length+1) (40::40::Lib.join ws [32]++10::[41,41]) false=_:=h4;rw[h4];refine⟨_,rfl,?_⟩;rw[zKI]
 have hne:l≠[]:=by
  rintro rfl;simp at h2
 have hdl:(l.dropLast).map (λp=>tk p.1)=ws.map cT:=by
  rw[List.map_dropLast,h2,List.dropLast_concat]
 have hc:cT [40]=⟨5,[40],0,false⟩:=by kernel_rfl
 have hcons: ∀(x y:Tok×Nat),(x::y::l).dropLast=x::y::l.dropLast:=λx y=>by
  cases l with
  |nil=>exact absurd rfl hne
  |cons z r=>rfl
 rw[hcons,List.map_append,List.map_map,List.map_cons,List.map_cons,hc];have:(l.dropLast.map ((λp:Tok×Nat=>tk p.1)∘λp:Tok×Nat=>(p.1,p.2+(([41,41]:Str).length+1))))=ws.map cT:=by rw[<-hdl];rfl
 rw[this];rfl
end U
theorem zHM(n:Node)(ho:okN n)(hb:zU n<=1048576):zcS n=some (true,()):=by
 unfold zcS;rw[zq,zOh,zH6 n ho (by omega)];simp only[qz1];have triv: ∀f:Bool->Option (Bool×Unit),(∀b,b=true->f b=some (true,()))->∀o:Option Bool,o=some true->o.bind f=some (true,()):=λf hf o ho=>by rw[ho];exact hf true rfl
 by_cases h0:(znL n).2=0
 ·obtain⟨hk,hm,hd,ht,hl⟩:=zSD h0;have e0:((znL n).2 !=0)=false:=by rw[h0];rfl
  rcases hL:n.L with _| ⟨x,_| ⟨y,r⟩⟩
  ·simp[e0,hL]
  ·have h24:x.Kind=24\/x.Kind≠24:=by omega
   rcases h24 with h24|h24
   ·have g:zN [x] 0=some x:=rfl;have e1:(((((([x]:List Node).length:Nat):Int)) !=1))=false:=rfl;have e2:(x.Kind !=24)=false:=by rw[h24];rfl
    simp only[e0,e1,g,e2,Bool.or_self,qz2,yA,qz1,Bool.false_or];have hst:=zyY hk hm x (by rw[hL];exact qz7)
    obtain⟨hmx,_⟩:=zGz hst;have hmx':=hmx;rw[zCK h24,qz4]at hmx';obtain⟨a,hLa,h1⟩:=zdq hmx'.2
    have hxe:x=nd 24 [a]:=by
     have:=zd0 h24 hmx'.1 (by decide) (by decide);rw[hLa]at this;exact this
    have htx:zY (tkL n.L)=zb1 (atT (tkN a) 0 false)++[[59]]:=by
     rw[hL];show zY [tkN x]=_;unfold zY;simp only[List.flatMap_cons,List.flatMap_nil,List.append_nil];rw[zGD h24,hLa,tk0]
    have a1:=zaA n;have a2:=zaA x;rw[hL]at a1;rw[hLa]at a2;simp only[zaJ]at a1 a2;have R:RT U.cT a:=(zVo U.zDL a (by omega)).ex h1;have hw:=zOg (x:=n) (by omega) hk hm;rw[htx]at hw
    have hne:zb1 (atT (tkN a) 0 false)≠[]:=by
     have:=zGx h1 0 false;cases e:atT (tkN a) 0 false with
     |nil=>exact absurd e this
     |cons w q=>unfold zb1;simp only;split<;>simp
    have hj:(znL n).1=Lib.join (zb1 (atT (tkN a) 0 false)) [32]++[32,59]:=by
     rw[ht,htx,zHu _ _ hne (by simp)];rfl
    rw[hj];by_cases hlen:(Lib.join (zb1 (atT (tkN a) 0 false)) [32]++[32,59]).length>4000
    ·have d1:((((Lib.join (zb1 (atT (tkN a) 0 false)) [32]++[32,59]:Str).length:Nat):Int)>4000):=by omega
     simp only[d1,decide_true,Bool.true_or,yB]
    ·have hl2:(Lib.join (zb1 (atT (tkN a) 0 false)) [32]++[32,59]).length=(Lib.join (zb1 (atT (tkN a) 0 false)) [32]).length+2:=by simp
     have d1: ¬((((Lib.join (zb1 (atT (tkN a) 0 false)) [32]++[32,59]:Str).length:Nat):Int)>4000):=by omega
     have d2: ¬((((Lib.join (zb1 (atT (tkN a) 0 false)) [32]++[32,59]:Str).length:Nat):Int)<2):=by omega
     simp only[d1,d2,decide_false,Bool.or_self,qz2,yA];obtain⟨L,hc,hLt⟩:=U.zI2 (ws:=zb1 (atT (tkN a) 0 false)) (λw hw'=>hw w (List.mem_append_left _ hw')) (by omega)
     have wj:IntKind.wrap .i64 ((((Lib.join (zb1 (atT (tkN a) 0 false)) [32]++[32,59]).length:Nat):Int) -2)=(((Lib.join (zb1 (atT (tkN a) 0 false)) [32]).length:Nat):Int):=by
      rw[wrap_i64 (by omega) (by omega)];omega
     have hcut:zaI (Lib.join (zb1 (atT (tkN a) 0 false)) [32]++[32,59]) 0 (((Lib.join (zb1 (atT (tkN a) 0 false)) [32]).length:Nat):Int)=some (Lib.join (zb1 (atT (tkN a) 0 false)) [32]):=by
      have:=zkz (Lib.join (zb1 (atT (tkN a) 0 false)) [32]++[32,59]) 0 (Lib.join (zb1 (atT (tkN a) 0 false)) [32]).length (by omega) (by omega);simpa using this
     rw[wj,hcut,qz1,zCH (by simp) (by omega),qz1,zCH (by simp;omega) (by simp),qz1]
     obtain⟨t1,t2,_⟩:=U.ztx hc;have hr:=zQu (t:=L.map tk) t1.ok.wf (by rw[hLt];exact zF2 U.zDL R h1)
     rw[List.length_map]at hr
     have hn:nd 41 [nd 24 [a]]=n:=by
      rw[<-hxe];have:=zTa U.zDL hk hm;rw[hL]at this;exact this.symm
     have hsz:=zkL n;rw[zBI (e:=zlJ) (by simp;omega) hc t1.ok (by omega) hr rfl (by rw[hn];omega) (by rw[hn];exact hd),hn]
     simp only[qz1,beq_self_eq_true,Bool.and_self,yB,zq];rw[zSY n n (by omega) (by omega),(zES n n).2 rfl];rfl
   ·have g:zN [x] 0=some x:=rfl;have e2:(x.Kind !=24)=true:=by rw[bne_iff_ne];exact h24
    simp[e0,g,e2]
  ·have e1:(((((x::y::r).length:Nat):Int)) !=1)=true:=by rw[bne_iff_ne];simp only[qz3];omega
   simp only[e1,Bool.or_true,yB,qz1,Bool.true_or]
 ·have e0:((znL n).2 !=0)=true:=by rw[bne_iff_ne];exact h0
  simp only[e0,Bool.true_or,yB,qz1]
end Go.D08
