/- Texts for a statement of this seat. -/
import Derived.Test.YtdapbipagjmolaaGreatDoorMb5
import Derived.Lib.ItoaLen
import Derived.ProofKit
import Derived.OpenShut
import Derived.Deep.DeepHandedRow
import Derived.Lib.LaidTab
import Derived.Deep.Slices
import Derived.ChangeShapes
import Derived.DataReads
import Derived.LaidSub
import Derived.MakeChecks
import Derived.Lay
import Derived.Deep.DeepWitnessRowRef
import Derived.Stop.LaidErr
import Derived.Test.YtdapbipagjmolaaGreatDoorRows
import Derived.Test.YtdapbipagjmolaaGreatDoorCards
import Derived.Test.YtdapbipagjmolaaGreatDoorTie
set_option linter.unusedSectionVars false
set_option linter.unusedVariables false
set_option linter.unusedSimpArgs false
set_option linter.unnecessarySimpa false
namespace Go.D08
open Go Go.Gw Go.Dn
set_option maxRecDepth 100000
theorem zos{b:Node}(h:b.Kind=25):za5 b=b:=by unfold za5;rw[yL (by rw[h];rfl)]
theorem zG3: ∀{l:List Node} {e:Nat},zfe l e=true->e<2
 | [],e,h=>by simpa [zfe]using h
 |k::r,e,h=>by
  simp only[zfe,qz4]at h;have:=zG3 h.2;split at this<;>omega
theorem zq1{a:Node}(he:zci a.Kind=true):(a.Kind==42)=false/\(a.Kind==22)=false/\(a.Kind !=42)=true:=by
 rcases zgG he with h|h|h|h|h|h|h|h|h|h|h|h|h|h|h|h|h|h|h|h<;>rw[h]<;>decide
theorem zqD{a:Node}(he:zci a.Kind=true)(least:Int)(no:Bool):zaJ (tkN a) least no=atT (tkN a) least no:=by
 unfold zaJ;rw[zdF,(zq1 he).1,(zq1 he).2.1];rfl
theorem zxE{a:Node}(h:a.Kind=42)(least:Int)(no:Bool):zaJ (tkN a) least no=[]:=by
 unfold zaJ;rw[zdF,h];rfl
theorem zzo{a:Node}(h:a.Kind=22)(least:Int)(no:Bool):zaJ (tkN a) least no=[118,97,114]::commas (declT no) (tkL a.L):=by
 unfold zaJ;rw[zdF,zjE,h];rfl
section
variable (c:Str->Tok)
structure BK (b:Node):Prop where
 kind:b.Kind=25
 bl: ∀r,BLOCK (T c (tkN b).st++r) (b,r)
variable {c:Str->Tok}
variable (C:Cls c)
include C
theorem BK.st{b:Node}(B:BK c b)(r:zB):zeI (T c (tkN b).st++r) (b,r):=by
 have:=B.bl r;rw[zCu B.kind]at this⊢;exact zNx (zao C (by decide)) this
theorem zFI{a:Node}(h:a=nd 42 []\/(zci a.Kind=true/\RT c a))(w:Str)(hw:w=[59]\/w=[41])(r:zB):TILL w (T c (zaJ (tkN a) 0 false)++c w::r) (a,r):=by
 have ho:zgk.contains w=true:=by rcases hw with rfl|rfl<;>decide
 have o:=zao C ho;rcases h with h| ⟨he,R⟩
 ·rw[zxE (by rw[h];rfl)]
  rw[h];exact zLg (by show tIs w (c w::r)=true;rw[o.is];simp)
 ·rw[zqD he];have hb:=zkT C R 0 false (c w::r);exact zUL (t1:=c w::r) (hb.is (by rcases hw with rfl|rfl<;>decide)) (at_end C R false w r (by rcases hw with rfl|rfl<;>decide) ho 0) (by rw[o.is];simp)
theorem zWD{x:Node}(h:x.Kind=22)(V:VD c x):SR c x:=by
 have o:=zao C (w:=[118,97,114]) (by decide);have oe:=zao C (w:=[59]) (by decide);refine⟨λr=>?_,λr _=>?_⟩
 ·rw[zGA h];exact zep C _ _ (by decide) (by decide)
 ·obtain⟨d,l,hL⟩:=V.ne;rw[zGA h,zbu,zbk,yE,yI];have hv:=vars_read C false x.L (by rw[hL];simp) V.ds (c [59]::r) (by rw[oe.is];decide) (by rw[oe.is];decide) (by rw[oe.fol];decide)
  have:=zTl o hv (by rw[oe.is];decide)
  rw[<-V.eq]at this;exact this
theorem zWN{x a:Node}(h:x.Kind=24)(ho:zX x=true)(hL:x.L=[a])(R:RT c a)(h1:zu a 101=true):SR c x:=by
 have o1:=zao C (w:=[40]) (by decide);have o2:=zao C (w:=[41]) (by decide);have oe:=zao C (w:=[59]) (by decide);have e:=zej h ho (by decide) (by decide);rw[hL]at e
 obtain⟨w,q,ht⟩: ∃w q,atT (tkN a) 0 false=w::q:=by
  cases e:atT (tkN a) 0 false with
  |nil=>exact absurd e (zRJ h1 0 false)
  |cons w q=>exact⟨w,q,rfl⟩
 have hst:(tkN x).st=zjb (w::q)++[[59]]:=by rw[zL0 h,hL,tk0,ht]
 by_cases hc:(w==([123]:Str)||w==([102,117,110,99,116,105,111,110]:Str))=true
 ·have hb:zjb (w::q)=[40]::((w::q)++[[41]]):=by unfold zjb;simp only[hc,yB]
  rw[hb]at hst;refine⟨λr=>?_,λr _=>?_⟩
  ·rw[hst];exact zep C _ _ (by decide) (by decide)
  ·rw[hst,<-ht,yI,zbk,zbu,zbu,yI,yE,yE];show zeI (c [40]::(T c (atT (tkN a) 0 false)++c [41]::c [59]::r)) (x,r);have hp:=zKv o1 (at_end C R false [41] (c [59]::r) (by decide) (by decide) 0) (by rw[o2.is];decide)
   have hm:MADE (c [40]::(T c (atT (tkN a) 0 false)++c [41]::c [59]::r)) (a,c [59]::r):=zut (by rw[o1.is];decide) hp
   have hf:zce false (c [59]::r)= -1:=by rw[oe.fol];decide
   have hx:EXPR false (c [40]::(T c (atT (tkN a) 0 false)++c [41]::c [59]::r)) (a,c [59]::r):=
    zJk (zll (zrf (zxP (by rw[o1.any];decide) (by rw[o1.any];decide) hm (zl8 (no:=false) (by omega)) (zKC (no:=false) (by omega))) (zmk (by omega))) (zwc (no:=false) (by omega)) (zAW (no:=false) (by omega))) (ztx (by omega))
   have:=zHl (λw hw=>by
    rw[o1.is];have: ∀w∈zEO,(([40]:Str)==w)=false:=by decide
    exact this w hw) (by rw[(o1.kinds _).1];rfl) hx (by rw[oe.is];decide)
   rw[<-e]at this;exact this
 ·have hb:zjb (w::q)=w::q:=by unfold zjb;simp only[hc,qz2,yA]
  rw[hb,<-ht]at hst
  have hc:w≠[123]/\w≠[102,117,110,99,116,105,111,110]:=by
   simp only[yQ,beq_iff_eq,not_or]at hc;exact hc
  have hsp: ∀(s:Str) (r:zB),w≠s->tIs s (T c (atT (tkN a) 0 false)++r)=false:=by
   intro s r hs;rw[ht];cases e:tIs s (T c (w::q)++r)with
   |false=>rfl
   |true=>
    have e:(opK (c w)&&((c w).text==s))=true:=e;rw[qz4]at e;have:=C.opt w e.1;exact absurd ((C.opt w e.1).symm.trans (eq_of_beq e.2)) hs
  refine⟨λr=>?_,λr _=>?_⟩
  ·rw[hst,zbu,yE];have hg:=zkT C R 0 false (T c [[59]]++r);obtain⟨p,u,e1,_,hg⟩:=hg;refine⟨p,u,e1,?_⟩;rcases hg with hg|hg|hg| ⟨v,g1,g2,_⟩
   ·exact .inl hg
   ·exact .inr (.inl hg)
   ·exact .inr (.inr (.inl hg))
   ·refine .inr (.inr (.inr ⟨v,g1,?_⟩))
    have hv:v≠[102,117,110,99,116,105,111,110]:=by
     rintro rfl;have:=hsp [102,117,110,99,116,105,111,110] (T c [[59]]++r) hc.2;rw[e1,g1.is]at this;exact absurd this (by decide)
    have: ∀v∈zr1,v≠[102,117,110,99,116,105,111,110]->v∈zAN:=by decide
    exact this v g2 hv
  ·rw[hst,zbu,yE];have hg:=zkT C R 0 false (c [59]::r)
   have:=zHl (t:=T c (atT (tkN a) 0 false)++c [59]::r) (λs hs=>by
    by_cases e1:s=[123]
    ·exact hsp s _ (by rw[e1];exact hc.1)
    ·by_cases e2:s=[102,117,110,99,116,105,111,110]
     ·exact hsp s _ (by rw[e2];exact hc.2)
     ·have: ∀s∈zEO,s≠[123]->s≠[102,117,110,99,116,105,111,110]->zr1.contains s=false:=by decide
      exact hg.is (this s hs e1 e2)) (by
    cases hk:zaa (T c (atT (tkN a) 0 false)++c [59]::r)==1 with
    |false=>rfl
    |true=>
     rw[Bool.true_and];exact zOf C R 0 false _ (by rw[oe.is];decide) (eq_of_beq hk)) (at_end C R false [59] r (by decide) (by decide) 0) (by rw[oe.is];decide)
   rw[<-e]at this;exact this
theorem zWZ{x:Node}(B:BK c x):SR c x:=by
 refine⟨λr=>?_,λr _=>B.st C r⟩;rw[zCu B.kind];exact zep C _ _ (by decide) (by decide)
theorem zXa{x a b:Node}(h:x.Kind=26)(ho:zX x=true)(hL:x.L=[a,b])(R:RT c a)(B:BK c b):SR c x:=by
 have o:=zao C (w:=[105,102]) (by decide);have e:=zej h ho (by decide) (by decide);rw[hL]at e;have hst:(tkN x).st=[105,102]::(([40]::(atT (tkN a) 0 false++[[41]]))++(tkN b).st):=by rw[zAB h,hL,tk0,tk1,zQy];simp[zc6]
 refine⟨λr=>?_,λr hf=>?_⟩
 ·rw[hst];exact zep C _ _ (by decide) (by decide)
 ·rw[hst,zbk,yI,zbu,yE];have:=zVM o (zoY C R _) (B.st C r) hf.els;rw[zos B.kind,<-e]at this;exact this
theorem zUE{x a b d:Node}(h:x.Kind=26)(ho:zX x=true)(hL:x.L=[a,b,d])(R:RT c a)(B:BK c b)(D:BK c d):SR c x:=by
 have o:=zao C (w:=[105,102]) (by decide);have oe:=zao C (w:=[101,108,115,101]) (by decide);have e:=zej h ho (by decide) (by decide);rw[hL]at e;have hst:(tkN x).st=[105,102]::(([40]::(atT (tkN a) 0 false++[[41]]))++((tkN b).st++([101,108,115,101]::(tkN d).st))):=by rw[zAB h,hL,tk0,tk1,tk2];simp[zc6]
 refine⟨λr=>?_,λr hf=>?_⟩
 ·rw[hst];exact zep C _ _ (by decide) (by decide)
 ·rw[hst,zbk,yI,zbu,yE,zbu,yE,zbk,yI];have:=zMC (t2:=c [101,108,115,101]::(T c (tkN d).st++r)) o (zoY C R _) (B.st C _) (by rw[oe.is];decide) (D.st C r)
  rw[zos B.kind,zos D.kind,<-e]at this;exact this
theorem zW5{x a b:Node}(h:x.Kind=27)(ho:zX x=true)(hL:x.L=[a,b])(R:RT c a)(B:BK c b):SR c x:=by
 have o:=zao C (w:=[119,104,105,108,101]) (by decide);have e:=zej h ho (by decide) (by decide);rw[hL]at e;have hst:(tkN x).st=[119,104,105,108,101]::(([40]::(atT (tkN a) 0 false++[[41]]))++(tkN b).st):=by rw[zLJ h,hL,tk0,tk1];simp[zc6]
 refine⟨λr=>?_,λr hf=>?_⟩
 ·rw[hst];exact zep C _ _ (by decide) (by decide)
 ·rw[hst,zbk,yI,zbu,yE];have:=zOk o (zoY C R _) (B.st C r);rw[zos B.kind,<-e]at this;exact this
theorem zWR{x a b:Node}(h:x.Kind=28)(ho:zX x=true)(hL:x.L=[a,b])(B:BK c a)(R:RT c b):SR c x:=by
 have o:=zao C (w:=[100,111]) (by decide);have ow:=zao C (w:=[119,104,105,108,101]) (by decide);have oe:=zao C (w:=[59]) (by decide);have e:=zej h ho (by decide) (by decide);rw[hL]at e;have hst:(tkN x).st=[100,111]::((tkN a).st++([119,104,105,108,101]::(([40]::(atT (tkN b) 0 false++[[41]]))++[[59]]))):=by rw[zMB h,hL,tk0,tk1];simp[zc6]
 refine⟨λr=>?_,λr hf=>?_⟩
 ·rw[hst];exact zep C _ _ (by decide) (by decide)
 ·rw[hst,zbk,yI,zbu,yE,zbk,yI,zbu,yE];have:=zWd o (B.st C (c [119,104,105,108,101]::(T c ([40]::(atT (tkN b) 0 false++[[41]]))++(c [59]::r)))) (by rw[ow.is];decide) (zoY C R (c [59]::r)) (by rw[oe.is];decide)
  rw[zos B.kind,<-e]at this;exact this
theorem zDF{a:Node}(h:(a.Kind=42/\a=nd 42 [])\/(a.Kind=22/\VD c a)\/(zci a.Kind=true/\RT c a))(least:Int)(w:Str)(hw:w=[59]\/w=[105,110])(h42:a.Kind=42->w=[59])(r:zB):FIRST (T c (zaJ (tkN a) least true)++c w::r) (a,c w::r):=by
 have how:zgk.contains w=true:=by rcases hw with rfl|rfl<;>decide
 have o:=zao C how;have ov:=zao C (w:=[118,97,114]) (by decide);have hf:zfn true w= -1:=by rcases hw with rfl|rfl<;>decide
 rcases h with⟨h,e⟩| ⟨h,V⟩| ⟨he,R⟩
 ·rw[zxE h];obtain rfl:=h42 h;rw[e];exact zMp (by show tIs [118,97,114] (c [59]::r)=false;rw[o.is];decide) (by show tIs [59] (c [59]::r)=true;rw[o.is];decide)
 ·obtain⟨d,l,hL⟩:=V.ne;rw[zzo h,zbk,yI];have hv:=vars_read C true a.L (by rw[hL];simp) V.ds (c w::r) (by rw[o.is];rcases hw with rfl|rfl<;>decide) (by rw[o.is];rcases hw with rfl|rfl<;>decide) (by rw[o.fol,hf];decide)
  have:=zKb (t:=c [118,97,114]::(T c (commas (declT true) (tkL a.L))++c w::r)) (by rw[ov.is];decide) hv
  rw[<-V.eq]at this;exact this
 ·rw[zqD he];have hb:=zkT C R least true (c w::r);exact zT3 (hb.is (by decide)) (hb.is (by decide)) (zIO C R true _ _ (by rw[o.fol,hf];decide) (ztx (by rw[o.fol,hf];decide)) least)
theorem zXf{x a b d q:Node}(h:x.Kind=29)(ho:zX x=true)(hL:x.L=[a,b,d,q])(ha:(a.Kind=42/\a=nd 42 [])\/(a.Kind=22/\VD c a)\/(zci a.Kind=true/\RT c a))(hb:b=nd 42 []\/(zci b.Kind=true/\RT c b))(hd:d=nd 42 []\/(zci d.Kind=true/\RT c d))(B:BK c q):SR c x:=by
 have o:=zao C (w:=[102,111,114]) (by decide);have o1:=zao C (w:=[40]) (by decide);have oe:=zao C (w:=[59]) (by decide);have e:=zej h ho (by decide) (by decide);rw[hL]at e;have hst:(tkN x).st=[102,111,114]::[40]::(zaJ (tkN a) 0 true++([59]::(zaJ (tkN b) 0 false++([59]::(zaJ (tkN d) 0 false++([41]::(tkN q).st)))))):=by rw[zMt h,hL,tk0,tk1,tk2,tk3]
 refine⟨λr=>?_,λr hf=>?_⟩
 ·rw[hst];exact zep C _ _ (by decide) (by decide)
 ·rw[hst];simp only[zbk,zbu,yI,yE];have h1:=zDF C ha 0 [59] (.inl rfl) (λ_=>rfl) (T c (zaJ (tkN b) 0 false)++c [59]::(T c (zaJ (tkN d) 0 false)++c [41]::(T c (tkN q).st++r)));have h2:=zFI C hb [59] (.inl rfl) (T c (zaJ (tkN d) 0 false)++c [41]::(T c (tkN q).st++r));have h3:=zFI C hd [41] (.inr rfl) (T c (tkN q).st++r);have:=zMm (t:=c [40]::(T c (zaJ (tkN a) 0 true)++c [59]::(T c (zaJ (tkN b) 0 false)++c [59]::(T c (zaJ (tkN d) 0 false)++c [41]::(T c (tkN q).st++r))))) (by rw[o1.is];decide) h1 (by rw[oe.is,show(([59]:Str)==[105,110])=false by decide,Bool.and_false]) (by rw[oe.is];decide) h2 h3 (B.st C r)
  rw[zos B.kind,<-e]at this;exact zKH o this
theorem zXq{x a b q:Node}(h:x.Kind=30)(ho:zX x=true)(hL:x.L=[a,b,q])(ha:(a.Kind=22/\VD c a)\/(zci a.Kind=true/\RT c a))(he:zkw a=true)(Rb:RT c b)(B:BK c q):SR c x:=by
 have o:=zao C (w:=[102,111,114]) (by decide);have o1:=zao C (w:=[40]) (by decide);have o2:=zao C (w:=[41]) (by decide);have oi:=zao C (w:=[105,110]) (by decide);have e:=zej h ho (by decide) (by decide);rw[hL]at e;have hst:(tkN x).st=[102,111,114]::[40]::(zaJ (tkN a) 11 true++([105,110]::(atT (tkN b) 0 false++([41]::(tkN q).st)))):=by rw[zLF h,hL,tk0,tk1,tk2]
 refine⟨λr=>?_,λr hf=>?_⟩
 ·rw[hst];exact zep C _ _ (by decide) (by decide)
 ·rw[hst];simp only[zbk,zbu,yI,yE]
  have h1:=zDF C (.inr ha) 11 [105,110] (.inr rfl) (λh42=>by
   rcases ha with⟨h,_⟩| ⟨h,_⟩
   ·rw[h]at h42;exact absurd h42 (by decide)
   ·have:=(zq1 h).1;rw[h42]at this;exact absurd this (by decide)) (T c (atT (tkN b) 0 false)++c [41]::(T c (tkN q).st++r))
  have:=zNS (t:=c [40]::(T c (zaJ (tkN a) 11 true)++c [105,110]::(T c (atT (tkN b) 0 false)++c [41]::(T c (tkN q).st++r)))) (by rw[o1.is];decide) h1 he (by rw[oi.is];decide) (at_end C Rb false [41] (T c (tkN q).st++r) (by decide) (by decide) 0) (by rw[o2.is];decide) (B.st C r)
  rw[zos B.kind,<-e]at this;exact zKH o this
theorem zRy{x:Node}(h:x.Kind=31\/x.Kind=32)(ho:zX x=true)(hL:x.L=[]):SR c x:=by
 have oe:=zao C (w:=[59]) (by decide)
 have hn:x.Name=[]\/zaP x.Name=true:=by
  have:=(zaT ho).1;rcases h with h|h<;>simpa [zI,h]using this
 have hlp: ∀k r,k=x.Kind->zjg k (T c (if(x.Name==([]:Str))=true then[]else[x.Name])++c [59]::r)=gt (x,r):=by
  intro k r hk;have e:=zlY (k:=k) hk.symm ho (by rcases h with h|h<;>rw[hk,h]<;>decide)
  rw[hL]at e;rcases hn with n|n
  ·rw[n]at e⊢;show zjg k (c [59]::r)=_;rw[zSG (by rw[oe.is];decide),e];rfl
  ·have hne:(x.Name==([]:Str))=false:=by
    rw[yH];intro e;rw[e]at n;exact absurd n (by decide)
   obtain⟨k1,k2⟩:=C.name x.Name n;rw[hne];show zjg k (c x.Name::c [59]::r)=_;rw[zNd k1 (C.fresh _) (by rw[oe.is];decide),k2,<-e];rfl
 rcases h with h|h
 ·have o:=zao C (w:=[98,114,101,97,107]) (by decide);have hst:(tkN x).st=[98,114,101,97,107]::((if(x.Name==([]:Str))=true then[]else[x.Name])++[[59]]):=by rw[zLi h,hL];unfold zhz;rw[h];simp[tkL]
  refine⟨λr=>?_,λr _=>?_⟩
  ·rw[hst];exact zep C _ _ (by decide) (by decide)
  ·rw[hst,zbk,zbu,yI,yE];exact zNw o (hlp 31 r h.symm)
 ·have o:=zao C (w:=[99,111,110,116,105,110,117,101]) (by decide);have hst:(tkN x).st=[99,111,110,116,105,110,117,101]::((if(x.Name==([]:Str))=true then[]else[x.Name])++[[59]]):=by rw[zMh h,hL];unfold zhz;rw[h];simp[tkL]
  refine⟨λr=>?_,λr _=>?_⟩
  ·rw[hst];exact zep C _ _ (by decide) (by decide)
  ·rw[hst,zbk,zbu,yI,yE];exact zHa o (hlp 32 r h.symm)
theorem zXe{x:Node}(h:x.Kind=33)(ho:zX x=true)(hL:x.L=[]\/∃a,x.L=[a]/\RT c a):SR c x:=by
 have o:=zao C (w:=[114,101,116,117,114,110]) (by decide);have oe:=zao C (w:=[59]) (by decide);have e:=zej h ho (by decide) (by decide);have hn:=zeU ho (by rw[h];decide)
 rcases hL with hL| ⟨a,hL,R⟩
 ·have hst:(tkN x).st=[[114,101,116,117,114,110],[59]]:=by rw[zGv h,hL];unfold zhz;rw[h,hn];simp[tkL]
  rw[hL]at e;refine⟨λr=>?_,λr _=>?_⟩
  ·rw[hst];exact zep C _ _ (by decide) (by decide)
  ·rw[hst];have:=zGo (r:=c [59]::r) o (by rw[oe.is];decide)
   rw[<-e]at this;exact this
 ·have hst:(tkN x).st=[114,101,116,117,114,110]::(atT (tkN a) 0 false++[[59]]):=by rw[zGv h,hL];unfold zhz;rw[h,hn];simp[tkL]
  rw[hL]at e;refine⟨λr=>?_,λr _=>?_⟩
  ·rw[hst];exact zep C _ _ (by decide) (by decide)
  ·rw[hst,zbk,zbu,yI,yE];have hb:=zkT C R 0 false (c [59]::r);have:=zLt (r:=T c (atT (tkN a) 0 false)++c [59]::r) o (by unfold zlc;rw[hb.is (by decide),hb.is (by decide),hb.zGC,hb.fresh];rfl) (at_end C R false [59] r (by decide) (by decide) 0) (by rw[oe.is];decide)
   rw[<-e]at this;exact this
theorem zW4{x a:Node}(h:x.Kind=34)(ho:zX x=true)(hL:x.L=[a])(R:RT c a):SR c x:=by
 have o:=zao C (w:=[116,104,114,111,119]) (by decide);have oe:=zao C (w:=[59]) (by decide);have e:=zej h ho (by decide) (by decide);have hn:=zeU ho (by rw[h];decide)
 have hst:(tkN x).st=[116,104,114,111,119]::(atT (tkN a) 0 false++[[59]]):=by rw[zMA h,hL];unfold zhz;rw[h,hn];simp[tkL]
 rw[hL]at e;refine⟨λr=>?_,λr _=>?_⟩
 ·rw[hst];exact zep C _ _ (by decide) (by decide)
 ·rw[hst,zbk,zbu,yI,yE];have hb:=zkT C R 0 false (c [59]::r);have:=zNi (r:=T c (atT (tkN a) 0 false)++c [59]::r) o hb.fresh (at_end C R false [59] r (by decide) (by decide) 0) (by rw[oe.is];decide)
  rw[<-e]at this;exact this
theorem zWO{x:Node}(h:x.Kind=40)(ho:zX x=true)(hL:x.L=[]):SR c x:=by
 have oe:=zao C (w:=[59]) (by decide);have e:=zej h ho (by decide) (by decide);have hn:=zeU ho (by rw[h];decide)
 have hst:(tkN x).st=[[59]]:=by rw[zL6 h,hL];unfold zhz;rw[h,hn];simp[tkL]
 rw[hL]at e;refine⟨λr=>?_,λr _=>?_⟩
 ·rw[hst];exact zep C _ _ (by decide) (by decide)
 ·rw[hst];have:=zNG (r:=r) oe;rw[<-e]at this;exact this
theorem zWw{x a:Node}(h:x.Kind=38)(ho:zX x=true)(hL:x.L=[a])(S:SR c a):SR c x:=by
 have o:=zao C (w:=[58]) (by decide);have e:=zlY h ho (by decide);rw[hL]at e;have hn:zaP x.Name=true:=by simpa [zI,h]using(zaT ho).1
 obtain⟨k1,k2⟩:=C.name x.Name hn;have hst:(tkN x).st=x.Name::[58]::(tkN a).st:=by rw[zMP h,hL,tk0]
 refine⟨λr=>?_,λr hf=>?_⟩
 ·rw[hst];exact⟨c x.Name,T c ([58]::(tkN a).st)++r,rfl,.inl k1⟩
 ·rw[hst];have:=zM5 (a:=c x.Name) (r:=c [58]::(T c (tkN a).st++r)) (λw _=>by show(opK (c x.Name)&&_)=false;rw[zdH (.inl k1)];rfl) k1 (by rw[o.is];decide) (S.rd r hf)
  rw[k2,<-e]at this;exact this
theorem zWj{x a b d:Node}(h:x.Kind=35)(ho:zX x=true)(hL:x.L=[a,b,d])(A:BK c a)(hb:BK c b\/b=nd 42 [])(hd:BK c d\/d=nd 42 [])(hno: ¬(b.Kind=42/\d.Kind=42)):SR c x:=by
 have o:=zao C (w:=[116,114,121]) (by decide);have oc:=zao C (w:=[99,97,116,99,104]) (by decide);have of:=zao C (w:=[102,105,110,97,108,108,121]) (by decide);have o1:=zao C (w:=[40]) (by decide);have o2:=zao C (w:=[41]) (by decide);have e:=zlY h ho (by decide);rw[hL]at e
 have hst:(tkN x).st=[116,114,121]::((tkN a).st++((if(b.Kind==25)=true then[99,97,116,99,104]::[40]::x.Name::[41]::(tkN b).st else[])++(if(d.Kind==25)=true then[102,105,110,97,108,108,121]::(tkN d).st else[]))):=by
  rw[zMI h,hL,tk0,tk1,tk2,zdF,zdF]
 refine⟨λr=>?_,λr hf=>?_⟩
 ·rw[hst];exact zep C _ _ (by decide) (by decide)
 ·rw[hst,zbk,yI,zbu,yE,zbu,yE]
  have hF:zGW (T c (if(d.Kind==25)=true then[102,105,110,97,108,108,121]::(tkN d).st else[])++r) (d,r):=by
   rcases hd with D|D
   ·rw[D.kind];exact zUo (t:=c [102,105,110,97,108,108,121]::(T c (tkN d).st++r)) (by rw[of.is];decide) (D.bl r)
   ·rw[D];exact zLu hf.fin
  have hC:zGE (T c (if(b.Kind==25)=true then[99,97,116,99,104]::[40]::x.Name::[41]::(tkN b).st else[])++(T c (if(d.Kind==25)=true then[102,105,110,97,108,108,121]::(tkN d).st else[])++r)) ((x.Name,b),T c (if(d.Kind==25)=true then[102,105,110,97,108,108,121]::(tkN d).st else[])++r):=by
   have hnm:=(zaT ho).1;unfold zI at hnm;rw[h,hL]at hnm;have hnm:(if(b.Kind==25)=true then zaP x.Name else x.Name==([]:Str))=true:=hnm;rcases hb with B|B
   ·rw[B.kind]at hnm⊢;obtain⟨k1,k2⟩:=C.name x.Name hnm;have:=zUg (t:=c [99,97,116,99,104]::c [40]::c x.Name::c [41]::(T c (tkN b).st++(T c (if(d.Kind==25)=true then[102,105,110,97,108,108,121]::(tkN d).st else[])++r))) (by rw[oc.is];decide) (by show tIs [40] (c [40]::_)=true;rw[o1.is];decide) rfl k1 (by rw[o2.is];decide) (B.bl _)
    rw[k2]at this;exact this
   ·rw[B]at hnm⊢;have hnm:x.Name=[]:=eq_of_beq hnm;rw[hnm];refine zLY ?_;show tIs [99,97,116,99,104] (T c (if(d.Kind==25)=true then[102,105,110,97,108,108,121]::(tkN d).st else[])++r)=false;rcases hd with D|D
    ·rw[D.kind];show tIs [99,97,116,99,104] (c [102,105,110,97,108,108,121]::_)=false;rw[of.is];decide
    ·rw[D];exact hf.cat
  have:=zTO o (A.bl _) hC hF (by
   cases e1:(d.Kind==42)with
   |false=>rfl
   |true=>
    cases e2:(b.Kind==42)with
    |false=>rfl
    |true=>exact absurd ⟨eq_of_beq e2,eq_of_beq e1⟩ hno)
  rw[<-e]at this;exact this
theorem zLz: ∀(ls:List Node) (e:Nat),zfe ls e=true->(∀k∈ls,CS c k)->∀r,CASES (decide (e=0)) (T c (zad (tkL ls))++c [125]::r) (ls,r):=by
 have ob:=zao C (w:=[125]) (by decide);have od:=zao C (w:=[100,101,102,97,117,108,116]) (by decide);have oc:=zao C (w:=[99,97,115,101]) (by decide);have o:=zao C (w:=[58]) (by decide)
 have hst: ∀k a l,CS c k->k.L=a::l->(tkN k).st=(if(a.Kind !=42)=true then[99,97,115,101]else[100,101,102,97,117,108,116])::(zaJ (tkN a) 0 false++([58]::zad (tkL l))):=by
  intro k a l K hL;have hk:k.Kind=37:=by rw[K.eq];rfl
  rw[zL4 hk,hL,tk0,tkT,zdF];simp
 have hend: ∀(ls:List Node) (r:zB),(∀k∈ls,CS c k)->(zbs [[99,97,115,101],[100,101,102,97,117,108,116],[125]] (T c (zad (tkL ls))++c [125]::r)||zaa (T c (zad (tkL ls))++c [125]::r)==0)=true/\zrp (T c (zad (tkL ls))++c [125]::r):=by
  intro ls r h;rcases ls with _| ⟨k,l⟩
  ·show(zbs _ (c [125]::r)||zaa (c [125]::r)==0)=true/\zrp (c [125]::r);exact⟨by rw[ob.any];rfl,ob.zfn _ (by decide)⟩
  ·have K:=h k qz7;obtain⟨a,q,hL,_⟩:=K.ex;have e:zad (tkL (k::l))=(tkN k).st++zad (tkL l):=by simp[zad,tkL]
   rw[e,hst k a q K hL];cases a.Kind !=42 with
   |true=>
    show(zbs _ (c [99,97,115,101]::_)||zaa (c [99,97,115,101]::_)==0)=true/\zrp (c [99,97,115,101]::_);exact⟨by rw[oc.any];rfl,oc.zfn _ (by decide)⟩
   |false=>
    show(zbs _ (c [100,101,102,97,117,108,116]::_)||zaa (c [100,101,102,97,117,108,116]::_)==0)=true/\zrp (c [100,101,102,97,117,108,116]::_);exact⟨by rw[od.any];rfl,od.zfn _ (by decide)⟩
 intro ls;induction ls with
 |nil=>intro e _ _ r;exact zJB (t:=c [125]::r) (by rw[ob.is];decide)
 |cons k l ih=>
  intro e he hk r;have K:=hk k qz7;have hl:=λq hq=>hk q (qz8 _ hq)
  obtain⟨a,q,hL,ha,hs⟩:=K.ex;simp only[zfe,qz4]at he;have e1:zad (tkL (k::l))=(tkN k).st++zad (tkL l):=by simp[zad,tkL]
  have ek:=K.eq;rw[hL]at ek;obtain⟨n1,n2⟩:=hend l r hl;have hB:=zN2 q hs _ n1 n2;rw[e1,hst k a q K hL];simp only[zbk,zbu,yI,yE];rcases ha with ha| ⟨ha,R⟩
  ·have hc:ztA k=true:=by unfold ztA;rw[hL,ha];rfl
   rw[hc]at he;have he:=he.2;simp only[yB]at he;have:=zG3 he;obtain rfl:e=0:=by omega
   rw[zxE (by rw[ha];rfl)]
   have hr:=ih 1 he hl r;rw[ha];have:=zDn (t:=c [100,101,102,97,117,108,116]::(T c []++c [58]::(T c (zad (tkL q))++(T c (zad (tkL l))++c [125]::r)))) (by rw[od.is];decide) (by rw[od.is];decide) (by show tIs [58] (c [58]::_)=true;rw[o.is];decide) hB hr
   have ek2:nd 37 (nd 42 []::q)=k:=by rw[ek,ha]
   rw[ek2]at this;exact this
  ·have hc:ztA k=false:=by unfold ztA;rw[hL];exact(zq1 ha).1
   rw[hc]at he;have he:=he.2;simp only[qz2,yA]at he;have hr:=ih e he hl r;rw[zqD ha,(zq1 ha).2.2];have:=zIP (o:=decide (e=0)) (t:=c [99,97,115,101]::(T c (atT (tkN a) 0 false)++c [58]::(T c (zad (tkL q))++(T c (zad (tkL l))++c [125]::r)))) (by rw[oc.is];decide) (by rw[oc.is,show(([99,97,115,101]:Str)==[100,101,102,97,117,108,116])=false by decide,Bool.and_false]) (by rw[oc.is];decide) (at_end C R false [58] _ (by decide) (by decide) 0) (by rw[o.is];decide) hB hr
   rw[show nd 37 (a::q)=k from ek.symm]at this;exact this
theorem zWK{x a:Node}{l:List Node}(h:x.Kind=36)(ho:zX x=true)(hL:x.L=a::l)(R:RT c a)(hc:zfe l 0=true)(hk: ∀k∈l,CS c k):SR c x:=by
 have o:=zao C (w:=[115,119,105,116,99,104]) (by decide);have ob:=zao C (w:=[123]) (by decide);have e:=zej h ho (by decide) (by decide);rw[hL]at e;have hst:(tkN x).st=[115,119,105,116,99,104]::(([40]::(atT (tkN a) 0 false++[[41]]))++([123]::(zad (tkL l)++[[125]]))):=by rw[zLK h,hL,tk0,tkT];simp[zc6]
 refine⟨λr=>?_,λr hf=>?_⟩
 ·rw[hst];exact zep C _ _ (by decide) (by decide)
 ·have e2:T c (tkN x).st++r=c [115,119,105,116,99,104]::(T c ([40]::(atT (tkN a) 0 false++[[41]]))++c [123]::(T c (zad (tkL l))++c [125]::r)):=by rw[hst];simp[T]
  rw[e2];have:=zML o (zoY C R (c [123]::(T c (zad (tkL l))++c [125]::r))) (by rw[ob.is];decide) (zLz C l 0 hc hk r)
  rw[<-e]at this;exact this
end
section
variable {g:zi} {n:Nat}
theorem zPG(G:zbB g n)(y:Node)(l:List Str)(hd:20*zY y+14<=n+1)(h:y.Kind=24)(hm:zan y=true)(hb:zJ y<=2097152)(hlen:l.length+(tkN y).st.length<=274877906944):zah g y false l=some (false,l++(tkN y).st,()):=by
 have a1:=zaW y;have a2:=zaF y;have hk: ∀k∈y.L,zY k<=zbe y.L/\zJ k<=zak y.L:=λk hk=>⟨zaY hk,zbc hk⟩
 rw[zC2 h,qz4]at hm;obtain⟨a,hL,h1⟩:=zdE hm.2;have ka:=hk a (by rw[hL];simp)
 have ha:=G.at_ a 0 (by omega) h1 (by omega) false l;rw[zL0 h,hL,tk0]at hlen⊢;unfold zah;simp only[zq];rw[h,hL]
 obtain⟨w,r,ht⟩: ∃w r,atT (tkN a) 0 false=w::r:=by
  cases e:atT (tkN a) 0 false with
  |nil=>exact absurd e (zRJ h1 0 false)
  |cons w r=>exact⟨w,r,rfl⟩
 rw[ht]at hlen ha⊢
 have hge:zT (l++w::r) ((l.length:Nat):Int)=some w:=by
  rw[zjz];simp
 have e: ∀r:Bool×List Str×Unit,r=(false,l++w::r.2.1.drop (l.length+1),())->True:=λ_ _=>trivial
 clear e
 have hgo: ∀l2:List Str,l2=l++w::r->(Option.bind (zT l2 ((l.length:Nat):Int)) λ_=>Option.bind (zT l2 ((l.length:Nat):Int)) λx_5=>
   if(x_5==[123]||x_5==[102,117,110,99,116,105,111,110])=true then
    Option.bind (zhW ((l.length:Nat):Int) l2 ([[40]]:List Str)) λr_7=>Option.bind (room (r_7.1.length+([[41]]:List Str).length)) λ_=>Option.bind (zn ([[59]]:List Str) false (r_7.1++[[41]])) λr_9=>some (r_9.1,r_9.2.1,())
   else Option.bind (zn ([[59]]:List Str) false l2) λr_10=>some (r_10.1,r_10.2.1,()))=some (false,l++(zjb (w::r)++[[59]]),()):=by
  intro l2 e2;rw[e2,hge];simp only[qz1];unfold zjb at hlen⊢;by_cases hc:(w==[123]||w==[102,117,110,99,116,105,111,110])=true
  ·have hc2:(w==([123]:Str)||w==([102,117,110,99,116,105,111,110]:Str))=true:=hc;simp only[hc2,yB]at hlen⊢;rw[zOd _ _ _ (by simp) (by simp) (by simp only[qz5,qz3,qz6]at hlen⊢;omega)]
   simp only[qz1];have e3:(l++w::r).take l.length++([[40]]++(l++w::r).drop l.length)=l++([40]::w::r):=by simp
   rw[e3,zd1 (by simp only[qz5,qz3,qz6]at hlen⊢;omega)]
   simp only[qz1];rw[zau _ _ _ (by simp only[qz5,qz3,qz6]at hlen⊢;omega)]
   simp
  ·have hc2: ¬(w==([123]:Str)||w==([102,117,110,99,116,105,111,110]:Str))=true:=hc;simp only[hc2,qz2,yA]at hlen⊢;rw[zau _ _ _ (by simp only[qz5,qz3,qz6]at hlen⊢;omega)]
   simp
 show Option.bind (g.zF a 0 false l) (λq=>Option.bind (zT q.2.1 ((l.length:Nat):Int)) λ_=>Option.bind (zT q.2.1 ((l.length:Nat):Int)) λx_5=>
   if(x_5==[123]||x_5==[102,117,110,99,116,105,111,110])=true then
    Option.bind (zhW ((l.length:Nat):Int) q.2.1 ([[40]]:List Str)) λr_7=>Option.bind (room (r_7.1.length+([[41]]:List Str).length)) λ_=>Option.bind (zn ([[59]]:List Str) q.1 (r_7.1++[[41]])) λr_9=>some (r_9.1,r_9.2.1,())
   else Option.bind (zn ([[59]]:List Str) q.1 q.2.1) λr_10=>some (r_10.1,r_10.2.1,()))=_
 rw[ha (by
  unfold zjb at hlen;dsimp only at hlen;split at hlen
  ·simp only[qz5,qz3,qz6]at hlen⊢;omega
  ·simp only[qz5,qz3,qz6]at hlen⊢;omega)]
 exact hgo _ rfl
theorem zQN(G:zbB g n)(y:Node)(l:List Str)(hd:20*zY y+14<=n+1)(h:y.Kind=35)(hm:zan y=true)(hb:zJ y<=2097152)(hlen:l.length+(tkN y).st.length<=274877906944):zah g y false l=some (false,l++(tkN y).st,()):=by
 have a1:=zaW y;have a2:=zaF y;have hk: ∀k∈y.L,zY k<=zbe y.L/\zJ k<=zak y.L:=λk hk=>⟨zaY hk,zbc hk⟩
 rw[zDi h,qz4]at hm;obtain⟨a,b,c,hL,h1,h2,h3,_⟩:=zHo hm.2;have ka:=hk a (by rw[hL];simp);have kb:=hk b (by rw[hL];simp);have kc:=hk c (by rw[hL];simp)
 rw[zMI h,hL,tk0,tk1,tk2,zdF,zdF]at hlen⊢
 have hj: ∀l:List Str,l.length+(if(c.Kind==25)=true then[102,105,110,97,108,108,121]::(tkN c).st else[]).length<=274877906944->zdg g [a,b,c] false l=some (false,l++(if(c.Kind==25)=true then[102,105,110,97,108,108,121]::(tkN c).st else[]),()):=by
  intro l hlen;unfold zdg;simp only[zRv,qz1,zq];rcases zzI h3 with⟨e,ho⟩|e
  ·rw[e]at hlen⊢;simp only[beq_self_eq_true,yB]at hlen⊢;rw[zau _ _ _ (by simp only[qz5,qz3,qz6]at hlen⊢;omega)]
   simp only[qz1];rw[G.stmt c _ (by omega) (ziW ho) (by omega) (by simp only[qz5,qz3,qz6]at hlen⊢;omega)]
   simp
  ·rw[e];show some (false,l,())=some (false,l++[],());simp
 unfold zah;simp only[zq];rw[h,hL];show Option.bind (zn [[116,114,121]] false l) (λr=>Option.bind (g.zai a r.1 r.2.1) λr=>if(b.Kind==25)=true then Option.bind (zn [[99,97,116,99,104],[40],y.Name,[41]] r.1 r.2.1) λr=>Option.bind (g.zai b r.1 r.2.1) λr=>zdg g [a,b,c] r.1 r.2.1 else zdg g [a,b,c] r.1 r.2.1)=_;rw[zau _ _ _ (by simp only[qz5,qz3,qz6]at hlen⊢;omega)]
 simp only[qz1];rw[G.stmt a _ (by omega) (ziW h1) (by omega) (by simp only[qz5,qz3,qz6]at hlen⊢;omega)]
 simp only[qz1];rcases zzI h2 with⟨e,ho⟩|e
 ·rw[e]at hlen⊢;simp only[beq_self_eq_true,yB]at hlen⊢;rw[zau _ _ _ (by simp only[qz5,qz3,qz6]at hlen⊢;omega)]
  simp only[qz1];rw[G.stmt b _ (by omega) (ziW ho) (by omega) (by simp only[qz5,qz3,qz6]at hlen⊢;omega)]
  simp only[qz1];rw[hj _ (by simp only[qz5,qz3,qz6]at hlen⊢;omega)]
  simp
 ·rw[e]at hlen⊢;have e1:((42:Int)==25)=false:=rfl;simp only[e1,qz2,yA,List.nil_append]at hlen⊢;rw[hj _ (by simp only[qz5,qz3,qz6]at hlen⊢;omega)]
  simp
theorem zP7(G:zbB g n)(y:Node)(l:List Str)(hd:20*zY y+14<=n+1)(h:y.Kind=26)(hm:zan y=true)(hb:zJ y<=2097152)(hlen:l.length+(tkN y).st.length<=274877906944):zah g y false l=some (false,l++(tkN y).st,()):=by
 have a1:=zaW y;have a2:=zaF y;have hk: ∀k∈y.L,zY k<=zbe y.L/\zJ k<=zak y.L:=λk hk=>⟨zaY hk,zbc hk⟩
 rw[zzM h,qz4]at hm;rcases zMw hm.2 with⟨a,b,hL,h1,h2⟩| ⟨a,b,c,hL,h1,h2,h3⟩
 ·have ka:=hk a (by rw[hL];simp);have kb:=hk b (by rw[hL];simp)
  rw[zAB h,hL,tk0,tk1,zQy]at hlen⊢;unfold zah;simp only[zq];rw[h,hL];show Option.bind (g.za9 [105,102] a false l) (λr=>Option.bind (g.zai b r.1 r.2.1) λr=>some (r.1,r.2.1,()))=_;rw[G.head a _ _ (by omega) h1 (by omega) (by simp only[qz5,qz3,qz6]at hlen⊢;omega)]
  simp only[qz1];rw[G.stmt b _ (by omega) (ziW h2) (by omega) (by simp only[qz5,qz3,qz6]at hlen⊢;omega)]
  simp
 ·have ka:=hk a (by rw[hL];simp);have kb:=hk b (by rw[hL];simp);have kc:=hk c (by rw[hL];simp)
  rw[zAB h,hL,tk0,tk1,tk2]at hlen⊢;unfold zah;simp only[zq];rw[h,hL];show Option.bind (g.za9 [105,102] a false l) (λr=>Option.bind (g.zai b r.1 r.2.1) λr=>Option.bind (zn [[101,108,115,101]] r.1 r.2.1) λr=>Option.bind (g.zai c r.1 r.2.1) λr=>some (r.1,r.2.1,()))=_;rw[G.head a _ _ (by omega) h1 (by omega) (by simp only[qz5,qz3,qz6]at hlen⊢;omega)]
  simp only[qz1];rw[G.stmt b _ (by omega) (ziW h2) (by omega) (by simp only[qz5,qz3,qz6]at hlen⊢;omega)]
  simp only[qz1];rw[zau _ _ _ (by simp only[qz5,qz3,qz6]at hlen⊢;omega)]
  simp only[qz1];rw[G.stmt c _ (by omega) (ziW h3) (by omega) (by simp only[qz5,qz3,qz6]at hlen⊢;omega)]
  simp
theorem zQk(G:zbB g n)(y:Node)(l:List Str)(hd:20*zY y+14<=n+1)(h:y.Kind=37)(hm:zan y=true)(hb:zJ y<=2097152)(hlen:l.length+(tkN y).st.length<=274877906944):zah g y false l=some (false,l++(tkN y).st,()):=by
 have a1:=zaW y;have a2:=zaF y;have hk: ∀k∈y.L,zY k<=zbe y.L/\zJ k<=zak y.L:=λk hk=>⟨zaY hk,zbc hk⟩
 rw[zCO h,qz4]at hm;obtain⟨a,r,hL,h1,h2⟩:=zhX hm.2;have ka:=hk a (by rw[hL];simp)
 have kr:zbe r<=zbe y.L:=by rw[hL,znv];omega
 have kr2:zak r<=zak y.L:=by rw[hL];simp[zak]
 rw[zL4 h,hL,tk0,tkT,zdF]at hlen⊢
 have hj: ∀w:Str,l.length+(w::zaJ (tkN a) 0 false++([58]::zad (tkL r))).length<=274877906944->zdl g (a::r) w false l=some (false,l++(w::zaJ (tkN a) 0 false++([58]::zad (tkL r))),()):=by
  intro w hlen;unfold zdl;rw[zau _ _ _ (by simp only[qz5,qz3,qz6]at hlen⊢;omega)]
  simp only[qz1,zDK,zq];rw[G.begin_ a 0 (by omega) (zq2 h1) (by omega) false _ (by simp only[qz5,qz3,qz6]at hlen⊢;omega)]
  simp only[qz1];rw[zau _ _ _ (by simp only[qz5,qz3,qz6]at hlen⊢;omega)]
  rw[zQu];simp only[qz1];rw[G.stmts r _ (by omega) (λk hk=>zBI (h2 k hk)) (by omega) (by simp only[qz5,qz3,qz6]at hlen⊢;omega)]
  simp
 unfold zah;simp only[zq];rw[h,hL];show(if(a.Kind !=42)=true then zdl g (a::r) [99,97,115,101] false l else zdl g (a::r) [100,101,102,97,117,108,116] false l)=_;cases hc:a.Kind !=42 with
 |true=>
  rw[hc]at hlen;exact hj _ hlen
 |false=>
  rw[hc]at hlen;exact hj _ hlen
theorem zVD(G:zbB g n)(y:Node)(l:List Str)(hd:20*zY y+14<=n+1)(ho:zhO y=true)(hb:zJ y<=2097152)(hlen:l.length+(tkN y).st.length<=274877906944):zah g y false l=some (false,l++(tkN y).st,()):=by
 have a1:=zaW y;have a2:=zaF y;have hk: ∀k∈y.L,zY k<=zbe y.L/\zJ k<=zak y.L:=λk hk=>⟨zaY hk,zbc hk⟩
 obtain⟨hm,hK⟩:=zMk ho
 have hloop:27<=y.Kind->y.Kind<=30->Option.bind (g.zcb y false l) (λr=>some (r.1,r.2.1,()))=some (false,l++(tkN y).st,()):=λh1 h2=>by
  rw[G.loop y l (by omega) h1 h2 hm hb hlen];rfl
 have hword:(y.Kind=31\/y.Kind=32\/y.Kind=33\/y.Kind=34\/y.Kind=40)->Option.bind (g.zdy y false l) (λr=>some (r.1,r.2.1,()))=some (false,l++(tkN y).st,()):=λh1=>by
  rw[G.word y l (by omega) h1 hm hb hlen];rfl
 rcases hK with h|h|h|h|h|h|h|h|h|h|h|h|h|h|h|h|h|h
 ·rw[zGA h]at hlen⊢;have e:zaJ (tkN y) 0 false=[118,97,114]::commas (declT false) (tkL y.L):=by unfold zaJ;rw[zdF,zjE,h];rfl
  rw[<-e]at hlen⊢;unfold zah;simp only[zq];rw[h];show Option.bind (g.za8 y 0 false l) (λr=>Option.bind (zn [[59]] r.1 r.2.1) λr=>some (r.1,r.2.1,()))=_;rw[G.begin_ y 0 (by omega) (zIY h hm) hb false l (by simp only[qz5,qz3,qz6]at hlen⊢;omega)]
  simp only[qz1];rw[zau _ _ _ (by simp only[qz5,qz3,qz6]at hlen⊢;omega)]
  simp
 ·exact zPG G y l hd h hm hb hlen
 ·rw[zDz h,qz4]at hm;rw[zCu h]at hlen⊢;unfold zah;simp only[zq];rw[h];show Option.bind (zn [[123]] false l) (λr=>Option.bind (g.zaZ y.L r.1 r.2.1) λr=>Option.bind (zn [[125]] r.1 r.2.1) λr=>some (r.1,r.2.1,()))=_;rw[zau _ _ _ (by simp only[qz5,qz3,qz6]at hlen⊢;omega)]
  simp only[qz1];rw[G.stmts y.L _ (by omega) (λk hk=>zBI (zfA hm.2 k hk)) (by omega) (by simp only[qz5,qz3,qz6]at hlen⊢;omega)]
  simp only[qz1];rw[zau _ _ _ (by simp only[qz5,qz3,qz6]at hlen⊢;omega)]
  simp
 ·exact zP7 G y l hd h hm hb hlen
 ·have:=hloop (by omega) (by omega);unfold zah;simp only[zq];rw[h];exact this
 ·have:=hloop (by omega) (by omega);unfold zah;simp only[zq];rw[h];exact this
 ·have:=hloop (by omega) (by omega);unfold zah;simp only[zq];rw[h];exact this
 ·have:=hloop (by omega) (by omega);unfold zah;simp only[zq];rw[h];exact this
 ·have:=hword (by omega);unfold zah;simp only[zq];rw[h];exact this
 ·have:=hword (by omega);unfold zah;simp only[zq];rw[h];exact this
 ·have:=hword (by omega);unfold zah;simp only[zq];rw[h];exact this
 ·have:=hword (by omega);unfold zah;simp only[zq];rw[h];exact this
 ·exact zQN G y l hd h hm hb hlen
 ·rw[zCB h,qz4]at hm;obtain⟨a,r,hL,h1,h2⟩:=zzL hm.2;have ka:=hk a (by rw[hL];simp)
  have kr:zbe r<=zbe y.L:=by rw[hL,znv];omega
  have kr2:zak r<=zak y.L:=by rw[hL];simp[zak]
  rw[zLK h,hL,tk0,tkT]at hlen⊢;unfold zah;simp only[zq];rw[h,hL];show Option.bind (g.za9 [115,119,105,116,99,104] a false l) (λq=>Option.bind (zn [[123]] q.1 q.2.1) λq=>Option.bind (zaQ (a::r) 1 (((a::r).length:Nat):Int)) λs=>Option.bind (g.zaZ s q.1 q.2.1) λq=>Option.bind (zn [[125]] q.1 q.2.1) λq=>some (q.1,q.2.1,()))=_;rw[G.head a _ _ (by omega) h1 (by omega) (by simp only[qz5,qz3,qz6]at hlen⊢;omega)]
  simp only[qz1];rw[zau _ _ _ (by simp only[qz5,qz3,qz6]at hlen⊢;omega),zQu]
  simp only[qz1];rw[G.stmts r _ (by omega) (λk hk=>zVP (zsp h2 k hk)) (by omega) (by simp only[qz5,qz3,qz6]at hlen⊢;omega)]
  simp only[qz1];rw[zau _ _ _ (by simp only[qz5,qz3,qz6]at hlen⊢;omega)]
  simp
 ·exact zQk G y l hd h hm hb hlen
 ·rw[zDH h,qz4]at hm;obtain⟨a,hL,h1⟩:=zdE hm.2;have ka:=hk a (by rw[hL];simp)
  rw[zMP h,hL,tk0]at hlen⊢;unfold zah;simp only[zq];rw[h,hL];show Option.bind (zn [y.Name,[58]] false l) (λr=>Option.bind (g.zai a r.1 r.2.1) λr=>some (r.1,r.2.1,()))=_;rw[zau _ _ _ (by simp only[qz5,qz3,qz6]at hlen⊢;omega)]
  simp only[qz1];rw[G.stmt a _ (by omega) (zBI h1) (by omega) (by simp only[qz5,qz3,qz6]at hlen⊢;omega)]
  simp
 ·rw[zDq h,qz4]at hm;rw[zLM h]at hlen⊢;unfold zah;simp only[zq];rw[h];show Option.bind (g.zbw y false l) (λr=>some (r.1,r.2.1,()))=_;rw[G.func y (by omega) (λk hk=>zCh (zfA hm.2 k hk)) hb false l hlen];rfl
 ·have:=hword (by omega);unfold zah;simp only[zq];rw[h];exact this
end
theorem zOn: ∀n:Nat,zbB (zA n) n
 |0=>⟨by intros;omega,by intros;omega,by intros;omega,by intros;omega,by intros;omega,by intros;omega,by intros;omega,by intros;omega,by intros;omega,by intros;omega,by intros;omega,by intros;omega,by intros;omega,by intros;omega,by intros;omega,by intros;omega,by intros;omega,by intros;omega,by intros;omega,by intros;omega,by intros;omega,by intros;omega,by intros;omega,by intros;omega,by intros;omega⟩
 |n+1=>
  have G:=zOn n
  ⟨w_at G,zPs G,zW1 G,zVY G,zXc G,zUF G,zWk G,zV9 G,zUz G,zUI G,zVw G,zTp G,zXB G,zXn G,zU6 G,zWh G,zVo G,zWt G,zVc G,zVj G,zSS G,zUB G,zUC G,zVD G,zTt G⟩
theorem zJv(ls:List Node)(hk: ∀k∈ls,zhO k=true)(hb:zak ls<=2097152)(hd:zbe ls<=10000000)(hlen:(zad (tkL ls)).length<=274877906944):zaZ ls false []=some (false,zad (tkL ls),()):=by
 have:=(zOn 1000000000000).stmts ls [] (by omega) hk hb (by simpa using hlen);rw[List.nil_append]at this;exact this
noncomputable section
def wt(l:List Str):Nat:=(l.map λs=>s.length+1).sum
theorem zld:wt []=0:=rfl
theorem zd2(s:Str)(l:List Str):wt (s::l)=s.length+1+wt l:=by simp[wt]
theorem zkI(a b:List Str):wt (a++b)=wt a+wt b:=by simp[wt]
theorem zVf(l:List Str):l.length<=wt l:=zsg l
mutual
def wN:Node->Nat
 | ⟨_,n,m,t,ns,l⟩=>n.length+(zdr t).length+(Lib.itoa m).length+(ns.map λs=>s.length+3).sum+100+wL l
def wL:List Node->Nat
 | []=>0
 |x::r=>wN x+wL r
end
theorem zxe(x:Node):wN x=x.Name.length+(zdr x.Text).length+(Lib.itoa x.Num).length+(x.Names.map λs=>s.length+3).sum+100+wL x.L:=by cases x;simp[wN]
theorem zeB(x:Node)(r:List Node):wL (x::r)=wN x+wL r:=by simp[wL]
theorem zHm(x:Node)(ls:Str): ∀(l:List Node) (i e:Nat),zia x ls (zjT l) i e=true->∀k∈l,zan k=true
 | [],_,_,_,k,hk=>by cases hk
 |y::r,i,e,h,k,hk=>by
  simp only[zjT,zia]at h;split at h
  · cases h
  · simp only[qz4]at h;rcases yP.1 hk with rfl|hk
    · exact h.1.2
    · exact zHm x ls r _ _ h.2 k hk
theorem zzG{x:Node}(h:zan x=true):zaL x.Text=true/\∀k∈x.L,zan k=true:=by
 rw[zow]at h;unfold zwq at h;split at h
 ·cases h
 ·simp only[qz4,zti]at h;exact⟨h.1.1.2.1.1.1,zHm x _ _ _ _ h.2⟩
theorem zM3: ∀l:List Str,(l.map λs=>s.length+3).sum<=3*(l.map λs=>s.length+1).sum
 | []=>by simp
 |x::r=>by simp only[List.map_cons,List.sum_cons];have:=zM3 r;omega
theorem zF6(s:Str)(hs:s.length<=100000000)(he:zaL s=true):(zdr s).length<=3*s.length+2:=by
 have h1:=zoE s hs he;have h2:=zzF s hs he;rw[h1]at h2;simp only[Option.some.injEq,Prod.mk.injEq]at h2;rw[<-h2.1];exact zIk s
theorem zFw{x:Node}(h:okN x):i64 x.Num/\okL x.L:=by
 cases x;simp only[okN]at h;exact h.2
mutual
theorem zS6: ∀x:Node,okN x->zan x=true->zJ x<=100000000->wN x<=30*zJ x
 | ⟨k,n,m,t,ns,l⟩,ho,hm,hb=>by
  obtain⟨h1,h2⟩:=zzG hm;obtain⟨h3,h4⟩:=zFw ho;have b:=zaF ⟨k,n,m,t,ns,l⟩;have w:=zxe ⟨k,n,m,t,ns,l⟩;simp only at h1 h2 h3 h4 b w;have hL:=zE0 l h4 h2 (by omega);have hq:=zF6 t (by omega) h1;have hi:=Lib.itoa_length_le m h3.1 (by have:=h3.2;omega)
  have hs:=zM3 ns;omega
theorem zE0: ∀l:List Node,okL l->(∀k∈l,zan k=true)->zak l<=100000000->wL l<=30*zak l
 | [],_,_,_=>by simp[wL]
 |x::r,ho,hm,hb=>by
  simp only[okL]at ho;simp only[zak]at hb⊢;rw[zeB];have:=zS6 x ho.1 (hm x qz7) (by omega);have:=zE0 r ho.2 (λk hk=>hm k (qz8 _ hk)) (by omega);omega
end
structure Few (y:Node):Prop where
 ex: ∀no,wt ((tkN y).ex no)+8<=wN y
 st:wt (tkN y).st+8<=wN y
 item: ∀no,wt (zaj no (tkN y))+4<=wN y
 decl: ∀no,wt (declT no (tkN y))+4<=wN y
 beg: ∀least no,wt (zaJ (tkN y) least no)+4<=wN y
theorem ziV{y:Node}(h: ∀no,wt ((tkN y).ex no)+8<=wN y)(least:Int)(no:Bool):wt (atT (tkN y) least no)+4<=wN y:=by
 unfold atT;have h1:=h false;have h2:=h no;split
 ·simp only[zd2,zkI,zld,qz3,qz6];omega
 ·omega
theorem zC5(ls:List Node)(f:Tk->List Str)(h: ∀k∈ls,wt (f (tkN k))<=wN k):wt (k0 (tkL ls) f)<=wL ls:=by
 rcases ls with _| ⟨a,r⟩
 ·simp[tkL,k0,wt]
 ·rw[tk0,zeB];have:=h a qz7;omega
theorem zPA(ls:List Node)(f:Node->List Str)(h: ∀k∈ls,wt (f k)+4<=wN k):wt (ls.flatMap λq=>[44]::f q)<=wL ls:=by
 induction ls with
 |nil=>simp[wt,wL]
 |cons a r ih=>
  have:=ih λk hk=>h k (qz8 _ hk)
  have:=h a qz7;rw[List.flatMap_cons,zkI,zd2,zeB];simp only[qz3,qz6];omega
theorem zqN(ls:List Node)(f:Tk->List Str)(h: ∀k∈ls,wt (f (tkN k))+4<=wN k):wt (commas f (tkL ls))<=wL ls:=by
 rw[zz3];rcases ls with _| ⟨a,r⟩
 ·simp[zk4,wt]
 ·have:=zPA r (λy=>f (tkN y)) λk hk=>h k (qz8 _ hk)
  have:=h a qz7;simp only[zk4,zkI];rw[zeB];omega
theorem zsa(ls:List Node)(f:Tk->List Str)(h: ∀k∈ls,wt (f (tkN k))+4<=wN k):wt ((tkL ls).flatMap f)<=wL ls:=by
 induction ls with
 |nil=>simp[wt,wL,tkL]
 |cons a r ih=>
  have:=ih λk hk=>h k (qz8 _ hk)
  have:=h a qz7;rw[show tkL (a::r)=tkN a::tkL r by simp[tkL],List.flatMap_cons,zkI,zeB];omega
theorem zrY(ls:List Node)(f0 f1 f2 f3:Tk->List Str)(p q r s:Nat)(h: ∀k∈ls,wt (f0 (tkN k))<=wN k+p/\wt (f1 (tkN k))<=wN k+q/\wt (f2 (tkN k))<=wN k+r/\wt (f3 (tkN k))<=wN k+s):
  wt (k0 (tkL ls) f0)+(wt (k1 (tkL ls) f1)+(wt (k2 (tkL ls) f2)+wt (k3 (tkL ls) f3)))<=wL ls+p+q+r+s:=by
 rcases ls with _| ⟨a,_| ⟨b,_| ⟨c,_| ⟨d,l⟩⟩⟩⟩
 ·simp[tkL,k0,k1,k2,k3,wt]
 ·have:=(h a (by simp)).1;rw[tk0,zeB];simp only[tkL,k1,k2,k3,zld];omega
 ·have:=(h a (by simp)).1;have:=(h b (by simp)).2.1;rw[tk0,tk1,zeB,zeB];simp only[tkL,k2,k3,zld];omega
 ·have:=(h a (by simp)).1;have:=(h b (by simp)).2.1;have:=(h c (by simp)).2.2.1;rw[tk0,tk1,tk2,zeB,zeB,zeB];simp only[tkL,k3,zld];omega
 ·have:=(h a (by simp)).1;have:=(h b (by simp)).2.1;have:=(h c (by simp)).2.2.1;have:=(h d (by simp)).2.2.2;rw[tk0,tk1,tk2,tk3,zeB,zeB,zeB,zeB];omega
theorem zVR(ls:List Node)(f0 f1 f2 f3:Tk->List Str)(h: ∀k∈ls,wt (f0 (tkN k))<=wN k/\wt (f1 (tkN k))<=wN k/\wt (f2 (tkN k))<=wN k/\wt (f3 (tkN k))<=wN k):
  wt (k0 (tkL ls) f0)+(wt (k1 (tkL ls) f1)+(wt (k2 (tkL ls) f2)+wt (k3 (tkL ls) f3)))<=wL ls:=zrY ls f0 f1 f2 f3 0 0 0 0 h
theorem zEj(ls:List Node)(f g:Tk->List Str)(h: ∀k∈ls,wt (f (tkN k))<=wN k)(hg: ∀k∈ls,wt (g (tkN k))+4<=wN k):wt (k0 (tkL ls) f)+wt (commas g (tkL ls).tail)<=wL ls:=by
 rcases ls with _| ⟨a,r⟩
 ·simp[tkL,k0,commas,wt]
 ·have:=zqN r g λk hk=>hg k (qz8 _ hk)
  have:=h a qz7;rw[tk0,tkT,zeB];omega
theorem zxH(ls:List Node)(f g:Tk->List Str)(p:Nat)(h: ∀k∈ls,wt (f (tkN k))<=wN k+p)(hg: ∀k∈ls,wt (g (tkN k))+4<=wN k):wt (k0 (tkL ls) f)+wt ((tkL ls).tail.flatMap g)<=wL ls+p:=by
 rcases ls with _| ⟨a,r⟩
 ·simp[tkL,k0,wt]
 ·have:=zsa r g λk hk=>hg k (qz8 _ hk)
  have:=h a qz7;rw[tk0,tkT,zeB];omega
theorem zOL(ns:List Str):wt (namesT ns)<=(ns.map λs=>s.length+3).sum:=by
 have key: ∀r:List Str,wt (r.flatMap λq=>[[44],q])<=(r.map λs=>s.length+3).sum:=by
  intro r;induction r with
  |nil=>simp[wt]
  |cons a r ih=>rw[List.flatMap_cons,zkI];simp only[zd2,zld,List.map_cons,List.sum_cons,qz3,qz6];omega
 rcases ns with _| ⟨a,r⟩
 ·simp[namesT,wt]
 ·have:=key r;simp only[namesT,zd2,List.map_cons,List.sum_cons];omega
theorem zKX(s:Str):wt (if(s==([]:Str))=true then[]else[s])<=s.length+1:=by
 split
 ·simp[wt]
 ·simp[wt]
theorem zIU(x:Node)(h: ∀k∈x.L,Few k):wt (zgb x (tkL x.L))+60<=wN x:=by
 have h1:=zxe x;have h2:=zOL x.Names;have h3:=zsa x.L Tk.st λk hk=>by have:=(h k hk).st;omega
 have h4:=zKX x.Name;unfold zgb zad;simp only[zd2,zkI,zld,qz3,qz6];omega
theorem zO8(x:Node):wt (zhz x)<=x.Name.length+20:=by
 have h4:=zKX x.Name;unfold zhz;rw[zkI]
 have:wt (if(x.Kind==31)=true then[[98,114,101,97,107]]else if(x.Kind==32)=true then[[99,111,110,116,105,110,117,101]]else if(x.Kind==33)=true then[[114,101,116,117,114,110]]else if(x.Kind==34)=true then[[116,104,114,111,119]]else([]:List Str))<=10:=by
  split
  · decide
  · split
    · decide
    · split
      ·decide
      ·split<;>decide
 omega
theorem zQR(l:List Str):wt (zjb l)<=wt l+4:=by
 unfold zjb;split
 ·simp[wt]
 ·split
  · simp only[zd2,zkI,zld,qz3,qz6];omega
  · omega
theorem zPQ(w:Str)(k:Node)(h:Few k):wt (zc6 w (tkN k))<=wN k+w.length+1:=by
 have:=ziV h.ex 0 false;unfold zc6;simp only[zd2,zkI,zld,qz3,qz6];omega
theorem zEC(b:Bool):(Lib.formatBool b).length<=5:=by cases b<;>decide
theorem zKj{c:Prop}{d:Decidable c}{a b:List Str}{n m:Nat}(h1:c->wt a+n<=m)(h2: ¬c->wt b+n<=m):wt (if c then a else b)+n<=m:=by
 split
 ·exact h1 (by assumption)
 ·exact h2 (by assumption)
theorem zHK(x:Node)(h: ∀k∈x.L,Few k)(no:Bool):wt ((tkN x).ex no)+30<=wN x:=by
 have h1:=zxe x
 have A: ∀(a b c d:Int) (n1 n2 n3 n4:Bool),wt (k0 (tkL x.L) λk=>atT k a n1)+(wt (k1 (tkL x.L) λk=>atT k b n2)+(wt (k2 (tkL x.L) λk=>atT k c n3)+wt (k3 (tkL x.L) λk=>atT k d n4)))<=wL x.L:=λa b c d n1 n2 n3 n4=>
  zVR x.L _ _ _ _ λk hk=>⟨by have:=ziV (h k hk).ex a n1;omega,by have:=ziV (h k hk).ex b n2;omega,by have:=ziV (h k hk).ex c n3;omega,by have:=ziV (h k hk).ex d n4;omega⟩
 have C:wt (commas (zaj false) (tkL x.L))<=wL x.L:=zqN x.L _ λk hk=>(h k hk).item false
 have T: ∀(a:Int),wt (k0 (tkL x.L) λk=>atT k a no)+wt (commas (zaj false) (tkL x.L).tail)<=wL x.L:=λa=>zEj x.L _ _ (λk hk=>by have:=ziV (h k hk).ex a no;omega) λk hk=>(h k hk).item false
 have F:=zIU x h;have B:=zEC (x.Num==1);rw[zWo];unfold exT
 repeat' refine zKj (λ_=>?_) (λ_=>?_)
 all_goals try simp only[zd2,zkI,zld,qz3,qz6]
 all_goals first
  |omega
  | (have:=T 11;omega)
  | (have:=T 12;omega)
  | (have:=A 11 0 0 0 no false no no;omega)
  | (have:=A 9 0 0 0 no false no no;omega)
  | (have:=A 3 1 1 0 no false no no;omega)
  | (have:=A 11 1 1 0 no no no no;omega)
  | (have:=A 0 1 1 0 no no no no;omega)
  | (have:=A (tkN x).lvl ((tkN x).lvl+1) 1 0 no no no no;omega)
theorem zTN(x:Node)(h: ∀k∈x.L,Few k)(least:Int)(no:Bool):wt (zaJ (tkN x) least no)+4<=wN x:=by
 have h1:=zxe x;have h2:=ziV (y:=x) (λno=>by have:=zHK x h no;omega) least no
 have h3:wt (commas (declT no) (tkL x.L))<=wL x.L:=zqN x.L _ λk hk=>(h k hk).decl no
 unfold zaJ;rw[zjE];split
 ·simp only[zld];omega
 ·split
  · simp only[zd2,qz3,qz6];omega
  · exact h2
theorem zWb(x:Node)(h: ∀k∈x.L,Few k):wt (tkN x).st+8<=wN x:=by
 have h1:=zxe x;have D:wt (commas (declT false) (tkL x.L))<=wL x.L:=zqN x.L _ λk hk=>(h k hk).decl false
 have S:wt ((tkL x.L).flatMap Tk.st)<=wL x.L:=zsa x.L _ λk hk=>by have:=(h k hk).st;omega
 have W:=zO8 x;have F:=zIU x h;have V:wt ((tkL x.L).flatMap λk=>atT k 0 false)<=wL x.L:=zsa x.L _ λk hk=>ziV (h k hk).ex 0 false
 have B:wt (zjb (k0 (tkL x.L) λk=>atT k 0 false))<=wL x.L+4:=by
  have:=zQR (k0 (tkL x.L) λk=>atT k 0 false);have:=zC5 x.L (λk=>atT k 0 false) λk hk=>by have:=ziV (h k hk).ex 0 false;omega
  omega
 have H: ∀w:Str,w.length<=8->∀k∈x.L,wt (zc6 w (tkN k))<=wN k+9:=λw hw k hk=>by have:=zPQ w k (h k hk);omega
 have S1: ∀k∈x.L,wt (tkN k).st+8<=wN k:=λk hk=>(h k hk).st
 have B1: ∀(a:Int) (n:Bool),∀k∈x.L,wt (zaJ (tkN k) a n)<=wN k:=λa n k hk=>by have:=(h k hk).beg a n;omega
 have A1: ∀(a:Int) (n:Bool),∀k∈x.L,wt (atT (tkN k) a n)<=wN k:=λa n k hk=>by have:=ziV (h k hk).ex a n;omega
 have Z26:=zrY x.L (zc6 [105,102]) Tk.st (λk=>[101,108,115,101]::k.st) (λ_=>[]) 9 0 0 0 λk hk=>⟨H _ (by decide) k hk,by have:=S1 k hk;omega,by have:=S1 k hk;rw[zd2];simp only[qz3,qz6];omega,by simp[wt]⟩
 have Z27:=zrY x.L (zc6 [119,104,105,108,101]) Tk.st (λ_=>[]) (λ_=>[]) 9 0 0 0 λk hk=>⟨H _ (by decide) k hk,by have:=S1 k hk;omega,by simp[wt],by simp[wt]⟩
 have Z28:=zrY x.L Tk.st (zc6 [119,104,105,108,101]) (λ_=>[]) (λ_=>[]) 0 9 0 0 λk hk=>⟨by have:=S1 k hk;omega,H _ (by decide) k hk,by simp[wt],by simp[wt]⟩
 have Z29:=zrY x.L (λk=>zaJ k 0 true) (λk=>zaJ k 0 false) (λk=>zaJ k 0 false) Tk.st 0 0 0 0 λk hk=>⟨B1 _ _ k hk,B1 _ _ k hk,B1 _ _ k hk,by have:=S1 k hk;omega⟩
 have Z30:=zrY x.L (λk=>zaJ k 11 true) (λk=>atT k 0 false) Tk.st (λ_=>[]) 0 0 0 0 λk hk=>⟨B1 _ _ k hk,A1 _ _ k hk,by have:=S1 k hk;omega,by simp[wt]⟩
 have Z35:=zrY x.L Tk.st (λk=>if(k.x.Kind==25)=true then[99,97,116,99,104]::[40]::x.Name::[41]::k.st else[]) (λk=>if(k.x.Kind==25)=true then[102,105,110,97,108,108,121]::k.st else[]) (λ_=>[]) 0 (x.Name.length+10) 0 0 λk hk=>⟨by have:=S1 k hk;omega,by
  have:=S1 k hk;split
  · simp only[zd2,qz3,qz6];omega
  · simp[wt],by
  have:=S1 k hk;split
  · simp only[zd2,qz3,qz6];omega
  · simp[wt],by simp[wt]⟩
 have Z36:=zxH x.L (zc6 [115,119,105,116,99,104]) Tk.st 9 (H _ (by decide)) λk hk=>by have:=S1 k hk;omega
 have Z37:=zxH x.L (λk=>(if(k.x.Kind !=42)=true then[99,97,115,101]else[100,101,102,97,117,108,116])::zaJ k 0 false) Tk.st 9 (λk hk=>by
  have:=B1 0 false k hk;rw[zd2];have:(if((tkN k).x.Kind !=42)=true then[99,97,115,101]else[100,101,102,97,117,108,116]:Str).length<=7:=by split<;>decide
  omega) λk hk=>by have:=S1 k hk;omega
 have Z38:=zC5 x.L Tk.st λk hk=>by have:=S1 k hk;omega
 rw[show(tkN x).st=stT x (tkL x.L) by rw[za4];rfl]
 unfold stT zad
 repeat' refine zKj (λ_=>?_) (λ_=>?_)
 all_goals try simp only[zd2,zkI,zld,qz3,qz6]
 all_goals omega
theorem zPp(x:Node)(h: ∀k∈x.L,Few k)(no:Bool):wt (zaj no (tkN x))+4<=wN x:=by
 have h1:=zxe x;have h2:=ziV (y:=x) (λno=>by have:=zHK x h no;omega) 1 no
 have h3:=zC5 x.L (λk=>atT k 1 no) λk hk=>by have:=ziV (h k hk).ex 1 no;omega
 unfold zaj;rw[zjE,zdF];split
 ·simp only[zd2,qz3,qz6];omega
 ·exact h2
theorem zP6(x:Node)(h: ∀k∈x.L,Few k)(no:Bool):wt (declT no (tkN x))+4<=wN x:=by
 have h1:=zxe x;have h3:=zC5 x.L (λk=>[61]::atT k 1 no) λk hk=>by have:=ziV (h k hk).ex 1 no;rw[zd2];simp only[qz3,qz6];omega
 unfold declT;rw[zjE,zdF];simp only[zd2];omega
mutual
theorem zRD: ∀x:Node,Few x
 | ⟨k,n,m,t,ns,l⟩=>
  have h: ∀q∈(⟨k,n,m,t,ns,l⟩:Node).L,Few q:=zRj l
  ⟨λno=>by have:=zHK _ h no;omega,zWb _ h,zPp _ h,zP6 _ h,zTN _ h⟩
theorem zRj: ∀(l:List Node),∀q∈l,Few q
 | [],q,hq=>by cases hq
 |x::r,q,hq=>by
  have hx:=zRD x;rcases yP.1 hq with h|hq
  · exact h▸hx
  · exact zRj r q hq
end
theorem zMV(ls:List Node):wt (zad (tkL ls))<=wL ls:=zsa ls Tk.st λk hk=>by have:=(zRD k).st;omega
theorem zSh(l:List Str):(Lib.join l [32]).length<=wt l:=by
 rcases l with _| ⟨a,r⟩
 ·simp[Lib.join_nil,wt]
 ·rw[Lib.join_length]
  have key: ∀l:List Str,wt l=l.length+Lib.lens l:=by
    intro l;induction l with
    |nil=>rfl
    |cons a r ih=>rw[zd2,ih];simp only[Lib.lens,List.map_cons,List.sum_cons,qz3];omega
  rw[key];simp only[qz3,qz6];omega
def zlk(x:Node):Str×Int:=
 if(zkD x !=0)=true then([],zkD x)else if 4096< (Lib.join (zad (tkL x.L)) [32]).length then([],2)else(Lib.join (zad (tkL x.L)) [32],0)
theorem zHk{x:Node}(h:zkD x=0):x.Kind=41/\zan x=true/\zY x<=64:=by
 unfold zkD at h;split at h
 ·rename_i hc;rw[qz4]at hc;split at h
  · exact absurd h (by decide)
  · exact⟨eq_of_beq hc.1,hc.2,by omega⟩
 ·exact absurd h (by decide)
theorem zFx{x:Node}(h:x.Kind=41)(hm:zan x=true): ∀k∈x.L,zhO k=true:=by
 rw[zDs h,qz4]at hm;exact λk hk=>zCh (zfA hm.2 k hk)
theorem zID(x:Node)(ho:okN x)(hb:zJ x<=2097152):ztr x=some ((zlk x).1,(zlk x).2,()):=by
 unfold ztr zlk;simp only[zq,zxV x hb,qz1];cases hc:zkD x !=0 with
 |true=>rfl
 |false=>
  have hc:zkD x=0:=by simpa using hc
  obtain⟨h1,h2,h3⟩:=zHk hc;have a1:=zaW x;have a2:=zaF x;obtain⟨p1,p2⟩:=zzG h2;have w1:=zMV x.L;have w2:=zE0 x.L (zFw ho).2 p2 (by omega);have w3:=zVf (zad (tkL x.L));have w4:=zSh (zad (tkL x.L));have hw:=zJv x.L (zFx h1 h2) (by omega) (by omega) (by omega);simp only[qz2,yA,hw,qz1];unfold strings_Join;rw[yL ⟨by omega,by omega⟩];simp only[qz1];by_cases hl:4096< (Lib.join (zad (tkL x.L)) [32]).length
  · rw[yL hl,yL (by simpa using by omega)]
  · rw[yK hl,yK (by simpa using by omega)]
end
def zWF(l:List Node):Node:=⟨41,[],0,[],[],l⟩
theorem zLj(a b:Str)(r:List Str):Lib.join (a::b::r) [32]=a++([32]++Lib.join (b::r) [32]):=by
 simp[Lib.join,List.intercalate]
theorem zT8{x:Node}(h:(zlk x).2=0):x.Kind=41/\zan x=true/\zY x<=64/\(zlk x).1=Lib.join (zad (tkL x.L)) [32]/\(zlk x).1.length<=4096:=by
 unfold zlk at h⊢;split at h
 ·rename_i hc;exact absurd h (by simpa using hc)
 ·rename_i hc;rw[yK hc];have hc:zkD x=0:=by simpa using hc
  obtain⟨h1,h2,h3⟩:=zHk hc;split at h
  ·exact absurd h (by decide)
  ·rename_i hl;rw[yK hl];exact⟨h1,h2,h3,rfl,by simpa using hl⟩
theorem zRU{y:Node}(h:zu y 120=true):zu y 115= !(y.Kind==39):=by
 have h1:stK y.Kind true=true:=zec h;have h2:=za7 h;show(stK y.Kind false&&zan y)=_;rw[h2,Bool.and_true];unfold stK at h1⊢;simp only[Bool.or_true,Bool.and_true]at h1;rw[h1,Bool.true_and,Bool.or_false];rfl
section
variable (c:Str->Tok)
structure RA (x:Node):Prop where
 ex:zu x 101=true->RT c x
 st:zu x 115=true->SR c x
 fn:x.Kind=39->zan x=true->FN c x
 cs:x.Kind=37->zan x=true->CS c x
 pr:x.Kind=9->zan x=true->∃a,zDL c x a
 de:x.Kind=23->zan x=true->x=ndN 23 x.Name x.L/\zaP x.Name=true/\(x.L=[]\/∃a,x.L=[a]/\RT c a)
 vd:x.Kind=22->zan x=true->VD c x
 bk:x.Kind=25->zan x=true->BK c x
 em:x.Kind=42->zan x=true->x=nd 42 []
variable {c}
theorem RA.b{x:Node}(h:RA c x)(ho:zu x 98=true):BK c x:=h.bk (eq_of_beq (show(x.Kind==25)=true from zec ho)) (za7 ho)
theorem RA.item{x:Node}(h:RA c x)(ho:zu x 101=true):RT c x/\x.Kind≠9:=by
 refine⟨h.ex ho,λe=>?_⟩;have:=(zb8 ho).1;rw[e]at this;exact absurd this (by decide)
theorem RA.f{x:Node}(h:RA c x)(ho:zu x 102=true):x=nd 42 []\/(zci x.Kind=true/\RT c x):=by
 have h1:(zci x.Kind||x.Kind==42)=true:=zec ho;rw[yQ]at h1;rcases h1 with h1|h1
 ·exact .inr ⟨h1,h.ex (by rw[zvS,h1,za7 ho];rfl)⟩
 ·exact .inl (h.em (eq_of_beq h1) (za7 ho))
theorem RA.v{x:Node}(h:RA c x)(ho:zu x 118=true):(x.Kind=42/\x=nd 42 [])\/(x.Kind=22/\VD c x)\/(zci x.Kind=true/\RT c x):=by
 rcases zB0 (zEp ho)with h1|h1|h1
 ·exact .inl ⟨h1,h.em h1 (za7 ho)⟩
 ·exact .inr (.inl ⟨h1,h.vd h1 (za7 ho)⟩)
 ·exact .inr (.inr ⟨(zb8 h1).1,h.ex h1⟩)
theorem RA.w{x:Node}(h:RA c x)(ho:zu x 119=true):((x.Kind=22/\VD c x)\/(zci x.Kind=true/\RT c x))/\zkw x=true:=by
 have h1:(zcF x.Kind||(x.Kind==22&&(match x.L with| [d]=>d.L.isEmpty|_=>false)))=true:=zec ho;rw[yQ]at h1;rcases h1 with h1|h1
 ·have he:zci x.Kind=true:=by
   simp only[zcF,yQ,beq_iff_eq]at h1;rcases h1 with(h|h)|h<;>rw[h]<;>rfl
  refine⟨.inr ⟨he,h.ex (by rw[zvS,he,za7 ho];rfl)⟩,?_⟩
  unfold zkw;rw[(zq1 he).2.1];exact h1
 ·rw[qz4]at h1;refine⟨.inl ⟨eq_of_beq h1.1,h.vd (eq_of_beq h1.1) (za7 ho)⟩,?_⟩;unfold zkw;rw[h1.1];exact h1.2
theorem RA.c99{x:Node}(h:RA c x)(ho:zu x 99=true):BK c x\/x=nd 42 []:=by
 rcases zzI ho with⟨_,h1⟩|h1
 ·exact .inl (h.b h1)
 ·exact .inr (h.em h1 (za7 ho))
theorem RA.zQh{x:Node}(h:RA c x)(ho:zu x 120=true):SR c x\/FN c x:=by
 by_cases hk:x.Kind=39
 ·exact .inr (h.fn hk (za7 ho))
 ·refine .inl (h.st ?_);rw[zRU ho];rw[show(x.Kind==39)=false by rw[yH];exact hk];rfl
variable (C:Cls c)
include C
theorem zWp(x:Node)(hb:zJ x<=2097152)(h: ∀k∈x.L,RA c k)(ho:zu x 101=true):RT c x:=by
 obtain⟨he,hm⟩:=zb8 ho;have a2:=zaF x;have hi: ∀k∈x.L,zu k 101=true->RT c k/\k.Kind≠9:=λk hk h1=>(h k hk).item h1
 rcases zgG he with e|e|e|e|e|e|e|e|e|e|e|e|e|e|e|e|e|e|e|e
 ·rw[zG0 e,qz4]at hm;exact zXO C e hm.1 (zgu hm.2)
 ·rw[zGx e,qz4]at hm;exact zXu C e hm.1 (zgu hm.2) (by omega)
 ·rw[zMJ e,qz4]at hm;exact zXz C e hm.1 (zgu hm.2)
 ·rw[zWB e,qz4]at hm;exact zXJ C e hm.1 (zgu hm.2)
 ·rw[zWP e,qz4]at hm;exact zXD C e hm.1 (zgu hm.2)
 ·rw[zWV e,qz4]at hm;exact zXy C e hm.1 (zgu hm.2)
 ·rw[zGu e,qz4]at hm;exact zXG C e hm.1 λk hk=>hi k hk (zfA hm.2 k hk)
 ·rw[zGL e,qz4]at hm;exact zXC C e hm.1 λk hk=>(h k hk).pr (eq_of_beq (show(k.Kind==9)=true from zec (zfA hm.2 k hk))) (za7 (zfA hm.2 k hk))
 ·rw[zCW e,qz4]at hm;exact zWS C e λr=>zFJ C e (.inl rfl) hm.1 (λy hy=>(h y hy).zQh (zfA hm.2 y hy)) r
 ·rw[zAi e,qz4]at hm;obtain⟨a,hL,h1⟩:=zdE hm.2;exact zW0 C e hm.1 hL ((h a (by rw[hL];simp)).ex h1)
 ·rw[zzh e,qz4]at hm;obtain⟨a,b,hL,h1,h2⟩:=zdT hm.2;exact zW2 C e hm.1 hL ((h a (by rw[hL];simp)).ex h1) ((h b (by rw[hL];simp)).ex h2)
 ·rw[zD5 e,qz4]at hm;obtain⟨a,l,hL,h1,h2⟩:=zhX hm.2;exact zWG C e hm.1 hL ((h a (by rw[hL];simp)).ex h1) λk hk=>(h k (by rw[hL];exact qz8 _ hk)).item (h2 k hk)
 ·rw[zDX e,qz4]at hm;obtain⟨a,l,hL,h1,h2⟩:=zhX hm.2;exact zWl C e hm.1 hL ((h a (by rw[hL];simp)).ex h1) λk hk=>(h k (by rw[hL];exact qz8 _ hk)).item (h2 k hk)
 ·rw[zCZ e,qz4]at hm;obtain⟨a,hL,h1⟩:=zdE hm.2;exact zXl C e hm.1 hL ((h a (by rw[hL];simp)).ex h1)
 ·rw[zza e,qz4]at hm;obtain⟨a,hL,h1⟩:=zdE hm.2;exact zW7 C e hm.1 hL ((h a (by rw[hL];simp)).ex (zq9 h1)) (zec h1)
 ·rw[zDh e,qz4]at hm;obtain⟨a,b,hL,h1,h2⟩:=zdT hm.2;exact zRI C (.inl rfl) e hm.1 hL (by have:=zRG e;omega) (λno hi=>zPB e hm.1 no hi) ((h a (by rw[hL];simp)).ex h1) ((h b (by rw[hL];simp)).ex h2)
 ·rw[zy6 e,qz4]at hm;obtain⟨a,b,hL,h1,h2⟩:=zdT hm.2;exact zRI C (.inr rfl) e hm.1 hL (by have:=zRx e hm.1;omega) (λno _=>zPF e hm.1 no) ((h a (by rw[hL];simp)).ex h1) ((h b (by rw[hL];simp)).ex h2)
 ·rw[zDN e,qz4]at hm;obtain⟨a,b,d,hL,h1,h2,h3⟩:=zsk hm.2;exact zWJ C e hm.1 hL ((h a (by rw[hL];simp)).ex h1) ((h b (by rw[hL];simp)).ex h2) ((h d (by rw[hL];simp)).ex h3)
 ·rw[zCo e,qz4]at hm;obtain⟨a,b,hL,h1,h2⟩:=zdT hm.2;exact zWu C e hm.1 hL ((h a (by rw[hL];simp)).ex (zq9 h1)) ((h b (by rw[hL];simp)).ex h2) (zec h1)
 ·rw[zDS e,qz4]at hm;obtain⟨a,b,hL,h1,h2⟩:=zdT hm.2;exact zWA C e hm.1 hL ((h a (by rw[hL];simp)).ex h1) ((h b (by rw[hL];simp)).ex h2)
theorem zRp(x:Node)(h: ∀k∈x.L,RA c k)(e:x.Kind=25)(hm:zan x=true):BK c x:=by
 rw[zDz e,qz4]at hm;exact⟨e,zLD C e hm.1 λy hy=>(h y hy).st (zfA hm.2 y hy)⟩
theorem zRz(x:Node)(h: ∀k∈x.L,RA c k)(e:x.Kind=22)(hm:zan x=true):VD c x:=by
 rw[zC9 e,qz4]at hm;obtain⟨d,l,hL,h1,h2⟩:=zhX hm.2
 have hk: ∀k∈x.L,zu k 100=true:=by
  rw[hL];intro k hk;rcases yP.1 hk with rfl|hk
  ·exact h1
  ·exact h2 k hk
 exact⟨zej e hm.1 (by decide) (by decide),⟨d,l,hL⟩,λk hk1=>(h k hk1).de (zA1 (hk k hk1)).1 (za7 (hk k hk1))⟩
theorem zWH(x:Node)(h: ∀k∈x.L,RA c k)(ho:zu x 115=true):SR c x:=by
 obtain⟨hm,hK⟩:=zMk (zBI ho);have h1:stK x.Kind false=true:=zec ho;rcases hK with e|e|e|e|e|e|e|e|e|e|e|e|e|e|e|e|e|e
 ·exact zWD C e (zRz C x h e hm)
 ·rw[zC2 e,qz4]at hm;obtain⟨a,hL,h1⟩:=zdE hm.2;exact zWN C e hm.1 hL ((h a (by rw[hL];simp)).ex h1) h1
 ·exact zWZ C (zRp C x h e hm)
 ·rw[zzM e,qz4]at hm;rcases zMw hm.2 with⟨a,b,hL,h1,h2⟩| ⟨a,b,d,hL,h1,h2,h3⟩
  ·exact zXa C e hm.1 hL ((h a (by rw[hL];simp)).ex h1) ((h b (by rw[hL];simp)).b h2)
  ·exact zUE C e hm.1 hL ((h a (by rw[hL];simp)).ex h1) ((h b (by rw[hL];simp)).b h2) ((h d (by rw[hL];simp)).b h3)
 ·rw[zDW e,qz4]at hm;obtain⟨a,b,hL,h1,h2⟩:=zdT hm.2;exact zW5 C e hm.1 hL ((h a (by rw[hL];simp)).ex h1) ((h b (by rw[hL];simp)).b h2)
 ·rw[zCR e,qz4]at hm;obtain⟨a,b,hL,h1,h2⟩:=zdT hm.2;exact zWR C e hm.1 hL ((h a (by rw[hL];simp)).b h1) ((h b (by rw[hL];simp)).ex h2)
 ·rw[zDJ e,qz4]at hm;obtain⟨a,b,d,q,hL,h1,h2,h3,h4⟩:=zHC hm.2;exact zXf C e hm.1 hL ((h a (by rw[hL];simp)).v h1) ((h b (by rw[hL];simp)).f h2) ((h d (by rw[hL];simp)).f h3) ((h q (by rw[hL];simp)).b h4)
 ·rw[zC3 e,qz4]at hm;obtain⟨a,b,q,hL,h1,h2,h3⟩:=zsk hm.2;obtain⟨w1,w2⟩:=(h a (by rw[hL];simp)).w h1
  exact zXq C e hm.1 hL w1 w2 ((h b (by rw[hL];simp)).ex h2) ((h q (by rw[hL];simp)).b h3)
 ·rw[zDC e,qz4]at hm;exact zRy C (.inl e) hm.1 (zgu hm.2)
 ·rw[zD4 e,qz4]at hm;exact zRy C (.inr e) hm.1 (zgu hm.2)
 ·rw[zD9 e,qz4]at hm;refine zXe C e hm.1 ?_;rcases zIA hm.2 with hL| ⟨a,hL,h1⟩
  ·exact .inl hL
  ·exact .inr ⟨a,hL,(h a (by rw[hL];simp)).ex h1⟩
 ·rw[zCX e,qz4]at hm;obtain⟨a,hL,h1⟩:=zdE hm.2;exact zW4 C e hm.1 hL ((h a (by rw[hL];simp)).ex h1)
 ·rw[zDi e,qz4]at hm;obtain⟨a,b,d,hL,h1,h2,h3,h4⟩:=zHo hm.2;exact zWj C e hm.1 hL ((h a (by rw[hL];simp)).b h1) ((h b (by rw[hL];simp)).c99 h2) ((h d (by rw[hL];simp)).c99 h3) h4
 ·rw[zCB e,qz4]at hm;obtain⟨a,l,hL,h1,h2⟩:=zzL hm.2;exact zWK C e hm.1 hL ((h a (by rw[hL];simp)).ex h1) h2 λk hk=>(h k (by rw[hL];exact qz8 _ hk)).cs (eq_of_beq (show(k.Kind==37)=true from zec (zsp h2 k hk))) (za7 (zsp h2 k hk))
 ·rw[e]at h1;exact absurd h1 (by decide)
 ·rw[zDH e,qz4]at hm;obtain⟨a,hL,h1⟩:=zdE hm.2;exact zWw C e hm.1 hL ((h a (by rw[hL];simp)).st h1)
 ·rw[e]at h1;exact absurd h1 (by decide)
 ·rw[zH1 e,qz4]at hm;exact zWO C e hm.1 (zgu hm.2)
theorem zSv(x:Node)(hb:zJ x<=2097152)(h: ∀k∈x.L,RA c k):RA c x:=by
 have a2:=zaF x;refine⟨zWp C x hb h,zWH C x h,λe hm=>?_,λe hm=>?_,λe hm=>?_,λe hm=>?_,zRz C x h,zRp C x h,λe hm=>?_⟩
 ·rw[zDq e,qz4]at hm;exact⟨by rw[zLM e];rfl,λr=>zFJ C e (.inr rfl) hm.1 (λy hy=>(h y hy).zQh (zfA hm.2 y hy)) r⟩
 ·rw[zCO e,qz4]at hm;obtain⟨a,l,hL,h1,h2⟩:=zhX hm.2;exact⟨zej e hm.1 (by decide) (by decide),a,l,hL,(h a (by rw[hL];simp)).f h1,λk hk=>(h k (by rw[hL];exact qz8 _ hk)).st (h2 k hk)⟩
 ·rw[zGK e,qz4]at hm;obtain⟨a,hL,h1⟩:=zdE hm.2;have:=zXF e hm.1;rw[hL]at this;exact⟨a,this,zrL hm.1,by omega,(h a (by rw[hL];simp)).ex h1⟩
 ·have hd:=zA1 (d:=x) (by show(x.Kind==23&&zan x)=true;rw[e,hm];rfl)
  rw[zzE e,qz4]at hm;refine⟨zlY e hm.1 (by decide),by simpa [zI,e]using(zaT hm.1).1,?_⟩;rcases hd.2 with hL| ⟨a,hL,h1⟩
  ·exact .inl hL
  ·exact .inr ⟨a,hL,(h a (by rw[hL];simp)).ex h1⟩
 ·rw[zVA e,qz4]at hm;have:=zej e hm.1 (by decide) (by decide);rw[zgu hm.2]at this;exact this
mutual
theorem zXL: ∀x:Node,zJ x<=2097152->RA c x
 | ⟨k,n,m,t,ns,l⟩,hb=>
  have hb2:=zaF ⟨k,n,m,t,ns,l⟩
  zSv C _ hb (zO9 l (by simp only at hb2;omega))
theorem zO9: ∀(l:List Node),zak l<=2097152->∀q∈l,RA c q
 | [],_,q,hq=>by cases hq
 |x::r,hb,q,hq=>by
  simp only[zak]at hb;have hx:=zXL x (by omega);rcases yP.1 hq with h|hq
  ·exact h▸hx
  ·exact zO9 r (by omega) q hq
end
def znH:Tok:=⟨0,[],0,false⟩
theorem zOq(x:Node)(hb:zJ x<=2097152)(e:x.Kind=41)(hm:zan x=true):zoR true (T c (zad (tkL x.L))++[znH]) (x.L,[znH]):=by
 have a2:=zaF x;rw[zDs e,qz4]at hm;exact zwM C true x.L (λk hk=>((zO9 C x.L (by omega) k hk).zQh (zfA hm.2 k hk)).imp id λq=>⟨rfl,q⟩) [znH] rfl ⟨rfl,rfl,rfl⟩
theorem zT9{x:Node}(e:x.Kind=41)(hm:zan x=true):x=zWF x.L:=by
 rw[zDs e,qz4]at hm;exact zej e hm.1 (by decide) (by decide)
end
def zuj(c:UInt8):Nat:=if c.toNat<58 then c.toNat -48 else c.toNat -87
def zXx(x:UInt8):Nat:=if x=34 then 34 else if x=92 then 92 else if x=98 then 8 else if x=116 then 9 else if x=110 then 10 else if x=102 then 12 else 13
def zQ6:Str->Option (Nat×Str)
 | []=>none
 |c::r=>if c=34 then none else if c=92 then(match r with
   | []=>none
   |x::r=>if x=117 then(match r with
     |a::b::e::d::r=>some (zuj a*4096+zuj b*256+zuj e*16+zuj d,r)
     |_=>none)else some (zXx x,r))else some (c.toNat,r)
theorem ztC{k:Nat}(h:k<16):zuj (za1 k)=k:=by
 have: ∀k:Fin 16,zuj (za1 k.val)=k.val:=by decide
 exact this ⟨k,h⟩
theorem zJL(n:Nat)(hn:n<65536)(r:Str):zQ6 (zdp n++r)=some (n,r):=by
 unfold zdp;split
 ·subst n;rfl
 ·split
  ·subst n;rfl
  ·split
   ·subst n;rfl
   ·split
    ·subst n;rfl
    ·split
     ·subst n;rfl
     ·split
      ·subst n;rfl
      ·split
       ·subst n;rfl
       ·split
        ·show some (zuj _*4096+zuj _*256+zuj _*16+zuj _,r)=_;rw[ztC (by omega),ztC (by omega),ztC (by omega),ztC (by omega)];congr 2;omega
        ·rename_i h1 h2 _ _ _ _ _ h8;have hn:(UInt8.ofNat n).toNat=n:=by rw[UInt8.toNat_ofNat'];omega
         have e1:UInt8.ofNat n≠34:=λe=>by have:=congrArg UInt8.toNat e;rw[hn]at this;exact h1 this
         have e2:UInt8.ofNat n≠92:=λe=>by have:=congrArg UInt8.toNat e;rw[hn]at this;exact h2 this
         show(if UInt8.ofNat n=34 then none else if UInt8.ofNat n=92 then _ else some ((UInt8.ofNat n).toNat,r))=_;rw[yK e1,yK e2,hn]
theorem zOS(r:Str):zQ6 (34::r)=none:=rfl
def zB1:Nat->Str->List Nat×Str
 |0,s=>([],s)
 |n+1,s=>match zQ6 s with
  |none=>([],s.tail)
  |some (u,r)=>(u::(zB1 n r).1,(zB1 n r).2)
theorem zBw: ∀(l:List Nat) (n:Nat) (r:Str),(∀u∈l,u<65536)->l.length<n->zB1 n (zaV l++34::r)=(l,r)
 | [],n+1,r,_,_=>by show zB1 (n+1) (34::r)=_;rw[zB1,zOS];rfl
 |u::l,n+1,r,h,hn=>by
  have e:zaV (u::l)=zdp u++zaV l:=by simp[zaV]
  rw[e,yE,zB1,zJL u (h u qz7)];simp only;rw[zBw l n r (λv hv=>h v (qz8 _ hv)) (by simp only[qz3]at hn;omega)]
theorem zMQ(l:List Nat):l.length<=(zaV l).length:=by
 induction l with
 |nil=>simp
 |cons u l ih=>
  have e:zaV (u::l)=zdp u++zaV l:=by simp[zaV]
  have:1<=(zdp u).length:=by
   unfold zdp
   repeat' split
   all_goals simp
  rw[e,qz5,qz3];omega
def zy8(l:List Nat):Str:=l.flatMap λu=>[UInt8.ofNat (u/256),UInt8.ofNat (u%256)]
theorem zBs: ∀s:Str,s.length%2=0->zy8 (zat s)=s
 | [],_=>rfl
 | [_],h=>by simp at h
 |a::b::r,h=>by
  have ih:=zBs r (by simp only[qz3]at h;omega)
  have e:zy8 (zat (a::b::r))=[UInt8.ofNat ((a.toNat*256+b.toNat)/256),UInt8.ofNat ((a.toNat*256+b.toNat)%256)]++zy8 (zat r):=by simp[zy8,zat]
  have ha:(a.toNat*256+b.toNat)/256=a.toNat:=by have:=b.toNat_lt;omega
  have hb:(a.toNat*256+b.toNat)%256=b.toNat:=by have:=b.toNat_lt;omega
  rw[e,ih,ha,hb];simp
def zIz(s:Str):Nat:=s.foldl (λa c=>a*10+(c.toNat -48)) 0
theorem zm2: ∀(k u:Nat),u<k->zIz (Lib.decDigits u)=u/\(∀c∈Lib.decDigits u,zfO c=true)/\Lib.decDigits u≠[]
 |0,u,h=>by omega
 |k+1,u,h=>by
  have hd: ∀d,d<10->(UInt8.ofNat (48+d)).toNat=48+d:=λd hd=>by rw[UInt8.toNat_ofNat'];omega
  have hdig: ∀d,d<10->zfO (UInt8.ofNat (48+d))=true:=λd h=>by unfold zfO;rw[hd d h];simp;omega
  rw[Lib.decDigits];split
  ·rename_i hu;refine⟨?_,?_,by simp⟩
   ·unfold zIz;simp only[List.foldl_cons,List.foldl_nil];rw[hd u hu];omega
   ·intro c hc;rw[List.mem_singleton.1 hc];exact hdig u hu
  ·rename_i hu;obtain⟨h1,h2,h3⟩:=zm2 k (u/10) (by omega);refine⟨?_,?_,by simp⟩
   ·unfold zIz at h1⊢;rw[List.foldl_append,h1];simp only[List.foldl_cons,List.foldl_nil];rw[hd _ (by omega)];omega
   ·intro c hc;rcases List.mem_append.1 hc with hc|hc
    ·exact h2 c hc
    ·rw[List.mem_singleton.1 hc];exact hdig _ (by omega)
theorem zoK(n:Int)(h:0<=n):Lib.itoa n=Lib.decDigits n.toNat:=by unfold Lib.itoa;rw[yK (by omega)]
def zxk:Str->Tok
 | []=>⟨5,[],0,false⟩
 |a::r=>if a=34 then⟨4,zy8 (zB1 (r.length+1) r).1,0,false⟩
  else if zfO a=true then⟨3,[],((zIz (a::r):Nat):Int),false⟩
  else if isLet a=true then⟨if zxl (a::r)=true then 2 else 1,a::r,0,false⟩
  else⟨5,a::r,0,false⟩
theorem zT4(a:UInt8)(h:isLet a=true):zfO a=false/\a≠34:=by
 unfold isLet at h;unfold zfO;simp only[yT]at h;refine⟨by simp;omega,?_⟩
 rintro rfl;have e:(34:UInt8).toNat=34:=rfl;omega
theorem zUT(a:UInt8)(h:zfO a=true):a≠34:=by
 unfold zfO at h;simp only[yT]at h;rintro rfl;have e:(34:UInt8).toNat=34:=rfl;omega
theorem zMF{s:Str}(h:zdD s=true): ∃a r,s=a::r/\isLet a=true/\∀c∈s,zfM c=true:=by
 rcases s with _| ⟨a,r⟩
 ·cases h
 ·unfold zdD at h;simp only[qz4,List.all_eq_true]at h;exact⟨a,r,rfl,h.2.1,h.2.2⟩
theorem zFN{s:Str}(h:zdD s=true):zxk s=⟨if zxl s=true then 2 else 1,s,0,false⟩:=by
 obtain⟨a,r,rfl,h1,_⟩:=zMF h;obtain⟨h2,h3⟩:=zT4 a h1;unfold zxk;simp only;rw[yK h3,yK (by rw[h2];decide),yL h1]
theorem zzZ{s:Str}(he:zaL s=true)(hs:s.length<=100000000):zdr s=34::(zaV (zat s)++[34]):=by
 have h1:=zoE s hs he;have h2:=zzF s hs he;rw[h1]at h2;simp only[Option.some.injEq,Prod.mk.injEq]at h2;exact h2.1.symm
theorem zG7:Cls zxk where
 op:=by
  have: ∀w∈zgk,opK (zxk w)=true/\(zxk w).text=w:=by decide+kernel
  exact λw hw=>⟨(this w hw).1,(this w hw).2⟩
 name:=λs h=>by
  unfold zaP at h;rw[qz4]at h;rw[zFN h.1,show zxl s=false by simpa using h.2];exact⟨rfl,rfl⟩
 ident:=λs h=>by
  rw[zFN h];refine⟨?_,rfl⟩;cases zxl s
  ·exact .inl rfl
  ·exact .inr rfl
 num:=λn h1 h2=>by
  obtain⟨d1,d2,d3⟩:=zm2 (n.toNat+1) n.toNat (by omega);rw[zoK n h1];cases e:Lib.decDigits n.toNat with
  |nil=>exact absurd e d3
  |cons a r=>
   rw[e]at d1 d2;have da:=d2 a qz7;unfold zxk;simp only;rw[yK (zUT a da),yL da,d1];exact⟨rfl,by show((n.toNat:Nat):Int)=n;omega⟩
 str:=λs he hs=>by
  rw[zzZ he hs];have h2:s.length%2=0:=by unfold zaL at he;simpa using he
  have hu: ∀u∈zat s,u<65536:=λu hu=>zmE s u hu
  have:=zBw (zat s) ((zaV (zat s)++[34]).length+1) [] hu (by have:=zMQ (zat s);rw[qz5];omega)
  unfold zxk;simp only[yB];rw[this];exact⟨trivial,zBs s h2⟩
 fresh:=λs=>by
  unfold zxk;split
  ·rfl
  ·split
   ·rfl
   ·split
    ·rfl
    ·split<;>rfl
 opt:=λs=>by
  unfold zxk;split
  ·intro _;rfl
  ·split
   ·intro h;exact Bool.noConfusion (show false=true from h)
   ·split
    ·intro h;exact Bool.noConfusion (show false=true from h)
    ·split
     ·intro _;rfl
     ·intro _;rfl
theorem zDt(w:Str)(l:List Str): ∃r,Lib.join (w::l) [32]=w++r/\(l=[]/\r=[]\/l≠[]/\r=32::Lib.join l [32]):=by
 rcases l with _| ⟨v,l⟩
 ·exact⟨[],by rw[Lib.join_one];simp,.inl ⟨rfl,rfl⟩⟩
 ·exact⟨32::Lib.join (v::l) [32],by rw[zLj];rfl,.inr ⟨by simp,rfl⟩⟩
end Go.D08
namespace Go.D08
open Go Go.Gw Go.Dn Go.Proofs
set_option maxRecDepth 100000
theorem zsr{α β γ:Type}(x:PR α)(f:α×zB->PR β)(g:β×zB->PR γ):(x.bd f).bd g=x.bd λp=>(f p).bd g:=by
 cases x with
 |none=>rfl
 |some p=>cases p<;>rfl
theorem zBD{β γ:Type}(x:PR Unit)(f:zB->PR β)(g:β×zB->PR γ):(x.bn f).bd g=x.bn λp=>(f p).bd g:=zsr x (λq=>f q.2) g
theorem zC0(i:Int)(h1:0<=i)(h2:i<=9007199254740991):(Lib.itoa i).length<=21:=Lib.itoa_length_le i (by omega) (by omega)
theorem itoa_ascii(i:Int)(h1:0<=i): ∀b∈Lib.itoa i,b<128:=by
 rw[zoK i h1];intro b hb;have:=(zm2 (i.toNat+1) i.toNat (by omega)).2.1 b hb;have h2:=of_decide_eq_true this;have h3:b.toNat<=57:=h2.2;show b.toNat<128;omega
theorem zwH(s:Str):(wide s).length=2*s.length:=by
 induction s with
 |nil=>rfl
 |cons c s ih=>unfold wide at ih⊢;rw[List.flatMap_cons,qz5,ih];simp;omega
theorem zM2(s:Str)(c:UInt8):wide (s++[c])=wide s++[0,c]:=by simp[wide]
theorem zKk(s:Str)(hs:s.length<=1000000000)(h128: ∀b∈s,b<128): ∀(b a:Str),s=a++b->
  zaI zjR (b.length+1) (s,((s.length:Nat):Int),((a.length:Nat):Int),wide a++List.replicate (2*b.length) 0,())=some (wide s,0,())
 | [],a,h=>by
  refine zaN ?_;obtain rfl:s=a:=by rw[h];simp
  have hc: ¬(((s.length:Nat):Int)< ((s.length:Nat):Int)):=by omega
  simp only[zjR,hc,decide_false,qz2,yA,qz6,Nat.mul_zero,List.replicate_zero,List.append_nil]
 |c::b,a,h=>by
  have hlen:s.length=a.length+(b.length+1):=by rw[h];simp
  have hc:((a.length:Nat):Int)< ((s.length:Nat):Int):=by omega
  have hb:c<128:=h128 c (by rw[h];simp)
  have hget:s[a.length]? =some c:=by rw[h];simp
  have hlt: ¬(((c.toNat:Nat):Int)>=128):=by
   have:c.toNat<128:=hb;omega
  have w1:IntKind.wrap .i64 (2*((a.length:Nat):Int))=((2*a.length:Nat):Int):=by rw[wrap_i64 (by omega) (by omega)];omega
  have w2:IntKind.wrap .i64 (((2*a.length:Nat):Int)+1)=((2*a.length+1:Nat):Int):=by rw[wrap_i64 (by omega) (by omega)];omega
  have w3:IntKind.wrap .i64 (((a.length:Nat):Int)+1)=((a.length+1:Nat):Int):=by rw[wrap_i64 (by omega) (by omega)];omega
  have hrow:wide a++List.replicate (2*(b.length+1)) (0:UInt8)=(wide a++[0])++0::List.replicate (2*b.length) 0:=by
   rw[show 2*(b.length+1)=2*b.length+1+1 by omega,List.replicate_succ,List.replicate_succ];simp
  have hl1:(wide a++[0]).length=2*a.length+1:=by rw[qz5,zwH];rfl
  have hg: ∀x,zT ((wide a++[0])++x::List.replicate (2*b.length) (0:UInt8)) ((2*a.length+1:Nat):Int)=some x:=λx=>by
   rw[zjz,<-hl1];simp
  have hset:((wide a++[0])++0::List.replicate (2*b.length) (0:UInt8)).set (((2*a.length+1:Nat):Int)).toNat c=wide (a++[c])++List.replicate (2*b.length) 0:=by
   rw[Int.toNat_natCast,<-hl1,zM2];simp
  have hto:zMe ((c.toNat:Nat):Int)=some c:=by rw[zRV,zMU (by omega) (zWT c)];simp
  have hstep:zjR (s,((s.length:Nat):Int),((a.length:Nat):Int),wide a++List.replicate (2*(b.length+1)) 0,())=some (.inl (s,((s.length:Nat):Int),(((a++[c]).length:Nat):Int),wide (a++[c])++List.replicate (2*b.length) 0,())):=by
   simp only[zjR,hc,decide_true,yB,zmg,hget,Option.map_some,qz1,hlt,decide_false,qz2,yA,w1,w2,w3,hrow,hg,hto,hset];rw[qz5];rfl
  rw[qz3,zbZ hstep];exact zKk s hs h128 b (a++[c]) (by rw[h];simp)
theorem zox(s:Str)(hs:s.length<=1000000000)(h128: ∀b∈s,b<128):zog s=some (wide s,0,()):=by
 unfold zog;have w1:IntKind.wrap .i64 (2*((s.length:Nat):Int))=((2*s.length:Nat):Int):=by rw[wrap_i64 (by omega) (by omega)];omega
 simp only[w1];rw[show zDR ((2*s.length:Nat):Int)=some (2*s.length) by unfold zDR;rw[yL (by omega),Int.toNat_natCast]]
 simp only[qz1];exact zdu (zKk s hs h128 s [] rfl) (by omega)
section
variable {α β γ δ ρ σ:Type} {L0 L:List zy} {no:Bool} {E':Int->σ->Prop} {O':β->List zy->σ->Prop}
theorem zVd(ok:TL L0 L):SG L0 ER (OL no) (zjy (pp L no)) (zBU (L.map tk)):=by
 obtain⟨x,r,rfl⟩:=ok.ok.cons;have k4:=zhA ok 4;have k3:=zhA ok 3;have k1:=zhA ok 1;have k2:=zhA ok 2;rw[show((4:Nat):Int)=4 from rfl]at k4;rw[show((3:Nat):Int)=3 from rfl]at k3;rw[show((1:Nat):Int)=1 from rfl]at k1;rw[show((2:Nat):Int)=2 from rfl]at k2;have tl: ∀{k:Nat},(zaa ((x::r).map tk)==k)=true->k≠0->TL L0 r:=λh hk=>ok.tail (zbK h hk)
 have tx:=ok.ok.texts x qz7;have asc:=ok.ok.ascii x qz7;have num:=ok.ok.nums x qz7;unfold zjy;simp only[zV,zdK,qz1,k4,k3,k1,k2];show SG _ _ _ _ (if(zaa ((x::r).map tk)==4)=true then gt (x.Text,r.map tk)else if(zaa ((x::r).map tk)==3)=true then gt (wide (Lib.itoa x.Num),r.map tk)else if(zaa ((x::r).map tk)==1||zaa ((x::r).map tk)==2)=true then gt (wide x.Text,r.map tk)else bad ((x::r).map tk));cases h4:zaa ((x::r).map tk)==4 with
 |true=>
  simp only[yB];exact .take ok (zbK h4 (by decide)) λa ha ok1=> .gt ok1 rfl
 |false=>
  simp only[qz2,yA];cases h3:zaa ((x::r).map tk)==3 with
  |true=>
   simp only[yB];have e3:x.Kind=3:=eq_of_beq (k3.trans h3);rw[fmt10 x.Num (num e3).1 (num e3).2];simp only[qz1];refine .take ok (zbK h3 (by decide)) λa ha ok1=>?_
   simp only;rw[zox (Lib.itoa x.Num) (by have:=zC0 x.Num (num e3).1 (num e3).2;omega) (itoa_ascii x.Num (num e3).1)]
   exact .gt ok1 rfl
  |false=>
   simp only[qz2,yA];cases h1:zaa ((x::r).map tk)==1 with
   |true=>
    simp only[Bool.true_or,yB];have e1:x.Kind=1:=eq_of_beq (k1.trans h1);refine .take ok (zbK h1 (by decide)) λa ha ok1=>?_
    simp only;rw[zox x.Text (by omega) (asc (.inl e1))];exact .gt ok1 rfl
   |false=>
    simp only[qz2,yA,Bool.false_or];cases h2:zaa ((x::r).map tk)==2 with
    |true=>
     simp only[yB];have e2:x.Kind=2:=eq_of_beq (k2.trans h2);refine .take ok (zbK h2 (by decide)) λa ha ok1=>?_
     simp only;rw[zox x.Text (by omega) (asc (.inr e2))];exact .gt ok1 rfl
    |false=>
     simp only[qz2,yA];exact .fail ok λa=>⟨_,rfl,_,rfl⟩
end
section
variable {L0 L:List zy} {no:Bool} {n M:Nat} (H: ∀k,k<=n->∀N,20*k+20<=N->zwF L0 (RG N) (pG k)) (hn:n<=10000000000) (hM:20*n+30<=M)
include H hn hM
theorem zPS(l:List Node)(hl:l.length<=20000000000)(ok:TL L0 L):SG L0 EL (λ(v:Node) L' r=>r= .inr (pp L' no,8,[],0,[],[],l++[v],())) ((RG M).zdk (pp L no) 8 [] 0 [] [] l)
  ((zBU (L.map tk)).bd λk=>(zaC [58] k.2).bn λt1=>((pG n).assign no t1).bd λx=>gt (⟨9,[],0,k.1,[],[x.1]⟩,x.2)):=by
 obtain⟨M,rfl⟩: ∃k,M=k+1:=⟨M -1,by omega⟩
 show SG _ _ _ (zf4 (RG M) (pp L no) 8 [] 0 [] [] l) _;unfold zf4;simp only[zV,zq,zga];refine .r (zVd ok) (λ_ _=>⟨_,rfl,_,rfl⟩) λk L1 ok1=>?_
 refine .need ok1 (λ_ _=>⟨_,rfl,_,rfl⟩) λL2 ok2=>?_
 refine .r ((H n (yJ _) M (by omega)).assign no L2 ok2) (λ_ _=>⟨_,rfl,_,rfl⟩) λv L3 ok3=>?_
 simp only[qz3,qz6,Nat.zero_add];rw[zd1 (by omega)];simp only[qz1,zI6,zKA];exact .gt ok3 rfl
theorem zKx: ∀(k m:Nat),k<=n+1->k<=m->∀(l:List Node) (L:List zy),l.length+k<=n+1->TL L0 L->
  SG L0 EL (λ(v:List Node) L' r=>r= .inr (pp L' false,[125],8,[],0,[],[],l++v,true,())) (zaI (zdq (RG M)) m (pp L false,[125],8,[],0,[],[],l,true,())) ((pG k).props (L.map tk))
 |0,m,_,_,l,L,_,ok=>trivial
 |k+1,0,_,hm,l,L,_,ok=>by omega
 |k+1,m+1,hk,hm,l,L,hl,ok=>by
  show SG _ _ _ _ (zg7 (pG k) (L.map tk))
  have e:zg7 (pG k) (L.map tk)=if tIs [125] (L.map tk)=true then gt ([],(L.map tk).tail)else
    ((zBU (L.map tk)).bd λk'=>(zaC [58] k'.2).bn λt1=>((pG k).assign false t1).bd λx=>gt ((⟨9,[],0,k'.1,[],[x.1]⟩:Node),x.2)).bd λx=>
     if tIs [125] x.2=true then gt ([x.1],x.2.tail)else(zaC [44] x.2).bn λt2=>((pG k).props t2).bd λl=>gt (x.1::l.1,l.2):=by
   unfold zg7;simp only[zsr,zBD,zeg]
  have ih:=λl L hl ok=>zKx k m (by omega) (by omega) l L hl ok
  rw[e,zfR];generalize zaI (zdq (RG M)) m=W at ih⊢;unfold zdq;simp only[zV];refine .assoc (.has ok (λh ok1=>?_) λh=>?_)
  ·simp only[yO,qz2,yA];exact .gt' ok1 (by rw[yM]) (by simp)
  ·simp only[yN,yB];refine .assoc ((zPS (no:=false) (λj hj=>H j (by omega)) (by omega) (by omega) l (by omega) ok).gen (by rintro a _ ⟨y,rfl⟩;exact⟨_,rfl,_,rfl⟩) ?_)
   rintro x L1 _ _ ok1 rfl;refine .assoc (.has ok1 (λh ok2=>?_) λh=>?_)
   ·simp only[yB];exact .gt' ok2 (by rw[yM]) rfl
   ·simp only[qz2,yA];refine .assoc (.need ok1 (λ_ _=>⟨_,rfl,_,rfl⟩) λL2 ok2=>?_);simp only[yO,qz2,yA];exact(ih (l++[x]) L2 (by rw[qz5];simp only[qz3,qz6];omega) ok2).map (λv=>x::v) (by rintro v L' _ rfl;simp)
theorem zQH(h9:20*n+39<=M)(ok:TL L0 L):SG L0 EL (λ(l:List Node) L' r=>r= .inr (pp L' no,8,[],0,[],[],l,())) (zfN (RG M) [125] true (pp L no) 8 [] 0 [] [] []) (zg7 (pG n) (L.map tk)):=by
 obtain⟨M,rfl⟩: ∃k,M=k+2:=⟨M -2,by omega⟩
 show SG _ _ _ _ ((pG (n+1)).props (L.map tk))
 have h1:SG L0 EL (λ(v:List Node) L' r=>r= .inr (pp L' false,[125],8,[],0,[],[],v,true,())) (zeW (RG M) (pp L false) [125] 8 [] 0 [] [] [] true) ((pG (n+1)).props (L.map tk)):=by
  unfold zeW;simp only[zV];exact .loop (zKx H hn (by omega) (n+1) 1000000000000 (yJ _) (by omega) [] L (by simp) ok) (yJ _)
 have h2:SG L0 EL (λ(v:List Node) L' r=>r= .inr (pp L' no,[125],8,[],0,[],[],v,true,())) (zeS (RG (M+1)) (pp L no) [125] 8 [] 0 [] [] [] true) ((pG (n+1)).props (L.map tk)):=by
  unfold zeS;simp only[zV];exact h1.same (by rintro a _ ⟨y,rfl⟩;exact⟨_,rfl,_,rfl⟩) (by rintro v L' _ _ rfl;exact⟨_,rfl,rfl⟩)
 unfold zfN;simp only[zV];exact h2.same (by rintro a _ ⟨y,rfl⟩;exact⟨_,rfl,_,rfl⟩) (by rintro v L' _ _ rfl;exact⟨_,rfl,rfl⟩)
theorem zTQ(h9:20*n+35<=M)(ok:TL L0 L)(h1:(zaa (L.map tk)==1)=false)(h3:(zaa (L.map tk)==3)=false)(h4:(zaa (L.map tk)==4)=false):SG L0 ER (OL no) ((RG M).zdW (pp L no)) (zdQ (pG n) (L.map tk)):=by
 obtain⟨M,rfl⟩: ∃k,M=k+1:=⟨M -1,by omega⟩
 have S:=H n (yJ _) M (by omega);show SG _ _ _ (zhr (RG M) (pp L no)) _;unfold zhr zdQ;simp only[zV,zq,h1,h3,h4,qz2,yA];refine .has ok (λh ok1=> .gt' ok1 (by rw[yM]) rfl) λh=>?_
 simp only[qz2,yA];refine .has ok (λh ok1=> .gt' ok1 (by rw[yM]) rfl) λh=>?_
 simp only[qz2,yA];refine .has ok (λh ok1=> .gt' ok1 (by rw[yM]) rfl) λh=>?_
 simp only[qz2,yA];refine .has ok (λh ok1=> .gt' ok1 (by rw[yM]) rfl) λh=>?_
 simp only[qz2,yA];refine .has ok (λh ok1=>?_) λh=>?_
 ·simp only[yB];rw[<-yM];exact .ll (S.func no 10 _ ok1) (λ_ _=>⟨_,rfl,_,rfl⟩) λv L'=>⟨_,rfl,rfl⟩
 simp only[qz2,yA];refine .has ok (λh ok1=>?_) λh=>?_
 ·simp only[yB];rw[<-yM];refine(zQq H hn (by omega) ok1).gen (by rintro a _ ⟨y,rfl⟩;exact⟨_,rfl,_,rfl⟩) ?_
  rintro y L3 _ _ ok3 rfl;exact .need ok3 (λ_ _=>⟨_,rfl,_,rfl⟩) λL4 ok4=> .gt ok4 rfl
 simp only[qz2,yA];refine .has ok (λh ok1=>?_) λh=>?_
 ·simp only[yB];rw[<-yM];exact .r (S.exprs no _ _ _ ok1) (λ_ _=>⟨_,rfl,_,rfl⟩) λl L4 ok4=> .gt ok4 rfl
 simp only[qz2,yA];refine .has ok (λh ok1=>?_) λh=>?_
 ·simp only[yB];rw[<-yM];refine(S.props no _ ok1).gen (by rintro a _ ⟨y,rfl⟩;exact⟨_,rfl,_,rfl⟩) ?_
  rintro l L3 _ _ ok3 rfl;exact .gt ok3 rfl
 simp only[qz2,yA];exact .fail ok λa=>⟨_,rfl,_,rfl⟩
theorem zSa(h9:20*n+39<=M)(ok:TL L0 L):SG L0 ER (OL no) (zfT (RG M) (pp L no)) (zdQ (pG n) (L.map tk)):=by
 have hs:=zTQ (no:=no) H hn hM (by omega) ok;obtain⟨x,r,rfl⟩:=ok.ok.cons;have k4:=zhA ok 4;have k3:=zhA ok 3;have k1:=zhA ok 1;rw[show((4:Nat):Int)=4 from rfl]at k4;rw[show((3:Nat):Int)=3 from rfl]at k3;rw[show((1:Nat):Int)=1 from rfl]at k1;unfold zfT;simp only[zV,zq,zdK,qz1,k4,k3,k1];cases h1:zaa ((x::r).map tk)==1 with
 |true=>
  unfold zdQ;simp only[h1,yB];exact .take ok (zbK h1 (by decide)) λa ha ok1=> .gt ok1 rfl
 |false=>
  simp only[qz2,yA];cases h3:zaa ((x::r).map tk)==3 with
  |true=>
   unfold zdQ;simp only[h1,h3,yB,qz2,yA];exact .take ok (zbK h3 (by decide)) λa ha ok1=> .gt ok1 rfl
  |false=>
   simp only[qz2,yA];cases h4:zaa ((x::r).map tk)==4 with
   |true=>
    unfold zdQ;simp only[h1,h3,h4,yB,qz2,yA];exact .take ok (zbK h4 (by decide)) λa ha ok1=> .gt ok1 rfl
   |false=>
    simp only[qz2,yA];exact .rr (hs h1 h3 h4) (λ_ _=>⟨_,rfl,_,rfl⟩) λv L'=>⟨_,rfl,rfl⟩
end
theorem zMS{t:zB}(w:Wf t):zet t=if tIs [41] t=true then gt ([],t.tail)else if(zaa t==1)=true then
  (if tIs [41] t.tail=true then gt ([tText t],t.tail.tail)else(zaC [44] t.tail).bn λt'=>if tIs [41] t'=true then bad t' else(zet t').bd λl=>gt (tText t::l.1,l.2))else bad t:=by
 unfold zet;by_cases h:tIs [41] t=true
 ·rw[yL h,yL h]
 ·rw[yK h,yK h]
  match t,w with
  | [],w=>exact absurd w.pos (by simp)
  | [a],w=>
   have h0:a.kind=0:=by
    obtain⟨p,e,h1,h2,_⟩:=w;cases p with
    |nil=>simp at h1;rw[h1];exact h2
    |cons x p=>simp at h1
   have:(zaa [a]==1)=false:=by show(a.kind==1)=false;rw[h0];rfl
   rw[this];rfl
  |a::b::r,w=>
   rw[zhY];by_cases h1:(a.kind==1)=true
   ·rw[yL h1,yL (show(zaa (a::b::r)==1)=true from h1)];by_cases h2:tIs [41] (b::r)=true
    ·rw[yL h2,yL (show tIs [41] (a::b::r).tail=true from h2)];rfl
    ·rw[yK h2,yK (show ¬tIs [41] (a::b::r).tail=true from h2)];unfold zaC;by_cases h3:tIs [44] (b::r)=true
     ·rw[yL h3,yL (show tIs [44] (a::b::r).tail=true from h3)];show(if tIs [41] r=true then _ else _)=(if tIs [41] r=true then _ else _)
      by_cases h4:tIs [41] r=true
      ·rw[yL h4,yL h4];rfl
      ·rw[yK h4,yK h4];show(zhY r).bd _=(if tIs [41] r=true then gt ([],r.tail)else zhY r).bd _;rw[yK h4];rfl
     ·rw[yK h3,yK (show ¬tIs [44] (a::b::r).tail=true from h3)];rfl
   ·rw[yK h1,yK (show ¬(zaa (a::b::r)==1)=true from h1)]
theorem TOk.wf{L:List zy}(h:TOk L):Wf (L.map tk):=by
 obtain⟨a,e,h1,h2,h3⟩:=h.last;refine⟨a.map tk,tk e,by rw[h1];simp,by unfold tk;rw[h2];rfl,λx hx=>?_⟩
 obtain⟨y,hy,rfl⟩:=List.mem_map.1 hx;have h4:=h3 y hy;have h5:=(h.kinds y (by rw[h1];exact List.mem_append_left _ hy)).1
 show y.Kind.toNat≠0;omega
section
variable {L0 L:List zy} {no:Bool}
theorem zKK(kd:Int)(nm:Str): ∀(m:Nat) (L:List zy) (l:List Str),L.length<m->l.length+L.length<=20000000000->TL L0 L->
  SG L0 EL (λ(v:List Str) L' r=>r= .inr (pp L' false,[41],kd,nm,0,[],l++v,[],false,())) (zaI zd9 m (pp L false,[41],kd,nm,0,[],l,[],false,())) (zet (L.map tk))
 |0,L,l,hm,_,_=>by omega
 |m+1,L,l,hm,hl,ok=>by
  have ih:=λL l hm hl ok=>zKK kd nm m L l hm hl ok
  rw[zMS ok.ok.wf,zfR];generalize zaI zd9 m=W at ih⊢;unfold zd9 zhN;simp only[zV];refine .assoc (.has ok (λh ok1=>?_) λh=>?_)
  ·simp only[yO,qz2,yA];exact .gt' ok1 (by rw[yM]) (by simp)
  ·simp only[yN,yB];refine .assoc (.assoc (.name ok (λ_ _=>⟨_,rfl,_,rfl⟩) λhk ok1=>?_))
   have hlen:L.tail.length+1=L.length:=by
    obtain⟨x,r,rfl⟩:=ok.ok.cons;rfl
   simp only[qz3,qz6,Nat.zero_add];rw[zd1 (by omega)];simp only[qz1];rw[<-yM,<-yM];refine .assoc (.has ok1 (λh ok2=>?_) λh=>?_)
   ·simp only[yB];exact .gt' ok2 rfl rfl
   ·simp only[qz2,yA];refine .assoc (.need' ok1 (λ_ _=>⟨_,rfl,_,rfl⟩) λL2 ok2 hl2=>?_);simp only[yN,yB];refine .assoc (.is ok2 (λh=>?_) λh=>?_)
    ·simp only[yB];exact .assoc (.fail ok2 λa=>⟨_,rfl,_,rfl⟩)
    ·simp only[qz2,yA];exact(ih L2 (l++[tText (L.map tk)]) (by omega) (by rw[qz5];simp only[qz3,qz6];omega) ok2).map (λv=>tText (L.map tk)::v) (by rintro v L' _ rfl;simp)
theorem zPJ(kd:Int)(nm:Str)(ok:TL L0 L)(hlen:L.length<=10000000000):SG L0 EL (λ(v:List Str) L' r=>r= .inr (pp L' no,kd,nm,0,[],v,[],())) (ziz [41] false (pp L no) kd nm 0 [] [] []) (zet (L.map tk)):=by
 have h1:SG L0 EL (λ(v:List Str) L' r=>r= .inr (pp L' false,[41],kd,nm,0,[],v,[],false,())) (zht (pp L false) [41] kd nm 0 [] [] [] false) (zet (L.map tk)):=by
  unfold zht;simp only[zV];exact .loop (zKK kd nm (L.length+1) L [] (by omega) (by simp;omega) ok) (by omega)
 have h2:SG L0 EL (λ(v:List Str) L' r=>r= .inr (pp L' no,[41],kd,nm,0,[],v,[],false,())) (zhE (pp L no) [41] kd nm 0 [] [] [] false) (zet (L.map tk)):=by
  unfold zhE;simp only[zV];exact h1.same (by rintro a _ ⟨y,rfl⟩;exact⟨_,rfl,_,rfl⟩) (by rintro v L' _ _ rfl;exact⟨_,rfl,rfl⟩)
 unfold ziz;simp only[zV];exact h2.same (by rintro a _ ⟨y,rfl⟩;exact⟨_,rfl,_,rfl⟩) (by rintro v L' _ _ rfl;exact⟨_,rfl,rfl⟩)
end
section
variable {L0 L:List zy} {no:Bool} {n M:Nat} (H: ∀k,k<=n->∀N,20*k+20<=N->zwF L0 (RG N) (pG k)) (hn:n<=10000000000) (hM:20*n+30<=M) (h0:L0.length<=10000000000)
include H hn hM
theorem zQM(k:Int)(nm:Str)(ns:List Str)(ok:TL L0 L):SG L0 ER (λ(v:List Node) L' r=>r= .inl (pp L' no,k,nm,0,[],v,ns,[],())) ((RG M).zcA (pp L no) k nm 0 [] ns []) ((pG n).stmts true (L.map tk)):=by
 obtain⟨M,rfl⟩: ∃k,M=k+2:=⟨M -2,by omega⟩
 have h1:SG L0 ER (λ(v:List Node) L' r=>r= .inl (pp L' false,k,nm,0,[],v,ns,[],())) (zeC (RG M) (pp L false) k nm 0 [] ns []) ((pG n).stmts true (L.map tk)):=by
  unfold zeC;simp only[zV,zq];exact .rr ((H n (yJ _) M (by omega)).stmts true L ok) (λ_ _=>⟨_,rfl,_,rfl⟩) λv L'=>⟨_,rfl,rfl⟩
 show SG _ _ _ (ze1 (RG (M+1)) (pp L no) k nm 0 [] ns []) _;unfold ze1;simp only[zV,zq];exact h1.same (by rintro a _ ⟨y,rfl⟩;exact⟨_,rfl,_,rfl⟩) (by rintro v L' _ _ rfl;exact⟨_,rfl,rfl⟩)
include h0 in
theorem zO3(k:Int)(nm:Str)(ok:TL L0 L):SG L0 EL (OR no) (zdC (RG M) (pp L no) 0 [] 0 [] k nm 0 [] [] [] [] [])
  ((zaC [40] (L.map tk)).bn λt=>(zet t).bd λns=>(zaC [123] ns.2).bn λt=>((pG n).stmts true t).bd λl=>(zaC [125] l.2).bn λt=>gt (⟨k,nm,0,[],ns.1,l.1⟩,t)):=by
 unfold zdC zhe zhc zhj;simp only[zV,zq];refine .need ok (λ_ _=>⟨_,rfl,_,rfl⟩) λL1 ok1=>?_
 refine(zPJ (no:=no) k nm ok1 (by have:=ok1.suf.length_le;omega)).gen (by rintro a _ ⟨y,rfl⟩;exact⟨_,rfl,_,rfl⟩) ?_
 rintro ns L2 _ _ ok2 rfl;refine .need ok2 (λ_ _=>⟨_,rfl,_,rfl⟩) λL3 ok3=>?_
 refine(zQM (no:=no) H hn hM k nm ns ok3).gen (by rintro a _ ⟨y,rfl⟩;exact⟨_,rfl,_,rfl⟩) ?_
 rintro l L4 _ _ ok4 rfl;exact .need ok4 (λ_ _=>⟨_,rfl,_,rfl⟩) λL5 ok5=> .gt ok5 rfl
include h0 in
theorem zS4(k:Int)(ok:TL L0 L):SG L0 EL (OR no) (zfq (RG M) k (pp L no)) (zoT (pG n) k (L.map tk)):=by
 obtain⟨x,r,rfl⟩:=ok.ok.cons;have hk:=zhA ok 1;rw[show((1:Nat):Int)=1 from rfl]at hk;have h1:=λ(L1:List zy) nm ok1=>zO3 (no:=no) (L:=L1) H hn hM h0 k nm ok1
 unfold zfq zoT;simp only[zV,zq,zdK,qz1,hk];cases h39:k==39 with
 |true=>
  simp only[yB,qz1];have e: ∀(f:Str×zB->PR Node),((if(zaa ((x::r).map tk)==1)=true then gt (tText ((x::r).map tk),((x::r).map tk).tail)else bad ((x::r).map tk)).bd f)=if(zaa ((x::r).map tk)==1)=true then f (tText ((x::r).map tk),((x::r).map tk).tail)else bad ((x::r).map tk):=λf=>by split<;>rfl
  rw[e];refine .name ok (λ_ _=>⟨_,rfl,_,rfl⟩) λhk ok1=>?_
  rw[<-yM];exact h1 _ _ ok1
 |false=>
  simp only[qz2,yA,qz1];cases hk1:zaa ((x::r).map tk)==1 with
  |true=>
   simp only[yB];have e: ∀(f:Str×zB->PR Node),((Go.D08.gt (tText ((x::r).map tk),((x::r).map tk).tail)).bd f)=if(zaa ((x::r).map tk)==1)=true then f (tText ((x::r).map tk),((x::r).map tk).tail)else bad ((x::r).map tk):=λf=>by rw[yL hk1];rfl
   rw[e];refine .name ok (λ_ _=>⟨_,rfl,_,rfl⟩) λhk ok1=>?_
   rw[<-yM];exact h1 _ _ ok1
  |false=>
   simp only[qz2,yA,zeg];exact h1 _ _ ok
theorem zK2: ∀(k m:Nat),k<=n+1->k<=m->∀(l:List Node) (L:List zy),l.length+k<=n+1->TL L0 L->
  SG L0 EL (λ(v:List Node) L' r=>r= .inr (nd 22 (l++v),pp L' no,())) (zaI (zeV (RG M)) m (pp L no,0,[],0,[],22,[],0,[],[],[],[],l,())) ((pG k).vars no (L.map tk))
 |0,m,_,_,l,L,_,ok=>trivial
 |k+1,0,_,hm,l,L,_,ok=>by omega
 |k+1,m+1,hk,hm,l,L,hl,ok=>by
  have ih:=λl L hl ok=>zK2 k m (by omega) (by omega) l L hl ok
  show SG _ _ _ _ (zl5 (pG k) no (L.map tk));rw[zfR];generalize zaI (zeV (RG M)) m=W at ih⊢
  have fin: ∀(d:List Node) (L1:List zy),TL L0 L1->SG L0 EL (λ(v:List Node) L' r=>r= .inr (nd 22 (l++v),pp L' no,()))
    ((ze3 (RG M) (pp L1 no) 0 [] 0 [] 22 [] 0 [] 23 (tText (L.map tk)) 0 [] [] [] [] l [] d).bind (zJj W))
    (if tIs [44] (L1.map tk)=true then((pG k).vars no (L1.map tk).tail).bd λq=>gt (ndN 23 (tText (L.map tk)) d::q.1,q.2)else gt ([ndN 23 (tText (L.map tk)) d],L1.map tk)):=λd L1 ok1=>by
   unfold ze3 zjw;simp only[zV,qz3,qz6,Nat.zero_add];rw[zd1 (by omega)];simp only[qz1];refine .assoc (.has ok1 (λh ok2=>?_) λh=>?_)
   ·simp only[yO,qz2,yA];rw[<-yM];exact(ih (l++[ndN 23 (tText (L.map tk)) d]) _ (by rw[qz5];simp only[qz3,qz6];omega) ok2).map (λv=>ndN 23 (tText (L.map tk)) d::v) (by rintro v L' _ rfl;simp)
   ·simp only[yN,yB];exact .gt ok1 rfl
  unfold zl5;unfold zeV;simp only[zV,zq];refine .assoc (.name ok (λ_ _=>⟨_,rfl,_,rfl⟩) λhk1 ok1=>?_)
  have e: ∀(f:List Node×zB->PR (List Node)),((if tIs [61] (L.map tk).tail=true then((pG k).assign no (L.map tk).tail.tail).bd λy=>Go.D08.gt ([y.1],y.2)else Go.D08.gt ([],(L.map tk).tail)).bd f)=
    if tIs [61] (L.tail.map tk)=true then((pG k).assign no (L.tail.map tk).tail).bd λy=>f ([y.1],y.2)else f ([],L.tail.map tk):=λf=>by
   rw[yM];split
   ·rw[zsr];rfl
   ·rfl
  rw[e];refine .assoc (.has ok1 (λh ok2=>?_) λh=>?_)
  ·simp only[yB];rw[<-yM];refine .assoc (.r ((H k (by omega) M (by omega)).assign no _ ok2) (λ_ _=>⟨_,rfl,_,rfl⟩) λy L3 ok3=>?_);exact fin [y] L3 ok3
  ·simp only[qz2,yA];exact fin [] _ ok1
theorem zRZ(ok:TL L0 L):SG L0 EL (λl L' r=>r= .inr (nd 22 l,pp L' no,())) (zho (RG M) (pp L no)) (zl5 (pG n) no (L.map tk)):=by
 unfold zho;simp only[zV];exact .loop (zK2 H hn hM (n+1) 1000000000000 (yJ _) (by omega) [] L (by simp) ok) (yJ _)
theorem zQL(ok:TL L0 L):SG L0 EL (OR false) (zgF (RG M) (pp L false)) (zk3 (pG n) (L.map tk)):=by
 unfold zgF zk3;simp only[zV,zq,zga];refine .need ok (λ_ _=>⟨_,rfl,_,rfl⟩) λL1 ok1=>?_
 refine .r ((H n (yJ _) M (by omega)).stmts false L1 ok1) (λ_ _=>⟨_,rfl,_,rfl⟩) λl L2 ok2=>?_
 exact .need ok2 (λ_ _=>⟨_,rfl,_,rfl⟩) λL3 ok3=> .gt ok3 rfl
theorem zS0(ok:TL L0 L):SG L0 EL (OR false) (zhu (RG M) (pp L false)) (zqw (pG n) (L.map tk)):=by
 unfold zhu zqw;simp only[zV,zq,zga];refine .need ok (λ_ _=>⟨_,rfl,_,rfl⟩) λL1 ok1=>?_
 refine .r ((H n (yJ _) M (by omega)).expr false L1 ok1) (λ_ _=>⟨_,rfl,_,rfl⟩) λl L2 ok2=>?_
 exact .need ok2 (λ_ _=>⟨_,rfl,_,rfl⟩) λL3 ok3=> .gt ok3 rfl
theorem zTY(s:Str)(ok:TL L0 L):SG L0 ER (OL false) (zgJ (RG M) s (pp L false)) (zkS (pG n) s (L.map tk)):=by
 unfold zgJ zkS;simp only[zV,zq,zga];refine .has ok (λh ok1=>?_) λh=>?_
 ·exact .gt' ok1 (by rw[yM]) rfl
 ·refine .r ((H n (yJ _) M (by omega)).expr false L ok) (λ_ _=>⟨_,rfl,_,rfl⟩) λl L2 ok2=>?_
  exact .need ok2 (λ_ _=>⟨_,rfl,_,rfl⟩) λL3 ok3=> .gt ok3 rfl
theorem zAT(ok:TL L0 L):SG L0 EL (λv L' r=>r= .inr (za5 v,pp L' false,())) ((RG M).zbm (pp L false)) ((pG n).stmt (L.map tk)):=by
 obtain⟨M,rfl⟩: ∃k,M=k+1:=⟨M -1,by omega⟩
 show SG _ _ _ (zhv (RG M) (pp L false)) _;unfold zhv;simp only[zV,zq];refine .ll ((H n (yJ _) M (by omega)).stmt L ok) (λ_ _=>⟨_,rfl,_,rfl⟩) λv L'=>?_
 simp only[bne];unfold za5;cases v.Kind==25 with
 |true=>exact⟨_,rfl,rfl⟩
 |false=>exact⟨_,rfl,rfl⟩
def zOJ(g:PG)(each:Bool)(x:Node)(t:zB):PR Node:=
 if(each&&tIs [105,110] t)=true then(g.expr false t.tail).bd λy=>(zaC [41] y.2).bn λt=>(g.stmt t).bd λb=>gt (nd 30 [x,y.1,za5 b.1],b.2)
 else(zaC [59] t).bn λt=>(g.till [59] t).bd λy=>(g.till [41] y.2).bd λz=>(g.stmt z.2).bd λb=>gt (nd 29 [x,y.1,z.1,za5 b.1],b.2)
theorem zQY(x:Node)(ok:TL L0 L):SG L0 EL (OR false) (ze9 (RG M) (pp L false) 0 [] 0 [] 29 [] 0 [] [] [] [] [x])
  ((zaC [59] (L.map tk)).bn λt=>((pG n).till [59] t).bd λy=>((pG n).till [41] y.2).bd λz=>((pG n).stmt z.2).bd λb=>gt (nd 29 [x,y.1,z.1,za5 b.1],b.2)):=by
 have S:=H n (yJ _) M (by omega);unfold ze9 zjv ziT ziN zey;simp only[zV,zq];refine .need ok (λ_ _=>⟨_,rfl,_,rfl⟩) λL1 ok1=>?_
 refine .r (S.till [59] L1 ok1) (λ_ _=>⟨_,rfl,_,rfl⟩) λy L2 ok2=>?_
 refine .r (S.till [41] L2 ok2) (λ_ _=>⟨_,rfl,_,rfl⟩) λz L3 ok3=>?_
 refine .room (by simp) ?_;refine(zAT H hn hM ok3).gen (by rintro a _ ⟨y,rfl⟩;exact⟨_,rfl,_,rfl⟩) ?_
 rintro b L4 _ _ ok4 rfl;exact .room (by simp) (.gt ok4 rfl)
theorem zQa(x:Node)(each:Bool)(ok:TL L0 L):SG L0 EL (OR false) (ze7 (RG M) each (pp L false) 0 [] 0 [] 29 [] 0 [] [] [] [] [x]) (zOJ (pG n) each x (L.map tk)):=by
 have S:=H n (yJ _) M (by omega);have h8:=zQY H hn hM x ok;unfold ze7 zOJ;simp only[zV,zq];cases each with
 |false=>
  simp only[qz2,yA,Bool.false_and];exact h8
 |true=>
  simp only[yB,Bool.true_and];refine .has ok (λh ok1=>?_) λh=>?_
  ·simp only[yB];unfold zi3 zi4 zje zja zey;simp only[zV,zq];rw[<-yM];refine .r (S.expr false _ ok1) (λ_ _=>⟨_,rfl,_,rfl⟩) λy L2 ok2=>?_
   refine .room (by simp) ?_;refine .need ok2 (λ_ _=>⟨_,rfl,_,rfl⟩) λL3 ok3=>?_
   refine(zAT H hn hM ok3).gen (by rintro a _ ⟨y,rfl⟩;exact⟨_,rfl,_,rfl⟩) ?_
   rintro b L4 _ _ ok4 rfl;exact .room (by simp) (.gt ok4 rfl)
  ·simp only[qz2,yA];exact h8
theorem zSr(ok:TL L0 L):SG L0 EL (OR false) (zhq (RG M) (pp L false)) (zne (pG n) (L.map tk)):=by
 have S:=H n (yJ _) M (by omega);have h3:=λ(L1:List zy) x each ok1=>zQa (L:=L1) H hn hM x each ok1
 unfold zhq zeY zi7 zne zlW;simp only[zV,zq,zFA,qz1];refine .need ok (λ_ _=>⟨_,rfl,_,rfl⟩) λL1 ok1=>?_
 have e: ∀(f:Node×zB->PR Node),((if tIs [118,97,114] (L1.map tk)=true then((pG n).vars true (L1.map tk).tail).bd λl=>Go.D08.gt (nd 22 l.1,l.2)else if tIs [59] (L1.map tk)=true then Go.D08.gt (nd 42 [],L1.map tk)else(pG n).expr true (L1.map tk)).bd f)=
   if tIs [118,97,114] (L1.map tk)=true then((pG n).vars true (L1.map tk).tail).bd λl=>f (nd 22 l.1,l.2)else if tIs [59] (L1.map tk)=true then f (nd 42 [],L1.map tk)else((pG n).expr true (L1.map tk)).bd f:=λf=>by
  split
  ·rw[zsr];rfl
  ·split<;>rfl
 rw[e];refine .has (no:=true) ok1 (λh ok2=>?_) λh=>?_
 ·simp only[yB];rw[<-yM];refine(S.vars true _ ok2).gen (by rintro a _ ⟨y,rfl⟩;exact⟨_,rfl,_,rfl⟩) ?_
  rintro l L3 _ _ ok3 rfl;rcases l with _| ⟨d,_| ⟨d2,r⟩⟩
  ·exact h3 L3 (nd 22 []) false ok3
  ·have hb:(((d.L.length:Nat):Int)==0)=d.L.isEmpty:=by
    cases d.L with
    |nil=>rfl
    |cons a r=>exact yH.2 (by simp only[qz3];omega)
   show SG _ _ _ (ze7 (RG M) (((d.L.length:Nat):Int)==0) (pp L3 false) 0 [] 0 [] 29 [] 0 [] [] [] [] [nd 22 [d]]) _;rw[hb];exact h3 L3 (nd 22 [d]) d.L.isEmpty ok3
  ·have hb:((((d::d2::r).length:Nat):Int)==1)=false:=by rw[yH];simp only[qz3];omega
   simp only[nd,hb,qz2,yA,qz1];exact h3 L3 (nd 22 (d::d2::r)) false ok3
 ·simp only[qz2,yA];refine .is (no:=true) ok1 (λh=>?_) λh=>?_
  ·simp only[yO,qz2,yA];exact h3 L1 (nd 42 []) false ok1
  ·simp only[yN,yB];refine(S.expr true _ ok1).gen (by rintro a _ ⟨y,rfl⟩;exact⟨_,rfl,_,rfl⟩) ?_
   rintro x L3 _ hq ok3 rfl;have hx:x.Kind≠22:=(zRM n).expr _ _ _ hq;have he:zkw x=zcF x.Kind:=by unfold zkw;rw[yK (by simpa using hx)]
   show SG _ _ _ _ (if(zkw x&&tIs [105,110] (L3.map tk))=true then _ else _);rw[he];exact h3 L3 x (zcF x.Kind) ok3
end
section
variable {L0 L:List zy} {no:Bool} {n M:Nat} (H: ∀k,k<=n->∀N,20*k+20<=N->zwF L0 (RG N) (pG k)) (hn:n<=10000000000) (hM:20*n+30<=M) (h0:L0.length<=10000000000)
include H hn hM
theorem zTW(caught:Bool)(nm:Str)(b c:Node)(hc:(c.Kind==42)= !caught)(ok:TL L0 L):SG L0 EL (OR false) (zfE (RG M) caught (pp L false) 0 [] 0 [] 35 nm 0 [] [] [] [] [b,c,nd 42 []])
  ((zkz (pG n) (L.map tk)).bd λf=>if(f.1.Kind==42&&c.Kind==42)=true then bad f.2 else gt (ndN 35 nm [b,c,f.1],f.2)):=by
 have S:=H n (yJ _) M (by omega);unfold zfE zjU zjV zgx zkz;simp only[zV,zq]
 have e: ∀(f:Node×zB->PR Node),((if tIs [102,105,110,97,108,108,121] (L.map tk)=true then(pG n).block (L.map tk).tail else Go.D08.gt (nd 42 [],L.map tk)).bd f)=if tIs [102,105,110,97,108,108,121] (L.map tk)=true then((pG n).block (L.map tk).tail).bd f else f (nd 42 [],L.map tk):=λf=>by
  split<;>rfl
 rw[e];refine .has ok (λh ok1=>?_) λh=>?_
 ·simp only[yB];rw[<-yM];refine(S.block _ ok1).gen (by rintro a _ ⟨y,rfl⟩;exact⟨_,rfl,_,rfl⟩) ?_
  rintro f L2 _ hq ok2 rfl;have h25:f.Kind=25:=zIH hq;have hf:(f.Kind==42)=false:=by rw[h25];rfl
  simp only[hf,Bool.false_and,qz2,yA];exact .gt ok2 rfl
 ·simp only[qz2,yA,hc];cases caught with
  |true=>
   simp only[yO,qz2,yA,Bool.and_false];exact .gt ok rfl
  |false=>
   simp only[yN,yB];exact .fail ok λa=>⟨_,rfl,_,rfl⟩
theorem zUH(h9:20*n+35<=M)(ok:TL L0 L):SG L0 EL (OR false) ((RG M).zen (pp L false)) (zB3 (pG n) (L.map tk)):=by
 obtain⟨M,rfl⟩: ∃k,M=k+1:=⟨M -1,by omega⟩
 have S:=H n (yJ _) M (by omega);have h7:=λ(L1:List zy) caught nm b c hc ok1=>zTW (L:=L1) (M:=M) H hn (by omega) caught nm b c hc ok1
 show SG _ _ _ (zh8 (RG M) (pp L false)) _;unfold zh8 zhC zkc zj8 zka zkd zj1 zB3 zmZ;simp only[zV,zq,zga];refine .l (S.block L ok) (λ_ _=>⟨_,rfl,_,rfl⟩) λb L1 ok1=>?_
 have e: ∀(x y:PR (Str×Node)) (f:(Str×Node)×zB->PR Node),((if tIs [99,97,116,99,104] (L1.map tk)=true then x else y).bd f)=if tIs [99,97,116,99,104] (L1.map tk)=true then x.bd f else y.bd f:=λx y f=>by
  split<;>rfl
 rw[e];refine .has ok1 (λh ok2=>?_) λh=>?_
 ·simp only[yB];rw[<-yM,zBD];refine .need ok2 (λ_ _=>⟨_,rfl,_,rfl⟩) λL3 ok3=>?_
  have e2: ∀(x:PR (Str×Node)) (f:(Str×Node)×zB->PR Node),((if(zaa (L3.map tk)==1)=true then x else bad (L3.map tk)).bd f)=if(zaa (L3.map tk)==1)=true then x.bd f else bad (L3.map tk):=λx f=>by
   split<;>rfl
  rw[e2];refine .name ok3 (λ_ _=>⟨_,rfl,_,rfl⟩) λhk ok4=>?_
  rw[<-yM,zBD];refine .need ok4 (λ_ _=>⟨_,rfl,_,rfl⟩) λL5 ok5=>?_
  rw[zsr];refine(S.block L5 ok5).gen (by rintro a _ ⟨y,rfl⟩;exact⟨_,rfl,_,rfl⟩) ?_
  rintro c L6 _ hq ok6 rfl;have h25:c.Kind=25:=zIH hq;exact h7 L6 true (tText (L3.map tk)) b c (by rw[h25];rfl) ok6
 ·simp only[qz2,yA];exact h7 L1 false [] b (nd 42 []) rfl ok1
theorem zNV(h9:20*n+35<=M)(ok:TL L0 L):SG L0 EL (OR false) ((RG M).zdh (pp L false))
  (((pG n).head (L.map tk)).bd λx=>((pG n).stmt x.2).bd λb=>if tIs [101,108,115,101] b.2=true then((pG n).stmt b.2.tail).bd λc=>gt (nd 26 [x.1,za5 b.1,za5 c.1],c.2)else gt (nd 26 [x.1,za5 b.1],b.2)):=by
 obtain⟨M,rfl⟩: ∃k,M=k+1:=⟨M -1,by omega⟩
 have S:=H n (yJ _) M (by omega);have hb:=λ(L1:List zy) ok1=>zAT (L:=L1) (M:=M) H hn (by omega) ok1
 show SG _ _ _ (zf6 (RG M) (pp L false)) _;unfold zf6 zfZ zis ziq;simp only[zV,zq,zga];refine .l (S.head L ok) (λ_ _=>⟨_,rfl,_,rfl⟩) λx L1 ok1=>?_
 refine(hb L1 ok1).gen (by rintro a _ ⟨y,rfl⟩;exact⟨_,rfl,_,rfl⟩) ?_
 rintro b L2 _ _ ok2 rfl;refine .has ok2 (λh ok3=>?_) λh=>?_
 ·simp only[yB];rw[<-yM];refine(hb _ ok3).gen (by rintro a _ ⟨y,rfl⟩;exact⟨_,rfl,_,rfl⟩) ?_
  rintro c L4 _ _ ok4 rfl;exact .room (by simp) (.gt ok4 rfl)
 ·simp only[qz2,yA];exact .gt ok2 rfl
theorem zKB(o:Bool)(acc:List Node)(ha:acc.length<=20000000000): ∀(k m:Nat),k<=n->k<=m->∀(cur:List Node) (L:List zy),cur.length+k<=n+1->TL L0 L->
  SG L0 (λa r=>∃y,r= .inr (.inl (zaf.code 45 a,y))) (λ(v:List Node) L' r=>r= .inl (o,pp L' false,0,[],0,[],36,[],0,[],[],[],[],acc++[nd 37 (cur++v)],()))
   (zaI (zeu (RG M)) m (o,pp L false,0,[],0,[],36,[],0,[],37,[],0,[],[],[],[],acc,[],cur,())) ((pG k).body (L.map tk))
 |0,m,_,_,l,L,_,ok=>trivial
 |k+1,0,_,hm,l,L,_,ok=>by omega
 |k+1,m+1,hk,hm,cur,L,hl,ok=>by
  show SG _ _ _ _ (zna (pG k) (L.map tk));have ih:=λcur L hl ok=>zKB o acc ha k m (by omega) (by omega) cur L hl ok
  unfold zna;rw[zfR];generalize zaI (zeu (RG M)) m=W at ih⊢;unfold zeu;simp only[zV,zq];rw[zmo ok.ok [[99,97,115,101],[100,101,102,97,117,108,116],[125]] ([32,99,97,115,101,32,100,101,102,97,117,108,116,32,125,32]:Str) (by decide+kernel) (by decide+kernel) (by decide),qz1];obtain⟨x,r,rfl⟩:=ok.ok.cons;have k0:=zhA ok 0;rw[show((0:Nat):Int)=0 from rfl]at k0;simp only[zdK,qz1,bne,k0,qz3,qz6,Nat.zero_add];cases h1:zbs [[99,97,115,101],[100,101,102,97,117,108,116],[125]] ((x::r).map tk)with
  |true=>
   simp only[yO,qz2,yA,qz1,Bool.true_or,yB];rw[zd1 (by omega)];exact .gt ok (by show _=_;rw[List.append_nil];rfl)
  |false=>
   simp only[yN,yB,qz1,Bool.false_or];cases h2:zaa ((x::r).map tk)==0 with
   |true=>
    simp only[yO,qz2,yA,yB];rw[zd1 (by omega)];exact .gt ok (by show _=_;rw[List.append_nil];rfl)
   |false=>
    simp only[yN,yB,qz2,yA];refine .assoc (.l ((H k (by omega) M (by omega)).stmt _ ok) (λ_ _=>⟨_,rfl,_,rfl⟩) λy L3 ok3=>?_);refine .assoc (.room (by omega) ?_);exact(ih (cur++[y]) L3 (by rw[qz5];simp only[qz3,qz6];omega) ok3).map (λv=>y::v) (by rintro v L' _ rfl;simp)
theorem zKw: ∀(k m:Nat),k<=n->k<=m->∀(o:Bool) (acc:List Node) (L:List zy),acc.length+k<=n+1->TL L0 L->
  SG L0 EL (λ(v:List Node) L' r=>r= .inr (nd 36 (acc++v),pp L' false,())) (zaI (zex (RG M)) m (o,pp L false,0,[],0,[],36,[],0,[],[],[],[],acc,())) ((pG k).cases o (L.map tk))
 |0,m,_,_,o,l,L,_,ok=>trivial
 |k+1,0,_,hm,o,l,L,_,ok=>by omega
 |k+1,m+1,hk,hm,o,acc,L,hl,ok=>by
  have S:=H k (by omega) M (by omega);have ih:=λo acc L hl ok=>zKw k m (by omega) (by omega) o acc L hl ok
  show SG _ _ _ _ (ziE (pG k) o (L.map tk));rw[zfR];generalize zaI (zex (RG M)) m=W at ih⊢
  have j4: ∀(o':Bool) (x:Node) (L1:List zy),TL L0 L1->SG L0 EL (λ(v:List Node) L' r=>r= .inr (nd 36 (acc++v),pp L' false,()))
    ((zer (RG M) o' (pp L1 false) 0 [] 0 [] 36 [] 0 [] 37 [] 0 [] [] [] [] acc [] [x]).bind (zJj W))
    ((zaC [58] (L1.map tk)).bn λt=>((pG k).body t).bd λl=>((pG k).cases o' l.2).bd λr=>gt (nd 37 (x::l.1)::r.1,r.2)):=λo' x L1 ok1=>by
   unfold zer;simp only[zV];refine .assoc (.need ok1 (λ_ _=>⟨_,rfl,_,rfl⟩) λL2 ok2=>?_);have hb:=SG.loop (zKB H hn hM o' acc (by omega) k 1000000000000 (by omega) (by omega) [x] L2 (by simp;omega) ok2) (yJ _)
   refine hb.gen (by rintro a _ ⟨y,rfl⟩;exact⟨_,rfl,_,rfl⟩) ?_
   rintro l L3 _ _ ok3 rfl;exact(ih o' (acc++[nd 37 ([x]++l)]) L3 (by rw[qz5];simp only[qz3,qz6];omega) ok3).map (λv=>nd 37 (x::l)::v) (by rintro v L' _ rfl;simp)
  have j2: ∀(L1:List zy),TL L0 L1->SG L0 EL (λ(v:List Node) L' r=>r= .inr (nd 36 (acc++v),pp L' false,()))
    ((zes (RG M) o (pp L1 false) 0 [] 0 [] 36 [] 0 [] 37 [] 0 [] [] [] [] acc [] [nd 42 []]).bind (zJj W))
    ((zaC [99,97,115,101] (L1.map tk)).bn λt=>((pG k).expr false t).bd λx=>(zaC [58] x.2).bn λt=>((pG k).body t).bd λl=>((pG k).cases o l.2).bd λr=>gt (nd 37 (x.1::l.1)::r.1,r.2)):=λL1 ok1=>by
   unfold zes ziM;simp only[zV,zq];refine .assoc (.need ok1 (λ_ _=>⟨_,rfl,_,rfl⟩) λL2 ok2=>?_);refine .assoc (.r (S.expr false L2 ok2) (λ_ _=>⟨_,rfl,_,rfl⟩) λx L3 ok3=>?_);exact j4 o x L3 ok3
  unfold ziE;unfold zex;simp only[zV,zq];refine .assoc (.has ok (λh ok1=>?_) λh=>?_)
  ·simp only[yO,qz2,yA];exact .gt' ok1 (by rw[yM]) (by show _=_;rw[List.append_nil];rfl)
  ·simp only[yN,yB];cases o with
   |false=>
    simp only[Bool.false_and,qz2,yA];exact j2 L ok
   |true=>
    simp only[Bool.true_and,yB];refine .assoc (.has ok (λh ok1=>?_) λh=>?_)
    ·simp only[yB];rw[<-yM];exact j4 false (nd 42 []) _ ok1
    ·simp only[qz2,yA];exact j2 L ok
theorem zOY(h9:20*n+35<=M)(ok:TL L0 L):SG L0 EL (OR false) ((RG M).zdz (pp L false))
  (((pG n).head (L.map tk)).bd λx=>(zaC [123] x.2).bn λt=>((pG n).cases true t).bd λl=>gt (nd 36 (x.1::l.1),l.2)):=by
 obtain⟨M,rfl⟩: ∃k,M=k+1:=⟨M -1,by omega⟩
 have S:=H n (yJ _) M (by omega);show SG _ _ _ (zgH (RG M) (pp L false)) _;unfold zgH;simp only[zV,zq];refine .l (S.head L ok) (λ_ _=>⟨_,rfl,_,rfl⟩) λx L1 ok1=>?_
 refine .need ok1 (λ_ _=>⟨_,rfl,_,rfl⟩) λL2 ok2=>?_
 exact(SG.loop (zKw H hn (by omega) n 1000000000000 (yJ _) (by omega) true [x] L2 (by simp;omega) ok2) (yJ _)).map (λv=>nd 36 (x::v)) (by rintro v L' _ rfl;rfl)
theorem zKo(k:Int)(ok:TL L0 L):SG L0 EL (OR false) (zgt k (pp L false)) (zjg k (L.map tk)):=by
 obtain⟨x,r,rfl⟩:=ok.ok.cons;have k1:=zhA ok 1;rw[show((1:Nat):Int)=1 from rfl]at k1;have hf:x.Fresh=ze0 ((x::r).map tk):=rfl;unfold zgt zjg;simp only[zV,zdK,qz1,k1,hf];cases h1:zaa ((x::r).map tk)==1 with
 |false=>
  simp only[qz2,yA,qz1,Bool.false_and];exact .end ok (λ_ _=>⟨_,rfl,_,rfl⟩) λL3 ok3=> .gt ok3 rfl
 |true=>
  simp only[yB,qz1,Bool.true_and];cases h2:ze0 ((x::r).map tk)with
  |true=>
   simp only[yO,qz2,yA];exact .end ok (λ_ _=>⟨_,rfl,_,rfl⟩) λL3 ok3=> .gt ok3 rfl
  |false=>
   simp only[yN,yB];refine .take ok (zbK h1 (by decide)) λa ha ok2=>?_
   rw[<-yM];refine .end ok2 (λ_ _=>⟨_,rfl,_,rfl⟩) λL3 ok3=> .gt ok3 ?_
   simp only[ha];rfl
theorem zKm: ∀(k m:Nat),k<=n+1->k<=m->∀(f:Bool) (l:List Node) (L:List zy),l.length+k<=n+1->TL L0 L->
  SG L0 ER (λ(v:List Node) L' r=>r= .inl (l++v,pp L' false,())) (zaI (zeq (RG M)) m (f,[125],pp L false,l,())) ((pG k).stmts f (L.map tk))
 |0,m,_,_,f,l,L,_,ok=>trivial
 |k+1,0,_,hm,f,l,L,_,ok=>by omega
 |k+1,m+1,hk,hm,f,l,L,hl,ok=>by
  have S:=H k (by omega) M (by omega);have ih:=λl L hl ok=>zKm k m (by omega) (by omega) f l L hl ok
  show SG _ _ _ _ (zh4 (pG k) f (L.map tk));rw[zfR];generalize zaI (zeq (RG M)) m=W at ih⊢
  have go: ∀(y:Node) (L3:List zy),TL L0 L3->SG L0 ER (λ(v:List Node) L' r=>r= .inl (l++v,pp L' false,())) (W (f,[125],pp L3 false,l++[y],())) (((pG k).stmts f (L3.map tk)).bd λq=>gt (y::q.1,q.2)):=λy L3 ok3=>
   (ih (l++[y]) L3 (by rw[qz5];simp only[qz3,qz6];omega) ok3).map (λv=>y::v) (by rintro v L' _ rfl;simp)
  have j2:SG L0 ER (λ(v:List Node) L' r=>r= .inl (l++v,pp L' false,()))
    ((zeA (RG M) f [125] (pp L false) l 0 [] 0 [] [] []).bind (zJj W)) (((pG k).stmt (L.map tk)).bd λx=>((pG k).stmts f x.2).bd λq=>gt (x.1::q.1,q.2)):=by
   unfold zeA;simp only[zV,zq,qz3,qz6,Nat.zero_add];refine .assoc (.l (S.stmt L ok) (λ_ _=>⟨_,rfl,_,rfl⟩) λy L3 ok3=>?_);exact .assoc (.room (by omega) (go y L3 ok3))
  unfold zh4;unfold zeq;simp only[zV,zq];rw[ztl ok.ok [125],qz1];have hget:zT L 0=some (L.head (by obtain⟨x,r,rfl⟩:=ok.ok.cons;simp)):=by obtain⟨x,r,rfl⟩:=ok.ok.cons;rfl
  have k0:((L.head (by obtain⟨x,r,rfl⟩:=ok.ok.cons;simp)).Kind==0)=(zaa (L.map tk)==0):=by obtain⟨x,r,rfl⟩:=ok.ok.cons;exact zhA ok 0
  simp only[hget,qz1,bne,k0,qz3,qz6,Nat.zero_add];cases h1:tIs [125] (L.map tk)with
  |true=>
   simp only[yO,qz2,yA,qz1,Bool.true_or,yB];exact .gt ok (by simp)
  |false=>
   simp only[yN,yB,qz1,Bool.false_or];cases h2:zaa (L.map tk)==0 with
   |true=>
    simp only[yO,qz2,yA,yB];exact .gt ok (by simp)
   |false=>
    simp only[yN,yB,qz2,yA];cases f with
    |false=>
     simp only[Bool.false_and,qz2,yA];exact j2
    |true=>
     simp only[Bool.true_and,yB]
     have e: ∀(x y:PR Node) (f:Node×zB->PR (List Node)),((if tIs [102,117,110,99,116,105,111,110] (L.map tk)=true then x else y).bd f)=if tIs [102,117,110,99,116,105,111,110] (L.map tk)=true then x.bd f else y.bd f:=λx y f=>by
      split<;>rfl
     rw[e];refine .assoc (.has ok (λh ok1=>?_) λh=>?_)
     ·simp only[yB];rw[<-yM];refine .assoc (.l (S.func false 39 _ ok1) (λ_ _=>⟨_,rfl,_,rfl⟩) λy L3 ok3=>?_);exact .assoc (.room (by omega) (go y L3 ok3))
     ·simp only[qz2,yA];exact j2
theorem zPd(f:Bool)(ok:TL L0 L):SG L0 ER (OL false) (zgT (RG M) f [125] (pp L false)) (zh4 (pG n) f (L.map tk)):=by
 unfold zgT;simp only[zV];exact .loop (zKm H hn hM (n+1) 1000000000000 (yJ _) (by omega) f [] L (by simp) ok) (yJ _)
end
section
variable {L0 L:List zy} {no:Bool} {n M:Nat} (H: ∀k,k<=n->∀N,20*k+20<=N->zwF L0 (RG N) (pG k)) (hn:n<=10000000000) (hM:20*n+39<=M) (h0:L0.length<=10000000000)
include H hn hM
theorem zTm(ok:TL L0 L):SG L0 EL (OR false) (zhm (RG M) (pp L false)) (zbU (pG n) (L.map tk)):=by
 have S:=H n (yJ _) M (by omega);have hb:=λ(L1:List zy) ok1=>zAT (L:=L1) (M:=M) H hn (by omega) ok1
 unfold zhm zbU;simp only[zV,zq];refine .is ok (λh=>?_) λh=>?_
 ·exact .ll (S.block L ok) (λ_ _=>⟨_,rfl,_,rfl⟩) λv L'=>⟨_,rfl,rfl⟩
 simp only[qz2,yA];refine .has ok (λh ok1=> .gt' ok1 (by rw[yM]) rfl) λh=>?_
 simp only[qz2,yA];refine .has ok (λh ok1=>?_) λh=>?_
 ·simp only[yB];rw[<-yM];refine(S.vars false _ ok1).gen (by rintro a _ ⟨y,rfl⟩;exact⟨_,rfl,_,rfl⟩) ?_
  rintro l L2 _ _ ok2 rfl;exact .end ok2 (λ_ _=>⟨_,rfl,_,rfl⟩) λL3 ok3=> .gt ok3 rfl
 simp only[qz2,yA];refine .has ok (λh ok1=>?_) λh=>?_
 ·simp only[yB];rw[<-yM];exact .ll (zNV H hn (by omega) (by omega) ok1) (λ_ _=>⟨_,rfl,_,rfl⟩) λv L'=>⟨_,rfl,rfl⟩
 simp only[qz2,yA];refine .has ok (λh ok1=>?_) λh=>?_
 ·simp only[yB];rw[<-yM];refine .l (S.head _ ok1) (λ_ _=>⟨_,rfl,_,rfl⟩) λx L2 ok2=>?_
  refine(hb L2 ok2).gen (by rintro a _ ⟨y,rfl⟩;exact⟨_,rfl,_,rfl⟩) ?_
  rintro b L3 _ _ ok3 rfl;exact .gt ok3 rfl
 simp only[qz2,yA];refine .has ok (λh ok1=>?_) λh=>?_
 ·simp only[yB];rw[<-yM];refine(hb _ ok1).gen (by rintro a _ ⟨y,rfl⟩;exact⟨_,rfl,_,rfl⟩) ?_
  rintro b L3 _ _ ok3 rfl;refine .need ok3 (λ_ _=>⟨_,rfl,_,rfl⟩) λL4 ok4=>?_
  refine .l (S.head _ ok4) (λ_ _=>⟨_,rfl,_,rfl⟩) λx L2 ok2=>?_
  exact .end ok2 (λ_ _=>⟨_,rfl,_,rfl⟩) λL3 ok3=> .gt ok3 rfl
 simp only[qz2,yA];refine .has ok (λh ok1=>?_) λh=>?_
 ·simp only[yB];rw[<-yM];exact .ll (S.loop _ ok1) (λ_ _=>⟨_,rfl,_,rfl⟩) λv L'=>⟨_,rfl,rfl⟩
 simp only[qz2,yA];refine .has ok (λh ok1=>?_) λh=>?_
 ·simp only[yB];rw[<-yM];exact .ll (zKo (M:=M) H hn (by omega) 31 ok1) (λ_ _=>⟨_,rfl,_,rfl⟩) λv L'=>⟨_,rfl,rfl⟩
 simp only[qz2,yA];refine .has ok (λh ok1=>?_) λh=>?_
 ·simp only[yB];rw[<-yM];exact .ll (zKo (M:=M) H hn (by omega) 32 ok1) (λ_ _=>⟨_,rfl,_,rfl⟩) λv L'=>⟨_,rfl,rfl⟩
 simp only[qz2,yA];refine .has ok (λh ok1=>?_) λh=>?_
 ·simp only[yB];rw[<-yM,ztl ok1.ok [59],qz1];cases h59:tIs [59] (L.tail.map tk)with
  |true=>
   simp only[yO,qz2,yA,Bool.false_and];exact .end ok1 (λ_ _=>⟨_,rfl,_,rfl⟩) λL3 ok3=> .gt ok3 rfl
  |false=>
   simp only[yN,yB,Bool.true_and];refine .stops ok1 ?_;cases hs:zlc (L.tail.map tk)with
   |true=>
    simp only[yO,qz2,yA];exact .end ok1 (λ_ _=>⟨_,rfl,_,rfl⟩) λL3 ok3=> .gt ok3 rfl
   |false=>
    simp only[yN,yB];refine .r (S.expr false _ ok1) (λ_ _=>⟨_,rfl,_,rfl⟩) λx L2 ok2=>?_
    exact .end ok2 (λ_ _=>⟨_,rfl,_,rfl⟩) λL3 ok3=> .gt ok3 rfl
 simp only[qz2,yA];refine .has ok (λh ok1=>?_) λh=>?_
 ·simp only[yB];rw[<-yM];obtain⟨a,r,hL⟩:=ok1.ok.cons;rw[hL]at ok1⊢;have hf:a.Fresh=ze0 ((a::r).map tk):=rfl;simp only[zdK,qz1,hf];cases hfr:ze0 ((a::r).map tk)with
  |true=>
   simp only[yB];exact .fail ok1 λa=>⟨_,rfl,_,rfl⟩
  |false=>
   simp only[qz2,yA];refine .r (S.expr false _ ok1) (λ_ _=>⟨_,rfl,_,rfl⟩) λx L2 ok2=>?_
   exact .end ok2 (λ_ _=>⟨_,rfl,_,rfl⟩) λL3 ok3=> .gt ok3 rfl
 simp only[qz2,yA];refine .has ok (λh ok1=>?_) λh=>?_
 ·simp only[yB];rw[<-yM];exact .ll (zUH H hn (by omega) (by omega) ok1) (λ_ _=>⟨_,rfl,_,rfl⟩) λv L'=>⟨_,rfl,rfl⟩
 simp only[qz2,yA];refine .has ok (λh ok1=>?_) λh=>?_
 ·simp only[yB];rw[<-yM];exact .ll (zOY H hn (by omega) (by omega) ok1) (λ_ _=>⟨_,rfl,_,rfl⟩) λv L'=>⟨_,rfl,rfl⟩
 simp only[qz2,yA];refine .is ok (λh=>?_) λh=>?_
 ·simp only[yB];exact .fail ok λa=>⟨_,rfl,_,rfl⟩
 simp only[qz2,yA];obtain⟨a,r,rfl⟩:=ok.ok.cons;have k1:=zhA ok 1;rw[show((1:Nat):Int)=1 from rfl]at k1;simp only[zdK,qz1,k1]
 have last:SG L0 EL (OR false) (((RG M).zax (pp (a::r) false)).bind λr_95=>
   match r_95 with
   |Sum.inl r_96=>
    (zbL r_96.2.1).bind λr_97=>
     match r_97 with
     |Sum.inl r_98=>some (Sum.inl (r_98.1,r_98.2.1,()))
     |Sum.inr r_99=>some (Sum.inr ((⟨24,[],0,[],[],[r_96.1]⟩:zg),r_99.1,()))
   |Sum.inr r_100=>some (Sum.inl (r_100.1,r_100.2.1,())))
   (((pG n).expr false ((a::r).map tk)).bd λx=>(zg5 x.2).bn λt=>gt (nd 24 [x.1],t)):=by
  refine .r (S.expr false _ ok) (λ_ _=>⟨_,rfl,_,rfl⟩) λx L2 ok2=>?_
  exact .end ok2 (λ_ _=>⟨_,rfl,_,rfl⟩) λL3 ok3=> .gt ok3 rfl
 cases h1:zaa ((a::r).map tk)==1 with
 |false=>
  simp only[qz2,yA,qz1,Bool.false_and];exact last
 |true=>
  have ok1:=ok.tail (zbK h1 (by decide));obtain⟨b,r',hr⟩:=ok1.ok.cons;obtain rfl:r=b::r':=hr;have hget:zT (a::b::r') 1=some b:=rfl;have k5:=zhA ok1 5;rw[show((5:Nat):Int)=5 from rfl]at k5
  have h58:tIs [58] ((b::r').map tk)=(zaa ((b::r').map tk)==5&&b.Text==[58]):=by
   show(opK (tk b)&&(b.Text==([58]:Str)))=((tk b).kind==5&&b.Text==([58]:Str))
   unfold opK;cases h5:(tk b).kind==5 with
   |true=>rfl
   |false=>
    simp only[Bool.false_or,Bool.false_and];cases h2:(tk b).kind==2 with
    |false=>rfl
    |true=>
     have e2:b.Kind=2:=eq_of_beq ((zhA ok1 2).trans h2);rw[Bool.true_and,yH];exact ok1.ok.colon b qz7 e2
  have ht:((a::b::r').map tk).tail=(b::r').map tk:=rfl;simp only[hget,yB,qz1,k5,Bool.true_and,ht,h58];cases h5:zaa ((b::r').map tk)==5 with
  |false=>
   simp only[qz2,yA,qz1,Bool.false_and];exact last
  |true=>
   simp only[yB,qz1,Bool.true_and];cases h6:b.Text==([58]:Str)with
   |false=>
    simp only[qz2,yA];exact last
   |true=>
    simp only[yB];have e: ∀q:PR Node,q=if(zaa ((a::b::r').map tk)==1)=true then q else bad ((a::b::r').map tk):=λq=>by rw[yL h1]
    rw[e (((pG n).stmt _).bd _)];refine .name ok (λ_ _=>⟨_,rfl,_,rfl⟩) λ_ ok1=>?_
    refine .take ok1 (zbK h5 (by decide)) λc hc ok2=>?_
    exact .l (S.stmt _ ok2) (λ_ _=>⟨_,rfl,_,rfl⟩) λx L2 ok2=> .gt ok2 rfl
include h0 in
theorem zNo(N:Nat)(hN:20*n+40<=N):zwF L0 (RG N) (pG (n+1)):=by
 obtain⟨K,rfl⟩: ∃k,N=k+1:=⟨N -1,by omega⟩
 have m1:20*n+30<=K:=by omega
 have m2:20*n+39<=K:=by omega
 exact{
  expr:=λno L ok=>zUk H hn m1 ok
  assign:=λno L ok=>zM0 H hn m1 ok
  binary:=λno b L ok hb=>zOG H hn m1 b hb ok
  unary:=λno L ok=>zQc H hn m1 ok
  mems:=λno x c L ok=>zUs H hn m1 x c ok
  made:=λno L ok=>zSm H hn m1 ok
  prim:=λno L ok=>zSa H hn m1 m2 ok
  exprs:=λno s last L ok=>zQg H hn m1 m2 s last ok
  props:=λno L ok=>zQH H hn m1 m2 ok
  func:=λno k L ok=>zS4 H hn m1 h0 k ok
  vars:=λno L ok=>zRZ H hn m1 ok
  block:=λL ok=>zQL H hn m1 ok
  head:=λL ok=>zS0 H hn m1 ok
  till:=λs L ok=>zTY H hn m1 s ok
  loop:=λL ok=>zSr H hn m1 ok
  stmt:=λL ok=>zTm H hn m2 ok
  stmts:=λf L ok=>zPd H hn m1 f ok}
end
theorem zJa{L0:List zy}(h0:L0.length<=10000000000): ∀n,n<=10000000001->∀k,k<=n->∀N,20*k+20<=N->zwF L0 (RG N) (pG k)
 |0,_,k,hk,N,_=>by
  obtain rfl:k=0:=by omega
  constructor<;>intros<;>trivial
 |n+1,hn,k,hk,N,hN=>by
  have H:=zJa h0 n (by omega);by_cases h:k<=n
  ·exact H k h N hN
  ·obtain rfl:k=n+1:=by omega
   exact zNo H (by omega) (M:=20*n+39) (yJ _) h0 N (by omega)
def zw5(L:List zy):Node×Int×Int:=
 match(pG (10*L.length+20)).stmts true (L.map tk)with
 |none=>(nd 0 [],0,0)
 |some (.inl k)=>(nd 0 [],atK L k,80)
 |some (.inr q)=>if zaa q.2=0 then(if 64<zY (nd 41 q.1)then(nd 0 [],0,31)else(nd 41 q.1,0,0))else(nd 0 [],atK L q.2.length,80)
theorem zv5{t:zB}(w:Wf t): ∃r,(pG (10*t.length+20)).stmts true t=some r:=by
 have:=(zRm (10*t.length+20)).stmts true t w (by omega);cases h:(pG (10*t.length+20)).stmts true t with
 |none=>rw[h]at this;exact this.elim
 |some r=>exact⟨r,rfl⟩
theorem zPc{t:zB}(w:Wf t){q:List Node×zB}(h:zoR true t q):(pG (10*t.length+20)).stmts true t=gt q:=by
 obtain⟨r,hr⟩:=zv5 w;obtain⟨N,hN⟩:=h;have h1:=zMc N hr;have h2:(pG (10*t.length+20+N)).stmts true t=gt q:=hN (10*t.length+20+N) (by omega);rw[h1]at h2;rw[hr];exact h2
theorem zsn{src:Str}{L:List zy}(hs:src.length<=100000000)(hc:U.zeN src=(L,0,0))(ok:TOk L)(hl:L.length<=100000000)
  (hz: ∀q,(pG (10*L.length+20)).stmts true (L.map tk)=gt q->zjl (nd 41 q.1)<=2097152):zbE src=some ((zw5 L).1,(zw5 L).2.1,(zw5 L).2.2,()):=by
 have okL:TL L L:=⟨ok,List.suffix_refl L⟩
 have S:=(zJa (L0:=L) (by omega) (10*L.length+20) (by omega) _ (yJ _) 1000000000000 (by omega)).stmts true L okL;obtain⟨r,hr⟩:=zv5 ok.wf;rw[List.length_map]at hr;unfold zbE zw5;rw[U.zzc src hs,hc];simp only[qz1,bne_self_eq_false,qz2,yA];rw[hr]at S hz⊢;cases r with
 |inl k=>
  obtain⟨r,e,y,rfl⟩:=S;have e:zbr true [125] ⟨L,false⟩=some (.inr (zaf.code 45 (atK L k),y)):=e;rw[e];rfl
 |inr q=>
  obtain⟨r,L',e,e2,ok',rfl⟩:=S;have e:zbr true [125] ⟨L,false⟩=some (.inl (q.1,pp L' false,())):=e;rw[e];obtain⟨x,r,rfl⟩:=ok'.ok.cons;have k0:=zhA ok' 0;rw[show((0:Nat):Int)=0 from rfl]at k0;have hd:=zyZ (nd 41 q.1) (hz q rfl);simp only[qz1,zdK,bne,k0];rw[<-e2];cases h0:zaa ((x::r).map tk)==0 with
  |false=>
   have h1: ¬zaa ((x::r).map tk)=0:=by simpa using h0
   rw[yK h1,ok'.at_];rfl
  |true=>
   have h1:zaa ((x::r).map tk)=0:=by simpa using h0
   rw[yL h1];simp only[yO,qz2,yA];rw[show zez (⟨41,[],0,[],[],q.1⟩:zg)=some ((zY (nd 41 q.1):Int),())from hd];simp only[qz1];by_cases hdp:64<zY (nd 41 q.1)
   ·rw[yL hdp,decide_eq_true (by omega)];rfl
   ·rw[yK hdp,decide_eq_false (by omega)];rfl
end Go.D08
namespace Go.D08.U
open Go Go.Gw Go.Dn Go.Proofs
set_option maxRecDepth 100000
theorem zHz{r:Str}{us:List Nat}{k:Nat}(h:zrl r=some (us,k)):us.length<=1:=by
 cases r with
 |nil=>cases h
 |cons c r=>
  unfold zrl at h;dsimp only at h;split at h
  ·cases h;simp
  ·split at h
   ·split at h
    ·cases h;simp
    ·split at h
     ·cases h
     ·cases h;simp
   ·split at h
    ·cases e:hexN 2 r 0 with
     |none=>rw[e]at h;cases h
     |some n=>rw[e]at h;cases h;simp
    ·split at h
     ·cases e:hexN 4 r 0 with
      |none=>rw[e]at h;cases h
      |some n=>rw[e]at h;cases h;simp
     ·cases e:zmL c with
      |none=>rw[e]at h;cases h
      |some n=>rw[e]at h;cases h;simp
theorem zt2(q:UInt8): ∀(m:Nat) (r:Str) (acc us:List Nat) (k:Nat),zfV q m r acc=some (us,k)->us.length<=acc.length+m
 |0,_,_,_,_,h=>by cases h
 |m+1,[],_,_,_,h=>by cases h
 |m+1,c::r,acc,us,k,h=>by
  unfold zfV at h;split at h
  ·cases h;omega
  ·split at h
   ·cases h
   ·split at h
    ·split at h
     ·cases h
     ·rename_i us' k' he;have:=zt2 q m _ _ _ _ h;have h1:=zHz he;rw[qz5]at this;omega
    ·have:=zt2 q m _ _ _ _ h;rw[qz5]at this;simp only[qz3,qz6]at this;omega
theorem zLB{s:Str}{u:Str}{n e:Int}(h:zfd s=(u,n,e))(hn:n≠0): ∃us:List Nat,u=zd8 us/\us.length<=s.length:=by
 cases s with
 |nil=>cases h;exact absurd rfl hn
 |cons q r=>
  unfold zfd at h;simp only at h;split at h
  ·cases hg:zfV q (r.length+1) r []with
   |none=>rw[hg]at h;cases h;exact absurd rfl hn
   |some p=>
    obtain⟨us,k⟩:=p;rw[hg]at h;cases h;have:=zt2 q _ _ _ _ _ hg;exact⟨us,rfl,by simpa using this⟩
  ·cases h;exact absurd rfl hn
structure zAG (s:Str) (t:Tok):Prop where
 len:t.Text.length<=2*s.length
 ident:t.Kind=1\/t.Kind=2->t.Text=s.take (zbz s)/\zbz s<=32/\∃c r,s=c::r/\isLet c=true
 word:t.Kind=1\/t.Kind=2->(t.Kind=2↔zjN t.Text=true)
 num:t.Kind=3->0<=t.Num/\t.Num<=9007199254740991/\t.Text=[]
 str:t.Kind=4->∃us:List Nat,t.Text=zd8 us/\us.length<=s.length
 sign:t.Kind=5->t.Text=s.take (zdx s)/\zdx s≠0
theorem zVO{s:Str}{t:Tok}{n:Nat}(h:zhK s=some (t,n)):zAG s t:=by
 cases s with
 |nil=>cases h
 |cons c s=>
  have hrow:=zq3 (c::s);have hsg:=zIW c s;unfold zhK at h;dsimp only at h;split at h
  ·rename_i hl;split at h
   ·cases h
   ·rename_i h32;cases h;have hk: ∀b:Bool,(if b=true then(2:Int)else 1)=2↔b=true:=by intro b;cases b<;>decide
    have hk3: ∀b:Bool,(if b=true then(2:Int)else 1)≠3/\(if b=true then(2:Int)else 1)≠4/\(if b=true then(2:Int)else 1)≠5:=by intro b;cases b<;>decide
    exact⟨by rw[List.length_take];omega,λ_=>⟨rfl,by omega,c,s,rfl,hl⟩,λ_=>hk _,λe=>absurd e (hk3 _).1,λe=>absurd e (hk3 _).2.1,λe=>absurd e (hk3 _).2.2⟩
  ·split at h
   ·cases hn:zpJ (c::s)with
    |none=>rw[hn]at h;cases h
    |some p=>
     rw[hn]at h;cases h
     have hb:p.1<=9007199254740991:=by
      unfold zpJ at hn;split at hn
      ·cases hn
      ·split at hn
       ·cases hn
       ·split at hn
        ·cases hn;assumption
        ·cases hn
     exact⟨by simp,λe=>by rcases e with e|e<;>exact absurd e (by simp),λe=>by rcases e with e|e<;>exact absurd e (by simp),λ_=>⟨by simp only;omega,by simp only;omega,rfl⟩,λe=>absurd e (by simp),λe=>absurd e (by simp)⟩
   ·split at h
    ·generalize hx:zfd (c::s)=q at h;obtain⟨u,n',e⟩:=q;simp only at h;split at h
     ·cases h
     ·rename_i hne;cases h;obtain⟨us,h1,h2⟩:=zLB hx hne;exact⟨by rw[h1,zjQ];omega,λe=>by rcases e with e|e<;>exact absurd e (by simp),λe=>by rcases e with e|e<;>exact absurd e (by simp),λe=>absurd e (by simp),λ_=>⟨us,h1,h2⟩,λe=>absurd e (by simp)⟩
    ·split at h
     ·cases h
     ·rename_i hne;cases h;exact⟨by rw[List.length_take];omega,λe=>by rcases e with e|e<;>exact absurd e (by simp),λe=>by rcases e with e|e<;>exact absurd e (by simp),λe=>absurd e (by simp),λe=>absurd e (by simp),λ_=>⟨rfl,hne⟩⟩
theorem zS2: ∀b:Fin 256,zfM (UInt8.ofNat b.val)=true->b.val<128/\b.val≠32/\b.val≠58:=by decide+kernel
theorem zBY(b:UInt8)(h:zfM b=true):b<128/\b≠32/\b≠58:=by
 have:=zS2 ⟨b.toNat,b.toNat_lt⟩;have e:UInt8.ofNat b.toNat=b:=by simp
 simp only[e]at this;obtain⟨h1,h2,h3⟩:=this h;exact⟨h1,λe=>h2 (by rw[e];rfl),λe=>h3 (by rw[e];rfl)⟩
theorem zMT(c:UInt8)(r:Str)(h:zdx (c::r)≠0):(32:UInt8)∉(c::r).take (zdx (c::r)):=by
 unfold zdx at h⊢;split
 ·rename_i h3;have: ∀w∈zoM,(32:UInt8)∉w:=by decide+kernel
  exact this _ (by simpa using h3.2)
 ·split
  ·rename_i h2;have: ∀w∈zqM,(32:UInt8)∉w:=by decide+kernel
   exact this _ (by simpa using h2.2)
  ·split
   ·rename_i h1;have h1:c∈zAY:=by simpa using h1
    have: ∀c∈zAY,(32:UInt8)≠c:=by decide+kernel
    simp[this c h1]
   ·simp
theorem ztw{s:Str}{t:Tok}(o:zAG s t)(hk:t.Kind=1\/t.Kind=2):(∀b∈t.Text,zfM b=true)/\t.Text≠[]:=by
 obtain⟨h1,h2,c,r,rfl,hl⟩:=o.ident hk;have ha:=zOh (c::r);rw[<-h1]at ha;refine⟨λb hb=>List.all_eq_true.1 ha b hb,λe=>?_⟩;have:1<=zbz (c::r):=by rw[zlb,yL (by simp[zfM,hl])];omega
 rw[h1]at e;have:=congrArg List.length e;rw[List.length_take]at this;simp at this;omega
inductive zoO (b:Nat):List Tok->Prop
 |fin (e:Tok):e.Kind=0->e.Text=[]->zoO b [e]
 |one (s:Str) (t:Tok) (l:List Tok):zAG s t->s.length<=b->1<=t.Kind->t.Kind<=5->zoO b l->zoO b (t::l)
theorem zAG.fresh{s:Str}{t:Tok}(o:zAG s t)(f:Bool)(n:Int):zAG s ((t.fresh f).at_ n):=⟨o.len,o.ident,o.word,o.num,o.str,o.sign⟩
theorem zFW(len:Nat): ∀(m:Nat) (s:Str) (f:Bool) (l:List (Tok×Nat)),zih m s f= .inl l->s.length<=len->zoO len (zie len l)/\(zie len l).length<=s.length+1
 |0,_,_,_,h,_=>by cases h
 |m+1,s,f,l,h,hs=>by
  have hl:=zeK (s.length+1) s f;rw[zih]at h;generalize zcC (s.length+1) s f=q at h hl;obtain⟨r,f',ok⟩:=q;simp only at h hl;split at h
  ·cases h
  ·split at h
   ·cases h;exact⟨.fin _ rfl rfl,by simp[zie]⟩
   ·cases ho:zhK r with
    |none=>rw[ho]at h;cases h
    |some p=>
     obtain⟨t,n⟩:=p;rw[ho]at h;simp only at h;have hn:=zmd ho;cases hc:zih m (r.drop n) false with
     |inr k=>rw[hc]at h;cases h
     |inl l'=>
      rw[hc]at h;cases h;have hd:(r.drop n).length=r.length -n:=List.length_drop;obtain⟨g1,g2⟩:=zFW len m (r.drop n) false l' hc (by omega);rw[zoW];exact⟨.one r _ _ ((zVO ho).fresh f' _) (by omega) hn.2.2.1 hn.2.2.2.1 g1,by simp only[qz3];omega⟩
theorem zkZ{src:Str}{L:List Tok}(h:zeN src=(L,0,0)):zoO 4096 L/\L.length<=4097/\src.length<=4096:=by
 unfold zeN at h;split at h
 ·exact absurd (congrArg (λx=>x.2.2) h) (by simp)
 ·split at h
  ·rename_i l hc;obtain rfl:zie src.length l=L:=congrArg (λx=>x.1) h;obtain⟨g1,g2⟩:=zFW src.length _ _ _ _ hc (yJ _);refine⟨?_,by omega,by omega⟩
   have up: ∀{l:List Tok},zoO src.length l->zoO 4096 l:=λh=>by
    induction h with
    |fin e h1 h2=>exact .fin e h1 h2
    |one s t l h1 h2 h3 h4 _ ih=>exact .one s t l h1 (by omega) h3 h4 ih
   exact up g1
  ·exact absurd (congrArg (λx=>x.2.2) h) (by simp)
theorem zoO.ok{L:List Tok}(h:zoO 4096 L):TOk L:=by
 induction h with
 |fin e h1 h2=>
  refine⟨?_,?_,?_,?_,?_,?_,[],e,rfl,h1,λt ht=>by cases ht⟩<;>intro t ht<;>(obtain rfl:t=e:=by simpa using ht)
  ·omega
  ·rw[h2];simp
  ·rw[h2];simp
  ·intro hk;omega
  ·intro hk;omega
  ·intro hk;omega
 |one s t l o hs k1 k5 _ ih=>
  obtain⟨a,e,e1,e2,e3⟩:=ih.last;refine⟨?_,?_,?_,?_,?_,?_,t::a,e,by rw[e1];rfl,e2,?_⟩
  ·intro x hx;rcases yP.1 hx with rfl|hx
   ·omega
   ·exact ih.kinds x hx
  ·intro x hx;rcases yP.1 hx with rfl|hx
   ·have:=o.len;omega
   ·exact ih.texts x hx
  ·intro x hx;rcases yP.1 hx with rfl|hx
   ·intro hop
    have hk:x.Kind=5\/x.Kind=2:=by
     unfold opK tk at hop;simp only[yQ,beq_iff_eq]at hop;omega
    rcases hk with hk|hk
    ·obtain⟨h1,h2⟩:=o.sign hk;rw[h1];cases s with
     |nil=>simp
     |cons c r=>exact zMT c r h2
    ·intro hm;exact(zBY 32 ((ztw o (.inr hk)).1 32 hm)).2.1 rfl
   ·exact ih.plain x hx
  ·intro x hx;rcases yP.1 hx with rfl|hx
   ·intro hk b hb;exact(zBY b ((ztw o hk).1 b hb)).1
   ·exact ih.ascii x hx
  ·intro x hx;rcases yP.1 hx with rfl|hx
   ·intro hk e;have:=(ztw o (.inr hk)).1 58 (by rw[e];exact qz7)
    exact(zBY 58 this).2.2 rfl
   ·exact ih.colon x hx
  ·intro x hx;rcases yP.1 hx with rfl|hx
   ·intro hk;have:=o.num hk;exact⟨this.1,this.2.1⟩
   ·exact ih.nums x hx
  ·intro x hx;rcases yP.1 hx with rfl|hx
   ·omega
   ·exact e3 x hx
theorem zCl(x:UInt8): ∀(p s b:Str),x∉p->p.isPrefixOf (s++x::b)=p.isPrefixOf s
 | [],s,b,_=>by cases s<;>rfl
 |a::p,[],b,h=>by
  simp only[yP,not_or]at h;have:(a==x)=false:=yH.2 (λe=>h.1 e.symm);simp[List.isPrefixOf,this]
 |a::p,c::s,b,h=>by
  simp only[yP,not_or]at h;simp only[yI,List.isPrefixOf,zCl x p s b h.2]
theorem zRh(b:Str): ∀s:Str,s.all zfM=true->zbz (s++32::b)=s.length
 | [],_=>by rw[List.nil_append,zlb,yK (by decide)];rfl
 |c::s,h=>by
  simp only[List.all_cons,qz4]at h;rw[yI,zlb,yL h.1,zRh b s h.2];rfl
theorem zNg{s b:Str}{k:Nat}{x:UInt8}(h:s.length<k):x∈(s++x::b).take k:=by
 rw[List.mem_iff_getElem?];refine⟨s.length,?_⟩;rw[List.getElem?_take_of_lt h,yG (yJ _)];simp
theorem zCF{x:UInt8}{L:List Str}(hL: ∀w∈L,x∉w){y:Str}(h:x∈y):L.contains y=false:=by
 rw[<-Bool.not_eq_true,List.contains_iff_mem];intro hm;exact hL y hm h
theorem zTe(c:UInt8)(s b:Str):zdx ((c::s)++32::b)=zdx (c::s):=by
 unfold zdx
 have e3:(2< ((c::s)++32::b).length/\zoM.contains (((c::s)++32::b).take 3)=true)=(2< (c::s).length/\zoM.contains ((c::s).take 3)=true):=by
  by_cases h:2< (c::s).length
  ·rw[List.take_append_of_le_length (by omega)];have:2< ((c::s)++32::b).length:=by simp only[qz5];omega
   simp only[this,h,true_and]
  ·rw[zCF (x:=32) (L:=zoM) (by decide) (zNg (by omega))];rw[eq_iff_iff];exact⟨λe=>(by cases e.2),λe=>absurd e.1 h⟩
 have e2:(1< ((c::s)++32::b).length/\zqM.contains (((c::s)++32::b).take 2)=true)=(1< (c::s).length/\zqM.contains ((c::s).take 2)=true):=by
  by_cases h:1< (c::s).length
  ·rw[List.take_append_of_le_length (by omega)];have:1< ((c::s)++32::b).length:=by simp only[qz5];omega
   simp only[this,h,true_and]
  ·rw[zCF (x:=32) (L:=zqM) (by decide) (zNg (by omega))];rw[eq_iff_iff];exact⟨λe=>(by cases e.2),λe=>absurd e.1 h⟩
 simp only[e3,e2];rfl
def zoL(s:Str):Bool:=match s with
 | []=>false
 |c::r=> !zdV c&&(!decide (c=32\/c=9\/c=11\/c=12)&&(!([47,47]:Str).isPrefixOf (c::r)&& !([47,42]:Str).isPrefixOf (c::r)))
theorem zuf{s:Str}(h:zoL s=true)(m:Nat)(f:Bool):zcC (m+1) s f=(s,f,true):=by
 cases s with
 |nil=>cases h
 |cons c r=>
  simp only[zoL,qz4,Bool.not_eq_true',decide_eq_false_iff_not]at h;obtain⟨h1,h2,h3,h4⟩:=h;unfold zcC;rw[yK (by rw[h1];simp),yK h2,yK (by rw[h3];simp),yK (by rw[h4];simp)]
theorem zSt(a b:UInt8):enc1 (a.toNat*256+b.toNat)=[a,b]:=by
 have h1:=a.toNat_lt;have h2:=b.toNat_lt;unfold enc1;have e1:(a.toNat*256+b.toNat)/256=a.toNat:=by omega
 have e2:(a.toNat*256+b.toNat)%256=b.toNat:=by omega
 rw[e1,e2];simp
theorem zCJ: ∀u:Str,u.length%2=0->zd8 (zat u)=u
 | [],_=>rfl
 | [_],h=>by simp at h
 |a::b::r,h=>by
  have ih:=zCJ r (by simp only[qz3]at h;omega)
  unfold zd8 at ih⊢;simp only[zat,List.flatMap_cons,zSt,ih];rfl
theorem zBF{c:UInt8}{r:Str}(h:zfM c=true\/c=34):zoL (c::r)=true:=by
 have key: ∀b:Fin 256,zfM (UInt8.ofNat b.val)=true\/UInt8.ofNat b.val=34->zdV (UInt8.ofNat b.val)=false/\¬(UInt8.ofNat b.val=32\/UInt8.ofNat b.val=9\/UInt8.ofNat b.val=11\/UInt8.ofNat b.val=12)/\UInt8.ofNat b.val≠47:=by decide+kernel
 have:=key ⟨c.toNat,c.toNat_lt⟩;rw[ofN]at this;obtain⟨h1,h2,h3⟩:=this h;have e:((47:UInt8)==c)=false:=yH.2 (λe=>h3 e.symm);simp only[zoL,h1,h2,List.isPrefixOf,e,decide_false,Bool.false_and,yN,Bool.and_self]
theorem zzP(o:Nat)(t:Str): ∀(s:Str) (a:Nat),zei o (s++t) a=(zei o s a).bind (zei o t)
 | [],a=>rfl
 |c::s,a=>by
  simp only[yI,zei];cases hexV c with
  |none=>rfl
  |some d=>
   simp only;split
   ·exact zzP o t s _
   ·rfl
theorem zwr: ∀s:Str,zat s=Go.D08.zat s
 | []=>rfl
 | [_]=>rfl
 |a::b::r=>by
  show _::zat r=_::Go.D08.zat r;rw[zwr r]
theorem zEa(l:List Nat):zaV l=Go.Gw.zaV l:=rfl
def Behind(r:Str):Prop:=r=[]\/∃b,r=32::b
theorem zRt{r:Str}(hr:Behind r){s:Str}(h:s.all zfM=true):zbz (s++r)=s.length:=by
 rcases hr with rfl| ⟨b,rfl⟩
 ·rw[List.append_nil];exact(zBW s).2 h
 ·exact zRh b s h
theorem zVe{r:Str}(hr:Behind r)(c:UInt8)(s:Str):zdx ((c::s)++r)=zdx (c::s):=by
 rcases hr with rfl| ⟨b,rfl⟩
 ·rw[List.append_nil]
 ·exact zTe c s b
theorem zWr{r:Str}(hr:Behind r)(s:Str):(s++r)[s.length]? ≠some 46:=by
 rcases hr with rfl| ⟨b,rfl⟩
 ·simp
 ·rw[yG (yJ _)];simp
structure WR (w:Str) (t:Tok):Prop where
 one: ∀r,Behind r->zhK (w++r)=some (t,w.length)
 stop: ∀r,Behind r->zoL (w++r)=true
theorem zCx{r:Str}(hr:Behind r){s:Str}(h:zoL s=true):zoL (s++r)=true:=by
 rcases hr with rfl| ⟨b,rfl⟩
 ·rw[List.append_nil];exact h
 ·cases s with
  |nil=>cases h
  |cons c r=>
   rw[yI];simp only[zoL]at h⊢;rw[<-yI,zCl 32 _ _ _ (by decide),zCl 32 _ _ _ (by decide)];exact h
theorem zr8{w:Str}(h:zdD w=true):WR w {Kind:=if zjN w=true then 2 else 1,Text:=w,Num:=0,At:=0,Fresh:=false}:=by
 cases w with
 |nil=>cases h
 |cons c s=>
  simp only[zdD,qz4,yT]at h;obtain⟨h32,hl,hall⟩:=h;refine⟨λr hr=>?_,λr hr=>zCx hr (zBF (.inl (by simp[zfM,hl])))⟩;have hrow:=zRt hr hall;have htake:((c::s)++r).take (c::s).length=c::s:=List.take_left;rw[yI]at hrow htake⊢;unfold zhK;simp only[hl,yB,hrow,htake,show ¬(32< (c::s).length) by omega,yA]
theorem zFk: ∀(k u:Nat),u<k->zei 10 (Lib.decDigits u) 0=some u/\∃c r,Lib.decDigits u=c::r/\zfO c=true/\(c=48->r=[])
 |0,u,h=>by omega
 |k+1,u,h=>by
  have hd: ∀d,d<10->(UInt8.ofNat (48+d)).toNat=48+d:=λd hd=>by rw[UInt8.toNat_ofNat'];omega
  have hv: ∀d,d<10->hexV (UInt8.ofNat (48+d))=some d:=λd h=>by unfold hexV;rw[hd d h,yL (by omega)];congr 1;omega
  have hg: ∀d,d<10->zfO (UInt8.ofNat (48+d))=true:=λd h=>by unfold zfO;rw[hd d h];simp;omega
  rw[Lib.decDigits];split
  ·rename_i hu;refine⟨?_,_,_,rfl,hg u hu,λ_=>rfl⟩;simp only[zei,hv u hu,hu,yB];simp
  ·rename_i hu;obtain⟨h1,c,r,h2,h3,h4⟩:=zFk k (u/10) (by omega);refine⟨?_,c,r++[UInt8.ofNat (48+u%10)],by rw[h2];rfl,h3,λe=>?_⟩
   ·rw[zzP,h1];simp only[qz1,zei,hv (u%10) (by omega),show u%10<10 by omega,yB];congr 1;omega
   ·exfalso;have hr:=h4 e;rw[e,hr]at h2;have h6:=(zm2 (u/10+1) (u/10) (by omega)).1;rw[h2]at h6;have h7:zIz [48]=0:=by decide
    rw[h7]at h6;omega
theorem zJn{n:Nat}(h:n<=9007199254740991):WR (Lib.decDigits n) {Kind:=3,Text:=[],Num:=(n:Int),At:=0,Fresh:=false}:=by
 obtain⟨h1,c,s,h2,h3,h48⟩:=zFk (n+1) n (by omega);have hd:=(zm2 (n+1) n (by omega)).2.1;rw[h2]at h1 hd⊢
 have hcl:isLet c=false:=by
  have key: ∀b:Fin 256,zfO (UInt8.ofNat b.val)=true->isLet (UInt8.ofNat b.val)=false:=by decide+kernel
  have:=key ⟨c.toNat,c.toNat_lt⟩;rw[ofN]at this;exact this h3
 have hall:(c::s).all zfM=true:=by
  rw[List.all_eq_true];intro x hx;unfold zfM;rw[hd x hx,Bool.or_true]
 refine⟨λr hr=>?_,λr hr=>zCx hr (zBF (.inl (by unfold zfM;rw[h3,Bool.or_true])))⟩
 have hrow:=zRt hr hall;have htake:((c::s)++r).take (c::s).length=c::s:=List.take_left;have hget:=zWr hr (c::s)
 have hnum:zpJ ((c::s)++r)=some (n,(c::s).length):=by
  unfold zpJ;rw[hrow,htake,yK hget]
  have hD:zCj (c::s)=some n:=by
   unfold zCj
   have n1: ¬((c::s).take 2=[48,120]\/(c::s).take 2=[48,88]):=by
    cases s with
    |nil=>simp
    |cons d r=>
     have hdd:=hd d (by simp);simp only[List.take_succ_cons,List.take_zero,List.cons.injEq,and_true];rintro(⟨_,rfl⟩| ⟨_,rfl⟩)
     ·exact absurd hdd (by decide)
     ·exact absurd hdd (by decide)
   have n2: ¬(1< (c::s).length/\(c::s).head?=some 48):=by
    rintro⟨l1,l2⟩;simp only[List.head?_cons,Option.some.injEq]at l2;rw[h48 l2]at l1;simp at l1
   rw[yK (λh=>n1 h.2),yK n2,h1]
  rw[hD];simp only[h,yB]
 rw[yI]at hnum⊢;unfold zhK;simp only[hcl,qz2,yA,h3,yB,hnum,Option.map_some]
theorem zHM{u:Str}(he:u.length%2=0):WR (34::(zaV (zat u)++[34])) {Kind:=4,Text:=u,Num:=0,At:=0,Fresh:=false}:=by
 refine⟨λr hr=>?_,λr hr=>zCx hr (zBF (.inr rfl))⟩
 have hrd:zfd (34::(zaV (zat u)++[34])++r)=(u,(((34::(zaV (zat u)++[34])).length:Nat):Int),0):=by
  have hg:=zJg r (zat u) [] ((zaV (zat u)++34::r).length+1) (zmE u) (by have:=zDP (zat u);rw[qz5];omega)
  have e:34::(zaV (zat u)++[34])++r=34::(zaV (zat u)++34::r):=by simp
  rw[e];unfold zfd;simp only[or_true,yB];rw[hg];simp only[List.nil_append,zCJ u he];congr 2;simp only[qz3,qz5,qz6];omega
 rw[yI]at hrd⊢;have c1:isLet 34=false:=by decide
 have c2:zfO 34=false:=by decide
 unfold zhK;simp only[c1,c2,qz2,yA,or_true,yB,hrd];have hne: ¬((((34::(zaV (zat u)++[34])).length:Nat):Int)=0):=by simp;omega
 simp only[hne,yA,Int.toNat_natCast]
def zLE(w:Str):Bool:=match w with
 | []=>false
 |c::s=> !isLet c&&(!zfO c&&(!decide (c=39\/c=34)&&(zoL w&&zdx w==w.length)))
theorem zEW{w:Str}(h:zLE w=true):WR w {Kind:=5,Text:=w,Num:=0,At:=0,Fresh:=false}:=by
 cases w with
 |nil=>cases h
 |cons c s=>
  simp only[zLE,qz4,Bool.not_eq_true',decide_eq_false_iff_not,beq_iff_eq]at h;obtain⟨h1,h2,h3,h4,h5⟩:=h;refine⟨λr hr=>?_,λr hr=>zCx hr h4⟩;have hs:=zVe hr c s;have htake:((c::s)++r).take (c::s).length=c::s:=List.take_left;have h0: ¬(c::s).length=0:=by simp
  rw[yI]at hs htake⊢;unfold zhK;simp only[h1,h2,h3,hs,h5,htake,h0,qz2,yA]
theorem zEA: ∀w∈zgk,zLE w=true\/zdD w=true:=by decide+kernel
def zl4(w:Str):Prop:=zgk.contains w=true\/zdD w=true\/(∃n,n<=9007199254740991/\w=Lib.decDigits n)\/∃u:Str,u.length%2=0/\w=34::(zaV (zat u)++[34])
theorem zKQ{w:Str}(h:zl4 w): ∃t,WR w t/\t.Fresh=false:=by
 rcases h with h|h| ⟨n,hn,rfl⟩| ⟨u,hu,rfl⟩
 ·rcases zEA w (by simpa using h)with h|h
  ·exact⟨_,zEW h,rfl⟩
  ·exact⟨_,zr8 h,rfl⟩
 ·exact⟨_,zr8 h,rfl⟩
 ·exact⟨_,zJn hn,rfl⟩
 ·exact⟨_,zHM hu,rfl⟩
theorem WR.uniq{w:Str}{t t':Tok}(h:WR w t)(h':WR w t'):t=t':=by
 have h1:=h.one [] (.inl rfl);have h2:=h'.one [] (.inl rfl);rw[h1]at h2;simpa using h2
theorem zOp{w:Str}(h:zl4 w){t:Tok}(hw:WR w t):opK (tk t)=true->t.Text=w:=by
 rcases h with h|h| ⟨n,hn,rfl⟩| ⟨u,hu,rfl⟩
 ·rcases zEA w (by simpa using h)with h|h
  ·rw[hw.uniq (zEW h)];exact λ_=>rfl
  ·rw[hw.uniq (zr8 h)];exact λ_=>rfl
 ·rw[hw.uniq (zr8 h)];exact λ_=>rfl
 ·rw[hw.uniq (zJn hn)];exact λe=>by cases e
 ·rw[hw.uniq (zHM hu)];exact λe=>by cases e
def cT(w:Str):Go.D08.Tok:=match zhK w with|some p=>if(!opK (tk p.1)||p.1.Text==w)=true then tk p.1 else⟨6,w,0,false⟩|none=>⟨6,w,0,false⟩
theorem WR.cT{w:Str}{t:Tok}(h:WR w t)(ho:opK (tk t)=true->t.Text=w):cT w=tk t:=by
 have:=h.one [] (.inl rfl);rw[List.append_nil]at this;unfold Go.D08.U.cT;rw[this];refine yL ?_;cases h:opK (tk t)with
 |false=>rfl
 |true=>simp[ho h]
theorem zOV(w:Str):(cT w).fresh=false:=by
 unfold cT;cases h:zhK w with
 |none=>rfl
 |some p=>
  simp only;split
  ·exact(zmd h).2.2.2.2.2
  ·rfl
theorem zB5{w:Str}(h:zdD w=true):cT w=⟨if zjN w=true then 2 else 1,w,0,false⟩:=by
 rw[(zr8 h).cT λ_=>rfl];unfold tk;simp only;congr 1;split<;>rfl
theorem zG7:Cls cT where
 op:=λw hw=>by
  rcases zEA w hw with h|h
  ·rw[(zEW h).cT λ_=>rfl];exact⟨rfl,rfl⟩
  ·have hword: ∀w∈zgk,zdD w=true->zjN w=true:=by decide+kernel
   rw[zB5 h,hword w hw h];exact⟨rfl,rfl⟩
 name:=λs h=>by
  unfold zaP at h;rw[qz4,zAm]at h;rw[zB5 h.1,show zjN s=false by simpa using h.2];exact⟨rfl,rfl⟩
 ident:=λs h=>by
  rw[zB5 h];refine⟨?_,rfl⟩;cases zjN s
  ·exact .inl rfl
  ·exact .inr rfl
 num:=λn h1 h2=>by
  rw[zoK n h1,(zJn (n:=n.toNat) (by omega)).cT λe=>by cases e];exact⟨rfl,by show((n.toNat:Nat):Int)=n;omega⟩
 str:=λs he hs=>by
  rw[zzZ he hs,<-zwr,<-zEa,(zHM (u:=s) (by unfold zaL at he;simpa using he)).cT λe=>by cases e]
  exact⟨rfl,rfl⟩
 fresh:=zOV
 opt:=λs h=>by
  unfold cT at h⊢;cases ho:zhK s with
  |none=>rw[ho]at h
  |some p=>
   rw[ho]at h;simp only at h⊢;split at h
   ·rename_i hc;rw[yL hc];rw[h]at hc;have:p.1.Text=s:=by simpa using hc
    exact this
   ·cases h
theorem zMv{s:Str}(h:zoL s=true):zcC ((32::s).length+1) (32::s) false=zcC (s.length+1) s false:=by
 rw[zuf h];rw[qz3];conv=>lhs;unfold zcC
 rw[yK (by decide),yL (by decide)];exact zuf h _ _
theorem zWY(t:Tok)(f:Bool)(n:Int)(h:t.Fresh=f):tk ((t.fresh f).at_ n)=tk t:=by
 unfold tk Tok.fresh Tok.at_;rw[h]
theorem zFE(len:Nat): ∀(ws:List Str) (m:Nat),(∀w∈ws,zl4 w)->(Lib.join ws [32]).length<m->∃l,zih m (Lib.join ws [32]) false= .inl l/\(zie len l).map tk=ws.map cT++[znH]
 | [],0,_,h=>by omega
 | [],m+1,_,_=>⟨[(zQe false,0)],rfl,rfl⟩
 |w::ws,0,_,h=>by omega
 |w::ws,m+1,hw,hm=>by
  obtain⟨t,hwr,hf⟩:=zKQ (hw w qz7);have hct:cT w=tk t:=hwr.cT (zOp (hw w qz7) hwr);obtain⟨r,hj,hr⟩:=zDt w ws
  have hbeh:Behind r:=by
   rcases hr with⟨_,h⟩| ⟨_,h⟩
   ·exact .inl h
   ·exact .inr ⟨_,h⟩
  have hone:=hwr.one r hbeh;have hstop:=hwr.stop r hbeh;have hne: ¬w++r=[]:=by intro e;rw[e]at hstop;cases hstop
  have hlen:w.length≠0:=by have:=(zmd hone).1;omega
  rw[hj]at hm⊢;rw[qz5]at hm;have hdrop:(w++r).drop w.length=r:=List.drop_left
  have go: ∃l,zih m r false= .inl l/\(zie len l).map tk=ws.map cT++[znH]:=by
   rcases hr with⟨rfl,rfl⟩| ⟨hn,rfl⟩
   ·obtain⟨k,rfl⟩: ∃k,m=k+1:=⟨m -1,by omega⟩
    exact⟨[(zQe false,0)],rfl,rfl⟩
   ·obtain⟨l,h1,h2⟩:=zFE len ws m (λv hv=>hw v (qz8 _ hv)) (by simp only[qz3]at hm;omega)
    refine⟨l,?_,h2⟩;rw[<-h1];refine zM6 (by omega) (by simp only[qz3]at hm;omega) (zMv ?_)
    rcases ws with _| ⟨v,vs⟩
    ·exact absurd rfl hn
    ·obtain⟨t2,hwr2,_⟩:=zKQ (hw v (qz8 _ qz7));obtain⟨r2,hj2,hr2⟩:=zDt v vs;rw[hj2]
     exact hwr2.stop r2 (by
      rcases hr2 with⟨_,h⟩| ⟨_,h⟩
      ·exact .inl h
      ·exact .inr ⟨_,h⟩)
  obtain⟨l,h1,h2⟩:=go;refine⟨(t.fresh false,(w++r).length)::l,?_,?_⟩
  ·rw[zih,zuf hstop];simp only[Bool.true_eq_false,yA,hne,hone,hdrop,h1]
  ·rw[zoW,List.map_cons,List.map_cons,h2,zWY t false _ hf,hct];rfl
theorem zMx{ws:List Str}(hw: ∀w∈ws,zl4 w)(hl:(Lib.join ws [32]).length<=4096): ∃L,zeN (Lib.join ws [32])=(L,0,0)/\L.map tk=ws.map cT++[znH]:=by
 obtain⟨l,h1,h2⟩:=zFE (Lib.join ws [32]).length ws ((Lib.join ws [32]).length+1) hw (by omega);refine⟨zie (Lib.join ws [32]).length l,?_,h2⟩;unfold zeN;rw[yK (by omega),h1]
end Go.D08.U
namespace Go.D08
open Go Go.Gw Go.Dn
set_option maxRecDepth 100000
def zdO(l:List Str):Prop:=∀w∈l,U.zl4 w
theorem all_nil:zdO []:=λ_ h=>by cases h
theorem all_cons{w:Str}{l:List Str}(h:U.zl4 w)(hl:zdO l):zdO (w::l):=λv hv=>by
 rcases yP.1 hv with rfl|hv
 ·exact h
 ·exact hl v hv
theorem zaz{a b:List Str}(ha:zdO a)(hb:zdO b):zdO (a++b):=λv hv=>by
 rcases List.mem_append.1 hv with hv|hv
 ·exact ha v hv
 ·exact hb v hv
theorem zZ{w:Str}{l:List Str}(h:zgk.contains w=true)(hl:zdO l):zdO (w::l):=all_cons (.inl h) hl
theorem zq4{w:Str}{l:List Str}(h:w∈l)(hl: ∀w∈l,zgk.contains w=true):U.zl4 w:= .inl (hl w h)
theorem zFp{w:Str}(h:zdD w=true):U.zl4 w:= .inr (.inl h)
theorem zmb{w:Str}(h:zaP w=true):U.zl4 w:=by
 unfold zaP at h;rw[qz4]at h;exact zFp h.1
theorem zSH{n:Int}(h:0<=n/\n<=9007199254740991):U.zl4 (Lib.itoa n):=by
 rw[zoK n h.1];exact .inr (.inr (.inl ⟨_,by omega,rfl⟩))
theorem zFv{s:Str}(he:zaL s=true)(hs:s.length<=100000000):U.zl4 (zdr s):=by
 rw[zzZ he hs,<-U.zwr,<-U.zEa];exact .inr (.inr (.inr ⟨s,by unfold zaL at he;simpa using he,rfl⟩))
theorem zgw{y:Node}(h: ∀no,zdO ((tkN y).ex no))(least:Int)(no:Bool):zdO (atT (tkN y) least no):=by
 unfold atT;split
 ·exact zZ (by decide) (zaz (h false) (zZ (by decide) all_nil))
 ·exact h no
theorem zmV{ls:List Node}{f:Tk->List Str}(h: ∀k∈ls,zdO (f (tkN k))):zdO (commas f (tkL ls)):=by
 rw[zz3];rcases ls with _| ⟨a,r⟩
 ·exact all_nil
 ·refine zaz (h a qz7) λw hw=>?_
  obtain⟨q,hq,hw⟩:=List.mem_flatMap.1 hw;exact zZ (by decide) (h q (qz8 _ hq)) w hw
theorem zpq{ls:List Node}(h: ∀k∈ls,zdO (tkN k).st):zdO (zad (tkL ls)):=λw hw=>by
 unfold zad at hw;rw[zAS]at hw;obtain⟨q,hq,hw⟩:=List.mem_flatMap.1 hw;obtain⟨k,hk,rfl⟩:=List.mem_map.1 hq;exact h k hk w hw
theorem zOj{ns:List Str}(h: ∀s∈ns,zaP s=true):zdO (namesT ns):=by
 rcases ns with _| ⟨s,r⟩
 ·exact all_nil
 ·refine all_cons (zmb (h s qz7)) λw hw=>?_
  obtain⟨q,hq,hw⟩:=List.mem_flatMap.1 hw;exact zZ (by decide) (all_cons (zmb (h q (qz8 _ hq))) all_nil) w hw
theorem zKt{s:Str}(h:s=[]\/zaP s=true):zdO (if(s==([]:Str))=true then[]else[s]):=by
 rcases h with h|h
 ·rw[h];exact all_nil
 ·split
  ·exact all_nil
  ·exact all_cons (zmb h) all_nil
theorem zHd{x:Node}(ho:zX x=true)(hk:x.Kind=10\/x.Kind=39)(h: ∀k∈x.L,zdO (tkN k).st):zdO (zgb x (tkL x.L)):=by
 have hns: ∀s∈x.Names,zaP s=true:=by
  simp only[zX,qz4]at ho;simpa using ho.2.2.2.2
 have hnm:x.Name=[]\/zaP x.Name=true:=by
  have:=(zaT ho).1;rcases hk with e|e
  ·simpa [zI,e]using this
  ·exact .inr (by simpa [zI,e]using this)
 unfold zgb;exact zZ (by decide) (zaz (zKt hnm) (zZ (by decide) (zaz (zOj hns) (zZ (by decide) (zZ (by decide) (zaz (zpq h) (zZ (by decide) all_nil)))))))
structure TA (x:Node):Prop where
 ex:zu x 101=true->∀no,zdO ((tkN x).ex no)
 st:zhO x=true->zdO (tkN x).st
 it:zdI x=true->zdO (zaj false (tkN x))
 de:zu x 100=true->∀no,zdO (declT no (tkN x))
 bg:ziO x=true->∀least no,zdO (zaJ (tkN x) least no)
theorem TA.at_{x:Node}(h:TA x)(ho:zu x 101=true)(least:Int)(no:Bool):zdO (atT (tkN x) least no):=zgw (h.ex ho) least no
theorem zME(x:Node)(hb:zJ x<=2097152)(h: ∀k∈x.L,TA k)(ho:zu x 101=true)(no:Bool):zdO ((tkN x).ex no):=by
 obtain⟨he,hm⟩:=zb8 ho;have a2:=zaF x;rcases zgG he with e|e|e|e|e|e|e|e|e|e|e|e|e|e|e|e|e|e|e|e
 ·rw[zG0 e,qz4]at hm;have hn:0<=x.Num/\x.Num<=9007199254740991:=by simpa [zaB,e]using(zaT hm.1).2
  rw[zMg e];exact all_cons (zSH hn) all_nil
 ·rw[zGx e,qz4]at hm;rw[zLW e];exact all_cons (zFv (zrL hm.1) (by omega)) all_nil
 ·rw[zMJ e,qz4]at hm;rw[zLh e];exact all_cons (zmb (by simpa [zI,e]using(zaT hm.1).1)) all_nil
 ·rw[zMD e];exact zZ (by decide) all_nil
 ·rw[zL9 e];exact zZ (by decide) all_nil
 ·rw[zHt e];cases x.Num==1
  ·exact zZ (by decide) all_nil
  ·exact zZ (by decide) all_nil
 ·rw[zGu e,qz4]at hm;rw[zB6 e];exact zZ (by decide) (zaz (zmV λk hk=>(h k hk).it (zuS (zfA hm.2 k hk))) (zZ (by decide) all_nil))
 ·rw[zGL e,qz4]at hm;rw[zBP e];exact zZ (by decide) (zaz (zmV λk hk=>(h k hk).it (zOg (zfA hm.2 k hk))) (zZ (by decide) all_nil))
 ·rw[zCW e,qz4]at hm;rw[zxs e];exact zHd hm.1 (.inl e) λk hk=>(h k hk).st (zCh (zfA hm.2 k hk))
 ·rw[zAi e,qz4]at hm;obtain⟨a,hL,h1⟩:=zdE hm.2;rw[zGD e,hL,tk0];exact zaz ((h a (by rw[hL];simp)).at_ h1 _ _) (zZ (by decide) (all_cons (zFp (by simpa [zI,e]using(zaT hm.1).1)) all_nil))
 ·rw[zzh e,qz4]at hm;obtain⟨a,b,hL,h1,h2⟩:=zdT hm.2;rw[zGU e,hL,tk0,tk1];exact zaz ((h a (by rw[hL];simp)).at_ h1 _ _) (zZ (by decide) (zaz ((h b (by rw[hL];simp)).at_ h2 _ _) (zZ (by decide) all_nil)))
 ·rw[zD5 e,qz4]at hm;obtain⟨a,l,hL,h1,h2⟩:=zhX hm.2;rw[zGw e,hL,tk0,tkT];exact zaz ((h a (by rw[hL];simp)).at_ h1 _ _) (zZ (by decide) (zaz (zmV λk hk=>(h k (by rw[hL];exact qz8 _ hk)).it (zuS (h2 k hk))) (zZ (by decide) all_nil)))
 ·rw[zDX e,qz4]at hm;obtain⟨a,l,hL,h1,h2⟩:=zhX hm.2;rw[zGN e,hL,tk0,tkT];exact zZ (by decide) (zaz ((h a (by rw[hL];simp)).at_ h1 _ _) (zZ (by decide) (zaz (zmV λk hk=>(h k (by rw[hL];exact qz8 _ hk)).it (zuS (h2 k hk))) (zZ (by decide) all_nil))))
 ·rw[zCZ e,qz4]at hm;obtain⟨a,hL,h1⟩:=zdE hm.2;have hn:x.Name∈zsF:=by simpa [zI,e]using(zaT hm.1).1
  rw[zGT e,hL,tk0];exact all_cons (zq4 hn (by decide)) ((h a (by rw[hL];simp)).at_ h1 _ _)
 ·rw[zza e,qz4]at hm;obtain⟨a,hL,h1⟩:=zdE hm.2;have hn:x.Name∈zgC:=by simpa [zI,e]using(zaT hm.1).1
  have ha:=(h a (by rw[hL];simp)).at_ (zq9 h1) 11 no
  rw[zCD e,hL,tk0];split
  ·exact all_cons (zq4 hn (by decide)) ha
  ·exact zaz ha (all_cons (zq4 hn (by decide)) all_nil)
 ·rw[zDh e,qz4]at hm;obtain⟨a,b,hL,h1,h2⟩:=zdT hm.2;have hn:x.Name∈zoU:=by simpa [zI,e]using(zaT hm.1).1
  rw[zGV e,hL,tk0,tk1];exact zaz ((h a (by rw[hL];simp)).at_ h1 _ _) (all_cons (zq4 hn (by decide)) ((h b (by rw[hL];simp)).at_ h2 _ _))
 ·rw[zy6 e,qz4]at hm;obtain⟨a,b,hL,h1,h2⟩:=zdT hm.2;have hn:x.Name∈ztu:=by simpa [zI,e]using(zaT hm.1).1
  rw[zGM e,hL,tk0,tk1];exact zaz ((h a (by rw[hL];simp)).at_ h1 _ _) (all_cons (zq4 hn (by decide)) ((h b (by rw[hL];simp)).at_ h2 _ _))
 ·rw[zDN e,qz4]at hm;obtain⟨a,b,d,hL,h1,h2,h3⟩:=zsk hm.2;rw[zGZ e,hL,tk0,tk1,tk2];exact zaz ((h a (by rw[hL];simp)).at_ h1 _ _) (zZ (by decide) (zaz ((h b (by rw[hL];simp)).at_ h2 _ _) (zZ (by decide) ((h d (by rw[hL];simp)).at_ h3 _ _))))
 ·rw[zCo e,qz4]at hm;obtain⟨a,b,hL,h1,h2⟩:=zdT hm.2;have hn:x.Name∈zrW:=by simpa [zI,e]using(zaT hm.1).1
  rw[zGB e,hL,tk0,tk1];exact zaz ((h a (by rw[hL];simp)).at_ (zq9 h1) _ _) (all_cons (zq4 hn (by decide)) ((h b (by rw[hL];simp)).at_ h2 _ _))
 ·rw[zDS e,qz4]at hm;obtain⟨a,b,hL,h1,h2⟩:=zdT hm.2;rw[zGR e,hL,tk0,tk1];exact zaz ((h a (by rw[hL];simp)).at_ h1 _ _) (zZ (by decide) ((h b (by rw[hL];simp)).at_ h2 _ _))
theorem zRn(x:Node)(h: ∀k∈x.L,TA k)(hx: ∀no,zu x 101=true->zdO ((tkN x).ex no))(ho:ziO x=true)(least:Int)(no:Bool):zdO (zaJ (tkN x) least no):=by
 rcases zB0 ho with e|e|e
 ·rw[zxE e];exact all_nil
 ·rw[zzo e];have hm:=za7 (c:=118) ho;rw[zC9 e,qz4]at hm;obtain⟨d,l,hL,h1,h2⟩:=zhX hm.2
  have hk: ∀k∈x.L,zu k 100=true:=by
   rw[hL];intro k hk;rcases yP.1 hk with rfl|hk
   ·exact h1
   ·exact h2 k hk
  exact zZ (by decide) (zmV λk hk1=>(h k hk1).de (hk k hk1) no)
 ·rw[zqD (zb8 e).1];exact zgw (λno=>hx no e) least no
theorem zsc{w:Str}{k:Node}(hw:zgk.contains w=true)(h:TA k)(ho:zu k 101=true):zdO (zc6 w (tkN k)):=by
 unfold zc6;exact zZ hw (zZ (by decide) (zaz (h.at_ ho _ _) (zZ (by decide) all_nil)))
theorem zPq{l:List Str}(h:zdO l):zdO (zjb l):=by
 unfold zjb;split
 ·exact all_nil
 ·split
  ·exact zZ (by decide) (zaz h (zZ (by decide) all_nil))
  ·exact h
theorem zuK(x:Node)(hk:x.Kind=31\/x.Kind=32\/x.Kind=33\/x.Kind=34\/x.Kind=40)(ho:zX x=true):zdO (zhz x):=by
 have hnm:x.Name=[]\/zaP x.Name=true:=by
  have:=(zaT ho).1;rcases hk with e|e|e|e|e
  ·simpa [zI,e]using this
  ·simpa [zI,e]using this
  ·exact .inl (zeU ho (by rw[e];decide))
  ·exact .inl (zeU ho (by rw[e];decide))
  ·exact .inl (zeU ho (by rw[e];decide))
 unfold zhz;refine zaz ?_ (zKt hnm);rcases hk with e|e|e|e|e<;>rw[e]
 ·exact zZ (by decide) all_nil
 ·exact zZ (by decide) all_nil
 ·exact zZ (by decide) all_nil
 ·exact zZ (by decide) all_nil
 ·exact all_nil
theorem zHu{ls:List Node}(h: ∀k∈ls,TA k)(ho: ∀k∈ls,zu k 101=true):zdO ((tkL ls).flatMap λk=>atT k 0 false):=λw hw=>by
 rw[zAS]at hw;obtain⟨q,hq,hw⟩:=List.mem_flatMap.1 hw;obtain⟨k,hk,rfl⟩:=List.mem_map.1 hq;exact(h k hk).at_ (ho k hk) 0 false w hw
theorem zWv(x:Node)(h: ∀k∈x.L,TA k)(ho:zhO x=true):zdO (tkN x).st:=by
 obtain⟨hm,hK⟩:=zMk ho;have hend:zdO [[59]]:=zZ (by decide) all_nil;rcases hK with e|e|e|e|e|e|e|e|e|e|e|e|e|e|e|e|e|e
 ·have hbg:=zRn x h (λno h101=>by
   have:=(zb8 h101).1;rw[e]at this;exact absurd this (by decide)) (zIY e hm) 0 false
  rw[zzo e]at hbg;rw[zGA e];exact zaz hbg hend
 ·rw[zC2 e,qz4]at hm;obtain⟨a,hL,h1⟩:=zdE hm.2;rw[zL0 e,hL,tk0];exact zaz (zPq ((h a (by rw[hL];simp)).at_ h1 _ _)) hend
 ·rw[zDz e,qz4]at hm;rw[zCu e];exact zZ (by decide) (zaz (zpq λk hk=>(h k hk).st (zBI (zfA hm.2 k hk))) (zZ (by decide) all_nil))
 ·rw[zzM e,qz4]at hm;rcases zMw hm.2 with⟨a,b,hL,h1,h2⟩| ⟨a,b,d,hL,h1,h2,h3⟩
  ·rw[zAB e,hL,tk0,tk1,zQy];exact zaz (zsc (by decide) (h a (by rw[hL];simp)) h1) (zaz ((h b (by rw[hL];simp)).st (ziW h2)) all_nil)
  ·rw[zAB e,hL,tk0,tk1,tk2];exact zaz (zsc (by decide) (h a (by rw[hL];simp)) h1) (zaz ((h b (by rw[hL];simp)).st (ziW h2)) (zZ (by decide) ((h d (by rw[hL];simp)).st (ziW h3))))
 ·rw[zDW e,qz4]at hm;obtain⟨a,b,hL,h1,h2⟩:=zdT hm.2;rw[zLJ e,hL,tk0,tk1];exact zaz (zsc (by decide) (h a (by rw[hL];simp)) h1) ((h b (by rw[hL];simp)).st (ziW h2))
 ·rw[zCR e,qz4]at hm;obtain⟨a,b,hL,h1,h2⟩:=zdT hm.2;rw[zMB e,hL,tk0,tk1];exact zZ (by decide) (zaz ((h a (by rw[hL];simp)).st (ziW h1)) (zaz (zsc (by decide) (h b (by rw[hL];simp)) h2) hend))
 ·rw[zDJ e,qz4]at hm;obtain⟨a,b,d,q,hL,h1,h2,h3,h4⟩:=zHC hm.2;rw[zMt e,hL,tk0,tk1,tk2,tk3];exact zZ (by decide) (zZ (by decide) (zaz ((h a (by rw[hL];simp)).bg (zEp h1) _ _) (zZ (by decide) (zaz ((h b (by rw[hL];simp)).bg (zq2 h2) _ _) (zZ (by decide) (zaz ((h d (by rw[hL];simp)).bg (zq2 h3) _ _) (zZ (by decide) ((h q (by rw[hL];simp)).st (ziW h4)))))))))
 ·rw[zC3 e,qz4]at hm;obtain⟨a,b,q,hL,h1,h2,h3⟩:=zsk hm.2;rw[zLF e,hL,tk0,tk1,tk2];exact zZ (by decide) (zZ (by decide) (zaz ((h a (by rw[hL];simp)).bg (zKn h1) _ _) (zZ (by decide) (zaz ((h b (by rw[hL];simp)).at_ h2 _ _) (zZ (by decide) ((h q (by rw[hL];simp)).st (ziW h3)))))))
 ·rw[zDC e,qz4]at hm;rw[zLi e,zgu hm.2];exact zaz (zuK x (by omega) hm.1) (zaz (by simp[tkL];exact all_nil) hend)
 ·rw[zD4 e,qz4]at hm;rw[zMh e,zgu hm.2];exact zaz (zuK x (by omega) hm.1) (zaz (by simp[tkL];exact all_nil) hend)
 ·rw[zD9 e,qz4]at hm;rw[zGv e];refine zaz (zuK x (by omega) hm.1) (zaz (zHu h ?_) hend);rcases zIA hm.2 with hL| ⟨a,hL,h1⟩
  ·rw[hL];simp
  ·rw[hL];simpa using h1
 ·rw[zCX e,qz4]at hm;obtain⟨a,hL,h1⟩:=zdE hm.2;rw[zMA e];exact zaz (zuK x (by omega) hm.1) (zaz (zHu h (by rw[hL];simpa using h1)) hend)
 ·rw[zDi e,qz4]at hm;obtain⟨a,b,d,hL,h1,h2,h3,h4⟩:=zHo hm.2;have hnm:=(zaT hm.1).1;unfold zI at hnm;rw[e,hL]at hnm;have hnm:(if(b.Kind==25)=true then zaP x.Name else x.Name==([]:Str))=true:=hnm;rw[zMI e,hL,tk0,tk1,tk2,zdF,zdF];refine zZ (by decide) (zaz ((h a (by rw[hL];simp)).st (ziW h1)) (zaz ?_ ?_))
  ·rcases zzI h2 with⟨k,h5⟩|k
   ·rw[k]at hnm⊢;exact zZ (by decide) (zZ (by decide) (all_cons (zmb hnm) (zZ (by decide) ((h b (by rw[hL];simp)).st (ziW h5)))))
   ·rw[k];exact all_nil
  ·rcases zzI h3 with⟨k,h5⟩|k
   ·rw[k];exact zZ (by decide) ((h d (by rw[hL];simp)).st (ziW h5))
   ·rw[k];exact all_nil
 ·rw[zCB e,qz4]at hm;obtain⟨a,l,hL,h1,h2⟩:=zzL hm.2;rw[zLK e,hL,tk0,tkT];exact zaz (zsc (by decide) (h a (by rw[hL];simp)) h1) (zZ (by decide) (zaz (zpq λk hk=>(h k (by rw[hL];exact qz8 _ hk)).st (zVP (zsp h2 k hk))) (zZ (by decide) all_nil)))
 ·rw[zCO e,qz4]at hm;obtain⟨a,l,hL,h1,h2⟩:=zhX hm.2;rw[zL4 e,hL,tk0,tkT];refine zaz (all_cons ?_ ((h a (by rw[hL];simp)).bg (zq2 h1) _ _)) (zZ (by decide) (zpq λk hk=>(h k (by rw[hL];exact qz8 _ hk)).st (zBI (h2 k hk))))
  split
  ·exact .inl (by decide)
  ·exact .inl (by decide)
 ·rw[zDH e,qz4]at hm;obtain⟨a,hL,h1⟩:=zdE hm.2;rw[zMP e,hL,tk0];exact all_cons (zmb (by simpa [zI,e]using(zaT hm.1).1)) (zZ (by decide) ((h a (by rw[hL];simp)).st (zBI h1)))
 ·rw[zDq e,qz4]at hm;rw[zLM e];exact zHd hm.1 (.inr e) λk hk=>(h k hk).st (zCh (zfA hm.2 k hk))
 ·rw[zH1 e,qz4]at hm;rw[zL6 e,zgu hm.2];exact zaz (zuK x (by omega) hm.1) (zaz (by simp[tkL];exact all_nil) hend)
theorem zTB(x:Node)(hb:zJ x<=2097152)(h: ∀k∈x.L,TA k):TA x:=by
 have a2:=zaF x;refine⟨λho no=>zME x hb h ho no,zWv x h,λho=>?_,λho no=>?_,λho least no=>zRn x h (λno h1=>zME x hb h h1 no) ho least no⟩
 ·unfold zaj;rw[zdF,zjE];split
  ·rename_i e;have e:=eq_of_beq e
   have hm:zan x=true:=by
    unfold zdI at ho;rw[yQ]at ho;rcases ho with h|h<;>exact za7 h
   rw[zGK e,qz4]at hm;obtain⟨a,hL,h1⟩:=zdE hm.2;rw[hL,tk0];exact all_cons (zFv (zrL hm.1) (by omega)) (zZ (by decide) ((h a (by rw[hL];simp)).at_ h1 _ _))
  ·rename_i e;refine zgw (λno=>zME x hb h ?_ no) _ _;unfold zdI at ho;rw[yQ]at ho;rcases ho with h1|h1
   ·exact h1
   ·exact absurd (show(x.Kind==9)=true from zec h1) e
 ·obtain⟨e,hL⟩:=zA1 ho;have hm:=za7 ho;rw[zzE e,qz4]at hm;unfold declT;rw[zdF,zjE];refine all_cons (zmb (by simpa [zI,e]using(zaT hm.1).1)) ?_;rcases hL with hL| ⟨a,hL,h1⟩
  ·rw[hL];simp[tkL,k0];exact all_nil
  ·rw[hL,tk0];exact zZ (by decide) ((h a (by rw[hL];simp)).at_ h1 _ _)
mutual
theorem zXV: ∀x:Node,zJ x<=2097152->TA x
 | ⟨k,n,m,t,ns,l⟩,hb=>
  have hb2:=zaF ⟨k,n,m,t,ns,l⟩
  zTB _ hb (zQn l (by simp only at hb2;omega))
theorem zQn: ∀(l:List Node),zak l<=2097152->∀q∈l,TA q
 | [],_,q,hq=>by cases hq
 |x::r,hb,q,hq=>by
  simp only[zak]at hb;have hx:=zXV x (by omega);rcases yP.1 hq with h|hq
  ·exact h▸hx
  ·exact zQn r (by omega) q hq
end
mutual
theorem zFh: ∀a b:Node,zqB a b=true↔a=b
 | ⟨k,n,m,t,ns,l⟩,⟨k',n',m',t',ns',l'⟩=>by
  have:=zFj l l';simp only[zqB,qz4,beq_iff_eq,this];constructor
  ·rintro⟨⟨⟨⟨⟨rfl,rfl⟩,rfl⟩,rfl⟩,rfl⟩,rfl⟩;rfl
  ·intro e;injection e with e1 e2 e3 e4 e5 e6
   exact⟨⟨⟨⟨⟨e1,e2⟩,e3⟩,e4⟩,e5⟩,e6⟩
theorem zFj: ∀a b:List Node,zd0 a b=true↔a=b
 | [],[]=>by simp[zd0]
 | [],y::r=>by simp[zd0]
 |x::r,[]=>by simp[zd0]
 |x::r,y::q=>by
  have h1:=zFh x y;have h2:=zFj r q;simp only[zd0,qz4,h1,h2,List.cons.injEq]
end
theorem zNU{x:Node}(hb:zJ x<=2097152)(e:x.Kind=41)(hm:zan x=true): ∀w∈zad (tkL x.L),U.zl4 w:=by
 have a2:=zaF x;exact zpq λk hk=>(zQn x.L (by omega) k hk).st (zFx e hm k hk)
end Go.D08
namespace Go.D08
open Go Go.Gw Go.Dn Go.Proofs
set_option maxRecDepth 100000
theorem zUi(x y:Node)(hx:zJ x<=2097152)(hy:zJ y<=2097152):zbR x y=some (zqB x y,()):=by
 have h1:=zi1 x;have h2:=zi1 y;have h3:=zwx x;have h4:=zwx y;exact zKM 1000000000000 x y (by have:=zpB x;omega) (by omega) (by omega) (by omega) (by omega)
theorem zBH{src:Str}{L:List zy}{ns:List Node}{e:Tok}(hs:src.length<=100000000)(hc:U.zeN src=(L,0,0))(ok:TOk L)(hl:L.length<=100000000)(h:(pG (10*L.length+20)).stmts true (L.map tk)=gt (ns,[e]))(he:e.kind=0)
  (hz:zjl (nd 41 ns)<=2097152) (hd:zY (nd 41 ns)<=64):zbE src=some (nd 41 ns,0,0,()):=by
 rw[zsn hs hc ok hl (λq hq=>by rw[h]at hq;cases hq;exact hz)]
 unfold zw5;rw[h];simp only;rw[yL (show zaa [e]=0 from he),yK (by omega)]
theorem zNh{src:Str}{L:List zy}{k:Nat}(hs:src.length<=100000000)(hc:U.zeN src=(L,0,0))(ok:TOk L)(hl:L.length<=100000000)(h:(pG (10*L.length+20)).stmts true (L.map tk)=some (.inl k)):zbE src=some (nd 0 [],atK L k,80,()):=by
 rw[zsn hs hc ok hl (λq hq=>by rw[h]at hq;cases hq)]
 unfold zw5;rw[h]
def nm1(c:UInt8):Node:=ndN 3 [c] []
theorem zXT:zbE [97,32,61,32,98,10,43,43,99]=some (nd 41 [nd 24 [ndN 20 [61] [nm1 97,nm1 98]],nd 24 [⟨16,[43,43],1,[],[],[nm1 99]⟩]],0,0,()):=by
 have hc:U.zeN [97,32,61,32,98,10,43,43,99]=((U.zeN [97,32,61,32,98,10,43,43,99]).1,0,0):=by kernel_rfl
 obtain⟨h1,h2,_⟩:=U.zkZ hc;exact zBH (e:=znH) (by decide) hc h1.ok (by omega) (by kernel_rfl) rfl (by decide+kernel) (by decide+kernel)
theorem zXA:zbE [114,101,116,117,114,110,10,97]=some (nd 41 [nd 33 [],nd 24 [nm1 97]],0,0,()):=by
 have hc:U.zeN [114,101,116,117,114,110,10,97]=((U.zeN [114,101,116,117,114,110,10,97]).1,0,0):=by kernel_rfl
 obtain⟨h1,h2,_⟩:=U.zkZ hc;exact zBH (e:=znH) (by decide) hc h1.ok (by omega) (by kernel_rfl) rfl (by decide+kernel) (by decide+kernel)
theorem zXP:zbE [49,32,61,32,50]=some (nd 0 [],2,80,()):=by
 have hc:U.zeN [49,32,61,32,50]=((U.zeN [49,32,61,32,50]).1,0,0):=by kernel_rfl
 obtain⟨h1,h2,_⟩:=U.zkZ hc;have:=zNh (k:=3) (by decide) hc h1.ok (by omega) (by kernel_rfl);have e:atK (U.zeN [49,32,61,32,50]).1 3=2:=by kernel_rfl
 rw[this,e]
theorem zN9:zh5=some (true,()):=by
 unfold zh5;rw[zXT,zXA,zXP];rfl
theorem zS8{n:Node}(ho:okN n)(hb:zJ n<=1048576)(h:(zlk n).2=0):zbE (zlk n).1=some (n,0,0,()):=by
 obtain⟨hk,hm,hd,ht,hl⟩:=zT8 h;have hw:=zNU (x:=n) (by omega) hk hm;rw[ht]at hl⊢;obtain⟨L,hc,hL⟩:=U.zMx hw hl;obtain⟨h1,h2,_⟩:=U.zkZ hc;have hr:=zPc (t:=L.map tk) h1.ok.wf (by rw[hL];exact zOq U.zG7 n (by omega) hk hm)
 rw[List.length_map]at hr;have hn:=zT9 U.zG7 hk hm;have hsz:=zi1 n
 rw[show(some (n,0,0,()):Option (Node×Int×Int×Unit))=some (nd 41 n.L,0,0,()) by
  conv=>lhs;rw[hn]
  rfl]
 have hz:zjl (nd 41 n.L)<=2097152:=by
  have:nd 41 n.L=n:=hn.symm;rw[this];omega
 have hd':zY (nd 41 n.L)<=64:=by
  have:nd 41 n.L=n:=hn.symm;rw[this];exact hd
 exact zBH (e:=znH) (by omega) hc h1.ok (by omega) hr rfl hz hd'
end Go.D08
namespace Go.Dn
open Go.Gw Go.RowKit Go.Deep
open Go.ChangeShapes Go.WideShapes Go.ChangeAt
set_option maxRecDepth 100000
def zlN(w:World):Heap:=λb=>w.heap[b]?
theorem zLR(w:World):(zlN w).Sub w:=⟨λ_ _ e=>e⟩
theorem zCd{w:World}{b off:Nat}{v:Value}(h:w.cell? ⟨b,off,none⟩=some v):zic (zlN w) b off v:=by
 unfold World.cell? at h;cases hb:w.heap[b]? with
 |none=>rw[hb]at h;cases h
 |some o=>
  rw[hb]at h;cases o<;>simp only[Option.isSome_none,qz2,yA]at h<;>try cases h
  exact⟨_,_,_,hb,h⟩
structure zM9 (bulk:{H:Type}->DataW H->Nat):Prop where
 agg: ∀{H:Type} (ds:List (DataW H)),(ds.map bulk).sum+1<=bulk (.agg ds)
 sl: ∀{H:Type} (es sp:List (DataW H)),(es.map bulk).sum+1<=bulk (.slice es sp)
 str: ∀{H:Type} (s:List UInt8),s.length+1<=bulk (.lit (.string s):DataW H)
 pos: ∀{H:Type} (d:DataW H),0<bulk d
section
variable {bulk:{H:Type}->DataW H->Nat}
structure OpF (bulk:{H:Type}->DataW H->Nat) (Y:Tys) (P:Program) (w:World) {α:Type} (mk:α->List (AV Y.T)) (t:TypeId) (ok:α->Prop) (ms:α->Nat) (N:Nat):Prop where
 opn: ∀{H:Type} {enc:TypeId×Value->H} {base:Nat} {spare:Nat->Bool} {held:Bool} {fuel:Nat} {cs:List Value} {x:DataW H×List MemPlace},
  fuel<=N->DataW.trod enc P w base spare held fuel t cs=some x->∃a,zK Y (zlN w) [] (mk a) cs/\ok a/\ms a<=bulk x.1
variable {Y:Tys} {P:Program} {w:World} {t e:TypeId} {N:Nat}
theorem zSO(hB:zM9 bulk)(ht:P.underlying t=some .string):OpF bulk Y P w (λs:Str=>[.v (.string ⟨⟨s⟩⟩)]) t (λs=>s.length<=maxLen) (λs=>s.length+1) N:=
 ⟨λ_ h=>by
  obtain⟨b,rfl,rfl,hw⟩:=DataW.trod_string ht h;exact⟨b.data.toList,zK.cons .v zK.nil,hw,hB.str _⟩⟩
end
theorem zxJ{H:Type}{enc:TypeId×Value->H}{P:Program}{W W':World}{base:Nat}{spare:Nat->Bool}{held:Bool}(hb:Below W.heap.size W W'): ∀{ts:List TypeId} {vs:List Value} {ds:List (DataW H)} {ps:List MemPlace},
  DataW.TrodAll enc P W base spare held ts vs ds ps->DataW.TrodAll enc P W' base spare held ts vs ds ps
 | [],[],[],_,h=>h
 |_::_,_::_,_::_,_,⟨p,q,⟨n,h1⟩,h2,e⟩=>⟨p,q,⟨n,DataW.trod_carry n _ _ _ h1 λx hx=>hb.same (DataW.trod_lt n _ _ _ h1 x hx)⟩,zxJ hb h2,e⟩
theorem zGc{H:Type}{enc:TypeId×Value->H}{P:Program}{f:Func}{s:ChangeSpec}{apart fresh handsOn again:Bool}{W W':World}{args:Array Value}{v:Value}{ds gs:List (DataW H)}{before pa pv:List MemPlace}
  (hW:DataW.Whole enc P f.params.toList s.vars apart W args.toList ds gs before)
  (hres: ∀(b:Nat) (sp:Nat->Bool) (hd:Bool),DataW.TrodAll enc P W' b sp hd f.resultTypes.toList (v.resultList f.resultTypes.size) (s.fn H (ds++gs)).results [])
  (hargs: ∀sp:Nat->Bool,(∀p∈before,sp p.block=true)->DataW.TrodAll enc P W' 0 sp true f.params.toList args.toList (s.fn H (ds++gs)).args pa)
  (hvars: ∀sp:Nat->Bool,(∀p∈before,sp p.block=true)->DataW.TrodVars enc P W' sp s.vars (s.fn H (ds++gs)).vars pv)
  (hps:before=pa++pv) (hb:Below W.heap.size W W')
  (hok: ∀(j:Nat) (t:TypeId) (r:Value),f.resultTypes[j]? =some t->(v.resultList f.resultTypes.size)[j]? =some r->Value.okWide P W' .any 0 t r):
  s.post enc P f apart fresh handsOn again W args v W':=by
 have hlt:=hW.lt;have hold: ∀p∈before,(λb=>decide (b<W.heap.size)) p.block=true:=λp hp=>by simpa using hlt p hp
 refine⟨ds,gs,before,[],pa,pv,hW,hres _ _ _,hargs _ hold,hvars _ hold,World.keptBut_mono (λp hp=>⟨hp,?_⟩) (hb.frame (· ∈before)),λ_=>?_⟩
 ·rw[hps,List.mem_append]at hp;exact Or.inr hp
 ·obtain⟨_,_,_,_,_,hz,hn⟩:=hW;refine⟨hok,_,_,([]++pa)++pv,⟨[]++pa,pv,trodAll_append (hargs _ (λ_ _=>rfl)) (hres _ _ _),hvars _ (λ_ _=>rfl),rfl,?_,?_⟩,?_⟩
  ·intro b off hp;have hp':MemPlace.cell b off∈before:=by rw[hps];simpa using hp
   rw[hb.frozen (p:=⟨b,off,none⟩) (hlt _ hp')];exact hz b off hp'
  ·intro ha;have:=hn ha;rw[hps]at this;simpa using this
  ·intro p hp _;rw[hps];simpa using hp
def zsh{T:Nat->Type}:Out T->List (Mem T)->Option Unit
 | .ret (.v (.bool true)),_=>some ()
 |_,_=>Option.none
theorem COk.holds{Y:Tys}{hY:zbi Y}{P:Program}{G:Heap->Prop}{f:FuncId}{C:Callee Y}(h:COk hY P G f C){args:List (AV Y.T)}
  (hr:C.run args [] zsh=some ()) {W:World} (hG:G (zlN W)) {vals:List Value} (hv:zK Y (zlN W) [] args vals):
  Calls P f vals.toArray W λe W'=>e= .returned (.bool true)/\Below W.heap.size W W':=by
 have h1:=h.2 args [] () _ hr W (zlN W) [] [] vals No hG hv rfl rfl (λk x p o hx=>by simp at hx) (St.start (zLR W));refine h1.mono λe W' h2=>?_
 obtain⟨res,F',ρ',os',ms',hp,hrel,_,_,_,hst,_⟩:=h2;refine⟨?_,hst.below⟩;cases hrel with
 |pan _=>cases hp
 |ret hx=>
  rename_i x u
  have key: ∀(o:Out Y.T) (m:List (Mem Y.T)),zsh o m=some ()->o= .ret (.v (.bool Bool.true)):=by
   intro o m;unfold zsh;split
   ·intro _;rfl
   ·intro e;cases e
  cases key _ _ hp;rw[hx.zbn]
theorem zNb{P:Program}{W:World}{l:List (String×DataW Unit)}{name:String}{k:IntKind}{zs:List Int}{g:Nat}{t e:TypeId}{n:Nat}(hL:laidMetH P l W)(hall:(l.all λx=>x.2.handleName?.isNone)=true)
  (hf:(l.filter λx=>x.1==name)=[(name,Lib.tabData k zs)]) (hg:P.globalNamed name=some g) (hty:(P.globals[g]?).map (·.type)=some t) (ht:P.underlying t=some (.array n e)) (he:P.underlying e=some (.int k)) (hce:P.cellsOf e=1) (hct:P.cellsOf t=n) (w:World) (hs:(zlN W).Sub w):
  Lib.TabIs P w name k zs:=by
 rw[Go.MakeChecks.laidMetH_plain P l W hall]at hL;have h:=hL.filter (λx=>x.1==name);rw[hf]at h;have h2:=Lib.tabIs_of_head hg hty ht he hce hct h;unfold Lib.TabIs World.var? at h2⊢;rw[hg]at h2⊢;simp only[qz1]at h2⊢;cases hb:W.heap[g]? with
 |none=>rw[hb]at h2;cases h2
 |some o=>
  rw[hb]at h2;rw[show w.heap[g]? =some o from hs.out g o hb];exact h2
end Go.Dn
namespace Go.D08
open Go Go.Gw Go.Dn Go.RowKit Go.Proofs Go.Deep
open Go.Proofs.YtdapbipagjmolaaGreatDoor.Rows (uptoBulk uptoBulkAll)
open Go.Proofs.YtdapbipagjmolaaGreatDoor
open Go.ChangeShapes Go.WideShapes Go.ChangeAt
set_option maxRecDepth 100000
theorem ztN{H:Type}: ∀l:List (DataW H),uptoBulkAll l=(l.map uptoBulk).sum
 | []=>by simp[uptoBulkAll]
 |d::l=>by simp[uptoBulkAll,ztN l]
theorem zPv{H:Type}(d:DataW H):0<uptoBulk d:=by
 match d with
 | .lit l=>cases l<;>simp only[uptoBulk]<;>omega
 | .nil| .ptr _| .slice _ _| .agg _| .iface _ _| .map _| .held _=>simp only[uptoBulk];omega
theorem bulk:zM9 (λ{H}=> @uptoBulk H):=⟨λds=>by simp only[uptoBulk,ztN];omega,λes sp=>by simp only[uptoBulk,ztN];omega,λs=>by simp only[uptoBulk];omega,zPv⟩
theorem kids:Kids Tryz.prog (· <Tryz.prog.types.size):=kids_rows (by kernel_rfl) (by kernel_rfl)
theorem full: ∀t e,t<Tryz.prog.types.size->Tryz.prog.underlying t=some (.slice e)->0<Tryz.prog.cellsOf e:=slices_full_of Tryz.prog (by kernel_rfl)
def zsv:List (String×DataW Unit):=Rows.parseBackUptoRow.laid
def zWW:List Int:=[0,1,56,2,57,49,28,3,61,58,42,50,38,29,17,4,62,47,59,36,45,43,51,22,53,39,33,30,24,18,12,5,63,55,48,27,60,41,37,16,46,35,44,21,52,32,23,11,54,26,40,15,34,20,31,10,25,14,19,9,13,8,7,6]
theorem star: "*"++ "errors.errorString"= "*errors.errorString":=by decide
theorem zVS(u:TypeId)(h:Tryz.prog.typeName? 3 u=some "*errors.errorString"):u=179:=
 typeName_ptr_named (nm:= "errors.errorString") (by rw[star];kernel_rfl) (by kernel_rfl) (by decide) u (by rw[star];exact h)
theorem zOE{W:World}{name:String}{text:List UInt8}{g:Nat}(hL:laidMetH Tryz.prog zsv W)(hf:(zsv.filter λx=>x.1==name)=[(name,.iface "*errors.errorString" (.ptr (.agg [.lit (.string text)])))])
  (hg:Tryz.prog.globalNamed name=some g) (ht:(Tryz.prog.globals[g]?).map (·.type)=some 88): ∃t p,zic (zlN W) g 0 (.iface t p):=by
 rw[Go.MakeChecks.laidMetH_plain Tryz.prog zsv W (by kernel_rfl)]at hL;have h:=hL.filter (λx=>x.1==name);rw[hf]at h;obtain⟨a,s,hv,_,_,_⟩:=laid_sentinel h hg ht Tryz.underlying88 zVS Tryz.underlying179 Tryz.underlying181 rfl rfl Tryz.underlying9 (by kernel_rfl) (by kernel_rfl);have:=World.var?_cell hg hv 0;exact⟨_,_,zCd (v:= .iface 179 (.pointer (some a))) (by simpa using this)⟩
theorem zPW{H:Type}{enc:TypeId×Value->H}{W:World}{base b0:Nat}{v:Value}{d:DataW H}{ps:List MemPlace}(hval:Value.okWide Tryz.prog W .any b0 9 v)(h:DataW.Trod enc Tryz.prog W base (λ_=>true) true 9 v d ps):
  ∃a:Str,Rel Y (zlN W) [] (.v (.string ⟨⟨a⟩⟩)) v/\True/\a.length+1<=uptoBulk d:=by
 obtain⟨n,hn⟩:=h;obtain⟨a,h1,h2,h3⟩:=(zSO (bulk:=λ{H}=> @uptoBulk H) (Y:=Y) (N:=n) bulk Tryz.underlying9).opn (yJ _) hn;obtain⟨s,rfl⟩:=okWide_string Tryz.underlying9 hval;refine⟨a,?_,trivial,h3⟩;obtain⟨u,vs,e,q,r⟩:=h1.inv;simp only[Value.cells]at e;cases e;exact q
theorem zTI{W:World}(h:W.ShapedOpen Tryz.prog)(hL:laidMetH Tryz.prog zsv W):zar (zlN W):=by
 obtain⟨m,hm⟩:=Tryz.laysM219.s1_3 W h
 have hb:=zNb (name:= "math/bits.deBruijn64tab") (k:= .u8) (zs:=zWW) (g:=7) (t:=198) (e:=5) (n:=64) hL (by kernel_rfl) (by kernel_rfl) (by kernel_rfl) (by kernel_rfl) (by kernel_rfl) (by kernel_rfl) (by kernel_rfl) (by kernel_rfl) W ⟨λ_ _ e=>e⟩
 exact⟨⟨m,zCd hm⟩,zCd (hb.cell (g:=7) (by kernel_rfl) 15 (by decide)),zOE (name:= "strconv.ErrSyntax") (text:=[105,110,118,97,108,105,100,32,115,121,110,116,97,120]) hL (by kernel_rfl) (by kernel_rfl) (by kernel_rfl),zOE (name:= "strconv.ErrRange") (text:=[118,97,108,117,101,32,111,117,116,32,111,102,32,114,97,110,103,101]) hL (by kernel_rfl) (by kernel_rfl) (by kernel_rfl),
  λw hs=>zNb (name:= "internal/strconv.uint64pow10") (k:= .u64) (zs:=Lib.pow10Tab) (g:=3) (t:=188) (e:=129) (n:=20) hL (by kernel_rfl) (by kernel_rfl) (by kernel_rfl) (by kernel_rfl) (by kernel_rfl) (by kernel_rfl) (by kernel_rfl) (by kernel_rfl) w hs⟩
end Go.D08
namespace Go.Proofs.YtdapbipagjmolaaGreatDoor
open Go.Proofs Go.RowKit Go.Deep
set_option maxRecDepth 1000000
noncomputable def laidWorld (os:Os):World:=World.laidAll Tryz.prog os Go.D08.zsv
theorem zRa(os:Os)(args:Array Value):((laidWorld os).forCall (λ_ _=>0) ⟨#[],args,[]⟩).variablesRefB Tryz.prog=true:=by kernel_rfl
theorem zQb(os:Os)(args:Array Value):(((laidWorld os).forCall (λ_ _=>0) ⟨#[],args,[]⟩).heap.toList.drop Tryz.prog.globals.size).take ((begin Tryz.prog (λ_ _=>0) default).world.heap.size -Tryz.prog.globals.size)=
  (begin Tryz.prog (λ_ _=>0) default).world.heap.toList.drop Tryz.prog.globals.size:=by kernel_rfl
theorem zPU(os:Os)(args:Array Value):laidMet Tryz.prog Go.D08.zsv ((laidWorld os).forCall (λ_ _=>0) ⟨#[],args,[]⟩).memory:=
 laidMet_laidAll args (by kernel_rfl) (by kernel_rfl)
end Go.Proofs.YtdapbipagjmolaaGreatDoor
namespace Go.D08
open Go Go.Gw Go.Dn Go.Proofs
set_option maxRecDepth 100000
structure TkG (a:Tok):Prop where
 name:a.kind=1->zaP a.text=true
 word:a.kind=2->zdD a.text=true
 num:a.kind=3->0<=a.num/\a.num<=9007199254740991
 str:a.kind=4->zaL a.text=true
def GT(t:zB):Prop:=∀a∈t,TkG a
theorem GT.tail{t:zB}(h:GT t):GT t.tail:=λa ha=>h a (List.mem_of_mem_tail ha)
def wT:zB->Nat
 | []=>0
 |a::r=>100+3*a.text.length+wT r
theorem zaO{t:zB}(h:zaa t≠0):wT t=100+3*(tText t).length+wT t.tail:=by
 cases t with
 |nil=>exact absurd rfl h
 |cons a r=>rfl
theorem GT.name{t:zB}(h:GT t)(hk:(zaa t==1)=true):zaP (tText t)=true:=by
 cases t with
 |nil=>cases hk
 |cons a r=>exact(h a qz7).name (eq_of_beq hk)
theorem GT.ident{t:zB}(h:GT t)(hk:(zaa t==1||zaa t==2)=true):zdD (tText t)=true:=by
 rw[yQ]at hk;rcases hk with hk|hk
 ·have:=h.name hk;unfold zaP at this;rw[qz4]at this;exact this.1
 ·cases t with
  |nil=>cases hk
  |cons a r=>exact(h a qz7).word (eq_of_beq hk)
def Pm{α:Type}(P:α->zB->Prop)(x:PR α):Prop:=match x with|some (.inr q)=>GT q.2/\P q.1 q.2|_=>True
theorem Pm.bd{α β:Type}{P:α->zB->Prop}{Q:β->zB->Prop}{x:PR α}{f:α×zB->PR β}(h:Pm P x)(k: ∀q:α×zB,GT q.2->P q.1 q.2->Pm Q (f q)):Pm Q (x.bd f):=by
 cases x with
 |none=>trivial
 |some p=>
  cases p with
  |inl j=>trivial
  |inr q=>exact k q h.1 h.2
theorem Pm.bn{β:Type}{P:Unit->zB->Prop}{Q:β->zB->Prop}{x:PR Unit}{f:zB->PR β}(h:Pm P x)(k: ∀t,GT t->P () t->Pm Q (f t)):Pm Q (x.bn f):=Pm.bd h λq g p=>k q.2 g p
theorem Pm.ite{α:Type}{P:α->zB->Prop}{c:Prop}[Decidable c]{a b:PR α}(h:c->Pm P a)(k: ¬c->Pm P b):Pm P (if c then a else b):=by
 by_cases hc:c
 ·rw[yL hc];exact h hc
 ·rw[yK hc];exact k hc
theorem Pm.up{α:Type}{P Q:α->zB->Prop}{x:PR α}(h:Pm P x)(k: ∀v t,P v t->Q v t):Pm Q x:=by
 cases x with
 |none=>trivial
 |some p=>
  cases p with
  |inl j=>trivial
  |inr q=>exact⟨h.1,k _ _ h.2⟩
theorem Pm.need{t:zB}(g:GT t)(s:Str):Pm (λ_ t'=>wT t'+100<=wT t) (zaC s t):=
 .ite (λc=>⟨g.tail,by have:=zaO (zas c);show wT t.tail+100<=_;omega⟩) λ_=>trivial
theorem Pm.end{t:zB}(g:GT t):Pm (λ_ t'=>wT t'<=wT t) (zg5 t):=
 .ite (λc=>⟨g.tail,by have:=zaO (zas c);show wT t.tail<=_;omega⟩) λ_=> .ite (λ_=>⟨g,yJ _⟩) λ_=>trivial
/-! ### what is made may be -/
theorem zXs{n:Int}(h:0<=n/\n<=9007199254740991):zu ⟨1,[],n,[],[],[]⟩ 101=true:=by
 unfold zu;rw[zG0 rfl];simp[zX,zI,zaB,zaL,zM,h];rfl
theorem zW8{s:Str}(h:zaL s=true):zu ⟨2,[],0,s,[],[]⟩ 101=true:=by
 unfold zu;rw[zGx rfl];simp[zX,zI,zaB,zM,h];rfl
theorem zVC{s:Str}(h:zaP s=true):zu (ndN 3 s []) 101=true:=by
 unfold zu;rw[zMJ rfl];simp[zX,zI,zaB,zaL,zM,ndN,h];rfl
theorem zUV:zu (nd 4 []) 101=true:=by decide+kernel
theorem zVn:zu (nd 5 []) 101=true:=by decide+kernel
theorem zTC:zu (nd 6 []) 101=true:=by decide+kernel
theorem zV6:zu ⟨6,[],1,[],[],[]⟩ 101=true:=by decide+kernel
theorem zTg{l:List Node}(h: ∀y∈l,zu y 101=true):zu (nd 7 l) 101=true:=by
 unfold zu;rw[zGu rfl];simp[zX,zI,zaB,zaL,zM,nd];exact⟨rfl,h⟩
theorem zQB{l:List Node}(h: ∀y∈l,zu y 112=true):zu (nd 8 l) 101=true:=by
 unfold zu;rw[zGL rfl];simp[zX,zI,zaB,zaL,zM,nd];exact⟨rfl,h⟩
theorem zOD{k:Str}{x:Node}(hk:zaL k=true)(h:zu x 101=true):zu ⟨9,[],0,k,[],[x]⟩ 112=true:=by
 unfold zu;rw[zGK rfl];simp[zX,zI,zaB,zM,hk,h];rfl
theorem zVL{m:Str}{ns:List Str}{l:List Node}(hm:m=[]\/zaP m=true)(hn: ∀s∈ns,zaP s=true)(h: ∀y∈l,zu y 120=true):zu ⟨10,m,0,[],ns,l⟩ 101=true:=by
 unfold zu;rw[zCW rfl];simp[zX,zI,zaB,zaL,zM];exact⟨rfl,⟨hm,hn⟩,h⟩
theorem zU8{m:Str}{ns:List Str}{l:List Node}(hm:zaP m=true)(hn: ∀s∈ns,zaP s=true)(h: ∀y∈l,zu y 120=true):zu ⟨39,m,0,[],ns,l⟩ 120=true:=by
 unfold zu;rw[zDq rfl];simp[zX,zI,zaB,zaL,zM];exact⟨rfl,⟨hm,hn⟩,h⟩
theorem zQx{s:Str}{x:Node}(hs:zdD s=true)(h:zu x 101=true):zu (ndN 11 s [x]) 101=true:=by
 unfold zu;rw[zAi rfl];simp[zX,zI,zaB,zaL,zM,ndN,hs,h];rfl
theorem zTs{x y:Node}(hx:zu x 101=true)(hy:zu y 101=true):zu (nd 12 [x,y]) 101=true:=by
 unfold zu;rw[zzh rfl];simp[zX,zI,zaB,zaL,zM,nd,hx,hy];rfl
theorem zU4{x:Node}{l:List Node}(hx:zu x 101=true)(h: ∀y∈l,zu y 101=true):zu (nd 13 (x::l)) 101=true:=by
 unfold zu;rw[zD5 rfl];simp[zX,zI,zaB,zaL,zM,nd,hx];exact⟨rfl,h⟩
theorem zRH{x:Node}{l:List Node}(hx:zu x 101=true)(h: ∀y∈l,zu y 101=true):zu (nd 14 (x::l)) 101=true:=by
 unfold zu;rw[zDX rfl];simp[zX,zI,zaB,zaL,zM,nd,hx];exact⟨rfl,h⟩
theorem zSi{s:Str}{x:Node}(hs:zsF.contains s=true)(h:zu x 101=true):zu (ndN 15 s [x]) 101=true:=by
 have hs:zsF.contains s=true:=hs;unfold zu;rw[zCZ rfl];simp only[zX,zI,zaB,zaL,zM,ndN,h];rw[show(zsF.contains s)=true from hs];rfl
theorem zNt{x:Node}(h:zu x 101=true)(ht:zcF x.Kind=true):zu x 116=true:=by
 unfold zu;rw[za7 h,Bool.and_true];exact ht
theorem zIm{s:Str}{n:Int}{x:Node}(hs:zgC.contains s=true)(hn:n=0\/n=1)(h:zu x 101=true)(ht:zcF x.Kind=true):zu ⟨16,s,n,[],[],[x]⟩ 101=true:=by
 have hs:zgC.contains s=true:=hs;unfold zu;rw[zza rfl];simp only[zX,zI,zaB,zaL,zM,zNt h ht];rw[show(zgC.contains s)=true from hs];rcases hn with rfl|rfl<;>rfl
theorem zQU{no:Bool}{t:zB}{x y:Node}(hb:(zcQ no t).1≠0)(hx:zu x 101=true)(hy:zu y 101=true):zu (ndN (zcQ no t).2 (tText t) [x,y]) 101=true:=by
 cases t with
 |nil=>exact absurd rfl hb
 |cons a r=>
  have hb':(if opK a=true then lvS no a.text else(0,0)).1≠0:=hb;show zu (ndN (if opK a=true then lvS no a.text else(0,0)).2 a.text [x,y]) 101=true
  have b17: ∀s:Str,zoU.contains s=true->zu (ndN 17 s [x,y]) 101=true:=λs hs=>by
   unfold zu;rw[zDh rfl];simp only[zX,zI,zaB,zaL,zM,ndN,hx,hy];rw[show(zoU.contains s)=true from hs];rfl
  have b18: ∀s:Str,ztu.contains s=true->zu (ndN 18 s [x,y]) 101=true:=λs hs=>by
   unfold zu;rw[zy6 rfl];simp only[zX,zI,zaB,zaL,zM,ndN,hx,hy];rw[show(ztu.contains s)=true from hs];rfl
  have sub: ∀(l:List Str),(∀w∈l,zoU.contains w=true)->∀s:Str,l.contains s=true->zoU.contains s=true:=λl hl s hs=>hl s (by simpa using hs)
  cases ho:opK a with
  |false=>rw[ho]at hb';exact absurd rfl hb'
  |true=>
   rw[ho]at hb';simp only[yB]at hb'⊢;unfold lvS at hb'⊢;split
   ·rename_i h;rw[eq_of_beq h];exact b18 _ (by decide)
   ·split
    ·rename_i h;rw[eq_of_beq h];exact b18 _ (by decide)
    ·split
     ·rename_i h;exact b17 _ (sub eqL (by decide) _ h)
     ·split
      ·rename_i h;rw[yQ]at h;rcases h with h|h
       ·exact b17 _ (sub ltL (by decide) _ h)
       ·rw[qz4]at h;rw[eq_of_beq h.2];exact b17 _ (by decide)
      ·split
       ·rename_i h;exact b17 _ (sub zCg (by decide) _ h)
       ·split
        ·rename_i h;exact b17 _ (sub mulL (by decide) _ h)
        ·rename_i h1 h2 h3 h4 h5 h6;rw[yK h1,yK h2,yK h3,yK h4,yK h5,yK h6]at hb';exact absurd rfl hb'
theorem zWe{x y z:Node}(hx:zu x 101=true)(hy:zu y 101=true)(hz:zu z 101=true):zu (nd 19 [x,y,z]) 101=true:=by
 unfold zu;rw[zDN rfl];simp[zX,zI,zaB,zaL,zM,nd,hx,hy,hz];rfl
theorem zQz{s:Str}{x y:Node}(hs:zrW.contains s=true)(hx:zu x 101=true)(ht:zcF x.Kind=true)(hy:zu y 101=true):zu (ndN 20 s [x,y]) 101=true:=by
 have hs:zrW.contains s=true:=hs;unfold zu;rw[zCo rfl];simp only[zX,zI,zaB,zaL,zM,ndN,zNt hx ht,hy];rw[show(zrW.contains s)=true from hs];rfl
theorem zR5{x y:Node}(hx:zu x 101=true)(hy:zu y 101=true):zu (nd 21 [x,y]) 101=true:=by
 unfold zu;rw[zDS rfl];simp[zX,zI,zaB,zaL,zM,nd,hx,hy];rfl
theorem zwW{l:List Str}{t:zB}(h:zbs l t=true):l.contains (tText t)=true:=by
 cases t with
 |nil=>cases h
 |cons a r=>
  have h:(opK a&&l.contains a.text)=true:=h;rw[qz4]at h;exact h.2
theorem bu(k:Int)(l:List Node):zJ (nd k l)=zak l+7:=by simp[nd,zJ]
theorem buN(k:Int)(s:Str)(l:List Node):zJ (ndN k s l)=s.length+zak l+7:=by simp[ndN,zJ]
theorem bl1(x:Node):zak [x]=zJ x:=by simp[zak]
theorem bl2(x y:Node):zak [x,y]=zJ x+zJ y:=by simp[zak]
theorem bl3(x y z:Node):zak [x,y,z]=zJ x+(zJ y+zJ z):=by simp[zak]
theorem bl4(x y z w:Node):zak [x,y,z,w]=zJ x+(zJ y+(zJ z+zJ w)):=by simp[zak]
theorem blc(x:Node)(l:List Node):zak (x::l)=zJ x+zak l:=rfl
theorem buF(k:Int)(m:Str)(ns:List Str)(l:List Node):zJ ⟨k,m,0,[],ns,l⟩=m.length+(ns.map λs=>s.length+1).sum+zak l+7:=by simp[zJ]
abbrev PE(M:Nat)(x:Node)(t':zB):Prop:=zu x 101=true/\zJ x+50+wT t'<=M
abbrev PO(c:UInt8)(k M:Nat)(x:Node)(t':zB):Prop:=zu x c=true/\zJ x+k+wT t'<=M
abbrev PL(c:UInt8)(M:Nat)(l:List Node)(t':zB):Prop:=(∀y∈l,zu y c=true)/\zak l+wT t'<=M
structure zPj (g:PG):Prop where
 expr: ∀a t,GT t->Pm (PE (wT t)) (g.expr a t)
 comma: ∀a x t M,GT t->zu x 101=true->zJ x+50+wT t<=M->Pm (PE M) (g.comma a x t)
 assign: ∀a t,GT t->Pm (PE (wT t)) (g.assign a t)
 binary: ∀a b t,GT t->Pm (PE (wT t)) (g.binary a b t)
 bins: ∀a b x t M,GT t->zu x 101=true->zJ x+50+wT t<=M->Pm (PE M) (g.bins a b x t)
 unary: ∀t,GT t->Pm (PE (wT t)) (g.unary t)
 mems: ∀a x t M,GT t->zu x 101=true->zJ x+50+wT t<=M->Pm (PE M) (g.mems a x t)
 made: ∀t,GT t->Pm (PE (wT t)) (g.made t)
 prim: ∀t,GT t->Pm (PE (wT t)) (g.prim t)
 exprs: ∀s b t,GT t->Pm (PL 101 (wT t)) (g.exprs s b t)
 props: ∀t,GT t->Pm (PL 112 (wT t)) (g.props t)
 func: ∀t,GT t->Pm (PE (wT t)) (g.func 10 t)/\Pm (PO 120 30 (wT t)) (g.func 39 t)
 vars: ∀a t,GT t->Pm (λl t'=>l≠[]/\(∀y∈l,zu y 100=true)/\zak l+40+wT t'<=wT t) (g.vars a t)
 block: ∀t,GT t->Pm (PO 98 50 (wT t)) (g.block t)
 head: ∀t,GT t->Pm (PO 101 100 (wT t)) (g.head t)
 till: ∀s t,GT t->Pm (PO 102 0 (wT t)) (g.till s t)
 loop: ∀t,GT t->Pm (PO 115 0 (wT t)) (g.loop t)
 cases: ∀o t,GT t->Pm (λl t'=>zfe l (if o=true then 0 else 1)=true/\zak l+wT t'<=wT t) (g.cases o t)
 body: ∀t,GT t->Pm (PL 115 (wT t)) (g.body t)
 stmt: ∀t,GT t->Pm (PO 115 30 (wT t)) (g.stmt t)
 stmts: ∀f t,GT t->Pm (PL (if f=true then 120 else 115) (wT t)) (g.stmts f t)
section
variable {g:PG} (G:zPj g)
include G
theorem zUj(a t)(h:GT t):Pm (PE (wT t)) (zxy g a t):= .bd (G.assign _ _ h) λq hq p=>G.comma _ _ _ _ hq p.1 p.2
theorem zQ0(a x t M)(h:GT t)(hx:zu x 101=true)(hM:zJ x+50+wT t<=M):Pm (PE M) (zkN g a x t):=
 .ite (λc=>by
  have hw:=zaO (zas c);exact .bd (G.assign _ _ h.tail) λq hq p=>G.comma _ _ _ _ hq (zR5 hx p.1) (by rw[bu,bl2];have:=p.2;omega)) λ_=>⟨h,hx,hM⟩
theorem zOz(a t)(h:GT t):Pm (PE (wT t)) (zok g a t):=
 .bd (G.binary _ _ _ h) λq hq p=> .ite (λc=>by
  have hw:=zaO (zas c)
  exact .bd (G.assign _ _ hq.tail) λy hy py=> .bn (.need hy _) λt1 h1 p1=> .bd (G.assign _ _ h1) λz hz pz=>
   ⟨hz,zWe p.1 py.1 pz.1,by rw[bu,bl3];have:=p.2;have:=py.2;have:=pz.2;dsimp only;omega⟩) λ_=>
  .ite (λc=> .ite (λht=>by
   have hw:=zaO (zgq c);exact .bd (G.assign _ _ hq.tail) λy hy py=>⟨hy,zQz (zwW c) p.1 ht py.1,by rw[buN,bl2];have:=p.2;have:=py.2;dsimp only;omega⟩) λ_=>trivial) λ_=>⟨hq,p⟩
theorem zNR(a b t)(h:GT t):Pm (PE (wT t)) (zol g a b t):= .bd (G.unary _ h) λq hq p=>G.bins _ _ _ _ _ hq p.1 p.2
theorem zTo(a b x t M)(h:GT t)(hx:zu x 101=true)(hM:zJ x+50+wT t<=M):Pm (PE M) (zmY g a b x t):=
 .ite (λ_=>⟨h,hx,hM⟩) λc=>by
  have h0:(zcQ a t).1≠0:=by
   intro e;rw[e]at c;simp at c
  have hw:=zaO (zzC h0);exact .bd (G.binary _ _ _ h.tail) λq hq p=>G.bins _ _ _ _ _ hq (zQU h0 hx p.1) (by rw[buN,bl2];have:=p.2;omega)
theorem zPH(t)(h:GT t):Pm (PE (wT t)) (zha g t):=
 .ite (λc=>by
  have hw:=zaO (zgq c);exact .bd (G.unary _ h.tail) λy hy p=>⟨hy,zSi (zwW c) p.1,by rw[buN,bl1];have:=p.2;dsimp only;omega⟩) λ_=>
 .ite (λc=>by
  have hw:=zaO (zgq c)
  exact .bd (G.unary _ h.tail) λy hy p=> .ite (λht=>⟨hy,zIm (zwW c) (.inr rfl) p.1 ht,by
   have:=p.2;show zJ ⟨16,tText t,1,[],[],[y.1]⟩+50+wT y.2<=wT t;simp only[zJ,zak,List.map_nil,List.sum_nil,qz6];omega⟩) λ_=>trivial) λ_=>
 .bd (G.made _ h) λq hq p=> .bd (G.mems _ _ _ _ hq p.1 p.2) λr hr pr=> .ite (λ_=>⟨hr,pr⟩) λc=> .ite (λht=>by
  have h1:zbs zgC r.2=true:=by
   cases e:zbs zgC r.2 with
   |true=>rfl
   |false=>rw[e]at c;simp at c
  have hw:=zaO (zgq h1);exact⟨hr.tail,zIm (zwW h1) (.inl rfl) pr.1 ht,by rw[buN,bl1];have:=pr.2;show _+wT r.2.tail<=_;omega⟩) λ_=>trivial
theorem zUe(c x t M)(h:GT t)(hx:zu x 101=true)(hM:zJ x+50+wT t<=M):Pm (PE M) (ziA g c x t):=
 .ite (λc1=>by
  have hw:=zaO (zas c1)
  exact .ite (λc2=>by
   have hw2:=zaO (t:=t.tail) (by intro e;rw[e]at c2;simp at c2)
   exact G.mems _ _ _ _ h.tail.tail (zQx (h.tail.ident c2) hx) (by rw[buN,bl1];omega)) λ_=>trivial) λ_=>
 .ite (λc1=>by
  have hw:=zaO (zas c1);exact .bd (G.expr _ _ h.tail) λk hk p=> .bn (.need hk _) λt1 h1 p1=>G.mems _ _ _ _ h1 (zTs hx p.1) (by rw[bu,bl2];have:=p.2;omega)) λ_=>
 .ite (λc1=>by
  rw[qz4]at c1;have hw:=zaO (zas c1.2);exact .bd (G.exprs _ _ _ h.tail) λl hl p=>G.mems _ _ _ _ hl (zU4 hx p.1) (by rw[bu,blc];have:=p.2;omega)) λ_=>⟨h,hx,hM⟩
theorem zUn(t)(h:GT t):Pm (PE (wT t)) (znq g t):=
 .ite (λc=>by
  have hw:=zaO (zas c)
  exact .bd (G.made _ h.tail) λq hq p=> .bd (G.mems _ _ _ _ hq p.1 p.2) λr hr pr=> .ite (λc2=>by
   have hw2:=zaO (zas c2);exact .bd (G.exprs _ _ _ hr.tail) λl hl pl=>⟨hl,zRH pr.1 pl.1,by rw[bu,blc];have:=pr.2;have:=pl.2;dsimp only;omega⟩) λ_=>
   ⟨hr,zRH (l:=[]) pr.1 (λy hy=>by cases hy),by rw[bu,bl1];have:=pr.2;dsimp only;omega⟩) λ_=>G.prim _ h
theorem zSz(t)(h:GT t):Pm (PE (wT t)) (zdQ g t):=by
 have ti: ∀{s:Str},tIs s t=true->∀x:Node,zu x 101=true->zJ x<=50->Pm (PE (wT t)) (gt (x,t.tail)):=λc x hx hb=>by
  have:=zaO (zas c);exact⟨h.tail,hx,by show zJ x+50+wT t.tail<=_;omega⟩
 refine .ite (λc=>?_) λ_=> .ite (λc=>?_) λ_=> .ite (λc=>?_) λ_=> .ite (λc=>ti c _ zUV (by decide+kernel)) λ_=> .ite (λc=>ti c _ zVn (by decide+kernel)) λ_=> .ite (λc=>ti c _ zTC (by decide+kernel)) λ_=>
  .ite (λc=>ti c _ zV6 (by decide+kernel)) λ_=> .ite (λc=>?_) λ_=> .ite (λc=>?_) λ_=> .ite (λc=>?_) λ_=> .ite (λc=>?_) λ_=>trivial
 ·have hw:=zaO (zbK c (by decide));exact⟨h.tail,zVC (h.name c),by rw[buN];show(tText t).length+zak []+7+50+wT t.tail<=_;simp only[zak];omega⟩
 ·have hw:=zaO (zbK c (by decide));cases t with
  |nil=>cases c
  |cons a r=>
   exact⟨h.tail,zXs ((h a qz7).num (eq_of_beq c)),by
    show zJ ⟨1,[],a.num,[],[],[]⟩+50+wT r<=100+3*a.text.length+wT r;simp only[zJ,zak,List.map_nil,List.sum_nil,qz6];omega⟩
 ·have hw:=zaO (zbK c (by decide));cases t with
  |nil=>cases c
  |cons a r=>
   exact⟨h.tail,zW8 ((h a qz7).str (eq_of_beq c)),by
    show zJ ⟨2,[],0,a.text,[],[]⟩+50+wT r<=100+3*a.text.length+wT r;simp only[zJ,zak,List.map_nil,List.sum_nil,qz6];omega⟩
 all_goals have hw:=zaO (zas c)
 ·exact(G.func _ h.tail).1.up λv t' p=>⟨p.1,by have:=p.2;omega⟩
 ·exact .bd (G.expr _ _ h.tail) λk hk p=> .bn (.need hk _) λt1 h1 p1=>⟨h1,p.1,by have:=p.2;show zJ k.1+50+wT t1<=_;omega⟩
 ·exact .bd (G.exprs _ _ _ h.tail) λl hl p=>⟨hl,zTg p.1,by rw[bu];have:=p.2;dsimp only;omega⟩
 ·exact .bd (G.props _ h.tail) λl hl p=>⟨hl,zQB p.1,by rw[bu];have:=p.2;dsimp only;omega⟩
theorem zQI(s b t)(h:GT t):Pm (PL 101 (wT t)) (zgv g s b t):=
 .ite (λc=>by have hw:=zaO (zas c);exact⟨h.tail,λy hy=>by(cases hy),by show 0+wT t.tail<=_;omega⟩) λ_=>
 .bd (G.assign _ _ h) λx hx p=> .ite (λc=>by
  have hw:=zaO (zas c);exact⟨hx.tail,λy hy=>by(rw[List.mem_singleton.1 hy];exact p.1),by rw[bl1];have:=p.2;show zJ x.1+wT x.2.tail<=_;omega⟩) λ_=>
  .bn (.need hx _) λt1 h1 p1=> .ite (λ_=>trivial) λ_=> .bd (G.exprs _ _ _ h1) λl hl pl=>
   ⟨hl,λy hy=>by
    rcases yP.1 hy with rfl|hy
    ·exact p.1
    ·exact pl.1 y hy,by rw[blc];have:=p.2;have:=pl.2;dsimp only;omega⟩
omit G in
theorem zE9(s:Str):zaL (wide s)=true:=by
 unfold zaL;rw[zwH];simp
omit G in
theorem zVF{t}(h:GT t):Pm (λk t'=>zaL k=true/\k.length+50+wT t'<=wT t) (zBU t):=by
 cases t with
 |nil=>trivial
 |cons a r=>
  have hs:wT (a::r)=100+3*a.text.length+wT r:=rfl;have ha:=h a qz7;refine .ite (λc=>⟨h.tail,ha.str (eq_of_beq c),by show a.text.length+50+wT r<=_;omega⟩) λ_=> .ite (λc=>⟨h.tail,zE9 _,?_⟩) λ_=> .ite (λc=>⟨h.tail,zE9 _,?_⟩) λ_=>trivial
  ·have hn:=ha.num (eq_of_beq c);have:=zC0 a.num hn.1 hn.2;show(wide (Lib.itoa a.num)).length+50+wT r<=_;rw[zwH];omega
  ·show(wide a.text).length+50+wT r<=_;rw[zwH];omega
theorem zPa(t)(h:GT t):Pm (PL 112 (wT t)) (zg7 g t):=
 .ite (λc=>by have hw:=zaO (zas c);exact⟨h.tail,λy hy=>by(cases hy),by show 0+wT t.tail<=_;omega⟩) λ_=>
 .bd (zVF h) λk hk pk=> .bn (.need hk _) λt1 h1 p1=> .bd (G.assign _ _ h1) λx hx p=>by
  have hb:zJ ⟨9,[],0,k.1,[],[x.1]⟩=k.1.length+zJ x.1+7:=by simp[zJ,zak]
  have hk1:=pk.2;have hp:=p.2;refine .ite (λc=>?_) λ_=> .bn (.need hx _) λt2 h2 p2=> .bd (G.props _ h2) λl hl pl=>⟨hl,λy hy=>?_,?_⟩
  ·have hw:=zaO (zas c);exact⟨hx.tail,λy hy=>by(rw[List.mem_singleton.1 hy];exact zOD pk.1 p.1),by rw[bl1,hb];show _+wT x.2.tail<=_;omega⟩
  ·rcases yP.1 hy with rfl|hy
   ·exact zOD pk.1 p.1
   ·exact pl.1 y hy
  ·rw[blc,hb];have:=pl.2;dsimp only;omega
omit G in
theorem zId: ∀t,GT t->Pm (λns t'=>(∀s∈ns,zaP s=true)/\(ns.map λs=>s.length+1).sum+wT t'<=wT t) (zhY t)
 | [],_=>trivial
 | [a],_=>trivial
 |a::b::r,h=>by
  rw[zhY];have hs:wT (a::b::r)=100+3*a.text.length+(100+3*b.text.length+wT r):=rfl;refine .ite (λc=>?_) λ_=>trivial
  have hn:zaP a.text=true:=h.name (t:=a::b::r) c;refine .ite (λc2=>⟨h.tail.tail,λs hs=>by(rw[List.mem_singleton.1 hs];exact hn),?_⟩) λ_=> .ite (λc2=> .ite (λ_=>trivial) λ_=> .bd (zId r h.tail.tail) λl hl pl=>⟨hl,λs hs=>?_,?_⟩) λ_=>trivial
  ·show(([a.text]:List Str).map λs=>s.length+1).sum+wT r<=_;simp only[List.map_cons,List.map_nil,List.sum_cons,List.sum_nil];omega
  ·rcases yP.1 hs with rfl|hs
   ·exact hn
   ·exact pl.1 s hs
  ·have:=pl.2;simp only[List.map_cons,List.sum_cons];omega
omit G in
theorem zN0{t}(h:GT t):Pm (λns t'=>(∀s∈ns,zaP s=true)/\(ns.map λs=>s.length+1).sum+wT t'<=wT t) (zet t):=
 .ite (λc=>by have hw:=zaO (zas c);exact⟨h.tail,λy hy=>by(cases hy),by show 0+wT t.tail<=_;omega⟩) λ_=>zId t h
theorem zSN(t)(h:GT t):Pm (PE (wT t)) (zoT g 10 t)/\Pm (PO 120 30 (wT t)) (zoT g 39 t):=by
 have rest: ∀(k:Int) (Q:Node->zB->Prop) (m:Str×zB),GT m.2->m.1.length+wT m.2<=wT t->
   (∀(ns:List Str) (l:List Node) t3,(∀s∈ns,zaP s=true)->(∀y∈l,zu y 120=true)->zJ ⟨k,m.1,0,[],ns,l⟩+50+wT t3<=wT t->Q ⟨k,m.1,0,[],ns,l⟩ t3)->
   Pm Q ((zaC [40] m.2).bn λt=>(zet t).bd λns=>(zaC [123] ns.2).bn λt=>(g.stmts true t).bd λl=>(zaC [125] l.2).bn λt=>gt (⟨k,m.1,0,[],ns.1,l.1⟩,t)):=λk Q m hm hw hQ=>
  .bn (.need hm _) λt1 h1 p1=> .bd (zN0 h1) λns hns pns=> .bn (.need hns _) λt2 h2 p2=> .bd (G.stmts _ _ h2) λl hl pl=> .bn (.need hl _) λt3 h3 p3=>
   ⟨h3,hQ ns.1 l.1 t3 pns.1 pl.1 (by rw[buF];have:=pns.2;have:=pl.2;omega)⟩
 constructor
 ·refine .bd (P:=λm t'=>(m=[]\/zaP m=true)/\m.length+wT t'<=wT t) (.ite (λc=>?_) λ_=> .ite (λ_=>trivial) λ_=>⟨h,.inl rfl,by simp⟩) λm hm pm=>rest 10 _ m hm pm.2 λns l t3 q1 q2 q3=>⟨zVL pm.1 q1 q2,q3⟩
  have hw:=zaO (zbK c (by decide));exact⟨h.tail,.inr (h.name c),by show(tText t).length+wT t.tail<=_;omega⟩
 ·refine .bd (P:=λm t'=>zaP m=true/\m.length+wT t'<=wT t) (.ite (λc=>?_) λ_=> .ite (λ_=>trivial) λc2=>absurd rfl c2) λm hm pm=>rest 39 _ m hm pm.2 λns l t3 q1 q2 q3=>⟨zU8 pm.1 q1 q2,by omega⟩
  have hw:=zaO (zbK c (by decide));exact⟨h.tail,h.name c,by show(tText t).length+wT t.tail<=_;omega⟩
end
theorem zvT:zu (nd 42 []) 102=true/\zu (nd 42 []) 118=true/\zu (nd 42 []) 99=true:=by decide+kernel
theorem zVb{x:Node}(h:zu x 101=true):zu x 102=true:=by
 have h1:=(zb8 h).1;unfold zu;rw[za7 h,Bool.and_true];show(zci x.Kind||x.Kind==42)=true;rw[h1];rfl
theorem zXM{x:Node}(h:zu x 101=true):zu x 118=true:=by
 have h1:=(zb8 h).1;unfold zu;rw[za7 h,Bool.and_true];show((zci x.Kind||x.Kind==42)||x.Kind==22)=true;rw[h1];rfl
theorem zRw{l:List Node}(hl:l≠[])(h: ∀y∈l,zu y 100=true):zu (nd 22 l) 115=true:=by
 cases l with
 |nil=>exact absurd rfl hl
 |cons a r=>
  have ha:=h a qz7;unfold zu;rw[zC9 rfl];simp[zX,zI,zaB,zaL,zM,nd,ha];exact⟨rfl,λy hy=>h y (qz8 _ hy)⟩
theorem zUA{s:Str}{d:List Node}(hs:zaP s=true)(hd:d=[]\/∃y,d=[y]/\zu y 101=true):zu (ndN 23 s d) 100=true:=by
 rcases hd with rfl| ⟨y,rfl,hy⟩
 ·unfold zu;rw[zzE rfl];simp[zX,zI,zaB,zaL,zM,ndN,lv1,hs];rfl
 ·unfold zu;rw[zzE rfl];simp[zX,zI,zaB,zaL,zM,ndN,lv1,hs,hy];rfl
theorem zUN{x:Node}(h:zu x 101=true):zu (nd 24 [x]) 115=true:=by
 unfold zu;rw[zC2 rfl];simp[zX,zI,zaB,zaL,zM,nd,h];rfl
theorem zLa{l:List Node}(h: ∀y∈l,zu y 115=true):zu (nd 25 l) 98=true:=by
 unfold zu;rw[zDz rfl];simp[zX,zI,zaB,zaL,zM,nd];exact⟨rfl,h⟩
theorem zSf{x:Node}(h:zu x 98=true):zu x 115=true:=by
 have hk:x.Kind=25:=eq_of_beq (show(x.Kind==25)=true from zec h);unfold zu;rw[za7 h,Bool.and_true];show stK x.Kind false=true;rw[hk];rfl
theorem zKY{x:Node}(h:zu x 98=true):zu x 99=true/\(x.Kind==42)=false:=by
 have hk:x.Kind=25:=eq_of_beq (show(x.Kind==25)=true from zec h);refine⟨?_,by rw[hk];rfl⟩
 unfold zu;rw[za7 h,Bool.and_true];show(x.Kind==25||x.Kind==42)=true;rw[hk];rfl
theorem zh0{x:Node}(h:zu x 115=true):zu (za5 x) 98=true/\zJ (za5 x)<=zJ x+7:=by
 unfold za5;split
 ·rename_i hk;refine⟨?_,by omega⟩;unfold zu;rw[za7 h,Bool.and_true];exact hk
 ·exact⟨zLa λy hy=>by rw[List.mem_singleton.1 hy];exact h,by rw[bu,bl1];omega⟩
theorem zXR{x:Node}(h:zu x 115=true):zu x 120=true:=by
 have h1:stK x.Kind false=true:=zec h;unfold zu;rw[za7 h,Bool.and_true];show stK x.Kind true=true;unfold stK at h1⊢;simp only[Bool.or_false,Bool.or_true,Bool.and_true]at h1⊢;rw[qz4]at h1;exact h1.1
theorem zWz{x b:Node}(hx:zu x 101=true)(hb:zu b 98=true):zu (nd 26 [x,b]) 115=true:=by
 unfold zu;rw[zzM rfl];simp[zX,zI,zaB,zaL,zM,nd,lv3,hx,hb];rfl
theorem zXk{x b c:Node}(hx:zu x 101=true)(hb:zu b 98=true)(hc:zu c 98=true):zu (nd 26 [x,b,c]) 115=true:=by
 unfold zu;rw[zzM rfl];simp[zX,zI,zaB,zaL,zM,nd,lv3,hx,hb,hc];rfl
theorem zSI{x b:Node}(hx:zu x 101=true)(hb:zu b 98=true):zu (nd 27 [x,b]) 115=true:=by
 unfold zu;rw[zDW rfl];simp[zX,zI,zaB,zaL,zM,nd,hx,hb];rfl
theorem zXH{x b:Node}(hx:zu x 101=true)(hb:zu b 98=true):zu (nd 28 [b,x]) 115=true:=by
 unfold zu;rw[zCR rfl];simp[zX,zI,zaB,zaL,zM,nd,hx,hb];rfl
theorem zW3{v x y b:Node}(hv:zu v 118=true)(hx:zu x 102=true)(hy:zu y 102=true)(hb:zu b 98=true):zu (nd 29 [v,x,y,b]) 115=true:=by
 unfold zu;rw[zDJ rfl];simp[zX,zI,zaB,zaL,zM,nd,hv,hx,hy,hb];rfl
theorem zSk{v x b:Node}(hv:zu v 119=true)(hx:zu x 101=true)(hb:zu b 98=true):zu (nd 30 [v,x,b]) 115=true:=by
 unfold zu;rw[zC3 rfl];simp[zX,zI,zaB,zaL,zM,nd,hv,hx,hb];rfl
theorem zNM{k:Int}{s:Str}(hk:k=31\/k=32)(hs:s=[]\/zaP s=true):zu (ndN k s []) 115=true:=by
 rcases hk with rfl|rfl
 ·unfold zu;rw[zDC rfl];simp[zX,zI,zaB,zaL,zM,ndN,hs];rfl
 ·unfold zu;rw[zD4 rfl];simp[zX,zI,zaB,zaL,zM,ndN,hs];rfl
theorem zN7:zu (nd 33 []) 115=true:=by decide+kernel
theorem zQs{x:Node}(h:zu x 101=true):zu (nd 33 [x]) 115=true:=by
 unfold zu;rw[zD9 rfl];simp[zX,zI,zaB,zaL,zM,nd,lv1,h];rfl
theorem zTJ{x:Node}(h:zu x 101=true):zu (nd 34 [x]) 115=true:=by
 unfold zu;rw[zCX rfl];simp[zX,zI,zaB,zaL,zM,nd,h];rfl
theorem zXp{s:Str}{b c f:Node}(hb:zu b 98=true)(hc:zu c 99=true)(hf:zu f 99=true)(hn:(c.Kind==25)=true/\zaP s=true\/(c.Kind==25)=false/\s=[])(he:(c.Kind==42&&f.Kind==42)=false):zu (ndN 35 s [b,c,f]) 115=true:=by
 unfold zu;rw[zDi rfl];simp only[zX,zI,zaB,zaL,zBV,ndN,hb,hc,hf,he];rcases hn with⟨h1,h2⟩| ⟨h1,rfl⟩
 ·simp[h1,h2];rfl
 ·simp[h1];rfl
theorem zPo{x:Node}{l:List Node}(hx:zu x 101=true)(hl:zfe l 0=true):zu (nd 36 (x::l)) 115=true:=by
 unfold zu;rw[zCB rfl];simp[zX,zI,zaB,zaL,zot,nd,hx,hl];rfl
theorem zNe{x:Node}{l:List Node}(hx:zu x 102=true)(h: ∀y∈l,zu y 115=true):zu (nd 37 (x::l)) 107=true:=by
 unfold zu;rw[zCO rfl];simp[zX,zI,zaB,zaL,zM,nd,hx];exact⟨rfl,h⟩
theorem zTF{s:Str}{x:Node}(hs:zaP s=true)(h:zu x 115=true):zu (ndN 38 s [x]) 115=true:=by
 unfold zu;rw[zDH rfl];simp[zX,zI,zaB,zaL,zM,ndN,hs,h];rfl
theorem zST:zu (nd 40 []) 115=true:=by decide+kernel
theorem zVG{l:List Node}(h: ∀y∈l,zu y 120=true):zan (nd 41 l)=true:=by
 rw[zDs rfl];simp[zX,zI,zaB,zaL,zM,nd];exact h
section
variable {g:PG} (G:zPj g)
include G
theorem zRP(a t)(h:GT t):Pm (λl t'=>l≠[]/\(∀y∈l,zu y 100=true)/\zak l+40+wT t'<=wT t) (zl5 g a t):=
 .ite (λc=>by
  have hn:=h.name c;have hw:=zaO (zbK c (by decide));refine .bd (P:=λd t'=>(d=[]\/∃y,d=[y]/\zu y 101=true)/\zak d+wT t'<=wT t.tail) (.ite (λc2=>?_) λ_=>⟨h.tail,.inl rfl,by simp[zak]⟩) λd hd pd=>?_
  ·have hw2:=zaO (zas c2);exact .bd (G.assign _ _ h.tail.tail) λy hy p=>⟨hy,.inr ⟨y.1,rfl,p.1⟩,by rw[bl1];have:=p.2;dsimp only;omega⟩
  ·have hdd:=zUA hn pd.1;have hbd:=pd.2;refine .ite (λc3=>?_) λ_=>⟨hd,by simp,λy hy=>by(rw[List.mem_singleton.1 hy];exact hdd),by rw[bl1,buN];dsimp only;omega⟩
   have hw3:=zaO (zas c3);refine .bd (G.vars _ _ hd.tail) λl hl pl=>?_
   refine⟨hl,List.cons_ne_nil _ _,λy hy=>?_,?_⟩
   ·rcases yP.1 hy with e|hy
    ·rw[e];exact hdd
    ·exact pl.2.1 y hy
   ·rw[blc,buN];have:=pl.2.2;dsimp only;omega) λ_=>trivial
theorem zO4(t)(h:GT t):Pm (PO 98 50 (wT t)) (zk3 g t):=
 .bn (.need h _) λt1 h1 p1=> .bd (G.stmts false _ h1) λl hl pl=> .bn (.need hl _) λt2 h2 p2=>⟨h2,zLa pl.1,by rw[bu];have:=pl.2;dsimp only;omega⟩
theorem zSg(t)(h:GT t):Pm (PO 101 100 (wT t)) (zqw g t):=
 .bn (.need h _) λt1 h1 p1=> .bd (G.expr _ _ h1) λx hx p=> .bn (.need hx _) λt2 h2 p2=>⟨h2,p.1,by have:=p.2;dsimp only;omega⟩
theorem zSx(s t)(h:GT t):Pm (PO 102 0 (wT t)) (zkS g s t):=
 .ite (λc=>by
  have hw:=zaO (zas c);exact⟨h.tail,zvT.1,by rw[bu];simp only[zak];omega⟩) λ_=> .bd (G.expr _ _ h) λx hx p=> .bn (.need hx _) λt2 h2 p2=>⟨h2,zVb p.1,by have:=p.2;dsimp only;omega⟩
theorem zPr(t)(h:GT t):Pm (λx t'=>zu x 118=true/\(zkw x=true->zu x 119=true)/\zJ x+wT t'<=wT t+7) (zlW g t):=by
 refine .ite (λc=>?_) λ_=> .ite (λ_=>⟨h,zvT.2.1,(λe=>by cases e),(by rw[bu];simp only[zak];omega)⟩) λ_=>(G.expr _ _ h).up λx t' p=>⟨zXM p.1,λe=>?_,by have:=p.2;omega⟩
 ·have hw:=zaO (zas c);refine .bd (G.vars _ _ h.tail) λl hl p=>?_
  have hv:=zRw p.1 p.2.1;refine⟨hl,?_,λe=>?_,by rw[bu];have:=p.2.2;dsimp only;omega⟩
  ·unfold zu;rw[za7 hv];rfl
  ·unfold zu;rw[za7 hv,Bool.and_true];have e:(match(nd 22 l.1).L with| [d]=>d.L.isEmpty|_=>false)=true:=e;show(zcF 22||((22:Int)==22&&(match(nd 22 l.1).L with| [y]=>y.L.isEmpty|_=>false)))=true;rw[e];rfl
 ·have hk:=(zb8 p.1).1
  have hne:(x.Kind==22)=false:=by
   cases hq:x.Kind==22 with
   |false=>rfl
   |true=>rw[eq_of_beq hq]at hk;exact absurd hk (by decide)
  unfold zkw at e;rw[hne]at e;have e:zcF x.Kind=true:=e;unfold zu;rw[za7 p.1,Bool.and_true];show(zcF x.Kind||_)=true;rw[e];rfl
theorem zS7(t)(h:GT t):Pm (PO 115 0 (wT t)) (zne g t):=
 .bn (.need h _) λt1 h1 p1=> .bd (zPr G _ h1) λq hq pq=> .ite (λc=>by
  rw[qz4]at c;have hw:=zaO (zas c.2)
  exact .bd (G.expr _ _ hq.tail) λx hx px=> .bn (.need hx _) λt2 h2 p2=> .bd (G.stmt _ h2) λb hb pb=>⟨hb,zSk (pq.2.1 c.1) px.1 (zh0 pb.1).1,by
   rw[bu,bl3];have:=(zh0 pb.1).2;have:=pq.2.2;have:=px.2;have:=pb.2;dsimp only;omega⟩) λ_=>
  .bn (.need hq _) λt2 h2 p2=> .bd (G.till _ _ h2) λx hx px=> .bd (G.till _ _ hx) λy hy py=> .bd (G.stmt _ hy) λb hb pb=>⟨hb,zW3 pq.1 px.1 py.1 (zh0 pb.1).1,by
   rw[bu,bl4];have:=(zh0 pb.1).2;have:=pq.2.2;have:=px.2;have:=py.2;have:=pb.2;dsimp only;omega⟩
theorem zU9(t)(h:GT t):Pm (PO 115 0 (wT t)) (zB3 g t):=by
 refine .bd (G.block _ h) λb hb pb=> .bd (P:=λc t'=>zu c.2 99=true/\((c.2.Kind==25)=true/\zaP c.1=true\/(c.2.Kind==25)=false/\c.1=[])/\c.1.length+zJ c.2+wT t'<=wT b.2+7) ?_ λc hc pc=>
  .bd (P:=λf t'=>zu f 99=true/\zJ f+wT t'<=wT c.2+7) ?_ λf hf pf=> .ite (λ_=>trivial) λhe=>⟨hf,zXp pb.1 pc.1 pf.1 pc.2.1 (by rw[Bool.and_comm];exact Bool.not_eq_true _▸he),by
   rw[buN,bl3];have:=pb.2;have:=pc.2.2;have:=pf.2;dsimp only;omega⟩
 ·refine .ite (λc=>?_) λ_=>⟨hb,zvT.2.2,.inr ⟨rfl,rfl⟩,by
   show 0+zJ (nd 42 [])+wT b.2<=_;rw[bu];simp only[zak];omega⟩
  have hw:=zaO (zas c)
  exact .bn (.need hb.tail _) λt1 h1 p1=> .ite (λc2=>by
   have hw2:=zaO (zbK c2 (by decide));exact .bn (.need h1.tail _) λt2 h2 p2=> .bd (G.block _ h2) λq hq pq=>⟨hq,(zKY pq.1).1,.inl ⟨zec pq.1,h1.name c2⟩,by have:=pq.2;dsimp only;omega⟩) λ_=>trivial
 ·refine .ite (λc2=>?_) λ_=>⟨hc,zvT.2.2,by rw[bu];simp only[zak];omega⟩
  have hw:=zaO (zas c2);exact(G.block _ hc.tail).up λv t' p=>⟨(zKY p.1).1,by have:=p.2;omega⟩
theorem zQ1(o t)(h:GT t):Pm (λl t'=>zfe l (if o=true then 0 else 1)=true/\zak l+wT t'<=wT t) (ziE g o t):=by
 refine .ite (λc=>?_) λ_=> .ite (λc=>?_) λ_=> .bn (.need h _) λt1 h1 p1=> .bd (G.expr _ _ h1) λx hx px=> .bn (.need hx _) λt2 h2 p2=> .bd (G.body _ h2) λl hl pl=> .bd (G.cases _ _ hl) λr hr pr=>⟨hr,?_,?_⟩
 ·have hw:=zaO (zas c);refine⟨h.tail,?_,by show 0+wT t.tail<=_;omega⟩
  cases o<;>rfl
 ·rw[qz4]at c;have hw:=zaO (zas c.2);rw[c.1];refine .bn (.need h.tail _) λt1 h1 p1=> .bd (G.body _ h1) λl hl pl=> .bd (G.cases false _ hl) λr hr pr=>⟨hr,?_,?_⟩
  ·have h2:=pr.1;simp only[qz2,yA]at h2;simp only[yB,zfe];rw[zNe zvT.1 pl.1,Bool.true_and];exact h2
  ·rw[blc,bu,blc,bu];simp only[zak];have:=pl.2;have:=pr.2;omega
 ·have hk:=(zb8 px.1).1
  have hne:(x.1.Kind==42)=false:=by
   cases hq:x.1.Kind==42 with
   |false=>rfl
   |true=>rw[eq_of_beq hq]at hk;exact absurd hk (by decide)
  have hc:ztA (nd 37 (x.1::l.1))=false:=hne;show zfe (nd 37 (x.1::l.1)::r.1) _=true;simp only[zfe,hc,qz2,yA];rw[zNe (zVb px.1) pl.1,Bool.true_and];exact pr.1
 ·rw[blc,bu,blc];have:=px.2;have:=pl.2;have:=pr.2;dsimp only;omega
theorem zSV(t)(h:GT t):Pm (PL 115 (wT t)) (zna g t):=
 .ite (λ_=>⟨h,λy hy=>by(cases hy),by show 0+wT t<=_;omega⟩) λ_=> .bd (G.stmt _ h) λx hx p=> .bd (G.body _ hx) λl hl pl=>⟨hl,λy hy=>by
  rcases yP.1 hy with rfl|hy
  ·exact p.1
  ·exact pl.1 y hy,by rw[blc];have:=p.2;have:=pl.2;dsimp only;omega⟩
omit G in
theorem zKp(k t)(hk:k=31\/k=32)(h:GT t):Pm (λx t'=>zu x 115=true/\zJ x+wT t'<=wT t+7) (zjg k t):=
 .ite (λc=>by
  rw[qz4]at c;have hw:=zaO (zbK c.1 (by decide));exact .bn (.end h.tail) λt1 h1 p1=>⟨h1,zNM hk (.inr (h.name c.1)),by rw[buN];simp only[zak];omega⟩) λ_=> .bn (.end h) λt1 h1 p1=>⟨h1,zNM (s:=[]) hk (.inl rfl),by rw[bu];simp only[zak];omega⟩
theorem zTk(t)(h:GT t):Pm (PO 115 30 (wT t)) (zbU g t):=by
 refine .ite (λc=>(G.block _ h).up λv t' p=>⟨zSf p.1,by have:=p.2;omega⟩) λ_=> .ite (λc=>?_) λ_=> .ite (λc=>?_) λ_=> .ite (λc=>?_) λ_=> .ite (λc=>?_) λ_=> .ite (λc=>?_) λ_=> .ite (λc=>?_) λ_=> .ite (λc=>?_) λ_=>
  .ite (λc=>?_) λ_=> .ite (λc=>?_) λ_=> .ite (λc=>?_) λ_=> .ite (λc=>?_) λ_=> .ite (λc=>?_) λ_=> .ite (λc=>trivial) λ_=> .ite (λc=>?_) λ_=>?_
 rotate_right 2
 ·rw[qz4]at c;have hw:=zaO (zbK c.1 (by decide));have hw2:=zaO (zas c.2);exact .bd (G.stmt _ h.tail.tail) λx hx p=>⟨hx,zTF (h.name c.1) p.1,by rw[buN,bl1];have:=p.2;dsimp only;omega⟩
 ·exact .bd (G.expr _ _ h) λx hx p=> .bn (.end hx) λt1 h1 p1=>⟨h1,zUN p.1,by rw[bu,bl1];have:=p.2;dsimp only;omega⟩
 all_goals have hw:=zaO (zas c)
 ·exact⟨h.tail,zST,by rw[bu];simp only[zak];omega⟩
 ·exact .bd (G.vars _ _ h.tail) λl hl p=> .bn (.end hl) λt1 h1 p1=>⟨h1,zRw p.1 p.2.1,by rw[bu];have:=p.2.2;dsimp only;omega⟩
 ·exact .bd (G.head _ h.tail) λx hx px=> .bd (G.stmt _ hx) λb hb pb=> .ite (λc2=>by
   have hw2:=zaO (zas c2)
   exact .bd (G.stmt _ hb.tail) λe he pe=>⟨he,zXk px.1 (zh0 pb.1).1 (zh0 pe.1).1,by
    rw[bu,bl3];have:=(zh0 pb.1).2;have:=(zh0 pe.1).2;have:=px.2;have:=pb.2;have:=pe.2;dsimp only;omega⟩) λ_=>
   ⟨hb,zWz px.1 (zh0 pb.1).1,by rw[bu,bl2];have:=(zh0 pb.1).2;have:=px.2;have:=pb.2;dsimp only;omega⟩
 ·exact .bd (G.head _ h.tail) λx hx px=> .bd (G.stmt _ hx) λb hb pb=>⟨hb,zSI px.1 (zh0 pb.1).1,by rw[bu,bl2];have:=(zh0 pb.1).2;have:=px.2;have:=pb.2;dsimp only;omega⟩
 ·exact .bd (G.stmt _ h.tail) λb hb pb=> .bn (.need hb _) λt1 h1 p1=> .bd (G.head _ h1) λx hx px=> .bn (.end hx) λt2 h2 p2=>⟨h2,zXH px.1 (zh0 pb.1).1,by rw[bu,bl2];have:=(zh0 pb.1).2;have:=px.2;have:=pb.2;dsimp only;omega⟩
 ·exact(G.loop _ h.tail).up λv t' p=>⟨p.1,by have:=p.2;omega⟩
 ·exact(zKp 31 _ (.inl rfl) h.tail).up λv t' p=>⟨p.1,by have:=p.2;omega⟩
 ·exact(zKp 32 _ (.inr rfl) h.tail).up λv t' p=>⟨p.1,by have:=p.2;omega⟩
 ·exact .ite (λ_=> .bd (G.expr _ _ h.tail) λx hx p=> .bn (.end hx) λt1 h1 p1=>⟨h1,zQs p.1,by rw[bu,bl1];have:=p.2;dsimp only;omega⟩) λ_=> .bn (.end h.tail) λt1 h1 p1=>⟨h1,zN7,by rw[bu];simp only[zak];omega⟩
 ·exact .ite (λ_=>trivial) λ_=> .bd (G.expr _ _ h.tail) λx hx p=> .bn (.end hx) λt1 h1 p1=>⟨h1,zTJ p.1,by rw[bu,bl1];have:=p.2;dsimp only;omega⟩
 ·exact(zU9 G _ h.tail).up λv t' p=>⟨p.1,by have:=p.2;omega⟩
 ·exact .bd (G.head _ h.tail) λx hx px=> .bn (.need hx _) λt1 h1 p1=> .bd (G.cases true _ h1) λl hl pl=>⟨hl,zPo px.1 pl.1,by rw[bu,blc];have:=px.2;have:=pl.2;dsimp only;omega⟩
theorem zPw(f t)(h:GT t):Pm (PL (if f=true then 120 else 115) (wT t)) (zh4 g f t):=by
 refine .ite (λ_=>⟨h,λy hy=>by(cases hy),by show 0+wT t<=_;omega⟩) λ_=> .bd (P:=PO (if f=true then 120 else 115) 30 (wT t)) (.ite (λc=>?_) λ_=>?_) λx hx p=> .bd (G.stmts f _ hx) λl hl pl=>⟨hl,λy hy=>?_,by rw[blc];have:=p.2;have:=pl.2;dsimp only;omega⟩
 ·rw[qz4]at c;have hw:=zaO (zas c.2);rw[c.1];exact(G.func _ h.tail).2.up λv t' p=>⟨p.1,by have:=p.2;omega⟩
 ·cases f with
  |false=>exact G.stmt _ h
  |true=>exact(G.stmt _ h).up λv t' p=>⟨zXR p.1,p.2⟩
 ·rcases yP.1 hy with rfl|hy
  ·exact p.1
  ·exact pl.1 y hy
end
theorem zOr: ∀n,zPj (pG n)
 |0=>by
  constructor<;>intros
  all_goals first|trivial|exact⟨trivial,trivial⟩
 |n+1=>by
  have G:=zOr n;exact⟨zUj G,zQ0 G,zOz G,zNR G,zTo G,zPH G,zUe G,zUn G,zSz G,zQI G,zPa G,zSN G,zRP G,zO4 G,zSg G,zSx G,zS7 G,zQ1 G,zSV G,zTk G,zPw G⟩
end Go.D08
