/- Texts for a statement of this seat. -/
import Derived.Test.YtdapbipagjmolaaGreatDoorMa5
import Derived.Lib.ItoaLen
import Derived.ProofKit
import Derived.OpenShut
import Derived.Deep.DeepHandedRow
import Derived.Lib.LaidTab
import Derived.Deep.Slices
import Derived.ChangeShapes
import Derived.DataReads
import Derived.LaidSub
import Derived.MakeChecks
import Derived.Lay
import Derived.Deep.DeepWitnessRowRef
import Derived.Stop.LaidErr
import Derived.Test.YtdapbipagjmolaaGreatDoorRows
import Derived.Test.YtdapbipagjmolaaGreatDoorCards
import Derived.Test.YtdapbipagjmolaaGreatDoorTie
set_option linter.unusedSectionVars false
set_option linter.unusedVariables false
set_option linter.unusedSimpArgs false
set_option linter.unnecessarySimpa false
namespace Go.D08
open Go Go.Gw Go.Dn
set_option maxRecDepth 100000
theorem zoh{b:Node}(h:b.Kind=25):zbd b=b:=by unfold zbd;rw[yL (by rw[h];rfl)]
theorem zH5: ∀{l:List Node} {e:Nat},ziB l e=true->e<2
 | [],e,h=>by simpa [ziB]using h
 |k::r,e,h=>by
  simp only[ziB,qz4]at h
  have:=zH5 h.2
  split at this<;>omega
theorem zqO{a:Node}(he:zcp a.Kind=true):(a.Kind==42)=false/\(a.Kind==22)=false/\(a.Kind !=42)=true:=by
 rcases zgq he with h|h|h|h|h|h|h|h|h|h|h|h|h|h|h|h|h|h|h|h<;>rw[h]<;>decide
theorem zqN{a:Node}(he:zcp a.Kind=true)(least:Int)(no:Bool):zaG (tkN a) least no=atT (tkN a) least no:=by
 unfold zaG
 rw[zdA,(zqO he).1,(zqO he).2.1];rfl
theorem zw7{a:Node}(h:a.Kind=42)(least:Int)(no:Bool):zaG (tkN a) least no=[]:=by
 unfold zaG
 rw[zdA,h];rfl
theorem zz0{a:Node}(h:a.Kind=22)(least:Int)(no:Bool):zaG (tkN a) least no=[118,97,114]::commas (declT no) (tkL a.L):=by
 unfold zaG
 rw[zdA,zjC,h];rfl
section
variable (c:Str->Tok)
structure BK (b:Node):Prop where
 kind:b.Kind=25
 bl: ∀r,BLOCK (T c (tkN b).st++r) (b,r)
variable {c:Str->Tok}
variable (C:Cls c)
include C
theorem BK.st{b:Node}(B:BK c b)(r:zB):zeE (T c (tkN b).st++r) (b,r):=by
 have:=B.bl r
 rw[zDa B.kind]at this⊢
 exact zNW (zal C (by decide)) this
theorem zEu{a:Node}(h:a=nd 42 []\/(zcp a.Kind=true/\RT c a))(w:Str)(hw:w=[59]\/w=[41])(r:zB):TILL w (T c (zaG (tkN a) 0 false)++c w::r) (a,r):=by
 have ho:zf7.contains w=true:=by rcases hw with rfl|rfl<;>decide
 have o:=zal C ho
 rcases h with h| ⟨he,R⟩
 ·rw[zw7 (by rw[h];rfl)]
  rw[h]
  exact zLq (by show tIs w (c w::r)=true;rw[o.is];simp)
 ·rw[zqN he]
  have hb:=zk2 C R 0 false (c w::r)
  exact zTB (t1:=c w::r) (hb.is (by rcases hw with rfl|rfl<;>decide)) (at_end C R false w r (by rcases hw with rfl|rfl<;>decide) ho 0) (by rw[o.is];simp)
theorem zVA{x:Node}(h:x.Kind=22)(V:VD c x):SR c x:=by
 have o:=zal C (w:=[118,97,114]) (by decide)
 have oe:=zal C (w:=[59]) (by decide)
 refine⟨λr=>?_,λr _=>?_⟩
 ·rw[zFZ h];exact zet C _ _ (by decide) (by decide)
 ·obtain⟨d,l,hL⟩:=V.ne
  rw[zFZ h,zbn,zbe,yE,yI]
  have hv:=vars_read C false x.L (by rw[hL];simp) V.ds (c [59]::r) (by rw[oe.is];decide) (by rw[oe.is];decide) (by rw[oe.fol];decide)
  have:=zTg o hv (by rw[oe.is];decide)
  rw[<-V.eq]at this
  exact this
theorem zVT{x a:Node}(h:x.Kind=24)(ho:zao x=true)(hL:x.L=[a])(R:RT c a)(h1:zS a 101=true):SR c x:=by
 have o1:=zal C (w:=[40]) (by decide)
 have o2:=zal C (w:=[41]) (by decide)
 have oe:=zal C (w:=[59]) (by decide)
 have e:=zed h ho (by decide) (by decide)
 rw[hL]at e
 obtain⟨w,q,ht⟩: ∃w q,atT (tkN a) 0 false=w::q:=by
  cases e:atT (tkN a) 0 false with
  |nil=>exact absurd e (zQS h1 0 false)
  |cons w q=>exact⟨w,q,rfl⟩
 have hst:(tkN x).st=zi8 (w::q)++[[59]]:=by rw[zLI h,hL,tk0,ht]
 by_cases hc:(w==([123]:Str)||w==([102,117,110,99,116,105,111,110]:Str))=true
 ·have hb:zi8 (w::q)=[40]::((w::q)++[[41]]):=by unfold zi8;simp only[hc,yB]
  rw[hb]at hst
  refine⟨λr=>?_,λr _=>?_⟩
  ·rw[hst];exact zet C _ _ (by decide) (by decide)
  ·rw[hst,<-ht,yI,zbe,zbn,zbn,yI,yE,yE]
   show zeE (c [40]::(T c (atT (tkN a) 0 false)++c [41]::c [59]::r)) (x,r)
   have hp:=zKF o1 (at_end C R false [41] (c [59]::r) (by decide) (by decide) 0) (by rw[o2.is];decide)
   have hm:MADE (c [40]::(T c (atT (tkN a) 0 false)++c [41]::c [59]::r)) (a,c [59]::r):=zuh (by rw[o1.is];decide) hp
   have hf:zb8 false (c [59]::r)= -1:=by rw[oe.fol];decide
   have hx:EXPR false (c [40]::(T c (atT (tkN a) 0 false)++c [41]::c [59]::r)) (a,c [59]::r):=
    zHk (zla (zrN (zxL (by rw[o1.any];decide) (by rw[o1.any];decide) hm (zl9 (no:=false) (by omega)) (zKP (no:=false) (by omega))) (zl8 (by omega))) (zwY (no:=false) (by omega)) (zAo (no:=false) (by omega))) (ztp (by omega))
   have:=zGQ (λw hw=>by
    rw[o1.is]
    have: ∀w∈zD9,(([40]:Str)==w)=false:=by decide
    exact this w hw) (by rw[(o1.kinds _).1];rfl) hx (by rw[oe.is];decide)
   rw[<-e]at this
   exact this
 ·have hb:zi8 (w::q)=w::q:=by unfold zi8;simp only[hc,qz2,yA]
  rw[hb,<-ht]at hst
  have hc:w≠[123]/\w≠[102,117,110,99,116,105,111,110]:=by
   simp only[yQ,beq_iff_eq,not_or]at hc;exact hc
  have hsp: ∀(s:Str) (r:zB),w≠s->tIs s (T c (atT (tkN a) 0 false)++r)=false:=by
   intro s r hs
   rw[ht]
   cases e:tIs s (T c (w::q)++r)with
   |false=>rfl
   |true=>
    have e:(opK (c w)&&((c w).text==s))=true:=e
    rw[qz4]at e
    have:=C.opt w e.1
    exact absurd ((C.opt w e.1).symm.trans (eq_of_beq e.2)) hs
  refine⟨λr=>?_,λr _=>?_⟩
  ·rw[hst,zbn,yE]
   have hg:=zk2 C R 0 false (T c [[59]]++r)
   obtain⟨p,u,e1,_,hg⟩:=hg
   refine⟨p,u,e1,?_⟩
   rcases hg with hg|hg|hg| ⟨v,g1,g2,_⟩
   ·exact .inl hg
   ·exact .inr (.inl hg)
   ·exact .inr (.inr (.inl hg))
   ·refine .inr (.inr (.inr ⟨v,g1,?_⟩))
    have hv:v≠[102,117,110,99,116,105,111,110]:=by
     rintro rfl
     have:=hsp [102,117,110,99,116,105,111,110] (T c [[59]]++r) hc.2
     rw[e1,g1.is]at this
     exact absurd this (by decide)
    have: ∀v∈zrA,v≠[102,117,110,99,116,105,111,110]->v∈zAF:=by decide
    exact this v g2 hv
  ·rw[hst,zbn,yE]
   have hg:=zk2 C R 0 false (c [59]::r)
   have:=zGQ (t:=T c (atT (tkN a) 0 false)++c [59]::r) (λs hs=>by
    by_cases e1:s=[123]
    ·exact hsp s _ (by rw[e1];exact hc.1)
    ·by_cases e2:s=[102,117,110,99,116,105,111,110]
     ·exact hsp s _ (by rw[e2];exact hc.2)
     ·have: ∀s∈zD9,s≠[123]->s≠[102,117,110,99,116,105,111,110]->zrA.contains s=false:=by decide
      exact hg.is (this s hs e1 e2)) (by
    cases hk:zX (T c (atT (tkN a) 0 false)++c [59]::r)==1 with
    |false=>rfl
    |true=>
     rw[Bool.true_and]
     exact zNz C R 0 false _ (by rw[oe.is];decide) (eq_of_beq hk)) (at_end C R false [59] r (by decide) (by decide) 0) (by rw[oe.is];decide)
   rw[<-e]at this
   exact this
theorem zVD{x:Node}(B:BK c x):SR c x:=by
 refine⟨λr=>?_,λr _=>B.st C r⟩
 rw[zDa B.kind];exact zet C _ _ (by decide) (by decide)
theorem zU9{x a b:Node}(h:x.Kind=26)(ho:zao x=true)(hL:x.L=[a,b])(R:RT c a)(B:BK c b):SR c x:=by
 have o:=zal C (w:=[105,102]) (by decide)
 have e:=zed h ho (by decide) (by decide)
 rw[hL]at e
 have hst:(tkN x).st=[105,102]::(([40]::(atT (tkN a) 0 false++[[41]]))++(tkN b).st):=by rw[zAI h,hL,tk0,tk1,zQp];simp[zc2]
 refine⟨λr=>?_,λr hf=>?_⟩
 ·rw[hst];exact zet C _ _ (by decide) (by decide)
 ·rw[hst,zbe,yI,zbn,yE]
  have:=zTE o (zo4 C R _) (B.st C r) hf.els
  rw[zoh B.kind,<-e]at this
  exact this
theorem zUa{x a b d:Node}(h:x.Kind=26)(ho:zao x=true)(hL:x.L=[a,b,d])(R:RT c a)(B:BK c b)(D:BK c d):SR c x:=by
 have o:=zal C (w:=[105,102]) (by decide)
 have oe:=zal C (w:=[101,108,115,101]) (by decide)
 have e:=zed h ho (by decide) (by decide)
 rw[hL]at e
 have hst:(tkN x).st=[105,102]::(([40]::(atT (tkN a) 0 false++[[41]]))++((tkN b).st++([101,108,115,101]::(tkN d).st))):=by rw[zAI h,hL,tk0,tk1,tk2];simp[zc2]
 refine⟨λr=>?_,λr hf=>?_⟩
 ·rw[hst];exact zet C _ _ (by decide) (by decide)
 ·rw[hst,zbe,yI,zbn,yE,zbn,yE,zbe,yI]
  have:=zMm (t2:=c [101,108,115,101]::(T c (tkN d).st++r)) o (zo4 C R _) (B.st C _) (by rw[oe.is];decide) (D.st C r)
  rw[zoh B.kind,zoh D.kind,<-e]at this
  exact this
theorem zU6{x a b:Node}(h:x.Kind=27)(ho:zao x=true)(hL:x.L=[a,b])(R:RT c a)(B:BK c b):SR c x:=by
 have o:=zal C (w:=[119,104,105,108,101]) (by decide)
 have e:=zed h ho (by decide) (by decide)
 rw[hL]at e
 have hst:(tkN x).st=[119,104,105,108,101]::(([40]::(atT (tkN a) 0 false++[[41]]))++(tkN b).st):=by rw[zLx h,hL,tk0,tk1];simp[zc2]
 refine⟨λr=>?_,λr hf=>?_⟩
 ·rw[hst];exact zet C _ _ (by decide) (by decide)
 ·rw[hst,zbe,yI,zbn,yE]
  have:=zOm o (zo4 C R _) (B.st C r)
  rw[zoh B.kind,<-e]at this
  exact this
theorem zVX{x a b:Node}(h:x.Kind=28)(ho:zao x=true)(hL:x.L=[a,b])(B:BK c a)(R:RT c b):SR c x:=by
 have o:=zal C (w:=[100,111]) (by decide)
 have ow:=zal C (w:=[119,104,105,108,101]) (by decide)
 have oe:=zal C (w:=[59]) (by decide)
 have e:=zed h ho (by decide) (by decide)
 rw[hL]at e
 have hst:(tkN x).st=[100,111]::((tkN a).st++([119,104,105,108,101]::(([40]::(atT (tkN b) 0 false++[[41]]))++[[59]]))):=by rw[zK4 h,hL,tk0,tk1];simp[zc2]
 refine⟨λr=>?_,λr hf=>?_⟩
 ·rw[hst];exact zet C _ _ (by decide) (by decide)
 ·rw[hst,zbe,yI,zbn,yE,zbe,yI,zbn,yE]
  have:=zTF o (B.st C (c [119,104,105,108,101]::(T c ([40]::(atT (tkN b) 0 false++[[41]]))++(c [59]::r)))) (by rw[ow.is];decide) (zo4 C R (c [59]::r)) (by rw[oe.is];decide)
  rw[zoh B.kind,<-e]at this
  exact this
theorem zDb{a:Node}(h:(a.Kind=42/\a=nd 42 [])\/(a.Kind=22/\VD c a)\/(zcp a.Kind=true/\RT c a))(least:Int)(w:Str)(hw:w=[59]\/w=[105,110])(h42:a.Kind=42->w=[59])(r:zB):FIRST (T c (zaG (tkN a) least true)++c w::r) (a,c w::r):=by
 have how:zf7.contains w=true:=by rcases hw with rfl|rfl<;>decide
 have o:=zal C how
 have ov:=zal C (w:=[118,97,114]) (by decide)
 have hf:zfd true w= -1:=by rcases hw with rfl|rfl<;>decide
 rcases h with⟨h,e⟩| ⟨h,V⟩| ⟨he,R⟩
 ·rw[zw7 h]
  obtain rfl:=h42 h
  rw[e]
  exact zK5 (by show tIs [118,97,114] (c [59]::r)=false;rw[o.is];decide) (by show tIs [59] (c [59]::r)=true;rw[o.is];decide)
 ·obtain⟨d,l,hL⟩:=V.ne
  rw[zz0 h,zbe,yI]
  have hv:=vars_read C true a.L (by rw[hL];simp) V.ds (c w::r) (by rw[o.is];rcases hw with rfl|rfl<;>decide) (by rw[o.is];rcases hw with rfl|rfl<;>decide) (by rw[o.fol,hf];decide)
  have:=zJl (t:=c [118,97,114]::(T c (commas (declT true) (tkL a.L))++c w::r)) (by rw[ov.is];decide) hv
  rw[<-V.eq]at this
  exact this
 ·rw[zqN he]
  have hb:=zk2 C R least true (c w::r)
  exact zTp (hb.is (by decide)) (hb.is (by decide)) (zIC C R true _ _ (by rw[o.fol,hf];decide) (ztp (by rw[o.fol,hf];decide)) least)
theorem zVj{x a b d q:Node}(h:x.Kind=29)(ho:zao x=true)(hL:x.L=[a,b,d,q])(ha:(a.Kind=42/\a=nd 42 [])\/(a.Kind=22/\VD c a)\/(zcp a.Kind=true/\RT c a))(hb:b=nd 42 []\/(zcp b.Kind=true/\RT c b))(hd:d=nd 42 []\/(zcp d.Kind=true/\RT c d))(B:BK c q):SR c x:=by
 have o:=zal C (w:=[102,111,114]) (by decide)
 have o1:=zal C (w:=[40]) (by decide)
 have oe:=zal C (w:=[59]) (by decide)
 have e:=zed h ho (by decide) (by decide)
 rw[hL]at e
 have hst:(tkN x).st=[102,111,114]::[40]::(zaG (tkN a) 0 true++([59]::(zaG (tkN b) 0 false++([59]::(zaG (tkN d) 0 false++([41]::(tkN q).st)))))):=by rw[zK8 h,hL,tk0,tk1,tk2,tk3]
 refine⟨λr=>?_,λr hf=>?_⟩
 ·rw[hst];exact zet C _ _ (by decide) (by decide)
 ·rw[hst]
  simp only[zbe,zbn,yI,yE]
  have h1:=zDb C ha 0 [59] (.inl rfl) (λ_=>rfl) (T c (zaG (tkN b) 0 false)++c [59]::(T c (zaG (tkN d) 0 false)++c [41]::(T c (tkN q).st++r)))
  have h2:=zEu C hb [59] (.inl rfl) (T c (zaG (tkN d) 0 false)++c [41]::(T c (tkN q).st++r))
  have h3:=zEu C hd [41] (.inr rfl) (T c (tkN q).st++r)
  have:=zK6 (t:=c [40]::(T c (zaG (tkN a) 0 true)++c [59]::(T c (zaG (tkN b) 0 false)++c [59]::(T c (zaG (tkN d) 0 false)++c [41]::(T c (tkN q).st++r))))) (by rw[o1.is];decide) h1 (by rw[oe.is,show(([59]:Str)==[105,110])=false by decide,Bool.and_false]) (by rw[oe.is];decide) h2 h3 (B.st C r)
  rw[zoh B.kind,<-e]at this
  exact zJ7 o this
theorem zVW{x a b q:Node}(h:x.Kind=30)(ho:zao x=true)(hL:x.L=[a,b,q])(ha:(a.Kind=22/\VD c a)\/(zcp a.Kind=true/\RT c a))(he:zlW a=true)(Rb:RT c b)(B:BK c q):SR c x:=by
 have o:=zal C (w:=[102,111,114]) (by decide)
 have o1:=zal C (w:=[40]) (by decide)
 have o2:=zal C (w:=[41]) (by decide)
 have oi:=zal C (w:=[105,110]) (by decide)
 have e:=zed h ho (by decide) (by decide)
 rw[hL]at e
 have hst:(tkN x).st=[102,111,114]::[40]::(zaG (tkN a) 11 true++([105,110]::(atT (tkN b) 0 false++([41]::(tkN q).st)))):=by rw[zMD h,hL,tk0,tk1,tk2]
 refine⟨λr=>?_,λr hf=>?_⟩
 ·rw[hst];exact zet C _ _ (by decide) (by decide)
 ·rw[hst]
  simp only[zbe,zbn,yI,yE]
  have h1:=zDb C (.inr ha) 11 [105,110] (.inr rfl) (λh42=>by
   rcases ha with⟨h,_⟩| ⟨h,_⟩
   ·rw[h]at h42;exact absurd h42 (by decide)
   ·have:=(zqO h).1;rw[h42]at this;exact absurd this (by decide)) (T c (atT (tkN b) 0 false)++c [41]::(T c (tkN q).st++r))
  have:=zM0 (t:=c [40]::(T c (zaG (tkN a) 11 true)++c [105,110]::(T c (atT (tkN b) 0 false)++c [41]::(T c (tkN q).st++r)))) (by rw[o1.is];decide) h1 he (by rw[oi.is];decide) (at_end C Rb false [41] (T c (tkN q).st++r) (by decide) (by decide) 0) (by rw[o2.is];decide) (B.st C r)
  rw[zoh B.kind,<-e]at this
  exact zJ7 o this
theorem zQQ{x:Node}(h:x.Kind=31\/x.Kind=32)(ho:zao x=true)(hL:x.L=[]):SR c x:=by
 have oe:=zal C (w:=[59]) (by decide)
 have hn:x.Name=[]\/zbN x.Name=true:=by
  have:=(zaO ho).1
  rcases h with h|h<;>simpa [zab,h]using this
 have hlp: ∀k r,k=x.Kind->zkk k (T c (if(x.Name==([]:Str))=true then[]else[x.Name])++c [59]::r)=gt (x,r):=by
  intro k r hk
  have e:=zlU (k:=k) hk.symm ho (by rcases h with h|h<;>rw[hk,h]<;>decide)
  rw[hL]at e
  rcases hn with n|n
  ·rw[n]at e⊢
   show zkk k (c [59]::r)=_
   rw[zRX (by rw[oe.is];decide),e];rfl
  ·have hne:(x.Name==([]:Str))=false:=by
    rw[yH]
    intro e
    rw[e]at n
    exact absurd n (by decide)
   obtain⟨k1,k2⟩:=C.name x.Name n
   rw[hne]
   show zkk k (c x.Name::c [59]::r)=_
   rw[zNi k1 (C.fresh _) (by rw[oe.is];decide),k2,<-e];rfl
 rcases h with h|h
 ·have o:=zal C (w:=[98,114,101,97,107]) (by decide)
  have hst:(tkN x).st=[98,114,101,97,107]::((if(x.Name==([]:Str))=true then[]else[x.Name])++[[59]]):=by rw[zLQ h,hL];unfold zhj;rw[h];simp[tkL]
  refine⟨λr=>?_,λr _=>?_⟩
  ·rw[hst];exact zet C _ _ (by decide) (by decide)
  ·rw[hst,zbe,zbn,yI,yE]
   exact zNq o (hlp 31 r h.symm)
 ·have o:=zal C (w:=[99,111,110,116,105,110,117,101]) (by decide)
  have hst:(tkN x).st=[99,111,110,116,105,110,117,101]::((if(x.Name==([]:Str))=true then[]else[x.Name])++[[59]]):=by rw[zMz h,hL];unfold zhj;rw[h];simp[tkL]
  refine⟨λr=>?_,λr _=>?_⟩
  ·rw[hst];exact zet C _ _ (by decide) (by decide)
  ·rw[hst,zbe,zbn,yI,yE]
   exact zHp o (hlp 32 r h.symm)
theorem zVE{x:Node}(h:x.Kind=33)(ho:zao x=true)(hL:x.L=[]\/∃a,x.L=[a]/\RT c a):SR c x:=by
 have o:=zal C (w:=[114,101,116,117,114,110]) (by decide)
 have oe:=zal C (w:=[59]) (by decide)
 have e:=zed h ho (by decide) (by decide)
 have hn:=zeU ho (by rw[h];decide)
 rcases hL with hL| ⟨a,hL,R⟩
 ·have hst:(tkN x).st=[[114,101,116,117,114,110],[59]]:=by rw[zGi h,hL];unfold zhj;rw[h,hn];simp[tkL]
  rw[hL]at e
  refine⟨λr=>?_,λr _=>?_⟩
  ·rw[hst];exact zet C _ _ (by decide) (by decide)
  ·rw[hst]
   have:=zFr (r:=c [59]::r) o (by rw[oe.is];decide)
   rw[<-e]at this
   exact this
 ·have hst:(tkN x).st=[114,101,116,117,114,110]::(atT (tkN a) 0 false++[[59]]):=by rw[zGi h,hL];unfold zhj;rw[h,hn];simp[tkL]
  rw[hL]at e
  refine⟨λr=>?_,λr _=>?_⟩
  ·rw[hst];exact zet C _ _ (by decide) (by decide)
  ·rw[hst,zbe,zbn,yI,yE]
   have hb:=zk2 C R 0 false (c [59]::r)
   have:=zMd (r:=T c (atT (tkN a) 0 false)++c [59]::r) o (by unfold zkF;rw[hb.is (by decide),hb.is (by decide),hb.zGe,hb.fresh];rfl) (at_end C R false [59] r (by decide) (by decide) 0) (by rw[oe.is];decide)
   rw[<-e]at this
   exact this
theorem zVR{x a:Node}(h:x.Kind=34)(ho:zao x=true)(hL:x.L=[a])(R:RT c a):SR c x:=by
 have o:=zal C (w:=[116,104,114,111,119]) (by decide)
 have oe:=zal C (w:=[59]) (by decide)
 have e:=zed h ho (by decide) (by decide)
 have hn:=zeU ho (by rw[h];decide)
 have hst:(tkN x).st=[116,104,114,111,119]::(atT (tkN a) 0 false++[[59]]):=by rw[zLD h,hL];unfold zhj;rw[h,hn];simp[tkL]
 rw[hL]at e
 refine⟨λr=>?_,λr _=>?_⟩
 ·rw[hst];exact zet C _ _ (by decide) (by decide)
 ·rw[hst,zbe,zbn,yI,yE]
  have hb:=zk2 C R 0 false (c [59]::r)
  have:=zMI (r:=T c (atT (tkN a) 0 false)++c [59]::r) o hb.fresh (at_end C R false [59] r (by decide) (by decide) 0) (by rw[oe.is];decide)
  rw[<-e]at this
  exact this
theorem zVS{x:Node}(h:x.Kind=40)(ho:zao x=true)(hL:x.L=[]):SR c x:=by
 have oe:=zal C (w:=[59]) (by decide)
 have e:=zed h ho (by decide) (by decide)
 have hn:=zeU ho (by rw[h];decide)
 have hst:(tkN x).st=[[59]]:=by rw[zMs h,hL];unfold zhj;rw[h,hn];simp[tkL]
 rw[hL]at e
 refine⟨λr=>?_,λr _=>?_⟩
 ·rw[hst];exact zet C _ _ (by decide) (by decide)
 ·rw[hst]
  have:=zM2 (r:=r) oe
  rw[<-e]at this
  exact this
theorem zVy{x a:Node}(h:x.Kind=38)(ho:zao x=true)(hL:x.L=[a])(S:SR c a):SR c x:=by
 have o:=zal C (w:=[58]) (by decide)
 have e:=zlU h ho (by decide)
 rw[hL]at e
 have hn:zbN x.Name=true:=by simpa [zab,h]using(zaO ho).1
 obtain⟨k1,k2⟩:=C.name x.Name hn
 have hst:(tkN x).st=x.Name::[58]::(tkN a).st:=by rw[zMy h,hL,tk0]
 refine⟨λr=>?_,λr hf=>?_⟩
 ·rw[hst];exact⟨c x.Name,T c ([58]::(tkN a).st)++r,rfl,.inl k1⟩
 ·rw[hst]
  have:=zM1 (a:=c x.Name) (r:=c [58]::(T c (tkN a).st++r)) (λw _=>by show(opK (c x.Name)&&_)=false;rw[zdI (.inl k1)];rfl) k1 (by rw[o.is];decide) (S.rd r hf)
  rw[k2,<-e]at this
  exact this
theorem zVN{x a b d:Node}(h:x.Kind=35)(ho:zao x=true)(hL:x.L=[a,b,d])(A:BK c a)(hb:BK c b\/b=nd 42 [])(hd:BK c d\/d=nd 42 [])(hno: ¬(b.Kind=42/\d.Kind=42)):SR c x:=by
 have o:=zal C (w:=[116,114,121]) (by decide)
 have oc:=zal C (w:=[99,97,116,99,104]) (by decide)
 have of:=zal C (w:=[102,105,110,97,108,108,121]) (by decide)
 have o1:=zal C (w:=[40]) (by decide)
 have o2:=zal C (w:=[41]) (by decide)
 have e:=zlU h ho (by decide)
 rw[hL]at e
 have hst:(tkN x).st=[116,114,121]::((tkN a).st++((if(b.Kind==25)=true then[99,97,116,99,104]::[40]::x.Name::[41]::(tkN b).st else[])++(if(d.Kind==25)=true then[102,105,110,97,108,108,121]::(tkN d).st else[]))):=by
  rw[zMt h,hL,tk0,tk1,tk2,zdA,zdA]
 refine⟨λr=>?_,λr hf=>?_⟩
 ·rw[hst];exact zet C _ _ (by decide) (by decide)
 ·rw[hst,zbe,yI,zbn,yE,zbn,yE]
  have hF:zGc (T c (if(d.Kind==25)=true then[102,105,110,97,108,108,121]::(tkN d).st else[])++r) (d,r):=by
   rcases hd with D|D
   ·rw[D.kind]
    exact zSc (t:=c [102,105,110,97,108,108,121]::(T c (tkN d).st++r)) (by rw[of.is];decide) (D.bl r)
   ·rw[D]
    exact zMC hf.fin
  have hC:zF7 (T c (if(b.Kind==25)=true then[99,97,116,99,104]::[40]::x.Name::[41]::(tkN b).st else[])++(T c (if(d.Kind==25)=true then[102,105,110,97,108,108,121]::(tkN d).st else[])++r)) ((x.Name,b),T c (if(d.Kind==25)=true then[102,105,110,97,108,108,121]::(tkN d).st else[])++r):=by
   have hnm:=(zaO ho).1
   unfold zab at hnm
   rw[h,hL]at hnm
   have hnm:(if(b.Kind==25)=true then zbN x.Name else x.Name==([]:Str))=true:=hnm
   rcases hb with B|B
   ·rw[B.kind]at hnm⊢
    obtain⟨k1,k2⟩:=C.name x.Name hnm
    have:=zSg (t:=c [99,97,116,99,104]::c [40]::c x.Name::c [41]::(T c (tkN b).st++(T c (if(d.Kind==25)=true then[102,105,110,97,108,108,121]::(tkN d).st else[])++r))) (by rw[oc.is];decide) (by show tIs [40] (c [40]::_)=true;rw[o1.is];decide) rfl k1 (by rw[o2.is];decide) (B.bl _)
    rw[k2]at this
    exact this
   ·rw[B]at hnm⊢
    have hnm:x.Name=[]:=eq_of_beq hnm
    rw[hnm]
    refine zL5 ?_
    show tIs [99,97,116,99,104] (T c (if(d.Kind==25)=true then[102,105,110,97,108,108,121]::(tkN d).st else[])++r)=false
    rcases hd with D|D
    ·rw[D.kind]
     show tIs [99,97,116,99,104] (c [102,105,110,97,108,108,121]::_)=false
     rw[of.is];decide
    ·rw[D]
     exact hf.cat
  have:=zRJ o (A.bl _) hC hF (by
   cases e1:(d.Kind==42)with
   |false=>rfl
   |true=>
    cases e2:(b.Kind==42)with
    |false=>rfl
    |true=>exact absurd ⟨eq_of_beq e2,eq_of_beq e1⟩ hno)
  rw[<-e]at this
  exact this
theorem zLT: ∀(ls:List Node) (e:Nat),ziB ls e=true->(∀k∈ls,CS c k)->∀r,CASES (decide (e=0)) (T c (zaa (tkL ls))++c [125]::r) (ls,r):=by
 have ob:=zal C (w:=[125]) (by decide)
 have od:=zal C (w:=[100,101,102,97,117,108,116]) (by decide)
 have oc:=zal C (w:=[99,97,115,101]) (by decide)
 have o:=zal C (w:=[58]) (by decide)
 have hst: ∀k a l,CS c k->k.L=a::l->(tkN k).st=(if(a.Kind !=42)=true then[99,97,115,101]else[100,101,102,97,117,108,116])::(zaG (tkN a) 0 false++([58]::zaa (tkL l))):=by
  intro k a l K hL
  have hk:k.Kind=37:=by rw[K.eq];rfl
  rw[zK9 hk,hL,tk0,tkT,zdA]
  simp
 have hend: ∀(ls:List Node) (r:zB),(∀k∈ls,CS c k)->(zbt [[99,97,115,101],[100,101,102,97,117,108,116],[125]] (T c (zaa (tkL ls))++c [125]::r)||zX (T c (zaa (tkL ls))++c [125]::r)==0)=true/\zq6 (T c (zaa (tkL ls))++c [125]::r):=by
  intro ls r h
  rcases ls with _| ⟨k,l⟩
  ·show(zbt _ (c [125]::r)||zX (c [125]::r)==0)=true/\zq6 (c [125]::r)
   exact⟨by rw[ob.any];rfl,ob.zfd _ (by decide)⟩
  ·have K:=h k qz7
   obtain⟨a,q,hL,_⟩:=K.ex
   have e:zaa (tkL (k::l))=(tkN k).st++zaa (tkL l):=by simp[zaa,tkL]
   rw[e,hst k a q K hL]
   cases a.Kind !=42 with
   |true=>
    show(zbt _ (c [99,97,115,101]::_)||zX (c [99,97,115,101]::_)==0)=true/\zq6 (c [99,97,115,101]::_)
    exact⟨by rw[oc.any];rfl,oc.zfd _ (by decide)⟩
   |false=>
    show(zbt _ (c [100,101,102,97,117,108,116]::_)||zX (c [100,101,102,97,117,108,116]::_)==0)=true/\zq6 (c [100,101,102,97,117,108,116]::_)
    exact⟨by rw[od.any];rfl,od.zfd _ (by decide)⟩
 intro ls
 induction ls with
 |nil=>intro e _ _ r;exact zJo (t:=c [125]::r) (by rw[ob.is];decide)
 |cons k l ih=>
  intro e he hk r
  have K:=hk k qz7
  have hl:=λq hq=>hk q (qz8 _ hq)
  obtain⟨a,q,hL,ha,hs⟩:=K.ex
  simp only[ziB,qz4]at he
  have e1:zaa (tkL (k::l))=(tkN k).st++zaa (tkL l):=by simp[zaa,tkL]
  have ek:=K.eq
  rw[hL]at ek
  obtain⟨n1,n2⟩:=hend l r hl
  have hB:=zNK q hs _ n1 n2
  rw[e1,hst k a q K hL]
  simp only[zbe,zbn,yI,yE]
  rcases ha with ha| ⟨ha,R⟩
  ·have hc:zw3 k=true:=by unfold zw3;rw[hL,ha];rfl
   rw[hc]at he
   have he:=he.2
   simp only[yB]at he
   have:=zH5 he
   obtain rfl:e=0:=by omega
   rw[zw7 (by rw[ha];rfl)]
   have hr:=ih 1 he hl r
   rw[ha]
   have:=zCM (t:=c [100,101,102,97,117,108,116]::(T c []++c [58]::(T c (zaa (tkL q))++(T c (zaa (tkL l))++c [125]::r)))) (by rw[od.is];decide) (by rw[od.is];decide) (by show tIs [58] (c [58]::_)=true;rw[o.is];decide) hB hr
   have ek2:nd 37 (nd 42 []::q)=k:=by rw[ek,ha]
   rw[ek2]at this
   exact this
  ·have hc:zw3 k=false:=by unfold zw3;rw[hL];exact(zqO ha).1
   rw[hc]at he
   have he:=he.2
   simp only[qz2,yA]at he
   have hr:=ih e he hl r
   rw[zqN ha,(zqO ha).2.2]
   have:=zI8 (o:=decide (e=0)) (t:=c [99,97,115,101]::(T c (atT (tkN a) 0 false)++c [58]::(T c (zaa (tkL q))++(T c (zaa (tkL l))++c [125]::r)))) (by rw[oc.is];decide) (by rw[oc.is,show(([99,97,115,101]:Str)==[100,101,102,97,117,108,116])=false by decide,Bool.and_false]) (by rw[oc.is];decide) (at_end C R false [58] _ (by decide) (by decide) 0) (by rw[o.is];decide) hB hr
   rw[show nd 37 (a::q)=k from ek.symm]at this
   exact this
theorem zVY{x a:Node}{l:List Node}(h:x.Kind=36)(ho:zao x=true)(hL:x.L=a::l)(R:RT c a)(hc:ziB l 0=true)(hk: ∀k∈l,CS c k):SR c x:=by
 have o:=zal C (w:=[115,119,105,116,99,104]) (by decide)
 have ob:=zal C (w:=[123]) (by decide)
 have e:=zed h ho (by decide) (by decide)
 rw[hL]at e
 have hst:(tkN x).st=[115,119,105,116,99,104]::(([40]::(atT (tkN a) 0 false++[[41]]))++([123]::(zaa (tkL l)++[[125]]))):=by rw[zLE h,hL,tk0,tkT];simp[zc2]
 refine⟨λr=>?_,λr hf=>?_⟩
 ·rw[hst];exact zet C _ _ (by decide) (by decide)
 ·have e2:T c (tkN x).st++r=c [115,119,105,116,99,104]::(T c ([40]::(atT (tkN a) 0 false++[[41]]))++c [123]::(T c (zaa (tkL l))++c [125]::r)):=by rw[hst];simp[T]
  rw[e2]
  have:=zMp o (zo4 C R (c [123]::(T c (zaa (tkL l))++c [125]::r))) (by rw[ob.is];decide) (zLT C l 0 hc hk r)
  rw[<-e]at this
  exact this
end
section
variable {g:zi} {n:Nat}
theorem zP1(G:zbu g n)(y:Node)(l:List Str)(hd:20*zW y+14<=n+1)(h:y.Kind=24)(hm:zat y=true)(hb:zU y<=2097152)(hlen:l.length+(tkN y).st.length<=274877906944):zae g y false l=some (false,l++(tkN y).st,()):=by
 have a1:=zaR y;have a2:=zaA y
 have hk: ∀k∈y.L,zW k<=za7 y.L/\zU k<=zaK y.L:=λk hk=>⟨zaT hk,za4 hk⟩
 rw[zHE h,qz4]at hm
 obtain⟨a,hL,h1⟩:=zdw hm.2
 have ka:=hk a (by rw[hL];simp)
 have ha:=G.at_ a 0 (by omega) h1 (by omega) false l
 rw[zLI h,hL,tk0]at hlen⊢
 unfold zae
 simp only[zq]
 rw[h,hL]
 obtain⟨w,r,ht⟩: ∃w r,atT (tkN a) 0 false=w::r:=by
  cases e:atT (tkN a) 0 false with
  |nil=>exact absurd e (zQS h1 0 false)
  |cons w r=>exact⟨w,r,rfl⟩
 rw[ht]at hlen ha⊢
 have hge:zN (l++w::r) ((l.length:Nat):Int)=some w:=by
  rw[zjh];simp
 have e: ∀r:Bool×List Str×Unit,r=(false,l++w::r.2.1.drop (l.length+1),())->True:=λ_ _=>trivial
 clear e
 have hgo: ∀l2:List Str,l2=l++w::r->(Option.bind (zN l2 ((l.length:Nat):Int)) λ_=>Option.bind (zN l2 ((l.length:Nat):Int)) λx_5=>
   if(x_5==[123]||x_5==[102,117,110,99,116,105,111,110])=true then
    Option.bind (zhP ((l.length:Nat):Int) l2 ([[40]]:List Str)) λr_7=>Option.bind (room (r_7.1.length+([[41]]:List Str).length)) λ_=>Option.bind (zn ([[59]]:List Str) false (r_7.1++[[41]])) λr_9=>some (r_9.1,r_9.2.1,())
   else Option.bind (zn ([[59]]:List Str) false l2) λr_10=>some (r_10.1,r_10.2.1,()))=some (false,l++(zi8 (w::r)++[[59]]),()):=by
  intro l2 e2
  rw[e2,hge]
  simp only[qz1]
  unfold zi8 at hlen⊢
  by_cases hc:(w==[123]||w==[102,117,110,99,116,105,111,110])=true
  ·have hc2:(w==([123]:Str)||w==([102,117,110,99,116,105,111,110]:Str))=true:=hc
   simp only[hc2,yB]at hlen⊢
   rw[zMN _ _ _ (by simp) (by simp) (by simp only[qz5,qz3,qz6]at hlen⊢;omega)]
   simp only[qz1]
   have e3:(l++w::r).take l.length++([[40]]++(l++w::r).drop l.length)=l++([40]::w::r):=by simp
   rw[e3,zd0 (by simp only[qz5,qz3,qz6]at hlen⊢;omega)]
   simp only[qz1]
   rw[zar _ _ _ (by simp only[qz5,qz3,qz6]at hlen⊢;omega)]
   simp
  ·have hc2: ¬(w==([123]:Str)||w==([102,117,110,99,116,105,111,110]:Str))=true:=hc
   simp only[hc2,qz2,yA]at hlen⊢
   rw[zar _ _ _ (by simp only[qz5,qz3,qz6]at hlen⊢;omega)]
   simp
 show Option.bind (g.zD a 0 false l) (λq=>Option.bind (zN q.2.1 ((l.length:Nat):Int)) λ_=>Option.bind (zN q.2.1 ((l.length:Nat):Int)) λx_5=>
   if(x_5==[123]||x_5==[102,117,110,99,116,105,111,110])=true then
    Option.bind (zhP ((l.length:Nat):Int) q.2.1 ([[40]]:List Str)) λr_7=>Option.bind (room (r_7.1.length+([[41]]:List Str).length)) λ_=>Option.bind (zn ([[59]]:List Str) q.1 (r_7.1++[[41]])) λr_9=>some (r_9.1,r_9.2.1,())
   else Option.bind (zn ([[59]]:List Str) q.1 q.2.1) λr_10=>some (r_10.1,r_10.2.1,()))=_
 rw[ha (by
  unfold zi8 at hlen
  dsimp only at hlen
  split at hlen
  ·simp only[qz5,qz3,qz6]at hlen⊢;omega
  ·simp only[qz5,qz3,qz6]at hlen⊢;omega)]
 exact hgo _ rfl
theorem zQg(G:zbu g n)(y:Node)(l:List Str)(hd:20*zW y+14<=n+1)(h:y.Kind=35)(hm:zat y=true)(hb:zU y<=2097152)(hlen:l.length+(tkN y).st.length<=274877906944):zae g y false l=some (false,l++(tkN y).st,()):=by
 have a1:=zaR y;have a2:=zaA y
 have hk: ∀k∈y.L,zW k<=za7 y.L/\zU k<=zaK y.L:=λk hk=>⟨zaT hk,za4 hk⟩
 rw[zH9 h,qz4]at hm
 obtain⟨a,b,c,hL,h1,h2,h3,_⟩:=zHC hm.2
 have ka:=hk a (by rw[hL];simp);have kb:=hk b (by rw[hL];simp);have kc:=hk c (by rw[hL];simp)
 rw[zMt h,hL,tk0,tk1,tk2,zdA,zdA]at hlen⊢
 have hj: ∀l:List Str,l.length+(if(c.Kind==25)=true then[102,105,110,97,108,108,121]::(tkN c).st else[]).length<=274877906944->zdh g [a,b,c] false l=some (false,l++(if(c.Kind==25)=true then[102,105,110,97,108,108,121]::(tkN c).st else[]),()):=by
  intro l hlen
  unfold zdh
  simp only[zQR,qz1,zq]
  rcases zyT h3 with⟨e,ho⟩|e
  ·rw[e]at hlen⊢
   simp only[beq_self_eq_true,yB]at hlen⊢
   rw[zar _ _ _ (by simp only[qz5,qz3,qz6]at hlen⊢;omega)]
   simp only[qz1]
   rw[G.stmt c _ (by omega) (ziH ho) (by omega) (by simp only[qz5,qz3,qz6]at hlen⊢;omega)]
   simp
  ·rw[e]
   show some (false,l,())=some (false,l++[],())
   simp
 unfold zae
 simp only[zq]
 rw[h,hL]
 show Option.bind (zn [[116,114,121]] false l) (λr=>Option.bind (g.zaf a r.1 r.2.1) λr=>if(b.Kind==25)=true then Option.bind (zn [[99,97,116,99,104],[40],y.Name,[41]] r.1 r.2.1) λr=>Option.bind (g.zaf b r.1 r.2.1) λr=>zdh g [a,b,c] r.1 r.2.1 else zdh g [a,b,c] r.1 r.2.1)=_
 rw[zar _ _ _ (by simp only[qz5,qz3,qz6]at hlen⊢;omega)]
 simp only[qz1]
 rw[G.stmt a _ (by omega) (ziH h1) (by omega) (by simp only[qz5,qz3,qz6]at hlen⊢;omega)]
 simp only[qz1]
 rcases zyT h2 with⟨e,ho⟩|e
 ·rw[e]at hlen⊢
  simp only[beq_self_eq_true,yB]at hlen⊢
  rw[zar _ _ _ (by simp only[qz5,qz3,qz6]at hlen⊢;omega)]
  simp only[qz1]
  rw[G.stmt b _ (by omega) (ziH ho) (by omega) (by simp only[qz5,qz3,qz6]at hlen⊢;omega)]
  simp only[qz1]
  rw[hj _ (by simp only[qz5,qz3,qz6]at hlen⊢;omega)]
  simp
 ·rw[e]at hlen⊢
  have e1:((42:Int)==25)=false:=rfl
  simp only[e1,qz2,yA,List.nil_append]at hlen⊢
  rw[hj _ (by simp only[qz5,qz3,qz6]at hlen⊢;omega)]
  simp
theorem zOX(G:zbu g n)(y:Node)(l:List Str)(hd:20*zW y+14<=n+1)(h:y.Kind=26)(hm:zat y=true)(hb:zU y<=2097152)(hlen:l.length+(tkN y).st.length<=274877906944):zae g y false l=some (false,l++(tkN y).st,()):=by
 have a1:=zaR y;have a2:=zaA y
 have hk: ∀k∈y.L,zW k<=za7 y.L/\zU k<=zaK y.L:=λk hk=>⟨zaT hk,za4 hk⟩
 rw[zIy h,qz4]at hm
 rcases zK3 hm.2 with⟨a,b,hL,h1,h2⟩| ⟨a,b,c,hL,h1,h2,h3⟩
 ·have ka:=hk a (by rw[hL];simp);have kb:=hk b (by rw[hL];simp)
  rw[zAI h,hL,tk0,tk1,zQp]at hlen⊢
  unfold zae
  simp only[zq]
  rw[h,hL]
  show Option.bind (g.za2 [105,102] a false l) (λr=>Option.bind (g.zaf b r.1 r.2.1) λr=>some (r.1,r.2.1,()))=_
  rw[G.head a _ _ (by omega) h1 (by omega) (by simp only[qz5,qz3,qz6]at hlen⊢;omega)]
  simp only[qz1]
  rw[G.stmt b _ (by omega) (ziH h2) (by omega) (by simp only[qz5,qz3,qz6]at hlen⊢;omega)]
  simp
 ·have ka:=hk a (by rw[hL];simp);have kb:=hk b (by rw[hL];simp);have kc:=hk c (by rw[hL];simp)
  rw[zAI h,hL,tk0,tk1,tk2]at hlen⊢
  unfold zae
  simp only[zq]
  rw[h,hL]
  show Option.bind (g.za2 [105,102] a false l) (λr=>Option.bind (g.zaf b r.1 r.2.1) λr=>Option.bind (zn [[101,108,115,101]] r.1 r.2.1) λr=>Option.bind (g.zaf c r.1 r.2.1) λr=>some (r.1,r.2.1,()))=_
  rw[G.head a _ _ (by omega) h1 (by omega) (by simp only[qz5,qz3,qz6]at hlen⊢;omega)]
  simp only[qz1]
  rw[G.stmt b _ (by omega) (ziH h2) (by omega) (by simp only[qz5,qz3,qz6]at hlen⊢;omega)]
  simp only[qz1]
  rw[zar _ _ _ (by simp only[qz5,qz3,qz6]at hlen⊢;omega)]
  simp only[qz1]
  rw[G.stmt c _ (by omega) (ziH h3) (by omega) (by simp only[qz5,qz3,qz6]at hlen⊢;omega)]
  simp
theorem zQh(G:zbu g n)(y:Node)(l:List Str)(hd:20*zW y+14<=n+1)(h:y.Kind=37)(hm:zat y=true)(hb:zU y<=2097152)(hlen:l.length+(tkN y).st.length<=274877906944):zae g y false l=some (false,l++(tkN y).st,()):=by
 have a1:=zaR y;have a2:=zaA y
 have hk: ∀k∈y.L,zW k<=za7 y.L/\zU k<=zaK y.L:=λk hk=>⟨zaT hk,za4 hk⟩
 rw[zG4 h,qz4]at hm
 obtain⟨a,r,hL,h1,h2⟩:=zhO hm.2
 have ka:=hk a (by rw[hL];simp)
 have kr:za7 r<=za7 y.L:=by rw[hL,znp];omega
 have kr2:zaK r<=zaK y.L:=by rw[hL];simp[zaK]
 rw[zK9 h,hL,tk0,tkT,zdA]at hlen⊢
 have hj: ∀w:Str,l.length+(w::zaG (tkN a) 0 false++([58]::zaa (tkL r))).length<=274877906944->zdg g (a::r) w false l=some (false,l++(w::zaG (tkN a) 0 false++([58]::zaa (tkL r))),()):=by
  intro w hlen
  unfold zdg
  rw[zar _ _ _ (by simp only[qz5,qz3,qz6]at hlen⊢;omega)]
  simp only[qz1,zCE,zq]
  rw[G.begin_ a 0 (by omega) (zqY h1) (by omega) false _ (by simp only[qz5,qz3,qz6]at hlen⊢;omega)]
  simp only[qz1]
  rw[zar _ _ _ (by simp only[qz5,qz3,qz6]at hlen⊢;omega)]
  rw[zPj]
  simp only[qz1]
  rw[G.stmts r _ (by omega) (λk hk=>zBT (h2 k hk)) (by omega) (by simp only[qz5,qz3,qz6]at hlen⊢;omega)]
  simp
 unfold zae
 simp only[zq]
 rw[h,hL]
 show(if(a.Kind !=42)=true then zdg g (a::r) [99,97,115,101] false l else zdg g (a::r) [100,101,102,97,117,108,116] false l)=_
 cases hc:a.Kind !=42 with
 |true=>
  rw[hc]at hlen
  exact hj _ hlen
 |false=>
  rw[hc]at hlen
  exact hj _ hlen
theorem zTK(G:zbu g n)(y:Node)(l:List Str)(hd:20*zW y+14<=n+1)(ho:zhy y=true)(hb:zU y<=2097152)(hlen:l.length+(tkN y).st.length<=274877906944):zae g y false l=some (false,l++(tkN y).st,()):=by
 have a1:=zaR y;have a2:=zaA y
 have hk: ∀k∈y.L,zW k<=za7 y.L/\zU k<=zaK y.L:=λk hk=>⟨zaT hk,za4 hk⟩
 obtain⟨hm,hK⟩:=zLF ho
 have hloop:27<=y.Kind->y.Kind<=30->Option.bind (g.zb9 y false l) (λr=>some (r.1,r.2.1,()))=some (false,l++(tkN y).st,()):=λh1 h2=>by
  rw[G.loop y l (by omega) h1 h2 hm hb hlen];rfl
 have hword:(y.Kind=31\/y.Kind=32\/y.Kind=33\/y.Kind=34\/y.Kind=40)->Option.bind (g.zdG y false l) (λr=>some (r.1,r.2.1,()))=some (false,l++(tkN y).st,()):=λh1=>by
  rw[G.word y l (by omega) h1 hm hb hlen];rfl
 rcases hK with h|h|h|h|h|h|h|h|h|h|h|h|h|h|h|h|h|h
 ·rw[zFZ h]at hlen⊢
  have e:zaG (tkN y) 0 false=[118,97,114]::commas (declT false) (tkL y.L):=by unfold zaG;rw[zdA,zjC,h];rfl
  rw[<-e]at hlen⊢
  unfold zae
  simp only[zq]
  rw[h]
  show Option.bind (g.za3 y 0 false l) (λr=>Option.bind (zn [[59]] r.1 r.2.1) λr=>some (r.1,r.2.1,()))=_
  rw[G.begin_ y 0 (by omega) (zHh h hm) hb false l (by simp only[qz5,qz3,qz6]at hlen⊢;omega)]
  simp only[qz1]
  rw[zar _ _ _ (by simp only[qz5,qz3,qz6]at hlen⊢;omega)]
  simp
 ·exact zP1 G y l hd h hm hb hlen
 ·rw[zGM h,qz4]at hm
  rw[zDa h]at hlen⊢
  unfold zae
  simp only[zq]
  rw[h]
  show Option.bind (zn [[123]] false l) (λr=>Option.bind (g.zaU y.L r.1 r.2.1) λr=>Option.bind (zn [[125]] r.1 r.2.1) λr=>some (r.1,r.2.1,()))=_
  rw[zar _ _ _ (by simp only[qz5,qz3,qz6]at hlen⊢;omega)]
  simp only[qz1]
  rw[G.stmts y.L _ (by omega) (λk hk=>zBT (zfv hm.2 k hk)) (by omega) (by simp only[qz5,qz3,qz6]at hlen⊢;omega)]
  simp only[qz1]
  rw[zar _ _ _ (by simp only[qz5,qz3,qz6]at hlen⊢;omega)]
  simp
 ·exact zOX G y l hd h hm hb hlen
 ·have:=hloop (by omega) (by omega)
  unfold zae;simp only[zq];rw[h];exact this
 ·have:=hloop (by omega) (by omega)
  unfold zae;simp only[zq];rw[h];exact this
 ·have:=hloop (by omega) (by omega)
  unfold zae;simp only[zq];rw[h];exact this
 ·have:=hloop (by omega) (by omega)
  unfold zae;simp only[zq];rw[h];exact this
 ·have:=hword (by omega)
  unfold zae;simp only[zq];rw[h];exact this
 ·have:=hword (by omega)
  unfold zae;simp only[zq];rw[h];exact this
 ·have:=hword (by omega)
  unfold zae;simp only[zq];rw[h];exact this
 ·have:=hword (by omega)
  unfold zae;simp only[zq];rw[h];exact this
 ·exact zQg G y l hd h hm hb hlen
 ·rw[zHx h,qz4]at hm
  obtain⟨a,r,hL,h1,h2⟩:=zzW hm.2
  have ka:=hk a (by rw[hL];simp)
  have kr:za7 r<=za7 y.L:=by rw[hL,znp];omega
  have kr2:zaK r<=zaK y.L:=by rw[hL];simp[zaK]
  rw[zLE h,hL,tk0,tkT]at hlen⊢
  unfold zae
  simp only[zq]
  rw[h,hL]
  show Option.bind (g.za2 [115,119,105,116,99,104] a false l) (λq=>Option.bind (zn [[123]] q.1 q.2.1) λq=>Option.bind (zaL (a::r) 1 (((a::r).length:Nat):Int)) λs=>Option.bind (g.zaU s q.1 q.2.1) λq=>Option.bind (zn [[125]] q.1 q.2.1) λq=>some (q.1,q.2.1,()))=_
  rw[G.head a _ _ (by omega) h1 (by omega) (by simp only[qz5,qz3,qz6]at hlen⊢;omega)]
  simp only[qz1]
  rw[zar _ _ _ (by simp only[qz5,qz3,qz6]at hlen⊢;omega),zPj]
  simp only[qz1]
  rw[G.stmts r _ (by omega) (λk hk=>zUv (zrD h2 k hk)) (by omega) (by simp only[qz5,qz3,qz6]at hlen⊢;omega)]
  simp only[qz1]
  rw[zar _ _ _ (by simp only[qz5,qz3,qz6]at hlen⊢;omega)]
  simp
 ·exact zQh G y l hd h hm hb hlen
 ·rw[zH1 h,qz4]at hm
  obtain⟨a,hL,h1⟩:=zdw hm.2
  have ka:=hk a (by rw[hL];simp)
  rw[zMy h,hL,tk0]at hlen⊢
  unfold zae
  simp only[zq]
  rw[h,hL]
  show Option.bind (zn [y.Name,[58]] false l) (λr=>Option.bind (g.zaf a r.1 r.2.1) λr=>some (r.1,r.2.1,()))=_
  rw[zar _ _ _ (by simp only[qz5,qz3,qz6]at hlen⊢;omega)]
  simp only[qz1]
  rw[G.stmt a _ (by omega) (zBT h1) (by omega) (by simp only[qz5,qz3,qz6]at hlen⊢;omega)]
  simp
 ·rw[zGV h,qz4]at hm
  rw[zLi h]at hlen⊢
  unfold zae
  simp only[zq]
  rw[h]
  show Option.bind (g.zbp y false l) (λr=>some (r.1,r.2.1,()))=_
  rw[G.func y (by omega) (λk hk=>zBG (zfv hm.2 k hk)) hb false l hlen];rfl
 ·have:=hword (by omega)
  unfold zae;simp only[zq];rw[h];exact this
end
theorem zOf: ∀n:Nat,zbu (zy n) n
 |0=>⟨by intros;omega,by intros;omega,by intros;omega,by intros;omega,by intros;omega,by intros;omega,by intros;omega,by intros;omega,by intros;omega,by intros;omega,by intros;omega,by intros;omega,by intros;omega,by intros;omega,by intros;omega,by intros;omega,by intros;omega,by intros;omega,by intros;omega,by intros;omega,by intros;omega,by intros;omega,by intros;omega,by intros;omega,by intros;omega⟩
 |n+1=>
  have G:=zOf n
  ⟨w_at G,zPe G,zVQ G,zUB G,zVI G,zUm G,zU0 G,zTO G,zUR G,zUu G,zTC G,zRq G,zWy G,zVL G,zUf G,zVt G,zUe G,zVw G,zT0 G,zUn G,zTq G,zUN G,zT2 G,zTK G,zRg G⟩
theorem zJb(ls:List Node)(hk: ∀k∈ls,zhy k=true)(hb:zaK ls<=2097152)(hd:za7 ls<=10000000)(hlen:(zaa (tkL ls)).length<=274877906944):zaU ls false []=some (false,zaa (tkL ls),()):=by
 have:=(zOf 1000000000000).stmts ls [] (by omega) hk hb (by simpa using hlen)
 rw[List.nil_append]at this
 exact this
noncomputable section
def wt(l:List Str):Nat:=(l.map λs=>s.length+1).sum
theorem zk4:wt []=0:=rfl
theorem zd3(s:Str)(l:List Str):wt (s::l)=s.length+1+wt l:=by simp[wt]
theorem zkE(a b:List Str):wt (a++b)=wt a+wt b:=by simp[wt]
theorem zUJ(l:List Str):l.length<=wt l:=zrp l
mutual
def wN:Node->Nat
 | ⟨_,n,m,t,ns,l⟩=>n.length+(zdk t).length+(Lib.itoa m).length+(ns.map λs=>s.length+3).sum+100+wL l
def wL:List Node->Nat
 | []=>0
 |x::r=>wN x+wL r
end
theorem zxf(x:Node):wN x=x.Name.length+(zdk x.Text).length+(Lib.itoa x.Num).length+(x.Names.map λs=>s.length+3).sum+100+wL x.L:=by cases x;simp[wN]
theorem zes(x:Node)(r:List Node):wL (x::r)=wN x+wL r:=by simp[wL]
theorem zHa(x:Node)(ls:Str): ∀(l:List Node) (i e:Nat),zhT x ls (zjN l) i e=true->∀k∈l,zat k=true
 | [],_,_,_,k,hk=>by cases hk
 |y::r,i,e,h,k,hk=>by
  simp only[zjN,zhT]at h
  split at h
  · cases h
  · simp only[qz4]at h
    rcases yP.1 hk with rfl|hk
    · exact h.1.2
    · exact zHa x ls r _ _ h.2 k hk
theorem zFg{x:Node}(h:zat x=true):zhq x.Text=true/\∀k∈x.L,zat k=true:=by
 rw[zqX]at h
 unfold zzq at h
 split at h
 ·cases h
 ·simp only[qz4,zwP]at h
  exact⟨h.1.1.2.1.1.1,zHa x _ _ _ _ h.2⟩
theorem zN3: ∀l:List Str,(l.map λs=>s.length+3).sum<=3*(l.map λs=>s.length+1).sum
 | []=>by simp
 |x::r=>by simp only[List.map_cons,List.sum_cons];have:=zN3 r;omega
theorem zFo(s:Str)(hs:s.length<=100000000)(he:zhq s=true):(zdk s).length<=3*s.length+2:=by
 have h1:=zop s hs he
 have h2:=zzy s hs he
 rw[h1]at h2
 simp only[Option.some.injEq,Prod.mk.injEq]at h2
 rw[<-h2.1]
 exact zGx s
theorem zEM{x:Node}(h:okN x):i64 x.Num/\okL x.L:=by
 cases x;simp only[okN]at h;exact h.2
mutual
theorem zSZ: ∀x:Node,okN x->zat x=true->zU x<=100000000->wN x<=30*zU x
 | ⟨k,n,m,t,ns,l⟩,ho,hm,hb=>by
  obtain⟨h1,h2⟩:=zFg hm
  obtain⟨h3,h4⟩:=zEM ho
  have b:=zaA ⟨k,n,m,t,ns,l⟩
  have w:=zxf ⟨k,n,m,t,ns,l⟩
  simp only at h1 h2 h3 h4 b w
  have hL:=zEp l h4 h2 (by omega)
  have hq:=zFo t (by omega) h1
  have hi:=Lib.itoa_length_le m h3.1 (by have:=h3.2;omega)
  have hs:=zN3 ns
  omega
theorem zEp: ∀l:List Node,okL l->(∀k∈l,zat k=true)->zaK l<=100000000->wL l<=30*zaK l
 | [],_,_,_=>by simp[wL]
 |x::r,ho,hm,hb=>by
  simp only[okL]at ho
  simp only[zaK]at hb⊢
  rw[zes]
  have:=zSZ x ho.1 (hm x qz7) (by omega)
  have:=zEp r ho.2 (λk hk=>hm k (qz8 _ hk)) (by omega)
  omega
end
structure Few (y:Node):Prop where
 ex: ∀no,wt ((tkN y).ex no)+8<=wN y
 st:wt (tkN y).st+8<=wN y
 item: ∀no,wt (zah no (tkN y))+4<=wN y
 decl: ∀no,wt (declT no (tkN y))+4<=wN y
 beg: ∀least no,wt (zaG (tkN y) least no)+4<=wN y
theorem ziK{y:Node}(h: ∀no,wt ((tkN y).ex no)+8<=wN y)(least:Int)(no:Bool):wt (atT (tkN y) least no)+4<=wN y:=by
 unfold atT
 have h1:=h false;have h2:=h no
 split
 ·simp only[zd3,zkE,zk4,qz3,qz6];omega
 ·omega
theorem zCS(ls:List Node)(f:Tk->List Str)(h: ∀k∈ls,wt (f (tkN k))<=wN k):wt (k0 (tkL ls) f)<=wL ls:=by
 rcases ls with _| ⟨a,r⟩
 ·simp[tkL,k0,wt]
 ·rw[tk0,zes];have:=h a qz7;omega
theorem zOV(ls:List Node)(f:Node->List Str)(h: ∀k∈ls,wt (f k)+4<=wN k):wt (ls.flatMap λq=>[44]::f q)<=wL ls:=by
 induction ls with
 |nil=>simp[wt,wL]
 |cons a r ih=>
  have:=ih λk hk=>h k (qz8 _ hk)
  have:=h a qz7
  rw[List.flatMap_cons,zkE,zd3,zes]
  simp only[qz3,qz6];omega
theorem zqy(ls:List Node)(f:Tk->List Str)(h: ∀k∈ls,wt (f (tkN k))+4<=wN k):wt (commas f (tkL ls))<=wL ls:=by
 rw[zyO]
 rcases ls with _| ⟨a,r⟩
 ·simp[zkw,wt]
 ·have:=zOV r (λy=>f (tkN y)) λk hk=>h k (qz8 _ hk)
  have:=h a qz7
  simp only[zkw,zkE]
  rw[zes]
  omega
theorem zro(ls:List Node)(f:Tk->List Str)(h: ∀k∈ls,wt (f (tkN k))+4<=wN k):wt ((tkL ls).flatMap f)<=wL ls:=by
 induction ls with
 |nil=>simp[wt,wL,tkL]
 |cons a r ih=>
  have:=ih λk hk=>h k (qz8 _ hk)
  have:=h a qz7
  rw[show tkL (a::r)=tkN a::tkL r by simp[tkL],List.flatMap_cons,zkE,zes]
  omega
theorem zra(ls:List Node)(f0 f1 f2 f3:Tk->List Str)(p q r s:Nat)(h: ∀k∈ls,wt (f0 (tkN k))<=wN k+p/\wt (f1 (tkN k))<=wN k+q/\wt (f2 (tkN k))<=wN k+r/\wt (f3 (tkN k))<=wN k+s):
  wt (k0 (tkL ls) f0)+(wt (k1 (tkL ls) f1)+(wt (k2 (tkL ls) f2)+wt (k3 (tkL ls) f3)))<=wL ls+p+q+r+s:=by
 rcases ls with _| ⟨a,_| ⟨b,_| ⟨c,_| ⟨d,l⟩⟩⟩⟩
 ·simp[tkL,k0,k1,k2,k3,wt]
 ·have:=(h a (by simp)).1
  rw[tk0,zes]
  simp only[tkL,k1,k2,k3,zk4];omega
 ·have:=(h a (by simp)).1;have:=(h b (by simp)).2.1
  rw[tk0,tk1,zes,zes]
  simp only[tkL,k2,k3,zk4];omega
 ·have:=(h a (by simp)).1;have:=(h b (by simp)).2.1;have:=(h c (by simp)).2.2.1
  rw[tk0,tk1,tk2,zes,zes,zes]
  simp only[tkL,k3,zk4];omega
 ·have:=(h a (by simp)).1;have:=(h b (by simp)).2.1;have:=(h c (by simp)).2.2.1;have:=(h d (by simp)).2.2.2
  rw[tk0,tk1,tk2,tk3,zes,zes,zes,zes]
  omega
theorem zUx(ls:List Node)(f0 f1 f2 f3:Tk->List Str)(h: ∀k∈ls,wt (f0 (tkN k))<=wN k/\wt (f1 (tkN k))<=wN k/\wt (f2 (tkN k))<=wN k/\wt (f3 (tkN k))<=wN k):
  wt (k0 (tkL ls) f0)+(wt (k1 (tkL ls) f1)+(wt (k2 (tkL ls) f2)+wt (k3 (tkL ls) f3)))<=wL ls:=zra ls f0 f1 f2 f3 0 0 0 0 h
theorem zEh(ls:List Node)(f g:Tk->List Str)(h: ∀k∈ls,wt (f (tkN k))<=wN k)(hg: ∀k∈ls,wt (g (tkN k))+4<=wN k):wt (k0 (tkL ls) f)+wt (commas g (tkL ls).tail)<=wL ls:=by
 rcases ls with _| ⟨a,r⟩
 ·simp[tkL,k0,commas,wt]
 ·have:=zqy r g λk hk=>hg k (qz8 _ hk)
  have:=h a qz7
  rw[tk0,tkT,zes];omega
theorem zxv(ls:List Node)(f g:Tk->List Str)(p:Nat)(h: ∀k∈ls,wt (f (tkN k))<=wN k+p)(hg: ∀k∈ls,wt (g (tkN k))+4<=wN k):wt (k0 (tkL ls) f)+wt ((tkL ls).tail.flatMap g)<=wL ls+p:=by
 rcases ls with _| ⟨a,r⟩
 ·simp[tkL,k0,wt]
 ·have:=zro r g λk hk=>hg k (qz8 _ hk)
  have:=h a qz7
  rw[tk0,tkT,zes];omega
theorem zNm(ns:List Str):wt (namesT ns)<=(ns.map λs=>s.length+3).sum:=by
 have key: ∀r:List Str,wt (r.flatMap λq=>[[44],q])<=(r.map λs=>s.length+3).sum:=by
  intro r
  induction r with
  |nil=>simp[wt]
  |cons a r ih=>rw[List.flatMap_cons,zkE];simp only[zd3,zk4,List.map_cons,List.sum_cons,qz3,qz6];omega
 rcases ns with _| ⟨a,r⟩
 ·simp[namesT,wt]
 ·have:=key r
  simp only[namesT,zd3,List.map_cons,List.sum_cons];omega
theorem zJ5(s:Str):wt (if(s==([]:Str))=true then[]else[s])<=s.length+1:=by
 split
 ·simp[wt]
 ·simp[wt]
theorem zGv(x:Node)(h: ∀k∈x.L,Few k):wt (zf0 x (tkL x.L))+60<=wN x:=by
 have h1:=zxf x
 have h2:=zNm x.Names
 have h3:=zro x.L Tk.st λk hk=>by have:=(h k hk).st;omega
 have h4:=zJ5 x.Name
 unfold zf0 zaa
 simp only[zd3,zkE,zk4,qz3,qz6]
 omega
theorem zPp(x:Node):wt (zhj x)<=x.Name.length+20:=by
 have h4:=zJ5 x.Name
 unfold zhj
 rw[zkE]
 have:wt (if(x.Kind==31)=true then[[98,114,101,97,107]]else if(x.Kind==32)=true then[[99,111,110,116,105,110,117,101]]else if(x.Kind==33)=true then[[114,101,116,117,114,110]]else if(x.Kind==34)=true then[[116,104,114,111,119]]else([]:List Str))<=10:=by
  split
  · decide
  · split
    · decide
    · split
      ·decide
      ·split<;>decide
 omega
theorem zPq(l:List Str):wt (zi8 l)<=wt l+4:=by
 unfold zi8
 split
 ·simp[wt]
 ·split
  · simp only[zd3,zkE,zk4,qz3,qz6];omega
  · omega
theorem zP4(w:Str)(k:Node)(h:Few k):wt (zc2 w (tkN k))<=wN k+w.length+1:=by
 have:=ziK h.ex 0 false
 unfold zc2
 simp only[zd3,zkE,zk4,qz3,qz6];omega
theorem zDR(b:Bool):(Lib.formatBool b).length<=5:=by cases b<;>decide
theorem zKN{c:Prop}{d:Decidable c}{a b:List Str}{n m:Nat}(h1:c->wt a+n<=m)(h2: ¬c->wt b+n<=m):wt (if c then a else b)+n<=m:=by
 split
 ·exact h1 (by assumption)
 ·exact h2 (by assumption)
theorem zHz(x:Node)(h: ∀k∈x.L,Few k)(no:Bool):wt ((tkN x).ex no)+30<=wN x:=by
 have h1:=zxf x
 have A: ∀(a b c d:Int) (n1 n2 n3 n4:Bool),wt (k0 (tkL x.L) λk=>atT k a n1)+(wt (k1 (tkL x.L) λk=>atT k b n2)+(wt (k2 (tkL x.L) λk=>atT k c n3)+wt (k3 (tkL x.L) λk=>atT k d n4)))<=wL x.L:=λa b c d n1 n2 n3 n4=>
  zUx x.L _ _ _ _ λk hk=>⟨by have:=ziK (h k hk).ex a n1;omega,by have:=ziK (h k hk).ex b n2;omega,by have:=ziK (h k hk).ex c n3;omega,by have:=ziK (h k hk).ex d n4;omega⟩
 have C:wt (commas (zah false) (tkL x.L))<=wL x.L:=zqy x.L _ λk hk=>(h k hk).item false
 have T: ∀(a:Int),wt (k0 (tkL x.L) λk=>atT k a no)+wt (commas (zah false) (tkL x.L).tail)<=wL x.L:=λa=>zEh x.L _ _ (λk hk=>by have:=ziK (h k hk).ex a no;omega) λk hk=>(h k hk).item false
 have F:=zGv x h
 have B:=zDR (x.Num==1)
 rw[zU5]
 unfold exT
 repeat' refine zKN (λ_=>?_) (λ_=>?_)
 all_goals try simp only[zd3,zkE,zk4,qz3,qz6]
 all_goals first
  |omega
  | (have:=T 11;omega)
  | (have:=T 12;omega)
  | (have:=A 11 0 0 0 no false no no;omega)
  | (have:=A 9 0 0 0 no false no no;omega)
  | (have:=A 3 1 1 0 no false no no;omega)
  | (have:=A 11 1 1 0 no no no no;omega)
  | (have:=A 0 1 1 0 no no no no;omega)
  | (have:=A (tkN x).lvl ((tkN x).lvl+1) 1 0 no no no no;omega)
theorem zTo(x:Node)(h: ∀k∈x.L,Few k)(least:Int)(no:Bool):wt (zaG (tkN x) least no)+4<=wN x:=by
 have h1:=zxf x
 have h2:=ziK (y:=x) (λno=>by have:=zHz x h no;omega) least no
 have h3:wt (commas (declT no) (tkL x.L))<=wL x.L:=zqy x.L _ λk hk=>(h k hk).decl no
 unfold zaG
 rw[zjC]
 split
 ·simp only[zk4];omega
 ·split
  · simp only[zd3,qz3,qz6];omega
  · exact h2
theorem zTH(x:Node)(h: ∀k∈x.L,Few k):wt (tkN x).st+8<=wN x:=by
 have h1:=zxf x
 have D:wt (commas (declT false) (tkL x.L))<=wL x.L:=zqy x.L _ λk hk=>(h k hk).decl false
 have S:wt ((tkL x.L).flatMap Tk.st)<=wL x.L:=zro x.L _ λk hk=>by have:=(h k hk).st;omega
 have W:=zPp x
 have F:=zGv x h
 have V:wt ((tkL x.L).flatMap λk=>atT k 0 false)<=wL x.L:=zro x.L _ λk hk=>ziK (h k hk).ex 0 false
 have B:wt (zi8 (k0 (tkL x.L) λk=>atT k 0 false))<=wL x.L+4:=by
  have:=zPq (k0 (tkL x.L) λk=>atT k 0 false)
  have:=zCS x.L (λk=>atT k 0 false) λk hk=>by have:=ziK (h k hk).ex 0 false;omega
  omega
 have H: ∀w:Str,w.length<=8->∀k∈x.L,wt (zc2 w (tkN k))<=wN k+9:=λw hw k hk=>by have:=zP4 w k (h k hk);omega
 have S1: ∀k∈x.L,wt (tkN k).st+8<=wN k:=λk hk=>(h k hk).st
 have B1: ∀(a:Int) (n:Bool),∀k∈x.L,wt (zaG (tkN k) a n)<=wN k:=λa n k hk=>by have:=(h k hk).beg a n;omega
 have A1: ∀(a:Int) (n:Bool),∀k∈x.L,wt (atT (tkN k) a n)<=wN k:=λa n k hk=>by have:=ziK (h k hk).ex a n;omega
 have Z26:=zra x.L (zc2 [105,102]) Tk.st (λk=>[101,108,115,101]::k.st) (λ_=>[]) 9 0 0 0 λk hk=>⟨H _ (by decide) k hk,by have:=S1 k hk;omega,by have:=S1 k hk;rw[zd3];simp only[qz3,qz6];omega,by simp[wt]⟩
 have Z27:=zra x.L (zc2 [119,104,105,108,101]) Tk.st (λ_=>[]) (λ_=>[]) 9 0 0 0 λk hk=>⟨H _ (by decide) k hk,by have:=S1 k hk;omega,by simp[wt],by simp[wt]⟩
 have Z28:=zra x.L Tk.st (zc2 [119,104,105,108,101]) (λ_=>[]) (λ_=>[]) 0 9 0 0 λk hk=>⟨by have:=S1 k hk;omega,H _ (by decide) k hk,by simp[wt],by simp[wt]⟩
 have Z29:=zra x.L (λk=>zaG k 0 true) (λk=>zaG k 0 false) (λk=>zaG k 0 false) Tk.st 0 0 0 0 λk hk=>⟨B1 _ _ k hk,B1 _ _ k hk,B1 _ _ k hk,by have:=S1 k hk;omega⟩
 have Z30:=zra x.L (λk=>zaG k 11 true) (λk=>atT k 0 false) Tk.st (λ_=>[]) 0 0 0 0 λk hk=>⟨B1 _ _ k hk,A1 _ _ k hk,by have:=S1 k hk;omega,by simp[wt]⟩
 have Z35:=zra x.L Tk.st (λk=>if(k.x.Kind==25)=true then[99,97,116,99,104]::[40]::x.Name::[41]::k.st else[]) (λk=>if(k.x.Kind==25)=true then[102,105,110,97,108,108,121]::k.st else[]) (λ_=>[]) 0 (x.Name.length+10) 0 0 λk hk=>⟨by have:=S1 k hk;omega,by
  have:=S1 k hk
  split
  · simp only[zd3,qz3,qz6];omega
  · simp[wt],by
  have:=S1 k hk
  split
  · simp only[zd3,qz3,qz6];omega
  · simp[wt],by simp[wt]⟩
 have Z36:=zxv x.L (zc2 [115,119,105,116,99,104]) Tk.st 9 (H _ (by decide)) λk hk=>by have:=S1 k hk;omega
 have Z37:=zxv x.L (λk=>(if(k.x.Kind !=42)=true then[99,97,115,101]else[100,101,102,97,117,108,116])::zaG k 0 false) Tk.st 9 (λk hk=>by
  have:=B1 0 false k hk
  rw[zd3]
  have:(if((tkN k).x.Kind !=42)=true then[99,97,115,101]else[100,101,102,97,117,108,116]:Str).length<=7:=by split<;>decide
  omega) λk hk=>by have:=S1 k hk;omega
 have Z38:=zCS x.L Tk.st λk hk=>by have:=S1 k hk;omega
 rw[show(tkN x).st=stT x (tkL x.L) by rw[zaZ];rfl]
 unfold stT zaa
 repeat' refine zKN (λ_=>?_) (λ_=>?_)
 all_goals try simp only[zd3,zkE,zk4,qz3,qz6]
 all_goals omega
theorem zQy(x:Node)(h: ∀k∈x.L,Few k)(no:Bool):wt (zah no (tkN x))+4<=wN x:=by
 have h1:=zxf x
 have h2:=ziK (y:=x) (λno=>by have:=zHz x h no;omega) 1 no
 have h3:=zCS x.L (λk=>atT k 1 no) λk hk=>by have:=ziK (h k hk).ex 1 no;omega
 unfold zah
 rw[zjC,zdA]
 split
 ·simp only[zd3,qz3,qz6];omega
 ·exact h2
theorem zQe(x:Node)(h: ∀k∈x.L,Few k)(no:Bool):wt (declT no (tkN x))+4<=wN x:=by
 have h1:=zxf x
 have h3:=zCS x.L (λk=>[61]::atT k 1 no) λk hk=>by have:=ziK (h k hk).ex 1 no;rw[zd3];simp only[qz3,qz6];omega
 unfold declT
 rw[zjC,zdA]
 simp only[zd3];omega
mutual
theorem zQ1: ∀x:Node,Few x
 | ⟨k,n,m,t,ns,l⟩=>
  have h: ∀q∈(⟨k,n,m,t,ns,l⟩:Node).L,Few q:=zQN l
  ⟨λno=>by have:=zHz _ h no;omega,zTH _ h,zQy _ h,zQe _ h,zTo _ h⟩
theorem zQN: ∀(l:List Node),∀q∈l,Few q
 | [],q,hq=>by cases hq
 |x::r,q,hq=>by
  have hx:=zQ1 x
  rcases yP.1 hq with h|hq
  · exact h▸hx
  · exact zQN r q hq
end
theorem zMJ(ls:List Node):wt (zaa (tkL ls))<=wL ls:=zro ls Tk.st λk hk=>by have:=(zQ1 k).st;omega
theorem zRM(l:List Str):(Lib.join l [32]).length<=wt l:=by
 rcases l with _| ⟨a,r⟩
 ·simp[Lib.join_nil,wt]
 ·rw[Lib.join_length]
  have key: ∀l:List Str,wt l=l.length+Lib.lens l:=by
    intro l
    induction l with
    |nil=>rfl
    |cons a r ih=>rw[zd3,ih];simp only[Lib.lens,List.map_cons,List.sum_cons,qz3];omega
  rw[key]
  simp only[qz3,qz6];omega
def zns(x:Node):Str×Int:=
 if(znh x !=0)=true then([],znh x)else if 4096< (Lib.join (zaa (tkL x.L)) [32]).length then([],2)else(Lib.join (zaa (tkL x.L)) [32],0)
theorem zGX{x:Node}(h:znh x=0):x.Kind=41/\zat x=true/\zW x<=64:=by
 unfold znh at h
 split at h
 ·rename_i hc
  rw[qz4]at hc
  split at h
  · exact absurd h (by decide)
  · exact⟨eq_of_beq hc.1,hc.2,by omega⟩
 ·exact absurd h (by decide)
theorem zEO{x:Node}(h:x.Kind=41)(hm:zat x=true): ∀k∈x.L,zhy k=true:=by
 rw[zHL h,qz4]at hm
 exact λk hk=>zBG (zfv hm.2 k hk)
theorem zIl(x:Node)(ho:okN x)(hb:zU x<=2097152):ztl x=some ((zns x).1,(zns x).2,()):=by
 unfold ztl zns
 simp only[zq,zFs x hb,qz1]
 cases hc:znh x !=0 with
 |true=>rfl
 |false=>
  have hc:znh x=0:=by simpa using hc
  obtain⟨h1,h2,h3⟩:=zGX hc
  have a1:=zaR x;have a2:=zaA x
  obtain⟨p1,p2⟩:=zFg h2
  have w1:=zMJ x.L
  have w2:=zEp x.L (zEM ho).2 p2 (by omega)
  have w3:=zUJ (zaa (tkL x.L))
  have w4:=zRM (zaa (tkL x.L))
  have hw:=zJb x.L (zEO h1 h2) (by omega) (by omega) (by omega)
  simp only[qz2,yA,hw,qz1]
  unfold strings_Join
  rw[yL ⟨by omega,by omega⟩]
  simp only[qz1]
  by_cases hl:4096< (Lib.join (zaa (tkL x.L)) [32]).length
  · rw[yL hl,yL (by simpa using by omega)]
  · rw[yK hl,yK (by simpa using by omega)]
end
def zVJ(l:List Node):Node:=⟨41,[],0,[],[],l⟩
theorem zLr(a b:Str)(r:List Str):Lib.join (a::b::r) [32]=a++([32]++Lib.join (b::r) [32]):=by
 simp[Lib.join,List.intercalate]
theorem zRd{x:Node}(h:(zns x).2=0):x.Kind=41/\zat x=true/\zW x<=64/\(zns x).1=Lib.join (zaa (tkL x.L)) [32]/\(zns x).1.length<=4096:=by
 unfold zns at h⊢
 split at h
 ·rename_i hc
  exact absurd h (by simpa using hc)
 ·rename_i hc
  rw[yK hc]
  have hc:znh x=0:=by simpa using hc
  obtain⟨h1,h2,h3⟩:=zGX hc
  split at h
  ·exact absurd h (by decide)
  ·rename_i hl
   rw[yK hl]
   exact⟨h1,h2,h3,rfl,by simpa using hl⟩
theorem zSK{y:Node}(h:zS y 120=true):zS y 115= !(y.Kind==39):=by
 have h1:stK y.Kind true=true:=zfW h
 have h2:=zbW h
 show(stK y.Kind false&&zat y)=_
 rw[h2,Bool.and_true]
 unfold stK at h1⊢
 simp only[Bool.or_true,Bool.and_true]at h1
 rw[h1,Bool.true_and,Bool.or_false];rfl
section
variable (c:Str->Tok)
structure RA (x:Node):Prop where
 ex:zS x 101=true->RT c x
 st:zS x 115=true->SR c x
 fn:x.Kind=39->zat x=true->FN c x
 cs:x.Kind=37->zat x=true->CS c x
 pr:x.Kind=9->zat x=true->∃a,zCD c x a
 de:x.Kind=23->zat x=true->x=ndN 23 x.Name x.L/\zbN x.Name=true/\(x.L=[]\/∃a,x.L=[a]/\RT c a)
 vd:x.Kind=22->zat x=true->VD c x
 bk:x.Kind=25->zat x=true->BK c x
 em:x.Kind=42->zat x=true->x=nd 42 []
variable {c}
theorem RA.b{x:Node}(h:RA c x)(ho:zS x 98=true):BK c x:=h.bk (eq_of_beq (show(x.Kind==25)=true from zfW ho)) (zbW ho)
theorem RA.item{x:Node}(h:RA c x)(ho:zS x 101=true):RT c x/\x.Kind≠9:=by
 refine⟨h.ex ho,λe=>?_⟩
 have:=(zcG ho).1
 rw[e]at this
 exact absurd this (by decide)
theorem RA.f{x:Node}(h:RA c x)(ho:zS x 102=true):x=nd 42 []\/(zcp x.Kind=true/\RT c x):=by
 have h1:(zcp x.Kind||x.Kind==42)=true:=zfW ho
 rw[yQ]at h1
 rcases h1 with h1|h1
 ·exact .inr ⟨h1,h.ex (by rw[zvI,h1,zbW ho];rfl)⟩
 ·exact .inl (h.em (eq_of_beq h1) (zbW ho))
theorem RA.v{x:Node}(h:RA c x)(ho:zS x 118=true):(x.Kind=42/\x=nd 42 [])\/(x.Kind=22/\VD c x)\/(zcp x.Kind=true/\RT c x):=by
 rcases zBi (zEm ho)with h1|h1|h1
 ·exact .inl ⟨h1,h.em h1 (zbW ho)⟩
 ·exact .inr (.inl ⟨h1,h.vd h1 (zbW ho)⟩)
 ·exact .inr (.inr ⟨(zcG h1).1,h.ex h1⟩)
theorem RA.w{x:Node}(h:RA c x)(ho:zS x 119=true):((x.Kind=22/\VD c x)\/(zcp x.Kind=true/\RT c x))/\zlW x=true:=by
 have h1:(zdr x.Kind||(x.Kind==22&&(match x.L with| [d]=>d.L.isEmpty|_=>false)))=true:=zfW ho
 rw[yQ]at h1
 rcases h1 with h1|h1
 ·have he:zcp x.Kind=true:=by
   simp only[zdr,yQ,beq_iff_eq]at h1
   rcases h1 with(h|h)|h<;>rw[h]<;>rfl
  refine⟨.inr ⟨he,h.ex (by rw[zvI,he,zbW ho];rfl)⟩,?_⟩
  unfold zlW
  rw[(zqO he).2.1];exact h1
 ·rw[qz4]at h1
  refine⟨.inl ⟨eq_of_beq h1.1,h.vd (eq_of_beq h1.1) (zbW ho)⟩,?_⟩
  unfold zlW
  rw[h1.1];exact h1.2
theorem RA.c99{x:Node}(h:RA c x)(ho:zS x 99=true):BK c x\/x=nd 42 []:=by
 rcases zyT ho with⟨_,h1⟩|h1
 ·exact .inl (h.b h1)
 ·exact .inr (h.em h1 (zbW ho))
theorem RA.zQm{x:Node}(h:RA c x)(ho:zS x 120=true):SR c x\/FN c x:=by
 by_cases hk:x.Kind=39
 ·exact .inr (h.fn hk (zbW ho))
 ·refine .inl (h.st ?_)
  rw[zSK ho]
  rw[show(x.Kind==39)=false by rw[yH];exact hk];rfl
variable (C:Cls c)
include C
theorem zVK(x:Node)(hb:zU x<=2097152)(h: ∀k∈x.L,RA c k)(ho:zS x 101=true):RT c x:=by
 obtain⟨he,hm⟩:=zcG ho
 have a2:=zaA x
 have hi: ∀k∈x.L,zS k 101=true->RT c k/\k.Kind≠9:=λk hk h1=>(h k hk).item h1
 rcases zgq he with e|e|e|e|e|e|e|e|e|e|e|e|e|e|e|e|e|e|e|e
 ·rw[zLt e,qz4]at hm;exact zWe C e hm.1 (zgo hm.2)
 ·rw[zLv e,qz4]at hm;exact zWa C e hm.1 (zgo hm.2) (by omega)
 ·rw[zQX e,qz4]at hm;exact zWq C e hm.1 (zgo hm.2)
 ·rw[zVM e,qz4]at hm;exact zWd C e hm.1 (zgo hm.2)
 ·rw[zVC e,qz4]at hm;exact zWw C e hm.1 (zgo hm.2)
 ·rw[zVv e,qz4]at hm;exact zWh C e hm.1 (zgo hm.2)
 ·rw[zLe e,qz4]at hm;exact zWg C e hm.1 λk hk=>hi k hk (zfv hm.2 k hk)
 ·rw[zLn e,qz4]at hm
  exact zWj C e hm.1 λk hk=>(h k hk).pr (eq_of_beq (show(k.Kind==9)=true from zfW (zfv hm.2 k hk))) (zbW (zfv hm.2 k hk))
 ·rw[zIS e,qz4]at hm
  exact zVd C e λr=>zEB C e (.inl rfl) hm.1 (λy hy=>(h y hy).zQm (zfv hm.2 y hy)) r
 ·rw[zCu e,qz4]at hm
  obtain⟨a,hL,h1⟩:=zdw hm.2
  exact zVm C e hm.1 hL ((h a (by rw[hL];simp)).ex h1)
 ·rw[zCG e,qz4]at hm
  obtain⟨a,b,hL,h1,h2⟩:=zdP hm.2
  exact zVF C e hm.1 hL ((h a (by rw[hL];simp)).ex h1) ((h b (by rw[hL];simp)).ex h2)
 ·rw[zHt e,qz4]at hm
  obtain⟨a,l,hL,h1,h2⟩:=zhO hm.2
  exact zV6 C e hm.1 hL ((h a (by rw[hL];simp)).ex h1) λk hk=>(h k (by rw[hL];exact qz8 _ hk)).item (h2 k hk)
 ·rw[zHv e,qz4]at hm
  obtain⟨a,l,hL,h1,h2⟩:=zhO hm.2
  exact zU7 C e hm.1 hL ((h a (by rw[hL];simp)).ex h1) λk hk=>(h k (by rw[hL];exact qz8 _ hk)).item (h2 k hk)
 ·rw[zHS e,qz4]at hm
  obtain⟨a,hL,h1⟩:=zdw hm.2
  exact zVp C e hm.1 hL ((h a (by rw[hL];simp)).ex h1)
 ·rw[zC9 e,qz4]at hm
  obtain⟨a,hL,h1⟩:=zdw hm.2
  exact zVk C e hm.1 hL ((h a (by rw[hL];simp)).ex (zqV h1)) (zfW h1)
 ·rw[zIV e,qz4]at hm
  obtain⟨a,b,hL,h1,h2⟩:=zdP hm.2
  exact zQM C (.inl rfl) e hm.1 hL (by have:=zQ0 e;omega) (λno hi=>zPF e hm.1 no hi) ((h a (by rw[hL];simp)).ex h1) ((h b (by rw[hL];simp)).ex h2)
 ·rw[zCf e,qz4]at hm
  obtain⟨a,b,hL,h1,h2⟩:=zdP hm.2
  exact zQM C (.inr rfl) e hm.1 hL (by have:=zRc e hm.1;omega) (λno _=>zQi e hm.1 no) ((h a (by rw[hL];simp)).ex h1) ((h b (by rw[hL];simp)).ex h2)
 ·rw[zIK e,qz4]at hm
  obtain⟨a,b,d,hL,h1,h2,h3⟩:=zr9 hm.2
  exact zVg C e hm.1 hL ((h a (by rw[hL];simp)).ex h1) ((h b (by rw[hL];simp)).ex h2) ((h d (by rw[hL];simp)).ex h3)
 ·rw[zIG e,qz4]at hm
  obtain⟨a,b,hL,h1,h2⟩:=zdP hm.2
  exact zVP C e hm.1 hL ((h a (by rw[hL];simp)).ex (zqV h1)) ((h b (by rw[hL];simp)).ex h2) (zfW h1)
 ·rw[zHo e,qz4]at hm
  obtain⟨a,b,hL,h1,h2⟩:=zdP hm.2
  exact zU8 C e hm.1 hL ((h a (by rw[hL];simp)).ex h1) ((h b (by rw[hL];simp)).ex h2)
theorem zQV(x:Node)(h: ∀k∈x.L,RA c k)(e:x.Kind=25)(hm:zat x=true):BK c x:=by
 rw[zGM e,qz4]at hm
 exact⟨e,zLC C e hm.1 λy hy=>(h y hy).st (zfv hm.2 y hy)⟩
theorem zQ5(x:Node)(h: ∀k∈x.L,RA c k)(e:x.Kind=22)(hm:zat x=true):VD c x:=by
 rw[zGY e,qz4]at hm
 obtain⟨d,l,hL,h1,h2⟩:=zhO hm.2
 have hk: ∀k∈x.L,zS k 100=true:=by
  rw[hL];intro k hk
  rcases yP.1 hk with rfl|hk
  ·exact h1
  ·exact h2 k hk
 exact⟨zed e hm.1 (by decide) (by decide),⟨d,l,hL⟩,λk hk1=>(h k hk1).de (zAj (hk k hk1)).1 (zbW (hk k hk1))⟩
theorem zVH(x:Node)(h: ∀k∈x.L,RA c k)(ho:zS x 115=true):SR c x:=by
 obtain⟨hm,hK⟩:=zLF (zBT ho)
 have h1:stK x.Kind false=true:=zfW ho
 rcases hK with e|e|e|e|e|e|e|e|e|e|e|e|e|e|e|e|e|e
 ·exact zVA C e (zQ5 C x h e hm)
 ·rw[zHE e,qz4]at hm
  obtain⟨a,hL,h1⟩:=zdw hm.2
  exact zVT C e hm.1 hL ((h a (by rw[hL];simp)).ex h1) h1
 ·exact zVD C (zQV C x h e hm)
 ·rw[zIy e,qz4]at hm
  rcases zK3 hm.2 with⟨a,b,hL,h1,h2⟩| ⟨a,b,d,hL,h1,h2,h3⟩
  ·exact zU9 C e hm.1 hL ((h a (by rw[hL];simp)).ex h1) ((h b (by rw[hL];simp)).b h2)
  ·exact zUa C e hm.1 hL ((h a (by rw[hL];simp)).ex h1) ((h b (by rw[hL];simp)).b h2) ((h d (by rw[hL];simp)).b h3)
 ·rw[zIL e,qz4]at hm
  obtain⟨a,b,hL,h1,h2⟩:=zdP hm.2
  exact zU6 C e hm.1 hL ((h a (by rw[hL];simp)).ex h1) ((h b (by rw[hL];simp)).b h2)
 ·rw[zHM e,qz4]at hm
  obtain⟨a,b,hL,h1,h2⟩:=zdP hm.2
  exact zVX C e hm.1 hL ((h a (by rw[hL];simp)).b h1) ((h b (by rw[hL];simp)).ex h2)
 ·rw[zHI e,qz4]at hm
  obtain⟨a,b,d,q,hL,h1,h2,h3,h4⟩:=zGD hm.2
  exact zVj C e hm.1 hL ((h a (by rw[hL];simp)).v h1) ((h b (by rw[hL];simp)).f h2) ((h d (by rw[hL];simp)).f h3) ((h q (by rw[hL];simp)).b h4)
 ·rw[zGT e,qz4]at hm
  obtain⟨a,b,q,hL,h1,h2,h3⟩:=zr9 hm.2
  obtain⟨w1,w2⟩:=(h a (by rw[hL];simp)).w h1
  exact zVW C e hm.1 hL w1 w2 ((h b (by rw[hL];simp)).ex h2) ((h q (by rw[hL];simp)).b h3)
 ·rw[zGo e,qz4]at hm;exact zQQ C (.inl e) hm.1 (zgo hm.2)
 ·rw[zIr e,qz4]at hm;exact zQQ C (.inr e) hm.1 (zgo hm.2)
 ·rw[zIm e,qz4]at hm
  refine zVE C e hm.1 ?_
  rcases zHn hm.2 with hL| ⟨a,hL,h1⟩
  ·exact .inl hL
  ·exact .inr ⟨a,hL,(h a (by rw[hL];simp)).ex h1⟩
 ·rw[zG0 e,qz4]at hm
  obtain⟨a,hL,h1⟩:=zdw hm.2
  exact zVR C e hm.1 hL ((h a (by rw[hL];simp)).ex h1)
 ·rw[zH9 e,qz4]at hm
  obtain⟨a,b,d,hL,h1,h2,h3,h4⟩:=zHC hm.2
  exact zVN C e hm.1 hL ((h a (by rw[hL];simp)).b h1) ((h b (by rw[hL];simp)).c99 h2) ((h d (by rw[hL];simp)).c99 h3) h4
 ·rw[zHx e,qz4]at hm
  obtain⟨a,l,hL,h1,h2⟩:=zzW hm.2
  exact zVY C e hm.1 hL ((h a (by rw[hL];simp)).ex h1) h2 λk hk=>(h k (by rw[hL];exact qz8 _ hk)).cs (eq_of_beq (show(k.Kind==37)=true from zfW (zrD h2 k hk))) (zbW (zrD h2 k hk))
 ·rw[e]at h1;exact absurd h1 (by decide)
 ·rw[zH1 e,qz4]at hm
  obtain⟨a,hL,h1⟩:=zdw hm.2
  exact zVy C e hm.1 hL ((h a (by rw[hL];simp)).st h1)
 ·rw[e]at h1;exact absurd h1 (by decide)
 ·rw[zIn e,qz4]at hm;exact zVS C e hm.1 (zgo hm.2)
theorem zRp(x:Node)(hb:zU x<=2097152)(h: ∀k∈x.L,RA c k):RA c x:=by
 have a2:=zaA x
 refine⟨zVK C x hb h,zVH C x h,λe hm=>?_,λe hm=>?_,λe hm=>?_,λe hm=>?_,zQ5 C x h,zQV C x h,λe hm=>?_⟩
 ·rw[zGV e,qz4]at hm
  exact⟨by rw[zLi e];rfl,λr=>zEB C e (.inr rfl) hm.1 (λy hy=>(h y hy).zQm (zfv hm.2 y hy)) r⟩
 ·rw[zG4 e,qz4]at hm
  obtain⟨a,l,hL,h1,h2⟩:=zhO hm.2
  exact⟨zed e hm.1 (by decide) (by decide),a,l,hL,(h a (by rw[hL];simp)).f h1,λk hk=>(h k (by rw[hL];exact qz8 _ hk)).st (h2 k hk)⟩
 ·rw[zLS e,qz4]at hm
  obtain⟨a,hL,h1⟩:=zdw hm.2
  have:=zWi e hm.1
  rw[hL]at this
  exact⟨a,this,zss hm.1,by omega,(h a (by rw[hL];simp)).ex h1⟩
 ·have hd:=zAj (d:=x) (by show(x.Kind==23&&zat x)=true;rw[e,hm];rfl)
  rw[zI6 e,qz4]at hm
  refine⟨zlU e hm.1 (by decide),by simpa [zab,e]using(zaO hm.1).1,?_⟩
  rcases hd.2 with hL| ⟨a,hL,h1⟩
  ·exact .inl hL
  ·exact .inr ⟨a,hL,(h a (by rw[hL];simp)).ex h1⟩
 ·rw[zUI e,qz4]at hm
  have:=zed e hm.1 (by decide) (by decide)
  rw[zgo hm.2]at this
  exact this
mutual
theorem zWr: ∀x:Node,zU x<=2097152->RA c x
 | ⟨k,n,m,t,ns,l⟩,hb=>
  have hb2:=zaA ⟨k,n,m,t,ns,l⟩
  zRp C _ hb (zO8 l (by simp only at hb2;omega))
theorem zO8: ∀(l:List Node),zaK l<=2097152->∀q∈l,RA c q
 | [],_,q,hq=>by cases hq
 |x::r,hb,q,hq=>by
  simp only[zaK]at hb
  have hx:=zWr x (by omega)
  rcases yP.1 hq with h|hq
  ·exact h▸hx
  ·exact zO8 r (by omega) q hq
end
def zmN:Tok:=⟨0,[],0,false⟩
theorem zMR(x:Node)(hb:zU x<=2097152)(e:x.Kind=41)(hm:zat x=true):zot true (T c (zaa (tkL x.L))++[zmN]) (x.L,[zmN]):=by
 have a2:=zaA x
 rw[zHL e,qz4]at hm
 exact zv2 C true x.L (λk hk=>((zO8 C x.L (by omega) k hk).zQm (zfv hm.2 k hk)).imp id λq=>⟨rfl,q⟩) [zmN] rfl ⟨rfl,rfl,rfl⟩
theorem zR8{x:Node}(e:x.Kind=41)(hm:zat x=true):x=zVJ x.L:=by
 rw[zHL e,qz4]at hm
 exact zed e hm.1 (by decide) (by decide)
end
def ztF(c:UInt8):Nat:=if c.toNat<58 then c.toNat -48 else c.toNat -87
def zWx(x:UInt8):Nat:=if x=34 then 34 else if x=92 then 92 else if x=98 then 8 else if x=116 then 9 else if x=110 then 10 else if x=102 then 12 else 13
def zPY:Str->Option (Nat×Str)
 | []=>none
 |c::r=>if c=34 then none else if c=92 then(match r with
   | []=>none
   |x::r=>if x=117 then(match r with
     |a::b::e::d::r=>some (ztF a*4096+ztF b*256+ztF e*16+ztF d,r)
     |_=>none)else some (zWx x,r))else some (c.toNat,r)
theorem zte{k:Nat}(h:k<16):ztF (zaW k)=k:=by
 have: ∀k:Fin 16,ztF (zaW k.val)=k.val:=by decide
 exact this ⟨k,h⟩
theorem zJg(n:Nat)(hn:n<65536)(r:Str):zPY (zdo n++r)=some (n,r):=by
 unfold zdo
 split
 ·subst n;rfl
 ·split
  ·subst n;rfl
  ·split
   ·subst n;rfl
   ·split
    ·subst n;rfl
    ·split
     ·subst n;rfl
     ·split
      ·subst n;rfl
      ·split
       ·subst n;rfl
       ·split
        ·show some (ztF _*4096+ztF _*256+ztF _*16+ztF _,r)=_
         rw[zte (by omega),zte (by omega),zte (by omega),zte (by omega)]
         congr 2
         omega
        ·rename_i h1 h2 _ _ _ _ _ h8
         have hn:(UInt8.ofNat n).toNat=n:=by rw[UInt8.toNat_ofNat'];omega
         have e1:UInt8.ofNat n≠34:=λe=>by have:=congrArg UInt8.toNat e;rw[hn]at this;exact h1 this
         have e2:UInt8.ofNat n≠92:=λe=>by have:=congrArg UInt8.toNat e;rw[hn]at this;exact h2 this
         show(if UInt8.ofNat n=34 then none else if UInt8.ofNat n=92 then _ else some ((UInt8.ofNat n).toNat,r))=_
         rw[yK e1,yK e2,hn]
theorem zQn(r:Str):zPY (34::r)=none:=rfl
def zBL:Nat->Str->List Nat×Str
 |0,s=>([],s)
 |n+1,s=>match zPY s with
  |none=>([],s.tail)
  |some (u,r)=>(u::(zBL n r).1,(zBL n r).2)
theorem zBb: ∀(l:List Nat) (n:Nat) (r:Str),(∀u∈l,u<65536)->l.length<n->zBL n (zaP l++34::r)=(l,r)
 | [],n+1,r,_,_=>by show zBL (n+1) (34::r)=_;rw[zBL,zQn];rfl
 |u::l,n+1,r,h,hn=>by
  have e:zaP (u::l)=zdo u++zaP l:=by simp[zaP]
  rw[e,yE,zBL,zJg u (h u qz7)]
  simp only
  rw[zBb l n r (λv hv=>h v (qz8 _ hv)) (by simp only[qz3]at hn;omega)]
theorem zMr(l:List Nat):l.length<=(zaP l).length:=by
 induction l with
 |nil=>simp
 |cons u l ih=>
  have e:zaP (u::l)=zdo u++zaP l:=by simp[zaP]
  have:1<=(zdo u).length:=by
   unfold zdo
   repeat' split
   all_goals simp
  rw[e,qz5,qz3];omega
def zz3(l:List Nat):Str:=l.flatMap λu=>[UInt8.ofNat (u/256),UInt8.ofNat (u%256)]
theorem zAX: ∀s:Str,s.length%2=0->zz3 (zaq s)=s
 | [],_=>rfl
 | [_],h=>by simp at h
 |a::b::r,h=>by
  have ih:=zAX r (by simp only[qz3]at h;omega)
  have e:zz3 (zaq (a::b::r))=[UInt8.ofNat ((a.toNat*256+b.toNat)/256),UInt8.ofNat ((a.toNat*256+b.toNat)%256)]++zz3 (zaq r):=by simp[zz3,zaq]
  have ha:(a.toNat*256+b.toNat)/256=a.toNat:=by have:=b.toNat_lt;omega
  have hb:(a.toNat*256+b.toNat)%256=b.toNat:=by have:=b.toNat_lt;omega
  rw[e,ih,ha,hb];simp
def zIz(s:Str):Nat:=s.foldl (λa c=>a*10+(c.toNat -48)) 0
theorem znv: ∀(k u:Nat),u<k->zIz (Lib.decDigits u)=u/\(∀c∈Lib.decDigits u,zfO c=true)/\Lib.decDigits u≠[]
 |0,u,h=>by omega
 |k+1,u,h=>by
  have hd: ∀d,d<10->(UInt8.ofNat (48+d)).toNat=48+d:=λd hd=>by rw[UInt8.toNat_ofNat'];omega
  have hdig: ∀d,d<10->zfO (UInt8.ofNat (48+d))=true:=λd h=>by unfold zfO;rw[hd d h];simp;omega
  rw[Lib.decDigits]
  split
  ·rename_i hu
   refine⟨?_,?_,by simp⟩
   ·unfold zIz;simp only[List.foldl_cons,List.foldl_nil];rw[hd u hu];omega
   ·intro c hc
    rw[List.mem_singleton.1 hc];exact hdig u hu
  ·rename_i hu
   obtain⟨h1,h2,h3⟩:=znv k (u/10) (by omega)
   refine⟨?_,?_,by simp⟩
   ·unfold zIz at h1⊢
    rw[List.foldl_append,h1]
    simp only[List.foldl_cons,List.foldl_nil]
    rw[hd _ (by omega)];omega
   ·intro c hc
    rcases List.mem_append.1 hc with hc|hc
    ·exact h2 c hc
    ·rw[List.mem_singleton.1 hc];exact hdig _ (by omega)
theorem zoC(n:Int)(h:0<=n):Lib.itoa n=Lib.decDigits n.toNat:=by unfold Lib.itoa;rw[yK (by omega)]
def zw5:Str->Tok
 | []=>⟨5,[],0,false⟩
 |a::r=>if a=34 then⟨4,zz3 (zBL (r.length+1) r).1,0,false⟩
  else if zfO a=true then⟨3,[],((zIz (a::r):Nat):Int),false⟩
  else if isLet a=true then⟨if zwq (a::r)=true then 2 else 1,a::r,0,false⟩
  else⟨5,a::r,0,false⟩
theorem zRU(a:UInt8)(h:isLet a=true):zfO a=false/\a≠34:=by
 unfold isLet at h
 unfold zfO
 simp only[yT]at h
 refine⟨by simp;omega,?_⟩
 rintro rfl
 have e:(34:UInt8).toNat=34:=rfl
 omega
theorem zUD(a:UInt8)(h:zfO a=true):a≠34:=by
 unfold zfO at h
 simp only[yT]at h
 rintro rfl
 have e:(34:UInt8).toNat=34:=rfl
 omega
theorem zLH{s:Str}(h:zfr s=true): ∃a r,s=a::r/\isLet a=true/\∀c∈s,zfY c=true:=by
 rcases s with _| ⟨a,r⟩
 ·cases h
 ·unfold zfr at h
  simp only[qz4,List.all_eq_true]at h
  exact⟨a,r,rfl,h.2.1,h.2.2⟩
theorem zFh{s:Str}(h:zfr s=true):zw5 s=⟨if zwq s=true then 2 else 1,s,0,false⟩:=by
 obtain⟨a,r,rfl,h1,_⟩:=zLH h
 obtain⟨h2,h3⟩:=zRU a h1
 unfold zw5
 simp only
 rw[yK h3,yK (by rw[h2];decide),yL h1]
theorem zz8{s:Str}(he:zhq s=true)(hs:s.length<=100000000):zdk s=34::(zaP (zaq s)++[34]):=by
 have h1:=zop s hs he
 have h2:=zzy s hs he
 rw[h1]at h2
 simp only[Option.some.injEq,Prod.mk.injEq]at h2
 exact h2.1.symm
theorem zGp:Cls zw5 where
 op:=by
  have: ∀w∈zf7,opK (zw5 w)=true/\(zw5 w).text=w:=by decide+kernel
  exact λw hw=>⟨(this w hw).1,(this w hw).2⟩
 name:=λs h=>by
  unfold zbN at h
  rw[qz4]at h
  rw[zFh h.1,show zwq s=false by simpa using h.2]
  exact⟨rfl,rfl⟩
 ident:=λs h=>by
  rw[zFh h]
  refine⟨?_,rfl⟩
  cases zwq s
  ·exact .inl rfl
  ·exact .inr rfl
 num:=λn h1 h2=>by
  obtain⟨d1,d2,d3⟩:=znv (n.toNat+1) n.toNat (by omega)
  rw[zoC n h1]
  cases e:Lib.decDigits n.toNat with
  |nil=>exact absurd e d3
  |cons a r=>
   rw[e]at d1 d2
   have da:=d2 a qz7
   unfold zw5
   simp only
   rw[yK (zUD a da),yL da,d1]
   exact⟨rfl,by show((n.toNat:Nat):Int)=n;omega⟩
 str:=λs he hs=>by
  rw[zz8 he hs]
  have h2:s.length%2=0:=by unfold zhq at he;simpa using he
  have hu: ∀u∈zaq s,u<65536:=λu hu=>zmJ s u hu
  have:=zBb (zaq s) ((zaP (zaq s)++[34]).length+1) [] hu (by have:=zMr (zaq s);rw[qz5];omega)
  unfold zw5
  simp only[yB]
  rw[this]
  exact⟨trivial,zAX s h2⟩
 fresh:=λs=>by
  unfold zw5
  split
  ·rfl
  ·split
   ·rfl
   ·split
    ·rfl
    ·split<;>rfl
 opt:=λs=>by
  unfold zw5
  split
  ·intro _;rfl
  ·split
   ·intro h;exact Bool.noConfusion (show false=true from h)
   ·split
    ·intro h;exact Bool.noConfusion (show false=true from h)
    ·split
     ·intro _;rfl
     ·intro _;rfl
theorem zCn(w:Str)(l:List Str): ∃r,Lib.join (w::l) [32]=w++r/\(l=[]/\r=[]\/l≠[]/\r=32::Lib.join l [32]):=by
 rcases l with _| ⟨v,l⟩
 ·exact⟨[],by rw[Lib.join_one];simp,.inl ⟨rfl,rfl⟩⟩
 ·exact⟨32::Lib.join (v::l) [32],by rw[zLr];rfl,.inr ⟨by simp,rfl⟩⟩
end Go.D08
namespace Go.D08
open Go Go.Gw Go.Dn Go.Proofs
set_option maxRecDepth 100000
theorem zr7{α β γ:Type}(x:PR α)(f:α×zB->PR β)(g:β×zB->PR γ):(x.bd f).bd g=x.bd λp=>(f p).bd g:=by
 cases x with
 |none=>rfl
 |some p=>cases p<;>rfl
theorem zBg{β γ:Type}(x:PR Unit)(f:zB->PR β)(g:β×zB->PR γ):(x.bn f).bd g=x.bn λp=>(f p).bd g:=zr7 x (λq=>f q.2) g
theorem zKY(i:Int)(h1:0<=i)(h2:i<=9007199254740991):(Lib.itoa i).length<=21:=Lib.itoa_length_le i (by omega) (by omega)
theorem itoa_ascii(i:Int)(h1:0<=i): ∀b∈Lib.itoa i,b<128:=by
 rw[zoC i h1]
 intro b hb
 have:=(znv (i.toNat+1) i.toNat (by omega)).2.1 b hb
 have h2:=of_decide_eq_true this
 have h3:b.toNat<=57:=h2.2
 show b.toNat<128
 omega
theorem zOK(s:Str):(wide s).length=2*s.length:=by
 induction s with
 |nil=>rfl
 |cons c s ih=>unfold wide at ih⊢;rw[List.flatMap_cons,qz5,ih];simp;omega
theorem zNL(s:Str)(c:UInt8):wide (s++[c])=wide s++[0,c]:=by simp[wide]
theorem zKv(s:Str)(hs:s.length<=1000000000)(h128: ∀b∈s,b<128): ∀(b a:Str),s=a++b->
  zaF zjJ (b.length+1) (s,((s.length:Nat):Int),((a.length:Nat):Int),wide a++List.replicate (2*b.length) 0,())=some (wide s,0,())
 | [],a,h=>by
  refine zaJ ?_
  obtain rfl:s=a:=by rw[h];simp
  have hc: ¬(((s.length:Nat):Int)< ((s.length:Nat):Int)):=by omega
  simp only[zjJ,hc,decide_false,qz2,yA,qz6,Nat.mul_zero,List.replicate_zero,List.append_nil]
 |c::b,a,h=>by
  have hlen:s.length=a.length+(b.length+1):=by rw[h];simp
  have hc:((a.length:Nat):Int)< ((s.length:Nat):Int):=by omega
  have hb:c<128:=h128 c (by rw[h];simp)
  have hget:s[a.length]? =some c:=by rw[h];simp
  have hlt: ¬(((c.toNat:Nat):Int)>=128):=by
   have:c.toNat<128:=hb
   omega
  have w1:IntKind.wrap .i64 (2*((a.length:Nat):Int))=((2*a.length:Nat):Int):=by rw[wrap_i64 (by omega) (by omega)];omega
  have w2:IntKind.wrap .i64 (((2*a.length:Nat):Int)+1)=((2*a.length+1:Nat):Int):=by rw[wrap_i64 (by omega) (by omega)];omega
  have w3:IntKind.wrap .i64 (((a.length:Nat):Int)+1)=((a.length+1:Nat):Int):=by rw[wrap_i64 (by omega) (by omega)];omega
  have hrow:wide a++List.replicate (2*(b.length+1)) (0:UInt8)=(wide a++[0])++0::List.replicate (2*b.length) 0:=by
   rw[show 2*(b.length+1)=2*b.length+1+1 by omega,List.replicate_succ,List.replicate_succ];simp
  have hl1:(wide a++[0]).length=2*a.length+1:=by rw[qz5,zOK];rfl
  have hg: ∀x,zN ((wide a++[0])++x::List.replicate (2*b.length) (0:UInt8)) ((2*a.length+1:Nat):Int)=some x:=λx=>by
   rw[zjh,<-hl1];simp
  have hset:((wide a++[0])++0::List.replicate (2*b.length) (0:UInt8)).set (((2*a.length+1:Nat):Int)).toNat c=wide (a++[c])++List.replicate (2*b.length) 0:=by
   rw[Int.toNat_natCast,<-hl1,zNL];simp
  have hto:zLy ((c.toNat:Nat):Int)=some c:=by rw[zRQ,zOn (by omega) (zVq c)];simp
  have hstep:zjJ (s,((s.length:Nat):Int),((a.length:Nat):Int),wide a++List.replicate (2*(b.length+1)) 0,())=some (.inl (s,((s.length:Nat):Int),(((a++[c]).length:Nat):Int),wide (a++[c])++List.replicate (2*b.length) 0,())):=by
   simp only[zjJ,hc,decide_true,yB,zmf,hget,Option.map_some,qz1,hlt,decide_false,qz2,yA,w1,w2,w3,hrow,hg,hto,hset]
   rw[qz5];rfl
  rw[qz3,zbT hstep]
  exact zKv s hs h128 b (a++[c]) (by rw[h];simp)
theorem zoa(s:Str)(hs:s.length<=1000000000)(h128: ∀b∈s,b<128):zom s=some (wide s,0,()):=by
 unfold zom
 have w1:IntKind.wrap .i64 (2*((s.length:Nat):Int))=((2*s.length:Nat):Int):=by rw[wrap_i64 (by omega) (by omega)];omega
 simp only[w1]
 rw[show zDc ((2*s.length:Nat):Int)=some (2*s.length) by unfold zDc;rw[yL (by omega),Int.toNat_natCast]]
 simp only[qz1]
 exact zdu (zKv s hs h128 s [] rfl) (by omega)
section
variable {α β γ δ ρ σ:Type} {L0 L:List zu} {no:Bool} {E':Int->σ->Prop} {O':β->List zu->σ->Prop}
theorem zTX(ok:TL L0 L):SG L0 ER (OL no) (zjc (pp L no)) (zDA (L.map tk)):=by
 obtain⟨x,r,rfl⟩:=ok.ok.cons
 have k4:=zhb ok 4
 have k3:=zhb ok 3
 have k1:=zhb ok 1
 have k2:=zhb ok 2
 rw[show((4:Nat):Int)=4 from rfl]at k4
 rw[show((3:Nat):Int)=3 from rfl]at k3
 rw[show((1:Nat):Int)=1 from rfl]at k1
 rw[show((2:Nat):Int)=2 from rfl]at k2
 have tl: ∀{k:Nat},(zX ((x::r).map tk)==k)=true->k≠0->TL L0 r:=λh hk=>ok.tail (zcR h hk)
 have tx:=ok.ok.texts x qz7
 have asc:=ok.ok.ascii x qz7
 have num:=ok.ok.nums x qz7
 unfold zjc
 simp only[zQ,zdH,qz1,k4,k3,k1,k2]
 show SG _ _ _ _ (if(zX ((x::r).map tk)==4)=true then gt (x.Text,r.map tk)else if(zX ((x::r).map tk)==3)=true then gt (wide (Lib.itoa x.Num),r.map tk)else if(zX ((x::r).map tk)==1||zX ((x::r).map tk)==2)=true then gt (wide x.Text,r.map tk)else bad ((x::r).map tk))
 cases h4:zX ((x::r).map tk)==4 with
 |true=>
  simp only[yB]
  exact .take ok (zcR h4 (by decide)) λa ha ok1=> .gt ok1 rfl
 |false=>
  simp only[qz2,yA]
  cases h3:zX ((x::r).map tk)==3 with
  |true=>
   simp only[yB]
   have e3:x.Kind=3:=eq_of_beq (k3.trans h3)
   rw[fmt10 x.Num (num e3).1 (num e3).2]
   simp only[qz1]
   refine .take ok (zcR h3 (by decide)) λa ha ok1=>?_
   simp only
   rw[zoa (Lib.itoa x.Num) (by have:=zKY x.Num (num e3).1 (num e3).2;omega) (itoa_ascii x.Num (num e3).1)]
   exact .gt ok1 rfl
  |false=>
   simp only[qz2,yA]
   cases h1:zX ((x::r).map tk)==1 with
   |true=>
    simp only[Bool.true_or,yB]
    have e1:x.Kind=1:=eq_of_beq (k1.trans h1)
    refine .take ok (zcR h1 (by decide)) λa ha ok1=>?_
    simp only
    rw[zoa x.Text (by omega) (asc (.inl e1))]
    exact .gt ok1 rfl
   |false=>
    simp only[qz2,yA,Bool.false_or]
    cases h2:zX ((x::r).map tk)==2 with
    |true=>
     simp only[yB]
     have e2:x.Kind=2:=eq_of_beq (k2.trans h2)
     refine .take ok (zcR h2 (by decide)) λa ha ok1=>?_
     simp only
     rw[zoa x.Text (by omega) (asc (.inr e2))]
     exact .gt ok1 rfl
    |false=>
     simp only[qz2,yA]
     exact .fail ok λa=>⟨_,rfl,_,rfl⟩
end
section
variable {L0 L:List zu} {no:Bool} {n M:Nat} (H: ∀k,k<=n->∀N,20*k+20<=N->zwh L0 (RG N) (pG k)) (hn:n<=10000000000) (hM:20*n+30<=M)
include H hn hM
theorem zQD(l:List Node)(hl:l.length<=20000000000)(ok:TL L0 L):SG L0 EL (λ(v:Node) L' r=>r= .inr (pp L' no,8,[],0,[],[],l++[v],())) ((RG M).zdc (pp L no) 8 [] 0 [] [] l)
  ((zDA (L.map tk)).bd λk=>(zaC [58] k.2).bn λt1=>((pG n).assign no t1).bd λx=>gt (⟨9,[],0,k.1,[],[x.1]⟩,x.2)):=by
 obtain⟨M,rfl⟩: ∃k,M=k+1:=⟨M -1,by omega⟩
 show SG _ _ _ (zf2 (RG M) (pp L no) 8 [] 0 [] [] l) _
 unfold zf2
 simp only[zQ,zq,zgR]
 refine .r (zTX ok) (λ_ _=>⟨_,rfl,_,rfl⟩) λk L1 ok1=>?_
 refine .need ok1 (λ_ _=>⟨_,rfl,_,rfl⟩) λL2 ok2=>?_
 refine .r ((H n (yJ _) M (by omega)).assign no L2 ok2) (λ_ _=>⟨_,rfl,_,rfl⟩) λv L3 ok3=>?_
 simp only[qz3,qz6,Nat.zero_add]
 rw[zd0 (by omega)]
 simp only[qz1,zHQ,zKK]
 exact .gt ok3 rfl
theorem zKi: ∀(k m:Nat),k<=n+1->k<=m->∀(l:List Node) (L:List zu),l.length+k<=n+1->TL L0 L->
  SG L0 EL (λ(v:List Node) L' r=>r= .inr (pp L' false,[125],8,[],0,[],[],l++v,true,())) (zaF (zdl (RG M)) m (pp L false,[125],8,[],0,[],[],l,true,())) ((pG k).props (L.map tk))
 |0,m,_,_,l,L,_,ok=>trivial
 |k+1,0,_,hm,l,L,_,ok=>by omega
 |k+1,m+1,hk,hm,l,L,hl,ok=>by
  show SG _ _ _ _ (zhS (pG k) (L.map tk))
  have e:zhS (pG k) (L.map tk)=if tIs [125] (L.map tk)=true then gt ([],(L.map tk).tail)else
    ((zDA (L.map tk)).bd λk'=>(zaC [58] k'.2).bn λt1=>((pG k).assign false t1).bd λx=>gt ((⟨9,[],0,k'.1,[],[x.1]⟩:Node),x.2)).bd λx=>
     if tIs [125] x.2=true then gt ([x.1],x.2.tail)else(zaC [44] x.2).bn λt2=>((pG k).props t2).bd λl=>gt (x.1::l.1,l.2):=by
   unfold zhS
   simp only[zr7,zBg,zee]
  have ih:=λl L hl ok=>zKi k m (by omega) (by omega) l L hl ok
  rw[e,zfM]
  generalize zaF (zdl (RG M)) m=W at ih⊢
  unfold zdl
  simp only[zQ]
  refine .assoc (.has ok (λh ok1=>?_) λh=>?_)
  ·simp only[yO,qz2,yA]
   exact .gt' ok1 (by rw[yM]) (by simp)
  ·simp only[yN,yB]
   refine .assoc ((zQD (no:=false) (λj hj=>H j (by omega)) (by omega) (by omega) l (by omega) ok).gen (by rintro a _ ⟨y,rfl⟩;exact⟨_,rfl,_,rfl⟩) ?_)
   rintro x L1 _ _ ok1 rfl
   refine .assoc (.has ok1 (λh ok2=>?_) λh=>?_)
   ·simp only[yB]
    exact .gt' ok2 (by rw[yM]) rfl
   ·simp only[qz2,yA]
    refine .assoc (.need ok1 (λ_ _=>⟨_,rfl,_,rfl⟩) λL2 ok2=>?_)
    simp only[yO,qz2,yA]
    exact(ih (l++[x]) L2 (by rw[qz5];simp only[qz3,qz6];omega) ok2).map (λv=>x::v) (by rintro v L' _ rfl;simp)
theorem zO1(h9:20*n+39<=M)(ok:TL L0 L):SG L0 EL (λ(l:List Node) L' r=>r= .inr (pp L' no,8,[],0,[],[],l,())) (zfR (RG M) [125] true (pp L no) 8 [] 0 [] [] []) (zhS (pG n) (L.map tk)):=by
 obtain⟨M,rfl⟩: ∃k,M=k+2:=⟨M -2,by omega⟩
 show SG _ _ _ _ ((pG (n+1)).props (L.map tk))
 have h1:SG L0 EL (λ(v:List Node) L' r=>r= .inr (pp L' false,[125],8,[],0,[],[],v,true,())) (zeG (RG M) (pp L false) [125] 8 [] 0 [] [] [] true) ((pG (n+1)).props (L.map tk)):=by
  unfold zeG
  simp only[zQ]
  exact .loop (zKi H hn (by omega) (n+1) 1000000000000 (yJ _) (by omega) [] L (by simp) ok) (yJ _)
 have h2:SG L0 EL (λ(v:List Node) L' r=>r= .inr (pp L' no,[125],8,[],0,[],[],v,true,())) (zeN (RG (M+1)) (pp L no) [125] 8 [] 0 [] [] [] true) ((pG (n+1)).props (L.map tk)):=by
  unfold zeN
  simp only[zQ]
  exact h1.same (by rintro a _ ⟨y,rfl⟩;exact⟨_,rfl,_,rfl⟩) (by rintro v L' _ _ rfl;exact⟨_,rfl,rfl⟩)
 unfold zfR
 simp only[zQ]
 exact h2.same (by rintro a _ ⟨y,rfl⟩;exact⟨_,rfl,_,rfl⟩) (by rintro v L' _ _ rfl;exact⟨_,rfl,rfl⟩)
theorem zSo(h9:20*n+35<=M)(ok:TL L0 L)(h1:(zX (L.map tk)==1)=false)(h3:(zX (L.map tk)==3)=false)(h4:(zX (L.map tk)==4)=false):SG L0 ER (OL no) ((RG M).zdU (pp L no)) (zdX (pG n) (L.map tk)):=by
 obtain⟨M,rfl⟩: ∃k,M=k+1:=⟨M -1,by omega⟩
 have S:=H n (yJ _) M (by omega)
 show SG _ _ _ (zhr (RG M) (pp L no)) _
 unfold zhr zdX
 simp only[zQ,zq,h1,h3,h4,qz2,yA]
 refine .has ok (λh ok1=> .gt' ok1 (by rw[yM]) rfl) λh=>?_
 simp only[qz2,yA]
 refine .has ok (λh ok1=> .gt' ok1 (by rw[yM]) rfl) λh=>?_
 simp only[qz2,yA]
 refine .has ok (λh ok1=> .gt' ok1 (by rw[yM]) rfl) λh=>?_
 simp only[qz2,yA]
 refine .has ok (λh ok1=> .gt' ok1 (by rw[yM]) rfl) λh=>?_
 simp only[qz2,yA]
 refine .has ok (λh ok1=>?_) λh=>?_
 ·simp only[yB]
  rw[<-yM]
  exact .ll (S.func no 10 _ ok1) (λ_ _=>⟨_,rfl,_,rfl⟩) λv L'=>⟨_,rfl,rfl⟩
 simp only[qz2,yA]
 refine .has ok (λh ok1=>?_) λh=>?_
 ·simp only[yB]
  rw[<-yM]
  refine(zOZ H hn (by omega) ok1).gen (by rintro a _ ⟨y,rfl⟩;exact⟨_,rfl,_,rfl⟩) ?_
  rintro y L3 _ _ ok3 rfl
  exact .need ok3 (λ_ _=>⟨_,rfl,_,rfl⟩) λL4 ok4=> .gt ok4 rfl
 simp only[qz2,yA]
 refine .has ok (λh ok1=>?_) λh=>?_
 ·simp only[yB]
  rw[<-yM]
  exact .r (S.exprs no _ _ _ ok1) (λ_ _=>⟨_,rfl,_,rfl⟩) λl L4 ok4=> .gt ok4 rfl
 simp only[qz2,yA]
 refine .has ok (λh ok1=>?_) λh=>?_
 ·simp only[yB]
  rw[<-yM]
  refine(S.props no _ ok1).gen (by rintro a _ ⟨y,rfl⟩;exact⟨_,rfl,_,rfl⟩) ?_
  rintro l L3 _ _ ok3 rfl
  exact .gt ok3 rfl
 simp only[qz2,yA]
 exact .fail ok λa=>⟨_,rfl,_,rfl⟩
theorem zSW(h9:20*n+39<=M)(ok:TL L0 L):SG L0 ER (OL no) (zfS (RG M) (pp L no)) (zdX (pG n) (L.map tk)):=by
 have hs:=zSo (no:=no) H hn hM (by omega) ok
 obtain⟨x,r,rfl⟩:=ok.ok.cons
 have k4:=zhb ok 4
 have k3:=zhb ok 3
 have k1:=zhb ok 1
 rw[show((4:Nat):Int)=4 from rfl]at k4
 rw[show((3:Nat):Int)=3 from rfl]at k3
 rw[show((1:Nat):Int)=1 from rfl]at k1
 unfold zfS
 simp only[zQ,zq,zdH,qz1,k4,k3,k1]
 cases h1:zX ((x::r).map tk)==1 with
 |true=>
  unfold zdX
  simp only[h1,yB]
  exact .take ok (zcR h1 (by decide)) λa ha ok1=> .gt ok1 rfl
 |false=>
  simp only[qz2,yA]
  cases h3:zX ((x::r).map tk)==3 with
  |true=>
   unfold zdX
   simp only[h1,h3,yB,qz2,yA]
   exact .take ok (zcR h3 (by decide)) λa ha ok1=> .gt ok1 rfl
  |false=>
   simp only[qz2,yA]
   cases h4:zX ((x::r).map tk)==4 with
   |true=>
    unfold zdX
    simp only[h1,h3,h4,yB,qz2,yA]
    exact .take ok (zcR h4 (by decide)) λa ha ok1=> .gt ok1 rfl
   |false=>
    simp only[qz2,yA]
    exact .rr (hs h1 h3 h4) (λ_ _=>⟨_,rfl,_,rfl⟩) λv L'=>⟨_,rfl,rfl⟩
end
theorem zMv{t:zB}(w:Wf t):zfD t=if tIs [41] t=true then gt ([],t.tail)else if(zX t==1)=true then
  (if tIs [41] t.tail=true then gt ([tText t],t.tail.tail)else(zaC [44] t.tail).bn λt'=>if tIs [41] t'=true then bad t' else(zfD t').bd λl=>gt (tText t::l.1,l.2))else bad t:=by
 unfold zfD
 by_cases h:tIs [41] t=true
 ·rw[yL h,yL h]
 ·rw[yK h,yK h]
  match t,w with
  | [],w=>exact absurd w.pos (by simp)
  | [a],w=>
   have h0:a.kind=0:=by
    obtain⟨p,e,h1,h2,_⟩:=w
    cases p with
    |nil=>simp at h1;rw[h1];exact h2
    |cons x p=>simp at h1
   have:(zX [a]==1)=false:=by show(a.kind==1)=false;rw[h0];rfl
   rw[this]
   rfl
  |a::b::r,w=>
   rw[zjy]
   by_cases h1:(a.kind==1)=true
   ·rw[yL h1,yL (show(zX (a::b::r)==1)=true from h1)]
    by_cases h2:tIs [41] (b::r)=true
    ·rw[yL h2,yL (show tIs [41] (a::b::r).tail=true from h2)];rfl
    ·rw[yK h2,yK (show ¬tIs [41] (a::b::r).tail=true from h2)]
     unfold zaC
     by_cases h3:tIs [44] (b::r)=true
     ·rw[yL h3,yL (show tIs [44] (a::b::r).tail=true from h3)]
      show(if tIs [41] r=true then _ else _)=(if tIs [41] r=true then _ else _)
      by_cases h4:tIs [41] r=true
      ·rw[yL h4,yL h4];rfl
      ·rw[yK h4,yK h4]
       show(zjy r).bd _=(if tIs [41] r=true then gt ([],r.tail)else zjy r).bd _
       rw[yK h4];rfl
     ·rw[yK h3,yK (show ¬tIs [44] (a::b::r).tail=true from h3)];rfl
   ·rw[yK h1,yK (show ¬(zX (a::b::r)==1)=true from h1)]
theorem TOk.wf{L:List zu}(h:TOk L):Wf (L.map tk):=by
 obtain⟨a,e,h1,h2,h3⟩:=h.last
 refine⟨a.map tk,tk e,by rw[h1];simp,by unfold tk;rw[h2];rfl,λx hx=>?_⟩
 obtain⟨y,hy,rfl⟩:=List.mem_map.1 hx
 have h4:=h3 y hy
 have h5:=(h.kinds y (by rw[h1];exact List.mem_append_left _ hy)).1
 show y.Kind.toNat≠0
 omega
section
variable {L0 L:List zu} {no:Bool}
theorem zKm(kd:Int)(nm:Str): ∀(m:Nat) (L:List zu) (l:List Str),L.length<m->l.length+L.length<=20000000000->TL L0 L->
  SG L0 EL (λ(v:List Str) L' r=>r= .inr (pp L' false,[41],kd,nm,0,[],l++v,[],false,())) (zaF zd8 m (pp L false,[41],kd,nm,0,[],l,[],false,())) (zfD (L.map tk))
 |0,L,l,hm,_,_=>by omega
 |m+1,L,l,hm,hl,ok=>by
  have ih:=λL l hm hl ok=>zKm kd nm m L l hm hl ok
  rw[zMv ok.ok.wf,zfM]
  generalize zaF zd8 m=W at ih⊢
  unfold zd8 zhA
  simp only[zQ]
  refine .assoc (.has ok (λh ok1=>?_) λh=>?_)
  ·simp only[yO,qz2,yA]
   exact .gt' ok1 (by rw[yM]) (by simp)
  ·simp only[yN,yB]
   refine .assoc (.assoc (.name ok (λ_ _=>⟨_,rfl,_,rfl⟩) λhk ok1=>?_))
   have hlen:L.tail.length+1=L.length:=by
    obtain⟨x,r,rfl⟩:=ok.ok.cons;rfl
   simp only[qz3,qz6,Nat.zero_add]
   rw[zd0 (by omega)]
   simp only[qz1]
   rw[<-yM,<-yM]
   refine .assoc (.has ok1 (λh ok2=>?_) λh=>?_)
   ·simp only[yB]
    exact .gt' ok2 rfl rfl
   ·simp only[qz2,yA]
    refine .assoc (.need' ok1 (λ_ _=>⟨_,rfl,_,rfl⟩) λL2 ok2 hl2=>?_)
    simp only[yN,yB]
    refine .assoc (.is ok2 (λh=>?_) λh=>?_)
    ·simp only[yB]
     exact .assoc (.fail ok2 λa=>⟨_,rfl,_,rfl⟩)
    ·simp only[qz2,yA]
     exact(ih L2 (l++[tText (L.map tk)]) (by omega) (by rw[qz5];simp only[qz3,qz6];omega) ok2).map (λv=>tText (L.map tk)::v) (by rintro v L' _ rfl;simp)
theorem zQu(kd:Int)(nm:Str)(ok:TL L0 L)(hlen:L.length<=10000000000):SG L0 EL (λ(v:List Str) L' r=>r= .inr (pp L' no,kd,nm,0,[],v,[],())) (zin [41] false (pp L no) kd nm 0 [] [] []) (zfD (L.map tk)):=by
 have h1:SG L0 EL (λ(v:List Str) L' r=>r= .inr (pp L' false,[41],kd,nm,0,[],v,[],false,())) (zhu (pp L false) [41] kd nm 0 [] [] [] false) (zfD (L.map tk)):=by
  unfold zhu
  simp only[zQ]
  exact .loop (zKm kd nm (L.length+1) L [] (by omega) (by simp;omega) ok) (by omega)
 have h2:SG L0 EL (λ(v:List Str) L' r=>r= .inr (pp L' no,[41],kd,nm,0,[],v,[],false,())) (zhh (pp L no) [41] kd nm 0 [] [] [] false) (zfD (L.map tk)):=by
  unfold zhh
  simp only[zQ]
  exact h1.same (by rintro a _ ⟨y,rfl⟩;exact⟨_,rfl,_,rfl⟩) (by rintro v L' _ _ rfl;exact⟨_,rfl,rfl⟩)
 unfold zin
 simp only[zQ]
 exact h2.same (by rintro a _ ⟨y,rfl⟩;exact⟨_,rfl,_,rfl⟩) (by rintro v L' _ _ rfl;exact⟨_,rfl,rfl⟩)
end
section
variable {L0 L:List zu} {no:Bool} {n M:Nat} (H: ∀k,k<=n->∀N,20*k+20<=N->zwh L0 (RG N) (pG k)) (hn:n<=10000000000) (hM:20*n+30<=M) (h0:L0.length<=10000000000)
include H hn hM
theorem zO9(k:Int)(nm:Str)(ns:List Str)(ok:TL L0 L):SG L0 ER (λ(v:List Node) L' r=>r= .inl (pp L' no,k,nm,0,[],v,ns,[],())) ((RG M).zcw (pp L no) k nm 0 [] ns []) ((pG n).stmts true (L.map tk)):=by
 obtain⟨M,rfl⟩: ∃k,M=k+2:=⟨M -2,by omega⟩
 have h1:SG L0 ER (λ(v:List Node) L' r=>r= .inl (pp L' false,k,nm,0,[],v,ns,[],())) (zez (RG M) (pp L false) k nm 0 [] ns []) ((pG n).stmts true (L.map tk)):=by
  unfold zez
  simp only[zQ,zq]
  exact .rr ((H n (yJ _) M (by omega)).stmts true L ok) (λ_ _=>⟨_,rfl,_,rfl⟩) λv L'=>⟨_,rfl,rfl⟩
 show SG _ _ _ (ze5 (RG (M+1)) (pp L no) k nm 0 [] ns []) _
 unfold ze5
 simp only[zQ,zq]
 exact h1.same (by rintro a _ ⟨y,rfl⟩;exact⟨_,rfl,_,rfl⟩) (by rintro v L' _ _ rfl;exact⟨_,rfl,rfl⟩)
include h0 in
theorem zOT(k:Int)(nm:Str)(ok:TL L0 L):SG L0 EL (OR no) (zdB (RG M) (pp L no) 0 [] 0 [] k nm 0 [] [] [] [] [])
  ((zaC [40] (L.map tk)).bn λt=>(zfD t).bd λns=>(zaC [123] ns.2).bn λt=>((pG n).stmts true t).bd λl=>(zaC [125] l.2).bn λt=>gt (⟨k,nm,0,[],ns.1,l.1⟩,t)):=by
 unfold zdB zg7 zg3 zgU
 simp only[zQ,zq]
 refine .need ok (λ_ _=>⟨_,rfl,_,rfl⟩) λL1 ok1=>?_
 refine(zQu (no:=no) k nm ok1 (by have:=ok1.suf.length_le;omega)).gen (by rintro a _ ⟨y,rfl⟩;exact⟨_,rfl,_,rfl⟩) ?_
 rintro ns L2 _ _ ok2 rfl
 refine .need ok2 (λ_ _=>⟨_,rfl,_,rfl⟩) λL3 ok3=>?_
 refine(zO9 (no:=no) H hn hM k nm ns ok3).gen (by rintro a _ ⟨y,rfl⟩;exact⟨_,rfl,_,rfl⟩) ?_
 rintro l L4 _ _ ok4 rfl
 exact .need ok4 (λ_ _=>⟨_,rfl,_,rfl⟩) λL5 ok5=> .gt ok5 rfl
include h0 in
theorem zSM(k:Int)(ok:TL L0 L):SG L0 EL (OR no) (zfo (RG M) k (pp L no)) (zta (pG n) k (L.map tk)):=by
 obtain⟨x,r,rfl⟩:=ok.ok.cons
 have hk:=zhb ok 1
 rw[show((1:Nat):Int)=1 from rfl]at hk
 have h1:=λ(L1:List zu) nm ok1=>zOT (no:=no) (L:=L1) H hn hM h0 k nm ok1
 unfold zfo zta
 simp only[zQ,zq,zdH,qz1,hk]
 cases h39:k==39 with
 |true=>
  simp only[yB,qz1]
  have e: ∀(f:Str×zB->PR Node),((if(zX ((x::r).map tk)==1)=true then gt (tText ((x::r).map tk),((x::r).map tk).tail)else bad ((x::r).map tk)).bd f)=if(zX ((x::r).map tk)==1)=true then f (tText ((x::r).map tk),((x::r).map tk).tail)else bad ((x::r).map tk):=λf=>by split<;>rfl
  rw[e]
  refine .name ok (λ_ _=>⟨_,rfl,_,rfl⟩) λhk ok1=>?_
  rw[<-yM]
  exact h1 _ _ ok1
 |false=>
  simp only[qz2,yA,qz1]
  cases hk1:zX ((x::r).map tk)==1 with
  |true=>
   simp only[yB]
   have e: ∀(f:Str×zB->PR Node),((Go.D08.gt (tText ((x::r).map tk),((x::r).map tk).tail)).bd f)=if(zX ((x::r).map tk)==1)=true then f (tText ((x::r).map tk),((x::r).map tk).tail)else bad ((x::r).map tk):=λf=>by rw[yL hk1];rfl
   rw[e]
   refine .name ok (λ_ _=>⟨_,rfl,_,rfl⟩) λhk ok1=>?_
   rw[<-yM]
   exact h1 _ _ ok1
  |false=>
   simp only[qz2,yA,zee]
   exact h1 _ _ ok
theorem zKE: ∀(k m:Nat),k<=n+1->k<=m->∀(l:List Node) (L:List zu),l.length+k<=n+1->TL L0 L->
  SG L0 EL (λ(v:List Node) L' r=>r= .inr (nd 22 (l++v),pp L' no,())) (zaF (ze0 (RG M)) m (pp L no,0,[],0,[],22,[],0,[],[],[],[],l,())) ((pG k).vars no (L.map tk))
 |0,m,_,_,l,L,_,ok=>trivial
 |k+1,0,_,hm,l,L,_,ok=>by omega
 |k+1,m+1,hk,hm,l,L,hl,ok=>by
  have ih:=λl L hl ok=>zKE k m (by omega) (by omega) l L hl ok
  show SG _ _ _ _ (znc (pG k) no (L.map tk))
  rw[zfM]
  generalize zaF (ze0 (RG M)) m=W at ih⊢
  have fin: ∀(d:List Node) (L1:List zu),TL L0 L1->SG L0 EL (λ(v:List Node) L' r=>r= .inr (nd 22 (l++v),pp L' no,()))
    ((zeS (RG M) (pp L1 no) 0 [] 0 [] 22 [] 0 [] 23 (tText (L.map tk)) 0 [] [] [] [] l [] d).bind (zHu W))
    (if tIs [44] (L1.map tk)=true then((pG k).vars no (L1.map tk).tail).bd λq=>gt (ndN 23 (tText (L.map tk)) d::q.1,q.2)else gt ([ndN 23 (tText (L.map tk)) d],L1.map tk)):=λd L1 ok1=>by
   unfold zeS ziZ
   simp only[zQ,qz3,qz6,Nat.zero_add]
   rw[zd0 (by omega)]
   simp only[qz1]
   refine .assoc (.has ok1 (λh ok2=>?_) λh=>?_)
   ·simp only[yO,qz2,yA]
    rw[<-yM]
    exact(ih (l++[ndN 23 (tText (L.map tk)) d]) _ (by rw[qz5];simp only[qz3,qz6];omega) ok2).map (λv=>ndN 23 (tText (L.map tk)) d::v) (by rintro v L' _ rfl;simp)
   ·simp only[yN,yB]
    exact .gt ok1 rfl
  unfold znc
  unfold ze0
  simp only[zQ,zq]
  refine .assoc (.name ok (λ_ _=>⟨_,rfl,_,rfl⟩) λhk1 ok1=>?_)
  have e: ∀(f:List Node×zB->PR (List Node)),((if tIs [61] (L.map tk).tail=true then((pG k).assign no (L.map tk).tail.tail).bd λy=>Go.D08.gt ([y.1],y.2)else Go.D08.gt ([],(L.map tk).tail)).bd f)=
    if tIs [61] (L.tail.map tk)=true then((pG k).assign no (L.tail.map tk).tail).bd λy=>f ([y.1],y.2)else f ([],L.tail.map tk):=λf=>by
   rw[yM]
   split
   ·rw[zr7];rfl
   ·rfl
  rw[e]
  refine .assoc (.has ok1 (λh ok2=>?_) λh=>?_)
  ·simp only[yB]
   rw[<-yM]
   refine .assoc (.r ((H k (by omega) M (by omega)).assign no _ ok2) (λ_ _=>⟨_,rfl,_,rfl⟩) λy L3 ok3=>?_)
   exact fin [y] L3 ok3
  ·simp only[qz2,yA]
   exact fin [] _ ok1
theorem zTb(ok:TL L0 L):SG L0 EL (λl L' r=>r= .inr (nd 22 l,pp L' no,())) (zhp (RG M) (pp L no)) (znc (pG n) no (L.map tk)):=by
 unfold zhp
 simp only[zQ]
 exact .loop (zKE H hn hM (n+1) 1000000000000 (yJ _) (by omega) [] L (by simp) ok) (yJ _)
theorem zOy(ok:TL L0 L):SG L0 EL (OR false) (zgx (RG M) (pp L false)) (zly (pG n) (L.map tk)):=by
 unfold zgx zly
 simp only[zQ,zq,zgR]
 refine .need ok (λ_ _=>⟨_,rfl,_,rfl⟩) λL1 ok1=>?_
 refine .r ((H n (yJ _) M (by omega)).stmts false L1 ok1) (λ_ _=>⟨_,rfl,_,rfl⟩) λl L2 ok2=>?_
 exact .need ok2 (λ_ _=>⟨_,rfl,_,rfl⟩) λL3 ok3=> .gt ok3 rfl
theorem zSm(ok:TL L0 L):SG L0 EL (OR false) (zhi (RG M) (pp L false)) (ztn (pG n) (L.map tk)):=by
 unfold zhi ztn
 simp only[zQ,zq,zgR]
 refine .need ok (λ_ _=>⟨_,rfl,_,rfl⟩) λL1 ok1=>?_
 refine .r ((H n (yJ _) M (by omega)).expr false L1 ok1) (λ_ _=>⟨_,rfl,_,rfl⟩) λl L2 ok2=>?_
 exact .need ok2 (λ_ _=>⟨_,rfl,_,rfl⟩) λL3 ok3=> .gt ok3 rfl
theorem zRs(s:Str)(ok:TL L0 L):SG L0 ER (OL false) (zgw (RG M) s (pp L false)) (zlE (pG n) s (L.map tk)):=by
 unfold zgw zlE
 simp only[zQ,zq,zgR]
 refine .has ok (λh ok1=>?_) λh=>?_
 ·exact .gt' ok1 (by rw[yM]) rfl
 ·refine .r ((H n (yJ _) M (by omega)).expr false L ok) (λ_ _=>⟨_,rfl,_,rfl⟩) λl L2 ok2=>?_
  exact .need ok2 (λ_ _=>⟨_,rfl,_,rfl⟩) λL3 ok3=> .gt ok3 rfl
theorem zAu(ok:TL L0 L):SG L0 EL (λv L' r=>r= .inr (zbd v,pp L' false,())) ((RG M).zbh (pp L false)) ((pG n).stmt (L.map tk)):=by
 obtain⟨M,rfl⟩: ∃k,M=k+1:=⟨M -1,by omega⟩
 show SG _ _ _ (zhx (RG M) (pp L false)) _
 unfold zhx
 simp only[zQ,zq]
 refine .ll ((H n (yJ _) M (by omega)).stmt L ok) (λ_ _=>⟨_,rfl,_,rfl⟩) λv L'=>?_
 simp only[bne]
 unfold zbd
 cases v.Kind==25 with
 |true=>exact⟨_,rfl,rfl⟩
 |false=>exact⟨_,rfl,rfl⟩
def zNF(g:PG)(each:Bool)(x:Node)(t:zB):PR Node:=
 if(each&&tIs [105,110] t)=true then(g.expr false t.tail).bd λy=>(zaC [41] y.2).bn λt=>(g.stmt t).bd λb=>gt (nd 30 [x,y.1,zbd b.1],b.2)
 else(zaC [59] t).bn λt=>(g.till [59] t).bd λy=>(g.till [41] y.2).bd λz=>(g.stmt z.2).bd λb=>gt (nd 29 [x,y.1,z.1,zbd b.1],b.2)
theorem zQx(x:Node)(ok:TL L0 L):SG L0 EL (OR false) (zeH (RG M) (pp L false) 0 [] 0 [] 29 [] 0 [] [] [] [] [x])
  ((zaC [59] (L.map tk)).bn λt=>((pG n).till [59] t).bd λy=>((pG n).till [41] y.2).bd λz=>((pG n).stmt z.2).bd λb=>gt (nd 29 [x,y.1,z.1,zbd b.1],b.2)):=by
 have S:=H n (yJ _) M (by omega)
 unfold zeH ziY ziz ziG zem
 simp only[zQ,zq]
 refine .need ok (λ_ _=>⟨_,rfl,_,rfl⟩) λL1 ok1=>?_
 refine .r (S.till [59] L1 ok1) (λ_ _=>⟨_,rfl,_,rfl⟩) λy L2 ok2=>?_
 refine .r (S.till [41] L2 ok2) (λ_ _=>⟨_,rfl,_,rfl⟩) λz L3 ok3=>?_
 refine .room (by simp) ?_
 refine(zAu H hn hM ok3).gen (by rintro a _ ⟨y,rfl⟩;exact⟨_,rfl,_,rfl⟩) ?_
 rintro b L4 _ _ ok4 rfl
 exact .room (by simp) (.gt ok4 rfl)
theorem zO0(x:Node)(each:Bool)(ok:TL L0 L):SG L0 EL (OR false) (zeK (RG M) each (pp L false) 0 [] 0 [] 29 [] 0 [] [] [] [] [x]) (zNF (pG n) each x (L.map tk)):=by
 have S:=H n (yJ _) M (by omega)
 have h8:=zQx H hn hM x ok
 unfold zeK zNF
 simp only[zQ,zq]
 cases each with
 |false=>
  simp only[qz2,yA,Bool.false_and]
  exact h8
 |true=>
  simp only[yB,Bool.true_and]
  refine .has ok (λh ok1=>?_) λh=>?_
  ·simp only[yB]
   unfold zji zi2 ziT zjr zem
   simp only[zQ,zq]
   rw[<-yM]
   refine .r (S.expr false _ ok1) (λ_ _=>⟨_,rfl,_,rfl⟩) λy L2 ok2=>?_
   refine .room (by simp) ?_
   refine .need ok2 (λ_ _=>⟨_,rfl,_,rfl⟩) λL3 ok3=>?_
   refine(zAu H hn hM ok3).gen (by rintro a _ ⟨y,rfl⟩;exact⟨_,rfl,_,rfl⟩) ?_
   rintro b L4 _ _ ok4 rfl
   exact .room (by simp) (.gt ok4 rfl)
  ·simp only[qz2,yA]
   exact h8
theorem zSC(ok:TL L0 L):SG L0 EL (OR false) (zhe (RG M) (pp L false)) (zoz (pG n) (L.map tk)):=by
 have S:=H n (yJ _) M (by omega)
 have h3:=λ(L1:List zu) x each ok1=>zO0 (L:=L1) H hn hM x each ok1
 unfold zhe zeX zi9 zoz znb
 simp only[zQ,zq,zEU,qz1]
 refine .need ok (λ_ _=>⟨_,rfl,_,rfl⟩) λL1 ok1=>?_
 have e: ∀(f:Node×zB->PR Node),((if tIs [118,97,114] (L1.map tk)=true then((pG n).vars true (L1.map tk).tail).bd λl=>Go.D08.gt (nd 22 l.1,l.2)else if tIs [59] (L1.map tk)=true then Go.D08.gt (nd 42 [],L1.map tk)else(pG n).expr true (L1.map tk)).bd f)=
   if tIs [118,97,114] (L1.map tk)=true then((pG n).vars true (L1.map tk).tail).bd λl=>f (nd 22 l.1,l.2)else if tIs [59] (L1.map tk)=true then f (nd 42 [],L1.map tk)else((pG n).expr true (L1.map tk)).bd f:=λf=>by
  split
  ·rw[zr7];rfl
  ·split<;>rfl
 rw[e]
 refine .has (no:=true) ok1 (λh ok2=>?_) λh=>?_
 ·simp only[yB]
  rw[<-yM]
  refine(S.vars true _ ok2).gen (by rintro a _ ⟨y,rfl⟩;exact⟨_,rfl,_,rfl⟩) ?_
  rintro l L3 _ _ ok3 rfl
  rcases l with _| ⟨d,_| ⟨d2,r⟩⟩
  ·exact h3 L3 (nd 22 []) false ok3
  ·have hb:(((d.L.length:Nat):Int)==0)=d.L.isEmpty:=by
    cases d.L with
    |nil=>rfl
    |cons a r=>exact yH.2 (by simp only[qz3];omega)
   show SG _ _ _ (zeK (RG M) (((d.L.length:Nat):Int)==0) (pp L3 false) 0 [] 0 [] 29 [] 0 [] [] [] [] [nd 22 [d]]) _
   rw[hb]
   exact h3 L3 (nd 22 [d]) d.L.isEmpty ok3
  ·have hb:((((d::d2::r).length:Nat):Int)==1)=false:=by rw[yH];simp only[qz3];omega
   simp only[nd,hb,qz2,yA,qz1]
   exact h3 L3 (nd 22 (d::d2::r)) false ok3
 ·simp only[qz2,yA]
  refine .is (no:=true) ok1 (λh=>?_) λh=>?_
  ·simp only[yO,qz2,yA]
   exact h3 L1 (nd 42 []) false ok1
  ·simp only[yN,yB]
   refine(S.expr true _ ok1).gen (by rintro a _ ⟨y,rfl⟩;exact⟨_,rfl,_,rfl⟩) ?_
   rintro x L3 _ hq ok3 rfl
   have hx:x.Kind≠22:=(zQL n).expr _ _ _ hq
   have he:zlW x=zdr x.Kind:=by unfold zlW;rw[yK (by simpa using hx)]
   show SG _ _ _ _ (if(zlW x&&tIs [105,110] (L3.map tk))=true then _ else _)
   rw[he]
   exact h3 L3 x (zdr x.Kind) ok3
end
section
variable {L0 L:List zu} {no:Bool} {n M:Nat} (H: ∀k,k<=n->∀N,20*k+20<=N->zwh L0 (RG N) (pG k)) (hn:n<=10000000000) (hM:20*n+30<=M) (h0:L0.length<=10000000000)
include H hn hM
theorem zRy(caught:Bool)(nm:Str)(b c:Node)(hc:(c.Kind==42)= !caught)(ok:TL L0 L):SG L0 EL (OR false) (zfz (RG M) caught (pp L false) 0 [] 0 [] 35 nm 0 [] [] [] [] [b,c,nd 42 []])
  ((zkH (pG n) (L.map tk)).bd λf=>if(f.1.Kind==42&&c.Kind==42)=true then bad f.2 else gt (ndN 35 nm [b,c,f.1],f.2)):=by
 have S:=H n (yJ _) M (by omega)
 unfold zfz zjX zjW zgI zkH
 simp only[zQ,zq]
 have e: ∀(f:Node×zB->PR Node),((if tIs [102,105,110,97,108,108,121] (L.map tk)=true then(pG n).block (L.map tk).tail else Go.D08.gt (nd 42 [],L.map tk)).bd f)=if tIs [102,105,110,97,108,108,121] (L.map tk)=true then((pG n).block (L.map tk).tail).bd f else f (nd 42 [],L.map tk):=λf=>by
  split<;>rfl
 rw[e]
 refine .has ok (λh ok1=>?_) λh=>?_
 ·simp only[yB]
  rw[<-yM]
  refine(S.block _ ok1).gen (by rintro a _ ⟨y,rfl⟩;exact⟨_,rfl,_,rfl⟩) ?_
  rintro f L2 _ hq ok2 rfl
  have h25:f.Kind=25:=zG7 hq
  have hf:(f.Kind==42)=false:=by rw[h25];rfl
  simp only[hf,Bool.false_and,qz2,yA]
  exact .gt ok2 rfl
 ·simp only[qz2,yA,hc]
  cases caught with
  |true=>
   simp only[yO,qz2,yA,Bool.and_false]
   exact .gt ok rfl
  |false=>
   simp only[yN,yB]
   exact .fail ok λa=>⟨_,rfl,_,rfl⟩
theorem zUw(h9:20*n+35<=M)(ok:TL L0 L):SG L0 EL (OR false) ((RG M).zei (pp L false)) (zDQ (pG n) (L.map tk)):=by
 obtain⟨M,rfl⟩: ∃k,M=k+1:=⟨M -1,by omega⟩
 have S:=H n (yJ _) M (by omega)
 have h7:=λ(L1:List zu) caught nm b c hc ok1=>zRy (L:=L1) (M:=M) H hn (by omega) caught nm b c hc ok1
 show SG _ _ _ (zhY (RG M) (pp L false)) _
 unfold zhY zho zjV zjK zj1 zjP zj4 zDQ znl
 simp only[zQ,zq,zgR]
 refine .l (S.block L ok) (λ_ _=>⟨_,rfl,_,rfl⟩) λb L1 ok1=>?_
 have e: ∀(x y:PR (Str×Node)) (f:(Str×Node)×zB->PR Node),((if tIs [99,97,116,99,104] (L1.map tk)=true then x else y).bd f)=if tIs [99,97,116,99,104] (L1.map tk)=true then x.bd f else y.bd f:=λx y f=>by
  split<;>rfl
 rw[e]
 refine .has ok1 (λh ok2=>?_) λh=>?_
 ·simp only[yB]
  rw[<-yM,zBg]
  refine .need ok2 (λ_ _=>⟨_,rfl,_,rfl⟩) λL3 ok3=>?_
  have e2: ∀(x:PR (Str×Node)) (f:(Str×Node)×zB->PR Node),((if(zX (L3.map tk)==1)=true then x else bad (L3.map tk)).bd f)=if(zX (L3.map tk)==1)=true then x.bd f else bad (L3.map tk):=λx f=>by
   split<;>rfl
  rw[e2]
  refine .name ok3 (λ_ _=>⟨_,rfl,_,rfl⟩) λhk ok4=>?_
  rw[<-yM,zBg]
  refine .need ok4 (λ_ _=>⟨_,rfl,_,rfl⟩) λL5 ok5=>?_
  rw[zr7]
  refine(S.block L5 ok5).gen (by rintro a _ ⟨y,rfl⟩;exact⟨_,rfl,_,rfl⟩) ?_
  rintro c L6 _ hq ok6 rfl
  have h25:c.Kind=25:=zG7 hq
  exact h7 L6 true (tText (L3.map tk)) b c (by rw[h25];rfl) ok6
 ·simp only[qz2,yA]
  exact h7 L1 false [] b (nd 42 []) rfl ok1
theorem zMX(h9:20*n+35<=M)(ok:TL L0 L):SG L0 EL (OR false) ((RG M).zde (pp L false))
  (((pG n).head (L.map tk)).bd λx=>((pG n).stmt x.2).bd λb=>if tIs [101,108,115,101] b.2=true then((pG n).stmt b.2.tail).bd λc=>gt (nd 26 [x.1,zbd b.1,zbd c.1],c.2)else gt (nd 26 [x.1,zbd b.1],b.2)):=by
 obtain⟨M,rfl⟩: ∃k,M=k+1:=⟨M -1,by omega⟩
 have S:=H n (yJ _) M (by omega)
 have hb:=λ(L1:List zu) ok1=>zAu (L:=L1) (M:=M) H hn (by omega) ok1
 show SG _ _ _ (zf6 (RG M) (pp L false)) _
 unfold zf6 zfI zia zif
 simp only[zQ,zq,zgR]
 refine .l (S.head L ok) (λ_ _=>⟨_,rfl,_,rfl⟩) λx L1 ok1=>?_
 refine(hb L1 ok1).gen (by rintro a _ ⟨y,rfl⟩;exact⟨_,rfl,_,rfl⟩) ?_
 rintro b L2 _ _ ok2 rfl
 refine .has ok2 (λh ok3=>?_) λh=>?_
 ·simp only[yB]
  rw[<-yM]
  refine(hb _ ok3).gen (by rintro a _ ⟨y,rfl⟩;exact⟨_,rfl,_,rfl⟩) ?_
  rintro c L4 _ _ ok4 rfl
  exact .room (by simp) (.gt ok4 rfl)
 ·simp only[qz2,yA]
  exact .gt ok2 rfl
theorem zKz(o:Bool)(acc:List Node)(ha:acc.length<=20000000000): ∀(k m:Nat),k<=n->k<=m->∀(cur:List Node) (L:List zu),cur.length+k<=n+1->TL L0 L->
  SG L0 (λa r=>∃y,r= .inr (.inl (zad.code 45 a,y))) (λ(v:List Node) L' r=>r= .inl (o,pp L' false,0,[],0,[],36,[],0,[],[],[],[],acc++[nd 37 (cur++v)],()))
   (zaF (zen (RG M)) m (o,pp L false,0,[],0,[],36,[],0,[],37,[],0,[],[],[],[],acc,[],cur,())) ((pG k).body (L.map tk))
 |0,m,_,_,l,L,_,ok=>trivial
 |k+1,0,_,hm,l,L,_,ok=>by omega
 |k+1,m+1,hk,hm,cur,L,hl,ok=>by
  show SG _ _ _ _ (zoy (pG k) (L.map tk))
  have ih:=λcur L hl ok=>zKz o acc ha k m (by omega) (by omega) cur L hl ok
  unfold zoy
  rw[zfM]
  generalize zaF (zen (RG M)) m=W at ih⊢
  unfold zen
  simp only[zQ,zq]
  rw[zme ok.ok [[99,97,115,101],[100,101,102,97,117,108,116],[125]] ([32,99,97,115,101,32,100,101,102,97,117,108,116,32,125,32]:Str) (by decide+kernel) (by decide+kernel) (by decide),qz1]
  obtain⟨x,r,rfl⟩:=ok.ok.cons
  have k0:=zhb ok 0
  rw[show((0:Nat):Int)=0 from rfl]at k0
  simp only[zdH,qz1,bne,k0,qz3,qz6,Nat.zero_add]
  cases h1:zbt [[99,97,115,101],[100,101,102,97,117,108,116],[125]] ((x::r).map tk)with
  |true=>
   simp only[yO,qz2,yA,qz1,Bool.true_or,yB]
   rw[zd0 (by omega)]
   exact .gt ok (by show _=_;rw[List.append_nil];rfl)
  |false=>
   simp only[yN,yB,qz1,Bool.false_or]
   cases h2:zX ((x::r).map tk)==0 with
   |true=>
    simp only[yO,qz2,yA,yB]
    rw[zd0 (by omega)]
    exact .gt ok (by show _=_;rw[List.append_nil];rfl)
   |false=>
    simp only[yN,yB,qz2,yA]
    refine .assoc (.l ((H k (by omega) M (by omega)).stmt _ ok) (λ_ _=>⟨_,rfl,_,rfl⟩) λy L3 ok3=>?_)
    refine .assoc (.room (by omega) ?_)
    exact(ih (cur++[y]) L3 (by rw[qz5];simp only[qz3,qz6];omega) ok3).map (λv=>y::v) (by rintro v L' _ rfl;simp)
theorem zKH: ∀(k m:Nat),k<=n->k<=m->∀(o:Bool) (acc:List Node) (L:List zu),acc.length+k<=n+1->TL L0 L->
  SG L0 EL (λ(v:List Node) L' r=>r= .inr (nd 36 (acc++v),pp L' false,())) (zaF (zep (RG M)) m (o,pp L false,0,[],0,[],36,[],0,[],[],[],[],acc,())) ((pG k).cases o (L.map tk))
 |0,m,_,_,o,l,L,_,ok=>trivial
 |k+1,0,_,hm,o,l,L,_,ok=>by omega
 |k+1,m+1,hk,hm,o,acc,L,hl,ok=>by
  have S:=H k (by omega) M (by omega)
  have ih:=λo acc L hl ok=>zKH k m (by omega) (by omega) o acc L hl ok
  show SG _ _ _ _ (zjD (pG k) o (L.map tk))
  rw[zfM]
  generalize zaF (zep (RG M)) m=W at ih⊢
  have j4: ∀(o':Bool) (x:Node) (L1:List zu),TL L0 L1->SG L0 EL (λ(v:List Node) L' r=>r= .inr (nd 36 (acc++v),pp L' false,()))
    ((zel (RG M) o' (pp L1 false) 0 [] 0 [] 36 [] 0 [] 37 [] 0 [] [] [] [] acc [] [x]).bind (zHu W))
    ((zaC [58] (L1.map tk)).bn λt=>((pG k).body t).bd λl=>((pG k).cases o' l.2).bd λr=>gt (nd 37 (x::l.1)::r.1,r.2)):=λo' x L1 ok1=>by
   unfold zel
   simp only[zQ]
   refine .assoc (.need ok1 (λ_ _=>⟨_,rfl,_,rfl⟩) λL2 ok2=>?_)
   have hb:=SG.loop (zKz H hn hM o' acc (by omega) k 1000000000000 (by omega) (by omega) [x] L2 (by simp;omega) ok2) (yJ _)
   refine hb.gen (by rintro a _ ⟨y,rfl⟩;exact⟨_,rfl,_,rfl⟩) ?_
   rintro l L3 _ _ ok3 rfl
   exact(ih o' (acc++[nd 37 ([x]++l)]) L3 (by rw[qz5];simp only[qz3,qz6];omega) ok3).map (λv=>nd 37 (x::l)::v) (by rintro v L' _ rfl;simp)
  have j2: ∀(L1:List zu),TL L0 L1->SG L0 EL (λ(v:List Node) L' r=>r= .inr (nd 36 (acc++v),pp L' false,()))
    ((zeo (RG M) o (pp L1 false) 0 [] 0 [] 36 [] 0 [] 37 [] 0 [] [] [] [] acc [] [nd 42 []]).bind (zHu W))
    ((zaC [99,97,115,101] (L1.map tk)).bn λt=>((pG k).expr false t).bd λx=>(zaC [58] x.2).bn λt=>((pG k).body t).bd λl=>((pG k).cases o l.2).bd λr=>gt (nd 37 (x.1::l.1)::r.1,r.2)):=λL1 ok1=>by
   unfold zeo ziM
   simp only[zQ,zq]
   refine .assoc (.need ok1 (λ_ _=>⟨_,rfl,_,rfl⟩) λL2 ok2=>?_)
   refine .assoc (.r (S.expr false L2 ok2) (λ_ _=>⟨_,rfl,_,rfl⟩) λx L3 ok3=>?_)
   exact j4 o x L3 ok3
  unfold zjD
  unfold zep
  simp only[zQ,zq]
  refine .assoc (.has ok (λh ok1=>?_) λh=>?_)
  ·simp only[yO,qz2,yA]
   exact .gt' ok1 (by rw[yM]) (by show _=_;rw[List.append_nil];rfl)
  ·simp only[yN,yB]
   cases o with
   |false=>
    simp only[Bool.false_and,qz2,yA]
    exact j2 L ok
   |true=>
    simp only[Bool.true_and,yB]
    refine .assoc (.has ok (λh ok1=>?_) λh=>?_)
    ·simp only[yB]
     rw[<-yM]
     exact j4 false (nd 42 []) _ ok1
    ·simp only[qz2,yA]
     exact j2 L ok
theorem zPD(h9:20*n+35<=M)(ok:TL L0 L):SG L0 EL (OR false) ((RG M).zdE (pp L false))
  (((pG n).head (L.map tk)).bd λx=>(zaC [123] x.2).bn λt=>((pG n).cases true t).bd λl=>gt (nd 36 (x.1::l.1),l.2)):=by
 obtain⟨M,rfl⟩: ∃k,M=k+1:=⟨M -1,by omega⟩
 have S:=H n (yJ _) M (by omega)
 show SG _ _ _ (zgL (RG M) (pp L false)) _
 unfold zgL
 simp only[zQ,zq]
 refine .l (S.head L ok) (λ_ _=>⟨_,rfl,_,rfl⟩) λx L1 ok1=>?_
 refine .need ok1 (λ_ _=>⟨_,rfl,_,rfl⟩) λL2 ok2=>?_
 exact(SG.loop (zKH H hn (by omega) n 1000000000000 (yJ _) (by omega) true [x] L2 (by simp;omega) ok2) (yJ _)).map (λv=>nd 36 (x::v)) (by rintro v L' _ rfl;rfl)
theorem zKC(k:Int)(ok:TL L0 L):SG L0 EL (OR false) (zgn k (pp L false)) (zkk k (L.map tk)):=by
 obtain⟨x,r,rfl⟩:=ok.ok.cons
 have k1:=zhb ok 1
 rw[show((1:Nat):Int)=1 from rfl]at k1
 have hf:x.Fresh=zeT ((x::r).map tk):=rfl
 unfold zgn zkk
 simp only[zQ,zdH,qz1,k1,hf]
 cases h1:zX ((x::r).map tk)==1 with
 |false=>
  simp only[qz2,yA,qz1,Bool.false_and]
  exact .end ok (λ_ _=>⟨_,rfl,_,rfl⟩) λL3 ok3=> .gt ok3 rfl
 |true=>
  simp only[yB,qz1,Bool.true_and]
  cases h2:zeT ((x::r).map tk)with
  |true=>
   simp only[yO,qz2,yA]
   exact .end ok (λ_ _=>⟨_,rfl,_,rfl⟩) λL3 ok3=> .gt ok3 rfl
  |false=>
   simp only[yN,yB]
   refine .take ok (zcR h1 (by decide)) λa ha ok2=>?_
   rw[<-yM]
   refine .end ok2 (λ_ _=>⟨_,rfl,_,rfl⟩) λL3 ok3=> .gt ok3 ?_
   simp only[ha];rfl
theorem zJ9: ∀(k m:Nat),k<=n+1->k<=m->∀(f:Bool) (l:List Node) (L:List zu),l.length+k<=n+1->TL L0 L->
  SG L0 ER (λ(v:List Node) L' r=>r= .inl (l++v,pp L' false,())) (zaF (zer (RG M)) m (f,[125],pp L false,l,())) ((pG k).stmts f (L.map tk))
 |0,m,_,_,f,l,L,_,ok=>trivial
 |k+1,0,_,hm,f,l,L,_,ok=>by omega
 |k+1,m+1,hk,hm,f,l,L,hl,ok=>by
  have S:=H k (by omega) M (by omega)
  have ih:=λl L hl ok=>zJ9 k m (by omega) (by omega) f l L hl ok
  show SG _ _ _ _ (ziL (pG k) f (L.map tk))
  rw[zfM]
  generalize zaF (zer (RG M)) m=W at ih⊢
  have go: ∀(y:Node) (L3:List zu),TL L0 L3->SG L0 ER (λ(v:List Node) L' r=>r= .inl (l++v,pp L' false,())) (W (f,[125],pp L3 false,l++[y],())) (((pG k).stmts f (L3.map tk)).bd λq=>gt (y::q.1,q.2)):=λy L3 ok3=>
   (ih (l++[y]) L3 (by rw[qz5];simp only[qz3,qz6];omega) ok3).map (λv=>y::v) (by rintro v L' _ rfl;simp)
  have j2:SG L0 ER (λ(v:List Node) L' r=>r= .inl (l++v,pp L' false,()))
    ((zeq (RG M) f [125] (pp L false) l 0 [] 0 [] [] []).bind (zHu W)) (((pG k).stmt (L.map tk)).bd λx=>((pG k).stmts f x.2).bd λq=>gt (x.1::q.1,q.2)):=by
   unfold zeq
   simp only[zQ,zq,qz3,qz6,Nat.zero_add]
   refine .assoc (.l (S.stmt L ok) (λ_ _=>⟨_,rfl,_,rfl⟩) λy L3 ok3=>?_)
   exact .assoc (.room (by omega) (go y L3 ok3))
  unfold ziL
  unfold zer
  simp only[zQ,zq]
  rw[ztg ok.ok [125],qz1]
  have hget:zN L 0=some (L.head (by obtain⟨x,r,rfl⟩:=ok.ok.cons;simp)):=by obtain⟨x,r,rfl⟩:=ok.ok.cons;rfl
  have k0:((L.head (by obtain⟨x,r,rfl⟩:=ok.ok.cons;simp)).Kind==0)=(zX (L.map tk)==0):=by obtain⟨x,r,rfl⟩:=ok.ok.cons;exact zhb ok 0
  simp only[hget,qz1,bne,k0,qz3,qz6,Nat.zero_add]
  cases h1:tIs [125] (L.map tk)with
  |true=>
   simp only[yO,qz2,yA,qz1,Bool.true_or,yB]
   exact .gt ok (by simp)
  |false=>
   simp only[yN,yB,qz1,Bool.false_or]
   cases h2:zX (L.map tk)==0 with
   |true=>
    simp only[yO,qz2,yA,yB]
    exact .gt ok (by simp)
   |false=>
    simp only[yN,yB,qz2,yA]
    cases f with
    |false=>
     simp only[Bool.false_and,qz2,yA]
     exact j2
    |true=>
     simp only[Bool.true_and,yB]
     have e: ∀(x y:PR Node) (f:Node×zB->PR (List Node)),((if tIs [102,117,110,99,116,105,111,110] (L.map tk)=true then x else y).bd f)=if tIs [102,117,110,99,116,105,111,110] (L.map tk)=true then x.bd f else y.bd f:=λx y f=>by
      split<;>rfl
     rw[e]
     refine .assoc (.has ok (λh ok1=>?_) λh=>?_)
     ·simp only[yB]
      rw[<-yM]
      refine .assoc (.l (S.func false 39 _ ok1) (λ_ _=>⟨_,rfl,_,rfl⟩) λy L3 ok3=>?_)
      exact .assoc (.room (by omega) (go y L3 ok3))
     ·simp only[qz2,yA]
      exact j2
theorem zPb(f:Bool)(ok:TL L0 L):SG L0 ER (OL false) (zgr (RG M) f [125] (pp L false)) (ziL (pG n) f (L.map tk)):=by
 unfold zgr
 simp only[zQ]
 exact .loop (zJ9 H hn hM (n+1) 1000000000000 (yJ _) (by omega) f [] L (by simp) ok) (yJ _)
end
section
variable {L0 L:List zu} {no:Bool} {n M:Nat} (H: ∀k,k<=n->∀N,20*k+20<=N->zwh L0 (RG N) (pG k)) (hn:n<=10000000000) (hM:20*n+39<=M) (h0:L0.length<=10000000000)
include H hn hM
theorem zSF(ok:TL L0 L):SG L0 EL (OR false) (zhd (RG M) (pp L false)) (zbV (pG n) (L.map tk)):=by
 have S:=H n (yJ _) M (by omega)
 have hb:=λ(L1:List zu) ok1=>zAu (L:=L1) (M:=M) H hn (by omega) ok1
 unfold zhd zbV
 simp only[zQ,zq]
 refine .is ok (λh=>?_) λh=>?_
 ·exact .ll (S.block L ok) (λ_ _=>⟨_,rfl,_,rfl⟩) λv L'=>⟨_,rfl,rfl⟩
 simp only[qz2,yA]
 refine .has ok (λh ok1=> .gt' ok1 (by rw[yM]) rfl) λh=>?_
 simp only[qz2,yA]
 refine .has ok (λh ok1=>?_) λh=>?_
 ·simp only[yB]
  rw[<-yM]
  refine(S.vars false _ ok1).gen (by rintro a _ ⟨y,rfl⟩;exact⟨_,rfl,_,rfl⟩) ?_
  rintro l L2 _ _ ok2 rfl
  exact .end ok2 (λ_ _=>⟨_,rfl,_,rfl⟩) λL3 ok3=> .gt ok3 rfl
 simp only[qz2,yA]
 refine .has ok (λh ok1=>?_) λh=>?_
 ·simp only[yB]
  rw[<-yM]
  exact .ll (zMX H hn (by omega) (by omega) ok1) (λ_ _=>⟨_,rfl,_,rfl⟩) λv L'=>⟨_,rfl,rfl⟩
 simp only[qz2,yA]
 refine .has ok (λh ok1=>?_) λh=>?_
 ·simp only[yB]
  rw[<-yM]
  refine .l (S.head _ ok1) (λ_ _=>⟨_,rfl,_,rfl⟩) λx L2 ok2=>?_
  refine(hb L2 ok2).gen (by rintro a _ ⟨y,rfl⟩;exact⟨_,rfl,_,rfl⟩) ?_
  rintro b L3 _ _ ok3 rfl
  exact .gt ok3 rfl
 simp only[qz2,yA]
 refine .has ok (λh ok1=>?_) λh=>?_
 ·simp only[yB]
  rw[<-yM]
  refine(hb _ ok1).gen (by rintro a _ ⟨y,rfl⟩;exact⟨_,rfl,_,rfl⟩) ?_
  rintro b L3 _ _ ok3 rfl
  refine .need ok3 (λ_ _=>⟨_,rfl,_,rfl⟩) λL4 ok4=>?_
  refine .l (S.head _ ok4) (λ_ _=>⟨_,rfl,_,rfl⟩) λx L2 ok2=>?_
  exact .end ok2 (λ_ _=>⟨_,rfl,_,rfl⟩) λL3 ok3=> .gt ok3 rfl
 simp only[qz2,yA]
 refine .has ok (λh ok1=>?_) λh=>?_
 ·simp only[yB]
  rw[<-yM]
  exact .ll (S.loop _ ok1) (λ_ _=>⟨_,rfl,_,rfl⟩) λv L'=>⟨_,rfl,rfl⟩
 simp only[qz2,yA]
 refine .has ok (λh ok1=>?_) λh=>?_
 ·simp only[yB]
  rw[<-yM]
  exact .ll (zKC (M:=M) H hn (by omega) 31 ok1) (λ_ _=>⟨_,rfl,_,rfl⟩) λv L'=>⟨_,rfl,rfl⟩
 simp only[qz2,yA]
 refine .has ok (λh ok1=>?_) λh=>?_
 ·simp only[yB]
  rw[<-yM]
  exact .ll (zKC (M:=M) H hn (by omega) 32 ok1) (λ_ _=>⟨_,rfl,_,rfl⟩) λv L'=>⟨_,rfl,rfl⟩
 simp only[qz2,yA]
 refine .has ok (λh ok1=>?_) λh=>?_
 ·simp only[yB]
  rw[<-yM,ztg ok1.ok [59],qz1]
  cases h59:tIs [59] (L.tail.map tk)with
  |true=>
   simp only[yO,qz2,yA,Bool.false_and]
   exact .end ok1 (λ_ _=>⟨_,rfl,_,rfl⟩) λL3 ok3=> .gt ok3 rfl
  |false=>
   simp only[yN,yB,Bool.true_and]
   refine .stops ok1 ?_
   cases hs:zkF (L.tail.map tk)with
   |true=>
    simp only[yO,qz2,yA]
    exact .end ok1 (λ_ _=>⟨_,rfl,_,rfl⟩) λL3 ok3=> .gt ok3 rfl
   |false=>
    simp only[yN,yB]
    refine .r (S.expr false _ ok1) (λ_ _=>⟨_,rfl,_,rfl⟩) λx L2 ok2=>?_
    exact .end ok2 (λ_ _=>⟨_,rfl,_,rfl⟩) λL3 ok3=> .gt ok3 rfl
 simp only[qz2,yA]
 refine .has ok (λh ok1=>?_) λh=>?_
 ·simp only[yB]
  rw[<-yM]
  obtain⟨a,r,hL⟩:=ok1.ok.cons
  rw[hL]at ok1⊢
  have hf:a.Fresh=zeT ((a::r).map tk):=rfl
  simp only[zdH,qz1,hf]
  cases hfr:zeT ((a::r).map tk)with
  |true=>
   simp only[yB]
   exact .fail ok1 λa=>⟨_,rfl,_,rfl⟩
  |false=>
   simp only[qz2,yA]
   refine .r (S.expr false _ ok1) (λ_ _=>⟨_,rfl,_,rfl⟩) λx L2 ok2=>?_
   exact .end ok2 (λ_ _=>⟨_,rfl,_,rfl⟩) λL3 ok3=> .gt ok3 rfl
 simp only[qz2,yA]
 refine .has ok (λh ok1=>?_) λh=>?_
 ·simp only[yB]
  rw[<-yM]
  exact .ll (zUw H hn (by omega) (by omega) ok1) (λ_ _=>⟨_,rfl,_,rfl⟩) λv L'=>⟨_,rfl,rfl⟩
 simp only[qz2,yA]
 refine .has ok (λh ok1=>?_) λh=>?_
 ·simp only[yB]
  rw[<-yM]
  exact .ll (zPD H hn (by omega) (by omega) ok1) (λ_ _=>⟨_,rfl,_,rfl⟩) λv L'=>⟨_,rfl,rfl⟩
 simp only[qz2,yA]
 refine .is ok (λh=>?_) λh=>?_
 ·simp only[yB]
  exact .fail ok λa=>⟨_,rfl,_,rfl⟩
 simp only[qz2,yA]
 obtain⟨a,r,rfl⟩:=ok.ok.cons
 have k1:=zhb ok 1
 rw[show((1:Nat):Int)=1 from rfl]at k1
 simp only[zdH,qz1,k1]
 have last:SG L0 EL (OR false) (((RG M).zav (pp (a::r) false)).bind λr_95=>
   match r_95 with
   |Sum.inl r_96=>
    (zbE r_96.2.1).bind λr_97=>
     match r_97 with
     |Sum.inl r_98=>some (Sum.inl (r_98.1,r_98.2.1,()))
     |Sum.inr r_99=>some (Sum.inr ((⟨24,[],0,[],[],[r_96.1]⟩:zg),r_99.1,()))
   |Sum.inr r_100=>some (Sum.inl (r_100.1,r_100.2.1,())))
   (((pG n).expr false ((a::r).map tk)).bd λx=>(zhD x.2).bn λt=>gt (nd 24 [x.1],t)):=by
  refine .r (S.expr false _ ok) (λ_ _=>⟨_,rfl,_,rfl⟩) λx L2 ok2=>?_
  exact .end ok2 (λ_ _=>⟨_,rfl,_,rfl⟩) λL3 ok3=> .gt ok3 rfl
 cases h1:zX ((a::r).map tk)==1 with
 |false=>
  simp only[qz2,yA,qz1,Bool.false_and]
  exact last
 |true=>
  have ok1:=ok.tail (zcR h1 (by decide))
  obtain⟨b,r',hr⟩:=ok1.ok.cons
  obtain rfl:r=b::r':=hr
  have hget:zN (a::b::r') 1=some b:=rfl
  have k5:=zhb ok1 5
  rw[show((5:Nat):Int)=5 from rfl]at k5
  have h58:tIs [58] ((b::r').map tk)=(zX ((b::r').map tk)==5&&b.Text==[58]):=by
   show(opK (tk b)&&(b.Text==([58]:Str)))=((tk b).kind==5&&b.Text==([58]:Str))
   unfold opK
   cases h5:(tk b).kind==5 with
   |true=>rfl
   |false=>
    simp only[Bool.false_or,Bool.false_and]
    cases h2:(tk b).kind==2 with
    |false=>rfl
    |true=>
     have e2:b.Kind=2:=eq_of_beq ((zhb ok1 2).trans h2)
     rw[Bool.true_and,yH]
     exact ok1.ok.colon b qz7 e2
  have ht:((a::b::r').map tk).tail=(b::r').map tk:=rfl
  simp only[hget,yB,qz1,k5,Bool.true_and,ht,h58]
  cases h5:zX ((b::r').map tk)==5 with
  |false=>
   simp only[qz2,yA,qz1,Bool.false_and]
   exact last
  |true=>
   simp only[yB,qz1,Bool.true_and]
   cases h6:b.Text==([58]:Str)with
   |false=>
    simp only[qz2,yA]
    exact last
   |true=>
    simp only[yB]
    have e: ∀q:PR Node,q=if(zX ((a::b::r').map tk)==1)=true then q else bad ((a::b::r').map tk):=λq=>by rw[yL h1]
    rw[e (((pG n).stmt _).bd _)]
    refine .name ok (λ_ _=>⟨_,rfl,_,rfl⟩) λ_ ok1=>?_
    refine .take ok1 (zcR h5 (by decide)) λc hc ok2=>?_
    exact .l (S.stmt _ ok2) (λ_ _=>⟨_,rfl,_,rfl⟩) λx L2 ok2=> .gt ok2 rfl
include h0 in
theorem zND(N:Nat)(hN:20*n+40<=N):zwh L0 (RG N) (pG (n+1)):=by
 obtain⟨K,rfl⟩: ∃k,N=k+1:=⟨N -1,by omega⟩
 have m1:20*n+30<=K:=by omega
 have m2:20*n+39<=K:=by omega
 exact{
  expr:=λno L ok=>zRh H hn m1 ok
  assign:=λno L ok=>zNM H hn m1 ok
  binary:=λno b L ok hb=>zOl H hn m1 b hb ok
  unary:=λno L ok=>zQc H hn m1 ok
  mems:=λno x c L ok=>zRm H hn m1 x c ok
  made:=λno L ok=>zSX H hn m1 ok
  prim:=λno L ok=>zSW H hn m1 m2 ok
  exprs:=λno s last L ok=>zQk H hn m1 m2 s last ok
  props:=λno L ok=>zO1 H hn m1 m2 ok
  func:=λno k L ok=>zSM H hn m1 h0 k ok
  vars:=λno L ok=>zTb H hn m1 ok
  block:=λL ok=>zOy H hn m1 ok
  head:=λL ok=>zSm H hn m1 ok
  till:=λs L ok=>zRs H hn m1 s ok
  loop:=λL ok=>zSC H hn m1 ok
  stmt:=λL ok=>zSF H hn m2 ok
  stmts:=λf L ok=>zPb H hn m1 f ok}
end
theorem zIu{L0:List zu}(h0:L0.length<=10000000000): ∀n,n<=10000000001->∀k,k<=n->∀N,20*k+20<=N->zwh L0 (RG N) (pG k)
 |0,_,k,hk,N,_=>by
  obtain rfl:k=0:=by omega
  constructor<;>intros<;>trivial
 |n+1,hn,k,hk,N,hN=>by
  have H:=zIu h0 n (by omega)
  by_cases h:k<=n
  ·exact H k h N hN
  ·obtain rfl:k=n+1:=by omega
   exact zND H (by omega) (M:=20*n+39) (yJ _) h0 N (by omega)
def zAv(L:List zu):Node×Int×Int:=
 match(pG (10*L.length+20)).stmts true (L.map tk)with
 |none=>(nd 0 [],0,0)
 |some (.inl k)=>(nd 0 [],atK L k,80)
 |some (.inr q)=>if zX q.2=0 then(if 64<zW (nd 41 q.1)then(nd 0 [],0,31)else(nd 41 q.1,0,0))else(nd 0 [],atK L q.2.length,80)
theorem zB5{t:zB}(w:Wf t): ∃r,(pG (10*t.length+20)).stmts true t=some r:=by
 have:=(zQ2 (10*t.length+20)).stmts true t w (by omega)
 cases h:(pG (10*t.length+20)).stmts true t with
 |none=>rw[h]at this;exact this.elim
 |some r=>exact⟨r,rfl⟩
theorem zPS{t:zB}(w:Wf t){q:List Node×zB}(h:zot true t q):(pG (10*t.length+20)).stmts true t=gt q:=by
 obtain⟨r,hr⟩:=zB5 w
 obtain⟨N,hN⟩:=h
 have h1:=zLB N hr
 have h2:(pG (10*t.length+20+N)).stmts true t=gt q:=hN (10*t.length+20+N) (by omega)
 rw[h1]at h2
 rw[hr];exact h2
theorem zxc{src:Str}{L:List zu}(hs:src.length<=100000000)(hc:U.zjU src=(L,0,0))(ok:TOk L)(hl:L.length<=100000000)
  (hz: ∀q,(pG (10*L.length+20)).stmts true (L.map tk)=gt q->zjj (nd 41 q.1)<=2097152):zco src=some ((zAv L).1,(zAv L).2.1,(zAv L).2.2,()):=by
 have okL:TL L L:=⟨ok,List.suffix_refl L⟩
 have S:=(zIu (L0:=L) (by omega) (10*L.length+20) (by omega) _ (yJ _) 1000000000000 (by omega)).stmts true L okL
 obtain⟨r,hr⟩:=zB5 ok.wf
 rw[List.length_map]at hr
 unfold zco zAv
 rw[U.zIf src hs,hc]
 simp only[qz1,bne_self_eq_false,qz2,yA]
 rw[hr]at S hz⊢
 cases r with
 |inl k=>
  obtain⟨r,e,y,rfl⟩:=S
  have e:zbk true [125] ⟨L,false⟩=some (.inr (zad.code 45 (atK L k),y)):=e
  rw[e]
  rfl
 |inr q=>
  obtain⟨r,L',e,e2,ok',rfl⟩:=S
  have e:zbk true [125] ⟨L,false⟩=some (.inl (q.1,pp L' false,())):=e
  rw[e]
  obtain⟨x,r,rfl⟩:=ok'.ok.cons
  have k0:=zhb ok' 0
  rw[show((0:Nat):Int)=0 from rfl]at k0
  have hd:=zyR (nd 41 q.1) (hz q rfl)
  simp only[qz1,zdH,bne,k0]
  rw[<-e2]
  cases h0:zX ((x::r).map tk)==0 with
  |false=>
   have h1: ¬zX ((x::r).map tk)=0:=by simpa using h0
   rw[yK h1,ok'.at_]
   rfl
  |true=>
   have h1:zX ((x::r).map tk)=0:=by simpa using h0
   rw[yL h1]
   simp only[yO,qz2,yA]
   rw[show zeu (⟨41,[],0,[],[],q.1⟩:zg)=some ((zW (nd 41 q.1):Int),())from hd]
   simp only[qz1]
   by_cases hdp:64<zW (nd 41 q.1)
   ·rw[yL hdp,decide_eq_true (by omega)]
    rfl
   ·rw[yK hdp,decide_eq_false (by omega)]
    rfl
end Go.D08
namespace Go.D08.U
open Go Go.Gw Go.Dn Go.Proofs
set_option maxRecDepth 100000
theorem zPE{r:Str}{us:List Nat}{k:Nat}(h:zq9 r=some (us,k)):us.length<=1:=by
 cases r with
 |nil=>cases h
 |cons c r=>
  unfold zq9 at h
  dsimp only at h
  split at h
  ·cases h;simp
  ·split at h
   ·split at h
    ·cases h;simp
    ·split at h
     ·cases h
     ·cases h;simp
   ·split at h
    ·cases e:hexN 2 r 0 with
     |none=>rw[e]at h;cases h
     |some n=>rw[e]at h;cases h;simp
    ·split at h
     ·cases e:hexN 4 r 0 with
      |none=>rw[e]at h;cases h
      |some n=>rw[e]at h;cases h;simp
     ·cases e:zmI c with
      |none=>rw[e]at h;cases h
      |some n=>rw[e]at h;cases h;simp
theorem zup(q:UInt8): ∀(m:Nat) (r:Str) (acc us:List Nat) (k:Nat),zhs q m r acc=some (us,k)->us.length<=acc.length+m
 |0,_,_,_,_,h=>by cases h
 |m+1,[],_,_,_,h=>by cases h
 |m+1,c::r,acc,us,k,h=>by
  unfold zhs at h
  split at h
  ·cases h;omega
  ·split at h
   ·cases h
   ·split at h
    ·split at h
     ·cases h
     ·rename_i us' k' he
      have:=zup q m _ _ _ _ h
      have h1:=zPE he
      rw[qz5]at this;omega
    ·have:=zup q m _ _ _ _ h
     rw[qz5]at this;simp only[qz3,qz6]at this;omega
theorem zLP{s:Str}{u:Str}{n e:Int}(h:zfJ s=(u,n,e))(hn:n≠0): ∃us:List Nat,u=zeC us/\us.length<=s.length:=by
 cases s with
 |nil=>cases h;exact absurd rfl hn
 |cons q r=>
  unfold zfJ at h
  simp only at h
  split at h
  ·cases hg:zhs q (r.length+1) r []with
   |none=>rw[hg]at h;cases h;exact absurd rfl hn
   |some p=>
    obtain⟨us,k⟩:=p
    rw[hg]at h
    cases h
    have:=zup q _ _ _ _ _ hg
    exact⟨us,rfl,by simpa using this⟩
  ·cases h;exact absurd rfl hn
structure zAt (s:Str) (t:Tok):Prop where
 len:t.Text.length<=2*s.length
 ident:t.Kind=1\/t.Kind=2->t.Text=s.take (zbz s)/\zbz s<=32/\∃c r,s=c::r/\isLet c=true
 word:t.Kind=1\/t.Kind=2->(t.Kind=2↔zlc t.Text=true)
 num:t.Kind=3->0<=t.Num/\t.Num<=9007199254740991/\t.Text=[]
 str:t.Kind=4->∃us:List Nat,t.Text=zeC us/\us.length<=s.length
 sign:t.Kind=5->t.Text=s.take (zdv s)/\zdv s≠0
theorem zUP{s:Str}{t:Tok}{n:Nat}(h:zjs s=some (t,n)):zAt s t:=by
 cases s with
 |nil=>cases h
 |cons c s=>
  have hrow:=zqU (c::s)
  have hsg:=zGP c s
  unfold zjs at h
  dsimp only at h
  split at h
  ·rename_i hl
   split at h
   ·cases h
   ·rename_i h32
    cases h
    have hk: ∀b:Bool,(if b=true then(2:Int)else 1)=2↔b=true:=by intro b;cases b<;>decide
    have hk3: ∀b:Bool,(if b=true then(2:Int)else 1)≠3/\(if b=true then(2:Int)else 1)≠4/\(if b=true then(2:Int)else 1)≠5:=by intro b;cases b<;>decide
    exact⟨by rw[List.length_take];omega,λ_=>⟨rfl,by omega,c,s,rfl,hl⟩,λ_=>hk _,λe=>absurd e (hk3 _).1,λe=>absurd e (hk3 _).2.1,λe=>absurd e (hk3 _).2.2⟩
  ·split at h
   ·cases hn:zrz (c::s)with
    |none=>rw[hn]at h;cases h
    |some p=>
     rw[hn]at h
     cases h
     have hb:p.1<=9007199254740991:=by
      unfold zrz at hn
      split at hn
      ·cases hn
      ·split at hn
       ·cases hn
       ·split at hn
        ·cases hn;assumption
        ·cases hn
     exact⟨by simp,λe=>by rcases e with e|e<;>exact absurd e (by simp),λe=>by rcases e with e|e<;>exact absurd e (by simp),λ_=>⟨by simp only;omega,by simp only;omega,rfl⟩,λe=>absurd e (by simp),λe=>absurd e (by simp)⟩
   ·split at h
    ·generalize hx:zfJ (c::s)=q at h
     obtain⟨u,n',e⟩:=q
     simp only at h
     split at h
     ·cases h
     ·rename_i hne
      cases h
      obtain⟨us,h1,h2⟩:=zLP hx hne
      exact⟨by rw[h1,zou];omega,λe=>by rcases e with e|e<;>exact absurd e (by simp),λe=>by rcases e with e|e<;>exact absurd e (by simp),λe=>absurd e (by simp),λ_=>⟨us,h1,h2⟩,λe=>absurd e (by simp)⟩
    ·split at h
     ·cases h
     ·rename_i hne
      cases h
      exact⟨by rw[List.length_take];omega,λe=>by rcases e with e|e<;>exact absurd e (by simp),λe=>by rcases e with e|e<;>exact absurd e (by simp),λe=>absurd e (by simp),λe=>absurd e (by simp),λ_=>⟨rfl,hne⟩⟩
theorem zS6: ∀b:Fin 256,zfY (UInt8.ofNat b.val)=true->b.val<128/\b.val≠32/\b.val≠58:=by decide+kernel
theorem zBS(b:UInt8)(h:zfY b=true):b<128/\b≠32/\b≠58:=by
 have:=zS6 ⟨b.toNat,b.toNat_lt⟩
 have e:UInt8.ofNat b.toNat=b:=by simp
 simp only[e]at this
 obtain⟨h1,h2,h3⟩:=this h
 exact⟨h1,λe=>h2 (by rw[e];rfl),λe=>h3 (by rw[e];rfl)⟩
theorem zMO(c:UInt8)(r:Str)(h:zdv (c::r)≠0):(32:UInt8)∉(c::r).take (zdv (c::r)):=by
 unfold zdv at h⊢
 split
 ·rename_i h3
  have: ∀w∈zoB,(32:UInt8)∉w:=by decide+kernel
  exact this _ (by simpa using h3.2)
 ·split
  ·rename_i h2
   have: ∀w∈zqJ,(32:UInt8)∉w:=by decide+kernel
   exact this _ (by simpa using h2.2)
  ·split
   ·rename_i h1
    have h1:c∈zAn:=by simpa using h1
    have: ∀c∈zAn,(32:UInt8)≠c:=by decide+kernel
    simp[this c h1]
   ·simp
theorem zzX{s:Str}{t:Tok}(o:zAt s t)(hk:t.Kind=1\/t.Kind=2):(∀b∈t.Text,zfY b=true)/\t.Text≠[]:=by
 obtain⟨h1,h2,c,r,rfl,hl⟩:=o.ident hk
 have ha:=zNw (c::r)
 rw[<-h1]at ha
 refine⟨λb hb=>List.all_eq_true.1 ha b hb,λe=>?_⟩
 have:1<=zbz (c::r):=by rw[zkA,yL (by simp[zfY,hl])];omega
 rw[h1]at e
 have:=congrArg List.length e
 rw[List.length_take]at this
 simp at this;omega
inductive zqI (b:Nat):List Tok->Prop
 |fin (e:Tok):e.Kind=0->e.Text=[]->zqI b [e]
 |one (s:Str) (t:Tok) (l:List Tok):zAt s t->s.length<=b->1<=t.Kind->t.Kind<=5->zqI b l->zqI b (t::l)
theorem zAt.fresh{s:Str}{t:Tok}(o:zAt s t)(f:Bool)(n:Int):zAt s ((t.fresh f).at_ n):=⟨o.len,o.ident,o.word,o.num,o.str,o.sign⟩
theorem zE5(len:Nat): ∀(m:Nat) (s:Str) (f:Bool) (l:List (Tok×Nat)),zjY m s f= .inl l->s.length<=len->zqI len (zk1 len l)/\(zk1 len l).length<=s.length+1
 |0,_,_,_,h,_=>by cases h
 |m+1,s,f,l,h,hs=>by
  have hl:=zfH (s.length+1) s f
  rw[zjY]at h
  generalize zcJ (s.length+1) s f=q at h hl
  obtain⟨r,f',ok⟩:=q
  simp only at h hl
  split at h
  ·cases h
  ·split at h
   ·cases h
    exact⟨.fin _ rfl rfl,by simp[zk1]⟩
   ·cases ho:zjs r with
    |none=>rw[ho]at h;cases h
    |some p=>
     obtain⟨t,n⟩:=p
     rw[ho]at h
     simp only at h
     have hn:=zoc ho
     cases hc:zjY m (r.drop n) false with
     |inr k=>rw[hc]at h;cases h
     |inl l'=>
      rw[hc]at h
      cases h
      have hd:(r.drop n).length=r.length -n:=List.length_drop
      obtain⟨g1,g2⟩:=zE5 len m (r.drop n) false l' hc (by omega)
      rw[ztG]
      exact⟨.one r _ _ ((zUP ho).fresh f' _) (by omega) hn.2.2.1 hn.2.2.2.1 g1,by simp only[qz3];omega⟩
theorem ztd{src:Str}{L:List Tok}(h:zjU src=(L,0,0)):zqI 4096 L/\L.length<=4097/\src.length<=4096:=by
 unfold zjU at h
 split at h
 ·exact absurd (congrArg (λx=>x.2.2) h) (by simp)
 ·split at h
  ·rename_i l hc
   obtain rfl:zk1 src.length l=L:=congrArg (λx=>x.1) h
   obtain⟨g1,g2⟩:=zE5 src.length _ _ _ _ hc (yJ _)
   refine⟨?_,by omega,by omega⟩
   have up: ∀{l:List Tok},zqI src.length l->zqI 4096 l:=λh=>by
    induction h with
    |fin e h1 h2=>exact .fin e h1 h2
    |one s t l h1 h2 h3 h4 _ ih=>exact .one s t l h1 (by omega) h3 h4 ih
   exact up g1
  ·exact absurd (congrArg (λx=>x.2.2) h) (by simp)
theorem zqI.ok{L:List Tok}(h:zqI 4096 L):TOk L:=by
 induction h with
 |fin e h1 h2=>
  refine⟨?_,?_,?_,?_,?_,?_,[],e,rfl,h1,λt ht=>by cases ht⟩<;>intro t ht<;>(obtain rfl:t=e:=by simpa using ht)
  ·omega
  ·rw[h2];simp
  ·rw[h2];simp
  ·intro hk;omega
  ·intro hk;omega
  ·intro hk;omega
 |one s t l o hs k1 k5 _ ih=>
  obtain⟨a,e,e1,e2,e3⟩:=ih.last
  refine⟨?_,?_,?_,?_,?_,?_,t::a,e,by rw[e1];rfl,e2,?_⟩
  ·intro x hx
   rcases yP.1 hx with rfl|hx
   ·omega
   ·exact ih.kinds x hx
  ·intro x hx
   rcases yP.1 hx with rfl|hx
   ·have:=o.len;omega
   ·exact ih.texts x hx
  ·intro x hx
   rcases yP.1 hx with rfl|hx
   ·intro hop
    have hk:x.Kind=5\/x.Kind=2:=by
     unfold opK tk at hop
     simp only[yQ,beq_iff_eq]at hop
     omega
    rcases hk with hk|hk
    ·obtain⟨h1,h2⟩:=o.sign hk
     rw[h1]
     cases s with
     |nil=>simp
     |cons c r=>exact zMO c r h2
    ·intro hm
     exact(zBS 32 ((zzX o (.inr hk)).1 32 hm)).2.1 rfl
   ·exact ih.plain x hx
  ·intro x hx
   rcases yP.1 hx with rfl|hx
   ·intro hk b hb
    exact(zBS b ((zzX o hk).1 b hb)).1
   ·exact ih.ascii x hx
  ·intro x hx
   rcases yP.1 hx with rfl|hx
   ·intro hk e
    have:=(zzX o (.inr hk)).1 58 (by rw[e];exact qz7)
    exact(zBS 58 this).2.2 rfl
   ·exact ih.colon x hx
  ·intro x hx
   rcases yP.1 hx with rfl|hx
   ·intro hk
    have:=o.num hk
    exact⟨this.1,this.2.1⟩
   ·exact ih.nums x hx
  ·intro x hx
   rcases yP.1 hx with rfl|hx
   ·omega
   ·exact e3 x hx
theorem zBq(x:UInt8): ∀(p s b:Str),x∉p->p.isPrefixOf (s++x::b)=p.isPrefixOf s
 | [],s,b,_=>by cases s<;>rfl
 |a::p,[],b,h=>by
  simp only[yP,not_or]at h
  have:(a==x)=false:=yH.2 (λe=>h.1 e.symm)
  simp[List.isPrefixOf,this]
 |a::p,c::s,b,h=>by
  simp only[yP,not_or]at h
  simp only[yI,List.isPrefixOf,zBq x p s b h.2]
theorem zQF(b:Str): ∀s:Str,s.all zfY=true->zbz (s++32::b)=s.length
 | [],_=>by rw[List.nil_append,zkA,yK (by decide)];rfl
 |c::s,h=>by
  simp only[List.all_cons,qz4]at h
  rw[yI,zkA,yL h.1,zQF b s h.2];rfl
theorem zNx{s b:Str}{k:Nat}{x:UInt8}(h:s.length<k):x∈(s++x::b).take k:=by
 rw[List.mem_iff_getElem?]
 refine⟨s.length,?_⟩
 rw[List.getElem?_take_of_lt h,yG (yJ _)];simp
theorem zCl{x:UInt8}{L:List Str}(hL: ∀w∈L,x∉w){y:Str}(h:x∈y):L.contains y=false:=by
 rw[<-Bool.not_eq_true,List.contains_iff_mem]
 intro hm;exact hL y hm h
theorem zSG(c:UInt8)(s b:Str):zdv ((c::s)++32::b)=zdv (c::s):=by
 unfold zdv
 have e3:(2< ((c::s)++32::b).length/\zoB.contains (((c::s)++32::b).take 3)=true)=(2< (c::s).length/\zoB.contains ((c::s).take 3)=true):=by
  by_cases h:2< (c::s).length
  ·rw[List.take_append_of_le_length (by omega)]
   have:2< ((c::s)++32::b).length:=by simp only[qz5];omega
   simp only[this,h,true_and]
  ·rw[zCl (x:=32) (L:=zoB) (by decide) (zNx (by omega))]
   rw[eq_iff_iff]
   exact⟨λe=>(by cases e.2),λe=>absurd e.1 h⟩
 have e2:(1< ((c::s)++32::b).length/\zqJ.contains (((c::s)++32::b).take 2)=true)=(1< (c::s).length/\zqJ.contains ((c::s).take 2)=true):=by
  by_cases h:1< (c::s).length
  ·rw[List.take_append_of_le_length (by omega)]
   have:1< ((c::s)++32::b).length:=by simp only[qz5];omega
   simp only[this,h,true_and]
  ·rw[zCl (x:=32) (L:=zqJ) (by decide) (zNx (by omega))]
   rw[eq_iff_iff]
   exact⟨λe=>(by cases e.2),λe=>absurd e.1 h⟩
 simp only[e3,e2]
 rfl
def zoI(s:Str):Bool:=match s with
 | []=>false
 |c::r=> !zdS c&&(!decide (c=32\/c=9\/c=11\/c=12)&&(!([47,47]:Str).isPrefixOf (c::r)&& !([47,42]:Str).isPrefixOf (c::r)))
theorem ztK{s:Str}(h:zoI s=true)(m:Nat)(f:Bool):zcJ (m+1) s f=(s,f,true):=by
 cases s with
 |nil=>cases h
 |cons c r=>
  simp only[zoI,qz4,Bool.not_eq_true',decide_eq_false_iff_not]at h
  obtain⟨h1,h2,h3,h4⟩:=h
  unfold zcJ
  rw[yK (by rw[h1];simp),yK h2,yK (by rw[h3];simp),yK (by rw[h4];simp)]
theorem zTn(a b:UInt8):enc1 (a.toNat*256+b.toNat)=[a,b]:=by
 have h1:=a.toNat_lt;have h2:=b.toNat_lt
 unfold enc1
 have e1:(a.toNat*256+b.toNat)/256=a.toNat:=by omega
 have e2:(a.toNat*256+b.toNat)%256=b.toNat:=by omega
 rw[e1,e2];simp
theorem zDu: ∀u:Str,u.length%2=0->zeC (zaq u)=u
 | [],_=>rfl
 | [_],h=>by simp at h
 |a::b::r,h=>by
  have ih:=zDu r (by simp only[qz3]at h;omega)
  unfold zeC at ih⊢
  simp only[zaq,List.flatMap_cons,zTn,ih];rfl
theorem zBN{c:UInt8}{r:Str}(h:zfY c=true\/c=34):zoI (c::r)=true:=by
 have key: ∀b:Fin 256,zfY (UInt8.ofNat b.val)=true\/UInt8.ofNat b.val=34->zdS (UInt8.ofNat b.val)=false/\¬(UInt8.ofNat b.val=32\/UInt8.ofNat b.val=9\/UInt8.ofNat b.val=11\/UInt8.ofNat b.val=12)/\UInt8.ofNat b.val≠47:=by decide+kernel
 have:=key ⟨c.toNat,c.toNat_lt⟩
 rw[ofN]at this
 obtain⟨h1,h2,h3⟩:=this h
 have e:((47:UInt8)==c)=false:=yH.2 (λe=>h3 e.symm)
 simp only[zoI,h1,h2,List.isPrefixOf,e,decide_false,Bool.false_and,yN,Bool.and_self]
theorem zyH(o:Nat)(t:Str): ∀(s:Str) (a:Nat),zec o (s++t) a=(zec o s a).bind (zec o t)
 | [],a=>rfl
 |c::s,a=>by
  simp only[yI,zec]
  cases hexV c with
  |none=>rfl
  |some d=>
   simp only
   split
   ·exact zyH o t s _
   ·rfl
theorem zvV: ∀s:Str,zaq s=Go.D08.zaq s
 | []=>rfl
 | [_]=>rfl
 |a::b::r=>by
  show _::zaq r=_::Go.D08.zaq r
  rw[zvV r]
theorem zCd(l:List Nat):zaP l=Go.Gw.zaP l:=rfl
def Behind(r:Str):Prop:=r=[]\/∃b,r=32::b
theorem zQ4{r:Str}(hr:Behind r){s:Str}(h:s.all zfY=true):zbz (s++r)=s.length:=by
 rcases hr with rfl| ⟨b,rfl⟩
 ·rw[List.append_nil];exact(zBJ s).2 h
 ·exact zQF b s h
theorem zTM{r:Str}(hr:Behind r)(c:UInt8)(s:Str):zdv ((c::s)++r)=zdv (c::s):=by
 rcases hr with rfl| ⟨b,rfl⟩
 ·rw[List.append_nil]
 ·exact zSG c s b
theorem zVu{r:Str}(hr:Behind r)(s:Str):(s++r)[s.length]? ≠some 46:=by
 rcases hr with rfl| ⟨b,rfl⟩
 ·simp
 ·rw[yG (yJ _)];simp
structure WR (w:Str) (t:Tok):Prop where
 one: ∀r,Behind r->zjs (w++r)=some (t,w.length)
 stop: ∀r,Behind r->zoI (w++r)=true
theorem zB0{r:Str}(hr:Behind r){s:Str}(h:zoI s=true):zoI (s++r)=true:=by
 rcases hr with rfl| ⟨b,rfl⟩
 ·rw[List.append_nil];exact h
 ·cases s with
  |nil=>cases h
  |cons c r=>
   rw[yI]
   simp only[zoI]at h⊢
   rw[<-yI,zBq 32 _ _ _ (by decide),zBq 32 _ _ _ (by decide)]
   exact h
theorem zrj{w:Str}(h:zfr w=true):WR w {Kind:=if zlc w=true then 2 else 1,Text:=w,Num:=0,At:=0,Fresh:=false}:=by
 cases w with
 |nil=>cases h
 |cons c s=>
  simp only[zfr,qz4,yT]at h
  obtain⟨h32,hl,hall⟩:=h
  refine⟨λr hr=>?_,λr hr=>zB0 hr (zBN (.inl (by simp[zfY,hl])))⟩
  have hrow:=zQ4 hr hall
  have htake:((c::s)++r).take (c::s).length=c::s:=List.take_left
  rw[yI]at hrow htake⊢
  unfold zjs
  simp only[hl,yB,hrow,htake,show ¬(32< (c::s).length) by omega,yA]
theorem zFc: ∀(k u:Nat),u<k->zec 10 (Lib.decDigits u) 0=some u/\∃c r,Lib.decDigits u=c::r/\zfO c=true/\(c=48->r=[])
 |0,u,h=>by omega
 |k+1,u,h=>by
  have hd: ∀d,d<10->(UInt8.ofNat (48+d)).toNat=48+d:=λd hd=>by rw[UInt8.toNat_ofNat'];omega
  have hv: ∀d,d<10->hexV (UInt8.ofNat (48+d))=some d:=λd h=>by unfold hexV;rw[hd d h,yL (by omega)];congr 1;omega
  have hg: ∀d,d<10->zfO (UInt8.ofNat (48+d))=true:=λd h=>by unfold zfO;rw[hd d h];simp;omega
  rw[Lib.decDigits]
  split
  ·rename_i hu
   refine⟨?_,_,_,rfl,hg u hu,λ_=>rfl⟩
   simp only[zec,hv u hu,hu,yB]
   simp
  ·rename_i hu
   obtain⟨h1,c,r,h2,h3,h4⟩:=zFc k (u/10) (by omega)
   refine⟨?_,c,r++[UInt8.ofNat (48+u%10)],by rw[h2];rfl,h3,λe=>?_⟩
   ·rw[zyH,h1]
    simp only[qz1,zec,hv (u%10) (by omega),show u%10<10 by omega,yB]
    congr 1;omega
   ·exfalso
    have hr:=h4 e
    rw[e,hr]at h2
    have h6:=(znv (u/10+1) (u/10) (by omega)).1
    rw[h2]at h6
    have h7:zIz [48]=0:=by decide
    rw[h7]at h6;omega
theorem zIv{n:Nat}(h:n<=9007199254740991):WR (Lib.decDigits n) {Kind:=3,Text:=[],Num:=(n:Int),At:=0,Fresh:=false}:=by
 obtain⟨h1,c,s,h2,h3,h48⟩:=zFc (n+1) n (by omega)
 have hd:=(znv (n+1) n (by omega)).2.1
 rw[h2]at h1 hd⊢
 have hcl:isLet c=false:=by
  have key: ∀b:Fin 256,zfO (UInt8.ofNat b.val)=true->isLet (UInt8.ofNat b.val)=false:=by decide+kernel
  have:=key ⟨c.toNat,c.toNat_lt⟩
  rw[ofN]at this
  exact this h3
 have hall:(c::s).all zfY=true:=by
  rw[List.all_eq_true]
  intro x hx
  unfold zfY;rw[hd x hx,Bool.or_true]
 refine⟨λr hr=>?_,λr hr=>zB0 hr (zBN (.inl (by unfold zfY;rw[h3,Bool.or_true])))⟩
 have hrow:=zQ4 hr hall
 have htake:((c::s)++r).take (c::s).length=c::s:=List.take_left
 have hget:=zVu hr (c::s)
 have hnum:zrz ((c::s)++r)=some (n,(c::s).length):=by
  unfold zrz
  rw[hrow,htake,yK hget]
  have hD:zBh (c::s)=some n:=by
   unfold zBh
   have n1: ¬((c::s).take 2=[48,120]\/(c::s).take 2=[48,88]):=by
    cases s with
    |nil=>simp
    |cons d r=>
     have hdd:=hd d (by simp)
     simp only[List.take_succ_cons,List.take_zero,List.cons.injEq,and_true]
     rintro(⟨_,rfl⟩| ⟨_,rfl⟩)
     ·exact absurd hdd (by decide)
     ·exact absurd hdd (by decide)
   have n2: ¬(1< (c::s).length/\(c::s).head?=some 48):=by
    rintro⟨l1,l2⟩
    simp only[List.head?_cons,Option.some.injEq]at l2
    rw[h48 l2]at l1;simp at l1
   rw[yK (λh=>n1 h.2),yK n2,h1]
  rw[hD]
  simp only[h,yB]
 rw[yI]at hnum⊢
 unfold zjs
 simp only[hcl,qz2,yA,h3,yB,hnum,Option.map_some]
theorem zG9{u:Str}(he:u.length%2=0):WR (34::(zaP (zaq u)++[34])) {Kind:=4,Text:=u,Num:=0,At:=0,Fresh:=false}:=by
 refine⟨λr hr=>?_,λr hr=>zB0 hr (zBN (.inr rfl))⟩
 have hrd:zfJ (34::(zaP (zaq u)++[34])++r)=(u,(((34::(zaP (zaq u)++[34])).length:Nat):Int),0):=by
  have hg:=zIE r (zaq u) [] ((zaP (zaq u)++34::r).length+1) (zmJ u) (by have:=zB7 (zaq u);rw[qz5];omega)
  have e:34::(zaP (zaq u)++[34])++r=34::(zaP (zaq u)++34::r):=by simp
  rw[e]
  unfold zfJ
  simp only[or_true,yB]
  rw[hg]
  simp only[List.nil_append,zDu u he]
  congr 2
  simp only[qz3,qz5,qz6];omega
 rw[yI]at hrd⊢
 have c1:isLet 34=false:=by decide
 have c2:zfO 34=false:=by decide
 unfold zjs
 simp only[c1,c2,qz2,yA,or_true,yB,hrd]
 have hne: ¬((((34::(zaP (zaq u)++[34])).length:Nat):Int)=0):=by simp;omega
 simp only[hne,yA,Int.toNat_natCast]
def zKZ(w:Str):Bool:=match w with
 | []=>false
 |c::s=> !isLet c&&(!zfO c&&(!decide (c=39\/c=34)&&(zoI w&&zdv w==w.length)))
theorem zDU{w:Str}(h:zKZ w=true):WR w {Kind:=5,Text:=w,Num:=0,At:=0,Fresh:=false}:=by
 cases w with
 |nil=>cases h
 |cons c s=>
  simp only[zKZ,qz4,Bool.not_eq_true',decide_eq_false_iff_not,beq_iff_eq]at h
  obtain⟨h1,h2,h3,h4,h5⟩:=h
  refine⟨λr hr=>?_,λr hr=>zB0 hr h4⟩
  have hs:=zTM hr c s
  have htake:((c::s)++r).take (c::s).length=c::s:=List.take_left
  have h0: ¬(c::s).length=0:=by simp
  rw[yI]at hs htake⊢
  unfold zjs
  simp only[h1,h2,h3,hs,h5,htake,h0,qz2,yA]
theorem zDx: ∀w∈zf7,zKZ w=true\/zfr w=true:=by decide+kernel
def zlX(w:Str):Prop:=zf7.contains w=true\/zfr w=true\/(∃n,n<=9007199254740991/\w=Lib.decDigits n)\/∃u:Str,u.length%2=0/\w=34::(zaP (zaq u)++[34])
theorem zKh{w:Str}(h:zlX w): ∃t,WR w t/\t.Fresh=false:=by
 rcases h with h|h| ⟨n,hn,rfl⟩| ⟨u,hu,rfl⟩
 ·rcases zDx w (by simpa using h)with h|h
  ·exact⟨_,zDU h,rfl⟩
  ·exact⟨_,zrj h,rfl⟩
 ·exact⟨_,zrj h,rfl⟩
 ·exact⟨_,zIv hn,rfl⟩
 ·exact⟨_,zG9 hu,rfl⟩
theorem WR.uniq{w:Str}{t t':Tok}(h:WR w t)(h':WR w t'):t=t':=by
 have h1:=h.one [] (.inl rfl)
 have h2:=h'.one [] (.inl rfl)
 rw[h1]at h2
 simpa using h2
theorem zOp{w:Str}(h:zlX w){t:Tok}(hw:WR w t):opK (tk t)=true->t.Text=w:=by
 rcases h with h|h| ⟨n,hn,rfl⟩| ⟨u,hu,rfl⟩
 ·rcases zDx w (by simpa using h)with h|h
  ·rw[hw.uniq (zDU h)];exact λ_=>rfl
  ·rw[hw.uniq (zrj h)];exact λ_=>rfl
 ·rw[hw.uniq (zrj h)];exact λ_=>rfl
 ·rw[hw.uniq (zIv hn)];exact λe=>by cases e
 ·rw[hw.uniq (zG9 hu)];exact λe=>by cases e
def cT(w:Str):Go.D08.Tok:=match zjs w with|some p=>if(!opK (tk p.1)||p.1.Text==w)=true then tk p.1 else⟨6,w,0,false⟩|none=>⟨6,w,0,false⟩
theorem WR.cT{w:Str}{t:Tok}(h:WR w t)(ho:opK (tk t)=true->t.Text=w):cT w=tk t:=by
 have:=h.one [] (.inl rfl)
 rw[List.append_nil]at this
 unfold Go.D08.U.cT
 rw[this]
 refine yL ?_
 cases h:opK (tk t)with
 |false=>rfl
 |true=>simp[ho h]
theorem zO4(w:Str):(cT w).fresh=false:=by
 unfold cT
 cases h:zjs w with
 |none=>rfl
 |some p=>
  simp only
  split
  ·exact(zoc h).2.2.2.2.2
  ·rfl
theorem zBw{w:Str}(h:zfr w=true):cT w=⟨if zlc w=true then 2 else 1,w,0,false⟩:=by
 rw[(zrj h).cT λ_=>rfl]
 unfold tk
 simp only
 congr 1
 split<;>rfl
theorem zGp:Cls cT where
 op:=λw hw=>by
  rcases zDx w hw with h|h
  ·rw[(zDU h).cT λ_=>rfl];exact⟨rfl,rfl⟩
  ·have hword: ∀w∈zf7,zfr w=true->zlc w=true:=by decide+kernel
   rw[zBw h,hword w hw h];exact⟨rfl,rfl⟩
 name:=λs h=>by
  unfold zbN at h
  rw[qz4,zE0]at h
  rw[zBw h.1,show zlc s=false by simpa using h.2]
  exact⟨rfl,rfl⟩
 ident:=λs h=>by
  rw[zBw h]
  refine⟨?_,rfl⟩
  cases zlc s
  ·exact .inl rfl
  ·exact .inr rfl
 num:=λn h1 h2=>by
  rw[zoC n h1,(zIv (n:=n.toNat) (by omega)).cT λe=>by cases e]
  exact⟨rfl,by show((n.toNat:Nat):Int)=n;omega⟩
 str:=λs he hs=>by
  rw[zz8 he hs,<-zvV,<-zCd,(zG9 (u:=s) (by unfold zhq at he;simpa using he)).cT λe=>by cases e]
  exact⟨rfl,rfl⟩
 fresh:=zO4
 opt:=λs h=>by
  unfold cT at h⊢
  cases ho:zjs s with
  |none=>rw[ho]at h
  |some p=>
   rw[ho]at h
   simp only at h⊢
   split at h
   ·rename_i hc
    rw[yL hc]
    rw[h]at hc
    have:p.1.Text=s:=by simpa using hc
    exact this
   ·cases h
theorem zL6{s:Str}(h:zoI s=true):zcJ ((32::s).length+1) (32::s) false=zcJ (s.length+1) s false:=by
 rw[ztK h]
 rw[qz3]
 conv=>lhs;unfold zcJ
 rw[yK (by decide),yL (by decide)]
 exact ztK h _ _
theorem zVe(t:Tok)(f:Bool)(n:Int)(h:t.Fresh=f):tk ((t.fresh f).at_ n)=tk t:=by
 unfold tk Tok.fresh Tok.at_
 rw[h]
theorem zFj(len:Nat): ∀(ws:List Str) (m:Nat),(∀w∈ws,zlX w)->(Lib.join ws [32]).length<m->∃l,zjY m (Lib.join ws [32]) false= .inl l/\(zk1 len l).map tk=ws.map cT++[zmN]
 | [],0,_,h=>by omega
 | [],m+1,_,_=>⟨[(zQa false,0)],rfl,rfl⟩
 |w::ws,0,_,h=>by omega
 |w::ws,m+1,hw,hm=>by
  obtain⟨t,hwr,hf⟩:=zKh (hw w qz7)
  have hct:cT w=tk t:=hwr.cT (zOp (hw w qz7) hwr)
  obtain⟨r,hj,hr⟩:=zCn w ws
  have hbeh:Behind r:=by
   rcases hr with⟨_,h⟩| ⟨_,h⟩
   ·exact .inl h
   ·exact .inr ⟨_,h⟩
  have hone:=hwr.one r hbeh
  have hstop:=hwr.stop r hbeh
  have hne: ¬w++r=[]:=by intro e;rw[e]at hstop;cases hstop
  have hlen:w.length≠0:=by have:=(zoc hone).1;omega
  rw[hj]at hm⊢
  rw[qz5]at hm
  have hdrop:(w++r).drop w.length=r:=List.drop_left
  have go: ∃l,zjY m r false= .inl l/\(zk1 len l).map tk=ws.map cT++[zmN]:=by
   rcases hr with⟨rfl,rfl⟩| ⟨hn,rfl⟩
   ·obtain⟨k,rfl⟩: ∃k,m=k+1:=⟨m -1,by omega⟩
    exact⟨[(zQa false,0)],rfl,rfl⟩
   ·obtain⟨l,h1,h2⟩:=zFj len ws m (λv hv=>hw v (qz8 _ hv)) (by simp only[qz3]at hm;omega)
    refine⟨l,?_,h2⟩
    rw[<-h1]
    refine zNp (by omega) (by simp only[qz3]at hm;omega) (zL6 ?_)
    rcases ws with _| ⟨v,vs⟩
    ·exact absurd rfl hn
    ·obtain⟨t2,hwr2,_⟩:=zKh (hw v (qz8 _ qz7))
     obtain⟨r2,hj2,hr2⟩:=zCn v vs
     rw[hj2]
     exact hwr2.stop r2 (by
      rcases hr2 with⟨_,h⟩| ⟨_,h⟩
      ·exact .inl h
      ·exact .inr ⟨_,h⟩)
  obtain⟨l,h1,h2⟩:=go
  refine⟨(t.fresh false,(w++r).length)::l,?_,?_⟩
  ·rw[zjY,ztK hstop]
   simp only[Bool.true_eq_false,yA,hne,hone,hdrop,h1]
  ·rw[ztG,List.map_cons,List.map_cons,h2,zVe t false _ hf,hct];rfl
theorem zKW{ws:List Str}(hw: ∀w∈ws,zlX w)(hl:(Lib.join ws [32]).length<=4096): ∃L,zjU (Lib.join ws [32])=(L,0,0)/\L.map tk=ws.map cT++[zmN]:=by
 obtain⟨l,h1,h2⟩:=zFj (Lib.join ws [32]).length ws ((Lib.join ws [32]).length+1) hw (by omega)
 refine⟨zk1 (Lib.join ws [32]).length l,?_,h2⟩
 unfold zjU
 rw[yK (by omega),h1]
end Go.D08.U
namespace Go.D08
open Go Go.Gw Go.Dn
set_option maxRecDepth 100000
def zdM(l:List Str):Prop:=∀w∈l,U.zlX w
theorem all_nil:zdM []:=λ_ h=>by cases h
theorem all_cons{w:Str}{l:List Str}(h:U.zlX w)(hl:zdM l):zdM (w::l):=λv hv=>by
 rcases yP.1 hv with rfl|hv
 ·exact h
 ·exact hl v hv
theorem zax{a b:List Str}(ha:zdM a)(hb:zdM b):zdM (a++b):=λv hv=>by
 rcases List.mem_append.1 hv with hv|hv
 ·exact ha v hv
 ·exact hb v hv
theorem zV{w:Str}{l:List Str}(h:zf7.contains w=true)(hl:zdM l):zdM (w::l):=all_cons (.inl h) hl
theorem zqP{w:Str}{l:List Str}(h:w∈l)(hl: ∀w∈l,zf7.contains w=true):U.zlX w:= .inl (hl w h)
theorem zEv{w:Str}(h:zfr w=true):U.zlX w:= .inr (.inl h)
theorem zl0{w:Str}(h:zbN w=true):U.zlX w:=by
 unfold zbN at h
 rw[qz4]at h
 exact zEv h.1
theorem zRz{n:Int}(h:0<=n/\n<=9007199254740991):U.zlX (Lib.itoa n):=by
 rw[zoC n h.1]
 exact .inr (.inr (.inl ⟨_,by omega,rfl⟩))
theorem zEI{s:Str}(he:zhq s=true)(hs:s.length<=100000000):U.zlX (zdk s):=by
 rw[zz8 he hs,<-U.zvV,<-U.zCd]
 exact .inr (.inr (.inr ⟨s,by unfold zhq at he;simpa using he,rfl⟩))
theorem zgm{y:Node}(h: ∀no,zdM ((tkN y).ex no))(least:Int)(no:Bool):zdM (atT (tkN y) least no):=by
 unfold atT
 split
 ·exact zV (by decide) (zax (h false) (zV (by decide) all_nil))
 ·exact h no
theorem zm6{ls:List Node}{f:Tk->List Str}(h: ∀k∈ls,zdM (f (tkN k))):zdM (commas f (tkL ls)):=by
 rw[zyO]
 rcases ls with _| ⟨a,r⟩
 ·exact all_nil
 ·refine zax (h a qz7) λw hw=>?_
  obtain⟨q,hq,hw⟩:=List.mem_flatMap.1 hw
  exact zV (by decide) (h q (qz8 _ hq)) w hw
theorem zoS{ls:List Node}(h: ∀k∈ls,zdM (tkN k).st):zdM (zaa (tkL ls)):=λw hw=>by
 unfold zaa at hw
 rw[zAD]at hw
 obtain⟨q,hq,hw⟩:=List.mem_flatMap.1 hw
 obtain⟨k,hk,rfl⟩:=List.mem_map.1 hq
 exact h k hk w hw
theorem zOs{ns:List Str}(h: ∀s∈ns,zbN s=true):zdM (namesT ns):=by
 rcases ns with _| ⟨s,r⟩
 ·exact all_nil
 ·refine all_cons (zl0 (h s qz7)) λw hw=>?_
  obtain⟨q,hq,hw⟩:=List.mem_flatMap.1 hw
  exact zV (by decide) (all_cons (zl0 (h q (qz8 _ hq))) all_nil) w hw
theorem zKt{s:Str}(h:s=[]\/zbN s=true):zdM (if(s==([]:Str))=true then[]else[s]):=by
 rcases h with h|h
 ·rw[h];exact all_nil
 ·split
  ·exact all_nil
  ·exact all_cons (zl0 h) all_nil
theorem zIq{x:Node}(ho:zao x=true)(hk:x.Kind=10\/x.Kind=39)(h: ∀k∈x.L,zdM (tkN k).st):zdM (zf0 x (tkL x.L)):=by
 have hns: ∀s∈x.Names,zbN s=true:=by
  simp only[zao,qz4]at ho
  simpa using ho.2.2.2.2
 have hnm:x.Name=[]\/zbN x.Name=true:=by
  have:=(zaO ho).1
  rcases hk with e|e
  ·simpa [zab,e]using this
  ·exact .inr (by simpa [zab,e]using this)
 unfold zf0
 exact zV (by decide) (zax (zKt hnm) (zV (by decide) (zax (zOs hns) (zV (by decide) (zV (by decide) (zax (zoS h) (zV (by decide) all_nil)))))))
structure TA (x:Node):Prop where
 ex:zS x 101=true->∀no,zdM ((tkN x).ex no)
 st:zhy x=true->zdM (tkN x).st
 it:zdC x=true->zdM (zah false (tkN x))
 de:zS x 100=true->∀no,zdM (declT no (tkN x))
 bg:ziA x=true->∀least no,zdM (zaG (tkN x) least no)
theorem TA.at_{x:Node}(h:TA x)(ho:zS x 101=true)(least:Int)(no:Bool):zdM (atT (tkN x) least no):=zgm (h.ex ho) least no
theorem zMc(x:Node)(hb:zU x<=2097152)(h: ∀k∈x.L,TA k)(ho:zS x 101=true)(no:Bool):zdM ((tkN x).ex no):=by
 obtain⟨he,hm⟩:=zcG ho
 have a2:=zaA x
 rcases zgq he with e|e|e|e|e|e|e|e|e|e|e|e|e|e|e|e|e|e|e|e
 ·rw[zLt e,qz4]at hm
  have hn:0<=x.Num/\x.Num<=9007199254740991:=by simpa [zbH,e]using(zaO hm.1).2
  rw[zL2 e];exact all_cons (zRz hn) all_nil
 ·rw[zLv e,qz4]at hm
  rw[zK1 e];exact all_cons (zEI (zss hm.1) (by omega)) all_nil
 ·rw[zQX e,qz4]at hm
  rw[zMw e];exact all_cons (zl0 (by simpa [zab,e]using(zaO hm.1).1)) all_nil
 ·rw[zLo e];exact zV (by decide) all_nil
 ·rw[zLl e];exact zV (by decide) all_nil
 ·rw[zIF e]
  cases x.Num==1
  ·exact zV (by decide) all_nil
  ·exact zV (by decide) all_nil
 ·rw[zLe e,qz4]at hm
  rw[zBR e];exact zV (by decide) (zax (zm6 λk hk=>(h k hk).it (zvx (zfv hm.2 k hk))) (zV (by decide) all_nil))
 ·rw[zLn e,qz4]at hm
  rw[zBn e];exact zV (by decide) (zax (zm6 λk hk=>(h k hk).it (zM8 (zfv hm.2 k hk))) (zV (by decide) all_nil))
 ·rw[zIS e,qz4]at hm
  rw[zv8 e];exact zIq hm.1 (.inl e) λk hk=>(h k hk).st (zBG (zfv hm.2 k hk))
 ·rw[zCu e,qz4]at hm
  obtain⟨a,hL,h1⟩:=zdw hm.2
  rw[zF8 e,hL,tk0]
  exact zax ((h a (by rw[hL];simp)).at_ h1 _ _) (zV (by decide) (all_cons (zEv (by simpa [zab,e]using(zaO hm.1).1)) all_nil))
 ·rw[zCG e,qz4]at hm
  obtain⟨a,b,hL,h1,h2⟩:=zdP hm.2
  rw[zF2 e,hL,tk0,tk1]
  exact zax ((h a (by rw[hL];simp)).at_ h1 _ _) (zV (by decide) (zax ((h b (by rw[hL];simp)).at_ h2 _ _) (zV (by decide) all_nil)))
 ·rw[zHt e,qz4]at hm
  obtain⟨a,l,hL,h1,h2⟩:=zhO hm.2
  rw[zGm e,hL,tk0,tkT]
  exact zax ((h a (by rw[hL];simp)).at_ h1 _ _) (zV (by decide) (zax (zm6 λk hk=>(h k (by rw[hL];exact qz8 _ hk)).it (zvx (h2 k hk))) (zV (by decide) all_nil)))
 ·rw[zHv e,qz4]at hm
  obtain⟨a,l,hL,h1,h2⟩:=zhO hm.2
  rw[zFU e,hL,tk0,tkT]
  exact zV (by decide) (zax ((h a (by rw[hL];simp)).at_ h1 _ _) (zV (by decide) (zax (zm6 λk hk=>(h k (by rw[hL];exact qz8 _ hk)).it (zvx (h2 k hk))) (zV (by decide) all_nil))))
 ·rw[zHS e,qz4]at hm
  obtain⟨a,hL,h1⟩:=zdw hm.2
  have hn:x.Name∈zv0:=by simpa [zab,e]using(zaO hm.1).1
  rw[zF1 e,hL,tk0]
  exact all_cons (zqP hn (by decide)) ((h a (by rw[hL];simp)).at_ h1 _ _)
 ·rw[zC9 e,qz4]at hm
  obtain⟨a,hL,h1⟩:=zdw hm.2
  have hn:x.Name∈zwl:=by simpa [zab,e]using(zaO hm.1).1
  have ha:=(h a (by rw[hL];simp)).at_ (zqV h1) 11 no
  rw[zC6 e,hL,tk0]
  split
  ·exact all_cons (zqP hn (by decide)) ha
  ·exact zax ha (all_cons (zqP hn (by decide)) all_nil)
 ·rw[zIV e,qz4]at hm
  obtain⟨a,b,hL,h1,h2⟩:=zdP hm.2
  have hn:x.Name∈zAg:=by simpa [zab,e]using(zaO hm.1).1
  rw[zF4 e,hL,tk0,tk1]
  exact zax ((h a (by rw[hL];simp)).at_ h1 _ _) (all_cons (zqP hn (by decide)) ((h b (by rw[hL];simp)).at_ h2 _ _))
 ·rw[zCf e,qz4]at hm
  obtain⟨a,b,hL,h1,h2⟩:=zdP hm.2
  have hn:x.Name∈zAC:=by simpa [zab,e]using(zaO hm.1).1
  rw[zGk e,hL,tk0,tk1]
  exact zax ((h a (by rw[hL];simp)).at_ h1 _ _) (all_cons (zqP hn (by decide)) ((h b (by rw[hL];simp)).at_ h2 _ _))
 ·rw[zIK e,qz4]at hm
  obtain⟨a,b,d,hL,h1,h2,h3⟩:=zr9 hm.2
  rw[zF6 e,hL,tk0,tk1,tk2]
  exact zax ((h a (by rw[hL];simp)).at_ h1 _ _) (zV (by decide) (zax ((h b (by rw[hL];simp)).at_ h2 _ _) (zV (by decide) ((h d (by rw[hL];simp)).at_ h3 _ _))))
 ·rw[zIG e,qz4]at hm
  obtain⟨a,b,hL,h1,h2⟩:=zdP hm.2
  have hn:x.Name∈zxq:=by simpa [zab,e]using(zaO hm.1).1
  rw[zF5 e,hL,tk0,tk1]
  exact zax ((h a (by rw[hL];simp)).at_ (zqV h1) _ _) (all_cons (zqP hn (by decide)) ((h b (by rw[hL];simp)).at_ h2 _ _))
 ·rw[zHo e,qz4]at hm
  obtain⟨a,b,hL,h1,h2⟩:=zdP hm.2
  rw[zF0 e,hL,tk0,tk1]
  exact zax ((h a (by rw[hL];simp)).at_ h1 _ _) (zV (by decide) ((h b (by rw[hL];simp)).at_ h2 _ _))
theorem zRb(x:Node)(h: ∀k∈x.L,TA k)(hx: ∀no,zS x 101=true->zdM ((tkN x).ex no))(ho:ziA x=true)(least:Int)(no:Bool):zdM (zaG (tkN x) least no):=by
 rcases zBi ho with e|e|e
 ·rw[zw7 e];exact all_nil
 ·rw[zz0 e]
  have hm:=zbW (c:=118) ho
  rw[zGY e,qz4]at hm
  obtain⟨d,l,hL,h1,h2⟩:=zhO hm.2
  have hk: ∀k∈x.L,zS k 100=true:=by
   rw[hL];intro k hk
   rcases yP.1 hk with rfl|hk
   ·exact h1
   ·exact h2 k hk
  exact zV (by decide) (zm6 λk hk1=>(h k hk1).de (hk k hk1) no)
 ·rw[zqN (zcG e).1]
  exact zgm (λno=>hx no e) least no
theorem zr2{w:Str}{k:Node}(hw:zf7.contains w=true)(h:TA k)(ho:zS k 101=true):zdM (zc2 w (tkN k)):=by
 unfold zc2
 exact zV hw (zV (by decide) (zax (h.at_ ho _ _) (zV (by decide) all_nil)))
theorem zPI{l:List Str}(h:zdM l):zdM (zi8 l):=by
 unfold zi8
 split
 ·exact all_nil
 ·split
  ·exact zV (by decide) (zax h (zV (by decide) all_nil))
  ·exact h
theorem zuY(x:Node)(hk:x.Kind=31\/x.Kind=32\/x.Kind=33\/x.Kind=34\/x.Kind=40)(ho:zao x=true):zdM (zhj x):=by
 have hnm:x.Name=[]\/zbN x.Name=true:=by
  have:=(zaO ho).1
  rcases hk with e|e|e|e|e
  ·simpa [zab,e]using this
  ·simpa [zab,e]using this
  ·exact .inl (zeU ho (by rw[e];decide))
  ·exact .inl (zeU ho (by rw[e];decide))
  ·exact .inl (zeU ho (by rw[e];decide))
 unfold zhj
 refine zax ?_ (zKt hnm)
 rcases hk with e|e|e|e|e<;>rw[e]
 ·exact zV (by decide) all_nil
 ·exact zV (by decide) all_nil
 ·exact zV (by decide) all_nil
 ·exact zV (by decide) all_nil
 ·exact all_nil
theorem zGK{ls:List Node}(h: ∀k∈ls,TA k)(ho: ∀k∈ls,zS k 101=true):zdM ((tkL ls).flatMap λk=>atT k 0 false):=λw hw=>by
 rw[zAD]at hw
 obtain⟨q,hq,hw⟩:=List.mem_flatMap.1 hw
 obtain⟨k,hk,rfl⟩:=List.mem_map.1 hq
 exact(h k hk).at_ (ho k hk) 0 false w hw
theorem zVh(x:Node)(h: ∀k∈x.L,TA k)(ho:zhy x=true):zdM (tkN x).st:=by
 obtain⟨hm,hK⟩:=zLF ho
 have hend:zdM [[59]]:=zV (by decide) all_nil
 rcases hK with e|e|e|e|e|e|e|e|e|e|e|e|e|e|e|e|e|e
 ·have hbg:=zRb x h (λno h101=>by
   have:=(zcG h101).1
   rw[e]at this
   exact absurd this (by decide)) (zHh e hm) 0 false
  rw[zz0 e]at hbg
  rw[zFZ e];exact zax hbg hend
 ·rw[zHE e,qz4]at hm
  obtain⟨a,hL,h1⟩:=zdw hm.2
  rw[zLI e,hL,tk0];exact zax (zPI ((h a (by rw[hL];simp)).at_ h1 _ _)) hend
 ·rw[zGM e,qz4]at hm
  rw[zDa e];exact zV (by decide) (zax (zoS λk hk=>(h k hk).st (zBT (zfv hm.2 k hk))) (zV (by decide) all_nil))
 ·rw[zIy e,qz4]at hm
  rcases zK3 hm.2 with⟨a,b,hL,h1,h2⟩| ⟨a,b,d,hL,h1,h2,h3⟩
  ·rw[zAI e,hL,tk0,tk1,zQp]
   exact zax (zr2 (by decide) (h a (by rw[hL];simp)) h1) (zax ((h b (by rw[hL];simp)).st (ziH h2)) all_nil)
  ·rw[zAI e,hL,tk0,tk1,tk2]
   exact zax (zr2 (by decide) (h a (by rw[hL];simp)) h1) (zax ((h b (by rw[hL];simp)).st (ziH h2)) (zV (by decide) ((h d (by rw[hL];simp)).st (ziH h3))))
 ·rw[zIL e,qz4]at hm
  obtain⟨a,b,hL,h1,h2⟩:=zdP hm.2
  rw[zLx e,hL,tk0,tk1]
  exact zax (zr2 (by decide) (h a (by rw[hL];simp)) h1) ((h b (by rw[hL];simp)).st (ziH h2))
 ·rw[zHM e,qz4]at hm
  obtain⟨a,b,hL,h1,h2⟩:=zdP hm.2
  rw[zK4 e,hL,tk0,tk1]
  exact zV (by decide) (zax ((h a (by rw[hL];simp)).st (ziH h1)) (zax (zr2 (by decide) (h b (by rw[hL];simp)) h2) hend))
 ·rw[zHI e,qz4]at hm
  obtain⟨a,b,d,q,hL,h1,h2,h3,h4⟩:=zGD hm.2
  rw[zK8 e,hL,tk0,tk1,tk2,tk3]
  exact zV (by decide) (zV (by decide) (zax ((h a (by rw[hL];simp)).bg (zEm h1) _ _) (zV (by decide) (zax ((h b (by rw[hL];simp)).bg (zqY h2) _ _) (zV (by decide) (zax ((h d (by rw[hL];simp)).bg (zqY h3) _ _) (zV (by decide) ((h q (by rw[hL];simp)).st (ziH h4)))))))))
 ·rw[zGT e,qz4]at hm
  obtain⟨a,b,q,hL,h1,h2,h3⟩:=zr9 hm.2
  rw[zMD e,hL,tk0,tk1,tk2]
  exact zV (by decide) (zV (by decide) (zax ((h a (by rw[hL];simp)).bg (zKO h1) _ _) (zV (by decide) (zax ((h b (by rw[hL];simp)).at_ h2 _ _) (zV (by decide) ((h q (by rw[hL];simp)).st (ziH h3)))))))
 ·rw[zGo e,qz4]at hm
  rw[zLQ e,zgo hm.2];exact zax (zuY x (by omega) hm.1) (zax (by simp[tkL];exact all_nil) hend)
 ·rw[zIr e,qz4]at hm
  rw[zMz e,zgo hm.2];exact zax (zuY x (by omega) hm.1) (zax (by simp[tkL];exact all_nil) hend)
 ·rw[zIm e,qz4]at hm
  rw[zGi e]
  refine zax (zuY x (by omega) hm.1) (zax (zGK h ?_) hend)
  rcases zHn hm.2 with hL| ⟨a,hL,h1⟩
  ·rw[hL];simp
  ·rw[hL];simpa using h1
 ·rw[zG0 e,qz4]at hm
  obtain⟨a,hL,h1⟩:=zdw hm.2
  rw[zLD e]
  exact zax (zuY x (by omega) hm.1) (zax (zGK h (by rw[hL];simpa using h1)) hend)
 ·rw[zH9 e,qz4]at hm
  obtain⟨a,b,d,hL,h1,h2,h3,h4⟩:=zHC hm.2
  have hnm:=(zaO hm.1).1
  unfold zab at hnm
  rw[e,hL]at hnm
  have hnm:(if(b.Kind==25)=true then zbN x.Name else x.Name==([]:Str))=true:=hnm
  rw[zMt e,hL,tk0,tk1,tk2,zdA,zdA]
  refine zV (by decide) (zax ((h a (by rw[hL];simp)).st (ziH h1)) (zax ?_ ?_))
  ·rcases zyT h2 with⟨k,h5⟩|k
   ·rw[k]at hnm⊢
    exact zV (by decide) (zV (by decide) (all_cons (zl0 hnm) (zV (by decide) ((h b (by rw[hL];simp)).st (ziH h5)))))
   ·rw[k];exact all_nil
  ·rcases zyT h3 with⟨k,h5⟩|k
   ·rw[k]
    exact zV (by decide) ((h d (by rw[hL];simp)).st (ziH h5))
   ·rw[k];exact all_nil
 ·rw[zHx e,qz4]at hm
  obtain⟨a,l,hL,h1,h2⟩:=zzW hm.2
  rw[zLE e,hL,tk0,tkT]
  exact zax (zr2 (by decide) (h a (by rw[hL];simp)) h1) (zV (by decide) (zax (zoS λk hk=>(h k (by rw[hL];exact qz8 _ hk)).st (zUv (zrD h2 k hk))) (zV (by decide) all_nil)))
 ·rw[zG4 e,qz4]at hm
  obtain⟨a,l,hL,h1,h2⟩:=zhO hm.2
  rw[zK9 e,hL,tk0,tkT]
  refine zax (all_cons ?_ ((h a (by rw[hL];simp)).bg (zqY h1) _ _)) (zV (by decide) (zoS λk hk=>(h k (by rw[hL];exact qz8 _ hk)).st (zBT (h2 k hk))))
  split
  ·exact .inl (by decide)
  ·exact .inl (by decide)
 ·rw[zH1 e,qz4]at hm
  obtain⟨a,hL,h1⟩:=zdw hm.2
  rw[zMy e,hL,tk0]
  exact all_cons (zl0 (by simpa [zab,e]using(zaO hm.1).1)) (zV (by decide) ((h a (by rw[hL];simp)).st (zBT h1)))
 ·rw[zGV e,qz4]at hm
  rw[zLi e];exact zIq hm.1 (.inr e) λk hk=>(h k hk).st (zBG (zfv hm.2 k hk))
 ·rw[zIn e,qz4]at hm
  rw[zMs e,zgo hm.2];exact zax (zuY x (by omega) hm.1) (zax (by simp[tkL];exact all_nil) hend)
theorem zRC(x:Node)(hb:zU x<=2097152)(h: ∀k∈x.L,TA k):TA x:=by
 have a2:=zaA x
 refine⟨λho no=>zMc x hb h ho no,zVh x h,λho=>?_,λho no=>?_,λho least no=>zRb x h (λno h1=>zMc x hb h h1 no) ho least no⟩
 ·unfold zah
  rw[zdA,zjC]
  split
  ·rename_i e
   have e:=eq_of_beq e
   have hm:zat x=true:=by
    unfold zdC at ho
    rw[yQ]at ho
    rcases ho with h|h<;>exact zbW h
   rw[zLS e,qz4]at hm
   obtain⟨a,hL,h1⟩:=zdw hm.2
   rw[hL,tk0]
   exact all_cons (zEI (zss hm.1) (by omega)) (zV (by decide) ((h a (by rw[hL];simp)).at_ h1 _ _))
  ·rename_i e
   refine zgm (λno=>zMc x hb h ?_ no) _ _
   unfold zdC at ho
   rw[yQ]at ho
   rcases ho with h1|h1
   ·exact h1
   ·exact absurd (show(x.Kind==9)=true from zfW h1) e
 ·obtain⟨e,hL⟩:=zAj ho
  have hm:=zbW ho
  rw[zI6 e,qz4]at hm
  unfold declT
  rw[zdA,zjC]
  refine all_cons (zl0 (by simpa [zab,e]using(zaO hm.1).1)) ?_
  rcases hL with hL| ⟨a,hL,h1⟩
  ·rw[hL];simp[tkL,k0];exact all_nil
  ·rw[hL,tk0]
   exact zV (by decide) ((h a (by rw[hL];simp)).at_ h1 _ _)
mutual
theorem zWm: ∀x:Node,zU x<=2097152->TA x
 | ⟨k,n,m,t,ns,l⟩,hb=>
  have hb2:=zaA ⟨k,n,m,t,ns,l⟩
  zRC _ hb (zQj l (by simp only at hb2;omega))
theorem zQj: ∀(l:List Node),zaK l<=2097152->∀q∈l,TA q
 | [],_,q,hq=>by cases hq
 |x::r,hb,q,hq=>by
  simp only[zaK]at hb
  have hx:=zWm x (by omega)
  rcases yP.1 hq with h|hq
  ·exact h▸hx
  ·exact zQj r (by omega) q hq
end
mutual
theorem zE1: ∀a b:Node,zqx a b=true↔a=b
 | ⟨k,n,m,t,ns,l⟩,⟨k',n',m',t',ns',l'⟩=>by
  have:=zES l l'
  simp only[zqx,qz4,beq_iff_eq,this]
  constructor
  ·rintro⟨⟨⟨⟨⟨rfl,rfl⟩,rfl⟩,rfl⟩,rfl⟩,rfl⟩;rfl
  ·intro e
   injection e with e1 e2 e3 e4 e5 e6
   exact⟨⟨⟨⟨⟨e1,e2⟩,e3⟩,e4⟩,e5⟩,e6⟩
theorem zES: ∀a b:List Node,zdY a b=true↔a=b
 | [],[]=>by simp[zdY]
 | [],y::r=>by simp[zdY]
 |x::r,[]=>by simp[zdY]
 |x::r,y::q=>by
  have h1:=zE1 x y
  have h2:=zES r q
  simp only[zdY,qz4,h1,h2,List.cons.injEq]
end
theorem zNj{x:Node}(hb:zU x<=2097152)(e:x.Kind=41)(hm:zat x=true): ∀w∈zaa (tkL x.L),U.zlX w:=by
 have a2:=zaA x
 exact zoS λk hk=>(zQj x.L (by omega) k hk).st (zEO e hm k hk)
end Go.D08
namespace Go.D08
open Go Go.Gw Go.Dn Go.Proofs
set_option maxRecDepth 100000
theorem zSf(x y:Node)(hx:zU x<=2097152)(hy:zU y<=2097152):zbM x y=some (zqx x y,()):=by
 have h1:=zkI x
 have h2:=zkI y
 have h3:=zxb x
 have h4:=zxb y
 exact zKe 1000000000000 x y (by have:=zo5 x;omega) (by omega) (by omega) (by omega) (by omega)
theorem zBz{src:Str}{L:List zu}{ns:List Node}{e:Tok}(hs:src.length<=100000000)(hc:U.zjU src=(L,0,0))(ok:TOk L)(hl:L.length<=100000000)(h:(pG (10*L.length+20)).stmts true (L.map tk)=gt (ns,[e]))(he:e.kind=0)
  (hz:zjj (nd 41 ns)<=2097152) (hd:zW (nd 41 ns)<=64):zco src=some (nd 41 ns,0,0,()):=by
 rw[zxc hs hc ok hl (λq hq=>by rw[h]at hq;cases hq;exact hz)]
 unfold zAv
 rw[h]
 simp only
 rw[yL (show zX [e]=0 from he),yK (by omega)]
theorem zM7{src:Str}{L:List zu}{k:Nat}(hs:src.length<=100000000)(hc:U.zjU src=(L,0,0))(ok:TOk L)(hl:L.length<=100000000)(h:(pG (10*L.length+20)).stmts true (L.map tk)=some (.inl k)):zco src=some (nd 0 [],atK L k,80,()):=by
 rw[zxc hs hc ok hl (λq hq=>by rw[h]at hq;cases hq)]
 unfold zAv
 rw[h]
def nm1(c:UInt8):Node:=ndN 3 [c] []
theorem zWl:zco [97,32,61,32,98,10,43,43,99]=some (nd 41 [nd 24 [ndN 20 [61] [nm1 97,nm1 98]],nd 24 [⟨16,[43,43],1,[],[],[nm1 99]⟩]],0,0,()):=by
 have hc:U.zjU [97,32,61,32,98,10,43,43,99]=((U.zjU [97,32,61,32,98,10,43,43,99]).1,0,0):=by kernel_rfl
 obtain⟨h1,h2,_⟩:=U.ztd hc
 exact zBz (e:=zmN) (by decide) hc h1.ok (by omega) (by kernel_rfl) rfl (by decide+kernel) (by decide+kernel)
theorem zWc:zco [114,101,116,117,114,110,10,97]=some (nd 41 [nd 33 [],nd 24 [nm1 97]],0,0,()):=by
 have hc:U.zjU [114,101,116,117,114,110,10,97]=((U.zjU [114,101,116,117,114,110,10,97]).1,0,0):=by kernel_rfl
 obtain⟨h1,h2,_⟩:=U.ztd hc
 exact zBz (e:=zmN) (by decide) hc h1.ok (by omega) (by kernel_rfl) rfl (by decide+kernel) (by decide+kernel)
theorem zWn:zco [49,32,61,32,50]=some (nd 0 [],2,80,()):=by
 have hc:U.zjU [49,32,61,32,50]=((U.zjU [49,32,61,32,50]).1,0,0):=by kernel_rfl
 obtain⟨h1,h2,_⟩:=U.ztd hc
 have:=zM7 (k:=3) (by decide) hc h1.ok (by omega) (by kernel_rfl)
 have e:atK (U.zjU [49,32,61,32,50]).1 3=2:=by kernel_rfl
 rw[this,e]
theorem zOb:zhZ=some (true,()):=by
 unfold zhZ
 rw[zWl,zWc,zWn]
 rfl
theorem zSN{n:Node}(ho:okN n)(hb:zU n<=1048576)(h:(zns n).2=0):zco (zns n).1=some (n,0,0,()):=by
 obtain⟨hk,hm,hd,ht,hl⟩:=zRd h
 have hw:=zNj (x:=n) (by omega) hk hm
 rw[ht]at hl⊢
 obtain⟨L,hc,hL⟩:=U.zKW hw hl
 obtain⟨h1,h2,_⟩:=U.ztd hc
 have hr:=zPS (t:=L.map tk) h1.ok.wf (by rw[hL];exact zMR U.zGp n (by omega) hk hm)
 rw[List.length_map]at hr
 have hn:=zR8 U.zGp hk hm
 have hsz:=zkI n
 rw[show(some (n,0,0,()):Option (Node×Int×Int×Unit))=some (nd 41 n.L,0,0,()) by
  conv=>lhs;rw[hn]
  rfl]
 have hz:zjj (nd 41 n.L)<=2097152:=by
  have:nd 41 n.L=n:=hn.symm
  rw[this];omega
 have hd':zW (nd 41 n.L)<=64:=by
  have:nd 41 n.L=n:=hn.symm
  rw[this];exact hd
 exact zBz (e:=zmN) (by omega) hc h1.ok (by omega) hr rfl hz hd'
theorem zOx(n:Node)(ho:okN n)(hb:zU n<=1048576):zdN n=some (true,()):=by
 unfold zdN
 rw[zq,zOb,zIl n ho (by omega)]
 simp only[qz1]
 cases hc:(zns n).2 !=0 with
 |true=>rfl
 |false=>
  have h0:(zns n).2=0:=by simpa using hc
  simp only[qz2,yA]
  rw[zSN ho hb h0]
  simp only[qz1,beq_self_eq_true,Bool.and_self,yB,zq]
  rw[zSf n n (by omega) (by omega),(zE1 n n).2 rfl]
  rfl
end Go.D08
namespace Go.Dn
open Go.Gw Go.RowKit Go.Deep
open Go.ChangeShapes Go.WideShapes Go.ChangeAt
set_option maxRecDepth 100000
def ziy(w:World):Heap:=λb=>w.heap[b]?
theorem zLz(w:World):(ziy w).Sub w:=⟨λ_ _ e=>e⟩
theorem zwK{w:World}{b off:Nat}{v:Value}(h:w.cell? ⟨b,off,none⟩=some v):zh4 (ziy w) b off v:=by
 unfold World.cell? at h
 cases hb:w.heap[b]? with
 |none=>rw[hb]at h;cases h
 |some o=>
  rw[hb]at h
  cases o<;>simp only[Option.isSome_none,qz2,yA]at h<;>try cases h
  exact⟨_,_,_,hb,h⟩
theorem zFf{w:World}{base b off n:Nat}{cs:List Value}(h:w.cells? base ⟨b,off,none⟩ n=some cs):zk8 (ziy w) b off cs/\cs.length=n:=by
 obtain⟨_,h2,h3⟩:=World.cells?_some h
 refine⟨λj v e=>?_,h2⟩
 have hj:j<n:=by rw[<-h2];exact(qz0 e).1
 have:=h3 j hj
 rw[e,zea]at this
 exact zwK this
structure zBX (bulk:{H:Type}->DataW H->Nat):Prop where
 agg: ∀{H:Type} (ds:List (DataW H)),(ds.map bulk).sum+1<=bulk (.agg ds)
 sl: ∀{H:Type} (es sp:List (DataW H)),(es.map bulk).sum+1<=bulk (.slice es sp)
 str: ∀{H:Type} (s:List UInt8),s.length+1<=bulk (.lit (.string s):DataW H)
 pos: ∀{H:Type} (d:DataW H),0<bulk d
section
variable {bulk:{H:Type}->DataW H->Nat}
structure OpF (bulk:{H:Type}->DataW H->Nat) (Y:Tys) (P:Program) (w:World) {α:Type} (mk:α->List (AV Y.T)) (t:TypeId) (ok:α->Prop) (ms:α->Nat) (N:Nat):Prop where
 opn: ∀{H:Type} {enc:TypeId×Value->H} {base:Nat} {spare:Nat->Bool} {held:Bool} {fuel:Nat} {cs:List Value} {x:DataW H×List MemPlace},
  fuel<=N->DataW.trod enc P w base spare held fuel t cs=some x->∃a,zH Y (ziy w) [] (mk a) cs/\ok a/\ms a<=bulk x.1
variable {Y:Tys} {P:Program} {w:World} {t e:TypeId} {N:Nat}
theorem OpF.zero{α:Type}{mk:α->List (AV Y.T)}{ok:α->Prop}{ms:α->Nat}:OpF bulk Y P w mk t ok ms 0:=⟨λ{H enc base spare held fuel cs x} hf h=>by
 obtain rfl:fuel=0:=by omega
 simp[DataW.trod]at h⟩
theorem zJ6{k:IntKind}(hB:zBX bulk)(ht:P.underlying t=some (.int k)):OpF bulk Y P w (λn=>[.v (.int k n)]) t (λn=>(Lit.int k n).wf=true) (λ_=>1) N:=
 ⟨λ_ h=>by
  obtain⟨b,rfl,rfl,hw⟩:=DataW.trod_int ht h
  exact⟨b,zH.cons .v zH.nil,hw,hB.pos _⟩⟩
theorem zEq(hB:zBX bulk)(ht:P.underlying t=some .string):OpF bulk Y P w (λs:Str=>[.v (.string ⟨⟨s⟩⟩)]) t (λs=>s.length<=maxLen) (λs=>s.length+1) N:=
 ⟨λ_ h=>by
  obtain⟨b,rfl,rfl,hw⟩:=DataW.trod_string ht h
  exact⟨b.data.toList,zH.cons .v zH.nil,hw,hB.str _⟩⟩
theorem zKB: ∀{α:Type} (xs:List α) (f:α->Nat) (ds:List Nat),xs.length=ds.length->(∀(i:Nat) x d,xs[i]? =some x->ds[i]? =some d->f x<=d)->(xs.map f).sum<=ds.sum
 |_,[],_,[],_,_=>by simp
 |_,x::xs,f,d::ds,hn,h=>by
  have ih:=zKB xs f ds (by simpa using hn) (λi y d' hy hd=>h (i+1) y d' (by simpa using hy) (by simpa using hd))
  have h0:=h 0 x d rfl rfl
  simp only[List.map_cons,List.sum_cons]
  omega
theorem zNY{e':Nat}{ok:Y.T e'->Prop}{ms:Y.T e'->Nat}(hB:zBX bulk)(ht:P.underlying t=some (.slice e))(hsz:P.cellsOf e=Y.sz e')(hpos:0<Y.sz e')(he:OpF bulk Y P w (Y.cells e') e ok ms N):
  OpF bulk Y P w (λxs=>[.sl e' xs]) t (λxs=>∀x∈xs,ok x) (λxs=>(xs.map ms).sum+1) (N+1):=
 ⟨λ{H enc base spare held fuel cs x} hf h=>by
  rcases DataW.trod_slice ht h with⟨rfl,rfl⟩| ⟨a,len,cap,elems,rest,n,rfl,rfl,rfl,hb,hl,hm,hel,hx,_,_⟩
  ·exact⟨[],zH.cons (.sl 0 0 (λ_=>[]) (Nat.zero_le _) (λi x hx=>by simp at hx) (λi x hx=>by simp at hx) (λi x j a u hx=>by simp at hx)) zH.nil,by simp,by have h1:=hB.pos (DataW.nil (H:=H));simp only[List.map_nil,List.sum_nil];omega⟩
  ·have key: ∀i:Fin len,∃(y:Y.T e') (cs':List Value),w.cells? base (a.add (i.val*P.cellsOf e)) (P.cellsOf e)=some cs'/\zH Y (ziy w) [] (Y.cells e' y) cs'/\ok y/\∀d,elems[i.val]? =some d->ms y<=bulk d.1:=λi=>by
    have h1:=hx i.val i.isLt
    have h2:elems[i.val]? =some elems[i.val]:=qz9 (by rw[hel];exact i.isLt)
    rw[h2]at h1
    obtain⟨cs',h3,h4⟩:=Option.bind_eq_some_iff.1 h1
    obtain⟨y,h5,h6,h7⟩:=he.opn (by omega) h4
    refine⟨y,cs',h3,h5,h6,λd hd=>?_⟩
    rw[h2]at hd;cases hd;exact h7
   let f:Fin len->Y.T e':=λi=>Classical.choose (key i)
   have hf':=λi=>Classical.choose_spec (key i)
   let g:Nat->List Value:=λi=>if hi:i<len then Classical.choose (hf' ⟨i,hi⟩)else[]
   have hg: ∀(i:Nat) (hi:i<len),w.cells? base (a.add (i*P.cellsOf e)) (P.cellsOf e)=some (g i)/\zH Y (ziy w) [] (Y.cells e' (f ⟨i,hi⟩)) (g i)/\ok (f ⟨i,hi⟩)/\∀d,elems[i]? =some d->ms (f ⟨i,hi⟩)<=bulk d.1:=λi hi=>by
    have:=Classical.choose_spec (hf' ⟨i,hi⟩)
    simp only[g,dif_pos hi]
    exact this
   have at_: ∀(i:Nat) (x:Y.T e'),(List.ofFn f)[i]? =some x->∃hi:i<len,x=f ⟨i,hi⟩:=λi x hx=>by
    obtain⟨hi,rfl⟩:=qz0 hx
    exact⟨by simpa using hi,by rw[List.getElem_ofFn]⟩
   obtain⟨b,off,spot⟩:=a
   have hs:0<len->spot=none:=λh0=>by
    obtain⟨h1,_⟩:=hg 0 h0
    obtain⟨_,h3,h4⟩:=World.cells?_some h1
    rw[hsz]at h4 h3
    have:=h4 0 hpos
    simp only[Nat.zero_mul]at this
    have e1:((⟨b,off,spot⟩:Addr).add 0).add 0=⟨b,off,spot⟩:=by simp[Addr.add]
    rw[e1]at this
    have h5:(g 0)[0]? =some ((g 0)[0]'(by rw[h3];exact hpos)):=qz9 _
    rw[h5]at this
    unfold World.cell? at this
    cases hb:w.heap[b]? with
    |none=>simp only[hb]at this;cases this
    |some o=>
     cases o<;>simp only[hb]at this<;>try cases this
     cases spot with
     |none=>rfl
     |some q=>simp at this
   refine⟨List.ofFn f,zH.cons ?_ zH.nil,?_,?_⟩
   ·have hlen:(List.ofFn f).length=len:=by simp
    rw[show(Value.slice (some ⟨b,off,spot⟩) len cap)=Value.slice (some ⟨b,off,spot⟩) (List.ofFn f).length cap by rw[hlen]]
    refine .sl b off g (by omega) (λi x hx=>?_) (λi x hx=>?_) (λi x j a u hx ha hu=>?_)
    ·obtain⟨hi,rfl⟩:=at_ i x hx
     rw[hs (by omega)]
    ·obtain⟨hi,rfl⟩:=at_ i x hx
     obtain⟨h1,_⟩:=hg i hi
     rw[hs (by omega),hsz,zea]at h1
     exact⟨(zFf h1).2,(zFf h1).1⟩
    ·obtain⟨hi,rfl⟩:=at_ i x hx
     exact(hg i hi).2.1.2 j a u ha hu
   ·intro y hy
    obtain⟨i,rfl⟩:=List.mem_ofFn.1 hy
    exact(hg i.val i.isLt).2.2.1
   ·have:=zKB (List.ofFn f) ms ((elems.map (·.1)).map bulk) (by simp[hel]) (λi y d hy hd=>by
     obtain⟨hi,rfl⟩:=at_ i y hy
     rw[List.getElem?_map,List.getElem?_map]at hd
     cases he2:elems[i]? with
     |none=>rw[he2]at hd;cases hd
     |some q=>
      rw[he2]at hd;cases hd
      exact(hg i hi).2.2.2 q he2)
    have h2:=hB.sl (elems.map (·.1)) (rest.map (·.1))
    show _<=bulk (DataW.slice (elems.map (·.1)) (rest.map (·.1)))
    omega⟩
end
theorem zxG{H:Type}{enc:TypeId×Value->H}{P:Program}{W W':World}{base:Nat}{spare:Nat->Bool}{held:Bool}(hb:Below W.heap.size W W'): ∀{ts:List TypeId} {vs:List Value} {ds:List (DataW H)} {ps:List MemPlace},
  DataW.TrodAll enc P W base spare held ts vs ds ps->DataW.TrodAll enc P W' base spare held ts vs ds ps
 | [],[],[],_,h=>h
 |_::_,_::_,_::_,_,⟨p,q,⟨n,h1⟩,h2,e⟩=>⟨p,q,⟨n,DataW.trod_carry n _ _ _ h1 λx hx=>hb.same (DataW.trod_lt n _ _ _ h1 x hx)⟩,zxG hb h2,e⟩
theorem zFO{H:Type}{enc:TypeId×Value->H}{P:Program}{f:Func}{s:ChangeSpec}{apart fresh handsOn again:Bool}{W W':World}{args:Array Value}{v:Value}{ds gs:List (DataW H)}{before pa pv:List MemPlace}
  (hW:DataW.Whole enc P f.params.toList s.vars apart W args.toList ds gs before)
  (hres: ∀(b:Nat) (sp:Nat->Bool) (hd:Bool),DataW.TrodAll enc P W' b sp hd f.resultTypes.toList (v.resultList f.resultTypes.size) (s.fn H (ds++gs)).results [])
  (hargs: ∀sp:Nat->Bool,(∀p∈before,sp p.block=true)->DataW.TrodAll enc P W' 0 sp true f.params.toList args.toList (s.fn H (ds++gs)).args pa)
  (hvars: ∀sp:Nat->Bool,(∀p∈before,sp p.block=true)->DataW.TrodVars enc P W' sp s.vars (s.fn H (ds++gs)).vars pv)
  (hps:before=pa++pv) (hb:Below W.heap.size W W')
  (hok: ∀(j:Nat) (t:TypeId) (r:Value),f.resultTypes[j]? =some t->(v.resultList f.resultTypes.size)[j]? =some r->Value.okWide P W' .any 0 t r):
  s.post enc P f apart fresh handsOn again W args v W':=by
 have hlt:=hW.lt
 have hold: ∀p∈before,(λb=>decide (b<W.heap.size)) p.block=true:=λp hp=>by simpa using hlt p hp
 refine⟨ds,gs,before,[],pa,pv,hW,hres _ _ _,hargs _ hold,hvars _ hold,World.keptBut_mono (λp hp=>⟨hp,?_⟩) (hb.frame (· ∈before)),λ_=>?_⟩
 ·rw[hps,List.mem_append]at hp
  exact Or.inr hp
 ·obtain⟨_,_,_,_,_,hz,hn⟩:=hW
  refine⟨hok,_,_,([]++pa)++pv,⟨[]++pa,pv,trodAll_append (hargs _ (λ_ _=>rfl)) (hres _ _ _),hvars _ (λ_ _=>rfl),rfl,?_,?_⟩,?_⟩
  ·intro b off hp
   have hp':MemPlace.cell b off∈before:=by rw[hps];simpa using hp
   rw[hb.frozen (p:=⟨b,off,none⟩) (hlt _ hp')]
   exact hz b off hp'
  ·intro ha
   have:=hn ha
   rw[hps]at this
   simpa using this
  ·intro p hp _
   rw[hps]
   simpa using hp
def zrH{T:Nat->Type}:Out T->List (Mem T)->Option Unit
 | .ret (.v (.bool true)),_=>some ()
 |_,_=>Option.none
theorem COk.holds{Y:Tys}{hY:zbb Y}{P:Program}{G:Heap->Prop}{f:FuncId}{C:Callee Y}(h:COk hY P G f C){args:List (AV Y.T)}
  (hr:C.run args [] zrH=some ()) {W:World} (hG:G (ziy W)) {vals:List Value} (hv:zH Y (ziy W) [] args vals):
  Calls P f vals.toArray W λe W'=>e= .returned (.bool true)/\Below W.heap.size W W':=by
 have h1:=h.2 args [] () _ hr W (ziy W) [] [] vals No hG hv rfl rfl (λk x p o hx=>by simp at hx) (St.start (zLz W))
 refine h1.mono λe W' h2=>?_
 obtain⟨res,F',ρ',os',ms',hp,hrel,_,_,_,hst,_⟩:=h2
 refine⟨?_,hst.below⟩
 cases hrel with
 |pan _=>cases hp
 |ret hx=>
  rename_i x u
  have key: ∀(o:Out Y.T) (m:List (Mem Y.T)),zrH o m=some ()->o= .ret (.v (.bool Bool.true)):=by
   intro o m
   unfold zrH
   split
   ·intro _;rfl
   ·intro e;cases e
  cases key _ _ hp
  rw[hx.zbg]
theorem zOh{P:Program}{W:World}{l:List (String×DataW Unit)}{name:String}{k:IntKind}{zs:List Int}{g:Nat}{t e:TypeId}{n:Nat}(hL:laidMetH P l W)(hall:(l.all λx=>x.2.handleName?.isNone)=true)
  (hf:(l.filter λx=>x.1==name)=[(name,Lib.tabData k zs)]) (hg:P.globalNamed name=some g) (hty:(P.globals[g]?).map (·.type)=some t) (ht:P.underlying t=some (.array n e)) (he:P.underlying e=some (.int k)) (hce:P.cellsOf e=1) (hct:P.cellsOf t=n) (w:World) (hs:(ziy W).Sub w):
  Lib.TabIs P w name k zs:=by
 rw[Go.MakeChecks.laidMetH_plain P l W hall]at hL
 have h:=hL.filter (λx=>x.1==name)
 rw[hf]at h
 have h2:=Lib.tabIs_of_head hg hty ht he hce hct h
 unfold Lib.TabIs World.var? at h2⊢
 rw[hg]at h2⊢
 simp only[qz1]at h2⊢
 cases hb:W.heap[g]? with
 |none=>rw[hb]at h2;cases h2
 |some o=>
  rw[hb]at h2
  rw[show w.heap[g]? =some o from hs.out g o hb]
  exact h2
end Go.Dn
namespace Go.D08
open Go Go.Gw Go.Dn Go.RowKit Go.Proofs Go.Deep
open Go.Proofs.YtdapbipagjmolaaGreatDoor.Rows (uptoBulk uptoBulkAll)
open Go.Proofs.YtdapbipagjmolaaGreatDoor
open Go.ChangeShapes Go.WideShapes Go.ChangeAt
set_option maxRecDepth 100000
theorem ztA{H:Type}: ∀l:List (DataW H),uptoBulkAll l=(l.map uptoBulk).sum
 | []=>by simp[uptoBulkAll]
 |d::l=>by simp[uptoBulkAll,ztA l]
theorem zP5{H:Type}(d:DataW H):0<uptoBulk d:=by
 match d with
 | .lit l=>cases l<;>simp only[uptoBulk]<;>omega
 | .nil| .ptr _| .slice _ _| .agg _| .iface _ _| .map _| .held _=>simp only[uptoBulk];omega
theorem bulk:zBX (λ{H}=> @uptoBulk H):=⟨λds=>by simp only[uptoBulk,ztA];omega,λes sp=>by simp only[uptoBulk,ztA];omega,λs=>by simp only[uptoBulk];omega,zP5⟩
theorem kids:Kids Tryz.prog (· <Tryz.prog.types.size):=kids_rows (by kernel_rfl) (by kernel_rfl)
theorem full: ∀t e,t<Tryz.prog.types.size->Tryz.prog.underlying t=some (.slice e)->0<Tryz.prog.cellsOf e:=slices_full_of Tryz.prog (by kernel_rfl)
abbrev OpD(w:World){α:Type}(mk:α->List (AV Y.T))(t:TypeId)(ok:α->Prop)(ms:α->Nat)(N:Nat):Prop:=OpF (λ{H}=> @uptoBulk H) Y Tryz.prog w mk t ok ms N
theorem zS1(w:World)(N:Nat):OpD w (λxs=>[.sl 9 xs]) 22 (λ_=>True) (λxs:List Str=>(xs.map λs=>s.length+1).sum+1) N:=by
 cases N with
 |zero=>exact OpF.zero
 |succ N=>
  have h:OpD w (Y.cells 9) 9 (λs:Str=>s.length<=maxLen) (λs:Str=>s.length+1) N:=zEq (Y:=Y) bulk Tryz.underlying9
  exact⟨λhf ht=>by
   obtain⟨a,h1,h2,h3⟩:=(zNY (e':=9) bulk Tryz.underlying22 (by kernel_rfl) (by decide) h).opn hf ht
   exact⟨a,h1,trivial,h3⟩⟩
theorem zJ4(w:World): ∀N:Nat,OpD w (Y.cells 25) 25 okN zU N
 |0=>OpF.zero
 |N+1=>⟨λ{H enc base spare held fuel cs x} hfu h=>by
  obtain⟨xs,n,rfl,rfl,hl,hxs,hf⟩:=DataW.trod_struct Tryz.underlying25 h
  have hl:cs.length=6:=hl.trans (by kernel_rfl)
  have hxs:xs.length=6:=hxs
  have hn:n<=N:=by omega
  match cs,hl,xs,hxs with
  | [c0,c1,c2,c3,c4,c5],_,[x0,x1,x2,x3,x4,x5],_=>
   have h0:DataW.trod enc Tryz.prog w base spare held n 3 [c0]=some x0:=hf 0 _ rfl
   have h1:DataW.trod enc Tryz.prog w base spare held n 9 [c1]=some x1:=hf 1 _ rfl
   have h2:DataW.trod enc Tryz.prog w base spare held n 2 [c2]=some x2:=hf 2 _ rfl
   have h3:DataW.trod enc Tryz.prog w base spare held n 9 [c3]=some x3:=hf 3 _ rfl
   have h4:DataW.trod enc Tryz.prog w base spare held n 22 [c4]=some x4:=hf 4 _ rfl
   have h5:DataW.trod enc Tryz.prog w base spare held n 23 [c5]=some x5:=hf 5 _ rfl
   obtain⟨a0,r0,k0,m0⟩:=(zJ6 (bulk:=λ{H}=> @uptoBulk H) (Y:=Y) (N:=N) bulk Tryz.underlying3).opn hn h0
   obtain⟨a1,r1,k1,m1⟩:=(zEq (bulk:=λ{H}=> @uptoBulk H) (Y:=Y) (N:=N) bulk Tryz.underlying9).opn hn h1
   obtain⟨a2,r2,k2,m2⟩:=(zJ6 (bulk:=λ{H}=> @uptoBulk H) (Y:=Y) (N:=N) bulk Tryz.underlying2).opn hn h2
   obtain⟨a3,r3,k3,m3⟩:=(zEq (bulk:=λ{H}=> @uptoBulk H) (Y:=Y) (N:=N) bulk Tryz.underlying9).opn hn h3
   obtain⟨a4,r4,k4,m4⟩:=(zS1 w N).opn hn h4
   obtain⟨a5,r5,k5,m5⟩:=(zNY (bulk:=λ{H}=> @uptoBulk H) (Y:=Y) (e':=25) bulk Tryz.underlying23 (by kernel_rfl) (by decide) (zJ4 w N)).opn (by omega) h5
   have q:=r0.append (r1.append (r2.append (r3.append (r4.append r5))))
   refine⟨(⟨a0,a1,a2,a3,a4,a5⟩:Node),q,⟨zMT k0,zMT k2,zNy k5⟩,?_⟩
   have hb:=bulk.agg (([x0,x1,x2,x3,x4,x5]:List (DataW H×List MemPlace)).map (·.1))
   simp only[List.map_cons,List.map_nil,List.sum_cons,List.sum_nil]at hb
   have e5:zaK a5=(a5.map zU).sum:=zEJ a5
   have m1:a1.length+1<=uptoBulk x1.1:=m1
   have m3:a3.length+1<=uptoBulk x3.1:=m3
   have m4:(a4.map λs=>s.length+1).sum+1<=uptoBulk x4.1:=m4
   have m5:(a5.map zU).sum+1<=uptoBulk x5.1:=m5
   rw[<-e5]at m5
   have m0:1<=uptoBulk x0.1:=m0
   have m2:1<=uptoBulk x2.1:=m2
   show a1.length+a3.length+(a4.map λs=>s.length+1).sum+zaK a5+7<=uptoBulk (.agg [x0.1,x1.1,x2.1,x3.1,x4.1,x5.1])
   omega⟩
theorem zNh{H:Type}{enc:TypeId×Value->H}{W:World}{base b0:Nat}{v:Value}{d:DataW H}{ps:List MemPlace}(hval:Value.okWide Tryz.prog W .any b0 25 v)(h:DataW.Trod enc Tryz.prog W base (λ_=>true) true 25 v d ps):
  ∃a:Node,Rel Y (ziy W) [] (.agg (Y.cells 25 a)) v/\okN a/\zU a<=uptoBulk d:=by
 obtain⟨n,hn⟩:=h
 obtain⟨a,h1,h2,h3⟩:=(zJ4 W n).opn (yJ _) hn
 obtain⟨cs,rfl,hsz⟩:=okWide_struct Tryz.underlying25 hval
 refine⟨a,?_,h2,h3⟩
 have:=Rel.agg h1.1 h1.2
 simpa [Value.cells]using this
def zrR:List (String×DataW Unit):=Rows.parseBackUptoRow.laid
def zV3:List Int:=[0,1,56,2,57,49,28,3,61,58,42,50,38,29,17,4,62,47,59,36,45,43,51,22,53,39,33,30,24,18,12,5,63,55,48,27,60,41,37,16,46,35,44,21,52,32,23,11,54,26,40,15,34,20,31,10,25,14,19,9,13,8,7,6]
theorem star: "*"++ "errors.errorString"= "*errors.errorString":=by decide
theorem zTV(u:TypeId)(h:Tryz.prog.typeName? 3 u=some "*errors.errorString"):u=179:=
 typeName_ptr_named (nm:= "errors.errorString") (by rw[star];kernel_rfl) (by kernel_rfl) (by decide) u (by rw[star];exact h)
theorem zNE{W:World}{name:String}{text:List UInt8}{g:Nat}(hL:laidMetH Tryz.prog zrR W)(hf:(zrR.filter λx=>x.1==name)=[(name,.iface "*errors.errorString" (.ptr (.agg [.lit (.string text)])))])
  (hg:Tryz.prog.globalNamed name=some g) (ht:(Tryz.prog.globals[g]?).map (·.type)=some 88): ∃t p,zh4 (ziy W) g 0 (.iface t p):=by
 rw[Go.MakeChecks.laidMetH_plain Tryz.prog zrR W (by kernel_rfl)]at hL
 have h:=hL.filter (λx=>x.1==name)
 rw[hf]at h
 obtain⟨a,s,hv,_,_,_⟩:=laid_sentinel h hg ht Tryz.underlying88 zTV Tryz.underlying179 Tryz.underlying181 rfl rfl Tryz.underlying9 (by kernel_rfl) (by kernel_rfl)
 have:=World.var?_cell hg hv 0
 exact⟨_,_,zwK (v:= .iface 179 (.pointer (some a))) (by simpa using this)⟩
theorem zS7{W:World}(h:W.ShapedOpen Tryz.prog)(hL:laidMetH Tryz.prog zrR W):zam (ziy W):=by
 obtain⟨m,hm⟩:=Tryz.laysM219.s1_3 W h
 have hb:=zOh (name:= "math/bits.deBruijn64tab") (k:= .u8) (zs:=zV3) (g:=7) (t:=198) (e:=5) (n:=64) hL (by kernel_rfl) (by kernel_rfl) (by kernel_rfl) (by kernel_rfl) (by kernel_rfl) (by kernel_rfl) (by kernel_rfl) (by kernel_rfl) W ⟨λ_ _ e=>e⟩
 exact⟨⟨m,zwK hm⟩,zwK (hb.cell (g:=7) (by kernel_rfl) 15 (by decide)),zNE (name:= "strconv.ErrSyntax") (text:=[105,110,118,97,108,105,100,32,115,121,110,116,97,120]) hL (by kernel_rfl) (by kernel_rfl) (by kernel_rfl),zNE (name:= "strconv.ErrRange") (text:=[118,97,108,117,101,32,111,117,116,32,111,102,32,114,97,110,103,101]) hL (by kernel_rfl) (by kernel_rfl) (by kernel_rfl),
  λw hs=>zOh (name:= "internal/strconv.uint64pow10") (k:= .u64) (zs:=Lib.pow10Tab) (g:=3) (t:=188) (e:=129) (n:=20) hL (by kernel_rfl) (by kernel_rfl) (by kernel_rfl) (by kernel_rfl) (by kernel_rfl) (by kernel_rfl) (by kernel_rfl) (by kernel_rfl) w hs⟩
end Go.D08
namespace Go.Proofs.YtdapbipagjmolaaGreatDoor
open Go.Proofs Go.RowKit Go.Deep
set_option maxRecDepth 1000000
noncomputable def laidWorld (os:Os):World:=World.laidAll Tryz.prog os Go.D08.zrR
theorem zPf(os:Os)(args:Array Value):((laidWorld os).forCall (λ_ _=>0) ⟨#[],args,[]⟩).variablesRefB Tryz.prog=true:=by kernel_rfl
theorem zQB(os:Os)(args:Array Value):(((laidWorld os).forCall (λ_ _=>0) ⟨#[],args,[]⟩).heap.toList.drop Tryz.prog.globals.size).take ((begin Tryz.prog (λ_ _=>0) default).world.heap.size -Tryz.prog.globals.size)=
  (begin Tryz.prog (λ_ _=>0) default).world.heap.toList.drop Tryz.prog.globals.size:=by kernel_rfl
theorem zO3(os:Os)(args:Array Value):laidMet Tryz.prog Go.D08.zrR ((laidWorld os).forCall (λ_ _=>0) ⟨#[],args,[]⟩).memory:=
 laidMet_laidAll args (by kernel_rfl) (by kernel_rfl)
end Go.Proofs.YtdapbipagjmolaaGreatDoor
