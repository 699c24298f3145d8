/- Texts for a statement of this seat. -/
import Derived.Test.YtdapbipagjmolaaGreatDoorMe4
import Derived.ProofKit
import Derived.OpenShut
import Derived.Deep.DeepHandedRow
import Derived.Lib.LaidTab
import Derived.Deep.Slices
import Derived.ChangeShapes
import Derived.DataReads
import Derived.LaidSub
import Derived.MakeChecks
import Derived.Lay
import Derived.Deep.DeepWitnessRowRef
import Derived.Stop.LaidErr
import Derived.Test.YtdapbipagjmolaaGreatDoorRows
import Derived.Test.YtdapbipagjmolaaGreatDoorCards
import Derived.Test.YtdapbipagjmolaaGreatDoorTie
set_option linter.unusedSectionVars false
set_option linter.unusedVariables false
set_option linter.unusedSimpArgs false
set_option linter.unnecessarySimpa false
namespace Go.D08
open Go Go.Gw Go.Dn Go.Proofs
set_option maxRecDepth 100000
theorem zKW{t:zal}(w:Wf t):zgl t=if tIs [41] t=true then gt ([],t.tail)else if(zak t==1)=true then
  (if tIs [41] t.tail=true then gt ([tText t],t.tail.tail)else(zbi [44] t.tail).bn λt'=>if tIs [41] t'=true then bad t' else(zgl t').bd λl=>gt (tText t::l.1,l.2))else bad t:=by
 unfold zgl;by_cases h:tIs [41] t=true
 ·rw[yL h,yL h]
 ·rw[yK h,yK h]
  match t,w with
  | [],w=>exact absurd w.pos (by simp)
  | [a],w=>
   have h0:a.kind=0:=by
    obtain⟨p,e,h1,h2,_⟩:=w;cases p with
    |nil=>simp at h1;rw[h1];exact h2
    |cons x p=>simp at h1
   have:(zak [a]==1)=false:=by show(a.kind==1)=false;rw[h0];rfl
   rw[this];rfl
  |a::b::r,w=>
   rw[zi8];by_cases h1:(a.kind==1)=true
   ·rw[yL h1,yL (show(zak (a::b::r)==1)=true from h1)];by_cases h2:tIs [41] (b::r)=true
    ·rw[yL h2,yL (show tIs [41] (a::b::r).tail=true from h2)];rfl
    ·rw[yK h2,yK (show ¬tIs [41] (a::b::r).tail=true from h2)];unfold zbi;by_cases h3:tIs [44] (b::r)=true
     ·rw[yL h3,yL (show tIs [44] (a::b::r).tail=true from h3)];show(if tIs [41] r=true then _ else _)=(if tIs [41] r=true then _ else _)
      by_cases h4:tIs [41] r=true
      ·rw[yL h4,yL h4];rfl
      ·rw[yK h4,yK h4];show(zi8 r).bd _=(if tIs [41] r=true then gt ([],r.tail)else zi8 r).bd _;rw[yK h4];rfl
     ·rw[yK h3,yK (show ¬tIs [44] (a::b::r).tail=true from h3)];rfl
   ·rw[yK h1,yK (show ¬(zak (a::b::r)==1)=true from h1)]
theorem TOk.wf{L:List zl}(h:TOk L):Wf (L.map tk):=by
 obtain⟨a,e,h1,h2,h3⟩:=h.last;refine⟨a.map tk,tk e,by rw[h1];simp,by unfold tk;rw[h2];rfl,λx hx=>?_⟩
 obtain⟨y,hy,rfl⟩:=List.mem_map.1 hx;have h4:=h3 y hy;have h5:=(h.kinds y (by rw[h1];exact List.mem_append_left _ hy)).1
 show y.Kind.toNat≠0;omega
section
variable {L0 L:List zl} {no:Bool}
theorem zKD(kd:Int)(nm:Str): ∀(m:Nat) (L:List zl) (l:List Str),L.length<m->l.length+L.length<=20000000000->TL L0 L->
  SG L0 EL (λ(v:List Str) L' r=>r= .inr (pp L' false,[41],kd,nm,0,[],l++v,[],false,())) (zaH zfN m (pp L false,[41],kd,nm,0,[],l,[],false,())) (zgl (L.map tk))
 |0,L,l,hm,_,_=>by omega
 |m+1,L,l,hm,hl,ok=>by
  have ih:=λL l hm hl ok=>zKD kd nm m L l hm hl ok
  rw[zKW ok.ok.wf,zcO];generalize zaH zfN m=W at ih⊢;unfold zfN zjT;simp only[zav];refine .assoc (.has ok (λh ok1=>?_) λh=>?_)
  ·simp only[yO,qz2,yA];exact .gt' ok1 (by rw[yM]) (by simp)
  ·simp only[yN,yB];refine .assoc (.assoc (.name ok (λ_ _=>⟨_,rfl,_,rfl⟩) λhk ok1=>?_))
   have hlen:L.tail.length+1=L.length:=by
    obtain⟨x,r,rfl⟩:=ok.ok.cons;rfl
   simp only[qz3,qz6,Nat.zero_add];rw[zcQ (by omega)];simp only[qz1];rw[<-yM,<-yM];refine .assoc (.has ok1 (λh ok2=>?_) λh=>?_)
   ·simp only[yB];exact .gt' ok2 rfl rfl
   ·simp only[qz2,yA];refine .assoc (.need' ok1 (λ_ _=>⟨_,rfl,_,rfl⟩) λL2 ok2 hl2=>?_);simp only[yN,yB];refine .assoc (.is ok2 (λh=>?_) λh=>?_)
    ·simp only[yB];exact .assoc (.fail ok2 λa=>⟨_,rfl,_,rfl⟩)
    ·simp only[qz2,yA];exact(ih L2 (l++[tText (L.map tk)]) (by omega) (by rw[qz5];simp only[qz3,qz6];omega) ok2).map (λv=>tText (L.map tk)::v) (by rintro v L' _ rfl;simp)
theorem zOl(kd:Int)(nm:Str)(ok:TL L0 L)(hlen:L.length<=10000000000):SG L0 EL (λ(v:List Str) L' r=>r= .inr (pp L' no,kd,nm,0,[],v,[],())) (zkJ [41] false (pp L no) kd nm 0 [] [] []) (zgl (L.map tk)):=by
 have h1:SG L0 EL (λ(v:List Str) L' r=>r= .inr (pp L' false,[41],kd,nm,0,[],v,[],false,())) (zjs (pp L false) [41] kd nm 0 [] [] [] false) (zgl (L.map tk)):=by
  unfold zjs;simp only[zav];exact .loop (zKD kd nm (L.length+1) L [] (by omega) (by simp;omega) ok) (by omega)
 have h2:SG L0 EL (λ(v:List Str) L' r=>r= .inr (pp L' no,[41],kd,nm,0,[],v,[],false,())) (zjC (pp L no) [41] kd nm 0 [] [] [] false) (zgl (L.map tk)):=by
  unfold zjC;simp only[zav];exact h1.same (by rintro a _ ⟨y,rfl⟩;exact⟨_,rfl,_,rfl⟩) (by rintro v L' _ _ rfl;exact⟨_,rfl,rfl⟩)
 unfold zkJ;simp only[zav];exact h2.same (by rintro a _ ⟨y,rfl⟩;exact⟨_,rfl,_,rfl⟩) (by rintro v L' _ _ rfl;exact⟨_,rfl,rfl⟩)
end
section
variable {L0 L:List zl} {no:Bool} {n M:Nat} (H: ∀k,k<=n->∀N,20*k+20<=N->zzZ L0 (RG N) (pG k)) (hn:n<=10000000000) (hM:20*n+30<=M) (h0:L0.length<=10000000000)
include H hn hM
theorem zNH(k:Int)(nm:Str)(ns:List Str)(ok:TL L0 L):SG L0 ER (λ(v:List Node) L' r=>r= .inl (pp L' no,k,nm,0,[],v,ns,[],())) ((RG M).zdQ (pp L no) k nm 0 [] ns []) ((pG n).stmts true (L.map tk)):=by
 obtain⟨M,rfl⟩: ∃k,M=k+2:=⟨M -2,by omega⟩
 have h1:SG L0 ER (λ(v:List Node) L' r=>r= .inl (pp L' false,k,nm,0,[],v,ns,[],())) (zgs (RG M) (pp L false) k nm 0 [] ns []) ((pG n).stmts true (L.map tk)):=by
  unfold zgs;simp only[zav,zt];exact .rr ((H n (yJ _) M (by omega)).stmts true L ok) (λ_ _=>⟨_,rfl,_,rfl⟩) λv L'=>⟨_,rfl,rfl⟩
 show SG _ _ _ (zgG (RG (M+1)) (pp L no) k nm 0 [] ns []) _;unfold zgG;simp only[zav,zt];exact h1.same (by rintro a _ ⟨y,rfl⟩;exact⟨_,rfl,_,rfl⟩) (by rintro v L' _ _ rfl;exact⟨_,rfl,rfl⟩)
include h0 in
theorem zNE(k:Int)(nm:Str)(ok:TL L0 L):SG L0 EL (OR no) (ze7 (RG M) (pp L no) 0 [] 0 [] k nm 0 [] [] [] [] [])
  ((zbi [40] (L.map tk)).bn λt=>(zgl t).bd λns=>(zbi [123] ns.2).bn λt=>((pG n).stmts true t).bd λl=>(zbi [125] l.2).bn λt=>gt (⟨k,nm,0,[],ns.1,l.1⟩,t)):=by
 unfold ze7 zjg zjo zjf;simp only[zav,zt];refine .need ok (λ_ _=>⟨_,rfl,_,rfl⟩) λL1 ok1=>?_
 refine(zOl (no:=no) k nm ok1 (by have:=ok1.suf.length_le;omega)).gen (by rintro a _ ⟨y,rfl⟩;exact⟨_,rfl,_,rfl⟩) ?_
 rintro ns L2 _ _ ok2 rfl;refine .need ok2 (λ_ _=>⟨_,rfl,_,rfl⟩) λL3 ok3=>?_
 refine(zNH (no:=no) H hn hM k nm ns ok3).gen (by rintro a _ ⟨y,rfl⟩;exact⟨_,rfl,_,rfl⟩) ?_
 rintro l L4 _ _ ok4 rfl;exact .need ok4 (λ_ _=>⟨_,rfl,_,rfl⟩) λL5 ok5=> .gt ok5 rfl
include h0 in
theorem zP2(k:Int)(ok:TL L0 L):SG L0 EL (OR no) (zhh (RG M) k (pp L no)) (zr7 (pG n) k (L.map tk)):=by
 obtain⟨x,r,rfl⟩:=ok.ok.cons;have hk:=zjD ok 1;rw[show((1:Nat):Int)=1 from rfl]at hk;have h1:=λ(L1:List zl) nm ok1=>zNE (no:=no) (L:=L1) H hn hM h0 k nm ok1
 unfold zhh zr7;simp only[zav,zt,zfa,qz1,hk];cases h39:k==39 with
 |true=>
  simp only[yB,qz1];have e: ∀(f:Str×zal->PR Node),((if(zak ((x::r).map tk)==1)=true then gt (tText ((x::r).map tk),((x::r).map tk).tail)else bad ((x::r).map tk)).bd f)=if(zak ((x::r).map tk)==1)=true then f (tText ((x::r).map tk),((x::r).map tk).tail)else bad ((x::r).map tk):=λf=>by split<;>rfl
  rw[e];refine .name ok (λ_ _=>⟨_,rfl,_,rfl⟩) λhk ok1=>?_
  rw[<-yM];exact h1 _ _ ok1
 |false=>
  simp only[qz2,yA,qz1];cases hk1:zak ((x::r).map tk)==1 with
  |true=>
   simp only[yB];have e: ∀(f:Str×zal->PR Node),((Go.D08.gt (tText ((x::r).map tk),((x::r).map tk).tail)).bd f)=if(zak ((x::r).map tk)==1)=true then f (tText ((x::r).map tk),((x::r).map tk).tail)else bad ((x::r).map tk):=λf=>by rw[yL hk1];rfl
   rw[e];refine .name ok (λ_ _=>⟨_,rfl,_,rfl⟩) λhk ok1=>?_
   rw[<-yM];exact h1 _ _ ok1
  |false=>
   simp only[qz2,yA,zun];exact h1 _ _ ok
theorem zKl: ∀(k m:Nat),k<=n+1->k<=m->∀(l:List Node) (L:List zl),l.length+k<=n+1->TL L0 L->
  SG L0 EL (λ(v:List Node) L' r=>r= .inr (nd 22 (l++v),pp L' no,())) (zaH (zgW (RG M)) m (pp L no,0,[],0,[],22,[],0,[],[],[],[],l,())) ((pG k).vars no (L.map tk))
 |0,m,_,_,l,L,_,ok=>trivial
 |k+1,0,_,hm,l,L,_,ok=>by omega
 |k+1,m+1,hk,hm,l,L,hl,ok=>by
  have ih:=λl L hl ok=>zKl k m (by omega) (by omega) l L hl ok
  show SG _ _ _ _ (zqA (pG k) no (L.map tk));rw[zcO];generalize zaH (zgW (RG M)) m=W at ih⊢
  have fin: ∀(d:List Node) (L1:List zl),TL L0 L1->SG L0 EL (λ(v:List Node) L' r=>r= .inr (nd 22 (l++v),pp L' no,()))
    ((zgA (RG M) (pp L1 no) 0 [] 0 [] 22 [] 0 [] 23 (tText (L.map tk)) 0 [] [] [] [] l [] d).bind (zkX W))
    (if tIs [44] (L1.map tk)=true then((pG k).vars no (L1.map tk).tail).bd λq=>gt (ndN 23 (tText (L.map tk)) d::q.1,q.2)else gt ([ndN 23 (tText (L.map tk)) d],L1.map tk)):=λd L1 ok1=>by
   unfold zgA zlM;simp only[zav,qz3,qz6,Nat.zero_add];rw[zcQ (by omega)];simp only[qz1];refine .assoc (.has ok1 (λh ok2=>?_) λh=>?_)
   ·simp only[yO,qz2,yA];rw[<-yM];exact(ih (l++[ndN 23 (tText (L.map tk)) d]) _ (by rw[qz5];simp only[qz3,qz6];omega) ok2).map (λv=>ndN 23 (tText (L.map tk)) d::v) (by rintro v L' _ rfl;simp)
   ·simp only[yN,yB];exact .gt ok1 rfl
  unfold zqA;unfold zgW;simp only[zav,zt];refine .assoc (.name ok (λ_ _=>⟨_,rfl,_,rfl⟩) λhk1 ok1=>?_)
  have e: ∀(f:List Node×zal->PR (List Node)),((if tIs [61] (L.map tk).tail=true then((pG k).assign no (L.map tk).tail.tail).bd λy=>Go.D08.gt ([y.1],y.2)else Go.D08.gt ([],(L.map tk).tail)).bd f)=
    if tIs [61] (L.tail.map tk)=true then((pG k).assign no (L.tail.map tk).tail).bd λy=>f ([y.1],y.2)else f ([],L.tail.map tk):=λf=>by
   rw[yM];split
   ·rw[zgd];rfl
   ·rfl
  rw[e];refine .assoc (.has ok1 (λh ok2=>?_) λh=>?_)
  ·simp only[yB];rw[<-yM];refine .assoc (.r ((H k (by omega) M (by omega)).assign no _ ok2) (λ_ _=>⟨_,rfl,_,rfl⟩) λy L3 ok3=>?_);exact fin [y] L3 ok3
  ·simp only[qz2,yA];exact fin [] _ ok1
theorem zQE(ok:TL L0 L):SG L0 EL (λl L' r=>r= .inr (nd 22 l,pp L' no,())) (zju (RG M) (pp L no)) (zqA (pG n) no (L.map tk)):=by
 unfold zju;simp only[zav];exact .loop (zKl H hn hM (n+1) 1000000000000 (yJ _) (by omega) [] L (by simp) ok) (yJ _)
theorem zOu(ok:TL L0 L):SG L0 EL (OR false) (ziY (RG M) (pp L false)) (znq (pG n) (L.map tk)):=by
 unfold ziY znq;simp only[zav,zt,zI];refine .need ok (λ_ _=>⟨_,rfl,_,rfl⟩) λL1 ok1=>?_
 refine .r ((H n (yJ _) M (by omega)).stmts false L1 ok1) (λ_ _=>⟨_,rfl,_,rfl⟩) λl L2 ok2=>?_
 exact .need ok2 (λ_ _=>⟨_,rfl,_,rfl⟩) λL3 ok3=> .gt ok3 rfl
theorem zQW(ok:TL L0 L):SG L0 EL (OR false) (zjI (RG M) (pp L false)) (zuj (pG n) (L.map tk)):=by
 unfold zjI zuj;simp only[zav,zt,zI];refine .need ok (λ_ _=>⟨_,rfl,_,rfl⟩) λL1 ok1=>?_
 refine .r ((H n (yJ _) M (by omega)).expr false L1 ok1) (λ_ _=>⟨_,rfl,_,rfl⟩) λl L2 ok2=>?_
 exact .need ok2 (λ_ _=>⟨_,rfl,_,rfl⟩) λL3 ok3=> .gt ok3 rfl
theorem zRT(s:Str)(ok:TL L0 L):SG L0 ER (OL false) (ziS (RG M) s (pp L false)) (zp1 (pG n) s (L.map tk)):=by
 unfold ziS zp1;simp only[zav,zt,zI];refine .has ok (λh ok1=>?_) λh=>?_
 ·exact .gt' ok1 (by rw[yM]) rfl
 ·refine .r ((H n (yJ _) M (by omega)).expr false L ok) (λ_ _=>⟨_,rfl,_,rfl⟩) λl L2 ok2=>?_
  exact .need ok2 (λ_ _=>⟨_,rfl,_,rfl⟩) λL3 ok3=> .gt ok3 rfl
theorem zDv(ok:TL L0 L):SG L0 EL (λv L' r=>r= .inr (zeN v,pp L' false,())) ((RG M).zcb (pp L false)) ((pG n).stmt (L.map tk)):=by
 obtain⟨M,rfl⟩: ∃k,M=k+1:=⟨M -1,by omega⟩
 show SG _ _ _ (zjz (RG M) (pp L false)) _;unfold zjz;simp only[zav,zt];refine .ll ((H n (yJ _) M (by omega)).stmt L ok) (λ_ _=>⟨_,rfl,_,rfl⟩) λv L'=>?_
 simp only[bne];unfold zeN;cases v.Kind==25 with
 |true=>exact⟨_,rfl,rfl⟩
 |false=>exact⟨_,rfl,rfl⟩
def zFq(g:PG)(each:Bool)(x:Node)(t:zal):PR Node:=
 if(each&&tIs [105,110] t)=true then(g.expr false t.tail).bd λy=>(zbi [41] y.2).bn λt=>(g.stmt t).bd λb=>gt (nd 30 [x,y.1,zeN b.1],b.2)
 else(zbi [59] t).bn λt=>(g.till [59] t).bd λy=>(g.till [41] y.2).bd λz=>(g.stmt z.2).bd λb=>gt (nd 29 [x,y.1,z.1,zeN b.1],b.2)
theorem zNu(x:Node)(ok:TL L0 L):SG L0 EL (OR false) (zgD (RG M) (pp L false) 0 [] 0 [] 29 [] 0 [] [] [] [] [x])
  ((zbi [59] (L.map tk)).bn λt=>((pG n).till [59] t).bd λy=>((pG n).till [41] y.2).bd λz=>((pG n).stmt z.2).bd λb=>gt (nd 29 [x,y.1,z.1,zeN b.1],b.2)):=by
 have S:=H n (yJ _) M (by omega);unfold zgD zl4 zkS zkY zgg;simp only[zav,zt];refine .need ok (λ_ _=>⟨_,rfl,_,rfl⟩) λL1 ok1=>?_
 refine .r (S.till [59] L1 ok1) (λ_ _=>⟨_,rfl,_,rfl⟩) λy L2 ok2=>?_
 refine .r (S.till [41] L2 ok2) (λ_ _=>⟨_,rfl,_,rfl⟩) λz L3 ok3=>?_
 refine .room (by simp) ?_;refine(zDv H hn hM ok3).gen (by rintro a _ ⟨y,rfl⟩;exact⟨_,rfl,_,rfl⟩) ?_
 rintro b L4 _ _ ok4 rfl;exact .room (by simp) (.gt ok4 rfl)
theorem zNo(x:Node)(each:Bool)(ok:TL L0 L):SG L0 EL (OR false) (zgJ (RG M) each (pp L false) 0 [] 0 [] 29 [] 0 [] [] [] [] [x]) (zFq (pG n) each x (L.map tk)):=by
 have S:=H n (yJ _) M (by omega);have h8:=zNu H hn hM x ok;unfold zgJ zFq;simp only[zav,zt];cases each with
 |false=>
  simp only[qz2,yA,Bool.false_and];exact h8
 |true=>
  simp only[yB,Bool.true_and];refine .has ok (λh ok1=>?_) λh=>?_
  ·simp only[yB];unfold zlX zl3 zlL zlO zgg;simp only[zav,zt];rw[<-yM];refine .r (S.expr false _ ok1) (λ_ _=>⟨_,rfl,_,rfl⟩) λy L2 ok2=>?_
   refine .room (by simp) ?_;refine .need ok2 (λ_ _=>⟨_,rfl,_,rfl⟩) λL3 ok3=>?_
   refine(zDv H hn hM ok3).gen (by rintro a _ ⟨y,rfl⟩;exact⟨_,rfl,_,rfl⟩) ?_
   rintro b L4 _ _ ok4 rfl;exact .room (by simp) (.gt ok4 rfl)
  ·simp only[qz2,yA];exact h8
theorem zPR(ok:TL L0 L):SG L0 EL (OR false) (zjt (RG M) (pp L false)) (zuh (pG n) (L.map tk)):=by
 have S:=H n (yJ _) M (by omega);have h3:=λ(L1:List zl) x each ok1=>zNo (L:=L1) H hn hM x each ok1
 unfold zjt zgX zlT zuh zuW;simp only[zav,zt,zHi,qz1];refine .need ok (λ_ _=>⟨_,rfl,_,rfl⟩) λL1 ok1=>?_
 have e: ∀(f:Node×zal->PR Node),((if tIs [118,97,114] (L1.map tk)=true then((pG n).vars true (L1.map tk).tail).bd λl=>Go.D08.gt (nd 22 l.1,l.2)else if tIs [59] (L1.map tk)=true then Go.D08.gt (nd 42 [],L1.map tk)else(pG n).expr true (L1.map tk)).bd f)=
   if tIs [118,97,114] (L1.map tk)=true then((pG n).vars true (L1.map tk).tail).bd λl=>f (nd 22 l.1,l.2)else if tIs [59] (L1.map tk)=true then f (nd 42 [],L1.map tk)else((pG n).expr true (L1.map tk)).bd f:=λf=>by
  split
  ·rw[zgd];rfl
  ·split<;>rfl
 rw[e];refine .has (no:=true) ok1 (λh ok2=>?_) λh=>?_
 ·simp only[yB];rw[<-yM];refine(S.vars true _ ok2).gen (by rintro a _ ⟨y,rfl⟩;exact⟨_,rfl,_,rfl⟩) ?_
  rintro l L3 _ _ ok3 rfl;rcases l with _| ⟨d,_| ⟨d2,r⟩⟩
  ·exact h3 L3 (nd 22 []) false ok3
  ·have hb:(((d.L.length:Nat):Int)==0)=d.L.isEmpty:=by
    cases d.L with
    |nil=>rfl
    |cons a r=>exact yH.2 (by simp only[qz3];omega)
   show SG _ _ _ (zgJ (RG M) (((d.L.length:Nat):Int)==0) (pp L3 false) 0 [] 0 [] 29 [] 0 [] [] [] [] [nd 22 [d]]) _;rw[hb];exact h3 L3 (nd 22 [d]) d.L.isEmpty ok3
  ·have hb:((((d::d2::r).length:Nat):Int)==1)=false:=by rw[yH];simp only[qz3];omega
   simp only[nd,hb,qz2,yA,qz1];exact h3 L3 (nd 22 (d::d2::r)) false ok3
 ·simp only[qz2,yA];refine .is (no:=true) ok1 (λh=>?_) λh=>?_
  ·simp only[yO,qz2,yA];exact h3 L1 (nd 42 []) false ok1
  ·simp only[yN,yB];refine(S.expr true _ ok1).gen (by rintro a _ ⟨y,rfl⟩;exact⟨_,rfl,_,rfl⟩) ?_
   rintro x L3 _ hq ok3 rfl;have hx:x.Kind≠22:=(zLe n).expr _ _ _ hq;have he:ztR x=zf1 x.Kind:=by unfold ztR;rw[yK (by simpa using hx)]
   show SG _ _ _ _ (if(ztR x&&tIs [105,110] (L3.map tk))=true then _ else _);rw[he];exact h3 L3 x (zf1 x.Kind) ok3
end
section
variable {L0 L:List zl} {no:Bool} {n M:Nat} (H: ∀k,k<=n->∀N,20*k+20<=N->zzZ L0 (RG N) (pG k)) (hn:n<=10000000000) (hM:20*n+30<=M) (h0:L0.length<=10000000000)
include H hn hM
theorem zRS(caught:Bool)(nm:Str)(b c:Node)(hc:(c.Kind==42)= !caught)(ok:TL L0 L):SG L0 EL (OR false) (zhm (RG M) caught (pp L false) 0 [] 0 [] 35 nm 0 [] [] [] [] [b,c,nd 42 []])
  ((zpZ (pG n) (L.map tk)).bd λf=>if(f.1.Kind==42&&c.Kind==42)=true then bad f.2 else gt (ndN 35 nm [b,c,f.1],f.2)):=by
 have S:=H n (yJ _) M (by omega);unfold zhm zmw zmC ziR zpZ;simp only[zav,zt]
 have e: ∀(f:Node×zal->PR Node),((if tIs [102,105,110,97,108,108,121] (L.map tk)=true then(pG n).block (L.map tk).tail else Go.D08.gt (nd 42 [],L.map tk)).bd f)=if tIs [102,105,110,97,108,108,121] (L.map tk)=true then((pG n).block (L.map tk).tail).bd f else f (nd 42 [],L.map tk):=λf=>by
  split<;>rfl
 rw[e];refine .has ok (λh ok1=>?_) λh=>?_
 ·simp only[yB];rw[<-yM];refine(S.block _ ok1).gen (by rintro a _ ⟨y,rfl⟩;exact⟨_,rfl,_,rfl⟩) ?_
  rintro f L2 _ hq ok2 rfl;have h25:f.Kind=25:=zzN hq;have hf:(f.Kind==42)=false:=by rw[h25];rfl
  simp only[hf,Bool.false_and,qz2,yA];exact .gt ok2 rfl
 ·simp only[qz2,yA,hc];cases caught with
  |true=>
   simp only[yO,qz2,yA,Bool.and_false];exact .gt ok rfl
  |false=>
   simp only[yN,yB];exact .fail ok λa=>⟨_,rfl,_,rfl⟩
theorem zSp(h9:20*n+35<=M)(ok:TL L0 L):SG L0 EL (OR false) ((RG M).zf5 (pp L false)) (zwQ (pG n) (L.map tk)):=by
 obtain⟨M,rfl⟩: ∃k,M=k+1:=⟨M -1,by omega⟩
 have S:=H n (yJ _) M (by omega);have h7:=λ(L1:List zl) caught nm b c hc ok1=>zRS (L:=L1) (M:=M) H hn (by omega) caught nm b c hc ok1
 show SG _ _ _ (zjZ (RG M) (pp L false)) _;unfold zjZ zjF zmL zmF zmB zmA zmD zwQ zyI;simp only[zav,zt,zI];refine .l (S.block L ok) (λ_ _=>⟨_,rfl,_,rfl⟩) λb L1 ok1=>?_
 have e: ∀(x y:PR (Str×Node)) (f:(Str×Node)×zal->PR Node),((if tIs [99,97,116,99,104] (L1.map tk)=true then x else y).bd f)=if tIs [99,97,116,99,104] (L1.map tk)=true then x.bd f else y.bd f:=λx y f=>by
  split<;>rfl
 rw[e];refine .has ok1 (λh ok2=>?_) λh=>?_
 ·simp only[yB];rw[<-yM,zoV];refine .need ok2 (λ_ _=>⟨_,rfl,_,rfl⟩) λL3 ok3=>?_
  have e2: ∀(x:PR (Str×Node)) (f:(Str×Node)×zal->PR Node),((if(zak (L3.map tk)==1)=true then x else bad (L3.map tk)).bd f)=if(zak (L3.map tk)==1)=true then x.bd f else bad (L3.map tk):=λx f=>by
   split<;>rfl
  rw[e2];refine .name ok3 (λ_ _=>⟨_,rfl,_,rfl⟩) λhk ok4=>?_
  rw[<-yM,zoV];refine .need ok4 (λ_ _=>⟨_,rfl,_,rfl⟩) λL5 ok5=>?_
  rw[zgd];refine(S.block L5 ok5).gen (by rintro a _ ⟨y,rfl⟩;exact⟨_,rfl,_,rfl⟩) ?_
  rintro c L6 _ hq ok6 rfl;have h25:c.Kind=25:=zzN hq;exact h7 L6 true (tText (L3.map tk)) b c (by rw[h25];rfl) ok6
 ·simp only[qz2,yA];exact h7 L1 false [] b (nd 42 []) rfl ok1
theorem zLG(h9:20*n+35<=M)(ok:TL L0 L):SG L0 EL (OR false) ((RG M).zeD (pp L false))
  (((pG n).head (L.map tk)).bd λx=>((pG n).stmt x.2).bd λb=>if tIs [101,108,115,101] b.2=true then((pG n).stmt b.2.tail).bd λc=>gt (nd 26 [x.1,zeN b.1,zeN c.1],c.2)else gt (nd 26 [x.1,zeN b.1],b.2)):=by
 obtain⟨M,rfl⟩: ∃k,M=k+1:=⟨M -1,by omega⟩
 have S:=H n (yJ _) M (by omega);have hb:=λ(L1:List zl) ok1=>zDv (L:=L1) (M:=M) H hn (by omega) ok1
 show SG _ _ _ (zid (RG M) (pp L false)) _;unfold zid zhO zkk zkt;simp only[zav,zt,zI];refine .l (S.head L ok) (λ_ _=>⟨_,rfl,_,rfl⟩) λx L1 ok1=>?_
 refine(hb L1 ok1).gen (by rintro a _ ⟨y,rfl⟩;exact⟨_,rfl,_,rfl⟩) ?_
 rintro b L2 _ _ ok2 rfl;refine .has ok2 (λh ok3=>?_) λh=>?_
 ·simp only[yB];rw[<-yM];refine(hb _ ok3).gen (by rintro a _ ⟨y,rfl⟩;exact⟨_,rfl,_,rfl⟩) ?_
  rintro c L4 _ _ ok4 rfl;exact .room (by simp) (.gt ok4 rfl)
 ·simp only[qz2,yA];exact .gt ok2 rfl
theorem zKr(o:Bool)(acc:List Node)(ha:acc.length<=20000000000): ∀(k m:Nat),k<=n->k<=m->∀(cur:List Node) (L:List zl),cur.length+k<=n+1->TL L0 L->
  SG L0 (λa r=>∃y,r= .inr (.inl (zaQ.code 45 a,y))) (λ(v:List Node) L' r=>r= .inl (o,pp L' false,0,[],0,[],36,[],0,[],[],[],[],acc++[nd 37 (cur++v)],()))
   (zaH (zgp (RG M)) m (o,pp L false,0,[],0,[],36,[],0,[],37,[],0,[],[],[],[],acc,[],cur,())) ((pG k).body (L.map tk))
 |0,m,_,_,l,L,_,ok=>trivial
 |k+1,0,_,hm,l,L,_,ok=>by omega
 |k+1,m+1,hk,hm,cur,L,hl,ok=>by
  show SG _ _ _ _ (ztU (pG k) (L.map tk));have ih:=λcur L hl ok=>zKr o acc ha k m (by omega) (by omega) cur L hl ok
  unfold ztU;rw[zcO];generalize zaH (zgp (RG M)) m=W at ih⊢;unfold zgp;simp only[zav,zt];rw[zoG ok.ok [[99,97,115,101],[100,101,102,97,117,108,116],[125]] ([32,99,97,115,101,32,100,101,102,97,117,108,116,32,125,32]:Str) (by decide+kernel) (by decide+kernel) (by decide),qz1];obtain⟨x,r,rfl⟩:=ok.ok.cons;have k0:=zjD ok 0;rw[show((0:Nat):Int)=0 from rfl]at k0;simp only[zfa,qz1,bne,k0,qz3,qz6,Nat.zero_add];cases h1:zc3 [[99,97,115,101],[100,101,102,97,117,108,116],[125]] ((x::r).map tk)with
  |true=>
   simp only[yO,qz2,yA,qz1,Bool.true_or,yB];rw[zcQ (by omega)];exact .gt ok (by show _=_;rw[List.append_nil];rfl)
  |false=>
   simp only[yN,yB,qz1,Bool.false_or];cases h2:zak ((x::r).map tk)==0 with
   |true=>
    simp only[yO,qz2,yA,yB];rw[zcQ (by omega)];exact .gt ok (by show _=_;rw[List.append_nil];rfl)
   |false=>
    simp only[yN,yB,qz2,yA];refine .assoc (.l ((H k (by omega) M (by omega)).stmt _ ok) (λ_ _=>⟨_,rfl,_,rfl⟩) λy L3 ok3=>?_);refine .assoc (.room (by omega) ?_);exact(ih (cur++[y]) L3 (by rw[qz5];simp only[qz3,qz6];omega) ok3).map (λv=>y::v) (by rintro v L' _ rfl;simp)
theorem zKA: ∀(k m:Nat),k<=n->k<=m->∀(o:Bool) (acc:List Node) (L:List zl),acc.length+k<=n+1->TL L0 L->
  SG L0 EL (λ(v:List Node) L' r=>r= .inr (nd 36 (acc++v),pp L' false,())) (zaH (zgr (RG M)) m (o,pp L false,0,[],0,[],36,[],0,[],[],[],[],acc,())) ((pG k).cases o (L.map tk))
 |0,m,_,_,o,l,L,_,ok=>trivial
 |k+1,0,_,hm,o,l,L,_,ok=>by omega
 |k+1,m+1,hk,hm,o,acc,L,hl,ok=>by
  have S:=H k (by omega) M (by omega);have ih:=λo acc L hl ok=>zKA k m (by omega) (by omega) o acc L hl ok
  show SG _ _ _ _ (zm9 (pG k) o (L.map tk));rw[zcO];generalize zaH (zgr (RG M)) m=W at ih⊢
  have j4: ∀(o':Bool) (x:Node) (L1:List zl),TL L0 L1->SG L0 EL (λ(v:List Node) L' r=>r= .inr (nd 36 (acc++v),pp L' false,()))
    ((zgh (RG M) o' (pp L1 false) 0 [] 0 [] 36 [] 0 [] 37 [] 0 [] [] [] [] acc [] [x]).bind (zkX W))
    ((zbi [58] (L1.map tk)).bn λt=>((pG k).body t).bd λl=>((pG k).cases o' l.2).bd λr=>gt (nd 37 (x::l.1)::r.1,r.2)):=λo' x L1 ok1=>by
   unfold zgh;simp only[zav];refine .assoc (.need ok1 (λ_ _=>⟨_,rfl,_,rfl⟩) λL2 ok2=>?_);have hb:=SG.loop (zKr H hn hM o' acc (by omega) k 1000000000000 (by omega) (by omega) [x] L2 (by simp;omega) ok2) (yJ _)
   refine hb.gen (by rintro a _ ⟨y,rfl⟩;exact⟨_,rfl,_,rfl⟩) ?_
   rintro l L3 _ _ ok3 rfl;exact(ih o' (acc++[nd 37 ([x]++l)]) L3 (by rw[qz5];simp only[qz3,qz6];omega) ok3).map (λv=>nd 37 (x::l)::v) (by rintro v L' _ rfl;simp)
  have j2: ∀(L1:List zl),TL L0 L1->SG L0 EL (λ(v:List Node) L' r=>r= .inr (nd 36 (acc++v),pp L' false,()))
    ((zgk (RG M) o (pp L1 false) 0 [] 0 [] 36 [] 0 [] 37 [] 0 [] [] [] [] acc [] [nd 42 []]).bind (zkX W))
    ((zbi [99,97,115,101] (L1.map tk)).bn λt=>((pG k).expr false t).bd λx=>(zbi [58] x.2).bn λt=>((pG k).body t).bd λl=>((pG k).cases o l.2).bd λr=>gt (nd 37 (x.1::l.1)::r.1,r.2)):=λL1 ok1=>by
   unfold zgk zk8;simp only[zav,zt];refine .assoc (.need ok1 (λ_ _=>⟨_,rfl,_,rfl⟩) λL2 ok2=>?_);refine .assoc (.r (S.expr false L2 ok2) (λ_ _=>⟨_,rfl,_,rfl⟩) λx L3 ok3=>?_);exact j4 o x L3 ok3
  unfold zm9;unfold zgr;simp only[zav,zt];refine .assoc (.has ok (λh ok1=>?_) λh=>?_)
  ·simp only[yO,qz2,yA];exact .gt' ok1 (by rw[yM]) (by show _=_;rw[List.append_nil];rfl)
  ·simp only[yN,yB];cases o with
   |false=>
    simp only[Bool.false_and,qz2,yA];exact j2 L ok
   |true=>
    simp only[Bool.true_and,yB];refine .assoc (.has ok (λh ok1=>?_) λh=>?_)
    ·simp only[yB];rw[<-yM];exact j4 false (nd 42 []) _ ok1
    ·simp only[qz2,yA];exact j2 L ok
theorem zPf(h9:20*n+35<=M)(ok:TL L0 L):SG L0 EL (OR false) ((RG M).ze9 (pp L false))
  (((pG n).head (L.map tk)).bd λx=>(zbi [123] x.2).bn λt=>((pG n).cases true t).bd λl=>gt (nd 36 (x.1::l.1),l.2)):=by
 obtain⟨M,rfl⟩: ∃k,M=k+1:=⟨M -1,by omega⟩
 have S:=H n (yJ _) M (by omega);show SG _ _ _ (ziK (RG M) (pp L false)) _;unfold ziK;simp only[zav,zt];refine .l (S.head L ok) (λ_ _=>⟨_,rfl,_,rfl⟩) λx L1 ok1=>?_
 refine .need ok1 (λ_ _=>⟨_,rfl,_,rfl⟩) λL2 ok2=>?_
 exact(SG.loop (zKA H hn (by omega) n 1000000000000 (yJ _) (by omega) true [x] L2 (by simp;omega) ok2) (yJ _)).map (λv=>nd 36 (x::v)) (by rintro v L' _ rfl;rfl)
theorem zKs(k:Int)(ok:TL L0 L):SG L0 EL (OR false) (ziC k (pp L false)) (zse k (L.map tk)):=by
 obtain⟨x,r,rfl⟩:=ok.ok.cons;have k1:=zjD ok 1;rw[show((1:Nat):Int)=1 from rfl]at k1;have hf:x.Fresh=zgm ((x::r).map tk):=rfl;unfold ziC zse;simp only[zav,zfa,qz1,k1,hf];cases h1:zak ((x::r).map tk)==1 with
 |false=>
  simp only[qz2,yA,qz1,Bool.false_and];exact .end ok (λ_ _=>⟨_,rfl,_,rfl⟩) λL3 ok3=> .gt ok3 rfl
 |true=>
  simp only[yB,qz1,Bool.true_and];cases h2:zgm ((x::r).map tk)with
  |true=>
   simp only[yO,qz2,yA];exact .end ok (λ_ _=>⟨_,rfl,_,rfl⟩) λL3 ok3=> .gt ok3 rfl
  |false=>
   simp only[yN,yB];refine .take ok (zbu h1 (by decide)) λa ha ok2=>?_
   rw[<-yM];refine .end ok2 (λ_ _=>⟨_,rfl,_,rfl⟩) λL3 ok3=> .gt ok3 ?_
   simp only[ha];rfl
theorem zKh: ∀(k m:Nat),k<=n+1->k<=m->∀(f:Bool) (l:List Node) (L:List zl),l.length+k<=n+1->TL L0 L->
  SG L0 ER (λ(v:List Node) L' r=>r= .inl (l++v,pp L' false,())) (zaH (zgq (RG M)) m (f,[125],pp L false,l,())) ((pG k).stmts f (L.map tk))
 |0,m,_,_,f,l,L,_,ok=>trivial
 |k+1,0,_,hm,f,l,L,_,ok=>by omega
 |k+1,m+1,hk,hm,f,l,L,hl,ok=>by
  have S:=H k (by omega) M (by omega);have ih:=λl L hl ok=>zKh k m (by omega) (by omega) f l L hl ok
  show SG _ _ _ _ (znH (pG k) f (L.map tk));rw[zcO];generalize zaH (zgq (RG M)) m=W at ih⊢
  have go: ∀(y:Node) (L3:List zl),TL L0 L3->SG L0 ER (λ(v:List Node) L' r=>r= .inl (l++v,pp L' false,())) (W (f,[125],pp L3 false,l++[y],())) (((pG k).stmts f (L3.map tk)).bd λq=>gt (y::q.1,q.2)):=λy L3 ok3=>
   (ih (l++[y]) L3 (by rw[qz5];simp only[qz3,qz6];omega) ok3).map (λv=>y::v) (by rintro v L' _ rfl;simp)
  have j2:SG L0 ER (λ(v:List Node) L' r=>r= .inl (l++v,pp L' false,()))
    ((zgn (RG M) f [125] (pp L false) l 0 [] 0 [] [] []).bind (zkX W)) (((pG k).stmt (L.map tk)).bd λx=>((pG k).stmts f x.2).bd λq=>gt (x.1::q.1,q.2)):=by
   unfold zgn;simp only[zav,zt,qz3,qz6,Nat.zero_add];refine .assoc (.l (S.stmt L ok) (λ_ _=>⟨_,rfl,_,rfl⟩) λy L3 ok3=>?_);exact .assoc (.room (by omega) (go y L3 ok3))
  unfold znH;unfold zgq;simp only[zav,zt];rw[zwD ok.ok [125],qz1];have hget:zas L 0=some (L.head (by obtain⟨x,r,rfl⟩:=ok.ok.cons;simp)):=by obtain⟨x,r,rfl⟩:=ok.ok.cons;rfl
  have k0:((L.head (by obtain⟨x,r,rfl⟩:=ok.ok.cons;simp)).Kind==0)=(zak (L.map tk)==0):=by obtain⟨x,r,rfl⟩:=ok.ok.cons;exact zjD ok 0
  simp only[hget,qz1,bne,k0,qz3,qz6,Nat.zero_add];cases h1:tIs [125] (L.map tk)with
  |true=>
   simp only[yO,qz2,yA,qz1,Bool.true_or,yB];exact .gt ok (by simp)
  |false=>
   simp only[yN,yB,qz1,Bool.false_or];cases h2:zak (L.map tk)==0 with
   |true=>
    simp only[yO,qz2,yA,yB];exact .gt ok (by simp)
   |false=>
    simp only[yN,yB,qz2,yA];cases f with
    |false=>
     simp only[Bool.false_and,qz2,yA];exact j2
    |true=>
     simp only[Bool.true_and,yB]
     have e: ∀(x y:PR Node) (f:Node×zal->PR (List Node)),((if tIs [102,117,110,99,116,105,111,110] (L.map tk)=true then x else y).bd f)=if tIs [102,117,110,99,116,105,111,110] (L.map tk)=true then x.bd f else y.bd f:=λx y f=>by
      split<;>rfl
     rw[e];refine .assoc (.has ok (λh ok1=>?_) λh=>?_)
     ·simp only[yB];rw[<-yM];refine .assoc (.l (S.func false 39 _ ok1) (λ_ _=>⟨_,rfl,_,rfl⟩) λy L3 ok3=>?_);exact .assoc (.room (by omega) (go y L3 ok3))
     ·simp only[qz2,yA];exact j2
theorem zNM(f:Bool)(ok:TL L0 L):SG L0 ER (OL false) (ziG (RG M) f [125] (pp L false)) (znH (pG n) f (L.map tk)):=by
 unfold ziG;simp only[zav];exact .loop (zKh H hn hM (n+1) 1000000000000 (yJ _) (by omega) f [] L (by simp) ok) (yJ _)
end
section
variable {L0 L:List zl} {no:Bool} {n M:Nat} (H: ∀k,k<=n->∀N,20*k+20<=N->zzZ L0 (RG N) (pG k)) (hn:n<=10000000000) (hM:20*n+39<=M) (h0:L0.length<=10000000000)
include H hn hM
theorem zPW(ok:TL L0 L):SG L0 EL (OR false) (zjv (RG M) (pp L false)) (zsd (pG n) (L.map tk)):=by
 have S:=H n (yJ _) M (by omega);have hb:=λ(L1:List zl) ok1=>zDv (L:=L1) (M:=M) H hn (by omega) ok1
 unfold zjv zsd;simp only[zav,zt];refine .is ok (λh=>?_) λh=>?_
 ·exact .ll (S.block L ok) (λ_ _=>⟨_,rfl,_,rfl⟩) λv L'=>⟨_,rfl,rfl⟩
 simp only[qz2,yA];refine .has ok (λh ok1=> .gt' ok1 (by rw[yM]) rfl) λh=>?_
 simp only[qz2,yA];refine .has ok (λh ok1=>?_) λh=>?_
 ·simp only[yB];rw[<-yM];refine(S.vars false _ ok1).gen (by rintro a _ ⟨y,rfl⟩;exact⟨_,rfl,_,rfl⟩) ?_
  rintro l L2 _ _ ok2 rfl;exact .end ok2 (λ_ _=>⟨_,rfl,_,rfl⟩) λL3 ok3=> .gt ok3 rfl
 simp only[qz2,yA];refine .has ok (λh ok1=>?_) λh=>?_
 ·simp only[yB];rw[<-yM];exact .ll (zLG H hn (by omega) (by omega) ok1) (λ_ _=>⟨_,rfl,_,rfl⟩) λv L'=>⟨_,rfl,rfl⟩
 simp only[qz2,yA];refine .has ok (λh ok1=>?_) λh=>?_
 ·simp only[yB];rw[<-yM];refine .l (S.head _ ok1) (λ_ _=>⟨_,rfl,_,rfl⟩) λx L2 ok2=>?_
  refine(hb L2 ok2).gen (by rintro a _ ⟨y,rfl⟩;exact⟨_,rfl,_,rfl⟩) ?_
  rintro b L3 _ _ ok3 rfl;exact .gt ok3 rfl
 simp only[qz2,yA];refine .has ok (λh ok1=>?_) λh=>?_
 ·simp only[yB];rw[<-yM];refine(hb _ ok1).gen (by rintro a _ ⟨y,rfl⟩;exact⟨_,rfl,_,rfl⟩) ?_
  rintro b L3 _ _ ok3 rfl;refine .need ok3 (λ_ _=>⟨_,rfl,_,rfl⟩) λL4 ok4=>?_
  refine .l (S.head _ ok4) (λ_ _=>⟨_,rfl,_,rfl⟩) λx L2 ok2=>?_
  exact .end ok2 (λ_ _=>⟨_,rfl,_,rfl⟩) λL3 ok3=> .gt ok3 rfl
 simp only[qz2,yA];refine .has ok (λh ok1=>?_) λh=>?_
 ·simp only[yB];rw[<-yM];exact .ll (S.loop _ ok1) (λ_ _=>⟨_,rfl,_,rfl⟩) λv L'=>⟨_,rfl,rfl⟩
 simp only[qz2,yA];refine .has ok (λh ok1=>?_) λh=>?_
 ·simp only[yB];rw[<-yM];exact .ll (zKs (M:=M) H hn (by omega) 31 ok1) (λ_ _=>⟨_,rfl,_,rfl⟩) λv L'=>⟨_,rfl,rfl⟩
 simp only[qz2,yA];refine .has ok (λh ok1=>?_) λh=>?_
 ·simp only[yB];rw[<-yM];exact .ll (zKs (M:=M) H hn (by omega) 32 ok1) (λ_ _=>⟨_,rfl,_,rfl⟩) λv L'=>⟨_,rfl,rfl⟩
 simp only[qz2,yA];refine .has ok (λh ok1=>?_) λh=>?_
 ·simp only[yB];rw[<-yM,zwD ok1.ok [59],qz1];cases h59:tIs [59] (L.tail.map tk)with
  |true=>
   simp only[yO,qz2,yA,Bool.false_and];exact .end ok1 (λ_ _=>⟨_,rfl,_,rfl⟩) λL3 ok3=> .gt ok3 rfl
  |false=>
   simp only[yN,yB,Bool.true_and];refine .stops ok1 ?_;cases hs:zj2 (L.tail.map tk)with
   |true=>
    simp only[yO,qz2,yA];exact .end ok1 (λ_ _=>⟨_,rfl,_,rfl⟩) λL3 ok3=> .gt ok3 rfl
   |false=>
    simp only[yN,yB];refine .r (S.expr false _ ok1) (λ_ _=>⟨_,rfl,_,rfl⟩) λx L2 ok2=>?_
    exact .end ok2 (λ_ _=>⟨_,rfl,_,rfl⟩) λL3 ok3=> .gt ok3 rfl
 simp only[qz2,yA];refine .has ok (λh ok1=>?_) λh=>?_
 ·simp only[yB];rw[<-yM];obtain⟨a,r,hL⟩:=ok1.ok.cons;rw[hL]at ok1⊢;have hf:a.Fresh=zgm ((a::r).map tk):=rfl;simp only[zfa,qz1,hf];cases hfr:zgm ((a::r).map tk)with
  |true=>
   simp only[yB];exact .fail ok1 λa=>⟨_,rfl,_,rfl⟩
  |false=>
   simp only[qz2,yA];refine .r (S.expr false _ ok1) (λ_ _=>⟨_,rfl,_,rfl⟩) λx L2 ok2=>?_
   exact .end ok2 (λ_ _=>⟨_,rfl,_,rfl⟩) λL3 ok3=> .gt ok3 rfl
 simp only[qz2,yA];refine .has ok (λh ok1=>?_) λh=>?_
 ·simp only[yB];rw[<-yM];exact .ll (zSp H hn (by omega) (by omega) ok1) (λ_ _=>⟨_,rfl,_,rfl⟩) λv L'=>⟨_,rfl,rfl⟩
 simp only[qz2,yA];refine .has ok (λh ok1=>?_) λh=>?_
 ·simp only[yB];rw[<-yM];exact .ll (zPf H hn (by omega) (by omega) ok1) (λ_ _=>⟨_,rfl,_,rfl⟩) λv L'=>⟨_,rfl,rfl⟩
 simp only[qz2,yA];refine .is ok (λh=>?_) λh=>?_
 ·simp only[yB];exact .fail ok λa=>⟨_,rfl,_,rfl⟩
 simp only[qz2,yA];obtain⟨a,r,rfl⟩:=ok.ok.cons;have k1:=zjD ok 1;rw[show((1:Nat):Int)=1 from rfl]at k1;simp only[zfa,qz1,k1]
 have last:SG L0 EL (OR false) (((RG M).zaX (pp (a::r) false)).bind λr_95=>
   match r_95 with
   |Sum.inl r_96=>
    (zcF r_96.2.1).bind λr_97=>
     match r_97 with
     |Sum.inl r_98=>some (Sum.inl (r_98.1,r_98.2.1,()))
     |Sum.inr r_99=>some (Sum.inr ((⟨24,[],0,[],[],[r_96.1]⟩:zf),r_99.1,()))
   |Sum.inr r_100=>some (Sum.inl (r_100.1,r_100.2.1,())))
   (((pG n).expr false ((a::r).map tk)).bd λx=>(zjl x.2).bn λt=>gt (nd 24 [x.1],t)):=by
  refine .r (S.expr false _ ok) (λ_ _=>⟨_,rfl,_,rfl⟩) λx L2 ok2=>?_
  exact .end ok2 (λ_ _=>⟨_,rfl,_,rfl⟩) λL3 ok3=> .gt ok3 rfl
 cases h1:zak ((a::r).map tk)==1 with
 |false=>
  simp only[qz2,yA,qz1,Bool.false_and];exact last
 |true=>
  have ok1:=ok.tail (zbu h1 (by decide));obtain⟨b,r',hr⟩:=ok1.ok.cons;obtain rfl:r=b::r':=hr;have hget:zas (a::b::r') 1=some b:=rfl;have k5:=zjD ok1 5;rw[show((5:Nat):Int)=5 from rfl]at k5
  have h58:tIs [58] ((b::r').map tk)=(zak ((b::r').map tk)==5&&b.Text==[58]):=by
   show(opK (tk b)&&(b.Text==([58]:Str)))=((tk b).kind==5&&b.Text==([58]:Str))
   unfold opK;cases h5:(tk b).kind==5 with
   |true=>rfl
   |false=>
    simp only[Bool.false_or,Bool.false_and];cases h2:(tk b).kind==2 with
    |false=>rfl
    |true=>
     have e2:b.Kind=2:=eq_of_beq ((zjD ok1 2).trans h2);rw[Bool.true_and,yH];exact ok1.ok.colon b qz7 e2
  have ht:((a::b::r').map tk).tail=(b::r').map tk:=rfl;simp only[hget,yB,qz1,k5,Bool.true_and,ht,h58];cases h5:zak ((b::r').map tk)==5 with
  |false=>
   simp only[qz2,yA,qz1,Bool.false_and];exact last
  |true=>
   simp only[yB,qz1,Bool.true_and];cases h6:b.Text==([58]:Str)with
   |false=>
    simp only[qz2,yA];exact last
   |true=>
    simp only[yB];have e: ∀q:PR Node,q=if(zak ((a::b::r').map tk)==1)=true then q else bad ((a::b::r').map tk):=λq=>by rw[yL h1]
    rw[e (((pG n).stmt _).bd _)];refine .name ok (λ_ _=>⟨_,rfl,_,rfl⟩) λ_ ok1=>?_
    refine .take ok1 (zbu h5 (by decide)) λc hc ok2=>?_
    exact .l (S.stmt _ ok2) (λ_ _=>⟨_,rfl,_,rfl⟩) λx L2 ok2=> .gt ok2 rfl
include h0 in
theorem zMM(N:Nat)(hN:20*n+40<=N):zzZ L0 (RG N) (pG (n+1)):=by
 obtain⟨K,rfl⟩: ∃k,N=k+1:=⟨N -1,by omega⟩
 have m1:20*n+30<=K:=by omega
 have m2:20*n+39<=K:=by omega
 exact{
  expr:=λno L ok=>zRm H hn m1 ok,
   assign:=λno L ok=>zM4 H hn m1 ok,
   binary:=λno b L ok hb=>zMN H hn m1 b hb ok,
   unary:=λno L ok=>zOU H hn m1 ok,
   mems:=λno x c L ok=>zRc H hn m1 x c ok,
   made:=λno L ok=>zPP H hn m1 ok,
   prim:=λno L ok=>zQ8 H hn m1 m2 ok,
   exprs:=λno s last L ok=>zNN H hn m1 m2 s last ok,
   props:=λno L ok=>zN7 H hn m1 m2 ok,
   func:=λno k L ok=>zP2 H hn m1 h0 k ok,
   vars:=λno L ok=>zQE H hn m1 ok,
   block:=λL ok=>zOu H hn m1 ok,
   head:=λL ok=>zQW H hn m1 ok,
   till:=λs L ok=>zRT H hn m1 s ok,
   loop:=λL ok=>zPR H hn m1 ok,
   stmt:=λL ok=>zPW H hn m2 ok,
   stmts:=λf L ok=>zNM H hn m1 f ok}
end
theorem zHV{L0:List zl}(h0:L0.length<=10000000000): ∀n,n<=10000000001->∀k,k<=n->∀N,20*k+20<=N->zzZ L0 (RG N) (pG k)
 |0,_,k,hk,N,_=>by
  obtain rfl:k=0:=by omega
  constructor<;>intros<;>trivial
 |n+1,hn,k,hk,N,hN=>by
  have H:=zHV h0 n (by omega);by_cases h:k<=n
  ·exact H k h N hN
  ·obtain rfl:k=n+1:=by omega
   exact zMM H (by omega) (M:=20*n+39) (yJ _) h0 N (by omega)
def zqL(L:List zl):Node×Int×Int:=
 match(pG (10*L.length+20)).stmts true (L.map tk)with
 |none=>(nd 0 [],0,0)
 |some (.inl k)=>(nd 0 [],atK L k,80)
 |some (.inr q)=>if zak q.2=0 then(if 64<zd0 (nd 41 q.1)then(nd 0 [],0,31)else(nd 41 q.1,0,0))else(nd 0 [],atK L q.2.length,80)
theorem zE6{t:zal}(w:Wf t): ∃r,(pG (10*t.length+20)).stmts true t=some r:=by
 have:=(zPg (10*t.length+20)).stmts true t w (by omega);cases h:(pG (10*t.length+20)).stmts true t with
 |none=>rw[h]at this;exact this.elim
 |some r=>exact⟨r,rfl⟩
theorem zvv{src:Str}{L:List zl}(hs:src.length<=100000000)(hc:U.zel src=(L,0,0))(ok:TOk L)(hl:L.length<=100000000)
  (hz: ∀q,(pG (10*L.length+20)).stmts true (L.map tk)=gt q->zjw (nd 41 q.1)<=2097152):zdr src=some ((zqL L).1,(zqL L).2.1,(zqL L).2.2,()):=by
 have okL:TL L L:=⟨ok,List.suffix_refl L⟩
 have S:=(zHV (L0:=L) (by omega) (10*L.length+20) (by omega) _ (yJ _) 1000000000000 (by omega)).stmts true L okL;obtain⟨r,hr⟩:=zE6 ok.wf;rw[List.length_map]at hr;unfold zdr zqL;rw[U.zCq src hs,hc];simp only[qz1,bne_self_eq_false,qz2,yA];rw[hr]at S hz⊢;cases r with
 |inl k=>
  obtain⟨r,e,y,rfl⟩:=S;have e:zcf true [125] ⟨L,false⟩=some (.inr (zaQ.code 45 (atK L k),y)):=e;rw[e];rfl
 |inr q=>
  obtain⟨r,L',e,e2,ok',rfl⟩:=S;have e:zcf true [125] ⟨L,false⟩=some (.inl (q.1,pp L' false,())):=e;rw[e];obtain⟨x,r,rfl⟩:=ok'.ok.cons;have k0:=zjD ok' 0;rw[show((0:Nat):Int)=0 from rfl]at k0;have hd:=zIv (nd 41 q.1) (hz q rfl);simp only[qz1,zfa,bne,k0];rw[<-e2];cases h0:zak ((x::r).map tk)==0 with
  |false=>
   have h1: ¬zak ((x::r).map tk)=0:=by simpa using h0
   rw[yK h1,ok'.at_];rfl
  |true=>
   have h1:zak ((x::r).map tk)=0:=by simpa using h0
   rw[yL h1];simp only[yO,qz2,yA];rw[show zg5 (⟨41,[],0,[],[],q.1⟩:zf)=some ((zd0 (nd 41 q.1):Int),())from hd];simp only[qz1];by_cases hdp:64<zd0 (nd 41 q.1)
   ·rw[yL hdp,decide_eq_true (by omega)];rfl
   ·rw[yK hdp,decide_eq_false (by omega)];rfl
end Go.D08
namespace Go.D08.U
open Go Go.Gw Go.Dn Go.Proofs
set_option maxRecDepth 100000
theorem zIq{r:Str}{us:List Nat}{k:Nat}(h:ztw r=some (us,k)):us.length<=1:=by
 cases r with
 |nil=>cases h
 |cons c r=>
  unfold ztw at h;dsimp only at h;split at h
  ·cases h;simp
  ·split at h
   ·split at h
    ·cases h;simp
    ·split at h
     ·cases h
     ·cases h;simp
   ·split at h
    ·cases e:hexN 2 r 0 with
     |none=>rw[e]at h;cases h
     |some n=>rw[e]at h;cases h;simp
    ·split at h
     ·cases e:hexN 4 r 0 with
      |none=>rw[e]at h;cases h
      |some n=>rw[e]at h;cases h;simp
     ·cases e:zlb c with
      |none=>rw[e]at h;cases h
      |some n=>rw[e]at h;cases h;simp
theorem zw3(q:UInt8): ∀(m:Nat) (r:Str) (acc us:List Nat) (k:Nat),zhL q m r acc=some (us,k)->us.length<=acc.length+m
 |0,_,_,_,_,h=>by cases h
 |m+1,[],_,_,_,h=>by cases h
 |m+1,c::r,acc,us,k,h=>by
  unfold zhL at h;split at h
  ·cases h;omega
  ·split at h
   ·cases h
   ·split at h
    ·split at h
     ·cases h
     ·rename_i us' k' he;have:=zw3 q m _ _ _ _ h;have h1:=zIq he;rw[qz5]at this;omega
    ·have:=zw3 q m _ _ _ _ h;rw[qz5]at this;simp only[qz3,qz6]at this;omega
theorem zK9{s:Str}{u:Str}{n e:Int}(h:zfB s=(u,n,e))(hn:n≠0): ∃us:List Nat,u=zdF us/\us.length<=s.length:=by
 cases s with
 |nil=>cases h;exact absurd rfl hn
 |cons q r=>
  unfold zfB at h;simp only at h;split at h
  ·cases hg:zhL q (r.length+1) r []with
   |none=>rw[hg]at h;cases h;exact absurd rfl hn
   |some p=>
    obtain⟨us,k⟩:=p;rw[hg]at h;cases h;have:=zw3 q _ _ _ _ _ hg;exact⟨us,rfl,by simpa using this⟩
  ·cases h;exact absurd rfl hn
structure zDk (s:Str) (t:Tok):Prop where
 len:t.Text.length<=2*s.length
 ident:t.Kind=1\/t.Kind=2->t.Text=s.take (zaC s)/\zaC s<=32/\∃c r,s=c::r/\isLet c=true
 word:t.Kind=1\/t.Kind=2->(t.Kind=2↔zpt t.Text=true)
 num:t.Kind=3->0<=t.Num/\t.Num<=9007199254740991/\t.Text=[]
 str:t.Kind=4->∃us:List Nat,t.Text=zdF us/\us.length<=s.length
 sign:t.Kind=5->t.Text=s.take (zdV s)/\zdV s≠0
theorem zSX{s:Str}{t:Tok}{n:Nat}(h:zoZ s=some (t,n)):zDk s t:=by
 cases s with
 |nil=>cases h
 |cons c s=>
  have hrow:=zrQ (c::s);have hsg:=zD1 c s;unfold zoZ at h;dsimp only at h;split at h
  ·rename_i hl;split at h
   ·cases h
   ·rename_i h32;cases h;have hk: ∀b:Bool,(if b=true then(2:Int)else 1)=2↔b=true:=by intro b;cases b<;>decide
    have hk3: ∀b:Bool,(if b=true then(2:Int)else 1)≠3/\(if b=true then(2:Int)else 1)≠4/\(if b=true then(2:Int)else 1)≠5:=by intro b;cases b<;>decide
    exact⟨by rw[List.length_take];omega,λ_=>⟨rfl,by omega,c,s,rfl,hl⟩,λ_=>hk _,λe=>absurd e (hk3 _).1,λe=>absurd e (hk3 _).2.1,λe=>absurd e (hk3 _).2.2⟩
  ·split at h
   ·cases hn:zn4 (c::s)with
    |none=>rw[hn]at h;cases h
    |some p=>
     rw[hn]at h;cases h
     have hb:p.1<=9007199254740991:=by
      unfold zn4 at hn;split at hn
      ·cases hn
      ·split at hn
       ·cases hn
       ·split at hn
        ·cases hn;assumption
        ·cases hn
     exact⟨by simp,λe=>by rcases e with e|e<;>exact absurd e (by simp),λe=>by rcases e with e|e<;>exact absurd e (by simp),λ_=>⟨by simp only;omega,by simp only;omega,rfl⟩,λe=>absurd e (by simp),λe=>absurd e (by simp)⟩
   ·split at h
    ·generalize hx:zfB (c::s)=q at h;obtain⟨u,n',e⟩:=q;simp only at h;split at h
     ·cases h
     ·rename_i hne;cases h;obtain⟨us,h1,h2⟩:=zK9 hx hne;exact⟨by rw[h1,zkl];omega,λe=>by rcases e with e|e<;>exact absurd e (by simp),λe=>by rcases e with e|e<;>exact absurd e (by simp),λe=>absurd e (by simp),λ_=>⟨us,h1,h2⟩,λe=>absurd e (by simp)⟩
    ·split at h
     ·cases h
     ·rename_i hne;cases h;exact⟨by rw[List.length_take];omega,λe=>by rcases e with e|e<;>exact absurd e (by simp),λe=>by rcases e with e|e<;>exact absurd e (by simp),λe=>absurd e (by simp),λe=>absurd e (by simp),λ_=>⟨rfl,hne⟩⟩
theorem zRD: ∀b:Fin 256,zeA (UInt8.ofNat b.val)=true->b.val<128/\b.val≠32/\b.val≠58:=by decide+kernel
theorem zD2(b:UInt8)(h:zeA b=true):b<128/\b≠32/\b≠58:=by
 have:=zRD ⟨b.toNat,b.toNat_lt⟩;have e:UInt8.ofNat b.toNat=b:=by simp
 simp only[e]at this;obtain⟨h1,h2,h3⟩:=this h;exact⟨h1,λe=>h2 (by rw[e];rfl),λe=>h3 (by rw[e];rfl)⟩
theorem zMa(c:UInt8)(r:Str)(h:zdV (c::r)≠0):(32:UInt8)∉(c::r).take (zdV (c::r)):=by
 unfold zdV at h⊢;split
 ·rename_i h3;have: ∀w∈zoC,(32:UInt8)∉w:=by decide+kernel
  exact this _ (by simpa using h3.2)
 ·split
  ·rename_i h2;have: ∀w∈zp9,(32:UInt8)∉w:=by decide+kernel
   exact this _ (by simpa using h2.2)
  ·split
   ·rename_i h1;have h1:c∈zr9:=by simpa using h1
    have: ∀c∈zr9,(32:UInt8)≠c:=by decide+kernel
    simp[this c h1]
   ·simp
theorem zsO{s:Str}{t:Tok}(o:zDk s t)(hk:t.Kind=1\/t.Kind=2):(∀b∈t.Text,zeA b=true)/\t.Text≠[]:=by
 obtain⟨h1,h2,c,r,rfl,hl⟩:=o.ident hk;have ha:=zMp (c::r);rw[<-h1]at ha;refine⟨λb hb=>List.all_eq_true.1 ha b hb,λe=>?_⟩;have:1<=zaC (c::r):=by rw[zft,yL (by simp[zeA,hl])];omega
 rw[h1]at e;have:=congrArg List.length e;rw[List.length_take]at this;simp at this;omega
inductive zoD (b:Nat):List Tok->Prop
 |fin (e:Tok):e.Kind=0->e.Text=[]->zoD b [e]
 |one (s:Str) (t:Tok) (l:List Tok):zDk s t->s.length<=b->1<=t.Kind->t.Kind<=5->zoD b l->zoD b (t::l)
theorem zDk.fresh{s:Str}{t:Tok}(o:zDk s t)(f:Bool)(n:Int):zDk s ((t.fresh f).at_ n):=⟨o.len,o.ident,o.word,o.num,o.str,o.sign⟩
theorem zHm(len:Nat): ∀(m:Nat) (s:Str) (f:Bool) (l:List (Tok×Nat)),znz m s f= .inl l->s.length<=len->zoD len (zmh len l)/\(zmh len l).length<=s.length+1
 |0,_,_,_,h,_=>by cases h
 |m+1,s,f,l,h,hs=>by
  have hl:=zi2 (s.length+1) s f;rw[znz]at h;generalize zew (s.length+1) s f=q at h hl;obtain⟨r,f',ok⟩:=q;simp only at h hl;split at h
  ·cases h
  ·split at h
   ·cases h;exact⟨.fin _ rfl rfl,by simp[zmh]⟩
   ·cases ho:zoZ r with
    |none=>rw[ho]at h;cases h
    |some p=>
     obtain⟨t,n⟩:=p;rw[ho]at h;simp only at h;have hn:=zzX ho;cases hc:znz m (r.drop n) false with
     |inr k=>rw[hc]at h;cases h
     |inl l'=>
      rw[hc]at h;cases h;have hd:(r.drop n).length=r.length -n:=List.length_drop;obtain⟨g1,g2⟩:=zHm len m (r.drop n) false l' hc (by omega);rw[zsb];exact⟨.one r _ _ ((zSX ho).fresh f' _) (by omega) hn.2.2.1 hn.2.2.2.1 g1,by simp only[qz3];omega⟩
theorem zpB{src:Str}{L:List Tok}(h:zel src=(L,0,0)):zoD 4096 L/\L.length<=4097/\src.length<=4096:=by
 unfold zel at h;split at h
 ·exact absurd (congrArg (λx=>x.2.2) h) (by simp)
 ·split at h
  ·rename_i l hc;obtain rfl:zmh src.length l=L:=congrArg (λx=>x.1) h;obtain⟨g1,g2⟩:=zHm src.length _ _ _ _ hc (yJ _);refine⟨?_,by omega,by omega⟩
   have up: ∀{l:List Tok},zoD src.length l->zoD 4096 l:=λh=>by
    induction h with
    |fin e h1 h2=>exact .fin e h1 h2
    |one s t l h1 h2 h3 h4 _ ih=>exact .one s t l h1 (by omega) h3 h4 ih
   exact up g1
  ·exact absurd (congrArg (λx=>x.2.2) h) (by simp)
theorem zoD.ok{L:List Tok}(h:zoD 4096 L):TOk L:=by
 induction h with
 |fin e h1 h2=>
  refine⟨?_,?_,?_,?_,?_,?_,[],e,rfl,h1,λt ht=>by cases ht⟩<;>intro t ht<;>(obtain rfl:t=e:=by simpa using ht)
  ·omega
  ·rw[h2];simp
  ·rw[h2];simp
  ·intro hk;omega
  ·intro hk;omega
  ·intro hk;omega
 |one s t l o hs k1 k5 _ ih=>
  obtain⟨a,e,e1,e2,e3⟩:=ih.last;refine⟨?_,?_,?_,?_,?_,?_,t::a,e,by rw[e1];rfl,e2,?_⟩
  ·intro x hx;rcases yP.1 hx with rfl|hx
   ·omega
   ·exact ih.kinds x hx
  ·intro x hx;rcases yP.1 hx with rfl|hx
   ·have:=o.len;omega
   ·exact ih.texts x hx
  ·intro x hx;rcases yP.1 hx with rfl|hx
   ·intro hop
    have hk:x.Kind=5\/x.Kind=2:=by
     unfold opK tk at hop;simp only[yQ,beq_iff_eq]at hop;omega
    rcases hk with hk|hk
    ·obtain⟨h1,h2⟩:=o.sign hk;rw[h1];cases s with
     |nil=>simp
     |cons c r=>exact zMa c r h2
    ·intro hm;exact(zD2 32 ((zsO o (.inr hk)).1 32 hm)).2.1 rfl
   ·exact ih.plain x hx
  ·intro x hx;rcases yP.1 hx with rfl|hx
   ·intro hk b hb;exact(zD2 b ((zsO o hk).1 b hb)).1
   ·exact ih.ascii x hx
  ·intro x hx;rcases yP.1 hx with rfl|hx
   ·intro hk e;have:=(zsO o (.inr hk)).1 58 (by rw[e];exact qz7)
    exact(zD2 58 this).2.2 rfl
   ·exact ih.colon x hx
  ·intro x hx;rcases yP.1 hx with rfl|hx
   ·intro hk;have:=o.num hk;exact⟨this.1,this.2.1⟩
   ·exact ih.nums x hx
  ·intro x hx;rcases yP.1 hx with rfl|hx
   ·omega
   ·exact e3 x hx
end Go.D08.U
namespace Go.D08
open Go Go.Gw Go.Dn
set_option maxRecDepth 100000
mutual
theorem zGY: ∀a b:Node,ztT a b=true↔a=b
 | ⟨k,n,m,t,ns,l⟩,⟨k',n',m',t',ns',l'⟩=>by
  have:=zG8 l l';simp only[ztT,qz4,beq_iff_eq,this];constructor
  ·rintro⟨⟨⟨⟨⟨rfl,rfl⟩,rfl⟩,rfl⟩,rfl⟩,rfl⟩;rfl
  ·intro e;injection e with e1 e2 e3 e4 e5 e6
   exact⟨⟨⟨⟨⟨e1,e2⟩,e3⟩,e4⟩,e5⟩,e6⟩
theorem zG8: ∀a b:List Node,zfw a b=true↔a=b
 | [],[]=>by simp[zfw]
 | [],y::r=>by simp[zfw]
 |x::r,[]=>by simp[zfw]
 |x::r,y::q=>by
  have h1:=zGY x y;have h2:=zG8 r q;simp only[zfw,qz4,h1,h2,List.cons.injEq]
end
end Go.D08
namespace Go.D08
open Go Go.Gw Go.Dn Go.Proofs
set_option maxRecDepth 100000
theorem zRp(x y:Node)(hx:zbC x<=2097152)(hy:zbC y<=2097152):zcU x y=some (ztT x y,()):=by
 have h1:=zwi x;have h2:=zwi y;have h3:=zAP x;have h4:=zAP y;exact zKw 1000000000000 x y (by have:=zwp x;omega) (by omega) (by omega) (by omega) (by omega)
theorem zIl{src:Str}{L:List zl}{ns:List Node}{e:Tok}(hs:src.length<=100000000)(hc:U.zel src=(L,0,0))(ok:TOk L)(hl:L.length<=100000000)(h:(pG (10*L.length+20)).stmts true (L.map tk)=gt (ns,[e]))(he:e.kind=0)
  (hz:zjw (nd 41 ns)<=2097152) (hd:zd0 (nd 41 ns)<=64):zdr src=some (nd 41 ns,0,0,()):=by
 rw[zvv hs hc ok hl (λq hq=>by rw[h]at hq;cases hq;exact hz)]
 unfold zqL;rw[h];simp only;rw[yL (show zak [e]=0 from he),yK (by omega)]
theorem zMf{src:Str}{L:List zl}{k:Nat}(hs:src.length<=100000000)(hc:U.zel src=(L,0,0))(ok:TOk L)(hl:L.length<=100000000)(h:(pG (10*L.length+20)).stmts true (L.map tk)=some (.inl k)):zdr src=some (nd 0 [],atK L k,80,()):=by
 rw[zvv hs hc ok hl (λq hq=>by rw[h]at hq;cases hq)]
 unfold zqL;rw[h]
def nm1(c:UInt8):Node:=ndN 3 [c] []
theorem zUe:zdr [97,32,61,32,98,10,43,43,99]=some (nd 41 [nd 24 [ndN 20 [61] [nm1 97,nm1 98]],nd 24 [⟨16,[43,43],1,[],[],[nm1 99]⟩]],0,0,()):=by
 have hc:U.zel [97,32,61,32,98,10,43,43,99]=((U.zel [97,32,61,32,98,10,43,43,99]).1,0,0):=by kernel_rfl
 obtain⟨h1,h2,_⟩:=U.zpB hc;exact zIl (e:=zM5) (by decide) hc h1.ok (by omega) (by kernel_rfl) rfl (by decide+kernel) (by decide+kernel)
theorem zUd:zdr [114,101,116,117,114,110,10,97]=some (nd 41 [nd 33 [],nd 24 [nm1 97]],0,0,()):=by
 have hc:U.zel [114,101,116,117,114,110,10,97]=((U.zel [114,101,116,117,114,110,10,97]).1,0,0):=by kernel_rfl
 obtain⟨h1,h2,_⟩:=U.zpB hc;exact zIl (e:=zM5) (by decide) hc h1.ok (by omega) (by kernel_rfl) rfl (by decide+kernel) (by decide+kernel)
theorem zT4:zdr [49,32,61,32,50]=some (nd 0 [],2,80,()):=by
 have hc:U.zel [49,32,61,32,50]=((U.zel [49,32,61,32,50]).1,0,0):=by kernel_rfl
 obtain⟨h1,h2,_⟩:=U.zpB hc;have:=zMf (k:=3) (by decide) hc h1.ok (by omega) (by kernel_rfl);have e:atK (U.zel [49,32,61,32,50]).1 3=2:=by kernel_rfl
 rw[this,e]
theorem zLN:zj4=some (true,()):=by
 unfold zj4;rw[zUe,zUd,zT4];rfl
end Go.D08
namespace Go.Dn
open Go.Gw Go.RowKit Go.Deep
open Go.ChangeShapes Go.WideShapes Go.ChangeAt
set_option maxRecDepth 100000
def zoj(w:World):Heap:=λb=>w.heap[b]?
theorem zLx(w:World):(zoj w).Sub w:=⟨λ_ _ e=>e⟩
theorem zEw{w:World}{b off:Nat}{v:Value}(h:w.cell? ⟨b,off,none⟩=some v):zkF (zoj w) b off v:=by
 unfold World.cell? at h;cases hb:w.heap[b]? with
 |none=>rw[hb]at h;cases h
 |some o=>
  rw[hb]at h;cases o<;>simp only[Option.isSome_none,qz2,yA]at h<;>try cases h
  exact⟨_,_,_,hb,h⟩
structure zMP (bulk:{H:Type}->DataW H->Nat):Prop where
 agg: ∀{H:Type} (ds:List (DataW H)),(ds.map bulk).sum+1<=bulk (.agg ds)
 sl: ∀{H:Type} (es sp:List (DataW H)),(es.map bulk).sum+1<=bulk (.slice es sp)
 str: ∀{H:Type} (s:List UInt8),s.length+1<=bulk (.lit (.string s):DataW H)
 pos: ∀{H:Type} (d:DataW H),0<bulk d
section
variable {bulk:{H:Type}->DataW H->Nat}
structure OpF (bulk:{H:Type}->DataW H->Nat) (Y:Tys) (P:Program) (w:World) {α:Type} (mk:α->List (AV Y.T)) (t:TypeId) (ok:α->Prop) (ms:α->Nat) (N:Nat):Prop where
 opn: ∀{H:Type} {enc:TypeId×Value->H} {base:Nat} {spare:Nat->Bool} {held:Bool} {fuel:Nat} {cs:List Value} {x:DataW H×List MemPlace},
  fuel<=N->DataW.trod enc P w base spare held fuel t cs=some x->∃a,zad Y (zoj w) [] (mk a) cs/\ok a/\ms a<=bulk x.1
variable {Y:Tys} {P:Program} {w:World} {t e:TypeId} {N:Nat}
theorem zPG(hB:zMP bulk)(ht:P.underlying t=some .string):OpF bulk Y P w (λs:Str=>[.v (.string ⟨⟨s⟩⟩)]) t (λs=>s.length<=maxLen) (λs=>s.length+1) N:=
 ⟨λ_ h=>by
  obtain⟨b,rfl,rfl,hw⟩:=DataW.trod_string ht h;exact⟨b.data.toList,zad.cons .v zad.nil,hw,hB.str _⟩⟩
end
theorem zA2{H:Type}{enc:TypeId×Value->H}{P:Program}{W W':World}{base:Nat}{spare:Nat->Bool}{held:Bool}(hb:Below W.heap.size W W'): ∀{ts:List TypeId} {vs:List Value} {ds:List (DataW H)} {ps:List MemPlace},
  DataW.TrodAll enc P W base spare held ts vs ds ps->DataW.TrodAll enc P W' base spare held ts vs ds ps
 | [],[],[],_,h=>h
 |_::_,_::_,_::_,_,⟨p,q,⟨n,h1⟩,h2,e⟩=>⟨p,q,⟨n,DataW.trod_carry n _ _ _ h1 λx hx=>hb.same (DataW.trod_lt n _ _ _ h1 x hx)⟩,zA2 hb h2,e⟩
theorem zHs{H:Type}{enc:TypeId×Value->H}{P:Program}{f:Func}{s:ChangeSpec}{apart fresh handsOn again:Bool}{W W':World}{args:Array Value}{v:Value}{ds gs:List (DataW H)}{before pa pv:List MemPlace}
  (hW:DataW.Whole enc P f.params.toList s.vars apart W args.toList ds gs before)
  (hres: ∀(b:Nat) (sp:Nat->Bool) (hd:Bool),DataW.TrodAll enc P W' b sp hd f.resultTypes.toList (v.resultList f.resultTypes.size) (s.fn H (ds++gs)).results [])
  (hargs: ∀sp:Nat->Bool,(∀p∈before,sp p.block=true)->DataW.TrodAll enc P W' 0 sp true f.params.toList args.toList (s.fn H (ds++gs)).args pa)
  (hvars: ∀sp:Nat->Bool,(∀p∈before,sp p.block=true)->DataW.TrodVars enc P W' sp s.vars (s.fn H (ds++gs)).vars pv)
  (hps:before=pa++pv) (hb:Below W.heap.size W W')
  (hok: ∀(j:Nat) (t:TypeId) (r:Value),f.resultTypes[j]? =some t->(v.resultList f.resultTypes.size)[j]? =some r->Value.okWide P W' .any 0 t r):
  s.post enc P f apart fresh handsOn again W args v W':=by
 have hlt:=hW.lt;have hold: ∀p∈before,(λb=>decide (b<W.heap.size)) p.block=true:=λp hp=>by simpa using hlt p hp
 refine⟨ds,gs,before,[],pa,pv,hW,hres _ _ _,hargs _ hold,hvars _ hold,World.keptBut_mono (λp hp=>⟨hp,?_⟩) (hb.frame (· ∈before)),λ_=>?_⟩
 ·rw[hps,List.mem_append]at hp;exact Or.inr hp
 ·obtain⟨_,_,_,_,_,hz,hn⟩:=hW;refine⟨hok,_,_,([]++pa)++pv,⟨[]++pa,pv,trodAll_append (hargs _ (λ_ _=>rfl)) (hres _ _ _),hvars _ (λ_ _=>rfl),rfl,?_,?_⟩,?_⟩
  ·intro b off hp;have hp':MemPlace.cell b off∈before:=by rw[hps];simpa using hp
   rw[hb.frozen (p:=⟨b,off,none⟩) (hlt _ hp')];exact hz b off hp'
  ·intro ha;have:=hn ha;rw[hps]at this;simpa using this
  ·intro p hp _;rw[hps];simpa using hp
def zvh{T:Nat->Type}:Out T->List (Mem T)->Option Unit
 | .ret (.v (.bool true)),_=>some ()
 |_,_=>Option.none
theorem COk.holds{Y:Tys}{hY:zb8 Y}{P:Program}{G:Heap->Prop}{f:FuncId}{C:Callee Y}(h:COk hY P G f C){args:List (AV Y.T)}
  (hr:C.run args [] zvh=some ()) {W:World} (hG:G (zoj W)) {vals:List Value} (hv:zad Y (zoj W) [] args vals):
  Calls P f vals.toArray W λe W'=>e= .returned (.bool true)/\Below W.heap.size W W':=by
 have h1:=h.2 args [] () _ hr W (zoj W) [] [] vals No hG hv rfl rfl (λk x p o hx=>by simp at hx) (St.start (zLx W));refine h1.mono λe W' h2=>?_
 obtain⟨res,F',ρ',os',ms',hp,hrel,_,_,_,hst,_⟩:=h2;refine⟨?_,hst.below⟩;cases hrel with
 |pan _=>cases hp
 |ret hx=>
  rename_i x u
  have key: ∀(o:Out Y.T) (m:List (Mem Y.T)),zvh o m=some ()->o= .ret (.v (.bool Bool.true)):=by
   intro o m;unfold zvh;split
   ·intro _;rfl
   ·intro e;cases e
  cases key _ _ hp;rw[hx.zcl]
theorem zMi{P:Program}{W:World}{l:List (String×DataW Unit)}{name:String}{k:IntKind}{zs:List Int}{g:Nat}{t e:TypeId}{n:Nat}(hL:laidMetH P l W)(hall:(l.all λx=>x.2.handleName?.isNone)=true)
  (hf:(l.filter λx=>x.1==name)=[(name,Lib.tabData k zs)]) (hg:P.globalNamed name=some g) (hty:(P.globals[g]?).map (·.type)=some t) (ht:P.underlying t=some (.array n e)) (he:P.underlying e=some (.int k)) (hce:P.cellsOf e=1) (hct:P.cellsOf t=n) (w:World) (hs:(zoj W).Sub w):
  Lib.TabIs P w name k zs:=by
 rw[Go.MakeChecks.laidMetH_plain P l W hall]at hL;have h:=hL.filter (λx=>x.1==name);rw[hf]at h;have h2:=Lib.tabIs_of_head hg hty ht he hce hct h;unfold Lib.TabIs World.var? at h2⊢;rw[hg]at h2⊢;simp only[qz1]at h2⊢;cases hb:W.heap[g]? with
 |none=>rw[hb]at h2;cases h2
 |some o=>
  rw[hb]at h2;rw[show w.heap[g]? =some o from hs.out g o hb];exact h2
end Go.Dn
namespace Go.D08
open Go Go.Gw Go.Dn Go.RowKit Go.Proofs Go.Deep
open Go.Proofs.YtdapbipagjmolaaGreatDoor.Rows (uptoBulk uptoBulkAll)
open Go.Proofs.YtdapbipagjmolaaGreatDoor
open Go.ChangeShapes Go.WideShapes Go.ChangeAt
set_option maxRecDepth 100000
theorem zxN{H:Type}: ∀l:List (DataW H),uptoBulkAll l=(l.map uptoBulk).sum
 | []=>by simp[uptoBulkAll]
 |d::l=>by simp[uptoBulkAll,zxN l]
theorem zPa{H:Type}(d:DataW H):0<uptoBulk d:=by
 match d with
 | .lit l=>cases l<;>simp only[uptoBulk]<;>omega
 | .nil| .ptr _| .slice _ _| .agg _| .iface _ _| .map _| .held _=>simp only[uptoBulk];omega
theorem bulk:zMP (λ{H}=> @uptoBulk H):=⟨λds=>by simp only[uptoBulk,zxN];omega,λes sp=>by simp only[uptoBulk,zxN];omega,λs=>by simp only[uptoBulk];omega,zPa⟩
theorem kids:Kids Tryz.prog (· <Tryz.prog.types.size):=kids_rows (by kernel_rfl) (by kernel_rfl)
theorem full: ∀t e,t<Tryz.prog.types.size->Tryz.prog.underlying t=some (.slice e)->0<Tryz.prog.cellsOf e:=slices_full_of Tryz.prog (by kernel_rfl)
def zuH:List (String×DataW Unit):=Rows.parseBackUptoRow.laid
def zTu:List Int:=[0,1,56,2,57,49,28,3,61,58,42,50,38,29,17,4,62,47,59,36,45,43,51,22,53,39,33,30,24,18,12,5,63,55,48,27,60,41,37,16,46,35,44,21,52,32,23,11,54,26,40,15,34,20,31,10,25,14,19,9,13,8,7,6]
theorem star: "*"++ "errors.errorString"= "*errors.errorString":=by decide
theorem zTa(u:TypeId)(h:Tryz.prog.typeName? 3 u=some "*errors.errorString"):u=179:=
 typeName_ptr_named (nm:= "errors.errorString") (by rw[star];kernel_rfl) (by kernel_rfl) (by decide) u (by rw[star];exact h)
theorem zLY{W:World}{name:String}{text:List UInt8}{g:Nat}(hL:laidMetH Tryz.prog zuH W)(hf:(zuH.filter λx=>x.1==name)=[(name,.iface "*errors.errorString" (.ptr (.agg [.lit (.string text)])))])
  (hg:Tryz.prog.globalNamed name=some g) (ht:(Tryz.prog.globals[g]?).map (·.type)=some 88): ∃t p,zkF (zoj W) g 0 (.iface t p):=by
 rw[Go.MakeChecks.laidMetH_plain Tryz.prog zuH W (by kernel_rfl)]at hL;have h:=hL.filter (λx=>x.1==name);rw[hf]at h;obtain⟨a,s,hv,_,_,_⟩:=laid_sentinel h hg ht Tryz.underlying88 zTa Tryz.underlying179 Tryz.underlying181 rfl rfl Tryz.underlying9 (by kernel_rfl) (by kernel_rfl);have:=World.var?_cell hg hv 0;exact⟨_,_,zEw (v:= .iface 179 (.pointer (some a))) (by simpa using this)⟩
theorem zOw{H:Type}{enc:TypeId×Value->H}{W:World}{base b0:Nat}{v:Value}{d:DataW H}{ps:List MemPlace}(hval:Value.okWide Tryz.prog W .any b0 9 v)(h:DataW.Trod enc Tryz.prog W base (λ_=>true) true 9 v d ps):
  ∃a:Str,Rel Y (zoj W) [] (.v (.string ⟨⟨a⟩⟩)) v/\True/\a.length+1<=uptoBulk d:=by
 obtain⟨n,hn⟩:=h;obtain⟨a,h1,h2,h3⟩:=(zPG (bulk:=λ{H}=> @uptoBulk H) (Y:=Y) (N:=n) bulk Tryz.underlying9).opn (yJ _) hn;obtain⟨s,rfl⟩:=okWide_string Tryz.underlying9 hval;refine⟨a,?_,trivial,h3⟩;obtain⟨u,vs,e,q,r⟩:=h1.inv;simp only[Value.cells]at e;cases e;exact q
theorem zRM{W:World}(h:W.ShapedOpen Tryz.prog)(hL:laidMetH Tryz.prog zuH W):zaR (zoj W):=by
 obtain⟨m,hm⟩:=Tryz.laysM219.s1_3 W h
 have hb:=zMi (name:= "math/bits.deBruijn64tab") (k:= .u8) (zs:=zTu) (g:=7) (t:=198) (e:=5) (n:=64) hL (by kernel_rfl) (by kernel_rfl) (by kernel_rfl) (by kernel_rfl) (by kernel_rfl) (by kernel_rfl) (by kernel_rfl) (by kernel_rfl) W ⟨λ_ _ e=>e⟩
 exact⟨⟨m,zEw hm⟩,zEw (hb.cell (g:=7) (by kernel_rfl) 15 (by decide)),zLY (name:= "strconv.ErrSyntax") (text:=[105,110,118,97,108,105,100,32,115,121,110,116,97,120]) hL (by kernel_rfl) (by kernel_rfl) (by kernel_rfl),zLY (name:= "strconv.ErrRange") (text:=[118,97,108,117,101,32,111,117,116,32,111,102,32,114,97,110,103,101]) hL (by kernel_rfl) (by kernel_rfl) (by kernel_rfl),
  λw hs=>zMi (name:= "internal/strconv.uint64pow10") (k:= .u64) (zs:=Lib.pow10Tab) (g:=3) (t:=188) (e:=129) (n:=20) hL (by kernel_rfl) (by kernel_rfl) (by kernel_rfl) (by kernel_rfl) (by kernel_rfl) (by kernel_rfl) (by kernel_rfl) (by kernel_rfl) w hs⟩
end Go.D08
namespace Go.Proofs.YtdapbipagjmolaaGreatDoor
open Go.Proofs Go.RowKit Go.Deep
set_option maxRecDepth 1000000
noncomputable def laidWorld (os:Os):World:=World.laidAll Tryz.prog os Go.D08.zuH
theorem zOL(os:Os)(args:Array Value):((laidWorld os).forCall (λ_ _=>0) ⟨#[],args,[]⟩).variablesRefB Tryz.prog=true:=by kernel_rfl
theorem zNd(os:Os)(args:Array Value):(((laidWorld os).forCall (λ_ _=>0) ⟨#[],args,[]⟩).heap.toList.drop Tryz.prog.globals.size).take ((begin Tryz.prog (λ_ _=>0) default).world.heap.size -Tryz.prog.globals.size)=
  (begin Tryz.prog (λ_ _=>0) default).world.heap.toList.drop Tryz.prog.globals.size:=by kernel_rfl
theorem zNK(os:Os)(args:Array Value):laidMet Tryz.prog Go.D08.zuH ((laidWorld os).forCall (λ_ _=>0) ⟨#[],args,[]⟩).memory:=
 laidMet_laidAll args (by kernel_rfl) (by kernel_rfl)
end Go.Proofs.YtdapbipagjmolaaGreatDoor
namespace Go.D08.U
open Go Go.Gw Go.Dn Go.Proofs
set_option maxRecDepth 100000
theorem zx0: ∀(w l:Str),w.isPrefixOf l=(l.take w.length==w)
 | [],l=>by simp[List.isPrefixOf]
 |a::w,[]=>by simp[List.isPrefixOf]
 |a::w,b::l=>by
  simp only[List.isPrefixOf,qz3,List.take_succ_cons,zx0 w l,List.cons_beq_cons];rw[BEq.comm (a:=b)]
theorem zJw{w l:Str}(h:l.length<w.length):w.isPrefixOf l=false:=by
 rw[<-Bool.not_eq_true,List.isPrefixOf_iff_prefix];intro hp;have:=hp.length_le;omega
theorem zo6(s:Str)(p:Nat)(w:Str)(hp:p<=s.length)(hs:s.length<=1000000000)(hw:w.length<=1000000):zcs s (p:Int) w=some (w.isPrefixOf (s.drop p),()):=by
 unfold zcs;have e:IntKind.wrap .i64 ((p:Int)+((w.length:Nat):Int))=((p+w.length:Nat):Int):=by rw[wrap_i64 (by omega) (by omega)];omega
 rw[e];by_cases h:p+w.length<=s.length
 ·have d:(((p+w.length:Nat):Int)<=((s.length:Nat):Int)):=by omega
  simp only[d,decide_true,yB,zne s p (p+w.length) (by omega) h,qz1];have:p+w.length -p=w.length:=by omega
  rw[this,zx0]
 ·have d: ¬(((p+w.length:Nat):Int)<=((s.length:Nat):Int)):=by omega
  simp only[d,decide_false,qz2,yA,qz1];rw[zJw (by simp only[List.length_drop];omega)]
theorem zlY{s:Str}{p:Nat}{c:UInt8}{r:Str}(h:s.drop p=c::r):s[p]? =some c/\s.drop (p+1)=r/\p<s.length:=by
 have hlt:p<s.length:=by
  rcases Nat.lt_or_ge p s.length with h'|h'
  ·exact h'
  ·rw[List.drop_eq_nil_of_le h']at h;cases h
 rw[List.drop_eq_getElem_cons hlt]at h;cases h;exact⟨qz9 hlt,rfl,hlt⟩
theorem drop_nil{s:Str}{p:Nat}(h:s.drop p=[])(hp:p<=s.length):p=s.length:=by
 have:=congrArg List.length h;simp only[List.length_drop,qz6]at this;omega
theorem zDX(c:UInt8):zdj c=(decide (c=10)||decide (c=13)):=by
 unfold zdj;simp[List.contains_cons,zuw]
theorem zMr(s:Str)(f:Bool)(hs:s.length<=1000000000): ∀(t:Str) (p:Nat),s.drop p=t->p<=s.length->
  zaH zdE (t.length+1) (s,(p:Int),f,())=some (.inl (s,((s.length - (t.dropWhile (λx=> !zdj x)).length:Nat):Int),f,()))
 | [],p,ht,hp=>by
  have e:=drop_nil ht hp;refine zaG ?_;unfold zdE;simp only[e,Int.lt_irrefl,decide_false,qz2,yA,List.dropWhile_nil,qz6,Nat.sub_zero,qz1]
 |c::r,p,ht,hp=>by
  obtain⟨h1,h2,h3⟩:=zlY ht;have hlen:(c::r).length=s.length -p:=by rw[<-ht];simp
  have b10:((((c.toNat:Nat):Int))==10)=decide (c=10):=zeG c 10 (by omega);have b13:((((c.toNat:Nat):Int))==13)=decide (c=13):=zeG c 13 (by omega)
  have hst:zdE (s,(p:Int),f,())=if zdj c=true then some (.inr (.inl (s,(p:Int),f,())))else some (.inl (s,((p+1:Nat):Int),f,())):=by
   unfold zdE;have d:((p:Int)< ((s.length:Nat):Int)):=by omega
   simp only[d,decide_true,yB,zhw s p c h1,qz1,bne,b10,b13,zDX,wrap_succ (show p<1000000000000 by omega)];cases decide (c=10)<;>cases decide (c=13)<;>rfl
  rw[List.dropWhile_cons];cases hn:zdj c with
  |true=>
   rw[hn]at hst;rw[zaG hst];simp only[yO,qz2,yA];rw[hlen];have:s.length - (s.length -p)=p:=by omega
   rw[this]
  |false=>
   rw[hn]at hst;rw[qz3,zca hst];simp only[yN,yB];exact zMr s f hs r (p+1) h2 (by omega)
theorem zM7(s:Str)(p0:Int)(f:Bool)(hs:s.length<=1000000000): ∀(t:Str) (p:Nat) (g:Bool),s.drop p=t->p<=s.length->
  zaH zc6 (t.length+1) (s,p0,f,(p:Int),g,())=some (match zlK t with
  |some n=> .inl (s,((p+n+2:Nat):Int),(f||(g||(t.take n).any zdj)),())
  |none=> .inr (p0,false,false,()))
 | [],p,g,ht,hp=>by
  have e:=drop_nil ht hp;refine zaG ?_;unfold zc6;simp only[e,Int.lt_irrefl,decide_false,qz2,yA,zlK,ge_iff_le,Int.le_refl,decide_true,yB]
 |c::r,p,g,ht,hp=>by
  obtain⟨h1,h2,h3⟩:=zlY ht;have d:((p:Int)< ((s.length:Nat):Int)):=by omega
  have hb:=zo6 s p [42,47] hp hs (by decide);rw[ht]at hb;have b10:((((c.toNat:Nat):Int))==10)=decide (c=10):=zeG c 10 (by omega);have b13:((((c.toNat:Nat):Int))==13)=decide (c=13):=zeG c 13 (by omega);cases hpr:([42,47]:Str).isPrefixOf (c::r)with
  |true=>
   rw[zlK,yL hpr];refine zaG ?_;unfold zc6;have d2: ¬((p:Int)>=((s.length:Nat):Int)):=by omega
   have w2:IntKind.wrap .i64 ((p:Int)+2)=((p+2:Nat):Int):=by rw[wrap_i64 (by omega) (by omega)];omega
   simp only[d,d2,decide_true,decide_false,yB,hb,hpr,qz1,yO,qz2,yA,Nat.add_zero,List.take_zero,List.any_nil,Bool.or_false,w2]
  |false=>
   have hst:zc6 (s,p0,f,(p:Int),g,())=some (.inl (s,p0,f,((p+1:Nat):Int),(g||zdj c),())):=by
    unfold zc6;simp only[d,decide_true,yB,hb,hpr,qz1,yN,zhw s p c h1,b10,b13,zDX,wrap_succ (show p<1000000000000 by omega)];cases g<;>cases decide (c=10)<;>cases decide (c=13)<;>rfl
   rw[qz3,zca hst,zM7 s p0 f hs r (p+1) (g||zdj c) h2 (by omega),zlK,yK (by rw[hpr];simp)]
   cases zlK r with
   |none=>rfl
   |some n=>
    simp only[Option.map_some,List.take_succ_cons,List.any_cons,Bool.or_assoc];have:p+1+n+2=p+(n+1)+2:=by omega
    rw[this]
def zJg(s:Str)(p:Str×Bool×Bool):Int×Bool×Bool×Unit:=(((s.length -p.1.length:Nat):Int),p.2.2&&p.2.1,p.2.2,())
theorem zka(s:Str)(hs:s.length<=1000000000): ∀(m:Nat) (t:Str) (p:Nat) (f:Bool),s.drop p=t->p<=s.length->t.length<m->zaH zbz m (s,(p:Int),f,())=some (zJg s (zew m t f))
 |0,t,p,f,_,_,h=>by omega
 |m+1,[],p,f,ht,hp,_=>by
  have e:=drop_nil ht hp;refine zaG ?_;unfold zbz;simp only[e,Int.lt_irrefl,decide_false,qz2,yA];rfl
 |m+1,c::r,p,f,ht,hp,hm=>by
  obtain⟨h1,h2,h3⟩:=zlY ht;have hlen:(c::r).length=s.length -p:=by rw[<-ht];simp
  simp only[qz3]at hm hlen;have d:((p:Int)< ((s.length:Nat):Int)):=by omega
  have hb1:=zo6 s p [47,47] hp hs (by decide);have hb2:=zo6 s p [47,42] hp hs (by decide);rw[ht]at hb1 hb2;have b10:((((c.toNat:Nat):Int))==10)=decide (c=10):=zeG c 10 (by omega);have b13:((((c.toNat:Nat):Int))==13)=decide (c=13):=zeG c 13 (by omega);have b9:((((c.toNat:Nat):Int))==9)=decide (c=9):=zeG c 9 (by omega);have b11:((((c.toNat:Nat):Int))==11)=decide (c=11):=zeG c 11 (by omega);have b12:((((c.toNat:Nat):Int))==12)=decide (c=12):=zeG c 12 (by omega);have b32:((((c.toNat:Nat):Int))==32)=decide (c=32):=zeG c 32 (by omega);have hnl:=zDX c
  have hws:(decide (c=9)||decide (c=11)||decide (c=12)||decide (c=32))=decide (c=32\/c=9\/c=11\/c=12):=by
   by_cases e1:c=9<;>by_cases e2:c=11<;>by_cases e3:c=12<;>by_cases e4:c=32<;>simp[e1,e2,e3,e4]
  rw[zew];by_cases g1:zdj c=true
  ·have hst:zbz (s,(p:Int),f,())=some (.inl (s,((p+1:Nat):Int),true,())):=by
    unfold zbz;simp only[d,decide_true,yB,zhw s p c h1,qz1,b10,b13,<-hnl,g1,wrap_succ (show p<1000000000000 by omega)]
   rw[yL g1,zca hst];exact zka s hs m r (p+1) true h2 (by omega) (by omega)
  ·have g1':zdj c=false:=by simpa using g1
   rw[yK g1];by_cases g2:c=32\/c=9\/c=11\/c=12
   ·have hst:zbz (s,(p:Int),f,())=some (.inl (s,((p+1:Nat):Int),f,())):=by
     unfold zbz;simp only[d,decide_true,yB,zhw s p c h1,qz1,b10,b13,<-hnl,g1',qz2,yA,b9,b11,b12,b32,hws,g2,wrap_succ (show p<1000000000000 by omega)]
    rw[yL g2,zca hst];exact zka s hs m r (p+1) f h2 (by omega) (by omega)
   ·rw[yK g2]
    have common:zbz (s,(p:Int),f,())=Option.bind (zcs s (p:Int) ([47,47]:Str)) λr_10=>
      if r_10.1=true then Lp.loop zdE (s,(p:Int),f,())
      else Option.bind (zcs s (p:Int) ([47,42]:Str)) λr_11=>
       if r_11.1=true then Lp.loop zc6 (s,(p:Int),f,((p+2:Nat):Int),false,())
       else some (.inr ((p:Int),f,true,())):=by
     have w2:IntKind.wrap .i64 ((p:Int)+2)=((p+2:Nat):Int):=by rw[wrap_i64 (by omega) (by omega)];omega
     unfold zbz;simp only[d,decide_true,yB,zhw s p c h1,qz1,b10,b13,<-hnl,g1',qz2,yA,b9,b11,b12,b32,hws,g2,w2,decide_false]
    by_cases g3:([47,47]:Str).isPrefixOf (c::r)=true
    ·rw[yL g3]
     have hst:zbz (s,(p:Int),f,())=some (.inl (s,((s.length - ((c::r).dropWhile (λx=> !zdj x)).length:Nat):Int),f,())):=by
      rw[common,hb1,g3];simp only[qz1,yB];exact zck (zMr s f hs (c::r) p ht hp) (by simp only[qz3];omega)
     have hdw:(c::r).dropWhile (λx=> !zdj x)=r.dropWhile (λx=> !zdj x):=by
      rw[List.dropWhile_cons,yL (by simp[g1'])]
     have hl:=zoB (λx=> !zdj x) r;rw[hdw]at hst⊢;rw[zca hst];refine zka s hs m _ _ f ?_ (by omega) (by omega);have hsuf:r.dropWhile (λx=> !zdj x)=r.drop (r.length - (r.dropWhile (λx=> !zdj x)).length):=List.suffix_iff_eq_drop.1 (List.dropWhile_suffix _);rw[hsuf,<-h2,List.drop_drop];congr 1;simp only[List.length_drop];omega
    ·have g3':([47,47]:Str).isPrefixOf (c::r)=false:=by rw[<-Bool.not_eq_true];exact g3
     rw[yK g3];by_cases g4:([47,42]:Str).isPrefixOf (c::r)=true
     ·rw[yL g4]
      have hlen2:1<=r.length:=by
       cases r with
       |nil=>simp[List.isPrefixOf]at g4
       |cons d r=>simp
      have hd2:s.drop (p+2)=(c::r).drop 2:=by rw[<-ht,List.drop_drop]
      have hl3:=zck (zM7 s (p:Int) f hs _ (p+2) false hd2 (by omega)) (by simp only[List.length_drop,qz3];omega)
      cases he:zlK ((c::r).drop 2)with
      |none=>
       rw[he]at hl3;refine zaG ?_;rw[common,hb1,g3',hb2,g4];simp only[qz1,qz2,yA,yB,hl3];unfold zJg;simp only[Bool.false_and,qz3];have:s.length - (r.length+1)=p:=by omega
       rw[this]
      |some n=>
       rw[he]at hl3;have hle:=zGo _ _ he;simp only[List.length_drop,qz3]at hle
       have hst:zbz (s,(p:Int),f,())=some (.inl (s,((p+2+n+2:Nat):Int),(f||(((c::r).drop 2).take n).any zdj),())):=by
        rw[common,hb1,g3',hb2,g4];simp only[qz1,qz2,yA,yB,hl3,Bool.false_or]
       rw[zca hst];refine zka s hs m _ _ _ ?_ (by omega) (by simp only[List.length_drop,qz3];omega)
       rw[<-ht,List.drop_drop];congr 1;omega
     ·have g4':([47,42]:Str).isPrefixOf (c::r)=false:=by rw[<-Bool.not_eq_true];exact g4
      rw[yK g4];refine zaG ?_;rw[common,hb1,g3',hb2,g4'];simp only[qz1,qz2,yA];unfold zJg;simp only[Bool.true_and,qz3];have:s.length - (r.length+1)=p:=by omega
      rw[this]
theorem zEO(s:Str)(p:Nat)(hp:p<=s.length)(hs:s.length<=1000000000):ziI s (p:Int)=some (zJg s (zew ((s.drop p).length+1) (s.drop p) false)):=by
 unfold ziI;exact zck (zka s hs ((s.drop p).length+1) (s.drop p) p false rfl hp (by omega)) (by simp only[List.length_drop];omega)
theorem zJD: ∀b:Fin 256,zfe ((b.val:Nat):Int)=some (isLet (UInt8.ofNat b.val),()):=by decide+kernel
theorem zK2: ∀b:Fin 256,zeF ((b.val:Nat):Int)=some (zkG (UInt8.ofNat b.val),()):=by decide+kernel
theorem zm2(c:UInt8):zfe ((c.toNat:Nat):Int)=some (isLet c,()):=by
 have:=zJD ⟨c.toNat,c.toNat_lt⟩;rwa [ofN]at this
theorem znI(c:UInt8):zeF ((c.toNat:Nat):Int)=some (zkG c,()):=by
 have:=zK2 ⟨c.toNat,c.toNat_lt⟩;rwa [ofN]at this
theorem zLz: ∀b:Fin 256,zdU ((b.val:Nat):Int)=some ((match hexV (UInt8.ofNat b.val)with|some d=>(d:Int)|none=> -1),()):=by decide+kernel
theorem znO(c:UInt8):zdU ((c.toNat:Nat):Int)=some ((match hexV c with|some d=>(d:Int)|none=> -1),()):=by
 have:=zLz ⟨c.toNat,c.toNat_lt⟩;rwa [ofN]at this
theorem zJV: ∀b:Fin 256,(hexV (UInt8.ofNat b.val)).isSome=true->zeA (UInt8.ofNat b.val)=true:=by decide+kernel
theorem zKm{c:UInt8}{d:Nat}(h:hexV c=some d):zeA c=true:=by
 have:=zJV ⟨c.toNat,c.toNat_lt⟩;rw[ofN,h]at this;exact this rfl
theorem zMd(s:Str)(at_ q:Nat)(n:Int)(hq:q=s.length)(ha:at_<=q)(hs:s.length<=1000000000):zbA s (at_:Int) n (q:Int)=some (n,((q -at_:Nat):Int),()):=by
 unfold zbA;have c: ¬((q:Int)< ((s.length:Nat):Int)):=by omega
 simp only[c,decide_false,qz2,yA,zEc ha (show q<=1000000000000 by omega)]
theorem zPl(s:Str)(at_ q:Nat)(n:Int)(c:UInt8)(hq:s[q]? =some c)(ha:at_<=q)(hs:s.length<=1000000000):zbA s (at_:Int) n (q:Int)=if zeA c=true\/c=46 then some (0,0,())else some (n,((q -at_:Nat):Int),()):=by
 have hlt:q<s.length:=(qz0 hq).1;unfold zbA;have d:((q:Int)< ((s.length:Nat):Int)):=by omega
 have b46:((((c.toNat:Nat):Int))==46)=decide (c=46):=zeG c 46 (by omega);simp only[d,decide_true,yB,zhw s q c hq,qz1,zm2,znI,b46,zEc ha (show q<=1000000000000 by omega)];unfold zeA;cases isLet c<;>cases zkG c<;>by_cases h46:c=46<;>simp[h46]
def ztH(t:Str)(o a to_ at_:Nat):Int×Int×Unit:=
 if t[zaC t]? =some 46 then(0,0,())
 else match zeo o (t.take (zaC t)) a with
  |none=>(0,0,())
  |some n=>if n<=9007199254740991 then((n:Int),((to_+zaC t -at_:Nat):Int),())else(0,0,())
theorem zpW(s:Str)(hs:s.length<=1000000000)(at_ o:Nat)(ho:o=10\/o=16)(h48:o=10->s[at_]? ≠some 48)(ha0:at_<s.length): ∀(t:Str) (q a:Nat),s.drop q=t->q<=s.length->at_<=q->a<=9007199254740991->
  zaH zaz (t.length+1) (s,(at_:Int),(o:Int),(a:Int),(q:Int),())=some (ztH t o a q at_)
 | [],q,a,ht,hq,haq,ha=>by
  have e:=drop_nil ht hq;refine zaG ?_;unfold zaz;have c: ¬((q:Int)< ((s.length:Nat):Int)):=by omega
  simp only[c,decide_false,qz2,yA];rw[zMd s at_ q _ e haq hs];unfold ztH;have hr:zaC ([]:Str)=0:=rfl;simp[hr,zeo,ha,zfT]
 |c::r,q,a,ht,hq,haq,ha=>by
  obtain⟨h1,h2,h3⟩:=zlY ht;have d:((q:Int)< ((s.length:Nat):Int)):=by omega
  have stop:(∀dv,hexV c=some dv->¬dv<o)->zaH zaz ((c::r).length+1) (s,(at_:Int),(o:Int),(a:Int),(q:Int),())=some (ztH (c::r) o a q at_):=by
   intro hno;refine zaG ?_
   have hst:zaz (s,(at_:Int),(o:Int),(a:Int),(q:Int),())=zfT Sum.inr (zbA s (at_:Int) (a:Int) (q:Int)):=by
    unfold zaz;simp only[d,decide_true,yB,zhw s q c h1,qz1,znO];cases hv:hexV c with
    |none=>
     have: ¬((-1:Int)>=0):=by omega
     simp only[this,decide_false,qz2,yA]
    |some dv=>
     have e1:((dv:Int)>=0):=by omega
     have e2: ¬((dv:Int)< (o:Int)):=by have:=hno dv hv;omega
     simp only[e1,e2,decide_true,decide_false,yB,qz2,yA]
   rw[hst,zPl s at_ q _ c h1 haq hs];unfold ztH;rw[zft];cases hld:zeA c with
   |true=>
    simp only[true_or,yB,List.take_succ_cons,List.getElem?_cons_succ]
    have hp:zeo o (c::r.take (zaC r)) a=none:=by
     unfold zeo;cases hv:hexV c with
     |none=>rfl
     |some dv=>simp only[hno dv hv,yA]
    rw[hp];split<;>rfl
   |false=>
    simp only[qz2,false_or,yA,List.getElem?_cons_zero,Option.some.injEq,List.take_zero,zeo,ha,yB,Nat.add_zero];split<;>rfl
  cases hv:hexV c with
  |none=>exact stop (λdv h=>by rw[hv]at h;cases h)
  |some dv=>
   by_cases hdv:dv<o
   ·have hld:=zKm hv
    have hans:ztH (c::r) o a q at_=ztH r o (a*o+dv) (q+1) at_:=by
     unfold ztH;rw[zft,yL hld];simp only[List.getElem?_cons_succ,List.take_succ_cons,zeo,hv,hdv,yB];have:q+(zaC r+1)=q+1+zaC r:=by omega
     rw[this]
    have hmul:a*o<=9007199254740991*16:=Nat.mul_le_mul ha (by omega);have em:((a:Int)*(o:Int))=((a*o:Nat):Int):=by simp
    have wm:IntKind.wrap .i64 ((a:Int)*(o:Int))=((a*o:Nat):Int):=by rw[em];exact wrap_i64 (by omega) (by omega)
    have hd16:=zDt hv;have ws:IntKind.wrap .i64 (((a*o:Nat):Int)+(dv:Int))=((a*o+dv:Nat):Int):=by rw[wrap_i64 (by omega) (by omega)];omega
    have hst:zaz (s,(at_:Int),(o:Int),(a:Int),(q:Int),())=if a*o+dv<=9007199254740991 then some (.inl (s,(at_:Int),(o:Int),((a*o+dv:Nat):Int),((q+1:Nat):Int),()))else some (.inr (0,0,())):=by
     unfold zaz;have e1:((dv:Int)>=0):=by omega
     have e2:((dv:Int)< (o:Int)):=by omega
     simp only[d,decide_true,yB,zhw s q c h1,qz1,znO,hv,e1,e2,wm,ws,wrap_succ (show q<1000000000000 by omega)];by_cases hmax:a*o+dv<=9007199254740991
     ·have e3: ¬(((a*o+dv:Nat):Int)>9007199254740991):=by omega
      simp only[e3,hmax,decide_false,qz2,yA,yB];rcases ho with rfl|rfl
      ·have hx:s[at_]? =some s[at_]:=qz9 ha0;have b48:((((s[at_].toNat:Nat):Int))==48)=decide (s[at_]=48):=zeG s[at_] 48 (by omega)
       have hne: ¬(s[at_]=48):=by
        intro e;exact h48 rfl (by rw[hx,e])
       have e10:((((10:Nat):Int))==10)=true:=rfl;simp only[e10,yB,zhw s at_ _ hx,qz1,b48,hne,decide_false,qz2,yA]
      ·have e16:((((16:Nat):Int))==10)=false:=rfl;simp only[e16,qz2,yA,qz1]
     ·have e3:(((a*o+dv:Nat):Int)>9007199254740991):=by omega
      simp only[e3,hmax,decide_true,yB,yA]
    rw[hans];by_cases hmax:a*o+dv<=9007199254740991
    ·rw[yL hmax]at hst;rw[qz3,zca hst];exact zpW s hs at_ o ho h48 ha0 r (q+1) (a*o+dv) h2 (by omega) (by omega) hmax
    ·rw[yK hmax]at hst;rw[zaG hst];unfold ztH;split
     ·rfl
     ·cases hp:zeo o (r.take (zaC r)) (a*o+dv)with
      |none=>rfl
      |some n=>
       have:=zEj (by omega) _ _ _ hp;have h3: ¬(n<=9007199254740991):=by omega
       simp only[h3,yA]
   ·exact stop (λx h=>by rw[hv]at h;cases h;exact hdv)
def zE0:Str->Bool
 |c::x::h::_=>decide (c=48/\(x=120\/x=88))&&(hexV h).isSome
 |_=>false
theorem zJx(s:Str)(hs:s.length<=1000000000)(p:Nat)(t:Str)(ht:s.drop p=t)(hp:p<=s.length):
  zgP s (p:Int)=if zE0 t=true then Lp.loop zaz (s,(p:Int),16,0,((p+2:Nat):Int),())else Lp.loop zaz (s,(p:Int),10,0,(p:Int),()):=by
 have hb1:=zo6 s p [48,120] hp hs (by decide);have hb2:=zo6 s p [48,88] hp hs (by decide);have w2:IntKind.wrap .i64 ((p:Int)+2)=((p+2:Nat):Int):=by rw[wrap_i64 (by omega) (by omega)];omega
 have hlen:t.length=s.length -p:=by rw[<-ht];simp
 rw[ht]at hb1 hb2;unfold zgP;rw[hb1,hb2];simp only[qz1,w2];generalize Lp.loop zaz (s,(p:Int),16,0,((p+2:Nat):Int),())=L16;generalize Lp.loop zaz (s,(p:Int),10,0,(p:Int),())=L10
 match t,ht,hlen with
 | [],_,_=>rfl
 | [c],_,_=>
  have e1:List.isPrefixOf [48,120] [c]=false:=by simp[List.isPrefixOf]
  have e2:List.isPrefixOf [48,88] [c]=false:=by simp[List.isPrefixOf]
  rw[e1,e2];rfl
 | [c,x],_,hlen=>
  simp only[qz3,qz6]at hlen;have d: ¬(((p+2:Nat):Int)< ((s.length:Nat):Int)):=by omega
  simp only[d,decide_false,qz2,yA,Bool.and_false];cases List.isPrefixOf [48,120] [c,x]<;>rfl
 |c::x::h::r,ht,hlen=>
  simp only[qz3]at hlen;have d:(((p+2:Nat):Int)< ((s.length:Nat):Int)):=by omega
  have hg:s[p+2]? =some h:=by
   have:(s.drop p)[2]? =some h:=by rw[ht];rfl
   rwa [List.getElem?_drop]at this
  have e1:List.isPrefixOf [48,120] (c::x::h::r)=decide (c=48/\x=120):=by
   by_cases q1:c=48<;>by_cases q2:x=120<;>simp[List.isPrefixOf,q1,q2,zuw,eq_comm]
  have e2:List.isPrefixOf [48,88] (c::x::h::r)=decide (c=48/\x=88):=by
   by_cases q1:c=48<;>by_cases q2:x=88<;>simp[List.isPrefixOf,q1,q2,zuw,eq_comm]
  rw[e1,e2];simp only[d,decide_true,yB,zhw s (p+2) h hg,qz1,znO,Bool.and_true];unfold zE0;cases hh:hexV h<;>by_cases q1:c=48<;>by_cases q2:x=120<;>by_cases q3:x=88<;>simp[q1,q2,q3,hh]
theorem zEX(s:Str)(hs:s.length<=1000000000)(p:Nat)(c:UInt8)(r:Str)(ht:s.drop p=c::r)(hc:zkG c=true)(hp:p<=s.length):zgP s (p:Int)=some (match zn4 (c::r)with|some (n,k)=>((n:Int),(k:Int),())|none=>(0,0,())):=by
 obtain⟨h1,h2,h3⟩:=zlY ht;have hldc:zeA c=true:=by unfold zeA;rw[hc,Bool.or_true]
 rw[zJx s hs p _ ht hp];cases hx:zE0 (c::r)with
 |true=>
  simp only[yB]
  match r,hx with
  |x::h::r,hx=>
   simp only[zE0,qz4,yT]at hx;obtain⟨⟨rfl,hx1⟩,hx2⟩:=hx;obtain⟨d,hd⟩:=Option.isSome_iff_exists.1 hx2;have hldx:zeA x=true:=by rcases hx1 with rfl|rfl<;>decide
   have hldh:=zKm hd;have ht2:s.drop (p+2)=h::r:=by rw[<-List.drop_drop,ht];rfl
   have hl:=zpW s hs p 16 (.inr rfl) (by intro e;cases e) h3 (h::r) (p+2) 0 ht2 (by have:=(zlY ht2).2.2;omega) (by omega) (by omega)
   have hrl:(h::r).length<=s.length:=by rw[<-ht2];simp
   rw[show Lp.loop zaz (s,(p:Int),16,0,((p+2:Nat):Int),())=some (ztH (h::r) 16 0 (p+2) p)from zck hl (by omega)];unfold ztH zn4 zCT;have e1:zaC (48::x::h::r)=zaC (h::r)+2:=by rw[zft,yL hldc,zft (c:=x),yL hldx]
   have e2:1<=zaC (h::r):=by rw[zft,yL hldh];omega
   have e3:(48::x::h::r:Str)[zaC (h::r)+2]? =(h::r)[zaC (h::r)]? :=rfl;have e4:(48::x::h::r:Str).take (zaC (h::r)+2)=48::x::(h::r).take (zaC (h::r)):=rfl;rw[e1,e3,e4];have hle:=zrQ (h::r);have e5:2< (48::x::(h::r).take (zaC (h::r)):Str).length:=by simp only[qz3,List.length_take];simp only[qz3]at hle;omega
   have e6:(48::x::(h::r).take (zaC (h::r)):Str).take 2=[48,x]:=rfl;have e7:(48::x::(h::r).take (zaC (h::r)):Str).drop 2=(h::r).take (zaC (h::r)):=rfl;have e8:([48,x]:Str)=[48,120]\/([48,x]:Str)=[48,88]:=by rcases hx1 with rfl|rfl<;>simp
   rw[e6,e7];by_cases h46:(h::r)[zaC (h::r)]? =some 46
   ·rw[yL h46,yL h46]
   ·rw[yK h46,yK h46,yL ⟨e5,e8⟩];cases zeo 16 ((h::r).take (zaC (h::r))) 0 with
    |none=>rfl
    |some n=>
     simp only;by_cases hm:n<=9007199254740991
     ·simp only[hm,yB];have:p+2+zaC (h::r) -p=zaC (h::r)+2:=by omega
      rw[this]
     ·simp only[hm,yA]
 |false=>
  simp only[qz2,yA];by_cases h48:c=48
  ·subst h48
   have hst:zaz (s,(p:Int),10,0,(p:Int),())=zfT Sum.inr (zbA s (p:Int) 0 ((p+1:Nat):Int)):=by
    unfold zaz;have d:((p:Int)< ((s.length:Nat):Int)):=by omega
    have hv:hexV 48=some 0:=by decide
    have hg:=zhw s p 48 h1;simp only[d,decide_true,yB,hg,qz1,znO,hv,wrap_succ (show p<1000000000000 by omega)];rfl
   have done: ∀v:Int×Int×Unit,zbA s (p:Int) 0 ((p+1:Nat):Int)=some v->Lp.loop zaz (s,(p:Int),10,0,(p:Int),())=some v:=λv hv=>by
    rw[hv]at hst;exact zck (n:=1) (zaG hst) (by omega)
   cases r with
   |nil=>
    have hl1:p+1=s.length:=drop_nil h2 (by omega);rw[done _ (zMd s p (p+1) 0 hl1 (by omega) hs)];have:p+1 -p=1:=by omega
    rw[this];have hn:zn4 [48]=some (0,1):=by decide
    rw[hn];rfl
   |cons x r=>
    obtain⟨k1,k2,k3⟩:=zlY h2;have hat:=zPl s p (p+1) 0 x k1 (by omega) hs;have:p+1 -p=1:=by omega
    rw[this]at hat
    have hat2:Lp.loop zaz (s,(p:Int),10,0,(p:Int),())=if zeA x=true\/x=46 then some (0,0,())else some (0,((1:Nat):Int),()):=by
     by_cases hq:zeA x=true\/x=46
     ·rw[yL hq]at hat⊢;exact done _ hat
     ·rw[yK hq]at hat⊢;exact done _ hat
    rw[hat2];unfold zn4 zCT;have e1:zaC (48::x::r)=zaC (x::r)+1:=by rw[zft,yL hldc]
    rw[e1];have e3:(48::x::r:Str)[zaC (x::r)+1]? =(x::r)[zaC (x::r)]? :=rfl;have e4:(48::x::r:Str).take (zaC (x::r)+1)=48::(x::r).take (zaC (x::r)):=rfl;rw[e3,e4];cases hld:zeA x with
    |false=>
     have e5:zaC (x::r)=0:=by rw[zft,hld];rfl
     rw[e5];simp only[List.getElem?_cons_zero,Option.some.injEq,qz2,false_or,List.take_zero];by_cases h46:x=46
     ·simp only[h46,yB]
     ·simp only[h46,yA];rfl
    |true=>
     simp only[true_or,yB];have e5:zaC (x::r)=zaC r+1:=by rw[zft,yL hld]
     rw[e5];have e6:(x::r).take (zaC r+1)=x::r.take (zaC r):=rfl;rw[e6];by_cases h46:(x::r)[zaC r+1]? =some 46
     ·rw[yL h46]
     ·rw[yK h46]
      have hnone:(if 2< (48::x::r.take (zaC r):Str).length/\((48::x::r.take (zaC r):Str).take 2=[48,120]\/(48::x::r.take (zaC r):Str).take 2=[48,88])then zeo 16 ((48::x::r.take (zaC r):Str).drop 2) 0
        else if 1< (48::x::r.take (zaC r):Str).length/\(48::x::r.take (zaC r):Str).head?=some 48 then none
        else zeo 10 (48::x::r.take (zaC r)) 0)=none:=by
       have e7:(48::x::r.take (zaC r):Str).take 2=[48,x]:=rfl;have e8:(48::x::r.take (zaC r):Str).drop 2=r.take (zaC r):=rfl;rw[e7,e8];by_cases hh:2< (48::x::r.take (zaC r):Str).length/\(([48,x]:Str)=[48,120]\/([48,x]:Str)=[48,88])
       ·rw[yL hh];obtain⟨hh1,hh2⟩:=hh;cases r with
        |nil=>simp at hh1
        |cons h r=>
         have hrow:1<=zaC (h::r):=by
          simp only[qz3,List.length_take]at hh1;omega
         have hx12:x=120\/x=88:=by simpa using hh2
         have hnx:(hexV h).isSome=false:=by
          have hx':=hx;simp only[zE0]at hx';have:decide (True/\(x=120\/x=88))=true:=by simpa using hx12
          rw[this,Bool.true_and]at hx';exact hx'
         have e9:(h::r).take (zaC (h::r))=h::r.take (zaC (h::r) -1):=by
          cases hk:zaC (h::r)with
          |zero=>omega
          |succ k=>rfl
         rw[e9];unfold zeo;cases hv:hexV h with
         |none=>rfl
         |some d=>rw[hv]at hnx;cases hnx
       ·rw[yK hh,yL ⟨by simp,rfl⟩]
      rw[hnone]
  ·have hl:=zpW s hs p 10 (.inl rfl) (by intro _;rw[h1];simpa using h48) h3 (c::r) p 0 ht hp (yJ _) (by omega)
   have hrl:(c::r).length<=s.length:=by rw[<-ht];simp
   rw[show Lp.loop zaz (s,(p:Int),10,0,(p:Int),())=some (ztH (c::r) 10 0 p p)from zck hl (by omega)];unfold ztH zn4 zCT;have e1:zaC (c::r)=zaC r+1:=by rw[zft,yL hldc]
   rw[e1];have e4:(c::r).take (zaC r+1)=c::r.take (zaC r):=rfl;rw[e4]
   have n1: ¬((c::r.take (zaC r):Str).take 2=[48,120]\/(c::r.take (zaC r):Str).take 2=[48,88]):=by
    simp only[List.take_succ_cons,List.cons.injEq,h48,false_and,or_self,not_false_eq_true]
   have n2: ¬((c::r.take (zaC r):Str).head?=some 48):=by simpa using h48
   by_cases h46:(c::r)[zaC r+1]? =some 46
   ·rw[yL h46,yL h46]
   ·rw[yK h46,yK h46,yK (λh=>n1 h.2),yK (λh=>n2 h.2)];cases zeo 10 (c::r.take (zaC r)) 0 with
    |none=>rfl
    |some n=>
     simp only;by_cases hm:n<=9007199254740991
     ·simp only[hm,yB];have:p+(zaC r+1) -p=zaC r+1:=by omega
      rw[this]
     ·simp only[hm,yA]
theorem zwC(l:List Nat)(h:l.length<=100000000)(hl: ∀n∈l,n<65536): ∀(r:List Nat) (i:Nat) (acc:List UInt8),l.drop i=r->i<=l.length->acc=zdF (l.take i)->
  zaH ze1 (r.length+1) (zeV l,((l.length:Nat):Int),(i:Int),acc,())=some (zdF l,())
 | [],i,acc,hr,hi,ha=>by
  have hle:=List.drop_eq_nil_iff.1 hr;refine zaG ?_;unfold ze1;have c: ¬((i:Int)< ((l.length:Nat):Int)):=by omega
  simp only[c,decide_false,qz2,yA,ha];rw[List.take_of_length_le hle]
 |n::r,i,acc,hr,hi,ha=>by
  have hlt:i<l.length:=by
   rcases Nat.lt_or_ge i l.length with h'|h'
   ·exact h'
   ·rw[List.drop_eq_nil_of_le h']at hr;cases hr
  have hcons:=List.drop_eq_getElem_cons hlt;rw[hr]at hcons;obtain⟨hn,h2⟩:=List.cons.inj hcons;have hb:=hl l[i] (List.getElem_mem _);have c:((i:Int)< ((l.length:Nat):Int)):=by omega
  have e1:(zeV l)[i]? =some (l[i]:Int):=by simp[zeV,hlt]
  have t1:Int.tdiv ((l[i]:Nat):Int) 256=((l[i]/256:Nat):Int):=rfl;have t2:Int.tmod ((l[i]:Nat):Int) 256=((l[i]%256:Nat):Int):=rfl;have w2:IntKind.wrap .i64 ((l[i]/256:Nat):Int)=((l[i]/256:Nat):Int):=wrap_i64 (by omega) (by omega);have w3:IntKind.wrap .u8 ((l[i]/256:Nat):Int)=((l[i]/256:Nat):Int):=wrap_u8 (by omega) (by omega);have w4:IntKind.wrap .u8 ((l[i]%256:Nat):Int)=((l[i]%256:Nat):Int):=wrap_u8 (by omega) (by omega);have b1:=zCz (n:=((l[i]/256:Nat):Int)) (by omega) (by omega);have b2:=zCz (n:=((l[i]%256:Nat):Int)) (by omega) (by omega)
  have hr':room (acc.length+2)=some ():=by
   have:(zdF (l.take i)).length<=2*l.length:=by rw[zkl,List.length_take];omega
   unfold room;rw[yL (by rw[ha];omega)]
  have hst:ze1 (zeV l,((l.length:Nat):Int),(i:Int),acc,())=some (.inl (zeV l,((l.length:Nat):Int),((i+1:Nat):Int),acc++enc1 l[i],())):=by
   unfold ze1;simp only[c,decide_true,yB,ziq,e1,qz1,t1,t2,w2,w3,w4,b1,b2,qz3,qz6,hr',wrap_succ (show i<1000000000000 by omega)];simp only[enc1,Int.toNat_natCast]
  rw[qz3,zca hst];refine zwC l h hl r (i+1) _ h2.symm (by omega) ?_;rw[ha,List.take_add_one,qz9 hlt,Option.toList_some,zJO];simp[zdF]
theorem zAW(l:List Nat)(h:l.length<=100000000)(hl: ∀n∈l,n<65536):zhU (zeV l)=some (zdF l,()):=by
 unfold zhU;have hlen:(zeV l).length=l.length:=by simp[zeV]
 rw[hlen];exact zck (zwC l h hl l 0 [] rfl (by omega) rfl) (by omega)
theorem zEU: ∀b:Fin 256,zhq ((b.val:Nat):Int)=some ((match hexV (UInt8.ofNat b.val)with|some d=>(d:Int)|none=> -1),()):=by decide+kernel
theorem zyG(c:UInt8):zhq ((c.toNat:Nat):Int)=some ((match hexV c with|some d=>(d:Int)|none=> -1),()):=by
 have:=zEU ⟨c.toNat,c.toNat_lt⟩;rwa [ofN]at this
theorem zDF(s:Str)(at_:Nat)(hs:s.length<=100000000)(ha:at_<=100000001): ∀(m i a many:Nat),m+i=many->many<=4->a<16^i->
  zaH zc7 (m+1) (s,(at_:Int),(a:Int),(many:Int),(i:Int),())=some ((match hexN m (s.drop (at_+i)) a with
   |none=> -1
   |some n=>(n:Int)),()):=by
 intro m;induction m with
 |zero=>
  intro i a many h1 h2 h3;refine zaG ?_;unfold zc7;have c: ¬((i:Int)< (many:Int)):=by omega
  simp only[c,decide_false,qz2,yA,hexN]
 |succ m ih=>
  intro i a many h1 h2 h3;have c:((i:Int)< (many:Int)):=by omega
  have w1:IntKind.wrap .i64 ((at_:Int)+(i:Int))=((at_+i:Nat):Int):=by rw[wrap_i64 (by omega) (by omega)];omega
  by_cases hlen:at_+i<s.length
  ·have c2: ¬(((at_+i:Nat):Int)>=((s.length:Nat):Int)):=by omega
   rw[List.drop_eq_getElem_cons hlen];simp only[hexN];cases hv:hexV s[at_+i]with
   |none=>
    refine zaG ?_;unfold zc7;have cm:((-1:Int)<0):=by omega
    simp only[c,decide_true,yB,w1,c2,decide_false,qz2,yA,zix,qz9 hlen,Option.map_some,qz1,zyG,hv,cm]
   |some d=>
    have hd:=zDt hv;have ha4:a<4096:=Nat.lt_of_lt_of_le h3 (Nat.le_trans (Nat.pow_le_pow_right (by omega) (show i<=3 by omega)) (by decide));have w2:IntKind.wrap .i64 (16*(a:Int))=((16*a:Nat):Int):=by rw[wrap_i64 (by omega) (by omega)];omega
    have w3:IntKind.wrap .i64 (((16*a:Nat):Int)+(d:Int))=((16*a+d:Nat):Int):=by rw[wrap_i64 (by omega) (by omega)];omega
    have w4:IntKind.wrap .i64 ((i:Int)+1)=((i+1:Nat):Int):=by rw[wrap_i64 (by omega) (by omega)];omega
    have c3: ¬((d:Int)<0):=by omega
    have hgo:zc7 (s,(at_:Int),(a:Int),(many:Int),(i:Int),())=some (.inl (s,(at_:Int),((16*a+d:Nat):Int),(many:Int),((i+1:Nat):Int),())):=by
     unfold zc7;simp only[c,decide_true,yB,w1,c2,decide_false,qz2,yA,zix,qz9 hlen,Option.map_some,qz1,zyG,hv,c3,w2,w3,w4]
    rw[zca hgo];exact ih (i+1) (16*a+d) many (by omega) h2 (by rw[Nat.pow_succ];omega)
  ·have c2:(((at_+i:Nat):Int)>=((s.length:Nat):Int)):=by omega
   rw[List.drop_eq_nil_of_le (by omega)];refine zaG ?_;unfold zc7;simp only[c,decide_true,yB,w1,c2,hexN]
theorem zwm(s:Str)(at_ many:Nat)(hs:s.length<=100000000)(ha:at_<=100000001)(hm:many<=4):zef s (at_:Int) (many:Int)=some ((match hexN many (s.drop at_) 0 with
  |none=> -1
  |some n=>(n:Int)),()):=by
 unfold zef;exact zck (zDF s at_ hs ha many 0 0 many (by omega) hm (by decide)) (by omega)
theorem zEt: ∀b:Fin 256,ziF ((b.val:Nat):Int)=some ((match zlb (UInt8.ofNat b.val)with
 |none=> -1
 |some d=>(d:Int)),()):=by decide+kernel
theorem zFH(b:UInt8):ziF ((b.toNat:Nat):Int)=some ((match zlb b with
 |none=> -1
 |some d=>(d:Int)),()):=by
 have:=zEt ⟨b.toNat,b.toNat_lt⟩;rwa [ofN]at this
theorem zEs(s:Str)(at_:Nat)(hs:s.length<=100000000)(ha:at_<=s.length):zii s (at_:Int)=some (match ztw (s.drop at_)with
  |none=>([],-1,())
  |some (us,k)=>(zeV us,(k:Int),())):=by
 unfold zii;by_cases hl:at_<s.length
 ·have c: ¬((at_:Int)>=((s.length:Nat):Int)):=by omega
  rw[List.drop_eq_getElem_cons hl];have hg:=qz9 hl;have w1:IntKind.wrap .i64 ((at_:Int)+1)=((at_+1:Nat):Int):=by rw[wrap_i64 (by omega) (by omega)];omega
  have d2:=zwm s (at_+1) 2 hs (by omega) (by omega);have d4:=zwm s (at_+1) 4 hs (by omega) (by omega)
  have d2':zef s ((at_+1:Nat):Int) 2=some ((match hexN 2 (s.drop (at_+1)) 0 with
   |none=> -1
   |some n=>(n:Int)),()):=d2
  have d4':zef s ((at_+1:Nat):Int) 4=some ((match hexN 4 (s.drop (at_+1)) 0 with
   |none=> -1
   |some n=>(n:Int)),()):=d4
  have u8b: ∀n:Nat,n<256->((((s[at_].toNat:Nat):Int))==((n:Nat):Int))=decide (s[at_]=UInt8.ofNat n):=λn h=>by
   rw[zkq,decide_eq_decide];exact(zpi _ n h).symm
  have b10:((((s[at_].toNat:Nat):Int))==10)=decide (s[at_]=10):=u8b 10 (by omega);have b48:((((s[at_].toNat:Nat):Int))==48)=decide (s[at_]=48):=u8b 48 (by omega);have b120:((((s[at_].toNat:Nat):Int))==120)=decide (s[at_]=120):=u8b 120 (by omega);have b117:((((s[at_].toNat:Nat):Int))==117)=decide (s[at_]=117):=u8b 117 (by omega);simp only[c,decide_false,qz2,yA,zix,hg,Option.map_some,qz1,b10,b48,b120,b117,w1,d2',d4',zFH,ztw,yT];by_cases h10:s[at_]=10
  ·simp only[h10,yB];rfl
  simp only[h10,yA];by_cases h48:s[at_]=48
  ·simp only[h48,yB];by_cases hl2:at_+1<s.length
   ·have c2:(((at_+1:Nat):Int)< ((s.length:Nat):Int)):=by omega
    rw[List.drop_eq_getElem_cons hl2];simp only[c2,yB,qz9 hl2,Option.map_some,qz1];by_cases hd1:48<=s[at_+1].toNat
    ·have cd:(((s[at_+1].toNat:Nat):Int)>=48):=by omega
     by_cases hd2:s[at_+1].toNat<=57
     ·have cd2:(((s[at_+1].toNat:Nat):Int)<=57):=by omega
      simp[cd,cd2,hd1,hd2]
     ·have cd2: ¬(((s[at_+1].toNat:Nat):Int)<=57):=by omega
      simp[cd,cd2,hd2,zeV]
    ·have cd: ¬(((s[at_+1].toNat:Nat):Int)>=48):=by omega
     simp[cd,hd1,zeV]
   ·have c2: ¬(((at_+1:Nat):Int)< ((s.length:Nat):Int)):=by omega
    rw[List.drop_eq_nil_of_le (by omega)];simp only[c2,yA];rfl
  simp only[h48,yA];by_cases h120:s[at_]=120
  ·simp only[h120,yB];cases hn:hexN 2 (s.drop (at_+1)) 0 with
   |none=>rfl
   |some n=>
    have cn: ¬((n:Int)<0):=by omega
    simp only[cn,yA];rfl
  simp only[h120,yA];by_cases h117:s[at_]=117
  ·simp only[h117,yB];cases hn:hexN 4 (s.drop (at_+1)) 0 with
   |none=>rfl
   |some n=>
    have cn: ¬((n:Int)<0):=by omega
    simp only[cn,yA];rfl
  simp only[h117,yA];cases hn:zlb s[at_]with
  |none=>rfl
  |some n=>
   have cn: ¬((n:Int)<0):=by omega
   simp only[cn,yA];rfl
 ·have c:((at_:Int)>=((s.length:Nat):Int)):=by omega
  rw[List.drop_eq_nil_of_le (by omega)];simp only[c,decide_true,yB];rfl
theorem zFk(q:UInt8)(s0:Str)(hs:(q::s0).length<=100000000): ∀(m i:Nat) (acc:List Nat),(q::s0).length -i<m->i<=(q::s0).length->acc.length<=i->okU acc->
  zaH zbM m (q::s0,(i:Int),zeV acc,())=some ((zh8 q (q::s0) m ((q::s0).drop i) acc).1,(zh8 q (q::s0) m ((q::s0).drop i) acc).2.1,(zh8 q (q::s0) m ((q::s0).drop i) acc).2.2,()):=by
 intro m;induction m with
 |zero=>intro i acc h;omega
 |succ m ih=>
  intro i acc h1 h2 h3 h4;by_cases hl:i< (q::s0).length
  ·rw[List.drop_eq_getElem_cons hl];have hg:=qz9 hl;have gq:zbc (q::s0) 0=some ((q.toNat:Nat):Int):=rfl;have c:((i:Int)< (((q::s0).length:Nat):Int)):=by omega
   generalize hc:(q::s0)[i]=ch at hg⊢;have hb:=ch.toNat_lt;have w1:IntKind.wrap .i64 ((i:Int)+1)=((i+1:Nat):Int):=by rw[wrap_i64 (by omega) (by omega)];omega
   have hq:((((ch.toNat:Nat):Int))==((q.toNat:Nat):Int))=decide (ch=q):=by rw[zkq];simp[UInt8.toNat_inj]
   have u8b: ∀n:Nat,n<256->((((ch.toNat:Nat):Int))==((n:Nat):Int))=decide (ch=UInt8.ofNat n):=λn h=>by
    rw[zkq,decide_eq_decide];exact(zpi _ n h).symm
   have b10:((((ch.toNat:Nat):Int))==10)=decide (ch=10):=u8b 10 (by omega);have b13:((((ch.toNat:Nat):Int))==13)=decide (ch=13):=u8b 13 (by omega);have b92:((((ch.toNat:Nat):Int))==92)=decide (ch=92):=u8b 92 (by omega);by_cases hcq:ch=q
   ·have hmk:=zAW acc (by omega) h4;have dq:decide (ch=q)=true:=by rw[yT];exact hcq
    refine(zaG (e:=(zdF acc,((i+1:Nat):Int),0,())) ?_).trans ?_
    ·unfold zbM;simp only[c,decide_true,yB,zix,hg,gq,Option.map_some,qz1,hq,dq,hmk,w1]
    ·unfold zh8 zhL;rw[yL hcq];simp only;have:(q::s0).length - ((q::s0).drop (i+1)).length=i+1:=by rw[List.length_drop];omega
     rw[this]
   ·by_cases hbad:ch=10\/ch=13\/ch.toNat>127
    ·have cb:((decide (ch=10)||decide (ch=13))||decide (((ch.toNat:Nat):Int)>127))=true:=by
      simp only[yQ,yT];rcases hbad with h|h|h
      ·exact .inl (.inl h)
      ·exact .inl (.inr h)
      ·right;omega
     refine(zaG (e:=([],0,10,())) ?_).trans ?_
     ·unfold zbM;simp only[c,decide_true,yB,zix,hg,gq,Option.map_some,qz1,hq,hcq,decide_false,qz2,yA,b10,b13,cb]
     ·unfold zh8 zhL;rw[yK hcq,yL hbad]
    ·have cb:((decide (ch=10)||decide (ch=13))||decide (((ch.toNat:Nat):Int)>127))=false:=by
      simp only[Bool.or_eq_false_iff,decide_eq_false_iff_not];refine⟨⟨λh=>hbad (.inl h),λh=>hbad (.inr (.inl h))⟩,λh=>hbad (.inr (.inr (by omega)))⟩
     by_cases h92:ch=92
     ·have hesc:=zEs (q::s0) (i+1) hs (by omega);have d92:decide (ch=92)=true:=by rw[yT];exact h92
      cases he:ztw ((q::s0).drop (i+1))with
      |none=>
       rw[he]at hesc;refine(zaG (e:=([],0,10,())) ?_).trans ?_
       ·unfold zbM;simp only[c,decide_true,yB,zix,hg,gq,Option.map_some,qz1,hq,hcq,decide_false,qz2,yA,b10,b13,cb,b92,d92,w1,hesc];rfl
       ·unfold zh8 zhL;rw[yK hcq,yK hbad,yL h92,he]
      |some p=>
       obtain⟨us,k⟩:=p;rw[he]at hesc;obtain⟨p1,p2,p3,p4⟩:=zGF he;rw[List.length_drop]at p4;have ck: ¬((k:Int)<0):=by omega
       have hr:room ((zeV acc).length+(zeV us).length)=some ():=by
        unfold room;rw[yL (by simp only[zeV,List.length_map];omega)]
       have w2:IntKind.wrap .i64 (1+(k:Int))=((1+k:Nat):Int):=by rw[wrap_i64 (by omega) (by omega)];omega
       have w3:IntKind.wrap .i64 ((i:Int)+((1+k:Nat):Int))=((i+1+k:Nat):Int):=by rw[wrap_i64 (by omega) (by omega)];omega
       have hgo:zbM (q::s0,(i:Int),zeV acc,())=some (.inl (q::s0,((i+1+k:Nat):Int),zeV (acc++us),())):=by
        unfold zbM;simp only[c,decide_true,yB,zix,hg,gq,Option.map_some,qz1,hq,hcq,decide_false,qz2,yA,b10,b13,cb,b92,d92,w1,hesc,ck,hr,w2,w3];simp[zeV]
       have hacc:okU (acc++us):=by
        intro n hn;rcases List.mem_append.mp hn with h|h
        ·exact h4 n h
        ·exact p1 n h
       rw[zca hgo,ih (i+1+k) (acc++us) (by omega) (by omega) (by simp;omega) hacc]
       have:zh8 q (q::s0) m ((q::s0).drop (i+1+k)) (acc++us)=zh8 q (q::s0) (m+1) (ch::(q::s0).drop (i+1)) acc:=by
        unfold zh8;conv=>rhs;unfold zhL
        rw[yK hcq,yK hbad,yL h92,he];simp only[List.drop_drop]
       rw[this]
     ·have d92:decide (ch=92)=false:=by rw[decide_eq_false_iff_not];exact h92
      have hr:room ((zeV acc).length+1)=some ():=by
       unfold room;rw[yL (by simp only[zeV,List.length_map];omega)]
      have wc:IntKind.wrap .i64 ((ch.toNat:Nat):Int)=((ch.toNat:Nat):Int):=wrap_i64 (by omega) (by omega);have l1: ∀x:Int,([x]:List Int).length=1:=λ_=>rfl
      have hgo:zbM (q::s0,(i:Int),zeV acc,())=some (.inl (q::s0,((i+1:Nat):Int),zeV (acc++[ch.toNat]),())):=by
       unfold zbM;simp only[c,decide_true,yB,zix,hg,gq,Option.map_some,qz1,hq,hcq,decide_false,qz2,yA,b10,b13,cb,b92,d92,w1,l1,hr,wc];simp[zeV]
      have hacc:okU (acc++[ch.toNat]):=by
       intro n hn;rcases List.mem_append.mp hn with h|h
       ·exact h4 n h
       ·rw[List.mem_singleton.1 h];omega
      rw[zca hgo,ih (i+1) (acc++[ch.toNat]) (by omega) (by omega) (by simp;omega) hacc]
      have:zh8 q (q::s0) m ((q::s0).drop (i+1)) (acc++[ch.toNat])=zh8 q (q::s0) (m+1) (ch::(q::s0).drop (i+1)) acc:=by
       unfold zh8;conv=>rhs;unfold zhL
       rw[yK hcq,yK hbad,yK h92]
      rw[this]
  ·have hi:i=(q::s0).length:=by omega
   have c: ¬((i:Int)< (((q::s0).length:Nat):Int)):=by omega
   rw[List.drop_eq_nil_of_le (by omega)];refine(zaG (e:=([],0,10,())) ?_).trans ?_
   ·unfold zbM;simp only[c,decide_false,qz2,yA]
   ·unfold zh8 zhL;rfl
theorem zHu(s:Str)(hs:s.length<=100000000):zj3 s=some ((zfB s).1,(zfB s).2.1,(zfB s).2.2,()):=by
 cases s with
 |nil=>rfl
 |cons q s0=>
  unfold zj3 zfB;have gq:zbc (q::s0) 0=some ((q.toNat:Nat):Int):=rfl;have b39:((((q.toNat:Nat):Int))==39)=decide (q=39):=zeG q 39 (by omega);have b34:((((q.toNat:Nat):Int))==34)=decide (q=34):=zeG q 34 (by omega);have e0:((q::s0:Str)==([]:Str))=false:=rfl
  have hl:Lp.loop zbM (q::s0,1,([]:List Int),())=some ((zh8 q (q::s0) (s0.length+1) s0 []).1,(zh8 q (q::s0) (s0.length+1) s0 []).2.1,(zh8 q (q::s0) (s0.length+1) s0 []).2.2,()):=
   zck (zFk q s0 hs (s0.length+1) 1 [] (by simp) (by simp) (by simp) (λn hn=>by cases hn)) (by simp only[qz3]at hs;omega)
  simp only[e0,qz2,yA,gq,qz1,bne,b39,b34];by_cases h1:q=39
  ·simp only[h1,decide_true,yO,qz2,yA,qz1,true_or,yB];subst h1;exact hl
  ·by_cases h2:q=34
   ·simp only[h1,h2,decide_true,decide_false,yO,yN,qz2,yA,yB,qz1,or_true];subst h2;exact hl
   ·simp only[h1,h2,decide_false,yN,yB,qz1,or_self,yA]
theorem ztN(s:Str): ∀(r:List Str) (i:Nat),zhn.drop i=r->i<=zhn.length->zaH zdC (r.length+1) (s,zhn,((zhn.length:Nat):Int),(i:Int),())=some (r.contains s,())
 | [],i,hr,hi=>by
  have hle:=List.drop_eq_nil_iff.1 hr;refine zaG ?_;unfold zdC;have c: ¬((i:Int)< ((zhn.length:Nat):Int)):=by omega
  simp only[c,decide_false,qz2,yA];rfl
 |x::r,i,hr,hi=>by
  have hlt:i<zhn.length:=by
   rcases Nat.lt_or_ge i zhn.length with h'|h'
   ·exact h'
   ·rw[List.drop_eq_nil_of_le h']at hr;cases hr
  have hcons:=List.drop_eq_getElem_cons hlt;rw[hr]at hcons;obtain⟨hx,h2⟩:=List.cons.inj hcons;have c:((i:Int)< ((zhn.length:Nat):Int)):=by omega
  have e1:zhn[i]? =some x:=by rw[qz9 hlt,hx]
  have hl:zhn.length<1000:=by decide
  rw[List.contains_cons];cases hq:s==x with
  |true=>
   refine(zaG (e:=(true,())) ?_).trans (by simp);unfold zdC;simp only[c,decide_true,yB,ziq,e1,qz1,hq]
  |false=>
   have hst:zdC (s,zhn,((zhn.length:Nat):Int),(i:Int),())=some (.inl (s,zhn,((zhn.length:Nat):Int),((i+1:Nat):Int),())):=by
    unfold zdC;simp only[c,decide_true,yB,ziq,e1,qz1,hq,qz2,yA,wrap_succ (show i<1000000000000 by omega)]
   rw[qz3,zca hst,Bool.false_or];exact ztN s r (i+1) h2.symm (by omega)
theorem zEY(s:Str):ziZ s=some (zpt s,()):=by
 have hw:zmK=some (zhn,()):=by kernel_rfl
 unfold ziZ;rw[hw,qz1];have:=zck (ztN s zhn 0 rfl (by omega)) (by decide);exact this
/-! ### signs -/
theorem zAE(k:Nat)(s:Str): ∀L:List Str,(∀g∈L,g.length=k)->L.find? (λg=>g.isPrefixOf s)=if k<=s.length/\L.contains (s.take k)=true then some (s.take k)else none
 | [],_=>by simp
 |g::L,h=>by
  have hg:=h g (by simp);have ih:=zAE k s L (λx hx=>h x (by simp[hx]));rw[List.find?_cons,zx0,hg,List.contains_cons];by_cases hk:k<=s.length
  ·cases e:(s.take k==g)with
   |true=>
    have:s.take k=g:=by simpa using e
    simp only[hk,true_and,Bool.true_or,yB,this]
   |false=>simp only[hk,true_and,Bool.false_or];rw[ih];simp only[hk,true_and]
  ·have e:(s.take k==g)=false:=by
    rw[yH];intro e;have:=congrArg List.length e;simp only[List.length_take]at this;omega
   rw[e];simp only[hk,false_and,yA];rw[ih];simp only[hk,false_and,yA]
def zgL:List Str:=zoC++(zp9++zr9.map (λb=>[b]))
theorem zwo(c:UInt8): ∀l:List UInt8,(l.map (λb=>([b]:Str))).contains [c]=l.contains c
 | []=>rfl
 |b::l=>by
  rw[List.map_cons,List.contains_cons,List.contains_cons,zwo c l];congr 1;simp
theorem zG5(c:UInt8)(r:Str):zgL.find? (λg=>g.isPrefixOf (c::r))=if zdV (c::r)=0 then none else some ((c::r).take (zdV (c::r))):=by
 unfold zgL;rw[List.find?_append,List.find?_append,zAE 3 _ zoC (by decide),zAE 2 _ zp9 (by decide),zAE 1 _ (zr9.map λb=>[b]) (by decide)];have e1:(c::r).take 1=[c]:=rfl;have l1:1<=(c::r).length:=by simp
 rw[e1,zwo];simp only[l1,true_and];by_cases h3:2< (c::r).length/\zoC.contains ((c::r).take 3)=true
 ·have h3':3<=(c::r).length/\zoC.contains ((c::r).take 3)=true:=h3;have hS:zdV (c::r)=3:=by unfold zdV;rw[yL h3]
  rw[yL h3',hS];rfl
 ·have h3': ¬(3<=(c::r).length/\zoC.contains ((c::r).take 3)=true):=h3;rw[yK h3'];by_cases h2:1< (c::r).length/\zp9.contains ((c::r).take 2)=true
  ·have h2':2<=(c::r).length/\zp9.contains ((c::r).take 2)=true:=h2;have hS:zdV (c::r)=2:=by unfold zdV;rw[yK h3,yL h2]
   rw[yL h2',hS];rfl
  ·have h2': ¬(2<=(c::r).length/\zp9.contains ((c::r).take 2)=true):=h2;have hS:zdV (c::r)=if zr9.contains c=true then 1 else 0:=by unfold zdV;rw[yK h3,yK h2];rfl
   rw[yK h2',hS];cases zr9.contains c<;>rfl
theorem zAZ(s:Str)(p:Nat)(t:Str)(x0:zl)(hs:s.length<=100000000)(hp:p<=s.length)(ht:s.drop p=t): ∀(r:List Str) (i:Nat),zgL.drop i=r->i<=zgL.length->
  zaH zdJ (r.length+1) (s,(p:Int),zgL,((zgL.length:Nat):Int),(i:Int),x0,())=some (match r.find? (λg=>g.isPrefixOf t)with
   |some g=>((⟨5,g,0,0,false⟩:zl),((g.length:Nat):Int),())
   |none=>((⟨0,[],0,0,false⟩:zl),0,()))
 | [],i,hr,hi=>by
  have hle:=List.drop_eq_nil_iff.1 hr;refine zaG ?_;unfold zdJ;have c: ¬((i:Int)< ((zgL.length:Nat):Int)):=by omega
  simp only[c,decide_false,qz2,yA];rfl
 |x::r,i,hr,hi=>by
  have hlt:i<zgL.length:=by
   rcases Nat.lt_or_ge i zgL.length with h'|h'
   ·exact h'
   ·rw[List.drop_eq_nil_of_le h']at hr;cases hr
  have hcons:=List.drop_eq_getElem_cons hlt;rw[hr]at hcons;obtain⟨hx,h2⟩:=List.cons.inj hcons;have c:((i:Int)< ((zgL.length:Nat):Int)):=by omega
  have e1:zgL[i]? =some x:=by rw[qz9 hlt,hx]
  have hl:zgL.length<1000:=by decide
  have hxl:x.length<=1000000:=by
   have hm:=List.mem_of_getElem? e1;have: ∀g∈zgL,g.length<=1000000:=by decide
   exact this x hm
  have hb:=zo6 s p x hp (by omega) hxl;rw[ht]at hb;rw[List.find?_cons];cases hq:x.isPrefixOf t with
  |true=>
   refine zaG ?_;unfold zdJ;simp only[c,decide_true,yB,ziq,e1,qz1,hb,hq]
  |false=>
   have hst:zdJ (s,(p:Int),zgL,((zgL.length:Nat):Int),(i:Int),x0,())=some (.inl (s,(p:Int),zgL,((zgL.length:Nat):Int),((i+1:Nat):Int),x0,())):=by
    unfold zdJ;simp only[c,decide_true,yB,ziq,e1,qz1,hb,hq,qz2,yA,wrap_succ (show i<1000000000000 by omega),zoS]
   rw[qz3,zca hst];exact zAZ s p t x0 hs hp ht r (i+1) h2.symm (by omega)
/-! ### a token -/
theorem zAk(s:Str)(p:Nat)(x0:zl)(t:Str)(hs:s.length<=100000000)(ht:s.drop p=t)(hp:p<=s.length):
  zeb s (p:Int) ((p+zaC t:Nat):Int) x0=some (if 32<zaC t then((⟨0,[],0,0,false⟩:zl),0,())else((⟨if zpt (t.take (zaC t))=true then 2 else 1,t.take (zaC t),0,0,false⟩:zl),((zaC t:Nat):Int),())):=by
 have hlen:t.length=s.length -p:=by rw[<-ht];simp
 have hle:=zrQ t;have hw:IntKind.wrap .i64 (((p+zaC t:Nat):Int) - (p:Int))=((zaC t:Nat):Int):=by rw[wrap_i64 (by omega) (by omega)];omega
 unfold zeb;simp only[hw];by_cases h32:32<zaC t
 ·have d:(((zaC t:Nat):Int)>32):=by omega
  simp only[d,h32,decide_true,yB]
 ·have d: ¬(((zaC t:Nat):Int)>32):=by omega
  have hcut:zbv s (p:Int) ((p+zaC t:Nat):Int)=some (t.take (zaC t)):=by
   rw[zne s p (p+zaC t) (by omega) (by omega),ht];have:p+zaC t -p=zaC t:=by omega
   rw[this]
  simp only[d,h32,decide_false,qz2,yA];unfold zlZ;rw[hcut,qz1];unfold zlR;simp only[zEY,qz1,hw,zoS];cases zpt (t.take (zaC t))<;>rfl
theorem zCp(s:Str)(p:Nat)(x0:zl)(T0:Str)(hT:s.drop p=T0)(hp0:p<=s.length)(hs:s.length<=100000000): ∀(t:Str) (q:Nat),s.drop q=t->q<=s.length->q+zaC t=p+zaC T0->
  zaH zec (t.length+1) (s,(p:Int),(q:Int),x0,())=zeb s (p:Int) ((p+zaC T0:Nat):Int) x0
 | [],q,ht,hp,hq=>by
  have e:=drop_nil ht hp;have hz:zaC ([]:Str)=0:=rfl;have hj:=zAk s p x0 T0 hs hT hp0;rw[<-hq,hz,Nat.add_zero]at hj;rw[<-hq,hz];show _=zeb s (p:Int) (q:Int) x0;rw[hj];refine zaG ?_;unfold zec;have c: ¬((q:Int)< ((s.length:Nat):Int)):=by omega
  simp only[c,decide_false,qz2,yA,zoS,hj];rfl
 |c::r,q,ht,hp,hq=>by
  obtain⟨h1,h2,h3⟩:=zlY ht;have d:((q:Int)< ((s.length:Nat):Int)):=by omega
  rw[zft]at hq;cases hld:zeA c with
  |true=>
   rw[hld]at hq;simp only[yB]at hq
   have hst:zec (s,(p:Int),(q:Int),x0,())=some (.inl (s,(p:Int),((q+1:Nat):Int),x0,())):=by
    unfold zec;simp only[d,decide_true,yB,zhw s q c h1,qz1,zm2,znI,wrap_succ (show q<1000000000000 by omega),zoS];unfold zeA at hld;cases h:isLet c with
    |true=>rfl
    |false=>rw[h,Bool.false_or]at hld;simp only[hld,qz2,yA,yB]
   rw[qz3,zca hst];exact zCp s p x0 T0 hT hp0 hs r (q+1) h2 (by omega) (by omega)
  |false=>
   rw[hld]at hq;simp only[qz2,yA,Nat.add_zero]at hq;have hj:=zAk s p x0 T0 hs hT hp0;rw[<-hq]at hj⊢;rw[hj];refine zaG ?_;unfold zec;unfold zeA at hld;rw[Bool.or_eq_false_iff]at hld;simp only[d,decide_true,yB,zhw s q c h1,qz1,zm2,znI,hld.1,hld.2,qz2,yA,zoS,hj];rfl
theorem zHZ(s:Str)(p:Nat)(hs:s.length<=100000000)(h0:s.drop p≠[])(hp:p<=s.length): ∃x,zkE s (p:Int)=some (x.1,x.2,())/\match zoZ (s.drop p)with
  |some (t,n)=>x=(t,(n:Int))
  |none=>x.2=0:=by
 generalize ht:s.drop p=t at h0;cases t with
 |nil=>exact absurd rfl h0
 |cons b r=>
  obtain⟨h1,h2,h3⟩:=zlY ht;have hlen:(b::r).length=s.length -p:=by rw[<-ht];simp
  unfold zkE zoZ;simp only[zhw s p b h1,qz1,zm2,znI];by_cases hl:isLet b=true
  ·simp only[hl,yB];have hj:=zAk s p (⟨0,[],0,0,false⟩:zl) (b::r) hs ht hp;have hlp:=zCp s p (⟨0,[],0,0,false⟩:zl) (b::r) ht hp hs (b::r) p ht hp rfl;rw[hj]at hlp;have hlp:=zck hlp (by omega);rw[hlp];by_cases h32:32<zaC (b::r)
   ·rw[yL h32,yL h32];exact⟨(_,_),rfl,rfl⟩
   ·rw[yK h32,yK h32];exact⟨(_,_),rfl,rfl⟩
  ·have hl':isLet b=false:=by simpa using hl
   simp only[hl',qz2,yA];by_cases hd:zkG b=true
   ·simp only[hd,yB,zEX s (by omega) p b r ht hd hp,qz1];cases zn4 (b::r)with
    |none=>exact⟨(_,_),rfl,rfl⟩
    |some q=>exact⟨(_,_),rfl,rfl⟩
   ·have hd':zkG b=false:=by simpa using hd
    simp only[hd',qz2,yA];have b39:((((b.toNat:Nat):Int))==39)=decide (b=39):=zeG b 39 (by omega);have b34:((((b.toNat:Nat):Int))==34)=decide (b=34):=zeG b 34 (by omega);rw[b39,b34];by_cases hq:b=39\/b=34
    ·have dq:(decide (b=39)||decide (b=34))=true:=by simpa using hq
     have hcut:zbv s (p:Int) ((s.length:Nat):Int)=some (b::r):=by rw[zgz s p hp,ht]
     simp only[dq,yB,hq,hcut,qz1,zHu (b::r) (by omega)];generalize hx:zfB (b::r)=q;obtain⟨u,n,e⟩:=q;have hb:=zCt hx;refine⟨(_,_),rfl,?_⟩;simp only;by_cases hn:n=0
     ·simp only[hn,yB]
     ·simp only[hn,yA];have:((n.toNat:Nat):Int)=n:=by omega
      rw[this]
    ·have dq:(decide (b=39)||decide (b=34))=false:=by simpa using hq
     simp only[dq,qz2,yA,hq];have hsg:zmH=some (zgL,()):=by kernel_rfl
     rw[hsg,qz1];have hl:=zck (zAZ s p (b::r) (⟨0,[],0,0,false⟩:zl) hs hp ht zgL 0 rfl (by omega)) (by decide);have hl':Lp.loop zdJ (s,(p:Int),zgL,((zgL.length:Nat):Int),0,(⟨0,[],0,0,false⟩:zl),())=_:=hl;rw[hl',zG5];by_cases hsz:zdV (b::r)=0
     ·simp only[hsz,yB];exact⟨(_,_),rfl,rfl⟩
     ·have hsl:=zD1 b r;simp only[hsz,yA];refine⟨(_,_),rfl,?_⟩;have:((b::r).take (zdV (b::r))).length=zdV (b::r):=by rw[List.length_take];omega
      simp only[this]
/-! ### the whole -/
theorem zLA: ∀(m:Nat) (t:Str) (f:Bool),(zew m t f).1<:+t:=by
 intro m;induction m with
 |zero=>intro t f;exact List.suffix_refl _
 |succ m ih=>
  intro t f;cases t with
  |nil=>exact List.suffix_refl _
  |cons c r=>
   unfold zew;split
   ·exact(ih r true).trans (List.suffix_cons _ _)
   ·split
    ·exact(ih r f).trans (List.suffix_cons _ _)
    ·split
     ·exact(ih _ f).trans (List.dropWhile_suffix _)
     ·split
      ·split
       ·exact List.suffix_refl _
       ·exact(ih _ _).trans (List.drop_suffix _ _)
      ·exact List.suffix_refl _
theorem zCl(src:Str)(hs:src.length<=100000000): ∀(m:Nat) (p:Nat) (out:List Tok),(src.drop p).length<m->p<=src.length->out.length<=p->
  zaH zd9 m (src,(p:Int),out,())=some (match znz m (src.drop p) false with
   | .inl l=>(out++zmh src.length l,0,0,())
   | .inr k=>([],((src.length -k:Nat):Int),60,()))
 |0,p,out,h,_,_=>by omega
 |m+1,p,out,hm,hp,hout=>by
  have hb:=zEO src p hp (by omega);have hl:=zi2 ((src.drop p).length+1) (src.drop p) false;have hdl:(src.drop p).length=src.length -p:=by simp
  have hsf:=zLA ((src.drop p).length+1) (src.drop p) false;rw[znz];generalize hq:zew ((src.drop p).length+1) (src.drop p) false=q at hb hl hsf;obtain⟨r,f,ok⟩:=q;simp only at hb hl hsf⊢
  have hrd:src.drop (src.length -r.length)=r:=by
   have:=List.suffix_iff_eq_drop.1 hsf;rw[List.drop_drop]at this;have e:p+((src.drop p).length -r.length)=src.length -r.length:=by omega
   rw[e]at this;exact this.symm
  unfold zJg at hb;cases ok with
  |false=>
   simp only at hb;simp only[yB];refine zaG ?_;unfold zd9;simp only[hb,qz1,yN,yB]
  |true=>
   simp only[Bool.true_and]at hb;simp only[Bool.true_eq_false,yA];have hroom:room (out.length+1)=some ():=by unfold room;rw[yL (by omega)]
   have l1: ∀x:zl,([x]:List zl).length=1:=λ_=>rfl
   by_cases hr:r=[]
   ·subst hr;simp only[yB];refine zaG ?_;unfold zd9;simp only[hb,qz1,yO,qz2,yA,qz6,Nat.sub_zero,beq_self_eq_true,yB,l1,hroom];rfl
   ·simp only[hr,yA]
    have hrl:1<=r.length:=by
     cases r with
     |nil=>exact absurd rfl hr
     |cons a r=>simp
    obtain⟨x,e1,e2⟩:=zHZ src (src.length -r.length) hs (by rw[hrd];exact hr) (by omega)
    rw[hrd]at e2;have cne:((((src.length -r.length:Nat):Int))==((src.length:Nat):Int))=false:=by rw[yH];omega
    have hstep:zd9 (src,(p:Int),out,())=if(x.2==0)=true then some (.inr (([]:List zl),((src.length -r.length:Nat):Int),60,()))
      else some (.inl (src,(IntKind.wrap .i64 (((src.length -r.length:Nat):Int)+x.2)),(out++[({Kind:=x.1.Kind,Text:=x.1.Text,Num:=x.1.Num,At:=((src.length -r.length:Nat):Int),Fresh:=f}:zl)]),())):=by
     unfold zd9;simp only[hb,qz1,yO,qz2,yA,cne,e1,l1,hroom]
    cases ho:zoZ r with
    |none=>
     rw[ho]at e2;simp only at e2;rw[e2]at hstep;simp only[beq_self_eq_true,yB]at hstep;exact zaG hstep
    |some q=>
     obtain⟨t,n⟩:=q;rw[ho]at e2;simp only at e2;subst e2;have hn:=zzX ho;have c0:((n:Int)==0)=false:=by rw[yH];omega
     have w:IntKind.wrap .i64 (((src.length -r.length:Nat):Int)+(n:Int))=((src.length -r.length+n:Nat):Int):=by rw[wrap_i64 (by omega) (by omega)];omega
     simp only[c0,qz2,yA,w]at hstep;have htok:({Kind:=t.Kind,Text:=t.Text,Num:=t.Num,At:=((src.length -r.length:Nat):Int),Fresh:=f}:Tok)=(t.fresh f).at_ ((src.length -r.length:Nat):Int):=rfl;rw[htok]at hstep;have hd2:src.drop (src.length -r.length+n)=r.drop n:=by rw[<-List.drop_drop,hrd]
     have ih:=zCl src hs m (src.length -r.length+n) (out++[(t.fresh f).at_ ((src.length -r.length:Nat):Int)]) (by rw[hd2];simp only[List.length_drop];omega) (by omega) (by simp only[qz5,qz3,qz6];omega)
     rw[zca hstep,ih,hd2];simp only;cases hc:znz m (r.drop n) false with
     |inl l=>simp only[zsb];simp
     |inr k=>rfl
theorem zC9(src:Str)(hs:src.length<=100000000):zkI src=some ((zel src).1,(zel src).2.1,(zel src).2.2,()):=by
 unfold zkI zel;by_cases h:4096<src.length
 ·have d:(((src.length:Nat):Int)>4096):=by omega
  simp only[d,h,decide_true,yB]
 ·have d: ¬(((src.length:Nat):Int)>4096):=by omega
  simp only[d,h,decide_false,qz2,yA];have:=zCl src hs (src.length+1) 0 [] (by simp) (by omega) (by simp);rw[List.drop_zero]at this;have this':=zck this (by omega);have e:((0:Nat):Int)=0:=rfl;rw[e]at this';rw[this'];cases znz (src.length+1) src false<;>rfl
end Go.D08.U
namespace Go.D08
open Go Go.Gw Go.Dn Go.Proofs
set_option maxRecDepth 100000
def Ded{α:Type}(p:PR α):Prop:=∀v,p≠gt v
structure zTY (g:PG):Prop where
 expr: ∀a t,zak t=0->Ded (g.expr a t)
 assign: ∀a t,zak t=0->Ded (g.assign a t)
 binary: ∀a b t,zak t=0->Ded (g.binary a b t)
 unary: ∀t,zak t=0->Ded (g.unary t)
 made: ∀t,zak t=0->Ded (g.made t)
 prim: ∀t,zak t=0->Ded (g.prim t)
 exprs: ∀a b t,zak t=0->Ded (g.exprs a b t)
 props: ∀t,zak t=0->Ded (g.props t)
 func: ∀a t,zak t=0->Ded (g.func a t)
 vars: ∀a t,zak t=0->Ded (g.vars a t)
 block: ∀t,zak t=0->Ded (g.block t)
 head: ∀t,zak t=0->Ded (g.head t)
 till: ∀a t,zak t=0->Ded (g.till a t)
 loop: ∀t,zak t=0->Ded (g.loop t)
 cases: ∀a t,zak t=0->Ded (g.cases a t)
 stmt: ∀t,zak t=0->Ded (g.stmt t)
 body: ∀t,zak t=0->∀v,g.body t=gt v->zak v.2=0
 stmts: ∀a t,zak t=0->∀v,g.stmts a t=gt v->zak v.2=0
section
variable {g:PG} (D:zTY g)
include D
end
structure Beh (e m:Tok) (tb:zal):Prop where
 e0:e.kind=0
 m5:m.kind=5
 mt:m.text=[59]
 el:tIs [101,108,115,101] tb=false
inductive R1 (e m:Tok) (tb:zal):zal->zal->Prop
 |fin:R1 e m tb [e] (m::tb)
 |cons (a:Tok) {s s':zal} (ha:a.kind≠0) (h:R1 e m tb s s'):R1 e m tb (a::s) (a::s')
section
variable {α β:Type} {Q R:zal->zal->Prop} {p q:PR α} {z:Bool}
end
section
variable {e m:Tok} {tb t t':zal} (B:Beh e m tb) (h:R1 e m tb t t')
include B
include h
end
abbrev TP:=zg
structure TW (L:List zl):Prop where
 word: ∀t∈L,t.Kind=2->t.Text≠[]/\∀b∈t.Text,zeA b=true
 sign: ∀t∈L,t.Kind=5->∀b∈t.Text,zeA b=false
theorem zOF: ∀w∈U.zgL,∀b∈w,zeA b=false:=by decide
theorem U.zoD.tw{L:List zl}(h:U.zoD 4096 L):TW L:=by
 induction h with
 |fin e h1 h2=>
  constructor<;>intro t ht hk<;>(obtain rfl:t=e:=by simpa using ht)<;>omega
 |one s t l o hs k1 k5 _ ih=>
  constructor
  ·intro x hx hk;rcases yP.1 hx with rfl|hx
   ·have:=U.zsO o (.inr hk);exact⟨this.2,this.1⟩
   ·exact ih.word x hx hk
  ·intro x hx hk;rcases yP.1 hx with rfl|hx
   ·obtain⟨h1,h2⟩:=o.sign hk;cases s with
    |nil=>rw[h1];intro b hb;simp at hb
    |cons c r=>
     have hm:x.Text∈U.zgL:=by
      have hf:=U.zG5 c r;rw[yK h2,<-h1]at hf;exact List.mem_of_find?_eq_some hf
     exact zOF _ hm
   ·exact ih.sign x hx hk
structure TX (L0 L:List zl):Prop where
 tl:TL L0 L
 tw:TW L0
def ps(L0 L:List zl)(b:Bool):TP:=⟨L0,((L0.length -L.length:Nat):Int),b⟩
theorem TX.len{L0 L:List zl}(h:TX L0 L):L.length<=L0.length:=h.tl.suf.length_le
theorem TX.cons{L0 L:List zl}(h:TX L0 L): ∃x r,L=x::r:=h.tl.ok.cons
theorem TX.tail{L0 L:List zl}(h:TX L0 L)(hk:zak (L.map tk)≠0):TX L0 L.tail:=⟨h.tl.tail hk,h.tw⟩
theorem TX.at_{L0:List zl}{x:zl}{r:List zl}(h:TX L0 (x::r)):zas L0 ((L0.length - (x::r).length:Nat):Int)=some x:=by
 rw[ziq];have:=List.suffix_iff_eq_drop.1 h.tl.suf;have:=congrArg List.head? this;rw[List.head?_drop]at this;exact this.symm
section
variable {L0 L:List zl} {b:Bool}
theorem zdl{x:zl}{r:List zl}(ok:TX L0 (x::r)):zaf (ps L0 (x::r) b)=some (x,ps L0 (x::r) b,()):=by
 unfold zaf;have e:(ps L0 (x::r) b).at_=((L0.length - (x::r).length:Nat):Int):=rfl;have e2:(ps L0 (x::r) b).t=L0:=rfl;rw[e,e2,ok.at_];simp only[qz1,zC,zH]
theorem ze4{x:zl}{r:List zl}(ok:TX L0 (x::r))(n:Nat):(x.Kind==(n:Int))=(zak ((x::r).map tk)==n):=
 zoX (ok.tl.ok.kinds x qz7).1 n
def zuI(s:Str):Bool:=match s with|c::_=> !zeA c| []=>false
def zD4(s:Str):Bool:=match s with|c::_=>zeA c| []=>false
theorem zKa{x:zl}{r:List zl}(ok:TX L0 (x::r)){s:Str}(hs:zuI s=true):((x.Kind==5)&&(x.Text==s))=tIs s ((x::r).map tk):=by
 have k5:=ze4 ok 5;have k2:=ze4 ok 2;rw[show((5:Nat):Int)=5 from rfl]at k5;rw[show((2:Nat):Int)=2 from rfl]at k2;show _=(((zak ((x::r).map tk)==5)||(zak ((x::r).map tk)==2))&&(x.Text==s))
 rw[<-k5,<-k2];cases h5:x.Kind==5 with
 |true=>simp
 |false=>
  cases h2:x.Kind==2 with
  |false=>simp
  |true=>
   have hw:=ok.tw.word x (ok.tl.suf.subset qz7) (eq_of_beq h2)
   have:(x.Text==s)=false:=by
    rw[yH];intro e;cases s with
    |nil=>cases hs
    |cons c s=>
     have:=hw.2 c (by rw[e];exact qz7)
     simp[zuI,this]at hs
   simp[this]
theorem zus{x:zl}{r:List zl}(ok:TX L0 (x::r)){s:Str}(hs:zD4 s=true):((x.Kind==2)&&(x.Text==s))=tIs s ((x::r).map tk):=by
 have k5:=ze4 ok 5;have k2:=ze4 ok 2;rw[show((5:Nat):Int)=5 from rfl]at k5;rw[show((2:Nat):Int)=2 from rfl]at k2;show _=(((zak ((x::r).map tk)==5)||(zak ((x::r).map tk)==2))&&(x.Text==s))
 rw[<-k5,<-k2];cases h2:x.Kind==2 with
 |true=>simp
 |false=>
  cases h5:x.Kind==5 with
  |false=>simp
  |true=>
   have hw:=ok.tw.sign x (ok.tl.suf.subset qz7) (eq_of_beq h5)
   have:(x.Text==s)=false:=by
    rw[yH];intro e;cases s with
    |nil=>cases hs
    |cons c s=>
     have:=hw c (by rw[e];exact qz7)
     simp[zD4,this]at hs
   simp[this]
theorem sign_eq(ok:TX L0 L){s:Str}(hs:zuI s=true):zL s (ps L0 L false)=some (tIs s (L.map tk),ps L0 L false,()):=by
 obtain⟨x,r,rfl⟩:=ok.cons;rw[<-zKa ok hs];unfold zL;have e:(ps L0 (x::r) false).bad=false:=rfl;simp only[e,yN,yB,zH,zdl ok,qz1];cases x.Kind==5<;>simp
theorem zd6(ok:TX L0 L){s:Str}(hs:zD4 s=true):zae s (ps L0 L false)=some (tIs s (L.map tk),ps L0 L false,()):=by
 obtain⟨x,r,rfl⟩:=ok.cons;rw[<-zus ok hs];unfold zae;have e:(ps L0 (x::r) false).bad=false:=rfl;simp only[e,yN,yB,zH,zdl ok,qz1];cases x.Kind==2<;>simp
theorem zab(s:Str):zL s (ps L0 L true)=some (false,ps L0 L true,()):=by
 unfold zL;rw[zH];rfl
theorem zah(s:Str):zae s (ps L0 L true)=some (false,ps L0 L true,()):=by
 unfold zae;rw[zH];rfl
theorem zX:zaU (ps L0 L b)=some (ps L0 L true,()):=rfl
theorem zB5{x:zl}{r:List zl}(ok:TX L0 (x::r))(hl:L0.length<=10000000000)(hk:x.Kind≠0):zB (ps L0 (x::r) false)=some (x,ps L0 r false,()):=by
 unfold zB;have e:(x.Kind !=0)=true:=by rw[bne_iff_ne];exact hk
 have e2:(ps L0 (x::r) false).bad=false:=rfl;have hlen:=ok.len;simp only[qz3]at hlen
 have w:IntKind.wrap .i64 (((L0.length - (x::r).length:Nat):Int)+1)=((L0.length -r.length:Nat):Int):=by
  simp only[qz3];rw[wrap_i64 (by omega) (by omega)];omega
 simp only[zH,zdl ok,qz1,e,e2,yN,Bool.and_self,yB,zC];show some (x,(⟨L0,IntKind.wrap .i64 (((L0.length - (x::r).length:Nat):Int)+1),false⟩:TP),())=_;rw[w];rfl
theorem zNL{x:zl}{r:List zl}(ok:TX L0 (x::r)):zB (ps L0 (x::r) true)=some (x,ps L0 (x::r) true,()):=by
 unfold zB;have e2:(ps L0 (x::r) true).bad=true:=rfl;simp only[zH,zdl ok,qz1,e2,yO,Bool.false_and,qz2,yA,zC]
theorem zwv(ok:TX L0 L)(hl:L0.length<=10000000000)(hk:zak (L.map tk)≠0): ∃x,x.Text=tText (L.map tk)/\L=x::L.tail/\zB (ps L0 L false)=some (x,ps L0 L.tail false,()):=by
 obtain⟨x,r,rfl⟩:=ok.cons;refine⟨x,rfl,rfl,zB5 ok hl λe=>hk ?_⟩;show(tk x).kind=0;unfold tk;rw[e];rfl
theorem zai(s:Str):zO s (ps L0 L true)=some (ps L0 L true,()):=by
 unfold zO;simp only[zH,zab,qz1,qz2,yA,zX]
theorem zJ(s:Str):zbZ s (ps L0 L true)=some (ps L0 L true,()):=by
 unfold zbZ;simp only[zH,zah,qz1,qz2,yA,zX]
theorem zK:zbb (ps L0 L true)=some ([],ps L0 L true,()):=by
 unfold zbb;simp only[zH,show(ps L0 L true).bad=true from rfl,yB,zX,qz1]
theorem zW:zc4 (ps L0 L true)=some (false,ps L0 L true,()):=by
 unfold zc4;simp only[zH,show(ps L0 L true).bad=true from rfl,yO,qz2,yA]
theorem zaq:zaB (ps L0 L true)=some (ps L0 L true,()):=by
 unfold zaB;simp only[zH,zab,qz1,qz2,yA,zW,yN,yB,zX]
theorem zHb(ok:TX L0 L)(hl:L0.length<=10000000000){s:Str}(hs:zuI s=true):zO s (ps L0 L false)=some (if tIs s (L.map tk)=true then ps L0 L.tail false else ps L0 L true,()):=by
 unfold zO;simp only[zH,sign_eq ok hs,qz1];cases h:tIs s (L.map tk)with
 |true=>
  obtain⟨x,_,_,e⟩:=zwv ok hl (zam h);simp only[yB,e,qz1]
 |false=>simp only[qz2,yA,zX,qz1]
theorem zHp(ok:TX L0 L)(hl:L0.length<=10000000000){s:Str}(hs:zD4 s=true):zbZ s (ps L0 L false)=some (if tIs s (L.map tk)=true then ps L0 L.tail false else ps L0 L true,()):=by
 unfold zbZ;simp only[zH,zd6 ok hs,qz1];cases h:tIs s (L.map tk)with
 |true=>
  obtain⟨x,_,_,e⟩:=zwv ok hl (zam h);simp only[yB,e,qz1]
 |false=>simp only[qz2,yA,zX,qz1]
theorem zmb(ok:TX L0 L)(hl:L0.length<=10000000000):zbb (ps L0 L false)=some (if(zak (L.map tk)==1)=true then(tText (L.map tk),ps L0 L.tail false,())else([],ps L0 L true,())):=by
 obtain⟨x,r,rfl⟩:=ok.cons;unfold zbb;have k1:=ze4 ok 1;rw[show((1:Nat):Int)=1 from rfl]at k1;simp only[zH,show(ps L0 (x::r) false).bad=false from rfl,qz2,yA,zdl ok,qz1,bne,k1];cases h:zak ((x::r).map tk)==1 with
 |true=>
  have hk:x.Kind≠0:=by
   intro e;have:(x.Kind==1)=true:=by rw[k1];exact h
   rw[e]at this;cases this
  simp only[yO,qz2,yA,yB,zB5 ok hl hk,qz1];rfl
 |false=>simp only[yN,yB,zX,qz1,qz2,yA]
theorem zEN(ok:TX L0 L):zc4 (ps L0 L false)=some (zj2 (L.map tk),ps L0 L false,()):=by
 obtain⟨x,r,rfl⟩:=ok.cons;unfold zc4 zj2;have k0:=ze4 ok 0;rw[show((0:Nat):Int)=0 from rfl]at k0;simp only[zH,show(ps L0 (x::r) false).bad=false from rfl,yN,yB,sign_eq ok (s:=[125]) (by decide),qz1,zdl ok,k0];have hf:x.Fresh=zgm ((x::r).map tk):=rfl;cases tIs [125] ((x::r).map tk)<;>cases zak ((x::r).map tk)==0<;>simp[hf]
theorem zOe(ok:TX L0 L)(hl:L0.length<=10000000000):zaB (ps L0 L false)=some (if tIs [59] (L.map tk)=true then ps L0 L.tail false else if zj2 (L.map tk)=true then ps L0 L false else ps L0 L true,()):=by
 unfold zaB;simp only[zH,sign_eq ok (s:=[59]) (by decide),qz1];cases h:tIs [59] (L.map tk)with
 |true=>
  obtain⟨x,_,_,e⟩:=zwv ok hl (zam h);simp only[yB,e,qz1]
 |false=>
  simp only[qz2,yA,zEN ok,qz1];cases zj2 (L.map tk)<;>simp[zX]
theorem zao:(ps L0 L b).bad=b:=rfl
theorem zT6:(ps L0 L b).t=L0:=rfl
theorem zTJ:(ps L0 L b).at_=((L0.length -L.length:Nat):Int):=rfl
def Bd{α:Type}(L0:List zl)(G:α->Prop)(L:List zl)(m:Option (α×TP×Unit)):Prop:=∃v,m=some (v,ps L0 L true,())/\G v
def DR{α α':Type}(L0:List zl)(G:α->Prop)(O:α'->α->Prop)(m:Option (α×TP×Unit))(q:PR α'):Prop:=
 match q with
 |none=>True
 |some (.inl k)=>∃L',L'.length=k/\TX L0 L'/\Bd L0 G L' m
 |some (.inr p)=>∃v L',m=some (v,ps L0 L' false,())/\L'.map tk=p.2/\TX L0 L'/\O p.1 v
abbrev Tt{α:Type}(_:α):Prop:=True
abbrev Ee{α:Type}(x y:α):Prop:=x=y
end
section
variable {α α' β β' γ:Type} {L0 L:List zl} {G:α->Prop} {O:α'->α->Prop} {G':β->Prop} {O':β'->β->Prop} {m:Option (α×TP×Unit)} {q:PR α'}
theorem Bd.bd{f:α×TP×Unit->Option (β×TP×Unit)}(h:Bd L0 G L m)(k: ∀v,G v->Bd L0 G' L (f (v,ps L0 L true,()))):Bd L0 G' L (m.bind f):=by
 obtain⟨v,rfl,hv⟩:=h;exact k v hv
theorem Bd.ok{v:α}(h:G v):Bd L0 G L (some (v,ps L0 L true,())):=⟨v,rfl,h⟩
theorem Bd.nx{f:zl×TP×Unit->Option (β×TP×Unit)}(ok:TX L0 L)(k: ∀x,Bd L0 G' L (f (x,ps L0 L true,()))):Bd L0 G' L ((zaf (ps L0 L true)).bind f):=by
 obtain⟨x,r,rfl⟩:=ok.cons;rw[zdl ok];exact k x
theorem Bd.tak{f:zl×TP×Unit->Option (β×TP×Unit)}(ok:TX L0 L)(k: ∀x,Bd L0 G' L (f (x,ps L0 L true,()))):Bd L0 G' L ((zB (ps L0 L true)).bind f):=by
 obtain⟨x,r,rfl⟩:=ok.cons;rw[zNL ok];exact k x
theorem Bd.room{k:Nat}{f:Unit->Option (β×TP×Unit)}(hk:k<=274877906944)(h:Bd L0 G' L (f ())):Bd L0 G' L ((room k).bind f):=by
 rw[zcQ hk];exact h
theorem Bd.assoc{δ:Type}{m:Option γ}{f:γ->Option δ}{k:δ->Option (β×TP×Unit)}(h:Bd L0 G' L (m.bind λr=>(f r).bind k)):Bd L0 G' L ((m.bind f).bind k):=by
 cases m<;>exact h
theorem DR.assoc{δ:Type}{m:Option γ}{f:γ->Option δ}{k:δ->Option (β×TP×Unit)}{q:PR β'}(h:DR L0 G' O' (m.bind λr=>(f r).bind k) q):DR L0 G' O' ((m.bind f).bind k) q:=by
 cases m<;>exact h
theorem DR.gt{v:α}{v':α'}(ok:TX L0 L)(h:O v' v):DR L0 G O (some (v,ps L0 L false,())) (Go.D08.gt (v',L.map tk)):=⟨v,L,rfl,rfl,ok,h⟩
theorem DR.gt'{v:α}{v':α'}{t:zal}(ok:TX L0 L)(ht:L.map tk=t)(h:O v' v):DR L0 G O (some (v,ps L0 L false,())) (Go.D08.gt (v',t)):=⟨v,L,rfl,ht,ok,h⟩
theorem DR.bad(ok:TX L0 L)(h:Bd L0 G L m):DR L0 G O m (Go.D08.bad (L.map tk)):=⟨L,by simp,ok,h⟩
theorem DR.bd{f:α×TP×Unit->Option (β×TP×Unit)}{g:α'×zal->PR β'}(h:DR L0 G O m q)(hb: ∀v L',TX L0 L'->G v->Bd L0 G' L' (f (v,ps L0 L' true,())))
  (ho: ∀v' v L',TX L0 L'->q=Go.D08.gt (v',L'.map tk)->O v' v->DR L0 G' O' (f (v,ps L0 L' false,())) (g (v',L'.map tk))):DR L0 G' O' (m.bind f) (q.bd g):=by
 cases q with
 |none=>trivial
 |some p=>
  cases p with
  |inl k=>
   obtain⟨L',hk,ok,v,rfl,hv⟩:=h;exact⟨L',hk,ok,hb v L' ok hv⟩
  |inr p=>
   obtain⟨v,L',rfl,hL,ok,hv⟩:=h;obtain⟨v',t⟩:=p;subst hL;exact ho v' v L' ok rfl hv
theorem DR.e{f:α×TP×Unit->Option (β×TP×Unit)}{q:PR α}{g:α×zal->PR β'}(h:DR L0 G Ee m q)(hb: ∀v L',TX L0 L'->G v->Bd L0 G' L' (f (v,ps L0 L' true,())))
  (ho: ∀v L',TX L0 L'->q=Go.D08.gt (v,L'.map tk)->DR L0 G' O' (f (v,ps L0 L' false,())) (g (v,L'.map tk))):DR L0 G' O' (m.bind f) (q.bd g):=
 h.bd hb λv' v L' ok hq e=>by cases e;exact ho v' L' ok hq
theorem DR.same{f:α×TP×Unit->Option (β×TP×Unit)}{O':α'->β->Prop}(h:DR L0 G O m q)(hb: ∀v L',TX L0 L'->G v->Bd L0 G' L' (f (v,ps L0 L' true,())))
  (ho: ∀v' v L',TX L0 L'->O v' v->∃w,f (v,ps L0 L' false,())=some (w,ps L0 L' false,())/\O' v' w):DR L0 G' O' (m.bind f) q:=by
 cases q with
 |none=>trivial
 |some p=>
  cases p with
  |inl k=>
   obtain⟨L',hk,ok,v,rfl,hv⟩:=h;exact⟨L',hk,ok,hb v L' ok hv⟩
  |inr p=>
   obtain⟨v,L',rfl,hL,ok,hv⟩:=h;obtain⟨w,e,hw⟩:=ho p.1 v L' ok hv;exact⟨w,L',e,hL,ok,hw⟩
theorem DR.up{G2:α->Prop}{O2:β'->α->Prop}{φ:α'->β'}(h:DR L0 G O m q)(hg: ∀v,G v->G2 v)(ho: ∀v' v,O v' v->O2 (φ v') v):DR L0 G2 O2 m (q.bd λp=>Go.D08.gt (φ p.1,p.2)):=by
 cases q with
 |none=>trivial
 |some p=>
  cases p with
  |inl k=>
   obtain⟨L',hk,ok,v,e,hv⟩:=h;exact⟨L',hk,ok,v,e,hg _ hv⟩
  |inr p=>
   obtain⟨v,L',e,hL,ok,hv⟩:=h;exact⟨v,L',e,hL,ok,ho _ _ hv⟩
theorem DR.is{c:Bool}{M:Option (Bool×TP×Unit)}{f:Bool×TP×Unit->Option (β×TP×Unit)}{qa qb:PR β'}(e:M=some (c,ps L0 L false,()))(hy:c=true->DR L0 G' O' (f (true,ps L0 L false,())) qa)
  (hn:c=false->DR L0 G' O' (f (false,ps L0 L false,())) qb):DR L0 G' O' (M.bind f) (if c=true then qa else qb):=by
 rw[e,qz1];cases c with
 |true=>exact hy rfl
 |false=>exact hn rfl
theorem DR.tak{f:zl×TP×Unit->Option (β×TP×Unit)}{q:PR β'}(ok:TX L0 L)(hl:L0.length<=10000000000)(hk:zak (L.map tk)≠0)
  (h: ∀x,x.Text=tText (L.map tk)->L=x::L.tail->TX L0 L.tail->DR L0 G' O' (f (x,ps L0 L.tail false,())) q):DR L0 G' O' ((zB (ps L0 L false)).bind f) q:=by
 obtain⟨x,h1,h2,e⟩:=zwv ok hl hk;rw[e,qz1];exact h x h1 h2 (ok.tail hk)
theorem DR.room{k:Nat}{f:Unit->Option (β×TP×Unit)}{q:PR β'}(hk:k<=274877906944)(h:DR L0 G' O' (f ()) q):DR L0 G' O' ((room k).bind f) q:=by
 rw[zcQ hk];exact h
theorem DR.need{s:Str}{f:TP×Unit->Option (β×TP×Unit)}{g:zal->PR β'}(ok:TX L0 L)(hl:L0.length<=10000000000)(hs:zuI s=true)(hb:Bd L0 G' L (f (ps L0 L true,())))
  (ho: ∀L',TX L0 L'->L'.length<L.length->DR L0 G' O' (f (ps L0 L' false,())) (g (L'.map tk))):DR L0 G' O' ((zO s (ps L0 L false)).bind f) ((zbi s (L.map tk)).bn g):=by
 rw[zHb ok hl hs,qz1];unfold zbi;cases h:tIs s (L.map tk)with
 |true=>
  simp only[yB];rw[<-yM];exact ho _ (ok.tail (zam h)) (by obtain⟨x,r,rfl⟩:=ok.cons;simp)
 |false=>
  simp only[qz2,yA];exact .bad ok hb
theorem DR.zPq{s:Str}{f:TP×Unit->Option (β×TP×Unit)}{g:zal->PR β'}(ok:TX L0 L)(hl:L0.length<=10000000000)(hs:zD4 s=true)(hb:Bd L0 G' L (f (ps L0 L true,())))
  (ho: ∀L',TX L0 L'->L'.length<L.length->DR L0 G' O' (f (ps L0 L' false,())) (g (L'.map tk))):DR L0 G' O' ((zbZ s (ps L0 L false)).bind f) ((zbi s (L.map tk)).bn g):=by
 rw[zHp ok hl hs,qz1];unfold zbi;cases h:tIs s (L.map tk)with
 |true=>
  simp only[yB];rw[<-yM];exact ho _ (ok.tail (zam h)) (by obtain⟨x,r,rfl⟩:=ok.cons;simp)
 |false=>
  simp only[qz2,yA];exact .bad ok hb
theorem DR.name{f:Str×TP×Unit->Option (β×TP×Unit)}{qa:PR β'}(ok:TX L0 L)(hl:L0.length<=10000000000)(hb:Bd L0 G' L (f ([],ps L0 L true,())))
  (ho:(zak (L.map tk)==1)=true->TX L0 L.tail->DR L0 G' O' (f (tText (L.map tk),ps L0 L.tail false,())) qa):DR L0 G' O' ((zbb (ps L0 L false)).bind f) (if(zak (L.map tk)==1)=true then qa else Go.D08.bad (L.map tk)):=by
 rw[zmb ok hl,qz1];cases h:zak (L.map tk)==1 with
 |true=>simp only[yB];exact ho h (ok.tail (zbu h (by decide)))
 |false=>simp only[qz2,yA];exact .bad ok hb
theorem DR.end{f:TP×Unit->Option (β×TP×Unit)}{g:zal->PR β'}(ok:TX L0 L)(hl:L0.length<=10000000000)(hb:Bd L0 G' L (f (ps L0 L true,())))
  (ho: ∀L',TX L0 L'->DR L0 G' O' (f (ps L0 L' false,())) (g (L'.map tk))):DR L0 G' O' ((zaB (ps L0 L false)).bind f) ((zjl (L.map tk)).bn g):=by
 rw[zOe ok hl,qz1];unfold zjl;cases h:tIs [59] (L.map tk)with
 |true=>
  simp only[yB];rw[<-yM];exact ho _ (ok.tail (zam h))
 |false=>
  simp only[qz2,yA];cases hs:zj2 (L.map tk)with
  |true=>simp only[yB];exact ho _ ok
  |false=>simp only[qz2,yA];exact .bad ok hb
theorem DR.le{q':PR α'}(h:DR L0 G O m q')(hl:Le q q'):DR L0 G O m q:=by
 cases q with
 |none=>trivial
 |some p=>rw[hl p rfl]at h;exact h
theorem DR.loop{S:Type}{step:S->Option (S⊕(α×TP×Unit))}{k:Nat}{s:S}(h:DR L0 G O (zaH step k s) q)(hk:k<=1000000000000):DR L0 G O (Lp.loop step s) q:=by
 cases q with
 |none=>trivial
 |some p=>
  cases p with
  |inl j=>
   obtain⟨L',h1,h2,v,e,hv⟩:=h;exact⟨L',h1,h2,v,zck e hk,hv⟩
  |inr p=>
   obtain⟨v,L',e,h⟩:=h;exact⟨v,L',zck e hk,h⟩
theorem Bd.loop{S:Type}{step:S->Option (S⊕(α×TP×Unit))}{k:Nat}{s:S}(h:Bd L0 G L (zaH step k s))(hk:k<=1000000000000):Bd L0 G L (Lp.loop step s):=by
 obtain⟨v,e,hv⟩:=h;exact⟨v,zck e hk,hv⟩
theorem Bd.out{S:Type}{step:S->Option (S⊕(α×TP×Unit))}{k:Nat}{s:S}{v:α}(h:step s=some (.inr (v,ps L0 L true,())))(hv:G v):Bd L0 G L (zaH step (k+1) s):=⟨v,zaG h,hv⟩
theorem Bd.zvd{S:Type}{step:S->Option (S⊕(α×TP×Unit))}{s:S}{v:α}(h:step s=some (.inr (v,ps L0 L true,())))(hv:G v):Bd L0 G L (Lp.loop step s):=Bd.loop (k:=1) (.out h hv) (by decide)
end
abbrev DN(L0:List zl):=DR L0 (Tt:Node->Prop) (Ee:Node->Node->Prop)
abbrev DL(L0:List zl):=DR L0 (λl:List Node=>l.length<=20000000000) (Ee:List Node->List Node->Prop)
noncomputable abbrev RS:=zA
theorem zT(k:Int)(s:Str)(l:List Node):zaK k s l=some (ndN k s l,()):=rfl
def zKE(s:Str):Int:=if eqL.contains s=true then 5 else if(ltL.contains s||s==([105,110]:Str))=true then 6 else if zrK.contains s=true then 7 else 8
theorem zgy{l:List Str}{s:Str}(h: ∀w∈l,s≠w):l.contains s=false:=by
 rw[<-Bool.not_eq_true,List.contains_iff_mem];exact λhm=>h s hm rfl
theorem zOx(s:Str):zaF (ndN 17 s [])=some (zKE s,()):=by
 show zeZ (zdR 999999999999) (ndN 17 s [])=_;by_cases h1:s=[61,61]
 ·subst h1;rfl
 by_cases h2:s=[33,61]
 ·subst h2;rfl
 by_cases h3:s=[61,61,61]
 ·subst h3;rfl
 by_cases h4:s=[33,61,61]
 ·subst h4;rfl
 by_cases h5:s=[60]
 ·subst h5;rfl
 by_cases h6:s=[62]
 ·subst h6;rfl
 by_cases h7:s=[60,61]
 ·subst h7;rfl
 by_cases h8:s=[62,61]
 ·subst h8;rfl
 by_cases h9:s=[105,110]
 ·subst h9;rfl
 by_cases h10:s=[105,110,115,116,97,110,99,101,111,102]
 ·subst h10;rfl
 by_cases h11:s=[43]
 ·subst h11;rfl
 by_cases h12:s=[45]
 ·subst h12;rfl
 have n: ∀{w:Str},s≠w->(s==w)=false:=λh=>yH.2 h
 have e1:eqL.contains s=false:=zgy (by simp[eqL,h1,h2,h3,h4]);have e2:ltL.contains s=false:=zgy (by simp[ltL,h5,h6,h7,h8,h10]);have e3:zrK.contains s=false:=zgy (by simp[zrK,h11,h12]);unfold zeZ zKE;simp only[ndN,show((17:Int)==21)=false from rfl,show((17:Int)==20)=false from rfl,show((17:Int)==19)=false from rfl,show((17:Int)==18)=false from rfl,show((17:Int)==17)=true from rfl,qz2,yA,yB,e1,e2,e3,Bool.or_false,n h1,n h2,n h3,n h4,n h5,n h6,n h7,n h8,n h9,n h10,n h11,n h12]
theorem zOi(s:Str):zaF (ndN 18 s [])=some (if(s==([124,124]:Str))=true then 3 else 4,()):=by
 show zeZ (zdR 999999999999) (ndN 18 s [])=_;by_cases h1:s=[124,124]
 ·subst h1;rfl
 have n:(s==([124,124]:Str))=false:=yH.2 h1;unfold zeZ;simp only[ndN,show((18:Int)==21)=false from rfl,show((18:Int)==20)=false from rfl,show((18:Int)==19)=false from rfl,show((18:Int)==18)=true from rfl,qz2,yA,yB,n]
section
variable {L0 L:List zl} {b:Bool}
theorem zwX(x:zl):zcJ (ps L0 L b) 0 [] 0 [] x [] []=
  some (if(lvS false x.Text).1=0 then(ndN 0 [] [],0,false,ps L0 L b,())else(ndN (lvS false x.Text).2 x.Text [],(lvS false x.Text).1,true,ps L0 L b,())):=by
 unfold zcJ;rw[zH,zC];generalize hs:x.Text=s;unfold zf7 zf8 zf6 zf4 zgb zf2 zgc zf3 zfE;unfold zfG zfO zfK zfJ zfP zfQ zfM zfL;simp only[zH,zC,zt,hs,zT,qz1,zOx,zOi];by_cases h1:s=[38,38]
 ·subst h1;rfl
 by_cases h2:s=[124,124]
 ·subst h2;rfl
 by_cases h3:s=[61,61]
 ·subst h3;rfl
 by_cases h4:s=[33,61]
 ·subst h4;rfl
 by_cases h5:s=[61,61,61]
 ·subst h5;rfl
 by_cases h6:s=[33,61,61]
 ·subst h6;rfl
 by_cases h7:s=[60]
 ·subst h7;rfl
 by_cases h8:s=[62]
 ·subst h8;rfl
 by_cases h9:s=[60,61]
 ·subst h9;rfl
 by_cases h10:s=[62,61]
 ·subst h10;rfl
 by_cases h11:s=[105,110]
 ·subst h11;rfl
 by_cases h12:s=[105,110,115,116,97,110,99,101,111,102]
 ·subst h12;rfl
 by_cases h13:s=[43]
 ·subst h13;rfl
 by_cases h14:s=[45]
 ·subst h14;rfl
 by_cases h15:s=[42]
 ·subst h15;rfl
 by_cases h16:s=[47]
 ·subst h16;rfl
 by_cases h17:s=[37]
 ·subst h17;rfl
 have n: ∀{w:Str},s≠w->(s==w)=false:=λh=>yH.2 h
 have e1:eqL.contains s=false:=zgy (by simp[eqL,h3,h4,h5,h6]);have e2:ltL.contains s=false:=zgy (by simp[ltL,h7,h8,h9,h10,h12]);have e3:zrK.contains s=false:=zgy (by simp[zrK,h13,h14]);have e4:mulL.contains s=false:=zgy (by simp[mulL,h15,h16,h17])
 have e:lvS false s=(0,0):=by
  unfold lvS;simp only[n h1,n h2,n h11,e1,e2,e3,e4,Bool.and_false,Bool.or_false,qz2,yA]
 rw[e];simp only[n h1,n h2,n h3,n h4,n h5,n h6,n h7,n h8,n h9,n h10,n h11,n h12,n h13,n h14,n h15,n h16,n h17,qz2,yA,yB];rfl
theorem zJb(ok:TX L0 L)(no:Bool):zda no (ps L0 L true)=some (ndN 0 [] [],0,false,ps L0 L true,()):=by
 obtain⟨x,r,rfl⟩:=ok.cons;unfold zda;simp only[zH,zdl ok,qz1,zao,yB];rfl
theorem zJt(ok:TX L0 L)(no:Bool): ∃x k f,zda no (ps L0 L false)=some (x,k,f,ps L0 L false,())/\
  (if(zdB no (L.map tk)).1=0 then f=false else f=true/\k=(zdB no (L.map tk)).1/\x=ndN (zdB no (L.map tk)).2 (tText (L.map tk)) []):=by
 obtain⟨x,r,rfl⟩:=ok.cons;have k5:=ze4 ok 5;have k2:=ze4 ok 2;rw[show((5:Nat):Int)=5 from rfl]at k5;rw[show((2:Nat):Int)=2 from rfl]at k2;have hb:zdB no ((x::r).map tk)=if((x.Kind==5)||(x.Kind==2))=true then lvS no x.Text else(0,0):=by rw[k5,k2];rfl
 have ht:tText ((x::r).map tk)=x.Text:=rfl;unfold zda;simp only[zH,zC,zdl ok,qz1,zao,qz2,yA,bne,zwX,hb,ht]
 have fin: ∀p:Int×Int,lvS no x.Text=p->lvS false x.Text=p->∃y k f,some (if(lvS false x.Text).1=0 then(ndN 0 [] [],(0:Int),false,ps L0 (x::r) false,())else(ndN (lvS false x.Text).2 x.Text [],(lvS false x.Text).1,true,ps L0 (x::r) false,()))=some (y,k,f,ps L0 (x::r) false,())/\
   (if(lvS no x.Text).1=0 then f=false else f=true/\k=(lvS no x.Text).1/\y=ndN (lvS no x.Text).2 x.Text []):=by
  intro p e1 e2;rw[e1,e2];by_cases h:p.1=0
  ·simp only[yL h];exact⟨_,_,_,rfl,rfl⟩
  ·simp only[yK h];exact⟨_,_,_,rfl,rfl,rfl,rfl⟩
 cases h5:x.Kind==5 with
 |true=>
  simp only[yO,qz2,yA,Bool.true_or,yB]
  have hne:(x.Text==([105,110]:Str))=false:=by
   have:=ok.tw.sign x (ok.tl.suf.subset qz7) (eq_of_beq h5);rw[yH];intro e;exact absurd (this 105 (by rw[e];exact qz7)) (by decide)
  exact fin _ rfl (by unfold lvS;simp only[hne,Bool.and_false])
 |false=>
  simp only[yN,yB,Bool.false_or];rw[zd6 ok (s:=[105,110,115,116,97,110,99,101,111,102]) rfl];rw[<-zus ok (s:=[105,110,115,116,97,110,99,101,111,102]) rfl];simp only[qz1];cases h2:x.Kind==2 with
  |false=>
   simp only[Bool.false_and,yN,yB,zd6 ok (s:=[105,110]) rfl,qz1,qz2,yA];rw[<-zus ok (s:=[105,110]) rfl,h2];simp only[Bool.false_and,yN,Bool.true_or,yB];exact⟨_,_,_,rfl,rfl⟩
  |true=>
   simp only[Bool.true_and,yB];have hw:=ok.tw.word x (ok.tl.suf.subset qz7) (eq_of_beq h2);cases hi:x.Text==([105,110,115,116,97,110,99,101,111,102]:Str)with
   |true=>
    have:=eq_of_beq hi;simp only[yO,qz2,yA];rw[zwX];exact fin (6,17) (by rw[this];clear fin;cases no<;>rfl) (by rw[this];rfl)
   |false=>
    simp only[yN,yB,zd6 ok (s:=[105,110]) rfl,qz1];rw[<-zus ok (s:=[105,110]) rfl,h2,Bool.true_and]
    have other:x.Text≠[105,110]->∀m,lvS m x.Text=(0,0):=λh3 m=>by
     have n: ∀{w:Str},(∃c∈w,zeA c=false)->x.Text≠w:=by
      rintro w ⟨c,hc,hl⟩ e;have:=hw.2 c (by rw[e];exact hc)
      rw[this]at hl;cases hl
     have nb: ∀{w:Str},(∃c∈w,zeA c=false)->(x.Text==w)=false:=λh=>yH.2 (n h)
     have e1:eqL.contains x.Text=false:=zgy λw hw=>n (by revert w;decide)
     have e2:ltL.contains x.Text=false:=by
      simp only[ltL,List.contains,List.elem,hi,nb (w:=[60]) (by decide),nb (w:=[62]) (by decide),nb (w:=[60,61]) (by decide),nb (w:=[62,61]) (by decide)]
     have e3:zrK.contains x.Text=false:=zgy λw hw=>n (by revert w;decide)
     have e4:mulL.contains x.Text=false:=zgy λw hw=>n (by revert w;decide)
     unfold lvS;simp only[nb (w:=[124,124]) (by decide),nb (w:=[38,38]) (by decide),e1,e2,e3,e4,yH.2 h3,Bool.and_false,Bool.or_false,qz2,yA]
    cases hin:x.Text==([105,110]:Str)with
    |false=>
     simp only[yN,Bool.true_or,yB,other (by simpa using hin) no];exact⟨_,_,_,rfl,rfl⟩
    |true=>
     have:=eq_of_beq hin;cases no with
     |true=>
      simp only[yO,Bool.or_true,yB,this];exact⟨_,_,_,rfl,rfl⟩
     |false=>
      simp only[yO,Bool.or_false,qz2,yA];rw[zwX];exact fin (6,17) (by rw[this];rfl) (by rw[this];rfl)
end
theorem zHY(s:Str)(hs:s.length<=100000000)(h128: ∀b∈s,b<128): ∀(b a:Str),s=a++b->
  zaH zeE (b.length+1) (s,((a.length:Nat):Int),U.zeV (a.map UInt8.toNat),())=some (U.zdF (s.map UInt8.toNat),0,())
 | [],a,h=>by
  refine zaG ?_;obtain rfl:s=a:=by rw[h];simp
  have hc: ¬(((s.length:Nat):Int)< ((s.length:Nat):Int)):=by omega
  have hm:=U.zAW (s.map UInt8.toNat) (by rw[List.length_map];exact hs) (by
   intro n hn;obtain⟨c,_,rfl⟩:=List.mem_map.1 hn;have:=c.toNat_lt;omega)
  simp only[zeE,hc,decide_false,qz2,yA];rw[hm];rfl
 |c::b,a,h=>by
  have hlen:s.length=a.length+(b.length+1):=by rw[h];simp
  have hc:((a.length:Nat):Int)< ((s.length:Nat):Int):=by omega
  have hb:c<128:=h128 c (by rw[h];simp)
  have hget:s[a.length]? =some c:=by rw[h];simp
  have hb2:c.toNat<128:=hb;have hlt: ¬(((c.toNat:Nat):Int)>127):=by omega
  have w1:IntKind.wrap .i64 ((c.toNat:Nat):Int)=((c.toNat:Nat):Int):=wrap_i64 (by omega) (by omega);have w3:IntKind.wrap .i64 (((a.length:Nat):Int)+1)=((a.length+1:Nat):Int):=by rw[wrap_i64 (by omega) (by omega)];omega
  have hstep:zeE (s,((a.length:Nat):Int),U.zeV (a.map UInt8.toNat),())=some (.inl (s,(((a++[c]).length:Nat):Int),U.zeV ((a++[c]).map UInt8.toNat),())):=by
   have hl:(U.zeV (a.map UInt8.toNat)).length=a.length:=by simp[U.zeV]
   simp only[zeE,hc,decide_true,yB,zix,hget,Option.map_some,qz1,hlt,decide_false,qz2,yA,w1,w3,hl,qz3,qz6];rw[zcQ (by omega)];simp[U.zeV]
  rw[qz3,zca hstep];exact zHY s hs h128 b (a++[c]) (by rw[h];simp)
theorem zMv(s:Str):U.zdF (s.map UInt8.toNat)=wide s:=by
 induction s with
 |nil=>rfl
 |cons c s ih=>
  have h:c.toNat/256=0/\c.toNat%256=c.toNat:=by have:=c.toNat_lt;omega
  have e:U.zdF ((c::s).map UInt8.toNat)=[UInt8.ofNat (c.toNat/256),UInt8.ofNat (c.toNat%256)]++U.zdF (s.map UInt8.toNat):=rfl;rw[e,ih,h.1,h.2,UInt8.ofNat_toNat];rfl
theorem zD7(s:Str)(hs:s.length<=100000000)(h128: ∀b∈s,b<128):zkc s=some (wide s,()):=by
 have h:=zck (zHY s hs h128 s [] rfl) (by omega);unfold zkc zoQ;rw[show Lp.loop zeE (s,0,([]:List Int),())=some (U.zdF (s.map UInt8.toNat),0,())from h,zMv];rfl
theorem zI2: ∀(k F n:Nat),n<10^(k+1)->k<F->k<=17->(zcA F).zb9 (n:Int)=some (Lib.decDigits n,())/\(Lib.decDigits n).length<=k+1:=by
 intro k;induction k with
 |zero=>
  intro F n h hF _;obtain⟨F,rfl⟩: ∃j,F=j+1:=⟨F -1,by omega⟩
  have h:n<10:=by simpa using h
  have e:Lib.decDigits n=[UInt8.ofNat (48+n)]:=by rw[Lib.decDigits,dif_pos h]
  refine⟨?_,by rw[e];simp⟩
  show zex (zcA F) (n:Int)=some (Lib.decDigits n,());unfold zex;have t:Int.tmod (n:Int) 10=((n%10:Nat):Int):=rfl;have w:IntKind.wrap .i64 (48+((n%10:Nat):Int))=((48+n%10:Nat):Int):=by rw[wrap_i64 (by omega) (by omega)];omega
  have w2:IntKind.wrap .u8 ((48+n%10:Nat):Int)=((48+n%10:Nat):Int):=wrap_u8 (by omega) (by omega);have c1: ¬((n:Int)<0):=by omega
  have c2:((n:Int)<10):=by omega
  simp only[t,w,w2,c1,c2,decide_false,decide_true,qz2,yA,yB,zCz (n:=((48+n%10:Nat):Int)) (by omega) (by omega),qz1,Int.toNat_natCast];rw[e,Nat.mod_eq_of_lt h]
 |succ k ih=>
  intro F n h hF hk;by_cases hs:n<10^(k+1)
  ·have:=ih F n hs (by omega) (by omega);exact⟨this.1,by omega⟩
  ·obtain⟨F,rfl⟩: ∃j,F=j+1:=⟨F -1,by omega⟩
   have hp:10^(k+1)>=10:=by
    have:=Nat.pow_le_pow_right (show 0<10 by decide) (show 1<=k+1 by omega);simpa using this
   have hn: ¬n<10:=by omega
   have e:Lib.decDigits n=Lib.decDigits (n/10)++[UInt8.ofNat (48+n%10)]:=by
    conv=>lhs;rw[Lib.decDigits]
    rw[dif_neg hn]
   have hpow:10^(k+1+1)=10^(k+1)*10:=Nat.pow_succ ..;obtain⟨i1,i2⟩:=ih F (n/10) (by omega) (by omega) (by omega);have hb:n<10^19:=Nat.lt_of_lt_of_le h (Nat.pow_le_pow_right (by decide) (by omega));refine⟨?_,by rw[e,qz5];simp only[qz3,qz6];omega⟩
   show zex (zcA F) (n:Int)=some (Lib.decDigits n,());unfold zex;have t:Int.tmod (n:Int) 10=((n%10:Nat):Int):=rfl;have w:IntKind.wrap .i64 (48+((n%10:Nat):Int))=((48+n%10:Nat):Int):=by rw[wrap_i64 (by omega) (by omega)];omega
   have w2:IntKind.wrap .u8 ((48+n%10:Nat):Int)=((48+n%10:Nat):Int):=wrap_u8 (by omega) (by omega);have c1: ¬((n:Int)<0):=by omega
   have c2: ¬((n:Int)<10):=by omega
   have t2:Int.tdiv (n:Int) 10=((n/10:Nat):Int):=rfl;have w3:IntKind.wrap .i64 ((n/10:Nat):Int)=((n/10:Nat):Int):=wrap_i64 (by omega) (by omega);simp only[t,t2,w,w2,w3,c1,c2,decide_false,decide_true,qz2,yA,yB,zCz (n:=((48+n%10:Nat):Int)) (by omega) (by omega),qz1,Int.toNat_natCast,i1];unfold zmy;rw[yL (by simp only[qz3,qz6];omega),e]
   rfl
theorem zHy(n:Int)(h1:0<=n)(h2:n<=9007199254740991):zb9 n=some (Lib.itoa n,()):=by
 have:=(zI2 16 1000000000000 n.toNat (by omega) (by omega) (by omega)).1;rw[zDR n h1,<-this];show(zcA 1000000000000).zb9 n=_;rw[show((n.toNat:Nat):Int)=n by omega]
theorem zA1(g:zcP)(l:List Node)(hg: ∀x∈l,g.zcy x=some ((zd0 x:Int),()))(hb:zj1 l<4611686018427387904)(hl:l.length<4611686018427387904): ∀(r:List Node) (i:Nat) (m:Nat),l.drop i=r->m<4611686018427387904->
  zaH (ze0 g) (r.length+1) ((m:Int),l,((l.length:Nat):Int),(i:Int),())=some (((max m (zj1 r)+1:Nat):Int),())
 | [],i,m,hr,hm=>by
  have hi: ¬((i:Int)< (l.length:Int)):=by
   have:=congrArg List.length hr;simp at this;omega
  refine zaG ?_;simp only[ze0,hi,decide_false,qz2,yA];rw[wrap_i64 (by omega) (by omega)];simp[zj1]
 |x::r,i,m,hr,hm=>by
  obtain⟨h1,h2,h3⟩:=zwu hr;have hi:((i:Int)< (l.length:Int)):=by omega
  have hx:x∈l:=List.mem_of_mem_drop (hr▸qz7);have hd:=zpe hx
  have hstep:ze0 g ((m:Int),l,((l.length:Nat):Int),(i:Int),())=some (.inl (((max m (zd0 x):Nat):Int),l,((l.length:Nat):Int),((i+1:Nat):Int),())):=by
   simp only[ze0,hi,decide_true,yB,h1,qz1,zt,hg x hx];rw[wrap_i64 (by omega) (by omega)];have:(if((zd0 x:Nat):Int)>(m:Int)then((zd0 x:Nat):Int)else(m:Int))=((max m (zd0 x):Nat):Int):=by split<;>omega
   rw[this];rfl
  rw[qz3,zca hstep,zA1 g l hg hb hl r (i+1) _ h2 (by omega),zFs];congr 3;omega
theorem zEQ: ∀(n:Nat) (x:Node),zd0 x<=n->zjw x<=2097152->(zcX n).zcy x=some ((zd0 x:Int),())
 |0,x,h,_=>by have:=zrI x;omega
 |n+1,x,h,hs=>by
  have h1:=zrI x;have h2:=zuJ x;have h3:=zuo x.L;have h4:=zwg x.L;show ziQ (zcX n) x=_;unfold ziQ;refine zck (n:=x.L.length+1) ?_ (by omega);have:=zA1 (zcX n) x.L (λy hy=>zEQ n y (by have:=zpe hy;omega) (by have:=zsm hy;omega)) (by omega) (by omega) x.L 0 0 rfl (by omega)
  rw[h1];simpa using this
theorem zJB(x:Node)(h:zjw x<=2097152):zcy x=some ((zd0 x:Int),()):=
 zEQ _ x (by have:=zwp x;show zd0 x<=1000000000000;omega) h
theorem zG(k:Int):za8 k=some (k,[],0,[],()):=rfl
theorem zF(k:Int)(l:List Node):zaL k l=some (k,[],0,[],l,()):=rfl
theorem zD(k:Int)(l:List Node):zgf k l=some (k,[],0,[],l,()):=rfl
theorem zCM{t:zal}(h:zak t=0)(s:Str):tIs s t=false:=by
 cases e:tIs s t with
 |false=>rfl
 |true=>exact absurd h (zam e)
structure zUl (L0:List zl) (g:zi):Prop where
 stmts: ∀f {L},TX L0 L->g.zaW f (ps L0 L true)=some ([],ps L0 L true,())
 named: ∀{L},TX L0 L->g.zb6 (ps L0 L true)=some (nd 0 [],false,ps L0 L true,())
 stmt: ∀{L},TX L0 L->g.zaO (ps L0 L true)=some (nd 0 [],ps L0 L true,())
 body: ∀{L},TX L0 L->g.zaN (ps L0 L true)=some (nd 25 [nd 0 []],ps L0 L true,())
 assign: ∀no {L},TX L0 L->g.zax no (ps L0 L true)=some (nd 0 [],ps L0 L true,())
 comma: ∀no {L},TX L0 L->g.zac no (ps L0 L true)=some (nd 0 [],ps L0 L true,())
 head: ∀{L},TX L0 L->g.za0 (ps L0 L true)=some (nd 0 [],ps L0 L true,())
 member: ∀x {L},TX L0 L->g.zbm x (ps L0 L true)=some (x,false,ps L0 L true,())
 upTo: ∀s {L},TX L0 L->g.zbL s (ps L0 L true)=some (nd 0 [],ps L0 L true,())
 block: ∀{L},TX L0 L->g.za5 (ps L0 L true)=some (nd 25 [],ps L0 L true,())
section
variable {L0 L:List zl}
theorem zIZ(M:Nat)(f:Bool):(RS (M+1)).zaW f (ps L0 L true)=some ([],ps L0 L true,()):=by
 show zdk (RS M) f (ps L0 L true)=_;unfold zdk;exact zck (n:=1) (zaG (by unfold zb4;simp only[zH,zt,zC,zao,zab,zah,zai,zJ,zK,zW,zaq,zX,zT,zG,zF,zD,qz1,yO,yN,Bool.false_and,Bool.true_and,Bool.and_false,Bool.or_true,Bool.or_false,Bool.false_or,Bool.true_or,qz2,yA,yB,zI])) (by decide)
theorem zJh(M:Nat):(RS (M+1)).zb6 (ps L0 L true)=some (nd 0 [],false,ps L0 L true,()):=by
 show zcg (RS M) (ps L0 L true)=_;unfold zcg;simp only[zH,zt,zC,zao,zab,zah,zai,zJ,zK,zW,zaq,zX,zT,zG,zF,zD,qz1,yO,yN,Bool.false_and,Bool.true_and,Bool.and_false,Bool.or_true,Bool.or_false,Bool.false_or,Bool.true_or,qz2,yA,yB,zI];rfl
theorem zKv(M:Nat):(RS (M+2)).zaO (ps L0 L true)=some (nd 0 [],ps L0 L true,()):=by
 show zcp (RS (M+1)) (ps L0 L true)=_;unfold zcp;simp only[zH,zt,zC,zao,zab,zah,zai,zJ,zK,zW,zaq,zX,zT,zG,zF,zD,qz1,yO,yN,Bool.false_and,Bool.true_and,Bool.and_false,Bool.or_true,Bool.or_false,Bool.false_or,Bool.true_or,qz2,yA,yB,zI,zJh]
theorem zRA(M:Nat):(RS (M+3)).zaN (ps L0 L true)=some (nd 25 [nd 0 []],ps L0 L true,()):=by
 show zdw (RS (M+2)) (ps L0 L true)=_;unfold zdw;simp only[zH,zt,zC,zao,zab,zah,zai,zJ,zK,zW,zaq,zX,zT,zG,zF,zD,qz1,yO,yN,Bool.false_and,Bool.true_and,Bool.and_false,Bool.or_true,Bool.or_false,Bool.false_or,Bool.true_or,qz2,yA,yB,zI,zKv];rfl
theorem zGR(M:Nat)(no:Bool):(RS (M+1)).zax no (ps L0 L true)=some (nd 0 [],ps L0 L true,()):=by
 show zb3 (RS M) no (ps L0 L true)=_;unfold zb3;simp only[zH,zt,zC,zao,zab,zah,zai,zJ,zK,zW,zaq,zX,zT,zG,zF,zD,qz1,yO,yN,Bool.false_and,Bool.true_and,Bool.and_false,Bool.or_true,Bool.or_false,Bool.false_or,Bool.true_or,qz2,yA,yB,zI];rfl
theorem zwz(g:zi)(no:Bool)(x:Node):zb2 g (no,ps L0 L true,0,[],0,[],x,[],[],())=some (.inr (x,ps L0 L true,())):=by
 unfold zb2;simp only[zH,zt,zC,zao,zab,zah,zai,zJ,zK,zW,zaq,zX,zT,zG,zF,zD,qz1,yO,yN,Bool.false_and,Bool.true_and,Bool.and_false,Bool.or_true,Bool.or_false,Bool.false_or,Bool.true_or,qz2,yA,yB,zI]
theorem zEf(M:Nat)(no:Bool):(RS (M+2)).zac no (ps L0 L true)=some (nd 0 [],ps L0 L true,()):=by
 show zce (RS (M+1)) no (ps L0 L true)=_;unfold zce;simp only[zH,zt,zC,zao,zab,zah,zai,zJ,zK,zW,zaq,zX,zT,zG,zF,zD,qz1,yO,yN,Bool.false_and,Bool.true_and,Bool.and_false,Bool.or_true,Bool.or_false,Bool.false_or,Bool.true_or,qz2,yA,yB,zI,zGR];exact zck (n:=1) (zaG (zwz _ _ _)) (by decide)
theorem zQq(M:Nat):(RS (M+3)).za0 (ps L0 L true)=some (nd 0 [],ps L0 L true,()):=by
 show zdy (RS (M+2)) (ps L0 L true)=_;unfold zdy;simp only[zH,zt,zC,zao,zab,zah,zai,zJ,zK,zW,zaq,zX,zT,zG,zF,zD,qz1,yO,yN,Bool.false_and,Bool.true_and,Bool.and_false,Bool.or_true,Bool.or_false,Bool.false_or,Bool.true_or,qz2,yA,yB,zI,zEf]
theorem zMX(M:Nat)(x:Node):(RS (M+1)).zbm x (ps L0 L true)=some (x,false,ps L0 L true,()):=by
 show zc9 (RS M) x (ps L0 L true)=_;unfold zc9;simp only[zH,zt,zC,zao,zab,zah,zai,zJ,zK,zW,zaq,zX,zT,zG,zF,zD,qz1,yO,yN,Bool.false_and,Bool.true_and,Bool.and_false,Bool.or_true,Bool.or_false,Bool.false_or,Bool.true_or,qz2,yA,yB,zI]
theorem zPA(M:Nat)(s:Str):(RS (M+3)).zbL s (ps L0 L true)=some (nd 0 [],ps L0 L true,()):=by
 show zdz (RS (M+2)) s (ps L0 L true)=_;unfold zdz;simp only[zH,zt,zC,zao,zab,zah,zai,zJ,zK,zW,zaq,zX,zT,zG,zF,zD,qz1,yO,yN,Bool.false_and,Bool.true_and,Bool.and_false,Bool.or_true,Bool.or_false,Bool.false_or,Bool.true_or,qz2,yA,yB,zI,zEf]
theorem zN8(M:Nat):(RS (M+2)).za5 (ps L0 L true)=some (nd 25 [],ps L0 L true,()):=by
 show zdn (RS (M+1)) (ps L0 L true)=_;unfold zdn;simp only[zH,zt,zC,zao,zab,zah,zai,zJ,zK,zW,zaq,zX,zT,zG,zF,zD,qz1,yO,yN,Bool.false_and,Bool.true_and,Bool.and_false,Bool.or_true,Bool.or_false,Bool.false_or,Bool.true_or,qz2,yA,yB,zI,zIZ];rfl
theorem znC(L0:List zl){M:Nat}(h:3<=M):zUl L0 (RS M):=by
 obtain⟨M,rfl⟩: ∃k,M=k+3:=⟨M -3,by omega⟩
 exact{stmts:=λf _ _=>zIZ _ f,named:=λ_=>zJh _,stmt:=λ_=>zKv _,body:=λ_=>zRA _,assign:=λno _ _=>zGR _ no,comma:=λno _ _=>zEf _ no,head:=λ_=>zQq _,member:=λx _ _=>zMX _ x,upTo:=λs _ _=>zPA _ s,block:=λ_=>zN8 _}
theorem zAd(ok:TX L0 L)(g:zi)(l:Int)(no:Bool)(x:Node):zbQ g (l,no,ps L0 L true,0,[],0,[],x,[],[],())=some (.inr (x,ps L0 L true,())):=by
 unfold zbQ;simp only[zH,zt,zC,zao,zab,zah,zai,zJ,zK,zW,zaq,zX,zT,zG,zF,zD,qz1,yO,yN,Bool.false_and,Bool.true_and,Bool.and_false,Bool.or_true,Bool.or_false,Bool.false_or,Bool.true_or,qz2,yA,yB,zI,zJb ok]
theorem zD9(g:zi)(x:Node):zbG g (ps L0 L true,0,[],0,[],x,[],[],())=some (.inr (x,ps L0 L true,())):=by
 unfold zbG;simp only[zH,zt,zC,zao,zab,zah,zai,zJ,zK,zW,zaq,zX,zT,zG,zF,zD,qz1,yO,yN,Bool.false_and,Bool.true_and,Bool.and_false,Bool.or_true,Bool.or_false,Bool.false_or,Bool.true_or,qz2,yA,yB,zI]
section
variable (ok:TX L0 L) (h0:zak (L.map tk)=0)
include ok h0
theorem zPZ(M:Nat):Bd L0 (Tt:Node->Prop) L ((RS (M+1)).za4 (ps L0 L false)):=by
 show Bd _ _ _ (zc2 (RS M) (ps L0 L false));have hk: ∀n:Nat,n≠0->(zak (L.map tk)==n)=false:=λn hn=>by rw[h0];exact yH.2 λe=>hn e.symm
 have hi:=zCM h0;obtain⟨x,r,rfl⟩:=ok.cons;have k1:=(ze4 ok 1).trans (hk 1 (by decide));have k3:=(ze4 ok 3).trans (hk 3 (by decide));have k4:=(ze4 ok 4).trans (hk 4 (by decide));rw[show((1:Nat):Int)=1 from rfl]at k1;rw[show((3:Nat):Int)=3 from rfl]at k3;rw[show((4:Nat):Int)=4 from rfl]at k4;have w:=λs hs=>(zd6 ok (s:=s) hs).trans (by rw[hi])
 have g:=λs hs=>(sign_eq ok (s:=s) hs).trans (by rw[hi])
 unfold zc2;simp only[zH,zt,zC,zao,zab,zah,zai,zJ,zK,zW,zaq,zX,zT,zG,zF,zD,qz1,yO,yN,Bool.false_and,Bool.true_and,Bool.and_false,Bool.or_true,Bool.or_false,Bool.false_or,Bool.true_or,qz2,yA,yB,zI,zdl ok,k1,k3,k4,w [116,104,105,115] rfl,w [110,117,108,108] rfl,w [116,114,117,101] rfl,w [102,97,108,115,101] rfl,w [102,117,110,99,116,105,111,110] rfl,g [40] rfl,g [91] rfl,g [123] rfl];exact .ok trivial
theorem zQP(M:Nat):Bd L0 (Tt:Node->Prop) L ((RS (M+2)).zcD (ps L0 L false)):=by
 show Bd _ _ _ (zdx (RS (M+1)) (ps L0 L false));have hi:=zCM h0;have w:=λs hs=>(zd6 ok (s:=s) hs).trans (by rw[hi])
 unfold zdx;simp only[zH,zt,zC,zao,zab,zah,zai,zJ,zK,zW,zaq,zX,zT,zG,zF,zD,qz1,yO,yN,Bool.false_and,Bool.true_and,Bool.and_false,Bool.or_true,Bool.or_false,Bool.false_or,Bool.true_or,qz2,yA,yB,zI,w [110,101,119] rfl];exact .bd (zPZ ok h0 M) λv _=>by simp only[zH,zt,zC,zao,zab,zah,zai,zJ,zK,zW,zaq,zX,zT,zG,zF,zD,qz1,yO,yN,Bool.false_and,Bool.true_and,Bool.and_false,Bool.or_true,Bool.or_false,Bool.false_or,Bool.true_or,qz2,yA,yB,zI];exact .zvd (zD9 _ _) trivial
theorem zNr(M:Nat):Bd L0 (Tt:Node->Prop) L ((RS (M+3)).zaT (ps L0 L false)):=by
 show Bd _ _ _ (zdq (RS (M+2)) (ps L0 L false));have hi:=zCM h0;have w:=λs hs=>(zd6 ok (s:=s) hs).trans (by rw[hi])
 have g:=λs hs=>(sign_eq ok (s:=s) hs).trans (by rw[hi])
 unfold zdq;obtain⟨x,r,rfl⟩:=ok.cons;simp only[zH,zt,zC,zao,zab,zah,zai,zJ,zK,zW,zaq,zX,zT,zG,zF,zD,qz1,yO,yN,Bool.false_and,Bool.true_and,Bool.and_false,Bool.or_true,Bool.or_false,Bool.false_or,Bool.true_or,qz2,yA,yB,zI,zdl ok,g [45] rfl,g [43] rfl,g [33] rfl,w [116,121,112,101,111,102] rfl,w [100,101,108,101,116,101] rfl,w [118,111,105,100] rfl,g [43,43] rfl,g [45,45] rfl];exact .bd (zQP ok h0 M) λv _=>by simp only[zH,zt,zC,zao,zab,zah,zai,zJ,zK,zW,zaq,zX,zT,zG,zF,zD,qz1,yO,yN,Bool.false_and,Bool.true_and,Bool.and_false,Bool.or_true,Bool.or_false,Bool.false_or,Bool.true_or,qz2,yA,yB,zI];exact .ok trivial
theorem zG1(M:Nat)(no:Bool): ∀d:Nat,d<=6->Bd L0 (Tt:Node->Prop) L ((RS (M+4+d)).zba (9 -d) no (ps L0 L false))
 |0,_=>by
  show Bd _ _ _ (zbr (RS (M+3)) (9 - ((0:Nat):Int)) no (ps L0 L false));unfold zbr;simp only[zH,zt,zC,zao,zab,zah,zai,zJ,zK,zW,zaq,zX,zT,zG,zF,zD,qz1,yO,yN,Bool.false_and,Bool.true_and,Bool.and_false,Bool.or_true,Bool.or_false,Bool.false_or,Bool.true_or,qz2,yA,yB,zI,show decide ((9 - ((0:Nat):Int))>8)=true from rfl];exact .bd (zNr ok h0 M) λv _=> .ok trivial
 |d+1,hd=>by
  show Bd _ _ _ (zbr (RS (M+4+d)) (9 - ((d+1:Nat):Int)) no (ps L0 L false));unfold zbr;have c: ¬((9 - ((d+1:Nat):Int))>8):=by omega
  have w:IntKind.wrap .i64 (9 - ((d+1:Nat):Int)+1)=9 - (d:Int):=by rw[wrap_i64 (by omega) (by omega)];omega
  simp only[zH,zt,zC,zao,zab,zah,zai,zJ,zK,zW,zaq,zX,zT,zG,zF,zD,qz1,yO,yN,Bool.false_and,Bool.true_and,Bool.and_false,Bool.or_true,Bool.or_false,Bool.false_or,Bool.true_or,qz2,yA,yB,zI,c,decide_false,w];exact .bd (zG1 M no d (by omega)) λv _=>by simp only[zH,zt,zC,zao,zab,zah,zai,zJ,zK,zW,zaq,zX,zT,zG,zF,zD,qz1,yO,yN,Bool.false_and,Bool.true_and,Bool.and_false,Bool.or_true,Bool.or_false,Bool.false_or,Bool.true_or,qz2,yA,yB,zI];exact .zvd (zAd ok _ _ _ _) trivial
theorem zMl(M:Nat)(no:Bool):Bd L0 (Tt:Node->Prop) L ((RS (M+11)).zax no (ps L0 L false)):=by
 show Bd _ _ _ (zb3 (RS (M+10)) no (ps L0 L false));unfold zb3;simp only[zH,zt,zC,zao,zab,zah,zai,zJ,zK,zW,zaq,zX,zT,zG,zF,zD,qz1,yO,yN,Bool.false_and,Bool.true_and,Bool.and_false,Bool.or_true,Bool.or_false,Bool.false_or,Bool.true_or,qz2,yA,yB,zI]
 exact .bd (zG1 ok h0 M no 6 (by decide)) λv _=>by
  simp only[zH,zt,zC,zao,zab,zah,zai,zJ,zK,zW,zaq,zX,zT,zG,zF,zD,qz1,yO,yN,Bool.false_and,Bool.true_and,Bool.and_false,Bool.or_true,Bool.or_false,Bool.false_or,Bool.true_or,qz2,yA,yB,zI];exact .nx ok λx=>by simp only[zH,zt,zC,zao,zab,zah,zai,zJ,zK,zW,zaq,zX,zT,zG,zF,zD,qz1,yO,yN,Bool.false_and,Bool.true_and,Bool.and_false,Bool.or_true,Bool.or_false,Bool.false_or,Bool.true_or,qz2,yA,yB,zI];exact .ok trivial
theorem zO8(M:Nat)(no:Bool):Bd L0 (Tt:Node->Prop) L ((RS (M+12)).zac no (ps L0 L false)):=by
 show Bd _ _ _ (zce (RS (M+11)) no (ps L0 L false));unfold zce;simp only[zH,zt,zC,zao,zab,zah,zai,zJ,zK,zW,zaq,zX,zT,zG,zF,zD,qz1,yO,yN,Bool.false_and,Bool.true_and,Bool.and_false,Bool.or_true,Bool.or_false,Bool.false_or,Bool.true_or,qz2,yA,yB,zI];exact .bd (zMl ok h0 M no) λv _=> .zvd (zwz _ _ _) trivial
theorem zQd(M:Nat):Bd L0 (Tt:Node->Prop) L ((RS (M+13)).zaO (ps L0 L false)):=by
 show Bd _ _ _ (zcp (RS (M+12)) (ps L0 L false));have hk: ∀n:Nat,n≠0->(zak (L.map tk)==n)=false:=λn hn=>by rw[h0];exact yH.2 λe=>hn e.symm
 have hi:=zCM h0;have w:=λs hs=>(zd6 ok (s:=s) hs).trans (by rw[hi])
 have g:=λs hs=>(sign_eq ok (s:=s) hs).trans (by rw[hi])
 have hc:=zO8 ok h0 M false;obtain⟨x,r,rfl⟩:=ok.cons;have k1:=(ze4 ok 1).trans (hk 1 (by decide));have k2:=(ze4 ok 2).trans (hk 2 (by decide));rw[show((1:Nat):Int)=1 from rfl]at k1;rw[show((2:Nat):Int)=2 from rfl]at k2
 have hn:(RS (M+12)).zb6 (ps L0 (x::r) false)=some (nd 0 [],false,ps L0 (x::r) false,()):=by
  show zcg (RS (M+11)) (ps L0 (x::r) false)=_;unfold zcg;simp only[zH,zt,zC,zao,zab,zah,zai,zJ,zK,zW,zaq,zX,zT,zG,zF,zD,qz1,yO,yN,Bool.false_and,Bool.true_and,Bool.and_false,Bool.or_true,Bool.or_false,Bool.false_or,Bool.true_or,qz2,yA,yB,zI,zdl ok,bne,k2];rfl
 unfold zcp;simp only[zH,zt,zC,zao,zab,zah,zai,zJ,zK,zW,zaq,zX,zT,zG,zF,zD,qz1,yO,yN,Bool.false_and,Bool.true_and,Bool.and_false,Bool.or_true,Bool.or_false,Bool.false_or,Bool.true_or,qz2,yA,yB,zI,hn,zdl ok,k1,w [102,117,110,99,116,105,111,110] rfl,g [123] rfl,g [59] rfl];exact .bd hc λv _=>by simp only[zH,zt,zC,zao,zab,zah,zai,zJ,zK,zW,zaq,zX,zT,zG,zF,zD,qz1,yO,yN,Bool.false_and,Bool.true_and,Bool.and_false,Bool.or_true,Bool.or_false,Bool.false_or,Bool.true_or,qz2,yA,yB,zI];exact .ok trivial
end
end
theorem zqO(n:Node):zdO n=some (zf1 n.Kind,()):=by
 unfold zdO zf1;cases h3:n.Kind==3<;>cases h11:n.Kind==11<;>cases h12:n.Kind==12<;>simp[h3,h11,h12]
theorem zCj(w:Str)(l:List Str)(t:zal):zc3 (w::l) t=(tIs w t||zc3 l t):=by
 cases t with
 |nil=>rfl
 |cons a r=>simp only[zc3,tIs,List.contains_cons,Bool.and_or_distrib_left]
theorem any_nil(t:zal):zc3 [] t=false:=by
 cases t with
 |nil=>rfl
 |cons a r=>simp[zc3]
structure DS (L0:List zl) (g:zi) (q:PG):Prop where
 comma: ∀no L,TX L0 L->DN L0 (g.zac no (ps L0 L false)) (q.expr no (L.map tk))
 assign: ∀no L,TX L0 L->DN L0 (g.zax no (ps L0 L false)) (q.assign no (L.map tk))
 binary: ∀no (d:Nat) L,TX L0 L->d<=6->DN L0 (g.zba (9 - (d:Int)) no (ps L0 L false)) (q.binary no (9 - (d:Int)) (L.map tk))
 unary: ∀L,TX L0 L->DN L0 (g.zaT (ps L0 L false)) (q.unary (L.map tk))
 left: ∀L,TX L0 L->DN L0 (g.zcD (ps L0 L false)) ((q.made (L.map tk)).bd λx=>q.mems true x.1 x.2)
 made: ∀x L,TX L0 (x::L)->tIs [110,101,119] ((x::L).map tk)=true->DN L0 (g.zbk (ps L0 L false)) (q.made ((x::L).map tk))
 prim: ∀L,TX L0 L->DN L0 (g.za4 (ps L0 L false)) (q.prim (L.map tk))
 list: ∀s last L,TX L0 L->zuI s=true->DL L0 (g.zbl s last (ps L0 L false)) (q.exprs s last (L.map tk))
 object: ∀L,TX L0 L->DR L0 (Tt:Node->Prop) (λl v=>v=nd 8 l) (g.zcS (ps L0 L false)) (q.props (L.map tk))
 func: ∀k L,TX L0 L->DN L0 (g.zbD k (ps L0 L false)) (q.func k (L.map tk))
 vars: ∀no L,TX L0 L->DR L0 (Tt:Node->Prop) (λl v=>v=nd 22 l) (g.zci no (ps L0 L false)) (q.vars no (L.map tk))
 block: ∀L,TX L0 L->DN L0 (g.za5 (ps L0 L false)) (q.block (L.map tk))
 head: ∀L,TX L0 L->DN L0 (g.za0 (ps L0 L false)) (q.head (L.map tk))
 till: ∀s L,TX L0 L->zuI s=true->DN L0 (g.zbL s (ps L0 L false)) (q.till s (L.map tk))
 loop: ∀L,TX L0 L->DN L0 (g.zde (ps L0 L false)) (q.loop (L.map tk))
 stmt: ∀L,TX L0 L->DN L0 (g.zaO (ps L0 L false)) (q.stmt (L.map tk))
 stmts: ∀f L,TX L0 L->DL L0 (g.zaW f (ps L0 L false)) (q.stmts f (L.map tk))
theorem zQS{n:Nat}(m:Nat): ∀(no:Bool) (a:Int) (t:zal),Le ((pG n).binary no a t) ((pG (n+m)).binary no a t):=by
 induction m with
 |zero=>intro _ _ _;exact .rfl
 |succ m ih=>intro no a t r h;exact(zPo (n+m)).binary no a t r (ih no a t r h)
def zEk(B:zal->PR Node)(no:Bool)(l:Int):Nat->Node->zal->PR Node
 |0,_,_=>none
 |k+1,x,t=>if((zdB no t).1==l)=true then(B t.tail).bd λy=>zEk B no l k (ndN (zdB no t).2 (tText t) [x,y.1]) y.2 else gt (x,t)
theorem zHe(no:Bool)(l:Int): ∀(n:Nat) (x:Node) (t:zal) (q:Node×zal),(pG n).bins no l x t=gt q->(zdB no q.2).1<l\/(zdB no q.2).1=0
 |0,_,_,_,h=>by cases h
 |n+1,x,t,q,h=>by
  have h:zkK (pG n) no l x t=gt q:=h;unfold zkK at h;split at h
  ·rename_i c;cases h;simpa using c
  ·obtain⟨y,_,h⟩:=zuy h;exact zHe no l n _ _ q h
theorem zJX(no:Bool)(l:Int)(n:Nat)(t:zal)(q:Node×zal)(h:(pG n).binary no l t=gt q):(zdB no q.2).1<l\/(zdB no q.2).1=0:=by
 cases n with
 |zero=>cases h
 |succ n=>
  have h:zik (pG n) no l t=gt q:=h;unfold zik at h;obtain⟨y,_,h⟩:=zuy h;exact zHe no l n _ _ q h
theorem zEh(no:Bool)(l:Int)(h3:3<=l)(n0:Nat): ∀(n K:Nat) (x:Node) (t:zal),n<=n0->n<=K->
  Le ((pG n).bins no l x t) (((pG n).bins no (l+1) x t).bd λq=>zEk ((pG n0).binary no (l+1)) no l K q.1 q.2)
 |0,K,x,t,_,_=>λ_ e=>by cases e
 |n+1,0,x,t,_,h=>by omega
 |n+1,K+1,x,t,hn,hK=>by
  show Le (zkK (pG n) no l x t) ((zkK (pG n) no (l+1) x t).bd _);unfold zkK;have ih:=λx t=>zEh no l h3 n0 n K x t (by omega) (by omega)
  have ih2:=λx t=>zEh no l h3 n0 n (K+1) x t (by omega) (by omega)
  have hB: ∀t,Le ((pG n).binary no (l+1) t) ((pG n0).binary no (l+1) t):=λt=>by
   have:=zQS (n:=n) (n0 -n) no (l+1) t;rwa [show n+(n0 -n)=n0 by omega]at this
  generalize hb:zdB no t=b;by_cases c1:b.1<l\/b.1=0
  ·have e1:(decide (b.1<l)||b.1==0)=true:=Bool.or_eq_true_iff.2 (c1.elim (λh=> .inl (decide_eq_true h)) λh=> .inr (beq_iff_eq.2 h));have e2:(decide (b.1<l+1)||b.1==0)=true:=Bool.or_eq_true_iff.2 (c1.elim (λh=> .inl (decide_eq_true (by omega))) λh=> .inr (beq_iff_eq.2 h));have e3:(b.1==l)=false:=by rw[yH];omega
   rw[yL e1,yL e2,zun];unfold zEk;rw[hb,e3,yK (by decide)];exact .rfl
  ·have e1: ¬(decide (b.1<l)||b.1==0)=true:=by simpa using c1
   rw[yK e1];by_cases c2:b.1=l
   ·have e2:(decide (b.1<l+1)||b.1==0)=true:=Bool.or_eq_true_iff.2 (.inl (decide_eq_true (by omega)));have e3:(b.1==l)=true:=by rw[beq_iff_eq];exact c2
    rw[yL e2,zun];unfold zEk;rw[hb,e3,yL rfl,c2];intro r e;cases hy:(pG n).binary no (l+1) t.tail with
    |none=>rw[hy]at e;cases e
    |some p=>
     rw[hB _ _ hy];rw[hy]at e;cases p with
     |inl k=>exact e
     |inr y=>
      have hs:=zJX no (l+1) n _ _ hy;have e:(pG n).bins no l (ndN b.2 (tText t) [x,y.1]) y.2=some r:=e;have:=ih _ _ _ e;cases n with
      |zero=>cases e
      |succ n=>
       have hg:(pG (n+1)).bins no (l+1) (ndN b.2 (tText t) [x,y.1]) y.2=gt (ndN b.2 (tText t) [x,y.1],y.2):=by
        show zkK (pG n) no (l+1) _ _=_;unfold zkK;rw[yL (by simpa using hs)]
       rw[hg,zun]at this;exact this
   ·have e2: ¬(decide (b.1<l+1)||b.1==0)=true:=by
     rw[yQ];rintro(h|h)
     ·simp at h;omega
     ·simp at h;omega
    rw[yK e2,zgd];exact .bd .rfl λy=>ih2 _ _
section
variable {L0 L:List zl} {n M:Nat} (H: ∀k,k<=n->∀N,20*k+20<=N->DS L0 (RS N) (pG k)) (hn:n<=10000000000) (hM:20*n+30<=M) (h0:L0.length<=10000000000)
include H hn hM h0
theorem zKb(no:Bool): ∀(k m:Nat),k<=n->k+1<=m->∀(x:Node) (L:List zl),TX L0 L->
  DN L0 (zaH (zb2 (RS M)) m (no,ps L0 L false,0,[],0,[],x,[],[],())) ((pG k).comma no x (L.map tk))
 |0,m,_,_,x,L,ok=>trivial
 |k+1,0,_,hm,x,L,ok=>by omega
 |k+1,m+1,hk,hm,x,L,ok=>by
  show DN _ _ (zqH (pG k) no x (L.map tk));have ih:=λx L ok=>zKb no k m (by omega) (by omega) x L ok
  obtain⟨j,rfl⟩: ∃j,m=j+1:=⟨m -1,by omega⟩
  have hw: ∀x L',TX L0 L'->Bd L0 (Tt:Node->Prop) L' (zaH (zb2 (RS M)) (j+1) (no,ps L0 L' true,0,[],0,[],x,[],[],())):=λx L' _=> .out (zwz _ _ _) trivial
  unfold zqH;rw[zcO];generalize zaH (zb2 (RS M)) (j+1)=W at ih hw⊢;unfold zb2;simp only[zH,zt,zC,zI,zT,zG,zF,zD,qz1];refine .assoc (.is (sign_eq ok rfl) (λh=>?_) λh=>?_)
  ·simp only[yB];rw[<-yM];refine .assoc (.tak ok h0 (zam h) λa ha _ ok'=>?_);refine .assoc (.e ((H k (by omega) M (by omega)).assign no _ ok') (λv L' ok _=>hw _ L' ok) λv L' ok _=>ih _ L' ok)
  ·simp only[qz2,yA];exact .gt ok rfl
theorem zOb(no:Bool)(ok:TX L0 L):DN L0 (zce (RS M) no (ps L0 L false)) (zt1 (pG n) no (L.map tk)):=by
 unfold zce zt1;simp only[zH,zt,zC,zI,zT,zG,zF,zD,qz1]
 exact .e ((H n (yJ _) M (by omega)).assign no L ok) (λv L' ok _=> .zvd (zwz _ _ _) trivial)
  λv L' ok _=> .loop (zKb H hn hM h0 no n 1000000000000 (yJ _) (by omega) v L' ok) (yJ _)
theorem zJ6(no:Bool)(l:Int)(hl:3<=l)(hl2:l<=8)(B:zal->PR Node)(hB: ∀L,TX L0 L->DN L0 ((RS M).zba (l+1) no (ps L0 L false)) (B (L.map tk))): ∀(k m:Nat),k+1<=m->∀(x:Node) (L:List zl),TX L0 L->
  DN L0 (zaH (zbQ (RS M)) m (l,no,ps L0 L false,0,[],0,[],x,[],[],())) (zEk B no l k x (L.map tk))
 |0,m,_,x,L,ok=>trivial
 |k+1,0,hm,x,L,ok=>by omega
 |k+1,m+1,hm,x,L,ok=>by
  have ih:=λx L ok=>zJ6 no l hl hl2 B hB k m (by omega) x L ok
  obtain⟨j,rfl⟩: ∃j,m=j+1:=⟨m -1,by omega⟩
  have hw: ∀x L',TX L0 L'->Bd L0 (Tt:Node->Prop) L' (zaH (zbQ (RS M)) (j+1) (l,no,ps L0 L' true,0,[],0,[],x,[],[],())):=λx L' ok=> .out (zAd ok _ _ _ _) trivial
  rw[zcO];generalize zaH (zbQ (RS M)) (j+1)=W at ih hw⊢;unfold zbQ zEk;obtain⟨y,v,f,e,hf⟩:=zJt ok no;simp only[zH,zt,zC,zI,zT,zG,zF,zD,qz1,e];by_cases hb0:(zdB no (L.map tk)).1=0
  ·rw[yL hb0]at hf;have c:((zdB no (L.map tk)).1==l)=false:=by rw[yH];omega
   simp only[hf,c,yN,Bool.true_or,yB,qz2,yA];exact .gt ok rfl
  ·rw[yK hb0]at hf;obtain⟨rfl,rfl,rfl⟩:=hf;simp only[yO,Bool.false_or,bne];cases c:(zdB no (L.map tk)).1==l with
   |false=>
    simp only[yN,yB,qz2,yA];exact .gt ok rfl
   |true=>
    simp only[yO,yB,qz2,yA];have w:IntKind.wrap .i64 (l+1)=l+1:=wrap_i64 (by omega) (by omega);simp only[w];rw[<-yM];refine .assoc (.tak ok h0 (zwf hb0) λa ha _ ok'=>?_);exact .assoc (.e (hB _ ok') (λv L' ok _=>hw _ L' ok) λv L' ok _=>ih _ L' ok)
theorem zGM(no:Bool): ∀(d j:Nat) (L:List zl),TX L0 L->d<=6->DN L0 ((RS (M+j+d+1)).zba (9 - (d:Int)) no (ps L0 L false)) ((pG (n+1)).binary no (9 - (d:Int)) (L.map tk))
 |0,j,L,ok,_=>by
  show DN L0 (zbr (RS (M+j)) (9 - ((0:Nat):Int)) no (ps L0 L false)) (zik (pG n) no (9 - ((0:Nat):Int)) (L.map tk));unfold zbr zik;simp only[zH,zt,zC,zI,zT,zG,zF,zD,qz1,show decide ((9 - ((0:Nat):Int))>8)=true from rfl,yB];refine .e ((H n (yJ _) (M+j) (by omega)).unary L ok) (λv L' ok _=> .ok trivial) λv L' ok _=>?_
  cases n with
  |zero=>trivial
  |succ n=>
   show DN _ _ (zkK (pG n) no (9 - ((0:Nat):Int)) v (L'.map tk))
   have hb:(zdB no (L'.map tk)).1<=8:=by
    cases L'.map tk with
    |nil=>show(0:Int)<=8;decide
    |cons a r=>
     show(if opK a=true then lvS no a.text else(0,0)).1<=8;unfold lvS
     repeat' split
     all_goals decide
   unfold zkK;rw[yL (Bool.or_eq_true_iff.2 (.inl (decide_eq_true (by omega))))];exact .gt ok rfl
 |d+1,j,L,ok,hd=>by
  have ih:=λL ok=>zGM no d j L ok (by omega)
  have hl:(9 - (d:Int))=9 - ((d+1:Nat):Int)+1:=by omega
  rw[hl]at ih;generalize hk:9 - ((d+1:Nat):Int)=l at ih⊢;show DN L0 (zbr (RS (M+j+d+1)) l no (ps L0 L false)) _;unfold zbr;have c: ¬l>8:=by omega
  have w:IntKind.wrap .i64 (l+1)=l+1:=wrap_i64 (by omega) (by omega);simp only[zH,zt,zC,zI,zT,zG,zF,zD,qz1,c,decide_false,w,qz2,yA]
  have hle:Le ((pG (n+1)).binary no l (L.map tk)) (((pG (n+1)).binary no (l+1) (L.map tk)).bd λq=>zEk ((pG (n+1)).binary no (l+1)) no l n q.1 q.2):=by
   show Le (zik (pG n) no l (L.map tk)) ((zik (pG n) no (l+1) (L.map tk)).bd _);unfold zik;rw[zgd];exact .bd .rfl λq=>zEh no l (by omega) (n+1) n n q.1 q.2 (by omega) (yJ _)
  refine .le ?_ hle;refine .e (ih L ok) (λv L' ok _=> .zvd (zAd ok _ _ _ _) trivial) λv L' ok _=>?_
  exact .loop (zJ6 H hn (by omega) h0 no l (by omega) (by omega) _ ih n 1000000000000 (by omega) v L' ok) (yJ _)
theorem zKV(no:Bool)(x:Node)(t:zl)(ok:TX L0 L)(ha:zc3 zGu (L.map tk)=true)(ht:t.Text=tText (L.map tk)):
  DN L0 (zbx (RS M) no (ps L0 L false) 0 [] 0 [] x t [] []) (if zf1 x.Kind=true then((pG n).assign no (L.map tk).tail).bd λy=>gt (ndN 20 (tText (L.map tk)) [x,y.1],y.2)else bad (L.map tk)):=by
 unfold zbx;simp only[zH,zt,zC,zI,zT,zG,zF,zD,qz1,zqO];cases zf1 x.Kind with
 |false=>
  simp only[yN,yB,qz2,yA];exact .bad ok (by simp only[zH,zt,zC,zao,zab,zah,zai,zJ,zK,zW,zaq,zX,zT,zG,zF,zD,qz1,yO,yN,Bool.false_and,Bool.true_and,Bool.and_false,Bool.or_true,Bool.or_false,Bool.false_or,Bool.true_or,qz2,yA,yB,zI];exact .ok trivial)
 |true=>
  simp only[yO,yB,qz2,yA];rw[<-yM];refine .tak ok h0 (ze8 ha) λa hx _ ok'=>?_
  exact .e ((H n (yJ _) M (by omega)).assign no _ ok') (λv L' ok _=> .ok trivial) λv L' ok _=> .gt ok (by rw[ht])
theorem zMg(no:Bool)(ok:TX L0 L):DN L0 (zb3 (RS M) no (ps L0 L false)) (znM (pG n) no (L.map tk)):=by
 have B:=znC L0 (M:=M) (by omega);have S:=H n (yJ _) M (by omega);unfold zb3 znM;simp only[zH,zt,zC,zI,zT,zG,zF,zD,qz1,zao,qz2,yA];refine .e (S.binary no 6 L ok (by decide)) (λv L' ok _=>by simp only[zH,zt,zC,zao,zab,zah,zai,zJ,zK,zW,zaq,zX,zT,zG,zF,zD,qz1,yO,yN,Bool.false_and,Bool.true_and,Bool.and_false,Bool.or_true,Bool.or_false,Bool.false_or,Bool.true_or,qz2,yA,yB,zI];exact .nx ok λx=>by simp only[zH,zt,zC,zao,zab,zah,zai,zJ,zK,zW,zaq,zX,zT,zG,zF,zD,qz1,yO,yN,Bool.false_and,Bool.true_and,Bool.and_false,Bool.or_true,Bool.or_false,Bool.false_or,Bool.true_or,qz2,yA,yB,zI];exact .ok trivial) λv L1 ok1 _=>?_
 refine .is (sign_eq ok1 rfl) (λh=>?_) λh=>?_
 ·simp only[yB];rw[<-yM];refine .tak ok1 h0 (zam h) λa _ _ ok2=>?_
  refine .e (S.assign false _ ok2) (λy L' ok _=>by simp only[zH,zt,zC,zao,zab,zah,zai,zJ,zK,zW,zaq,zX,zT,zG,zF,zD,qz1,yO,yN,Bool.false_and,Bool.true_and,Bool.and_false,Bool.or_true,Bool.or_false,Bool.false_or,Bool.true_or,qz2,yA,yB,zI,B.assign no ok];exact .ok trivial) λy L3 ok3 _=>?_
  refine .need ok3 h0 rfl (by simp only[zH,zt,zC,zao,zab,zah,zai,zJ,zK,zW,zaq,zX,zT,zG,zF,zD,qz1,yO,yN,Bool.false_and,Bool.true_and,Bool.and_false,Bool.or_true,Bool.or_false,Bool.false_or,Bool.true_or,qz2,yA,yB,zI,B.assign no ok3];exact .ok trivial) λL4 ok4 _=>?_
  exact .e (S.assign no _ ok4) (λz L' ok _=> .ok trivial) λz L5 ok5 _=> .gt ok5 rfl
 ·simp only[qz2,yA];have h1:=λt ha ht=>zKV H hn hM h0 no v t ok1 ha ht
  have hc:zc3 zGu (L1.map tk)=(tIs [61] (L1.map tk)||(tIs [43,61] (L1.map tk)||(tIs [45,61] (L1.map tk)||(tIs [42,61] (L1.map tk)||(tIs [47,61] (L1.map tk)||tIs [37,61] (L1.map tk)))))):=by
   simp only[zGu,zCj,any_nil,Bool.or_false]
  obtain⟨x,r,rfl⟩:=ok1.cons;simp only[zdl ok1,zH,zt,zC,zI,zT,zG,zF,zD,qz1];have g:=λs hs=>sign_eq ok1 (s:=s) hs
  simp only[g [61] rfl,g [43,61] rfl,g [45,61] rfl,g [42,61] rfl,g [47,61] rfl,g [37,61] rfl,zH,zt,zC,zI,zT,zG,zF,zD,qz1];have h1:=λha=>h1 x ha rfl
  rw[hc]at h1⊢;cases e1:tIs [61] ((x::r).map tk)with
  |true=>exact h1 (by simp only[e1,Bool.true_or,Bool.or_true])
  |false=>
   cases e2:tIs [43,61] ((x::r).map tk)with
   |true=>exact h1 (by simp only[e2,Bool.true_or,Bool.or_true])
   |false=>
    cases e3:tIs [45,61] ((x::r).map tk)with
    |true=>exact h1 (by simp only[e3,Bool.true_or,Bool.or_true])
    |false=>
     cases e4:tIs [42,61] ((x::r).map tk)with
     |true=>exact h1 (by simp only[e4,Bool.true_or,Bool.or_true])
     |false=>
      cases e5:tIs [47,61] ((x::r).map tk)with
      |true=>exact h1 (by simp only[e5,Bool.true_or,Bool.or_true])
      |false=>
       cases e6:tIs [37,61] ((x::r).map tk)with
       |true=>exact h1 (by simp only[e6,Bool.true_or,Bool.or_true])
       |false=>exact .gt ok1 rfl
end
section
variable {L0 L:List zl} {n M:Nat} (H: ∀k,k<=n->∀N,20*k+20<=N->DS L0 (RS N) (pG k)) (hn:n<=10000000000) (hM:20*n+30<=M) (h0:L0.length<=10000000000)
include H hn hM h0
theorem zMC(x:Node)(ok:TX L0 L)(h:zak (L.map tk)≠0)(b:Bool):b=true->DN L0 (zdc (RS M) (ps L0 L false) 0 [] 0 [] x [] []) (gt (ndN 16 (tText (L.map tk)) [x],(L.map tk).tail)):=λ_=>by
 unfold zdc;simp only[zH,zt,zC,zI,zT,zG,zF,zD,qz1];refine .tak ok h0 h λa ha _ ok'=> .gt' ok' (by rw[yM]) (by simp only[ha])
theorem zL5(x:Node)(ok:TX L0 L)(h:zak (L.map tk)≠0):DN L0 (zdS (RS M) (ps L0 L false) 0 [] 0 [] x [] []) (if zf1 x.Kind=true then gt (ndN 16 (tText (L.map tk)) [x],(L.map tk).tail)else bad (L.map tk)):=by
 unfold zdS zhe;simp only[zH,zt,zC,zI,zT,zG,zF,zD,qz1,zqO];cases zf1 x.Kind with
 |false=>
  simp only[yN,yB,qz2,yA];refine .bad ok ?_;unfold zdc;simp only[zH,zt,zC,zao,zab,zah,zai,zJ,zK,zW,zaq,zX,zT,zG,zF,zD,qz1,yO,yN,Bool.false_and,Bool.true_and,Bool.and_false,Bool.or_true,Bool.or_false,Bool.false_or,Bool.true_or,qz2,yA,yB,zI];exact .tak ok λa=>by simp only[zH,zt,zC,zao,zab,zah,zai,zJ,zK,zW,zaq,zX,zT,zG,zF,zD,qz1,yO,yN,Bool.false_and,Bool.true_and,Bool.and_false,Bool.or_true,Bool.or_false,Bool.false_or,Bool.true_or,qz2,yA,yB,zI];exact .ok trivial
 |true=>
  simp only[yO,yB,qz2,yA];exact zMC H hn hM h0 x ok h true rfl
theorem zMB(t:zl)(ok:TX L0 L)(h:zak (L.map tk)≠0)(ht:t.Text=tText (L.map tk)):DN L0 (zdb (RS M) (ps L0 L false) 0 [] 0 [] t [] [])
  (((pG n).unary (L.map tk).tail).bd λy=>if zf1 y.1.Kind=true then gt (⟨16,tText (L.map tk),1,[],[],[y.1]⟩,y.2)else bad y.2):=by
 unfold zdb zg8 zha;simp only[zH,zt,zC,zI,zT,zG,zF,zD,qz1,zqO];rw[<-yM];refine .tak ok h0 h λa _ _ ok1=>?_
 refine .e ((H n (yJ _) M (by omega)).unary _ ok1) (λy L' ok _=>by
  cases zf1 y.Kind<;>simp only[zH,zt,zC,zao,zab,zah,zai,zJ,zK,zW,zaq,zX,zT,zG,zF,zD,qz1,yO,yN,Bool.false_and,Bool.true_and,Bool.and_false,Bool.or_true,Bool.or_false,Bool.false_or,Bool.true_or,qz2,yA,yB,zI]<;>exact .ok trivial) λy L2 ok2 _=>?_
 cases zf1 y.Kind with
 |false=>
  simp only[yN,yB,qz2,yA];exact .bad ok2 (by simp only[zH,zt,zC,zao,zab,zah,zai,zJ,zK,zW,zaq,zX,zT,zG,zF,zD,qz1,yO,yN,Bool.false_and,Bool.true_and,Bool.and_false,Bool.or_true,Bool.or_false,Bool.false_or,Bool.true_or,qz2,yA,yB,zI];exact .ok trivial)
 |true=>
  simp only[yO,yB,qz2,yA];exact .gt ok2 (by rw[ht])
theorem zN6(ok:TX L0 L):DN L0 (zdq (RS M) (ps L0 L false)) (zqa (pG n) (L.map tk)):=by
 have S:=H n (yJ _) M (by omega);unfold zdq zqa
 have hu:zc3 zxa (L.map tk)=(tIs [45] (L.map tk)||(tIs [43] (L.map tk)||(tIs [33] (L.map tk)||(tIs [116,121,112,101,111,102] (L.map tk)||(tIs [100,101,108,101,116,101] (L.map tk)||tIs [118,111,105,100] (L.map tk)))))):=by
  simp only[zxa,zCj,any_nil,Bool.or_false]
 have hp:zc3 zkr (L.map tk)=(tIs [43,43] (L.map tk)||tIs [45,45] (L.map tk)):=by
  simp only[zkr,zCj,any_nil,Bool.or_false]
 have w:=λs hs=>zd6 ok (s:=s) hs
 have g:=λs hs=>sign_eq ok (s:=s) hs
 obtain⟨x,r,rfl⟩:=ok.cons;simp only[zH,zt,zC,zI,zT,zG,zF,zD,qz1,zdl ok,g [45] rfl,g [43] rfl,g [33] rfl,w [116,121,112,101,111,102] rfl,w [100,101,108,101,116,101] rfl,w [118,111,105,100] rfl,g [43,43] rfl,g [45,45] rfl]
 have U: ∀{A B:PR Node},zc3 zxa ((x::r).map tk)=true->DN L0 ((zB (ps L0 (x::r) false)).bind λr_3=>((RS M).zaT r_3.2.1).bind λr_4=>some (ndN 15 x.Text [r_4.1],r_4.2.1,()))
   (if zc3 zxa ((x::r).map tk)=true then((pG n).unary ((x::r).map tk).tail).bd λy=>gt (ndN 15 (tText ((x::r).map tk)) [y.1],y.2)else if zc3 zkr ((x::r).map tk)=true then A else B):=λh=>by
  rw[yL h,<-yM];refine .tak ok h0 (ze8 h) λa _ _ ok1=>?_
  exact .e (S.unary _ ok1) (λv L' ok _=> .ok trivial) λv L' ok _=> .gt ok rfl
 have V: ∀{B:PR Node},zc3 zxa ((x::r).map tk)=false->zc3 zkr ((x::r).map tk)=true->DN L0 (zdb (RS M) (ps L0 (x::r) false) 0 [] 0 [] x [] [])
   (if zc3 zxa ((x::r).map tk)=true then((pG n).unary ((x::r).map tk).tail).bd λy=>gt (ndN 15 (tText ((x::r).map tk)) [y.1],y.2)else if zc3 zkr ((x::r).map tk)=true then
     ((pG n).unary ((x::r).map tk).tail).bd λy=>if zf1 y.1.Kind=true then gt (⟨16,tText ((x::r).map tk),1,[],[],[y.1]⟩,y.2)else bad y.2 else B):=λh1 h2=>by
  rw[yK (by rw[h1];decide),yL h2]
  exact zMB H hn hM h0 x ok (ze8 h2) rfl
 cases e1:tIs [45] ((x::r).map tk)with
 |true=>exact U (by simp only[hu,e1,Bool.true_or,Bool.or_true])
 |false=>
  cases e2:tIs [43] ((x::r).map tk)with
  |true=>exact U (by simp only[hu,e2,Bool.true_or,Bool.or_true])
  |false=>
   cases e3:tIs [33] ((x::r).map tk)with
   |true=>exact U (by simp only[hu,e3,Bool.true_or,Bool.or_true])
   |false=>
     cases e4:tIs [116,121,112,101,111,102] ((x::r).map tk)with
     |true=>exact U (by simp only[hu,e4,Bool.true_or,Bool.or_true])
     |false=>
      cases e5:tIs [100,101,108,101,116,101] ((x::r).map tk)with
      |true=>exact U (by simp only[hu,e5,Bool.true_or,Bool.or_true])
      |false=>
       cases e6:tIs [118,111,105,100] ((x::r).map tk)with
       |true=>exact U (by simp only[hu,e6,Bool.true_or,Bool.or_true])
       |false=>
        have nu:zc3 zxa ((x::r).map tk)=false:=by rw[hu,e1,e2,e3,e4,e5,e6];rfl
        cases e7:tIs [43,43] ((x::r).map tk)with
        |true=>exact V nu (by simp only[hp,e7,Bool.true_or,Bool.or_true])
        |false=>
         cases e8:tIs [45,45] ((x::r).map tk)with
         |true=>exact V nu (by simp only[hp,e8,Bool.true_or,Bool.or_true])
         |false=>
          have np:zc3 zkr ((x::r).map tk)=false:=by rw[hp,e7,e8];rfl
          simp only[qz2,yA,nu,np];rw[<-zgd];refine .e (S.left _ ok) (λv L' ok _=>by simp only[zH,zt,zC,zao,zab,zah,zai,zJ,zK,zW,zaq,zX,zT,zG,zF,zD,qz1,yO,yN,Bool.false_and,Bool.true_and,Bool.and_false,Bool.or_true,Bool.or_false,Bool.false_or,Bool.true_or,qz2,yA,yB,zI];exact .ok trivial) λv L2 ok2 _=>?_
          have h4:=λh=>zL5 H hn hM h0 v ok2 h
          have hp:zc3 zkr (L2.map tk)=(tIs [43,43] (L2.map tk)||tIs [45,45] (L2.map tk)):=by
           simp only[zkr,zCj,any_nil,Bool.or_false]
          have g2:=λs hs=>sign_eq ok2 (s:=s) hs
          obtain⟨y,r2,rfl⟩:=ok2.cons;have hf:y.Fresh=zgm ((y::r2).map tk):=rfl;simp only[zH,zt,zC,zI,zT,zG,zF,zD,qz1,g2 [43,43] rfl,g2 [45,45] rfl,zdl ok2,hf];cases e9:tIs [43,43] ((y::r2).map tk)with
          |true=>
           have hu2:zc3 zkr ((y::r2).map tk)=true:=by simp only[hp,e9,Bool.true_or]
           simp only[hu2,yB,yO,Bool.false_or];cases zgm ((y::r2).map tk)with
           |true=>exact .gt ok2 rfl
           |false=>exact h4 (ze8 hu2)
          |false=>
           cases e10:tIs [45,45] ((y::r2).map tk)with
           |true=>
            have hu2:zc3 zkr ((y::r2).map tk)=true:=by simp only[hp,e10,Bool.or_true]
            simp only[hu2,yB,yO,Bool.false_or,qz2,yA];cases zgm ((y::r2).map tk)with
            |true=>exact .gt ok2 rfl
            |false=>exact h4 (ze8 hu2)
           |false=>
            have hu2:zc3 zkr ((y::r2).map tk)=false:=by rw[hp,e9,e10];rfl
            simp only[hu2,yN,Bool.true_or,qz2,yA,yB];exact .gt ok2 rfl
omit H hn hM in
theorem zLH{f:Node×TP×Unit->Option (Node×TP×Unit)}{gq:Node×zal->PR Node}(R:zal->PR Node)(ok:TX L0 L)
  (hm: ∀x L',TX L0 (x::L')->tIs [110,101,119] ((x::L').map tk)=true->DN L0 ((RS M).zbk (ps L0 L' false)) (R ((x::L').map tk)))
  (hp:tIs [110,101,119] (L.map tk)=false->DN L0 ((RS M).za4 (ps L0 L false)) (R (L.map tk)))
  (hb: ∀v L',TX L0 L'->Bd L0 (Tt:Node->Prop) L' (f (v,ps L0 L' true,()))) (ho: ∀v L',TX L0 L'->DN L0 (f (v,ps L0 L' false,())) (gq (v,L'.map tk))):
  DN L0 ((zae [110,101,119] (ps L0 L false)).bind λr_1=>if r_1.1=true then(zB r_1.2.1).bind λr_2=>((RS M).zbk r_2.2.1).bind f else((RS M).za4 r_1.2.1).bind f) ((R (L.map tk)).bd gq):=by
 rw[zd6 ok rfl,qz1];cases h:tIs [110,101,119] (L.map tk)with
 |true=>
  simp only[yB];refine .tak ok h0 (zam h) λx _ hL ok1=>?_
  have:=hm x L.tail (by rw[<-hL];exact ok) (by rw[<-hL];exact h)
  rw[<-hL]at this;exact .e this (λv L' ok _=>hb v L' ok) λv L' ok _=>ho v L' ok
 |false=>
  simp only[qz2,yA];exact .e (hp h) (λv L' ok _=>hb v L' ok) λv L' ok _=>ho v L' ok
theorem zGP{f:Node×Bool×TP×Unit->Option (Node×TP×Unit)}{R:Node->zal->PR Node}{Q:PR Node}(x:Node)(ok:TX L0 L)
  (hb: ∀v L',TX L0 L'->Bd L0 (Tt:Node->Prop) L' (f (v,true,ps L0 L' true,()))) (ho: ∀v L',TX L0 L'->DN L0 (f (v,true,ps L0 L' false,())) (R v (L'.map tk)))
  (hq:DN L0 (f (x,false,ps L0 L false,())) Q):DN L0 (((RS (M+1)).zbm x (ps L0 L false)).bind f)
   (if tIs [46] (L.map tk)=true then(if(zak (L.map tk).tail==1||zak (L.map tk).tail==2)=true then R (ndN 11 (tText (L.map tk).tail) [x]) (L.map tk).tail.tail else bad (L.map tk).tail)
    else if tIs [91] (L.map tk)=true then((pG n).expr false (L.map tk).tail).bd λk=>(zbi [93] k.2).bn λt=>R (nd 12 [x,k.1]) t else Q):=by
 have B:=znC L0 (M:=M) (by omega);show DN L0 ((zc9 (RS M) x (ps L0 L false)).bind f) _;unfold zc9 zdG;simp only[zH,zt,zC,zI,zT,zG,zF,zD,qz1];refine .assoc (.is (sign_eq ok rfl) (λh=>?_) λh=>?_)
 ·simp only[yB];refine .assoc (.tak ok h0 (zam h) λa _ _ ok1=>?_);rw[<-yM];generalize L.tail=L1 at ok1;obtain⟨y,r,rfl⟩:=ok1.cons;have k1:=ze4 ok1 1;have k2:=ze4 ok1 2;rw[show((1:Nat):Int)=1 from rfl]at k1;rw[show((2:Nat):Int)=2 from rfl]at k2
  have T:zak ((y::r).map tk)≠0->DN L0 (((zB (ps L0 (y::r) false)).bind λr_21=>some (ndN 11 r_21.1.Text [x],true,r_21.2.1,())).bind f) (R (ndN 11 (tText ((y::r).map tk)) [x]) (((y::r).map tk).tail)):=λhk=>by
   refine .assoc (.tak ok1 h0 hk λb hb _ ok2=>?_);simp only[hb];rw[<-yM];exact ho _ _ ok2
  simp only[zdl ok1,zH,zt,zC,zI,zT,zG,zF,zD,qz1,bne,k1,k2];cases e1:zak ((y::r).map tk)==1 with
  |true=>
   simp only[yO,qz2,yA,Bool.true_or,yB];exact T (zbu e1 (by decide))
  |false=>
   cases e2:zak ((y::r).map tk)==2 with
   |true=>
     simp only[yO,yN,qz2,yA,Bool.or_true,yB];exact T (zbu e2 (by decide))
   |false=>
     simp only[yN,qz2,yA,Bool.or_self,yB];refine .bad ok1 ?_;simp only[zH,zt,zC,zao,zab,zah,zai,zJ,zK,zW,zaq,zX,zT,zG,zF,zD,qz1,yO,yN,Bool.false_and,Bool.true_and,Bool.and_false,Bool.or_true,Bool.or_false,Bool.false_or,Bool.true_or,qz2,yA,yB,zI];exact .assoc (.tak ok1 λa=>by simp only[zH,zt,zC,zao,zab,zah,zai,zJ,zK,zW,zaq,zX,zT,zG,zF,zD,qz1,yO,yN,Bool.false_and,Bool.true_and,Bool.and_false,Bool.or_true,Bool.or_false,Bool.false_or,Bool.true_or,qz2,yA,yB,zI];exact hb _ _ ok1)
 ·simp only[qz2,yA];refine .assoc (.is (sign_eq ok rfl) (λh=>?_) λh=>?_)
  ·simp only[yB];rw[<-yM];refine .assoc (.tak ok h0 (zam h) λa _ _ ok1=>?_);refine .assoc (.e ((H n (yJ _) M (by omega)).comma false _ ok1) (λv L' ok _=>by simp only[zH,zt,zC,zao,zab,zah,zai,zJ,zK,zW,zaq,zX,zT,zG,zF,zD,qz1,yO,yN,Bool.false_and,Bool.true_and,Bool.and_false,Bool.or_true,Bool.or_false,Bool.false_or,Bool.true_or,qz2,yA,yB,zI];exact hb _ _ ok) λv L2 ok2 _=>?_)
   exact .assoc (.need ok2 h0 rfl (by simp only[zH,zt,zC,zao,zab,zah,zai,zJ,zK,zW,zaq,zX,zT,zG,zF,zD,qz1,yO,yN,Bool.false_and,Bool.true_and,Bool.and_false,Bool.or_true,Bool.or_false,Bool.false_or,Bool.true_or,qz2,yA,yB,zI];exact hb _ _ ok2) λL3 ok3 _=>ho _ _ ok3)
  ·simp only[qz2,yA,qz1];exact hq
end
section
variable {L0 L:List zl} {n M:Nat} (H: ∀k,k<=n->∀N,20*k+20<=N->DS L0 (RS N) (pG k)) (hn:n<=10000000000) (hM:20*n+30<=M) (h0:L0.length<=10000000000)
include H hn hM h0
theorem zKM: ∀(k m:Nat),k<=n+1->k+1<=m->∀(x:Node) (L:List zl),TX L0 L->
  DN L0 (zaH (zbG (RS (M+1))) m (ps L0 L false,0,[],0,[],x,[],[],())) ((pG k).mems true x (L.map tk))
 |0,m,_,_,x,L,ok=>trivial
 |k+1,0,_,hm,x,L,ok=>by omega
 |k+1,m+1,hk,hm,x,L,ok=>by
  show DN _ _ (znR (pG k) true x (L.map tk));have ih:=λx L ok=>zKM k m (by omega) (by omega) x L ok
  obtain⟨j,rfl⟩: ∃j,m=j+1:=⟨m -1,by omega⟩
  have hw: ∀x L',TX L0 L'->Bd L0 (Tt:Node->Prop) L' (zaH (zbG (RS (M+1))) (j+1) (ps L0 L' true,0,[],0,[],x,[],[],())):=λx L' ok=> .out (zD9 _ _) trivial
  unfold znR;rw[zcO];generalize zaH (zbG (RS (M+1))) (j+1)=W at ih hw⊢;unfold zbG;simp only[zH,zt,zC,zI,zT,zG,zF,zD,qz1,zao,yN,yB];refine .assoc (zGP (n:=k) (λj hj=>H j (by omega)) (by omega) (by omega) h0 x ok (λv L' ok=>?_) (λv L' ok=>?_) ?_)
  ·simp only[yB];exact hw _ _ ok
  ·simp only[yB];exact ih _ _ ok
  ·simp only[qz2,yA,Bool.true_and];refine .assoc (.is (sign_eq ok rfl) (λh=>?_) λh=>?_)
   · simp only[yB];rw[<-yM];refine .assoc (.tak ok h0 (zam h) λa _ _ ok1=>?_);refine .assoc (.e ((H k (by omega) (M+1) (by omega)).list _ _ _ ok1 rfl) (λl L' ok hg=>?_) λl L2 ok2 hq=>?_)
     ·simp only[qz3,qz6];have hg:l.length<=20000000000:=hg;exact .assoc (.room (by omega) (hw _ _ ok))
     ·have:=zsr k _ _ _ _ hq;simp only[qz3,qz6]at this⊢;exact .assoc (.room (by omega) (ih _ _ ok2))
   · simp only[qz2,yA];exact .gt ok rfl
omit H hn hM in
theorem zIm(ok:TX L0 L)(hM:3<=M)(x:Node):zbJ (RS M) (ps L0 L true,0,[],0,[],x,[],[],())=some (.inr (nd 14 [x],ps L0 L true,())):=by
 have B:=znC L0 (M:=M) hM;unfold zbJ;simp only[zH,zt,zC,zao,zab,zah,zai,zJ,zK,zW,zaq,zX,zT,zG,zF,zD,qz1,yO,yN,Bool.false_and,Bool.true_and,Bool.and_false,Bool.or_true,Bool.or_false,Bool.false_or,Bool.true_or,qz2,yA,yB,zI,B.member x ok];rfl
def zzO(n:Nat)(q:Node×zal):PR Node:=if tIs [40] q.2=true then((pG n).exprs [41] false q.2.tail).bd λl=>gt (nd 14 (q.1::l.1),l.2)else gt (nd 14 [q.1],q.2)
theorem zJZ: ∀(k m:Nat),k<=n->k+1<=m->∀(x:Node) (L:List zl),TX L0 L->
  DN L0 (zaH (zbJ (RS (M+1))) m (ps L0 L false,0,[],0,[],x,[],[],())) (((pG k).mems false x (L.map tk)).bd (zzO n))
 |0,m,_,_,x,L,ok=>trivial
 |k+1,0,_,hm,x,L,ok=>by omega
 |k+1,m+1,hk,hm,x,L,ok=>by
  have e:((pG (k+1)).mems false x (L.map tk)).bd (zzO n)=if tIs [46] (L.map tk)=true then(if(zak (L.map tk).tail==1||zak (L.map tk).tail==2)=true then((pG k).mems false (ndN 11 (tText (L.map tk).tail) [x]) (L.map tk).tail.tail).bd (zzO n)else bad (L.map tk).tail)
    else if tIs [91] (L.map tk)=true then((pG k).expr false (L.map tk).tail).bd λq=>(zbi [93] q.2).bn λt=>((pG k).mems false (nd 12 [x,q.1]) t).bd (zzO n)else zzO n (x,L.map tk):=by
   show(znR (pG k) false x (L.map tk)).bd _=_;unfold znR;split
   · split<;>rfl
   · split
     ·rw[zgd];simp only[zoV]
     ·rfl
  rw[e];have ih:=λx L ok=>zJZ k m (by omega) (by omega) x L ok
  obtain⟨j,rfl⟩: ∃j,m=j+1:=⟨m -1,by omega⟩
  have hw: ∀x L',TX L0 L'->Bd L0 (Tt:Node->Prop) L' (zaH (zbJ (RS (M+1))) (j+1) (ps L0 L' true,0,[],0,[],x,[],[],())):=λx L' ok=> .out (zIm h0 ok (by omega) _) trivial
  rw[zcO];generalize zaH (zbJ (RS (M+1))) (j+1)=W at ih hw⊢;unfold zbJ;simp only[zH,zt,zC,zI,zT,zG,zF,zD,qz1];refine .assoc (zGP (n:=k) (λj hj=>H j (by omega)) (by omega) (by omega) h0 x ok (R:=λv t=>((pG k).mems false v t).bd (zzO n)) (λv L' ok=>?_) (λv L' ok=>?_) ?_)
  ·simp only[yO,qz2,yA];exact hw _ _ ok
  ·simp only[yO,qz2,yA];exact ih _ _ ok
  ·simp only[yN,yB];unfold zzO;refine .assoc (.is (sign_eq ok rfl) (λh=>?_) λh=>?_)
   · simp only[yB];rw[<-yM];refine .assoc (.tak ok h0 (zam h) λa _ _ ok1=>?_);refine .assoc (.e ((H n (by omega) (M+1) (by omega)).list _ _ _ ok1 rfl) (λl L' ok hg=>?_) λl L2 ok2 hq=>?_)
     ·simp only[qz3,qz6];have hg:l.length<=20000000000:=hg;exact .assoc (.room (by omega) (.ok trivial))
     ·have:=zsr n _ _ _ _ hq;simp only[qz3,qz6]at this⊢;exact .assoc (.room (by omega) (.gt ok2 rfl))
   · simp only[qz2,yA];exact .gt ok rfl
theorem zPc{f:Node×TP×Unit->Option (Node×TP×Unit)}{gq:Node×zal->PR Node}(ok:TX L0 L)
  (hb: ∀v L',TX L0 L'->Bd L0 (Tt:Node->Prop) L' (f (v,ps L0 L' true,()))) (ho: ∀v L',TX L0 L'->DN L0 (f (v,ps L0 L' false,())) (gq (v,L'.map tk))):
  DN L0 ((zae [110,101,119] (ps L0 L false)).bind λr_1=>if r_1.1=true then(zB r_1.2.1).bind λr_2=>((RS M).zbk r_2.2.1).bind f else((RS M).za4 r_1.2.1).bind f) (((pG n).made (L.map tk)).bd gq):=by
 refine zLH h0 (pG n).made ok (λx L' ok h=>(H n (yJ _) M (by omega)).made x L' ok h) (λh=>?_) hb ho;cases n with
 |zero=>trivial
 |succ n=>
  show DN _ _ (zmN (pG n) (L.map tk));unfold zmN;rw[yK (by rw[h];decide)]
  exact(H n (by omega) M (by omega)).prim L ok
theorem zKq{x:zl}(ok:TX L0 (x::L))(h:tIs [110,101,119] ((x::L).map tk)=true):DN L0 (zfy (RS (M+1)) (ps L0 L false)) (zmN (pG n) ((x::L).map tk)):=by
 have ok1:TX L0 L:=ok.tail (zam h);unfold zfy zmN;rw[yL h];simp only[zH,zt,zC,zI,zT,zG,zF,zD,qz1];exact zPc (M:=M+1) H hn (by omega) h0 ok1 (λv L' ok=> .zvd (zIm h0 ok (by omega) _) trivial) λv L' ok=> .loop (zJZ H hn hM h0 n 1000000000000 (yJ _) (by omega) v L' ok) (yJ _)
theorem zP5(ok:TX L0 L):DN L0 (zdx (RS (M+3)) (ps L0 L false)) ((zmN (pG n) (L.map tk)).bd λx=>znR (pG n) true x.1 x.2):=by
 unfold zdx;simp only[zH,zt,zC,zI,zT,zG,zF,zD,qz1];refine zLH (M:=M+3) h0 (zmN (pG n)) ok (λx L' ok h=>zKq (M:=M+1) H hn (by omega) h0 ok h) (λh=>?_) (λv L' ok=> .zvd (zD9 _ _) trivial) λv L' ok=>?_
 ·unfold zmN;rw[yK (by rw[h];decide)]
  exact(H n (yJ _) (M+3) (by omega)).prim L ok
 ·exact .loop (zKM (M:=M+2) H hn (by omega) h0 (n+1) 1000000000000 (yJ _) (by omega) v L' ok) (yJ _)
theorem zQ1(ok:TX L0 L):DN L0 (zc2 (RS M) (ps L0 L false)) (znQ (pG n) (L.map tk)):=by
 have S:=H n (yJ _) M (by omega);obtain⟨x,r,rfl⟩:=ok.cons;have k1:=ze4 ok 1;have k3:=ze4 ok 3;have k4:=ze4 ok 4;rw[show((1:Nat):Int)=1 from rfl]at k1;rw[show((3:Nat):Int)=3 from rfl]at k3;rw[show((4:Nat):Int)=4 from rfl]at k4;have w:=λs hs=>zd6 ok (s:=s) hs
 have g:=λs hs=>sign_eq ok (s:=s) hs
 have ht:tText ((x::r).map tk)=x.Text:=rfl;unfold zc2 znQ;simp only[zH,zt,zC,zI,zT,zG,zF,zD,qz1,zao,qz2,yA,zdl ok,k1,k3,k4,w [116,104,105,115] rfl,w [110,117,108,108] rfl,w [116,114,117,101] rfl,w [102,97,108,115,101] rfl,w [102,117,110,99,116,105,111,110] rfl,g [40] rfl,g [91] rfl,g [123] rfl,ht];have tl:((x::r).map tk).tail=((x::r).tail).map tk:=rfl;cases e1:zak ((x::r).map tk)==1 with
 |true=>simp only[yB];exact .tak ok h0 (zbu e1 (by decide)) λa _ _ ok1=> .gt ok1 rfl
 |false=>
 cases e3:zak ((x::r).map tk)==3 with
 |true=>simp only[yB];exact .tak ok h0 (zbu e3 (by decide)) λa _ _ ok1=> .gt ok1 rfl
 |false=>
 cases e4:zak ((x::r).map tk)==4 with
 |true=>simp only[yB];exact .tak ok h0 (zbu e4 (by decide)) λa _ _ ok1=> .gt ok1 rfl
 |false=>
 cases e5:tIs [116,104,105,115] ((x::r).map tk)with
 |true=>simp only[yB];exact .tak ok h0 (zam e5) λa _ _ ok1=> .gt ok1 rfl
 |false=>
 cases e6:tIs [110,117,108,108] ((x::r).map tk)with
 |true=>simp only[yB];exact .tak ok h0 (zam e6) λa _ _ ok1=> .gt ok1 rfl
 |false=>
 cases e7:tIs [116,114,117,101] ((x::r).map tk)with
 |true=>
  have e8:tIs [102,97,108,115,101] ((x::r).map tk)=false:=by
   simp only[List.map_cons,zGd,qz4]at e7⊢;rw[eq_of_beq e7.2];cases opK (tk x)<;>rfl
  simp only[e8,yB,qz2,yA];exact .tak ok h0 (zam e7) λa _ _ ok1=> .gt ok1 rfl
 |false=>
 cases e8:tIs [102,97,108,115,101] ((x::r).map tk)with
 |true=>simp only[yB];exact .tak ok h0 (zam e8) λa _ _ ok1=> .gt ok1 rfl
 |false=>
 cases e9:tIs [102,117,110,99,116,105,111,110] ((x::r).map tk)with
 |true=>
  simp only[yB,qz2,yA];rw[tl];exact .tak ok h0 (zam e9) λa _ _ ok1=>(S.func 10 _ ok1).same (λv L' ok _=> .ok trivial) λv' v L' ok e=>⟨_,rfl,e⟩
 |false=>
 cases e10:tIs [40] ((x::r).map tk)with
 |true=>
  simp only[yB,qz2,yA];rw[tl];refine .tak ok h0 (zam e10) λa _ _ ok1=>?_
  refine .e (S.comma false _ ok1) (λv L' ok _=>by simp only[zH,zt,zC,zao,zab,zah,zai,zJ,zK,zW,zaq,zX,zT,zG,zF,zD,qz1,yO,yN,Bool.false_and,Bool.true_and,Bool.and_false,Bool.or_true,Bool.or_false,Bool.false_or,Bool.true_or,qz2,yA,yB,zI];exact .ok trivial) λv L2 ok2 _=>?_
  exact .need ok2 h0 rfl (.ok trivial) λL3 ok3 _=> .gt ok3 rfl
 |false=>
 cases e11:tIs [91] ((x::r).map tk)with
 |true=>
  simp only[yB,qz2,yA];rw[tl];refine .tak ok h0 (zam e11) λa _ _ ok1=>?_
  exact .e (S.list _ _ _ ok1 rfl) (λv L' ok _=> .ok trivial) λv L2 ok2 _=> .gt ok2 rfl
 |false=>
 cases e12:tIs [123] ((x::r).map tk)with
 |true=>
  simp only[yB,qz2,yA];rw[tl];refine .tak ok h0 (zam e12) λa _ _ ok1=>?_
  exact .bd (S.object _ ok1) (λv L' ok _=> .ok trivial) λl v L2 ok2 _ e=> .gt ok2 e.symm
 |false=>
  simp only[qz2,yA];exact .bad ok (by simp only[zH,zt,zC,zao,zab,zah,zai,zJ,zK,zW,zaq,zX,zT,zG,zF,zD,qz1,yO,yN,Bool.false_and,Bool.true_and,Bool.and_false,Bool.or_true,Bool.or_false,Bool.false_or,Bool.true_or,qz2,yA,yB,zI];exact .ok trivial)
end
end Go.D08
