/- Texts for a statement of this seat. -/
import Derived.Test.YtdapbipagjmolaaGreatDoorMd4
import Derived.ProofKit
import Derived.OpenShut
import Derived.Deep.DeepHandedRow
import Derived.Lib.LaidTab
import Derived.Deep.Slices
import Derived.ChangeShapes
import Derived.DataReads
import Derived.LaidSub
import Derived.MakeChecks
import Derived.Lay
import Derived.Deep.DeepWitnessRowRef
import Derived.Stop.LaidErr
import Derived.Test.YtdapbipagjmolaaGreatDoorRows
import Derived.Test.YtdapbipagjmolaaGreatDoorCards
import Derived.Test.YtdapbipagjmolaaGreatDoorTie
set_option linter.unusedSectionVars false
set_option linter.unusedVariables false
set_option linter.unusedSimpArgs false
set_option linter.unnecessarySimpa false
namespace Go.D08
open Go Go.Gw Go.Dn Go.Proofs
set_option maxRecDepth 100000
theorem zEj{t:zH}(w:Wf t):zgi t=if tIs [41] t=true then gt ([],t.tail)else if(zaa t==1)=true then
  (if tIs [41] t.tail=true then gt ([tText t],t.tail.tail)else(za5 [44] t.tail).bn λt'=>if tIs [41] t'=true then bad t' else(zgi t').bd λl=>gt (tText t::l.1,l.2))else bad t:=by
 unfold zgi;by_cases h:tIs [41] t=true
 ·rw[yL h,yL h]
 ·rw[yK h,yK h]
  match t,w with
  | [],w=>exact absurd w.pos (by simp)
  | [a],w=>
   have h0:a.kind=0:=by
    obtain⟨p,e,h1,h2,_⟩:=w;cases p with
    |nil=>simp at h1;rw[h1];exact h2
    |cons x p=>simp at h1
   have:(zaa [a]==1)=false:=by show(a.kind==1)=false;rw[h0];rfl
   rw[this];rfl
  |a::b::r,w=>
   rw[zk1];by_cases h1:(a.kind==1)=true
   ·rw[yL h1,yL (show(zaa (a::b::r)==1)=true from h1)];by_cases h2:tIs [41] (b::r)=true
    ·rw[yL h2,yL (show tIs [41] (a::b::r).tail=true from h2)];rfl
    ·rw[yK h2,yK (show ¬tIs [41] (a::b::r).tail=true from h2)];unfold za5;by_cases h3:tIs [44] (b::r)=true
     ·rw[yL h3,yL (show tIs [44] (a::b::r).tail=true from h3)];show(if tIs [41] r=true then _ else _)=(if tIs [41] r=true then _ else _)
      by_cases h4:tIs [41] r=true
      ·rw[yL h4,yL h4];rfl
      ·rw[yK h4,yK h4];show(zk1 r).bd _=(if tIs [41] r=true then gt ([],r.tail)else zk1 r).bd _;rw[yK h4];rfl
     ·rw[yK h3,yK (show ¬tIs [44] (a::b::r).tail=true from h3)];rfl
   ·rw[yK h1,yK (show ¬(zaa (a::b::r)==1)=true from h1)]
theorem TOk.wf{L:List zk}(h:TOk L):Wf (L.map tk):=by
 obtain⟨a,e,h1,h2,h3⟩:=h.last;refine⟨a.map tk,tk e,by rw[h1];simp,by unfold tk;rw[h2];rfl,λx hx=>?_⟩
 obtain⟨y,hy,rfl⟩:=List.mem_map.1 hx;have h4:=h3 y hy;have h5:=(h.kinds y (by rw[h1];exact List.mem_append_left _ hy)).1
 show y.Kind.toNat≠0;omega
section
variable {L0 L:List zk} {no:Bool}
theorem zC8(kd:Int)(nm:Str): ∀(m:Nat) (L:List zk) (l:List Str),L.length<m->l.length+L.length<=20000000000->TL L0 L->
  SG L0 EL (λ(v:List Str) L' r=>r= .inr (pp L' false,[41],kd,nm,0,[],l++v,[],false,())) (zaq zdd m (pp L false,[41],kd,nm,0,[],l,[],false,())) (zgi (L.map tk))
 |0,L,l,hm,_,_=>by omega
 |m+1,L,l,hm,hl,ok=>by
  have ih:=λL l hm hl ok=>zC8 kd nm m L l hm hl ok
  rw[zEj ok.ok.wf,zev];generalize zaq zdd m=W at ih⊢;unfold zdd zga;simp only[zJ];refine .assoc (.has ok (λh ok1=>?_) λh=>?_)
  ·simp only[yO,qz2,yA];exact .gt' ok1 (by rw[yM]) (by simp)
  ·simp only[yN,yB];refine .assoc (.assoc (.name ok (λ_ _=>⟨_,rfl,_,rfl⟩) λhk ok1=>?_))
   have hlen:L.tail.length+1=L.length:=by
    obtain⟨x,r,rfl⟩:=ok.ok.cons;rfl
   simp only[qz3,qz6,Nat.zero_add];rw[zhY (by omega)];simp only[qz1];rw[<-yM,<-yM];refine .assoc (.has ok1 (λh ok2=>?_) λh=>?_)
   ·simp only[yB];exact .gt' ok2 rfl rfl
   ·simp only[qz2,yA];refine .assoc (.need' ok1 (λ_ _=>⟨_,rfl,_,rfl⟩) λL2 ok2 hl2=>?_);simp only[yN,yB];refine .assoc (.is ok2 (λh=>?_) λh=>?_)
    ·simp only[yB];exact .assoc (.fail ok2 λa=>⟨_,rfl,_,rfl⟩)
    ·simp only[qz2,yA];exact(ih L2 (l++[tText (L.map tk)]) (by omega) (by rw[qz5];simp only[qz3,qz6];omega) ok2).map (λv=>tText (L.map tk)::v) (by rintro v L' _ rfl;simp)
theorem zGp(kd:Int)(nm:Str)(ok:TL L0 L)(hlen:L.length<=10000000000):SG L0 EL (λ(v:List Str) L' r=>r= .inr (pp L' no,kd,nm,0,[],v,[],())) (zgV [41] false (pp L no) kd nm 0 [] [] []) (zgi (L.map tk)):=by
 have h1:SG L0 EL (λ(v:List Str) L' r=>r= .inr (pp L' false,[41],kd,nm,0,[],v,[],false,())) (zfY (pp L false) [41] kd nm 0 [] [] [] false) (zgi (L.map tk)):=by
  unfold zfY;simp only[zJ];exact .loop (zC8 kd nm (L.length+1) L [] (by omega) (by simp;omega) ok) (by omega)
 have h2:SG L0 EL (λ(v:List Str) L' r=>r= .inr (pp L' no,[41],kd,nm,0,[],v,[],false,())) (zfV (pp L no) [41] kd nm 0 [] [] [] false) (zgi (L.map tk)):=by
  unfold zfV;simp only[zJ];exact h1.same (by rintro a _ ⟨y,rfl⟩;exact⟨_,rfl,_,rfl⟩) (by rintro v L' _ _ rfl;exact⟨_,rfl,rfl⟩)
 unfold zgV;simp only[zJ];exact h2.same (by rintro a _ ⟨y,rfl⟩;exact⟨_,rfl,_,rfl⟩) (by rintro v L' _ _ rfl;exact⟨_,rfl,rfl⟩)
end
section
variable {L0 L:List zk} {no:Bool} {n M:Nat} (H: ∀k,k<=n->∀N,20*k+20<=N->ztQ L0 (RG N) (pG k)) (hn:n<=10000000000) (hM:20*n+30<=M) (h0:L0.length<=10000000000)
include H hn hM
theorem zGd(k:Int)(nm:Str)(ns:List Str)(ok:TL L0 L):SG L0 ER (λ(v:List Node) L' r=>r= .inl (pp L' no,k,nm,0,[],v,ns,[],())) ((RG M).zbN (pp L no) k nm 0 [] ns []) ((pG n).stmts true (L.map tk)):=by
 obtain⟨M,rfl⟩: ∃k,M=k+2:=⟨M -2,by omega⟩
 have h1:SG L0 ER (λ(v:List Node) L' r=>r= .inl (pp L' false,k,nm,0,[],v,ns,[],())) (zdB (RG M) (pp L false) k nm 0 [] ns []) ((pG n).stmts true (L.map tk)):=by
  unfold zdB;simp only[zJ,zC];exact .rr ((H n (yJ _) M (by omega)).stmts true L ok) (λ_ _=>⟨_,rfl,_,rfl⟩) λv L'=>⟨_,rfl,rfl⟩
 show SG _ _ _ (zdP (RG (M+1)) (pp L no) k nm 0 [] ns []) _;unfold zdP;simp only[zJ,zC];exact h1.same (by rintro a _ ⟨y,rfl⟩;exact⟨_,rfl,_,rfl⟩) (by rintro v L' _ _ rfl;exact⟨_,rfl,rfl⟩)
include h0 in
theorem zGx(k:Int)(nm:Str)(ok:TL L0 L):SG L0 EL (OR no) (zcL (RG M) (pp L no) 0 [] 0 [] k nm 0 [] [] [] [] [])
  ((za5 [40] (L.map tk)).bn λt=>(zgi t).bd λns=>(za5 [123] ns.2).bn λt=>((pG n).stmts true t).bd λl=>(za5 [125] l.2).bn λt=>gt (⟨k,nm,0,[],ns.1,l.1⟩,t)):=by
 unfold zcL zfC zfP zfB;simp only[zJ,zC];refine .need ok (λ_ _=>⟨_,rfl,_,rfl⟩) λL1 ok1=>?_
 refine(zGp (no:=no) k nm ok1 (by have:=ok1.suf.length_le;omega)).gen (by rintro a _ ⟨y,rfl⟩;exact⟨_,rfl,_,rfl⟩) ?_
 rintro ns L2 _ _ ok2 rfl;refine .need ok2 (λ_ _=>⟨_,rfl,_,rfl⟩) λL3 ok3=>?_
 refine(zGd (no:=no) H hn hM k nm ns ok3).gen (by rintro a _ ⟨y,rfl⟩;exact⟨_,rfl,_,rfl⟩) ?_
 rintro l L4 _ _ ok4 rfl;exact .need ok4 (λ_ _=>⟨_,rfl,_,rfl⟩) λL5 ok5=> .gt ok5 rfl
include h0 in
theorem zH5(k:Int)(ok:TL L0 L):SG L0 EL (OR no) (zeb (RG M) k (pp L no)) (zwp (pG n) k (L.map tk)):=by
 obtain⟨x,r,rfl⟩:=ok.ok.cons;have hk:=zfS ok 1;rw[show((1:Nat):Int)=1 from rfl]at hk;have h1:=λ(L1:List zk) nm ok1=>zGx (no:=no) (L:=L1) H hn hM h0 k nm ok1
 unfold zeb zwp;simp only[zJ,zC,zcQ,qz1,hk];cases h39:k==39 with
 |true=>
  simp only[yB,qz1];have e: ∀(f:Str×zH->PR Node),((if(zaa ((x::r).map tk)==1)=true then gt (tText ((x::r).map tk),((x::r).map tk).tail)else bad ((x::r).map tk)).bd f)=if(zaa ((x::r).map tk)==1)=true then f (tText ((x::r).map tk),((x::r).map tk).tail)else bad ((x::r).map tk):=λf=>by split<;>rfl
  rw[e];refine .name ok (λ_ _=>⟨_,rfl,_,rfl⟩) λhk ok1=>?_
  rw[<-yM];exact h1 _ _ ok1
 |false=>
  simp only[qz2,yA,qz1];cases hk1:zaa ((x::r).map tk)==1 with
  |true=>
   simp only[yB];have e: ∀(f:Str×zH->PR Node),((Go.D08.gt (tText ((x::r).map tk),((x::r).map tk).tail)).bd f)=if(zaa ((x::r).map tk)==1)=true then f (tText ((x::r).map tk),((x::r).map tk).tail)else bad ((x::r).map tk):=λf=>by rw[yL hk1];rfl
   rw[e];refine .name ok (λ_ _=>⟨_,rfl,_,rfl⟩) λhk ok1=>?_
   rw[<-yM];exact h1 _ _ ok1
  |false=>
   simp only[qz2,yA,zHD];exact h1 _ _ ok
theorem zDn: ∀(k m:Nat),k<=n+1->k<=m->∀(l:List Node) (L:List zk),l.length+k<=n+1->TL L0 L->
  SG L0 EL (λ(v:List Node) L' r=>r= .inr (nd 22 (l++v),pp L' no,())) (zaq (zdR (RG M)) m (pp L no,0,[],0,[],22,[],0,[],[],[],[],l,())) ((pG k).vars no (L.map tk))
 |0,m,_,_,l,L,_,ok=>trivial
 |k+1,0,_,hm,l,L,_,ok=>by omega
 |k+1,m+1,hk,hm,l,L,hl,ok=>by
  have ih:=λl L hl ok=>zDn k m (by omega) (by omega) l L hl ok
  show SG _ _ _ _ (zwm (pG k) no (L.map tk));rw[zev];generalize zaq (zdR (RG M)) m=W at ih⊢
  have fin: ∀(d:List Node) (L1:List zk),TL L0 L1->SG L0 EL (λ(v:List Node) L' r=>r= .inr (nd 22 (l++v),pp L' no,()))
    ((zdL (RG M) (pp L1 no) 0 [] 0 [] 22 [] 0 [] 23 (tText (L.map tk)) 0 [] [] [] [] l [] d).bind (zB7 W))
    (if tIs [44] (L1.map tk)=true then((pG k).vars no (L1.map tk).tail).bd λq=>gt (ndN 23 (tText (L.map tk)) d::q.1,q.2)else gt ([ndN 23 (tText (L.map tk)) d],L1.map tk)):=λd L1 ok1=>by
   unfold zdL zhH;simp only[zJ,qz3,qz6,Nat.zero_add];rw[zhY (by omega)];simp only[qz1];refine .assoc (.has ok1 (λh ok2=>?_) λh=>?_)
   ·simp only[yO,qz2,yA];rw[<-yM];exact(ih (l++[ndN 23 (tText (L.map tk)) d]) _ (by rw[qz5];simp only[qz3,qz6];omega) ok2).map (λv=>ndN 23 (tText (L.map tk)) d::v) (by rintro v L' _ rfl;simp)
   ·simp only[yN,yB];exact .gt ok1 rfl
  unfold zwm;unfold zdR;simp only[zJ,zC];refine .assoc (.name ok (λ_ _=>⟨_,rfl,_,rfl⟩) λhk1 ok1=>?_)
  have e: ∀(f:List Node×zH->PR (List Node)),((if tIs [61] (L.map tk).tail=true then((pG k).assign no (L.map tk).tail.tail).bd λy=>Go.D08.gt ([y.1],y.2)else Go.D08.gt ([],(L.map tk).tail)).bd f)=
    if tIs [61] (L.tail.map tk)=true then((pG k).assign no (L.tail.map tk).tail).bd λy=>f ([y.1],y.2)else f ([],L.tail.map tk):=λf=>by
   rw[yM];split
   ·rw[zoq];rfl
   ·rfl
  rw[e];refine .assoc (.has ok1 (λh ok2=>?_) λh=>?_)
  ·simp only[yB];rw[<-yM];refine .assoc (.r ((H k (by omega) M (by omega)).assign no _ ok2) (λ_ _=>⟨_,rfl,_,rfl⟩) λy L3 ok3=>?_);exact fin [y] L3 ok3
  ·simp only[qz2,yA];exact fin [] _ ok1
theorem zJh(ok:TL L0 L):SG L0 EL (λl L' r=>r= .inr (nd 22 l,pp L' no,())) (zfU (RG M) (pp L no)) (zwm (pG n) no (L.map tk)):=by
 unfold zfU;simp only[zJ];exact .loop (zDn H hn hM (n+1) 1000000000000 (yJ _) (by omega) [] L (by simp) ok) (yJ _)
theorem zGR(ok:TL L0 L):SG L0 EL (OR false) (zfn (RG M) (pp L false)) (zoH (pG n) (L.map tk)):=by
 unfold zfn zoH;simp only[zJ,zC,zfw];refine .need ok (λ_ _=>⟨_,rfl,_,rfl⟩) λL1 ok1=>?_
 refine .r ((H n (yJ _) M (by omega)).stmts false L1 ok1) (λ_ _=>⟨_,rfl,_,rfl⟩) λl L2 ok2=>?_
 exact .need ok2 (λ_ _=>⟨_,rfl,_,rfl⟩) λL3 ok3=> .gt ok3 rfl
theorem zIC(ok:TL L0 L):SG L0 EL (OR false) (zf0 (RG M) (pp L false)) (zxT (pG n) (L.map tk)):=by
 unfold zf0 zxT;simp only[zJ,zC,zfw];refine .need ok (λ_ _=>⟨_,rfl,_,rfl⟩) λL1 ok1=>?_
 refine .r ((H n (yJ _) M (by omega)).expr false L1 ok1) (λ_ _=>⟨_,rfl,_,rfl⟩) λl L2 ok2=>?_
 exact .need ok2 (λ_ _=>⟨_,rfl,_,rfl⟩) λL3 ok3=> .gt ok3 rfl
theorem zIH(s:Str)(ok:TL L0 L):SG L0 ER (OL false) (zfp (RG M) s (pp L false)) (zu3 (pG n) s (L.map tk)):=by
 unfold zfp zu3;simp only[zJ,zC,zfw];refine .has ok (λh ok1=>?_) λh=>?_
 ·exact .gt' ok1 (by rw[yM]) rfl
 ·refine .r ((H n (yJ _) M (by omega)).expr false L ok) (λ_ _=>⟨_,rfl,_,rfl⟩) λl L2 ok2=>?_
  exact .need ok2 (λ_ _=>⟨_,rfl,_,rfl⟩) λL3 ok3=> .gt ok3 rfl
theorem zwc(ok:TL L0 L):SG L0 EL (λv L' r=>r= .inr (zf7 v,pp L' false,())) ((RG M).zaT (pp L false)) ((pG n).stmt (L.map tk)):=by
 obtain⟨M,rfl⟩: ∃k,M=k+1:=⟨M -1,by omega⟩
 show SG _ _ _ (zfT (RG M) (pp L false)) _;unfold zfT;simp only[zJ,zC];refine .ll ((H n (yJ _) M (by omega)).stmt L ok) (λ_ _=>⟨_,rfl,_,rfl⟩) λv L'=>?_
 simp only[bne];unfold zf7;cases v.Kind==25 with
 |true=>exact⟨_,rfl,rfl⟩
 |false=>exact⟨_,rfl,rfl⟩
def zEW(g:PG)(each:Bool)(x:Node)(t:zH):PR Node:=
 if(each&&tIs [105,110] t)=true then(g.expr false t.tail).bd λy=>(za5 [41] y.2).bn λt=>(g.stmt t).bd λb=>gt (nd 30 [x,y.1,zf7 b.1],b.2)
 else(za5 [59] t).bn λt=>(g.till [59] t).bd λy=>(g.till [41] y.2).bd λz=>(g.stmt z.2).bd λb=>gt (nd 29 [x,y.1,z.1,zf7 b.1],b.2)
theorem zHB(x:Node)(ok:TL L0 L):SG L0 EL (OR false) (zdQ (RG M) (pp L false) 0 [] 0 [] 29 [] 0 [] [] [] [] [x])
  ((za5 [59] (L.map tk)).bn λt=>((pG n).till [59] t).bd λy=>((pG n).till [41] y.2).bd λz=>((pG n).stmt z.2).bd λb=>gt (nd 29 [x,y.1,z.1,zf7 b.1],b.2)):=by
 have S:=H n (yJ _) M (by omega);unfold zdQ zho zhf zgX zdy;simp only[zJ,zC];refine .need ok (λ_ _=>⟨_,rfl,_,rfl⟩) λL1 ok1=>?_
 refine .r (S.till [59] L1 ok1) (λ_ _=>⟨_,rfl,_,rfl⟩) λy L2 ok2=>?_
 refine .r (S.till [41] L2 ok2) (λ_ _=>⟨_,rfl,_,rfl⟩) λz L3 ok3=>?_
 refine .room (by simp) ?_;refine(zwc H hn hM ok3).gen (by rintro a _ ⟨y,rfl⟩;exact⟨_,rfl,_,rfl⟩) ?_
 rintro b L4 _ _ ok4 rfl;exact .room (by simp) (.gt ok4 rfl)
theorem zGc(x:Node)(each:Bool)(ok:TL L0 L):SG L0 EL (OR false) (zdN (RG M) each (pp L false) 0 [] 0 [] 29 [] 0 [] [] [] [] [x]) (zEW (pG n) each x (L.map tk)):=by
 have S:=H n (yJ _) M (by omega);have h8:=zHB H hn hM x ok;unfold zdN zEW;simp only[zJ,zC];cases each with
 |false=>
  simp only[qz2,yA,Bool.false_and];exact h8
 |true=>
  simp only[yB,Bool.true_and];refine .has ok (λh ok1=>?_) λh=>?_
  ·simp only[yB];unfold zhu zhG zhF zhn zdy;simp only[zJ,zC];rw[<-yM];refine .r (S.expr false _ ok1) (λ_ _=>⟨_,rfl,_,rfl⟩) λy L2 ok2=>?_
   refine .room (by simp) ?_;refine .need ok2 (λ_ _=>⟨_,rfl,_,rfl⟩) λL3 ok3=>?_
   refine(zwc H hn hM ok3).gen (by rintro a _ ⟨y,rfl⟩;exact⟨_,rfl,_,rfl⟩) ?_
   rintro b L4 _ _ ok4 rfl;exact .room (by simp) (.gt ok4 rfl)
  ·simp only[qz2,yA];exact h8
theorem zI4(ok:TL L0 L):SG L0 EL (OR false) (zf4 (RG M) (pp L false)) (zxS (pG n) (L.map tk)):=by
 have S:=H n (yJ _) M (by omega);have h3:=λ(L1:List zk) x each ok1=>zGc (L:=L1) H hn hM x each ok1
 unfold zf4 zdD zhq zxS zyS;simp only[zJ,zC,zz4,qz1];refine .need ok (λ_ _=>⟨_,rfl,_,rfl⟩) λL1 ok1=>?_
 have e: ∀(f:Node×zH->PR Node),((if tIs [118,97,114] (L1.map tk)=true then((pG n).vars true (L1.map tk).tail).bd λl=>Go.D08.gt (nd 22 l.1,l.2)else if tIs [59] (L1.map tk)=true then Go.D08.gt (nd 42 [],L1.map tk)else(pG n).expr true (L1.map tk)).bd f)=
   if tIs [118,97,114] (L1.map tk)=true then((pG n).vars true (L1.map tk).tail).bd λl=>f (nd 22 l.1,l.2)else if tIs [59] (L1.map tk)=true then f (nd 42 [],L1.map tk)else((pG n).expr true (L1.map tk)).bd f:=λf=>by
  split
  ·rw[zoq];rfl
  ·split<;>rfl
 rw[e];refine .has (no:=true) ok1 (λh ok2=>?_) λh=>?_
 ·simp only[yB];rw[<-yM];refine(S.vars true _ ok2).gen (by rintro a _ ⟨y,rfl⟩;exact⟨_,rfl,_,rfl⟩) ?_
  rintro l L3 _ _ ok3 rfl;rcases l with _| ⟨d,_| ⟨d2,r⟩⟩
  ·exact h3 L3 (nd 22 []) false ok3
  ·have hb:(((d.L.length:Nat):Int)==0)=d.L.isEmpty:=by
    cases d.L with
    |nil=>rfl
    |cons a r=>exact yH.2 (by simp only[qz3];omega)
   show SG _ _ _ (zdN (RG M) (((d.L.length:Nat):Int)==0) (pp L3 false) 0 [] 0 [] 29 [] 0 [] [] [] [] [nd 22 [d]]) _;rw[hb];exact h3 L3 (nd 22 [d]) d.L.isEmpty ok3
  ·have hb:((((d::d2::r).length:Nat):Int)==1)=false:=by rw[yH];simp only[qz3];omega
   simp only[nd,hb,qz2,yA,qz1];exact h3 L3 (nd 22 (d::d2::r)) false ok3
 ·simp only[qz2,yA];refine .is (no:=true) ok1 (λh=>?_) λh=>?_
  ·simp only[yO,qz2,yA];exact h3 L1 (nd 42 []) false ok1
  ·simp only[yN,yB];refine(S.expr true _ ok1).gen (by rintro a _ ⟨y,rfl⟩;exact⟨_,rfl,_,rfl⟩) ?_
   rintro x L3 _ hq ok3 rfl;have hx:x.Kind≠22:=(zHH n).expr _ _ _ hq;have he:zwg x=zhs x.Kind:=by unfold zwg;rw[yK (by simpa using hx)]
   show SG _ _ _ _ (if(zwg x&&tIs [105,110] (L3.map tk))=true then _ else _);rw[he];exact h3 L3 x (zhs x.Kind) ok3
end
section
variable {L0 L:List zk} {no:Bool} {n M:Nat} (H: ∀k,k<=n->∀N,20*k+20<=N->ztQ L0 (RG N) (pG k)) (hn:n<=10000000000) (hM:20*n+30<=M) (h0:L0.length<=10000000000)
include H hn hM
theorem zIV(caught:Bool)(nm:Str)(b c:Node)(hc:(c.Kind==42)= !caught)(ok:TL L0 L):SG L0 EL (OR false) (zel (RG M) caught (pp L false) 0 [] 0 [] 35 nm 0 [] [] [] [] [b,c,nd 42 []])
  ((zyl (pG n) (L.map tk)).bd λf=>if(f.1.Kind==42&&c.Kind==42)=true then bad f.2 else gt (ndN 35 nm [b,c,f.1],f.2)):=by
 have S:=H n (yJ _) M (by omega);unfold zel zib zh6 zfe zyl;simp only[zJ,zC]
 have e: ∀(f:Node×zH->PR Node),((if tIs [102,105,110,97,108,108,121] (L.map tk)=true then(pG n).block (L.map tk).tail else Go.D08.gt (nd 42 [],L.map tk)).bd f)=if tIs [102,105,110,97,108,108,121] (L.map tk)=true then((pG n).block (L.map tk).tail).bd f else f (nd 42 [],L.map tk):=λf=>by
  split<;>rfl
 rw[e];refine .has ok (λh ok1=>?_) λh=>?_
 ·simp only[yB];rw[<-yM];refine(S.block _ ok1).gen (by rintro a _ ⟨y,rfl⟩;exact⟨_,rfl,_,rfl⟩) ?_
  rintro f L2 _ hq ok2 rfl;have h25:f.Kind=25:=zBG hq;have hf:(f.Kind==42)=false:=by rw[h25];rfl
  simp only[hf,Bool.false_and,qz2,yA];exact .gt ok2 rfl
 ·simp only[qz2,yA,hc];cases caught with
  |true=>
   simp only[yO,qz2,yA,Bool.and_false];exact .gt ok rfl
  |false=>
   simp only[yN,yB];exact .fail ok λa=>⟨_,rfl,_,rfl⟩
theorem zKI(h9:20*n+35<=M)(ok:TL L0 L):SG L0 EL (OR false) ((RG M).zdm (pp L false)) (zBk (pG n) (L.map tk)):=by
 obtain⟨M,rfl⟩: ∃k,M=k+1:=⟨M -1,by omega⟩
 have S:=H n (yJ _) M (by omega);have h7:=λ(L1:List zk) caught nm b c hc ok1=>zIV (L:=L1) (M:=M) H hn (by omega) caught nm b c hc ok1
 show SG _ _ _ (zgm (RG M) (pp L false)) _;unfold zgm zfR zih zh4 zh3 zh5 zh7 zBk zCa;simp only[zJ,zC,zfw];refine .l (S.block L ok) (λ_ _=>⟨_,rfl,_,rfl⟩) λb L1 ok1=>?_
 have e: ∀(x y:PR (Str×Node)) (f:(Str×Node)×zH->PR Node),((if tIs [99,97,116,99,104] (L1.map tk)=true then x else y).bd f)=if tIs [99,97,116,99,104] (L1.map tk)=true then x.bd f else y.bd f:=λx y f=>by
  split<;>rfl
 rw[e];refine .has ok1 (λh ok2=>?_) λh=>?_
 ·simp only[yB];rw[<-yM,zxh];refine .need ok2 (λ_ _=>⟨_,rfl,_,rfl⟩) λL3 ok3=>?_
  have e2: ∀(x:PR (Str×Node)) (f:(Str×Node)×zH->PR Node),((if(zaa (L3.map tk)==1)=true then x else bad (L3.map tk)).bd f)=if(zaa (L3.map tk)==1)=true then x.bd f else bad (L3.map tk):=λx f=>by
   split<;>rfl
  rw[e2];refine .name ok3 (λ_ _=>⟨_,rfl,_,rfl⟩) λhk ok4=>?_
  rw[<-yM,zxh];refine .need ok4 (λ_ _=>⟨_,rfl,_,rfl⟩) λL5 ok5=>?_
  rw[zoq];refine(S.block L5 ok5).gen (by rintro a _ ⟨y,rfl⟩;exact⟨_,rfl,_,rfl⟩) ?_
  rintro c L6 _ hq ok6 rfl;have h25:c.Kind=25:=zBG hq;exact h7 L6 true (tText (L3.map tk)) b c (by rw[h25];rfl) ok6
 ·simp only[qz2,yA];exact h7 L1 false [] b (nd 42 []) rfl ok1
theorem zE4(h9:20*n+35<=M)(ok:TL L0 L):SG L0 EL (OR false) ((RG M).zcA (pp L false))
  (((pG n).head (L.map tk)).bd λx=>((pG n).stmt x.2).bd λb=>if tIs [101,108,115,101] b.2=true then((pG n).stmt b.2.tail).bd λc=>gt (nd 26 [x.1,zf7 b.1,zf7 c.1],c.2)else gt (nd 26 [x.1,zf7 b.1],b.2)):=by
 obtain⟨M,rfl⟩: ∃k,M=k+1:=⟨M -1,by omega⟩
 have S:=H n (yJ _) M (by omega);have hb:=λ(L1:List zk) ok1=>zwc (L:=L1) (M:=M) H hn (by omega) ok1
 show SG _ _ _ (zeS (RG M) (pp L false)) _;unfold zeS zeA zgE zgL;simp only[zJ,zC,zfw];refine .l (S.head L ok) (λ_ _=>⟨_,rfl,_,rfl⟩) λx L1 ok1=>?_
 refine(hb L1 ok1).gen (by rintro a _ ⟨y,rfl⟩;exact⟨_,rfl,_,rfl⟩) ?_
 rintro b L2 _ _ ok2 rfl;refine .has ok2 (λh ok3=>?_) λh=>?_
 ·simp only[yB];rw[<-yM];refine(hb _ ok3).gen (by rintro a _ ⟨y,rfl⟩;exact⟨_,rfl,_,rfl⟩) ?_
  rintro c L4 _ _ ok4 rfl;exact .room (by simp) (.gt ok4 rfl)
 ·simp only[qz2,yA];exact .gt ok2 rfl
theorem zDi(o:Bool)(acc:List Node)(ha:acc.length<=20000000000): ∀(k m:Nat),k<=n->k<=m->∀(cur:List Node) (L:List zk),cur.length+k<=n+1->TL L0 L->
  SG L0 (λa r=>∃y,r= .inr (.inl (zY.code 45 a,y))) (λ(v:List Node) L' r=>r= .inl (o,pp L' false,0,[],0,[],36,[],0,[],[],[],[],acc++[nd 37 (cur++v)],()))
   (zaq (zdr (RG M)) m (o,pp L false,0,[],0,[],36,[],0,[],37,[],0,[],[],[],[],acc,[],cur,())) ((pG k).body (L.map tk))
 |0,m,_,_,l,L,_,ok=>trivial
 |k+1,0,_,hm,l,L,_,ok=>by omega
 |k+1,m+1,hk,hm,cur,L,hl,ok=>by
  show SG _ _ _ _ (zxD (pG k) (L.map tk));have ih:=λcur L hl ok=>zDi o acc ha k m (by omega) (by omega) cur L hl ok
  unfold zxD;rw[zev];generalize zaq (zdr (RG M)) m=W at ih⊢;unfold zdr;simp only[zJ,zC];rw[zjX ok.ok [[99,97,115,101],[100,101,102,97,117,108,116],[125]] ([32,99,97,115,101,32,100,101,102,97,117,108,116,32,125,32]:Str) (by decide+kernel) (by decide+kernel) (by decide),qz1];obtain⟨x,r,rfl⟩:=ok.ok.cons;have k0:=zfS ok 0;rw[show((0:Nat):Int)=0 from rfl]at k0;simp only[zcQ,qz1,bne,k0,qz3,qz6,Nat.zero_add];cases h1:zet [[99,97,115,101],[100,101,102,97,117,108,116],[125]] ((x::r).map tk)with
  |true=>
   simp only[yO,qz2,yA,qz1,Bool.true_or,yB];rw[zhY (by omega)];exact .gt ok (by show _=_;rw[List.append_nil];rfl)
  |false=>
   simp only[yN,yB,qz1,Bool.false_or];cases h2:zaa ((x::r).map tk)==0 with
   |true=>
    simp only[yO,qz2,yA,yB];rw[zhY (by omega)];exact .gt ok (by show _=_;rw[List.append_nil];rfl)
   |false=>
    simp only[yN,yB,qz2,yA];refine .assoc (.l ((H k (by omega) M (by omega)).stmt _ ok) (λ_ _=>⟨_,rfl,_,rfl⟩) λy L3 ok3=>?_);refine .assoc (.room (by omega) ?_);exact(ih (cur++[y]) L3 (by rw[qz5];simp only[qz3,qz6];omega) ok3).map (λv=>y::v) (by rintro v L' _ rfl;simp)
theorem zDj: ∀(k m:Nat),k<=n->k<=m->∀(o:Bool) (acc:List Node) (L:List zk),acc.length+k<=n+1->TL L0 L->
  SG L0 EL (λ(v:List Node) L' r=>r= .inr (nd 36 (acc++v),pp L' false,())) (zaq (zdu (RG M)) m (o,pp L false,0,[],0,[],36,[],0,[],[],[],[],acc,())) ((pG k).cases o (L.map tk))
 |0,m,_,_,o,l,L,_,ok=>trivial
 |k+1,0,_,hm,o,l,L,_,ok=>by omega
 |k+1,m+1,hk,hm,o,acc,L,hl,ok=>by
  have S:=H k (by omega) M (by omega);have ih:=λo acc L hl ok=>zDj k m (by omega) (by omega) o acc L hl ok
  show SG _ _ _ _ (zvy (pG k) o (L.map tk));rw[zev];generalize zaq (zdu (RG M)) m=W at ih⊢
  have j4: ∀(o':Bool) (x:Node) (L1:List zk),TL L0 L1->SG L0 EL (λ(v:List Node) L' r=>r= .inr (nd 36 (acc++v),pp L' false,()))
    ((zds (RG M) o' (pp L1 false) 0 [] 0 [] 36 [] 0 [] 37 [] 0 [] [] [] [] acc [] [x]).bind (zB7 W))
    ((za5 [58] (L1.map tk)).bn λt=>((pG k).body t).bd λl=>((pG k).cases o' l.2).bd λr=>gt (nd 37 (x::l.1)::r.1,r.2)):=λo' x L1 ok1=>by
   unfold zds;simp only[zJ];refine .assoc (.need ok1 (λ_ _=>⟨_,rfl,_,rfl⟩) λL2 ok2=>?_);have hb:=SG.loop (zDi H hn hM o' acc (by omega) k 1000000000000 (by omega) (by omega) [x] L2 (by simp;omega) ok2) (yJ _)
   refine hb.gen (by rintro a _ ⟨y,rfl⟩;exact⟨_,rfl,_,rfl⟩) ?_
   rintro l L3 _ _ ok3 rfl;exact(ih o' (acc++[nd 37 ([x]++l)]) L3 (by rw[qz5];simp only[qz3,qz6];omega) ok3).map (λv=>nd 37 (x::l)::v) (by rintro v L' _ rfl;simp)
  have j2: ∀(L1:List zk),TL L0 L1->SG L0 EL (λ(v:List Node) L' r=>r= .inr (nd 36 (acc++v),pp L' false,()))
    ((zdv (RG M) o (pp L1 false) 0 [] 0 [] 36 [] 0 [] 37 [] 0 [] [] [] [] acc [] [nd 42 []]).bind (zB7 W))
    ((za5 [99,97,115,101] (L1.map tk)).bn λt=>((pG k).expr false t).bd λx=>(za5 [58] x.2).bn λt=>((pG k).body t).bd λl=>((pG k).cases o l.2).bd λr=>gt (nd 37 (x.1::l.1)::r.1,r.2)):=λL1 ok1=>by
   unfold zdv zhi;simp only[zJ,zC];refine .assoc (.need ok1 (λ_ _=>⟨_,rfl,_,rfl⟩) λL2 ok2=>?_);refine .assoc (.r (S.expr false L2 ok2) (λ_ _=>⟨_,rfl,_,rfl⟩) λx L3 ok3=>?_);exact j4 o x L3 ok3
  unfold zvy;unfold zdu;simp only[zJ,zC];refine .assoc (.has ok (λh ok1=>?_) λh=>?_)
  ·simp only[yO,qz2,yA];exact .gt' ok1 (by rw[yM]) (by show _=_;rw[List.append_nil];rfl)
  ·simp only[yN,yB];cases o with
   |false=>
    simp only[Bool.false_and,qz2,yA];exact j2 L ok
   |true=>
    simp only[Bool.true_and,yB];refine .assoc (.has ok (λh ok1=>?_) λh=>?_)
    ·simp only[yB];rw[<-yM];exact j4 false (nd 42 []) _ ok1
    ·simp only[qz2,yA];exact j2 L ok
theorem zF7(h9:20*n+35<=M)(ok:TL L0 L):SG L0 EL (OR false) ((RG M).zcN (pp L false))
  (((pG n).head (L.map tk)).bd λx=>(za5 [123] x.2).bn λt=>((pG n).cases true t).bd λl=>gt (nd 36 (x.1::l.1),l.2)):=by
 obtain⟨M,rfl⟩: ∃k,M=k+1:=⟨M -1,by omega⟩
 have S:=H n (yJ _) M (by omega);show SG _ _ _ (zfo (RG M) (pp L false)) _;unfold zfo;simp only[zJ,zC];refine .l (S.head L ok) (λ_ _=>⟨_,rfl,_,rfl⟩) λx L1 ok1=>?_
 refine .need ok1 (λ_ _=>⟨_,rfl,_,rfl⟩) λL2 ok2=>?_
 exact(SG.loop (zDj H hn (by omega) n 1000000000000 (yJ _) (by omega) true [x] L2 (by simp;omega) ok2) (yJ _)).map (λv=>nd 36 (x::v)) (by rintro v L' _ rfl;rfl)
theorem zDk(k:Int)(ok:TL L0 L):SG L0 EL (OR false) (ze7 k (pp L false)) (zwb k (L.map tk)):=by
 obtain⟨x,r,rfl⟩:=ok.ok.cons;have k1:=zfS ok 1;rw[show((1:Nat):Int)=1 from rfl]at k1;have hf:x.Fresh=ziM ((x::r).map tk):=rfl;unfold ze7 zwb;simp only[zJ,zcQ,qz1,k1,hf];cases h1:zaa ((x::r).map tk)==1 with
 |false=>
  simp only[qz2,yA,qz1,Bool.false_and];exact .end ok (λ_ _=>⟨_,rfl,_,rfl⟩) λL3 ok3=> .gt ok3 rfl
 |true=>
  simp only[yB,qz1,Bool.true_and];cases h2:ziM ((x::r).map tk)with
  |true=>
   simp only[yO,qz2,yA];exact .end ok (λ_ _=>⟨_,rfl,_,rfl⟩) λL3 ok3=> .gt ok3 rfl
  |false=>
   simp only[yN,yB];refine .take ok (zbd h1 (by decide)) λa ha ok2=>?_
   rw[<-yM];refine .end ok2 (λ_ _=>⟨_,rfl,_,rfl⟩) λL3 ok3=> .gt ok3 ?_
   simp only[ha];rfl
theorem zDg: ∀(k m:Nat),k<=n+1->k<=m->∀(f:Bool) (l:List Node) (L:List zk),l.length+k<=n+1->TL L0 L->
  SG L0 ER (λ(v:List Node) L' r=>r= .inl (l++v,pp L' false,())) (zaq (zdx (RG M)) m (f,[125],pp L false,l,())) ((pG k).stmts f (L.map tk))
 |0,m,_,_,f,l,L,_,ok=>trivial
 |k+1,0,_,hm,f,l,L,_,ok=>by omega
 |k+1,m+1,hk,hm,f,l,L,hl,ok=>by
  have S:=H k (by omega) M (by omega);have ih:=λl L hl ok=>zDg k m (by omega) (by omega) f l L hl ok
  show SG _ _ _ _ (zrz (pG k) f (L.map tk));rw[zev];generalize zaq (zdx (RG M)) m=W at ih⊢
  have go: ∀(y:Node) (L3:List zk),TL L0 L3->SG L0 ER (λ(v:List Node) L' r=>r= .inl (l++v,pp L' false,())) (W (f,[125],pp L3 false,l++[y],())) (((pG k).stmts f (L3.map tk)).bd λq=>gt (y::q.1,q.2)):=λy L3 ok3=>
   (ih (l++[y]) L3 (by rw[qz5];simp only[qz3,qz6];omega) ok3).map (λv=>y::v) (by rintro v L' _ rfl;simp)
  have j2:SG L0 ER (λ(v:List Node) L' r=>r= .inl (l++v,pp L' false,()))
    ((zdw (RG M) f [125] (pp L false) l 0 [] 0 [] [] []).bind (zB7 W)) (((pG k).stmt (L.map tk)).bd λx=>((pG k).stmts f x.2).bd λq=>gt (x.1::q.1,q.2)):=by
   unfold zdw;simp only[zJ,zC,qz3,qz6,Nat.zero_add];refine .assoc (.l (S.stmt L ok) (λ_ _=>⟨_,rfl,_,rfl⟩) λy L3 ok3=>?_);exact .assoc (.room (by omega) (go y L3 ok3))
  unfold zrz;unfold zdx;simp only[zJ,zC];rw[zph ok.ok [125],qz1];have hget:zL L 0=some (L.head (by obtain⟨x,r,rfl⟩:=ok.ok.cons;simp)):=by obtain⟨x,r,rfl⟩:=ok.ok.cons;rfl
  have k0:((L.head (by obtain⟨x,r,rfl⟩:=ok.ok.cons;simp)).Kind==0)=(zaa (L.map tk)==0):=by obtain⟨x,r,rfl⟩:=ok.ok.cons;exact zfS ok 0
  simp only[hget,qz1,bne,k0,qz3,qz6,Nat.zero_add];cases h1:tIs [125] (L.map tk)with
  |true=>
   simp only[yO,qz2,yA,qz1,Bool.true_or,yB];exact .gt ok (by simp)
  |false=>
   simp only[yN,yB,qz1,Bool.false_or];cases h2:zaa (L.map tk)==0 with
   |true=>
    simp only[yO,qz2,yA,yB];exact .gt ok (by simp)
   |false=>
    simp only[yN,yB,qz2,yA];cases f with
    |false=>
     simp only[Bool.false_and,qz2,yA];exact j2
    |true=>
     simp only[Bool.true_and,yB]
     have e: ∀(x y:PR Node) (f:Node×zH->PR (List Node)),((if tIs [102,117,110,99,116,105,111,110] (L.map tk)=true then x else y).bd f)=if tIs [102,117,110,99,116,105,111,110] (L.map tk)=true then x.bd f else y.bd f:=λx y f=>by
      split<;>rfl
     rw[e];refine .assoc (.has ok (λh ok1=>?_) λh=>?_)
     ·simp only[yB];rw[<-yM];refine .assoc (.l (S.func false 39 _ ok1) (λ_ _=>⟨_,rfl,_,rfl⟩) λy L3 ok3=>?_);exact .assoc (.room (by omega) (go y L3 ok3))
     ·simp only[qz2,yA];exact j2
theorem zHr(f:Bool)(ok:TL L0 L):SG L0 ER (OL false) (zfi (RG M) f [125] (pp L false)) (zrz (pG n) f (L.map tk)):=by
 unfold zfi;simp only[zJ];exact .loop (zDg H hn hM (n+1) 1000000000000 (yJ _) (by omega) f [] L (by simp) ok) (yJ _)
end
section
variable {L0 L:List zk} {no:Bool} {n M:Nat} (H: ∀k,k<=n->∀N,20*k+20<=N->ztQ L0 (RG N) (pG k)) (hn:n<=10000000000) (hM:20*n+39<=M) (h0:L0.length<=10000000000)
include H hn hM
theorem zI8(ok:TL L0 L):SG L0 EL (OR false) (zf6 (RG M) (pp L false)) (zxN (pG n) (L.map tk)):=by
 have S:=H n (yJ _) M (by omega);have hb:=λ(L1:List zk) ok1=>zwc (L:=L1) (M:=M) H hn (by omega) ok1
 unfold zf6 zxN;simp only[zJ,zC];refine .is ok (λh=>?_) λh=>?_
 ·exact .ll (S.block L ok) (λ_ _=>⟨_,rfl,_,rfl⟩) λv L'=>⟨_,rfl,rfl⟩
 simp only[qz2,yA];refine .has ok (λh ok1=> .gt' ok1 (by rw[yM]) rfl) λh=>?_
 simp only[qz2,yA];refine .has ok (λh ok1=>?_) λh=>?_
 ·simp only[yB];rw[<-yM];refine(S.vars false _ ok1).gen (by rintro a _ ⟨y,rfl⟩;exact⟨_,rfl,_,rfl⟩) ?_
  rintro l L2 _ _ ok2 rfl;exact .end ok2 (λ_ _=>⟨_,rfl,_,rfl⟩) λL3 ok3=> .gt ok3 rfl
 simp only[qz2,yA];refine .has ok (λh ok1=>?_) λh=>?_
 ·simp only[yB];rw[<-yM];exact .ll (zE4 H hn (by omega) (by omega) ok1) (λ_ _=>⟨_,rfl,_,rfl⟩) λv L'=>⟨_,rfl,rfl⟩
 simp only[qz2,yA];refine .has ok (λh ok1=>?_) λh=>?_
 ·simp only[yB];rw[<-yM];refine .l (S.head _ ok1) (λ_ _=>⟨_,rfl,_,rfl⟩) λx L2 ok2=>?_
  refine(hb L2 ok2).gen (by rintro a _ ⟨y,rfl⟩;exact⟨_,rfl,_,rfl⟩) ?_
  rintro b L3 _ _ ok3 rfl;exact .gt ok3 rfl
 simp only[qz2,yA];refine .has ok (λh ok1=>?_) λh=>?_
 ·simp only[yB];rw[<-yM];refine(hb _ ok1).gen (by rintro a _ ⟨y,rfl⟩;exact⟨_,rfl,_,rfl⟩) ?_
  rintro b L3 _ _ ok3 rfl;refine .need ok3 (λ_ _=>⟨_,rfl,_,rfl⟩) λL4 ok4=>?_
  refine .l (S.head _ ok4) (λ_ _=>⟨_,rfl,_,rfl⟩) λx L2 ok2=>?_
  exact .end ok2 (λ_ _=>⟨_,rfl,_,rfl⟩) λL3 ok3=> .gt ok3 rfl
 simp only[qz2,yA];refine .has ok (λh ok1=>?_) λh=>?_
 ·simp only[yB];rw[<-yM];exact .ll (S.loop _ ok1) (λ_ _=>⟨_,rfl,_,rfl⟩) λv L'=>⟨_,rfl,rfl⟩
 simp only[qz2,yA];refine .has ok (λh ok1=>?_) λh=>?_
 ·simp only[yB];rw[<-yM];exact .ll (zDk (M:=M) H hn (by omega) 31 ok1) (λ_ _=>⟨_,rfl,_,rfl⟩) λv L'=>⟨_,rfl,rfl⟩
 simp only[qz2,yA];refine .has ok (λh ok1=>?_) λh=>?_
 ·simp only[yB];rw[<-yM];exact .ll (zDk (M:=M) H hn (by omega) 32 ok1) (λ_ _=>⟨_,rfl,_,rfl⟩) λv L'=>⟨_,rfl,rfl⟩
 simp only[qz2,yA];refine .has ok (λh ok1=>?_) λh=>?_
 ·simp only[yB];rw[<-yM,zph ok1.ok [59],qz1];cases h59:tIs [59] (L.tail.map tk)with
  |true=>
   simp only[yO,qz2,yA,Bool.false_and];exact .end ok1 (λ_ _=>⟨_,rfl,_,rfl⟩) λL3 ok3=> .gt ok3 rfl
  |false=>
   simp only[yN,yB,Bool.true_and];refine .stops ok1 ?_;cases hs:zoc (L.tail.map tk)with
   |true=>
    simp only[yO,qz2,yA];exact .end ok1 (λ_ _=>⟨_,rfl,_,rfl⟩) λL3 ok3=> .gt ok3 rfl
   |false=>
    simp only[yN,yB];refine .r (S.expr false _ ok1) (λ_ _=>⟨_,rfl,_,rfl⟩) λx L2 ok2=>?_
    exact .end ok2 (λ_ _=>⟨_,rfl,_,rfl⟩) λL3 ok3=> .gt ok3 rfl
 simp only[qz2,yA];refine .has ok (λh ok1=>?_) λh=>?_
 ·simp only[yB];rw[<-yM];obtain⟨a,r,hL⟩:=ok1.ok.cons;rw[hL]at ok1⊢;have hf:a.Fresh=ziM ((a::r).map tk):=rfl;simp only[zcQ,qz1,hf];cases hfr:ziM ((a::r).map tk)with
  |true=>
   simp only[yB];exact .fail ok1 λa=>⟨_,rfl,_,rfl⟩
  |false=>
   simp only[qz2,yA];refine .r (S.expr false _ ok1) (λ_ _=>⟨_,rfl,_,rfl⟩) λx L2 ok2=>?_
   exact .end ok2 (λ_ _=>⟨_,rfl,_,rfl⟩) λL3 ok3=> .gt ok3 rfl
 simp only[qz2,yA];refine .has ok (λh ok1=>?_) λh=>?_
 ·simp only[yB];rw[<-yM];exact .ll (zKI H hn (by omega) (by omega) ok1) (λ_ _=>⟨_,rfl,_,rfl⟩) λv L'=>⟨_,rfl,rfl⟩
 simp only[qz2,yA];refine .has ok (λh ok1=>?_) λh=>?_
 ·simp only[yB];rw[<-yM];exact .ll (zF7 H hn (by omega) (by omega) ok1) (λ_ _=>⟨_,rfl,_,rfl⟩) λv L'=>⟨_,rfl,rfl⟩
 simp only[qz2,yA];refine .is ok (λh=>?_) λh=>?_
 ·simp only[yB];exact .fail ok λa=>⟨_,rfl,_,rfl⟩
 simp only[qz2,yA];obtain⟨a,r,rfl⟩:=ok.ok.cons;have k1:=zfS ok 1;rw[show((1:Nat):Int)=1 from rfl]at k1;simp only[zcQ,qz1,k1]
 have last:SG L0 EL (OR false) (((RG M).zaf (pp (a::r) false)).bind λr_95=>
   match r_95 with
   |Sum.inl r_96=>
    (zbc r_96.2.1).bind λr_97=>
     match r_97 with
     |Sum.inl r_98=>some (Sum.inl (r_98.1,r_98.2.1,()))
     |Sum.inr r_99=>some (Sum.inr ((⟨24,[],0,[],[],[r_96.1]⟩:zg),r_99.1,()))
   |Sum.inr r_100=>some (Sum.inl (r_100.1,r_100.2.1,())))
   (((pG n).expr false ((a::r).map tk)).bd λx=>(zl6 x.2).bn λt=>gt (nd 24 [x.1],t)):=by
  refine .r (S.expr false _ ok) (λ_ _=>⟨_,rfl,_,rfl⟩) λx L2 ok2=>?_
  exact .end ok2 (λ_ _=>⟨_,rfl,_,rfl⟩) λL3 ok3=> .gt ok3 rfl
 cases h1:zaa ((a::r).map tk)==1 with
 |false=>
  simp only[qz2,yA,qz1,Bool.false_and];exact last
 |true=>
  have ok1:=ok.tail (zbd h1 (by decide));obtain⟨b,r',hr⟩:=ok1.ok.cons;obtain rfl:r=b::r':=hr;have hget:zL (a::b::r') 1=some b:=rfl;have k5:=zfS ok1 5;rw[show((5:Nat):Int)=5 from rfl]at k5
  have h58:tIs [58] ((b::r').map tk)=(zaa ((b::r').map tk)==5&&b.Text==[58]):=by
   show(opK (tk b)&&(b.Text==([58]:Str)))=((tk b).kind==5&&b.Text==([58]:Str))
   unfold opK;cases h5:(tk b).kind==5 with
   |true=>rfl
   |false=>
    simp only[Bool.false_or,Bool.false_and];cases h2:(tk b).kind==2 with
    |false=>rfl
    |true=>
     have e2:b.Kind=2:=eq_of_beq ((zfS ok1 2).trans h2);rw[Bool.true_and,yH];exact ok1.ok.colon b qz7 e2
  have ht:((a::b::r').map tk).tail=(b::r').map tk:=rfl;simp only[hget,yB,qz1,k5,Bool.true_and,ht,h58];cases h5:zaa ((b::r').map tk)==5 with
  |false=>
   simp only[qz2,yA,qz1,Bool.false_and];exact last
  |true=>
   simp only[yB,qz1,Bool.true_and];cases h6:b.Text==([58]:Str)with
   |false=>
    simp only[qz2,yA];exact last
   |true=>
    simp only[yB];have e: ∀q:PR Node,q=if(zaa ((a::b::r').map tk)==1)=true then q else bad ((a::b::r').map tk):=λq=>by rw[yL h1]
    rw[e (((pG n).stmt _).bd _)];refine .name ok (λ_ _=>⟨_,rfl,_,rfl⟩) λ_ ok1=>?_
    refine .take ok1 (zbd h5 (by decide)) λc hc ok2=>?_
    exact .l (S.stmt _ ok2) (λ_ _=>⟨_,rfl,_,rfl⟩) λx L2 ok2=> .gt ok2 rfl
include h0 in
theorem zFl(N:Nat)(hN:20*n+40<=N):ztQ L0 (RG N) (pG (n+1)):=by
 obtain⟨K,rfl⟩: ∃k,N=k+1:=⟨N -1,by omega⟩
 have m1:20*n+30<=K:=by omega
 have m2:20*n+39<=K:=by omega
 exact{
  expr:=λno L ok=>zJx H hn m1 ok
  assign:=λno L ok=>zFE H hn m1 ok
  binary:=λno b L ok hb=>zEU H hn m1 b hb ok
  unary:=λno L ok=>zHm H hn m1 ok
  mems:=λno x c L ok=>zIf H hn m1 x c ok
  made:=λno L ok=>zIU H hn m1 ok
  prim:=λno L ok=>zIo H hn m1 m2 ok
  exprs:=λno s last L ok=>zGD H hn m1 m2 s last ok
  props:=λno L ok=>zGi H hn m1 m2 ok
  func:=λno k L ok=>zH5 H hn m1 h0 k ok
  vars:=λno L ok=>zJh H hn m1 ok
  block:=λL ok=>zGR H hn m1 ok
  head:=λL ok=>zIC H hn m1 ok
  till:=λs L ok=>zIH H hn m1 s ok
  loop:=λL ok=>zI4 H hn m1 ok
  stmt:=λL ok=>zI8 H hn m2 ok
  stmts:=λf L ok=>zHr H hn m1 f ok}
end
theorem zBs{L0:List zk}(h0:L0.length<=10000000000): ∀n,n<=10000000001->∀k,k<=n->∀N,20*k+20<=N->ztQ L0 (RG N) (pG k)
 |0,_,k,hk,N,_=>by
  obtain rfl:k=0:=by omega
  constructor<;>intros<;>trivial
 |n+1,hn,k,hk,N,hN=>by
  have H:=zBs h0 n (by omega);by_cases h:k<=n
  ·exact H k h N hN
  ·obtain rfl:k=n+1:=by omega
   exact zFl H (by omega) (M:=20*n+39) (yJ _) h0 N (by omega)
def ztc(L:List zk):Node×Int×Int:=
 match(pG (10*L.length+20)).stmts true (L.map tk)with
 |none=>(nd 0 [],0,0)
 |some (.inl k)=>(nd 0 [],atK L k,80)
 |some (.inr q)=>if zaa q.2=0 then(if 64<zed (nd 41 q.1)then(nd 0 [],0,31)else(nd 41 q.1,0,0))else(nd 0 [],atK L q.2.length,80)
theorem zyw{t:zH}(w:Wf t): ∃r,(pG (10*t.length+20)).stmts true t=some r:=by
 have:=(zHE (10*t.length+20)).stmts true t w (by omega);cases h:(pG (10*t.length+20)).stmts true t with
 |none=>rw[h]at this;exact this.elim
 |some r=>exact⟨r,rfl⟩
theorem zl2{src:Str}{L:List zk}(hs:src.length<=100000000)(hc:U.zaX src=(L,0,0))(ok:TOk L)(hl:L.length<=100000000)
  (hz: ∀q,(pG (10*L.length+20)).stmts true (L.map tk)=gt q->ziy (nd 41 q.1)<=2097152):zbp src=some ((ztc L).1,(ztc L).2.1,(ztc L).2.2,()):=by
 have okL:TL L L:=⟨ok,List.suffix_refl L⟩
 have S:=(zBs (L0:=L) (by omega) (10*L.length+20) (by omega) _ (yJ _) 1000000000000 (by omega)).stmts true L okL;obtain⟨r,hr⟩:=zyw ok.wf;rw[List.length_map]at hr;unfold zbp ztc;rw[U.zCf src hs,hc];simp only[qz1,bne_self_eq_false,qz2,yA];rw[hr]at S hz⊢;cases r with
 |inl k=>
  obtain⟨r,e,y,rfl⟩:=S;have e:zaV true [125] ⟨L,false⟩=some (.inr (zY.code 45 (atK L k),y)):=e;rw[e];rfl
 |inr q=>
  obtain⟨r,L',e,e2,ok',rfl⟩:=S;have e:zaV true [125] ⟨L,false⟩=some (.inl (q.1,pp L' false,())):=e;rw[e];obtain⟨x,r,rfl⟩:=ok'.ok.cons;have k0:=zfS ok' 0;rw[show((0:Nat):Int)=0 from rfl]at k0;have hd:=zB8 (nd 41 q.1) (hz q rfl);simp only[qz1,zcQ,bne,k0];rw[<-e2];cases h0:zaa ((x::r).map tk)==0 with
  |false=>
   have h1: ¬zaa ((x::r).map tk)=0:=by simpa using h0
   rw[yK h1,ok'.at_];rfl
  |true=>
   have h1:zaa ((x::r).map tk)=0:=by simpa using h0
   rw[yL h1];simp only[yO,qz2,yA];rw[show zd5 (⟨41,[],0,[],[],q.1⟩:zg)=some ((zed (nd 41 q.1):Int),())from hd];simp only[qz1];by_cases hdp:64<zed (nd 41 q.1)
   ·rw[yL hdp,decide_eq_true (by omega)];rfl
   ·rw[yK hdp,decide_eq_false (by omega)];rfl
end Go.D08
namespace Go.D08.U
open Go Go.Gw Go.Dn Go.Proofs
set_option maxRecDepth 100000
theorem zBh{r:Str}{us:List Nat}{k:Nat}(h:zhe r=some (us,k)):us.length<=1:=by
 cases r with
 |nil=>cases h
 |cons c r=>
  unfold zhe at h;dsimp only at h;split at h
  ·cases h;simp
  ·split at h
   ·split at h
    ·cases h;simp
    ·split at h
     ·cases h
     ·cases h;simp
   ·split at h
    ·cases e:hexN 2 r 0 with
     |none=>rw[e]at h;cases h
     |some n=>rw[e]at h;cases h;simp
    ·split at h
     ·cases e:hexN 4 r 0 with
      |none=>rw[e]at h;cases h
      |some n=>rw[e]at h;cases h;simp
     ·cases e:zg7 c with
      |none=>rw[e]at h;cases h
      |some n=>rw[e]at h;cases h;simp
theorem zqG(q:UInt8): ∀(m:Nat) (r:Str) (acc us:List Nat) (k:Nat),zcd q m r acc=some (us,k)->us.length<=acc.length+m
 |0,_,_,_,_,h=>by cases h
 |m+1,[],_,_,_,h=>by cases h
 |m+1,c::r,acc,us,k,h=>by
  unfold zcd at h;split at h
  ·cases h;omega
  ·split at h
   ·cases h
   ·split at h
    ·split at h
     ·cases h
     ·rename_i us' k' he;have:=zqG q m _ _ _ _ h;have h1:=zBh he;rw[qz5]at this;omega
    ·have:=zqG q m _ _ _ _ h;rw[qz5]at this;simp only[qz3,qz6]at this;omega
theorem zDR{s:Str}{u:Str}{n e:Int}(h:zbs s=(u,n,e))(hn:n≠0): ∃us:List Nat,u=zbZ us/\us.length<=s.length:=by
 cases s with
 |nil=>cases h;exact absurd rfl hn
 |cons q r=>
  unfold zbs at h;simp only at h;split at h
  ·cases hg:zcd q (r.length+1) r []with
   |none=>rw[hg]at h;cases h;exact absurd rfl hn
   |some p=>
    obtain⟨us,k⟩:=p;rw[hg]at h;cases h;have:=zqG q _ _ _ _ _ hg;exact⟨us,rfl,by simpa using this⟩
  ·cases h;exact absurd rfl hn
structure zwj (s:Str) (t:Tok):Prop where
 len:t.Text.length<=2*s.length
 ident:t.Kind=1\/t.Kind=2->t.Text=s.take (zI s)/\zI s<=32/\∃c r,s=c::r/\isLet c=true
 word:t.Kind=1\/t.Kind=2->(t.Kind=2↔zky t.Text=true)
 num:t.Kind=3->0<=t.Num/\t.Num<=9007199254740991/\t.Text=[]
 str:t.Kind=4->∃us:List Nat,t.Text=zbZ us/\us.length<=s.length
 sign:t.Kind=5->t.Text=s.take (zba s)/\zba s≠0
theorem zJ1{s:Str}{t:Tok}{n:Nat}(h:zdp s=some (t,n)):zwj s t:=by
 cases s with
 |nil=>cases h
 |cons c s=>
  have hrow:=zhb (c::s);have hsg:=zl5 c s;unfold zdp at h;dsimp only at h;split at h
  ·rename_i hl;split at h
   ·cases h
   ·rename_i h32;cases h;have hk: ∀b:Bool,(if b=true then(2:Int)else 1)=2↔b=true:=by intro b;cases b<;>decide
    have hk3: ∀b:Bool,(if b=true then(2:Int)else 1)≠3/\(if b=true then(2:Int)else 1)≠4/\(if b=true then(2:Int)else 1)≠5:=by intro b;cases b<;>decide
    exact⟨by rw[List.length_take];omega,λ_=>⟨rfl,by omega,c,s,rfl,hl⟩,λ_=>hk _,λe=>absurd e (hk3 _).1,λe=>absurd e (hk3 _).2.1,λe=>absurd e (hk3 _).2.2⟩
  ·split at h
   ·cases hn:zeG (c::s)with
    |none=>rw[hn]at h;cases h
    |some p=>
     rw[hn]at h;cases h
     have hb:p.1<=9007199254740991:=by
      unfold zeG at hn;split at hn
      ·cases hn
      ·split at hn
       ·cases hn
       ·split at hn
        ·cases hn;assumption
        ·cases hn
     exact⟨by simp,λe=>by rcases e with e|e<;>exact absurd e (by simp),λe=>by rcases e with e|e<;>exact absurd e (by simp),λ_=>⟨by simp only;omega,by simp only;omega,rfl⟩,λe=>absurd e (by simp),λe=>absurd e (by simp)⟩
   ·split at h
    ·generalize hx:zbs (c::s)=q at h;obtain⟨u,n',e⟩:=q;simp only at h;split at h
     ·cases h
     ·rename_i hne;cases h;obtain⟨us,h1,h2⟩:=zDR hx hne;exact⟨by rw[h1,zgA];omega,λe=>by rcases e with e|e<;>exact absurd e (by simp),λe=>by rcases e with e|e<;>exact absurd e (by simp),λe=>absurd e (by simp),λ_=>⟨us,h1,h2⟩,λe=>absurd e (by simp)⟩
    ·split at h
     ·cases h
     ·rename_i hne;cases h;exact⟨by rw[List.length_take];omega,λe=>by rcases e with e|e<;>exact absurd e (by simp),λe=>by rcases e with e|e<;>exact absurd e (by simp),λe=>absurd e (by simp),λe=>absurd e (by simp),λ_=>⟨rfl,hne⟩⟩
theorem zJz: ∀b:Fin 256,zcU (UInt8.ofNat b.val)=true->b.val<128/\b.val≠32/\b.val≠58:=by decide+kernel
theorem zxt(b:UInt8)(h:zcU b=true):b<128/\b≠32/\b≠58:=by
 have:=zJz ⟨b.toNat,b.toNat_lt⟩;have e:UInt8.ofNat b.toNat=b:=by simp
 simp only[e]at this;obtain⟨h1,h2,h3⟩:=this h;exact⟨h1,λe=>h2 (by rw[e];rfl),λe=>h3 (by rw[e];rfl)⟩
theorem zFq(c:UInt8)(r:Str)(h:zba (c::r)≠0):(32:UInt8)∉(c::r).take (zba (c::r)):=by
 unfold zba at h⊢;split
 ·rename_i h3;have: ∀w∈zgt,(32:UInt8)∉w:=by decide+kernel
  exact this _ (by simpa using h3.2)
 ·split
  ·rename_i h2;have: ∀w∈zgT,(32:UInt8)∉w:=by decide+kernel
   exact this _ (by simpa using h2.2)
  ·split
   ·rename_i h1;have h1:c∈zmh:=by simpa using h1
    have: ∀c∈zmh,(32:UInt8)≠c:=by decide+kernel
    simp[this c h1]
   ·simp
theorem zpt{s:Str}{t:Tok}(o:zwj s t)(hk:t.Kind=1\/t.Kind=2):(∀b∈t.Text,zcU b=true)/\t.Text≠[]:=by
 obtain⟨h1,h2,c,r,rfl,hl⟩:=o.ident hk;have ha:=zAi (c::r);rw[<-h1]at ha;refine⟨λb hb=>List.all_eq_true.1 ha b hb,λe=>?_⟩;have:1<=zI (c::r):=by rw[zbw,yL (by simp[zcU,hl])];omega
 rw[h1]at e;have:=congrArg List.length e;rw[List.length_take]at this;simp at this;omega
inductive zmj (b:Nat):List Tok->Prop
 |fin (e:Tok):e.Kind=0->e.Text=[]->zmj b [e]
 |one (s:Str) (t:Tok) (l:List Tok):zwj s t->s.length<=b->1<=t.Kind->t.Kind<=5->zmj b l->zmj b (t::l)
theorem zwj.fresh{s:Str}{t:Tok}(o:zwj s t)(f:Bool)(n:Int):zwj s ((t.fresh f).at_ n):=⟨o.len,o.ident,o.word,o.num,o.str,o.sign⟩
theorem zzU(len:Nat): ∀(m:Nat) (s:Str) (f:Bool) (l:List (Tok×Nat)),zch m s f= .inl l->s.length<=len->zmj len (zci len l)/\(zci len l).length<=s.length+1
 |0,_,_,_,h,_=>by cases h
 |m+1,s,f,l,h,hs=>by
  have hl:=zcR (s.length+1) s f;rw[zch]at h;generalize zT (s.length+1) s f=q at h hl;obtain⟨r,f',ok⟩:=q;simp only at h hl;split at h
  ·cases h
  ·split at h
   ·cases h;exact⟨.fin _ rfl rfl,by simp[zci]⟩
   ·cases ho:zdp r with
    |none=>rw[ho]at h;cases h
    |some p=>
     obtain⟨t,n⟩:=p;rw[ho]at h;simp only at h;have hn:=zgG ho;cases hc:zch m (r.drop n) false with
     |inr k=>rw[hc]at h;cases h
     |inl l'=>
      rw[hc]at h;cases h;have hd:(r.drop n).length=r.length -n:=List.length_drop;obtain⟨g1,g2⟩:=zzU len m (r.drop n) false l' hc (by omega);rw[zmi];exact⟨.one r _ _ ((zJ1 ho).fresh f' _) (by omega) hn.2.2.1 hn.2.2.2.1 g1,by simp only[qz3];omega⟩
theorem zhm{src:Str}{L:List Tok}(h:zaX src=(L,0,0)):zmj 4096 L/\L.length<=4097/\src.length<=4096:=by
 unfold zaX at h;split at h
 ·exact absurd (congrArg (λx=>x.2.2) h) (by simp)
 ·split at h
  ·rename_i l hc;obtain rfl:zci src.length l=L:=congrArg (λx=>x.1) h;obtain⟨g1,g2⟩:=zzU src.length _ _ _ _ hc (yJ _);refine⟨?_,by omega,by omega⟩
   have up: ∀{l:List Tok},zmj src.length l->zmj 4096 l:=λh=>by
    induction h with
    |fin e h1 h2=>exact .fin e h1 h2
    |one s t l h1 h2 h3 h4 _ ih=>exact .one s t l h1 (by omega) h3 h4 ih
   exact up g1
  ·exact absurd (congrArg (λx=>x.2.2) h) (by simp)
theorem zmj.ok{L:List Tok}(h:zmj 4096 L):TOk L:=by
 induction h with
 |fin e h1 h2=>
  refine⟨?_,?_,?_,?_,?_,?_,[],e,rfl,h1,λt ht=>by cases ht⟩<;>intro t ht<;>(obtain rfl:t=e:=by simpa using ht)
  ·omega
  ·rw[h2];simp
  ·rw[h2];simp
  ·intro hk;omega
  ·intro hk;omega
  ·intro hk;omega
 |one s t l o hs k1 k5 _ ih=>
  obtain⟨a,e,e1,e2,e3⟩:=ih.last;refine⟨?_,?_,?_,?_,?_,?_,t::a,e,by rw[e1];rfl,e2,?_⟩
  ·intro x hx;rcases yP.1 hx with rfl|hx
   ·omega
   ·exact ih.kinds x hx
  ·intro x hx;rcases yP.1 hx with rfl|hx
   ·have:=o.len;omega
   ·exact ih.texts x hx
  ·intro x hx;rcases yP.1 hx with rfl|hx
   ·intro hop
    have hk:x.Kind=5\/x.Kind=2:=by
     unfold opK tk at hop;simp only[yQ,beq_iff_eq]at hop;omega
    rcases hk with hk|hk
    ·obtain⟨h1,h2⟩:=o.sign hk;rw[h1];cases s with
     |nil=>simp
     |cons c r=>exact zFq c r h2
    ·intro hm;exact(zxt 32 ((zpt o (.inr hk)).1 32 hm)).2.1 rfl
   ·exact ih.plain x hx
  ·intro x hx;rcases yP.1 hx with rfl|hx
   ·intro hk b hb;exact(zxt b ((zpt o hk).1 b hb)).1
   ·exact ih.ascii x hx
  ·intro x hx;rcases yP.1 hx with rfl|hx
   ·intro hk e;have:=(zpt o (.inr hk)).1 58 (by rw[e];exact qz7)
    exact(zxt 58 this).2.2 rfl
   ·exact ih.colon x hx
  ·intro x hx;rcases yP.1 hx with rfl|hx
   ·intro hk;have:=o.num hk;exact⟨this.1,this.2.1⟩
   ·exact ih.nums x hx
  ·intro x hx;rcases yP.1 hx with rfl|hx
   ·omega
   ·exact e3 x hx
end Go.D08.U
namespace Go.D08
open Go Go.Gw Go.Dn
set_option maxRecDepth 100000
mutual
theorem zAe: ∀a b:Node,znx a b=true↔a=b
 | ⟨k,n,m,t,ns,l⟩,⟨k',n',m',t',ns',l'⟩=>by
  have:=zAp l l';simp only[znx,qz4,beq_iff_eq,this];constructor
  ·rintro⟨⟨⟨⟨⟨rfl,rfl⟩,rfl⟩,rfl⟩,rfl⟩,rfl⟩;rfl
  ·intro e;injection e with e1 e2 e3 e4 e5 e6
   exact⟨⟨⟨⟨⟨e1,e2⟩,e3⟩,e4⟩,e5⟩,e6⟩
theorem zAp: ∀a b:List Node,zc7 a b=true↔a=b
 | [],[]=>by simp[zc7]
 | [],y::r=>by simp[zc7]
 |x::r,[]=>by simp[zc7]
 |x::r,y::q=>by
  have h1:=zAe x y;have h2:=zAp r q;simp only[zc7,qz4,h1,h2,List.cons.injEq]
end
end Go.D08
namespace Go.D08
open Go Go.Gw Go.Dn Go.Proofs
set_option maxRecDepth 100000
theorem zIB(x y:Node)(hx:zaD x<=2097152)(hy:zaD y<=2097152):zbi x y=some (znx x y,()):=by
 have h1:=zmn x;have h2:=zmn y;have h3:=zsm x;have h4:=zsm y;exact zC7 1000000000000 x y (by have:=zvW x;omega) (by omega) (by omega) (by omega) (by omega)
theorem zBl{src:Str}{L:List zk}{ns:List Node}{e:Tok}(hs:src.length<=100000000)(hc:U.zaX src=(L,0,0))(ok:TOk L)(hl:L.length<=100000000)(h:(pG (10*L.length+20)).stmts true (L.map tk)=gt (ns,[e]))(he:e.kind=0)
  (hz:ziy (nd 41 ns)<=2097152) (hd:zed (nd 41 ns)<=64):zbp src=some (nd 41 ns,0,0,()):=by
 rw[zl2 hs hc ok hl (λq hq=>by rw[h]at hq;cases hq;exact hz)]
 unfold ztc;rw[h];simp only;rw[yL (show zaa [e]=0 from he),yK (by omega)]
theorem zEV{src:Str}{L:List zk}{k:Nat}(hs:src.length<=100000000)(hc:U.zaX src=(L,0,0))(ok:TOk L)(hl:L.length<=100000000)(h:(pG (10*L.length+20)).stmts true (L.map tk)=some (.inl k)):zbp src=some (nd 0 [],atK L k,80,()):=by
 rw[zl2 hs hc ok hl (λq hq=>by rw[h]at hq;cases hq)]
 unfold ztc;rw[h]
def nm1(c:UInt8):Node:=ndN 3 [c] []
theorem zL4:zbp [97,32,61,32,98,10,43,43,99]=some (nd 41 [nd 24 [ndN 20 [61] [nm1 97,nm1 98]],nd 24 [⟨16,[43,43],1,[],[],[nm1 99]⟩]],0,0,()):=by
 have hc:U.zaX [97,32,61,32,98,10,43,43,99]=((U.zaX [97,32,61,32,98,10,43,43,99]).1,0,0):=by kernel_rfl
 obtain⟨h1,h2,_⟩:=U.zhm hc;exact zBl (e:=zEZ) (by decide) hc h1.ok (by omega) (by kernel_rfl) rfl (by decide+kernel) (by decide+kernel)
theorem zL6:zbp [114,101,116,117,114,110,10,97]=some (nd 41 [nd 33 [],nd 24 [nm1 97]],0,0,()):=by
 have hc:U.zaX [114,101,116,117,114,110,10,97]=((U.zaX [114,101,116,117,114,110,10,97]).1,0,0):=by kernel_rfl
 obtain⟨h1,h2,_⟩:=U.zhm hc;exact zBl (e:=zEZ) (by decide) hc h1.ok (by omega) (by kernel_rfl) rfl (by decide+kernel) (by decide+kernel)
theorem zL0:zbp [49,32,61,32,50]=some (nd 0 [],2,80,()):=by
 have hc:U.zaX [49,32,61,32,50]=((U.zaX [49,32,61,32,50]).1,0,0):=by kernel_rfl
 obtain⟨h1,h2,_⟩:=U.zhm hc;have:=zEV (k:=3) (by decide) hc h1.ok (by omega) (by kernel_rfl);have e:atK (U.zaX [49,32,61,32,50]).1 3=2:=by kernel_rfl
 rw[this,e]
theorem zFF:zgp=some (true,()):=by
 unfold zgp;rw[zL4,zL6,zL0];rfl
end Go.D08
namespace Go.Dn
open Go.Gw Go.RowKit Go.Deep
open Go.ChangeShapes Go.WideShapes Go.ChangeAt
set_option maxRecDepth 100000
def ziN(w:World):Heap:=λb=>w.heap[b]?
theorem zEb(w:World):(ziN w).Sub w:=⟨λ_ _ e=>e⟩
theorem zw1{w:World}{b off:Nat}{v:Value}(h:w.cell? ⟨b,off,none⟩=some v):zgP (ziN w) b off v:=by
 unfold World.cell? at h;cases hb:w.heap[b]? with
 |none=>rw[hb]at h;cases h
 |some o=>
  rw[hb]at h;cases o<;>simp only[Option.isSome_none,qz2,yA]at h<;>try cases h
  exact⟨_,_,_,hb,h⟩
structure zCz (bulk:{H:Type}->DataW H->Nat):Prop where
 agg: ∀{H:Type} (ds:List (DataW H)),(ds.map bulk).sum+1<=bulk (.agg ds)
 sl: ∀{H:Type} (es sp:List (DataW H)),(es.map bulk).sum+1<=bulk (.slice es sp)
 str: ∀{H:Type} (s:List UInt8),s.length+1<=bulk (.lit (.string s):DataW H)
 pos: ∀{H:Type} (d:DataW H),0<bulk d
section
variable {bulk:{H:Type}->DataW H->Nat}
structure OpF (bulk:{H:Type}->DataW H->Nat) (Y:Tys) (P:Program) (w:World) {α:Type} (mk:α->List (AV Y.T)) (t:TypeId) (ok:α->Prop) (ms:α->Nat) (N:Nat):Prop where
 opn: ∀{H:Type} {enc:TypeId×Value->H} {base:Nat} {spare:Nat->Bool} {held:Bool} {fuel:Nat} {cs:List Value} {x:DataW H×List MemPlace},
  fuel<=N->DataW.trod enc P w base spare held fuel t cs=some x->∃a,zF Y (ziN w) [] (mk a) cs/\ok a/\ms a<=bulk x.1
variable {Y:Tys} {P:Program} {w:World} {t e:TypeId} {N:Nat}
theorem zI1{k:IntKind}(hB:zCz bulk)(ht:P.underlying t=some (.int k)):OpF bulk Y P w (λn=>[.v (.int k n)]) t (λn=>(Lit.int k n).wf=true) (λ_=>1) N:=
 ⟨λ_ h=>by
  obtain⟨b,rfl,rfl,hw⟩:=DataW.trod_int ht h;exact⟨b,zF.cons .v zF.nil,hw,hB.pos _⟩⟩
theorem zJL(hB:zCz bulk)(ht:P.underlying t=some .string):OpF bulk Y P w (λs:Str=>[.v (.string ⟨⟨s⟩⟩)]) t (λs=>s.length<=maxLen) (λs=>s.length+1) N:=
 ⟨λ_ h=>by
  obtain⟨b,rfl,rfl,hw⟩:=DataW.trod_string ht h;exact⟨b.data.toList,zF.cons .v zF.nil,hw,hB.str _⟩⟩
end
theorem ztZ{H:Type}{enc:TypeId×Value->H}{P:Program}{W W':World}{base:Nat}{spare:Nat->Bool}{held:Bool}(hb:Below W.heap.size W W'): ∀{ts:List TypeId} {vs:List Value} {ds:List (DataW H)} {ps:List MemPlace},
  DataW.TrodAll enc P W base spare held ts vs ds ps->DataW.TrodAll enc P W' base spare held ts vs ds ps
 | [],[],[],_,h=>h
 |_::_,_::_,_::_,_,⟨p,q,⟨n,h1⟩,h2,e⟩=>⟨p,q,⟨n,DataW.trod_carry n _ _ _ h1 λx hx=>hb.same (DataW.trod_lt n _ _ _ h1 x hx)⟩,ztZ hb h2,e⟩
theorem zAF{H:Type}{enc:TypeId×Value->H}{P:Program}{f:Func}{s:ChangeSpec}{apart fresh handsOn again:Bool}{W W':World}{args:Array Value}{v:Value}{ds gs:List (DataW H)}{before pa pv:List MemPlace}
  (hW:DataW.Whole enc P f.params.toList s.vars apart W args.toList ds gs before)
  (hres: ∀(b:Nat) (sp:Nat->Bool) (hd:Bool),DataW.TrodAll enc P W' b sp hd f.resultTypes.toList (v.resultList f.resultTypes.size) (s.fn H (ds++gs)).results [])
  (hargs: ∀sp:Nat->Bool,(∀p∈before,sp p.block=true)->DataW.TrodAll enc P W' 0 sp true f.params.toList args.toList (s.fn H (ds++gs)).args pa)
  (hvars: ∀sp:Nat->Bool,(∀p∈before,sp p.block=true)->DataW.TrodVars enc P W' sp s.vars (s.fn H (ds++gs)).vars pv)
  (hps:before=pa++pv) (hb:Below W.heap.size W W')
  (hok: ∀(j:Nat) (t:TypeId) (r:Value),f.resultTypes[j]? =some t->(v.resultList f.resultTypes.size)[j]? =some r->Value.okWide P W' .any 0 t r):
  s.post enc P f apart fresh handsOn again W args v W':=by
 have hlt:=hW.lt;have hold: ∀p∈before,(λb=>decide (b<W.heap.size)) p.block=true:=λp hp=>by simpa using hlt p hp
 refine⟨ds,gs,before,[],pa,pv,hW,hres _ _ _,hargs _ hold,hvars _ hold,World.keptBut_mono (λp hp=>⟨hp,?_⟩) (hb.frame (· ∈before)),λ_=>?_⟩
 ·rw[hps,List.mem_append]at hp;exact Or.inr hp
 ·obtain⟨_,_,_,_,_,hz,hn⟩:=hW;refine⟨hok,_,_,([]++pa)++pv,⟨[]++pa,pv,trodAll_append (hargs _ (λ_ _=>rfl)) (hres _ _ _),hvars _ (λ_ _=>rfl),rfl,?_,?_⟩,?_⟩
  ·intro b off hp;have hp':MemPlace.cell b off∈before:=by rw[hps];simpa using hp
   rw[hb.frozen (p:=⟨b,off,none⟩) (hlt _ hp')];exact hz b off hp'
  ·intro ha;have:=hn ha;rw[hps]at this;simpa using this
  ·intro p hp _;rw[hps];simpa using hp
def znV{T:Nat->Type}:Out T->List (Mem T)->Option Unit
 | .ret (.v (.bool true)),_=>some ()
 |_,_=>Option.none
theorem COk.holds{Y:Tys}{hY:zaR Y}{P:Program}{G:Heap->Prop}{f:FuncId}{C:Callee Y}(h:COk hY P G f C){args:List (AV Y.T)}
  (hr:C.run args [] znV=some ()) {W:World} (hG:G (ziN W)) {vals:List Value} (hv:zF Y (ziN W) [] args vals):
  Calls P f vals.toArray W λe W'=>e= .returned (.bool true)/\Below W.heap.size W W':=by
 have h1:=h.2 args [] () _ hr W (ziN W) [] [] vals No hG hv rfl rfl (λk x p o hx=>by simp at hx) (St.start (zEb W));refine h1.mono λe W' h2=>?_
 obtain⟨res,F',ρ',os',ms',hp,hrel,_,_,_,hst,_⟩:=h2;refine⟨?_,hst.below⟩;cases hrel with
 |pan _=>cases hp
 |ret hx=>
  rename_i x u
  have key: ∀(o:Out Y.T) (m:List (Mem Y.T)),znV o m=some ()->o= .ret (.v (.bool Bool.true)):=by
   intro o m;unfold znV;split
   ·intro _;rfl
   ·intro e;cases e
  cases key _ _ hp;rw[hx.zaZ]
theorem zFr{P:Program}{W:World}{l:List (String×DataW Unit)}{name:String}{k:IntKind}{zs:List Int}{g:Nat}{t e:TypeId}{n:Nat}(hL:laidMetH P l W)(hall:(l.all λx=>x.2.handleName?.isNone)=true)
  (hf:(l.filter λx=>x.1==name)=[(name,Lib.tabData k zs)]) (hg:P.globalNamed name=some g) (hty:(P.globals[g]?).map (·.type)=some t) (ht:P.underlying t=some (.array n e)) (he:P.underlying e=some (.int k)) (hce:P.cellsOf e=1) (hct:P.cellsOf t=n) (w:World) (hs:(ziN W).Sub w):
  Lib.TabIs P w name k zs:=by
 rw[Go.MakeChecks.laidMetH_plain P l W hall]at hL;have h:=hL.filter (λx=>x.1==name);rw[hf]at h;have h2:=Lib.tabIs_of_head hg hty ht he hce hct h;unfold Lib.TabIs World.var? at h2⊢;rw[hg]at h2⊢;simp only[qz1]at h2⊢;cases hb:W.heap[g]? with
 |none=>rw[hb]at h2;cases h2
 |some o=>
  rw[hb]at h2;rw[show w.heap[g]? =some o from hs.out g o hb];exact h2
end Go.Dn
namespace Go.D08
open Go Go.Gw Go.Dn Go.RowKit Go.Proofs Go.Deep
open Go.Proofs.YtdapbipagjmolaaGreatDoor.Rows (uptoBulk uptoBulkAll)
open Go.Proofs.YtdapbipagjmolaaGreatDoor
open Go.ChangeShapes Go.WideShapes Go.ChangeAt
set_option maxRecDepth 100000
theorem zqi{H:Type}: ∀l:List (DataW H),uptoBulkAll l=(l.map uptoBulk).sum
 | []=>by simp[uptoBulkAll]
 |d::l=>by simp[uptoBulkAll,zqi l]
theorem zHa{H:Type}(d:DataW H):0<uptoBulk d:=by
 match d with
 | .lit l=>cases l<;>simp only[uptoBulk]<;>omega
 | .nil| .ptr _| .slice _ _| .agg _| .iface _ _| .map _| .held _=>simp only[uptoBulk];omega
theorem bulk:zCz (λ{H}=> @uptoBulk H):=⟨λds=>by simp only[uptoBulk,zqi];omega,λes sp=>by simp only[uptoBulk,zqi];omega,λs=>by simp only[uptoBulk];omega,zHa⟩
theorem kids:Kids Tryz.prog (· <Tryz.prog.types.size):=kids_rows (by kernel_rfl) (by kernel_rfl)
theorem full: ∀t e,t<Tryz.prog.types.size->Tryz.prog.underlying t=some (.slice e)->0<Tryz.prog.cellsOf e:=slices_full_of Tryz.prog (by kernel_rfl)
def zoe:List (String×DataW Unit):=Rows.parseBackUptoRow.laid
def zLo:List Int:=[0,1,56,2,57,49,28,3,61,58,42,50,38,29,17,4,62,47,59,36,45,43,51,22,53,39,33,30,24,18,12,5,63,55,48,27,60,41,37,16,46,35,44,21,52,32,23,11,54,26,40,15,34,20,31,10,25,14,19,9,13,8,7,6]
theorem star: "*"++ "errors.errorString"= "*errors.errorString":=by decide
theorem zKa(u:TypeId)(h:Tryz.prog.typeName? 3 u=some "*errors.errorString"):u=179:=
 typeName_ptr_named (nm:= "errors.errorString") (by rw[star];kernel_rfl) (by kernel_rfl) (by decide) u (by rw[star];exact h)
theorem zFc{W:World}{name:String}{text:List UInt8}{g:Nat}(hL:laidMetH Tryz.prog zoe W)(hf:(zoe.filter λx=>x.1==name)=[(name,.iface "*errors.errorString" (.ptr (.agg [.lit (.string text)])))])
  (hg:Tryz.prog.globalNamed name=some g) (ht:(Tryz.prog.globals[g]?).map (·.type)=some 88): ∃t p,zgP (ziN W) g 0 (.iface t p):=by
 rw[Go.MakeChecks.laidMetH_plain Tryz.prog zoe W (by kernel_rfl)]at hL;have h:=hL.filter (λx=>x.1==name);rw[hf]at h;obtain⟨a,s,hv,_,_,_⟩:=laid_sentinel h hg ht Tryz.underlying88 zKa Tryz.underlying179 Tryz.underlying181 rfl rfl Tryz.underlying9 (by kernel_rfl) (by kernel_rfl);have:=World.var?_cell hg hv 0;exact⟨_,_,zw1 (v:= .iface 179 (.pointer (some a))) (by simpa using this)⟩
theorem zHj{H:Type}{enc:TypeId×Value->H}{W:World}{base b0:Nat}{v:Value}{d:DataW H}{ps:List MemPlace}(hval:Value.okWide Tryz.prog W .any b0 9 v)(h:DataW.Trod enc Tryz.prog W base (λ_=>true) true 9 v d ps):
  ∃a:Str,Rel Y (ziN W) [] (.v (.string ⟨⟨a⟩⟩)) v/\True/\a.length+1<=uptoBulk d:=by
 obtain⟨n,hn⟩:=h;obtain⟨a,h1,h2,h3⟩:=(zJL (bulk:=λ{H}=> @uptoBulk H) (Y:=Y) (N:=n) bulk Tryz.underlying9).opn (yJ _) hn;obtain⟨s,rfl⟩:=okWide_string Tryz.underlying9 hval;refine⟨a,?_,trivial,h3⟩;obtain⟨u,vs,e,q,r⟩:=h1.inv;simp only[Value.cells]at e;cases e;exact q
theorem zHZ{W:World}(h:W.ShapedOpen Tryz.prog)(hL:laidMetH Tryz.prog zoe W):zaw (ziN W):=by
 obtain⟨m,hm⟩:=Tryz.laysM219.s1_3 W h
 have hb:=zFr (name:= "math/bits.deBruijn64tab") (k:= .u8) (zs:=zLo) (g:=7) (t:=198) (e:=5) (n:=64) hL (by kernel_rfl) (by kernel_rfl) (by kernel_rfl) (by kernel_rfl) (by kernel_rfl) (by kernel_rfl) (by kernel_rfl) (by kernel_rfl) W ⟨λ_ _ e=>e⟩
 exact⟨⟨m,zw1 hm⟩,zw1 (hb.cell (g:=7) (by kernel_rfl) 15 (by decide)),zFc (name:= "strconv.ErrSyntax") (text:=[105,110,118,97,108,105,100,32,115,121,110,116,97,120]) hL (by kernel_rfl) (by kernel_rfl) (by kernel_rfl),zFc (name:= "strconv.ErrRange") (text:=[118,97,108,117,101,32,111,117,116,32,111,102,32,114,97,110,103,101]) hL (by kernel_rfl) (by kernel_rfl) (by kernel_rfl),
  λw hs=>zFr (name:= "internal/strconv.uint64pow10") (k:= .u64) (zs:=Lib.pow10Tab) (g:=3) (t:=188) (e:=129) (n:=20) hL (by kernel_rfl) (by kernel_rfl) (by kernel_rfl) (by kernel_rfl) (by kernel_rfl) (by kernel_rfl) (by kernel_rfl) (by kernel_rfl) w hs⟩
end Go.D08
namespace Go.Proofs.YtdapbipagjmolaaGreatDoor
open Go.Proofs Go.RowKit Go.Deep
set_option maxRecDepth 1000000
noncomputable def laidWorld (os:Os):World:=World.laidAll Tryz.prog os Go.D08.zoe
theorem zGA(os:Os)(args:Array Value):((laidWorld os).forCall (λ_ _=>0) ⟨#[],args,[]⟩).variablesRefB Tryz.prog=true:=by kernel_rfl
theorem zGW(os:Os)(args:Array Value):(((laidWorld os).forCall (λ_ _=>0) ⟨#[],args,[]⟩).heap.toList.drop Tryz.prog.globals.size).take ((begin Tryz.prog (λ_ _=>0) default).world.heap.size -Tryz.prog.globals.size)=
  (begin Tryz.prog (λ_ _=>0) default).world.heap.toList.drop Tryz.prog.globals.size:=by kernel_rfl
theorem zG5(os:Os)(args:Array Value):laidMet Tryz.prog Go.D08.zoe ((laidWorld os).forCall (λ_ _=>0) ⟨#[],args,[]⟩).memory:=
 laidMet_laidAll args (by kernel_rfl) (by kernel_rfl)
end Go.Proofs.YtdapbipagjmolaaGreatDoor
namespace Go.D08
open Go Go.Gw Go.Dn Go.RowKit Go.Proofs Go.Deep
open Go.Proofs.YtdapbipagjmolaaGreatDoor.Rows (uptoBulk uptoBulkAll)
open Go.Proofs.YtdapbipagjmolaaGreatDoor
open Go.ChangeShapes Go.WideShapes Go.ChangeAt
set_option maxRecDepth 100000
theorem zGV{H:Type}{enc:TypeId×Value->H}{W:World}{base b0:Nat}{v:Value}{d:DataW H}{ps:List MemPlace}(hval:Value.okWide Tryz.prog W .any b0 3 v)(h:DataW.Trod enc Tryz.prog W base (λ_=>true) true 3 v d ps):
  ∃a:Int,Rel Y (ziN W) [] (.v (.int .i64 a)) v/\True/\1<=uptoBulk d:=by
 obtain⟨n,hn⟩:=h;obtain⟨a,h1,h2,h3⟩:=(zI1 (bulk:=λ{H}=> @uptoBulk H) (Y:=Y) (N:=n) bulk Tryz.underlying3).opn (yJ _) hn;obtain⟨s,rfl,_⟩:=okWide_int Tryz.underlying3 hval;refine⟨a,?_,trivial,h3⟩;obtain⟨u,vs,e,q,r⟩:=h1.inv;simp only[Value.cells]at e;cases e;exact q
end Go.D08
namespace Go.D08.U
open Go Go.Gw Go.Dn Go.Proofs
set_option maxRecDepth 100000
abbrev wsB(c:UInt8):Prop:=c=32\/c=9\/c=11\/c=12
def Lin(l:Str):Prop:=([47,47]:Str).isPrefixOf l=true/\∀x∈l,zah x=false
theorem pre2(r:Str):([47,47]:Str).isPrefixOf (47::47::r)=true:=rfl
theorem zKo(r:Str):([47,42]:Str).isPrefixOf (47::42::r)=true:=rfl
theorem zE7{α:Type}(p:α->Bool): ∀(l:List α) (x:α),x∈l.takeWhile p->p x=true
 | [],x,h=>by cases h
 |a::l,x,h=>by
  rw[List.takeWhile_cons]at h;split at h
  ·rename_i ha;rcases yP.1 h with rfl|h
   ·exact ha
   ·exact zE7 p l x h
  ·cases h
inductive Bk:Str->Bool->Prop
 |nil:Bk [] false
 |nl (c:UInt8) {w:Str} {b:Bool} (hc:zah c=true) (h:Bk w b):Bk (c::w) true
 |ws (c:UInt8) {w:Str} {b:Bool} (hc:wsB c) (h:Bk w b):Bk (c::w) b
 |line {l:Str} (d:UInt8) {w:Str} {b:Bool} (hl:Lin l) (hd:zah d=true) (h:Bk (d::w) b):Bk (l++d::w) b
 |block {l:Str} (n:Nat) {w:Str} {b:Bool} (hl:([47,42]:Str).isPrefixOf l=true) (he:zbM (l.drop 2)=some n) (hn:l.length=n+4) (h:Bk w b):Bk (l++w) (((l.drop 2).take n).any zah||b)
theorem zAP{c:UInt8}(h:wsB c):zah c=false:=by
 rcases h with rfl|rfl|rfl|rfl<;>decide
theorem zwY{l:Str}(h:Lin l): ∃r,l=47::47::r:=by
 obtain⟨h,_⟩:=h;rcases l with _| ⟨a,_| ⟨b,r⟩⟩
 ·cases h
 ·simp[List.isPrefixOf]at h
 ·simp only[List.isPrefixOf,Bool.and_true,qz4,beq_iff_eq]at h;obtain⟨rfl,rfl⟩:=h;exact⟨r,rfl⟩
theorem zoE{l:Str}(h:([47,42]:Str).isPrefixOf l=true): ∃r,l=47::42::r:=by
 rcases l with _| ⟨a,_| ⟨b,r⟩⟩
 ·cases h
 ·simp[List.isPrefixOf]at h
 ·simp only[List.isPrefixOf,Bool.and_true,qz4,beq_iff_eq]at h;obtain⟨rfl,rfl⟩:=h;exact⟨r,rfl⟩
theorem zxy(t:Str): ∀(s:Str) (n:Nat),zbM s=some n->zbM (s++t)=some n
 | [],n,h=>by cases h
 | [c],n,h=>by
  rw[zbM]at h;have:List.isPrefixOf [42,47] ([c]:Str)=false:=by simp[List.isPrefixOf]
  rw[this]at h;cases h
 |c::d::s,n,h=>by
  have hp:([42,47]:Str).isPrefixOf (c::d::s++t)=([42,47]:Str).isPrefixOf (c::d::s):=rfl;rw[zbM]at h;rw[yI,zbM,<-yI,hp];split at h
  ·rename_i q;rw[yL q];exact h
  ·rename_i q;rw[yK q];cases he:zbM (d::s)with
   |none=>rw[he]at h;cases h
   |some k=>rw[he]at h;rw[zxy t _ k he];exact h
theorem Bk.pass{w:Str}{b:Bool}(h:Bk w b): ∀(x:Str) (f:Bool) (M M':Nat),(w++x).length<M->x.length<M'->zT M (w++x) f=zT M' x (f||b):=by
 induction h with
 |nil=>intro x f M M' h1 h2;rw[List.nil_append,Bool.or_false];exact ziY _ _ _ _ h1 h2
 |nl c hc h ih=>
  intro x f M M' h1 h2;cases M with
  |zero=>omega
  |succ M=>
   rw[yI,zT,yL hc,ih x true M M' (by simp only[yI,qz3]at h1;omega) h2,Bool.true_or,Bool.or_true]
 |ws c hc h ih=>
  intro x f M M' h1 h2;cases M with
  |zero=>omega
  |succ M=>rw[yI,zT,yK (by rw[zAP hc];simp),yL hc,ih x f M M' (by simp only[yI,qz3]at h1;omega) h2]
 | @line l d w b hl hd h ih=>
  intro x f M M' h1 h2;cases M with
  |zero=>omega
  |succ M=>
   obtain⟨r,rfl⟩:=zwY hl;have hw: ∀y∈(47::47::r:Str),(!zah y)=true:=λy hy=>by rw[hl.2 y hy];rfl
   have e:((47::47::r:Str)++d::w++x).dropWhile (λy=> !zah y)=d::w++x:=by
    rw[yE,List.dropWhile_append_of_pos hw,yI,List.dropWhile_cons,yK (by rw[hd];simp)]
   have e0:((47::47::r:Str)++d::w++x)=47::(47::(r++d::w++x)):=rfl;rw[e0]at e⊢;rw[zT,yK (by decide),yK (by decide),yL (pre2 _),e];exact ih x f M M' (by simp only[qz5,qz3]at h1⊢;omega) h2
 | @block l n w b hl he hn h ih=>
  intro x f M M' h1 h2;cases M with
  |zero=>omega
  |succ M=>
   obtain⟨r,rfl⟩:=zoE hl;have hr:((47::42::r:Str)).drop 2=r:=rfl;rw[hr]at he⊢;have hl2:r.length=n+2:=by simp only[qz3]at hn;omega
   have e0:((47::42::r:Str)++w++x)=47::(42::(r++(w++x))):=by simp
   have e1:(47::(42::(r++(w++x))):Str).drop 2=r++(w++x):=rfl
   have e2:(47::(42::(r++(w++x))):Str).drop (n+4)=w++x:=by
    show(r++(w++x)).drop (n+2)=w++x;rw[<-hl2,List.drop_left]
   have e3:(r++(w++x)).take n=r.take n:=List.take_append_of_le_length (by omega);rw[e0,zT,yK (by decide),yK (by decide),yK (by simp[List.isPrefixOf]),yL (zKo _),e1,zxy _ _ _ he];simp only[e2,e3];rw[ih x _ M M' (by simp only[qz5,qz3]at h1⊢;omega) h2,Bool.or_assoc]
theorem zxi{l:Str}(h:Lin l)(x:Str)(hx: ∀y∈x,zah y=false)(f:Bool)(M:Nat)(hM:(l++x).length<M):zT M (l++x) f=([],f,true):=by
 obtain⟨r,rfl⟩:=zwY h
 match M,hM with
 |M+2,hM=>
  have hw: ∀y∈(47::47::r++x:Str),(!zah y)=true:=λy hy=>by
   rcases List.mem_append.1 hy with hy|hy
   ·rw[h.2 y hy];rfl
   ·rw[hx y hy];rfl
  have e:(47::47::r++x:Str).dropWhile (λy=> !zah y)=[]:=(zgO _ _).2 hw;have e0:(47::47::r++x:Str)=47::(47::(r++x)):=rfl;rw[e0]at e⊢;rw[zT,yK (by decide),yK (by decide),yL (pre2 _),e];rfl
 |1,hM=>simp at hM
def NB(r:Str):Prop:=∀g M,r.length<M->zT M r g=(r,g,true)
theorem NB.nil:NB []:=λg M h=>by cases M<;>rfl
theorem NB.head{c:UInt8}{r:Str}(h:NB (c::r)):zah c=false/\¬wsB c:=by
 have h:=h false ((c::r).length+1) (Nat.lt_succ_self _)
 have key: ∀g,zT (c::r).length r g=(c::r,false,true)->False:=λg e=>by
  have:=zcR (c::r).length r g;rw[e]at this;simp only[qz3]at this;omega
 rw[zT]at h;constructor
 ·cases e:zah c with
  |false=>rfl
  |true=>rw[yL e]at h;exact(key _ h).elim
 ·intro e;rw[yK (by rw[zAP e];simp),yL e]at h
  exact key _ h
theorem zhz: ∀(m:Nat) (s:Str) (f:Bool) (r:Str) (f':Bool),s.length<m->zT m s f=(r,f',true)->
  (∃w b,s=w++r/\Bk w b/\f'=(f||b)/\NB r)\/(r=[]/\∃w l b,s=w++l/\Bk w b/\f'=(f||b)/\Lin l)
 |0,s,f,r,f',h,_=>by omega
 |m+1,[],f,r,f',_,h=>by
  cases h;exact .inl ⟨[],false,rfl,.nil,by simp,NB.nil⟩
 |m+1,c::s,f,r,f',hl,h=>by
  simp only[qz3]at hl;rw[zT]at h;split at h
  ·rename_i hc;rcases zhz m s true r f' (by omega) h with⟨w,b,e,hb,hf,hn⟩| ⟨hr,w,l,b,e,hb,hf,hln⟩
   ·exact .inl ⟨c::w,true,by rw[e];rfl,.nl c hc hb,by rw[hf];simp,hn⟩
   ·exact .inr ⟨hr,c::w,l,true,by rw[e];rfl,.nl c hc hb,by rw[hf];simp,hln⟩
  ·rename_i hc;have hc0:zah c=false:=by simpa using hc
   split at h
   ·rename_i hw;rcases zhz m s f r f' (by omega) h with⟨w,b,e,hb,hf,hn⟩| ⟨hr,w,l,b,e,hb,hf,hln⟩
    ·exact .inl ⟨c::w,b,by rw[e];rfl,.ws c hw hb,hf,hn⟩
    ·exact .inr ⟨hr,c::w,l,b,by rw[e];rfl,.ws c hw hb,hf,hln⟩
   ·rename_i hw;split at h
    ·rename_i hp;have hsplit:(c::s).takeWhile (λx=> !zah x)++(c::s).dropWhile (λx=> !zah x)=c::s:=List.takeWhile_append_dropWhile
     have hlin:Lin ((c::s).takeWhile (λx=> !zah x)):=by
      constructor
      ·rcases s with _| ⟨b,s⟩
       ·simp[List.isPrefixOf]at hp
       ·simp only[List.isPrefixOf,Bool.and_true,qz4,beq_iff_eq]at hp;obtain⟨rfl,rfl⟩:=hp;rw[List.takeWhile_cons,yL (by decide),List.takeWhile_cons,yL (by decide)];rfl
      ·intro x hx;have:=zE7 _ _ _ hx;simpa using this
     have hdl:=zd7 (λx=> !zah x) s
     have hc47:c=47:=by
      simp only[List.isPrefixOf,qz4,beq_iff_eq]at hp;exact hp.1.symm
     have hdw:(c::s).dropWhile (λx=> !zah x)=s.dropWhile (λx=> !zah x):=by
      rw[List.dropWhile_cons,yL (by rw[hc0];rfl)]
     generalize hL:(c::s).takeWhile (λx=> !zah x)=L at hsplit hlin;generalize hD:(c::s).dropWhile (λx=> !zah x)=D at h hsplit hdw;cases D with
     |nil=>
      have:zT m [] f=([],f,true):=by cases m<;>rfl
      rw[this]at h;cases h;exact .inr ⟨rfl,[],L,false,by rw[<-hsplit];simp,.nil,by simp,hlin⟩
     |cons d D=>
      have hd:zah d=true:=by
       have:=zma (λx=> !zah x) (c::s) d D hD;simpa using this
      rcases zhz m (d::D) f r f' (by rw[hdw];omega) h with⟨w,b,e,hb,hf,hn⟩| ⟨hr,w,l,b,e,hb,hf,hln⟩
      ·cases w with
       |nil=>
        have e:d::D=r:=e;rw[<-e]at hn;have:=hn.head.1;rw[hd]at this;cases this
       |cons d' w=>
        have e:=e;simp only[yI,List.cons.injEq]at e;obtain⟨rfl,e⟩:=e;exact .inl ⟨L++d::w,b,by rw[<-hsplit,e];simp,.line d hlin hd hb,hf,hn⟩
      ·cases w with
       |nil=>
        obtain⟨q,rfl⟩:=zwY hln;simp only[List.nil_append,List.cons.injEq]at e;obtain⟨rfl,_⟩:=e;exact absurd hd (by decide)
       |cons d' w=>
        simp only[yI,List.cons.injEq]at e;obtain⟨rfl,e⟩:=e;exact .inr ⟨hr,L++d::w,l,b,by rw[<-hsplit,e];simp,.line d hlin hd hb,hf,hln⟩
    ·rename_i hp;split at h
     ·rename_i hq;cases he:zbM ((c::s).drop 2)with
      |none=>rw[he]at h;cases h
      |some n=>
       rw[he]at h;simp only at h;have hle:=zl7 _ _ he;obtain⟨q,hq2⟩:=zoE hq;have hsp:(c::s).take (n+4)++(c::s).drop (n+4)=c::s:=List.take_append_drop _ _;have hlen:(c::s).length=q.length+2:=by rw[hq2];rfl
       have hq3:(c::s).drop 2=q:=by rw[hq2];rfl
       rw[hq3]at hle he;have hpre:([47,42]:Str).isPrefixOf ((c::s).take (n+4))=true:=by rw[hq2];rfl
       have hd2:((c::s).take (n+4)).drop 2=q.take (n+2):=by rw[hq2];rfl
       have hend:zbM (((c::s).take (n+4)).drop 2)=some n:=by
        rw[hd2]
        have aux: ∀(q:Str) (n:Nat),zbM q=some n->zbM (q.take (n+2))=some n:=by
         intro q;induction q with
         |nil=>intro n h;cases h
         |cons a q ih=>
          intro n h;rw[zbM]at h;split at h
          ·rename_i hp;cases h
           obtain⟨y,hy⟩: ∃y,a::q=42::47::y:=by
            rcases q with _| ⟨b,q⟩
            ·simp[List.isPrefixOf]at hp
            ·simp only[List.isPrefixOf,Bool.and_true,qz4,beq_iff_eq]at hp;obtain⟨rfl,rfl⟩:=hp;exact⟨q,rfl⟩
           rw[hy];rfl
          ·rename_i hp;cases he:zbM q with
           |none=>rw[he]at h;cases h
           |some k=>
            rw[he]at h;cases h;have:=ih k he;have hle:=zl7 _ _ he;show zbM (a::q.take (k+2))=some (k+1);rw[zbM,yK ?_,this]
            ·rfl
            ·intro h2;apply hp;rcases q with _| ⟨b,q⟩
             ·simp at hle
             ·exact h2
        exact aux q n he
       have hlen2:((c::s).take (n+4)).length=n+4:=by rw[List.length_take,hlen];omega
       have hany:(((c::s).drop 2).take n).any zah=((((c::s).take (n+4)).drop 2).take n).any zah:=by
        rw[hq3,hd2,List.take_take];congr 2;omega
       rw[hany]at h;have hlt:((c::s).drop (n+4)).length<=s.length:=by simp only[List.length_drop,qz3];omega
       rcases zhz m _ _ r f' (by omega) h with⟨w,b,e,hb,hf,hn⟩| ⟨hr,w,l,b,e,hb,hf,hln⟩
       ·exact .inl ⟨(c::s).take (n+4)++w,_,by rw[yE,<-e,hsp],.block n hpre hend hlen2 hb,by rw[hf,Bool.or_assoc],hn⟩
       ·exact .inr ⟨hr,(c::s).take (n+4)++w,l,_,by rw[yE,<-e,hsp],.block n hpre hend hlen2 hb,by rw[hf,Bool.or_assoc],hln⟩
     ·rename_i hq;cases h;refine .inl ⟨[],false,rfl,.nil,by simp,λg M hM=>?_⟩;cases M with
      |zero=>omega
      |succ M=>rw[zT,yK hc,yK hw,yK hp,yK hq]
theorem zqc: ∀(w l:Str),w.isPrefixOf l=(l.take w.length==w)
 | [],l=>by simp[List.isPrefixOf]
 |a::w,[]=>by simp[List.isPrefixOf]
 |a::w,b::l=>by
  simp only[List.isPrefixOf,qz3,List.take_succ_cons,zqc w l,List.cons_beq_cons];rw[BEq.comm (a:=b)]
theorem zC1{w l:Str}(h:l.length<w.length):w.isPrefixOf l=false:=by
 rw[<-Bool.not_eq_true,List.isPrefixOf_iff_prefix];intro hp;have:=hp.length_le;omega
theorem zkq(s:Str)(p:Nat)(w:Str)(hp:p<=s.length)(hs:s.length<=1000000000)(hw:w.length<=1000000):za2 s (p:Int) w=some (w.isPrefixOf (s.drop p),()):=by
 unfold za2;have e:IntKind.wrap .i64 ((p:Int)+((w.length:Nat):Int))=((p+w.length:Nat):Int):=by rw[wrap_i64 (by omega) (by omega)];omega
 rw[e];by_cases h:p+w.length<=s.length
 ·have d:(((p+w.length:Nat):Int)<=((s.length:Nat):Int)):=by omega
  simp only[d,decide_true,yB,zfF s p (p+w.length) (by omega) h,qz1];have:p+w.length -p=w.length:=by omega
  rw[this,zqc]
 ·have d: ¬(((p+w.length:Nat):Int)<=((s.length:Nat):Int)):=by omega
  simp only[d,decide_false,qz2,yA,qz1];rw[zC1 (by simp only[List.length_drop];omega)]
theorem zhx{s:Str}{p:Nat}{c:UInt8}{r:Str}(h:s.drop p=c::r):s[p]? =some c/\s.drop (p+1)=r/\p<s.length:=by
 have hlt:p<s.length:=by
  rcases Nat.lt_or_ge p s.length with h'|h'
  ·exact h'
  ·rw[List.drop_eq_nil_of_le h']at h;cases h
 rw[List.drop_eq_getElem_cons hlt]at h;cases h;exact⟨qz9 hlt,rfl,hlt⟩
theorem drop_nil{s:Str}{p:Nat}(h:s.drop p=[])(hp:p<=s.length):p=s.length:=by
 have:=congrArg List.length h;simp only[List.length_drop,qz6]at this;omega
theorem zxm(c:UInt8):zah c=(decide (c=10)||decide (c=13)):=by
 unfold zah;simp[List.contains_cons,znD]
theorem zE5(s:Str)(f:Bool)(hs:s.length<=1000000000): ∀(t:Str) (p:Nat),s.drop p=t->p<=s.length->
  zaq zbI (t.length+1) (s,(p:Int),f,())=some (.inl (s,((s.length - (t.dropWhile (λx=> !zah x)).length:Nat):Int),f,()))
 | [],p,ht,hp=>by
  have e:=drop_nil ht hp;refine zW ?_;unfold zbI;simp only[e,Int.lt_irrefl,decide_false,qz2,yA,List.dropWhile_nil,qz6,Nat.sub_zero,qz1]
 |c::r,p,ht,hp=>by
  obtain⟨h1,h2,h3⟩:=zhx ht;have hlen:(c::r).length=s.length -p:=by rw[<-ht];simp
  have b10:((((c.toNat:Nat):Int))==10)=decide (c=10):=zcB c 10 (by omega);have b13:((((c.toNat:Nat):Int))==13)=decide (c=13):=zcB c 13 (by omega)
  have hst:zbI (s,(p:Int),f,())=if zah c=true then some (.inr (.inl (s,(p:Int),f,())))else some (.inl (s,((p+1:Nat):Int),f,())):=by
   unfold zbI;have d:((p:Int)< ((s.length:Nat):Int)):=by omega
   simp only[d,decide_true,yB,zeu s p c h1,qz1,bne,b10,b13,zxm,wrap_succ (show p<1000000000000 by omega)];cases decide (c=10)<;>cases decide (c=13)<;>rfl
  rw[List.dropWhile_cons];cases hn:zah c with
  |true=>
   rw[hn]at hst;rw[zW hst];simp only[yO,qz2,yA];rw[hlen];have:s.length - (s.length -p)=p:=by omega
   rw[this]
  |false=>
   rw[hn]at hst;rw[qz3,zaN hst];simp only[yN,yB];exact zE5 s f hs r (p+1) h2 (by omega)
theorem zFb(s:Str)(p0:Int)(f:Bool)(hs:s.length<=1000000000): ∀(t:Str) (p:Nat) (g:Bool),s.drop p=t->p<=s.length->
  zaq zbr (t.length+1) (s,p0,f,(p:Int),g,())=some (match zbM t with
  |some n=> .inl (s,((p+n+2:Nat):Int),(f||(g||(t.take n).any zah)),())
  |none=> .inr (p0,false,false,()))
 | [],p,g,ht,hp=>by
  have e:=drop_nil ht hp;refine zW ?_;unfold zbr;simp only[e,Int.lt_irrefl,decide_false,qz2,yA,zbM,ge_iff_le,Int.le_refl,decide_true,yB]
 |c::r,p,g,ht,hp=>by
  obtain⟨h1,h2,h3⟩:=zhx ht;have d:((p:Int)< ((s.length:Nat):Int)):=by omega
  have hb:=zkq s p [42,47] hp hs (by decide);rw[ht]at hb;have b10:((((c.toNat:Nat):Int))==10)=decide (c=10):=zcB c 10 (by omega);have b13:((((c.toNat:Nat):Int))==13)=decide (c=13):=zcB c 13 (by omega);cases hpr:([42,47]:Str).isPrefixOf (c::r)with
  |true=>
   rw[zbM,yL hpr];refine zW ?_;unfold zbr;have d2: ¬((p:Int)>=((s.length:Nat):Int)):=by omega
   have w2:IntKind.wrap .i64 ((p:Int)+2)=((p+2:Nat):Int):=by rw[wrap_i64 (by omega) (by omega)];omega
   simp only[d,d2,decide_true,decide_false,yB,hb,hpr,qz1,yO,qz2,yA,Nat.add_zero,List.take_zero,List.any_nil,Bool.or_false,w2]
  |false=>
   have hst:zbr (s,p0,f,(p:Int),g,())=some (.inl (s,p0,f,((p+1:Nat):Int),(g||zah c),())):=by
    unfold zbr;simp only[d,decide_true,yB,hb,hpr,qz1,yN,zeu s p c h1,b10,b13,zxm,wrap_succ (show p<1000000000000 by omega)];cases g<;>cases decide (c=10)<;>cases decide (c=13)<;>rfl
   rw[qz3,zaN hst,zFb s p0 f hs r (p+1) (g||zah c) h2 (by omega),zbM,yK (by rw[hpr];simp)]
   cases zbM r with
   |none=>rfl
   |some n=>
    simp only[Option.map_some,List.take_succ_cons,List.any_cons,Bool.or_assoc];have:p+1+n+2=p+(n+1)+2:=by omega
    rw[this]
def zB1(s:Str)(p:Str×Bool×Bool):Int×Bool×Bool×Unit:=(((s.length -p.1.length:Nat):Int),p.2.2&&p.2.1,p.2.2,())
theorem zgq(s:Str)(hs:s.length<=1000000000): ∀(m:Nat) (t:Str) (p:Nat) (f:Bool),s.drop p=t->p<=s.length->t.length<m->zaq zaB m (s,(p:Int),f,())=some (zB1 s (zT m t f))
 |0,t,p,f,_,_,h=>by omega
 |m+1,[],p,f,ht,hp,_=>by
  have e:=drop_nil ht hp;refine zW ?_;unfold zaB;simp only[e,Int.lt_irrefl,decide_false,qz2,yA];rfl
 |m+1,c::r,p,f,ht,hp,hm=>by
  obtain⟨h1,h2,h3⟩:=zhx ht;have hlen:(c::r).length=s.length -p:=by rw[<-ht];simp
  simp only[qz3]at hm hlen;have d:((p:Int)< ((s.length:Nat):Int)):=by omega
  have hb1:=zkq s p [47,47] hp hs (by decide);have hb2:=zkq s p [47,42] hp hs (by decide);rw[ht]at hb1 hb2;have b10:((((c.toNat:Nat):Int))==10)=decide (c=10):=zcB c 10 (by omega);have b13:((((c.toNat:Nat):Int))==13)=decide (c=13):=zcB c 13 (by omega);have b9:((((c.toNat:Nat):Int))==9)=decide (c=9):=zcB c 9 (by omega);have b11:((((c.toNat:Nat):Int))==11)=decide (c=11):=zcB c 11 (by omega);have b12:((((c.toNat:Nat):Int))==12)=decide (c=12):=zcB c 12 (by omega);have b32:((((c.toNat:Nat):Int))==32)=decide (c=32):=zcB c 32 (by omega);have hnl:=zxm c
  have hws:(decide (c=9)||decide (c=11)||decide (c=12)||decide (c=32))=decide (c=32\/c=9\/c=11\/c=12):=by
   by_cases e1:c=9<;>by_cases e2:c=11<;>by_cases e3:c=12<;>by_cases e4:c=32<;>simp[e1,e2,e3,e4]
  rw[zT];by_cases g1:zah c=true
  ·have hst:zaB (s,(p:Int),f,())=some (.inl (s,((p+1:Nat):Int),true,())):=by
    unfold zaB;simp only[d,decide_true,yB,zeu s p c h1,qz1,b10,b13,<-hnl,g1,wrap_succ (show p<1000000000000 by omega)]
   rw[yL g1,zaN hst];exact zgq s hs m r (p+1) true h2 (by omega) (by omega)
  ·have g1':zah c=false:=by simpa using g1
   rw[yK g1];by_cases g2:c=32\/c=9\/c=11\/c=12
   ·have hst:zaB (s,(p:Int),f,())=some (.inl (s,((p+1:Nat):Int),f,())):=by
     unfold zaB;simp only[d,decide_true,yB,zeu s p c h1,qz1,b10,b13,<-hnl,g1',qz2,yA,b9,b11,b12,b32,hws,g2,wrap_succ (show p<1000000000000 by omega)]
    rw[yL g2,zaN hst];exact zgq s hs m r (p+1) f h2 (by omega) (by omega)
   ·rw[yK g2]
    have common:zaB (s,(p:Int),f,())=Option.bind (za2 s (p:Int) ([47,47]:Str)) λr_10=>
      if r_10.1=true then Lp.loop zbI (s,(p:Int),f,())
      else Option.bind (za2 s (p:Int) ([47,42]:Str)) λr_11=>
       if r_11.1=true then Lp.loop zbr (s,(p:Int),f,((p+2:Nat):Int),false,())
       else some (.inr ((p:Int),f,true,())):=by
     have w2:IntKind.wrap .i64 ((p:Int)+2)=((p+2:Nat):Int):=by rw[wrap_i64 (by omega) (by omega)];omega
     unfold zaB;simp only[d,decide_true,yB,zeu s p c h1,qz1,b10,b13,<-hnl,g1',qz2,yA,b9,b11,b12,b32,hws,g2,w2,decide_false]
    by_cases g3:([47,47]:Str).isPrefixOf (c::r)=true
    ·rw[yL g3]
     have hst:zaB (s,(p:Int),f,())=some (.inl (s,((s.length - ((c::r).dropWhile (λx=> !zah x)).length:Nat):Int),f,())):=by
      rw[common,hb1,g3];simp only[qz1,yB];exact zbA (zE5 s f hs (c::r) p ht hp) (by simp only[qz3];omega)
     have hdw:(c::r).dropWhile (λx=> !zah x)=r.dropWhile (λx=> !zah x):=by
      rw[List.dropWhile_cons,yL (by simp[g1'])]
     have hl:=zd7 (λx=> !zah x) r;rw[hdw]at hst⊢;rw[zaN hst];refine zgq s hs m _ _ f ?_ (by omega) (by omega);have hsuf:r.dropWhile (λx=> !zah x)=r.drop (r.length - (r.dropWhile (λx=> !zah x)).length):=List.suffix_iff_eq_drop.1 (List.dropWhile_suffix _);rw[hsuf,<-h2,List.drop_drop];congr 1;simp only[List.length_drop];omega
    ·have g3':([47,47]:Str).isPrefixOf (c::r)=false:=by rw[<-Bool.not_eq_true];exact g3
     rw[yK g3];by_cases g4:([47,42]:Str).isPrefixOf (c::r)=true
     ·rw[yL g4]
      have hlen2:1<=r.length:=by
       cases r with
       |nil=>simp[List.isPrefixOf]at g4
       |cons d r=>simp
      have hd2:s.drop (p+2)=(c::r).drop 2:=by rw[<-ht,List.drop_drop]
      have hl3:=zbA (zFb s (p:Int) f hs _ (p+2) false hd2 (by omega)) (by simp only[List.length_drop,qz3];omega)
      cases he:zbM ((c::r).drop 2)with
      |none=>
       rw[he]at hl3;refine zW ?_;rw[common,hb1,g3',hb2,g4];simp only[qz1,qz2,yA,yB,hl3];unfold zB1;simp only[Bool.false_and,qz3];have:s.length - (r.length+1)=p:=by omega
       rw[this]
      |some n=>
       rw[he]at hl3;have hle:=zl7 _ _ he;simp only[List.length_drop,qz3]at hle
       have hst:zaB (s,(p:Int),f,())=some (.inl (s,((p+2+n+2:Nat):Int),(f||(((c::r).drop 2).take n).any zah),())):=by
        rw[common,hb1,g3',hb2,g4];simp only[qz1,qz2,yA,yB,hl3,Bool.false_or]
       rw[zaN hst];refine zgq s hs m _ _ _ ?_ (by omega) (by simp only[List.length_drop,qz3];omega)
       rw[<-ht,List.drop_drop];congr 1;omega
     ·have g4':([47,42]:Str).isPrefixOf (c::r)=false:=by rw[<-Bool.not_eq_true];exact g4
      rw[yK g4];refine zW ?_;rw[common,hb1,g3',hb2,g4'];simp only[qz1,qz2,yA];unfold zB1;simp only[Bool.true_and,qz3];have:s.length - (r.length+1)=p:=by omega
      rw[this]
theorem zx9(s:Str)(p:Nat)(hp:p<=s.length)(hs:s.length<=1000000000):zfb s (p:Int)=some (zB1 s (zT ((s.drop p).length+1) (s.drop p) false)):=by
 unfold zfb;exact zbA (zgq s hs ((s.drop p).length+1) (s.drop p) p false rfl hp (by omega)) (by simp only[List.length_drop];omega)
theorem zCG: ∀b:Fin 256,zcV ((b.val:Nat):Int)=some (isLet (UInt8.ofNat b.val),()):=by decide+kernel
theorem zDY: ∀b:Fin 256,zcx ((b.val:Nat):Int)=some (zgQ (UInt8.ofNat b.val),()):=by decide+kernel
theorem zin(c:UInt8):zcV ((c.toNat:Nat):Int)=some (isLet c,()):=by
 have:=zCG ⟨c.toNat,c.toNat_lt⟩;rwa [ofN]at this
theorem zje(c:UInt8):zcx ((c.toNat:Nat):Int)=some (zgQ c,()):=by
 have:=zDY ⟨c.toNat,c.toNat_lt⟩;rwa [ofN]at this
theorem zD7: ∀b:Fin 256,zbT ((b.val:Nat):Int)=some ((match hexV (UInt8.ofNat b.val)with|some d=>(d:Int)|none=> -1),()):=by decide+kernel
theorem zjd(c:UInt8):zbT ((c.toNat:Nat):Int)=some ((match hexV c with|some d=>(d:Int)|none=> -1),()):=by
 have:=zD7 ⟨c.toNat,c.toNat_lt⟩;rwa [ofN]at this
theorem zC3: ∀b:Fin 256,(hexV (UInt8.ofNat b.val)).isSome=true->zcU (UInt8.ofNat b.val)=true:=by decide+kernel
theorem zDG{c:UInt8}{d:Nat}(h:hexV c=some d):zcU c=true:=by
 have:=zC3 ⟨c.toNat,c.toNat_lt⟩;rw[ofN,h]at this;exact this rfl
theorem zFm(s:Str)(at_ q:Nat)(n:Int)(hq:q=s.length)(ha:at_<=q)(hs:s.length<=1000000000):zaC s (at_:Int) n (q:Int)=some (n,((q -at_:Nat):Int),()):=by
 unfold zaC;have c: ¬((q:Int)< ((s.length:Nat):Int)):=by omega
 simp only[c,decide_false,qz2,yA,zw3 ha (show q<=1000000000000 by omega)]
theorem zHO(s:Str)(at_ q:Nat)(n:Int)(c:UInt8)(hq:s[q]? =some c)(ha:at_<=q)(hs:s.length<=1000000000):zaC s (at_:Int) n (q:Int)=if zcU c=true\/c=46 then some (0,0,())else some (n,((q -at_:Nat):Int),()):=by
 have hlt:q<s.length:=(qz0 hq).1;unfold zaC;have d:((q:Int)< ((s.length:Nat):Int)):=by omega
 have b46:((((c.toNat:Nat):Int))==46)=decide (c=46):=zcB c 46 (by omega);simp only[d,decide_true,yB,zeu s q c hq,qz1,zin,zje,b46,zw3 ha (show q<=1000000000000 by omega)];unfold zcU;cases isLet c<;>cases zgQ c<;>by_cases h46:c=46<;>simp[h46]
def zmY(t:Str)(o a to_ at_:Nat):Int×Int×Unit:=
 if t[zI t]? =some 46 then(0,0,())
 else match zcl o (t.take (zI t)) a with
  |none=>(0,0,())
  |some n=>if n<=9007199254740991 then((n:Int),((to_+zI t -at_:Nat):Int),())else(0,0,())
theorem zkR(s:Str)(hs:s.length<=1000000000)(at_ o:Nat)(ho:o=10\/o=16)(h48:o=10->s[at_]? ≠some 48)(ha0:at_<s.length): ∀(t:Str) (q a:Nat),s.drop q=t->q<=s.length->at_<=q->a<=9007199254740991->
  zaq zM (t.length+1) (s,(at_:Int),(o:Int),(a:Int),(q:Int),())=some (zmY t o a q at_)
 | [],q,a,ht,hq,haq,ha=>by
  have e:=drop_nil ht hq;refine zW ?_;unfold zM;have c: ¬((q:Int)< ((s.length:Nat):Int)):=by omega
  simp only[c,decide_false,qz2,yA];rw[zFm s at_ q _ e haq hs];unfold zmY;have hr:zI ([]:Str)=0:=rfl;simp[hr,zcl,ha,ze5]
 |c::r,q,a,ht,hq,haq,ha=>by
  obtain⟨h1,h2,h3⟩:=zhx ht;have d:((q:Int)< ((s.length:Nat):Int)):=by omega
  have stop:(∀dv,hexV c=some dv->¬dv<o)->zaq zM ((c::r).length+1) (s,(at_:Int),(o:Int),(a:Int),(q:Int),())=some (zmY (c::r) o a q at_):=by
   intro hno;refine zW ?_
   have hst:zM (s,(at_:Int),(o:Int),(a:Int),(q:Int),())=ze5 Sum.inr (zaC s (at_:Int) (a:Int) (q:Int)):=by
    unfold zM;simp only[d,decide_true,yB,zeu s q c h1,qz1,zjd];cases hv:hexV c with
    |none=>
     have: ¬((-1:Int)>=0):=by omega
     simp only[this,decide_false,qz2,yA]
    |some dv=>
     have e1:((dv:Int)>=0):=by omega
     have e2: ¬((dv:Int)< (o:Int)):=by have:=hno dv hv;omega
     simp only[e1,e2,decide_true,decide_false,yB,qz2,yA]
   rw[hst,zHO s at_ q _ c h1 haq hs];unfold zmY;rw[zbw];cases hld:zcU c with
   |true=>
    simp only[true_or,yB,List.take_succ_cons,List.getElem?_cons_succ]
    have hp:zcl o (c::r.take (zI r)) a=none:=by
     unfold zcl;cases hv:hexV c with
     |none=>rfl
     |some dv=>simp only[hno dv hv,yA]
    rw[hp];split<;>rfl
   |false=>
    simp only[qz2,false_or,yA,List.getElem?_cons_zero,Option.some.injEq,List.take_zero,zcl,ha,yB,Nat.add_zero];split<;>rfl
  cases hv:hexV c with
  |none=>exact stop (λdv h=>by rw[hv]at h;cases h)
  |some dv=>
   by_cases hdv:dv<o
   ·have hld:=zDG hv
    have hans:zmY (c::r) o a q at_=zmY r o (a*o+dv) (q+1) at_:=by
     unfold zmY;rw[zbw,yL hld];simp only[List.getElem?_cons_succ,List.take_succ_cons,zcl,hv,hdv,yB];have:q+(zI r+1)=q+1+zI r:=by omega
     rw[this]
    have hmul:a*o<=9007199254740991*16:=Nat.mul_le_mul ha (by omega);have em:((a:Int)*(o:Int))=((a*o:Nat):Int):=by simp
    have wm:IntKind.wrap .i64 ((a:Int)*(o:Int))=((a*o:Nat):Int):=by rw[em];exact wrap_i64 (by omega) (by omega)
    have hd16:=zwe hv;have ws:IntKind.wrap .i64 (((a*o:Nat):Int)+(dv:Int))=((a*o+dv:Nat):Int):=by rw[wrap_i64 (by omega) (by omega)];omega
    have hst:zM (s,(at_:Int),(o:Int),(a:Int),(q:Int),())=if a*o+dv<=9007199254740991 then some (.inl (s,(at_:Int),(o:Int),((a*o+dv:Nat):Int),((q+1:Nat):Int),()))else some (.inr (0,0,())):=by
     unfold zM;have e1:((dv:Int)>=0):=by omega
     have e2:((dv:Int)< (o:Int)):=by omega
     simp only[d,decide_true,yB,zeu s q c h1,qz1,zjd,hv,e1,e2,wm,ws,wrap_succ (show q<1000000000000 by omega)];by_cases hmax:a*o+dv<=9007199254740991
     ·have e3: ¬(((a*o+dv:Nat):Int)>9007199254740991):=by omega
      simp only[e3,hmax,decide_false,qz2,yA,yB];rcases ho with rfl|rfl
      ·have hx:s[at_]? =some s[at_]:=qz9 ha0;have b48:((((s[at_].toNat:Nat):Int))==48)=decide (s[at_]=48):=zcB s[at_] 48 (by omega)
       have hne: ¬(s[at_]=48):=by
        intro e;exact h48 rfl (by rw[hx,e])
       have e10:((((10:Nat):Int))==10)=true:=rfl;simp only[e10,yB,zeu s at_ _ hx,qz1,b48,hne,decide_false,qz2,yA]
      ·have e16:((((16:Nat):Int))==10)=false:=rfl;simp only[e16,qz2,yA,qz1]
     ·have e3:(((a*o+dv:Nat):Int)>9007199254740991):=by omega
      simp only[e3,hmax,decide_true,yB,yA]
    rw[hans];by_cases hmax:a*o+dv<=9007199254740991
    ·rw[yL hmax]at hst;rw[qz3,zaN hst];exact zkR s hs at_ o ho h48 ha0 r (q+1) (a*o+dv) h2 (by omega) (by omega) hmax
    ·rw[yK hmax]at hst;rw[zW hst];unfold zmY;split
     ·rfl
     ·cases hp:zcl o (r.take (zI r)) (a*o+dv)with
      |none=>rfl
      |some n=>
       have:=zwX (by omega) _ _ _ hp;have h3: ¬(n<=9007199254740991):=by omega
       simp only[h3,yA]
   ·exact stop (λx h=>by rw[hv]at h;cases h;exact hdv)
def zye:Str->Bool
 |c::x::h::_=>decide (c=48/\(x=120\/x=88))&&(hexV h).isSome
 |_=>false
theorem zCV(s:Str)(hs:s.length<=1000000000)(p:Nat)(t:Str)(ht:s.drop p=t)(hp:p<=s.length):
  zdO s (p:Int)=if zye t=true then Lp.loop zM (s,(p:Int),16,0,((p+2:Nat):Int),())else Lp.loop zM (s,(p:Int),10,0,(p:Int),()):=by
 have hb1:=zkq s p [48,120] hp hs (by decide);have hb2:=zkq s p [48,88] hp hs (by decide);have w2:IntKind.wrap .i64 ((p:Int)+2)=((p+2:Nat):Int):=by rw[wrap_i64 (by omega) (by omega)];omega
 have hlen:t.length=s.length -p:=by rw[<-ht];simp
 rw[ht]at hb1 hb2;unfold zdO;rw[hb1,hb2];simp only[qz1,w2];generalize Lp.loop zM (s,(p:Int),16,0,((p+2:Nat):Int),())=L16;generalize Lp.loop zM (s,(p:Int),10,0,(p:Int),())=L10
 match t,ht,hlen with
 | [],_,_=>rfl
 | [c],_,_=>
  have e1:List.isPrefixOf [48,120] [c]=false:=by simp[List.isPrefixOf]
  have e2:List.isPrefixOf [48,88] [c]=false:=by simp[List.isPrefixOf]
  rw[e1,e2];rfl
 | [c,x],_,hlen=>
  simp only[qz3,qz6]at hlen;have d: ¬(((p+2:Nat):Int)< ((s.length:Nat):Int)):=by omega
  simp only[d,decide_false,qz2,yA,Bool.and_false];cases List.isPrefixOf [48,120] [c,x]<;>rfl
 |c::x::h::r,ht,hlen=>
  simp only[qz3]at hlen;have d:(((p+2:Nat):Int)< ((s.length:Nat):Int)):=by omega
  have hg:s[p+2]? =some h:=by
   have:(s.drop p)[2]? =some h:=by rw[ht];rfl
   rwa [List.getElem?_drop]at this
  have e1:List.isPrefixOf [48,120] (c::x::h::r)=decide (c=48/\x=120):=by
   by_cases q1:c=48<;>by_cases q2:x=120<;>simp[List.isPrefixOf,q1,q2,znD,eq_comm]
  have e2:List.isPrefixOf [48,88] (c::x::h::r)=decide (c=48/\x=88):=by
   by_cases q1:c=48<;>by_cases q2:x=88<;>simp[List.isPrefixOf,q1,q2,znD,eq_comm]
  rw[e1,e2];simp only[d,decide_true,yB,zeu s (p+2) h hg,qz1,zjd,Bool.and_true];unfold zye;cases hh:hexV h<;>by_cases q1:c=48<;>by_cases q2:x=120<;>by_cases q3:x=88<;>simp[q1,q2,q3,hh]
theorem zyZ(s:Str)(hs:s.length<=1000000000)(p:Nat)(c:UInt8)(r:Str)(ht:s.drop p=c::r)(hc:zgQ c=true)(hp:p<=s.length):zdO s (p:Int)=some (match zeG (c::r)with|some (n,k)=>((n:Int),(k:Int),())|none=>(0,0,())):=by
 obtain⟨h1,h2,h3⟩:=zhx ht;have hldc:zcU c=true:=by unfold zcU;rw[hc,Bool.or_true]
 rw[zCV s hs p _ ht hp];cases hx:zye (c::r)with
 |true=>
  simp only[yB]
  match r,hx with
  |x::h::r,hx=>
   simp only[zye,qz4,yT]at hx;obtain⟨⟨rfl,hx1⟩,hx2⟩:=hx;obtain⟨d,hd⟩:=Option.isSome_iff_exists.1 hx2;have hldx:zcU x=true:=by rcases hx1 with rfl|rfl<;>decide
   have hldh:=zDG hd;have ht2:s.drop (p+2)=h::r:=by rw[<-List.drop_drop,ht];rfl
   have hl:=zkR s hs p 16 (.inr rfl) (by intro e;cases e) h3 (h::r) (p+2) 0 ht2 (by have:=(zhx ht2).2.2;omega) (by omega) (by omega)
   have hrl:(h::r).length<=s.length:=by rw[<-ht2];simp
   rw[show Lp.loop zM (s,(p:Int),16,0,((p+2:Nat):Int),())=some (zmY (h::r) 16 0 (p+2) p)from zbA hl (by omega)];unfold zmY zeG zvv;have e1:zI (48::x::h::r)=zI (h::r)+2:=by rw[zbw,yL hldc,zbw (c:=x),yL hldx]
   have e2:1<=zI (h::r):=by rw[zbw,yL hldh];omega
   have e3:(48::x::h::r:Str)[zI (h::r)+2]? =(h::r)[zI (h::r)]? :=rfl;have e4:(48::x::h::r:Str).take (zI (h::r)+2)=48::x::(h::r).take (zI (h::r)):=rfl;rw[e1,e3,e4];have hle:=zhb (h::r);have e5:2< (48::x::(h::r).take (zI (h::r)):Str).length:=by simp only[qz3,List.length_take];simp only[qz3]at hle;omega
   have e6:(48::x::(h::r).take (zI (h::r)):Str).take 2=[48,x]:=rfl;have e7:(48::x::(h::r).take (zI (h::r)):Str).drop 2=(h::r).take (zI (h::r)):=rfl;have e8:([48,x]:Str)=[48,120]\/([48,x]:Str)=[48,88]:=by rcases hx1 with rfl|rfl<;>simp
   rw[e6,e7];by_cases h46:(h::r)[zI (h::r)]? =some 46
   ·rw[yL h46,yL h46]
   ·rw[yK h46,yK h46,yL ⟨e5,e8⟩];cases zcl 16 ((h::r).take (zI (h::r))) 0 with
    |none=>rfl
    |some n=>
     simp only;by_cases hm:n<=9007199254740991
     ·simp only[hm,yB];have:p+2+zI (h::r) -p=zI (h::r)+2:=by omega
      rw[this]
     ·simp only[hm,yA]
 |false=>
  simp only[qz2,yA];by_cases h48:c=48
  ·subst h48
   have hst:zM (s,(p:Int),10,0,(p:Int),())=ze5 Sum.inr (zaC s (p:Int) 0 ((p+1:Nat):Int)):=by
    unfold zM;have d:((p:Int)< ((s.length:Nat):Int)):=by omega
    have hv:hexV 48=some 0:=by decide
    have hg:=zeu s p 48 h1;simp only[d,decide_true,yB,hg,qz1,zjd,hv,wrap_succ (show p<1000000000000 by omega)];rfl
   have done: ∀v:Int×Int×Unit,zaC s (p:Int) 0 ((p+1:Nat):Int)=some v->Lp.loop zM (s,(p:Int),10,0,(p:Int),())=some v:=λv hv=>by
    rw[hv]at hst;exact zbA (n:=1) (zW hst) (by omega)
   cases r with
   |nil=>
    have hl1:p+1=s.length:=drop_nil h2 (by omega);rw[done _ (zFm s p (p+1) 0 hl1 (by omega) hs)];have:p+1 -p=1:=by omega
    rw[this];have hn:zeG [48]=some (0,1):=by decide
    rw[hn];rfl
   |cons x r=>
    obtain⟨k1,k2,k3⟩:=zhx h2;have hat:=zHO s p (p+1) 0 x k1 (by omega) hs;have:p+1 -p=1:=by omega
    rw[this]at hat
    have hat2:Lp.loop zM (s,(p:Int),10,0,(p:Int),())=if zcU x=true\/x=46 then some (0,0,())else some (0,((1:Nat):Int),()):=by
     by_cases hq:zcU x=true\/x=46
     ·rw[yL hq]at hat⊢;exact done _ hat
     ·rw[yK hq]at hat⊢;exact done _ hat
    rw[hat2];unfold zeG zvv;have e1:zI (48::x::r)=zI (x::r)+1:=by rw[zbw,yL hldc]
    rw[e1];have e3:(48::x::r:Str)[zI (x::r)+1]? =(x::r)[zI (x::r)]? :=rfl;have e4:(48::x::r:Str).take (zI (x::r)+1)=48::(x::r).take (zI (x::r)):=rfl;rw[e3,e4];cases hld:zcU x with
    |false=>
     have e5:zI (x::r)=0:=by rw[zbw,hld];rfl
     rw[e5];simp only[List.getElem?_cons_zero,Option.some.injEq,qz2,false_or,List.take_zero];by_cases h46:x=46
     ·simp only[h46,yB]
     ·simp only[h46,yA];rfl
    |true=>
     simp only[true_or,yB];have e5:zI (x::r)=zI r+1:=by rw[zbw,yL hld]
     rw[e5];have e6:(x::r).take (zI r+1)=x::r.take (zI r):=rfl;rw[e6];by_cases h46:(x::r)[zI r+1]? =some 46
     ·rw[yL h46]
     ·rw[yK h46]
      have hnone:(if 2< (48::x::r.take (zI r):Str).length/\((48::x::r.take (zI r):Str).take 2=[48,120]\/(48::x::r.take (zI r):Str).take 2=[48,88])then zcl 16 ((48::x::r.take (zI r):Str).drop 2) 0
        else if 1< (48::x::r.take (zI r):Str).length/\(48::x::r.take (zI r):Str).head?=some 48 then none
        else zcl 10 (48::x::r.take (zI r)) 0)=none:=by
       have e7:(48::x::r.take (zI r):Str).take 2=[48,x]:=rfl;have e8:(48::x::r.take (zI r):Str).drop 2=r.take (zI r):=rfl;rw[e7,e8];by_cases hh:2< (48::x::r.take (zI r):Str).length/\(([48,x]:Str)=[48,120]\/([48,x]:Str)=[48,88])
       ·rw[yL hh];obtain⟨hh1,hh2⟩:=hh;cases r with
        |nil=>simp at hh1
        |cons h r=>
         have hrow:1<=zI (h::r):=by
          simp only[qz3,List.length_take]at hh1;omega
         have hx12:x=120\/x=88:=by simpa using hh2
         have hnx:(hexV h).isSome=false:=by
          have hx':=hx;simp only[zye]at hx';have:decide (True/\(x=120\/x=88))=true:=by simpa using hx12
          rw[this,Bool.true_and]at hx';exact hx'
         have e9:(h::r).take (zI (h::r))=h::r.take (zI (h::r) -1):=by
          cases hk:zI (h::r)with
          |zero=>omega
          |succ k=>rfl
         rw[e9];unfold zcl;cases hv:hexV h with
         |none=>rfl
         |some d=>rw[hv]at hnx;cases hnx
       ·rw[yK hh,yL ⟨by simp,rfl⟩]
      rw[hnone]
  ·have hl:=zkR s hs p 10 (.inl rfl) (by intro _;rw[h1];simpa using h48) h3 (c::r) p 0 ht hp (yJ _) (by omega)
   have hrl:(c::r).length<=s.length:=by rw[<-ht];simp
   rw[show Lp.loop zM (s,(p:Int),10,0,(p:Int),())=some (zmY (c::r) 10 0 p p)from zbA hl (by omega)];unfold zmY zeG zvv;have e1:zI (c::r)=zI r+1:=by rw[zbw,yL hldc]
   rw[e1];have e4:(c::r).take (zI r+1)=c::r.take (zI r):=rfl;rw[e4]
   have n1: ¬((c::r.take (zI r):Str).take 2=[48,120]\/(c::r.take (zI r):Str).take 2=[48,88]):=by
    simp only[List.take_succ_cons,List.cons.injEq,h48,false_and,or_self,not_false_eq_true]
   have n2: ¬((c::r.take (zI r):Str).head?=some 48):=by simpa using h48
   by_cases h46:(c::r)[zI r+1]? =some 46
   ·rw[yL h46,yL h46]
   ·rw[yK h46,yK h46,yK (λh=>n1 h.2),yK (λh=>n2 h.2)];cases zcl 10 (c::r.take (zI r)) 0 with
    |none=>rfl
    |some n=>
     simp only;by_cases hm:n<=9007199254740991
     ·simp only[hm,yB];have:p+(zI r+1) -p=zI r+1:=by omega
      rw[this]
     ·simp only[hm,yA]
theorem zpm(l:List Nat)(h:l.length<=100000000)(hl: ∀n∈l,n<65536): ∀(r:List Nat) (i:Nat) (acc:List UInt8),l.drop i=r->i<=l.length->acc=zbZ (l.take i)->
  zaq zcI (r.length+1) (zdI l,((l.length:Nat):Int),(i:Int),acc,())=some (zbZ l,())
 | [],i,acc,hr,hi,ha=>by
  have hle:=List.drop_eq_nil_iff.1 hr;refine zW ?_;unfold zcI;have c: ¬((i:Int)< ((l.length:Nat):Int)):=by omega
  simp only[c,decide_false,qz2,yA,ha];rw[List.take_of_length_le hle]
 |n::r,i,acc,hr,hi,ha=>by
  have hlt:i<l.length:=by
   rcases Nat.lt_or_ge i l.length with h'|h'
   ·exact h'
   ·rw[List.drop_eq_nil_of_le h']at hr;cases hr
  have hcons:=List.drop_eq_getElem_cons hlt;rw[hr]at hcons;obtain⟨hn,h2⟩:=List.cons.inj hcons;have hb:=hl l[i] (List.getElem_mem _);have c:((i:Int)< ((l.length:Nat):Int)):=by omega
  have e1:(zdI l)[i]? =some (l[i]:Int):=by simp[zdI,hlt]
  have t1:Int.tdiv ((l[i]:Nat):Int) 256=((l[i]/256:Nat):Int):=rfl;have t2:Int.tmod ((l[i]:Nat):Int) 256=((l[i]%256:Nat):Int):=rfl;have w2:IntKind.wrap .i64 ((l[i]/256:Nat):Int)=((l[i]/256:Nat):Int):=wrap_i64 (by omega) (by omega);have w3:IntKind.wrap .u8 ((l[i]/256:Nat):Int)=((l[i]/256:Nat):Int):=wrap_u8 (by omega) (by omega);have w4:IntKind.wrap .u8 ((l[i]%256:Nat):Int)=((l[i]%256:Nat):Int):=wrap_u8 (by omega) (by omega);have b1:=zCw (n:=((l[i]/256:Nat):Int)) (by omega) (by omega);have b2:=zCw (n:=((l[i]%256:Nat):Int)) (by omega) (by omega)
  have hr':room (acc.length+2)=some ():=by
   have:(zbZ (l.take i)).length<=2*l.length:=by rw[zgA,List.length_take];omega
   unfold room;rw[yL (by rw[ha];omega)]
  have hst:zcI (zdI l,((l.length:Nat):Int),(i:Int),acc,())=some (.inl (zdI l,((l.length:Nat):Int),((i+1:Nat):Int),acc++enc1 l[i],())):=by
   unfold zcI;simp only[c,decide_true,yB,ze3,e1,qz1,t1,t2,w2,w3,w4,b1,b2,qz3,qz6,hr',wrap_succ (show i<1000000000000 by omega)];simp only[enc1,Int.toNat_natCast]
  rw[qz3,zaN hst];refine zpm l h hl r (i+1) _ h2.symm (by omega) ?_;rw[ha,List.take_add_one,qz9 hlt,Option.toList_some,zCO];simp[zbZ]
theorem zAw(l:List Nat)(h:l.length<=100000000)(hl: ∀n∈l,n<65536):zgo (zdI l)=some (zbZ l,()):=by
 unfold zgo;have hlen:(zdI l).length=l.length:=by simp[zdI]
 rw[hlen];exact zbA (zpm l h hl l 0 [] rfl (by omega) rfl) (by omega)
theorem zxX: ∀b:Fin 256,zej ((b.val:Nat):Int)=some ((match hexV (UInt8.ofNat b.val)with|some d=>(d:Int)|none=> -1),()):=by decide+kernel
theorem zrU(c:UInt8):zej ((c.toNat:Nat):Int)=some ((match hexV c with|some d=>(d:Int)|none=> -1),()):=by
 have:=zxX ⟨c.toNat,c.toNat_lt⟩;rwa [ofN]at this
theorem zwH(s:Str)(at_:Nat)(hs:s.length<=100000000)(ha:at_<=100000001): ∀(m i a many:Nat),m+i=many->many<=4->a<16^i->
  zaq zbq (m+1) (s,(at_:Int),(a:Int),(many:Int),(i:Int),())=some ((match hexN m (s.drop (at_+i)) a with
   |none=> -1
   |some n=>(n:Int)),()):=by
 intro m;induction m with
 |zero=>
  intro i a many h1 h2 h3;refine zW ?_;unfold zbq;have c: ¬((i:Int)< (many:Int)):=by omega
  simp only[c,decide_false,qz2,yA,hexN]
 |succ m ih=>
  intro i a many h1 h2 h3;have c:((i:Int)< (many:Int)):=by omega
  have w1:IntKind.wrap .i64 ((at_:Int)+(i:Int))=((at_+i:Nat):Int):=by rw[wrap_i64 (by omega) (by omega)];omega
  by_cases hlen:at_+i<s.length
  ·have c2: ¬(((at_+i:Nat):Int)>=((s.length:Nat):Int)):=by omega
   rw[List.drop_eq_getElem_cons hlen];simp only[hexN];cases hv:hexV s[at_+i]with
   |none=>
    refine zW ?_;unfold zbq;have cm:((-1:Int)<0):=by omega
    simp only[c,decide_true,yB,w1,c2,decide_false,qz2,yA,zfz,qz9 hlen,Option.map_some,qz1,zrU,hv,cm]
   |some d=>
    have hd:=zwe hv;have ha4:a<4096:=Nat.lt_of_lt_of_le h3 (Nat.le_trans (Nat.pow_le_pow_right (by omega) (show i<=3 by omega)) (by decide));have w2:IntKind.wrap .i64 (16*(a:Int))=((16*a:Nat):Int):=by rw[wrap_i64 (by omega) (by omega)];omega
    have w3:IntKind.wrap .i64 (((16*a:Nat):Int)+(d:Int))=((16*a+d:Nat):Int):=by rw[wrap_i64 (by omega) (by omega)];omega
    have w4:IntKind.wrap .i64 ((i:Int)+1)=((i+1:Nat):Int):=by rw[wrap_i64 (by omega) (by omega)];omega
    have c3: ¬((d:Int)<0):=by omega
    have hgo:zbq (s,(at_:Int),(a:Int),(many:Int),(i:Int),())=some (.inl (s,(at_:Int),((16*a+d:Nat):Int),(many:Int),((i+1:Nat):Int),())):=by
     unfold zbq;simp only[c,decide_true,yB,w1,c2,decide_false,qz2,yA,zfz,qz9 hlen,Option.map_some,qz1,zrU,hv,c3,w2,w3,w4]
    rw[zaN hgo];exact ih (i+1) (16*a+d) many (by omega) h2 (by rw[Nat.pow_succ];omega)
  ·have c2:(((at_+i:Nat):Int)>=((s.length:Nat):Int)):=by omega
   rw[List.drop_eq_nil_of_le (by omega)];refine zW ?_;unfold zbq;simp only[c,decide_true,yB,w1,c2,hexN]
theorem zpj(s:Str)(at_ many:Nat)(hs:s.length<=100000000)(ha:at_<=100000001)(hm:many<=4):zcf s (at_:Int) (many:Int)=some ((match hexN many (s.drop at_) 0 with
  |none=> -1
  |some n=>(n:Int)),()):=by
 unfold zcf;exact zbA (zwH s at_ hs ha many 0 0 many (by omega) hm (by decide)) (by omega)
theorem zw0: ∀b:Fin 256,zfd ((b.val:Nat):Int)=some ((match zg7 (UInt8.ofNat b.val)with
 |none=> -1
 |some d=>(d:Int)),()):=by decide+kernel
theorem zyO(b:UInt8):zfd ((b.toNat:Nat):Int)=some ((match zg7 b with
 |none=> -1
 |some d=>(d:Int)),()):=by
 have:=zw0 ⟨b.toNat,b.toNat_lt⟩;rwa [ofN]at this
theorem zxk(s:Str)(at_:Nat)(hs:s.length<=100000000)(ha:at_<=s.length):zeL s (at_:Int)=some (match zhe (s.drop at_)with
  |none=>([],-1,())
  |some (us,k)=>(zdI us,(k:Int),())):=by
 unfold zeL;by_cases hl:at_<s.length
 ·have c: ¬((at_:Int)>=((s.length:Nat):Int)):=by omega
  rw[List.drop_eq_getElem_cons hl];have hg:=qz9 hl;have w1:IntKind.wrap .i64 ((at_:Int)+1)=((at_+1:Nat):Int):=by rw[wrap_i64 (by omega) (by omega)];omega
  have d2:=zpj s (at_+1) 2 hs (by omega) (by omega);have d4:=zpj s (at_+1) 4 hs (by omega) (by omega)
  have d2':zcf s ((at_+1:Nat):Int) 2=some ((match hexN 2 (s.drop (at_+1)) 0 with
   |none=> -1
   |some n=>(n:Int)),()):=d2
  have d4':zcf s ((at_+1:Nat):Int) 4=some ((match hexN 4 (s.drop (at_+1)) 0 with
   |none=> -1
   |some n=>(n:Int)),()):=d4
  have u8b: ∀n:Nat,n<256->((((s[at_].toNat:Nat):Int))==((n:Nat):Int))=decide (s[at_]=UInt8.ofNat n):=λn h=>by
   rw[zgK,decide_eq_decide];exact(zkp _ n h).symm
  have b10:((((s[at_].toNat:Nat):Int))==10)=decide (s[at_]=10):=u8b 10 (by omega);have b48:((((s[at_].toNat:Nat):Int))==48)=decide (s[at_]=48):=u8b 48 (by omega);have b120:((((s[at_].toNat:Nat):Int))==120)=decide (s[at_]=120):=u8b 120 (by omega);have b117:((((s[at_].toNat:Nat):Int))==117)=decide (s[at_]=117):=u8b 117 (by omega);simp only[c,decide_false,qz2,yA,zfz,hg,Option.map_some,qz1,b10,b48,b120,b117,w1,d2',d4',zyO,zhe,yT];by_cases h10:s[at_]=10
  ·simp only[h10,yB];rfl
  simp only[h10,yA];by_cases h48:s[at_]=48
  ·simp only[h48,yB];by_cases hl2:at_+1<s.length
   ·have c2:(((at_+1:Nat):Int)< ((s.length:Nat):Int)):=by omega
    rw[List.drop_eq_getElem_cons hl2];simp only[c2,yB,qz9 hl2,Option.map_some,qz1];by_cases hd1:48<=s[at_+1].toNat
    ·have cd:(((s[at_+1].toNat:Nat):Int)>=48):=by omega
     by_cases hd2:s[at_+1].toNat<=57
     ·have cd2:(((s[at_+1].toNat:Nat):Int)<=57):=by omega
      simp[cd,cd2,hd1,hd2]
     ·have cd2: ¬(((s[at_+1].toNat:Nat):Int)<=57):=by omega
      simp[cd,cd2,hd2,zdI]
    ·have cd: ¬(((s[at_+1].toNat:Nat):Int)>=48):=by omega
     simp[cd,hd1,zdI]
   ·have c2: ¬(((at_+1:Nat):Int)< ((s.length:Nat):Int)):=by omega
    rw[List.drop_eq_nil_of_le (by omega)];simp only[c2,yA];rfl
  simp only[h48,yA];by_cases h120:s[at_]=120
  ·simp only[h120,yB];cases hn:hexN 2 (s.drop (at_+1)) 0 with
   |none=>rfl
   |some n=>
    have cn: ¬((n:Int)<0):=by omega
    simp only[cn,yA];rfl
  simp only[h120,yA];by_cases h117:s[at_]=117
  ·simp only[h117,yB];cases hn:hexN 4 (s.drop (at_+1)) 0 with
   |none=>rfl
   |some n=>
    have cn: ¬((n:Int)<0):=by omega
    simp only[cn,yA];rfl
  simp only[h117,yA];cases hn:zg7 s[at_]with
  |none=>rfl
  |some n=>
   have cn: ¬((n:Int)<0):=by omega
   simp only[cn,yA];rfl
 ·have c:((at_:Int)>=((s.length:Nat):Int)):=by omega
  rw[List.drop_eq_nil_of_le (by omega)];simp only[c,decide_true,yB];rfl
theorem zyU(q:UInt8)(s0:Str)(hs:(q::s0).length<=100000000): ∀(m i:Nat) (acc:List Nat),(q::s0).length -i<m->i<=(q::s0).length->acc.length<=i->okU acc->
  zaq zaH m (q::s0,(i:Int),zdI acc,())=some ((zeJ q (q::s0) m ((q::s0).drop i) acc).1,(zeJ q (q::s0) m ((q::s0).drop i) acc).2.1,(zeJ q (q::s0) m ((q::s0).drop i) acc).2.2,()):=by
 intro m;induction m with
 |zero=>intro i acc h;omega
 |succ m ih=>
  intro i acc h1 h2 h3 h4;by_cases hl:i< (q::s0).length
  ·rw[List.drop_eq_getElem_cons hl];have hg:=qz9 hl;have gq:zam (q::s0) 0=some ((q.toNat:Nat):Int):=rfl;have c:((i:Int)< (((q::s0).length:Nat):Int)):=by omega
   generalize hc:(q::s0)[i]=ch at hg⊢;have hb:=ch.toNat_lt;have w1:IntKind.wrap .i64 ((i:Int)+1)=((i+1:Nat):Int):=by rw[wrap_i64 (by omega) (by omega)];omega
   have hq:((((ch.toNat:Nat):Int))==((q.toNat:Nat):Int))=decide (ch=q):=by rw[zgK];simp[UInt8.toNat_inj]
   have u8b: ∀n:Nat,n<256->((((ch.toNat:Nat):Int))==((n:Nat):Int))=decide (ch=UInt8.ofNat n):=λn h=>by
    rw[zgK,decide_eq_decide];exact(zkp _ n h).symm
   have b10:((((ch.toNat:Nat):Int))==10)=decide (ch=10):=u8b 10 (by omega);have b13:((((ch.toNat:Nat):Int))==13)=decide (ch=13):=u8b 13 (by omega);have b92:((((ch.toNat:Nat):Int))==92)=decide (ch=92):=u8b 92 (by omega);by_cases hcq:ch=q
   ·have hmk:=zAw acc (by omega) h4;have dq:decide (ch=q)=true:=by rw[yT];exact hcq
    refine(zW (e:=(zbZ acc,((i+1:Nat):Int),0,())) ?_).trans ?_
    ·unfold zaH;simp only[c,decide_true,yB,zfz,hg,gq,Option.map_some,qz1,hq,dq,hmk,w1]
    ·unfold zeJ zcd;rw[yL hcq];simp only;have:(q::s0).length - ((q::s0).drop (i+1)).length=i+1:=by rw[List.length_drop];omega
     rw[this]
   ·by_cases hbad:ch=10\/ch=13\/ch.toNat>127
    ·have cb:((decide (ch=10)||decide (ch=13))||decide (((ch.toNat:Nat):Int)>127))=true:=by
      simp only[yQ,yT];rcases hbad with h|h|h
      ·exact .inl (.inl h)
      ·exact .inl (.inr h)
      ·right;omega
     refine(zW (e:=([],0,10,())) ?_).trans ?_
     ·unfold zaH;simp only[c,decide_true,yB,zfz,hg,gq,Option.map_some,qz1,hq,hcq,decide_false,qz2,yA,b10,b13,cb]
     ·unfold zeJ zcd;rw[yK hcq,yL hbad]
    ·have cb:((decide (ch=10)||decide (ch=13))||decide (((ch.toNat:Nat):Int)>127))=false:=by
      simp only[Bool.or_eq_false_iff,decide_eq_false_iff_not];refine⟨⟨λh=>hbad (.inl h),λh=>hbad (.inr (.inl h))⟩,λh=>hbad (.inr (.inr (by omega)))⟩
     by_cases h92:ch=92
     ·have hesc:=zxk (q::s0) (i+1) hs (by omega);have d92:decide (ch=92)=true:=by rw[yT];exact h92
      cases he:zhe ((q::s0).drop (i+1))with
      |none=>
       rw[he]at hesc;refine(zW (e:=([],0,10,())) ?_).trans ?_
       ·unfold zaH;simp only[c,decide_true,yB,zfz,hg,gq,Option.map_some,qz1,hq,hcq,decide_false,qz2,yA,b10,b13,cb,b92,d92,w1,hesc];rfl
       ·unfold zeJ zcd;rw[yK hcq,yK hbad,yL h92,he]
      |some p=>
       obtain⟨us,k⟩:=p;rw[he]at hesc;obtain⟨p1,p2,p3,p4⟩:=zmL he;rw[List.length_drop]at p4;have ck: ¬((k:Int)<0):=by omega
       have hr:room ((zdI acc).length+(zdI us).length)=some ():=by
        unfold room;rw[yL (by simp only[zdI,List.length_map];omega)]
       have w2:IntKind.wrap .i64 (1+(k:Int))=((1+k:Nat):Int):=by rw[wrap_i64 (by omega) (by omega)];omega
       have w3:IntKind.wrap .i64 ((i:Int)+((1+k:Nat):Int))=((i+1+k:Nat):Int):=by rw[wrap_i64 (by omega) (by omega)];omega
       have hgo:zaH (q::s0,(i:Int),zdI acc,())=some (.inl (q::s0,((i+1+k:Nat):Int),zdI (acc++us),())):=by
        unfold zaH;simp only[c,decide_true,yB,zfz,hg,gq,Option.map_some,qz1,hq,hcq,decide_false,qz2,yA,b10,b13,cb,b92,d92,w1,hesc,ck,hr,w2,w3];simp[zdI]
       have hacc:okU (acc++us):=by
        intro n hn;rcases List.mem_append.mp hn with h|h
        ·exact h4 n h
        ·exact p1 n h
       rw[zaN hgo,ih (i+1+k) (acc++us) (by omega) (by omega) (by simp;omega) hacc]
       have:zeJ q (q::s0) m ((q::s0).drop (i+1+k)) (acc++us)=zeJ q (q::s0) (m+1) (ch::(q::s0).drop (i+1)) acc:=by
        unfold zeJ;conv=>rhs;unfold zcd
        rw[yK hcq,yK hbad,yL h92,he];simp only[List.drop_drop]
       rw[this]
     ·have d92:decide (ch=92)=false:=by rw[decide_eq_false_iff_not];exact h92
      have hr:room ((zdI acc).length+1)=some ():=by
       unfold room;rw[yL (by simp only[zdI,List.length_map];omega)]
      have wc:IntKind.wrap .i64 ((ch.toNat:Nat):Int)=((ch.toNat:Nat):Int):=wrap_i64 (by omega) (by omega);have l1: ∀x:Int,([x]:List Int).length=1:=λ_=>rfl
      have hgo:zaH (q::s0,(i:Int),zdI acc,())=some (.inl (q::s0,((i+1:Nat):Int),zdI (acc++[ch.toNat]),())):=by
       unfold zaH;simp only[c,decide_true,yB,zfz,hg,gq,Option.map_some,qz1,hq,hcq,decide_false,qz2,yA,b10,b13,cb,b92,d92,w1,l1,hr,wc];simp[zdI]
      have hacc:okU (acc++[ch.toNat]):=by
       intro n hn;rcases List.mem_append.mp hn with h|h
       ·exact h4 n h
       ·rw[List.mem_singleton.1 h];omega
      rw[zaN hgo,ih (i+1) (acc++[ch.toNat]) (by omega) (by omega) (by simp;omega) hacc]
      have:zeJ q (q::s0) m ((q::s0).drop (i+1)) (acc++[ch.toNat])=zeJ q (q::s0) (m+1) (ch::(q::s0).drop (i+1)) acc:=by
       unfold zeJ;conv=>rhs;unfold zcd
       rw[yK hcq,yK hbad,yK h92]
      rw[this]
  ·have hi:i=(q::s0).length:=by omega
   have c: ¬((i:Int)< (((q::s0).length:Nat):Int)):=by omega
   rw[List.drop_eq_nil_of_le (by omega)];refine(zW (e:=([],0,10,())) ?_).trans ?_
   ·unfold zaH;simp only[c,decide_false,qz2,yA]
   ·unfold zeJ zcd;rfl
theorem zAr(s:Str)(hs:s.length<=100000000):zgk s=some ((zbs s).1,(zbs s).2.1,(zbs s).2.2,()):=by
 cases s with
 |nil=>rfl
 |cons q s0=>
  unfold zgk zbs;have gq:zam (q::s0) 0=some ((q.toNat:Nat):Int):=rfl;have b39:((((q.toNat:Nat):Int))==39)=decide (q=39):=zcB q 39 (by omega);have b34:((((q.toNat:Nat):Int))==34)=decide (q=34):=zcB q 34 (by omega);have e0:((q::s0:Str)==([]:Str))=false:=rfl
  have hl:Lp.loop zaH (q::s0,1,([]:List Int),())=some ((zeJ q (q::s0) (s0.length+1) s0 []).1,(zeJ q (q::s0) (s0.length+1) s0 []).2.1,(zeJ q (q::s0) (s0.length+1) s0 []).2.2,()):=
   zbA (zyU q s0 hs (s0.length+1) 1 [] (by simp) (by simp) (by simp) (λn hn=>by cases hn)) (by simp only[qz3]at hs;omega)
  simp only[e0,qz2,yA,gq,qz1,bne,b39,b34];by_cases h1:q=39
  ·simp only[h1,decide_true,yO,qz2,yA,qz1,true_or,yB];subst h1;exact hl
  ·by_cases h2:q=34
   ·simp only[h1,h2,decide_true,decide_false,yO,yN,qz2,yA,yB,qz1,or_true];subst h2;exact hl
   ·simp only[h1,h2,decide_false,yN,yB,qz1,or_self,yA]
theorem zm6(s:Str): ∀(r:List Str) (i:Nat),zek.drop i=r->i<=zek.length->zaq zbH (r.length+1) (s,zek,((zek.length:Nat):Int),(i:Int),())=some (r.contains s,())
 | [],i,hr,hi=>by
  have hle:=List.drop_eq_nil_iff.1 hr;refine zW ?_;unfold zbH;have c: ¬((i:Int)< ((zek.length:Nat):Int)):=by omega
  simp only[c,decide_false,qz2,yA];rfl
 |x::r,i,hr,hi=>by
  have hlt:i<zek.length:=by
   rcases Nat.lt_or_ge i zek.length with h'|h'
   ·exact h'
   ·rw[List.drop_eq_nil_of_le h']at hr;cases hr
  have hcons:=List.drop_eq_getElem_cons hlt;rw[hr]at hcons;obtain⟨hx,h2⟩:=List.cons.inj hcons;have c:((i:Int)< ((zek.length:Nat):Int)):=by omega
  have e1:zek[i]? =some x:=by rw[qz9 hlt,hx]
  have hl:zek.length<1000:=by decide
  rw[List.contains_cons];cases hq:s==x with
  |true=>
   refine(zW (e:=(true,())) ?_).trans (by simp);unfold zbH;simp only[c,decide_true,yB,ze3,e1,qz1,hq]
  |false=>
   have hst:zbH (s,zek,((zek.length:Nat):Int),(i:Int),())=some (.inl (s,zek,((zek.length:Nat):Int),((i+1:Nat):Int),())):=by
    unfold zbH;simp only[c,decide_true,yB,ze3,e1,qz1,hq,qz2,yA,wrap_succ (show i<1000000000000 by omega)]
   rw[qz3,zaN hst,Bool.false_or];exact zm6 s r (i+1) h2.symm (by omega)
theorem zyV(s:Str):zfq s=some (zky s,()):=by
 have hw:zh9=some (zek,()):=by kernel_rfl
 unfold zfq;rw[hw,qz1];have:=zbA (zm6 s zek 0 rfl (by omega)) (by decide);exact this
/-! ### signs -/
theorem zsj(k:Nat)(s:Str): ∀L:List Str,(∀g∈L,g.length=k)->L.find? (λg=>g.isPrefixOf s)=if k<=s.length/\L.contains (s.take k)=true then some (s.take k)else none
 | [],_=>by simp
 |g::L,h=>by
  have hg:=h g (by simp);have ih:=zsj k s L (λx hx=>h x (by simp[hx]));rw[List.find?_cons,zqc,hg,List.contains_cons];by_cases hk:k<=s.length
  ·cases e:(s.take k==g)with
   |true=>
    have:s.take k=g:=by simpa using e
    simp only[hk,true_and,Bool.true_or,yB,this]
   |false=>simp only[hk,true_and,Bool.false_or];rw[ih];simp only[hk,true_and]
  ·have e:(s.take k==g)=false:=by
    rw[yH];intro e;have:=congrArg List.length e;simp only[List.length_take]at this;omega
   rw[e];simp only[hk,false_and,yA];rw[ih];simp only[hk,false_and,yA]
def zeB:List Str:=zgt++(zgT++zmh.map (λb=>[b]))
theorem zpo(c:UInt8): ∀l:List UInt8,(l.map (λb=>([b]:Str))).contains [c]=l.contains c
 | []=>rfl
 |b::l=>by
  rw[List.map_cons,List.contains_cons,List.contains_cons,zpo c l];congr 1;simp
theorem zFS(c:UInt8)(r:Str):zeB.find? (λg=>g.isPrefixOf (c::r))=if zba (c::r)=0 then none else some ((c::r).take (zba (c::r))):=by
 unfold zeB;rw[List.find?_append,List.find?_append,zsj 3 _ zgt (by decide),zsj 2 _ zgT (by decide),zsj 1 _ (zmh.map λb=>[b]) (by decide)];have e1:(c::r).take 1=[c]:=rfl;have l1:1<=(c::r).length:=by simp
 rw[e1,zpo];simp only[l1,true_and];by_cases h3:2< (c::r).length/\zgt.contains ((c::r).take 3)=true
 ·have h3':3<=(c::r).length/\zgt.contains ((c::r).take 3)=true:=h3;have hS:zba (c::r)=3:=by unfold zba;rw[yL h3]
  rw[yL h3',hS];rfl
 ·have h3': ¬(3<=(c::r).length/\zgt.contains ((c::r).take 3)=true):=h3;rw[yK h3'];by_cases h2:1< (c::r).length/\zgT.contains ((c::r).take 2)=true
  ·have h2':2<=(c::r).length/\zgT.contains ((c::r).take 2)=true:=h2;have hS:zba (c::r)=2:=by unfold zba;rw[yK h3,yL h2]
   rw[yL h2',hS];rfl
  ·have h2': ¬(2<=(c::r).length/\zgT.contains ((c::r).take 2)=true):=h2;have hS:zba (c::r)=if zmh.contains c=true then 1 else 0:=by unfold zba;rw[yK h3,yK h2];rfl
   rw[yK h2',hS];cases zmh.contains c<;>rfl
theorem ztU(s:Str)(p:Nat)(t:Str)(x0:zk)(hs:s.length<=100000000)(hp:p<=s.length)(ht:s.drop p=t): ∀(r:List Str) (i:Nat),zeB.drop i=r->i<=zeB.length->
  zaq zbL (r.length+1) (s,(p:Int),zeB,((zeB.length:Nat):Int),(i:Int),x0,())=some (match r.find? (λg=>g.isPrefixOf t)with
   |some g=>((⟨5,g,0,0,false⟩:zk),((g.length:Nat):Int),())
   |none=>((⟨0,[],0,0,false⟩:zk),0,()))
 | [],i,hr,hi=>by
  have hle:=List.drop_eq_nil_iff.1 hr;refine zW ?_;unfold zbL;have c: ¬((i:Int)< ((zeB.length:Nat):Int)):=by omega
  simp only[c,decide_false,qz2,yA];rfl
 |x::r,i,hr,hi=>by
  have hlt:i<zeB.length:=by
   rcases Nat.lt_or_ge i zeB.length with h'|h'
   ·exact h'
   ·rw[List.drop_eq_nil_of_le h']at hr;cases hr
  have hcons:=List.drop_eq_getElem_cons hlt;rw[hr]at hcons;obtain⟨hx,h2⟩:=List.cons.inj hcons;have c:((i:Int)< ((zeB.length:Nat):Int)):=by omega
  have e1:zeB[i]? =some x:=by rw[qz9 hlt,hx]
  have hl:zeB.length<1000:=by decide
  have hxl:x.length<=1000000:=by
   have hm:=List.mem_of_getElem? e1;have: ∀g∈zeB,g.length<=1000000:=by decide
   exact this x hm
  have hb:=zkq s p x hp (by omega) hxl;rw[ht]at hb;rw[List.find?_cons];cases hq:x.isPrefixOf t with
  |true=>
   refine zW ?_;unfold zbL;simp only[c,decide_true,yB,ze3,e1,qz1,hb,hq]
  |false=>
   have hst:zbL (s,(p:Int),zeB,((zeB.length:Nat):Int),(i:Int),x0,())=some (.inl (s,(p:Int),zeB,((zeB.length:Nat):Int),((i+1:Nat):Int),x0,())):=by
    unfold zbL;simp only[c,decide_true,yB,ze3,e1,qz1,hb,hq,qz2,yA,wrap_succ (show i<1000000000000 by omega),zcP]
   rw[qz3,zaN hst];exact ztU s p t x0 hs hp ht r (i+1) h2.symm (by omega)
/-! ### a token -/
theorem zta(s:Str)(p:Nat)(x0:zk)(t:Str)(hs:s.length<=100000000)(ht:s.drop p=t)(hp:p<=s.length):
  zcc s (p:Int) ((p+zI t:Nat):Int) x0=some (if 32<zI t then((⟨0,[],0,0,false⟩:zk),0,())else((⟨if zky (t.take (zI t))=true then 2 else 1,t.take (zI t),0,0,false⟩:zk),((zI t:Nat):Int),())):=by
 have hlen:t.length=s.length -p:=by rw[<-ht];simp
 have hle:=zhb t;have hw:IntKind.wrap .i64 (((p+zI t:Nat):Int) - (p:Int))=((zI t:Nat):Int):=by rw[wrap_i64 (by omega) (by omega)];omega
 unfold zcc;simp only[hw];by_cases h32:32<zI t
 ·have d:(((zI t:Nat):Int)>32):=by omega
  simp only[d,h32,decide_true,yB]
 ·have d: ¬(((zI t:Nat):Int)>32):=by omega
  have hcut:zar s (p:Int) ((p+zI t:Nat):Int)=some (t.take (zI t)):=by
   rw[zfF s p (p+zI t) (by omega) (by omega),ht];have:p+zI t -p=zI t:=by omega
   rw[this]
  simp only[d,h32,decide_false,qz2,yA];unfold zhB;rw[hcut,qz1];unfold zhE;simp only[zyV,qz1,hw,zcP];cases zky (t.take (zI t))<;>rfl
theorem zvl(s:Str)(p:Nat)(x0:zk)(T0:Str)(hT:s.drop p=T0)(hp0:p<=s.length)(hs:s.length<=100000000): ∀(t:Str) (q:Nat),s.drop q=t->q<=s.length->q+zI t=p+zI T0->
  zaq zb8 (t.length+1) (s,(p:Int),(q:Int),x0,())=zcc s (p:Int) ((p+zI T0:Nat):Int) x0
 | [],q,ht,hp,hq=>by
  have e:=drop_nil ht hp;have hz:zI ([]:Str)=0:=rfl;have hj:=zta s p x0 T0 hs hT hp0;rw[<-hq,hz,Nat.add_zero]at hj;rw[<-hq,hz];show _=zcc s (p:Int) (q:Int) x0;rw[hj];refine zW ?_;unfold zb8;have c: ¬((q:Int)< ((s.length:Nat):Int)):=by omega
  simp only[c,decide_false,qz2,yA,zcP,hj];rfl
 |c::r,q,ht,hp,hq=>by
  obtain⟨h1,h2,h3⟩:=zhx ht;have d:((q:Int)< ((s.length:Nat):Int)):=by omega
  rw[zbw]at hq;cases hld:zcU c with
  |true=>
   rw[hld]at hq;simp only[yB]at hq
   have hst:zb8 (s,(p:Int),(q:Int),x0,())=some (.inl (s,(p:Int),((q+1:Nat):Int),x0,())):=by
    unfold zb8;simp only[d,decide_true,yB,zeu s q c h1,qz1,zin,zje,wrap_succ (show q<1000000000000 by omega),zcP];unfold zcU at hld;cases h:isLet c with
    |true=>rfl
    |false=>rw[h,Bool.false_or]at hld;simp only[hld,qz2,yA,yB]
   rw[qz3,zaN hst];exact zvl s p x0 T0 hT hp0 hs r (q+1) h2 (by omega) (by omega)
  |false=>
   rw[hld]at hq;simp only[qz2,yA,Nat.add_zero]at hq;have hj:=zta s p x0 T0 hs hT hp0;rw[<-hq]at hj⊢;rw[hj];refine zW ?_;unfold zb8;unfold zcU at hld;rw[Bool.or_eq_false_iff]at hld;simp only[d,decide_true,yB,zeu s q c h1,qz1,zin,zje,hld.1,hld.2,qz2,yA,zcP,hj];rfl
theorem zBi(s:Str)(p:Nat)(hs:s.length<=100000000)(h0:s.drop p≠[])(hp:p<=s.length): ∃x,zgU s (p:Int)=some (x.1,x.2,())/\match zdp (s.drop p)with
  |some (t,n)=>x=(t,(n:Int))
  |none=>x.2=0:=by
 generalize ht:s.drop p=t at h0;cases t with
 |nil=>exact absurd rfl h0
 |cons b r=>
  obtain⟨h1,h2,h3⟩:=zhx ht;have hlen:(b::r).length=s.length -p:=by rw[<-ht];simp
  unfold zgU zdp;simp only[zeu s p b h1,qz1,zin,zje];by_cases hl:isLet b=true
  ·simp only[hl,yB];have hj:=zta s p (⟨0,[],0,0,false⟩:zk) (b::r) hs ht hp;have hlp:=zvl s p (⟨0,[],0,0,false⟩:zk) (b::r) ht hp hs (b::r) p ht hp rfl;rw[hj]at hlp;have hlp:=zbA hlp (by omega);rw[hlp];by_cases h32:32<zI (b::r)
   ·rw[yL h32,yL h32];exact⟨(_,_),rfl,rfl⟩
   ·rw[yK h32,yK h32];exact⟨(_,_),rfl,rfl⟩
  ·have hl':isLet b=false:=by simpa using hl
   simp only[hl',qz2,yA];by_cases hd:zgQ b=true
   ·simp only[hd,yB,zyZ s (by omega) p b r ht hd hp,qz1];cases zeG (b::r)with
    |none=>exact⟨(_,_),rfl,rfl⟩
    |some q=>exact⟨(_,_),rfl,rfl⟩
   ·have hd':zgQ b=false:=by simpa using hd
    simp only[hd',qz2,yA];have b39:((((b.toNat:Nat):Int))==39)=decide (b=39):=zcB b 39 (by omega);have b34:((((b.toNat:Nat):Int))==34)=decide (b=34):=zcB b 34 (by omega);rw[b39,b34];by_cases hq:b=39\/b=34
    ·have dq:(decide (b=39)||decide (b=34))=true:=by simpa using hq
     have hcut:zar s (p:Int) ((s.length:Nat):Int)=some (b::r):=by rw[zdC s p hp,ht]
     simp only[dq,yB,hq,hcut,qz1,zAr (b::r) (by omega)];generalize hx:zbs (b::r)=q;obtain⟨u,n,e⟩:=q;have hb:=zvY hx;refine⟨(_,_),rfl,?_⟩;simp only;by_cases hn:n=0
     ·simp only[hn,yB]
     ·simp only[hn,yA];have:((n.toNat:Nat):Int)=n:=by omega
      rw[this]
    ·have dq:(decide (b=39)||decide (b=34))=false:=by simpa using hq
     simp only[dq,qz2,yA,hq];have hsg:zh1=some (zeB,()):=by kernel_rfl
     rw[hsg,qz1];have hl:=zbA (ztU s p (b::r) (⟨0,[],0,0,false⟩:zk) hs hp ht zeB 0 rfl (by omega)) (by decide);have hl':Lp.loop zbL (s,(p:Int),zeB,((zeB.length:Nat):Int),0,(⟨0,[],0,0,false⟩:zk),())=_:=hl;rw[hl',zFS];by_cases hsz:zba (b::r)=0
     ·simp only[hsz,yB];exact⟨(_,_),rfl,rfl⟩
     ·have hsl:=zl5 b r;simp only[hsz,yA];refine⟨(_,_),rfl,?_⟩;have:((b::r).take (zba (b::r))).length=zba (b::r):=by rw[List.length_take];omega
      simp only[this]
/-! ### the whole -/
theorem zyC: ∀(m:Nat) (t:Str) (f:Bool),(zT m t f).1<:+t:=by
 intro m;induction m with
 |zero=>intro t f;exact List.suffix_refl _
 |succ m ih=>
  intro t f;cases t with
  |nil=>exact List.suffix_refl _
  |cons c r=>
   unfold zT;split
   ·exact(ih r true).trans (List.suffix_cons _ _)
   ·split
    ·exact(ih r f).trans (List.suffix_cons _ _)
    ·split
     ·exact(ih _ f).trans (List.dropWhile_suffix _)
     ·split
      ·split
       ·exact List.suffix_refl _
       ·exact(ih _ _).trans (List.drop_suffix _ _)
      ·exact List.suffix_refl _
theorem zvf(src:Str)(hs:src.length<=100000000): ∀(m:Nat) (p:Nat) (out:List Tok),(src.drop p).length<m->p<=src.length->out.length<=p->
  zaq zb6 m (src,(p:Int),out,())=some (match zch m (src.drop p) false with
   | .inl l=>(out++zci src.length l,0,0,())
   | .inr k=>([],((src.length -k:Nat):Int),60,()))
 |0,p,out,h,_,_=>by omega
 |m+1,p,out,hm,hp,hout=>by
  have hb:=zx9 src p hp (by omega);have hl:=zcR ((src.drop p).length+1) (src.drop p) false;have hdl:(src.drop p).length=src.length -p:=by simp
  have hsf:=zyC ((src.drop p).length+1) (src.drop p) false;rw[zch];generalize hq:zT ((src.drop p).length+1) (src.drop p) false=q at hb hl hsf;obtain⟨r,f,ok⟩:=q;simp only at hb hl hsf⊢
  have hrd:src.drop (src.length -r.length)=r:=by
   have:=List.suffix_iff_eq_drop.1 hsf;rw[List.drop_drop]at this;have e:p+((src.drop p).length -r.length)=src.length -r.length:=by omega
   rw[e]at this;exact this.symm
  unfold zB1 at hb;cases ok with
  |false=>
   simp only at hb;simp only[yB];refine zW ?_;unfold zb6;simp only[hb,qz1,yN,yB]
  |true=>
   simp only[Bool.true_and]at hb;simp only[Bool.true_eq_false,yA];have hroom:room (out.length+1)=some ():=by unfold room;rw[yL (by omega)]
   have l1: ∀x:zk,([x]:List zk).length=1:=λ_=>rfl
   by_cases hr:r=[]
   ·subst hr;simp only[yB];refine zW ?_;unfold zb6;simp only[hb,qz1,yO,qz2,yA,qz6,Nat.sub_zero,beq_self_eq_true,yB,l1,hroom];rfl
   ·simp only[hr,yA]
    have hrl:1<=r.length:=by
     cases r with
     |nil=>exact absurd rfl hr
     |cons a r=>simp
    obtain⟨x,e1,e2⟩:=zBi src (src.length -r.length) hs (by rw[hrd];exact hr) (by omega)
    rw[hrd]at e2;have cne:((((src.length -r.length:Nat):Int))==((src.length:Nat):Int))=false:=by rw[yH];omega
    have hstep:zb6 (src,(p:Int),out,())=if(x.2==0)=true then some (.inr (([]:List zk),((src.length -r.length:Nat):Int),60,()))
      else some (.inl (src,(IntKind.wrap .i64 (((src.length -r.length:Nat):Int)+x.2)),(out++[({Kind:=x.1.Kind,Text:=x.1.Text,Num:=x.1.Num,At:=((src.length -r.length:Nat):Int),Fresh:=f}:zk)]),())):=by
     unfold zb6;simp only[hb,qz1,yO,qz2,yA,cne,e1,l1,hroom]
    cases ho:zdp r with
    |none=>
     rw[ho]at e2;simp only at e2;rw[e2]at hstep;simp only[beq_self_eq_true,yB]at hstep;exact zW hstep
    |some q=>
     obtain⟨t,n⟩:=q;rw[ho]at e2;simp only at e2;subst e2;have hn:=zgG ho;have c0:((n:Int)==0)=false:=by rw[yH];omega
     have w:IntKind.wrap .i64 (((src.length -r.length:Nat):Int)+(n:Int))=((src.length -r.length+n:Nat):Int):=by rw[wrap_i64 (by omega) (by omega)];omega
     simp only[c0,qz2,yA,w]at hstep;have htok:({Kind:=t.Kind,Text:=t.Text,Num:=t.Num,At:=((src.length -r.length:Nat):Int),Fresh:=f}:Tok)=(t.fresh f).at_ ((src.length -r.length:Nat):Int):=rfl;rw[htok]at hstep;have hd2:src.drop (src.length -r.length+n)=r.drop n:=by rw[<-List.drop_drop,hrd]
     have ih:=zvf src hs m (src.length -r.length+n) (out++[(t.fresh f).at_ ((src.length -r.length:Nat):Int)]) (by rw[hd2];simp only[List.length_drop];omega) (by omega) (by simp only[qz5,qz3,qz6];omega)
     rw[zaN hstep,ih,hd2];simp only;cases hc:zch m (r.drop n) false with
     |inl l=>simp only[zmi];simp
     |inr k=>rfl
theorem zk2(src:Str)(hs:src.length<=100000000):zcv src=some ((zaX src).1,(zaX src).2.1,(zaX src).2.2,()):=by
 unfold zcv zaX;by_cases h:4096<src.length
 ·have d:(((src.length:Nat):Int)>4096):=by omega
  simp only[d,h,decide_true,yB]
 ·have d: ¬(((src.length:Nat):Int)>4096):=by omega
  simp only[d,h,decide_false,qz2,yA];have:=zvf src hs (src.length+1) 0 [] (by simp) (by omega) (by simp);rw[List.drop_zero]at this;have this':=zbA this (by omega);have e:((0:Nat):Int)=0:=rfl;rw[e]at this';rw[this'];cases zch (src.length+1) src false<;>rfl
def Aft(x:Str):Prop:=∀c r,x=c::r->c=9\/c=10\/c=11\/c=32
theorem zJ6{c:UInt8}(h:c=9\/c=10\/c=11\/c=32):zcU c=false:=by rcases h with rfl|rfl|rfl|rfl<;>decide
theorem zxw{x:Str}(h:Aft x): ∀s:Str,zI (s++x)=zI s
 | []=>by
  cases x with
  |nil=>rfl
  |cons c r=>rw[List.nil_append,zbw,yK (by rw[zJ6 (h c r rfl)];simp)];rfl
 |c::s=>by rw[yI,zbw,zbw,zxw h s]
theorem zHf{x:Str}(h:Aft x)(s:Str):zeG (s++x)=zeG s:=by
 unfold zeG;rw[zxw h];have hle:=zhb s;have e1:(s++x).take (zI s)=s.take (zI s):=List.take_append_of_le_length hle;rw[e1]
 have e2:((s++x)[zI s]? =some 46)=(s[zI s]? =some 46):=by
  by_cases h':zI s<s.length
  ·rw[yF h']
  ·have h1:zI s=s.length:=by omega
   rw[h1,yG (yJ _)];cases x with
   |nil=>simp
   |cons c r=>
    have hc:c≠46:=by rcases h c r rfl with rfl|rfl|rfl|rfl<;>decide
    simp[hc]
 simp only[e2]
theorem zBm{s x:Str}(hx:Aft x){L:List Str}(hL: ∀w∈L,(9:UInt8)∉w/\(10:UInt8)∉w/\(11:UInt8)∉w/\(32:UInt8)∉w){k:Nat}(hk: ∀w∈L,w.length=k)(h:s.length<k):L.contains ((s++x).take k)=false:=by
 rw[<-Bool.not_eq_true,List.contains_iff_mem];intro hm;cases x with
 |nil=>
  have:=hk _ hm;rw[List.append_nil,List.length_take]at this;omega
 |cons c r=>
  have hc:c∈(s++c::r).take k:=by
   rw[List.mem_iff_getElem?];refine⟨s.length,?_⟩;rw[List.getElem?_take_of_lt h,yG (yJ _)];simp
  have:=hL _ hm;rcases hx c r rfl with rfl|rfl|rfl|rfl
  ·exact this.1 hc
  ·exact this.2.1 hc
  ·exact this.2.2.1 hc
  ·exact this.2.2.2 hc
theorem zEF{x:Str}(hx:Aft x)(c:UInt8)(s:Str):zba ((c::s)++x)=zba (c::s):=by
 unfold zba
 have e3:(2< ((c::s)++x).length/\zgt.contains (((c::s)++x).take 3)=true)=(2< (c::s).length/\zgt.contains ((c::s).take 3)=true):=by
  by_cases h:2< (c::s).length
  ·rw[List.take_append_of_le_length (by omega)];have:2< ((c::s)++x).length:=by simp only[qz5];omega
   simp only[this,h,true_and]
  ·rw[zBm hx (L:=zgt) (by decide) (by decide) (by omega)];rw[eq_iff_iff];exact⟨λe=>(by cases e.2),λe=>absurd e.1 h⟩
 have e2:(1< ((c::s)++x).length/\zgT.contains (((c::s)++x).take 2)=true)=(1< (c::s).length/\zgT.contains ((c::s).take 2)=true):=by
  by_cases h:1< (c::s).length
  ·rw[List.take_append_of_le_length (by omega)];have:1< ((c::s)++x).length:=by simp only[qz5];omega
   simp only[this,h,true_and]
  ·rw[zBm hx (L:=zgT) (by decide) (by decide) (by omega)];rw[eq_iff_iff];exact⟨λe=>(by cases e.2),λe=>absurd e.1 h⟩
 simp only[e3,e2];rfl
theorem zG7(t:Str)(r:Str)(p:List Nat×Nat)(h:zhe r=some p)(hk:p.2<r.length):zhe (r++t)=some p:=by
 cases r with
 |nil=>cases h
 |cons c r=>
  rw[yI];unfold zhe at h⊢;dsimp only at h⊢;split at h
  ·rename_i hc;rw[yL hc];exact h
  ·rename_i hc;rw[yK hc];split at h
   ·rename_i h0;rw[yL h0];cases r with
    |nil=>
     have:p=([0],1):=by simpa using h.symm
     rw[this]at hk;simp at hk
    |cons d r=>exact h
   ·rename_i h0;rw[yK h0];split at h
    ·rename_i hx;rw[yL hx];cases he:hexN 2 r 0 with
     |none=>rw[he]at h;cases h
     |some n=>rw[he]at h;rw[zxs _ 2 r 0 n he];exact h
    ·rename_i hx;rw[yK hx];split at h
     ·rename_i hu;rw[yL hu];cases he:hexN 4 r 0 with
      |none=>rw[he]at h;cases h
      |some n=>rw[he]at h;rw[zxs _ 4 r 0 n he];exact h
     ·rename_i hu;rw[yK hu];exact h
theorem zvG(q:UInt8)(t:Str): ∀(m:Nat) (r:Str) (acc us:List Nat) (k:Nat),zcd q m r acc=some (us,k)->∀M,m<=M->zcd q M (r++t) acc=some (us,k+t.length)
 |0,_,_,_,_,h,_,_=>by cases h
 |m+1,[],_,_,_,h,_,_=>by cases h
 |m+1,c::r,acc,us,k,h,M,hM=>by
  cases M with
  |zero=>omega
  |succ M=>
   rw[yI];rw[zcd]at h⊢;split at h
   ·rename_i hc;rw[yL hc];cases h;simp
   ·rename_i hc;rw[yK hc];split at h
    ·cases h
    ·rename_i hb;rw[yK hb];split at h
     ·rename_i h92;rw[yL h92];cases he:zhe r with
      |none=>rw[he]at h;cases h
      |some p=>
       obtain⟨us',k'⟩:=p;rw[he]at h;simp only at h;have hk:=(zmL he).2.2.2
       have hk2:k'<r.length:=by
        rcases Nat.lt_or_ge k' r.length with h'|h'
        ·exact h'
        ·rw[List.drop_eq_nil_of_le h']at h;cases m<;>cases h
       rw[zG7 t r _ he hk2];simp only;rw[List.drop_append_of_le_length hk];exact zvG q t m _ _ us k h M (by omega)
     ·rename_i h92;rw[yK h92];exact zvG q t m _ _ us k h M (by omega)
theorem zzV(s t:Str){u:Str}{n e:Int}(h:zbs s=(u,n,e))(hn:n≠0):zbs (s++t)=(u,n,e):=by
 cases s with
 |nil=>simp only[zbs]at h;cases h;exact absurd rfl hn
 |cons q r=>
  rw[yI];rw[zbs]at h⊢;split at h
  ·rename_i hq;rw[yL hq];cases hg:zcd q (r.length+1) r []with
   |none=>rw[hg]at h;cases h;exact absurd rfl hn
   |some p=>
    obtain⟨us,k⟩:=p;rw[hg]at h;rw[zvG q t _ _ _ _ _ hg ((r++t).length+1) (by simp only[qz5];omega)]
    have hk:=zj9 q _ _ _ _ _ hg;simp only[Prod.mk.injEq]at h⊢;obtain⟨h1,h2,h3⟩:=h;refine⟨h1,?_,h3⟩;rw[<-h2];simp only[qz3,qz5];omega
  ·cases h;exact absurd rfl hn
theorem zGP{x:Str}(hx:Aft x)(s:Str){t:Tok}{n:Nat}(h:zdp s=some (t,n)):zdp (s++x)=some (t,n):=by
 cases s with
 |nil=>cases h
 |cons c s=>
  have hle:=zhb (c::s);have hr:=zxw hx (c::s);have hn:=zHf hx (c::s);have hs:=zEF hx c s;have ht:((c::s)++x).take (zI (c::s))=(c::s).take (zI (c::s)):=List.take_append_of_le_length hle;have hg:=zl5 c s;have ht2:((c::s)++x).take (zba (c::s))=(c::s).take (zba (c::s)):=List.take_append_of_le_length hg;have hrd:=λ(u:Str) (n e:Int)=>zzV (c::s) x (u:=u) (n:=n) (e:=e)
  rw[yI]at hr hn hs ht ht2 hrd⊢;unfold zdp at h⊢;dsimp only at h⊢;simp only[hr,hn,hs,ht,ht2];split at h
  ·rename_i hl;rw[yL hl];exact h
  ·rename_i hl;rw[yK hl];split at h
   ·rename_i hd;rw[yL hd];exact h
   ·rename_i hd;rw[yK hd];split at h
    ·rename_i hq;rw[yL hq];generalize hx:zbs (c::s)=q at h;obtain⟨u,n',e⟩:=q;simp only at h;split at h
     ·cases h
     ·rename_i hne;rw[hrd u n' e hx hne];simp only;rw[yK hne];exact h
    ·rename_i hq;rw[yK hq];exact h
/-! ### less behind it -/
theorem zoA: ∀(s:Str) (m:Nat),zI s<=m->zI (s.take m)=zI s
 | [],m,_=>by simp
 |c::s,0,h=>by
  rw[List.take_zero];have:zI (c::s)=0:=by omega
  rw[this];rfl
 |c::s,m+1,h=>by
  rw[List.take_succ_cons,zbw,zbw];rw[zbw]at h;cases hl:zcU c with
  |true=>rw[hl]at h;simp only[yB]at h⊢;rw[zoA s m (by omega)]
  |false=>rfl
theorem zFI{s:Str}{p:Nat×Nat}(h:zeG s=some p){m:Nat}(hm:zI s<=m):zeG (s.take m)=some p:=by
 unfold zeG at h⊢;rw[zoA s m hm];split at h
 ·cases h
 ·rename_i h46;rw[yK ?_]
  ·rw[List.take_take,Nat.min_eq_left hm];exact h
  ·intro e;apply h46;rw[List.getElem?_take]at e;split at e
   ·exact e
   ·cases e
theorem znN: ∀(k:Nat) (s:Str) (a n m:Nat),hexN k s a=some n->k<=m->hexN k (s.take m) a=some n
 |0,s,a,n,m,h,_=>h
 |k+1,[],a,n,m,h,_=>by cases h
 |k+1,c::s,a,n,0,h,hm=>by omega
 |k+1,c::s,a,n,m+1,h,hm=>by
  rw[List.take_succ_cons];simp only[hexN]at h⊢;split at h
  ·cases h
  ·rename_i d hd;exact znN k s _ n m h (by omega)
theorem zFx(r:Str)(p:List Nat×Nat)(h:zhe r=some p){m:Nat}(hm:p.2<=m):zhe (r.take m)=some p:=by
 cases r with
 |nil=>cases h
 |cons c r=>
  have h1:=(zmL (us:=p.1) (k:=p.2) h).2.2.1;cases m with
  |zero=>omega
  |succ m=>
   rw[List.take_succ_cons];unfold zhe at h⊢;dsimp only at h⊢;split at h
   ·rename_i hc;rw[yL hc];exact h
   ·rename_i hc;rw[yK hc];split at h
    ·rename_i h0;rw[yL h0];cases r with
     |nil=>simpa using h
     |cons d r=>
      cases m with
      |zero=>
       simp only[List.take_zero];dsimp only at h;split at h
       ·cases h
       ·exact h
      |succ m=>exact h
    ·rename_i h0;rw[yK h0];split at h
     ·rename_i hx;rw[yL hx];cases he:hexN 2 r 0 with
      |none=>rw[he]at h;cases h
      |some n=>
       rw[he]at h;have hp:p.2=3:=by cases h;rfl
       rw[znN 2 r 0 n m he (by omega)];exact h
     ·rename_i hx;rw[yK hx];split at h
      ·rename_i hu;rw[yL hu];cases he:hexN 4 r 0 with
       |none=>rw[he]at h;cases h
       |some n=>
        rw[he]at h;have hp:p.2=5:=by cases h;rfl
        rw[znN 4 r 0 n m he (by omega)];exact h
      ·rename_i hu;rw[yK hu];exact h
theorem ztt(q:UInt8): ∀(m:Nat) (r:Str) (acc us:List Nat) (k:Nat),zcd q m r acc=some (us,k)->∀(j M:Nat),r.length<=k+j->r.length<M+k->zcd q M (r.take j) acc=some (us,(r.take j).length+k -r.length)
 |0,_,_,_,_,h,_,_,_,_=>by cases h
 |m+1,[],_,_,_,h,_,_,_,_=>by cases h
 |m+1,c::r,acc,us,k,h,j,M,hj,hM=>by
  have hk:=zj9 q _ _ _ _ _ h;simp only[qz3]at hj hM hk;cases M with
  |zero=>omega
  |succ M=>
   cases j with
   |zero=>omega
   |succ j=>
    rw[List.take_succ_cons];rw[zcd]at h⊢;split at h
    ·rename_i hc;rw[yL hc];cases h;congr 2;simp only[qz3];omega
    ·rename_i hc;rw[yK hc];split at h
     ·cases h
     ·rename_i hb;rw[yK hb];split at h
      ·rename_i h92;rw[yL h92];cases he:zhe r with
       |none=>rw[he]at h;cases h
       |some p=>
        obtain⟨us',k'⟩:=p;rw[he]at h;simp only at h;have hk2:=(zmL he).2.2;have hk3:=zj9 q _ _ _ _ _ h;have hd:(r.drop k').length=r.length -k':=List.length_drop;rw[zFx r _ he (m:=j) (by simp only;omega)]
        simp only;have e:(r.take j).drop k'=(r.drop k').take (j -k'):=by rw[List.drop_take]
        rw[e,ztt q m _ _ us k h (j -k') M (by omega) (by omega)];congr 2;simp only[List.length_take,qz3,List.length_drop];omega
      ·rename_i h92;rw[yK h92,ztt q m _ _ us k h j M (by omega) (by omega)];congr 2;simp only[qz3];have:(r.take j).length=min j r.length:=List.length_take;omega
theorem zDM(s:Str){u:Str}{n e:Int}(h:zbs s=(u,n,e))(hn:n≠0){m:Nat}(hm:n.toNat<=m):zbs (s.take m)=(u,n,e):=by
 cases s with
 |nil=>simp only[zbs]at h;cases h;exact absurd rfl hn
 |cons q r=>
  rw[zbs]at h;split at h
  ·rename_i hq;cases hg:zcd q (r.length+1) r []with
   |none=>rw[hg]at h;cases h;exact absurd rfl hn
   |some p=>
    obtain⟨us,k⟩:=p;rw[hg]at h;have hk:=zj9 q _ _ _ _ _ hg;simp only[Prod.mk.injEq]at h;obtain⟨h1,h2,h3⟩:=h;simp only[qz3]at h2;cases m with
    |zero=>omega
    |succ m=>
     rw[List.take_succ_cons,zbs,yL hq,ztt q _ _ _ _ _ hg m ((r.take m).length+1) (by omega) (by have:(r.take m).length=min m r.length:=List.length_take;omega)]
     simp only[Prod.mk.injEq];refine⟨h1,?_,h3⟩;rw[<-h2];have:(r.take m).length=min m r.length:=List.length_take;simp only[qz3];omega
  ·cases h;exact absurd rfl hn
theorem zEs{c:UInt8}{s:Str}(h0:zba (c::s)≠0){m:Nat}(hm:zba (c::s)<=m):zba ((c::s).take m)=zba (c::s):=by
 cases m with
 |zero=>omega
 |succ m=>
  have hl:((c::s).take (m+1)).length=min (m+1) (c::s).length:=List.length_take;have t3:3<=m+1->((c::s).take (m+1)).take 3=(c::s).take 3:=λh=>by rw[List.take_take,Nat.min_eq_left h]
  have t2:2<=m+1->((c::s).take (m+1)).take 2=(c::s).take 2:=λh=>by rw[List.take_take,Nat.min_eq_left h]
  have hd:((c::s).take (m+1)).headD 0=c:=rfl;unfold zba at h0 hm⊢;rw[hd];rw[show(c::s).headD 0=c from rfl]at h0 hm⊢;by_cases h3:2< (c::s).length/\zgt.contains ((c::s).take 3)=true
  ·rw[yL h3]at hm;rw[yL h3,yL ⟨by omega,by rw[t3 hm];exact h3.2⟩]
  ·rw[yK h3]at hm h0;rw[yK h3]
   have n3: ¬(2< ((c::s).take (m+1)).length/\zgt.contains (((c::s).take (m+1)).take 3)=true):=by
    rintro⟨a,b⟩;rw[t3 (by omega)]at b;exact h3 ⟨by omega,b⟩
   rw[yK n3];by_cases h2:1< (c::s).length/\zgT.contains ((c::s).take 2)=true
   ·rw[yL h2]at hm;rw[yL h2,yL ⟨by omega,by rw[t2 hm];exact h2.2⟩]
   ·rw[yK h2]at hm h0;rw[yK h2]
    have n2: ¬(1< ((c::s).take (m+1)).length/\zgT.contains (((c::s).take (m+1)).take 2)=true):=by
     rintro⟨a,b⟩;rw[t2 (by omega)]at b;exact h2 ⟨by omega,b⟩
    rw[yK n2]
theorem zz9(s:Str){t:Tok}{n:Nat}(h:zdp s=some (t,n)){m:Nat}(hm:n<=m):zdp (s.take m)=some (t,n):=by
 have hpos:=(zgG h).1;cases s with
 |nil=>cases h
 |cons c s=>
  cases m with
  |zero=>omega
  |succ m=>
   have hr:zI (c::s)<=m+1->zI (c::s.take m)=zI (c::s):=zoA (c::s) (m+1);rw[List.take_succ_cons];unfold zdp at h⊢;dsimp only at h⊢;split at h
   ·rename_i hl;rw[yL hl];split at h
    ·cases h
    ·rename_i h32;cases h
     have ht:(c::s.take m).take (zI (c::s))=(c::s).take (zI (c::s)):=by
      rw[<-List.take_succ_cons,List.take_take,Nat.min_eq_left hm]
     rw[hr hm,yK h32,ht]
   ·rename_i hl;rw[yK hl];split at h
    ·rename_i hd;rw[yL hd];cases hn:zeG (c::s)with
     |none=>rw[hn]at h;cases h
     |some p=>
      rw[hn]at h;cases h;have hp:p.2=zI (c::s):=zsk (n:=p.1) (k:=p.2) hn;have:=zFI hn (m:=m+1) (by omega);rw[List.take_succ_cons]at this;rw[this];rfl
    ·rename_i hd;rw[yK hd];split at h
     ·rename_i hq;rw[yL hq];generalize hx:zbs (c::s)=q at h;obtain⟨u,n',e⟩:=q;simp only at h;split at h
      ·cases h
      ·rename_i hne;cases h;have:=zDM (c::s) hx hne (m:=m+1) hm;rw[List.take_succ_cons]at this;rw[this];simp only;rw[yK hne]
     ·rename_i hq;rw[yK hq];split at h
      ·cases h
      ·rename_i h0;cases h;have:=zEs h0 hm;rw[List.take_succ_cons]at this
       have ht:(c::s.take m).take (zba (c::s))=(c::s).take (zba (c::s)):=by
        rw[<-List.take_succ_cons,List.take_take,Nat.min_eq_left hm]
       rw[this,yK h0,ht]
theorem zAS{w:Str}{b:Bool}(h:Bk w b):b=false->∀x∈w,zah x=false:=by
 induction h with
 |nil=>intro _ x hx;cases hx
 |nl c hc h ih=>intro e;cases e
 |ws c hc h ih=>
  intro e x hx;rcases yP.1 hx with rfl|hx
  ·exact zAP hc
  ·exact ih e x hx
 | @line l d w b hl hd h ih=>
  intro e x hx;have:=ih e d qz7;rw[hd]at this;cases this
 | @block l n w b hl he hn h ih=>
  intro e x hx;rw[Bool.or_eq_false_iff]at e;rcases List.mem_append.1 hx with hx|hx
  ·obtain⟨r,rfl⟩:=zoE hl;have hr:((47::42::r:Str)).drop 2=r:=rfl;rw[hr]at he e;have hl2:r.length=n+2:=by simp only[qz3]at hn;omega
   rcases yP.1 hx with rfl|hx
   ·decide
   rcases yP.1 hx with rfl|hx
   ·decide
   have hsp:r.take n++r.drop n=r:=List.take_append_drop _ _;rw[<-hsp]at hx;rcases List.mem_append.1 hx with hx|hx
   ·have:=e.1;rw[List.any_eq_false]at this;have:=this x hx;simpa using this
   ·have hd:r.drop n=[42,47]:=by
     have aux: ∀(r:Str) (n:Nat),zbM r=some n->r.length=n+2->r.drop n=[42,47]:=by
      intro r;induction r with
      |nil=>intro n h;cases h
      |cons a r ih=>
       intro n h hl;rw[zbM]at h;split at h
       ·rename_i hp;cases h;rcases r with _| ⟨b,r⟩
        ·simp[List.isPrefixOf]at hp
        ·simp only[List.isPrefixOf,Bool.and_true,qz4,beq_iff_eq]at hp;obtain⟨rfl,rfl⟩:=hp;simp only[qz3]at hl;have:r=[]:=List.length_eq_zero_iff.1 (by omega);rw[this];rfl
       ·cases he:zbM r with
        |none=>rw[he]at h;cases h
        |some k=>
         rw[he]at h;cases h;simp only[qz3]at hl;exact ih k he (by omega)
     exact aux r n he hl2
    rw[hd]at hx;rcases yP.1 hx with rfl|hx
    ·decide
    rcases yP.1 hx with rfl|hx
    ·decide
    cases hx
  ·exact ih e.2 x hx
theorem zjB: ∀(m:Nat) (s:Str) (f:Bool),(∀x∈s,zah x=false)->(zT m s f).2.1=f
 |0,s,f,_=>rfl
 |m+1,[],f,_=>rfl
 |m+1,c::r,f,h=>by
  have hr: ∀x∈r,zah x=false:=λx hx=>h x (qz8 _ hx)
  rw[zT,yK (by rw[h c qz7];simp)]
  split
  ·exact zjB m r f hr
  ·split
   ·exact zjB m _ f (λx hx=>h x ((List.dropWhile_suffix _).subset hx))
   ·split
    ·split
     ·rfl
     ·rename_i n he
      have h1:(((c::r).drop 2).take n).any zah=false:=by
       rw[List.any_eq_false];intro x hx;rw[h x ((List.drop_suffix _ _).subset ((List.take_prefix _ _).subset hx))];simp
      have h2:(zT m ((c::r).drop (n+4)) f).2.1=f:=zjB m _ f (λx hx=>h x ((List.drop_suffix _ _).subset hx));rw[h1,Bool.or_false];exact h2
    ·rfl
theorem zEH{w:Str}{b:Bool}(h:Bk w b):b=false->∀(u v:Str) (g:Bool),w=u++v->zT (u.length+1) u false=([],g,true)->Bk u false:=by
 induction h with
 |nil=>
  intro _ u v g e _;have:=(List.append_eq_nil_iff.1 e.symm).1;rw[this];exact .nil
 |nl c hc h ih=>intro e;cases e
 | @ws c w b hc h ih=>
  intro e u v g e2 hu;cases u with
  |nil=>exact .nil
  |cons c' u=>
   simp only[yI,List.cons.injEq]at e2;obtain⟨rfl,e2⟩:=e2;rw[zT,yK (by rw[zAP hc];simp),yL hc]at hu
   exact .ws c hc (ih e u v g e2 hu)
 | @line l d w b hl hd h ih=>
  intro e u v g e2 hu;have:=zAS h e d qz7;rw[hd]at this;cases this
 | @block l n w b hl he hn h ih=>
  intro e u v g e2 hu;rw[Bool.or_eq_false_iff]at e;obtain⟨r,rfl⟩:=zoE hl;have hr:((47::42::r:Str)).drop 2=r:=rfl;have he':=he;rw[hr]at he;have hl2:r.length=n+2:=by simp only[qz3]at hn;omega
  rcases u with _| ⟨a,_| ⟨a2,u⟩⟩
  ·exact .nil
  ·simp only[yI,List.cons.injEq]at e2;obtain⟨rfl,_⟩:=e2;have:zT (([47]:Str).length+1) [47] false=([47],false,true):=by decide
   rw[this]at hu;cases hu
  ·simp only[yI,List.cons.injEq]at e2;obtain⟨rfl,rfl,e2⟩:=e2;rcases Nat.lt_or_ge u.length r.length with hlt|hge
   ·exfalso
    have hpre:u=r.take u.length:=by
     have:=congrArg (List.take u.length) e2;rw[List.take_append_of_le_length (by omega),List.take_left]at this;exact this.symm
    have hnone:zbM u=none:=by
     cases hc:zbM u with
     |none=>rfl
     |some k=>
      have h1:=zl7 _ _ hc;have h2:=zxy (r.drop u.length) u k hc;rw[hpre,List.length_take,Nat.min_eq_left (by omega),List.take_append_drop,he]at h2;have:=yS h2;omega
    rw[zT,yK (by decide),yK (by decide),yK (by simp[List.isPrefixOf]),yL (zKo _)]at hu;have hd:(47::42::u:Str).drop 2=u:=rfl;rw[hd,hnone]at hu;cases hu
   ·have hsp:u=r++u.drop r.length:=by
     have:=congrArg (List.take r.length) e2;rw[List.take_left,List.take_append_of_le_length hge]at this;have h3:=List.take_append_drop r.length u;rw[<-this]at h3;exact h3.symm
    generalize u.drop r.length=u2 at hsp;subst hsp;rw[yE]at e2;have e3:=List.append_cancel_left e2
    have hb:Bk (47::42::r) false:=by
     have:=Bk.block (l:=47::42::r) n hl he' hn Bk.nil;rw[e.1,List.append_nil]at this;exact this
    have hp:=hb.pass u2 false ((47::42::(r++u2)).length+1) (u2.length+1) (Nat.lt_succ_self _) (Nat.lt_succ_self _);have hp':zT ((47::42::(r++u2)).length+1) (47::42::(r++u2)) false=_:=hp;rw[hp',Bool.or_false]at hu;have:=Bk.block (l:=47::42::r) n hl he' hn (ih e.2 u2 v g e3 hu);rw[e.1]at this;exact this
theorem zBN: ∀s:Str,(∀x∈s,zcU x=true)->zI s=s.length
 | [],_=>rfl
 |c::s,h=>by rw[zbw,yL (h c qz7),zBN s λx hx=>h x (qz8 _ hx)];rfl
theorem zEz{s:Str}{t:Tok}{n N n':Nat}(h:zdp s=some (t,n))(hN:N<n)(h':zdp (s.take N)=some (t,n')):n'=N:=by
 have hn:=zgG h;have hn':=zgG h';have hlen:(s.take N).length=N:=by rw[List.length_take];omega
 rw[hlen]at hn';cases s with
 |nil=>cases h
 |cons c s=>
  cases N with
  |zero=>omega
  |succ N=>
   rw[List.take_succ_cons]at h' hlen;have h0:=h;unfold zdp at h h';dsimp only at h h';split at h
   ·rename_i hl;rw[yL hl]at h';split at h
    ·cases h
    ·split at h'
     ·cases h'
     ·cases h;simp only[Option.some.injEq,Prod.mk.injEq,zk.mk.injEq]at h';obtain⟨⟨_,h1,_⟩,h2⟩:=h';have:=congrArg List.length h1;rw[List.length_take,List.length_take]at this;have:=zhb (c::s);have:=zhb (c::s.take N);omega
   ·rename_i hl;rw[yK hl]at h';split at h
    ·rename_i hd;rw[yL hd]at h';cases hx:zeG (c::s)with
     |none=>rw[hx]at h;cases h
     |some p=>
      rw[hx]at h;cases h;cases hx':zeG (c::s.take N)with
      |none=>rw[hx']at h';cases h'
      |some p'=>
       rw[hx']at h';have e1:p.2=zI (c::s):=zsk (n:=p.1) (k:=p.2) hx;have e2:p'.2=zI (c::s.take N):=zsk (n:=p'.1) (k:=p'.2) hx'
       have e3:p'.2=n':=by
        simp only[Option.map_some,Option.some.injEq,Prod.mk.injEq]at h';exact h'.2
       have hall: ∀x∈(c::s.take N),zcU x=true:=by
        have hrt:=zAi (c::s);intro x hx2;refine List.all_eq_true.1 hrt x ?_
        have:(c::s.take N)=((c::s).take (zI (c::s))).take (N+1):=by
         rw[List.take_take,Nat.min_eq_left (by omega)];rfl
        rw[this]at hx2;exact(List.take_prefix _ _).subset hx2
       rw[<-e3,e2,zBN _ hall];exact hlen
    ·rename_i hd;rw[yK hd]at h';split at h
     ·rename_i hq;rw[yL hq]at h';generalize hx:zbs (c::s)=q at h;generalize hx':zbs (c::s.take N)=q' at h';obtain⟨u,m,e⟩:=q;obtain⟨u',m',e'⟩:=q';simp only at h h';split at h
      ·cases h
      ·split at h'
       ·cases h'
       ·rename_i hne hne';have happ:=zzV (c::s.take N) (s.drop N) hx' hne';have hsp:c::s.take N++s.drop N=c::s:=by rw[yI,List.take_append_drop]
        rw[hsp,hx]at happ;cases h;cases happ;cases h';omega
     ·rename_i hq;rw[yK hq]at h';split at h
      ·cases h
      ·split at h'
       ·cases h'
       ·cases h;simp only[Option.some.injEq,Prod.mk.injEq,zk.mk.injEq]at h';obtain⟨⟨_,h1,_⟩,h2⟩:=h';have:=congrArg List.length h1;rw[List.length_take,List.length_take]at this;have:=zl5 c s;have:=zl5 c (s.take N);omega
theorem zyo{s:Str}{t:Tok}{n:Nat}(h:zdp s=some (t,n)):t.Fresh=false/\t.At=0:=by
 cases s with
 |nil=>cases h
 |cons c s=>
  unfold zdp at h;dsimp only at h;split at h
  ·split at h
   ·cases h
   ·cases h;exact⟨rfl,rfl⟩
  ·split at h
   ·cases hn:zeG (c::s)with
    |none=>rw[hn]at h;cases h
    |some p=>rw[hn]at h;cases h;exact⟨rfl,rfl⟩
   ·split at h
    ·generalize zbs (c::s)=q at h;obtain⟨u,n',e⟩:=q;simp only at h;split at h
     ·cases h
     ·cases h;exact⟨rfl,rfl⟩
    ·split at h
     ·cases h
     ·cases h;exact⟨rfl,rfl⟩
theorem zz6{t:Tok}(h1:t.Fresh=false)(h2:t.At=0):(t.fresh false).at_ 0=t:=by
 obtain⟨k,x,n,a,f⟩:=t;simp only at h1 h2;subst h1;subst h2;rfl
structure NB2 (p:Str):Prop where
 ne:p≠[]
 nl: ∀c r,p=c::r->zah c=false/\¬wsB c
 p1:([47,47]:Str).isPrefixOf p=false
 p2:([47,42]:Str).isPrefixOf p=false
theorem NB2.stop{p:Str}(h:NB2 p)(f:Bool)(M:Nat)(hM:p.length<M):zT M p f=(p,f,true):=by
 cases p with
 |nil=>exact absurd rfl h.ne
 |cons c r=>
  cases M with
  |zero=>omega
  |succ M=>
   obtain⟨h1,h2⟩:=h.nl c r rfl;rw[zT,yK (by rw[h1];simp),yK h2,yK (by rw[h.p1];simp),yK (by rw[h.p2];simp)]
theorem zBT{w p q:Str}(h:w.isPrefixOf p=true):w.isPrefixOf (p++q)=true:=by
 rw[List.isPrefixOf_iff_prefix]at h⊢;exact h.trans (List.prefix_append _ _)
theorem NB2.take{p:Str}(h:NB2 p){N:Nat}(hN:0<N):NB2 (p.take N):=by
 have hsp:p.take N++p.drop N=p:=List.take_append_drop _ _;constructor
 ·intro e;have:=congrArg List.length e;rw[List.length_take]at this;have hp:0<p.length:=List.length_pos_iff.2 h.ne;simp only[qz6]at this;omega
 ·intro c r e;refine h.nl c (r++p.drop N) ?_;rw[e]at hsp;exact hsp.symm
 ·cases e:([47,47]:Str).isPrefixOf (p.take N)with
  |false=>rfl
  |true=>have:=zBT (q:=p.drop N) e;rw[hsp,h.p1]at this;cases this
 ·cases e:([47,42]:Str).isPrefixOf (p.take N)with
  |false=>rfl
  |true=>have:=zBT (q:=p.drop N) e;rw[hsp,h.p2]at this;cases this
theorem NB2.aft{p x:Str}(h:NB2 p)(hx:Aft x):NB2 (p++x):=by
 have hp:0<p.length:=List.length_pos_iff.2 h.ne;constructor
 ·intro e;exact h.ne (List.append_eq_nil_iff.1 e).1
 ·intro c r e;cases p with
  |nil=>exact absurd rfl h.ne
  |cons c' p=>
   simp only[yI,List.cons.injEq]at e;obtain⟨rfl,_⟩:=e;exact h.nl c' p rfl
 ·rcases p with _| ⟨a,_| ⟨b,p⟩⟩
  ·exact absurd rfl h.ne
  ·cases x with
   |nil=>exact h.p1
   |cons c r=>
    have hc:(47==c)=false:=by rcases hx c r rfl with rfl|rfl|rfl|rfl<;>decide
    simp[List.isPrefixOf,hc]
  ·exact h.p1
 ·rcases p with _| ⟨a,_| ⟨b,p⟩⟩
  ·exact absurd rfl h.ne
  ·cases x with
   |nil=>exact h.p2
   |cons c r=>
    have hc:(42==c)=false:=by rcases hx c r rfl with rfl|rfl|rfl|rfl<;>decide
    simp[List.isPrefixOf,hc]
  ·exact h.p2
theorem NB.two{r:Str}(h:NB r)(hne:r≠[]):NB2 r:=by
 cases r with
 |nil=>exact absurd rfl hne
 |cons c r=>
  have hh:=h.head;have h0:=h false ((c::r).length+1) (Nat.lt_succ_self _);refine⟨by simp,λc' r' e=>by cases e;exact hh,?_,?_⟩
  ·cases e:([47,47]:Str).isPrefixOf (c::r)with
   |false=>rfl
   |true=>
    rw[zT,yK (by rw[hh.1];simp),yK hh.2,yL e]at h0
    have hl:=zcR (c::r).length ((c::r).dropWhile (λx=> !zah x)) false;rw[h0]at hl;have hd:(c::r).dropWhile (λx=> !zah x)=r.dropWhile (λx=> !zah x):=by rw[List.dropWhile_cons,yL (by rw[hh.1];rfl)]
    have:=zd7 (λx=> !zah x) r;rw[hd]at hl;simp only[qz3]at hl;omega
  ·cases e:([47,42]:Str).isPrefixOf (c::r)with
   |false=>rfl
   |true=>
    have hn: ¬([47,47]:Str).isPrefixOf (c::r)=true:=by
     obtain⟨q,hq⟩:=zoE e;rw[hq];simp[List.isPrefixOf]
    rw[zT,yK (by rw[hh.1];simp),yK hh.2,yK hn,yL e]at h0
    split at h0
    ·cases h0
    ·rename_i n he;have hl:=zcR (c::r).length ((c::r).drop (n+4)) (false||(((c::r).drop 2).take n).any zah);rw[h0]at hl;simp only[List.length_drop,qz3]at hl;omega
structure Pc (t0:Tok) (fr fin:Bool) (p:Str):Prop where
 nb:NB2 p
 one: ∃n w g,zdp p=some (t0,n)/\w=p.drop n/\zT (w.length+1) w false=([],g,true)/\(fr=false->∀x∈w,zah x=false)/\(fr=false->fin=false->Bk w false)
def Good(t0:Tok)(p:Str)(N:Nat):Prop:=∃e,zaX (p.take N)=([t0,e],0,0)
theorem zDc{m:Nat}{s:Str}{f:Bool}{l:List (Tok×Nat)}(h:zch m s f= .inl l):l≠[]:=by
 obtain⟨l0,f',e,_⟩:=zxR m s f l h;rw[e];simp
theorem Pc.good{t0:Tok}{fr fin:Bool}{p:Str}(h:Pc t0 fr fin p)(hl:p.length<=4096):Good t0 p p.length:=by
 obtain⟨n,w,g,h1,h2,h3,_⟩:=h.one;obtain⟨q1,q2⟩:=zyo h1
 have hc:zch (p.length+1) p false= .inl [(t0.fresh false,p.length),(zmV g,0)]:=by
  rw[zch,h.nb.stop false (p.length+1) (Nat.lt_succ_self _)];simp only[Bool.true_eq_false,yA,h.nb.ne,h1];have hp:0<p.length:=List.length_pos_iff.2 h.nb.ne;obtain⟨m,hm⟩: ∃m,p.length=m+1:=⟨p.length -1,by omega⟩
  have:zch p.length (p.drop n) false= .inl [(zmV g,0)]:=by
   rw[hm,zch,<-h2,h3];rfl
  rw[this]
 refine⟨(zmV g).at_ ((p.length -0:Nat):Int),?_⟩;rw[List.take_length];unfold zaX;rw[yK (by omega),hc];have e:zci p.length [(t0.fresh false,p.length),(zmV g,0)]=[(t0.fresh false).at_ ((p.length -p.length:Nat):Int),(zmV g).at_ ((p.length -0:Nat):Int)]:=rfl;rw[Nat.sub_self,show((0:Nat):Int)=0 from rfl,zz6 q1 q2]at e;simp only[e]
theorem Pc.cut{t0:Tok}{fr fin:Bool}{p:Str}(h:Pc t0 fr fin p){N:Nat}(hg:Good t0 p N):Pc t0 fr fin (p.take N):=by
 obtain⟨n,w,g,h1,h2,h3,h4,h5⟩:=h.one;obtain⟨e,hc⟩:=hg
 have hN:0<N:=by
  rcases Nat.eq_zero_or_pos N with h0|h0
  ·subst h0;rw[List.take_zero]at hc;have:zaX []=([{Kind:=0,Text:=[],Num:=0,At:=0,Fresh:=false}],0,0):=by kernel_rfl
   rw[this]at hc;exact absurd (congrArg (λx=>x.1.length) hc) (by simp)
  ·exact h0
 have hnb:=h.nb.take hN;unfold zaX at hc;split at hc
 ·exact absurd (congrArg (λx=>x.1.length) hc) (by simp)
 ·cases hx:zch ((p.take N).length+1) (p.take N) false with
  |inr k=>rw[hx]at hc;exact absurd (congrArg (λx=>x.1.length) hc) (by simp)
  |inl l=>
   rw[hx]at hc;have hl:zci (p.take N).length l=[t0,e]:=congrArg (λx=>x.1) hc;rw[zch,hnb.stop false _ (Nat.lt_succ_self _)]at hx;simp only[Bool.true_eq_false,yA,hnb.ne]at hx;cases ho:zdp (p.take N)with
   |none=>rw[ho]at hx;cases hx
   |some q=>
    obtain⟨t1,n1⟩:=q;rw[ho]at hx;simp only at hx;cases hy:zch (p.take N).length ((p.take N).drop n1) false with
    |inr k=>rw[hy]at hx;cases hx
    |inl l'=>
     rw[hy]at hx;cases hx
     have e1:(t1.fresh false).at_ (((p.take N).length - (p.take N).length:Nat):Int)=t0:=by
      have:=congrArg List.head? hl;simpa [zci]using this
     obtain⟨q1,q2⟩:=zyo ho;rw[Nat.sub_self,show((0:Nat):Int)=0 from rfl,zz6 q1 q2]at e1;subst e1
     have hll:l'.length=1:=by
      have:=congrArg List.length hl;simp only[zci,List.length_map,qz3,qz6]at this;omega
     have hb: ∃g,zT (((p.take N).drop n1).length+1) ((p.take N).drop n1) false=([],g,true):=by
      generalize hm:(p.take N).length=m at hy;cases m with
      |zero=>cases hy
      |succ m=>
       rw[zch]at hy;generalize hq:zT (((p.take N).drop n1).length+1) ((p.take N).drop n1) false=q at hy;obtain⟨r,f',ok⟩:=q;simp only at hy;split at hy
       ·cases hy
       ·rename_i hok;have hok:ok=true:=by simpa using hok
        split at hy
        ·rename_i hr;subst hr;subst hok;exact⟨f',rfl⟩
        ·cases ho2:zdp r with
         |none=>rw[ho2]at hy;cases hy
         |some q2=>
          rw[ho2]at hy;simp only at hy;cases hz:zch m (r.drop q2.2) false with
          |inr k=>rw[hz]at hy;cases hy
          |inl l2=>
           rw[hz]at hy;cases hy;have:=zDc hz;have:0<l2.length:=List.length_pos_iff.2 this;simp only[qz3]at hll;omega
     obtain⟨g2,hb⟩:=hb;refine⟨hnb,n1,(p.take N).drop n1,g2,ho,rfl,hb,?_⟩;rcases Nat.lt_or_ge N n with hlt|hge
     ·have hn1:n1=N:=zEz h1 hlt ho;have hnil:(p.take N).drop n1=[]:=List.drop_eq_nil_of_le (by rw[List.length_take,hn1];omega)
      rw[hnil];exact⟨λ_ x hx=>absurd hx (by simp),λ_ _=>Bk.nil⟩
     ·have:=zz9 p h1 hge;rw[ho]at this;cases this
      have hpre:w=(p.take N).drop n++(w.drop (N -n)):=by
       rw[List.drop_take,h2,List.take_append_drop]
      refine⟨λhf x hx=>h4 hf x (by rw[hpre];exact List.mem_append_left _ hx),λhf hfin=>?_⟩
      exact zEH (h5 hf hfin) rfl _ _ g2 hpre hb
theorem zJo{x y:zk}(h:((x.Kind==y.Kind)&&((x.Text==y.Text)&&((x.Num==y.Num)&&((x.At==y.At)&&((x.Fresh==y.Fresh)&&true)))))=true):x=y:=by
 simp only[qz4,beq_iff_eq]at h;obtain⟨h1,h2,h3,h4,h5,_⟩:=h;obtain⟨a,b,c,d,e⟩:=x;obtain⟨a',b',c',d',e'⟩:=y;simp only at h1 h2 h3 h4 h5;subst h1;subst h2;subst h3;subst h4;subst h5;rfl
theorem zDB{s:Str}(h:(zaX s).2.2=0):(zaX s).2.1=0:=by
 unfold zaX at h⊢;split at h
 ·cases h
 ·rename_i hl;rw[yK hl];cases hc:zch (s.length+1) s false with
  |inl l=>rfl
  |inr k=>rw[hc]at h;cases h
theorem zzM{t0:Tok}(p:Str)(hl:p.length<=4096): ∀n,n<=p.length->Good t0 p n->∃N,N<=n/\Good t0 p N/\zaq zbn (n+1) (p,(n:Int),())=some (p.take N,())
 |0,_,hg=>by
  obtain⟨e,hc⟩:=hg;rw[List.take_zero]at hc;have:zaX []=([{Kind:=0,Text:=[],Num:=0,At:=0,Fresh:=false}],0,0):=by kernel_rfl
  rw[this]at hc;exact absurd (congrArg (λx=>x.1.length) hc) (by simp)
 |n+1,hn,hg=>by
  have hg0:=hg;obtain⟨e,hc⟩:=hg;have d:(((n+1:Nat):Int)>0):=by omega
  have cut: ∀k,k<=p.length->zar p 0 (k:Int)=some (p.take k):=λk hk=>by
   have:=zfF p 0 k (by omega) hk;simpa using this
  have cu: ∀k,zcv (p.take k)=some ((zaX (p.take k)).1,(zaX (p.take k)).2.1,(zaX (p.take k)).2.2,()):=λk=>zk2 _ (by rw[List.length_take];omega)
  have w:IntKind.wrap .i64 (((n+1:Nat):Int) -1)=(n:Int):=by rw[wrap_i64 (by omega) (by omega)];omega
  have l2: ∀x y:zk,((((([x,y]:List zk).length:Nat):Int))==2)=true:=λx y=>rfl
  have out:zaq zbn (n+1+1) (p,((n+1:Nat):Int),())=some (p.take (n+1),())\/(Good t0 p n/\zbn (p,((n+1:Nat):Int),())=some (.inl (p,(n:Int),()))):=by
   by_cases h0:(zaX (p.take n)).2.2=0
   ·by_cases hlen:(zaX (p.take n)).1.length=2
    ·obtain⟨x,y,hxy⟩: ∃x y,(zaX (p.take n)).1=[x,y]:=by
      rcases hh:(zaX (p.take n)).1 with _| ⟨x,_| ⟨y,_| ⟨z,r⟩⟩⟩
      ·rw[hh]at hlen;cases hlen
      ·rw[hh]at hlen;cases hlen
      ·exact⟨x,y,rfl⟩
      ·rw[hh]at hlen;simp at hlen
     cases hq:((x.Kind==t0.Kind)&&((x.Text==t0.Text)&&((x.Num==t0.Num)&&((x.At==t0.At)&&((x.Fresh==t0.Fresh)&&true)))))with
     |true=>
      have hx:=zJo hq;right;refine⟨⟨y,?_⟩,?_⟩
      ·have h1:=zDB h0;have:zaX (p.take n)=((zaX (p.take n)).1,(zaX (p.take n)).2.1,(zaX (p.take n)).2.2):=rfl;rw[this,hxy,h1,h0,hx]
      ·unfold zbn;have g0:zL [x,y] 0=some x:=rfl;have g1:zL [t0,e] 0=some t0:=rfl;have n2:((((([x,y]:List zk).length:Nat):Int)) !=2)=false:=rfl;simp only[d,decide_true,yB,cut (n+1) hn,cu,qz1,hc,l2,beq_self_eq_true,Bool.and_self,w,cut n (by omega),h0,bne_self_eq_false,qz2,yA,hxy,n2,g0,g1,hq,yO]
     |false=>
      left;refine zW ?_;unfold zbn;have g0:zL [x,y] 0=some x:=rfl;have g1:zL [t0,e] 0=some t0:=rfl;have n2:((((([x,y]:List zk).length:Nat):Int)) !=2)=false:=rfl;simp only[d,decide_true,yB,cut (n+1) hn,cu,qz1,hc,l2,beq_self_eq_true,Bool.and_self,w,cut n (by omega),h0,bne_self_eq_false,qz2,yA,hxy,n2,g0,g1,hq,yN]
    ·left;refine zW ?_;unfold zbn;have n2:(((((zaX (p.take n)).1.length:Nat):Int)) !=2)=true:=by rw[bne_iff_ne];omega
     simp only[d,decide_true,yB,cut (n+1) hn,cu,qz1,hc,l2,beq_self_eq_true,Bool.and_self,w,cut n (by omega),h0,bne_self_eq_false,qz2,yA,n2]
   ·left;refine zW ?_;unfold zbn;have n0:((zaX (p.take n)).2.2 !=0)=true:=by rw[bne_iff_ne];exact h0
    simp only[d,decide_true,yB,cut (n+1) hn,cu,qz1,hc,l2,beq_self_eq_true,Bool.and_self,w,cut n (by omega),n0]
  rcases out with out| ⟨g,out⟩
  ·exact⟨n+1,yJ _,hg0,out⟩
  ·obtain⟨N,h1,h2,h3⟩:=zzM p hl n (by omega) g;exact⟨N,by omega,h2,(zaN out).trans h3⟩
theorem zIE{t0:Tok}{fr fin:Bool}{p:Str}(h:Pc t0 fr fin p)(hl:p.length<=4096): ∃T,zeI p=some (T,())/\Pc t0 fr fin T/\T.length<=p.length:=by
 obtain⟨N,h1,h2,h3⟩:=zzM p hl p.length (yJ _) (h.good hl);refine⟨p.take N,?_,h.cut h2,by rw[List.length_take];omega⟩
 unfold zeI;exact zbA h3 (by omega)
inductive Sq (src:Str):List (Tok×Nat)->Prop
 |fin (f:Bool):Sq src [(zmV f,0)]
 |cons {t0:Tok} {f:Bool} {k:Nat} {t':Tok} {k':Nat} {l:List (Tok×Nat)} (h1:k<=src.length) (h2:k'<=k) (h3:Pc t0 t'.Fresh (t'.Kind==0) ((src.drop (src.length -k)).take (k -k'))) (h4:1<=t0.Kind) (h:Sq src ((t',k')::l)):Sq src ((t0.fresh f,k)::(t',k')::l)
theorem zFu(src:Str): ∀(m:Nat) (s:Str) (f:Bool) (l:List (Tok×Nat)),s.length<m->s<:+src->zch m s f= .inl l->Sq src l
 |0,s,f,l,h,_,_=>by omega
 |m+1,s,f,l,hm,hs,hc=>by
  have hsuf:=zyC (s.length+1) s f;rw[zch]at hc;generalize hq:zT (s.length+1) s f=q at hc hsuf;obtain⟨r,f',ok⟩:=q;simp only at hc hsuf;split at hc
  ·cases hc
  ·rename_i hok;have hok:ok=true:=by simpa using hok
   subst hok;split at hc
   ·cases hc;exact .fin f'
   ·rename_i hr
    have hnb:NB2 r:=by
     rcases zhz _ _ _ _ _ (Nat.lt_succ_self _) hq with⟨w,b,_,_,_,hn⟩| ⟨h0,_⟩
     ·exact hn.two hr
     ·exact absurd h0 hr
    cases ho:zdp r with
    |none=>rw[ho]at hc;cases hc
    |some p=>
     obtain⟨t0,n⟩:=p;rw[ho]at hc;simp only at hc;have hn:=zgG ho;have hrs:r<:+src:=hsuf.trans hs;have hrl:=hrs.length_le;have hr0:src.drop (src.length -r.length)=r:=(List.suffix_iff_eq_drop.1 hrs).symm;cases hy:zch m (r.drop n) false with
     |inr k=>rw[hy]at hc;cases hc
     |inl l'=>
      rw[hy]at hc;cases hc;have hsl:s.length>=r.length:=hsuf.length_le;have ih:=zFu src m (r.drop n) false l' (by rw[List.length_drop];omega) ((List.drop_suffix _ _).trans hrs) hy
      have key: ∃(t':Tok) (k':Nat) (l2:List (Tok×Nat)) (w:Str) (r2:Str) (g:Bool),l'=(t',k')::l2/\k'=r2.length/\r.drop n=w++r2/\zT (w.length+1) w false=([],g,true)/\
        (t'.Fresh=false->∀x∈w,zah x=false)/\(t'.Fresh=false->(t'.Kind==0)=false->Bk w false):=by
       cases m with
       |zero=>cases hy
       |succ m=>
        rw[zch]at hy;generalize hq2:zT ((r.drop n).length+1) (r.drop n) false=q at hy;obtain⟨r2,f2,ok2⟩:=q;simp only at hy;split at hy
        ·cases hy
        ·rename_i hok2;have hok2:ok2=true:=by simpa using hok2
         subst hok2
         obtain⟨t',k',l2,e1,e2,e3,e4⟩: ∃(t':Tok) (k':Nat) (l2:List (Tok×Nat)),l'=(t',k')::l2/\k'=r2.length/\t'.Fresh=f2/\(r2=[]->(t'.Kind==0)=true):=by
          split at hy
          ·rename_i h0;cases hy;exact⟨_,_,_,rfl,by rw[h0];rfl,rfl,λ_=>rfl⟩
          ·rename_i h0;cases ho2:zdp r2 with
           |none=>rw[ho2]at hy;cases hy
           |some p2=>
            rw[ho2]at hy;simp only at hy;cases hz:zch m (r2.drop p2.2) false with
            |inr k=>rw[hz]at hy;cases hy
            |inl l3=>
             rw[hz]at hy;cases hy;exact⟨_,_,_,rfl,rfl,rfl,λe=>absurd e h0⟩
         rcases zhz _ _ _ _ _ (Nat.lt_succ_self _) hq2 with⟨w,b,e,hb,hf,_⟩| ⟨h0,w,l3,b,e,hb,hf,hln⟩
         ·rw[Bool.false_or]at hf;have hp:=hb.pass [] false (w.length+1) 1 (by rw[List.append_nil];exact Nat.lt_succ_self _) (by simp)
          rw[List.append_nil]at hp;refine⟨t',k',l2,w,r2,b,e1,e2,e,?_,λhfr=>zAS hb (by rw[<-hf,<-e3,hfr]),λhfr _=>?_⟩
          ·rw[hp,Bool.false_or];rfl
          ·have:b=false:=by rw[<-hf,<-e3,hfr]
           rw[this]at hb;exact hb
         ·rw[Bool.false_or]at hf;have hp:=hb.pass l3 false ((w++l3).length+1) (l3.length+1) (Nat.lt_succ_self _) (Nat.lt_succ_self _);have hop:=zxi hln [] (λy hy=>by cases hy) (false||b) (l3.length+1) (by rw[List.append_nil];exact Nat.lt_succ_self _)
          rw[List.append_nil]at hop;rw[hop]at hp;refine⟨t',k',l2,w++l3,r2,_,e1,e2,by rw[h0,List.append_nil];exact e,hp,λhfr=>?_,λ_ hk=>?_⟩
          ·have hb0:b=false:=by rw[<-hf,<-e3,hfr]
           intro x hx;rcases List.mem_append.1 hx with hx|hx
           ·exact zAS hb hb0 x hx
           ·exact hln.2 x hx
          ·rw[e4 h0]at hk;cases hk
      obtain⟨t',k',l2,w,r2,g,rfl,rfl,hw,hg,c1,c2⟩:=key
      have hlw:r.length -n=w.length+r2.length:=by
       have:=congrArg List.length hw;rw[List.length_drop,qz5]at this;exact this
      have hpc:r.take (r.length -r2.length)=r.take n++w:=by
       have h2:r.length -r2.length=n+w.length:=by omega
       rw[h2,List.take_add,hw,List.take_left]
      refine .cons hrl (by omega) ?_ hn.2.2.1 ih;rw[hr0];have hN:n<=r.length -r2.length:=by omega
      refine⟨hnb.take (by omega),n,w,g,zz9 r ho hN,?_,hg,c1,c2⟩;have h3:(r.take n).length=n:=by rw[List.length_take];omega
      rw[hpc];conv=>rhs;rw[<-h3]
      rw[List.drop_left' (by rw[List.length_take,List.length_take];omega)]
def blB(B:Str):Prop:=(∃c r,B=c::r/\(c=9\/c=10\/c=11\/c=32))/\Bk B false/\B.length<=8
def ahead(f:Bool)(B:Str):Str:=(if f=true then[10]else[])++B
inductive Ou (bl:Nat->Str):Nat->List (Tok×Nat)->Str->Prop
 |fin (i:Nat) (f:Bool):Ou bl i [(zmV f,0)] (ahead f (bl i))
 |cons (i:Nat) {t0:Tok} {f:Bool} {k:Nat} {t':Tok} {k':Nat} {l:List (Tok×Nat)} {T O:Str} (h3:Pc t0 t'.Fresh (t'.Kind==0) T) (h4:1<=t0.Kind) (h:Ou bl (i+1) ((t',k')::l) O):Ou bl i ((t0.fresh f,k)::(t',k')::l) (ahead f (bl i)++(T++O))
theorem zzY{f:Bool}{B:Str}(h:blB B)(x:Str):Aft (ahead f B++x):=by
 intro c r e;obtain⟨⟨c',r',rfl,hc⟩,_⟩:=h;cases f with
 |true=>unfold ahead at e;simp at e;exact .inr (.inl e.1.symm)
 |false=>unfold ahead at e;simp at e;rw[<-e.1];exact hc
theorem Ou.aft{bl:Nat->Str}(hbl: ∀i,blB (bl i)){i:Nat}{l:List (Tok×Nat)}{O:Str}(h:Ou bl i l O):Aft O:=by
 cases h with
 |fin i f=>have:=zzY (f:=f) (hbl i) [];rwa [List.append_nil]at this
 |cons i h3 h4 h=>exact zzY (hbl i) _
theorem zxV{u B x:Str}{f:Bool}(hB:blB B)(hx:(x=[]\/NB2 x))(hu: ∃g,zT (u.length+1) u false=([],g,true))(hn:f=false->∀y∈u,zah y=false)(hb:f=false->x≠[]->Bk u false)(M:Nat)(hM:(u++(ahead f B++x)).length<M):
  zT M (u++(ahead f B++x)) false=(x,f,true):=by
 have fin: ∀(g:Bool) (M:Nat),x.length<M->zT M x g=(x,g,true):=λg M h=>by
  rcases hx with rfl|hx
  ·exact NB.nil g M h
  ·exact hx.stop g M h
 obtain⟨g,hu⟩:=hu;cases f with
 |true=>
  have e:u++(ahead true B++x)=u++10::(B++x):=by unfold ahead;simp
  rw[e]at hM⊢;rw[(zjv (B++x) _ u false [] g (Nat.lt_succ_self _) hu M hM).2 rfl,hB.2.1.pass x true ((B++x).length+1) (x.length+1) (Nat.lt_succ_self _) (Nat.lt_succ_self _),fin _ _ (Nat.lt_succ_self _)];rfl
 |false=>
  have e:u++(ahead false B++x)=u++(B++x):=by unfold ahead;simp
  rw[e]at hM⊢;by_cases hne:x=[]
  ·subst hne;rw[List.append_nil]at hM⊢;rcases zhz _ _ _ _ _ (Nat.lt_succ_self _) hu with⟨w,b,e1,h1,_,_⟩| ⟨_,w,l,b,e1,h1,_,hl⟩
   ·rw[List.append_nil]at e1;subst e1
    have hb0:b=false:=by
     cases b with
     |false=>rfl
     |true=>
      have:=zjB (u.length+1) u false (hn rfl);have hp:=h1.pass [] false (u.length+1) 1 (by rw[List.append_nil];exact Nat.lt_succ_self _) (by simp)
      rw[List.append_nil]at hp;rw[hp]at this;cases this
    subst hb0;rw[h1.pass B false M (B.length+1) hM (Nat.lt_succ_self _)];have:=hB.2.1.pass [] (false||false) (B.length+1) 1 (by rw[List.append_nil];exact Nat.lt_succ_self _) (by simp)
    rw[List.append_nil]at this;rw[this];rfl
   ·subst e1
    have hw:b=false:=by
     cases b with
     |false=>rfl
     |true=>
      have:=zjB ((w++l).length+1) (w++l) false (hn rfl);rw[h1.pass l false ((w++l).length+1) (l.length+1) (Nat.lt_succ_self _) (Nat.lt_succ_self _)]at this;have hop:=zxi hl [] (λy hy=>by cases hy) (false||true) (l.length+1) (by rw[List.append_nil];exact Nat.lt_succ_self _)
      rw[List.append_nil]at hop;rw[hop]at this;cases this
    subst hw;rw[yE]at hM⊢;rw[h1.pass (l++B) false M ((l++B).length+1) hM (Nat.lt_succ_self _)];exact zxi hl B (zAS hB.2.1 rfl) _ _ (Nat.lt_succ_self _)
  ·have hbu:=hb rfl hne;rw[hbu.pass (B++x) false M ((B++x).length+1) hM (Nat.lt_succ_self _),hB.2.1.pass x _ ((B++x).length+1) (x.length+1) (Nat.lt_succ_self _) (Nat.lt_succ_self _),fin _ _ (Nat.lt_succ_self _)];rfl
theorem zKQ{bl:Nat->Str}(hbl: ∀i,blB (bl i)){i:Nat}{l:List (Tok×Nat)}{O:Str}(h:Ou bl i l O): ∀(u:Str) (M:Nat) (th:Tok) (kh:Nat) (lt:List (Tok×Nat)),l=(th,kh)::lt->(∃g,zT (u.length+1) u false=([],g,true))->(th.Fresh=false->∀y∈u,zah y=false)->(th.Fresh=false->(th.Kind==0)=false->Bk u false)->(u++O).length<M->
  ∃l',zch M (u++O) false= .inl l'/\(l'.map λp=>tk p.1)=l.map λp=>tk p.1:=by
 induction h with
 |fin i f=>
  intro u M th kh lt e hu hn hb hM;cases e;cases M with
  |zero=>omega
  |succ M=>
   have hp:=zxV (x:=[]) (f:=f) (hbl i) (.inl rfl) hu hn (λ_ h=>absurd rfl h) ((u++ahead f (bl i)).length+1) (by rw[List.append_nil];exact Nat.lt_succ_self _)
   rw[List.append_nil]at hp;refine⟨[(zmV f,0)],?_,rfl⟩;rw[zch,hp];rfl
 | @cons i t0 f k t' k' l T O h3 h4 h ih=>
  intro u M th kh lt e hu hn hb hM;cases e;cases M with
  |zero=>omega
  |succ M=>
   have haf:=h.aft hbl;have hx:NB2 (T++O):=h3.nb.aft haf
   have hk:((t0.fresh f).Kind==0)=false:=by
    show(t0.Kind==0)=false;rw[yH];omega
   have hp:=zxV (x:=T++O) (f:=f) (hbl i) (.inr hx) hu hn (λhf _=>hb hf hk) ((u++(ahead f (bl i)++(T++O))).length+1) (Nat.lt_succ_self _);obtain⟨n,w,g,o1,o2,o3,o4,o5⟩:=h3.one;have hone:=zGP haf T o1;have hn:=zgG o1;have hd:(T++O).drop n=w++O:=by rw[List.drop_append_of_le_length (by omega),o2]
   have hlen:(w++O).length<M:=by
    rw[<-hd,List.length_drop];simp only[qz5]at hM⊢;omega
   obtain⟨l',e1,e2⟩:=ih w M t' k' l rfl ⟨g,o3⟩ o4 o5 hlen;refine⟨(t0.fresh f,(T++O).length)::l',?_,by rw[List.map_cons,List.map_cons,e2]⟩;rw[zch,hp];simp only[Bool.true_eq_false,yA,hx.ne,hone,hd,e1]
end Go.D08.U
namespace Go.D08
open Go Go.Gw Go.Dn Go.Proofs
set_option maxRecDepth 100000
def Ded{α:Type}(p:PR α):Prop:=∀v,p≠gt v
structure zHU (g:PG):Prop where
 expr: ∀a t,zaa t=0->Ded (g.expr a t)
 assign: ∀a t,zaa t=0->Ded (g.assign a t)
 binary: ∀a b t,zaa t=0->Ded (g.binary a b t)
 unary: ∀t,zaa t=0->Ded (g.unary t)
 made: ∀t,zaa t=0->Ded (g.made t)
 prim: ∀t,zaa t=0->Ded (g.prim t)
 exprs: ∀a b t,zaa t=0->Ded (g.exprs a b t)
 props: ∀t,zaa t=0->Ded (g.props t)
 func: ∀a t,zaa t=0->Ded (g.func a t)
 vars: ∀a t,zaa t=0->Ded (g.vars a t)
 block: ∀t,zaa t=0->Ded (g.block t)
 head: ∀t,zaa t=0->Ded (g.head t)
 till: ∀a t,zaa t=0->Ded (g.till a t)
 loop: ∀t,zaa t=0->Ded (g.loop t)
 cases: ∀a t,zaa t=0->Ded (g.cases a t)
 stmt: ∀t,zaa t=0->Ded (g.stmt t)
 body: ∀t,zaa t=0->∀v,g.body t=gt v->zaa v.2=0
 stmts: ∀a t,zaa t=0->∀v,g.stmts a t=gt v->zaa v.2=0
section
variable {g:PG} (D:zHU g)
include D
end
structure Beh (e m:Tok) (tb:zH):Prop where
 e0:e.kind=0
 m5:m.kind=5
 mt:m.text=[59]
 el:tIs [101,108,115,101] tb=false
inductive R1 (e m:Tok) (tb:zH):zH->zH->Prop
 |fin:R1 e m tb [e] (m::tb)
 |cons (a:Tok) {s s':zH} (ha:a.kind≠0) (h:R1 e m tb s s'):R1 e m tb (a::s) (a::s')
def R12(e m:Tok)(tb t t':zH):Prop:=R1 e m tb t t'\/(t=[e]/\t'=tb)
def Ext{α:Type}(z:Bool)(Q:zH->zH->Prop)(p q:PR α):Prop:=∀v s,p=gt (v,s)->(z=true->zaa s≠0)->∃s',q=gt (v,s')/\Q s s'
section
variable {α β:Type} {Q R:zH->zH->Prop} {p q:PR α} {z:Bool}
end
section
variable {e m:Tok} {tb t t':zH} (B:Beh e m tb) (h:R1 e m tb t t')
include B
include h
end
structure zMb (e m:Tok) (tb:zH) (g:PG):Prop where
 expr: ∀a t t',R1 e m tb t t'->Ext false (R1 e m tb) (g.expr a t) (g.expr a t')
 comma: ∀a x t t',R1 e m tb t t'->Ext false (R1 e m tb) (g.comma a x t) (g.comma a x t')
 assign: ∀a t t',R1 e m tb t t'->Ext false (R1 e m tb) (g.assign a t) (g.assign a t')
 binary: ∀a b t t',R1 e m tb t t'->Ext false (R1 e m tb) (g.binary a b t) (g.binary a b t')
 bins: ∀a b x t t',R1 e m tb t t'->Ext false (R1 e m tb) (g.bins a b x t) (g.bins a b x t')
 unary: ∀t t',R1 e m tb t t'->Ext false (R1 e m tb) (g.unary t) (g.unary t')
 mems: ∀a x t t',R1 e m tb t t'->Ext false (R1 e m tb) (g.mems a x t) (g.mems a x t')
 made: ∀t t',R1 e m tb t t'->Ext false (R1 e m tb) (g.made t) (g.made t')
 prim: ∀t t',R1 e m tb t t'->Ext false (R1 e m tb) (g.prim t) (g.prim t')
 exprs: ∀a b t t',R1 e m tb t t'->a≠[59]->Ext false (R1 e m tb) (g.exprs a b t) (g.exprs a b t')
 props: ∀t t',R1 e m tb t t'->Ext false (R1 e m tb) (g.props t) (g.props t')
 func: ∀a t t',R1 e m tb t t'->Ext false (R1 e m tb) (g.func a t) (g.func a t')
 vars: ∀a t t',R1 e m tb t t'->Ext false (R1 e m tb) (g.vars a t) (g.vars a t')
 block: ∀t t',R1 e m tb t t'->Ext false (R1 e m tb) (g.block t) (g.block t')
 head: ∀t t',R1 e m tb t t'->Ext false (R1 e m tb) (g.head t) (g.head t')
 till: ∀a t t',R1 e m tb t t'->Ext false (R1 e m tb) (g.till a t) (g.till a t')
 loop: ∀t t',R1 e m tb t t'->Ext false (R12 e m tb) (g.loop t) (g.loop t')
 cases: ∀a t t',R1 e m tb t t'->Ext false (R1 e m tb) (g.cases a t) (g.cases a t')
 body: ∀t t',R1 e m tb t t'->Ext true (R1 e m tb) (g.body t) (g.body t')
 stmt: ∀t t',R1 e m tb t t'->Ext false (R12 e m tb) (g.stmt t) (g.stmt t')
 stmts: ∀a t t',R1 e m tb t t'->Ext true (R1 e m tb) (g.stmts a t) (g.stmts a t')
section
variable {e m:Tok} {tb t t':zH} {g:PG} (B:Beh e m tb) (D:zHU g) (L:zMb e m tb g) (h:R1 e m tb t t')
include B D L h
omit D L h in
end
structure TkG (a:Tok):Prop where
 name:a.kind=1->zce a.text=true
 word:a.kind=2->zkN a.text=true
 num:a.kind=3->0<=a.num/\a.num<=9007199254740991
 str:a.kind=4->zaW a.text=true
def GT(t:zH):Prop:=∀a∈t,TkG a
theorem GT.tail{t:zH}(h:GT t):GT t.tail:=λa ha=>h a (List.mem_of_mem_tail ha)
def wT:zH->Nat
 | []=>0
 |a::r=>100+3*a.text.length+wT r
theorem zax{t:zH}(h:zaa t≠0):wT t=100+3*(tText t).length+wT t.tail:=by
 cases t with
 |nil=>exact absurd rfl h
 |cons a r=>rfl
theorem GT.name{t:zH}(h:GT t)(hk:(zaa t==1)=true):zce (tText t)=true:=by
 cases t with
 |nil=>cases hk
 |cons a r=>exact(h a qz7).name (eq_of_beq hk)
theorem GT.ident{t:zH}(h:GT t)(hk:(zaa t==1||zaa t==2)=true):zkN (tText t)=true:=by
 rw[yQ]at hk;rcases hk with hk|hk
 ·have:=h.name hk;unfold zce at this;rw[qz4]at this;exact this.1
 ·cases t with
  |nil=>cases hk
  |cons a r=>exact(h a qz7).word (eq_of_beq hk)
def Pm{α:Type}(P:α->zH->Prop)(x:PR α):Prop:=match x with|some (.inr q)=>GT q.2/\P q.1 q.2|_=>True
theorem Pm.bd{α β:Type}{P:α->zH->Prop}{Q:β->zH->Prop}{x:PR α}{f:α×zH->PR β}(h:Pm P x)(k: ∀q:α×zH,GT q.2->P q.1 q.2->Pm Q (f q)):Pm Q (x.bd f):=by
 cases x with
 |none=>trivial
 |some p=>
  cases p with
  |inl j=>trivial
  |inr q=>exact k q h.1 h.2
theorem Pm.bn{β:Type}{P:Unit->zH->Prop}{Q:β->zH->Prop}{x:PR Unit}{f:zH->PR β}(h:Pm P x)(k: ∀t,GT t->P () t->Pm Q (f t)):Pm Q (x.bn f):=Pm.bd h λq g p=>k q.2 g p
theorem Pm.ite{α:Type}{P:α->zH->Prop}{c:Prop}[Decidable c]{a b:PR α}(h:c->Pm P a)(k: ¬c->Pm P b):Pm P (if c then a else b):=by
 by_cases hc:c
 ·rw[yL hc];exact h hc
 ·rw[yK hc];exact k hc
theorem Pm.up{α:Type}{P Q:α->zH->Prop}{x:PR α}(h:Pm P x)(k: ∀v t,P v t->Q v t):Pm Q x:=by
 cases x with
 |none=>trivial
 |some p=>
  cases p with
  |inl j=>trivial
  |inr q=>exact⟨h.1,k _ _ h.2⟩
theorem Pm.need{t:zH}(g:GT t)(s:Str):Pm (λ_ t'=>wT t'+100<=wT t) (za5 s t):=
 .ite (λc=>⟨g.tail,by have:=zax (zab c);show wT t.tail+100<=_;omega⟩) λ_=>trivial
theorem Pm.end{t:zH}(g:GT t):Pm (λ_ t'=>wT t'<=wT t) (zl6 t):=
 .ite (λc=>⟨g.tail,by have:=zax (zab c);show wT t.tail<=_;omega⟩) λ_=> .ite (λ_=>⟨g,yJ _⟩) λ_=>trivial
/-! ### what is made may be -/
theorem zLr{n:Int}(h:0<=n/\n<=9007199254740991):zD ⟨1,[],n,[],[],[]⟩ 101=true:=by
 unfold zD;rw[zLE rfl];simp[zas,zN,zau,zaW,zU,h];rfl
theorem zLt{s:Str}(h:zaW s=true):zD ⟨2,[],0,s,[],[]⟩ 101=true:=by
 unfold zD;rw[zLP rfl];simp[zas,zN,zau,zU,h];rfl
theorem zKu{s:Str}(h:zce s=true):zD (ndN 3 s []) 101=true:=by
 unfold zD;rw[zLQ rfl];simp[zas,zN,zau,zaW,zU,ndN,h];rfl
theorem zKO:zD (nd 4 []) 101=true:=by decide+kernel
theorem zKS:zD (nd 5 []) 101=true:=by decide+kernel
theorem zJd:zD (nd 6 []) 101=true:=by decide+kernel
theorem zKD:zD ⟨6,[],1,[],[],[]⟩ 101=true:=by decide+kernel
theorem zIw{l:List Node}(h: ∀y∈l,zD y 101=true):zD (nd 7 l) 101=true:=by
 unfold zD;rw[zLx rfl];simp[zas,zN,zau,zaW,zU,nd];exact⟨rfl,h⟩
theorem zGl{l:List Node}(h: ∀y∈l,zD y 112=true):zD (nd 8 l) 101=true:=by
 unfold zD;rw[zLR rfl];simp[zas,zN,zau,zaW,zU,nd];exact⟨rfl,h⟩
theorem zFU{k:Str}{x:Node}(hk:zaW k=true)(h:zD x 101=true):zD ⟨9,[],0,k,[],[x]⟩ 112=true:=by
 unfold zD;rw[zLB rfl];simp[zas,zN,zau,zU,hk,h];rfl
theorem zKU{m:Str}{ns:List Str}{l:List Node}(hm:m=[]\/zce m=true)(hn: ∀s∈ns,zce s=true)(h: ∀y∈l,zD y 120=true):zD ⟨10,m,0,[],ns,l⟩ 101=true:=by
 unfold zD;rw[zKB rfl];simp[zas,zN,zau,zaW,zU];exact⟨rfl,⟨hm,hn⟩,h⟩
theorem zKA{m:Str}{ns:List Str}{l:List Node}(hm:zce m=true)(hn: ∀s∈ns,zce s=true)(h: ∀y∈l,zD y 120=true):zD ⟨39,m,0,[],ns,l⟩ 120=true:=by
 unfold zD;rw[zKe rfl];simp[zas,zN,zau,zaW,zU];exact⟨rfl,⟨hm,hn⟩,h⟩
theorem zGF{s:Str}{x:Node}(hs:zkN s=true)(h:zD x 101=true):zD (ndN 11 s [x]) 101=true:=by
 unfold zD;rw[zJ8 rfl];simp[zas,zN,zau,zaW,zU,ndN,hs,h];rfl
theorem zI5{x y:Node}(hx:zD x 101=true)(hy:zD y 101=true):zD (nd 12 [x,y]) 101=true:=by
 unfold zD;rw[zLb rfl];simp[zas,zN,zau,zaW,zU,nd,hx,hy];rfl
theorem zK1{x:Node}{l:List Node}(hx:zD x 101=true)(h: ∀y∈l,zD y 101=true):zD (nd 13 (x::l)) 101=true:=by
 unfold zD;rw[zKd rfl];simp[zas,zN,zau,zaW,zU,nd,hx];exact⟨rfl,h⟩
theorem zHR{x:Node}{l:List Node}(hx:zD x 101=true)(h: ∀y∈l,zD y 101=true):zD (nd 14 (x::l)) 101=true:=by
 unfold zD;rw[zKb rfl];simp[zas,zN,zau,zaW,zU,nd,hx];exact⟨rfl,h⟩
theorem zJf{s:Str}{x:Node}(hs:zG4.contains s=true)(h:zD x 101=true):zD (ndN 15 s [x]) 101=true:=by
 have hs:zG4.contains s=true:=hs;unfold zD;rw[zKg rfl];simp only[zas,zN,zau,zaW,zU,ndN,h];rw[show(zG4.contains s)=true from hs];rfl
theorem zEB{x:Node}(h:zD x 101=true)(ht:zhs x.Kind=true):zD x 116=true:=by
 unfold zD;rw[zhW h,Bool.and_true];exact ht
theorem zBg{s:Str}{n:Int}{x:Node}(hs:zqf.contains s=true)(hn:n=0\/n=1)(h:zD x 101=true)(ht:zhs x.Kind=true):zD ⟨16,s,n,[],[],[x]⟩ 101=true:=by
 have hs:zqf.contains s=true:=hs;unfold zD;rw[zKV rfl];simp only[zas,zN,zau,zaW,zU,zEB h ht];rw[show(zqf.contains s)=true from hs];rcases hn with rfl|rfl<;>rfl
theorem zGm{no:Bool}{t:zH}{x y:Node}(hb:(zew no t).1≠0)(hx:zD x 101=true)(hy:zD y 101=true):zD (ndN (zew no t).2 (tText t) [x,y]) 101=true:=by
 cases t with
 |nil=>exact absurd rfl hb
 |cons a r=>
  have hb':(if opK a=true then lvS no a.text else(0,0)).1≠0:=hb;show zD (ndN (if opK a=true then lvS no a.text else(0,0)).2 a.text [x,y]) 101=true
  have b17: ∀s:Str,ztu.contains s=true->zD (ndN 17 s [x,y]) 101=true:=λs hs=>by
   unfold zD;rw[zJ0 rfl];simp only[zas,zN,zau,zaW,zU,ndN,hx,hy];rw[show(ztu.contains s)=true from hs];rfl
  have b18: ∀s:Str,zyx.contains s=true->zD (ndN 18 s [x,y]) 101=true:=λs hs=>by
   unfold zD;rw[zJZ rfl];simp only[zas,zN,zau,zaW,zU,ndN,hx,hy];rw[show(zyx.contains s)=true from hs];rfl
  have sub: ∀(l:List Str),(∀w∈l,ztu.contains w=true)->∀s:Str,l.contains s=true->ztu.contains s=true:=λl hl s hs=>hl s (by simpa using hs)
  cases ho:opK a with
  |false=>rw[ho]at hb';exact absurd rfl hb'
  |true=>
   rw[ho]at hb';simp only[yB]at hb'⊢;unfold lvS at hb'⊢;split
   ·rename_i h;rw[eq_of_beq h];exact b18 _ (by decide)
   ·split
    ·rename_i h;rw[eq_of_beq h];exact b18 _ (by decide)
    ·split
     ·rename_i h;exact b17 _ (sub eqL (by decide) _ h)
     ·split
      ·rename_i h;rw[yQ]at h;rcases h with h|h
       ·exact b17 _ (sub ltL (by decide) _ h)
       ·rw[qz4]at h;rw[eq_of_beq h.2];exact b17 _ (by decide)
      ·split
       ·rename_i h;exact b17 _ (sub zxo (by decide) _ h)
       ·split
        ·rename_i h;exact b17 _ (sub mulL (by decide) _ h)
        ·rename_i h1 h2 h3 h4 h5 h6;rw[yK h1,yK h2,yK h3,yK h4,yK h5,yK h6]at hb';exact absurd rfl hb'
theorem zKq{x y z:Node}(hx:zD x 101=true)(hy:zD y 101=true)(hz:zD z 101=true):zD (nd 19 [x,y,z]) 101=true:=by
 unfold zD;rw[zLa rfl];simp[zas,zN,zau,zaW,zU,nd,hx,hy,hz];rfl
theorem zGf{s:Str}{x y:Node}(hs:zGv.contains s=true)(hx:zD x 101=true)(ht:zhs x.Kind=true)(hy:zD y 101=true):zD (ndN 20 s [x,y]) 101=true:=by
 have hs:zGv.contains s=true:=hs;unfold zD;rw[zLg rfl];simp only[zas,zN,zau,zaW,zU,ndN,zEB hx ht,hy];rw[show(zGv.contains s)=true from hs];rfl
theorem zIz{x y:Node}(hx:zD x 101=true)(hy:zD y 101=true):zD (nd 21 [x,y]) 101=true:=by
 unfold zD;rw[zKJ rfl];simp[zas,zN,zau,zaW,zU,nd,hx,hy];rfl
theorem ztd{l:List Str}{t:zH}(h:zet l t=true):l.contains (tText t)=true:=by
 cases t with
 |nil=>cases h
 |cons a r=>
  have h:(opK a&&l.contains a.text)=true:=h;rw[qz4]at h;exact h.2
theorem bu(k:Int)(l:List Node):zaD (nd k l)=zbl l+7:=by simp[nd,zaD]
theorem buN(k:Int)(s:Str)(l:List Node):zaD (ndN k s l)=s.length+zbl l+7:=by simp[ndN,zaD]
theorem bl1(x:Node):zbl [x]=zaD x:=by simp[zbl]
theorem bl2(x y:Node):zbl [x,y]=zaD x+zaD y:=by simp[zbl]
theorem bl3(x y z:Node):zbl [x,y,z]=zaD x+(zaD y+zaD z):=by simp[zbl]
theorem bl4(x y z w:Node):zbl [x,y,z,w]=zaD x+(zaD y+(zaD z+zaD w)):=by simp[zbl]
theorem blc(x:Node)(l:List Node):zbl (x::l)=zaD x+zbl l:=rfl
theorem buF(k:Int)(m:Str)(ns:List Str)(l:List Node):zaD ⟨k,m,0,[],ns,l⟩=m.length+(ns.map λs=>s.length+1).sum+zbl l+7:=by simp[zaD]
abbrev PE(M:Nat)(x:Node)(t':zH):Prop:=zD x 101=true/\zaD x+50+wT t'<=M
abbrev PO(c:UInt8)(k M:Nat)(x:Node)(t':zH):Prop:=zD x c=true/\zaD x+k+wT t'<=M
abbrev PL(c:UInt8)(M:Nat)(l:List Node)(t':zH):Prop:=(∀y∈l,zD y c=true)/\zbl l+wT t'<=M
structure zGj (g:PG):Prop where
 expr: ∀a t,GT t->Pm (PE (wT t)) (g.expr a t)
 comma: ∀a x t M,GT t->zD x 101=true->zaD x+50+wT t<=M->Pm (PE M) (g.comma a x t)
 assign: ∀a t,GT t->Pm (PE (wT t)) (g.assign a t)
 binary: ∀a b t,GT t->Pm (PE (wT t)) (g.binary a b t)
 bins: ∀a b x t M,GT t->zD x 101=true->zaD x+50+wT t<=M->Pm (PE M) (g.bins a b x t)
 unary: ∀t,GT t->Pm (PE (wT t)) (g.unary t)
 mems: ∀a x t M,GT t->zD x 101=true->zaD x+50+wT t<=M->Pm (PE M) (g.mems a x t)
 made: ∀t,GT t->Pm (PE (wT t)) (g.made t)
 prim: ∀t,GT t->Pm (PE (wT t)) (g.prim t)
 exprs: ∀s b t,GT t->Pm (PL 101 (wT t)) (g.exprs s b t)
 props: ∀t,GT t->Pm (PL 112 (wT t)) (g.props t)
 func: ∀t,GT t->Pm (PE (wT t)) (g.func 10 t)/\Pm (PO 120 30 (wT t)) (g.func 39 t)
 vars: ∀a t,GT t->Pm (λl t'=>l≠[]/\(∀y∈l,zD y 100=true)/\zbl l+40+wT t'<=wT t) (g.vars a t)
 block: ∀t,GT t->Pm (PO 98 50 (wT t)) (g.block t)
 head: ∀t,GT t->Pm (PO 101 100 (wT t)) (g.head t)
 till: ∀s t,GT t->Pm (PO 102 0 (wT t)) (g.till s t)
 loop: ∀t,GT t->Pm (PO 115 0 (wT t)) (g.loop t)
 cases: ∀o t,GT t->Pm (λl t'=>zjP l (if o=true then 0 else 1)=true/\zbl l+wT t'<=wT t) (g.cases o t)
 body: ∀t,GT t->Pm (PL 115 (wT t)) (g.body t)
 stmt: ∀t,GT t->Pm (PO 115 30 (wT t)) (g.stmt t)
 stmts: ∀f t,GT t->Pm (PL (if f=true then 120 else 115) (wT t)) (g.stmts f t)
section
variable {g:PG} (G:zGj g)
include G
theorem zIg(a t)(h:GT t):Pm (PE (wT t)) (zyz g a t):= .bd (G.assign _ _ h) λq hq p=>G.comma _ _ _ _ hq p.1 p.2
theorem zGk(a x t M)(h:GT t)(hx:zD x 101=true)(hM:zaD x+50+wT t<=M):Pm (PE M) (zvJ g a x t):=
 .ite (λc=>by
  have hw:=zax (zab c);exact .bd (G.assign _ _ h.tail) λq hq p=>G.comma _ _ _ _ hq (zIz hx p.1) (by rw[bu,bl2];have:=p.2;omega)) λ_=>⟨h,hx,hM⟩
theorem zFM(a t)(h:GT t):Pm (PE (wT t)) (zq9 g a t):=
 .bd (G.binary _ _ _ h) λq hq p=> .ite (λc=>by
  have hw:=zax (zab c)
  exact .bd (G.assign _ _ hq.tail) λy hy py=> .bn (.need hy _) λt1 h1 p1=> .bd (G.assign _ _ h1) λz hz pz=>
   ⟨hz,zKq p.1 py.1 pz.1,by rw[bu,bl3];have:=p.2;have:=py.2;have:=pz.2;dsimp only;omega⟩) λ_=>
  .ite (λc=> .ite (λht=>by
   have hw:=zax (zeW c);exact .bd (G.assign _ _ hq.tail) λy hy py=>⟨hy,zGf (ztd c) p.1 ht py.1,by rw[buN,bl2];have:=p.2;have:=py.2;dsimp only;omega⟩) λ_=>trivial) λ_=>⟨hq,p⟩
theorem zFy(a b t)(h:GT t):Pm (PE (wT t)) (zqT g a b t):= .bd (G.unary _ h) λq hq p=>G.bins _ _ _ _ _ hq p.1 p.2
theorem zIG(a b x t M)(h:GT t)(hx:zD x 101=true)(hM:zaD x+50+wT t<=M):Pm (PE M) (zx5 g a b x t):=
 .ite (λ_=>⟨h,hx,hM⟩) λc=>by
  have h0:(zew a t).1≠0:=by
   intro e;rw[e]at c;simp at c
  have hw:=zax (zu5 h0);exact .bd (G.binary _ _ _ h.tail) λq hq p=>G.bins _ _ _ _ _ hq (zGm h0 hx p.1) (by rw[buN,bl2];have:=p.2;omega)
theorem zGZ(t)(h:GT t):Pm (PE (wT t)) (zvX g t):=
 .ite (λc=>by
  have hw:=zax (zeW c);exact .bd (G.unary _ h.tail) λy hy p=>⟨hy,zJf (ztd c) p.1,by rw[buN,bl1];have:=p.2;dsimp only;omega⟩) λ_=>
 .ite (λc=>by
  have hw:=zax (zeW c)
  exact .bd (G.unary _ h.tail) λy hy p=> .ite (λht=>⟨hy,zBg (ztd c) (.inr rfl) p.1 ht,by
   have:=p.2;show zaD ⟨16,tText t,1,[],[],[y.1]⟩+50+wT y.2<=wT t;simp only[zaD,zbl,List.map_nil,List.sum_nil,qz6];omega⟩) λ_=>trivial) λ_=>
 .bd (G.made _ h) λq hq p=> .bd (G.mems _ _ _ _ hq p.1 p.2) λr hr pr=> .ite (λ_=>⟨hr,pr⟩) λc=> .ite (λht=>by
  have h1:zet zqf r.2=true:=by
   cases e:zet zqf r.2 with
   |true=>rfl
   |false=>rw[e]at c;simp at c
  have hw:=zax (zeW h1);exact⟨hr.tail,zBg (ztd h1) (.inl rfl) pr.1 ht,by rw[buN,bl1];have:=pr.2;show _+wT r.2.tail<=_;omega⟩) λ_=>trivial
theorem zIO(c x t M)(h:GT t)(hx:zD x 101=true)(hM:zaD x+50+wT t<=M):Pm (PE M) (zwn g c x t):=
 .ite (λc1=>by
  have hw:=zax (zab c1)
  exact .ite (λc2=>by
   have hw2:=zax (t:=t.tail) (by intro e;rw[e]at c2;simp at c2)
   exact G.mems _ _ _ _ h.tail.tail (zGF (h.tail.ident c2) hx) (by rw[buN,bl1];omega)) λ_=>trivial) λ_=>
 .ite (λc1=>by
  have hw:=zax (zab c1);exact .bd (G.expr _ _ h.tail) λk hk p=> .bn (.need hk _) λt1 h1 p1=>G.mems _ _ _ _ h1 (zI5 hx p.1) (by rw[bu,bl2];have:=p.2;omega)) λ_=>
 .ite (λc1=>by
  rw[qz4]at c1;have hw:=zax (zab c1.2);exact .bd (G.exprs _ _ _ h.tail) λl hl p=>G.mems _ _ _ _ hl (zK1 hx p.1) (by rw[bu,blc];have:=p.2;omega)) λ_=>⟨h,hx,hM⟩
theorem zJC(t)(h:GT t):Pm (PE (wT t)) (zxB g t):=
 .ite (λc=>by
  have hw:=zax (zab c)
  exact .bd (G.made _ h.tail) λq hq p=> .bd (G.mems _ _ _ _ hq p.1 p.2) λr hr pr=> .ite (λc2=>by
   have hw2:=zax (zab c2);exact .bd (G.exprs _ _ _ hr.tail) λl hl pl=>⟨hl,zHR pr.1 pl.1,by rw[bu,blc];have:=pr.2;have:=pl.2;dsimp only;omega⟩) λ_=>
   ⟨hr,zHR (l:=[]) pr.1 (λy hy=>by cases hy),by rw[bu,bl1];have:=pr.2;dsimp only;omega⟩) λ_=>G.prim _ h
theorem zJi(t)(h:GT t):Pm (PE (wT t)) (znm g t):=by
 have ti: ∀{s:Str},tIs s t=true->∀x:Node,zD x 101=true->zaD x<=50->Pm (PE (wT t)) (gt (x,t.tail)):=λc x hx hb=>by
  have:=zax (zab c);exact⟨h.tail,hx,by show zaD x+50+wT t.tail<=_;omega⟩
 refine .ite (λc=>?_) λ_=> .ite (λc=>?_) λ_=> .ite (λc=>?_) λ_=> .ite (λc=>ti c _ zKO (by decide+kernel)) λ_=> .ite (λc=>ti c _ zKS (by decide+kernel)) λ_=> .ite (λc=>ti c _ zJd (by decide+kernel)) λ_=>
  .ite (λc=>ti c _ zKD (by decide+kernel)) λ_=> .ite (λc=>?_) λ_=> .ite (λc=>?_) λ_=> .ite (λc=>?_) λ_=> .ite (λc=>?_) λ_=>trivial
 ·have hw:=zax (zbd c (by decide));exact⟨h.tail,zKu (h.name c),by rw[buN];show(tText t).length+zbl []+7+50+wT t.tail<=_;simp only[zbl];omega⟩
 ·have hw:=zax (zbd c (by decide));cases t with
  |nil=>cases c
  |cons a r=>
   exact⟨h.tail,zLr ((h a qz7).num (eq_of_beq c)),by
    show zaD ⟨1,[],a.num,[],[],[]⟩+50+wT r<=100+3*a.text.length+wT r;simp only[zaD,zbl,List.map_nil,List.sum_nil,qz6];omega⟩
 ·have hw:=zax (zbd c (by decide));cases t with
  |nil=>cases c
  |cons a r=>
   exact⟨h.tail,zLt ((h a qz7).str (eq_of_beq c)),by
    show zaD ⟨2,[],0,a.text,[],[]⟩+50+wT r<=100+3*a.text.length+wT r;simp only[zaD,zbl,List.map_nil,List.sum_nil,qz6];omega⟩
 all_goals have hw:=zax (zab c)
 ·exact(G.func _ h.tail).1.up λv t' p=>⟨p.1,by have:=p.2;omega⟩
 ·exact .bd (G.expr _ _ h.tail) λk hk p=> .bn (.need hk _) λt1 h1 p1=>⟨h1,p.1,by have:=p.2;show zaD k.1+50+wT t1<=_;omega⟩
 ·exact .bd (G.exprs _ _ _ h.tail) λl hl p=>⟨hl,zIw p.1,by rw[bu];have:=p.2;dsimp only;omega⟩
 ·exact .bd (G.props _ h.tail) λl hl p=>⟨hl,zGl p.1,by rw[bu];have:=p.2;dsimp only;omega⟩
theorem zF5(s b t)(h:GT t):Pm (PL 101 (wT t)) (zmO g s b t):=
 .ite (λc=>by have hw:=zax (zab c);exact⟨h.tail,λy hy=>by(cases hy),by show 0+wT t.tail<=_;omega⟩) λ_=>
 .bd (G.assign _ _ h) λx hx p=> .ite (λc=>by
  have hw:=zax (zab c);exact⟨hx.tail,λy hy=>by(rw[List.mem_singleton.1 hy];exact p.1),by rw[bl1];have:=p.2;show zaD x.1+wT x.2.tail<=_;omega⟩) λ_=>
  .bn (.need hx _) λt1 h1 p1=> .ite (λ_=>trivial) λ_=> .bd (G.exprs _ _ _ h1) λl hl pl=>
   ⟨hl,λy hy=>by
    rcases yP.1 hy with rfl|hy
    ·exact p.1
    ·exact pl.1 y hy,by rw[blc];have:=p.2;have:=pl.2;dsimp only;omega⟩
omit G in
theorem zzH(s:Str):zaW (wide s)=true:=by
 unfold zaW;rw[zsC];simp
omit G in
theorem zKE{t}(h:GT t):Pm (λk t'=>zaW k=true/\k.length+50+wT t'<=wT t) (zy6 t):=by
 cases t with
 |nil=>trivial
 |cons a r=>
  have hs:wT (a::r)=100+3*a.text.length+wT r:=rfl;have ha:=h a qz7;refine .ite (λc=>⟨h.tail,ha.str (eq_of_beq c),by show a.text.length+50+wT r<=_;omega⟩) λ_=> .ite (λc=>⟨h.tail,zzH _,?_⟩) λ_=> .ite (λc=>⟨h.tail,zzH _,?_⟩) λ_=>trivial
  ·have hn:=ha.num (eq_of_beq c);have:=zxO a.num hn.1 hn.2;show(wide (Lib.itoa a.num)).length+50+wT r<=_;rw[zsC];omega
  ·show(wide a.text).length+50+wT r<=_;rw[zsC];omega
theorem zGr(t)(h:GT t):Pm (PL 112 (wT t)) (znQ g t):=
 .ite (λc=>by have hw:=zax (zab c);exact⟨h.tail,λy hy=>by(cases hy),by show 0+wT t.tail<=_;omega⟩) λ_=>
 .bd (zKE h) λk hk pk=> .bn (.need hk _) λt1 h1 p1=> .bd (G.assign _ _ h1) λx hx p=>by
  have hb:zaD ⟨9,[],0,k.1,[],[x.1]⟩=k.1.length+zaD x.1+7:=by simp[zaD,zbl]
  have hk1:=pk.2;have hp:=p.2;refine .ite (λc=>?_) λ_=> .bn (.need hx _) λt2 h2 p2=> .bd (G.props _ h2) λl hl pl=>⟨hl,λy hy=>?_,?_⟩
  ·have hw:=zax (zab c);exact⟨hx.tail,λy hy=>by(rw[List.mem_singleton.1 hy];exact zFU pk.1 p.1),by rw[bl1,hb];show _+wT x.2.tail<=_;omega⟩
  ·rcases yP.1 hy with rfl|hy
   ·exact zFU pk.1 p.1
   ·exact pl.1 y hy
  ·rw[blc,hb];have:=pl.2;dsimp only;omega
omit G in
theorem zBB: ∀t,GT t->Pm (λns t'=>(∀s∈ns,zce s=true)/\(ns.map λs=>s.length+1).sum+wT t'<=wT t) (zk1 t)
 | [],_=>trivial
 | [a],_=>trivial
 |a::b::r,h=>by
  rw[zk1];have hs:wT (a::b::r)=100+3*a.text.length+(100+3*b.text.length+wT r):=rfl;refine .ite (λc=>?_) λ_=>trivial
  have hn:zce a.text=true:=h.name (t:=a::b::r) c;refine .ite (λc2=>⟨h.tail.tail,λs hs=>by(rw[List.mem_singleton.1 hs];exact hn),?_⟩) λ_=> .ite (λc2=> .ite (λ_=>trivial) λ_=> .bd (zBB r h.tail.tail) λl hl pl=>⟨hl,λs hs=>?_,?_⟩) λ_=>trivial
  ·show(([a.text]:List Str).map λs=>s.length+1).sum+wT r<=_;simp only[List.map_cons,List.map_nil,List.sum_cons,List.sum_nil];omega
  ·rcases yP.1 hs with rfl|hs
   ·exact hn
   ·exact pl.1 s hs
  ·have:=pl.2;simp only[List.map_cons,List.sum_cons];omega
omit G in
theorem zFC{t}(h:GT t):Pm (λns t'=>(∀s∈ns,zce s=true)/\(ns.map λs=>s.length+1).sum+wT t'<=wT t) (zgi t):=
 .ite (λc=>by have hw:=zax (zab c);exact⟨h.tail,λy hy=>by(cases hy),by show 0+wT t.tail<=_;omega⟩) λ_=>zBB t h
theorem zI0(t)(h:GT t):Pm (PE (wT t)) (zwp g 10 t)/\Pm (PO 120 30 (wT t)) (zwp g 39 t):=by
 have rest: ∀(k:Int) (Q:Node->zH->Prop) (m:Str×zH),GT m.2->m.1.length+wT m.2<=wT t->
   (∀(ns:List Str) (l:List Node) t3,(∀s∈ns,zce s=true)->(∀y∈l,zD y 120=true)->zaD ⟨k,m.1,0,[],ns,l⟩+50+wT t3<=wT t->Q ⟨k,m.1,0,[],ns,l⟩ t3)->
   Pm Q ((za5 [40] m.2).bn λt=>(zgi t).bd λns=>(za5 [123] ns.2).bn λt=>(g.stmts true t).bd λl=>(za5 [125] l.2).bn λt=>gt (⟨k,m.1,0,[],ns.1,l.1⟩,t)):=λk Q m hm hw hQ=>
  .bn (.need hm _) λt1 h1 p1=> .bd (zFC h1) λns hns pns=> .bn (.need hns _) λt2 h2 p2=> .bd (G.stmts _ _ h2) λl hl pl=> .bn (.need hl _) λt3 h3 p3=>
   ⟨h3,hQ ns.1 l.1 t3 pns.1 pl.1 (by rw[buF];have:=pns.2;have:=pl.2;omega)⟩
 constructor
 ·refine .bd (P:=λm t'=>(m=[]\/zce m=true)/\m.length+wT t'<=wT t) (.ite (λc=>?_) λ_=> .ite (λ_=>trivial) λ_=>⟨h,.inl rfl,by simp⟩) λm hm pm=>rest 10 _ m hm pm.2 λns l t3 q1 q2 q3=>⟨zKU pm.1 q1 q2,q3⟩
  have hw:=zax (zbd c (by decide));exact⟨h.tail,.inr (h.name c),by show(tText t).length+wT t.tail<=_;omega⟩
 ·refine .bd (P:=λm t'=>zce m=true/\m.length+wT t'<=wT t) (.ite (λc=>?_) λ_=> .ite (λ_=>trivial) λc2=>absurd rfl c2) λm hm pm=>rest 39 _ m hm pm.2 λns l t3 q1 q2 q3=>⟨zKA pm.1 q1 q2,by omega⟩
  have hw:=zax (zbd c (by decide));exact⟨h.tail,h.name c,by show(tText t).length+wT t.tail<=_;omega⟩
end
theorem zsd:zD (nd 42 []) 102=true/\zD (nd 42 []) 118=true/\zD (nd 42 []) 99=true:=by decide+kernel
theorem zLc{x:Node}(h:zD x 101=true):zD x 102=true:=by
 have h1:=(zww h).1;unfold zD;rw[zhW h,Bool.and_true];show(znk x.Kind||x.Kind==42)=true;rw[h1];rfl
theorem zL7{x:Node}(h:zD x 101=true):zD x 118=true:=by
 have h1:=(zww h).1;unfold zD;rw[zhW h,Bool.and_true];show((znk x.Kind||x.Kind==42)||x.Kind==22)=true;rw[h1];rfl
theorem zHS{l:List Node}(hl:l≠[])(h: ∀y∈l,zD y 100=true):zD (nd 22 l) 115=true:=by
 cases l with
 |nil=>exact absurd rfl hl
 |cons a r=>
  have ha:=h a qz7;unfold zD;rw[zKi rfl];simp[zas,zN,zau,zaW,zU,nd,ha];exact⟨rfl,λy hy=>h y (qz8 _ hy)⟩
theorem zKZ{s:Str}{d:List Node}(hs:zce s=true)(hd:d=[]\/∃y,d=[y]/\zD y 101=true):zD (ndN 23 s d) 100=true:=by
 rcases hd with rfl| ⟨y,rfl,hy⟩
 ·unfold zD;rw[zFL rfl];simp[zas,zN,zau,zaW,zU,ndN,lv1,hs];rfl
 ·unfold zD;rw[zFL rfl];simp[zas,zN,zau,zaW,zU,ndN,lv1,hs,hy];rfl
theorem zKs{x:Node}(h:zD x 101=true):zD (nd 24 [x]) 115=true:=by
 unfold zD;rw[zK9 rfl];simp[zas,zN,zau,zaW,zU,nd,h];rfl
theorem zDd{l:List Node}(h: ∀y∈l,zD y 115=true):zD (nd 25 l) 98=true:=by
 unfold zD;rw[zKH rfl];simp[zas,zN,zau,zaW,zU,nd];exact⟨rfl,h⟩
theorem zIA{x:Node}(h:zD x 98=true):zD x 115=true:=by
 have hk:x.Kind=25:=eq_of_beq (show(x.Kind==25)=true from zyL h);unfold zD;rw[zhW h,Bool.and_true];show stK x.Kind false=true;rw[hk];rfl
theorem zDa{x:Node}(h:zD x 98=true):zD x 99=true/\(x.Kind==42)=false:=by
 have hk:x.Kind=25:=eq_of_beq (show(x.Kind==25)=true from zyL h);refine⟨?_,by rw[hk];rfl⟩
 unfold zD;rw[zhW h,Bool.and_true];show(x.Kind==25||x.Kind==42)=true;rw[hk];rfl
theorem zgs{x:Node}(h:zD x 115=true):zD (zf7 x) 98=true/\zaD (zf7 x)<=zaD x+7:=by
 unfold zf7;split
 ·rename_i hk;refine⟨?_,by omega⟩;unfold zD;rw[zhW h,Bool.and_true];exact hk
 ·exact⟨zDd λy hy=>by rw[List.mem_singleton.1 hy];exact h,by rw[bu,bl1];omega⟩
theorem zL9{x:Node}(h:zD x 115=true):zD x 120=true:=by
 have h1:stK x.Kind false=true:=zyL h;unfold zD;rw[zhW h,Bool.and_true];show stK x.Kind true=true;unfold stK at h1⊢;simp only[Bool.or_false,Bool.or_true,Bool.and_true]at h1⊢;rw[qz4]at h1;exact h1.1
theorem zLv{x b:Node}(hx:zD x 101=true)(hb:zD b 98=true):zD (nd 26 [x,b]) 115=true:=by
 unfold zD;rw[zFs rfl];simp[zas,zN,zau,zaW,zU,nd,lv3,hx,hb];rfl
theorem zLA{x b c:Node}(hx:zD x 101=true)(hb:zD b 98=true)(hc:zD c 98=true):zD (nd 26 [x,b,c]) 115=true:=by
 unfold zD;rw[zFs rfl];simp[zas,zN,zau,zaW,zU,nd,lv3,hx,hb,hc];rfl
theorem zJn{x b:Node}(hx:zD x 101=true)(hb:zD b 98=true):zD (nd 27 [x,b]) 115=true:=by
 unfold zD;rw[zKP rfl];simp[zas,zN,zau,zaW,zU,nd,hx,hb];rfl
theorem zLW{x b:Node}(hx:zD x 101=true)(hb:zD b 98=true):zD (nd 28 [b,x]) 115=true:=by
 unfold zD;rw[zKT rfl];simp[zas,zN,zau,zaW,zU,nd,hx,hb];rfl
theorem zLC{v x y b:Node}(hv:zD v 118=true)(hx:zD x 102=true)(hy:zD y 102=true)(hb:zD b 98=true):zD (nd 29 [v,x,y,b]) 115=true:=by
 unfold zD;rw[zKz rfl];simp[zas,zN,zau,zaW,zU,nd,hv,hx,hy,hb];rfl
theorem zIq{v x b:Node}(hv:zD v 119=true)(hx:zD x 101=true)(hb:zD b 98=true):zD (nd 30 [v,x,b]) 115=true:=by
 unfold zD;rw[zKv rfl];simp[zas,zN,zau,zaW,zU,nd,hv,hx,hb];rfl
theorem zEN{k:Int}{s:Str}(hk:k=31\/k=32)(hs:s=[]\/zce s=true):zD (ndN k s []) 115=true:=by
 rcases hk with rfl|rfl
 ·unfold zD;rw[zJ7 rfl];simp[zas,zN,zau,zaW,zU,ndN,hs];rfl
 ·unfold zD;rw[zK5 rfl];simp[zas,zN,zau,zaW,zU,ndN,hs];rfl
theorem zEL:zD (nd 33 []) 115=true:=by decide+kernel
theorem zGO{x:Node}(h:zD x 101=true):zD (nd 33 [x]) 115=true:=by
 unfold zD;rw[zKX rfl];simp[zas,zN,zau,zaW,zU,nd,lv1,h];rfl
theorem zJu{x:Node}(h:zD x 101=true):zD (nd 34 [x]) 115=true:=by
 unfold zD;rw[zLf rfl];simp[zas,zN,zau,zaW,zU,nd,h];rfl
theorem zLL{s:Str}{b c f:Node}(hb:zD b 98=true)(hc:zD c 99=true)(hf:zD f 99=true)(hn:(c.Kind==25)=true/\zce s=true\/(c.Kind==25)=false/\s=[])(he:(c.Kind==42&&f.Kind==42)=false):zD (ndN 35 s [b,c,f]) 115=true:=by
 unfold zD;rw[zKL rfl];simp only[zas,zN,zau,zaW,zBt,ndN,hb,hc,hf,he];rcases hn with⟨h1,h2⟩| ⟨h1,rfl⟩
 ·simp[h1,h2];rfl
 ·simp[h1];rfl
theorem zGQ{x:Node}{l:List Node}(hx:zD x 101=true)(hl:zjP l 0=true):zD (nd 36 (x::l)) 115=true:=by
 unfold zD;rw[zKf rfl];simp[zas,zN,zau,zaW,zwq,nd,hx,hl];rfl
theorem zEE{x:Node}{l:List Node}(hx:zD x 102=true)(h: ∀y∈l,zD y 115=true):zD (nd 37 (x::l)) 107=true:=by
 unfold zD;rw[zK3 rfl];simp[zas,zN,zau,zaW,zU,nd,hx];exact⟨rfl,h⟩
theorem zIK{s:Str}{x:Node}(hs:zce s=true)(h:zD x 115=true):zD (ndN 38 s [x]) 115=true:=by
 unfold zD;rw[zJV rfl];simp[zas,zN,zau,zaW,zU,ndN,hs,h];rfl
theorem zHX:zD (nd 40 []) 115=true:=by decide+kernel
theorem zKl{l:List Node}(h: ∀y∈l,zD y 120=true):zbC (nd 41 l)=true:=by
 rw[zKN rfl];simp[zas,zN,zau,zaW,zU,nd];exact h
section
variable {g:PG} (G:zGj g)
include G
theorem zIP(a t)(h:GT t):Pm (λl t'=>l≠[]/\(∀y∈l,zD y 100=true)/\zbl l+40+wT t'<=wT t) (zwm g a t):=
 .ite (λc=>by
  have hn:=h.name c;have hw:=zax (zbd c (by decide));refine .bd (P:=λd t'=>(d=[]\/∃y,d=[y]/\zD y 101=true)/\zbl d+wT t'<=wT t.tail) (.ite (λc2=>?_) λ_=>⟨h.tail,.inl rfl,by simp[zbl]⟩) λd hd pd=>?_
  ·have hw2:=zax (zab c2);exact .bd (G.assign _ _ h.tail.tail) λy hy p=>⟨hy,.inr ⟨y.1,rfl,p.1⟩,by rw[bl1];have:=p.2;dsimp only;omega⟩
  ·have hdd:=zKZ hn pd.1;have hbd:=pd.2;refine .ite (λc3=>?_) λ_=>⟨hd,by simp,λy hy=>by(rw[List.mem_singleton.1 hy];exact hdd),by rw[bl1,buN];dsimp only;omega⟩
   have hw3:=zax (zab c3);refine .bd (G.vars _ _ hd.tail) λl hl pl=>?_
   refine⟨hl,List.cons_ne_nil _ _,λy hy=>?_,?_⟩
   ·rcases yP.1 hy with e|hy
    ·rw[e];exact hdd
    ·exact pl.2.1 y hy
   ·rw[blc,buN];have:=pl.2.2;dsimp only;omega) λ_=>trivial
theorem zGN(t)(h:GT t):Pm (PO 98 50 (wT t)) (zoH g t):=
 .bn (.need h _) λt1 h1 p1=> .bd (G.stmts false _ h1) λl hl pl=> .bn (.need hl _) λt2 h2 p2=>⟨h2,zDd pl.1,by rw[bu];have:=pl.2;dsimp only;omega⟩
theorem zJt(t)(h:GT t):Pm (PO 101 100 (wT t)) (zxT g t):=
 .bn (.need h _) λt1 h1 p1=> .bd (G.expr _ _ h1) λx hx p=> .bn (.need hx _) λt2 h2 p2=>⟨h2,p.1,by have:=p.2;dsimp only;omega⟩
theorem zJa(s t)(h:GT t):Pm (PO 102 0 (wT t)) (zu3 g s t):=
 .ite (λc=>by
  have hw:=zax (zab c);exact⟨h.tail,zsd.1,by rw[bu];simp only[zbl];omega⟩) λ_=> .bd (G.expr _ _ h) λx hx p=> .bn (.need hx _) λt2 h2 p2=>⟨h2,zLc p.1,by have:=p.2;dsimp only;omega⟩
theorem zGK(t)(h:GT t):Pm (λx t'=>zD x 118=true/\(zwg x=true->zD x 119=true)/\zaD x+wT t'<=wT t+7) (zyS g t):=by
 refine .ite (λc=>?_) λ_=> .ite (λ_=>⟨h,zsd.2.1,(λe=>by cases e),(by rw[bu];simp only[zbl];omega)⟩) λ_=>(G.expr _ _ h).up λx t' p=>⟨zL7 p.1,λe=>?_,by have:=p.2;omega⟩
 ·have hw:=zax (zab c);refine .bd (G.vars _ _ h.tail) λl hl p=>?_
  have hv:=zHS p.1 p.2.1;refine⟨hl,?_,λe=>?_,by rw[bu];have:=p.2.2;dsimp only;omega⟩
  ·unfold zD;rw[zhW hv];rfl
  ·unfold zD;rw[zhW hv,Bool.and_true];have e:(match(nd 22 l.1).L with| [d]=>d.L.isEmpty|_=>false)=true:=e;show(zhs 22||((22:Int)==22&&(match(nd 22 l.1).L with| [y]=>y.L.isEmpty|_=>false)))=true;rw[e];rfl
 ·have hk:=(zww p.1).1
  have hne:(x.Kind==22)=false:=by
   cases hq:x.Kind==22 with
   |false=>rfl
   |true=>rw[eq_of_beq hq]at hk;exact absurd hk (by decide)
  unfold zwg at e;rw[hne]at e;have e:zhs x.Kind=true:=e;unfold zD;rw[zhW p.1,Bool.and_true];show(zhs x.Kind||_)=true;rw[e];rfl
theorem zIb(t)(h:GT t):Pm (PO 115 0 (wT t)) (zxS g t):=
 .bn (.need h _) λt1 h1 p1=> .bd (zGK G _ h1) λq hq pq=> .ite (λc=>by
  rw[qz4]at c;have hw:=zax (zab c.2)
  exact .bd (G.expr _ _ hq.tail) λx hx px=> .bn (.need hx _) λt2 h2 p2=> .bd (G.stmt _ h2) λb hb pb=>⟨hb,zIq (pq.2.1 c.1) px.1 (zgs pb.1).1,by
   rw[bu,bl3];have:=(zgs pb.1).2;have:=pq.2.2;have:=px.2;have:=pb.2;dsimp only;omega⟩) λ_=>
  .bn (.need hq _) λt2 h2 p2=> .bd (G.till _ _ h2) λx hx px=> .bd (G.till _ _ hx) λy hy py=> .bd (G.stmt _ hy) λb hb pb=>⟨hb,zLC pq.1 px.1 py.1 (zgs pb.1).1,by
   rw[bu,bl4];have:=(zgs pb.1).2;have:=pq.2.2;have:=px.2;have:=py.2;have:=pb.2;dsimp only;omega⟩
theorem zKR(t)(h:GT t):Pm (PO 115 0 (wT t)) (zBk g t):=by
 refine .bd (G.block _ h) λb hb pb=> .bd (P:=λc t'=>zD c.2 99=true/\((c.2.Kind==25)=true/\zce c.1=true\/(c.2.Kind==25)=false/\c.1=[])/\c.1.length+zaD c.2+wT t'<=wT b.2+7) ?_ λc hc pc=>
  .bd (P:=λf t'=>zD f 99=true/\zaD f+wT t'<=wT c.2+7) ?_ λf hf pf=> .ite (λ_=>trivial) λhe=>⟨hf,zLL pb.1 pc.1 pf.1 pc.2.1 (by rw[Bool.and_comm];exact Bool.not_eq_true _▸he),by
   rw[buN,bl3];have:=pb.2;have:=pc.2.2;have:=pf.2;dsimp only;omega⟩
 ·refine .ite (λc=>?_) λ_=>⟨hb,zsd.2.2,.inr ⟨rfl,rfl⟩,by
   show 0+zaD (nd 42 [])+wT b.2<=_;rw[bu];simp only[zbl];omega⟩
  have hw:=zax (zab c)
  exact .bn (.need hb.tail _) λt1 h1 p1=> .ite (λc2=>by
   have hw2:=zax (zbd c2 (by decide));exact .bn (.need h1.tail _) λt2 h2 p2=> .bd (G.block _ h2) λq hq pq=>⟨hq,(zDa pq.1).1,.inl ⟨zyL pq.1,h1.name c2⟩,by have:=pq.2;dsimp only;omega⟩) λ_=>trivial
 ·refine .ite (λc2=>?_) λ_=>⟨hc,zsd.2.2,by rw[bu];simp only[zbl];omega⟩
  have hw:=zax (zab c2);exact(G.block _ hc.tail).up λv t' p=>⟨(zDa p.1).1,by have:=p.2;omega⟩
theorem zHl(o t)(h:GT t):Pm (λl t'=>zjP l (if o=true then 0 else 1)=true/\zbl l+wT t'<=wT t) (zvy g o t):=by
 refine .ite (λc=>?_) λ_=> .ite (λc=>?_) λ_=> .bn (.need h _) λt1 h1 p1=> .bd (G.expr _ _ h1) λx hx px=> .bn (.need hx _) λt2 h2 p2=> .bd (G.body _ h2) λl hl pl=> .bd (G.cases _ _ hl) λr hr pr=>⟨hr,?_,?_⟩
 ·have hw:=zax (zab c);refine⟨h.tail,?_,by show 0+wT t.tail<=_;omega⟩
  cases o<;>rfl
 ·rw[qz4]at c;have hw:=zax (zab c.2);rw[c.1];refine .bn (.need h.tail _) λt1 h1 p1=> .bd (G.body _ h1) λl hl pl=> .bd (G.cases false _ hl) λr hr pr=>⟨hr,?_,?_⟩
  ·have h2:=pr.1;simp only[qz2,yA]at h2;simp only[yB,zjP];rw[zEE zsd.1 pl.1,Bool.true_and];exact h2
  ·rw[blc,bu,blc,bu];simp only[zbl];have:=pl.2;have:=pr.2;omega
 ·have hk:=(zww px.1).1
  have hne:(x.1.Kind==42)=false:=by
   cases hq:x.1.Kind==42 with
   |false=>rfl
   |true=>rw[eq_of_beq hq]at hk;exact absurd hk (by decide)
  have hc:zAT (nd 37 (x.1::l.1))=false:=hne;show zjP (nd 37 (x.1::l.1)::r.1) _=true;simp only[zjP,hc,qz2,yA];rw[zEE (zLc px.1) pl.1,Bool.true_and];exact pr.1
 ·rw[blc,bu,blc];have:=px.2;have:=pl.2;have:=pr.2;dsimp only;omega
theorem zIL(t)(h:GT t):Pm (PL 115 (wT t)) (zxD g t):=
 .ite (λ_=>⟨h,λy hy=>by(cases hy),by show 0+wT t<=_;omega⟩) λ_=> .bd (G.stmt _ h) λx hx p=> .bd (G.body _ hx) λl hl pl=>⟨hl,λy hy=>by
  rcases yP.1 hy with rfl|hy
  ·exact p.1
  ·exact pl.1 y hy,by rw[blc];have:=p.2;have:=pl.2;dsimp only;omega⟩
omit G in
theorem zDD(k t)(hk:k=31\/k=32)(h:GT t):Pm (λx t'=>zD x 115=true/\zaD x+wT t'<=wT t+7) (zwb k t):=
 .ite (λc=>by
  rw[qz4]at c;have hw:=zax (zbd c.1 (by decide));exact .bn (.end h.tail) λt1 h1 p1=>⟨h1,zEN hk (.inr (h.name c.1)),by rw[buN];simp only[zbl];omega⟩) λ_=> .bn (.end h) λt1 h1 p1=>⟨h1,zEN (s:=[]) hk (.inl rfl),by rw[bu];simp only[zbl];omega⟩
theorem zIQ(t)(h:GT t):Pm (PO 115 30 (wT t)) (zxN g t):=by
 refine .ite (λc=>(G.block _ h).up λv t' p=>⟨zIA p.1,by have:=p.2;omega⟩) λ_=> .ite (λc=>?_) λ_=> .ite (λc=>?_) λ_=> .ite (λc=>?_) λ_=> .ite (λc=>?_) λ_=> .ite (λc=>?_) λ_=> .ite (λc=>?_) λ_=> .ite (λc=>?_) λ_=>
  .ite (λc=>?_) λ_=> .ite (λc=>?_) λ_=> .ite (λc=>?_) λ_=> .ite (λc=>?_) λ_=> .ite (λc=>?_) λ_=> .ite (λc=>trivial) λ_=> .ite (λc=>?_) λ_=>?_
 rotate_right 2
 ·rw[qz4]at c;have hw:=zax (zbd c.1 (by decide));have hw2:=zax (zab c.2);exact .bd (G.stmt _ h.tail.tail) λx hx p=>⟨hx,zIK (h.name c.1) p.1,by rw[buN,bl1];have:=p.2;dsimp only;omega⟩
 ·exact .bd (G.expr _ _ h) λx hx p=> .bn (.end hx) λt1 h1 p1=>⟨h1,zKs p.1,by rw[bu,bl1];have:=p.2;dsimp only;omega⟩
 all_goals have hw:=zax (zab c)
 ·exact⟨h.tail,zHX,by rw[bu];simp only[zbl];omega⟩
 ·exact .bd (G.vars _ _ h.tail) λl hl p=> .bn (.end hl) λt1 h1 p1=>⟨h1,zHS p.1 p.2.1,by rw[bu];have:=p.2.2;dsimp only;omega⟩
 ·exact .bd (G.head _ h.tail) λx hx px=> .bd (G.stmt _ hx) λb hb pb=> .ite (λc2=>by
   have hw2:=zax (zab c2)
   exact .bd (G.stmt _ hb.tail) λe he pe=>⟨he,zLA px.1 (zgs pb.1).1 (zgs pe.1).1,by
    rw[bu,bl3];have:=(zgs pb.1).2;have:=(zgs pe.1).2;have:=px.2;have:=pb.2;have:=pe.2;dsimp only;omega⟩) λ_=>
   ⟨hb,zLv px.1 (zgs pb.1).1,by rw[bu,bl2];have:=(zgs pb.1).2;have:=px.2;have:=pb.2;dsimp only;omega⟩
 ·exact .bd (G.head _ h.tail) λx hx px=> .bd (G.stmt _ hx) λb hb pb=>⟨hb,zJn px.1 (zgs pb.1).1,by rw[bu,bl2];have:=(zgs pb.1).2;have:=px.2;have:=pb.2;dsimp only;omega⟩
 ·exact .bd (G.stmt _ h.tail) λb hb pb=> .bn (.need hb _) λt1 h1 p1=> .bd (G.head _ h1) λx hx px=> .bn (.end hx) λt2 h2 p2=>⟨h2,zLW px.1 (zgs pb.1).1,by rw[bu,bl2];have:=(zgs pb.1).2;have:=px.2;have:=pb.2;dsimp only;omega⟩
 ·exact(G.loop _ h.tail).up λv t' p=>⟨p.1,by have:=p.2;omega⟩
 ·exact(zDD 31 _ (.inl rfl) h.tail).up λv t' p=>⟨p.1,by have:=p.2;omega⟩
 ·exact(zDD 32 _ (.inr rfl) h.tail).up λv t' p=>⟨p.1,by have:=p.2;omega⟩
 ·exact .ite (λ_=> .bd (G.expr _ _ h.tail) λx hx p=> .bn (.end hx) λt1 h1 p1=>⟨h1,zGO p.1,by rw[bu,bl1];have:=p.2;dsimp only;omega⟩) λ_=> .bn (.end h.tail) λt1 h1 p1=>⟨h1,zEL,by rw[bu];simp only[zbl];omega⟩
 ·exact .ite (λ_=>trivial) λ_=> .bd (G.expr _ _ h.tail) λx hx p=> .bn (.end hx) λt1 h1 p1=>⟨h1,zJu p.1,by rw[bu,bl1];have:=p.2;dsimp only;omega⟩
 ·exact(zKR G _ h.tail).up λv t' p=>⟨p.1,by have:=p.2;omega⟩
 ·exact .bd (G.head _ h.tail) λx hx px=> .bn (.need hx _) λt1 h1 p1=> .bd (G.cases true _ h1) λl hl pl=>⟨hl,zGQ px.1 pl.1,by rw[bu,blc];have:=px.2;have:=pl.2;dsimp only;omega⟩
theorem zGT(f t)(h:GT t):Pm (PL (if f=true then 120 else 115) (wT t)) (zrz g f t):=by
 refine .ite (λ_=>⟨h,λy hy=>by(cases hy),by show 0+wT t<=_;omega⟩) λ_=> .bd (P:=PO (if f=true then 120 else 115) 30 (wT t)) (.ite (λc=>?_) λ_=>?_) λx hx p=> .bd (G.stmts f _ hx) λl hl pl=>⟨hl,λy hy=>?_,by rw[blc];have:=p.2;have:=pl.2;dsimp only;omega⟩
 ·rw[qz4]at c;have hw:=zax (zab c.2);rw[c.1];exact(G.func _ h.tail).2.up λv t' p=>⟨p.1,by have:=p.2;omega⟩
 ·cases f with
  |false=>exact G.stmt _ h
  |true=>exact(G.stmt _ h).up λv t' p=>⟨zL9 p.1,p.2⟩
 ·rcases yP.1 hy with rfl|hy
  ·exact p.1
  ·exact pl.1 y hy
end
theorem zES: ∀n,zGj (pG n)
 |0=>by
  constructor<;>intros
  all_goals first|trivial|exact⟨trivial,trivial⟩
 |n+1=>by
  have G:=zES n;exact⟨zIg G,zGk G,zFM G,zFy G,zIG G,zGZ G,zIO G,zJC G,zJi G,zF5 G,zGr G,zI0 G,zIP G,zGN G,zJt G,zJa G,zIb G,zHl G,zIL G,zIQ G,zGT G⟩
/-! ### a node that may be has numbers of the machine -/
/-! ### tokens that were cut -/
theorem zLl{L:List zk}{b:Nat}(h:U.zmj b L):GT (L.map tk):=by
 induction h with
 |fin e h1 h2=>
  intro a ha;obtain rfl:a=tk e:=by simpa using ha
  refine⟨λe2=>?_,λe2=>?_,λe2=>?_,λe2=>?_⟩<;>exact absurd (show e.Kind.toNat=_ from e2) (by rw[h1];decide)
 |one s t l o hs k1 k5 _ ih=>
  intro a ha;rcases yP.1 ha with rfl|ha
  ·have hid:t.Kind=1\/t.Kind=2->zkN t.Text=true:=λhk=>by
    obtain⟨h1,h2,c,r,rfl,hl⟩:=o.ident hk;obtain⟨g1,g2⟩:=U.zpt o hk;have hlen:t.Text.length<=32:=by rw[h1,List.length_take];omega
    have hall:t.Text.all zcU=true:=List.all_eq_true.2 g1;cases ht:t.Text with
    |nil=>exact absurd ht g2
    |cons d q=>
     have hd:d=c:=by
      rw[ht]at h1;cases hr:zI (c::r)with
      |zero=>rw[hr]at h1;cases h1
      |succ m=>rw[hr]at h1;cases h1;rfl
     subst hd;rw[ht]at hlen hall;unfold zkN;simp only[hlen,decide_true,hl,hall,Bool.and_self]
   have hkk: ∀m:Nat,(tk t).kind=m->t.Kind=(m:Int):=λm e=>by have e:t.Kind.toNat=m:=e;omega
   refine⟨λe=>?_,λe=>hid (.inr (hkk _ e)),λe=>?_,λe=>?_⟩
   ·have e:t.Kind=1:=hkk _ e;have hw:=o.word (.inl e);show zce t.Text=true;unfold zce;rw[hid (.inl e),U.zzL];cases hx:U.zky t.Text with
    |false=>rfl
    |true=>have:=hw.2 hx;omega
   ·exact⟨(o.num (hkk _ e)).1,(o.num (hkk _ e)).2.1⟩
   ·obtain⟨us,h1,h2⟩:=o.str (hkk _ e);show zaW t.Text=true;unfold zaW;rw[h1,U.zgA];simp
  ·exact ih a ha
theorem zvI(q:UInt8): ∀(m:Nat) (r:Str) (acc us:List Nat) (k:Nat),U.zcd q m r acc=some (us,k)->us.length+k+1<=acc.length+r.length
 |0,_,_,_,_,h=>by cases h
 |m+1,[],_,_,_,h=>by cases h
 |m+1,c::r,acc,us,k,h=>by
  unfold U.zcd at h;split at h
  ·cases h;simp;omega
  ·split at h
   ·cases h
   ·split at h
    ·split at h
     ·cases h
     ·rename_i us' k' he;have:=zvI q m _ _ _ _ h;have h1:=U.zBh he;simp only[qz5,List.length_drop,qz3]at this⊢;omega
    ·have:=zvI q m _ _ _ _ h;simp only[qz5,qz3,qz6]at this⊢;omega
theorem zI9{s:Str}{t:zk}{n:Nat}(h:U.zdp s=some (t,n)):t.Text.length<=2*n:=by
 cases s with
 |nil=>cases h
 |cons c s=>
  unfold U.zdp at h;dsimp only at h;split at h
  ·split at h
   ·cases h
   ·cases h;show((c::s).take _).length<=_;rw[List.length_take];omega
  ·split at h
   ·cases hn:U.zeG (c::s)with
    |none=>rw[hn]at h;cases h
    |some p=>rw[hn]at h;cases h;exact Nat.zero_le _
   ·split at h
    ·generalize hx:U.zbs (c::s)=q at h;obtain⟨u,n',e⟩:=q;simp only at h;split at h
     ·cases h
     ·rename_i hne;cases h;unfold U.zbs at hx;simp only at hx;by_cases hq:c=39\/c=34
      ·rw[yL hq]at hx;cases hg:U.zcd c (s.length+1) s []with
       |none=>
        rw[hg]at hx;exact absurd (show(0:Int)=n' from congrArg (λx=>x.2.1) hx).symm hne
       |some p=>
        obtain⟨us,k⟩:=p;rw[hg]at hx;obtain rfl:U.zbZ us=u:=congrArg (λx=>x.1) hx;obtain rfl:(((c::s).length -k:Nat):Int)=n':=congrArg (λx=>x.2.1) hx;have:=zvI c _ _ _ _ _ hg;show(U.zbZ us).length<=_;rw[U.zgA];simp only[qz3,qz6,Int.toNat_natCast]at this⊢;omega
      ·rw[yK hq]at hx;exact absurd (show(0:Int)=n' from congrArg (λx=>x.2.1) hx).symm hne
    ·split at h
     ·cases h
     ·cases h;show((c::s).take _).length<=_;rw[List.length_take];omega
theorem zCg(len:Nat): ∀(m:Nat) (s:Str) (f:Bool) (l:List (zk×Nat)),U.zch m s f= .inl l->wT ((U.zci len l).map tk)<=106*s.length+100
 |0,_,_,_,h=>by cases h
 |m+1,s,f,l,h=>by
  have hl:=zcR (s.length+1) s f;rw[U.zch]at h;generalize zT (s.length+1) s f=q at h hl;obtain⟨r,f',ok⟩:=q;simp only at h hl;split at h
  ·cases h
  ·split at h
   ·cases h;show 100+3*(([]:Str)).length+0<=_;simp
   ·cases ho:U.zdp r with
    |none=>rw[ho]at h;cases h
    |some p=>
     obtain⟨t,n⟩:=p;rw[ho]at h;simp only at h;have hn:=U.zgG ho;have hn2:=zI9 ho;cases hc:U.zch m (r.drop n) false with
     |inr k=>rw[hc]at h;cases h
     |inl l'=>
      rw[hc]at h;cases h;have hd:(r.drop n).length=r.length -n:=List.length_drop;have g:=zCg len m (r.drop n) false l' hc;rw[U.zmi];show 100+3*t.Text.length+wT ((U.zci len l').map tk)<=_;omega
theorem zHw{src:Str}{L:List zk}(h:U.zaX src=(L,0,0)):wT (L.map tk)<=500000:=by
 have hs:=(U.zhm h).2.2;unfold U.zaX at h;split at h
 ·exact absurd (congrArg (λx=>x.2.2) h) (by simp)
 ·split at h
  ·rename_i l hc;obtain rfl:U.zci src.length l=L:=congrArg (λx=>x.1) h;have:=zCg src.length _ _ _ _ hc;omega
  ·exact absurd (congrArg (λx=>x.2.2) h) (by simp)
/-! ### what is read may be -/
theorem zw6{src:Str}{L:List zk}(hc:U.zaX src=(L,0,0)){q:List Node×zH}(h:(pG (10*L.length+20)).stmts true (L.map tk)=gt q):zbC (nd 41 q.1)=true/\zaD (nd 41 q.1)<=500007:=by
 have h1:=(zES (10*L.length+20)).stmts true (L.map tk) (zLl (U.zhm hc).1);rw[h]at h1;have h2:=zHw hc;obtain⟨_,p1,p2⟩:=h1;refine⟨zKl p1,?_⟩;rw[bu];omega
/-! ### a line ahead of the first token -/
def fr(t:zH):zH:=match t with|a::u=>{a with fresh:=true}::u| []=>[]
end Go.D08
namespace Go.D08
open Go Go.Gw Go.Dn Go.Proofs
set_option maxRecDepth 100000
namespace U
theorem zDz(len:Nat)(l:List (Tok×Nat)):(zci len l).map tk=l.map λp=>tk p.1:=by
 unfold zci;rw[List.map_map];rfl
end U
end Go.D08
namespace Go.D08
open Go Go.Gw Go.Dn Go.Proofs
set_option maxRecDepth 100000
namespace U
theorem zII{s:Str}{L:List Tok}(h:zaX s=(L,0,0)):s.length<=4096/\∃l,zch (s.length+1) s false= .inl l/\L.map tk=l.map λp=>tk p.1:=by
 unfold zaX at h;split at h
 ·exact absurd (congrArg (λx=>x.2.2) h) (by simp)
 ·split at h
  ·rename_i l hc;obtain rfl:zci s.length l=L:=congrArg (λx=>x.1) h;exact⟨by omega,l,hc,zDz _ _⟩
  ·exact absurd (congrArg (λx=>x.2.2) h) (by simp)
end U
end Go.D08
