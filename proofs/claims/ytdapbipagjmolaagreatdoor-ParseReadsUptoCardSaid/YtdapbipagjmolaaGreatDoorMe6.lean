/- Texts for a statement of this seat. -/
import Derived.Test.YtdapbipagjmolaaGreatDoorMe5
set_option linter.unusedSectionVars false
set_option linter.unusedVariables false
set_option linter.unusedSimpArgs false
set_option linter.unnecessarySimpa false
namespace Go.D08
open Go Go.Gw Go.Dn Go.Proofs
set_option maxRecDepth 100000
theorem zOB{L0 L:List zl}(g:zi)(s:Str)(last:Bool)(l:List Node):zcd g (s,last,ps L0 L true,l,())=some (.inr (l,ps L0 L true,())):=by
 unfold zcd;simp only[zH,zt,zC,zao,zab,zah,zai,zJ,zK,zW,zaq,zX,zT,zG,zF,zD,qz1,yO,yN,Bool.false_and,Bool.true_and,Bool.and_false,Bool.or_true,Bool.or_false,Bool.false_or,Bool.true_or,qz2,yA,yB,zI]
theorem zK6{L0 L:List zl}(g:zi)(l:List Node):zbg g (ps L0 L true,0,[],0,[],8,[],0,[],[],[],[],l,())=some (.inr (nd 8 l,ps L0 L true,())):=by
 unfold zbg;simp only[zH,zt,zC,zao,zab,zah,zai,zJ,zK,zW,zaq,zX,zT,zG,zF,zD,qz1,yO,yN,Bool.false_and,Bool.true_and,Bool.and_false,Bool.or_true,Bool.or_false,Bool.false_or,Bool.true_or,qz2,yA,yB,zI];rfl
theorem DR.of{α α':Type}{L0:List zl}{G:α->Prop}{O:α'->α->Prop}{m m':Option (α×TP×Unit)}{q:PR α'}(e:m=m')(h:DR L0 G O m' q):DR L0 G O m q:=by rw[e];exact h
theorem zoY{L0 L:List zl}(ok:TX L0 L)(h0:L0.length<=10000000000){s:Str}(hs:zuI s=true)(h:tIs s (L.map tk)=true):zO s (ps L0 L false)=some (ps L0 L.tail false,()):=by
 rw[zHb ok h0 hs,yL h]
theorem zwx{S ρ:Type}(W:S->Option ρ)(m:Option ρ):(zfT Sum.inr m).bind (zkX W)=m:=by cases m<;>rfl
theorem zTh(x:zl)(r:List zl):zEn ((x::r).map tk)=if(zak ((x::r).map tk)==4)=true then gt (x.Text,r.map tk)else if(zak ((x::r).map tk)==3)=true then gt (wide (Lib.itoa x.Num),r.map tk)else
  if(zak ((x::r).map tk)==1||zak ((x::r).map tk)==2)=true then gt (wide x.Text,r.map tk)else bad ((x::r).map tk):=rfl
def pNT(t:zal):PR (List Str):=if tIs [41] t=true then gt ([],t.tail)else(zbi [44] t).bn λt=>if tIs [41] t=true then bad t else zi8 t
theorem zLk(a:Tok)(r:zal)(hr:r≠[]):zi8 (a::r)=if(a.kind==1)=true then(pNT r).bd λl=>gt (a.text::l.1,l.2)else bad (a::r):=by
 cases r with
 |nil=>exact absurd rfl hr
 |cons b r=>
  rw[zi8];unfold pNT zbi;cases a.kind==1 with
  |false=>rfl
  |true=>
   cases tIs [41] (b::r)with
   |true=>rfl
   |false=>
    cases tIs [44] (b::r)with
    |false=>rfl
    |true=>cases h:tIs [41] r<;>simp[h,PR.bn,PR.bd]
section
variable {L0 L:List zl} {n M:Nat} (H: ∀k,k<=n->∀N,20*k+20<=N->DS L0 (RS N) (pG k)) (hn:n<=10000000000) (hM:20*n+30<=M) (h0:L0.length<=10000000000)
include H hn hM h0
theorem zKe(s:Str)(last:Bool)(hs:zuI s=true): ∀(k m:Nat),k<=n+1->k+1<=m->∀(l:List Node) (L:List zl),l.length+k<=n+1->TX L0 L->
  DR L0 (λl:List Node=>l.length<=20000000000) (λv' v=>v=l++v') (zaH (zcd (RS M)) m (s,last,ps L0 L false,l,())) ((pG k).exprs s last (L.map tk))
 |0,m,_,_,l,L,_,ok=>trivial
 |k+1,0,_,hm,l,L,_,ok=>by omega
 |k+1,m+1,hk,hm,l,L,hl,ok=>by
  show DR _ _ _ _ (zkT (pG k) s last (L.map tk));have ih:=λl L hl ok=>zKe s last hs k m (by omega) (by omega) l L hl ok
  obtain⟨j,rfl⟩: ∃j,m=j+1:=⟨m -1,by omega⟩
  have hw: ∀(x:Node) L',TX L0 L'->Bd L0 (λl:List Node=>l.length<=20000000000) L' (zaH (zcd (RS M)) (j+1) (s,last,ps L0 L' true,l++[x],())):=λx L' _=> .out (zOB _ _ _ _) (by rw[qz5];simp only[qz3,qz6];omega)
  unfold zkT;rw[zcO];generalize zaH (zcd (RS M)) (j+1)=W at ih hw⊢;unfold zcd;simp only[zH,zt,zC,zI,zT,zG,zF,zD,qz1,zao,yN,yB,qz3,qz6,Nat.zero_add];refine .assoc (.is (sign_eq ok hs) (λh=>?_) λh=>?_)
  ·simp only[yO,qz2,yA,zoY ok h0 hs h,qz1];exact .gt' (ok.tail (zam h)) (by rw[yM]) (by simp)
  ·simp only[yN,yB];refine .assoc (.e ((H k (by omega) M (by omega)).assign false _ ok) (λv L' ok _=> .assoc (.room (by omega) (by simp only[zH,zt,zC,zao,zab,zah,zai,zJ,zK,zW,zaq,zX,zT,zG,zF,zD,qz1,yO,yN,Bool.false_and,Bool.true_and,Bool.and_false,Bool.or_true,Bool.or_false,Bool.false_or,Bool.true_or,qz2,yA,yB,zI];exact hw v L' ok))) λv L1 ok1 _=>?_)
   refine .assoc (.room (by omega) (.assoc (.is (sign_eq ok1 hs) (λh=>?_) λh=>?_)))
   ·simp only[yB,zoY ok1 h0 hs h,qz1];exact .gt' (ok1.tail (zam h)) (by rw[yM]) rfl
   ·simp only[qz2,yA];refine .assoc (.need ok1 h0 rfl (by simp only[zH,zt,zC,zao,zab,zah,zai,zJ,zK,zW,zaq,zX,zT,zG,zF,zD,qz1,yO,yN,Bool.false_and,Bool.true_and,Bool.and_false,Bool.or_true,Bool.or_false,Bool.false_or,Bool.true_or,qz2,yA,yB,zI];exact hw v L1 ok1) λL2 ok2 _=>?_)
    simp only;rw[sign_eq ok2 hs,qz1]
    have go:DR L0 (λl:List Node=>l.length<=20000000000) (λv' v=>v=l++v') (W (s,last,ps L0 L2 false,l++[v],())) (((pG k).exprs s last (L2.map tk)).bd λq=>gt (v::q.1,q.2)):=
     (ih (l++[v]) L2 (by rw[qz5];simp only[qz3,qz6];omega) ok2).up (φ:=λq=>v::q) (λ_ h=>h) (by rintro v' _ rfl;simp)
    cases last with
    |true=>
     simp only[yO,Bool.and_false,Bool.false_and,qz2,yA];exact go
    |false=>
     simp only[yN,Bool.and_true,Bool.true_and];cases tIs s (L2.map tk)with
     |true=>simp only[yB];exact .bad ok2 (by simp only[zH,zt,zC,zao,zab,zah,zai,zJ,zK,zW,zaq,zX,zT,zG,zF,zD,qz1,yO,yN,Bool.false_and,Bool.true_and,Bool.and_false,Bool.or_true,Bool.or_false,Bool.false_or,Bool.true_or,qz2,yA,yB,zI];exact hw v L2 ok2)
     |false=>simp only[qz2,yA];exact go
theorem zQ9(s:Str)(last:Bool)(hs:zuI s=true)(ok:TX L0 L):DL L0 (zfz (RS M) s last (ps L0 L false)) (zkT (pG n) s last (L.map tk)):=by
 unfold zfz;simp only[zH,zt,zC,zI,zT,zG,zF,zD,qz1];have:=DR.loop (zKe H hn hM h0 s last hs (n+1) 1000000000000 (yJ _) (by omega) [] L (by simp) ok) (yJ _);show DR _ _ _ _ ((pG (n+1)).exprs s last (L.map tk));cases hq:(pG (n+1)).exprs s last (L.map tk)with
 |none=>trivial
 |some p=>rw[hq]at this;cases p with
  |inl j=>exact this
  |inr p=>
   obtain⟨v,L',h1,h2,h3,h4⟩:=this;exact⟨v,L',h1,h2,h3,h4.symm⟩
theorem zKz: ∀(k m:Nat),k<=n+1->k+1<=m->∀(l:List Node) (L:List zl),l.length+k<=n+1->TX L0 L->
  DR L0 (Tt:Node->Prop) (λv' v=>v=nd 8 (l++v')) (zaH (zbg (RS M)) m (ps L0 L false,0,[],0,[],8,[],0,[],[],[],[],l,())) ((pG k).props (L.map tk))
 |0,m,_,_,l,L,_,ok=>trivial
 |k+1,0,_,hm,l,L,_,ok=>by omega
 |k+1,m+1,hk,hm,l,L,hl,ok=>by
  show DR _ _ _ _ (zl7 (pG k) (L.map tk));have B:=znC L0 (M:=M) (by omega);have ih:=λl L hl ok=>zKz k m (by omega) (by omega) l L hl ok
  have shut: ∀(l:List Node) (L:List zl),TX L0 L->tIs [125] (L.map tk)=true->zbg (RS M) (ps L0 L false,0,[],0,[],8,[],0,[],[],[],[],l,())=some (.inr (nd 8 l,ps L0 L.tail false,())):=λl L ok h=>by
   unfold zbg;simp only[zH,zt,zC,zI,zT,zG,zF,zD,qz1,zao,yN,yB,sign_eq ok (s:=[125]) rfl,h,yO,qz2,yA,zoY ok h0 rfl h];rfl
  obtain⟨j,rfl⟩: ∃j,m=j+1:=⟨m -1,by omega⟩
  have hw: ∀l L',TX L0 L'->Bd L0 (Tt:Node->Prop) L' (zaH (zbg (RS M)) (j+1) (ps L0 L' true,0,[],0,[],8,[],0,[],[],[],[],l,())):=λl L' _=> .out (zK6 _ _) trivial
  have hs: ∀l L',TX L0 L'->tIs [125] (L'.map tk)=true->zaH (zbg (RS M)) (j+1) (ps L0 L' false,0,[],0,[],8,[],0,[],[],[],[],l,())=some (nd 8 l,ps L0 L'.tail false,()):=λl L' ok h=>zaG (shut l L' ok h)
  unfold zl7;rw[zcO];generalize zaH (zbg (RS M)) (j+1)=W at ih hw hs⊢
  have bad3: ∀(u:Str) (L:List zl),TX L0 L->Bd L0 (Tt:Node->Prop) L ((zby (RS M) (ps L0 L true) 0 [] 0 [] 8 [] 0 [] 9 [] 0 u [] [] [] l [] []).bind (zkX W)):=λu L ok=>by
   unfold zby zeQ zeM zeR zeK;simp only[zH,zt,zC,zao,zab,zah,zai,zJ,zK,zW,zaq,zX,zT,zG,zF,zD,qz1,yO,yN,Bool.false_and,Bool.true_and,Bool.and_false,Bool.or_true,Bool.or_false,Bool.false_or,Bool.true_or,qz2,yA,yB,zI,qz3,qz6,Nat.zero_add]
   exact .assoc (.tak ok λa=>by
    simp only[zH,zt,zC,zao,zab,zah,zai,zJ,zK,zW,zaq,zX,zT,zG,zF,zD,qz1,yO,yN,Bool.false_and,Bool.true_and,Bool.and_false,Bool.or_true,Bool.or_false,Bool.false_or,Bool.true_or,qz2,yA,yB,zI,B.assign false ok];exact .assoc (.room (by omega) (by simp only[zH,zt,zC,zao,zab,zah,zai,zJ,zK,zW,zaq,zX,zT,zG,zF,zD,qz1,yO,yN,Bool.false_and,Bool.true_and,Bool.and_false,Bool.or_true,Bool.or_false,Bool.false_or,Bool.true_or,qz2,yA,yB,zI];exact hw _ _ ok)))
  have good3: ∀(u:Str) (L:List zl),TX L0 L->zak (L.map tk)≠0->DR L0 (Tt:Node->Prop) (λv' v=>v=nd 8 (l++v')) ((zby (RS M) (ps L0 L false) 0 [] 0 [] 8 [] 0 [] 9 [] 0 u [] [] [] l [] []).bind (zkX W))
    ((zbi [58] (L.tail.map tk)).bn λt1=>((pG k).assign false t1).bd λx=>if tIs [125] x.2=true then gt ([⟨9,[],0,u,[],[x.1]⟩],x.2.tail)else(zbi [44] x.2).bn λt2=>((pG k).props t2).bd λl=>gt (⟨9,[],0,u,[],[x.1]⟩::l.1,l.2)):=λu L ok hk=>by
   unfold zby zeQ zeM zeR zeK;simp only[zH,zt,zC,zI,zT,zG,zF,zD,qz1,qz3,qz6,Nat.zero_add];refine .assoc (.tak ok h0 hk λa _ _ ok1=>?_);refine .assoc (.need ok1 h0 rfl (by simp only[zH,zt,zC,zao,zab,zah,zai,zJ,zK,zW,zaq,zX,zT,zG,zF,zD,qz1,yO,yN,Bool.false_and,Bool.true_and,Bool.and_false,Bool.or_true,Bool.or_false,Bool.false_or,Bool.true_or,qz2,yA,yB,zI,B.assign false ok1];exact .assoc (.room (by omega) (by simp only[zH,zt,zC,zao,zab,zah,zai,zJ,zK,zW,zaq,zX,zT,zG,zF,zD,qz1,yO,yN,Bool.false_and,Bool.true_and,Bool.and_false,Bool.or_true,Bool.or_false,Bool.false_or,Bool.true_or,qz2,yA,yB,zI];exact hw _ _ ok1))) λL2 ok2 _=>?_)
   refine .assoc (.e ((H k (by omega) M (by omega)).assign false _ ok2) (λv L' ok _=> .assoc (.room (by omega) (by simp only[zH,zt,zC,zao,zab,zah,zai,zJ,zK,zW,zaq,zX,zT,zG,zF,zD,qz1,yO,yN,Bool.false_and,Bool.true_and,Bool.and_false,Bool.or_true,Bool.or_false,Bool.false_or,Bool.true_or,qz2,yA,yB,zI];exact hw _ _ ok))) λv L3 ok3 _=>?_)
   refine .assoc (.room (by omega) (.assoc ?_));rw[sign_eq ok3 rfl,qz1];cases h:tIs [125] (L3.map tk)with
   |true=>
    simp only[yO,qz2,yA,yB];exact .of (hs _ _ ok3 h) (.gt' (ok3.tail (zam h)) (by rw[yM]) rfl)
   |false=>
    simp only[yN,yB,qz2,yA,h];refine .assoc (.need ok3 h0 rfl (by simp only[zH,zt,zC,zao,zab,zah,zai,zJ,zK,zW,zaq,zX,zT,zG,zF,zD,qz1,yO,yN,Bool.false_and,Bool.true_and,Bool.and_false,Bool.or_true,Bool.or_false,Bool.false_or,Bool.true_or,qz2,yA,yB,zI];exact hw _ _ ok3) λL4 ok4 _=>?_)
    exact(ih (l++[⟨9,[],0,u,[],[v]⟩]) L4 (by rw[qz5];simp only[qz3,qz6];omega) ok4).up (O2:=λv' v=>v=nd 8 (l++v')) (φ:=λq=>⟨9,[],0,u,[],[v]⟩::q) (λ_ h=>h) (by rintro v' _ rfl;show nd 8 _=nd 8 _;rw[yE];rfl)
  unfold zbg;simp only[zH,zt,zC,zI,zT,zG,zF,zD,qz1,zao,yN,yB];refine .assoc (.is (sign_eq ok rfl) (λh=>?_) λh=>?_)
  ·simp only[yO,qz2,yA,zoY ok h0 rfl h,qz1];exact .gt' (ok.tail (zam h)) (by rw[yM]) (by rw[List.append_nil];rfl)
  ·simp only[yN,yB];obtain⟨x,r,rfl⟩:=ok.cons;have k1:=ze4 ok 1;have k2:=ze4 ok 2;have k3:=ze4 ok 3;have k4:=ze4 ok 4;rw[show((1:Nat):Int)=1 from rfl]at k1;rw[show((2:Nat):Int)=2 from rfl]at k2;rw[show((3:Nat):Int)=3 from rfl]at k3;rw[show((4:Nat):Int)=4 from rfl]at k4;have tx:=ok.tl.ok.texts x qz7;have asc:=ok.tl.ok.ascii x qz7;have num:=ok.tl.ok.nums x qz7;unfold zeJ;simp only[zH,zt,zC,zI,zT,zG,zF,zD,qz1,zdl ok,k1,k2,k3,k4];rw[zTh];cases h1:zak ((x::r).map tk)==1 with
   |true=>
    have e1:zak ((x::r).map tk)=1:=eq_of_beq h1;have e1':x.Kind=1:=eq_of_beq (k1.trans h1);rw[zD7 x.Text (by omega) (asc (.inl e1')),e1];exact good3 (wide x.Text) _ ok (by rw[e1];decide)
   |false=>
   cases h2:zak ((x::r).map tk)==2 with
   |true=>
    have e1:zak ((x::r).map tk)=2:=eq_of_beq h2;have e1':x.Kind=2:=eq_of_beq (k2.trans h2);rw[zD7 x.Text (by omega) (asc (.inr e1')),e1];exact good3 (wide x.Text) _ ok (by rw[e1];decide)
   |false=>
   cases h3:zak ((x::r).map tk)==3 with
   |true=>
    have e1:zak ((x::r).map tk)=3:=eq_of_beq h3;have e1':x.Kind=3:=eq_of_beq (k3.trans h3);have hit:=zAD x.Num (num e1').1 (num e1').2;rw[zHy x.Num (num e1').1 (num e1').2,e1];simp only[qz2,yA,yB,qz1];rw[zD7 (Lib.itoa x.Num) (by omega) (itoa_ascii x.Num (num e1').1)];exact good3 (wide (Lib.itoa x.Num)) _ ok (by rw[e1];decide)
   |false=>
   cases h4:zak ((x::r).map tk)==4 with
   |true=>
    have e1:zak ((x::r).map tk)=4:=eq_of_beq h4;exact good3 x.Text _ ok (by rw[e1];decide)
   |false=>
    simp only[qz2,yA,Bool.or_self,zL4];exact .bad ok (by simp only[zH,zt,zC,zao,zab,zah,zai,zJ,zK,zW,zaq,zX,zT,zG,zF,zD,qz1,yO,yN,Bool.false_and,Bool.true_and,Bool.and_false,Bool.or_true,Bool.or_false,Bool.false_or,Bool.true_or,qz2,yA,yB,zI];exact bad3 _ _ ok)
theorem zLS(ok:TX L0 L):DR L0 (Tt:Node->Prop) (λl v=>v=nd 8 l) (ze2 (RS M) (ps L0 L false)) (zl7 (pG n) (L.map tk)):=by
 unfold ze2;simp only[zH,zt,zC,zI,zT,zG,zF,zD,qz1];exact .loop (zKz H hn hM h0 (n+1) 1000000000000 (yJ _) (by omega) [] L (by simp) ok) (yJ _)
def zmR(n:Nat)(k:Int)(nm:Str)(ns:List Str)(t:zal):PR Node:=(zbi [123] t).bn λt=>((pG n).stmts true t).bd λl=>(zbi [125] l.2).bn λt=>gt (⟨k,nm,0,[],ns,l.1⟩,t)
omit H hn h0 in
theorem zD8(ok:TX L0 L)(k:Int)(nm:Str)(l:List Str):zaJ (RS M) (ps L0 L true,0,[],0,[],k,nm,0,[],[],[],l,[],())=some (.inr (⟨k,nm,0,[],l,[]⟩,ps L0 L true,())):=by
 have B:=znC L0 (M:=M) (by omega);unfold zaJ zcG;simp only[zH,zt,zC,zao,zab,zah,zai,zJ,zK,zW,zaq,zX,zT,zG,zF,zD,qz1,yO,yN,Bool.false_and,Bool.true_and,Bool.and_false,Bool.or_true,Bool.or_false,Bool.false_or,Bool.true_or,qz2,yA,yB,zI,B.stmts true ok];rfl
theorem zNh(k:Int)(nm:Str)(l:List Str)(ok:TX L0 L)(h:tIs [41] (L.map tk)=true):DN L0 (zcG (RS M) (ps L0 L false) 0 [] 0 [] k nm 0 [] [] [] l []) (zmR n k nm l (L.map tk).tail):=by
 have B:=znC L0 (M:=M) (by omega);have ok1:=ok.tail (zam h);unfold zcG zmR;simp only[zH,zt,zC,zI,zT,zG,zF,zD,qz1,zoY ok h0 rfl h];rw[<-yM];refine .need ok1 h0 rfl (by simp only[zH,zt,zC,zao,zab,zah,zai,zJ,zK,zW,zaq,zX,zT,zG,zF,zD,qz1,yO,yN,Bool.false_and,Bool.true_and,Bool.and_false,Bool.or_true,Bool.or_false,Bool.false_or,Bool.true_or,qz2,yA,yB,zI,B.stmts true ok1];exact .ok trivial) λL2 ok2 _=>?_
 refine .e ((H n (yJ _) M (by omega)).stmts true _ ok2) (λv L' ok _=>by simp only[zH,zt,zC,zao,zab,zah,zai,zJ,zK,zW,zaq,zX,zT,zG,zF,zD,qz1,yO,yN,Bool.false_and,Bool.true_and,Bool.and_false,Bool.or_true,Bool.or_false,Bool.false_or,Bool.true_or,qz2,yA,yB,zI];exact .ok trivial) λv L3 ok3 _=>?_
 exact .need ok3 h0 rfl (.ok trivial) λL4 ok4 _=> .gt ok4 rfl
theorem zJ0(k:Int)(nm:Str): ∀(i m:Nat) (L:List zl) (l:List Str),L.length<=i->i+2<=m->l.length+L.length<=10000000001->TX L0 L->
  (l≠[]->DN L0 (zaH (zaJ (RS M)) m (ps L0 L false,0,[],0,[],k,nm,0,[],[],[],l,[],())) ((pNT (L.map tk)).bd λns=>zmR n k nm (l++ns.1) ns.2))/\
  (l=[]->DN L0 (zaH (zaJ (RS M)) m (ps L0 L false,0,[],0,[],k,nm,0,[],[],[],l,[],())) ((zgl (L.map tk)).bd λns=>zmR n k nm (l++ns.1) ns.2))
 |0,m,L,l,hi,hm,hl,ok=>by obtain⟨x,r,rfl⟩:=ok.cons;simp at hi
 |i+1,0,L,l,hi,hm,hl,ok=>by omega
 |i+1,m+1,L,l,hi,hm,hl,ok=>by
  have ih:=λL l hi hl ok=>zJ0 k nm i m L l hi (by omega) hl ok
  obtain⟨j,rfl⟩: ∃j,m=j+1:=⟨m -1,by omega⟩
  have hw: ∀l L',TX L0 L'->Bd L0 (Tt:Node->Prop) L' (zaH (zaJ (RS M)) (j+1) (ps L0 L' true,0,[],0,[],k,nm,0,[],[],[],l,[],())):=λl L' ok=> .out (zD8 hM ok _ _ _) trivial
  rw[zcO];generalize zaH (zaJ (RS M)) (j+1)=W at ih hw⊢
  have j3: ∀L:List zl,L.length<=i+1->l.length+L.length<=10000000001->TX L0 L->DN L0 ((zbp (RS M) (ps L0 L false) 0 [] 0 [] k nm 0 [] [] [] l []).bind (zkX W)) ((zi8 (L.map tk)).bd λns=>zmR n k nm (l++ns.1) ns.2):=λL hi hl ok=>by
   unfold zbp;simp only[zH,zt,zC,zI,zT,zG,zF,zD,qz1,qz3,qz6,Nat.zero_add];obtain⟨x,r,rfl⟩:=ok.cons;simp only[qz3]at hi hl;by_cases hr:r=[]
   ·subst hr
    have h1:(zak ([x].map tk)==1)=false:=by
     cases h:zak ([x].map tk)==1 with
     |false=>rfl
     |true=>
      obtain⟨y,s,e⟩:=(ok.tail (zbu h (by decide))).cons;cases e
    rw[zmb ok h0,h1];simp only[qz2,yA,qz1];exact .bad ok (.assoc (.room (by omega) (hw _ _ ok)))
   ·rw[show((x::r).map tk)=tk x::r.map tk from rfl,zLk _ _ (by simpa using hr)]
    have e: ∀(f:List Str×zal->PR Node),((if((tk x).kind==1)=true then(pNT (r.map tk)).bd λl=>gt ((tk x).text::l.1,l.2)else bad (tk x::r.map tk)).bd f)=
      if(zak ((x::r).map tk)==1)=true then(pNT (r.map tk)).bd λl=>f ((tk x).text::l.1,l.2)else bad ((x::r).map tk):=λf=>by
     show _=if((tk x).kind==1)=true then _ else _
     split
     ·rw[zgd];rfl
     ·rfl
    rw[e];refine .assoc (.name ok h0 (by exact .assoc (.room (by omega) (hw _ _ ok))) λh ok1=>?_);refine .assoc (.room (by omega) ?_);have:=(ih r (l++[x.Text]) (by omega) (by rw[qz5];simp only[qz3,qz6];omega) ok1).1 (by simp)
    simp only[yE,yI,List.nil_append]at this;exact this
  have st: ∀{Q:PR Node},(tIs [41] (L.map tk)=false->DN L0 ((if decide (((l.length:Nat):Int)>0)=true then(zO [44] (ps L0 L false)).bind λr_34=>zbp (RS M) r_34.1 0 [] 0 [] k nm 0 [] [] [] l []else zbp (RS M) (ps L0 L false) 0 [] 0 [] k nm 0 [] [] [] l []).bind (zkX W)) Q)->
    DN L0 ((zaJ (RS M) (ps L0 L false,0,[],0,[],k,nm,0,[],[],[],l,[],())).bind (zkX W)) (if tIs [41] (L.map tk)=true then zmR n k nm (l++[]) (L.map tk).tail else Q):=λhq=>by
   unfold zaJ;simp only[zH,zt,zC,zI,zT,zG,zF,zD,qz1,zao,yN,yB];refine .assoc (.is (sign_eq ok rfl) (λh=>?_) λh=>?_)
   ·simp only[yO,qz2,yA,zwx,List.append_nil];exact zNh H hn hM h0 k nm l ok h
   ·simp only[yN,yB];exact hq h
  constructor
  ·intro hne
   have hlen:((l.length:Nat):Int)>0:=by
    have:=List.length_pos_iff.2 hne;omega
   have e:(pNT (L.map tk)).bd (λns=>zmR n k nm (l++ns.1) ns.2)=if tIs [41] (L.map tk)=true then zmR n k nm (l++[]) (L.map tk).tail else
     (zbi [44] (L.map tk)).bn λt=>if tIs [41] t=true then bad t else(zi8 t).bd λns=>zmR n k nm (l++ns.1) ns.2:=by
    unfold pNT;split
    ·rfl
    ·rw[zoV];congr 1;funext t;split<;>rfl
   rw[e];refine st λh=>?_
   simp only[hlen,decide_true,yB];refine .assoc (.need ok h0 rfl ?_ λL2 ok2 hl2=>?_)
   ·unfold zbp;simp only[zH,zt,zC,zao,zab,zah,zai,zJ,zK,zW,zaq,zX,zT,zG,zF,zD,qz1,yO,yN,Bool.false_and,Bool.true_and,Bool.and_false,Bool.or_true,Bool.or_false,Bool.false_or,Bool.true_or,qz2,yA,yB,zI,qz3,qz6,Nat.zero_add];exact .assoc (.room (by omega) (hw _ _ ok))
   ·have h3:=j3 L2 (by omega) (by omega) ok2;cases h41:tIs [41] (L2.map tk)with
    |false=>simp only[qz2,yA];exact h3
    |true=>
     simp only[yB];refine .bad ok2 ?_
     have h1:(zak (L2.map tk)==1)=false:=by
      obtain⟨x,r,rfl⟩:=ok2.cons;simp only[List.map_cons,zGd,qz4]at h41;have:=h41.1;unfold opK at this;rw[yQ,beq_iff_eq,beq_iff_eq]at this;show((tk x).kind==1)=false;rcases this with e|e<;>rw[e]<;>rfl
     unfold zbp;simp only[zH,zt,zC,zI,zT,zG,zF,zD,qz1,qz3,qz6,Nat.zero_add,zmb ok2 h0,h1,qz2,yA];exact .assoc (.room (by omega) (hw _ _ ok2))
  ·rintro rfl
   have e:(zgl (L.map tk)).bd (λns=>zmR n k nm ([]++ns.1) ns.2)=if tIs [41] (L.map tk)=true then zmR n k nm ([]++[]) (L.map tk).tail else
     (zi8 (L.map tk)).bd λns=>zmR n k nm ([]++ns.1) ns.2:=by
    unfold zgl;split<;>rfl
   rw[e];refine st λh=>?_
   simp only[qz6,show decide (((0:Nat):Int)>0)=false from rfl,qz2,yA];exact j3 L hi hl ok
theorem zOS(k:Int)(nm:Str)(ok:TX L0 L):DN L0 ((zO [40] (ps L0 L false)).bind λr=>Lp.loop (zaJ (RS M)) (r.1,0,[],0,[],k,nm,0,[],[],[],[],[],()))
  ((zbi [40] (L.map tk)).bn λt=>(zgl t).bd λns=>zmR n k nm ns.1 ns.2):=by
 refine .need ok h0 rfl (.zvd (zD8 hM ok _ _ _) trivial) λL1 ok1 _=>?_
 have hlen:=ok1.len;have:=(zJ0 H hn hM h0 k nm L1.length 1000000000000 L1 [] (yJ _) (by omega) (by simp;omega) ok1).2 rfl
 exact .loop this (yJ _)
theorem zPL(k:Int)(ok:TX L0 L):DN L0 (zep (RS M) k (ps L0 L false)) (zr7 (pG n) k (L.map tk)):=by
 have h1:=λnm {L1} ok1=>zOS (L:=L1) H hn hM h0 k nm ok1
 have hb: ∀nm {L},TX L0 L->Bd L0 (Tt:Node->Prop) L (Lp.loop (zaJ (RS M)) (ps L0 L true,0,[],0,[],k,nm,0,[],[],[],[],[],())):=λnm L ok=> .zvd (zD8 hM ok _ _ _) trivial
 obtain⟨x,r,rfl⟩:=ok.cons;have k1:=ze4 ok 1;rw[show((1:Nat):Int)=1 from rfl]at k1;unfold zep zr7 zd8;simp only[zH,zt,zC,zI,zT,zG,zF,zD,qz1,zao,yN,yB,zdl ok,k1]
 have nmd:(zak ((x::r).map tk)==1)=true->DN L0 ((zbb (ps L0 (x::r) false)).bind λr_17=>(zO [40] r_17.2.1).bind λr=>Lp.loop (zaJ (RS M)) (r.1,0,[],0,[],k,r_17.1,0,[],[],[],[],[],()))
   ((zbi [40] (((x::r).map tk).tail)).bn λt=>(zgl t).bd λns=>zmR n k (tText ((x::r).map tk)) ns.1 ns.2):=λh=>by
  rw[zmb ok h0,yL h,qz1];exact h1 _ (ok.tail (zbu h (by decide)))
 cases hk:zak ((x::r).map tk)==1 with
 |true=>
  simp only[yB,zun];cases k==39<;>exact nmd hk
 |false=>
  simp only[qz2,yA];cases h39:k==39 with
  |true=>
   simp only[yB,zL4];refine .bad ok ?_;rw[zmb ok h0,hk];simp only[zH,zt,zC,zao,zab,zah,zai,zJ,zK,zW,zaq,zX,zT,zG,zF,zD,qz1,yO,yN,Bool.false_and,Bool.true_and,Bool.and_false,Bool.or_true,Bool.or_false,Bool.false_or,Bool.true_or,qz2,yA,yB,zI];exact hb _ ok
  |false=>
   simp only[qz2,yA,zun];exact h1 [] ok
theorem zJ8(no:Bool): ∀(k m:Nat),k<=n+1->k<=m->∀(l:List Node) (L:List zl),l.length+k<=n+1->TX L0 L->
  DR L0 (Tt:Node->Prop) (λv' v=>v=nd 22 (l++v')) (zaH (zdY (RS M)) m (no,ps L0 L false,0,[],0,[],22,[],0,[],[],[],[],l,())) ((pG k).vars no (L.map tk))
 |0,m,_,_,l,L,_,ok=>trivial
 |k+1,0,_,hm,l,L,_,ok=>by omega
 |k+1,m+1,hk,hm,l,L,hl,ok=>by
  have ih:=λl L hl ok=>zJ8 no k m (by omega) (by omega) l L hl ok
  show DR _ _ _ _ (zqA (pG k) no (L.map tk));rw[zcO];generalize zaH (zdY (RS M)) m=W at ih⊢
  have fb: ∀(d:Node) (L1:List zl),TX L0 L1->Bd L0 (Tt:Node->Prop) L1 ((zcH (RS M) no (ps L0 L1 true) 0 [] 0 [] 22 [] 0 [] d [] [] [] l).bind (zkX W)):=λd L1 ok1=>by
   unfold zcH zfh;simp only[zH,zt,zC,zao,zab,zah,zai,zJ,zK,zW,zaq,zX,zT,zG,zF,zD,qz1,yO,yN,Bool.false_and,Bool.true_and,Bool.and_false,Bool.or_true,Bool.or_false,Bool.false_or,Bool.true_or,qz2,yA,yB,zI,qz3,qz6,Nat.zero_add];exact .assoc (.room (by omega) (.ok trivial))
  have fin: ∀(d:List Node) (L1:List zl),TX L0 L1->DR L0 (Tt:Node->Prop) (λv' v=>v=nd 22 (l++v'))
    ((zcH (RS M) no (ps L0 L1 false) 0 [] 0 [] 22 [] 0 [] (ndN 23 (tText (L.map tk)) d) [] [] [] l).bind (zkX W))
    (if tIs [44] (L1.map tk)=true then((pG k).vars no (L1.map tk).tail).bd λq=>gt (ndN 23 (tText (L.map tk)) d::q.1,q.2)else gt ([ndN 23 (tText (L.map tk)) d],L1.map tk)):=λd L1 ok1=>by
   unfold zcH zfh;simp only[zH,zt,zC,zI,zT,zG,zF,zD,qz1,qz3,qz6,Nat.zero_add];refine .assoc (.room (by omega) (.assoc (.is (sign_eq ok1 rfl) (λh=>?_) λh=>?_)))
   ·simp only[yO,qz2,yA];rw[<-yM];refine .assoc (.tak ok1 h0 (zam h) λa _ _ ok2=>?_);exact(ih (l++[ndN 23 (tText (L.map tk)) d]) _ (by rw[qz5];simp only[qz3,qz6];omega) ok2).up (φ:=λv=>ndN 23 (tText (L.map tk)) d::v) (λ_ h=>h) (by rintro v' _ rfl;simp)
   ·simp only[yN,yB];exact .gt ok1 rfl
  unfold zqA;unfold zdY;simp only[zH,zt,zC,zI,zT,zG,zF,zD,qz1];refine .assoc (.name ok h0 (by simp only[zH,zt,zC,zao,zab,zah,zai,zJ,zK,zW,zaq,zX,zT,zG,zF,zD,qz1,yO,yN,Bool.false_and,Bool.true_and,Bool.and_false,Bool.or_true,Bool.or_false,Bool.false_or,Bool.true_or,qz2,yA,yB,zI];exact fb _ _ ok) λhk1 ok1=>?_)
  have e: ∀(f:List Node×zal->PR (List Node)),((if tIs [61] (L.map tk).tail=true then((pG k).assign no (L.map tk).tail.tail).bd λy=>Go.D08.gt ([y.1],y.2)else Go.D08.gt ([],(L.map tk).tail)).bd f)=
    if tIs [61] (L.tail.map tk)=true then((pG k).assign no (L.tail.map tk).tail).bd λy=>f ([y.1],y.2)else f ([],L.tail.map tk):=λf=>by
   rw[yM];split
   ·rw[zgd];rfl
   ·rfl
  rw[e];refine .assoc (.is (sign_eq ok1 rfl) (λh=>?_) λh=>?_)
  ·simp only[yB];rw[<-yM];refine .assoc (.tak ok1 h0 (zam h) λa _ _ ok2=>?_);refine .assoc (.e ((H k (by omega) M (by omega)).assign no _ ok2) (λv L' ok _=>fb _ _ ok) λy L3 ok3 _=>?_);exact fin [y] L3 ok3
  ·simp only[qz2,yA];exact fin [] _ ok1
theorem zQ0(no:Bool)(ok:TX L0 L):DR L0 (Tt:Node->Prop) (λl v=>v=nd 22 l) (zfA (RS M) no (ps L0 L false)) (zqA (pG n) no (L.map tk)):=by
 unfold zfA;simp only[zH,zt,zC,zI,zT,zG,zF,zD,qz1];exact .loop (zJ8 H hn hM h0 no (n+1) 1000000000000 (yJ _) (by omega) [] L (by simp) ok) (yJ _)
end
section
variable {L0 L:List zl} {n M:Nat} (H: ∀k,k<=n->∀N,20*k+20<=N->DS L0 (RS N) (pG k)) (hn:n<=10000000000) (hM:20*n+30<=M) (h0:L0.length<=10000000000)
include H hn hM h0
theorem zNc(ok:TX L0 L):DN L0 (zdn (RS M) (ps L0 L false)) (znq (pG n) (L.map tk)):=by
 have B:=znC L0 (M:=M) (by omega);unfold zdn znq;simp only[zH,zt,zC,zI,zT,zG,zF,zD,qz1];refine .need ok h0 rfl (by simp only[zH,zt,zC,zao,zab,zah,zai,zJ,zK,zW,zaq,zX,zT,zG,zF,zD,qz1,yO,yN,Bool.false_and,Bool.true_and,Bool.and_false,Bool.or_true,Bool.or_false,Bool.false_or,Bool.true_or,qz2,yA,yB,zI,B.stmts false ok];exact .ok trivial) λL1 ok1 _=>?_
 refine .e ((H n (yJ _) M (by omega)).stmts false L1 ok1) (λv L' ok _=>by simp only[zH,zt,zC,zao,zab,zah,zai,zJ,zK,zW,zaq,zX,zT,zG,zF,zD,qz1,yO,yN,Bool.false_and,Bool.true_and,Bool.and_false,Bool.or_true,Bool.or_false,Bool.false_or,Bool.true_or,qz2,yA,yB,zI];exact .ok trivial) λl L2 ok2 _=>?_
 exact .need ok2 h0 rfl (.ok trivial) λL3 ok3 _=> .gt ok3 rfl
theorem zQm(ok:TX L0 L):DN L0 (zdy (RS M) (ps L0 L false)) (zuj (pG n) (L.map tk)):=by
 have B:=znC L0 (M:=M) (by omega);unfold zdy zuj;simp only[zH,zt,zC,zI,zT,zG,zF,zD,qz1];refine .need ok h0 rfl (by simp only[zH,zt,zC,zao,zab,zah,zai,zJ,zK,zW,zaq,zX,zT,zG,zF,zD,qz1,yO,yN,Bool.false_and,Bool.true_and,Bool.and_false,Bool.or_true,Bool.or_false,Bool.false_or,Bool.true_or,qz2,yA,yB,zI,B.comma false ok];exact .ok trivial) λL1 ok1 _=>?_
 refine .e ((H n (yJ _) M (by omega)).comma false L1 ok1) (λv L' ok _=>by simp only[zH,zt,zC,zao,zab,zah,zai,zJ,zK,zW,zaq,zX,zT,zG,zF,zD,qz1,yO,yN,Bool.false_and,Bool.true_and,Bool.and_false,Bool.or_true,Bool.or_false,Bool.false_or,Bool.true_or,qz2,yA,yB,zI];exact .ok trivial) λl L2 ok2 _=>?_
 exact .need ok2 h0 rfl (.ok trivial) λL3 ok3 _=> .gt ok3 rfl
theorem zRO(s:Str)(hs:zuI s=true)(ok:TX L0 L):DN L0 (zdz (RS M) s (ps L0 L false)) (zp1 (pG n) s (L.map tk)):=by
 unfold zdz zp1;simp only[zH,zt,zC,zI,zT,zG,zF,zD,qz1];refine .is (sign_eq ok hs) (λh=>?_) λh=>?_
 ·simp only[yO,qz2,yA,zoY ok h0 hs h,qz1];exact .gt' (ok.tail (zam h)) (by rw[yM]) rfl
 ·simp only[yN,yB];refine .e ((H n (yJ _) M (by omega)).comma false L ok) (λv L' ok _=>by simp only[zH,zt,zC,zao,zab,zah,zai,zJ,zK,zW,zaq,zX,zT,zG,zF,zD,qz1,yO,yN,Bool.false_and,Bool.true_and,Bool.and_false,Bool.or_true,Bool.or_false,Bool.false_or,Bool.true_or,qz2,yA,yB,zI];exact .ok trivial) λl L2 ok2 _=>?_
  exact .need ok2 h0 hs (.ok trivial) λL3 ok3 _=> .gt ok3 rfl
theorem zut(ok:TX L0 L):DR L0 (Tt:Node->Prop) (λx v=>v=zeN x) ((RS (M+1)).zaN (ps L0 L false)) ((pG n).stmt (L.map tk)):=by
 show DR _ _ _ (zdw (RS M) (ps L0 L false)) _;unfold zdw;simp only[zH,zt,zC,zI,zT,zG,zF,zD,qz1];refine .same ((H n (yJ _) M (by omega)).stmt L ok) (λv L' ok _=>?_) λv' v L' ok e=>?_
 ·simp only;cases v.Kind==25<;>exact .ok trivial
 ·have e:v'=v:=e;subst e;simp only;unfold zeN;cases v'.Kind==25<;>exact⟨_,rfl,rfl⟩
theorem zOA(x:Node)(ok:TX L0 L):DN L0 (zcI (RS (M+1)) (ps L0 L false) 0 [] 0 [] x [] [])
  ((zbi [59] (L.map tk)).bn λt=>((pG n).till [59] t).bd λy=>((pG n).till [41] y.2).bd λz=>((pG n).stmt z.2).bd λb=>gt (nd 29 [x,y.1,z.1,zeN b.1],b.2)):=by
 have B:=znC L0 (M:=M+1) (by omega);have S:=H n (yJ _) (M+1) (by omega);unfold zcI zff zfg zfi;simp only[zH,zt,zC,zI,zT,zG,zF,zD,qz1];refine .need ok h0 rfl (by simp only[zH,zt,zC,zao,zab,zah,zai,zJ,zK,zW,zaq,zX,zT,zG,zF,zD,qz1,yO,yN,Bool.false_and,Bool.true_and,Bool.and_false,Bool.or_true,Bool.or_false,Bool.false_or,Bool.true_or,qz2,yA,yB,zI,B.upTo _ ok,B.body ok];exact .ok trivial) λL1 ok1 _=>?_
 refine .e (S.till [59] L1 ok1 rfl) (λv L' ok _=>by simp only[zH,zt,zC,zao,zab,zah,zai,zJ,zK,zW,zaq,zX,zT,zG,zF,zD,qz1,yO,yN,Bool.false_and,Bool.true_and,Bool.and_false,Bool.or_true,Bool.or_false,Bool.false_or,Bool.true_or,qz2,yA,yB,zI,B.upTo _ ok,B.body ok];exact .ok trivial) λy L2 ok2 _=>?_
 refine .e (S.till [41] L2 ok2 rfl) (λv L' ok _=>by simp only[zH,zt,zC,zao,zab,zah,zai,zJ,zK,zW,zaq,zX,zT,zG,zF,zD,qz1,yO,yN,Bool.false_and,Bool.true_and,Bool.and_false,Bool.or_true,Bool.or_false,Bool.false_or,Bool.true_or,qz2,yA,yB,zI,B.body ok];exact .ok trivial) λz L3 ok3 _=>?_
 exact .bd (zut H hn hM h0 ok3) (λv L' ok _=> .ok trivial) λb v L4 ok4 _ e=> .gt ok4 (by rw[e];rfl)
omit H hn in
theorem zME(x:Node)(ok:TX L0 L):Bd L0 (Tt:Node->Prop) L (zcI (RS (M+1)) (ps L0 L true) 0 [] 0 [] x [] []):=by
 have B:=znC L0 (M:=M+1) (by omega);unfold zcI zff zfg zfi;simp only[zH,zt,zC,zao,zab,zah,zai,zJ,zK,zW,zaq,zX,zT,zG,zF,zD,qz1,yO,yN,Bool.false_and,Bool.true_and,Bool.and_false,Bool.or_true,Bool.or_false,Bool.false_or,Bool.true_or,qz2,yA,yB,zI,B.upTo _ ok,B.body ok];exact .ok trivial
omit H hn in
theorem zM8(x:Node)(b:Bool)(ok:TX L0 L):Bd L0 (Tt:Node->Prop) L (zbI (RS (M+1)) b (ps L0 L true) 0 [] 0 [] x [] []):=by
 unfold zbI;simp only[zH,zt,zC,zao,zab,zah,zai,zJ,zK,zW,zaq,zX,zT,zG,zF,zD,qz1,yO,yN,Bool.false_and,Bool.true_and,Bool.and_false,Bool.or_true,Bool.or_false,Bool.false_or,Bool.true_or,qz2,yA,yB,zI];cases b<;>exact zME hM h0 x ok
theorem zOr(x:Node)(each:Bool)(ok:TX L0 L):DN L0 (zbI (RS (M+1)) each (ps L0 L false) 0 [] 0 [] x [] []) (zFq (pG n) each x (L.map tk)):=by
 have B:=znC L0 (M:=M+1) (by omega);have S:=H n (yJ _) (M+1) (by omega);have h5:=zOA H hn hM h0 x ok;unfold zbI zFq;simp only[zH,zt,zC,zI,zT,zG,zF,zD,qz1];cases each with
 |false=>
  simp only[qz2,yA,Bool.false_and];exact h5
 |true=>
  simp only[yB,Bool.true_and];refine .is (zd6 ok rfl) (λh=>?_) λh=>?_
  ·simp only[yB];unfold zhv zhC zhF;simp only[zH,zt,zC,zI,zT,zG,zF,zD,qz1];rw[<-yM];refine .tak ok h0 (zam h) λa _ _ ok1=>?_
   refine .e (S.comma false _ ok1) (λv L' ok _=>by simp only[zH,zt,zC,zao,zab,zah,zai,zJ,zK,zW,zaq,zX,zT,zG,zF,zD,qz1,yO,yN,Bool.false_and,Bool.true_and,Bool.and_false,Bool.or_true,Bool.or_false,Bool.false_or,Bool.true_or,qz2,yA,yB,zI,B.body ok];exact .ok trivial) λy L2 ok2 _=>?_
   refine .need ok2 h0 rfl (by simp only[B.body ok2,qz1];exact .ok trivial) λL3 ok3 _=>?_
   exact .bd (zut H hn hM h0 ok3) (λv L' ok _=> .ok trivial) λb v L4 ok4 _ e=> .gt ok4 (by rw[e];rfl)
  ·simp only[qz2,yA];exact h5
theorem zPJ(ok:TX L0 L):DN L0 (zfu (RS (M+1)) (ps L0 L false)) (zuh (pG n) (L.map tk)):=by
 have B:=znC L0 (M:=M+1) (by omega);have S:=H n (yJ _) (M+1) (by omega);have h1:=λ(L1:List zl) x each ok1=>zOr (L:=L1) H hn hM h0 x each ok1
 have hb:=λ(L1:List zl) x b ok1=>zM8 (L:=L1) (n:=n) hM h0 x b ok1
 unfold zfu zuh zuW;simp only[zH,zt,zC,zI,zT,zG,zF,zD,qz1,zqO];refine .need ok h0 rfl ?_ λL1 ok1 _=>?_
 ·simp only[zH,zt,zC,zao,zab,zah,zai,zJ,zK,zW,zaq,zX,zT,zG,zF,zD,qz1,yO,yN,Bool.false_and,Bool.true_and,Bool.and_false,Bool.or_true,Bool.or_false,Bool.false_or,Bool.true_or,qz2,yA,yB,zI,B.comma true ok,zqO];exact hb _ _ _ ok
 have e: ∀(f:Node×zal->PR Node),((if tIs [118,97,114] (L1.map tk)=true then((pG n).vars true (L1.map tk).tail).bd λl=>Go.D08.gt (nd 22 l.1,l.2)else if tIs [59] (L1.map tk)=true then Go.D08.gt (nd 42 [],L1.map tk)else(pG n).expr true (L1.map tk)).bd f)=
   if tIs [118,97,114] (L1.map tk)=true then((pG n).vars true (L1.map tk).tail).bd λl=>f (nd 22 l.1,l.2)else if tIs [59] (L1.map tk)=true then f (nd 42 [],L1.map tk)else((pG n).expr true (L1.map tk)).bd f:=λf=>by
  split
  ·rw[zgd];rfl
  ·split<;>rfl
 rw[e];refine .is (zd6 ok1 rfl) (λh=>?_) λh=>?_
 ·simp only[yB];rw[<-yM];refine .tak ok1 h0 (zam h) λa _ _ ok2=>?_
  refine .bd (S.vars true _ ok2) (λv L' ok _=>?_) λl v L3 ok3 _ e=>?_
  ·simp only;generalize hl:v.L=l;rcases l with _| ⟨d,_| ⟨d2,r⟩⟩
   ·exact hb _ _ _ ok
   ·exact hb _ _ _ ok
   ·have hc:((((d::d2::r).length:Nat):Int)==1)=false:=by rw[yH];simp only[qz3];omega
    simp only[hc,qz2,yA,qz1];exact hb _ _ _ ok
  ·subst e;rcases l with _| ⟨d,_| ⟨d2,r⟩⟩
   ·exact h1 L3 (nd 22 []) false ok3
   ·have hc:(((d.L.length:Nat):Int)==0)=d.L.isEmpty:=by
     cases d.L with
     |nil=>rfl
     |cons a r=>exact yH.2 (by simp only[qz3];omega)
    show DN _ (zbI (RS (M+1)) (((d.L.length:Nat):Int)==0) (ps L0 L3 false) 0 [] 0 [] (nd 22 [d]) [] []) _;rw[hc];exact h1 L3 (nd 22 [d]) d.L.isEmpty ok3
   ·have hc:((((d::d2::r).length:Nat):Int)==1)=false:=by rw[yH];simp only[qz3];omega
    simp only[nd,hc,qz2,yA,qz1];exact h1 L3 (nd 22 (d::d2::r)) false ok3
 ·simp only[qz2,yA];refine .is (sign_eq ok1 rfl) (λh=>?_) λh=>?_
  ·simp only[yO,qz2,yA];exact h1 L1 (nd 42 []) false ok1
  ·simp only[yN,yB];refine .e (S.comma true _ ok1) (λv L' ok _=>hb _ _ _ ok) λx L3 ok3 hq=>?_
   have hx:x.Kind≠22:=(zLe n).expr _ _ _ hq;have he:ztR x=zf1 x.Kind:=by unfold ztR;rw[yK (by simpa using hx)]
   show DN _ _ (if(ztR x&&tIs [105,110] (L3.map tk))=true then _ else _);rw[he];exact h1 L3 x (zf1 x.Kind) ok3
omit H hn hM in
theorem zOR(nm:Str)(l:List Node)(ok:TX L0 L):Bd L0 (Tt:Node->Prop) L (zbT (RS M) (ps L0 L true) 0 [] 0 [] 35 nm 0 [] [] [] [] l):=by
 unfold zbT;simp only[zH,zt,zC,zao,zab,zah,zai,zJ,zK,zW,zaq,zX,zT,zG,zF,zD,qz1,yO,yN,Bool.false_and,Bool.true_and,Bool.and_false,Bool.or_true,Bool.or_false,Bool.false_or,Bool.true_or,qz2,yA,yB,zI];exact .ok trivial
theorem zQ2(nm:Str)(b c:Node)(hc:(c.Kind==42)=false\/tIs [102,105,110,97,108,108,121] (L.map tk)=true)(ok:TX L0 L):DN L0 (zbT (RS M) (ps L0 L false) 0 [] 0 [] 35 nm 0 [] [] [] [] [b,c,nd 42 []])
  ((zpZ (pG n) (L.map tk)).bd λf=>if(f.1.Kind==42&&c.Kind==42)=true then bad f.2 else gt (ndN 35 nm [b,c,f.1],f.2)):=by
 have S:=H n (yJ _) M (by omega);unfold zbT zh5 zia zpZ;simp only[zH,zt,zC,zI,zT,zG,zF,zD,qz1]
 have e: ∀(f:Node×zal->PR Node),((if tIs [102,105,110,97,108,108,121] (L.map tk)=true then(pG n).block (L.map tk).tail else Go.D08.gt (nd 42 [],L.map tk)).bd f)=if tIs [102,105,110,97,108,108,121] (L.map tk)=true then((pG n).block (L.map tk).tail).bd f else f (nd 42 [],L.map tk):=λf=>by
  split<;>rfl
 rw[e];refine .is (zd6 ok rfl) (λh=>?_) λh=>?_
 ·simp only[yB];rw[<-yM];refine .tak ok h0 (zam h) λa _ _ ok1=>?_
  refine .e (S.block _ ok1) (λv L' ok _=> .ok trivial) λf L2 ok2 hq=>?_
  have h25:f.Kind=25:=zzN hq;have hf:(f.Kind==42)=false:=by rw[h25];rfl
  simp only[hf,Bool.false_and,qz2,yA];exact .gt ok2 rfl
 ·have hc:=hc.resolve_right (by rw[h];decide)
  simp only[qz2,yA,hc,Bool.and_false];exact .gt ok rfl
theorem zSk(ok:TX L0 L):DN L0 ((RS (M+1)).zdt (ps L0 L false)) (zwQ (pG n) (L.map tk)):=by
 have S:=H n (yJ _) M (by omega);have B:=znC L0 (M:=M) (by omega);have h1:=λ(L1:List zl) nm b c hc ok1=>zQ2 (L:=L1) H hn hM h0 nm b c hc ok1
 have hb:=λ(L1:List zl) nm l ok1=>zOR (L:=L1) (M:=M) h0 nm l ok1
 show DN _ (zfY (RS M) (ps L0 L false)) _;unfold zfY zwQ zyI;simp only[zH,zt,zC,zI,zT,zG,zF,zD,qz1];refine .e (S.block L ok) (λv L' ok _=>by simp only[zH,zt,zC,zao,zab,zah,zai,zJ,zK,zW,zaq,zX,zT,zG,zF,zD,qz1,yO,yN,Bool.false_and,Bool.true_and,Bool.and_false,Bool.or_true,Bool.or_false,Bool.false_or,Bool.true_or,qz2,yA,yB,zI];exact hb _ _ _ ok) λb L1 ok1 _=>?_
 have e: ∀(x y:PR (Str×Node)) (f:(Str×Node)×zal->PR Node),((if tIs [99,97,116,99,104] (L1.map tk)=true then x else y).bd f)=if tIs [99,97,116,99,104] (L1.map tk)=true then x.bd f else y.bd f:=λx y f=>by
  split<;>rfl
 rw[e];refine .is (zd6 ok1 rfl) (λh=>?_) λh=>?_
 ·simp only[yB];rw[<-yM,zoV];refine .tak ok1 h0 (zam h) λa _ _ ok2=>?_
  have bl: ∀(nm:Str) (L:List zl),TX L0 L->Bd L0 (Tt:Node->Prop) L (((RS M).za5 (ps L0 L true)).bind λr_10=>(zas [b,nd 42 [],nd 42 []] 1).bind λx=>(zas [b,nd 42 [],nd 42 []] 1).bind λx_1=>
    zbT (RS M) r_10.2.1 0 [] 0 [] 35 nm 0 [] [] [] [] ([b,nd 42 [],nd 42 []].set (1:Int).toNat r_10.1)):=λnm L ok=>by
   rw[B.block ok];exact hb _ _ _ ok
  refine .need ok2 h0 rfl (by simp only[zH,zt,zC,zao,zab,zah,zai,zJ,zK,zW,zaq,zX,zT,zG,zF,zD,qz1,yO,yN,Bool.false_and,Bool.true_and,Bool.and_false,Bool.or_true,Bool.or_false,Bool.false_or,Bool.true_or,qz2,yA,yB,zI];exact bl _ _ ok2) λL3 ok3 _=>?_
  have e2: ∀(x:PR (Str×Node)) (f:(Str×Node)×zal->PR Node),((if(zak (L3.map tk)==1)=true then x else bad (L3.map tk)).bd f)=if(zak (L3.map tk)==1)=true then x.bd f else bad (L3.map tk):=λx f=>by
   split<;>rfl
  rw[e2];refine .name ok3 h0 (by simp only[zH,zt,zC,zao,zab,zah,zai,zJ,zK,zW,zaq,zX,zT,zG,zF,zD,qz1,yO,yN,Bool.false_and,Bool.true_and,Bool.and_false,Bool.or_true,Bool.or_false,Bool.false_or,Bool.true_or,qz2,yA,yB,zI];exact bl _ _ ok3) λhk ok4=>?_
  rw[<-yM,zoV];refine .need ok4 h0 rfl (by exact bl _ _ ok4) λL5 ok5 _=>?_
  rw[zgd];refine .e (S.block L5 ok5) (λv L' ok _=>hb _ _ _ ok) λc L6 ok6 hq=>?_
  have h25:c.Kind=25:=zzN hq;exact h1 L6 (tText (L3.map tk)) b c (.inl (by rw[h25];rfl)) ok6
 ·simp only[qz2,yA,zun,zd6 ok1 (s:=[102,105,110,97,108,108,121]) rfl,qz1];cases hf:tIs [102,105,110,97,108,108,121] (L1.map tk)with
  |true=>
   simp only[yO,qz2,yA];exact h1 L1 [] b (nd 42 []) (.inr hf) ok1
  |false=>
   simp only[yN,yB];unfold zpZ;rw[hf];exact .bad ok1 (by simp only[zH,zt,zC,zao,zab,zah,zai,zJ,zK,zW,zaq,zX,zT,zG,zF,zD,qz1,yO,yN,Bool.false_and,Bool.true_and,Bool.and_false,Bool.or_true,Bool.or_false,Bool.false_or,Bool.true_or,qz2,yA,yB,zI];exact hb _ _ _ ok1)
end
theorem zPv{a b:Str}{t:zal}(h:tIs a t=true)(hab:(a==b)=false):tIs b t=false:=by
 cases t with
 |nil=>rfl
 |cons x r=>
  simp only[tIs,qz4]at h⊢;rw[eq_of_beq h.2,hab,Bool.and_false]
theorem DR.zTo{β β' S ρ:Type}{L0:List zl}{G':β->Prop}{O':β'->β->Prop}{step:S->Option (S⊕ρ)}{k:Nat}{s:S}{K:ρ->Option (β×TP×Unit)}{q:PR β'}(h:DR L0 G' O' ((zaH step k s).bind K) q)(hk:k<=1000000000000):
  DR L0 G' O' ((Lp.loop step s).bind K) q:=by
 cases hl:zaH step k s with
 |some e=>rw[hl]at h;rw[zck hl hk];exact h
 |none=>
  rw[hl]at h;cases q with
  |none=>trivial
  |some p=>
   cases p with
   |inl j=>obtain⟨_,_,_,_,e,_⟩:=h;cases e
   |inr p=>obtain⟨_,_,e,_⟩:=h;cases e
section
variable {L0 L:List zl}
theorem zCx(g:zi)(had:Bool)(l:List Node):zb1 g (had,ps L0 L true,0,[],0,[],36,[],0,[],[],[],[],l,())=some (.inr (nd 36 l,ps L0 L true,())):=by
 unfold zb1;simp only[zH,zt,zC,zao,zab,zah,zai,zJ,zK,zW,zaq,zX,zT,zG,zF,zD,qz1,yO,yN,Bool.false_and,Bool.true_and,Bool.and_false,Bool.or_true,Bool.or_false,Bool.false_or,Bool.true_or,qz2,yA,yB,zI];rfl
theorem zIB(g:zi)(had:Bool)(acc cur:List Node)(ha:acc.length<=20000000000):zb5 g (had,ps L0 L true,0,[],0,[],36,[],0,[],37,[],0,[],[],[],[],acc,[],cur,())=
  some (.inr (.inl (had,ps L0 L true,0,[],0,[],36,[],0,[],[],[],[],acc++[nd 37 cur],()))):=by
 unfold zb5 zb0;simp only[zH,zt,zC,zao,zab,zah,zai,zJ,zK,zW,zaq,zX,zT,zG,zF,zD,qz1,yO,yN,Bool.false_and,Bool.true_and,Bool.and_false,Bool.or_true,Bool.or_false,Bool.false_or,Bool.true_or,qz2,yA,yB,zI,qz3,qz6,Nat.zero_add];rw[zcQ (by omega)];rfl
end
section
variable {L0 L:List zl} {n M:Nat} (H: ∀k,k<=n->∀N,20*k+20<=N->DS L0 (RS N) (pG k)) (hn:n<=10000000000) (hM:20*n+30<=M) (h0:L0.length<=10000000000)
include H hn hM h0
theorem zKu{O':List Node->Node->Prop}(had:Bool)(acc:List Node)(ha:acc.length<=20000000000)
  (K:(Bool×TP×Int×Str×Int×Str×Int×Str×Int×Str×List Str×List Node×List Str×List Node×Unit)⊕(Node×TP×Unit)->Option (Node×TP×Unit)) (gq:List Node->zal->PR (List Node))
  (hbad: ∀v L',TX L0 L'->Bd L0 (Tt:Node->Prop) L' (K (.inl (had,ps L0 L' true,0,[],0,[],36,[],0,[],[],[],[],acc++[nd 37 v],()))))
  (hgood: ∀v L',TX L0 L'->DR L0 (Tt:Node->Prop) O' (K (.inl (had,ps L0 L' false,0,[],0,[],36,[],0,[],[],[],[],acc++[nd 37 v],()))) (gq v (L'.map tk)))
  (hend: ∀v L',TX L0 L'->zak (L'.map tk)=0->gq v (L'.map tk)=none\/gq v (L'.map tk)=bad (L'.map tk)): ∀(k m:Nat),k<=n->k+1<=m->∀(cur:List Node) (L:List zl),cur.length+k<=n+1->TX L0 L->
  DR L0 (Tt:Node->Prop) O' ((zaH (zb5 (RS M)) m (had,ps L0 L false,0,[],0,[],36,[],0,[],37,[],0,[],[],[],[],acc,[],cur,())).bind K) (((pG k).body (L.map tk)).bd λl=>gq (cur++l.1) l.2)
 |0,m,_,_,cur,L,_,ok=>trivial
 |k+1,0,_,hm,cur,L,_,ok=>by omega
 |k+1,m+1,hk,hm,cur,L,hl,ok=>by
  have ih:=λcur L hl ok=>zKu had acc ha K gq hbad hgood hend k m (by omega) (by omega) cur L hl ok
  obtain⟨j,rfl⟩: ∃j,m=j+1:=⟨m -1,by omega⟩
  have hw: ∀v L',TX L0 L'->Bd L0 (Tt:Node->Prop) L' ((zaH (zb5 (RS M)) (j+1) (had,ps L0 L' true,0,[],0,[],36,[],0,[],37,[],0,[],[],[],[],acc,[],v,())).bind K):=λv L' ok=>by
   rw[zaG (zIB _ _ _ _ ha)];exact hbad v L' ok
  rw[zcO];generalize zaH (zb5 (RS M)) (j+1)=W at ih hw⊢
  have e:((pG (k+1)).body (L.map tk)).bd (λl=>gq (cur++l.1) l.2)=if(zc3 [[99,97,115,101],[100,101,102,97,117,108,116],[125]] (L.map tk)||zak (L.map tk)==0)=true then gq (cur++[]) (L.map tk)else
    ((pG k).stmt (L.map tk)).bd λx=>((pG k).body x.2).bd λl=>gq ((cur++[x.1])++l.1) l.2:=by
   show(ztU (pG k) (L.map tk)).bd _=_;unfold ztU;split
   ·rfl
   ·rw[zgd];congr 1;funext x;rw[zgd];congr 1;funext l;rw[zun,yE];rfl
  rw[e]
  have hc:zc3 [[99,97,115,101],[100,101,102,97,117,108,116],[125]] (L.map tk)=(tIs [99,97,115,101] (L.map tk)||(tIs [100,101,102,97,117,108,116] (L.map tk)||tIs [125] (L.map tk))):=by
   simp only[zCj,any_nil,Bool.or_false]
  have stop:DR L0 (Tt:Node->Prop) O' ((zb0 (RS M) had (ps L0 L false) 0 [] 0 [] 36 [] 0 [] 37 [] 0 [] [] [] [] acc [] cur).bind K) (gq (cur++[]) (L.map tk)):=by
   unfold zb0;simp only[zH,zt,zC,zI,zT,zG,zF,zD,qz1,qz3,qz6,Nat.zero_add];rw[zcQ (by omega),List.append_nil];exact hgood cur L ok
  have sb: ∀v L',TX L0 L'->Bd L0 (Tt:Node->Prop) L' ((((room (cur.length+1)).bind λx=>some (Sum.inl (had,ps L0 L' true,(0:Int),([]:Str),(0:Int),([]:Str),(36:Int),([]:Str),(0:Int),([]:Str),(37:Int),([]:Str),(0:Int),([]:Str),([]:List Str),([]:List Node),([]:List Str),acc,([]:List Str),cur++[v],()))).bind (zkX W)).bind K):=λv L' ok=>by
   rw[zcQ (by omega)];exact hw _ _ ok
  unfold zb5;simp only[zH,zt,zC,zI,zT,zG,zF,zD,qz1,zao,yN,yB,zd6 ok (s:=[99,97,115,101]) rfl,zd6 ok (s:=[100,101,102,97,117,108,116]) rfl,sign_eq ok (s:=[125]) rfl,hc,qz3,qz6,Nat.zero_add];cases e1:tIs [99,97,115,101] (L.map tk)with
  |true=>simp only[yO,qz2,yA,Bool.true_or,yB,zwx];exact stop
  |false=>
  cases e2:tIs [100,101,102,97,117,108,116] (L.map tk)with
  |true=>simp only[yO,yN,qz2,yA,Bool.true_or,Bool.false_or,yB,zwx];exact stop
  |false=>
  cases e3:tIs [125] (L.map tk)with
  |true=>simp only[yO,yN,qz2,yA,Bool.true_or,Bool.false_or,yB,zwx];exact stop
  |false=>
   simp only[yN,yB,Bool.false_or];cases hk0:zak (L.map tk)==0 with
   |true=>
    have h00:zak (L.map tk)=0:=eq_of_beq hk0;obtain⟨M',rfl⟩: ∃j,M=j+13:=⟨M -13,by omega⟩
    obtain⟨v,e,_⟩:=zQd ok h00 M';simp only[yB,List.append_nil];have hB:=sb v L ok;rcases hend cur L ok h00 with h|h
    ·rw[h];trivial
    ·rw[h,e];exact .bad ok hB
   |false=>
    simp only[qz2,yA];refine .assoc (.assoc (.e ((H k (by omega) M (by omega)).stmt _ ok) (λv L' ok _=>?_) λy L3 ok3 _=>?_))
    ·have:=sb v L' ok;revert this;cases room (cur.length+1)<;>exact id
    ·have:=ih (cur++[y]) L3 (by rw[qz5];simp only[qz3,qz6];omega) ok3
     simp only;rw[zcQ (by omega)];exact this
theorem zJ7: ∀(k m:Nat),k<=n->k+1<=m->∀(o:Bool) (acc:List Node) (L:List zl),acc.length+k<=n+1->TX L0 L->
  DR L0 (Tt:Node->Prop) (λv' v=>v=nd 36 (acc++v')) (zaH (zb1 (RS M)) m (!o,ps L0 L false,0,[],0,[],36,[],0,[],[],[],[],acc,())) ((pG k).cases o (L.map tk))
 |0,m,_,_,o,l,L,_,ok=>trivial
 |k+1,0,_,hm,o,l,L,_,ok=>by omega
 |k+1,m+1,hk,hm,o,acc,L,hl,ok=>by
  have S:=H k (by omega) M (by omega);have B:=znC L0 (M:=M) (by omega);have ih:=λo acc L hl ok=>zJ7 k m (by omega) (by omega) o acc L hl ok
  obtain⟨j,rfl⟩: ∃j,m=j+1:=⟨m -1,by omega⟩
  have hw: ∀had acc L',TX L0 L'->Bd L0 (Tt:Node->Prop) L' (zaH (zb1 (RS M)) (j+1) (had,ps L0 L' true,0,[],0,[],36,[],0,[],[],[],[],acc,())):=λhad acc L' _=> .out (zCx _ _ _) trivial
  show DR _ _ _ _ (zm9 (pG k) o (L.map tk));rw[zcO];generalize zaH (zb1 (RS M)) (j+1)=W at ih hw⊢
  have b2: ∀had (x:Node) L1,TX L0 L1->Bd L0 (Tt:Node->Prop) L1 ((zcC (RS M) had (ps L0 L1 true) 0 [] 0 [] 36 [] 0 [] 37 [] 0 [] [] [] [] acc [] [x]).bind (zkX W)):=λhad x L1 ok1=>by
   unfold zcC;simp only[zH,zt,zC,zao,zab,zah,zai,zJ,zK,zW,zaq,zX,zT,zG,zF,zD,qz1,yO,yN,Bool.false_and,Bool.true_and,Bool.and_false,Bool.or_true,Bool.or_false,Bool.false_or,Bool.true_or,qz2,yA,yB,zI];rw[zck (n:=1) (zaG (zIB _ _ _ _ (by omega))) (by decide)];exact hw _ _ _ ok1
  have j2: ∀(o':Bool) (x:Node) (L1:List zl),TX L0 L1->DR L0 (Tt:Node->Prop) (λv' v=>v=nd 36 (acc++v'))
    ((zcC (RS M) (!o') (ps L0 L1 false) 0 [] 0 [] 36 [] 0 [] 37 [] 0 [] [] [] [] acc [] [x]).bind (zkX W))
    ((zbi [58] (L1.map tk)).bn λt=>((pG k).body t).bd λl=>((pG k).cases o' l.2).bd λr=>gt (nd 37 (x::l.1)::r.1,r.2)):=λo' x L1 ok1=>by
   have b2:=b2 (!o') x L1 ok1;unfold zcC at b2⊢;simp only[zH,zt,zC,zI,zT,zG,zF,zD,qz1];refine .assoc (.need ok1 h0 rfl ?_ λL2 ok2 _=>?_)
   ·simp only[zH,zt,zC,zao,zab,zah,zai,zJ,zK,zW,zaq,zX,zT,zG,zF,zD,qz1,yO,yN,Bool.false_and,Bool.true_and,Bool.and_false,Bool.or_true,Bool.or_false,Bool.false_or,Bool.true_or,qz2,yA,yB,zI]at b2;exact b2
   ·refine .zTo (k:=n+2) ?_ (by omega);refine zKu H hn hM h0 (!o') acc (by omega) (zkX W) (λv t=>((pG k).cases o' t).bd λr=>gt (nd 37 v::r.1,r.2)) (λv L' ok=>hw _ _ _ ok) (λv L' ok=>?_) (λv L' ok hk0=>?_) k (n+2) (by omega) (by omega) [x] L2 (by simp;omega) ok2
    ·exact(ih o' (acc++[nd 37 v]) L' (by rw[qz5];simp only[qz3,qz6];omega) ok).up (O2:=λv' v=>v=nd 36 (acc++v')) (φ:=λr=>nd 37 v::r) (λ_ h=>h) (by rintro v' _ rfl;simp)
    ·cases k with
     |zero=>exact .inl rfl
     |succ k=>
      refine .inr ?_;show(zm9 (pG k) o' (L'.map tk)).bd _=_;unfold zm9 zbi;simp only[zCM hk0,Bool.and_false,qz2,yA];rfl
  unfold zm9;unfold zb1;simp only[zH,zt,zC,zI,zT,zG,zF,zD,qz1,zao,yN,yB];refine .assoc (.is (sign_eq ok rfl) (λh=>?_) λh=>?_)
  ·simp only[yO,qz2,yA,zoY ok h0 rfl h,qz1];exact .gt' (ok.tail (zam h)) (by rw[yM]) (by show _=_;rw[List.append_nil];rfl)
  ·simp only[yN,yB,zd6 ok (s:=[100,101,102,97,117,108,116]) rfl,qz1,Bool.not_not];rw[Bool.and_comm];cases hd:o&&tIs [100,101,102,97,117,108,116] (L.map tk)with
   |true=>
    simp only[yB];rw[qz4]at hd;rw[<-yM];exact .assoc (.tak ok h0 (zam hd.2) λa _ _ ok1=>j2 false (nd 42 []) _ ok1)
   |false=>
    simp only[qz2,yA];refine .assoc (.zPq ok h0 rfl (by simp only[B.comma false ok,qz1];exact b2 (!o) _ L ok) λL2 ok2 _=>?_)
    exact .assoc (.e (S.comma false L2 ok2) (λv L' ok _=>b2 (!o) v L' ok) λx L3 ok3 _=>j2 o x L3 ok3)
theorem zNV(ok:TX L0 L):DN L0 ((RS (M+1)).zc5 (ps L0 L false)) (((pG n).head (L.map tk)).bd λx=>(zbi [123] x.2).bn λt=>((pG n).cases true t).bd λl=>gt (nd 36 (x.1::l.1),l.2)):=by
 have S:=H n (yJ _) M (by omega);show DN _ (zfc (RS M) (ps L0 L false)) _;unfold zfc;simp only[zH,zt,zC,zI,zT,zG,zF,zD,qz1];refine .e (S.head L ok) (λv L' ok _=>by simp only[zH,zt,zC,zao,zab,zah,zai,zJ,zK,zW,zaq,zX,zT,zG,zF,zD,qz1,yO,yN,Bool.false_and,Bool.true_and,Bool.and_false,Bool.or_true,Bool.or_false,Bool.false_or,Bool.true_or,qz2,yA,yB,zI];exact .zvd (zCx _ _ _) trivial) λx L1 ok1 _=>?_
 refine .need ok1 h0 rfl (.zvd (zCx _ _ _) trivial) λL2 ok2 _=>?_
 exact(DR.loop (zJ7 H hn (by omega) h0 n 1000000000000 (yJ _) (by omega) true [x] L2 (by simp;omega) ok2) (yJ _)).up (O2:=Ee) (φ:=λv=>nd 36 (x::v)) (λ_ h=>h) (by rintro v' _ rfl;rfl)
omit H hn hM in
theorem zKJ(k:Int)(ok:TX L0 L):DN L0 (zeO k (ps L0 L false)) (zse k (L.map tk)):=by
 obtain⟨x,r,rfl⟩:=ok.cons;have k1:=ze4 ok 1;rw[show((1:Nat):Int)=1 from rfl]at k1;have hf:x.Fresh=zgm ((x::r).map tk):=rfl;unfold zeO zse;simp only[zH,zt,zC,zI,zT,zG,zF,zD,qz1,zdl ok,k1,hf];cases h1:zak ((x::r).map tk)==1 with
 |false=>
  simp only[qz2,yA,Bool.false_and];exact .end ok h0 (.ok trivial) λL3 ok3=> .gt ok3 rfl
 |true=>
  simp only[yB,Bool.true_and];cases h2:zgm ((x::r).map tk)with
  |true=>
   simp only[yO,qz2,yA];exact .end ok h0 (.ok trivial) λL3 ok3=> .gt ok3 rfl
  |false=>
   simp only[yN,yB];rw[<-yM];refine .tak ok h0 (zbu h1 (by decide)) λa ha _ ok2=>?_
   exact .end ok2 h0 (.ok trivial) λL3 ok3=> .gt ok3 (by simp only[ha];rfl)
theorem zJi(f:Bool): ∀(k m:Nat),k<=n+1->k+1<=m->∀(l:List Node) (L:List zl),l.length+k<=n+1->TX L0 L->
  DR L0 (λl:List Node=>l.length<=20000000000) (λv' v=>v=l++v') (zaH (zb4 (RS M)) m (f,ps L0 L false,l,())) ((pG k).stmts f (L.map tk))
 |0,m,_,_,l,L,_,ok=>trivial
 |k+1,0,_,hm,l,L,_,ok=>by omega
 |k+1,m+1,hk,hm,l,L,hl,ok=>by
  have S:=H k (by omega) M (by omega);have ih:=λl L hl ok=>zJi f k m (by omega) (by omega) l L hl ok
  obtain⟨j,rfl⟩: ∃j,m=j+1:=⟨m -1,by omega⟩
  have hw: ∀(x:Node) L',TX L0 L'->Bd L0 (λl:List Node=>l.length<=20000000000) L' (zaH (zb4 (RS M)) (j+1) (f,ps L0 L' true,l++[x],())):=λx L' _=>
   .out (by unfold zb4;simp only[zH,zt,zC,zao,zab,zah,zai,zJ,zK,zW,zaq,zX,zT,zG,zF,zD,qz1,yO,yN,Bool.false_and,Bool.true_and,Bool.and_false,Bool.or_true,Bool.or_false,Bool.false_or,Bool.true_or,qz2,yA,yB,zI];rfl) (by rw[qz5];simp only[qz3,qz6];omega)
  show DR _ _ _ _ (znH (pG k) f (L.map tk));rw[zcO];generalize zaH (zb4 (RS M)) (j+1)=W at ih hw⊢
  have bad1: ∀v L',TX L0 L'->Bd L0 (λl:List Node=>l.length<=20000000000) L' (((room (l.length+1)).bind λ_=>some (Sum.inl (f,ps L0 L' true,l++[v],()))).bind (zkX W)):=λv L' ok=>by
   rw[zcQ (by omega)];exact hw v L' ok
  have go: ∀(y:Node) (L3:List zl),TX L0 L3->DR L0 (λl:List Node=>l.length<=20000000000) (λv' v=>v=l++v') (((room (l.length+1)).bind λ_=>some (Sum.inl (f,ps L0 L3 false,l++[y],()))).bind (zkX W)) (((pG k).stmts f (L3.map tk)).bd λq=>gt (y::q.1,q.2)):=λy L3 ok3=>by
   rw[zcQ (by omega)];exact(ih (l++[y]) L3 (by rw[qz5];simp only[qz3,qz6];omega) ok3).up (O2:=λv' v=>v=l++v') (φ:=λv=>y::v) (λ_ h=>h) (by rintro v' _ rfl;simp)
  unfold znH;unfold zb4;obtain⟨x,r,rfl⟩:=ok.cons;have k0:=ze4 ok 0;rw[show((0:Nat):Int)=0 from rfl]at k0;simp only[zH,zt,zC,zI,zT,zG,zF,zD,qz1,zao,yN,yB,sign_eq ok (s:=[125]) rfl,zdl ok,bne,k0,zd6 ok (s:=[102,117,110,99,116,105,111,110]) rfl,qz3,qz6,Nat.zero_add]
  have st:DR L0 (λl:List Node=>l.length<=20000000000) (λv' v=>v=l++v') ((((RS M).zaO (ps L0 (x::r) false)).bind λr_10=>(room (l.length+1)).bind λ_=>some (Sum.inl (f,r_10.2.1,l++[r_10.1],()))).bind (zkX W)) (((pG k).stmt ((x::r).map tk)).bd λx=>((pG k).stmts f x.2).bd λl=>gt (x.1::l.1,l.2)):=
   .assoc (.e (S.stmt _ ok) (λv L' ok _=>bad1 v L' ok) λy L3 ok3 _=>go y L3 ok3)
  cases e1:tIs [125] ((x::r).map tk)with
  |true=>
   simp only[yO,qz2,yA,Bool.true_or,yB];exact .gt ok (by simp)
  |false=>
   simp only[yN,yB,Bool.false_or];cases e2:zak ((x::r).map tk)==0 with
   |true=>
    simp only[yO,qz2,yA,yB];exact .gt ok (by simp)
   |false=>
    simp only[yN,yB,qz2,yA];cases f with
    |false=>
     simp only[Bool.false_and,qz2,yA];exact st
    |true=>
     simp only[Bool.true_and,yB];cases e3:tIs [102,117,110,99,116,105,111,110] ((x::r).map tk)with
     |false=>
      simp only[qz2,yA];exact st
     |true=>
      simp only[yB];rw[<-yM];refine .assoc (.tak ok h0 (zam e3) λa _ _ ok1=>?_);exact .assoc (.e (S.func 39 _ ok1) (λv L' ok _=>bad1 v L' ok) λy L3 ok3 _=>go y L3 ok3)
theorem zNq(f:Bool)(ok:TX L0 L):DL L0 (zdk (RS M) f (ps L0 L false)) (znH (pG n) f (L.map tk)):=by
 unfold zdk;simp only[zH,zt,zC,zI,zT,zG,zF,zD,qz1];have:=DR.loop (zJi H hn hM h0 f (n+1) 1000000000000 (yJ _) (by omega) [] L (by simp) ok) (yJ _);show DR _ _ _ _ ((pG (n+1)).stmts f (L.map tk));cases hq:(pG (n+1)).stmts f (L.map tk)with
 |none=>trivial
 |some p=>rw[hq]at this;cases p with
  |inl j=>exact this
  |inr p=>
   obtain⟨v,L',h1,h2,h3,h4⟩:=this;exact⟨v,L',h1,h2,h3,h4.symm⟩
end
def kwF(g:PG)(t:zal)(Z:PR Node):PR Node:=
 if tIs [118,97,114] t=true then(g.vars false t.tail).bd λl=>(zjl l.2).bn λt=>gt (nd 22 l.1,t)
 else if tIs [105,102] t=true then(g.head t.tail).bd λx=>(g.stmt x.2).bd λb=>if tIs [101,108,115,101] b.2=true then(g.stmt b.2.tail).bd λc=>gt (nd 26 [x.1,zeN b.1,zeN c.1],c.2)else gt (nd 26 [x.1,zeN b.1],b.2)
 else if tIs [119,104,105,108,101] t=true then(g.head t.tail).bd λx=>(g.stmt x.2).bd λb=>gt (nd 27 [x.1,zeN b.1],b.2)
 else if tIs [100,111] t=true then(g.stmt t.tail).bd λb=>(zbi [119,104,105,108,101] b.2).bn λt=>(g.head t).bd λx=>(zjl x.2).bn λt=>gt (nd 28 [zeN b.1,x.1],t)
 else if tIs [102,111,114] t=true then g.loop t.tail
 else if tIs [98,114,101,97,107] t=true then zse 31 t.tail
 else if tIs [99,111,110,116,105,110,117,101] t=true then zse 32 t.tail
 else if tIs [114,101,116,117,114,110] t=true then(if(!tIs [59] t.tail&& !zj2 t.tail)=true then(g.expr false t.tail).bd λx=>(zjl x.2).bn λt=>gt (nd 33 [x.1],t)else(zjl t.tail).bn λt=>gt (nd 33 [],t))
 else if tIs [116,104,114,111,119] t=true then(if zgm t.tail=true then bad t.tail else(g.expr false t.tail).bd λx=>(zjl x.2).bn λt=>gt (nd 34 [x.1],t))
 else if tIs [116,114,121] t=true then zwQ g t.tail
 else if tIs [115,119,105,116,99,104] t=true then(g.head t.tail).bd λx=>(zbi [123] x.2).bn λt=>(g.cases true t).bd λl=>gt (nd 36 (x.1::l.1),l.2)
 else Z
theorem zRF(g:PG)(t:zal):zsd g t=kwF g t (if tIs [102,117,110,99,116,105,111,110] t=true then bad t else if tIs [123] t=true then g.block t else if tIs [59] t=true then gt (nd 40 [],t.tail)else
  if(zak t==1&&tIs [58] t.tail)=true then(g.stmt t.tail.tail).bd λx=>gt (ndN 38 (tText t) [x.1],x.2)else(g.expr false t).bd λx=>(zjl x.2).bn λt=>gt (nd 24 [x.1],t)):=by
 unfold zsd kwF;cases h:tIs [123] t with
 |true=>
  have k:=λ(w:Str) (hw:(([123]:Str)==w)=false)=>zPv h hw
  simp only[k [118,97,114] rfl,k [105,102] rfl,k [119,104,105,108,101] rfl,k [100,111] rfl,k [102,111,114] rfl,k [98,114,101,97,107] rfl,k [99,111,110,116,105,110,117,101] rfl,k [114,101,116,117,114,110] rfl,k [116,104,114,111,119] rfl,k [116,114,121] rfl,k [115,119,105,116,99,104] rfl,k [102,117,110,99,116,105,111,110] rfl,yB,qz2,yA]
 |false=>
  cases h2:tIs [59] t with
  |true=>
   have k:=λ(w:Str) (hw:(([59]:Str)==w)=false)=>zPv h2 hw
   simp only[k [118,97,114] rfl,k [105,102] rfl,k [119,104,105,108,101] rfl,k [100,111] rfl,k [102,111,114] rfl,k [98,114,101,97,107] rfl,k [99,111,110,116,105,110,117,101] rfl,k [114,101,116,117,114,110] rfl,k [116,104,114,111,119] rfl,k [116,114,121] rfl,k [115,119,105,116,99,104] rfl,k [102,117,110,99,116,105,111,110] rfl,yB,qz2,yA]
  |false=>simp only[qz2,yA]
section
variable {L0 L:List zl} {n M:Nat} (H: ∀k,k<=n->∀N,20*k+20<=N->DS L0 (RS N) (pG k)) (hn:n<=10000000000) (hM:20*n+30<=M) (h0:L0.length<=10000000000)
 {f:Node×Bool×TP×Unit->Option (Node×TP×Unit)} (hf: ∀v s,f (v,true,s,())=some (v,s,()))
include hf in
theorem DR.nf{v v':Node}(ok:TX L0 L)(h:v'=v):DN L0 ((some (v,true,ps L0 L false,())).bind f) (Go.D08.gt (v',L.map tk)):=by
 rw[qz1,hf];exact DR.gt ok h
include hf in
theorem Bd.nf{v:Node}:Bd L0 (Tt:Node->Prop) L ((some (v,true,ps L0 L true,())).bind f):=by
 rw[qz1,hf];exact .ok trivial
include hf in
theorem DR.nfs{m:Option (Node×TP×Unit)}{q:PR Node}(h:DN L0 m q):DN L0 ((m.bind λr=>some (r.1,true,r.2.1,())).bind f) q:=by
 refine .assoc (h.same (λv L' ok _=>Bd.nf hf) λv' v L' ok e=>⟨v,?_,e⟩);rw[qz1,hf]
include H hn hM h0 hf
theorem zTC(ok:TX L0 L):DN L0 ((((RS (M+1)).za0 (ps L0 L false)).bind λr_7=>((RS (M+1)).zaN r_7.2.1).bind λr_12=>(room ([r_7.1].length+[r_12.1].length)).bind λ_=>zcB (RS (M+1)) r_12.2.1 0 [] 0 [] 26 [] 0 [] [] [] [] ([r_7.1]++[r_12.1])).bind f)
  (((pG n).head (L.map tk)).bd λx=>((pG n).stmt x.2).bd λb=>if tIs [101,108,115,101] b.2=true then((pG n).stmt b.2.tail).bd λc=>gt (nd 26 [x.1,zeN b.1,zeN c.1],c.2)else gt (nd 26 [x.1,zeN b.1],b.2)):=by
 have B:=znC L0 (M:=M+1) (by omega);have S:=H n (yJ _) (M+1) (by omega)
 have b1: ∀(x v:Node) L,TX L0 L->Bd L0 (Tt:Node->Prop) L (((room ([x].length+[v].length)).bind λ_=>zcB (RS (M+1)) (ps L0 L true) 0 [] 0 [] 26 [] 0 [] [] [] [] ([x]++[v])).bind f):=λx v L ok=>by
  unfold zcB;rw[zcQ (by simp)];simp only[zH,zt,zC,zao,zab,zah,zai,zJ,zK,zW,zaq,zX,zT,zG,zF,zD,qz1,yO,yN,Bool.false_and,Bool.true_and,Bool.and_false,Bool.or_true,Bool.or_false,Bool.false_or,Bool.true_or,qz2,yA,yB,zI];exact(hf _ _).symm▸ .ok trivial
 refine .assoc (.e (S.head L ok) (λv L' ok _=>by simp only[B.body ok,qz1];exact b1 _ _ _ ok) λx L1 ok1 _=>?_)
 refine .assoc (.bd (zut H hn hM h0 ok1) (λv L' ok _=>b1 _ _ _ ok) λb v L2 ok2 _ e=>?_);subst e;unfold zcB zhg zg6;simp only[zH,zt,zC,zI,zT,zG,zF,zD,qz1];rw[zcQ (by simp),qz1];refine .assoc (.is (zd6 ok2 rfl) (λh=>?_) λh=>?_)
 ·simp only[yB];rw[<-yM];refine .assoc (.tak ok2 h0 (zam h) λa _ _ ok3=>?_);refine .assoc (.bd (zut H hn hM h0 ok3) (λv L' ok _=>?_) λc v L4 ok4 _ e=>?_)
  ·rw[zcQ (by simp)];exact Bd.nf hf
  ·subst e;rw[zcQ (by simp)];exact DR.nf hf ok4 rfl
 ·simp only[qz2,yA];exact DR.nf hf ok2 rfl
theorem zNR(Z:PR Node)(ok:TX L0 L)(hZ:DN L0 (f (nd 0 [],false,ps L0 L false,())) Z):DN L0 ((zcg (RS (M+1)) (ps L0 L false)).bind f) (kwF (pG n) (L.map tk) Z):=by
 have S:=H n (yJ _) (M+1) (by omega);have B:=znC L0 (M:=M+1) (by omega);obtain⟨x,r,rfl⟩:=ok.cons;have k2:=ze4 ok 2;rw[show((2:Nat):Int)=2 from rfl]at k2;unfold zcg;simp only[zH,zt,zC,zI,zT,zG,zF,zD,qz1,zao,qz2,yA,zdl ok,bne];cases h2:x.Kind==2 with
 |false=>
  have k: ∀w,zD4 w=true->tIs w ((x::r).map tk)=false:=λw hw=>by rw[<-zus ok hw,h2];rfl
  unfold kwF;simp only[k [118,97,114] rfl,k [105,102] rfl,k [119,104,105,108,101] rfl,k [100,111] rfl,k [102,111,114] rfl,k [98,114,101,97,107] rfl,k [99,111,110,116,105,110,117,101] rfl,k [114,101,116,117,114,110] rfl,k [116,104,114,111,119] rfl,k [116,114,121] rfl,k [115,119,105,116,99,104] rfl,qz2,yA,yN,yB,qz1];exact hZ
 |true=>
  have k: ∀w,zD4 w=true->(x.Text==w)=tIs w ((x::r).map tk):=λw hw=>by rw[<-zus ok hw,h2,Bool.true_and]
  have hk:zak ((x::r).map tk)≠0:=zbu (k2.symm.trans h2) (by decide);have ok1:TX L0 r:=ok.tail hk;have e2:x.Kind≠0:=by rw[eq_of_beq h2];decide
  have tl:((x::r).map tk).tail=r.map tk:=rfl;have hlen:=ok.len;simp only[qz3]at hlen
  have back:(⟨(ps L0 r false).t,IntKind.wrap .i64 ((ps L0 r false).at_ -1),(ps L0 r false).bad⟩:TP)=ps L0 (x::r) false:=by
   unfold ps;simp only[qz3];rw[wrap_i64 (by omega) (by omega)];congr 1;omega
  simp only[yO,qz2,yA,zB5 ok h0 e2,zH,zt,zC,zI,zT,zG,zF,zD,qz1,k [118,97,114] rfl,k [105,102] rfl,k [119,104,105,108,101] rfl,k [100,111] rfl,k [102,111,114] rfl,k [98,114,101,97,107] rfl,k [99,111,110,116,105,110,117,101] rfl,k [114,101,116,117,114,110] rfl,k [116,104,114,111,119] rfl,k [116,114,121] rfl,k [115,119,105,116,99,104] rfl,back];unfold kwF;rw[tl];cases tIs [118,97,114] ((x::r).map tk)with
  |true=>
   simp only[yB];refine .assoc (.bd (S.vars false _ ok1) (λv L' ok _=>by simp only[zH,zt,zC,zao,zab,zah,zai,zJ,zK,zW,zaq,zX,zT,zG,zF,zD,qz1,yO,yN,Bool.false_and,Bool.true_and,Bool.and_false,Bool.or_true,Bool.or_false,Bool.false_or,Bool.true_or,qz2,yA,yB,zI,hf];exact .ok trivial) λl v L2 ok2 _ e=>?_)
   exact .assoc (.end ok2 h0 (Bd.nf hf) λL3 ok3=>DR.nf hf ok3 e.symm)
  |false=>
  simp only[qz2,yA];cases tIs [105,102] ((x::r).map tk)with
  |true=>exact zTC H hn hM h0 hf ok1
  |false=>
  simp only[qz2,yA];cases tIs [119,104,105,108,101] ((x::r).map tk)with
  |true=>
   simp only[yB];refine .assoc (.e (S.head _ ok1) (λv L' ok _=>?_) λy L2 ok2 _=>?_)
   ·simp only[B.body ok,qz1];rw[zcQ (by simp)];exact Bd.nf hf
   ·refine .assoc (.bd (zut H hn hM h0 ok2) (λv L' ok _=>?_) λb v L3 ok3 _ e=>?_)
    ·rw[zcQ (by simp)];exact Bd.nf hf
    ·subst e;rw[zcQ (by simp)];exact DR.nf hf ok3 rfl
  |false=>
  simp only[qz2,yA];cases tIs [100,111] ((x::r).map tk)with
  |true=>
   simp only[yB];refine .assoc (.bd (zut H hn hM h0 ok1) (λv L' ok _=>?_) λb v L2 ok2 _ e=>?_)
   ·simp only[zH,zt,zC,zao,zab,zah,zai,zJ,zK,zW,zaq,zX,zT,zG,zF,zD,qz1,yO,yN,Bool.false_and,Bool.true_and,Bool.and_false,Bool.or_true,Bool.or_false,Bool.false_or,Bool.true_or,qz2,yA,yB,zI,B.head ok];rw[zcQ (by simp)];exact Bd.nf hf
   ·subst e;refine .assoc (.zPq ok2 h0 rfl ?_ λL3 ok3 _=>?_)
    ·simp only[zH,zt,zC,zao,zab,zah,zai,zJ,zK,zW,zaq,zX,zT,zG,zF,zD,qz1,yO,yN,Bool.false_and,Bool.true_and,Bool.and_false,Bool.or_true,Bool.or_false,Bool.false_or,Bool.true_or,qz2,yA,yB,zI,B.head ok2];rw[zcQ (by simp)];exact Bd.nf hf
    ·refine .assoc (.e (S.head _ ok3) (λv L' ok _=>?_) λy L4 ok4 _=>?_)
     ·rw[zcQ (by simp)];simp only[zH,zt,zC,zao,zab,zah,zai,zJ,zK,zW,zaq,zX,zT,zG,zF,zD,qz1,yO,yN,Bool.false_and,Bool.true_and,Bool.and_false,Bool.or_true,Bool.or_false,Bool.false_or,Bool.true_or,qz2,yA,yB,zI,hf];exact .ok trivial
     ·simp only;rw[zcQ (by simp),qz1];exact .assoc (.end ok4 h0 (Bd.nf hf) λL5 ok5=>DR.nf hf ok5 rfl)
  |false=>
  simp only[qz2,yA];cases tIs [102,111,114] ((x::r).map tk)with
  |true=>exact DR.nfs hf (S.loop _ ok1)
  |false=>
  simp only[qz2,yA];cases tIs [98,114,101,97,107] ((x::r).map tk)with
  |true=>exact DR.nfs hf (zKJ h0 31 ok1)
  |false=>
  simp only[qz2,yA];cases tIs [99,111,110,116,105,110,117,101] ((x::r).map tk)with
  |true=>exact DR.nfs hf (zKJ h0 32 ok1)
  |false=>
  simp only[qz2,yA];cases tIs [114,101,116,117,114,110] ((x::r).map tk)with
  |true=>
   simp only[yB,sign_eq ok1 (s:=[59]) rfl,zEN ok1,zH,zt,zC,zI,zT,zG,zF,zD,qz1]
   have e:DN L0 (((zaB (ps L0 r false)).bind λr_47=>some ((⟨33,[],0,[],[],[]⟩:Node),true,r_47.1,())).bind f) ((zjl (r.map tk)).bn λt=>gt (nd 33 [],t)):=
    .assoc (.end ok1 h0 (Bd.nf hf) λL3 ok3=>DR.nf hf ok3 rfl)
   cases tIs [59] (r.map tk)with
   |true=>simp only[yO,Bool.false_and,qz2,yA];exact e
   |false=>
    cases zj2 (r.map tk)with
    |true=>simp only[yO,yN,Bool.and_false,qz2,yA,yB];exact e
    |false=>
     simp only[yN,Bool.and_self,yB];refine .assoc (.e (S.comma false _ ok1) (λv L' ok _=>by simp only[zH,zt,zC,zao,zab,zah,zai,zJ,zK,zW,zaq,zX,zT,zG,zF,zD,qz1,yO,yN,Bool.false_and,Bool.true_and,Bool.and_false,Bool.or_true,Bool.or_false,Bool.false_or,Bool.true_or,qz2,yA,yB,zI,hf];exact .ok trivial) λy L2 ok2 _=>?_)
     exact .assoc (.end ok2 h0 (Bd.nf hf) λL3 ok3=>DR.nf hf ok3 rfl)
  |false=>
  simp only[qz2,yA];cases tIs [116,104,114,111,119] ((x::r).map tk)with
  |true=>
   simp only[yB];obtain⟨y,r2,rfl⟩:=ok1.cons;have hfr:y.Fresh=zgm ((y::r2).map tk):=rfl;simp only[zdl ok1,zH,zt,zC,zI,zT,zG,zF,zD,qz1,hfr];cases zgm ((y::r2).map tk)with
   |true=>
    simp only[yB];exact .bad ok1 (by simp only[zH,zt,zC,zao,zab,zah,zai,zJ,zK,zW,zaq,zX,zT,zG,zF,zD,qz1,yO,yN,Bool.false_and,Bool.true_and,Bool.and_false,Bool.or_true,Bool.or_false,Bool.false_or,Bool.true_or,qz2,yA,yB,zI,B.comma false ok1,hf];exact .ok trivial)
   |false=>
    simp only[qz2,yA];refine .assoc (.e (S.comma false _ ok1) (λv L' ok _=>by simp only[zH,zt,zC,zao,zab,zah,zai,zJ,zK,zW,zaq,zX,zT,zG,zF,zD,qz1,yO,yN,Bool.false_and,Bool.true_and,Bool.and_false,Bool.or_true,Bool.or_false,Bool.false_or,Bool.true_or,qz2,yA,yB,zI,hf];exact .ok trivial) λy L2 ok2 _=>?_)
    exact .assoc (.end ok2 h0 (Bd.nf hf) λL3 ok3=>DR.nf hf ok3 rfl)
  |false=>
  simp only[qz2,yA];cases tIs [116,114,121] ((x::r).map tk)with
  |true=>exact DR.nfs hf (zSk H hn hM h0 ok1)
  |false=>
  simp only[qz2,yA];cases tIs [115,119,105,116,99,104] ((x::r).map tk)with
  |true=>exact DR.nfs hf (zNV H hn hM h0 ok1)
  |false=>
   simp only[qz2,yA,qz1];exact hZ
end
section
variable {L0 L:List zl} {n M:Nat} (H: ∀k,k<=n->∀N,20*k+20<=N->DS L0 (RS N) (pG k)) (hn:n<=10000000000) (hM:20*n+30<=M) (h0:L0.length<=10000000000)
include H hn hM h0
theorem zRH(ok:TX L0 L):DN L0 (zcp (RS (M+2)) (ps L0 L false)) (zsd (pG n) (L.map tk)):=by
 have S:=H n (yJ _) (M+2) (by omega);have B:=znC L0 (M:=M+2) (by omega);rw[zRF];unfold zcp;refine zNR H hn hM h0 (λv s=>by simp only[zH,zt,zC,zI,zT,zG,zF,zD,qz1,Bool.true_or,yB]) _ ok ?_
 have ex:DN L0 (((RS (M+2)).zac false (ps L0 L false)).bind λr_62=>(zaB r_62.2.1).bind λr_64=>some ((⟨24,[],0,[],[],[r_62.1]⟩:Node),r_64.1,())) (((pG n).expr false (L.map tk)).bd λx=>(zjl x.2).bn λt=>gt (nd 24 [x.1],t)):=by
  refine .e (S.comma false _ ok) (λv L' ok _=>by simp only[zH,zt,zC,zao,zab,zah,zai,zJ,zK,zW,zaq,zX,zT,zG,zF,zD,qz1,yO,yN,Bool.false_and,Bool.true_and,Bool.and_false,Bool.or_true,Bool.or_false,Bool.false_or,Bool.true_or,qz2,yA,yB,zI];exact .ok trivial) λy L2 ok2 _=>?_
  exact .end ok2 h0 (.ok trivial) λL3 ok3=> .gt ok3 rfl
 obtain⟨x,r,rfl⟩:=ok.cons;have k1:=ze4 ok 1;rw[show((1:Nat):Int)=1 from rfl]at k1;simp only[zH,zt,zC,zI,zT,zG,zF,zD,qz1,zao,Bool.or_self,qz2,yA,zd6 ok (s:=[102,117,110,99,116,105,111,110]) rfl,sign_eq ok (s:=[123]) rfl,sign_eq ok (s:=[59]) rfl,zdl ok,k1];cases tIs [102,117,110,99,116,105,111,110] ((x::r).map tk)with
 |true=>
  simp only[yB];exact .bad ok (by simp only[zH,zt,zC,zao,zab,zah,zai,zJ,zK,zW,zaq,zX,zT,zG,zF,zD,qz1,yO,yN,Bool.false_and,Bool.true_and,Bool.and_false,Bool.or_true,Bool.or_false,Bool.false_or,Bool.true_or,qz2,yA,yB,zI];exact .ok trivial)
 |false=>
 simp only[qz2,yA];cases tIs [123] ((x::r).map tk)with
 |true=>
  simp only[yB];exact(S.block _ ok).same (λv L' ok _=> .ok trivial) λv' v L' ok e=>⟨_,rfl,e⟩
 |false=>
 simp only[qz2,yA];cases h59:tIs [59] ((x::r).map tk)with
 |true=>
  simp only[yB];rw[<-yM];exact .tak ok h0 (zam h59) λa _ _ ok1=> .gt ok1 rfl
 |false=>
 simp only[qz2,yA];cases h1:zak ((x::r).map tk)==1 with
 |false=>
  simp only[Bool.false_and,qz2,yA];exact ex
 |true=>
  simp only[Bool.true_and,yB];have ok1:TX L0 r:=ok.tail (zbu h1 (by decide));have hlen:=ok.len;simp only[qz3]at hlen;obtain⟨y,r2,rfl⟩:=ok1.cons
  have w:IntKind.wrap .i64 ((ps L0 (x::y::r2) false).at_+1)=((L0.length - (y::r2).length:Nat):Int):=by
   rw[zTJ];simp only[qz3]at hlen⊢;rw[wrap_i64 (by omega) (by omega)];omega
  have hs:=zKa ok1 (s:=[58]) rfl;have tl:((x::y::r2).map tk).tail=(y::r2).map tk:=rfl;simp only[w,zT6,ok1.at_,qz1];rw[tl,<-hs];cases h5:y.Kind==5 with
  |false=>
   simp only[Bool.false_and,qz2,yA];exact ex
  |true=>
   simp only[Bool.true_and,yB];cases h58:y.Text==([58]:Str)with
   |false=>
    simp only[qz2,yA];exact ex
   |true=>
    simp only[yB];refine .tak ok h0 (zbu h1 (by decide)) λa ha _ ok2=>?_
    have h58':zak ((y::r2).map tk)≠0:=zam (s:=[58]) (by rw[<-hs,h5,h58];rfl)
    rw[<-yM];refine .tak ok2 h0 h58' λb _ _ ok3=>?_
    exact .e (S.stmt _ ok3) (λv L' ok _=> .ok trivial) λv L4 ok4 _=> .gt ok4 (by rw[ha])
end
structure TkG (a:Tok):Prop where
 name:a.kind=1->zd7 a.text=true
 word:a.kind=2->zqy a.text=true
 num:a.kind=3->0<=a.num/\a.num<=9007199254740991
 str:a.kind=4->zcj a.text=true
def GT(t:zal):Prop:=∀a∈t,TkG a
theorem GT.tail{t:zal}(h:GT t):GT t.tail:=λa ha=>h a (List.mem_of_mem_tail ha)
def wT:zal->Nat
 | []=>0
 |a::r=>100+3*a.text.length+wT r
theorem zbt{t:zal}(h:zak t≠0):wT t=100+3*(tText t).length+wT t.tail:=by
 cases t with
 |nil=>exact absurd rfl h
 |cons a r=>rfl
theorem GT.name{t:zal}(h:GT t)(hk:(zak t==1)=true):zd7 (tText t)=true:=by
 cases t with
 |nil=>cases hk
 |cons a r=>exact(h a qz7).name (eq_of_beq hk)
theorem GT.ident{t:zal}(h:GT t)(hk:(zak t==1||zak t==2)=true):zqy (tText t)=true:=by
 rw[yQ]at hk;rcases hk with hk|hk
 ·have:=h.name hk;unfold zd7 at this;rw[qz4]at this;exact this.1
 ·cases t with
  |nil=>cases hk
  |cons a r=>exact(h a qz7).word (eq_of_beq hk)
def Pm{α:Type}(P:α->zal->Prop)(x:PR α):Prop:=match x with|some (.inr q)=>GT q.2/\P q.1 q.2|_=>True
theorem Pm.bd{α β:Type}{P:α->zal->Prop}{Q:β->zal->Prop}{x:PR α}{f:α×zal->PR β}(h:Pm P x)(k: ∀q:α×zal,GT q.2->P q.1 q.2->Pm Q (f q)):Pm Q (x.bd f):=by
 cases x with
 |none=>trivial
 |some p=>
  cases p with
  |inl j=>trivial
  |inr q=>exact k q h.1 h.2
theorem Pm.bn{β:Type}{P:Unit->zal->Prop}{Q:β->zal->Prop}{x:PR Unit}{f:zal->PR β}(h:Pm P x)(k: ∀t,GT t->P () t->Pm Q (f t)):Pm Q (x.bn f):=Pm.bd h λq g p=>k q.2 g p
theorem Pm.ite{α:Type}{P:α->zal->Prop}{c:Prop}[Decidable c]{a b:PR α}(h:c->Pm P a)(k: ¬c->Pm P b):Pm P (if c then a else b):=by
 by_cases hc:c
 ·rw[yL hc];exact h hc
 ·rw[yK hc];exact k hc
theorem Pm.up{α:Type}{P Q:α->zal->Prop}{x:PR α}(h:Pm P x)(k: ∀v t,P v t->Q v t):Pm Q x:=by
 cases x with
 |none=>trivial
 |some p=>
  cases p with
  |inl j=>trivial
  |inr q=>exact⟨h.1,k _ _ h.2⟩
theorem Pm.need{t:zal}(g:GT t)(s:Str):Pm (λ_ t'=>wT t'+100<=wT t) (zbi s t):=
 .ite (λc=>⟨g.tail,by have:=zbt (zam c);show wT t.tail+100<=_;omega⟩) λ_=>trivial
theorem Pm.end{t:zal}(g:GT t):Pm (λ_ t'=>wT t'<=wT t) (zjl t):=
 .ite (λc=>⟨g.tail,by have:=zbt (zam c);show wT t.tail<=_;omega⟩) λ_=> .ite (λ_=>⟨g,yJ _⟩) λ_=>trivial
/-! ### what is made may be -/
theorem zTG{n:Int}(h:0<=n/\n<=9007199254740991):zY ⟨1,[],n,[],[],[]⟩ 101=true:=by
 unfold zY;rw[zTW rfl];simp[zbj,zaA,zbq,zcj,zaI,h];rfl
theorem zTS{s:Str}(h:zcj s=true):zY ⟨2,[],0,s,[],[]⟩ 101=true:=by
 unfold zY;rw[zTH rfl];simp[zbj,zaA,zbq,zaI,h];rfl
theorem zSE{s:Str}(h:zd7 s=true):zY (ndN 3 s []) 101=true:=by
 unfold zY;rw[zTE rfl];simp[zbj,zaA,zbq,zcj,zaI,ndN,h];rfl
theorem zSR:zY (nd 4 []) 101=true:=by decide+kernel
theorem zSm:zY (nd 5 []) 101=true:=by decide+kernel
theorem zPB:zY (nd 6 []) 101=true:=by decide+kernel
theorem zS7:zY ⟨6,[],1,[],[],[]⟩ 101=true:=by decide+kernel
theorem zRb{l:List Node}(h: ∀y∈l,zY y 101=true):zY (nd 7 l) 101=true:=by
 unfold zY;rw[zTn rfl];simp[zbj,zaA,zbq,zcj,zaI,nd];exact⟨rfl,h⟩
theorem zNI{l:List Node}(h: ∀y∈l,zY y 112=true):zY (nd 8 l) 101=true:=by
 unfold zY;rw[zTr rfl];simp[zbj,zaA,zbq,zcj,zaI,nd];exact⟨rfl,h⟩
theorem zM3{k:Str}{x:Node}(hk:zcj k=true)(h:zY x 101=true):zY ⟨9,[],0,k,[],[x]⟩ 112=true:=by
 unfold zY;rw[zTp rfl];simp[zbj,zaA,zbq,zaI,hk,h];rfl
theorem zSO{m:Str}{ns:List Str}{l:List Node}(hm:m=[]\/zd7 m=true)(hn: ∀s∈ns,zd7 s=true)(h: ∀y∈l,zY y 120=true):zY ⟨10,m,0,[],ns,l⟩ 101=true:=by
 unfold zY;rw[zS2 rfl];simp[zbj,zaA,zbq,zcj,zaI];exact⟨rfl,⟨hm,hn⟩,h⟩
theorem zSN{m:Str}{ns:List Str}{l:List Node}(hm:zd7 m=true)(hn: ∀s∈ns,zd7 s=true)(h: ∀y∈l,zY y 120=true):zY ⟨39,m,0,[],ns,l⟩ 120=true:=by
 unfold zY;rw[zSu rfl];simp[zbj,zaA,zbq,zcj,zaI];exact⟨rfl,⟨hm,hn⟩,h⟩
theorem zOO{s:Str}{x:Node}(hs:zqy s=true)(h:zY x 101=true):zY (ndN 11 s [x]) 101=true:=by
 unfold zY;rw[zS1 rfl];simp[zbj,zaA,zbq,zcj,zaI,ndN,hs,h];rfl
theorem zQe{x y:Node}(hx:zY x 101=true)(hy:zY y 101=true):zY (nd 12 [x,y]) 101=true:=by
 unfold zY;rw[zSS rfl];simp[zbj,zaA,zbq,zcj,zaI,nd,hx,hy];rfl
theorem zTi{x:Node}{l:List Node}(hx:zY x 101=true)(h: ∀y∈l,zY y 101=true):zY (nd 13 (x::l)) 101=true:=by
 unfold zY;rw[zR4 rfl];simp[zbj,zaA,zbq,zcj,zaI,nd,hx];exact⟨rfl,h⟩
theorem zPp{x:Node}{l:List Node}(hx:zY x 101=true)(h: ∀y∈l,zY y 101=true):zY (nd 14 (x::l)) 101=true:=by
 unfold zY;rw[zSt rfl];simp[zbj,zaA,zbq,zcj,zaI,nd,hx];exact⟨rfl,h⟩
theorem zRo{s:Str}{x:Node}(hs:zxa.contains s=true)(h:zY x 101=true):zY (ndN 15 s [x]) 101=true:=by
 have hs:zxa.contains s=true:=hs;unfold zY;rw[zTb rfl];simp only[zbj,zaA,zbq,zcj,zaI,ndN,h];rw[show(zxa.contains s)=true from hs];rfl
theorem zLV{x:Node}(h:zY x 101=true)(ht:zf1 x.Kind=true):zY x 116=true:=by
 unfold zY;rw[zmo h,Bool.and_true];exact ht
theorem zJn{s:Str}{n:Int}{x:Node}(hs:zkr.contains s=true)(hn:n=0\/n=1)(h:zY x 101=true)(ht:zf1 x.Kind=true):zY ⟨16,s,n,[],[],[x]⟩ 101=true:=by
 have hs:zkr.contains s=true:=hs;unfold zY;rw[zSB rfl];simp only[zbj,zaA,zbq,zcj,zaI,zLV h ht];rw[show(zkr.contains s)=true from hs];rcases hn with rfl|rfl<;>rfl
theorem zNX{no:Bool}{t:zal}{x y:Node}(hb:(zdB no t).1≠0)(hx:zY x 101=true)(hy:zY y 101=true):zY (ndN (zdB no t).2 (tText t) [x,y]) 101=true:=by
 cases t with
 |nil=>exact absurd rfl hb
 |cons a r=>
  have hb':(if opK a=true then lvS no a.text else(0,0)).1≠0:=hb;show zY (ndN (if opK a=true then lvS no a.text else(0,0)).2 a.text [x,y]) 101=true
  have b17: ∀s:Str,zAm.contains s=true->zY (ndN 17 s [x,y]) 101=true:=λs hs=>by
   unfold zY;rw[zTd rfl];simp only[zbj,zaA,zbq,zcj,zaI,ndN,hx,hy];rw[show(zAm.contains s)=true from hs];rfl
  have b18: ∀s:Str,zFb.contains s=true->zY (ndN 18 s [x,y]) 101=true:=λs hs=>by
   unfold zY;rw[zSG rfl];simp only[zbj,zaA,zbq,zcj,zaI,ndN,hx,hy];rw[show(zFb.contains s)=true from hs];rfl
  have sub: ∀(l:List Str),(∀w∈l,zAm.contains w=true)->∀s:Str,l.contains s=true->zAm.contains s=true:=λl hl s hs=>hl s (by simpa using hs)
  cases ho:opK a with
  |false=>rw[ho]at hb';exact absurd rfl hb'
  |true=>
   rw[ho]at hb';simp only[yB]at hb'⊢;unfold lvS at hb'⊢;split
   ·rename_i h;rw[eq_of_beq h];exact b18 _ (by decide)
   ·split
    ·rename_i h;rw[eq_of_beq h];exact b18 _ (by decide)
    ·split
     ·rename_i h;exact b17 _ (sub eqL (by decide) _ h)
     ·split
      ·rename_i h;rw[yQ]at h;rcases h with h|h
       ·exact b17 _ (sub ltL (by decide) _ h)
       ·rw[qz4]at h;rw[eq_of_beq h.2];exact b17 _ (by decide)
      ·split
       ·rename_i h;exact b17 _ (sub zrK (by decide) _ h)
       ·split
        ·rename_i h;exact b17 _ (sub mulL (by decide) _ h)
        ·rename_i h1 h2 h3 h4 h5 h6;rw[yK h1,yK h2,yK h3,yK h4,yK h5,yK h6]at hb';exact absurd rfl hb'
theorem zSb{x y z:Node}(hx:zY x 101=true)(hy:zY y 101=true)(hz:zY z 101=true):zY (nd 19 [x,y,z]) 101=true:=by
 unfold zY;rw[zSW rfl];simp[zbj,zaA,zbq,zcj,zaI,nd,hx,hy,hz];rfl
theorem zOC{s:Str}{x y:Node}(hs:zGu.contains s=true)(hx:zY x 101=true)(ht:zf1 x.Kind=true)(hy:zY y 101=true):zY (ndN 20 s [x,y]) 101=true:=by
 have hs:zGu.contains s=true:=hs;unfold zY;rw[zTk rfl];simp only[zbj,zaA,zbq,zcj,zaI,ndN,zLV hx ht,hy];rw[show(zGu.contains s)=true from hs];rfl
theorem zQt{x y:Node}(hx:zY x 101=true)(hy:zY y 101=true):zY (nd 21 [x,y]) 101=true:=by
 unfold zY;rw[zR3 rfl];simp[zbj,zaA,zbq,zcj,zaI,nd,hx,hy];rfl
theorem zAe{l:List Str}{t:zal}(h:zc3 l t=true):l.contains (tText t)=true:=by
 cases t with
 |nil=>cases h
 |cons a r=>
  have h:(opK a&&l.contains a.text)=true:=h;rw[qz4]at h;exact h.2
theorem bu(k:Int)(l:List Node):zbC (nd k l)=zcZ l+7:=by simp[nd,zbC]
theorem buN(k:Int)(s:Str)(l:List Node):zbC (ndN k s l)=s.length+zcZ l+7:=by simp[ndN,zbC]
theorem bl1(x:Node):zcZ [x]=zbC x:=by simp[zcZ]
theorem bl2(x y:Node):zcZ [x,y]=zbC x+zbC y:=by simp[zcZ]
theorem bl3(x y z:Node):zcZ [x,y,z]=zbC x+(zbC y+zbC z):=by simp[zcZ]
theorem bl4(x y z w:Node):zcZ [x,y,z,w]=zbC x+(zbC y+(zbC z+zbC w)):=by simp[zcZ]
theorem blc(x:Node)(l:List Node):zcZ (x::l)=zbC x+zcZ l:=rfl
theorem buF(k:Int)(m:Str)(ns:List Str)(l:List Node):zbC ⟨k,m,0,[],ns,l⟩=m.length+(ns.map λs=>s.length+1).sum+zcZ l+7:=by simp[zbC]
abbrev PE(M:Nat)(x:Node)(t':zal):Prop:=zY x 101=true/\zbC x+50+wT t'<=M
abbrev PO(c:UInt8)(k M:Nat)(x:Node)(t':zal):Prop:=zY x c=true/\zbC x+k+wT t'<=M
abbrev PL(c:UInt8)(M:Nat)(l:List Node)(t':zal):Prop:=(∀y∈l,zY y c=true)/\zcZ l+wT t'<=M
structure zPb (g:PG):Prop where
 expr: ∀a t,GT t->Pm (PE (wT t)) (g.expr a t)
 comma: ∀a x t M,GT t->zY x 101=true->zbC x+50+wT t<=M->Pm (PE M) (g.comma a x t)
 assign: ∀a t,GT t->Pm (PE (wT t)) (g.assign a t)
 binary: ∀a b t,GT t->Pm (PE (wT t)) (g.binary a b t)
 bins: ∀a b x t M,GT t->zY x 101=true->zbC x+50+wT t<=M->Pm (PE M) (g.bins a b x t)
 unary: ∀t,GT t->Pm (PE (wT t)) (g.unary t)
 mems: ∀a x t M,GT t->zY x 101=true->zbC x+50+wT t<=M->Pm (PE M) (g.mems a x t)
 made: ∀t,GT t->Pm (PE (wT t)) (g.made t)
 prim: ∀t,GT t->Pm (PE (wT t)) (g.prim t)
 exprs: ∀s b t,GT t->Pm (PL 101 (wT t)) (g.exprs s b t)
 props: ∀t,GT t->Pm (PL 112 (wT t)) (g.props t)
 func: ∀t,GT t->Pm (PE (wT t)) (g.func 10 t)/\Pm (PO 120 30 (wT t)) (g.func 39 t)
 vars: ∀a t,GT t->Pm (λl t'=>l≠[]/\(∀y∈l,zY y 100=true)/\zcZ l+40+wT t'<=wT t) (g.vars a t)
 block: ∀t,GT t->Pm (PO 98 50 (wT t)) (g.block t)
 head: ∀t,GT t->Pm (PO 101 100 (wT t)) (g.head t)
 till: ∀s t,GT t->Pm (PO 102 0 (wT t)) (g.till s t)
 loop: ∀t,GT t->Pm (PO 115 0 (wT t)) (g.loop t)
 cases: ∀o t,GT t->Pm (λl t'=>zow l (if o=true then 0 else 1)=true/\zcZ l+wT t'<=wT t) (g.cases o t)
 body: ∀t,GT t->Pm (PL 115 (wT t)) (g.body t)
 stmt: ∀t,GT t->Pm (PO 115 30 (wT t)) (g.stmt t)
 stmts: ∀f t,GT t->Pm (PL (if f=true then 120 else 115) (wT t)) (g.stmts f t)
section
variable {g:PG} (G:zPb g)
include G
theorem zRJ(a t)(h:GT t):Pm (PE (wT t)) (zt1 g a t):= .bd (G.assign _ _ h) λq hq p=>G.comma _ _ _ _ hq p.1 p.2
theorem zOg(a x t M)(h:GT t)(hx:zY x 101=true)(hM:zbC x+50+wT t<=M):Pm (PE M) (zqH g a x t):=
 .ite (λc=>by
  have hw:=zbt (zam c);exact .bd (G.assign _ _ h.tail) λq hq p=>G.comma _ _ _ _ hq (zQt hx p.1) (by rw[bu,bl2];have:=p.2;omega)) λ_=>⟨h,hx,hM⟩
theorem zMD(a t)(h:GT t):Pm (PE (wT t)) (znM g a t):=
 .bd (G.binary _ _ _ h) λq hq p=> .ite (λc=>by
  have hw:=zbt (zam c)
  exact .bd (G.assign _ _ hq.tail) λy hy py=> .bn (.need hy _) λt1 h1 p1=> .bd (G.assign _ _ h1) λz hz pz=>
   ⟨hz,zSb p.1 py.1 pz.1,by rw[bu,bl3];have:=p.2;have:=py.2;have:=pz.2;dsimp only;omega⟩) λ_=>
  .ite (λc=> .ite (λht=>by
   have hw:=zbt (ze8 c);exact .bd (G.assign _ _ hq.tail) λy hy py=>⟨hy,zOC (zAe c) p.1 ht py.1,by rw[buN,bl2];have:=p.2;have:=py.2;dsimp only;omega⟩) λ_=>trivial) λ_=>⟨hq,p⟩
theorem zL3(a b t)(h:GT t):Pm (PE (wT t)) (zik g a b t):= .bd (G.unary _ h) λq hq p=>G.bins _ _ _ _ _ hq p.1 p.2
theorem zQg(a b x t M)(h:GT t)(hx:zY x 101=true)(hM:zbC x+50+wT t<=M):Pm (PE M) (zkK g a b x t):=
 .ite (λ_=>⟨h,hx,hM⟩) λc=>by
  have h0:(zdB a t).1≠0:=by
   intro e;rw[e]at c;simp at c
  have hw:=zbt (zwf h0);exact .bd (G.binary _ _ _ h.tail) λq hq p=>G.bins _ _ _ _ _ hq (zNX h0 hx p.1) (by rw[buN,bl2];have:=p.2;omega)
theorem zNi(t)(h:GT t):Pm (PE (wT t)) (zqa g t):=
 .ite (λc=>by
  have hw:=zbt (ze8 c);exact .bd (G.unary _ h.tail) λy hy p=>⟨hy,zRo (zAe c) p.1,by rw[buN,bl1];have:=p.2;dsimp only;omega⟩) λ_=>
 .ite (λc=>by
  have hw:=zbt (ze8 c)
  exact .bd (G.unary _ h.tail) λy hy p=> .ite (λht=>⟨hy,zJn (zAe c) (.inr rfl) p.1 ht,by
   have:=p.2;show zbC ⟨16,tText t,1,[],[],[y.1]⟩+50+wT y.2<=wT t;simp only[zbC,zcZ,List.map_nil,List.sum_nil,qz6];omega⟩) λ_=>trivial) λ_=>
 .bd (G.made _ h) λq hq p=> .bd (G.mems _ _ _ _ hq p.1 p.2) λr hr pr=> .ite (λ_=>⟨hr,pr⟩) λc=> .ite (λht=>by
  have h1:zc3 zkr r.2=true:=by
   cases e:zc3 zkr r.2 with
   |true=>rfl
   |false=>rw[e]at c;simp at c
  have hw:=zbt (ze8 h1);exact⟨hr.tail,zJn (zAe h1) (.inl rfl) pr.1 ht,by rw[buN,bl1];have:=pr.2;show _+wT r.2.tail<=_;omega⟩) λ_=>trivial
theorem zP9(c x t M)(h:GT t)(hx:zY x 101=true)(hM:zbC x+50+wT t<=M):Pm (PE M) (znR g c x t):=
 .ite (λc1=>by
  have hw:=zbt (zam c1)
  exact .ite (λc2=>by
   have hw2:=zbt (t:=t.tail) (by intro e;rw[e]at c2;simp at c2)
   exact G.mems _ _ _ _ h.tail.tail (zOO (h.tail.ident c2) hx) (by rw[buN,bl1];omega)) λ_=>trivial) λ_=>
 .ite (λc1=>by
  have hw:=zbt (zam c1);exact .bd (G.expr _ _ h.tail) λk hk p=> .bn (.need hk _) λt1 h1 p1=>G.mems _ _ _ _ h1 (zQe hx p.1) (by rw[bu,bl2];have:=p.2;omega)) λ_=>
 .ite (λc1=>by
  rw[qz4]at c1;have hw:=zbt (zam c1.2);exact .bd (G.exprs _ _ _ h.tail) λl hl p=>G.mems _ _ _ _ hl (zTi hx p.1) (by rw[bu,blc];have:=p.2;omega)) λ_=>⟨h,hx,hM⟩
theorem zQh(t)(h:GT t):Pm (PE (wT t)) (zmN g t):=
 .ite (λc=>by
  have hw:=zbt (zam c)
  exact .bd (G.made _ h.tail) λq hq p=> .bd (G.mems _ _ _ _ hq p.1 p.2) λr hr pr=> .ite (λc2=>by
   have hw2:=zbt (zam c2);exact .bd (G.exprs _ _ _ hr.tail) λl hl pl=>⟨hl,zPp pr.1 pl.1,by rw[bu,blc];have:=pr.2;have:=pl.2;dsimp only;omega⟩) λ_=>
   ⟨hr,zPp (l:=[]) pr.1 (λy hy=>by cases hy),by rw[bu,bl1];have:=pr.2;dsimp only;omega⟩) λ_=>G.prim _ h
theorem zRv(t)(h:GT t):Pm (PE (wT t)) (znQ g t):=by
 have ti: ∀{s:Str},tIs s t=true->∀x:Node,zY x 101=true->zbC x<=50->Pm (PE (wT t)) (gt (x,t.tail)):=λc x hx hb=>by
  have:=zbt (zam c);exact⟨h.tail,hx,by show zbC x+50+wT t.tail<=_;omega⟩
 refine .ite (λc=>?_) λ_=> .ite (λc=>?_) λ_=> .ite (λc=>?_) λ_=> .ite (λc=>ti c _ zSR (by decide+kernel)) λ_=> .ite (λc=>ti c _ zSm (by decide+kernel)) λ_=> .ite (λc=>ti c _ zPB (by decide+kernel)) λ_=>
  .ite (λc=>ti c _ zS7 (by decide+kernel)) λ_=> .ite (λc=>?_) λ_=> .ite (λc=>?_) λ_=> .ite (λc=>?_) λ_=> .ite (λc=>?_) λ_=>trivial
 ·have hw:=zbt (zbu c (by decide));exact⟨h.tail,zSE (h.name c),by rw[buN];show(tText t).length+zcZ []+7+50+wT t.tail<=_;simp only[zcZ];omega⟩
 ·have hw:=zbt (zbu c (by decide));cases t with
  |nil=>cases c
  |cons a r=>
   exact⟨h.tail,zTG ((h a qz7).num (eq_of_beq c)),by
    show zbC ⟨1,[],a.num,[],[],[]⟩+50+wT r<=100+3*a.text.length+wT r;simp only[zbC,zcZ,List.map_nil,List.sum_nil,qz6];omega⟩
 ·have hw:=zbt (zbu c (by decide));cases t with
  |nil=>cases c
  |cons a r=>
   exact⟨h.tail,zTS ((h a qz7).str (eq_of_beq c)),by
    show zbC ⟨2,[],0,a.text,[],[]⟩+50+wT r<=100+3*a.text.length+wT r;simp only[zbC,zcZ,List.map_nil,List.sum_nil,qz6];omega⟩
 all_goals have hw:=zbt (zam c)
 ·exact(G.func _ h.tail).1.up λv t' p=>⟨p.1,by have:=p.2;omega⟩
 ·exact .bd (G.expr _ _ h.tail) λk hk p=> .bn (.need hk _) λt1 h1 p1=>⟨h1,p.1,by have:=p.2;show zbC k.1+50+wT t1<=_;omega⟩
 ·exact .bd (G.exprs _ _ _ h.tail) λl hl p=>⟨hl,zRb p.1,by rw[bu];have:=p.2;dsimp only;omega⟩
 ·exact .bd (G.props _ h.tail) λl hl p=>⟨hl,zNI p.1,by rw[bu];have:=p.2;dsimp only;omega⟩
theorem zO9(s b t)(h:GT t):Pm (PL 101 (wT t)) (zkT g s b t):=
 .ite (λc=>by have hw:=zbt (zam c);exact⟨h.tail,λy hy=>by(cases hy),by show 0+wT t.tail<=_;omega⟩) λ_=>
 .bd (G.assign _ _ h) λx hx p=> .ite (λc=>by
  have hw:=zbt (zam c);exact⟨hx.tail,λy hy=>by(rw[List.mem_singleton.1 hy];exact p.1),by rw[bl1];have:=p.2;show zbC x.1+wT x.2.tail<=_;omega⟩) λ_=>
  .bn (.need hx _) λt1 h1 p1=> .ite (λ_=>trivial) λ_=> .bd (G.exprs _ _ _ h1) λl hl pl=>
   ⟨hl,λy hy=>by
    rcases yP.1 hy with rfl|hy
    ·exact p.1
    ·exact pl.1 y hy,by rw[blc];have:=p.2;have:=pl.2;dsimp only;omega⟩
omit G in
theorem zGJ(s:Str):zcj (wide s)=true:=by
 unfold zcj;rw[zzq];simp
omit G in
theorem zSC{t}(h:GT t):Pm (λk t'=>zcj k=true/\k.length+50+wT t'<=wT t) (zEn t):=by
 cases t with
 |nil=>trivial
 |cons a r=>
  have hs:wT (a::r)=100+3*a.text.length+wT r:=rfl;have ha:=h a qz7;refine .ite (λc=>⟨h.tail,ha.str (eq_of_beq c),by show a.text.length+50+wT r<=_;omega⟩) λ_=> .ite (λc=>⟨h.tail,zGJ _,?_⟩) λ_=> .ite (λc=>⟨h.tail,zGJ _,?_⟩) λ_=>trivial
  ·have hn:=ha.num (eq_of_beq c);have:=zAD a.num hn.1 hn.2;show(wide (Lib.itoa a.num)).length+50+wT r<=_;rw[zzq];omega
  ·show(wide a.text).length+50+wT r<=_;rw[zzq];omega
theorem zO4(t)(h:GT t):Pm (PL 112 (wT t)) (zl7 g t):=
 .ite (λc=>by have hw:=zbt (zam c);exact⟨h.tail,λy hy=>by(cases hy),by show 0+wT t.tail<=_;omega⟩) λ_=>
 .bd (zSC h) λk hk pk=> .bn (.need hk _) λt1 h1 p1=> .bd (G.assign _ _ h1) λx hx p=>by
  have hb:zbC ⟨9,[],0,k.1,[],[x.1]⟩=k.1.length+zbC x.1+7:=by simp[zbC,zcZ]
  have hk1:=pk.2;have hp:=p.2;refine .ite (λc=>?_) λ_=> .bn (.need hx _) λt2 h2 p2=> .bd (G.props _ h2) λl hl pl=>⟨hl,λy hy=>?_,?_⟩
  ·have hw:=zbt (zam c);exact⟨hx.tail,λy hy=>by(rw[List.mem_singleton.1 hy];exact zM3 pk.1 p.1),by rw[bl1,hb];show _+wT x.2.tail<=_;omega⟩
  ·rcases yP.1 hy with rfl|hy
   ·exact zM3 pk.1 p.1
   ·exact pl.1 y hy
  ·rw[blc,hb];have:=pl.2;dsimp only;omega
omit G in
theorem zIM: ∀t,GT t->Pm (λns t'=>(∀s∈ns,zd7 s=true)/\(ns.map λs=>s.length+1).sum+wT t'<=wT t) (zi8 t)
 | [],_=>trivial
 | [a],_=>trivial
 |a::b::r,h=>by
  rw[zi8];have hs:wT (a::b::r)=100+3*a.text.length+(100+3*b.text.length+wT r):=rfl;refine .ite (λc=>?_) λ_=>trivial
  have hn:zd7 a.text=true:=h.name (t:=a::b::r) c;refine .ite (λc2=>⟨h.tail.tail,λs hs=>by(rw[List.mem_singleton.1 hs];exact hn),?_⟩) λ_=> .ite (λc2=> .ite (λ_=>trivial) λ_=> .bd (zIM r h.tail.tail) λl hl pl=>⟨hl,λs hs=>?_,?_⟩) λ_=>trivial
  ·show(([a.text]:List Str).map λs=>s.length+1).sum+wT r<=_;simp only[List.map_cons,List.map_nil,List.sum_cons,List.sum_nil];omega
  ·rcases yP.1 hs with rfl|hs
   ·exact hn
   ·exact pl.1 s hs
  ·have:=pl.2;simp only[List.map_cons,List.sum_cons];omega
omit G in
theorem zMI{t}(h:GT t):Pm (λns t'=>(∀s∈ns,zd7 s=true)/\(ns.map λs=>s.length+1).sum+wT t'<=wT t) (zgl t):=
 .ite (λc=>by have hw:=zbt (zam c);exact⟨h.tail,λy hy=>by(cases hy),by show 0+wT t.tail<=_;omega⟩) λ_=>zIM t h
theorem zRE(t)(h:GT t):Pm (PE (wT t)) (zr7 g 10 t)/\Pm (PO 120 30 (wT t)) (zr7 g 39 t):=by
 have rest: ∀(k:Int) (Q:Node->zal->Prop) (m:Str×zal),GT m.2->m.1.length+wT m.2<=wT t->
   (∀(ns:List Str) (l:List Node) t3,(∀s∈ns,zd7 s=true)->(∀y∈l,zY y 120=true)->zbC ⟨k,m.1,0,[],ns,l⟩+50+wT t3<=wT t->Q ⟨k,m.1,0,[],ns,l⟩ t3)->
   Pm Q ((zbi [40] m.2).bn λt=>(zgl t).bd λns=>(zbi [123] ns.2).bn λt=>(g.stmts true t).bd λl=>(zbi [125] l.2).bn λt=>gt (⟨k,m.1,0,[],ns.1,l.1⟩,t)):=λk Q m hm hw hQ=>
  .bn (.need hm _) λt1 h1 p1=> .bd (zMI h1) λns hns pns=> .bn (.need hns _) λt2 h2 p2=> .bd (G.stmts _ _ h2) λl hl pl=> .bn (.need hl _) λt3 h3 p3=>
   ⟨h3,hQ ns.1 l.1 t3 pns.1 pl.1 (by rw[buF];have:=pns.2;have:=pl.2;omega)⟩
 constructor
 ·refine .bd (P:=λm t'=>(m=[]\/zd7 m=true)/\m.length+wT t'<=wT t) (.ite (λc=>?_) λ_=> .ite (λ_=>trivial) λ_=>⟨h,.inl rfl,by simp⟩) λm hm pm=>rest 10 _ m hm pm.2 λns l t3 q1 q2 q3=>⟨zSO pm.1 q1 q2,q3⟩
  have hw:=zbt (zbu c (by decide));exact⟨h.tail,.inr (h.name c),by show(tText t).length+wT t.tail<=_;omega⟩
 ·refine .bd (P:=λm t'=>zd7 m=true/\m.length+wT t'<=wT t) (.ite (λc=>?_) λ_=> .ite (λ_=>trivial) λc2=>absurd rfl c2) λm hm pm=>rest 39 _ m hm pm.2 λns l t3 q1 q2 q3=>⟨zSN pm.1 q1 q2,by omega⟩
  have hw:=zbt (zbu c (by decide));exact⟨h.tail,h.name c,by show(tText t).length+wT t.tail<=_;omega⟩
end
theorem zyf:zY (nd 42 []) 102=true/\zY (nd 42 []) 118=true/\zY (nd 42 []) 99=true:=by decide+kernel
theorem zSH{x:Node}(h:zY x 101=true):zY x 102=true:=by
 have h1:=(zDi h).1;unfold zY;rw[zmo h,Bool.and_true];show(zug x.Kind||x.Kind==42)=true;rw[h1];rfl
theorem zUf{x:Node}(h:zY x 101=true):zY x 118=true:=by
 have h1:=(zDi h).1;unfold zY;rw[zmo h,Bool.and_true];show((zug x.Kind||x.Kind==42)||x.Kind==22)=true;rw[h1];rfl
theorem zPn{l:List Node}(hl:l≠[])(h: ∀y∈l,zY y 100=true):zY (nd 22 l) 115=true:=by
 cases l with
 |nil=>exact absurd rfl hl
 |cons a r=>
  have ha:=h a qz7;unfold zY;rw[zSc rfl];simp[zbj,zaA,zbq,zcj,zaI,nd,ha];exact⟨rfl,λy hy=>h y (qz8 _ hy)⟩
theorem zS8{s:Str}{d:List Node}(hs:zd7 s=true)(hd:d=[]\/∃y,d=[y]/\zY y 101=true):zY (ndN 23 s d) 100=true:=by
 rcases hd with rfl| ⟨y,rfl,hy⟩
 ·unfold zY;rw[zMW rfl];simp[zbj,zaA,zbq,zcj,zaI,ndN,lv1,hs];rfl
 ·unfold zY;rw[zMW rfl];simp[zbj,zaA,zbq,zcj,zaI,ndN,lv1,hs,hy];rfl
theorem zSe{x:Node}(h:zY x 101=true):zY (nd 24 [x]) 115=true:=by
 unfold zY;rw[zSy rfl];simp[zbj,zaA,zbq,zcj,zaI,nd,h];rfl
theorem zKG{l:List Node}(h: ∀y∈l,zY y 115=true):zY (nd 25 l) 98=true:=by
 unfold zY;rw[zSF rfl];simp[zbj,zaA,zbq,zcj,zaI,nd];exact⟨rfl,h⟩
theorem zQy{x:Node}(h:zY x 98=true):zY x 115=true:=by
 have hk:x.Kind=25:=eq_of_beq (show(x.Kind==25)=true from zFE h);unfold zY;rw[zmo h,Bool.and_true];show stK x.Kind false=true;rw[hk];rfl
theorem zKI{x:Node}(h:zY x 98=true):zY x 99=true/\(x.Kind==42)=false:=by
 have hk:x.Kind=25:=eq_of_beq (show(x.Kind==25)=true from zFE h);refine⟨?_,by rw[hk];rfl⟩
 unfold zY;rw[zmo h,Bool.and_true];show(x.Kind==25||x.Kind==42)=true;rw[hk];rfl
theorem zj6{x:Node}(h:zY x 115=true):zY (zeN x) 98=true/\zbC (zeN x)<=zbC x+7:=by
 unfold zeN;split
 ·rename_i hk;refine⟨?_,by omega⟩;unfold zY;rw[zmo h,Bool.and_true];exact hk
 ·exact⟨zKG λy hy=>by rw[List.mem_singleton.1 hy];exact h,by rw[bu,bl1];omega⟩
theorem zUa{x:Node}(h:zY x 115=true):zY x 120=true:=by
 have h1:stK x.Kind false=true:=zFE h;unfold zY;rw[zmo h,Bool.and_true];show stK x.Kind true=true;unfold stK at h1⊢;simp only[Bool.or_false,Bool.or_true,Bool.and_true]at h1⊢;rw[qz4]at h1;exact h1.1
theorem zTQ{x b:Node}(hx:zY x 101=true)(hb:zY b 98=true):zY (nd 26 [x,b]) 115=true:=by
 unfold zY;rw[zMq rfl];simp[zbj,zaA,zbq,zcj,zaI,nd,lv3,hx,hb];rfl
theorem zTU{x b c:Node}(hx:zY x 101=true)(hb:zY b 98=true)(hc:zY c 98=true):zY (nd 26 [x,b,c]) 115=true:=by
 unfold zY;rw[zMq rfl];simp[zbj,zaA,zbq,zcj,zaI,nd,lv3,hx,hb,hc];rfl
theorem zRe{x b:Node}(hx:zY x 101=true)(hb:zY b 98=true):zY (nd 27 [x,b]) 115=true:=by
 unfold zY;rw[zSo rfl];simp[zbj,zaA,zbq,zcj,zaI,nd,hx,hb];rfl
theorem zT2{x b:Node}(hx:zY x 101=true)(hb:zY b 98=true):zY (nd 28 [b,x]) 115=true:=by
 unfold zY;rw[zSi rfl];simp[zbj,zaA,zbq,zcj,zaI,nd,hx,hb];rfl
theorem zTs{v x y b:Node}(hv:zY v 118=true)(hx:zY x 102=true)(hy:zY y 102=true)(hb:zY b 98=true):zY (nd 29 [v,x,y,b]) 115=true:=by
 unfold zY;rw[zR7 rfl];simp[zbj,zaA,zbq,zcj,zaI,nd,hv,hx,hy,hb];rfl
theorem zRC{v x b:Node}(hv:zY v 119=true)(hx:zY x 101=true)(hb:zY b 98=true):zY (nd 30 [v,x,b]) 115=true:=by
 unfold zY;rw[zR8 rfl];simp[zbj,zaA,zbq,zcj,zaI,nd,hv,hx,hb];rfl
theorem zMK{k:Int}{s:Str}(hk:k=31\/k=32)(hs:s=[]\/zd7 s=true):zY (ndN k s []) 115=true:=by
 rcases hk with rfl|rfl
 ·unfold zY;rw[zSd rfl];simp[zbj,zaA,zbq,zcj,zaI,ndN,hs];rfl
 ·unfold zY;rw[zRX rfl];simp[zbj,zaA,zbq,zcj,zaI,ndN,hs];rfl
theorem zL8:zY (nd 33 []) 115=true:=by decide+kernel
theorem zOp{x:Node}(h:zY x 101=true):zY (nd 33 [x]) 115=true:=by
 unfold zY;rw[zSn rfl];simp[zbj,zaA,zbq,zcj,zaI,nd,lv1,h];rfl
theorem zQU{x:Node}(h:zY x 101=true):zY (nd 34 [x]) 115=true:=by
 unfold zY;rw[zSL rfl];simp[zbj,zaA,zbq,zcj,zaI,nd,h];rfl
theorem zTK{s:Str}{b c f:Node}(hb:zY b 98=true)(hc:zY c 99=true)(hf:zY f 99=true)(hn:(c.Kind==25)=true/\zd7 s=true\/(c.Kind==25)=false/\s=[])(he:(c.Kind==42&&f.Kind==42)=false):zY (ndN 35 s [b,c,f]) 115=true:=by
 unfold zY;rw[zSA rfl];simp only[zbj,zaA,zbq,zcj,zJj,ndN,hb,hc,hf,he];rcases hn with⟨h1,h2⟩| ⟨h1,rfl⟩
 ·simp[h1,h2];rfl
 ·simp[h1];rfl
theorem zOI{x:Node}{l:List Node}(hx:zY x 101=true)(hl:zow l 0=true):zY (nd 36 (x::l)) 115=true:=by
 unfold zY;rw[zRZ rfl];simp[zbj,zaA,zbq,zcj,zDe,nd,hx,hl];rfl
theorem zLM{x:Node}{l:List Node}(hx:zY x 102=true)(h: ∀y∈l,zY y 115=true):zY (nd 37 (x::l)) 107=true:=by
 unfold zY;rw[zSK rfl];simp[zbj,zaA,zbq,zcj,zaI,nd,hx];exact⟨rfl,h⟩
theorem zQp{s:Str}{x:Node}(hs:zd7 s=true)(h:zY x 115=true):zY (ndN 38 s [x]) 115=true:=by
 unfold zY;rw[zSq rfl];simp[zbj,zaA,zbq,zcj,zaI,ndN,hs,h];rfl
theorem zPX:zY (nd 40 []) 115=true:=by decide+kernel
theorem zSP{l:List Node}(h: ∀y∈l,zY y 120=true):zdm (nd 41 l)=true:=by
 rw[zSj rfl];simp[zbj,zaA,zbq,zcj,zaI,nd];exact h
section
variable {g:PG} (G:zPb g)
include G
theorem zP6(a t)(h:GT t):Pm (λl t'=>l≠[]/\(∀y∈l,zY y 100=true)/\zcZ l+40+wT t'<=wT t) (zqA g a t):=
 .ite (λc=>by
  have hn:=h.name c;have hw:=zbt (zbu c (by decide));refine .bd (P:=λd t'=>(d=[]\/∃y,d=[y]/\zY y 101=true)/\zcZ d+wT t'<=wT t.tail) (.ite (λc2=>?_) λ_=>⟨h.tail,.inl rfl,by simp[zcZ]⟩) λd hd pd=>?_
  ·have hw2:=zbt (zam c2);exact .bd (G.assign _ _ h.tail.tail) λy hy p=>⟨hy,.inr ⟨y.1,rfl,p.1⟩,by rw[bl1];have:=p.2;dsimp only;omega⟩
  ·have hdd:=zS8 hn pd.1;have hbd:=pd.2;refine .ite (λc3=>?_) λ_=>⟨hd,by simp,λy hy=>by(rw[List.mem_singleton.1 hy];exact hdd),by rw[bl1,buN];dsimp only;omega⟩
   have hw3:=zbt (zam c3);refine .bd (G.vars _ _ hd.tail) λl hl pl=>?_
   refine⟨hl,List.cons_ne_nil _ _,λy hy=>?_,?_⟩
   ·rcases yP.1 hy with e|hy
    ·rw[e];exact hdd
    ·exact pl.2.1 y hy
   ·rw[blc,buN];have:=pl.2.2;dsimp only;omega) λ_=>trivial
theorem zOT(t)(h:GT t):Pm (PO 98 50 (wT t)) (znq g t):=
 .bn (.need h _) λt1 h1 p1=> .bd (G.stmts false _ h1) λl hl pl=> .bn (.need hl _) λt2 h2 p2=>⟨h2,zKG pl.1,by rw[bu];have:=pl.2;dsimp only;omega⟩
theorem zRs(t)(h:GT t):Pm (PO 101 100 (wT t)) (zuj g t):=
 .bn (.need h _) λt1 h1 p1=> .bd (G.expr _ _ h1) λx hx p=> .bn (.need hx _) λt2 h2 p2=>⟨h2,p.1,by have:=p.2;dsimp only;omega⟩
theorem zQf(s t)(h:GT t):Pm (PO 102 0 (wT t)) (zp1 g s t):=
 .ite (λc=>by
  have hw:=zbt (zam c);exact⟨h.tail,zyf.1,by rw[bu];simp only[zcZ];omega⟩) λ_=> .bd (G.expr _ _ h) λx hx p=> .bn (.need hx _) λt2 h2 p2=>⟨h2,zSH p.1,by have:=p.2;dsimp only;omega⟩
theorem zNO(t)(h:GT t):Pm (λx t'=>zY x 118=true/\(ztR x=true->zY x 119=true)/\zbC x+wT t'<=wT t+7) (zuW g t):=by
 refine .ite (λc=>?_) λ_=> .ite (λ_=>⟨h,zyf.2.1,(λe=>by cases e),(by rw[bu];simp only[zcZ];omega)⟩) λ_=>(G.expr _ _ h).up λx t' p=>⟨zUf p.1,λe=>?_,by have:=p.2;omega⟩
 ·have hw:=zbt (zam c);refine .bd (G.vars _ _ h.tail) λl hl p=>?_
  have hv:=zPn p.1 p.2.1;refine⟨hl,?_,λe=>?_,by rw[bu];have:=p.2.2;dsimp only;omega⟩
  ·unfold zY;rw[zmo hv];rfl
  ·unfold zY;rw[zmo hv,Bool.and_true];have e:(match(nd 22 l.1).L with| [d]=>d.L.isEmpty|_=>false)=true:=e;show(zf1 22||((22:Int)==22&&(match(nd 22 l.1).L with| [y]=>y.L.isEmpty|_=>false)))=true;rw[e];rfl
 ·have hk:=(zDi p.1).1
  have hne:(x.Kind==22)=false:=by
   cases hq:x.Kind==22 with
   |false=>rfl
   |true=>rw[eq_of_beq hq]at hk;exact absurd hk (by decide)
  unfold ztR at e;rw[hne]at e;have e:zf1 x.Kind=true:=e;unfold zY;rw[zmo p.1,Bool.and_true];show(zf1 x.Kind||_)=true;rw[e];rfl
theorem zQY(t)(h:GT t):Pm (PO 115 0 (wT t)) (zuh g t):=
 .bn (.need h _) λt1 h1 p1=> .bd (zNO G _ h1) λq hq pq=> .ite (λc=>by
  rw[qz4]at c;have hw:=zbt (zam c.2)
  exact .bd (G.expr _ _ hq.tail) λx hx px=> .bn (.need hx _) λt2 h2 p2=> .bd (G.stmt _ h2) λb hb pb=>⟨hb,zRC (pq.2.1 c.1) px.1 (zj6 pb.1).1,by
   rw[bu,bl3];have:=(zj6 pb.1).2;have:=pq.2.2;have:=px.2;have:=pb.2;dsimp only;omega⟩) λ_=>
  .bn (.need hq _) λt2 h2 p2=> .bd (G.till _ _ h2) λx hx px=> .bd (G.till _ _ hx) λy hy py=> .bd (G.stmt _ hy) λb hb pb=>⟨hb,zTs pq.1 px.1 py.1 (zj6 pb.1).1,by
   rw[bu,bl4];have:=(zj6 pb.1).2;have:=pq.2.2;have:=px.2;have:=py.2;have:=pb.2;dsimp only;omega⟩
theorem zS0(t)(h:GT t):Pm (PO 115 0 (wT t)) (zwQ g t):=by
 refine .bd (G.block _ h) λb hb pb=> .bd (P:=λc t'=>zY c.2 99=true/\((c.2.Kind==25)=true/\zd7 c.1=true\/(c.2.Kind==25)=false/\c.1=[])/\c.1.length+zbC c.2+wT t'<=wT b.2+7) ?_ λc hc pc=>
  .bd (P:=λf t'=>zY f 99=true/\zbC f+wT t'<=wT c.2+7) ?_ λf hf pf=> .ite (λ_=>trivial) λhe=>⟨hf,zTK pb.1 pc.1 pf.1 pc.2.1 (by rw[Bool.and_comm];exact Bool.not_eq_true _▸he),by
   rw[buN,bl3];have:=pb.2;have:=pc.2.2;have:=pf.2;dsimp only;omega⟩
 ·refine .ite (λc=>?_) λ_=>⟨hb,zyf.2.2,.inr ⟨rfl,rfl⟩,by
   show 0+zbC (nd 42 [])+wT b.2<=_;rw[bu];simp only[zcZ];omega⟩
  have hw:=zbt (zam c)
  exact .bn (.need hb.tail _) λt1 h1 p1=> .ite (λc2=>by
   have hw2:=zbt (zbu c2 (by decide));exact .bn (.need h1.tail _) λt2 h2 p2=> .bd (G.block _ h2) λq hq pq=>⟨hq,(zKI pq.1).1,.inl ⟨zFE pq.1,h1.name c2⟩,by have:=pq.2;dsimp only;omega⟩) λ_=>trivial
 ·refine .ite (λc2=>?_) λ_=>⟨hc,zyf.2.2,by rw[bu];simp only[zcZ];omega⟩
  have hw:=zbt (zam c2);exact(G.block _ hc.tail).up λv t' p=>⟨(zKI p.1).1,by have:=p.2;omega⟩
theorem zN2(o t)(h:GT t):Pm (λl t'=>zow l (if o=true then 0 else 1)=true/\zcZ l+wT t'<=wT t) (zm9 g o t):=by
 refine .ite (λc=>?_) λ_=> .ite (λc=>?_) λ_=> .bn (.need h _) λt1 h1 p1=> .bd (G.expr _ _ h1) λx hx px=> .bn (.need hx _) λt2 h2 p2=> .bd (G.body _ h2) λl hl pl=> .bd (G.cases _ _ hl) λr hr pr=>⟨hr,?_,?_⟩
 ·have hw:=zbt (zam c);refine⟨h.tail,?_,by show 0+wT t.tail<=_;omega⟩
  cases o<;>rfl
 ·rw[qz4]at c;have hw:=zbt (zam c.2);rw[c.1];refine .bn (.need h.tail _) λt1 h1 p1=> .bd (G.body _ h1) λl hl pl=> .bd (G.cases false _ hl) λr hr pr=>⟨hr,?_,?_⟩
  ·have h2:=pr.1;simp only[qz2,yA]at h2;simp only[yB,zow];rw[zLM zyf.1 pl.1,Bool.true_and];exact h2
  ·rw[blc,bu,blc,bu];simp only[zcZ];have:=pl.2;have:=pr.2;omega
 ·have hk:=(zDi px.1).1
  have hne:(x.1.Kind==42)=false:=by
   cases hq:x.1.Kind==42 with
   |false=>rfl
   |true=>rw[eq_of_beq hq]at hk;exact absurd hk (by decide)
  have hc:zHL (nd 37 (x.1::l.1))=false:=hne;show zow (nd 37 (x.1::l.1)::r.1) _=true;simp only[zow,hc,qz2,yA];rw[zLM (zSH px.1) pl.1,Bool.true_and];exact pr.1
 ·rw[blc,bu,blc];have:=px.2;have:=pl.2;have:=pr.2;dsimp only;omega
theorem zQQ(t)(h:GT t):Pm (PL 115 (wT t)) (ztU g t):=
 .ite (λ_=>⟨h,λy hy=>by(cases hy),by show 0+wT t<=_;omega⟩) λ_=> .bd (G.stmt _ h) λx hx p=> .bd (G.body _ hx) λl hl pl=>⟨hl,λy hy=>by
  rcases yP.1 hy with rfl|hy
  ·exact p.1
  ·exact pl.1 y hy,by rw[blc];have:=p.2;have:=pl.2;dsimp only;omega⟩
omit G in
theorem zJ2(k t)(hk:k=31\/k=32)(h:GT t):Pm (λx t'=>zY x 115=true/\zbC x+wT t'<=wT t+7) (zse k t):=
 .ite (λc=>by
  rw[qz4]at c;have hw:=zbt (zbu c.1 (by decide));exact .bn (.end h.tail) λt1 h1 p1=>⟨h1,zMK hk (.inr (h.name c.1)),by rw[buN];simp only[zcZ];omega⟩) λ_=> .bn (.end h) λt1 h1 p1=>⟨h1,zMK (s:=[]) hk (.inl rfl),by rw[bu];simp only[zcZ];omega⟩
theorem zRP(t)(h:GT t):Pm (PO 115 30 (wT t)) (zsd g t):=by
 refine .ite (λc=>(G.block _ h).up λv t' p=>⟨zQy p.1,by have:=p.2;omega⟩) λ_=> .ite (λc=>?_) λ_=> .ite (λc=>?_) λ_=> .ite (λc=>?_) λ_=> .ite (λc=>?_) λ_=> .ite (λc=>?_) λ_=> .ite (λc=>?_) λ_=> .ite (λc=>?_) λ_=>
  .ite (λc=>?_) λ_=> .ite (λc=>?_) λ_=> .ite (λc=>?_) λ_=> .ite (λc=>?_) λ_=> .ite (λc=>?_) λ_=> .ite (λc=>trivial) λ_=> .ite (λc=>?_) λ_=>?_
 rotate_right 2
 ·rw[qz4]at c;have hw:=zbt (zbu c.1 (by decide));have hw2:=zbt (zam c.2);exact .bd (G.stmt _ h.tail.tail) λx hx p=>⟨hx,zQp (h.name c.1) p.1,by rw[buN,bl1];have:=p.2;dsimp only;omega⟩
 ·exact .bd (G.expr _ _ h) λx hx p=> .bn (.end hx) λt1 h1 p1=>⟨h1,zSe p.1,by rw[bu,bl1];have:=p.2;dsimp only;omega⟩
 all_goals have hw:=zbt (zam c)
 ·exact⟨h.tail,zPX,by rw[bu];simp only[zcZ];omega⟩
 ·exact .bd (G.vars _ _ h.tail) λl hl p=> .bn (.end hl) λt1 h1 p1=>⟨h1,zPn p.1 p.2.1,by rw[bu];have:=p.2.2;dsimp only;omega⟩
 ·exact .bd (G.head _ h.tail) λx hx px=> .bd (G.stmt _ hx) λb hb pb=> .ite (λc2=>by
   have hw2:=zbt (zam c2)
   exact .bd (G.stmt _ hb.tail) λe he pe=>⟨he,zTU px.1 (zj6 pb.1).1 (zj6 pe.1).1,by
    rw[bu,bl3];have:=(zj6 pb.1).2;have:=(zj6 pe.1).2;have:=px.2;have:=pb.2;have:=pe.2;dsimp only;omega⟩) λ_=>
   ⟨hb,zTQ px.1 (zj6 pb.1).1,by rw[bu,bl2];have:=(zj6 pb.1).2;have:=px.2;have:=pb.2;dsimp only;omega⟩
 ·exact .bd (G.head _ h.tail) λx hx px=> .bd (G.stmt _ hx) λb hb pb=>⟨hb,zRe px.1 (zj6 pb.1).1,by rw[bu,bl2];have:=(zj6 pb.1).2;have:=px.2;have:=pb.2;dsimp only;omega⟩
 ·exact .bd (G.stmt _ h.tail) λb hb pb=> .bn (.need hb _) λt1 h1 p1=> .bd (G.head _ h1) λx hx px=> .bn (.end hx) λt2 h2 p2=>⟨h2,zT2 px.1 (zj6 pb.1).1,by rw[bu,bl2];have:=(zj6 pb.1).2;have:=px.2;have:=pb.2;dsimp only;omega⟩
 ·exact(G.loop _ h.tail).up λv t' p=>⟨p.1,by have:=p.2;omega⟩
 ·exact(zJ2 31 _ (.inl rfl) h.tail).up λv t' p=>⟨p.1,by have:=p.2;omega⟩
 ·exact(zJ2 32 _ (.inr rfl) h.tail).up λv t' p=>⟨p.1,by have:=p.2;omega⟩
 ·exact .ite (λ_=> .bd (G.expr _ _ h.tail) λx hx p=> .bn (.end hx) λt1 h1 p1=>⟨h1,zOp p.1,by rw[bu,bl1];have:=p.2;dsimp only;omega⟩) λ_=> .bn (.end h.tail) λt1 h1 p1=>⟨h1,zL8,by rw[bu];simp only[zcZ];omega⟩
 ·exact .ite (λ_=>trivial) λ_=> .bd (G.expr _ _ h.tail) λx hx p=> .bn (.end hx) λt1 h1 p1=>⟨h1,zQU p.1,by rw[bu,bl1];have:=p.2;dsimp only;omega⟩
 ·exact(zS0 G _ h.tail).up λv t' p=>⟨p.1,by have:=p.2;omega⟩
 ·exact .bd (G.head _ h.tail) λx hx px=> .bn (.need hx _) λt1 h1 p1=> .bd (G.cases true _ h1) λl hl pl=>⟨hl,zOI px.1 pl.1,by rw[bu,blc];have:=px.2;have:=pl.2;dsimp only;omega⟩
theorem zNb(f t)(h:GT t):Pm (PL (if f=true then 120 else 115) (wT t)) (znH g f t):=by
 refine .ite (λ_=>⟨h,λy hy=>by(cases hy),by show 0+wT t<=_;omega⟩) λ_=> .bd (P:=PO (if f=true then 120 else 115) 30 (wT t)) (.ite (λc=>?_) λ_=>?_) λx hx p=> .bd (G.stmts f _ hx) λl hl pl=>⟨hl,λy hy=>?_,by rw[blc];have:=p.2;have:=pl.2;dsimp only;omega⟩
 ·rw[qz4]at c;have hw:=zbt (zam c.2);rw[c.1];exact(G.func _ h.tail).2.up λv t' p=>⟨p.1,by have:=p.2;omega⟩
 ·cases f with
  |false=>exact G.stmt _ h
  |true=>exact(G.stmt _ h).up λv t' p=>⟨zUa p.1,p.2⟩
 ·rcases yP.1 hy with rfl|hy
  ·exact p.1
  ·exact pl.1 y hy
end
theorem zLT: ∀n,zPb (pG n)
 |0=>by
  constructor<;>intros
  all_goals first|trivial|exact⟨trivial,trivial⟩
 |n+1=>by
  have G:=zLT n;exact⟨zRJ G,zOg G,zMD G,zL3 G,zQg G,zNi G,zP9 G,zQh G,zRv G,zO9 G,zO4 G,zRE G,zP6 G,zOT G,zRs G,zQf G,zQY G,zN2 G,zQQ G,zRP G,zNb G⟩
/-! ### a node that may be has numbers of the machine -/
/-! ### tokens that were cut -/
theorem zTV{L:List zl}{b:Nat}(h:U.zoD b L):GT (L.map tk):=by
 induction h with
 |fin e h1 h2=>
  intro a ha;obtain rfl:a=tk e:=by simpa using ha
  refine⟨λe2=>?_,λe2=>?_,λe2=>?_,λe2=>?_⟩<;>exact absurd (show e.Kind.toNat=_ from e2) (by rw[h1];decide)
 |one s t l o hs k1 k5 _ ih=>
  intro a ha;rcases yP.1 ha with rfl|ha
  ·have hid:t.Kind=1\/t.Kind=2->zqy t.Text=true:=λhk=>by
    obtain⟨h1,h2,c,r,rfl,hl⟩:=o.ident hk;obtain⟨g1,g2⟩:=U.zsO o hk;have hlen:t.Text.length<=32:=by rw[h1,List.length_take];omega
    have hall:t.Text.all zeA=true:=List.all_eq_true.2 g1;cases ht:t.Text with
    |nil=>exact absurd ht g2
    |cons d q=>
     have hd:d=c:=by
      rw[ht]at h1;cases hr:zaC (c::r)with
      |zero=>rw[hr]at h1;cases h1
      |succ m=>rw[hr]at h1;cases h1;rfl
     subst hd;rw[ht]at hlen hall;unfold zqy;simp only[hlen,decide_true,hl,hall,Bool.and_self]
   have hkk: ∀m:Nat,(tk t).kind=m->t.Kind=(m:Int):=λm e=>by have e:t.Kind.toNat=m:=e;omega
   refine⟨λe=>?_,λe=>hid (.inr (hkk _ e)),λe=>?_,λe=>?_⟩
   ·have e:t.Kind=1:=hkk _ e;have hw:=o.word (.inl e);show zd7 t.Text=true;unfold zd7;rw[hid (.inl e),U.zGG];cases hx:U.zpt t.Text with
    |false=>rfl
    |true=>have:=hw.2 hx;omega
   ·exact⟨(o.num (hkk _ e)).1,(o.num (hkk _ e)).2.1⟩
   ·obtain⟨us,h1,h2⟩:=o.str (hkk _ e);show zcj t.Text=true;unfold zcj;rw[h1,U.zkl];simp
  ·exact ih a ha
theorem zCr(q:UInt8): ∀(m:Nat) (r:Str) (acc us:List Nat) (k:Nat),U.zhL q m r acc=some (us,k)->us.length+k+1<=acc.length+r.length
 |0,_,_,_,_,h=>by cases h
 |m+1,[],_,_,_,h=>by cases h
 |m+1,c::r,acc,us,k,h=>by
  unfold U.zhL at h;split at h
  ·cases h;simp;omega
  ·split at h
   ·cases h
   ·split at h
    ·split at h
     ·cases h
     ·rename_i us' k' he;have:=zCr q m _ _ _ _ h;have h1:=U.zIq he;simp only[qz5,List.length_drop,qz3]at this⊢;omega
    ·have:=zCr q m _ _ _ _ h;simp only[qz5,qz3,qz6]at this⊢;omega
theorem zP8{s:Str}{t:zl}{n:Nat}(h:U.zoZ s=some (t,n)):t.Text.length<=2*n:=by
 cases s with
 |nil=>cases h
 |cons c s=>
  unfold U.zoZ at h;dsimp only at h;split at h
  ·split at h
   ·cases h
   ·cases h;show((c::s).take _).length<=_;rw[List.length_take];omega
  ·split at h
   ·cases hn:U.zn4 (c::s)with
    |none=>rw[hn]at h;cases h
    |some p=>rw[hn]at h;cases h;exact Nat.zero_le _
   ·split at h
    ·generalize hx:U.zfB (c::s)=q at h;obtain⟨u,n',e⟩:=q;simp only at h;split at h
     ·cases h
     ·rename_i hne;cases h;unfold U.zfB at hx;simp only at hx;by_cases hq:c=39\/c=34
      ·rw[yL hq]at hx;cases hg:U.zhL c (s.length+1) s []with
       |none=>
        rw[hg]at hx;exact absurd (show(0:Int)=n' from congrArg (λx=>x.2.1) hx).symm hne
       |some p=>
        obtain⟨us,k⟩:=p;rw[hg]at hx;obtain rfl:U.zdF us=u:=congrArg (λx=>x.1) hx;obtain rfl:(((c::s).length -k:Nat):Int)=n':=congrArg (λx=>x.2.1) hx;have:=zCr c _ _ _ _ _ hg;show(U.zdF us).length<=_;rw[U.zkl];simp only[qz3,qz6,Int.toNat_natCast]at this⊢;omega
      ·rw[yK hq]at hx;exact absurd (show(0:Int)=n' from congrArg (λx=>x.2.1) hx).symm hne
    ·split at h
     ·cases h
     ·cases h;show((c::s).take _).length<=_;rw[List.length_take];omega
theorem zIf(len:Nat): ∀(m:Nat) (s:Str) (f:Bool) (l:List (zl×Nat)),U.znz m s f= .inl l->wT ((U.zmh len l).map tk)<=106*s.length+100
 |0,_,_,_,h=>by cases h
 |m+1,s,f,l,h=>by
  have hl:=zi2 (s.length+1) s f;rw[U.znz]at h;generalize zew (s.length+1) s f=q at h hl;obtain⟨r,f',ok⟩:=q;simp only at h hl;split at h
  ·cases h
  ·split at h
   ·cases h;show 100+3*(([]:Str)).length+0<=_;simp
   ·cases ho:U.zoZ r with
    |none=>rw[ho]at h;cases h
    |some p=>
     obtain⟨t,n⟩:=p;rw[ho]at h;simp only at h;have hn:=U.zzX ho;have hn2:=zP8 ho;cases hc:U.znz m (r.drop n) false with
     |inr k=>rw[hc]at h;cases h
     |inl l'=>
      rw[hc]at h;cases h;have hd:(r.drop n).length=r.length -n:=List.length_drop;have g:=zIf len m (r.drop n) false l' hc;rw[U.zsb];show 100+3*t.Text.length+wT ((U.zmh len l').map tk)<=_;omega
theorem zNl{src:Str}{L:List zl}(h:U.zel src=(L,0,0)):wT (L.map tk)<=500000:=by
 have hs:=(U.zpB h).2.2;unfold U.zel at h;split at h
 ·exact absurd (congrArg (λx=>x.2.2) h) (by simp)
 ·split at h
  ·rename_i l hc;obtain rfl:U.zmh src.length l=L:=congrArg (λx=>x.1) h;have:=zIf src.length _ _ _ _ hc;omega
  ·exact absurd (congrArg (λx=>x.2.2) h) (by simp)
/-! ### what is read may be -/
theorem zJr{src:Str}{L:List zl}(hc:U.zel src=(L,0,0)){q:List Node×zal}(h:(pG (10*L.length+20)).stmts true (L.map tk)=gt q):zdm (nd 41 q.1)=true/\zbC (nd 41 q.1)<=500007:=by
 have h1:=(zLT (10*L.length+20)).stmts true (L.map tk) (zTV (U.zpB hc).1);rw[h]at h1;have h2:=zNl hc;obtain⟨_,p1,p2⟩:=h1;refine⟨zSP p1,?_⟩;rw[bu];omega
end Go.D08
namespace Go.D08.U
open Go Go.Gw Go.Dn Go.Proofs
set_option maxRecDepth 100000
/-! ### less behind it -/
theorem zQz{s:Str}(h:(zel s).2.2=0):(zel s).2.1=0:=by
 unfold zel at h⊢;split at h
 ·cases h
 ·rename_i hl;rw[yK hl];cases hc:znz (s.length+1) s false with
  |inl l=>rfl
  |inr k=>rw[hc]at h;cases h
end Go.D08.U
namespace Go.D08
open Go Go.Gw Go.Dn Go.Proofs
set_option maxRecDepth 100000
section
variable {L0 L:List zl} {n:Nat} (H: ∀k,k<=n->∀N,20*k+20<=N->DS L0 (RS N) (pG k)) (hn:n<=10000000000) (h0:L0.length<=10000000000)
include H hn h0
theorem zPC(N:Nat)(hN:20*(n+1)+20<=N):DS L0 (RS N) (pG (n+1)):=by
 obtain⟨K,rfl⟩: ∃k,N=20*n+30+k+4:=⟨N - (20*n+30) -4,by omega⟩
 have m0:20*n+30<=20*n+30+K+3:=by omega
 have m2:20*n+30<=20*n+30+K+2:=by omega
 have m1:20*n+30<=20*n+30+K+1:=by omega
 have mk:20*n+30<=20*n+30+K:=by omega
 exact⟨(λno L ok=>zOb H hn m0 h0 no ok),
  (λno L ok=>zMg H hn m0 h0 no ok),
  (λno d L ok hd=>by have:=zGM H hn (yJ (20*n+30)) h0 no d (K+3 -d) L ok hd;rwa [show 20*n+30+(K+3 -d)+d+1=20*n+30+K+4 by omega]at this),
  (λL ok=>zN6 H hn m0 h0 ok),
  (λL ok=>zP5 H hn mk h0 ok),
  (λx L ok h=>zKq H hn m2 h0 ok h),
  (λL ok=>zQ1 H hn m0 h0 ok),
  (λs last L ok hs=>zQ9 H hn m0 h0 s last hs ok),
  (λL ok=>zLS H hn m0 h0 ok),
  (λk L ok=>zPL H hn m0 h0 k ok),
  (λno L ok=>zQ0 H hn m0 h0 no ok),
  (λL ok=>zNc H hn m0 h0 ok),
  (λL ok=>zQm H hn m0 h0 ok),
  (λs L ok hs=>zRO H hn m0 h0 s hs ok),
  (λL ok=>zPJ H hn m2 h0 ok),
  (λL ok=>zRH H hn m1 h0 ok),
  (λf L ok=>zNq H hn m0 h0 f ok)⟩
end
theorem zM9{L0:List zl}(h0:L0.length<=10000000000): ∀n,n<=10000000001->∀k,k<=n->∀N,20*k+20<=N->DS L0 (RS N) (pG k)
 |0,_,k,hk,N,_=>by
  obtain rfl:k=0:=by omega
  constructor<;>intros<;>trivial
 |n+1,hn,k,hk,N,hN=>by
  have H:=zM9 h0 n (by omega);by_cases h:k<=n
  ·exact H k h N hN
  ·obtain rfl:k=n+1:=by omega
   exact zPC H (by omega) h0 N hN
theorem zGA{src:Str}{L:List zl}(hs:src.length<=100000000)(hc:U.zel src=(L,0,0))(ok:TOk L)(tw:TW L)(hl:L.length<=100000000)
  (hz: ∀q,(pG (10*L.length+20)).stmts true (L.map tk)=gt q->zjw (nd 41 q.1)<=2097152):zeY src=some ((zqL L).1,(zqL L).2.1,(zqL L).2.2,()):=by
 have okL:TX L L:=⟨⟨ok,List.suffix_refl L⟩,tw⟩
 have S:=(zM9 (L0:=L) (by omega) (10*L.length+20) (by omega) _ (yJ _) 1000000000000 (by omega)).stmts true L okL;obtain⟨r,hr⟩:=zE6 ok.wf;rw[List.length_map]at hr;unfold zeY zqL;rw[U.zC9 src hs,hc];simp only[qz1,bne_self_eq_false,qz2,yA];rw[hr]at S hz⊢;have ep:(⟨L,0,false⟩:TP)=ps L L false:=by unfold ps;rw[Nat.sub_self];rfl
 rw[ep];cases r with
 |inl k=>
  obtain⟨L',hk,ok',v,e,_⟩:=S;have e:zaW true (ps L L false)=some (v,ps L L' true,()):=e;rw[e];obtain⟨x,r,rfl⟩:=ok'.cons;have ha:=ok'.tl.at_;rw[List.length_map]at ha;simp only[zH,zt,zC,zI,zT,zG,zF,zD,qz1,zao,yB,zdl ok',<-hk,ha];rfl
 |inr q=>
  obtain⟨v,L',e,e2,ok',hv⟩:=S;have e:zaW true (ps L L false)=some (v,ps L L' false,()):=e;have hv:q.1=v:=hv;subst hv;rw[e];obtain⟨x,r,rfl⟩:=ok'.cons;have k0:=ze4 ok' 0;rw[show((0:Nat):Int)=0 from rfl]at k0;have hd:=zJB (nd 41 q.1) (hz q rfl);have ha:=ok'.tl.at_;simp only[zH,zt,zC,zI,zT,zG,zF,zD,qz1,zao,qz2,yA,zdl ok',bne,k0];rw[<-e2];cases h0:zak ((x::r).map tk)==0 with
  |false=>
   have h1: ¬zak ((x::r).map tk)=0:=by simpa using h0
   rw[yK h1,ha];rfl
  |true=>
   have h1:zak ((x::r).map tk)=0:=by simpa using h0
   rw[yL h1];simp only[yO,qz2,yA];rw[show zcy (⟨41,[],0,[],[],q.1⟩:zf)=some ((zd0 (nd 41 q.1):Int),())from hd];simp only[qz1];by_cases hdp:64<zd0 (nd 41 q.1)
   ·rw[yL hdp,decide_eq_true (by omega)];rfl
   ·rw[yK hdp,decide_eq_false (by omega)];rfl
theorem zMh(src:Str)(hs:src.length<=100000000):ze6 src=some (true,()):=by
 have key: ∃(n:Node) (a e:Int),zdr src=some (n,a,e,())/\zeY src=some (n,a,e,())/\zbC n<=2097152:=by
  have b0:zbC (nd 0 [])<=2097152:=by rw[bu];decide
  by_cases he:(U.zel src).2.2=0
  ·have hc:U.zel src=((U.zel src).1,0,0):=by
    have h1:=U.zQz he;have:U.zel src=((U.zel src).1,(U.zel src).2.1,(U.zel src).2.2):=rfl;rw[h1,he]at this;exact this
   generalize (U.zel src).1=L at hc;obtain⟨t1,t2,t3⟩:=U.zpB hc
   have hz: ∀q,(pG (10*L.length+20)).stmts true (L.map tk)=gt q->zjw (nd 41 q.1)<=2097152:=λq hq=>by
    have:=(zJr hc hq).2;have:=zwi (nd 41 q.1);omega
   refine⟨_,_,_,zvv hs hc t1.ok (by omega) hz,zGA hs hc t1.ok t1.tw (by omega) hz,?_⟩;unfold zqL;cases hr:(pG (10*L.length+20)).stmts true (L.map tk)with
   |none=>exact b0
   |some r=>
    cases r with
    |inl k=>exact b0
    |inr q=>
     simp only;split
     ·split
      ·exact b0
      ·have:zbC (nd 41 q.1)<=500007:=(zJr hc hr).2;exact Nat.le_trans this (by decide)
     ·exact b0
  ·have hb:((U.zel src).2.2 !=0)=true:=by simpa using he
   refine⟨nd 0 [],(U.zel src).2.1,(U.zel src).2.2,?_,?_,b0⟩
   ·unfold zdr;rw[U.zCq src hs];simp only[qz1,hb,yB,zI];rfl
   ·unfold zeY;rw[U.zC9 src hs];simp only[qz1,hb,yB];rfl
 obtain⟨n,a,e,p1,p2,hb⟩:=key;unfold ze6;rw[p1,p2,zLN];simp only[qz1,yB,zt];rw[zRp n n hb hb,(zGY n n).2 rfl];simp only[qz1,beq_self_eq_true,Bool.and_self]
end Go.D08
