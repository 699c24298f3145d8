/- Texts for a statement of this seat. -/
import Derived.Test.YtdapbipagjmolaaGreatDoorMc4
import Derived.ProofKit
import Derived.OpenShut
import Derived.Deep.DeepHandedRow
import Derived.Lib.LaidTab
import Derived.Deep.Slices
import Derived.ChangeShapes
import Derived.DataReads
import Derived.LaidSub
import Derived.MakeChecks
import Derived.Lay
import Derived.Deep.DeepWitnessRowRef
import Derived.Stop.LaidErr
import Derived.Test.YtdapbipagjmolaaGreatDoorRows
import Derived.Test.YtdapbipagjmolaaGreatDoorCards
import Derived.Test.YtdapbipagjmolaaGreatDoorTie
set_option linter.unusedSectionVars false
set_option linter.unusedVariables false
set_option linter.unusedSimpArgs false
set_option linter.unnecessarySimpa false
namespace Go.D08
open Go Go.Gw Go.Dn Go.Proofs
set_option maxRecDepth 100000
theorem zmW{α β γ:Type}(x:PR α)(f:α×zD->PR β)(g:β×zD->PR γ):(x.bd f).bd g=x.bd λp=>(f p).bd g:=by
 cases x with
 |none=>rfl
 |some p=>cases p<;>rfl
theorem zun{β γ:Type}(x:PR Unit)(f:zD->PR β)(g:β×zD->PR γ):(x.bn f).bd g=x.bn λp=>(f p).bd g:=zmW x (λq=>f q.2) g
theorem zvE(i:Int)(h1:0<=i)(h2:i<=9007199254740991):(Lib.itoa i).length<=21:=Lib.itoa_length_le i (by omega) (by omega)
theorem itoa_ascii(i:Int)(h1:0<=i): ∀b∈Lib.itoa i,b<128:=by
 rw[zzF i h1];intro b hb;have:=(zvb (i.toNat+1) i.toNat (by omega)).2.1 b hb;have h2:=of_decide_eq_true this;have h3:b.toNat<=57:=h2.2;show b.toNat<128;omega
theorem zqJ(s:Str):(wide s).length=2*s.length:=by
 induction s with
 |nil=>rfl
 |cons c s ih=>unfold wide at ih⊢;rw[List.flatMap_cons,qz5,ih];simp;omega
theorem zBC(s:Str)(c:UInt8):wide (s++[c])=wide s++[0,c]:=by simp[wide]
theorem zAi(s:Str)(hs:s.length<=1000000000)(h128: ∀b∈s,b<128): ∀(b a:Str),s=a++b->
  zaL zg3 (b.length+1) (s,((s.length:Nat):Int),((a.length:Nat):Int),wide a++List.replicate (2*b.length) 0,())=some (wide s,0,())
 | [],a,h=>by
  refine zbf ?_;obtain rfl:s=a:=by rw[h];simp
  have hc: ¬(((s.length:Nat):Int)< ((s.length:Nat):Int)):=by omega
  simp only[zg3,hc,decide_false,qz2,yA,qz6,Nat.mul_zero,List.replicate_zero,List.append_nil]
 |c::b,a,h=>by
  have hlen:s.length=a.length+(b.length+1):=by rw[h];simp
  have hc:((a.length:Nat):Int)< ((s.length:Nat):Int):=by omega
  have hb:c<128:=h128 c (by rw[h];simp)
  have hget:s[a.length]? =some c:=by rw[h];simp
  have hlt: ¬(((c.toNat:Nat):Int)>=128):=by
   have:c.toNat<128:=hb;omega
  have w1:IntKind.wrap .i64 (2*((a.length:Nat):Int))=((2*a.length:Nat):Int):=by rw[wrap_i64 (by omega) (by omega)];omega
  have w2:IntKind.wrap .i64 (((2*a.length:Nat):Int)+1)=((2*a.length+1:Nat):Int):=by rw[wrap_i64 (by omega) (by omega)];omega
  have w3:IntKind.wrap .i64 (((a.length:Nat):Int)+1)=((a.length+1:Nat):Int):=by rw[wrap_i64 (by omega) (by omega)];omega
  have hrow:wide a++List.replicate (2*(b.length+1)) (0:UInt8)=(wide a++[0])++0::List.replicate (2*b.length) 0:=by
   rw[show 2*(b.length+1)=2*b.length+1+1 by omega,List.replicate_succ,List.replicate_succ];simp
  have hl1:(wide a++[0]).length=2*a.length+1:=by rw[qz5,zqJ];rfl
  have hg: ∀x,zQ ((wide a++[0])++x::List.replicate (2*b.length) (0:UInt8)) ((2*a.length+1:Nat):Int)=some x:=λx=>by
   rw[zkY,<-hl1];simp
  have hset:((wide a++[0])++0::List.replicate (2*b.length) (0:UInt8)).set (((2*a.length+1:Nat):Int)).toNat c=wide (a++[c])++List.replicate (2*b.length) 0:=by
   rw[Int.toNat_natCast,<-hl1,zBC];simp
  have hto:zBm ((c.toNat:Nat):Int)=some c:=by rw[zFR,zIp (by omega) (zI8 c)];simp
  have hstep:zg3 (s,((s.length:Nat):Int),((a.length:Nat):Int),wide a++List.replicate (2*(b.length+1)) 0,())=some (.inl (s,((s.length:Nat):Int),(((a++[c]).length:Nat):Int),wide (a++[c])++List.replicate (2*b.length) 0,())):=by
   simp only[zg3,hc,decide_true,yB,zuO,hget,Option.map_some,qz1,hlt,decide_false,qz2,yA,w1,w2,w3,hrow,hg,hto,hset];rw[qz5];rfl
  rw[qz3,zdh hstep];exact zAi s hs h128 b (a++[c]) (by rw[h];simp)
theorem zkW(s:Str)(hs:s.length<=1000000000)(h128: ∀b∈s,b<128):zkQ s=some (wide s,0,()):=by
 unfold zkQ;have w1:IntKind.wrap .i64 (2*((s.length:Nat):Int))=((2*s.length:Nat):Int):=by rw[wrap_i64 (by omega) (by omega)];omega
 simp only[w1];rw[show zu6 ((2*s.length:Nat):Int)=some (2*s.length) by unfold zu6;rw[yL (by omega),Int.toNat_natCast]]
 simp only[qz1];exact zfy (zAi s hs h128 s [] rfl) (by omega)
section
variable {α β γ δ ρ σ:Type} {L0 L:List zl} {no:Bool} {E':Int->σ->Prop} {O':β->List zl->σ->Prop}
theorem zH3(ok:TL L0 L):SG L0 ER (OL no) (zgE (pp L no)) (zmO (L.map tk)):=by
 obtain⟨x,r,rfl⟩:=ok.ok.cons;have k4:=zfi ok 4;have k3:=zfi ok 3;have k1:=zfi ok 1;have k2:=zfi ok 2;rw[show((4:Nat):Int)=4 from rfl]at k4;rw[show((3:Nat):Int)=3 from rfl]at k3;rw[show((1:Nat):Int)=1 from rfl]at k1;rw[show((2:Nat):Int)=2 from rfl]at k2;have tl: ∀{k:Nat},(zI ((x::r).map tk)==k)=true->k≠0->TL L0 r:=λh hk=>ok.tail (zaU h hk)
 have tx:=ok.ok.texts x qz7;have asc:=ok.ok.ascii x qz7;have num:=ok.ok.nums x qz7;unfold zgE;simp only[zK,zck,qz1,k4,k3,k1,k2];show SG _ _ _ _ (if(zI ((x::r).map tk)==4)=true then gt (x.Text,r.map tk)else if(zI ((x::r).map tk)==3)=true then gt (wide (Lib.itoa x.Num),r.map tk)else if(zI ((x::r).map tk)==1||zI ((x::r).map tk)==2)=true then gt (wide x.Text,r.map tk)else bad ((x::r).map tk));cases h4:zI ((x::r).map tk)==4 with
 |true=>
  simp only[yB];exact .take ok (zaU h4 (by decide)) λa ha ok1=> .gt ok1 rfl
 |false=>
  simp only[qz2,yA];cases h3:zI ((x::r).map tk)==3 with
  |true=>
   simp only[yB];have e3:x.Kind=3:=eq_of_beq (k3.trans h3);rw[fmt10 x.Num (num e3).1 (num e3).2];simp only[qz1];refine .take ok (zaU h3 (by decide)) λa ha ok1=>?_
   simp only;rw[zkW (Lib.itoa x.Num) (by have:=zvE x.Num (num e3).1 (num e3).2;omega) (itoa_ascii x.Num (num e3).1)]
   exact .gt ok1 rfl
  |false=>
   simp only[qz2,yA];cases h1:zI ((x::r).map tk)==1 with
   |true=>
    simp only[Bool.true_or,yB];have e1:x.Kind=1:=eq_of_beq (k1.trans h1);refine .take ok (zaU h1 (by decide)) λa ha ok1=>?_
    simp only;rw[zkW x.Text (by omega) (asc (.inl e1))];exact .gt ok1 rfl
   |false=>
    simp only[qz2,yA,Bool.false_or];cases h2:zI ((x::r).map tk)==2 with
    |true=>
     simp only[yB];have e2:x.Kind=2:=eq_of_beq (k2.trans h2);refine .take ok (zaU h2 (by decide)) λa ha ok1=>?_
     simp only;rw[zkW x.Text (by omega) (asc (.inr e2))];exact .gt ok1 rfl
    |false=>
     simp only[qz2,yA];exact .fail ok λa=>⟨_,rfl,_,rfl⟩
end
section
variable {L0 L:List zl} {no:Bool} {n M:Nat} (H: ∀k,k<=n->∀N,20*k+20<=N->zqK L0 (RG N) (pG k)) (hn:n<=10000000000) (hM:20*n+30<=M)
include H hn hM
theorem zDP(l:List Node)(hl:l.length<=20000000000)(ok:TL L0 L):SG L0 EL (λ(v:Node) L' r=>r= .inr (pp L' no,8,[],0,[],[],l++[v],())) ((RG M).zb4 (pp L no) 8 [] 0 [] [] l)
  ((zmO (L.map tk)).bd λk=>(zaw [58] k.2).bn λt1=>((pG n).assign no t1).bd λx=>gt (⟨9,[],0,k.1,[],[x.1]⟩,x.2)):=by
 obtain⟨M,rfl⟩: ∃k,M=k+1:=⟨M -1,by omega⟩
 show SG _ _ _ (zd8 (RG M) (pp L no) 8 [] 0 [] [] l) _;unfold zd8;simp only[zK,zC,zdS];refine .r (zH3 ok) (λ_ _=>⟨_,rfl,_,rfl⟩) λk L1 ok1=>?_
 refine .need ok1 (λ_ _=>⟨_,rfl,_,rfl⟩) λL2 ok2=>?_
 refine .r ((H n (yJ _) M (by omega)).assign no L2 ok2) (λ_ _=>⟨_,rfl,_,rfl⟩) λv L3 ok3=>?_
 simp only[qz3,qz6,Nat.zero_add];rw[zfz (by omega)];simp only[qz1,zyy,zAk];exact .gt ok3 rfl
theorem zz8: ∀(k m:Nat),k<=n+1->k<=m->∀(l:List Node) (L:List zl),l.length+k<=n+1->TL L0 L->
  SG L0 EL (λ(v:List Node) L' r=>r= .inr (pp L' false,[125],8,[],0,[],[],l++v,true,())) (zaL (zcb (RG M)) m (pp L false,[125],8,[],0,[],[],l,true,())) ((pG k).props (L.map tk))
 |0,m,_,_,l,L,_,ok=>trivial
 |k+1,0,_,hm,l,L,_,ok=>by omega
 |k+1,m+1,hk,hm,l,L,hl,ok=>by
  show SG _ _ _ _ (zgh (pG k) (L.map tk))
  have e:zgh (pG k) (L.map tk)=if tIs [125] (L.map tk)=true then gt ([],(L.map tk).tail)else
    ((zmO (L.map tk)).bd λk'=>(zaw [58] k'.2).bn λt1=>((pG k).assign false t1).bd λx=>gt ((⟨9,[],0,k'.1,[],[x.1]⟩:Node),x.2)).bd λx=>
     if tIs [125] x.2=true then gt ([x.1],x.2.tail)else(zaw [44] x.2).bn λt2=>((pG k).props t2).bd λl=>gt (x.1::l.1,l.2):=by
   unfold zgh;simp only[zmW,zun,zEZ]
  have ih:=λl L hl ok=>zz8 k m (by omega) (by omega) l L hl ok
  rw[e,zdZ];generalize zaL (zcb (RG M)) m=W at ih⊢;unfold zcb;simp only[zK];refine .assoc (.has ok (λh ok1=>?_) λh=>?_)
  ·simp only[yO,qz2,yA];exact .gt' ok1 (by rw[yM]) (by simp)
  ·simp only[yN,yB];refine .assoc ((zDP (no:=false) (λj hj=>H j (by omega)) (by omega) (by omega) l (by omega) ok).gen (by rintro a _ ⟨y,rfl⟩;exact⟨_,rfl,_,rfl⟩) ?_)
   rintro x L1 _ _ ok1 rfl;refine .assoc (.has ok1 (λh ok2=>?_) λh=>?_)
   ·simp only[yB];exact .gt' ok2 (by rw[yM]) rfl
   ·simp only[qz2,yA];refine .assoc (.need ok1 (λ_ _=>⟨_,rfl,_,rfl⟩) λL2 ok2=>?_);simp only[yO,qz2,yA];exact(ih (l++[x]) L2 (by rw[qz5];simp only[qz3,qz6];omega) ok2).map (λv=>x::v) (by rintro v L' _ rfl;simp)
theorem zD8(h9:20*n+39<=M)(ok:TL L0 L):SG L0 EL (λ(l:List Node) L' r=>r= .inr (pp L' no,8,[],0,[],[],l,())) (zdY (RG M) [125] true (pp L no) 8 [] 0 [] [] []) (zgh (pG n) (L.map tk)):=by
 obtain⟨M,rfl⟩: ∃k,M=k+2:=⟨M -2,by omega⟩
 show SG _ _ _ _ ((pG (n+1)).props (L.map tk))
 have h1:SG L0 EL (λ(v:List Node) L' r=>r= .inr (pp L' false,[125],8,[],0,[],[],v,true,())) (zdo (RG M) (pp L false) [125] 8 [] 0 [] [] [] true) ((pG (n+1)).props (L.map tk)):=by
  unfold zdo;simp only[zK];exact .loop (zz8 H hn (by omega) (n+1) 1000000000000 (yJ _) (by omega) [] L (by simp) ok) (yJ _)
 have h2:SG L0 EL (λ(v:List Node) L' r=>r= .inr (pp L' no,[125],8,[],0,[],[],v,true,())) (zdt (RG (M+1)) (pp L no) [125] 8 [] 0 [] [] [] true) ((pG (n+1)).props (L.map tk)):=by
  unfold zdt;simp only[zK];exact h1.same (by rintro a _ ⟨y,rfl⟩;exact⟨_,rfl,_,rfl⟩) (by rintro v L' _ _ rfl;exact⟨_,rfl,rfl⟩)
 unfold zdY;simp only[zK];exact h2.same (by rintro a _ ⟨y,rfl⟩;exact⟨_,rfl,_,rfl⟩) (by rintro v L' _ _ rfl;exact⟨_,rfl,rfl⟩)
theorem zGy(h9:20*n+35<=M)(ok:TL L0 L)(h1:(zI (L.map tk)==1)=false)(h3:(zI (L.map tk)==3)=false)(h4:(zI (L.map tk)==4)=false):SG L0 ER (OL no) ((RG M).zcu (pp L no)) (zd1 (pG n) (L.map tk)):=by
 obtain⟨M,rfl⟩: ∃k,M=k+1:=⟨M -1,by omega⟩
 have S:=H n (yJ _) M (by omega);show SG _ _ _ (zfo (RG M) (pp L no)) _;unfold zfo zd1;simp only[zK,zC,h1,h3,h4,qz2,yA];refine .has ok (λh ok1=> .gt' ok1 (by rw[yM]) rfl) λh=>?_
 simp only[qz2,yA];refine .has ok (λh ok1=> .gt' ok1 (by rw[yM]) rfl) λh=>?_
 simp only[qz2,yA];refine .has ok (λh ok1=> .gt' ok1 (by rw[yM]) rfl) λh=>?_
 simp only[qz2,yA];refine .has ok (λh ok1=> .gt' ok1 (by rw[yM]) rfl) λh=>?_
 simp only[qz2,yA];refine .has ok (λh ok1=>?_) λh=>?_
 ·simp only[yB];rw[<-yM];exact .ll (S.func no 10 _ ok1) (λ_ _=>⟨_,rfl,_,rfl⟩) λv L'=>⟨_,rfl,rfl⟩
 simp only[qz2,yA];refine .has ok (λh ok1=>?_) λh=>?_
 ·simp only[yB];rw[<-yM];refine(zDl H hn (by omega) ok1).gen (by rintro a _ ⟨y,rfl⟩;exact⟨_,rfl,_,rfl⟩) ?_
  rintro y L3 _ _ ok3 rfl;exact .need ok3 (λ_ _=>⟨_,rfl,_,rfl⟩) λL4 ok4=> .gt ok4 rfl
 simp only[qz2,yA];refine .has ok (λh ok1=>?_) λh=>?_
 ·simp only[yB];rw[<-yM];exact .r (S.exprs no _ _ _ ok1) (λ_ _=>⟨_,rfl,_,rfl⟩) λl L4 ok4=> .gt ok4 rfl
 simp only[qz2,yA];refine .has ok (λh ok1=>?_) λh=>?_
 ·simp only[yB];rw[<-yM];refine(S.props no _ ok1).gen (by rintro a _ ⟨y,rfl⟩;exact⟨_,rfl,_,rfl⟩) ?_
  rintro l L3 _ _ ok3 rfl;exact .gt ok3 rfl
 simp only[qz2,yA];exact .fail ok λa=>⟨_,rfl,_,rfl⟩
theorem zGj(h9:20*n+39<=M)(ok:TL L0 L):SG L0 ER (OL no) (zdU (RG M) (pp L no)) (zd1 (pG n) (L.map tk)):=by
 have hs:=zGy (no:=no) H hn hM (by omega) ok;obtain⟨x,r,rfl⟩:=ok.ok.cons;have k4:=zfi ok 4;have k3:=zfi ok 3;have k1:=zfi ok 1;rw[show((4:Nat):Int)=4 from rfl]at k4;rw[show((3:Nat):Int)=3 from rfl]at k3;rw[show((1:Nat):Int)=1 from rfl]at k1;unfold zdU;simp only[zK,zC,zck,qz1,k4,k3,k1];cases h1:zI ((x::r).map tk)==1 with
 |true=>
  unfold zd1;simp only[h1,yB];exact .take ok (zaU h1 (by decide)) λa ha ok1=> .gt ok1 rfl
 |false=>
  simp only[qz2,yA];cases h3:zI ((x::r).map tk)==3 with
  |true=>
   unfold zd1;simp only[h1,h3,yB,qz2,yA];exact .take ok (zaU h3 (by decide)) λa ha ok1=> .gt ok1 rfl
  |false=>
   simp only[qz2,yA];cases h4:zI ((x::r).map tk)==4 with
   |true=>
    unfold zd1;simp only[h1,h3,h4,yB,qz2,yA];exact .take ok (zaU h4 (by decide)) λa ha ok1=> .gt ok1 rfl
   |false=>
    simp only[qz2,yA];exact .rr (hs h1 h3 h4) (λ_ _=>⟨_,rfl,_,rfl⟩) λv L'=>⟨_,rfl,rfl⟩
end
theorem zAL{t:zD}(w:Wf t):zdR t=if tIs [41] t=true then gt ([],t.tail)else if(zI t==1)=true then
  (if tIs [41] t.tail=true then gt ([tText t],t.tail.tail)else(zaw [44] t.tail).bn λt'=>if tIs [41] t'=true then bad t' else(zdR t').bd λl=>gt (tText t::l.1,l.2))else bad t:=by
 unfold zdR;by_cases h:tIs [41] t=true
 ·rw[yL h,yL h]
 ·rw[yK h,yK h]
  match t,w with
  | [],w=>exact absurd w.pos (by simp)
  | [a],w=>
   have h0:a.kind=0:=by
    obtain⟨p,e,h1,h2,_⟩:=w;cases p with
    |nil=>simp at h1;rw[h1];exact h2
    |cons x p=>simp at h1
   have:(zI [a]==1)=false:=by show(a.kind==1)=false;rw[h0];rfl
   rw[this];rfl
  |a::b::r,w=>
   rw[zfO];by_cases h1:(a.kind==1)=true
   ·rw[yL h1,yL (show(zI (a::b::r)==1)=true from h1)];by_cases h2:tIs [41] (b::r)=true
    ·rw[yL h2,yL (show tIs [41] (a::b::r).tail=true from h2)];rfl
    ·rw[yK h2,yK (show ¬tIs [41] (a::b::r).tail=true from h2)];unfold zaw;by_cases h3:tIs [44] (b::r)=true
     ·rw[yL h3,yL (show tIs [44] (a::b::r).tail=true from h3)];show(if tIs [41] r=true then _ else _)=(if tIs [41] r=true then _ else _)
      by_cases h4:tIs [41] r=true
      ·rw[yL h4,yL h4];rfl
      ·rw[yK h4,yK h4];show(zfO r).bd _=(if tIs [41] r=true then gt ([],r.tail)else zfO r).bd _;rw[yK h4];rfl
     ·rw[yK h3,yK (show ¬tIs [44] (a::b::r).tail=true from h3)];rfl
   ·rw[yK h1,yK (show ¬(zI (a::b::r)==1)=true from h1)]
theorem TOk.wf{L:List zl}(h:TOk L):Wf (L.map tk):=by
 obtain⟨a,e,h1,h2,h3⟩:=h.last;refine⟨a.map tk,tk e,by rw[h1];simp,by unfold tk;rw[h2];rfl,λx hx=>?_⟩
 obtain⟨y,hy,rfl⟩:=List.mem_map.1 hx;have h4:=h3 y hy;have h5:=(h.kinds y (by rw[h1];exact List.mem_append_left _ hy)).1
 show y.Kind.toNat≠0;omega
section
variable {L0 L:List zl} {no:Bool}
theorem zzZ(kd:Int)(nm:Str): ∀(m:Nat) (L:List zl) (l:List Str),L.length<m->l.length+L.length<=20000000000->TL L0 L->
  SG L0 EL (λ(v:List Str) L' r=>r= .inr (pp L' false,[41],kd,nm,0,[],l++v,[],false,())) (zaL zcG m (pp L false,[41],kd,nm,0,[],l,[],false,())) (zdR (L.map tk))
 |0,L,l,hm,_,_=>by omega
 |m+1,L,l,hm,hl,ok=>by
  have ih:=λL l hm hl ok=>zzZ kd nm m L l hm hl ok
  rw[zAL ok.ok.wf,zdZ];generalize zaL zcG m=W at ih⊢;unfold zcG zfw;simp only[zK];refine .assoc (.has ok (λh ok1=>?_) λh=>?_)
  ·simp only[yO,qz2,yA];exact .gt' ok1 (by rw[yM]) (by simp)
  ·simp only[yN,yB];refine .assoc (.assoc (.name ok (λ_ _=>⟨_,rfl,_,rfl⟩) λhk ok1=>?_))
   have hlen:L.tail.length+1=L.length:=by
    obtain⟨x,r,rfl⟩:=ok.ok.cons;rfl
   simp only[qz3,qz6,Nat.zero_add];rw[zfz (by omega)];simp only[qz1];rw[<-yM,<-yM];refine .assoc (.has ok1 (λh ok2=>?_) λh=>?_)
   ·simp only[yB];exact .gt' ok2 rfl rfl
   ·simp only[qz2,yA];refine .assoc (.need' ok1 (λ_ _=>⟨_,rfl,_,rfl⟩) λL2 ok2 hl2=>?_);simp only[yN,yB];refine .assoc (.is ok2 (λh=>?_) λh=>?_)
    ·simp only[yB];exact .assoc (.fail ok2 λa=>⟨_,rfl,_,rfl⟩)
    ·simp only[qz2,yA];exact(ih L2 (l++[tText (L.map tk)]) (by omega) (by rw[qz5];simp only[qz3,qz6];omega) ok2).map (λv=>tText (L.map tk)::v) (by rintro v L' _ rfl;simp)
theorem zDz(kd:Int)(nm:Str)(ok:TL L0 L)(hlen:L.length<=10000000000):SG L0 EL (λ(v:List Str) L' r=>r= .inr (pp L' no,kd,nm,0,[],v,[],())) (zf4 [41] false (pp L no) kd nm 0 [] [] []) (zdR (L.map tk)):=by
 have h1:SG L0 EL (λ(v:List Str) L' r=>r= .inr (pp L' false,[41],kd,nm,0,[],v,[],false,())) (zfb (pp L false) [41] kd nm 0 [] [] [] false) (zdR (L.map tk)):=by
  unfold zfb;simp only[zK];exact .loop (zzZ kd nm (L.length+1) L [] (by omega) (by simp;omega) ok) (by omega)
 have h2:SG L0 EL (λ(v:List Str) L' r=>r= .inr (pp L' no,[41],kd,nm,0,[],v,[],false,())) (zfc (pp L no) [41] kd nm 0 [] [] [] false) (zdR (L.map tk)):=by
  unfold zfc;simp only[zK];exact h1.same (by rintro a _ ⟨y,rfl⟩;exact⟨_,rfl,_,rfl⟩) (by rintro v L' _ _ rfl;exact⟨_,rfl,rfl⟩)
 unfold zf4;simp only[zK];exact h2.same (by rintro a _ ⟨y,rfl⟩;exact⟨_,rfl,_,rfl⟩) (by rintro v L' _ _ rfl;exact⟨_,rfl,rfl⟩)
end
section
variable {L0 L:List zl} {no:Bool} {n M:Nat} (H: ∀k,k<=n->∀N,20*k+20<=N->zqK L0 (RG N) (pG k)) (hn:n<=10000000000) (hM:20*n+30<=M) (h0:L0.length<=10000000000)
include H hn hM
theorem zDe(k:Int)(nm:Str)(ns:List Str)(ok:TL L0 L):SG L0 ER (λ(v:List Node) L' r=>r= .inl (pp L' no,k,nm,0,[],v,ns,[],())) ((RG M).zbA (pp L no) k nm 0 [] ns []) ((pG n).stmts true (L.map tk)):=by
 obtain⟨M,rfl⟩: ∃k,M=k+2:=⟨M -2,by omega⟩
 have h1:SG L0 ER (λ(v:List Node) L' r=>r= .inl (pp L' false,k,nm,0,[],v,ns,[],())) (zc5 (RG M) (pp L false) k nm 0 [] ns []) ((pG n).stmts true (L.map tk)):=by
  unfold zc5;simp only[zK,zC];exact .rr ((H n (yJ _) M (by omega)).stmts true L ok) (λ_ _=>⟨_,rfl,_,rfl⟩) λv L'=>⟨_,rfl,rfl⟩
 show SG _ _ _ (zdr (RG (M+1)) (pp L no) k nm 0 [] ns []) _;unfold zdr;simp only[zK,zC];exact h1.same (by rintro a _ ⟨y,rfl⟩;exact⟨_,rfl,_,rfl⟩) (by rintro v L' _ _ rfl;exact⟨_,rfl,rfl⟩)
include h0 in
theorem zCT(k:Int)(nm:Str)(ok:TL L0 L):SG L0 EL (OR no) (zcl (RG M) (pp L no) 0 [] 0 [] k nm 0 [] [] [] [] [])
  ((zaw [40] (L.map tk)).bn λt=>(zdR t).bd λns=>(zaw [123] ns.2).bn λt=>((pG n).stmts true t).bd λl=>(zaw [125] l.2).bn λt=>gt (⟨k,nm,0,[],ns.1,l.1⟩,t)):=by
 unfold zcl zeS ze2 zeX;simp only[zK,zC];refine .need ok (λ_ _=>⟨_,rfl,_,rfl⟩) λL1 ok1=>?_
 refine(zDz (no:=no) k nm ok1 (by have:=ok1.suf.length_le;omega)).gen (by rintro a _ ⟨y,rfl⟩;exact⟨_,rfl,_,rfl⟩) ?_
 rintro ns L2 _ _ ok2 rfl;refine .need ok2 (λ_ _=>⟨_,rfl,_,rfl⟩) λL3 ok3=>?_
 refine(zDe (no:=no) H hn hM k nm ns ok3).gen (by rintro a _ ⟨y,rfl⟩;exact⟨_,rfl,_,rfl⟩) ?_
 rintro l L4 _ _ ok4 rfl;exact .need ok4 (λ_ _=>⟨_,rfl,_,rfl⟩) λL5 ok5=> .gt ok5 rfl
include h0 in
theorem zG1(k:Int)(ok:TL L0 L):SG L0 EL (OR no) (zdF (RG M) k (pp L no)) (ziX (pG n) k (L.map tk)):=by
 obtain⟨x,r,rfl⟩:=ok.ok.cons;have hk:=zfi ok 1;rw[show((1:Nat):Int)=1 from rfl]at hk;have h1:=λ(L1:List zl) nm ok1=>zCT (no:=no) (L:=L1) H hn hM h0 k nm ok1
 unfold zdF ziX;simp only[zK,zC,zck,qz1,hk];cases h39:k==39 with
 |true=>
  simp only[yB,qz1];have e: ∀(f:Str×zD->PR Node),((if(zI ((x::r).map tk)==1)=true then gt (tText ((x::r).map tk),((x::r).map tk).tail)else bad ((x::r).map tk)).bd f)=if(zI ((x::r).map tk)==1)=true then f (tText ((x::r).map tk),((x::r).map tk).tail)else bad ((x::r).map tk):=λf=>by split<;>rfl
  rw[e];refine .name ok (λ_ _=>⟨_,rfl,_,rfl⟩) λhk ok1=>?_
  rw[<-yM];exact h1 _ _ ok1
 |false=>
  simp only[qz2,yA,qz1];cases hk1:zI ((x::r).map tk)==1 with
  |true=>
   simp only[yB];have e: ∀(f:Str×zD->PR Node),((Go.D08.gt (tText ((x::r).map tk),((x::r).map tk).tail)).bd f)=if(zI ((x::r).map tk)==1)=true then f (tText ((x::r).map tk),((x::r).map tk).tail)else bad ((x::r).map tk):=λf=>by rw[yL hk1];rfl
   rw[e];refine .name ok (λ_ _=>⟨_,rfl,_,rfl⟩) λhk ok1=>?_
   rw[<-yM];exact h1 _ _ ok1
  |false=>
   simp only[qz2,yA,zEZ];exact h1 _ _ ok
theorem zAl: ∀(k m:Nat),k<=n+1->k<=m->∀(l:List Node) (L:List zl),l.length+k<=n+1->TL L0 L->
  SG L0 EL (λ(v:List Node) L' r=>r= .inr (nd 22 (l++v),pp L' no,())) (zaL (zdc (RG M)) m (pp L no,0,[],0,[],22,[],0,[],[],[],[],l,())) ((pG k).vars no (L.map tk))
 |0,m,_,_,l,L,_,ok=>trivial
 |k+1,0,_,hm,l,L,_,ok=>by omega
 |k+1,m+1,hk,hm,l,L,hl,ok=>by
  have ih:=λl L hl ok=>zAl k m (by omega) (by omega) l L hl ok
  show SG _ _ _ _ (ziZ (pG k) no (L.map tk));rw[zdZ];generalize zaL (zdc (RG M)) m=W at ih⊢
  have fin: ∀(d:List Node) (L1:List zl),TL L0 L1->SG L0 EL (λ(v:List Node) L' r=>r= .inr (nd 22 (l++v),pp L' no,()))
    ((zdb (RG M) (pp L1 no) 0 [] 0 [] 22 [] 0 [] 23 (tText (L.map tk)) 0 [] [] [] [] l [] d).bind (zyO W))
    (if tIs [44] (L1.map tk)=true then((pG k).vars no (L1.map tk).tail).bd λq=>gt (ndN 23 (tText (L.map tk)) d::q.1,q.2)else gt ([ndN 23 (tText (L.map tk)) d],L1.map tk)):=λd L1 ok1=>by
   unfold zdb zgR;simp only[zK,qz3,qz6,Nat.zero_add];rw[zfz (by omega)];simp only[qz1];refine .assoc (.has ok1 (λh ok2=>?_) λh=>?_)
   ·simp only[yO,qz2,yA];rw[<-yM];exact(ih (l++[ndN 23 (tText (L.map tk)) d]) _ (by rw[qz5];simp only[qz3,qz6];omega) ok2).map (λv=>ndN 23 (tText (L.map tk)) d::v) (by rintro v L' _ rfl;simp)
   ·simp only[yN,yB];exact .gt ok1 rfl
  unfold ziZ;unfold zdc;simp only[zK,zC];refine .assoc (.name ok (λ_ _=>⟨_,rfl,_,rfl⟩) λhk1 ok1=>?_)
  have e: ∀(f:List Node×zD->PR (List Node)),((if tIs [61] (L.map tk).tail=true then((pG k).assign no (L.map tk).tail.tail).bd λy=>Go.D08.gt ([y.1],y.2)else Go.D08.gt ([],(L.map tk).tail)).bd f)=
    if tIs [61] (L.tail.map tk)=true then((pG k).assign no (L.tail.map tk).tail).bd λy=>f ([y.1],y.2)else f ([],L.tail.map tk):=λf=>by
   rw[yM];split
   ·rw[zmW];rfl
   ·rfl
  rw[e];refine .assoc (.has ok1 (λh ok2=>?_) λh=>?_)
  ·simp only[yB];rw[<-yM];refine .assoc (.r ((H k (by omega) M (by omega)).assign no _ ok2) (λ_ _=>⟨_,rfl,_,rfl⟩) λy L3 ok3=>?_);exact fin [y] L3 ok3
  ·simp only[qz2,yA];exact fin [] _ ok1
theorem zFL(ok:TL L0 L):SG L0 EL (λl L' r=>r= .inr (nd 22 l,pp L' no,())) (zfj (RG M) (pp L no)) (ziZ (pG n) no (L.map tk)):=by
 unfold zfj;simp only[zK];exact .loop (zAl H hn hM (n+1) 1000000000000 (yJ _) (by omega) [] L (by simp) ok) (yJ _)
theorem zC7(ok:TL L0 L):SG L0 EL (OR false) (zeD (RG M) (pp L false)) (zgX (pG n) (L.map tk)):=by
 unfold zeD zgX;simp only[zK,zC,zdS];refine .need ok (λ_ _=>⟨_,rfl,_,rfl⟩) λL1 ok1=>?_
 refine .r ((H n (yJ _) M (by omega)).stmts false L1 ok1) (λ_ _=>⟨_,rfl,_,rfl⟩) λl L2 ok2=>?_
 exact .need ok2 (λ_ _=>⟨_,rfl,_,rfl⟩) λL3 ok3=> .gt ok3 rfl
theorem zE4(ok:TL L0 L):SG L0 EL (OR false) (ze6 (RG M) (pp L false)) (zle (pG n) (L.map tk)):=by
 unfold ze6 zle;simp only[zK,zC,zdS];refine .need ok (λ_ _=>⟨_,rfl,_,rfl⟩) λL1 ok1=>?_
 refine .r ((H n (yJ _) M (by omega)).expr false L1 ok1) (λ_ _=>⟨_,rfl,_,rfl⟩) λl L2 ok2=>?_
 exact .need ok2 (λ_ _=>⟨_,rfl,_,rfl⟩) λL3 ok3=> .gt ok3 rfl
theorem zFr(s:Str)(ok:TL L0 L):SG L0 ER (OL false) (zev (RG M) s (pp L false)) (zgY (pG n) s (L.map tk)):=by
 unfold zev zgY;simp only[zK,zC,zdS];refine .has ok (λh ok1=>?_) λh=>?_
 ·exact .gt' ok1 (by rw[yM]) rfl
 ·refine .r ((H n (yJ _) M (by omega)).expr false L ok) (λ_ _=>⟨_,rfl,_,rfl⟩) λl L2 ok2=>?_
  exact .need ok2 (λ_ _=>⟨_,rfl,_,rfl⟩) λL3 ok3=> .gt ok3 rfl
theorem ztE(ok:TL L0 L):SG L0 EL (λv L' r=>r= .inr (zfm v,pp L' false,())) ((RG M).zaP (pp L false)) ((pG n).stmt (L.map tk)):=by
 obtain⟨M,rfl⟩: ∃k,M=k+1:=⟨M -1,by omega⟩
 show SG _ _ _ (ze8 (RG M) (pp L false)) _;unfold ze8;simp only[zK,zC];refine .ll ((H n (yJ _) M (by omega)).stmt L ok) (λ_ _=>⟨_,rfl,_,rfl⟩) λv L'=>?_
 simp only[bne];unfold zfm;cases v.Kind==25 with
 |true=>exact⟨_,rfl,rfl⟩
 |false=>exact⟨_,rfl,rfl⟩
def zBI(g:PG)(each:Bool)(x:Node)(t:zD):PR Node:=
 if(each&&tIs [105,110] t)=true then(g.expr false t.tail).bd λy=>(zaw [41] y.2).bn λt=>(g.stmt t).bd λb=>gt (nd 30 [x,y.1,zfm b.1],b.2)
 else(zaw [59] t).bn λt=>(g.till [59] t).bd λy=>(g.till [41] y.2).bd λz=>(g.stmt z.2).bd λb=>gt (nd 29 [x,y.1,z.1,zfm b.1],b.2)
theorem zDS(x:Node)(ok:TL L0 L):SG L0 EL (OR false) (zdj (RG M) (pp L false) 0 [] 0 [] 29 [] 0 [] [] [] [] [x])
  ((zaw [59] (L.map tk)).bn λt=>((pG n).till [59] t).bd λy=>((pG n).till [41] y.2).bd λz=>((pG n).stmt z.2).bd λb=>gt (nd 29 [x,y.1,z.1,zfm b.1],b.2)):=by
 have S:=H n (yJ _) M (by omega);unfold zdj zgP zgk zf9 zc1;simp only[zK,zC];refine .need ok (λ_ _=>⟨_,rfl,_,rfl⟩) λL1 ok1=>?_
 refine .r (S.till [59] L1 ok1) (λ_ _=>⟨_,rfl,_,rfl⟩) λy L2 ok2=>?_
 refine .r (S.till [41] L2 ok2) (λ_ _=>⟨_,rfl,_,rfl⟩) λz L3 ok3=>?_
 refine .room (by simp) ?_;refine(ztE H hn hM ok3).gen (by rintro a _ ⟨y,rfl⟩;exact⟨_,rfl,_,rfl⟩) ?_
 rintro b L4 _ _ ok4 rfl;exact .room (by simp) (.gt ok4 rfl)
theorem zEt(x:Node)(each:Bool)(ok:TL L0 L):SG L0 EL (OR false) (zc9 (RG M) each (pp L false) 0 [] 0 [] 29 [] 0 [] [] [] [] [x]) (zBI (pG n) each x (L.map tk)):=by
 have S:=H n (yJ _) M (by omega);have h8:=zDS H hn hM x ok;unfold zc9 zBI;simp only[zK,zC];cases each with
 |false=>
  simp only[qz2,yA,Bool.false_and];exact h8
 |true=>
  simp only[yB,Bool.true_and];refine .has ok (λh ok1=>?_) λh=>?_
  ·simp only[yB];unfold zgx zgC zgH zgD zc1;simp only[zK,zC];rw[<-yM];refine .r (S.expr false _ ok1) (λ_ _=>⟨_,rfl,_,rfl⟩) λy L2 ok2=>?_
   refine .room (by simp) ?_;refine .need ok2 (λ_ _=>⟨_,rfl,_,rfl⟩) λL3 ok3=>?_
   refine(ztE H hn hM ok3).gen (by rintro a _ ⟨y,rfl⟩;exact⟨_,rfl,_,rfl⟩) ?_
   rintro b L4 _ _ ok4 rfl;exact .room (by simp) (.gt ok4 rfl)
  ·simp only[qz2,yA];exact h8
theorem zG0(ok:TL L0 L):SG L0 EL (OR false) (zfl (RG M) (pp L false)) (zlc (pG n) (L.map tk)):=by
 have S:=H n (yJ _) M (by omega);have h3:=λ(L1:List zl) x each ok1=>zEt (L:=L1) H hn hM x each ok1
 unfold zfl zdg zgF zlc zkb;simp only[zK,zC,zxp,qz1];refine .need ok (λ_ _=>⟨_,rfl,_,rfl⟩) λL1 ok1=>?_
 have e: ∀(f:Node×zD->PR Node),((if tIs [118,97,114] (L1.map tk)=true then((pG n).vars true (L1.map tk).tail).bd λl=>Go.D08.gt (nd 22 l.1,l.2)else if tIs [59] (L1.map tk)=true then Go.D08.gt (nd 42 [],L1.map tk)else(pG n).expr true (L1.map tk)).bd f)=
   if tIs [118,97,114] (L1.map tk)=true then((pG n).vars true (L1.map tk).tail).bd λl=>f (nd 22 l.1,l.2)else if tIs [59] (L1.map tk)=true then f (nd 42 [],L1.map tk)else((pG n).expr true (L1.map tk)).bd f:=λf=>by
  split
  ·rw[zmW];rfl
  ·split<;>rfl
 rw[e];refine .has (no:=true) ok1 (λh ok2=>?_) λh=>?_
 ·simp only[yB];rw[<-yM];refine(S.vars true _ ok2).gen (by rintro a _ ⟨y,rfl⟩;exact⟨_,rfl,_,rfl⟩) ?_
  rintro l L3 _ _ ok3 rfl;rcases l with _| ⟨d,_| ⟨d2,r⟩⟩
  ·exact h3 L3 (nd 22 []) false ok3
  ·have hb:(((d.L.length:Nat):Int)==0)=d.L.isEmpty:=by
    cases d.L with
    |nil=>rfl
    |cons a r=>exact yH.2 (by simp only[qz3];omega)
   show SG _ _ _ (zc9 (RG M) (((d.L.length:Nat):Int)==0) (pp L3 false) 0 [] 0 [] 29 [] 0 [] [] [] [] [nd 22 [d]]) _;rw[hb];exact h3 L3 (nd 22 [d]) d.L.isEmpty ok3
  ·have hb:((((d::d2::r).length:Nat):Int)==1)=false:=by rw[yH];simp only[qz3];omega
   simp only[nd,hb,qz2,yA,qz1];exact h3 L3 (nd 22 (d::d2::r)) false ok3
 ·simp only[qz2,yA];refine .is (no:=true) ok1 (λh=>?_) λh=>?_
  ·simp only[yO,qz2,yA];exact h3 L1 (nd 42 []) false ok1
  ·simp only[yN,yB];refine(S.expr true _ ok1).gen (by rintro a _ ⟨y,rfl⟩;exact⟨_,rfl,_,rfl⟩) ?_
   rintro x L3 _ hq ok3 rfl;have hx:x.Kind≠22:=(zEQ n).expr _ _ _ hq;have he:ztT x=zgK x.Kind:=by unfold ztT;rw[yK (by simpa using hx)]
   show SG _ _ _ _ (if(ztT x&&tIs [105,110] (L3.map tk))=true then _ else _);rw[he];exact h3 L3 x (zgK x.Kind) ok3
end
section
variable {L0 L:List zl} {no:Bool} {n M:Nat} (H: ∀k,k<=n->∀N,20*k+20<=N->zqK L0 (RG N) (pG k)) (hn:n<=10000000000) (hM:20*n+30<=M) (h0:L0.length<=10000000000)
include H hn hM
theorem zGH(caught:Bool)(nm:Str)(b c:Node)(hc:(c.Kind==42)= !caught)(ok:TL L0 L):SG L0 EL (OR false) (zdM (RG M) caught (pp L false) 0 [] 0 [] 35 nm 0 [] [] [] [] [b,c,nd 42 []])
  ((zli (pG n) (L.map tk)).bd λf=>if(f.1.Kind==42&&c.Kind==42)=true then bad f.2 else gt (ndN 35 nm [b,c,f.1],f.2)):=by
 have S:=H n (yJ _) M (by omega);unfold zdM zhs zhf zeH zli;simp only[zK,zC]
 have e: ∀(f:Node×zD->PR Node),((if tIs [102,105,110,97,108,108,121] (L.map tk)=true then(pG n).block (L.map tk).tail else Go.D08.gt (nd 42 [],L.map tk)).bd f)=if tIs [102,105,110,97,108,108,121] (L.map tk)=true then((pG n).block (L.map tk).tail).bd f else f (nd 42 [],L.map tk):=λf=>by
  split<;>rfl
 rw[e];refine .has ok (λh ok1=>?_) λh=>?_
 ·simp only[yB];rw[<-yM];refine(S.block _ ok1).gen (by rintro a _ ⟨y,rfl⟩;exact⟨_,rfl,_,rfl⟩) ?_
  rintro f L2 _ hq ok2 rfl;have h25:f.Kind=25:=zyE hq;have hf:(f.Kind==42)=false:=by rw[h25];rfl
  simp only[hf,Bool.false_and,qz2,yA];exact .gt ok2 rfl
 ·simp only[qz2,yA,hc];cases caught with
  |true=>
   simp only[yO,qz2,yA,Bool.and_false];exact .gt ok rfl
  |false=>
   simp only[yN,yB];exact .fail ok λa=>⟨_,rfl,_,rfl⟩
theorem zIo(h9:20*n+35<=M)(ok:TL L0 L):SG L0 EL (OR false) ((RG M).zcR (pp L false)) (zqG (pG n) (L.map tk)):=by
 obtain⟨M,rfl⟩: ∃k,M=k+1:=⟨M -1,by omega⟩
 have S:=H n (yJ _) M (by omega);have h7:=λ(L1:List zl) caught nm b c hc ok1=>zGH (L:=L1) (M:=M) H hn (by omega) caught nm b c hc ok1
 show SG _ _ _ (zfM (RG M) (pp L false)) _;unfold zfM zfa zhg zhc zhp zhq zhb zqG znj;simp only[zK,zC,zdS];refine .l (S.block L ok) (λ_ _=>⟨_,rfl,_,rfl⟩) λb L1 ok1=>?_
 have e: ∀(x y:PR (Str×Node)) (f:(Str×Node)×zD->PR Node),((if tIs [99,97,116,99,104] (L1.map tk)=true then x else y).bd f)=if tIs [99,97,116,99,104] (L1.map tk)=true then x.bd f else y.bd f:=λx y f=>by
  split<;>rfl
 rw[e];refine .has ok1 (λh ok2=>?_) λh=>?_
 ·simp only[yB];rw[<-yM,zun];refine .need ok2 (λ_ _=>⟨_,rfl,_,rfl⟩) λL3 ok3=>?_
  have e2: ∀(x:PR (Str×Node)) (f:(Str×Node)×zD->PR Node),((if(zI (L3.map tk)==1)=true then x else bad (L3.map tk)).bd f)=if(zI (L3.map tk)==1)=true then x.bd f else bad (L3.map tk):=λx f=>by
   split<;>rfl
  rw[e2];refine .name ok3 (λ_ _=>⟨_,rfl,_,rfl⟩) λhk ok4=>?_
  rw[<-yM,zun];refine .need ok4 (λ_ _=>⟨_,rfl,_,rfl⟩) λL5 ok5=>?_
  rw[zmW];refine(S.block L5 ok5).gen (by rintro a _ ⟨y,rfl⟩;exact⟨_,rfl,_,rfl⟩) ?_
  rintro c L6 _ hq ok6 rfl;have h25:c.Kind=25:=zyE hq;exact h7 L6 true (tText (L3.map tk)) b c (by rw[h25];rfl) ok6
 ·simp only[qz2,yA];exact h7 L1 false [] b (nd 42 []) rfl ok1
theorem zBB(h9:20*n+35<=M)(ok:TL L0 L):SG L0 EL (OR false) ((RG M).zb3 (pp L false))
  (((pG n).head (L.map tk)).bd λx=>((pG n).stmt x.2).bd λb=>if tIs [101,108,115,101] b.2=true then((pG n).stmt b.2.tail).bd λc=>gt (nd 26 [x.1,zfm b.1,zfm c.1],c.2)else gt (nd 26 [x.1,zfm b.1],b.2)):=by
 obtain⟨M,rfl⟩: ∃k,M=k+1:=⟨M -1,by omega⟩
 have S:=H n (yJ _) M (by omega);have hb:=λ(L1:List zl) ok1=>ztE (L:=L1) (M:=M) H hn (by omega) ok1
 show SG _ _ _ (zed (RG M) (pp L false)) _;unfold zed zdV zf1 zf0;simp only[zK,zC,zdS];refine .l (S.head L ok) (λ_ _=>⟨_,rfl,_,rfl⟩) λx L1 ok1=>?_
 refine(hb L1 ok1).gen (by rintro a _ ⟨y,rfl⟩;exact⟨_,rfl,_,rfl⟩) ?_
 rintro b L2 _ _ ok2 rfl;refine .has ok2 (λh ok3=>?_) λh=>?_
 ·simp only[yB];rw[<-yM];refine(hb _ ok3).gen (by rintro a _ ⟨y,rfl⟩;exact⟨_,rfl,_,rfl⟩) ?_
  rintro c L4 _ _ ok4 rfl;exact .room (by simp) (.gt ok4 rfl)
 ·simp only[qz2,yA];exact .gt ok2 rfl
theorem zAa(o:Bool)(acc:List Node)(ha:acc.length<=20000000000): ∀(k m:Nat),k<=n->k<=m->∀(cur:List Node) (L:List zl),cur.length+k<=n+1->TL L0 L->
  SG L0 (λa r=>∃y,r= .inr (.inl (zU.code 45 a,y))) (λ(v:List Node) L' r=>r= .inl (o,pp L' false,0,[],0,[],36,[],0,[],[],[],[],acc++[nd 37 (cur++v)],()))
   (zaL (zc2 (RG M)) m (o,pp L false,0,[],0,[],36,[],0,[],37,[],0,[],[],[],[],acc,[],cur,())) ((pG k).body (L.map tk))
 |0,m,_,_,l,L,_,ok=>trivial
 |k+1,0,_,hm,l,L,_,ok=>by omega
 |k+1,m+1,hk,hm,cur,L,hl,ok=>by
  show SG _ _ _ _ (ziY (pG k) (L.map tk));have ih:=λcur L hl ok=>zAa o acc ha k m (by omega) (by omega) cur L hl ok
  unfold ziY;rw[zdZ];generalize zaL (zc2 (RG M)) m=W at ih⊢;unfold zc2;simp only[zK,zC];rw[zi8 ok.ok [[99,97,115,101],[100,101,102,97,117,108,116],[125]] ([32,99,97,115,101,32,100,101,102,97,117,108,116,32,125,32]:Str) (by decide+kernel) (by decide+kernel) (by decide),qz1];obtain⟨x,r,rfl⟩:=ok.ok.cons;have k0:=zfi ok 0;rw[show((0:Nat):Int)=0 from rfl]at k0;simp only[zck,qz1,bne,k0,qz3,qz6,Nat.zero_add];cases h1:zcc [[99,97,115,101],[100,101,102,97,117,108,116],[125]] ((x::r).map tk)with
  |true=>
   simp only[yO,qz2,yA,qz1,Bool.true_or,yB];rw[zfz (by omega)];exact .gt ok (by show _=_;rw[List.append_nil];rfl)
  |false=>
   simp only[yN,yB,qz1,Bool.false_or];cases h2:zI ((x::r).map tk)==0 with
   |true=>
    simp only[yO,qz2,yA,yB];rw[zfz (by omega)];exact .gt ok (by show _=_;rw[List.append_nil];rfl)
   |false=>
    simp only[yN,yB,qz2,yA];refine .assoc (.l ((H k (by omega) M (by omega)).stmt _ ok) (λ_ _=>⟨_,rfl,_,rfl⟩) λy L3 ok3=>?_);refine .assoc (.room (by omega) ?_);exact(ih (cur++[y]) L3 (by rw[qz5];simp only[qz3,qz6];omega) ok3).map (λv=>y::v) (by rintro v L' _ rfl;simp)
theorem zz7: ∀(k m:Nat),k<=n->k<=m->∀(o:Bool) (acc:List Node) (L:List zl),acc.length+k<=n+1->TL L0 L->
  SG L0 EL (λ(v:List Node) L' r=>r= .inr (nd 36 (acc++v),pp L' false,())) (zaL (zcU (RG M)) m (o,pp L false,0,[],0,[],36,[],0,[],[],[],[],acc,())) ((pG k).cases o (L.map tk))
 |0,m,_,_,o,l,L,_,ok=>trivial
 |k+1,0,_,hm,o,l,L,_,ok=>by omega
 |k+1,m+1,hk,hm,o,acc,L,hl,ok=>by
  have S:=H k (by omega) M (by omega);have ih:=λo acc L hl ok=>zz7 k m (by omega) (by omega) o acc L hl ok
  show SG _ _ _ _ (zhW (pG k) o (L.map tk));rw[zdZ];generalize zaL (zcU (RG M)) m=W at ih⊢
  have j4: ∀(o':Bool) (x:Node) (L1:List zl),TL L0 L1->SG L0 EL (λ(v:List Node) L' r=>r= .inr (nd 36 (acc++v),pp L' false,()))
    ((zcX (RG M) o' (pp L1 false) 0 [] 0 [] 36 [] 0 [] 37 [] 0 [] [] [] [] acc [] [x]).bind (zyO W))
    ((zaw [58] (L1.map tk)).bn λt=>((pG k).body t).bd λl=>((pG k).cases o' l.2).bd λr=>gt (nd 37 (x::l.1)::r.1,r.2)):=λo' x L1 ok1=>by
   unfold zcX;simp only[zK];refine .assoc (.need ok1 (λ_ _=>⟨_,rfl,_,rfl⟩) λL2 ok2=>?_);have hb:=SG.loop (zAa H hn hM o' acc (by omega) k 1000000000000 (by omega) (by omega) [x] L2 (by simp;omega) ok2) (yJ _)
   refine hb.gen (by rintro a _ ⟨y,rfl⟩;exact⟨_,rfl,_,rfl⟩) ?_
   rintro l L3 _ _ ok3 rfl;exact(ih o' (acc++[nd 37 ([x]++l)]) L3 (by rw[qz5];simp only[qz3,qz6];omega) ok3).map (λv=>nd 37 (x::l)::v) (by rintro v L' _ rfl;simp)
  have j2: ∀(L1:List zl),TL L0 L1->SG L0 EL (λ(v:List Node) L' r=>r= .inr (nd 36 (acc++v),pp L' false,()))
    ((zcY (RG M) o (pp L1 false) 0 [] 0 [] 36 [] 0 [] 37 [] 0 [] [] [] [] acc [] [nd 42 []]).bind (zyO W))
    ((zaw [99,97,115,101] (L1.map tk)).bn λt=>((pG k).expr false t).bd λx=>(zaw [58] x.2).bn λt=>((pG k).body t).bd λl=>((pG k).cases o l.2).bd λr=>gt (nd 37 (x.1::l.1)::r.1,r.2)):=λL1 ok1=>by
   unfold zcY zgq;simp only[zK,zC];refine .assoc (.need ok1 (λ_ _=>⟨_,rfl,_,rfl⟩) λL2 ok2=>?_);refine .assoc (.r (S.expr false L2 ok2) (λ_ _=>⟨_,rfl,_,rfl⟩) λx L3 ok3=>?_);exact j4 o x L3 ok3
  unfold zhW;unfold zcU;simp only[zK,zC];refine .assoc (.has ok (λh ok1=>?_) λh=>?_)
  ·simp only[yO,qz2,yA];exact .gt' ok1 (by rw[yM]) (by show _=_;rw[List.append_nil];rfl)
  ·simp only[yN,yB];cases o with
   |false=>
    simp only[Bool.false_and,qz2,yA];exact j2 L ok
   |true=>
    simp only[Bool.true_and,yB];refine .assoc (.has ok (λh ok1=>?_) λh=>?_)
    ·simp only[yB];rw[<-yM];exact j4 false (nd 42 []) _ ok1
    ·simp only[qz2,yA];exact j2 L ok
theorem zDO(h9:20*n+35<=M)(ok:TL L0 L):SG L0 EL (OR false) ((RG M).zcg (pp L false))
  (((pG n).head (L.map tk)).bd λx=>(zaw [123] x.2).bn λt=>((pG n).cases true t).bd λl=>gt (nd 36 (x.1::l.1),l.2)):=by
 obtain⟨M,rfl⟩: ∃k,M=k+1:=⟨M -1,by omega⟩
 have S:=H n (yJ _) M (by omega);show SG _ _ _ (zeA (RG M) (pp L false)) _;unfold zeA;simp only[zK,zC];refine .l (S.head L ok) (λ_ _=>⟨_,rfl,_,rfl⟩) λx L1 ok1=>?_
 refine .need ok1 (λ_ _=>⟨_,rfl,_,rfl⟩) λL2 ok2=>?_
 exact(SG.loop (zz7 H hn (by omega) n 1000000000000 (yJ _) (by omega) true [x] L2 (by simp;omega) ok2) (yJ _)).map (λv=>nd 36 (x::v)) (by rintro v L' _ rfl;rfl)
theorem zAc(k:Int)(ok:TL L0 L):SG L0 EL (OR false) (zes k (pp L false)) (zmf k (L.map tk)):=by
 obtain⟨x,r,rfl⟩:=ok.ok.cons;have k1:=zfi ok 1;rw[show((1:Nat):Int)=1 from rfl]at k1;have hf:x.Fresh=zfE ((x::r).map tk):=rfl;unfold zes zmf;simp only[zK,zck,qz1,k1,hf];cases h1:zI ((x::r).map tk)==1 with
 |false=>
  simp only[qz2,yA,qz1,Bool.false_and];exact .end ok (λ_ _=>⟨_,rfl,_,rfl⟩) λL3 ok3=> .gt ok3 rfl
 |true=>
  simp only[yB,qz1,Bool.true_and];cases h2:zfE ((x::r).map tk)with
  |true=>
   simp only[yO,qz2,yA];exact .end ok (λ_ _=>⟨_,rfl,_,rfl⟩) λL3 ok3=> .gt ok3 rfl
  |false=>
   simp only[yN,yB];refine .take ok (zaU h1 (by decide)) λa ha ok2=>?_
   rw[<-yM];refine .end ok2 (λ_ _=>⟨_,rfl,_,rfl⟩) λL3 ok3=> .gt ok3 ?_
   simp only[ha];rfl
theorem zAm: ∀(k m:Nat),k<=n+1->k<=m->∀(f:Bool) (l:List Node) (L:List zl),l.length+k<=n+1->TL L0 L->
  SG L0 ER (λ(v:List Node) L' r=>r= .inl (l++v,pp L' false,())) (zaL (zcV (RG M)) m (f,[125],pp L false,l,())) ((pG k).stmts f (L.map tk))
 |0,m,_,_,f,l,L,_,ok=>trivial
 |k+1,0,_,hm,f,l,L,_,ok=>by omega
 |k+1,m+1,hk,hm,f,l,L,hl,ok=>by
  have S:=H k (by omega) M (by omega);have ih:=λl L hl ok=>zAm k m (by omega) (by omega) f l L hl ok
  show SG _ _ _ _ (zbs (pG k) f (L.map tk));rw[zdZ];generalize zaL (zcV (RG M)) m=W at ih⊢
  have go: ∀(y:Node) (L3:List zl),TL L0 L3->SG L0 ER (λ(v:List Node) L' r=>r= .inl (l++v,pp L' false,())) (W (f,[125],pp L3 false,l++[y],())) (((pG k).stmts f (L3.map tk)).bd λq=>gt (y::q.1,q.2)):=λy L3 ok3=>
   (ih (l++[y]) L3 (by rw[qz5];simp only[qz3,qz6];omega) ok3).map (λv=>y::v) (by rintro v L' _ rfl;simp)
  have j2:SG L0 ER (λ(v:List Node) L' r=>r= .inl (l++v,pp L' false,()))
    ((zc3 (RG M) f [125] (pp L false) l 0 [] 0 [] [] []).bind (zyO W)) (((pG k).stmt (L.map tk)).bd λx=>((pG k).stmts f x.2).bd λq=>gt (x.1::q.1,q.2)):=by
   unfold zc3;simp only[zK,zC,qz3,qz6,Nat.zero_add];refine .assoc (.l (S.stmt L ok) (λ_ _=>⟨_,rfl,_,rfl⟩) λy L3 ok3=>?_);exact .assoc (.room (by omega) (go y L3 ok3))
  unfold zbs;unfold zcV;simp only[zK,zC];rw[znV ok.ok [125],qz1];have hget:zQ L 0=some (L.head (by obtain⟨x,r,rfl⟩:=ok.ok.cons;simp)):=by obtain⟨x,r,rfl⟩:=ok.ok.cons;rfl
  have k0:((L.head (by obtain⟨x,r,rfl⟩:=ok.ok.cons;simp)).Kind==0)=(zI (L.map tk)==0):=by obtain⟨x,r,rfl⟩:=ok.ok.cons;exact zfi ok 0
  simp only[hget,qz1,bne,k0,qz3,qz6,Nat.zero_add];cases h1:tIs [125] (L.map tk)with
  |true=>
   simp only[yO,qz2,yA,qz1,Bool.true_or,yB];exact .gt ok (by simp)
  |false=>
   simp only[yN,yB,qz1,Bool.false_or];cases h2:zI (L.map tk)==0 with
   |true=>
    simp only[yO,qz2,yA,yB];exact .gt ok (by simp)
   |false=>
    simp only[yN,yB,qz2,yA];cases f with
    |false=>
     simp only[Bool.false_and,qz2,yA];exact j2
    |true=>
     simp only[Bool.true_and,yB]
     have e: ∀(x y:PR Node) (f:Node×zD->PR (List Node)),((if tIs [102,117,110,99,116,105,111,110] (L.map tk)=true then x else y).bd f)=if tIs [102,117,110,99,116,105,111,110] (L.map tk)=true then x.bd f else y.bd f:=λx y f=>by
      split<;>rfl
     rw[e];refine .assoc (.has ok (λh ok1=>?_) λh=>?_)
     ·simp only[yB];rw[<-yM];refine .assoc (.l (S.func false 39 _ ok1) (λ_ _=>⟨_,rfl,_,rfl⟩) λy L3 ok3=>?_);exact .assoc (.room (by omega) (go y L3 ok3))
     ·simp only[qz2,yA];exact j2
theorem zDw(f:Bool)(ok:TL L0 L):SG L0 ER (OL false) (zeI (RG M) f [125] (pp L false)) (zbs (pG n) f (L.map tk)):=by
 unfold zeI;simp only[zK];exact .loop (zAm H hn hM (n+1) 1000000000000 (yJ _) (by omega) f [] L (by simp) ok) (yJ _)
end
section
variable {L0 L:List zl} {no:Bool} {n M:Nat} (H: ∀k,k<=n->∀N,20*k+20<=N->zqK L0 (RG N) (pG k)) (hn:n<=10000000000) (hM:20*n+39<=M) (h0:L0.length<=10000000000)
include H hn hM
theorem zFG(ok:TL L0 L):SG L0 EL (OR false) (zfg (RG M) (pp L false)) (zff (pG n) (L.map tk)):=by
 have S:=H n (yJ _) M (by omega);have hb:=λ(L1:List zl) ok1=>ztE (L:=L1) (M:=M) H hn (by omega) ok1
 unfold zfg zff;simp only[zK,zC];refine .is ok (λh=>?_) λh=>?_
 ·exact .ll (S.block L ok) (λ_ _=>⟨_,rfl,_,rfl⟩) λv L'=>⟨_,rfl,rfl⟩
 simp only[qz2,yA];refine .has ok (λh ok1=> .gt' ok1 (by rw[yM]) rfl) λh=>?_
 simp only[qz2,yA];refine .has ok (λh ok1=>?_) λh=>?_
 ·simp only[yB];rw[<-yM];refine(S.vars false _ ok1).gen (by rintro a _ ⟨y,rfl⟩;exact⟨_,rfl,_,rfl⟩) ?_
  rintro l L2 _ _ ok2 rfl;exact .end ok2 (λ_ _=>⟨_,rfl,_,rfl⟩) λL3 ok3=> .gt ok3 rfl
 simp only[qz2,yA];refine .has ok (λh ok1=>?_) λh=>?_
 ·simp only[yB];rw[<-yM];exact .ll (zBB H hn (by omega) (by omega) ok1) (λ_ _=>⟨_,rfl,_,rfl⟩) λv L'=>⟨_,rfl,rfl⟩
 simp only[qz2,yA];refine .has ok (λh ok1=>?_) λh=>?_
 ·simp only[yB];rw[<-yM];refine .l (S.head _ ok1) (λ_ _=>⟨_,rfl,_,rfl⟩) λx L2 ok2=>?_
  refine(hb L2 ok2).gen (by rintro a _ ⟨y,rfl⟩;exact⟨_,rfl,_,rfl⟩) ?_
  rintro b L3 _ _ ok3 rfl;exact .gt ok3 rfl
 simp only[qz2,yA];refine .has ok (λh ok1=>?_) λh=>?_
 ·simp only[yB];rw[<-yM];refine(hb _ ok1).gen (by rintro a _ ⟨y,rfl⟩;exact⟨_,rfl,_,rfl⟩) ?_
  rintro b L3 _ _ ok3 rfl;refine .need ok3 (λ_ _=>⟨_,rfl,_,rfl⟩) λL4 ok4=>?_
  refine .l (S.head _ ok4) (λ_ _=>⟨_,rfl,_,rfl⟩) λx L2 ok2=>?_
  exact .end ok2 (λ_ _=>⟨_,rfl,_,rfl⟩) λL3 ok3=> .gt ok3 rfl
 simp only[qz2,yA];refine .has ok (λh ok1=>?_) λh=>?_
 ·simp only[yB];rw[<-yM];exact .ll (S.loop _ ok1) (λ_ _=>⟨_,rfl,_,rfl⟩) λv L'=>⟨_,rfl,rfl⟩
 simp only[qz2,yA];refine .has ok (λh ok1=>?_) λh=>?_
 ·simp only[yB];rw[<-yM];exact .ll (zAc (M:=M) H hn (by omega) 31 ok1) (λ_ _=>⟨_,rfl,_,rfl⟩) λv L'=>⟨_,rfl,rfl⟩
 simp only[qz2,yA];refine .has ok (λh ok1=>?_) λh=>?_
 ·simp only[yB];rw[<-yM];exact .ll (zAc (M:=M) H hn (by omega) 32 ok1) (λ_ _=>⟨_,rfl,_,rfl⟩) λv L'=>⟨_,rfl,rfl⟩
 simp only[qz2,yA];refine .has ok (λh ok1=>?_) λh=>?_
 ·simp only[yB];rw[<-yM,znV ok1.ok [59],qz1];cases h59:tIs [59] (L.tail.map tk)with
  |true=>
   simp only[yO,qz2,yA,Bool.false_and];exact .end ok1 (λ_ _=>⟨_,rfl,_,rfl⟩) λL3 ok3=> .gt ok3 rfl
  |false=>
   simp only[yN,yB,Bool.true_and];refine .stops ok1 ?_;cases hs:zgi (L.tail.map tk)with
   |true=>
    simp only[yO,qz2,yA];exact .end ok1 (λ_ _=>⟨_,rfl,_,rfl⟩) λL3 ok3=> .gt ok3 rfl
   |false=>
    simp only[yN,yB];refine .r (S.expr false _ ok1) (λ_ _=>⟨_,rfl,_,rfl⟩) λx L2 ok2=>?_
    exact .end ok2 (λ_ _=>⟨_,rfl,_,rfl⟩) λL3 ok3=> .gt ok3 rfl
 simp only[qz2,yA];refine .has ok (λh ok1=>?_) λh=>?_
 ·simp only[yB];rw[<-yM];obtain⟨a,r,hL⟩:=ok1.ok.cons;rw[hL]at ok1⊢;have hf:a.Fresh=zfE ((a::r).map tk):=rfl;simp only[zck,qz1,hf];cases hfr:zfE ((a::r).map tk)with
  |true=>
   simp only[yB];exact .fail ok1 λa=>⟨_,rfl,_,rfl⟩
  |false=>
   simp only[qz2,yA];refine .r (S.expr false _ ok1) (λ_ _=>⟨_,rfl,_,rfl⟩) λx L2 ok2=>?_
   exact .end ok2 (λ_ _=>⟨_,rfl,_,rfl⟩) λL3 ok3=> .gt ok3 rfl
 simp only[qz2,yA];refine .has ok (λh ok1=>?_) λh=>?_
 ·simp only[yB];rw[<-yM];exact .ll (zIo H hn (by omega) (by omega) ok1) (λ_ _=>⟨_,rfl,_,rfl⟩) λv L'=>⟨_,rfl,rfl⟩
 simp only[qz2,yA];refine .has ok (λh ok1=>?_) λh=>?_
 ·simp only[yB];rw[<-yM];exact .ll (zDO H hn (by omega) (by omega) ok1) (λ_ _=>⟨_,rfl,_,rfl⟩) λv L'=>⟨_,rfl,rfl⟩
 simp only[qz2,yA];refine .is ok (λh=>?_) λh=>?_
 ·simp only[yB];exact .fail ok λa=>⟨_,rfl,_,rfl⟩
 simp only[qz2,yA];obtain⟨a,r,rfl⟩:=ok.ok.cons;have k1:=zfi ok 1;rw[show((1:Nat):Int)=1 from rfl]at k1;simp only[zck,qz1,k1]
 have last:SG L0 EL (OR false) (((RG M).zZ (pp (a::r) false)).bind λr_95=>
   match r_95 with
   |Sum.inl r_96=>
    (za7 r_96.2.1).bind λr_97=>
     match r_97 with
     |Sum.inl r_98=>some (Sum.inl (r_98.1,r_98.2.1,()))
     |Sum.inr r_99=>some (Sum.inr ((⟨24,[],0,[],[],[r_96.1]⟩:zg),r_99.1,()))
   |Sum.inr r_100=>some (Sum.inl (r_100.1,r_100.2.1,())))
   (((pG n).expr false ((a::r).map tk)).bd λx=>(zde x.2).bn λt=>gt (nd 24 [x.1],t)):=by
  refine .r (S.expr false _ ok) (λ_ _=>⟨_,rfl,_,rfl⟩) λx L2 ok2=>?_
  exact .end ok2 (λ_ _=>⟨_,rfl,_,rfl⟩) λL3 ok3=> .gt ok3 rfl
 cases h1:zI ((a::r).map tk)==1 with
 |false=>
  simp only[qz2,yA,qz1,Bool.false_and];exact last
 |true=>
  have ok1:=ok.tail (zaU h1 (by decide));obtain⟨b,r',hr⟩:=ok1.ok.cons;obtain rfl:r=b::r':=hr;have hget:zQ (a::b::r') 1=some b:=rfl;have k5:=zfi ok1 5;rw[show((5:Nat):Int)=5 from rfl]at k5
  have h58:tIs [58] ((b::r').map tk)=(zI ((b::r').map tk)==5&&b.Text==[58]):=by
   show(opK (tk b)&&(b.Text==([58]:Str)))=((tk b).kind==5&&b.Text==([58]:Str))
   unfold opK;cases h5:(tk b).kind==5 with
   |true=>rfl
   |false=>
    simp only[Bool.false_or,Bool.false_and];cases h2:(tk b).kind==2 with
    |false=>rfl
    |true=>
     have e2:b.Kind=2:=eq_of_beq ((zfi ok1 2).trans h2);rw[Bool.true_and,yH];exact ok1.ok.colon b qz7 e2
  have ht:((a::b::r').map tk).tail=(b::r').map tk:=rfl;simp only[hget,yB,qz1,k5,Bool.true_and,ht,h58];cases h5:zI ((b::r').map tk)==5 with
  |false=>
   simp only[qz2,yA,qz1,Bool.false_and];exact last
  |true=>
   simp only[yB,qz1,Bool.true_and];cases h6:b.Text==([58]:Str)with
   |false=>
    simp only[qz2,yA];exact last
   |true=>
    simp only[yB];have e: ∀q:PR Node,q=if(zI ((a::b::r').map tk)==1)=true then q else bad ((a::b::r').map tk):=λq=>by rw[yL h1]
    rw[e (((pG n).stmt _).bd _)];refine .name ok (λ_ _=>⟨_,rfl,_,rfl⟩) λ_ ok1=>?_
    refine .take ok1 (zaU h5 (by decide)) λc hc ok2=>?_
    exact .l (S.stmt _ ok2) (λ_ _=>⟨_,rfl,_,rfl⟩) λx L2 ok2=> .gt ok2 rfl
include h0 in
theorem zCu(N:Nat)(hN:20*n+40<=N):zqK L0 (RG N) (pG (n+1)):=by
 obtain⟨K,rfl⟩: ∃k,N=k+1:=⟨N -1,by omega⟩
 have m1:20*n+30<=K:=by omega
 have m2:20*n+39<=K:=by omega
 exact{
  expr:=λno L ok=>zE8 H hn m1 ok
  assign:=λno L ok=>zCq H hn m1 ok
  binary:=λno b L ok hb=>zCn H hn m1 b hb ok
  unary:=λno L ok=>zEq H hn m1 ok
  mems:=λno x c L ok=>zG4 H hn m1 x c ok
  made:=λno L ok=>zF3 H hn m1 ok
  prim:=λno L ok=>zGj H hn m1 m2 ok
  exprs:=λno s last L ok=>zDT H hn m1 m2 s last ok
  props:=λno L ok=>zD8 H hn m1 m2 ok
  func:=λno k L ok=>zG1 H hn m1 h0 k ok
  vars:=λno L ok=>zFL H hn m1 ok
  block:=λL ok=>zC7 H hn m1 ok
  head:=λL ok=>zE4 H hn m1 ok
  till:=λs L ok=>zFr H hn m1 s ok
  loop:=λL ok=>zG0 H hn m1 ok
  stmt:=λL ok=>zFG H hn m2 ok
  stmts:=λf L ok=>zDw H hn m1 f ok}
end
theorem zx6{L0:List zl}(h0:L0.length<=10000000000): ∀n,n<=10000000001->∀k,k<=n->∀N,20*k+20<=N->zqK L0 (RG N) (pG k)
 |0,_,k,hk,N,_=>by
  obtain rfl:k=0:=by omega
  constructor<;>intros<;>trivial
 |n+1,hn,k,hk,N,hN=>by
  have H:=zx6 h0 n (by omega);by_cases h:k<=n
  ·exact H k h N hN
  ·obtain rfl:k=n+1:=by omega
   exact zCu H (by omega) (M:=20*n+39) (yJ _) h0 N (by omega)
def zn0(L:List zl):Node×Int×Int:=
 match(pG (10*L.length+20)).stmts true (L.map tk)with
 |none=>(nd 0 [],0,0)
 |some (.inl k)=>(nd 0 [],atK L k,80)
 |some (.inr q)=>if zI q.2=0 then(if 64<zco (nd 41 q.1)then(nd 0 [],0,31)else(nd 41 q.1,0,0))else(nd 0 [],atK L q.2.length,80)
theorem zrt{t:zD}(w:Wf t): ∃r,(pG (10*t.length+20)).stmts true t=some r:=by
 have:=(zEN (10*t.length+20)).stmts true t w (by omega);cases h:(pG (10*t.length+20)).stmts true t with
 |none=>rw[h]at this;exact this.elim
 |some r=>exact⟨r,rfl⟩
theorem zCW{t:zD}(w:Wf t){q:List Node×zD}(h:zfG true t q):(pG (10*t.length+20)).stmts true t=gt q:=by
 obtain⟨r,hr⟩:=zrt w;obtain⟨N,hN⟩:=h;have h1:=zAJ N hr;have h2:(pG (10*t.length+20+N)).stmts true t=gt q:=hN (10*t.length+20+N) (by omega);rw[h1]at h2;rw[hr];exact h2
theorem zkV{src:Str}{L:List zl}(hs:src.length<=100000000)(hc:U.zcd src=(L,0,0))(ok:TOk L)(hl:L.length<=100000000)
  (hz: ∀q,(pG (10*L.length+20)).stmts true (L.map tk)=gt q->zhD (nd 41 q.1)<=2097152):zaA src=some ((zn0 L).1,(zn0 L).2.1,(zn0 L).2.2,()):=by
 have okL:TL L L:=⟨ok,List.suffix_refl L⟩
 have S:=(zx6 (L0:=L) (by omega) (10*L.length+20) (by omega) _ (yJ _) 1000000000000 (by omega)).stmts true L okL;obtain⟨r,hr⟩:=zrt ok.wf;rw[List.length_map]at hr;unfold zaA zn0;rw[U.ztz src hs,hc];simp only[qz1,bne_self_eq_false,qz2,yA];rw[hr]at S hz⊢;cases r with
 |inl k=>
  obtain⟨r,e,y,rfl⟩:=S;have e:zaQ true [125] ⟨L,false⟩=some (.inr (zU.code 45 (atK L k),y)):=e;rw[e];rfl
 |inr q=>
  obtain⟨r,L',e,e2,ok',rfl⟩:=S;have e:zaQ true [125] ⟨L,false⟩=some (.inl (q.1,pp L' false,())):=e;rw[e];obtain⟨x,r,rfl⟩:=ok'.ok.cons;have k0:=zfi ok' 0;rw[show((0:Nat):Int)=0 from rfl]at k0;have hd:=zzb (nd 41 q.1) (hz q rfl);simp only[qz1,zck,bne,k0];rw[<-e2];cases h0:zI ((x::r).map tk)==0 with
  |false=>
   have h1: ¬zI ((x::r).map tk)=0:=by simpa using h0
   rw[yK h1,ok'.at_];rfl
  |true=>
   have h1:zI ((x::r).map tk)=0:=by simpa using h0
   rw[yL h1];simp only[yO,qz2,yA];rw[show zdy (⟨41,[],0,[],[],q.1⟩:zg)=some ((zco (nd 41 q.1):Int),())from hd];simp only[qz1];by_cases hdp:64<zco (nd 41 q.1)
   ·rw[yL hdp,decide_eq_true (by omega)];rfl
   ·rw[yK hdp,decide_eq_false (by omega)];rfl
end Go.D08
namespace Go.D08.U
open Go Go.Gw Go.Dn Go.Proofs
set_option maxRecDepth 100000
theorem zxX{r:Str}{us:List Nat}{k:Nat}(h:zk1 r=some (us,k)):us.length<=1:=by
 cases r with
 |nil=>cases h
 |cons c r=>
  unfold zk1 at h;dsimp only at h;split at h
  ·cases h;simp
  ·split at h
   ·split at h
    ·cases h;simp
    ·split at h
     ·cases h
     ·cases h;simp
   ·split at h
    ·cases e:hexN 2 r 0 with
     |none=>rw[e]at h;cases h
     |some n=>rw[e]at h;cases h;simp
    ·split at h
     ·cases e:hexN 4 r 0 with
      |none=>rw[e]at h;cases h
      |some n=>rw[e]at h;cases h;simp
     ·cases e:zju c with
      |none=>rw[e]at h;cases h
      |some n=>rw[e]at h;cases h;simp
theorem zoz(q:UInt8): ∀(m:Nat) (r:Str) (acc us:List Nat) (k:Nat),zd5 q m r acc=some (us,k)->us.length<=acc.length+m
 |0,_,_,_,_,h=>by cases h
 |m+1,[],_,_,_,h=>by cases h
 |m+1,c::r,acc,us,k,h=>by
  unfold zd5 at h;split at h
  ·cases h;omega
  ·split at h
   ·cases h
   ·split at h
    ·split at h
     ·cases h
     ·rename_i us' k' he;have:=zoz q m _ _ _ _ h;have h1:=zxX he;rw[qz5]at this;omega
    ·have:=zoz q m _ _ _ _ h;rw[qz5]at this;simp only[qz3,qz6]at this;omega
theorem zBi{s:Str}{u:Str}{n e:Int}(h:zcB s=(u,n,e))(hn:n≠0): ∃us:List Nat,u=zc6 us/\us.length<=s.length:=by
 cases s with
 |nil=>cases h;exact absurd rfl hn
 |cons q r=>
  unfold zcB at h;simp only at h;split at h
  ·cases hg:zd5 q (r.length+1) r []with
   |none=>rw[hg]at h;cases h;exact absurd rfl hn
   |some p=>
    obtain⟨us,k⟩:=p;rw[hg]at h;cases h;have:=zoz q _ _ _ _ _ hg;exact⟨us,rfl,by simpa using this⟩
  ·cases h;exact absurd rfl hn
structure ztF (s:Str) (t:Tok):Prop where
 len:t.Text.length<=2*s.length
 ident:t.Kind=1\/t.Kind=2->t.Text=s.take (zaM s)/\zaM s<=32/\∃c r,s=c::r/\isLet c=true
 word:t.Kind=1\/t.Kind=2->(t.Kind=2↔zp0 t.Text=true)
 num:t.Kind=3->0<=t.Num/\t.Num<=9007199254740991/\t.Text=[]
 str:t.Kind=4->∃us:List Nat,t.Text=zc6 us/\us.length<=s.length
 sign:t.Kind=5->t.Text=s.take (zcq s)/\zcq s≠0
theorem zIE{s:Str}{t:Tok}{n:Nat}(h:zhj s=some (t,n)):ztF s t:=by
 cases s with
 |nil=>cases h
 |cons c s=>
  have hrow:=zkZ (c::s);have hsg:=zuI c s;unfold zhj at h;dsimp only at h;split at h
  ·rename_i hl;split at h
   ·cases h
   ·rename_i h32;cases h;have hk: ∀b:Bool,(if b=true then(2:Int)else 1)=2↔b=true:=by intro b;cases b<;>decide
    have hk3: ∀b:Bool,(if b=true then(2:Int)else 1)≠3/\(if b=true then(2:Int)else 1)≠4/\(if b=true then(2:Int)else 1)≠5:=by intro b;cases b<;>decide
    exact⟨by rw[List.length_take];omega,λ_=>⟨rfl,by omega,c,s,rfl,hl⟩,λ_=>hk _,λe=>absurd e (hk3 _).1,λe=>absurd e (hk3 _).2.1,λe=>absurd e (hk3 _).2.2⟩
  ·split at h
   ·cases hn:zk2 (c::s)with
    |none=>rw[hn]at h;cases h
    |some p=>
     rw[hn]at h;cases h
     have hb:p.1<=9007199254740991:=by
      unfold zk2 at hn;split at hn
      ·cases hn
      ·split at hn
       ·cases hn
       ·split at hn
        ·cases hn;assumption
        ·cases hn
     exact⟨by simp,λe=>by rcases e with e|e<;>exact absurd e (by simp),λe=>by rcases e with e|e<;>exact absurd e (by simp),λ_=>⟨by simp only;omega,by simp only;omega,rfl⟩,λe=>absurd e (by simp),λe=>absurd e (by simp)⟩
   ·split at h
    ·generalize hx:zcB (c::s)=q at h;obtain⟨u,n',e⟩:=q;simp only at h;split at h
     ·cases h
     ·rename_i hne;cases h;obtain⟨us,h1,h2⟩:=zBi hx hne;exact⟨by rw[h1,zg5];omega,λe=>by rcases e with e|e<;>exact absurd e (by simp),λe=>by rcases e with e|e<;>exact absurd e (by simp),λe=>absurd e (by simp),λ_=>⟨us,h1,h2⟩,λe=>absurd e (by simp)⟩
    ·split at h
     ·cases h
     ·rename_i hne;cases h;exact⟨by rw[List.length_take];omega,λe=>by rcases e with e|e<;>exact absurd e (by simp),λe=>by rcases e with e|e<;>exact absurd e (by simp),λe=>absurd e (by simp),λe=>absurd e (by simp),λ_=>⟨rfl,hne⟩⟩
theorem zFu: ∀b:Fin 256,zix (UInt8.ofNat b.val)=true->b.val<128/\b.val≠32/\b.val≠58:=by decide+kernel
theorem zuC(b:UInt8)(h:zix b=true):b<128/\b≠32/\b≠58:=by
 have:=zFu ⟨b.toNat,b.toNat_lt⟩;have e:UInt8.ofNat b.toNat=b:=by simp
 simp only[e]at this;obtain⟨h1,h2,h3⟩:=this h;exact⟨h1,λe=>h2 (by rw[e];rfl),λe=>h3 (by rw[e];rfl)⟩
theorem zCD(c:UInt8)(r:Str)(h:zcq (c::r)≠0):(32:UInt8)∉(c::r).take (zcq (c::r)):=by
 unfold zcq at h⊢;split
 ·rename_i h3;have: ∀w∈zk9,(32:UInt8)∉w:=by decide+kernel
  exact this _ (by simpa using h3.2)
 ·split
  ·rename_i h2;have: ∀w∈zmk,(32:UInt8)∉w:=by decide+kernel
   exact this _ (by simpa using h2.2)
  ·split
   ·rename_i h1;have h1:c∈ztH:=by simpa using h1
    have: ∀c∈ztH,(32:UInt8)≠c:=by decide+kernel
    simp[this c h1]
   ·simp
theorem znU{s:Str}{t:Tok}(o:ztF s t)(hk:t.Kind=1\/t.Kind=2):(∀b∈t.Text,zix b=true)/\t.Text≠[]:=by
 obtain⟨h1,h2,c,r,rfl,hl⟩:=o.ident hk;have ha:=zBr (c::r);rw[<-h1]at ha;refine⟨λb hb=>List.all_eq_true.1 ha b hb,λe=>?_⟩;have:1<=zaM (c::r):=by rw[zh2,yL (by simp[zix,hl])];omega
 rw[h1]at e;have:=congrArg List.length e;rw[List.length_take]at this;simp at this;omega
inductive zlb (b:Nat):List Tok->Prop
 |fin (e:Tok):e.Kind=0->e.Text=[]->zlb b [e]
 |one (s:Str) (t:Tok) (l:List Tok):ztF s t->s.length<=b->1<=t.Kind->t.Kind<=5->zlb b l->zlb b (t::l)
theorem ztF.fresh{s:Str}{t:Tok}(o:ztF s t)(f:Bool)(n:Int):ztF s ((t.fresh f).at_ n):=⟨o.len,o.ident,o.word,o.num,o.str,o.sign⟩
theorem zwY(len:Nat): ∀(m:Nat) (s:Str) (f:Bool) (l:List (Tok×Nat)),zch m s f= .inl l->s.length<=len->zlb len (zeQ len l)/\(zeQ len l).length<=s.length+1
 |0,_,_,_,h,_=>by cases h
 |m+1,s,f,l,h,hs=>by
  have hl:=zcn (s.length+1) s f;rw[zch]at h;generalize zat (s.length+1) s f=q at h hl;obtain⟨r,f',ok⟩:=q;simp only at h hl;split at h
  ·cases h
  ·split at h
   ·cases h;exact⟨.fin _ rfl rfl,by simp[zeQ]⟩
   ·cases ho:zhj r with
    |none=>rw[ho]at h;cases h
    |some p=>
     obtain⟨t,n⟩:=p;rw[ho]at h;simp only at h;have hn:=zi5 ho;cases hc:zch m (r.drop n) false with
     |inr k=>rw[hc]at h;cases h
     |inl l'=>
      rw[hc]at h;cases h;have hd:(r.drop n).length=r.length -n:=List.length_drop;obtain⟨g1,g2⟩:=zwY len m (r.drop n) false l' hc (by omega);rw[zoP];exact⟨.one r _ _ ((zIE ho).fresh f' _) (by omega) hn.2.2.1 hn.2.2.2.1 g1,by simp only[qz3];omega⟩
theorem zgu{src:Str}{L:List Tok}(h:zcd src=(L,0,0)):zlb 4096 L/\L.length<=4097/\src.length<=4096:=by
 unfold zcd at h;split at h
 ·exact absurd (congrArg (λx=>x.2.2) h) (by simp)
 ·split at h
  ·rename_i l hc;obtain rfl:zeQ src.length l=L:=congrArg (λx=>x.1) h;obtain⟨g1,g2⟩:=zwY src.length _ _ _ _ hc (yJ _);refine⟨?_,by omega,by omega⟩
   have up: ∀{l:List Tok},zlb src.length l->zlb 4096 l:=λh=>by
    induction h with
    |fin e h1 h2=>exact .fin e h1 h2
    |one s t l h1 h2 h3 h4 _ ih=>exact .one s t l h1 (by omega) h3 h4 ih
   exact up g1
  ·exact absurd (congrArg (λx=>x.2.2) h) (by simp)
theorem zlb.ok{L:List Tok}(h:zlb 4096 L):TOk L:=by
 induction h with
 |fin e h1 h2=>
  refine⟨?_,?_,?_,?_,?_,?_,[],e,rfl,h1,λt ht=>by cases ht⟩<;>intro t ht<;>(obtain rfl:t=e:=by simpa using ht)
  ·omega
  ·rw[h2];simp
  ·rw[h2];simp
  ·intro hk;omega
  ·intro hk;omega
  ·intro hk;omega
 |one s t l o hs k1 k5 _ ih=>
  obtain⟨a,e,e1,e2,e3⟩:=ih.last;refine⟨?_,?_,?_,?_,?_,?_,t::a,e,by rw[e1];rfl,e2,?_⟩
  ·intro x hx;rcases yP.1 hx with rfl|hx
   ·omega
   ·exact ih.kinds x hx
  ·intro x hx;rcases yP.1 hx with rfl|hx
   ·have:=o.len;omega
   ·exact ih.texts x hx
  ·intro x hx;rcases yP.1 hx with rfl|hx
   ·intro hop
    have hk:x.Kind=5\/x.Kind=2:=by
     unfold opK tk at hop;simp only[yQ,beq_iff_eq]at hop;omega
    rcases hk with hk|hk
    ·obtain⟨h1,h2⟩:=o.sign hk;rw[h1];cases s with
     |nil=>simp
     |cons c r=>exact zCD c r h2
    ·intro hm;exact(zuC 32 ((znU o (.inr hk)).1 32 hm)).2.1 rfl
   ·exact ih.plain x hx
  ·intro x hx;rcases yP.1 hx with rfl|hx
   ·intro hk b hb;exact(zuC b ((znU o hk).1 b hb)).1
   ·exact ih.ascii x hx
  ·intro x hx;rcases yP.1 hx with rfl|hx
   ·intro hk e;have:=(znU o (.inr hk)).1 58 (by rw[e];exact qz7)
    exact(zuC 58 this).2.2 rfl
   ·exact ih.colon x hx
  ·intro x hx;rcases yP.1 hx with rfl|hx
   ·intro hk;have:=o.num hk;exact⟨this.1,this.2.1⟩
   ·exact ih.nums x hx
  ·intro x hx;rcases yP.1 hx with rfl|hx
   ·omega
   ·exact e3 x hx
end Go.D08.U
namespace Go.D08
open Go Go.Gw Go.Dn
set_option maxRecDepth 100000
mutual
theorem ztp: ∀a b:Node,ziV a b=true↔a=b
 | ⟨k,n,m,t,ns,l⟩,⟨k',n',m',t',ns',l'⟩=>by
  have:=zw6 l l';simp only[ziV,qz4,beq_iff_eq,this];constructor
  ·rintro⟨⟨⟨⟨⟨rfl,rfl⟩,rfl⟩,rfl⟩,rfl⟩,rfl⟩;rfl
  ·intro e;injection e with e1 e2 e3 e4 e5 e6
   exact⟨⟨⟨⟨⟨e1,e2⟩,e3⟩,e4⟩,e5⟩,e6⟩
theorem zw6: ∀a b:List Node,zcC a b=true↔a=b
 | [],[]=>by simp[zcC]
 | [],y::r=>by simp[zcC]
 |x::r,[]=>by simp[zcC]
 |x::r,y::q=>by
  have h1:=ztp x y;have h2:=zw6 r q;simp only[zcC,qz4,h1,h2,List.cons.injEq]
end
end Go.D08
namespace Go.D08
open Go Go.Gw Go.Dn Go.Proofs
set_option maxRecDepth 100000
theorem zAw(x y:Node)(hx:zam x<=2097152)(hy:zam y<=2097152):zaD x y=some (ziV x y,()):=by
 have h1:=zll x;have h2:=zll y;have h3:=zqZ x;have h4:=zqZ y;exact zAu 1000000000000 x y (by have:=zsD x;omega) (by omega) (by omega) (by omega) (by omega)
theorem zyv{src:Str}{L:List zl}{ns:List Node}{e:Tok}(hs:src.length<=100000000)(hc:U.zcd src=(L,0,0))(ok:TOk L)(hl:L.length<=100000000)(h:(pG (10*L.length+20)).stmts true (L.map tk)=gt (ns,[e]))(he:e.kind=0)
  (hz:zhD (nd 41 ns)<=2097152) (hd:zco (nd 41 ns)<=64):zaA src=some (nd 41 ns,0,0,()):=by
 rw[zkV hs hc ok hl (λq hq=>by rw[h]at hq;cases hq;exact hz)]
 unfold zn0;rw[h];simp only;rw[yL (show zI [e]=0 from he),yK (by omega)]
theorem zBV{src:Str}{L:List zl}{k:Nat}(hs:src.length<=100000000)(hc:U.zcd src=(L,0,0))(ok:TOk L)(hl:L.length<=100000000)(h:(pG (10*L.length+20)).stmts true (L.map tk)=some (.inl k)):zaA src=some (nd 0 [],atK L k,80,()):=by
 rw[zkV hs hc ok hl (λq hq=>by rw[h]at hq;cases hq)]
 unfold zn0;rw[h]
def nm1(c:UInt8):Node:=ndN 3 [c] []
theorem zJC:zaA [97,32,61,32,98,10,43,43,99]=some (nd 41 [nd 24 [ndN 20 [61] [nm1 97,nm1 98]],nd 24 [⟨16,[43,43],1,[],[],[nm1 99]⟩]],0,0,()):=by
 have hc:U.zcd [97,32,61,32,98,10,43,43,99]=((U.zcd [97,32,61,32,98,10,43,43,99]).1,0,0):=by kernel_rfl
 obtain⟨h1,h2,_⟩:=U.zgu hc;exact zyv (e:=zCy) (by decide) hc h1.ok (by omega) (by kernel_rfl) rfl (by decide+kernel) (by decide+kernel)
theorem zJw:zaA [114,101,116,117,114,110,10,97]=some (nd 41 [nd 33 [],nd 24 [nm1 97]],0,0,()):=by
 have hc:U.zcd [114,101,116,117,114,110,10,97]=((U.zcd [114,101,116,117,114,110,10,97]).1,0,0):=by kernel_rfl
 obtain⟨h1,h2,_⟩:=U.zgu hc;exact zyv (e:=zCy) (by decide) hc h1.ok (by omega) (by kernel_rfl) rfl (by decide+kernel) (by decide+kernel)
theorem zJv:zaA [49,32,61,32,50]=some (nd 0 [],2,80,()):=by
 have hc:U.zcd [49,32,61,32,50]=((U.zcd [49,32,61,32,50]).1,0,0):=by kernel_rfl
 obtain⟨h1,h2,_⟩:=U.zgu hc;have:=zBV (k:=3) (by decide) hc h1.ok (by omega) (by kernel_rfl);have e:atK (U.zcd [49,32,61,32,50]).1 3=2:=by kernel_rfl
 rw[this,e]
theorem zCI:zfJ=some (true,()):=by
 unfold zfJ;rw[zJC,zJw,zJv];rfl
end Go.D08
namespace Go.Dn
open Go.Gw Go.RowKit Go.Deep
open Go.ChangeShapes Go.WideShapes Go.ChangeAt
set_option maxRecDepth 100000
def ziR(w:World):Heap:=λb=>w.heap[b]?
theorem zAB(w:World):(ziR w).Sub w:=⟨λ_ _ e=>e⟩
theorem zuN{w:World}{b off:Nat}{v:Value}(h:w.cell? ⟨b,off,none⟩=some v):zf7 (ziR w) b off v:=by
 unfold World.cell? at h;cases hb:w.heap[b]? with
 |none=>rw[hb]at h;cases h
 |some o=>
  rw[hb]at h;cases o<;>simp only[Option.isSome_none,qz2,yA]at h<;>try cases h
  exact⟨_,_,_,hb,h⟩
structure zCa (bulk:{H:Type}->DataW H->Nat):Prop where
 agg: ∀{H:Type} (ds:List (DataW H)),(ds.map bulk).sum+1<=bulk (.agg ds)
 sl: ∀{H:Type} (es sp:List (DataW H)),(es.map bulk).sum+1<=bulk (.slice es sp)
 str: ∀{H:Type} (s:List UInt8),s.length+1<=bulk (.lit (.string s):DataW H)
 pos: ∀{H:Type} (d:DataW H),0<bulk d
section
variable {bulk:{H:Type}->DataW H->Nat}
structure OpF (bulk:{H:Type}->DataW H->Nat) (Y:Tys) (P:Program) (w:World) {α:Type} (mk:α->List (AV Y.T)) (t:TypeId) (ok:α->Prop) (ms:α->Nat) (N:Nat):Prop where
 opn: ∀{H:Type} {enc:TypeId×Value->H} {base:Nat} {spare:Nat->Bool} {held:Bool} {fuel:Nat} {cs:List Value} {x:DataW H×List MemPlace},
  fuel<=N->DataW.trod enc P w base spare held fuel t cs=some x->∃a,zH Y (ziR w) [] (mk a) cs/\ok a/\ms a<=bulk x.1
variable {Y:Tys} {P:Program} {w:World} {t e:TypeId} {N:Nat}
theorem zGU(hB:zCa bulk)(ht:P.underlying t=some .string):OpF bulk Y P w (λs:Str=>[.v (.string ⟨⟨s⟩⟩)]) t (λs=>s.length<=maxLen) (λs=>s.length+1) N:=
 ⟨λ_ h=>by
  obtain⟨b,rfl,rfl,hw⟩:=DataW.trod_string ht h;exact⟨b.data.toList,zH.cons .v zH.nil,hw,hB.str _⟩⟩
end
theorem zrD{H:Type}{enc:TypeId×Value->H}{P:Program}{W W':World}{base:Nat}{spare:Nat->Bool}{held:Bool}(hb:Below W.heap.size W W'): ∀{ts:List TypeId} {vs:List Value} {ds:List (DataW H)} {ps:List MemPlace},
  DataW.TrodAll enc P W base spare held ts vs ds ps->DataW.TrodAll enc P W' base spare held ts vs ds ps
 | [],[],[],_,h=>h
 |_::_,_::_,_::_,_,⟨p,q,⟨n,h1⟩,h2,e⟩=>⟨p,q,⟨n,DataW.trod_carry n _ _ _ h1 λx hx=>hb.same (DataW.trod_lt n _ _ _ h1 x hx)⟩,zrD hb h2,e⟩
theorem zxB{H:Type}{enc:TypeId×Value->H}{P:Program}{f:Func}{s:ChangeSpec}{apart fresh handsOn again:Bool}{W W':World}{args:Array Value}{v:Value}{ds gs:List (DataW H)}{before pa pv:List MemPlace}
  (hW:DataW.Whole enc P f.params.toList s.vars apart W args.toList ds gs before)
  (hres: ∀(b:Nat) (sp:Nat->Bool) (hd:Bool),DataW.TrodAll enc P W' b sp hd f.resultTypes.toList (v.resultList f.resultTypes.size) (s.fn H (ds++gs)).results [])
  (hargs: ∀sp:Nat->Bool,(∀p∈before,sp p.block=true)->DataW.TrodAll enc P W' 0 sp true f.params.toList args.toList (s.fn H (ds++gs)).args pa)
  (hvars: ∀sp:Nat->Bool,(∀p∈before,sp p.block=true)->DataW.TrodVars enc P W' sp s.vars (s.fn H (ds++gs)).vars pv)
  (hps:before=pa++pv) (hb:Below W.heap.size W W')
  (hok: ∀(j:Nat) (t:TypeId) (r:Value),f.resultTypes[j]? =some t->(v.resultList f.resultTypes.size)[j]? =some r->Value.okWide P W' .any 0 t r):
  s.post enc P f apart fresh handsOn again W args v W':=by
 have hlt:=hW.lt;have hold: ∀p∈before,(λb=>decide (b<W.heap.size)) p.block=true:=λp hp=>by simpa using hlt p hp
 refine⟨ds,gs,before,[],pa,pv,hW,hres _ _ _,hargs _ hold,hvars _ hold,World.keptBut_mono (λp hp=>⟨hp,?_⟩) (hb.frame (· ∈before)),λ_=>?_⟩
 ·rw[hps,List.mem_append]at hp;exact Or.inr hp
 ·obtain⟨_,_,_,_,_,hz,hn⟩:=hW;refine⟨hok,_,_,([]++pa)++pv,⟨[]++pa,pv,trodAll_append (hargs _ (λ_ _=>rfl)) (hres _ _ _),hvars _ (λ_ _=>rfl),rfl,?_,?_⟩,?_⟩
  ·intro b off hp;have hp':MemPlace.cell b off∈before:=by rw[hps];simpa using hp
   rw[hb.frozen (p:=⟨b,off,none⟩) (hlt _ hp')];exact hz b off hp'
  ·intro ha;have:=hn ha;rw[hps]at this;simpa using this
  ·intro p hp _;rw[hps];simpa using hp
def zmG{T:Nat->Type}:Out T->List (Mem T)->Option Unit
 | .ret (.v (.bool true)),_=>some ()
 |_,_=>Option.none
theorem COk.holds{Y:Tys}{hY:zaK Y}{P:Program}{G:Heap->Prop}{f:FuncId}{C:Callee Y}(h:COk hY P G f C){args:List (AV Y.T)}
  (hr:C.run args [] zmG=some ()) {W:World} (hG:G (ziR W)) {vals:List Value} (hv:zH Y (ziR W) [] args vals):
  Calls P f vals.toArray W λe W'=>e= .returned (.bool true)/\Below W.heap.size W W':=by
 have h1:=h.2 args [] () _ hr W (ziR W) [] [] vals No hG hv rfl rfl (λk x p o hx=>by simp at hx) (St.start (zAB W));refine h1.mono λe W' h2=>?_
 obtain⟨res,F',ρ',os',ms',hp,hrel,_,_,_,hst,_⟩:=h2;refine⟨?_,hst.below⟩;cases hrel with
 |pan _=>cases hp
 |ret hx=>
  rename_i x u
  have key: ∀(o:Out Y.T) (m:List (Mem Y.T)),zmG o m=some ()->o= .ret (.v (.bool Bool.true)):=by
   intro o m;unfold zmG;split
   ·intro _;rfl
   ·intro e;cases e
  cases key _ _ hp;rw[hx.zaV]
theorem zB5{P:Program}{W:World}{l:List (String×DataW Unit)}{name:String}{k:IntKind}{zs:List Int}{g:Nat}{t e:TypeId}{n:Nat}(hL:laidMetH P l W)(hall:(l.all λx=>x.2.handleName?.isNone)=true)
  (hf:(l.filter λx=>x.1==name)=[(name,Lib.tabData k zs)]) (hg:P.globalNamed name=some g) (hty:(P.globals[g]?).map (·.type)=some t) (ht:P.underlying t=some (.array n e)) (he:P.underlying e=some (.int k)) (hce:P.cellsOf e=1) (hct:P.cellsOf t=n) (w:World) (hs:(ziR W).Sub w):
  Lib.TabIs P w name k zs:=by
 rw[Go.MakeChecks.laidMetH_plain P l W hall]at hL;have h:=hL.filter (λx=>x.1==name);rw[hf]at h;have h2:=Lib.tabIs_of_head hg hty ht he hce hct h;unfold Lib.TabIs World.var? at h2⊢;rw[hg]at h2⊢;simp only[qz1]at h2⊢;cases hb:W.heap[g]? with
 |none=>rw[hb]at h2;cases h2
 |some o=>
  rw[hb]at h2;rw[show w.heap[g]? =some o from hs.out g o hb];exact h2
end Go.Dn
namespace Go.D08
open Go Go.Gw Go.Dn Go.RowKit Go.Proofs Go.Deep
open Go.Proofs.YtdapbipagjmolaaGreatDoor.Rows (uptoBulk uptoBulkAll)
open Go.Proofs.YtdapbipagjmolaaGreatDoor
open Go.ChangeShapes Go.WideShapes Go.ChangeAt
set_option maxRecDepth 100000
theorem zoB{H:Type}: ∀l:List (DataW H),uptoBulkAll l=(l.map uptoBulk).sum
 | []=>by simp[uptoBulkAll]
 |d::l=>by simp[uptoBulkAll,zoB l]
theorem zEl{H:Type}(d:DataW H):0<uptoBulk d:=by
 match d with
 | .lit l=>cases l<;>simp only[uptoBulk]<;>omega
 | .nil| .ptr _| .slice _ _| .agg _| .iface _ _| .map _| .held _=>simp only[uptoBulk];omega
theorem bulk:zCa (λ{H}=> @uptoBulk H):=⟨λds=>by simp only[uptoBulk,zoB];omega,λes sp=>by simp only[uptoBulk,zoB];omega,λs=>by simp only[uptoBulk];omega,zEl⟩
theorem kids:Kids Tryz.prog (· <Tryz.prog.types.size):=kids_rows (by kernel_rfl) (by kernel_rfl)
theorem full: ∀t e,t<Tryz.prog.types.size->Tryz.prog.underlying t=some (.slice e)->0<Tryz.prog.cellsOf e:=slices_full_of Tryz.prog (by kernel_rfl)
def zmH:List (String×DataW Unit):=Rows.parseBackUptoRow.laid
def zI0:List Int:=[0,1,56,2,57,49,28,3,61,58,42,50,38,29,17,4,62,47,59,36,45,43,51,22,53,39,33,30,24,18,12,5,63,55,48,27,60,41,37,16,46,35,44,21,52,32,23,11,54,26,40,15,34,20,31,10,25,14,19,9,13,8,7,6]
theorem star: "*"++ "errors.errorString"= "*errors.errorString":=by decide
theorem zIv(u:TypeId)(h:Tryz.prog.typeName? 3 u=some "*errors.errorString"):u=179:=
 typeName_ptr_named (nm:= "errors.errorString") (by rw[star];kernel_rfl) (by kernel_rfl) (by decide) u (by rw[star];exact h)
theorem zBZ{W:World}{name:String}{text:List UInt8}{g:Nat}(hL:laidMetH Tryz.prog zmH W)(hf:(zmH.filter λx=>x.1==name)=[(name,.iface "*errors.errorString" (.ptr (.agg [.lit (.string text)])))])
  (hg:Tryz.prog.globalNamed name=some g) (ht:(Tryz.prog.globals[g]?).map (·.type)=some 88): ∃t p,zf7 (ziR W) g 0 (.iface t p):=by
 rw[Go.MakeChecks.laidMetH_plain Tryz.prog zmH W (by kernel_rfl)]at hL;have h:=hL.filter (λx=>x.1==name);rw[hf]at h;obtain⟨a,s,hv,_,_,_⟩:=laid_sentinel h hg ht Tryz.underlying88 zIv Tryz.underlying179 Tryz.underlying181 rfl rfl Tryz.underlying9 (by kernel_rfl) (by kernel_rfl);have:=World.var?_cell hg hv 0;exact⟨_,_,zuN (v:= .iface 179 (.pointer (some a))) (by simpa using this)⟩
theorem zx9{H:Type}{enc:TypeId×Value->H}{W:World}{base b0:Nat}{v:Value}{d:DataW H}{ps:List MemPlace}(hval:Value.okWide Tryz.prog W .any b0 9 v)(h:DataW.Trod enc Tryz.prog W base (λ_=>true) true 9 v d ps):
  ∃a:Str,Rel Y (ziR W) [] (.v (.string ⟨⟨a⟩⟩)) v/\True/\a.length+1<=uptoBulk d:=by
 obtain⟨n,hn⟩:=h;obtain⟨a,h1,h2,h3⟩:=(zGU (bulk:=λ{H}=> @uptoBulk H) (Y:=Y) (N:=n) bulk Tryz.underlying9).opn (yJ _) hn;obtain⟨s,rfl⟩:=okWide_string Tryz.underlying9 hval;refine⟨a,?_,trivial,h3⟩;obtain⟨u,vs,e,q,r⟩:=h1.inv;simp only[Value.cells]at e;cases e;exact q
theorem zG8{W:World}(h:W.ShapedOpen Tryz.prog)(hL:laidMetH Tryz.prog zmH W):zao (ziR W):=by
 obtain⟨m,hm⟩:=Tryz.laysM219.s1_3 W h
 have hb:=zB5 (name:= "math/bits.deBruijn64tab") (k:= .u8) (zs:=zI0) (g:=7) (t:=198) (e:=5) (n:=64) hL (by kernel_rfl) (by kernel_rfl) (by kernel_rfl) (by kernel_rfl) (by kernel_rfl) (by kernel_rfl) (by kernel_rfl) (by kernel_rfl) W ⟨λ_ _ e=>e⟩
 exact⟨⟨m,zuN hm⟩,zuN (hb.cell (g:=7) (by kernel_rfl) 15 (by decide)),zBZ (name:= "strconv.ErrSyntax") (text:=[105,110,118,97,108,105,100,32,115,121,110,116,97,120]) hL (by kernel_rfl) (by kernel_rfl) (by kernel_rfl),zBZ (name:= "strconv.ErrRange") (text:=[118,97,108,117,101,32,111,117,116,32,111,102,32,114,97,110,103,101]) hL (by kernel_rfl) (by kernel_rfl) (by kernel_rfl),
  λw hs=>zB5 (name:= "internal/strconv.uint64pow10") (k:= .u64) (zs:=Lib.pow10Tab) (g:=3) (t:=188) (e:=129) (n:=20) hL (by kernel_rfl) (by kernel_rfl) (by kernel_rfl) (by kernel_rfl) (by kernel_rfl) (by kernel_rfl) (by kernel_rfl) (by kernel_rfl) w hs⟩
end Go.D08
namespace Go.Proofs.YtdapbipagjmolaaGreatDoor
open Go.Proofs Go.RowKit Go.Deep
set_option maxRecDepth 1000000
noncomputable def laidWorld (os:Os):World:=World.laidAll Tryz.prog os Go.D08.zmH
theorem zEB(os:Os)(args:Array Value):((laidWorld os).forCall (λ_ _=>0) ⟨#[],args,[]⟩).variablesRefB Tryz.prog=true:=by kernel_rfl
theorem zDx(os:Os)(args:Array Value):(((laidWorld os).forCall (λ_ _=>0) ⟨#[],args,[]⟩).heap.toList.drop Tryz.prog.globals.size).take ((begin Tryz.prog (λ_ _=>0) default).world.heap.size -Tryz.prog.globals.size)=
  (begin Tryz.prog (λ_ _=>0) default).world.heap.toList.drop Tryz.prog.globals.size:=by kernel_rfl
theorem zEh(os:Os)(args:Array Value):laidMet Tryz.prog Go.D08.zmH ((laidWorld os).forCall (λ_ _=>0) ⟨#[],args,[]⟩).memory:=
 laidMet_laidAll args (by kernel_rfl) (by kernel_rfl)
end Go.Proofs.YtdapbipagjmolaaGreatDoor
namespace Go.D08
open Go Go.Gw Go.Dn Go.Proofs
set_option maxRecDepth 100000
theorem is0{t:zD}{w:Str}(h:zI t=0):tIs w t=false:=by
 cases e:tIs w t with
 |false=>rfl
 |true=>exact absurd h (zJ e)
theorem any0{t:zD}{l:List Str}(h:zI t=0):zcc l t=false:=by
 cases e:zcc l t with
 |false=>rfl
 |true=>exact absurd h (zbE e)
def Ded{α:Type}(p:PR α):Prop:=∀v,p≠gt v
theorem Ded.bd{α β:Type}{p:PR α}{f:α×zD->PR β}(h:Ded p):Ded (p.bd f):=by
 intro v e;cases p with
 |none=>cases e
 |some x=>
  cases x with
  |inl k=>cases e
  |inr x=>exact h x rfl
theorem Ded.bn{β:Type}{p:PR Unit}{f:zD->PR β}(h:Ded p):Ded (p.bn f):=Ded.bd h
theorem Ded.bad{α:Type}{t:zD}:Ded (bad t:PR α):=λv e=>by cases e
theorem Ded.none{α:Type}:Ded (none:PR α):=λv e=>by cases e
theorem Ded.need{w:Str}{t:zD}(h:zI t=0):Ded (zaw w t):=by
 unfold zaw;rw[is0 h];exact Ded.bad
structure zAD (g:PG):Prop where
 expr: ∀a t,zI t=0->Ded (g.expr a t)
 assign: ∀a t,zI t=0->Ded (g.assign a t)
 binary: ∀a b t,zI t=0->Ded (g.binary a b t)
 unary: ∀t,zI t=0->Ded (g.unary t)
 made: ∀t,zI t=0->Ded (g.made t)
 prim: ∀t,zI t=0->Ded (g.prim t)
 exprs: ∀a b t,zI t=0->Ded (g.exprs a b t)
 props: ∀t,zI t=0->Ded (g.props t)
 func: ∀a t,zI t=0->Ded (g.func a t)
 vars: ∀a t,zI t=0->Ded (g.vars a t)
 block: ∀t,zI t=0->Ded (g.block t)
 head: ∀t,zI t=0->Ded (g.head t)
 till: ∀a t,zI t=0->Ded (g.till a t)
 loop: ∀t,zI t=0->Ded (g.loop t)
 cases: ∀a t,zI t=0->Ded (g.cases a t)
 stmt: ∀t,zI t=0->Ded (g.stmt t)
 body: ∀t,zI t=0->∀v,g.body t=gt v->zI v.2=0
 stmts: ∀a t,zI t=0->∀v,g.stmts a t=gt v->zI v.2=0
section
variable {g:PG} (D:zAD g)
include D
theorem zys(t)(h:zI t=0):Ded (zd1 g t):=by
 unfold zd1;simp only[is0 h,h];exact Ded.bad
theorem zDa(a t)(h:zI t=0):Ded (ziX g a t):=by
 unfold ziX;rw[yK (by rw[h];decide)]
 by_cases h39:(a==39)=true
 ·rw[yL h39];exact Ded.bd Ded.bad
 ·rw[yK h39];have:=Ded.bn (f:=λt1=>(zdR t1).bd λns=>(zaw [123] ns.2).bn λt=>(g.stmts true t).bd λl=>(zaw [125] l.2).bn λt=>gt ((⟨a,[],0,[],ns.1,l.1⟩:Node),t)) (Ded.need (w:=[40]) h);exact this
theorem zBF(t)(h:zI t=0):Ded (zgh g t):=by
 unfold zgh;simp only[is0 h,qz2,yA];refine Ded.bd ?_;unfold zmO;cases t with
 |nil=>exact Ded.none
 |cons a r=>
  have h:a.kind=0:=h;simp only[h];exact Ded.bad
theorem zyT(t)(h:zI t=0):Ded (zff g t):=by
 unfold zff;simp only[is0 h,h,qz2,yA];exact Ded.bd (D.expr _ _ h)
end
theorem zET: ∀n,zAD (pG n)
 |0=>by constructor<;>intros<;>first|exact Ded.none| (rename_i e;cases e)
 |n+1=>by
  have D:=zET n;constructor
  ·intro a t h;exact Ded.bd (D.assign _ _ h)
  ·intro a t h;exact Ded.bd (D.binary _ _ _ h)
  ·intro a b t h;exact Ded.bd (D.unary _ h)
  ·intro t h;show Ded (zer _ t);unfold zer;simp only[any0 h,qz2,yA];exact Ded.bd (D.made _ h)
  ·intro t h;show Ded (zf5 _ t);unfold zf5;simp only[is0 h,qz2,yA];exact D.prim _ h
  ·exact zys D
  ·intro a b t h;show Ded (zfI _ a b t);unfold zfI;simp only[is0 h,qz2,yA];exact Ded.bd (D.assign _ _ h)
  ·exact zBF D
  ·exact zDa D
  ·intro a t h;show Ded (ziZ _ a t);unfold ziZ;simp only[h];exact Ded.bad
  ·intro t h;show Ded (zgX _ t);exact Ded.bn (Ded.need h)
  ·intro t h;show Ded (zle _ t);exact Ded.bn (Ded.need h)
  ·intro a t h;show Ded (zgY _ a t);unfold zgY;simp only[is0 h,qz2,yA];exact Ded.bd (D.expr _ _ h)
  ·intro t h;show Ded (zlc _ t);exact Ded.bn (Ded.need h)
  ·intro a t h;show Ded (zhW _ a t);unfold zhW;simp only[is0 h,qz2,yA,Bool.and_false];exact Ded.bn (Ded.need h)
  ·exact zyT D
  ·intro t h v e;have e:ziY _ t=gt v:=e;unfold ziY at e;rw[yL (by rw[h];simp)]at e
   cases e;exact h
  ·intro a t h v e;have e:zbs _ a t=gt v:=e;unfold zbs at e;rw[yL (by rw[h];simp)]at e
   cases e;exact h
structure Beh (e m:Tok) (tb:zD):Prop where
 e0:e.kind=0
 m5:m.kind=5
 mt:m.text=[59]
 el:tIs [101,108,115,101] tb=false
inductive R1 (e m:Tok) (tb:zD):zD->zD->Prop
 |fin:R1 e m tb [e] (m::tb)
 |cons (a:Tok) {s s':zD} (ha:a.kind≠0) (h:R1 e m tb s s'):R1 e m tb (a::s) (a::s')
def R12(e m:Tok)(tb t t':zD):Prop:=R1 e m tb t t'\/(t=[e]/\t'=tb)
def Ext{α:Type}(z:Bool)(Q:zD->zD->Prop)(p q:PR α):Prop:=∀v s,p=gt (v,s)->(z=true->zI s≠0)->∃s',q=gt (v,s')/\Q s s'
section
variable {α β:Type} {Q R:zD->zD->Prop} {p q:PR α} {z:Bool}
theorem Ext.bd{f g:α×zD->PR β}(h:Ext false Q p q)(k: ∀v s s',Q s s'->Ext z R (f (v,s)) (g (v,s'))):Ext z R (p.bd f) (q.bd g):=by
 intro v s e hz;cases p with
 |none=>cases e
 |some x=>
  cases x with
  |inl k=>cases e
  |inr x=>
   obtain⟨s',rfl,hq⟩:=h x.1 x.2 rfl (by simp);exact k x.1 x.2 s' hq v s e hz
theorem Ext.bn{p q:PR Unit}{f g:zD->PR β}(h:Ext false Q p q)(k: ∀s s',Q s s'->Ext z R (f s) (g s')):Ext z R (p.bn f) (q.bn g):=Ext.bd h λ_=>k
theorem Ext.bdF{f g:α×zD->PR β}(h:Ext true Q p q)(k: ∀v s s',Q s s'->Ext z R (f (v,s)) (g (v,s')))(d: ∀v s,zI s=0->Ded (f (v,s))):Ext z R (p.bd f) (q.bd g):=by
 intro v s e hz;cases p with
 |none=>cases e
 |some x=>
  cases x with
  |inl k=>cases e
  |inr x=>
   by_cases h0:zI x.2=0
   ·exact absurd e (d x.1 x.2 h0 (v,s))
   ·obtain⟨s',rfl,hq⟩:=h x.1 x.2 rfl (λ_=>h0);exact k x.1 x.2 s' hq v s e hz
theorem Ext.map{F:α->β}(h:Ext z Q p q):Ext z Q (p.bd λl=>gt (F l.1,l.2)) (q.bd λl=>gt (F l.1,l.2)):=by
 intro v s e hz;cases p with
 |none=>cases e
 |some x=>
  cases x with
  |inl k=>cases e
  |inr x=>
   cases e;obtain⟨s',rfl,hq⟩:=h x.1 x.2 rfl hz;exact⟨s',rfl,hq⟩
theorem Ext.gt{v:α}{s s':zD}(h:Q s s'):Ext z Q (gt (v,s)) (gt (v,s')):=λ_ _ e _=>by cases e;exact⟨s',rfl,h⟩
theorem Ext.ded(h:Ded p):Ext z Q p q:=λv s e _=>absurd e (h _)
theorem Ext.bad{t:zD}:Ext z Q (bad t) q:=Ext.ded Ded.bad
theorem Ext.ite{b b':Bool}{p' q':PR α}(hb:b=b')(h1:b=true->Ext z Q p q)(h2:b=false->Ext z Q p' q'):Ext z Q (if b=true then p else p') (if b'=true then q else q'):=by
 subst hb;cases b with
 |true=>exact h1 rfl
 |false=>exact h2 rfl
theorem Ext.to(h:Ext z Q p q)(k: ∀s s',Q s s'->R s s'):Ext z R p q:=λv s e hz=>let⟨s',e',hq⟩:=h v s e hz;⟨s',e',k _ _ hq⟩
end
section
variable {e m:Tok} {tb t t':zD} (B:Beh e m tb) (h:R1 e m tb t t')
include B
theorem mis{w:Str}(hw:w≠[59]):tIs w (m::tb)=false:=by
 show(opK m&&(m.text==w))=false;rw[B.mt,yH.2 (Ne.symm hw),Bool.and_false]
include h
theorem R1.is{w:Str}(hw:w≠[59]):tIs w t=tIs w t':=by
 cases h with
 |fin=>rw[mis B hw,is0 (show zI [e]=0 from B.e0)]
 |cons a ha h=>rfl
theorem R1.any{l:List Str}(hl:l.contains ([59]:Str)=false):zcc l t=zcc l t':=by
 cases h with
 |fin=>
  rw[any0 (show zI [e]=0 from B.e0)];show false=(opK m&&l.contains m.text)
  rw[B.mt,hl,Bool.and_false]
 |cons a ha h=>rfl
theorem R1.kind{k:Nat}(h0:k≠0)(h5:k≠5):(zI t==k)=(zI t'==k):=by
 cases h with
 |fin=>
  show(e.kind==k)=(m.kind==k)
  rw[B.e0,B.m5,yH.2 (Ne.symm h0),yH.2 (Ne.symm h5)]
 |cons a ha h=>rfl
theorem R1.tail(hk:zI t≠0):R1 e m tb t.tail t'.tail:=by
 cases h with
 |fin=>exact absurd B.e0 hk
 |cons a ha h=>exact h
theorem R1.text(hk:zI t≠0):tText t=tText t':=by
 cases h with
 |fin=>exact absurd B.e0 hk
 |cons a ha h=>rfl
theorem Ext.need{w:Str}:Ext false (R1 e m tb) (zaw w t) (zaw w t'):=by
 cases h with
 |fin=>exact Ext.ded (Ded.need B.e0)
 |cons a ha h=>
  unfold zaw;exact Ext.ite rfl (λ_=>Ext.gt h) λ_=>Ext.bad
theorem R1.zcO{no:Bool}:zcO no t=zcO no t':=by
 cases h with
 |fin=>
  have h1:opK e=false:=by unfold opK;rw[B.e0];rfl
  show(if opK e=true then lvS no e.text else(0,0))=if opK m=true then lvS no m.text else(0,0)
  rw[h1,B.mt];have:lvS no [59]=(0,0):=by cases no<;>decide
  rw[this];simp
 |cons a ha h=>rfl
theorem R1.upd:(!zcc ziB t||zfE t)=(!zcc ziB t'||zfE t'):=by
 cases h with
 |fin=>
  rw[any0 (show zI [e]=0 from B.e0)]
  have:zcc ziB (m::tb)=false:=by
   show(opK m&&ziB.contains m.text)=false;rw[B.mt];simp[ziB]
  rw[this];rfl
 |cons a ha h=>rfl
theorem Ext.zde:Ext false (R12 e m tb) (zde t) (zde t'):=by
 unfold Go.D08.zde;cases h with
 |fin=>
  rw[is0 (show zI [e]=0 from B.e0)]
  have h1:tIs [59] (m::tb)=true:=by
   show(opK m&&(m.text==([59]:Str)))=true;unfold opK;rw[B.mt,B.m5];rfl
  have h2:zgi [e]=true:=by unfold zgi;rw[show zI [e]=0 from B.e0];simp
  rw[h1,h2];exact Ext.gt (.inr ⟨rfl,rfl⟩)
 |cons a ha h=>exact Ext.ite rfl (λ_=>Ext.gt (.inl h)) λ_=>Ext.ite rfl (λ_=>Ext.gt (.inl (.cons a ha h))) λ_=>Ext.bad
end
structure zH4 (e m:Tok) (tb:zD) (g:PG):Prop where
 expr: ∀a t t',R1 e m tb t t'->Ext false (R1 e m tb) (g.expr a t) (g.expr a t')
 comma: ∀a x t t',R1 e m tb t t'->Ext false (R1 e m tb) (g.comma a x t) (g.comma a x t')
 assign: ∀a t t',R1 e m tb t t'->Ext false (R1 e m tb) (g.assign a t) (g.assign a t')
 binary: ∀a b t t',R1 e m tb t t'->Ext false (R1 e m tb) (g.binary a b t) (g.binary a b t')
 bins: ∀a b x t t',R1 e m tb t t'->Ext false (R1 e m tb) (g.bins a b x t) (g.bins a b x t')
 unary: ∀t t',R1 e m tb t t'->Ext false (R1 e m tb) (g.unary t) (g.unary t')
 mems: ∀a x t t',R1 e m tb t t'->Ext false (R1 e m tb) (g.mems a x t) (g.mems a x t')
 made: ∀t t',R1 e m tb t t'->Ext false (R1 e m tb) (g.made t) (g.made t')
 prim: ∀t t',R1 e m tb t t'->Ext false (R1 e m tb) (g.prim t) (g.prim t')
 exprs: ∀a b t t',R1 e m tb t t'->a≠[59]->Ext false (R1 e m tb) (g.exprs a b t) (g.exprs a b t')
 props: ∀t t',R1 e m tb t t'->Ext false (R1 e m tb) (g.props t) (g.props t')
 func: ∀a t t',R1 e m tb t t'->Ext false (R1 e m tb) (g.func a t) (g.func a t')
 vars: ∀a t t',R1 e m tb t t'->Ext false (R1 e m tb) (g.vars a t) (g.vars a t')
 block: ∀t t',R1 e m tb t t'->Ext false (R1 e m tb) (g.block t) (g.block t')
 head: ∀t t',R1 e m tb t t'->Ext false (R1 e m tb) (g.head t) (g.head t')
 till: ∀a t t',R1 e m tb t t'->Ext false (R1 e m tb) (g.till a t) (g.till a t')
 loop: ∀t t',R1 e m tb t t'->Ext false (R12 e m tb) (g.loop t) (g.loop t')
 cases: ∀a t t',R1 e m tb t t'->Ext false (R1 e m tb) (g.cases a t) (g.cases a t')
 body: ∀t t',R1 e m tb t t'->Ext true (R1 e m tb) (g.body t) (g.body t')
 stmt: ∀t t',R1 e m tb t t'->Ext false (R12 e m tb) (g.stmt t) (g.stmt t')
 stmts: ∀a t t',R1 e m tb t t'->Ext true (R1 e m tb) (g.stmts a t) (g.stmts a t')
section
variable {e m:Tok} {tb t t':zD} {g:PG} (B:Beh e m tb) (D:zAD g) (L:zH4 e m tb g) (h:R1 e m tb t t')
include B D L h
theorem zIf(a):Ext false (R1 e m tb) (zi0 g a t) (zi0 g a t'):= .bd (L.assign _ _ _ h) λ_ _ _ hs=>L.comma _ _ _ _ hs
theorem zGS(a x):Ext false (R1 e m tb) (zj9 g a x t) (zj9 g a x t'):=
 .ite (h.is B (by decide)) (λhb=> .bd (L.assign _ _ _ (h.tail B (zJ hb))) λ_ _ _ hs=>L.comma _ _ _ _ hs) λ_=> .gt h
theorem zEu(a):Ext false (R1 e m tb) (zfB g a t) (zfB g a t'):=by
 refine .bd (L.binary _ _ _ _ h) λx s s' hs=> .ite (hs.is B (by decide)) (λhb=> .bd (L.assign _ _ _ (hs.tail B (zJ hb))) λ_ _ _ hs=> .bn (.need B hs) λ_ _ hs=> .bd (L.assign _ _ _ hs) λ_ _ _ hs=> .gt hs) λ_=>?_
 refine .ite (hs.any B (by decide)) (λhb=> .ite rfl (λ_=>?_) λ_=> .bad) λ_=> .gt hs
 rw[<-hs.text B (zbE hb)];exact .bd (L.assign _ _ _ (hs.tail B (zbE hb))) λ_ _ _ hs=> .gt hs
theorem zCM(a b):Ext false (R1 e m tb) (zfA g a b t) (zfA g a b t'):= .bd (L.unary _ _ h) λ_ _ _ hs=>L.bins _ _ _ _ _ hs
theorem zIA(a b x):Ext false (R1 e m tb) (zld g a b x t) (zld g a b x t'):=by
 unfold zld;rw[<-h.zcO B];refine .ite rfl (λ_=> .gt h) λhb=>?_
 have hk:zI t≠0:=zob (no:=a) λe0=>by rw[e0]at hb;simp at hb
 rw[<-h.text B hk];exact .bd (L.binary _ _ _ _ (h.tail B hk)) λ_ _ _ hs=>L.bins _ _ _ _ _ hs
theorem zFv:Ext false (R1 e m tb) (zer g t) (zer g t'):=by
 refine .ite (h.any B (by decide)) (λhb=>?_) λ_=> .ite (h.any B (by decide)) (λhb=>?_) λ_=>?_
 ·rw[<-h.text B (zbE hb)];exact .bd (L.unary _ _ (h.tail B (zbE hb))) λ_ _ _ hs=> .gt hs
 ·rw[<-h.text B (zbE hb)];exact .bd (L.unary _ _ (h.tail B (zbE hb))) λ_ _ _ hs=> .ite rfl (λ_=> .gt hs) λ_=> .bad
 ·refine .bd (L.made _ _ h) λ_ _ _ hs=> .bd (L.mems _ _ _ _ hs) λx s s' hs=> .ite (hs.upd B) (λ_=> .gt hs) λhb=> .ite rfl (λ_=>?_) λ_=> .bad
  have hk:zI s≠0:=by
   cases ha:zcc ziB s with
   |true=>exact zbE ha
   |false=>exact absurd hb (by simp[ha])
  show Ext false _ (gt (ndN 16 (tText s) [x],s.tail)) (gt (ndN 16 (tText s') [x],s'.tail));rw[<-hs.text B hk];exact .gt (hs.tail B hk)
theorem zIe(a x):Ext false (R1 e m tb) (zk5 g a x t) (zk5 g a x t'):=by
 refine .ite (h.is B (by decide)) (λhb=>?_) λ_=> .ite (h.is B (by decide)) (λhb=>?_) λ_=> .ite (by rw[h.is B (by decide)]) (λhb=>?_) λ_=> .gt h
 ·have ht:=h.tail B (zJ hb);refine .ite (by rw[ht.kind B (k:=1) (by decide) (by decide),ht.kind B (k:=2) (by decide) (by decide)]) (λhk=>?_) λ_=> .bad
  have hk:zI t.tail≠0:=by simp only[yQ,beq_iff_eq]at hk;omega
  rw[<-ht.text B hk];exact L.mems _ _ _ _ (ht.tail B hk)
 ·exact .bd (L.expr _ _ _ (h.tail B (zJ hb))) λ_ _ _ hs=> .bn (.need B hs) λ_ _ hs=>L.mems _ _ _ _ hs
 ·rw[qz4]at hb;exact .bd (L.exprs _ _ _ _ (h.tail B (zJ hb.2)) (by decide)) λ_ _ _ hs=>L.mems _ _ _ _ hs
theorem zIg:Ext false (R1 e m tb) (zf5 g t) (zf5 g t'):=
 .ite (h.is B (by decide)) (λhb=> .bd (L.made _ _ (h.tail B (zJ hb))) λ_ _ _ hs=> .bd (L.mems _ _ _ _ hs) λ_ _ _ hs=>
  .ite (hs.is B (by decide)) (λhb=> .bd (L.exprs _ _ _ _ (hs.tail B (zJ hb)) (by decide)) λ_ _ _ hs=> .gt hs) λ_=> .gt hs) λ_=>L.prim _ _ h
theorem zHE:Ext false (R1 e m tb) (zd1 g t) (zd1 g t'):=by
 cases h with
 |fin=>exact .ded (zys D _ B.e0)
 |cons a ha h=>
  refine .ite rfl (λ_=> .gt h) λ_=> .ite rfl (λ_=> .gt h) λ_=> .ite rfl (λ_=> .gt h) λ_=> .ite rfl (λ_=> .gt h) λ_=> .ite rfl (λ_=> .gt h) λ_=> .ite rfl (λ_=> .gt h) λ_=> .ite rfl (λ_=> .gt h) λ_=>
   .ite rfl (λ_=>L.func _ _ _ h) λ_=> .ite rfl (λ_=> .bd (L.expr _ _ _ h) λ_ _ _ hs=> .bn (.need B hs) λ_ _ hs=> .gt hs) λ_=> .ite rfl (λ_=> .bd (L.exprs _ _ _ _ h (by decide)) λ_ _ _ hs=> .gt hs) λ_=>
   .ite rfl (λ_=> .bd (L.props _ _ h) λ_ _ _ hs=> .gt hs) λ_=> .bad
theorem zE6(a b)(ha:a≠[59]):Ext false (R1 e m tb) (zfI g a b t) (zfI g a b t'):=
 .ite (h.is B ha) (λhb=> .gt (h.tail B (zJ hb))) λ_=> .bd (L.assign _ _ _ h) λ_ _ _ hs=> .ite (hs.is B ha) (λhb=> .gt (hs.tail B (zJ hb))) λ_=> .bn (.need B hs) λ_ _ hs=>
  .ite (by rw[hs.is B ha]) (λ_=> .bad) λ_=> .bd (L.exprs _ _ _ _ hs ha) λ_ _ _ hs=> .gt hs
theorem zIY:Ext false (R1 e m tb) (zmO t) (zmO t'):=by
 cases h with
 |fin=>
  refine .ded ?_;have:zmO [e]=bad [e]:=by unfold zmO;simp only[B.e0];rfl
  rw[this];exact Ded.bad
 |cons a ha h=>exact .ite rfl (λ_=> .gt h) λ_=> .ite rfl (λ_=> .gt h) λ_=> .ite rfl (λ_=> .gt h) λ_=> .bad
theorem zGb:Ext false (R1 e m tb) (zgh g t) (zgh g t'):=
 .ite (h.is B (by decide)) (λhb=> .gt (h.tail B (zJ hb))) λ_=> .bd (zIY B D L h) λ_ _ _ hs=> .bn (.need B hs) λ_ _ hs=> .bd (L.assign _ _ _ hs) λ_ _ _ hs=>
  .ite (hs.is B (by decide)) (λhb=> .gt (hs.tail B (zJ hb))) λ_=> .bn (.need B hs) λ_ _ hs=> .bd (L.props _ _ hs) λ_ _ _ hs=> .gt hs
omit D L h in
theorem zz9: ∀(n:Nat) (t t':zD),t.length<=n->R1 e m tb t t'->Ext false (R1 e m tb) (zfO t) (zfO t')
 |0,t,t',hn,h=>by cases h<;>simp at hn
 |n+1,t,t',hn,h=>by
  cases h with
  |fin=>unfold zfO;exact .bad
  |cons a ha h=>
   cases h with
   |fin=>
    unfold zfO;rw[is0 (show zI [e]=0 from B.e0),is0 (show zI [e]=0 from B.e0)];refine .ded ?_;simp only[qz2,yA];split<;>exact Ded.bad
   |cons b hb h=>
    rename_i s s';unfold zfO;exact .ite rfl (λ_=> .ite rfl (λ_=> .gt h) λ_=> .ite rfl (λ_=> .ite (h.is B (by decide)) (λ_=> .bad) λ_=> .bd (zz9 n _ _ (by simp only[qz3]at hn;omega) h) λ_ _ _ hs=> .gt hs) λ_=> .bad) λ_=> .bad
theorem zD1:Ext false (R1 e m tb) (zdR t) (zdR t'):=
 .ite (h.is B (by decide)) (λhb=> .gt (h.tail B (zJ hb))) λ_=>zz9 B _ _ _ (yJ _) h
theorem zH6(a):Ext false (R1 e m tb) (ziX g a t) (ziX g a t'):=by
 refine .bd (Q:=R1 e m tb) (.ite (h.kind B (by decide) (by decide)) (λhb=>?_) λ_=> .ite rfl (λ_=> .bad) λ_=> .gt h) λ_ _ _ hs=> .bn (.need B hs) λ_ _ hs=> .bd (zD1 B D L hs) λ_ _ _ hs=> .bn (.need B hs) λ_ _ hs=>
  .bdF (L.stmts _ _ _ hs) (λ_ _ _ hs=> .bn (.need B hs) λ_ _ hs=> .gt hs) λ_ _ h0=>Ded.bn (Ded.need h0)
 have hk:=zaU hb (by decide);rw[<-h.text B hk];exact .gt (h.tail B hk)
theorem zHP(a):Ext false (R1 e m tb) (ziZ g a t) (ziZ g a t'):=by
 refine .ite (h.kind B (by decide) (by decide)) (λhb=>?_) λ_=> .bad
 have hk:=zaU hb (by decide);have ht:=h.tail B hk;rw[<-h.text B hk];exact .bd (Q:=R1 e m tb) (.ite (ht.is B (by decide)) (λhb=> .bd (L.assign _ _ _ (ht.tail B (zJ hb))) λ_ _ _ hs=> .gt hs) λ_=> .gt ht) λ_ _ _ hs=> .ite (hs.is B (by decide)) (λhb=> .bd (L.vars _ _ _ (hs.tail B (zJ hb))) λ_ _ _ hs=> .gt hs) λ_=> .gt hs
theorem zGk:Ext false (R1 e m tb) (zgX g t) (zgX g t'):=
 .bn (.need B h) λ_ _ hs=> .bdF (L.stmts _ _ _ hs) (λ_ _ _ hs=> .bn (.need B hs) λ_ _ hs=> .gt hs) λ_ _ h0=>Ded.bn (Ded.need h0)
theorem zHi:Ext false (R1 e m tb) (zle g t) (zle g t'):=
 .bn (.need B h) λ_ _ hs=> .bd (L.expr _ _ _ hs) λ_ _ _ hs=> .bn (.need B hs) λ_ _ hs=> .gt hs
theorem zH0(a):Ext false (R1 e m tb) (zgY g a t) (zgY g a t'):=by
 have hx:=L.expr false _ _ h;have key:Ext false (R1 e m tb) ((g.expr false t).bd λx=>(zaw a x.2).bn λt=>gt (x.1,t)) ((g.expr false t').bd λx=>(zaw a x.2).bn λt=>gt (x.1,t)):= .bd hx λ_ _ _ hs=> .bn (.need B hs) λ_ _ hs=> .gt hs
 cases h with
 |fin=>
  refine .ded ?_;unfold zgY;rw[is0 (show zI [e]=0 from B.e0)];exact Ded.bd (D.expr _ _ B.e0)
 |cons b hb h=>exact .ite rfl (λ_=> .gt h) λ_=>key
theorem zGf:Ext false (R1 e m tb) (zkb g t) (zkb g t'):=by
 have hx:=L.expr true _ _ h;cases h with
 |fin=>
  refine .ded ?_;unfold zkb;rw[is0 (show zI [e]=0 from B.e0),is0 (show zI [e]=0 from B.e0)];exact D.expr _ _ B.e0
 |cons b hb h=>exact .ite rfl (λ_=> .bd (L.vars _ _ _ h) λ_ _ _ hs=> .gt hs) λ_=> .ite rfl (λ_=> .gt (.cons b hb h)) λ_=>hx
theorem zHZ:Ext false (R12 e m tb) (zlc g t) (zlc g t'):=
 .bn (.need B h) λ_ _ hs=> .bd (zGf B D L hs) λ_ _ _ hs=> .ite (by rw[hs.is B (by decide)])
  (λhb=>by
   rw[qz4]at hb;exact .bd (L.expr _ _ _ (hs.tail B (zJ hb.2))) λ_ _ _ hs=> .bn (.need B hs) λ_ _ hs=> .bd (L.stmt _ _ hs) λ_ _ _ hs=> .gt hs)
  λ_=> .bn (.need B hs) λ_ _ hs=> .bd (L.till _ _ _ hs) λ_ _ _ hs=> .bd (L.till _ _ _ hs) λ_ _ _ hs=> .bd (L.stmt _ _ hs) λ_ _ _ hs=> .gt hs
theorem zF6:Ext false (R1 e m tb) (znj g t) (znj g t'):=
 .ite (h.is B (by decide)) (λhb=> .bn (.need B (h.tail B (zJ hb))) λs s' hs=> .ite (hs.kind B (by decide) (by decide)) (λhb=>by
  have hk:=zaU hb (by decide);rw[<-hs.text B hk];exact .bn (.need B (hs.tail B hk)) λ_ _ hs=> .bd (L.block _ _ hs) λ_ _ _ hs=> .gt hs) λ_=> .bad) λ_=> .gt h
theorem zFe:Ext false (R1 e m tb) (zli g t) (zli g t'):=
 .ite (h.is B (by decide)) (λhb=>L.block _ _ (h.tail B (zJ hb))) λ_=> .gt h
theorem zI1:Ext false (R1 e m tb) (zqG g t) (zqG g t'):=
 .bd (L.block _ _ h) λ_ _ _ hs=> .bd (zF6 B D L hs) λ_ _ _ hs=> .bd (zFe B D L hs) λ_ _ _ hs=> .ite rfl (λ_=> .bad) λ_=> .gt hs
theorem zF2(a):Ext false (R1 e m tb) (zhW g a t) (zhW g a t'):=
 .ite (h.is B (by decide)) (λhb=> .gt (h.tail B (zJ hb))) λ_=> .ite (by rw[h.is B (by decide)])
  (λhb=>by
   rw[qz4]at hb;exact .bn (.need B (h.tail B (zJ hb.2))) λ_ _ hs=> .bdF (L.body _ _ hs) (λ_ _ _ hs=> .bd (L.cases _ _ _ hs) λ_ _ _ hs=> .gt hs) λ_ _ h0=>Ded.bd (D.cases _ _ h0))
  λ_=> .bn (.need B h) λ_ _ hs=> .bd (L.expr _ _ _ hs) λ_ _ _ hs=> .bn (.need B hs) λ_ _ hs=> .bdF (L.body _ _ hs) (λ_ _ _ hs=> .bd (L.cases _ _ _ hs) λ_ _ _ hs=> .gt hs) λ_ _ h0=>Ded.bd (D.cases _ _ h0)
theorem zEY{α:Type}{p q:PR α}{F:α->List Node->List Node}{k:zD->PR (List Node)}(hp:Ext false (R12 e m tb) p q)(hk: ∀s s',R1 e m tb s s'->Ext true (R1 e m tb) (k s) (k s'))(k0: ∀s v,zI s=0->k s=gt v->zI v.2=0):
  Ext true (R1 e m tb) (p.bd λx=>(k x.2).bd λl=>gt (F x.1 l.1,l.2)) (q.bd λx=>(k x.2).bd λl=>gt (F x.1 l.1,l.2)):=
 .bd hp λx s s' hs=>by
  rcases hs with hs| ⟨rfl,rfl⟩
  ·exact .map (F:=F x) (hk _ _ hs)
  ·intro v y ev hz;have hz:=hz rfl;simp only at ev;cases ek:k [e]with
   |none=>rw[ek]at ev;cases ev
   |some r=>
    cases r with
    |inl j=>rw[ek]at ev;cases ev
    |inr r=>
     have:=k0 [e] r B.e0 ek;rw[ek]at ev;cases ev;exact absurd this hz
theorem zHs:Ext true (R1 e m tb) (ziY g t) (ziY g t'):=by
 have hx:=zEY B D L h (F:=λx l=>x::l) (k:=g.body) (L.stmt _ _ h) (λ_ _ hs=>L.body _ _ hs) λs v h0 ek=>D.body s h0 v ek
 cases h with
 |fin=>
  intro v s ev hz;unfold ziY at ev;rw[yL (by rw[show zI [e]=0 from B.e0];simp)]at ev
  cases ev;exact absurd B.e0 (hz rfl)
 |cons a ha h=>exact .ite rfl (λ_=> .gt (.cons a ha h)) λ_=>hx
theorem zFA(a):Ext true (R1 e m tb) (zbs g a t) (zbs g a t'):=by
 have hx:Ext false (R12 e m tb) (if(a&&tIs [102,117,110,99,116,105,111,110] t)=true then g.func 39 t.tail else g.stmt t) (if(a&&tIs [102,117,110,99,116,105,111,110] t')=true then g.func 39 t'.tail else g.stmt t'):=
  .ite (by rw[h.is B (by decide)]) (λhb=>by
   rw[qz4]at hb;exact(L.func _ _ _ (h.tail B (zJ hb.2))).to λ_ _=> .inl) λ_=>L.stmt _ _ h
 have hx:=zEY B D L h (F:=λx l=>x::l) (k:=g.stmts a) hx (λ_ _ hs=>L.stmts _ _ _ hs) λs v h0 ek=>D.stmts a s h0 v ek
 cases h with
 |fin=>
  intro v s ev hz;unfold zbs at ev;rw[yL (by rw[show zI [e]=0 from B.e0];simp)]at ev
  cases ev;exact absurd B.e0 (hz rfl)
 |cons b hb h=>exact .ite rfl (λ_=> .gt (.cons b hb h)) λ_=>hx
theorem zBp(k):Ext false (R12 e m tb) (zmf k t) (zmf k t'):=by
 have hx:Ext false (R12 e m tb) ((zde t).bn λt=>gt (nd k [],t)) ((zde t').bn λt=>gt (nd k [],t)):= .bn (Ext.zde B h) λ_ _ hs=> .gt hs
 cases h with
 |fin=>
  unfold zmf;rw[yK (by rw[show zI [e]=0 from B.e0];simp),yK (by rw[show zI (m::tb)=5 from B.m5];simp)]
  exact hx
 |cons a ha h=>exact .ite rfl (λ_=> .bn (Ext.zde B h) λ_ _ hs=> .gt hs) λ_=>hx
theorem zHk:Ext false (R12 e m tb) (zff g t) (zff g t'):=by
 have hbl:=L.block _ _ h;have hex:=L.expr false _ _ h;cases h with
 |fin=>exact .ded (zyT D _ B.e0)
 |cons a ha h=>
  rename_i s s'
  refine .ite rfl (λ_=>hbl.to λ_ _=> .inl) λ_=> .ite rfl (λ_=> .gt (.inl h)) λ_=> .ite rfl (λ_=> .bd (L.vars _ _ _ h) λ_ _ _ hs=> .bn (Ext.zde B hs) λ_ _ hs=> .gt hs) λ_=> .ite rfl (λ_=>?_) λ_=>
   .ite rfl (λ_=> .bd (L.head _ _ h) λ_ _ _ hs=> .bd (L.stmt _ _ hs) λ_ _ _ hs=> .gt hs) λ_=> .ite rfl (λ_=>?_) λ_=> .ite rfl (λ_=>L.loop _ _ h) λ_=> .ite rfl (λ_=>zBp B D L h _) λ_=> .ite rfl (λ_=>zBp B D L h _) λ_=>
   .ite rfl (λ_=>?_) λ_=> .ite rfl (λ_=>?_) λ_=> .ite rfl (λ_=>(zI1 B D L h).to λ_ _=> .inl) λ_=>
   .ite rfl (λ_=> .bd (L.head _ _ h) λ_ _ _ hs=> .bn (.need B hs) λ_ _ hs=> .bd (L.cases _ _ _ hs) λ_ _ _ hs=> .gt (.inl hs)) λ_=> .ite rfl (λ_=> .bad) λ_=> .ite (by
    show(zI (a::s)==1&&tIs [58] s)=(zI (a::s')==1&&tIs [58] s')
    rw[h.is B (by decide)];rfl) (λhb=>?_) λ_=> .bd hex λ_ _ _ hs=> .bn (Ext.zde B hs) λ_ _ hs=> .gt hs
  ·refine .bd (L.head _ _ h) λ_ _ _ hs=> .bd (L.stmt _ _ hs) λ_ y y' hs=>?_
   rcases hs with hs| ⟨rfl,rfl⟩
   ·exact .ite (hs.is B (by decide)) (λhb=> .bd (L.stmt _ _ (hs.tail B (zJ hb))) λ_ _ _ hs=> .gt hs) λ_=> .gt (.inl hs)
   ·simp only[is0 (show zI [e]=0 from B.e0),B.el,qz2,yA];exact .gt (.inr ⟨rfl,rfl⟩)
  ·refine .bd (L.stmt _ _ h) λ_ y y' hs=>?_
   rcases hs with hs| ⟨rfl,rfl⟩
   ·exact .bn (.need B hs) λ_ _ hs=> .bd (L.head _ _ hs) λ_ _ _ hs=> .bn (Ext.zde B hs) λ_ _ hs=> .gt hs
   ·exact .ded (Ded.bn (Ded.need B.e0))
  ·have hpe:Ext false (R12 e m tb) ((zde s).bn λt=>gt (nd 33 [],t)) ((zde s').bn λt=>gt (nd 33 [],t)):= .bn (Ext.zde B h) λ_ _ hs=> .gt hs
   have hxx:=L.expr false _ _ h;cases h with
   |fin=>
    have h1:zgi [e]=true:=by unfold zgi;rw[show zI [e]=0 from B.e0];simp
    have h2:tIs [59] (m::tb)=true:=by
     show(opK m&&(m.text==([59]:Str)))=true;unfold opK;rw[B.mt,B.m5];rfl
    show Ext false _ (if(!tIs [59] [e]&& !zgi [e])=true then _ else _) (if(!tIs [59] (m::tb)&& !zgi (m::tb))=true then _ else _);rw[h1,h2,yO,Bool.and_false,Bool.false_and];exact hpe
   |cons b hb h=>exact .ite rfl (λ_=> .bd hxx λ_ _ _ hs=> .bn (Ext.zde B hs) λ_ _ hs=> .gt hs) λ_=>hpe
  ·have hxx:=L.expr false _ _ h;cases h with
   |fin=>
    refine .ded ?_;show Ded (if zfE [e]=true then bad [e]else _);split
    ·exact Ded.bad
    ·exact Ded.bd (D.expr _ _ B.e0)
   |cons b hb h=>exact .ite rfl (λ_=> .bad) λ_=> .bd hxx λ_ _ _ hs=> .bn (Ext.zde B hs) λ_ _ hs=> .gt hs
  ·rw[qz4]at hb;have hk:tIs [58] s=true:=hb.2;exact .bd (L.stmt _ _ (h.tail B (zJ hk))) λ_ _ _ hs=> .gt hs
end
theorem exts{e m:Tok}{tb:zD}(B:Beh e m tb): ∀n,zH4 e m tb (pG n)
 |0=>by constructor<;>intros<;>exact .ded Ded.none
 |n+1=>by
  have L:=exts B n;have D:=zET n
  exact⟨λa _ _ h=>zIf B D L h a,λa x _ _ h=>zGS B D L h a x,λa _ _ h=>zEu B D L h a,λa b _ _ h=>zCM B D L h a b,λa b x _ _ h=>zIA B D L h a b x,λ_ _ h=>zFv B D L h,
   λa x _ _ h=>zIe B D L h a x,λ_ _ h=>zIg B D L h,λ_ _ h=>zHE B D L h,λa b _ _ h ha=>zE6 B D L h a b ha,λ_ _ h=>zGb B D L h,λa _ _ h=>zH6 B D L h a,λa _ _ h=>zHP B D L h a,
   λ_ _ h=>zGk B D L h,λ_ _ h=>zHi B D L h,λa _ _ h=>zH0 B D L h a,λ_ _ h=>zHZ B D L h,λa _ _ h=>zF2 B D L h a,λ_ _ h=>zHs B D L h,λ_ _ h=>zHk B D L h,λa _ _ h=>zFA B D L h a⟩
structure TkG (a:Tok):Prop where
 name:a.kind=1->zbL a.text=true
 word:a.kind=2->zj5 a.text=true
 num:a.kind=3->0<=a.num/\a.num<=9007199254740991
 str:a.kind=4->zaT a.text=true
def GT(t:zD):Prop:=∀a∈t,TkG a
theorem GT.tail{t:zD}(h:GT t):GT t.tail:=λa ha=>h a (List.mem_of_mem_tail ha)
def wT:zD->Nat
 | []=>0
 |a::r=>100+3*a.text.length+wT r
theorem zaq{t:zD}(h:zI t≠0):wT t=100+3*(tText t).length+wT t.tail:=by
 cases t with
 |nil=>exact absurd rfl h
 |cons a r=>rfl
theorem GT.name{t:zD}(h:GT t)(hk:(zI t==1)=true):zbL (tText t)=true:=by
 cases t with
 |nil=>cases hk
 |cons a r=>exact(h a qz7).name (eq_of_beq hk)
theorem GT.ident{t:zD}(h:GT t)(hk:(zI t==1||zI t==2)=true):zj5 (tText t)=true:=by
 rw[yQ]at hk;rcases hk with hk|hk
 ·have:=h.name hk;unfold zbL at this;rw[qz4]at this;exact this.1
 ·cases t with
  |nil=>cases hk
  |cons a r=>exact(h a qz7).word (eq_of_beq hk)
def Pm{α:Type}(P:α->zD->Prop)(x:PR α):Prop:=match x with|some (.inr q)=>GT q.2/\P q.1 q.2|_=>True
theorem Pm.bd{α β:Type}{P:α->zD->Prop}{Q:β->zD->Prop}{x:PR α}{f:α×zD->PR β}(h:Pm P x)(k: ∀q:α×zD,GT q.2->P q.1 q.2->Pm Q (f q)):Pm Q (x.bd f):=by
 cases x with
 |none=>trivial
 |some p=>
  cases p with
  |inl j=>trivial
  |inr q=>exact k q h.1 h.2
theorem Pm.bn{β:Type}{P:Unit->zD->Prop}{Q:β->zD->Prop}{x:PR Unit}{f:zD->PR β}(h:Pm P x)(k: ∀t,GT t->P () t->Pm Q (f t)):Pm Q (x.bn f):=Pm.bd h λq g p=>k q.2 g p
theorem Pm.ite{α:Type}{P:α->zD->Prop}{c:Prop}[Decidable c]{a b:PR α}(h:c->Pm P a)(k: ¬c->Pm P b):Pm P (if c then a else b):=by
 by_cases hc:c
 ·rw[yL hc];exact h hc
 ·rw[yK hc];exact k hc
theorem Pm.up{α:Type}{P Q:α->zD->Prop}{x:PR α}(h:Pm P x)(k: ∀v t,P v t->Q v t):Pm Q x:=by
 cases x with
 |none=>trivial
 |some p=>
  cases p with
  |inl j=>trivial
  |inr q=>exact⟨h.1,k _ _ h.2⟩
theorem Pm.need{t:zD}(g:GT t)(s:Str):Pm (λ_ t'=>wT t'+100<=wT t) (zaw s t):=
 .ite (λc=>⟨g.tail,by have:=zaq (zJ c);show wT t.tail+100<=_;omega⟩) λ_=>trivial
theorem Pm.end{t:zD}(g:GT t):Pm (λ_ t'=>wT t'<=wT t) (zde t):=
 .ite (λc=>⟨g.tail,by have:=zaq (zJ c);show wT t.tail<=_;omega⟩) λ_=> .ite (λ_=>⟨g,yJ _⟩) λ_=>trivial
/-! ### what is made may be -/
theorem zJn{n:Int}(h:0<=n/\n<=9007199254740991):zF ⟨1,[],n,[],[],[]⟩ 101=true:=by
 unfold zF;rw[zI2 rfl];simp[zaj,zM,zal,zaT,zS,h];rfl
theorem zI5{s:Str}(h:zaT s=true):zF ⟨2,[],0,s,[],[]⟩ 101=true:=by
 unfold zF;rw[zJc rfl];simp[zaj,zM,zal,zS,h];rfl
theorem zIs{s:Str}(h:zbL s=true):zF (ndN 3 s []) 101=true:=by
 unfold zF;rw[zIR rfl];simp[zaj,zM,zal,zaT,zS,ndN,h];rfl
theorem zIk:zF (nd 4 []) 101=true:=by decide+kernel
theorem zIm:zF (nd 5 []) 101=true:=by decide+kernel
theorem zF5:zF (nd 6 []) 101=true:=by decide+kernel
theorem zH8:zF ⟨6,[],1,[],[],[]⟩ 101=true:=by decide+kernel
theorem zFx{l:List Node}(h: ∀y∈l,zF y 101=true):zF (nd 7 l) 101=true:=by
 unfold zF;rw[zJh rfl];simp[zaj,zM,zal,zaT,zS,nd];exact⟨rfl,h⟩
theorem zCV{l:List Node}(h: ∀y∈l,zF y 112=true):zF (nd 8 l) 101=true:=by
 unfold zF;rw[zJi rfl];simp[zaj,zM,zal,zaT,zS,nd];exact⟨rfl,h⟩
theorem zBN{k:Str}{x:Node}(hk:zaT k=true)(h:zF x 101=true):zF ⟨9,[],0,k,[],[x]⟩ 112=true:=by
 unfold zF;rw[zIX rfl];simp[zaj,zM,zal,zS,hk,h];rfl
theorem zH9{m:Str}{ns:List Str}{l:List Node}(hm:m=[]\/zbL m=true)(hn: ∀s∈ns,zbL s=true)(h: ∀y∈l,zF y 120=true):zF ⟨10,m,0,[],ns,l⟩ 101=true:=by
 unfold zF;rw[zHM rfl];simp[zaj,zM,zal,zaT,zS];exact⟨rfl,⟨hm,hn⟩,h⟩
theorem zIF{m:Str}{ns:List Str}{l:List Node}(hm:zbL m=true)(hn: ∀s∈ns,zbL s=true)(h: ∀y∈l,zF y 120=true):zF ⟨39,m,0,[],ns,l⟩ 120=true:=by
 unfold zF;rw[zHH rfl];simp[zaj,zM,zal,zaT,zS];exact⟨rfl,⟨hm,hn⟩,h⟩
theorem zC9{s:Str}{x:Node}(hs:zj5 s=true)(h:zF x 101=true):zF (ndN 11 s [x]) 101=true:=by
 unfold zF;rw[zIN rfl];simp[zaj,zM,zal,zaT,zS,ndN,hs,h];rfl
theorem zHf{x y:Node}(hx:zF x 101=true)(hy:zF y 101=true):zF (nd 12 [x,y]) 101=true:=by
 unfold zF;rw[zHC rfl];simp[zaj,zM,zal,zaT,zS,nd,hx,hy];rfl
theorem zHT{x:Node}{l:List Node}(hx:zF x 101=true)(h: ∀y∈l,zF y 101=true):zF (nd 13 (x::l)) 101=true:=by
 unfold zF;rw[zH1 rfl];simp[zaj,zM,zal,zaT,zS,nd,hx];exact⟨rfl,h⟩
theorem zEK{x:Node}{l:List Node}(hx:zF x 101=true)(h: ∀y∈l,zF y 101=true):zF (nd 14 (x::l)) 101=true:=by
 unfold zF;rw[zIH rfl];simp[zaj,zM,zal,zaT,zS,nd,hx];exact⟨rfl,h⟩
theorem zFd{s:Str}{x:Node}(hs:zD0.contains s=true)(h:zF x 101=true):zF (ndN 15 s [x]) 101=true:=by
 have hs:zD0.contains s=true:=hs;unfold zF;rw[zHS rfl];simp only[zaj,zM,zal,zaT,zS,ndN,h];rw[show(zD0.contains s)=true from hs];rfl
theorem zCb{x:Node}(h:zF x 101=true)(ht:zgK x.Kind=true):zF x 116=true:=by
 unfold zF;rw[zg8 h,Bool.and_true];exact ht
theorem zyn{s:Str}{n:Int}{x:Node}(hs:ziB.contains s=true)(hn:n=0\/n=1)(h:zF x 101=true)(ht:zgK x.Kind=true):zF ⟨16,s,n,[],[],[x]⟩ 101=true:=by
 have hs:ziB.contains s=true:=hs;unfold zF;rw[zIC rfl];simp only[zaj,zM,zal,zaT,zS,zCb h ht];rw[show(ziB.contains s)=true from hs];rcases hn with rfl|rfl<;>rfl
theorem zCU{no:Bool}{t:zD}{x y:Node}(hb:(zcO no t).1≠0)(hx:zF x 101=true)(hy:zF y 101=true):zF (ndN (zcO no t).2 (tText t) [x,y]) 101=true:=by
 cases t with
 |nil=>exact absurd rfl hb
 |cons a r=>
  have hb':(if opK a=true then lvS no a.text else(0,0)).1≠0:=hb;show zF (ndN (if opK a=true then lvS no a.text else(0,0)).2 a.text [x,y]) 101=true
  have b17: ∀s:Str,zrd.contains s=true->zF (ndN 17 s [x,y]) 101=true:=λs hs=>by
   unfold zF;rw[zHV rfl];simp only[zaj,zM,zal,zaT,zS,ndN,hx,hy];rw[show(zrd.contains s)=true from hs];rfl
  have b18: ∀s:Str,zu9.contains s=true->zF (ndN 18 s [x,y]) 101=true:=λs hs=>by
   unfold zF;rw[zIy rfl];simp only[zaj,zM,zal,zaT,zS,ndN,hx,hy];rw[show(zu9.contains s)=true from hs];rfl
  have sub: ∀(l:List Str),(∀w∈l,zrd.contains w=true)->∀s:Str,l.contains s=true->zrd.contains s=true:=λl hl s hs=>hl s (by simpa using hs)
  cases ho:opK a with
  |false=>rw[ho]at hb';exact absurd rfl hb'
  |true=>
   rw[ho]at hb';simp only[yB]at hb'⊢;unfold lvS at hb'⊢;split
   ·rename_i h;rw[eq_of_beq h];exact b18 _ (by decide)
   ·split
    ·rename_i h;rw[eq_of_beq h];exact b18 _ (by decide)
    ·split
     ·rename_i h;exact b17 _ (sub eqL (by decide) _ h)
     ·split
      ·rename_i h;rw[yQ]at h;rcases h with h|h
       ·exact b17 _ (sub ltL (by decide) _ h)
       ·rw[qz4]at h;rw[eq_of_beq h.2];exact b17 _ (by decide)
      ·split
       ·rename_i h;exact b17 _ (sub zuH (by decide) _ h)
       ·split
        ·rename_i h;exact b17 _ (sub mulL (by decide) _ h)
        ·rename_i h1 h2 h3 h4 h5 h6;rw[yK h1,yK h2,yK h3,yK h4,yK h5,yK h6]at hb';exact absurd rfl hb'
theorem zId{x y z:Node}(hx:zF x 101=true)(hy:zF y 101=true)(hz:zF z 101=true):zF (nd 19 [x,y,z]) 101=true:=by
 unfold zF;rw[zIh rfl];simp[zaj,zM,zal,zaT,zS,nd,hx,hy,hz];rfl
theorem zDb{s:Str}{x y:Node}(hs:zEk.contains s=true)(hx:zF x 101=true)(ht:zgK x.Kind=true)(hy:zF y 101=true):zF (ndN 20 s [x,y]) 101=true:=by
 have hs:zEk.contains s=true:=hs;unfold zF;rw[zIu rfl];simp only[zaj,zM,zal,zaT,zS,ndN,zCb hx ht,hy];rw[show(zEk.contains s)=true from hs];rfl
theorem zFg{x y:Node}(hx:zF x 101=true)(hy:zF y 101=true):zF (nd 21 [x,y]) 101=true:=by
 unfold zF;rw[zHu rfl];simp[zaj,zM,zal,zaT,zS,nd,hx,hy];rfl
theorem zq0{l:List Str}{t:zD}(h:zcc l t=true):l.contains (tText t)=true:=by
 cases t with
 |nil=>cases h
 |cons a r=>
  have h:(opK a&&l.contains a.text)=true:=h;rw[qz4]at h;exact h.2
theorem bu(k:Int)(l:List Node):zam (nd k l)=zaO l+7:=by simp[nd,zam]
theorem buN(k:Int)(s:Str)(l:List Node):zam (ndN k s l)=s.length+zaO l+7:=by simp[ndN,zam]
theorem bl1(x:Node):zaO [x]=zam x:=by simp[zaO]
theorem bl2(x y:Node):zaO [x,y]=zam x+zam y:=by simp[zaO]
theorem bl3(x y z:Node):zaO [x,y,z]=zam x+(zam y+zam z):=by simp[zaO]
theorem bl4(x y z w:Node):zaO [x,y,z,w]=zam x+(zam y+(zam z+zam w)):=by simp[zaO]
theorem blc(x:Node)(l:List Node):zaO (x::l)=zam x+zaO l:=rfl
theorem buF(k:Int)(m:Str)(ns:List Str)(l:List Node):zam ⟨k,m,0,[],ns,l⟩=m.length+(ns.map λs=>s.length+1).sum+zaO l+7:=by simp[zam]
abbrev PE(M:Nat)(x:Node)(t':zD):Prop:=zF x 101=true/\zam x+50+wT t'<=M
abbrev PO(c:UInt8)(k M:Nat)(x:Node)(t':zD):Prop:=zF x c=true/\zam x+k+wT t'<=M
abbrev PL(c:UInt8)(M:Nat)(l:List Node)(t':zD):Prop:=(∀y∈l,zF y c=true)/\zaO l+wT t'<=M
structure zCO (g:PG):Prop where
 expr: ∀a t,GT t->Pm (PE (wT t)) (g.expr a t)
 comma: ∀a x t M,GT t->zF x 101=true->zam x+50+wT t<=M->Pm (PE M) (g.comma a x t)
 assign: ∀a t,GT t->Pm (PE (wT t)) (g.assign a t)
 binary: ∀a b t,GT t->Pm (PE (wT t)) (g.binary a b t)
 bins: ∀a b x t M,GT t->zF x 101=true->zam x+50+wT t<=M->Pm (PE M) (g.bins a b x t)
 unary: ∀t,GT t->Pm (PE (wT t)) (g.unary t)
 mems: ∀a x t M,GT t->zF x 101=true->zam x+50+wT t<=M->Pm (PE M) (g.mems a x t)
 made: ∀t,GT t->Pm (PE (wT t)) (g.made t)
 prim: ∀t,GT t->Pm (PE (wT t)) (g.prim t)
 exprs: ∀s b t,GT t->Pm (PL 101 (wT t)) (g.exprs s b t)
 props: ∀t,GT t->Pm (PL 112 (wT t)) (g.props t)
 func: ∀t,GT t->Pm (PE (wT t)) (g.func 10 t)/\Pm (PO 120 30 (wT t)) (g.func 39 t)
 vars: ∀a t,GT t->Pm (λl t'=>l≠[]/\(∀y∈l,zF y 100=true)/\zaO l+40+wT t'<=wT t) (g.vars a t)
 block: ∀t,GT t->Pm (PO 98 50 (wT t)) (g.block t)
 head: ∀t,GT t->Pm (PO 101 100 (wT t)) (g.head t)
 till: ∀s t,GT t->Pm (PO 102 0 (wT t)) (g.till s t)
 loop: ∀t,GT t->Pm (PO 115 0 (wT t)) (g.loop t)
 cases: ∀o t,GT t->Pm (λl t'=>ziJ l (if o=true then 0 else 1)=true/\zaO l+wT t'<=wT t) (g.cases o t)
 body: ∀t,GT t->Pm (PL 115 (wT t)) (g.body t)
 stmt: ∀t,GT t->Pm (PO 115 30 (wT t)) (g.stmt t)
 stmts: ∀f t,GT t->Pm (PL (if f=true then 120 else 115) (wT t)) (g.stmts f t)
section
variable {g:PG} (G:zCO g)
include G
theorem zGI(a t)(h:GT t):Pm (PE (wT t)) (zi0 g a t):= .bd (G.assign _ _ h) λq hq p=>G.comma _ _ _ _ hq p.1 p.2
theorem zDd(a x t M)(h:GT t)(hx:zF x 101=true)(hM:zam x+50+wT t<=M):Pm (PE M) (zj9 g a x t):=
 .ite (λc=>by
  have hw:=zaq (zJ c);exact .bd (G.assign _ _ h.tail) λq hq p=>G.comma _ _ _ _ hq (zFg hx p.1) (by rw[bu,bl2];have:=p.2;omega)) λ_=>⟨h,hx,hM⟩
theorem zCB(a t)(h:GT t):Pm (PE (wT t)) (zfB g a t):=
 .bd (G.binary _ _ _ h) λq hq p=> .ite (λc=>by
  have hw:=zaq (zJ c)
  exact .bd (G.assign _ _ hq.tail) λy hy py=> .bn (.need hy _) λt1 h1 p1=> .bd (G.assign _ _ h1) λz hz pz=>
   ⟨hz,zId p.1 py.1 pz.1,by rw[bu,bl3];have:=p.2;have:=py.2;have:=pz.2;dsimp only;omega⟩) λ_=>
  .ite (λc=> .ite (λht=>by
   have hw:=zaq (zbE c);exact .bd (G.assign _ _ hq.tail) λy hy py=>⟨hy,zDb (zq0 c) p.1 ht py.1,by rw[buN,bl2];have:=p.2;have:=py.2;dsimp only;omega⟩) λ_=>trivial) λ_=>⟨hq,p⟩
theorem zCG(a b t)(h:GT t):Pm (PE (wT t)) (zfA g a b t):= .bd (G.unary _ h) λq hq p=>G.bins _ _ _ _ _ hq p.1 p.2
theorem zFa(a b x t M)(h:GT t)(hx:zF x 101=true)(hM:zam x+50+wT t<=M):Pm (PE M) (zld g a b x t):=
 .ite (λ_=>⟨h,hx,hM⟩) λc=>by
  have h0:(zcO a t).1≠0:=by
   intro e;rw[e]at c;simp at c
  have hw:=zaq (zob h0);exact .bd (G.binary _ _ _ h.tail) λq hq p=>G.bins _ _ _ _ _ hq (zCU h0 hx p.1) (by rw[buN,bl2];have:=p.2;omega)
theorem zEj(t)(h:GT t):Pm (PE (wT t)) (zer g t):=
 .ite (λc=>by
  have hw:=zaq (zbE c);exact .bd (G.unary _ h.tail) λy hy p=>⟨hy,zFd (zq0 c) p.1,by rw[buN,bl1];have:=p.2;dsimp only;omega⟩) λ_=>
 .ite (λc=>by
  have hw:=zaq (zbE c)
  exact .bd (G.unary _ h.tail) λy hy p=> .ite (λht=>⟨hy,zyn (zq0 c) (.inr rfl) p.1 ht,by
   have:=p.2;show zam ⟨16,tText t,1,[],[],[y.1]⟩+50+wT y.2<=wT t;simp only[zam,zaO,List.map_nil,List.sum_nil,qz6];omega⟩) λ_=>trivial) λ_=>
 .bd (G.made _ h) λq hq p=> .bd (G.mems _ _ _ _ hq p.1 p.2) λr hr pr=> .ite (λ_=>⟨hr,pr⟩) λc=> .ite (λht=>by
  have h1:zcc ziB r.2=true:=by
   cases e:zcc ziB r.2 with
   |true=>rfl
   |false=>rw[e]at c;simp at c
  have hw:=zaq (zbE h1);exact⟨hr.tail,zyn (zq0 h1) (.inl rfl) pr.1 ht,by rw[buN,bl1];have:=pr.2;show _+wT r.2.tail<=_;omega⟩) λ_=>trivial
theorem zFU(c x t M)(h:GT t)(hx:zF x 101=true)(hM:zam x+50+wT t<=M):Pm (PE M) (zk5 g c x t):=
 .ite (λc1=>by
  have hw:=zaq (zJ c1)
  exact .ite (λc2=>by
   have hw2:=zaq (t:=t.tail) (by intro e;rw[e]at c2;simp at c2)
   exact G.mems _ _ _ _ h.tail.tail (zC9 (h.tail.ident c2) hx) (by rw[buN,bl1];omega)) λ_=>trivial) λ_=>
 .ite (λc1=>by
  have hw:=zaq (zJ c1);exact .bd (G.expr _ _ h.tail) λk hk p=> .bn (.need hk _) λt1 h1 p1=>G.mems _ _ _ _ h1 (zHf hx p.1) (by rw[bu,bl2];have:=p.2;omega)) λ_=>
 .ite (λc1=>by
  rw[qz4]at c1;have hw:=zaq (zJ c1.2);exact .bd (G.exprs _ _ _ h.tail) λl hl p=>G.mems _ _ _ _ hl (zHT hx p.1) (by rw[bu,blc];have:=p.2;omega)) λ_=>⟨h,hx,hM⟩
theorem zGi(t)(h:GT t):Pm (PE (wT t)) (zf5 g t):=
 .ite (λc=>by
  have hw:=zaq (zJ c)
  exact .bd (G.made _ h.tail) λq hq p=> .bd (G.mems _ _ _ _ hq p.1 p.2) λr hr pr=> .ite (λc2=>by
   have hw2:=zaq (zJ c2);exact .bd (G.exprs _ _ _ hr.tail) λl hl pl=>⟨hl,zEK pr.1 pl.1,by rw[bu,blc];have:=pr.2;have:=pl.2;dsimp only;omega⟩) λ_=>
   ⟨hr,zEK (l:=[]) pr.1 (λy hy=>by cases hy),by rw[bu,bl1];have:=pr.2;dsimp only;omega⟩) λ_=>G.prim _ h
theorem zF4(t)(h:GT t):Pm (PE (wT t)) (zd1 g t):=by
 have ti: ∀{s:Str},tIs s t=true->∀x:Node,zF x 101=true->zam x<=50->Pm (PE (wT t)) (gt (x,t.tail)):=λc x hx hb=>by
  have:=zaq (zJ c);exact⟨h.tail,hx,by show zam x+50+wT t.tail<=_;omega⟩
 refine .ite (λc=>?_) λ_=> .ite (λc=>?_) λ_=> .ite (λc=>?_) λ_=> .ite (λc=>ti c _ zIk (by decide+kernel)) λ_=> .ite (λc=>ti c _ zIm (by decide+kernel)) λ_=> .ite (λc=>ti c _ zF5 (by decide+kernel)) λ_=>
  .ite (λc=>ti c _ zH8 (by decide+kernel)) λ_=> .ite (λc=>?_) λ_=> .ite (λc=>?_) λ_=> .ite (λc=>?_) λ_=> .ite (λc=>?_) λ_=>trivial
 ·have hw:=zaq (zaU c (by decide));exact⟨h.tail,zIs (h.name c),by rw[buN];show(tText t).length+zaO []+7+50+wT t.tail<=_;simp only[zaO];omega⟩
 ·have hw:=zaq (zaU c (by decide));cases t with
  |nil=>cases c
  |cons a r=>
   exact⟨h.tail,zJn ((h a qz7).num (eq_of_beq c)),by
    show zam ⟨1,[],a.num,[],[],[]⟩+50+wT r<=100+3*a.text.length+wT r;simp only[zam,zaO,List.map_nil,List.sum_nil,qz6];omega⟩
 ·have hw:=zaq (zaU c (by decide));cases t with
  |nil=>cases c
  |cons a r=>
   exact⟨h.tail,zI5 ((h a qz7).str (eq_of_beq c)),by
    show zam ⟨2,[],0,a.text,[],[]⟩+50+wT r<=100+3*a.text.length+wT r;simp only[zam,zaO,List.map_nil,List.sum_nil,qz6];omega⟩
 all_goals have hw:=zaq (zJ c)
 ·exact(G.func _ h.tail).1.up λv t' p=>⟨p.1,by have:=p.2;omega⟩
 ·exact .bd (G.expr _ _ h.tail) λk hk p=> .bn (.need hk _) λt1 h1 p1=>⟨h1,p.1,by have:=p.2;show zam k.1+50+wT t1<=_;omega⟩
 ·exact .bd (G.exprs _ _ _ h.tail) λl hl p=>⟨hl,zFx p.1,by rw[bu];have:=p.2;dsimp only;omega⟩
 ·exact .bd (G.props _ h.tail) λl hl p=>⟨hl,zCV p.1,by rw[bu];have:=p.2;dsimp only;omega⟩
theorem zDq(s b t)(h:GT t):Pm (PL 101 (wT t)) (zfI g s b t):=
 .ite (λc=>by have hw:=zaq (zJ c);exact⟨h.tail,λy hy=>by(cases hy),by show 0+wT t.tail<=_;omega⟩) λ_=>
 .bd (G.assign _ _ h) λx hx p=> .ite (λc=>by
  have hw:=zaq (zJ c);exact⟨hx.tail,λy hy=>by(rw[List.mem_singleton.1 hy];exact p.1),by rw[bl1];have:=p.2;show zam x.1+wT x.2.tail<=_;omega⟩) λ_=>
  .bn (.need hx _) λt1 h1 p1=> .ite (λ_=>trivial) λ_=> .bd (G.exprs _ _ _ h1) λl hl pl=>
   ⟨hl,λy hy=>by
    rcases yP.1 hy with rfl|hy
    ·exact p.1
    ·exact pl.1 y hy,by rw[blc];have:=p.2;have:=pl.2;dsimp only;omega⟩
omit G in
theorem zw7(s:Str):zaT (wide s)=true:=by
 unfold zaT;rw[zqJ];simp
omit G in
theorem zHY{t}(h:GT t):Pm (λk t'=>zaT k=true/\k.length+50+wT t'<=wT t) (zmO t):=by
 cases t with
 |nil=>trivial
 |cons a r=>
  have hs:wT (a::r)=100+3*a.text.length+wT r:=rfl;have ha:=h a qz7;refine .ite (λc=>⟨h.tail,ha.str (eq_of_beq c),by show a.text.length+50+wT r<=_;omega⟩) λ_=> .ite (λc=>⟨h.tail,zw7 _,?_⟩) λ_=> .ite (λc=>⟨h.tail,zw7 _,?_⟩) λ_=>trivial
  ·have hn:=ha.num (eq_of_beq c);have:=zvE a.num hn.1 hn.2;show(wide (Lib.itoa a.num)).length+50+wT r<=_;rw[zqJ];omega
  ·show(wide a.text).length+50+wT r<=_;rw[zqJ];omega
theorem zC3(t)(h:GT t):Pm (PL 112 (wT t)) (zgh g t):=
 .ite (λc=>by have hw:=zaq (zJ c);exact⟨h.tail,λy hy=>by(cases hy),by show 0+wT t.tail<=_;omega⟩) λ_=>
 .bd (zHY h) λk hk pk=> .bn (.need hk _) λt1 h1 p1=> .bd (G.assign _ _ h1) λx hx p=>by
  have hb:zam ⟨9,[],0,k.1,[],[x.1]⟩=k.1.length+zam x.1+7:=by simp[zam,zaO]
  have hk1:=pk.2;have hp:=p.2;refine .ite (λc=>?_) λ_=> .bn (.need hx _) λt2 h2 p2=> .bd (G.props _ h2) λl hl pl=>⟨hl,λy hy=>?_,?_⟩
  ·have hw:=zaq (zJ c);exact⟨hx.tail,λy hy=>by(rw[List.mem_singleton.1 hy];exact zBN pk.1 p.1),by rw[bl1,hb];show _+wT x.2.tail<=_;omega⟩
  ·rcases yP.1 hy with rfl|hy
   ·exact zBN pk.1 p.1
   ·exact pl.1 y hy
  ·rw[blc,hb];have:=pl.2;dsimp only;omega
omit G in
theorem zxZ: ∀t,GT t->Pm (λns t'=>(∀s∈ns,zbL s=true)/\(ns.map λs=>s.length+1).sum+wT t'<=wT t) (zfO t)
 | [],_=>trivial
 | [a],_=>trivial
 |a::b::r,h=>by
  rw[zfO];have hs:wT (a::b::r)=100+3*a.text.length+(100+3*b.text.length+wT r):=rfl;refine .ite (λc=>?_) λ_=>trivial
  have hn:zbL a.text=true:=h.name (t:=a::b::r) c;refine .ite (λc2=>⟨h.tail.tail,λs hs=>by(rw[List.mem_singleton.1 hs];exact hn),?_⟩) λ_=> .ite (λc2=> .ite (λ_=>trivial) λ_=> .bd (zxZ r h.tail.tail) λl hl pl=>⟨hl,λs hs=>?_,?_⟩) λ_=>trivial
  ·show(([a.text]:List Str).map λs=>s.length+1).sum+wT r<=_;simp only[List.map_cons,List.map_nil,List.sum_cons,List.sum_nil];omega
  ·rcases yP.1 hs with rfl|hs
   ·exact hn
   ·exact pl.1 s hs
  ·have:=pl.2;simp only[List.map_cons,List.sum_cons];omega
omit G in
theorem zCf{t}(h:GT t):Pm (λns t'=>(∀s∈ns,zbL s=true)/\(ns.map λs=>s.length+1).sum+wT t'<=wT t) (zdR t):=
 .ite (λc=>by have hw:=zaq (zJ c);exact⟨h.tail,λy hy=>by(cases hy),by show 0+wT t.tail<=_;omega⟩) λ_=>zxZ t h
theorem zFB(t)(h:GT t):Pm (PE (wT t)) (ziX g 10 t)/\Pm (PO 120 30 (wT t)) (ziX g 39 t):=by
 have rest: ∀(k:Int) (Q:Node->zD->Prop) (m:Str×zD),GT m.2->m.1.length+wT m.2<=wT t->
   (∀(ns:List Str) (l:List Node) t3,(∀s∈ns,zbL s=true)->(∀y∈l,zF y 120=true)->zam ⟨k,m.1,0,[],ns,l⟩+50+wT t3<=wT t->Q ⟨k,m.1,0,[],ns,l⟩ t3)->
   Pm Q ((zaw [40] m.2).bn λt=>(zdR t).bd λns=>(zaw [123] ns.2).bn λt=>(g.stmts true t).bd λl=>(zaw [125] l.2).bn λt=>gt (⟨k,m.1,0,[],ns.1,l.1⟩,t)):=λk Q m hm hw hQ=>
  .bn (.need hm _) λt1 h1 p1=> .bd (zCf h1) λns hns pns=> .bn (.need hns _) λt2 h2 p2=> .bd (G.stmts _ _ h2) λl hl pl=> .bn (.need hl _) λt3 h3 p3=>
   ⟨h3,hQ ns.1 l.1 t3 pns.1 pl.1 (by rw[buF];have:=pns.2;have:=pl.2;omega)⟩
 constructor
 ·refine .bd (P:=λm t'=>(m=[]\/zbL m=true)/\m.length+wT t'<=wT t) (.ite (λc=>?_) λ_=> .ite (λ_=>trivial) λ_=>⟨h,.inl rfl,by simp⟩) λm hm pm=>rest 10 _ m hm pm.2 λns l t3 q1 q2 q3=>⟨zH9 pm.1 q1 q2,q3⟩
  have hw:=zaq (zaU c (by decide));exact⟨h.tail,.inr (h.name c),by show(tText t).length+wT t.tail<=_;omega⟩
 ·refine .bd (P:=λm t'=>zbL m=true/\m.length+wT t'<=wT t) (.ite (λc=>?_) λ_=> .ite (λ_=>trivial) λc2=>absurd rfl c2) λm hm pm=>rest 39 _ m hm pm.2 λns l t3 q1 q2 q3=>⟨zIF pm.1 q1 q2,by omega⟩
  have hw:=zaq (zaU c (by decide));exact⟨h.tail,h.name c,by show(tText t).length+wT t.tail<=_;omega⟩
end
theorem zpi:zF (nd 42 []) 102=true/\zF (nd 42 []) 118=true/\zF (nd 42 []) 99=true:=by decide+kernel
theorem zIx{x:Node}(h:zF x 101=true):zF x 102=true:=by
 have h1:=(ztG h).1;unfold zF;rw[zg8 h,Bool.and_true];show(zms x.Kind||x.Kind==42)=true;rw[h1];rfl
theorem zJA{x:Node}(h:zF x 101=true):zF x 118=true:=by
 have h1:=(ztG h).1;unfold zF;rw[zg8 h,Bool.and_true];show((zms x.Kind||x.Kind==42)||x.Kind==22)=true;rw[h1];rfl
theorem zEP{l:List Node}(hl:l≠[])(h: ∀y∈l,zF y 100=true):zF (nd 22 l) 115=true:=by
 cases l with
 |nil=>exact absurd rfl hl
 |cons a r=>
  have ha:=h a qz7;unfold zF;rw[zHw rfl];simp[zaj,zM,zal,zaT,zS,nd,ha];exact⟨rfl,λy hy=>h y (qz8 _ hy)⟩
theorem zHL{s:Str}{d:List Node}(hs:zbL s=true)(hd:d=[]\/∃y,d=[y]/\zF y 101=true):zF (ndN 23 s d) 100=true:=by
 rcases hd with rfl| ⟨y,rfl,hy⟩
 ·unfold zF;rw[zCc rfl];simp[zaj,zM,zal,zaT,zS,ndN,lv1,hs];rfl
 ·unfold zF;rw[zCc rfl];simp[zaj,zM,zal,zaT,zS,ndN,lv1,hs,hy];rfl
theorem zIa{x:Node}(h:zF x 101=true):zF (nd 24 [x]) 115=true:=by
 unfold zF;rw[zIK rfl];simp[zaj,zM,zal,zaT,zS,nd,h];rfl
theorem zAe{l:List Node}(h: ∀y∈l,zF y 115=true):zF (nd 25 l) 98=true:=by
 unfold zF;rw[zID rfl];simp[zaj,zM,zal,zaT,zS,nd];exact⟨rfl,h⟩
theorem zGt{x:Node}(h:zF x 98=true):zF x 115=true:=by
 have hk:x.Kind=25:=eq_of_beq (show(x.Kind==25)=true from zu3 h);unfold zF;rw[zg8 h,Bool.and_true];show stK x.Kind false=true;rw[hk];rfl
theorem zAr{x:Node}(h:zF x 98=true):zF x 99=true/\(x.Kind==42)=false:=by
 have hk:x.Kind=25:=eq_of_beq (show(x.Kind==25)=true from zu3 h);refine⟨?_,by rw[hk];rfl⟩
 unfold zF;rw[zg8 h,Bool.and_true];show(x.Kind==25||x.Kind==42)=true;rw[hk];rfl
theorem zfF{x:Node}(h:zF x 115=true):zF (zfm x) 98=true/\zam (zfm x)<=zam x+7:=by
 unfold zfm;split
 ·rename_i hk;refine⟨?_,by omega⟩;unfold zF;rw[zg8 h,Bool.and_true];exact hk
 ·exact⟨zAe λy hy=>by rw[List.mem_singleton.1 hy];exact h,by rw[bu,bl1];omega⟩
theorem zJx{x:Node}(h:zF x 115=true):zF x 120=true:=by
 have h1:stK x.Kind false=true:=zu3 h;unfold zF;rw[zg8 h,Bool.and_true];show stK x.Kind true=true;unfold stK at h1⊢;simp only[Bool.or_false,Bool.or_true,Bool.and_true]at h1⊢;rw[qz4]at h1;exact h1.1
theorem zJm{x b:Node}(hx:zF x 101=true)(hb:zF b 98=true):zF (nd 26 [x,b]) 115=true:=by
 unfold zF;rw[zBT rfl];simp[zaj,zM,zal,zaT,zS,nd,lv3,hx,hb];rfl
theorem zJj{x b c:Node}(hx:zF x 101=true)(hb:zF b 98=true)(hc:zF c 98=true):zF (nd 26 [x,b,c]) 115=true:=by
 unfold zF;rw[zBT rfl];simp[zaj,zM,zal,zaT,zS,nd,lv3,hx,hb,hc];rfl
theorem zFN{x b:Node}(hx:zF x 101=true)(hb:zF b 98=true):zF (nd 27 [x,b]) 115=true:=by
 unfold zF;rw[zIb rfl];simp[zaj,zM,zal,zaT,zS,nd,hx,hb];rfl
theorem zJE{x b:Node}(hx:zF x 101=true)(hb:zF b 98=true):zF (nd 28 [b,x]) 115=true:=by
 unfold zF;rw[zHJ rfl];simp[zaj,zM,zal,zaT,zS,nd,hx,hb];rfl
theorem zJq{v x y b:Node}(hv:zF v 118=true)(hx:zF x 102=true)(hy:zF y 102=true)(hb:zF b 98=true):zF (nd 29 [v,x,y,b]) 115=true:=by
 unfold zF;rw[zHD rfl];simp[zaj,zM,zal,zaT,zS,nd,hv,hx,hy,hb];rfl
theorem zGN{v x b:Node}(hv:zF v 119=true)(hx:zF x 101=true)(hb:zF b 98=true):zF (nd 30 [v,x,b]) 115=true:=by
 unfold zF;rw[zIj rfl];simp[zaj,zM,zal,zaT,zS,nd,hv,hx,hb];rfl
theorem zB7{k:Int}{s:Str}(hk:k=31\/k=32)(hs:s=[]\/zbL s=true):zF (ndN k s []) 115=true:=by
 rcases hk with rfl|rfl
 ·unfold zF;rw[zHm rfl];simp[zaj,zM,zal,zaT,zS,ndN,hs];rfl
 ·unfold zF;rw[zIc rfl];simp[zaj,zM,zal,zaT,zS,ndN,hs];rfl
theorem zBX:zF (nd 33 []) 115=true:=by decide+kernel
theorem zEf{x:Node}(h:zF x 101=true):zF (nd 33 [x]) 115=true:=by
 unfold zF;rw[zHy rfl];simp[zaj,zM,zal,zaT,zS,nd,lv1,h];rfl
theorem zGY{x:Node}(h:zF x 101=true):zF (nd 34 [x]) 115=true:=by
 unfold zF;rw[zHQ rfl];simp[zaj,zM,zal,zaT,zS,nd,h];rfl
theorem zJl{s:Str}{b c f:Node}(hb:zF b 98=true)(hc:zF c 99=true)(hf:zF f 99=true)(hn:(c.Kind==25)=true/\zbL s=true\/(c.Kind==25)=false/\s=[])(he:(c.Kind==42&&f.Kind==42)=false):zF (ndN 35 s [b,c,f]) 115=true:=by
 unfold zF;rw[zHK rfl];simp only[zaj,zM,zal,zaT,zzk,ndN,hb,hc,hf,he];rcases hn with⟨h1,h2⟩| ⟨h1,rfl⟩
 ·simp[h1,h2];rfl
 ·simp[h1];rfl
theorem zDX{x:Node}{l:List Node}(hx:zF x 101=true)(hl:ziJ l 0=true):zF (nd 36 (x::l)) 115=true:=by
 unfold zF;rw[zHp rfl];simp[zaj,zM,zal,zaT,ztU,nd,hx,hl];rfl
theorem zBP{x:Node}{l:List Node}(hx:zF x 102=true)(h: ∀y∈l,zF y 115=true):zF (nd 37 (x::l)) 107=true:=by
 unfold zF;rw[zIB rfl];simp[zaj,zM,zal,zaT,zS,nd,hx];exact⟨rfl,h⟩
theorem zFl{s:Str}{x:Node}(hs:zbL s=true)(h:zF x 115=true):zF (ndN 38 s [x]) 115=true:=by
 unfold zF;rw[zHR rfl];simp[zaj,zM,zal,zaT,zS,ndN,hs,h];rfl
theorem zFE:zF (nd 40 []) 115=true:=by decide+kernel
theorem zHF{l:List Node}(h: ∀y∈l,zF y 120=true):zbn (nd 41 l)=true:=by
 rw[zHv rfl];simp[zaj,zM,zal,zaT,zS,nd];exact h
section
variable {g:PG} (G:zCO g)
include G
theorem zG3(a t)(h:GT t):Pm (λl t'=>l≠[]/\(∀y∈l,zF y 100=true)/\zaO l+40+wT t'<=wT t) (ziZ g a t):=
 .ite (λc=>by
  have hn:=h.name c;have hw:=zaq (zaU c (by decide));refine .bd (P:=λd t'=>(d=[]\/∃y,d=[y]/\zF y 101=true)/\zaO d+wT t'<=wT t.tail) (.ite (λc2=>?_) λ_=>⟨h.tail,.inl rfl,by simp[zaO]⟩) λd hd pd=>?_
  ·have hw2:=zaq (zJ c2);exact .bd (G.assign _ _ h.tail.tail) λy hy p=>⟨hy,.inr ⟨y.1,rfl,p.1⟩,by rw[bl1];have:=p.2;dsimp only;omega⟩
  ·have hdd:=zHL hn pd.1;have hbd:=pd.2;refine .ite (λc3=>?_) λ_=>⟨hd,by simp,λy hy=>by(rw[List.mem_singleton.1 hy];exact hdd),by rw[bl1,buN];dsimp only;omega⟩
   have hw3:=zaq (zJ c3);refine .bd (G.vars _ _ hd.tail) λl hl pl=>?_
   refine⟨hl,List.cons_ne_nil _ _,λy hy=>?_,?_⟩
   ·rcases yP.1 hy with e|hy
    ·rw[e];exact hdd
    ·exact pl.2.1 y hy
   ·rw[blc,buN];have:=pl.2.2;dsimp only;omega) λ_=>trivial
theorem zDy(t)(h:GT t):Pm (PO 98 50 (wT t)) (zgX g t):=
 .bn (.need h _) λt1 h1 p1=> .bd (G.stmts false _ h1) λl hl pl=> .bn (.need hl _) λt2 h2 p2=>⟨h2,zAe pl.1,by rw[bu];have:=pl.2;dsimp only;omega⟩
theorem zG6(t)(h:GT t):Pm (PO 101 100 (wT t)) (zle g t):=
 .bn (.need h _) λt1 h1 p1=> .bd (G.expr _ _ h1) λx hx p=> .bn (.need hx _) λt2 h2 p2=>⟨h2,p.1,by have:=p.2;dsimp only;omega⟩
theorem zFn(s t)(h:GT t):Pm (PO 102 0 (wT t)) (zgY g s t):=
 .ite (λc=>by
  have hw:=zaq (zJ c);exact⟨h.tail,zpi.1,by rw[bu];simp only[zaO];omega⟩) λ_=> .bd (G.expr _ _ h) λx hx p=> .bn (.need hx _) λt2 h2 p2=>⟨h2,zIx p.1,by have:=p.2;dsimp only;omega⟩
theorem zDL(t)(h:GT t):Pm (λx t'=>zF x 118=true/\(ztT x=true->zF x 119=true)/\zam x+wT t'<=wT t+7) (zkb g t):=by
 refine .ite (λc=>?_) λ_=> .ite (λ_=>⟨h,zpi.2.1,(λe=>by cases e),(by rw[bu];simp only[zaO];omega)⟩) λ_=>(G.expr _ _ h).up λx t' p=>⟨zJA p.1,λe=>?_,by have:=p.2;omega⟩
 ·have hw:=zaq (zJ c);refine .bd (G.vars _ _ h.tail) λl hl p=>?_
  have hv:=zEP p.1 p.2.1;refine⟨hl,?_,λe=>?_,by rw[bu];have:=p.2.2;dsimp only;omega⟩
  ·unfold zF;rw[zg8 hv];rfl
  ·unfold zF;rw[zg8 hv,Bool.and_true];have e:(match(nd 22 l.1).L with| [d]=>d.L.isEmpty|_=>false)=true:=e;show(zgK 22||((22:Int)==22&&(match(nd 22 l.1).L with| [y]=>y.L.isEmpty|_=>false)))=true;rw[e];rfl
 ·have hk:=(ztG p.1).1
  have hne:(x.Kind==22)=false:=by
   cases hq:x.Kind==22 with
   |false=>rfl
   |true=>rw[eq_of_beq hq]at hk;exact absurd hk (by decide)
  unfold ztT at e;rw[hne]at e;have e:zgK x.Kind=true:=e;unfold zF;rw[zg8 p.1,Bool.and_true];show(zgK x.Kind||_)=true;rw[e];rfl
theorem zGC(t)(h:GT t):Pm (PO 115 0 (wT t)) (zlc g t):=
 .bn (.need h _) λt1 h1 p1=> .bd (zDL G _ h1) λq hq pq=> .ite (λc=>by
  rw[qz4]at c;have hw:=zaq (zJ c.2)
  exact .bd (G.expr _ _ hq.tail) λx hx px=> .bn (.need hx _) λt2 h2 p2=> .bd (G.stmt _ h2) λb hb pb=>⟨hb,zGN (pq.2.1 c.1) px.1 (zfF pb.1).1,by
   rw[bu,bl3];have:=(zfF pb.1).2;have:=pq.2.2;have:=px.2;have:=pb.2;dsimp only;omega⟩) λ_=>
  .bn (.need hq _) λt2 h2 p2=> .bd (G.till _ _ h2) λx hx px=> .bd (G.till _ _ hx) λy hy py=> .bd (G.stmt _ hy) λb hb pb=>⟨hb,zJq pq.1 px.1 py.1 (zfF pb.1).1,by
   rw[bu,bl4];have:=(zfF pb.1).2;have:=pq.2.2;have:=px.2;have:=py.2;have:=pb.2;dsimp only;omega⟩
theorem zIL(t)(h:GT t):Pm (PO 115 0 (wT t)) (zqG g t):=by
 refine .bd (G.block _ h) λb hb pb=> .bd (P:=λc t'=>zF c.2 99=true/\((c.2.Kind==25)=true/\zbL c.1=true\/(c.2.Kind==25)=false/\c.1=[])/\c.1.length+zam c.2+wT t'<=wT b.2+7) ?_ λc hc pc=>
  .bd (P:=λf t'=>zF f 99=true/\zam f+wT t'<=wT c.2+7) ?_ λf hf pf=> .ite (λ_=>trivial) λhe=>⟨hf,zJl pb.1 pc.1 pf.1 pc.2.1 (by rw[Bool.and_comm];exact Bool.not_eq_true _▸he),by
   rw[buN,bl3];have:=pb.2;have:=pc.2.2;have:=pf.2;dsimp only;omega⟩
 ·refine .ite (λc=>?_) λ_=>⟨hb,zpi.2.2,.inr ⟨rfl,rfl⟩,by
   show 0+zam (nd 42 [])+wT b.2<=_;rw[bu];simp only[zaO];omega⟩
  have hw:=zaq (zJ c)
  exact .bn (.need hb.tail _) λt1 h1 p1=> .ite (λc2=>by
   have hw2:=zaq (zaU c2 (by decide));exact .bn (.need h1.tail _) λt2 h2 p2=> .bd (G.block _ h2) λq hq pq=>⟨hq,(zAr pq.1).1,.inl ⟨zu3 pq.1,h1.name c2⟩,by have:=pq.2;dsimp only;omega⟩) λ_=>trivial
 ·refine .ite (λc2=>?_) λ_=>⟨hc,zpi.2.2,by rw[bu];simp only[zaO];omega⟩
  have hw:=zaq (zJ c2);exact(G.block _ hc.tail).up λv t' p=>⟨(zAr p.1).1,by have:=p.2;omega⟩
theorem zEg(o t)(h:GT t):Pm (λl t'=>ziJ l (if o=true then 0 else 1)=true/\zaO l+wT t'<=wT t) (zhW g o t):=by
 refine .ite (λc=>?_) λ_=> .ite (λc=>?_) λ_=> .bn (.need h _) λt1 h1 p1=> .bd (G.expr _ _ h1) λx hx px=> .bn (.need hx _) λt2 h2 p2=> .bd (G.body _ h2) λl hl pl=> .bd (G.cases _ _ hl) λr hr pr=>⟨hr,?_,?_⟩
 ·have hw:=zaq (zJ c);refine⟨h.tail,?_,by show 0+wT t.tail<=_;omega⟩
  cases o<;>rfl
 ·rw[qz4]at c;have hw:=zaq (zJ c.2);rw[c.1];refine .bn (.need h.tail _) λt1 h1 p1=> .bd (G.body _ h1) λl hl pl=> .bd (G.cases false _ hl) λr hr pr=>⟨hr,?_,?_⟩
  ·have h2:=pr.1;simp only[qz2,yA]at h2;simp only[yB,ziJ];rw[zBP zpi.1 pl.1,Bool.true_and];exact h2
  ·rw[blc,bu,blc,bu];simp only[zaO];have:=pl.2;have:=pr.2;omega
 ·have hk:=(ztG px.1).1
  have hne:(x.1.Kind==42)=false:=by
   cases hq:x.1.Kind==42 with
   |false=>rfl
   |true=>rw[eq_of_beq hq]at hk;exact absurd hk (by decide)
  have hc:zxL (nd 37 (x.1::l.1))=false:=hne;show ziJ (nd 37 (x.1::l.1)::r.1) _=true;simp only[ziJ,hc,qz2,yA];rw[zBP (zIx px.1) pl.1,Bool.true_and];exact pr.1
 ·rw[blc,bu,blc];have:=px.2;have:=pl.2;have:=pr.2;dsimp only;omega
theorem zGm(t)(h:GT t):Pm (PL 115 (wT t)) (ziY g t):=
 .ite (λ_=>⟨h,λy hy=>by(cases hy),by show 0+wT t<=_;omega⟩) λ_=> .bd (G.stmt _ h) λx hx p=> .bd (G.body _ hx) λl hl pl=>⟨hl,λy hy=>by
  rcases yP.1 hy with rfl|hy
  ·exact p.1
  ·exact pl.1 y hy,by rw[blc];have:=p.2;have:=pl.2;dsimp only;omega⟩
omit G in
theorem zAq(k t)(hk:k=31\/k=32)(h:GT t):Pm (λx t'=>zF x 115=true/\zam x+wT t'<=wT t+7) (zmf k t):=
 .ite (λc=>by
  rw[qz4]at c;have hw:=zaq (zaU c.1 (by decide));exact .bn (.end h.tail) λt1 h1 p1=>⟨h1,zB7 hk (.inr (h.name c.1)),by rw[buN];simp only[zaO];omega⟩) λ_=> .bn (.end h) λt1 h1 p1=>⟨h1,zB7 (s:=[]) hk (.inl rfl),by rw[bu];simp only[zaO];omega⟩
theorem zG2(t)(h:GT t):Pm (PO 115 30 (wT t)) (zff g t):=by
 refine .ite (λc=>(G.block _ h).up λv t' p=>⟨zGt p.1,by have:=p.2;omega⟩) λ_=> .ite (λc=>?_) λ_=> .ite (λc=>?_) λ_=> .ite (λc=>?_) λ_=> .ite (λc=>?_) λ_=> .ite (λc=>?_) λ_=> .ite (λc=>?_) λ_=> .ite (λc=>?_) λ_=>
  .ite (λc=>?_) λ_=> .ite (λc=>?_) λ_=> .ite (λc=>?_) λ_=> .ite (λc=>?_) λ_=> .ite (λc=>?_) λ_=> .ite (λc=>trivial) λ_=> .ite (λc=>?_) λ_=>?_
 rotate_right 2
 ·rw[qz4]at c;have hw:=zaq (zaU c.1 (by decide));have hw2:=zaq (zJ c.2);exact .bd (G.stmt _ h.tail.tail) λx hx p=>⟨hx,zFl (h.name c.1) p.1,by rw[buN,bl1];have:=p.2;dsimp only;omega⟩
 ·exact .bd (G.expr _ _ h) λx hx p=> .bn (.end hx) λt1 h1 p1=>⟨h1,zIa p.1,by rw[bu,bl1];have:=p.2;dsimp only;omega⟩
 all_goals have hw:=zaq (zJ c)
 ·exact⟨h.tail,zFE,by rw[bu];simp only[zaO];omega⟩
 ·exact .bd (G.vars _ _ h.tail) λl hl p=> .bn (.end hl) λt1 h1 p1=>⟨h1,zEP p.1 p.2.1,by rw[bu];have:=p.2.2;dsimp only;omega⟩
 ·exact .bd (G.head _ h.tail) λx hx px=> .bd (G.stmt _ hx) λb hb pb=> .ite (λc2=>by
   have hw2:=zaq (zJ c2)
   exact .bd (G.stmt _ hb.tail) λe he pe=>⟨he,zJj px.1 (zfF pb.1).1 (zfF pe.1).1,by
    rw[bu,bl3];have:=(zfF pb.1).2;have:=(zfF pe.1).2;have:=px.2;have:=pb.2;have:=pe.2;dsimp only;omega⟩) λ_=>
   ⟨hb,zJm px.1 (zfF pb.1).1,by rw[bu,bl2];have:=(zfF pb.1).2;have:=px.2;have:=pb.2;dsimp only;omega⟩
 ·exact .bd (G.head _ h.tail) λx hx px=> .bd (G.stmt _ hx) λb hb pb=>⟨hb,zFN px.1 (zfF pb.1).1,by rw[bu,bl2];have:=(zfF pb.1).2;have:=px.2;have:=pb.2;dsimp only;omega⟩
 ·exact .bd (G.stmt _ h.tail) λb hb pb=> .bn (.need hb _) λt1 h1 p1=> .bd (G.head _ h1) λx hx px=> .bn (.end hx) λt2 h2 p2=>⟨h2,zJE px.1 (zfF pb.1).1,by rw[bu,bl2];have:=(zfF pb.1).2;have:=px.2;have:=pb.2;dsimp only;omega⟩
 ·exact(G.loop _ h.tail).up λv t' p=>⟨p.1,by have:=p.2;omega⟩
 ·exact(zAq 31 _ (.inl rfl) h.tail).up λv t' p=>⟨p.1,by have:=p.2;omega⟩
 ·exact(zAq 32 _ (.inr rfl) h.tail).up λv t' p=>⟨p.1,by have:=p.2;omega⟩
 ·exact .ite (λ_=> .bd (G.expr _ _ h.tail) λx hx p=> .bn (.end hx) λt1 h1 p1=>⟨h1,zEf p.1,by rw[bu,bl1];have:=p.2;dsimp only;omega⟩) λ_=> .bn (.end h.tail) λt1 h1 p1=>⟨h1,zBX,by rw[bu];simp only[zaO];omega⟩
 ·exact .ite (λ_=>trivial) λ_=> .bd (G.expr _ _ h.tail) λx hx p=> .bn (.end hx) λt1 h1 p1=>⟨h1,zGY p.1,by rw[bu,bl1];have:=p.2;dsimp only;omega⟩
 ·exact(zIL G _ h.tail).up λv t' p=>⟨p.1,by have:=p.2;omega⟩
 ·exact .bd (G.head _ h.tail) λx hx px=> .bn (.need hx _) λt1 h1 p1=> .bd (G.cases true _ h1) λl hl pl=>⟨hl,zDX px.1 pl.1,by rw[bu,blc];have:=px.2;have:=pl.2;dsimp only;omega⟩
theorem zDZ(f t)(h:GT t):Pm (PL (if f=true then 120 else 115) (wT t)) (zbs g f t):=by
 refine .ite (λ_=>⟨h,λy hy=>by(cases hy),by show 0+wT t<=_;omega⟩) λ_=> .bd (P:=PO (if f=true then 120 else 115) 30 (wT t)) (.ite (λc=>?_) λ_=>?_) λx hx p=> .bd (G.stmts f _ hx) λl hl pl=>⟨hl,λy hy=>?_,by rw[blc];have:=p.2;have:=pl.2;dsimp only;omega⟩
 ·rw[qz4]at c;have hw:=zaq (zJ c.2);rw[c.1];exact(G.func _ h.tail).2.up λv t' p=>⟨p.1,by have:=p.2;omega⟩
 ·cases f with
  |false=>exact G.stmt _ h
  |true=>exact(G.stmt _ h).up λv t' p=>⟨zJx p.1,p.2⟩
 ·rcases yP.1 hy with rfl|hy
  ·exact p.1
  ·exact pl.1 y hy
end
theorem zBu: ∀n,zCO (pG n)
 |0=>by
  constructor<;>intros
  all_goals first|trivial|exact⟨trivial,trivial⟩
 |n+1=>by
  have G:=zBu n;exact⟨zGI G,zDd G,zCB G,zCG G,zFa G,zEj G,zFU G,zGi G,zF4 G,zDq G,zC3 G,zFB G,zG3 G,zDy G,zG6 G,zFn G,zGC G,zEg G,zGm G,zG2 G,zDZ G⟩
/-! ### a node that may be has numbers of the machine -/
/-! ### tokens that were cut -/
theorem zJr{L:List zl}{b:Nat}(h:U.zlb b L):GT (L.map tk):=by
 induction h with
 |fin e h1 h2=>
  intro a ha;obtain rfl:a=tk e:=by simpa using ha
  refine⟨λe2=>?_,λe2=>?_,λe2=>?_,λe2=>?_⟩<;>exact absurd (show e.Kind.toNat=_ from e2) (by rw[h1];decide)
 |one s t l o hs k1 k5 _ ih=>
  intro a ha;rcases yP.1 ha with rfl|ha
  ·have hid:t.Kind=1\/t.Kind=2->zj5 t.Text=true:=λhk=>by
    obtain⟨h1,h2,c,r,rfl,hl⟩:=o.ident hk;obtain⟨g1,g2⟩:=U.znU o hk;have hlen:t.Text.length<=32:=by rw[h1,List.length_take];omega
    have hall:t.Text.all zix=true:=List.all_eq_true.2 g1;cases ht:t.Text with
    |nil=>exact absurd ht g2
    |cons d q=>
     have hd:d=c:=by
      rw[ht]at h1;cases hr:zaM (c::r)with
      |zero=>rw[hr]at h1;cases h1
      |succ m=>rw[hr]at h1;cases h1;rfl
     subst hd;rw[ht]at hlen hall;unfold zj5;simp only[hlen,decide_true,hl,hall,Bool.and_self]
   have hkk: ∀m:Nat,(tk t).kind=m->t.Kind=(m:Int):=λm e=>by have e:t.Kind.toNat=m:=e;omega
   refine⟨λe=>?_,λe=>hid (.inr (hkk _ e)),λe=>?_,λe=>?_⟩
   ·have e:t.Kind=1:=hkk _ e;have hw:=o.word (.inl e);show zbL t.Text=true;unfold zbL;rw[hid (.inl e),U.zwV];cases hx:U.zp0 t.Text with
    |false=>rfl
    |true=>have:=hw.2 hx;omega
   ·exact⟨(o.num (hkk _ e)).1,(o.num (hkk _ e)).2.1⟩
   ·obtain⟨us,h1,h2⟩:=o.str (hkk _ e);show zaT t.Text=true;unfold zaT;rw[h1,U.zg5];simp
  ·exact ih a ha
theorem zs3(q:UInt8): ∀(m:Nat) (r:Str) (acc us:List Nat) (k:Nat),U.zd5 q m r acc=some (us,k)->us.length+k+1<=acc.length+r.length
 |0,_,_,_,_,h=>by cases h
 |m+1,[],_,_,_,h=>by cases h
 |m+1,c::r,acc,us,k,h=>by
  unfold U.zd5 at h;split at h
  ·cases h;simp;omega
  ·split at h
   ·cases h
   ·split at h
    ·split at h
     ·cases h
     ·rename_i us' k' he;have:=zs3 q m _ _ _ _ h;have h1:=U.zxX he;simp only[qz5,List.length_drop,qz3]at this⊢;omega
    ·have:=zs3 q m _ _ _ _ h;simp only[qz5,qz3,qz6]at this⊢;omega
theorem zFc{s:Str}{t:zl}{n:Nat}(h:U.zhj s=some (t,n)):t.Text.length<=2*n:=by
 cases s with
 |nil=>cases h
 |cons c s=>
  unfold U.zhj at h;dsimp only at h;split at h
  ·split at h
   ·cases h
   ·cases h;show((c::s).take _).length<=_;rw[List.length_take];omega
  ·split at h
   ·cases hn:U.zk2 (c::s)with
    |none=>rw[hn]at h;cases h
    |some p=>rw[hn]at h;cases h;exact Nat.zero_le _
   ·split at h
    ·generalize hx:U.zcB (c::s)=q at h;obtain⟨u,n',e⟩:=q;simp only at h;split at h
     ·cases h
     ·rename_i hne;cases h;unfold U.zcB at hx;simp only at hx;by_cases hq:c=39\/c=34
      ·rw[yL hq]at hx;cases hg:U.zd5 c (s.length+1) s []with
       |none=>
        rw[hg]at hx;exact absurd (show(0:Int)=n' from congrArg (λx=>x.2.1) hx).symm hne
       |some p=>
        obtain⟨us,k⟩:=p;rw[hg]at hx;obtain rfl:U.zc6 us=u:=congrArg (λx=>x.1) hx;obtain rfl:(((c::s).length -k:Nat):Int)=n':=congrArg (λx=>x.2.1) hx;have:=zs3 c _ _ _ _ _ hg;show(U.zc6 us).length<=_;rw[U.zg5];simp only[qz3,qz6,Int.toNat_natCast]at this⊢;omega
      ·rw[yK hq]at hx;exact absurd (show(0:Int)=n' from congrArg (λx=>x.2.1) hx).symm hne
    ·split at h
     ·cases h
     ·cases h;show((c::s).take _).length<=_;rw[List.length_take];omega
theorem zzp(len:Nat): ∀(m:Nat) (s:Str) (f:Bool) (l:List (zl×Nat)),U.zch m s f= .inl l->wT ((U.zeQ len l).map tk)<=106*s.length+100
 |0,_,_,_,h=>by cases h
 |m+1,s,f,l,h=>by
  have hl:=zcn (s.length+1) s f;rw[U.zch]at h;generalize zat (s.length+1) s f=q at h hl;obtain⟨r,f',ok⟩:=q;simp only at h hl;split at h
  ·cases h
  ·split at h
   ·cases h;show 100+3*(([]:Str)).length+0<=_;simp
   ·cases ho:U.zhj r with
    |none=>rw[ho]at h;cases h
    |some p=>
     obtain⟨t,n⟩:=p;rw[ho]at h;simp only at h;have hn:=U.zi5 ho;have hn2:=zFc ho;cases hc:U.zch m (r.drop n) false with
     |inr k=>rw[hc]at h;cases h
     |inl l'=>
      rw[hc]at h;cases h;have hd:(r.drop n).length=r.length -n:=List.length_drop;have g:=zzp len m (r.drop n) false l' hc;rw[U.zoP];show 100+3*t.Text.length+wT ((U.zeQ len l').map tk)<=_;omega
theorem zDC{src:Str}{L:List zl}(h:U.zcd src=(L,0,0)):wT (L.map tk)<=500000:=by
 have hs:=(U.zgu h).2.2;unfold U.zcd at h;split at h
 ·exact absurd (congrArg (λx=>x.2.2) h) (by simp)
 ·split at h
  ·rename_i l hc;obtain rfl:U.zeQ src.length l=L:=congrArg (λx=>x.1) h;have:=zzp src.length _ _ _ _ hc;omega
  ·exact absurd (congrArg (λx=>x.2.2) h) (by simp)
/-! ### what is read may be -/
theorem znm{src:Str}{L:List zl}(hc:U.zcd src=(L,0,0)){q:List Node×zD}(h:(pG (10*L.length+20)).stmts true (L.map tk)=gt q):zbn (nd 41 q.1)=true/\zam (nd 41 q.1)<=500007:=by
 have h1:=(zBu (10*L.length+20)).stmts true (L.map tk) (zJr (U.zgu hc).1);rw[h]at h1;have h2:=zDC hc;obtain⟨_,p1,p2⟩:=h1;refine⟨zHF p1,?_⟩;rw[bu];omega
theorem Ok.of{α:Type}{f:Nat->PR α}(hm: ∀n,Le (f n) (f (n+1))){n:Nat}{v:α×zD}(h:f n=gt v):Ok f v:=by
 refine⟨n,λk hk=>?_⟩;obtain⟨j,rfl⟩: ∃j,k=n+j:=⟨k -n,by omega⟩
 clear hk;induction j with
 |zero=>exact h
 |succ j ih=>exact hm (n+j) _ ih
theorem zyK{e m:Tok}{tb:zD}(B:Beh e m tb){ns:List Node}{y:zD}(hb:zfG true tb (ns,y)): ∀(n:Nat) (t t':zD) (v:List Node) (s:zD),R1 e m tb t t'->(pG n).stmts true t=gt (v,s)->zI s=0->
  zfG true t' (v++nd 40 []::ns,y)\/zfG true t' (v++ns,y)
 |0,t,t',v,s,h,he,hs=>by cases he
 |n+1,t,t',v,s,h,he,hs=>by
  have he:zbs (pG n) true t=gt (v,s):=he;have X:=exts B n
  have hx:Ext false (R12 e m tb) (if(true&&tIs [102,117,110,99,116,105,111,110] t)=true then(pG n).func 39 t.tail else(pG n).stmt t) (if(true&&tIs [102,117,110,99,116,105,111,110] t')=true then(pG n).func 39 t'.tail else(pG n).stmt t'):=
   .ite (by rw[h.is B (by decide)]) (λhb=>(X.func _ _ _ (h.tail B (zJ (by simpa using hb)))).to λ_ _=> .inl) λ_=>X.stmt _ _ h
  cases h with
  |fin=>
   unfold zbs at he;rw[yL (by rw[show zI [e]=0 from B.e0];simp)]at he
   cases he;left
   have h59:tIs [59] (m::tb)=true:=by
    show(opK m&&(m.text==([59]:Str)))=true;unfold opK;rw[B.mt,B.m5];rfl
   refine zAd (x:=nd 40 []) (t1:=tb) ?_ (by rw[mis B (by decide)];rfl) ?_ hb
   ·rw[mis B (by decide),show zI (m::tb)=5 from B.m5];rfl
   ·exact(Ok.ret (nd 40 [],tb)).up λn=>by
     show zff (pG n) (m::tb)=_;unfold zff;rw[yK (by rw[mis B (by decide)];simp),yL h59]
     rfl
  |cons a ha h=>
   rename_i u u' _;unfold zbs at he;by_cases hc:(tIs [125] (a::u)||zI (a::u)==0)=true
   ·rw[yL hc]at he;cases he;exact absurd hs ha
   ·rw[yK hc]at he;have hc:(tIs [125] (a::u')||zI (a::u')==0)=false:=Bool.eq_false_iff.2 hc
    have hfin: ∀(x:Node) (s1 s1':zD) (l:List Node),R12 e m tb s1 s1'->(pG n).stmts true s1=gt (l,s)->(if(true&&tIs [102,117,110,99,116,105,111,110] (a::u'))=true then(pG n).func 39 u' else(pG n).stmt (a::u'))=gt (x,s1')->
      zfG true (a::u') ((x::l)++nd 40 []::ns,y)\/zfG true (a::u') ((x::l)++ns,y):=by
     intro x s1 s1' l hr hl hx'
     have step: ∀r:List Node,zfG true s1' (r,y)->zfG true (a::u') (x::r,y):=by
      intro r hr;by_cases hf:(true&&tIs [102,117,110,99,116,105,111,110] (a::u'))=true
      ·rw[yL hf]at hx';exact zAz hc (by simpa using hf) (Ok.of (f:=λn=>(pG n).func 39 u') (λn=>(zu0 n).func 39 u') hx') hr
      ·rw[yK hf]at hx';exact zAd hc (by simpa using hf) (Ok.of (f:=λn=>(pG n).stmt (a::u')) (λn=>(zu0 n).stmt (a::u')) hx') hr
     rcases hr with hr| ⟨rfl,rfl⟩
     ·rcases zyK B hb n s1 s1' l s hr hl hs with g|g
      ·exact .inl (step _ g)
      ·exact .inr (step _ g)
     ·right
      have:l=[]:=by
       cases n with
       |zero=>cases hl
       |succ k=>
        have hl:zbs (pG k) true [e]=gt (l,s):=hl;unfold zbs at hl;rw[yL (by rw[show zI [e]=0 from B.e0];simp)]at hl
        cases hl;rfl
      subst this;exact step _ hb
    generalize hA:(if(true&&tIs [102,117,110,99,116,105,111,110] (a::u))=true then(pG n).func 39 (a::u).tail else(pG n).stmt (a::u))=A at he hx;cases A with
    |none=>cases he
    |some r=>
     cases r with
     |inl k=>cases he
     |inr r=>
      obtain⟨s1',e1,hr⟩:=hx r.1 r.2 rfl (by simp);have he:((pG n).stmts true r.2).bd (λl=>gt (r.1::l.1,l.2))=gt (v,s):=he;cases hl:(pG n).stmts true r.2 with
      |none=>rw[hl]at he;cases he
      |some q=>
       cases q with
       |inl k=>rw[hl]at he;cases he
       |inr q=>
        rw[hl]at he;cases he;exact hfin r.1 r.2 s1' q.1 hr hl e1
/-! ### a line ahead of the first token -/
def fr(t:zD):zD:=match t with|a::u=>{a with fresh:=true}::u| []=>[]
structure HdE (g:PG) (a b:Tok) (u:zD):Prop where
 expr: ∀no,g.expr no (a::u)=g.expr no (b::u)
 assign: ∀no,g.assign no (a::u)=g.assign no (b::u)
 binary: ∀no l,g.binary no l (a::u)=g.binary no l (b::u)
 unary:g.unary (a::u)=g.unary (b::u)
 made:g.made (a::u)=g.made (b::u)
 prim:g.prim (a::u)=g.prim (b::u)
 block:g.block (a::u)=g.block (b::u)
 stmt:g.stmt (a::u)=g.stmt (b::u)
theorem zE0(k:Nat)(w:Str)(i:Int)(f f':Bool)(u:zD): ∀n,HdE (pG n) ⟨k,w,i,f⟩ ⟨k,w,i,f'⟩ u
 |0=>⟨λ_=>rfl,λ_=>rfl,λ_ _=>rfl,rfl,rfl,rfl,rfl,rfl⟩
 |n+1=>by
  have I:=zE0 k w i f f' u n
  exact{
   expr:=λno=>by show zi0 _ _ _=zi0 _ _ _;unfold zi0;rw[I.assign no]
   assign:=λno=>by show zfB _ _ _=zfB _ _ _;unfold zfB;rw[I.binary no 3]
   binary:=λno l=>by show zfA _ _ _ _=zfA _ _ _ _;unfold zfA;rw[I.unary]
   unary:=by show zer _ _=zer _ _;unfold zer;rw[I.made];rfl
   made:=by show zf5 _ _=zf5 _ _;unfold zf5;rw[I.prim];rfl
   prim:=by show zd1 _ _=zd1 _ _;unfold zd1;rfl
   block:=rfl
   stmt:=by show zff _ _=zff _ _;unfold zff;rw[I.block,I.expr false];rfl}
theorem zFV{t:zD}(hw:Wf t){ns:List Node}{y:zD}(h:zfG true t (ns,y))(hy:zI y=0): ∃y',zI y'=0/\zfG true (fr t) (ns,y'):=by
 cases t with
 |nil=>exact absurd hw.pos (by simp)
 |cons a u=>
  obtain⟨k,w,i,f⟩:=a;by_cases hc:(tIs [125] (⟨k,w,i,f⟩::u)||zI (⟨k,w,i,f⟩::u)==0)=true
  ·have h2:=Ok.uniq h (zt4 (f:=true) hc);cases h2;exact⟨fr (⟨k,w,i,f⟩::u),hy,zt4 hc⟩
  ·refine⟨y,hy,Ok.eq h ?_⟩;funext n;cases n with
   |zero=>rfl
   |succ n=>
    show zbs _ _ _=zbs _ _ _;unfold zbs;show(if(tIs [125] (⟨k,w,i,f⟩::u)||zI (⟨k,w,i,f⟩::u)==0)=true then _ else _)=_;rw[yK hc,yK hc];rw[show(fr (⟨k,w,i,f⟩::u))=⟨k,w,i,true⟩::u from rfl,(zE0 k w i f true u n).stmt];rfl
end Go.D08
namespace Go.D08
open Go Go.Gw Go.Dn Go.Proofs
set_option maxRecDepth 100000
namespace U
theorem zzV(len:Nat)(l:List (Tok×Nat)):(zeQ len l).map tk=l.map λp=>tk p.1:=by
 unfold zeQ;rw[List.map_map];rfl
end U
end Go.D08
namespace Go.D08
open Go Go.Gw Go.Dn Go.Proofs
set_option maxRecDepth 100000
theorem R1.of{e m:Tok}{tb:zD}: ∀u:zD,(∀x∈u,x.kind≠0)->R1 e m tb (u++[e]) (u++m::tb)
 | [],_=> .fin
 |a::u,h=> .cons a (h a qz7) (R1.of u λx hx=>h x (qz8 _ hx))
namespace U
theorem zzU{s:Str}{L:List Tok}(h:zcd s=(L,0,0)):s.length<=4096/\∃l,zch (s.length+1) s false= .inl l/\L.map tk=l.map λp=>tk p.1:=by
 unfold zcd at h;split at h
 · exact absurd (congrArg (λx=>x.2.2) h) (by simp)
 · split at h
   · rename_i l hc;obtain rfl:zeQ s.length l=L:=congrArg (λx=>x.1) h;exact⟨by omega,l,hc,zzV _ _⟩
   · exact absurd (congrArg (λx=>x.2.2) h) (by simp)
def frl:List (Tok×Nat)->List (Tok×Nat)
 | []=>[]
 | (t,k)::l=>(t.fresh true,k)::l
theorem zCY(l:List (Tok×Nat)):(frl l).map (λp=>tk p.1)=fr (l.map λp=>tk p.1):=by
 cases l with
 |nil=>rfl
 |cons p l=>rfl
theorem zCA{a b:Str}{La Lb:List Tok}(ha:zcd a=(La,0,0))(hb:zcd b=(Lb,0,0))(hl:a.length+3+b.length<=4096):
   ∃L u e,zcd (a++[10,59,10]++b)=(L,0,0)/\La.map tk=u++[e]/\e.kind=0/\(∀x∈u,x.kind≠0)/\L.map tk=u++⟨5,[59],0,true⟩::fr (Lb.map tk):=by
 obtain⟨_,la,h1,h2⟩:=zzU ha;obtain⟨_,lb,h3,h4⟩:=zzU hb;have h5:=zBS (b.length+1) b false;rw[h3]at h5
 have h6:zch (b.length+1) b true= .inl (frl lb):=by
   rw[h5];cases lb<;>rfl
 have h7:zch 2 [59] true= .inl [({Kind:=5,Text:=[59],Num:=0,At:=0,Fresh:=true},1),(zAM false,0)]:=by kernel_rfl
 have h8:=zuw b 2 [59] true _ (by simp) h7 (([59]++10::b).length+1) (Nat.lt_succ_self _);rw[h6]at h8;have h9:=zuw ([59]++10::b) (a.length+1) a false la (Nat.lt_succ_self _) h1 ((a++10::([59]++10::b)).length+1) (Nat.lt_succ_self _);rw[h8]at h9;have e:a++([10,59,10]:Str)++b=a++10::([59]++10::b):=by simp
 obtain⟨l0,f',rfl,hk,_⟩:=zrm _ _ _ _ h1;rw[List.dropLast_concat]at h9;rw[e];have h9:zch ((a++10::([59]++10::b)).length+1) (a++10::([59]++10::b)) false= .inl (l0.map (λp=>(p.1,p.2+(([59]++10::b:Str).length+1)))++(([({Kind:=5,Text:=[59],Num:=0,At:=0,Fresh:=true},1)]:List (Tok×Nat)).map (λp=>(p.1,p.2+(b.length+1)))++frl lb)):=h9;refine⟨zeQ (a++10::([59]++10::b)).length (l0.map (λp=>(p.1,p.2+(([59]++10::b:Str).length+1)))++(([({Kind:=5,Text:=[59],Num:=0,At:=0,Fresh:=true},1)]:List (Tok×Nat)).map (λp=>(p.1,p.2+(b.length+1)))++frl lb)),l0.map (λp=>tk p.1),tk (zAM f'),?_,?_,rfl,?_,?_⟩
 · unfold zcd;rw[yK (by simp;omega),h9]
 · rw[h2,List.map_append];rfl
 · intro x hx;obtain⟨p,hp,rfl⟩:=List.mem_map.1 hx;have:=(hk p hp).1;show p.1.Kind.toNat≠0;omega
 · rw[zzV,List.map_append,List.map_map,List.map_append,zCY,h4];rfl
end U
theorem zuR(src:Str)(hs:src.length<=100000000):
   (∃at' e:Int,e≠0/\zaA src=some (nd 0 [],at',e,()))\/(∃L ns z,U.zcd src=(L,0,0)/\(pG (10*L.length+20)).stmts true (L.map tk)=gt (ns,z)/\zI z=0/\zco (nd 41 ns)<=64/\zaA src=some (nd 41 ns,0,0,())):=by
 by_cases hc:(U.zcd src).2.2=0
 · have hc:U.zcd src=((U.zcd src).1,0,0):=by
     unfold U.zcd at hc⊢;split at hc
     ·exact absurd hc (by simp)
     ·rename_i hl;rw[yK hl];split at hc
      ·rfl
      ·exact absurd hc (by simp)
   generalize (U.zcd src).1=L at hc;obtain⟨h1,h2,h3⟩:=U.zgu hc
   have he:=zkV hs hc h1.ok (by omega) (λq hq=>by
     have:=(znm hc hq).2;have:=zll (nd 41 q.1);omega)
   rw[he];obtain⟨r,hr⟩:=zrt h1.ok.wf;rw[List.length_map]at hr;unfold zn0;rw[hr];cases r with
   |inl k=>exact .inl ⟨_,80,by decide,rfl⟩
   |inr q=>
     simp only;split
     ·split
      ·exact .inl ⟨_,31,by decide,rfl⟩
      ·rename_i h0 hd;exact .inr ⟨L,q.1,q.2,hc,hr,h0,by omega,rfl⟩
     ·exact .inl ⟨_,80,by decide,rfl⟩
 · left;refine⟨(U.zcd src).2.1,(U.zcd src).2.2,hc,?_⟩;unfold zaA;rw[U.ztz src hs];have:((U.zcd src).2.2 !=0)=true:=by simpa using hc
   simp only[qz1,this,yB,zdS];rfl
theorem zsN: ∀l r:List Node,zd0 (l++r)=max (zd0 l) (zd0 r)
 | [],r=>by simp[zd0]
 |x::l,r=>by simp only[yI,zrn,zsN l r];omega
theorem zn5: ∀l r:List Node,zaO (l++r)=zaO l+zaO r
 | [],r=>by simp[zaO]
 |x::l,r=>by simp only[yI,zaO,zn5 l r];omega
theorem zye(l:List Node):l.length<=zaO l:=by
 induction l with
 |nil=>simp[zaO]
 |cons x r ih=>
   have:=zEA x;simp only[qz3,zaO];omega
theorem zA1{a b:Str}{La Lb:List zl}{ms ns:List Node}{y z:zD}(ha:U.zcd a=(La,0,0))(hb:U.zcd b=(Lb,0,0))(hl:a.length+3+b.length<=4096)
   (h1:(pG (10*La.length+20)).stmts true (La.map tk)=gt (ms,y)) (hy:zI y=0) (d1:zco (nd 41 ms)<=64) (h2:(pG (10*Lb.length+20)).stmts true (Lb.map tk)=gt (ns,z)) (hz:zI z=0) (d2:zco (nd 41 ns)<=64):
   ∃l,(l=ms++nd 40 []::ns\/l=ms++ns)/\zaA (a++[10,59,10]++b)=some (nd 41 l,0,0,())/\zam (nd 41 l)<=500007:=by
 obtain⟨L,u,e,hc,e1,e2,e3,e4⟩:=U.zCA ha hb hl;have wb:=(U.zgu hb).1.ok.wf;have sb:zfG true (Lb.map tk) (ns,z):=Ok.of (f:=λn=>(pG n).stmts true (Lb.map tk)) (λn=>(zu0 n).stmts true _) h2;obtain⟨z',hz',sb'⟩:=zFV wb sb hz
 have hel:tIs [101,108,115,101] (fr (Lb.map tk))=false:=by
   obtain⟨N,hN⟩:=sb';have hN:=hN (N+2) (by omega);have hN:zbs (pG (N+1)) true (fr (Lb.map tk))=gt (ns,z'):=hN;cases hq:tIs [101,108,115,101] (fr (Lb.map tk))with
   |false=>rfl
   |true=>
     exfalso;generalize fr (Lb.map tk)=t at hN hq;cases t with
     |nil=>cases hq
     |cons x r=>
      have hx:opK x=true/\x.text=[101,108,115,101]:=by
       have:(opK x&&(x.text==([101,108,115,101]:Str)))=true:=hq;rw[qz4,beq_iff_eq]at this;exact this
      have hi: ∀w:Str,w≠[101,108,115,101]->tIs w (x::r)=false:=λw hw=>by
       show(opK x&&(x.text==w))=false;rw[hx.2,yH.2 (Ne.symm hw),Bool.and_false]
      have hk:(x.kind==0)=false:=by
       cases h0:x.kind==0 with
       |false=>rfl
       |true=>
        have h0:=eq_of_beq h0;have:=hx.1;unfold opK at this;rw[h0]at this;cases this
      have hk2: ∀j,(j=1\/j=3\/j=4)->(x.kind==j)=false:=λj hj=>by
       cases h0:x.kind==j with
       |false=>rfl
       |true=>
        have h0:=eq_of_beq h0;have:=hx.1;unfold opK at this;rw[h0]at this;rcases hj with rfl|rfl|rfl<;>cases this
      have ha: ∀l:List Str,l.contains ([101,108,115,101]:Str)=false->zcc l (x::r)=false:=λl hl=>by
       show(opK x&&l.contains x.text)=false;rw[hx.2,hl,Bool.and_false]
      have kinds: ∀j,(j=1\/j=3\/j=4)->(zI (x::r)==j)=false:=hk2
      have p1: ∀g:PG,zd1 g (x::r)=bad (x::r):=λg=>by
       unfold zd1;rw[kinds 1 (by simp),kinds 3 (by simp),kinds 4 (by simp),hi _ (by decide),hi _ (by decide),hi _ (by decide),hi _ (by decide),hi _ (by decide),hi _ (by decide),hi _ (by decide),hi _ (by decide)];rfl
      have dp: ∀n,Ded ((pG n).prim (x::r)):=λn=>by
       cases n with
       |zero=>exact Ded.none
       |succ n=>show Ded (zd1 _ _);rw[p1];exact Ded.bad
      have dm: ∀n,Ded ((pG n).made (x::r)):=λn=>by
       cases n with
       |zero=>exact Ded.none
       |succ n=>show Ded (zf5 _ _);unfold zf5;rw[hi _ (by decide)];exact dp n
      have du: ∀n,Ded ((pG n).unary (x::r)):=λn=>by
       cases n with
       |zero=>exact Ded.none
       |succ n=>show Ded (zer _ _);unfold zer;rw[ha _ (by decide),ha _ (by decide)];exact Ded.bd (dm n)
      have db: ∀n,Ded ((pG n).binary false 3 (x::r)):=λn=>by
       cases n with
       |zero=>exact Ded.none
       |succ n=>exact Ded.bd (du n)
      have das: ∀n,Ded ((pG n).assign false (x::r)):=λn=>by
       cases n with
       |zero=>exact Ded.none
       |succ n=>exact Ded.bd (db n)
      have de: ∀n,Ded ((pG n).expr false (x::r)):=λn=>by
       cases n with
       |zero=>exact Ded.none
       |succ n=>exact Ded.bd (das n)
      have ds:Ded ((pG (N+1)).stmt (x::r)):=by
       show Ded (zff _ _);unfold zff;rw[hi _ (by decide),hi _ (by decide),hi _ (by decide),hi _ (by decide),hi _ (by decide),hi _ (by decide),hi _ (by decide),hi _ (by decide),hi _ (by decide),hi _ (by decide),hi _ (by decide),hi _ (by decide),hi _ (by decide),hi _ (by decide),kinds 1 (by simp)];exact Ded.bd (de N)
      unfold zbs at hN;rw[hi _ (by decide),show(zI (x::r)==0)=false from hk,hi _ (by decide)]at hN;exact Ded.bd ds _ hN
 have B:Beh e ⟨5,[59],0,true⟩ (fr (Lb.map tk)):=⟨e2,rfl,rfl,hel⟩
 have hr:R1 e ⟨5,[59],0,true⟩ (fr (Lb.map tk)) (La.map tk) (L.map tk):=by
   rw[e1,e4];exact R1.of u e3
 obtain⟨t1,t2,t3⟩:=U.zgu hc
 have fin: ∀l,zfG true (L.map tk) (l,z')->zco (nd 41 l)<=64->zaA (a++[10,59,10]++b)=some (nd 41 l,0,0,())/\zam (nd 41 l)<=500007:=by
   intro l hl hd;have hp:=zCW t1.ok.wf hl;rw[List.length_map]at hp;refine⟨?_,(znm hc hp).2⟩
   rw[zkV (by omega) hc t1.ok (by omega) (λq hq=>by
     have:=(znm hc hq).2;have:=zll (nd 41 q.1);omega)]
   unfold zn0;rw[hp];simp only;rw[yL hz',yK (by omega)]
 have dd: ∀l:List Node,zd0 l<=63->zco (nd 41 l)<=64:=λl h=>by rw[zhN];exact Nat.succ_le_succ h
 have d1:zd0 ms<=63:=by rw[zhN]at d1;exact Nat.le_of_succ_le_succ d1
 have d2:zd0 ns<=63:=by rw[zhN]at d2;exact Nat.le_of_succ_le_succ d2
 have d0:zco (nd 40 [])=1:=by rw[zhN];rfl
 rcases zyK B sb' _ _ _ ms y hr h1 hy with g|g
 · obtain⟨p,q⟩:=fin _ g (dd _ (by rw[zsN,zrn,d0];omega))
   exact⟨_,.inl rfl,p,q⟩
 · obtain⟨p,q⟩:=fin _ g (dd _ (by rw[zsN];omega))
   exact⟨_,.inr rfl,p,q⟩
theorem zfz{n:Nat}(h:n<=274877906944):room n=some ():=by unfold room;rw[yL h]
theorem zBJ(a b:Str)(hs:a.length<=100000000)(hs':b.length<=100000000):zcm a b=some (true,()):=by
 unfold zcm;rw[zCI];simp only[qz1,zdS]
 have bad: ∀{x y:Node×Int×Int×Unit},(x.2.2.1≠0\/y.2.2.1≠0)->(x.2.2.1 !=0||y.2.2.1 !=0)=true:=λ{x y} h=>by
   rcases h with h|h<;>simp[h]
 rcases zuR a hs with⟨a1,e1,h1,p1⟩| ⟨La,ms,y,c1,r1,k1,d1,p1⟩
 · obtain⟨q,hq⟩: ∃q,zaA b=some q:=by
     rcases zuR b hs' with⟨a2,e2,h2,p2⟩| ⟨Lb,ns,z,c2,r2,k2,d2,p2⟩
     ·exact⟨_,p2⟩
     ·exact⟨_,p2⟩
   rw[p1,hq];have:(e1 !=0)=true:=by simpa using h1
   simp only[qz1,this,Bool.true_or,yB]
 · rcases zuR b hs' with⟨a2,e2,h2,p2⟩| ⟨Lb,ns,z,c2,r2,k2,d2,p2⟩
   · rw[p1,p2];have:(e2 !=0)=true:=by simpa using h2
     simp only[qz1,this,Bool.or_true,Bool.true_or,yB]
   · rw[p1,p2];simp only[qz1,bne_self_eq_false,Bool.or_self,Bool.false_or];have w1:IntKind.wrap .i64 (((a.length:Nat):Int)+3)=(a.length:Int)+3:=wrap_i64 (by omega) (by omega);have w2:IntKind.wrap .i64 (4096 - ((b.length:Nat):Int))=4096 - (b.length:Int):=wrap_i64 (by omega) (by omega);rw[w1,w2];by_cases hg:(a.length:Int)+3>4096 - (b.length:Int)
     ·rw[decide_eq_true hg];rfl
     ·rw[decide_eq_false hg];simp only[qz2,yA]
      have cat: ∀s t:Str,s.length<=10000->t.length<=10000->zgy s t=some (s++t):=λs t h1 h2=>by
       unfold zgy;rw[yL (by omega)]
      rw[cat _ _ (by omega) (by simp),qz1,cat _ _ (by simp;omega) (by omega),qz1]
      obtain⟨l,hl,pj,bj⟩:=zA1 c1 c2 (by omega) r1 k1 d1 r2 k2 d2;rw[pj];have b1:zam (nd 41 ms)<=500007:=(znm c1 r1).2;have b2:zam (nd 41 ns)<=500007:=(znm c2 r2).2;rw[bu]at b1 b2;have n1:=zye ms;have n2:=zye ns;have e0:zam (nd 40 [])=7:=by rw[bu];rfl
      have R: ∀n:Nat,n<=274877906944->room n=some ():=λn h=>zfz h
      simp only[qz1,zC,show(nd 41 ms).L=ms from rfl,show(nd 41 ns).L=ns from rfl,List.nil_append,qz6,qz5,qz3];rw[R _ (by omega),qz1,R _ (by omega),qz1,R _ (by omega),qz1];have hw1:zam (nd 41 (ms++[nd 40 []]++ns))<=2097152:=by rw[bu,zn5,zn5,bl1,e0];omega
      have hw2:zam (nd 41 (ms++ns))<=2097152:=by rw[bu,zn5];omega
      unfold zaC;simp only[beq_self_eq_true,yB,zC];have s1:zaD (nd 41 l) (⟨41,[],0,[],[],ms++[(⟨40,[],0,[],[],[]⟩:zg)]++ns⟩:zg)=some (ziV (nd 41 l) (nd 41 (ms++[nd 40 []]++ns)),()):=zAw _ _ (by omega) hw1;rw[s1,qz1];cases hsm:ziV (nd 41 l) (nd 41 (ms++[nd 40 []]++ns))with
      |true=>rfl
      |false=>
       simp only[qz2,yA]
       have hl2:l=ms++ns:=by
        rcases hl with hl|hl
        ·rw[hl,show ms++nd 40 []::ns=ms++[nd 40 []]++ns by simp,(ztp _ _).2 rfl]at hsm;cases hsm
        ·exact hl
       unfold zcA;simp only[beq_self_eq_true,zC,show(nd 41 ms).L=ms from rfl,show(nd 41 ns).L=ns from rfl,List.nil_append,qz6,Bool.and_self,yB];rw[R _ (by omega),qz1,R _ (by omega),qz1];have s2:zaD (nd 41 l) (⟨41,[],0,[],[],ms++ns⟩:zg)=some (ziV (nd 41 l) (nd 41 (ms++ns)),()):=zAw _ _ (by omega) hw2;rw[s2,hl2,(ztp _ _).2 rfl];rfl
end Go.D08
