/- Texts for a statement of this seat. -/
import Derived.Test.YtdapbipagjmolaaGreatDoorMd5
set_option linter.unusedSectionVars false
set_option linter.unusedVariables false
set_option linter.unusedSimpArgs false
set_option linter.unnecessarySimpa false
namespace Go.D08.U
open Go Go.Gw Go.Dn Go.Proofs
set_option maxRecDepth 100000
theorem ztm{c:UInt8}(hc:wsB c){w:Str}(h:Bk w false):Bk (c::w) false:= .ws c hc h
theorem zLw{w:Str}(h:Bk w false):Bk ([47,42,32,120,32,42,47]++w) false:=Bk.block (l:=[47,42,32,120,32,42,47]) 3 (by decide) (by decide) (by decide) h
theorem zLO{w:Str}(h:Bk w false):Bk ([47,42,42,47]++w) false:=Bk.block (l:=[47,42,42,47]) 0 (by decide) (by decide) (by decide) h
theorem zHz(n:Int): ∃B,zc9 n=some (B,())/\blB B:=by
 have h1:Int.tmod n 5<5:=Int.tmod_lt_of_pos n (by decide);have h2: -5<Int.tmod n 5:=Int.lt_tmod_of_pos n (by decide);unfold zc9;have w:IntKind.wrap .i64 (Int.tmod n 5+5)=Int.tmod n 5+5:=wrap_i64 (by omega) (by omega);rw[w];generalize Int.tmod n 5=r at h1 h2;obtain⟨k,hk⟩: ∃k:Nat,r+5=(k:Int):=⟨(r+5).toNat,by omega⟩
 rw[hk];have hk9:k<=9:=by omega
 have a0:blB [32]:=⟨⟨32,[],rfl,by simp⟩,ztm (by decide) .nil,by simp⟩
 have a1:blB [9]:=⟨⟨9,[],rfl,by simp⟩,ztm (by decide) .nil,by simp⟩
 have a2:blB [32,47,42,32,120,32,42,47]:=⟨⟨32,_,rfl,by simp⟩,ztm (by decide) (by have:=zLw (w:=[]) .nil;exact this),by simp⟩
 have a3:blB [11,32]:=⟨⟨11,_,rfl,by simp⟩,ztm (by decide) (ztm (by decide) .nil),by simp⟩
 have a4:blB [32,47,42,42,47,32]:=⟨⟨32,_,rfl,by simp⟩,ztm (by decide) (by have:=zLO (w:=[32]) (ztm (by decide) .nil);exact this),by simp⟩
 match k,hk9 with
 |0,_=>exact⟨_,rfl,a0⟩
 |1,_=>exact⟨_,rfl,a1⟩
 |2,_=>exact⟨_,rfl,a2⟩
 |3,_=>exact⟨_,rfl,a3⟩
 |4,_=>exact⟨_,rfl,a4⟩
 |5,_=>exact⟨_,rfl,a0⟩
 |6,_=>exact⟨_,rfl,a1⟩
 |7,_=>exact⟨_,rfl,a2⟩
 |8,_=>exact⟨_,rfl,a3⟩
 |9,_=>exact⟨_,rfl,a4⟩
def blA(b:Int)(i:Nat):Str:=match zc9 (IntKind.wrap .i64 (b+(i:Int)))with|some (B,_)=>B|none=>[]
theorem zBv(b:Int)(i:Nat):zc9 (IntKind.wrap .i64 (b+(i:Int)))=some (blA b i,())/\blB (blA b i):=by
 obtain⟨B,h1,h2⟩:=zHz (IntKind.wrap .i64 (b+(i:Int)));have:blA b i=B:=by unfold blA;rw[h1]
 rw[this];exact⟨h1,h2⟩
theorem zCm{s t:Str}(h:s.length+t.length<=1000000):zgW s t=some (s++t):=by
 unfold zgW;rw[yL (by omega)]
theorem zFJ{f:Bool}{B:Str}(h:blB B):(ahead f B).length<=9:=by
 have:=h.2.2;unfold ahead;cases f<;>simp<;>omega
theorem zFT(src:Str)(b:Int)(up:Bool)(L:List zk)(out p:Str)(k:List zk)(len:Int)(i:Nat)(x:zk)(ho:out.length<=100000)(hi:i<1000000)(r:Str)(hr:(x.Kind=0/\r=[])\/(x.Kind≠0/\k.length≠0/\zeI p=some (r,())/\r.length<=100000)):
  zcT src b up L out (i:Int) p k L len (i:Int) x=some (.inl (src,b,up,L,out++(ahead x.Fresh (blA b i)++r),L,len,((i+1:Nat):Int),())):=by
 obtain⟨hb,hB⟩:=zBv b i;have hB8:=hB.2.2;have wi:=wrap_succ (show i<1000000000000 by omega)
 have j7: ∀z:Str,z.length<=200000->zcX src b up L z p k L len (i:Int) x=some (.inl (src,b,up,L,z++r,L,len,((i+1:Nat):Int),())):=by
  intro z hz;unfold zcX;rcases hr with⟨h0,rfl⟩| ⟨h0,hk,ht,hl⟩
  ·simp only[h0,beq_self_eq_true,Bool.true_or,yB,wi,List.append_nil]
  ·have e1:(x.Kind==0)=false:=by rw[yH];exact h0
   have e2:((((k.length:Nat):Int))==0)=false:=by rw[yH];omega
   simp only[e1,e2,Bool.or_self,qz2,yA,ht,qz1,zCm (show z.length+r.length<=1000000 by omega),wi]
 have j6: ∀z:Str,z.length<=150000->zbX src b up L z (i:Int) p k L len (i:Int) x=some (.inl (src,b,up,L,z++blA b i++r,L,len,((i+1:Nat):Int),())):=by
  intro z hz;unfold zbX;simp only[hb,qz1,zCm (show z.length+(blA b i).length<=1000000 by omega),zcP];exact j7 _ (by rw[qz5];omega)
 unfold zcT;cases hf:x.Fresh with
 |true=>
  simp only[yB,zcP];unfold zes;simp only[zCm (show out.length+([10]:Str).length<=1000000 by simp;omega),qz1,zcP]
  rw[j6 _ (by simp;omega)]
  unfold ahead;simp
 |false=>
  simp only[qz2,yA,zcP];rw[j6 _ (by omega)];unfold ahead;simp
def kOf:List (Tok×Nat)->Nat
 | []=>0
 | (_,k)::_=>k
theorem zi4{α:Type}{L:List α}{i:Nat}{x:α}{r:List α}(h:L.drop i=x::r):zL L (i:Int)=some x:=by
 rw[ze3];have:=congrArg List.head? h;rw[List.head?_drop]at this;exact this
theorem zyc(src:Str)(hs:src.length<=4096)(b:Int)(up:Bool)(L:List zk)(hL:L.length<=5000): ∀(l:List (Tok×Nat)) (i:Nat) (out:Str),L.drop i=zci src.length l->Sq src l->i+l.length=L.length->out.length+9*l.length+kOf l<=100000->
  ∃O,Ou (blA b) i l O/\zaq zaz (l.length+1) (src,b,up,L,out,L,((L.length:Nat):Int),(i:Int),())=zaq zaz 1 (src,b,up,L,out++O,L,((L.length:Nat):Int),((L.length:Nat):Int),()):=by
 intro l;induction l with
 |nil=>intro i out _ hq;cases hq
 |cons q l ih=>
  intro i out hd hq hi hb;have hBL:=zBv b i;have hal:=λf=>zFJ (f:=f) hBL.2
  have wn:IntKind.wrap .i64 (((L.length:Nat):Int) -1)=((L.length -1:Nat):Int):=by
   simp only[qz3]at hi;rw[wrap_i64 (by omega) (by omega)];omega
  have hlt:((i:Int)< ((L.length:Nat):Int)):=by simp only[qz3]at hi;omega
  cases hq with
  |fin f=>
   have hx:L.drop i=[(zmV f).at_ ((src.length -0:Nat):Int)]:=hd;have hg:=zi4 hx;have c2: ¬((i:Int)< ((L.length -1:Nat):Int)):=by simp only[qz3,qz6]at hi;omega
   refine⟨_,.fin i f,?_⟩
   have hcut:zar src (((src.length -0:Nat):Nat):Int) ((src.length:Nat):Int)=some []:=by
    rw[Nat.sub_zero,zfF src src.length src.length (yJ _) (yJ _),Nat.sub_self];rfl
   have hst:zaz (src,b,up,L,out,L,((L.length:Nat):Int),(i:Int),())=some (.inl (src,b,up,L,out++(ahead f (blA b i)++[]),L,((L.length:Nat):Int),((i+1:Nat):Int),())):=by
    unfold zaz;simp only[hlt,decide_true,yB,hg,qz1,wn,c2,decide_false,qz2,yA,zcP];unfold zbW;have e1:((zmV f).at_ ((src.length -0:Nat):Int)).At=((src.length -0:Nat):Int):=rfl;simp only[e1,hcut,qz1,zcP];unfold zcS;simp only[zk2 [] (by simp),qz1,zcP];exact zFT src b up L out [] _ _ i _ (by omega) (by simp only[qz3]at hi;omega) [] (.inl ⟨rfl,rfl⟩)
   rw[List.append_nil]at hst;rw[qz3,zaN hst];have:i+1=L.length:=by simpa using hi
   rw[this];rfl
  | @cons t0 f k t' k' l h1 h2 h3 h4 h=>
   have hx:L.drop i=((t0.fresh f).at_ ((src.length -k:Nat):Int))::(t'.at_ ((src.length -k':Nat):Int))::zci src.length l:=hd;have hg:=zi4 hx
   have hd1:L.drop (i+1)=(t'.at_ ((src.length -k':Nat):Int))::zci src.length l:=by
    have:=congrArg List.tail hx;rwa [List.tail_drop]at this
   have hg1:=zi4 hd1;have c2:((i:Int)< ((L.length -1:Nat):Int)):=by simp only[qz3]at hi;omega
   have wi:=wrap_succ (show i<1000000000000 by simp only[qz3]at hi;omega)
   have hcut:zar src ((src.length -k:Nat):Int) ((src.length -k':Nat):Int)=some ((src.drop (src.length -k)).take (k -k')):=by
    rw[zfF src (src.length -k) (src.length -k') (by omega) (by omega)];have:src.length -k' - (src.length -k)=k -k':=by omega
    rw[this]
   generalize hp:(src.drop (src.length -k)).take (k -k')=p at h3 hcut;have hpl:p.length<=k -k':=by rw[<-hp,List.length_take];omega
   obtain⟨e,hgood⟩:=h3.good (by omega);rw[List.take_length]at hgood;obtain⟨T,ht,hpT,hTl⟩:=zIE h3 (by omega)
   have hst:zaz (src,b,up,L,out,L,((L.length:Nat):Int),(i:Int),())=some (.inl (src,b,up,L,out++(ahead f (blA b i)++T),L,((L.length:Nat):Int),((i+1:Nat):Int),())):=by
    unfold zaz;simp only[hlt,decide_true,yB,hg,qz1,wn,c2,wi,hg1,zcP];unfold zbW;have e1:((t0.fresh f).at_ ((src.length -k:Nat):Int)).At=((src.length -k:Nat):Int):=rfl;have e2:(t'.at_ ((src.length -k':Nat):Int)).At=((src.length -k':Nat):Int):=rfl;simp only[e1,e2,hcut,qz1,zcP];unfold zcS;simp only[zk2 p (by omega),hgood,qz1,zcP];exact zFT src b up L out p [t0,e] _ i _ (by omega) (by simp only[qz3]at hi;omega) T (.inr ⟨by show t0.Kind≠0;omega,by simp,ht,by omega⟩)
   have hih:=ih (i+1) (out++(ahead f (blA b i)++T)) hd1 h (by simp only[qz3]at hi⊢;omega) (by
    have:=hal f;simp only[qz3,qz5,kOf]at hb⊢;omega)
   obtain⟨O,g1,g2⟩:=hih;refine⟨ahead f (blA b i)++(T++O),.cons i hpT h4 g1,?_⟩;rw[qz3,zaN hst,g2];simp only[yE]
theorem zAy{src:Str}{L:List zk}{l:List (Tok×Nat)}(b:Int){O:Str}(h:Ou (blA b) 0 l O)(hne:l≠[])(hO:O.length<=4096): ∃L',zaX O=(L',0,0)/\L'.map tk=l.map λp=>tk p.1:=by
 obtain⟨th,kh,lt,rfl⟩: ∃th kh lt,l=(th,kh)::lt:=by
  cases l with
  |nil=>exact absurd rfl hne
  |cons p lt=>exact⟨p.1,p.2,lt,rfl⟩
 obtain⟨l',h1,h2⟩:=zKQ (λi=>(zBv b i).2) h [] (O.length+1) th kh lt rfl ⟨false,rfl⟩ (λ_ y hy=>by cases hy) (λ_ _=> .nil) (by rw[List.nil_append];exact Nat.lt_succ_self _)
 rw[List.nil_append]at h1;refine⟨zci O.length l',?_,by rw[zDz];exact h2⟩
 unfold zaX;rw[yK (by omega),h1]
end Go.D08.U
namespace Go.D08
open Go Go.Gw Go.Dn Go.Proofs
theorem zCJ{s s':Str}{L L':List zk}(h:U.zaX s=(L,0,0))(h':U.zaX s'=(L',0,0))(e:L'.map tk=L.map tk):
  ∃(n:Node) (a a' c:Int),zbp s=some (n,a,c,())/\zbp s'=some (n,a',c,())/\zaD n<=2097152:=by
 have t:=U.zhm h;have t':=U.zhm h';have hl:L'.length=L.length:=by have:=congrArg List.length e;simpa using this
 have p1:=zl2 (by omega) h t.1.ok (by omega) (λq hq=>by
  have:=(zw6 h hq).2;have:=zmn (nd 41 q.1);omega)
 have p2:=zl2 (by omega) h' t'.1.ok (by omega) (λq hq=>by
  have:=(zw6 h' hq).2;have:=zmn (nd 41 q.1);omega)
 rw[p1,p2];obtain⟨r,hr⟩:=zyw t.1.ok.wf;rw[List.length_map]at hr;have hr':=hr;rw[<-hl,<-e]at hr';have b0:zaD (nd 0 [])<=2097152:=by rw[bu];decide
 unfold ztc;rw[hr,hr'];cases r with
 |inl k=>exact⟨_,_,_,_,rfl,rfl,b0⟩
 |inr q=>
  simp only;by_cases h0:zaa q.2=0
  ·rw[yL h0,yL h0];by_cases hd:64<zed (nd 41 q.1)
   ·rw[yL hd];exact⟨_,_,_,_,rfl,rfl,b0⟩
   ·rw[yK hd];have:zaD (nd 41 q.1)<=500007:=(zw6 h hr).2;exact⟨_,_,_,_,rfl,rfl,Nat.le_trans this (by decide)⟩
  ·rw[yK h0,yK h0];exact⟨_,_,_,_,rfl,rfl,b0⟩
theorem zEw(src:Str)(b:Int)(hs:src.length<=100000000):zcH src b=some (true,()):=by
 unfold zcH;rw[zFF,U.zk2 src hs];simp only[qz1];by_cases he:(U.zaX src).2.2=0
 ·have hc:U.zaX src=((U.zaX src).1,0,0):=by
   have h1:=U.zDB he;have:U.zaX src=((U.zaX src).1,(U.zaX src).2.1,(U.zaX src).2.2):=rfl;rw[h1,he]at this;exact this
  generalize hL:(U.zaX src).1=L at hc;have hb:((U.zaX src).2.2 !=0)=false:=by rw[he];rfl
  simp only[hb,qz2,yA];obtain⟨t1,t2,t3⟩:=U.zhm hc;obtain⟨_,l,h1,h2⟩:=U.zII hc
  have hlaid:L=U.zci src.length l:=by
   unfold U.zaX at hc;rw[yK (by omega),h1]at hc;exact(congrArg (λx=>x.1) hc).symm
  have hsq:=U.zFu src _ _ _ _ (Nat.lt_succ_self _) (List.suffix_refl _) h1;have hll:l.length=L.length:=by rw[hlaid];simp[U.zci]
  have hk:U.kOf l<=4096:=by
   cases hsq with
   |fin f=>exact Nat.zero_le _
   |cons g1 _ _ _ _=>exact Nat.le_trans g1 t3
  obtain⟨O,g1,g2⟩:=U.zyc src t3 b true L (by omega) l 0 [] hlaid hsq (by omega) (by simp only[qz6];omega)
  have last:zaq zaz 1 (src,b,true,L,O,L,((L.length:Nat):Int),((L.length:Nat):Int),())=some (true,()):=by
   refine zW ?_;unfold zaz;simp only[Int.lt_irrefl,decide_false,qz2,yA];by_cases hO:O.length>4096
   ·have d:(((O.length:Nat):Int)>4096):=by omega
    simp only[d,decide_true,yB]
   ·have d: ¬(((O.length:Nat):Int)>4096):=by omega
    simp only[d,decide_false,qz2,yA];obtain⟨L',c1,c2⟩:=U.zAy (src:=src) (L:=L) b g1 (U.zDc h1) (by omega);obtain⟨n,a,a',c,p1,p2,hb⟩:=zCJ hc c1 (by rw[c2,h2]);rw[p1,p2];simp only[qz1,beq_self_eq_true,Bool.and_self,yB,zC];rw[zIB n n hb hb,(zAe n n).2 rfl];rfl
  rw[List.nil_append]at g2;have:=g2.trans last;exact zbA this (by omega)
 ·have hb:((U.zaX src).2.2 !=0)=true:=by simpa using he
  simp only[hb,yB]
end Go.D08
