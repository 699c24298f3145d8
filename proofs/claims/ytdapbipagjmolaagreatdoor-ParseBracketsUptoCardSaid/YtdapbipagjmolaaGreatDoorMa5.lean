/- Texts for a statement of this seat. -/
import Derived.Test.YtdapbipagjmolaaGreatDoorMa4
set_option linter.unusedSectionVars false
set_option linter.unusedVariables false
set_option linter.unusedSimpArgs false
set_option linter.unnecessarySimpa false
namespace Go.D08
open Go Go.Gw Go.Dn
set_option maxRecDepth 100000
theorem zkZ(ws:List Str)(h: ∀w∈ws,w≠[]/\(32:UInt8)∉w)(s:Str):zcb (joined ws) s=ws.contains s:=by
 unfold zcb;by_cases h0:s=[]
 ·subst h0
  have:ws.contains ([]:Str)=false:=by
   cases hc:ws.contains ([]:Str)with
   |false=>rfl
   |true=>exact absurd rfl (h [] (by simpa using hc)).1
  rw[this];rfl
 ·have e0:(s==([]:Str))=false:=by rw[yH];exact h0
  rw[e0];by_cases h1:(32:UInt8)∈s
  ·have e1:s.contains 32=true:=by simpa using h1
   have:ws.contains s=false:=by
    cases hc:ws.contains s with
    |false=>rfl
    |true=>exact absurd h1 (h s (by simpa using hc)).2
   rw[e1,this];rfl
  ·have e1:s.contains 32=false:=by simpa using h1
   rw[e1,zks s h1 ws λw hw=>(h w hw).2];rfl
def lv1(l:List Node):Str:=match l with
 | []=>[]
 |_::_=>[101]
def lv3(l:List Node):Str:=match l with
 |_::_::_::_=>[101,98,98]
 |_=>[101,98]
theorem zNl(l:List Node):zaI ([101]:Str) 0 (if 1< ((l.length:Nat):Int)then 1 else((l.length:Nat):Int))=some (lv1 l):=by
 rw[zQ9 (zGG _).1 (zGG _).2];cases l with
 |nil=>rfl
 |cons a r=>
  have:(if 1< (((a::r).length:Nat):Int)then(1:Int)else(((a::r).length:Nat):Int))=1:=by simp only[qz3];split<;>omega
  rw[this];rfl
theorem zUH(l:List Node):zaI ([101,98,98]:Str) 0 (let a:=(if 2>((l.length:Nat):Int)then 2 else((l.length:Nat):Int));if 3<a then 3 else a)=some (lv3 l):=by
 rw[zK2 (zGs _).1 (zGs _).2]
 match l with
 | []=>rfl
 | [_]=>rfl
 | [_,_]=>rfl
 |a::b::c::r=>
  have:(let a':=(if 2>(((a::b::c::r).length:Nat):Int)then(2:Int)else(((a::b::c::r).length:Nat):Int));if 3<a' then 3 else a')=3:=by simp only[qz3];split<;>split<;>omega
  rw[this];rfl
theorem zUw{x:Node}(h:x.Kind=1):zan x=some ⟨[],9007199254740991,false,false,[]⟩:=by
 simp[zan,zaE,zK,zL,h,zq,zq]
theorem zT8{x:Node}(h:x.Kind=2):zan x=some ⟨[],0,true,false,[]⟩:=by
 simp[zan,zaE,zK,zL,h,zq,zq]
theorem zUx{x:Node}(h:x.Kind=3):zan x=some ⟨[110],0,false,false,[]⟩:=by
 simp[zan,zaE,zK,zL,h,zq,zq]
theorem zU5{x:Node}(h:x.Kind=4):zan x=some ⟨[],0,false,false,[]⟩:=by
 simp[zan,zaE,zK,zL,h,zq,zq]
theorem zUf{x:Node}(h:x.Kind=5):zan x=some ⟨[],0,false,false,[]⟩:=by
 simp[zan,zaE,zK,zL,h,zq,zq]
theorem zUg{x:Node}(h:x.Kind=6):zan x=some ⟨[],1,false,false,[]⟩:=by
 simp[zan,zaE,zK,zL,h,zq,zq]
theorem zUM{x:Node}(h:x.Kind=7):zan x=some ⟨[],0,false,false,[42,101]⟩:=by
 simp[zan,zaE,zK,zL,h,zq,zq]
theorem zUt{x:Node}(h:x.Kind=8):zan x=some ⟨[],0,false,false,[42,112]⟩:=by
 simp[zan,zaE,zK,zL,h,zq,zq]
theorem zVk{x:Node}(h:x.Kind=9):zan x=some ⟨[],0,true,false,[101]⟩:=by
 simp[zan,zaE,zK,zL,h,zq,zq]
theorem zSN{x:Node}(h:x.Kind=10):zan x=some ⟨[109],0,false,true,[42,120]⟩:=by
 simp[zan,zaE,zK,zL,h,zq,zq]
theorem zSJ{x:Node}(h:x.Kind=11):zan x=some ⟨[105],0,false,false,[101]⟩:=by
 simp[zan,zaE,zK,zL,h,zq,zq]
theorem zS7{x:Node}(h:x.Kind=12):zan x=some ⟨[],0,false,false,[101,101]⟩:=by
 simp[zan,zaE,zK,zL,h,zq,zq]
theorem zTB{x:Node}(h:x.Kind=13):zan x=some ⟨[],0,false,false,[101,42,101]⟩:=by
 simp[zan,zaE,zK,zL,h,zq,zq]
theorem zTK{x:Node}(h:x.Kind=14):zan x=some ⟨[],0,false,false,[101,42,101]⟩:=by
 simp[zan,zaE,zK,zL,h,zq,zq]
theorem zTL{x:Node}(h:x.Kind=15):zan x=some ⟨[32,45,32,43,32,33,32,116,121,112,101,111,102,32,100,101,108,101,116,101,32,118,111,105,100,32],0,false,false,[101]⟩:=by
 simp[zan,zaE,zK,zL,h,zq,zq]
theorem zR1{x:Node}(h:x.Kind=16):zan x=some ⟨[32,43,43,32,45,45,32],1,false,false,[116]⟩:=by
 simp[zan,zaE,zK,zL,h,zq,zq]
theorem zRN{x:Node}(h:x.Kind=17):zan x=some ⟨[32,43,32,45,32,42,32,47,32,37,32,60,32,62,32,60,61,32,62,61,32,61,61,32,33,61,32,61,61,61,32,33,61,61,32,105,110,32,105,110,115,116,97,110,99,101,111,102,32],0,false,false,[101,101]⟩:=by
 simp[zan,zaE,zK,zL,h,zq,zq]
theorem zSm{x:Node}(h:x.Kind=18):zan x=some ⟨[32,38,38,32,124,124,32],0,false,false,[101,101]⟩:=by
 simp[zan,zaE,zK,zL,h,zq,zq]
theorem zR9{x:Node}(h:x.Kind=19):zan x=some ⟨[],0,false,false,[101,101,101]⟩:=by
 simp[zan,zaE,zK,zL,h,zq,zq]
theorem zSL{x:Node}(h:x.Kind=20):zan x=some ⟨[32,61,32,43,61,32,45,61,32,42,61,32,47,61,32,37,61,32],0,false,false,[116,101]⟩:=by
 simp[zan,zaE,zK,zL,h,zq,zq]
theorem zTs{x:Node}(h:x.Kind=21):zan x=some ⟨[],0,false,false,[101,101]⟩:=by
 simp[zan,zaE,zK,zL,h,zq,zq]
theorem zSM{x:Node}(h:x.Kind=22):zan x=some ⟨[],0,false,false,[100,42,100]⟩:=by
 simp[zan,zaE,zK,zL,h,zq,zq]
theorem zSW{x:Node}(h:x.Kind=23):zan x=some ⟨[110],0,false,false,lv1 x.L⟩:=by
 simp[zan,zaE,zK,zL,h,zq,zq,zNl]
theorem zSh{x:Node}(h:x.Kind=24):zan x=some ⟨[],0,false,false,[101]⟩:=by
 simp[zan,zaE,zK,zL,h,zq,zq]
theorem zRJ{x:Node}(h:x.Kind=25):zan x=some ⟨[],0,false,false,[42,115]⟩:=by
 simp[zan,zaE,zK,zL,h,zq,zq]
theorem zSB{x:Node}(h:x.Kind=26):zan x=some ⟨[],0,false,false,lv3 x.L⟩:=by
 have e:=zUH x.L;simp only at e;simp[zan,zaE,zK,h,zq,zq,e]
theorem zTz{x:Node}(h:x.Kind=27):zan x=some ⟨[],0,false,false,[101,98]⟩:=by
 simp[zan,zaE,zK,zL,h,zq,zq]
theorem zSK{x:Node}(h:x.Kind=28):zan x=some ⟨[],0,false,false,[98,101]⟩:=by
 simp[zan,zaE,zK,zL,h,zq,zq]
theorem zS0{x:Node}(h:x.Kind=29):zan x=some ⟨[],0,false,false,[118,102,102,98]⟩:=by
 simp[zan,zaE,zK,zL,h,zq,zq]
theorem zTA{x:Node}(h:x.Kind=30):zan x=some ⟨[],0,false,false,[119,101,98]⟩:=by
 simp[zan,zaE,zK,zL,h,zq,zq]
theorem zSC{x:Node}(h:x.Kind=31):zan x=some ⟨[109],0,false,false,[]⟩:=by
 simp[zan,zaE,zK,zL,h,zq,zq]
theorem zTF{x:Node}(h:x.Kind=32):zan x=some ⟨[109],0,false,false,[]⟩:=by
 simp[zan,zaE,zK,zL,h,zq,zq]
theorem zTg{x:Node}(h:x.Kind=33):zan x=some ⟨[],0,false,false,lv1 x.L⟩:=by
 simp[zan,zaE,zK,zL,h,zq,zq,zNl]
theorem zSZ{x:Node}(h:x.Kind=34):zan x=some ⟨[],0,false,false,[101]⟩:=by
 simp[zan,zaE,zK,zL,h,zq,zq]
theorem zSs{x:Node}(h:x.Kind=35):zan x=some ⟨[99],0,false,false,[98,99,99]⟩:=by
 simp[zan,zaE,zK,zL,h,zq,zq]
theorem zSF{x:Node}(h:x.Kind=36):zan x=some ⟨[],0,false,false,[101,42,107]⟩:=by
 simp[zan,zaE,zK,zL,h,zq,zq]
theorem zTm{x:Node}(h:x.Kind=37):zan x=some ⟨[],0,false,false,[102,42,115]⟩:=by
 simp[zan,zaE,zK,zL,h,zq,zq]
theorem zTR{x:Node}(h:x.Kind=38):zan x=some ⟨[110],0,false,false,[115]⟩:=by
 simp[zan,zaE,zK,zL,h,zq,zq]
theorem zSn{x:Node}(h:x.Kind=39):zan x=some ⟨[110],0,false,true,[42,120]⟩:=by
 simp[zan,zaE,zK,zL,h,zq,zq]
theorem zSb{x:Node}(h:x.Kind=40):zan x=some ⟨[],0,false,false,[]⟩:=by
 simp[zan,zaE,zK,zL,h,zq,zq]
theorem zR6{x:Node}(h:x.Kind=41):zan x=some ⟨[],0,false,false,[42,120]⟩:=by
 simp[zan,zaE,zK,zL,h,zq,zq]
theorem zTu{x:Node}(h:x.Kind=42):zan x=some ⟨[],0,false,false,[]⟩:=by
 simp[zan,zaE,zK,zL,h,zq,zq]
theorem zQo(s:Str):zcb [32,45,32,43,32,33,32,116,121,112,101,111,102,32,100,101,108,101,116,101,32,118,111,105,100,32] s=ztP.contains s:=by
 rw[show([32,45,32,43,32,33,32,116,121,112,101,111,102,32,100,101,108,101,116,101,32,118,111,105,100,32]:Str)=joined ztP by decide+kernel];exact zkZ _ (by decide+kernel) s
theorem zQK(s:Str):zcb [32,43,43,32,45,45,32] s=zir.contains s:=by
 rw[show([32,43,43,32,45,45,32]:Str)=joined zir by decide+kernel];exact zkZ _ (by decide+kernel) s
def zAP:List Str:=[[43],[45],[42],[47],[37],[60],[62],[60,61],[62,61],[61,61],[33,61],[61,61,61],[33,61,61],[105,110],[105,110,115,116,97,110,99,101,111,102]]
theorem zQZ(s:Str):zcb [32,43,32,45,32,42,32,47,32,37,32,60,32,62,32,60,61,32,62,61,32,61,61,32,33,61,32,61,61,61,32,33,61,61,32,105,110,32,105,110,115,116,97,110,99,101,111,102,32] s=zAP.contains s:=by
 rw[show([32,43,32,45,32,42,32,47,32,37,32,60,32,62,32,60,61,32,62,61,32,61,61,32,33,61,32,61,61,61,32,33,61,61,32,105,110,32,105,110,115,116,97,110,99,101,111,102,32]:Str)=joined zAP by decide+kernel];exact zkZ _ (by decide+kernel) s
def zAK:List Str:=[[38,38],[124,124]]
theorem zP8(s:Str):zcb [32,38,38,32,124,124,32] s=zAK.contains s:=by
 rw[show([32,38,38,32,124,124,32]:Str)=joined zAK by decide+kernel];exact zkZ _ (by decide+kernel) s
theorem zPw(s:Str):zcb [32,61,32,43,61,32,45,61,32,42,61,32,47,61,32,37,61,32] s=zt6.contains s:=by
 rw[show([32,61,32,43,61,32,45,61,32,42,61,32,47,61,32,37,61,32]:Str)=joined zt6 by decide+kernel];exact zkZ _ (by decide+kernel) s
def zab(x:Node):Bool:=
 if((x.Kind==3||x.Kind==23)||(x.Kind==38||x.Kind==39))=true then zbU x.Name
 else if((x.Kind==10||x.Kind==31)||x.Kind==32)=true then x.Name==([]:Str)||zbU x.Name
 else if(x.Kind==11)=true then zfD x.Name
 else if(x.Kind==35)=true then(if(match x.L with| [_,y,_]=>y.Kind==25|_=>false)=true then zbU x.Name else x.Name==([]:Str))
 else if(x.Kind==15)=true then ztP.contains x.Name
 else if(x.Kind==16)=true then zir.contains x.Name
 else if(x.Kind==17)=true then zAP.contains x.Name
 else if(x.Kind==18)=true then zAK.contains x.Name
 else if(x.Kind==20)=true then zt6.contains x.Name
 else x.Name==([]:Str)
def zbH(x:Node):Bool:=
 if(x.Kind==1)=true then decide (0<=x.Num)&&decide (x.Num<=9007199254740991)
 else if(x.Kind==6||x.Kind==16)=true then x.Num==0||x.Num==1
 else x.Num==0
def zao(x:Node):Bool:=(zab x&&(x.Text==([]:Str)||(x.Kind==2||x.Kind==9)))&&(zhu x.Text&&(zbH x&&((x.Names.isEmpty||(x.Kind==10||x.Kind==39))&&x.Names.all zbU)))
def zO(y:Node)(c:UInt8):Bool:=isP y ((c.toNat:Nat):Int)&&zat y
def zaj:Str->Option UInt8->List Node->Bool
 | [],some c,l=>l.all λy=>zO y c
 | [],none,l=>l.isEmpty
 |c::cs,m,y::ys=>zO y c&&zaj cs m ys
 |_::_,_,[]=>false
theorem zCC: ∀(cs:Str) (m:Option UInt8) (l:List Node),zaj cs m l=true->cs.length<=l.length/\(m.isSome=true\/l.length<=cs.length)
 | [],some c,l,_=>⟨Nat.zero_le _,.inl rfl⟩
 | [],none,l,h=>by
  cases l with
  |nil=>exact⟨yJ _,.inr (yJ _)⟩
  |cons a r=>cases h
 |c::cs,m,y::ys,h=>by
  simp only[zaj,qz4]at h;obtain⟨h1,h2⟩:=zCC cs m ys h.2;exact⟨by simp only[qz3];omega,h2.imp id λh=>by simp only[qz3];omega⟩
 |_::_,_,[],h=>by cases h
def zwZ(m:Option UInt8):Str:=match m with
 |some c=>[c]
 |none=>[]
theorem zEZ(x:Node)(ls:Str)(c:UInt8)(hc:ls[ls.length -1]? =some c)(hx: ∀k,ziK x k=false)(e:Nat)(he:e<2): ∀(r:List Node) (i:Nat),ls.length -1<=i->zhV x ls (zj6 r) i e=r.all λy=>zO y c
 | [],i,hi=>by simp[zj6,zhV,he]
 |k::r,i,hi=>by
  simp only[zj6,zhV,List.all_cons];rw[show min i (ls.length -1)=ls.length -1 by omega,hc];simp only[hx k,qz2,yA,zEZ x ls c hc hx e he r (i+1) (by omega),zO]
theorem zDo(x:Node)(m:Option UInt8)(hx: ∀k,ziK x k=false): ∀(cs pre:Str) (l:List Node),cs.length<=l.length->(m.isSome=true\/l.length<=cs.length)->zhV x (pre++(cs++zwZ m)) (zj6 l) pre.length 0=zaj cs m l
 | [],pre,l,h1,h2=>by
  cases m with
  |none=>
   have:l=[]:=List.length_eq_zero_iff.1 (by
    rcases h2 with h2|h2
    ·cases h2
    ·simpa using h2)
   subst this;rfl
  |some c=>
   simp only[zaj,List.nil_append,zwZ];exact zEZ x _ c (by simp) hx 0 (by omega) l pre.length (by simp)
 |c::cs,pre,[],h1,h2=>by simp at h1
 |c::cs,pre,y::ys,h1,h2=>by
  simp only[zj6,zhV,zaj];have hlt:min pre.length ((pre++(c::cs++zwZ m)).length -1)=pre.length:=by simp only[qz5,qz3];omega
  rw[hlt];have:(pre++(c::cs++zwZ m))[pre.length]? =some c:=by simp
  rw[this];simp only[hx y,qz2,yA];have ih:=zDo x m hx cs (pre++[c]) ys (by simpa using h1) (h2.imp id λh=>by simpa using h);rw[show(pre++[c])++(cs++zwZ m)=pre++(c::cs++zwZ m) by simp]at ih;rw[qz5,List.length_singleton]at ih;rw[ih];rfl
theorem zbp{x:Node}{f:Form}(fx:Str)(m:Option UInt8)(hf:zan x=some f)(hs:zwr x f=zao x)(h1:zf1 f.l=fx)(h2:zoI f.l=zwZ m)(h3:f.l.contains 42=m.isSome)(h35:x.Kind≠35)(h36:x.Kind≠36):zat x=(zao x&&zaj fx m x.L):=by
 have hx: ∀k,ziK x k=false:=λk=>by
  have e1:(x.Kind==35)=false:=by rw[yH];exact h35
  have e2:(x.Kind==36)=false:=by rw[yH];exact h36
  simp[ziK,e1,e2]
 rw[zre];unfold zzB;rw[hf];simp only;rw[hs,h1,h2];cases zao x with
 |false=>rfl
 |true=>
  simp only[Bool.true_and];unfold zjd;rw[h1,h3];by_cases hl:fx.length<=x.L.length/\(m.isSome=true\/x.L.length<=fx.length)
  ·have:=zDo x m hx fx [] x.L hl.1 hl.2;simp only[List.nil_append,qz6]at this;rw[this]
   have e:(decide (fx.length<=x.L.length)&&(m.isSome||decide (x.L.length<=fx.length)))=true:=by
    simp only[qz4,yQ,yT];exact hl
   rw[e,Bool.true_and]
  ·have e:(decide (fx.length<=x.L.length)&&(m.isSome||decide (x.L.length<=fx.length)))=false:=by
    rw[Bool.eq_false_iff];intro h;simp only[qz4,yQ,yT]at h;exact hl h
   rw[e,Bool.false_and];symm;rw[Bool.eq_false_iff];intro h;exact hl (zCC _ _ _ h)
theorem zaS{x:Node}{f:Form}(hn:zaV x f.name=zab x)(hm:(decide (0<=x.Num)&&decide (x.Num<=f.num))=zbH x)(ht:f.text=(x.Kind==2||x.Kind==9))(hs:f.names=(x.Kind==10||x.Kind==39)):zwr x f=zao x:=by
 unfold zwr zao;rw[hn,hm,ht,hs];generalize zab x=a1;generalize zbH x=a2;generalize zhu x.Text=a3;generalize (x.Text==([]:Str))=a4;generalize (x.Kind==2||x.Kind==9)=a5;generalize x.Names.isEmpty=a6;generalize (x.Kind==10||x.Kind==39)=a7;generalize x.Names.all zbU=a8;cases a1<;>cases a2<;>cases a3<;>cases a4<;>cases a5<;>cases a6<;>cases a7<;>cases a8<;>rfl
theorem zcX(n:Int):(decide (0<=n)&&decide (n<=0))=(n==0):=by
 rw[Bool.eq_iff_iff];simp only[qz4,yT,beq_iff_eq];omega
theorem num1(n:Int):(decide (0<=n)&&decide (n<=1))=(n==0||n==1):=by
 rw[Bool.eq_iff_iff];simp only[qz4,yQ,yT,beq_iff_eq];omega
theorem zMa{x:Node}(h:x.Kind=1):zat x=(zao x&&zaj [] none x.L):=
 zbp [] none (zUw h) (zaS (by simp[zaV,zab,h]) (by simp[zbH,h]) (by rw[h];rfl) (by rw[h];rfl)) (rfl) (rfl) (rfl) (by omega) (by omega)
theorem zM4{x:Node}(h:x.Kind=2):zat x=(zao x&&zaj [] none x.L):=
 zbp [] none (zT8 h) (zaS (by simp[zaV,zab,h]) (by rw[zcX];simp[zbH,h]) (by rw[h];rfl) (by rw[h];rfl)) (rfl) (rfl) (rfl) (by omega) (by omega)
theorem zRk{x:Node}(h:x.Kind=3):zat x=(zao x&&zaj [] none x.L):=
 zbp [] none (zUx h) (zaS (by simp[zaV,zab,h]) (by rw[zcX];simp[zbH,h]) (by rw[h];rfl) (by rw[h];rfl)) (rfl) (rfl) (rfl) (by omega) (by omega)
theorem zVM{x:Node}(h:x.Kind=4):zat x=(zao x&&zaj [] none x.L):=
 zbp [] none (zU5 h) (zaS (by simp[zaV,zab,h]) (by rw[zcX];simp[zbH,h]) (by rw[h];rfl) (by rw[h];rfl)) (rfl) (rfl) (rfl) (by omega) (by omega)
theorem zVz{x:Node}(h:x.Kind=5):zat x=(zao x&&zaj [] none x.L):=
 zbp [] none (zUf h) (zaS (by simp[zaV,zab,h]) (by rw[zcX];simp[zbH,h]) (by rw[h];rfl) (by rw[h];rfl)) (rfl) (rfl) (rfl) (by omega) (by omega)
theorem zVF{x:Node}(h:x.Kind=6):zat x=(zao x&&zaj [] none x.L):=
 zbp [] none (zUg h) (zaS (by simp[zaV,zab,h]) (by rw[num1];simp[zbH,h]) (by rw[h];rfl) (by rw[h];rfl)) (rfl) (rfl) (rfl) (by omega) (by omega)
theorem zMR{x:Node}(h:x.Kind=7):zat x=(zao x&&zaj [] (some 101) x.L):=
 zbp [] (some 101) (zUM h) (zaS (by simp[zaV,zab,h]) (by rw[zcX];simp[zbH,h]) (by rw[h];rfl) (by rw[h];rfl)) (rfl) (rfl) (rfl) (by omega) (by omega)
theorem zL8{x:Node}(h:x.Kind=8):zat x=(zao x&&zaj [] (some 112) x.L):=
 zbp [] (some 112) (zUt h) (zaS (by simp[zaV,zab,h]) (by rw[zcX];simp[zbH,h]) (by rw[h];rfl) (by rw[h];rfl)) (rfl) (rfl) (rfl) (by omega) (by omega)
theorem zMj{x:Node}(h:x.Kind=9):zat x=(zao x&&zaj [101] none x.L):=
 zbp [101] none (zVk h) (zaS (by simp[zaV,zab,h]) (by rw[zcX];simp[zbH,h]) (by rw[h];rfl) (by rw[h];rfl)) (rfl) (rfl) (rfl) (by omega) (by omega)
theorem zI3{x:Node}(h:x.Kind=10):zat x=(zao x&&zaj [] (some 120) x.L):=
 zbp [] (some 120) (zSN h) (zaS (by simp[zaV,zab,h]) (by rw[zcX];simp[zbH,h]) (by rw[h];rfl) (by rw[h];rfl)) (rfl) (rfl) (rfl) (by omega) (by omega)
theorem zCi{x:Node}(h:x.Kind=11):zat x=(zao x&&zaj [101] none x.L):=
 zbp [101] none (zSJ h) (zaS (by simp[zaV,zab,h]) (by rw[zcX];simp[zbH,h]) (by rw[h];rfl) (by rw[h];rfl)) (rfl) (rfl) (rfl) (by omega) (by omega)
theorem zDG{x:Node}(h:x.Kind=12):zat x=(zao x&&zaj [101,101] none x.L):=
 zbp [101,101] none (zS7 h) (zaS (by simp[zaV,zab,h]) (by rw[zcX];simp[zbH,h]) (by rw[h];rfl) (by rw[h];rfl)) (rfl) (rfl) (rfl) (by omega) (by omega)
theorem zGY{x:Node}(h:x.Kind=13):zat x=(zao x&&zaj [101] (some 101) x.L):=
 zbp [101] (some 101) (zTB h) (zaS (by simp[zaV,zab,h]) (by rw[zcX];simp[zbH,h]) (by rw[h];rfl) (by rw[h];rfl)) (rfl) (rfl) (rfl) (by omega) (by omega)
theorem zJs{x:Node}(h:x.Kind=14):zat x=(zao x&&zaj [101] (some 101) x.L):=
 zbp [101] (some 101) (zTK h) (zaS (by simp[zaV,zab,h]) (by rw[zcX];simp[zbH,h]) (by rw[h];rfl) (by rw[h];rfl)) (rfl) (rfl) (rfl) (by omega) (by omega)
theorem zHy{x:Node}(h:x.Kind=15):zat x=(zao x&&zaj [101] none x.L):=
 zbp [101] none (zTL h) (zaS (by simp[zaV,zab,h,zQo]) (by rw[zcX];simp[zbH,h]) (by rw[h];rfl) (by rw[h];rfl)) (rfl) (rfl) (rfl) (by omega) (by omega)
theorem zDf{x:Node}(h:x.Kind=16):zat x=(zao x&&zaj [116] none x.L):=
 zbp [116] none (zR1 h) (zaS (by simp[zaV,zab,h,zQK]) (by rw[num1];simp[zbH,h]) (by rw[h];rfl) (by rw[h];rfl)) (rfl) (rfl) (rfl) (by omega) (by omega)
theorem zHv{x:Node}(h:x.Kind=17):zat x=(zao x&&zaj [101,101] none x.L):=
 zbp [101,101] none (zRN h) (zaS (by simp[zaV,zab,h,zQZ]) (by rw[zcX];simp[zbH,h]) (by rw[h];rfl) (by rw[h];rfl)) (rfl) (rfl) (rfl) (by omega) (by omega)
theorem zDs{x:Node}(h:x.Kind=18):zat x=(zao x&&zaj [101,101] none x.L):=
 zbp [101,101] none (zSm h) (zaS (by simp[zaV,zab,h,zP8]) (by rw[zcX];simp[zbH,h]) (by rw[h];rfl) (by rw[h];rfl)) (rfl) (rfl) (rfl) (by omega) (by omega)
theorem zIy{x:Node}(h:x.Kind=19):zat x=(zao x&&zaj [101,101,101] none x.L):=
 zbp [101,101,101] none (zR9 h) (zaS (by simp[zaV,zab,h]) (by rw[zcX];simp[zbH,h]) (by rw[h];rfl) (by rw[h];rfl)) (rfl) (rfl) (rfl) (by omega) (by omega)
theorem zHD{x:Node}(h:x.Kind=20):zat x=(zao x&&zaj [116,101] none x.L):=
 zbp [116,101] none (zSL h) (zaS (by simp[zaV,zab,h,zPw]) (by rw[zcX];simp[zbH,h]) (by rw[h];rfl) (by rw[h];rfl)) (rfl) (rfl) (rfl) (by omega) (by omega)
theorem zIx{x:Node}(h:x.Kind=21):zat x=(zao x&&zaj [101,101] none x.L):=
 zbp [101,101] none (zTs h) (zaS (by simp[zaV,zab,h]) (by rw[zcX];simp[zbH,h]) (by rw[h];rfl) (by rw[h];rfl)) (rfl) (rfl) (rfl) (by omega) (by omega)
theorem zIY{x:Node}(h:x.Kind=22):zat x=(zao x&&zaj [100] (some 100) x.L):=
 zbp [100] (some 100) (zSM h) (zaS (by simp[zaV,zab,h]) (by rw[zcX];simp[zbH,h]) (by rw[h];rfl) (by rw[h];rfl)) (rfl) (rfl) (rfl) (by omega) (by omega)
theorem zH3{x:Node}(h:x.Kind=23):zat x=(zao x&&zaj (lv1 x.L) none x.L):=
 zbp (lv1 x.L) none (zSW h) (zaS (by simp[zaV,zab,h]) (by rw[zcX];simp[zbH,h]) (by rw[h];rfl) (by rw[h];rfl)) (by rcases x.L with _| ⟨a,_| ⟨b,_| ⟨c,r⟩⟩⟩<;>rfl) (by rcases x.L with _| ⟨a,_| ⟨b,_| ⟨c,r⟩⟩⟩<;>rfl) (by rcases x.L with _| ⟨a,_| ⟨b,_| ⟨c,r⟩⟩⟩<;>rfl) (by omega) (by omega)
theorem zCK{x:Node}(h:x.Kind=24):zat x=(zao x&&zaj [101] none x.L):=
 zbp [101] none (zSh h) (zaS (by simp[zaV,zab,h]) (by rw[zcX];simp[zbH,h]) (by rw[h];rfl) (by rw[h];rfl)) (rfl) (rfl) (rfl) (by omega) (by omega)
theorem zIv{x:Node}(h:x.Kind=25):zat x=(zao x&&zaj [] (some 115) x.L):=
 zbp [] (some 115) (zRJ h) (zaS (by simp[zaV,zab,h]) (by rw[zcX];simp[zbH,h]) (by rw[h];rfl) (by rw[h];rfl)) (rfl) (rfl) (rfl) (by omega) (by omega)
theorem zHU{x:Node}(h:x.Kind=26):zat x=(zao x&&zaj (lv3 x.L) none x.L):=
 zbp (lv3 x.L) none (zSB h) (zaS (by simp[zaV,zab,h]) (by rw[zcX];simp[zbH,h]) (by rw[h];rfl) (by rw[h];rfl)) (by rcases x.L with _| ⟨a,_| ⟨b,_| ⟨c,r⟩⟩⟩<;>rfl) (by rcases x.L with _| ⟨a,_| ⟨b,_| ⟨c,r⟩⟩⟩<;>rfl) (by rcases x.L with _| ⟨a,_| ⟨b,_| ⟨c,r⟩⟩⟩<;>rfl) (by omega) (by omega)
theorem zH8{x:Node}(h:x.Kind=27):zat x=(zao x&&zaj [101,98] none x.L):=
 zbp [101,98] none (zTz h) (zaS (by simp[zaV,zab,h]) (by rw[zcX];simp[zbH,h]) (by rw[h];rfl) (by rw[h];rfl)) (rfl) (rfl) (rfl) (by omega) (by omega)
theorem zH9{x:Node}(h:x.Kind=28):zat x=(zao x&&zaj [98,101] none x.L):=
 zbp [98,101] none (zSK h) (zaS (by simp[zaV,zab,h]) (by rw[zcX];simp[zbH,h]) (by rw[h];rfl) (by rw[h];rfl)) (rfl) (rfl) (rfl) (by omega) (by omega)
theorem zGV{x:Node}(h:x.Kind=29):zat x=(zao x&&zaj [118,102,102,98] none x.L):=
 zbp [118,102,102,98] none (zS0 h) (zaS (by simp[zaV,zab,h]) (by rw[zcX];simp[zbH,h]) (by rw[h];rfl) (by rw[h];rfl)) (rfl) (rfl) (rfl) (by omega) (by omega)
theorem zGT{x:Node}(h:x.Kind=30):zat x=(zao x&&zaj [119,101,98] none x.L):=
 zbp [119,101,98] none (zTA h) (zaS (by simp[zaV,zab,h]) (by rw[zcX];simp[zbH,h]) (by rw[h];rfl) (by rw[h];rfl)) (rfl) (rfl) (rfl) (by omega) (by omega)
theorem zG8{x:Node}(h:x.Kind=31):zat x=(zao x&&zaj [] none x.L):=
 zbp [] none (zSC h) (zaS (by simp[zaV,zab,h]) (by rw[zcX];simp[zbH,h]) (by rw[h];rfl) (by rw[h];rfl)) (rfl) (rfl) (rfl) (by omega) (by omega)
theorem zIm{x:Node}(h:x.Kind=32):zat x=(zao x&&zaj [] none x.L):=
 zbp [] none (zTF h) (zaS (by simp[zaV,zab,h]) (by rw[zcX];simp[zbH,h]) (by rw[h];rfl) (by rw[h];rfl)) (rfl) (rfl) (rfl) (by omega) (by omega)
theorem zIk{x:Node}(h:x.Kind=33):zat x=(zao x&&zaj (lv1 x.L) none x.L):=
 zbp (lv1 x.L) none (zTg h) (zaS (by simp[zaV,zab,h]) (by rw[zcX];simp[zbH,h]) (by rw[h];rfl) (by rw[h];rfl)) (by rcases x.L with _| ⟨a,_| ⟨b,_| ⟨c,r⟩⟩⟩<;>rfl) (by rcases x.L with _| ⟨a,_| ⟨b,_| ⟨c,r⟩⟩⟩<;>rfl) (by rcases x.L with _| ⟨a,_| ⟨b,_| ⟨c,r⟩⟩⟩<;>rfl) (by omega) (by omega)
theorem zHf{x:Node}(h:x.Kind=34):zat x=(zao x&&zaj [101] none x.L):=
 zbp [101] none (zSZ h) (zaS (by simp[zaV,zab,h]) (by rw[zcX];simp[zbH,h]) (by rw[h];rfl) (by rw[h];rfl)) (rfl) (rfl) (rfl) (by omega) (by omega)
theorem zIw{x:Node}(h:x.Kind=37):zat x=(zao x&&zaj [102] (some 115) x.L):=
 zbp [102] (some 115) (zTm h) (zaS (by simp[zaV,zab,h]) (by rw[zcX];simp[zbH,h]) (by rw[h];rfl) (by rw[h];rfl)) (rfl) (rfl) (rfl) (by omega) (by omega)
theorem zGW{x:Node}(h:x.Kind=38):zat x=(zao x&&zaj [115] none x.L):=
 zbp [115] none (zTR h) (zaS (by simp[zaV,zab,h]) (by rw[zcX];simp[zbH,h]) (by rw[h];rfl) (by rw[h];rfl)) (rfl) (rfl) (rfl) (by omega) (by omega)
theorem zIz{x:Node}(h:x.Kind=39):zat x=(zao x&&zaj [] (some 120) x.L):=
 zbp [] (some 120) (zSn h) (zaS (by simp[zaV,zab,h]) (by rw[zcX];simp[zbH,h]) (by rw[h];rfl) (by rw[h];rfl)) (rfl) (rfl) (rfl) (by omega) (by omega)
theorem zHR{x:Node}(h:x.Kind=40):zat x=(zao x&&zaj [] none x.L):=
 zbp [] none (zSb h) (zaS (by simp[zaV,zab,h]) (by rw[zcX];simp[zbH,h]) (by rw[h];rfl) (by rw[h];rfl)) (rfl) (rfl) (rfl) (by omega) (by omega)
theorem zNQ{x:Node}(h:x.Kind=41):zat x=(zao x&&zaj [] (some 120) x.L):=
 zbp [] (some 120) (zR6 h) (zaS (by simp[zaV,zab,h]) (by rw[zcX];simp[zbH,h]) (by rw[h];rfl) (by rw[h];rfl)) (rfl) (rfl) (rfl) (by omega) (by omega)
theorem zUT{x:Node}(h:x.Kind=42):zat x=(zao x&&zaj [] none x.L):=
 zbp [] none (zTu h) (zaS (by simp[zaV,zab,h]) (by rw[zcX];simp[zbH,h]) (by rw[h];rfl) (by rw[h];rfl)) (rfl) (rfl) (rfl) (by omega) (by omega)
theorem zSr{x:Node}(h:x.Kind=35)(hl: ∃a b c,x.L=[a,b,c]):zwr x ⟨[99],0,false,false,[98,99,99]⟩=zao x:=by
 obtain⟨a,b,c,hl⟩:=hl;exact zaS (by simp[zaV,zab,h,hl]) (by rw[zcX];simp[zbH,h]) (by rw[h];rfl) (by rw[h];rfl)
def zD2(l:List Node):Bool:=match l with
 | [a,b,c]=>(zO a 98&&(zO b 99&&zO c 99))&& !(b.Kind==42&&c.Kind==42)
 |_=>false
theorem zH5{x:Node}(h:x.Kind=35):zat x=(zao x&&zD2 x.L):=by
 rw[zre];unfold zzB;rw[zSs h];simp only;have he: ∀k,ziK x k=(k.Kind==42):=λk=>by simp[ziK,h]
 by_cases hl: ∃a b c,x.L=[a,b,c]
 ·rw[zSr h hl];obtain⟨a,b,c,hl⟩:=hl;have e1:zjd x [98,99,99]=true:=by simp[zjd,hl,zf1]
  rw[e1,Bool.and_true,hl];have e2:zf1 [98,99,99]++zoI [98,99,99]=[98,99,99]:=rfl;rw[e2];cases zao x with
  |false=>rfl
  |true=>
   simp only[Bool.true_and,zj6,zhV,zD2,he]
   have ea:zO a 98=true->(a.Kind==42)=false:=λh=>by
    simp only[zO,qz4]at h;have h1:(a.Kind==25)=true:=h.1;rw[yH];simp only[beq_iff_eq]at h1;omega
   have l0:([98,99,99]:Str)[min 0 (([98,99,99]:Str).length -1)]? =some 98:=rfl;have l1:([98,99,99]:Str)[min (0+1) (([98,99,99]:Str).length -1)]? =some 99:=rfl;have l2:([98,99,99]:Str)[min (0+1+1) (([98,99,99]:Str).length -1)]? =some 99:=rfl;rw[l0,l1,l2];have o1: ∀(y:Node) (c:UInt8),(isP y ((c.toNat:Nat):Int)&&zat y)=zO y c:=λ_ _=>rfl
   simp only[o1];cases ha:zO a 98 with
   |false=>rfl
   |true=>
    rw[ea ha];cases zO b 99<;>cases zO c 99<;>cases b.Kind==42<;>cases c.Kind==42<;>rfl
 ·have e1:zjd x [98,99,99]=false:=by
   rw[Bool.eq_false_iff];intro hm;simp only[zjd,qz4,yQ,yT]at hm
   have h3:x.L.length=3:=by
    have a1:(zf1 [98,99,99]).length=3:=rfl;have a2:([98,99,99]:Str).contains 42=false:=rfl;rw[a1,a2]at hm;rcases hm with⟨h1,h2|h2⟩
    ·cases h2
    ·omega
   exact hl (by
    rcases hL:x.L with _| ⟨a,_| ⟨b,_| ⟨c,_| ⟨d,r⟩⟩⟩⟩<;>rw[hL]at h3<;>simp at h3
    exact⟨a,b,c,rfl⟩)
  rw[e1,Bool.and_false,Bool.false_and]
  have:zD2 x.L=false:=by
   unfold zD2;split
   ·rename_i a b c hL;exact absurd ⟨a,b,c,hL⟩ hl
   ·rfl
  rw[this,Bool.and_false]
def zwt(k:Node):Bool:=match k.L with
 |y::_=>y.Kind==42
 | []=>false
def ziG:List Node->Nat->Bool
 | [],e=>decide (e<2)
 |k::r,e=>zO k 107&&ziG r (if zwt k=true then e+1 else e)
def zq7(l:List Node):Bool:=match l with
 |a::r=>zO a 101&&ziG r 0
 | []=>false
theorem zCF{x:Node}(h:x.Kind=36): ∀(r:List Node) (i e:Nat),1<=i->zhV x [101,107] (zj6 r) i e=ziG r e
 | [],i,e,hi=>rfl
 |k::r,i,e,hi=>by
  simp only[zj6,zhV,ziG];rw[show min i (([101,107]:Str).length -1)=1 by simp only[qz3,qz6];omega]
  simp only[List.getElem?_cons_succ,List.getElem?_cons_zero];show(zO k 107&&_)=_;cases ho:zO k 107 with
  |false=>rfl
  |true=>
   have hk:k.Kind=37:=by
    simp only[zO,qz4]at ho;have h1:(k.Kind==37)=true:=ho.1;simpa using h1
   have:ziK x k=zwt k:=by cases hL:k.L<;>simp[ziK,zwt,h,hk,hL]
   rw[this,zCF h r (i+1) _ (by omega)]
theorem zHm{x:Node}(h:x.Kind=36):zat x=(zao x&&zq7 x.L):=by
 rw[zre];unfold zzB;rw[zSF h];simp only;rw[zaS (f:=⟨[],0,false,false,[101,42,107]⟩) (by simp[zaV,zab,h]) (by rw[zcX];simp[zbH,h]) (by rw[h];rfl) (by rw[h];rfl)]
 have e2:zf1 [101,42,107]++zoI [101,42,107]=[101,107]:=rfl;rw[e2];cases zao x with
 |false=>rfl
 |true=>
  rcases hL:x.L with _| ⟨a,r⟩
  ·simp[zjd,hL,zf1,zq7]
  ·have e1:zjd x [101,42,107]=true:=by simp[zjd,hL,zf1]
   rw[e1];simp only[Bool.true_and,zj6,zhV,zq7];have l0:([101,107]:Str)[min 0 (([101,107]:Str).length -1)]? =some 101:=rfl;rw[l0];show(zO a 101&&_)=_;cases ho:zO a 101 with
   |false=>rfl
   |true=>
    have hk:zcu a.Kind=true:=by
     simp only[zO,qz4]at ho;exact ho.1
    have:ziK x a=false:=by
     simp only[zcu,qz4,yT]at hk;have h2:(a.Kind==37)=false:=by rw[yH];omega
     simp[ziK,h,h2]
    simp only[this,qz2,yA,zCF h r (0+1) 0 (by omega)]
theorem zaN{x:Node}(h:zao x=true):zab x=true/\zbH x=true:=by
 simp only[zao,qz4]at h;exact⟨h.1.1,h.2.2.1⟩
theorem zCD{α:Type}(a:α)(r:List α):zN (a::r) 0=some a:=rfl
theorem zRw{α:Type}(a b:α)(r:List α):zN (a::b::r) 1=some b:=rfl
theorem zRe{α:Type}(a b c:α)(r:List α):zN (a::b::c::r) 2=some c:=rfl
theorem zuF(y:Node):zO y 101=(zcu y.Kind&&zat y):=rfl
theorem zgz{k:Int}(h:zcu k=true):k=1\/k=2\/k=3\/k=4\/k=5\/k=6\/k=7\/k=8\/k=10\/k=11\/k=12\/k=13\/k=14\/k=15\/k=16\/k=17\/k=18\/k=19\/k=20\/k=21:=by
 simp only[zcu,qz4,yT,bne_iff_ne,ne_eq]at h;omega
theorem zKU: ∀(n:Nat) (x:Node),zW x<=n->zat x=true->zcu x.Kind=true->zU x<=2097152->(zcZ n).zb0 x=some ((tkN x).lvl,())
 |0,x,h,_,_,_=>by have:=zaR x;omega
 |n+1,x,hd,hm,he,hb=>by
  have a1:=zaR x;have a2:=zaA x;have amg: ∀l:Str,l.length<=1000->zfP l x.Name=some (zcb l x.Name,()):=λl hl=>zxR l _ (by omega) (by omega)
  have ih: ∀a r,x.L=a::r->zO a 101=true->(zcZ n).zb0 a=some ((tkN a).lvl,()):=λa r hL ho=>by
   rw[zuF,qz4]at ho;have hin:a∈x.L:=by rw[hL];exact qz7
   exact zKU n a (by have:=zaT hin;omega) ho.2 ho.1 (by have:=za7 hin;omega)
  show zna (zcZ n) x=_;rw[za0];show _=some (zjl x (tkL x.L),());unfold zna zjl;simp only[zq];rcases zgz he with h|h|h|h|h|h|h|h|h|h|h|h|h|h|h|h|h|h|h|h
  case inr.inr.inr.inr.inr.inr.inr.inr.inr.inl=>
   rw[zCi h,qz4]at hm;obtain⟨l,hL⟩: ∃l,x.L=l:=⟨_,rfl⟩
   rcases l with _| ⟨a,_| ⟨b,r⟩⟩
   ·rw[hL]at hm;simp[zaj]at hm
   ·rw[hL]at hm;have ho:zO a 101=true:=by simpa [zaj]using hm.2
    have:=ih a [] hL ho;simp only[h,hL,zCD,qz1,this,tkL];have e:(if(tkN a).lvl>11 then(tkN a).lvl else(11:Int))=max (tkN a).lvl 11:=by split<;>omega
    have e2:(if max (tkN a).lvl 11<12 then max (tkN a).lvl 11 else(12:Int))=min (max (tkN a).lvl 11) 12:=by split<;>omega
    rw[e,e2];rfl
   ·rw[hL]at hm;simp[zaj]at hm
  case inr.inr.inr.inr.inr.inr.inr.inr.inr.inr.inl=>
   rw[zDG h,qz4]at hm;obtain⟨l,hL⟩: ∃l,x.L=l:=⟨_,rfl⟩
   rcases l with _| ⟨a,r⟩
   ·rw[hL]at hm;simp[zaj]at hm
   ·rw[hL]at hm
    have ho:zO a 101=true:=by
     have:=hm.2;simp only[zaj,qz4]at this;exact this.1
    have:=ih a r hL ho;simp only[h,hL,zCD,qz1,this,tkL];have e:(if(tkN a).lvl>11 then(tkN a).lvl else(11:Int))=max (tkN a).lvl 11:=by split<;>omega
    have e2:(if max (tkN a).lvl 11<12 then max (tkN a).lvl 11 else(12:Int))=min (max (tkN a).lvl 11) 12:=by split<;>omega
    rw[e,e2];rfl
  case inr.inr.inr.inr.inr.inr.inr.inr.inr.inr.inr.inr.inr.inr.inl=>
   rw[zDf h,qz4]at hm;have hn:=(zaN hm.1).2;have:x.Num=0\/x.Num=1:=by simpa [zbH,h]using hn
   rw[h];have w:IntKind.wrap .i64 (10 -x.Num)=10 -x.Num:=wrap_i64 (by omega) (by omega);rw[w];rfl
  case inr.inr.inr.inr.inr.inr.inr.inr.inr.inr.inr.inr.inr.inr.inr.inl=>
   rw[h];have e5:=amg op5 (by decide);have e7:=amg op7 (by decide);have e8:=amg op8 (by decide);show Option.bind (zfP op5 x.Name) (λr=>if r.1=true then some (5,())else Option.bind (zfP op7 x.Name) λr=>if r.1=true then some (7,())else Option.bind (zfP op8 x.Name) λr=>if r.1=true then some (8,())else some (6,()))=_;rw[e5,e7,e8];simp only[qz1];cases zcb op5 x.Name<;>cases zcb op7 x.Name<;>cases zcb op8 x.Name<;>rfl
  case inr.inr.inr.inr.inr.inr.inr.inr.inr.inr.inr.inr.inr.inr.inr.inr.inl=>
   rw[zDs h,qz4]at hm;have hn:=(zaN hm.1).1;have:x.Name=[38,38]\/x.Name=[124,124]:=by simpa [zab,h,zAK]using hn
   rcases this with e|e<;>rw[h,e]<;>rfl
  all_goals (rw[h];rfl)
theorem zpX(x:Node)(hm:zat x=true)(he:zcu x.Kind=true)(hb:zU x<=2097152):zb0 x=some ((tkN x).lvl,()):=
 zKU _ x (by have:=zpd x;have:=zkL x;show zW x<=1000000000000;omega) hm he hb
end Go.D08
namespace Go.Gw
def zaX(k:Nat):UInt8:=if k<10 then UInt8.ofNat (48+k)else UInt8.ofNat (87+k)
def zdr(n:Nat):Str:=
 if n=34 then[92,34]else if n=92 then[92,92]else if n=8 then[92,98]else if n=9 then[92,116]else if n=10 then[92,110]else if n=12 then[92,102]else if n=13 then[92,114]
 else if n<32\/n>126 then[92,117,zaX (n/4096),zaX (n/256%16),zaX (n/16%16),zaX (n%16)]else[UInt8.ofNat n]
def zaO(l:List Nat):Str:=l.flatMap zdr
theorem zpU(n:Nat):(zdr n).length<=6:=by
 unfold zdr;split<;>(try split)<;>(try split)<;>(try split)<;>(try split)<;>(try split)<;>(try split)<;>(try split)<;>simp
theorem zl5(l:List Nat):(zaO l).length<=6*l.length:=by
 induction l with
 |nil=>simp[zaO]
 |cons n l ih=>unfold zaO at ih⊢;rw[List.flatMap_cons,qz5];have:=zpU n;simp only[qz3];omega
theorem zBf(l:List Nat)(n:Nat):zaO (l++[n])=zaO l++zdr n:=by simp[zaO]
def D36:Str:=[48,49,50,51,52,53,54,55,56,57,97,98,99,100,101,102,103,104,105,106,107,108,109,110,111,112,113,114,115,116,117,118,119,120,121,122]
theorem zTC: ∀k:Fin 16,D36[k.val]? =some (zaX k.val):=by decide
theorem zIC(k:Nat)(h:k<16):zaZ D36 (k:Int)=some (((zaX k).toNat:Nat):Int):=by
 rw[zmk,zTC ⟨k,h⟩];rfl
theorem zVU(x:Nat)(h:x<18446744073709551616):IntKind.wrap .u64 ((BitVec.ofInt 64 (x:Int)&&&BitVec.ofInt 64 15).toNat)=((x%16:Nat):Int):=by
 rw[BitVec.toNat_and];have e1:(BitVec.ofInt 64 (x:Int)).toNat=x:=by rw[BitVec.ofInt_natCast,BitVec.toNat_ofNat];omega
 have e2:(BitVec.ofInt 64 15).toNat=15:=rfl;have e3:x&&&15=x%16:=Nat.and_two_pow_sub_one_eq_mod x 4;rw[e1,e2,e3,wrap_u64 (by omega) (by omega)]
theorem zKx{α:Type}{m:Nat}{xs:List α}(h:xs.length=m)(i:Nat):zxy m xs (i:Int)=xs[i]? :=by unfold zxy;rw[yL h,zji]
theorem zwa(x p:Nat)(arr:List UInt8)(hx:16<=x)(hx2:x<1099511627776)(hp:1<=p)(hp2:p<=65)(ha:arr.length=65):
  zt.l1 4 ((x:Int),(p:Int),arr)=some (.inl (((x/16:Nat):Int),((p -1:Nat):Int),arr.set (p -1) (zaX (x%16)))):=by
 unfold zt.l1;have c:((x:Int)>=16):=by omega
 have hg:=zIC (x%16) (by omega);unfold D36 at hg;have w1:IntKind.wrap .i64 ((p:Int) -1)=((p -1:Nat):Int):=by rw[wrap_i64 (by omega) (by omega)];omega
 have hlt:p -1<arr.length:=by omega
 have hs:zEE .u64 (x:Int) (IntKind.wrap .u64 4)=some ((x/16:Nat):Int):=by
  have:IntKind.wrap .u64 4=4:=wrap_u64 (by omega) (by omega);unfold zEE;rw[this,yK (by omega)];have:(2:Int)^min (4:Int).toNat IntKind.u64.bits=16:=by decide
  rw[this];congr 1;have:=Int.fdiv_eq_ediv_of_nonneg (x:Int) (b:=16) (by omega);rw[this];omega
 simp only[c,decide_true,yB,zVU x (by omega),hg,qz1,w1,zKx ha,qz9 hlt,zH2,hs,zHr]
theorem zTh(n:Nat)(hn:n<65536):zcM ((n+65536:Nat):Int)=some [49,zaX (n/4096),zaX (n/256%16),zaX (n/16%16),zaX (n%16)]:=by
 unfold zcM zbS zt;have c: ¬(((n+65536:Nat):Int)<0):=by omega
 have w0:IntKind.wrap .u64 ((n+65536:Nat):Int)=((n+65536:Nat):Int):=wrap_u64 (by omega) (by omega);simp only[c,decide_false,qz2,yA,w0];unfold zt.j1 zbC zck zbZ;simp only[qz1,yB];have s1:=zwa (n+65536) 65 (List.replicate 65 0) (by omega) (by omega) (by omega) (by omega) (by simp);have s2:=zwa ((n+65536)/16) 64 ((List.replicate 65 0).set 64 (zaX ((n+65536)%16))) (by omega) (by omega) (by omega) (by omega) (by simp);have s3:=zwa ((n+65536)/16/16) 63 (((List.replicate 65 0).set 64 (zaX ((n+65536)%16))).set 63 (zaX ((n+65536)/16%16))) (by omega) (by omega) (by omega) (by omega) (by simp);have s4:=zwa ((n+65536)/16/16/16) 62 ((((List.replicate 65 0).set 64 (zaX ((n+65536)%16))).set 63 (zaX ((n+65536)/16%16))).set 62 (zaX ((n+65536)/16/16%16))) (by omega) (by omega) (by omega) (by omega) (by simp)
 have s5:zt.l1 4 ((((n+65536)/16/16/16/16:Nat):Int),((61:Nat):Int),((((List.replicate 65 (0:UInt8)).set 64 (zaX ((n+65536)%16))).set 63 (zaX ((n+65536)/16%16))).set 62 (zaX ((n+65536)/16/16%16))).set 61 (zaX ((n+65536)/16/16/16%16)))=
   some (.inr ((1:Int),(61:Int),((((List.replicate 65 (0:UInt8)).set 64 (zaX ((n+65536)%16))).set 63 (zaX ((n+65536)/16%16))).set 62 (zaX ((n+65536)/16/16%16))).set 61 (zaX ((n+65536)/16/16/16%16)))):=by
  have e:(n+65536)/16/16/16/16=1:=by omega
  rw[e];unfold zt.l1;have c: ¬(((1:Nat):Int)>=16):=by decide
  simp only[c,decide_false,qz2,yA];rfl
 have hl:ziu (zt.l1 4) (((n+65536:Nat):Int),65,List.replicate 65 (0:UInt8))=_:=(zwG s1).trans ((zwG s2).trans ((zwG s3).trans ((zwG s4).trans (zNp s5))));rw[hl];simp only[qz1]
 have hg:zaZ ([48,49,50,51,52,53,54,55,56,57,97,98,99,100,101,102,103,104,105,106,107,108,109,110,111,112,113,114,115,116,117,118,119,120,121,122]:Str) 1=some ((((49:UInt8).toNat:Nat):Int)):=by
  have:=zIC 1 (by decide);unfold D36 at this;exact this
 have w1:IntKind.wrap .i64 ((61:Int) -1)=((60:Nat):Int):=by decide
 rw[hg,w1];simp only[qz1];rw[zKx (by simp),zH2];have e1:(n+65536)%16=n%16:=by omega
 have e2:(n+65536)/16%16=n/16%16:=by omega
 have e3:(n+65536)/16/16%16=n/256%16:=by omega
 have e4:(n+65536)/16/16/16%16=n/4096:=by omega
 rw[e1,e2,e3,e4];generalize zaX (n%16)=d0;generalize zaX (n/16%16)=d1;generalize zaX (n/256%16)=d2;generalize zaX (n/4096)=d3;have hget:(((((List.replicate 65 (0:UInt8)).set 64 d0).set 63 d1).set 62 d2).set 61 d3)[60]? =some 0:=rfl;rw[hget];simp only[qz1,zHr];unfold zt.j2 zt.j3 zMA;simp only[qz2,yA];rw[yL (by simp)];have hcut:=zc8 ((((((List.replicate 65 (0:UInt8)).set 64 d0).set 63 d1).set 62 d2).set 61 d3).set 60 49) 60 (by simp);rw[hcut];rfl
def zLt(n:Nat):Int:=if n=8 then 0 else if n=9 then 1 else if n=10 then 2 else if n=12 then 3 else if n=13 then 4 else -1
theorem zS4: ∀n:Fin 128,Lib.indexByte [8,9,10,12,13] (UInt8.ofNat n.val)=zLt n.val:=by decide
theorem zUj(n:Nat)(h:n<65536):IntKind.wrap .i64 ((BitVec.ofInt 64 (n:Int)|||BitVec.ofInt 64 65536).toNat)=((n+65536:Nat):Int):=by
 rw[BitVec.toNat_or];have e1:(BitVec.ofInt 64 (n:Int)).toNat=n:=by rw[BitVec.ofInt_natCast,BitVec.toNat_ofNat];omega
 have e2:(BitVec.ofInt 64 65536).toNat=65536:=rfl
 have e3:n|||65536=n+65536:=by
  have:=Nat.shiftLeft_add_eq_or_of_lt (b:=n) (i:=16) h 1;rw[Nat.or_comm];have e:(1<<<16:Nat)=65536:=rfl;rw[e]at this;omega
 rw[e1,e2,e3,wrap_i64 (by omega) (by omega)]
end Go.Gw
namespace Go.D08
open Go Go.Gw Go.Dn
set_option maxRecDepth 100000
def zaq:Str->List Nat
 |a::b::r=>(a.toNat*256+b.toNat)::zaq r
 |_=>[]
theorem zfg: ∀u:Str,(zaq u).length=u.length/2
 | []=>rfl
 | [_]=>by simp[zaq]
 |a::b::r=>by simp only[zaq,qz3,zfg r];omega
theorem zmH: ∀(u:Str) (n:Nat),n∈zaq u->n<65536
 | [],_,h=>by cases h
 | [_],_,h=>by cases h
 |a::b::r,n,h=>by
  simp only[zaq,yP]at h;rcases h with h|h
  ·have:=a.toNat_lt;have:=b.toNat_lt;omega
  ·exact zmH r n h
theorem zqF: ∀(u:Str) (i:Nat),i<u.length/2->∃a b,u[2*i]? =some a/\u[2*i+1]? =some b/\(zaq u)[i]? =some (a.toNat*256+b.toNat)
 | [],i,h=>by simp at h
 | [_],i,h=>by simp at h
 |a::b::r,0,_=>⟨a,b,rfl,rfl,rfl⟩
 |a::b::r,i+1,h=>by
  obtain⟨x,y,h1,h2,h3⟩:=zqF r i (by simp only[qz3]at h;omega)
  refine⟨x,y,?_,?_,?_⟩
  ·have:2*(i+1)=2*i+1+1:=by omega
   rw[this];simpa using h1
  ·have:2*(i+1)+1=2*i+1+1+1:=by omega
   rw[this];simpa using h2
  ·simpa [zaq]using h3
theorem zza(u:Str)(h:u.length<9223372036854775808):zpG u=some (((u.length/2:Nat):Int),()):=by
 unfold zpG;have:Int.tdiv ((u.length:Nat):Int) 2=((u.length/2:Nat):Int):=rfl;rw[this,wrap_i64 (by omega) (by omega)]
def zDc(u:Str)(i:Int):Int:=if 0<=i then(match(zaq u)[i.toNat]? with|some n=>(n:Int)|none=> -1)else -1
theorem zNH(x y:Nat)(hx:x<256)(hy:y<256):IntKind.wrap .i64 ((BitVec.ofInt 64 (IntKind.wrap .i64 ((IntKind.wrap .i64 (x:Int))*2^8))|||BitVec.ofInt 64 (IntKind.wrap .i64 (y:Int))).toNat)=((x*256+y:Nat):Int):=by
 have e1:IntKind.wrap .i64 (x:Int)=(x:Int):=wrap_i64 (by omega) (by omega);have e2:IntKind.wrap .i64 (y:Int)=(y:Int):=wrap_i64 (by omega) (by omega);have e3:((x:Int)*2^8)=((x*256:Nat):Int):=by simp
 rw[e1,e2,e3,wrap_i64 (n:=((x*256:Nat):Int)) (by omega) (by omega),BitVec.toNat_or];have e4:(BitVec.ofInt 64 ((x*256:Nat):Int)).toNat=x*256:=by rw[BitVec.ofInt_natCast,BitVec.toNat_ofNat];omega
 have e5:(BitVec.ofInt 64 (y:Int)).toNat=y:=by rw[BitVec.ofInt_natCast,BitVec.toNat_ofNat];omega
 rw[e4,e5]
 have e6:x*256|||y=x*256+y:=by
  have:=Nat.shiftLeft_add_eq_or_of_lt (b:=y) (i:=8) hy x;rw[Nat.shiftLeft_eq]at this;exact this.symm
 rw[e6,wrap_i64 (by omega) (by omega)]
theorem zKs(u:Str)(i:Int)(h:u.length<4611686018427387904):zrC u i=some (zDc u i,()):=by
 unfold zrC zDc;by_cases h0:i<0
 ·have: ¬0<=i:=by omega
  simp[h0,this]
 ·have h0':0<=i:=by omega
  rw[zza u (by omega)];by_cases h1:i>=((u.length/2:Nat):Int)
  ·have:(zaq u)[i.toNat]? =none:=List.getElem?_eq_none (by rw[zfg];omega)
   simp only[h0,decide_false,qz2,yA,qz1,h1,decide_true,yB,h0',this]
  ·obtain⟨k,rfl⟩: ∃k:Nat,i=k:=⟨i.toNat,by omega⟩
   obtain⟨a,b,e1,e2,e3⟩:=zqF u k (by omega);have w1:IntKind.wrap .i64 (2*(k:Int))=((2*k:Nat):Int):=by rw[wrap_i64 (by omega) (by omega)];omega
   have w2:IntKind.wrap .i64 (((2*k:Nat):Int)+1)=((2*k+1:Nat):Int):=by rw[wrap_i64 (by omega) (by omega)];omega
   simp only[h0,decide_false,qz2,yA,qz1,h1,h0',yB,w1,w2,zmk,e1,e2,Option.map_some,zNH _ _ a.toNat_lt b.toNat_lt,Int.toNat_natCast,e3]
theorem zLC(u:Str)(k n:Nat)(h:(zaq u)[k]? =some n):zDc u (k:Int)=(n:Int):=by
 unfold zDc;rw[yL (by omega)];simp[h]
theorem zC4(n:Nat)(h:n<128):strings_IndexByte [8,9,10,12,13] (IntKind.wrap .u8 (n:Int))=some (zLt n,()):=by
 unfold strings_IndexByte zd3;have:IntKind.wrap .u8 (n:Int)=(n:Int):=wrap_u8 (by omega) (by omega);rw[this];have:=zS4 ⟨n,h⟩;simp only at this;simpa [zjx]using this
theorem fmt16(n:Nat)(hn:n<65536):zcI ((n+65536:Nat):Int) 16=some ([49,zaX (n/4096),zaX (n/256%16),zaX (n/16%16),zaX (n%16)],()):=by
 have:zcf ((n+65536:Nat):Int) 16=some [49,zaX (n/4096),zaX (n/256%16),zaX (n/16%16),zaX (n%16)]:=by
  unfold zcf;rw[yL rfl,zTh n hn]
 unfold zcI;rw[this];rfl
theorem zHG(u:Str)(len:Int)(k n:Nat)(acc:Str)(i:Int)(hk:k<1000000000)(hn:n<65536)(ha:acc.length<=100000000000)(hi:i=if n<128 then zLt n else -1):
  zfK u (n:Int) i len (k:Int) acc=some (.inl (u,len,((k+1:Nat):Int),acc++zdr n,())):=by
 have w1:IntKind.wrap .i64 ((k:Int)+1)=((k+1:Nat):Int):=by rw[wrap_i64 (by omega) (by omega)];omega
 have t92:toB 92=some 92:=rfl;unfold zdr;by_cases h1:n=34
 ·subst h1;have e:((((34:Nat):Int)==34)||(((34:Nat):Int)==92))=true:=rfl;have w:toB (IntKind.wrap .u8 ((34:Nat):Int))=some 34:=by rw[wrap_u8 (by omega) (by omega)];rfl
  simp only[zfK,e,yB,t92,w,qz1,w1];rw[zd6 (by simp;omega)]
  rfl
 ·by_cases h2:n=92
  ·subst h2;have e:((((92:Nat):Int)==34)||(((92:Nat):Int)==92))=true:=rfl;have w:toB (IntKind.wrap .u8 ((92:Nat):Int))=some 92:=by rw[wrap_u8 (by omega) (by omega)];rfl
   simp only[zfK,e,yB,t92,w,qz1,w1];rw[zd6 (by simp;omega)]
   rfl
  ·have c1:(((n:Int)==34)||((n:Int)==92))=false:=by simp only[Bool.or_eq_false_iff,yH];omega
   simp only[zfK,c1,qz2,yA,h1,h2]
   have small: ∀(j:Nat) (b:UInt8),i=(j:Int)->([98,116,110,102,114]:Str)[j]? =some b->ziL u (n:Int) i len (k:Int) acc=some (.inl (u,len,((k+1:Nat):Int),acc++[92,b],())):=by
    intro j b hj hb;subst hj;have c:((j:Int)>=0):=by omega
    simp only[ziL,c,decide_true,yB,zmk,hb,Option.map_some,qz1,t92,zH2,w1];rw[zd6 (by simp;omega)]
    rfl
   by_cases h8:n=8
   ·have e:i=((0:Nat):Int):=by rw[hi,h8];rfl
    simpa [h8]using small 0 98 e rfl
   ·by_cases h9:n=9
    ·have e:i=((1:Nat):Int):=by rw[hi,h9];rfl
     simpa [h9]using small 1 116 e rfl
    ·by_cases h10:n=10
     ·have e:i=((2:Nat):Int):=by rw[hi,h10];rfl
      simpa [h10]using small 2 110 e rfl
     ·by_cases h12:n=12
      ·have e:i=((3:Nat):Int):=by rw[hi,h12];rfl
       simpa [h12]using small 3 102 e rfl
      ·by_cases h13:n=13
       ·have e:i=((4:Nat):Int):=by rw[hi,h13];rfl
        simpa [h13]using small 4 114 e rfl
       ·have e:i= -1:=by rw[hi];unfold zLt;simp[h8,h9,h10,h12,h13]
        have c2: ¬((-1:Int)>=0):=by decide
        rw[e];simp only[ziL,zou,c2,decide_false,qz2,yA,h8,h9,h10,h12,h13];by_cases hx:n<32\/n>126
        ·have c3:(decide ((n:Int)<32)||decide ((n:Int)>126))=true:=by simp only[yQ,yT];omega
         have hc:zaI ([49,zaX (n/4096),zaX (n/256%16),zaX (n/16%16),zaX (n%16)]:Str) 1 ((([49,zaX (n/4096),zaX (n/256%16),zaX (n/16%16),zaX (n%16)]:Str).length:Nat):Int)=some [zaX (n/4096),zaX (n/256%16),zaX (n/16%16),zaX (n%16)]:=
          zc8 ([49,zaX (n/4096),zaX (n/256%16),zaX (n/16%16),zaX (n%16)]:Str) 1 (by simp)
         rw[yL hx,c3,yL rfl];simp only[zoB,zUj n hn,fmt16 n hn,qz1,hc,w1];rw[zoF (by simp)];simp only[qz1];rw[zd6 (by simp;omega)]
         rfl
        ·have c3:(decide ((n:Int)<32)||decide ((n:Int)>126))=false:=by simp only[Bool.or_eq_false_iff,decide_eq_false_iff_not];omega
         have w:IntKind.wrap .u8 (n:Int)=(n:Int):=wrap_u8 (by omega) (by omega);rw[yK hx,c3,yK (by simp),w,zN4 (by omega) (by omega)];simp only[qz1,w1,Int.toNat_natCast];rw[zd6 (by simp;omega)]
         rfl
theorem zDC(u:Str)(hu:u.length<=100000000): ∀(r:List Nat) (k:Nat),(zaq u).drop k=r->k<=(zaq u).length->
  zaF zgW (r.length+1) (u,(((zaq u).length:Nat):Int),(k:Int),34::zaO ((zaq u).take k),())=some ((34::zaO (zaq u))++[34],0,())
 | [],k,hr,hk=>by
  have hl:=zfg u;have hk2:k=(zaq u).length:=by have:=congrArg List.length hr;simp at this;omega
  have hq:=zl5 (zaq u);subst hk2;refine zaL ?_;have hi: ¬((((zaq u).length:Nat):Int)< (((zaq u).length:Nat):Int)):=by omega
  simp only[zgW,hi,decide_false,qz2,yA,List.take_length];rw[zd6 (by simp only[qz3,qz6];omega)]
  rfl
 |n::r,k,hr,hk=>by
  have hl:=zfg u
  have hlt:k< (zaq u).length:=by
   rcases Nat.lt_or_ge k (zaq u).length with h|h
   ·exact h
   ·rw[List.drop_of_length_le h]at hr;cases hr
  rw[List.drop_eq_getElem_cons hlt]at hr;have hn:(zaq u)[k]=n:=by cases hr;rfl
  have h2:(zaq u).drop (k+1)=r:=by cases hr;rfl
  have hget:(zaq u)[k]? =some n:=by rw[qz9 hlt,hn]
  have hn2:n<65536:=zmH u n (List.mem_of_getElem? hget);have hi:decide ((k:Int)< (((zaq u).length:Nat):Int))=true:=by simpa using by omega
  have hat:zrC u (k:Int)=some ((n:Int),()):=by rw[zKs u _ (by omega),zLC u k n hget]
  have hq:=zl5 ((zaq u).take k);rw[List.length_take]at hq
  have hnext:(34::zaO ((zaq u).take k))++zdr n=34::zaO ((zaq u).take (k+1)):=by
   rw[List.take_add_one,hget,Option.toList_some,zBf];rfl
  have hstep:zgW (u,(((zaq u).length:Nat):Int),(k:Int),34::zaO ((zaq u).take k),())=some (.inl (u,(((zaq u).length:Nat):Int),((k+1:Nat):Int),34::zaO ((zaq u).take (k+1)),())):=by
   simp only[zgW,hi,yB,hat,qz1];by_cases h128:n<128
   ·have c2:decide ((n:Int)<128)=true:=by simpa using by omega
    simp only[c2,yB,zC4 n h128,qz1];rw[zHG u _ k n _ _ (by omega) hn2 (by simp only[qz3];omega) (by rw[yL h128]),hnext]
   ·have c2:decide ((n:Int)<128)=false:=by simpa using by omega
    simp only[c2,qz2,yA];rw[zHG u _ k n _ _ (by omega) hn2 (by simp only[qz3];omega) (by rw[yK h128]),hnext]
  rw[qz3,zbV hstep,zDC u hu r (k+1) h2 (by omega)]
theorem zoy(u:Str)(hu:u.length<=100000000)(he:zhu u=true):zeK u=some (34::(zaO (zaq u)++[34]),0,()):=by
 have hl:=zfg u;unfold zeK;rw[zvf u (by omega)];simp only[qz1,he,yO,qz2,yA];rw[zza u (by omega)];simp only[qz1];have:=zDC u hu (zaq u) 0 rfl (Nat.zero_le _);rw[hl]at this;exact zdy (n:=(zaq u).length+1) (by rw[hl];exact this) (by omega)
theorem zIo(u:Str):(34::(zaO (zaq u)++[34]):Str).length<=3*u.length+2:=by
 have:=zl5 (zaq u);have:=zfg u;simp only[qz3,qz5,qz6];omega
def Wr(f:Bool->List Str->Option (Bool×List Str×Unit))(t:Bool->List Str):Prop:=
 ∀no l,l.length+(t no).length<=274877906944->f no l=some (no,l++t no,())
theorem zar(t:List Str)(no:Bool)(l:List Str)(h:l.length+t.length<=274877906944):zn t no l=some (no,l++t,()):=by
 unfold zn;rw[zd6 h];rfl
theorem zz3(s:Str)(hs:s.length<=100000000)(he:zhu s=true):zeK s=some (zdm s,0,()):=by
 unfold zdm;rw[zoy s hs he]
section
variable {g:zi}
theorem zSq{y:Node}{least:Int}(hl:zb0 y=some ((tkN y).lvl,()))(he:Wr (g.zcw y) (tkN y).ex)
  (hin: ∀no l,l.length+([40]::((tkN y).ex false++[[41]]):List Str).length<=274877906944->g.zcQ [40] [41] no l y=some (no,l++([40]::((tkN y).ex false++[[41]])),y,())):
  Wr (zhe g y least) (atT (tkN y) least):=by
 intro no l hlen;have hx:(tkN y).x=y:=by rw[za0];rfl
 unfold zhe;unfold atT at hlen⊢;rw[hx]at hlen⊢;simp only[zq,hl,qz1];split at hlen
 ·rename_i hc;rw[yL hc,yL hc,hin no l hlen];rfl
 ·rename_i hc;rw[yK hc,yK hc,he no l hlen];rfl
theorem zJ3{y:Node}{a b:Str}(he: ∀no l,l.length+((tkN y).ex no).length<=274877906944->g.zdK no l y=some (no,l++(tkN y).ex no,y,()))(no:Bool)(l:List Str)
  (hlen:l.length+(a::((tkN y).ex false++[b]):List Str).length<=274877906944):zeX g a b no l y=some (no,l++(a::((tkN y).ex false++[b])),y,()):=by
 simp only[qz3,qz5,qz6]at hlen;unfold zeX;rw[zar _ _ _ (by simp only[qz3,qz6];omega)]
 simp only[qz1,zq];rw[he false _ (by simp only[qz5,qz3,qz6];omega)]
 simp only[qz1];rw[zar _ _ _ (by simp only[qz5,qz3,qz6];omega)]
 simp
theorem zOU{y:Node}{w:Str}(ha:Wr (g.zD y 0) (atT (tkN y) 0))(l:List Str)(hlen:l.length+(zc6 w (tkN y)).length<=274877906944):
  zfW g w y false l=some (false,l++zc6 w (tkN y),()):=by
 simp only[zc6,qz3,qz5,qz6]at hlen;unfold zfW;rw[zar _ _ _ (by simp only[qz3,qz6];omega)]
 simp only[qz1,zq];rw[ha false _ (by simp only[qz5,qz3,qz6];omega)]
 simp only[qz1];rw[zar _ _ _ (by simp only[qz5,qz3,qz6];omega)]
 simp[zc6]
theorem zLV(ls:List Node)(hls:ls.length<=1000000000)(hs: ∀y∈ls,∀l:List Str,l.length+(tkN y).st.length<=274877906944->g.zaf y false l=some (false,l++(tkN y).st,()))(l:List Str)
  (hlen:l.length+(zY (tkL ls)).length<=274877906944):zhw g ls false l=some (false,l++zY (tkL ls),()):=by
 have key: ∀(r:List Node) (i:Nat) (l:List Str),ls.drop i=r->l.length+(zY (tkL r)).length<=274877906944->
   zaF (zdO g) (r.length+1) (ls,((ls.length:Nat):Int),(i:Int),false,l,())=some (false,l++zY (tkL r),()):=by
  intro r;induction r with
  |nil=>
   intro i l hr _
   have hi: ¬((i:Int)< (ls.length:Int)):=by
    have:=congrArg List.length hr;simp at this;omega
   refine zaL ?_;simp[zdO,hi,zY,tkL]
  |cons y r ih=>
   intro i l hr hb;obtain⟨h1,h2,h3⟩:=zh7 hr;have hi:decide ((i:Int)< (ls.length:Int))=true:=by simpa using by omega
   have hm:y∈ls:=List.mem_of_mem_drop (hr▸qz7);have e:zY (tkL (y::r))=(tkN y).st++zY (tkL r):=by simp[zY,tkL]
   rw[e]at hb⊢;rw[qz5]at hb;have w:IntKind.wrap .i64 ((i:Int)+1)=((i+1:Nat):Int):=by rw[wrap_i64 (by omega) (by omega)];rfl
   have hstep:zdO g (ls,((ls.length:Nat):Int),(i:Int),false,l,())=some (.inl (ls,((ls.length:Nat):Int),((i+1:Nat):Int),false,l++(tkN y).st,())):=by
    simp only[zdO,hi,yB,h1,qz1,zq,hs y hm l (by omega),w]
   rw[qz3,zbV hstep,ih (i+1) _ h2 (by rw[qz5];omega),yE]
 exact zdy (n:=ls.length+1) (by simpa using key ls 0 l rfl hlen) (by omega)
theorem zN9{x:Node}(hx:x.L.length<=1000000000)(ha: ∀y∈x.L,∀l:List Str,l.length+(atT (tkN y) 0 false).length<=274877906944->g.zD y 0 false l=some (false,l++atT (tkN y) 0 false,()))(l:List Str)
  (hlen:l.length+((tkL x.L).flatMap (λk=>atT k 0 false)++[[59]]).length<=274877906944):
  Lp.loop (zcE g) (x.L,((x.L.length:Nat):Int),0,false,l,())=some (false,l++((tkL x.L).flatMap (λk=>atT k 0 false)++[[59]]),()):=by
 have key: ∀(r:List Node) (i:Nat) (l:List Str),x.L.drop i=r->l.length+((tkL r).flatMap (λk=>atT k 0 false)++[[59]]).length<=274877906944->
   zaF (zcE g) (r.length+1) (x.L,((x.L.length:Nat):Int),(i:Int),false,l,())=some (false,l++((tkL r).flatMap (λk=>atT k 0 false)++[[59]]),()):=by
  intro r;induction r with
  |nil=>
   intro i l hr hb
   have hi: ¬((i:Int)< (x.L.length:Int)):=by
    have:=congrArg List.length hr;simp at this;omega
   refine zaL ?_;simp only[tkL,List.flatMap_nil,List.nil_append]at hb⊢;simp only[zcE,hi,decide_false,qz2,yA];rw[zar _ _ _ hb];rfl
  |cons y r ih=>
   intro i l hr hb;obtain⟨h1,h2,h3⟩:=zh7 hr;have hi:decide ((i:Int)< (x.L.length:Int))=true:=by simpa using by omega
   have hm:y∈x.L:=List.mem_of_mem_drop (hr▸qz7);have e:(tkL (y::r)).flatMap (λk=>atT k 0 false)++[[59]]=atT (tkN y) 0 false++((tkL r).flatMap (λk=>atT k 0 false)++[[59]]):=by simp[tkL]
   rw[e]at hb⊢;rw[qz5]at hb;have w:IntKind.wrap .i64 ((i:Int)+1)=((i+1:Nat):Int):=by rw[wrap_i64 (by omega) (by omega)];rfl
   have hstep:zcE g (x.L,((x.L.length:Nat):Int),(i:Int),false,l,())=some (.inl (x.L,((x.L.length:Nat):Int),((i+1:Nat):Int),false,l++atT (tkN y) 0 false,())):=by
    simp only[zcE,hi,yB,h1,qz1,zq,ha y hm l (by omega),w]
   rw[qz3,zbV hstep,ih (i+1) _ h2 (by rw[qz5];omega),yE]
 exact zdy (n:=x.L.length+1) (by simpa using key x.L 0 l rfl hlen) (by omega)
def zb8(f:Tk->List Str)(ks:List Tk):List Str:=ks.flatMap λq=>[44]::f q
theorem zOd(ls:List Node)(hls:ls.length<=1000000000)
  (hit: ∀y∈ls,∀(i:Nat) (l:List Str),i<ls.length->l.length+(zah false (tkN y)).length<=274877906944->zfz g ls ((ls.length:Nat):Int) (i:Int) false l y=some (.inl (ls,((ls.length:Nat):Int),((i+1:Nat):Int),false,l++zah false (tkN y),())))
  (l:List Str) (hlen:l.length+(commas (zah false) (tkL ls)).length<=274877906944):zhZ g ls false l=some (false,l++commas (zah false) (tkL ls),()):=by
 have key: ∀(r:List Node) (i:Nat) (l:List Str),ls.drop i=r->0<i->l.length+(zb8 (zah false) (tkL r)).length<=274877906944->
   zaF (zcc g) (r.length+1) (ls,((ls.length:Nat):Int),(i:Int),false,l,())=some (false,l++zb8 (zah false) (tkL r),()):=by
  intro r;induction r with
  |nil=>
   intro i l hr _ _
   have hi: ¬((i:Int)< (ls.length:Int)):=by
    have:=congrArg List.length hr;simp at this;omega
   refine zaL ?_;simp[zcc,hi,zb8,tkL]
  |cons y r ih=>
   intro i l hr h0 hb;obtain⟨h1,h2,h3⟩:=zh7 hr;have hi:decide ((i:Int)< (ls.length:Int))=true:=by simpa using by omega
   have hp:decide ((i:Int)>0)=true:=by simpa using by omega
   have hm:y∈ls:=List.mem_of_mem_drop (hr▸qz7);have e:zb8 (zah false) (tkL (y::r))=[44]::(zah false (tkN y)++zb8 (zah false) (tkL r)):=by simp[zb8,tkL]
   rw[e]at hb⊢;simp only[qz3,qz5]at hb
   have hstep:zcc g (ls,((ls.length:Nat):Int),(i:Int),false,l,())=some (.inl (ls,((ls.length:Nat):Int),((i+1:Nat):Int),false,(l++[[44]])++zah false (tkN y),())):=by
    simp only[zcc,hi,yB,h1,hp,qz1,zq];rw[zar _ _ _ (by simp only[qz3,qz6];omega)]
    simp only[qz1];exact hit y hm i _ h3 (by simp only[qz5,qz3,qz6];omega)
   rw[qz3,zbV hstep,ih (i+1) _ h2 (by omega) (by simp only[qz5,qz3,qz6];omega)]
   simp
 refine zdy (n:=ls.length+1) ?_ (by omega);cases hl:ls with
 |nil=>
  refine zaL ?_;simp[zcc,commas,tkL]
 |cons y r=>
  rw[hl]at hlen;have e:commas (zah false) (tkL (y::r))=zah false (tkN y)++zb8 (zah false) (tkL r):=by simp[commas,zb8,tkL]
  rw[e]at hlen⊢;rw[qz5]at hlen;rw[<-hl];have hpos:0<ls.length:=by rw[hl];simp
  have hi:decide ((0:Int)< (ls.length:Int))=true:=by simpa using by omega
  have h1:zN ls 0=some y:=by rw[hl];rfl
  have h2:ls.drop 1=r:=by rw[hl];rfl
  have hstep:zcc g (ls,((ls.length:Nat):Int),0,false,l,())=some (.inl (ls,((ls.length:Nat):Int),((0+1:Nat):Int),false,l++zah false (tkN y),())):=by
   simp only[zcc,hi,yB,h1,qz1,zq];exact hit y (by rw[hl];exact qz7) 0 l hpos (by omega)
  have hn:ls.length=r.length+1:=by rw[hl];rfl
  rw[zbV hstep,hn];have:=key r (0+1) (l++zah false (tkN y)) h2 (by omega) (by rw[qz5];omega)
  rw[hn]at this;rw[this,yE]
end
theorem zMS{x:Node}(h:x.Kind=1)(no:Bool):(tkN x).ex no=[Lib.itoa x.Num]:=by rw[za0];show exT x _ _ no=_;unfold exT;rw[h];rfl
theorem zMb{x:Node}(h:x.Kind=2)(no:Bool):(tkN x).ex no=[zdm x.Text]:=by rw[za0];show exT x _ _ no=_;unfold exT;rw[h];rfl
theorem zL7{x:Node}(h:x.Kind=3)(no:Bool):(tkN x).ex no=[x.Name]:=by rw[za0];show exT x _ _ no=_;unfold exT;rw[h];rfl
theorem zLr{x:Node}(h:x.Kind=4)(no:Bool):(tkN x).ex no=[[116,104,105,115]]:=by rw[za0];show exT x _ _ no=_;unfold exT;rw[h];rfl
theorem zMy{x:Node}(h:x.Kind=5)(no:Bool):(tkN x).ex no=[[110,117,108,108]]:=by rw[za0];show exT x _ _ no=_;unfold exT;rw[h];rfl
theorem zIA{x:Node}(h:x.Kind=6)(no:Bool):(tkN x).ex no=[Lib.formatBool (x.Num==1)]:=by rw[za0];show exT x _ _ no=_;unfold exT;rw[h];rfl
theorem zBP{x:Node}(h:x.Kind=7)(no:Bool):(tkN x).ex no=[91]::(commas (zah false) (tkL x.L)++[[93]]):=by rw[za0];show exT x _ _ no=_;unfold exT;rw[h];rfl
theorem zB3{x:Node}(h:x.Kind=8)(no:Bool):(tkN x).ex no=[123]::(commas (zah false) (tkL x.L)++[[125]]):=by rw[za0];show exT x _ _ no=_;unfold exT;rw[h];rfl
theorem zv5{x:Node}(h:x.Kind=10)(no:Bool):(tkN x).ex no=zf7 x (tkL x.L):=by rw[za0];show exT x _ _ no=_;unfold exT;rw[h];rfl
theorem zGN{x:Node}(h:x.Kind=11)(no:Bool):(tkN x).ex no=k0 (tkL x.L) (λk=>atT k 11 no)++[[46],x.Name]:=by rw[za0];show exT x _ _ no=_;unfold exT;rw[h];rfl
theorem zGk{x:Node}(h:x.Kind=12)(no:Bool):(tkN x).ex no=k0 (tkL x.L) (λk=>atT k 11 no)++([91]::(k1 (tkL x.L) (λk=>atT k 0 false)++[[93]])):=by rw[za0];show exT x _ _ no=_;unfold exT;rw[h];rfl
theorem zGv{x:Node}(h:x.Kind=13)(no:Bool):(tkN x).ex no=k0 (tkL x.L) (λk=>atT k 11 no)++([40]::(commas (zah false) (tkL x.L).tail++[[41]])):=by rw[za0];show exT x _ _ no=_;unfold exT;rw[h];rfl
theorem zGK{x:Node}(h:x.Kind=14)(no:Bool):(tkN x).ex no=[110,101,119]::(k0 (tkL x.L) (λk=>atT k 12 no)++([40]::(commas (zah false) (tkL x.L).tail++[[41]]))):=by rw[za0];show exT x _ _ no=_;unfold exT;rw[h];rfl
theorem zGQ{x:Node}(h:x.Kind=15)(no:Bool):(tkN x).ex no=x.Name::k0 (tkL x.L) λk=>atT k 9 no:=by rw[za0];show exT x _ _ no=_;unfold exT;rw[h];rfl
theorem zDy{x:Node}(h:x.Kind=16)(no:Bool):(tkN x).ex no=(if(x.Num==1)=true then x.Name::k0 (tkL x.L) λk=>atT k 11 no else k0 (tkL x.L) (λk=>atT k 11 no)++[x.Name]):=by rw[za0];show exT x _ _ no=_;unfold exT;rw[h];rfl
theorem zGq{x:Node}(h:x.Kind=19)(no:Bool):(tkN x).ex no=k0 (tkL x.L) (λk=>atT k 3 no)++([63]::(k1 (tkL x.L) (λk=>atT k 1 false)++([58]::k2 (tkL x.L) λk=>atT k 1 no))):=by rw[za0];show exT x _ _ no=_;unfold exT;rw[h];rfl
theorem zGy{x:Node}(h:x.Kind=20)(no:Bool):(tkN x).ex no=k0 (tkL x.L) (λk=>atT k 11 no)++(x.Name::k1 (tkL x.L) λk=>atT k 1 no):=by rw[za0];show exT x _ _ no=_;unfold exT;rw[h];rfl
theorem zGu{x:Node}(h:x.Kind=21)(no:Bool):(tkN x).ex no=k0 (tkL x.L) (λk=>atT k 0 no)++([44]::k1 (tkL x.L) λk=>atT k 1 no):=by rw[za0];show exT x _ _ no=_;unfold exT;rw[h];rfl
theorem zGn{x:Node}(h:x.Kind=17)(no:Bool):(tkN x).ex no=k0 (tkL x.L) (λk=>atT k (tkN x).lvl no)++(x.Name::k1 (tkL x.L) λk=>atT k ((tkN x).lvl+1) no):=by rw[za0];show exT x _ _ no=_;unfold exT;rw[h];rfl
theorem zGl{x:Node}(h:x.Kind=18)(no:Bool):(tkN x).ex no=k0 (tkL x.L) (λk=>atT k (tkN x).lvl no)++(x.Name::k1 (tkL x.L) λk=>atT k ((tkN x).lvl+1) no):=by rw[za0];show exT x _ _ no=_;unfold exT;rw[h];rfl
theorem zGH{x:Node}(h:x.Kind=22):(tkN x).st=([118,97,114]::commas (declT false) (tkL x.L))++[[59]]:=by rw[za0];show stT x _=_;unfold stT;rw[h];rfl
theorem zGD{x:Node}(h:x.Kind=24):(tkN x).st=zb1 (k0 (tkL x.L) λk=>atT k 0 false)++[[59]]:=by rw[za0];show stT x _=_;unfold stT;rw[h];rfl
theorem zC0{x:Node}(h:x.Kind=25):(tkN x).st=[123]::(zY (tkL x.L)++[[125]]):=by rw[za0];show stT x _=_;unfold stT;rw[h];rfl
theorem zAW{x:Node}(h:x.Kind=26):(tkN x).st=k0 (tkL x.L) (zc6 [105,102])++(k1 (tkL x.L) Tk.st++k2 (tkL x.L) λk=>[101,108,115,101]::k.st):=by rw[za0];show stT x _=_;unfold stT;rw[h];rfl
theorem zL6{x:Node}(h:x.Kind=27):(tkN x).st=k0 (tkL x.L) (zc6 [119,104,105,108,101])++k1 (tkL x.L) Tk.st:=by rw[za0];show stT x _=_;unfold stT;rw[h];rfl
theorem zMG{x:Node}(h:x.Kind=28):(tkN x).st=[100,111]::(k0 (tkL x.L) Tk.st++(k1 (tkL x.L) (zc6 [119,104,105,108,101])++[[59]])):=by rw[za0];show stT x _=_;unfold stT;rw[h];rfl
theorem zLU{x:Node}(h:x.Kind=29):(tkN x).st=[102,111,114]::[40]::(k0 (tkL x.L) (λk=>zaG k 0 true)++([59]::(k1 (tkL x.L) (λk=>zaG k 0 false)++([59]::(k2 (tkL x.L) (λk=>zaG k 0 false)++([41]::k3 (tkL x.L) Tk.st)))))):=by rw[za0];show stT x _=_;unfold stT;rw[h];rfl
theorem zMk{x:Node}(h:x.Kind=30):(tkN x).st=[102,111,114]::[40]::(k0 (tkL x.L) (λk=>zaG k 11 true)++([105,110]::(k1 (tkL x.L) (λk=>atT k 0 false)++([41]::k2 (tkL x.L) Tk.st)))):=by rw[za0];show stT x _=_;unfold stT;rw[h];rfl
theorem zMn{x:Node}(h:x.Kind=35):(tkN x).st=[116,114,121]::(k0 (tkL x.L) Tk.st++(k1 (tkL x.L) (λk=>if(k.x.Kind==25)=true then[99,97,116,99,104]::[40]::x.Name::[41]::k.st else[])++k2 (tkL x.L) λk=>if(k.x.Kind==25)=true then[102,105,110,97,108,108,121]::k.st else[])):=by rw[za0];show stT x _=_;unfold stT;rw[h];rfl
theorem zMe{x:Node}(h:x.Kind=36):(tkN x).st=k0 (tkL x.L) (zc6 [115,119,105,116,99,104])++([123]::(zY (tkL x.L).tail++[[125]])):=by rw[za0];show stT x _=_;unfold stT;rw[h];rfl
theorem zMq{x:Node}(h:x.Kind=37):(tkN x).st=k0 (tkL x.L) (λk=>(if(k.x.Kind !=42)=true then[99,97,115,101]else[100,101,102,97,117,108,116])::zaG k 0 false)++([58]::zY (tkL x.L).tail):=by rw[za0];show stT x _=_;unfold stT;rw[h];rfl
theorem zMr{x:Node}(h:x.Kind=38):(tkN x).st=x.Name::[58]::k0 (tkL x.L) Tk.st:=by rw[za0];show stT x _=_;unfold stT;rw[h];rfl
theorem zMB{x:Node}(h:x.Kind=39):(tkN x).st=zf7 x (tkL x.L):=by rw[za0];show stT x _=_;unfold stT;rw[h];rfl
theorem zMI{x:Node}(h:x.Kind=31):(tkN x).st=zhx x++((tkL x.L).flatMap (λk=>atT k 0 false)++[[59]]):=by rw[za0];show stT x _=_;unfold stT;rw[h];rfl
theorem zMc{x:Node}(h:x.Kind=32):(tkN x).st=zhx x++((tkL x.L).flatMap (λk=>atT k 0 false)++[[59]]):=by rw[za0];show stT x _=_;unfold stT;rw[h];rfl
theorem zGE{x:Node}(h:x.Kind=33):(tkN x).st=zhx x++((tkL x.L).flatMap (λk=>atT k 0 false)++[[59]]):=by rw[za0];show stT x _=_;unfold stT;rw[h];rfl
theorem zLQ{x:Node}(h:x.Kind=34):(tkN x).st=zhx x++((tkL x.L).flatMap (λk=>atT k 0 false)++[[59]]):=by rw[za0];show stT x _=_;unfold stT;rw[h];rfl
theorem zMl{x:Node}(h:x.Kind=40):(tkN x).st=zhx x++((tkL x.L).flatMap (λk=>atT k 0 false)++[[59]]):=by rw[za0];show stT x _=_;unfold stT;rw[h];rfl
theorem zVx{x:Node}(no:Bool):(tkN x).ex no=exT x (tkN x).lvl (tkL x.L) no:=by rw[za0];rfl
theorem zdC(x:Node):(tkN x).x=x:=by rw[za0];rfl
theorem zjH(x:Node):(tkN x).kids=tkL x.L:=by rw[za0];rfl
theorem tk0(a:Node)(r:List Node)(f:Tk->List Str):k0 (tkL (a::r)) f=f (tkN a):=by simp[tkL,k0]
theorem tk1(a b:Node)(r:List Node)(f:Tk->List Str):k1 (tkL (a::b::r)) f=f (tkN b):=by simp[tkL,k1]
theorem tk2(a b c:Node)(r:List Node)(f:Tk->List Str):k2 (tkL (a::b::c::r)) f=f (tkN c):=by simp[tkL,k2]
theorem tk3(a b c d:Node)(r:List Node)(f:Tk->List Str):k3 (tkL (a::b::c::d::r)) f=f (tkN d):=by simp[tkL,k3]
theorem zPW(a b:Node)(f:Tk->List Str):k2 (tkL [a,b]) f=[]:=by simp[tkL,k2]
theorem tkT(a:Node)(r:List Node):(tkL (a::r)).tail=tkL r:=by simp[tkL]
def zkQ{α:Type}(f:α->List Str):List α->List Str
 | []=>[]
 |y::r=>f y++r.flatMap λq=>[44]::f q
theorem zzb(f:Tk->List Str)(ls:List Node):commas f (tkL ls)=zkQ (λy=>f (tkN y)) ls:=by
 cases ls with
 |nil=>simp[tkL,commas,zkQ]
 |cons y r=>simp[tkL,commas,zkQ,zAx,List.flatMap_map]
theorem zPd(ns:List Str):namesT ns=zkQ (λs=>[s]) ns:=by
 cases ns<;>rfl
theorem zDi{S R α:Type}(step:S->Option (S⊕R))(mk:Int->List Str->S)(xs:List α)(f:α->List Str)(tl:List Str)(fin:List Str->R)(hlen:xs.length<=1000000000)
  (h0: ∀y r,xs=y::r->∀l:List Str,l.length+(f y).length<=274877906944->step (mk 0 l)=some (.inl (mk 1 (l++f y))))
  (hs: ∀(i:Nat) (y:α),0<i->y∈xs->zN xs (i:Int)=some y->decide ((i:Int)< ((xs.length:Nat):Int))=true->decide ((i:Int)>0)=true->IntKind.wrap .i64 ((i:Int)+1)=((i+1:Nat):Int)->∀l:List Str,l.length+(f y).length+1<=274877906944->step (mk (i:Int) l)=some (.inl (mk ((i+1:Nat):Int) (l++[44]::f y))))
  (he:decide (((xs.length:Nat):Int)< ((xs.length:Nat):Int))=false->∀l:List Str,l.length+tl.length<=274877906944->step (mk ((xs.length:Nat):Int) l)=some (.inr (fin (l++tl))))
  (l:List Str) (hb:l.length+(zkQ f xs++tl).length<=274877906944):Lp.loop step (mk 0 l)=some (fin (l++(zkQ f xs++tl))):=by
 have he:=he (by simp)
 have key: ∀(r:List α) (i:Nat) (l:List Str),xs.drop i=r->0<i->i<=xs.length->l.length+((r.flatMap λq=>[44]::f q)++tl).length<=274877906944->zaF step (r.length+1) (mk (i:Int) l)=some (fin (l++((r.flatMap λq=>[44]::f q)++tl))):=by
  intro r;induction r with
  |nil=>
   intro i l hr _ hi hb;have:i=xs.length:=by have:=congrArg List.length hr;simp at this;omega
   subst this;simp only[List.flatMap_nil,List.nil_append]at hb⊢;exact zaL (he l hb)
  |cons y r ih=>
   intro i l hr hi0 hi hb;obtain⟨h1,h2,h3⟩:=zh7 hr;have hm:y∈xs:=List.mem_of_mem_drop (hr▸qz7);have e:((y::r).flatMap λq=>[44]::f q)++tl=([44]::f y)++((r.flatMap λq=>[44]::f q)++tl):=by simp
   rw[e]at hb⊢;rw[qz5,qz3]at hb;have hstep:=hs i y hi0 hm h1 (by simpa using by omega) (by simpa using by omega) (by rw[wrap_i64 (by omega) (by omega)];rfl) l (by omega)
   rw[qz3,zbV hstep,ih (i+1) _ h2 (by omega) (by omega) (by rw[qz5,qz3];omega),yE]
 refine zdy (n:=xs.length+1) ?_ (by omega);cases hx:xs with
 |nil=>
  rw[hx]at he hb;exact zaL (he l (by simpa [zkQ]using hb))
 |cons y r=>
  rw[hx]at hb;have e:zkQ f (y::r)++tl=f y++((r.flatMap λq=>[44]::f q)++tl):=by simp[zkQ]
  rw[e]at hb⊢;rw[qz5]at hb;have hn:xs.length=r.length+1:=by rw[hx];rfl
  have:=key r 1 (l++f y) (by rw[hx];rfl) (by omega) (by omega) (by rw[qz5];omega)
  rw[zbV (h0 y r hx l (by omega)),<-yE l];exact this
def zdL(y:Node):Bool:=zO y 101||zO y 112
def zhH(y:Node):Bool:=zO y 120||zO y 107
def ziT(y:Node):Bool:=zO y 118
structure zbw (g:zi) (n:Nat):Prop where
 at_: ∀(y:Node) (least:Int),20*zW y+10<=n->zO y 101=true->zU y<=2097152->Wr (g.zD y least) (atT (tkN y) least)
 inside: ∀(y:Node) (a b:Str) (no:Bool) (l:List Str),20*zW y+9<=n->zO y 101=true->zU y<=2097152->l.length+(a::((tkN y).ex false++[b]):List Str).length<=274877906944->g.zcQ a b no l y=some (no,l++(a::((tkN y).ex false++[b])),y,())
 at1: ∀(y:Node) (no:Bool) (l:List Str),20*zW y+8<=n->zO y 101=true->zU y<=2097152->l.length+((tkN y).ex no).length<=274877906944->g.zdK no l y=some (no,l++(tkN y).ex no,y,())
 expr: ∀(y:Node),20*zW y+7<=n->zO y 101=true->zU y<=2097152->Wr (g.zcw y) (tkN y).ex
 arr: ∀(y:Node) (a b:Str) (no:Bool) (l:List Str),20*zW y+6<=n->(∀k∈y.L,zdL k=true)->zU y<=2097152->l.length+(a::(commas (zah false) (tkL y.L)++[b]):List Str).length<=274877906944->g.zbP a b no l y=some (no,l++(a::(commas (zah false) (tkL y.L)++[b])),y,())
 arr1: ∀(y:Node) (l:List Str),20*zW y+5<=n->(∀k∈y.L,zdL k=true)->zU y<=2097152->l.length+(commas (zah false) (tkL y.L)).length<=274877906944->g.zdJ false l y=some (false,l++commas (zah false) (tkL y.L),y,())
 obj: ∀(y:Node) (a b:Str) (no:Bool) (l:List Str),20*zW y+6<=n->(∀k∈y.L,zdL k=true)->zU y<=2097152->l.length+(a::(commas (zah false) (tkL y.L)++[b]):List Str).length<=274877906944->g.zch a b no l y=some (no,l++(a::(commas (zah false) (tkL y.L)++[b])),y,())
 obj1: ∀(y:Node) (l:List Str),20*zW y+5<=n->(∀k∈y.L,zdL k=true)->zU y<=2097152->l.length+(commas (zah false) (tkL y.L)).length<=274877906944->g.zdA false l y=some (false,l++commas (zah false) (tkL y.L),y,())
 list: ∀(ls:List Node) (l:List Str),20*za9 ls+12<=n->(∀k∈ls,zdL k=true)->zaJ ls<=2097152->l.length+(commas (zah false) (tkL ls)).length<=274877906944->g.zb9 ls false l=some (false,l++commas (zah false) (tkL ls),())
 func: ∀(y:Node),20*zW y+6<=n->(∀k∈y.L,zhH k=true)->zU y<=2097152->Wr (g.zbs y) (λ_=>zf7 y (tkL y.L))
 body: ∀(y:Node) (a b:Str) (no:Bool) (l:List Str),20*zW y+5<=n->(∀k∈y.L,zhH k=true)->zU y<=2097152->l.length+(a::(zY (tkL y.L)++[b]):List Str).length<=274877906944->g.zci a b no l y=some (no,l++(a::(zY (tkL y.L)++[b])),y,())
 body1: ∀(y:Node) (l:List Str),20*zW y+4<=n->(∀k∈y.L,zhH k=true)->zU y<=2097152->l.length+(zY (tkL y.L)).length<=274877906944->g.zcB false l y=some (false,l++zY (tkL y.L),y,())
 op: ∀(y:Node),20*zW y+6<=n->11<=y.Kind->zO y 101=true->zU y<=2097152->Wr (g.zcg y) (tkN y).ex
 idx: ∀(x y:Node) (r:List Node) (a b:Str) (no:Bool) (l:List Str),20*zW y+12<=n->zO y 101=true->zU y<=2097152->l.length+(a::(atT (tkN y) 0 false++[b]):List Str).length<=274877906944->g.zbT a b no l (x::y::r)=some (no,l++(a::(atT (tkN y) 0 false++[b])),x::y::r,())
 idx1: ∀(x y:Node) (r:List Node) (l:List Str),20*zW y+11<=n->zO y 101=true->zU y<=2097152->l.length+(atT (tkN y) 0 false).length<=274877906944->g.zcq false l (x::y::r)=some (false,l++atT (tkN y) 0 false,x::y::r,())
 arg: ∀(x:Node) (r:List Node) (a b:Str) (no:Bool) (l:List Str),20*za9 r+14<=n->(∀k∈r,zdL k=true)->zaJ (x::r)<=2097152->l.length+(a::(commas (zah false) (tkL r)++[b]):List Str).length<=274877906944->g.zbm a b no l (x::r)=some (no,l++(a::(commas (zah false) (tkL r)++[b])),x::r,())
 arg1: ∀(x:Node) (r:List Node) (l:List Str),20*za9 r+13<=n->(∀k∈r,zdL k=true)->zaJ (x::r)<=2097152->l.length+(commas (zah false) (tkL r)).length<=274877906944->g.zco false l (x::r)=some (false,l++commas (zah false) (tkL r),x::r,())
 thn: ∀(x y:Node) (r:List Node) (a b:Str) (no:Bool) (l:List Str),20*zW y+12<=n->zO y 101=true->zU y<=2097152->l.length+(a::(atT (tkN y) 1 false++[b]):List Str).length<=274877906944->g.zcl a b no l (x::y::r)=some (no,l++(a::(atT (tkN y) 1 false++[b])),x::y::r,())
 thn1: ∀(x y:Node) (r:List Node) (l:List Str),20*zW y+11<=n->zO y 101=true->zU y<=2097152->l.length+(atT (tkN y) 1 false).length<=274877906944->g.zcp false l (x::y::r)=some (false,l++atT (tkN y) 1 false,x::y::r,())
 head: ∀(y:Node) (w:Str) (l:List Str),20*zW y+11<=n->zO y 101=true->zU y<=2097152->l.length+(zc6 w (tkN y)).length<=274877906944->g.za4 w y false l=some (false,l++zc6 w (tkN y),())
 begin_: ∀(y:Node) (least:Int),20*zW y+11<=n->ziT y=true->zU y<=2097152->Wr (g.za3 y least) (zaG (tkN y) least)
 loop: ∀(y:Node) (l:List Str),20*zW y+12<=n->27<=y.Kind->y.Kind<=30->zat y=true->zU y<=2097152->l.length+(tkN y).st.length<=274877906944->g.zca y false l=some (false,l++(tkN y).st,())
 word: ∀(y:Node) (l:List Str),20*zW y+12<=n->(y.Kind=31\/y.Kind=32\/y.Kind=33\/y.Kind=34\/y.Kind=40)->zat y=true->zU y<=2097152->l.length+(tkN y).st.length<=274877906944->g.zdI y false l=some (false,l++(tkN y).st,())
 stmt: ∀(y:Node) (l:List Str),20*zW y+14<=n->zhH y=true->zU y<=2097152->l.length+(tkN y).st.length<=274877906944->g.zaf y false l=some (false,l++(tkN y).st,())
 stmts: ∀(ls:List Node) (l:List Str),20*za9 ls+15<=n->(∀k∈ls,zhH k=true)->zaJ ls<=2097152->l.length+(zY (tkL ls)).length<=274877906944->g.zaU ls false l=some (false,l++zY (tkL ls),())
theorem zbY{y:Node}{c:UInt8}(h:zO y c=true):zat y=true:=by
 unfold zO at h;rw[qz4]at h;exact h.2
theorem zcN{y:Node}(h:zO y 101=true):zcu y.Kind=true/\zat y=true:=by
 rw[zuF,qz4]at h;exact h
theorem zra{y:Node}(h:zO y 116=true):zO y 101=true:=by
 have h2:=zbY h
 have h1:zdw y.Kind=true:=by
  unfold zO at h;rw[qz4]at h;exact h.1
 rw[zuF,h2,Bool.and_true];simp only[zdw,yQ,beq_iff_eq]at h1;rcases h1 with(h|h)|h<;>rw[h]<;>rfl
theorem zdq{c:UInt8}{l:List Node}(h:zaj [c] none l=true): ∃a,l=[a]/\zO a c=true:=by
 rcases l with _| ⟨a,_| ⟨b,r⟩⟩<;>simp[zaj]at h
 exact⟨a,rfl,h⟩
theorem zdT{c d:UInt8}{l:List Node}(h:zaj [c,d] none l=true): ∃a b,l=[a,b]/\zO a c=true/\zO b d=true:=by
 rcases l with _| ⟨a,_| ⟨b,_| ⟨q,r⟩⟩⟩<;>simp[zaj]at h
 exact⟨a,b,rfl,h⟩
theorem zr1{c d e:UInt8}{l:List Node}(h:zaj [c,d,e] none l=true): ∃a b q,l=[a,b,q]/\zO a c=true/\zO b d=true/\zO q e=true:=by
 rcases l with _| ⟨a,_| ⟨b,_| ⟨q,_| ⟨q2,r⟩⟩⟩⟩<;>simp[zaj]at h
 exact⟨a,b,q,rfl,h⟩
theorem zHP{c d e f:UInt8}{l:List Node}(h:zaj [c,d,e,f] none l=true): ∃a b q s,l=[a,b,q,s]/\zO a c=true/\zO b d=true/\zO q e=true/\zO s f=true:=by
 rcases l with _| ⟨a,_| ⟨b,_| ⟨q,_| ⟨q2,_| ⟨q3,r⟩⟩⟩⟩⟩<;>simp[zaj]at h
 exact⟨a,b,q,q2,rfl,h⟩
theorem zgr{l:List Node}(h:zaj [] none l=true):l=[]:=by
 simpa [zaj]using h
theorem zf2{c:UInt8}{l:List Node}(h:zaj [] (some c) l=true): ∀k∈l,zO k c=true:=by
 simpa [zaj]using h
theorem zhS{c d:UInt8}{l:List Node}(h:zaj [c] (some d) l=true): ∃a r,l=a::r/\zO a c=true/\∀k∈r,zO k d=true:=by
 rcases l with _| ⟨a,r⟩<;>simp[zaj]at h
 exact⟨a,r,rfl,h.1,h.2⟩
theorem zrO{x:Node}(h:zao x=true):zhu x.Text=true:=by
 simp only[zao,qz4]at h;exact h.2.1
theorem zE4{x:Node}(h:zao x=true)(hb:zU x<=2097152):zeK x.Text=some (zdm x.Text,0,()):=by
 have:=zaA x;exact zz3 _ (by omega) (zrO h)
theorem zvL{k:Node}(h:zO k 101=true):zdL k=true:=by unfold zdL;rw[h];rfl
theorem zOx{k:Node}(h:zO k 112=true):zdL k=true:=by unfold zdL;rw[h,Bool.or_true]
theorem zBE{k:Node}(h:zO k 120=true):zhH k=true:=by unfold zhH;rw[h];rfl
theorem zUE{k:Node}(h:zO k 107=true):zhH k=true:=by unfold zhH;rw[h,Bool.or_true]
theorem zBC{k:Node}(h:zO k 115=true):zhH k=true:=by
 refine zBE ?_;have h2:=zbY h
 have h1:stK k.Kind false=true:=by
  unfold zO at h;rw[qz4]at h;exact h.1
 show(stK k.Kind true&&zat k)=true;rw[h2,Bool.and_true];unfold stK at h1⊢;simp only[qz4]at h1⊢;exact⟨h1.1,by simp⟩
theorem ziE{k:Node}(h:zO k 98=true):zhH k=true:=by
 refine zBE ?_;have h2:=zbY h
 have h1:(k.Kind==25)=true:=by
  unfold zO at h;rw[qz4]at h;exact h.1
 show(stK k.Kind true&&zat k)=true;rw[h2,Bool.and_true,eq_of_beq h1];rfl
section
variable {g:zi} {n:Nat}
theorem w_at(G:zbw g n)(y:Node)(least:Int)(hd:20*zW y+10<=n+1)(ho:zO y 101=true)(hb:zU y<=2097152):Wr (zhe g y least) (atT (tkN y) least):=
 zSq (zpX y (zcN ho).2 (zcN ho).1 hb) (G.expr y (by omega) ho hb) (λno l h=>G.inside y _ _ no l (by omega) ho hb h)
theorem zQz(G:zbw g n)(y:Node)(a b:Str)(no:Bool)(l:List Str)(hd:20*zW y+9<=n+1)(ho:zO y 101=true)(hb:zU y<=2097152)(hlen:l.length+(a::((tkN y).ex false++[b]):List Str).length<=274877906944):zeX g a b no l y=some (no,l++(a::((tkN y).ex false++[b])),y,()):=
 zJ3 (λno l h=>G.at1 y no l (by omega) ho hb h) no l hlen
theorem zVv(G:zbw g n)(y:Node)(no:Bool)(l:List Str)(hd:20*zW y+8<=n+1)(ho:zO y 101=true)(hb:zU y<=2097152)(hlen:l.length+((tkN y).ex no).length<=274877906944):zhY g no l y=some (no,l++(tkN y).ex no,y,()):=by
 unfold zhY;simp only[zq,G.expr y (by omega) ho hb no l hlen,qz1]
theorem fmt10(i:Int)(h1:0<=i)(h2:i<=9007199254740991):zcI i 10=some (Lib.itoa i,()):=by
 have:zcf i 10=some (Lib.itoa i):=by
  unfold zcf;rw[yK (by decide),yL ⟨by omega,by omega,rfl⟩]
 unfold zcI;rw[this];rfl
theorem zUb(G:zbw g n)(y:Node)(hd:20*zW y+7<=n+1)(ho:zO y 101=true)(hb:zU y<=2097152):Wr (zh5 g y) (tkN y).ex:=by
 intro no l hlen;obtain⟨he,hm⟩:=zcN ho
 have hop:11<=y.Kind->Option.bind (g.zcg y no l) (λr=>some (r.1,r.2.1,()))=some (no,l++(tkN y).ex no,()):=λh=>by
  rw[G.op y (by omega) h ho hb no l hlen];rfl
 unfold zh5;simp only[zq];rcases zgz he with h|h|h|h|h|h|h|h|h|h|h|h|h|h|h|h|h|h|h|h
 case inl=>
  rw[zMa h,qz4]at hm;have hn:=(zaN hm.1).2;have:0<=y.Num/\y.Num<=9007199254740991:=by simpa [zbH,h]using hn
  rw[zMS h]at hlen⊢;rw[h,show Option.bind (zcI y.Num 10) _=_ from by rw[fmt10 y.Num this.1 this.2]];show Option.bind (zn [Lib.itoa y.Num] no l) _=_;rw[zar _ _ _ hlen];rfl
 case inr.inl=>
  rw[zM4 h,qz4]at hm;rw[zMb h]at hlen⊢;rw[h];show Option.bind (zeK y.Text) _=_;rw[zE4 hm.1 hb];show Option.bind (zn [zdm y.Text] no l) _=_;rw[zar _ _ _ hlen];rfl
 case inr.inr.inl=>
  rw[zL7 h]at hlen⊢;rw[h];show Option.bind (zn [y.Name] no l) _=_;rw[zar _ _ _ hlen];rfl
 case inr.inr.inr.inl=>
  rw[zLr h]at hlen⊢;rw[h];show Option.bind (zn [[116,104,105,115]] no l) _=_;rw[zar _ _ _ hlen];rfl
 case inr.inr.inr.inr.inl=>
  rw[zMy h]at hlen⊢;rw[h];show Option.bind (zn [[110,117,108,108]] no l) _=_;rw[zar _ _ _ hlen];rfl
 case inr.inr.inr.inr.inr.inl=>
  rw[zIA h]at hlen⊢;rw[h];show Option.bind (zn [Lib.formatBool (y.Num==1)] no l) _=_;rw[zar _ _ _ hlen];rfl
 case inr.inr.inr.inr.inr.inr.inl=>
  rw[zMR h,qz4]at hm;rw[zBP h]at hlen⊢;rw[h];show Option.bind (g.zbP [91] [93] no l y) _=_;rw[G.arr y _ _ no l (by omega) (λk hk=>zvL (zf2 hm.2 k hk)) hb hlen];rfl
 case inr.inr.inr.inr.inr.inr.inr.inl=>
  rw[zL8 h,qz4]at hm;rw[zB3 h]at hlen⊢;rw[h];show Option.bind (g.zch [123] [125] no l y) _=_;rw[G.obj y _ _ no l (by omega) (λk hk=>zOx (zf2 hm.2 k hk)) hb hlen];rfl
 case inr.inr.inr.inr.inr.inr.inr.inr.inl=>
  rw[zI3 h,qz4]at hm;rw[zv5 h]at hlen⊢;rw[h];show Option.bind (g.zbs y no l) _=_;rw[G.func y (by omega) (λk hk=>zBE (zf2 hm.2 k hk)) hb no l hlen];rfl
 all_goals (have hop:=hop (by omega);rw[h];exact hop)
theorem zT2(G:zbw g n)(y:Node)(l:List Str)(hd:20*zW y+5<=n+1)(hk: ∀k∈y.L,zdL k=true)(hb:zU y<=2097152)(hlen:l.length+(commas (zah false) (tkL y.L)).length<=274877906944):zgI g false l y=some (false,l++commas (zah false) (tkL y.L),y,()):=by
 have a1:=zaR y;have a2:=zaA y;unfold zgI;simp only[zq,G.list y.L l (by omega) hk (by omega) hlen,qz1]
theorem zUm(G:zbw g n)(y:Node)(l:List Str)(hd:20*zW y+5<=n+1)(hk: ∀k∈y.L,zdL k=true)(hb:zU y<=2097152)(hlen:l.length+(commas (zah false) (tkL y.L)).length<=274877906944):zgF g false l y=some (false,l++commas (zah false) (tkL y.L),y,()):=by
 have a1:=zaR y;have a2:=zaA y;unfold zgF;simp only[zq,G.list y.L l (by omega) hk (by omega) hlen,qz1]
theorem zRZ(G:zbw g n)(y:Node)(l:List Str)(hd:20*zW y+4<=n+1)(hk: ∀k∈y.L,zhH k=true)(hb:zU y<=2097152)(hlen:l.length+(zY (tkL y.L)).length<=274877906944):ze2 g false l y=some (false,l++zY (tkL y.L),y,()):=by
 have a1:=zaR y;have a2:=zaA y;unfold ze2;simp only[zq,G.stmts y.L l (by omega) hk (by omega) hlen,qz1]
theorem zVC(G:zbw g n)(y:Node)(a b:Str)(no:Bool)(l:List Str)(hd:20*zW y+6<=n+1)(hk: ∀k∈y.L,zdL k=true)(hb:zU y<=2097152)(hlen:l.length+(a::(commas (zah false) (tkL y.L)++[b]):List Str).length<=274877906944):zfm g a b no l y=some (no,l++(a::(commas (zah false) (tkL y.L)++[b])),y,()):=by
 unfold zfm;rw[zar _ _ _ (by simp only[qz5,qz3,qz6]at hlen⊢;omega)]
 simp only[qz1,zq];rw[G.arr1 y _ (by omega) hk hb (by simp only[qz5,qz3,qz6]at hlen⊢;omega)]
 simp only[qz1];rw[zar _ _ _ (by simp only[qz5,qz3,qz6]at hlen⊢;omega)]
 simp
theorem zWj(G:zbw g n)(y:Node)(a b:Str)(no:Bool)(l:List Str)(hd:20*zW y+6<=n+1)(hk: ∀k∈y.L,zdL k=true)(hb:zU y<=2097152)(hlen:l.length+(a::(commas (zah false) (tkL y.L)++[b]):List Str).length<=274877906944):zfu g a b no l y=some (no,l++(a::(commas (zah false) (tkL y.L)++[b])),y,()):=by
 unfold zfu;rw[zar _ _ _ (by simp only[qz5,qz3,qz6]at hlen⊢;omega)]
 simp only[qz1,zq];rw[G.obj1 y _ (by omega) hk hb (by simp only[qz5,qz3,qz6]at hlen⊢;omega)]
 simp only[qz1];rw[zar _ _ _ (by simp only[qz5,qz3,qz6]at hlen⊢;omega)]
 simp
theorem zVd(G:zbw g n)(y:Node)(a b:Str)(no:Bool)(l:List Str)(hd:20*zW y+5<=n+1)(hk: ∀k∈y.L,zhH k=true)(hb:zU y<=2097152)(hlen:l.length+(a::(zY (tkL y.L)++[b]):List Str).length<=274877906944):zfx g a b no l y=some (no,l++(a::(zY (tkL y.L)++[b])),y,()):=by
 unfold zfx;rw[zar _ _ _ (by simp only[qz5,qz3,qz6]at hlen⊢;omega)]
 simp only[qz1,zq];rw[G.body1 y _ (by omega) hk hb (by simp only[qz5,qz3,qz6]at hlen⊢;omega)]
 simp only[qz1];rw[zar _ _ _ (by simp only[qz5,qz3,qz6]at hlen⊢;omega)]
 simp
theorem zUv(G:zbw g n)(x y:Node)(r:List Node)(l:List Str)(hd:20*zW y+11<=n+1)(ho:zO y 101=true)(hb:zU y<=2097152)(hlen:l.length+(atT (tkN y) 0 false).length<=274877906944):zeD g false l (x::y::r)=some (false,l++atT (tkN y) 0 false,x::y::r,()):=by
 unfold zeD;simp only[zRw,qz1,zq,G.at_ y 0 (by omega) ho hb false l hlen]
theorem zU7(G:zbw g n)(x y:Node)(r:List Node)(l:List Str)(hd:20*zW y+11<=n+1)(ho:zO y 101=true)(hb:zU y<=2097152)(hlen:l.length+(atT (tkN y) 1 false).length<=274877906944):zeH g false l (x::y::r)=some (false,l++atT (tkN y) 1 false,x::y::r,()):=by
 unfold zeH;simp only[zRw,qz1,zq,G.at_ y 1 (by omega) ho hb false l hlen]
theorem zQC{α:Type}(a:α)(r:List α):zaI (a::r) 1 (((a::r).length:Nat):Int)=some r:=by
 have:=zc8 (a::r) 1 (by simp);simpa using this
theorem zT4(G:zbw g n)(x:Node)(r:List Node)(l:List Str)(hd:20*za9 r+13<=n+1)(hk: ∀k∈r,zdL k=true)(hb:zaJ (x::r)<=2097152)(hlen:l.length+(commas (zah false) (tkL r)).length<=274877906944):zeE g false l (x::r)=some (false,l++commas (zah false) (tkL r),x::r,()):=by
 have a2:zaJ (x::r)=zU x+zaJ r:=by simp[zaJ]
 unfold zeE;rw[zQC];simp only[qz1,zq,G.list r l (by omega) hk (by omega) hlen]
theorem zVT(G:zbw g n)(x y:Node)(r:List Node)(a b:Str)(no:Bool)(l:List Str)(hd:20*zW y+12<=n+1)(ho:zO y 101=true)(hb:zU y<=2097152)(hlen:l.length+(a::(atT (tkN y) 0 false++[b]):List Str).length<=274877906944):zfl g a b no l (x::y::r)=some (no,l++(a::(atT (tkN y) 0 false++[b])),x::y::r,()):=by
 unfold zfl;rw[zar _ _ _ (by simp only[qz5,qz3,qz6]at hlen⊢;omega)]
 simp only[qz1,zq];rw[G.idx1 x y r _ (by omega) ho hb (by simp only[qz5,qz3,qz6]at hlen⊢;omega)]
 simp only[qz1];rw[zar _ _ _ (by simp only[qz5,qz3,qz6]at hlen⊢;omega)]
 simp
theorem zVE(G:zbw g n)(x y:Node)(r:List Node)(a b:Str)(no:Bool)(l:List Str)(hd:20*zW y+12<=n+1)(ho:zO y 101=true)(hb:zU y<=2097152)(hlen:l.length+(a::(atT (tkN y) 1 false++[b]):List Str).length<=274877906944):zfq g a b no l (x::y::r)=some (no,l++(a::(atT (tkN y) 1 false++[b])),x::y::r,()):=by
 unfold zfq;rw[zar _ _ _ (by simp only[qz5,qz3,qz6]at hlen⊢;omega)]
 simp only[qz1,zq];rw[G.thn1 x y r _ (by omega) ho hb (by simp only[qz5,qz3,qz6]at hlen⊢;omega)]
 simp only[qz1];rw[zar _ _ _ (by simp only[qz5,qz3,qz6]at hlen⊢;omega)]
 simp
theorem zVJ(G:zbw g n)(x:Node)(r:List Node)(a b:Str)(no:Bool)(l:List Str)(hd:20*za9 r+14<=n+1)(hk: ∀k∈r,zdL k=true)(hb:zaJ (x::r)<=2097152)(hlen:l.length+(a::(commas (zah false) (tkL r)++[b]):List Str).length<=274877906944):zfn g a b no l (x::r)=some (no,l++(a::(commas (zah false) (tkL r)++[b])),x::r,()):=by
 unfold zfn;rw[zar _ _ _ (by simp only[qz5,qz3,qz6]at hlen⊢;omega)]
 simp only[qz1,zq];rw[G.arg1 x r _ (by omega) hk hb (by simp only[qz5,qz3,qz6]at hlen⊢;omega)]
 simp only[qz1];rw[zar _ _ _ (by simp only[qz5,qz3,qz6]at hlen⊢;omega)]
 simp
theorem zT5(G:zbw g n)(y:Node)(w:Str)(l:List Str)(hd:20*zW y+11<=n+1)(ho:zO y 101=true)(hb:zU y<=2097152)(hlen:l.length+(zc6 w (tkN y)).length<=274877906944):zfW g w y false l=some (false,l++zc6 w (tkN y),()):=
 zOU (G.at_ y 0 (by omega) ho hb) l hlen
theorem zR0(G:zbw g n)(ls:List Node)(l:List Str)(hd:20*za9 ls+15<=n+1)(hk: ∀k∈ls,zhH k=true)(hb:zaJ ls<=2097152)(hlen:l.length+(zY (tkL ls)).length<=274877906944):zhw g ls false l=some (false,l++zY (tkL ls),()):=
 zLV ls (by have:=zmy ls;omega) (λy hy l h=>G.stmt y l (by have:=zaT hy;omega) (hk y hy) (by have:=za7 hy;omega) h) l hlen
theorem zUc(G:zbw g n)(ls:List Node)(l:List Str)(hd:20*za9 ls+12<=n+1)(hk: ∀k∈ls,zdL k=true)(hb:zaJ ls<=2097152)(hlen:l.length+(commas (zah false) (tkL ls)).length<=274877906944):zhZ g ls false l=some (false,l++commas (zah false) (tkL ls),()):=by
 have a1:=zmy ls;refine zOd ls (by omega) (λy hy i l hi hlen=>?_) l hlen;have b1:=zaT hy;have b2:=za7 hy;have b3:=zaR y;have b4:=zaA y;have w:IntKind.wrap .i64 ((i:Int)+1)=((i+1:Nat):Int):=by rw[wrap_i64 (by omega) (by omega)];rfl
 have hi:=hk y hy;unfold zfz;unfold zah at hlen⊢;rw[zdC,zjH]at hlen⊢;by_cases h:y.Kind=9
 ·have hm:zat y=true:=by
   unfold zdL at hi;rw[yQ]at hi;rcases hi with h|h<;>exact zbY h
  rw[zMj h,qz4]at hm;obtain⟨a,hL,ha⟩:=zdq hm.2;have c1:a∈y.L:=by rw[hL];exact qz7
  have c2:=zaT c1;have c3:=za7 c1;rw[hL,tk0,h]at hlen⊢;have hlen:l.length+(zdm y.Text::[58]::atT (tkN a) 1 false:List Str).length<=274877906944:=hlen;show Option.bind (zeK y.Text) _=some (Sum.inl (ls,_,_,false,l++(zdm y.Text::[58]::atT (tkN a) 1 false),()));rw[zE4 hm.1 (by omega)];simp only[qz1,hL,zCD];rw[zar _ _ _ (by simp only[qz5,qz3,qz6]at hlen⊢;omega)]
  simp only[qz1,zq];rw[G.at_ a 1 (by omega) ha (by omega) false _ (by simp only[qz5,qz3,qz6]at hlen⊢;omega),w]
  simp
 ·have e:(y.Kind==9)=false:=by rw[yH];exact h
  have ho:zO y 101=true:=by
   unfold zdL at hi;rw[yQ]at hi;rcases hi with h1|h1
   ·exact h1
   ·exfalso;unfold zO at h1;rw[qz4]at h1;have:(y.Kind==9)=true:=h1.1;rw[e]at this;cases this
  rw[e]at hlen⊢;simp only[qz2,yA]at hlen⊢;rw[zq,G.at_ y 1 (by omega) ho (by omega) false l hlen,w];rfl
end
def Ok{α:Type}(f:Nat->PR α)(v:α×zB):Prop:=∃N,∀n,N<=n->f n=gt v
theorem Ok.ret{α:Type}(v:α×zB):Ok (λ_=>gt v) v:=⟨0,λ_ _=>rfl⟩
theorem Ok.up{α:Type}{f g:Nat->PR α}{v:α×zB}(hg:Ok g v)(h: ∀n,f (n+1)=g n):Ok f v:=by
 obtain⟨N,hN⟩:=hg;refine⟨N+1,λn hn=>?_⟩
 match n,hn with
 |m+1,hn=>exact(h m).trans (hN m (by omega))
theorem Ok.bind{α β:Type}{f:Nat->PR α}{g:α×zB->Nat->PR β}{a:α×zB}{b:β×zB}(h1:Ok f a)(h2:Ok (g a) b):Ok (λn=>(f n).bd λq=>g q n) b:=by
 obtain⟨N,hN⟩:=h1;obtain⟨M,hM⟩:=h2;refine⟨N+M,λn hn=>?_⟩;show(f n).bd _=_;rw[hN n (by omega)];exact hM n (by omega)
theorem Ok.eq{α:Type}{f g:Nat->PR α}{v:α×zB}(h:Ok g v)(e:f=g):Ok f v:=e▸h
abbrev EXPR(no:Bool)(t:zB)(v:Node×zB):Prop:=Ok (λn=>(pG n).expr no t) v
abbrev COMMA(no:Bool)(x:Node)(t:zB)(v:Node×zB):Prop:=Ok (λn=>(pG n).comma no x t) v
abbrev ASSIGN(no:Bool)(t:zB)(v:Node×zB):Prop:=Ok (λn=>(pG n).assign no t) v
abbrev BINARY(no:Bool)(l:Int)(t:zB)(v:Node×zB):Prop:=Ok (λn=>(pG n).binary no l t) v
abbrev zpN(no:Bool)(l:Int)(x:Node)(t:zB)(v:Node×zB):Prop:=Ok (λn=>(pG n).bins no l x t) v
abbrev zkp(t:zB)(v:Node×zB):Prop:=Ok (λn=>(pG n).unary t) v
abbrev zjb(calls:Bool)(x:Node)(t:zB)(v:Node×zB):Prop:=Ok (λn=>(pG n).mems calls x t) v
abbrev MADE(t:zB)(v:Node×zB):Prop:=Ok (λn=>(pG n).made t) v
abbrev zoH(t:zB)(v:Node×zB):Prop:=Ok (λn=>(pG n).prim t) v
abbrev zq0(s:Str)(last:Bool)(t:zB)(v:List Node×zB):Prop:=Ok (λn=>(pG n).exprs s last t) v
abbrev zxj(t:zB)(v:List Node×zB):Prop:=Ok (λn=>(pG n).props t) v
abbrev FUNC(k:Int)(t:zB)(v:Node×zB):Prop:=Ok (λn=>(pG n).func k t) v
abbrev VARS(no:Bool)(t:zB)(v:List Node×zB):Prop:=Ok (λn=>(pG n).vars no t) v
abbrev BLOCK(t:zB)(v:Node×zB):Prop:=Ok (λn=>(pG n).block t) v
abbrev HEAD(t:zB)(v:Node×zB):Prop:=Ok (λn=>(pG n).head t) v
abbrev TILL(s:Str)(t:zB)(v:Node×zB):Prop:=Ok (λn=>(pG n).till s t) v
abbrev LOOP(t:zB)(v:Node×zB):Prop:=Ok (λn=>(pG n).loop t) v
abbrev CASES(o:Bool)(t:zB)(v:List Node×zB):Prop:=Ok (λn=>(pG n).cases o t) v
abbrev BODY(t:zB)(v:List Node×zB):Prop:=Ok (λn=>(pG n).body t) v
abbrev zem(t:zB)(v:Node×zB):Prop:=Ok (λn=>(pG n).stmt t) v
abbrev zoQ(f:Bool)(t:zB)(v:List Node×zB):Prop:=Ok (λn=>(pG n).stmts f t) v
section
variable {no calls last:Bool} {t t1 t2 t3 t4 t5:zB} {x y z:Node} {v:Node×zB} {l l1 l2:List Node} {least:Int} {s:Str}
theorem zbL(h:tIs s t=true):zaC s t=gt ((),t.tail):=by unfold zaC;rw[yL h]
theorem zCy(h1:ASSIGN no t (x,t1))(h2:COMMA no x t1 v):EXPR no t v:=
 (h1.bind (g:=λq n=>(pG n).comma no q.1 q.2) h2).up λ_=>rfl
theorem zKv(h:tIs [44] t=false):COMMA no x t (x,t):=
 (Ok.ret (x,t)).up λn=>by show zlO (pG n) no x t=_;unfold zlO;rw[h];rfl
theorem zLR(h:tIs [44] t=true)(h1:ASSIGN no t.tail (y,t1))(h2:COMMA no (nd 21 [x,y]) t1 v):COMMA no x t v:=
 (h1.bind (g:=λq n=>(pG n).comma no (nd 21 [x,q.1]) q.2) h2).up λn=>by show zlO (pG n) no x t=_;unfold zlO;rw[yL h]
theorem ziJ(h1:BINARY no 3 t (x,t1))(h2:tIs [63] t1=false)(h3:zbv zt6 t1=false):ASSIGN no t (x,t1):=
 (h1.bind (g:=λq n=>if tIs [63] q.2=true then((pG n).assign false q.2.tail).bd λy=>(zaC [58] y.2).bn λt=>((pG n).assign no t).bd λz=>gt (nd 19 [q.1,y.1,z.1],z.2)
  else if zbv zt6 q.2=true then(if zdw q.1.Kind=true then((pG n).assign no q.2.tail).bd λy=>gt (ndN 20 (tText q.2) [q.1,y.1],y.2)else bad q.2)else gt q)
  ((Ok.ret (x,t1)).eq (by funext n;simp only[h2,h3,qz2,yA]))).up λ_=>rfl
theorem zGa(h1:BINARY no 3 t (x,t1))(h2:tIs [63] t1=true)(h3:ASSIGN false t1.tail (y,t2))(h4:tIs [58] t2=true)(h5:ASSIGN no t2.tail (z,t3)):ASSIGN no t (nd 19 [x,y,z],t3):=
 (h1.bind (g:=λq n=>if tIs [63] q.2=true then((pG n).assign false q.2.tail).bd λy=>(zaC [58] y.2).bn λt=>((pG n).assign no t).bd λz=>gt (nd 19 [q.1,y.1,z.1],z.2)
  else if zbv zt6 q.2=true then(if zdw q.1.Kind=true then((pG n).assign no q.2.tail).bd λy=>gt (ndN 20 (tText q.2) [q.1,y.1],y.2)else bad q.2)else gt q)
  ((h3.bind (g:=λy n=>(zaC [58] y.2).bn λt=>((pG n).assign no t).bd λz=>gt (nd 19 [x,y.1,z.1],z.2))
   ((h5.bind (g:=λz _=>gt (nd 19 [x,y,z.1],z.2)) (Ok.ret _)).eq (by funext n;simp only[zbL h4,zd1,zfy]))).eq (by funext n;simp only[h2,yB]))).up λ_=>rfl
theorem zJt(h1:BINARY no 3 t (x,t1))(h2:tIs [63] t1=false)(h3:zbv zt6 t1=true)(h4:zdw x.Kind=true)(h5:ASSIGN no t1.tail (y,t2)):ASSIGN no t (ndN 20 (tText t1) [x,y],t2):=
 (h1.bind (g:=λq n=>if tIs [63] q.2=true then((pG n).assign false q.2.tail).bd λy=>(zaC [58] y.2).bn λt=>((pG n).assign no t).bd λz=>gt (nd 19 [q.1,y.1,z.1],z.2)
  else if zbv zt6 q.2=true then(if zdw q.1.Kind=true then((pG n).assign no q.2.tail).bd λy=>gt (ndN 20 (tText q.2) [q.1,y.1],y.2)else bad q.2)else gt q)
  ((h5.bind (g:=λy _=>gt (ndN 20 (tText t1) [x,y.1],y.2)) (Ok.ret _)).eq (by funext n;simp only[h2,h3,h4,qz2,yA,yB]))).up λ_=>rfl
theorem zox(h1:zkp t (x,t1))(h2:zpN no least x t1 v):BINARY no least t v:=
 (h1.bind (g:=λq n=>(pG n).bins no least q.1 q.2) h2).up λ_=>rfl
theorem zMF(h:(decide ((zdo no t).1<least)||(zdo no t).1==0)=true):zpN no least x t (x,t):=
 (Ok.ret (x,t)).up λn=>by show zoO (pG n) no least x t=_;unfold zoO;rw[yL h]
theorem zNK(h:(decide ((zdo no t).1<least)||(zdo no t).1==0)=false)(h1:BINARY no ((zdo no t).1+1) t.tail (y,t1))(h2:zpN no least (ndN (zdo no t).2 (tText t) [x,y]) t1 v):zpN no least x t v:=
 (h1.bind (g:=λq n=>(pG n).bins no least (ndN (zdo no t).2 (tText t) [x,q.1]) q.2) h2).up λn=>by show zoO (pG n) no least x t=_;unfold zoO;rw[yK (by rw[h];decide)]
theorem zMN(h:zbv ztP t=true)(h1:zkp t.tail (y,t1)):zkp t (ndN 15 (tText t) [y],t1):=
 (h1.bind (g:=λq _=>gt (ndN 15 (tText t) [q.1],q.2)) (Ok.ret _)).up λn=>by show zhW (pG n) t=_;unfold zhW;rw[yL h]
theorem zJY(h:zbv ztP t=false)(h':zbv zir t=true)(h1:zkp t.tail (y,t1))(h2:zdw y.Kind=true):zkp t (⟨16,tText t,1,[],[],[y]⟩,t1):=
 (h1.bind (g:=λq _=>if zdw q.1.Kind=true then gt ((⟨16,tText t,1,[],[],[q.1]⟩:Node),q.2)else bad q.2) ((Ok.ret _).eq (by funext n;simp only[h2,yB]))).up λn=>by show zhW (pG n) t=_;unfold zhW;rw[yK (by rw[h];decide),yL h']
theorem zp2(h:zbv ztP t=false)(h':zbv zir t=false)(h1:MADE t (x,t1))(h2:zjb true x t1 (y,t2))(h3:zbv zir t2=false):zkp t (y,t2):=
 (h1.bind (g:=λq n=>((pG n).mems true q.1 q.2).bd λq=>if(!zbv zir q.2||ze6 q.2)=true then gt q else if zdw q.1.Kind=true then gt (ndN 16 (tText q.2) [q.1],q.2.tail)else bad q.2)
  (h2.bind (g:=λq _=>if(!zbv zir q.2||ze6 q.2)=true then gt q else if zdw q.1.Kind=true then gt (ndN 16 (tText q.2) [q.1],q.2.tail)else bad q.2) ((Ok.ret _).eq (by funext n;simp only[h3,yN,Bool.true_or,yB])))).up λn=>by
   show zhW (pG n) t=_;unfold zhW;rw[yK (by rw[h];decide),yK (by rw[h'];decide)]
theorem zHh(h:zbv ztP t=false)(h':zbv zir t=false)(h1:MADE t (x,t1))(h2:zjb true x t1 (y,t2))(h3:zbv zir t2=true)(h4:ze6 t2=false)(h5:zdw y.Kind=true):zkp t (ndN 16 (tText t2) [y],t2.tail):=
 (h1.bind (g:=λq n=>((pG n).mems true q.1 q.2).bd λq=>if(!zbv zir q.2||ze6 q.2)=true then gt q else if zdw q.1.Kind=true then gt (ndN 16 (tText q.2) [q.1],q.2.tail)else bad q.2)
  (h2.bind (g:=λq _=>if(!zbv zir q.2||ze6 q.2)=true then gt q else if zdw q.1.Kind=true then gt (ndN 16 (tText q.2) [q.1],q.2.tail)else bad q.2) ((Ok.ret _).eq (by funext n;simp only[h3,h4,h5,yO,Bool.or_self,qz2,yA,yB])))).up λn=>by
   show zhW (pG n) t=_;unfold zhW;rw[yK (by rw[h];decide),yK (by rw[h'];decide)]
theorem zDQ(h1:tIs [46] t=false)(h2:tIs [91] t=false)(h3:(calls&&tIs [40] t)=false):zjb calls x t (x,t):=
 (Ok.ret (x,t)).up λn=>by show zjq (pG n) calls x t=_;unfold zjq;rw[yK (by rw[h1];decide),yK (by rw[h2];decide),yK (by rw[h3];decide)]
theorem zLw(h1:tIs [46] t=true)(h2:(zX t.tail==1||zX t.tail==2)=true)(h3:zjb calls (ndN 11 (tText t.tail) [x]) t.tail.tail v):zjb calls x t v:=
 h3.up λn=>by show zjq (pG n) calls x t=_;unfold zjq;rw[yL h1,yL h2]
theorem zM1(h1:tIs [46] t=false)(h2:tIs [91] t=true)(h3:EXPR false t.tail (y,t1))(h4:tIs [93] t1=true)(h5:zjb calls (nd 12 [x,y]) t1.tail v):zjb calls x t v:=
 (h3.bind (g:=λk n=>(zaC [93] k.2).bn λt=>(pG n).mems calls (nd 12 [x,k.1]) t) (h5.eq (by funext n;simp only[zbL h4,zd1,zfy]))).up λn=>by
  show zjq (pG n) calls x t=_;unfold zjq;rw[yK (by rw[h1];decide),yL h2]
theorem zJS(h1:tIs [46] t=false)(h2:tIs [91] t=false)(h3:tIs [40] t=true)(h4:zq0 [41] false t.tail (l,t1))(h5:zjb true (nd 13 (x::l)) t1 v):zjb true x t v:=
 (h4.bind (g:=λk n=>(pG n).mems true (nd 13 (x::k.1)) k.2) h5).up λn=>by
  show zjq (pG n) true x t=_;unfold zjq;rw[yK (by rw[h1];decide),yK (by rw[h2];decide),yL (by rw[h3];decide)]
theorem zML(h1:tIs [110,101,119] t=true)(h2:MADE t.tail (x,t1))(h3:zjb false x t1 (y,t2))(h4:tIs [40] t2=true)(h5:zq0 [41] false t2.tail (l,t3)):MADE t (nd 14 (y::l),t3):=
 (h2.bind (g:=λq n=>((pG n).mems false q.1 q.2).bd λq=>if tIs [40] q.2=true then((pG n).exprs [41] false q.2.tail).bd λl=>gt (nd 14 (q.1::l.1),l.2)else gt (nd 14 [q.1],q.2))
  (h3.bind (g:=λq n=>if tIs [40] q.2=true then((pG n).exprs [41] false q.2.tail).bd λl=>gt (nd 14 (q.1::l.1),l.2)else gt (nd 14 [q.1],q.2))
   ((h5.bind (g:=λl _=>gt (nd 14 (y::l.1),l.2)) (Ok.ret _)).eq (by funext n;simp only[h4,yB])))).up λn=>by show zoV (pG n) t=_;unfold zoV;rw[yL h1]
theorem zoU(h1:tIs [110,101,119] t=false)(h2:zoH t v):MADE t v:=
 h2.up λn=>by show zoV (pG n) t=_;unfold zoV;rw[yK (by rw[h1];decide)]
theorem zJO(h:tIs s t=true):zq0 s last t ([],t.tail):=
 (Ok.ret _).up λn=>by show zg0 (pG n) s last t=_;unfold zg0;rw[yL h]
theorem zJ5(h:tIs s t=false)(h1:ASSIGN false t (x,t1))(h2:tIs s t1=true):zq0 s last t ([x],t1.tail):=
 (h1.bind (g:=λx n=>if tIs s x.2=true then gt ([x.1],x.2.tail)else(zaC [44] x.2).bn λt=>if(!last&&tIs s t)=true then bad t else((pG n).exprs s last t).bd λl=>gt (x.1::l.1,l.2))
  ((Ok.ret _).eq (by funext n;simp only[h2,yB]))).up λn=>by show zg0 (pG n) s last t=_;unfold zg0;rw[yK (by rw[h];decide)]
theorem zIi(h:tIs s t=false)(h1:ASSIGN false t (x,t1))(h2:tIs s t1=false)(h3:tIs [44] t1=true)(h4:tIs s t1.tail=false)(h5:zq0 s last t1.tail (l,t2)):zq0 s last t (x::l,t2):=
 (h1.bind (g:=λx n=>if tIs s x.2=true then gt ([x.1],x.2.tail)else(zaC [44] x.2).bn λt=>if(!last&&tIs s t)=true then bad t else((pG n).exprs s last t).bd λl=>gt (x.1::l.1,l.2))
  ((h5.bind (g:=λl _=>gt (x::l.1,l.2)) (Ok.ret _)).eq (by funext n;simp only[h2,zbL h3,zd1,zfy,h4,Bool.and_false,qz2,yA]))).up λn=>by show zg0 (pG n) s last t=_;unfold zg0;rw[yK (by rw[h];decide)]
theorem zRc(h:zX t=4):zEr t=gt (tText t,t.tail):=by
 cases t with
 |nil=>cases h
 |cons a r=>show(if(a.kind==4)=true then _ else _)=_;rw[show a.kind=4 from h];rfl
theorem zKa(h:tIs [125] t=true):zxj t ([],t.tail):=
 (Ok.ret _).up λn=>by show zhU (pG n) t=_;unfold zhU;rw[yL h]
theorem zJZ(h:tIs [125] t=false)(h0:zX t=4)(h':tIs [58] t.tail=true)(h1:ASSIGN false t.tail.tail (x,t1))(h2:tIs [125] t1=true):zxj t ([⟨9,[],0,tText t,[],[x]⟩],t1.tail):=
 (h1.bind (g:=λx n=>if tIs [125] x.2=true then gt ([(⟨9,[],0,tText t,[],[x.1]⟩:Node)],x.2.tail)else(zaC [44] x.2).bn λt2=>((pG n).props t2).bd λl=>gt ((⟨9,[],0,tText t,[],[x.1]⟩:Node)::l.1,l.2))
  ((Ok.ret _).eq (by funext n;simp only[h2,yB]))).up λn=>by
   show zhU (pG n) t=_;unfold zhU;rw[yK (by rw[h];decide),zRc h0,zd1,zbL h'];rfl
theorem zI8(h:tIs [125] t=false)(h0:zX t=4)(h':tIs [58] t.tail=true)(h1:ASSIGN false t.tail.tail (x,t1))(h2:tIs [125] t1=false)(h3:tIs [44] t1=true)(h5:zxj t1.tail (l,t2)):zxj t (⟨9,[],0,tText t,[],[x]⟩::l,t2):=
 (h1.bind (g:=λx n=>if tIs [125] x.2=true then gt ([(⟨9,[],0,tText t,[],[x.1]⟩:Node)],x.2.tail)else(zaC [44] x.2).bn λt2=>((pG n).props t2).bd λl=>gt ((⟨9,[],0,tText t,[],[x.1]⟩:Node)::l.1,l.2))
  ((h5.bind (g:=λl _=>gt ((⟨9,[],0,tText t,[],[x]⟩:Node)::l.1,l.2)) (Ok.ret _)).eq (by funext n;simp only[h2,zbL h3,zd1,zfy,qz2,yA]))).up λn=>by
   show zhU (pG n) t=_;unfold zhU;rw[yK (by rw[h];decide),zRc h0,zd1,zbL h'];rfl
theorem zUV{a:Tok}{r:zB}(h:a.kind=1):zoH (a::r) (ndN 3 a.text [],r):=
 (Ok.ret _).up λn=>by show zdY (pG n) (a::r)=_;unfold zdY;rw[yL (by show(a.kind==1)=true;rw[h];rfl)];rfl
theorem zWq{a:Tok}{r:zB}(h:a.kind=3):zoH (a::r) (⟨1,[],a.num,[],[],[]⟩,r):=
 (Ok.ret _).up λn=>by
  show zdY (pG n) (a::r)=_;unfold zdY;have e1:(zX (a::r)==1)=false:=by show(a.kind==1)=false;rw[h];rfl
  have e2:(zX (a::r)==3)=true:=by show(a.kind==3)=true;rw[h];rfl
  rw[e1,e2];rfl
theorem zV8{a:Tok}{r:zB}(h:a.kind=4):zoH (a::r) (⟨2,[],0,a.text,[],[]⟩,r):=
 (Ok.ret _).up λn=>by
  show zdY (pG n) (a::r)=_;unfold zdY;have e1:(zX (a::r)==1)=false:=by show(a.kind==1)=false;rw[h];rfl
  have e2:(zX (a::r)==3)=false:=by show(a.kind==3)=false;rw[h];rfl
  have e3:(zX (a::r)==4)=true:=by show(a.kind==4)=true;rw[h];rfl
  rw[e1,e2,e3];rfl
structure zct (a:Tok) (w:Str):Prop where
 op:opK a=true
 text:a.text=w
theorem zct.is{a:Tok}{w:Str}(h:zct a w)(s:Str)(r:zB):tIs s (a::r)=(w==s):=by
 show(opK a&&(a.text==s))=_;rw[h.op,h.text,Bool.true_and]
theorem zct.any{a:Tok}{w:Str}(h:zct a w)(l:List Str)(r:zB):zbv l (a::r)=l.contains w:=by
 show(opK a&&l.contains a.text)=_;rw[h.op,h.text,Bool.true_and]
theorem zct.kind{a:Tok}{w:Str}(h:zct a w):a.kind=5\/a.kind=2:=by
 have:=h.op;unfold opK at this;simpa using this
theorem zct.kinds{a:Tok}{w:Str}(h:zct a w)(r:zB):(zX (a::r)==1)=false/\(zX (a::r)==3)=false/\(zX (a::r)==4)=false/\(zX (a::r)==0)=false:=by
 show(a.kind==1)=false/\(a.kind==3)=false/\(a.kind==4)=false/\(a.kind==0)=false;rcases h.kind with e|e<;>rw[e]<;>decide
theorem zct.bind{a:Tok}{w:Str}(h:zct a w)(no:Bool)(r:zB):zdo no (a::r)=lvS no w:=by
 show(if opK a=true then lvS no a.text else(0,0))=_;rw[h.op,h.text];rfl
theorem zCG{a:Tok}{r:zB}{w:Str}{x:Node}(h:zct a w)(hw:w=[116,104,105,115]/\x=nd 4 []\/w=[110,117,108,108]/\x=nd 5 []\/w=[102,97,108,115,101]/\x=nd 6 []\/w=[116,114,117,101]/\x=⟨6,[],1,[],[],[]⟩):zoH (a::r) (x,r):=
 (Ok.ret _).up λn=>by
  obtain⟨k1,k2,k3,_⟩:=h.kinds r;show zdY (pG n) (a::r)=_;unfold zdY;rw[k1,k2,k3];simp only[h.is];rcases hw with⟨rfl,rfl⟩| ⟨rfl,rfl⟩| ⟨rfl,rfl⟩| ⟨rfl,rfl⟩<;>rfl
theorem zVb{a:Tok}{r:zB}(h:zct a [102,117,110,99,116,105,111,110])(h1:FUNC 10 r v):zoH (a::r) v:=
 h1.up λn=>by
  obtain⟨k1,k2,k3,_⟩:=h.kinds r;show zdY (pG n) (a::r)=_;unfold zdY;rw[k1,k2,k3];simp only[h.is];rfl
theorem zvW{a:Tok}{r:zB}(h:zct a [40])(h1:EXPR false r (x,t1))(h2:tIs [41] t1=true):zoH (a::r) (x,t1.tail):=
 (h1.bind (g:=λk _=>(zaC [41] k.2).bn λt=>gt (k.1,t)) ((Ok.ret _).eq (by funext n;simp only[zbL h2,zd1,zfy]))).up λn=>by
  obtain⟨k1,k2,k3,_⟩:=h.kinds r;show zdY (pG n) (a::r)=_;unfold zdY;rw[k1,k2,k3];simp only[h.is];rfl
theorem zTH{a:Tok}{r:zB}(h:zct a [91])(h1:zq0 [93] true r (l,t1)):zoH (a::r) (nd 7 l,t1):=
 (h1.bind (g:=λl _=>gt (nd 7 l.1,l.2)) (Ok.ret _)).up λn=>by
  obtain⟨k1,k2,k3,_⟩:=h.kinds r;show zdY (pG n) (a::r)=_;unfold zdY;rw[k1,k2,k3];simp only[h.is];rfl
theorem zQY{a:Tok}{r:zB}(h:zct a [123])(h1:zxj r (l,t1)):zoH (a::r) (nd 8 l,t1):=
 (h1.bind (g:=λl _=>gt (nd 8 l.1,l.2)) (Ok.ret _)).up λn=>by
  obtain⟨k1,k2,k3,_⟩:=h.kinds r;show zdY (pG n) (a::r)=_;unfold zdY;rw[k1,k2,k3];simp only[h.is];rfl
end
theorem zWs{α:Type}(a b c d:α)(r:List α):zN (a::b::c::d::r) 3=some d:=rfl
theorem zjA(x:Node):(tkN x).lvl=zjl x (tkL x.L):=by rw[za0];rfl
theorem zRp{y:Node}(h:y.Kind=17):(tkN y).lvl=5\/(tkN y).lvl=6\/(tkN y).lvl=7\/(tkN y).lvl=8:=by
 have e:(tkN y).lvl=if zcb op5 y.Name=true then 5 else if zcb op7 y.Name=true then 7 else if zcb op8 y.Name=true then 8 else 6:=by rw[zjA];unfold zjl;rw[h];rfl
 rw[e];cases zcb op5 y.Name<;>cases zcb op7 y.Name<;>cases zcb op8 y.Name<;>simp
theorem zOc{y:Node}(h:y.Kind=18):(tkN y).lvl=4 -Lib.index [38,124] (y.Name.take 1):=by rw[zjA];unfold zjl;rw[h];rfl
theorem zOP{y:Node}(h:y.Kind=18)(ho:zao y=true):y.Name=[38,38]\/y.Name=[124,124]:=by
 simpa [zab,h,zAK]using(zaN ho).1
theorem zRy{y:Node}(h:y.Kind=18)(ho:zao y=true):(tkN y).lvl=3\/(tkN y).lvl=4:=by
 rw[zOc h];rcases zOP h ho with e|e<;>rw[e]
 ·exact .inr (by decide)
 ·exact .inl (by decide)
section
variable {g:zi} {n:Nat}
theorem zON(ns:List Str)(hn:ns.length<=1000000000)(x:Node)(t:List Str)(no:Bool)(hx: ∀l:List Str,l.length+t.length<=274877906944->g.zci [123] [125] no l x=some (no,l++t,x,()))(l:List Str)
  (hlen:l.length+(namesT ns++([41]::t)).length<=274877906944):Lp.loop (zbW g) (ns,((ns.length:Nat):Int),0,no,l,x,())=some (no,l++(namesT ns++([41]::t)),()):=by
 rw[zPd]at hlen⊢;refine zDi (zbW g) (λi l=>(ns,((ns.length:Nat):Int),i,no,l,x,())) ns (λs=>[s]) ([41]::t) (λl=>(no,l,())) hn (λy r hy l hlen=>?_) (λi y h0 hm h1 h2 h3 h4 l hlen=>?_) (λhe l hlen=>?_) l hlen
 ·have hi:decide ((0:Int)< ((ns.length:Nat):Int))=true:=by rw[hy];simp only[qz3,yT];omega
  have h1:zN ns 0=some y:=by rw[hy];rfl
  have w:IntKind.wrap .i64 ((0:Int)+1)=1:=by decide
  simp only[zbW,hi,yB,h1,qz1,zq];rw[yK (by decide),zar _ _ _ hlen];simp only[qz1,w]
 ·simp only[zbW,h2,yB,h1,h3,qz1,zq];rw[zar _ _ _ (by simp only[qz5,qz3,qz6]at hlen⊢;omega)]
  simp only[qz1];rw[zar _ _ _ (by simp only[qz5,qz3,qz6]at hlen⊢;omega)]
  simp only[qz1,h4];simp
 ·simp only[zbW,he,qz2,yA];rw[zar _ _ _ (by simp only[qz5,qz3,qz6]at hlen⊢;omega)]
  simp only[qz1,zq];rw[hx _ (by simp only[qz5,qz3,qz6]at hlen⊢;omega)]
  simp
theorem zVn(G:zbw g n)(y:Node)(hd:20*zW y+6<=n+1)(hk: ∀k∈y.L,zhH k=true)(hb:zU y<=2097152):Wr (zfN g y) (λ_=>zf7 y (tkL y.L)):=by
 intro no l hlen;have a1:=zaA y;have a2:=zr7 y.Names;have hL:=λl h=>zON (g:=g) y.Names (by omega) y ([123]::(zY (tkL y.L)++[[125]])) no (λl h=>G.body y _ _ no l (by omega) hk hb h) l h
 unfold zf7 at hlen⊢;unfold zfN;by_cases hn:(y.Name==([]:Str))=true
 ·rw[hn]at hlen⊢;simp only[yB,List.nil_append]at hlen⊢;rw[zar _ _ _ (by simp only[qz5,qz3,qz6]at hlen⊢;omega)]
  simp only[qz1,yO,qz2,yA,zq];rw[zar _ _ _ (by simp only[qz5,qz3,qz6]at hlen⊢;omega)]
  simp only[qz1];rw[hL _ (by simp only[qz5,qz3,qz6]at hlen⊢;omega)]
  simp
 ·have hn:(y.Name==([]:Str))=false:=by simpa using hn
  rw[hn]at hlen⊢;simp only[qz2,yA]at hlen⊢;rw[zar _ _ _ (by simp only[qz5,qz3,qz6]at hlen⊢;omega)]
  simp only[qz1,yN,yB,zq];rw[zar _ _ _ (by simp only[qz5,qz3,qz6]at hlen⊢;omega)]
  simp only[qz1];rw[zar _ _ _ (by simp only[qz5,qz3,qz6]at hlen⊢;omega)]
  simp only[qz1];rw[hL _ (by simp only[qz5,qz3,qz6]at hlen⊢;omega)]
  simp
theorem zVp(G:zbw g n)(y:Node)(hd:20*zW y+6<=n+1)(h:y.Kind=11)(ho:zO y 101=true)(hb:zU y<=2097152):Wr (zT g y) (tkN y).ex:=by
 intro no l hlen;obtain⟨he,hm⟩:=zcN ho;have a1:=zaR y;have a2:=zaA y;have hk: ∀k∈y.L,zW k<=za9 y.L/\zU k<=zaJ y.L:=λk hk=>⟨zaT hk,za7 hk⟩
 have ha: ∀k∈y.L,zO k 101=true->∀(least:Int) (no:Bool) (l:List Str),l.length+(atT (tkN k) least no).length<=274877906944->g.zD k least no l=some (no,l++atT (tkN k) least no,()):=λk h1 h2 least no l h=>G.at_ k least (by have:=hk k h1;omega) h2 (by have:=hk k h1;omega) no l h
 rw[zCi h,qz4]at hm;obtain⟨a,hL,h1⟩:=zdq hm.2;rw[zGN h,hL,tk0]at hlen⊢;rw[hL]at ha;unfold zT;simp only[zq];rw[h,hL];show Option.bind (g.zD a 11 no l) (λr=>Option.bind (zn [[46],y.Name] r.1 r.2.1) λr=>some (r.1,r.2.1,()))=_;rw[ha a (by simp) h1 _ _ _ (by simp only[qz5,qz3,qz6]at hlen⊢;omega)]
 simp only[qz1];rw[zar _ _ _ (by simp only[qz5,qz3,qz6]at hlen⊢;omega)]
 simp
theorem zUu(G:zbw g n)(y:Node)(hd:20*zW y+6<=n+1)(h:y.Kind=12)(ho:zO y 101=true)(hb:zU y<=2097152):Wr (zT g y) (tkN y).ex:=by
 intro no l hlen;obtain⟨he,hm⟩:=zcN ho;have a1:=zaR y;have a2:=zaA y;have hk: ∀k∈y.L,zW k<=za9 y.L/\zU k<=zaJ y.L:=λk hk=>⟨zaT hk,za7 hk⟩
 have ha: ∀k∈y.L,zO k 101=true->∀(least:Int) (no:Bool) (l:List Str),l.length+(atT (tkN k) least no).length<=274877906944->g.zD k least no l=some (no,l++atT (tkN k) least no,()):=λk h1 h2 least no l h=>G.at_ k least (by have:=hk k h1;omega) h2 (by have:=hk k h1;omega) no l h
 rw[zDG h,qz4]at hm;obtain⟨a,b,hL,h1,h2⟩:=zdT hm.2;have hkb:=hk b (by rw[hL];simp)
 rw[zGk h,hL,tk0,tk1]at hlen⊢;rw[hL]at ha;unfold zT;simp only[zq];rw[h,hL];show Option.bind (g.zD a 11 no l) (λr=>Option.bind (g.zbT [91] [93] r.1 r.2.1 [a,b]) λr=>some (r.1,r.2.1,()))=_;rw[ha a (by simp) h1 _ _ _ (by simp only[qz5,qz3,qz6]at hlen⊢;omega)]
 simp only[qz1];rw[G.idx a b [] _ _ _ _ (by omega) h2 (by omega) (by simp only[qz5,qz3,qz6]at hlen⊢;omega)]
 simp
theorem zU4(G:zbw g n)(y:Node)(hd:20*zW y+6<=n+1)(h:y.Kind=13)(ho:zO y 101=true)(hb:zU y<=2097152):Wr (zT g y) (tkN y).ex:=by
 intro no l hlen;obtain⟨he,hm⟩:=zcN ho;have a1:=zaR y;have a2:=zaA y;have hk: ∀k∈y.L,zW k<=za9 y.L/\zU k<=zaJ y.L:=λk hk=>⟨zaT hk,za7 hk⟩
 have ha: ∀k∈y.L,zO k 101=true->∀(least:Int) (no:Bool) (l:List Str),l.length+(atT (tkN k) least no).length<=274877906944->g.zD k least no l=some (no,l++atT (tkN k) least no,()):=λk h1 h2 least no l h=>G.at_ k least (by have:=hk k h1;omega) h2 (by have:=hk k h1;omega) no l h
 rw[zGY h,qz4]at hm;obtain⟨a,r,hL,h1,h2⟩:=zhS hm.2;have hkb:za9 r<=za9 y.L:=by rw[hL,zni];omega
 rw[zGv h,hL,tk0,tkT]at hlen⊢;rw[hL]at ha a2;unfold zT;simp only[zq];rw[h,hL]
 have e:zbt g no l y (a::r)=Option.bind (g.zD a 11 no l) (λq=>Option.bind (g.zbm [40] [41] q.1 q.2.1 (a::r)) λr=>some (r.1,r.2.1,())):=by
  unfold zbt zeO;simp only[zq];rw[h];rfl
 show zbt g no l y (a::r)=_;rw[e,ha a (by simp) h1 _ _ _ (by simp only[qz5,qz3,qz6]at hlen⊢;omega)]
 simp only[qz1];rw[G.arg a r _ _ _ _ (by omega) (λk hk=>zvL (h2 k hk)) (by omega) (by simp only[qz5,qz3,qz6]at hlen⊢;omega)]
 simp
theorem zU8(G:zbw g n)(y:Node)(hd:20*zW y+6<=n+1)(h:y.Kind=14)(ho:zO y 101=true)(hb:zU y<=2097152):Wr (zT g y) (tkN y).ex:=by
 intro no l hlen;obtain⟨he,hm⟩:=zcN ho;have a1:=zaR y;have a2:=zaA y;have hk: ∀k∈y.L,zW k<=za9 y.L/\zU k<=zaJ y.L:=λk hk=>⟨zaT hk,za7 hk⟩
 have ha: ∀k∈y.L,zO k 101=true->∀(least:Int) (no:Bool) (l:List Str),l.length+(atT (tkN k) least no).length<=274877906944->g.zD k least no l=some (no,l++atT (tkN k) least no,()):=λk h1 h2 least no l h=>G.at_ k least (by have:=hk k h1;omega) h2 (by have:=hk k h1;omega) no l h
 rw[zJs h,qz4]at hm;obtain⟨a,r,hL,h1,h2⟩:=zhS hm.2;have hkb:za9 r<=za9 y.L:=by rw[hL,zni];omega
 rw[zGK h,hL,tk0,tkT]at hlen⊢;rw[hL]at ha a2;unfold zT;simp only[zq];rw[h,hL]
 have e:zbt g no l y (a::r)=Option.bind (zn [[110,101,119]] no l) λq=>Option.bind (g.zD a 12 q.1 q.2.1) (λq=>Option.bind (g.zbm [40] [41] q.1 q.2.1 (a::r)) λr=>some (r.1,r.2.1,())):=by
  unfold zbt zeO;simp only[zq];rw[h];rfl
 show zbt g no l y (a::r)=_;rw[e,zar _ _ _ (by simp only[qz5,qz3,qz6]at hlen⊢;omega)]
 simp only[qz1];rw[ha a (by simp) h1 _ _ _ (by simp only[qz5,qz3,qz6]at hlen⊢;omega)]
 simp only[qz1];rw[G.arg a r _ _ _ _ (by omega) (λk hk=>zvL (h2 k hk)) (by omega) (by simp only[qz5,qz3,qz6]at hlen⊢;omega)]
 simp
theorem zU0(G:zbw g n)(y:Node)(hd:20*zW y+6<=n+1)(h:y.Kind=15)(ho:zO y 101=true)(hb:zU y<=2097152):Wr (zT g y) (tkN y).ex:=by
 intro no l hlen;obtain⟨he,hm⟩:=zcN ho;have a1:=zaR y;have a2:=zaA y;have hk: ∀k∈y.L,zW k<=za9 y.L/\zU k<=zaJ y.L:=λk hk=>⟨zaT hk,za7 hk⟩
 have ha: ∀k∈y.L,zO k 101=true->∀(least:Int) (no:Bool) (l:List Str),l.length+(atT (tkN k) least no).length<=274877906944->g.zD k least no l=some (no,l++atT (tkN k) least no,()):=λk h1 h2 least no l h=>G.at_ k least (by have:=hk k h1;omega) h2 (by have:=hk k h1;omega) no l h
 rw[zHy h,qz4]at hm;obtain⟨a,hL,h1⟩:=zdq hm.2;rw[zGQ h,hL,tk0]at hlen⊢;rw[hL]at ha;unfold zT;simp only[zq];rw[h,hL];show Option.bind (zn [y.Name] no l) (λr=>Option.bind (g.zD a 9 r.1 r.2.1) λr=>some (r.1,r.2.1,()))=_;rw[zar _ _ _ (by simp only[qz5,qz3,qz6]at hlen⊢;omega)]
 simp only[qz1];rw[ha a (by simp) h1 _ _ _ (by simp only[qz5,qz3,qz6]at hlen⊢;omega)]
 simp
theorem zU1(G:zbw g n)(y:Node)(hd:20*zW y+6<=n+1)(h:y.Kind=16)(ho:zO y 101=true)(hb:zU y<=2097152):Wr (zT g y) (tkN y).ex:=by
 intro no l hlen;obtain⟨he,hm⟩:=zcN ho;have a1:=zaR y;have a2:=zaA y;have hk: ∀k∈y.L,zW k<=za9 y.L/\zU k<=zaJ y.L:=λk hk=>⟨zaT hk,za7 hk⟩
 have ha: ∀k∈y.L,zO k 101=true->∀(least:Int) (no:Bool) (l:List Str),l.length+(atT (tkN k) least no).length<=274877906944->g.zD k least no l=some (no,l++atT (tkN k) least no,()):=λk h1 h2 least no l h=>G.at_ k least (by have:=hk k h1;omega) h2 (by have:=hk k h1;omega) no l h
 rw[zDf h,qz4]at hm;obtain⟨a,hL,h1⟩:=zdq hm.2;have h1:=zra h1;have hn:y.Num=0\/y.Num=1:=by simpa [zbH,h]using(zaN hm.1).2
 rw[zDy h,hL,tk0]at hlen⊢;rw[hL]at ha;unfold zT;simp only[zq];rw[h,hL];rcases hn with e|e
 ·rw[e]at hlen⊢;have hlen:l.length+(atT (tkN a) 11 no++[y.Name]).length<=274877906944:=hlen;show Option.bind (g.zD a 11 no l) (λr=>Option.bind (zn [y.Name] r.1 r.2.1) λr=>some (r.1,r.2.1,()))=some (no,l++(atT (tkN a) 11 no++[y.Name]),());rw[ha a (by simp) h1 _ _ _ (by simp only[qz5,qz3,qz6]at hlen⊢;omega)]
  simp only[qz1];rw[zar _ _ _ (by simp only[qz5,qz3,qz6]at hlen⊢;omega)]
  simp
 ·rw[e]at hlen⊢;have hlen:l.length+(y.Name::atT (tkN a) 11 no).length<=274877906944:=hlen;show Option.bind (zn [y.Name] no l) (λr=>Option.bind (g.zD a 11 r.1 r.2.1) λr=>some (r.1,r.2.1,()))=some (no,l++(y.Name::atT (tkN a) 11 no),());rw[zar _ _ _ (by simp only[qz5,qz3,qz6]at hlen⊢;omega)]
  simp only[qz1];rw[ha a (by simp) h1 _ _ _ (by simp only[qz5,qz3,qz6]at hlen⊢;omega)]
  simp
theorem zUl(G:zbw g n)(y:Node)(hd:20*zW y+6<=n+1)(h:y.Kind=19)(ho:zO y 101=true)(hb:zU y<=2097152):Wr (zT g y) (tkN y).ex:=by
 intro no l hlen;obtain⟨he,hm⟩:=zcN ho;have a1:=zaR y;have a2:=zaA y;have hk: ∀k∈y.L,zW k<=za9 y.L/\zU k<=zaJ y.L:=λk hk=>⟨zaT hk,za7 hk⟩
 have ha: ∀k∈y.L,zO k 101=true->∀(least:Int) (no:Bool) (l:List Str),l.length+(atT (tkN k) least no).length<=274877906944->g.zD k least no l=some (no,l++atT (tkN k) least no,()):=λk h1 h2 least no l h=>G.at_ k least (by have:=hk k h1;omega) h2 (by have:=hk k h1;omega) no l h
 rw[zIy h,qz4]at hm;obtain⟨a,b,c,hL,h1,h2,h3⟩:=zr1 hm.2;have hkb:=hk b (by rw[hL];simp)
 rw[zGq h,hL,tk0,tk1,tk2]at hlen⊢;rw[hL]at ha;unfold zT;simp only[zq];rw[h,hL];show Option.bind (g.zD a 3 no l) (λr=>Option.bind (g.zcl [63] [58] r.1 r.2.1 [a,b,c]) λr=>Option.bind (zN r.2.2.1 2) λx=>Option.bind (g.zD x 1 r.1 r.2.1) λr=>some (r.1,r.2.1,()))=_;rw[ha a (by simp) h1 _ _ _ (by simp only[qz5,qz3,qz6]at hlen⊢;omega)]
 simp only[qz1];rw[G.thn a b [c] _ _ _ _ (by omega) h2 (by omega) (by simp only[qz5,qz3,qz6]at hlen⊢;omega)]
 simp only[qz1,zRe];rw[ha c (by simp) h3 _ _ _ (by simp only[qz5,qz3,qz6]at hlen⊢;omega)]
 simp
theorem zUG(G:zbw g n)(y:Node)(hd:20*zW y+6<=n+1)(h:y.Kind=20)(ho:zO y 101=true)(hb:zU y<=2097152):Wr (zT g y) (tkN y).ex:=by
 intro no l hlen;obtain⟨he,hm⟩:=zcN ho;have a1:=zaR y;have a2:=zaA y;have hk: ∀k∈y.L,zW k<=za9 y.L/\zU k<=zaJ y.L:=λk hk=>⟨zaT hk,za7 hk⟩
 have ha: ∀k∈y.L,zO k 101=true->∀(least:Int) (no:Bool) (l:List Str),l.length+(atT (tkN k) least no).length<=274877906944->g.zD k least no l=some (no,l++atT (tkN k) least no,()):=λk h1 h2 least no l h=>G.at_ k least (by have:=hk k h1;omega) h2 (by have:=hk k h1;omega) no l h
 rw[zHD h,qz4]at hm;obtain⟨a,b,hL,h1,h2⟩:=zdT hm.2;have h1:=zra h1;rw[zGy h,hL,tk0,tk1]at hlen⊢;rw[hL]at ha;unfold zT;simp only[zq];rw[h,hL];show Option.bind (g.zD a 11 no l) (λr=>Option.bind (zn [y.Name] r.1 r.2.1) λr=>Option.bind (g.zD b 1 r.1 r.2.1) λr=>some (r.1,r.2.1,()))=_;rw[ha a (by simp) h1 _ _ _ (by simp only[qz5,qz3,qz6]at hlen⊢;omega)]
 simp only[qz1];rw[zar _ _ _ (by simp only[qz5,qz3,qz6]at hlen⊢;omega)]
 simp only[qz1];rw[ha b (by simp) h2 _ _ _ (by simp only[qz5,qz3,qz6]at hlen⊢;omega)]
 simp
theorem zTV(G:zbw g n)(y:Node)(hd:20*zW y+6<=n+1)(h:y.Kind=21)(ho:zO y 101=true)(hb:zU y<=2097152):Wr (zT g y) (tkN y).ex:=by
 intro no l hlen;obtain⟨he,hm⟩:=zcN ho;have a1:=zaR y;have a2:=zaA y;have hk: ∀k∈y.L,zW k<=za9 y.L/\zU k<=zaJ y.L:=λk hk=>⟨zaT hk,za7 hk⟩
 have ha: ∀k∈y.L,zO k 101=true->∀(least:Int) (no:Bool) (l:List Str),l.length+(atT (tkN k) least no).length<=274877906944->g.zD k least no l=some (no,l++atT (tkN k) least no,()):=λk h1 h2 least no l h=>G.at_ k least (by have:=hk k h1;omega) h2 (by have:=hk k h1;omega) no l h
 rw[zIx h,qz4]at hm;obtain⟨a,b,hL,h1,h2⟩:=zdT hm.2;rw[zGu h,hL,tk0,tk1]at hlen⊢;rw[hL]at ha;unfold zT;simp only[zq];rw[h,hL];show Option.bind (g.zD a 0 no l) (λr=>Option.bind (zn [[44]] r.1 r.2.1) λr=>Option.bind (g.zD b 1 r.1 r.2.1) λr=>some (r.1,r.2.1,()))=_;rw[ha a (by simp) h1 _ _ _ (by simp only[qz5,qz3,qz6]at hlen⊢;omega)]
 simp only[qz1];rw[zar _ _ _ (by simp only[qz5,qz3,qz6]at hlen⊢;omega)]
 simp only[qz1];rw[ha b (by simp) h2 _ _ _ (by simp only[qz5,qz3,qz6]at hlen⊢;omega)]
 simp
theorem zVm(G:zbw g n)(y:Node)(hd:20*zW y+6<=n+1)(h:y.Kind=17)(ho:zO y 101=true)(hb:zU y<=2097152):Wr (zT g y) (tkN y).ex:=by
 intro no l hlen;obtain⟨he,hm⟩:=zcN ho;have a1:=zaR y;have a2:=zaA y;have hk: ∀k∈y.L,zW k<=za9 y.L/\zU k<=zaJ y.L:=λk hk=>⟨zaT hk,za7 hk⟩
 have ha: ∀k∈y.L,zO k 101=true->∀(least:Int) (no:Bool) (l:List Str),l.length+(atT (tkN k) least no).length<=274877906944->g.zD k least no l=some (no,l++atT (tkN k) least no,()):=λk h1 h2 least no l h=>G.at_ k least (by have:=hk k h1;omega) h2 (by have:=hk k h1;omega) no l h
 have hlv:=zpX y hm he hb;have hv:=zRp h;rw[zHv h,qz4]at hm;obtain⟨a,b,hL,h1,h2⟩:=zdT hm.2;rw[zGn h,hL,tk0,tk1]at hlen⊢;rw[hL]at ha;unfold zT;simp only[zq];rw[h,hL];show Option.bind (zb0 y) (λq=>Option.bind (g.zD a q.1 no l) λr=>Option.bind (zn [y.Name] r.1 r.2.1) λr=>Option.bind (zb0 y) λq=>Option.bind (g.zD b (IntKind.wrap .i64 (q.1+1)) r.1 r.2.1) λr=>some (r.1,r.2.1,()))=_;rw[hlv];simp only[qz1];rw[ha a (by simp) h1 _ _ _ (by simp only[qz5,qz3,qz6]at hlen⊢;omega)]
 simp only[qz1];rw[zar _ _ _ (by simp only[qz5,qz3,qz6]at hlen⊢;omega)]
 simp only[qz1];have w:IntKind.wrap .i64 ((tkN y).lvl+1)=(tkN y).lvl+1:=wrap_i64 (by omega) (by omega);rw[w,ha b (by simp) h2 _ _ _ (by simp only[qz5,qz3,qz6]at hlen⊢;omega)]
 simp
theorem zUz(G:zbw g n)(y:Node)(hd:20*zW y+6<=n+1)(h:y.Kind=18)(ho:zO y 101=true)(hb:zU y<=2097152):Wr (zT g y) (tkN y).ex:=by
 intro no l hlen;obtain⟨he,hm⟩:=zcN ho;have a1:=zaR y;have a2:=zaA y;have hk: ∀k∈y.L,zW k<=za9 y.L/\zU k<=zaJ y.L:=λk hk=>⟨zaT hk,za7 hk⟩
 have ha: ∀k∈y.L,zO k 101=true->∀(least:Int) (no:Bool) (l:List Str),l.length+(atT (tkN k) least no).length<=274877906944->g.zD k least no l=some (no,l++atT (tkN k) least no,()):=λk h1 h2 least no l h=>G.at_ k least (by have:=hk k h1;omega) h2 (by have:=hk k h1;omega) no l h
 have hlv:=zpX y hm he hb;rw[zDs h,qz4]at hm;obtain⟨a,b,hL,h1,h2⟩:=zdT hm.2;have hv:=zRy h hm.1;rw[zGl h,hL,tk0,tk1]at hlen⊢;rw[hL]at ha;unfold zT;simp only[zq];rw[h,hL];show Option.bind (zb0 y) (λq=>Option.bind (g.zD a q.1 no l) λr=>Option.bind (zn [y.Name] r.1 r.2.1) λr=>Option.bind (zb0 y) λq=>Option.bind (g.zD b (IntKind.wrap .i64 (q.1+1)) r.1 r.2.1) λr=>some (r.1,r.2.1,()))=_;rw[hlv];simp only[qz1];rw[ha a (by simp) h1 _ _ _ (by simp only[qz5,qz3,qz6]at hlen⊢;omega)]
 simp only[qz1];rw[zar _ _ _ (by simp only[qz5,qz3,qz6]at hlen⊢;omega)]
 simp only[qz1];have w:IntKind.wrap .i64 ((tkN y).lvl+1)=(tkN y).lvl+1:=wrap_i64 (by omega) (by omega);rw[w,ha b (by simp) h2 _ _ _ (by simp only[qz5,qz3,qz6]at hlen⊢;omega)]
 simp
theorem zWL(G:zbw g n)(y:Node)(hd:20*zW y+6<=n+1)(hK:11<=y.Kind)(ho:zO y 101=true)(hb:zU y<=2097152):Wr (zT g y) (tkN y).ex:=by
 have he:=(zcN ho).1;rcases zgz he with h|h|h|h|h|h|h|h|h|h|h|h|h|h|h|h|h|h|h|h
 ·exfalso;omega
 ·exfalso;omega
 ·exfalso;omega
 ·exfalso;omega
 ·exfalso;omega
 ·exfalso;omega
 ·exfalso;omega
 ·exfalso;omega
 ·exfalso;omega
 ·exact zVp G y hd h ho hb
 ·exact zUu G y hd h ho hb
 ·exact zU4 G y hd h ho hb
 ·exact zU8 G y hd h ho hb
 ·exact zU0 G y hd h ho hb
 ·exact zU1 G y hd h ho hb
 ·exact zVm G y hd h ho hb
 ·exact zUz G y hd h ho hb
 ·exact zUl G y hd h ho hb
 ·exact zUG G y hd h ho hb
 ·exact zTV G y hd h ho hb
end
theorem zfX{y:Node}{c:UInt8}(h:zO y c=true):isP y ((c.toNat:Nat):Int)=true:=by
 unfold zO at h;rw[qz4]at h;exact h.1
theorem zBO{y:Node}(h:(zcu y.Kind||y.Kind==42)||y.Kind==22)(hm:zat y=true):ziT y=true:=by
 show(((zcu y.Kind||y.Kind==42)||y.Kind==22)&&zat y)=true;rw[hm,Bool.and_true];exact h
theorem zEo{y:Node}(h:zO y 118=true):ziT y=true:=h
theorem zq4{y:Node}(h:zO y 102=true):ziT y=true:=by
 have h1:(zcu y.Kind||y.Kind==42)=true:=zfX h;exact zBO (by rw[h1];rfl) (zbY h)
theorem zKA{y:Node}(h:zO y 119=true):ziT y=true:=by
 have h1:(zdw y.Kind||(y.Kind==22&&(match y.L with| [d]=>d.L.isEmpty|_=>false)))=true:=zfX h;refine zBO ?_ (zbY h);rw[yQ]at h1;rcases h1 with h1|h1
 ·have:zcu y.Kind=true:=by
   simp only[zdw,yQ,beq_iff_eq]at h1;rcases h1 with(h|h)|h<;>rw[h]<;>rfl
  rw[this];rfl
 ·rw[qz4]at h1;rw[h1.1,Bool.or_true]
theorem zHC{y:Node}(h:y.Kind=22)(hm:zat y=true):ziT y=true:=zBO (by rw[h];rfl) hm
theorem zBK{y:Node}(h:ziT y=true):y.Kind=42\/y.Kind=22\/zO y 101=true:=by
 have h1:((zcu y.Kind||y.Kind==42)||y.Kind==22)=true:=zfX (c:=118) h;have h2:=zbY (c:=118) h;simp only[yQ,beq_iff_eq]at h1;rcases h1 with(h1|h1)|h1
 ·exact .inr (.inr (by rw[zuF,h1,h2];rfl))
 ·exact .inl h1
 ·exact .inr (.inl h1)
theorem zAZ{d:Node}(h:zO d 100=true):d.Kind=23/\(d.L=[]\/∃a,d.L=[a]/\zO a 101=true):=by
 have h1:(d.Kind==23)=true:=zfX h;have h1:=eq_of_beq h1;have h2:=zbY h;rw[zH3 h1,qz4]at h2;refine⟨h1,?_⟩;have h2:=h2.2;generalize d.L=l at h2;rcases l with _| ⟨a,r⟩
 ·exact .inl rfl
 ·obtain⟨a',e,ha⟩:=zdq h2;exact .inr ⟨a',e,ha⟩
theorem zLv{l:List Node}(h:zaj (lv3 l) none l=true):(∃a b,l=[a,b]/\zO a 101=true/\zO b 98=true)\/∃a b c,l=[a,b,c]/\zO a 101=true/\zO b 98=true/\zO c 98=true:=by
 rcases l with _| ⟨a,_| ⟨b,_| ⟨c,r⟩⟩⟩
 ·simp[lv3,zaj]at h
 ·simp[lv3,zaj]at h
 ·exact .inl (zdT h)
 ·exact .inr (zr1 h)
theorem zIn{l:List Node}(h:zaj (lv1 l) none l=true):l=[]\/∃a,l=[a]/\zO a 101=true:=by
 rcases l with _| ⟨a,r⟩
 ·exact .inl rfl
 ·exact .inr (zdq h)
theorem zrJ: ∀{l:List Node} {e:Nat},ziG l e=true->∀k∈l,zO k 107=true
 | [],_,_,k,hk=>by cases hk
 |x::r,e,h,k,hk=>by
  simp only[ziG,qz4]at h;rcases yP.1 hk with rfl|hk
  ·exact h.1
  ·exact zrJ h.2 k hk
theorem zyX{l:List Node}(h:zq7 l=true): ∃a r,l=a::r/\zO a 101=true/\ziG r 0=true:=by
 rcases l with _| ⟨a,r⟩
 ·simp[zq7]at h
 ·simp only[zq7,qz4]at h;exact⟨a,r,rfl,h.1,h.2⟩
theorem zJz{l:List Node}(h:zD2 l=true): ∃a b c,l=[a,b,c]/\zO a 98=true/\zO b 99=true/\zO c 99=true/\¬(b.Kind=42/\c.Kind=42):=by
 rcases l with _| ⟨a,_| ⟨b,_| ⟨c,_| ⟨d,r⟩⟩⟩⟩<;>simp[zD2]at h
 exact⟨a,b,c,rfl,h.1.1,h.1.2.1,h.1.2.2,λe=>by rcases h.2 with q|q;exact q e.1;exact q e.2⟩
theorem zzK{y:Node}(h:zO y 99=true):y.Kind=25/\zO y 98=true\/y.Kind=42:=by
 have h1:(y.Kind==25||y.Kind==42)=true:=zfX h;have h2:=zbY h;simp only[yQ,beq_iff_eq]at h1;rcases h1 with h1|h1
 ·refine .inl ⟨h1,?_⟩;show(y.Kind==25&&zat y)=true;rw[h1,h2];rfl
 ·exact .inr h1
theorem zGz{y:Node}(h:zhH y=true):zat y=true/\(y.Kind=22\/y.Kind=24\/y.Kind=25\/y.Kind=26\/y.Kind=27\/y.Kind=28\/y.Kind=29\/y.Kind=30\/y.Kind=31\/y.Kind=32\/y.Kind=33\/y.Kind=34\/y.Kind=35\/y.Kind=36\/y.Kind=37\/y.Kind=38\/y.Kind=39\/y.Kind=40):=by
 unfold zhH at h;rw[yQ]at h;rcases h with h|h
 ·have h1:stK y.Kind true=true:=zfX h;refine⟨zbY h,?_⟩;simp only[stK,qz4,yT,bne_iff_ne,ne_eq]at h1;omega
 ·have h1:(y.Kind==37)=true:=zfX h;exact⟨zbY h,by have:=eq_of_beq h1;omega⟩
theorem zVB{y:Node}(h:zO y 101=true)(no:Bool):(tkN y).ex no≠[]:=by
 obtain⟨he,hm⟩:=zcN h;rcases zgz he with h|h|h|h|h|h|h|h|h|h|h|h|h|h|h|h|h|h|h|h
 ·rw[zMS h];simp
 ·rw[zMb h];simp
 ·rw[zL7 h];simp
 ·rw[zLr h];simp
 ·rw[zMy h];simp
 ·rw[zIA h];simp
 ·rw[zBP h];simp
 ·rw[zB3 h];simp
 ·rw[zv5 h];simp[zf7]
 ·rw[zGN h];simp
 ·rw[zGk h];simp
 ·rw[zGv h];simp
 ·rw[zGK h];simp
 ·rw[zGQ h];simp
 ·rw[zDy h];split<;>simp
 ·rw[zGn h];simp
 ·rw[zGl h];simp
 ·rw[zGq h];simp
 ·rw[zGy h];simp
 ·rw[zGu h];simp
theorem zGx{y:Node}(h:zO y 101=true)(least:Int)(no:Bool):atT (tkN y) least no≠[]:=by
 unfold atT;split
 ·simp
 ·exact zVB h no
theorem zM9(i:Nat)(l v:List Str)(h1:i<l.length)(h2:0<v.length)(h3:l.length+v.length<=274877906944):zhT ((i:Nat):Int) l v=some (l.take i++(v++l.drop i),()):=by
 unfold zhT zHE;rw[yL ⟨by omega,by omega,h2,by omega⟩];rfl
section
variable {g:zi} {n:Nat}
theorem zTv(G:zbw g n)(ds:List Node)(no:Bool)(l:List Str)(hd:20*za9 ds<=n)(hk: ∀d∈ds,zO d 100=true)(hb:zaJ ds<=2097152)(hlen:l.length+(commas (declT no) (tkL ds)).length<=274877906944):
  Lp.loop (zc2 g) (ds,((ds.length:Nat):Int),0,no,l,())=some (no,l++commas (declT no) (tkL ds),()):=by
 have a1:=zmy ds
 have hdecl: ∀d,d∈ds->∀(i:Int) (l:List Str),l.length+(declT no (tkN d)).length<=274877906944->IntKind.wrap .i64 (i+1)=i+1->zeP g ds ((ds.length:Nat):Int) i no l d=some (.inl (ds,((ds.length:Nat):Int),i+1,no,l++declT no (tkN d),())):=by
  intro d hm i l hlen hw;obtain⟨h1,h2⟩:=zAZ (hk d hm);have b1:=zaT hm;have b2:=za7 hm;have b3:=zaR d;have b4:=zaA d;unfold zeP zi2;unfold declT at hlen⊢;rw[zdC,zjH]at hlen⊢;rcases h2 with h2| ⟨a,h2,ha⟩
  ·rw[h2]at hlen⊢;have hlen:l.length+[d.Name].length<=274877906944:=by simpa [tkL,k0]using hlen
   rw[zar _ _ _ hlen];simp only[qz1,zq,h2,hw];simp[tkL,k0]
  ·have c1:a∈d.L:=by rw[h2];exact qz7
   have c2:=zaT c1;have c3:=za7 c1;rw[h2,tk0]at hlen⊢;have hlen:l.length+(d.Name::[61]::atT (tkN a) 1 no:List Str).length<=274877906944:=hlen;rw[zar _ _ _ (by simp only[qz5,qz3,qz6]at hlen⊢;omega)]
   simp only[qz1,zq,h2,zCD];rw[yL (by simp),zar _ _ _ (by simp only[qz5,qz3,qz6]at hlen⊢;omega)]
   simp only[qz1];rw[G.at_ a 1 (by omega) ha (by omega) no _ (by simp only[qz5,qz3,qz6]at hlen⊢;omega),qz1,hw]
   simp
 rw[zzb]at hlen⊢;have:=zDi (zc2 g) (λi l=>(ds,((ds.length:Nat):Int),i,no,l,())) ds (λd=>declT no (tkN d)) [] (λl=>(no,l,())) (by omega) (λy r hy l hlen=>?_) (λi y h0 hm h1 h2 h3 h4 l hlen=>?_) (λhe l hlen=>?_) l (by simpa using hlen)
 ·simpa using this
 ·have hi:decide ((0:Int)< ((ds.length:Nat):Int))=true:=by rw[hy];simp only[qz3,yT];omega
  have h1:zN ds 0=some y:=by rw[hy];rfl
  simp only[zc2,hi,yB,h1,qz1,zq];rw[yK (by decide)];exact hdecl y (by rw[hy];exact qz7) 0 l hlen (by decide)
 ·simp only[zc2,h2,yB,h1,h3,qz1,zq];rw[zar _ _ _ (by simp only[qz5,qz3,qz6]at hlen⊢;omega)]
  simp only[qz1];rw[hdecl y hm i _ (by simp only[qz5,qz3,qz6]at hlen⊢;omega) (by rw[h4];rfl)]
  simp
 ·simp only[zc2,he,qz2,yA];simp
theorem zSG(G:zbw g n)(y:Node)(least:Int)(hd:20*zW y+11<=n+1)(ho:ziT y=true)(hb:zU y<=2097152):Wr (zhp g y least) (zaG (tkN y) least):=by
 intro no l hlen;have a1:=zaR y;have a2:=zaA y;unfold zhp;unfold zaG at hlen⊢;rw[zdC,zjH]at hlen⊢;simp only[zq];rcases zBK ho with h|h|h
 ·rw[h]at hlen⊢;show some (no,l,())=some (no,l++[],());simp
 ·have hm:=zbY (c:=118) ho;rw[zIY h,qz4]at hm;obtain⟨d,ds,hL,h1,h2⟩:=zhS hm.2
  have hk: ∀d∈y.L,zO d 100=true:=by
   rw[hL];intro k hk;rcases yP.1 hk with rfl|hk
   ·exact h1
   ·exact h2 k hk
  rw[h]at hlen⊢;have hlen:l.length+([118,97,114]::commas (declT no) (tkL y.L)).length<=274877906944:=hlen;show Option.bind (zn [[118,97,114]] no l) _=some (no,l++([118,97,114]::commas (declT no) (tkL y.L)),());rw[zar _ _ _ (by simp only[qz5,qz3,qz6]at hlen⊢;omega)]
  simp only[qz1];rw[zTv G y.L no _ (by omega) hk (by omega) (by simp only[qz5,qz3,qz6]at hlen⊢;omega)]
  simp
 ·obtain⟨he,hm⟩:=zcN h
  have e1:(y.Kind==42)=false:=by
   rcases zgz he with h|h|h|h|h|h|h|h|h|h|h|h|h|h|h|h|h|h|h|h<;>rw[h]<;>rfl
  have e2:(y.Kind==22)=false:=by
   rcases zgz he with h|h|h|h|h|h|h|h|h|h|h|h|h|h|h|h|h|h|h|h<;>rw[h]<;>rfl
  rw[e1,e2]at hlen⊢;simp only[qz2,yA]at hlen⊢;rw[G.at_ y least (by omega) h hb no l hlen];rfl
theorem zPP(G:zbw g n)(y:Node)(l:List Str)(hd:20*zW y+12<=n+1)(h:y.Kind=27)(hm:zat y=true)(hb:zU y<=2097152)(hlen:l.length+(tkN y).st.length<=274877906944):zbM g y false l=some (false,l++(tkN y).st,()):=by
 have a1:=zaR y;have a2:=zaA y;have hk: ∀k∈y.L,zW k<=za9 y.L/\zU k<=zaJ y.L:=λk hk=>⟨zaT hk,za7 hk⟩
 rw[zH8 h,qz4]at hm;obtain⟨a,b,hL,h1,h2⟩:=zdT hm.2;have ka:=hk a (by rw[hL];simp);have kb:=hk b (by rw[hL];simp)
 rw[zL6 h,hL,tk0,tk1]at hlen⊢;unfold zbM;simp only[zq];rw[h,hL];show Option.bind (g.za4 [119,104,105,108,101] a false l) (λr=>Option.bind (g.zaf b r.1 r.2.1) λr=>some (r.1,r.2.1,()))=_;rw[G.head a _ l (by omega) h1 (by omega) (by simp only[qz5,qz3,qz6]at hlen⊢;omega)]
 simp only[qz1];rw[G.stmt b _ (by omega) (ziE h2) (by omega) (by simp only[qz5,qz3,qz6]at hlen⊢;omega)]
 simp
theorem zQ2(G:zbw g n)(y:Node)(l:List Str)(hd:20*zW y+12<=n+1)(h:y.Kind=28)(hm:zat y=true)(hb:zU y<=2097152)(hlen:l.length+(tkN y).st.length<=274877906944):zbM g y false l=some (false,l++(tkN y).st,()):=by
 have a1:=zaR y;have a2:=zaA y;have hk: ∀k∈y.L,zW k<=za9 y.L/\zU k<=zaJ y.L:=λk hk=>⟨zaT hk,za7 hk⟩
 rw[zH9 h,qz4]at hm;obtain⟨a,b,hL,h1,h2⟩:=zdT hm.2;have ka:=hk a (by rw[hL];simp);have kb:=hk b (by rw[hL];simp)
 rw[zMG h,hL,tk0,tk1]at hlen⊢;unfold zbM;simp only[zq];rw[h,hL];show Option.bind (zn [[100,111]] false l) (λr=>Option.bind (g.zaf a r.1 r.2.1) λr=>Option.bind (g.za4 [119,104,105,108,101] b r.1 r.2.1) λr=>Option.bind (zn [[59]] r.1 r.2.1) λr=>some (r.1,r.2.1,()))=_;rw[zar _ _ _ (by simp only[qz5,qz3,qz6]at hlen⊢;omega)]
 simp only[qz1];rw[G.stmt a _ (by omega) (ziE h1) (by omega) (by simp only[qz5,qz3,qz6]at hlen⊢;omega)]
 simp only[qz1];rw[G.head b _ _ (by omega) h2 (by omega) (by simp only[qz5,qz3,qz6]at hlen⊢;omega)]
 simp only[qz1];rw[zar _ _ _ (by simp only[qz5,qz3,qz6]at hlen⊢;omega)]
 simp
theorem zQS(G:zbw g n)(y:Node)(l:List Str)(hd:20*zW y+12<=n+1)(h:y.Kind=30)(hm:zat y=true)(hb:zU y<=2097152)(hlen:l.length+(tkN y).st.length<=274877906944):zbM g y false l=some (false,l++(tkN y).st,()):=by
 have a1:=zaR y;have a2:=zaA y;have hk: ∀k∈y.L,zW k<=za9 y.L/\zU k<=zaJ y.L:=λk hk=>⟨zaT hk,za7 hk⟩
 rw[zGT h,qz4]at hm;obtain⟨a,b,c,hL,h1,h2,h3⟩:=zr1 hm.2;have ka:=hk a (by rw[hL];simp);have kb:=hk b (by rw[hL];simp);have kc:=hk c (by rw[hL];simp)
 rw[zMk h,hL,tk0,tk1,tk2]at hlen⊢;unfold zbM;simp only[zq];rw[h,hL];show Option.bind (zn [[102,111,114],[40]] false l) (λr=>Option.bind (g.za3 a 11 true r.2.1) λr=>Option.bind (zn [[105,110]] false r.2.1) λr=>Option.bind (g.zD b 0 r.1 r.2.1) λr=>Option.bind (zn [[41]] r.1 r.2.1) λr=>Option.bind (g.zaf c r.1 r.2.1) λr=>some (r.1,r.2.1,()))=_;rw[zar _ _ _ (by simp only[qz5,qz3,qz6]at hlen⊢;omega)]
 simp only[qz1];rw[G.begin_ a 11 (by omega) (zKA h1) (by omega) true _ (by simp only[qz5,qz3,qz6]at hlen⊢;omega)]
 simp only[qz1];rw[zar _ _ _ (by simp only[qz5,qz3,qz6]at hlen⊢;omega)]
 simp only[qz1];rw[G.at_ b 0 (by omega) h2 (by omega) false _ (by simp only[qz5,qz3,qz6]at hlen⊢;omega)]
 simp only[qz1];rw[zar _ _ _ (by simp only[qz5,qz3,qz6]at hlen⊢;omega)]
 simp only[qz1];rw[G.stmt c _ (by omega) (ziE h3) (by omega) (by simp only[qz5,qz3,qz6]at hlen⊢;omega)]
 simp
theorem zPD(G:zbw g n)(y:Node)(l:List Str)(hd:20*zW y+12<=n+1)(h:y.Kind=29)(hm:zat y=true)(hb:zU y<=2097152)(hlen:l.length+(tkN y).st.length<=274877906944):zbM g y false l=some (false,l++(tkN y).st,()):=by
 have a1:=zaR y;have a2:=zaA y;have hk: ∀k∈y.L,zW k<=za9 y.L/\zU k<=zaJ y.L:=λk hk=>⟨zaT hk,za7 hk⟩
 rw[zGV h,qz4]at hm;obtain⟨a,b,c,d,hL,h1,h2,h3,h4⟩:=zHP hm.2;have ka:=hk a (by rw[hL];simp);have kb:=hk b (by rw[hL];simp);have kc:=hk c (by rw[hL];simp);have kd:=hk d (by rw[hL];simp)
 rw[zLU h,hL,tk0,tk1,tk2,tk3]at hlen⊢;unfold zbM;simp only[zq];rw[h,hL];show Option.bind (zn [[102,111,114],[40]] false l) (λr=>Option.bind (g.za3 a 0 true r.2.1) λr=>Lp.loop (zcF g) ([a,b,c,d],[b,c],2,0,false,r.2.1,()))=_;rw[zar _ _ _ (by simp only[qz5,qz3,qz6]at hlen⊢;omega)]
 simp only[qz1];rw[G.begin_ a 0 (by omega) (zEo h1) (by omega) true _ (by simp only[qz5,qz3,qz6]at hlen⊢;omega)]
 simp only[qz1];refine zdy (n:=3) ?_ (by omega)
 have hs: ∀(i:Nat) (q:Node) (l:List Str),i<2->zN [b,c] (i:Int)=some q->ziT q=true->20*zW q+11<=n->zU q<=2097152->l.length+([59]::zaG (tkN q) 0 false).length<=274877906944->zcF g ([a,b,c,d],[b,c],2,(i:Int),false,l,())=some (.inl ([a,b,c,d],[b,c],2,((i+1:Nat):Int),false,l++([59]::zaG (tkN q) 0 false),())):=by
  intro i q l hi hg ho hd hb hlen;have w:IntKind.wrap .i64 ((i:Int)+1)=((i+1:Nat):Int):=by rw[wrap_i64 (by omega) (by omega)];rfl
  have hi:decide ((i:Int)<2)=true:=by simpa using by omega
  simp only[zcF,hi,yB,hg,qz1,zq];rw[zar _ _ _ (by simp only[qz5,qz3,qz6]at hlen⊢;omega)]
  simp only[qz1];rw[G.begin_ q 0 hd ho hb false _ (by simp only[qz5,qz3,qz6]at hlen⊢;omega),qz1,w]
  simp
 have e0: ∀l:List Str,l.length+([59]::zaG (tkN b) 0 false).length<=274877906944->zcF g ([a,b,c,d],[b,c],2,0,false,l,())=some (.inl ([a,b,c,d],[b,c],2,1,false,l++([59]::zaG (tkN b) 0 false),())):=λl h=>hs 0 b l (by omega) rfl (zq4 h2) (by omega) (by omega) h
 have e1: ∀l:List Str,l.length+([59]::zaG (tkN c) 0 false).length<=274877906944->zcF g ([a,b,c,d],[b,c],2,1,false,l,())=some (.inl ([a,b,c,d],[b,c],2,2,false,l++([59]::zaG (tkN c) 0 false),())):=λl h=>hs 1 c l (by omega) rfl (zq4 h3) (by omega) (by omega) h
 rw[zbV (e0 _ (by simp only[qz5,qz3,qz6]at hlen⊢;omega)),zbV (e1 _ (by simp only[qz5,qz3,qz6]at hlen⊢;omega))]
 refine zaL ?_;simp only[zcF];rw[yK (by decide),zar _ _ _ (by simp only[qz5,qz3,qz6]at hlen⊢;omega)]
 have w:IntKind.wrap .i64 ((([a,b,c,d].length:Nat):Int) -1)=3:=by show IntKind.wrap .i64 (((4:Nat):Int) -1)=3;decide
 simp only[qz1,w,zWs,zq];rw[G.stmt d _ (by omega) (ziE h4) (by omega) (by simp only[qz5,qz3,qz6]at hlen⊢;omega)]
 simp
theorem zVg(G:zbw g n)(y:Node)(l:List Str)(hd:20*zW y+12<=n+1)(h1:27<=y.Kind)(h2:y.Kind<=30)(hm:zat y=true)(hb:zU y<=2097152)(hlen:l.length+(tkN y).st.length<=274877906944):zbM g y false l=some (false,l++(tkN y).st,()):=by
 have:y.Kind=27\/y.Kind=28\/y.Kind=29\/y.Kind=30:=by omega
 rcases this with h|h|h|h
 ·exact zPP G y l hd h hm hb hlen
 ·exact zQ2 G y l hd h hm hb hlen
 ·exact zPD G y l hd h hm hb hlen
 ·exact zQS G y l hd h hm hb hlen
theorem zUe(G:zbw g n)(y:Node)(l:List Str)(hd:20*zW y+12<=n+1)(h:y.Kind=31\/y.Kind=32\/y.Kind=33\/y.Kind=34\/y.Kind=40)(hm:zat y=true)(hb:zU y<=2097152)(hlen:l.length+(tkN y).st.length<=274877906944):zh6 g y false l=some (false,l++(tkN y).st,()):=by
 have a1:=zaR y;have a2:=zaA y;have a3:=zmy y.L
 have hk: ∀k∈y.L,zO k 101=true:=by
  rcases h with h|h|h|h|h
  ·rw[zG8 h,qz4]at hm;rw[zgr hm.2];simp
  ·rw[zIm h,qz4]at hm;rw[zgr hm.2];simp
  ·rw[zIk h,qz4]at hm;rcases zIn hm.2 with e| ⟨a,e,ha⟩<;>rw[e]
   ·simp
   ·simpa using ha
  ·rw[zHf h,qz4]at hm;obtain⟨a,e,ha⟩:=zdq hm.2;rw[e];simpa using ha
  ·rw[zHR h,qz4]at hm;rw[zgr hm.2];simp
 have hw:=λl h=>zN9 (g:=g) (x:=y) (by omega) (λk hk1 l h=>G.at_ k 0 (by have:=zaT hk1;omega) (hk k hk1) (by have:=za7 hk1;omega) false l h) l h
 have hj: ∀l:List Str,l.length+((if(y.Name==([]:Str))=true then[]else[y.Name])++((tkL y.L).flatMap (λk=>atT k 0 false)++[[59]])).length<=274877906944->zcd g false l y=some (false,l++((if(y.Name==([]:Str))=true then[]else[y.Name])++((tkL y.L).flatMap (λk=>atT k 0 false)++[[59]])),()):=by
  intro l hlen;unfold zcd;by_cases hn:(y.Name==([]:Str))=true
  ·rw[hn]at hlen⊢;simp only[yB,List.nil_append,yO,qz2,yA]at hlen⊢;exact hw l hlen
  ·have hn:(y.Name==([]:Str))=false:=by simpa using hn
   rw[hn]at hlen⊢;simp only[qz2,yA,yN,yB]at hlen⊢;rw[zar _ _ _ (by simp only[qz5,qz3,qz6]at hlen⊢;omega)]
   simp only[qz1];rw[hw _ (by simp only[qz5,qz3,qz6]at hlen⊢;omega)]
   simp
 have hst:(tkN y).st=zhx y++((tkL y.L).flatMap (λk=>atT k 0 false)++[[59]]):=by
  rcases h with h|h|h|h|h
  ·exact zMI h
  ·exact zMc h
  ·exact zGE h
  ·exact zLQ h
  ·exact zMl h
 rw[hst]at hlen⊢;unfold zhx at hlen⊢;rw[yE]at hlen⊢;unfold zh6;simp only[zq]
 have hgo: ∀w:Str,l.length+([w]++((if(y.Name==([]:Str))=true then[]else[y.Name])++((tkL y.L).flatMap (λk=>atT k 0 false)++[[59]]))).length<=274877906944->Option.bind (zn [w] false l) (λr=>zcd g r.1 r.2.1 y)=some (false,l++([w]++((if(y.Name==([]:Str))=true then[]else[y.Name])++((tkL y.L).flatMap (λk=>atT k 0 false)++[[59]]))),()):=by
  intro w hlen;rw[zar _ _ _ (by simp only[qz5,qz3,qz6]at hlen⊢;omega)]
  simp only[qz1];rw[hj _ (by simp only[qz5,qz3,qz6]at hlen⊢;omega)]
  simp
 rcases h with h|h|h|h|h
 ·rw[h]at hlen⊢;exact hgo _ hlen
 ·rw[h]at hlen⊢;exact hgo _ hlen
 ·rw[h]at hlen⊢;exact hgo _ hlen
 ·rw[h]at hlen⊢;exact hgo _ hlen
 ·rw[h]at hlen⊢;exact hj l hlen
end
def zgh:List Str:=[[40],[41],[91],[93],[123],[125],[46],[44],[58],[59],[63],[116,104,105,115],[110,117,108,108],[116,114,117,101],[102,97,108,115,101],[102,117,110,99,116,105,111,110],[110,101,119],[45],[43],[33],[116,121,112,101,111,102],[100,101,108,101,116,101],[118,111,105,100],[43,43],[45,45],[42],[47],[37],[60],[62],[60,61],[62,61],[61,61],[33,61],[61,61,61],[33,61,61],[105,110],[105,110,115,116,97,110,99,101,111,102],[38,38],[124,124],[61],[43,61],[45,61],[42,61],[47,61],[37,61],[118,97,114],[105,102],[101,108,115,101],[119,104,105,108,101],[100,111],[102,111,114],[98,114,101,97,107],[99,111,110,116,105,110,117,101],[114,101,116,117,114,110],[116,104,114,111,119],[116,114,121],[99,97,116,99,104],[102,105,110,97,108,108,121],[115,119,105,116,99,104],[99,97,115,101],[100,101,102,97,117,108,116]]
structure Cls (c:Str->Tok):Prop where
 op: ∀w∈zgh,zct (c w) w
 name: ∀s,zbU s=true->(c s).kind=1/\(c s).text=s
 ident: ∀s,zfD s=true->((c s).kind=1\/(c s).kind=2)/\(c s).text=s
 num: ∀n:Int,0<=n->n<=9007199254740991->(c (Lib.itoa n)).kind=3/\(c (Lib.itoa n)).num=n
 str: ∀s,zhu s=true->s.length<=100000000->(c (zdm s)).kind=4/\(c (zdm s)).text=s
 fresh: ∀s,(c s).fresh=false
 opt: ∀s,opK (c s)=true->(c s).text=s
def zrH:List Str:=[[116,104,105,115],[110,117,108,108],[116,114,117,101],[102,97,108,115,101],[102,117,110,99,116,105,111,110],[40],[91],[123],[110,101,119],[45],[43],[33],[116,121,112,101,111,102],[100,101,108,101,116,101],[118,111,105,100],[43,43],[45,45]]
def opB(w:Str):Bool:=ztP.contains w||zir.contains w
def Beg(tight:Bool)(t:zB):Prop:=∃a r,t=a::r/\a.fresh=false/\(a.kind=1\/a.kind=3\/a.kind=4\/∃w,zct a w/\w∈zrH/\(tight=true->opB w=false))
theorem Beg.loose{b:Bool}{t:zB}(h:Beg b t):Beg false t:=by
 obtain⟨a,r,e,hf,h⟩:=h;refine⟨a,r,e,hf,?_⟩;rcases h with h|h|h| ⟨w,h1,h2,_⟩
 ·exact .inl h
 ·exact .inr (.inl h)
 ·exact .inr (.inr (.inl h))
 ·exact .inr (.inr (.inr ⟨w,h1,h2,λe=>by cases e⟩))
theorem zdF{a:Tok}(h:a.kind=1\/a.kind=3\/a.kind=4):opK a=false:=by
 unfold opK;rcases h with h|h|h<;>rw[h]<;>rfl
theorem Beg.is{b:Bool}{t:zB}(h:Beg b t){s:Str}(hs:zrH.contains s=false):tIs s t=false:=by
 obtain⟨a,r,rfl,_,h⟩:=h;rcases h with h|h|h| ⟨w,h1,h2,_⟩
 ·show(opK a&&_)=false;rw[zdF (.inl h)];rfl
 ·show(opK a&&_)=false;rw[zdF (.inr (.inl h))];rfl
 ·show(opK a&&_)=false;rw[zdF (.inr (.inr h))];rfl
 ·rw[h1.is,yH];rintro rfl;rw[show zrH.contains w=true by simpa using h2]at hs;cases hs
theorem Beg.una{t:zB}(h:Beg true t):zbv ztP t=false/\zbv zir t=false:=by
 obtain⟨a,r,rfl,_,h⟩:=h;rcases h with h|h|h| ⟨w,h1,h2,h3⟩
 ·exact⟨by show(opK a&&_)=false;rw[zdF (.inl h)];rfl,by show(opK a&&_)=false;rw[zdF (.inl h)];rfl⟩
 ·exact⟨by show(opK a&&_)=false;rw[zdF (.inr (.inl h))];rfl,by show(opK a&&_)=false;rw[zdF (.inr (.inl h))];rfl⟩
 ·exact⟨by show(opK a&&_)=false;rw[zdF (.inr (.inr h))];rfl,by show(opK a&&_)=false;rw[zdF (.inr (.inr h))];rfl⟩
 ·have:=h3 rfl;unfold opB at this;rw[Bool.or_eq_false_iff]at this;rw[h1.any,h1.any];exact this
theorem Beg.zGJ{b:Bool}{t:zB}(h:Beg b t):(zX t==0)=false:=by
 obtain⟨a,r,rfl,_,h⟩:=h;show(a.kind==0)=false;rcases h with h|h|h| ⟨w,h1,_⟩
 ·rw[h];rfl
 ·rw[h];rfl
 ·rw[h];rfl
 ·rcases h1.kind with e|e<;>rw[e]<;>rfl
theorem Beg.fresh{b:Bool}{t:zB}(h:Beg b t):ze6 t=false:=by
 obtain⟨a,r,rfl,h,_⟩:=h;exact h
def zfk(no:Bool)(w:Str):Int:=
 if((lvS no w).1==0)=false then(lvS no w).1
 else if(w==([46]:Str)||w==([91]:Str))=true then 12
 else if(w==([40]:Str))=true then 11
 else if zir.contains w=true then 10
 else if(w==([63]:Str))=true then 2
 else if zt6.contains w=true then 1
 else if(w==([44]:Str))=true then 0
 else -1
def zbX(no:Bool):zB->Int
 |t::_=>if opK t=true then zfk no t.text else -1
 | []=> -1
theorem zct.fol{a:Tok}{w:Str}(h:zct a w)(no:Bool)(r:zB):zbX no (a::r)=zfk no w:=by
 show(if opK a=true then zfk no a.text else -1)=_;rw[h.op,h.text];rfl
theorem zJh{s:Str}{t:zB}(h:tIs s t=true): ∃a r,t=a::r/\zct a s:=by
 cases t with
 |nil=>cases h
 |cons a r=>
  have h:(opK a&&(a.text==s))=true:=h;rw[qz4]at h;exact⟨a,r,rfl,h.1,eq_of_beq h.2⟩
theorem zNr{l:List Str}{t:zB}(h:zbv l t=true): ∃a r w,t=a::r/\zct a w/\w∈l:=by
 cases t with
 |nil=>cases h
 |cons a r=>
  have h:(opK a&&l.contains a.text)=true:=h;rw[qz4]at h;exact⟨a,r,a.text,rfl,⟨h.1,rfl⟩,by simpa using h.2⟩
theorem zzq{no:Bool}{t:zB}{s:Str}(h:zbX no t≠zfk no s):tIs s t=false:=by
 cases e:tIs s t with
 |false=>rfl
 |true=>
  obtain⟨a,r,rfl,ho⟩:=zJh e;exact absurd (ho.fol no r) h
theorem zK3{no:Bool}{t:zB}{l:List Str}{k:Int}(hl: ∀w∈l,zfk no w=k)(h:zbX no t≠k):zbv l t=false:=by
 cases e:zbv l t with
 |false=>rfl
 |true=>
  obtain⟨a,r,w,rfl,ho,hw⟩:=zNr e;exact absurd ((ho.fol no r).trans (hl w hw)) h
theorem zKJ{no:Bool}{t:zB}(h:zbX no t<12):tIs [46] t=false/\tIs [91] t=false:=
 ⟨zzq (no:=no) (by rw[show zfk no [46]=12 by cases no<;>decide];omega),zzq (no:=no) (by rw[show zfk no [91]=12 by cases no<;>decide];omega)⟩
theorem zQl{no:Bool}{t:zB}(h:zbX no t<11):tIs [40] t=false:=zzq (no:=no) (by rw[show zfk no [40]=11 by cases no<;>decide];omega)
theorem zEt{no:Bool}{t:zB}(h:zbX no t<10):zbv zir t=false:=zK3 (no:=no) (k:=10) (by cases no<;>decide) (by omega)
theorem zu1{no:Bool}{t:zB}(h:zbX no t<1):zbv zt6 t=false:=zK3 (no:=no) (k:=1) (by cases no<;>decide) (by omega)
theorem zri{no:Bool}{t:zB}(h:zbX no t<2):tIs [63] t=false:=zzq (no:=no) (by rw[show zfk no [63]=2 by cases no<;>decide];omega)
theorem zOt{no:Bool}{t:zB}(h:zbX no t<0):tIs [44] t=false:=zzq (no:=no) (by rw[show zfk no [44]=0 by cases no<;>decide];omega)
theorem zPN{no:Bool}{t:zB}:(zdo no t).1=0\/(zdo no t).1=zbX no t:=by
 cases t with
 |nil=>exact .inl rfl
 |cons a r=>
  show(if opK a=true then lvS no a.text else(0,0)).1=0\/(if opK a=true then lvS no a.text else(0,0)).1=(if opK a=true then zfk no a.text else -1)
  cases opK a with
  |false=>exact .inl rfl
  |true=>
   simp only[yB];unfold zfk;cases h:(lvS no a.text).1==0 with
   |true=>exact .inl (eq_of_beq h)
   |false=>exact .inr rfl
theorem zle{no:Bool}{t:zB}{least:Int}{x:Node}(h:zbX no t<least):zpN no least x t (x,t):=by
 refine zMF ?_;rcases zPN (no:=no) (t:=t)with e|e
 ·rw[e];simp
 ·rw[e,show decide (zbX no t<least)=true by simpa using h];rfl
theorem zmG{no:Bool}{t:zB}{x:Node}(h:zbX no t<0):COMMA no x t (x,t):=zKv (zOt h)
theorem zk1{no:Bool}{t:zB}{x:Node}{calls:Bool}(h:zbX no t<11):zjb calls x t (x,t):=
 zDQ (zKJ (no:=no) (by omega)).1 (zKJ (no:=no) (by omega)).2 (by rw[zQl h,Bool.and_false])
def MM(calls:Bool)(t:zB)(v:Node×zB):Prop:=∃y t1,MADE t (y,t1)/\zjb calls y t1 v
theorem zrL{no:Bool}{t r:zB}{x:Node}(hb:Beg true t)(h:MM true t (x,r))(hf:zbX no r<=8):zkp t (x,r):=by
 obtain⟨y,t1,h1,h2⟩:=h;exact zp2 hb.una.1 hb.una.2 h1 h2 (zEt (no:=no) (by omega))
def zgb(no:Bool)(x:Node):Prop:=¬(no=true/\x.Kind=17/\x.Name=[105,110])
section
variable (c:Str->Tok)
def T(l:List Str):zB:=l.map c
theorem zbo(a b:List Str):T c (a++b)=T c a++T c b:=by simp[T]
theorem zba(a:Str)(b:List Str):T c (a::b)=c a::T c b:=rfl
structure RT (x:Node):Prop where
 beg: ∀no r,Beg (decide (11<=(tkN x).lvl)) (T c ((tkN x).ex no)++r)
 lab: ∀no r,tIs [58] r=false->zX (T c ((tkN x).ex no)++r)=1->tIs [58] (T c ((tkN x).ex no)++r).tail=false
 mm: ∀no r v calls,zgb no x->(12<=(tkN x).lvl\/(11<=(tkN x).lvl/\calls=true))->zjb calls x r v->MM calls (T c ((tkN x).ex no)++r) v
 un: ∀no r,zgb no x->9<=(tkN x).lvl->zbX no r<=8->zkp (T c ((tkN x).ex no)++r) (x,r)
 bin: ∀no r v least,zgb no x->3<=least->least<=(tkN x).lvl->zbX no r<=8->zbX no r<=(tkN x).lvl->zpN no least x r v->BINARY no least (T c ((tkN x).ex no)++r) v
 asg: ∀no r,zgb no x->1<=(tkN x).lvl->zbX no r<=0->ASSIGN no (T c ((tkN x).ex no)++r) (x,r)
 exp: ∀no r v,zgb no x->zbX no r<=0->COMMA no x r v->EXPR no (T c ((tkN x).ex no)++r) v
variable {c}
theorem zCE{x:Node}(h: ∀no r,zgb no x->1<=(tkN x).lvl->zbX no r<=0->ASSIGN no (T c ((tkN x).ex no)++r) (x,r))(hl:1<=(tkN x).lvl):
  ∀no r v,zgb no x->zbX no r<=0->COMMA no x r v->EXPR no (T c ((tkN x).ex no)++r) v:=λno r v hi hf hc=>zCy (h no r hi hl hf) hc
theorem zHg{x:Node}(h: ∀no r v least,zgb no x->3<=least->least<=(tkN x).lvl->zbX no r<=8->zbX no r<=(tkN x).lvl->zpN no least x r v->BINARY no least (T c ((tkN x).ex no)++r) v)(hl:3<=(tkN x).lvl):
  ∀no r,zgb no x->1<=(tkN x).lvl->zbX no r<=0->ASSIGN no (T c ((tkN x).ex no)++r) (x,r):=λno r hi _ hf=>
 ziJ (h no r _ 3 hi (by omega) hl (by omega) (by omega) (zle (by omega))) (zri (no:=no) (by omega)) (zu1 (no:=no) (by omega))
theorem zRm{x:Node}(h: ∀no r,zgb no x->9<=(tkN x).lvl->zbX no r<=8->zkp (T c ((tkN x).ex no)++r) (x,r))(hl:9<=(tkN x).lvl):
  ∀no r v least,zgb no x->3<=least->least<=(tkN x).lvl->zbX no r<=8->zbX no r<=(tkN x).lvl->zpN no least x r v->BINARY no least (T c ((tkN x).ex no)++r) v:=λno r v least hi _ _ hf _ hb=>
 zox (h no r hi hl hf) hb
theorem zWk{x:Node}(hg: ∀no r,Beg (decide (11<=(tkN x).lvl)) (T c ((tkN x).ex no)++r))(h: ∀no r v calls,zgb no x->(12<=(tkN x).lvl\/(11<=(tkN x).lvl/\calls=true))->zjb calls x r v->MM calls (T c ((tkN x).ex no)++r) v)(hl:11<=(tkN x).lvl):
  ∀no r,zgb no x->9<=(tkN x).lvl->zbX no r<=8->zkp (T c ((tkN x).ex no)++r) (x,r):=λno r hi _ hf=>by
 have hb:=hg no r;rw[show decide (11<=(tkN x).lvl)=true by simpa using hl]at hb;exact zrL hb (h no r _ true hi (.inr ⟨hl,rfl⟩) (zk1 (no:=no) (by omega))) hf
theorem RT.zH0{x:Node}(hl:11<=(tkN x).lvl)(beg: ∀no r,Beg true (T c ((tkN x).ex no)++r))(lab: ∀no r,tIs [58] r=false->zX (T c ((tkN x).ex no)++r)=1->tIs [58] (T c ((tkN x).ex no)++r).tail=false)
  (mm: ∀no r v calls,zgb no x->(12<=(tkN x).lvl\/(11<=(tkN x).lvl/\calls=true))->zjb calls x r v->MM calls (T c ((tkN x).ex no)++r) v):RT c x:=
 have hg: ∀no r,Beg (decide (11<=(tkN x).lvl)) (T c ((tkN x).ex no)++r):=by rw[show decide (11<=(tkN x).lvl)=true by simpa using hl];exact beg
 have un:=zWk hg mm hl;have bin:=zRm un (by omega);have asg:=zHg bin (by omega)
 ⟨hg,lab,mm,un,bin,asg,zCE asg (by omega)⟩
theorem RT.of9{x:Node}(hl:(tkN x).lvl=9\/(tkN x).lvl=10)(beg: ∀no r,Beg false (T c ((tkN x).ex no)++r))(lab: ∀no r,tIs [58] r=false->zX (T c ((tkN x).ex no)++r)=1->tIs [58] (T c ((tkN x).ex no)++r).tail=false)
  (un: ∀no r,zgb no x->zbX no r<=8->zkp (T c ((tkN x).ex no)++r) (x,r)):RT c x:=
 have hg: ∀no r,Beg (decide (11<=(tkN x).lvl)) (T c ((tkN x).ex no)++r):=by rw[show decide (11<=(tkN x).lvl)=false by simp;omega];exact beg
 have un': ∀no r,zgb no x->9<=(tkN x).lvl->zbX no r<=8->zkp (T c ((tkN x).ex no)++r) (x,r):=λno r hi _ hf=>un no r hi hf
 have bin:=zRm un' (by omega);have asg:=zHg bin (by omega)
 ⟨hg,lab,λ_ _ _ _ _ h _=>by omega,un',bin,asg,zCE asg (by omega)⟩
theorem RT.of3{x:Node}(hl:3<=(tkN x).lvl/\(tkN x).lvl<=8)(beg: ∀no r,Beg false (T c ((tkN x).ex no)++r))(lab: ∀no r,tIs [58] r=false->zX (T c ((tkN x).ex no)++r)=1->tIs [58] (T c ((tkN x).ex no)++r).tail=false)
  (bin: ∀no r v least,zgb no x->3<=least->least<=(tkN x).lvl->zbX no r<=(tkN x).lvl->zpN no least x r v->BINARY no least (T c ((tkN x).ex no)++r) v):RT c x:=
 have hg: ∀no r,Beg (decide (11<=(tkN x).lvl)) (T c ((tkN x).ex no)++r):=by rw[show decide (11<=(tkN x).lvl)=false by simp;omega];exact beg
 have bin': ∀no r v least,zgb no x->3<=least->least<=(tkN x).lvl->zbX no r<=8->zbX no r<=(tkN x).lvl->zpN no least x r v->BINARY no least (T c ((tkN x).ex no)++r) v:=λno r v least hi h1 h2 _ h3 hb=>bin no r v least hi h1 h2 h3 hb
 have asg:=zHg bin' (by omega)
 ⟨hg,lab,λ_ _ _ _ _ h _=>by omega,λ_ _ _ h _=>by omega,bin',asg,zCE asg (by omega)⟩
theorem RT.of1{x:Node}(hl:(tkN x).lvl=1\/(tkN x).lvl=2)(beg: ∀no r,Beg false (T c ((tkN x).ex no)++r))(lab: ∀no r,tIs [58] r=false->zX (T c ((tkN x).ex no)++r)=1->tIs [58] (T c ((tkN x).ex no)++r).tail=false)
  (asg: ∀no r,zgb no x->zbX no r<=0->ASSIGN no (T c ((tkN x).ex no)++r) (x,r)):RT c x:=
 have hg: ∀no r,Beg (decide (11<=(tkN x).lvl)) (T c ((tkN x).ex no)++r):=by rw[show decide (11<=(tkN x).lvl)=false by simp;omega];exact beg
 have asg': ∀no r,zgb no x->1<=(tkN x).lvl->zbX no r<=0->ASSIGN no (T c ((tkN x).ex no)++r) (x,r):=λno r hi _ hf=>asg no r hi hf
 ⟨hg,lab,λ_ _ _ _ _ h _=>by omega,λ_ _ _ h _=>by omega,λ_ _ _ _ _ h1 h2=>by omega,asg',zCE asg' (by omega)⟩
theorem RT.of0{x:Node}(hl:(tkN x).lvl=0)(beg: ∀no r,Beg false (T c ((tkN x).ex no)++r))(lab: ∀no r,tIs [58] r=false->zX (T c ((tkN x).ex no)++r)=1->tIs [58] (T c ((tkN x).ex no)++r).tail=false)
  (exp: ∀no r v,zgb no x->zbX no r<=0->COMMA no x r v->EXPR no (T c ((tkN x).ex no)++r) v):RT c x:=
 have hg: ∀no r,Beg (decide (11<=(tkN x).lvl)) (T c ((tkN x).ex no)++r):=by rw[show decide (11<=(tkN x).lvl)=false by simp;omega];exact beg
 ⟨hg,lab,λ_ _ _ _ _ h _=>by omega,λ_ _ _ h _=>by omega,λ_ _ _ _ _ h1 h2=>by omega,λ_ _ _ h _=>by omega,exp⟩
theorem at_in{x:Node}{least:Int}{no:Bool}(h: ¬(decide ((tkN x).lvl<least)||((no&&((tkN x).x.Kind==17))&&((tkN x).x.Name==([105,110]:Str))))=true):least<=(tkN x).lvl/\zgb no x:=by
 rw[zdC]at h;simp only[yQ,yT,not_or,qz4,beq_iff_eq]at h;exact⟨by omega,λe=>h.2 ⟨⟨e.1,e.2.1⟩,e.2.2⟩⟩
section
variable (C:Cls c)
include C
theorem zai{w:Str}(h:zgh.contains w=true):zct (c w) w:=C.op w (by simpa using h)
theorem zjc{x:Node}(R:RT c x)(r:zB):MADE (T c ([40]::((tkN x).ex false++[[41]]))++r) (x,r):=by
 have o1:=zai C (w:=[40]) (by decide);have o2:=zai C (w:=[41]) (by decide);rw[zba,zbo,yI,yE];refine zoU (by rw[o1.is];decide) ?_
 have hx:=R.exp false (c [41]::r) (x,c [41]::r) (λh=>by cases h.1) (by rw[o2.fol];decide) (zmG (by rw[o2.fol];decide))
 exact zvW o1 hx (by rw[o2.is];decide)
theorem zpH(b:Bool)(l:List Str)(r:zB):Beg b (T c ([40]::l)++r):=
 ⟨c [40],T c l++r,rfl,C.fresh _,.inr (.inr (.inr ⟨[40],zai C (by decide),by decide,λ_=>by decide⟩))⟩
theorem zli{x:Node}(R:RT c x)(least:Int)(no:Bool)(r:zB):Beg (decide (11<=least)) (T c (atT (tkN x) least no)++r):=by
 unfold atT;split
 ·exact zpH C _ _ _
 ·rename_i h;have hb:=R.beg no r;simp only[yQ,yT,not_or]at h;cases hl:decide (11<=least)with
  |false=>exact hb.loose
  |true=>
   have:11<=least:=by simpa using hl
   rw[show decide (11<=(tkN x).lvl)=true by simp;omega]at hb
   exact hb
theorem zM6{x:Node}(R:RT c x)(least:Int)(no:Bool)(r:zB)(h1:tIs [58] r=false)(h2:zX (T c (atT (tkN x) least no)++r)=1):tIs [58] (T c (atT (tkN x) least no)++r).tail=false:=by
 unfold atT at h2⊢;split at h2
 ·exfalso;have o1:=zai C (w:=[40]) (by decide);have:=(o1.kinds (T c ((tkN x).ex false++[[41]])++r)).1;rw[yH]at this;exact this h2
 ·rename_i h;rw[yK h];exact R.lab no r h1 h2
theorem zLK{x:Node}(R:RT c x)(least:Int)(no calls:Bool)(r:zB)(v:Node×zB)(hl:least=12\/(least=11/\calls=true))(h:zjb calls x r v):MM calls (T c (atT (tkN x) least no)++r) v:=by
 unfold atT;split
 ·exact⟨x,r,zjc C R r,h⟩
 ·rename_i hc;obtain⟨h1,h2⟩:=at_in hc;exact R.mm no r v calls h2 (by rcases hl with rfl| ⟨rfl,hcc⟩;exact .inl h1;exact .inr ⟨h1,hcc⟩) h
theorem zRs{x:Node}(R:RT c x)(no:Bool)(r:zB)(hf:zbX no r<=8)(least:Int)(hl:9<=least):zkp (T c (atT (tkN x) least no)++r) (x,r):=by
 unfold atT;split
 ·exact zrL (zpH C true _ _) ⟨x,r,zjc C R r,zk1 (no:=no) (by omega)⟩ hf
 ·rename_i hc;obtain⟨h1,h2⟩:=at_in hc;exact R.un no r h2 (by omega) hf
theorem zC3{x:Node}(R:RT c x)(no:Bool)(r:zB)(v:Node×zB)(L least:Int)(h1:3<=least)(h2:least<=L)(hf:zbX no r<=8)(hf2:zbX no r<=L)(hb:zpN no least x r v):BINARY no least (T c (atT (tkN x) L no)++r) v:=by
 unfold atT;split
 ·exact zox (zrL (zpH C true _ _) ⟨x,r,zjc C R r,zk1 (no:=no) (by omega)⟩ hf) hb
 ·rename_i hc;obtain⟨h3,h4⟩:=at_in hc;exact R.bin no r v least h4 h1 (by omega) hf (by omega) hb
theorem zm0{x:Node}(R:RT c x)(no:Bool)(r:zB)(hf:zbX no r<=0)(L:Int)(hL:1<=L):ASSIGN no (T c (atT (tkN x) L no)++r) (x,r):=by
 unfold atT;split
 ·exact ziJ (zox (zrL (no:=no) (zpH C true _ _) ⟨x,r,zjc C R r,zk1 (no:=no) (by omega)⟩ (by omega)) (zle (by omega))) (zri (no:=no) (by omega)) (zu1 (no:=no) (by omega))
 ·rename_i hc;obtain⟨h3,h4⟩:=at_in hc;exact R.asg no r h4 (by omega) hf
theorem zCm{x:Node}(R:RT c x)(no:Bool)(r:zB)(v:Node×zB)(hf:zbX no r<=0)(hc:COMMA no x r v)(L:Int):EXPR no (T c (atT (tkN x) L no)++r) v:=by
 unfold atT;split
 ·exact zCy (ziJ (zox (zrL (no:=no) (zpH C true _ _) ⟨x,r,zjc C R r,zk1 (no:=no) (by omega)⟩ (by omega)) (zle (by omega))) (zri (no:=no) (by omega)) (zu1 (no:=no) (by omega))) hc
 ·rename_i hc';obtain⟨h3,h4⟩:=at_in hc';exact R.exp no r v h4 hf hc
def zUp(w:Str):Bool:=[[41],[93],[125],[58],[59]].contains w
theorem at_end{x:Node}(R:RT c x)(no:Bool)(w:Str)(r:zB)(hw:zUp w=true)(ho:zgh.contains w=true)(L:Int):EXPR no (T c (atT (tkN x) L no)++(c w::r)) (x,c w::r):=by
 have o:=zai C (w:=w) ho
 have hf:zfk no w= -1:=by
  have:w∈([[41],[93],[125],[58],[59]]:List Str):=by simpa [zUp]using hw
  simp only[yP,List.not_mem_nil,or_false]at this;rcases this with rfl|rfl|rfl|rfl|rfl<;>cases no<;>decide
 exact zCm C R no _ _ (by rw[o.fol,hf];decide) (zmG (by rw[o.fol,hf];decide)) L
end
end
theorem zmf{x:Node}(ho:zao x=true):(x.Kind≠2->x.Kind≠9->x.Text=[])/\(x.Kind≠10->x.Kind≠39->x.Names=[])/\(x.Kind≠1->x.Kind≠6->x.Kind≠16->x.Num=0):=by
 simp only[zao,qz4,yQ,beq_iff_eq,List.isEmpty_iff]at ho;refine⟨λh1 h2=>?_,λh1 h2=>?_,λh1 h2 h3=>?_⟩
 ·rcases ho.1.2 with h|h|h
  ·exact h
  ·exact absurd h h1
  ·exact absurd h h2
 ·rcases ho.2.2.2.1 with h|h|h
  ·exact h
  ·exact absurd h h1
  ·exact absurd h h2
 ·have:=ho.2.2.1;unfold zbH at this;rw[yK (by simpa using h1),yK (by simp[h2,h3])]at this;simpa using this
def zCo:List Int:=[3,10,11,15,16,17,18,20,23,31,32,35,38,39]
theorem ze4{x:Node}(ho:zao x=true)(h:zCo.contains x.Kind=false):x.Name=[]:=by
 have h1:=(zaN ho).1;have h:x.Kind∉zCo:=by simpa using h
 simp only[zCo,yP,List.not_mem_nil,or_false,not_or]at h;unfold zab at h1;rw[yK (by simp;omega),yK (by simp;omega),yK (by simp;omega),yK (by simp;omega),yK (by simp;omega),yK (by simp;omega),yK (by simp;omega),yK (by simp;omega),yK (by simp;omega)]at h1
 simpa using h1
theorem zl3{x:Node}{k:Int}(h:x.Kind=k)(ho:zao x=true)(hk:([1,2,6,9,10,16,39]:List Int).contains k=false):x=ndN k x.Name x.L:=by
 obtain⟨g1,g2,g3⟩:=zmf ho;have hk:k∉([1,2,6,9,10,16,39]:List Int):=by simpa using hk
 simp only[yP,List.not_mem_nil,or_false,not_or]at hk;have h1:=g1 (by omega) (by omega);have h2:=g2 (by omega) (by omega);have h3:=g3 (by omega) (by omega) (by omega);cases x;simp only at h h1 h2 h3;subst h;subst h1;subst h2;subst h3;rfl
theorem zd0{x:Node}{k:Int}(h:x.Kind=k)(ho:zao x=true)(hk:([1,2,6,9,10,16,39]:List Int).contains k=false)(hn:zCo.contains k=false):x=nd k x.L:=by
 have e:=zl3 h ho hk;have n:=ze4 ho (by rw[h];exact hn)
 rw[n]at e;exact e
theorem zWy{x:Node}(h:x.Kind=1)(ho:zao x=true)(hl:x.L=[]):x=⟨1,[],x.Num,[],[],[]⟩:=by
 obtain⟨g1,g2,g3⟩:=zmf ho;have h1:=g1 (by omega) (by omega);have h2:=g2 (by omega) (by omega);have n:=ze4 ho (by rw[h];decide)
 cases x;simp only at h h1 h2 n hl;subst h;subst h1;subst h2;subst n;subst hl;rfl
theorem zWO{x:Node}(h:x.Kind=2)(ho:zao x=true)(hl:x.L=[]):x=⟨2,[],0,x.Text,[],[]⟩:=by
 obtain⟨g1,g2,g3⟩:=zmf ho;have h2:=g2 (by omega) (by omega);have h3:=g3 (by omega) (by omega) (by omega);have n:=ze4 ho (by rw[h];decide)
 cases x;simp only at h h2 h3 n hl;subst h;subst h2;subst h3;subst n;subst hl;rfl
theorem zWU{x:Node}(h:x.Kind=9)(ho:zao x=true):x=⟨9,[],0,x.Text,[],x.L⟩:=by
 obtain⟨g1,g2,g3⟩:=zmf ho;have h2:=g2 (by omega) (by omega);have h3:=g3 (by omega) (by omega) (by omega);have n:=ze4 ho (by rw[h];decide)
 cases x;simp only at h h2 h3 n;subst h;subst h2;subst h3;subst n;rfl
theorem zWD{x:Node}(h:x.Kind=6)(ho:zao x=true)(hl:x.L=[]):x=⟨6,[],x.Num,[],[],[]⟩:=by
 obtain⟨g1,g2,g3⟩:=zmf ho;have h1:=g1 (by omega) (by omega);have h2:=g2 (by omega) (by omega);have n:=ze4 ho (by rw[h];decide)
 cases x;simp only at h h1 h2 n hl;subst h;subst h1;subst h2;subst n;subst hl;rfl
theorem zVL{x:Node}(h:x.Kind=16)(ho:zao x=true):x=⟨16,x.Name,x.Num,[],[],x.L⟩:=by
 obtain⟨g1,g2,g3⟩:=zmf ho;have h1:=g1 (by omega) (by omega);have h2:=g2 (by omega) (by omega);cases x;simp only at h h1 h2;subst h;subst h1;subst h2;rfl
theorem zTM{x:Node}{k:Int}(h:x.Kind=k)(hk:k=10\/k=39)(ho:zao x=true):x=⟨k,x.Name,0,[],x.Names,x.L⟩:=by
 obtain⟨g1,g2,g3⟩:=zmf ho;have h1:=g1 (by omega) (by omega);have h3:=g3 (by omega) (by omega) (by omega);cases x;simp only at h h1 h3;subst h;subst h1;subst h3;rfl
theorem zo0{x:Node}(h:x.Kind=1\/x.Kind=2\/x.Kind=3\/x.Kind=4\/x.Kind=5\/x.Kind=6\/x.Kind=7\/x.Kind=8\/x.Kind=10):(tkN x).lvl=13:=by
 rw[zjA];unfold zjl;rcases h with h|h|h|h|h|h|h|h|h<;>rw[h]<;>rfl
theorem zRx{x a:Node}{l:List Node}(h:x.Kind=11\/x.Kind=12)(hL:x.L=a::l):(tkN x).lvl=min (max (tkN a).lvl 11) 12:=by
 rw[zjA];unfold zjl;rw[hL];rcases h with h|h<;>rw[h]<;>simp only[tkL]<;>rfl
theorem zVe{x:Node}(h:x.Kind=13):(tkN x).lvl=11:=by rw[zjA];unfold zjl;rw[h];rfl
theorem zVc{x:Node}(h:x.Kind=14):(tkN x).lvl=12:=by rw[zjA];unfold zjl;rw[h];rfl
theorem zUd{x:Node}(h:x.Kind=15):(tkN x).lvl=9:=by rw[zjA];unfold zjl;rw[h];rfl
theorem zTU{x:Node}(h:x.Kind=16):(tkN x).lvl=10 -x.Num:=by rw[zjA];unfold zjl;rw[h];rfl
theorem zUa{x:Node}(h:x.Kind=19):(tkN x).lvl=2:=by rw[zjA];unfold zjl;rw[h];rfl
theorem zU6{x:Node}(h:x.Kind=20):(tkN x).lvl=1:=by rw[zjA];unfold zjl;rw[h];rfl
theorem zU2{x:Node}(h:x.Kind=21):(tkN x).lvl=0:=by rw[zjA];unfold zjl;rw[h];rfl
theorem zPA{x:Node}(h:x.Kind=17)(ho:zao x=true)(no:Bool)(hi:zgb no x):lvS no x.Name=((tkN x).lvl,17)/\x.Name∈zgh:=by
 have hn:x.Name∈zAP:=by simpa [zab,h]using(zaN ho).1
 have hv:(tkN x).lvl=if zcb op5 x.Name=true then 5 else if zcb op7 x.Name=true then 7 else if zcb op8 x.Name=true then 8 else 6:=by rw[zjA];unfold zjl;rw[h];rfl
 rw[hv];unfold zgb at hi;rw[h]at hi;generalize x.Name=s at hn hi;simp only[zAP,yP,List.not_mem_nil,or_false]at hn;rcases hn with rfl|rfl|rfl|rfl|rfl|rfl|rfl|rfl|rfl|rfl|rfl|rfl|rfl|rfl|rfl
 case inr.inr.inr.inr.inr.inr.inr.inr.inr.inr.inr.inr.inr.inl=>
  cases no
  ·exact⟨by decide,by decide⟩
  ·exact absurd ⟨rfl,rfl,rfl⟩ hi
 all_goals exact⟨by cases no<;>decide,by decide⟩
theorem zPF{x:Node}(h:x.Kind=18)(ho:zao x=true)(no:Bool):lvS no x.Name=((tkN x).lvl,18)/\x.Name∈zgh:=by
 rw[zOc h];rcases zOP h ho with e|e<;>rw[e]
 ·exact⟨by cases no<;>decide,by decide⟩
 ·exact⟨by cases no<;>decide,by decide⟩
theorem zPL{s:Str}(h:s∈ztP):zgh.contains s=true/\zrH.contains s=true/\ztP.contains s=true:=by
 simp only[ztP,yP,List.not_mem_nil,or_false]at h;rcases h with rfl|rfl|rfl|rfl|rfl|rfl<;>decide
theorem zPn{s:Str}(h:s∈zir):zgh.contains s=true/\zrH.contains s=true/\ztP.contains s=false/\zir.contains s=true/\(∀no,zfk no s=10)/\(s==([58]:Str))=false:=by
 simp only[zir,yP,List.not_mem_nil,or_false]at h;rcases h with rfl|rfl<;>decide
theorem zQs{s:Str}(h:s∈zt6):zgh.contains s=true/\zt6.contains s=true/\(s==([63]:Str))=false/\(∀no,zfk no s=1)/\(s==([58]:Str))=false:=by
 simp only[zt6,yP,List.not_mem_nil,or_false]at h;rcases h with rfl|rfl|rfl|rfl|rfl|rfl<;>decide
section
variable {c:Str->Tok}
theorem zAw{x:Node}(hl:(tkN x).lvl=13)(beg: ∀no r,Beg true (T c ((tkN x).ex no)++r))(lab: ∀no r,tIs [58] r=false->zX (T c ((tkN x).ex no)++r)=1->tIs [58] (T c ((tkN x).ex no)++r).tail=false)
  (hp: ∀no r,zoH (T c ((tkN x).ex no)++r) (x,r)) (hn: ∀no r,tIs [110,101,119] (T c ((tkN x).ex no)++r)=false):RT c x:=
 RT.zH0 (by omega) beg lab λno r v calls _ _ h=>⟨x,r,zoU (hn no r) (hp no r),h⟩
theorem zC6{x:Node}{w:Str}(hl:(tkN x).lvl=13)(he: ∀no,(tkN x).ex no=[w])(hf:(c w).fresh=false)(hk:(c w).kind=1\/(c w).kind=3\/(c w).kind=4\/∃v,zct (c w) v/\v∈zrH/\opB v=false/\v≠[110,101,119])
  (hp: ∀r,zoH (c w::r) (x,r)):RT c x:=by
 refine zAw hl (λno r=>?_) (λno r h1 h2=>?_) (λno r=>?_) (λno r=>?_)
 ·rw[he];refine⟨c w,r,rfl,hf,?_⟩;rcases hk with h|h|h| ⟨v,h1,h2,h3,_⟩
  ·exact .inl h
  ·exact .inr (.inl h)
  ·exact .inr (.inr (.inl h))
  ·exact .inr (.inr (.inr ⟨v,h1,h2,λ_=>h3⟩))
 ·rw[he];exact h1
 ·rw[he];exact hp r
 ·rw[he];show(opK (c w)&&((c w).text==[110,101,119]))=false;rcases hk with h|h|h| ⟨v,h1,h2,h3,h4⟩
  ·rw[zdF (.inl h)];rfl
  ·rw[zdF (.inr (.inl h))];rfl
  ·rw[zdF (.inr (.inr h))];rfl
  ·rw[h1.op,h1.text,Bool.true_and,yH];exact h4
variable (C:Cls c)
include C
theorem zAz{x:Node}{w:Str}(hl:(tkN x).lvl=13)(he: ∀no,(tkN x).ex no=[w])(ho:zgh.contains w=true)(hb:zrH.contains w=true)(h3:opB w=false)(h4:w≠[110,101,119])(hp: ∀r,zoH (c w::r) (x,r)):RT c x:=
 zC6 hl he (C.fresh _) (.inr (.inr (.inr ⟨w,zai C ho,by simpa using hb,h3,h4⟩))) hp
theorem zWA{x:Node}(h:x.Kind=1)(ho:zao x=true)(hL:x.L=[]):RT c x:=by
 have hn:0<=x.Num/\x.Num<=9007199254740991:=by simpa [zbH,h]using(zaN ho).2
 obtain⟨h1,h2⟩:=C.num x.Num hn.1 hn.2;refine zC6 (zo0 (by omega)) (λno=>zMS h no) (C.fresh _) (.inr (.inl h1)) λr=>?_
 have:=zWq (a:=c (Lib.itoa x.Num)) (r:=r) h1;rw[h2,<-zWy h ho hL]at this;exact this
theorem zWE{x:Node}(h:x.Kind=2)(ho:zao x=true)(hL:x.L=[])(hb:x.Text.length<=100000000):RT c x:=by
 obtain⟨h1,h2⟩:=C.str x.Text (zrO ho) hb;refine zC6 (zo0 (by omega)) (λno=>zMb h no) (C.fresh _) (.inr (.inr (.inl h1))) λr=>?_
 have:=zV8 (a:=c (zdm x.Text)) (r:=r) h1;rw[h2,<-zWO h ho hL]at this;exact this
theorem zWC{x:Node}(h:x.Kind=3)(ho:zao x=true)(hL:x.L=[]):RT c x:=by
 have hn:zbU x.Name=true:=by simpa [zab,h]using(zaN ho).1
 obtain⟨h1,h2⟩:=C.name x.Name hn;refine zC6 (zo0 (by omega)) (λno=>zL7 h no) (C.fresh _) (.inl h1) λr=>?_
 have:=zUV (a:=c x.Name) (r:=r) h1;have e:=zl3 h ho (by decide);rw[hL]at e;rw[h2,<-e]at this;exact this
theorem zWK{x:Node}(h:x.Kind=4)(ho:zao x=true)(hL:x.L=[]):RT c x:=by
 have e:=zd0 h ho (by decide) (by decide);rw[hL]at e;exact zAz C (zo0 (by omega)) (λno=>zLr h no) (by decide) (by decide) (by decide) (by decide) λr=>zCG (zai C (by decide)) (.inl ⟨rfl,e⟩)
theorem zWP{x:Node}(h:x.Kind=5)(ho:zao x=true)(hL:x.L=[]):RT c x:=by
 have e:=zd0 h ho (by decide) (by decide);rw[hL]at e;exact zAz C (zo0 (by omega)) (λno=>zMy h no) (by decide) (by decide) (by decide) (by decide) λr=>zCG (zai C (by decide)) (.inr (.inl ⟨rfl,e⟩))
theorem zWW{x:Node}(h:x.Kind=6)(ho:zao x=true)(hL:x.L=[]):RT c x:=by
 have e:=zWD h ho hL;have hn:x.Num=0\/x.Num=1:=by simpa [zbH,h]using(zaN ho).2
 rcases hn with n|n
 ·rw[n]at e;exact zAz C (w:=[102,97,108,115,101]) (zo0 (by omega)) (λno=>by rw[zIA h no,n];decide) (by decide) (by decide) (by decide) (by decide) λr=>zCG (zai C (by decide)) (.inr (.inr (.inl ⟨rfl,e⟩)))
 ·rw[n]at e;exact zAz C (w:=[116,114,117,101]) (zo0 (by omega)) (λno=>by rw[zIA h no,n];decide) (by decide) (by decide) (by decide) (by decide) λr=>zCG (zai C (by decide)) (.inr (.inr (.inr ⟨rfl,e⟩)))
theorem zvi{w:Str}(b:Bool)(l:List Str)(r:zB)(ho:zgh.contains w=true)(hb:zrH.contains w=true)(h3:b=true->opB w=false):Beg b (T c (w::l)++r):=
 ⟨c w,T c l++r,rfl,C.fresh _,.inr (.inr (.inr ⟨w,zai C ho,by simpa using hb,h3⟩))⟩
theorem zvz{w:Str}(l:List Str)(r:zB)(ho:zgh.contains w=true)(h:zX (T c (w::l)++r)=1):tIs [58] (T c (w::l)++r).tail=false:=by
 have:=((zai C ho).kinds (T c l++r)).1;rw[yH]at this;exact absurd h this
theorem zAo(ls:List Node)(hR: ∀k∈ls,RT c k/\k.Kind≠9)(w:Str)(last:Bool)(hw:w=[41]\/w=[93])(r:zB):zq0 w last (T c (commas (zah false) (tkL ls))++c w::r) (ls,r):=by
 have how:zgh.contains w=true:=by rcases hw with rfl|rfl<;>decide
 have hbw:zrH.contains w=false:=by rcases hw with rfl|rfl<;>decide
 have hwc:(w==([44]:Str))=false/\(([44]:Str)==w)=false:=by rcases hw with rfl|rfl<;>decide
 have o:=zai C how;have oc:=zai C (w:=[44]) (by decide)
 have hit: ∀k∈ls,zah false (tkN k)=atT (tkN k) 1 false:=λk hk=>by
  unfold zah;rw[zdC,yK (by simpa using(hR k hk).2)]
 have key: ∀(l:List Node),(∀k∈l,k∈ls)->∀y,y∈ls->zq0 w last (T c (atT (tkN y) 1 false++zb8 (zah false) (tkL l))++c w::r) (y::l,r):=by
  intro l;induction l with
  |nil=>
   intro _ y hy;have e:zb8 (zah false) (tkL [])=[]:=by simp[zb8,tkL]
   rw[e,List.append_nil];have hb:=zli C (hR y hy).1 1 false (c w::r);exact zJ5 (t1:=c w::r) (hb.is hbw) (zm0 C (hR y hy).1 false _ (by rw[o.fol];rcases hw with rfl|rfl<;>decide) 1 (by decide)) (by rw[o.is];simp)
  |cons z l ih=>
   intro hl y hy;have hz:=hl z qz7;have e:zb8 (zah false) (tkL (z::l))=[44]::(atT (tkN z) 1 false++zb8 (zah false) (tkL l)):=by simp[zb8,tkL,hit z hz]
   rw[e,zbo,yE,zba,yI];have hb:=zli C (hR y hy).1 1 false (c [44]::(T c (atT (tkN z) 1 false++zb8 (zah false) (tkL l))++c w::r))
   have hbz:Beg (decide ((11:Int)<=1)) (T c (atT (tkN z) 1 false++zb8 (zah false) (tkL l))++c w::r):=by
    rw[zbo,yE];exact zli C (hR z hz).1 1 false _
   exact zIi (hb.is hbw) (zm0 C (hR y hy).1 false _ (by rw[oc.fol];decide) 1 (by decide)) (by rw[oc.is];exact hwc.2) (by rw[oc.is];decide) (hbz.is hbw) (ih (λk hk=>hl k (qz8 _ hk)) z hz)
 rcases ls with _| ⟨y,l⟩
 ·have e:T c (commas (zah false) (tkL []))++c w::r=c w::r:=by simp[tkL,commas,T]
  rw[e];exact zJO (by rw[o.is];simp)
 ·have e:commas (zah false) (tkL (y::l))=atT (tkN y) 1 false++zb8 (zah false) (tkL l):=by simp[tkL,commas,zb8,hit y qz7]
  rw[e];exact key l (λk hk=>qz8 _ hk) y qz7
structure zDu (c:Str->Tok) (y:Node) (a:Node):Prop where
 eq:y=⟨9,[],0,y.Text,[],[a]⟩
 even:zhu y.Text=true
 len:y.Text.length<=100000000
 rt:RT c a
theorem zLW(ls:List Node)(hR: ∀k∈ls,∃a,zDu c k a)(r:zB):zxj (T c (commas (zah false) (tkL ls))++c [125]::r) (ls,r):=by
 have o:=zai C (w:=[125]) (by decide);have oc:=zai C (w:=[44]) (by decide);have od:=zai C (w:=[58]) (by decide)
 have hit: ∀k a,zDu c k a->zah false (tkN k)=zdm k.Text::[58]::atT (tkN a) 1 false:=λk a hk=>by
  unfold zah;rw[zdC,zjH];have e:=hk.eq;have e1:k.Kind=9:=by rw[e]
  have e2:k.L=[a]:=by rw[e]
  rw[e1,e2,tk0];rfl
 have key: ∀(l:List Node),(∀k∈l,k∈ls)->∀y,y∈ls->zxj (T c (zah false (tkN y)++zb8 (zah false) (tkL l))++c [125]::r) (y::l,r):=by
  intro l;induction l with
  |nil=>
   intro _ y hy;obtain⟨a,P⟩:=hR y hy;obtain⟨k4,kt⟩:=C.str y.Text P.even P.len;have e:zb8 (zah false) (tkL [])=[]:=by simp[zb8,tkL]
   rw[e,List.append_nil,hit y a P]
   have:=zJZ (t:=T c (zdm y.Text::[58]::atT (tkN a) 1 false)++c [125]::r) (x:=a) (t1:=c [125]::r)
    (by show(opK (c (zdm y.Text))&&_)=false;rw[zdF (.inr (.inr k4))];rfl) k4 (by show tIs [58] (c [58]::_)=true;rw[od.is];decide)
    (zm0 C P.rt false _ (by rw[o.fol];decide) 1 (by decide)) (by rw[o.is];decide)
   have e2:tText (T c (zdm y.Text::[58]::atT (tkN a) 1 false)++c [125]::r)=y.Text:=kt;rw[e2,<-P.eq]at this;exact this
  |cons z l ih=>
   intro hl y hy;obtain⟨a,P⟩:=hR y hy;obtain⟨k4,kt⟩:=C.str y.Text P.even P.len;have hz:=hl z qz7;have e:zb8 (zah false) (tkL (z::l))=[44]::(zah false (tkN z)++zb8 (zah false) (tkL l)):=by simp[zb8,tkL]
   rw[e,hit y a P,zbo,yE,zba,yI]
   have:=zI8 (t:=T c (zdm y.Text::[58]::atT (tkN a) 1 false)++c [44]::(T c (zah false (tkN z)++zb8 (zah false) (tkL l))++c [125]::r)) (x:=a) (t1:=c [44]::(T c (zah false (tkN z)++zb8 (zah false) (tkL l))++c [125]::r))
    (by show(opK (c (zdm y.Text))&&_)=false;rw[zdF (.inr (.inr k4))];rfl) k4 (by show tIs [58] (c [58]::_)=true;rw[od.is];decide)
    (zm0 C P.rt false _ (by rw[oc.fol];decide) 1 (by decide)) (by rw[oc.is];decide) (by rw[oc.is];decide) (ih (λk hk=>hl k (qz8 _ hk)) z hz)
   have e2:tText (T c (zdm y.Text::[58]::atT (tkN a) 1 false)++c [44]::(T c (zah false (tkN z)++zb8 (zah false) (tkL l))++c [125]::r))=y.Text:=kt;rw[e2,<-P.eq]at this;exact this
 rcases ls with _| ⟨y,l⟩
 ·have e:T c (commas (zah false) (tkL []))++c [125]::r=c [125]::r:=by simp[tkL,commas,T]
  rw[e];exact zKa (by rw[o.is];decide)
 ·have e:commas (zah false) (tkL (y::l))=zah false (tkN y)++zb8 (zah false) (tkL l):=by simp[tkL,commas,zb8]
  rw[e];exact key l (λk hk=>qz8 _ hk) y qz7
theorem zWz{x:Node}(h:x.Kind=7)(ho:zao x=true)(hR: ∀k∈x.L,RT c k/\k.Kind≠9):RT c x:=by
 have o:=zai C (w:=[91]) (by decide);refine zAw (zo0 (by omega)) (λno r=>?_) (λno r h1 h2=>?_) (λno r=>?_) (λno r=>?_)
 ·rw[zBP h];exact zvi C _ _ _ (by decide) (by decide) (λ_=>by decide)
 ·rw[zBP h]at h2⊢;exact zvz C _ _ (by decide) h2
 ·rw[zBP h,zba,zbo,yI,yE];have:=zTH o (zAo C x.L hR [93] true (.inr rfl) r);rw[<-zd0 h ho (by decide) (by decide)]at this;exact this
 ·rw[zBP h,zba,yI,o.is];decide
theorem zWG{x:Node}(h:x.Kind=8)(ho:zao x=true)(hR: ∀k∈x.L,∃a,zDu c k a):RT c x:=by
 have o:=zai C (w:=[123]) (by decide);refine zAw (zo0 (by omega)) (λno r=>?_) (λno r h1 h2=>?_) (λno r=>?_) (λno r=>?_)
 ·rw[zB3 h];exact zvi C _ _ _ (by decide) (by decide) (λ_=>by decide)
 ·rw[zB3 h]at h2⊢;exact zvz C _ _ (by decide) h2
 ·rw[zB3 h,zba,zbo,yI,yE];have:=zQY o (zLW C x.L hR r);rw[<-zd0 h ho (by decide) (by decide)]at this;exact this
 ·rw[zB3 h,zba,yI,o.is];decide
theorem zV6{x:Node}(h:x.Kind=10)(hF: ∀r,FUNC 10 (T c (zf7 x (tkL x.L)).tail++r) (x,r)):RT c x:=by
 have o:=zai C (w:=[102,117,110,99,116,105,111,110]) (by decide);have e:zf7 x (tkL x.L)=[102,117,110,99,116,105,111,110]::(zf7 x (tkL x.L)).tail:=rfl;refine zAw (zo0 (by omega)) (λno r=>?_) (λno r h1 h2=>?_) (λno r=>?_) (λno r=>?_)
 ·rw[zv5 h,e];exact zvi C _ _ _ (by decide) (by decide) (λ_=>by decide)
 ·rw[zv5 h,e]at h2⊢;exact zvz C _ _ (by decide) h2
 ·rw[zv5 h,e,zba,yI];exact zVb o (hF r)
 ·rw[zv5 h,e,zba,yI,o.is];decide
theorem zpi{a:Node}(R:RT c a)(least:Int)(no:Bool)(l:List Str)(r:zB):Beg (decide (11<=least)) (T c (atT (tkN a) least no++l)++r):=by
 rw[zbo,yE];exact zli C R least no _
theorem zpI{a:Node}(R:RT c a)(least:Int)(no:Bool)(w:Str)(l:List Str)(r:zB)(ho:zgh.contains w=true)(hw:(w==([58]:Str))=false)(h:zX (T c (atT (tkN a) least no++(w::l))++r)=1):tIs [58] (T c (atT (tkN a) least no++(w::l))++r).tail=false:=by
 rw[zbo,yE,zba,yI]at h⊢;exact zM6 C R least no _ (by rw[(zai C ho).is];exact hw) h
theorem zVY{x a:Node}(h:x.Kind=11)(ho:zao x=true)(hL:x.L=[a])(R:RT c a):RT c x:=by
 have hl:=zRx (.inl h) hL;have o:=zai C (w:=[46]) (by decide);have hn:zfD x.Name=true:=by simpa [zab,h]using(zaN ho).1
 obtain⟨k1,k2⟩:=C.ident x.Name hn;have e:=zl3 h ho (by decide);rw[hL]at e;have he: ∀no,(tkN x).ex no=atT (tkN a) 11 no++[[46],x.Name]:=λno=>by rw[zGN h,hL,tk0]
 refine RT.zH0 (by omega) (λno r=>?_) (λno r h1 h2=>?_) (λno r v calls hi hc hm=>?_)
 ·rw[he];exact zpi C R 11 no _ r
 ·rw[he]at h2⊢;exact zpI C R 11 no _ _ r (by decide) (by decide) h2
 ·rw[he,zbo,yE]
  have hm2:zjb calls a (T c [[46],x.Name]++r) v:=by
   refine zLw (by show tIs [46] (c [46]::_)=true;rw[o.is];decide) ?_ ?_
   ·show((c x.Name).kind==1||(c x.Name).kind==2)=true;rcases k1 with k|k<;>rw[k]<;>rfl
   ·show zjb calls (ndN 11 (c x.Name).text [a]) r v;rw[k2,<-e];exact hm
  unfold atT;split
  ·exact⟨a,_,zjc C R _,hm2⟩
  ·rename_i hcc;obtain⟨h3,h4⟩:=at_in hcc;exact R.mm no _ v calls h4 (by rcases hc with hc| ⟨_,rfl⟩;exact .inl (by omega);exact .inr ⟨h3,rfl⟩) hm2
theorem zVs{x a b:Node}(h:x.Kind=12)(ho:zao x=true)(hL:x.L=[a,b])(R:RT c a)(Rb:RT c b):RT c x:=by
 have hl:=zRx (.inr h) hL;have o:=zai C (w:=[91]) (by decide);have o2:=zai C (w:=[93]) (by decide);have e:=zd0 h ho (by decide) (by decide);rw[hL]at e;have he: ∀no,(tkN x).ex no=atT (tkN a) 11 no++([91]::(atT (tkN b) 0 false++[[93]])):=λno=>by rw[zGk h,hL,tk0,tk1]
 refine RT.zH0 (by omega) (λno r=>?_) (λno r h1 h2=>?_) (λno r v calls hi hc hm=>?_)
 ·rw[he];exact zpi C R 11 no _ r
 ·rw[he]at h2⊢;exact zpI C R 11 no _ _ r (by decide) (by decide) h2
 ·rw[he,zbo,yE]
  have hm2:zjb calls a (T c ([91]::(atT (tkN b) 0 false++[[93]]))++r) v:=by
   rw[zba,zbo,yI,yE];refine zM1 (y:=b) (t1:=c [93]::r) (by rw[o.is];decide) (by rw[o.is];decide) (at_end C Rb false [93] r (by decide) (by decide) 0) (by rw[o2.is];decide) ?_
   rw[<-e];exact hm
  unfold atT;split
  ·exact⟨a,_,zjc C R _,hm2⟩
  ·rename_i hcc;obtain⟨h3,h4⟩:=at_in hcc;exact R.mm no _ v calls h4 (by rcases hc with hc| ⟨_,rfl⟩;exact .inl (by omega);exact .inr ⟨h3,rfl⟩) hm2
theorem zWm{x a:Node}{l:List Node}(h:x.Kind=13)(ho:zao x=true)(hL:x.L=a::l)(R:RT c a)(hR: ∀k∈l,RT c k/\k.Kind≠9):RT c x:=by
 have hl:=zVe h;have o:=zai C (w:=[40]) (by decide);have e:=zd0 h ho (by decide) (by decide);rw[hL]at e;have he: ∀no,(tkN x).ex no=atT (tkN a) 11 no++([40]::(commas (zah false) (tkL l)++[[41]])):=λno=>by rw[zGv h,hL,tk0,tkT]
 refine RT.zH0 (by omega) (λno r=>?_) (λno r h1 h2=>?_) (λno r v calls hi hc hm=>?_)
 ·rw[he];exact zpi C R 11 no _ r
 ·rw[he]at h2⊢;exact zpI C R 11 no _ _ r (by decide) (by decide) h2
 ·obtain rfl:calls=true:=by
   rcases hc with hc|hc
   ·omega
   ·exact hc.2
  rw[he,zbo,yE];refine zLK C R 11 no true _ v (.inr ⟨rfl,rfl⟩) ?_;rw[zba,zbo,yI,yE];refine zJS (by rw[o.is];decide) (by rw[o.is];decide) (by rw[o.is];decide) (zAo C l hR [41] false (.inl rfl) r) ?_
  rw[<-e];exact hm
theorem zVQ{x a:Node}{l:List Node}(h:x.Kind=14)(ho:zao x=true)(hL:x.L=a::l)(R:RT c a)(hR: ∀k∈l,RT c k/\k.Kind≠9):RT c x:=by
 have hl:=zVc h;have o:=zai C (w:=[110,101,119]) (by decide);have o2:=zai C (w:=[40]) (by decide);have e:=zd0 h ho (by decide) (by decide);rw[hL]at e;have he: ∀no,(tkN x).ex no=[110,101,119]::(atT (tkN a) 12 no++([40]::(commas (zah false) (tkL l)++[[41]]))):=λno=>by rw[zGK h,hL,tk0,tkT]
 refine RT.zH0 (by omega) (λno r=>?_) (λno r h1 h2=>?_) (λno r v calls hi hc hm=>?_)
 ·rw[he];exact zvi C _ _ _ (by decide) (by decide) (λ_=>by decide)
 ·rw[he]at h2⊢;exact zvz C _ _ (by decide) h2
 ·rw[he,zba,yI,zbo,yE,zba,yI,zbo,yE];obtain⟨y,t1,h1,h2⟩:=zLK C R 12 no false (c [40]::(T c (commas (zah false) (tkL l))++(T c [[41]]++r))) _ (.inl rfl) (zDQ (by rw[o2.is];decide) (by rw[o2.is];decide) rfl)
  refine⟨x,r,?_,hm⟩;have:=zML (t:=c [110,101,119]::(T c (atT (tkN a) 12 no)++c [40]::(T c (commas (zah false) (tkL l))++(T c [[41]]++r)))) (by rw[o.is];decide) h1 h2 (by rw[o2.is];decide) (zAo C l hR [41] false (.inl rfl) r)
  rw[<-e]at this;exact this
theorem zVt{x a:Node}(h:x.Kind=15)(ho:zao x=true)(hL:x.L=[a])(R:RT c a):RT c x:=by
 have hn:x.Name∈ztP:=by simpa [zab,h]using(zaN ho).1
 obtain⟨n1,n2,n3⟩:=zPL hn;have o:=zai C n1;have e:=zl3 h ho (by decide);rw[hL]at e;have he: ∀no,(tkN x).ex no=x.Name::atT (tkN a) 9 no:=λno=>by rw[zGQ h,hL,tk0]
 refine RT.of9 (.inl (zUd h)) (λno r=>?_) (λno r h1 h2=>?_) (λno r hi hf=>?_)
 ·rw[he];exact zvi C _ _ _ n1 n2 (λe=>by cases e)
 ·rw[he]at h2⊢;exact zvz C _ _ n1 h2
 ·rw[he,zba,yI];have:=zMN (t:=c x.Name::(T c (atT (tkN a) 9 no)++r)) (by rw[o.any];exact n3) (zRs C R no r hf 9 (by decide))
  have e2:tText (c x.Name::(T c (atT (tkN a) 9 no)++r))=x.Name:=o.text;rw[e2,<-e]at this;exact this
theorem zWv{x a:Node}(h:x.Kind=16)(ho:zao x=true)(hL:x.L=[a])(R:RT c a)(ht:zdw a.Kind=true):RT c x:=by
 have hn:x.Name∈zir:=by simpa [zab,h]using(zaN ho).1
 obtain⟨n1,n2,n3,n4,n5,n6⟩:=zPn hn;have o:=zai C n1;have e:=zVL h ho;rw[hL]at e;have hv:=zTU h;have hN:x.Num=0\/x.Num=1:=by simpa [zbH,h]using(zaN ho).2
 rcases hN with N|N
 ·have he: ∀no,(tkN x).ex no=atT (tkN a) 11 no++[x.Name]:=λno=>by rw[zDy h,hL,tk0,N];rfl
  rw[N]at e;refine RT.of9 (by omega) (λno r=>?_) (λno r h1 h2=>?_) (λno r hi hf=>?_)
  ·rw[he];exact(zpi C R 11 no _ r).loose
  ·rw[he]at h2⊢;exact zpI C R 11 no _ _ r n1 n6 h2
  ·rw[he,zbo,yE];have hb:Beg true (T c (atT (tkN a) 11 no)++(c x.Name::r)):=zli C R 11 no _;obtain⟨y,t1,h1,h2⟩:=zLK C R 11 no true (c x.Name::r) _ (.inr ⟨rfl,rfl⟩) (zk1 (no:=no) (by rw[o.fol,n5];decide))
   have:=zHh hb.una.1 hb.una.2 h1 h2 (by rw[o.any];exact n4) (C.fresh _) ht
   have e2:tText (c x.Name::r)=x.Name:=o.text;rw[e2,show ndN 16 x.Name [a]=(⟨16,x.Name,0,[],[],[a]⟩:Node)from rfl,<-e]at this;exact this
 ·have he: ∀no,(tkN x).ex no=x.Name::atT (tkN a) 11 no:=λno=>by rw[zDy h,hL,tk0,N];rfl
  rw[N]at e;refine RT.of9 (by omega) (λno r=>?_) (λno r h1 h2=>?_) (λno r hi hf=>?_)
  ·rw[he];exact zvi C _ _ _ n1 n2 (λe=>by cases e)
  ·rw[he]at h2⊢;exact zvz C _ _ n1 h2
  ·rw[he,zba,yI];have:=zJY (t:=c x.Name::(T c (atT (tkN a) 11 no)++r)) (by rw[o.any];exact n3) (by rw[o.any];exact n4) (zRs C R no r hf 11 (by decide)) ht
   have e2:tText (c x.Name::(T c (atT (tkN a) 11 no)++r))=x.Name:=o.text;rw[e2,<-e]at this;exact this
theorem zRh{x a b:Node}{k:Int}(hk:k=17\/k=18)(h:x.Kind=k)(ho:zao x=true)(hL:x.L=[a,b])(hv:3<=(tkN x).lvl/\(tkN x).lvl<=8)(hop: ∀no,zgb no x->lvS no x.Name=((tkN x).lvl,k)/\x.Name∈zgh)(R:RT c a)(Rb:RT c b):RT c x:=by
 have n1:zgh.contains x.Name=true:=by simpa using(hop false (λe=>by cases e.1)).2
 have hnc:(x.Name==([58]:Str))=false:=by
  rw[yH];intro e;have:=(hop false (λe=>by cases e.1)).1;rw[e]at this;have:=congrArg (·.1) this;have e2:(lvS false [58]).1=0:=by decide
  simp only[e2]at this;omega
 have o:=zai C n1;have e:=zl3 h ho (by rcases hk with rfl|rfl<;>decide)
 rw[hL]at e
 have he: ∀no,(tkN x).ex no=atT (tkN a) (tkN x).lvl no++(x.Name::atT (tkN b) ((tkN x).lvl+1) no):=λno=>by
  rcases hk with rfl|rfl
  ·rw[zGn h,hL,tk0,tk1]
  ·rw[zGl h,hL,tk0,tk1]
 refine RT.of3 hv (λno r=>?_) (λno r h1 h2=>?_) (λno r v least hi h3 h4 hf hm=>?_)
 ·rw[he];exact(zpi C R _ no _ r).loose
 ·rw[he]at h2⊢;exact zpI C R _ no _ _ r n1 hnc h2
 ·rw[he,zbo,yE,zba,yI];have hs:=(hop no hi).1
  have hfo:zfk no x.Name=(tkN x).lvl:=by
   unfold zfk;rw[hs];have:((tkN x).lvl==0)=false:=by rw[yH];omega
   simp only[this,yB]
  refine zC3 C R no _ v (tkN x).lvl least h3 h4 (by rw[o.fol,hfo];omega) (by rw[o.fol,hfo];omega) ?_
  have hbd:zdo no (c x.Name::(T c (atT (tkN b) ((tkN x).lvl+1) no)++r))=((tkN x).lvl,k):=by rw[o.bind,hs]
  refine zNK (y:=b) (t1:=r) ?_ ?_ ?_
  ·rw[hbd];simp only[Bool.or_eq_false_iff,decide_eq_false_iff_not,yH];exact⟨by omega,by omega⟩
  ·rw[hbd];exact zC3 C Rb no r _ _ _ (by show 3<=(tkN x).lvl+1;omega) (Int.le_refl _) (by omega) (by show zbX no r<=(tkN x).lvl+1;omega) (zle (by show zbX no r< (tkN x).lvl+1;omega))
  ·rw[hbd];have e2:tText (c x.Name::(T c (atT (tkN b) ((tkN x).lvl+1) no)++r))=x.Name:=o.text;rw[e2];show zpN no least (ndN k x.Name [a,b]) r v;rw[<-e];exact hm
theorem zWu{x a b d:Node}(h:x.Kind=19)(ho:zao x=true)(hL:x.L=[a,b,d])(R:RT c a)(Rb:RT c b)(Rd:RT c d):RT c x:=by
 have o:=zai C (w:=[63]) (by decide);have o2:=zai C (w:=[58]) (by decide);have e:=zd0 h ho (by decide) (by decide);rw[hL]at e;have he: ∀no,(tkN x).ex no=atT (tkN a) 3 no++([63]::(atT (tkN b) 1 false++([58]::atT (tkN d) 1 no))):=λno=>by rw[zGq h,hL,tk0,tk1,tk2]
 refine RT.of1 (.inr (zUa h)) (λno r=>?_) (λno r h1 h2=>?_) (λno r hi hf=>?_)
 ·rw[he];exact(zpi C R _ no _ r).loose
 ·rw[he]at h2⊢;exact zpI C R _ no _ _ r (by decide) (by decide) h2
 ·rw[he,zbo,yE,zba,yI,zbo,yE,zba,yI];have f1: ∀no,zfk no [63]=2:=by decide
  have f2: ∀no,zfk no [58]= -1:=by decide
  rw[e]
  exact zGa (zC3 C R no _ _ 3 3 (by decide) (by decide) (by rw[o.fol,f1];decide) (by rw[o.fol,f1];decide) (zle (by rw[o.fol,f1];decide))) (by rw[o.is];decide)
   (zm0 C Rb false _ (by rw[o2.fol,f2];decide) 1 (by decide)) (by rw[o2.is];decide) (zm0 C Rd no r hf 1 (by decide))
theorem zV4{x a b:Node}(h:x.Kind=20)(ho:zao x=true)(hL:x.L=[a,b])(R:RT c a)(Rb:RT c b)(ht:zdw a.Kind=true):RT c x:=by
 have hn:x.Name∈zt6:=by simpa [zab,h]using(zaN ho).1
 obtain⟨n1,n2,n3,n4,n5⟩:=zQs hn;have o:=zai C n1;have e:=zl3 h ho (by decide);rw[hL]at e;have he: ∀no,(tkN x).ex no=atT (tkN a) 11 no++(x.Name::atT (tkN b) 1 no):=λno=>by rw[zGy h,hL,tk0,tk1]
 refine RT.of1 (.inl (zU6 h)) (λno r=>?_) (λno r h1 h2=>?_) (λno r hi hf=>?_)
 ·rw[he];exact(zpi C R _ no _ r).loose
 ·rw[he]at h2⊢;exact zpI C R _ no _ _ r n1 n5 h2
 ·rw[he,zbo,yE,zba,yI]
  have:=zJt (zC3 C R no (c x.Name::(T c (atT (tkN b) 1 no)++r)) _ 11 3 (by decide) (by decide) (by rw[o.fol,n4];decide) (by rw[o.fol,n4];decide) (zle (by rw[o.fol,n4];decide))) (by rw[o.is];exact n3) (by rw[o.any];exact n2) ht
   (zm0 C Rb no r hf 1 (by decide))
  have e2:tText (c x.Name::(T c (atT (tkN b) 1 no)++r))=x.Name:=o.text;rw[e2,<-e]at this;exact this
theorem zV5{x a b:Node}(h:x.Kind=21)(ho:zao x=true)(hL:x.L=[a,b])(R:RT c a)(Rb:RT c b):RT c x:=by
 have o:=zai C (w:=[44]) (by decide);have e:=zd0 h ho (by decide) (by decide);rw[hL]at e;have he: ∀no,(tkN x).ex no=atT (tkN a) 0 no++([44]::atT (tkN b) 1 no):=λno=>by rw[zGu h,hL,tk0,tk1]
 refine RT.of0 (zU2 h) (λno r=>?_) (λno r h1 h2=>?_) (λno r v hi hf hm=>?_)
 ·rw[he];exact(zpi C R _ no _ r).loose
 ·rw[he]at h2⊢;exact zpI C R _ no _ _ r (by decide) (by decide) h2
 ·rw[he,zbo,yE,zba,yI];have f1: ∀no,zfk no [44]=0:=by decide
  refine zCm C R no _ v (by rw[o.fol,f1];decide) ?_ 0
  refine zLR (by rw[o.is];decide) (zm0 C Rb no r hf 1 (by decide)) ?_
  rw[<-e];exact hm
end
section
variable {no calls last f o:Bool} {a:Tok} {t r t1 t2 t3 t4 t5:zB} {x y z b d:Node} {v:Node×zB} {l l1 l2:List Node} {s w:Str} {k:Int}
theorem zRU(h:tIs [123] t=true)(h1:zoQ false t.tail (l,t1))(h2:tIs [125] t1=true):BLOCK t (nd 25 l,t1.tail):=
 (h1.bind (g:=λl _=>(zaC [125] l.2).bn λt=>gt (nd 25 l.1,t)) ((Ok.ret _).eq (by funext n;simp only[zbL h2,zd1,zfy]))).up λn=>by
  show zlS (pG n) t=_;unfold zlS;rw[zbL h];rfl
theorem r_head(h:tIs [40] t=true)(h1:EXPR false t.tail (x,t1))(h2:tIs [41] t1=true):HEAD t (x,t1.tail):=
 (h1.bind (g:=λl _=>(zaC [41] l.2).bn λt=>gt (l.1,t)) ((Ok.ret _).eq (by funext n;simp only[zbL h2,zd1,zfy]))).up λn=>by
  show ztt (pG n) t=_;unfold ztt;rw[zbL h];rfl
theorem zMg(h:tIs s t=true):TILL s t (nd 42 [],t.tail):=
 (Ok.ret _).up λn=>by show zlN (pG n) s t=_;unfold zlN;rw[yL h]
theorem zUI(h:tIs s t=false)(h1:EXPR false t (x,t1))(h2:tIs s t1=true):TILL s t (x,t1.tail):=
 (h1.bind (g:=λl _=>(zaC s l.2).bn λt=>gt (l.1,t)) ((Ok.ret _).eq (by funext n;simp only[zbL h2,zd1,zfy]))).up λn=>by
  show zlN (pG n) s t=_;unfold zlN;rw[yK (by rw[h];decide)]
abbrev zHc(no:Bool)(t:zB)(v:List Node×zB):Prop:=Ok (λn=>if tIs [61] t=true then((pG n).assign no t.tail).bd λy=>gt ([y.1],y.2)else gt ([],t)) v
theorem zM5(h:tIs [61] t=false):zHc no t ([],t):=(Ok.ret _).eq (by funext n;rw[yK (by rw[h];decide)])
theorem zUJ(h:tIs [61] t=true)(h1:ASSIGN no t.tail (y,t1)):zHc no t ([y],t1):=
 (h1.bind (g:=λy _=>gt ([y.1],y.2)) (Ok.ret _)).eq (by funext n;rw[yL h])
theorem zJV(hk:a.kind=1)(h1:zHc no r (l,t1))(h2:tIs [44] t1=false):VARS no (a::r) ([ndN 23 a.text l],t1):=
 (h1.bind (g:=λd n=>if tIs [44] d.2=true then((pG n).vars no d.2.tail).bd λl=>gt (ndN 23 a.text d.1::l.1,l.2)else gt ([ndN 23 a.text d.1],d.2)) ((Ok.ret _).eq (by funext n;simp only[h2,qz2,yA]))).up λn=>by
  show zm3 (pG n) no (a::r)=_;unfold zm3;rw[yL (by show(a.kind==1)=true;rw[hk];rfl)];rfl
theorem zKi(hk:a.kind=1)(h1:zHc no r (l,t1))(h2:tIs [44] t1=true)(h3:VARS no t1.tail (l1,t2)):VARS no (a::r) (ndN 23 a.text l::l1,t2):=
 (h1.bind (g:=λd n=>if tIs [44] d.2=true then((pG n).vars no d.2.tail).bd λl=>gt (ndN 23 a.text d.1::l.1,l.2)else gt ([ndN 23 a.text d.1],d.2))
  ((h3.bind (g:=λq _=>gt (ndN 23 a.text l::q.1,q.2)) (Ok.ret _)).eq (by funext n;simp only[h2,yB]))).up λn=>by
  show zm3 (pG n) no (a::r)=_;unfold zm3;rw[yL (by show(a.kind==1)=true;rw[hk];rfl)];rfl
theorem zWM{m:Str}{t0:zB}{ns:List Str}(hm:(if(zX t==1)=true then gt (tText t,t.tail)else if(k==39)=true then bad t else gt (([]:Str),t))=gt (m,t0))(h1:tIs [40] t0=true)(h2:zfL t0.tail=gt (ns,t2))(h3:tIs [123] t2=true)
  (h4:zoQ true t2.tail (l,t3)) (h5:tIs [125] t3=true):FUNC k t (⟨k,m,0,[],ns,l⟩,t3.tail):=
 (h4.bind (g:=λl _=>(zaC [125] l.2).bn λt=>gt ((⟨k,m,0,[],ns,l.1⟩:Node),t)) ((Ok.ret _).eq (by funext n;simp only[zbL h5,zd1,zfy]))).up λn=>by
  show ztm (pG n) k t=_;unfold ztm;rw[hm];simp only[zd1,zfy,zbL h1,h2,zbL h3]
abbrev FIRST(t:zB)(v:Node×zB):Prop:=Ok (λn=>znz (pG n) t) v
theorem zKb(h:tIs [118,97,114] t=true)(h1:VARS true t.tail (l,t1)):FIRST t (nd 22 l,t1):=
 (h1.bind (g:=λl _=>gt (nd 22 l.1,l.2)) (Ok.ret _)).eq (by funext n;unfold znz;rw[yL h])
theorem zLA(h:tIs [118,97,114] t=false)(h1:tIs [59] t=true):FIRST t (nd 42 [],t):=
 (Ok.ret _).eq (by funext n;unfold znz;rw[yK (by rw[h];decide),yL h1])
theorem zSA(h:tIs [118,97,114] t=false)(h1:tIs [59] t=false)(h2:EXPR true t v):FIRST t v:=
 h2.eq (by funext n;unfold znz;rw[yK (by rw[h];decide),yK (by rw[h1];decide)])
theorem zNF(h:tIs [40] t=true)(h1:FIRST t.tail (x,t1))(h2:zl9 x=true)(h3:tIs [105,110] t1=true)(h4:EXPR false t1.tail (y,t2))(h5:tIs [41] t2=true)(h6:zem t2.tail (b,t3)):LOOP t (nd 30 [x,y,zbf b],t3):=
 (h1.bind (g:=λq n=>if(zl9 q.1&&tIs [105,110] q.2)=true then((pG n).expr false q.2.tail).bd λx=>(zaC [41] x.2).bn λt=>((pG n).stmt t).bd λb=>gt (nd 30 [q.1,x.1,zbf b.1],b.2)
   else(zaC [59] q.2).bn λt=>((pG n).till [59] t).bd λx=>((pG n).till [41] x.2).bd λy=>((pG n).stmt y.2).bd λb=>gt (nd 29 [q.1,x.1,y.1,zbf b.1],b.2))
  ((h4.bind (g:=λx' n=>(zaC [41] x'.2).bn λt=>((pG n).stmt t).bd λb=>gt (nd 30 [x,x'.1,zbf b.1],b.2))
   ((h6.bind (g:=λb _=>gt (nd 30 [x,y,zbf b.1],b.2)) (Ok.ret _)).eq (by funext n;simp only[zbL h5,zd1,zfy]))).eq (by funext n;simp only[h2,h3,Bool.and_self,yB]))).up λn=>by
  show zoL (pG n) t=_;unfold zoL;rw[zbL h];rfl
theorem zMX(h:tIs [40] t=true)(h1:FIRST t.tail (x,t1))(h2:(zl9 x&&tIs [105,110] t1)=false)(h3:tIs [59] t1=true)(h4:TILL [59] t1.tail (y,t2))(h5:TILL [41] t2 (z,t3))(h6:zem t3 (b,t4)):LOOP t (nd 29 [x,y,z,zbf b],t4):=
 (h1.bind (g:=λq n=>if(zl9 q.1&&tIs [105,110] q.2)=true then((pG n).expr false q.2.tail).bd λx=>(zaC [41] x.2).bn λt=>((pG n).stmt t).bd λb=>gt (nd 30 [q.1,x.1,zbf b.1],b.2)
   else(zaC [59] q.2).bn λt=>((pG n).till [59] t).bd λx=>((pG n).till [41] x.2).bd λy=>((pG n).stmt y.2).bd λb=>gt (nd 29 [q.1,x.1,y.1,zbf b.1],b.2))
  ((h4.bind (g:=λx' n=>((pG n).till [41] x'.2).bd λy'=>((pG n).stmt y'.2).bd λb=>gt (nd 29 [x,x'.1,y'.1,zbf b.1],b.2))
   (h5.bind (g:=λy' n=>((pG n).stmt y'.2).bd λb=>gt (nd 29 [x,y,y'.1,zbf b.1],b.2))
    (h6.bind (g:=λb _=>gt (nd 29 [x,y,z,zbf b.1],b.2)) (Ok.ret _)))).eq (by funext n;simp only[h2,zbL h3,zd1,zfy,qz2,yA]))).up λn=>by
  show zoL (pG n) t=_;unfold zoL;rw[zbL h];rfl
theorem zJG(h:tIs [125] t=true):CASES o t ([],t.tail):=
 (Ok.ret _).up λn=>by show zjJ (pG n) o t=_;unfold zjJ;rw[yL h]
theorem zDH(h:tIs [125] t=false)(h1:tIs [100,101,102,97,117,108,116] t=true)(h2:tIs [58] t.tail=true)(h3:BODY t.tail.tail (l,t1))(h4:CASES false t1 (l1,t2)):CASES true t (nd 37 (nd 42 []::l)::l1,t2):=
 (h3.bind (g:=λl n=>((pG n).cases false l.2).bd λr=>gt (nd 37 (nd 42 []::l.1)::r.1,r.2)) (h4.bind (g:=λr _=>gt (nd 37 (nd 42 []::l)::r.1,r.2)) (Ok.ret _))).up λn=>by
  show zjJ (pG n) true t=_;unfold zjJ;rw[yK (by rw[h];decide),yL (by rw[h1];rfl),zbL h2];rfl
theorem zHI(h:tIs [125] t=false)(h1:(o&&tIs [100,101,102,97,117,108,116] t)=false)(h2:tIs [99,97,115,101] t=true)(h3:EXPR false t.tail (x,t1))(h4:tIs [58] t1=true)(h5:BODY t1.tail (l,t2))(h6:CASES o t2 (l1,t3)):CASES o t (nd 37 (x::l)::l1,t3):=
 (h3.bind (g:=λx n=>(zaC [58] x.2).bn λt=>((pG n).body t).bd λl=>((pG n).cases o l.2).bd λr=>gt (nd 37 (x.1::l.1)::r.1,r.2))
  ((h5.bind (g:=λl n=>((pG n).cases o l.2).bd λr=>gt (nd 37 (x::l.1)::r.1,r.2)) (h6.bind (g:=λr _=>gt (nd 37 (x::l)::r.1,r.2)) (Ok.ret _))).eq (by funext n;simp only[zbL h4,zd1,zfy]))).up λn=>by
  show zjJ (pG n) o t=_;unfold zjJ;rw[yK (by rw[h];decide),yK (by rw[h1];decide),zbL h2];rfl
theorem zL2(h:(zbv [[99,97,115,101],[100,101,102,97,117,108,116],[125]] t||zX t==0)=true):BODY t ([],t):=
 (Ok.ret _).up λn=>by show zoM (pG n) t=_;unfold zoM;rw[yL h]
theorem zUB(h:(zbv [[99,97,115,101],[100,101,102,97,117,108,116],[125]] t||zX t==0)=false)(h1:zem t (x,t1))(h2:BODY t1 (l,t2)):BODY t (x::l,t2):=
 (h1.bind (g:=λx n=>((pG n).body x.2).bd λl=>gt (x.1::l.1,l.2)) (h2.bind (g:=λq _=>gt (x::q.1,q.2)) (Ok.ret _))).up λn=>by
  show zoM (pG n) t=_;unfold zoM;rw[yK (by rw[h];decide)]
theorem zBm(h:(tIs [125] t||zX t==0)=true):zoQ f t ([],t):=
 (Ok.ret _).up λn=>by show ziA (pG n) f t=_;unfold ziA;rw[yL h]
theorem zKL(h:(tIs [125] t||zX t==0)=false)(h':(f&&tIs [102,117,110,99,116,105,111,110] t)=false)(h1:zem t (x,t1))(h2:zoQ f t1 (l,t2)):zoQ f t (x::l,t2):=
 (h1.bind (g:=λx n=>((pG n).stmts f x.2).bd λl=>gt (x.1::l.1,l.2)) (h2.bind (g:=λq _=>gt (x::q.1,q.2)) (Ok.ret _))).up λn=>by
  show ziA (pG n) f t=_;unfold ziA;rw[yK (by rw[h];decide),yK (by rw[h'];decide)]
theorem zMv(h:(tIs [125] t||zX t==0)=false)(h':tIs [102,117,110,99,116,105,111,110] t=true)(h1:FUNC 39 t.tail (x,t1))(h2:zoQ true t1 (l,t2)):zoQ true t (x::l,t2):=
 (h1.bind (g:=λx n=>((pG n).stmts true x.2).bd λl=>gt (x.1::l.1,l.2)) (h2.bind (g:=λq _=>gt (x::q.1,q.2)) (Ok.ret _))).up λn=>by
  show ziA (pG n) true t=_;unfold ziA;rw[yK (by rw[h];decide),yL (by rw[h'];rfl)]
theorem zmQ(h:tIs [59] t=true):zgN t=gt ((),t.tail):=by unfold zgN;rw[yL h]
theorem zOA(h:zct a [123])(h1:BLOCK (a::r) v):zem (a::r) v:=
 h1.up λn=>by show zbO (pG n) (a::r)=_;unfold zbO;rw[yL (by rw[h.is];decide)]
theorem zOM(h:zct a [59]):zem (a::r) (nd 40 [],r):=
 (Ok.ret _).up λn=>by show zbO (pG n) (a::r)=_;unfold zbO;simp only[h.is];rfl
theorem zTN(h:zct a [118,97,114])(h1:VARS false r (l,t1))(h2:tIs [59] t1=true):zem (a::r) (nd 22 l,t1.tail):=
 (h1.bind (g:=λl _=>(zgN l.2).bn λt=>gt (nd 22 l.1,t)) ((Ok.ret _).eq (by funext n;simp only[zmQ h2,zd1,zfy]))).up λn=>by show zbO (pG n) (a::r)=_;unfold zbO;simp only[h.is];rfl
theorem zT7(h:zct a [105,102])(h1:HEAD r (x,t1))(h2:zem t1 (b,t2))(h3:tIs [101,108,115,101] t2=false):zem (a::r) (nd 26 [x,zbf b],t2):=
 (h1.bind (g:=λx n=>((pG n).stmt x.2).bd λb=>if tIs [101,108,115,101] b.2=true then((pG n).stmt b.2.tail).bd λc=>gt (nd 26 [x.1,zbf b.1,zbf c.1],c.2)else gt (nd 26 [x.1,zbf b.1],b.2))
  (h2.bind (g:=λb n=>if tIs [101,108,115,101] b.2=true then((pG n).stmt b.2.tail).bd λc=>gt (nd 26 [x,zbf b.1,zbf c.1],c.2)else gt (nd 26 [x,zbf b.1],b.2)) ((Ok.ret _).eq (by funext n;simp only[h3,qz2,yA])))).up λn=>by
  show zbO (pG n) (a::r)=_;unfold zbO;simp only[h.is];rfl
theorem zLM(h:zct a [105,102])(h1:HEAD r (x,t1))(h2:zem t1 (b,t2))(h3:tIs [101,108,115,101] t2=true)(h4:zem t2.tail (d,t3)):zem (a::r) (nd 26 [x,zbf b,zbf d],t3):=
 (h1.bind (g:=λx n=>((pG n).stmt x.2).bd λb=>if tIs [101,108,115,101] b.2=true then((pG n).stmt b.2.tail).bd λc=>gt (nd 26 [x.1,zbf b.1,zbf c.1],c.2)else gt (nd 26 [x.1,zbf b.1],b.2))
  (h2.bind (g:=λb n=>if tIs [101,108,115,101] b.2=true then((pG n).stmt b.2.tail).bd λc=>gt (nd 26 [x,zbf b.1,zbf c.1],c.2)else gt (nd 26 [x,zbf b.1],b.2))
   ((h4.bind (g:=λc _=>gt (nd 26 [x,zbf b,zbf c.1],c.2)) (Ok.ret _)).eq (by funext n;simp only[h3,yB])))).up λn=>by
  show zbO (pG n) (a::r)=_;unfold zbO;simp only[h.is];rfl
theorem zNn(h:zct a [119,104,105,108,101])(h1:HEAD r (x,t1))(h2:zem t1 (b,t2)):zem (a::r) (nd 27 [x,zbf b],t2):=
 (h1.bind (g:=λx n=>((pG n).stmt x.2).bd λb=>gt (nd 27 [x.1,zbf b.1],b.2)) (h2.bind (g:=λb _=>gt (nd 27 [x,zbf b.1],b.2)) (Ok.ret _))).up λn=>by
  show zbO (pG n) (a::r)=_;unfold zbO;simp only[h.is];rfl
theorem zUs(h:zct a [100,111])(h1:zem r (b,t1))(h2:tIs [119,104,105,108,101] t1=true)(h3:HEAD t1.tail (x,t2))(h4:tIs [59] t2=true):zem (a::r) (nd 28 [zbf b,x],t2.tail):=
 (h1.bind (g:=λb n=>(zaC [119,104,105,108,101] b.2).bn λt=>((pG n).head t).bd λx=>(zgN x.2).bn λt=>gt (nd 28 [zbf b.1,x.1],t))
  ((h3.bind (g:=λx _=>(zgN x.2).bn λt=>gt (nd 28 [zbf b,x.1],t)) ((Ok.ret _).eq (by funext n;simp only[zmQ h4,zd1,zfy]))).eq (by funext n;simp only[zbL h2,zd1,zfy]))).up λn=>by
  show zbO (pG n) (a::r)=_;unfold zbO;simp only[h.is];rfl
theorem zKO(h:zct a [102,111,114])(h1:LOOP r v):zem (a::r) v:=
 h1.up λn=>by show zbO (pG n) (a::r)=_;unfold zbO;simp only[h.is];rfl
theorem zOr{p:Tok}(hp:p.kind=1)(hf:p.fresh=false)(h2:tIs [59] r=true):zkm k (p::r)=gt (ndN k p.text [],r.tail):=by
 unfold zkm;rw[yL (by show(p.kind==1&& !p.fresh)=true;rw[hp,hf];rfl)]
 show(zgN r).bn _=_;rw[zmQ h2];rfl
theorem zSt(h2:tIs [59] t=true):zkm k t=gt (nd k [],t.tail):=by
 unfold zkm;obtain⟨p,q,rfl,ho⟩:=zJh h2;rw[yK (by rw[(ho.kinds q).1];simp),zmQ h2];rfl
theorem zNN(h:zct a [98,114,101,97,107])(h1:zkm 31 r=gt v):zem (a::r) v:=
 (Ok.ret v).up λn=>by show zbO (pG n) (a::r)=_;unfold zbO;simp only[h.is];exact h1
theorem zJm(h:zct a [99,111,110,116,105,110,117,101])(h1:zkm 32 r=gt v):zem (a::r) v:=
 (Ok.ret v).up λn=>by show zbO (pG n) (a::r)=_;unfold zbO;simp only[h.is];exact h1
theorem zLS(h:zct a [114,101,116,117,114,110])(h0:(!tIs [59] r&& !zk2 r)=true)(h1:EXPR false r (x,t1))(h2:tIs [59] t1=true):zem (a::r) (nd 33 [x],t1.tail):=
 (h1.bind (g:=λx _=>(zgN x.2).bn λt=>gt (nd 33 [x.1],t)) ((Ok.ret _).eq (by funext n;simp only[zmQ h2,zd1,zfy]))).up λn=>by
  show zbO (pG n) (a::r)=_;unfold zbO;simp only[h.is];show(if(!tIs [59] r&& !zk2 r)=true then _ else _)=_;rw[yL h0];rfl
theorem zF4(h:zct a [114,101,116,117,114,110])(h1:tIs [59] r=true):zem (a::r) (nd 33 [],r.tail):=
 (Ok.ret _).up λn=>by
  show zbO (pG n) (a::r)=_;unfold zbO;simp only[h.is];show(if(!tIs [59] r&& !zk2 r)=true then _ else(zgN r).bn λt=>gt (nd 33 [],t))=_;rw[yK (by rw[h1];simp),zmQ h1];rfl
theorem zOK(h:zct a [116,104,114,111,119])(h0:ze6 r=false)(h1:EXPR false r (x,t1))(h2:tIs [59] t1=true):zem (a::r) (nd 34 [x],t1.tail):=
 (h1.bind (g:=λx _=>(zgN x.2).bn λt=>gt (nd 34 [x.1],t)) ((Ok.ret _).eq (by funext n;simp only[zmQ h2,zd1,zfy]))).up λn=>by
  show zbO (pG n) (a::r)=_;unfold zbO;simp only[h.is];show(if ze6 r=true then bad r else _)=_;rw[yK (by rw[h0];decide)];rfl
abbrev zGp(t:zB)(v:(Str×Node)×zB):Prop:=Ok (λn=>zm2 (pG n) t) v
abbrev zGC(t:zB)(v:Node×zB):Prop:=Ok (λn=>zkE (pG n) t) v
theorem zL9(h:tIs [99,97,116,99,104] t=false):zGp t (([],nd 42 []),t):=(Ok.ret _).eq (by funext n;unfold zm2;rw[yK (by rw[h];decide)])
theorem zSR{p:Tok}{q:zB}(h:tIs [99,97,116,99,104] t=true)(h1:tIs [40] t.tail=true)(h2:t.tail.tail=p::q)(hp:p.kind=1)(h3:tIs [41] q=true)(h4:BLOCK q.tail (b,t1)):zGp t ((p.text,b),t1):=
 (h4.bind (g:=λb _=>gt ((p.text,b.1),b.2)) (Ok.ret _)).eq (by
  funext n;unfold zm2;rw[yL h,zbL h1];simp only[zd1,zfy,h2];rw[yL (by show(p.kind==1)=true;rw[hp];rfl)]
  show(zaC [41] q).bn _=_;rw[zbL h3];rfl)
theorem zMz(h:tIs [102,105,110,97,108,108,121] t=false):zGC t (nd 42 [],t):=(Ok.ret _).eq (by funext n;unfold zkE;rw[yK (by rw[h];decide)])
theorem zR5(h:tIs [102,105,110,97,108,108,121] t=true)(h1:BLOCK t.tail v):zGC t v:=h1.eq (by funext n;unfold zkE;rw[yL h])
theorem zTQ(h:zct a [116,114,121])(h1:BLOCK r (b,t1))(h2:zGp t1 ((s,y),t2))(h3:zGC t2 (z,t3))(h4:(z.Kind==42&&y.Kind==42)=false):zem (a::r) (ndN 35 s [b,y,z],t3):=
 (h1.bind (g:=λb n=>(zm2 (pG n) b.2).bd λc=>(zkE (pG n) c.2).bd λf=>if(f.1.Kind==42&&c.1.2.Kind==42)=true then bad f.2 else gt (ndN 35 c.1.1 [b.1,c.1.2,f.1],f.2))
  (h2.bind (g:=λc n=>(zkE (pG n) c.2).bd λf=>if(f.1.Kind==42&&c.1.2.Kind==42)=true then bad f.2 else gt (ndN 35 c.1.1 [b,c.1.2,f.1],f.2))
   (h3.bind (g:=λf _=>if(f.1.Kind==42&&y.Kind==42)=true then bad f.2 else gt (ndN 35 s [b,y,f.1],f.2)) ((Ok.ret _).eq (by funext n;simp only[h4,qz2,yA]))))).up λn=>by
  show zbO (pG n) (a::r)=_;unfold zbO;simp only[h.is];rfl
theorem zMD(h:zct a [115,119,105,116,99,104])(h1:HEAD r (x,t1))(h2:tIs [123] t1=true)(h3:CASES true t1.tail (l,t2)):zem (a::r) (nd 36 (x::l),t2):=
 (h1.bind (g:=λx n=>(zaC [123] x.2).bn λt=>((pG n).cases true t).bd λl=>gt (nd 36 (x.1::l.1),l.2))
  ((h3.bind (g:=λl _=>gt (nd 36 (x::l.1),l.2)) (Ok.ret _)).eq (by funext n;simp only[zbL h2,zd1,zfy]))).up λn=>by
  show zbO (pG n) (a::r)=_;unfold zbO;simp only[h.is];rfl
def zwD:List Str:=[[123],[59],[118,97,114],[105,102],[119,104,105,108,101],[100,111],[102,111,114],[98,114,101,97,107],[99,111,110,116,105,110,117,101],[114,101,116,117,114,110],[116,104,114,111,119],[116,114,121],[115,119,105,116,99,104],[102,117,110,99,116,105,111,110]]
theorem zOF(hs: ∀w∈zwD,tIs w (a::r)=false)(h:a.kind=1)(h1:tIs [58] r=true)(h2:zem r.tail (x,t1)):zem (a::r) (ndN 38 a.text [x],t1):=
 (h2.bind (g:=λx _=>gt (ndN 38 a.text [x.1],x.2)) (Ok.ret _)).up λn=>by
  have hs:=λw h=>hs w h
  simp only[zwD,yP,List.not_mem_nil,or_false]at hs;show zbO (pG n) (a::r)=_;unfold zbO;simp only[hs _ (.inl rfl),hs _ (.inr (.inl rfl)),hs _ (.inr (.inr (.inl rfl))),hs _ (.inr (.inr (.inr (.inl rfl)))),hs _ (.inr (.inr (.inr (.inr (.inl rfl))))),hs _ (.inr (.inr (.inr (.inr (.inr (.inl rfl)))))),hs _ (.inr (.inr (.inr (.inr (.inr (.inr (.inl rfl))))))),hs _ (.inr (.inr (.inr (.inr (.inr (.inr (.inr (.inl rfl)))))))),hs _ (.inr (.inr (.inr (.inr (.inr (.inr (.inr (.inr (.inl rfl))))))))),hs _ (.inr (.inr (.inr (.inr (.inr (.inr (.inr (.inr (.inr (.inl rfl)))))))))),hs _ (.inr (.inr (.inr (.inr (.inr (.inr (.inr (.inr (.inr (.inr (.inl rfl))))))))))),hs _ (.inr (.inr (.inr (.inr (.inr (.inr (.inr (.inr (.inr (.inr (.inr (.inl rfl)))))))))))),hs _ (.inr (.inr (.inr (.inr (.inr (.inr (.inr (.inr (.inr (.inr (.inr (.inr (.inl rfl))))))))))))),hs _ (.inr (.inr (.inr (.inr (.inr (.inr (.inr (.inr (.inr (.inr (.inr (.inr (.inr rfl))))))))))))),qz2,yA]
  rw[yL (by show(a.kind==1&&tIs [58] r)=true;rw[h,h1];rfl)];rfl
theorem zHB(hs: ∀w∈zwD,tIs w t=false)(h:(zX t==1&&tIs [58] t.tail)=false)(h1:EXPR false t (x,t1))(h2:tIs [59] t1=true):zem t (nd 24 [x],t1.tail):=
 (h1.bind (g:=λx _=>(zgN x.2).bn λt=>gt (nd 24 [x.1],t)) ((Ok.ret _).eq (by funext n;simp only[zmQ h2,zd1,zfy]))).up λn=>by
  have hs:=λw h=>hs w h
  simp only[zwD,yP,List.not_mem_nil,or_false]at hs;show zbO (pG n) t=_;unfold zbO;simp only[hs _ (.inl rfl),hs _ (.inr (.inl rfl)),hs _ (.inr (.inr (.inl rfl))),hs _ (.inr (.inr (.inr (.inl rfl)))),hs _ (.inr (.inr (.inr (.inr (.inl rfl))))),hs _ (.inr (.inr (.inr (.inr (.inr (.inl rfl)))))),hs _ (.inr (.inr (.inr (.inr (.inr (.inr (.inl rfl))))))),hs _ (.inr (.inr (.inr (.inr (.inr (.inr (.inr (.inl rfl)))))))),hs _ (.inr (.inr (.inr (.inr (.inr (.inr (.inr (.inr (.inl rfl))))))))),hs _ (.inr (.inr (.inr (.inr (.inr (.inr (.inr (.inr (.inr (.inl rfl)))))))))),hs _ (.inr (.inr (.inr (.inr (.inr (.inr (.inr (.inr (.inr (.inr (.inl rfl))))))))))),hs _ (.inr (.inr (.inr (.inr (.inr (.inr (.inr (.inr (.inr (.inr (.inr (.inl rfl)))))))))))),hs _ (.inr (.inr (.inr (.inr (.inr (.inr (.inr (.inr (.inr (.inr (.inr (.inr (.inl rfl))))))))))))),hs _ (.inr (.inr (.inr (.inr (.inr (.inr (.inr (.inr (.inr (.inr (.inr (.inr (.inr rfl))))))))))))),h,qz2,yA]
end
def zAX:List Str:=[[116,104,105,115],[110,117,108,108],[116,114,117,101],[102,97,108,115,101],[40],[91],[123],[110,101,119],[45],[43],[33],[116,121,112,101,111,102],[100,101,108,101,116,101],[118,111,105,100],[43,43],[45,45],[59],[118,97,114],[105,102],[119,104,105,108,101],[100,111],[102,111,114],[98,114,101,97,107],[99,111,110,116,105,110,117,101],[114,101,116,117,114,110],[116,104,114,111,119],[116,114,121],[115,119,105,116,99,104]]
def ztO(t:zB):Prop:=∃a r,t=a::r/\(a.kind=1\/a.kind=3\/a.kind=4\/∃w,zct a w/\w∈zAX)
theorem ztO.is{t:zB}(h:ztO t){s:Str}(hs:zAX.contains s=false):tIs s t=false:=by
 obtain⟨a,r,rfl,h⟩:=h;rcases h with h|h|h| ⟨w,h1,h2⟩
 ·show(opK a&&_)=false;rw[zdF (.inl h)];rfl
 ·show(opK a&&_)=false;rw[zdF (.inr (.inl h))];rfl
 ·show(opK a&&_)=false;rw[zdF (.inr (.inr h))];rfl
 ·rw[h1.is,yH];rintro rfl;rw[show zAX.contains w=true by simpa using h2]at hs;cases hs
theorem ztO.any{t:zB}(h:ztO t){l:List Str}(hs: ∀w∈zAX,l.contains w=false):zbv l t=false:=by
 obtain⟨a,r,rfl,h⟩:=h;rcases h with h|h|h| ⟨w,h1,h2⟩
 ·show(opK a&&_)=false;rw[zdF (.inl h)];rfl
 ·show(opK a&&_)=false;rw[zdF (.inr (.inl h))];rfl
 ·show(opK a&&_)=false;rw[zdF (.inr (.inr h))];rfl
 ·rw[h1.any];exact hs w h2
theorem ztO.zGJ{t:zB}(h:ztO t):(zX t==0)=false:=by
 obtain⟨a,r,rfl,h⟩:=h;show(a.kind==0)=false;rcases h with h|h|h| ⟨w,h1,_⟩
 ·rw[h];rfl
 ·rw[h];rfl
 ·rw[h];rfl
 ·rcases h1.kind with e|e<;>rw[e]<;>rfl
structure zr0 (t:zB):Prop where
 els:tIs [101,108,115,101] t=false
 cat:tIs [99,97,116,99,104] t=false
 fin:tIs [102,105,110,97,108,108,121] t=false
theorem ztO.fol{t:zB}(h:ztO t):zr0 t:=⟨h.is (by decide),h.is (by decide),h.is (by decide)⟩
theorem zct.zfk{a:Tok}{w:Str}(h:zct a w)(r:zB)(h1:([[101,108,115,101],[99,97,116,99,104],[102,105,110,97,108,108,121]]:List Str).contains w=false):zr0 (a::r):=by
 have h1:w∉([[101,108,115,101],[99,97,116,99,104],[102,105,110,97,108,108,121]]:List Str):=by simpa using h1
 simp only[yP,List.not_mem_nil,or_false,not_or]at h1;exact⟨by rw[h.is,yH];exact h1.1,by rw[h.is,yH];exact h1.2.1,by rw[h.is,yH];exact h1.2.2⟩
section
variable (c:Str->Tok)
structure SR (y:Node):Prop where
 beg: ∀r,ztO (T c (tkN y).st++r)
 rd: ∀r,zr0 r->zem (T c (tkN y).st++r) (y,r)
structure FN (y:Node):Prop where
 st:(tkN y).st=[102,117,110,99,116,105,111,110]::(zf7 y (tkL y.L)).tail
 rd: ∀r,FUNC 39 (T c (zf7 y (tkL y.L)).tail++r) (y,r)
structure CS (y:Node):Prop where
 eq:y=nd 37 y.L
 ex: ∃a l,y.L=a::l/\(a=nd 42 []\/(zcu a.Kind=true/\RT c a))/\∀k∈l,SR c k
structure VD (y:Node):Prop where
 eq:y=nd 22 y.L
 ne: ∃d l,y.L=d::l
 ds: ∀d∈y.L,d=ndN 23 d.Name d.L/\zbU d.Name=true/\(d.L=[]\/∃a,d.L=[a]/\RT c a)
variable {c}
theorem zNu(ls:List Node)(h: ∀k∈ls,SR c k)(r:zB)(hr:(zbv [[99,97,115,101],[100,101,102,97,117,108,116],[125]] r||zX r==0)=true)(hf:zr0 r):BODY (T c (zY (tkL ls))++r) (ls,r):=by
 have hfol: ∀ls:List Node,(∀k∈ls,SR c k)->zr0 (T c (zY (tkL ls))++r):=by
  intro ls h;rcases ls with _| ⟨y,l⟩
  ·exact hf
  ·have e:zY (tkL (y::l))=(tkN y).st++zY (tkL l):=by simp[zY,tkL]
   rw[e,zbo,yE];exact((h y qz7).beg _).fol
 induction ls with
 |nil=>exact zL2 hr
 |cons y l ih=>
  have hl:=λk hk=>h k (qz8 _ hk)
  have e:zY (tkL (y::l))=(tkN y).st++zY (tkL l):=by simp[zY,tkL]
  rw[e,zbo,yE];have h:=h y qz7;have hb:=h.beg (T c (zY (tkL l))++r);exact zUB (by rw[hb.any (by decide),hb.zGJ];rfl) (h.rd _ (hfol l hl)) (ih hl)
variable (C:Cls c)
include C
theorem zey{w:Str}(l:List Str)(r:zB)(ho:zgh.contains w=true)(hb:zAX.contains w=true):ztO (T c (w::l)++r):=
 ⟨c w,T c l++r,rfl,.inr (.inr (.inr ⟨w,zai C ho,by simpa using hb⟩))⟩
theorem zCr(f:Bool)(ls:List Node)(h: ∀k∈ls,SR c k\/(f=true/\FN c k))(r:zB)(hr:(tIs [125] r||zX r==0)=true)(hf:zr0 r):zoQ f (T c (zY (tkL ls))++r) (ls,r):=by
 have of:=zai C (w:=[102,117,110,99,116,105,111,110]) (by decide)
 have hfol: ∀ls:List Node,(∀k∈ls,SR c k\/(f=true/\FN c k))->zr0 (T c (zY (tkL ls))++r):=by
  intro ls h;rcases ls with _| ⟨y,l⟩
  ·exact hf
  ·have e:zY (tkL (y::l))=(tkN y).st++zY (tkL l):=by simp[zY,tkL]
   rw[e,zbo,yE];rcases h y qz7 with h| ⟨_,h⟩
   ·exact(h.beg _).fol
   ·rw[h.st];exact of.zfk _ (by decide)
 induction ls with
 |nil=>exact zBm hr
 |cons y l ih=>
  have hl:=λk hk=>h k (qz8 _ hk)
  have e:zY (tkL (y::l))=(tkN y).st++zY (tkL l):=by simp[zY,tkL]
  rw[e,zbo,yE];rcases h y qz7 with q| ⟨ef,q⟩
  ·have hb:=q.beg (T c (zY (tkL l))++r);exact zKL (by rw[hb.is (by decide),hb.zGJ];rfl) (by rw[hb.is (by decide),Bool.and_false]) (q.rd _ (hfol l hl)) (ih hl)
  ·subst ef;rw[q.st,zba,yI];exact zMv (by rw[of.is,(of.kinds _).2.2.2];decide) (by rw[of.is];decide) (q.rd _) (ih hl)
theorem zMw: ∀(ns:List Str),(∀s∈ns,zbU s=true)->∀r:zB,zfL (T c (namesT ns)++c [41]::r)=gt (ns,r):=by
 have o:=zai C (w:=[41]) (by decide);have oc:=zai C (w:=[44]) (by decide)
 have key: ∀(l:List Str) (s:Str),zbU s=true->(∀q∈l,zbU q=true)->∀r,zjy (T c (s::l.flatMap λq=>[[44],q])++c [41]::r)=gt (s::l,r):=by
  intro l;induction l with
  |nil=>
   intro s hs _ r;obtain⟨k1,k2⟩:=C.name s hs;show zjy (c s::c [41]::r)=_;rw[zjy];rw[yL (by rw[k1];rfl),yL (by rw[o.is];decide),k2]
  |cons q l ih=>
   intro s hs hl r;obtain⟨k1,k2⟩:=C.name s hs;have:=ih q (hl q qz7) (λp hp=>hl p (qz8 _ hp)) r;show zjy (c s::c [44]::(T c (q::l.flatMap λq=>[[44],q])++c [41]::r))=_;rw[zjy];rw[yL (by rw[k1];rfl),yK (by rw[oc.is];decide),yL (by rw[oc.is];decide),yK (by show ¬(opK (c q)&&_)=true;rw[zdF (.inl (C.name q (hl q qz7)).1)];simp),this,k2];rfl
 intro ns h r;rcases ns with _| ⟨s,l⟩
 ·show zfL (c [41]::r)=_;unfold zfL;rw[yL (by rw[o.is];decide)];rfl
 ·unfold zfL;have hk:=(C.name s (h s qz7)).1;rw[yK (by show ¬(opK (c s)&&_)=true;rw[zdF (.inl hk)];simp)]
  exact key l s (h s qz7) (λq hq=>h q (qz8 _ hq)) r
theorem zFB{x:Node}{k:Int}(h:x.Kind=k)(hk:k=10\/k=39)(ho:zao x=true)(hs: ∀y∈x.L,SR c y\/FN c y)(r:zB):FUNC k (T c (zf7 x (tkL x.L)).tail++r) (x,r):=by
 have o1:=zai C (w:=[40]) (by decide);have o2:=zai C (w:=[123]) (by decide);have o3:=zai C (w:=[125]) (by decide)
 have hns: ∀s∈x.Names,zbU s=true:=by
  simp only[zao,qz4]at ho;simpa using ho.2.2.2.2
 have hnm:(k=39->zbU x.Name=true)/\(x.Name=[]\/zbU x.Name=true):=by
  have:=(zaN ho).1;rcases hk with rfl|rfl
  ·refine⟨λe=>absurd e (by decide),?_⟩;simpa [zab,h]using this
  ·have:zbU x.Name=true:=by simpa [zab,h]using this
   exact⟨λ_=>this,.inr this⟩
 have e:=zTM h hk ho;have hst:=zCr C true x.L (λy hy=>(hs y hy).imp id λq=>⟨rfl,q⟩) (c [125]::r) (by rw[o3.is];rfl) (o3.zfk _ (by decide))
 have hp:=zMw C x.Names hns (c [123]::(T c (zY (tkL x.L))++c [125]::r))
 have ht:T c (zf7 x (tkL x.L)).tail++r=T c (if(x.Name==([]:Str))=true then[]else[x.Name])++c [40]::(T c (namesT x.Names)++c [41]::c [123]::(T c (zY (tkL x.L))++c [125]::r)):=by
  simp[zf7,T]
 rw[ht]
 have hm:(if(zX (T c (if(x.Name==([]:Str))=true then[]else[x.Name])++c [40]::(T c (namesT x.Names)++c [41]::c [123]::(T c (zY (tkL x.L))++c [125]::r)))==1)=true then gt (tText (T c (if(x.Name==([]:Str))=true then[]else[x.Name])++c [40]::(T c (namesT x.Names)++c [41]::c [123]::(T c (zY (tkL x.L))++c [125]::r))),(T c (if(x.Name==([]:Str))=true then[]else[x.Name])++c [40]::(T c (namesT x.Names)++c [41]::c [123]::(T c (zY (tkL x.L))++c [125]::r))).tail)else if(k==39)=true then bad (T c (if(x.Name==([]:Str))=true then[]else[x.Name])++c [40]::(T c (namesT x.Names)++c [41]::c [123]::(T c (zY (tkL x.L))++c [125]::r)))else gt (([]:Str),T c (if(x.Name==([]:Str))=true then[]else[x.Name])++c [40]::(T c (namesT x.Names)++c [41]::c [123]::(T c (zY (tkL x.L))++c [125]::r))))=gt (x.Name,c [40]::(T c (namesT x.Names)++c [41]::c [123]::(T c (zY (tkL x.L))++c [125]::r))):=by
  rcases hnm.2 with n|n
  ·have hk39:(k==39)=false:=by
    rw[yH];rintro rfl;have:=hnm.1 rfl;rw[n]at this;exact absurd this (by decide)
   rw[n];show(if(zX (c [40]::_)==1)=true then _ else _)=_;rw[(o1.kinds _).1,hk39];rfl
  ·have hne:(x.Name==([]:Str))=false:=by
    rw[yH];intro e;rw[e]at n;exact absurd n (by decide)
   obtain⟨k1,k2⟩:=C.name x.Name n;rw[hne];show(if((c x.Name).kind==1)=true then gt ((c x.Name).text,_)else _)=_;rw[k1,k2];rfl
 have:=zWM hm (by rw[o1.is];decide) hp (by rw[o2.is];decide) hst (by rw[o3.is];decide)
 rw[<-e]at this;exact this
theorem zMd{x:Node}(h:x.Kind=25)(ho:zao x=true)(hs: ∀y∈x.L,SR c y)(r:zB):BLOCK (T c (tkN x).st++r) (x,r):=by
 have o2:=zai C (w:=[123]) (by decide);have o3:=zai C (w:=[125]) (by decide);have e:=zd0 h ho (by decide) (by decide);rw[zC0 h,zba,zbo,yI,yE];have hst:=zCr C false x.L (λy hy=> .inl (hs y hy)) (c [125]::r) (by rw[o3.is];rfl) (o3.zfk _ (by decide))
 have:=zRU (t:=c [123]::(T c (zY (tkL x.L))++c [125]::r)) (by rw[o2.is];decide) hst (by rw[o3.is];decide)
 rw[<-e]at this;exact this
theorem zpx{k:Node}(R:RT c k)(r:zB):HEAD (T c ([40]::(atT (tkN k) 0 false++[[41]]))++r) (k,r):=by
 have o1:=zai C (w:=[40]) (by decide);have o2:=zai C (w:=[41]) (by decide);rw[zba,zbo,yI,yE];show HEAD (c [40]::(T c (atT (tkN k) 0 false)++c [41]::r)) (k,r);exact r_head (t:=c [40]::(T c (atT (tkN k) 0 false)++c [41]::r)) (t1:=c [41]::r) (by rw[o1.is];decide) (at_end C R false [41] r (by decide) (by decide) 0) (by rw[o2.is];decide)
theorem vars_read(no:Bool)(ls:List Node)(hne:ls≠[])(h: ∀d∈ls,d=ndN 23 d.Name d.L/\zbU d.Name=true/\(d.L=[]\/∃a,d.L=[a]/\RT c a))(r:zB)(h1:tIs [44] r=false)(h2:tIs [61] r=false)(h3:zbX no r<=0):
  VARS no (T c (commas (declT no) (tkL ls))++r) (ls,r):=by
 have oc:=zai C (w:=[44]) (by decide);have oe:=zai C (w:=[61]) (by decide)
 have hd: ∀d∈ls,∀t:zB,tIs [61] t=false->zbX no t<=0->∃q,T c (declT no (tkN d))++t=c d.Name::q/\(c d.Name).kind=1/\(c d.Name).text=d.Name/\zHc no q (d.L,t):=by
  intro d hd t ht hf;obtain⟨e,n,hl⟩:=h d hd;obtain⟨k1,k2⟩:=C.name d.Name n;unfold declT;rw[zdC,zjH];rcases hl with hl| ⟨a,hl,R⟩
  ·rw[hl];exact⟨t,by simp[tkL,k0,T],k1,k2,zM5 ht⟩
  ·rw[hl,tk0];exact⟨T c ([61]::atT (tkN a) 1 no)++t,rfl,k1,k2,zUJ (by show tIs [61] (c [61]::_)=true;rw[oe.is];decide) (zm0 C R no t hf 1 (by decide))⟩
 have key: ∀(l:List Node),(∀k∈l,k∈ls)->∀y,y∈ls->VARS no (T c (declT no (tkN y)++zb8 (declT no) (tkL l))++r) (y::l,r):=by
  intro l;induction l with
  |nil=>
   intro _ y hy;have e:zb8 (declT no) (tkL [])=[]:=by simp[zb8,tkL]
   rw[e,List.append_nil];obtain⟨q,e1,k1,k2,hq⟩:=hd y hy r h2 h3;rw[e1];have:=zJV k1 hq h1;rw[k2,<-(h y hy).1]at this;exact this
  |cons z l ih=>
   intro hl y hy;have e:zb8 (declT no) (tkL (z::l))=[44]::(declT no (tkN z)++zb8 (declT no) (tkL l)):=by simp[zb8,tkL]
   rw[e,zbo,yE,zba,yI];obtain⟨q,e1,k1,k2,hq⟩:=hd y hy (c [44]::(T c (declT no (tkN z)++zb8 (declT no) (tkL l))++r)) (by rw[oc.is];decide) (by rw[oc.fol];cases no<;>decide)
   rw[e1];have:=zKi k1 hq (by rw[oc.is];decide) (ih (λk hk=>hl k (qz8 _ hk)) z (hl z qz7))
   rw[k2,<-(h y hy).1]at this;exact this
 rcases ls with _| ⟨y,l⟩
 ·exact absurd rfl hne
 ·have e:commas (declT no) (tkL (y::l))=declT no (tkN y)++zb8 (declT no) (tkL l):=by simp[tkL,commas,zb8]
  rw[e];exact key l (λk hk=>qz8 _ hk) y qz7
end
end Go.D08
