/- Texts for a statement of this seat. -/
import Derived.Test.YtdapbipagjmolaaGreatDoorMb4
set_option linter.unusedSectionVars false
set_option linter.unusedVariables false
set_option linter.unusedSimpArgs false
set_option linter.unnecessarySimpa false
namespace Go.D08
open Go Go.Gw Go.Dn
set_option maxRecDepth 100000
theorem zkV(ws:List Str)(h: ∀w∈ws,w≠[]/\(32:UInt8)∉w)(s:Str):zcd (joined ws) s=ws.contains s:=by
 unfold zcd;by_cases h0:s=[]
 ·subst h0
  have:ws.contains ([]:Str)=false:=by
   cases hc:ws.contains ([]:Str)with
   |false=>rfl
   |true=>exact absurd rfl (h [] (by simpa using hc)).1
  rw[this];rfl
 ·have e0:(s==([]:Str))=false:=by rw[yH];exact h0
  rw[e0];by_cases h1:(32:UInt8)∈s
  ·have e1:s.contains 32=true:=by simpa using h1
   have:ws.contains s=false:=by
    cases hc:ws.contains s with
    |false=>rfl
    |true=>exact absurd h1 (h s (by simpa using hc)).2
   rw[e1,this];rfl
  ·have e1:s.contains 32=false:=by simpa using h1
   rw[e1,zki s h1 ws λw hw=>(h w hw).2];rfl
def lv1(l:List Node):Str:=match l with
 | []=>[]
 |_::_=>[101]
def lv3(l:List Node):Str:=match l with
 |_::_::_::_=>[101,98,98]
 |_=>[101,98]
theorem zN8(l:List Node):zaQ ([101]:Str) 0 (if 1< ((l.length:Nat):Int)then 1 else((l.length:Nat):Int))=some (lv1 l):=by
 rw[zLf (zAL _).1 (zAL _).2];cases l with
 |nil=>rfl
 |cons a r=>
  have:(if 1< (((a::r).length:Nat):Int)then(1:Int)else(((a::r).length:Nat):Int))=1:=by simp only[qz3];split<;>omega
  rw[this];rfl
theorem zVk(l:List Node):zaQ ([101,98,98]:Str) 0 (let a:=(if 2>((l.length:Nat):Int)then 2 else((l.length:Nat):Int));if 3<a then 3 else a)=some (lv3 l):=by
 rw[zEl (zA3 _).1 (zA3 _).2]
 match l with
 | []=>rfl
 | [_]=>rfl
 | [_,_]=>rfl
 |a::b::c::r=>
  have:(let a':=(if 2>(((a::b::c::r).length:Nat):Int)then(2:Int)else(((a::b::c::r).length:Nat):Int));if 3<a' then 3 else a')=3:=by simp only[qz3];split<;>split<;>omega
  rw[this];rfl
theorem zVs{x:Node}(h:x.Kind=1):zaq x=some ⟨[],9007199254740991,false,false,[]⟩:=by
 simp[zaq,zaE,zL,zN,h,zq,zq]
theorem zUG{x:Node}(h:x.Kind=2):zaq x=some ⟨[],0,true,false,[]⟩:=by
 simp[zaq,zaE,zL,zN,h,zq,zq]
theorem zUQ{x:Node}(h:x.Kind=3):zaq x=some ⟨[110],0,false,false,[]⟩:=by
 simp[zaq,zaE,zL,zN,h,zq,zq]
theorem zVK{x:Node}(h:x.Kind=4):zaq x=some ⟨[],0,false,false,[]⟩:=by
 simp[zaq,zaE,zL,zN,h,zq,zq]
theorem zVr{x:Node}(h:x.Kind=5):zaq x=some ⟨[],0,false,false,[]⟩:=by
 simp[zaq,zaE,zL,zN,h,zq,zq]
theorem zUP{x:Node}(h:x.Kind=6):zaq x=some ⟨[],1,false,false,[]⟩:=by
 simp[zaq,zaE,zL,zN,h,zq,zq]
theorem zU2{x:Node}(h:x.Kind=7):zaq x=some ⟨[],0,false,false,[42,101]⟩:=by
 simp[zaq,zaE,zL,zN,h,zq,zq]
theorem zUX{x:Node}(h:x.Kind=8):zaq x=some ⟨[],0,false,false,[42,112]⟩:=by
 simp[zaq,zaE,zL,zN,h,zq,zq]
theorem zVv{x:Node}(h:x.Kind=9):zaq x=some ⟨[],0,true,false,[101]⟩:=by
 simp[zaq,zaE,zL,zN,h,zq,zq]
theorem zTv{x:Node}(h:x.Kind=10):zaq x=some ⟨[109],0,false,true,[42,120]⟩:=by
 simp[zaq,zaE,zL,zN,h,zq,zq]
theorem zSj{x:Node}(h:x.Kind=11):zaq x=some ⟨[105],0,false,false,[101]⟩:=by
 simp[zaq,zaE,zL,zN,h,zq,zq]
theorem zTb{x:Node}(h:x.Kind=12):zaq x=some ⟨[],0,false,false,[101,101]⟩:=by
 simp[zaq,zaE,zL,zN,h,zq,zq]
theorem zSL{x:Node}(h:x.Kind=13):zaq x=some ⟨[],0,false,false,[101,42,101]⟩:=by
 simp[zaq,zaE,zL,zN,h,zq,zq]
theorem zSD{x:Node}(h:x.Kind=14):zaq x=some ⟨[],0,false,false,[101,42,101]⟩:=by
 simp[zaq,zaE,zL,zN,h,zq,zq]
theorem zS3{x:Node}(h:x.Kind=15):zaq x=some ⟨[32,45,32,43,32,33,32,116,121,112,101,111,102,32,100,101,108,101,116,101,32,118,111,105,100,32],0,false,false,[101]⟩:=by
 simp[zaq,zaE,zL,zN,h,zq,zq]
theorem zSs{x:Node}(h:x.Kind=16):zaq x=some ⟨[32,43,43,32,45,45,32],1,false,false,[116]⟩:=by
 simp[zaq,zaE,zL,zN,h,zq,zq]
theorem zSW{x:Node}(h:x.Kind=17):zaq x=some ⟨[32,43,32,45,32,42,32,47,32,37,32,60,32,62,32,60,61,32,62,61,32,61,61,32,33,61,32,61,61,61,32,33,61,61,32,105,110,32,105,110,115,116,97,110,99,101,111,102,32],0,false,false,[101,101]⟩:=by
 simp[zaq,zaE,zL,zN,h,zq,zq]
theorem zSU{x:Node}(h:x.Kind=18):zaq x=some ⟨[32,38,38,32,124,124,32],0,false,false,[101,101]⟩:=by
 simp[zaq,zaE,zL,zN,h,zq,zq]
theorem zSd{x:Node}(h:x.Kind=19):zaq x=some ⟨[],0,false,false,[101,101,101]⟩:=by
 simp[zaq,zaE,zL,zN,h,zq,zq]
theorem zTq{x:Node}(h:x.Kind=20):zaq x=some ⟨[32,61,32,43,61,32,45,61,32,42,61,32,47,61,32,37,61,32],0,false,false,[116,101]⟩:=by
 simp[zaq,zaE,zL,zN,h,zq,zq]
theorem zR9{x:Node}(h:x.Kind=21):zaq x=some ⟨[],0,false,false,[101,101]⟩:=by
 simp[zaq,zaE,zL,zN,h,zq,zq]
theorem zTh{x:Node}(h:x.Kind=22):zaq x=some ⟨[],0,false,false,[100,42,100]⟩:=by
 simp[zaq,zaE,zL,zN,h,zq,zq]
theorem zRR{x:Node}(h:x.Kind=23):zaq x=some ⟨[110],0,false,false,lv1 x.L⟩:=by
 simp[zaq,zaE,zL,zN,h,zq,zq,zN8]
theorem zTR{x:Node}(h:x.Kind=24):zaq x=some ⟨[],0,false,false,[101]⟩:=by
 simp[zaq,zaE,zL,zN,h,zq,zq]
theorem zSu{x:Node}(h:x.Kind=25):zaq x=some ⟨[],0,false,false,[42,115]⟩:=by
 simp[zaq,zaE,zL,zN,h,zq,zq]
theorem zTV{x:Node}(h:x.Kind=26):zaq x=some ⟨[],0,false,false,lv3 x.L⟩:=by
 have e:=zVk x.L;simp only at e;simp[zaq,zaE,zL,h,zq,zq,e]
theorem zRW{x:Node}(h:x.Kind=27):zaq x=some ⟨[],0,false,false,[101,98]⟩:=by
 simp[zaq,zaE,zL,zN,h,zq,zq]
theorem zSq{x:Node}(h:x.Kind=28):zaq x=some ⟨[],0,false,false,[98,101]⟩:=by
 simp[zaq,zaE,zL,zN,h,zq,zq]
theorem zSw{x:Node}(h:x.Kind=29):zaq x=some ⟨[],0,false,false,[118,102,102,98]⟩:=by
 simp[zaq,zaE,zL,zN,h,zq,zq]
theorem zTG{x:Node}(h:x.Kind=30):zaq x=some ⟨[],0,false,false,[119,101,98]⟩:=by
 simp[zaq,zaE,zL,zN,h,zq,zq]
theorem zSQ{x:Node}(h:x.Kind=31):zaq x=some ⟨[109],0,false,false,[]⟩:=by
 simp[zaq,zaE,zL,zN,h,zq,zq]
theorem zSc{x:Node}(h:x.Kind=32):zaq x=some ⟨[109],0,false,false,[]⟩:=by
 simp[zaq,zaE,zL,zN,h,zq,zq]
theorem zSR{x:Node}(h:x.Kind=33):zaq x=some ⟨[],0,false,false,lv1 x.L⟩:=by
 simp[zaq,zaE,zL,zN,h,zq,zq,zN8]
theorem zS1{x:Node}(h:x.Kind=34):zaq x=some ⟨[],0,false,false,[101]⟩:=by
 simp[zaq,zaE,zL,zN,h,zq,zq]
theorem zUb{x:Node}(h:x.Kind=35):zaq x=some ⟨[99],0,false,false,[98,99,99]⟩:=by
 simp[zaq,zaE,zL,zN,h,zq,zq]
theorem zUq{x:Node}(h:x.Kind=36):zaq x=some ⟨[],0,false,false,[101,42,107]⟩:=by
 simp[zaq,zaE,zL,zN,h,zq,zq]
theorem zSJ{x:Node}(h:x.Kind=37):zaq x=some ⟨[],0,false,false,[102,42,115]⟩:=by
 simp[zaq,zaE,zL,zN,h,zq,zq]
theorem zR6{x:Node}(h:x.Kind=38):zaq x=some ⟨[110],0,false,false,[115]⟩:=by
 simp[zaq,zaE,zL,zN,h,zq,zq]
theorem zTL{x:Node}(h:x.Kind=39):zaq x=some ⟨[110],0,false,true,[42,120]⟩:=by
 simp[zaq,zaE,zL,zN,h,zq,zq]
theorem zTT{x:Node}(h:x.Kind=40):zaq x=some ⟨[],0,false,false,[]⟩:=by
 simp[zaq,zaE,zL,zN,h,zq,zq]
theorem zSY{x:Node}(h:x.Kind=41):zaq x=some ⟨[],0,false,false,[42,120]⟩:=by
 simp[zaq,zaE,zL,zN,h,zq,zq]
theorem zTM{x:Node}(h:x.Kind=42):zaq x=some ⟨[],0,false,false,[]⟩:=by
 simp[zaq,zaE,zL,zN,h,zq,zq]
theorem zPN(s:Str):zcd [32,45,32,43,32,33,32,116,121,112,101,111,102,32,100,101,108,101,116,101,32,118,111,105,100,32] s=zsF.contains s:=by
 rw[show([32,45,32,43,32,33,32,116,121,112,101,111,102,32,100,101,108,101,116,101,32,118,111,105,100,32]:Str)=joined zsF by decide+kernel];exact zkV _ (by decide+kernel) s
theorem zQd(s:Str):zcd [32,43,43,32,45,45,32] s=zgC.contains s:=by
 rw[show([32,43,43,32,45,45,32]:Str)=joined zgC by decide+kernel];exact zkV _ (by decide+kernel) s
def zoU:List Str:=[[43],[45],[42],[47],[37],[60],[62],[60,61],[62,61],[61,61],[33,61],[61,61,61],[33,61,61],[105,110],[105,110,115,116,97,110,99,101,111,102]]
theorem zP9(s:Str):zcd [32,43,32,45,32,42,32,47,32,37,32,60,32,62,32,60,61,32,62,61,32,61,61,32,33,61,32,61,61,61,32,33,61,61,32,105,110,32,105,110,115,116,97,110,99,101,111,102,32] s=zoU.contains s:=by
 rw[show([32,43,32,45,32,42,32,47,32,37,32,60,32,62,32,60,61,32,62,61,32,61,61,32,33,61,32,61,61,61,32,33,61,61,32,105,110,32,105,110,115,116,97,110,99,101,111,102,32]:Str)=joined zoU by decide+kernel];exact zkV _ (by decide+kernel) s
def ztu:List Str:=[[38,38],[124,124]]
theorem zPm(s:Str):zcd [32,38,38,32,124,124,32] s=ztu.contains s:=by
 rw[show([32,38,38,32,124,124,32]:Str)=joined ztu by decide+kernel];exact zkV _ (by decide+kernel) s
theorem zQw(s:Str):zcd [32,61,32,43,61,32,45,61,32,42,61,32,47,61,32,37,61,32] s=zrW.contains s:=by
 rw[show([32,61,32,43,61,32,45,61,32,42,61,32,47,61,32,37,61,32]:Str)=joined zrW by decide+kernel];exact zkV _ (by decide+kernel) s
def zI(x:Node):Bool:=
 if((x.Kind==3||x.Kind==23)||(x.Kind==38||x.Kind==39))=true then zaP x.Name
 else if((x.Kind==10||x.Kind==31)||x.Kind==32)=true then x.Name==([]:Str)||zaP x.Name
 else if(x.Kind==11)=true then zdD x.Name
 else if(x.Kind==35)=true then(if(match x.L with| [_,y,_]=>y.Kind==25|_=>false)=true then zaP x.Name else x.Name==([]:Str))
 else if(x.Kind==15)=true then zsF.contains x.Name
 else if(x.Kind==16)=true then zgC.contains x.Name
 else if(x.Kind==17)=true then zoU.contains x.Name
 else if(x.Kind==18)=true then ztu.contains x.Name
 else if(x.Kind==20)=true then zrW.contains x.Name
 else x.Name==([]:Str)
def zaB(x:Node):Bool:=
 if(x.Kind==1)=true then decide (0<=x.Num)&&decide (x.Num<=9007199254740991)
 else if(x.Kind==6||x.Kind==16)=true then x.Num==0||x.Num==1
 else x.Num==0
def zX(x:Node):Bool:=(zI x&&(x.Text==([]:Str)||(x.Kind==2||x.Kind==9)))&&(zaL x.Text&&(zaB x&&((x.Names.isEmpty||(x.Kind==10||x.Kind==39))&&x.Names.all zaP)))
def zu(y:Node)(c:UInt8):Bool:=isP y ((c.toNat:Nat):Int)&&zan y
def zM:Str->Option UInt8->List Node->Bool
 | [],some c,l=>l.all λy=>zu y c
 | [],none,l=>l.isEmpty
 |c::cs,m,y::ys=>zu y c&&zM cs m ys
 |_::_,_,[]=>false
theorem zDr: ∀(cs:Str) (m:Option UInt8) (l:List Node),zM cs m l=true->cs.length<=l.length/\(m.isSome=true\/l.length<=cs.length)
 | [],some c,l,_=>⟨Nat.zero_le _,.inl rfl⟩
 | [],none,l,h=>by
  cases l with
  |nil=>exact⟨yJ _,.inr (yJ _)⟩
  |cons a r=>cases h
 |c::cs,m,y::ys,h=>by
  simp only[zM,qz4]at h;obtain⟨h1,h2⟩:=zDr cs m ys h.2;exact⟨by simp only[qz3];omega,h2.imp id λh=>by simp only[qz3];omega⟩
 |_::_,_,[],h=>by cases h
def zv8(m:Option UInt8):Str:=match m with
 |some c=>[c]
 |none=>[]
theorem zFB(x:Node)(ls:Str)(c:UInt8)(hc:ls[ls.length -1]? =some c)(hx: ∀k,ziJ x k=false)(e:Nat)(he:e<2): ∀(r:List Node) (i:Nat),ls.length -1<=i->zia x ls (zjT r) i e=r.all λy=>zu y c
 | [],i,hi=>by simp[zjT,zia,he]
 |k::r,i,hi=>by
  simp only[zjT,zia,List.all_cons];rw[show min i (ls.length -1)=ls.length -1 by omega,hc];simp only[hx k,qz2,yA,zFB x ls c hc hx e he r (i+1) (by omega),zu]
theorem zCA(x:Node)(m:Option UInt8)(hx: ∀k,ziJ x k=false): ∀(cs pre:Str) (l:List Node),cs.length<=l.length->(m.isSome=true\/l.length<=cs.length)->zia x (pre++(cs++zv8 m)) (zjT l) pre.length 0=zM cs m l
 | [],pre,l,h1,h2=>by
  cases m with
  |none=>
   have:l=[]:=List.length_eq_zero_iff.1 (by
    rcases h2 with h2|h2
    ·cases h2
    ·simpa using h2)
   subst this;rfl
  |some c=>
   simp only[zM,List.nil_append,zv8];exact zFB x _ c (by simp) hx 0 (by omega) l pre.length (by simp)
 |c::cs,pre,[],h1,h2=>by simp at h1
 |c::cs,pre,y::ys,h1,h2=>by
  simp only[zjT,zia,zM];have hlt:min pre.length ((pre++(c::cs++zv8 m)).length -1)=pre.length:=by simp only[qz5,qz3];omega
  rw[hlt];have:(pre++(c::cs++zv8 m))[pre.length]? =some c:=by simp
  rw[this];simp only[hx y,qz2,yA];have ih:=zCA x m hx cs (pre++[c]) ys (by simpa using h1) (h2.imp id λh=>by simpa using h);rw[show(pre++[c])++(cs++zv8 m)=pre++(c::cs++zv8 m) by simp]at ih;rw[qz5,List.length_singleton]at ih;rw[ih];rfl
theorem zbt{x:Node}{f:Form}(fx:Str)(m:Option UInt8)(hf:zaq x=some f)(hs:zti x f=zX x)(h1:zf2 f.l=fx)(h2:zou f.l=zv8 m)(h3:f.l.contains 42=m.isSome)(h35:x.Kind≠35)(h36:x.Kind≠36):zan x=(zX x&&zM fx m x.L):=by
 have hx: ∀k,ziJ x k=false:=λk=>by
  have e1:(x.Kind==35)=false:=by rw[yH];exact h35
  have e2:(x.Kind==36)=false:=by rw[yH];exact h36
  simp[ziJ,e1,e2]
 rw[zow];unfold zwq;rw[hf];simp only;rw[hs,h1,h2];cases zX x with
 |false=>rfl
 |true=>
  simp only[Bool.true_and];unfold zjr;rw[h1,h3];by_cases hl:fx.length<=x.L.length/\(m.isSome=true\/x.L.length<=fx.length)
  ·have:=zCA x m hx fx [] x.L hl.1 hl.2;simp only[List.nil_append,qz6]at this;rw[this]
   have e:(decide (fx.length<=x.L.length)&&(m.isSome||decide (x.L.length<=fx.length)))=true:=by
    simp only[qz4,yQ,yT];exact hl
   rw[e,Bool.true_and]
  ·have e:(decide (fx.length<=x.L.length)&&(m.isSome||decide (x.L.length<=fx.length)))=false:=by
    rw[Bool.eq_false_iff];intro h;simp only[qz4,yQ,yT]at h;exact hl h
   rw[e,Bool.false_and];symm;rw[Bool.eq_false_iff];intro h;exact hl (zDr _ _ _ h)
theorem zaX{x:Node}{f:Form}(hn:za0 x f.name=zI x)(hm:(decide (0<=x.Num)&&decide (x.Num<=f.num))=zaB x)(ht:f.text=(x.Kind==2||x.Kind==9))(hs:f.names=(x.Kind==10||x.Kind==39)):zti x f=zX x:=by
 unfold zti zX;rw[hn,hm,ht,hs];generalize zI x=a1;generalize zaB x=a2;generalize zaL x.Text=a3;generalize (x.Text==([]:Str))=a4;generalize (x.Kind==2||x.Kind==9)=a5;generalize x.Names.isEmpty=a6;generalize (x.Kind==10||x.Kind==39)=a7;generalize x.Names.all zaP=a8;cases a1<;>cases a2<;>cases a3<;>cases a4<;>cases a5<;>cases a6<;>cases a7<;>cases a8<;>rfl
theorem zc1(n:Int):(decide (0<=n)&&decide (n<=0))=(n==0):=by
 rw[Bool.eq_iff_iff];simp only[qz4,yT,beq_iff_eq];omega
theorem num1(n:Int):(decide (0<=n)&&decide (n<=1))=(n==0||n==1):=by
 rw[Bool.eq_iff_iff];simp only[qz4,yQ,yT,beq_iff_eq];omega
theorem zG0{x:Node}(h:x.Kind=1):zan x=(zX x&&zM [] none x.L):=
 zbt [] none (zVs h) (zaX (by simp[za0,zI,h]) (by simp[zaB,h]) (by rw[h];rfl) (by rw[h];rfl)) (rfl) (rfl) (rfl) (by omega) (by omega)
theorem zGx{x:Node}(h:x.Kind=2):zan x=(zX x&&zM [] none x.L):=
 zbt [] none (zUG h) (zaX (by simp[za0,zI,h]) (by rw[zc1];simp[zaB,h]) (by rw[h];rfl) (by rw[h];rfl)) (rfl) (rfl) (rfl) (by omega) (by omega)
theorem zMJ{x:Node}(h:x.Kind=3):zan x=(zX x&&zM [] none x.L):=
 zbt [] none (zUQ h) (zaX (by simp[za0,zI,h]) (by rw[zc1];simp[zaB,h]) (by rw[h];rfl) (by rw[h];rfl)) (rfl) (rfl) (rfl) (by omega) (by omega)
theorem zWB{x:Node}(h:x.Kind=4):zan x=(zX x&&zM [] none x.L):=
 zbt [] none (zVK h) (zaX (by simp[za0,zI,h]) (by rw[zc1];simp[zaB,h]) (by rw[h];rfl) (by rw[h];rfl)) (rfl) (rfl) (rfl) (by omega) (by omega)
theorem zWP{x:Node}(h:x.Kind=5):zan x=(zX x&&zM [] none x.L):=
 zbt [] none (zVr h) (zaX (by simp[za0,zI,h]) (by rw[zc1];simp[zaB,h]) (by rw[h];rfl) (by rw[h];rfl)) (rfl) (rfl) (rfl) (by omega) (by omega)
theorem zWV{x:Node}(h:x.Kind=6):zan x=(zX x&&zM [] none x.L):=
 zbt [] none (zUP h) (zaX (by simp[za0,zI,h]) (by rw[num1];simp[zaB,h]) (by rw[h];rfl) (by rw[h];rfl)) (rfl) (rfl) (rfl) (by omega) (by omega)
theorem zGu{x:Node}(h:x.Kind=7):zan x=(zX x&&zM [] (some 101) x.L):=
 zbt [] (some 101) (zU2 h) (zaX (by simp[za0,zI,h]) (by rw[zc1];simp[zaB,h]) (by rw[h];rfl) (by rw[h];rfl)) (rfl) (rfl) (rfl) (by omega) (by omega)
theorem zGL{x:Node}(h:x.Kind=8):zan x=(zX x&&zM [] (some 112) x.L):=
 zbt [] (some 112) (zUX h) (zaX (by simp[za0,zI,h]) (by rw[zc1];simp[zaB,h]) (by rw[h];rfl) (by rw[h];rfl)) (rfl) (rfl) (rfl) (by omega) (by omega)
theorem zGK{x:Node}(h:x.Kind=9):zan x=(zX x&&zM [101] none x.L):=
 zbt [101] none (zVv h) (zaX (by simp[za0,zI,h]) (by rw[zc1];simp[zaB,h]) (by rw[h];rfl) (by rw[h];rfl)) (rfl) (rfl) (rfl) (by omega) (by omega)
theorem zCW{x:Node}(h:x.Kind=10):zan x=(zX x&&zM [] (some 120) x.L):=
 zbt [] (some 120) (zTv h) (zaX (by simp[za0,zI,h]) (by rw[zc1];simp[zaB,h]) (by rw[h];rfl) (by rw[h];rfl)) (rfl) (rfl) (rfl) (by omega) (by omega)
theorem zAi{x:Node}(h:x.Kind=11):zan x=(zX x&&zM [101] none x.L):=
 zbt [101] none (zSj h) (zaX (by simp[za0,zI,h]) (by rw[zc1];simp[zaB,h]) (by rw[h];rfl) (by rw[h];rfl)) (rfl) (rfl) (rfl) (by omega) (by omega)
theorem zzh{x:Node}(h:x.Kind=12):zan x=(zX x&&zM [101,101] none x.L):=
 zbt [101,101] none (zTb h) (zaX (by simp[za0,zI,h]) (by rw[zc1];simp[zaB,h]) (by rw[h];rfl) (by rw[h];rfl)) (rfl) (rfl) (rfl) (by omega) (by omega)
theorem zD5{x:Node}(h:x.Kind=13):zan x=(zX x&&zM [101] (some 101) x.L):=
 zbt [101] (some 101) (zSL h) (zaX (by simp[za0,zI,h]) (by rw[zc1];simp[zaB,h]) (by rw[h];rfl) (by rw[h];rfl)) (rfl) (rfl) (rfl) (by omega) (by omega)
theorem zDX{x:Node}(h:x.Kind=14):zan x=(zX x&&zM [101] (some 101) x.L):=
 zbt [101] (some 101) (zSD h) (zaX (by simp[za0,zI,h]) (by rw[zc1];simp[zaB,h]) (by rw[h];rfl) (by rw[h];rfl)) (rfl) (rfl) (rfl) (by omega) (by omega)
theorem zCZ{x:Node}(h:x.Kind=15):zan x=(zX x&&zM [101] none x.L):=
 zbt [101] none (zS3 h) (zaX (by simp[za0,zI,h,zPN]) (by rw[zc1];simp[zaB,h]) (by rw[h];rfl) (by rw[h];rfl)) (rfl) (rfl) (rfl) (by omega) (by omega)
theorem zza{x:Node}(h:x.Kind=16):zan x=(zX x&&zM [116] none x.L):=
 zbt [116] none (zSs h) (zaX (by simp[za0,zI,h,zQd]) (by rw[num1];simp[zaB,h]) (by rw[h];rfl) (by rw[h];rfl)) (rfl) (rfl) (rfl) (by omega) (by omega)
theorem zDh{x:Node}(h:x.Kind=17):zan x=(zX x&&zM [101,101] none x.L):=
 zbt [101,101] none (zSW h) (zaX (by simp[za0,zI,h,zP9]) (by rw[zc1];simp[zaB,h]) (by rw[h];rfl) (by rw[h];rfl)) (rfl) (rfl) (rfl) (by omega) (by omega)
theorem zy6{x:Node}(h:x.Kind=18):zan x=(zX x&&zM [101,101] none x.L):=
 zbt [101,101] none (zSU h) (zaX (by simp[za0,zI,h,zPm]) (by rw[zc1];simp[zaB,h]) (by rw[h];rfl) (by rw[h];rfl)) (rfl) (rfl) (rfl) (by omega) (by omega)
theorem zDN{x:Node}(h:x.Kind=19):zan x=(zX x&&zM [101,101,101] none x.L):=
 zbt [101,101,101] none (zSd h) (zaX (by simp[za0,zI,h]) (by rw[zc1];simp[zaB,h]) (by rw[h];rfl) (by rw[h];rfl)) (rfl) (rfl) (rfl) (by omega) (by omega)
theorem zCo{x:Node}(h:x.Kind=20):zan x=(zX x&&zM [116,101] none x.L):=
 zbt [116,101] none (zTq h) (zaX (by simp[za0,zI,h,zQw]) (by rw[zc1];simp[zaB,h]) (by rw[h];rfl) (by rw[h];rfl)) (rfl) (rfl) (rfl) (by omega) (by omega)
theorem zDS{x:Node}(h:x.Kind=21):zan x=(zX x&&zM [101,101] none x.L):=
 zbt [101,101] none (zR9 h) (zaX (by simp[za0,zI,h]) (by rw[zc1];simp[zaB,h]) (by rw[h];rfl) (by rw[h];rfl)) (rfl) (rfl) (rfl) (by omega) (by omega)
theorem zC9{x:Node}(h:x.Kind=22):zan x=(zX x&&zM [100] (some 100) x.L):=
 zbt [100] (some 100) (zTh h) (zaX (by simp[za0,zI,h]) (by rw[zc1];simp[zaB,h]) (by rw[h];rfl) (by rw[h];rfl)) (rfl) (rfl) (rfl) (by omega) (by omega)
theorem zzE{x:Node}(h:x.Kind=23):zan x=(zX x&&zM (lv1 x.L) none x.L):=
 zbt (lv1 x.L) none (zRR h) (zaX (by simp[za0,zI,h]) (by rw[zc1];simp[zaB,h]) (by rw[h];rfl) (by rw[h];rfl)) (by rcases x.L with _| ⟨a,_| ⟨b,_| ⟨c,r⟩⟩⟩<;>rfl) (by rcases x.L with _| ⟨a,_| ⟨b,_| ⟨c,r⟩⟩⟩<;>rfl) (by rcases x.L with _| ⟨a,_| ⟨b,_| ⟨c,r⟩⟩⟩<;>rfl) (by omega) (by omega)
theorem zC2{x:Node}(h:x.Kind=24):zan x=(zX x&&zM [101] none x.L):=
 zbt [101] none (zTR h) (zaX (by simp[za0,zI,h]) (by rw[zc1];simp[zaB,h]) (by rw[h];rfl) (by rw[h];rfl)) (rfl) (rfl) (rfl) (by omega) (by omega)
theorem zDz{x:Node}(h:x.Kind=25):zan x=(zX x&&zM [] (some 115) x.L):=
 zbt [] (some 115) (zSu h) (zaX (by simp[za0,zI,h]) (by rw[zc1];simp[zaB,h]) (by rw[h];rfl) (by rw[h];rfl)) (rfl) (rfl) (rfl) (by omega) (by omega)
theorem zzM{x:Node}(h:x.Kind=26):zan x=(zX x&&zM (lv3 x.L) none x.L):=
 zbt (lv3 x.L) none (zTV h) (zaX (by simp[za0,zI,h]) (by rw[zc1];simp[zaB,h]) (by rw[h];rfl) (by rw[h];rfl)) (by rcases x.L with _| ⟨a,_| ⟨b,_| ⟨c,r⟩⟩⟩<;>rfl) (by rcases x.L with _| ⟨a,_| ⟨b,_| ⟨c,r⟩⟩⟩<;>rfl) (by rcases x.L with _| ⟨a,_| ⟨b,_| ⟨c,r⟩⟩⟩<;>rfl) (by omega) (by omega)
theorem zDW{x:Node}(h:x.Kind=27):zan x=(zX x&&zM [101,98] none x.L):=
 zbt [101,98] none (zRW h) (zaX (by simp[za0,zI,h]) (by rw[zc1];simp[zaB,h]) (by rw[h];rfl) (by rw[h];rfl)) (rfl) (rfl) (rfl) (by omega) (by omega)
theorem zCR{x:Node}(h:x.Kind=28):zan x=(zX x&&zM [98,101] none x.L):=
 zbt [98,101] none (zSq h) (zaX (by simp[za0,zI,h]) (by rw[zc1];simp[zaB,h]) (by rw[h];rfl) (by rw[h];rfl)) (rfl) (rfl) (rfl) (by omega) (by omega)
theorem zDJ{x:Node}(h:x.Kind=29):zan x=(zX x&&zM [118,102,102,98] none x.L):=
 zbt [118,102,102,98] none (zSw h) (zaX (by simp[za0,zI,h]) (by rw[zc1];simp[zaB,h]) (by rw[h];rfl) (by rw[h];rfl)) (rfl) (rfl) (rfl) (by omega) (by omega)
theorem zC3{x:Node}(h:x.Kind=30):zan x=(zX x&&zM [119,101,98] none x.L):=
 zbt [119,101,98] none (zTG h) (zaX (by simp[za0,zI,h]) (by rw[zc1];simp[zaB,h]) (by rw[h];rfl) (by rw[h];rfl)) (rfl) (rfl) (rfl) (by omega) (by omega)
theorem zDC{x:Node}(h:x.Kind=31):zan x=(zX x&&zM [] none x.L):=
 zbt [] none (zSQ h) (zaX (by simp[za0,zI,h]) (by rw[zc1];simp[zaB,h]) (by rw[h];rfl) (by rw[h];rfl)) (rfl) (rfl) (rfl) (by omega) (by omega)
theorem zD4{x:Node}(h:x.Kind=32):zan x=(zX x&&zM [] none x.L):=
 zbt [] none (zSc h) (zaX (by simp[za0,zI,h]) (by rw[zc1];simp[zaB,h]) (by rw[h];rfl) (by rw[h];rfl)) (rfl) (rfl) (rfl) (by omega) (by omega)
theorem zD9{x:Node}(h:x.Kind=33):zan x=(zX x&&zM (lv1 x.L) none x.L):=
 zbt (lv1 x.L) none (zSR h) (zaX (by simp[za0,zI,h]) (by rw[zc1];simp[zaB,h]) (by rw[h];rfl) (by rw[h];rfl)) (by rcases x.L with _| ⟨a,_| ⟨b,_| ⟨c,r⟩⟩⟩<;>rfl) (by rcases x.L with _| ⟨a,_| ⟨b,_| ⟨c,r⟩⟩⟩<;>rfl) (by rcases x.L with _| ⟨a,_| ⟨b,_| ⟨c,r⟩⟩⟩<;>rfl) (by omega) (by omega)
theorem zCX{x:Node}(h:x.Kind=34):zan x=(zX x&&zM [101] none x.L):=
 zbt [101] none (zS1 h) (zaX (by simp[za0,zI,h]) (by rw[zc1];simp[zaB,h]) (by rw[h];rfl) (by rw[h];rfl)) (rfl) (rfl) (rfl) (by omega) (by omega)
theorem zCO{x:Node}(h:x.Kind=37):zan x=(zX x&&zM [102] (some 115) x.L):=
 zbt [102] (some 115) (zSJ h) (zaX (by simp[za0,zI,h]) (by rw[zc1];simp[zaB,h]) (by rw[h];rfl) (by rw[h];rfl)) (rfl) (rfl) (rfl) (by omega) (by omega)
theorem zDH{x:Node}(h:x.Kind=38):zan x=(zX x&&zM [115] none x.L):=
 zbt [115] none (zR6 h) (zaX (by simp[za0,zI,h]) (by rw[zc1];simp[zaB,h]) (by rw[h];rfl) (by rw[h];rfl)) (rfl) (rfl) (rfl) (by omega) (by omega)
theorem zDq{x:Node}(h:x.Kind=39):zan x=(zX x&&zM [] (some 120) x.L):=
 zbt [] (some 120) (zTL h) (zaX (by simp[za0,zI,h]) (by rw[zc1];simp[zaB,h]) (by rw[h];rfl) (by rw[h];rfl)) (rfl) (rfl) (rfl) (by omega) (by omega)
theorem zH1{x:Node}(h:x.Kind=40):zan x=(zX x&&zM [] none x.L):=
 zbt [] none (zTT h) (zaX (by simp[za0,zI,h]) (by rw[zc1];simp[zaB,h]) (by rw[h];rfl) (by rw[h];rfl)) (rfl) (rfl) (rfl) (by omega) (by omega)
theorem zDs{x:Node}(h:x.Kind=41):zan x=(zX x&&zM [] (some 120) x.L):=
 zbt [] (some 120) (zSY h) (zaX (by simp[za0,zI,h]) (by rw[zc1];simp[zaB,h]) (by rw[h];rfl) (by rw[h];rfl)) (rfl) (rfl) (rfl) (by omega) (by omega)
theorem zVA{x:Node}(h:x.Kind=42):zan x=(zX x&&zM [] none x.L):=
 zbt [] none (zTM h) (zaX (by simp[za0,zI,h]) (by rw[zc1];simp[zaB,h]) (by rw[h];rfl) (by rw[h];rfl)) (rfl) (rfl) (rfl) (by omega) (by omega)
theorem zUa{x:Node}(h:x.Kind=35)(hl: ∃a b c,x.L=[a,b,c]):zti x ⟨[99],0,false,false,[98,99,99]⟩=zX x:=by
 obtain⟨a,b,c,hl⟩:=hl;exact zaX (by simp[za0,zI,h,hl]) (by rw[zc1];simp[zaB,h]) (by rw[h];rfl) (by rw[h];rfl)
def zBV(l:List Node):Bool:=match l with
 | [a,b,c]=>(zu a 98&&(zu b 99&&zu c 99))&& !(b.Kind==42&&c.Kind==42)
 |_=>false
theorem zDi{x:Node}(h:x.Kind=35):zan x=(zX x&&zBV x.L):=by
 rw[zow];unfold zwq;rw[zUb h];simp only;have he: ∀k,ziJ x k=(k.Kind==42):=λk=>by simp[ziJ,h]
 by_cases hl: ∃a b c,x.L=[a,b,c]
 ·rw[zUa h hl];obtain⟨a,b,c,hl⟩:=hl;have e1:zjr x [98,99,99]=true:=by simp[zjr,hl,zf2]
  rw[e1,Bool.and_true,hl];have e2:zf2 [98,99,99]++zou [98,99,99]=[98,99,99]:=rfl;rw[e2];cases zX x with
  |false=>rfl
  |true=>
   simp only[Bool.true_and,zjT,zia,zBV,he]
   have ea:zu a 98=true->(a.Kind==42)=false:=λh=>by
    simp only[zu,qz4]at h;have h1:(a.Kind==25)=true:=h.1;rw[yH];simp only[beq_iff_eq]at h1;omega
   have l0:([98,99,99]:Str)[min 0 (([98,99,99]:Str).length -1)]? =some 98:=rfl;have l1:([98,99,99]:Str)[min (0+1) (([98,99,99]:Str).length -1)]? =some 99:=rfl;have l2:([98,99,99]:Str)[min (0+1+1) (([98,99,99]:Str).length -1)]? =some 99:=rfl;rw[l0,l1,l2];have o1: ∀(y:Node) (c:UInt8),(isP y ((c.toNat:Nat):Int)&&zan y)=zu y c:=λ_ _=>rfl
   simp only[o1];cases ha:zu a 98 with
   |false=>rfl
   |true=>
    rw[ea ha];cases zu b 99<;>cases zu c 99<;>cases b.Kind==42<;>cases c.Kind==42<;>rfl
 ·have e1:zjr x [98,99,99]=false:=by
   rw[Bool.eq_false_iff];intro hm;simp only[zjr,qz4,yQ,yT]at hm
   have h3:x.L.length=3:=by
    have a1:(zf2 [98,99,99]).length=3:=rfl;have a2:([98,99,99]:Str).contains 42=false:=rfl;rw[a1,a2]at hm;rcases hm with⟨h1,h2|h2⟩
    ·cases h2
    ·omega
   exact hl (by
    rcases hL:x.L with _| ⟨a,_| ⟨b,_| ⟨c,_| ⟨d,r⟩⟩⟩⟩<;>rw[hL]at h3<;>simp at h3
    exact⟨a,b,c,rfl⟩)
  rw[e1,Bool.and_false,Bool.false_and]
  have:zBV x.L=false:=by
   unfold zBV;split
   ·rename_i a b c hL;exact absurd ⟨a,b,c,hL⟩ hl
   ·rfl
  rw[this,Bool.and_false]
def ztA(k:Node):Bool:=match k.L with
 |y::_=>y.Kind==42
 | []=>false
def zfe:List Node->Nat->Bool
 | [],e=>decide (e<2)
 |k::r,e=>zu k 107&&zfe r (if ztA k=true then e+1 else e)
def zot(l:List Node):Bool:=match l with
 |a::r=>zu a 101&&zfe r 0
 | []=>false
theorem zDy{x:Node}(h:x.Kind=36): ∀(r:List Node) (i e:Nat),1<=i->zia x [101,107] (zjT r) i e=zfe r e
 | [],i,e,hi=>rfl
 |k::r,i,e,hi=>by
  simp only[zjT,zia,zfe];rw[show min i (([101,107]:Str).length -1)=1 by simp only[qz3,qz6];omega]
  simp only[List.getElem?_cons_succ,List.getElem?_cons_zero];show(zu k 107&&_)=_;cases ho:zu k 107 with
  |false=>rfl
  |true=>
   have hk:k.Kind=37:=by
    simp only[zu,qz4]at ho;have h1:(k.Kind==37)=true:=ho.1;simpa using h1
   have:ziJ x k=ztA k:=by cases hL:k.L<;>simp[ziJ,ztA,h,hk,hL]
   rw[this,zDy h r (i+1) _ (by omega)]
theorem zCB{x:Node}(h:x.Kind=36):zan x=(zX x&&zot x.L):=by
 rw[zow];unfold zwq;rw[zUq h];simp only;rw[zaX (f:=⟨[],0,false,false,[101,42,107]⟩) (by simp[za0,zI,h]) (by rw[zc1];simp[zaB,h]) (by rw[h];rfl) (by rw[h];rfl)]
 have e2:zf2 [101,42,107]++zou [101,42,107]=[101,107]:=rfl;rw[e2];cases zX x with
 |false=>rfl
 |true=>
  rcases hL:x.L with _| ⟨a,r⟩
  ·simp[zjr,hL,zf2,zot]
  ·have e1:zjr x [101,42,107]=true:=by simp[zjr,hL,zf2]
   rw[e1];simp only[Bool.true_and,zjT,zia,zot];have l0:([101,107]:Str)[min 0 (([101,107]:Str).length -1)]? =some 101:=rfl;rw[l0];show(zu a 101&&_)=_;cases ho:zu a 101 with
   |false=>rfl
   |true=>
    have hk:zci a.Kind=true:=by
     simp only[zu,qz4]at ho;exact ho.1
    have:ziJ x a=false:=by
     simp only[zci,qz4,yT]at hk;have h2:(a.Kind==37)=false:=by rw[yH];omega
     simp[ziJ,h,h2]
    simp only[this,qz2,yA,zDy h r (0+1) 0 (by omega)]
theorem zaT{x:Node}(h:zX x=true):zI x=true/\zaB x=true:=by
 simp only[zX,qz4]at h;exact⟨h.1.1,h.2.2.1⟩
theorem zDK{α:Type}(a:α)(r:List α):zT (a::r) 0=some a:=rfl
theorem zRr{α:Type}(a b:α)(r:List α):zT (a::b::r) 1=some b:=rfl
theorem zRv{α:Type}(a b c:α)(r:List α):zT (a::b::c::r) 2=some c:=rfl
theorem zvS(y:Node):zu y 101=(zci y.Kind&&zan y):=rfl
theorem zgG{k:Int}(h:zci k=true):k=1\/k=2\/k=3\/k=4\/k=5\/k=6\/k=7\/k=8\/k=10\/k=11\/k=12\/k=13\/k=14\/k=15\/k=16\/k=17\/k=18\/k=19\/k=20\/k=21:=by
 simp only[zci,qz4,yT,bne_iff_ne,ne_eq]at h;omega
theorem zK4: ∀(n:Nat) (x:Node),zY x<=n->zan x=true->zci x.Kind=true->zJ x<=2097152->(zcX n).zb2 x=some ((tkN x).lvl,())
 |0,x,h,_,_,_=>by have:=zaW x;omega
 |n+1,x,hd,hm,he,hb=>by
  have a1:=zaW x;have a2:=zaF x;have amg: ∀l:Str,l.length<=1000->zfW l x.Name=some (zcd l x.Name,()):=λl hl=>zxU l _ (by omega) (by omega)
  have ih: ∀a r,x.L=a::r->zu a 101=true->(zcX n).zb2 a=some ((tkN a).lvl,()):=λa r hL ho=>by
   rw[zvS,qz4]at ho;have hin:a∈x.L:=by rw[hL];exact qz7
   exact zK4 n a (by have:=zaY hin;omega) ho.2 ho.1 (by have:=zbc hin;omega)
  show znK (zcX n) x=_;rw[za4];show _=some (zjq x (tkL x.L),());unfold znK zjq;simp only[zq];rcases zgG he with h|h|h|h|h|h|h|h|h|h|h|h|h|h|h|h|h|h|h|h
  case inr.inr.inr.inr.inr.inr.inr.inr.inr.inl=>
   rw[zAi h,qz4]at hm;obtain⟨l,hL⟩: ∃l,x.L=l:=⟨_,rfl⟩
   rcases l with _| ⟨a,_| ⟨b,r⟩⟩
   ·rw[hL]at hm;simp[zM]at hm
   ·rw[hL]at hm;have ho:zu a 101=true:=by simpa [zM]using hm.2
    have:=ih a [] hL ho;simp only[h,hL,zDK,qz1,this,tkL];have e:(if(tkN a).lvl>11 then(tkN a).lvl else(11:Int))=max (tkN a).lvl 11:=by split<;>omega
    have e2:(if max (tkN a).lvl 11<12 then max (tkN a).lvl 11 else(12:Int))=min (max (tkN a).lvl 11) 12:=by split<;>omega
    rw[e,e2];rfl
   ·rw[hL]at hm;simp[zM]at hm
  case inr.inr.inr.inr.inr.inr.inr.inr.inr.inr.inl=>
   rw[zzh h,qz4]at hm;obtain⟨l,hL⟩: ∃l,x.L=l:=⟨_,rfl⟩
   rcases l with _| ⟨a,r⟩
   ·rw[hL]at hm;simp[zM]at hm
   ·rw[hL]at hm
    have ho:zu a 101=true:=by
     have:=hm.2;simp only[zM,qz4]at this;exact this.1
    have:=ih a r hL ho;simp only[h,hL,zDK,qz1,this,tkL];have e:(if(tkN a).lvl>11 then(tkN a).lvl else(11:Int))=max (tkN a).lvl 11:=by split<;>omega
    have e2:(if max (tkN a).lvl 11<12 then max (tkN a).lvl 11 else(12:Int))=min (max (tkN a).lvl 11) 12:=by split<;>omega
    rw[e,e2];rfl
  case inr.inr.inr.inr.inr.inr.inr.inr.inr.inr.inr.inr.inr.inr.inl=>
   rw[zza h,qz4]at hm;have hn:=(zaT hm.1).2;have:x.Num=0\/x.Num=1:=by simpa [zaB,h]using hn
   rw[h];have w:IntKind.wrap .i64 (10 -x.Num)=10 -x.Num:=wrap_i64 (by omega) (by omega);rw[w];rfl
  case inr.inr.inr.inr.inr.inr.inr.inr.inr.inr.inr.inr.inr.inr.inr.inl=>
   rw[h];have e5:=amg op5 (by decide);have e7:=amg op7 (by decide);have e8:=amg op8 (by decide);show Option.bind (zfW op5 x.Name) (λr=>if r.1=true then some (5,())else Option.bind (zfW op7 x.Name) λr=>if r.1=true then some (7,())else Option.bind (zfW op8 x.Name) λr=>if r.1=true then some (8,())else some (6,()))=_;rw[e5,e7,e8];simp only[qz1];cases zcd op5 x.Name<;>cases zcd op7 x.Name<;>cases zcd op8 x.Name<;>rfl
  case inr.inr.inr.inr.inr.inr.inr.inr.inr.inr.inr.inr.inr.inr.inr.inr.inl=>
   rw[zy6 h,qz4]at hm;have hn:=(zaT hm.1).1;have:x.Name=[38,38]\/x.Name=[124,124]:=by simpa [zI,h,ztu]using hn
   rcases this with e|e<;>rw[h,e]<;>rfl
  all_goals (rw[h];rfl)
theorem zpL(x:Node)(hm:zan x=true)(he:zci x.Kind=true)(hb:zJ x<=2097152):zb2 x=some ((tkN x).lvl,()):=
 zK4 _ x (by have:=zpB x;have:=zi1 x;show zY x<=1000000000000;omega) hm he hb
end Go.D08
namespace Go.Gw
def za1(k:Nat):UInt8:=if k<10 then UInt8.ofNat (48+k)else UInt8.ofNat (87+k)
def zdp(n:Nat):Str:=
 if n=34 then[92,34]else if n=92 then[92,92]else if n=8 then[92,98]else if n=9 then[92,116]else if n=10 then[92,110]else if n=12 then[92,102]else if n=13 then[92,114]
 else if n<32\/n>126 then[92,117,za1 (n/4096),za1 (n/256%16),za1 (n/16%16),za1 (n%16)]else[UInt8.ofNat n]
def zaV(l:List Nat):Str:=l.flatMap zdp
theorem zp2(n:Nat):(zdp n).length<=6:=by
 unfold zdp;split<;>(try split)<;>(try split)<;>(try split)<;>(try split)<;>(try split)<;>(try split)<;>(try split)<;>simp
theorem zl6(l:List Nat):(zaV l).length<=6*l.length:=by
 induction l with
 |nil=>simp[zaV]
 |cons n l ih=>unfold zaV at ih⊢;rw[List.flatMap_cons,qz5];have:=zp2 n;simp only[qz3];omega
theorem zBp(l:List Nat)(n:Nat):zaV (l++[n])=zaV l++zdp n:=by simp[zaV]
def D36:Str:=[48,49,50,51,52,53,54,55,56,57,97,98,99,100,101,102,103,104,105,106,107,108,109,110,111,112,113,114,115,116,117,118,119,120,121,122]
theorem zUh: ∀k:Fin 16,D36[k.val]? =some (za1 k.val):=by decide
theorem zHO(k:Nat)(h:k<16):za3 D36 (k:Int)=some (((za1 k).toNat:Nat):Int):=by
 rw[zmg,zUh ⟨k,h⟩];rfl
theorem zXh(x:Nat)(h:x<18446744073709551616):IntKind.wrap .u64 ((BitVec.ofInt 64 (x:Int)&&&BitVec.ofInt 64 15).toNat)=((x%16:Nat):Int):=by
 rw[BitVec.toNat_and];have e1:(BitVec.ofInt 64 (x:Int)).toNat=x:=by rw[BitVec.ofInt_natCast,BitVec.toNat_ofNat];omega
 have e2:(BitVec.ofInt 64 15).toNat=15:=rfl;have e3:x&&&15=x%16:=Nat.and_two_pow_sub_one_eq_mod x 4;rw[e1,e2,e3,wrap_u64 (by omega) (by omega)]
theorem zK8{α:Type}{m:Nat}{xs:List α}(h:xs.length=m)(i:Nat):zxB m xs (i:Int)=xs[i]? :=by unfold zxB;rw[yL h,zjz]
theorem zwN(x p:Nat)(arr:List UInt8)(hx:16<=x)(hx2:x<1099511627776)(hp:1<=p)(hp2:p<=65)(ha:arr.length=65):
  zt.l1 4 ((x:Int),(p:Int),arr)=some (.inl (((x/16:Nat):Int),((p -1:Nat):Int),arr.set (p -1) (za1 (x%16)))):=by
 unfold zt.l1;have c:((x:Int)>=16):=by omega
 have hg:=zHO (x%16) (by omega);unfold D36 at hg;have w1:IntKind.wrap .i64 ((p:Int) -1)=((p -1:Nat):Int):=by rw[wrap_i64 (by omega) (by omega)];omega
 have hlt:p -1<arr.length:=by omega
 have hs:zEu .u64 (x:Int) (IntKind.wrap .u64 4)=some ((x/16:Nat):Int):=by
  have:IntKind.wrap .u64 4=4:=wrap_u64 (by omega) (by omega);unfold zEu;rw[this,yK (by omega)];have:(2:Int)^min (4:Int).toNat IntKind.u64.bits=16:=by decide
  rw[this];congr 1;have:=Int.fdiv_eq_ediv_of_nonneg (x:Int) (b:=16) (by omega);rw[this];omega
 simp only[c,decide_true,yB,zXh x (by omega),hg,qz1,w1,zK8 ha,qz9 hlt,zHH,hs,zIS]
theorem zTz(n:Nat)(hn:n<65536):zcO ((n+65536:Nat):Int)=some [49,za1 (n/4096),za1 (n/256%16),za1 (n/16%16),za1 (n%16)]:=by
 unfold zcO zbX zt;have c: ¬(((n+65536:Nat):Int)<0):=by omega
 have w0:IntKind.wrap .u64 ((n+65536:Nat):Int)=((n+65536:Nat):Int):=wrap_u64 (by omega) (by omega);simp only[c,decide_false,qz2,yA,w0];unfold zt.j1 zbH zcl zb1;simp only[qz1,yB];have s1:=zwN (n+65536) 65 (List.replicate 65 0) (by omega) (by omega) (by omega) (by omega) (by simp);have s2:=zwN ((n+65536)/16) 64 ((List.replicate 65 0).set 64 (za1 ((n+65536)%16))) (by omega) (by omega) (by omega) (by omega) (by simp);have s3:=zwN ((n+65536)/16/16) 63 (((List.replicate 65 0).set 64 (za1 ((n+65536)%16))).set 63 (za1 ((n+65536)/16%16))) (by omega) (by omega) (by omega) (by omega) (by simp);have s4:=zwN ((n+65536)/16/16/16) 62 ((((List.replicate 65 0).set 64 (za1 ((n+65536)%16))).set 63 (za1 ((n+65536)/16%16))).set 62 (za1 ((n+65536)/16/16%16))) (by omega) (by omega) (by omega) (by omega) (by simp)
 have s5:zt.l1 4 ((((n+65536)/16/16/16/16:Nat):Int),((61:Nat):Int),((((List.replicate 65 (0:UInt8)).set 64 (za1 ((n+65536)%16))).set 63 (za1 ((n+65536)/16%16))).set 62 (za1 ((n+65536)/16/16%16))).set 61 (za1 ((n+65536)/16/16/16%16)))=
   some (.inr ((1:Int),(61:Int),((((List.replicate 65 (0:UInt8)).set 64 (za1 ((n+65536)%16))).set 63 (za1 ((n+65536)/16%16))).set 62 (za1 ((n+65536)/16/16%16))).set 61 (za1 ((n+65536)/16/16/16%16)))):=by
  have e:(n+65536)/16/16/16/16=1:=by omega
  rw[e];unfold zt.l1;have c: ¬(((1:Nat):Int)>=16):=by decide
  simp only[c,decide_false,qz2,yA];rfl
 have hl:ziD (zt.l1 4) (((n+65536:Nat):Int),65,List.replicate 65 (0:UInt8))=_:=(zwD s1).trans ((zwD s2).trans ((zwD s3).trans ((zwD s4).trans (zN6 s5))));rw[hl];simp only[qz1]
 have hg:za3 ([48,49,50,51,52,53,54,55,56,57,97,98,99,100,101,102,103,104,105,106,107,108,109,110,111,112,113,114,115,116,117,118,119,120,121,122]:Str) 1=some ((((49:UInt8).toNat:Nat):Int)):=by
  have:=zHO 1 (by decide);unfold D36 at this;exact this
 have w1:IntKind.wrap .i64 ((61:Int) -1)=((60:Nat):Int):=by decide
 rw[hg,w1];simp only[qz1];rw[zK8 (by simp),zHH];have e1:(n+65536)%16=n%16:=by omega
 have e2:(n+65536)/16%16=n/16%16:=by omega
 have e3:(n+65536)/16/16%16=n/256%16:=by omega
 have e4:(n+65536)/16/16/16%16=n/4096:=by omega
 rw[e1,e2,e3,e4];generalize za1 (n%16)=d0;generalize za1 (n/16%16)=d1;generalize za1 (n/256%16)=d2;generalize za1 (n/4096)=d3;have hget:(((((List.replicate 65 (0:UInt8)).set 64 d0).set 63 d1).set 62 d2).set 61 d3)[60]? =some 0:=rfl;rw[hget];simp only[qz1,zIS];unfold zt.j2 zt.j3 zLs;simp only[qz2,yA];rw[yL (by simp)];have hcut:=zdb ((((((List.replicate 65 (0:UInt8)).set 64 d0).set 63 d1).set 62 d2).set 61 d3).set 60 49) 60 (by simp);rw[hcut];rfl
def zMo(n:Nat):Int:=if n=8 then 0 else if n=9 then 1 else if n=10 then 2 else if n=12 then 3 else if n=13 then 4 else -1
theorem zTU: ∀n:Fin 128,Lib.indexByte [8,9,10,12,13] (UInt8.ofNat n.val)=zMo n.val:=by decide
theorem zVQ(n:Nat)(h:n<65536):IntKind.wrap .i64 ((BitVec.ofInt 64 (n:Int)|||BitVec.ofInt 64 65536).toNat)=((n+65536:Nat):Int):=by
 rw[BitVec.toNat_or];have e1:(BitVec.ofInt 64 (n:Int)).toNat=n:=by rw[BitVec.ofInt_natCast,BitVec.toNat_ofNat];omega
 have e2:(BitVec.ofInt 64 65536).toNat=65536:=rfl
 have e3:n|||65536=n+65536:=by
  have:=Nat.shiftLeft_add_eq_or_of_lt (b:=n) (i:=16) h 1;rw[Nat.or_comm];have e:(1<<<16:Nat)=65536:=rfl;rw[e]at this;omega
 rw[e1,e2,e3,wrap_i64 (by omega) (by omega)]
end Go.Gw
namespace Go.D08
open Go Go.Gw Go.Dn
set_option maxRecDepth 100000
def zat:Str->List Nat
 |a::b::r=>(a.toNat*256+b.toNat)::zat r
 |_=>[]
theorem zfl: ∀u:Str,(zat u).length=u.length/2
 | []=>rfl
 | [_]=>by simp[zat]
 |a::b::r=>by simp only[zat,qz3,zfl r];omega
theorem zmE: ∀(u:Str) (n:Nat),n∈zat u->n<65536
 | [],_,h=>by cases h
 | [_],_,h=>by cases h
 |a::b::r,n,h=>by
  simp only[zat,yP]at h;rcases h with h|h
  ·have:=a.toNat_lt;have:=b.toNat_lt;omega
  ·exact zmE r n h
theorem zq0: ∀(u:Str) (i:Nat),i<u.length/2->∃a b,u[2*i]? =some a/\u[2*i+1]? =some b/\(zat u)[i]? =some (a.toNat*256+b.toNat)
 | [],i,h=>by simp at h
 | [_],i,h=>by simp at h
 |a::b::r,0,_=>⟨a,b,rfl,rfl,rfl⟩
 |a::b::r,i+1,h=>by
  obtain⟨x,y,h1,h2,h3⟩:=zq0 r i (by simp only[qz3]at h;omega)
  refine⟨x,y,?_,?_,?_⟩
  ·have:2*(i+1)=2*i+1+1:=by omega
   rw[this];simpa using h1
  ·have:2*(i+1)+1=2*i+1+1+1:=by omega
   rw[this];simpa using h2
  ·simpa [zat]using h3
theorem zzX(u:Str)(h:u.length<9223372036854775808):zpA u=some (((u.length/2:Nat):Int),()):=by
 unfold zpA;have:Int.tdiv ((u.length:Nat):Int) 2=((u.length/2:Nat):Int):=rfl;rw[this,wrap_i64 (by omega) (by omega)]
def zCP(u:Str)(i:Int):Int:=if 0<=i then(match(zat u)[i.toNat]? with|some n=>(n:Int)|none=> -1)else -1
theorem zNN(x y:Nat)(hx:x<256)(hy:y<256):IntKind.wrap .i64 ((BitVec.ofInt 64 (IntKind.wrap .i64 ((IntKind.wrap .i64 (x:Int))*2^8))|||BitVec.ofInt 64 (IntKind.wrap .i64 (y:Int))).toNat)=((x*256+y:Nat):Int):=by
 have e1:IntKind.wrap .i64 (x:Int)=(x:Int):=wrap_i64 (by omega) (by omega);have e2:IntKind.wrap .i64 (y:Int)=(y:Int):=wrap_i64 (by omega) (by omega);have e3:((x:Int)*2^8)=((x*256:Nat):Int):=by simp
 rw[e1,e2,e3,wrap_i64 (n:=((x*256:Nat):Int)) (by omega) (by omega),BitVec.toNat_or];have e4:(BitVec.ofInt 64 ((x*256:Nat):Int)).toNat=x*256:=by rw[BitVec.ofInt_natCast,BitVec.toNat_ofNat];omega
 have e5:(BitVec.ofInt 64 (y:Int)).toNat=y:=by rw[BitVec.ofInt_natCast,BitVec.toNat_ofNat];omega
 rw[e4,e5]
 have e6:x*256|||y=x*256+y:=by
  have:=Nat.shiftLeft_add_eq_or_of_lt (b:=y) (i:=8) hy x;rw[Nat.shiftLeft_eq]at this;exact this.symm
 rw[e6,wrap_i64 (by omega) (by omega)]
theorem zJ4(u:Str)(i:Int)(h:u.length<4611686018427387904):zrI u i=some (zCP u i,()):=by
 unfold zrI zCP;by_cases h0:i<0
 ·have: ¬0<=i:=by omega
  simp[h0,this]
 ·have h0':0<=i:=by omega
  rw[zzX u (by omega)];by_cases h1:i>=((u.length/2:Nat):Int)
  ·have:(zat u)[i.toNat]? =none:=List.getElem?_eq_none (by rw[zfl];omega)
   simp only[h0,decide_false,qz2,yA,qz1,h1,decide_true,yB,h0',this]
  ·obtain⟨k,rfl⟩: ∃k:Nat,i=k:=⟨i.toNat,by omega⟩
   obtain⟨a,b,e1,e2,e3⟩:=zq0 u k (by omega);have w1:IntKind.wrap .i64 (2*(k:Int))=((2*k:Nat):Int):=by rw[wrap_i64 (by omega) (by omega)];omega
   have w2:IntKind.wrap .i64 (((2*k:Nat):Int)+1)=((2*k+1:Nat):Int):=by rw[wrap_i64 (by omega) (by omega)];omega
   simp only[h0,decide_false,qz2,yA,qz1,h1,h0',yB,w1,w2,zmg,e1,e2,Option.map_some,zNN _ _ a.toNat_lt b.toNat_lt,Int.toNat_natCast,e3]
theorem zLm(u:Str)(k n:Nat)(h:(zat u)[k]? =some n):zCP u (k:Int)=(n:Int):=by
 unfold zCP;rw[yL (by omega)];simp[h]
theorem zCw(n:Nat)(h:n<128):strings_IndexByte [8,9,10,12,13] (IntKind.wrap .u8 (n:Int))=some (zMo n,()):=by
 unfold strings_IndexByte zd3;have:IntKind.wrap .u8 (n:Int)=(n:Int):=wrap_u8 (by omega) (by omega);rw[this];have:=zTU ⟨n,h⟩;simp only at this;simpa [zjf]using this
theorem fmt16(n:Nat)(hn:n<65536):zcI ((n+65536:Nat):Int) 16=some ([49,za1 (n/4096),za1 (n/256%16),za1 (n/16%16),za1 (n%16)],()):=by
 have:zcg ((n+65536:Nat):Int) 16=some [49,za1 (n/4096),za1 (n/256%16),za1 (n/16%16),za1 (n%16)]:=by
  unfold zcg;rw[yL rfl,zTz n hn]
 unfold zcI;rw[this];rfl
theorem zJf(u:Str)(len:Int)(k n:Nat)(acc:Str)(i:Int)(hk:k<1000000000)(hn:n<65536)(ha:acc.length<=100000000000)(hi:i=if n<128 then zMo n else -1):
  zfL u (n:Int) i len (k:Int) acc=some (.inl (u,len,((k+1:Nat):Int),acc++zdp n,())):=by
 have w1:IntKind.wrap .i64 ((k:Int)+1)=((k+1:Nat):Int):=by rw[wrap_i64 (by omega) (by omega)];omega
 have t92:toB 92=some 92:=rfl;unfold zdp;by_cases h1:n=34
 ·subst h1;have e:((((34:Nat):Int)==34)||(((34:Nat):Int)==92))=true:=rfl;have w:toB (IntKind.wrap .u8 ((34:Nat):Int))=some 34:=by rw[wrap_u8 (by omega) (by omega)];rfl
  simp only[zfL,e,yB,t92,w,qz1,w1];rw[zd1 (by simp;omega)]
  rfl
 ·by_cases h2:n=92
  ·subst h2;have e:((((92:Nat):Int)==34)||(((92:Nat):Int)==92))=true:=rfl;have w:toB (IntKind.wrap .u8 ((92:Nat):Int))=some 92:=by rw[wrap_u8 (by omega) (by omega)];rfl
   simp only[zfL,e,yB,t92,w,qz1,w1];rw[zd1 (by simp;omega)]
   rfl
  ·have c1:(((n:Int)==34)||((n:Int)==92))=false:=by simp only[Bool.or_eq_false_iff,yH];omega
   simp only[zfL,c1,qz2,yA,h1,h2]
   have small: ∀(j:Nat) (b:UInt8),i=(j:Int)->([98,116,110,102,114]:Str)[j]? =some b->ziL u (n:Int) i len (k:Int) acc=some (.inl (u,len,((k+1:Nat):Int),acc++[92,b],())):=by
    intro j b hj hb;subst hj;have c:((j:Int)>=0):=by omega
    simp only[ziL,c,decide_true,yB,zmg,hb,Option.map_some,qz1,t92,zHH,w1];rw[zd1 (by simp;omega)]
    rfl
   by_cases h8:n=8
   ·have e:i=((0:Nat):Int):=by rw[hi,h8];rfl
    simpa [h8]using small 0 98 e rfl
   ·by_cases h9:n=9
    ·have e:i=((1:Nat):Int):=by rw[hi,h9];rfl
     simpa [h9]using small 1 116 e rfl
    ·by_cases h10:n=10
     ·have e:i=((2:Nat):Int):=by rw[hi,h10];rfl
      simpa [h10]using small 2 110 e rfl
     ·by_cases h12:n=12
      ·have e:i=((3:Nat):Int):=by rw[hi,h12];rfl
       simpa [h12]using small 3 102 e rfl
      ·by_cases h13:n=13
       ·have e:i=((4:Nat):Int):=by rw[hi,h13];rfl
        simpa [h13]using small 4 114 e rfl
       ·have e:i= -1:=by rw[hi];unfold zMo;simp[h8,h9,h10,h12,h13]
        have c2: ¬((-1:Int)>=0):=by decide
        rw[e];simp only[ziL,zoD,c2,decide_false,qz2,yA,h8,h9,h10,h12,h13];by_cases hx:n<32\/n>126
        ·have c3:(decide ((n:Int)<32)||decide ((n:Int)>126))=true:=by simp only[yQ,yT];omega
         have hc:zaQ ([49,za1 (n/4096),za1 (n/256%16),za1 (n/16%16),za1 (n%16)]:Str) 1 ((([49,za1 (n/4096),za1 (n/256%16),za1 (n/16%16),za1 (n%16)]:Str).length:Nat):Int)=some [za1 (n/4096),za1 (n/256%16),za1 (n/16%16),za1 (n%16)]:=
          zdb ([49,za1 (n/4096),za1 (n/256%16),za1 (n/16%16),za1 (n%16)]:Str) 1 (by simp)
         rw[yL hx,c3,yL rfl];simp only[zoj,zVQ n hn,fmt16 n hn,qz1,hc,w1];rw[zq5 (by simp)];simp only[qz1];rw[zd1 (by simp;omega)]
         rfl
        ·have c3:(decide ((n:Int)<32)||decide ((n:Int)>126))=false:=by simp only[Bool.or_eq_false_iff,decide_eq_false_iff_not];omega
         have w:IntKind.wrap .u8 (n:Int)=(n:Int):=wrap_u8 (by omega) (by omega);rw[yK hx,c3,yK (by simp),w,zMU (by omega) (by omega)];simp only[qz1,w1,Int.toNat_natCast];rw[zd1 (by simp;omega)]
         rfl
theorem zDO(u:Str)(hu:u.length<=100000000): ∀(r:List Nat) (k:Nat),(zat u).drop k=r->k<=(zat u).length->
  zaI zgZ (r.length+1) (u,(((zat u).length:Nat):Int),(k:Int),34::zaV ((zat u).take k),())=some ((34::zaV (zat u))++[34],0,())
 | [],k,hr,hk=>by
  have hl:=zfl u;have hk2:k=(zat u).length:=by have:=congrArg List.length hr;simp at this;omega
  have hq:=zl6 (zat u);subst hk2;refine zaN ?_;have hi: ¬((((zat u).length:Nat):Int)< (((zat u).length:Nat):Int)):=by omega
  simp only[zgZ,hi,decide_false,qz2,yA,List.take_length];rw[zd1 (by simp only[qz3,qz6];omega)]
  rfl
 |n::r,k,hr,hk=>by
  have hl:=zfl u
  have hlt:k< (zat u).length:=by
   rcases Nat.lt_or_ge k (zat u).length with h|h
   ·exact h
   ·rw[List.drop_of_length_le h]at hr;cases hr
  rw[List.drop_eq_getElem_cons hlt]at hr;have hn:(zat u)[k]=n:=by cases hr;rfl
  have h2:(zat u).drop (k+1)=r:=by cases hr;rfl
  have hget:(zat u)[k]? =some n:=by rw[qz9 hlt,hn]
  have hn2:n<65536:=zmE u n (List.mem_of_getElem? hget);have hi:decide ((k:Int)< (((zat u).length:Nat):Int))=true:=by simpa using by omega
  have hat:zrI u (k:Int)=some ((n:Int),()):=by rw[zJ4 u _ (by omega),zLm u k n hget]
  have hq:=zl6 ((zat u).take k);rw[List.length_take]at hq
  have hnext:(34::zaV ((zat u).take k))++zdp n=34::zaV ((zat u).take (k+1)):=by
   rw[List.take_add_one,hget,Option.toList_some,zBp];rfl
  have hstep:zgZ (u,(((zat u).length:Nat):Int),(k:Int),34::zaV ((zat u).take k),())=some (.inl (u,(((zat u).length:Nat):Int),((k+1:Nat):Int),34::zaV ((zat u).take (k+1)),())):=by
   simp only[zgZ,hi,yB,hat,qz1];by_cases h128:n<128
   ·have c2:decide ((n:Int)<128)=true:=by simpa using by omega
    simp only[c2,yB,zCw n h128,qz1];rw[zJf u _ k n _ _ (by omega) hn2 (by simp only[qz3];omega) (by rw[yL h128]),hnext]
   ·have c2:decide ((n:Int)<128)=false:=by simpa using by omega
    simp only[c2,qz2,yA];rw[zJf u _ k n _ _ (by omega) hn2 (by simp only[qz3];omega) (by rw[yK h128]),hnext]
  rw[qz3,zbZ hstep,zDO u hu r (k+1) h2 (by omega)]
theorem zoE(u:Str)(hu:u.length<=100000000)(he:zaL u=true):zeJ u=some (34::(zaV (zat u)++[34]),0,()):=by
 have hl:=zfl u;unfold zeJ;rw[zvP u (by omega)];simp only[qz1,he,yO,qz2,yA];rw[zzX u (by omega)];simp only[qz1];have:=zDO u hu (zat u) 0 rfl (Nat.zero_le _);rw[hl]at this;exact zdu (n:=(zat u).length+1) (by rw[hl];exact this) (by omega)
theorem zIk(u:Str):(34::(zaV (zat u)++[34]):Str).length<=3*u.length+2:=by
 have:=zl6 (zat u);have:=zfl u;simp only[qz3,qz5,qz6];omega
def Wr(f:Bool->List Str->Option (Bool×List Str×Unit))(t:Bool->List Str):Prop:=
 ∀no l,l.length+(t no).length<=274877906944->f no l=some (no,l++t no,())
theorem zau(t:List Str)(no:Bool)(l:List Str)(h:l.length+t.length<=274877906944):zn t no l=some (no,l++t,()):=by
 unfold zn;rw[zd1 h];rfl
theorem zzF(s:Str)(hs:s.length<=100000000)(he:zaL s=true):zeJ s=some (zdr s,0,()):=by
 unfold zdr;rw[zoE s hs he]
section
variable {g:zi}
theorem zSZ{y:Node}{least:Int}(hl:zb2 y=some ((tkN y).lvl,()))(he:Wr (g.zcB y) (tkN y).ex)
  (hin: ∀no l,l.length+([40]::((tkN y).ex false++[[41]]):List Str).length<=274877906944->g.zcT [40] [41] no l y=some (no,l++([40]::((tkN y).ex false++[[41]])),y,())):
  Wr (zhb g y least) (atT (tkN y) least):=by
 intro no l hlen;have hx:(tkN y).x=y:=by rw[za4];rfl
 unfold zhb;unfold atT at hlen⊢;rw[hx]at hlen⊢;simp only[zq,hl,qz1];split at hlen
 ·rename_i hc;rw[yL hc,yL hc,hin no l hlen];rfl
 ·rename_i hc;rw[yK hc,yK hc,he no l hlen];rfl
theorem zJx{y:Node}{a b:Str}(he: ∀no l,l.length+((tkN y).ex no).length<=274877906944->g.zdL no l y=some (no,l++(tkN y).ex no,y,()))(no:Bool)(l:List Str)
  (hlen:l.length+(a::((tkN y).ex false++[b]):List Str).length<=274877906944):zeO g a b no l y=some (no,l++(a::((tkN y).ex false++[b])),y,()):=by
 simp only[qz3,qz5,qz6]at hlen;unfold zeO;rw[zau _ _ _ (by simp only[qz3,qz6];omega)]
 simp only[qz1,zq];rw[he false _ (by simp only[qz5,qz3,qz6];omega)]
 simp only[qz1];rw[zau _ _ _ (by simp only[qz5,qz3,qz6];omega)]
 simp
theorem zNQ{y:Node}{w:Str}(ha:Wr (g.zF y 0) (atT (tkN y) 0))(l:List Str)(hlen:l.length+(zc6 w (tkN y)).length<=274877906944):
  zf3 g w y false l=some (false,l++zc6 w (tkN y),()):=by
 simp only[zc6,qz3,qz5,qz6]at hlen;unfold zf3;rw[zau _ _ _ (by simp only[qz3,qz6];omega)]
 simp only[qz1,zq];rw[ha false _ (by simp only[qz5,qz3,qz6];omega)]
 simp only[qz1];rw[zau _ _ _ (by simp only[qz5,qz3,qz6];omega)]
 simp[zc6]
theorem zLx(ls:List Node)(hls:ls.length<=1000000000)(hs: ∀y∈ls,∀l:List Str,l.length+(tkN y).st.length<=274877906944->g.zai y false l=some (false,l++(tkN y).st,()))(l:List Str)
  (hlen:l.length+(zad (tkL ls)).length<=274877906944):zhx g ls false l=some (false,l++zad (tkL ls),()):=by
 have key: ∀(r:List Node) (i:Nat) (l:List Str),ls.drop i=r->l.length+(zad (tkL r)).length<=274877906944->
   zaI (zdN g) (r.length+1) (ls,((ls.length:Nat):Int),(i:Int),false,l,())=some (false,l++zad (tkL r),()):=by
  intro r;induction r with
  |nil=>
   intro i l hr _
   have hi: ¬((i:Int)< (ls.length:Int)):=by
    have:=congrArg List.length hr;simp at this;omega
   refine zaN ?_;simp[zdN,hi,zad,tkL]
  |cons y r ih=>
   intro i l hr hb;obtain⟨h1,h2,h3⟩:=zhZ hr;have hi:decide ((i:Int)< (ls.length:Int))=true:=by simpa using by omega
   have hm:y∈ls:=List.mem_of_mem_drop (hr▸qz7);have e:zad (tkL (y::r))=(tkN y).st++zad (tkL r):=by simp[zad,tkL]
   rw[e]at hb⊢;rw[qz5]at hb;have w:IntKind.wrap .i64 ((i:Int)+1)=((i+1:Nat):Int):=by rw[wrap_i64 (by omega) (by omega)];rfl
   have hstep:zdN g (ls,((ls.length:Nat):Int),(i:Int),false,l,())=some (.inl (ls,((ls.length:Nat):Int),((i+1:Nat):Int),false,l++(tkN y).st,())):=by
    simp only[zdN,hi,yB,h1,qz1,zq,hs y hm l (by omega),w]
   rw[qz3,zbZ hstep,ih (i+1) _ h2 (by rw[qz5];omega),yE]
 exact zdu (n:=ls.length+1) (by simpa using key ls 0 l rfl hlen) (by omega)
theorem zOi{x:Node}(hx:x.L.length<=1000000000)(ha: ∀y∈x.L,∀l:List Str,l.length+(atT (tkN y) 0 false).length<=274877906944->g.zF y 0 false l=some (false,l++atT (tkN y) 0 false,()))(l:List Str)
  (hlen:l.length+((tkL x.L).flatMap (λk=>atT k 0 false)++[[59]]).length<=274877906944):
  Lp.loop (zcG g) (x.L,((x.L.length:Nat):Int),0,false,l,())=some (false,l++((tkL x.L).flatMap (λk=>atT k 0 false)++[[59]]),()):=by
 have key: ∀(r:List Node) (i:Nat) (l:List Str),x.L.drop i=r->l.length+((tkL r).flatMap (λk=>atT k 0 false)++[[59]]).length<=274877906944->
   zaI (zcG g) (r.length+1) (x.L,((x.L.length:Nat):Int),(i:Int),false,l,())=some (false,l++((tkL r).flatMap (λk=>atT k 0 false)++[[59]]),()):=by
  intro r;induction r with
  |nil=>
   intro i l hr hb
   have hi: ¬((i:Int)< (x.L.length:Int)):=by
    have:=congrArg List.length hr;simp at this;omega
   refine zaN ?_;simp only[tkL,List.flatMap_nil,List.nil_append]at hb⊢;simp only[zcG,hi,decide_false,qz2,yA];rw[zau _ _ _ hb];rfl
  |cons y r ih=>
   intro i l hr hb;obtain⟨h1,h2,h3⟩:=zhZ hr;have hi:decide ((i:Int)< (x.L.length:Int))=true:=by simpa using by omega
   have hm:y∈x.L:=List.mem_of_mem_drop (hr▸qz7);have e:(tkL (y::r)).flatMap (λk=>atT k 0 false)++[[59]]=atT (tkN y) 0 false++((tkL r).flatMap (λk=>atT k 0 false)++[[59]]):=by simp[tkL]
   rw[e]at hb⊢;rw[qz5]at hb;have w:IntKind.wrap .i64 ((i:Int)+1)=((i+1:Nat):Int):=by rw[wrap_i64 (by omega) (by omega)];rfl
   have hstep:zcG g (x.L,((x.L.length:Nat):Int),(i:Int),false,l,())=some (.inl (x.L,((x.L.length:Nat):Int),((i+1:Nat):Int),false,l++atT (tkN y) 0 false,())):=by
    simp only[zcG,hi,yB,h1,qz1,zq,ha y hm l (by omega),w]
   rw[qz3,zbZ hstep,ih (i+1) _ h2 (by rw[qz5];omega),yE]
 exact zdu (n:=x.L.length+1) (by simpa using key x.L 0 l rfl hlen) (by omega)
def zca(f:Tk->List Str)(ks:List Tk):List Str:=ks.flatMap λq=>[44]::f q
theorem zOo(ls:List Node)(hls:ls.length<=1000000000)
  (hit: ∀y∈ls,∀(i:Nat) (l:List Str),i<ls.length->l.length+(zaj false (tkN y)).length<=274877906944->zfC g ls ((ls.length:Nat):Int) (i:Int) false l y=some (.inl (ls,((ls.length:Nat):Int),((i+1:Nat):Int),false,l++zaj false (tkN y),())))
  (l:List Str) (hlen:l.length+(commas (zaj false) (tkL ls)).length<=274877906944):zh1 g ls false l=some (false,l++commas (zaj false) (tkL ls),()):=by
 have key: ∀(r:List Node) (i:Nat) (l:List Str),ls.drop i=r->0<i->l.length+(zca (zaj false) (tkL r)).length<=274877906944->
   zaI (zch g) (r.length+1) (ls,((ls.length:Nat):Int),(i:Int),false,l,())=some (false,l++zca (zaj false) (tkL r),()):=by
  intro r;induction r with
  |nil=>
   intro i l hr _ _
   have hi: ¬((i:Int)< (ls.length:Int)):=by
    have:=congrArg List.length hr;simp at this;omega
   refine zaN ?_;simp[zch,hi,zca,tkL]
  |cons y r ih=>
   intro i l hr h0 hb;obtain⟨h1,h2,h3⟩:=zhZ hr;have hi:decide ((i:Int)< (ls.length:Int))=true:=by simpa using by omega
   have hp:decide ((i:Int)>0)=true:=by simpa using by omega
   have hm:y∈ls:=List.mem_of_mem_drop (hr▸qz7);have e:zca (zaj false) (tkL (y::r))=[44]::(zaj false (tkN y)++zca (zaj false) (tkL r)):=by simp[zca,tkL]
   rw[e]at hb⊢;simp only[qz3,qz5]at hb
   have hstep:zch g (ls,((ls.length:Nat):Int),(i:Int),false,l,())=some (.inl (ls,((ls.length:Nat):Int),((i+1:Nat):Int),false,(l++[[44]])++zaj false (tkN y),())):=by
    simp only[zch,hi,yB,h1,hp,qz1,zq];rw[zau _ _ _ (by simp only[qz3,qz6];omega)]
    simp only[qz1];exact hit y hm i _ h3 (by simp only[qz5,qz3,qz6];omega)
   rw[qz3,zbZ hstep,ih (i+1) _ h2 (by omega) (by simp only[qz5,qz3,qz6];omega)]
   simp
 refine zdu (n:=ls.length+1) ?_ (by omega);cases hl:ls with
 |nil=>
  refine zaN ?_;simp[zch,commas,tkL]
 |cons y r=>
  rw[hl]at hlen;have e:commas (zaj false) (tkL (y::r))=zaj false (tkN y)++zca (zaj false) (tkL r):=by simp[commas,zca,tkL]
  rw[e]at hlen⊢;rw[qz5]at hlen;rw[<-hl];have hpos:0<ls.length:=by rw[hl];simp
  have hi:decide ((0:Int)< (ls.length:Int))=true:=by simpa using by omega
  have h1:zT ls 0=some y:=by rw[hl];rfl
  have h2:ls.drop 1=r:=by rw[hl];rfl
  have hstep:zch g (ls,((ls.length:Nat):Int),0,false,l,())=some (.inl (ls,((ls.length:Nat):Int),((0+1:Nat):Int),false,l++zaj false (tkN y),())):=by
   simp only[zch,hi,yB,h1,qz1,zq];exact hit y (by rw[hl];exact qz7) 0 l hpos (by omega)
  have hn:ls.length=r.length+1:=by rw[hl];rfl
  rw[zbZ hstep,hn];have:=key r (0+1) (l++zaj false (tkN y)) h2 (by omega) (by rw[qz5];omega)
  rw[hn]at this;rw[this,yE]
end
theorem zMg{x:Node}(h:x.Kind=1)(no:Bool):(tkN x).ex no=[Lib.itoa x.Num]:=by rw[za4];show exT x _ _ no=_;unfold exT;rw[h];rfl
theorem zLW{x:Node}(h:x.Kind=2)(no:Bool):(tkN x).ex no=[zdr x.Text]:=by rw[za4];show exT x _ _ no=_;unfold exT;rw[h];rfl
theorem zLh{x:Node}(h:x.Kind=3)(no:Bool):(tkN x).ex no=[x.Name]:=by rw[za4];show exT x _ _ no=_;unfold exT;rw[h];rfl
theorem zMD{x:Node}(h:x.Kind=4)(no:Bool):(tkN x).ex no=[[116,104,105,115]]:=by rw[za4];show exT x _ _ no=_;unfold exT;rw[h];rfl
theorem zL9{x:Node}(h:x.Kind=5)(no:Bool):(tkN x).ex no=[[110,117,108,108]]:=by rw[za4];show exT x _ _ no=_;unfold exT;rw[h];rfl
theorem zHt{x:Node}(h:x.Kind=6)(no:Bool):(tkN x).ex no=[Lib.formatBool (x.Num==1)]:=by rw[za4];show exT x _ _ no=_;unfold exT;rw[h];rfl
theorem zB6{x:Node}(h:x.Kind=7)(no:Bool):(tkN x).ex no=[91]::(commas (zaj false) (tkL x.L)++[[93]]):=by rw[za4];show exT x _ _ no=_;unfold exT;rw[h];rfl
theorem zBP{x:Node}(h:x.Kind=8)(no:Bool):(tkN x).ex no=[123]::(commas (zaj false) (tkL x.L)++[[125]]):=by rw[za4];show exT x _ _ no=_;unfold exT;rw[h];rfl
theorem zxs{x:Node}(h:x.Kind=10)(no:Bool):(tkN x).ex no=zgb x (tkL x.L):=by rw[za4];show exT x _ _ no=_;unfold exT;rw[h];rfl
theorem zGD{x:Node}(h:x.Kind=11)(no:Bool):(tkN x).ex no=k0 (tkL x.L) (λk=>atT k 11 no)++[[46],x.Name]:=by rw[za4];show exT x _ _ no=_;unfold exT;rw[h];rfl
theorem zGU{x:Node}(h:x.Kind=12)(no:Bool):(tkN x).ex no=k0 (tkL x.L) (λk=>atT k 11 no)++([91]::(k1 (tkL x.L) (λk=>atT k 0 false)++[[93]])):=by rw[za4];show exT x _ _ no=_;unfold exT;rw[h];rfl
theorem zGw{x:Node}(h:x.Kind=13)(no:Bool):(tkN x).ex no=k0 (tkL x.L) (λk=>atT k 11 no)++([40]::(commas (zaj false) (tkL x.L).tail++[[41]])):=by rw[za4];show exT x _ _ no=_;unfold exT;rw[h];rfl
theorem zGN{x:Node}(h:x.Kind=14)(no:Bool):(tkN x).ex no=[110,101,119]::(k0 (tkL x.L) (λk=>atT k 12 no)++([40]::(commas (zaj false) (tkL x.L).tail++[[41]]))):=by rw[za4];show exT x _ _ no=_;unfold exT;rw[h];rfl
theorem zGT{x:Node}(h:x.Kind=15)(no:Bool):(tkN x).ex no=x.Name::k0 (tkL x.L) λk=>atT k 9 no:=by rw[za4];show exT x _ _ no=_;unfold exT;rw[h];rfl
theorem zCD{x:Node}(h:x.Kind=16)(no:Bool):(tkN x).ex no=(if(x.Num==1)=true then x.Name::k0 (tkL x.L) λk=>atT k 11 no else k0 (tkL x.L) (λk=>atT k 11 no)++[x.Name]):=by rw[za4];show exT x _ _ no=_;unfold exT;rw[h];rfl
theorem zGZ{x:Node}(h:x.Kind=19)(no:Bool):(tkN x).ex no=k0 (tkL x.L) (λk=>atT k 3 no)++([63]::(k1 (tkL x.L) (λk=>atT k 1 false)++([58]::k2 (tkL x.L) λk=>atT k 1 no))):=by rw[za4];show exT x _ _ no=_;unfold exT;rw[h];rfl
theorem zGB{x:Node}(h:x.Kind=20)(no:Bool):(tkN x).ex no=k0 (tkL x.L) (λk=>atT k 11 no)++(x.Name::k1 (tkL x.L) λk=>atT k 1 no):=by rw[za4];show exT x _ _ no=_;unfold exT;rw[h];rfl
theorem zGR{x:Node}(h:x.Kind=21)(no:Bool):(tkN x).ex no=k0 (tkL x.L) (λk=>atT k 0 no)++([44]::k1 (tkL x.L) λk=>atT k 1 no):=by rw[za4];show exT x _ _ no=_;unfold exT;rw[h];rfl
theorem zGV{x:Node}(h:x.Kind=17)(no:Bool):(tkN x).ex no=k0 (tkL x.L) (λk=>atT k (tkN x).lvl no)++(x.Name::k1 (tkL x.L) λk=>atT k ((tkN x).lvl+1) no):=by rw[za4];show exT x _ _ no=_;unfold exT;rw[h];rfl
theorem zGM{x:Node}(h:x.Kind=18)(no:Bool):(tkN x).ex no=k0 (tkL x.L) (λk=>atT k (tkN x).lvl no)++(x.Name::k1 (tkL x.L) λk=>atT k ((tkN x).lvl+1) no):=by rw[za4];show exT x _ _ no=_;unfold exT;rw[h];rfl
theorem zGA{x:Node}(h:x.Kind=22):(tkN x).st=([118,97,114]::commas (declT false) (tkL x.L))++[[59]]:=by rw[za4];show stT x _=_;unfold stT;rw[h];rfl
theorem zL0{x:Node}(h:x.Kind=24):(tkN x).st=zjb (k0 (tkL x.L) λk=>atT k 0 false)++[[59]]:=by rw[za4];show stT x _=_;unfold stT;rw[h];rfl
theorem zCu{x:Node}(h:x.Kind=25):(tkN x).st=[123]::(zad (tkL x.L)++[[125]]):=by rw[za4];show stT x _=_;unfold stT;rw[h];rfl
theorem zAB{x:Node}(h:x.Kind=26):(tkN x).st=k0 (tkL x.L) (zc6 [105,102])++(k1 (tkL x.L) Tk.st++k2 (tkL x.L) λk=>[101,108,115,101]::k.st):=by rw[za4];show stT x _=_;unfold stT;rw[h];rfl
theorem zLJ{x:Node}(h:x.Kind=27):(tkN x).st=k0 (tkL x.L) (zc6 [119,104,105,108,101])++k1 (tkL x.L) Tk.st:=by rw[za4];show stT x _=_;unfold stT;rw[h];rfl
theorem zMB{x:Node}(h:x.Kind=28):(tkN x).st=[100,111]::(k0 (tkL x.L) Tk.st++(k1 (tkL x.L) (zc6 [119,104,105,108,101])++[[59]])):=by rw[za4];show stT x _=_;unfold stT;rw[h];rfl
theorem zMt{x:Node}(h:x.Kind=29):(tkN x).st=[102,111,114]::[40]::(k0 (tkL x.L) (λk=>zaJ k 0 true)++([59]::(k1 (tkL x.L) (λk=>zaJ k 0 false)++([59]::(k2 (tkL x.L) (λk=>zaJ k 0 false)++([41]::k3 (tkL x.L) Tk.st)))))):=by rw[za4];show stT x _=_;unfold stT;rw[h];rfl
theorem zLF{x:Node}(h:x.Kind=30):(tkN x).st=[102,111,114]::[40]::(k0 (tkL x.L) (λk=>zaJ k 11 true)++([105,110]::(k1 (tkL x.L) (λk=>atT k 0 false)++([41]::k2 (tkL x.L) Tk.st)))):=by rw[za4];show stT x _=_;unfold stT;rw[h];rfl
theorem zMI{x:Node}(h:x.Kind=35):(tkN x).st=[116,114,121]::(k0 (tkL x.L) Tk.st++(k1 (tkL x.L) (λk=>if(k.x.Kind==25)=true then[99,97,116,99,104]::[40]::x.Name::[41]::k.st else[])++k2 (tkL x.L) λk=>if(k.x.Kind==25)=true then[102,105,110,97,108,108,121]::k.st else[])):=by rw[za4];show stT x _=_;unfold stT;rw[h];rfl
theorem zLK{x:Node}(h:x.Kind=36):(tkN x).st=k0 (tkL x.L) (zc6 [115,119,105,116,99,104])++([123]::(zad (tkL x.L).tail++[[125]])):=by rw[za4];show stT x _=_;unfold stT;rw[h];rfl
theorem zL4{x:Node}(h:x.Kind=37):(tkN x).st=k0 (tkL x.L) (λk=>(if(k.x.Kind !=42)=true then[99,97,115,101]else[100,101,102,97,117,108,116])::zaJ k 0 false)++([58]::zad (tkL x.L).tail):=by rw[za4];show stT x _=_;unfold stT;rw[h];rfl
theorem zMP{x:Node}(h:x.Kind=38):(tkN x).st=x.Name::[58]::k0 (tkL x.L) Tk.st:=by rw[za4];show stT x _=_;unfold stT;rw[h];rfl
theorem zLM{x:Node}(h:x.Kind=39):(tkN x).st=zgb x (tkL x.L):=by rw[za4];show stT x _=_;unfold stT;rw[h];rfl
theorem zLi{x:Node}(h:x.Kind=31):(tkN x).st=zhz x++((tkL x.L).flatMap (λk=>atT k 0 false)++[[59]]):=by rw[za4];show stT x _=_;unfold stT;rw[h];rfl
theorem zMh{x:Node}(h:x.Kind=32):(tkN x).st=zhz x++((tkL x.L).flatMap (λk=>atT k 0 false)++[[59]]):=by rw[za4];show stT x _=_;unfold stT;rw[h];rfl
theorem zGv{x:Node}(h:x.Kind=33):(tkN x).st=zhz x++((tkL x.L).flatMap (λk=>atT k 0 false)++[[59]]):=by rw[za4];show stT x _=_;unfold stT;rw[h];rfl
theorem zMA{x:Node}(h:x.Kind=34):(tkN x).st=zhz x++((tkL x.L).flatMap (λk=>atT k 0 false)++[[59]]):=by rw[za4];show stT x _=_;unfold stT;rw[h];rfl
theorem zL6{x:Node}(h:x.Kind=40):(tkN x).st=zhz x++((tkL x.L).flatMap (λk=>atT k 0 false)++[[59]]):=by rw[za4];show stT x _=_;unfold stT;rw[h];rfl
theorem zWo{x:Node}(no:Bool):(tkN x).ex no=exT x (tkN x).lvl (tkL x.L) no:=by rw[za4];rfl
theorem zdF(x:Node):(tkN x).x=x:=by rw[za4];rfl
theorem zjE(x:Node):(tkN x).kids=tkL x.L:=by rw[za4];rfl
theorem tk0(a:Node)(r:List Node)(f:Tk->List Str):k0 (tkL (a::r)) f=f (tkN a):=by simp[tkL,k0]
theorem tk1(a b:Node)(r:List Node)(f:Tk->List Str):k1 (tkL (a::b::r)) f=f (tkN b):=by simp[tkL,k1]
theorem tk2(a b c:Node)(r:List Node)(f:Tk->List Str):k2 (tkL (a::b::c::r)) f=f (tkN c):=by simp[tkL,k2]
theorem tk3(a b c d:Node)(r:List Node)(f:Tk->List Str):k3 (tkL (a::b::c::d::r)) f=f (tkN d):=by simp[tkL,k3]
theorem zQy(a b:Node)(f:Tk->List Str):k2 (tkL [a,b]) f=[]:=by simp[tkL,k2]
theorem tkT(a:Node)(r:List Node):(tkL (a::r)).tail=tkL r:=by simp[tkL]
def zk4{α:Type}(f:α->List Str):List α->List Str
 | []=>[]
 |y::r=>f y++r.flatMap λq=>[44]::f q
theorem zz3(f:Tk->List Str)(ls:List Node):commas f (tkL ls)=zk4 (λy=>f (tkN y)) ls:=by
 cases ls with
 |nil=>simp[tkL,commas,zk4]
 |cons y r=>simp[tkL,commas,zk4,zAS,List.flatMap_map]
theorem zPh(ns:List Str):namesT ns=zk4 (λs=>[s]) ns:=by
 cases ns<;>rfl
theorem zDG{S R α:Type}(step:S->Option (S⊕R))(mk:Int->List Str->S)(xs:List α)(f:α->List Str)(tl:List Str)(fin:List Str->R)(hlen:xs.length<=1000000000)
  (h0: ∀y r,xs=y::r->∀l:List Str,l.length+(f y).length<=274877906944->step (mk 0 l)=some (.inl (mk 1 (l++f y))))
  (hs: ∀(i:Nat) (y:α),0<i->y∈xs->zT xs (i:Int)=some y->decide ((i:Int)< ((xs.length:Nat):Int))=true->decide ((i:Int)>0)=true->IntKind.wrap .i64 ((i:Int)+1)=((i+1:Nat):Int)->∀l:List Str,l.length+(f y).length+1<=274877906944->step (mk (i:Int) l)=some (.inl (mk ((i+1:Nat):Int) (l++[44]::f y))))
  (he:decide (((xs.length:Nat):Int)< ((xs.length:Nat):Int))=false->∀l:List Str,l.length+tl.length<=274877906944->step (mk ((xs.length:Nat):Int) l)=some (.inr (fin (l++tl))))
  (l:List Str) (hb:l.length+(zk4 f xs++tl).length<=274877906944):Lp.loop step (mk 0 l)=some (fin (l++(zk4 f xs++tl))):=by
 have he:=he (by simp)
 have key: ∀(r:List α) (i:Nat) (l:List Str),xs.drop i=r->0<i->i<=xs.length->l.length+((r.flatMap λq=>[44]::f q)++tl).length<=274877906944->zaI step (r.length+1) (mk (i:Int) l)=some (fin (l++((r.flatMap λq=>[44]::f q)++tl))):=by
  intro r;induction r with
  |nil=>
   intro i l hr _ hi hb;have:i=xs.length:=by have:=congrArg List.length hr;simp at this;omega
   subst this;simp only[List.flatMap_nil,List.nil_append]at hb⊢;exact zaN (he l hb)
  |cons y r ih=>
   intro i l hr hi0 hi hb;obtain⟨h1,h2,h3⟩:=zhZ hr;have hm:y∈xs:=List.mem_of_mem_drop (hr▸qz7);have e:((y::r).flatMap λq=>[44]::f q)++tl=([44]::f y)++((r.flatMap λq=>[44]::f q)++tl):=by simp
   rw[e]at hb⊢;rw[qz5,qz3]at hb;have hstep:=hs i y hi0 hm h1 (by simpa using by omega) (by simpa using by omega) (by rw[wrap_i64 (by omega) (by omega)];rfl) l (by omega)
   rw[qz3,zbZ hstep,ih (i+1) _ h2 (by omega) (by omega) (by rw[qz5,qz3];omega),yE]
 refine zdu (n:=xs.length+1) ?_ (by omega);cases hx:xs with
 |nil=>
  rw[hx]at he hb;exact zaN (he l (by simpa [zk4]using hb))
 |cons y r=>
  rw[hx]at hb;have e:zk4 f (y::r)++tl=f y++((r.flatMap λq=>[44]::f q)++tl):=by simp[zk4]
  rw[e]at hb⊢;rw[qz5]at hb;have hn:xs.length=r.length+1:=by rw[hx];rfl
  have:=key r 1 (l++f y) (by rw[hx];rfl) (by omega) (by omega) (by rw[qz5];omega)
  rw[zbZ (h0 y r hx l (by omega)),<-yE l];exact this
def zdI(y:Node):Bool:=zu y 101||zu y 112
def zhO(y:Node):Bool:=zu y 120||zu y 107
def ziO(y:Node):Bool:=zu y 118
structure zbB (g:zi) (n:Nat):Prop where
 at_: ∀(y:Node) (least:Int),20*zY y+10<=n->zu y 101=true->zJ y<=2097152->Wr (g.zF y least) (atT (tkN y) least)
 inside: ∀(y:Node) (a b:Str) (no:Bool) (l:List Str),20*zY y+9<=n->zu y 101=true->zJ y<=2097152->l.length+(a::((tkN y).ex false++[b]):List Str).length<=274877906944->g.zcT a b no l y=some (no,l++(a::((tkN y).ex false++[b])),y,())
 at1: ∀(y:Node) (no:Bool) (l:List Str),20*zY y+8<=n->zu y 101=true->zJ y<=2097152->l.length+((tkN y).ex no).length<=274877906944->g.zdL no l y=some (no,l++(tkN y).ex no,y,())
 expr: ∀(y:Node),20*zY y+7<=n->zu y 101=true->zJ y<=2097152->Wr (g.zcB y) (tkN y).ex
 arr: ∀(y:Node) (a b:Str) (no:Bool) (l:List Str),20*zY y+6<=n->(∀k∈y.L,zdI k=true)->zJ y<=2097152->l.length+(a::(commas (zaj false) (tkL y.L)++[b]):List Str).length<=274877906944->g.zbV a b no l y=some (no,l++(a::(commas (zaj false) (tkL y.L)++[b])),y,())
 arr1: ∀(y:Node) (l:List Str),20*zY y+5<=n->(∀k∈y.L,zdI k=true)->zJ y<=2097152->l.length+(commas (zaj false) (tkL y.L)).length<=274877906944->g.zdG false l y=some (false,l++commas (zaj false) (tkL y.L),y,())
 obj: ∀(y:Node) (a b:Str) (no:Bool) (l:List Str),20*zY y+6<=n->(∀k∈y.L,zdI k=true)->zJ y<=2097152->l.length+(a::(commas (zaj false) (tkL y.L)++[b]):List Str).length<=274877906944->g.zcn a b no l y=some (no,l++(a::(commas (zaj false) (tkL y.L)++[b])),y,())
 obj1: ∀(y:Node) (l:List Str),20*zY y+5<=n->(∀k∈y.L,zdI k=true)->zJ y<=2097152->l.length+(commas (zaj false) (tkL y.L)).length<=274877906944->g.zdB false l y=some (false,l++commas (zaj false) (tkL y.L),y,())
 list: ∀(ls:List Node) (l:List Str),20*zbe ls+12<=n->(∀k∈ls,zdI k=true)->zak ls<=2097152->l.length+(commas (zaj false) (tkL ls)).length<=274877906944->g.zcc ls false l=some (false,l++commas (zaj false) (tkL ls),())
 func: ∀(y:Node),20*zY y+6<=n->(∀k∈y.L,zhO k=true)->zJ y<=2097152->Wr (g.zbw y) (λ_=>zgb y (tkL y.L))
 body: ∀(y:Node) (a b:Str) (no:Bool) (l:List Str),20*zY y+5<=n->(∀k∈y.L,zhO k=true)->zJ y<=2097152->l.length+(a::(zad (tkL y.L)++[b]):List Str).length<=274877906944->g.zcm a b no l y=some (no,l++(a::(zad (tkL y.L)++[b])),y,())
 body1: ∀(y:Node) (l:List Str),20*zY y+4<=n->(∀k∈y.L,zhO k=true)->zJ y<=2097152->l.length+(zad (tkL y.L)).length<=274877906944->g.zcy false l y=some (false,l++zad (tkL y.L),y,())
 op: ∀(y:Node),20*zY y+6<=n->11<=y.Kind->zu y 101=true->zJ y<=2097152->Wr (g.zcp y) (tkN y).ex
 idx: ∀(x y:Node) (r:List Node) (a b:Str) (no:Bool) (l:List Str),20*zY y+12<=n->zu y 101=true->zJ y<=2097152->l.length+(a::(atT (tkN y) 0 false++[b]):List Str).length<=274877906944->g.zbW a b no l (x::y::r)=some (no,l++(a::(atT (tkN y) 0 false++[b])),x::y::r,())
 idx1: ∀(x y:Node) (r:List Node) (l:List Str),20*zY y+11<=n->zu y 101=true->zJ y<=2097152->l.length+(atT (tkN y) 0 false).length<=274877906944->g.zcs false l (x::y::r)=some (false,l++atT (tkN y) 0 false,x::y::r,())
 arg: ∀(x:Node) (r:List Node) (a b:Str) (no:Bool) (l:List Str),20*zbe r+14<=n->(∀k∈r,zdI k=true)->zak (x::r)<=2097152->l.length+(a::(commas (zaj false) (tkL r)++[b]):List Str).length<=274877906944->g.zbp a b no l (x::r)=some (no,l++(a::(commas (zaj false) (tkL r)++[b])),x::r,())
 arg1: ∀(x:Node) (r:List Node) (l:List Str),20*zbe r+13<=n->(∀k∈r,zdI k=true)->zak (x::r)<=2097152->l.length+(commas (zaj false) (tkL r)).length<=274877906944->g.zcr false l (x::r)=some (false,l++commas (zaj false) (tkL r),x::r,())
 thn: ∀(x y:Node) (r:List Node) (a b:Str) (no:Bool) (l:List Str),20*zY y+12<=n->zu y 101=true->zJ y<=2097152->l.length+(a::(atT (tkN y) 1 false++[b]):List Str).length<=274877906944->g.zck a b no l (x::y::r)=some (no,l++(a::(atT (tkN y) 1 false++[b])),x::y::r,())
 thn1: ∀(x y:Node) (r:List Node) (l:List Str),20*zY y+11<=n->zu y 101=true->zJ y<=2097152->l.length+(atT (tkN y) 1 false).length<=274877906944->g.zct false l (x::y::r)=some (false,l++atT (tkN y) 1 false,x::y::r,())
 head: ∀(y:Node) (w:Str) (l:List Str),20*zY y+11<=n->zu y 101=true->zJ y<=2097152->l.length+(zc6 w (tkN y)).length<=274877906944->g.za9 w y false l=some (false,l++zc6 w (tkN y),())
 begin_: ∀(y:Node) (least:Int),20*zY y+11<=n->ziO y=true->zJ y<=2097152->Wr (g.za8 y least) (zaJ (tkN y) least)
 loop: ∀(y:Node) (l:List Str),20*zY y+12<=n->27<=y.Kind->y.Kind<=30->zan y=true->zJ y<=2097152->l.length+(tkN y).st.length<=274877906944->g.zcb y false l=some (false,l++(tkN y).st,())
 word: ∀(y:Node) (l:List Str),20*zY y+12<=n->(y.Kind=31\/y.Kind=32\/y.Kind=33\/y.Kind=34\/y.Kind=40)->zan y=true->zJ y<=2097152->l.length+(tkN y).st.length<=274877906944->g.zdy y false l=some (false,l++(tkN y).st,())
 stmt: ∀(y:Node) (l:List Str),20*zY y+14<=n->zhO y=true->zJ y<=2097152->l.length+(tkN y).st.length<=274877906944->g.zai y false l=some (false,l++(tkN y).st,())
 stmts: ∀(ls:List Node) (l:List Str),20*zbe ls+15<=n->(∀k∈ls,zhO k=true)->zak ls<=2097152->l.length+(zad (tkL ls)).length<=274877906944->g.zaZ ls false l=some (false,l++zad (tkL ls),())
theorem za7{y:Node}{c:UInt8}(h:zu y c=true):zan y=true:=by
 unfold zu at h;rw[qz4]at h;exact h.2
theorem zb8{y:Node}(h:zu y 101=true):zci y.Kind=true/\zan y=true:=by
 rw[zvS,qz4]at h;exact h
theorem zq9{y:Node}(h:zu y 116=true):zu y 101=true:=by
 have h2:=za7 h
 have h1:zcF y.Kind=true:=by
  unfold zu at h;rw[qz4]at h;exact h.1
 rw[zvS,h2,Bool.and_true];simp only[zcF,yQ,beq_iff_eq]at h1;rcases h1 with(h|h)|h<;>rw[h]<;>rfl
theorem zdE{c:UInt8}{l:List Node}(h:zM [c] none l=true): ∃a,l=[a]/\zu a c=true:=by
 rcases l with _| ⟨a,_| ⟨b,r⟩⟩<;>simp[zM]at h
 exact⟨a,rfl,h⟩
theorem zdT{c d:UInt8}{l:List Node}(h:zM [c,d] none l=true): ∃a b,l=[a,b]/\zu a c=true/\zu b d=true:=by
 rcases l with _| ⟨a,_| ⟨b,_| ⟨q,r⟩⟩⟩<;>simp[zM]at h
 exact⟨a,b,rfl,h⟩
theorem zsk{c d e:UInt8}{l:List Node}(h:zM [c,d,e] none l=true): ∃a b q,l=[a,b,q]/\zu a c=true/\zu b d=true/\zu q e=true:=by
 rcases l with _| ⟨a,_| ⟨b,_| ⟨q,_| ⟨q2,r⟩⟩⟩⟩<;>simp[zM]at h
 exact⟨a,b,q,rfl,h⟩
theorem zHC{c d e f:UInt8}{l:List Node}(h:zM [c,d,e,f] none l=true): ∃a b q s,l=[a,b,q,s]/\zu a c=true/\zu b d=true/\zu q e=true/\zu s f=true:=by
 rcases l with _| ⟨a,_| ⟨b,_| ⟨q,_| ⟨q2,_| ⟨q3,r⟩⟩⟩⟩⟩<;>simp[zM]at h
 exact⟨a,b,q,q2,rfl,h⟩
theorem zgu{l:List Node}(h:zM [] none l=true):l=[]:=by
 simpa [zM]using h
theorem zfA{c:UInt8}{l:List Node}(h:zM [] (some c) l=true): ∀k∈l,zu k c=true:=by
 simpa [zM]using h
theorem zhX{c d:UInt8}{l:List Node}(h:zM [c] (some d) l=true): ∃a r,l=a::r/\zu a c=true/\∀k∈r,zu k d=true:=by
 rcases l with _| ⟨a,r⟩<;>simp[zM]at h
 exact⟨a,r,rfl,h.1,h.2⟩
theorem zrL{x:Node}(h:zX x=true):zaL x.Text=true:=by
 simp only[zX,qz4]at h;exact h.2.1
theorem zFd{x:Node}(h:zX x=true)(hb:zJ x<=2097152):zeJ x.Text=some (zdr x.Text,0,()):=by
 have:=zaF x;exact zzF _ (by omega) (zrL h)
theorem zuS{k:Node}(h:zu k 101=true):zdI k=true:=by unfold zdI;rw[h];rfl
theorem zOg{k:Node}(h:zu k 112=true):zdI k=true:=by unfold zdI;rw[h,Bool.or_true]
theorem zCh{k:Node}(h:zu k 120=true):zhO k=true:=by unfold zhO;rw[h];rfl
theorem zVP{k:Node}(h:zu k 107=true):zhO k=true:=by unfold zhO;rw[h,Bool.or_true]
theorem zBI{k:Node}(h:zu k 115=true):zhO k=true:=by
 refine zCh ?_;have h2:=za7 h
 have h1:stK k.Kind false=true:=by
  unfold zu at h;rw[qz4]at h;exact h.1
 show(stK k.Kind true&&zan k)=true;rw[h2,Bool.and_true];unfold stK at h1⊢;simp only[qz4]at h1⊢;exact⟨h1.1,by simp⟩
theorem ziW{k:Node}(h:zu k 98=true):zhO k=true:=by
 refine zCh ?_;have h2:=za7 h
 have h1:(k.Kind==25)=true:=by
  unfold zu at h;rw[qz4]at h;exact h.1
 show(stK k.Kind true&&zan k)=true;rw[h2,Bool.and_true,eq_of_beq h1];rfl
section
variable {g:zi} {n:Nat}
theorem w_at(G:zbB g n)(y:Node)(least:Int)(hd:20*zY y+10<=n+1)(ho:zu y 101=true)(hb:zJ y<=2097152):Wr (zhb g y least) (atT (tkN y) least):=
 zSZ (zpL y (zb8 ho).2 (zb8 ho).1 hb) (G.expr y (by omega) ho hb) (λno l h=>G.inside y _ _ no l (by omega) ho hb h)
theorem zPs(G:zbB g n)(y:Node)(a b:Str)(no:Bool)(l:List Str)(hd:20*zY y+9<=n+1)(ho:zu y 101=true)(hb:zJ y<=2097152)(hlen:l.length+(a::((tkN y).ex false++[b]):List Str).length<=274877906944):zeO g a b no l y=some (no,l++(a::((tkN y).ex false++[b])),y,()):=
 zJx (λno l h=>G.at1 y no l (by omega) ho hb h) no l hlen
theorem zW1(G:zbB g n)(y:Node)(no:Bool)(l:List Str)(hd:20*zY y+8<=n+1)(ho:zu y 101=true)(hb:zJ y<=2097152)(hlen:l.length+((tkN y).ex no).length<=274877906944):zh3 g no l y=some (no,l++(tkN y).ex no,y,()):=by
 unfold zh3;simp only[zq,G.expr y (by omega) ho hb no l hlen,qz1]
theorem fmt10(i:Int)(h1:0<=i)(h2:i<=9007199254740991):zcI i 10=some (Lib.itoa i,()):=by
 have:zcg i 10=some (Lib.itoa i):=by
  unfold zcg;rw[yK (by decide),yL ⟨by omega,by omega,rfl⟩]
 unfold zcI;rw[this];rfl
theorem zVY(G:zbB g n)(y:Node)(hd:20*zY y+7<=n+1)(ho:zu y 101=true)(hb:zJ y<=2097152):Wr (zh6 g y) (tkN y).ex:=by
 intro no l hlen;obtain⟨he,hm⟩:=zb8 ho
 have hop:11<=y.Kind->Option.bind (g.zcp y no l) (λr=>some (r.1,r.2.1,()))=some (no,l++(tkN y).ex no,()):=λh=>by
  rw[G.op y (by omega) h ho hb no l hlen];rfl
 unfold zh6;simp only[zq];rcases zgG he with h|h|h|h|h|h|h|h|h|h|h|h|h|h|h|h|h|h|h|h
 case inl=>
  rw[zG0 h,qz4]at hm;have hn:=(zaT hm.1).2;have:0<=y.Num/\y.Num<=9007199254740991:=by simpa [zaB,h]using hn
  rw[zMg h]at hlen⊢;rw[h,show Option.bind (zcI y.Num 10) _=_ from by rw[fmt10 y.Num this.1 this.2]];show Option.bind (zn [Lib.itoa y.Num] no l) _=_;rw[zau _ _ _ hlen];rfl
 case inr.inl=>
  rw[zGx h,qz4]at hm;rw[zLW h]at hlen⊢;rw[h];show Option.bind (zeJ y.Text) _=_;rw[zFd hm.1 hb];show Option.bind (zn [zdr y.Text] no l) _=_;rw[zau _ _ _ hlen];rfl
 case inr.inr.inl=>
  rw[zLh h]at hlen⊢;rw[h];show Option.bind (zn [y.Name] no l) _=_;rw[zau _ _ _ hlen];rfl
 case inr.inr.inr.inl=>
  rw[zMD h]at hlen⊢;rw[h];show Option.bind (zn [[116,104,105,115]] no l) _=_;rw[zau _ _ _ hlen];rfl
 case inr.inr.inr.inr.inl=>
  rw[zL9 h]at hlen⊢;rw[h];show Option.bind (zn [[110,117,108,108]] no l) _=_;rw[zau _ _ _ hlen];rfl
 case inr.inr.inr.inr.inr.inl=>
  rw[zHt h]at hlen⊢;rw[h];show Option.bind (zn [Lib.formatBool (y.Num==1)] no l) _=_;rw[zau _ _ _ hlen];rfl
 case inr.inr.inr.inr.inr.inr.inl=>
  rw[zGu h,qz4]at hm;rw[zB6 h]at hlen⊢;rw[h];show Option.bind (g.zbV [91] [93] no l y) _=_;rw[G.arr y _ _ no l (by omega) (λk hk=>zuS (zfA hm.2 k hk)) hb hlen];rfl
 case inr.inr.inr.inr.inr.inr.inr.inl=>
  rw[zGL h,qz4]at hm;rw[zBP h]at hlen⊢;rw[h];show Option.bind (g.zcn [123] [125] no l y) _=_;rw[G.obj y _ _ no l (by omega) (λk hk=>zOg (zfA hm.2 k hk)) hb hlen];rfl
 case inr.inr.inr.inr.inr.inr.inr.inr.inl=>
  rw[zCW h,qz4]at hm;rw[zxs h]at hlen⊢;rw[h];show Option.bind (g.zbw y no l) _=_;rw[G.func y (by omega) (λk hk=>zCh (zfA hm.2 k hk)) hb no l hlen];rfl
 all_goals (have hop:=hop (by omega);rw[h];exact hop)
theorem zUF(G:zbB g n)(y:Node)(l:List Str)(hd:20*zY y+5<=n+1)(hk: ∀k∈y.L,zdI k=true)(hb:zJ y<=2097152)(hlen:l.length+(commas (zaj false) (tkL y.L)).length<=274877906944):zgz g false l y=some (false,l++commas (zaj false) (tkL y.L),y,()):=by
 have a1:=zaW y;have a2:=zaF y;unfold zgz;simp only[zq,G.list y.L l (by omega) hk (by omega) hlen,qz1]
theorem zV9(G:zbB g n)(y:Node)(l:List Str)(hd:20*zY y+5<=n+1)(hk: ∀k∈y.L,zdI k=true)(hb:zJ y<=2097152)(hlen:l.length+(commas (zaj false) (tkL y.L)).length<=274877906944):zgP g false l y=some (false,l++commas (zaj false) (tkL y.L),y,()):=by
 have a1:=zaW y;have a2:=zaF y;unfold zgP;simp only[zq,G.list y.L l (by omega) hk (by omega) hlen,qz1]
theorem zTp(G:zbB g n)(y:Node)(l:List Str)(hd:20*zY y+4<=n+1)(hk: ∀k∈y.L,zhO k=true)(hb:zJ y<=2097152)(hlen:l.length+(zad (tkL y.L)).length<=274877906944):zfc g false l y=some (false,l++zad (tkL y.L),y,()):=by
 have a1:=zaW y;have a2:=zaF y;unfold zfc;simp only[zq,G.stmts y.L l (by omega) hk (by omega) hlen,qz1]
theorem zXc(G:zbB g n)(y:Node)(a b:Str)(no:Bool)(l:List Str)(hd:20*zY y+6<=n+1)(hk: ∀k∈y.L,zdI k=true)(hb:zJ y<=2097152)(hlen:l.length+(a::(commas (zaj false) (tkL y.L)++[b]):List Str).length<=274877906944):zfr g a b no l y=some (no,l++(a::(commas (zaj false) (tkL y.L)++[b])),y,()):=by
 unfold zfr;rw[zau _ _ _ (by simp only[qz5,qz3,qz6]at hlen⊢;omega)]
 simp only[qz1,zq];rw[G.arr1 y _ (by omega) hk hb (by simp only[qz5,qz3,qz6]at hlen⊢;omega)]
 simp only[qz1];rw[zau _ _ _ (by simp only[qz5,qz3,qz6]at hlen⊢;omega)]
 simp
theorem zWk(G:zbB g n)(y:Node)(a b:Str)(no:Bool)(l:List Str)(hd:20*zY y+6<=n+1)(hk: ∀k∈y.L,zdI k=true)(hb:zJ y<=2097152)(hlen:l.length+(a::(commas (zaj false) (tkL y.L)++[b]):List Str).length<=274877906944):zfw g a b no l y=some (no,l++(a::(commas (zaj false) (tkL y.L)++[b])),y,()):=by
 unfold zfw;rw[zau _ _ _ (by simp only[qz5,qz3,qz6]at hlen⊢;omega)]
 simp only[qz1,zq];rw[G.obj1 y _ (by omega) hk hb (by simp only[qz5,qz3,qz6]at hlen⊢;omega)]
 simp only[qz1];rw[zau _ _ _ (by simp only[qz5,qz3,qz6]at hlen⊢;omega)]
 simp
theorem zVw(G:zbB g n)(y:Node)(a b:Str)(no:Bool)(l:List Str)(hd:20*zY y+5<=n+1)(hk: ∀k∈y.L,zhO k=true)(hb:zJ y<=2097152)(hlen:l.length+(a::(zad (tkL y.L)++[b]):List Str).length<=274877906944):zfv g a b no l y=some (no,l++(a::(zad (tkL y.L)++[b])),y,()):=by
 unfold zfv;rw[zau _ _ _ (by simp only[qz5,qz3,qz6]at hlen⊢;omega)]
 simp only[qz1,zq];rw[G.body1 y _ (by omega) hk hb (by simp only[qz5,qz3,qz6]at hlen⊢;omega)]
 simp only[qz1];rw[zau _ _ _ (by simp only[qz5,qz3,qz6]at hlen⊢;omega)]
 simp
theorem zU6(G:zbB g n)(x y:Node)(r:List Node)(l:List Str)(hd:20*zY y+11<=n+1)(ho:zu y 101=true)(hb:zJ y<=2097152)(hlen:l.length+(atT (tkN y) 0 false).length<=274877906944):zeE g false l (x::y::r)=some (false,l++atT (tkN y) 0 false,x::y::r,()):=by
 unfold zeE;simp only[zRr,qz1,zq,G.at_ y 0 (by omega) ho hb false l hlen]
theorem zVc(G:zbB g n)(x y:Node)(r:List Node)(l:List Str)(hd:20*zY y+11<=n+1)(ho:zu y 101=true)(hb:zJ y<=2097152)(hlen:l.length+(atT (tkN y) 1 false).length<=274877906944):zeF g false l (x::y::r)=some (false,l++atT (tkN y) 1 false,x::y::r,()):=by
 unfold zeF;simp only[zRr,qz1,zq,G.at_ y 1 (by omega) ho hb false l hlen]
theorem zQu{α:Type}(a:α)(r:List α):zaQ (a::r) 1 (((a::r).length:Nat):Int)=some r:=by
 have:=zdb (a::r) 1 (by simp);simpa using this
theorem zVo(G:zbB g n)(x:Node)(r:List Node)(l:List Str)(hd:20*zbe r+13<=n+1)(hk: ∀k∈r,zdI k=true)(hb:zak (x::r)<=2097152)(hlen:l.length+(commas (zaj false) (tkL r)).length<=274877906944):zeG g false l (x::r)=some (false,l++commas (zaj false) (tkL r),x::r,()):=by
 have a2:zak (x::r)=zJ x+zak r:=by simp[zak]
 unfold zeG;rw[zQu];simp only[qz1,zq,G.list r l (by omega) hk (by omega) hlen]
theorem zXn(G:zbB g n)(x y:Node)(r:List Node)(a b:Str)(no:Bool)(l:List Str)(hd:20*zY y+12<=n+1)(ho:zu y 101=true)(hb:zJ y<=2097152)(hlen:l.length+(a::(atT (tkN y) 0 false++[b]):List Str).length<=274877906944):zfy g a b no l (x::y::r)=some (no,l++(a::(atT (tkN y) 0 false++[b])),x::y::r,()):=by
 unfold zfy;rw[zau _ _ _ (by simp only[qz5,qz3,qz6]at hlen⊢;omega)]
 simp only[qz1,zq];rw[G.idx1 x y r _ (by omega) ho hb (by simp only[qz5,qz3,qz6]at hlen⊢;omega)]
 simp only[qz1];rw[zau _ _ _ (by simp only[qz5,qz3,qz6]at hlen⊢;omega)]
 simp
theorem zWt(G:zbB g n)(x y:Node)(r:List Node)(a b:Str)(no:Bool)(l:List Str)(hd:20*zY y+12<=n+1)(ho:zu y 101=true)(hb:zJ y<=2097152)(hlen:l.length+(a::(atT (tkN y) 1 false++[b]):List Str).length<=274877906944):zfx g a b no l (x::y::r)=some (no,l++(a::(atT (tkN y) 1 false++[b])),x::y::r,()):=by
 unfold zfx;rw[zau _ _ _ (by simp only[qz5,qz3,qz6]at hlen⊢;omega)]
 simp only[qz1,zq];rw[G.thn1 x y r _ (by omega) ho hb (by simp only[qz5,qz3,qz6]at hlen⊢;omega)]
 simp only[qz1];rw[zau _ _ _ (by simp only[qz5,qz3,qz6]at hlen⊢;omega)]
 simp
theorem zWh(G:zbB g n)(x:Node)(r:List Node)(a b:Str)(no:Bool)(l:List Str)(hd:20*zbe r+14<=n+1)(hk: ∀k∈r,zdI k=true)(hb:zak (x::r)<=2097152)(hlen:l.length+(a::(commas (zaj false) (tkL r)++[b]):List Str).length<=274877906944):zfu g a b no l (x::r)=some (no,l++(a::(commas (zaj false) (tkL r)++[b])),x::r,()):=by
 unfold zfu;rw[zau _ _ _ (by simp only[qz5,qz3,qz6]at hlen⊢;omega)]
 simp only[qz1,zq];rw[G.arg1 x r _ (by omega) hk hb (by simp only[qz5,qz3,qz6]at hlen⊢;omega)]
 simp only[qz1];rw[zau _ _ _ (by simp only[qz5,qz3,qz6]at hlen⊢;omega)]
 simp
theorem zVj(G:zbB g n)(y:Node)(w:Str)(l:List Str)(hd:20*zY y+11<=n+1)(ho:zu y 101=true)(hb:zJ y<=2097152)(hlen:l.length+(zc6 w (tkN y)).length<=274877906944):zf3 g w y false l=some (false,l++zc6 w (tkN y),()):=
 zNQ (G.at_ y 0 (by omega) ho hb) l hlen
theorem zTt(G:zbB g n)(ls:List Node)(l:List Str)(hd:20*zbe ls+15<=n+1)(hk: ∀k∈ls,zhO k=true)(hb:zak ls<=2097152)(hlen:l.length+(zad (tkL ls)).length<=274877906944):zhx g ls false l=some (false,l++zad (tkL ls),()):=
 zLx ls (by have:=zmA ls;omega) (λy hy l h=>G.stmt y l (by have:=zaY hy;omega) (hk y hy) (by have:=zbc hy;omega) h) l hlen
theorem zUz(G:zbB g n)(ls:List Node)(l:List Str)(hd:20*zbe ls+12<=n+1)(hk: ∀k∈ls,zdI k=true)(hb:zak ls<=2097152)(hlen:l.length+(commas (zaj false) (tkL ls)).length<=274877906944):zh1 g ls false l=some (false,l++commas (zaj false) (tkL ls),()):=by
 have a1:=zmA ls;refine zOo ls (by omega) (λy hy i l hi hlen=>?_) l hlen;have b1:=zaY hy;have b2:=zbc hy;have b3:=zaW y;have b4:=zaF y;have w:IntKind.wrap .i64 ((i:Int)+1)=((i+1:Nat):Int):=by rw[wrap_i64 (by omega) (by omega)];rfl
 have hi:=hk y hy;unfold zfC;unfold zaj at hlen⊢;rw[zdF,zjE]at hlen⊢;by_cases h:y.Kind=9
 ·have hm:zan y=true:=by
   unfold zdI at hi;rw[yQ]at hi;rcases hi with h|h<;>exact za7 h
  rw[zGK h,qz4]at hm;obtain⟨a,hL,ha⟩:=zdE hm.2;have c1:a∈y.L:=by rw[hL];exact qz7
  have c2:=zaY c1;have c3:=zbc c1;rw[hL,tk0,h]at hlen⊢;have hlen:l.length+(zdr y.Text::[58]::atT (tkN a) 1 false:List Str).length<=274877906944:=hlen;show Option.bind (zeJ y.Text) _=some (Sum.inl (ls,_,_,false,l++(zdr y.Text::[58]::atT (tkN a) 1 false),()));rw[zFd hm.1 (by omega)];simp only[qz1,hL,zDK];rw[zau _ _ _ (by simp only[qz5,qz3,qz6]at hlen⊢;omega)]
  simp only[qz1,zq];rw[G.at_ a 1 (by omega) ha (by omega) false _ (by simp only[qz5,qz3,qz6]at hlen⊢;omega),w]
  simp
 ·have e:(y.Kind==9)=false:=by rw[yH];exact h
  have ho:zu y 101=true:=by
   unfold zdI at hi;rw[yQ]at hi;rcases hi with h1|h1
   ·exact h1
   ·exfalso;unfold zu at h1;rw[qz4]at h1;have:(y.Kind==9)=true:=h1.1;rw[e]at this;cases this
  rw[e]at hlen⊢;simp only[qz2,yA]at hlen⊢;rw[zq,G.at_ y 1 (by omega) ho (by omega) false l hlen,w];rfl
end
def Ok{α:Type}(f:Nat->PR α)(v:α×zB):Prop:=∃N,∀n,N<=n->f n=gt v
theorem Ok.ret{α:Type}(v:α×zB):Ok (λ_=>gt v) v:=⟨0,λ_ _=>rfl⟩
theorem Ok.up{α:Type}{f g:Nat->PR α}{v:α×zB}(hg:Ok g v)(h: ∀n,f (n+1)=g n):Ok f v:=by
 obtain⟨N,hN⟩:=hg;refine⟨N+1,λn hn=>?_⟩
 match n,hn with
 |m+1,hn=>exact(h m).trans (hN m (by omega))
theorem Ok.bind{α β:Type}{f:Nat->PR α}{g:α×zB->Nat->PR β}{a:α×zB}{b:β×zB}(h1:Ok f a)(h2:Ok (g a) b):Ok (λn=>(f n).bd λq=>g q n) b:=by
 obtain⟨N,hN⟩:=h1;obtain⟨M,hM⟩:=h2;refine⟨N+M,λn hn=>?_⟩;show(f n).bd _=_;rw[hN n (by omega)];exact hM n (by omega)
theorem Ok.eq{α:Type}{f g:Nat->PR α}{v:α×zB}(h:Ok g v)(e:f=g):Ok f v:=e▸h
abbrev EXPR(no:Bool)(t:zB)(v:Node×zB):Prop:=Ok (λn=>(pG n).expr no t) v
abbrev COMMA(no:Bool)(x:Node)(t:zB)(v:Node×zB):Prop:=Ok (λn=>(pG n).comma no x t) v
abbrev ASSIGN(no:Bool)(t:zB)(v:Node×zB):Prop:=Ok (λn=>(pG n).assign no t) v
abbrev BINARY(no:Bool)(l:Int)(t:zB)(v:Node×zB):Prop:=Ok (λn=>(pG n).binary no l t) v
abbrev zpP(no:Bool)(l:Int)(x:Node)(t:zB)(v:Node×zB):Prop:=Ok (λn=>(pG n).bins no l x t) v
abbrev zku(t:zB)(v:Node×zB):Prop:=Ok (λn=>(pG n).unary t) v
abbrev zjm(calls:Bool)(x:Node)(t:zB)(v:Node×zB):Prop:=Ok (λn=>(pG n).mems calls x t) v
abbrev MADE(t:zB)(v:Node×zB):Prop:=Ok (λn=>(pG n).made t) v
abbrev zp5(t:zB)(v:Node×zB):Prop:=Ok (λn=>(pG n).prim t) v
abbrev zqd(s:Str)(last:Bool)(t:zB)(v:List Node×zB):Prop:=Ok (λn=>(pG n).exprs s last t) v
abbrev zwQ(t:zB)(v:List Node×zB):Prop:=Ok (λn=>(pG n).props t) v
abbrev FUNC(k:Int)(t:zB)(v:Node×zB):Prop:=Ok (λn=>(pG n).func k t) v
abbrev VARS(no:Bool)(t:zB)(v:List Node×zB):Prop:=Ok (λn=>(pG n).vars no t) v
abbrev BLOCK(t:zB)(v:Node×zB):Prop:=Ok (λn=>(pG n).block t) v
abbrev HEAD(t:zB)(v:Node×zB):Prop:=Ok (λn=>(pG n).head t) v
abbrev TILL(s:Str)(t:zB)(v:Node×zB):Prop:=Ok (λn=>(pG n).till s t) v
abbrev LOOP(t:zB)(v:Node×zB):Prop:=Ok (λn=>(pG n).loop t) v
abbrev CASES(o:Bool)(t:zB)(v:List Node×zB):Prop:=Ok (λn=>(pG n).cases o t) v
abbrev BODY(t:zB)(v:List Node×zB):Prop:=Ok (λn=>(pG n).body t) v
abbrev zeI(t:zB)(v:Node×zB):Prop:=Ok (λn=>(pG n).stmt t) v
abbrev zoR(f:Bool)(t:zB)(v:List Node×zB):Prop:=Ok (λn=>(pG n).stmts f t) v
section
variable {no calls last:Bool} {t t1 t2 t3 t4 t5:zB} {x y z:Node} {v:Node×zB} {l l1 l2:List Node} {least:Int} {s:Str}
theorem zbP(h:tIs s t=true):zaC s t=gt ((),t.tail):=by unfold zaC;rw[yL h]
theorem zJk(h1:ASSIGN no t (x,t1))(h2:COMMA no x t1 v):EXPR no t v:=
 (h1.bind (g:=λq n=>(pG n).comma no q.1 q.2) h2).up λ_=>rfl
theorem zJz(h:tIs [44] t=false):COMMA no x t (x,t):=
 (Ok.ret (x,t)).up λn=>by show zkN (pG n) no x t=_;unfold zkN;rw[h];rfl
theorem zLp(h:tIs [44] t=true)(h1:ASSIGN no t.tail (y,t1))(h2:COMMA no (nd 21 [x,y]) t1 v):COMMA no x t v:=
 (h1.bind (g:=λq n=>(pG n).comma no (nd 21 [x,q.1]) q.2) h2).up λn=>by show zkN (pG n) no x t=_;unfold zkN;rw[yL h]
theorem zll(h1:BINARY no 3 t (x,t1))(h2:tIs [63] t1=false)(h3:zbs zrW t1=false):ASSIGN no t (x,t1):=
 (h1.bind (g:=λq n=>if tIs [63] q.2=true then((pG n).assign false q.2.tail).bd λy=>(zaC [58] y.2).bn λt=>((pG n).assign no t).bd λz=>gt (nd 19 [q.1,y.1,z.1],z.2)
  else if zbs zrW q.2=true then(if zcF q.1.Kind=true then((pG n).assign no q.2.tail).bd λy=>gt (ndN 20 (tText q.2) [q.1,y.1],y.2)else bad q.2)else gt q)
  ((Ok.ret (x,t1)).eq (by funext n;simp only[h2,h3,qz2,yA]))).up λ_=>rfl
theorem zF5(h1:BINARY no 3 t (x,t1))(h2:tIs [63] t1=true)(h3:ASSIGN false t1.tail (y,t2))(h4:tIs [58] t2=true)(h5:ASSIGN no t2.tail (z,t3)):ASSIGN no t (nd 19 [x,y,z],t3):=
 (h1.bind (g:=λq n=>if tIs [63] q.2=true then((pG n).assign false q.2.tail).bd λy=>(zaC [58] y.2).bn λt=>((pG n).assign no t).bd λz=>gt (nd 19 [q.1,y.1,z.1],z.2)
  else if zbs zrW q.2=true then(if zcF q.1.Kind=true then((pG n).assign no q.2.tail).bd λy=>gt (ndN 20 (tText q.2) [q.1,y.1],y.2)else bad q.2)else gt q)
  ((h3.bind (g:=λy n=>(zaC [58] y.2).bn λt=>((pG n).assign no t).bd λz=>gt (nd 19 [x,y.1,z.1],z.2))
   ((h5.bind (g:=λz _=>gt (nd 19 [x,y,z.1],z.2)) (Ok.ret _)).eq (by funext n;simp only[zbP h4,zeg,zfY]))).eq (by funext n;simp only[h2,yB]))).up λ_=>rfl
theorem zHU(h1:BINARY no 3 t (x,t1))(h2:tIs [63] t1=false)(h3:zbs zrW t1=true)(h4:zcF x.Kind=true)(h5:ASSIGN no t1.tail (y,t2)):ASSIGN no t (ndN 20 (tText t1) [x,y],t2):=
 (h1.bind (g:=λq n=>if tIs [63] q.2=true then((pG n).assign false q.2.tail).bd λy=>(zaC [58] y.2).bn λt=>((pG n).assign no t).bd λz=>gt (nd 19 [q.1,y.1,z.1],z.2)
  else if zbs zrW q.2=true then(if zcF q.1.Kind=true then((pG n).assign no q.2.tail).bd λy=>gt (ndN 20 (tText q.2) [q.1,y.1],y.2)else bad q.2)else gt q)
  ((h5.bind (g:=λy _=>gt (ndN 20 (tText t1) [x,y.1],y.2)) (Ok.ret _)).eq (by funext n;simp only[h2,h3,h4,qz2,yA,yB]))).up λ_=>rfl
theorem zrf(h1:zku t (x,t1))(h2:zpP no least x t1 v):BINARY no least t v:=
 (h1.bind (g:=λq n=>(pG n).bins no least q.1 q.2) h2).up λ_=>rfl
theorem zLA(h:(decide ((zcQ no t).1<least)||(zcQ no t).1==0)=true):zpP no least x t (x,t):=
 (Ok.ret (x,t)).up λn=>by show zmY (pG n) no least x t=_;unfold zmY;rw[yL h]
theorem zOm(h:(decide ((zcQ no t).1<least)||(zcQ no t).1==0)=false)(h1:BINARY no ((zcQ no t).1+1) t.tail (y,t1))(h2:zpP no least (ndN (zcQ no t).2 (tText t) [x,y]) t1 v):zpP no least x t v:=
 (h1.bind (g:=λq n=>(pG n).bins no least (ndN (zcQ no t).2 (tText t) [x,q.1]) q.2) h2).up λn=>by show zmY (pG n) no least x t=_;unfold zmY;rw[yK (by rw[h];decide)]
theorem zMz(h:zbs zsF t=true)(h1:zku t.tail (y,t1)):zku t (ndN 15 (tText t) [y],t1):=
 (h1.bind (g:=λq _=>gt (ndN 15 (tText t) [q.1],q.2)) (Ok.ret _)).up λn=>by show zha (pG n) t=_;unfold zha;rw[yL h]
theorem zJG(h:zbs zsF t=false)(h':zbs zgC t=true)(h1:zku t.tail (y,t1))(h2:zcF y.Kind=true):zku t (⟨16,tText t,1,[],[],[y]⟩,t1):=
 (h1.bind (g:=λq _=>if zcF q.1.Kind=true then gt ((⟨16,tText t,1,[],[],[q.1]⟩:Node),q.2)else bad q.2) ((Ok.ret _).eq (by funext n;simp only[h2,yB]))).up λn=>by show zha (pG n) t=_;unfold zha;rw[yK (by rw[h];decide),yL h']
theorem zxP(h:zbs zsF t=false)(h':zbs zgC t=false)(h1:MADE t (x,t1))(h2:zjm true x t1 (y,t2))(h3:zbs zgC t2=false):zku t (y,t2):=
 (h1.bind (g:=λq n=>((pG n).mems true q.1 q.2).bd λq=>if(!zbs zgC q.2||ze0 q.2)=true then gt q else if zcF q.1.Kind=true then gt (ndN 16 (tText q.2) [q.1],q.2.tail)else bad q.2)
  (h2.bind (g:=λq _=>if(!zbs zgC q.2||ze0 q.2)=true then gt q else if zcF q.1.Kind=true then gt (ndN 16 (tText q.2) [q.1],q.2.tail)else bad q.2) ((Ok.ret _).eq (by funext n;simp only[h3,yN,Bool.true_or,yB])))).up λn=>by
   show zha (pG n) t=_;unfold zha;rw[yK (by rw[h];decide),yK (by rw[h'];decide)]
theorem zJm(h:zbs zsF t=false)(h':zbs zgC t=false)(h1:MADE t (x,t1))(h2:zjm true x t1 (y,t2))(h3:zbs zgC t2=true)(h4:ze0 t2=false)(h5:zcF y.Kind=true):zku t (ndN 16 (tText t2) [y],t2.tail):=
 (h1.bind (g:=λq n=>((pG n).mems true q.1 q.2).bd λq=>if(!zbs zgC q.2||ze0 q.2)=true then gt q else if zcF q.1.Kind=true then gt (ndN 16 (tText q.2) [q.1],q.2.tail)else bad q.2)
  (h2.bind (g:=λq _=>if(!zbs zgC q.2||ze0 q.2)=true then gt q else if zcF q.1.Kind=true then gt (ndN 16 (tText q.2) [q.1],q.2.tail)else bad q.2) ((Ok.ret _).eq (by funext n;simp only[h3,h4,h5,yO,Bool.or_self,qz2,yA,yB])))).up λn=>by
   show zha (pG n) t=_;unfold zha;rw[yK (by rw[h];decide),yK (by rw[h'];decide)]
theorem zC4(h1:tIs [46] t=false)(h2:tIs [91] t=false)(h3:(calls&&tIs [40] t)=false):zjm calls x t (x,t):=
 (Ok.ret (x,t)).up λn=>by show ziA (pG n) calls x t=_;unfold ziA;rw[yK (by rw[h1];decide),yK (by rw[h2];decide),yK (by rw[h3];decide)]
theorem zMy(h1:tIs [46] t=true)(h2:(zaa t.tail==1||zaa t.tail==2)=true)(h3:zjm calls (ndN 11 (tText t.tail) [x]) t.tail.tail v):zjm calls x t v:=
 h3.up λn=>by show ziA (pG n) calls x t=_;unfold ziA;rw[yL h1,yL h2]
theorem zMH(h1:tIs [46] t=false)(h2:tIs [91] t=true)(h3:EXPR false t.tail (y,t1))(h4:tIs [93] t1=true)(h5:zjm calls (nd 12 [x,y]) t1.tail v):zjm calls x t v:=
 (h3.bind (g:=λk n=>(zaC [93] k.2).bn λt=>(pG n).mems calls (nd 12 [x,k.1]) t) (h5.eq (by funext n;simp only[zbP h4,zeg,zfY]))).up λn=>by
  show ziA (pG n) calls x t=_;unfold ziA;rw[yK (by rw[h1];decide),yL h2]
theorem zJE(h1:tIs [46] t=false)(h2:tIs [91] t=false)(h3:tIs [40] t=true)(h4:zqd [41] false t.tail (l,t1))(h5:zjm true (nd 13 (x::l)) t1 v):zjm true x t v:=
 (h4.bind (g:=λk n=>(pG n).mems true (nd 13 (x::k.1)) k.2) h5).up λn=>by
  show ziA (pG n) true x t=_;unfold ziA;rw[yK (by rw[h1];decide),yK (by rw[h2];decide),yL (by rw[h3];decide)]
theorem zLy(h1:tIs [110,101,119] t=true)(h2:MADE t.tail (x,t1))(h3:zjm false x t1 (y,t2))(h4:tIs [40] t2=true)(h5:zqd [41] false t2.tail (l,t3)):MADE t (nd 14 (y::l),t3):=
 (h2.bind (g:=λq n=>((pG n).mems false q.1 q.2).bd λq=>if tIs [40] q.2=true then((pG n).exprs [41] false q.2.tail).bd λl=>gt (nd 14 (q.1::l.1),l.2)else gt (nd 14 [q.1],q.2))
  (h3.bind (g:=λq n=>if tIs [40] q.2=true then((pG n).exprs [41] false q.2.tail).bd λl=>gt (nd 14 (q.1::l.1),l.2)else gt (nd 14 [q.1],q.2))
   ((h5.bind (g:=λl _=>gt (nd 14 (y::l.1),l.2)) (Ok.ret _)).eq (by funext n;simp only[h4,yB])))).up λn=>by show znq (pG n) t=_;unfold znq;rw[yL h1]
theorem zut(h1:tIs [110,101,119] t=false)(h2:zp5 t v):MADE t v:=
 h2.up λn=>by show znq (pG n) t=_;unfold znq;rw[yK (by rw[h1];decide)]
theorem zKg(h:tIs s t=true):zqd s last t ([],t.tail):=
 (Ok.ret _).up λn=>by show zgv (pG n) s last t=_;unfold zgv;rw[yL h]
theorem zJu(h:tIs s t=false)(h1:ASSIGN false t (x,t1))(h2:tIs s t1=true):zqd s last t ([x],t1.tail):=
 (h1.bind (g:=λx n=>if tIs s x.2=true then gt ([x.1],x.2.tail)else(zaC [44] x.2).bn λt=>if(!last&&tIs s t)=true then bad t else((pG n).exprs s last t).bd λl=>gt (x.1::l.1,l.2))
  ((Ok.ret _).eq (by funext n;simp only[h2,yB]))).up λn=>by show zgv (pG n) s last t=_;unfold zgv;rw[yK (by rw[h];decide)]
theorem zIo(h:tIs s t=false)(h1:ASSIGN false t (x,t1))(h2:tIs s t1=false)(h3:tIs [44] t1=true)(h4:tIs s t1.tail=false)(h5:zqd s last t1.tail (l,t2)):zqd s last t (x::l,t2):=
 (h1.bind (g:=λx n=>if tIs s x.2=true then gt ([x.1],x.2.tail)else(zaC [44] x.2).bn λt=>if(!last&&tIs s t)=true then bad t else((pG n).exprs s last t).bd λl=>gt (x.1::l.1,l.2))
  ((h5.bind (g:=λl _=>gt (x::l.1,l.2)) (Ok.ret _)).eq (by funext n;simp only[h2,zbP h3,zeg,zfY,h4,Bool.and_false,qz2,yA]))).up λn=>by show zgv (pG n) s last t=_;unfold zgv;rw[yK (by rw[h];decide)]
theorem zRN(h:zaa t=4):zBU t=gt (tText t,t.tail):=by
 cases t with
 |nil=>cases h
 |cons a r=>show(if(a.kind==4)=true then _ else _)=_;rw[show a.kind=4 from h];rfl
theorem zJR(h:tIs [125] t=true):zwQ t ([],t.tail):=
 (Ok.ret _).up λn=>by show zg7 (pG n) t=_;unfold zg7;rw[yL h]
theorem zJ2(h:tIs [125] t=false)(h0:zaa t=4)(h':tIs [58] t.tail=true)(h1:ASSIGN false t.tail.tail (x,t1))(h2:tIs [125] t1=true):zwQ t ([⟨9,[],0,tText t,[],[x]⟩],t1.tail):=
 (h1.bind (g:=λx n=>if tIs [125] x.2=true then gt ([(⟨9,[],0,tText t,[],[x.1]⟩:Node)],x.2.tail)else(zaC [44] x.2).bn λt2=>((pG n).props t2).bd λl=>gt ((⟨9,[],0,tText t,[],[x.1]⟩:Node)::l.1,l.2))
  ((Ok.ret _).eq (by funext n;simp only[h2,yB]))).up λn=>by
   show zg7 (pG n) t=_;unfold zg7;rw[yK (by rw[h];decide),zRN h0,zeg,zbP h'];rfl
theorem zIu(h:tIs [125] t=false)(h0:zaa t=4)(h':tIs [58] t.tail=true)(h1:ASSIGN false t.tail.tail (x,t1))(h2:tIs [125] t1=false)(h3:tIs [44] t1=true)(h5:zwQ t1.tail (l,t2)):zwQ t (⟨9,[],0,tText t,[],[x]⟩::l,t2):=
 (h1.bind (g:=λx n=>if tIs [125] x.2=true then gt ([(⟨9,[],0,tText t,[],[x.1]⟩:Node)],x.2.tail)else(zaC [44] x.2).bn λt2=>((pG n).props t2).bd λl=>gt ((⟨9,[],0,tText t,[],[x.1]⟩:Node)::l.1,l.2))
  ((h5.bind (g:=λl _=>gt ((⟨9,[],0,tText t,[],[x]⟩:Node)::l.1,l.2)) (Ok.ret _)).eq (by funext n;simp only[h2,zbP h3,zeg,zfY,qz2,yA]))).up λn=>by
   show zg7 (pG n) t=_;unfold zg7;rw[yK (by rw[h];decide),zRN h0,zeg,zbP h'];rfl
theorem zUK{a:Tok}{r:zB}(h:a.kind=1):zp5 (a::r) (ndN 3 a.text [],r):=
 (Ok.ret _).up λn=>by show zdQ (pG n) (a::r)=_;unfold zdQ;rw[yL (by show(a.kind==1)=true;rw[h];rfl)];rfl
theorem zW6{a:Tok}{r:zB}(h:a.kind=3):zp5 (a::r) (⟨1,[],a.num,[],[],[]⟩,r):=
 (Ok.ret _).up λn=>by
  show zdQ (pG n) (a::r)=_;unfold zdQ;have e1:(zaa (a::r)==1)=false:=by show(a.kind==1)=false;rw[h];rfl
  have e2:(zaa (a::r)==3)=true:=by show(a.kind==3)=true;rw[h];rfl
  rw[e1,e2];rfl
theorem zWX{a:Tok}{r:zB}(h:a.kind=4):zp5 (a::r) (⟨2,[],0,a.text,[],[]⟩,r):=
 (Ok.ret _).up λn=>by
  show zdQ (pG n) (a::r)=_;unfold zdQ;have e1:(zaa (a::r)==1)=false:=by show(a.kind==1)=false;rw[h];rfl
  have e2:(zaa (a::r)==3)=false:=by show(a.kind==3)=false;rw[h];rfl
  have e3:(zaa (a::r)==4)=true:=by show(a.kind==4)=true;rw[h];rfl
  rw[e1,e2,e3];rfl
structure zcN (a:Tok) (w:Str):Prop where
 op:opK a=true
 text:a.text=w
theorem zcN.is{a:Tok}{w:Str}(h:zcN a w)(s:Str)(r:zB):tIs s (a::r)=(w==s):=by
 show(opK a&&(a.text==s))=_;rw[h.op,h.text,Bool.true_and]
theorem zcN.any{a:Tok}{w:Str}(h:zcN a w)(l:List Str)(r:zB):zbs l (a::r)=l.contains w:=by
 show(opK a&&l.contains a.text)=_;rw[h.op,h.text,Bool.true_and]
theorem zcN.kind{a:Tok}{w:Str}(h:zcN a w):a.kind=5\/a.kind=2:=by
 have:=h.op;unfold opK at this;simpa using this
theorem zcN.kinds{a:Tok}{w:Str}(h:zcN a w)(r:zB):(zaa (a::r)==1)=false/\(zaa (a::r)==3)=false/\(zaa (a::r)==4)=false/\(zaa (a::r)==0)=false:=by
 show(a.kind==1)=false/\(a.kind==3)=false/\(a.kind==4)=false/\(a.kind==0)=false;rcases h.kind with e|e<;>rw[e]<;>decide
theorem zcN.bind{a:Tok}{w:Str}(h:zcN a w)(no:Bool)(r:zB):zcQ no (a::r)=lvS no w:=by
 show(if opK a=true then lvS no a.text else(0,0))=_;rw[h.op,h.text];rfl
theorem zCy{a:Tok}{r:zB}{w:Str}{x:Node}(h:zcN a w)(hw:w=[116,104,105,115]/\x=nd 4 []\/w=[110,117,108,108]/\x=nd 5 []\/w=[102,97,108,115,101]/\x=nd 6 []\/w=[116,114,117,101]/\x=⟨6,[],1,[],[],[]⟩):zp5 (a::r) (x,r):=
 (Ok.ret _).up λn=>by
  obtain⟨k1,k2,k3,_⟩:=h.kinds r;show zdQ (pG n) (a::r)=_;unfold zdQ;rw[k1,k2,k3];simp only[h.is];rcases hw with⟨rfl,rfl⟩| ⟨rfl,rfl⟩| ⟨rfl,rfl⟩| ⟨rfl,rfl⟩<;>rfl
theorem zVg{a:Tok}{r:zB}(h:zcN a [102,117,110,99,116,105,111,110])(h1:FUNC 10 r v):zp5 (a::r) v:=
 h1.up λn=>by
  obtain⟨k1,k2,k3,_⟩:=h.kinds r;show zdQ (pG n) (a::r)=_;unfold zdQ;rw[k1,k2,k3];simp only[h.is];rfl
theorem zKv{a:Tok}{r:zB}(h:zcN a [40])(h1:EXPR false r (x,t1))(h2:tIs [41] t1=true):zp5 (a::r) (x,t1.tail):=
 (h1.bind (g:=λk _=>(zaC [41] k.2).bn λt=>gt (k.1,t)) ((Ok.ret _).eq (by funext n;simp only[zbP h2,zeg,zfY]))).up λn=>by
  obtain⟨k1,k2,k3,_⟩:=h.kinds r;show zdQ (pG n) (a::r)=_;unfold zdQ;rw[k1,k2,k3];simp only[h.is];rfl
theorem zUu{a:Tok}{r:zB}(h:zcN a [91])(h1:zqd [93] true r (l,t1)):zp5 (a::r) (nd 7 l,t1):=
 (h1.bind (g:=λl _=>gt (nd 7 l.1,l.2)) (Ok.ret _)).up λn=>by
  obtain⟨k1,k2,k3,_⟩:=h.kinds r;show zdQ (pG n) (a::r)=_;unfold zdQ;rw[k1,k2,k3];simp only[h.is];rfl
theorem zQA{a:Tok}{r:zB}(h:zcN a [123])(h1:zwQ r (l,t1)):zp5 (a::r) (nd 8 l,t1):=
 (h1.bind (g:=λl _=>gt (nd 8 l.1,l.2)) (Ok.ret _)).up λn=>by
  obtain⟨k1,k2,k3,_⟩:=h.kinds r;show zdQ (pG n) (a::r)=_;unfold zdQ;rw[k1,k2,k3];simp only[h.is];rfl
end
theorem zXo{α:Type}(a b c d:α)(r:List α):zT (a::b::c::d::r) 3=some d:=rfl
theorem zjK(x:Node):(tkN x).lvl=zjq x (tkL x.L):=by rw[za4];rfl
theorem zRG{y:Node}(h:y.Kind=17):(tkN y).lvl=5\/(tkN y).lvl=6\/(tkN y).lvl=7\/(tkN y).lvl=8:=by
 have e:(tkN y).lvl=if zcd op5 y.Name=true then 5 else if zcd op7 y.Name=true then 7 else if zcd op8 y.Name=true then 8 else 6:=by rw[zjK];unfold zjq;rw[h];rfl
 rw[e];cases zcd op5 y.Name<;>cases zcd op7 y.Name<;>cases zcd op8 y.Name<;>simp
theorem zN3{y:Node}(h:y.Kind=18):(tkN y).lvl=4 -Lib.index [38,124] (y.Name.take 1):=by rw[zjK];unfold zjq;rw[h];rfl
theorem zN5{y:Node}(h:y.Kind=18)(ho:zX y=true):y.Name=[38,38]\/y.Name=[124,124]:=by
 simpa [zI,h,ztu]using(zaT ho).1
theorem zRx{y:Node}(h:y.Kind=18)(ho:zX y=true):(tkN y).lvl=3\/(tkN y).lvl=4:=by
 rw[zN3 h];rcases zN5 h ho with e|e<;>rw[e]
 ·exact .inr (by decide)
 ·exact .inl (by decide)
section
variable {g:zi} {n:Nat}
theorem zN1(ns:List Str)(hn:ns.length<=1000000000)(x:Node)(t:List Str)(no:Bool)(hx: ∀l:List Str,l.length+t.length<=274877906944->g.zcm [123] [125] no l x=some (no,l++t,x,()))(l:List Str)
  (hlen:l.length+(namesT ns++([41]::t)).length<=274877906944):Lp.loop (zb0 g) (ns,((ns.length:Nat):Int),0,no,l,x,())=some (no,l++(namesT ns++([41]::t)),()):=by
 rw[zPh]at hlen⊢;refine zDG (zb0 g) (λi l=>(ns,((ns.length:Nat):Int),i,no,l,x,())) ns (λs=>[s]) ([41]::t) (λl=>(no,l,())) hn (λy r hy l hlen=>?_) (λi y h0 hm h1 h2 h3 h4 l hlen=>?_) (λhe l hlen=>?_) l hlen
 ·have hi:decide ((0:Int)< ((ns.length:Nat):Int))=true:=by rw[hy];simp only[qz3,yT];omega
  have h1:zT ns 0=some y:=by rw[hy];rfl
  have w:IntKind.wrap .i64 ((0:Int)+1)=1:=by decide
  simp only[zb0,hi,yB,h1,qz1,zq];rw[yK (by decide),zau _ _ _ hlen];simp only[qz1,w]
 ·simp only[zb0,h2,yB,h1,h3,qz1,zq];rw[zau _ _ _ (by simp only[qz5,qz3,qz6]at hlen⊢;omega)]
  simp only[qz1];rw[zau _ _ _ (by simp only[qz5,qz3,qz6]at hlen⊢;omega)]
  simp only[qz1,h4];simp
 ·simp only[zb0,he,qz2,yA];rw[zau _ _ _ (by simp only[qz5,qz3,qz6]at hlen⊢;omega)]
  simp only[qz1,zq];rw[hx _ (by simp only[qz5,qz3,qz6]at hlen⊢;omega)]
  simp
theorem zUI(G:zbB g n)(y:Node)(hd:20*zY y+6<=n+1)(hk: ∀k∈y.L,zhO k=true)(hb:zJ y<=2097152):Wr (zfP g y) (λ_=>zgb y (tkL y.L)):=by
 intro no l hlen;have a1:=zaF y;have a2:=zsg y.Names;have hL:=λl h=>zN1 (g:=g) y.Names (by omega) y ([123]::(zad (tkL y.L)++[[125]])) no (λl h=>G.body y _ _ no l (by omega) hk hb h) l h
 unfold zgb at hlen⊢;unfold zfP;by_cases hn:(y.Name==([]:Str))=true
 ·rw[hn]at hlen⊢;simp only[yB,List.nil_append]at hlen⊢;rw[zau _ _ _ (by simp only[qz5,qz3,qz6]at hlen⊢;omega)]
  simp only[qz1,yO,qz2,yA,zq];rw[zau _ _ _ (by simp only[qz5,qz3,qz6]at hlen⊢;omega)]
  simp only[qz1];rw[hL _ (by simp only[qz5,qz3,qz6]at hlen⊢;omega)]
  simp
 ·have hn:(y.Name==([]:Str))=false:=by simpa using hn
  rw[hn]at hlen⊢;simp only[qz2,yA]at hlen⊢;rw[zau _ _ _ (by simp only[qz5,qz3,qz6]at hlen⊢;omega)]
  simp only[qz1,yN,yB,zq];rw[zau _ _ _ (by simp only[qz5,qz3,qz6]at hlen⊢;omega)]
  simp only[qz1];rw[zau _ _ _ (by simp only[qz5,qz3,qz6]at hlen⊢;omega)]
  simp only[qz1];rw[hL _ (by simp only[qz5,qz3,qz6]at hlen⊢;omega)]
  simp
theorem zU5(G:zbB g n)(y:Node)(hd:20*zY y+6<=n+1)(h:y.Kind=11)(ho:zu y 101=true)(hb:zJ y<=2097152):Wr (zW g y) (tkN y).ex:=by
 intro no l hlen;obtain⟨he,hm⟩:=zb8 ho;have a1:=zaW y;have a2:=zaF y;have hk: ∀k∈y.L,zY k<=zbe y.L/\zJ k<=zak y.L:=λk hk=>⟨zaY hk,zbc hk⟩
 have ha: ∀k∈y.L,zu k 101=true->∀(least:Int) (no:Bool) (l:List Str),l.length+(atT (tkN k) least no).length<=274877906944->g.zF k least no l=some (no,l++atT (tkN k) least no,()):=λk h1 h2 least no l h=>G.at_ k least (by have:=hk k h1;omega) h2 (by have:=hk k h1;omega) no l h
 rw[zAi h,qz4]at hm;obtain⟨a,hL,h1⟩:=zdE hm.2;rw[zGD h,hL,tk0]at hlen⊢;rw[hL]at ha;unfold zW;simp only[zq];rw[h,hL];show Option.bind (g.zF a 11 no l) (λr=>Option.bind (zn [[46],y.Name] r.1 r.2.1) λr=>some (r.1,r.2.1,()))=_;rw[ha a (by simp) h1 _ _ _ (by simp only[qz5,qz3,qz6]at hlen⊢;omega)]
 simp only[qz1];rw[zau _ _ _ (by simp only[qz5,qz3,qz6]at hlen⊢;omega)]
 simp
theorem zVE(G:zbB g n)(y:Node)(hd:20*zY y+6<=n+1)(h:y.Kind=12)(ho:zu y 101=true)(hb:zJ y<=2097152):Wr (zW g y) (tkN y).ex:=by
 intro no l hlen;obtain⟨he,hm⟩:=zb8 ho;have a1:=zaW y;have a2:=zaF y;have hk: ∀k∈y.L,zY k<=zbe y.L/\zJ k<=zak y.L:=λk hk=>⟨zaY hk,zbc hk⟩
 have ha: ∀k∈y.L,zu k 101=true->∀(least:Int) (no:Bool) (l:List Str),l.length+(atT (tkN k) least no).length<=274877906944->g.zF k least no l=some (no,l++atT (tkN k) least no,()):=λk h1 h2 least no l h=>G.at_ k least (by have:=hk k h1;omega) h2 (by have:=hk k h1;omega) no l h
 rw[zzh h,qz4]at hm;obtain⟨a,b,hL,h1,h2⟩:=zdT hm.2;have hkb:=hk b (by rw[hL];simp)
 rw[zGU h,hL,tk0,tk1]at hlen⊢;rw[hL]at ha;unfold zW;simp only[zq];rw[h,hL];show Option.bind (g.zF a 11 no l) (λr=>Option.bind (g.zbW [91] [93] r.1 r.2.1 [a,b]) λr=>some (r.1,r.2.1,()))=_;rw[ha a (by simp) h1 _ _ _ (by simp only[qz5,qz3,qz6]at hlen⊢;omega)]
 simp only[qz1];rw[G.idx a b [] _ _ _ _ (by omega) h2 (by omega) (by simp only[qz5,qz3,qz6]at hlen⊢;omega)]
 simp
theorem zUR(G:zbB g n)(y:Node)(hd:20*zY y+6<=n+1)(h:y.Kind=13)(ho:zu y 101=true)(hb:zJ y<=2097152):Wr (zW g y) (tkN y).ex:=by
 intro no l hlen;obtain⟨he,hm⟩:=zb8 ho;have a1:=zaW y;have a2:=zaF y;have hk: ∀k∈y.L,zY k<=zbe y.L/\zJ k<=zak y.L:=λk hk=>⟨zaY hk,zbc hk⟩
 have ha: ∀k∈y.L,zu k 101=true->∀(least:Int) (no:Bool) (l:List Str),l.length+(atT (tkN k) least no).length<=274877906944->g.zF k least no l=some (no,l++atT (tkN k) least no,()):=λk h1 h2 least no l h=>G.at_ k least (by have:=hk k h1;omega) h2 (by have:=hk k h1;omega) no l h
 rw[zD5 h,qz4]at hm;obtain⟨a,r,hL,h1,h2⟩:=zhX hm.2;have hkb:zbe r<=zbe y.L:=by rw[hL,znv];omega
 rw[zGw h,hL,tk0,tkT]at hlen⊢;rw[hL]at ha a2;unfold zW;simp only[zq];rw[h,hL]
 have e:zbx g no l y (a::r)=Option.bind (g.zF a 11 no l) (λq=>Option.bind (g.zbp [40] [41] q.1 q.2.1 (a::r)) λr=>some (r.1,r.2.1,())):=by
  unfold zbx zeX;simp only[zq];rw[h];rfl
 show zbx g no l y (a::r)=_;rw[e,ha a (by simp) h1 _ _ _ (by simp only[qz5,qz3,qz6]at hlen⊢;omega)]
 simp only[qz1];rw[G.arg a r _ _ _ _ (by omega) (λk hk=>zuS (h2 k hk)) (by omega) (by simp only[qz5,qz3,qz6]at hlen⊢;omega)]
 simp
theorem zVa(G:zbB g n)(y:Node)(hd:20*zY y+6<=n+1)(h:y.Kind=14)(ho:zu y 101=true)(hb:zJ y<=2097152):Wr (zW g y) (tkN y).ex:=by
 intro no l hlen;obtain⟨he,hm⟩:=zb8 ho;have a1:=zaW y;have a2:=zaF y;have hk: ∀k∈y.L,zY k<=zbe y.L/\zJ k<=zak y.L:=λk hk=>⟨zaY hk,zbc hk⟩
 have ha: ∀k∈y.L,zu k 101=true->∀(least:Int) (no:Bool) (l:List Str),l.length+(atT (tkN k) least no).length<=274877906944->g.zF k least no l=some (no,l++atT (tkN k) least no,()):=λk h1 h2 least no l h=>G.at_ k least (by have:=hk k h1;omega) h2 (by have:=hk k h1;omega) no l h
 rw[zDX h,qz4]at hm;obtain⟨a,r,hL,h1,h2⟩:=zhX hm.2;have hkb:zbe r<=zbe y.L:=by rw[hL,znv];omega
 rw[zGN h,hL,tk0,tkT]at hlen⊢;rw[hL]at ha a2;unfold zW;simp only[zq];rw[h,hL]
 have e:zbx g no l y (a::r)=Option.bind (zn [[110,101,119]] no l) λq=>Option.bind (g.zF a 12 q.1 q.2.1) (λq=>Option.bind (g.zbp [40] [41] q.1 q.2.1 (a::r)) λr=>some (r.1,r.2.1,())):=by
  unfold zbx zeX;simp only[zq];rw[h];rfl
 show zbx g no l y (a::r)=_;rw[e,zau _ _ _ (by simp only[qz5,qz3,qz6]at hlen⊢;omega)]
 simp only[qz1];rw[ha a (by simp) h1 _ _ _ (by simp only[qz5,qz3,qz6]at hlen⊢;omega)]
 simp only[qz1];rw[G.arg a r _ _ _ _ (by omega) (λk hk=>zuS (h2 k hk)) (by omega) (by simp only[qz5,qz3,qz6]at hlen⊢;omega)]
 simp
theorem zUJ(G:zbB g n)(y:Node)(hd:20*zY y+6<=n+1)(h:y.Kind=15)(ho:zu y 101=true)(hb:zJ y<=2097152):Wr (zW g y) (tkN y).ex:=by
 intro no l hlen;obtain⟨he,hm⟩:=zb8 ho;have a1:=zaW y;have a2:=zaF y;have hk: ∀k∈y.L,zY k<=zbe y.L/\zJ k<=zak y.L:=λk hk=>⟨zaY hk,zbc hk⟩
 have ha: ∀k∈y.L,zu k 101=true->∀(least:Int) (no:Bool) (l:List Str),l.length+(atT (tkN k) least no).length<=274877906944->g.zF k least no l=some (no,l++atT (tkN k) least no,()):=λk h1 h2 least no l h=>G.at_ k least (by have:=hk k h1;omega) h2 (by have:=hk k h1;omega) no l h
 rw[zCZ h,qz4]at hm;obtain⟨a,hL,h1⟩:=zdE hm.2;rw[zGT h,hL,tk0]at hlen⊢;rw[hL]at ha;unfold zW;simp only[zq];rw[h,hL];show Option.bind (zn [y.Name] no l) (λr=>Option.bind (g.zF a 9 r.1 r.2.1) λr=>some (r.1,r.2.1,()))=_;rw[zau _ _ _ (by simp only[qz5,qz3,qz6]at hlen⊢;omega)]
 simp only[qz1];rw[ha a (by simp) h1 _ _ _ (by simp only[qz5,qz3,qz6]at hlen⊢;omega)]
 simp
theorem zWc(G:zbB g n)(y:Node)(hd:20*zY y+6<=n+1)(h:y.Kind=16)(ho:zu y 101=true)(hb:zJ y<=2097152):Wr (zW g y) (tkN y).ex:=by
 intro no l hlen;obtain⟨he,hm⟩:=zb8 ho;have a1:=zaW y;have a2:=zaF y;have hk: ∀k∈y.L,zY k<=zbe y.L/\zJ k<=zak y.L:=λk hk=>⟨zaY hk,zbc hk⟩
 have ha: ∀k∈y.L,zu k 101=true->∀(least:Int) (no:Bool) (l:List Str),l.length+(atT (tkN k) least no).length<=274877906944->g.zF k least no l=some (no,l++atT (tkN k) least no,()):=λk h1 h2 least no l h=>G.at_ k least (by have:=hk k h1;omega) h2 (by have:=hk k h1;omega) no l h
 rw[zza h,qz4]at hm;obtain⟨a,hL,h1⟩:=zdE hm.2;have h1:=zq9 h1;have hn:y.Num=0\/y.Num=1:=by simpa [zaB,h]using(zaT hm.1).2
 rw[zCD h,hL,tk0]at hlen⊢;rw[hL]at ha;unfold zW;simp only[zq];rw[h,hL];rcases hn with e|e
 ·rw[e]at hlen⊢;have hlen:l.length+(atT (tkN a) 11 no++[y.Name]).length<=274877906944:=hlen;show Option.bind (g.zF a 11 no l) (λr=>Option.bind (zn [y.Name] r.1 r.2.1) λr=>some (r.1,r.2.1,()))=some (no,l++(atT (tkN a) 11 no++[y.Name]),());rw[ha a (by simp) h1 _ _ _ (by simp only[qz5,qz3,qz6]at hlen⊢;omega)]
  simp only[qz1];rw[zau _ _ _ (by simp only[qz5,qz3,qz6]at hlen⊢;omega)]
  simp
 ·rw[e]at hlen⊢;have hlen:l.length+(y.Name::atT (tkN a) 11 no).length<=274877906944:=hlen;show Option.bind (zn [y.Name] no l) (λr=>Option.bind (g.zF a 11 r.1 r.2.1) λr=>some (r.1,r.2.1,()))=some (no,l++(y.Name::atT (tkN a) 11 no),());rw[zau _ _ _ (by simp only[qz5,qz3,qz6]at hlen⊢;omega)]
  simp only[qz1];rw[ha a (by simp) h1 _ _ _ (by simp only[qz5,qz3,qz6]at hlen⊢;omega)]
  simp
theorem zU7(G:zbB g n)(y:Node)(hd:20*zY y+6<=n+1)(h:y.Kind=19)(ho:zu y 101=true)(hb:zJ y<=2097152):Wr (zW g y) (tkN y).ex:=by
 intro no l hlen;obtain⟨he,hm⟩:=zb8 ho;have a1:=zaW y;have a2:=zaF y;have hk: ∀k∈y.L,zY k<=zbe y.L/\zJ k<=zak y.L:=λk hk=>⟨zaY hk,zbc hk⟩
 have ha: ∀k∈y.L,zu k 101=true->∀(least:Int) (no:Bool) (l:List Str),l.length+(atT (tkN k) least no).length<=274877906944->g.zF k least no l=some (no,l++atT (tkN k) least no,()):=λk h1 h2 least no l h=>G.at_ k least (by have:=hk k h1;omega) h2 (by have:=hk k h1;omega) no l h
 rw[zDN h,qz4]at hm;obtain⟨a,b,c,hL,h1,h2,h3⟩:=zsk hm.2;have hkb:=hk b (by rw[hL];simp)
 rw[zGZ h,hL,tk0,tk1,tk2]at hlen⊢;rw[hL]at ha;unfold zW;simp only[zq];rw[h,hL];show Option.bind (g.zF a 3 no l) (λr=>Option.bind (g.zck [63] [58] r.1 r.2.1 [a,b,c]) λr=>Option.bind (zT r.2.2.1 2) λx=>Option.bind (g.zF x 1 r.1 r.2.1) λr=>some (r.1,r.2.1,()))=_;rw[ha a (by simp) h1 _ _ _ (by simp only[qz5,qz3,qz6]at hlen⊢;omega)]
 simp only[qz1];rw[G.thn a b [c] _ _ _ _ (by omega) h2 (by omega) (by simp only[qz5,qz3,qz6]at hlen⊢;omega)]
 simp only[qz1,zRv];rw[ha c (by simp) h3 _ _ _ (by simp only[qz5,qz3,qz6]at hlen⊢;omega)]
 simp
theorem zVm(G:zbB g n)(y:Node)(hd:20*zY y+6<=n+1)(h:y.Kind=20)(ho:zu y 101=true)(hb:zJ y<=2097152):Wr (zW g y) (tkN y).ex:=by
 intro no l hlen;obtain⟨he,hm⟩:=zb8 ho;have a1:=zaW y;have a2:=zaF y;have hk: ∀k∈y.L,zY k<=zbe y.L/\zJ k<=zak y.L:=λk hk=>⟨zaY hk,zbc hk⟩
 have ha: ∀k∈y.L,zu k 101=true->∀(least:Int) (no:Bool) (l:List Str),l.length+(atT (tkN k) least no).length<=274877906944->g.zF k least no l=some (no,l++atT (tkN k) least no,()):=λk h1 h2 least no l h=>G.at_ k least (by have:=hk k h1;omega) h2 (by have:=hk k h1;omega) no l h
 rw[zCo h,qz4]at hm;obtain⟨a,b,hL,h1,h2⟩:=zdT hm.2;have h1:=zq9 h1;rw[zGB h,hL,tk0,tk1]at hlen⊢;rw[hL]at ha;unfold zW;simp only[zq];rw[h,hL];show Option.bind (g.zF a 11 no l) (λr=>Option.bind (zn [y.Name] r.1 r.2.1) λr=>Option.bind (g.zF b 1 r.1 r.2.1) λr=>some (r.1,r.2.1,()))=_;rw[ha a (by simp) h1 _ _ _ (by simp only[qz5,qz3,qz6]at hlen⊢;omega)]
 simp only[qz1];rw[zau _ _ _ (by simp only[qz5,qz3,qz6]at hlen⊢;omega)]
 simp only[qz1];rw[ha b (by simp) h2 _ _ _ (by simp only[qz5,qz3,qz6]at hlen⊢;omega)]
 simp
theorem zVJ(G:zbB g n)(y:Node)(hd:20*zY y+6<=n+1)(h:y.Kind=21)(ho:zu y 101=true)(hb:zJ y<=2097152):Wr (zW g y) (tkN y).ex:=by
 intro no l hlen;obtain⟨he,hm⟩:=zb8 ho;have a1:=zaW y;have a2:=zaF y;have hk: ∀k∈y.L,zY k<=zbe y.L/\zJ k<=zak y.L:=λk hk=>⟨zaY hk,zbc hk⟩
 have ha: ∀k∈y.L,zu k 101=true->∀(least:Int) (no:Bool) (l:List Str),l.length+(atT (tkN k) least no).length<=274877906944->g.zF k least no l=some (no,l++atT (tkN k) least no,()):=λk h1 h2 least no l h=>G.at_ k least (by have:=hk k h1;omega) h2 (by have:=hk k h1;omega) no l h
 rw[zDS h,qz4]at hm;obtain⟨a,b,hL,h1,h2⟩:=zdT hm.2;rw[zGR h,hL,tk0,tk1]at hlen⊢;rw[hL]at ha;unfold zW;simp only[zq];rw[h,hL];show Option.bind (g.zF a 0 no l) (λr=>Option.bind (zn [[44]] r.1 r.2.1) λr=>Option.bind (g.zF b 1 r.1 r.2.1) λr=>some (r.1,r.2.1,()))=_;rw[ha a (by simp) h1 _ _ _ (by simp only[qz5,qz3,qz6]at hlen⊢;omega)]
 simp only[qz1];rw[zau _ _ _ (by simp only[qz5,qz3,qz6]at hlen⊢;omega)]
 simp only[qz1];rw[ha b (by simp) h2 _ _ _ (by simp only[qz5,qz3,qz6]at hlen⊢;omega)]
 simp
theorem zVB(G:zbB g n)(y:Node)(hd:20*zY y+6<=n+1)(h:y.Kind=17)(ho:zu y 101=true)(hb:zJ y<=2097152):Wr (zW g y) (tkN y).ex:=by
 intro no l hlen;obtain⟨he,hm⟩:=zb8 ho;have a1:=zaW y;have a2:=zaF y;have hk: ∀k∈y.L,zY k<=zbe y.L/\zJ k<=zak y.L:=λk hk=>⟨zaY hk,zbc hk⟩
 have ha: ∀k∈y.L,zu k 101=true->∀(least:Int) (no:Bool) (l:List Str),l.length+(atT (tkN k) least no).length<=274877906944->g.zF k least no l=some (no,l++atT (tkN k) least no,()):=λk h1 h2 least no l h=>G.at_ k least (by have:=hk k h1;omega) h2 (by have:=hk k h1;omega) no l h
 have hlv:=zpL y hm he hb;have hv:=zRG h;rw[zDh h,qz4]at hm;obtain⟨a,b,hL,h1,h2⟩:=zdT hm.2;rw[zGV h,hL,tk0,tk1]at hlen⊢;rw[hL]at ha;unfold zW;simp only[zq];rw[h,hL];show Option.bind (zb2 y) (λq=>Option.bind (g.zF a q.1 no l) λr=>Option.bind (zn [y.Name] r.1 r.2.1) λr=>Option.bind (zb2 y) λq=>Option.bind (g.zF b (IntKind.wrap .i64 (q.1+1)) r.1 r.2.1) λr=>some (r.1,r.2.1,()))=_;rw[hlv];simp only[qz1];rw[ha a (by simp) h1 _ _ _ (by simp only[qz5,qz3,qz6]at hlen⊢;omega)]
 simp only[qz1];rw[zau _ _ _ (by simp only[qz5,qz3,qz6]at hlen⊢;omega)]
 simp only[qz1];have w:IntKind.wrap .i64 ((tkN y).lvl+1)=(tkN y).lvl+1:=wrap_i64 (by omega) (by omega);rw[w,ha b (by simp) h2 _ _ _ (by simp only[qz5,qz3,qz6]at hlen⊢;omega)]
 simp
theorem zV2(G:zbB g n)(y:Node)(hd:20*zY y+6<=n+1)(h:y.Kind=18)(ho:zu y 101=true)(hb:zJ y<=2097152):Wr (zW g y) (tkN y).ex:=by
 intro no l hlen;obtain⟨he,hm⟩:=zb8 ho;have a1:=zaW y;have a2:=zaF y;have hk: ∀k∈y.L,zY k<=zbe y.L/\zJ k<=zak y.L:=λk hk=>⟨zaY hk,zbc hk⟩
 have ha: ∀k∈y.L,zu k 101=true->∀(least:Int) (no:Bool) (l:List Str),l.length+(atT (tkN k) least no).length<=274877906944->g.zF k least no l=some (no,l++atT (tkN k) least no,()):=λk h1 h2 least no l h=>G.at_ k least (by have:=hk k h1;omega) h2 (by have:=hk k h1;omega) no l h
 have hlv:=zpL y hm he hb;rw[zy6 h,qz4]at hm;obtain⟨a,b,hL,h1,h2⟩:=zdT hm.2;have hv:=zRx h hm.1;rw[zGM h,hL,tk0,tk1]at hlen⊢;rw[hL]at ha;unfold zW;simp only[zq];rw[h,hL];show Option.bind (zb2 y) (λq=>Option.bind (g.zF a q.1 no l) λr=>Option.bind (zn [y.Name] r.1 r.2.1) λr=>Option.bind (zb2 y) λq=>Option.bind (g.zF b (IntKind.wrap .i64 (q.1+1)) r.1 r.2.1) λr=>some (r.1,r.2.1,()))=_;rw[hlv];simp only[qz1];rw[ha a (by simp) h1 _ _ _ (by simp only[qz5,qz3,qz6]at hlen⊢;omega)]
 simp only[qz1];rw[zau _ _ _ (by simp only[qz5,qz3,qz6]at hlen⊢;omega)]
 simp only[qz1];have w:IntKind.wrap .i64 ((tkN y).lvl+1)=(tkN y).lvl+1:=wrap_i64 (by omega) (by omega);rw[w,ha b (by simp) h2 _ _ _ (by simp only[qz5,qz3,qz6]at hlen⊢;omega)]
 simp
theorem zXB(G:zbB g n)(y:Node)(hd:20*zY y+6<=n+1)(hK:11<=y.Kind)(ho:zu y 101=true)(hb:zJ y<=2097152):Wr (zW g y) (tkN y).ex:=by
 have he:=(zb8 ho).1;rcases zgG he with h|h|h|h|h|h|h|h|h|h|h|h|h|h|h|h|h|h|h|h
 ·exfalso;omega
 ·exfalso;omega
 ·exfalso;omega
 ·exfalso;omega
 ·exfalso;omega
 ·exfalso;omega
 ·exfalso;omega
 ·exfalso;omega
 ·exfalso;omega
 ·exact zU5 G y hd h ho hb
 ·exact zVE G y hd h ho hb
 ·exact zUR G y hd h ho hb
 ·exact zVa G y hd h ho hb
 ·exact zUJ G y hd h ho hb
 ·exact zWc G y hd h ho hb
 ·exact zVB G y hd h ho hb
 ·exact zV2 G y hd h ho hb
 ·exact zU7 G y hd h ho hb
 ·exact zVm G y hd h ho hb
 ·exact zVJ G y hd h ho hb
end
theorem zec{y:Node}{c:UInt8}(h:zu y c=true):isP y ((c.toNat:Nat):Int)=true:=by
 unfold zu at h;rw[qz4]at h;exact h.1
theorem zBK{y:Node}(h:(zci y.Kind||y.Kind==42)||y.Kind==22)(hm:zan y=true):ziO y=true:=by
 show(((zci y.Kind||y.Kind==42)||y.Kind==22)&&zan y)=true;rw[hm,Bool.and_true];exact h
theorem zEp{y:Node}(h:zu y 118=true):ziO y=true:=h
theorem zq2{y:Node}(h:zu y 102=true):ziO y=true:=by
 have h1:(zci y.Kind||y.Kind==42)=true:=zec h;exact zBK (by rw[h1];rfl) (za7 h)
theorem zKn{y:Node}(h:zu y 119=true):ziO y=true:=by
 have h1:(zcF y.Kind||(y.Kind==22&&(match y.L with| [d]=>d.L.isEmpty|_=>false)))=true:=zec h;refine zBK ?_ (za7 h);rw[yQ]at h1;rcases h1 with h1|h1
 ·have:zci y.Kind=true:=by
   simp only[zcF,yQ,beq_iff_eq]at h1;rcases h1 with(h|h)|h<;>rw[h]<;>rfl
  rw[this];rfl
 ·rw[qz4]at h1;rw[h1.1,Bool.or_true]
theorem zIY{y:Node}(h:y.Kind=22)(hm:zan y=true):ziO y=true:=zBK (by rw[h];rfl) hm
theorem zB0{y:Node}(h:ziO y=true):y.Kind=42\/y.Kind=22\/zu y 101=true:=by
 have h1:((zci y.Kind||y.Kind==42)||y.Kind==22)=true:=zec (c:=118) h;have h2:=za7 (c:=118) h;simp only[yQ,beq_iff_eq]at h1;rcases h1 with(h1|h1)|h1
 ·exact .inr (.inr (by rw[zvS,h1,h2];rfl))
 ·exact .inl h1
 ·exact .inr (.inl h1)
theorem zA1{d:Node}(h:zu d 100=true):d.Kind=23/\(d.L=[]\/∃a,d.L=[a]/\zu a 101=true):=by
 have h1:(d.Kind==23)=true:=zec h;have h1:=eq_of_beq h1;have h2:=za7 h;rw[zzE h1,qz4]at h2;refine⟨h1,?_⟩;have h2:=h2.2;generalize d.L=l at h2;rcases l with _| ⟨a,r⟩
 ·exact .inl rfl
 ·obtain⟨a',e,ha⟩:=zdE h2;exact .inr ⟨a',e,ha⟩
theorem zMw{l:List Node}(h:zM (lv3 l) none l=true):(∃a b,l=[a,b]/\zu a 101=true/\zu b 98=true)\/∃a b c,l=[a,b,c]/\zu a 101=true/\zu b 98=true/\zu c 98=true:=by
 rcases l with _| ⟨a,_| ⟨b,_| ⟨c,r⟩⟩⟩
 ·simp[lv3,zM]at h
 ·simp[lv3,zM]at h
 ·exact .inl (zdT h)
 ·exact .inr (zsk h)
theorem zIA{l:List Node}(h:zM (lv1 l) none l=true):l=[]\/∃a,l=[a]/\zu a 101=true:=by
 rcases l with _| ⟨a,r⟩
 ·exact .inl rfl
 ·exact .inr (zdE h)
theorem zsp: ∀{l:List Node} {e:Nat},zfe l e=true->∀k∈l,zu k 107=true
 | [],_,_,k,hk=>by cases hk
 |x::r,e,h,k,hk=>by
  simp only[zfe,qz4]at h;rcases yP.1 hk with rfl|hk
  ·exact h.1
  ·exact zsp h.2 k hk
theorem zzL{l:List Node}(h:zot l=true): ∃a r,l=a::r/\zu a 101=true/\zfe r 0=true:=by
 rcases l with _| ⟨a,r⟩
 ·simp[zot]at h
 ·simp only[zot,qz4]at h;exact⟨a,r,rfl,h.1,h.2⟩
theorem zHo{l:List Node}(h:zBV l=true): ∃a b c,l=[a,b,c]/\zu a 98=true/\zu b 99=true/\zu c 99=true/\¬(b.Kind=42/\c.Kind=42):=by
 rcases l with _| ⟨a,_| ⟨b,_| ⟨c,_| ⟨d,r⟩⟩⟩⟩<;>simp[zBV]at h
 exact⟨a,b,c,rfl,h.1.1,h.1.2.1,h.1.2.2,λe=>by rcases h.2 with q|q;exact q e.1;exact q e.2⟩
theorem zzI{y:Node}(h:zu y 99=true):y.Kind=25/\zu y 98=true\/y.Kind=42:=by
 have h1:(y.Kind==25||y.Kind==42)=true:=zec h;have h2:=za7 h;simp only[yQ,beq_iff_eq]at h1;rcases h1 with h1|h1
 ·refine .inl ⟨h1,?_⟩;show(y.Kind==25&&zan y)=true;rw[h1,h2];rfl
 ·exact .inr h1
theorem zMk{y:Node}(h:zhO y=true):zan y=true/\(y.Kind=22\/y.Kind=24\/y.Kind=25\/y.Kind=26\/y.Kind=27\/y.Kind=28\/y.Kind=29\/y.Kind=30\/y.Kind=31\/y.Kind=32\/y.Kind=33\/y.Kind=34\/y.Kind=35\/y.Kind=36\/y.Kind=37\/y.Kind=38\/y.Kind=39\/y.Kind=40):=by
 unfold zhO at h;rw[yQ]at h;rcases h with h|h
 ·have h1:stK y.Kind true=true:=zec h;refine⟨za7 h,?_⟩;simp only[stK,qz4,yT,bne_iff_ne,ne_eq]at h1;omega
 ·have h1:(y.Kind==37)=true:=zec h;exact⟨za7 h,by have:=eq_of_beq h1;omega⟩
theorem zWM{y:Node}(h:zu y 101=true)(no:Bool):(tkN y).ex no≠[]:=by
 obtain⟨he,hm⟩:=zb8 h;rcases zgG he with h|h|h|h|h|h|h|h|h|h|h|h|h|h|h|h|h|h|h|h
 ·rw[zMg h];simp
 ·rw[zLW h];simp
 ·rw[zLh h];simp
 ·rw[zMD h];simp
 ·rw[zL9 h];simp
 ·rw[zHt h];simp
 ·rw[zB6 h];simp
 ·rw[zBP h];simp
 ·rw[zxs h];simp[zgb]
 ·rw[zGD h];simp
 ·rw[zGU h];simp
 ·rw[zGw h];simp
 ·rw[zGN h];simp
 ·rw[zGT h];simp
 ·rw[zCD h];split<;>simp
 ·rw[zGV h];simp
 ·rw[zGM h];simp
 ·rw[zGZ h];simp
 ·rw[zGB h];simp
 ·rw[zGR h];simp
theorem zRJ{y:Node}(h:zu y 101=true)(least:Int)(no:Bool):atT (tkN y) least no≠[]:=by
 unfold atT;split
 ·simp
 ·exact zWM h no
theorem zOd(i:Nat)(l v:List Str)(h1:i<l.length)(h2:0<v.length)(h3:l.length+v.length<=274877906944):zhW ((i:Nat):Int) l v=some (l.take i++(v++l.drop i),()):=by
 unfold zhW zIR;rw[yL ⟨by omega,by omega,h2,by omega⟩];rfl
section
variable {g:zi} {n:Nat}
theorem zUm(G:zbB g n)(ds:List Node)(no:Bool)(l:List Str)(hd:20*zbe ds<=n)(hk: ∀d∈ds,zu d 100=true)(hb:zak ds<=2097152)(hlen:l.length+(commas (declT no) (tkL ds)).length<=274877906944):
  Lp.loop (zc3 g) (ds,((ds.length:Nat):Int),0,no,l,())=some (no,l++commas (declT no) (tkL ds),()):=by
 have a1:=zmA ds
 have hdecl: ∀d,d∈ds->∀(i:Int) (l:List Str),l.length+(declT no (tkN d)).length<=274877906944->IntKind.wrap .i64 (i+1)=i+1->ze6 g ds ((ds.length:Nat):Int) i no l d=some (.inl (ds,((ds.length:Nat):Int),i+1,no,l++declT no (tkN d),())):=by
  intro d hm i l hlen hw;obtain⟨h1,h2⟩:=zA1 (hk d hm);have b1:=zaY hm;have b2:=zbc hm;have b3:=zaW d;have b4:=zaF d;unfold ze6 zi5;unfold declT at hlen⊢;rw[zdF,zjE]at hlen⊢;rcases h2 with h2| ⟨a,h2,ha⟩
  ·rw[h2]at hlen⊢;have hlen:l.length+[d.Name].length<=274877906944:=by simpa [tkL,k0]using hlen
   rw[zau _ _ _ hlen];simp only[qz1,zq,h2,hw];simp[tkL,k0]
  ·have c1:a∈d.L:=by rw[h2];exact qz7
   have c2:=zaY c1;have c3:=zbc c1;rw[h2,tk0]at hlen⊢;have hlen:l.length+(d.Name::[61]::atT (tkN a) 1 no:List Str).length<=274877906944:=hlen;rw[zau _ _ _ (by simp only[qz5,qz3,qz6]at hlen⊢;omega)]
   simp only[qz1,zq,h2,zDK];rw[yL (by simp),zau _ _ _ (by simp only[qz5,qz3,qz6]at hlen⊢;omega)]
   simp only[qz1];rw[G.at_ a 1 (by omega) ha (by omega) no _ (by simp only[qz5,qz3,qz6]at hlen⊢;omega),qz1,hw]
   simp
 rw[zz3]at hlen⊢;have:=zDG (zc3 g) (λi l=>(ds,((ds.length:Nat):Int),i,no,l,())) ds (λd=>declT no (tkN d)) [] (λl=>(no,l,())) (by omega) (λy r hy l hlen=>?_) (λi y h0 hm h1 h2 h3 h4 l hlen=>?_) (λhe l hlen=>?_) l (by simpa using hlen)
 ·simpa using this
 ·have hi:decide ((0:Int)< ((ds.length:Nat):Int))=true:=by rw[hy];simp only[qz3,yT];omega
  have h1:zT ds 0=some y:=by rw[hy];rfl
  simp only[zc3,hi,yB,h1,qz1,zq];rw[yK (by decide)];exact hdecl y (by rw[hy];exact qz7) 0 l hlen (by decide)
 ·simp only[zc3,h2,yB,h1,h3,qz1,zq];rw[zau _ _ _ (by simp only[qz5,qz3,qz6]at hlen⊢;omega)]
  simp only[qz1];rw[hdecl y hm i _ (by simp only[qz5,qz3,qz6]at hlen⊢;omega) (by rw[h4];rfl)]
  simp
 ·simp only[zc3,he,qz2,yA];simp
theorem zSS(G:zbB g n)(y:Node)(least:Int)(hd:20*zY y+11<=n+1)(ho:ziO y=true)(hb:zJ y<=2097152):Wr (zhD g y least) (zaJ (tkN y) least):=by
 intro no l hlen;have a1:=zaW y;have a2:=zaF y;unfold zhD;unfold zaJ at hlen⊢;rw[zdF,zjE]at hlen⊢;simp only[zq];rcases zB0 ho with h|h|h
 ·rw[h]at hlen⊢;show some (no,l,())=some (no,l++[],());simp
 ·have hm:=za7 (c:=118) ho;rw[zC9 h,qz4]at hm;obtain⟨d,ds,hL,h1,h2⟩:=zhX hm.2
  have hk: ∀d∈y.L,zu d 100=true:=by
   rw[hL];intro k hk;rcases yP.1 hk with rfl|hk
   ·exact h1
   ·exact h2 k hk
  rw[h]at hlen⊢;have hlen:l.length+([118,97,114]::commas (declT no) (tkL y.L)).length<=274877906944:=hlen;show Option.bind (zn [[118,97,114]] no l) _=some (no,l++([118,97,114]::commas (declT no) (tkL y.L)),());rw[zau _ _ _ (by simp only[qz5,qz3,qz6]at hlen⊢;omega)]
  simp only[qz1];rw[zUm G y.L no _ (by omega) hk (by omega) (by simp only[qz5,qz3,qz6]at hlen⊢;omega)]
  simp
 ·obtain⟨he,hm⟩:=zb8 h
  have e1:(y.Kind==42)=false:=by
   rcases zgG he with h|h|h|h|h|h|h|h|h|h|h|h|h|h|h|h|h|h|h|h<;>rw[h]<;>rfl
  have e2:(y.Kind==22)=false:=by
   rcases zgG he with h|h|h|h|h|h|h|h|h|h|h|h|h|h|h|h|h|h|h|h<;>rw[h]<;>rfl
  rw[e1,e2]at hlen⊢;simp only[qz2,yA]at hlen⊢;rw[G.at_ y least (by omega) h hb no l hlen];rfl
theorem zQ5(G:zbB g n)(y:Node)(l:List Str)(hd:20*zY y+12<=n+1)(h:y.Kind=27)(hm:zan y=true)(hb:zJ y<=2097152)(hlen:l.length+(tkN y).st.length<=274877906944):zbS g y false l=some (false,l++(tkN y).st,()):=by
 have a1:=zaW y;have a2:=zaF y;have hk: ∀k∈y.L,zY k<=zbe y.L/\zJ k<=zak y.L:=λk hk=>⟨zaY hk,zbc hk⟩
 rw[zDW h,qz4]at hm;obtain⟨a,b,hL,h1,h2⟩:=zdT hm.2;have ka:=hk a (by rw[hL];simp);have kb:=hk b (by rw[hL];simp)
 rw[zLJ h,hL,tk0,tk1]at hlen⊢;unfold zbS;simp only[zq];rw[h,hL];show Option.bind (g.za9 [119,104,105,108,101] a false l) (λr=>Option.bind (g.zai b r.1 r.2.1) λr=>some (r.1,r.2.1,()))=_;rw[G.head a _ l (by omega) h1 (by omega) (by simp only[qz5,qz3,qz6]at hlen⊢;omega)]
 simp only[qz1];rw[G.stmt b _ (by omega) (ziW h2) (by omega) (by simp only[qz5,qz3,qz6]at hlen⊢;omega)]
 simp
theorem zPP(G:zbB g n)(y:Node)(l:List Str)(hd:20*zY y+12<=n+1)(h:y.Kind=28)(hm:zan y=true)(hb:zJ y<=2097152)(hlen:l.length+(tkN y).st.length<=274877906944):zbS g y false l=some (false,l++(tkN y).st,()):=by
 have a1:=zaW y;have a2:=zaF y;have hk: ∀k∈y.L,zY k<=zbe y.L/\zJ k<=zak y.L:=λk hk=>⟨zaY hk,zbc hk⟩
 rw[zCR h,qz4]at hm;obtain⟨a,b,hL,h1,h2⟩:=zdT hm.2;have ka:=hk a (by rw[hL];simp);have kb:=hk b (by rw[hL];simp)
 rw[zMB h,hL,tk0,tk1]at hlen⊢;unfold zbS;simp only[zq];rw[h,hL];show Option.bind (zn [[100,111]] false l) (λr=>Option.bind (g.zai a r.1 r.2.1) λr=>Option.bind (g.za9 [119,104,105,108,101] b r.1 r.2.1) λr=>Option.bind (zn [[59]] r.1 r.2.1) λr=>some (r.1,r.2.1,()))=_;rw[zau _ _ _ (by simp only[qz5,qz3,qz6]at hlen⊢;omega)]
 simp only[qz1];rw[G.stmt a _ (by omega) (ziW h1) (by omega) (by simp only[qz5,qz3,qz6]at hlen⊢;omega)]
 simp only[qz1];rw[G.head b _ _ (by omega) h2 (by omega) (by simp only[qz5,qz3,qz6]at hlen⊢;omega)]
 simp only[qz1];rw[zau _ _ _ (by simp only[qz5,qz3,qz6]at hlen⊢;omega)]
 simp
theorem zPT(G:zbB g n)(y:Node)(l:List Str)(hd:20*zY y+12<=n+1)(h:y.Kind=30)(hm:zan y=true)(hb:zJ y<=2097152)(hlen:l.length+(tkN y).st.length<=274877906944):zbS g y false l=some (false,l++(tkN y).st,()):=by
 have a1:=zaW y;have a2:=zaF y;have hk: ∀k∈y.L,zY k<=zbe y.L/\zJ k<=zak y.L:=λk hk=>⟨zaY hk,zbc hk⟩
 rw[zC3 h,qz4]at hm;obtain⟨a,b,c,hL,h1,h2,h3⟩:=zsk hm.2;have ka:=hk a (by rw[hL];simp);have kb:=hk b (by rw[hL];simp);have kc:=hk c (by rw[hL];simp)
 rw[zLF h,hL,tk0,tk1,tk2]at hlen⊢;unfold zbS;simp only[zq];rw[h,hL];show Option.bind (zn [[102,111,114],[40]] false l) (λr=>Option.bind (g.za8 a 11 true r.2.1) λr=>Option.bind (zn [[105,110]] false r.2.1) λr=>Option.bind (g.zF b 0 r.1 r.2.1) λr=>Option.bind (zn [[41]] r.1 r.2.1) λr=>Option.bind (g.zai c r.1 r.2.1) λr=>some (r.1,r.2.1,()))=_;rw[zau _ _ _ (by simp only[qz5,qz3,qz6]at hlen⊢;omega)]
 simp only[qz1];rw[G.begin_ a 11 (by omega) (zKn h1) (by omega) true _ (by simp only[qz5,qz3,qz6]at hlen⊢;omega)]
 simp only[qz1];rw[zau _ _ _ (by simp only[qz5,qz3,qz6]at hlen⊢;omega)]
 simp only[qz1];rw[G.at_ b 0 (by omega) h2 (by omega) false _ (by simp only[qz5,qz3,qz6]at hlen⊢;omega)]
 simp only[qz1];rw[zau _ _ _ (by simp only[qz5,qz3,qz6]at hlen⊢;omega)]
 simp only[qz1];rw[G.stmt c _ (by omega) (ziW h3) (by omega) (by simp only[qz5,qz3,qz6]at hlen⊢;omega)]
 simp
theorem zO2(G:zbB g n)(y:Node)(l:List Str)(hd:20*zY y+12<=n+1)(h:y.Kind=29)(hm:zan y=true)(hb:zJ y<=2097152)(hlen:l.length+(tkN y).st.length<=274877906944):zbS g y false l=some (false,l++(tkN y).st,()):=by
 have a1:=zaW y;have a2:=zaF y;have hk: ∀k∈y.L,zY k<=zbe y.L/\zJ k<=zak y.L:=λk hk=>⟨zaY hk,zbc hk⟩
 rw[zDJ h,qz4]at hm;obtain⟨a,b,c,d,hL,h1,h2,h3,h4⟩:=zHC hm.2;have ka:=hk a (by rw[hL];simp);have kb:=hk b (by rw[hL];simp);have kc:=hk c (by rw[hL];simp);have kd:=hk d (by rw[hL];simp)
 rw[zMt h,hL,tk0,tk1,tk2,tk3]at hlen⊢;unfold zbS;simp only[zq];rw[h,hL];show Option.bind (zn [[102,111,114],[40]] false l) (λr=>Option.bind (g.za8 a 0 true r.2.1) λr=>Lp.loop (zcH g) ([a,b,c,d],[b,c],2,0,false,r.2.1,()))=_;rw[zau _ _ _ (by simp only[qz5,qz3,qz6]at hlen⊢;omega)]
 simp only[qz1];rw[G.begin_ a 0 (by omega) (zEp h1) (by omega) true _ (by simp only[qz5,qz3,qz6]at hlen⊢;omega)]
 simp only[qz1];refine zdu (n:=3) ?_ (by omega)
 have hs: ∀(i:Nat) (q:Node) (l:List Str),i<2->zT [b,c] (i:Int)=some q->ziO q=true->20*zY q+11<=n->zJ q<=2097152->l.length+([59]::zaJ (tkN q) 0 false).length<=274877906944->zcH g ([a,b,c,d],[b,c],2,(i:Int),false,l,())=some (.inl ([a,b,c,d],[b,c],2,((i+1:Nat):Int),false,l++([59]::zaJ (tkN q) 0 false),())):=by
  intro i q l hi hg ho hd hb hlen;have w:IntKind.wrap .i64 ((i:Int)+1)=((i+1:Nat):Int):=by rw[wrap_i64 (by omega) (by omega)];rfl
  have hi:decide ((i:Int)<2)=true:=by simpa using by omega
  simp only[zcH,hi,yB,hg,qz1,zq];rw[zau _ _ _ (by simp only[qz5,qz3,qz6]at hlen⊢;omega)]
  simp only[qz1];rw[G.begin_ q 0 hd ho hb false _ (by simp only[qz5,qz3,qz6]at hlen⊢;omega),qz1,w]
  simp
 have e0: ∀l:List Str,l.length+([59]::zaJ (tkN b) 0 false).length<=274877906944->zcH g ([a,b,c,d],[b,c],2,0,false,l,())=some (.inl ([a,b,c,d],[b,c],2,1,false,l++([59]::zaJ (tkN b) 0 false),())):=λl h=>hs 0 b l (by omega) rfl (zq2 h2) (by omega) (by omega) h
 have e1: ∀l:List Str,l.length+([59]::zaJ (tkN c) 0 false).length<=274877906944->zcH g ([a,b,c,d],[b,c],2,1,false,l,())=some (.inl ([a,b,c,d],[b,c],2,2,false,l++([59]::zaJ (tkN c) 0 false),())):=λl h=>hs 1 c l (by omega) rfl (zq2 h3) (by omega) (by omega) h
 rw[zbZ (e0 _ (by simp only[qz5,qz3,qz6]at hlen⊢;omega)),zbZ (e1 _ (by simp only[qz5,qz3,qz6]at hlen⊢;omega))]
 refine zaN ?_;simp only[zcH];rw[yK (by decide),zau _ _ _ (by simp only[qz5,qz3,qz6]at hlen⊢;omega)]
 have w:IntKind.wrap .i64 ((([a,b,c,d].length:Nat):Int) -1)=3:=by show IntKind.wrap .i64 (((4:Nat):Int) -1)=3;decide
 simp only[qz1,w,zXo,zq];rw[G.stmt d _ (by omega) (ziW h4) (by omega) (by simp only[qz5,qz3,qz6]at hlen⊢;omega)]
 simp
theorem zUB(G:zbB g n)(y:Node)(l:List Str)(hd:20*zY y+12<=n+1)(h1:27<=y.Kind)(h2:y.Kind<=30)(hm:zan y=true)(hb:zJ y<=2097152)(hlen:l.length+(tkN y).st.length<=274877906944):zbS g y false l=some (false,l++(tkN y).st,()):=by
 have:y.Kind=27\/y.Kind=28\/y.Kind=29\/y.Kind=30:=by omega
 rcases this with h|h|h|h
 ·exact zQ5 G y l hd h hm hb hlen
 ·exact zPP G y l hd h hm hb hlen
 ·exact zO2 G y l hd h hm hb hlen
 ·exact zPT G y l hd h hm hb hlen
theorem zUC(G:zbB g n)(y:Node)(l:List Str)(hd:20*zY y+12<=n+1)(h:y.Kind=31\/y.Kind=32\/y.Kind=33\/y.Kind=34\/y.Kind=40)(hm:zan y=true)(hb:zJ y<=2097152)(hlen:l.length+(tkN y).st.length<=274877906944):zh9 g y false l=some (false,l++(tkN y).st,()):=by
 have a1:=zaW y;have a2:=zaF y;have a3:=zmA y.L
 have hk: ∀k∈y.L,zu k 101=true:=by
  rcases h with h|h|h|h|h
  ·rw[zDC h,qz4]at hm;rw[zgu hm.2];simp
  ·rw[zD4 h,qz4]at hm;rw[zgu hm.2];simp
  ·rw[zD9 h,qz4]at hm;rcases zIA hm.2 with e| ⟨a,e,ha⟩<;>rw[e]
   ·simp
   ·simpa using ha
  ·rw[zCX h,qz4]at hm;obtain⟨a,e,ha⟩:=zdE hm.2;rw[e];simpa using ha
  ·rw[zH1 h,qz4]at hm;rw[zgu hm.2];simp
 have hw:=λl h=>zOi (g:=g) (x:=y) (by omega) (λk hk1 l h=>G.at_ k 0 (by have:=zaY hk1;omega) (hk k hk1) (by have:=zbc hk1;omega) false l h) l h
 have hj: ∀l:List Str,l.length+((if(y.Name==([]:Str))=true then[]else[y.Name])++((tkL y.L).flatMap (λk=>atT k 0 false)++[[59]])).length<=274877906944->zcf g false l y=some (false,l++((if(y.Name==([]:Str))=true then[]else[y.Name])++((tkL y.L).flatMap (λk=>atT k 0 false)++[[59]])),()):=by
  intro l hlen;unfold zcf;by_cases hn:(y.Name==([]:Str))=true
  ·rw[hn]at hlen⊢;simp only[yB,List.nil_append,yO,qz2,yA]at hlen⊢;exact hw l hlen
  ·have hn:(y.Name==([]:Str))=false:=by simpa using hn
   rw[hn]at hlen⊢;simp only[qz2,yA,yN,yB]at hlen⊢;rw[zau _ _ _ (by simp only[qz5,qz3,qz6]at hlen⊢;omega)]
   simp only[qz1];rw[hw _ (by simp only[qz5,qz3,qz6]at hlen⊢;omega)]
   simp
 have hst:(tkN y).st=zhz y++((tkL y.L).flatMap (λk=>atT k 0 false)++[[59]]):=by
  rcases h with h|h|h|h|h
  ·exact zLi h
  ·exact zMh h
  ·exact zGv h
  ·exact zMA h
  ·exact zL6 h
 rw[hst]at hlen⊢;unfold zhz at hlen⊢;rw[yE]at hlen⊢;unfold zh9;simp only[zq]
 have hgo: ∀w:Str,l.length+([w]++((if(y.Name==([]:Str))=true then[]else[y.Name])++((tkL y.L).flatMap (λk=>atT k 0 false)++[[59]]))).length<=274877906944->Option.bind (zn [w] false l) (λr=>zcf g r.1 r.2.1 y)=some (false,l++([w]++((if(y.Name==([]:Str))=true then[]else[y.Name])++((tkL y.L).flatMap (λk=>atT k 0 false)++[[59]]))),()):=by
  intro w hlen;rw[zau _ _ _ (by simp only[qz5,qz3,qz6]at hlen⊢;omega)]
  simp only[qz1];rw[hj _ (by simp only[qz5,qz3,qz6]at hlen⊢;omega)]
  simp
 rcases h with h|h|h|h|h
 ·rw[h]at hlen⊢;exact hgo _ hlen
 ·rw[h]at hlen⊢;exact hgo _ hlen
 ·rw[h]at hlen⊢;exact hgo _ hlen
 ·rw[h]at hlen⊢;exact hgo _ hlen
 ·rw[h]at hlen⊢;exact hj l hlen
end
def zgk:List Str:=[[40],[41],[91],[93],[123],[125],[46],[44],[58],[59],[63],[116,104,105,115],[110,117,108,108],[116,114,117,101],[102,97,108,115,101],[102,117,110,99,116,105,111,110],[110,101,119],[45],[43],[33],[116,121,112,101,111,102],[100,101,108,101,116,101],[118,111,105,100],[43,43],[45,45],[42],[47],[37],[60],[62],[60,61],[62,61],[61,61],[33,61],[61,61,61],[33,61,61],[105,110],[105,110,115,116,97,110,99,101,111,102],[38,38],[124,124],[61],[43,61],[45,61],[42,61],[47,61],[37,61],[118,97,114],[105,102],[101,108,115,101],[119,104,105,108,101],[100,111],[102,111,114],[98,114,101,97,107],[99,111,110,116,105,110,117,101],[114,101,116,117,114,110],[116,104,114,111,119],[116,114,121],[99,97,116,99,104],[102,105,110,97,108,108,121],[115,119,105,116,99,104],[99,97,115,101],[100,101,102,97,117,108,116]]
structure Cls (c:Str->Tok):Prop where
 op: ∀w∈zgk,zcN (c w) w
 name: ∀s,zaP s=true->(c s).kind=1/\(c s).text=s
 ident: ∀s,zdD s=true->((c s).kind=1\/(c s).kind=2)/\(c s).text=s
 num: ∀n:Int,0<=n->n<=9007199254740991->(c (Lib.itoa n)).kind=3/\(c (Lib.itoa n)).num=n
 str: ∀s,zaL s=true->s.length<=100000000->(c (zdr s)).kind=4/\(c (zdr s)).text=s
 fresh: ∀s,(c s).fresh=false
 opt: ∀s,opK (c s)=true->(c s).text=s
def zr1:List Str:=[[116,104,105,115],[110,117,108,108],[116,114,117,101],[102,97,108,115,101],[102,117,110,99,116,105,111,110],[40],[91],[123],[110,101,119],[45],[43],[33],[116,121,112,101,111,102],[100,101,108,101,116,101],[118,111,105,100],[43,43],[45,45]]
def opB(w:Str):Bool:=zsF.contains w||zgC.contains w
def Beg(tight:Bool)(t:zB):Prop:=∃a r,t=a::r/\a.fresh=false/\(a.kind=1\/a.kind=3\/a.kind=4\/∃w,zcN a w/\w∈zr1/\(tight=true->opB w=false))
theorem Beg.loose{b:Bool}{t:zB}(h:Beg b t):Beg false t:=by
 obtain⟨a,r,e,hf,h⟩:=h;refine⟨a,r,e,hf,?_⟩;rcases h with h|h|h| ⟨w,h1,h2,_⟩
 ·exact .inl h
 ·exact .inr (.inl h)
 ·exact .inr (.inr (.inl h))
 ·exact .inr (.inr (.inr ⟨w,h1,h2,λe=>by cases e⟩))
theorem zdH{a:Tok}(h:a.kind=1\/a.kind=3\/a.kind=4):opK a=false:=by
 unfold opK;rcases h with h|h|h<;>rw[h]<;>rfl
theorem Beg.is{b:Bool}{t:zB}(h:Beg b t){s:Str}(hs:zr1.contains s=false):tIs s t=false:=by
 obtain⟨a,r,rfl,_,h⟩:=h;rcases h with h|h|h| ⟨w,h1,h2,_⟩
 ·show(opK a&&_)=false;rw[zdH (.inl h)];rfl
 ·show(opK a&&_)=false;rw[zdH (.inr (.inl h))];rfl
 ·show(opK a&&_)=false;rw[zdH (.inr (.inr h))];rfl
 ·rw[h1.is,yH];rintro rfl;rw[show zr1.contains w=true by simpa using h2]at hs;cases hs
theorem Beg.una{t:zB}(h:Beg true t):zbs zsF t=false/\zbs zgC t=false:=by
 obtain⟨a,r,rfl,_,h⟩:=h;rcases h with h|h|h| ⟨w,h1,h2,h3⟩
 ·exact⟨by show(opK a&&_)=false;rw[zdH (.inl h)];rfl,by show(opK a&&_)=false;rw[zdH (.inl h)];rfl⟩
 ·exact⟨by show(opK a&&_)=false;rw[zdH (.inr (.inl h))];rfl,by show(opK a&&_)=false;rw[zdH (.inr (.inl h))];rfl⟩
 ·exact⟨by show(opK a&&_)=false;rw[zdH (.inr (.inr h))];rfl,by show(opK a&&_)=false;rw[zdH (.inr (.inr h))];rfl⟩
 ·have:=h3 rfl;unfold opB at this;rw[Bool.or_eq_false_iff]at this;rw[h1.any,h1.any];exact this
theorem Beg.zGC{b:Bool}{t:zB}(h:Beg b t):(zaa t==0)=false:=by
 obtain⟨a,r,rfl,_,h⟩:=h;show(a.kind==0)=false;rcases h with h|h|h| ⟨w,h1,_⟩
 ·rw[h];rfl
 ·rw[h];rfl
 ·rw[h];rfl
 ·rcases h1.kind with e|e<;>rw[e]<;>rfl
theorem Beg.fresh{b:Bool}{t:zB}(h:Beg b t):ze0 t=false:=by
 obtain⟨a,r,rfl,h,_⟩:=h;exact h
def zfn(no:Bool)(w:Str):Int:=
 if((lvS no w).1==0)=false then(lvS no w).1
 else if(w==([46]:Str)||w==([91]:Str))=true then 12
 else if(w==([40]:Str))=true then 11
 else if zgC.contains w=true then 10
 else if(w==([63]:Str))=true then 2
 else if zrW.contains w=true then 1
 else if(w==([44]:Str))=true then 0
 else -1
def zce(no:Bool):zB->Int
 |t::_=>if opK t=true then zfn no t.text else -1
 | []=> -1
theorem zcN.fol{a:Tok}{w:Str}(h:zcN a w)(no:Bool)(r:zB):zce no (a::r)=zfn no w:=by
 show(if opK a=true then zfn no a.text else -1)=_;rw[h.op,h.text];rfl
theorem zG9{s:Str}{t:zB}(h:tIs s t=true): ∃a r,t=a::r/\zcN a s:=by
 cases t with
 |nil=>cases h
 |cons a r=>
  have h:(opK a&&(a.text==s))=true:=h;rw[qz4]at h;exact⟨a,r,rfl,h.1,eq_of_beq h.2⟩
theorem zNX{l:List Str}{t:zB}(h:zbs l t=true): ∃a r w,t=a::r/\zcN a w/\w∈l:=by
 cases t with
 |nil=>cases h
 |cons a r=>
  have h:(opK a&&l.contains a.text)=true:=h;rw[qz4]at h;exact⟨a,r,a.text,rfl,⟨h.1,rfl⟩,by simpa using h.2⟩
theorem zzK{no:Bool}{t:zB}{s:Str}(h:zce no t≠zfn no s):tIs s t=false:=by
 cases e:tIs s t with
 |false=>rfl
 |true=>
  obtain⟨a,r,rfl,ho⟩:=zG9 e;exact absurd (ho.fol no r) h
theorem zK7{no:Bool}{t:zB}{l:List Str}{k:Int}(hl: ∀w∈l,zfn no w=k)(h:zce no t≠k):zbs l t=false:=by
 cases e:zbs l t with
 |false=>rfl
 |true=>
  obtain⟨a,r,w,rfl,ho,hw⟩:=zNX e;exact absurd ((ho.fol no r).trans (hl w hw)) h
theorem zKP{no:Bool}{t:zB}(h:zce no t<12):tIs [46] t=false/\tIs [91] t=false:=
 ⟨zzK (no:=no) (by rw[show zfn no [46]=12 by cases no<;>decide];omega),zzK (no:=no) (by rw[show zfn no [91]=12 by cases no<;>decide];omega)⟩
theorem zQ2{no:Bool}{t:zB}(h:zce no t<11):tIs [40] t=false:=zzK (no:=no) (by rw[show zfn no [40]=11 by cases no<;>decide];omega)
theorem zKC{no:Bool}{t:zB}(h:zce no t<10):zbs zgC t=false:=zK7 (no:=no) (k:=10) (by cases no<;>decide) (by omega)
theorem zAW{no:Bool}{t:zB}(h:zce no t<1):zbs zrW t=false:=zK7 (no:=no) (k:=1) (by cases no<;>decide) (by omega)
theorem zwc{no:Bool}{t:zB}(h:zce no t<2):tIs [63] t=false:=zzK (no:=no) (by rw[show zfn no [63]=2 by cases no<;>decide];omega)
theorem zNE{no:Bool}{t:zB}(h:zce no t<0):tIs [44] t=false:=zzK (no:=no) (by rw[show zfn no [44]=0 by cases no<;>decide];omega)
theorem zRe{no:Bool}{t:zB}:(zcQ no t).1=0\/(zcQ no t).1=zce no t:=by
 cases t with
 |nil=>exact .inl rfl
 |cons a r=>
  show(if opK a=true then lvS no a.text else(0,0)).1=0\/(if opK a=true then lvS no a.text else(0,0)).1=(if opK a=true then zfn no a.text else -1)
  cases opK a with
  |false=>exact .inl rfl
  |true=>
   simp only[yB];unfold zfn;cases h:(lvS no a.text).1==0 with
   |true=>exact .inl (eq_of_beq h)
   |false=>exact .inr rfl
theorem zmk{no:Bool}{t:zB}{least:Int}{x:Node}(h:zce no t<least):zpP no least x t (x,t):=by
 refine zLA ?_;rcases zRe (no:=no) (t:=t)with e|e
 ·rw[e];simp
 ·rw[e,show decide (zce no t<least)=true by simpa using h];rfl
theorem ztx{no:Bool}{t:zB}{x:Node}(h:zce no t<0):COMMA no x t (x,t):=zJz (zNE h)
theorem zl8{no:Bool}{t:zB}{x:Node}{calls:Bool}(h:zce no t<11):zjm calls x t (x,t):=
 zC4 (zKP (no:=no) (by omega)).1 (zKP (no:=no) (by omega)).2 (by rw[zQ2 h,Bool.and_false])
def MM(calls:Bool)(t:zB)(v:Node×zB):Prop:=∃y t1,MADE t (y,t1)/\zjm calls y t1 v
theorem zsw{no:Bool}{t r:zB}{x:Node}(hb:Beg true t)(h:MM true t (x,r))(hf:zce no r<=8):zku t (x,r):=by
 obtain⟨y,t1,h1,h2⟩:=h;exact zxP hb.una.1 hb.una.2 h1 h2 (zKC (no:=no) (by omega))
def zgi(no:Bool)(x:Node):Prop:=¬(no=true/\x.Kind=17/\x.Name=[105,110])
section
variable (c:Str->Tok)
def T(l:List Str):zB:=l.map c
theorem zbu(a b:List Str):T c (a++b)=T c a++T c b:=by simp[T]
theorem zbk(a:Str)(b:List Str):T c (a::b)=c a::T c b:=rfl
structure RT (x:Node):Prop where
 beg: ∀no r,Beg (decide (11<=(tkN x).lvl)) (T c ((tkN x).ex no)++r)
 lab: ∀no r,tIs [58] r=false->zaa (T c ((tkN x).ex no)++r)=1->tIs [58] (T c ((tkN x).ex no)++r).tail=false
 mm: ∀no r v calls,zgi no x->(12<=(tkN x).lvl\/(11<=(tkN x).lvl/\calls=true))->zjm calls x r v->MM calls (T c ((tkN x).ex no)++r) v
 un: ∀no r,zgi no x->9<=(tkN x).lvl->zce no r<=8->zku (T c ((tkN x).ex no)++r) (x,r)
 bin: ∀no r v least,zgi no x->3<=least->least<=(tkN x).lvl->zce no r<=8->zce no r<=(tkN x).lvl->zpP no least x r v->BINARY no least (T c ((tkN x).ex no)++r) v
 asg: ∀no r,zgi no x->1<=(tkN x).lvl->zce no r<=0->ASSIGN no (T c ((tkN x).ex no)++r) (x,r)
 exp: ∀no r v,zgi no x->zce no r<=0->COMMA no x r v->EXPR no (T c ((tkN x).ex no)++r) v
variable {c}
theorem zDx{x:Node}(h: ∀no r,zgi no x->1<=(tkN x).lvl->zce no r<=0->ASSIGN no (T c ((tkN x).ex no)++r) (x,r))(hl:1<=(tkN x).lvl):
  ∀no r v,zgi no x->zce no r<=0->COMMA no x r v->EXPR no (T c ((tkN x).ex no)++r) v:=λno r v hi hf hc=>zJk (h no r hi hl hf) hc
theorem zIf{x:Node}(h: ∀no r v least,zgi no x->3<=least->least<=(tkN x).lvl->zce no r<=8->zce no r<=(tkN x).lvl->zpP no least x r v->BINARY no least (T c ((tkN x).ex no)++r) v)(hl:3<=(tkN x).lvl):
  ∀no r,zgi no x->1<=(tkN x).lvl->zce no r<=0->ASSIGN no (T c ((tkN x).ex no)++r) (x,r):=λno r hi _ hf=>
 zll (h no r _ 3 hi (by omega) hl (by omega) (by omega) (zmk (by omega))) (zwc (no:=no) (by omega)) (zAW (no:=no) (by omega))
theorem zRs{x:Node}(h: ∀no r,zgi no x->9<=(tkN x).lvl->zce no r<=8->zku (T c ((tkN x).ex no)++r) (x,r))(hl:9<=(tkN x).lvl):
  ∀no r v least,zgi no x->3<=least->least<=(tkN x).lvl->zce no r<=8->zce no r<=(tkN x).lvl->zpP no least x r v->BINARY no least (T c ((tkN x).ex no)++r) v:=λno r v least hi _ _ hf _ hb=>
 zrf (h no r hi hl hf) hb
theorem zWm{x:Node}(hg: ∀no r,Beg (decide (11<=(tkN x).lvl)) (T c ((tkN x).ex no)++r))(h: ∀no r v calls,zgi no x->(12<=(tkN x).lvl\/(11<=(tkN x).lvl/\calls=true))->zjm calls x r v->MM calls (T c ((tkN x).ex no)++r) v)(hl:11<=(tkN x).lvl):
  ∀no r,zgi no x->9<=(tkN x).lvl->zce no r<=8->zku (T c ((tkN x).ex no)++r) (x,r):=λno r hi _ hf=>by
 have hb:=hg no r;rw[show decide (11<=(tkN x).lvl)=true by simpa using hl]at hb;exact zsw hb (h no r _ true hi (.inr ⟨hl,rfl⟩) (zl8 (no:=no) (by omega))) hf
theorem RT.zHJ{x:Node}(hl:11<=(tkN x).lvl)(beg: ∀no r,Beg true (T c ((tkN x).ex no)++r))(lab: ∀no r,tIs [58] r=false->zaa (T c ((tkN x).ex no)++r)=1->tIs [58] (T c ((tkN x).ex no)++r).tail=false)
  (mm: ∀no r v calls,zgi no x->(12<=(tkN x).lvl\/(11<=(tkN x).lvl/\calls=true))->zjm calls x r v->MM calls (T c ((tkN x).ex no)++r) v):RT c x:=
 have hg: ∀no r,Beg (decide (11<=(tkN x).lvl)) (T c ((tkN x).ex no)++r):=by rw[show decide (11<=(tkN x).lvl)=true by simpa using hl];exact beg
 have un:=zWm hg mm hl;have bin:=zRs un (by omega);have asg:=zIf bin (by omega)
 ⟨hg,lab,mm,un,bin,asg,zDx asg (by omega)⟩
theorem RT.of9{x:Node}(hl:(tkN x).lvl=9\/(tkN x).lvl=10)(beg: ∀no r,Beg false (T c ((tkN x).ex no)++r))(lab: ∀no r,tIs [58] r=false->zaa (T c ((tkN x).ex no)++r)=1->tIs [58] (T c ((tkN x).ex no)++r).tail=false)
  (un: ∀no r,zgi no x->zce no r<=8->zku (T c ((tkN x).ex no)++r) (x,r)):RT c x:=
 have hg: ∀no r,Beg (decide (11<=(tkN x).lvl)) (T c ((tkN x).ex no)++r):=by rw[show decide (11<=(tkN x).lvl)=false by simp;omega];exact beg
 have un': ∀no r,zgi no x->9<=(tkN x).lvl->zce no r<=8->zku (T c ((tkN x).ex no)++r) (x,r):=λno r hi _ hf=>un no r hi hf
 have bin:=zRs un' (by omega);have asg:=zIf bin (by omega)
 ⟨hg,lab,λ_ _ _ _ _ h _=>by omega,un',bin,asg,zDx asg (by omega)⟩
theorem RT.of3{x:Node}(hl:3<=(tkN x).lvl/\(tkN x).lvl<=8)(beg: ∀no r,Beg false (T c ((tkN x).ex no)++r))(lab: ∀no r,tIs [58] r=false->zaa (T c ((tkN x).ex no)++r)=1->tIs [58] (T c ((tkN x).ex no)++r).tail=false)
  (bin: ∀no r v least,zgi no x->3<=least->least<=(tkN x).lvl->zce no r<=(tkN x).lvl->zpP no least x r v->BINARY no least (T c ((tkN x).ex no)++r) v):RT c x:=
 have hg: ∀no r,Beg (decide (11<=(tkN x).lvl)) (T c ((tkN x).ex no)++r):=by rw[show decide (11<=(tkN x).lvl)=false by simp;omega];exact beg
 have bin': ∀no r v least,zgi no x->3<=least->least<=(tkN x).lvl->zce no r<=8->zce no r<=(tkN x).lvl->zpP no least x r v->BINARY no least (T c ((tkN x).ex no)++r) v:=λno r v least hi h1 h2 _ h3 hb=>bin no r v least hi h1 h2 h3 hb
 have asg:=zIf bin' (by omega)
 ⟨hg,lab,λ_ _ _ _ _ h _=>by omega,λ_ _ _ h _=>by omega,bin',asg,zDx asg (by omega)⟩
theorem RT.of1{x:Node}(hl:(tkN x).lvl=1\/(tkN x).lvl=2)(beg: ∀no r,Beg false (T c ((tkN x).ex no)++r))(lab: ∀no r,tIs [58] r=false->zaa (T c ((tkN x).ex no)++r)=1->tIs [58] (T c ((tkN x).ex no)++r).tail=false)
  (asg: ∀no r,zgi no x->zce no r<=0->ASSIGN no (T c ((tkN x).ex no)++r) (x,r)):RT c x:=
 have hg: ∀no r,Beg (decide (11<=(tkN x).lvl)) (T c ((tkN x).ex no)++r):=by rw[show decide (11<=(tkN x).lvl)=false by simp;omega];exact beg
 have asg': ∀no r,zgi no x->1<=(tkN x).lvl->zce no r<=0->ASSIGN no (T c ((tkN x).ex no)++r) (x,r):=λno r hi _ hf=>asg no r hi hf
 ⟨hg,lab,λ_ _ _ _ _ h _=>by omega,λ_ _ _ h _=>by omega,λ_ _ _ _ _ h1 h2=>by omega,asg',zDx asg' (by omega)⟩
theorem RT.of0{x:Node}(hl:(tkN x).lvl=0)(beg: ∀no r,Beg false (T c ((tkN x).ex no)++r))(lab: ∀no r,tIs [58] r=false->zaa (T c ((tkN x).ex no)++r)=1->tIs [58] (T c ((tkN x).ex no)++r).tail=false)
  (exp: ∀no r v,zgi no x->zce no r<=0->COMMA no x r v->EXPR no (T c ((tkN x).ex no)++r) v):RT c x:=
 have hg: ∀no r,Beg (decide (11<=(tkN x).lvl)) (T c ((tkN x).ex no)++r):=by rw[show decide (11<=(tkN x).lvl)=false by simp;omega];exact beg
 ⟨hg,lab,λ_ _ _ _ _ h _=>by omega,λ_ _ _ h _=>by omega,λ_ _ _ _ _ h1 h2=>by omega,λ_ _ _ h _=>by omega,exp⟩
theorem at_in{x:Node}{least:Int}{no:Bool}(h: ¬(decide ((tkN x).lvl<least)||((no&&((tkN x).x.Kind==17))&&((tkN x).x.Name==([105,110]:Str))))=true):least<=(tkN x).lvl/\zgi no x:=by
 rw[zdF]at h;simp only[yQ,yT,not_or,qz4,beq_iff_eq]at h;exact⟨by omega,λe=>h.2 ⟨⟨e.1,e.2.1⟩,e.2.2⟩⟩
section
variable (C:Cls c)
include C
theorem zao{w:Str}(h:zgk.contains w=true):zcN (c w) w:=C.op w (by simpa using h)
theorem zjd{x:Node}(R:RT c x)(r:zB):MADE (T c ([40]::((tkN x).ex false++[[41]]))++r) (x,r):=by
 have o1:=zao C (w:=[40]) (by decide);have o2:=zao C (w:=[41]) (by decide);rw[zbk,zbu,yI,yE];refine zut (by rw[o1.is];decide) ?_
 have hx:=R.exp false (c [41]::r) (x,c [41]::r) (λh=>by cases h.1) (by rw[o2.fol];decide) (ztx (by rw[o2.fol];decide))
 exact zKv o1 hx (by rw[o2.is];decide)
theorem zoZ(b:Bool)(l:List Str)(r:zB):Beg b (T c ([40]::l)++r):=
 ⟨c [40],T c l++r,rfl,C.fresh _,.inr (.inr (.inr ⟨[40],zao C (by decide),by decide,λ_=>by decide⟩))⟩
theorem zkT{x:Node}(R:RT c x)(least:Int)(no:Bool)(r:zB):Beg (decide (11<=least)) (T c (atT (tkN x) least no)++r):=by
 unfold atT;split
 ·exact zoZ C _ _ _
 ·rename_i h;have hb:=R.beg no r;simp only[yQ,yT,not_or]at h;cases hl:decide (11<=least)with
  |false=>exact hb.loose
  |true=>
   have:11<=least:=by simpa using hl
   rw[show decide (11<=(tkN x).lvl)=true by simp;omega]at hb
   exact hb
theorem zOf{x:Node}(R:RT c x)(least:Int)(no:Bool)(r:zB)(h1:tIs [58] r=false)(h2:zaa (T c (atT (tkN x) least no)++r)=1):tIs [58] (T c (atT (tkN x) least no)++r).tail=false:=by
 unfold atT at h2⊢;split at h2
 ·exfalso;have o1:=zao C (w:=[40]) (by decide);have:=(o1.kinds (T c ((tkN x).ex false++[[41]])++r)).1;rw[yH]at this;exact this h2
 ·rename_i h;rw[yK h];exact R.lab no r h1 h2
theorem zMa{x:Node}(R:RT c x)(least:Int)(no calls:Bool)(r:zB)(v:Node×zB)(hl:least=12\/(least=11/\calls=true))(h:zjm calls x r v):MM calls (T c (atT (tkN x) least no)++r) v:=by
 unfold atT;split
 ·exact⟨x,r,zjd C R r,h⟩
 ·rename_i hc;obtain⟨h1,h2⟩:=at_in hc;exact R.mm no r v calls h2 (by rcases hl with rfl| ⟨rfl,hcc⟩;exact .inl h1;exact .inr ⟨h1,hcc⟩) h
theorem zRu{x:Node}(R:RT c x)(no:Bool)(r:zB)(hf:zce no r<=8)(least:Int)(hl:9<=least):zku (T c (atT (tkN x) least no)++r) (x,r):=by
 unfold atT;split
 ·exact zsw (zoZ C true _ _) ⟨x,r,zjd C R r,zl8 (no:=no) (by omega)⟩ hf
 ·rename_i hc;obtain⟨h1,h2⟩:=at_in hc;exact R.un no r h2 (by omega) hf
theorem zDI{x:Node}(R:RT c x)(no:Bool)(r:zB)(v:Node×zB)(L least:Int)(h1:3<=least)(h2:least<=L)(hf:zce no r<=8)(hf2:zce no r<=L)(hb:zpP no least x r v):BINARY no least (T c (atT (tkN x) L no)++r) v:=by
 unfold atT;split
 ·exact zrf (zsw (zoZ C true _ _) ⟨x,r,zjd C R r,zl8 (no:=no) (by omega)⟩ hf) hb
 ·rename_i hc;obtain⟨h3,h4⟩:=at_in hc;exact R.bin no r v least h4 h1 (by omega) hf (by omega) hb
theorem zny{x:Node}(R:RT c x)(no:Bool)(r:zB)(hf:zce no r<=0)(L:Int)(hL:1<=L):ASSIGN no (T c (atT (tkN x) L no)++r) (x,r):=by
 unfold atT;split
 ·exact zll (zrf (zsw (no:=no) (zoZ C true _ _) ⟨x,r,zjd C R r,zl8 (no:=no) (by omega)⟩ (by omega)) (zmk (by omega))) (zwc (no:=no) (by omega)) (zAW (no:=no) (by omega))
 ·rename_i hc;obtain⟨h3,h4⟩:=at_in hc;exact R.asg no r h4 (by omega) hf
theorem zIO{x:Node}(R:RT c x)(no:Bool)(r:zB)(v:Node×zB)(hf:zce no r<=0)(hc:COMMA no x r v)(L:Int):EXPR no (T c (atT (tkN x) L no)++r) v:=by
 unfold atT;split
 ·exact zJk (zll (zrf (zsw (no:=no) (zoZ C true _ _) ⟨x,r,zjd C R r,zl8 (no:=no) (by omega)⟩ (by omega)) (zmk (by omega))) (zwc (no:=no) (by omega)) (zAW (no:=no) (by omega))) hc
 ·rename_i hc';obtain⟨h3,h4⟩:=at_in hc';exact R.exp no r v h4 hf hc
def zVU(w:Str):Bool:=[[41],[93],[125],[58],[59]].contains w
theorem at_end{x:Node}(R:RT c x)(no:Bool)(w:Str)(r:zB)(hw:zVU w=true)(ho:zgk.contains w=true)(L:Int):EXPR no (T c (atT (tkN x) L no)++(c w::r)) (x,c w::r):=by
 have o:=zao C (w:=w) ho
 have hf:zfn no w= -1:=by
  have:w∈([[41],[93],[125],[58],[59]]:List Str):=by simpa [zVU]using hw
  simp only[yP,List.not_mem_nil,or_false]at this;rcases this with rfl|rfl|rfl|rfl|rfl<;>cases no<;>decide
 exact zIO C R no _ _ (by rw[o.fol,hf];decide) (ztx (by rw[o.fol,hf];decide)) L
end
end
theorem zmh{x:Node}(ho:zX x=true):(x.Kind≠2->x.Kind≠9->x.Text=[])/\(x.Kind≠10->x.Kind≠39->x.Names=[])/\(x.Kind≠1->x.Kind≠6->x.Kind≠16->x.Num=0):=by
 simp only[zX,qz4,yQ,beq_iff_eq,List.isEmpty_iff]at ho;refine⟨λh1 h2=>?_,λh1 h2=>?_,λh1 h2 h3=>?_⟩
 ·rcases ho.1.2 with h|h|h
  ·exact h
  ·exact absurd h h1
  ·exact absurd h h2
 ·rcases ho.2.2.2.1 with h|h|h
  ·exact h
  ·exact absurd h h1
  ·exact absurd h h2
 ·have:=ho.2.2.1;unfold zaB at this;rw[yK (by simpa using h1),yK (by simp[h2,h3])]at this;simpa using this
def zDA:List Int:=[3,10,11,15,16,17,18,20,23,31,32,35,38,39]
theorem zeU{x:Node}(ho:zX x=true)(h:zDA.contains x.Kind=false):x.Name=[]:=by
 have h1:=(zaT ho).1;have h:x.Kind∉zDA:=by simpa using h
 simp only[zDA,yP,List.not_mem_nil,or_false,not_or]at h;unfold zI at h1;rw[yK (by simp;omega),yK (by simp;omega),yK (by simp;omega),yK (by simp;omega),yK (by simp;omega),yK (by simp;omega),yK (by simp;omega),yK (by simp;omega),yK (by simp;omega)]at h1
 simpa using h1
theorem zlY{x:Node}{k:Int}(h:x.Kind=k)(ho:zX x=true)(hk:([1,2,6,9,10,16,39]:List Int).contains k=false):x=ndN k x.Name x.L:=by
 obtain⟨g1,g2,g3⟩:=zmh ho;have hk:k∉([1,2,6,9,10,16,39]:List Int):=by simpa using hk
 simp only[yP,List.not_mem_nil,or_false,not_or]at hk;have h1:=g1 (by omega) (by omega);have h2:=g2 (by omega) (by omega);have h3:=g3 (by omega) (by omega) (by omega);cases x;simp only at h h1 h2 h3;subst h;subst h1;subst h2;subst h3;rfl
theorem zej{x:Node}{k:Int}(h:x.Kind=k)(ho:zX x=true)(hk:([1,2,6,9,10,16,39]:List Int).contains k=false)(hn:zDA.contains k=false):x=nd k x.L:=by
 have e:=zlY h ho hk;have n:=zeU ho (by rw[h];exact hn)
 rw[n]at e;exact e
theorem zXv{x:Node}(h:x.Kind=1)(ho:zX x=true)(hl:x.L=[]):x=⟨1,[],x.Num,[],[],[]⟩:=by
 obtain⟨g1,g2,g3⟩:=zmh ho;have h1:=g1 (by omega) (by omega);have h2:=g2 (by omega) (by omega);have n:=zeU ho (by rw[h];decide)
 cases x;simp only at h h1 h2 n hl;subst h;subst h1;subst h2;subst n;subst hl;rfl
theorem zXZ{x:Node}(h:x.Kind=2)(ho:zX x=true)(hl:x.L=[]):x=⟨2,[],0,x.Text,[],[]⟩:=by
 obtain⟨g1,g2,g3⟩:=zmh ho;have h2:=g2 (by omega) (by omega);have h3:=g3 (by omega) (by omega) (by omega);have n:=zeU ho (by rw[h];decide)
 cases x;simp only at h h2 h3 n hl;subst h;subst h2;subst h3;subst n;subst hl;rfl
theorem zXF{x:Node}(h:x.Kind=9)(ho:zX x=true):x=⟨9,[],0,x.Text,[],x.L⟩:=by
 obtain⟨g1,g2,g3⟩:=zmh ho;have h2:=g2 (by omega) (by omega);have h3:=g3 (by omega) (by omega) (by omega);have n:=zeU ho (by rw[h];decide)
 cases x;simp only at h h2 h3 n;subst h;subst h2;subst h3;subst n;rfl
theorem zXE{x:Node}(h:x.Kind=6)(ho:zX x=true)(hl:x.L=[]):x=⟨6,[],x.Num,[],[],[]⟩:=by
 obtain⟨g1,g2,g3⟩:=zmh ho;have h1:=g1 (by omega) (by omega);have h2:=g2 (by omega) (by omega);have n:=zeU ho (by rw[h];decide)
 cases x;simp only at h h1 h2 n hl;subst h;subst h1;subst h2;subst n;subst hl;rfl
theorem zWL{x:Node}(h:x.Kind=16)(ho:zX x=true):x=⟨16,x.Name,x.Num,[],[],x.L⟩:=by
 obtain⟨g1,g2,g3⟩:=zmh ho;have h1:=g1 (by omega) (by omega);have h2:=g2 (by omega) (by omega);cases x;simp only at h h1 h2;subst h;subst h1;subst h2;rfl
theorem zSF{x:Node}{k:Int}(h:x.Kind=k)(hk:k=10\/k=39)(ho:zX x=true):x=⟨k,x.Name,0,[],x.Names,x.L⟩:=by
 obtain⟨g1,g2,g3⟩:=zmh ho;have h1:=g1 (by omega) (by omega);have h3:=g3 (by omega) (by omega) (by omega);cases x;simp only at h h1 h3;subst h;subst h1;subst h3;rfl
theorem zoG{x:Node}(h:x.Kind=1\/x.Kind=2\/x.Kind=3\/x.Kind=4\/x.Kind=5\/x.Kind=6\/x.Kind=7\/x.Kind=8\/x.Kind=10):(tkN x).lvl=13:=by
 rw[zjK];unfold zjq;rcases h with h|h|h|h|h|h|h|h|h<;>rw[h]<;>rfl
theorem zRB{x a:Node}{l:List Node}(h:x.Kind=11\/x.Kind=12)(hL:x.L=a::l):(tkN x).lvl=min (max (tkN a).lvl 11) 12:=by
 rw[zjK];unfold zjq;rw[hL];rcases h with h|h<;>rw[h]<;>simp only[tkL]<;>rfl
theorem zVp{x:Node}(h:x.Kind=13):(tkN x).lvl=11:=by rw[zjK];unfold zjq;rw[h];rfl
theorem zVi{x:Node}(h:x.Kind=14):(tkN x).lvl=12:=by rw[zjK];unfold zjq;rw[h];rfl
theorem zV1{x:Node}(h:x.Kind=15):(tkN x).lvl=9:=by rw[zjK];unfold zjq;rw[h];rfl
theorem zVN{x:Node}(h:x.Kind=16):(tkN x).lvl=10 -x.Num:=by rw[zjK];unfold zjq;rw[h];rfl
theorem zU1{x:Node}(h:x.Kind=19):(tkN x).lvl=2:=by rw[zjK];unfold zjq;rw[h];rfl
theorem zV5{x:Node}(h:x.Kind=20):(tkN x).lvl=1:=by rw[zjK];unfold zjq;rw[h];rfl
theorem zVZ{x:Node}(h:x.Kind=21):(tkN x).lvl=0:=by rw[zjK];unfold zjq;rw[h];rfl
theorem zPB{x:Node}(h:x.Kind=17)(ho:zX x=true)(no:Bool)(hi:zgi no x):lvS no x.Name=((tkN x).lvl,17)/\x.Name∈zgk:=by
 have hn:x.Name∈zoU:=by simpa [zI,h]using(zaT ho).1
 have hv:(tkN x).lvl=if zcd op5 x.Name=true then 5 else if zcd op7 x.Name=true then 7 else if zcd op8 x.Name=true then 8 else 6:=by rw[zjK];unfold zjq;rw[h];rfl
 rw[hv];unfold zgi at hi;rw[h]at hi;generalize x.Name=s at hn hi;simp only[zoU,yP,List.not_mem_nil,or_false]at hn;rcases hn with rfl|rfl|rfl|rfl|rfl|rfl|rfl|rfl|rfl|rfl|rfl|rfl|rfl|rfl|rfl
 case inr.inr.inr.inr.inr.inr.inr.inr.inr.inr.inr.inr.inr.inl=>
  cases no
  ·exact⟨by decide,by decide⟩
  ·exact absurd ⟨rfl,rfl,rfl⟩ hi
 all_goals exact⟨by cases no<;>decide,by decide⟩
theorem zPF{x:Node}(h:x.Kind=18)(ho:zX x=true)(no:Bool):lvS no x.Name=((tkN x).lvl,18)/\x.Name∈zgk:=by
 rw[zN3 h];rcases zN5 h ho with e|e<;>rw[e]
 ·exact⟨by cases no<;>decide,by decide⟩
 ·exact⟨by cases no<;>decide,by decide⟩
theorem zP0{s:Str}(h:s∈zsF):zgk.contains s=true/\zr1.contains s=true/\zsF.contains s=true:=by
 simp only[zsF,yP,List.not_mem_nil,or_false]at h;rcases h with rfl|rfl|rfl|rfl|rfl|rfl<;>decide
theorem zQW{s:Str}(h:s∈zgC):zgk.contains s=true/\zr1.contains s=true/\zsF.contains s=false/\zgC.contains s=true/\(∀no,zfn no s=10)/\(s==([58]:Str))=false:=by
 simp only[zgC,yP,List.not_mem_nil,or_false]at h;rcases h with rfl|rfl<;>decide
theorem zQJ{s:Str}(h:s∈zrW):zgk.contains s=true/\zrW.contains s=true/\(s==([63]:Str))=false/\(∀no,zfn no s=1)/\(s==([58]:Str))=false:=by
 simp only[zrW,yP,List.not_mem_nil,or_false]at h;rcases h with rfl|rfl|rfl|rfl|rfl|rfl<;>decide
section
variable {c:Str->Tok}
theorem zAH{x:Node}(hl:(tkN x).lvl=13)(beg: ∀no r,Beg true (T c ((tkN x).ex no)++r))(lab: ∀no r,tIs [58] r=false->zaa (T c ((tkN x).ex no)++r)=1->tIs [58] (T c ((tkN x).ex no)++r).tail=false)
  (hp: ∀no r,zp5 (T c ((tkN x).ex no)++r) (x,r)) (hn: ∀no r,tIs [110,101,119] (T c ((tkN x).ex no)++r)=false):RT c x:=
 RT.zHJ (by omega) beg lab λno r v calls _ _ h=>⟨x,r,zut (hn no r) (hp no r),h⟩
theorem zDE{x:Node}{w:Str}(hl:(tkN x).lvl=13)(he: ∀no,(tkN x).ex no=[w])(hf:(c w).fresh=false)(hk:(c w).kind=1\/(c w).kind=3\/(c w).kind=4\/∃v,zcN (c w) v/\v∈zr1/\opB v=false/\v≠[110,101,119])
  (hp: ∀r,zp5 (c w::r) (x,r)):RT c x:=by
 refine zAH hl (λno r=>?_) (λno r h1 h2=>?_) (λno r=>?_) (λno r=>?_)
 ·rw[he];refine⟨c w,r,rfl,hf,?_⟩;rcases hk with h|h|h| ⟨v,h1,h2,h3,_⟩
  ·exact .inl h
  ·exact .inr (.inl h)
  ·exact .inr (.inr (.inl h))
  ·exact .inr (.inr (.inr ⟨v,h1,h2,λ_=>h3⟩))
 ·rw[he];exact h1
 ·rw[he];exact hp r
 ·rw[he];show(opK (c w)&&((c w).text==[110,101,119]))=false;rcases hk with h|h|h| ⟨v,h1,h2,h3,h4⟩
  ·rw[zdH (.inl h)];rfl
  ·rw[zdH (.inr (.inl h))];rfl
  ·rw[zdH (.inr (.inr h))];rfl
  ·rw[h1.op,h1.text,Bool.true_and,yH];exact h4
variable (C:Cls c)
include C
theorem zAJ{x:Node}{w:Str}(hl:(tkN x).lvl=13)(he: ∀no,(tkN x).ex no=[w])(ho:zgk.contains w=true)(hb:zr1.contains w=true)(h3:opB w=false)(h4:w≠[110,101,119])(hp: ∀r,zp5 (c w::r) (x,r)):RT c x:=
 zDE hl he (C.fresh _) (.inr (.inr (.inr ⟨w,zao C ho,by simpa using hb,h3,h4⟩))) hp
theorem zXO{x:Node}(h:x.Kind=1)(ho:zX x=true)(hL:x.L=[]):RT c x:=by
 have hn:0<=x.Num/\x.Num<=9007199254740991:=by simpa [zaB,h]using(zaT ho).2
 obtain⟨h1,h2⟩:=C.num x.Num hn.1 hn.2;refine zDE (zoG (by omega)) (λno=>zMg h no) (C.fresh _) (.inr (.inl h1)) λr=>?_
 have:=zW6 (a:=c (Lib.itoa x.Num)) (r:=r) h1;rw[h2,<-zXv h ho hL]at this;exact this
theorem zXu{x:Node}(h:x.Kind=2)(ho:zX x=true)(hL:x.L=[])(hb:x.Text.length<=100000000):RT c x:=by
 obtain⟨h1,h2⟩:=C.str x.Text (zrL ho) hb;refine zDE (zoG (by omega)) (λno=>zLW h no) (C.fresh _) (.inr (.inr (.inl h1))) λr=>?_
 have:=zWX (a:=c (zdr x.Text)) (r:=r) h1;rw[h2,<-zXZ h ho hL]at this;exact this
theorem zXz{x:Node}(h:x.Kind=3)(ho:zX x=true)(hL:x.L=[]):RT c x:=by
 have hn:zaP x.Name=true:=by simpa [zI,h]using(zaT ho).1
 obtain⟨h1,h2⟩:=C.name x.Name hn;refine zDE (zoG (by omega)) (λno=>zLh h no) (C.fresh _) (.inl h1) λr=>?_
 have:=zUK (a:=c x.Name) (r:=r) h1;have e:=zlY h ho (by decide);rw[hL]at e;rw[h2,<-e]at this;exact this
theorem zXJ{x:Node}(h:x.Kind=4)(ho:zX x=true)(hL:x.L=[]):RT c x:=by
 have e:=zej h ho (by decide) (by decide);rw[hL]at e;exact zAJ C (zoG (by omega)) (λno=>zMD h no) (by decide) (by decide) (by decide) (by decide) λr=>zCy (zao C (by decide)) (.inl ⟨rfl,e⟩)
theorem zXD{x:Node}(h:x.Kind=5)(ho:zX x=true)(hL:x.L=[]):RT c x:=by
 have e:=zej h ho (by decide) (by decide);rw[hL]at e;exact zAJ C (zoG (by omega)) (λno=>zL9 h no) (by decide) (by decide) (by decide) (by decide) λr=>zCy (zao C (by decide)) (.inr (.inl ⟨rfl,e⟩))
theorem zXy{x:Node}(h:x.Kind=6)(ho:zX x=true)(hL:x.L=[]):RT c x:=by
 have e:=zXE h ho hL;have hn:x.Num=0\/x.Num=1:=by simpa [zaB,h]using(zaT ho).2
 rcases hn with n|n
 ·rw[n]at e;exact zAJ C (w:=[102,97,108,115,101]) (zoG (by omega)) (λno=>by rw[zHt h no,n];decide) (by decide) (by decide) (by decide) (by decide) λr=>zCy (zao C (by decide)) (.inr (.inr (.inl ⟨rfl,e⟩)))
 ·rw[n]at e;exact zAJ C (w:=[116,114,117,101]) (zoG (by omega)) (λno=>by rw[zHt h no,n];decide) (by decide) (by decide) (by decide) (by decide) λr=>zCy (zao C (by decide)) (.inr (.inr (.inr ⟨rfl,e⟩)))
theorem zvv{w:Str}(b:Bool)(l:List Str)(r:zB)(ho:zgk.contains w=true)(hb:zr1.contains w=true)(h3:b=true->opB w=false):Beg b (T c (w::l)++r):=
 ⟨c w,T c l++r,rfl,C.fresh _,.inr (.inr (.inr ⟨w,zao C ho,by simpa using hb,h3⟩))⟩
theorem zvy{w:Str}(l:List Str)(r:zB)(ho:zgk.contains w=true)(h:zaa (T c (w::l)++r)=1):tIs [58] (T c (w::l)++r).tail=false:=by
 have:=((zao C ho).kinds (T c l++r)).1;rw[yH]at this;exact absurd h this
theorem zAt(ls:List Node)(hR: ∀k∈ls,RT c k/\k.Kind≠9)(w:Str)(last:Bool)(hw:w=[41]\/w=[93])(r:zB):zqd w last (T c (commas (zaj false) (tkL ls))++c w::r) (ls,r):=by
 have how:zgk.contains w=true:=by rcases hw with rfl|rfl<;>decide
 have hbw:zr1.contains w=false:=by rcases hw with rfl|rfl<;>decide
 have hwc:(w==([44]:Str))=false/\(([44]:Str)==w)=false:=by rcases hw with rfl|rfl<;>decide
 have o:=zao C how;have oc:=zao C (w:=[44]) (by decide)
 have hit: ∀k∈ls,zaj false (tkN k)=atT (tkN k) 1 false:=λk hk=>by
  unfold zaj;rw[zdF,yK (by simpa using(hR k hk).2)]
 have key: ∀(l:List Node),(∀k∈l,k∈ls)->∀y,y∈ls->zqd w last (T c (atT (tkN y) 1 false++zca (zaj false) (tkL l))++c w::r) (y::l,r):=by
  intro l;induction l with
  |nil=>
   intro _ y hy;have e:zca (zaj false) (tkL [])=[]:=by simp[zca,tkL]
   rw[e,List.append_nil];have hb:=zkT C (hR y hy).1 1 false (c w::r);exact zJu (t1:=c w::r) (hb.is hbw) (zny C (hR y hy).1 false _ (by rw[o.fol];rcases hw with rfl|rfl<;>decide) 1 (by decide)) (by rw[o.is];simp)
  |cons z l ih=>
   intro hl y hy;have hz:=hl z qz7;have e:zca (zaj false) (tkL (z::l))=[44]::(atT (tkN z) 1 false++zca (zaj false) (tkL l)):=by simp[zca,tkL,hit z hz]
   rw[e,zbu,yE,zbk,yI];have hb:=zkT C (hR y hy).1 1 false (c [44]::(T c (atT (tkN z) 1 false++zca (zaj false) (tkL l))++c w::r))
   have hbz:Beg (decide ((11:Int)<=1)) (T c (atT (tkN z) 1 false++zca (zaj false) (tkL l))++c w::r):=by
    rw[zbu,yE];exact zkT C (hR z hz).1 1 false _
   exact zIo (hb.is hbw) (zny C (hR y hy).1 false _ (by rw[oc.fol];decide) 1 (by decide)) (by rw[oc.is];exact hwc.2) (by rw[oc.is];decide) (hbz.is hbw) (ih (λk hk=>hl k (qz8 _ hk)) z hz)
 rcases ls with _| ⟨y,l⟩
 ·have e:T c (commas (zaj false) (tkL []))++c w::r=c w::r:=by simp[tkL,commas,T]
  rw[e];exact zKg (by rw[o.is];simp)
 ·have e:commas (zaj false) (tkL (y::l))=atT (tkN y) 1 false++zca (zaj false) (tkL l):=by simp[tkL,commas,zca,hit y qz7]
  rw[e];exact key l (λk hk=>qz8 _ hk) y qz7
structure zDL (c:Str->Tok) (y:Node) (a:Node):Prop where
 eq:y=⟨9,[],0,y.Text,[],[a]⟩
 even:zaL y.Text=true
 len:y.Text.length<=100000000
 rt:RT c a
theorem zMR(ls:List Node)(hR: ∀k∈ls,∃a,zDL c k a)(r:zB):zwQ (T c (commas (zaj false) (tkL ls))++c [125]::r) (ls,r):=by
 have o:=zao C (w:=[125]) (by decide);have oc:=zao C (w:=[44]) (by decide);have od:=zao C (w:=[58]) (by decide)
 have hit: ∀k a,zDL c k a->zaj false (tkN k)=zdr k.Text::[58]::atT (tkN a) 1 false:=λk a hk=>by
  unfold zaj;rw[zdF,zjE];have e:=hk.eq;have e1:k.Kind=9:=by rw[e]
  have e2:k.L=[a]:=by rw[e]
  rw[e1,e2,tk0];rfl
 have key: ∀(l:List Node),(∀k∈l,k∈ls)->∀y,y∈ls->zwQ (T c (zaj false (tkN y)++zca (zaj false) (tkL l))++c [125]::r) (y::l,r):=by
  intro l;induction l with
  |nil=>
   intro _ y hy;obtain⟨a,P⟩:=hR y hy;obtain⟨k4,kt⟩:=C.str y.Text P.even P.len;have e:zca (zaj false) (tkL [])=[]:=by simp[zca,tkL]
   rw[e,List.append_nil,hit y a P]
   have:=zJ2 (t:=T c (zdr y.Text::[58]::atT (tkN a) 1 false)++c [125]::r) (x:=a) (t1:=c [125]::r)
    (by show(opK (c (zdr y.Text))&&_)=false;rw[zdH (.inr (.inr k4))];rfl) k4 (by show tIs [58] (c [58]::_)=true;rw[od.is];decide)
    (zny C P.rt false _ (by rw[o.fol];decide) 1 (by decide)) (by rw[o.is];decide)
   have e2:tText (T c (zdr y.Text::[58]::atT (tkN a) 1 false)++c [125]::r)=y.Text:=kt;rw[e2,<-P.eq]at this;exact this
  |cons z l ih=>
   intro hl y hy;obtain⟨a,P⟩:=hR y hy;obtain⟨k4,kt⟩:=C.str y.Text P.even P.len;have hz:=hl z qz7;have e:zca (zaj false) (tkL (z::l))=[44]::(zaj false (tkN z)++zca (zaj false) (tkL l)):=by simp[zca,tkL]
   rw[e,hit y a P,zbu,yE,zbk,yI]
   have:=zIu (t:=T c (zdr y.Text::[58]::atT (tkN a) 1 false)++c [44]::(T c (zaj false (tkN z)++zca (zaj false) (tkL l))++c [125]::r)) (x:=a) (t1:=c [44]::(T c (zaj false (tkN z)++zca (zaj false) (tkL l))++c [125]::r))
    (by show(opK (c (zdr y.Text))&&_)=false;rw[zdH (.inr (.inr k4))];rfl) k4 (by show tIs [58] (c [58]::_)=true;rw[od.is];decide)
    (zny C P.rt false _ (by rw[oc.fol];decide) 1 (by decide)) (by rw[oc.is];decide) (by rw[oc.is];decide) (ih (λk hk=>hl k (qz8 _ hk)) z hz)
   have e2:tText (T c (zdr y.Text::[58]::atT (tkN a) 1 false)++c [44]::(T c (zaj false (tkN z)++zca (zaj false) (tkL l))++c [125]::r))=y.Text:=kt;rw[e2,<-P.eq]at this;exact this
 rcases ls with _| ⟨y,l⟩
 ·have e:T c (commas (zaj false) (tkL []))++c [125]::r=c [125]::r:=by simp[tkL,commas,T]
  rw[e];exact zJR (by rw[o.is];decide)
 ·have e:commas (zaj false) (tkL (y::l))=zaj false (tkN y)++zca (zaj false) (tkL l):=by simp[tkL,commas,zca]
  rw[e];exact key l (λk hk=>qz8 _ hk) y qz7
theorem zXG{x:Node}(h:x.Kind=7)(ho:zX x=true)(hR: ∀k∈x.L,RT c k/\k.Kind≠9):RT c x:=by
 have o:=zao C (w:=[91]) (by decide);refine zAH (zoG (by omega)) (λno r=>?_) (λno r h1 h2=>?_) (λno r=>?_) (λno r=>?_)
 ·rw[zB6 h];exact zvv C _ _ _ (by decide) (by decide) (λ_=>by decide)
 ·rw[zB6 h]at h2⊢;exact zvy C _ _ (by decide) h2
 ·rw[zB6 h,zbk,zbu,yI,yE];have:=zUu o (zAt C x.L hR [93] true (.inr rfl) r);rw[<-zej h ho (by decide) (by decide)]at this;exact this
 ·rw[zB6 h,zbk,yI,o.is];decide
theorem zXC{x:Node}(h:x.Kind=8)(ho:zX x=true)(hR: ∀k∈x.L,∃a,zDL c k a):RT c x:=by
 have o:=zao C (w:=[123]) (by decide);refine zAH (zoG (by omega)) (λno r=>?_) (λno r h1 h2=>?_) (λno r=>?_) (λno r=>?_)
 ·rw[zBP h];exact zvv C _ _ _ (by decide) (by decide) (λ_=>by decide)
 ·rw[zBP h]at h2⊢;exact zvy C _ _ (by decide) h2
 ·rw[zBP h,zbk,zbu,yI,yE];have:=zQA o (zMR C x.L hR r);rw[<-zej h ho (by decide) (by decide)]at this;exact this
 ·rw[zBP h,zbk,yI,o.is];decide
theorem zWS{x:Node}(h:x.Kind=10)(hF: ∀r,FUNC 10 (T c (zgb x (tkL x.L)).tail++r) (x,r)):RT c x:=by
 have o:=zao C (w:=[102,117,110,99,116,105,111,110]) (by decide);have e:zgb x (tkL x.L)=[102,117,110,99,116,105,111,110]::(zgb x (tkL x.L)).tail:=rfl;refine zAH (zoG (by omega)) (λno r=>?_) (λno r h1 h2=>?_) (λno r=>?_) (λno r=>?_)
 ·rw[zxs h,e];exact zvv C _ _ _ (by decide) (by decide) (λ_=>by decide)
 ·rw[zxs h,e]at h2⊢;exact zvy C _ _ (by decide) h2
 ·rw[zxs h,e,zbk,yI];exact zVg o (hF r)
 ·rw[zxs h,e,zbk,yI,o.is];decide
theorem zpx{a:Node}(R:RT c a)(least:Int)(no:Bool)(l:List Str)(r:zB):Beg (decide (11<=least)) (T c (atT (tkN a) least no++l)++r):=by
 rw[zbu,yE];exact zkT C R least no _
theorem zo5{a:Node}(R:RT c a)(least:Int)(no:Bool)(w:Str)(l:List Str)(r:zB)(ho:zgk.contains w=true)(hw:(w==([58]:Str))=false)(h:zaa (T c (atT (tkN a) least no++(w::l))++r)=1):tIs [58] (T c (atT (tkN a) least no++(w::l))++r).tail=false:=by
 rw[zbu,yE,zbk,yI]at h⊢;exact zOf C R least no _ (by rw[(zao C ho).is];exact hw) h
theorem zW0{x a:Node}(h:x.Kind=11)(ho:zX x=true)(hL:x.L=[a])(R:RT c a):RT c x:=by
 have hl:=zRB (.inl h) hL;have o:=zao C (w:=[46]) (by decide);have hn:zdD x.Name=true:=by simpa [zI,h]using(zaT ho).1
 obtain⟨k1,k2⟩:=C.ident x.Name hn;have e:=zlY h ho (by decide);rw[hL]at e;have he: ∀no,(tkN x).ex no=atT (tkN a) 11 no++[[46],x.Name]:=λno=>by rw[zGD h,hL,tk0]
 refine RT.zHJ (by omega) (λno r=>?_) (λno r h1 h2=>?_) (λno r v calls hi hc hm=>?_)
 ·rw[he];exact zpx C R 11 no _ r
 ·rw[he]at h2⊢;exact zo5 C R 11 no _ _ r (by decide) (by decide) h2
 ·rw[he,zbu,yE]
  have hm2:zjm calls a (T c [[46],x.Name]++r) v:=by
   refine zMy (by show tIs [46] (c [46]::_)=true;rw[o.is];decide) ?_ ?_
   ·show((c x.Name).kind==1||(c x.Name).kind==2)=true;rcases k1 with k|k<;>rw[k]<;>rfl
   ·show zjm calls (ndN 11 (c x.Name).text [a]) r v;rw[k2,<-e];exact hm
  unfold atT;split
  ·exact⟨a,_,zjd C R _,hm2⟩
  ·rename_i hcc;obtain⟨h3,h4⟩:=at_in hcc;exact R.mm no _ v calls h4 (by rcases hc with hc| ⟨_,rfl⟩;exact .inl (by omega);exact .inr ⟨h3,rfl⟩) hm2
theorem zW2{x a b:Node}(h:x.Kind=12)(ho:zX x=true)(hL:x.L=[a,b])(R:RT c a)(Rb:RT c b):RT c x:=by
 have hl:=zRB (.inr h) hL;have o:=zao C (w:=[91]) (by decide);have o2:=zao C (w:=[93]) (by decide);have e:=zej h ho (by decide) (by decide);rw[hL]at e;have he: ∀no,(tkN x).ex no=atT (tkN a) 11 no++([91]::(atT (tkN b) 0 false++[[93]])):=λno=>by rw[zGU h,hL,tk0,tk1]
 refine RT.zHJ (by omega) (λno r=>?_) (λno r h1 h2=>?_) (λno r v calls hi hc hm=>?_)
 ·rw[he];exact zpx C R 11 no _ r
 ·rw[he]at h2⊢;exact zo5 C R 11 no _ _ r (by decide) (by decide) h2
 ·rw[he,zbu,yE]
  have hm2:zjm calls a (T c ([91]::(atT (tkN b) 0 false++[[93]]))++r) v:=by
   rw[zbk,zbu,yI,yE];refine zMH (y:=b) (t1:=c [93]::r) (by rw[o.is];decide) (by rw[o.is];decide) (at_end C Rb false [93] r (by decide) (by decide) 0) (by rw[o2.is];decide) ?_
   rw[<-e];exact hm
  unfold atT;split
  ·exact⟨a,_,zjd C R _,hm2⟩
  ·rename_i hcc;obtain⟨h3,h4⟩:=at_in hcc;exact R.mm no _ v calls h4 (by rcases hc with hc| ⟨_,rfl⟩;exact .inl (by omega);exact .inr ⟨h3,rfl⟩) hm2
theorem zWG{x a:Node}{l:List Node}(h:x.Kind=13)(ho:zX x=true)(hL:x.L=a::l)(R:RT c a)(hR: ∀k∈l,RT c k/\k.Kind≠9):RT c x:=by
 have hl:=zVp h;have o:=zao C (w:=[40]) (by decide);have e:=zej h ho (by decide) (by decide);rw[hL]at e;have he: ∀no,(tkN x).ex no=atT (tkN a) 11 no++([40]::(commas (zaj false) (tkL l)++[[41]])):=λno=>by rw[zGw h,hL,tk0,tkT]
 refine RT.zHJ (by omega) (λno r=>?_) (λno r h1 h2=>?_) (λno r v calls hi hc hm=>?_)
 ·rw[he];exact zpx C R 11 no _ r
 ·rw[he]at h2⊢;exact zo5 C R 11 no _ _ r (by decide) (by decide) h2
 ·obtain rfl:calls=true:=by
   rcases hc with hc|hc
   ·omega
   ·exact hc.2
  rw[he,zbu,yE];refine zMa C R 11 no true _ v (.inr ⟨rfl,rfl⟩) ?_;rw[zbk,zbu,yI,yE];refine zJE (by rw[o.is];decide) (by rw[o.is];decide) (by rw[o.is];decide) (zAt C l hR [41] false (.inl rfl) r) ?_
  rw[<-e];exact hm
theorem zWl{x a:Node}{l:List Node}(h:x.Kind=14)(ho:zX x=true)(hL:x.L=a::l)(R:RT c a)(hR: ∀k∈l,RT c k/\k.Kind≠9):RT c x:=by
 have hl:=zVi h;have o:=zao C (w:=[110,101,119]) (by decide);have o2:=zao C (w:=[40]) (by decide);have e:=zej h ho (by decide) (by decide);rw[hL]at e;have he: ∀no,(tkN x).ex no=[110,101,119]::(atT (tkN a) 12 no++([40]::(commas (zaj false) (tkL l)++[[41]]))):=λno=>by rw[zGN h,hL,tk0,tkT]
 refine RT.zHJ (by omega) (λno r=>?_) (λno r h1 h2=>?_) (λno r v calls hi hc hm=>?_)
 ·rw[he];exact zvv C _ _ _ (by decide) (by decide) (λ_=>by decide)
 ·rw[he]at h2⊢;exact zvy C _ _ (by decide) h2
 ·rw[he,zbk,yI,zbu,yE,zbk,yI,zbu,yE];obtain⟨y,t1,h1,h2⟩:=zMa C R 12 no false (c [40]::(T c (commas (zaj false) (tkL l))++(T c [[41]]++r))) _ (.inl rfl) (zC4 (by rw[o2.is];decide) (by rw[o2.is];decide) rfl)
  refine⟨x,r,?_,hm⟩;have:=zLy (t:=c [110,101,119]::(T c (atT (tkN a) 12 no)++c [40]::(T c (commas (zaj false) (tkL l))++(T c [[41]]++r)))) (by rw[o.is];decide) h1 h2 (by rw[o2.is];decide) (zAt C l hR [41] false (.inl rfl) r)
  rw[<-e]at this;exact this
theorem zXl{x a:Node}(h:x.Kind=15)(ho:zX x=true)(hL:x.L=[a])(R:RT c a):RT c x:=by
 have hn:x.Name∈zsF:=by simpa [zI,h]using(zaT ho).1
 obtain⟨n1,n2,n3⟩:=zP0 hn;have o:=zao C n1;have e:=zlY h ho (by decide);rw[hL]at e;have he: ∀no,(tkN x).ex no=x.Name::atT (tkN a) 9 no:=λno=>by rw[zGT h,hL,tk0]
 refine RT.of9 (.inl (zV1 h)) (λno r=>?_) (λno r h1 h2=>?_) (λno r hi hf=>?_)
 ·rw[he];exact zvv C _ _ _ n1 n2 (λe=>by cases e)
 ·rw[he]at h2⊢;exact zvy C _ _ n1 h2
 ·rw[he,zbk,yI];have:=zMz (t:=c x.Name::(T c (atT (tkN a) 9 no)++r)) (by rw[o.any];exact n3) (zRu C R no r hf 9 (by decide))
  have e2:tText (c x.Name::(T c (atT (tkN a) 9 no)++r))=x.Name:=o.text;rw[e2,<-e]at this;exact this
theorem zW7{x a:Node}(h:x.Kind=16)(ho:zX x=true)(hL:x.L=[a])(R:RT c a)(ht:zcF a.Kind=true):RT c x:=by
 have hn:x.Name∈zgC:=by simpa [zI,h]using(zaT ho).1
 obtain⟨n1,n2,n3,n4,n5,n6⟩:=zQW hn;have o:=zao C n1;have e:=zWL h ho;rw[hL]at e;have hv:=zVN h;have hN:x.Num=0\/x.Num=1:=by simpa [zaB,h]using(zaT ho).2
 rcases hN with N|N
 ·have he: ∀no,(tkN x).ex no=atT (tkN a) 11 no++[x.Name]:=λno=>by rw[zCD h,hL,tk0,N];rfl
  rw[N]at e;refine RT.of9 (by omega) (λno r=>?_) (λno r h1 h2=>?_) (λno r hi hf=>?_)
  ·rw[he];exact(zpx C R 11 no _ r).loose
  ·rw[he]at h2⊢;exact zo5 C R 11 no _ _ r n1 n6 h2
  ·rw[he,zbu,yE];have hb:Beg true (T c (atT (tkN a) 11 no)++(c x.Name::r)):=zkT C R 11 no _;obtain⟨y,t1,h1,h2⟩:=zMa C R 11 no true (c x.Name::r) _ (.inr ⟨rfl,rfl⟩) (zl8 (no:=no) (by rw[o.fol,n5];decide))
   have:=zJm hb.una.1 hb.una.2 h1 h2 (by rw[o.any];exact n4) (C.fresh _) ht
   have e2:tText (c x.Name::r)=x.Name:=o.text;rw[e2,show ndN 16 x.Name [a]=(⟨16,x.Name,0,[],[],[a]⟩:Node)from rfl,<-e]at this;exact this
 ·have he: ∀no,(tkN x).ex no=x.Name::atT (tkN a) 11 no:=λno=>by rw[zCD h,hL,tk0,N];rfl
  rw[N]at e;refine RT.of9 (by omega) (λno r=>?_) (λno r h1 h2=>?_) (λno r hi hf=>?_)
  ·rw[he];exact zvv C _ _ _ n1 n2 (λe=>by cases e)
  ·rw[he]at h2⊢;exact zvy C _ _ n1 h2
  ·rw[he,zbk,yI];have:=zJG (t:=c x.Name::(T c (atT (tkN a) 11 no)++r)) (by rw[o.any];exact n3) (by rw[o.any];exact n4) (zRu C R no r hf 11 (by decide)) ht
   have e2:tText (c x.Name::(T c (atT (tkN a) 11 no)++r))=x.Name:=o.text;rw[e2,<-e]at this;exact this
theorem zRI{x a b:Node}{k:Int}(hk:k=17\/k=18)(h:x.Kind=k)(ho:zX x=true)(hL:x.L=[a,b])(hv:3<=(tkN x).lvl/\(tkN x).lvl<=8)(hop: ∀no,zgi no x->lvS no x.Name=((tkN x).lvl,k)/\x.Name∈zgk)(R:RT c a)(Rb:RT c b):RT c x:=by
 have n1:zgk.contains x.Name=true:=by simpa using(hop false (λe=>by cases e.1)).2
 have hnc:(x.Name==([58]:Str))=false:=by
  rw[yH];intro e;have:=(hop false (λe=>by cases e.1)).1;rw[e]at this;have:=congrArg (·.1) this;have e2:(lvS false [58]).1=0:=by decide
  simp only[e2]at this;omega
 have o:=zao C n1;have e:=zlY h ho (by rcases hk with rfl|rfl<;>decide)
 rw[hL]at e
 have he: ∀no,(tkN x).ex no=atT (tkN a) (tkN x).lvl no++(x.Name::atT (tkN b) ((tkN x).lvl+1) no):=λno=>by
  rcases hk with rfl|rfl
  ·rw[zGV h,hL,tk0,tk1]
  ·rw[zGM h,hL,tk0,tk1]
 refine RT.of3 hv (λno r=>?_) (λno r h1 h2=>?_) (λno r v least hi h3 h4 hf hm=>?_)
 ·rw[he];exact(zpx C R _ no _ r).loose
 ·rw[he]at h2⊢;exact zo5 C R _ no _ _ r n1 hnc h2
 ·rw[he,zbu,yE,zbk,yI];have hs:=(hop no hi).1
  have hfo:zfn no x.Name=(tkN x).lvl:=by
   unfold zfn;rw[hs];have:((tkN x).lvl==0)=false:=by rw[yH];omega
   simp only[this,yB]
  refine zDI C R no _ v (tkN x).lvl least h3 h4 (by rw[o.fol,hfo];omega) (by rw[o.fol,hfo];omega) ?_
  have hbd:zcQ no (c x.Name::(T c (atT (tkN b) ((tkN x).lvl+1) no)++r))=((tkN x).lvl,k):=by rw[o.bind,hs]
  refine zOm (y:=b) (t1:=r) ?_ ?_ ?_
  ·rw[hbd];simp only[Bool.or_eq_false_iff,decide_eq_false_iff_not,yH];exact⟨by omega,by omega⟩
  ·rw[hbd];exact zDI C Rb no r _ _ _ (by show 3<=(tkN x).lvl+1;omega) (Int.le_refl _) (by omega) (by show zce no r<=(tkN x).lvl+1;omega) (zmk (by show zce no r< (tkN x).lvl+1;omega))
  ·rw[hbd];have e2:tText (c x.Name::(T c (atT (tkN b) ((tkN x).lvl+1) no)++r))=x.Name:=o.text;rw[e2];show zpP no least (ndN k x.Name [a,b]) r v;rw[<-e];exact hm
theorem zWJ{x a b d:Node}(h:x.Kind=19)(ho:zX x=true)(hL:x.L=[a,b,d])(R:RT c a)(Rb:RT c b)(Rd:RT c d):RT c x:=by
 have o:=zao C (w:=[63]) (by decide);have o2:=zao C (w:=[58]) (by decide);have e:=zej h ho (by decide) (by decide);rw[hL]at e;have he: ∀no,(tkN x).ex no=atT (tkN a) 3 no++([63]::(atT (tkN b) 1 false++([58]::atT (tkN d) 1 no))):=λno=>by rw[zGZ h,hL,tk0,tk1,tk2]
 refine RT.of1 (.inr (zU1 h)) (λno r=>?_) (λno r h1 h2=>?_) (λno r hi hf=>?_)
 ·rw[he];exact(zpx C R _ no _ r).loose
 ·rw[he]at h2⊢;exact zo5 C R _ no _ _ r (by decide) (by decide) h2
 ·rw[he,zbu,yE,zbk,yI,zbu,yE,zbk,yI];have f1: ∀no,zfn no [63]=2:=by decide
  have f2: ∀no,zfn no [58]= -1:=by decide
  rw[e]
  exact zF5 (zDI C R no _ _ 3 3 (by decide) (by decide) (by rw[o.fol,f1];decide) (by rw[o.fol,f1];decide) (zmk (by rw[o.fol,f1];decide))) (by rw[o.is];decide)
   (zny C Rb false _ (by rw[o2.fol,f2];decide) 1 (by decide)) (by rw[o2.is];decide) (zny C Rd no r hf 1 (by decide))
theorem zWu{x a b:Node}(h:x.Kind=20)(ho:zX x=true)(hL:x.L=[a,b])(R:RT c a)(Rb:RT c b)(ht:zcF a.Kind=true):RT c x:=by
 have hn:x.Name∈zrW:=by simpa [zI,h]using(zaT ho).1
 obtain⟨n1,n2,n3,n4,n5⟩:=zQJ hn;have o:=zao C n1;have e:=zlY h ho (by decide);rw[hL]at e;have he: ∀no,(tkN x).ex no=atT (tkN a) 11 no++(x.Name::atT (tkN b) 1 no):=λno=>by rw[zGB h,hL,tk0,tk1]
 refine RT.of1 (.inl (zV5 h)) (λno r=>?_) (λno r h1 h2=>?_) (λno r hi hf=>?_)
 ·rw[he];exact(zpx C R _ no _ r).loose
 ·rw[he]at h2⊢;exact zo5 C R _ no _ _ r n1 n5 h2
 ·rw[he,zbu,yE,zbk,yI]
  have:=zHU (zDI C R no (c x.Name::(T c (atT (tkN b) 1 no)++r)) _ 11 3 (by decide) (by decide) (by rw[o.fol,n4];decide) (by rw[o.fol,n4];decide) (zmk (by rw[o.fol,n4];decide))) (by rw[o.is];exact n3) (by rw[o.any];exact n2) ht
   (zny C Rb no r hf 1 (by decide))
  have e2:tText (c x.Name::(T c (atT (tkN b) 1 no)++r))=x.Name:=o.text;rw[e2,<-e]at this;exact this
theorem zWA{x a b:Node}(h:x.Kind=21)(ho:zX x=true)(hL:x.L=[a,b])(R:RT c a)(Rb:RT c b):RT c x:=by
 have o:=zao C (w:=[44]) (by decide);have e:=zej h ho (by decide) (by decide);rw[hL]at e;have he: ∀no,(tkN x).ex no=atT (tkN a) 0 no++([44]::atT (tkN b) 1 no):=λno=>by rw[zGR h,hL,tk0,tk1]
 refine RT.of0 (zVZ h) (λno r=>?_) (λno r h1 h2=>?_) (λno r v hi hf hm=>?_)
 ·rw[he];exact(zpx C R _ no _ r).loose
 ·rw[he]at h2⊢;exact zo5 C R _ no _ _ r (by decide) (by decide) h2
 ·rw[he,zbu,yE,zbk,yI];have f1: ∀no,zfn no [44]=0:=by decide
  refine zIO C R no _ v (by rw[o.fol,f1];decide) ?_ 0
  refine zLp (by rw[o.is];decide) (zny C Rb no r hf 1 (by decide)) ?_
  rw[<-e];exact hm
end
section
variable {no calls last f o:Bool} {a:Tok} {t r t1 t2 t3 t4 t5:zB} {x y z b d:Node} {v:Node×zB} {l l1 l2:List Node} {s w:Str} {k:Int}
theorem zUv(h:tIs [123] t=true)(h1:zoR false t.tail (l,t1))(h2:tIs [125] t1=true):BLOCK t (nd 25 l,t1.tail):=
 (h1.bind (g:=λl _=>(zaC [125] l.2).bn λt=>gt (nd 25 l.1,t)) ((Ok.ret _).eq (by funext n;simp only[zbP h2,zeg,zfY]))).up λn=>by
  show zk3 (pG n) t=_;unfold zk3;rw[zbP h];rfl
theorem r_head(h:tIs [40] t=true)(h1:EXPR false t.tail (x,t1))(h2:tIs [41] t1=true):HEAD t (x,t1.tail):=
 (h1.bind (g:=λl _=>(zaC [41] l.2).bn λt=>gt (l.1,t)) ((Ok.ret _).eq (by funext n;simp only[zbP h2,zeg,zfY]))).up λn=>by
  show zqw (pG n) t=_;unfold zqw;rw[zbP h];rfl
theorem zLg(h:tIs s t=true):TILL s t (nd 42 [],t.tail):=
 (Ok.ret _).up λn=>by show zkS (pG n) s t=_;unfold zkS;rw[yL h]
theorem zUL(h:tIs s t=false)(h1:EXPR false t (x,t1))(h2:tIs s t1=true):TILL s t (x,t1.tail):=
 (h1.bind (g:=λl _=>(zaC s l.2).bn λt=>gt (l.1,t)) ((Ok.ret _).eq (by funext n;simp only[zbP h2,zeg,zfY]))).up λn=>by
  show zkS (pG n) s t=_;unfold zkS;rw[yK (by rw[h];decide)]
abbrev zH8(no:Bool)(t:zB)(v:List Node×zB):Prop:=Ok (λn=>if tIs [61] t=true then((pG n).assign no t.tail).bd λy=>gt ([y.1],y.2)else gt ([],t)) v
theorem zNW(h:tIs [61] t=false):zH8 no t ([],t):=(Ok.ret _).eq (by funext n;rw[yK (by rw[h];decide)])
theorem zUM(h:tIs [61] t=true)(h1:ASSIGN no t.tail (y,t1)):zH8 no t ([y],t1):=
 (h1.bind (g:=λy _=>gt ([y.1],y.2)) (Ok.ret _)).eq (by funext n;rw[yL h])
theorem zJw(hk:a.kind=1)(h1:zH8 no r (l,t1))(h2:tIs [44] t1=false):VARS no (a::r) ([ndN 23 a.text l],t1):=
 (h1.bind (g:=λd n=>if tIs [44] d.2=true then((pG n).vars no d.2.tail).bd λl=>gt (ndN 23 a.text d.1::l.1,l.2)else gt ([ndN 23 a.text d.1],d.2)) ((Ok.ret _).eq (by funext n;simp only[h2,qz2,yA]))).up λn=>by
  show zl5 (pG n) no (a::r)=_;unfold zl5;rw[yL (by show(a.kind==1)=true;rw[hk];rfl)];rfl
theorem zJO(hk:a.kind=1)(h1:zH8 no r (l,t1))(h2:tIs [44] t1=true)(h3:VARS no t1.tail (l1,t2)):VARS no (a::r) (ndN 23 a.text l::l1,t2):=
 (h1.bind (g:=λd n=>if tIs [44] d.2=true then((pG n).vars no d.2.tail).bd λl=>gt (ndN 23 a.text d.1::l.1,l.2)else gt ([ndN 23 a.text d.1],d.2))
  ((h3.bind (g:=λq _=>gt (ndN 23 a.text l::q.1,q.2)) (Ok.ret _)).eq (by funext n;simp only[h2,yB]))).up λn=>by
  show zl5 (pG n) no (a::r)=_;unfold zl5;rw[yL (by show(a.kind==1)=true;rw[hk];rfl)];rfl
theorem zXY{m:Str}{t0:zB}{ns:List Str}(hm:(if(zaa t==1)=true then gt (tText t,t.tail)else if(k==39)=true then bad t else gt (([]:Str),t))=gt (m,t0))(h1:tIs [40] t0=true)(h2:zet t0.tail=gt (ns,t2))(h3:tIs [123] t2=true)
  (h4:zoR true t2.tail (l,t3)) (h5:tIs [125] t3=true):FUNC k t (⟨k,m,0,[],ns,l⟩,t3.tail):=
 (h4.bind (g:=λl _=>(zaC [125] l.2).bn λt=>gt ((⟨k,m,0,[],ns,l.1⟩:Node),t)) ((Ok.ret _).eq (by funext n;simp only[zbP h5,zeg,zfY]))).up λn=>by
  show zoT (pG n) k t=_;unfold zoT;rw[hm];simp only[zeg,zfY,zbP h1,h2,zbP h3]
abbrev FIRST(t:zB)(v:Node×zB):Prop:=Ok (λn=>zlW (pG n) t) v
theorem zKb(h:tIs [118,97,114] t=true)(h1:VARS true t.tail (l,t1)):FIRST t (nd 22 l,t1):=
 (h1.bind (g:=λl _=>gt (nd 22 l.1,l.2)) (Ok.ret _)).eq (by funext n;unfold zlW;rw[yL h])
theorem zMp(h:tIs [118,97,114] t=false)(h1:tIs [59] t=true):FIRST t (nd 42 [],t):=
 (Ok.ret _).eq (by funext n;unfold zlW;rw[yK (by rw[h];decide),yL h1])
theorem zT3(h:tIs [118,97,114] t=false)(h1:tIs [59] t=false)(h2:EXPR true t v):FIRST t v:=
 h2.eq (by funext n;unfold zlW;rw[yK (by rw[h];decide),yK (by rw[h1];decide)])
theorem zNS(h:tIs [40] t=true)(h1:FIRST t.tail (x,t1))(h2:zkw x=true)(h3:tIs [105,110] t1=true)(h4:EXPR false t1.tail (y,t2))(h5:tIs [41] t2=true)(h6:zeI t2.tail (b,t3)):LOOP t (nd 30 [x,y,za5 b],t3):=
 (h1.bind (g:=λq n=>if(zkw q.1&&tIs [105,110] q.2)=true then((pG n).expr false q.2.tail).bd λx=>(zaC [41] x.2).bn λt=>((pG n).stmt t).bd λb=>gt (nd 30 [q.1,x.1,za5 b.1],b.2)
   else(zaC [59] q.2).bn λt=>((pG n).till [59] t).bd λx=>((pG n).till [41] x.2).bd λy=>((pG n).stmt y.2).bd λb=>gt (nd 29 [q.1,x.1,y.1,za5 b.1],b.2))
  ((h4.bind (g:=λx' n=>(zaC [41] x'.2).bn λt=>((pG n).stmt t).bd λb=>gt (nd 30 [x,x'.1,za5 b.1],b.2))
   ((h6.bind (g:=λb _=>gt (nd 30 [x,y,za5 b.1],b.2)) (Ok.ret _)).eq (by funext n;simp only[zbP h5,zeg,zfY]))).eq (by funext n;simp only[h2,h3,Bool.and_self,yB]))).up λn=>by
  show zne (pG n) t=_;unfold zne;rw[zbP h];rfl
theorem zMm(h:tIs [40] t=true)(h1:FIRST t.tail (x,t1))(h2:(zkw x&&tIs [105,110] t1)=false)(h3:tIs [59] t1=true)(h4:TILL [59] t1.tail (y,t2))(h5:TILL [41] t2 (z,t3))(h6:zeI t3 (b,t4)):LOOP t (nd 29 [x,y,z,za5 b],t4):=
 (h1.bind (g:=λq n=>if(zkw q.1&&tIs [105,110] q.2)=true then((pG n).expr false q.2.tail).bd λx=>(zaC [41] x.2).bn λt=>((pG n).stmt t).bd λb=>gt (nd 30 [q.1,x.1,za5 b.1],b.2)
   else(zaC [59] q.2).bn λt=>((pG n).till [59] t).bd λx=>((pG n).till [41] x.2).bd λy=>((pG n).stmt y.2).bd λb=>gt (nd 29 [q.1,x.1,y.1,za5 b.1],b.2))
  ((h4.bind (g:=λx' n=>((pG n).till [41] x'.2).bd λy'=>((pG n).stmt y'.2).bd λb=>gt (nd 29 [x,x'.1,y'.1,za5 b.1],b.2))
   (h5.bind (g:=λy' n=>((pG n).stmt y'.2).bd λb=>gt (nd 29 [x,y,y'.1,za5 b.1],b.2))
    (h6.bind (g:=λb _=>gt (nd 29 [x,y,z,za5 b.1],b.2)) (Ok.ret _)))).eq (by funext n;simp only[h2,zbP h3,zeg,zfY,qz2,yA]))).up λn=>by
  show zne (pG n) t=_;unfold zne;rw[zbP h];rfl
theorem zJB(h:tIs [125] t=true):CASES o t ([],t.tail):=
 (Ok.ret _).up λn=>by show ziE (pG n) o t=_;unfold ziE;rw[yL h]
theorem zDn(h:tIs [125] t=false)(h1:tIs [100,101,102,97,117,108,116] t=true)(h2:tIs [58] t.tail=true)(h3:BODY t.tail.tail (l,t1))(h4:CASES false t1 (l1,t2)):CASES true t (nd 37 (nd 42 []::l)::l1,t2):=
 (h3.bind (g:=λl n=>((pG n).cases false l.2).bd λr=>gt (nd 37 (nd 42 []::l.1)::r.1,r.2)) (h4.bind (g:=λr _=>gt (nd 37 (nd 42 []::l)::r.1,r.2)) (Ok.ret _))).up λn=>by
  show ziE (pG n) true t=_;unfold ziE;rw[yK (by rw[h];decide),yL (by rw[h1];rfl),zbP h2];rfl
theorem zIP(h:tIs [125] t=false)(h1:(o&&tIs [100,101,102,97,117,108,116] t)=false)(h2:tIs [99,97,115,101] t=true)(h3:EXPR false t.tail (x,t1))(h4:tIs [58] t1=true)(h5:BODY t1.tail (l,t2))(h6:CASES o t2 (l1,t3)):CASES o t (nd 37 (x::l)::l1,t3):=
 (h3.bind (g:=λx n=>(zaC [58] x.2).bn λt=>((pG n).body t).bd λl=>((pG n).cases o l.2).bd λr=>gt (nd 37 (x.1::l.1)::r.1,r.2))
  ((h5.bind (g:=λl n=>((pG n).cases o l.2).bd λr=>gt (nd 37 (x::l.1)::r.1,r.2)) (h6.bind (g:=λr _=>gt (nd 37 (x::l)::r.1,r.2)) (Ok.ret _))).eq (by funext n;simp only[zbP h4,zeg,zfY]))).up λn=>by
  show ziE (pG n) o t=_;unfold ziE;rw[yK (by rw[h];decide),yK (by rw[h1];decide),zbP h2];rfl
theorem zMf(h:(zbs [[99,97,115,101],[100,101,102,97,117,108,116],[125]] t||zaa t==0)=true):BODY t ([],t):=
 (Ok.ret _).up λn=>by show zna (pG n) t=_;unfold zna;rw[yL h]
theorem zVI(h:(zbs [[99,97,115,101],[100,101,102,97,117,108,116],[125]] t||zaa t==0)=false)(h1:zeI t (x,t1))(h2:BODY t1 (l,t2)):BODY t (x::l,t2):=
 (h1.bind (g:=λx n=>((pG n).body x.2).bd λl=>gt (x.1::l.1,l.2)) (h2.bind (g:=λq _=>gt (x::q.1,q.2)) (Ok.ret _))).up λn=>by
  show zna (pG n) t=_;unfold zna;rw[yK (by rw[h];decide)]
theorem zKa(h:(tIs [125] t||zaa t==0)=true):zoR f t ([],t):=
 (Ok.ret _).up λn=>by show zh4 (pG n) f t=_;unfold zh4;rw[yL h]
theorem zTi(h:(tIs [125] t||zaa t==0)=false)(h':(f&&tIs [102,117,110,99,116,105,111,110] t)=false)(h1:zeI t (x,t1))(h2:zoR f t1 (l,t2)):zoR f t (x::l,t2):=
 (h1.bind (g:=λx n=>((pG n).stmts f x.2).bd λl=>gt (x.1::l.1,l.2)) (h2.bind (g:=λq _=>gt (x::q.1,q.2)) (Ok.ret _))).up λn=>by
  show zh4 (pG n) f t=_;unfold zh4;rw[yK (by rw[h];decide),yK (by rw[h'];decide)]
theorem zMK(h:(tIs [125] t||zaa t==0)=false)(h':tIs [102,117,110,99,116,105,111,110] t=true)(h1:FUNC 39 t.tail (x,t1))(h2:zoR true t1 (l,t2)):zoR true t (x::l,t2):=
 (h1.bind (g:=λx n=>((pG n).stmts true x.2).bd λl=>gt (x.1::l.1,l.2)) (h2.bind (g:=λq _=>gt (x::q.1,q.2)) (Ok.ret _))).up λn=>by
  show zh4 (pG n) true t=_;unfold zh4;rw[yK (by rw[h];decide),yL (by rw[h'];rfl)]
theorem zmq(h:tIs [59] t=true):zg5 t=gt ((),t.tail):=by unfold zg5;rw[yL h]
theorem zNx(h:zcN a [123])(h1:BLOCK (a::r) v):zeI (a::r) v:=
 h1.up λn=>by show zbU (pG n) (a::r)=_;unfold zbU;rw[yL (by rw[h.is];decide)]
theorem zNG(h:zcN a [59]):zeI (a::r) (nd 40 [],r):=
 (Ok.ret _).up λn=>by show zbU (pG n) (a::r)=_;unfold zbU;simp only[h.is];rfl
theorem zTl(h:zcN a [118,97,114])(h1:VARS false r (l,t1))(h2:tIs [59] t1=true):zeI (a::r) (nd 22 l,t1.tail):=
 (h1.bind (g:=λl _=>(zg5 l.2).bn λt=>gt (nd 22 l.1,t)) ((Ok.ret _).eq (by funext n;simp only[zmq h2,zeg,zfY]))).up λn=>by show zbU (pG n) (a::r)=_;unfold zbU;simp only[h.is];rfl
theorem zVM(h:zcN a [105,102])(h1:HEAD r (x,t1))(h2:zeI t1 (b,t2))(h3:tIs [101,108,115,101] t2=false):zeI (a::r) (nd 26 [x,za5 b],t2):=
 (h1.bind (g:=λx n=>((pG n).stmt x.2).bd λb=>if tIs [101,108,115,101] b.2=true then((pG n).stmt b.2.tail).bd λc=>gt (nd 26 [x.1,za5 b.1,za5 c.1],c.2)else gt (nd 26 [x.1,za5 b.1],b.2))
  (h2.bind (g:=λb n=>if tIs [101,108,115,101] b.2=true then((pG n).stmt b.2.tail).bd λc=>gt (nd 26 [x,za5 b.1,za5 c.1],c.2)else gt (nd 26 [x,za5 b.1],b.2)) ((Ok.ret _).eq (by funext n;simp only[h3,qz2,yA])))).up λn=>by
  show zbU (pG n) (a::r)=_;unfold zbU;simp only[h.is];rfl
theorem zMC(h:zcN a [105,102])(h1:HEAD r (x,t1))(h2:zeI t1 (b,t2))(h3:tIs [101,108,115,101] t2=true)(h4:zeI t2.tail (d,t3)):zeI (a::r) (nd 26 [x,za5 b,za5 d],t3):=
 (h1.bind (g:=λx n=>((pG n).stmt x.2).bd λb=>if tIs [101,108,115,101] b.2=true then((pG n).stmt b.2.tail).bd λc=>gt (nd 26 [x.1,za5 b.1,za5 c.1],c.2)else gt (nd 26 [x.1,za5 b.1],b.2))
  (h2.bind (g:=λb n=>if tIs [101,108,115,101] b.2=true then((pG n).stmt b.2.tail).bd λc=>gt (nd 26 [x,za5 b.1,za5 c.1],c.2)else gt (nd 26 [x,za5 b.1],b.2))
   ((h4.bind (g:=λc _=>gt (nd 26 [x,za5 b,za5 c.1],c.2)) (Ok.ret _)).eq (by funext n;simp only[h3,yB])))).up λn=>by
  show zbU (pG n) (a::r)=_;unfold zbU;simp only[h.is];rfl
theorem zOk(h:zcN a [119,104,105,108,101])(h1:HEAD r (x,t1))(h2:zeI t1 (b,t2)):zeI (a::r) (nd 27 [x,za5 b],t2):=
 (h1.bind (g:=λx n=>((pG n).stmt x.2).bd λb=>gt (nd 27 [x.1,za5 b.1],b.2)) (h2.bind (g:=λb _=>gt (nd 27 [x,za5 b.1],b.2)) (Ok.ret _))).up λn=>by
  show zbU (pG n) (a::r)=_;unfold zbU;simp only[h.is];rfl
theorem zWd(h:zcN a [100,111])(h1:zeI r (b,t1))(h2:tIs [119,104,105,108,101] t1=true)(h3:HEAD t1.tail (x,t2))(h4:tIs [59] t2=true):zeI (a::r) (nd 28 [za5 b,x],t2.tail):=
 (h1.bind (g:=λb n=>(zaC [119,104,105,108,101] b.2).bn λt=>((pG n).head t).bd λx=>(zg5 x.2).bn λt=>gt (nd 28 [za5 b.1,x.1],t))
  ((h3.bind (g:=λx _=>(zg5 x.2).bn λt=>gt (nd 28 [za5 b,x.1],t)) ((Ok.ret _).eq (by funext n;simp only[zmq h4,zeg,zfY]))).eq (by funext n;simp only[zbP h2,zeg,zfY]))).up λn=>by
  show zbU (pG n) (a::r)=_;unfold zbU;simp only[h.is];rfl
theorem zKH(h:zcN a [102,111,114])(h1:LOOP r v):zeI (a::r) v:=
 h1.up λn=>by show zbU (pG n) (a::r)=_;unfold zbU;simp only[h.is];rfl
theorem zNd{p:Tok}(hp:p.kind=1)(hf:p.fresh=false)(h2:tIs [59] r=true):zjg k (p::r)=gt (ndN k p.text [],r.tail):=by
 unfold zjg;rw[yL (by show(p.kind==1&& !p.fresh)=true;rw[hp,hf];rfl)]
 show(zg5 r).bn _=_;rw[zmq h2];rfl
theorem zSG(h2:tIs [59] t=true):zjg k t=gt (nd k [],t.tail):=by
 unfold zjg;obtain⟨p,q,rfl,ho⟩:=zG9 h2;rw[yK (by rw[(ho.kinds q).1];simp),zmq h2];rfl
theorem zNw(h:zcN a [98,114,101,97,107])(h1:zjg 31 r=gt v):zeI (a::r) v:=
 (Ok.ret v).up λn=>by show zbU (pG n) (a::r)=_;unfold zbU;simp only[h.is];exact h1
theorem zHa(h:zcN a [99,111,110,116,105,110,117,101])(h1:zjg 32 r=gt v):zeI (a::r) v:=
 (Ok.ret v).up λn=>by show zbU (pG n) (a::r)=_;unfold zbU;simp only[h.is];exact h1
theorem zLt(h:zcN a [114,101,116,117,114,110])(h0:(!tIs [59] r&& !zlc r)=true)(h1:EXPR false r (x,t1))(h2:tIs [59] t1=true):zeI (a::r) (nd 33 [x],t1.tail):=
 (h1.bind (g:=λx _=>(zg5 x.2).bn λt=>gt (nd 33 [x.1],t)) ((Ok.ret _).eq (by funext n;simp only[zmq h2,zeg,zfY]))).up λn=>by
  show zbU (pG n) (a::r)=_;unfold zbU;simp only[h.is];show(if(!tIs [59] r&& !zlc r)=true then _ else _)=_;rw[yL h0];rfl
theorem zGo(h:zcN a [114,101,116,117,114,110])(h1:tIs [59] r=true):zeI (a::r) (nd 33 [],r.tail):=
 (Ok.ret _).up λn=>by
  show zbU (pG n) (a::r)=_;unfold zbU;simp only[h.is];show(if(!tIs [59] r&& !zlc r)=true then _ else(zg5 r).bn λt=>gt (nd 33 [],t))=_;rw[yK (by rw[h1];simp),zmq h1];rfl
theorem zNi(h:zcN a [116,104,114,111,119])(h0:ze0 r=false)(h1:EXPR false r (x,t1))(h2:tIs [59] t1=true):zeI (a::r) (nd 34 [x],t1.tail):=
 (h1.bind (g:=λx _=>(zg5 x.2).bn λt=>gt (nd 34 [x.1],t)) ((Ok.ret _).eq (by funext n;simp only[zmq h2,zeg,zfY]))).up λn=>by
  show zbU (pG n) (a::r)=_;unfold zbU;simp only[h.is];show(if ze0 r=true then bad r else _)=_;rw[yK (by rw[h0];decide)];rfl
abbrev zGE(t:zB)(v:(Str×Node)×zB):Prop:=Ok (λn=>zmZ (pG n) t) v
abbrev zGW(t:zB)(v:Node×zB):Prop:=Ok (λn=>zkz (pG n) t) v
theorem zLY(h:tIs [99,97,116,99,104] t=false):zGE t (([],nd 42 []),t):=(Ok.ret _).eq (by funext n;unfold zmZ;rw[yK (by rw[h];decide)])
theorem zUg{p:Tok}{q:zB}(h:tIs [99,97,116,99,104] t=true)(h1:tIs [40] t.tail=true)(h2:t.tail.tail=p::q)(hp:p.kind=1)(h3:tIs [41] q=true)(h4:BLOCK q.tail (b,t1)):zGE t ((p.text,b),t1):=
 (h4.bind (g:=λb _=>gt ((p.text,b.1),b.2)) (Ok.ret _)).eq (by
  funext n;unfold zmZ;rw[yL h,zbP h1];simp only[zeg,zfY,h2];rw[yL (by show(p.kind==1)=true;rw[hp];rfl)]
  show(zaC [41] q).bn _=_;rw[zbP h3];rfl)
theorem zLu(h:tIs [102,105,110,97,108,108,121] t=false):zGW t (nd 42 [],t):=(Ok.ret _).eq (by funext n;unfold zkz;rw[yK (by rw[h];decide)])
theorem zUo(h:tIs [102,105,110,97,108,108,121] t=true)(h1:BLOCK t.tail v):zGW t v:=h1.eq (by funext n;unfold zkz;rw[yL h])
theorem zTO(h:zcN a [116,114,121])(h1:BLOCK r (b,t1))(h2:zGE t1 ((s,y),t2))(h3:zGW t2 (z,t3))(h4:(z.Kind==42&&y.Kind==42)=false):zeI (a::r) (ndN 35 s [b,y,z],t3):=
 (h1.bind (g:=λb n=>(zmZ (pG n) b.2).bd λc=>(zkz (pG n) c.2).bd λf=>if(f.1.Kind==42&&c.1.2.Kind==42)=true then bad f.2 else gt (ndN 35 c.1.1 [b.1,c.1.2,f.1],f.2))
  (h2.bind (g:=λc n=>(zkz (pG n) c.2).bd λf=>if(f.1.Kind==42&&c.1.2.Kind==42)=true then bad f.2 else gt (ndN 35 c.1.1 [b,c.1.2,f.1],f.2))
   (h3.bind (g:=λf _=>if(f.1.Kind==42&&y.Kind==42)=true then bad f.2 else gt (ndN 35 s [b,y,f.1],f.2)) ((Ok.ret _).eq (by funext n;simp only[h4,qz2,yA]))))).up λn=>by
  show zbU (pG n) (a::r)=_;unfold zbU;simp only[h.is];rfl
theorem zML(h:zcN a [115,119,105,116,99,104])(h1:HEAD r (x,t1))(h2:tIs [123] t1=true)(h3:CASES true t1.tail (l,t2)):zeI (a::r) (nd 36 (x::l),t2):=
 (h1.bind (g:=λx n=>(zaC [123] x.2).bn λt=>((pG n).cases true t).bd λl=>gt (nd 36 (x.1::l.1),l.2))
  ((h3.bind (g:=λl _=>gt (nd 36 (x::l.1),l.2)) (Ok.ret _)).eq (by funext n;simp only[zbP h2,zeg,zfY]))).up λn=>by
  show zbU (pG n) (a::r)=_;unfold zbU;simp only[h.is];rfl
def zEO:List Str:=[[123],[59],[118,97,114],[105,102],[119,104,105,108,101],[100,111],[102,111,114],[98,114,101,97,107],[99,111,110,116,105,110,117,101],[114,101,116,117,114,110],[116,104,114,111,119],[116,114,121],[115,119,105,116,99,104],[102,117,110,99,116,105,111,110]]
theorem zM5(hs: ∀w∈zEO,tIs w (a::r)=false)(h:a.kind=1)(h1:tIs [58] r=true)(h2:zeI r.tail (x,t1)):zeI (a::r) (ndN 38 a.text [x],t1):=
 (h2.bind (g:=λx _=>gt (ndN 38 a.text [x.1],x.2)) (Ok.ret _)).up λn=>by
  have hs:=λw h=>hs w h
  simp only[zEO,yP,List.not_mem_nil,or_false]at hs;show zbU (pG n) (a::r)=_;unfold zbU;simp only[hs _ (.inl rfl),hs _ (.inr (.inl rfl)),hs _ (.inr (.inr (.inl rfl))),hs _ (.inr (.inr (.inr (.inl rfl)))),hs _ (.inr (.inr (.inr (.inr (.inl rfl))))),hs _ (.inr (.inr (.inr (.inr (.inr (.inl rfl)))))),hs _ (.inr (.inr (.inr (.inr (.inr (.inr (.inl rfl))))))),hs _ (.inr (.inr (.inr (.inr (.inr (.inr (.inr (.inl rfl)))))))),hs _ (.inr (.inr (.inr (.inr (.inr (.inr (.inr (.inr (.inl rfl))))))))),hs _ (.inr (.inr (.inr (.inr (.inr (.inr (.inr (.inr (.inr (.inl rfl)))))))))),hs _ (.inr (.inr (.inr (.inr (.inr (.inr (.inr (.inr (.inr (.inr (.inl rfl))))))))))),hs _ (.inr (.inr (.inr (.inr (.inr (.inr (.inr (.inr (.inr (.inr (.inr (.inl rfl)))))))))))),hs _ (.inr (.inr (.inr (.inr (.inr (.inr (.inr (.inr (.inr (.inr (.inr (.inr (.inl rfl))))))))))))),hs _ (.inr (.inr (.inr (.inr (.inr (.inr (.inr (.inr (.inr (.inr (.inr (.inr (.inr rfl))))))))))))),qz2,yA]
  rw[yL (by show(a.kind==1&&tIs [58] r)=true;rw[h,h1];rfl)];rfl
theorem zHl(hs: ∀w∈zEO,tIs w t=false)(h:(zaa t==1&&tIs [58] t.tail)=false)(h1:EXPR false t (x,t1))(h2:tIs [59] t1=true):zeI t (nd 24 [x],t1.tail):=
 (h1.bind (g:=λx _=>(zg5 x.2).bn λt=>gt (nd 24 [x.1],t)) ((Ok.ret _).eq (by funext n;simp only[zmq h2,zeg,zfY]))).up λn=>by
  have hs:=λw h=>hs w h
  simp only[zEO,yP,List.not_mem_nil,or_false]at hs;show zbU (pG n) t=_;unfold zbU;simp only[hs _ (.inl rfl),hs _ (.inr (.inl rfl)),hs _ (.inr (.inr (.inl rfl))),hs _ (.inr (.inr (.inr (.inl rfl)))),hs _ (.inr (.inr (.inr (.inr (.inl rfl))))),hs _ (.inr (.inr (.inr (.inr (.inr (.inl rfl)))))),hs _ (.inr (.inr (.inr (.inr (.inr (.inr (.inl rfl))))))),hs _ (.inr (.inr (.inr (.inr (.inr (.inr (.inr (.inl rfl)))))))),hs _ (.inr (.inr (.inr (.inr (.inr (.inr (.inr (.inr (.inl rfl))))))))),hs _ (.inr (.inr (.inr (.inr (.inr (.inr (.inr (.inr (.inr (.inl rfl)))))))))),hs _ (.inr (.inr (.inr (.inr (.inr (.inr (.inr (.inr (.inr (.inr (.inl rfl))))))))))),hs _ (.inr (.inr (.inr (.inr (.inr (.inr (.inr (.inr (.inr (.inr (.inr (.inl rfl)))))))))))),hs _ (.inr (.inr (.inr (.inr (.inr (.inr (.inr (.inr (.inr (.inr (.inr (.inr (.inl rfl))))))))))))),hs _ (.inr (.inr (.inr (.inr (.inr (.inr (.inr (.inr (.inr (.inr (.inr (.inr (.inr rfl))))))))))))),h,qz2,yA]
end
def zAN:List Str:=[[116,104,105,115],[110,117,108,108],[116,114,117,101],[102,97,108,115,101],[40],[91],[123],[110,101,119],[45],[43],[33],[116,121,112,101,111,102],[100,101,108,101,116,101],[118,111,105,100],[43,43],[45,45],[59],[118,97,114],[105,102],[119,104,105,108,101],[100,111],[102,111,114],[98,114,101,97,107],[99,111,110,116,105,110,117,101],[114,101,116,117,114,110],[116,104,114,111,119],[116,114,121],[115,119,105,116,99,104]]
def zui(t:zB):Prop:=∃a r,t=a::r/\(a.kind=1\/a.kind=3\/a.kind=4\/∃w,zcN a w/\w∈zAN)
theorem zui.is{t:zB}(h:zui t){s:Str}(hs:zAN.contains s=false):tIs s t=false:=by
 obtain⟨a,r,rfl,h⟩:=h;rcases h with h|h|h| ⟨w,h1,h2⟩
 ·show(opK a&&_)=false;rw[zdH (.inl h)];rfl
 ·show(opK a&&_)=false;rw[zdH (.inr (.inl h))];rfl
 ·show(opK a&&_)=false;rw[zdH (.inr (.inr h))];rfl
 ·rw[h1.is,yH];rintro rfl;rw[show zAN.contains w=true by simpa using h2]at hs;cases hs
theorem zui.any{t:zB}(h:zui t){l:List Str}(hs: ∀w∈zAN,l.contains w=false):zbs l t=false:=by
 obtain⟨a,r,rfl,h⟩:=h;rcases h with h|h|h| ⟨w,h1,h2⟩
 ·show(opK a&&_)=false;rw[zdH (.inl h)];rfl
 ·show(opK a&&_)=false;rw[zdH (.inr (.inl h))];rfl
 ·show(opK a&&_)=false;rw[zdH (.inr (.inr h))];rfl
 ·rw[h1.any];exact hs w h2
theorem zui.zGC{t:zB}(h:zui t):(zaa t==0)=false:=by
 obtain⟨a,r,rfl,h⟩:=h;show(a.kind==0)=false;rcases h with h|h|h| ⟨w,h1,_⟩
 ·rw[h];rfl
 ·rw[h];rfl
 ·rw[h];rfl
 ·rcases h1.kind with e|e<;>rw[e]<;>rfl
structure zrp (t:zB):Prop where
 els:tIs [101,108,115,101] t=false
 cat:tIs [99,97,116,99,104] t=false
 fin:tIs [102,105,110,97,108,108,121] t=false
theorem zui.fol{t:zB}(h:zui t):zrp t:=⟨h.is (by decide),h.is (by decide),h.is (by decide)⟩
theorem zcN.zfn{a:Tok}{w:Str}(h:zcN a w)(r:zB)(h1:([[101,108,115,101],[99,97,116,99,104],[102,105,110,97,108,108,121]]:List Str).contains w=false):zrp (a::r):=by
 have h1:w∉([[101,108,115,101],[99,97,116,99,104],[102,105,110,97,108,108,121]]:List Str):=by simpa using h1
 simp only[yP,List.not_mem_nil,or_false,not_or]at h1;exact⟨by rw[h.is,yH];exact h1.1,by rw[h.is,yH];exact h1.2.1,by rw[h.is,yH];exact h1.2.2⟩
section
variable (c:Str->Tok)
structure SR (y:Node):Prop where
 beg: ∀r,zui (T c (tkN y).st++r)
 rd: ∀r,zrp r->zeI (T c (tkN y).st++r) (y,r)
structure FN (y:Node):Prop where
 st:(tkN y).st=[102,117,110,99,116,105,111,110]::(zgb y (tkL y.L)).tail
 rd: ∀r,FUNC 39 (T c (zgb y (tkL y.L)).tail++r) (y,r)
structure CS (y:Node):Prop where
 eq:y=nd 37 y.L
 ex: ∃a l,y.L=a::l/\(a=nd 42 []\/(zci a.Kind=true/\RT c a))/\∀k∈l,SR c k
structure VD (y:Node):Prop where
 eq:y=nd 22 y.L
 ne: ∃d l,y.L=d::l
 ds: ∀d∈y.L,d=ndN 23 d.Name d.L/\zaP d.Name=true/\(d.L=[]\/∃a,d.L=[a]/\RT c a)
variable {c}
theorem zN2(ls:List Node)(h: ∀k∈ls,SR c k)(r:zB)(hr:(zbs [[99,97,115,101],[100,101,102,97,117,108,116],[125]] r||zaa r==0)=true)(hf:zrp r):BODY (T c (zad (tkL ls))++r) (ls,r):=by
 have hfol: ∀ls:List Node,(∀k∈ls,SR c k)->zrp (T c (zad (tkL ls))++r):=by
  intro ls h;rcases ls with _| ⟨y,l⟩
  ·exact hf
  ·have e:zad (tkL (y::l))=(tkN y).st++zad (tkL l):=by simp[zad,tkL]
   rw[e,zbu,yE];exact((h y qz7).beg _).fol
 induction ls with
 |nil=>exact zMf hr
 |cons y l ih=>
  have hl:=λk hk=>h k (qz8 _ hk)
  have e:zad (tkL (y::l))=(tkN y).st++zad (tkL l):=by simp[zad,tkL]
  rw[e,zbu,yE];have h:=h y qz7;have hb:=h.beg (T c (zad (tkL l))++r);exact zVI (by rw[hb.any (by decide),hb.zGC];rfl) (h.rd _ (hfol l hl)) (ih hl)
variable (C:Cls c)
include C
theorem zep{w:Str}(l:List Str)(r:zB)(ho:zgk.contains w=true)(hb:zAN.contains w=true):zui (T c (w::l)++r):=
 ⟨c w,T c l++r,rfl,.inr (.inr (.inr ⟨w,zao C ho,by simpa using hb⟩))⟩
theorem zwM(f:Bool)(ls:List Node)(h: ∀k∈ls,SR c k\/(f=true/\FN c k))(r:zB)(hr:(tIs [125] r||zaa r==0)=true)(hf:zrp r):zoR f (T c (zad (tkL ls))++r) (ls,r):=by
 have of:=zao C (w:=[102,117,110,99,116,105,111,110]) (by decide)
 have hfol: ∀ls:List Node,(∀k∈ls,SR c k\/(f=true/\FN c k))->zrp (T c (zad (tkL ls))++r):=by
  intro ls h;rcases ls with _| ⟨y,l⟩
  ·exact hf
  ·have e:zad (tkL (y::l))=(tkN y).st++zad (tkL l):=by simp[zad,tkL]
   rw[e,zbu,yE];rcases h y qz7 with h| ⟨_,h⟩
   ·exact(h.beg _).fol
   ·rw[h.st];exact of.zfn _ (by decide)
 induction ls with
 |nil=>exact zKa hr
 |cons y l ih=>
  have hl:=λk hk=>h k (qz8 _ hk)
  have e:zad (tkL (y::l))=(tkN y).st++zad (tkL l):=by simp[zad,tkL]
  rw[e,zbu,yE];rcases h y qz7 with q| ⟨ef,q⟩
  ·have hb:=q.beg (T c (zad (tkL l))++r);exact zTi (by rw[hb.is (by decide),hb.zGC];rfl) (by rw[hb.is (by decide),Bool.and_false]) (q.rd _ (hfol l hl)) (ih hl)
  ·subst ef;rw[q.st,zbk,yI];exact zMK (by rw[of.is,(of.kinds _).2.2.2];decide) (by rw[of.is];decide) (q.rd _) (ih hl)
theorem zLH: ∀(ns:List Str),(∀s∈ns,zaP s=true)->∀r:zB,zet (T c (namesT ns)++c [41]::r)=gt (ns,r):=by
 have o:=zao C (w:=[41]) (by decide);have oc:=zao C (w:=[44]) (by decide)
 have key: ∀(l:List Str) (s:Str),zaP s=true->(∀q∈l,zaP q=true)->∀r,zhY (T c (s::l.flatMap λq=>[[44],q])++c [41]::r)=gt (s::l,r):=by
  intro l;induction l with
  |nil=>
   intro s hs _ r;obtain⟨k1,k2⟩:=C.name s hs;show zhY (c s::c [41]::r)=_;rw[zhY];rw[yL (by rw[k1];rfl),yL (by rw[o.is];decide),k2]
  |cons q l ih=>
   intro s hs hl r;obtain⟨k1,k2⟩:=C.name s hs;have:=ih q (hl q qz7) (λp hp=>hl p (qz8 _ hp)) r;show zhY (c s::c [44]::(T c (q::l.flatMap λq=>[[44],q])++c [41]::r))=_;rw[zhY];rw[yL (by rw[k1];rfl),yK (by rw[oc.is];decide),yL (by rw[oc.is];decide),yK (by show ¬(opK (c q)&&_)=true;rw[zdH (.inl (C.name q (hl q qz7)).1)];simp),this,k2];rfl
 intro ns h r;rcases ns with _| ⟨s,l⟩
 ·show zet (c [41]::r)=_;unfold zet;rw[yL (by rw[o.is];decide)];rfl
 ·unfold zet;have hk:=(C.name s (h s qz7)).1;rw[yK (by show ¬(opK (c s)&&_)=true;rw[zdH (.inl hk)];simp)]
  exact key l s (h s qz7) (λq hq=>h q (qz8 _ hq)) r
theorem zFJ{x:Node}{k:Int}(h:x.Kind=k)(hk:k=10\/k=39)(ho:zX x=true)(hs: ∀y∈x.L,SR c y\/FN c y)(r:zB):FUNC k (T c (zgb x (tkL x.L)).tail++r) (x,r):=by
 have o1:=zao C (w:=[40]) (by decide);have o2:=zao C (w:=[123]) (by decide);have o3:=zao C (w:=[125]) (by decide)
 have hns: ∀s∈x.Names,zaP s=true:=by
  simp only[zX,qz4]at ho;simpa using ho.2.2.2.2
 have hnm:(k=39->zaP x.Name=true)/\(x.Name=[]\/zaP x.Name=true):=by
  have:=(zaT ho).1;rcases hk with rfl|rfl
  ·refine⟨λe=>absurd e (by decide),?_⟩;simpa [zI,h]using this
  ·have:zaP x.Name=true:=by simpa [zI,h]using this
   exact⟨λ_=>this,.inr this⟩
 have e:=zSF h hk ho;have hst:=zwM C true x.L (λy hy=>(hs y hy).imp id λq=>⟨rfl,q⟩) (c [125]::r) (by rw[o3.is];rfl) (o3.zfn _ (by decide))
 have hp:=zLH C x.Names hns (c [123]::(T c (zad (tkL x.L))++c [125]::r))
 have ht:T c (zgb x (tkL x.L)).tail++r=T c (if(x.Name==([]:Str))=true then[]else[x.Name])++c [40]::(T c (namesT x.Names)++c [41]::c [123]::(T c (zad (tkL x.L))++c [125]::r)):=by
  simp[zgb,T]
 rw[ht]
 have hm:(if(zaa (T c (if(x.Name==([]:Str))=true then[]else[x.Name])++c [40]::(T c (namesT x.Names)++c [41]::c [123]::(T c (zad (tkL x.L))++c [125]::r)))==1)=true then gt (tText (T c (if(x.Name==([]:Str))=true then[]else[x.Name])++c [40]::(T c (namesT x.Names)++c [41]::c [123]::(T c (zad (tkL x.L))++c [125]::r))),(T c (if(x.Name==([]:Str))=true then[]else[x.Name])++c [40]::(T c (namesT x.Names)++c [41]::c [123]::(T c (zad (tkL x.L))++c [125]::r))).tail)else if(k==39)=true then bad (T c (if(x.Name==([]:Str))=true then[]else[x.Name])++c [40]::(T c (namesT x.Names)++c [41]::c [123]::(T c (zad (tkL x.L))++c [125]::r)))else gt (([]:Str),T c (if(x.Name==([]:Str))=true then[]else[x.Name])++c [40]::(T c (namesT x.Names)++c [41]::c [123]::(T c (zad (tkL x.L))++c [125]::r))))=gt (x.Name,c [40]::(T c (namesT x.Names)++c [41]::c [123]::(T c (zad (tkL x.L))++c [125]::r))):=by
  rcases hnm.2 with n|n
  ·have hk39:(k==39)=false:=by
    rw[yH];rintro rfl;have:=hnm.1 rfl;rw[n]at this;exact absurd this (by decide)
   rw[n];show(if(zaa (c [40]::_)==1)=true then _ else _)=_;rw[(o1.kinds _).1,hk39];rfl
  ·have hne:(x.Name==([]:Str))=false:=by
    rw[yH];intro e;rw[e]at n;exact absurd n (by decide)
   obtain⟨k1,k2⟩:=C.name x.Name n;rw[hne];show(if((c x.Name).kind==1)=true then gt ((c x.Name).text,_)else _)=_;rw[k1,k2];rfl
 have:=zXY hm (by rw[o1.is];decide) hp (by rw[o2.is];decide) hst (by rw[o3.is];decide)
 rw[<-e]at this;exact this
theorem zLD{x:Node}(h:x.Kind=25)(ho:zX x=true)(hs: ∀y∈x.L,SR c y)(r:zB):BLOCK (T c (tkN x).st++r) (x,r):=by
 have o2:=zao C (w:=[123]) (by decide);have o3:=zao C (w:=[125]) (by decide);have e:=zej h ho (by decide) (by decide);rw[zCu h,zbk,zbu,yI,yE];have hst:=zwM C false x.L (λy hy=> .inl (hs y hy)) (c [125]::r) (by rw[o3.is];rfl) (o3.zfn _ (by decide))
 have:=zUv (t:=c [123]::(T c (zad (tkL x.L))++c [125]::r)) (by rw[o2.is];decide) hst (by rw[o3.is];decide)
 rw[<-e]at this;exact this
theorem zoY{k:Node}(R:RT c k)(r:zB):HEAD (T c ([40]::(atT (tkN k) 0 false++[[41]]))++r) (k,r):=by
 have o1:=zao C (w:=[40]) (by decide);have o2:=zao C (w:=[41]) (by decide);rw[zbk,zbu,yI,yE];show HEAD (c [40]::(T c (atT (tkN k) 0 false)++c [41]::r)) (k,r);exact r_head (t:=c [40]::(T c (atT (tkN k) 0 false)++c [41]::r)) (t1:=c [41]::r) (by rw[o1.is];decide) (at_end C R false [41] r (by decide) (by decide) 0) (by rw[o2.is];decide)
theorem vars_read(no:Bool)(ls:List Node)(hne:ls≠[])(h: ∀d∈ls,d=ndN 23 d.Name d.L/\zaP d.Name=true/\(d.L=[]\/∃a,d.L=[a]/\RT c a))(r:zB)(h1:tIs [44] r=false)(h2:tIs [61] r=false)(h3:zce no r<=0):
  VARS no (T c (commas (declT no) (tkL ls))++r) (ls,r):=by
 have oc:=zao C (w:=[44]) (by decide);have oe:=zao C (w:=[61]) (by decide)
 have hd: ∀d∈ls,∀t:zB,tIs [61] t=false->zce no t<=0->∃q,T c (declT no (tkN d))++t=c d.Name::q/\(c d.Name).kind=1/\(c d.Name).text=d.Name/\zH8 no q (d.L,t):=by
  intro d hd t ht hf;obtain⟨e,n,hl⟩:=h d hd;obtain⟨k1,k2⟩:=C.name d.Name n;unfold declT;rw[zdF,zjE];rcases hl with hl| ⟨a,hl,R⟩
  ·rw[hl];exact⟨t,by simp[tkL,k0,T],k1,k2,zNW ht⟩
  ·rw[hl,tk0];exact⟨T c ([61]::atT (tkN a) 1 no)++t,rfl,k1,k2,zUM (by show tIs [61] (c [61]::_)=true;rw[oe.is];decide) (zny C R no t hf 1 (by decide))⟩
 have key: ∀(l:List Node),(∀k∈l,k∈ls)->∀y,y∈ls->VARS no (T c (declT no (tkN y)++zca (declT no) (tkL l))++r) (y::l,r):=by
  intro l;induction l with
  |nil=>
   intro _ y hy;have e:zca (declT no) (tkL [])=[]:=by simp[zca,tkL]
   rw[e,List.append_nil];obtain⟨q,e1,k1,k2,hq⟩:=hd y hy r h2 h3;rw[e1];have:=zJw k1 hq h1;rw[k2,<-(h y hy).1]at this;exact this
  |cons z l ih=>
   intro hl y hy;have e:zca (declT no) (tkL (z::l))=[44]::(declT no (tkN z)++zca (declT no) (tkL l)):=by simp[zca,tkL]
   rw[e,zbu,yE,zbk,yI];obtain⟨q,e1,k1,k2,hq⟩:=hd y hy (c [44]::(T c (declT no (tkN z)++zca (declT no) (tkL l))++r)) (by rw[oc.is];decide) (by rw[oc.fol];cases no<;>decide)
   rw[e1];have:=zJO k1 hq (by rw[oc.is];decide) (ih (λk hk=>hl k (qz8 _ hk)) z (hl z qz7))
   rw[k2,<-(h y hy).1]at this;exact this
 rcases ls with _| ⟨y,l⟩
 ·exact absurd rfl hne
 ·have e:commas (declT no) (tkL (y::l))=declT no (tkN y)++zca (declT no) (tkL l):=by simp[tkL,commas,zca]
  rw[e];exact key l (λk hk=>qz8 _ hk) y qz7
end
end Go.D08
