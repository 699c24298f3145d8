/- Texts for a statement of this seat. -/
import Derived.Test.YtdapbipagjmolaaGreatDoorMc3
import Derived.Lib.ItoaLen
set_option linter.unusedSectionVars false
set_option linter.unusedVariables false
set_option linter.unusedSimpArgs false
set_option linter.unnecessarySimpa false
namespace Go.D08.U
open Go Go.Gw Go.Dn Go.Proofs
set_option maxRecDepth 100000
def enc1(n:Nat):Str:=[UInt8.ofNat (n/256),UInt8.ofNat (n%256)]
def zc6(l:List Nat):Str:=l.flatMap enc1
theorem zg5(l:List Nat):(zc6 l).length=2*l.length:=by
 induction l with
 |nil=>rfl
 |cons n l ih=>unfold zc6 at ih⊢;rw[List.flatMap_cons,qz5,ih];simp[enc1];omega
def hexV(b:UInt8):Option Nat:=
 if 48<=b.toNat/\b.toNat<=57 then some (b.toNat -48)else if 97<=b.toNat/\b.toNat<=102 then some (b.toNat -87)else if 65<=b.toNat/\b.toNat<=70 then some (b.toNat -55)else none
def hexN:Nat->Str->Nat->Option Nat
 |0,_,a=>some a
 |_+1,[],_=>none
 |k+1,b::r,a=>match hexV b with
  |none=>none
  |some d=>hexN k r (16*a+d)
theorem zz5{b:UInt8}{d:Nat}(h:hexV b=some d):d<16:=by
 unfold hexV at h;split at h
 ·simp only[Option.some.injEq]at h;omega
 ·split at h
  ·simp only[Option.some.injEq]at h;omega
  ·split at h
   ·simp only[Option.some.injEq]at h;omega
   ·cases h
theorem zpo: ∀(k:Nat) (s:Str) (a n:Nat),hexN k s a=some n->n<16^k*(a+1)
 |0,s,a,n,h=>by simp only[hexN,Option.some.injEq]at h;omega
 |k+1,[],a,n,h=>by cases h
 |k+1,b::r,a,n,h=>by
  simp only[hexN]at h;cases hv:hexV b with
  |none=>rw[hv]at h;cases h
  |some d=>
   rw[hv]at h;have h1:=zpo k r _ n h;have h2:=zz5 hv;have h3:16^k*(16*a+d+1)<=16^k*(16*(a+1)):=Nat.mul_le_mul_left _ (by omega);have h4:16^(k+1)*(a+1)=16^k*(16*(a+1)):=by rw[Nat.pow_succ,Nat.mul_assoc]
   omega
def zju(b:UInt8):Option Nat:=
 if b=110 then some 10 else if b=116 then some 9 else if b=114 then some 13 else if b=98 then some 8 else if b=102 then some 12 else if b=118 then some 11
 else if b.toNat>127\/b=13\/b=120\/b=117\/(48<=b.toNat/\b.toNat<=57)\/b=10 then none else some b.toNat
def zk1:Str->Option (List Nat×Nat)
 | []=>none
 |c::r=>
  if c=10 then some ([],1)
  else if c=48 then(match r with
   | []=>some ([0],1)
   |d::_=>if 48<=d.toNat/\d.toNat<=57 then none else some ([0],1))
  else if c=120 then(hexN 2 r 0).map λn=>([n],3)
  else if c=117 then(hexN 4 r 0).map λn=>([n],5)
  else(zju c).map λn=>([n],1)
theorem zqQ: ∀(k:Nat) (s:Str) (a n:Nat),hexN k s a=some n->k<=s.length
 |0,s,a,n,h=>by omega
 |k+1,[],a,n,h=>by cases h
 |k+1,b::r,a,n,h=>by
  simp only[hexN]at h;cases hv:hexV b with
  |none=>rw[hv]at h;cases h
  |some d=>rw[hv]at h;have:=zqQ k r _ n h;simp only[qz3];omega
theorem zAX{b:UInt8}{n:Nat}(h:zju b=some n):n<256:=by
 have hb:=b.toNat_lt;unfold zju at h
 repeat' split at h
 all_goals first| (cases h;done)| (simp only[Option.some.injEq]at h;omega)
theorem zwZ{s:Str}{us:List Nat}{k:Nat}(h:zk1 s=some (us,k)):(∀n∈us,n<65536)/\us.length<=1/\1<=k/\k<=s.length:=by
 cases s with
 |nil=>cases h
 |cons c r=>
  simp only[zk1]at h;by_cases h1:c=10
  ·rw[yL h1]at h;cases h;simp
  ·rw[yK h1]at h;by_cases h2:c=48
   ·rw[yL h2]at h;cases r with
    |nil=>cases h;simp
    |cons d r=>
     simp only at h;split at h
     ·cases h
     ·cases h;simp
   ·rw[yK h2]at h;by_cases h3:c=120
    ·rw[yL h3]at h;cases hn:hexN 2 r 0 with
     |none=>rw[hn]at h;cases h
     |some n=>
      rw[hn]at h;cases h;have:=zpo _ _ _ _ hn;have:=zqQ _ _ _ _ hn;simp;omega
    ·rw[yK h3]at h;by_cases h4:c=117
     ·rw[yL h4]at h;cases hn:hexN 4 r 0 with
      |none=>rw[hn]at h;cases h
      |some n=>
       rw[hn]at h;cases h;have:=zpo _ _ _ _ hn;have:=zqQ _ _ _ _ hn;simp;omega
     ·rw[yK h4]at h;cases hn:zju c with
      |none=>rw[hn]at h;cases h
      |some n=>
       rw[hn]at h;cases h;have:=zAX hn;simp;omega
/-! ### the program's digits -/
theorem ziA{α:Type}(p:α->Bool): ∀l:List α,l.dropWhile p=[]↔∀x∈l,p x=true
 | []=>by simp
 |a::l=>by
  cases h:p a with
  |true=>rw[List.dropWhile_cons_of_pos h,ziA p l];simp[h]
  |false=>
   rw[List.dropWhile_cons_of_neg (by simp[h])];simp[h]
theorem zo6{α:Type}(p:α->Bool): ∀(l:List α) (b:α) (r:List α),l.dropWhile p=b::r->p b=false
 | [],b,r,h=>by cases h
 |a::l,b,r,h=>by
  cases hp:p a with
  |true=>rw[List.dropWhile_cons_of_pos hp]at h;exact zo6 p l b r h
  |false=>
   rw[List.dropWhile_cons_of_neg (by simp[hp])]at h;cases h;exact hp
theorem zBU(l cs:Str):(Lib.trimS l cs==([]:Str))=l.all (cs.contains ·):=by
 unfold Lib.trimS Lib.trimLeftS Lib.trimRightS;rw[Bool.eq_iff_iff];rw[beq_iff_eq,ziA,List.all_eq_true];constructor
 ·intro h;rcases hd:l.reverse.dropWhile (cs.contains ·)with _| ⟨b,r⟩
  ·rw[ziA]at hd;intro x hx;exact hd x (by simpa using hx)
  ·exfalso;have h1:=zo6 _ _ _ _ hd;have h2:=h b (by rw[hd];simp)
   rw[h1]at h2;cases h2
 ·intro h x hx;have:=(List.dropWhile_suffix (cs.contains ·) (l:=l.reverse)).subset (by simpa using hx);exact h x (by simpa using this)
def zxH:Str:=[48,49,50,51,52,53,54,55,56,57,97,98,99,100,101,102,65,66,67,68,69,70]
theorem zCh: ∀b:Fin 256,zxH.contains (UInt8.ofNat b.val)=(hexV (UInt8.ofNat b.val)).isSome:=by decide+kernel
theorem zJd(b:UInt8): ∃k:Fin 256,b=UInt8.ofNat k.val:=⟨⟨b.toNat,b.toNat_lt⟩,by simp⟩
theorem zxU(b:UInt8):zxH.contains b=(hexV b).isSome:=by
 obtain⟨k,rfl⟩:=zJd b;exact zCh k
theorem zt5: ∀(s:Str) (a:Nat),(hexN s.length s a).isSome=s.all (zxH.contains ·)
 | [],a=>rfl
 |b::r,a=>by
  simp only[qz3,hexN,List.all_cons,zxU];cases hv:hexV b with
  |none=>simp
  |some d=>
   simp only[Option.isSome_some,Bool.true_and];rw[zt5 r];congr 1;funext x;exact zxU x
theorem ztb: ∀(k:Nat) (s:Str) (a:Nat),k<=s.length->hexN k (s.take k) a=hexN k s a
 |0,s,a,_=>rfl
 |k+1,[],a,h=>by simp at h
 |k+1,b::r,a,h=>by
  simp only[List.take_succ_cons,hexN];cases hexV b with
  |none=>rfl
  |some d=>simp only;exact ztb k r _ (by simpa using h)
def zd5(q:UInt8):Nat->Str->List Nat->Option (List Nat×Nat)
 |0,_,_=>none
 |_+1,[],_=>none
 |m+1,c::r,acc=>
  if c=q then some (acc,r.length)
  else if c=10\/c=13\/c.toNat>127 then none
  else if c=92 then(match zk1 r with
   |none=>none
   |some (us,k)=>zd5 q m (r.drop k) (acc++us))
  else zd5 q m r (acc++[c.toNat])
def zcB(s:Str):Str×Int×Int:=
 match s with
 | []=>([],0,10)
 |q::r=>if q=39\/q=34 then(match zd5 q (r.length+1) r []with
   |none=>([],0,10)
   |some (us,k)=>(zc6 us,((s.length -k:Nat):Int),0))else([],0,10)
theorem znT(b:UInt8)(n:Nat)(h:n<256):b=UInt8.ofNat n↔b.toNat=n:=by
 constructor
 ·intro e;subst e;simp[UInt8.toNat_ofNat'];omega
 ·intro e;apply UInt8.toNat_inj.mp;simp[UInt8.toNat_ofNat'];omega
theorem zk3(a b:Nat):(((a:Nat):Int)==((b:Nat):Int))=decide (a=b):=by
 by_cases h:a=b
 ·simp[h]
 ·simp[h];omega
def okU(l:List Nat):Prop:=∀n∈l,n<65536
def zos(q:UInt8)(s:Str)(m:Nat)(rest:Str)(acc:List Nat):Str×Int×Int:=match zd5 q m rest acc with
 |none=>([],0,10)
 |some (us,k)=>(zc6 us,((s.length -k:Nat):Int),0)
theorem zB0(c:UInt8)(n:Nat)(h:n<256):(((c.toNat:Nat):Int) !=((n:Nat):Int))= !decide (c=UInt8.ofNat n):=by
 simp only[bne,zk3];congr 1;rw[decide_eq_decide];exact(znT c n h).symm
end Go.D08.U
namespace Go.D08.U
open Go Go.Gw Go.Dn Go.Proofs
set_option maxRecDepth 100000
open Go.Proofs
/-! ### numbers, signs, tokens -/
def zfe(base:Nat):Str->Nat->Option Nat
 | [],a=>some a
 |c::r,a=>match hexV c with
  |none=>none
  |some d=>if d<base then zfe base r (a*base+d)else none
def zyz(ds:Str):Option Nat:=
 if 2<ds.length/\(ds.take 2=[48,120]\/ds.take 2=[48,88])then zfe 16 (ds.drop 2) 0
 else if 1<ds.length/\ds.head?=some 48 then none
 else zfe 10 ds 0
def zk2(s:Str):Option (Nat×Nat):=
 if s[zaM s]? =some 46 then none
 else match zyz (s.take (zaM s))with
  |none=>none
  |some n=>if n<=9007199254740991 then some (n,zaM s)else none
def zk9:List Str:=[[61,61,61],[33,61,61]]
def zmk:List Str:=[[60,61],[62,61],[61,61],[33,61],[43,43],[45,45],[38,38],[124,124],[43,61],[45,61],[42,61],[47,61],[37,61]]
def ztH:Str:=[123,125,40,41,91,93,46,59,44,60,62,43,45,42,47,37,33,63,58,61]
def zcq(s:Str):Nat:=
 if 2<s.length/\zk9.contains (s.take 3)=true then 3
 else if 1<s.length/\zmk.contains (s.take 2)=true then 2
 else if ztH.contains (s.headD 0)then 1 else 0
def zBx:List Str:=[[98,114,101,97,107],[99,97,115,101],[99,97,116,99,104],[99,108,97,115,115],[99,111,110,115,116],[99,111,110,116,105,110,117,101],[100,101,98,117,103,103,101,114],[100,101,102,97,117,108,116],[100,101,108,101,116,101],[100,111],[101,108,115,101],[101,110,117,109],[101,120,112,111,114,116],[101,120,116,101,110,100,115],[102,97,108,115,101],[102,105,110,97,108,108,121],[102,111,114],[102,117,110,99,116,105,111,110],[105,102],[105,109,112,108,101,109,101,110,116,115],[105,109,112,111,114,116],[105,110],[105,110,115,116,97,110,99,101,111,102],[105,110,116,101,114,102,97,99,101],[108,101,116],[110,101,119],[110,117,108,108],[112,97,99,107,97,103,101],[112,114,105,118,97,116,101],[112,114,111,116,101,99,116,101,100],[112,117,98,108,105,99],[114,101,116,117,114,110],[115,116,97,116,105,99],[115,117,112,101,114],[115,119,105,116,99,104],[116,104,105,115],[116,104,114,111,119],[116,114,117,101],[116,114,121],[116,121,112,101,111,102],[118,97,114],[118,111,105,100],[119,104,105,108,101],[119,105,116,104],[121,105,101,108,100]]
def zp0(s:Str):Bool:=zBx.contains s
abbrev Tok:=zl
def zhj(s:Str):Option (Tok×Nat):=
 match s with
 | []=>none
 |c::_=>
  if isLet c=true then
    if 32<zaM s then none else some ({Kind:=if zp0 (s.take (zaM s))=true then 2 else 1,Text:=s.take (zaM s),Num:=0,At:=0,Fresh:=false},zaM s)
  else if zlf c=true then(zk2 s).map λp=>({Kind:=3,Text:=[],Num:=(p.1:Int),At:=0,Fresh:=false},p.2)
  else if c=39\/c=34 then
    (match zcB s with
    | (u,n,_)=>if n=0 then none else some ({Kind:=4,Text:=u,Num:=0,At:=0,Fresh:=false},n.toNat))
  else if zcq s=0 then none else some ({Kind:=5,Text:=s.take (zcq s),Num:=0,At:=0,Fresh:=false},zcq s)
def zAM(f:Bool):Tok:={Kind:=0,Text:=[],Num:=0,At:=0,Fresh:=f}
def Tok.fresh(t:Tok)(f:Bool):Tok:={t with Fresh:=f}
def Tok.at_(t:Tok)(n:Int):Tok:={t with At:=n}
def zch:Nat->Str->Bool->List (Tok×Nat)⊕Nat
 |0,_,_=> .inr 0
 |m+1,s,f=>match zat (s.length+1) s f with
  | (r,f',ok)=>
    if ok=false then .inr r.length
    else if r=[]then .inl [(zAM f',0)]
    else match zhj r with
      |none=> .inr r.length
      |some (t,n)=>match zch m (r.drop n) false with
        | .inl l=> .inl ((t.fresh f',r.length)::l)
        | .inr k=> .inr k
def zeQ(len:Nat)(l:List (Tok×Nat)):List Tok:=l.map λp=>p.1.at_ ((len -p.2:Nat):Int)
def zcd(s:Str):List Tok×Int×Int:=
 if 4096<s.length then([],0,2)
 else match zch (s.length+1) s false with
  | .inl l=>(zeQ s.length l,0,0)
  | .inr k=>([],((s.length -k:Nat):Int),60)
/-! ### how much a token takes -/
theorem zEw{s:Str}{n k:Nat}(h:zk2 s=some (n,k)):k=zaM s:=by
 unfold zk2 at h;split at h
 ·cases h
 ·split at h
  · cases h
  · split at h
    · cases h;rfl
    · cases h
theorem zto(q:UInt8): ∀(m:Nat) (r:Str) (acc us:List Nat) (k:Nat),zd5 q m r acc=some (us,k)->k<r.length
 |0,_,_,_,_,h=>by cases h
 |m+1,[],_,_,_,h=>by cases h
 |m+1,c::r,acc,us,k,h=>by
  unfold zd5 at h;split at h
  · cases h;simp
  · split at h
    · cases h
    · split at h
      · split at h
        ·cases h
        ·rename_i us' k' _;have:=zto q m _ _ _ _ h;simp only[List.length_drop,qz3]at this⊢;omega
      · have:=zto q m _ _ _ _ h;simp only[qz3];omega
theorem zwX{s:Str}{u:Str}{n e:Int}(h:zcB s=(u,n,e)):0<=n/\n<=(s.length:Int):=by
 unfold zcB at h;split at h
 ·cases h;simp
 ·rename_i q r;split at h
  · split at h
    · cases h;constructor<;>omega
    · cases h;constructor<;>omega
  · cases h;constructor<;>omega
theorem zuI(c:UInt8)(r:Str):zcq (c::r)<=(c::r).length:=by
 unfold zcq;split
 ·rename_i h;simp only[qz3]at h⊢;omega
 ·split
  · rename_i h;simp only[qz3]at h⊢;omega
  · split<;>simp
theorem zi5{s:Str}{t:Tok}{n:Nat}(h:zhj s=some (t,n)):1<=n/\n<=s.length/\1<=t.Kind/\t.Kind<=5/\t.At=0/\t.Fresh=false:=by
 unfold zhj at h;split at h
 ·cases h
 ·rename_i c r;have hrow:=zkZ (c::r);have hr1:zix c=true->1<=zaM (c::r):=λe=>by rw[zh2,yL e];omega
  split at h
  · rename_i hl;split at h
    · cases h
    · cases h;have:=hr1 (by simp[zix,hl]);refine⟨this,hrow,?_,?_,rfl,rfl⟩<;>(simp only;split<;>decide)
  · split at h
    · rename_i hd;cases hn:zk2 (c::r)with
      |none=>rw[hn]at h;cases h
      |some p=>
        obtain⟨m,k⟩:=p;rw[hn]at h;cases h;have hk:=zEw hn;subst hk;exact⟨hr1 (by simp[zix,hd]),hrow,Int.le_of_lt_add_one (by dsimp only;omega),by dsimp only;omega,rfl,rfl⟩
    · split at h
      · obtain⟨u,n',e⟩:Str×Int×Int:=zcB (c::r);generalize hq:zcB (c::r)=q at h;obtain⟨u,n',e⟩:=q;have:=zwX hq;simp only at h;split at h
        ·cases h
        ·cases h;refine⟨by omega,by omega,Int.le_of_lt_add_one (by dsimp only;omega),by dsimp only;omega,rfl,rfl⟩
      · split at h
        ·cases h
        ·cases h;exact⟨by omega,zuI c r,Int.le_of_lt_add_one (by dsimp only;omega),by dsimp only;omega,rfl,rfl⟩
theorem zl4: ∀(p s b:Str),(10:UInt8)∉p->p.isPrefixOf (s++10::b)=p.isPrefixOf s
 | [],s,b,_=>by cases s<;>rfl
 |a::p,[],b,h=>by
  simp only[yP,not_or]at h;have:(a==(10:UInt8))=false:=yH.2 (λe=>h.1 e.symm);simp[List.isPrefixOf,this]
 |a::p,c::s,b,h=>by
  simp only[yP,not_or]at h;simp only[yI,List.isPrefixOf,zl4 p s b h.2]
theorem zuP(b:Str): ∀s:Str,zaM (s++10::b)=zaM s
 | []=>by rw[List.nil_append,zh2,yK (by decide)];rfl
 |c::s=>by rw[yI,zh2,zh2,zuP b s]
theorem zzs(b:Str): ∀(s:Str) (n:Nat),zhm s=some n->zhm (s++10::b)=some n
 | [],n,h=>by cases h
 |c::s,n,h=>by
  rw[yI,zhm,<-yI,zl4 _ _ _ (by decide)];rw[zhm]at h;split at h
  ·rename_i hp;rw[yL hp];exact h
  ·rename_i hp;rw[yK hp];cases he:zhm s with
   |none=>rw[he]at h;cases h
   |some k=>rw[he]at h;rw[zzs b s k he];exact h
theorem zj2: ∀(m m':Nat) (s:Str) (f:Bool),s.length<m->s.length<m'->zat m s f=zat m' s f
 |0,_,s,f,h,_=>by omega
 |_+1,0,s,f,_,h=>by omega
 |m+1,m'+1,[],f,_,_=>rfl
 |m+1,m'+1,c::r,f,h,h'=>by
  simp only[qz3]at h h';have e1: ∀f,zat m r f=zat m' r f:=λf=>zj2 m m' r f (by omega) (by omega)
  have hd:([47,47]:Str).isPrefixOf (c::r)=true->zat m ((c::r).dropWhile (λx=> !zbv x)) f=zat m' ((c::r).dropWhile (λx=> !zbv x)) f:=by
   intro hp
   have hc:c=47:=by
    simp only[List.isPrefixOf,qz4,beq_iff_eq]at hp;exact hp.1.symm
   have hl:=zg2 (λx=> !zbv x) r
   have:(c::r).dropWhile (λx=> !zbv x)=r.dropWhile (λx=> !zbv x):=by
    subst hc;rw[List.dropWhile_cons,yL (by decide)]
   rw[this];exact zj2 m m' _ f (by omega) (by omega)
  have e2: ∀n f,zat m ((c::r).drop (n+4)) f=zat m' ((c::r).drop (n+4)) f:=by
   intro n f;have:((c::r).drop (n+4)).length<=r.length:=by simp only[List.length_drop,qz3];omega
   exact zj2 m m' _ f (by omega) (by omega)
  unfold zat;rw[e1,e1];split
  ·rfl
  ·split
   ·rfl
   ·split
    ·rename_i hp;exact hd hp
    ·split
     ·split
      ·rfl
      ·exact e2 _ _
     ·rfl
theorem zhO: ∀(m:Nat) (s:Str) (f:Bool),zat m s true=((zat m s f).1,true,(zat m s f).2.2)
 |0,s,f=>rfl
 |m+1,[],f=>rfl
 |m+1,c::r,f=>by
  unfold zat;split
  ·exact zhO m r true
  ·split
   ·exact zhO m r f
   ·split
    ·exact zhO m _ f
    ·split
     ·split
      ·rfl
      ·rw[Bool.true_or];exact zhO m _ _
     ·rfl
theorem ziU(b:Str): ∀(m:Nat) (s:Str) (f:Bool) (r:Str) (f':Bool),s.length<m->zat m s f=(r,f',true)->∀M,(s++10::b).length<M->
  (r≠[]->zat M (s++10::b) f=(r++10::b,f',true))/\(r=[]->zat M (s++10::b) f=zat (b.length+1) b true)
 |0,s,f,r,f',h,_=>by omega
 |m+1,[],f,r,f',_,h=>by
  intro M hM;cases h;refine⟨λe=>absurd rfl e,λ_=>?_⟩;cases M with
  |zero=>omega
  |succ M=>
   rw[List.nil_append,zat,yL (by decide)];simp only[List.nil_append,qz3]at hM;exact zj2 _ _ _ _ (by omega) (by omega)
 |m+1,c::s,f,r,f',hl,h=>by
  intro M hM;cases M with
  |zero=>omega
  |succ M=>
   simp only[qz3,yI]at hl hM;have hs:(s++10::b).length<M:=by omega
   rw[yI];rw[zat]at h⊢;split at h
   ·rename_i hn;rw[yL hn];exact ziU b m s true r f' (by omega) h M hs
   ·rename_i hn;rw[yK hn];split at h
    ·rename_i hb;rw[yL hb];exact ziU b m s f r f' (by omega) h M hs
    ·rename_i hb;rw[yK hb,<-yI,zl4 _ _ _ (by decide),zl4 _ _ _ (by decide)];split at h
     ·rename_i hp;rw[yL hp]
      have hc:c=47:=by
       simp only[List.isPrefixOf,qz4,beq_iff_eq]at hp;exact hp.1.symm
      have hlen:=zg2 (λx=> !zbv x) s
      have e1:(c::s).dropWhile (λx=> !zbv x)=s.dropWhile (λx=> !zbv x):=by
       subst hc;rw[List.dropWhile_cons,yL (by decide)]
      rw[e1]at h
      have e2:(c::s++10::b).dropWhile (λx=> !zbv x)=s.dropWhile (λx=> !zbv x)++10::b:=by
       rw[List.dropWhile_append,e1];have e3:(10::b).dropWhile (λx=> !zbv x)=10::b:=by rw[List.dropWhile_cons,yK (by decide)]
       split
       ·rename_i he;rw[e3];have:s.dropWhile (λx=> !zbv x)=[]:=by simpa using he
        rw[this];rfl
       ·rfl
      rw[e2];refine ziU b m _ f r f' (by omega) h M ?_;simp only[qz5,qz3]at hs⊢;omega
     ·rename_i hp;rw[yK hp];split at h
      ·rename_i hq;rw[yL hq];split at h
       ·cases h
       ·rename_i n he;have hle:=zwK _ _ he
        have hlen2:2<=(c::s).length:=by
         cases s with
         |nil=>simp at hle
         |cons d s=>simp
        have ed:(c::s++10::b).drop 2=(c::s).drop 2++10::b:=List.drop_append_of_le_length hlen2;simp only[List.length_drop]at hle;rw[ed,zzs b _ n he];simp only;have e4:(c::s++10::b).drop (n+4)=(c::s).drop (n+4)++10::b:=List.drop_append_of_le_length (by omega);have e5:((c::s).drop 2++10::b).take n=((c::s).drop 2).take n:=List.take_append_of_le_length (by simp only[List.length_drop];omega)
        rw[e4,e5];have hlt:((c::s).drop (n+4)).length<=s.length:=by simp only[List.length_drop,qz3];omega
        refine ziU b m _ _ r f' (by omega) h M ?_;simp only[qz5,qz3]at hs⊢;omega
      ·rename_i hq;rw[yK hq];cases h;exact⟨λ_=>rfl,λe=>by cases e⟩
/-! ### a token -/
theorem zDB(s b:Str):zk2 (s++10::b)=zk2 s:=by
 unfold zk2;rw[zuP];have hle:=zkZ s;have e1:(s++10::b).take (zaM s)=s.take (zaM s):=List.take_append_of_le_length hle;rw[e1]
 have e2:((s++10::b)[zaM s]? =some 46)=(s[zaM s]? =some 46):=by
  by_cases h:zaM s<s.length
  ·rw[yF h]
  ·have h1:zaM s=s.length:=by omega
   rw[h1,yG (yJ _)];simp
 simp only[e2]
theorem zuL(t:Str): ∀(k:Nat) (s:Str) (a n:Nat),hexN k s a=some n->hexN k (s++t) a=some n
 |0,s,a,n,h=>h
 |k+1,[],a,n,h=>by cases h
 |k+1,c::s,a,n,h=>by
  simp only[hexN,yI]at h⊢;split at h
  ·cases h
  ·rename_i d hd;simp only[zuL t k s _ n h]
theorem zDu(b:Str)(r:Str)(p:List Nat×Nat)(h:zk1 r=some p):zk1 (r++10::b)=some p:=by
 cases r with
 |nil=>cases h
 |cons c r=>
  rw[yI];unfold zk1 at h⊢;dsimp only at h⊢;split at h
  ·rename_i hc;rw[yL hc];exact h
  ·rename_i hc;rw[yK hc];split at h
   ·rename_i h0;rw[yL h0];cases r with
    |nil=>rw[<-h];rfl
    |cons d r=>exact h
   ·rename_i h0;rw[yK h0];split at h
    ·rename_i hx;rw[yL hx];cases he:hexN 2 r 0 with
     |none=>rw[he]at h;cases h
     |some n=>rw[he]at h;rw[zuL _ 2 r 0 n he];exact h
    ·rename_i hx;rw[yK hx];split at h
     ·rename_i hu;rw[yL hu];cases he:hexN 4 r 0 with
      |none=>rw[he]at h;cases h
      |some n=>rw[he]at h;rw[zuL _ 4 r 0 n he];exact h
     ·rename_i hu;rw[yK hu];exact h
theorem ztA(q:UInt8)(b:Str): ∀(m:Nat) (r:Str) (acc us:List Nat) (k:Nat),zd5 q m r acc=some (us,k)->∀M,m<=M->zd5 q M (r++10::b) acc=some (us,k+b.length+1)
 |0,_,_,_,_,h,_,_=>by cases h
 |m+1,[],_,_,_,h,_,_=>by cases h
 |m+1,c::r,acc,us,k,h,M,hM=>by
  cases M with
  |zero=>omega
  |succ M=>
   rw[yI];rw[zd5]at h⊢;split at h
   ·rename_i hc;rw[yL hc];cases h;simp;omega
   ·rename_i hc;rw[yK hc];split at h
    ·cases h
    ·rename_i hb;rw[yK hb];split at h
     ·rename_i h92;rw[yL h92];cases he:zk1 r with
      |none=>rw[he]at h;cases h
      |some p=>
       obtain⟨us',k'⟩:=p;rw[he]at h;rw[zDu b r _ he];simp only at h⊢;have hk:=(zwZ he).2.2.2;rw[List.drop_append_of_le_length hk];exact ztA q b m _ _ us k h M (by omega)
     ·rename_i h92;rw[yK h92];exact ztA q b m _ _ us k h M (by omega)
theorem zBz(s b:Str){u:Str}{n e:Int}(h:zcB s=(u,n,e))(hn:n≠0):zcB (s++10::b)=(u,n,e):=by
 cases s with
 |nil=>simp only[zcB]at h;cases h;exact absurd rfl hn
 |cons q r=>
  rw[yI];rw[zcB]at h⊢;split at h
  ·rename_i hq;rw[yL hq];cases hg:zd5 q (r.length+1) r []with
   |none=>rw[hg]at h;cases h;exact absurd rfl hn
   |some p=>
    obtain⟨us,k⟩:=p;rw[hg]at h;rw[ztA q b _ _ _ _ _ hg ((r++10::b).length+1) (by simp only[qz5];omega)]
    have hk:=zto q _ _ _ _ _ hg;simp only[Prod.mk.injEq]at h⊢;obtain⟨h1,h2,h3⟩:=h;refine⟨h1,?_,h3⟩;rw[<-h2];simp only[qz3,qz5];omega
  ·cases h;exact absurd rfl hn
theorem zy1{s b:Str}{k:Nat}(h:s.length<k):(10:UInt8)∈(s++10::b).take k:=by
 rw[List.mem_iff_getElem?];refine⟨s.length,?_⟩;rw[List.getElem?_take_of_lt h,yG (yJ _)];simp
theorem zuj{L:List Str}(hL: ∀w∈L,(10:UInt8)∉w){x:Str}(h:(10:UInt8)∈x):L.contains x=false:=by
 rw[<-Bool.not_eq_true,List.contains_iff_mem];intro hm;exact hL x hm h
theorem zBq(c:UInt8)(s b:Str):zcq ((c::s)++10::b)=zcq (c::s):=by
 unfold zcq
 have e3:(2< ((c::s)++10::b).length/\zk9.contains (((c::s)++10::b).take 3)=true)=(2< (c::s).length/\zk9.contains ((c::s).take 3)=true):=by
  by_cases h:2< (c::s).length
  ·rw[List.take_append_of_le_length (by omega)];have:2< ((c::s)++10::b).length:=by simp only[qz5];omega
   simp only[this,h,true_and]
  ·rw[zuj (L:=zk9) (by decide) (zy1 (by omega))];rw[eq_iff_iff];exact⟨λe=>(by cases e.2),λe=>absurd e.1 h⟩
 have e2:(1< ((c::s)++10::b).length/\zmk.contains (((c::s)++10::b).take 2)=true)=(1< (c::s).length/\zmk.contains ((c::s).take 2)=true):=by
  by_cases h:1< (c::s).length
  ·rw[List.take_append_of_le_length (by omega)];have:1< ((c::s)++10::b).length:=by simp only[qz5];omega
   simp only[this,h,true_and]
  ·rw[zuj (L:=zmk) (by decide) (zy1 (by omega))];rw[eq_iff_iff];exact⟨λe=>(by cases e.2),λe=>absurd e.1 h⟩
 simp only[e3,e2];rfl
theorem zDN(s b:Str){t:Tok}{n:Nat}(h:zhj s=some (t,n)):zhj (s++10::b)=some (t,n):=by
 cases s with
 |nil=>cases h
 |cons c s=>
  have hle:=zkZ (c::s);have hr:=zuP b (c::s);have hn:=zDB (c::s) b;have hs:=zBq c s b;have ht:((c::s)++10::b).take (zaM (c::s))=(c::s).take (zaM (c::s)):=List.take_append_of_le_length hle;have hg:=zuI c s;have ht2:((c::s)++10::b).take (zcq (c::s))=(c::s).take (zcq (c::s)):=List.take_append_of_le_length hg;have hrd:=λ(u:Str) (n e:Int)=>zBz (c::s) b (u:=u) (n:=n) (e:=e)
  rw[yI]at hr hn hs ht ht2 hrd⊢;unfold zhj at h⊢;dsimp only at h⊢;simp only[hr,hn,hs,ht,ht2];split at h
  ·rename_i hl;rw[yL hl];exact h
  ·rename_i hl;rw[yK hl];split at h
   ·rename_i hd;rw[yL hd];exact h
   ·rename_i hd;rw[yK hd];split at h
    ·rename_i hq;rw[yL hq];generalize hx:zcB (c::s)=q at h;obtain⟨u,n',e⟩:=q;simp only at h;split at h
     ·cases h
     ·rename_i hne;rw[hrd u n' e hx hne];simp only;rw[yK hne];exact h
    ·rename_i hq;rw[yK hq];exact h
/-! ### the whole -/
theorem zxf: ∀(m m':Nat) (s:Str) (f:Bool),s.length<m->s.length<m'->zch m s f=zch m' s f
 |0,_,s,f,h,_=>by omega
 |_+1,0,s,f,_,h=>by omega
 |m+1,m'+1,s,f,h,h'=>by
  unfold zch;have hb:=zcn (s.length+1) s f;generalize hq:zat (s.length+1) s f=q at hb;obtain⟨r,f',ok⟩:=q;simp only at hb⊢;split
  ·rfl
  ·split
   ·rfl
   ·cases ho:zhj r with
    |none=>rfl
    |some p=>
     obtain⟨t,n⟩:=p;have hl:=zi5 ho;simp only;rw[zxf m m' (r.drop n) false (by simp only[List.length_drop];omega) (by simp only[List.length_drop];omega)]
theorem zCK{m m':Nat}{s s':Str}{f f':Bool}(h:s.length<m)(h':s'.length<m')(he:zat (s.length+1) s f=zat (s'.length+1) s' f'):zch m s f=zch m' s' f':=by
 cases m with
 |zero=>omega
 |succ m=>
  cases m' with
  |zero=>omega
  |succ m'=>
   have hb:=zcn (s.length+1) s f;have hb':=zcn (s'.length+1) s' f';unfold zch;rw[he]at hb⊢;generalize hq:zat (s'.length+1) s' f'=q at hb hb';obtain⟨r,f2,ok⟩:=q;simp only at hb hb'⊢;split
   ·rfl
   ·split
    ·rfl
    ·cases ho:zhj r with
     |none=>rfl
     |some p=>
      obtain⟨t,n⟩:=p;have hl:=zi5 ho;simp only;rw[zxf m m' (r.drop n) false (by simp only[List.length_drop];omega) (by simp only[List.length_drop];omega)]
theorem zrm: ∀(m:Nat) (s:Str) (f:Bool) (l:List (Tok×Nat)),zch m s f= .inl l->
  ∃l0 f',l=l0++[(zAM f',0)]/\(∀p∈l0,1<=p.1.Kind/\p.1.Kind<=5/\1<=p.2/\p.2<=s.length)/\l0.Pairwise (λp q=>q.2<p.2)
 |0,_,_,_,h=>by cases h
 |m+1,s,f,l,h=>by
  rw[zch]at h;have hb:=zcn (s.length+1) s f;generalize hq:zat (s.length+1) s f=q at h hb;obtain⟨r,f',ok⟩:=q;simp only at h hb;split at h
  ·cases h
  ·split at h
   ·cases h;exact⟨[],f',rfl,by simp,List.Pairwise.nil⟩
   ·split at h
    ·cases h
    ·rename_i hr t n ho;have hl:=zi5 ho;split at h
     ·rename_i l' hc;cases h;obtain⟨l0,f2,rfl,h1,h2⟩:=zrm m _ _ _ hc;refine⟨(t.fresh f',r.length)::l0,f2,rfl,?_,?_⟩
      ·intro p hp;rcases yP.1 hp with rfl|hp
       ·exact⟨hl.2.2.1,hl.2.2.2.1,by simp only;omega,hb⟩
       ·have:=h1 p hp;simp only[List.length_drop]at this;exact⟨this.1,this.2.1,this.2.2.1,by omega⟩
      ·refine List.Pairwise.cons ?_ h2;intro p hp;have:=(h1 p hp).2.2.2;simp only[List.length_drop]at this⊢;omega
     ·cases h
theorem zBS(m:Nat)(s:Str)(f:Bool):zch m s true=match zch m s f with
  | .inl []=> .inl []
  | .inl ((t,k)::l)=> .inl ((t.fresh true,k)::l)
  | .inr k=> .inr k:=by
 cases m with
 |zero=>rfl
 |succ m=>
  unfold zch;rw[zhO _ s f];generalize hq:zat (s.length+1) s f=q;obtain⟨r,f',ok⟩:=q;simp only;split
  ·rfl
  ·split
   ·rfl
   ·cases ho:zhj r with
    |none=>rfl
    |some p=>
     obtain⟨t,n⟩:=p;simp only;cases zch m (r.drop n) false with
     |inl l=>rfl
     |inr k=>rfl
theorem zuw(b:Str): ∀(m:Nat) (s:Str) (f:Bool) (l:List (Tok×Nat)),s.length<m->zch m s f= .inl l->∀M,(s++10::b).length<M->
  zch M (s++10::b) f=match zch (b.length+1) b true with
   | .inl l2=> .inl (l.dropLast.map (λp=>(p.1,p.2+(b.length+1)))++l2)
   | .inr k=> .inr k
 |0,s,f,l,h,_=>by omega
 |m+1,s,f,l,hm,h=>by
  intro M hM;have h0:=h;rw[zch]at h;have hb:=zcn (s.length+1) s f;have hx:=ziU b (s.length+1) s f;generalize hq:zat (s.length+1) s f=q at h hb hx;obtain⟨r,f',ok⟩:=q;simp only at h hb;split at h
  ·cases h
  ·rename_i hok;have hok':ok=true:=by simpa using hok
   subst hok';have hx:=hx r f' (by omega) rfl ((s++10::b).length+1) (by omega);split at h
   ·rename_i hr;cases h;have e:=zCK hM (Nat.lt_succ_self b.length) (hx.2 hr);rw[e];cases zch (b.length+1) b true<;>rfl
   ·rename_i hr;have hx:=hx.1 hr;split at h
    ·cases h
    ·rename_i t n ho;have hl:=zi5 ho;split at h
     ·rename_i l' hc;cases h;cases M with
      |zero=>omega
      |succ M=>
       rw[zch,hx];have hne:r++10::b≠[]:=by simp
       simp only[hne,yA,Bool.true_eq_false,zDN r b ho];rw[List.drop_append_of_le_length hl.2.1];have hd:(r.drop n).length<m:=by simp only[List.length_drop];omega
       rw[zuw b m (r.drop n) false l' hd hc M (by simp only[qz5,qz3,List.length_drop]at hM⊢;omega)]
       obtain⟨l0,f2,rfl,_,_⟩:=zrm _ _ _ _ hc;cases zch (b.length+1) b true with
       |inr k=>rfl
       |inl l2=>
        simp only[List.dropLast_concat,<-yI];simp[Nat.add_assoc]
     ·cases h
end Go.D08.U
namespace Go.D08.U
open Go Go.Gw Go.Dn Go.Proofs
set_option maxRecDepth 100000
/-! ### blanks -/
theorem zo4: ∀s:Str,(s.any zbv=false/\Lib.indexAny s [10,13]= -1/\s.dropWhile (λx=> !zbv x)=[])\/∃i:Nat,Lib.indexAny s [10,13]=(i:Int)/\i<=s.length/\s.any zbv=true/\s.drop i=s.dropWhile (λx=> !zbv x)/\(s.take i).any zbv=false
 | []=> .inl ⟨rfl,rfl,rfl⟩
 |b::l=>by
  rw[Lib.indexAny];cases h:([10,13]:Str).contains b with
  |true=>
   have hb:zbv b=true:=h;refine .inr ⟨0,?_,by omega,by simp[hb],?_,rfl⟩
   ·simp
   ·simp[hb]
  |false=>
   have hb:zbv b=false:=h;rcases zo4 l with⟨h1,h2,h3⟩| ⟨i,h1,h2,h3,h4,h5⟩
   ·refine .inl ⟨by simp only[List.any_cons,hb,h1,Bool.or_self],?_,by rw[List.dropWhile_cons,yL (by simp[hb])];exact h3⟩
    rw[h2];rfl
   ·refine .inr ⟨i+1,?_,by simp;omega,by simp only[List.any_cons,h3,Bool.or_true],by rw[List.dropWhile_cons,yL (by simp[hb]),List.drop_succ_cons];exact h4,by simp only[List.take_succ_cons,List.any_cons,hb,h5,Bool.or_self]⟩
    rw[h1];have c:(((i:Nat):Int)== -1)=false:=by rw[yH];omega
    simp only[c,qz2,yA];rfl
theorem zwm(s:Str):Lib.containsAny s [10,13]=s.any zbv:=by
 unfold Lib.containsAny;rcases zo4 s with⟨h1,h2,_⟩| ⟨i,h1,_,h3,_⟩
 ·rw[h1,h2];rfl
 ·rw[h1,h3];simp
theorem zxo: ∀(s:Str) (n:Nat),zhm s=some n->∃t,s.drop n=42::47::t
 | [],n,h=>by cases h
 |c::r,n,h=>by
  rw[zhm]at h;split at h
  ·rename_i hp;simp only[Option.some.injEq]at h;subst h;cases r with
   |nil=>simp[List.isPrefixOf]at hp
   |cons d r=>
    simp only[List.isPrefixOf,Bool.and_true,qz4,beq_iff_eq]at hp;obtain⟨rfl,rfl⟩:=hp;exact⟨r,rfl⟩
  ·cases he:zhm r with
   |none=>rw[he]at h;cases h
   |some k=>
    rw[he]at h;simp only[Option.map_some,Option.some.injEq]at h;subst h;exact zxo r k he
theorem zAY(r:Str)(n:Nat)(h:zhm r=some n):((47::42::r).take (n+4)).any zbv=(r.take n).any zbv:=by
 obtain⟨t,ht⟩:=zxo r n h
 have e:r.take (n+2)=r.take n++[42,47]:=by
  have h2:r.take (n+2)=r.take n++(r.drop n).take 2:=by rw[List.take_add]
  rw[h2,ht];rfl
 have e2:(47::42::r).take (n+4)=47::42::r.take (n+2):=rfl;rw[e2,e];have c1:zbv 47=false:=by decide
 have c2:zbv 42=false:=by decide
 simp only[List.any_cons,List.any_append,List.any_nil,c1,c2,Bool.false_or,Bool.or_false]
theorem zB9: ∀b:Fin 256,zbv (UInt8.ofNat b.val)=false->¬(UInt8.ofNat b.val=32\/UInt8.ofNat b.val=9\/UInt8.ofNat b.val=11\/UInt8.ofNat b.val=12)->b.val≠32/\(b.val<9\/13<b.val):=by decide+kernel
def okN(o:Nat)(t:Str)(a:Nat):Option Nat:=match zfe o t a with
 |none=>none
 |some n=>if n<=9007199254740991 then some n else none
theorem zy9{o:Nat}(ho:1<=o): ∀(t:Str) (a n:Nat),zfe o t a=some n->a<=n
 | [],a,n,h=>by cases h;exact yJ _
 |c::r,a,n,h=>by
  simp only[zfe]at h;split at h
  ·cases h
  ·rename_i d _;split at h
   ·have:=zy9 ho r _ n h;have h2:a*1<=a*o:=Nat.mul_le_mul_left a ho;omega
   ·cases h
def zfQ(b:Nat):Nat:=(BitVec.ofNat 8 b|||32#8).toNat
theorem zCj: ∀b:Fin 256,za2 ((b.val:Nat):Int)=some (((zfQ b.val:Nat):Int),()):=by decide+kernel
theorem zCo(c:UInt8):za2 ((c.toNat:Nat):Int)=some (((zfQ c.toNat:Nat):Int),()):=zCj ⟨c.toNat,c.toNat_lt⟩
theorem zDJ: ∀b:Fin 256,(48<=b.val/\b.val<=57->hexV (UInt8.ofNat b.val)=some (b.val -48))/\(¬(48<=b.val/\b.val<=57)->97<=zfQ b.val->zfQ b.val<=122->hexV (UInt8.ofNat b.val)=if zfQ b.val -87<16 then some (zfQ b.val -87)else none)/\(¬(48<=b.val/\b.val<=57)->¬(97<=zfQ b.val/\zfQ b.val<=122)->hexV (UInt8.ofNat b.val)=none):=by decide+kernel
theorem zvr{o:Nat}: ∀(t:Str) (a n:Nat),zfe o t a=some n->t.contains 95=false
 | [],_,_,_=>rfl
 |c::r,a,n,h=>by
  simp only[zfe]at h;split at h
  ·cases h
  ·rename_i d hd;split at h
   ·rw[List.contains_cons,zvr r _ _ h,Bool.or_false,yH];intro e;subst e;have:hexV 95=none:=by decide
    rw[this]at hd;cases hd
   ·cases h
end Go.D08.U
namespace Go.D08
open Go Go.Gw Go.Dn
instance lpI:Lp:=lpN 1000000000000
theorem zfy{S E:Type}{step:S->Option (S⊕E)}{n:Nat}{s:S}{e:E}(h:zaL step n s=some e)(hn:n<=1000000000000):Lp.loop step s=some e:=
 zu8 _ h hn
theorem zdh{S E:Type}{step:S->Option (S⊕E)}{n:Nat}{s s':S}(h:step s=some (.inl s')):zaL step (n+1) s=zaL step n s':=by simp only[zaL,h,qz1]
theorem zbf{S E:Type}{step:S->Option (S⊕E)}{n:Nat}{s:S}{e:E}(h:step s=some (.inr e)):zaL step (n+1) s=some e:=by simp only[zaL,h,qz1]
abbrev Node:=zg
mutual
def zco:Node->Nat
 | ⟨_,_,_,_,_,l⟩=>zd0 l+1
def zd0:List Node->Nat
 | []=>0
 |x::r=>max (zco x) (zd0 r)
end
mutual
def zhD:Node->Nat
 | ⟨_,_,_,_,_,l⟩=>ziW l+1
def ziW:List Node->Nat
 | []=>0
 |x::r=>zhD x+ziW r
end
mutual
def ziV:Node->Node->Bool
 | ⟨k,n,m,t,ns,l⟩,⟨k',n',m',t',ns',l'⟩=>(k==k'&&n==n'&&m==m'&&t==t'&&ns==ns')&&zcC l l'
def zcC:List Node->List Node->Bool
 | [],[]=>true
 |x::r,y::r'=>ziV x y&&zcC r r'
 |_,_=>false
end
theorem zhN(x:Node):zco x=zd0 x.L+1:=by cases x;simp[zco]
theorem zq3(x:Node):zhD x=ziW x.L+1:=by cases x;simp[zhD]
theorem zrn(x:Node)(r:List Node):zd0 (x::r)=max (zco x) (zd0 r):=by simp[zd0]
mutual
theorem zsD: ∀x:Node,zco x<=zhD x
 | ⟨_,_,_,_,_,l⟩=>by simp only[zco,zhD];have:=zqf l;omega
theorem zqf: ∀l:List Node,zd0 l<=ziW l
 | []=>by simp[zd0]
 |x::r=>by simp only[zd0,ziW];have:=zsD x;have:=zqf r;omega
end
theorem zsR: ∀l:List Node,l.length<=ziW l
 | []=>by simp
 |x::r=>by simp only[ziW,qz3];have:=zsR r;have:=zq3 x;omega
theorem zn7{x:Node}: ∀{l:List Node},x∈l->zco x<=zd0 l
 |y::r,h=>by
  simp only[zd0];rcases yP.1 h with rfl|h
  ·omega
  ·have:=zn7 h;omega
theorem zn1{x:Node}: ∀{l:List Node},x∈l->zhD x<=ziW l
 |y::r,h=>by
  simp only[ziW];rcases yP.1 h with rfl|h
  ·omega
  ·have:=zn1 h;omega
theorem zsy{α:Type}{xs:List α}{i:Nat}{x:α}{r:List α}(h:xs.drop i=x::r):zQ xs (i:Int)=some x/\xs.drop (i+1)=r/\i<xs.length:=by
 have hi:i<xs.length:=by
  rcases Nat.lt_or_ge i xs.length with h1|h1
  ·exact h1
  ·rw[List.drop_of_length_le h1]at h;cases h
 rw[List.drop_eq_getElem_cons hi]at h;cases h;exact⟨by rw[zkY];exact qz9 hi,rfl,hi⟩
theorem zxj(g:zcQ)(l:List Node)(hg: ∀x∈l,g.zdy x=some ((zco x:Int),()))(hb:zd0 l<4611686018427387904)(hl:l.length<4611686018427387904): ∀(r:List Node) (i:Nat) (m:Nat),l.drop i=r->m<4611686018427387904->
  zaL (zgr g) (r.length+1) ((m:Int),l,((l.length:Nat):Int),(i:Int),())=some (((max m (zd0 r)+1:Nat):Int),())
 | [],i,m,hr,hm=>by
  have hi: ¬((i:Int)< (l.length:Int)):=by
   have:=congrArg List.length hr;simp at this;omega
  refine zbf ?_;simp only[zgr,hi,decide_false,qz2,yA];rw[wrap_i64 (by omega) (by omega)];simp[zd0]
 |x::r,i,m,hr,hm=>by
  obtain⟨h1,h2,h3⟩:=zsy hr;have hi:((i:Int)< (l.length:Int)):=by omega
  have hx:x∈l:=List.mem_of_mem_drop (hr▸qz7);have hd:=zn7 hx
  have hstep:zgr g ((m:Int),l,((l.length:Nat):Int),(i:Int),())=some (.inl (((max m (zco x):Nat):Int),l,((l.length:Nat):Int),((i+1:Nat):Int),())):=by
   simp only[zgr,hi,decide_true,yB,h1,qz1,zC,hg x hx];rw[wrap_i64 (by omega) (by omega)];have:(if((zco x:Nat):Int)>(m:Int)then((zco x:Nat):Int)else(m:Int))=((max m (zco x):Nat):Int):=by split<;>omega
   rw[this];rfl
  rw[qz3,zdh hstep,zxj g l hg hb hl r (i+1) _ h2 (by omega),zrn];congr 3;omega
theorem zul: ∀(n:Nat) (x:Node),zco x<=n->zhD x<=2097152->(zca n).zdy x=some ((zco x:Int),())
 |0,x,h,_=>by have:=zhN x;omega
 |n+1,x,h,hs=>by
  have h1:=zhN x;have h2:=zq3 x;have h3:=zqf x.L;have h4:=zsR x.L;show zlh (zca n) x=_;unfold zlh;refine zfy (n:=x.L.length+1) ?_ (by omega);have:=zxj (zca n) x.L (λy hy=>zul n y (by have:=zn7 hy;omega) (by have:=zn1 hy;omega)) (by omega) (by omega) x.L 0 0 rfl (by omega)
  rw[h1];simpa using this
theorem zzb(x:Node)(h:zhD x<=2097152):zdy x=some ((zco x:Int),()):=
 zul _ x (by have:=zsD x;show zco x<=1000000000000;omega) h
mutual
def zlo:Node->Nat
 | ⟨_,_,_,_,ns,l⟩=>ns.length+zlF l
def zlF:List Node->Nat
 | []=>0
 |x::r=>zlo x+zlF r
end
theorem zxk(x:Node):zlo x=x.Names.length+zlF x.L:=by cases x;simp[zlo]
theorem zqN{x:Node}: ∀{l:List Node},x∈l->zlo x<=zlF l
 |y::r,h=>by
  simp only[zlF];rcases yP.1 h with rfl|h
  ·omega
  ·have:=zqN h;omega
theorem zEx(x y:Node):ziV x y=((x.Kind==y.Kind&&x.Name==y.Name&&x.Num==y.Num&&x.Text==y.Text&&x.Names==y.Names)&&zcC x.L y.L):=by
 cases x;cases y;simp only[ziV]
theorem zxe: ∀{l l':List Node},l.length≠l'.length->zcC l l'=false
 | [],[],h=>absurd rfl h
 | [],_::_,_=>by simp[zcC]
 |_::_,[],_=>by simp[zcC]
 |x::r,y::r',h=>by
  simp only[zcC];rw[zxe (by simpa using h)];simp
theorem zt8(g:zaI)(x y:Node)(v:Bool)(hl:x.Names.length=y.Names.length)(hb:x.Names.length<4611686018427387904)
  (hend:Lp.loop (zbd g) (((x.L.length:Nat):Int),0,x,y,())=some (v,())): ∀(r:List Str) (i:Nat),x.Names.drop i=r->
  zaL (zbq g) (r.length+1) (((x.Names.length:Nat):Int),(i:Int),x,y,())=some ((r==y.Names.drop i)&&v,())
 | [],i,hr=>by
  have h1:x.Names.length<=i:=by have:=congrArg List.length hr;simp at this;omega
  have hi: ¬((i:Int)< (x.Names.length:Int)):=by omega
  refine zbf ?_;simp only[zbq,hi,decide_false,qz2,yA,zC,hend,ziz];rw[List.drop_of_length_le (by omega:y.Names.length<=i)];rfl
 |a::r,i,hr=>by
  obtain⟨h1,h2,h3⟩:=zsy hr;have hi:((i:Int)< (x.Names.length:Int)):=by omega
  have hy:i<y.Names.length:=by omega
  have h4:y.Names.drop i=y.Names[i]::y.Names.drop (i+1):=List.drop_eq_getElem_cons hy;have h5:zQ y.Names (i:Int)=some y.Names[i]:=by rw[zkY];exact qz9 hy
  rw[h4,qz3,List.cons_beq_cons];cases he:(a==y.Names[i])with
  |false=>
   refine zbf ?_;simp only[zbq,hi,decide_true,yB,h1,h5,qz1,he,yN,Bool.false_and]
  |true=>
   have hstep:zbq g (((x.Names.length:Nat):Int),(i:Int),x,y,())=some (.inl (((x.Names.length:Nat):Int),((i+1:Nat):Int),x,y,())):=by
    simp only[zbq,hi,decide_true,yB,h1,h5,qz1,he,yO,qz2,yA,zC];rw[wrap_i64 (by omega) (by omega)];rfl
   rw[zdh hstep,zt8 g x y v hl hb hend r (i+1) h2,Bool.true_and]
theorem zw1(g:zaI)(x y:Node)(hg: ∀a∈x.L,∀b∈y.L,g.zaD a b=some (ziV a b,()))(hl:x.L.length=y.L.length)(hb:x.L.length<4611686018427387904): ∀(r:List Node) (i:Nat),x.L.drop i=r->
  zaL (zbd g) (r.length+1) (((x.L.length:Nat):Int),(i:Int),x,y,())=some (zcC r (y.L.drop i),())
 | [],i,hr=>by
  have h1:x.L.length<=i:=by have:=congrArg List.length hr;simp at this;omega
  have hi: ¬((i:Int)< (x.L.length:Int)):=by omega
  refine zbf ?_;simp only[zbd,hi,decide_false,qz2,yA];rw[List.drop_of_length_le (by omega:y.L.length<=i)];simp[zcC]
 |a::r,i,hr=>by
  obtain⟨h1,h2,h3⟩:=zsy hr;have hi:((i:Int)< (x.L.length:Int)):=by omega
  have hy:i<y.L.length:=by omega
  have h4:y.L.drop i=y.L[i]::y.L.drop (i+1):=List.drop_eq_getElem_cons hy;have h5:zQ y.L (i:Int)=some y.L[i]:=by rw[zkY];exact qz9 hy
  have h6:=hg a (List.mem_of_mem_drop (hr▸qz7)) y.L[i] (List.getElem_mem hy);rw[h4,qz3];simp only[zcC];cases he:ziV a y.L[i]with
  |false=>
   refine zbf ?_;simp only[zbd,hi,decide_true,yB,h1,h5,qz1,zC,h6,he,yN,Bool.false_and]
  |true=>
   have hstep:zbd g (((x.L.length:Nat):Int),(i:Int),x,y,())=some (.inl (((x.L.length:Nat):Int),((i+1:Nat):Int),x,y,())):=by
    simp only[zbd,hi,decide_true,yB,h1,h5,qz1,zC,h6,he,yO,qz2,yA];rw[wrap_i64 (by omega) (by omega)];rfl
   rw[zdh hstep,zw1 g x y hg hl hb r (i+1) h2,Bool.true_and]
theorem zAu: ∀(n:Nat) (x y:Node),zco x<=n->zhD x<=2097152->zhD y<=2097152->zlo x<=2097152->zlo y<=2097152->(zaH n).zaD x y=some (ziV x y,())
 |0,x,y,h,_,_,_,_=>by have:=zhN x;omega
 |n+1,x,y,h,hs,hs',hn,hn'=>by
  have a1:=zhN x;have a2:=zq3 x;have a3:=zq3 y;have a4:=zxk x;have a5:=zxk y;have b1:=zsR x.L;show zeJ (zaH n) x y=_;unfold zeJ;simp only[zC];rw[zEx];by_cases hN:x.Names.length=y.Names.length
  ·by_cases hL:x.L.length=y.L.length
   ·have e1:(((x.Names.length:Nat):Int) !=((y.Names.length:Nat):Int))=false:=by simp[hN]
    have e2:(((x.L.length:Nat):Int) !=((y.L.length:Nat):Int))=false:=by simp[hL]
    have hsub:Lp.loop (zbd (zaH n)) (((x.L.length:Nat):Int),0,x,y,())=some (zcC x.L y.L,()):=by
     refine zfy (n:=x.L.length+1) ?_ (by omega);have:=zw1 (zaH n) x y (λa ha b hb=>zAu n a b (by have:=zn7 ha;omega) (by have:=zn1 ha;omega) (by have:=zn1 hb;omega) (by have:=zqN ha;omega) (by have:=zqN hb;omega)) hL (by omega) x.L 0 rfl
     simpa using this
    have hnam:Lp.loop (zbq (zaH n)) (((x.Names.length:Nat):Int),0,x,y,())=some ((x.Names==y.Names)&&zcC x.L y.L,()):=by
     refine zfy (n:=x.Names.length+1) ?_ (by omega);have:=zt8 (zaH n) x y _ hN (by omega) hsub x.Names 0 rfl;simpa using this
    rw[e1,e2,hnam];have k1:(x.Kind !=y.Kind)= !(x.Kind==y.Kind):=rfl;have k2:(x.Num !=y.Num)= !(x.Num==y.Num):=rfl;rw[k1,k2];cases x.Kind==y.Kind<;>cases x.Name==y.Name<;>cases x.Num==y.Num<;>cases x.Text==y.Text<;>cases x.Names==y.Names<;>simp
   ·have e2:(((x.L.length:Nat):Int) !=((y.L.length:Nat):Int))=true:=by simpa using by omega
    rw[e2,zxe hL];simp
  ·have e1:(((x.Names.length:Nat):Int) !=((y.Names.length:Nat):Int))=true:=by simpa using by omega
   have:(x.Names==y.Names)=false:=by
    simp only[yH,ne_eq];intro e;exact hN (by rw[e])
   rw[e1,this];simp
end Go.D08
namespace Go.D08
open Go Go.Gw Go.Dn
set_option maxRecDepth 100000
/-! ### names -/
theorem zAQ: ∀b:Fin 256,zif ((b.val:Nat):Int)=some (isLet (UInt8.ofNat b.val),()):=by decide+kernel
theorem zBA: ∀b:Fin 256,ziO ((b.val:Nat):Int)=some (zlf (UInt8.ofNat b.val),()):=by decide+kernel
theorem zAn(b:UInt8): ∃k:Fin 256,b=UInt8.ofNat k.val:=⟨⟨b.toNat,b.toNat_lt⟩,by simp⟩
theorem zke(c:UInt8):zif ((c.toNat:Nat):Int)=some (isLet c,()):=by
 obtain⟨k,rfl⟩:=zAn c;have:(UInt8.ofNat k.val).toNat=k.val:=by simp[Nat.mod_eq_of_lt k.isLt]
 rw[this];exact zAQ k
theorem zkO(c:UInt8):ziO ((c.toNat:Nat):Int)=some (zlf c,()):=by
 obtain⟨k,rfl⟩:=zAn c;have:(UInt8.ofNat k.val).toNat=k.val:=by simp[Nat.mod_eq_of_lt k.isLt]
 rw[this];exact zBA k
theorem zCx{s:Str}{i:Nat}{c:UInt8}{r:Str}(h:s.drop i=c::r):zaS s (i:Int)=some ((c.toNat:Nat):Int)/\s.drop (i+1)=r/\i<s.length:=by
 have hi:i<s.length:=by
   rcases Nat.lt_or_ge i s.length with h1|h1
   ·exact h1
   ·rw[List.drop_of_length_le h1]at h;cases h
 rw[List.drop_eq_getElem_cons hi]at h;cases h;exact⟨by rw[zuO,qz9 hi];rfl,rfl,hi⟩
theorem zzn(s:Str)(hs:s.length<=1000000000): ∀(r:Str) (i:Nat),s.drop i=r->i<=s.length->zaL zeP (r.length+1) (s,((s.length:Nat):Int),(i:Int),())=some (((i+Gw.zaM r:Nat):Int),())
 | [],i,hr,hi=>by
   have h1:i=s.length:=by have:=congrArg List.length hr;simp at this;omega
   refine zbf ?_;have hi: ¬((i:Int)< (s.length:Int)):=by omega
   simp only[zeP,hi,decide_false,qz2,yA];simp[Gw.zaM,h1]
 |c::r,i,hr,_=>by
   obtain⟨h1,h2,h3⟩:=zCx hr;have hi:((i:Int)< (s.length:Int)):=by omega
   rw[zh2];have hL:zix c=(isLet c||zlf c):=rfl
   have hgo:zix c=true->zeP (s,((s.length:Nat):Int),(i:Int),())=some (.inl (s,((s.length:Nat):Int),((i+1:Nat):Int),())):=λh=>by
    rw[hL]at h;simp only[zeP,hi,decide_true,yB,h1,qz1,zke,zkO];rw[wrap_i64 (by omega) (by omega)];cases hl:isLet c with
    |true=>rfl
    |false=>
     rw[hl]at h;simp only[Bool.false_or]at h;simp only[h,yN,yB,yO,qz2,yA];rfl
   cases h:zix c with
   |true=>
    rw[qz3,zdh (hgo h),zzn s hs r (i+1) h2 (by omega)];simp only[yB];congr 3;omega
   |false=>
    refine zbf ?_;rw[hL,Bool.or_eq_false_iff]at h;simp only[zeP,hi,decide_true,yB,h1,qz1,zke,zkO,h.1,h.2,yN,qz2,yA];rfl
theorem zsI(s:Str)(hs:s.length<=1000000000):znX s=some (((Gw.zaM s:Nat):Int),()):=by
 refine zfy (n:=s.length+1) ?_ (by omega);have:=zzn s hs s 0 rfl (Nat.zero_le _);simpa using this
def zj5(s:Str):Bool:=match s with
 | []=>false
 |c::_=>decide (s.length<=32)&&(isLet c&&s.all zix)
def zfH(l s:Str):Bool:= !(s==([]:Str))&&(!(s.contains 32)&&Lib.contains l (32::(s++[32])))
theorem zBh(l s:Str)(hl:l.length<=1000000000)(hs:s.length<=1000000000):
   (if(!(s==([]:Str)))=true then
  Option.bind (strings_Contains s ([32]:Str)) λr_1=>
  if(!r_1.1)=true then
   Option.bind (zgy ([32]:Str) s) λs_2=>
   Option.bind (zgy s_2 ([32]:Str)) λs_3=>
   Option.bind (strings_Contains l s_3) λr_4=>
   some (r_4.1,())
  else
   some (false,())
 else
  some (false,()))=some (zfH l s,()):=by
 have c1:strings_Contains s ([32]:Str)=some (s.contains 32,()):=by
   simp only[strings_Contains,zbG,show s.length<4294967281 by omega,yB,ziz,zlZ]
 have c2: ∀t,strings_Contains l t=some (Lib.contains l t,()):=λt=>by
   simp only[strings_Contains,zbG,show l.length<4294967281 by omega,yB,ziz]
 have c3:zgy ([32]:Str) s=some (32::s):=ztK (by simp;omega)
 have c4:zgy (32::s) ([32]:Str)=some (32::(s++[32])):=ztK (by simp;omega)
 simp only[c1,c2,c3,c4,qz1,zfH];cases s==([]:Str)<;>cases s.contains 32<;>simp
theorem zkT(l s:Str)(hl:l.length<=1000000000)(hs:s.length<=1000000000):zeL l s=some (zfH l s,()):=zBh l s hl hs
def zCL:Str:=[32,98,114,101,97,107,32,99,97,115,101,32,99,97,116,99,104,32,99,108,97,115,115,32,99,111,110,115,116,32,99,111,110,116,105,110,117,101,32,100,101,98,117,103,103,101,114,32,100,101,102,97,117,108,116,32,100,101,108,101,116,101,32,100,111,32,101,108,115,101,32,101,110,117,109,32,101,120,112,111,114,116,32,101,120,116,101,110,100,115,32,102,97,108,115,101,32,102,105,110,97,108,108,121,32,102,111,114,32,102,117,110,99,116,105,111,110,32,105,102,32,105,109,112,108,101,109,101,110,116,115,32,105,109,112,111,114,116,32,105,110,32,105,110,115,116,97,110,99,101,111,102,32,105,110,116,101,114,102,97,99,101,32,108,101,116,32,110,101,119,32,110,117,108,108,32,112,97,99,107,97,103,101,32,112,114,105,118,97,116,101,32,112,114,111,116,101,99,116,101,100,32,112,117,98,108,105,99,32,114,101,116,117,114,110,32,115,116,97,116,105,99,32,115,117,112,101,114,32,115,119,105,116,99,104,32,116,104,105,115,32,116,104,114,111,119,32,116,114,117,101,32,116,114,121,32,116,121,112,101,111,102,32,118,97,114,32,118,111,105,100,32,119,104,105,108,101,32,119,105,116,104,32,121,105,101,108,100,32]
def zAW(s:Str):Bool:=zfH zCL s
theorem zu5(s:Str)(hs:s.length<=1000000000):zm2 s=some (zAW s,()):=by
 show Option.bind (zeL zCL s) _=_;rw[zkT _ _ (by decide) hs];rfl
def zbL(s:Str):Bool:=zj5 s&& !zAW s
/-! ### units -/
def zaT(s:Str):Bool:=s.length%2==0
/-! ### forms -/
end Go.D08
namespace Go.D08.U
open Go Go.Gw Go.Dn Go.Proofs
set_option maxRecDepth 100000
theorem zcT(x:zO):zcx x=x:=by cases x;rfl
theorem zyW(x:zl):zuQ x=x:=by cases x;rfl
theorem zcJ(a b:Str):strings_HasPrefix a b=some (b.isPrefixOf a,()):=rfl
theorem zzH(s:Str)(h:s.length<=1000000000):strings_IndexAny s [10,13]=some (Lib.indexAny s [10,13],()):=by
 unfold strings_IndexAny zcW;rw[yL ⟨by omega,rfl⟩];rfl
theorem zwa(s:Str)(h:s.length<=1000000000):strings_ContainsAny s [10,13]=some (s.any zbv,()):=by
 unfold strings_ContainsAny zce;rw[yL ⟨by omega,rfl⟩,zwm];rfl
theorem zCp(s t:Str)(h:s.length<=1000000000):strings_Index s t=some (Lib.index s t,()):=by
 unfold strings_Index zee;rw[yL (by omega)];rfl
theorem ztv(s t:Str)(h:s.length<=1000000000):strings_Contains s t=some (Lib.contains s t,()):=by
 unfold strings_Contains zbG;rw[yL (by omega)];rfl
theorem zfL(c:UInt8)(r:Str):zaS (c::r) 0=some ((c.toNat:Nat):Int):=rfl
theorem zB2(src s:Str)(f:Bool)(n:Nat)(hn:n<=s.length)(hs:s.length<=1000000000):zbz (n:Int) ⟨src,s,f⟩=some (.inl (⟨src,s.drop n,f||(s.take n).any zbv⟩,())):=by
 unfold zbz;have e1:=zd3 s n hn
 have e2:zav s 0 (n:Int)=some (s.take n):=by
  have:=zkP s 0 n (by omega) hn;simpa using this
 have e3:=zwa (s.take n) (by simp only[List.length_take];omega)
 cases f with
 |true=>simp only[yB,e1,qz1,Bool.true_or]
 |false=>simp only[qz2,yA,e1,e2,e3,qz1,Bool.false_or]
def zJF(src:Str)(p:Str×Bool×Bool):Bool×zO×Unit:=(p.2.2,⟨src,p.1,p.2.1⟩,())
theorem ziI(src:Str): ∀(m:Nat) (s:Str) (f:Bool),s.length<m->s.length<=1000000000->zaL zab m (⟨src,s,f⟩,())=some (zJF src (zat m s f))
 |0,s,f,h,_=>by omega
 |m+1,[],f,_,_=>zbf rfl
 |m+1,c::r,f,hm,hs=>by
  simp only[qz3]at hm;have hr:r.length<=1000000000:=by simp only[qz3]at hs;omega
  have cn:(!((c::r)==([]:Str)))=true:=rfl;have hj4:=zB2 src (c::r) f;rw[zat];by_cases h1:zbv c=true
  ·rw[yL h1]
   have hc:c=10\/c=13:=by
    unfold zbv at h1;simpa using h1
   have hstep:zab (⟨src,c::r,f⟩,())=some (.inl (⟨src,r,true⟩,())):=by
    have hj:=hj4 1 (by simp) hs;have e:(f||(((c::r).take 1).any zbv))=true:=by simp[h1]
    rw[e]at hj;rcases hc with rfl|rfl
    ·simp only[zab,zcJ,zcT,cn,yB,zfL];exact hj
    ·simp only[zab,zcJ,zcT,cn,yB,zfL];exact hj
   rw[zdh hstep];exact ziI src m r true (by omega) hr
  ·have h1':zbv c=false:=by simpa using h1
   rw[yK h1];by_cases h2:c=32\/c=9\/c=11\/c=12
   ·rw[yL h2]
    have hstep:zab (⟨src,c::r,f⟩,())=some (.inl (⟨src,r,f⟩,())):=by
     have hj:=hj4 1 (by simp) hs;have e:(f||(((c::r).take 1).any zbv))=f:=by simp[h1']
     rw[e]at hj;rcases h2 with rfl|rfl|rfl|rfl
     ·simp only[zab,zcJ,zcT,cn,yB,zfL];exact hj
     ·simp only[zab,zcJ,zcT,cn,yB,zfL];exact hj
     ·simp only[zab,zcJ,zcT,cn,yB,zfL];exact hj
     ·simp only[zab,zcJ,zcT,cn,yB,zfL];exact hj
    rw[zdh hstep];exact ziI src m r f (by omega) hr
   ·rw[yK h2];by_cases h3:([47,47]:Str).isPrefixOf (c::r)=true
    ·rw[yL h3]
     have hc:c=47:=by
      simp only[List.isPrefixOf,qz4,beq_iff_eq]at h3;exact h3.1.symm
     have hdw:(c::r).dropWhile (λx=> !zbv x)=r.dropWhile (λx=> !zbv x):=by
      rw[List.dropWhile_cons,yL (by simp[h1'])]
     have hlen:=zg2 (λx=> !zbv x) r
     have hstep:zab (⟨src,c::r,f⟩,())=some (.inl (⟨src,(c::r).dropWhile (λx=> !zbv x),f⟩,())):=by
      simp only[zab,zcJ,zcT,cn,yB,h3,qz1,zzH _ hs];rcases zo4 (c::r)with⟨g1,g2,g3⟩| ⟨i,g1,g2,g3,g4,g5⟩
      ·rw[g2,g3];have hj:=hj4 (c::r).length (yJ _) hs;rw[List.drop_length,List.take_length,g1,Bool.or_false]at hj;simpa using hj
      ·have hj:=hj4 i g2 hs;rw[g4,g5,Bool.or_false]at hj;have cneg: ¬((i:Int)<0):=by omega
       rw[g1];simp only[cneg,decide_false,qz2,yA];exact hj
     rw[zdh hstep];exact ziI src m _ f (by rw[hdw];omega) (by rw[hdw];omega)
    ·have h3':([47,47]:Str).isPrefixOf (c::r)=false:=by rw[<-Bool.not_eq_true];exact h3
     rw[yK h3];by_cases h4:([47,42]:Str).isPrefixOf (c::r)=true
     ·rw[yL h4];cases r with
      |nil=>simp[List.isPrefixOf]at h4
      |cons d r=>
       simp only[List.isPrefixOf,Bool.and_true,qz4,beq_iff_eq]at h4;obtain⟨rfl,rfl⟩:=h4;have hdrop:((47::42::r:Str)).drop 2=r:=rfl;rw[hdrop]
       have hcut:zav (47::42::r:Str) 2 (((47::42::r:Str).length:Nat):Int)=some r:=by
        have:=zd3 (47::42::r:Str) 2 (by simp);exact this
       have hpre:List.isPrefixOf [47,42] (47::42::r:Str)=true:=rfl;have hri:=zCp r [42,47] (by simp only[qz3]at hr;omega)
       cases he:zhm r with
       |none=>
        refine zbf ?_;simp only[zab,zcJ,zcT,cn,yB,h3',hpre,qz1,qz2,yA,hcut,hri];rw[zqH,he];rfl
       |some n=>
        have hle:=zwK r n he
        have hstep:zab (⟨src,47::42::r,f⟩,())=some (.inl (⟨src,(47::42::r:Str).drop (n+4),f||(r.take n).any zbv⟩,())):=by
         simp only[zab,zcJ,zcT,cn,yB,h3',hpre,qz1,qz2,yA,hcut,hri];rw[zqH,he];have cneg: ¬(((n:Nat):Int)<0):=by omega
         have w:IntKind.wrap .i64 ((n:Int)+4)=((n+4:Nat):Int):=by rw[wrap_i64 (by omega) (by simp only[qz3]at hr;omega)];omega
         simp only[cneg,decide_false,qz2,yA,w];have hj:=hj4 (n+4) (by simp only[qz3];omega) hs
         rw[zAY r n he]at hj;exact hj
        rw[zdh hstep];simp only[qz3]at hm;have hlt:((47::42::r:Str).drop (n+4)).length<=r.length:=by simp only[List.length_drop,qz3];omega
        exact ziI src m _ _ (by omega) (by simp only[qz3]at hr;omega)
     ·have h4':([47,42]:Str).isPrefixOf (c::r)=false:=by rw[<-Bool.not_eq_true];exact h4
      rw[yK h4];refine zbf ?_;have ho:=zB9 ⟨c.toNat,c.toNat_lt⟩;rw[show UInt8.ofNat (⟨c.toNat,c.toNat_lt⟩:Fin 256).val=c by simp]at ho;obtain⟨o1,o2⟩:=ho h1' h2;simp only at o1 o2;have b32:((((c.toNat:Nat):Int)) !=32)=true:=by rw[bne_iff_ne];omega
      simp only[zab,zcJ,zcT,cn,yB,h3',h4',qz1,qz2,yA,zfL,b32];by_cases o3:c.toNat<9
      ·have d:(((c.toNat:Nat):Int)<9):=by omega
       simp only[d,decide_true,yB];rfl
      ·have d: ¬(((c.toNat:Nat):Int)<9):=by omega
       have d2:(((c.toNat:Nat):Int)>13):=by omega
       simp only[d,d2,decide_true,decide_false,qz2,yA,yB];rfl
theorem zvx(cc:zO)(hs:cc.rest.length<=1000000000):zfk cc=
  some ((zat (cc.rest.length+1) cc.rest false).2.2,⟨cc.src,(zat (cc.rest.length+1) cc.rest false).1,(zat (cc.rest.length+1) cc.rest false).2.1⟩,()):=by
 unfold zfk;exact zfy (n:=cc.rest.length+1) (ziI cc.src (cc.rest.length+1) cc.rest false (by omega) hs) (by omega)
theorem ofN(c:UInt8):UInt8.ofNat c.toNat=c:=by simp
theorem wrap_succ{k:Nat}(h:k<1000000000000):IntKind.wrap .i64 ((k:Int)+1)=((k+1:Nat):Int):=by rw[wrap_i64 (by omega) (by omega)];omega
abbrev PuS:=Int×Bool×Str×Int×Int×Bool×Int×(List UInt8)×Int×Int×Unit
abbrev puS(o:Nat)(s0:Str)(cut:Int)(mx a:Nat)(t:Str)(i:Nat):PuS:=((o:Int),false,s0,cut,(mx:Int),false,(a:Int),t,((t.length:Nat):Int),(i:Int),())
def puQ(o mx:Nat)(s0:Str)(cut:Int)(t:Str)(a i:Nat)(d:Option Nat):Option (PuS⊕(Int×zU×Unit)):=
 match d with
 |none=>some (.inr (0,.code 156 2,()))
 |some d=>if d<o then(if a*o+d<=mx then some (.inl (puS o s0 cut mx (a*o+d) t (i+1)))else some (.inr ((mx:Int),.code 156 1,())))else some (.inr (0,.code 156 2,()))
theorem zBw(o mx a i d:Nat)(ho:o=10\/o=16)(hm:mx<=9007199254740991)(s0 t:Str)(cut:Int)(hx:9007199254740992<=cut)(ha:a<=mx)(hi:i<1000000000000)(hd:d<256):
  zbR (o:Int) false s0 cut (mx:Int) false (a:Int) (d:Int) t ((t.length:Nat):Int) (i:Int)=puQ o mx s0 cut t a i (some d):=by
 unfold zbR zem zek zef zeh puQ;have wo:IntKind.wrap .u8 (o:Int)=(o:Int):=wrap_u8 (by omega) (by omega);have wo2:IntKind.wrap .u64 (o:Int)=(o:Int):=wrap_u64 (by omega) (by omega);have wd:IntKind.wrap .u64 (d:Int)=(d:Int):=wrap_u64 (by omega) (by omega);have hmul:a*o<=9007199254740991*16:=Nat.mul_le_mul (by omega) (by omega);have em:((a:Int)*(o:Int))=((a*o:Nat):Int):=by simp
 have wm:IntKind.wrap .u64 ((a:Int)*(o:Int))=((a*o:Nat):Int):=by rw[em];exact wrap_u64 (by omega) (by omega)
 have ws:IntKind.wrap .u64 (((a*o:Nat):Int)+(d:Int))=((a*o+d:Nat):Int):=by rw[wrap_u64 (by omega) (by omega)];omega
 simp only[wo,wo2,wd,wm,ws,wrap_succ hi];by_cases h1:d<o
 ·have c1: ¬((d:Int)>=(o:Int)):=by omega
  have c2: ¬((a:Int)>=cut):=by omega
  have c3: ¬(((a*o+d:Nat):Int)< ((a*o:Nat):Int)):=by omega
  simp only[c1,c2,c3,h1,decide_false,qz2,yA,yB,Bool.false_or];by_cases h2:a*o+d<=mx
  ·have c4: ¬(((a*o+d:Nat):Int)>(mx:Int)):=by omega
   simp only[c4,h2,decide_false,qz2,yA,yB]
  ·have c4:(((a*o+d:Nat):Int)>(mx:Int)):=by omega
   simp only[c4,h2,decide_true,yA,yB]
 ·have c1:((d:Int)>=(o:Int)):=by omega
  simp only[c1,h1,decide_true,yB,yA]
theorem zGQ(o mx a i:Nat)(ho:o=10\/o=16)(hm:mx<=9007199254740991)(s0 t:Str)(c:UInt8)(hc:t[i]? =some c)(cut:Int)(hx:9007199254740992<=cut)(ha:a<=mx)(hi:i<1000000000000):
  zaN (puS o s0 cut mx a t i)=puQ o mx s0 cut t a i (hexV c):=by
 have hlt:i<t.length:=(qz0 hc).1;unfold zaN;have c1:((i:Int)< ((t.length:Nat):Int)):=by omega
 obtain⟨f1,f2,f3⟩:=zDJ ⟨c.toNat,c.toNat_lt⟩;rw[ofN]at f1 f2 f3;simp only at f1 f2 f3;simp only[c1,decide_true,yB,zkY,hc,qz1,Bool.and_false,qz2,yA,zCo];by_cases g1:48<=c.toNat/\c.toNat<=57
 ·have d1:((48:Int)<=((c.toNat:Nat):Int)):=by omega
  have d2:(((c.toNat:Nat):Int)<=57):=by omega
  have w:IntKind.wrap .u8 (((c.toNat:Nat):Int) -48)=((c.toNat -48:Nat):Int):=by rw[wrap_u8 (by omega) (by omega)];omega
  simp only[d1,d2,decide_true,Bool.and_self,yB,w];rw[zBw o mx a i _ ho hm s0 t cut hx ha hi (by omega),f1 g1]
 ·have d1:((decide ((48:Int)<=((c.toNat:Nat):Int)))&&(decide (((c.toNat:Nat):Int)<=57)))=false:=by
   rw[<-Bool.not_eq_true,qz4,yT,yT];omega
  simp only[d1,qz2,yA];have hlow:zfQ c.toNat<256:=by unfold zfQ;exact(BitVec.ofNat 8 c.toNat|||32#8).isLt
  by_cases g2:97<=zfQ c.toNat
  ·have e2:((97:Int)<=((zfQ c.toNat:Nat):Int)):=by omega
   simp only[e2,decide_true,yB];by_cases g3:zfQ c.toNat<=122
   ·have e3:(((zfQ c.toNat:Nat):Int)<=122):=by omega
    have w1:IntKind.wrap .u8 (((zfQ c.toNat:Nat):Int) -97)=((zfQ c.toNat -97:Nat):Int):=by rw[wrap_u8 (by omega) (by omega)];omega
    have w2:IntKind.wrap .u8 (((zfQ c.toNat -97:Nat):Int)+10)=((zfQ c.toNat -87:Nat):Int):=by rw[wrap_u8 (by omega) (by omega)];omega
    simp only[e3,decide_true,yB,w1,w2];rw[zBw o mx a i _ ho hm s0 t cut hx ha hi (by omega),f2 g1 g2 g3];split
    ·rfl
    ·rename_i g4;unfold puQ;have: ¬(zfQ c.toNat -87<o):=by omega
     simp only[this,yA]
   ·have e3: ¬(((zfQ c.toNat:Nat):Int)<=122):=by omega
    simp only[e3,decide_false,qz2,yA];rw[f3 g1 (by omega)];rfl
  ·have e2: ¬((97:Int)<=((zfQ c.toNat:Nat):Int)):=by omega
   simp only[e2,decide_false,qz2,yA];rw[f3 g1 (by omega)];rfl
def okM(mx o:Nat)(t:Str)(a:Nat):Option Nat:=match zfe o t a with
 |none=>none
 |some n=>if n<=mx then some n else none
def PuE(e:Int×zU×Unit)(q:Option Nat):Prop:=match q with
 |some r=>e=((r:Int),.nil,())
 |none=>∃v,e=(v,.code 156 2,())\/e=(v,.code 156 1,())
theorem zE9(o mx:Nat)(ho:o=10\/o=16)(hm:mx<=9007199254740991)(s0 t:Str)(ht:t.length<=1000000000)(cut:Int)(hx:9007199254740992<=cut): ∀(n i a:Nat),n+i=t.length->a<=mx->
  ∃e,zaL zaN (n+1) (puS o s0 cut mx a t i)=some e/\PuE e (okM mx o (t.drop i) a):=by
 intro n;induction n with
 |zero=>
  intro i a hi ha;have hd:t.drop i=[]:=List.drop_eq_nil_of_le (by omega);rw[hd];refine⟨((a:Int),.nil,()),zbf ?_,?_⟩
  ·unfold zaN;have c1: ¬((i:Int)< ((t.length:Nat):Int)):=by omega
   simp only[c1,decide_false,qz2,yA]
  ·unfold okM zfe PuE;simp only[ha,yB]
 |succ n ih=>
  intro i a hi ha;have hlt:i<t.length:=by omega
  have hst:=zGQ o mx a i ho hm s0 t t[i] (qz9 hlt) cut hx ha (by omega);rw[List.drop_eq_getElem_cons hlt];unfold okM zfe;cases hv:hexV t[i]with
  |none=>
   rw[hv]at hst;exact⟨_,zbf hst,0,.inl rfl⟩
  |some d=>
   rw[hv]at hst;unfold puQ at hst;simp only at hst⊢;by_cases h1:d<o
   ·simp only[h1,yB]at hst⊢;by_cases h2:a*o+d<=mx
    ·simp only[h2,yB]at hst;rw[zdh hst];exact ih (i+1) (a*o+d) (by omega) h2
    ·simp only[h2,yA]at hst;refine⟨_,zbf hst,?_⟩;cases hp:zfe o (t.drop (i+1)) (a*o+d)with
     |none=>exact⟨_,.inr rfl⟩
     |some r=>
      have:=zy9 (by omega) _ _ _ hp;have h3: ¬(r<=mx):=by omega
      simp only[h3,yA];exact⟨_,.inr rfl⟩
   ·simp only[h1,yA]at hst⊢;exact⟨_,zbf hst,0,.inl rfl⟩
theorem zxi(o b mx:Nat)(ho:o=10\/o=16)(hb:b=53/\mx=9007199254740991\/b=16/\mx=65535)(t:Str)(h0:t≠[])(ht:t.length<=1000000000):
  ∃v,zaB t (o:Int) (b:Int)=some (match okM mx o t 0 with|some r=>((r:Int),zU.nil,())|none=>(v,zU.opq,())):=by
 have key: ∃e,zdW t (o:Int) (b:Int)=some e/\PuE e (okM mx o t 0):=by
  have c:(t==([]:Str))=false:=by simpa using h0
  have sh:zuq .u64 1 (IntKind.wrap .u64 (b:Int))=some ((mx:Int)+1):=by
   rcases hb with⟨rfl,rfl⟩| ⟨rfl,rfl⟩<;>decide
  have wm:IntKind.wrap .u64 ((mx:Int)+1 -1)=(mx:Int):=by rw[wrap_u64 (by omega) (by omega)];omega
  have fin: ∀cut:Int,9007199254740992<=cut->∃e,Lp.loop zaN (puS o t cut mx 0 t 0)=some e/\PuE e (okM mx o t 0):=λcut hx=>by
   obtain⟨e,e1,e2⟩:=zE9 o mx ho (by omega) t t ht cut hx t.length 0 0 (by omega) (by omega);rw[List.drop_zero]at e2;exact⟨e,zfy e1 (by omega),e2⟩
  unfold zdW za5 zej zcN zeo zen zeq
  have b1:((decide ((2:Int)<=(o:Int)))&&(decide ((o:Int)<=36)))=true:=by
   rw[decide_eq_true (by omega),decide_eq_true (by omega)];rfl
  have b2:((o:Int)==0)=false:=by rw[yH];omega
  have b3:((b:Int)==0)=false:=by rw[yH];omega
  have b4:((decide ((b:Int)<0))||(decide ((b:Int)>64)))=false:=by
   rw[decide_eq_false (by omega),decide_eq_false (by omega)];rfl
  simp only[c,b1,b2,b3,b4,qz2,yA,yB,sh,qz1,wm];rcases ho with rfl|rfl
  ·exact fin 1844674407370955162 (by decide)
  ·exact fin 1152921504606846976 (by decide)
 obtain⟨e,e1,e2⟩:=key;unfold zaB zfN;rw[e1,qz1];cases hk:okM mx o t 0 with
 |some r=>
  rw[hk]at e2;obtain rfl:e=((r:Int),.nil,()):=e2;exact⟨0,rfl⟩
 |none=>
  rw[hk]at e2;obtain⟨v,rfl|rfl⟩: ∃v,e=(v,.code 156 2,())\/e=(v,.code 156 1,()):=e2
  ·refine⟨v,?_⟩;simp only[zU.isNil,yN,yB];rw[yL ⟨by omega,by simp⟩];rfl
  ·refine⟨v,?_⟩;simp only[zU.isNil,yN,yB];rw[yL ⟨by omega,by simp⟩];rfl
theorem zBe(o:Nat)(ho:o=10\/o=16)(t:Str)(h0:t≠[])(ht:t.length<=1000000000):
  ∃v,zaB t (o:Int) 53=some (match okN o t 0 with|some r=>((r:Int),zU.nil,())|none=>(v,zU.opq,())):=
 zxi o 53 9007199254740991 ho (.inl ⟨rfl,rfl⟩) t h0 ht
theorem zvT: ∀(t:Str) (a n:Nat),hexN t.length t a=some n->zfe 16 t a=some n
 | [],a,n,h=>h
 |c::r,a,n,h=>by
  rw[qz3]at h;unfold hexN at h;unfold zfe;cases hv:hexV c with
  |none=>rw[hv]at h;cases h
  |some d=>
   rw[hv]at h;simp only at h⊢;rw[yL (zz5 hv),Nat.mul_comm a 16];exact zvT r _ n h
theorem zkV(t:Str)(n:Nat)(h0:t≠[])(h1:t.length<=4)(h2:hexN t.length t 0=some n):zaB t 16 16=some ((n:Int),.nil,()):=by
 obtain⟨v,hv⟩:=zxi 16 16 65535 (.inr rfl) (.inr ⟨rfl,rfl⟩) t h0 (by omega);have hl:=zpo _ _ _ _ h2;have hp:16^t.length<=16^4:=Nat.pow_le_pow_right (by omega) h1
 have hn:n<=65535:=by
  have h4:(16:Nat)^4=65536:=by decide
  omega
 have hv:zaB t 16 16=_:=hv;rw[hv];unfold okM;rw[zvT t 0 n h2];simp only[hn,yB]
theorem zgV(n:Nat)(h:n<65536):zdl (n:Int)=some (enc1 n,()):=by
 have e1:Int.fdiv (n:Int) (2^8)=((n/256:Nat):Int):=by rw[Int.fdiv_eq_ediv_of_nonneg _ (by omega)];rfl
 have w1:IntKind.wrap .u8 ((n/256:Nat):Int)=((n/256:Nat):Int):=wrap_u8 (by omega) (by omega);have w2:IntKind.wrap .u8 (n:Int)=((n%256:Nat):Int):=by rw[zua];omega
 have t1:toB ((n/256:Nat):Int)=some (UInt8.ofNat (n/256)):=by unfold toB;rw[yL (by omega)];rfl
 have t2:toB ((n%256:Nat):Int)=some (UInt8.ofNat (n%256)):=by unfold toB;rw[yL (by omega)];rfl
 unfold zdl;simp only[e1,w1,w2,t1,t2,qz1];rfl
theorem zlQ(x s2 l:Str)(h:l.length+x.length<=274877906944):zak x s2 l=some (((x.length:Nat):Int),zU.nil,s2,l++x,()):=by
 unfold zak;rw[zfz (by omega)];rfl
theorem zwU(s:Str)(acc:List Nat)(k:Nat)(hk:k=2\/k=4)(hs:s.length<=100000000)(ha:acc.length<=100000000):
  ∃r,zb6 (k:Int) s (zc6 acc)=some r/\(match hexN k s 0 with
   |none=>r.1=false
   |some n=>r=(true,s.drop k,zc6 (acc++[n]),())):=by
 unfold zb6;by_cases hl:s.length<k
 ·have c:((((s.length:Nat):Int))< (k:Int)):=by omega
  simp only[c,decide_true,yB];refine⟨_,rfl,?_⟩;cases hn:hexN k s 0 with
  |none=>rfl
  |some n=>have:=zqQ _ _ _ _ hn;omega
 ·have c: ¬((((s.length:Nat):Int))< (k:Int)):=by omega
  have hcut:zav s 0 (k:Int)=some (s.take k):=by
   have:=zkP s 0 k (by omega) (by omega);simpa using this
  have hlen:(s.take k).length=k:=by rw[List.length_take];omega
  have htrim:zkc (s.take k) ([48,49,50,51,52,53,54,55,56,57,97,98,99,100,101,102,65,66,67,68,69,70]:Str)=some (Lib.trimS (s.take k) zxH,()):=by
   unfold zkc zeO;rw[yL ⟨by omega,by decide,by decide⟩];rfl
  have hsome:=zt5 (s.take k) 0;rw[hlen,ztb k s 0 (by omega)]at hsome;simp only[c,decide_false,qz2,yA,hcut,qz1,htrim,zBU,<-hsome];cases hn:hexN k s 0 with
  |none=>exact⟨_,rfl,rfl⟩
  |some n=>
   have hparse:=zkV (s.take k) n (by intro h;rw[h]at hlen;simp at hlen;omega) (by omega) (by rw[hlen,ztb k s 0 (by omega)];exact hn)
   have hp2:zaB (s.take k) 16 16=some ((n:Int),zU.nil,()):=hparse
   have hn2:n<65536:=by
    have:=zpo _ _ _ _ hn;rcases hk with rfl|rfl<;>omega
   have hend:=zd3 s k (by omega);have w:IntKind.wrap .i64 (n:Int)=(n:Int):=wrap_i64 (by omega) (by omega);have hbw:=zlQ (enc1 n) (s.drop k) (zc6 acc) (by simp only[zg5];simp[enc1];omega)
   simp only[Option.isSome_some,yO,qz2,yA,hcut,qz1,hp2,hend,w,zgV n hn2,hbw];refine⟨_,rfl,?_⟩;simp[zc6]
theorem zFF: ∀b:Fin 256,strings_IndexByte ([110,116,114,98,102,118]:Str) ((b.val:Nat):Int)=some (if b.val=110 then 0 else if b.val=116 then 1 else if b.val=114 then 2 else if b.val=98 then 3 else if b.val=102 then 4 else if b.val=118 then 5 else -1,()):=by decide+kernel
theorem zCR(b:UInt8):strings_IndexByte ([110,116,114,98,102,118]:Str) ((b.toNat:Nat):Int)=some (if b.toNat=110 then 0 else if b.toNat=116 then 1 else if b.toNat=114 then 2 else if b.toNat=98 then 3 else if b.toNat=102 then 4 else if b.toNat=118 then 5 else -1,()):=zFF ⟨b.toNat,b.toNat_lt⟩
theorem zCl(s:Str)(acc:List Nat)(hs:s.length<=100000000)(ha:acc.length<=100000000):
  ∃r,zdI s (zc6 acc)=some r/\(match zk1 s with
   |none=>r.1=false
   |some (us,k)=>r=(true,s.drop k,zc6 (acc++us),())):=by
 unfold zdI;cases s with
 |nil=>exact⟨_,rfl,rfl⟩
 |cons c r=>
  have hb:=c.toNat_lt;have g0:zaS (c::r) 0=some ((c.toNat:Nat):Int):=rfl
  have hcut:zav (c::r) 1 (((c::r).length:Nat):Int)=some r:=by
   have:=zd3 (c::r) 1 (by simp);simpa using this
  have hr:r.length<=100000000:=by simp only[qz3]at hs;omega
  have write: ∀n:Nat,n<65536->zak (enc1 n) r (zc6 acc)=some (2,.nil,r,zc6 (acc++[n]),()):=by
   intro n hn;rw[zlQ _ _ _ (by simp only[zg5];simp[enc1];omega)]
   simp[zc6,enc1]
  have wi: ∀n:Nat,n<65536->IntKind.wrap .i64 (n:Int)=(n:Int):=λn hn=>wrap_i64 (by omega) (by omega)
  have c0:((c::r:Str)==([]:Str))=false:=rfl;simp only[c0,qz2,yA,g0,qz1,hcut,zCR];have tn: ∀n:Nat,n<256->(c=UInt8.ofNat n↔c.toNat=n):=znT c
  have spec:zk1 (c::r)=if c.toNat=10 then some ([],1)else if c.toNat=48 then(match r with
   | []=>some ([0],1)
   |d::_=>if 48<=d.toNat/\d.toNat<=57 then none else some ([0],1))
   else if c.toNat=120 then(hexN 2 r 0).map λn=>([n],3)
   else if c.toNat=117 then(hexN 4 r 0).map λn=>([n],5)
   else(zju c).map λn=>([n],1):=by
   simp only[zk1,<-tn 10 (by omega),<-tn 48 (by omega),<-tn 120 (by omega),<-tn 117 (by omega)];rfl
  have simp':zju c=if c.toNat=110 then some 10 else if c.toNat=116 then some 9 else if c.toNat=114 then some 13 else if c.toNat=98 then some 8 else if c.toNat=102 then some 12 else if c.toNat=118 then some 11
    else if c.toNat>127\/c.toNat=13\/c.toNat=120\/c.toNat=117\/(48<=c.toNat/\c.toNat<=57)\/c.toNat=10 then none else some c.toNat:=by
   simp only[zju,<-tn 110 (by omega),<-tn 116 (by omega),<-tn 114 (by omega),<-tn 98 (by omega),<-tn 102 (by omega),<-tn 118 (by omega),<-tn 13 (by omega),<-tn 120 (by omega),<-tn 117 (by omega),<-tn 10 (by omega)];rfl
  rw[spec,simp'];clear spec simp' tn;generalize hk:c.toNat=k at*
  have small: ∀(j m:Nat) (v:Int),v=(j:Int)->([10,9,13,8,12,11]:Str)[j]? =some (UInt8.ofNat m)->m<256->
    ∃r0,(if decide (v>=0)=true then
     Option.bind (zaS ([10,9,13,8,12,11]:Str) v) λv7=>
     Option.bind (zdl (IntKind.wrap .i64 v7)) λv8=>
     Option.bind (zak v8.1 r (zc6 acc)) λv9=>
     some (true,v9.2.2.1,v9.2.2.2.1,())else none)=some r0/\r0=(true,(c::r).drop 1,zc6 (acc++[m]),()):=by
   intro j m v hv hj hm;subst hv;have cc:((j:Int)>=0):=by omega
   have e:(UInt8.ofNat m).toNat=m:=by simp[UInt8.toNat_ofNat'];omega
   simp only[cc,decide_true,yB,zuO,hj,Option.map_some,qz1,e,wi m (by omega),zgV m (by omega),write m (by omega)];exact⟨_,rfl,rfl⟩
  by_cases h110:k=110
  ·subst h110;simpa using small 0 10 0 rfl rfl (by omega)
  by_cases h116:k=116
  ·subst h116;simpa using small 1 9 1 rfl rfl (by omega)
  by_cases h114:k=114
  ·subst h114;simpa using small 2 13 2 rfl rfl (by omega)
  by_cases h98:k=98
  ·subst h98;simpa using small 3 8 3 rfl rfl (by omega)
  by_cases h102:k=102
  ·subst h102;simpa using small 4 12 4 rfl rfl (by omega)
  by_cases h118:k=118
  ·subst h118;simpa using small 5 11 5 rfl rfl (by omega)
  have m1: ¬((-1:Int)>=0):=by decide
  simp only[h110,h116,h114,h98,h102,h118,yA,m1,decide_false,qz2];have cc: ∀m:Nat,((k:Int)==((m:Nat):Int))=decide (k=m):=λm=>zk3 k m
  have c10:((k:Int)==10)=decide (k=10):=cc 10;have c120:((k:Int)==120)=decide (k=120):=cc 120;have c117:((k:Int)==117)=decide (k=117):=cc 117;have c48:((k:Int)==48)=decide (k=48):=cc 48;have c13:((k:Int)==13)=decide (k=13):=cc 13;simp only[c10,c120,c117,c48,c13,yT];by_cases h10:k=10
  ·rw[yL h10,yL h10];exact⟨_,rfl,by simp⟩
  rw[yK h10,yK h10];by_cases h120:k=120
  ·have h48: ¬k=48:=by omega
   rw[yL h120,yK h48,yL h120];obtain⟨x,e1,e2⟩:=zwU r acc 2 (.inl rfl) hr ha;have e1':zb6 2 r (zc6 acc)=some x:=e1;rw[e1'];refine⟨_,rfl,?_⟩;cases hn:hexN 2 r 0 with
   |none=>rw[hn]at e2;exact e2
   |some n=>rw[hn]at e2;simp only at e2;subst e2;simp
  rw[yK h120];by_cases h117:k=117
  ·have h48: ¬k=48:=by omega
   rw[yL h117,yK h48,yK h120,yL h117];obtain⟨x,e1,e2⟩:=zwU r acc 4 (.inr rfl) hr ha;have e1':zb6 4 r (zc6 acc)=some x:=e1;rw[e1'];refine⟨_,rfl,?_⟩;cases hn:hexN 4 r 0 with
   |none=>rw[hn]at e2;exact e2
   |some n=>rw[hn]at e2;simp only at e2;subst e2;simp
  rw[yK h117];by_cases h48:k=48
  ·rw[yL h48,yL h48];have w0:=write 0 (by omega);have u0:zdl 0=some (enc1 0,()):=zgV 0 (by omega);simp only[u0,qz1,w0];cases r with
   |nil=>exact⟨_,rfl,by simp⟩
   |cons d r'=>
    have gd0:zaS (d::r') 0=some ((d.toNat:Nat):Int):=rfl;have cn:((d::r':Str)==([]:Str))=false:=rfl;simp only[cn,qz2,yA,gd0,qz1];by_cases hd1:d.toNat<48
    ·have cd:((d.toNat:Nat):Int)<48:=by omega
     have cd2: ¬(48<=d.toNat/\d.toNat<=57):=by omega
     simp only[cd,decide_true,yB,cd2,yA];exact⟨_,rfl,by simp⟩
    ·have cd: ¬((d.toNat:Nat):Int)<48:=by omega
     simp only[cd,decide_false,qz2,yA];by_cases hd2:d.toNat<=57
     ·have cd2:(48<=d.toNat/\d.toNat<=57):=by omega
      have cd3: ¬((d.toNat:Nat):Int)>57:=by omega
      simp only[cd2,and_self,yB,cd3,decide_false];exact⟨_,rfl,by simp⟩
     ·have cd2: ¬(48<=d.toNat/\d.toNat<=57):=by omega
      have cd3:((d.toNat:Nat):Int)>57:=by omega
      simp only[cd2,yA,cd3,decide_true];exact⟨_,rfl,by simp⟩
  rw[yK h48,yK h48,yK h120,yK h117];by_cases hbad:k>127\/k=13\/k=120\/k=117\/(48<=k/\k<=57)\/k=10
  ·have cb:((decide (k=13)||(decide ((k:Int)>=49)&&decide ((k:Int)<=57)))||decide ((k:Int)>=128))=true:=by
    simp only[yQ,qz4,yT];omega
   rw[yL hbad,cb,yL rfl];exact⟨_,rfl,rfl⟩
  ·have cb:((decide (k=13)||(decide ((k:Int)>=49)&&decide ((k:Int)<=57)))||decide ((k:Int)>=128))=false:=by
    simp only[Bool.or_eq_false_iff,Bool.and_eq_false_iff,decide_eq_false_iff_not];omega
   rw[yK hbad,cb,yK (by simp)];simp only[wi k (by omega),zgV k (by omega),qz1,write k (by omega)];exact⟨_,rfl,by simp⟩
theorem zvQ(q:UInt8)(s0:Str)(hs:(q::s0).length<=100000000): ∀(m:Nat) (rest:Str) (acc:List Nat),rest.length<m->rest.length<=s0.length->acc.length+rest.length<=100000000->okU acc->
  zaL zei m (q::s0,rest,zc6 acc,())=some ((zos q (q::s0) m rest acc).1,(zos q (q::s0) m rest acc).2.1,(zos q (q::s0) m rest acc).2.2,()):=by
 intro m;induction m with
 |zero=>intro rest acc h;omega
 |succ m ih=>
  intro rest acc h1 h2 h3 h4;cases rest with
  |nil=>exact zbf rfl
  |cons c r=>
   have hb:=c.toNat_lt;have g0:zaS (c::r) 0=some ((c.toNat:Nat):Int):=rfl;have gq:zaS (q::s0) 0=some ((q.toNat:Nat):Int):=rfl
   have hcut:zav (c::r) 1 (((c::r).length:Nat):Int)=some r:=by
    have:=zd3 (c::r) 1 (by simp);simpa using this
   have c0:((c::r:Str)==([]:Str))=false:=rfl;have hq:((((c.toNat:Nat):Int))==((q.toNat:Nat):Int))=decide (c=q):=by rw[zk3];simp[UInt8.toNat_inj]
   have u8b: ∀n:Nat,n<256->((((c.toNat:Nat):Int))==((n:Nat):Int))=decide (c=UInt8.ofNat n):=λn h=>by
    rw[zk3,decide_eq_decide];exact(znT _ n h).symm
   have e10:((((c.toNat:Nat):Int))==10)=decide (c=10):=u8b 10 (by omega);have e13:((((c.toNat:Nat):Int))==13)=decide (c=13):=u8b 13 (by omega);have e92:((((c.toNat:Nat):Int))==92)=decide (c=92):=u8b 92 (by omega);have b92:((((c.toNat:Nat):Int)) !=92)= !decide (c=92):=by unfold bne;rw[e92]
   have w:IntKind.wrap .i64 ((((q::s0).length:Nat):Int) - ((r.length:Nat):Int))=(((q::s0).length -r.length:Nat):Int):=by
    have:r.length<=(q::s0).length:=by simp only[qz3]at h2⊢;omega
    rw[wrap_i64 (by omega) (by omega)];omega
   have head:zei (q::s0,c::r,zc6 acc,())=(if c=q then some (.inr (zc6 acc,(((q::s0).length -r.length:Nat):Int),0,()))
     else
      if(c=10\/c=13\/c.toNat>127)then some (.inr ([],0,10,()))
      else
       if c=92 then
        Option.bind (zdI r (zc6 acc)) λr_16=>
         if(!r_16.1)=true then some (Sum.inr (([]:Str),0,10,()))
         else some (Sum.inl (q::s0,r_16.2.1,r_16.2.2.1,()))
       else some (.inl (q::s0,r,zc6 (acc++[c.toNat]),()))):=by
    simp only[zei,c0,yN,yB,g0,gq,hcut,qz1,zdS,hq,e10,e13,e92,b92,w];by_cases hcq:c=q
    ·simp only[hcq,decide_true,yB]
    ·simp only[hcq,decide_false,qz2,yA];by_cases hbad:c=10\/c=13\/c.toNat>127
     ·have cb:((decide (c=10)||decide (c=13))||decide (((c.toNat:Nat):Int)>=128))=true:=by
       simp only[yQ,yT];rcases hbad with h|h|h
       ·exact .inl (.inl h)
       ·exact .inl (.inr h)
       ·right;omega
      rw[cb,yL hbad];rfl
     ·have cb:((decide (c=10)||decide (c=13))||decide (((c.toNat:Nat):Int)>=128))=false:=by
       simp only[Bool.or_eq_false_iff,decide_eq_false_iff_not];refine⟨⟨λh=>hbad (.inl h),λh=>hbad (.inr (.inl h))⟩,λh=>hbad (.inr (.inr (by omega)))⟩
      rw[cb,yK hbad];simp only[qz2,yA];by_cases h92:c=92
      ·simp only[h92,decide_true,yB,yO,qz2,yA]
      ·have w2:IntKind.wrap .i64 ((c.toNat:Nat):Int)=((c.toNat:Nat):Int):=wrap_i64 (by omega) (by omega);have hw:=zlQ (enc1 c.toNat) r (zc6 acc) (by simp only[zg5];simp[enc1];omega)
       simp only[h92,decide_false,qz2,yA,yN,yB,w2,zgV c.toNat (by omega),qz1,hw];simp[zc6]
   by_cases hcq:c=q
   ·rw[yL hcq]at head;refine(zbf head).trans ?_;unfold zos zd5;simp only[hcq,yB]
   ·rw[yK hcq]at head;by_cases hbad:c=10\/c=13\/c.toNat>127
    ·rw[yL hbad]at head;refine(zbf head).trans ?_;unfold zos zd5;simp only[hcq,hbad,yB,yA]
    ·rw[yK hbad]at head;by_cases h92:c=92
     ·rw[yL h92]at head;obtain⟨x,e1,e2⟩:=zCl r acc (by simp only[qz3]at h3;omega) (by omega)
      rw[e1]at head;simp only[qz1]at head;cases hesc:zk1 r with
      |none=>
       rw[hesc]at e2;simp only at e2;rw[e2]at head;refine(zbf head).trans ?_;unfold zos zd5;rw[yK hcq,yK hbad,yL h92,hesc]
      |some p=>
       obtain⟨us,k⟩:=p;rw[hesc]at e2;simp only at e2;obtain⟨p1,p2,p3,p4⟩:=zwZ hesc;subst e2;have hgo:zei (q::s0,c::r,zc6 acc,())=some (.inl (q::s0,r.drop k,zc6 (acc++us),())):=head
       have hacc:okU (acc++us):=by
        intro n hn;rcases List.mem_append.mp hn with h|h
        · exact h4 n h
        · exact p1 n h
       simp only[qz3]at h1 h2 h3;have g1:=ih (r.drop k) (acc++us) (by simp;omega) (by simp;omega) (by simp;omega) hacc
       refine(zdh hgo).trans (g1.trans ?_);unfold zos;conv=>rhs;unfold zd5
       rw[yK hcq,yK hbad,yL h92,hesc]
     ·rw[yK h92]at head
      have hacc:okU (acc++[c.toNat]):=by
       intro n hn;rcases List.mem_append.mp hn with h|h
       ·exact h4 n h
       ·simp at h;omega
      simp only[qz3]at h1 h2 h3;have g1:=ih r (acc++[c.toNat]) (by omega) (by omega) (by simp;omega) hacc
      refine(zdh head).trans (g1.trans ?_);unfold zos;conv=>rhs;unfold zd5
      rw[yK hcq,yK hbad,yK h92]
theorem zxw(s:Str)(hs:s.length<=100000000):zmv s=some ((zcB s).1,(zcB s).2.1,(zcB s).2.2,()):=by
 unfold zmv;cases s with
 |nil=>rfl
 |cons q s0=>
  have gq:zaS (q::s0) 0=some ((q.toNat:Nat):Int):=rfl;have c0:((q::s0:Str)==([]:Str))=false:=rfl;have b39:(((q.toNat:Nat):Int) !=39)= !decide (q=39):=zB0 q 39 (by omega);have b34:(((q.toNat:Nat):Int) !=34)= !decide (q=34):=zB0 q 34 (by omega)
  have hcut:zav (q::s0) 1 (((q::s0).length:Nat):Int)=some s0:=by
   have:=zd3 (q::s0) 1 (by simp);simpa using this
  simp only[c0,qz2,yA,gq,qz1,b39,b34,hcut]
  have good:(q=39\/q=34)->Lp.loop zei (q::s0,s0,[],())=some ((zcB (q::s0)).1,(zcB (q::s0)).2.1,(zcB (q::s0)).2.2,()):=by
   intro hq;have g1:=zvQ q s0 hs (s0.length+1) s0 [] (by omega) (by omega) (by simp only[qz3]at hs;simp;omega) (by intro n hn;cases hn)
   have hfin:zcB (q::s0)=zos q (q::s0) (s0.length+1) s0 []:=by
    unfold zcB zos;simp only[hq,yB]
   rw[hfin];simp only[qz3]at hs;exact zfy g1 (by omega)
  by_cases h39:q=39
  ·have d39:decide (q=39)=true:=by rw[yT];exact h39
   simp only[d39,yO,qz2,yA,qz1];exact good (.inl h39)
  ·have d39:decide (q=39)=false:=by rw[decide_eq_false_iff_not];exact h39
   simp only[d39,yN,yB];by_cases h34:q=34
   ·have d34:decide (q=34)=true:=by rw[yT];exact h34
    simp only[d34,yO,qz1,qz2,yA];exact good (.inr h34)
   ·have d34:decide (q=34)=false:=by rw[decide_eq_false_iff_not];exact h34
    have:zcB (q::s0)=([],0,10):=by
     unfold zcB;simp only[h39,h34,or_self,yA]
    rw[this];simp only[d34,yN];rfl
theorem zFZ(s:Str)(n:Nat)(c:UInt8)(h:s[n]? =some c):zaS s (n:Int)=some ((c.toNat:Nat):Int):=by
 unfold zaS;rw[yL (by omega)];simp[h]
theorem zv6{α:Type}[BEq α][LawfulBEq α][DecidableEq α](a b:α):(a==b)=decide (a=b):=by
 rw[Bool.eq_iff_iff];simp
def zAG(o:Nat)(t:Str)(k:Int)(x:zO):Int×Int×zO×Unit:=match okN o t 0 with
 |some r=>((r:Int),k,x,())
 |none=>(0,0,x,())
theorem zw9(o:Nat)(ho:o=10\/o=16)(t:Str)(h0:t≠[])(ht:t.length<=1000000000)(k:Int)(x:zO):(Option.bind (zaB t (o:Int) 53) λr_12=>
   if(!(r_12.2.1).isNil)=true then
    some ((0:Int),(0:Int),x,())
   else
    Option.bind (strings_Contains t ([95]:Str)) λr_13=>
    if r_13.1=true then
     some (0,0,x,())
    else
     some ((IntKind.wrap .i64 r_12.1),k,x,()))=some (zAG o t k x):=by
 obtain⟨v,hv⟩:=zBe o ho t h0 ht;rw[hv];unfold zAG;cases hk:okN o t 0 with
 |none=>rfl
 |some r=>
   have hr:r<=9007199254740991/\zfe o t 0=some r:=by
     unfold okN at hk;split at hk
     · cases hk
     · split at hk
       · rename_i h1 h2;cases hk;exact⟨h2,h1⟩
       · cases hk
   simp only[qz1,zU.isNil,yO,qz2,yA];rw[ztv t [95] ht,zlZ,zvr t 0 r hr.2];simp only[qz1,qz2,yA];rw[wrap_i64 (by omega) (by omega)]
def zCS(o:Nat)(t:Str)(k:Int)(x:zO):Int×Int×zO×Unit:=match zfe o t 0 with
 |some n=>if n<=9007199254740991 then((n:Int),k,x,())else(0,0,x,())
 |none=>(0,0,x,())
theorem zBt(o:Nat)(t:Str)(k:Int)(x:zO):zAG o t k x=zCS o t k x:=by
 unfold zAG zCS okN;cases zfe o t 0 with
 |none=>rfl
 |some n=>by_cases hm:n<=9007199254740991<;>simp only[hm,yB,yA]
theorem zzy(ds:Str)(kk:Int)(x:zO)(hdl:ds.length<=1000000000)(hz:ds=[]->kk=0):(Option.bind (
    if(decide (((ds.length:Nat):Int)>2))=true then
     Option.bind (zav ds 0 2) λs_7=>
     Option.bind (
       if(s_7==([48,120]:Str))=true then
        some true
       else
        Option.bind (zav ds 0 2) λs_8=>
        some (s_8==([48,88]:Str))) λb_9=>
     some b_9
    else
     some false) λb_10=>
  if b_10=true then
   Option.bind (zav ds 2 ((ds.length:Nat):Int)) λs_11=>
   Option.bind (zaB s_11 16 53) λr_12=>
   if(!(r_12.2.1).isNil)=true then
    some (0,0,x,())
   else
    Option.bind (strings_Contains s_11 ([95]:Str)) λr_13=>
    if r_13.1=true then
     some (0,0,x,())
    else
     some ((IntKind.wrap .i64 r_12.1),kk,x,())
  else
   Option.bind (
     if(decide (((ds.length:Nat):Int)>1))=true then
      Option.bind (zaS ds 0) λc_15=>
      some (c_15==48)
     else
      some false) λb_16=>
   if b_16=true then
    some (0,0,x,())
   else
    Option.bind (zaB ds 10 53) λr_17=>
    if(!(r_17.2.1).isNil)=true then
     some (0,0,x,())
    else
     Option.bind (strings_Contains ds ([95]:Str)) λr_18=>
     if r_18.1=true then
      some (0,0,x,())
     else
      some ((IntKind.wrap .i64 r_17.1),kk,x,()))=some (match zyz ds with
     |some n=>if n<=9007199254740991 then((n:Int),kk,x,())else(0,0,x,())
     |none=>(0,0,x,())):=by
 have h10:(Option.bind (zaB ds 10 53) λr_17=>
    if(!(r_17.2.1).isNil)=true then
     some ((0:Int),(0:Int),x,())
    else
     Option.bind (strings_Contains ds ([95]:Str)) λr_18=>
     if r_18.1=true then
      some (0,0,x,())
     else
      some ((IntKind.wrap .i64 r_17.1),kk,x,()))=some (zCS 10 ds kk x):=by
   by_cases h0:ds=[]
   · rw[hz h0];subst h0;rfl
   · rw[<-zBt];exact zw9 10 (.inl rfl) ds h0 hdl kk x
 have hno:(Option.bind (
   if(decide (((ds.length:Nat):Int)>1))=true then
    Option.bind (zaS ds 0) λc_15=>
    some (c_15==48)
   else
    some false) λb_16=>
 if b_16=true then
  some (0,0,x,())
 else
  Option.bind (zaB ds 10 53) λr_17=>
  if(!(r_17.2.1).isNil)=true then
   some (0,0,x,())
  else
   Option.bind (strings_Contains ds ([95]:Str)) λr_18=>
   if r_18.1=true then
    some (0,0,x,())
   else
    some ((IntKind.wrap .i64 r_17.1),kk,x,()))=some (match(if 1<ds.length/\ds.head?=some 48 then none else zfe 10 ds 0)with
     |some n=>if n<=9007199254740991 then((n:Int),kk,x,())else(0,0,x,())
     |none=>(0,0,x,())):=by
   by_cases h1:1<ds.length
   · have d1:(((ds.length:Nat):Int)>1):=by omega
     cases hdd:ds with
     |nil=>rw[hdd]at h1;simp at h1
     |cons a r=>
       rw[hdd]at d1 h1 h10;simp only[d1,decide_true,yB,zfL,qz1,h1,true_and,List.head?_cons,Option.some.injEq]
       have eb:((((a.toNat:Nat):Int))==48)=decide (a=48):=by
         have h48:(a=48)↔a.toNat=48:=by
          constructor
          ·intro e;subst e;rfl
          ·intro e;apply UInt8.toNat_inj.mp;rw[e];rfl
         rw[zv6,decide_eq_decide,h48];omega
       rw[eb];by_cases ha:a=48
       · simp only[ha,decide_true,yB]
       · simp only[ha,decide_false,qz2,yA];exact h10
   · have d1: ¬(((ds.length:Nat):Int)>1):=by omega
     simp only[d1,h1,decide_false,qz2,yA,false_and,qz1];exact h10
 unfold zyz;by_cases h2:2<ds.length
 · have d2:(((ds.length:Nat):Int)>2):=by omega
   have hc2:zav ds 0 2=some (ds.take 2):=by
     have:=zkP ds 0 2 (by omega) (by omega);simpa using this
   have hcd:zav ds 2 ((ds.length:Nat):Int)=some (ds.drop 2):=zd3 ds 2 (by omega)
   have h16:=zw9 16 (.inr rfl) (ds.drop 2) (by
     intro e;have:=congrArg List.length e;simp only[List.length_drop,qz6]at this;omega) (by simp only[List.length_drop];omega) kk x
   rw[zBt]at h16;simp only[d2,decide_true,yB,hc2,qz1];by_cases hx:ds.take 2=[48,120]
   · have bx:(ds.take 2==([48,120]:Str))=true:=by simpa using hx
     simp only[bx,yB,hcd,qz1,h2,hx,true_and,true_or];exact h16
   · have bx:(ds.take 2==([48,120]:Str))=false:=by simpa using hx
     by_cases hX:ds.take 2=[48,88]
     · have bX:(ds.take 2==([48,88]:Str))=true:=by simpa using hX
       simp only[bx,bX,qz2,yA,yB,hcd,qz1,h2,hX,true_and,or_true];exact h16
     · have bX:(ds.take 2==([48,88]:Str))=false:=by simpa using hX
       simp only[bx,bX,qz2,yA,h2,hx,hX,or_self,and_false,qz1];exact hno
 · have d2: ¬(((ds.length:Nat):Int)>2):=by omega
   simp only[d2,h2,decide_false,qz2,yA,false_and,qz1];exact hno
theorem zvW(c:zO)(hs:c.rest.length<=1000000000):ze9 c=some (match zk2 c.rest with|some (n,k)=>((n:Int),(k:Int),c,())|none=>(0,0,c,())):=by
 obtain⟨src,s,fr⟩:=c;simp only at hs⊢;have hle:=zkZ s;unfold ze9;simp only[zcT];rw[zsI s hs,qz1];have hlen:(s.take (zaM s)).length=zaM s:=by rw[List.length_take];omega
 have hcut:zav s 0 ((zaM s:Nat):Int)=some (s.take (zaM s)):=by
   have:=zkP s 0 (zaM s) (by omega) hle;simpa using this
 simp only[hcut,qz1];generalize hds:s.take (zaM s)=ds at hlen;have hdl:ds.length<=1000000000:=by omega
 have rest:=zzy ds ((zaM s:Nat):Int) ⟨src,s,fr⟩ hdl (λh=>by rw[h]at hlen;simp at hlen;omega)
 unfold zk2;rw[hds];by_cases hlt:zaM s<s.length
 · have d:(((zaM s:Nat):Int)< ((s.length:Nat):Int)):=by omega
   have hx:s[zaM s]? =some s[zaM s]:=qz9 hlt;have hg:zaS s ((zaM s:Nat):Int)=some ((s[zaM s].toNat:Nat):Int):=zFZ s _ _ hx;simp only[d,decide_true,yB,hg,qz1];rw[hx]
   have eb:((((s[zaM s].toNat:Nat):Int))==46)=decide (s[zaM s]=46):=by
     have h46:(s[zaM s]=46)↔s[zaM s].toNat=46:=by
       constructor
       · intro e;rw[e];rfl
       · intro e;apply UInt8.toNat_inj.mp;rw[e];rfl
     rw[zv6,decide_eq_decide,h46];omega
   rw[eb];by_cases h46:s[zaM s]=46
   · simp only[h46,decide_true,yB]
   · have hne: ¬(some s[zaM s]=some (46:UInt8)):=by simpa using h46
     simp only[h46,decide_false,hne,qz2,yA];rw[rest];cases zyz ds with
     |none=>rfl
     |some n=>by_cases hm:n<=9007199254740991<;>simp only[hm,yB,yA]
 · have d: ¬(((zaM s:Nat):Int)< ((s.length:Nat):Int)):=by omega
   have hx:s[zaM s]? =none:=List.getElem?_eq_none (by omega);simp only[d,decide_false,qz2,yA,qz1];rw[hx,rest];simp only[reduceCtorEq,yA];cases zyz ds with
   |none=>rfl
   |some n=>by_cases hm:n<=9007199254740991<;>simp only[hm,yB,yA]
theorem zyG(c:UInt8)(n:Nat)(h:n<256):((((c.toNat:Nat):Int))==((n:Nat):Int))=decide (c=UInt8.ofNat n):=by
 have e:(c=UInt8.ofNat n)↔c.toNat=n:=znT c n h;rw[zv6,decide_eq_decide,e];omega
theorem zrr(ws:List Str)(list s:Str)(hl:list=joined ws)(hw: ∀w∈ws,(32:UInt8)∉w)(hn:([]:Str)∉ws):zfH list s=ws.contains s:=by
 subst hl;unfold zfH;cases hc:s.contains 32 with
 |true=>
  have:ws.contains s=false:=by
   rw[<-Bool.not_eq_true];intro h;have hm:=hw s (by simpa using h);exact hm (by simpa using hc)
  rw[this];simp
 |false=>
  rw[zhG s (by simpa using hc) ws hw];cases s with
  |nil=>
   have:ws.contains ([]:Str)=false:=by rw[<-Bool.not_eq_true];intro h;exact hn (by simpa using h)
   rw[this];rfl
  |cons a r=>rfl
theorem zwV(s:Str):zAW s=zp0 s:=zrr zBx _ s (by decide+kernel) (by decide+kernel) (by decide+kernel)
theorem zAE(x:Str)(h:x.length<=1000000000):zeL ([32,61,61,61,32,33,61,61,32]:Str) x=some (zk9.contains x,()):=by
 rw[zkT _ _ (by decide) h,zrr zk9 _ x (by decide+kernel) (by decide+kernel) (by decide+kernel)]
theorem zAZ(x:Str)(h:x.length<=1000000000):zeL ([32,60,61,32,62,61,32,61,61,32,33,61,32,43,43,32,45,45,32,38,38,32,124,124,32,43,61,32,45,61,32,42,61,32,47,61,32,37,61,32]:Str) x=some (zmk.contains x,()):=by
 rw[zkT _ _ (by decide) h,zrr zmk _ x (by decide+kernel) (by decide+kernel) (by decide+kernel)]
def zxM(r:Option (zl×Int×zO×Unit))(c:zO)(o:Option (Tok×Nat)):Prop:=match o with
 |some (t,n)=>r=some (t,(n:Int),c,())
 |none=>∃t,r=some (t,0,c,())
theorem zzq(c:zO)(h0:c.rest≠[])(hs:c.rest.length<=100000000):zxM (zdP c) c (zhj c.rest):=by
 obtain⟨src,s,fr⟩:=c;simp only at h0 hs⊢;cases s with
 |nil=>exact absurd rfl h0
 |cons b r=>
  have hrow:=zsI (b::r) (by omega);have hle:=zkZ (b::r)
  have hcut: ∀k:Nat,k<=(b::r).length->zav (b::r) 0 (k:Int)=some ((b::r).take k):=by
   intro k hk;have:=zkP (b::r) 0 k (by omega) hk;simpa using this
  unfold zdP zhj;simp only[zfL,qz1,zke,zkO,zcT];by_cases hl:isLet b=true
  ·simp only[hl,yB,hrow,qz1];by_cases h32:32<zaM (b::r)
   ·have d:(((zaM (b::r):Nat):Int)>32):=by omega
    simp only[d,h32,decide_true,yB];exact⟨_,rfl⟩
   ·have d: ¬(((zaM (b::r):Nat):Int)>32):=by omega
    simp only[d,h32,decide_false,qz2,yA,hcut _ hle,qz1];rw[zu5 _ (by simp only[List.length_take];omega),qz1,zwV]
    cases zp0 ((b::r).take (zaM (b::r)))with
    |true=>simp only[yB];rfl
    |false=>simp only[qz2,yA];rfl
  ·have hl':isLet b=false:=by simpa using hl
   simp only[hl',qz2,yA];by_cases hd:zlf b=true
   ·have hn:=zvW ⟨src,b::r,fr⟩ (by simp only;omega)
    simp only at hn;simp only[hd,yB,hn,qz1];cases zk2 (b::r)with
    |none=>exact⟨_,rfl⟩
    |some p=>rfl
   ·have hd':zlf b=false:=by simpa using hd
    simp only[hd',qz2,yA];have b39:((((b.toNat:Nat):Int))==39)=decide (b=39):=zyG b 39 (by omega);have b34:((((b.toNat:Nat):Int))==34)=decide (b=34):=zyG b 34 (by omega);rw[b39,b34];by_cases hq:b=39\/b=34
    ·have dq:(decide (b=39)||decide (b=34))=true:=by simpa using hq
     simp only[dq,yB,hq,zxw (b::r) hs,qz1];generalize hx:zcB (b::r)=q;obtain⟨u,n,e⟩:=q;have hb:=zwX hx;simp only;by_cases hn:n=0
     ·simp only[hn,yB];exact⟨_,rfl⟩
     ·simp only[hn,yA];have:((n.toNat:Nat):Int)=n:=by omega
      unfold zxM;simp only[this]
    ·have dq:(decide (b=39)||decide (b=34))=false:=by simpa using hq
     simp only[dq,qz2,yA,hq]
     have hlast: ¬(2< (b::r).length/\zk9.contains ((b::r).take 3)=true)->¬(1< (b::r).length/\zmk.contains ((b::r).take 2)=true)->
       zxM (zdK 0 (b::r) ((b.toNat:Nat):Int) ⟨src,b::r,fr⟩ ⟨0,[],0,0,false⟩) ⟨src,b::r,fr⟩ (if zcq (b::r)=0 then none else some (({Kind:=5,Text:=(b::r).take (zcq (b::r)),Num:=0,At:=0,Fresh:=false}:Tok),zcq (b::r))):=by
      intro n3 n2;unfold zdK strings_IndexByte zdN;simp only[ziz,Option.map_some,qz1,zcT,zyW];have e1:(((b.toNat:Nat):Int)).toNat.toUInt8=b:=by simp
      have e2:=Lib.contains_iff_indexByte ([123,125,40,41,91,93,46,59,44,60,62,43,45,42,47,37,33,63,58,61]:Str) b
      have e3:zcq (b::r)=if ztH.contains b=true then 1 else 0:=by
       unfold zcq;rw[yK n3,yK n2];rfl
      rw[e1,e3];have e4:decide (Lib.indexByte ([123,125,40,41,91,93,46,59,44,60,62,43,45,42,47,37,33,63,58,61]:Str) b>=0)=ztH.contains b:=e2.symm;rw[e4];cases ztH.contains b with
      |true=>
       simp only[yB];have:=hcut 1 (by simp);rw[show zav (b::r) 0 1=_ from this];rfl
      |false=>
       simp only[qz2,yA];exact⟨_,rfl⟩
     have hmid: ¬(2< (b::r).length/\zk9.contains ((b::r).take 3)=true)->
       zxM (zdJ 0 (b::r) ((b.toNat:Nat):Int) ⟨src,b::r,fr⟩ ⟨0,[],0,0,false⟩) ⟨src,b::r,fr⟩ (if zcq (b::r)=0 then none else some (({Kind:=5,Text:=(b::r).take (zcq (b::r)),Num:=0,At:=0,Fresh:=false}:Tok),zcq (b::r))):=by
      intro n3;unfold zdJ;simp only[zcT,zyW];by_cases h1:1< (b::r).length
      ·have d1:((((b::r).length:Nat):Int)>1):=by omega
       have hc2':zav (b::r) 0 2=some ((b::r).take 2):=hcut 2 (by omega);simp only[d1,decide_true,yB,hc2',qz1,zAZ _ (show((b::r).take 2).length<=1000000000 by simp only[List.length_take];omega)]
       cases hb:zmk.contains ((b::r).take 2)with
       |true=>
        have e3:zcq (b::r)=2:=by
         unfold zcq;rw[yK n3,yL ⟨h1,hb⟩]
        rw[e3];simp only[yB];rfl
       |false=>exact hlast n3 (by rw[hb];simp)
      ·have d1: ¬((((b::r).length:Nat):Int)>1):=by omega
       simp only[d1,decide_false,qz2,yA];exact hlast n3 (by simp only[h1,false_and,not_false_eq_true])
     by_cases h2:2< (b::r).length
     ·have d2:((((b::r).length:Nat):Int)>2):=by omega
      have hc3':zav (b::r) 0 3=some ((b::r).take 3):=hcut 3 (by omega);simp only[d2,decide_true,yB,hc3',qz1,zAE _ (show((b::r).take 3).length<=1000000000 by simp only[List.length_take];omega)]
      cases hb:zk9.contains ((b::r).take 3)with
      |true=>
       have e3:zcq (b::r)=3:=by
        unfold zcq;rw[yL ⟨h2,hb⟩]
       rw[e3];simp only[yB];rfl
      |false=>exact hmid (by rw[hb];simp)
     ·have d2: ¬((((b::r).length:Nat):Int)>2):=by omega
      simp only[d2,decide_false,qz2,yA];exact hmid (by simp only[h2,false_and,not_false_eq_true])
theorem zoP(len:Nat)(p:Tok×Nat)(l:List (Tok×Nat)):zeQ len (p::l)=p.1.at_ ((len -p.2:Nat):Int)::zeQ len l:=rfl
theorem zEv{a b:Nat}(h:b<=a)(ha:a<=1000000000000):IntKind.wrap .i64 ((a:Int) - (b:Int))=((a -b:Nat):Int):=by rw[wrap_i64 (by omega) (by omega)];omega
theorem zFW(l:List zl):zla l=some (l,()):=by
 unfold zla
 have:zzf l 0 ((l.length:Nat):Int) ((l.length:Nat):Int)=some l:=by
  unfold zzf;simp
 rw[this];rfl
theorem zy5(src:Str)(hs:src.length<=100000000): ∀(m:Nat) (s:Str) (f0:Bool) (out:List Tok),s.length<m->s.length<=src.length->out.length+s.length<=src.length->
  match zch m s false with
   | .inl l=>zaL zge m (src,⟨src,s,f0⟩,out,())=some (out++zeQ src.length l,0,0,())
   | .inr k=>k<=src.length/\zaL zge m (src,⟨src,s,f0⟩,out,())=some ([],((src.length -k:Nat):Int),60,())
 |0,s,f0,out,h,_,_=>by omega
 |m+1,s,f0,out,hm,hsl,hout=>by
  have hb:=zvx ⟨src,s,f0⟩ (by simp only;omega)
  simp only at hb;have hl:=zcn (s.length+1) s false;rw[zch];generalize hq:zat (s.length+1) s false=q at hb hl;obtain⟨r,f,ok⟩:=q;simp only at hb hl⊢;have w:IntKind.wrap .i64 (((src.length:Nat):Int) - ((r.length:Nat):Int))=((src.length -r.length:Nat):Int):=zEv (by omega) (by omega)
  have hstep:zge (src,⟨src,s,f0⟩,out,())=(if ok=true then
    if(r==([]:Str))=true then
     some (.inr (out++[({Kind:=0,Text:=([]:Str),Num:=0,At:=((src.length -r.length:Nat):Int),Fresh:=f}:zl)],0,0,()))
    else Option.bind (zdP ⟨src,r,f⟩) λr_12=>
     if(r_12.2.1==0)=true then
      some (Sum.inr (([]:List zl),IntKind.wrap .i64 (((src.length:Nat):Int) - ((r_12.2.2.1.rest.length:Nat):Int)),60,()))
     else
      Option.bind (zav r_12.2.2.1.rest r_12.2.1 ((r_12.2.2.1.rest.length:Nat):Int)) λs_17=>
      some (Sum.inl (src,(⟨r_12.2.2.1.src,s_17,r_12.2.2.1.fresh⟩:zO),out++[(⟨r_12.1.Kind,r_12.1.Text,r_12.1.Num,((src.length -r.length:Nat):Int),r_12.2.2.1.fresh⟩:zl)],()))
   else some (.inr ([],((src.length -r.length:Nat):Int),60,()))):=by
   simp only[zge,zcT,hb,qz1,w,zFW];rw[zfz (by simp only[qz3,qz6];omega)]
   simp only[qz1];cases ok with
   |false=>rfl
   |true=>
    simp only[yB];cases(r==([]:Str))with
    |true=>rfl
    |false=>
     simp only[qz2,yA];congr 1;funext r_12;rw[zfz (by simp only[qz3,qz6];omega)]
     rfl
  cases ok with
  |false=>
   simp only[qz2,yA]at hstep;simp only[yB];exact⟨by omega,zbf hstep⟩
  |true=>
   simp only[yB]at hstep;simp only[Bool.true_eq_false,yA];by_cases hr:r=[]
   ·subst hr;simp only[beq_self_eq_true,yB]at hstep;simp only[yB];exact zbf hstep
   ·have br:(r==([]:Str))=false:=by simpa using hr
    simp only[br,qz2,yA]at hstep;simp only[hr,yA];have h1:=zzq ⟨src,r,f⟩ hr (by simp only;omega)
    simp only at h1;cases ho:zhj r with
    |none=>
     rw[ho]at h1;obtain⟨t,e1⟩:=h1;rw[e1]at hstep;simp only[qz1,beq_self_eq_true,yB,w]at hstep;exact⟨by omega,zbf hstep⟩
    |some p=>
     obtain⟨t,n⟩:=p;rw[ho]at h1;have e1:zdP ⟨src,r,f⟩=some (t,(n:Int),⟨src,r,f⟩,()):=h1;rw[e1]at hstep;have hn:=zi5 ho;have c0:((n:Int)==0)=false:=by rw[yH];omega
     have hcut:zav r (n:Int) ((r.length:Nat):Int)=some (r.drop n):=zd3 r n hn.2.1;simp only[qz1,c0,qz2,yA,hcut]at hstep;have htok:(⟨t.Kind,t.Text,t.Num,((src.length -r.length:Nat):Int),f⟩:Tok)=(t.fresh f).at_ ((src.length -r.length:Nat):Int):=rfl;rw[htok]at hstep;have hdl:(r.drop n).length=r.length -n:=List.length_drop;have g:=zy5 src hs m (r.drop n) f (out++[(t.fresh f).at_ ((src.length -r.length:Nat):Int)]) (by omega) (by omega) (by simp only[qz5,qz3,qz6];omega)
     dsimp only;cases hc:zch m (r.drop n) false with
     |inl l=>
       rw[hc]at g;simp only at g⊢;refine(zdh hstep).trans (g.trans ?_);rw[zoP];simp
     |inr k=>
       rw[hc]at g;exact⟨g.1,(zdh hstep).trans g.2⟩
theorem ztz(src:Str)(hs:src.length<=100000000):zoc src=some ((zcd src).1,(zcd src).2.1,(zcd src).2.2,()):=by
 unfold zoc zcd;by_cases h:4096<src.length
 ·have d:(((src.length:Nat):Int)>4096):=by omega
  simp only[d,h,decide_true,yB]
 ·have d: ¬(((src.length:Nat):Int)>4096):=by omega
  simp only[d,h,decide_false,qz2,yA];have g:=zy5 src hs (src.length+1) src false [] (by omega) (by omega) (by simp);cases hc:zch (src.length+1) src false with
  |inl l=>
   rw[hc]at g;exact(zfy g (by omega)).trans rfl
  |inr k=>
   rw[hc]at g;exact(zfy g.2 (by omega)).trans rfl
end Go.D08.U
namespace Go.D08
open Go Go.Gw Go.Dn
def i64(n:Int):Prop:= -9223372036854775808<=n/\n<9223372036854775808
mutual
def okN:Node->Prop
 | ⟨k,_,m,_,_,l⟩=>i64 k/\i64 m/\okL l
def okL:List Node->Prop
 | []=>True
 |x::r=>okN x/\okL r
end
mutual
def zam:Node->Nat
 | ⟨_,n,_,t,ns,l⟩=>n.length+t.length+(ns.map λs=>s.length+1).sum+zaO l+7
def zaO:List Node->Nat
 | []=>0
 |x::r=>zam x+zaO r
end
mutual
theorem zll: ∀x:Node,zhD x<=zam x
 | ⟨_,_,_,_,_,l⟩=>by simp only[zhD,zam];have:=zvc l;omega
theorem zvc: ∀l:List Node,ziW l<=zaO l
 | []=>by simp[ziW]
 |x::r=>by simp only[ziW,zaO];have:=zll x;have:=zvc r;omega
end
theorem zyp: ∀l:List Str,l.length<=(l.map λs=>s.length+1).sum
 | []=>by simp
 |x::r=>by simp only[qz3,List.map_cons,List.sum_cons];have:=zyp r;omega
mutual
theorem zqZ: ∀x:Node,zlo x<=zam x
 | ⟨_,_,_,_,ns,l⟩=>by simp only[zlo,zam];have:=zue l;have:=zyp ns;omega
theorem zue: ∀l:List Node,zlF l<=zaO l
 | []=>by simp[zlF]
 |x::r=>by simp only[zlF,zaO];have:=zqZ x;have:=zue r;omega
end
theorem zEA(x:Node):zam x=x.Name.length+x.Text.length+(x.Names.map λs=>s.length+1).sum+zaO x.L+7:=by cases x;simp[zam]
end Go.D08
namespace Go.D08
open Go Go.Gw Go.Dn
set_option maxRecDepth 100000
def zox(l:Str):Str:=l.takeWhile (· !=42)
def zBj(l:Str):Str:=(l.dropWhile (· !=42)).drop 1
abbrev Form:=zb0
theorem zJo{i:Int}(h0:0<=i)(h1:i<=1):zav ([101]:Str) 0 i=some (if i=1 then[101]else[]):=by
 rcases(show i=0\/i=1 by omega)with rfl|rfl<;>rfl
theorem zGc{i:Int}(h0:2<=i)(h1:i<=3):zav ([101,98,98]:Str) 0 i=some (if i=3 then[101,98,98]else[101,98]):=by
 rcases(show i=2\/i=3 by omega)with rfl|rfl<;>rfl
theorem zEL(n:Nat):0<=(if 1< ((n:Nat):Int)then(1:Int)else(n:Int))/\(if 1< ((n:Nat):Int)then(1:Int)else(n:Int))<=1:=by split<;>omega
theorem zEM(n:Nat):2<=(let a:=(if 2>((n:Nat):Int)then(2:Int)else(n:Int));if 3<a then 3 else a)/\(let a:=(if 2>((n:Nat):Int)then(2:Int)else(n:Int));if 3<a then 3 else a)<=3:=by
 simp only;split<;>split<;>omega
def zad(n:Node):Option Form:=match zaz n with
 |some (f,true,())=>some f
 |_=>none
def zaZ(n:Node)(w:Str):Bool:=
 if(w==([]:Str))=true then n.Name==([]:Str)
 else if(w==([110]:Str))=true then zbL n.Name
 else if(w==([109]:Str))=true then n.Name==([]:Str)||zbL n.Name
 else if(w==([105]:Str))=true then zj5 n.Name
 else if(w==([99]:Str))=true then(if(match n.L[1]? with|some x=>x.Kind==25|none=>false)=true then zbL n.Name else n.Name==([]:Str))
 else zfH w n.Name
def zms(k:Int):Bool:=decide (k>=1)&&(decide (k<=21)&&k !=9)
def zgK(k:Int):Bool:=(k==3||k==11)||k==12
def stK(k:Int)(fn:Bool):Bool:=(((decide (k>=22))&&(decide (k<=40)))&&(k !=23)&&(k !=37))&&((k !=39)||fn)
def isP(x:Node)(c:Int):Bool:=
 if(c==101)=true then zms x.Kind
 else if(c==116)=true then zgK x.Kind
 else if(c==102)=true then zms x.Kind||x.Kind==42
 else if(c==98)=true then x.Kind==25
 else if(c==99)=true then x.Kind==25||x.Kind==42
 else if(c==112)=true then x.Kind==9
 else if(c==100)=true then x.Kind==23
 else if(c==118)=true then(zms x.Kind||x.Kind==42)||x.Kind==22
 else if(c==119)=true then zgK x.Kind||(x.Kind==22&&(match x.L with| [y]=>y.L.isEmpty|_=>false))
 else if(c==107)=true then x.Kind==37
 else if(c==115)=true then stK x.Kind false
 else if(c==120)=true then stK x.Kind true
 else false
def zij(x k:Node):Bool:=(x.Kind==35&&k.Kind==42)||((x.Kind==36&&k.Kind==37)&&(match k.L with|y::_=>y.Kind==42| []=>false))
def zjO(x:Node)(ls:Str):List (Node×Bool)->Nat->Nat->Bool
 | [],_,e=>decide (e<2)
 | (k,b)::r,i,e=>match ls[min i (ls.length -1)]? with
   |none=>false
   |some c=>(isP k ((c.toNat:Nat):Int)&&b)&&zjO x ls r (i+1) (if zij x k=true then e+1 else e)
def zvU(x:Node)(f:Form):Bool:=(zaZ x f.name&&(decide (0<=x.Num)&&decide (x.Num<=f.num)))&&(((zaT x.Text&&(x.Text==([]:Str)||f.text))&&(x.Names.isEmpty||f.names))&&x.Names.all zbL)
def zl9(x:Node)(l:Str):Bool:=decide ((zox l).length<=x.L.length)&&(l.contains 42||decide (x.L.length<=(zox l).length))
def zxW(x:Node)(ks:List (Node×Bool)):Bool:=match zad x with
 |none=>false
 |some f=>(zvU x f&&zl9 x f.l)&&zjO x (zox f.l++zBj f.l) ks 0 0
mutual
def zbn:Node->Bool
 | ⟨k,n,m,t,ns,l⟩=>zxW ⟨k,n,m,t,ns,l⟩ (zlS l)
def zlS:List Node->List (Node×Bool)
 | []=>[]
 |x::r=>(x,zbn x)::zlS r
end
theorem zwJ(x:Node):zbn x=zxW x (zlS x.L):=by cases x;simp[zbn]
end Go.D08
namespace Go.D08
open Go Go.Gw Go.Dn
noncomputable section
def zBH(s:Str):Str:=match zoK s with
 |some (q,_,_)=>q
 |none=>[]
end
end Go.D08
namespace Go.D08
open Go Go.Gw Go.Dn
set_option maxRecDepth 100000
structure Tok where
 kind:Nat
 text:Str
 num:Int
 fresh:Bool
abbrev zD:=List Tok
def opK(t:Tok):Bool:=t.kind==5||t.kind==2
def tIs(s:Str):zD->Bool
 |t::_=>opK t&&(t.text==s)
 | []=>false
def zcc(l:List Str):zD->Bool
 |t::_=>opK t&&l.contains t.text
 | []=>false
def tText:zD->Str
 |t::_=>t.text
 | []=>[]
def zI:zD->Nat
 |t::_=>t.kind
 | []=>0
def zfE:zD->Bool
 |t::_=>t.fresh
 | []=>false
def zD0:List Str:=[[45],[43],[33],[116,121,112,101,111,102],[100,101,108,101,116,101],[118,111,105,100]]
def ziB:List Str:=[[43,43],[45,45]]
def zEk:List Str:=[[61],[43,61],[45,61],[42,61],[47,61],[37,61]]
def eqL:List Str:=[[61,61],[33,61],[61,61,61],[33,61,61]]
def ltL:List Str:=[[60],[62],[60,61],[62,61],[105,110,115,116,97,110,99,101,111,102]]
def zuH:List Str:=[[43],[45]]
def mulL:List Str:=[[42],[47],[37]]
def lvS(no:Bool)(s:Str):Int×Int:=
 if(s==([124,124]:Str))=true then(3,18)
 else if(s==([38,38]:Str))=true then(4,18)
 else if eqL.contains s=true then(5,17)
 else if(ltL.contains s||(!no&&s==([105,110]:Str)))=true then(6,17)
 else if zuH.contains s=true then(7,17)
 else if mulL.contains s=true then(8,17)
 else(0,0)
def zcO(no:Bool):zD->Int×Int
 |t::_=>if opK t=true then lvS no t.text else(0,0)
 | []=>(0,0)
abbrev PR(α:Type):=Option (Nat⊕(α×zD))
abbrev gt{α:Type}(q:α×zD):PR α:=some (.inr q)
abbrev bad{α:Type}(t:zD):PR α:=some (.inl t.length)
def PR.bd{α β:Type}(x:PR α)(f:α×zD->PR β):PR β:=match x with|none=>none|some (.inl k)=>some (.inl k)|some (.inr p)=>f p
def PR.bn{β:Type}(x:PR Unit)(f:zD->PR β):PR β:=x.bd λq=>f q.2
theorem zEZ{α β:Type}(q:α×zD)(f:α×zD->PR β):PR.bd (some (.inr q)) f=f q:=rfl
def zaw(s:Str)(t:zD):PR Unit:=if tIs s t=true then gt ((),t.tail)else bad t
structure PG where
 expr:Bool->zD->PR Node
 comma:Bool->Node->zD->PR Node
 assign:Bool->zD->PR Node
 binary:Bool->Int->zD->PR Node
 bins:Bool->Int->Node->zD->PR Node
 unary:zD->PR Node
 mems:Bool->Node->zD->PR Node
 made:zD->PR Node
 prim:zD->PR Node
 exprs:Str->Bool->zD->PR (List Node)
 props:zD->PR (List Node)
 func:Int->zD->PR Node
 vars:Bool->zD->PR (List Node)
 block:zD->PR Node
 head:zD->PR Node
 till:Str->zD->PR Node
 loop:zD->PR Node
 cases:Bool->zD->PR (List Node)
 body:zD->PR (List Node)
 stmt:zD->PR Node
 stmts:Bool->zD->PR (List Node)
def nd(k:Int)(l:List Node):Node:=⟨k,[],0,[],[],l⟩
def ndN(k:Int)(s:Str)(l:List Node):Node:=⟨k,s,0,[],[],l⟩
section
variable (g:PG)
def zi0(no:Bool)(t:zD):PR Node:=(g.assign no t).bd λq=>g.comma no q.1 q.2
def zj9(no:Bool)(x:Node)(t:zD):PR Node:=
 if tIs [44] t=true then(g.assign no t.tail).bd λq=>g.comma no (nd 21 [x,q.1]) q.2 else gt (x,t)
def zfB(no:Bool)(t:zD):PR Node:=(g.binary no 3 t).bd λq=>
 if tIs [63] q.2=true then(g.assign false q.2.tail).bd λy=>(zaw [58] y.2).bn λt=>(g.assign no t).bd λz=>gt (nd 19 [q.1,y.1,z.1],z.2)
 else if zcc zEk q.2=true then(if zgK q.1.Kind=true then(g.assign no q.2.tail).bd λy=>gt (ndN 20 (tText q.2) [q.1,y.1],y.2)else bad q.2)
 else gt q
def zfA(no:Bool)(least:Int)(t:zD):PR Node:=(g.unary t).bd λq=>g.bins no least q.1 q.2
def zld(no:Bool)(least:Int)(x:Node)(t:zD):PR Node:=
 if(decide ((zcO no t).1<least)||(zcO no t).1==0)=true then gt (x,t)
 else(g.binary no ((zcO no t).1+1) t.tail).bd λy=>g.bins no least (ndN (zcO no t).2 (tText t) [x,y.1]) y.2
def zer(t:zD):PR Node:=
 if zcc zD0 t=true then(g.unary t.tail).bd λy=>gt (ndN 15 (tText t) [y.1],y.2)
 else if zcc ziB t=true then(g.unary t.tail).bd λy=>if zgK y.1.Kind=true then gt (⟨16,tText t,1,[],[],[y.1]⟩,y.2)else bad y.2
 else(g.made t).bd λq=>(g.mems true q.1 q.2).bd λq=>
  if(!zcc ziB q.2||zfE q.2)=true then gt q else if zgK q.1.Kind=true then gt (ndN 16 (tText q.2) [q.1],q.2.tail)else bad q.2
def zk5(calls:Bool)(x:Node)(t:zD):PR Node:=
 if tIs [46] t=true then(if(zI t.tail==1||zI t.tail==2)=true then g.mems calls (ndN 11 (tText t.tail) [x]) t.tail.tail else bad t.tail)
 else if tIs [91] t=true then(g.expr false t.tail).bd λk=>(zaw [93] k.2).bn λt=>g.mems calls (nd 12 [x,k.1]) t
 else if(calls&&tIs [40] t)=true then(g.exprs [41] false t.tail).bd λl=>g.mems calls (nd 13 (x::l.1)) l.2
 else gt (x,t)
def zf5(t:zD):PR Node:=
 if tIs [110,101,119] t=true then(g.made t.tail).bd λq=>(g.mems false q.1 q.2).bd λq=>
  if tIs [40] q.2=true then(g.exprs [41] false q.2.tail).bd λl=>gt (nd 14 (q.1::l.1),l.2)else gt (nd 14 [q.1],q.2)
 else g.prim t
def zd1(t:zD):PR Node:=
 if(zI t==1)=true then gt (ndN 3 (tText t) [],t.tail)
 else if(zI t==3)=true then(match t with|a::r=>gt (⟨1,[],a.num,[],[],[]⟩,r)| []=>none)
 else if(zI t==4)=true then gt (⟨2,[],0,tText t,[],[]⟩,t.tail)
 else if tIs [116,104,105,115] t=true then gt (nd 4 [],t.tail)
 else if tIs [110,117,108,108] t=true then gt (nd 5 [],t.tail)
 else if tIs [102,97,108,115,101] t=true then gt (nd 6 [],t.tail)
 else if tIs [116,114,117,101] t=true then gt (⟨6,[],1,[],[],[]⟩,t.tail)
 else if tIs [102,117,110,99,116,105,111,110] t=true then g.func 10 t.tail
 else if tIs [40] t=true then(g.expr false t.tail).bd λk=>(zaw [41] k.2).bn λt=>gt (k.1,t)
 else if tIs [91] t=true then(g.exprs [93] true t.tail).bd λl=>gt (nd 7 l.1,l.2)
 else if tIs [123] t=true then(g.props t.tail).bd λl=>gt (nd 8 l.1,l.2)
 else bad t
def zfI(shut:Str)(last:Bool)(t:zD):PR (List Node):=
 if tIs shut t=true then gt ([],t.tail)
 else(g.assign false t).bd λx=>
  if tIs shut x.2=true then gt ([x.1],x.2.tail)
  else(zaw [44] x.2).bn λt=>if(!last&&tIs shut t)=true then bad t else(g.exprs shut last t).bd λl=>gt (x.1::l.1,l.2)
def wide(s:Str):Str:=s.flatMap λb=>[0,b]
def zmO:zD->PR Str
 |a::r=>if(a.kind==4)=true then gt (a.text,r)else if(a.kind==3)=true then gt (wide (Lib.itoa a.num),r)else if(a.kind==1||a.kind==2)=true then gt (wide a.text,r)else bad (a::r)
 | []=>none
def zgh(t:zD):PR (List Node):=
 if tIs [125] t=true then gt ([],t.tail)
 else(zmO t).bd λk=>(zaw [58] k.2).bn λt1=>(g.assign false t1).bd λx=>
  if tIs [125] x.2=true then gt ([⟨9,[],0,k.1,[],[x.1]⟩],x.2.tail)
  else(zaw [44] x.2).bn λt2=>(g.props t2).bd λl=>gt (⟨9,[],0,k.1,[],[x.1]⟩::l.1,l.2)
def zfO:zD->PR (List Str)
 |a::b::r=>if(a.kind==1)=true then(if tIs [41] (b::r)=true then gt ([a.text],r)else if tIs [44] (b::r)=true then(if tIs [41] r=true then bad r else(zfO r).bd λl=>gt (a.text::l.1,l.2))else bad (b::r))else bad (a::b::r)
 | [a]=>bad [a]
 | []=>none
def zdR(t:zD):PR (List Str):=if tIs [41] t=true then gt ([],t.tail)else zfO t
def ziX(kind:Int)(t:zD):PR Node:=
 (if(zI t==1)=true then gt (tText t,t.tail)else if(kind==39)=true then bad t else gt ([],t)).bd λm=>(zaw [40] m.2).bn λt=>(zdR t).bd λns=>(zaw [123] ns.2).bn λt=>(g.stmts true t).bd λl=>(zaw [125] l.2).bn λt=>gt (⟨kind,m.1,0,[],ns.1,l.1⟩,t)
def ziZ(no:Bool)(t:zD):PR (List Node):=
 if(zI t==1)=true then
  (if tIs [61] t.tail=true then(g.assign no t.tail.tail).bd λy=>gt ([y.1],y.2)else gt ([],t.tail)).bd λd=>
   if tIs [44] d.2=true then(g.vars no d.2.tail).bd λl=>gt (ndN 23 (tText t) d.1::l.1,l.2)else gt ([ndN 23 (tText t) d.1],d.2)
 else bad t
def zgX(t:zD):PR Node:=(zaw [123] t).bn λt=>(g.stmts false t).bd λl=>(zaw [125] l.2).bn λt=>gt (nd 25 l.1,t)
def zle(t:zD):PR Node:=(zaw [40] t).bn λt=>(g.expr false t).bd λx=>(zaw [41] x.2).bn λt=>gt (x.1,t)
def zgY(s:Str)(t:zD):PR Node:=if tIs s t=true then gt (nd 42 [],t.tail)else(g.expr false t).bd λx=>(zaw s x.2).bn λt=>gt (x.1,t)
def zgi(t:zD):Bool:=tIs [125] t||zI t==0||zfE t
def zde(t:zD):PR Unit:=if tIs [59] t=true then gt ((),t.tail)else if zgi t=true then gt ((),t)else bad t
def zfm(x:Node):Node:=if(x.Kind==25)=true then x else nd 25 [x]
def ztT(x:Node):Bool:=if(x.Kind==22)=true then(match x.L with| [d]=>d.L.isEmpty|_=>false)else zgK x.Kind
def zkb(t:zD):PR Node:=
 if tIs [118,97,114] t=true then(g.vars true t.tail).bd λl=>gt (nd 22 l.1,l.2)
 else if tIs [59] t=true then gt (nd 42 [],t)else g.expr true t
def zlc(t:zD):PR Node:=(zaw [40] t).bn λt=>(zkb g t).bd λq=>
 if(ztT q.1&&tIs [105,110] q.2)=true then(g.expr false q.2.tail).bd λx=>(zaw [41] x.2).bn λt=>(g.stmt t).bd λb=>gt (nd 30 [q.1,x.1,zfm b.1],b.2)
 else(zaw [59] q.2).bn λt=>(g.till [59] t).bd λx=>(g.till [41] x.2).bd λy=>(g.stmt y.2).bd λb=>gt (nd 29 [q.1,x.1,y.1,zfm b.1],b.2)
def znj(t:zD):PR (Str×Node):=
 if tIs [99,97,116,99,104] t=true then(zaw [40] t.tail).bn λt=>if(zI t==1)=true then(zaw [41] t.tail).bn λt1=>(g.block t1).bd λb=>gt ((tText t,b.1),b.2)else bad t
 else gt (([],nd 42 []),t)
def zli(t:zD):PR Node:=if tIs [102,105,110,97,108,108,121] t=true then g.block t.tail else gt (nd 42 [],t)
def zqG(t:zD):PR Node:=(g.block t).bd λb=>(znj g b.2).bd λc=>(zli g c.2).bd λf=>
 if(f.1.Kind==42&&c.1.2.Kind==42)=true then bad f.2 else gt (ndN 35 c.1.1 [b.1,c.1.2,f.1],f.2)
def zhW(others:Bool)(t:zD):PR (List Node):=
 if tIs [125] t=true then gt ([],t.tail)
 else if(others&&tIs [100,101,102,97,117,108,116] t)=true then(zaw [58] t.tail).bn λt=>(g.body t).bd λl=>(g.cases false l.2).bd λr=>gt (nd 37 (nd 42 []::l.1)::r.1,r.2)
 else(zaw [99,97,115,101] t).bn λt=>(g.expr false t).bd λx=>(zaw [58] x.2).bn λt=>(g.body t).bd λl=>(g.cases others l.2).bd λr=>gt (nd 37 (x.1::l.1)::r.1,r.2)
def ziY(t:zD):PR (List Node):=
 if(zcc [[99,97,115,101],[100,101,102,97,117,108,116],[125]] t||zI t==0)=true then gt ([],t)else(g.stmt t).bd λx=>(g.body x.2).bd λl=>gt (x.1::l.1,l.2)
def zmf(k:Int)(t:zD):PR Node:=
 if(zI t==1&& !zfE t)=true then(zde t.tail).bn λt1=>gt (ndN k (tText t) [],t1)else(zde t).bn λt=>gt (nd k [],t)
def zff(t:zD):PR Node:=
 if tIs [123] t=true then g.block t
 else if tIs [59] t=true then gt (nd 40 [],t.tail)
 else if tIs [118,97,114] t=true then(g.vars false t.tail).bd λl=>(zde l.2).bn λt=>gt (nd 22 l.1,t)
 else if tIs [105,102] t=true then(g.head t.tail).bd λx=>(g.stmt x.2).bd λb=>if tIs [101,108,115,101] b.2=true then(g.stmt b.2.tail).bd λc=>gt (nd 26 [x.1,zfm b.1,zfm c.1],c.2)else gt (nd 26 [x.1,zfm b.1],b.2)
 else if tIs [119,104,105,108,101] t=true then(g.head t.tail).bd λx=>(g.stmt x.2).bd λb=>gt (nd 27 [x.1,zfm b.1],b.2)
 else if tIs [100,111] t=true then(g.stmt t.tail).bd λb=>(zaw [119,104,105,108,101] b.2).bn λt=>(g.head t).bd λx=>(zde x.2).bn λt=>gt (nd 28 [zfm b.1,x.1],t)
 else if tIs [102,111,114] t=true then g.loop t.tail
 else if tIs [98,114,101,97,107] t=true then zmf 31 t.tail
 else if tIs [99,111,110,116,105,110,117,101] t=true then zmf 32 t.tail
 else if tIs [114,101,116,117,114,110] t=true then(if(!tIs [59] t.tail&& !zgi t.tail)=true then(g.expr false t.tail).bd λx=>(zde x.2).bn λt=>gt (nd 33 [x.1],t)else(zde t.tail).bn λt=>gt (nd 33 [],t))
 else if tIs [116,104,114,111,119] t=true then(if zfE t.tail=true then bad t.tail else(g.expr false t.tail).bd λx=>(zde x.2).bn λt=>gt (nd 34 [x.1],t))
 else if tIs [116,114,121] t=true then zqG g t.tail
 else if tIs [115,119,105,116,99,104] t=true then(g.head t.tail).bd λx=>(zaw [123] x.2).bn λt=>(g.cases true t).bd λl=>gt (nd 36 (x.1::l.1),l.2)
 else if tIs [102,117,110,99,116,105,111,110] t=true then bad t
 else if(zI t==1&&tIs [58] t.tail)=true then(g.stmt t.tail.tail).bd λx=>gt (ndN 38 (tText t) [x.1],x.2)
 else(g.expr false t).bd λx=>(zde x.2).bn λt=>gt (nd 24 [x.1],t)
def zbs(funcs:Bool)(t:zD):PR (List Node):=
 if(tIs [125] t||zI t==0)=true then gt ([],t)
 else(if(funcs&&tIs [102,117,110,99,116,105,111,110] t)=true then g.func 39 t.tail else g.stmt t).bd λx=>(g.stmts funcs x.2).bd λl=>gt (x.1::l.1,l.2)
end
def pG:Nat->PG
 |0=>⟨λ_ _=>none,λ_ _ _=>none,λ_ _=>none,λ_ _ _=>none,λ_ _ _ _=>none,λ_=>none,λ_ _ _=>none,λ_=>none,λ_=>none,λ_ _ _=>none,λ_=>none,λ_ _=>none,λ_ _=>none,λ_=>none,λ_=>none,λ_ _=>none,λ_=>none,λ_ _=>none,λ_=>none,λ_=>none,λ_ _=>none⟩
 |n+1=>⟨zi0 (pG n),zj9 (pG n),zfB (pG n),zfA (pG n),zld (pG n),zer (pG n),zk5 (pG n),zf5 (pG n),zd1 (pG n),zfI (pG n),zgh (pG n),ziX (pG n),ziZ (pG n),zgX (pG n),zle (pG n),zgY (pG n),zlc (pG n),zhW (pG n),ziY (pG n),zff (pG n),zbs (pG n)⟩
end Go.D08
namespace Go.D08
open Go Go.Gw Go.Dn Go.Proofs
set_option maxRecDepth 100000
def tk(t:zl):Tok:=⟨t.Kind.toNat,t.Text,t.Num,t.Fresh⟩
structure TOk (L:List zl):Prop where
 kinds: ∀t∈L,0<=t.Kind/\t.Kind<=5
 texts: ∀t∈L,t.Text.length<=1000000
 plain: ∀t∈L,opK (tk t)=true->(32:UInt8)∉t.Text
 ascii: ∀t∈L,t.Kind=1\/t.Kind=2->∀b∈t.Text,b<128
 colon: ∀t∈L,t.Kind=2->t.Text≠[58]
 nums: ∀t∈L,t.Kind=3->0<=t.Num/\t.Num<=9007199254740991
 last: ∃a e,L=a++[e]/\e.Kind=0/\∀t∈a,t.Kind≠0
theorem TOk.cons{L:List zl}(h:TOk L): ∃a r,L=a::r:=by
 obtain⟨a,e,h1,_⟩:=h.last;cases L with
 |nil=>simp at h1
 |cons x r=>exact⟨x,r,rfl⟩
theorem TOk.tail{x:zl}{r:List zl}(h:TOk (x::r))(hx:x.Kind≠0):TOk r:=by
 refine⟨λt ht=>h.kinds t (qz8 _ ht),λt ht=>h.texts t (qz8 _ ht),λt ht=>h.plain t (qz8 _ ht),λt ht=>h.ascii t (qz8 _ ht),λt ht=>h.colon t (qz8 _ ht),λt ht=>h.nums t (qz8 _ ht),?_⟩;obtain⟨a,e,h1,h2,h3⟩:=h.last;cases a with
 |nil=>simp at h1;rw[h1.1]at hx;exact absurd h2 hx
 |cons y a=>simp at h1;exact⟨a,e,h1.2,h2,λt ht=>h3 t (qz8 _ ht)⟩
theorem zK(x:zh):zi x=x:=by cases x;rfl
theorem zBG(x:zl):zuQ x=x:=by cases x;rfl
theorem zk0{x:zl}(hk:0<=x.Kind)(n:Nat):(x.Kind==(n:Int))=((tk x).kind==n):=by
 unfold tk;rw[Bool.eq_iff_iff,beq_iff_eq,beq_iff_eq];simp only;omega
abbrev pp(L:List zl)(no:Bool):zh:=⟨L,no⟩
theorem zck{α:Type}(x:α)(r:List α):zQ (x::r) 0=some x:=rfl
theorem znV{L:List zl}{no:Bool}(h:TOk L)(s:Str):zaE s (pp L no)=some (tIs s (L.map tk),pp L no,()):=by
 obtain⟨x,r,rfl⟩:=h.cons;have hk:=(h.kinds x qz7).1;have k5:=zk0 hk 5;have k2:=zk0 hk 2;rw[show((5:Nat):Int)=5 from rfl]at k5;rw[show((2:Nat):Int)=2 from rfl]at k2;unfold zaE;simp only[zck,qz1,zK,k5,k2,List.map_cons,tIs,opK];cases(tk x).kind==5<;>cases(tk x).kind==2<;>simp[tk]
theorem zwt{x:zl}{r:List zl}{no:Bool}(hx:x.Kind≠0):zaa (pp (x::r) no)=some (x,pp r no,()):=by
 unfold zaa;have e:(x.Kind !=0)=true:=by rw[bne_iff_ne];exact hx
 have hc:zav (x::r) 1 (((x::r).length:Nat):Int)=some r:=by
  have:=zd3 (x::r) 1 (by simp);simpa using this
 simp only[zck,qz1,e,yB,hc,zBG]
theorem zEE{s:Str}{x:zl}{r:List zl}(h:tIs s ((x::r).map tk)=true):x.Kind≠0:=by
 intro e;simp[tIs,opK,tk,e]at h
theorem has_eq{L:List zl}{no:Bool}(h:TOk L)(s:Str):zG s (pp L no)=some (tIs s (L.map tk),pp (if tIs s (L.map tk)=true then L.tail else L) no,()):=by
 unfold zG;rw[zK,znV h s];simp only[qz1,zK];cases hq:tIs s (L.map tk)with
 |false=>simp
 |true=>
  obtain⟨x,r,rfl⟩:=h.cons;simp only[yB];rw[zwt (zEE hq)];rfl
theorem zi8{L:List zl}{no:Bool}(h:TOk L)(ws:List Str)(list:Str)(hl:list=joined ws)(hw: ∀w∈ws,(32:UInt8)∉w)(hll:list.length<=1000000):zaR list (pp L no)=some (zcc ws (L.map tk),pp L no,()):=by
 obtain⟨x,r,rfl⟩:=h.cons;have hk:=(h.kinds x qz7).1;have ht:=h.texts x qz7;have hp:=h.plain x qz7;have k5:=zk0 hk 5;have k2:=zk0 hk 2;rw[show((5:Nat):Int)=5 from rfl]at k5;rw[show((2:Nat):Int)=2 from rfl]at k2
 have hb':(if(x.Kind==5)=true then some true else some (x.Kind==2))=some (opK (tk x)):=by
  rw[k5,k2];unfold opK;cases(tk x).kind==5<;>simp
 unfold zaR;simp only[zck,qz1,zK];rw[hb'];simp only[qz1,List.map_cons,zcc];cases hq:opK (tk x)with
 |false=>simp
 |true=>
  simp only[yB,Bool.true_and];rw[ztK (by simp only[qz3,qz6];omega)]
  simp only[qz1];rw[ztK (by simp only[qz5,qz3,qz6];omega)]
  simp only[qz1];rw[U.ztv list _ (by omega)];simp only[qz1];have:=zhG x.Text (hp hq) ws hw;rw[hl,show([32]++x.Text++[32]:Str)=32::(x.Text++[32])from rfl,this];rfl
theorem zzr{L:List zl}{no:Bool}(h:TOk L):zcZ (pp L no)=some (zgi (L.map tk),pp L no,()):=by
 have hi:=znV (no:=no) h [125];unfold zcZ zgi;rw[zK,hi];obtain⟨x,r,rfl⟩:=h.cons;have hk:=(h.kinds x qz7).1;have k0:=zk0 hk 0;rw[show((0:Nat):Int)=0 from rfl]at k0;simp only[qz1,zck,k0,zK,List.map_cons,zI,zfE];cases tIs [125] (tk x::List.map tk r)<;>cases(tk x).kind==0<;>simp[tk]
theorem any_cons(ws:List Str)(x:zl)(t:zD):zcc ws (tk x::t)=(opK (tk x)&&ws.contains x.Text):=rfl
theorem zFC(s:Str)(x:zl)(t:zD):tIs s (tk x::t)=(opK (tk x)&&(x.Text==s)):=rfl
theorem zAI{L:List zl}{no:Bool}(h:TOk L):zeE (pp L no)=some ((zcO no (L.map tk)).1,(zcO no (L.map tk)).2,pp L no,()):=by
 have i1:=znV (no:=no) h [124,124];have i2:=znV (no:=no) h [38,38];have i3:=zi8 (no:=no) h eqL ([32,61,61,32,33,61,32,61,61,61,32,33,61,61,32]:Str) (by decide+kernel) (by decide+kernel) (by decide);have i4:=zi8 (no:=no) h ltL ([32,60,32,62,32,60,61,32,62,61,32,105,110,115,116,97,110,99,101,111,102,32]:Str) (by decide+kernel) (by decide+kernel) (by decide);have i5:=znV (no:=no) h [105,110];have i6:=zi8 (no:=no) h zuH ([32,43,32,45,32]:Str) (by decide+kernel) (by decide+kernel) (by decide);have i7:=zi8 (no:=no) h mulL ([32,42,32,47,32,37,32]:Str) (by decide+kernel) (by decide+kernel) (by decide)
 have j1:zcr (pp L no)=some (if zcc zuH (L.map tk)=true then 7 else if zcc mulL (L.map tk)=true then 8 else 0,if zcc zuH (L.map tk)=true then 17 else if zcc mulL (L.map tk)=true then 17 else 0,pp L no,()):=by
  unfold zcr;simp only[zK,i6,i7,qz1];cases zcc zuH (L.map tk)<;>cases zcc mulL (L.map tk)<;>rfl
 unfold zeE;simp only[zK,i1,i2,i3,i4,i5,qz1,j1];obtain⟨x,r,rfl⟩:=h.cons;simp only[any_cons,zFC,List.map_cons,zcO];cases hq:opK (tk x)with
 |false=>cases no<;>simp
 |true=>
  simp only[Bool.true_and,yB];unfold lvS;rw[show(tk x).text=x.Text from rfl];cases x.Text==([124,124]:Str)with
  |true=>rfl
  |false=>
   simp only[qz2,yA];cases x.Text==([38,38]:Str)with
   |true=>rfl
   |false=>
    simp only[qz2,yA];cases eqL.contains x.Text with
    |true=>rfl
    |false=>
     simp only[qz2,yA];cases ltL.contains x.Text with
     |true=>simp
     |false=>
      simp only[Bool.false_or,qz2,yA];cases no<;>cases x.Text==([105,110]:Str)<;>cases zuH.contains x.Text<;>cases mulL.contains x.Text<;>rfl
end Go.D08
namespace Go.D08
open Go Go.Gw Go.Dn
set_option maxRecDepth 100000
def Le{α:Type}(x y:PR α):Prop:=∀r,x=some r->y=some r
theorem Le.rfl{α:Type}{x:PR α}:Le x x:=λ_ h=>h
theorem Le.bd{α β:Type}{x y:PR α}{f g:α×zD->PR β}(h:Le x y)(k: ∀q,Le (f q) (g q)):Le (x.bd f) (y.bd g):=by
 intro r e;cases x with
 |none=>cases e
 |some p=>
  rw[h _ Eq.refl];cases p with
  |inl j=>exact e
  |inr q=>exact k q r e
 where Eq.refl {x:Nat⊕(α×zD)}:(some x:PR α)=some x:=_root_.rfl
theorem Le.bn{β:Type}{x:PR Unit}{f g:zD->PR β}(k: ∀t,Le (f t) (g t)):Le (x.bn f) (x.bn g):=Le.bd Le.rfl λq=>k q.2
theorem Le.ite{α:Type}{c:Prop}[Decidable c]{a b a' b':PR α}(h:Le a a')(k:Le b b'):Le (if c then a else b) (if c then a' else b'):=by
 by_cases hc:c
 ·rw[yL hc,yL hc];exact h
 ·rw[yK hc,yK hc];exact k
structure PLe (g h:PG):Prop where
 expr: ∀a t,Le (g.expr a t) (h.expr a t)
 comma: ∀a x t,Le (g.comma a x t) (h.comma a x t)
 assign: ∀a t,Le (g.assign a t) (h.assign a t)
 binary: ∀a b t,Le (g.binary a b t) (h.binary a b t)
 bins: ∀a b x t,Le (g.bins a b x t) (h.bins a b x t)
 unary: ∀t,Le (g.unary t) (h.unary t)
 mems: ∀a x t,Le (g.mems a x t) (h.mems a x t)
 made: ∀t,Le (g.made t) (h.made t)
 prim: ∀t,Le (g.prim t) (h.prim t)
 exprs: ∀a b t,Le (g.exprs a b t) (h.exprs a b t)
 props: ∀t,Le (g.props t) (h.props t)
 func: ∀a t,Le (g.func a t) (h.func a t)
 vars: ∀a t,Le (g.vars a t) (h.vars a t)
 block: ∀t,Le (g.block t) (h.block t)
 head: ∀t,Le (g.head t) (h.head t)
 till: ∀a t,Le (g.till a t) (h.till a t)
 loop: ∀t,Le (g.loop t) (h.loop t)
 cases: ∀a t,Le (g.cases a t) (h.cases a t)
 body: ∀t,Le (g.body t) (h.body t)
 stmt: ∀t,Le (g.stmt t) (h.stmt t)
 stmts: ∀a t,Le (g.stmts a t) (h.stmts a t)
section
variable {g h:PG} (L:PLe g h)
include L
theorem zGw(a t):Le (zi0 g a t) (zi0 h a t):= .bd (L.assign _ _) λ_=>L.comma _ _ _
theorem zDt(a x t):Le (zj9 g a x t) (zj9 h a x t):= .ite (.bd (L.assign _ _) λ_=>L.comma _ _ _) .rfl
theorem zBR(a t):Le (zfB g a t) (zfB h a t):=
 .bd (L.binary _ _ _) λ_=> .ite (.bd (L.assign _ _) λ_=> .bn λ_=> .bd (L.assign _ _) λ_=> .rfl) (.ite (.ite (.bd (L.assign _ _) λ_=> .rfl) .rfl) .rfl)
theorem zCC(a b t):Le (zfA g a b t) (zfA h a b t):= .bd (L.unary _) λ_=>L.bins _ _ _ _
theorem zFP(a b x t):Le (zld g a b x t) (zld h a b x t):= .ite .rfl (.bd (L.binary _ _ _) λ_=>L.bins _ _ _ _)
theorem zC5(t):Le (zer g t) (zer h t):=
 .ite (.bd (L.unary _) λ_=> .rfl) (.ite (.bd (L.unary _) λ_=> .rfl) (.bd (L.made _) λ_=> .bd (L.mems _ _ _) λ_=> .rfl))
theorem zFS(a x t):Le (zk5 g a x t) (zk5 h a x t):=
 .ite (.ite (L.mems _ _ _) .rfl) (.ite (.bd (L.expr _ _) λ_=> .bn λ_=>L.mems _ _ _) (.ite (.bd (L.exprs _ _ _) λ_=>L.mems _ _ _) .rfl))
theorem zGg(t):Le (zf5 g t) (zf5 h t):=
 .ite (.bd (L.made _) λ_=> .bd (L.mems _ _ _) λ_=> .ite (.bd (L.exprs _ _ _) λ_=> .rfl) .rfl) (L.prim _)
theorem zFI(t):Le (zd1 g t) (zd1 h t):=
 .ite .rfl (.ite .rfl (.ite .rfl (.ite .rfl (.ite .rfl (.ite .rfl (.ite .rfl (.ite (L.func _ _) (.ite (.bd (L.expr _ _) λ_=> .rfl) (.ite (.bd (L.exprs _ _ _) λ_=> .rfl) (.ite (.bd (L.props _) λ_=> .rfl) .rfl))))))))))
theorem zEm(a b t):Le (zfI g a b t) (zfI h a b t):=
 .ite .rfl (.bd (L.assign _ _) λ_=> .ite .rfl (.bn λ_=> .ite .rfl (.bd (L.exprs _ _ _) λ_=> .rfl)))
theorem zDI(t):Le (zgh g t) (zgh h t):=
 .ite .rfl (.bd .rfl λ_=> .bn λ_=> .bd (L.assign _ _) λ_=> .ite .rfl (.bn λ_=> .bd (L.props _) λ_=> .rfl))
theorem zGP(a t):Le (ziX g a t) (ziX h a t):=
 .bd .rfl λ_=> .bn λ_=> .bd .rfl λ_=> .bn λ_=> .bd (L.stmts _ _) λ_=> .rfl
theorem zGA(a t):Le (ziZ g a t) (ziZ h a t):=
 .ite (.bd (.ite (.bd (L.assign _ _) λ_=> .rfl) .rfl) λ_=> .ite (.bd (L.vars _ _) λ_=> .rfl) .rfl) .rfl
theorem zC0(t):Le (zgX g t) (zgX h t):= .bn λ_=> .bd (L.stmts _ _) λ_=> .rfl
theorem le_head(t):Le (zle g t) (zle h t):= .bn λ_=> .bd (L.expr _ _) λ_=> .rfl
theorem zFw(s t):Le (zgY g s t) (zgY h s t):= .ite .rfl (.bd (L.expr _ _) λ_=> .rfl)
theorem zDF(t):Le (zkb g t) (zkb h t):= .ite (.bd (L.vars _ _) λ_=> .rfl) (.ite .rfl (L.expr _ _))
theorem zFk(t):Le (zlc g t) (zlc h t):=
 .bn λ_=> .bd (zDF L _) λ_=> .ite (.bd (L.expr _ _) λ_=> .bn λ_=> .bd (L.stmt _) λ_=> .rfl)
  (.bn λ_=> .bd (L.till _ _) λ_=> .bd (L.till _ _) λ_=> .bd (L.stmt _) λ_=> .rfl)
theorem zD4(t):Le (znj g t) (znj h t):= .ite (.bn λ_=> .ite (.bn λ_=> .bd (L.block _) λ_=> .rfl) .rfl) .rfl
theorem zDW(t):Le (zli g t) (zli h t):= .ite (L.block _) .rfl
theorem zHx(t):Le (zqG g t) (zqG h t):= .bd (L.block _) λ_=> .bd (zD4 L _) λ_=> .bd (zDW L _) λ_=> .rfl
theorem zDn(a t):Le (zhW g a t) (zhW h a t):=
 .ite .rfl (.ite (.bn λ_=> .bd (L.body _) λ_=> .bd (L.cases _ _) λ_=> .rfl) (.bn λ_=> .bd (L.expr _ _) λ_=> .bn λ_=> .bd (L.body _) λ_=> .bd (L.cases _ _) λ_=> .rfl))
theorem zFy(t):Le (ziY g t) (ziY h t):= .ite .rfl (.bd (L.stmt _) λ_=> .bd (L.body _) λ_=> .rfl)
theorem zGB(t):Le (zff g t) (zff h t):=
 .ite (L.block _) (.ite .rfl (.ite (.bd (L.vars _ _) λ_=> .rfl) (.ite (.bd (L.head _) λ_=> .bd (L.stmt _) λ_=> .ite (.bd (L.stmt _) λ_=> .rfl) .rfl)
  (.ite (.bd (L.head _) λ_=> .bd (L.stmt _) λ_=> .rfl) (.ite (.bd (L.stmt _) λ_=> .bn λ_=> .bd (L.head _) λ_=> .rfl) (.ite (L.loop _) (.ite .rfl (.ite .rfl
  (.ite (.ite (.bd (L.expr _ _) λ_=> .rfl) .rfl) (.ite (.ite .rfl (.bd (L.expr _ _) λ_=> .rfl)) (.ite (zHx L _) (.ite (.bd (L.head _) λ_=> .bn λ_=> .bd (L.cases _ _) λ_=> .rfl)
  (.ite .rfl (.ite (.bd (L.stmt _) λ_=> .rfl) (.bd (L.expr _ _) λ_=> .rfl)))))))))))))))
theorem zD9(a t):Le (zbs g a t) (zbs h a t):= .ite .rfl (.bd (.ite (L.func _ _) (L.stmt _)) λ_=> .bd (L.stmts _ _) λ_=> .rfl)
end
theorem zu0: ∀n,PLe (pG n) (pG (n+1))
 |0=>by constructor<;>intros<;>intro r e<;>cases e
 |n+1=>by
  have L:=zu0 n;exact⟨zGw L,zDt L,zBR L,zCC L,zFP L,zC5 L,zFS L,zGg L,zFI L,zEm L,zDI L,zGP L,zGA L,zC0 L,le_head L,zFw L,zFk L,zDn L,zFy L,zGB L,zD9 L⟩
theorem zAJ{n:Nat}(m:Nat){a:Bool}{t:zD}{r}(h:(pG n).stmts a t=some r):(pG (n+m)).stmts a t=some r:=by
 induction m with
 |zero=>exact h
 |succ m ih=>exact(zu0 (n+m)).stmts a t r ih
def Wf(t:zD):Prop:=∃a e,t=a++[e]/\e.kind=0/\∀x∈a,x.kind≠0
theorem Wf.tail{t:zD}(h:Wf t)(hk:zI t≠0):Wf t.tail/\t.tail.length+1=t.length:=by
 obtain⟨a,e,rfl,he,ha⟩:=h;cases a with
 |nil=>exact absurd he hk
 |cons x a=>exact⟨⟨a,e,rfl,he,λy hy=>ha y (qz8 _ hy)⟩,by simp⟩
theorem Wf.pos{t:zD}(h:Wf t):0<t.length:=by
 obtain⟨a,e,rfl,_,_⟩:=h;simp
theorem zJ{s:Str}{t:zD}(h:tIs s t=true):zI t≠0:=by
 cases t with
 |nil=>cases h
 |cons x r=>intro e;simp[tIs,opK,show x.kind=0 from e]at h
theorem zbE{l:List Str}{t:zD}(h:zcc l t=true):zI t≠0:=by
 cases t with
 |nil=>cases h
 |cons x r=>intro e;simp[zcc,opK,show x.kind=0 from e]at h
theorem zob{no:Bool}{t:zD}(h:(zcO no t).1≠0):zI t≠0:=by
 cases t with
 |nil=>exact absurd rfl h
 |cons x r=>intro e;simp[zcO,opK,show x.kind=0 from e]at h
theorem zaU{t:zD}{k:Nat}(h:(zI t==k)=true)(hk:k≠0):zI t≠0:=by
 rw[beq_iff_eq]at h;omega
def Gd{α:Type}(m:Nat)(x:PR α):Prop:=match x with|none=>False|some (.inl _)=>True|some (.inr q)=>Wf q.2/\q.2.length<m
theorem Gd.bd{α β:Type}{m m':Nat}{x:PR α}{f:α×zD->PR β}(h:Gd m x)(k: ∀q:α×zD,Wf q.2->q.2.length<m->Gd m' (f q)):Gd m' (x.bd f):=by
 cases x with
 |none=>exact h
 |some p=>
  cases p with
  |inl j=>trivial
  |inr q=>exact k q h.1 h.2
theorem Gd.bn{β:Type}{m m':Nat}{x:PR Unit}{f:zD->PR β}(h:Gd m x)(k: ∀t:zD,Wf t->t.length<m->Gd m' (f t)):Gd m' (x.bn f):=Gd.bd h λq=>k q.2
theorem Gd.ite{α:Type}{m:Nat}{c:Prop}[Decidable c]{a b:PR α}(h:c->Gd m a)(k: ¬c->Gd m b):Gd m (if c then a else b):=by
 by_cases hc:c
 ·rw[yL hc];exact h hc
 ·rw[yK hc];exact k hc
theorem Gd.up{α:Type}{m m':Nat}{x:PR α}(h:Gd m x)(hm:m<=m'):Gd m' x:=by
 cases x with
 |none=>exact h
 |some p=>
  cases p with
  |inl j=>trivial
  |inr q=>exact⟨h.1,Nat.lt_of_lt_of_le h.2 hm⟩
theorem Gd.need{t:zD}(w:Wf t)(s:Str):Gd t.length (zaw s t):=
 .ite (λc=>by have:=w.tail (zJ c);exact⟨this.1,by show t.tail.length<_;omega⟩) λ_=>trivial
theorem Gd.end{t:zD}(w:Wf t):Gd (t.length+1) (zde t):=
 .ite (λc=>by have:=w.tail (zJ c);exact⟨this.1,by show t.tail.length<_;omega⟩) λ_=> .ite (λ_=>⟨w,Nat.lt_succ_self _⟩) λ_=>trivial
structure PGd (n:Nat) (g:PG):Prop where
 expr: ∀a t,Wf t->10*t.length+6<n->Gd t.length (g.expr a t)
 comma: ∀a x t,Wf t->10*t.length+1<n->Gd (t.length+1) (g.comma a x t)
 assign: ∀a t,Wf t->10*t.length+5<n->Gd t.length (g.assign a t)
 binary: ∀a b t,Wf t->10*t.length+4<n->Gd t.length (g.binary a b t)
 bins: ∀a b x t,Wf t->10*t.length+1<n->Gd (t.length+1) (g.bins a b x t)
 unary: ∀t,Wf t->10*t.length+3<n->Gd t.length (g.unary t)
 mems: ∀a x t,Wf t->10*t.length+1<n->Gd (t.length+1) (g.mems a x t)
 made: ∀t,Wf t->10*t.length+2<n->Gd t.length (g.made t)
 prim: ∀t,Wf t->10*t.length+1<n->Gd t.length (g.prim t)
 exprs: ∀a b t,Wf t->10*t.length+6<n->Gd t.length (g.exprs a b t)
 props: ∀t,Wf t->10*t.length+1<n->Gd t.length (g.props t)
 func: ∀a t,Wf t->10*t.length+1<n->Gd t.length (g.func a t)
 vars: ∀a t,Wf t->10*t.length+1<n->Gd t.length (g.vars a t)
 block: ∀t,Wf t->10*t.length+1<n->Gd t.length (g.block t)
 head: ∀t,Wf t->10*t.length+1<n->Gd t.length (g.head t)
 till: ∀a t,Wf t->10*t.length+7<n->Gd t.length (g.till a t)
 loop: ∀t,Wf t->10*t.length+1<n->Gd t.length (g.loop t)
 cases: ∀a t,Wf t->10*t.length+1<n->Gd t.length (g.cases a t)
 body: ∀t,Wf t->10*t.length+9<n->Gd (t.length+1) (g.body t)
 stmt: ∀t,Wf t->10*t.length+8<n->Gd t.length (g.stmt t)
 stmts: ∀a t,Wf t->10*t.length+9<n->Gd (t.length+1) (g.stmts a t)
section
variable {n:Nat} {g:PG} (G:PGd n g)
include G
theorem zHc(a t)(w:Wf t)(h:10*t.length+6<n+1):Gd t.length (zi0 g a t):=
 .bd (G.assign _ _ w (by omega)) λq wq lq=>(G.comma _ _ _ wq (by omega)).up (by omega)
theorem zDi(a x t)(w:Wf t)(h:10*t.length+1<n+1):Gd (t.length+1) (zj9 g a x t):=
 .ite (λc=>by have:=w.tail (zJ c);exact .bd (G.assign _ _ this.1 (by omega)) λq wq lq=>(G.comma _ _ _ wq (by omega)).up (by omega)) λ_=>⟨w,Nat.lt_succ_self _⟩
theorem zBs(a t)(w:Wf t)(h:10*t.length+5<n+1):Gd t.length (zfB g a t):=
 .bd (G.binary _ _ _ w (by omega)) λq wq lq=>
  .ite (λc=>by
   have:=wq.tail (zJ c);exact .bd (G.assign _ _ this.1 (by omega)) λy wy ly=> .bn (.need wy _) λt wt lt=> .bd (G.assign _ _ wt (by omega)) λz wz lz=>⟨wz,by show z.2.length<_;omega⟩) λ_=>
  .ite (λc=> .ite (λ_=>by
   have:=wq.tail (zbE c);exact .bd (G.assign _ _ this.1 (by omega)) λy wy ly=>⟨wy,by show y.2.length<_;omega⟩) λ_=>trivial) λ_=>⟨wq,lq⟩
theorem zCe(a b t)(w:Wf t)(h:10*t.length+4<n+1):Gd t.length (zfA g a b t):=
 .bd (G.unary _ w (by omega)) λq wq lq=>(G.bins _ _ _ _ wq (by omega)).up (by omega)
theorem zFD(a b x t)(w:Wf t)(h:10*t.length+1<n+1):Gd (t.length+1) (zld g a b x t):=
 .ite (λ_=>⟨w,Nat.lt_succ_self _⟩) λc=>by
  have h0:(zcO a t).1≠0:=by
   intro e;rw[e]at c;simp at c
  have:=w.tail (zob h0);exact .bd (G.binary _ _ _ this.1 (by omega)) λq wq lq=>(G.bins _ _ _ _ wq (by omega)).up (by omega)
theorem zDc(t)(w:Wf t)(h:10*t.length+3<n+1):Gd t.length (zer g t):=
 .ite (λc=>by have:=w.tail (zbE c);exact .bd (G.unary _ this.1 (by omega)) λy wy ly=>⟨wy,by show y.2.length<_;omega⟩) λ_=>
 .ite (λc=>by have:=w.tail (zbE c);exact .bd (G.unary _ this.1 (by omega)) λy wy ly=> .ite (λ_=>⟨wy,by show y.2.length<_;omega⟩) λ_=>trivial) λ_=>
 .bd (G.made _ w (by omega)) λq wq lq=> .bd (G.mems _ _ _ wq (by omega)) λp wp lp=>
  .ite (λ_=>⟨wp,by omega⟩) λc=> .ite (λ_=>by
   have h1:zcc ziB p.2=true:=by
    cases e:zcc ziB p.2 with
    |true=>rfl
    |false=>rw[e]at c;simp at c
   have:=wp.tail (zbE h1);exact⟨this.1,by show p.2.tail.length<_;omega⟩) λ_=>trivial
theorem zGV(a x t)(w:Wf t)(h:10*t.length+1<n+1):Gd (t.length+1) (zk5 g a x t):=
 .ite (λc=>by
  have h1:=w.tail (zJ c)
  exact .ite (λc2=>by
   have h2:=h1.1.tail (by
    intro e;rw[e]at c2;simp at c2)
   exact(G.mems _ _ _ h2.1 (by omega)).up (by omega)) λ_=>trivial) λ_=>
 .ite (λc=>by
  have h1:=w.tail (zJ c);exact .bd (G.expr _ _ h1.1 (by omega)) λk wk lk=> .bn (.need wk _) λt wt lt=>(G.mems _ _ _ wt (by omega)).up (by omega)) λ_=>
 .ite (λc=>by
  rw[qz4]at c;have h1:=w.tail (zJ c.2);exact .bd (G.exprs _ _ _ h1.1 (by omega)) λk wk lk=>(G.mems _ _ _ wk (by omega)).up (by omega)) λ_=>⟨w,Nat.lt_succ_self _⟩
theorem zFM(t)(w:Wf t)(h:10*t.length+2<n+1):Gd t.length (zf5 g t):=
 .ite (λc=>by
  have h1:=w.tail (zJ c)
  exact .bd (G.made _ h1.1 (by omega)) λq wq lq=> .bd (G.mems _ _ _ wq (by omega)) λp wp lp=>
   .ite (λc2=>by
    have h2:=wp.tail (zJ c2);exact .bd (G.exprs _ _ _ h2.1 (by omega)) λl wl ll=>⟨wl,by show l.2.length<_;omega⟩) λ_=>⟨wp,by show p.2.length<_;omega⟩) λ_=>G.prim _ w (by omega)
theorem zFp(t)(w:Wf t)(h:10*t.length+1<n+1):Gd t.length (zd1 g t):=by
 have tl: ∀{k:Nat},(zI t==k)=true->k≠0->∀x:Node,Gd t.length (gt (x,t.tail)):=λc hk x=>by
  have:=w.tail (zaU c hk);exact⟨this.1,by show t.tail.length<_;omega⟩
 have ti: ∀{s:Str},tIs s t=true->∀x:Node,Gd t.length (gt (x,t.tail)):=λc x=>by
  have:=w.tail (zJ c);exact⟨this.1,by show t.tail.length<_;omega⟩
 refine .ite (λc=>tl c (by decide) _) λ_=> .ite (λc=>?_) λ_=> .ite (λc=>tl c (by decide) _) λ_=> .ite (λc=>ti c _) λ_=> .ite (λc=>ti c _) λ_=> .ite (λc=>ti c _) λ_=> .ite (λc=>ti c _) λ_=>
  .ite (λc=>?_) λ_=> .ite (λc=>?_) λ_=> .ite (λc=>?_) λ_=> .ite (λc=>?_) λ_=>trivial
 ·have:=tl c (by decide);cases t with
  |nil=>exact absurd w.pos (by simp)
  |cons a r=>exact this _
 all_goals have h1:=w.tail (zJ c)
 ·exact(G.func _ _ h1.1 (by omega)).up (by omega)
 ·exact .bd (G.expr _ _ h1.1 (by omega)) λk wk lk=> .bn (.need wk _) λt' wt lt=>⟨wt,by show t'.length<_;omega⟩
 ·exact .bd (G.exprs _ _ _ h1.1 (by omega)) λl wl ll=>⟨wl,by show l.2.length<_;omega⟩
 ·exact .bd (G.props _ h1.1 (by omega)) λl wl ll=>⟨wl,by show l.2.length<_;omega⟩
theorem zED(a b t)(w:Wf t)(h:10*t.length+6<n+1):Gd t.length (zfI g a b t):=
 .ite (λc=>by have:=w.tail (zJ c);exact⟨this.1,by show t.tail.length<_;omega⟩) λ_=>
 .bd (G.assign _ _ w (by omega)) λx wx lx=> .ite (λc=>by have:=wx.tail (zJ c);exact⟨this.1,by show x.2.tail.length<_;omega⟩) λ_=>
  .bn (.need wx _) λt wt lt=> .ite (λ_=>trivial) λ_=> .bd (G.exprs _ _ _ wt (by omega)) λl wl ll=>⟨wl,by show l.2.length<_;omega⟩
omit G in
theorem zH2{t}(w:Wf t):Gd t.length (zmO t):=by
 cases t with
 |nil=>exact absurd w.pos (by simp)
 |cons a r=>
  have tl: ∀{k:Nat},(a.kind==k)=true->k≠0->∀x:Str,Gd (a::r).length (gt (x,r)):=λc hk x=>by
   have:=w.tail (zaU (t:=a::r) c hk);exact⟨this.1,by show r.length<_;simp⟩
  exact .ite (λc=>tl c (by decide) _) λ_=> .ite (λc=>tl c (by decide) _) λ_=> .ite (λc=>by
   rw[yQ]at c;exact c.elim (λc=>tl c (by decide) _) λc=>tl c (by decide) _) λ_=>trivial
theorem zDM(t)(w:Wf t)(h:10*t.length+1<n+1):Gd t.length (zgh g t):=
 .ite (λc=>by have:=w.tail (zJ c);exact⟨this.1,by show t.tail.length<_;omega⟩) λ_=>
 .bd (zH2 w) λk wk lk=> .bn (.need wk _) λt1 w1 l1=> .bd (G.assign _ _ w1 (by omega)) λx wx lx=>
  .ite (λc=>by have:=wx.tail (zJ c);exact⟨this.1,by show x.2.tail.length<_;omega⟩) λ_=>
  .bn (.need wx _) λt wt lt=> .bd (G.props _ wt (by omega)) λl wl ll=>⟨wl,by show l.2.length<_;omega⟩
omit G in
theorem zyU: ∀t,Wf t->Gd t.length (zfO t)
 | [],w=>absurd w.pos (by simp)
 | [a],_=>trivial
 |a::b::r,w=>by
  rw[zfO];refine .ite (λc=>?_) λ_=>trivial
  have h1:=w.tail (zaU (t:=a::b::r) c (by decide));refine .ite (λc2=>?_) λ_=> .ite (λc2=>?_) λ_=>trivial
  ·have h2:=h1.1.tail (zJ c2);exact⟨h2.1,by show r.length<_;simp only[qz3];omega⟩
  ·have h2:=h1.1.tail (zJ c2);exact .ite (λ_=>trivial) λ_=> .bd (zyU r h2.1) λl wl ll=>⟨wl,by show l.2.length<_;simp only[qz3];omega⟩
omit G in
theorem zBO{t}(w:Wf t):Gd t.length (zdR t):=
 .ite (λc=>by have:=w.tail (zJ c);exact⟨this.1,by show t.tail.length<_;omega⟩) λ_=>zyU t w
theorem zFm(a t)(w:Wf t)(h:10*t.length+1<n+1):Gd t.length (ziX g a t):=
 .bd (m:=t.length+1) (.ite (λc=>by have:=w.tail (zaU c (by decide));exact⟨this.1,by show t.tail.length<_;omega⟩) λ_=> .ite (λ_=>trivial) λ_=>⟨w,Nat.lt_succ_self _⟩) λm wm lm=>
  .bn (.need wm _) λt1 w1 l1=> .bd (zBO w1) λns wn ln=> .bn (.need wn _) λt2 w2 l2=> .bd (G.stmts _ _ w2 (by omega)) λl wl ll=> .bn (.need wl _) λt3 w3 l3=>⟨w3,by show t3.length<_;omega⟩
theorem zFf(a t)(w:Wf t)(h:10*t.length+1<n+1):Gd t.length (ziZ g a t):=
 .ite (λc=>by
  have h1:=w.tail (zaU c (by decide))
  exact .bd (m:=t.length) (.ite (λc2=>by
   have h2:=h1.1.tail (zJ c2)
   exact .bd (G.assign _ _ h2.1 (by omega)) λy wy ly=>⟨wy,by show y.2.length<_;omega⟩) λ_=>⟨h1.1,by show t.tail.length<_;omega⟩) λd wd ld=>
    .ite (λc3=>by
     have h3:=wd.tail (zJ c3);exact .bd (G.vars _ _ h3.1 (by omega)) λl wl ll=>⟨wl,by show l.2.length<_;omega⟩) λ_=>⟨wd,by show d.2.length<_;omega⟩) λ_=>trivial
theorem zEs(t)(w:Wf t)(h:10*t.length+1<n+1):Gd t.length (zgX g t):=
 .bn (.need w _) λt1 w1 l1=> .bd (G.stmts _ _ w1 (by omega)) λl wl ll=> .bn (.need wl _) λt2 w2 l2=>⟨w2,by show t2.length<_;omega⟩
theorem zGz(t)(w:Wf t)(h:10*t.length+1<n+1):Gd t.length (zle g t):=
 .bn (.need w _) λt1 w1 l1=> .bd (G.expr _ _ w1 (by omega)) λl wl ll=> .bn (.need wl _) λt2 w2 l2=>⟨w2,by show t2.length<_;omega⟩
theorem zHb(s t)(w:Wf t)(h:10*t.length+7<n+1):Gd t.length (zgY g s t):=
 .ite (λc=>by have:=w.tail (zJ c);exact⟨this.1,by show t.tail.length<_;omega⟩) λ_=>
 .bd (G.expr _ _ w (by omega)) λl wl ll=> .bn (.need wl _) λt2 w2 l2=>⟨w2,by show t2.length<_;omega⟩
theorem zEG(t)(w:Wf t)(h:10*t.length+6<n):Gd (t.length+1) (zkb g t):=
 .ite (λc=>by
  have h1:=w.tail (zJ c);exact .bd (G.vars _ _ h1.1 (by omega)) λl wl ll=>⟨wl,by show l.2.length<_;omega⟩) λ_=> .ite (λ_=>⟨w,Nat.lt_succ_self _⟩) λ_=>(G.expr _ _ w (by omega)).up (by omega)
theorem zGx(t)(w:Wf t)(h:10*t.length+1<n+1):Gd t.length (zlc g t):=
 .bn (.need w _) λt1 w1 l1=> .bd (zEG G _ w1 (by omega)) λq wq lq=>
  .ite (λc=>by
   rw[qz4]at c;have h1:=wq.tail (zJ c.2);exact .bd (G.expr _ _ h1.1 (by omega)) λx wx lx=> .bn (.need wx _) λt2 w2 l2=> .bd (G.stmt _ w2 (by omega)) λb wb lb=>⟨wb,by show b.2.length<_;omega⟩) λ_=>
  .bn (.need wq _) λt2 w2 l2=> .bd (G.till _ _ w2 (by omega)) λx wx lx=> .bd (G.till _ _ wx (by omega)) λy wy ly=> .bd (G.stmt _ wy (by omega)) λb wb lb=>⟨wb,by show b.2.length<_;omega⟩
theorem zC1(t)(w:Wf t)(h:10*t.length<n):Gd (t.length+1) (znj g t):=
 .ite (λc=>by
  have h1:=w.tail (zJ c)
  exact .bn (.need h1.1 _) λt1 w1 l1=> .ite (λc2=>by
   have h2:=w1.tail (zaU c2 (by decide));exact .bn (.need h2.1 _) λt2 w2 l2=> .bd (G.block _ w2 (by omega)) λb wb lb=>⟨wb,by show b.2.length<_;omega⟩) λ_=>trivial) λ_=>⟨w,Nat.lt_succ_self _⟩
theorem zDV(t)(w:Wf t)(h:10*t.length<n):Gd (t.length+1) (zli g t):=
 .ite (λc=>by
  have h1:=w.tail (zJ c);exact(G.block _ h1.1 (by omega)).up (by omega)) λ_=>⟨w,Nat.lt_succ_self _⟩
theorem zHo(t)(w:Wf t)(h:10*t.length+2<n):Gd t.length (zqG g t):=
 .bd (G.block _ w (by omega)) λb wb lb=> .bd (zC1 G _ wb (by omega)) λc wc lc=> .bd (zDV G _ wc (by omega)) λf wf lf=> .ite (λ_=>trivial) λ_=>⟨wf,by show f.2.length<_;omega⟩
theorem zEo(a t)(w:Wf t)(h:10*t.length+1<n+1):Gd t.length (zhW g a t):=
 .ite (λc=>by have:=w.tail (zJ c);exact⟨this.1,by show t.tail.length<_;omega⟩) λ_=>
 .ite (λc=>by
  rw[qz4]at c;have h1:=w.tail (zJ c.2);exact .bn (.need h1.1 _) λt1 w1 l1=> .bd (G.body _ w1 (by omega)) λl wl ll=> .bd (G.cases _ _ wl (by omega)) λr wr lr=>⟨wr,by show r.2.length<_;omega⟩) λ_=>
 .bn (.need w _) λt1 w1 l1=> .bd (G.expr _ _ w1 (by omega)) λx wx lx=> .bn (.need wx _) λt2 w2 l2=> .bd (G.body _ w2 (by omega)) λl wl ll=> .bd (G.cases _ _ wl (by omega)) λr wr lr=>⟨wr,by show r.2.length<_;omega⟩
theorem zGa(t)(w:Wf t)(h:10*t.length+9<n+1):Gd (t.length+1) (ziY g t):=
 .ite (λ_=>⟨w,Nat.lt_succ_self _⟩) λ_=> .bd (G.stmt _ w (by omega)) λx wx lx=> .bd (G.body _ wx (by omega)) λl wl ll=>⟨wl,by show l.2.length<_;omega⟩
omit G in
theorem zAv(k t)(w:Wf t):Gd (t.length+1) (zmf k t):=
 .ite (λc=>by
  rw[qz4]at c;have h1:=w.tail (zaU c.1 (by decide));exact .bn (.end h1.1) λt1 w1 l1=>⟨w1,by show t1.length<_;omega⟩) λ_=> .bn (.end w) λt1 w1 l1=>⟨w1,by show t1.length<_;omega⟩
theorem zGq(t)(w:Wf t)(h:10*t.length+8<n+1):Gd t.length (zff g t):=by
 refine .ite (λc=>G.block _ w (by omega)) λ_=> .ite (λc=>?_) λ_=> .ite (λc=>?_) λ_=> .ite (λc=>?_) λ_=> .ite (λc=>?_) λ_=> .ite (λc=>?_) λ_=> .ite (λc=>?_) λ_=> .ite (λc=>?_) λ_=>
  .ite (λc=>?_) λ_=> .ite (λc=>?_) λ_=> .ite (λc=>?_) λ_=> .ite (λc=>?_) λ_=> .ite (λc=>?_) λ_=> .ite (λc=>trivial) λ_=> .ite (λc=>?_) λ_=>?_
 rotate_right 2
 ·rw[qz4]at c;have h1:=w.tail (zaU c.1 (by decide));have h2:=h1.1.tail (zJ c.2);exact .bd (G.stmt _ h2.1 (by omega)) λx wx lx=>⟨wx,by show x.2.length<_;omega⟩
 ·exact .bd (G.expr _ _ w (by omega)) λx wx lx=> .bn (.end wx) λt1 w1 l1=>⟨w1,by show t1.length<_;omega⟩
 all_goals have h1:=w.tail (zJ c)
 ·exact⟨h1.1,by show t.tail.length<_;omega⟩
 ·exact .bd (G.vars _ _ h1.1 (by omega)) λx wx lx=> .bn (.end wx) λt1 w1 l1=>⟨w1,by show t1.length<_;omega⟩
 ·exact .bd (G.head _ h1.1 (by omega)) λx wx lx=> .bd (G.stmt _ wx (by omega)) λb wb lb=> .ite (λc2=>by
   have h2:=wb.tail (zJ c2);exact .bd (G.stmt _ h2.1 (by omega)) λe we le=>⟨we,by show e.2.length<_;omega⟩) λ_=>⟨wb,by show b.2.length<_;omega⟩
 ·exact .bd (G.head _ h1.1 (by omega)) λx wx lx=> .bd (G.stmt _ wx (by omega)) λb wb lb=>⟨wb,by show b.2.length<_;omega⟩
 ·exact .bd (G.stmt _ h1.1 (by omega)) λb wb lb=> .bn (.need wb _) λt1 w1 l1=> .bd (G.head _ w1 (by omega)) λx wx lx=> .bn (.end wx) λt2 w2 l2=>⟨w2,by show t2.length<_;omega⟩
 ·exact(G.loop _ h1.1 (by omega)).up (by omega)
 ·exact(zAv _ _ h1.1).up (by omega)
 ·exact(zAv _ _ h1.1).up (by omega)
 ·exact .ite (λ_=> .bd (G.expr _ _ h1.1 (by omega)) λx wx lx=> .bn (.end wx) λt1 w1 l1=>⟨w1,by show t1.length<_;omega⟩) λ_=> .bn (.end h1.1) λt1 w1 l1=>⟨w1,by show t1.length<_;omega⟩
 ·exact .ite (λ_=>trivial) λ_=> .bd (G.expr _ _ h1.1 (by omega)) λx wx lx=> .bn (.end wx) λt1 w1 l1=>⟨w1,by show t1.length<_;omega⟩
 ·exact(zHo G _ h1.1 (by omega)).up (by omega)
 ·exact .bd (G.head _ h1.1 (by omega)) λx wx lx=> .bn (.need wx _) λt1 w1 l1=> .bd (G.cases _ _ w1 (by omega)) λl wl ll=>⟨wl,by show l.2.length<_;omega⟩
theorem zDH(a t)(w:Wf t)(h:10*t.length+9<n+1):Gd (t.length+1) (zbs g a t):=
 .ite (λ_=>⟨w,Nat.lt_succ_self _⟩) λ_=> .bd (m:=t.length) (.ite (λc=>by
  rw[qz4]at c;have h1:=w.tail (zJ c.2);exact(G.func _ _ h1.1 (by omega)).up (by omega)) λ_=>G.stmt _ w (by omega)) λx wx lx=> .bd (G.stmts _ _ wx (by omega)) λl wl ll=>⟨wl,by show l.2.length<_;omega⟩
end
theorem zEN: ∀n,PGd n (pG n)
 |0=>by constructor<;>intros<;>omega
 |n+1=>by
  have G:=zEN n;exact⟨zHc G,zDi G,zBs G,zCe G,zFD G,zDc G,zGV G,zFM G,zFp G,zED G,zDM G,zFm G,zFf G,zEs G,zGz G,zHb G,zGx G,zEo G,zGa G,zGq G,zDH G⟩
def zeu(x:PR Node):Prop:=∀q,x=gt q->q.1.Kind≠22
theorem zeu.gt{x:Node}{t:zD}(h:x.Kind≠22):zeu (gt (x,t)):=λq e=>by cases e;exact h
theorem zeu.bad{t:zD}:zeu (bad t):=λq e=>by cases e
theorem zeu.bd{α:Type}{x:PR α}{f:α×zD->PR Node}(k: ∀q,x=Go.D08.gt q->zeu (f q)):zeu (x.bd f):=by
 cases x with
 |none=>intro q e;cases e
 |some p=>
  cases p with
  |inl j=>intro q e;cases e
  |inr q=>exact k q rfl
theorem zeu.bn{x:PR Unit}{f:zD->PR Node}(k: ∀t,zeu (f t)):zeu (x.bn f):= .bd λq _=>k q.2
theorem zeu.ite{c:Prop}[Decidable c]{a b:PR Node}(h:c->zeu a)(k: ¬c->zeu b):zeu (if c then a else b):=by
 by_cases hc:c
 ·rw[yL hc];exact h hc
 ·rw[yK hc];exact k hc
structure P22 (g:PG):Prop where
 expr: ∀a t,zeu (g.expr a t)
 comma: ∀a x t,x.Kind≠22->zeu (g.comma a x t)
 assign: ∀a t,zeu (g.assign a t)
 binary: ∀a b t,zeu (g.binary a b t)
 bins: ∀a b x t,x.Kind≠22->zeu (g.bins a b x t)
 unary: ∀t,zeu (g.unary t)
 mems: ∀a x t,x.Kind≠22->zeu (g.mems a x t)
 made: ∀t,zeu (g.made t)
 prim: ∀t,zeu (g.prim t)
 func: ∀t,zeu (g.func 10 t)
theorem zGp(no:Bool)(t:zD):(zcO no t).2≠22:=by
 cases t with
 |nil=>show(0:Int)≠22;decide
 |cons a r=>
  show(if opK a=true then lvS no a.text else(0,0)).2≠22;unfold lvS
  repeat' split
  all_goals decide
theorem zEQ: ∀n,P22 (pG n)
 |0=>by constructor<;>intros<;>intro q e<;>cases e
 |n+1=>by
  have G:=zEQ n;refine⟨λa t=>?_,λa x t hx=>?_,λa t=>?_,λa b t=>?_,λa b x t hx=>?_,λt=>?_,λa x t hx=>?_,λt=>?_,λt=>?_,λt=>?_⟩
  ·exact .bd λq e=>G.comma _ _ _ (G.assign _ _ q e)
  ·exact .ite (λ_=> .bd λq e=>G.comma _ _ _ (by simp[nd,ndN])) λ_=> .gt hx
  ·exact .bd λq e=> .ite (λ_=> .bd λy _=> .bn λt=> .bd λz _=> .gt (by simp[nd,ndN])) λ_=> .ite (λ_=> .ite (λ_=> .bd λy _=> .gt (by simp[nd,ndN])) λ_=> .bad) λ_=> .gt (G.binary _ _ _ q e)
  ·exact .bd λq e=>G.bins _ _ _ _ (G.unary _ q e)
  ·exact .ite (λ_=> .gt hx) λ_=> .bd λq e=>G.bins _ _ _ _ (zGp _ _)
  ·exact .ite (λ_=> .bd λy _=> .gt (by simp[nd,ndN])) λ_=> .ite (λ_=> .bd λy _=> .ite (λ_=> .gt (by simp[nd,ndN])) λ_=> .bad) λ_=>
    .bd λq e=> .bd λp e2=> .ite (λ_=> .gt (G.mems _ _ _ (G.made _ q e) p e2)) λ_=> .ite (λ_=> .gt (by simp[nd,ndN])) λ_=> .bad
  ·exact .ite (λ_=> .ite (λ_=>G.mems _ _ _ (by simp[nd,ndN])) λ_=> .bad) λ_=> .ite (λ_=> .bd λk _=> .bn λt=>G.mems _ _ _ (by simp[nd,ndN])) λ_=>
    .ite (λ_=> .bd λl _=>G.mems _ _ _ (by simp[nd,ndN])) λ_=> .gt hx
  ·exact .ite (λ_=> .bd λq _=> .bd λp _=> .ite (λ_=> .bd λl _=> .gt (by simp[nd,ndN])) λ_=> .gt (by simp[nd,ndN])) λ_=>G.prim _
  ·refine .ite (λ_=> .gt (by simp[nd,ndN])) λ_=> .ite (λ_=>?_) λ_=> .ite (λ_=> .gt (by simp[nd,ndN])) λ_=> .ite (λ_=> .gt (by simp[nd,ndN])) λ_=> .ite (λ_=> .gt (by simp[nd,ndN])) λ_=> .ite (λ_=> .gt (by simp[nd,ndN])) λ_=> .ite (λ_=> .gt (by simp[nd,ndN])) λ_=>
    .ite (λ_=>G.func _) λ_=> .ite (λ_=> .bd λk e=> .bn λt=> .gt (G.expr _ _ k e)) λ_=> .ite (λ_=> .bd λl _=> .gt (by simp[nd,ndN])) λ_=> .ite (λ_=> .bd λl _=> .gt (by simp[nd,ndN])) λ_=> .bad
   cases t with
   |nil=>intro q e;cases e
   |cons a r=>exact .gt (by show(1:Int)≠22;decide)
  ·exact .bd λm _=> .bn λt=> .bd λns _=> .bn λt=> .bd λl _=> .bn λt=> .gt (by simp[nd,ndN])
theorem ztD{α β:Type}{x:PR α}{f:α×zD->PR β}{q:β×zD}(h:x.bd f=gt q): ∃p,x=gt p/\f p=gt q:=by
 cases x with
 |none=>cases h
 |some p=>
  cases p with
  |inl j=>cases h
  |inr p=>exact⟨p,rfl,h⟩
theorem zwi{β:Type}{x:PR Unit}{f:zD->PR β}{q:β×zD}(h:x.bn f=gt q): ∃t,f t=gt q:=by
 obtain⟨p,_,h⟩:=ztD h;exact⟨_,h⟩
theorem zyE{n:Nat}{t:zD}{q:Node×zD}(h:(pG n).block t=gt q):q.1.Kind=25:=by
 cases n with
 |zero=>cases h
 |succ n=>
  have h:zgX (pG n) t=gt q:=h;unfold zgX at h;obtain⟨t1,h⟩:=zwi h;obtain⟨l,_,h⟩:=ztD h;obtain⟨t2,h⟩:=zwi h;cases h;rfl
end Go.D08
namespace Go.D08
open Go Go.Gw Go.Dn Go.Proofs
set_option maxRecDepth 100000
def atK(L0:List zl)(k:Nat):Int:=match L0.drop (L0.length -k)with|x::_=>x.At| []=>0
structure TL (L0 L:List zl):Prop where
 ok:TOk L
 suf:L<:+L0
theorem TL.tail{L0 L:List zl}(h:TL L0 L)(hk:zI (L.map tk)≠0):TL L0 L.tail:=by
 obtain⟨x,r,rfl⟩:=h.ok.cons;have h0:=(h.ok.kinds x qz7).1;refine⟨h.ok.tail (λe=>hk (by show(tk x).kind=0;unfold tk;rw[e];rfl)),(List.suffix_cons x r).trans h.suf⟩
theorem TL.at_{L0:List zl}{x:zl}{r:List zl}(h:TL L0 (x::r)):atK L0 ((x::r).map tk).length=x.At:=by
 obtain⟨p,hp⟩:=h.suf;unfold atK;rw[<-hp,List.length_map,qz5,show p.length+(x::r).length - (x::r).length=p.length by omega,List.drop_left]
def SG{α ρ:Type}(L0:List zl)(E:Int->ρ->Prop)(O:α->List zl->ρ->Prop)(m:Option ρ)(q:PR α):Prop:=
 match q with
 |none=>True
 |some (.inl k)=>∃r,m=some r/\E (atK L0 k) r
 |some (.inr p)=>∃r L',m=some r/\L'.map tk=p.2/\TL L0 L'/\O p.1 L' r
section
variable {α β γ δ ρ σ:Type} {L0 L:List zl} {no:Bool} {E:Int->ρ->Prop} {O:α->List zl->ρ->Prop} {E':Int->σ->Prop} {O':β->List zl->σ->Prop}
abbrev EL(a:Int)(r:(zU×γ)⊕δ):Prop:=∃y,r= .inl (zU.code 45 a,y)
abbrev ER(a:Int)(r:δ⊕(zU×γ)):Prop:=∃y,r= .inr (zU.code 45 a,y)
abbrev OL(no:Bool)(v:α)(L':List zl)(r:(α×zh×Unit)⊕δ):Prop:=r= .inl (v,pp L' no,())
abbrev OR(no:Bool)(v:α)(L':List zl)(r:δ⊕(α×zh×Unit)):Prop:=r= .inr (v,pp L' no,())
theorem SG.gen{m:Option ρ}{q:PR α}{f:ρ->Option σ}{g:α×zD->PR β}(h:SG L0 E O m q)(he: ∀a r,E a r->∃r',f r=some r'/\E' a r')
  (ho: ∀v L' r,q=gt (v,L'.map tk)->TL L0 L'->O v L' r->SG L0 E' O' (f r) (g (v,L'.map tk))):SG L0 E' O' (m.bind f) (q.bd g):=by
 cases q with
 |none=>trivial
 |some p=>
  cases p with
  |inl k=>
   obtain⟨r,rfl,hr⟩:=h;exact he _ _ hr
  |inr p=>
   obtain⟨r,L',rfl,hL,ok,hr⟩:=h;obtain⟨v,t⟩:=p;subst hL;exact ho v L' r rfl ok hr
theorem SG.same{m:Option ρ}{q:PR α}{f:ρ->Option σ}{O':α->List zl->σ->Prop}(h:SG L0 E O m q)(he: ∀a r,E a r->∃r',f r=some r'/\E' a r')
  (ho: ∀v L' r,TL L0 L'->O v L' r->∃r',f r=some r'/\O' v L' r'):SG L0 E' O' (m.bind f) q:=by
 cases q with
 |none=>trivial
 |some p=>
  cases p with
  |inl k=>
   obtain⟨r,rfl,hr⟩:=h;exact he _ _ hr
  |inr p=>
   obtain⟨r,L',rfl,hL,ok,hr⟩:=h;obtain⟨r',e,ho⟩:=ho p.1 L' r ok hr;exact⟨r',L',e,hL,ok,ho⟩
theorem SG.gt{r:ρ}{v:α}(ok:TL L0 L)(h:O v L r):SG L0 E O (some r) (gt (v,L.map tk)):=⟨r,L,rfl,rfl,ok,h⟩
theorem SG.l{m:Option ((zU×γ)⊕(α×zh×Unit))}{q:PR α}{f:(zU×γ)⊕(α×zh×Unit)->Option σ}{g:α×zD->PR β}(h:SG L0 EL (OR no) m q)
  (he: ∀a y,∃r',f (.inl (zU.code 45 a,y))=some r'/\E' a r') (ho: ∀v L',TL L0 L'->SG L0 E' O' (f (.inr (v,pp L' no,()))) (g (v,L'.map tk))):SG L0 E' O' (m.bind f) (q.bd g):=
 h.gen (by rintro a _ ⟨y,rfl⟩;exact he a y) (by rintro v L' _ _ ok rfl;exact ho v L' ok)
theorem SG.r{m:Option ((α×zh×Unit)⊕(zU×γ))}{q:PR α}{f:(α×zh×Unit)⊕(zU×γ)->Option σ}{g:α×zD->PR β}(h:SG L0 ER (OL no) m q)
  (he: ∀a y,∃r',f (.inr (zU.code 45 a,y))=some r'/\E' a r') (ho: ∀v L',TL L0 L'->SG L0 E' O' (f (.inl (v,pp L' no,()))) (g (v,L'.map tk))):SG L0 E' O' (m.bind f) (q.bd g):=
 h.gen (by rintro a _ ⟨y,rfl⟩;exact he a y) (by rintro v L' _ _ ok rfl;exact ho v L' ok)
theorem SG.ll{m:Option ((zU×γ)⊕(α×zh×Unit))}{q:PR α}{f:(zU×γ)⊕(α×zh×Unit)->Option σ}{O':α->List zl->σ->Prop}(h:SG L0 EL (OR no) m q)
  (he: ∀a y,∃r',f (.inl (zU.code 45 a,y))=some r'/\E' a r') (ho: ∀v L',∃r',f (.inr (v,pp L' no,()))=some r'/\O' v L' r'):SG L0 E' O' (m.bind f) q:=
 h.same (by rintro a _ ⟨y,rfl⟩;exact he a y) (by rintro v L' _ ok rfl;exact ho v L')
theorem SG.rr{m:Option ((α×zh×Unit)⊕(zU×γ))}{q:PR α}{f:(α×zh×Unit)⊕(zU×γ)->Option σ}{O':α->List zl->σ->Prop}(h:SG L0 ER (OL no) m q)
  (he: ∀a y,∃r',f (.inr (zU.code 45 a,y))=some r'/\E' a r') (ho: ∀v L',∃r',f (.inl (v,pp L' no,()))=some r'/\O' v L' r'):SG L0 E' O' (m.bind f) q:=
 h.same (by rintro a _ ⟨y,rfl⟩;exact he a y) (by rintro v L' _ ok rfl;exact ho v L')
theorem SG.is{s:Str}{f:Bool×zh×Unit->Option σ}{qa qb:PR β}(ok:TL L0 L)(hy:tIs s (L.map tk)=true->SG L0 E' O' (f (true,pp L no,())) qa)(hn:tIs s (L.map tk)=false->SG L0 E' O' (f (false,pp L no,())) qb):
  SG L0 E' O' ((zaE s (pp L no)).bind f) (if tIs s (L.map tk)=true then qa else qb):=by
 rw[znV ok.ok s,qz1];cases hq:tIs s (L.map tk)with
 |true=>exact hy hq
 |false=>exact hn hq
theorem SG.has{s:Str}{f:Bool×zh×Unit->Option σ}{qa qb:PR β}(ok:TL L0 L)(hy:tIs s (L.map tk)=true->TL L0 L.tail->SG L0 E' O' (f (true,pp L.tail no,())) qa)(hn:tIs s (L.map tk)=false->SG L0 E' O' (f (false,pp L no,())) qb):
  SG L0 E' O' ((zG s (pp L no)).bind f) (if tIs s (L.map tk)=true then qa else qb):=by
 rw[has_eq ok.ok s,qz1];cases hq:tIs s (L.map tk)with
 |true=>exact hy hq (ok.tail (zJ hq))
 |false=>exact hn hq
theorem SG.stops{f:Bool×zh×Unit->Option σ}{q:PR β}(ok:TL L0 L)(h:SG L0 E' O' (f (zgi (L.map tk),pp L no,())) q):SG L0 E' O' ((zcZ (pp L no)).bind f) q:=by
 rw[zzr ok.ok,qz1];exact h
theorem SG.among{ws:List Str}{list:Str}{f:Bool×zh×Unit->Option σ}{qa qb:PR β}(ok:TL L0 L)(hl:list=joined ws)(hw: ∀w∈ws,(32:UInt8)∉w)(hll:list.length<=1000000)
  (hy:zcc ws (L.map tk)=true->SG L0 E' O' (f (true,pp L no,())) qa) (hn:zcc ws (L.map tk)=false->SG L0 E' O' (f (false,pp L no,())) qb):
  SG L0 E' O' ((zaR list (pp L no)).bind f) (if zcc ws (L.map tk)=true then qa else qb):=by
 rw[zi8 ok.ok ws list hl hw hll,qz1];cases hq:zcc ws (L.map tk)with
 |true=>exact hy hq
 |false=>exact hn hq
theorem zpv{x:zl}{r:List zl}:zas (pp (x::r) no)=some (zU.code 45 x.At,pp (x::r) no,()):=rfl
theorem SG.fail{f:zU×zh×Unit->Option σ}(ok:TL L0 L)(h: ∀a,∃r',f (zU.code 45 a,pp L no,())=some r'/\E' a r'):SG L0 E' O' ((zas (pp L no)).bind f) (bad (L.map tk)):=by
 obtain⟨x,r,rfl⟩:=ok.ok.cons;rw[zpv,qz1];obtain⟨r',e1,e2⟩:=h x.At;exact⟨r',e1,by rw[ok.at_];exact e2⟩
theorem SG.need'{s:Str}{f:(zU×zh×Unit)⊕(zh×Unit)->Option σ}{g:zD->PR β}(ok:TL L0 L)(he: ∀a y,∃r',f (.inl (zU.code 45 a,y))=some r'/\E' a r')
  (ho: ∀L',TL L0 L'->L'.length<L.length->SG L0 E' O' (f (.inr (pp L' no,()))) (g (L'.map tk))):SG L0 E' O' ((zT s (pp L no)).bind f) ((zaw s (L.map tk)).bn g):=by
 unfold zT zaw;rw[zK,has_eq ok.ok s,qz1];cases hq:tIs s (L.map tk)with
 |true=>
  simp only[yB];have:=ho L.tail (ok.tail (zJ hq)) (by obtain⟨x,r,rfl⟩:=ok.ok.cons;simp)
  rw[yM]at this;exact this
 |false=>
  simp only[qz2,yA,yN,yB,zK];obtain⟨x,r,rfl⟩:=ok.ok.cons;rw[zpv];obtain⟨r',e1,e2⟩:=he x.At (pp (x::r) no,());exact⟨r',e1,by rw[ok.at_];exact e2⟩
theorem SG.need{s:Str}{f:(zU×zh×Unit)⊕(zh×Unit)->Option σ}{g:zD->PR β}(ok:TL L0 L)(he: ∀a y,∃r',f (.inl (zU.code 45 a,y))=some r'/\E' a r')
  (ho: ∀L',TL L0 L'->SG L0 E' O' (f (.inr (pp L' no,()))) (g (L'.map tk))):SG L0 E' O' ((zT s (pp L no)).bind f) ((zaw s (L.map tk)).bn g):= .need' ok he λL' h _=>ho L' h
theorem SG.end{f:(zU×zh×Unit)⊕(zh×Unit)->Option σ}{g:zD->PR β}(ok:TL L0 L)(he: ∀a y,∃r',f (.inl (zU.code 45 a,y))=some r'/\E' a r')
  (ho: ∀L',TL L0 L'->SG L0 E' O' (f (.inr (pp L' no,()))) (g (L'.map tk))):SG L0 E' O' ((za7 (pp L no)).bind f) ((zde (L.map tk)).bn g):=by
 unfold za7 zde;rw[zK,has_eq ok.ok [59],qz1];cases hq:tIs [59] (L.map tk)with
 |true=>
  simp only[yB];have:=ho L.tail (ok.tail (zJ hq));rw[yM]at this;exact this
 |false=>
  simp only[qz2,yA,yN,yB,zK];rw[zzr ok.ok];simp only[qz1];cases hp:zgi (L.map tk)with
  |true=>
   simp only[yO,qz2,yA,yB];exact ho L ok
  |false=>
   simp only[yN,yB,qz2,yA];obtain⟨x,r,rfl⟩:=ok.ok.cons;rw[zpv];obtain⟨r',e1,e2⟩:=he x.At (pp (x::r) no,());exact⟨r',e1,by rw[ok.at_];exact e2⟩
theorem zfi{x:zl}{r:List zl}(ok:TL L0 (x::r))(n:Nat):(x.Kind==(n:Int))=(zI ((x::r).map tk)==n):=zk0 (ok.ok.kinds x qz7).1 n
theorem SG.name{f:(zU×zh×Unit)⊕(Str×zh×Unit)->Option σ}{qa:PR β}(ok:TL L0 L)(he: ∀a y,∃r',f (.inl (zU.code 45 a,y))=some r'/\E' a r')
  (ho:(zI (L.map tk)==1)=true->TL L0 L.tail->SG L0 E' O' (f (.inr (tText (L.map tk),pp L.tail no,()))) qa):SG L0 E' O' ((zb2 (pp L no)).bind f) (if(zI (L.map tk)==1)=true then qa else bad (L.map tk)):=by
 obtain⟨x,r,rfl⟩:=ok.ok.cons;have hk:=zfi ok 1;rw[show((1:Nat):Int)=1 from rfl]at hk;unfold zb2;simp only[zck,qz1,zK,bne,hk];cases hq:zI ((x::r).map tk)==1 with
 |true=>
  have h1:x.Kind=1:=eq_of_beq (hk.trans hq);simp only[yO,qz2,yA,yB];rw[zwt (by omega)];exact ho hq (ok.tail (zaU hq (by decide)))
 |false=>
  simp only[yN,yB,qz2,yA];rw[zpv];obtain⟨r',e1,e2⟩:=he x.At (pp (x::r) no,());exact⟨r',e1,by rw[ok.at_];exact e2⟩
theorem zGd(ok:TL L0 L)(h:zI (L.map tk)≠0): ∃x,L=x::L.tail/\tk x=tk x/\x.Text=tText (L.map tk)/\zaa (pp L no)=some (x,pp L.tail no,()):=by
 obtain⟨x,r,rfl⟩:=ok.ok.cons;exact⟨x,rfl,rfl,rfl,zwt (λe=>h (by show(tk x).kind=0;unfold tk;rw[e];rfl))⟩
theorem zxp(n:zg):zgU n=some (zgK n.Kind,()):=by
 unfold zgU zgK;cases h3:n.Kind==3<;>cases h11:n.Kind==11<;>cases h12:n.Kind==12<;>simp[h3,h11,h12]
theorem SG.target{n:zg}{f:(zU×zh×Unit)⊕(zh×Unit)->Option σ}{qa:PR β}(ok:TL L0 L)(he: ∀a y,∃r',f (.inl (zU.code 45 a,y))=some r'/\E' a r')
  (ho:zgK n.Kind=true->SG L0 E' O' (f (.inr (pp L no,()))) qa):SG L0 E' O' ((zcD n (pp L no)).bind f) (if zgK n.Kind=true then qa else bad (L.map tk)):=by
 unfold zcD;rw[zC,zxp,zK,qz1];cases hq:zgK n.Kind with
 |true=>
  simp only[yO,qz2,yA,yB];exact ho hq
 |false=>
  simp only[yN,yB,qz2,yA,zK];obtain⟨x,r,rfl⟩:=ok.ok.cons;rw[zpv];obtain⟨r',e1,e2⟩:=he x.At (pp (x::r) no,());exact⟨r',e1,by rw[ok.at_];exact e2⟩
end
theorem zsZ: ∀(n:Nat) (s:Str) (last:Bool) (t:zD) (q:List Node×zD),(pG n).exprs s last t=gt q->q.1.length<=n
 |0,_,_,_,_,h=>by cases h
 |n+1,s,last,t,q,h=>by
  have h:zfI (pG n) s last t=gt q:=h;unfold zfI at h;split at h
  ·cases h;exact Nat.zero_le _
  ·obtain⟨x,_,h⟩:=ztD h;split at h
   ·cases h;simp
   ·obtain⟨t',h⟩:=zwi h;split at h
    ·cases h
    ·obtain⟨l,h1,h⟩:=ztD h;cases h;have:=zsZ n s last t' l h1;simp only[qz3];omega
def zyO{S ρ:Type}(W:S->Option ρ)(o:S⊕ρ):Option ρ:=match o with| .inl s=>W s| .inr e=>some e
theorem zdZ{S ρ:Type}(step:S->Option (S⊕ρ))(m:Nat)(s:S):zaL step (m+1) s=(step s).bind (zyO (zaL step m)):=rfl
section
variable {α β γ δ ρ σ:Type} {L0 L:List zl} {no:Bool} {E:Int->ρ->Prop} {O:α->List zl->ρ->Prop} {E':Int->σ->Prop} {O':β->List zl->σ->Prop}
theorem SG.assoc{m:Option ρ}{f:ρ->Option γ}{k:γ->Option σ}{q:PR β}(h:SG L0 E' O' (m.bind λr=>(f r).bind k) q):SG L0 E' O' ((m.bind f).bind k) q:=by
 cases m<;>exact h
theorem SG.loop{S:Type}{step:S->Option (S⊕ρ)}{m:Nat}{s:S}{q:PR α}(h:SG L0 E O (zaL step m s) q)(hm:m<=1000000000000):SG L0 E O (Lp.loop step s) q:=by
 cases q with
 |none=>trivial
 |some p=>
  cases p with
  |inl k=>
   obtain⟨r,e,h⟩:=h;exact⟨r,zfy e hm,h⟩
  |inr p=>
   obtain⟨r,L',e,h⟩:=h;exact⟨r,L',zfy e hm,h⟩
theorem SG.room{k:Nat}{f:Unit->Option σ}{q:PR β}(hk:k<=274877906944)(h:SG L0 E' O' (f ()) q):SG L0 E' O' ((room k).bind f) q:=by
 rw[zfz hk];exact h
theorem SG.take{f:zl×zh×Unit->Option σ}{q:PR β}(ok:TL L0 L)(hk:zI (L.map tk)≠0)(h: ∀x,x.Text=tText (L.map tk)->TL L0 L.tail->SG L0 E' O' (f (x,pp L.tail no,())) q):
  SG L0 E' O' ((zaa (pp L no)).bind f) q:=by
 obtain⟨x,_,_,hx,e⟩:=zGd (no:=no) ok hk;rw[e,qz1];exact h x hx (ok.tail hk)
end
structure zqK (L0:List zl) (g:zf) (q:PG):Prop where
 expr: ∀no L,TL L0 L->SG L0 ER (OL no) (g.zZ (pp L no)) (q.expr no (L.map tk))
 assign: ∀no L,TL L0 L->SG L0 ER (OL no) (g.zae (pp L no)) (q.assign no (L.map tk))
 binary: ∀no b L,TL L0 L->b<=100->SG L0 EL (OR no) (g.zbp b (pp L no)) (q.binary no b (L.map tk))
 unary: ∀no L,TL L0 L->SG L0 ER (OL no) (g.zbl (pp L no)) (q.unary (L.map tk))
 mems: ∀no x c L,TL L0 L->SG L0 EL (OR no) (g.zbi x c (pp L no)) (q.mems c x (L.map tk))
 made: ∀no L,TL L0 L->SG L0 ER (OL no) (g.zbD (pp L no)) (q.made (L.map tk))
 prim: ∀no L,TL L0 L->SG L0 ER (OL no) (g.zbM (pp L no)) (q.prim (L.map tk))
 exprs: ∀no s last L,TL L0 L->SG L0 ER (OL no) (g.za3 s last (pp L no)) (q.exprs s last (L.map tk))
 props: ∀no L,TL L0 L->SG L0 EL (λ(l:List Node) L' r=>r= .inr (pp L' no,8,[],0,[],[],l,())) (g.zbQ [125] true (pp L no) 8 [] 0 [] [] []) (q.props (L.map tk))
 func: ∀no k L,TL L0 L->SG L0 EL (OR no) (g.zbe k (pp L no)) (q.func k (L.map tk))
 vars: ∀no L,TL L0 L->SG L0 EL (λl L' r=>r= .inr (nd 22 l,pp L' no,())) (g.zbC (pp L no)) (q.vars no (L.map tk))
 block: ∀L,TL L0 L->SG L0 EL (OR false) (g.za4 (pp L false)) (q.block (L.map tk))
 head: ∀L,TL L0 L->SG L0 EL (OR false) (g.za8 (pp L false)) (q.head (L.map tk))
 till: ∀s L,TL L0 L->SG L0 ER (OL false) (g.zbH s (pp L false)) (q.till s (L.map tk))
 loop: ∀L,TL L0 L->SG L0 EL (OR false) (g.zcv (pp L false)) (q.loop (L.map tk))
 stmt: ∀L,TL L0 L->SG L0 EL (OR false) (g.za1 (pp L false)) (q.stmt (L.map tk))
 stmts: ∀f L,TL L0 L->SG L0 ER (OL false) (g.zaQ f [125] (pp L false)) (q.stmts f (L.map tk))
noncomputable abbrev RG:=zk
section
variable {L0 L:List zl} {no:Bool} {n M:Nat} (H: ∀k,k<=n->∀N,20*k+20<=N->zqK L0 (RG N) (pG k)) (hn:n<=10000000000) (hM:20*n+30<=M)
include H hn hM
theorem zAs: ∀(k m:Nat),k<=n->k<=m->∀(x:Node) (L:List zl),TL L0 L->
  SG L0 ER (OL no) (zaL (zc8 (RG M)) m (pp L no,0,([]:Str),0,([]:Str),x,([]:List Str),([]:List zg),())) ((pG k).comma no x (L.map tk))
 |0,m,_,_,x,L,ok=>trivial
 |k+1,0,_,hm,x,L,ok=>by omega
 |k+1,m+1,hk,hm,x,L,ok=>by
  show SG _ _ _ _ (zj9 (pG k) no x (L.map tk));have ih:=λx L ok=>zAs k m (by omega) (by omega) x L ok
  unfold zj9;rw[zdZ];generalize zaL (zc8 (RG M)) m=W at ih⊢;unfold zc8;simp only[zK,zC,zdS];refine .assoc (.has ok (λh ok'=>?_) λh=>?_)
  ·simp only[yB];rw[<-yM];refine .assoc (.r ((H k (by omega) M (by omega)).assign no _ ok') (λ_ _=>⟨_,rfl,_,rfl⟩) λv L' ok'=>?_);exact ih _ L' ok'
  ·simp only[qz2,yA];exact .gt ok rfl
theorem zE8(ok:TL L0 L):SG L0 ER (OL no) (zfh (RG M) (pp L no)) (zi0 (pG n) no (L.map tk)):=by
 unfold zfh zi0;simp only[zK,zC];refine .r ((H n (yJ _) M (by omega)).assign no L ok) (λ_ _=>⟨_,rfl,_,rfl⟩) λv L' ok'=>?_
 exact .loop (zAs H hn hM n 1000000000000 (yJ _) (by omega) v L' ok') (yJ _)
theorem zAt(least:Int)(hl:least<=100): ∀(k m:Nat),k<=n->k<=m->∀(x:Node) (L:List zl),TL L0 L->
  SG L0 EL (OR no) (zaL (zcI (RG M)) m (least,pp L no,0,([]:Str),0,([]:Str),x,([]:List Str),([]:List zg),())) ((pG k).bins no least x (L.map tk))
 |0,m,_,_,x,L,ok=>trivial
 |k+1,0,_,hm,x,L,ok=>by omega
 |k+1,m+1,hk,hm,x,L,ok=>by
  show SG _ _ _ _ (zld (pG k) no least x (L.map tk));have ih:=λx L ok=>zAt least hl k m (by omega) (by omega) x L ok
  unfold zld;rw[zdZ];generalize zaL (zcI (RG M)) m=W at ih⊢;unfold zcI;simp only[zK,zC,zdS,zAI ok.ok,qz1]
  have hb:(zcO no (L.map tk)).1<=8/\0<=(zcO no (L.map tk)).1:=by
   cases L.map tk with
   |nil=>show(0:Int)<=8/\(0:Int)<=0;decide
   |cons a r=>
    show(if opK a=true then lvS no a.text else(0,0)).1<=8/\0<=(if opK a=true then lvS no a.text else(0,0)).1;unfold lvS
    repeat' split
    all_goals decide
  cases hc:(decide ((zcO no (L.map tk)).1<least)||(zcO no (L.map tk)).1==0)with
  |true=>
   simp only[yB];exact .gt ok rfl
  |false=>
   simp only[qz2,yA]
   have h0:(zcO no (L.map tk)).1≠0:=by
    intro e;rw[e]at hc;simp at hc
   refine .assoc (.take ok (zob h0) λa ha ok'=>?_);have hw:IntKind.wrap .i64 ((zcO no (L.map tk)).1+1)=(zcO no (L.map tk)).1+1:=wrap_i64 (by omega) (by omega);rw[<-yM];simp only[hw];refine .assoc (.l ((H k (by omega) M (by omega)).binary no _ _ ok' (by omega)) (λ_ _=>⟨_,rfl,_,rfl⟩) λv L' ok'=>?_);simp only[ha];exact ih _ L' ok'
theorem zCn(b:Int)(hb:b<=100)(ok:TL L0 L):SG L0 EL (OR no) (zec (RG M) b (pp L no)) (zfA (pG n) no b (L.map tk)):=by
 unfold zec zfA;simp only[zK,zC];refine .r ((H n (yJ _) M (by omega)).unary no L ok) (λ_ _=>⟨_,rfl,_,rfl⟩) λv L' ok'=>?_
 exact .loop (zAt H hn hM b hb n 1000000000000 (yJ _) (by omega) v L' ok') (yJ _)
end
theorem SG.map{α β ρ:Type}{L0:List zl}{E:Int->ρ->Prop}{O:α->List zl->ρ->Prop}{O':β->List zl->ρ->Prop}{m:Option ρ}{q:PR α}(φ:α->β)(h:SG L0 E O m q)(ho: ∀v L' r,O v L' r->O' (φ v) L' r):
  SG L0 E O' m (q.bd λp=>Go.D08.gt (φ p.1,p.2)):=by
 cases q with
 |none=>trivial
 |some p=>
  cases p with
  |inl k=>exact h
  |inr p=>
   obtain⟨r,L',e1,e2,e3,e4⟩:=h;exact⟨r,L',e1,e2,e3,ho _ _ _ e4⟩
theorem SG.gt'{α ρ:Type}{L0 L:List zl}{E:Int->ρ->Prop}{O:α->List zl->ρ->Prop}{r:ρ}{v:α}{t:zD}(ok:TL L0 L)(ht:L.map tk=t)(h:O v L r):SG L0 E O (some r) (Go.D08.gt (v,t)):=⟨r,L,rfl,ht,ok,h⟩
section
variable {L0 L:List zl} {no:Bool} {n M:Nat} (H: ∀k,k<=n->∀N,20*k+20<=N->zqK L0 (RG N) (pG k)) (hn:n<=10000000000) (hM:20*n+30<=M)
include H hn hM
theorem zCd(ok:TL L0 L):SG L0 ER (λv L' r=>r= .inl (pp L' no,v,[],[],())) ((RG M).zbx (pp L no) 0 [] 0 [] [] []) ((pG n).assign false (L.map tk)):=by
 obtain⟨M,rfl⟩: ∃k,M=k+2:=⟨M -2,by omega⟩
 have h1:SG L0 ER (λv L' r=>r= .inl (pp L' false,v,[],[],())) (zdD (RG M) (pp L false) 0 [] 0 [] [] []) ((pG n).assign false (L.map tk)):=by
  unfold zdD;simp only[zK,zC];exact .rr ((H n (yJ _) M (by omega)).assign false L ok) (λ_ _=>⟨_,rfl,_,rfl⟩) λv L'=>⟨_,rfl,rfl⟩
 show SG _ _ _ (zdk (RG (M+1)) (pp L no) 0 [] 0 [] [] []) _;unfold zdk;simp only[zK,zC];exact h1.same (by rintro a _ ⟨y,rfl⟩;exact⟨_,rfl,_,rfl⟩) (by rintro v L' _ _ rfl;exact⟨_,rfl,rfl⟩)
theorem zDl(ok:TL L0 L):SG L0 ER (λv L' r=>r= .inl (pp L' no,v,[],[],())) ((RG M).zby (pp L no) 0 [] 0 [] [] []) ((pG n).expr false (L.map tk)):=by
 obtain⟨M,rfl⟩: ∃k,M=k+2:=⟨M -2,by omega⟩
 have h1:SG L0 ER (λv L' r=>r= .inl (pp L' false,v,[],[],())) (zd7 (RG M) (pp L false) 0 [] 0 [] [] []) ((pG n).expr false (L.map tk)):=by
  unfold zd7;simp only[zK,zC];exact .rr ((H n (yJ _) M (by omega)).expr false L ok) (λ_ _=>⟨_,rfl,_,rfl⟩) λv L'=>⟨_,rfl,rfl⟩
 show SG _ _ _ (zdd (RG (M+1)) (pp L no) 0 [] 0 [] [] []) _;unfold zdd;simp only[zK,zC];exact h1.same (by rintro a _ ⟨y,rfl⟩;exact⟨_,rfl,_,rfl⟩) (by rintro v L' _ _ rfl;exact⟨_,rfl,rfl⟩)
theorem zEF(ok:TL L0 L):SG L0 ER (λv L' r=>r= .inl (pp L' no,v,[],[],())) ((RG M).zbw (pp L no) 0 [] 0 [] [] []) ((pG n).expr false (L.map tk)):=by
 obtain⟨M,rfl⟩: ∃k,M=k+2:=⟨M -2,by omega⟩
 have h1:SG L0 ER (λv L' r=>r= .inl (pp L' false,v,[],[],())) (zc7 (RG M) (pp L false) 0 [] 0 [] [] []) ((pG n).expr false (L.map tk)):=by
  unfold zc7;simp only[zK,zC];exact .rr ((H n (yJ _) M (by omega)).expr false L ok) (λ_ _=>⟨_,rfl,_,rfl⟩) λv L'=>⟨_,rfl,rfl⟩
 show SG _ _ _ (zdq (RG (M+1)) (pp L no) 0 [] 0 [] [] []) _;unfold zdq;simp only[zK,zC];exact h1.same (by rintro a _ ⟨y,rfl⟩;exact⟨_,rfl,_,rfl⟩) (by rintro v L' _ _ rfl;exact⟨_,rfl,rfl⟩)
theorem zCq(ok:TL L0 L):SG L0 ER (OL no) (zd9 (RG M) (pp L no)) (zfB (pG n) no (L.map tk)):=by
 have S:=H n (yJ _) M (by omega);unfold zd9 zfB;simp only[zK,zC];refine .l (S.binary no 3 L ok (by decide)) (λ_ _=>⟨_,rfl,_,rfl⟩) λv L1 ok1=>?_
 refine .has ok1 (λh ok2=>?_) λh=>?_
 ·simp only[yB];rw[<-yM];refine(zCd H hn hM ok2).gen (by rintro a _ ⟨y,rfl⟩;exact⟨_,rfl,_,rfl⟩) ?_
  rintro y L3 _ _ ok3 rfl;refine .need ok3 (λ_ _=>⟨_,rfl,_,rfl⟩) λL4 ok4=>?_
  exact .r (S.assign no L4 ok4) (λ_ _=>⟨_,rfl,_,rfl⟩) λz L5 ok5=> .gt ok5 rfl
 ·simp only[qz2,yA];refine .among (ws:=zEk) ok1 (by decide+kernel) (by decide+kernel) (by decide) (λh=>?_) λh=>?_
  ·simp only[yO,qz2,yA,yB];refine .target ok1 (λ_ _=>⟨_,rfl,_,rfl⟩) λht=>?_
   refine .take ok1 (zbE h) λa ha ok2=>?_
   rw[<-yM];refine .r (S.assign no _ ok2) (λ_ _=>⟨_,rfl,_,rfl⟩) λz L5 ok5=> .gt ok5 ?_
   simp only[ha];rfl
  ·simp only[yN,yB];exact .gt ok1 rfl
theorem zEq(ok:TL L0 L):SG L0 ER (OL no) (zeC (RG M) (pp L no)) (zer (pG n) (L.map tk)):=by
 have S:=H n (yJ _) M (by omega);unfold zeC zer;simp only[zK,zC,zdS];refine .among (ws:=zD0) ok (by decide+kernel) (by decide+kernel) (by decide) (λh=>?_) λh=>?_
 ·simp only[yB];refine .take ok (zbE h) λa ha ok2=>?_
  rw[<-yM];refine .r (S.unary no _ ok2) (λ_ _=>⟨_,rfl,_,rfl⟩) λz L5 ok5=> .gt ok5 ?_
  simp only[ha];rfl
 ·simp only[qz2,yA];refine .among (ws:=ziB) ok (by decide+kernel) (by decide+kernel) (by decide) (λh=>?_) λh=>?_
  ·simp only[yB];refine .take ok (zbE h) λa ha ok2=>?_
   rw[<-yM];refine .r (S.unary no _ ok2) (λ_ _=>⟨_,rfl,_,rfl⟩) λz L5 ok5=>?_
   refine .target ok5 (λ_ _=>⟨_,rfl,_,rfl⟩) λht=> .gt ok5 ?_
   simp only[ha]
  ·simp only[qz2,yA];refine .r (S.made no L ok) (λ_ _=>⟨_,rfl,_,rfl⟩) λx L1 ok1=>?_
   refine .l (S.mems no x true L1 ok1) (λ_ _=>⟨_,rfl,_,rfl⟩) λy L2 ok2=>?_
   simp only;rw[zi8 ok2.ok ziB ([32,43,43,32,45,45,32]:Str) (by decide+kernel) (by decide+kernel) (by decide),qz1];obtain⟨a,r,rfl⟩:=ok2.ok.cons;simp only[zck,qz1];cases h1:zcc ziB ((a::r).map tk)with
   |false=>
    simp only[yN,yB,qz1,Bool.true_or];exact .gt ok2 rfl
   |true=>
    have hf:a.Fresh=zfE ((a::r).map tk):=rfl;simp only[yO,qz2,yA,qz1,Bool.false_or,hf];cases h2:zfE ((a::r).map tk)with
    |true=>
     simp only[yB];exact .gt ok2 rfl
    |false=>
     simp only[qz2,yA];refine .target ok2 (λ_ _=>⟨_,rfl,_,rfl⟩) λht=>?_
     refine .take ok2 (zbE h1) λb hb ok3=> .gt' ok3 (by rw[yM]) ?_
     simp only[hb];rfl
theorem zF3(ok:TL L0 L):SG L0 ER (OL no) (zfn (RG M) (pp L no)) (zf5 (pG n) (L.map tk)):=by
 have S:=H n (yJ _) M (by omega);unfold zfn zf5;simp only[zK,zC,zdS];refine .has ok (λh ok1=>?_) λh=>?_
 ·simp only[yO,qz2,yA];rw[<-yM];refine .r (S.made no _ ok1) (λ_ _=>⟨_,rfl,_,rfl⟩) λx L1 ok1=>?_
  refine .l (S.mems no x false L1 ok1) (λ_ _=>⟨_,rfl,_,rfl⟩) λy L2 ok2=>?_
  refine .has ok2 (λh ok3=>?_) λh=>?_
  ·simp only[yB];rw[<-yM];refine(S.exprs no _ _ _ ok3).gen (by rintro a _ ⟨y,rfl⟩;exact⟨_,rfl,_,rfl⟩) ?_
   rintro l L4 _ hq ok4 rfl;have:=zsZ n _ _ _ _ hq;simp only at this;exact .room (by simp only[qz3,qz6];omega) (.gt ok4 rfl)
  ·simp only[qz2,yA];exact .gt ok2 rfl
 ·simp only[yN,yB];exact .rr (S.prim no L ok) (λ_ _=>⟨_,rfl,_,rfl⟩) λv L'=>⟨_,rfl,rfl⟩
theorem zAo(c:Bool): ∀(k m:Nat),k<=n+1->k<=m->∀(x:Node) (L:List zl),TL L0 L->
  SG L0 EL (OR no) (zaL (zcs (RG M)) m (c,pp L no,x,0,([]:Str),0,([]:Str),([]:List Str),([]:List zg),())) ((pG k).mems c x (L.map tk))
 |0,m,_,_,x,L,ok=>trivial
 |k+1,0,_,hm,x,L,ok=>by omega
 |k+1,m+1,hk,hm,x,L,ok=>by
  have S:=H k (by omega) M (by omega);have hw:=λx L ok=>zAo c k m (by omega) (by omega) x L ok
  show SG _ _ _ _ (zk5 (pG k) c x (L.map tk));unfold zk5;rw[zdZ];generalize zaL (zcs (RG M)) m=W at hw⊢;unfold zcs;simp only[zK,zC,zdS];refine .assoc (.has ok (λh ok1=>?_) λh=>?_)
  ·simp only[yB];rw[<-yM];obtain⟨a,r,hL⟩:=ok1.ok.cons;rw[hL]at ok1⊢;have k1:=zfi ok1 1;have k2:=zfi ok1 2;rw[show((1:Nat):Int)=1 from rfl]at k1;rw[show((2:Nat):Int)=2 from rfl]at k2;simp only[zck,qz1,bne,k1,k2];cases h1:zI ((a::r).map tk)==1 with
   |true=>
    simp only[yO,qz2,yA,qz1,Bool.true_or,yB];refine .assoc (.take ok1 (zaU h1 (by decide)) λb hb ok3=>?_);have:=hw (ndN 11 (tText ((a::r).map tk)) [x]) r ok3;simp only[hb];exact this
   |false=>
    cases h2:zI ((a::r).map tk)==2 with
    |true=>
     simp only[yO,yN,qz2,yA,yB,qz1,Bool.or_true];refine .assoc (.take ok1 (zaU h2 (by decide)) λb hb ok3=>?_);have:=hw (ndN 11 (tText ((a::r).map tk)) [x]) r ok3;simp only[hb];exact this
    |false=>
     simp only[yN,qz2,yA,yB,qz1,Bool.or_self];exact .assoc (.fail ok1 λa=>⟨_,rfl,_,rfl⟩)
  ·simp only[qz2,yA];refine .assoc (.has ok (λh ok1=>?_) λh=>?_)
   ·simp only[yB];rw[<-yM];refine .assoc ((zEF (λj hj=>H j (by omega)) (by omega) (by omega) ok1).gen (by rintro a _ ⟨y,rfl⟩;exact⟨_,rfl,_,rfl⟩) ?_)
    rintro y L3 _ _ ok3 rfl;refine .assoc (.need ok3 (λ_ _=>⟨_,rfl,_,rfl⟩) λL4 ok4=>?_);exact hw _ L4 ok4
   ·simp only[qz2,yA];cases c with
    |false=>
     simp only[Bool.false_and,qz2,yA];exact .gt ok rfl
    |true=>
     simp only[Bool.true_and,yB];refine .assoc (.has ok (λh ok1=>?_) λh=>?_)
     ·simp only[yB];rw[<-yM];refine .assoc ((S.exprs no _ _ _ ok1).gen (by rintro a _ ⟨y,rfl⟩;exact⟨_,rfl,_,rfl⟩) ?_)
      rintro l L4 _ hq ok4 rfl;have:=zsZ k _ _ _ _ hq;simp only at this;exact .assoc (.room (by simp only[qz3,qz6];omega) (hw _ L4 ok4))
     ·simp only[qz2,yA];exact .gt ok rfl
theorem zG4(x:Node)(c:Bool)(ok:TL L0 L):SG L0 EL (OR no) (zdX (RG M) x c (pp L no)) (zk5 (pG n) c x (L.map tk)):=by
 unfold zdX;simp only[zK,zC];exact .loop (zAo H hn hM c (n+1) 1000000000000 (yJ _) (by omega) x L ok) (yJ _)
end
theorem zyy{α:Type}(l:List α)(x:α):zQ (l++[x]) ((l.length:Nat):Int)=some x:=by rw[zkY];simp
theorem zAk{α:Type}(l:List α)(x y:α):(l++[x]).set ((l.length:Nat):Int).toNat y=l++[y]:=by simp
section
variable {L0 L:List zl} {no:Bool} {n M:Nat} (H: ∀k,k<=n->∀N,20*k+20<=N->zqK L0 (RG N) (pG k)) (hn:n<=10000000000) (hM:20*n+30<=M)
include H hn hM
theorem zCH(l:List Node)(hl:l.length<=20000000000)(ok:TL L0 L):SG L0 ER (λv L' r=>r= .inl (pp L' no,l++[v],())) ((RG M).zbO (pp L no) l) ((pG n).assign no (L.map tk)):=by
 obtain⟨M,rfl⟩: ∃k,M=k+1:=⟨M -1,by omega⟩
 show SG _ _ _ (zd2 (RG M) (pp L no) l) _;unfold zd2;simp only[zK,zC,zdS];refine .rr ((H n (yJ _) M (by omega)).assign no L ok) (λ_ _=>⟨_,rfl,_,rfl⟩) λv L'=>⟨.inl (pp L' no,l++[v],()),?_,rfl⟩
 simp only[qz3,qz6,Nat.zero_add];rw[zfz (by omega)];simp only[qz1,zyy,zAk]
theorem zAg(s:Str)(last:Bool): ∀(k m:Nat),k<=n+1->k<=m->∀(l:List Node) (L:List zl),l.length+k<=n+1->TL L0 L->
  SG L0 ER (λ(v:List Node) L' r=>r= .inl (pp L' false,s,l++v,last,())) (zaL (zb8 (RG M)) m (pp L false,s,l,last,())) ((pG k).exprs s last (L.map tk))
 |0,m,_,_,l,L,_,ok=>trivial
 |k+1,0,_,hm,l,L,_,ok=>by omega
 |k+1,m+1,hk,hm,l,L,hl,ok=>by
  show SG _ _ _ _ (zfI (pG k) s last (L.map tk));have ih:=λl L hl ok=>zAg s last k m (by omega) (by omega) l L hl ok
  unfold zfI;rw[zdZ];generalize zaL (zb8 (RG M)) m=W at ih⊢;unfold zb8;simp only[zK];refine .assoc (.has ok (λh ok1=>?_) λh=>?_)
  ·simp only[yO,qz2,yA];exact .gt' ok1 (by rw[yM]) (by simp)
  ·simp only[yN,yB];refine .assoc ((zCH (no:=false) (λj hj=>H j (by omega)) (by omega) (by omega) l (by omega) ok).gen (by rintro a _ ⟨y,rfl⟩;exact⟨_,rfl,_,rfl⟩) ?_)
   rintro x L1 _ _ ok1 rfl;refine .assoc (.has ok1 (λh ok2=>?_) λh=>?_)
   ·simp only[yB];exact .gt' ok2 (by rw[yM]) rfl
   ·simp only[qz2,yA];refine .assoc (.need ok1 (λ_ _=>⟨_,rfl,_,rfl⟩) λL2 ok2=>?_)
    have go: ∀L3,TL L0 L3->SG L0 ER (λ(v:List Node) L' r=>r= .inl (pp L' false,s,l++v,last,())) (W (pp L3 false,s,l++[x],last,())) (((pG k).exprs s last (L3.map tk)).bd λq=>gt (x::q.1,q.2)):=λL3 ok3=>
     (ih (l++[x]) L3 (by rw[qz5];simp only[qz3,qz6];omega) ok3).map (λv=>x::v) (by rintro v L' _ rfl;simp)
    cases last with
    |true=>
     simp only[yO,Bool.false_and,qz2,yA];exact go L2 ok2
    |false=>
     simp only[yN,Bool.true_and,yB];refine .assoc (.is ok2 (λh=>?_) λh=>?_)
     ·simp only[yB];exact .assoc (.fail ok2 λa=>⟨_,rfl,_,rfl⟩)
     ·simp only[qz2,yA];exact go L2 ok2
theorem zDT(h9:20*n+39<=M)(s:Str)(last:Bool)(ok:TL L0 L):SG L0 ER (OL no) (zeK (RG M) s last (pp L no)) (zfI (pG n) s last (L.map tk)):=by
 obtain⟨M,rfl⟩: ∃k,M=k+4:=⟨M -4,by omega⟩
 unfold zeK;show SG _ _ _ ((zcK (RG (M+3)) s last (pp L no) []).bind _) ((pG (n+1)).exprs s last (L.map tk))
 have h1:SG L0 ER (λ(v:List Node) L' r=>r= .inl (pp L' false,s,v,last,())) (zdn (RG (M+1)) (pp L false) s [] last) ((pG (n+1)).exprs s last (L.map tk)):=by
  unfold zdn;simp only[zK];exact .loop (zAg H hn (by omega) s last (n+1) 1000000000000 (yJ _) (by omega) [] L (by simp) ok) (yJ _)
 have h2:SG L0 ER (λ(v:List Node) L' r=>r= .inl (pp L' no,s,v,last,())) (zda (RG (M+2)) (pp L no) s [] last) ((pG (n+1)).exprs s last (L.map tk)):=by
  unfold zda;simp only[zK];exact h1.same (by rintro a _ ⟨y,rfl⟩;exact⟨_,rfl,_,rfl⟩) (by rintro v L' _ _ rfl;exact⟨_,rfl,rfl⟩)
 have h3:SG L0 ER (λ(v:List Node) L' r=>r= .inl (pp L' no,v,())) (zcK (RG (M+3)) s last (pp L no) []) ((pG (n+1)).exprs s last (L.map tk)):=by
  unfold zcK;simp only[zK];exact h2.same (by rintro a _ ⟨y,rfl⟩;exact⟨_,rfl,_,rfl⟩) (by rintro v L' _ _ rfl;exact⟨_,rfl,rfl⟩)
 exact h3.same (by rintro a _ ⟨y,rfl⟩;exact⟨_,rfl,_,rfl⟩) (by rintro v L' _ _ rfl;exact⟨_,rfl,rfl⟩)
end
end Go.D08
namespace Go.D08
open Go Go.Gw Go.Dn
set_option maxRecDepth 100000
theorem zid(ws:List Str)(h: ∀w∈ws,w≠[]/\(32:UInt8)∉w)(s:Str):zfH (joined ws) s=ws.contains s:=by
 unfold zfH;by_cases h0:s=[]
 ·subst h0
  have:ws.contains ([]:Str)=false:=by
   cases hc:ws.contains ([]:Str)with
   |false=>rfl
   |true=>exact absurd rfl (h [] (by simpa using hc)).1
  rw[this];rfl
 ·have e0:(s==([]:Str))=false:=by rw[yH];exact h0
  rw[e0];by_cases h1:(32:UInt8)∈s
  ·have e1:s.contains 32=true:=by simpa using h1
   have:ws.contains s=false:=by
    cases hc:ws.contains s with
    |false=>rfl
    |true=>exact absurd h1 (h s (by simpa using hc)).2
   rw[e1,this];rfl
  ·have e1:s.contains 32=false:=by simpa using h1
   rw[e1,zhG s h1 ws λw hw=>(h w hw).2];rfl
def lv1(l:List Node):Str:=match l with
 | []=>[]
 |_::_=>[101]
def lv3(l:List Node):Str:=match l with
 |_::_::_::_=>[101,98,98]
 |_=>[101,98]
theorem zCF(l:List Node):zav ([101]:Str) 0 (if 1< ((l.length:Nat):Int)then 1 else((l.length:Nat):Int))=some (lv1 l):=by
 rw[zJo (zEL _).1 (zEL _).2];cases l with
 |nil=>rfl
 |cons a r=>
  have:(if 1< (((a::r).length:Nat):Int)then(1:Int)else(((a::r).length:Nat):Int))=1:=by simp only[qz3];split<;>omega
  rw[this];rfl
theorem zHU(l:List Node):zav ([101,98,98]:Str) 0 (let a:=(if 2>((l.length:Nat):Int)then 2 else((l.length:Nat):Int));if 3<a then 3 else a)=some (lv3 l):=by
 rw[zGc (zEM _).1 (zEM _).2]
 match l with
 | []=>rfl
 | [_]=>rfl
 | [_,_]=>rfl
 |a::b::c::r=>
  have:(let a':=(if 2>(((a::b::c::r).length:Nat):Int)then(2:Int)else(((a::b::c::r).length:Nat):Int));if 3<a' then 3 else a')=3:=by simp only[qz3];split<;>split<;>omega
  rw[this];rfl
theorem zHj{x:Node}(h:x.Kind=1):zad x=some ⟨[],9007199254740991,false,false,[]⟩:=by
 simp[zad,zaz,zN,zL,h,zC,zC]
theorem zIJ{x:Node}(h:x.Kind=2):zad x=some ⟨[],0,true,false,[]⟩:=by
 simp[zad,zaz,zN,zL,h,zC,zC]
theorem zHn{x:Node}(h:x.Kind=3):zad x=some ⟨[110],0,false,false,[]⟩:=by
 simp[zad,zaz,zN,zL,h,zC,zC]
theorem zIM{x:Node}(h:x.Kind=7):zad x=some ⟨[],0,false,false,[42,101]⟩:=by
 simp[zad,zaz,zN,zL,h,zC,zC]
theorem zH5{x:Node}(h:x.Kind=8):zad x=some ⟨[],0,false,false,[42,112]⟩:=by
 simp[zad,zaz,zN,zL,h,zC,zC]
theorem zHO{x:Node}(h:x.Kind=9):zad x=some ⟨[],0,true,false,[101]⟩:=by
 simp[zad,zaz,zN,zL,h,zC,zC]
theorem zFX{x:Node}(h:x.Kind=10):zad x=some ⟨[109],0,false,true,[42,120]⟩:=by
 simp[zad,zaz,zN,zL,h,zC,zC]
theorem zFH{x:Node}(h:x.Kind=11):zad x=some ⟨[105],0,false,false,[101]⟩:=by
 simp[zad,zaz,zN,zL,h,zC,zC]
theorem zF1{x:Node}(h:x.Kind=12):zad x=some ⟨[],0,false,false,[101,101]⟩:=by
 simp[zad,zaz,zN,zL,h,zC,zC]
theorem zGW{x:Node}(h:x.Kind=13):zad x=some ⟨[],0,false,false,[101,42,101]⟩:=by
 simp[zad,zaz,zN,zL,h,zC,zC]
theorem zGe{x:Node}(h:x.Kind=14):zad x=some ⟨[],0,false,false,[101,42,101]⟩:=by
 simp[zad,zaz,zN,zL,h,zC,zC]
theorem zGr{x:Node}(h:x.Kind=15):zad x=some ⟨[32,45,32,43,32,33,32,116,121,112,101,111,102,32,100,101,108,101,116,101,32,118,111,105,100,32],0,false,false,[101]⟩:=by
 simp[zad,zaz,zN,zL,h,zC,zC]
theorem zGF{x:Node}(h:x.Kind=16):zad x=some ⟨[32,43,43,32,45,45,32],1,false,false,[116]⟩:=by
 simp[zad,zaz,zN,zL,h,zC,zC]
theorem zHh{x:Node}(h:x.Kind=17):zad x=some ⟨[32,43,32,45,32,42,32,47,32,37,32,60,32,62,32,60,61,32,62,61,32,61,61,32,33,61,32,61,61,61,32,33,61,61,32,105,110,32,105,110,115,116,97,110,99,101,111,102,32],0,false,false,[101,101]⟩:=by
 simp[zad,zaz,zN,zL,h,zC,zC]
theorem zF7{x:Node}(h:x.Kind=18):zad x=some ⟨[32,38,38,32,124,124,32],0,false,false,[101,101]⟩:=by
 simp[zad,zaz,zN,zL,h,zC,zC]
theorem zGX{x:Node}(h:x.Kind=19):zad x=some ⟨[],0,false,false,[101,101,101]⟩:=by
 simp[zad,zaz,zN,zL,h,zC,zC]
theorem zFh{x:Node}(h:x.Kind=20):zad x=some ⟨[32,61,32,43,61,32,45,61,32,42,61,32,47,61,32,37,61,32],0,false,false,[116,101]⟩:=by
 simp[zad,zaz,zN,zL,h,zC,zC]
theorem zHg{x:Node}(h:x.Kind=21):zad x=some ⟨[],0,false,false,[101,101]⟩:=by
 simp[zad,zaz,zN,zL,h,zC,zC]
theorem zFK{x:Node}(h:x.Kind=22):zad x=some ⟨[],0,false,false,[100,42,100]⟩:=by
 simp[zad,zaz,zN,zL,h,zC,zC]
theorem zF8{x:Node}(h:x.Kind=23):zad x=some ⟨[110],0,false,false,lv1 x.L⟩:=by
 simp[zad,zaz,zN,zL,h,zC,zC,zCF]
theorem zE2{x:Node}(h:x.Kind=24):zad x=some ⟨[],0,false,false,[101]⟩:=by
 simp[zad,zaz,zN,zL,h,zC,zC]
theorem zFj{x:Node}(h:x.Kind=25):zad x=some ⟨[],0,false,false,[42,115]⟩:=by
 simp[zad,zaz,zN,zL,h,zC,zC]
theorem zFT{x:Node}(h:x.Kind=26):zad x=some ⟨[],0,false,false,lv3 x.L⟩:=by
 have e:=zHU x.L;simp only at e;simp[zad,zaz,zN,h,zC,zC,e]
theorem zFq{x:Node}(h:x.Kind=27):zad x=some ⟨[],0,false,false,[101,98]⟩:=by
 simp[zad,zaz,zN,zL,h,zC,zC]
theorem zGh{x:Node}(h:x.Kind=28):zad x=some ⟨[],0,false,false,[98,101]⟩:=by
 simp[zad,zaz,zN,zL,h,zC,zC]
theorem zE7{x:Node}(h:x.Kind=29):zad x=some ⟨[],0,false,false,[118,102,102,98]⟩:=by
 simp[zad,zaz,zN,zL,h,zC,zC]
theorem zGl{x:Node}(h:x.Kind=30):zad x=some ⟨[],0,false,false,[119,101,98]⟩:=by
 simp[zad,zaz,zN,zL,h,zC,zC]
theorem zGL{x:Node}(h:x.Kind=31):zad x=some ⟨[109],0,false,false,[]⟩:=by
 simp[zad,zaz,zN,zL,h,zC,zC]
theorem zFO{x:Node}(h:x.Kind=32):zad x=some ⟨[109],0,false,false,[]⟩:=by
 simp[zad,zaz,zN,zL,h,zC,zC]
theorem zGZ{x:Node}(h:x.Kind=33):zad x=some ⟨[],0,false,false,lv1 x.L⟩:=by
 simp[zad,zaz,zN,zL,h,zC,zC,zCF]
theorem zGJ{x:Node}(h:x.Kind=34):zad x=some ⟨[],0,false,false,[101]⟩:=by
 simp[zad,zaz,zN,zL,h,zC,zC]
theorem zFY{x:Node}(h:x.Kind=35):zad x=some ⟨[99],0,false,false,[98,99,99]⟩:=by
 simp[zad,zaz,zN,zL,h,zC,zC]
theorem zFb{x:Node}(h:x.Kind=36):zad x=some ⟨[],0,false,false,[101,42,107]⟩:=by
 simp[zad,zaz,zN,zL,h,zC,zC]
theorem zHd{x:Node}(h:x.Kind=37):zad x=some ⟨[],0,false,false,[102,42,115]⟩:=by
 simp[zad,zaz,zN,zL,h,zC,zC]
theorem zGO{x:Node}(h:x.Kind=38):zad x=some ⟨[110],0,false,false,[115]⟩:=by
 simp[zad,zaz,zN,zL,h,zC,zC]
theorem zGK{x:Node}(h:x.Kind=39):zad x=some ⟨[110],0,false,true,[42,120]⟩:=by
 simp[zad,zaz,zN,zL,h,zC,zC]
theorem zGs{x:Node}(h:x.Kind=41):zad x=some ⟨[],0,false,false,[42,120]⟩:=by
 simp[zad,zaz,zN,zL,h,zC,zC]
theorem zCX(s:Str):zfH [32,45,32,43,32,33,32,116,121,112,101,111,102,32,100,101,108,101,116,101,32,118,111,105,100,32] s=zD0.contains s:=by
 rw[show([32,45,32,43,32,33,32,116,121,112,101,111,102,32,100,101,108,101,116,101,32,118,111,105,100,32]:Str)=joined zD0 by decide+kernel];exact zid _ (by decide+kernel) s
theorem zC4(s:Str):zfH [32,43,43,32,45,45,32] s=ziB.contains s:=by
 rw[show([32,43,43,32,45,45,32]:Str)=joined ziB by decide+kernel];exact zid _ (by decide+kernel) s
def zrd:List Str:=[[43],[45],[42],[47],[37],[60],[62],[60,61],[62,61],[61,61],[33,61],[61,61,61],[33,61,61],[105,110],[105,110,115,116,97,110,99,101,111,102]]
theorem zDG(s:Str):zfH [32,43,32,45,32,42,32,47,32,37,32,60,32,62,32,60,61,32,62,61,32,61,61,32,33,61,32,61,61,61,32,33,61,61,32,105,110,32,105,110,115,116,97,110,99,101,111,102,32] s=zrd.contains s:=by
 rw[show([32,43,32,45,32,42,32,47,32,37,32,60,32,62,32,60,61,32,62,61,32,61,61,32,33,61,32,61,61,61,32,33,61,61,32,105,110,32,105,110,115,116,97,110,99,101,111,102,32]:Str)=joined zrd by decide+kernel];exact zid _ (by decide+kernel) s
def zu9:List Str:=[[38,38],[124,124]]
theorem zEH(s:Str):zfH [32,38,38,32,124,124,32] s=zu9.contains s:=by
 rw[show([32,38,38,32,124,124,32]:Str)=joined zu9 by decide+kernel];exact zid _ (by decide+kernel) s
theorem zD7(s:Str):zfH [32,61,32,43,61,32,45,61,32,42,61,32,47,61,32,37,61,32] s=zEk.contains s:=by
 rw[show([32,61,32,43,61,32,45,61,32,42,61,32,47,61,32,37,61,32]:Str)=joined zEk by decide+kernel];exact zid _ (by decide+kernel) s
def zM(x:Node):Bool:=
 if((x.Kind==3||x.Kind==23)||(x.Kind==38||x.Kind==39))=true then zbL x.Name
 else if((x.Kind==10||x.Kind==31)||x.Kind==32)=true then x.Name==([]:Str)||zbL x.Name
 else if(x.Kind==11)=true then zj5 x.Name
 else if(x.Kind==35)=true then(if(match x.L with| [_,y,_]=>y.Kind==25|_=>false)=true then zbL x.Name else x.Name==([]:Str))
 else if(x.Kind==15)=true then zD0.contains x.Name
 else if(x.Kind==16)=true then ziB.contains x.Name
 else if(x.Kind==17)=true then zrd.contains x.Name
 else if(x.Kind==18)=true then zu9.contains x.Name
 else if(x.Kind==20)=true then zEk.contains x.Name
 else x.Name==([]:Str)
def zal(x:Node):Bool:=
 if(x.Kind==1)=true then decide (0<=x.Num)&&decide (x.Num<=9007199254740991)
 else if(x.Kind==6||x.Kind==16)=true then x.Num==0||x.Num==1
 else x.Num==0
def zaj(x:Node):Bool:=(zM x&&(x.Text==([]:Str)||(x.Kind==2||x.Kind==9)))&&(zaT x.Text&&(zal x&&((x.Names.isEmpty||(x.Kind==10||x.Kind==39))&&x.Names.all zbL)))
def zF(y:Node)(c:UInt8):Bool:=isP y ((c.toNat:Nat):Int)&&zbn y
def zS:Str->Option UInt8->List Node->Bool
 | [],some c,l=>l.all λy=>zF y c
 | [],none,l=>l.isEmpty
 |c::cs,m,y::ys=>zF y c&&zS cs m ys
 |_::_,_,[]=>false
theorem zvJ: ∀(cs:Str) (m:Option UInt8) (l:List Node),zS cs m l=true->cs.length<=l.length/\(m.isSome=true\/l.length<=cs.length)
 | [],some c,l,_=>⟨Nat.zero_le _,.inl rfl⟩
 | [],none,l,h=>by
  cases l with
  |nil=>exact⟨yJ _,.inr (yJ _)⟩
  |cons a r=>cases h
 |c::cs,m,y::ys,h=>by
  simp only[zS,qz4]at h;obtain⟨h1,h2⟩:=zvJ cs m ys h.2;exact⟨by simp only[qz3];omega,h2.imp id λh=>by simp only[qz3];omega⟩
 |_::_,_,[],h=>by cases h
def zq8(m:Option UInt8):Str:=match m with
 |some c=>[c]
 |none=>[]
theorem zwS(x:Node)(ls:Str)(c:UInt8)(hc:ls[ls.length -1]? =some c)(hx: ∀k,zij x k=false)(e:Nat)(he:e<2): ∀(r:List Node) (i:Nat),ls.length -1<=i->zjO x ls (zlS r) i e=r.all λy=>zF y c
 | [],i,hi=>by simp[zlS,zjO,he]
 |k::r,i,hi=>by
  simp only[zlS,zjO,List.all_cons];rw[show min i (ls.length -1)=ls.length -1 by omega,hc];simp only[hx k,qz2,yA,zwS x ls c hc hx e he r (i+1) (by omega),zF]
theorem zvj(x:Node)(m:Option UInt8)(hx: ∀k,zij x k=false): ∀(cs pre:Str) (l:List Node),cs.length<=l.length->(m.isSome=true\/l.length<=cs.length)->zjO x (pre++(cs++zq8 m)) (zlS l) pre.length 0=zS cs m l
 | [],pre,l,h1,h2=>by
  cases m with
  |none=>
   have:l=[]:=List.length_eq_zero_iff.1 (by
    rcases h2 with h2|h2
    ·cases h2
    ·simpa using h2)
   subst this;rfl
  |some c=>
   simp only[zS,List.nil_append,zq8];exact zwS x _ c (by simp) hx 0 (by omega) l pre.length (by simp)
 |c::cs,pre,[],h1,h2=>by simp at h1
 |c::cs,pre,y::ys,h1,h2=>by
  simp only[zlS,zjO,zS];have hlt:min pre.length ((pre++(c::cs++zq8 m)).length -1)=pre.length:=by simp only[qz5,qz3];omega
  rw[hlt];have:(pre++(c::cs++zq8 m))[pre.length]? =some c:=by simp
  rw[this];simp only[hx y,qz2,yA];have ih:=zvj x m hx cs (pre++[c]) ys (by simpa using h1) (h2.imp id λh=>by simpa using h);rw[show(pre++[c])++(cs++zq8 m)=pre++(c::cs++zq8 m) by simp]at ih;rw[qz5,List.length_singleton]at ih;rw[ih];rfl
theorem zbc{x:Node}{f:Form}(fx:Str)(m:Option UInt8)(hf:zad x=some f)(hs:zvU x f=zaj x)(h1:zox f.l=fx)(h2:zBj f.l=zq8 m)(h3:f.l.contains 42=m.isSome)(h35:x.Kind≠35)(h36:x.Kind≠36):zbn x=(zaj x&&zS fx m x.L):=by
 have hx: ∀k,zij x k=false:=λk=>by
  have e1:(x.Kind==35)=false:=by rw[yH];exact h35
  have e2:(x.Kind==36)=false:=by rw[yH];exact h36
  simp[zij,e1,e2]
 rw[zwJ];unfold zxW;rw[hf];simp only;rw[hs,h1,h2];cases zaj x with
 |false=>rfl
 |true=>
  simp only[Bool.true_and];unfold zl9;rw[h1,h3];by_cases hl:fx.length<=x.L.length/\(m.isSome=true\/x.L.length<=fx.length)
  ·have:=zvj x m hx fx [] x.L hl.1 hl.2;simp only[List.nil_append,qz6]at this;rw[this]
   have e:(decide (fx.length<=x.L.length)&&(m.isSome||decide (x.L.length<=fx.length)))=true:=by
    simp only[qz4,yQ,yT];exact hl
   rw[e,Bool.true_and]
  ·have e:(decide (fx.length<=x.L.length)&&(m.isSome||decide (x.L.length<=fx.length)))=false:=by
    rw[Bool.eq_false_iff];intro h;simp only[qz4,yQ,yT]at h;exact hl h
   rw[e,Bool.false_and];symm;rw[Bool.eq_false_iff];intro h;exact hl (zvJ _ _ _ h)
theorem zaG{x:Node}{f:Form}(hn:zaZ x f.name=zM x)(hm:(decide (0<=x.Num)&&decide (x.Num<=f.num))=zal x)(ht:f.text=(x.Kind==2||x.Kind==9))(hs:f.names=(x.Kind==10||x.Kind==39)):zvU x f=zaj x:=by
 unfold zvU zaj;rw[hn,hm,ht,hs];generalize zM x=a1;generalize zal x=a2;generalize zaT x.Text=a3;generalize (x.Text==([]:Str))=a4;generalize (x.Kind==2||x.Kind==9)=a5;generalize x.Names.isEmpty=a6;generalize (x.Kind==10||x.Kind==39)=a7;generalize x.Names.all zbL=a8;cases a1<;>cases a2<;>cases a3<;>cases a4<;>cases a5<;>cases a6<;>cases a7<;>cases a8<;>rfl
theorem zcj(n:Int):(decide (0<=n)&&decide (n<=0))=(n==0):=by
 rw[Bool.eq_iff_iff];simp only[qz4,yT,beq_iff_eq];omega
theorem num1(n:Int):(decide (0<=n)&&decide (n<=1))=(n==0||n==1):=by
 rw[Bool.eq_iff_iff];simp only[qz4,yQ,yT,beq_iff_eq];omega
theorem zI2{x:Node}(h:x.Kind=1):zbn x=(zaj x&&zS [] none x.L):=
 zbc [] none (zHj h) (zaG (by simp[zaZ,zM,h]) (by simp[zal,h]) (by rw[h];rfl) (by rw[h];rfl)) (rfl) (rfl) (rfl) (by omega) (by omega)
theorem zJc{x:Node}(h:x.Kind=2):zbn x=(zaj x&&zS [] none x.L):=
 zbc [] none (zIJ h) (zaG (by simp[zaZ,zM,h]) (by rw[zcj];simp[zal,h]) (by rw[h];rfl) (by rw[h];rfl)) (rfl) (rfl) (rfl) (by omega) (by omega)
theorem zIR{x:Node}(h:x.Kind=3):zbn x=(zaj x&&zS [] none x.L):=
 zbc [] none (zHn h) (zaG (by simp[zaZ,zM,h]) (by rw[zcj];simp[zal,h]) (by rw[h];rfl) (by rw[h];rfl)) (rfl) (rfl) (rfl) (by omega) (by omega)
theorem zJh{x:Node}(h:x.Kind=7):zbn x=(zaj x&&zS [] (some 101) x.L):=
 zbc [] (some 101) (zIM h) (zaG (by simp[zaZ,zM,h]) (by rw[zcj];simp[zal,h]) (by rw[h];rfl) (by rw[h];rfl)) (rfl) (rfl) (rfl) (by omega) (by omega)
theorem zJi{x:Node}(h:x.Kind=8):zbn x=(zaj x&&zS [] (some 112) x.L):=
 zbc [] (some 112) (zH5 h) (zaG (by simp[zaZ,zM,h]) (by rw[zcj];simp[zal,h]) (by rw[h];rfl) (by rw[h];rfl)) (rfl) (rfl) (rfl) (by omega) (by omega)
theorem zIX{x:Node}(h:x.Kind=9):zbn x=(zaj x&&zS [101] none x.L):=
 zbc [101] none (zHO h) (zaG (by simp[zaZ,zM,h]) (by rw[zcj];simp[zal,h]) (by rw[h];rfl) (by rw[h];rfl)) (rfl) (rfl) (rfl) (by omega) (by omega)
theorem zHM{x:Node}(h:x.Kind=10):zbn x=(zaj x&&zS [] (some 120) x.L):=
 zbc [] (some 120) (zFX h) (zaG (by simp[zaZ,zM,h]) (by rw[zcj];simp[zal,h]) (by rw[h];rfl) (by rw[h];rfl)) (rfl) (rfl) (rfl) (by omega) (by omega)
theorem zIN{x:Node}(h:x.Kind=11):zbn x=(zaj x&&zS [101] none x.L):=
 zbc [101] none (zFH h) (zaG (by simp[zaZ,zM,h]) (by rw[zcj];simp[zal,h]) (by rw[h];rfl) (by rw[h];rfl)) (rfl) (rfl) (rfl) (by omega) (by omega)
theorem zHC{x:Node}(h:x.Kind=12):zbn x=(zaj x&&zS [101,101] none x.L):=
 zbc [101,101] none (zF1 h) (zaG (by simp[zaZ,zM,h]) (by rw[zcj];simp[zal,h]) (by rw[h];rfl) (by rw[h];rfl)) (rfl) (rfl) (rfl) (by omega) (by omega)
theorem zH1{x:Node}(h:x.Kind=13):zbn x=(zaj x&&zS [101] (some 101) x.L):=
 zbc [101] (some 101) (zGW h) (zaG (by simp[zaZ,zM,h]) (by rw[zcj];simp[zal,h]) (by rw[h];rfl) (by rw[h];rfl)) (rfl) (rfl) (rfl) (by omega) (by omega)
theorem zIH{x:Node}(h:x.Kind=14):zbn x=(zaj x&&zS [101] (some 101) x.L):=
 zbc [101] (some 101) (zGe h) (zaG (by simp[zaZ,zM,h]) (by rw[zcj];simp[zal,h]) (by rw[h];rfl) (by rw[h];rfl)) (rfl) (rfl) (rfl) (by omega) (by omega)
theorem zHS{x:Node}(h:x.Kind=15):zbn x=(zaj x&&zS [101] none x.L):=
 zbc [101] none (zGr h) (zaG (by simp[zaZ,zM,h,zCX]) (by rw[zcj];simp[zal,h]) (by rw[h];rfl) (by rw[h];rfl)) (rfl) (rfl) (rfl) (by omega) (by omega)
theorem zIC{x:Node}(h:x.Kind=16):zbn x=(zaj x&&zS [116] none x.L):=
 zbc [116] none (zGF h) (zaG (by simp[zaZ,zM,h,zC4]) (by rw[num1];simp[zal,h]) (by rw[h];rfl) (by rw[h];rfl)) (rfl) (rfl) (rfl) (by omega) (by omega)
theorem zHV{x:Node}(h:x.Kind=17):zbn x=(zaj x&&zS [101,101] none x.L):=
 zbc [101,101] none (zHh h) (zaG (by simp[zaZ,zM,h,zDG]) (by rw[zcj];simp[zal,h]) (by rw[h];rfl) (by rw[h];rfl)) (rfl) (rfl) (rfl) (by omega) (by omega)
theorem zIy{x:Node}(h:x.Kind=18):zbn x=(zaj x&&zS [101,101] none x.L):=
 zbc [101,101] none (zF7 h) (zaG (by simp[zaZ,zM,h,zEH]) (by rw[zcj];simp[zal,h]) (by rw[h];rfl) (by rw[h];rfl)) (rfl) (rfl) (rfl) (by omega) (by omega)
theorem zIh{x:Node}(h:x.Kind=19):zbn x=(zaj x&&zS [101,101,101] none x.L):=
 zbc [101,101,101] none (zGX h) (zaG (by simp[zaZ,zM,h]) (by rw[zcj];simp[zal,h]) (by rw[h];rfl) (by rw[h];rfl)) (rfl) (rfl) (rfl) (by omega) (by omega)
theorem zIu{x:Node}(h:x.Kind=20):zbn x=(zaj x&&zS [116,101] none x.L):=
 zbc [116,101] none (zFh h) (zaG (by simp[zaZ,zM,h,zD7]) (by rw[zcj];simp[zal,h]) (by rw[h];rfl) (by rw[h];rfl)) (rfl) (rfl) (rfl) (by omega) (by omega)
theorem zHu{x:Node}(h:x.Kind=21):zbn x=(zaj x&&zS [101,101] none x.L):=
 zbc [101,101] none (zHg h) (zaG (by simp[zaZ,zM,h]) (by rw[zcj];simp[zal,h]) (by rw[h];rfl) (by rw[h];rfl)) (rfl) (rfl) (rfl) (by omega) (by omega)
theorem zHw{x:Node}(h:x.Kind=22):zbn x=(zaj x&&zS [100] (some 100) x.L):=
 zbc [100] (some 100) (zFK h) (zaG (by simp[zaZ,zM,h]) (by rw[zcj];simp[zal,h]) (by rw[h];rfl) (by rw[h];rfl)) (rfl) (rfl) (rfl) (by omega) (by omega)
theorem zCc{x:Node}(h:x.Kind=23):zbn x=(zaj x&&zS (lv1 x.L) none x.L):=
 zbc (lv1 x.L) none (zF8 h) (zaG (by simp[zaZ,zM,h]) (by rw[zcj];simp[zal,h]) (by rw[h];rfl) (by rw[h];rfl)) (by rcases x.L with _| ⟨a,_| ⟨b,_| ⟨c,r⟩⟩⟩<;>rfl) (by rcases x.L with _| ⟨a,_| ⟨b,_| ⟨c,r⟩⟩⟩<;>rfl) (by rcases x.L with _| ⟨a,_| ⟨b,_| ⟨c,r⟩⟩⟩<;>rfl) (by omega) (by omega)
theorem zIK{x:Node}(h:x.Kind=24):zbn x=(zaj x&&zS [101] none x.L):=
 zbc [101] none (zE2 h) (zaG (by simp[zaZ,zM,h]) (by rw[zcj];simp[zal,h]) (by rw[h];rfl) (by rw[h];rfl)) (rfl) (rfl) (rfl) (by omega) (by omega)
theorem zID{x:Node}(h:x.Kind=25):zbn x=(zaj x&&zS [] (some 115) x.L):=
 zbc [] (some 115) (zFj h) (zaG (by simp[zaZ,zM,h]) (by rw[zcj];simp[zal,h]) (by rw[h];rfl) (by rw[h];rfl)) (rfl) (rfl) (rfl) (by omega) (by omega)
theorem zBT{x:Node}(h:x.Kind=26):zbn x=(zaj x&&zS (lv3 x.L) none x.L):=
 zbc (lv3 x.L) none (zFT h) (zaG (by simp[zaZ,zM,h]) (by rw[zcj];simp[zal,h]) (by rw[h];rfl) (by rw[h];rfl)) (by rcases x.L with _| ⟨a,_| ⟨b,_| ⟨c,r⟩⟩⟩<;>rfl) (by rcases x.L with _| ⟨a,_| ⟨b,_| ⟨c,r⟩⟩⟩<;>rfl) (by rcases x.L with _| ⟨a,_| ⟨b,_| ⟨c,r⟩⟩⟩<;>rfl) (by omega) (by omega)
theorem zIb{x:Node}(h:x.Kind=27):zbn x=(zaj x&&zS [101,98] none x.L):=
 zbc [101,98] none (zFq h) (zaG (by simp[zaZ,zM,h]) (by rw[zcj];simp[zal,h]) (by rw[h];rfl) (by rw[h];rfl)) (rfl) (rfl) (rfl) (by omega) (by omega)
theorem zHJ{x:Node}(h:x.Kind=28):zbn x=(zaj x&&zS [98,101] none x.L):=
 zbc [98,101] none (zGh h) (zaG (by simp[zaZ,zM,h]) (by rw[zcj];simp[zal,h]) (by rw[h];rfl) (by rw[h];rfl)) (rfl) (rfl) (rfl) (by omega) (by omega)
theorem zHD{x:Node}(h:x.Kind=29):zbn x=(zaj x&&zS [118,102,102,98] none x.L):=
 zbc [118,102,102,98] none (zE7 h) (zaG (by simp[zaZ,zM,h]) (by rw[zcj];simp[zal,h]) (by rw[h];rfl) (by rw[h];rfl)) (rfl) (rfl) (rfl) (by omega) (by omega)
theorem zIj{x:Node}(h:x.Kind=30):zbn x=(zaj x&&zS [119,101,98] none x.L):=
 zbc [119,101,98] none (zGl h) (zaG (by simp[zaZ,zM,h]) (by rw[zcj];simp[zal,h]) (by rw[h];rfl) (by rw[h];rfl)) (rfl) (rfl) (rfl) (by omega) (by omega)
theorem zHm{x:Node}(h:x.Kind=31):zbn x=(zaj x&&zS [] none x.L):=
 zbc [] none (zGL h) (zaG (by simp[zaZ,zM,h]) (by rw[zcj];simp[zal,h]) (by rw[h];rfl) (by rw[h];rfl)) (rfl) (rfl) (rfl) (by omega) (by omega)
theorem zIc{x:Node}(h:x.Kind=32):zbn x=(zaj x&&zS [] none x.L):=
 zbc [] none (zFO h) (zaG (by simp[zaZ,zM,h]) (by rw[zcj];simp[zal,h]) (by rw[h];rfl) (by rw[h];rfl)) (rfl) (rfl) (rfl) (by omega) (by omega)
theorem zHy{x:Node}(h:x.Kind=33):zbn x=(zaj x&&zS (lv1 x.L) none x.L):=
 zbc (lv1 x.L) none (zGZ h) (zaG (by simp[zaZ,zM,h]) (by rw[zcj];simp[zal,h]) (by rw[h];rfl) (by rw[h];rfl)) (by rcases x.L with _| ⟨a,_| ⟨b,_| ⟨c,r⟩⟩⟩<;>rfl) (by rcases x.L with _| ⟨a,_| ⟨b,_| ⟨c,r⟩⟩⟩<;>rfl) (by rcases x.L with _| ⟨a,_| ⟨b,_| ⟨c,r⟩⟩⟩<;>rfl) (by omega) (by omega)
theorem zHQ{x:Node}(h:x.Kind=34):zbn x=(zaj x&&zS [101] none x.L):=
 zbc [101] none (zGJ h) (zaG (by simp[zaZ,zM,h]) (by rw[zcj];simp[zal,h]) (by rw[h];rfl) (by rw[h];rfl)) (rfl) (rfl) (rfl) (by omega) (by omega)
theorem zIB{x:Node}(h:x.Kind=37):zbn x=(zaj x&&zS [102] (some 115) x.L):=
 zbc [102] (some 115) (zHd h) (zaG (by simp[zaZ,zM,h]) (by rw[zcj];simp[zal,h]) (by rw[h];rfl) (by rw[h];rfl)) (rfl) (rfl) (rfl) (by omega) (by omega)
theorem zHR{x:Node}(h:x.Kind=38):zbn x=(zaj x&&zS [115] none x.L):=
 zbc [115] none (zGO h) (zaG (by simp[zaZ,zM,h]) (by rw[zcj];simp[zal,h]) (by rw[h];rfl) (by rw[h];rfl)) (rfl) (rfl) (rfl) (by omega) (by omega)
theorem zHH{x:Node}(h:x.Kind=39):zbn x=(zaj x&&zS [] (some 120) x.L):=
 zbc [] (some 120) (zGK h) (zaG (by simp[zaZ,zM,h]) (by rw[zcj];simp[zal,h]) (by rw[h];rfl) (by rw[h];rfl)) (rfl) (rfl) (rfl) (by omega) (by omega)
theorem zHv{x:Node}(h:x.Kind=41):zbn x=(zaj x&&zS [] (some 120) x.L):=
 zbc [] (some 120) (zGs h) (zaG (by simp[zaZ,zM,h]) (by rw[zcj];simp[zal,h]) (by rw[h];rfl) (by rw[h];rfl)) (rfl) (rfl) (rfl) (by omega) (by omega)
theorem zGD{x:Node}(h:x.Kind=35)(hl: ∃a b c,x.L=[a,b,c]):zvU x ⟨[99],0,false,false,[98,99,99]⟩=zaj x:=by
 obtain⟨a,b,c,hl⟩:=hl;exact zaG (by simp[zaZ,zM,h,hl]) (by rw[zcj];simp[zal,h]) (by rw[h];rfl) (by rw[h];rfl)
def zzk(l:List Node):Bool:=match l with
 | [a,b,c]=>(zF a 98&&(zF b 99&&zF c 99))&& !(b.Kind==42&&c.Kind==42)
 |_=>false
theorem zHK{x:Node}(h:x.Kind=35):zbn x=(zaj x&&zzk x.L):=by
 rw[zwJ];unfold zxW;rw[zFY h];simp only;have he: ∀k,zij x k=(k.Kind==42):=λk=>by simp[zij,h]
 by_cases hl: ∃a b c,x.L=[a,b,c]
 ·rw[zGD h hl];obtain⟨a,b,c,hl⟩:=hl;have e1:zl9 x [98,99,99]=true:=by simp[zl9,hl,zox]
  rw[e1,Bool.and_true,hl];have e2:zox [98,99,99]++zBj [98,99,99]=[98,99,99]:=rfl;rw[e2];cases zaj x with
  |false=>rfl
  |true=>
   simp only[Bool.true_and,zlS,zjO,zzk,he]
   have ea:zF a 98=true->(a.Kind==42)=false:=λh=>by
    simp only[zF,qz4]at h;have h1:(a.Kind==25)=true:=h.1;rw[yH];simp only[beq_iff_eq]at h1;omega
   have l0:([98,99,99]:Str)[min 0 (([98,99,99]:Str).length -1)]? =some 98:=rfl;have l1:([98,99,99]:Str)[min (0+1) (([98,99,99]:Str).length -1)]? =some 99:=rfl;have l2:([98,99,99]:Str)[min (0+1+1) (([98,99,99]:Str).length -1)]? =some 99:=rfl;rw[l0,l1,l2];have o1: ∀(y:Node) (c:UInt8),(isP y ((c.toNat:Nat):Int)&&zbn y)=zF y c:=λ_ _=>rfl
   simp only[o1];cases ha:zF a 98 with
   |false=>rfl
   |true=>
    rw[ea ha];cases zF b 99<;>cases zF c 99<;>cases b.Kind==42<;>cases c.Kind==42<;>rfl
 ·have e1:zl9 x [98,99,99]=false:=by
   rw[Bool.eq_false_iff];intro hm;simp only[zl9,qz4,yQ,yT]at hm
   have h3:x.L.length=3:=by
    have a1:(zox [98,99,99]).length=3:=rfl;have a2:([98,99,99]:Str).contains 42=false:=rfl;rw[a1,a2]at hm;rcases hm with⟨h1,h2|h2⟩
    ·cases h2
    ·omega
   exact hl (by
    rcases hL:x.L with _| ⟨a,_| ⟨b,_| ⟨c,_| ⟨d,r⟩⟩⟩⟩<;>rw[hL]at h3<;>simp at h3
    exact⟨a,b,c,rfl⟩)
  rw[e1,Bool.and_false,Bool.false_and]
  have:zzk x.L=false:=by
   unfold zzk;split
   ·rename_i a b c hL;exact absurd ⟨a,b,c,hL⟩ hl
   ·rfl
  rw[this,Bool.and_false]
def zxL(k:Node):Bool:=match k.L with
 |y::_=>y.Kind==42
 | []=>false
def ziJ:List Node->Nat->Bool
 | [],e=>decide (e<2)
 |k::r,e=>zF k 107&&ziJ r (if zxL k=true then e+1 else e)
def ztU(l:List Node):Bool:=match l with
 |a::r=>zF a 101&&ziJ r 0
 | []=>false
theorem zvV{x:Node}(h:x.Kind=36): ∀(r:List Node) (i e:Nat),1<=i->zjO x [101,107] (zlS r) i e=ziJ r e
 | [],i,e,hi=>rfl
 |k::r,i,e,hi=>by
  simp only[zlS,zjO,ziJ];rw[show min i (([101,107]:Str).length -1)=1 by simp only[qz3,qz6];omega]
  simp only[List.getElem?_cons_succ,List.getElem?_cons_zero];show(zF k 107&&_)=_;cases ho:zF k 107 with
  |false=>rfl
  |true=>
   have hk:k.Kind=37:=by
    simp only[zF,qz4]at ho;have h1:(k.Kind==37)=true:=ho.1;simpa using h1
   have:zij x k=zxL k:=by cases hL:k.L<;>simp[zij,zxL,h,hk,hL]
   rw[this,zvV h r (i+1) _ (by omega)]
theorem zHp{x:Node}(h:x.Kind=36):zbn x=(zaj x&&ztU x.L):=by
 rw[zwJ];unfold zxW;rw[zFb h];simp only;rw[zaG (f:=⟨[],0,false,false,[101,42,107]⟩) (by simp[zaZ,zM,h]) (by rw[zcj];simp[zal,h]) (by rw[h];rfl) (by rw[h];rfl)]
 have e2:zox [101,42,107]++zBj [101,42,107]=[101,107]:=rfl;rw[e2];cases zaj x with
 |false=>rfl
 |true=>
  rcases hL:x.L with _| ⟨a,r⟩
  ·simp[zl9,hL,zox,ztU]
  ·have e1:zl9 x [101,42,107]=true:=by simp[zl9,hL,zox]
   rw[e1];simp only[Bool.true_and,zlS,zjO,ztU];have l0:([101,107]:Str)[min 0 (([101,107]:Str).length -1)]? =some 101:=rfl;rw[l0];show(zF a 101&&_)=_;cases ho:zF a 101 with
   |false=>rfl
   |true=>
    have hk:zms a.Kind=true:=by
     simp only[zF,qz4]at ho;exact ho.1
    have:zij x a=false:=by
     simp only[zms,qz4,yT]at hk;have h2:(a.Kind==37)=false:=by rw[yH];omega
     simp[zij,h,h2]
    simp only[this,qz2,yA,zvV h r (0+1) 0 (by omega)]
theorem zIn(y:Node):zF y 101=(zms y.Kind&&zbn y):=rfl
end Go.D08
namespace Go.Gw
end Go.Gw
namespace Go.D08
open Go Go.Gw Go.Dn
set_option maxRecDepth 100000
section
variable {g:zB}
end
theorem zg8{y:Node}{c:UInt8}(h:zF y c=true):zbn y=true:=by
 unfold zF at h;rw[qz4]at h;exact h.2
theorem ztG{y:Node}(h:zF y 101=true):zms y.Kind=true/\zbn y=true:=by
 rw[zIn,qz4]at h;exact h
section
variable {g:zB} {n:Nat}
theorem fmt10(i:Int)(h1:0<=i)(h2:i<=9007199254740991):zdx i 10=some (Lib.itoa i,()):=by
 have:zb5 i 10=some (Lib.itoa i):=by
  unfold zb5;rw[yK (by decide),yL ⟨by omega,by omega,rfl⟩]
 unfold zdx;rw[this];rfl
end
def Ok{α:Type}(f:Nat->PR α)(v:α×zD):Prop:=∃N,∀n,N<=n->f n=gt v
theorem Ok.ret{α:Type}(v:α×zD):Ok (λ_=>gt v) v:=⟨0,λ_ _=>rfl⟩
theorem Ok.up{α:Type}{f g:Nat->PR α}{v:α×zD}(hg:Ok g v)(h: ∀n,f (n+1)=g n):Ok f v:=by
 obtain⟨N,hN⟩:=hg;refine⟨N+1,λn hn=>?_⟩
 match n,hn with
 |m+1,hn=>exact(h m).trans (hN m (by omega))
theorem Ok.bind{α β:Type}{f:Nat->PR α}{g:α×zD->Nat->PR β}{a:α×zD}{b:β×zD}(h1:Ok f a)(h2:Ok (g a) b):Ok (λn=>(f n).bd λq=>g q n) b:=by
 obtain⟨N,hN⟩:=h1;obtain⟨M,hM⟩:=h2;refine⟨N+M,λn hn=>?_⟩;show(f n).bd _=_;rw[hN n (by omega)];exact hM n (by omega)
theorem Ok.uniq{α:Type}{f:Nat->PR α}{v w:α×zD}(h1:Ok f v)(h2:Ok f w):v=w:=by
 obtain⟨N,hN⟩:=h1;obtain⟨M,hM⟩:=h2;have e1:=hN (N+M) (by omega);have e2:=hM (N+M) (by omega);rw[e1]at e2;exact Sum.inr.inj (yS e2)
theorem Ok.eq{α:Type}{f g:Nat->PR α}{v:α×zD}(h:Ok g v)(e:f=g):Ok f v:=e▸h
abbrev FUNC(k:Int)(t:zD)(v:Node×zD):Prop:=Ok (λn=>(pG n).func k t) v
abbrev zJs(t:zD)(v:Node×zD):Prop:=Ok (λn=>(pG n).stmt t) v
abbrev zfG(f:Bool)(t:zD)(v:List Node×zD):Prop:=Ok (λn=>(pG n).stmts f t) v
section
variable {no calls last:Bool} {t t1 t2 t3 t4 t5:zD} {x y z:Node} {v:Node×zD} {l l1 l2:List Node} {least:Int} {s:Str}
structure zJu (a:Tok) (w:Str):Prop where
 op:opK a=true
 text:a.text=w
end
section
variable {g:zB} {n:Nat}
end
theorem zu3{y:Node}{c:UInt8}(h:zF y c=true):isP y ((c.toNat:Nat):Int)=true:=by
 unfold zF at h;rw[qz4]at h;exact h.1
section
variable {g:zB} {n:Nat}
end
def zJD:List Str:=[[40],[41],[91],[93],[123],[125],[46],[44],[58],[59],[63],[116,104,105,115],[110,117,108,108],[116,114,117,101],[102,97,108,115,101],[102,117,110,99,116,105,111,110],[110,101,119],[45],[43],[33],[116,121,112,101,111,102],[100,101,108,101,116,101],[118,111,105,100],[43,43],[45,45],[42],[47],[37],[60],[62],[60,61],[62,61],[61,61],[33,61],[61,61,61],[33,61,61],[105,110],[105,110,115,116,97,110,99,101,111,102],[38,38],[124,124],[61],[43,61],[45,61],[42,61],[47,61],[37,61],[118,97,114],[105,102],[101,108,115,101],[119,104,105,108,101],[100,111],[102,111,114],[98,114,101,97,107],[99,111,110,116,105,110,117,101],[114,101,116,117,114,110],[116,104,114,111,119],[116,114,121],[99,97,116,99,104],[102,105,110,97,108,108,121],[115,119,105,116,99,104],[99,97,115,101],[100,101,102,97,117,108,116]]
structure Cls (c:Str->Tok):Prop where
 op: ∀w∈zJD,zJu (c w) w
 name: ∀s,zbL s=true->(c s).kind=1/\(c s).text=s
 ident: ∀s,zj5 s=true->((c s).kind=1\/(c s).kind=2)/\(c s).text=s
 num: ∀n:Int,0<=n->n<=9007199254740991->(c (Lib.itoa n)).kind=3/\(c (Lib.itoa n)).num=n
 str: ∀s,zaT s=true->s.length<=100000000->(c (zBH s)).kind=4/\(c (zBH s)).text=s
 fresh: ∀s,(c s).fresh=false
 opt: ∀s,opK (c s)=true->(c s).text=s
section
variable (c:Str->Tok)
def T(l:List Str):zD:=l.map c
variable {c}
section
variable (C:Cls c)
include C
end
end
section
variable {c:Str->Tok}
variable (C:Cls c)
include C
end
section
variable {no calls last f o:Bool} {a:Tok} {t r t1 t2 t3 t4 t5:zD} {x y z b d:Node} {v:Node×zD} {l l1 l2:List Node} {s w:Str} {k:Int}
theorem zt4(h:(tIs [125] t||zI t==0)=true):zfG f t ([],t):=
 (Ok.ret _).up λn=>by show zbs (pG n) f t=_;unfold zbs;rw[yL h]
theorem zAd(h:(tIs [125] t||zI t==0)=false)(h':(f&&tIs [102,117,110,99,116,105,111,110] t)=false)(h1:zJs t (x,t1))(h2:zfG f t1 (l,t2)):zfG f t (x::l,t2):=
 (h1.bind (g:=λx n=>((pG n).stmts f x.2).bd λl=>gt (x.1::l.1,l.2)) (h2.bind (g:=λq _=>gt (x::q.1,q.2)) (Ok.ret _))).up λn=>by
  show zbs (pG n) f t=_;unfold zbs;rw[yK (by rw[h];decide),yK (by rw[h'];decide)]
theorem zAz(h:(tIs [125] t||zI t==0)=false)(h':tIs [102,117,110,99,116,105,111,110] t=true)(h1:FUNC 39 t.tail (x,t1))(h2:zfG true t1 (l,t2)):zfG true t (x::l,t2):=
 (h1.bind (g:=λx n=>((pG n).stmts true x.2).bd λl=>gt (x.1::l.1,l.2)) (h2.bind (g:=λq _=>gt (x::q.1,q.2)) (Ok.ret _))).up λn=>by
  show zbs (pG n) true t=_;unfold zbs;rw[yK (by rw[h];decide),yL (by rw[h'];rfl)]
end
section
variable (c:Str->Tok)
variable {c}
variable (C:Cls c)
include C
end
section
variable (c:Str->Tok)
variable {c:Str->Tok}
variable (C:Cls c)
include C
end
section
variable {g:zB} {n:Nat}
end
noncomputable section
def wt(l:List Str):Nat:=(l.map λs=>s.length+1).sum
end
section
variable (c:Str->Tok)
variable {c}
variable (C:Cls c)
include C
def zCy:Tok:=⟨0,[],0,false⟩
end
def zDD(s:Str):Nat:=s.foldl (λa c=>a*10+(c.toNat -48)) 0
theorem zvb: ∀(k u:Nat),u<k->zDD (Lib.decDigits u)=u/\(∀c∈Lib.decDigits u,zlf c=true)/\Lib.decDigits u≠[]
 |0,u,h=>by omega
 |k+1,u,h=>by
  have hd: ∀d,d<10->(UInt8.ofNat (48+d)).toNat=48+d:=λd hd=>by rw[UInt8.toNat_ofNat'];omega
  have hdig: ∀d,d<10->zlf (UInt8.ofNat (48+d))=true:=λd h=>by unfold zlf;rw[hd d h];simp;omega
  rw[Lib.decDigits];split
  ·rename_i hu;refine⟨?_,?_,by simp⟩
   ·unfold zDD;simp only[List.foldl_cons,List.foldl_nil];rw[hd u hu];omega
   ·intro c hc;rw[List.mem_singleton.1 hc];exact hdig u hu
  ·rename_i hu;obtain⟨h1,h2,h3⟩:=zvb k (u/10) (by omega);refine⟨?_,?_,by simp⟩
   ·unfold zDD at h1⊢;rw[List.foldl_append,h1];simp only[List.foldl_cons,List.foldl_nil];rw[hd _ (by omega)];omega
   ·intro c hc;rcases List.mem_append.1 hc with hc|hc
    ·exact h2 c hc
    ·rw[List.mem_singleton.1 hc];exact hdig _ (by omega)
theorem zzF(n:Int)(h:0<=n):Lib.itoa n=Lib.decDigits n.toNat:=by unfold Lib.itoa;rw[yK (by omega)]
end Go.D08
