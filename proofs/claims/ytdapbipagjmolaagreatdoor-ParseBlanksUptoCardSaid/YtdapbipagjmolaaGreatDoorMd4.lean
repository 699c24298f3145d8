/- Texts for a statement of this seat. -/
import Derived.Test.YtdapbipagjmolaaGreatDoorMd3
import Derived.Lib.ItoaLen
set_option linter.unusedSectionVars false
set_option linter.unusedVariables false
set_option linter.unusedSimpArgs false
set_option linter.unnecessarySimpa false
namespace Go.D08.U
open Go Go.Gw Go.Dn Go.Proofs
set_option maxRecDepth 100000
def enc1(n:Nat):Str:=[UInt8.ofNat (n/256),UInt8.ofNat (n%256)]
def zbZ(l:List Nat):Str:=l.flatMap enc1
theorem zgA(l:List Nat):(zbZ l).length=2*l.length:=by
 induction l with
 |nil=>rfl
 |cons n l ih=>unfold zbZ at ih⊢;rw[List.flatMap_cons,qz5,ih];simp[enc1];omega
theorem zCO(l m:List Nat):zbZ (l++m)=zbZ l++zbZ m:=by simp[zbZ]
def zdI(l:List Nat):List Int:=l.map Int.ofNat
def hexV(b:UInt8):Option Nat:=
 if 48<=b.toNat/\b.toNat<=57 then some (b.toNat -48)else if 97<=b.toNat/\b.toNat<=102 then some (b.toNat -87)else if 65<=b.toNat/\b.toNat<=70 then some (b.toNat -55)else none
def hexN:Nat->Str->Nat->Option Nat
 |0,_,a=>some a
 |_+1,[],_=>none
 |k+1,b::r,a=>match hexV b with
  |none=>none
  |some d=>hexN k r (16*a+d)
theorem zwe{b:UInt8}{d:Nat}(h:hexV b=some d):d<16:=by
 unfold hexV at h;split at h
 ·simp only[Option.some.injEq]at h;omega
 ·split at h
  ·simp only[Option.some.injEq]at h;omega
  ·split at h
   ·simp only[Option.some.injEq]at h;omega
   ·cases h
theorem zr2: ∀(k:Nat) (s:Str) (a n:Nat),hexN k s a=some n->n<16^k*(a+1)
 |0,s,a,n,h=>by simp only[hexN,Option.some.injEq]at h;omega
 |k+1,[],a,n,h=>by cases h
 |k+1,b::r,a,n,h=>by
  simp only[hexN]at h;cases hv:hexV b with
  |none=>rw[hv]at h;cases h
  |some d=>
   rw[hv]at h;have h1:=zr2 k r _ n h;have h2:=zwe hv;have h3:16^k*(16*a+d+1)<=16^k*(16*(a+1)):=Nat.mul_le_mul_left _ (by omega);have h4:16^(k+1)*(a+1)=16^k*(16*(a+1)):=by rw[Nat.pow_succ,Nat.mul_assoc]
   omega
def zg7(b:UInt8):Option Nat:=
 if b=110 then some 10 else if b=116 then some 9 else if b=114 then some 13 else if b=98 then some 8 else if b=102 then some 12 else if b=118 then some 11
 else if b.toNat>127\/b=13\/b=120\/b=117\/(48<=b.toNat/\b.toNat<=57)\/b=10 then none else some b.toNat
def zhe:Str->Option (List Nat×Nat)
 | []=>none
 |c::r=>
  if c=10 then some ([],1)
  else if c=48 then(match r with
   | []=>some ([0],1)
   |d::_=>if 48<=d.toNat/\d.toNat<=57 then none else some ([0],1))
  else if c=120 then(hexN 2 r 0).map λn=>([n],3)
  else if c=117 then(hexN 4 r 0).map λn=>([n],5)
  else(zg7 c).map λn=>([n],1)
theorem zsr: ∀(k:Nat) (s:Str) (a n:Nat),hexN k s a=some n->k<=s.length
 |0,s,a,n,h=>by omega
 |k+1,[],a,n,h=>by cases h
 |k+1,b::r,a,n,h=>by
  simp only[hexN]at h;cases hv:hexV b with
  |none=>rw[hv]at h;cases h
  |some d=>rw[hv]at h;have:=zsr k r _ n h;simp only[qz3];omega
theorem zDW{b:UInt8}{n:Nat}(h:zg7 b=some n):n<256:=by
 have hb:=b.toNat_lt;unfold zg7 at h
 repeat' split at h
 all_goals first| (cases h;done)| (simp only[Option.some.injEq]at h;omega)
theorem zmL{s:Str}{us:List Nat}{k:Nat}(h:zhe s=some (us,k)):(∀n∈us,n<65536)/\us.length<=1/\1<=k/\k<=s.length:=by
 cases s with
 |nil=>cases h
 |cons c r=>
  simp only[zhe]at h;by_cases h1:c=10
  ·rw[yL h1]at h;cases h;simp
  ·rw[yK h1]at h;by_cases h2:c=48
   ·rw[yL h2]at h;cases r with
    |nil=>cases h;simp
    |cons d r=>
     simp only at h;split at h
     ·cases h
     ·cases h;simp
   ·rw[yK h2]at h;by_cases h3:c=120
    ·rw[yL h3]at h;cases hn:hexN 2 r 0 with
     |none=>rw[hn]at h;cases h
     |some n=>
      rw[hn]at h;cases h;have:=zr2 _ _ _ _ hn;have:=zsr _ _ _ _ hn;simp;omega
    ·rw[yK h3]at h;by_cases h4:c=117
     ·rw[yL h4]at h;cases hn:hexN 4 r 0 with
      |none=>rw[hn]at h;cases h
      |some n=>
       rw[hn]at h;cases h;have:=zr2 _ _ _ _ hn;have:=zsr _ _ _ _ hn;simp;omega
     ·rw[yK h4]at h;cases hn:zg7 c with
      |none=>rw[hn]at h;cases h
      |some n=>
       rw[hn]at h;cases h;have:=zDW hn;simp;omega
/-! ### the program's digits -/
theorem zgO{α:Type}(p:α->Bool): ∀l:List α,l.dropWhile p=[]↔∀x∈l,p x=true
 | []=>by simp
 |a::l=>by
  cases h:p a with
  |true=>rw[List.dropWhile_cons_of_pos h,zgO p l];simp[h]
  |false=>
   rw[List.dropWhile_cons_of_neg (by simp[h])];simp[h]
theorem zma{α:Type}(p:α->Bool): ∀(l:List α) (b:α) (r:List α),l.dropWhile p=b::r->p b=false
 | [],b,r,h=>by cases h
 |a::l,b,r,h=>by
  cases hp:p a with
  |true=>rw[List.dropWhile_cons_of_pos hp]at h;exact zma p l b r h
  |false=>
   rw[List.dropWhile_cons_of_neg (by simp[hp])]at h;cases h;exact hp
theorem zED(l cs:Str):(Lib.trimS l cs==([]:Str))=l.all (cs.contains ·):=by
 unfold Lib.trimS Lib.trimLeftS Lib.trimRightS;rw[Bool.eq_iff_iff];rw[beq_iff_eq,zgO,List.all_eq_true];constructor
 ·intro h;rcases hd:l.reverse.dropWhile (cs.contains ·)with _| ⟨b,r⟩
  ·rw[zgO]at hd;intro x hx;exact hd x (by simpa using hx)
  ·exfalso;have h1:=zma _ _ _ _ hd;have h2:=h b (by rw[hd];simp)
   rw[h1]at h2;cases h2
 ·intro h x hx;have:=(List.dropWhile_suffix (cs.contains ·) (l:=l.reverse)).subset (by simpa using hx);exact h x (by simpa using this)
def zAW:Str:=[48,49,50,51,52,53,54,55,56,57,97,98,99,100,101,102,65,66,67,68,69,70]
theorem zFt: ∀b:Fin 256,zAW.contains (UInt8.ofNat b.val)=(hexV (UInt8.ofNat b.val)).isSome:=by decide+kernel
theorem zLG(b:UInt8): ∃k:Fin 256,b=UInt8.ofNat k.val:=⟨⟨b.toNat,b.toNat_lt⟩,by simp⟩
theorem zBE(b:UInt8):zAW.contains b=(hexV b).isSome:=by
 obtain⟨k,rfl⟩:=zLG b;exact zFt k
theorem zwT: ∀(s:Str) (a:Nat),(hexN s.length s a).isSome=s.all (zAW.contains ·)
 | [],a=>rfl
 |b::r,a=>by
  simp only[qz3,hexN,List.all_cons,zBE];cases hv:hexV b with
  |none=>simp
  |some d=>
   simp only[Option.isSome_some,Bool.true_and];rw[zwT r];congr 1;funext x;exact zBE x
theorem zu6: ∀(k:Nat) (s:Str) (a:Nat),k<=s.length->hexN k (s.take k) a=hexN k s a
 |0,s,a,_=>rfl
 |k+1,[],a,h=>by simp at h
 |k+1,b::r,a,h=>by
  simp only[List.take_succ_cons,hexN];cases hexV b with
  |none=>rfl
  |some d=>simp only;exact zu6 k r _ (by simpa using h)
def zcd(q:UInt8):Nat->Str->List Nat->Option (List Nat×Nat)
 |0,_,_=>none
 |_+1,[],_=>none
 |m+1,c::r,acc=>
  if c=q then some (acc,r.length)
  else if c=10\/c=13\/c.toNat>127 then none
  else if c=92 then(match zhe r with
   |none=>none
   |some (us,k)=>zcd q m (r.drop k) (acc++us))
  else zcd q m r (acc++[c.toNat])
def zbs(s:Str):Str×Int×Int:=
 match s with
 | []=>([],0,10)
 |q::r=>if q=39\/q=34 then(match zcd q (r.length+1) r []with
   |none=>([],0,10)
   |some (us,k)=>(zbZ us,((s.length -k:Nat):Int),0))else([],0,10)
theorem zkp(b:UInt8)(n:Nat)(h:n<256):b=UInt8.ofNat n↔b.toNat=n:=by
 constructor
 ·intro e;subst e;simp[UInt8.toNat_ofNat'];omega
 ·intro e;apply UInt8.toNat_inj.mp;simp[UInt8.toNat_ofNat'];omega
theorem zgK(a b:Nat):(((a:Nat):Int)==((b:Nat):Int))=decide (a=b):=by
 by_cases h:a=b
 ·simp[h]
 ·simp[h];omega
def okU(l:List Nat):Prop:=∀n∈l,n<65536
def zeJ(q:UInt8)(s:Str)(m:Nat)(rest:Str)(acc:List Nat):Str×Int×Int:=match zcd q m rest acc with
 |none=>([],0,10)
 |some (us,k)=>(zbZ us,((s.length -k:Nat):Int),0)
theorem zEM(c:UInt8)(n:Nat)(h:n<256):(((c.toNat:Nat):Int) !=((n:Nat):Int))= !decide (c=UInt8.ofNat n):=by
 simp only[bne,zgK];congr 1;rw[decide_eq_decide];exact(zkp c n h).symm
end Go.D08.U
namespace Go.D08.U
open Go Go.Gw Go.Dn Go.Proofs
set_option maxRecDepth 100000
open Go.Proofs
/-! ### numbers, signs, tokens -/
def zcl(base:Nat):Str->Nat->Option Nat
 | [],a=>some a
 |c::r,a=>match hexV c with
  |none=>none
  |some d=>if d<base then zcl base r (a*base+d)else none
def zvv(ds:Str):Option Nat:=
 if 2<ds.length/\(ds.take 2=[48,120]\/ds.take 2=[48,88])then zcl 16 (ds.drop 2) 0
 else if 1<ds.length/\ds.head?=some 48 then none
 else zcl 10 ds 0
def zeG(s:Str):Option (Nat×Nat):=
 if s[zI s]? =some 46 then none
 else match zvv (s.take (zI s))with
  |none=>none
  |some n=>if n<=9007199254740991 then some (n,zI s)else none
def zgt:List Str:=[[61,61,61],[33,61,61]]
def zgT:List Str:=[[60,61],[62,61],[61,61],[33,61],[43,43],[45,45],[38,38],[124,124],[43,61],[45,61],[42,61],[47,61],[37,61]]
def zmh:Str:=[123,125,40,41,91,93,46,59,44,60,62,43,45,42,47,37,33,63,58,61]
def zba(s:Str):Nat:=
 if 2<s.length/\zgt.contains (s.take 3)=true then 3
 else if 1<s.length/\zgT.contains (s.take 2)=true then 2
 else if zmh.contains (s.headD 0)then 1 else 0
def zek:List Str:=[[98,114,101,97,107],[99,97,115,101],[99,97,116,99,104],[99,108,97,115,115],[99,111,110,115,116],[99,111,110,116,105,110,117,101],[100,101,98,117,103,103,101,114],[100,101,102,97,117,108,116],[100,101,108,101,116,101],[100,111],[101,108,115,101],[101,110,117,109],[101,120,112,111,114,116],[101,120,116,101,110,100,115],[102,97,108,115,101],[102,105,110,97,108,108,121],[102,111,114],[102,117,110,99,116,105,111,110],[105,102],[105,109,112,108,101,109,101,110,116,115],[105,109,112,111,114,116],[105,110],[105,110,115,116,97,110,99,101,111,102],[105,110,116,101,114,102,97,99,101],[108,101,116],[110,101,119],[110,117,108,108],[112,97,99,107,97,103,101],[112,114,105,118,97,116,101],[112,114,111,116,101,99,116,101,100],[112,117,98,108,105,99],[114,101,116,117,114,110],[115,116,97,116,105,99],[115,117,112,101,114],[115,119,105,116,99,104],[116,104,105,115],[116,104,114,111,119],[116,114,117,101],[116,114,121],[116,121,112,101,111,102],[118,97,114],[118,111,105,100],[119,104,105,108,101],[119,105,116,104],[121,105,101,108,100]]
def zky(s:Str):Bool:=zek.contains s
abbrev Tok:=zk
def zdp(s:Str):Option (Tok×Nat):=
 match s with
 | []=>none
 |c::_=>
  if isLet c=true then
    if 32<zI s then none else some ({Kind:=if zky (s.take (zI s))=true then 2 else 1,Text:=s.take (zI s),Num:=0,At:=0,Fresh:=false},zI s)
  else if zgQ c=true then(zeG s).map λp=>({Kind:=3,Text:=[],Num:=(p.1:Int),At:=0,Fresh:=false},p.2)
  else if c=39\/c=34 then
    (match zbs s with
    | (u,n,_)=>if n=0 then none else some ({Kind:=4,Text:=u,Num:=0,At:=0,Fresh:=false},n.toNat))
  else if zba s=0 then none else some ({Kind:=5,Text:=s.take (zba s),Num:=0,At:=0,Fresh:=false},zba s)
def zmV(f:Bool):Tok:={Kind:=0,Text:=[],Num:=0,At:=0,Fresh:=f}
def Tok.fresh(t:Tok)(f:Bool):Tok:={t with Fresh:=f}
def Tok.at_(t:Tok)(n:Int):Tok:={t with At:=n}
def zch:Nat->Str->Bool->List (Tok×Nat)⊕Nat
 |0,_,_=> .inr 0
 |m+1,s,f=>match zT (s.length+1) s f with
  | (r,f',ok)=>
    if ok=false then .inr r.length
    else if r=[]then .inl [(zmV f',0)]
    else match zdp r with
      |none=> .inr r.length
      |some (t,n)=>match zch m (r.drop n) false with
        | .inl l=> .inl ((t.fresh f',r.length)::l)
        | .inr k=> .inr k
def zci(len:Nat)(l:List (Tok×Nat)):List Tok:=l.map λp=>p.1.at_ ((len -p.2:Nat):Int)
def zaX(s:Str):List Tok×Int×Int:=
 if 4096<s.length then([],0,2)
 else match zch (s.length+1) s false with
  | .inl l=>(zci s.length l,0,0)
  | .inr k=>([],((s.length -k:Nat):Int),60)
/-! ### how much a token takes -/
theorem zsk{s:Str}{n k:Nat}(h:zeG s=some (n,k)):k=zI s:=by
 unfold zeG at h;split at h
 ·cases h
 ·split at h
  · cases h
  · split at h
    · cases h;rfl
    · cases h
theorem zj9(q:UInt8): ∀(m:Nat) (r:Str) (acc us:List Nat) (k:Nat),zcd q m r acc=some (us,k)->k<r.length
 |0,_,_,_,_,h=>by cases h
 |m+1,[],_,_,_,h=>by cases h
 |m+1,c::r,acc,us,k,h=>by
  unfold zcd at h;split at h
  · cases h;simp
  · split at h
    · cases h
    · split at h
      · split at h
        ·cases h
        ·rename_i us' k' _;have:=zj9 q m _ _ _ _ h;simp only[List.length_drop,qz3]at this⊢;omega
      · have:=zj9 q m _ _ _ _ h;simp only[qz3];omega
theorem zvY{s:Str}{u:Str}{n e:Int}(h:zbs s=(u,n,e)):0<=n/\n<=(s.length:Int):=by
 unfold zbs at h;split at h
 ·cases h;simp
 ·rename_i q r;split at h
  · split at h
    · cases h;constructor<;>omega
    · cases h;constructor<;>omega
  · cases h;constructor<;>omega
theorem zl5(c:UInt8)(r:Str):zba (c::r)<=(c::r).length:=by
 unfold zba;split
 ·rename_i h;simp only[qz3]at h⊢;omega
 ·split
  · rename_i h;simp only[qz3]at h⊢;omega
  · split<;>simp
theorem zgG{s:Str}{t:Tok}{n:Nat}(h:zdp s=some (t,n)):1<=n/\n<=s.length/\1<=t.Kind/\t.Kind<=5/\t.At=0/\t.Fresh=false:=by
 unfold zdp at h;split at h
 ·cases h
 ·rename_i c r;have hrow:=zhb (c::r);have hr1:zcU c=true->1<=zI (c::r):=λe=>by rw[zbw,yL e];omega
  split at h
  · rename_i hl;split at h
    · cases h
    · cases h;have:=hr1 (by simp[zcU,hl]);refine⟨this,hrow,?_,?_,rfl,rfl⟩<;>(simp only;split<;>decide)
  · split at h
    · rename_i hd;cases hn:zeG (c::r)with
      |none=>rw[hn]at h;cases h
      |some p=>
        obtain⟨m,k⟩:=p;rw[hn]at h;cases h;have hk:=zsk hn;subst hk;exact⟨hr1 (by simp[zcU,hd]),hrow,Int.le_of_lt_add_one (by dsimp only;omega),by dsimp only;omega,rfl,rfl⟩
    · split at h
      · obtain⟨u,n',e⟩:Str×Int×Int:=zbs (c::r);generalize hq:zbs (c::r)=q at h;obtain⟨u,n',e⟩:=q;have:=zvY hq;simp only at h;split at h
        ·cases h
        ·cases h;refine⟨by omega,by omega,Int.le_of_lt_add_one (by dsimp only;omega),by dsimp only;omega,rfl,rfl⟩
      · split at h
        ·cases h
        ·cases h;exact⟨by omega,zl5 c r,Int.le_of_lt_add_one (by dsimp only;omega),by dsimp only;omega,rfl,rfl⟩
theorem znd: ∀(p s b:Str),(10:UInt8)∉p->p.isPrefixOf (s++10::b)=p.isPrefixOf s
 | [],s,b,_=>by cases s<;>rfl
 |a::p,[],b,h=>by
  simp only[yP,not_or]at h;have:(a==(10:UInt8))=false:=yH.2 (λe=>h.1 e.symm);simp[List.isPrefixOf,this]
 |a::p,c::s,b,h=>by
  simp only[yP,not_or]at h;simp only[yI,List.isPrefixOf,znd p s b h.2]
theorem zCk(b:Str): ∀(s:Str) (n:Nat),zbM s=some n->zbM (s++10::b)=some n
 | [],n,h=>by cases h
 |c::s,n,h=>by
  rw[yI,zbM,<-yI,znd _ _ _ (by decide)];rw[zbM]at h;split at h
  ·rename_i hp;rw[yL hp];exact h
  ·rename_i hp;rw[yK hp];cases he:zbM s with
   |none=>rw[he]at h;cases h
   |some k=>rw[he]at h;rw[zCk b s k he];exact h
theorem ziY: ∀(m m':Nat) (s:Str) (f:Bool),s.length<m->s.length<m'->zT m s f=zT m' s f
 |0,_,s,f,h,_=>by omega
 |_+1,0,s,f,_,h=>by omega
 |m+1,m'+1,[],f,_,_=>rfl
 |m+1,m'+1,c::r,f,h,h'=>by
  simp only[qz3]at h h';have e1: ∀f,zT m r f=zT m' r f:=λf=>ziY m m' r f (by omega) (by omega)
  have hd:([47,47]:Str).isPrefixOf (c::r)=true->zT m ((c::r).dropWhile (λx=> !zah x)) f=zT m' ((c::r).dropWhile (λx=> !zah x)) f:=by
   intro hp
   have hc:c=47:=by
    simp only[List.isPrefixOf,qz4,beq_iff_eq]at hp;exact hp.1.symm
   have hl:=zd7 (λx=> !zah x) r
   have:(c::r).dropWhile (λx=> !zah x)=r.dropWhile (λx=> !zah x):=by
    subst hc;rw[List.dropWhile_cons,yL (by decide)]
   rw[this];exact ziY m m' _ f (by omega) (by omega)
  have e2: ∀n f,zT m ((c::r).drop (n+4)) f=zT m' ((c::r).drop (n+4)) f:=by
   intro n f;have:((c::r).drop (n+4)).length<=r.length:=by simp only[List.length_drop,qz3];omega
   exact ziY m m' _ f (by omega) (by omega)
  unfold zT;rw[e1,e1];split
  ·rfl
  ·split
   ·rfl
   ·split
    ·rename_i hp;exact hd hp
    ·split
     ·split
      ·rfl
      ·exact e2 _ _
     ·rfl
theorem zjv(b:Str): ∀(m:Nat) (s:Str) (f:Bool) (r:Str) (f':Bool),s.length<m->zT m s f=(r,f',true)->∀M,(s++10::b).length<M->
  (r≠[]->zT M (s++10::b) f=(r++10::b,f',true))/\(r=[]->zT M (s++10::b) f=zT (b.length+1) b true)
 |0,s,f,r,f',h,_=>by omega
 |m+1,[],f,r,f',_,h=>by
  intro M hM;cases h;refine⟨λe=>absurd rfl e,λ_=>?_⟩;cases M with
  |zero=>omega
  |succ M=>
   rw[List.nil_append,zT,yL (by decide)];simp only[List.nil_append,qz3]at hM;exact ziY _ _ _ _ (by omega) (by omega)
 |m+1,c::s,f,r,f',hl,h=>by
  intro M hM;cases M with
  |zero=>omega
  |succ M=>
   simp only[qz3,yI]at hl hM;have hs:(s++10::b).length<M:=by omega
   rw[yI];rw[zT]at h⊢;split at h
   ·rename_i hn;rw[yL hn];exact zjv b m s true r f' (by omega) h M hs
   ·rename_i hn;rw[yK hn];split at h
    ·rename_i hb;rw[yL hb];exact zjv b m s f r f' (by omega) h M hs
    ·rename_i hb;rw[yK hb,<-yI,znd _ _ _ (by decide),znd _ _ _ (by decide)];split at h
     ·rename_i hp;rw[yL hp]
      have hc:c=47:=by
       simp only[List.isPrefixOf,qz4,beq_iff_eq]at hp;exact hp.1.symm
      have hlen:=zd7 (λx=> !zah x) s
      have e1:(c::s).dropWhile (λx=> !zah x)=s.dropWhile (λx=> !zah x):=by
       subst hc;rw[List.dropWhile_cons,yL (by decide)]
      rw[e1]at h
      have e2:(c::s++10::b).dropWhile (λx=> !zah x)=s.dropWhile (λx=> !zah x)++10::b:=by
       rw[List.dropWhile_append,e1];have e3:(10::b).dropWhile (λx=> !zah x)=10::b:=by rw[List.dropWhile_cons,yK (by decide)]
       split
       ·rename_i he;rw[e3];have:s.dropWhile (λx=> !zah x)=[]:=by simpa using he
        rw[this];rfl
       ·rfl
      rw[e2];refine zjv b m _ f r f' (by omega) h M ?_;simp only[qz5,qz3]at hs⊢;omega
     ·rename_i hp;rw[yK hp];split at h
      ·rename_i hq;rw[yL hq];split at h
       ·cases h
       ·rename_i n he;have hle:=zl7 _ _ he
        have hlen2:2<=(c::s).length:=by
         cases s with
         |nil=>simp at hle
         |cons d s=>simp
        have ed:(c::s++10::b).drop 2=(c::s).drop 2++10::b:=List.drop_append_of_le_length hlen2;simp only[List.length_drop]at hle;rw[ed,zCk b _ n he];simp only;have e4:(c::s++10::b).drop (n+4)=(c::s).drop (n+4)++10::b:=List.drop_append_of_le_length (by omega);have e5:((c::s).drop 2++10::b).take n=((c::s).drop 2).take n:=List.take_append_of_le_length (by simp only[List.length_drop];omega)
        rw[e4,e5];have hlt:((c::s).drop (n+4)).length<=s.length:=by simp only[List.length_drop,qz3];omega
        refine zjv b m _ _ r f' (by omega) h M ?_;simp only[qz5,qz3]at hs⊢;omega
      ·rename_i hq;rw[yK hq];cases h;exact⟨λ_=>rfl,λe=>by cases e⟩
/-! ### a token -/
theorem zxs(t:Str): ∀(k:Nat) (s:Str) (a n:Nat),hexN k s a=some n->hexN k (s++t) a=some n
 |0,s,a,n,h=>h
 |k+1,[],a,n,h=>by cases h
 |k+1,c::s,a,n,h=>by
  simp only[hexN,yI]at h⊢;split at h
  ·cases h
  ·rename_i d hd;simp only[zxs t k s _ n h]
/-! ### the whole -/
theorem zxR: ∀(m:Nat) (s:Str) (f:Bool) (l:List (Tok×Nat)),zch m s f= .inl l->
  ∃l0 f',l=l0++[(zmV f',0)]/\(∀p∈l0,1<=p.1.Kind/\p.1.Kind<=5/\1<=p.2/\p.2<=s.length)/\l0.Pairwise (λp q=>q.2<p.2)
 |0,_,_,_,h=>by cases h
 |m+1,s,f,l,h=>by
  rw[zch]at h;have hb:=zcR (s.length+1) s f;generalize hq:zT (s.length+1) s f=q at h hb;obtain⟨r,f',ok⟩:=q;simp only at h hb;split at h
  ·cases h
  ·split at h
   ·cases h;exact⟨[],f',rfl,by simp,List.Pairwise.nil⟩
   ·split at h
    ·cases h
    ·rename_i hr t n ho;have hl:=zgG ho;split at h
     ·rename_i l' hc;cases h;obtain⟨l0,f2,rfl,h1,h2⟩:=zxR m _ _ _ hc;refine⟨(t.fresh f',r.length)::l0,f2,rfl,?_,?_⟩
      ·intro p hp;rcases yP.1 hp with rfl|hp
       ·exact⟨hl.2.2.1,hl.2.2.2.1,by simp only;omega,hb⟩
       ·have:=h1 p hp;simp only[List.length_drop]at this;exact⟨this.1,this.2.1,this.2.2.1,by omega⟩
      ·refine List.Pairwise.cons ?_ h2;intro p hp;have:=(h1 p hp).2.2.2;simp only[List.length_drop]at this⊢;omega
     ·cases h
end Go.D08.U
namespace Go.D08.U
open Go Go.Gw Go.Dn Go.Proofs
set_option maxRecDepth 100000
/-! ### blanks -/
theorem zql: ∀s:Str,(s.any zah=false/\Lib.indexAny s [10,13]= -1/\s.dropWhile (λx=> !zah x)=[])\/∃i:Nat,Lib.indexAny s [10,13]=(i:Int)/\i<=s.length/\s.any zah=true/\s.drop i=s.dropWhile (λx=> !zah x)/\(s.take i).any zah=false
 | []=> .inl ⟨rfl,rfl,rfl⟩
 |b::l=>by
  rw[Lib.indexAny];cases h:([10,13]:Str).contains b with
  |true=>
   have hb:zah b=true:=h;refine .inr ⟨0,?_,by omega,by simp[hb],?_,rfl⟩
   ·simp
   ·simp[hb]
  |false=>
   have hb:zah b=false:=h;rcases zql l with⟨h1,h2,h3⟩| ⟨i,h1,h2,h3,h4,h5⟩
   ·refine .inl ⟨by simp only[List.any_cons,hb,h1,Bool.or_self],?_,by rw[List.dropWhile_cons,yL (by simp[hb])];exact h3⟩
    rw[h2];rfl
   ·refine .inr ⟨i+1,?_,by simp;omega,by simp only[List.any_cons,h3,Bool.or_true],by rw[List.dropWhile_cons,yL (by simp[hb]),List.drop_succ_cons];exact h4,by simp only[List.take_succ_cons,List.any_cons,hb,h5,Bool.or_self]⟩
    rw[h1];have c:(((i:Nat):Int)== -1)=false:=by rw[yH];omega
    simp only[c,qz2,yA];rfl
theorem zy0(s:Str):Lib.containsAny s [10,13]=s.any zah:=by
 unfold Lib.containsAny;rcases zql s with⟨h1,h2,_⟩| ⟨i,h1,_,h3,_⟩
 ·rw[h1,h2];rfl
 ·rw[h1,h3];simp
theorem zzI: ∀(s:Str) (n:Nat),zbM s=some n->∃t,s.drop n=42::47::t
 | [],n,h=>by cases h
 |c::r,n,h=>by
  rw[zbM]at h;split at h
  ·rename_i hp;simp only[Option.some.injEq]at h;subst h;cases r with
   |nil=>simp[List.isPrefixOf]at hp
   |cons d r=>
    simp only[List.isPrefixOf,Bool.and_true,qz4,beq_iff_eq]at hp;obtain⟨rfl,rfl⟩:=hp;exact⟨r,rfl⟩
  ·cases he:zbM r with
   |none=>rw[he]at h;cases h
   |some k=>
    rw[he]at h;simp only[Option.map_some,Option.some.injEq]at h;subst h;exact zzI r k he
theorem zD4(r:Str)(n:Nat)(h:zbM r=some n):((47::42::r).take (n+4)).any zah=(r.take n).any zah:=by
 obtain⟨t,ht⟩:=zzI r n h
 have e:r.take (n+2)=r.take n++[42,47]:=by
  have h2:r.take (n+2)=r.take n++(r.drop n).take 2:=by rw[List.take_add]
  rw[h2,ht];rfl
 have e2:(47::42::r).take (n+4)=47::42::r.take (n+2):=rfl;rw[e2,e];have c1:zah 47=false:=by decide
 have c2:zah 42=false:=by decide
 simp only[List.any_cons,List.any_append,List.any_nil,c1,c2,Bool.false_or,Bool.or_false]
theorem zFg: ∀b:Fin 256,zah (UInt8.ofNat b.val)=false->¬(UInt8.ofNat b.val=32\/UInt8.ofNat b.val=9\/UInt8.ofNat b.val=11\/UInt8.ofNat b.val=12)->b.val≠32/\(b.val<9\/13<b.val):=by decide+kernel
def okN(o:Nat)(t:Str)(a:Nat):Option Nat:=match zcl o t a with
 |none=>none
 |some n=>if n<=9007199254740991 then some n else none
theorem zwX{o:Nat}(ho:1<=o): ∀(t:Str) (a n:Nat),zcl o t a=some n->a<=n
 | [],a,n,h=>by cases h;exact yJ _
 |c::r,a,n,h=>by
  simp only[zcl]at h;split at h
  ·cases h
  ·rename_i d _;split at h
   ·have:=zwX ho r _ n h;have h2:a*1<=a*o:=Nat.mul_le_mul_left a ho;omega
   ·cases h
def zgI(b:Nat):Nat:=(BitVec.ofNat 8 b|||32#8).toNat
theorem zFP: ∀b:Fin 256,za7 ((b.val:Nat):Int)=some (((zgI b.val:Nat):Int),()):=by decide+kernel
theorem zFB(c:UInt8):za7 ((c.toNat:Nat):Int)=some (((zgI c.toNat:Nat):Int),()):=zFP ⟨c.toNat,c.toNat_lt⟩
theorem zGH: ∀b:Fin 256,(48<=b.val/\b.val<=57->hexV (UInt8.ofNat b.val)=some (b.val -48))/\(¬(48<=b.val/\b.val<=57)->97<=zgI b.val->zgI b.val<=122->hexV (UInt8.ofNat b.val)=if zgI b.val -87<16 then some (zgI b.val -87)else none)/\(¬(48<=b.val/\b.val<=57)->¬(97<=zgI b.val/\zgI b.val<=122)->hexV (UInt8.ofNat b.val)=none):=by decide+kernel
theorem zyK{o:Nat}: ∀(t:Str) (a n:Nat),zcl o t a=some n->t.contains 95=false
 | [],_,_,_=>rfl
 |c::r,a,n,h=>by
  simp only[zcl]at h;split at h
  ·cases h
  ·rename_i d hd;split at h
   ·rw[List.contains_cons,zyK r _ _ h,Bool.or_false,yH];intro e;subst e;have:hexV 95=none:=by decide
    rw[this]at hd;cases hd
   ·cases h
end Go.D08.U
namespace Go.D08
open Go Go.Gw Go.Dn
instance lpI:Lp:=lpN 1000000000000
theorem zbA{S E:Type}{step:S->Option (S⊕E)}{n:Nat}{s:S}{e:E}(h:zaq step n s=some e)(hn:n<=1000000000000):Lp.loop step s=some e:=
 zx4 _ h hn
theorem zaN{S E:Type}{step:S->Option (S⊕E)}{n:Nat}{s s':S}(h:step s=some (.inl s')):zaq step (n+1) s=zaq step n s':=by simp only[zaq,h,qz1]
theorem zW{S E:Type}{step:S->Option (S⊕E)}{n:Nat}{s:S}{e:E}(h:step s=some (.inr e)):zaq step (n+1) s=some e:=by simp only[zaq,h,qz1]
abbrev Node:=zg
mutual
def zed:Node->Nat
 | ⟨_,_,_,_,_,l⟩=>zit l+1
def zit:List Node->Nat
 | []=>0
 |x::r=>max (zed x) (zit r)
end
mutual
def ziy:Node->Nat
 | ⟨_,_,_,_,_,l⟩=>zjV l+1
def zjV:List Node->Nat
 | []=>0
 |x::r=>ziy x+zjV r
end
mutual
def znx:Node->Node->Bool
 | ⟨k,n,m,t,ns,l⟩,⟨k',n',m',t',ns',l'⟩=>(k==k'&&n==n'&&m==m'&&t==t'&&ns==ns')&&zc7 l l'
def zc7:List Node->List Node->Bool
 | [],[]=>true
 |x::r,y::r'=>znx x y&&zc7 r r'
 |_,_=>false
end
theorem zsU(x:Node):zed x=zit x.L+1:=by cases x;simp[zed]
theorem zs4(x:Node):ziy x=zjV x.L+1:=by cases x;simp[ziy]
theorem zDO(x:Node)(r:List Node):zit (x::r)=max (zed x) (zit r):=by simp[zit]
mutual
theorem zvW: ∀x:Node,zed x<=ziy x
 | ⟨_,_,_,_,_,l⟩=>by simp only[zed,ziy];have:=zsz l;omega
theorem zsz: ∀l:List Node,zit l<=zjV l
 | []=>by simp[zit]
 |x::r=>by simp only[zit,zjV];have:=zvW x;have:=zsz r;omega
end
theorem zv0: ∀l:List Node,l.length<=zjV l
 | []=>by simp
 |x::r=>by simp only[zjV,qz3];have:=zv0 r;have:=zs4 x;omega
theorem zpl{x:Node}: ∀{l:List Node},x∈l->zed x<=zit l
 |y::r,h=>by
  simp only[zit];rcases yP.1 h with rfl|h
  ·omega
  ·have:=zpl h;omega
theorem zpr{x:Node}: ∀{l:List Node},x∈l->ziy x<=zjV l
 |y::r,h=>by
  simp only[zjV];rcases yP.1 h with rfl|h
  ·omega
  ·have:=zpr h;omega
theorem zi4{α:Type}{xs:List α}{i:Nat}{x:α}{r:List α}(h:xs.drop i=x::r):zL xs (i:Int)=some x/\xs.drop (i+1)=r/\i<xs.length:=by
 have hi:i<xs.length:=by
  rcases Nat.lt_or_ge i xs.length with h1|h1
  ·exact h1
  ·rw[List.drop_of_length_le h1]at h;cases h
 rw[List.drop_eq_getElem_cons hi]at h;cases h;exact⟨by rw[ze3];exact qz9 hi,rfl,hi⟩
theorem zzK(g:zdi)(l:List Node)(hg: ∀x∈l,g.zd5 x=some ((zed x:Int),()))(hb:zit l<4611686018427387904)(hl:l.length<4611686018427387904): ∀(r:List Node) (i:Nat) (m:Nat),l.drop i=r->m<4611686018427387904->
  zaq (zhg g) (r.length+1) ((m:Int),l,((l.length:Nat):Int),(i:Int),())=some (((max m (zit r)+1:Nat):Int),())
 | [],i,m,hr,hm=>by
  have hi: ¬((i:Int)< (l.length:Int)):=by
   have:=congrArg List.length hr;simp at this;omega
  refine zW ?_;simp only[zhg,hi,decide_false,qz2,yA];rw[wrap_i64 (by omega) (by omega)];simp[zit]
 |x::r,i,m,hr,hm=>by
  obtain⟨h1,h2,h3⟩:=zi4 hr;have hi:((i:Int)< (l.length:Int)):=by omega
  have hx:x∈l:=List.mem_of_mem_drop (hr▸qz7);have hd:=zpl hx
  have hstep:zhg g ((m:Int),l,((l.length:Nat):Int),(i:Int),())=some (.inl (((max m (zed x):Nat):Int),l,((l.length:Nat):Int),((i+1:Nat):Int),())):=by
   simp only[zhg,hi,decide_true,yB,h1,qz1,zC,hg x hx];rw[wrap_i64 (by omega) (by omega)];have:(if((zed x:Nat):Int)>(m:Int)then((zed x:Nat):Int)else(m:Int))=((max m (zed x):Nat):Int):=by split<;>omega
   rw[this];rfl
  rw[qz3,zaN hstep,zzK g l hg hb hl r (i+1) _ h2 (by omega),zDO];congr 3;omega
theorem zwV: ∀(n:Nat) (x:Node),zed x<=n->ziy x<=2097152->(zcE n).zd5 x=some ((zed x:Int),())
 |0,x,h,_=>by have:=zsU x;omega
 |n+1,x,h,hs=>by
  have h1:=zsU x;have h2:=zs4 x;have h3:=zsz x.L;have h4:=zv0 x.L;show zmb (zcE n) x=_;unfold zmb;refine zbA (n:=x.L.length+1) ?_ (by omega);have:=zzK (zcE n) x.L (λy hy=>zwV n y (by have:=zpl hy;omega) (by have:=zpr hy;omega)) (by omega) (by omega) x.L 0 0 rfl (by omega)
  rw[h1];simpa using this
theorem zB8(x:Node)(h:ziy x<=2097152):zd5 x=some ((zed x:Int),()):=
 zwV _ x (by have:=zvW x;show zed x<=1000000000000;omega) h
mutual
def zmp:Node->Nat
 | ⟨_,_,_,_,ns,l⟩=>ns.length+zmQ l
def zmQ:List Node->Nat
 | []=>0
 |x::r=>zmp x+zmQ r
end
theorem zzS(x:Node):zmp x=x.Names.length+zmQ x.L:=by cases x;simp[zmp]
theorem zs9{x:Node}: ∀{l:List Node},x∈l->zmp x<=zmQ l
 |y::r,h=>by
  simp only[zmQ];rcases yP.1 h with rfl|h
  ·omega
  ·have:=zs9 h;omega
theorem zGt(x y:Node):znx x y=((x.Kind==y.Kind&&x.Name==y.Name&&x.Num==y.Num&&x.Text==y.Text&&x.Names==y.Names)&&zc7 x.L y.L):=by
 cases x;cases y;simp only[znx]
theorem zz0: ∀{l l':List Node},l.length≠l'.length->zc7 l l'=false
 | [],[],h=>absurd rfl h
 | [],_::_,_=>by simp[zc7]
 |_::_,[],_=>by simp[zc7]
 |x::r,y::r',h=>by
  simp only[zc7];rw[zz0 (by simpa using h)];simp
theorem zwN(g:zaO)(x y:Node)(v:Bool)(hl:x.Names.length=y.Names.length)(hb:x.Names.length<4611686018427387904)
  (hend:Lp.loop (zbo g) (((x.L.length:Nat):Int),0,x,y,())=some (v,())): ∀(r:List Str) (i:Nat),x.Names.drop i=r->
  zaq (zbF g) (r.length+1) (((x.Names.length:Nat):Int),(i:Int),x,y,())=some ((r==y.Names.drop i)&&v,())
 | [],i,hr=>by
  have h1:x.Names.length<=i:=by have:=congrArg List.length hr;simp at this;omega
  have hi: ¬((i:Int)< (x.Names.length:Int)):=by omega
  refine zW ?_;simp only[zbF,hi,decide_false,qz2,yA,zC,hend,ze5];rw[List.drop_of_length_le (by omega:y.Names.length<=i)];rfl
 |a::r,i,hr=>by
  obtain⟨h1,h2,h3⟩:=zi4 hr;have hi:((i:Int)< (x.Names.length:Int)):=by omega
  have hy:i<y.Names.length:=by omega
  have h4:y.Names.drop i=y.Names[i]::y.Names.drop (i+1):=List.drop_eq_getElem_cons hy;have h5:zL y.Names (i:Int)=some y.Names[i]:=by rw[ze3];exact qz9 hy
  rw[h4,qz3,List.cons_beq_cons];cases he:(a==y.Names[i])with
  |false=>
   refine zW ?_;simp only[zbF,hi,decide_true,yB,h1,h5,qz1,he,yN,Bool.false_and]
  |true=>
   have hstep:zbF g (((x.Names.length:Nat):Int),(i:Int),x,y,())=some (.inl (((x.Names.length:Nat):Int),((i+1:Nat):Int),x,y,())):=by
    simp only[zbF,hi,decide_true,yB,h1,h5,qz1,he,yO,qz2,yA,zC];rw[wrap_i64 (by omega) (by omega)];rfl
   rw[zaN hstep,zwN g x y v hl hb hend r (i+1) h2,Bool.true_and]
theorem zzJ(g:zaO)(x y:Node)(hg: ∀a∈x.L,∀b∈y.L,g.zbi a b=some (znx a b,()))(hl:x.L.length=y.L.length)(hb:x.L.length<4611686018427387904): ∀(r:List Node) (i:Nat),x.L.drop i=r->
  zaq (zbo g) (r.length+1) (((x.L.length:Nat):Int),(i:Int),x,y,())=some (zc7 r (y.L.drop i),())
 | [],i,hr=>by
  have h1:x.L.length<=i:=by have:=congrArg List.length hr;simp at this;omega
  have hi: ¬((i:Int)< (x.L.length:Int)):=by omega
  refine zW ?_;simp only[zbo,hi,decide_false,qz2,yA];rw[List.drop_of_length_le (by omega:y.L.length<=i)];simp[zc7]
 |a::r,i,hr=>by
  obtain⟨h1,h2,h3⟩:=zi4 hr;have hi:((i:Int)< (x.L.length:Int)):=by omega
  have hy:i<y.L.length:=by omega
  have h4:y.L.drop i=y.L[i]::y.L.drop (i+1):=List.drop_eq_getElem_cons hy;have h5:zL y.L (i:Int)=some y.L[i]:=by rw[ze3];exact qz9 hy
  have h6:=hg a (List.mem_of_mem_drop (hr▸qz7)) y.L[i] (List.getElem_mem hy);rw[h4,qz3];simp only[zc7];cases he:znx a y.L[i]with
  |false=>
   refine zW ?_;simp only[zbo,hi,decide_true,yB,h1,h5,qz1,zC,h6,he,yN,Bool.false_and]
  |true=>
   have hstep:zbo g (((x.L.length:Nat):Int),(i:Int),x,y,())=some (.inl (((x.L.length:Nat):Int),((i+1:Nat):Int),x,y,())):=by
    simp only[zbo,hi,decide_true,yB,h1,h5,qz1,zC,h6,he,yO,qz2,yA];rw[wrap_i64 (by omega) (by omega)];rfl
   rw[zaN hstep,zzJ g x y hg hl hb r (i+1) h2,Bool.true_and]
theorem zC7: ∀(n:Nat) (x y:Node),zed x<=n->ziy x<=2097152->ziy y<=2097152->zmp x<=2097152->zmp y<=2097152->(zaP n).zbi x y=some (znx x y,())
 |0,x,y,h,_,_,_,_=>by have:=zsU x;omega
 |n+1,x,y,h,hs,hs',hn,hn'=>by
  have a1:=zsU x;have a2:=zs4 x;have a3:=zs4 y;have a4:=zzS x;have a5:=zzS y;have b1:=zv0 x.L;show zfk (zaP n) x y=_;unfold zfk;simp only[zC];rw[zGt];by_cases hN:x.Names.length=y.Names.length
  ·by_cases hL:x.L.length=y.L.length
   ·have e1:(((x.Names.length:Nat):Int) !=((y.Names.length:Nat):Int))=false:=by simp[hN]
    have e2:(((x.L.length:Nat):Int) !=((y.L.length:Nat):Int))=false:=by simp[hL]
    have hsub:Lp.loop (zbo (zaP n)) (((x.L.length:Nat):Int),0,x,y,())=some (zc7 x.L y.L,()):=by
     refine zbA (n:=x.L.length+1) ?_ (by omega);have:=zzJ (zaP n) x y (λa ha b hb=>zC7 n a b (by have:=zpl ha;omega) (by have:=zpr ha;omega) (by have:=zpr hb;omega) (by have:=zs9 ha;omega) (by have:=zs9 hb;omega)) hL (by omega) x.L 0 rfl
     simpa using this
    have hnam:Lp.loop (zbF (zaP n)) (((x.Names.length:Nat):Int),0,x,y,())=some ((x.Names==y.Names)&&zc7 x.L y.L,()):=by
     refine zbA (n:=x.Names.length+1) ?_ (by omega);have:=zwN (zaP n) x y _ hN (by omega) hsub x.Names 0 rfl;simpa using this
    rw[e1,e2,hnam];have k1:(x.Kind !=y.Kind)= !(x.Kind==y.Kind):=rfl;have k2:(x.Num !=y.Num)= !(x.Num==y.Num):=rfl;rw[k1,k2];cases x.Kind==y.Kind<;>cases x.Name==y.Name<;>cases x.Num==y.Num<;>cases x.Text==y.Text<;>cases x.Names==y.Names<;>simp
   ·have e2:(((x.L.length:Nat):Int) !=((y.L.length:Nat):Int))=true:=by simpa using by omega
    rw[e2,zz0 hL];simp
  ·have e1:(((x.Names.length:Nat):Int) !=((y.Names.length:Nat):Int))=true:=by simpa using by omega
   have:(x.Names==y.Names)=false:=by
    simp only[yH,ne_eq];intro e;exact hN (by rw[e])
   rw[e1,this];simp
end Go.D08
namespace Go.D08
open Go Go.Gw Go.Dn
set_option maxRecDepth 100000
/-! ### names -/
theorem zD9: ∀b:Fin 256,zi9 ((b.val:Nat):Int)=some (isLet (UInt8.ofNat b.val),()):=by decide+kernel
theorem zEY: ∀b:Fin 256,zjI ((b.val:Nat):Int)=some (zgQ (UInt8.ofNat b.val),()):=by decide+kernel
theorem zDy(b:UInt8): ∃k:Fin 256,b=UInt8.ofNat k.val:=⟨⟨b.toNat,b.toNat_lt⟩,by simp⟩
theorem zkP(c:UInt8):zi9 ((c.toNat:Nat):Int)=some (isLet c,()):=by
 obtain⟨k,rfl⟩:=zDy c;have:(UInt8.ofNat k.val).toNat=k.val:=by simp[Nat.mod_eq_of_lt k.isLt]
 rw[this];exact zD9 k
theorem zlT(c:UInt8):zjI ((c.toNat:Nat):Int)=some (zgQ c,()):=by
 obtain⟨k,rfl⟩:=zDy c;have:(UInt8.ofNat k.val).toNat=k.val:=by simp[Nat.mod_eq_of_lt k.isLt]
 rw[this];exact zEY k
theorem zFd{s:Str}{i:Nat}{c:UInt8}{r:Str}(h:s.drop i=c::r):zam s (i:Int)=some ((c.toNat:Nat):Int)/\s.drop (i+1)=r/\i<s.length:=by
 have hi:i<s.length:=by
   rcases Nat.lt_or_ge i s.length with h1|h1
   ·exact h1
   ·rw[List.drop_of_length_le h1]at h;cases h
 rw[List.drop_eq_getElem_cons hi]at h;cases h;exact⟨by rw[zfz,qz9 hi];rfl,rfl,hi⟩
theorem zBa(s:Str)(hs:s.length<=1000000000): ∀(r:Str) (i:Nat),s.drop i=r->i<=s.length->zaq zfy (r.length+1) (s,((s.length:Nat):Int),(i:Int),())=some (((i+Gw.zI r:Nat):Int),())
 | [],i,hr,hi=>by
   have h1:i=s.length:=by have:=congrArg List.length hr;simp at this;omega
   refine zW ?_;have hi: ¬((i:Int)< (s.length:Int)):=by omega
   simp only[zfy,hi,decide_false,qz2,yA];simp[Gw.zI,h1]
 |c::r,i,hr,_=>by
   obtain⟨h1,h2,h3⟩:=zFd hr;have hi:((i:Int)< (s.length:Int)):=by omega
   rw[zbw];have hL:zcU c=(isLet c||zgQ c):=rfl
   have hgo:zcU c=true->zfy (s,((s.length:Nat):Int),(i:Int),())=some (.inl (s,((s.length:Nat):Int),((i+1:Nat):Int),())):=λh=>by
    rw[hL]at h;simp only[zfy,hi,decide_true,yB,h1,qz1,zkP,zlT];rw[wrap_i64 (by omega) (by omega)];cases hl:isLet c with
    |true=>rfl
    |false=>
     rw[hl]at h;simp only[Bool.false_or]at h;simp only[h,yN,yB,yO,qz2,yA];rfl
   cases h:zcU c with
   |true=>
    rw[qz3,zaN (hgo h),zBa s hs r (i+1) h2 (by omega)];simp only[yB];congr 3;omega
   |false=>
    refine zW ?_;rw[hL,Bool.or_eq_false_iff]at h;simp only[zfy,hi,decide_true,yB,h1,qz1,zkP,zlT,h.1,h.2,yN,qz2,yA];rfl
theorem zvs(s:Str)(hs:s.length<=1000000000):zpu s=some (((Gw.zI s:Nat):Int),()):=by
 refine zbA (n:=s.length+1) ?_ (by omega);have:=zBa s hs s 0 rfl (Nat.zero_le _);simpa using this
def zkN(s:Str):Bool:=match s with
 | []=>false
 |c::_=>decide (s.length<=32)&&(isLet c&&s.all zcU)
def zgl(l s:Str):Bool:= !(s==([]:Str))&&(!(s.contains 32)&&Lib.contains l (32::(s++[32])))
theorem zEe(l s:Str)(hl:l.length<=1000000000)(hs:s.length<=1000000000):
   (if(!(s==([]:Str)))=true then
  Option.bind (strings_Contains s ([32]:Str)) λr_1=>
  if(!r_1.1)=true then
   Option.bind (zgW ([32]:Str) s) λs_2=>
   Option.bind (zgW s_2 ([32]:Str)) λs_3=>
   Option.bind (strings_Contains l s_3) λr_4=>
   some (r_4.1,())
  else
   some (false,())
 else
  some (false,()))=some (zgl l s,()):=by
 have c1:strings_Contains s ([32]:Str)=some (s.contains 32,()):=by
   simp only[strings_Contains,zb1,show s.length<4294967281 by omega,yB,ze5,zm5]
 have c2: ∀t,strings_Contains l t=some (Lib.contains l t,()):=λt=>by
   simp only[strings_Contains,zb1,show l.length<4294967281 by omega,yB,ze5]
 have c3:zgW ([32]:Str) s=some (32::s):=zwl (by simp;omega)
 have c4:zgW (32::s) ([32]:Str)=some (32::(s++[32])):=zwl (by simp;omega)
 simp only[c1,c2,c3,c4,qz1,zgl];cases s==([]:Str)<;>cases s.contains 32<;>simp
theorem zl3(l s:Str)(hl:l.length<=1000000000)(hs:s.length<=1000000000):zft l s=some (zgl l s,()):=zEe l s hl hs
def zET:Str:=[32,98,114,101,97,107,32,99,97,115,101,32,99,97,116,99,104,32,99,108,97,115,115,32,99,111,110,115,116,32,99,111,110,116,105,110,117,101,32,100,101,98,117,103,103,101,114,32,100,101,102,97,117,108,116,32,100,101,108,101,116,101,32,100,111,32,101,108,115,101,32,101,110,117,109,32,101,120,112,111,114,116,32,101,120,116,101,110,100,115,32,102,97,108,115,101,32,102,105,110,97,108,108,121,32,102,111,114,32,102,117,110,99,116,105,111,110,32,105,102,32,105,109,112,108,101,109,101,110,116,115,32,105,109,112,111,114,116,32,105,110,32,105,110,115,116,97,110,99,101,111,102,32,105,110,116,101,114,102,97,99,101,32,108,101,116,32,110,101,119,32,110,117,108,108,32,112,97,99,107,97,103,101,32,112,114,105,118,97,116,101,32,112,114,111,116,101,99,116,101,100,32,112,117,98,108,105,99,32,114,101,116,117,114,110,32,115,116,97,116,105,99,32,115,117,112,101,114,32,115,119,105,116,99,104,32,116,104,105,115,32,116,104,114,111,119,32,116,114,117,101,32,116,114,121,32,116,121,112,101,111,102,32,118,97,114,32,118,111,105,100,32,119,104,105,108,101,32,119,105,116,104,32,121,105,101,108,100,32]
def zEm(s:Str):Bool:=zgl zET s
theorem zxE(s:Str)(hs:s.length<=1000000000):zol s=some (zEm s,()):=by
 show Option.bind (zft zET s) _=_;rw[zl3 _ _ (by decide) hs];rfl
def zce(s:Str):Bool:=zkN s&& !zEm s
/-! ### units -/
def zaW(s:Str):Bool:=s.length%2==0
/-! ### forms -/
end Go.D08
namespace Go.D08.U
open Go Go.Gw Go.Dn Go.Proofs
set_option maxRecDepth 100000
theorem zdo(x:zQ):zc6 x=x:=by cases x;rfl
theorem zcP(x:zk):zfN x=x:=by cases x;rfl
theorem zdb(a b:Str):strings_HasPrefix a b=some (b.isPrefixOf a,()):=rfl
theorem zC0(s:Str)(h:s.length<=1000000000):strings_IndexAny s [10,13]=some (Lib.indexAny s [10,13],()):=by
 unfold strings_IndexAny zdz;rw[yL ⟨by omega,rfl⟩];rfl
theorem zy3(s:Str)(h:s.length<=1000000000):strings_ContainsAny s [10,13]=some (s.any zah,()):=by
 unfold strings_ContainsAny zcK;rw[yL ⟨by omega,rfl⟩,zy0];rfl
theorem zEI(s t:Str)(h:s.length<=1000000000):strings_Index s t=some (Lib.index s t,()):=by
 unfold strings_Index zeQ;rw[yL (by omega)];rfl
theorem zvQ(s t:Str)(h:s.length<=1000000000):strings_Contains s t=some (Lib.contains s t,()):=by
 unfold strings_Contains zb1;rw[yL (by omega)];rfl
theorem zgv(c:UInt8)(r:Str):zam (c::r) 0=some ((c.toNat:Nat):Int):=rfl
theorem zEP(src s:Str)(f:Bool)(n:Nat)(hn:n<=s.length)(hs:s.length<=1000000000):zbP (n:Int) ⟨src,s,f⟩=some (.inl (⟨src,s.drop n,f||(s.take n).any zah⟩,())):=by
 unfold zbP;have e1:=zdC s n hn
 have e2:zar s 0 (n:Int)=some (s.take n):=by
  have:=zfF s 0 n (by omega) hn;simpa using this
 have e3:=zy3 (s.take n) (by simp only[List.length_take];omega)
 cases f with
 |true=>simp only[yB,e1,qz1,Bool.true_or]
 |false=>simp only[qz2,yA,e1,e2,e3,qz1,Bool.false_or]
def zLU(src:Str)(p:Str×Bool×Bool):Bool×zQ×Unit:=(p.2.2,⟨src,p.1,p.2.1⟩,())
theorem zjS(src:Str): ∀(m:Nat) (s:Str) (f:Bool),s.length<m->s.length<=1000000000->zaq zai m (⟨src,s,f⟩,())=some (zLU src (zT m s f))
 |0,s,f,h,_=>by omega
 |m+1,[],f,_,_=>zW rfl
 |m+1,c::r,f,hm,hs=>by
  simp only[qz3]at hm;have hr:r.length<=1000000000:=by simp only[qz3]at hs;omega
  have cn:(!((c::r)==([]:Str)))=true:=rfl;have hj4:=zEP src (c::r) f;rw[zT];by_cases h1:zah c=true
  ·rw[yL h1]
   have hc:c=10\/c=13:=by
    unfold zah at h1;simpa using h1
   have hstep:zai (⟨src,c::r,f⟩,())=some (.inl (⟨src,r,true⟩,())):=by
    have hj:=hj4 1 (by simp) hs;have e:(f||(((c::r).take 1).any zah))=true:=by simp[h1]
    rw[e]at hj;rcases hc with rfl|rfl
    ·simp only[zai,zdb,zdo,cn,yB,zgv];exact hj
    ·simp only[zai,zdb,zdo,cn,yB,zgv];exact hj
   rw[zaN hstep];exact zjS src m r true (by omega) hr
  ·have h1':zah c=false:=by simpa using h1
   rw[yK h1];by_cases h2:c=32\/c=9\/c=11\/c=12
   ·rw[yL h2]
    have hstep:zai (⟨src,c::r,f⟩,())=some (.inl (⟨src,r,f⟩,())):=by
     have hj:=hj4 1 (by simp) hs;have e:(f||(((c::r).take 1).any zah))=f:=by simp[h1']
     rw[e]at hj;rcases h2 with rfl|rfl|rfl|rfl
     ·simp only[zai,zdb,zdo,cn,yB,zgv];exact hj
     ·simp only[zai,zdb,zdo,cn,yB,zgv];exact hj
     ·simp only[zai,zdb,zdo,cn,yB,zgv];exact hj
     ·simp only[zai,zdb,zdo,cn,yB,zgv];exact hj
    rw[zaN hstep];exact zjS src m r f (by omega) hr
   ·rw[yK h2];by_cases h3:([47,47]:Str).isPrefixOf (c::r)=true
    ·rw[yL h3]
     have hc:c=47:=by
      simp only[List.isPrefixOf,qz4,beq_iff_eq]at h3;exact h3.1.symm
     have hdw:(c::r).dropWhile (λx=> !zah x)=r.dropWhile (λx=> !zah x):=by
      rw[List.dropWhile_cons,yL (by simp[h1'])]
     have hlen:=zd7 (λx=> !zah x) r
     have hstep:zai (⟨src,c::r,f⟩,())=some (.inl (⟨src,(c::r).dropWhile (λx=> !zah x),f⟩,())):=by
      simp only[zai,zdb,zdo,cn,yB,h3,qz1,zC0 _ hs];rcases zql (c::r)with⟨g1,g2,g3⟩| ⟨i,g1,g2,g3,g4,g5⟩
      ·rw[g2,g3];have hj:=hj4 (c::r).length (yJ _) hs;rw[List.drop_length,List.take_length,g1,Bool.or_false]at hj;simpa using hj
      ·have hj:=hj4 i g2 hs;rw[g4,g5,Bool.or_false]at hj;have cneg: ¬((i:Int)<0):=by omega
       rw[g1];simp only[cneg,decide_false,qz2,yA];exact hj
     rw[zaN hstep];exact zjS src m _ f (by rw[hdw];omega) (by rw[hdw];omega)
    ·have h3':([47,47]:Str).isPrefixOf (c::r)=false:=by rw[<-Bool.not_eq_true];exact h3
     rw[yK h3];by_cases h4:([47,42]:Str).isPrefixOf (c::r)=true
     ·rw[yL h4];cases r with
      |nil=>simp[List.isPrefixOf]at h4
      |cons d r=>
       simp only[List.isPrefixOf,Bool.and_true,qz4,beq_iff_eq]at h4;obtain⟨rfl,rfl⟩:=h4;have hdrop:((47::42::r:Str)).drop 2=r:=rfl;rw[hdrop]
       have hcut:zar (47::42::r:Str) 2 (((47::42::r:Str).length:Nat):Int)=some r:=by
        have:=zdC (47::42::r:Str) 2 (by simp);exact this
       have hpre:List.isPrefixOf [47,42] (47::42::r:Str)=true:=rfl;have hri:=zEI r [42,47] (by simp only[qz3]at hr;omega)
       cases he:zbM r with
       |none=>
        refine zW ?_;simp only[zai,zdb,zdo,cn,yB,h3',hpre,qz1,qz2,yA,hcut,hri];rw[zsw,he];rfl
       |some n=>
        have hle:=zl7 r n he
        have hstep:zai (⟨src,47::42::r,f⟩,())=some (.inl (⟨src,(47::42::r:Str).drop (n+4),f||(r.take n).any zah⟩,())):=by
         simp only[zai,zdb,zdo,cn,yB,h3',hpre,qz1,qz2,yA,hcut,hri];rw[zsw,he];have cneg: ¬(((n:Nat):Int)<0):=by omega
         have w:IntKind.wrap .i64 ((n:Int)+4)=((n+4:Nat):Int):=by rw[wrap_i64 (by omega) (by simp only[qz3]at hr;omega)];omega
         simp only[cneg,decide_false,qz2,yA,w];have hj:=hj4 (n+4) (by simp only[qz3];omega) hs
         rw[zD4 r n he]at hj;exact hj
        rw[zaN hstep];simp only[qz3]at hm;have hlt:((47::42::r:Str).drop (n+4)).length<=r.length:=by simp only[List.length_drop,qz3];omega
        exact zjS src m _ _ (by omega) (by simp only[qz3]at hr;omega)
     ·have h4':([47,42]:Str).isPrefixOf (c::r)=false:=by rw[<-Bool.not_eq_true];exact h4
      rw[yK h4];refine zW ?_;have ho:=zFg ⟨c.toNat,c.toNat_lt⟩;rw[show UInt8.ofNat (⟨c.toNat,c.toNat_lt⟩:Fin 256).val=c by simp]at ho;obtain⟨o1,o2⟩:=ho h1' h2;simp only at o1 o2;have b32:((((c.toNat:Nat):Int)) !=32)=true:=by rw[bne_iff_ne];omega
      simp only[zai,zdb,zdo,cn,yB,h3',h4',qz1,qz2,yA,zgv,b32];by_cases o3:c.toNat<9
      ·have d:(((c.toNat:Nat):Int)<9):=by omega
       simp only[d,decide_true,yB];rfl
      ·have d: ¬(((c.toNat:Nat):Int)<9):=by omega
       have d2:(((c.toNat:Nat):Int)>13):=by omega
       simp only[d,d2,decide_true,decide_false,qz2,yA,yB];rfl
theorem zyB(cc:zQ)(hs:cc.rest.length<=1000000000):zfX cc=
  some ((zT (cc.rest.length+1) cc.rest false).2.2,⟨cc.src,(zT (cc.rest.length+1) cc.rest false).1,(zT (cc.rest.length+1) cc.rest false).2.1⟩,()):=by
 unfold zfX;exact zbA (n:=cc.rest.length+1) (zjS cc.src (cc.rest.length+1) cc.rest false (by omega) hs) (by omega)
theorem ofN(c:UInt8):UInt8.ofNat c.toNat=c:=by simp
theorem wrap_succ{k:Nat}(h:k<1000000000000):IntKind.wrap .i64 ((k:Int)+1)=((k+1:Nat):Int):=by rw[wrap_i64 (by omega) (by omega)];omega
abbrev PuS:=Int×Bool×Str×Int×Int×Bool×Int×(List UInt8)×Int×Int×Unit
abbrev puS(o:Nat)(s0:Str)(cut:Int)(mx a:Nat)(t:Str)(i:Nat):PuS:=((o:Int),false,s0,cut,(mx:Int),false,(a:Int),t,((t.length:Nat):Int),(i:Int),())
def puQ(o mx:Nat)(s0:Str)(cut:Int)(t:Str)(a i:Nat)(d:Option Nat):Option (PuS⊕(Int×zY×Unit)):=
 match d with
 |none=>some (.inr (0,.code 156 2,()))
 |some d=>if d<o then(if a*o+d<=mx then some (.inl (puS o s0 cut mx (a*o+d) t (i+1)))else some (.inr ((mx:Int),.code 156 1,())))else some (.inr (0,.code 156 2,()))
theorem zE1(o mx a i d:Nat)(ho:o=10\/o=16)(hm:mx<=9007199254740991)(s0 t:Str)(cut:Int)(hx:9007199254740992<=cut)(ha:a<=mx)(hi:i<1000000000000)(hd:d<256):
  zcj (o:Int) false s0 cut (mx:Int) false (a:Int) (d:Int) t ((t.length:Nat):Int) (i:Int)=puQ o mx s0 cut t a i (some d):=by
 unfold zcj zeV ze2 zeU zeY puQ;have wo:IntKind.wrap .u8 (o:Int)=(o:Int):=wrap_u8 (by omega) (by omega);have wo2:IntKind.wrap .u64 (o:Int)=(o:Int):=wrap_u64 (by omega) (by omega);have wd:IntKind.wrap .u64 (d:Int)=(d:Int):=wrap_u64 (by omega) (by omega);have hmul:a*o<=9007199254740991*16:=Nat.mul_le_mul (by omega) (by omega);have em:((a:Int)*(o:Int))=((a*o:Nat):Int):=by simp
 have wm:IntKind.wrap .u64 ((a:Int)*(o:Int))=((a*o:Nat):Int):=by rw[em];exact wrap_u64 (by omega) (by omega)
 have ws:IntKind.wrap .u64 (((a*o:Nat):Int)+(d:Int))=((a*o+d:Nat):Int):=by rw[wrap_u64 (by omega) (by omega)];omega
 simp only[wo,wo2,wd,wm,ws,wrap_succ hi];by_cases h1:d<o
 ·have c1: ¬((d:Int)>=(o:Int)):=by omega
  have c2: ¬((a:Int)>=cut):=by omega
  have c3: ¬(((a*o+d:Nat):Int)< ((a*o:Nat):Int)):=by omega
  simp only[c1,c2,c3,h1,decide_false,qz2,yA,yB,Bool.false_or];by_cases h2:a*o+d<=mx
  ·have c4: ¬(((a*o+d:Nat):Int)>(mx:Int)):=by omega
   simp only[c4,h2,decide_false,qz2,yA,yB]
  ·have c4:(((a*o+d:Nat):Int)>(mx:Int)):=by omega
   simp only[c4,h2,decide_true,yA,yB]
 ·have c1:((d:Int)>=(o:Int)):=by omega
  simp only[c1,h1,decide_true,yB,yA]
theorem zJk(o mx a i:Nat)(ho:o=10\/o=16)(hm:mx<=9007199254740991)(s0 t:Str)(c:UInt8)(hc:t[i]? =some c)(cut:Int)(hx:9007199254740992<=cut)(ha:a<=mx)(hi:i<1000000000000):
  zaS (puS o s0 cut mx a t i)=puQ o mx s0 cut t a i (hexV c):=by
 have hlt:i<t.length:=(qz0 hc).1;unfold zaS;have c1:((i:Int)< ((t.length:Nat):Int)):=by omega
 obtain⟨f1,f2,f3⟩:=zGH ⟨c.toNat,c.toNat_lt⟩;rw[ofN]at f1 f2 f3;simp only at f1 f2 f3;simp only[c1,decide_true,yB,ze3,hc,qz1,Bool.and_false,qz2,yA,zFB];by_cases g1:48<=c.toNat/\c.toNat<=57
 ·have d1:((48:Int)<=((c.toNat:Nat):Int)):=by omega
  have d2:(((c.toNat:Nat):Int)<=57):=by omega
  have w:IntKind.wrap .u8 (((c.toNat:Nat):Int) -48)=((c.toNat -48:Nat):Int):=by rw[wrap_u8 (by omega) (by omega)];omega
  simp only[d1,d2,decide_true,Bool.and_self,yB,w];rw[zE1 o mx a i _ ho hm s0 t cut hx ha hi (by omega),f1 g1]
 ·have d1:((decide ((48:Int)<=((c.toNat:Nat):Int)))&&(decide (((c.toNat:Nat):Int)<=57)))=false:=by
   rw[<-Bool.not_eq_true,qz4,yT,yT];omega
  simp only[d1,qz2,yA];have hlow:zgI c.toNat<256:=by unfold zgI;exact(BitVec.ofNat 8 c.toNat|||32#8).isLt
  by_cases g2:97<=zgI c.toNat
  ·have e2:((97:Int)<=((zgI c.toNat:Nat):Int)):=by omega
   simp only[e2,decide_true,yB];by_cases g3:zgI c.toNat<=122
   ·have e3:(((zgI c.toNat:Nat):Int)<=122):=by omega
    have w1:IntKind.wrap .u8 (((zgI c.toNat:Nat):Int) -97)=((zgI c.toNat -97:Nat):Int):=by rw[wrap_u8 (by omega) (by omega)];omega
    have w2:IntKind.wrap .u8 (((zgI c.toNat -97:Nat):Int)+10)=((zgI c.toNat -87:Nat):Int):=by rw[wrap_u8 (by omega) (by omega)];omega
    simp only[e3,decide_true,yB,w1,w2];rw[zE1 o mx a i _ ho hm s0 t cut hx ha hi (by omega),f2 g1 g2 g3];split
    ·rfl
    ·rename_i g4;unfold puQ;have: ¬(zgI c.toNat -87<o):=by omega
     simp only[this,yA]
   ·have e3: ¬(((zgI c.toNat:Nat):Int)<=122):=by omega
    simp only[e3,decide_false,qz2,yA];rw[f3 g1 (by omega)];rfl
  ·have e2: ¬((97:Int)<=((zgI c.toNat:Nat):Int)):=by omega
   simp only[e2,decide_false,qz2,yA];rw[f3 g1 (by omega)];rfl
def okM(mx o:Nat)(t:Str)(a:Nat):Option Nat:=match zcl o t a with
 |none=>none
 |some n=>if n<=mx then some n else none
def PuE(e:Int×zY×Unit)(q:Option Nat):Prop:=match q with
 |some r=>e=((r:Int),.nil,())
 |none=>∃v,e=(v,.code 156 2,())\/e=(v,.code 156 1,())
theorem zJq(o mx:Nat)(ho:o=10\/o=16)(hm:mx<=9007199254740991)(s0 t:Str)(ht:t.length<=1000000000)(cut:Int)(hx:9007199254740992<=cut): ∀(n i a:Nat),n+i=t.length->a<=mx->
  ∃e,zaq zaS (n+1) (puS o s0 cut mx a t i)=some e/\PuE e (okM mx o (t.drop i) a):=by
 intro n;induction n with
 |zero=>
  intro i a hi ha;have hd:t.drop i=[]:=List.drop_eq_nil_of_le (by omega);rw[hd];refine⟨((a:Int),.nil,()),zW ?_,?_⟩
  ·unfold zaS;have c1: ¬((i:Int)< ((t.length:Nat):Int)):=by omega
   simp only[c1,decide_false,qz2,yA]
  ·unfold okM zcl PuE;simp only[ha,yB]
 |succ n ih=>
  intro i a hi ha;have hlt:i<t.length:=by omega
  have hst:=zJk o mx a i ho hm s0 t t[i] (qz9 hlt) cut hx ha (by omega);rw[List.drop_eq_getElem_cons hlt];unfold okM zcl;cases hv:hexV t[i]with
  |none=>
   rw[hv]at hst;exact⟨_,zW hst,0,.inl rfl⟩
  |some d=>
   rw[hv]at hst;unfold puQ at hst;simp only at hst⊢;by_cases h1:d<o
   ·simp only[h1,yB]at hst⊢;by_cases h2:a*o+d<=mx
    ·simp only[h2,yB]at hst;rw[zaN hst];exact ih (i+1) (a*o+d) (by omega) h2
    ·simp only[h2,yA]at hst;refine⟨_,zW hst,?_⟩;cases hp:zcl o (t.drop (i+1)) (a*o+d)with
     |none=>exact⟨_,.inr rfl⟩
     |some r=>
      have:=zwX (by omega) _ _ _ hp;have h3: ¬(r<=mx):=by omega
      simp only[h3,yA];exact⟨_,.inr rfl⟩
   ·simp only[h1,yA]at hst⊢;exact⟨_,zW hst,0,.inl rfl⟩
theorem zAg(o b mx:Nat)(ho:o=10\/o=16)(hb:b=53/\mx=9007199254740991\/b=16/\mx=65535)(t:Str)(h0:t≠[])(ht:t.length<=1000000000):
  ∃v,zaJ t (o:Int) (b:Int)=some (match okM mx o t 0 with|some r=>((r:Int),zY.nil,())|none=>(v,zY.opq,())):=by
 have key: ∃e,zez t (o:Int) (b:Int)=some e/\PuE e (okM mx o t 0):=by
  have c:(t==([]:Str))=false:=by simpa using h0
  have sh:zxu .u64 1 (IntKind.wrap .u64 (b:Int))=some ((mx:Int)+1):=by
   rcases hb with⟨rfl,rfl⟩| ⟨rfl,rfl⟩<;>decide
  have wm:IntKind.wrap .u64 ((mx:Int)+1 -1)=(mx:Int):=by rw[wrap_u64 (by omega) (by omega)];omega
  have fin: ∀cut:Int,9007199254740992<=cut->∃e,Lp.loop zaS (puS o t cut mx 0 t 0)=some e/\PuE e (okM mx o t 0):=λcut hx=>by
   obtain⟨e,e1,e2⟩:=zJq o mx ho (by omega) t t ht cut hx t.length 0 0 (by omega) (by omega);rw[List.drop_zero]at e2;exact⟨e,zbA e1 (by omega),e2⟩
  unfold zez zbb ze0 zdk zeZ ze6 zeT
  have b1:((decide ((2:Int)<=(o:Int)))&&(decide ((o:Int)<=36)))=true:=by
   rw[decide_eq_true (by omega),decide_eq_true (by omega)];rfl
  have b2:((o:Int)==0)=false:=by rw[yH];omega
  have b3:((b:Int)==0)=false:=by rw[yH];omega
  have b4:((decide ((b:Int)<0))||(decide ((b:Int)>64)))=false:=by
   rw[decide_eq_false (by omega),decide_eq_false (by omega)];rfl
  simp only[c,b1,b2,b3,b4,qz2,yA,yB,sh,qz1,wm];rcases ho with rfl|rfl
  ·exact fin 1844674407370955162 (by decide)
  ·exact fin 1152921504606846976 (by decide)
 obtain⟨e,e1,e2⟩:=key;unfold zaJ zgj;rw[e1,qz1];cases hk:okM mx o t 0 with
 |some r=>
  rw[hk]at e2;obtain rfl:e=((r:Int),.nil,()):=e2;exact⟨0,rfl⟩
 |none=>
  rw[hk]at e2;obtain⟨v,rfl|rfl⟩: ∃v,e=(v,.code 156 2,())\/e=(v,.code 156 1,()):=e2
  ·refine⟨v,?_⟩;simp only[zY.isNil,yN,yB];rw[yL ⟨by omega,by simp⟩];rfl
  ·refine⟨v,?_⟩;simp only[zY.isNil,yN,yB];rw[yL ⟨by omega,by simp⟩];rfl
theorem zEa(o:Nat)(ho:o=10\/o=16)(t:Str)(h0:t≠[])(ht:t.length<=1000000000):
  ∃v,zaJ t (o:Int) 53=some (match okN o t 0 with|some r=>((r:Int),zY.nil,())|none=>(v,zY.opq,())):=
 zAg o 53 9007199254740991 ho (.inl ⟨rfl,rfl⟩) t h0 ht
theorem zyA: ∀(t:Str) (a n:Nat),hexN t.length t a=some n->zcl 16 t a=some n
 | [],a,n,h=>h
 |c::r,a,n,h=>by
  rw[qz3]at h;unfold hexN at h;unfold zcl;cases hv:hexV c with
  |none=>rw[hv]at h;cases h
  |some d=>
   rw[hv]at h;simp only at h⊢;rw[yL (zwe hv),Nat.mul_comm a 16];exact zyA r _ n h
theorem zl2(t:Str)(n:Nat)(h0:t≠[])(h1:t.length<=4)(h2:hexN t.length t 0=some n):zaJ t 16 16=some ((n:Int),.nil,()):=by
 obtain⟨v,hv⟩:=zAg 16 16 65535 (.inr rfl) (.inr ⟨rfl,rfl⟩) t h0 (by omega);have hl:=zr2 _ _ _ _ h2;have hp:16^t.length<=16^4:=Nat.pow_le_pow_right (by omega) h1
 have hn:n<=65535:=by
  have h4:(16:Nat)^4=65536:=by decide
  omega
 have hv:zaJ t 16 16=_:=hv;rw[hv];unfold okM;rw[zyA t 0 n h2];simp only[hn,yB]
theorem zhP(n:Nat)(h:n<65536):zdJ (n:Int)=some (enc1 n,()):=by
 have e1:Int.fdiv (n:Int) (2^8)=((n/256:Nat):Int):=by rw[Int.fdiv_eq_ediv_of_nonneg _ (by omega)];rfl
 have w1:IntKind.wrap .u8 ((n/256:Nat):Int)=((n/256:Nat):Int):=wrap_u8 (by omega) (by omega);have w2:IntKind.wrap .u8 (n:Int)=((n%256:Nat):Int):=by rw[zwS];omega
 have t1:toB ((n/256:Nat):Int)=some (UInt8.ofNat (n/256)):=by unfold toB;rw[yL (by omega)];rfl
 have t2:toB ((n%256:Nat):Int)=some (UInt8.ofNat (n%256)):=by unfold toB;rw[yL (by omega)];rfl
 unfold zdJ;simp only[e1,w1,w2,t1,t2,qz1];rfl
theorem zm1(x s2 l:Str)(h:l.length+x.length<=274877906944):zat x s2 l=some (((x.length:Nat):Int),zY.nil,s2,l++x,()):=by
 unfold zat;rw[zhY (by omega)];rfl
theorem zzZ(s:Str)(acc:List Nat)(k:Nat)(hk:k=2\/k=4)(hs:s.length<=100000000)(ha:acc.length<=100000000):
  ∃r,zcy (k:Int) s (zbZ acc)=some r/\(match hexN k s 0 with
   |none=>r.1=false
   |some n=>r=(true,s.drop k,zbZ (acc++[n]),())):=by
 unfold zcy;by_cases hl:s.length<k
 ·have c:((((s.length:Nat):Int))< (k:Int)):=by omega
  simp only[c,decide_true,yB];refine⟨_,rfl,?_⟩;cases hn:hexN k s 0 with
  |none=>rfl
  |some n=>have:=zsr _ _ _ _ hn;omega
 ·have c: ¬((((s.length:Nat):Int))< (k:Int)):=by omega
  have hcut:zar s 0 (k:Int)=some (s.take k):=by
   have:=zfF s 0 k (by omega) (by omega);simpa using this
  have hlen:(s.take k).length=k:=by rw[List.length_take];omega
  have htrim:zlm (s.take k) ([48,49,50,51,52,53,54,55,56,57,97,98,99,100,101,102,65,66,67,68,69,70]:Str)=some (Lib.trimS (s.take k) zAW,()):=by
   unfold zlm zfx;rw[yL ⟨by omega,by decide,by decide⟩];rfl
  have hsome:=zwT (s.take k) 0;rw[hlen,zu6 k s 0 (by omega)]at hsome;simp only[c,decide_false,qz2,yA,hcut,qz1,htrim,zED,<-hsome];cases hn:hexN k s 0 with
  |none=>exact⟨_,rfl,rfl⟩
  |some n=>
   have hparse:=zl2 (s.take k) n (by intro h;rw[h]at hlen;simp at hlen;omega) (by omega) (by rw[hlen,zu6 k s 0 (by omega)];exact hn)
   have hp2:zaJ (s.take k) 16 16=some ((n:Int),zY.nil,()):=hparse
   have hn2:n<65536:=by
    have:=zr2 _ _ _ _ hn;rcases hk with rfl|rfl<;>omega
   have hend:=zdC s k (by omega);have w:IntKind.wrap .i64 (n:Int)=(n:Int):=wrap_i64 (by omega) (by omega);have hbw:=zm1 (enc1 n) (s.drop k) (zbZ acc) (by simp only[zgA];simp[enc1];omega)
   simp only[Option.isSome_some,yO,qz2,yA,hcut,qz1,hp2,hend,w,zhP n hn2,hbw];refine⟨_,rfl,?_⟩;simp[zbZ]
theorem zJM: ∀b:Fin 256,strings_IndexByte ([110,116,114,98,102,118]:Str) ((b.val:Nat):Int)=some (if b.val=110 then 0 else if b.val=116 then 1 else if b.val=114 then 2 else if b.val=98 then 3 else if b.val=102 then 4 else if b.val=118 then 5 else -1,()):=by decide+kernel
theorem zGu(b:UInt8):strings_IndexByte ([110,116,114,98,102,118]:Str) ((b.toNat:Nat):Int)=some (if b.toNat=110 then 0 else if b.toNat=116 then 1 else if b.toNat=114 then 2 else if b.toNat=98 then 3 else if b.toNat=102 then 4 else if b.toNat=118 then 5 else -1,()):=zJM ⟨b.toNat,b.toNat_lt⟩
theorem zFn(s:Str)(acc:List Nat)(hs:s.length<=100000000)(ha:acc.length<=100000000):
  ∃r,zei s (zbZ acc)=some r/\(match zhe s with
   |none=>r.1=false
   |some (us,k)=>r=(true,s.drop k,zbZ (acc++us),())):=by
 unfold zei;cases s with
 |nil=>exact⟨_,rfl,rfl⟩
 |cons c r=>
  have hb:=c.toNat_lt;have g0:zam (c::r) 0=some ((c.toNat:Nat):Int):=rfl
  have hcut:zar (c::r) 1 (((c::r).length:Nat):Int)=some r:=by
   have:=zdC (c::r) 1 (by simp);simpa using this
  have hr:r.length<=100000000:=by simp only[qz3]at hs;omega
  have write: ∀n:Nat,n<65536->zat (enc1 n) r (zbZ acc)=some (2,.nil,r,zbZ (acc++[n]),()):=by
   intro n hn;rw[zm1 _ _ _ (by simp only[zgA];simp[enc1];omega)]
   simp[zbZ,enc1]
  have wi: ∀n:Nat,n<65536->IntKind.wrap .i64 (n:Int)=(n:Int):=λn hn=>wrap_i64 (by omega) (by omega)
  have c0:((c::r:Str)==([]:Str))=false:=rfl;simp only[c0,qz2,yA,g0,qz1,hcut,zGu];have tn: ∀n:Nat,n<256->(c=UInt8.ofNat n↔c.toNat=n):=zkp c
  have spec:zhe (c::r)=if c.toNat=10 then some ([],1)else if c.toNat=48 then(match r with
   | []=>some ([0],1)
   |d::_=>if 48<=d.toNat/\d.toNat<=57 then none else some ([0],1))
   else if c.toNat=120 then(hexN 2 r 0).map λn=>([n],3)
   else if c.toNat=117 then(hexN 4 r 0).map λn=>([n],5)
   else(zg7 c).map λn=>([n],1):=by
   simp only[zhe,<-tn 10 (by omega),<-tn 48 (by omega),<-tn 120 (by omega),<-tn 117 (by omega)];rfl
  have simp':zg7 c=if c.toNat=110 then some 10 else if c.toNat=116 then some 9 else if c.toNat=114 then some 13 else if c.toNat=98 then some 8 else if c.toNat=102 then some 12 else if c.toNat=118 then some 11
    else if c.toNat>127\/c.toNat=13\/c.toNat=120\/c.toNat=117\/(48<=c.toNat/\c.toNat<=57)\/c.toNat=10 then none else some c.toNat:=by
   simp only[zg7,<-tn 110 (by omega),<-tn 116 (by omega),<-tn 114 (by omega),<-tn 98 (by omega),<-tn 102 (by omega),<-tn 118 (by omega),<-tn 13 (by omega),<-tn 120 (by omega),<-tn 117 (by omega),<-tn 10 (by omega)];rfl
  rw[spec,simp'];clear spec simp' tn;generalize hk:c.toNat=k at*
  have small: ∀(j m:Nat) (v:Int),v=(j:Int)->([10,9,13,8,12,11]:Str)[j]? =some (UInt8.ofNat m)->m<256->
    ∃r0,(if decide (v>=0)=true then
     Option.bind (zam ([10,9,13,8,12,11]:Str) v) λv7=>
     Option.bind (zdJ (IntKind.wrap .i64 v7)) λv8=>
     Option.bind (zat v8.1 r (zbZ acc)) λv9=>
     some (true,v9.2.2.1,v9.2.2.2.1,())else none)=some r0/\r0=(true,(c::r).drop 1,zbZ (acc++[m]),()):=by
   intro j m v hv hj hm;subst hv;have cc:((j:Int)>=0):=by omega
   have e:(UInt8.ofNat m).toNat=m:=by simp[UInt8.toNat_ofNat'];omega
   simp only[cc,decide_true,yB,zfz,hj,Option.map_some,qz1,e,wi m (by omega),zhP m (by omega),write m (by omega)];exact⟨_,rfl,rfl⟩
  by_cases h110:k=110
  ·subst h110;simpa using small 0 10 0 rfl rfl (by omega)
  by_cases h116:k=116
  ·subst h116;simpa using small 1 9 1 rfl rfl (by omega)
  by_cases h114:k=114
  ·subst h114;simpa using small 2 13 2 rfl rfl (by omega)
  by_cases h98:k=98
  ·subst h98;simpa using small 3 8 3 rfl rfl (by omega)
  by_cases h102:k=102
  ·subst h102;simpa using small 4 12 4 rfl rfl (by omega)
  by_cases h118:k=118
  ·subst h118;simpa using small 5 11 5 rfl rfl (by omega)
  have m1: ¬((-1:Int)>=0):=by decide
  simp only[h110,h116,h114,h98,h102,h118,yA,m1,decide_false,qz2];have cc: ∀m:Nat,((k:Int)==((m:Nat):Int))=decide (k=m):=λm=>zgK k m
  have c10:((k:Int)==10)=decide (k=10):=cc 10;have c120:((k:Int)==120)=decide (k=120):=cc 120;have c117:((k:Int)==117)=decide (k=117):=cc 117;have c48:((k:Int)==48)=decide (k=48):=cc 48;have c13:((k:Int)==13)=decide (k=13):=cc 13;simp only[c10,c120,c117,c48,c13,yT];by_cases h10:k=10
  ·rw[yL h10,yL h10];exact⟨_,rfl,by simp⟩
  rw[yK h10,yK h10];by_cases h120:k=120
  ·have h48: ¬k=48:=by omega
   rw[yL h120,yK h48,yL h120];obtain⟨x,e1,e2⟩:=zzZ r acc 2 (.inl rfl) hr ha;have e1':zcy 2 r (zbZ acc)=some x:=e1;rw[e1'];refine⟨_,rfl,?_⟩;cases hn:hexN 2 r 0 with
   |none=>rw[hn]at e2;exact e2
   |some n=>rw[hn]at e2;simp only at e2;subst e2;simp
  rw[yK h120];by_cases h117:k=117
  ·have h48: ¬k=48:=by omega
   rw[yL h117,yK h48,yK h120,yL h117];obtain⟨x,e1,e2⟩:=zzZ r acc 4 (.inr rfl) hr ha;have e1':zcy 4 r (zbZ acc)=some x:=e1;rw[e1'];refine⟨_,rfl,?_⟩;cases hn:hexN 4 r 0 with
   |none=>rw[hn]at e2;exact e2
   |some n=>rw[hn]at e2;simp only at e2;subst e2;simp
  rw[yK h117];by_cases h48:k=48
  ·rw[yL h48,yL h48];have w0:=write 0 (by omega);have u0:zdJ 0=some (enc1 0,()):=zhP 0 (by omega);simp only[u0,qz1,w0];cases r with
   |nil=>exact⟨_,rfl,by simp⟩
   |cons d r'=>
    have gd0:zam (d::r') 0=some ((d.toNat:Nat):Int):=rfl;have cn:((d::r':Str)==([]:Str))=false:=rfl;simp only[cn,qz2,yA,gd0,qz1];by_cases hd1:d.toNat<48
    ·have cd:((d.toNat:Nat):Int)<48:=by omega
     have cd2: ¬(48<=d.toNat/\d.toNat<=57):=by omega
     simp only[cd,decide_true,yB,cd2,yA];exact⟨_,rfl,by simp⟩
    ·have cd: ¬((d.toNat:Nat):Int)<48:=by omega
     simp only[cd,decide_false,qz2,yA];by_cases hd2:d.toNat<=57
     ·have cd2:(48<=d.toNat/\d.toNat<=57):=by omega
      have cd3: ¬((d.toNat:Nat):Int)>57:=by omega
      simp only[cd2,and_self,yB,cd3,decide_false];exact⟨_,rfl,by simp⟩
     ·have cd2: ¬(48<=d.toNat/\d.toNat<=57):=by omega
      have cd3:((d.toNat:Nat):Int)>57:=by omega
      simp only[cd2,yA,cd3,decide_true];exact⟨_,rfl,by simp⟩
  rw[yK h48,yK h48,yK h120,yK h117];by_cases hbad:k>127\/k=13\/k=120\/k=117\/(48<=k/\k<=57)\/k=10
  ·have cb:((decide (k=13)||(decide ((k:Int)>=49)&&decide ((k:Int)<=57)))||decide ((k:Int)>=128))=true:=by
    simp only[yQ,qz4,yT];omega
   rw[yL hbad,cb,yL rfl];exact⟨_,rfl,rfl⟩
  ·have cb:((decide (k=13)||(decide ((k:Int)>=49)&&decide ((k:Int)<=57)))||decide ((k:Int)>=128))=false:=by
    simp only[Bool.or_eq_false_iff,Bool.and_eq_false_iff,decide_eq_false_iff_not];omega
   rw[yK hbad,cb,yK (by simp)];simp only[wi k (by omega),zhP k (by omega),qz1,write k (by omega)];exact⟨_,rfl,by simp⟩
theorem zyf(q:UInt8)(s0:Str)(hs:(q::s0).length<=100000000): ∀(m:Nat) (rest:Str) (acc:List Nat),rest.length<m->rest.length<=s0.length->acc.length+rest.length<=100000000->okU acc->
  zaq zeX m (q::s0,rest,zbZ acc,())=some ((zeJ q (q::s0) m rest acc).1,(zeJ q (q::s0) m rest acc).2.1,(zeJ q (q::s0) m rest acc).2.2,()):=by
 intro m;induction m with
 |zero=>intro rest acc h;omega
 |succ m ih=>
  intro rest acc h1 h2 h3 h4;cases rest with
  |nil=>exact zW rfl
  |cons c r=>
   have hb:=c.toNat_lt;have g0:zam (c::r) 0=some ((c.toNat:Nat):Int):=rfl;have gq:zam (q::s0) 0=some ((q.toNat:Nat):Int):=rfl
   have hcut:zar (c::r) 1 (((c::r).length:Nat):Int)=some r:=by
    have:=zdC (c::r) 1 (by simp);simpa using this
   have c0:((c::r:Str)==([]:Str))=false:=rfl;have hq:((((c.toNat:Nat):Int))==((q.toNat:Nat):Int))=decide (c=q):=by rw[zgK];simp[UInt8.toNat_inj]
   have u8b: ∀n:Nat,n<256->((((c.toNat:Nat):Int))==((n:Nat):Int))=decide (c=UInt8.ofNat n):=λn h=>by
    rw[zgK,decide_eq_decide];exact(zkp _ n h).symm
   have e10:((((c.toNat:Nat):Int))==10)=decide (c=10):=u8b 10 (by omega);have e13:((((c.toNat:Nat):Int))==13)=decide (c=13):=u8b 13 (by omega);have e92:((((c.toNat:Nat):Int))==92)=decide (c=92):=u8b 92 (by omega);have b92:((((c.toNat:Nat):Int)) !=92)= !decide (c=92):=by unfold bne;rw[e92]
   have w:IntKind.wrap .i64 ((((q::s0).length:Nat):Int) - ((r.length:Nat):Int))=(((q::s0).length -r.length:Nat):Int):=by
    have:r.length<=(q::s0).length:=by simp only[qz3]at h2⊢;omega
    rw[wrap_i64 (by omega) (by omega)];omega
   have head:zeX (q::s0,c::r,zbZ acc,())=(if c=q then some (.inr (zbZ acc,(((q::s0).length -r.length:Nat):Int),0,()))
     else
      if(c=10\/c=13\/c.toNat>127)then some (.inr ([],0,10,()))
      else
       if c=92 then
        Option.bind (zei r (zbZ acc)) λr_16=>
         if(!r_16.1)=true then some (Sum.inr (([]:Str),0,10,()))
         else some (Sum.inl (q::s0,r_16.2.1,r_16.2.2.1,()))
       else some (.inl (q::s0,r,zbZ (acc++[c.toNat]),()))):=by
    simp only[zeX,c0,yN,yB,g0,gq,hcut,qz1,zfw,hq,e10,e13,e92,b92,w];by_cases hcq:c=q
    ·simp only[hcq,decide_true,yB]
    ·simp only[hcq,decide_false,qz2,yA];by_cases hbad:c=10\/c=13\/c.toNat>127
     ·have cb:((decide (c=10)||decide (c=13))||decide (((c.toNat:Nat):Int)>=128))=true:=by
       simp only[yQ,yT];rcases hbad with h|h|h
       ·exact .inl (.inl h)
       ·exact .inl (.inr h)
       ·right;omega
      rw[cb,yL hbad];rfl
     ·have cb:((decide (c=10)||decide (c=13))||decide (((c.toNat:Nat):Int)>=128))=false:=by
       simp only[Bool.or_eq_false_iff,decide_eq_false_iff_not];refine⟨⟨λh=>hbad (.inl h),λh=>hbad (.inr (.inl h))⟩,λh=>hbad (.inr (.inr (by omega)))⟩
      rw[cb,yK hbad];simp only[qz2,yA];by_cases h92:c=92
      ·simp only[h92,decide_true,yB,yO,qz2,yA]
      ·have w2:IntKind.wrap .i64 ((c.toNat:Nat):Int)=((c.toNat:Nat):Int):=wrap_i64 (by omega) (by omega);have hw:=zm1 (enc1 c.toNat) r (zbZ acc) (by simp only[zgA];simp[enc1];omega)
       simp only[h92,decide_false,qz2,yA,yN,yB,w2,zhP c.toNat (by omega),qz1,hw];simp[zbZ]
   by_cases hcq:c=q
   ·rw[yL hcq]at head;refine(zW head).trans ?_;unfold zeJ zcd;simp only[hcq,yB]
   ·rw[yK hcq]at head;by_cases hbad:c=10\/c=13\/c.toNat>127
    ·rw[yL hbad]at head;refine(zW head).trans ?_;unfold zeJ zcd;simp only[hcq,hbad,yB,yA]
    ·rw[yK hbad]at head;by_cases h92:c=92
     ·rw[yL h92]at head;obtain⟨x,e1,e2⟩:=zFn r acc (by simp only[qz3]at h3;omega) (by omega)
      rw[e1]at head;simp only[qz1]at head;cases hesc:zhe r with
      |none=>
       rw[hesc]at e2;simp only at e2;rw[e2]at head;refine(zW head).trans ?_;unfold zeJ zcd;rw[yK hcq,yK hbad,yL h92,hesc]
      |some p=>
       obtain⟨us,k⟩:=p;rw[hesc]at e2;simp only at e2;obtain⟨p1,p2,p3,p4⟩:=zmL hesc;subst e2;have hgo:zeX (q::s0,c::r,zbZ acc,())=some (.inl (q::s0,r.drop k,zbZ (acc++us),())):=head
       have hacc:okU (acc++us):=by
        intro n hn;rcases List.mem_append.mp hn with h|h
        · exact h4 n h
        · exact p1 n h
       simp only[qz3]at h1 h2 h3;have g1:=ih (r.drop k) (acc++us) (by simp;omega) (by simp;omega) (by simp;omega) hacc
       refine(zaN hgo).trans (g1.trans ?_);unfold zeJ;conv=>rhs;unfold zcd
       rw[yK hcq,yK hbad,yL h92,hesc]
     ·rw[yK h92]at head
      have hacc:okU (acc++[c.toNat]):=by
       intro n hn;rcases List.mem_append.mp hn with h|h
       ·exact h4 n h
       ·simp at h;omega
      simp only[qz3]at h1 h2 h3;have g1:=ih r (acc++[c.toNat]) (by omega) (by omega) (by simp;omega) hacc
      refine(zaN head).trans (g1.trans ?_);unfold zeJ;conv=>rhs;unfold zcd
      rw[yK hcq,yK hbad,yK h92]
theorem zAC(s:Str)(hs:s.length<=100000000):zns s=some ((zbs s).1,(zbs s).2.1,(zbs s).2.2,()):=by
 unfold zns;cases s with
 |nil=>rfl
 |cons q s0=>
  have gq:zam (q::s0) 0=some ((q.toNat:Nat):Int):=rfl;have c0:((q::s0:Str)==([]:Str))=false:=rfl;have b39:(((q.toNat:Nat):Int) !=39)= !decide (q=39):=zEM q 39 (by omega);have b34:(((q.toNat:Nat):Int) !=34)= !decide (q=34):=zEM q 34 (by omega)
  have hcut:zar (q::s0) 1 (((q::s0).length:Nat):Int)=some s0:=by
   have:=zdC (q::s0) 1 (by simp);simpa using this
  simp only[c0,qz2,yA,gq,qz1,b39,b34,hcut]
  have good:(q=39\/q=34)->Lp.loop zeX (q::s0,s0,[],())=some ((zbs (q::s0)).1,(zbs (q::s0)).2.1,(zbs (q::s0)).2.2,()):=by
   intro hq;have g1:=zyf q s0 hs (s0.length+1) s0 [] (by omega) (by omega) (by simp only[qz3]at hs;simp;omega) (by intro n hn;cases hn)
   have hfin:zbs (q::s0)=zeJ q (q::s0) (s0.length+1) s0 []:=by
    unfold zbs zeJ;simp only[hq,yB]
   rw[hfin];simp only[qz3]at hs;exact zbA g1 (by omega)
  by_cases h39:q=39
  ·have d39:decide (q=39)=true:=by rw[yT];exact h39
   simp only[d39,yO,qz2,yA,qz1];exact good (.inl h39)
  ·have d39:decide (q=39)=false:=by rw[decide_eq_false_iff_not];exact h39
   simp only[d39,yN,yB];by_cases h34:q=34
   ·have d34:decide (q=34)=true:=by rw[yT];exact h34
    simp only[d34,yO,qz1,qz2,yA];exact good (.inr h34)
   ·have d34:decide (q=34)=false:=by rw[decide_eq_false_iff_not];exact h34
    have:zbs (q::s0)=([],0,10):=by
     unfold zbs;simp only[h39,h34,or_self,yA]
    rw[this];simp only[d34,yN];rfl
theorem zeu(s:Str)(n:Nat)(c:UInt8)(h:s[n]? =some c):zam s (n:Int)=some ((c.toNat:Nat):Int):=by
 unfold zam;rw[yL (by omega)];simp[h]
theorem znD{α:Type}[BEq α][LawfulBEq α][DecidableEq α](a b:α):(a==b)=decide (a=b):=by
 rw[Bool.eq_iff_iff];simp
def zEp(o:Nat)(t:Str)(k:Int)(x:zQ):Int×Int×zQ×Unit:=match okN o t 0 with
 |some r=>((r:Int),k,x,())
 |none=>(0,0,x,())
theorem zzP(o:Nat)(ho:o=10\/o=16)(t:Str)(h0:t≠[])(ht:t.length<=1000000000)(k:Int)(x:zQ):(Option.bind (zaJ t (o:Int) 53) λr_12=>
   if(!(r_12.2.1).isNil)=true then
    some ((0:Int),(0:Int),x,())
   else
    Option.bind (strings_Contains t ([95]:Str)) λr_13=>
    if r_13.1=true then
     some (0,0,x,())
    else
     some ((IntKind.wrap .i64 r_12.1),k,x,()))=some (zEp o t k x):=by
 obtain⟨v,hv⟩:=zEa o ho t h0 ht;rw[hv];unfold zEp;cases hk:okN o t 0 with
 |none=>rfl
 |some r=>
   have hr:r<=9007199254740991/\zcl o t 0=some r:=by
     unfold okN at hk;split at hk
     · cases hk
     · split at hk
       · rename_i h1 h2;cases hk;exact⟨h2,h1⟩
       · cases hk
   simp only[qz1,zY.isNil,yO,qz2,yA];rw[zvQ t [95] ht,zm5,zyK t 0 r hr.2];simp only[qz1,qz2,yA];rw[wrap_i64 (by omega) (by omega)]
def zG8(o:Nat)(t:Str)(k:Int)(x:zQ):Int×Int×zQ×Unit:=match zcl o t 0 with
 |some n=>if n<=9007199254740991 then((n:Int),k,x,())else(0,0,x,())
 |none=>(0,0,x,())
theorem zEO(o:Nat)(t:Str)(k:Int)(x:zQ):zEp o t k x=zG8 o t k x:=by
 unfold zEp zG8 okN;cases zcl o t 0 with
 |none=>rfl
 |some n=>by_cases hm:n<=9007199254740991<;>simp only[hm,yB,yA]
theorem zCL(ds:Str)(kk:Int)(x:zQ)(hdl:ds.length<=1000000000)(hz:ds=[]->kk=0):(Option.bind (
    if(decide (((ds.length:Nat):Int)>2))=true then
     Option.bind (zar ds 0 2) λs_7=>
     Option.bind (
       if(s_7==([48,120]:Str))=true then
        some true
       else
        Option.bind (zar ds 0 2) λs_8=>
        some (s_8==([48,88]:Str))) λb_9=>
     some b_9
    else
     some false) λb_10=>
  if b_10=true then
   Option.bind (zar ds 2 ((ds.length:Nat):Int)) λs_11=>
   Option.bind (zaJ s_11 16 53) λr_12=>
   if(!(r_12.2.1).isNil)=true then
    some (0,0,x,())
   else
    Option.bind (strings_Contains s_11 ([95]:Str)) λr_13=>
    if r_13.1=true then
     some (0,0,x,())
    else
     some ((IntKind.wrap .i64 r_12.1),kk,x,())
  else
   Option.bind (
     if(decide (((ds.length:Nat):Int)>1))=true then
      Option.bind (zam ds 0) λc_15=>
      some (c_15==48)
     else
      some false) λb_16=>
   if b_16=true then
    some (0,0,x,())
   else
    Option.bind (zaJ ds 10 53) λr_17=>
    if(!(r_17.2.1).isNil)=true then
     some (0,0,x,())
    else
     Option.bind (strings_Contains ds ([95]:Str)) λr_18=>
     if r_18.1=true then
      some (0,0,x,())
     else
      some ((IntKind.wrap .i64 r_17.1),kk,x,()))=some (match zvv ds with
     |some n=>if n<=9007199254740991 then((n:Int),kk,x,())else(0,0,x,())
     |none=>(0,0,x,())):=by
 have h10:(Option.bind (zaJ ds 10 53) λr_17=>
    if(!(r_17.2.1).isNil)=true then
     some ((0:Int),(0:Int),x,())
    else
     Option.bind (strings_Contains ds ([95]:Str)) λr_18=>
     if r_18.1=true then
      some (0,0,x,())
     else
      some ((IntKind.wrap .i64 r_17.1),kk,x,()))=some (zG8 10 ds kk x):=by
   by_cases h0:ds=[]
   · rw[hz h0];subst h0;rfl
   · rw[<-zEO];exact zzP 10 (.inl rfl) ds h0 hdl kk x
 have hno:(Option.bind (
   if(decide (((ds.length:Nat):Int)>1))=true then
    Option.bind (zam ds 0) λc_15=>
    some (c_15==48)
   else
    some false) λb_16=>
 if b_16=true then
  some (0,0,x,())
 else
  Option.bind (zaJ ds 10 53) λr_17=>
  if(!(r_17.2.1).isNil)=true then
   some (0,0,x,())
  else
   Option.bind (strings_Contains ds ([95]:Str)) λr_18=>
   if r_18.1=true then
    some (0,0,x,())
   else
    some ((IntKind.wrap .i64 r_17.1),kk,x,()))=some (match(if 1<ds.length/\ds.head?=some 48 then none else zcl 10 ds 0)with
     |some n=>if n<=9007199254740991 then((n:Int),kk,x,())else(0,0,x,())
     |none=>(0,0,x,())):=by
   by_cases h1:1<ds.length
   · have d1:(((ds.length:Nat):Int)>1):=by omega
     cases hdd:ds with
     |nil=>rw[hdd]at h1;simp at h1
     |cons a r=>
       rw[hdd]at d1 h1 h10;simp only[d1,decide_true,yB,zgv,qz1,h1,true_and,List.head?_cons,Option.some.injEq]
       have eb:((((a.toNat:Nat):Int))==48)=decide (a=48):=by
         have h48:(a=48)↔a.toNat=48:=by
          constructor
          ·intro e;subst e;rfl
          ·intro e;apply UInt8.toNat_inj.mp;rw[e];rfl
         rw[znD,decide_eq_decide,h48];omega
       rw[eb];by_cases ha:a=48
       · simp only[ha,decide_true,yB]
       · simp only[ha,decide_false,qz2,yA];exact h10
   · have d1: ¬(((ds.length:Nat):Int)>1):=by omega
     simp only[d1,h1,decide_false,qz2,yA,false_and,qz1];exact h10
 unfold zvv;by_cases h2:2<ds.length
 · have d2:(((ds.length:Nat):Int)>2):=by omega
   have hc2:zar ds 0 2=some (ds.take 2):=by
     have:=zfF ds 0 2 (by omega) (by omega);simpa using this
   have hcd:zar ds 2 ((ds.length:Nat):Int)=some (ds.drop 2):=zdC ds 2 (by omega)
   have h16:=zzP 16 (.inr rfl) (ds.drop 2) (by
     intro e;have:=congrArg List.length e;simp only[List.length_drop,qz6]at this;omega) (by simp only[List.length_drop];omega) kk x
   rw[zEO]at h16;simp only[d2,decide_true,yB,hc2,qz1];by_cases hx:ds.take 2=[48,120]
   · have bx:(ds.take 2==([48,120]:Str))=true:=by simpa using hx
     simp only[bx,yB,hcd,qz1,h2,hx,true_and,true_or];exact h16
   · have bx:(ds.take 2==([48,120]:Str))=false:=by simpa using hx
     by_cases hX:ds.take 2=[48,88]
     · have bX:(ds.take 2==([48,88]:Str))=true:=by simpa using hX
       simp only[bx,bX,qz2,yA,yB,hcd,qz1,h2,hX,true_and,or_true];exact h16
     · have bX:(ds.take 2==([48,88]:Str))=false:=by simpa using hX
       simp only[bx,bX,qz2,yA,h2,hx,hX,or_self,and_false,qz1];exact hno
 · have d2: ¬(((ds.length:Nat):Int)>2):=by omega
   simp only[d2,h2,decide_false,qz2,yA,false_and,qz1];exact hno
theorem zxG(c:zQ)(hs:c.rest.length<=1000000000):zf2 c=some (match zeG c.rest with|some (n,k)=>((n:Int),(k:Int),c,())|none=>(0,0,c,())):=by
 obtain⟨src,s,fr⟩:=c;simp only at hs⊢;have hle:=zhb s;unfold zf2;simp only[zdo];rw[zvs s hs,qz1];have hlen:(s.take (zI s)).length=zI s:=by rw[List.length_take];omega
 have hcut:zar s 0 ((zI s:Nat):Int)=some (s.take (zI s)):=by
   have:=zfF s 0 (zI s) (by omega) hle;simpa using this
 simp only[hcut,qz1];generalize hds:s.take (zI s)=ds at hlen;have hdl:ds.length<=1000000000:=by omega
 have rest:=zCL ds ((zI s:Nat):Int) ⟨src,s,fr⟩ hdl (λh=>by rw[h]at hlen;simp at hlen;omega)
 unfold zeG;rw[hds];by_cases hlt:zI s<s.length
 · have d:(((zI s:Nat):Int)< ((s.length:Nat):Int)):=by omega
   have hx:s[zI s]? =some s[zI s]:=qz9 hlt;have hg:zam s ((zI s:Nat):Int)=some ((s[zI s].toNat:Nat):Int):=zeu s _ _ hx;simp only[d,decide_true,yB,hg,qz1];rw[hx]
   have eb:((((s[zI s].toNat:Nat):Int))==46)=decide (s[zI s]=46):=by
     have h46:(s[zI s]=46)↔s[zI s].toNat=46:=by
       constructor
       · intro e;rw[e];rfl
       · intro e;apply UInt8.toNat_inj.mp;rw[e];rfl
     rw[znD,decide_eq_decide,h46];omega
   rw[eb];by_cases h46:s[zI s]=46
   · simp only[h46,decide_true,yB]
   · have hne: ¬(some s[zI s]=some (46:UInt8)):=by simpa using h46
     simp only[h46,decide_false,hne,qz2,yA];rw[rest];cases zvv ds with
     |none=>rfl
     |some n=>by_cases hm:n<=9007199254740991<;>simp only[hm,yB,yA]
 · have d: ¬(((zI s:Nat):Int)< ((s.length:Nat):Int)):=by omega
   have hx:s[zI s]? =none:=List.getElem?_eq_none (by omega);simp only[d,decide_false,qz2,yA,qz1];rw[hx,rest];simp only[reduceCtorEq,yA];cases zvv ds with
   |none=>rfl
   |some n=>by_cases hm:n<=9007199254740991<;>simp only[hm,yB,yA]
theorem zcB(c:UInt8)(n:Nat)(h:n<256):((((c.toNat:Nat):Int))==((n:Nat):Int))=decide (c=UInt8.ofNat n):=by
 have e:(c=UInt8.ofNat n)↔c.toNat=n:=zkp c n h;rw[znD,decide_eq_decide,e];omega
theorem ztb(ws:List Str)(list s:Str)(hl:list=joined ws)(hw: ∀w∈ws,(32:UInt8)∉w)(hn:([]:Str)∉ws):zgl list s=ws.contains s:=by
 subst hl;unfold zgl;cases hc:s.contains 32 with
 |true=>
  have:ws.contains s=false:=by
   rw[<-Bool.not_eq_true];intro h;have hm:=hw s (by simpa using h);exact hm (by simpa using hc)
  rw[this];simp
 |false=>
  rw[ziw s (by simpa using hc) ws hw];cases s with
  |nil=>
   have:ws.contains ([]:Str)=false:=by rw[<-Bool.not_eq_true];intro h;exact hn (by simpa using h)
   rw[this];rfl
  |cons a r=>rfl
theorem zzL(s:Str):zEm s=zky s:=ztb zek _ s (by decide+kernel) (by decide+kernel) (by decide+kernel)
theorem zDT(x:Str)(h:x.length<=1000000000):zft ([32,61,61,61,32,33,61,61,32]:Str) x=some (zgt.contains x,()):=by
 rw[zl3 _ _ (by decide) h,ztb zgt _ x (by decide+kernel) (by decide+kernel) (by decide+kernel)]
theorem zDV(x:Str)(h:x.length<=1000000000):zft ([32,60,61,32,62,61,32,61,61,32,33,61,32,43,43,32,45,45,32,38,38,32,124,124,32,43,61,32,45,61,32,42,61,32,47,61,32,37,61,32]:Str) x=some (zgT.contains x,()):=by
 rw[zl3 _ _ (by decide) h,ztb zgT _ x (by decide+kernel) (by decide+kernel) (by decide+kernel)]
def zAV(r:Option (zk×Int×zQ×Unit))(c:zQ)(o:Option (Tok×Nat)):Prop:=match o with
 |some (t,n)=>r=some (t,(n:Int),c,())
 |none=>∃t,r=some (t,0,c,())
theorem zCr(c:zQ)(h0:c.rest≠[])(hs:c.rest.length<=100000000):zAV (zeo c) c (zdp c.rest):=by
 obtain⟨src,s,fr⟩:=c;simp only at h0 hs⊢;cases s with
 |nil=>exact absurd rfl h0
 |cons b r=>
  have hrow:=zvs (b::r) (by omega);have hle:=zhb (b::r)
  have hcut: ∀k:Nat,k<=(b::r).length->zar (b::r) 0 (k:Int)=some ((b::r).take k):=by
   intro k hk;have:=zfF (b::r) 0 k (by omega) hk;simpa using this
  unfold zeo zdp;simp only[zgv,qz1,zkP,zlT,zdo];by_cases hl:isLet b=true
  ·simp only[hl,yB,hrow,qz1];by_cases h32:32<zI (b::r)
   ·have d:(((zI (b::r):Nat):Int)>32):=by omega
    simp only[d,h32,decide_true,yB];exact⟨_,rfl⟩
   ·have d: ¬(((zI (b::r):Nat):Int)>32):=by omega
    simp only[d,h32,decide_false,qz2,yA,hcut _ hle,qz1];rw[zxE _ (by simp only[List.length_take];omega),qz1,zzL]
    cases zky ((b::r).take (zI (b::r)))with
    |true=>simp only[yB];rfl
    |false=>simp only[qz2,yA];rfl
  ·have hl':isLet b=false:=by simpa using hl
   simp only[hl',qz2,yA];by_cases hd:zgQ b=true
   ·have hn:=zxG ⟨src,b::r,fr⟩ (by simp only;omega)
    simp only at hn;simp only[hd,yB,hn,qz1];cases zeG (b::r)with
    |none=>exact⟨_,rfl⟩
    |some p=>rfl
   ·have hd':zgQ b=false:=by simpa using hd
    simp only[hd',qz2,yA];have b39:((((b.toNat:Nat):Int))==39)=decide (b=39):=zcB b 39 (by omega);have b34:((((b.toNat:Nat):Int))==34)=decide (b=34):=zcB b 34 (by omega);rw[b39,b34];by_cases hq:b=39\/b=34
    ·have dq:(decide (b=39)||decide (b=34))=true:=by simpa using hq
     simp only[dq,yB,hq,zAC (b::r) hs,qz1];generalize hx:zbs (b::r)=q;obtain⟨u,n,e⟩:=q;have hb:=zvY hx;simp only;by_cases hn:n=0
     ·simp only[hn,yB];exact⟨_,rfl⟩
     ·simp only[hn,yA];have:((n.toNat:Nat):Int)=n:=by omega
      unfold zAV;simp only[this]
    ·have dq:(decide (b=39)||decide (b=34))=false:=by simpa using hq
     simp only[dq,qz2,yA,hq]
     have hlast: ¬(2< (b::r).length/\zgt.contains ((b::r).take 3)=true)->¬(1< (b::r).length/\zgT.contains ((b::r).take 2)=true)->
       zAV (zef 0 (b::r) ((b.toNat:Nat):Int) ⟨src,b::r,fr⟩ ⟨0,[],0,0,false⟩) ⟨src,b::r,fr⟩ (if zba (b::r)=0 then none else some (({Kind:=5,Text:=(b::r).take (zba (b::r)),Num:=0,At:=0,Fresh:=false}:Tok),zba (b::r))):=by
      intro n3 n2;unfold zef strings_IndexByte zeg;simp only[ze5,Option.map_some,qz1,zdo,zcP];have e1:(((b.toNat:Nat):Int)).toNat.toUInt8=b:=by simp
      have e2:=Lib.contains_iff_indexByte ([123,125,40,41,91,93,46,59,44,60,62,43,45,42,47,37,33,63,58,61]:Str) b
      have e3:zba (b::r)=if zmh.contains b=true then 1 else 0:=by
       unfold zba;rw[yK n3,yK n2];rfl
      rw[e1,e3];have e4:decide (Lib.indexByte ([123,125,40,41,91,93,46,59,44,60,62,43,45,42,47,37,33,63,58,61]:Str) b>=0)=zmh.contains b:=e2.symm;rw[e4];cases zmh.contains b with
      |true=>
       simp only[yB];have:=hcut 1 (by simp);rw[show zar (b::r) 0 1=_ from this];rfl
      |false=>
       simp only[qz2,yA];exact⟨_,rfl⟩
     have hmid: ¬(2< (b::r).length/\zgt.contains ((b::r).take 3)=true)->
       zAV (zen 0 (b::r) ((b.toNat:Nat):Int) ⟨src,b::r,fr⟩ ⟨0,[],0,0,false⟩) ⟨src,b::r,fr⟩ (if zba (b::r)=0 then none else some (({Kind:=5,Text:=(b::r).take (zba (b::r)),Num:=0,At:=0,Fresh:=false}:Tok),zba (b::r))):=by
      intro n3;unfold zen;simp only[zdo,zcP];by_cases h1:1< (b::r).length
      ·have d1:((((b::r).length:Nat):Int)>1):=by omega
       have hc2':zar (b::r) 0 2=some ((b::r).take 2):=hcut 2 (by omega);simp only[d1,decide_true,yB,hc2',qz1,zDV _ (show((b::r).take 2).length<=1000000000 by simp only[List.length_take];omega)]
       cases hb:zgT.contains ((b::r).take 2)with
       |true=>
        have e3:zba (b::r)=2:=by
         unfold zba;rw[yK n3,yL ⟨h1,hb⟩]
        rw[e3];simp only[yB];rfl
       |false=>exact hlast n3 (by rw[hb];simp)
      ·have d1: ¬((((b::r).length:Nat):Int)>1):=by omega
       simp only[d1,decide_false,qz2,yA];exact hlast n3 (by simp only[h1,false_and,not_false_eq_true])
     by_cases h2:2< (b::r).length
     ·have d2:((((b::r).length:Nat):Int)>2):=by omega
      have hc3':zar (b::r) 0 3=some ((b::r).take 3):=hcut 3 (by omega);simp only[d2,decide_true,yB,hc3',qz1,zDT _ (show((b::r).take 3).length<=1000000000 by simp only[List.length_take];omega)]
      cases hb:zgt.contains ((b::r).take 3)with
      |true=>
       have e3:zba (b::r)=3:=by
        unfold zba;rw[yL ⟨h2,hb⟩]
       rw[e3];simp only[yB];rfl
      |false=>exact hmid (by rw[hb];simp)
     ·have d2: ¬((((b::r).length:Nat):Int)>2):=by omega
      simp only[d2,decide_false,qz2,yA];exact hmid (by simp only[h2,false_and,not_false_eq_true])
theorem zmi(len:Nat)(p:Tok×Nat)(l:List (Tok×Nat)):zci len (p::l)=p.1.at_ ((len -p.2:Nat):Int)::zci len l:=rfl
theorem zw3{a b:Nat}(h:b<=a)(ha:a<=1000000000000):IntKind.wrap .i64 ((a:Int) - (b:Int))=((a -b:Nat):Int):=by rw[wrap_i64 (by omega) (by omega)];omega
theorem zJl(l:List zk):zmg l=some (l,()):=by
 unfold zmg
 have:zCj l 0 ((l.length:Nat):Int) ((l.length:Nat):Int)=some l:=by
  unfold zCj;simp
 rw[this];rfl
theorem zBe(src:Str)(hs:src.length<=100000000): ∀(m:Nat) (s:Str) (f0:Bool) (out:List Tok),s.length<m->s.length<=src.length->out.length+s.length<=src.length->
  match zch m s false with
   | .inl l=>zaq zg8 m (src,⟨src,s,f0⟩,out,())=some (out++zci src.length l,0,0,())
   | .inr k=>k<=src.length/\zaq zg8 m (src,⟨src,s,f0⟩,out,())=some ([],((src.length -k:Nat):Int),60,())
 |0,s,f0,out,h,_,_=>by omega
 |m+1,s,f0,out,hm,hsl,hout=>by
  have hb:=zyB ⟨src,s,f0⟩ (by simp only;omega)
  simp only at hb;have hl:=zcR (s.length+1) s false;rw[zch];generalize hq:zT (s.length+1) s false=q at hb hl;obtain⟨r,f,ok⟩:=q;simp only at hb hl⊢;have w:IntKind.wrap .i64 (((src.length:Nat):Int) - ((r.length:Nat):Int))=((src.length -r.length:Nat):Int):=zw3 (by omega) (by omega)
  have hstep:zg8 (src,⟨src,s,f0⟩,out,())=(if ok=true then
    if(r==([]:Str))=true then
     some (.inr (out++[({Kind:=0,Text:=([]:Str),Num:=0,At:=((src.length -r.length:Nat):Int),Fresh:=f}:zk)],0,0,()))
    else Option.bind (zeo ⟨src,r,f⟩) λr_12=>
     if(r_12.2.1==0)=true then
      some (Sum.inr (([]:List zk),IntKind.wrap .i64 (((src.length:Nat):Int) - ((r_12.2.2.1.rest.length:Nat):Int)),60,()))
     else
      Option.bind (zar r_12.2.2.1.rest r_12.2.1 ((r_12.2.2.1.rest.length:Nat):Int)) λs_17=>
      some (Sum.inl (src,(⟨r_12.2.2.1.src,s_17,r_12.2.2.1.fresh⟩:zQ),out++[(⟨r_12.1.Kind,r_12.1.Text,r_12.1.Num,((src.length -r.length:Nat):Int),r_12.2.2.1.fresh⟩:zk)],()))
   else some (.inr ([],((src.length -r.length:Nat):Int),60,()))):=by
   simp only[zg8,zdo,hb,qz1,w,zJl];rw[zhY (by simp only[qz3,qz6];omega)]
   simp only[qz1];cases ok with
   |false=>rfl
   |true=>
    simp only[yB];cases(r==([]:Str))with
    |true=>rfl
    |false=>
     simp only[qz2,yA];congr 1;funext r_12;rw[zhY (by simp only[qz3,qz6];omega)]
     rfl
  cases ok with
  |false=>
   simp only[qz2,yA]at hstep;simp only[yB];exact⟨by omega,zW hstep⟩
  |true=>
   simp only[yB]at hstep;simp only[Bool.true_eq_false,yA];by_cases hr:r=[]
   ·subst hr;simp only[beq_self_eq_true,yB]at hstep;simp only[yB];exact zW hstep
   ·have br:(r==([]:Str))=false:=by simpa using hr
    simp only[br,qz2,yA]at hstep;simp only[hr,yA];have h1:=zCr ⟨src,r,f⟩ hr (by simp only;omega)
    simp only at h1;cases ho:zdp r with
    |none=>
     rw[ho]at h1;obtain⟨t,e1⟩:=h1;rw[e1]at hstep;simp only[qz1,beq_self_eq_true,yB,w]at hstep;exact⟨by omega,zW hstep⟩
    |some p=>
     obtain⟨t,n⟩:=p;rw[ho]at h1;have e1:zeo ⟨src,r,f⟩=some (t,(n:Int),⟨src,r,f⟩,()):=h1;rw[e1]at hstep;have hn:=zgG ho;have c0:((n:Int)==0)=false:=by rw[yH];omega
     have hcut:zar r (n:Int) ((r.length:Nat):Int)=some (r.drop n):=zdC r n hn.2.1;simp only[qz1,c0,qz2,yA,hcut]at hstep;have htok:(⟨t.Kind,t.Text,t.Num,((src.length -r.length:Nat):Int),f⟩:Tok)=(t.fresh f).at_ ((src.length -r.length:Nat):Int):=rfl;rw[htok]at hstep;have hdl:(r.drop n).length=r.length -n:=List.length_drop;have g:=zBe src hs m (r.drop n) f (out++[(t.fresh f).at_ ((src.length -r.length:Nat):Int)]) (by omega) (by omega) (by simp only[qz5,qz3,qz6];omega)
     dsimp only;cases hc:zch m (r.drop n) false with
     |inl l=>
       rw[hc]at g;simp only at g⊢;refine(zaN hstep).trans (g.trans ?_);rw[zmi];simp
     |inr k=>
       rw[hc]at g;exact⟨g.1,(zaN hstep).trans g.2⟩
theorem zCf(src:Str)(hs:src.length<=100000000):zpi src=some ((zaX src).1,(zaX src).2.1,(zaX src).2.2,()):=by
 unfold zpi zaX;by_cases h:4096<src.length
 ·have d:(((src.length:Nat):Int)>4096):=by omega
  simp only[d,h,decide_true,yB]
 ·have d: ¬(((src.length:Nat):Int)>4096):=by omega
  simp only[d,h,decide_false,qz2,yA];have g:=zBe src hs (src.length+1) src false [] (by omega) (by omega) (by simp);cases hc:zch (src.length+1) src false with
  |inl l=>
   rw[hc]at g;exact(zbA g (by omega)).trans rfl
  |inr k=>
   rw[hc]at g;exact(zbA g.2 (by omega)).trans rfl
end Go.D08.U
namespace Go.D08
open Go Go.Gw Go.Dn
def i64(n:Int):Prop:= -9223372036854775808<=n/\n<9223372036854775808
mutual
def okN:Node->Prop
 | ⟨k,_,m,_,_,l⟩=>i64 k/\i64 m/\okL l
def okL:List Node->Prop
 | []=>True
 |x::r=>okN x/\okL r
end
mutual
def zaD:Node->Nat
 | ⟨_,n,_,t,ns,l⟩=>n.length+t.length+(ns.map λs=>s.length+1).sum+zbl l+7
def zbl:List Node->Nat
 | []=>0
 |x::r=>zaD x+zbl r
end
mutual
theorem zmn: ∀x:Node,ziy x<=zaD x
 | ⟨_,_,_,_,_,l⟩=>by simp only[ziy,zaD];have:=zxU l;omega
theorem zxU: ∀l:List Node,zjV l<=zbl l
 | []=>by simp[zjV]
 |x::r=>by simp only[zjV,zbl];have:=zmn x;have:=zxU r;omega
end
theorem zBy: ∀l:List Str,l.length<=(l.map λs=>s.length+1).sum
 | []=>by simp
 |x::r=>by simp only[qz3,List.map_cons,List.sum_cons];have:=zBy r;omega
mutual
theorem zsm: ∀x:Node,zmp x<=zaD x
 | ⟨_,_,_,_,ns,l⟩=>by simp only[zmp,zaD];have:=zwP l;have:=zBy ns;omega
theorem zwP: ∀l:List Node,zmQ l<=zbl l
 | []=>by simp[zmQ]
 |x::r=>by simp only[zmQ,zbl];have:=zsm x;have:=zwP r;omega
end
end Go.D08
namespace Go.D08
open Go Go.Gw Go.Dn
set_option maxRecDepth 100000
def zp6(l:Str):Str:=l.takeWhile (· !=42)
def zEf(l:Str):Str:=(l.dropWhile (· !=42)).drop 1
abbrev Form:=zcr
theorem zLN{i:Int}(h0:0<=i)(h1:i<=1):zar ([101]:Str) 0 i=some (if i=1 then[101]else[]):=by
 rcases(show i=0\/i=1 by omega)with rfl|rfl<;>rfl
theorem zH4{i:Int}(h0:2<=i)(h1:i<=3):zar ([101,98,98]:Str) 0 i=some (if i=3 then[101,98,98]else[101,98]):=by
 rcases(show i=2\/i=3 by omega)with rfl|rfl<;>rfl
theorem zHM(n:Nat):0<=(if 1< ((n:Nat):Int)then(1:Int)else(n:Int))/\(if 1< ((n:Nat):Int)then(1:Int)else(n:Int))<=1:=by split<;>omega
theorem zHJ(n:Nat):2<=(let a:=(if 2>((n:Nat):Int)then(2:Int)else(n:Int));if 3<a then 3 else a)/\(let a:=(if 2>((n:Nat):Int)then(2:Int)else(n:Int));if 3<a then 3 else a)<=3:=by
 simp only;split<;>split<;>omega
def zak(n:Node):Option Form:=match zaI n with
 |some (f,true,())=>some f
 |_=>none
def za3(n:Node)(w:Str):Bool:=
 if(w==([]:Str))=true then n.Name==([]:Str)
 else if(w==([110]:Str))=true then zce n.Name
 else if(w==([109]:Str))=true then n.Name==([]:Str)||zce n.Name
 else if(w==([105]:Str))=true then zkN n.Name
 else if(w==([99]:Str))=true then(if(match n.L[1]? with|some x=>x.Kind==25|none=>false)=true then zce n.Name else n.Name==([]:Str))
 else zgl w n.Name
def znk(k:Int):Bool:=decide (k>=1)&&(decide (k<=21)&&k !=9)
def zhs(k:Int):Bool:=(k==3||k==11)||k==12
def stK(k:Int)(fn:Bool):Bool:=(((decide (k>=22))&&(decide (k<=40)))&&(k !=23)&&(k !=37))&&((k !=39)||fn)
def isP(x:Node)(c:Int):Bool:=
 if(c==101)=true then znk x.Kind
 else if(c==116)=true then zhs x.Kind
 else if(c==102)=true then znk x.Kind||x.Kind==42
 else if(c==98)=true then x.Kind==25
 else if(c==99)=true then x.Kind==25||x.Kind==42
 else if(c==112)=true then x.Kind==9
 else if(c==100)=true then x.Kind==23
 else if(c==118)=true then(znk x.Kind||x.Kind==42)||x.Kind==22
 else if(c==119)=true then zhs x.Kind||(x.Kind==22&&(match x.L with| [y]=>y.L.isEmpty|_=>false))
 else if(c==107)=true then x.Kind==37
 else if(c==115)=true then stK x.Kind false
 else if(c==120)=true then stK x.Kind true
 else false
def zi2(x k:Node):Bool:=(x.Kind==35&&k.Kind==42)||((x.Kind==36&&k.Kind==37)&&(match k.L with|y::_=>y.Kind==42| []=>false))
def zll(x:Node)(ls:Str):List (Node×Bool)->Nat->Nat->Bool
 | [],_,e=>decide (e<2)
 | (k,b)::r,i,e=>match ls[min i (ls.length -1)]? with
   |none=>false
   |some c=>(isP k ((c.toNat:Nat):Int)&&b)&&zll x ls r (i+1) (if zi2 x k=true then e+1 else e)
def zyJ(x:Node)(f:Form):Bool:=(za3 x f.name&&(decide (0<=x.Num)&&decide (x.Num<=f.num)))&&(((zaW x.Text&&(x.Text==([]:Str)||f.text))&&(x.Names.isEmpty||f.names))&&x.Names.all zce)
def znz(x:Node)(l:Str):Bool:=decide ((zp6 l).length<=x.L.length)&&(l.contains 42||decide (x.L.length<=(zp6 l).length))
def zCb(x:Node)(ks:List (Node×Bool)):Bool:=match zak x with
 |none=>false
 |some f=>(zyJ x f&&znz x f.l)&&zll x (zp6 f.l++zEf f.l) ks 0 0
mutual
def zbC:Node->Bool
 | ⟨k,n,m,t,ns,l⟩=>zCb ⟨k,n,m,t,ns,l⟩ (zmZ l)
def zmZ:List Node->List (Node×Bool)
 | []=>[]
 |x::r=>(x,zbC x)::zmZ r
end
theorem zy9(x:Node):zbC x=zCb x (zmZ x.L):=by cases x;simp[zbC]
end Go.D08
namespace Go.D08
open Go Go.Gw Go.Dn
noncomputable section
def zFp(s:Str):Str:=match zqL s with
 |some (q,_,_)=>q
 |none=>[]
end
end Go.D08
namespace Go.D08
open Go Go.Gw Go.Dn
set_option maxRecDepth 100000
structure Tok where
 kind:Nat
 text:Str
 num:Int
 fresh:Bool
abbrev zH:=List Tok
def opK(t:Tok):Bool:=t.kind==5||t.kind==2
def tIs(s:Str):zH->Bool
 |t::_=>opK t&&(t.text==s)
 | []=>false
def zet(l:List Str):zH->Bool
 |t::_=>opK t&&l.contains t.text
 | []=>false
def tText:zH->Str
 |t::_=>t.text
 | []=>[]
def zaa:zH->Nat
 |t::_=>t.kind
 | []=>0
def ziM:zH->Bool
 |t::_=>t.fresh
 | []=>false
def zG4:List Str:=[[45],[43],[33],[116,121,112,101,111,102],[100,101,108,101,116,101],[118,111,105,100]]
def zqf:List Str:=[[43,43],[45,45]]
def zGv:List Str:=[[61],[43,61],[45,61],[42,61],[47,61],[37,61]]
def eqL:List Str:=[[61,61],[33,61],[61,61,61],[33,61,61]]
def ltL:List Str:=[[60],[62],[60,61],[62,61],[105,110,115,116,97,110,99,101,111,102]]
def zxo:List Str:=[[43],[45]]
def mulL:List Str:=[[42],[47],[37]]
def lvS(no:Bool)(s:Str):Int×Int:=
 if(s==([124,124]:Str))=true then(3,18)
 else if(s==([38,38]:Str))=true then(4,18)
 else if eqL.contains s=true then(5,17)
 else if(ltL.contains s||(!no&&s==([105,110]:Str)))=true then(6,17)
 else if zxo.contains s=true then(7,17)
 else if mulL.contains s=true then(8,17)
 else(0,0)
def zew(no:Bool):zH->Int×Int
 |t::_=>if opK t=true then lvS no t.text else(0,0)
 | []=>(0,0)
abbrev PR(α:Type):=Option (Nat⊕(α×zH))
abbrev gt{α:Type}(q:α×zH):PR α:=some (.inr q)
abbrev bad{α:Type}(t:zH):PR α:=some (.inl t.length)
def PR.bd{α β:Type}(x:PR α)(f:α×zH->PR β):PR β:=match x with|none=>none|some (.inl k)=>some (.inl k)|some (.inr p)=>f p
def PR.bn{β:Type}(x:PR Unit)(f:zH->PR β):PR β:=x.bd λq=>f q.2
theorem zHD{α β:Type}(q:α×zH)(f:α×zH->PR β):PR.bd (some (.inr q)) f=f q:=rfl
def za5(s:Str)(t:zH):PR Unit:=if tIs s t=true then gt ((),t.tail)else bad t
structure PG where
 expr:Bool->zH->PR Node
 comma:Bool->Node->zH->PR Node
 assign:Bool->zH->PR Node
 binary:Bool->Int->zH->PR Node
 bins:Bool->Int->Node->zH->PR Node
 unary:zH->PR Node
 mems:Bool->Node->zH->PR Node
 made:zH->PR Node
 prim:zH->PR Node
 exprs:Str->Bool->zH->PR (List Node)
 props:zH->PR (List Node)
 func:Int->zH->PR Node
 vars:Bool->zH->PR (List Node)
 block:zH->PR Node
 head:zH->PR Node
 till:Str->zH->PR Node
 loop:zH->PR Node
 cases:Bool->zH->PR (List Node)
 body:zH->PR (List Node)
 stmt:zH->PR Node
 stmts:Bool->zH->PR (List Node)
def nd(k:Int)(l:List Node):Node:=⟨k,[],0,[],[],l⟩
def ndN(k:Int)(s:Str)(l:List Node):Node:=⟨k,s,0,[],[],l⟩
section
variable (g:PG)
def zyz(no:Bool)(t:zH):PR Node:=(g.assign no t).bd λq=>g.comma no q.1 q.2
def zvJ(no:Bool)(x:Node)(t:zH):PR Node:=
 if tIs [44] t=true then(g.assign no t.tail).bd λq=>g.comma no (nd 21 [x,q.1]) q.2 else gt (x,t)
def zq9(no:Bool)(t:zH):PR Node:=(g.binary no 3 t).bd λq=>
 if tIs [63] q.2=true then(g.assign false q.2.tail).bd λy=>(za5 [58] y.2).bn λt=>(g.assign no t).bd λz=>gt (nd 19 [q.1,y.1,z.1],z.2)
 else if zet zGv q.2=true then(if zhs q.1.Kind=true then(g.assign no q.2.tail).bd λy=>gt (ndN 20 (tText q.2) [q.1,y.1],y.2)else bad q.2)
 else gt q
def zqT(no:Bool)(least:Int)(t:zH):PR Node:=(g.unary t).bd λq=>g.bins no least q.1 q.2
def zx5(no:Bool)(least:Int)(x:Node)(t:zH):PR Node:=
 if(decide ((zew no t).1<least)||(zew no t).1==0)=true then gt (x,t)
 else(g.binary no ((zew no t).1+1) t.tail).bd λy=>g.bins no least (ndN (zew no t).2 (tText t) [x,y.1]) y.2
def zvX(t:zH):PR Node:=
 if zet zG4 t=true then(g.unary t.tail).bd λy=>gt (ndN 15 (tText t) [y.1],y.2)
 else if zet zqf t=true then(g.unary t.tail).bd λy=>if zhs y.1.Kind=true then gt (⟨16,tText t,1,[],[],[y.1]⟩,y.2)else bad y.2
 else(g.made t).bd λq=>(g.mems true q.1 q.2).bd λq=>
  if(!zet zqf q.2||ziM q.2)=true then gt q else if zhs q.1.Kind=true then gt (ndN 16 (tText q.2) [q.1],q.2.tail)else bad q.2
def zwn(calls:Bool)(x:Node)(t:zH):PR Node:=
 if tIs [46] t=true then(if(zaa t.tail==1||zaa t.tail==2)=true then g.mems calls (ndN 11 (tText t.tail) [x]) t.tail.tail else bad t.tail)
 else if tIs [91] t=true then(g.expr false t.tail).bd λk=>(za5 [93] k.2).bn λt=>g.mems calls (nd 12 [x,k.1]) t
 else if(calls&&tIs [40] t)=true then(g.exprs [41] false t.tail).bd λl=>g.mems calls (nd 13 (x::l.1)) l.2
 else gt (x,t)
def zxB(t:zH):PR Node:=
 if tIs [110,101,119] t=true then(g.made t.tail).bd λq=>(g.mems false q.1 q.2).bd λq=>
  if tIs [40] q.2=true then(g.exprs [41] false q.2.tail).bd λl=>gt (nd 14 (q.1::l.1),l.2)else gt (nd 14 [q.1],q.2)
 else g.prim t
def znm(t:zH):PR Node:=
 if(zaa t==1)=true then gt (ndN 3 (tText t) [],t.tail)
 else if(zaa t==3)=true then(match t with|a::r=>gt (⟨1,[],a.num,[],[],[]⟩,r)| []=>none)
 else if(zaa t==4)=true then gt (⟨2,[],0,tText t,[],[]⟩,t.tail)
 else if tIs [116,104,105,115] t=true then gt (nd 4 [],t.tail)
 else if tIs [110,117,108,108] t=true then gt (nd 5 [],t.tail)
 else if tIs [102,97,108,115,101] t=true then gt (nd 6 [],t.tail)
 else if tIs [116,114,117,101] t=true then gt (⟨6,[],1,[],[],[]⟩,t.tail)
 else if tIs [102,117,110,99,116,105,111,110] t=true then g.func 10 t.tail
 else if tIs [40] t=true then(g.expr false t.tail).bd λk=>(za5 [41] k.2).bn λt=>gt (k.1,t)
 else if tIs [91] t=true then(g.exprs [93] true t.tail).bd λl=>gt (nd 7 l.1,l.2)
 else if tIs [123] t=true then(g.props t.tail).bd λl=>gt (nd 8 l.1,l.2)
 else bad t
def zmO(shut:Str)(last:Bool)(t:zH):PR (List Node):=
 if tIs shut t=true then gt ([],t.tail)
 else(g.assign false t).bd λx=>
  if tIs shut x.2=true then gt ([x.1],x.2.tail)
  else(za5 [44] x.2).bn λt=>if(!last&&tIs shut t)=true then bad t else(g.exprs shut last t).bd λl=>gt (x.1::l.1,l.2)
def wide(s:Str):Str:=s.flatMap λb=>[0,b]
def zy6:zH->PR Str
 |a::r=>if(a.kind==4)=true then gt (a.text,r)else if(a.kind==3)=true then gt (wide (Lib.itoa a.num),r)else if(a.kind==1||a.kind==2)=true then gt (wide a.text,r)else bad (a::r)
 | []=>none
def znQ(t:zH):PR (List Node):=
 if tIs [125] t=true then gt ([],t.tail)
 else(zy6 t).bd λk=>(za5 [58] k.2).bn λt1=>(g.assign false t1).bd λx=>
  if tIs [125] x.2=true then gt ([⟨9,[],0,k.1,[],[x.1]⟩],x.2.tail)
  else(za5 [44] x.2).bn λt2=>(g.props t2).bd λl=>gt (⟨9,[],0,k.1,[],[x.1]⟩::l.1,l.2)
def zk1:zH->PR (List Str)
 |a::b::r=>if(a.kind==1)=true then(if tIs [41] (b::r)=true then gt ([a.text],r)else if tIs [44] (b::r)=true then(if tIs [41] r=true then bad r else(zk1 r).bd λl=>gt (a.text::l.1,l.2))else bad (b::r))else bad (a::b::r)
 | [a]=>bad [a]
 | []=>none
def zgi(t:zH):PR (List Str):=if tIs [41] t=true then gt ([],t.tail)else zk1 t
def zwp(kind:Int)(t:zH):PR Node:=
 (if(zaa t==1)=true then gt (tText t,t.tail)else if(kind==39)=true then bad t else gt ([],t)).bd λm=>(za5 [40] m.2).bn λt=>(zgi t).bd λns=>(za5 [123] ns.2).bn λt=>(g.stmts true t).bd λl=>(za5 [125] l.2).bn λt=>gt (⟨kind,m.1,0,[],ns.1,l.1⟩,t)
def zwm(no:Bool)(t:zH):PR (List Node):=
 if(zaa t==1)=true then
  (if tIs [61] t.tail=true then(g.assign no t.tail.tail).bd λy=>gt ([y.1],y.2)else gt ([],t.tail)).bd λd=>
   if tIs [44] d.2=true then(g.vars no d.2.tail).bd λl=>gt (ndN 23 (tText t) d.1::l.1,l.2)else gt ([ndN 23 (tText t) d.1],d.2)
 else bad t
def zoH(t:zH):PR Node:=(za5 [123] t).bn λt=>(g.stmts false t).bd λl=>(za5 [125] l.2).bn λt=>gt (nd 25 l.1,t)
def zxT(t:zH):PR Node:=(za5 [40] t).bn λt=>(g.expr false t).bd λx=>(za5 [41] x.2).bn λt=>gt (x.1,t)
def zu3(s:Str)(t:zH):PR Node:=if tIs s t=true then gt (nd 42 [],t.tail)else(g.expr false t).bd λx=>(za5 s x.2).bn λt=>gt (x.1,t)
def zoc(t:zH):Bool:=tIs [125] t||zaa t==0||ziM t
def zl6(t:zH):PR Unit:=if tIs [59] t=true then gt ((),t.tail)else if zoc t=true then gt ((),t)else bad t
def zf7(x:Node):Node:=if(x.Kind==25)=true then x else nd 25 [x]
def zwg(x:Node):Bool:=if(x.Kind==22)=true then(match x.L with| [d]=>d.L.isEmpty|_=>false)else zhs x.Kind
def zyS(t:zH):PR Node:=
 if tIs [118,97,114] t=true then(g.vars true t.tail).bd λl=>gt (nd 22 l.1,l.2)
 else if tIs [59] t=true then gt (nd 42 [],t)else g.expr true t
def zxS(t:zH):PR Node:=(za5 [40] t).bn λt=>(zyS g t).bd λq=>
 if(zwg q.1&&tIs [105,110] q.2)=true then(g.expr false q.2.tail).bd λx=>(za5 [41] x.2).bn λt=>(g.stmt t).bd λb=>gt (nd 30 [q.1,x.1,zf7 b.1],b.2)
 else(za5 [59] q.2).bn λt=>(g.till [59] t).bd λx=>(g.till [41] x.2).bd λy=>(g.stmt y.2).bd λb=>gt (nd 29 [q.1,x.1,y.1,zf7 b.1],b.2)
def zCa(t:zH):PR (Str×Node):=
 if tIs [99,97,116,99,104] t=true then(za5 [40] t.tail).bn λt=>if(zaa t==1)=true then(za5 [41] t.tail).bn λt1=>(g.block t1).bd λb=>gt ((tText t,b.1),b.2)else bad t
 else gt (([],nd 42 []),t)
def zyl(t:zH):PR Node:=if tIs [102,105,110,97,108,108,121] t=true then g.block t.tail else gt (nd 42 [],t)
def zBk(t:zH):PR Node:=(g.block t).bd λb=>(zCa g b.2).bd λc=>(zyl g c.2).bd λf=>
 if(f.1.Kind==42&&c.1.2.Kind==42)=true then bad f.2 else gt (ndN 35 c.1.1 [b.1,c.1.2,f.1],f.2)
def zvy(others:Bool)(t:zH):PR (List Node):=
 if tIs [125] t=true then gt ([],t.tail)
 else if(others&&tIs [100,101,102,97,117,108,116] t)=true then(za5 [58] t.tail).bn λt=>(g.body t).bd λl=>(g.cases false l.2).bd λr=>gt (nd 37 (nd 42 []::l.1)::r.1,r.2)
 else(za5 [99,97,115,101] t).bn λt=>(g.expr false t).bd λx=>(za5 [58] x.2).bn λt=>(g.body t).bd λl=>(g.cases others l.2).bd λr=>gt (nd 37 (x.1::l.1)::r.1,r.2)
def zxD(t:zH):PR (List Node):=
 if(zet [[99,97,115,101],[100,101,102,97,117,108,116],[125]] t||zaa t==0)=true then gt ([],t)else(g.stmt t).bd λx=>(g.body x.2).bd λl=>gt (x.1::l.1,l.2)
def zwb(k:Int)(t:zH):PR Node:=
 if(zaa t==1&& !ziM t)=true then(zl6 t.tail).bn λt1=>gt (ndN k (tText t) [],t1)else(zl6 t).bn λt=>gt (nd k [],t)
def zxN(t:zH):PR Node:=
 if tIs [123] t=true then g.block t
 else if tIs [59] t=true then gt (nd 40 [],t.tail)
 else if tIs [118,97,114] t=true then(g.vars false t.tail).bd λl=>(zl6 l.2).bn λt=>gt (nd 22 l.1,t)
 else if tIs [105,102] t=true then(g.head t.tail).bd λx=>(g.stmt x.2).bd λb=>if tIs [101,108,115,101] b.2=true then(g.stmt b.2.tail).bd λc=>gt (nd 26 [x.1,zf7 b.1,zf7 c.1],c.2)else gt (nd 26 [x.1,zf7 b.1],b.2)
 else if tIs [119,104,105,108,101] t=true then(g.head t.tail).bd λx=>(g.stmt x.2).bd λb=>gt (nd 27 [x.1,zf7 b.1],b.2)
 else if tIs [100,111] t=true then(g.stmt t.tail).bd λb=>(za5 [119,104,105,108,101] b.2).bn λt=>(g.head t).bd λx=>(zl6 x.2).bn λt=>gt (nd 28 [zf7 b.1,x.1],t)
 else if tIs [102,111,114] t=true then g.loop t.tail
 else if tIs [98,114,101,97,107] t=true then zwb 31 t.tail
 else if tIs [99,111,110,116,105,110,117,101] t=true then zwb 32 t.tail
 else if tIs [114,101,116,117,114,110] t=true then(if(!tIs [59] t.tail&& !zoc t.tail)=true then(g.expr false t.tail).bd λx=>(zl6 x.2).bn λt=>gt (nd 33 [x.1],t)else(zl6 t.tail).bn λt=>gt (nd 33 [],t))
 else if tIs [116,104,114,111,119] t=true then(if ziM t.tail=true then bad t.tail else(g.expr false t.tail).bd λx=>(zl6 x.2).bn λt=>gt (nd 34 [x.1],t))
 else if tIs [116,114,121] t=true then zBk g t.tail
 else if tIs [115,119,105,116,99,104] t=true then(g.head t.tail).bd λx=>(za5 [123] x.2).bn λt=>(g.cases true t).bd λl=>gt (nd 36 (x.1::l.1),l.2)
 else if tIs [102,117,110,99,116,105,111,110] t=true then bad t
 else if(zaa t==1&&tIs [58] t.tail)=true then(g.stmt t.tail.tail).bd λx=>gt (ndN 38 (tText t) [x.1],x.2)
 else(g.expr false t).bd λx=>(zl6 x.2).bn λt=>gt (nd 24 [x.1],t)
def zrz(funcs:Bool)(t:zH):PR (List Node):=
 if(tIs [125] t||zaa t==0)=true then gt ([],t)
 else(if(funcs&&tIs [102,117,110,99,116,105,111,110] t)=true then g.func 39 t.tail else g.stmt t).bd λx=>(g.stmts funcs x.2).bd λl=>gt (x.1::l.1,l.2)
end
def pG:Nat->PG
 |0=>⟨λ_ _=>none,λ_ _ _=>none,λ_ _=>none,λ_ _ _=>none,λ_ _ _ _=>none,λ_=>none,λ_ _ _=>none,λ_=>none,λ_=>none,λ_ _ _=>none,λ_=>none,λ_ _=>none,λ_ _=>none,λ_=>none,λ_=>none,λ_ _=>none,λ_=>none,λ_ _=>none,λ_=>none,λ_=>none,λ_ _=>none⟩
 |n+1=>⟨zyz (pG n),zvJ (pG n),zq9 (pG n),zqT (pG n),zx5 (pG n),zvX (pG n),zwn (pG n),zxB (pG n),znm (pG n),zmO (pG n),znQ (pG n),zwp (pG n),zwm (pG n),zoH (pG n),zxT (pG n),zu3 (pG n),zxS (pG n),zvy (pG n),zxD (pG n),zxN (pG n),zrz (pG n)⟩
end Go.D08
namespace Go.D08
open Go Go.Gw Go.Dn Go.Proofs
set_option maxRecDepth 100000
def tk(t:zk):Tok:=⟨t.Kind.toNat,t.Text,t.Num,t.Fresh⟩
structure TOk (L:List zk):Prop where
 kinds: ∀t∈L,0<=t.Kind/\t.Kind<=5
 texts: ∀t∈L,t.Text.length<=1000000
 plain: ∀t∈L,opK (tk t)=true->(32:UInt8)∉t.Text
 ascii: ∀t∈L,t.Kind=1\/t.Kind=2->∀b∈t.Text,b<128
 colon: ∀t∈L,t.Kind=2->t.Text≠[58]
 nums: ∀t∈L,t.Kind=3->0<=t.Num/\t.Num<=9007199254740991
 last: ∃a e,L=a++[e]/\e.Kind=0/\∀t∈a,t.Kind≠0
theorem TOk.cons{L:List zk}(h:TOk L): ∃a r,L=a::r:=by
 obtain⟨a,e,h1,_⟩:=h.last;cases L with
 |nil=>simp at h1
 |cons x r=>exact⟨x,r,rfl⟩
theorem TOk.tail{x:zk}{r:List zk}(h:TOk (x::r))(hx:x.Kind≠0):TOk r:=by
 refine⟨λt ht=>h.kinds t (qz8 _ ht),λt ht=>h.texts t (qz8 _ ht),λt ht=>h.plain t (qz8 _ ht),λt ht=>h.ascii t (qz8 _ ht),λt ht=>h.colon t (qz8 _ ht),λt ht=>h.nums t (qz8 _ ht),?_⟩;obtain⟨a,e,h1,h2,h3⟩:=h.last;cases a with
 |nil=>simp at h1;rw[h1.1]at hx;exact absurd h2 hx
 |cons y a=>simp at h1;exact⟨a,e,h1.2,h2,λt ht=>h3 t (qz8 _ ht)⟩
theorem zJ(x:zh):zi x=x:=by cases x;rfl
theorem zFv(x:zk):zfN x=x:=by cases x;rfl
theorem zl4{x:zk}(hk:0<=x.Kind)(n:Nat):(x.Kind==(n:Int))=((tk x).kind==n):=by
 unfold tk;rw[Bool.eq_iff_iff,beq_iff_eq,beq_iff_eq];simp only;omega
abbrev pp(L:List zk)(no:Bool):zh:=⟨L,no⟩
theorem zcQ{α:Type}(x:α)(r:List α):zL (x::r) 0=some x:=rfl
theorem zph{L:List zk}{no:Bool}(h:TOk L)(s:Str):zaK s (pp L no)=some (tIs s (L.map tk),pp L no,()):=by
 obtain⟨x,r,rfl⟩:=h.cons;have hk:=(h.kinds x qz7).1;have k5:=zl4 hk 5;have k2:=zl4 hk 2;rw[show((5:Nat):Int)=5 from rfl]at k5;rw[show((2:Nat):Int)=2 from rfl]at k2;unfold zaK;simp only[zcQ,qz1,zJ,k5,k2,List.map_cons,tIs,opK];cases(tk x).kind==5<;>cases(tk x).kind==2<;>simp[tk]
theorem zzj{x:zk}{r:List zk}{no:Bool}(hx:x.Kind≠0):zae (pp (x::r) no)=some (x,pp r no,()):=by
 unfold zae;have e:(x.Kind !=0)=true:=by rw[bne_iff_ne];exact hx
 have hc:zar (x::r) 1 (((x::r).length:Nat):Int)=some r:=by
  have:=zdC (x::r) 1 (by simp);simpa using this
 simp only[zcQ,qz1,e,yB,hc,zFv]
theorem zGG{s:Str}{x:zk}{r:List zk}(h:tIs s ((x::r).map tk)=true):x.Kind≠0:=by
 intro e;simp[tIs,opK,tk,e]at h
theorem has_eq{L:List zk}{no:Bool}(h:TOk L)(s:Str):zG s (pp L no)=some (tIs s (L.map tk),pp (if tIs s (L.map tk)=true then L.tail else L) no,()):=by
 unfold zG;rw[zJ,zph h s];simp only[qz1,zJ];cases hq:tIs s (L.map tk)with
 |false=>simp
 |true=>
  obtain⟨x,r,rfl⟩:=h.cons;simp only[yB];rw[zzj (zGG hq)];rfl
theorem zjX{L:List zk}{no:Bool}(h:TOk L)(ws:List Str)(list:Str)(hl:list=joined ws)(hw: ∀w∈ws,(32:UInt8)∉w)(hll:list.length<=1000000):zaU list (pp L no)=some (zet ws (L.map tk),pp L no,()):=by
 obtain⟨x,r,rfl⟩:=h.cons;have hk:=(h.kinds x qz7).1;have ht:=h.texts x qz7;have hp:=h.plain x qz7;have k5:=zl4 hk 5;have k2:=zl4 hk 2;rw[show((5:Nat):Int)=5 from rfl]at k5;rw[show((2:Nat):Int)=2 from rfl]at k2
 have hb':(if(x.Kind==5)=true then some true else some (x.Kind==2))=some (opK (tk x)):=by
  rw[k5,k2];unfold opK;cases(tk x).kind==5<;>simp
 unfold zaU;simp only[zcQ,qz1,zJ];rw[hb'];simp only[qz1,List.map_cons,zet];cases hq:opK (tk x)with
 |false=>simp
 |true=>
  simp only[yB,Bool.true_and];rw[zwl (by simp only[qz3,qz6];omega)]
  simp only[qz1];rw[zwl (by simp only[qz5,qz3,qz6];omega)]
  simp only[qz1];rw[U.zvQ list _ (by omega)];simp only[qz1];have:=ziw x.Text (hp hq) ws hw;rw[hl,show([32]++x.Text++[32]:Str)=32::(x.Text++[32])from rfl,this];rfl
theorem zCh{L:List zk}{no:Bool}(h:TOk L):zdq (pp L no)=some (zoc (L.map tk),pp L no,()):=by
 have hi:=zph (no:=no) h [125];unfold zdq zoc;rw[zJ,hi];obtain⟨x,r,rfl⟩:=h.cons;have hk:=(h.kinds x qz7).1;have k0:=zl4 hk 0;rw[show((0:Nat):Int)=0 from rfl]at k0;simp only[qz1,zcQ,k0,zJ,List.map_cons,zaa,ziM];cases tIs [125] (tk x::List.map tk r)<;>cases(tk x).kind==0<;>simp[tk]
theorem any_cons(ws:List Str)(x:zk)(t:zH):zet ws (tk x::t)=(opK (tk x)&&ws.contains x.Text):=rfl
theorem zId(s:Str)(x:zk)(t:zH):tIs s (tk x::t)=(opK (tk x)&&(x.Text==s)):=rfl
theorem zEg{L:List zk}{no:Bool}(h:TOk L):zfh (pp L no)=some ((zew no (L.map tk)).1,(zew no (L.map tk)).2,pp L no,()):=by
 have i1:=zph (no:=no) h [124,124];have i2:=zph (no:=no) h [38,38];have i3:=zjX (no:=no) h eqL ([32,61,61,32,33,61,32,61,61,61,32,33,61,61,32]:Str) (by decide+kernel) (by decide+kernel) (by decide);have i4:=zjX (no:=no) h ltL ([32,60,32,62,32,60,61,32,62,61,32,105,110,115,116,97,110,99,101,111,102,32]:Str) (by decide+kernel) (by decide+kernel) (by decide);have i5:=zph (no:=no) h [105,110];have i6:=zjX (no:=no) h zxo ([32,43,32,45,32]:Str) (by decide+kernel) (by decide+kernel) (by decide);have i7:=zjX (no:=no) h mulL ([32,42,32,47,32,37,32]:Str) (by decide+kernel) (by decide+kernel) (by decide)
 have j1:zc0 (pp L no)=some (if zet zxo (L.map tk)=true then 7 else if zet mulL (L.map tk)=true then 8 else 0,if zet zxo (L.map tk)=true then 17 else if zet mulL (L.map tk)=true then 17 else 0,pp L no,()):=by
  unfold zc0;simp only[zJ,i6,i7,qz1];cases zet zxo (L.map tk)<;>cases zet mulL (L.map tk)<;>rfl
 unfold zfh;simp only[zJ,i1,i2,i3,i4,i5,qz1,j1];obtain⟨x,r,rfl⟩:=h.cons;simp only[any_cons,zId,List.map_cons,zew];cases hq:opK (tk x)with
 |false=>cases no<;>simp
 |true=>
  simp only[Bool.true_and,yB];unfold lvS;rw[show(tk x).text=x.Text from rfl];cases x.Text==([124,124]:Str)with
  |true=>rfl
  |false=>
   simp only[qz2,yA];cases x.Text==([38,38]:Str)with
   |true=>rfl
   |false=>
    simp only[qz2,yA];cases eqL.contains x.Text with
    |true=>rfl
    |false=>
     simp only[qz2,yA];cases ltL.contains x.Text with
     |true=>simp
     |false=>
      simp only[Bool.false_or,qz2,yA];cases no<;>cases x.Text==([105,110]:Str)<;>cases zxo.contains x.Text<;>cases mulL.contains x.Text<;>rfl
end Go.D08
namespace Go.D08
open Go Go.Gw Go.Dn
set_option maxRecDepth 100000
def Le{α:Type}(x y:PR α):Prop:=∀r,x=some r->y=some r
structure PLe (g h:PG):Prop where
 expr: ∀a t,Le (g.expr a t) (h.expr a t)
 comma: ∀a x t,Le (g.comma a x t) (h.comma a x t)
 assign: ∀a t,Le (g.assign a t) (h.assign a t)
 binary: ∀a b t,Le (g.binary a b t) (h.binary a b t)
 bins: ∀a b x t,Le (g.bins a b x t) (h.bins a b x t)
 unary: ∀t,Le (g.unary t) (h.unary t)
 mems: ∀a x t,Le (g.mems a x t) (h.mems a x t)
 made: ∀t,Le (g.made t) (h.made t)
 prim: ∀t,Le (g.prim t) (h.prim t)
 exprs: ∀a b t,Le (g.exprs a b t) (h.exprs a b t)
 props: ∀t,Le (g.props t) (h.props t)
 func: ∀a t,Le (g.func a t) (h.func a t)
 vars: ∀a t,Le (g.vars a t) (h.vars a t)
 block: ∀t,Le (g.block t) (h.block t)
 head: ∀t,Le (g.head t) (h.head t)
 till: ∀a t,Le (g.till a t) (h.till a t)
 loop: ∀t,Le (g.loop t) (h.loop t)
 cases: ∀a t,Le (g.cases a t) (h.cases a t)
 body: ∀t,Le (g.body t) (h.body t)
 stmt: ∀t,Le (g.stmt t) (h.stmt t)
 stmts: ∀a t,Le (g.stmts a t) (h.stmts a t)
section
variable {g h:PG} (L:PLe g h)
include L
end
def Wf(t:zH):Prop:=∃a e,t=a++[e]/\e.kind=0/\∀x∈a,x.kind≠0
theorem Wf.tail{t:zH}(h:Wf t)(hk:zaa t≠0):Wf t.tail/\t.tail.length+1=t.length:=by
 obtain⟨a,e,rfl,he,ha⟩:=h;cases a with
 |nil=>exact absurd he hk
 |cons x a=>exact⟨⟨a,e,rfl,he,λy hy=>ha y (qz8 _ hy)⟩,by simp⟩
theorem Wf.pos{t:zH}(h:Wf t):0<t.length:=by
 obtain⟨a,e,rfl,_,_⟩:=h;simp
theorem zab{s:Str}{t:zH}(h:tIs s t=true):zaa t≠0:=by
 cases t with
 |nil=>cases h
 |cons x r=>intro e;simp[tIs,opK,show x.kind=0 from e]at h
theorem zeW{l:List Str}{t:zH}(h:zet l t=true):zaa t≠0:=by
 cases t with
 |nil=>cases h
 |cons x r=>intro e;simp[zet,opK,show x.kind=0 from e]at h
theorem zu5{no:Bool}{t:zH}(h:(zew no t).1≠0):zaa t≠0:=by
 cases t with
 |nil=>exact absurd rfl h
 |cons x r=>intro e;simp[zew,opK,show x.kind=0 from e]at h
theorem zbd{t:zH}{k:Nat}(h:(zaa t==k)=true)(hk:k≠0):zaa t≠0:=by
 rw[beq_iff_eq]at h;omega
def Gd{α:Type}(m:Nat)(x:PR α):Prop:=match x with|none=>False|some (.inl _)=>True|some (.inr q)=>Wf q.2/\q.2.length<m
theorem Gd.bd{α β:Type}{m m':Nat}{x:PR α}{f:α×zH->PR β}(h:Gd m x)(k: ∀q:α×zH,Wf q.2->q.2.length<m->Gd m' (f q)):Gd m' (x.bd f):=by
 cases x with
 |none=>exact h
 |some p=>
  cases p with
  |inl j=>trivial
  |inr q=>exact k q h.1 h.2
theorem Gd.bn{β:Type}{m m':Nat}{x:PR Unit}{f:zH->PR β}(h:Gd m x)(k: ∀t:zH,Wf t->t.length<m->Gd m' (f t)):Gd m' (x.bn f):=Gd.bd h λq=>k q.2
theorem Gd.ite{α:Type}{m:Nat}{c:Prop}[Decidable c]{a b:PR α}(h:c->Gd m a)(k: ¬c->Gd m b):Gd m (if c then a else b):=by
 by_cases hc:c
 ·rw[yL hc];exact h hc
 ·rw[yK hc];exact k hc
theorem Gd.up{α:Type}{m m':Nat}{x:PR α}(h:Gd m x)(hm:m<=m'):Gd m' x:=by
 cases x with
 |none=>exact h
 |some p=>
  cases p with
  |inl j=>trivial
  |inr q=>exact⟨h.1,Nat.lt_of_lt_of_le h.2 hm⟩
theorem Gd.need{t:zH}(w:Wf t)(s:Str):Gd t.length (za5 s t):=
 .ite (λc=>by have:=w.tail (zab c);exact⟨this.1,by show t.tail.length<_;omega⟩) λ_=>trivial
theorem Gd.end{t:zH}(w:Wf t):Gd (t.length+1) (zl6 t):=
 .ite (λc=>by have:=w.tail (zab c);exact⟨this.1,by show t.tail.length<_;omega⟩) λ_=> .ite (λ_=>⟨w,Nat.lt_succ_self _⟩) λ_=>trivial
structure PGd (n:Nat) (g:PG):Prop where
 expr: ∀a t,Wf t->10*t.length+6<n->Gd t.length (g.expr a t)
 comma: ∀a x t,Wf t->10*t.length+1<n->Gd (t.length+1) (g.comma a x t)
 assign: ∀a t,Wf t->10*t.length+5<n->Gd t.length (g.assign a t)
 binary: ∀a b t,Wf t->10*t.length+4<n->Gd t.length (g.binary a b t)
 bins: ∀a b x t,Wf t->10*t.length+1<n->Gd (t.length+1) (g.bins a b x t)
 unary: ∀t,Wf t->10*t.length+3<n->Gd t.length (g.unary t)
 mems: ∀a x t,Wf t->10*t.length+1<n->Gd (t.length+1) (g.mems a x t)
 made: ∀t,Wf t->10*t.length+2<n->Gd t.length (g.made t)
 prim: ∀t,Wf t->10*t.length+1<n->Gd t.length (g.prim t)
 exprs: ∀a b t,Wf t->10*t.length+6<n->Gd t.length (g.exprs a b t)
 props: ∀t,Wf t->10*t.length+1<n->Gd t.length (g.props t)
 func: ∀a t,Wf t->10*t.length+1<n->Gd t.length (g.func a t)
 vars: ∀a t,Wf t->10*t.length+1<n->Gd t.length (g.vars a t)
 block: ∀t,Wf t->10*t.length+1<n->Gd t.length (g.block t)
 head: ∀t,Wf t->10*t.length+1<n->Gd t.length (g.head t)
 till: ∀a t,Wf t->10*t.length+7<n->Gd t.length (g.till a t)
 loop: ∀t,Wf t->10*t.length+1<n->Gd t.length (g.loop t)
 cases: ∀a t,Wf t->10*t.length+1<n->Gd t.length (g.cases a t)
 body: ∀t,Wf t->10*t.length+9<n->Gd (t.length+1) (g.body t)
 stmt: ∀t,Wf t->10*t.length+8<n->Gd t.length (g.stmt t)
 stmts: ∀a t,Wf t->10*t.length+9<n->Gd (t.length+1) (g.stmts a t)
section
variable {n:Nat} {g:PG} (G:PGd n g)
include G
theorem zIX(a t)(w:Wf t)(h:10*t.length+6<n+1):Gd t.length (zyz g a t):=
 .bd (G.assign _ _ w (by omega)) λq wq lq=>(G.comma _ _ _ wq (by omega)).up (by omega)
theorem zG9(a x t)(w:Wf t)(h:10*t.length+1<n+1):Gd (t.length+1) (zvJ g a x t):=
 .ite (λc=>by have:=w.tail (zab c);exact .bd (G.assign _ _ this.1 (by omega)) λq wq lq=>(G.comma _ _ _ wq (by omega)).up (by omega)) λ_=>⟨w,Nat.lt_succ_self _⟩
theorem zFo(a t)(w:Wf t)(h:10*t.length+5<n+1):Gd t.length (zq9 g a t):=
 .bd (G.binary _ _ _ w (by omega)) λq wq lq=>
  .ite (λc=>by
   have:=wq.tail (zab c);exact .bd (G.assign _ _ this.1 (by omega)) λy wy ly=> .bn (.need wy _) λt wt lt=> .bd (G.assign _ _ wt (by omega)) λz wz lz=>⟨wz,by show z.2.length<_;omega⟩) λ_=>
  .ite (λc=> .ite (λ_=>by
   have:=wq.tail (zeW c);exact .bd (G.assign _ _ this.1 (by omega)) λy wy ly=>⟨wy,by show y.2.length<_;omega⟩) λ_=>trivial) λ_=>⟨wq,lq⟩
theorem zFz(a b t)(w:Wf t)(h:10*t.length+4<n+1):Gd t.length (zqT g a b t):=
 .bd (G.unary _ w (by omega)) λq wq lq=>(G.bins _ _ _ _ wq (by omega)).up (by omega)
theorem zHV(a b x t)(w:Wf t)(h:10*t.length+1<n+1):Gd (t.length+1) (zx5 g a b x t):=
 .ite (λ_=>⟨w,Nat.lt_succ_self _⟩) λc=>by
  have h0:(zew a t).1≠0:=by
   intro e;rw[e]at c;simp at c
  have:=w.tail (zu5 h0);exact .bd (G.binary _ _ _ this.1 (by omega)) λq wq lq=>(G.bins _ _ _ _ wq (by omega)).up (by omega)
theorem zG2(t)(w:Wf t)(h:10*t.length+3<n+1):Gd t.length (zvX g t):=
 .ite (λc=>by have:=w.tail (zeW c);exact .bd (G.unary _ this.1 (by omega)) λy wy ly=>⟨wy,by show y.2.length<_;omega⟩) λ_=>
 .ite (λc=>by have:=w.tail (zeW c);exact .bd (G.unary _ this.1 (by omega)) λy wy ly=> .ite (λ_=>⟨wy,by show y.2.length<_;omega⟩) λ_=>trivial) λ_=>
 .bd (G.made _ w (by omega)) λq wq lq=> .bd (G.mems _ _ _ wq (by omega)) λp wp lp=>
  .ite (λ_=>⟨wp,by omega⟩) λc=> .ite (λ_=>by
   have h1:zet zqf p.2=true:=by
    cases e:zet zqf p.2 with
    |true=>rfl
    |false=>rw[e]at c;simp at c
   have:=wp.tail (zeW h1);exact⟨this.1,by show p.2.tail.length<_;omega⟩) λ_=>trivial
theorem zJP(a x t)(w:Wf t)(h:10*t.length+1<n+1):Gd (t.length+1) (zwn g a x t):=
 .ite (λc=>by
  have h1:=w.tail (zab c)
  exact .ite (λc2=>by
   have h2:=h1.1.tail (by
    intro e;rw[e]at c2;simp at c2)
   exact(G.mems _ _ _ h2.1 (by omega)).up (by omega)) λ_=>trivial) λ_=>
 .ite (λc=>by
  have h1:=w.tail (zab c);exact .bd (G.expr _ _ h1.1 (by omega)) λk wk lk=> .bn (.need wk _) λt wt lt=>(G.mems _ _ _ wt (by omega)).up (by omega)) λ_=>
 .ite (λc=>by
  rw[qz4]at c;have h1:=w.tail (zab c.2);exact .bd (G.exprs _ _ _ h1.1 (by omega)) λk wk lk=>(G.mems _ _ _ wk (by omega)).up (by omega)) λ_=>⟨w,Nat.lt_succ_self _⟩
theorem zJj(t)(w:Wf t)(h:10*t.length+2<n+1):Gd t.length (zxB g t):=
 .ite (λc=>by
  have h1:=w.tail (zab c)
  exact .bd (G.made _ h1.1 (by omega)) λq wq lq=> .bd (G.mems _ _ _ wq (by omega)) λp wp lp=>
   .ite (λc2=>by
    have h2:=wp.tail (zab c2);exact .bd (G.exprs _ _ _ h2.1 (by omega)) λl wl ll=>⟨wl,by show l.2.length<_;omega⟩) λ_=>⟨wp,by show p.2.length<_;omega⟩) λ_=>G.prim _ w (by omega)
theorem zIk(t)(w:Wf t)(h:10*t.length+1<n+1):Gd t.length (znm g t):=by
 have tl: ∀{k:Nat},(zaa t==k)=true->k≠0->∀x:Node,Gd t.length (gt (x,t.tail)):=λc hk x=>by
  have:=w.tail (zbd c hk);exact⟨this.1,by show t.tail.length<_;omega⟩
 have ti: ∀{s:Str},tIs s t=true->∀x:Node,Gd t.length (gt (x,t.tail)):=λc x=>by
  have:=w.tail (zab c);exact⟨this.1,by show t.tail.length<_;omega⟩
 refine .ite (λc=>tl c (by decide) _) λ_=> .ite (λc=>?_) λ_=> .ite (λc=>tl c (by decide) _) λ_=> .ite (λc=>ti c _) λ_=> .ite (λc=>ti c _) λ_=> .ite (λc=>ti c _) λ_=> .ite (λc=>ti c _) λ_=>
  .ite (λc=>?_) λ_=> .ite (λc=>?_) λ_=> .ite (λc=>?_) λ_=> .ite (λc=>?_) λ_=>trivial
 ·have:=tl c (by decide);cases t with
  |nil=>exact absurd w.pos (by simp)
  |cons a r=>exact this _
 all_goals have h1:=w.tail (zab c)
 ·exact(G.func _ _ h1.1 (by omega)).up (by omega)
 ·exact .bd (G.expr _ _ h1.1 (by omega)) λk wk lk=> .bn (.need wk _) λt' wt lt=>⟨wt,by show t'.length<_;omega⟩
 ·exact .bd (G.exprs _ _ _ h1.1 (by omega)) λl wl ll=>⟨wl,by show l.2.length<_;omega⟩
 ·exact .bd (G.props _ h1.1 (by omega)) λl wl ll=>⟨wl,by show l.2.length<_;omega⟩
theorem zHd(a b t)(w:Wf t)(h:10*t.length+6<n+1):Gd t.length (zmO g a b t):=
 .ite (λc=>by have:=w.tail (zab c);exact⟨this.1,by show t.tail.length<_;omega⟩) λ_=>
 .bd (G.assign _ _ w (by omega)) λx wx lx=> .ite (λc=>by have:=wx.tail (zab c);exact⟨this.1,by show x.2.tail.length<_;omega⟩) λ_=>
  .bn (.need wx _) λt wt lt=> .ite (λ_=>trivial) λ_=> .bd (G.exprs _ _ _ wt (by omega)) λl wl ll=>⟨wl,by show l.2.length<_;omega⟩
omit G in
theorem zKx{t}(w:Wf t):Gd t.length (zy6 t):=by
 cases t with
 |nil=>exact absurd w.pos (by simp)
 |cons a r=>
  have tl: ∀{k:Nat},(a.kind==k)=true->k≠0->∀x:Str,Gd (a::r).length (gt (x,r)):=λc hk x=>by
   have:=w.tail (zbd (t:=a::r) c hk);exact⟨this.1,by show r.length<_;simp⟩
  exact .ite (λc=>tl c (by decide) _) λ_=> .ite (λc=>tl c (by decide) _) λ_=> .ite (λc=>by
   rw[yQ]at c;exact c.elim (λc=>tl c (by decide) _) λc=>tl c (by decide) _) λ_=>trivial
theorem zHq(t)(w:Wf t)(h:10*t.length+1<n+1):Gd t.length (znQ g t):=
 .ite (λc=>by have:=w.tail (zab c);exact⟨this.1,by show t.tail.length<_;omega⟩) λ_=>
 .bd (zKx w) λk wk lk=> .bn (.need wk _) λt1 w1 l1=> .bd (G.assign _ _ w1 (by omega)) λx wx lx=>
  .ite (λc=>by have:=wx.tail (zab c);exact⟨this.1,by show x.2.tail.length<_;omega⟩) λ_=>
  .bn (.need wx _) λt wt lt=> .bd (G.props _ wt (by omega)) λl wl ll=>⟨wl,by show l.2.length<_;omega⟩
omit G in
theorem zCx: ∀t,Wf t->Gd t.length (zk1 t)
 | [],w=>absurd w.pos (by simp)
 | [a],_=>trivial
 |a::b::r,w=>by
  rw[zk1];refine .ite (λc=>?_) λ_=>trivial
  have h1:=w.tail (zbd (t:=a::b::r) c (by decide));refine .ite (λc2=>?_) λ_=> .ite (λc2=>?_) λ_=>trivial
  ·have h2:=h1.1.tail (zab c2);exact⟨h2.1,by show r.length<_;simp only[qz3];omega⟩
  ·have h2:=h1.1.tail (zab c2);exact .ite (λ_=>trivial) λ_=> .bd (zCx r h2.1) λl wl ll=>⟨wl,by show l.2.length<_;simp only[qz3];omega⟩
omit G in
theorem zFK{t}(w:Wf t):Gd t.length (zgi t):=
 .ite (λc=>by have:=w.tail (zab c);exact⟨this.1,by show t.tail.length<_;omega⟩) λ_=>zCx t w
theorem zIx(a t)(w:Wf t)(h:10*t.length+1<n+1):Gd t.length (zwp g a t):=
 .bd (m:=t.length+1) (.ite (λc=>by have:=w.tail (zbd c (by decide));exact⟨this.1,by show t.tail.length<_;omega⟩) λ_=> .ite (λ_=>trivial) λ_=>⟨w,Nat.lt_succ_self _⟩) λm wm lm=>
  .bn (.need wm _) λt1 w1 l1=> .bd (zFK w1) λns wn ln=> .bn (.need wn _) λt2 w2 l2=> .bd (G.stmts _ _ w2 (by omega)) λl wl ll=> .bn (.need wl _) λt3 w3 l3=>⟨w3,by show t3.length<_;omega⟩
theorem zJA(a t)(w:Wf t)(h:10*t.length+1<n+1):Gd t.length (zwm g a t):=
 .ite (λc=>by
  have h1:=w.tail (zbd c (by decide))
  exact .bd (m:=t.length) (.ite (λc2=>by
   have h2:=h1.1.tail (zab c2)
   exact .bd (G.assign _ _ h2.1 (by omega)) λy wy ly=>⟨wy,by show y.2.length<_;omega⟩) λ_=>⟨h1.1,by show t.tail.length<_;omega⟩) λd wd ld=>
    .ite (λc3=>by
     have h3:=wd.tail (zab c3);exact .bd (G.vars _ _ h3.1 (by omega)) λl wl ll=>⟨wl,by show l.2.length<_;omega⟩) λ_=>⟨wd,by show d.2.length<_;omega⟩) λ_=>trivial
theorem zGo(t)(w:Wf t)(h:10*t.length+1<n+1):Gd t.length (zoH g t):=
 .bn (.need w _) λt1 w1 l1=> .bd (G.stmts _ _ w1 (by omega)) λl wl ll=> .bn (.need wl _) λt2 w2 l2=>⟨w2,by show t2.length<_;omega⟩
theorem zJN(t)(w:Wf t)(h:10*t.length+1<n+1):Gd t.length (zxT g t):=
 .bn (.need w _) λt1 w1 l1=> .bd (G.expr _ _ w1 (by omega)) λl wl ll=> .bn (.need wl _) λt2 w2 l2=>⟨w2,by show t2.length<_;omega⟩
theorem zIT(s t)(w:Wf t)(h:10*t.length+7<n+1):Gd t.length (zu3 g s t):=
 .ite (λc=>by have:=w.tail (zab c);exact⟨this.1,by show t.tail.length<_;omega⟩) λ_=>
 .bd (G.expr _ _ w (by omega)) λl wl ll=> .bn (.need wl _) λt2 w2 l2=>⟨w2,by show t2.length<_;omega⟩
theorem zHh(t)(w:Wf t)(h:10*t.length+6<n):Gd (t.length+1) (zyS g t):=
 .ite (λc=>by
  have h1:=w.tail (zab c);exact .bd (G.vars _ _ h1.1 (by omega)) λl wl ll=>⟨wl,by show l.2.length<_;omega⟩) λ_=> .ite (λ_=>⟨w,Nat.lt_succ_self _⟩) λ_=>(G.expr _ _ w (by omega)).up (by omega)
theorem zJG(t)(w:Wf t)(h:10*t.length+1<n+1):Gd t.length (zxS g t):=
 .bn (.need w _) λt1 w1 l1=> .bd (zHh G _ w1 (by omega)) λq wq lq=>
  .ite (λc=>by
   rw[qz4]at c;have h1:=wq.tail (zab c.2);exact .bd (G.expr _ _ h1.1 (by omega)) λx wx lx=> .bn (.need wx _) λt2 w2 l2=> .bd (G.stmt _ w2 (by omega)) λb wb lb=>⟨wb,by show b.2.length<_;omega⟩) λ_=>
  .bn (.need wq _) λt2 w2 l2=> .bd (G.till _ _ w2 (by omega)) λx wx lx=> .bd (G.till _ _ wx (by omega)) λy wy ly=> .bd (G.stmt _ wy (by omega)) λb wb lb=>⟨wb,by show b.2.length<_;omega⟩
theorem zF0(t)(w:Wf t)(h:10*t.length<n):Gd (t.length+1) (zCa g t):=
 .ite (λc=>by
  have h1:=w.tail (zab c)
  exact .bn (.need h1.1 _) λt1 w1 l1=> .ite (λc2=>by
   have h2:=w1.tail (zbd c2 (by decide));exact .bn (.need h2.1 _) λt2 w2 l2=> .bd (G.block _ w2 (by omega)) λb wb lb=>⟨wb,by show b.2.length<_;omega⟩) λ_=>trivial) λ_=>⟨w,Nat.lt_succ_self _⟩
theorem zHA(t)(w:Wf t)(h:10*t.length<n):Gd (t.length+1) (zyl g t):=
 .ite (λc=>by
  have h1:=w.tail (zab c);exact(G.block _ h1.1 (by omega)).up (by omega)) λ_=>⟨w,Nat.lt_succ_self _⟩
theorem zK6(t)(w:Wf t)(h:10*t.length+2<n):Gd t.length (zBk g t):=
 .bd (G.block _ w (by omega)) λb wb lb=> .bd (zF0 G _ wb (by omega)) λc wc lc=> .bd (zHA G _ wc (by omega)) λf wf lf=> .ite (λ_=>trivial) λ_=>⟨wf,by show f.2.length<_;omega⟩
theorem zHk(a t)(w:Wf t)(h:10*t.length+1<n+1):Gd t.length (zvy g a t):=
 .ite (λc=>by have:=w.tail (zab c);exact⟨this.1,by show t.tail.length<_;omega⟩) λ_=>
 .ite (λc=>by
  rw[qz4]at c;have h1:=w.tail (zab c.2);exact .bn (.need h1.1 _) λt1 w1 l1=> .bd (G.body _ w1 (by omega)) λl wl ll=> .bd (G.cases _ _ wl (by omega)) λr wr lr=>⟨wr,by show r.2.length<_;omega⟩) λ_=>
 .bn (.need w _) λt1 w1 l1=> .bd (G.expr _ _ w1 (by omega)) λx wx lx=> .bn (.need wx _) λt2 w2 l2=> .bd (G.body _ w2 (by omega)) λl wl ll=> .bd (G.cases _ _ wl (by omega)) λr wr lr=>⟨wr,by show r.2.length<_;omega⟩
theorem zJy(t)(w:Wf t)(h:10*t.length+9<n+1):Gd (t.length+1) (zxD g t):=
 .ite (λ_=>⟨w,Nat.lt_succ_self _⟩) λ_=> .bd (G.stmt _ w (by omega)) λx wx lx=> .bd (G.body _ wx (by omega)) λl wl ll=>⟨wl,by show l.2.length<_;omega⟩
omit G in
theorem zDv(k t)(w:Wf t):Gd (t.length+1) (zwb k t):=
 .ite (λc=>by
  rw[qz4]at c;have h1:=w.tail (zbd c.1 (by decide));exact .bn (.end h1.1) λt1 w1 l1=>⟨w1,by show t1.length<_;omega⟩) λ_=> .bn (.end w) λt1 w1 l1=>⟨w1,by show t1.length<_;omega⟩
theorem zJJ(t)(w:Wf t)(h:10*t.length+8<n+1):Gd t.length (zxN g t):=by
 refine .ite (λc=>G.block _ w (by omega)) λ_=> .ite (λc=>?_) λ_=> .ite (λc=>?_) λ_=> .ite (λc=>?_) λ_=> .ite (λc=>?_) λ_=> .ite (λc=>?_) λ_=> .ite (λc=>?_) λ_=> .ite (λc=>?_) λ_=>
  .ite (λc=>?_) λ_=> .ite (λc=>?_) λ_=> .ite (λc=>?_) λ_=> .ite (λc=>?_) λ_=> .ite (λc=>?_) λ_=> .ite (λc=>trivial) λ_=> .ite (λc=>?_) λ_=>?_
 rotate_right 2
 ·rw[qz4]at c;have h1:=w.tail (zbd c.1 (by decide));have h2:=h1.1.tail (zab c.2);exact .bd (G.stmt _ h2.1 (by omega)) λx wx lx=>⟨wx,by show x.2.length<_;omega⟩
 ·exact .bd (G.expr _ _ w (by omega)) λx wx lx=> .bn (.end wx) λt1 w1 l1=>⟨w1,by show t1.length<_;omega⟩
 all_goals have h1:=w.tail (zab c)
 ·exact⟨h1.1,by show t.tail.length<_;omega⟩
 ·exact .bd (G.vars _ _ h1.1 (by omega)) λx wx lx=> .bn (.end wx) λt1 w1 l1=>⟨w1,by show t1.length<_;omega⟩
 ·exact .bd (G.head _ h1.1 (by omega)) λx wx lx=> .bd (G.stmt _ wx (by omega)) λb wb lb=> .ite (λc2=>by
   have h2:=wb.tail (zab c2);exact .bd (G.stmt _ h2.1 (by omega)) λe we le=>⟨we,by show e.2.length<_;omega⟩) λ_=>⟨wb,by show b.2.length<_;omega⟩
 ·exact .bd (G.head _ h1.1 (by omega)) λx wx lx=> .bd (G.stmt _ wx (by omega)) λb wb lb=>⟨wb,by show b.2.length<_;omega⟩
 ·exact .bd (G.stmt _ h1.1 (by omega)) λb wb lb=> .bn (.need wb _) λt1 w1 l1=> .bd (G.head _ w1 (by omega)) λx wx lx=> .bn (.end wx) λt2 w2 l2=>⟨w2,by show t2.length<_;omega⟩
 ·exact(G.loop _ h1.1 (by omega)).up (by omega)
 ·exact(zDv _ _ h1.1).up (by omega)
 ·exact(zDv _ _ h1.1).up (by omega)
 ·exact .ite (λ_=> .bd (G.expr _ _ h1.1 (by omega)) λx wx lx=> .bn (.end wx) λt1 w1 l1=>⟨w1,by show t1.length<_;omega⟩) λ_=> .bn (.end h1.1) λt1 w1 l1=>⟨w1,by show t1.length<_;omega⟩
 ·exact .ite (λ_=>trivial) λ_=> .bd (G.expr _ _ h1.1 (by omega)) λx wx lx=> .bn (.end wx) λt1 w1 l1=>⟨w1,by show t1.length<_;omega⟩
 ·exact(zK6 G _ h1.1 (by omega)).up (by omega)
 ·exact .bd (G.head _ h1.1 (by omega)) λx wx lx=> .bn (.need wx _) λt1 w1 l1=> .bd (G.cases _ _ w1 (by omega)) λl wl ll=>⟨wl,by show l.2.length<_;omega⟩
theorem zGX(a t)(w:Wf t)(h:10*t.length+9<n+1):Gd (t.length+1) (zrz g a t):=
 .ite (λ_=>⟨w,Nat.lt_succ_self _⟩) λ_=> .bd (m:=t.length) (.ite (λc=>by
  rw[qz4]at c;have h1:=w.tail (zab c.2);exact(G.func _ _ h1.1 (by omega)).up (by omega)) λ_=>G.stmt _ w (by omega)) λx wx lx=> .bd (G.stmts _ _ wx (by omega)) λl wl ll=>⟨wl,by show l.2.length<_;omega⟩
end
theorem zHE: ∀n,PGd n (pG n)
 |0=>by constructor<;>intros<;>omega
 |n+1=>by
  have G:=zHE n;exact⟨zIX G,zG9 G,zFo G,zFz G,zHV G,zG2 G,zJP G,zJj G,zIk G,zHd G,zHq G,zIx G,zJA G,zGo G,zJN G,zIT G,zJG G,zHk G,zJy G,zJJ G,zGX G⟩
def ze8(x:PR Node):Prop:=∀q,x=gt q->q.1.Kind≠22
theorem ze8.gt{x:Node}{t:zH}(h:x.Kind≠22):ze8 (gt (x,t)):=λq e=>by cases e;exact h
theorem ze8.bad{t:zH}:ze8 (bad t):=λq e=>by cases e
theorem ze8.bd{α:Type}{x:PR α}{f:α×zH->PR Node}(k: ∀q,x=Go.D08.gt q->ze8 (f q)):ze8 (x.bd f):=by
 cases x with
 |none=>intro q e;cases e
 |some p=>
  cases p with
  |inl j=>intro q e;cases e
  |inr q=>exact k q rfl
theorem ze8.bn{x:PR Unit}{f:zH->PR Node}(k: ∀t,ze8 (f t)):ze8 (x.bn f):= .bd λq _=>k q.2
theorem ze8.ite{c:Prop}[Decidable c]{a b:PR Node}(h:c->ze8 a)(k: ¬c->ze8 b):ze8 (if c then a else b):=by
 by_cases hc:c
 ·rw[yL hc];exact h hc
 ·rw[yK hc];exact k hc
structure P22 (g:PG):Prop where
 expr: ∀a t,ze8 (g.expr a t)
 comma: ∀a x t,x.Kind≠22->ze8 (g.comma a x t)
 assign: ∀a t,ze8 (g.assign a t)
 binary: ∀a b t,ze8 (g.binary a b t)
 bins: ∀a b x t,x.Kind≠22->ze8 (g.bins a b x t)
 unary: ∀t,ze8 (g.unary t)
 mems: ∀a x t,x.Kind≠22->ze8 (g.mems a x t)
 made: ∀t,ze8 (g.made t)
 prim: ∀t,ze8 (g.prim t)
 func: ∀t,ze8 (g.func 10 t)
theorem zH7(no:Bool)(t:zH):(zew no t).2≠22:=by
 cases t with
 |nil=>show(0:Int)≠22;decide
 |cons a r=>
  show(if opK a=true then lvS no a.text else(0,0)).2≠22;unfold lvS
  repeat' split
  all_goals decide
theorem zHH: ∀n,P22 (pG n)
 |0=>by constructor<;>intros<;>intro q e<;>cases e
 |n+1=>by
  have G:=zHH n;refine⟨λa t=>?_,λa x t hx=>?_,λa t=>?_,λa b t=>?_,λa b x t hx=>?_,λt=>?_,λa x t hx=>?_,λt=>?_,λt=>?_,λt=>?_⟩
  ·exact .bd λq e=>G.comma _ _ _ (G.assign _ _ q e)
  ·exact .ite (λ_=> .bd λq e=>G.comma _ _ _ (by simp[nd,ndN])) λ_=> .gt hx
  ·exact .bd λq e=> .ite (λ_=> .bd λy _=> .bn λt=> .bd λz _=> .gt (by simp[nd,ndN])) λ_=> .ite (λ_=> .ite (λ_=> .bd λy _=> .gt (by simp[nd,ndN])) λ_=> .bad) λ_=> .gt (G.binary _ _ _ q e)
  ·exact .bd λq e=>G.bins _ _ _ _ (G.unary _ q e)
  ·exact .ite (λ_=> .gt hx) λ_=> .bd λq e=>G.bins _ _ _ _ (zH7 _ _)
  ·exact .ite (λ_=> .bd λy _=> .gt (by simp[nd,ndN])) λ_=> .ite (λ_=> .bd λy _=> .ite (λ_=> .gt (by simp[nd,ndN])) λ_=> .bad) λ_=>
    .bd λq e=> .bd λp e2=> .ite (λ_=> .gt (G.mems _ _ _ (G.made _ q e) p e2)) λ_=> .ite (λ_=> .gt (by simp[nd,ndN])) λ_=> .bad
  ·exact .ite (λ_=> .ite (λ_=>G.mems _ _ _ (by simp[nd,ndN])) λ_=> .bad) λ_=> .ite (λ_=> .bd λk _=> .bn λt=>G.mems _ _ _ (by simp[nd,ndN])) λ_=>
    .ite (λ_=> .bd λl _=>G.mems _ _ _ (by simp[nd,ndN])) λ_=> .gt hx
  ·exact .ite (λ_=> .bd λq _=> .bd λp _=> .ite (λ_=> .bd λl _=> .gt (by simp[nd,ndN])) λ_=> .gt (by simp[nd,ndN])) λ_=>G.prim _
  ·refine .ite (λ_=> .gt (by simp[nd,ndN])) λ_=> .ite (λ_=>?_) λ_=> .ite (λ_=> .gt (by simp[nd,ndN])) λ_=> .ite (λ_=> .gt (by simp[nd,ndN])) λ_=> .ite (λ_=> .gt (by simp[nd,ndN])) λ_=> .ite (λ_=> .gt (by simp[nd,ndN])) λ_=> .ite (λ_=> .gt (by simp[nd,ndN])) λ_=>
    .ite (λ_=>G.func _) λ_=> .ite (λ_=> .bd λk e=> .bn λt=> .gt (G.expr _ _ k e)) λ_=> .ite (λ_=> .bd λl _=> .gt (by simp[nd,ndN])) λ_=> .ite (λ_=> .bd λl _=> .gt (by simp[nd,ndN])) λ_=> .bad
   cases t with
   |nil=>intro q e;cases e
   |cons a r=>exact .gt (by show(1:Int)≠22;decide)
  ·exact .bd λm _=> .bn λt=> .bd λns _=> .bn λt=> .bd λl _=> .bn λt=> .gt (by simp[nd,ndN])
theorem zwt{α β:Type}{x:PR α}{f:α×zH->PR β}{q:β×zH}(h:x.bd f=gt q): ∃p,x=gt p/\f p=gt q:=by
 cases x with
 |none=>cases h
 |some p=>
  cases p with
  |inl j=>cases h
  |inr p=>exact⟨p,rfl,h⟩
theorem zzs{β:Type}{x:PR Unit}{f:zH->PR β}{q:β×zH}(h:x.bn f=gt q): ∃t,f t=gt q:=by
 obtain⟨p,_,h⟩:=zwt h;exact⟨_,h⟩
theorem zBG{n:Nat}{t:zH}{q:Node×zH}(h:(pG n).block t=gt q):q.1.Kind=25:=by
 cases n with
 |zero=>cases h
 |succ n=>
  have h:zoH (pG n) t=gt q:=h;unfold zoH at h;obtain⟨t1,h⟩:=zzs h;obtain⟨l,_,h⟩:=zwt h;obtain⟨t2,h⟩:=zzs h;cases h;rfl
end Go.D08
namespace Go.D08
open Go Go.Gw Go.Dn Go.Proofs
set_option maxRecDepth 100000
def atK(L0:List zk)(k:Nat):Int:=match L0.drop (L0.length -k)with|x::_=>x.At| []=>0
structure TL (L0 L:List zk):Prop where
 ok:TOk L
 suf:L<:+L0
theorem TL.tail{L0 L:List zk}(h:TL L0 L)(hk:zaa (L.map tk)≠0):TL L0 L.tail:=by
 obtain⟨x,r,rfl⟩:=h.ok.cons;have h0:=(h.ok.kinds x qz7).1;refine⟨h.ok.tail (λe=>hk (by show(tk x).kind=0;unfold tk;rw[e];rfl)),(List.suffix_cons x r).trans h.suf⟩
theorem TL.at_{L0:List zk}{x:zk}{r:List zk}(h:TL L0 (x::r)):atK L0 ((x::r).map tk).length=x.At:=by
 obtain⟨p,hp⟩:=h.suf;unfold atK;rw[<-hp,List.length_map,qz5,show p.length+(x::r).length - (x::r).length=p.length by omega,List.drop_left]
def SG{α ρ:Type}(L0:List zk)(E:Int->ρ->Prop)(O:α->List zk->ρ->Prop)(m:Option ρ)(q:PR α):Prop:=
 match q with
 |none=>True
 |some (.inl k)=>∃r,m=some r/\E (atK L0 k) r
 |some (.inr p)=>∃r L',m=some r/\L'.map tk=p.2/\TL L0 L'/\O p.1 L' r
section
variable {α β γ δ ρ σ:Type} {L0 L:List zk} {no:Bool} {E:Int->ρ->Prop} {O:α->List zk->ρ->Prop} {E':Int->σ->Prop} {O':β->List zk->σ->Prop}
abbrev EL(a:Int)(r:(zY×γ)⊕δ):Prop:=∃y,r= .inl (zY.code 45 a,y)
abbrev ER(a:Int)(r:δ⊕(zY×γ)):Prop:=∃y,r= .inr (zY.code 45 a,y)
abbrev OL(no:Bool)(v:α)(L':List zk)(r:(α×zh×Unit)⊕δ):Prop:=r= .inl (v,pp L' no,())
abbrev OR(no:Bool)(v:α)(L':List zk)(r:δ⊕(α×zh×Unit)):Prop:=r= .inr (v,pp L' no,())
theorem SG.gen{m:Option ρ}{q:PR α}{f:ρ->Option σ}{g:α×zH->PR β}(h:SG L0 E O m q)(he: ∀a r,E a r->∃r',f r=some r'/\E' a r')
  (ho: ∀v L' r,q=gt (v,L'.map tk)->TL L0 L'->O v L' r->SG L0 E' O' (f r) (g (v,L'.map tk))):SG L0 E' O' (m.bind f) (q.bd g):=by
 cases q with
 |none=>trivial
 |some p=>
  cases p with
  |inl k=>
   obtain⟨r,rfl,hr⟩:=h;exact he _ _ hr
  |inr p=>
   obtain⟨r,L',rfl,hL,ok,hr⟩:=h;obtain⟨v,t⟩:=p;subst hL;exact ho v L' r rfl ok hr
theorem SG.same{m:Option ρ}{q:PR α}{f:ρ->Option σ}{O':α->List zk->σ->Prop}(h:SG L0 E O m q)(he: ∀a r,E a r->∃r',f r=some r'/\E' a r')
  (ho: ∀v L' r,TL L0 L'->O v L' r->∃r',f r=some r'/\O' v L' r'):SG L0 E' O' (m.bind f) q:=by
 cases q with
 |none=>trivial
 |some p=>
  cases p with
  |inl k=>
   obtain⟨r,rfl,hr⟩:=h;exact he _ _ hr
  |inr p=>
   obtain⟨r,L',rfl,hL,ok,hr⟩:=h;obtain⟨r',e,ho⟩:=ho p.1 L' r ok hr;exact⟨r',L',e,hL,ok,ho⟩
theorem SG.gt{r:ρ}{v:α}(ok:TL L0 L)(h:O v L r):SG L0 E O (some r) (gt (v,L.map tk)):=⟨r,L,rfl,rfl,ok,h⟩
theorem SG.l{m:Option ((zY×γ)⊕(α×zh×Unit))}{q:PR α}{f:(zY×γ)⊕(α×zh×Unit)->Option σ}{g:α×zH->PR β}(h:SG L0 EL (OR no) m q)
  (he: ∀a y,∃r',f (.inl (zY.code 45 a,y))=some r'/\E' a r') (ho: ∀v L',TL L0 L'->SG L0 E' O' (f (.inr (v,pp L' no,()))) (g (v,L'.map tk))):SG L0 E' O' (m.bind f) (q.bd g):=
 h.gen (by rintro a _ ⟨y,rfl⟩;exact he a y) (by rintro v L' _ _ ok rfl;exact ho v L' ok)
theorem SG.r{m:Option ((α×zh×Unit)⊕(zY×γ))}{q:PR α}{f:(α×zh×Unit)⊕(zY×γ)->Option σ}{g:α×zH->PR β}(h:SG L0 ER (OL no) m q)
  (he: ∀a y,∃r',f (.inr (zY.code 45 a,y))=some r'/\E' a r') (ho: ∀v L',TL L0 L'->SG L0 E' O' (f (.inl (v,pp L' no,()))) (g (v,L'.map tk))):SG L0 E' O' (m.bind f) (q.bd g):=
 h.gen (by rintro a _ ⟨y,rfl⟩;exact he a y) (by rintro v L' _ _ ok rfl;exact ho v L' ok)
theorem SG.ll{m:Option ((zY×γ)⊕(α×zh×Unit))}{q:PR α}{f:(zY×γ)⊕(α×zh×Unit)->Option σ}{O':α->List zk->σ->Prop}(h:SG L0 EL (OR no) m q)
  (he: ∀a y,∃r',f (.inl (zY.code 45 a,y))=some r'/\E' a r') (ho: ∀v L',∃r',f (.inr (v,pp L' no,()))=some r'/\O' v L' r'):SG L0 E' O' (m.bind f) q:=
 h.same (by rintro a _ ⟨y,rfl⟩;exact he a y) (by rintro v L' _ ok rfl;exact ho v L')
theorem SG.rr{m:Option ((α×zh×Unit)⊕(zY×γ))}{q:PR α}{f:(α×zh×Unit)⊕(zY×γ)->Option σ}{O':α->List zk->σ->Prop}(h:SG L0 ER (OL no) m q)
  (he: ∀a y,∃r',f (.inr (zY.code 45 a,y))=some r'/\E' a r') (ho: ∀v L',∃r',f (.inl (v,pp L' no,()))=some r'/\O' v L' r'):SG L0 E' O' (m.bind f) q:=
 h.same (by rintro a _ ⟨y,rfl⟩;exact he a y) (by rintro v L' _ ok rfl;exact ho v L')
theorem SG.is{s:Str}{f:Bool×zh×Unit->Option σ}{qa qb:PR β}(ok:TL L0 L)(hy:tIs s (L.map tk)=true->SG L0 E' O' (f (true,pp L no,())) qa)(hn:tIs s (L.map tk)=false->SG L0 E' O' (f (false,pp L no,())) qb):
  SG L0 E' O' ((zaK s (pp L no)).bind f) (if tIs s (L.map tk)=true then qa else qb):=by
 rw[zph ok.ok s,qz1];cases hq:tIs s (L.map tk)with
 |true=>exact hy hq
 |false=>exact hn hq
theorem SG.has{s:Str}{f:Bool×zh×Unit->Option σ}{qa qb:PR β}(ok:TL L0 L)(hy:tIs s (L.map tk)=true->TL L0 L.tail->SG L0 E' O' (f (true,pp L.tail no,())) qa)(hn:tIs s (L.map tk)=false->SG L0 E' O' (f (false,pp L no,())) qb):
  SG L0 E' O' ((zG s (pp L no)).bind f) (if tIs s (L.map tk)=true then qa else qb):=by
 rw[has_eq ok.ok s,qz1];cases hq:tIs s (L.map tk)with
 |true=>exact hy hq (ok.tail (zab hq))
 |false=>exact hn hq
theorem SG.stops{f:Bool×zh×Unit->Option σ}{q:PR β}(ok:TL L0 L)(h:SG L0 E' O' (f (zoc (L.map tk),pp L no,())) q):SG L0 E' O' ((zdq (pp L no)).bind f) q:=by
 rw[zCh ok.ok,qz1];exact h
theorem SG.among{ws:List Str}{list:Str}{f:Bool×zh×Unit->Option σ}{qa qb:PR β}(ok:TL L0 L)(hl:list=joined ws)(hw: ∀w∈ws,(32:UInt8)∉w)(hll:list.length<=1000000)
  (hy:zet ws (L.map tk)=true->SG L0 E' O' (f (true,pp L no,())) qa) (hn:zet ws (L.map tk)=false->SG L0 E' O' (f (false,pp L no,())) qb):
  SG L0 E' O' ((zaU list (pp L no)).bind f) (if zet ws (L.map tk)=true then qa else qb):=by
 rw[zjX ok.ok ws list hl hw hll,qz1];cases hq:zet ws (L.map tk)with
 |true=>exact hy hq
 |false=>exact hn hq
theorem zqV{x:zk}{r:List zk}:zaA (pp (x::r) no)=some (zY.code 45 x.At,pp (x::r) no,()):=rfl
theorem SG.fail{f:zY×zh×Unit->Option σ}(ok:TL L0 L)(h: ∀a,∃r',f (zY.code 45 a,pp L no,())=some r'/\E' a r'):SG L0 E' O' ((zaA (pp L no)).bind f) (bad (L.map tk)):=by
 obtain⟨x,r,rfl⟩:=ok.ok.cons;rw[zqV,qz1];obtain⟨r',e1,e2⟩:=h x.At;exact⟨r',e1,by rw[ok.at_];exact e2⟩
theorem SG.need'{s:Str}{f:(zY×zh×Unit)⊕(zh×Unit)->Option σ}{g:zH->PR β}(ok:TL L0 L)(he: ∀a y,∃r',f (.inl (zY.code 45 a,y))=some r'/\E' a r')
  (ho: ∀L',TL L0 L'->L'.length<L.length->SG L0 E' O' (f (.inr (pp L' no,()))) (g (L'.map tk))):SG L0 E' O' ((zX s (pp L no)).bind f) ((za5 s (L.map tk)).bn g):=by
 unfold zX za5;rw[zJ,has_eq ok.ok s,qz1];cases hq:tIs s (L.map tk)with
 |true=>
  simp only[yB];have:=ho L.tail (ok.tail (zab hq)) (by obtain⟨x,r,rfl⟩:=ok.ok.cons;simp)
  rw[yM]at this;exact this
 |false=>
  simp only[qz2,yA,yN,yB,zJ];obtain⟨x,r,rfl⟩:=ok.ok.cons;rw[zqV];obtain⟨r',e1,e2⟩:=he x.At (pp (x::r) no,());exact⟨r',e1,by rw[ok.at_];exact e2⟩
theorem SG.need{s:Str}{f:(zY×zh×Unit)⊕(zh×Unit)->Option σ}{g:zH->PR β}(ok:TL L0 L)(he: ∀a y,∃r',f (.inl (zY.code 45 a,y))=some r'/\E' a r')
  (ho: ∀L',TL L0 L'->SG L0 E' O' (f (.inr (pp L' no,()))) (g (L'.map tk))):SG L0 E' O' ((zX s (pp L no)).bind f) ((za5 s (L.map tk)).bn g):= .need' ok he λL' h _=>ho L' h
theorem SG.end{f:(zY×zh×Unit)⊕(zh×Unit)->Option σ}{g:zH->PR β}(ok:TL L0 L)(he: ∀a y,∃r',f (.inl (zY.code 45 a,y))=some r'/\E' a r')
  (ho: ∀L',TL L0 L'->SG L0 E' O' (f (.inr (pp L' no,()))) (g (L'.map tk))):SG L0 E' O' ((zbc (pp L no)).bind f) ((zl6 (L.map tk)).bn g):=by
 unfold zbc zl6;rw[zJ,has_eq ok.ok [59],qz1];cases hq:tIs [59] (L.map tk)with
 |true=>
  simp only[yB];have:=ho L.tail (ok.tail (zab hq));rw[yM]at this;exact this
 |false=>
  simp only[qz2,yA,yN,yB,zJ];rw[zCh ok.ok];simp only[qz1];cases hp:zoc (L.map tk)with
  |true=>
   simp only[yO,qz2,yA,yB];exact ho L ok
  |false=>
   simp only[yN,yB,qz2,yA];obtain⟨x,r,rfl⟩:=ok.ok.cons;rw[zqV];obtain⟨r',e1,e2⟩:=he x.At (pp (x::r) no,());exact⟨r',e1,by rw[ok.at_];exact e2⟩
theorem zfS{x:zk}{r:List zk}(ok:TL L0 (x::r))(n:Nat):(x.Kind==(n:Int))=(zaa ((x::r).map tk)==n):=zl4 (ok.ok.kinds x qz7).1 n
theorem SG.name{f:(zY×zh×Unit)⊕(Str×zh×Unit)->Option σ}{qa:PR β}(ok:TL L0 L)(he: ∀a y,∃r',f (.inl (zY.code 45 a,y))=some r'/\E' a r')
  (ho:(zaa (L.map tk)==1)=true->TL L0 L.tail->SG L0 E' O' (f (.inr (tText (L.map tk),pp L.tail no,()))) qa):SG L0 E' O' ((zcu (pp L no)).bind f) (if(zaa (L.map tk)==1)=true then qa else bad (L.map tk)):=by
 obtain⟨x,r,rfl⟩:=ok.ok.cons;have hk:=zfS ok 1;rw[show((1:Nat):Int)=1 from rfl]at hk;unfold zcu;simp only[zcQ,qz1,zJ,bne,hk];cases hq:zaa ((x::r).map tk)==1 with
 |true=>
  have h1:x.Kind=1:=eq_of_beq (hk.trans hq);simp only[yO,qz2,yA,yB];rw[zzj (by omega)];exact ho hq (ok.tail (zbd hq (by decide)))
 |false=>
  simp only[yN,yB,qz2,yA];rw[zqV];obtain⟨r',e1,e2⟩:=he x.At (pp (x::r) no,());exact⟨r',e1,by rw[ok.at_];exact e2⟩
theorem zI3(ok:TL L0 L)(h:zaa (L.map tk)≠0): ∃x,L=x::L.tail/\tk x=tk x/\x.Text=tText (L.map tk)/\zae (pp L no)=some (x,pp L.tail no,()):=by
 obtain⟨x,r,rfl⟩:=ok.ok.cons;exact⟨x,rfl,rfl,rfl,zzj (λe=>h (by show(tk x).kind=0;unfold tk;rw[e];rfl))⟩
theorem zz4(n:zg):zhQ n=some (zhs n.Kind,()):=by
 unfold zhQ zhs;cases h3:n.Kind==3<;>cases h11:n.Kind==11<;>cases h12:n.Kind==12<;>simp[h3,h11,h12]
theorem SG.target{n:zg}{f:(zY×zh×Unit)⊕(zh×Unit)->Option σ}{qa:PR β}(ok:TL L0 L)(he: ∀a y,∃r',f (.inl (zY.code 45 a,y))=some r'/\E' a r')
  (ho:zhs n.Kind=true->SG L0 E' O' (f (.inr (pp L no,()))) qa):SG L0 E' O' ((zda n (pp L no)).bind f) (if zhs n.Kind=true then qa else bad (L.map tk)):=by
 unfold zda;rw[zC,zz4,zJ,qz1];cases hq:zhs n.Kind with
 |true=>
  simp only[yO,qz2,yA,yB];exact ho hq
 |false=>
  simp only[yN,yB,qz2,yA,zJ];obtain⟨x,r,rfl⟩:=ok.ok.cons;rw[zqV];obtain⟨r',e1,e2⟩:=he x.At (pp (x::r) no,());exact⟨r',e1,by rw[ok.at_];exact e2⟩
end
theorem zva: ∀(n:Nat) (s:Str) (last:Bool) (t:zH) (q:List Node×zH),(pG n).exprs s last t=gt q->q.1.length<=n
 |0,_,_,_,_,h=>by cases h
 |n+1,s,last,t,q,h=>by
  have h:zmO (pG n) s last t=gt q:=h;unfold zmO at h;split at h
  ·cases h;exact Nat.zero_le _
  ·obtain⟨x,_,h⟩:=zwt h;split at h
   ·cases h;simp
   ·obtain⟨t',h⟩:=zzs h;split at h
    ·cases h
    ·obtain⟨l,h1,h⟩:=zwt h;cases h;have:=zva n s last t' l h1;simp only[qz3];omega
def zB7{S ρ:Type}(W:S->Option ρ)(o:S⊕ρ):Option ρ:=match o with| .inl s=>W s| .inr e=>some e
theorem zev{S ρ:Type}(step:S->Option (S⊕ρ))(m:Nat)(s:S):zaq step (m+1) s=(step s).bind (zB7 (zaq step m)):=rfl
section
variable {α β γ δ ρ σ:Type} {L0 L:List zk} {no:Bool} {E:Int->ρ->Prop} {O:α->List zk->ρ->Prop} {E':Int->σ->Prop} {O':β->List zk->σ->Prop}
theorem SG.assoc{m:Option ρ}{f:ρ->Option γ}{k:γ->Option σ}{q:PR β}(h:SG L0 E' O' (m.bind λr=>(f r).bind k) q):SG L0 E' O' ((m.bind f).bind k) q:=by
 cases m<;>exact h
theorem SG.loop{S:Type}{step:S->Option (S⊕ρ)}{m:Nat}{s:S}{q:PR α}(h:SG L0 E O (zaq step m s) q)(hm:m<=1000000000000):SG L0 E O (Lp.loop step s) q:=by
 cases q with
 |none=>trivial
 |some p=>
  cases p with
  |inl k=>
   obtain⟨r,e,h⟩:=h;exact⟨r,zbA e hm,h⟩
  |inr p=>
   obtain⟨r,L',e,h⟩:=h;exact⟨r,L',zbA e hm,h⟩
theorem SG.room{k:Nat}{f:Unit->Option σ}{q:PR β}(hk:k<=274877906944)(h:SG L0 E' O' (f ()) q):SG L0 E' O' ((room k).bind f) q:=by
 rw[zhY hk];exact h
theorem SG.take{f:zk×zh×Unit->Option σ}{q:PR β}(ok:TL L0 L)(hk:zaa (L.map tk)≠0)(h: ∀x,x.Text=tText (L.map tk)->TL L0 L.tail->SG L0 E' O' (f (x,pp L.tail no,())) q):
  SG L0 E' O' ((zae (pp L no)).bind f) q:=by
 obtain⟨x,_,_,hx,e⟩:=zI3 (no:=no) ok hk;rw[e,qz1];exact h x hx (ok.tail hk)
end
structure ztQ (L0:List zk) (g:zf) (q:PG):Prop where
 expr: ∀no L,TL L0 L->SG L0 ER (OL no) (g.zaf (pp L no)) (q.expr no (L.map tk))
 assign: ∀no L,TL L0 L->SG L0 ER (OL no) (g.zal (pp L no)) (q.assign no (L.map tk))
 binary: ∀no b L,TL L0 L->b<=100->SG L0 EL (OR no) (g.zbE b (pp L no)) (q.binary no b (L.map tk))
 unary: ∀no L,TL L0 L->SG L0 ER (OL no) (g.zbz (pp L no)) (q.unary (L.map tk))
 mems: ∀no x c L,TL L0 L->SG L0 EL (OR no) (g.zbv x c (pp L no)) (q.mems c x (L.map tk))
 made: ∀no L,TL L0 L->SG L0 ER (OL no) (g.zbV (pp L no)) (q.made (L.map tk))
 prim: ∀no L,TL L0 L->SG L0 ER (OL no) (g.zb7 (pp L no)) (q.prim (L.map tk))
 exprs: ∀no s last L,TL L0 L->SG L0 ER (OL no) (g.za9 s last (pp L no)) (q.exprs s last (L.map tk))
 props: ∀no L,TL L0 L->SG L0 EL (λ(l:List Node) L' r=>r= .inr (pp L' no,8,[],0,[],[],l,())) (g.zca [125] true (pp L no) 8 [] 0 [] [] []) (q.props (L.map tk))
 func: ∀no k L,TL L0 L->SG L0 EL (OR no) (g.zbm k (pp L no)) (q.func k (L.map tk))
 vars: ∀no L,TL L0 L->SG L0 EL (λl L' r=>r= .inr (nd 22 l,pp L' no,())) (g.zbU (pp L no)) (q.vars no (L.map tk))
 block: ∀L,TL L0 L->SG L0 EL (OR false) (g.za8 (pp L false)) (q.block (L.map tk))
 head: ∀L,TL L0 L->SG L0 EL (OR false) (g.zbf (pp L false)) (q.head (L.map tk))
 till: ∀s L,TL L0 L->SG L0 ER (OL false) (g.zb0 s (pp L false)) (q.till s (L.map tk))
 loop: ∀L,TL L0 L->SG L0 EL (OR false) (g.zc2 (pp L false)) (q.loop (L.map tk))
 stmt: ∀L,TL L0 L->SG L0 EL (OR false) (g.za6 (pp L false)) (q.stmt (L.map tk))
 stmts: ∀f L,TL L0 L->SG L0 ER (OL false) (g.zaV f [125] (pp L false)) (q.stmts f (L.map tk))
noncomputable abbrev RG:=zl
section
variable {L0 L:List zk} {no:Bool} {n M:Nat} (H: ∀k,k<=n->∀N,20*k+20<=N->ztQ L0 (RG N) (pG k)) (hn:n<=10000000000) (hM:20*n+30<=M)
include H hn hM
theorem zDl: ∀(k m:Nat),k<=n->k<=m->∀(x:Node) (L:List zk),TL L0 L->
  SG L0 ER (OL no) (zaq (zdW (RG M)) m (pp L no,0,([]:Str),0,([]:Str),x,([]:List Str),([]:List zg),())) ((pG k).comma no x (L.map tk))
 |0,m,_,_,x,L,ok=>trivial
 |k+1,0,_,hm,x,L,ok=>by omega
 |k+1,m+1,hk,hm,x,L,ok=>by
  show SG _ _ _ _ (zvJ (pG k) no x (L.map tk));have ih:=λx L ok=>zDl k m (by omega) (by omega) x L ok
  unfold zvJ;rw[zev];generalize zaq (zdW (RG M)) m=W at ih⊢;unfold zdW;simp only[zJ,zC,zfw];refine .assoc (.has ok (λh ok'=>?_) λh=>?_)
  ·simp only[yB];rw[<-yM];refine .assoc (.r ((H k (by omega) M (by omega)).assign no _ ok') (λ_ _=>⟨_,rfl,_,rfl⟩) λv L' ok'=>?_);exact ih _ L' ok'
  ·simp only[qz2,yA];exact .gt ok rfl
theorem zJx(ok:TL L0 L):SG L0 ER (OL no) (zfW (RG M) (pp L no)) (zyz (pG n) no (L.map tk)):=by
 unfold zfW zyz;simp only[zJ,zC];refine .r ((H n (yJ _) M (by omega)).assign no L ok) (λ_ _=>⟨_,rfl,_,rfl⟩) λv L' ok'=>?_
 exact .loop (zDl H hn hM n 1000000000000 (yJ _) (by omega) v L' ok') (yJ _)
theorem zC6(least:Int)(hl:least<=100): ∀(k m:Nat),k<=n->k<=m->∀(x:Node) (L:List zk),TL L0 L->
  SG L0 EL (OR no) (zaq (zdh (RG M)) m (least,pp L no,0,([]:Str),0,([]:Str),x,([]:List Str),([]:List zg),())) ((pG k).bins no least x (L.map tk))
 |0,m,_,_,x,L,ok=>trivial
 |k+1,0,_,hm,x,L,ok=>by omega
 |k+1,m+1,hk,hm,x,L,ok=>by
  show SG _ _ _ _ (zx5 (pG k) no least x (L.map tk));have ih:=λx L ok=>zC6 least hl k m (by omega) (by omega) x L ok
  unfold zx5;rw[zev];generalize zaq (zdh (RG M)) m=W at ih⊢;unfold zdh;simp only[zJ,zC,zfw,zEg ok.ok,qz1]
  have hb:(zew no (L.map tk)).1<=8/\0<=(zew no (L.map tk)).1:=by
   cases L.map tk with
   |nil=>show(0:Int)<=8/\(0:Int)<=0;decide
   |cons a r=>
    show(if opK a=true then lvS no a.text else(0,0)).1<=8/\0<=(if opK a=true then lvS no a.text else(0,0)).1;unfold lvS
    repeat' split
    all_goals decide
  cases hc:(decide ((zew no (L.map tk)).1<least)||(zew no (L.map tk)).1==0)with
  |true=>
   simp only[yB];exact .gt ok rfl
  |false=>
   simp only[qz2,yA]
   have h0:(zew no (L.map tk)).1≠0:=by
    intro e;rw[e]at hc;simp at hc
   refine .assoc (.take ok (zu5 h0) λa ha ok'=>?_);have hw:IntKind.wrap .i64 ((zew no (L.map tk)).1+1)=(zew no (L.map tk)).1+1:=wrap_i64 (by omega) (by omega);rw[<-yM];simp only[hw];refine .assoc (.l ((H k (by omega) M (by omega)).binary no _ _ ok' (by omega)) (λ_ _=>⟨_,rfl,_,rfl⟩) λv L' ok'=>?_);simp only[ha];exact ih _ L' ok'
theorem zEU(b:Int)(hb:b<=100)(ok:TL L0 L):SG L0 EL (OR no) (zeM (RG M) b (pp L no)) (zqT (pG n) no b (L.map tk)):=by
 unfold zeM zqT;simp only[zJ,zC];refine .r ((H n (yJ _) M (by omega)).unary no L ok) (λ_ _=>⟨_,rfl,_,rfl⟩) λv L' ok'=>?_
 exact .loop (zC6 H hn hM b hb n 1000000000000 (yJ _) (by omega) v L' ok') (yJ _)
end
theorem SG.map{α β ρ:Type}{L0:List zk}{E:Int->ρ->Prop}{O:α->List zk->ρ->Prop}{O':β->List zk->ρ->Prop}{m:Option ρ}{q:PR α}(φ:α->β)(h:SG L0 E O m q)(ho: ∀v L' r,O v L' r->O' (φ v) L' r):
  SG L0 E O' m (q.bd λp=>Go.D08.gt (φ p.1,p.2)):=by
 cases q with
 |none=>trivial
 |some p=>
  cases p with
  |inl k=>exact h
  |inr p=>
   obtain⟨r,L',e1,e2,e3,e4⟩:=h;exact⟨r,L',e1,e2,e3,ho _ _ _ e4⟩
theorem SG.gt'{α ρ:Type}{L0 L:List zk}{E:Int->ρ->Prop}{O:α->List zk->ρ->Prop}{r:ρ}{v:α}{t:zH}(ok:TL L0 L)(ht:L.map tk=t)(h:O v L r):SG L0 E O (some r) (Go.D08.gt (v,t)):=⟨r,L,rfl,ht,ok,h⟩
section
variable {L0 L:List zk} {no:Bool} {n M:Nat} (H: ∀k,k<=n->∀N,20*k+20<=N->ztQ L0 (RG N) (pG k)) (hn:n<=10000000000) (hM:20*n+30<=M)
include H hn hM
theorem zE0(ok:TL L0 L):SG L0 ER (λv L' r=>r= .inl (pp L' no,v,[],[],())) ((RG M).zbQ (pp L no) 0 [] 0 [] [] []) ((pG n).assign false (L.map tk)):=by
 obtain⟨M,rfl⟩: ∃k,M=k+2:=⟨M -2,by omega⟩
 have h1:SG L0 ER (λv L' r=>r= .inl (pp L' false,v,[],[],())) (zea (RG M) (pp L false) 0 [] 0 [] [] []) ((pG n).assign false (L.map tk)):=by
  unfold zea;simp only[zJ,zC];exact .rr ((H n (yJ _) M (by omega)).assign false L ok) (λ_ _=>⟨_,rfl,_,rfl⟩) λv L'=>⟨_,rfl,rfl⟩
 show SG _ _ _ (zdG (RG (M+1)) (pp L no) 0 [] 0 [] [] []) _;unfold zdG;simp only[zJ,zC];exact h1.same (by rintro a _ ⟨y,rfl⟩;exact⟨_,rfl,_,rfl⟩) (by rintro v L' _ _ rfl;exact⟨_,rfl,rfl⟩)
theorem zGg(ok:TL L0 L):SG L0 ER (λv L' r=>r= .inl (pp L' no,v,[],[],())) ((RG M).zbO (pp L no) 0 [] 0 [] [] []) ((pG n).expr false (L.map tk)):=by
 obtain⟨M,rfl⟩: ∃k,M=k+2:=⟨M -2,by omega⟩
 have h1:SG L0 ER (λv L' r=>r= .inl (pp L' false,v,[],[],())) (zeK (RG M) (pp L false) 0 [] 0 [] [] []) ((pG n).expr false (L.map tk)):=by
  unfold zeK;simp only[zJ,zC];exact .rr ((H n (yJ _) M (by omega)).expr false L ok) (λ_ _=>⟨_,rfl,_,rfl⟩) λv L'=>⟨_,rfl,rfl⟩
 show SG _ _ _ (zdH (RG (M+1)) (pp L no) 0 [] 0 [] [] []) _;unfold zdH;simp only[zJ,zC];exact h1.same (by rintro a _ ⟨y,rfl⟩;exact⟨_,rfl,_,rfl⟩) (by rintro v L' _ _ rfl;exact⟨_,rfl,rfl⟩)
theorem zHy(ok:TL L0 L):SG L0 ER (λv L' r=>r= .inl (pp L' no,v,[],[],())) ((RG M).zbR (pp L no) 0 [] 0 [] [] []) ((pG n).expr false (L.map tk)):=by
 obtain⟨M,rfl⟩: ∃k,M=k+2:=⟨M -2,by omega⟩
 have h1:SG L0 ER (λv L' r=>r= .inl (pp L' false,v,[],[],())) (zdX (RG M) (pp L false) 0 [] 0 [] [] []) ((pG n).expr false (L.map tk)):=by
  unfold zdX;simp only[zJ,zC];exact .rr ((H n (yJ _) M (by omega)).expr false L ok) (λ_ _=>⟨_,rfl,_,rfl⟩) λv L'=>⟨_,rfl,rfl⟩
 show SG _ _ _ (zdK (RG (M+1)) (pp L no) 0 [] 0 [] [] []) _;unfold zdK;simp only[zJ,zC];exact h1.same (by rintro a _ ⟨y,rfl⟩;exact⟨_,rfl,_,rfl⟩) (by rintro v L' _ _ rfl;exact⟨_,rfl,rfl⟩)
theorem zFE(ok:TL L0 L):SG L0 ER (OL no) (zeN (RG M) (pp L no)) (zq9 (pG n) no (L.map tk)):=by
 have S:=H n (yJ _) M (by omega);unfold zeN zq9;simp only[zJ,zC];refine .l (S.binary no 3 L ok (by decide)) (λ_ _=>⟨_,rfl,_,rfl⟩) λv L1 ok1=>?_
 refine .has ok1 (λh ok2=>?_) λh=>?_
 ·simp only[yB];rw[<-yM];refine(zE0 H hn hM ok2).gen (by rintro a _ ⟨y,rfl⟩;exact⟨_,rfl,_,rfl⟩) ?_
  rintro y L3 _ _ ok3 rfl;refine .need ok3 (λ_ _=>⟨_,rfl,_,rfl⟩) λL4 ok4=>?_
  exact .r (S.assign no L4 ok4) (λ_ _=>⟨_,rfl,_,rfl⟩) λz L5 ok5=> .gt ok5 rfl
 ·simp only[qz2,yA];refine .among (ws:=zGv) ok1 (by decide+kernel) (by decide+kernel) (by decide) (λh=>?_) λh=>?_
  ·simp only[yO,qz2,yA,yB];refine .target ok1 (λ_ _=>⟨_,rfl,_,rfl⟩) λht=>?_
   refine .take ok1 (zeW h) λa ha ok2=>?_
   rw[<-yM];refine .r (S.assign no _ ok2) (λ_ _=>⟨_,rfl,_,rfl⟩) λz L5 ok5=> .gt ok5 ?_
   simp only[ha];rfl
  ·simp only[yN,yB];exact .gt ok1 rfl
theorem zHm(ok:TL L0 L):SG L0 ER (OL no) (zfg (RG M) (pp L no)) (zvX (pG n) (L.map tk)):=by
 have S:=H n (yJ _) M (by omega);unfold zfg zvX;simp only[zJ,zC,zfw];refine .among (ws:=zG4) ok (by decide+kernel) (by decide+kernel) (by decide) (λh=>?_) λh=>?_
 ·simp only[yB];refine .take ok (zeW h) λa ha ok2=>?_
  rw[<-yM];refine .r (S.unary no _ ok2) (λ_ _=>⟨_,rfl,_,rfl⟩) λz L5 ok5=> .gt ok5 ?_
  simp only[ha];rfl
 ·simp only[qz2,yA];refine .among (ws:=zqf) ok (by decide+kernel) (by decide+kernel) (by decide) (λh=>?_) λh=>?_
  ·simp only[yB];refine .take ok (zeW h) λa ha ok2=>?_
   rw[<-yM];refine .r (S.unary no _ ok2) (λ_ _=>⟨_,rfl,_,rfl⟩) λz L5 ok5=>?_
   refine .target ok5 (λ_ _=>⟨_,rfl,_,rfl⟩) λht=> .gt ok5 ?_
   simp only[ha]
  ·simp only[qz2,yA];refine .r (S.made no L ok) (λ_ _=>⟨_,rfl,_,rfl⟩) λx L1 ok1=>?_
   refine .l (S.mems no x true L1 ok1) (λ_ _=>⟨_,rfl,_,rfl⟩) λy L2 ok2=>?_
   simp only;rw[zjX ok2.ok zqf ([32,43,43,32,45,45,32]:Str) (by decide+kernel) (by decide+kernel) (by decide),qz1];obtain⟨a,r,rfl⟩:=ok2.ok.cons;simp only[zcQ,qz1];cases h1:zet zqf ((a::r).map tk)with
   |false=>
    simp only[yN,yB,qz1,Bool.true_or];exact .gt ok2 rfl
   |true=>
    have hf:a.Fresh=ziM ((a::r).map tk):=rfl;simp only[yO,qz2,yA,qz1,Bool.false_or,hf];cases h2:ziM ((a::r).map tk)with
    |true=>
     simp only[yB];exact .gt ok2 rfl
    |false=>
     simp only[qz2,yA];refine .target ok2 (λ_ _=>⟨_,rfl,_,rfl⟩) λht=>?_
     refine .take ok2 (zeW h1) λb hb ok3=> .gt' ok3 (by rw[yM]) ?_
     simp only[hb];rfl
theorem zIU(ok:TL L0 L):SG L0 ER (OL no) (zf1 (RG M) (pp L no)) (zxB (pG n) (L.map tk)):=by
 have S:=H n (yJ _) M (by omega);unfold zf1 zxB;simp only[zJ,zC,zfw];refine .has ok (λh ok1=>?_) λh=>?_
 ·simp only[yO,qz2,yA];rw[<-yM];refine .r (S.made no _ ok1) (λ_ _=>⟨_,rfl,_,rfl⟩) λx L1 ok1=>?_
  refine .l (S.mems no x false L1 ok1) (λ_ _=>⟨_,rfl,_,rfl⟩) λy L2 ok2=>?_
  refine .has ok2 (λh ok3=>?_) λh=>?_
  ·simp only[yB];rw[<-yM];refine(S.exprs no _ _ _ ok3).gen (by rintro a _ ⟨y,rfl⟩;exact⟨_,rfl,_,rfl⟩) ?_
   rintro l L4 _ hq ok4 rfl;have:=zva n _ _ _ _ hq;simp only at this;exact .room (by simp only[qz3,qz6];omega) (.gt ok4 rfl)
  ·simp only[qz2,yA];exact .gt ok2 rfl
 ·simp only[yN,yB];exact .rr (S.prim no L ok) (λ_ _=>⟨_,rfl,_,rfl⟩) λv L'=>⟨_,rfl,rfl⟩
theorem zDE(c:Bool): ∀(k m:Nat),k<=n+1->k<=m->∀(x:Node) (L:List zk),TL L0 L->
  SG L0 EL (OR no) (zaq (zcY (RG M)) m (c,pp L no,x,0,([]:Str),0,([]:Str),([]:List Str),([]:List zg),())) ((pG k).mems c x (L.map tk))
 |0,m,_,_,x,L,ok=>trivial
 |k+1,0,_,hm,x,L,ok=>by omega
 |k+1,m+1,hk,hm,x,L,ok=>by
  have S:=H k (by omega) M (by omega);have hw:=λx L ok=>zDE c k m (by omega) (by omega) x L ok
  show SG _ _ _ _ (zwn (pG k) c x (L.map tk));unfold zwn;rw[zev];generalize zaq (zcY (RG M)) m=W at hw⊢;unfold zcY;simp only[zJ,zC,zfw];refine .assoc (.has ok (λh ok1=>?_) λh=>?_)
  ·simp only[yB];rw[<-yM];obtain⟨a,r,hL⟩:=ok1.ok.cons;rw[hL]at ok1⊢;have k1:=zfS ok1 1;have k2:=zfS ok1 2;rw[show((1:Nat):Int)=1 from rfl]at k1;rw[show((2:Nat):Int)=2 from rfl]at k2;simp only[zcQ,qz1,bne,k1,k2];cases h1:zaa ((a::r).map tk)==1 with
   |true=>
    simp only[yO,qz2,yA,qz1,Bool.true_or,yB];refine .assoc (.take ok1 (zbd h1 (by decide)) λb hb ok3=>?_);have:=hw (ndN 11 (tText ((a::r).map tk)) [x]) r ok3;simp only[hb];exact this
   |false=>
    cases h2:zaa ((a::r).map tk)==2 with
    |true=>
     simp only[yO,yN,qz2,yA,yB,qz1,Bool.or_true];refine .assoc (.take ok1 (zbd h2 (by decide)) λb hb ok3=>?_);have:=hw (ndN 11 (tText ((a::r).map tk)) [x]) r ok3;simp only[hb];exact this
    |false=>
     simp only[yN,qz2,yA,yB,qz1,Bool.or_self];exact .assoc (.fail ok1 λa=>⟨_,rfl,_,rfl⟩)
  ·simp only[qz2,yA];refine .assoc (.has ok (λh ok1=>?_) λh=>?_)
   ·simp only[yB];rw[<-yM];refine .assoc ((zHy (λj hj=>H j (by omega)) (by omega) (by omega) ok1).gen (by rintro a _ ⟨y,rfl⟩;exact⟨_,rfl,_,rfl⟩) ?_)
    rintro y L3 _ _ ok3 rfl;refine .assoc (.need ok3 (λ_ _=>⟨_,rfl,_,rfl⟩) λL4 ok4=>?_);exact hw _ L4 ok4
   ·simp only[qz2,yA];cases c with
    |false=>
     simp only[Bool.false_and,qz2,yA];exact .gt ok rfl
    |true=>
     simp only[Bool.true_and,yB];refine .assoc (.has ok (λh ok1=>?_) λh=>?_)
     ·simp only[yB];rw[<-yM];refine .assoc ((S.exprs no _ _ _ ok1).gen (by rintro a _ ⟨y,rfl⟩;exact⟨_,rfl,_,rfl⟩) ?_)
      rintro l L4 _ hq ok4 rfl;have:=zva k _ _ _ _ hq;simp only at this;exact .assoc (.room (by simp only[qz3,qz6];omega) (hw _ L4 ok4))
     ·simp only[qz2,yA];exact .gt ok rfl
theorem zIf(x:Node)(c:Bool)(ok:TL L0 L):SG L0 EL (OR no) (zeC (RG M) x c (pp L no)) (zwn (pG n) c x (L.map tk)):=by
 unfold zeC;simp only[zJ,zC];exact .loop (zDE H hn hM c (n+1) 1000000000000 (yJ _) (by omega) x L ok) (yJ _)
end
theorem zBc{α:Type}(l:List α)(x:α):zL (l++[x]) ((l.length:Nat):Int)=some x:=by rw[ze3];simp
theorem zDf{α:Type}(l:List α)(x y:α):(l++[x]).set ((l.length:Nat):Int).toNat y=l++[y]:=by simp
section
variable {L0 L:List zk} {no:Bool} {n M:Nat} (H: ∀k,k<=n->∀N,20*k+20<=N->ztQ L0 (RG N) (pG k)) (hn:n<=10000000000) (hM:20*n+30<=M)
include H hn hM
theorem zEQ(l:List Node)(hl:l.length<=20000000000)(ok:TL L0 L):SG L0 ER (λv L' r=>r= .inl (pp L' no,l++[v],())) ((RG M).zcb (pp L no) l) ((pG n).assign no (L.map tk)):=by
 obtain⟨M,rfl⟩: ∃k,M=k+1:=⟨M -1,by omega⟩
 show SG _ _ _ (zey (RG M) (pp L no) l) _;unfold zey;simp only[zJ,zC,zfw];refine .rr ((H n (yJ _) M (by omega)).assign no L ok) (λ_ _=>⟨_,rfl,_,rfl⟩) λv L'=>⟨.inl (pp L' no,l++[v],()),?_,rfl⟩
 simp only[qz3,qz6,Nat.zero_add];rw[zhY (by omega)];simp only[qz1,zBc,zDf]
theorem zDr(s:Str)(last:Bool): ∀(k m:Nat),k<=n+1->k<=m->∀(l:List Node) (L:List zk),l.length+k<=n+1->TL L0 L->
  SG L0 ER (λ(v:List Node) L' r=>r= .inl (pp L' false,s,l++v,last,())) (zaq (zcC (RG M)) m (pp L false,s,l,last,())) ((pG k).exprs s last (L.map tk))
 |0,m,_,_,l,L,_,ok=>trivial
 |k+1,0,_,hm,l,L,_,ok=>by omega
 |k+1,m+1,hk,hm,l,L,hl,ok=>by
  show SG _ _ _ _ (zmO (pG k) s last (L.map tk));have ih:=λl L hl ok=>zDr s last k m (by omega) (by omega) l L hl ok
  unfold zmO;rw[zev];generalize zaq (zcC (RG M)) m=W at ih⊢;unfold zcC;simp only[zJ];refine .assoc (.has ok (λh ok1=>?_) λh=>?_)
  ·simp only[yO,qz2,yA];exact .gt' ok1 (by rw[yM]) (by simp)
  ·simp only[yN,yB];refine .assoc ((zEQ (no:=false) (λj hj=>H j (by omega)) (by omega) (by omega) l (by omega) ok).gen (by rintro a _ ⟨y,rfl⟩;exact⟨_,rfl,_,rfl⟩) ?_)
   rintro x L1 _ _ ok1 rfl;refine .assoc (.has ok1 (λh ok2=>?_) λh=>?_)
   ·simp only[yB];exact .gt' ok2 (by rw[yM]) rfl
   ·simp only[qz2,yA];refine .assoc (.need ok1 (λ_ _=>⟨_,rfl,_,rfl⟩) λL2 ok2=>?_)
    have go: ∀L3,TL L0 L3->SG L0 ER (λ(v:List Node) L' r=>r= .inl (pp L' false,s,l++v,last,())) (W (pp L3 false,s,l++[x],last,())) (((pG k).exprs s last (L3.map tk)).bd λq=>gt (x::q.1,q.2)):=λL3 ok3=>
     (ih (l++[x]) L3 (by rw[qz5];simp only[qz3,qz6];omega) ok3).map (λv=>x::v) (by rintro v L' _ rfl;simp)
    cases last with
    |true=>
     simp only[yO,Bool.false_and,qz2,yA];exact go L2 ok2
    |false=>
     simp only[yN,Bool.true_and,yB];refine .assoc (.is ok2 (λh=>?_) λh=>?_)
     ·simp only[yB];exact .assoc (.fail ok2 λa=>⟨_,rfl,_,rfl⟩)
     ·simp only[qz2,yA];exact go L2 ok2
theorem zGD(h9:20*n+39<=M)(s:Str)(last:Bool)(ok:TL L0 L):SG L0 ER (OL no) (zfa (RG M) s last (pp L no)) (zmO (pG n) s last (L.map tk)):=by
 obtain⟨M,rfl⟩: ∃k,M=k+4:=⟨M -4,by omega⟩
 unfold zfa;show SG _ _ _ ((zdg (RG (M+3)) s last (pp L no) []).bind _) ((pG (n+1)).exprs s last (L.map tk))
 have h1:SG L0 ER (λ(v:List Node) L' r=>r= .inl (pp L' false,s,v,last,())) (zdZ (RG (M+1)) (pp L false) s [] last) ((pG (n+1)).exprs s last (L.map tk)):=by
  unfold zdZ;simp only[zJ];exact .loop (zDr H hn (by omega) s last (n+1) 1000000000000 (yJ _) (by omega) [] L (by simp) ok) (yJ _)
 have h2:SG L0 ER (λ(v:List Node) L' r=>r= .inl (pp L' no,s,v,last,())) (zdT (RG (M+2)) (pp L no) s [] last) ((pG (n+1)).exprs s last (L.map tk)):=by
  unfold zdT;simp only[zJ];exact h1.same (by rintro a _ ⟨y,rfl⟩;exact⟨_,rfl,_,rfl⟩) (by rintro v L' _ _ rfl;exact⟨_,rfl,rfl⟩)
 have h3:SG L0 ER (λ(v:List Node) L' r=>r= .inl (pp L' no,v,())) (zdg (RG (M+3)) s last (pp L no) []) ((pG (n+1)).exprs s last (L.map tk)):=by
  unfold zdg;simp only[zJ];exact h2.same (by rintro a _ ⟨y,rfl⟩;exact⟨_,rfl,_,rfl⟩) (by rintro v L' _ _ rfl;exact⟨_,rfl,rfl⟩)
 exact h3.same (by rintro a _ ⟨y,rfl⟩;exact⟨_,rfl,_,rfl⟩) (by rintro v L' _ _ rfl;exact⟨_,rfl,rfl⟩)
end
end Go.D08
namespace Go.D08
open Go Go.Gw Go.Dn
set_option maxRecDepth 100000
theorem ziE(ws:List Str)(h: ∀w∈ws,w≠[]/\(32:UInt8)∉w)(s:Str):zgl (joined ws) s=ws.contains s:=by
 unfold zgl;by_cases h0:s=[]
 ·subst h0
  have:ws.contains ([]:Str)=false:=by
   cases hc:ws.contains ([]:Str)with
   |false=>rfl
   |true=>exact absurd rfl (h [] (by simpa using hc)).1
  rw[this];rfl
 ·have e0:(s==([]:Str))=false:=by rw[yH];exact h0
  rw[e0];by_cases h1:(32:UInt8)∈s
  ·have e1:s.contains 32=true:=by simpa using h1
   have:ws.contains s=false:=by
    cases hc:ws.contains s with
    |false=>rfl
    |true=>exact absurd h1 (h s (by simpa using hc)).2
   rw[e1,this];rfl
  ·have e1:s.contains 32=false:=by simpa using h1
   rw[e1,ziw s h1 ws λw hw=>(h w hw).2];rfl
def lv1(l:List Node):Str:=match l with
 | []=>[]
 |_::_=>[101]
def lv3(l:List Node):Str:=match l with
 |_::_::_::_=>[101,98,98]
 |_=>[101,98]
theorem zFA(l:List Node):zar ([101]:Str) 0 (if 1< ((l.length:Nat):Int)then 1 else((l.length:Nat):Int))=some (lv1 l):=by
 rw[zLN (zHM _).1 (zHM _).2];cases l with
 |nil=>rfl
 |cons a r=>
  have:(if 1< (((a::r).length:Nat):Int)then(1:Int)else(((a::r).length:Nat):Int))=1:=by simp only[qz3];split<;>omega
  rw[this];rfl
theorem zJW(l:List Node):zar ([101,98,98]:Str) 0 (let a:=(if 2>((l.length:Nat):Int)then 2 else((l.length:Nat):Int));if 3<a then 3 else a)=some (lv3 l):=by
 rw[zH4 (zHJ _).1 (zHJ _).2]
 match l with
 | []=>rfl
 | [_]=>rfl
 | [_,_]=>rfl
 |a::b::c::r=>
  have:(let a':=(if 2>(((a::b::c::r).length:Nat):Int)then(2:Int)else(((a::b::c::r).length:Nat):Int));if 3<a' then 3 else a')=3:=by simp only[qz3];split<;>split<;>omega
  rw[this];rfl
theorem zLd{x:Node}(h:x.Kind=1):zak x=some ⟨[],9007199254740991,false,false,[]⟩:=by
 simp[zak,zaI,zS,zK,h,zC,zC]
theorem zJY{x:Node}(h:x.Kind=2):zak x=some ⟨[],0,true,false,[]⟩:=by
 simp[zak,zaI,zS,zK,h,zC,zC]
theorem zLe{x:Node}(h:x.Kind=3):zak x=some ⟨[110],0,false,false,[]⟩:=by
 simp[zak,zaI,zS,zK,h,zC,zC]
theorem zK4{x:Node}(h:x.Kind=7):zak x=some ⟨[],0,false,false,[42,101]⟩:=by
 simp[zak,zaI,zS,zK,h,zC,zC]
theorem zJ9{x:Node}(h:x.Kind=8):zak x=some ⟨[],0,false,false,[42,112]⟩:=by
 simp[zak,zaI,zS,zK,h,zC,zC]
theorem zKk{x:Node}(h:x.Kind=9):zak x=some ⟨[],0,true,false,[101]⟩:=by
 simp[zak,zaI,zS,zK,h,zC,zC]
theorem zIN{x:Node}(h:x.Kind=10):zak x=some ⟨[109],0,false,true,[42,120]⟩:=by
 simp[zak,zaI,zS,zK,h,zC,zC]
theorem zIh{x:Node}(h:x.Kind=11):zak x=some ⟨[105],0,false,false,[101]⟩:=by
 simp[zak,zaI,zS,zK,h,zC,zC]
theorem zIs{x:Node}(h:x.Kind=12):zak x=some ⟨[],0,false,false,[101,101]⟩:=by
 simp[zak,zaI,zS,zK,h,zC,zC]
theorem zJs{x:Node}(h:x.Kind=13):zak x=some ⟨[],0,false,false,[101,42,101]⟩:=by
 simp[zak,zaI,zS,zK,h,zC,zC]
theorem zH6{x:Node}(h:x.Kind=14):zak x=some ⟨[],0,false,false,[101,42,101]⟩:=by
 simp[zak,zaI,zS,zK,h,zC,zC]
theorem zJD{x:Node}(h:x.Kind=15):zak x=some ⟨[32,45,32,43,32,33,32,116,121,112,101,111,102,32,100,101,108,101,116,101,32,118,111,105,100,32],0,false,false,[101]⟩:=by
 simp[zak,zaI,zS,zK,h,zC,zC]
theorem zJE{x:Node}(h:x.Kind=16):zak x=some ⟨[32,43,43,32,45,45,32],1,false,false,[116]⟩:=by
 simp[zak,zaI,zS,zK,h,zC,zC]
theorem zIn{x:Node}(h:x.Kind=17):zak x=some ⟨[32,43,32,45,32,42,32,47,32,37,32,60,32,62,32,60,61,32,62,61,32,61,61,32,33,61,32,61,61,61,32,33,61,61,32,105,110,32,105,110,115,116,97,110,99,101,111,102,32],0,false,false,[101,101]⟩:=by
 simp[zak,zaI,zS,zK,h,zC,zC]
theorem zJr{x:Node}(h:x.Kind=18):zak x=some ⟨[32,38,38,32,124,124,32],0,false,false,[101,101]⟩:=by
 simp[zak,zaI,zS,zK,h,zC,zC]
theorem zJK{x:Node}(h:x.Kind=19):zak x=some ⟨[],0,false,false,[101,101,101]⟩:=by
 simp[zak,zaI,zS,zK,h,zC,zC]
theorem zH8{x:Node}(h:x.Kind=20):zak x=some ⟨[32,61,32,43,61,32,45,61,32,42,61,32,47,61,32,37,61,32],0,false,false,[116,101]⟩:=by
 simp[zak,zaI,zS,zK,h,zC,zC]
theorem zIu{x:Node}(h:x.Kind=21):zak x=some ⟨[],0,false,false,[101,101]⟩:=by
 simp[zak,zaI,zS,zK,h,zC,zC]
theorem zH2{x:Node}(h:x.Kind=22):zak x=some ⟨[],0,false,false,[100,42,100]⟩:=by
 simp[zak,zaI,zS,zK,h,zC,zC]
theorem zJR{x:Node}(h:x.Kind=23):zak x=some ⟨[110],0,false,false,lv1 x.L⟩:=by
 simp[zak,zaI,zS,zK,h,zC,zC,zFA]
theorem zIS{x:Node}(h:x.Kind=24):zak x=some ⟨[],0,false,false,[101]⟩:=by
 simp[zak,zaI,zS,zK,h,zC,zC]
theorem zIe{x:Node}(h:x.Kind=25):zak x=some ⟨[],0,false,false,[42,115]⟩:=by
 simp[zak,zaI,zS,zK,h,zC,zC]
theorem zH3{x:Node}(h:x.Kind=26):zak x=some ⟨[],0,false,false,lv3 x.L⟩:=by
 have e:=zJW x.L;simp only at e;simp[zak,zaI,zS,h,zC,zC,e]
theorem zIr{x:Node}(h:x.Kind=27):zak x=some ⟨[],0,false,false,[101,98]⟩:=by
 simp[zak,zaI,zS,zK,h,zC,zC]
theorem zJw{x:Node}(h:x.Kind=28):zak x=some ⟨[],0,false,false,[98,101]⟩:=by
 simp[zak,zaI,zS,zK,h,zC,zC]
theorem zH9{x:Node}(h:x.Kind=29):zak x=some ⟨[],0,false,false,[118,102,102,98]⟩:=by
 simp[zak,zaI,zS,zK,h,zC,zC]
theorem zIt{x:Node}(h:x.Kind=30):zak x=some ⟨[],0,false,false,[119,101,98]⟩:=by
 simp[zak,zaI,zS,zK,h,zC,zC]
theorem zJH{x:Node}(h:x.Kind=31):zak x=some ⟨[109],0,false,false,[]⟩:=by
 simp[zak,zaI,zS,zK,h,zC,zC]
theorem zIi{x:Node}(h:x.Kind=32):zak x=some ⟨[109],0,false,false,[]⟩:=by
 simp[zak,zaI,zS,zK,h,zC,zC]
theorem zI2{x:Node}(h:x.Kind=33):zak x=some ⟨[],0,false,false,lv1 x.L⟩:=by
 simp[zak,zaI,zS,zK,h,zC,zC,zFA]
theorem zJc{x:Node}(h:x.Kind=34):zak x=some ⟨[],0,false,false,[101]⟩:=by
 simp[zak,zaI,zS,zK,h,zC,zC]
theorem zIF{x:Node}(h:x.Kind=35):zak x=some ⟨[99],0,false,false,[98,99,99]⟩:=by
 simp[zak,zaI,zS,zK,h,zC,zC]
theorem zJb{x:Node}(h:x.Kind=36):zak x=some ⟨[],0,false,false,[101,42,107]⟩:=by
 simp[zak,zaI,zS,zK,h,zC,zC]
theorem zIZ{x:Node}(h:x.Kind=37):zak x=some ⟨[],0,false,false,[102,42,115]⟩:=by
 simp[zak,zaI,zS,zK,h,zC,zC]
theorem zIR{x:Node}(h:x.Kind=38):zak x=some ⟨[110],0,false,false,[115]⟩:=by
 simp[zak,zaI,zS,zK,h,zC,zC]
theorem zJQ{x:Node}(h:x.Kind=39):zak x=some ⟨[110],0,false,true,[42,120]⟩:=by
 simp[zak,zaI,zS,zK,h,zC,zC]
theorem zIW{x:Node}(h:x.Kind=41):zak x=some ⟨[],0,false,false,[42,120]⟩:=by
 simp[zak,zaI,zS,zK,h,zC,zC]
theorem zFY(s:Str):zgl [32,45,32,43,32,33,32,116,121,112,101,111,102,32,100,101,108,101,116,101,32,118,111,105,100,32] s=zG4.contains s:=by
 rw[show([32,45,32,43,32,33,32,116,121,112,101,111,102,32,100,101,108,101,116,101,32,118,111,105,100,32]:Str)=joined zG4 by decide+kernel];exact ziE _ (by decide+kernel) s
theorem zHp(s:Str):zgl [32,43,43,32,45,45,32] s=zqf.contains s:=by
 rw[show([32,43,43,32,45,45,32]:Str)=joined zqf by decide+kernel];exact ziE _ (by decide+kernel) s
def ztu:List Str:=[[43],[45],[42],[47],[37],[60],[62],[60,61],[62,61],[61,61],[33,61],[61,61,61],[33,61,61],[105,110],[105,110,115,116,97,110,99,101,111,102]]
theorem zGb(s:Str):zgl [32,43,32,45,32,42,32,47,32,37,32,60,32,62,32,60,61,32,62,61,32,61,61,32,33,61,32,61,61,61,32,33,61,61,32,105,110,32,105,110,115,116,97,110,99,101,111,102,32] s=ztu.contains s:=by
 rw[show([32,43,32,45,32,42,32,47,32,37,32,60,32,62,32,60,61,32,62,61,32,61,61,32,33,61,32,61,61,61,32,33,61,61,32,105,110,32,105,110,115,116,97,110,99,101,111,102,32]:Str)=joined ztu by decide+kernel];exact ziE _ (by decide+kernel) s
def zyx:List Str:=[[38,38],[124,124]]
theorem zHv(s:Str):zgl [32,38,38,32,124,124,32] s=zyx.contains s:=by
 rw[show([32,38,38,32,124,124,32]:Str)=joined zyx by decide+kernel];exact ziE _ (by decide+kernel) s
theorem zHx(s:Str):zgl [32,61,32,43,61,32,45,61,32,42,61,32,47,61,32,37,61,32] s=zGv.contains s:=by
 rw[show([32,61,32,43,61,32,45,61,32,42,61,32,47,61,32,37,61,32]:Str)=joined zGv by decide+kernel];exact ziE _ (by decide+kernel) s
def zN(x:Node):Bool:=
 if((x.Kind==3||x.Kind==23)||(x.Kind==38||x.Kind==39))=true then zce x.Name
 else if((x.Kind==10||x.Kind==31)||x.Kind==32)=true then x.Name==([]:Str)||zce x.Name
 else if(x.Kind==11)=true then zkN x.Name
 else if(x.Kind==35)=true then(if(match x.L with| [_,y,_]=>y.Kind==25|_=>false)=true then zce x.Name else x.Name==([]:Str))
 else if(x.Kind==15)=true then zG4.contains x.Name
 else if(x.Kind==16)=true then zqf.contains x.Name
 else if(x.Kind==17)=true then ztu.contains x.Name
 else if(x.Kind==18)=true then zyx.contains x.Name
 else if(x.Kind==20)=true then zGv.contains x.Name
 else x.Name==([]:Str)
def zau(x:Node):Bool:=
 if(x.Kind==1)=true then decide (0<=x.Num)&&decide (x.Num<=9007199254740991)
 else if(x.Kind==6||x.Kind==16)=true then x.Num==0||x.Num==1
 else x.Num==0
def zas(x:Node):Bool:=(zN x&&(x.Text==([]:Str)||(x.Kind==2||x.Kind==9)))&&(zaW x.Text&&(zau x&&((x.Names.isEmpty||(x.Kind==10||x.Kind==39))&&x.Names.all zce)))
def zD(y:Node)(c:UInt8):Bool:=isP y ((c.toNat:Nat):Int)&&zbC y
def zU:Str->Option UInt8->List Node->Bool
 | [],some c,l=>l.all λy=>zD y c
 | [],none,l=>l.isEmpty
 |c::cs,m,y::ys=>zD y c&&zU cs m ys
 |_::_,_,[]=>false
theorem zx1: ∀(cs:Str) (m:Option UInt8) (l:List Node),zU cs m l=true->cs.length<=l.length/\(m.isSome=true\/l.length<=cs.length)
 | [],some c,l,_=>⟨Nat.zero_le _,.inl rfl⟩
 | [],none,l,h=>by
  cases l with
  |nil=>exact⟨yJ _,.inr (yJ _)⟩
  |cons a r=>cases h
 |c::cs,m,y::ys,h=>by
  simp only[zU,qz4]at h;obtain⟨h1,h2⟩:=zx1 cs m ys h.2;exact⟨by simp only[qz3];omega,h2.imp id λh=>by simp only[qz3];omega⟩
 |_::_,_,[],h=>by cases h
def ztz(m:Option UInt8):Str:=match m with
 |some c=>[c]
 |none=>[]
theorem zz3(x:Node)(ls:Str)(c:UInt8)(hc:ls[ls.length -1]? =some c)(hx: ∀k,zi2 x k=false)(e:Nat)(he:e<2): ∀(r:List Node) (i:Nat),ls.length -1<=i->zll x ls (zmZ r) i e=r.all λy=>zD y c
 | [],i,hi=>by simp[zmZ,zll,he]
 |k::r,i,hi=>by
  simp only[zmZ,zll,List.all_cons];rw[show min i (ls.length -1)=ls.length -1 by omega,hc];simp only[hx k,qz2,yA,zz3 x ls c hc hx e he r (i+1) (by omega),zD]
theorem zyG(x:Node)(m:Option UInt8)(hx: ∀k,zi2 x k=false): ∀(cs pre:Str) (l:List Node),cs.length<=l.length->(m.isSome=true\/l.length<=cs.length)->zll x (pre++(cs++ztz m)) (zmZ l) pre.length 0=zU cs m l
 | [],pre,l,h1,h2=>by
  cases m with
  |none=>
   have:l=[]:=List.length_eq_zero_iff.1 (by
    rcases h2 with h2|h2
    ·cases h2
    ·simpa using h2)
   subst this;rfl
  |some c=>
   simp only[zU,List.nil_append,ztz];exact zz3 x _ c (by simp) hx 0 (by omega) l pre.length (by simp)
 |c::cs,pre,[],h1,h2=>by simp at h1
 |c::cs,pre,y::ys,h1,h2=>by
  simp only[zmZ,zll,zU];have hlt:min pre.length ((pre++(c::cs++ztz m)).length -1)=pre.length:=by simp only[qz5,qz3];omega
  rw[hlt];have:(pre++(c::cs++ztz m))[pre.length]? =some c:=by simp
  rw[this];simp only[hx y,qz2,yA];have ih:=zyG x m hx cs (pre++[c]) ys (by simpa using h1) (h2.imp id λh=>by simpa using h);rw[show(pre++[c])++(cs++ztz m)=pre++(c::cs++ztz m) by simp]at ih;rw[qz5,List.length_singleton]at ih;rw[ih];rfl
theorem zbj{x:Node}{f:Form}(fx:Str)(m:Option UInt8)(hf:zak x=some f)(hs:zyJ x f=zas x)(h1:zp6 f.l=fx)(h2:zEf f.l=ztz m)(h3:f.l.contains 42=m.isSome)(h35:x.Kind≠35)(h36:x.Kind≠36):zbC x=(zas x&&zU fx m x.L):=by
 have hx: ∀k,zi2 x k=false:=λk=>by
  have e1:(x.Kind==35)=false:=by rw[yH];exact h35
  have e2:(x.Kind==36)=false:=by rw[yH];exact h36
  simp[zi2,e1,e2]
 rw[zy9];unfold zCb;rw[hf];simp only;rw[hs,h1,h2];cases zas x with
 |false=>rfl
 |true=>
  simp only[Bool.true_and];unfold znz;rw[h1,h3];by_cases hl:fx.length<=x.L.length/\(m.isSome=true\/x.L.length<=fx.length)
  ·have:=zyG x m hx fx [] x.L hl.1 hl.2;simp only[List.nil_append,qz6]at this;rw[this]
   have e:(decide (fx.length<=x.L.length)&&(m.isSome||decide (x.L.length<=fx.length)))=true:=by
    simp only[qz4,yQ,yT];exact hl
   rw[e,Bool.true_and]
  ·have e:(decide (fx.length<=x.L.length)&&(m.isSome||decide (x.L.length<=fx.length)))=false:=by
    rw[Bool.eq_false_iff];intro h;simp only[qz4,yQ,yT]at h;exact hl h
   rw[e,Bool.false_and];symm;rw[Bool.eq_false_iff];intro h;exact hl (zx1 _ _ _ h)
theorem zaM{x:Node}{f:Form}(hn:za3 x f.name=zN x)(hm:(decide (0<=x.Num)&&decide (x.Num<=f.num))=zau x)(ht:f.text=(x.Kind==2||x.Kind==9))(hs:f.names=(x.Kind==10||x.Kind==39)):zyJ x f=zas x:=by
 unfold zyJ zas;rw[hn,hm,ht,hs];generalize zN x=a1;generalize zau x=a2;generalize zaW x.Text=a3;generalize (x.Text==([]:Str))=a4;generalize (x.Kind==2||x.Kind==9)=a5;generalize x.Names.isEmpty=a6;generalize (x.Kind==10||x.Kind==39)=a7;generalize x.Names.all zce=a8;cases a1<;>cases a2<;>cases a3<;>cases a4<;>cases a5<;>cases a6<;>cases a7<;>cases a8<;>rfl
theorem zcO(n:Int):(decide (0<=n)&&decide (n<=0))=(n==0):=by
 rw[Bool.eq_iff_iff];simp only[qz4,yT,beq_iff_eq];omega
theorem num1(n:Int):(decide (0<=n)&&decide (n<=1))=(n==0||n==1):=by
 rw[Bool.eq_iff_iff];simp only[qz4,yQ,yT,beq_iff_eq];omega
theorem zLE{x:Node}(h:x.Kind=1):zbC x=(zas x&&zU [] none x.L):=
 zbj [] none (zLd h) (zaM (by simp[za3,zN,h]) (by simp[zau,h]) (by rw[h];rfl) (by rw[h];rfl)) (rfl) (rfl) (rfl) (by omega) (by omega)
theorem zLP{x:Node}(h:x.Kind=2):zbC x=(zas x&&zU [] none x.L):=
 zbj [] none (zJY h) (zaM (by simp[za3,zN,h]) (by rw[zcO];simp[zau,h]) (by rw[h];rfl) (by rw[h];rfl)) (rfl) (rfl) (rfl) (by omega) (by omega)
theorem zLQ{x:Node}(h:x.Kind=3):zbC x=(zas x&&zU [] none x.L):=
 zbj [] none (zLe h) (zaM (by simp[za3,zN,h]) (by rw[zcO];simp[zau,h]) (by rw[h];rfl) (by rw[h];rfl)) (rfl) (rfl) (rfl) (by omega) (by omega)
theorem zLx{x:Node}(h:x.Kind=7):zbC x=(zas x&&zU [] (some 101) x.L):=
 zbj [] (some 101) (zK4 h) (zaM (by simp[za3,zN,h]) (by rw[zcO];simp[zau,h]) (by rw[h];rfl) (by rw[h];rfl)) (rfl) (rfl) (rfl) (by omega) (by omega)
theorem zLR{x:Node}(h:x.Kind=8):zbC x=(zas x&&zU [] (some 112) x.L):=
 zbj [] (some 112) (zJ9 h) (zaM (by simp[za3,zN,h]) (by rw[zcO];simp[zau,h]) (by rw[h];rfl) (by rw[h];rfl)) (rfl) (rfl) (rfl) (by omega) (by omega)
theorem zLB{x:Node}(h:x.Kind=9):zbC x=(zas x&&zU [101] none x.L):=
 zbj [101] none (zKk h) (zaM (by simp[za3,zN,h]) (by rw[zcO];simp[zau,h]) (by rw[h];rfl) (by rw[h];rfl)) (rfl) (rfl) (rfl) (by omega) (by omega)
theorem zKB{x:Node}(h:x.Kind=10):zbC x=(zas x&&zU [] (some 120) x.L):=
 zbj [] (some 120) (zIN h) (zaM (by simp[za3,zN,h]) (by rw[zcO];simp[zau,h]) (by rw[h];rfl) (by rw[h];rfl)) (rfl) (rfl) (rfl) (by omega) (by omega)
theorem zJ8{x:Node}(h:x.Kind=11):zbC x=(zas x&&zU [101] none x.L):=
 zbj [101] none (zIh h) (zaM (by simp[za3,zN,h]) (by rw[zcO];simp[zau,h]) (by rw[h];rfl) (by rw[h];rfl)) (rfl) (rfl) (rfl) (by omega) (by omega)
theorem zLb{x:Node}(h:x.Kind=12):zbC x=(zas x&&zU [101,101] none x.L):=
 zbj [101,101] none (zIs h) (zaM (by simp[za3,zN,h]) (by rw[zcO];simp[zau,h]) (by rw[h];rfl) (by rw[h];rfl)) (rfl) (rfl) (rfl) (by omega) (by omega)
theorem zKd{x:Node}(h:x.Kind=13):zbC x=(zas x&&zU [101] (some 101) x.L):=
 zbj [101] (some 101) (zJs h) (zaM (by simp[za3,zN,h]) (by rw[zcO];simp[zau,h]) (by rw[h];rfl) (by rw[h];rfl)) (rfl) (rfl) (rfl) (by omega) (by omega)
theorem zKb{x:Node}(h:x.Kind=14):zbC x=(zas x&&zU [101] (some 101) x.L):=
 zbj [101] (some 101) (zH6 h) (zaM (by simp[za3,zN,h]) (by rw[zcO];simp[zau,h]) (by rw[h];rfl) (by rw[h];rfl)) (rfl) (rfl) (rfl) (by omega) (by omega)
theorem zKg{x:Node}(h:x.Kind=15):zbC x=(zas x&&zU [101] none x.L):=
 zbj [101] none (zJD h) (zaM (by simp[za3,zN,h,zFY]) (by rw[zcO];simp[zau,h]) (by rw[h];rfl) (by rw[h];rfl)) (rfl) (rfl) (rfl) (by omega) (by omega)
theorem zKV{x:Node}(h:x.Kind=16):zbC x=(zas x&&zU [116] none x.L):=
 zbj [116] none (zJE h) (zaM (by simp[za3,zN,h,zHp]) (by rw[num1];simp[zau,h]) (by rw[h];rfl) (by rw[h];rfl)) (rfl) (rfl) (rfl) (by omega) (by omega)
theorem zJ0{x:Node}(h:x.Kind=17):zbC x=(zas x&&zU [101,101] none x.L):=
 zbj [101,101] none (zIn h) (zaM (by simp[za3,zN,h,zGb]) (by rw[zcO];simp[zau,h]) (by rw[h];rfl) (by rw[h];rfl)) (rfl) (rfl) (rfl) (by omega) (by omega)
theorem zJZ{x:Node}(h:x.Kind=18):zbC x=(zas x&&zU [101,101] none x.L):=
 zbj [101,101] none (zJr h) (zaM (by simp[za3,zN,h,zHv]) (by rw[zcO];simp[zau,h]) (by rw[h];rfl) (by rw[h];rfl)) (rfl) (rfl) (rfl) (by omega) (by omega)
theorem zLa{x:Node}(h:x.Kind=19):zbC x=(zas x&&zU [101,101,101] none x.L):=
 zbj [101,101,101] none (zJK h) (zaM (by simp[za3,zN,h]) (by rw[zcO];simp[zau,h]) (by rw[h];rfl) (by rw[h];rfl)) (rfl) (rfl) (rfl) (by omega) (by omega)
theorem zLg{x:Node}(h:x.Kind=20):zbC x=(zas x&&zU [116,101] none x.L):=
 zbj [116,101] none (zH8 h) (zaM (by simp[za3,zN,h,zHx]) (by rw[zcO];simp[zau,h]) (by rw[h];rfl) (by rw[h];rfl)) (rfl) (rfl) (rfl) (by omega) (by omega)
theorem zKJ{x:Node}(h:x.Kind=21):zbC x=(zas x&&zU [101,101] none x.L):=
 zbj [101,101] none (zIu h) (zaM (by simp[za3,zN,h]) (by rw[zcO];simp[zau,h]) (by rw[h];rfl) (by rw[h];rfl)) (rfl) (rfl) (rfl) (by omega) (by omega)
theorem zKi{x:Node}(h:x.Kind=22):zbC x=(zas x&&zU [100] (some 100) x.L):=
 zbj [100] (some 100) (zH2 h) (zaM (by simp[za3,zN,h]) (by rw[zcO];simp[zau,h]) (by rw[h];rfl) (by rw[h];rfl)) (rfl) (rfl) (rfl) (by omega) (by omega)
theorem zFL{x:Node}(h:x.Kind=23):zbC x=(zas x&&zU (lv1 x.L) none x.L):=
 zbj (lv1 x.L) none (zJR h) (zaM (by simp[za3,zN,h]) (by rw[zcO];simp[zau,h]) (by rw[h];rfl) (by rw[h];rfl)) (by rcases x.L with _| ⟨a,_| ⟨b,_| ⟨c,r⟩⟩⟩<;>rfl) (by rcases x.L with _| ⟨a,_| ⟨b,_| ⟨c,r⟩⟩⟩<;>rfl) (by rcases x.L with _| ⟨a,_| ⟨b,_| ⟨c,r⟩⟩⟩<;>rfl) (by omega) (by omega)
theorem zK9{x:Node}(h:x.Kind=24):zbC x=(zas x&&zU [101] none x.L):=
 zbj [101] none (zIS h) (zaM (by simp[za3,zN,h]) (by rw[zcO];simp[zau,h]) (by rw[h];rfl) (by rw[h];rfl)) (rfl) (rfl) (rfl) (by omega) (by omega)
theorem zKH{x:Node}(h:x.Kind=25):zbC x=(zas x&&zU [] (some 115) x.L):=
 zbj [] (some 115) (zIe h) (zaM (by simp[za3,zN,h]) (by rw[zcO];simp[zau,h]) (by rw[h];rfl) (by rw[h];rfl)) (rfl) (rfl) (rfl) (by omega) (by omega)
theorem zFs{x:Node}(h:x.Kind=26):zbC x=(zas x&&zU (lv3 x.L) none x.L):=
 zbj (lv3 x.L) none (zH3 h) (zaM (by simp[za3,zN,h]) (by rw[zcO];simp[zau,h]) (by rw[h];rfl) (by rw[h];rfl)) (by rcases x.L with _| ⟨a,_| ⟨b,_| ⟨c,r⟩⟩⟩<;>rfl) (by rcases x.L with _| ⟨a,_| ⟨b,_| ⟨c,r⟩⟩⟩<;>rfl) (by rcases x.L with _| ⟨a,_| ⟨b,_| ⟨c,r⟩⟩⟩<;>rfl) (by omega) (by omega)
theorem zKP{x:Node}(h:x.Kind=27):zbC x=(zas x&&zU [101,98] none x.L):=
 zbj [101,98] none (zIr h) (zaM (by simp[za3,zN,h]) (by rw[zcO];simp[zau,h]) (by rw[h];rfl) (by rw[h];rfl)) (rfl) (rfl) (rfl) (by omega) (by omega)
theorem zKT{x:Node}(h:x.Kind=28):zbC x=(zas x&&zU [98,101] none x.L):=
 zbj [98,101] none (zJw h) (zaM (by simp[za3,zN,h]) (by rw[zcO];simp[zau,h]) (by rw[h];rfl) (by rw[h];rfl)) (rfl) (rfl) (rfl) (by omega) (by omega)
theorem zKz{x:Node}(h:x.Kind=29):zbC x=(zas x&&zU [118,102,102,98] none x.L):=
 zbj [118,102,102,98] none (zH9 h) (zaM (by simp[za3,zN,h]) (by rw[zcO];simp[zau,h]) (by rw[h];rfl) (by rw[h];rfl)) (rfl) (rfl) (rfl) (by omega) (by omega)
theorem zKv{x:Node}(h:x.Kind=30):zbC x=(zas x&&zU [119,101,98] none x.L):=
 zbj [119,101,98] none (zIt h) (zaM (by simp[za3,zN,h]) (by rw[zcO];simp[zau,h]) (by rw[h];rfl) (by rw[h];rfl)) (rfl) (rfl) (rfl) (by omega) (by omega)
theorem zJ7{x:Node}(h:x.Kind=31):zbC x=(zas x&&zU [] none x.L):=
 zbj [] none (zJH h) (zaM (by simp[za3,zN,h]) (by rw[zcO];simp[zau,h]) (by rw[h];rfl) (by rw[h];rfl)) (rfl) (rfl) (rfl) (by omega) (by omega)
theorem zK5{x:Node}(h:x.Kind=32):zbC x=(zas x&&zU [] none x.L):=
 zbj [] none (zIi h) (zaM (by simp[za3,zN,h]) (by rw[zcO];simp[zau,h]) (by rw[h];rfl) (by rw[h];rfl)) (rfl) (rfl) (rfl) (by omega) (by omega)
theorem zKX{x:Node}(h:x.Kind=33):zbC x=(zas x&&zU (lv1 x.L) none x.L):=
 zbj (lv1 x.L) none (zI2 h) (zaM (by simp[za3,zN,h]) (by rw[zcO];simp[zau,h]) (by rw[h];rfl) (by rw[h];rfl)) (by rcases x.L with _| ⟨a,_| ⟨b,_| ⟨c,r⟩⟩⟩<;>rfl) (by rcases x.L with _| ⟨a,_| ⟨b,_| ⟨c,r⟩⟩⟩<;>rfl) (by rcases x.L with _| ⟨a,_| ⟨b,_| ⟨c,r⟩⟩⟩<;>rfl) (by omega) (by omega)
theorem zLf{x:Node}(h:x.Kind=34):zbC x=(zas x&&zU [101] none x.L):=
 zbj [101] none (zJc h) (zaM (by simp[za3,zN,h]) (by rw[zcO];simp[zau,h]) (by rw[h];rfl) (by rw[h];rfl)) (rfl) (rfl) (rfl) (by omega) (by omega)
theorem zK3{x:Node}(h:x.Kind=37):zbC x=(zas x&&zU [102] (some 115) x.L):=
 zbj [102] (some 115) (zIZ h) (zaM (by simp[za3,zN,h]) (by rw[zcO];simp[zau,h]) (by rw[h];rfl) (by rw[h];rfl)) (rfl) (rfl) (rfl) (by omega) (by omega)
theorem zJV{x:Node}(h:x.Kind=38):zbC x=(zas x&&zU [115] none x.L):=
 zbj [115] none (zIR h) (zaM (by simp[za3,zN,h]) (by rw[zcO];simp[zau,h]) (by rw[h];rfl) (by rw[h];rfl)) (rfl) (rfl) (rfl) (by omega) (by omega)
theorem zKe{x:Node}(h:x.Kind=39):zbC x=(zas x&&zU [] (some 120) x.L):=
 zbj [] (some 120) (zJQ h) (zaM (by simp[za3,zN,h]) (by rw[zcO];simp[zau,h]) (by rw[h];rfl) (by rw[h];rfl)) (rfl) (rfl) (rfl) (by omega) (by omega)
theorem zKN{x:Node}(h:x.Kind=41):zbC x=(zas x&&zU [] (some 120) x.L):=
 zbj [] (some 120) (zIW h) (zaM (by simp[za3,zN,h]) (by rw[zcO];simp[zau,h]) (by rw[h];rfl) (by rw[h];rfl)) (rfl) (rfl) (rfl) (by omega) (by omega)
theorem zIc{x:Node}(h:x.Kind=35)(hl: ∃a b c,x.L=[a,b,c]):zyJ x ⟨[99],0,false,false,[98,99,99]⟩=zas x:=by
 obtain⟨a,b,c,hl⟩:=hl;exact zaM (by simp[za3,zN,h,hl]) (by rw[zcO];simp[zau,h]) (by rw[h];rfl) (by rw[h];rfl)
def zBt(l:List Node):Bool:=match l with
 | [a,b,c]=>(zD a 98&&(zD b 99&&zD c 99))&& !(b.Kind==42&&c.Kind==42)
 |_=>false
theorem zKL{x:Node}(h:x.Kind=35):zbC x=(zas x&&zBt x.L):=by
 rw[zy9];unfold zCb;rw[zIF h];simp only;have he: ∀k,zi2 x k=(k.Kind==42):=λk=>by simp[zi2,h]
 by_cases hl: ∃a b c,x.L=[a,b,c]
 ·rw[zIc h hl];obtain⟨a,b,c,hl⟩:=hl;have e1:znz x [98,99,99]=true:=by simp[znz,hl,zp6]
  rw[e1,Bool.and_true,hl];have e2:zp6 [98,99,99]++zEf [98,99,99]=[98,99,99]:=rfl;rw[e2];cases zas x with
  |false=>rfl
  |true=>
   simp only[Bool.true_and,zmZ,zll,zBt,he]
   have ea:zD a 98=true->(a.Kind==42)=false:=λh=>by
    simp only[zD,qz4]at h;have h1:(a.Kind==25)=true:=h.1;rw[yH];simp only[beq_iff_eq]at h1;omega
   have l0:([98,99,99]:Str)[min 0 (([98,99,99]:Str).length -1)]? =some 98:=rfl;have l1:([98,99,99]:Str)[min (0+1) (([98,99,99]:Str).length -1)]? =some 99:=rfl;have l2:([98,99,99]:Str)[min (0+1+1) (([98,99,99]:Str).length -1)]? =some 99:=rfl;rw[l0,l1,l2];have o1: ∀(y:Node) (c:UInt8),(isP y ((c.toNat:Nat):Int)&&zbC y)=zD y c:=λ_ _=>rfl
   simp only[o1];cases ha:zD a 98 with
   |false=>rfl
   |true=>
    rw[ea ha];cases zD b 99<;>cases zD c 99<;>cases b.Kind==42<;>cases c.Kind==42<;>rfl
 ·have e1:znz x [98,99,99]=false:=by
   rw[Bool.eq_false_iff];intro hm;simp only[znz,qz4,yQ,yT]at hm
   have h3:x.L.length=3:=by
    have a1:(zp6 [98,99,99]).length=3:=rfl;have a2:([98,99,99]:Str).contains 42=false:=rfl;rw[a1,a2]at hm;rcases hm with⟨h1,h2|h2⟩
    ·cases h2
    ·omega
   exact hl (by
    rcases hL:x.L with _| ⟨a,_| ⟨b,_| ⟨c,_| ⟨d,r⟩⟩⟩⟩<;>rw[hL]at h3<;>simp at h3
    exact⟨a,b,c,rfl⟩)
  rw[e1,Bool.and_false,Bool.false_and]
  have:zBt x.L=false:=by
   unfold zBt;split
   ·rename_i a b c hL;exact absurd ⟨a,b,c,hL⟩ hl
   ·rfl
  rw[this,Bool.and_false]
def zAT(k:Node):Bool:=match k.L with
 |y::_=>y.Kind==42
 | []=>false
def zjP:List Node->Nat->Bool
 | [],e=>decide (e<2)
 |k::r,e=>zD k 107&&zjP r (if zAT k=true then e+1 else e)
def zwq(l:List Node):Bool:=match l with
 |a::r=>zD a 101&&zjP r 0
 | []=>false
theorem zxK{x:Node}(h:x.Kind=36): ∀(r:List Node) (i e:Nat),1<=i->zll x [101,107] (zmZ r) i e=zjP r e
 | [],i,e,hi=>rfl
 |k::r,i,e,hi=>by
  simp only[zmZ,zll,zjP];rw[show min i (([101,107]:Str).length -1)=1 by simp only[qz3,qz6];omega]
  simp only[List.getElem?_cons_succ,List.getElem?_cons_zero];show(zD k 107&&_)=_;cases ho:zD k 107 with
  |false=>rfl
  |true=>
   have hk:k.Kind=37:=by
    simp only[zD,qz4]at ho;have h1:(k.Kind==37)=true:=ho.1;simpa using h1
   have:zi2 x k=zAT k:=by cases hL:k.L<;>simp[zi2,zAT,h,hk,hL]
   rw[this,zxK h r (i+1) _ (by omega)]
theorem zKf{x:Node}(h:x.Kind=36):zbC x=(zas x&&zwq x.L):=by
 rw[zy9];unfold zCb;rw[zJb h];simp only;rw[zaM (f:=⟨[],0,false,false,[101,42,107]⟩) (by simp[za3,zN,h]) (by rw[zcO];simp[zau,h]) (by rw[h];rfl) (by rw[h];rfl)]
 have e2:zp6 [101,42,107]++zEf [101,42,107]=[101,107]:=rfl;rw[e2];cases zas x with
 |false=>rfl
 |true=>
  rcases hL:x.L with _| ⟨a,r⟩
  ·simp[znz,hL,zp6,zwq]
  ·have e1:znz x [101,42,107]=true:=by simp[znz,hL,zp6]
   rw[e1];simp only[Bool.true_and,zmZ,zll,zwq];have l0:([101,107]:Str)[min 0 (([101,107]:Str).length -1)]? =some 101:=rfl;rw[l0];show(zD a 101&&_)=_;cases ho:zD a 101 with
   |false=>rfl
   |true=>
    have hk:znk a.Kind=true:=by
     simp only[zD,qz4]at ho;exact ho.1
    have:zi2 x a=false:=by
     simp only[znk,qz4,yT]at hk;have h2:(a.Kind==37)=false:=by rw[yH];omega
     simp[zi2,h,h2]
    simp only[this,qz2,yA,zxK h r (0+1) 0 (by omega)]
theorem zJU(y:Node):zD y 101=(znk y.Kind&&zbC y):=rfl
end Go.D08
namespace Go.Gw
end Go.Gw
namespace Go.D08
open Go Go.Gw Go.Dn
set_option maxRecDepth 100000
section
variable {g:zA}
end
theorem zhW{y:Node}{c:UInt8}(h:zD y c=true):zbC y=true:=by
 unfold zD at h;rw[qz4]at h;exact h.2
theorem zww{y:Node}(h:zD y 101=true):znk y.Kind=true/\zbC y=true:=by
 rw[zJU,qz4]at h;exact h
section
variable {g:zA} {n:Nat}
theorem fmt10(i:Int)(h1:0<=i)(h2:i<=9007199254740991):zd2 i 10=some (Lib.itoa i,()):=by
 have:zcw i 10=some (Lib.itoa i):=by
  unfold zcw;rw[yK (by decide),yL ⟨by omega,by omega,rfl⟩]
 unfold zd2;rw[this];rfl
end
section
variable {no calls last:Bool} {t t1 t2 t3 t4 t5:zH} {x y z:Node} {v:Node×zH} {l l1 l2:List Node} {least:Int} {s:Str}
structure zL2 (a:Tok) (w:Str):Prop where
 op:opK a=true
 text:a.text=w
end
section
variable {g:zA} {n:Nat}
end
theorem zyL{y:Node}{c:UInt8}(h:zD y c=true):isP y ((c.toNat:Nat):Int)=true:=by
 unfold zD at h;rw[qz4]at h;exact h.1
section
variable {g:zA} {n:Nat}
end
def zL1:List Str:=[[40],[41],[91],[93],[123],[125],[46],[44],[58],[59],[63],[116,104,105,115],[110,117,108,108],[116,114,117,101],[102,97,108,115,101],[102,117,110,99,116,105,111,110],[110,101,119],[45],[43],[33],[116,121,112,101,111,102],[100,101,108,101,116,101],[118,111,105,100],[43,43],[45,45],[42],[47],[37],[60],[62],[60,61],[62,61],[61,61],[33,61],[61,61,61],[33,61,61],[105,110],[105,110,115,116,97,110,99,101,111,102],[38,38],[124,124],[61],[43,61],[45,61],[42,61],[47,61],[37,61],[118,97,114],[105,102],[101,108,115,101],[119,104,105,108,101],[100,111],[102,111,114],[98,114,101,97,107],[99,111,110,116,105,110,117,101],[114,101,116,117,114,110],[116,104,114,111,119],[116,114,121],[99,97,116,99,104],[102,105,110,97,108,108,121],[115,119,105,116,99,104],[99,97,115,101],[100,101,102,97,117,108,116]]
structure Cls (c:Str->Tok):Prop where
 op: ∀w∈zL1,zL2 (c w) w
 name: ∀s,zce s=true->(c s).kind=1/\(c s).text=s
 ident: ∀s,zkN s=true->((c s).kind=1\/(c s).kind=2)/\(c s).text=s
 num: ∀n:Int,0<=n->n<=9007199254740991->(c (Lib.itoa n)).kind=3/\(c (Lib.itoa n)).num=n
 str: ∀s,zaW s=true->s.length<=100000000->(c (zFp s)).kind=4/\(c (zFp s)).text=s
 fresh: ∀s,(c s).fresh=false
 opt: ∀s,opK (c s)=true->(c s).text=s
section
variable (c:Str->Tok)
def T(l:List Str):zH:=l.map c
variable {c}
section
variable (C:Cls c)
include C
end
end
section
variable {c:Str->Tok}
variable (C:Cls c)
include C
end
section
variable {no calls last f o:Bool} {a:Tok} {t r t1 t2 t3 t4 t5:zH} {x y z b d:Node} {v:Node×zH} {l l1 l2:List Node} {s w:Str} {k:Int}
end
section
variable (c:Str->Tok)
variable {c}
variable (C:Cls c)
include C
end
section
variable (c:Str->Tok)
variable {c:Str->Tok}
variable (C:Cls c)
include C
end
section
variable {g:zA} {n:Nat}
end
noncomputable section
def wt(l:List Str):Nat:=(l.map λs=>s.length+1).sum
end
section
variable (c:Str->Tok)
variable {c}
variable (C:Cls c)
include C
def zEZ:Tok:=⟨0,[],0,false⟩
end
def zGY(s:Str):Nat:=s.foldl (λa c=>a*10+(c.toNat -48)) 0
theorem zyX: ∀(k u:Nat),u<k->zGY (Lib.decDigits u)=u/\(∀c∈Lib.decDigits u,zgQ c=true)/\Lib.decDigits u≠[]
 |0,u,h=>by omega
 |k+1,u,h=>by
  have hd: ∀d,d<10->(UInt8.ofNat (48+d)).toNat=48+d:=λd hd=>by rw[UInt8.toNat_ofNat'];omega
  have hdig: ∀d,d<10->zgQ (UInt8.ofNat (48+d))=true:=λd h=>by unfold zgQ;rw[hd d h];simp;omega
  rw[Lib.decDigits];split
  ·rename_i hu;refine⟨?_,?_,by simp⟩
   ·unfold zGY;simp only[List.foldl_cons,List.foldl_nil];rw[hd u hu];omega
   ·intro c hc;rw[List.mem_singleton.1 hc];exact hdig u hu
  ·rename_i hu;obtain⟨h1,h2,h3⟩:=zyX k (u/10) (by omega);refine⟨?_,?_,by simp⟩
   ·unfold zGY at h1⊢;rw[List.foldl_append,h1];simp only[List.foldl_cons,List.foldl_nil];rw[hd _ (by omega)];omega
   ·intro c hc;rcases List.mem_append.1 hc with hc|hc
    ·exact h2 c hc
    ·rw[List.mem_singleton.1 hc];exact hdig _ (by omega)
theorem zCT(n:Int)(h:0<=n):Lib.itoa n=Lib.decDigits n.toNat:=by unfold Lib.itoa;rw[yK (by omega)]
end Go.D08
namespace Go.D08
open Go Go.Gw Go.Dn Go.Proofs
set_option maxRecDepth 100000
theorem zoq{α β γ:Type}(x:PR α)(f:α×zH->PR β)(g:β×zH->PR γ):(x.bd f).bd g=x.bd λp=>(f p).bd g:=by
 cases x with
 |none=>rfl
 |some p=>cases p<;>rfl
theorem zxh{β γ:Type}(x:PR Unit)(f:zH->PR β)(g:β×zH->PR γ):(x.bn f).bd g=x.bn λp=>(f p).bd g:=zoq x (λq=>f q.2) g
theorem zxO(i:Int)(h1:0<=i)(h2:i<=9007199254740991):(Lib.itoa i).length<=21:=Lib.itoa_length_le i (by omega) (by omega)
theorem itoa_ascii(i:Int)(h1:0<=i): ∀b∈Lib.itoa i,b<128:=by
 rw[zCT i h1];intro b hb;have:=(zyX (i.toNat+1) i.toNat (by omega)).2.1 b hb;have h2:=of_decide_eq_true this;have h3:b.toNat<=57:=h2.2;show b.toNat<128;omega
theorem zsC(s:Str):(wide s).length=2*s.length:=by
 induction s with
 |nil=>rfl
 |cons c s ih=>unfold wide at ih⊢;rw[List.flatMap_cons,qz5,ih];simp;omega
theorem zFR(s:Str)(c:UInt8):wide (s++[c])=wide s++[0,c]:=by simp[wide]
theorem zDh(s:Str)(hs:s.length<=1000000000)(h128: ∀b∈s,b<128): ∀(b a:Str),s=a++b->
  zaq zhX (b.length+1) (s,((s.length:Nat):Int),((a.length:Nat):Int),wide a++List.replicate (2*b.length) 0,())=some (wide s,0,())
 | [],a,h=>by
  refine zW ?_;obtain rfl:s=a:=by rw[h];simp
  have hc: ¬(((s.length:Nat):Int)< ((s.length:Nat):Int)):=by omega
  simp only[zhX,hc,decide_false,qz2,yA,qz6,Nat.mul_zero,List.replicate_zero,List.append_nil]
 |c::b,a,h=>by
  have hlen:s.length=a.length+(b.length+1):=by rw[h];simp
  have hc:((a.length:Nat):Int)< ((s.length:Nat):Int):=by omega
  have hb:c<128:=h128 c (by rw[h];simp)
  have hget:s[a.length]? =some c:=by rw[h];simp
  have hlt: ¬(((c.toNat:Nat):Int)>=128):=by
   have:c.toNat<128:=hb;omega
  have w1:IntKind.wrap .i64 (2*((a.length:Nat):Int))=((2*a.length:Nat):Int):=by rw[wrap_i64 (by omega) (by omega)];omega
  have w2:IntKind.wrap .i64 (((2*a.length:Nat):Int)+1)=((2*a.length+1:Nat):Int):=by rw[wrap_i64 (by omega) (by omega)];omega
  have w3:IntKind.wrap .i64 (((a.length:Nat):Int)+1)=((a.length+1:Nat):Int):=by rw[wrap_i64 (by omega) (by omega)];omega
  have hrow:wide a++List.replicate (2*(b.length+1)) (0:UInt8)=(wide a++[0])++0::List.replicate (2*b.length) 0:=by
   rw[show 2*(b.length+1)=2*b.length+1+1 by omega,List.replicate_succ,List.replicate_succ];simp
  have hl1:(wide a++[0]).length=2*a.length+1:=by rw[qz5,zsC];rfl
  have hg: ∀x,zL ((wide a++[0])++x::List.replicate (2*b.length) (0:UInt8)) ((2*a.length+1:Nat):Int)=some x:=λx=>by
   rw[ze3,<-hl1];simp
  have hset:((wide a++[0])++0::List.replicate (2*b.length) (0:UInt8)).set (((2*a.length+1:Nat):Int)).toNat c=wide (a++[c])++List.replicate (2*b.length) 0:=by
   rw[Int.toNat_natCast,<-hl1,zFR];simp
  have hto:zDS ((c.toNat:Nat):Int)=some c:=by rw[zIM,zCw (by omega) (zLk c)];simp
  have hstep:zhX (s,((s.length:Nat):Int),((a.length:Nat):Int),wide a++List.replicate (2*(b.length+1)) 0,())=some (.inl (s,((s.length:Nat):Int),(((a++[c]).length:Nat):Int),wide (a++[c])++List.replicate (2*b.length) 0,())):=by
   simp only[zhX,hc,decide_true,yB,zfz,hget,Option.map_some,qz1,hlt,decide_false,qz2,yA,w1,w2,w3,hrow,hg,hto,hset];rw[qz5];rfl
  rw[qz3,zaN hstep];exact zDh s hs h128 b (a++[c]) (by rw[h];simp)
theorem zl9(s:Str)(hs:s.length<=1000000000)(h128: ∀b∈s,b<128):zlY s=some (wide s,0,()):=by
 unfold zlY;have w1:IntKind.wrap .i64 (2*((s.length:Nat):Int))=((2*s.length:Nat):Int):=by rw[wrap_i64 (by omega) (by omega)];omega
 simp only[w1];rw[show zyi ((2*s.length:Nat):Int)=some (2*s.length) by unfold zyi;rw[yL (by omega),Int.toNat_natCast]]
 simp only[qz1];exact zbA (zDh s hs h128 s [] rfl) (by omega)
section
variable {α β γ δ ρ σ:Type} {L0 L:List zk} {no:Bool} {E':Int->σ->Prop} {O':β->List zk->σ->Prop}
theorem zKW(ok:TL L0 L):SG L0 ER (OL no) (zhI (pp L no)) (zy6 (L.map tk)):=by
 obtain⟨x,r,rfl⟩:=ok.ok.cons;have k4:=zfS ok 4;have k3:=zfS ok 3;have k1:=zfS ok 1;have k2:=zfS ok 2;rw[show((4:Nat):Int)=4 from rfl]at k4;rw[show((3:Nat):Int)=3 from rfl]at k3;rw[show((1:Nat):Int)=1 from rfl]at k1;rw[show((2:Nat):Int)=2 from rfl]at k2;have tl: ∀{k:Nat},(zaa ((x::r).map tk)==k)=true->k≠0->TL L0 r:=λh hk=>ok.tail (zbd h hk)
 have tx:=ok.ok.texts x qz7;have asc:=ok.ok.ascii x qz7;have num:=ok.ok.nums x qz7;unfold zhI;simp only[zJ,zcQ,qz1,k4,k3,k1,k2];show SG _ _ _ _ (if(zaa ((x::r).map tk)==4)=true then gt (x.Text,r.map tk)else if(zaa ((x::r).map tk)==3)=true then gt (wide (Lib.itoa x.Num),r.map tk)else if(zaa ((x::r).map tk)==1||zaa ((x::r).map tk)==2)=true then gt (wide x.Text,r.map tk)else bad ((x::r).map tk));cases h4:zaa ((x::r).map tk)==4 with
 |true=>
  simp only[yB];exact .take ok (zbd h4 (by decide)) λa ha ok1=> .gt ok1 rfl
 |false=>
  simp only[qz2,yA];cases h3:zaa ((x::r).map tk)==3 with
  |true=>
   simp only[yB];have e3:x.Kind=3:=eq_of_beq (k3.trans h3);rw[fmt10 x.Num (num e3).1 (num e3).2];simp only[qz1];refine .take ok (zbd h3 (by decide)) λa ha ok1=>?_
   simp only;rw[zl9 (Lib.itoa x.Num) (by have:=zxO x.Num (num e3).1 (num e3).2;omega) (itoa_ascii x.Num (num e3).1)]
   exact .gt ok1 rfl
  |false=>
   simp only[qz2,yA];cases h1:zaa ((x::r).map tk)==1 with
   |true=>
    simp only[Bool.true_or,yB];have e1:x.Kind=1:=eq_of_beq (k1.trans h1);refine .take ok (zbd h1 (by decide)) λa ha ok1=>?_
    simp only;rw[zl9 x.Text (by omega) (asc (.inl e1))];exact .gt ok1 rfl
   |false=>
    simp only[qz2,yA,Bool.false_or];cases h2:zaa ((x::r).map tk)==2 with
    |true=>
     simp only[yB];have e2:x.Kind=2:=eq_of_beq (k2.trans h2);refine .take ok (zbd h2 (by decide)) λa ha ok1=>?_
     simp only;rw[zl9 x.Text (by omega) (asc (.inr e2))];exact .gt ok1 rfl
    |false=>
     simp only[qz2,yA];exact .fail ok λa=>⟨_,rfl,_,rfl⟩
end
section
variable {L0 L:List zk} {no:Bool} {n M:Nat} (H: ∀k,k<=n->∀N,20*k+20<=N->ztQ L0 (RG N) (pG k)) (hn:n<=10000000000) (hM:20*n+30<=M)
include H hn hM
theorem zG0(l:List Node)(hl:l.length<=20000000000)(ok:TL L0 L):SG L0 EL (λ(v:Node) L' r=>r= .inr (pp L' no,8,[],0,[],[],l++[v],())) ((RG M).zcz (pp L no) 8 [] 0 [] [] l)
  ((zy6 (L.map tk)).bd λk=>(za5 [58] k.2).bn λt1=>((pG n).assign no t1).bd λx=>gt (⟨9,[],0,k.1,[],[x.1]⟩,x.2)):=by
 obtain⟨M,rfl⟩: ∃k,M=k+1:=⟨M -1,by omega⟩
 show SG _ _ _ (zeP (RG M) (pp L no) 8 [] 0 [] [] l) _;unfold zeP;simp only[zJ,zC,zfw];refine .r (zKW ok) (λ_ _=>⟨_,rfl,_,rfl⟩) λk L1 ok1=>?_
 refine .need ok1 (λ_ _=>⟨_,rfl,_,rfl⟩) λL2 ok2=>?_
 refine .r ((H n (yJ _) M (by omega)).assign no L2 ok2) (λ_ _=>⟨_,rfl,_,rfl⟩) λv L3 ok3=>?_
 simp only[qz3,qz6,Nat.zero_add];rw[zhY (by omega)];simp only[qz1,zBc,zDf];exact .gt ok3 rfl
theorem zDx: ∀(k m:Nat),k<=n+1->k<=m->∀(l:List Node) (L:List zk),l.length+k<=n+1->TL L0 L->
  SG L0 EL (λ(v:List Node) L' r=>r= .inr (pp L' false,[125],8,[],0,[],[],l++v,true,())) (zaq (zcF (RG M)) m (pp L false,[125],8,[],0,[],[],l,true,())) ((pG k).props (L.map tk))
 |0,m,_,_,l,L,_,ok=>trivial
 |k+1,0,_,hm,l,L,_,ok=>by omega
 |k+1,m+1,hk,hm,l,L,hl,ok=>by
  show SG _ _ _ _ (znQ (pG k) (L.map tk))
  have e:znQ (pG k) (L.map tk)=if tIs [125] (L.map tk)=true then gt ([],(L.map tk).tail)else
    ((zy6 (L.map tk)).bd λk'=>(za5 [58] k'.2).bn λt1=>((pG k).assign false t1).bd λx=>gt ((⟨9,[],0,k'.1,[],[x.1]⟩:Node),x.2)).bd λx=>
     if tIs [125] x.2=true then gt ([x.1],x.2.tail)else(za5 [44] x.2).bn λt2=>((pG k).props t2).bd λl=>gt (x.1::l.1,l.2):=by
   unfold znQ;simp only[zoq,zxh,zHD]
  have ih:=λl L hl ok=>zDx k m (by omega) (by omega) l L hl ok
  rw[e,zev];generalize zaq (zcF (RG M)) m=W at ih⊢;unfold zcF;simp only[zJ];refine .assoc (.has ok (λh ok1=>?_) λh=>?_)
  ·simp only[yO,qz2,yA];exact .gt' ok1 (by rw[yM]) (by simp)
  ·simp only[yN,yB];refine .assoc ((zG0 (no:=false) (λj hj=>H j (by omega)) (by omega) (by omega) l (by omega) ok).gen (by rintro a _ ⟨y,rfl⟩;exact⟨_,rfl,_,rfl⟩) ?_)
   rintro x L1 _ _ ok1 rfl;refine .assoc (.has ok1 (λh ok2=>?_) λh=>?_)
   ·simp only[yB];exact .gt' ok2 (by rw[yM]) rfl
   ·simp only[qz2,yA];refine .assoc (.need ok1 (λ_ _=>⟨_,rfl,_,rfl⟩) λL2 ok2=>?_);simp only[yO,qz2,yA];exact(ih (l++[x]) L2 (by rw[qz5];simp only[qz3,qz6];omega) ok2).map (λv=>x::v) (by rintro v L' _ rfl;simp)
theorem zGi(h9:20*n+39<=M)(ok:TL L0 L):SG L0 EL (λ(l:List Node) L' r=>r= .inr (pp L' no,8,[],0,[],[],l,())) (zeE (RG M) [125] true (pp L no) 8 [] 0 [] [] []) (znQ (pG n) (L.map tk)):=by
 obtain⟨M,rfl⟩: ∃k,M=k+2:=⟨M -2,by omega⟩
 show SG _ _ _ _ ((pG (n+1)).props (L.map tk))
 have h1:SG L0 EL (λ(v:List Node) L' r=>r= .inr (pp L' false,[125],8,[],0,[],[],v,true,())) (zdS (RG M) (pp L false) [125] 8 [] 0 [] [] [] true) ((pG (n+1)).props (L.map tk)):=by
  unfold zdS;simp only[zJ];exact .loop (zDx H hn (by omega) (n+1) 1000000000000 (yJ _) (by omega) [] L (by simp) ok) (yJ _)
 have h2:SG L0 EL (λ(v:List Node) L' r=>r= .inr (pp L' no,[125],8,[],0,[],[],v,true,())) (zdE (RG (M+1)) (pp L no) [125] 8 [] 0 [] [] [] true) ((pG (n+1)).props (L.map tk)):=by
  unfold zdE;simp only[zJ];exact h1.same (by rintro a _ ⟨y,rfl⟩;exact⟨_,rfl,_,rfl⟩) (by rintro v L' _ _ rfl;exact⟨_,rfl,rfl⟩)
 unfold zeE;simp only[zJ];exact h2.same (by rintro a _ ⟨y,rfl⟩;exact⟨_,rfl,_,rfl⟩) (by rintro v L' _ _ rfl;exact⟨_,rfl,rfl⟩)
theorem zIp(h9:20*n+35<=M)(ok:TL L0 L)(h1:(zaa (L.map tk)==1)=false)(h3:(zaa (L.map tk)==3)=false)(h4:(zaa (L.map tk)==4)=false):SG L0 ER (OL no) ((RG M).zc5 (pp L no)) (znm (pG n) (L.map tk)):=by
 obtain⟨M,rfl⟩: ∃k,M=k+1:=⟨M -1,by omega⟩
 have S:=H n (yJ _) M (by omega);show SG _ _ _ (zfZ (RG M) (pp L no)) _;unfold zfZ znm;simp only[zJ,zC,h1,h3,h4,qz2,yA];refine .has ok (λh ok1=> .gt' ok1 (by rw[yM]) rfl) λh=>?_
 simp only[qz2,yA];refine .has ok (λh ok1=> .gt' ok1 (by rw[yM]) rfl) λh=>?_
 simp only[qz2,yA];refine .has ok (λh ok1=> .gt' ok1 (by rw[yM]) rfl) λh=>?_
 simp only[qz2,yA];refine .has ok (λh ok1=> .gt' ok1 (by rw[yM]) rfl) λh=>?_
 simp only[qz2,yA];refine .has ok (λh ok1=>?_) λh=>?_
 ·simp only[yB];rw[<-yM];exact .ll (S.func no 10 _ ok1) (λ_ _=>⟨_,rfl,_,rfl⟩) λv L'=>⟨_,rfl,rfl⟩
 simp only[qz2,yA];refine .has ok (λh ok1=>?_) λh=>?_
 ·simp only[yB];rw[<-yM];refine(zGg H hn (by omega) ok1).gen (by rintro a _ ⟨y,rfl⟩;exact⟨_,rfl,_,rfl⟩) ?_
  rintro y L3 _ _ ok3 rfl;exact .need ok3 (λ_ _=>⟨_,rfl,_,rfl⟩) λL4 ok4=> .gt ok4 rfl
 simp only[qz2,yA];refine .has ok (λh ok1=>?_) λh=>?_
 ·simp only[yB];rw[<-yM];exact .r (S.exprs no _ _ _ ok1) (λ_ _=>⟨_,rfl,_,rfl⟩) λl L4 ok4=> .gt ok4 rfl
 simp only[qz2,yA];refine .has ok (λh ok1=>?_) λh=>?_
 ·simp only[yB];rw[<-yM];refine(S.props no _ ok1).gen (by rintro a _ ⟨y,rfl⟩;exact⟨_,rfl,_,rfl⟩) ?_
  rintro l L3 _ _ ok3 rfl;exact .gt ok3 rfl
 simp only[qz2,yA];exact .fail ok λa=>⟨_,rfl,_,rfl⟩
theorem zIo(h9:20*n+39<=M)(ok:TL L0 L):SG L0 ER (OL no) (zeD (RG M) (pp L no)) (znm (pG n) (L.map tk)):=by
 have hs:=zIp (no:=no) H hn hM (by omega) ok;obtain⟨x,r,rfl⟩:=ok.ok.cons;have k4:=zfS ok 4;have k3:=zfS ok 3;have k1:=zfS ok 1;rw[show((4:Nat):Int)=4 from rfl]at k4;rw[show((3:Nat):Int)=3 from rfl]at k3;rw[show((1:Nat):Int)=1 from rfl]at k1;unfold zeD;simp only[zJ,zC,zcQ,qz1,k4,k3,k1];cases h1:zaa ((x::r).map tk)==1 with
 |true=>
  unfold znm;simp only[h1,yB];exact .take ok (zbd h1 (by decide)) λa ha ok1=> .gt ok1 rfl
 |false=>
  simp only[qz2,yA];cases h3:zaa ((x::r).map tk)==3 with
  |true=>
   unfold znm;simp only[h1,h3,yB,qz2,yA];exact .take ok (zbd h3 (by decide)) λa ha ok1=> .gt ok1 rfl
  |false=>
   simp only[qz2,yA];cases h4:zaa ((x::r).map tk)==4 with
   |true=>
    unfold znm;simp only[h1,h3,h4,yB,qz2,yA];exact .take ok (zbd h4 (by decide)) λa ha ok1=> .gt ok1 rfl
   |false=>
    simp only[qz2,yA];exact .rr (hs h1 h3 h4) (λ_ _=>⟨_,rfl,_,rfl⟩) λv L'=>⟨_,rfl,rfl⟩
end
end Go.D08
