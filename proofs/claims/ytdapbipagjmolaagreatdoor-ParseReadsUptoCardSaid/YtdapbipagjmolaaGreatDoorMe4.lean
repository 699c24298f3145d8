/- Texts for a statement of this seat. -/
import Derived.Test.YtdapbipagjmolaaGreatDoorMe3
import Derived.Lib.ItoaLen
set_option linter.unusedSectionVars false
set_option linter.unusedVariables false
set_option linter.unusedSimpArgs false
set_option linter.unnecessarySimpa false
namespace Go.D08.U
open Go Go.Gw Go.Dn Go.Proofs
set_option maxRecDepth 100000
def enc1(n:Nat):Str:=[UInt8.ofNat (n/256),UInt8.ofNat (n%256)]
def zdF(l:List Nat):Str:=l.flatMap enc1
theorem zkl(l:List Nat):(zdF l).length=2*l.length:=by
 induction l with
 |nil=>rfl
 |cons n l ih=>unfold zdF at ih⊢;rw[List.flatMap_cons,qz5,ih];simp[enc1];omega
theorem zJO(l m:List Nat):zdF (l++m)=zdF l++zdF m:=by simp[zdF]
def zeV(l:List Nat):List Int:=l.map Int.ofNat
def hexV(b:UInt8):Option Nat:=
 if 48<=b.toNat/\b.toNat<=57 then some (b.toNat -48)else if 97<=b.toNat/\b.toNat<=102 then some (b.toNat -87)else if 65<=b.toNat/\b.toNat<=70 then some (b.toNat -55)else none
def hexN:Nat->Str->Nat->Option Nat
 |0,_,a=>some a
 |_+1,[],_=>none
 |k+1,b::r,a=>match hexV b with
  |none=>none
  |some d=>hexN k r (16*a+d)
theorem zDt{b:UInt8}{d:Nat}(h:hexV b=some d):d<16:=by
 unfold hexV at h;split at h
 ·simp only[Option.some.injEq]at h;omega
 ·split at h
  ·simp only[Option.some.injEq]at h;omega
  ·split at h
   ·simp only[Option.some.injEq]at h;omega
   ·cases h
theorem zyQ: ∀(k:Nat) (s:Str) (a n:Nat),hexN k s a=some n->n<16^k*(a+1)
 |0,s,a,n,h=>by simp only[hexN,Option.some.injEq]at h;omega
 |k+1,[],a,n,h=>by cases h
 |k+1,b::r,a,n,h=>by
  simp only[hexN]at h;cases hv:hexV b with
  |none=>rw[hv]at h;cases h
  |some d=>
   rw[hv]at h;have h1:=zyQ k r _ n h;have h2:=zDt hv;have h3:16^k*(16*a+d+1)<=16^k*(16*(a+1)):=Nat.mul_le_mul_left _ (by omega);have h4:16^(k+1)*(a+1)=16^k*(16*(a+1)):=by rw[Nat.pow_succ,Nat.mul_assoc]
   omega
def zlb(b:UInt8):Option Nat:=
 if b=110 then some 10 else if b=116 then some 9 else if b=114 then some 13 else if b=98 then some 8 else if b=102 then some 12 else if b=118 then some 11
 else if b.toNat>127\/b=13\/b=120\/b=117\/(48<=b.toNat/\b.toNat<=57)\/b=10 then none else some b.toNat
def ztw:Str->Option (List Nat×Nat)
 | []=>none
 |c::r=>
  if c=10 then some ([],1)
  else if c=48 then(match r with
   | []=>some ([0],1)
   |d::_=>if 48<=d.toNat/\d.toNat<=57 then none else some ([0],1))
  else if c=120 then(hexN 2 r 0).map λn=>([n],3)
  else if c=117 then(hexN 4 r 0).map λn=>([n],5)
  else(zlb c).map λn=>([n],1)
theorem zAI: ∀(k:Nat) (s:Str) (a n:Nat),hexN k s a=some n->k<=s.length
 |0,s,a,n,h=>by omega
 |k+1,[],a,n,h=>by cases h
 |k+1,b::r,a,n,h=>by
  simp only[hexN]at h;cases hv:hexV b with
  |none=>rw[hv]at h;cases h
  |some d=>rw[hv]at h;have:=zAI k r _ n h;simp only[qz3];omega
theorem zKO{b:UInt8}{n:Nat}(h:zlb b=some n):n<256:=by
 have hb:=b.toNat_lt;unfold zlb at h
 repeat' split at h
 all_goals first| (cases h;done)| (simp only[Option.some.injEq]at h;omega)
theorem zGF{s:Str}{us:List Nat}{k:Nat}(h:ztw s=some (us,k)):(∀n∈us,n<65536)/\us.length<=1/\1<=k/\k<=s.length:=by
 cases s with
 |nil=>cases h
 |cons c r=>
  simp only[ztw]at h;by_cases h1:c=10
  ·rw[yL h1]at h;cases h;simp
  ·rw[yK h1]at h;by_cases h2:c=48
   ·rw[yL h2]at h;cases r with
    |nil=>cases h;simp
    |cons d r=>
     simp only at h;split at h
     ·cases h
     ·cases h;simp
   ·rw[yK h2]at h;by_cases h3:c=120
    ·rw[yL h3]at h;cases hn:hexN 2 r 0 with
     |none=>rw[hn]at h;cases h
     |some n=>
      rw[hn]at h;cases h;have:=zyQ _ _ _ _ hn;have:=zAI _ _ _ _ hn;simp;omega
    ·rw[yK h3]at h;by_cases h4:c=117
     ·rw[yL h4]at h;cases hn:hexN 4 r 0 with
      |none=>rw[hn]at h;cases h
      |some n=>
       rw[hn]at h;cases h;have:=zyQ _ _ _ _ hn;have:=zAI _ _ _ _ hn;simp;omega
     ·rw[yK h4]at h;cases hn:zlb c with
      |none=>rw[hn]at h;cases h
      |some n=>
       rw[hn]at h;cases h;have:=zKO hn;simp;omega
/-! ### the program's digits -/
theorem zn2{α:Type}(p:α->Bool): ∀l:List α,l.dropWhile p=[]↔∀x∈l,p x=true
 | []=>by simp
 |a::l=>by
  cases h:p a with
  |true=>rw[List.dropWhile_cons_of_pos h,zn2 p l];simp[h]
  |false=>
   rw[List.dropWhile_cons_of_neg (by simp[h])];simp[h]
theorem zyS{α:Type}(p:α->Bool): ∀(l:List α) (b:α) (r:List α),l.dropWhile p=b::r->p b=false
 | [],b,r,h=>by cases h
 |a::l,b,r,h=>by
  cases hp:p a with
  |true=>rw[List.dropWhile_cons_of_pos hp]at h;exact zyS p l b r h
  |false=>
   rw[List.dropWhile_cons_of_neg (by simp[hp])]at h;cases h;exact hp
theorem zL6(l cs:Str):(Lib.trimS l cs==([]:Str))=l.all (cs.contains ·):=by
 unfold Lib.trimS Lib.trimLeftS Lib.trimRightS;rw[Bool.eq_iff_iff];rw[beq_iff_eq,zn2,List.all_eq_true];constructor
 ·intro h;rcases hd:l.reverse.dropWhile (cs.contains ·)with _| ⟨b,r⟩
  ·rw[zn2]at hd;intro x hx;exact hd x (by simpa using hx)
  ·exfalso;have h1:=zyS _ _ _ _ hd;have h2:=h b (by rw[hd];simp)
   rw[h1]at h2;cases h2
 ·intro h x hx;have:=(List.dropWhile_suffix (cs.contains ·) (l:=l.reverse)).subset (by simpa using hx);exact h x (by simpa using this)
def zHQ:Str:=[48,49,50,51,52,53,54,55,56,57,97,98,99,100,101,102,65,66,67,68,69,70]
theorem zMO: ∀b:Fin 256,zHQ.contains (UInt8.ofNat b.val)=(hexV (UInt8.ofNat b.val)).isSome:=by decide+kernel
theorem zTt(b:UInt8): ∃k:Fin 256,b=UInt8.ofNat k.val:=⟨⟨b.toNat,b.toNat_lt⟩,by simp⟩
theorem zIA(b:UInt8):zHQ.contains b=(hexV b).isSome:=by
 obtain⟨k,rfl⟩:=zTt b;exact zMO k
theorem zDT: ∀(s:Str) (a:Nat),(hexN s.length s a).isSome=s.all (zHQ.contains ·)
 | [],a=>rfl
 |b::r,a=>by
  simp only[qz3,hexN,List.all_cons,zIA];cases hv:hexV b with
  |none=>simp
  |some d=>
   simp only[Option.isSome_some,Bool.true_and];rw[zDT r];congr 1;funext x;exact zIA x
theorem zCS: ∀(k:Nat) (s:Str) (a:Nat),k<=s.length->hexN k (s.take k) a=hexN k s a
 |0,s,a,_=>rfl
 |k+1,[],a,h=>by simp at h
 |k+1,b::r,a,h=>by
  simp only[List.take_succ_cons,hexN];cases hexV b with
  |none=>rfl
  |some d=>simp only;exact zCS k r _ (by simpa using h)
def zhL(q:UInt8):Nat->Str->List Nat->Option (List Nat×Nat)
 |0,_,_=>none
 |_+1,[],_=>none
 |m+1,c::r,acc=>
  if c=q then some (acc,r.length)
  else if c=10\/c=13\/c.toNat>127 then none
  else if c=92 then(match ztw r with
   |none=>none
   |some (us,k)=>zhL q m (r.drop k) (acc++us))
  else zhL q m r (acc++[c.toNat])
def zfB(s:Str):Str×Int×Int:=
 match s with
 | []=>([],0,10)
 |q::r=>if q=39\/q=34 then(match zhL q (r.length+1) r []with
   |none=>([],0,10)
   |some (us,k)=>(zdF us,((s.length -k:Nat):Int),0))else([],0,10)
theorem zpi(b:UInt8)(n:Nat)(h:n<256):b=UInt8.ofNat n↔b.toNat=n:=by
 constructor
 ·intro e;subst e;simp[UInt8.toNat_ofNat'];omega
 ·intro e;apply UInt8.toNat_inj.mp;simp[UInt8.toNat_ofNat'];omega
theorem zkq(a b:Nat):(((a:Nat):Int)==((b:Nat):Int))=decide (a=b):=by
 by_cases h:a=b
 ·simp[h]
 ·simp[h];omega
def okU(l:List Nat):Prop:=∀n∈l,n<65536
def zh8(q:UInt8)(s:Str)(m:Nat)(rest:Str)(acc:List Nat):Str×Int×Int:=match zhL q m rest acc with
 |none=>([],0,10)
 |some (us,k)=>(zdF us,((s.length -k:Nat):Int),0)
theorem zMo(c:UInt8)(n:Nat)(h:n<256):(((c.toNat:Nat):Int) !=((n:Nat):Int))= !decide (c=UInt8.ofNat n):=by
 simp only[bne,zkq];congr 1;rw[decide_eq_decide];exact(zpi c n h).symm
end Go.D08.U
namespace Go.D08.U
open Go Go.Gw Go.Dn Go.Proofs
set_option maxRecDepth 100000
open Go.Proofs
/-! ### numbers, signs, tokens -/
def zeo(base:Nat):Str->Nat->Option Nat
 | [],a=>some a
 |c::r,a=>match hexV c with
  |none=>none
  |some d=>if d<base then zeo base r (a*base+d)else none
def zCT(ds:Str):Option Nat:=
 if 2<ds.length/\(ds.take 2=[48,120]\/ds.take 2=[48,88])then zeo 16 (ds.drop 2) 0
 else if 1<ds.length/\ds.head?=some 48 then none
 else zeo 10 ds 0
def zn4(s:Str):Option (Nat×Nat):=
 if s[zaC s]? =some 46 then none
 else match zCT (s.take (zaC s))with
  |none=>none
  |some n=>if n<=9007199254740991 then some (n,zaC s)else none
def zoC:List Str:=[[61,61,61],[33,61,61]]
def zp9:List Str:=[[60,61],[62,61],[61,61],[33,61],[43,43],[45,45],[38,38],[124,124],[43,61],[45,61],[42,61],[47,61],[37,61]]
def zr9:Str:=[123,125,40,41,91,93,46,59,44,60,62,43,45,42,47,37,33,63,58,61]
def zdV(s:Str):Nat:=
 if 2<s.length/\zoC.contains (s.take 3)=true then 3
 else if 1<s.length/\zp9.contains (s.take 2)=true then 2
 else if zr9.contains (s.headD 0)then 1 else 0
def zhn:List Str:=[[98,114,101,97,107],[99,97,115,101],[99,97,116,99,104],[99,108,97,115,115],[99,111,110,115,116],[99,111,110,116,105,110,117,101],[100,101,98,117,103,103,101,114],[100,101,102,97,117,108,116],[100,101,108,101,116,101],[100,111],[101,108,115,101],[101,110,117,109],[101,120,112,111,114,116],[101,120,116,101,110,100,115],[102,97,108,115,101],[102,105,110,97,108,108,121],[102,111,114],[102,117,110,99,116,105,111,110],[105,102],[105,109,112,108,101,109,101,110,116,115],[105,109,112,111,114,116],[105,110],[105,110,115,116,97,110,99,101,111,102],[105,110,116,101,114,102,97,99,101],[108,101,116],[110,101,119],[110,117,108,108],[112,97,99,107,97,103,101],[112,114,105,118,97,116,101],[112,114,111,116,101,99,116,101,100],[112,117,98,108,105,99],[114,101,116,117,114,110],[115,116,97,116,105,99],[115,117,112,101,114],[115,119,105,116,99,104],[116,104,105,115],[116,104,114,111,119],[116,114,117,101],[116,114,121],[116,121,112,101,111,102],[118,97,114],[118,111,105,100],[119,104,105,108,101],[119,105,116,104],[121,105,101,108,100]]
def zpt(s:Str):Bool:=zhn.contains s
abbrev Tok:=zl
def zoZ(s:Str):Option (Tok×Nat):=
 match s with
 | []=>none
 |c::_=>
  if isLet c=true then
    if 32<zaC s then none else some ({Kind:=if zpt (s.take (zaC s))=true then 2 else 1,Text:=s.take (zaC s),Num:=0,At:=0,Fresh:=false},zaC s)
  else if zkG c=true then(zn4 s).map λp=>({Kind:=3,Text:=[],Num:=(p.1:Int),At:=0,Fresh:=false},p.2)
  else if c=39\/c=34 then
    (match zfB s with
    | (u,n,_)=>if n=0 then none else some ({Kind:=4,Text:=u,Num:=0,At:=0,Fresh:=false},n.toNat))
  else if zdV s=0 then none else some ({Kind:=5,Text:=s.take (zdV s),Num:=0,At:=0,Fresh:=false},zdV s)
def zT3(f:Bool):Tok:={Kind:=0,Text:=[],Num:=0,At:=0,Fresh:=f}
def Tok.fresh(t:Tok)(f:Bool):Tok:={t with Fresh:=f}
def Tok.at_(t:Tok)(n:Int):Tok:={t with At:=n}
def znz:Nat->Str->Bool->List (Tok×Nat)⊕Nat
 |0,_,_=> .inr 0
 |m+1,s,f=>match zew (s.length+1) s f with
  | (r,f',ok)=>
    if ok=false then .inr r.length
    else if r=[]then .inl [(zT3 f',0)]
    else match zoZ r with
      |none=> .inr r.length
      |some (t,n)=>match znz m (r.drop n) false with
        | .inl l=> .inl ((t.fresh f',r.length)::l)
        | .inr k=> .inr k
def zmh(len:Nat)(l:List (Tok×Nat)):List Tok:=l.map λp=>p.1.at_ ((len -p.2:Nat):Int)
def zel(s:Str):List Tok×Int×Int:=
 if 4096<s.length then([],0,2)
 else match znz (s.length+1) s false with
  | .inl l=>(zmh s.length l,0,0)
  | .inr k=>([],((s.length -k:Nat):Int),60)
/-! ### how much a token takes -/
theorem zNY{s:Str}{n k:Nat}(h:zn4 s=some (n,k)):k=zaC s:=by
 unfold zn4 at h;split at h
 ·cases h
 ·split at h
  · cases h
  · split at h
    · cases h;rfl
    · cases h
theorem zCt{s:Str}{u:Str}{n e:Int}(h:zfB s=(u,n,e)):0<=n/\n<=(s.length:Int):=by
 unfold zfB at h;split at h
 ·cases h;simp
 ·rename_i q r;split at h
  · split at h
    · cases h;constructor<;>omega
    · cases h;constructor<;>omega
  · cases h;constructor<;>omega
theorem zD1(c:UInt8)(r:Str):zdV (c::r)<=(c::r).length:=by
 unfold zdV;split
 ·rename_i h;simp only[qz3]at h⊢;omega
 ·split
  · rename_i h;simp only[qz3]at h⊢;omega
  · split<;>simp
theorem zzX{s:Str}{t:Tok}{n:Nat}(h:zoZ s=some (t,n)):1<=n/\n<=s.length/\1<=t.Kind/\t.Kind<=5/\t.At=0/\t.Fresh=false:=by
 unfold zoZ at h;split at h
 ·cases h
 ·rename_i c r;have hrow:=zrQ (c::r);have hr1:zeA c=true->1<=zaC (c::r):=λe=>by rw[zft,yL e];omega
  split at h
  · rename_i hl;split at h
    · cases h
    · cases h;have:=hr1 (by simp[zeA,hl]);refine⟨this,hrow,?_,?_,rfl,rfl⟩<;>(simp only;split<;>decide)
  · split at h
    · rename_i hd;cases hn:zn4 (c::r)with
      |none=>rw[hn]at h;cases h
      |some p=>
        obtain⟨m,k⟩:=p;rw[hn]at h;cases h;have hk:=zNY hn;subst hk;exact⟨hr1 (by simp[zeA,hd]),hrow,Int.le_of_lt_add_one (by dsimp only;omega),by dsimp only;omega,rfl,rfl⟩
    · split at h
      · obtain⟨u,n',e⟩:Str×Int×Int:=zfB (c::r);generalize hq:zfB (c::r)=q at h;obtain⟨u,n',e⟩:=q;have:=zCt hq;simp only at h;split at h
        ·cases h
        ·cases h;refine⟨by omega,by omega,Int.le_of_lt_add_one (by dsimp only;omega),by dsimp only;omega,rfl,rfl⟩
      · split at h
        ·cases h
        ·cases h;exact⟨by omega,zD1 c r,Int.le_of_lt_add_one (by dsimp only;omega),by dsimp only;omega,rfl,rfl⟩
/-! ### a token -/
/-! ### the whole -/
end Go.D08.U
namespace Go.D08.U
open Go Go.Gw Go.Dn Go.Proofs
set_option maxRecDepth 100000
/-! ### blanks -/
theorem zxy: ∀s:Str,(s.any zdj=false/\Lib.indexAny s [10,13]= -1/\s.dropWhile (λx=> !zdj x)=[])\/∃i:Nat,Lib.indexAny s [10,13]=(i:Int)/\i<=s.length/\s.any zdj=true/\s.drop i=s.dropWhile (λx=> !zdj x)/\(s.take i).any zdj=false
 | []=> .inl ⟨rfl,rfl,rfl⟩
 |b::l=>by
  rw[Lib.indexAny];cases h:([10,13]:Str).contains b with
  |true=>
   have hb:zdj b=true:=h;refine .inr ⟨0,?_,by omega,by simp[hb],?_,rfl⟩
   ·simp
   ·simp[hb]
  |false=>
   have hb:zdj b=false:=h;rcases zxy l with⟨h1,h2,h3⟩| ⟨i,h1,h2,h3,h4,h5⟩
   ·refine .inl ⟨by simp only[List.any_cons,hb,h1,Bool.or_self],?_,by rw[List.dropWhile_cons,yL (by simp[hb])];exact h3⟩
    rw[h2];rfl
   ·refine .inr ⟨i+1,?_,by simp;omega,by simp only[List.any_cons,h3,Bool.or_true],by rw[List.dropWhile_cons,yL (by simp[hb]),List.drop_succ_cons];exact h4,by simp only[List.take_succ_cons,List.any_cons,hb,h5,Bool.or_self]⟩
    rw[h1];have c:(((i:Nat):Int)== -1)=false:=by rw[yH];omega
    simp only[c,qz2,yA];rfl
theorem zGc(s:Str):Lib.containsAny s [10,13]=s.any zdj:=by
 unfold Lib.containsAny;rcases zxy s with⟨h1,h2,_⟩| ⟨i,h1,_,h3,_⟩
 ·rw[h1,h2];rfl
 ·rw[h1,h3];simp
theorem zGZ: ∀(s:Str) (n:Nat),zlK s=some n->∃t,s.drop n=42::47::t
 | [],n,h=>by cases h
 |c::r,n,h=>by
  rw[zlK]at h;split at h
  ·rename_i hp;simp only[Option.some.injEq]at h;subst h;cases r with
   |nil=>simp[List.isPrefixOf]at hp
   |cons d r=>
    simp only[List.isPrefixOf,Bool.and_true,qz4,beq_iff_eq]at hp;obtain⟨rfl,rfl⟩:=hp;exact⟨r,rfl⟩
  ·cases he:zlK r with
   |none=>rw[he]at h;cases h
   |some k=>
    rw[he]at h;simp only[Option.map_some,Option.some.injEq]at h;subst h;exact zGZ r k he
theorem zLl(r:Str)(n:Nat)(h:zlK r=some n):((47::42::r).take (n+4)).any zdj=(r.take n).any zdj:=by
 obtain⟨t,ht⟩:=zGZ r n h
 have e:r.take (n+2)=r.take n++[42,47]:=by
  have h2:r.take (n+2)=r.take n++(r.drop n).take 2:=by rw[List.take_add]
  rw[h2,ht];rfl
 have e2:(47::42::r).take (n+4)=47::42::r.take (n+2):=rfl;rw[e2,e];have c1:zdj 47=false:=by decide
 have c2:zdj 42=false:=by decide
 simp only[List.any_cons,List.any_append,List.any_nil,c1,c2,Bool.false_or,Bool.or_false]
theorem zML: ∀b:Fin 256,zdj (UInt8.ofNat b.val)=false->¬(UInt8.ofNat b.val=32\/UInt8.ofNat b.val=9\/UInt8.ofNat b.val=11\/UInt8.ofNat b.val=12)->b.val≠32/\(b.val<9\/13<b.val):=by decide+kernel
def okN(o:Nat)(t:Str)(a:Nat):Option Nat:=match zeo o t a with
 |none=>none
 |some n=>if n<=9007199254740991 then some n else none
theorem zEj{o:Nat}(ho:1<=o): ∀(t:Str) (a n:Nat),zeo o t a=some n->a<=n
 | [],a,n,h=>by cases h;exact yJ _
 |c::r,a,n,h=>by
  simp only[zeo]at h;split at h
  ·cases h
  ·rename_i d _;split at h
   ·have:=zEj ho r _ n h;have h2:a*1<=a*o:=Nat.mul_le_mul_left a ho;omega
   ·cases h
def zke(b:Nat):Nat:=(BitVec.ofNat 8 b|||32#8).toNat
theorem zLI: ∀b:Fin 256,zcz ((b.val:Nat):Int)=some (((zke b.val:Nat):Int),()):=by decide+kernel
theorem zM0(c:UInt8):zcz ((c.toNat:Nat):Int)=some (((zke c.toNat:Nat):Int),()):=zLI ⟨c.toNat,c.toNat_lt⟩
theorem zO0: ∀b:Fin 256,(48<=b.val/\b.val<=57->hexV (UInt8.ofNat b.val)=some (b.val -48))/\(¬(48<=b.val/\b.val<=57)->97<=zke b.val->zke b.val<=122->hexV (UInt8.ofNat b.val)=if zke b.val -87<16 then some (zke b.val -87)else none)/\(¬(48<=b.val/\b.val<=57)->¬(97<=zke b.val/\zke b.val<=122)->hexV (UInt8.ofNat b.val)=none):=by decide+kernel
theorem zE2{o:Nat}: ∀(t:Str) (a n:Nat),zeo o t a=some n->t.contains 95=false
 | [],_,_,_=>rfl
 |c::r,a,n,h=>by
  simp only[zeo]at h;split at h
  ·cases h
  ·rename_i d hd;split at h
   ·rw[List.contains_cons,zE2 r _ _ h,Bool.or_false,yH];intro e;subst e;have:hexV 95=none:=by decide
    rw[this]at hd;cases hd
   ·cases h
end Go.D08.U
namespace Go.D08
open Go Go.Gw Go.Dn
instance lpI:Lp:=lpN 1000000000000
theorem zck{S E:Type}{step:S->Option (S⊕E)}{n:Nat}{s:S}{e:E}(h:zaH step n s=some e)(hn:n<=1000000000000):Lp.loop step s=some e:=
 zFf _ h hn
theorem zca{S E:Type}{step:S->Option (S⊕E)}{n:Nat}{s s':S}(h:step s=some (.inl s')):zaH step (n+1) s=zaH step n s':=by simp only[zaH,h,qz1]
theorem zaG{S E:Type}{step:S->Option (S⊕E)}{n:Nat}{s:S}{e:E}(h:step s=some (.inr e)):zaH step (n+1) s=some e:=by simp only[zaH,h,qz1]
abbrev Node:=zf
mutual
def zd0:Node->Nat
 | ⟨_,_,_,_,_,l⟩=>zj1 l+1
def zj1:List Node->Nat
 | []=>0
 |x::r=>max (zd0 x) (zj1 r)
end
mutual
def zjw:Node->Nat
 | ⟨_,_,_,_,_,l⟩=>zoE l+1
def zoE:List Node->Nat
 | []=>0
 |x::r=>zjw x+zoE r
end
mutual
def ztT:Node->Node->Bool
 | ⟨k,n,m,t,ns,l⟩,⟨k',n',m',t',ns',l'⟩=>(k==k'&&n==n'&&m==m'&&t==t'&&ns==ns')&&zfw l l'
def zfw:List Node->List Node->Bool
 | [],[]=>true
 |x::r,y::r'=>ztT x y&&zfw r r'
 |_,_=>false
end
theorem zrI(x:Node):zd0 x=zj1 x.L+1:=by cases x;simp[zd0]
theorem zuJ(x:Node):zjw x=zoE x.L+1:=by cases x;simp[zjw]
theorem zFs(x:Node)(r:List Node):zj1 (x::r)=max (zd0 x) (zj1 r):=by simp[zj1]
mutual
theorem zwp: ∀x:Node,zd0 x<=zjw x
 | ⟨_,_,_,_,_,l⟩=>by simp only[zd0,zjw];have:=zuo l;omega
theorem zuo: ∀l:List Node,zj1 l<=zoE l
 | []=>by simp[zj1]
 |x::r=>by simp only[zj1,zoE];have:=zwp x;have:=zuo r;omega
end
theorem zwg: ∀l:List Node,l.length<=zoE l
 | []=>by simp
 |x::r=>by simp only[zoE,qz3];have:=zwg r;have:=zuJ x;omega
theorem zpe{x:Node}: ∀{l:List Node},x∈l->zd0 x<=zj1 l
 |y::r,h=>by
  simp only[zj1];rcases yP.1 h with rfl|h
  ·omega
  ·have:=zpe h;omega
theorem zsm{x:Node}: ∀{l:List Node},x∈l->zjw x<=zoE l
 |y::r,h=>by
  simp only[zoE];rcases yP.1 h with rfl|h
  ·omega
  ·have:=zsm h;omega
theorem zwu{α:Type}{xs:List α}{i:Nat}{x:α}{r:List α}(h:xs.drop i=x::r):zas xs (i:Int)=some x/\xs.drop (i+1)=r/\i<xs.length:=by
 have hi:i<xs.length:=by
  rcases Nat.lt_or_ge i xs.length with h1|h1
  ·exact h1
  ·rw[List.drop_of_length_le h1]at h;cases h
 rw[List.drop_eq_getElem_cons hi]at h;cases h;exact⟨by rw[ziq];exact qz9 hi,rfl,hi⟩
theorem zGQ(g:zfW)(l:List Node)(hg: ∀x∈l,g.zg5 x=some ((zd0 x:Int),()))(hb:zj1 l<4611686018427387904)(hl:l.length<4611686018427387904): ∀(r:List Node) (i:Nat) (m:Nat),l.drop i=r->m<4611686018427387904->
  zaH (zlc g) (r.length+1) ((m:Int),l,((l.length:Nat):Int),(i:Int),())=some (((max m (zj1 r)+1:Nat):Int),())
 | [],i,m,hr,hm=>by
  have hi: ¬((i:Int)< (l.length:Int)):=by
   have:=congrArg List.length hr;simp at this;omega
  refine zaG ?_;simp only[zlc,hi,decide_false,qz2,yA];rw[wrap_i64 (by omega) (by omega)];simp[zj1]
 |x::r,i,m,hr,hm=>by
  obtain⟨h1,h2,h3⟩:=zwu hr;have hi:((i:Int)< (l.length:Int)):=by omega
  have hx:x∈l:=List.mem_of_mem_drop (hr▸qz7);have hd:=zpe hx
  have hstep:zlc g ((m:Int),l,((l.length:Nat):Int),(i:Int),())=some (.inl (((max m (zd0 x):Nat):Int),l,((l.length:Nat):Int),((i+1:Nat):Int),())):=by
   simp only[zlc,hi,decide_true,yB,h1,qz1,zt,hg x hx];rw[wrap_i64 (by omega) (by omega)];have:(if((zd0 x:Nat):Int)>(m:Int)then((zd0 x:Nat):Int)else(m:Int))=((max m (zd0 x):Nat):Int):=by split<;>omega
   rw[this];rfl
  rw[qz3,zca hstep,zGQ g l hg hb hl r (i+1) _ h2 (by omega),zFs];congr 3;omega
theorem zDK: ∀(n:Nat) (x:Node),zd0 x<=n->zjw x<=2097152->(zeP n).zg5 x=some ((zd0 x:Int),())
 |0,x,h,_=>by have:=zrI x;omega
 |n+1,x,h,hs=>by
  have h1:=zrI x;have h2:=zuJ x;have h3:=zuo x.L;have h4:=zwg x.L;show zsf (zeP n) x=_;unfold zsf;refine zck (n:=x.L.length+1) ?_ (by omega);have:=zGQ (zeP n) x.L (λy hy=>zDK n y (by have:=zpe hy;omega) (by have:=zsm hy;omega)) (by omega) (by omega) x.L 0 0 rfl (by omega)
  rw[h1];simpa using this
theorem zIv(x:Node)(h:zjw x<=2097152):zg5 x=some ((zd0 x:Int),()):=
 zDK _ x (by have:=zwp x;show zd0 x<=1000000000000;omega) h
mutual
def ztq:Node->Nat
 | ⟨_,_,_,_,ns,l⟩=>ns.length+zs9 l
def zs9:List Node->Nat
 | []=>0
 |x::r=>ztq x+zs9 r
end
theorem zGV(x:Node):ztq x=x.Names.length+zs9 x.L:=by cases x;simp[ztq]
theorem zz0{x:Node}: ∀{l:List Node},x∈l->ztq x<=zs9 l
 |y::r,h=>by
  simp only[zs9];rcases yP.1 h with rfl|h
  ·omega
  ·have:=zz0 h;omega
theorem zNy(x y:Node):ztT x y=((x.Kind==y.Kind&&x.Name==y.Name&&x.Num==y.Num&&x.Text==y.Text&&x.Names==y.Names)&&zfw x.L y.L):=by
 cases x;cases y;simp only[ztT]
theorem zG7: ∀{l l':List Node},l.length≠l'.length->zfw l l'=false
 | [],[],h=>absurd rfl h
 | [],_::_,_=>by simp[zfw]
 |_::_,[],_=>by simp[zfw]
 |x::r,y::r',h=>by
  simp only[zfw];rw[zG7 (by simpa using h)];simp
theorem zDQ(g:zbW)(x y:Node)(v:Bool)(hl:x.Names.length=y.Names.length)(hb:x.Names.length<4611686018427387904)
  (hend:Lp.loop (zcY g) (((x.L.length:Nat):Int),0,x,y,())=some (v,())): ∀(r:List Str) (i:Nat),x.Names.drop i=r->
  zaH (zdv g) (r.length+1) (((x.Names.length:Nat):Int),(i:Int),x,y,())=some ((r==y.Names.drop i)&&v,())
 | [],i,hr=>by
  have h1:x.Names.length<=i:=by have:=congrArg List.length hr;simp at this;omega
  have hi: ¬((i:Int)< (x.Names.length:Int)):=by omega
  refine zaG ?_;simp only[zdv,hi,decide_false,qz2,yA,zt,hend,zfT];rw[List.drop_of_length_le (by omega:y.Names.length<=i)];rfl
 |a::r,i,hr=>by
  obtain⟨h1,h2,h3⟩:=zwu hr;have hi:((i:Int)< (x.Names.length:Int)):=by omega
  have hy:i<y.Names.length:=by omega
  have h4:y.Names.drop i=y.Names[i]::y.Names.drop (i+1):=List.drop_eq_getElem_cons hy;have h5:zas y.Names (i:Int)=some y.Names[i]:=by rw[ziq];exact qz9 hy
  rw[h4,qz3,List.cons_beq_cons];cases he:(a==y.Names[i])with
  |false=>
   refine zaG ?_;simp only[zdv,hi,decide_true,yB,h1,h5,qz1,he,yN,Bool.false_and]
  |true=>
   have hstep:zdv g (((x.Names.length:Nat):Int),(i:Int),x,y,())=some (.inl (((x.Names.length:Nat):Int),((i+1:Nat):Int),x,y,())):=by
    simp only[zdv,hi,decide_true,yB,h1,h5,qz1,he,yO,qz2,yA,zt];rw[wrap_i64 (by omega) (by omega)];rfl
   rw[zca hstep,zDQ g x y v hl hb hend r (i+1) h2,Bool.true_and]
theorem zG3(g:zbW)(x y:Node)(hg: ∀a∈x.L,∀b∈y.L,g.zcU a b=some (ztT a b,()))(hl:x.L.length=y.L.length)(hb:x.L.length<4611686018427387904): ∀(r:List Node) (i:Nat),x.L.drop i=r->
  zaH (zcY g) (r.length+1) (((x.L.length:Nat):Int),(i:Int),x,y,())=some (zfw r (y.L.drop i),())
 | [],i,hr=>by
  have h1:x.L.length<=i:=by have:=congrArg List.length hr;simp at this;omega
  have hi: ¬((i:Int)< (x.L.length:Int)):=by omega
  refine zaG ?_;simp only[zcY,hi,decide_false,qz2,yA];rw[List.drop_of_length_le (by omega:y.L.length<=i)];simp[zfw]
 |a::r,i,hr=>by
  obtain⟨h1,h2,h3⟩:=zwu hr;have hi:((i:Int)< (x.L.length:Int)):=by omega
  have hy:i<y.L.length:=by omega
  have h4:y.L.drop i=y.L[i]::y.L.drop (i+1):=List.drop_eq_getElem_cons hy;have h5:zas y.L (i:Int)=some y.L[i]:=by rw[ziq];exact qz9 hy
  have h6:=hg a (List.mem_of_mem_drop (hr▸qz7)) y.L[i] (List.getElem_mem hy);rw[h4,qz3];simp only[zfw];cases he:ztT a y.L[i]with
  |false=>
   refine zaG ?_;simp only[zcY,hi,decide_true,yB,h1,h5,qz1,zt,h6,he,yN,Bool.false_and]
  |true=>
   have hstep:zcY g (((x.L.length:Nat):Int),(i:Int),x,y,())=some (.inl (((x.L.length:Nat):Int),((i+1:Nat):Int),x,y,())):=by
    simp only[zcY,hi,decide_true,yB,h1,h5,qz1,zt,h6,he,yO,qz2,yA];rw[wrap_i64 (by omega) (by omega)];rfl
   rw[zca hstep,zG3 g x y hg hl hb r (i+1) h2,Bool.true_and]
theorem zKw: ∀(n:Nat) (x y:Node),zd0 x<=n->zjw x<=2097152->zjw y<=2097152->ztq x<=2097152->ztq y<=2097152->(zbX n).zcU x y=some (ztT x y,())
 |0,x,y,h,_,_,_,_=>by have:=zrI x;omega
 |n+1,x,y,h,hs,hs',hn,hn'=>by
  have a1:=zrI x;have a2:=zuJ x;have a3:=zuJ y;have a4:=zGV x;have a5:=zGV y;have b1:=zwg x.L;show ziM (zbX n) x y=_;unfold ziM;simp only[zt];rw[zNy];by_cases hN:x.Names.length=y.Names.length
  ·by_cases hL:x.L.length=y.L.length
   ·have e1:(((x.Names.length:Nat):Int) !=((y.Names.length:Nat):Int))=false:=by simp[hN]
    have e2:(((x.L.length:Nat):Int) !=((y.L.length:Nat):Int))=false:=by simp[hL]
    have hsub:Lp.loop (zcY (zbX n)) (((x.L.length:Nat):Int),0,x,y,())=some (zfw x.L y.L,()):=by
     refine zck (n:=x.L.length+1) ?_ (by omega);have:=zG3 (zbX n) x y (λa ha b hb=>zKw n a b (by have:=zpe ha;omega) (by have:=zsm ha;omega) (by have:=zsm hb;omega) (by have:=zz0 ha;omega) (by have:=zz0 hb;omega)) hL (by omega) x.L 0 rfl
     simpa using this
    have hnam:Lp.loop (zdv (zbX n)) (((x.Names.length:Nat):Int),0,x,y,())=some ((x.Names==y.Names)&&zfw x.L y.L,()):=by
     refine zck (n:=x.Names.length+1) ?_ (by omega);have:=zDQ (zbX n) x y _ hN (by omega) hsub x.Names 0 rfl;simpa using this
    rw[e1,e2,hnam];have k1:(x.Kind !=y.Kind)= !(x.Kind==y.Kind):=rfl;have k2:(x.Num !=y.Num)= !(x.Num==y.Num):=rfl;rw[k1,k2];cases x.Kind==y.Kind<;>cases x.Name==y.Name<;>cases x.Num==y.Num<;>cases x.Text==y.Text<;>cases x.Names==y.Names<;>simp
   ·have e2:(((x.L.length:Nat):Int) !=((y.L.length:Nat):Int))=true:=by simpa using by omega
    rw[e2,zG7 hL];simp
  ·have e1:(((x.Names.length:Nat):Int) !=((y.Names.length:Nat):Int))=true:=by simpa using by omega
   have:(x.Names==y.Names)=false:=by
    simp only[yH,ne_eq];intro e;exact hN (by rw[e])
   rw[e1,this];simp
end Go.D08
namespace Go.D08
open Go Go.Gw Go.Dn
set_option maxRecDepth 100000
/-! ### names -/
theorem zLh: ∀b:Fin 256,znx ((b.val:Nat):Int)=some (isLet (UInt8.ofNat b.val),()):=by decide+kernel
theorem zMe: ∀b:Fin 256,zov ((b.val:Nat):Int)=some (zkG (UInt8.ofNat b.val),()):=by decide+kernel
theorem zKk(b:UInt8): ∃k:Fin 256,b=UInt8.ofNat k.val:=⟨⟨b.toNat,b.toNat_lt⟩,by simp⟩
theorem zp7(c:UInt8):znx ((c.toNat:Nat):Int)=some (isLet c,()):=by
 obtain⟨k,rfl⟩:=zKk c;have:(UInt8.ofNat k.val).toNat=k.val:=by simp[Nat.mod_eq_of_lt k.isLt]
 rw[this];exact zLh k
theorem zr1(c:UInt8):zov ((c.toNat:Nat):Int)=some (zkG c,()):=by
 obtain⟨k,rfl⟩:=zKk c;have:(UInt8.ofNat k.val).toNat=k.val:=by simp[Nat.mod_eq_of_lt k.isLt]
 rw[this];exact zMe k
theorem zMx{s:Str}{i:Nat}{c:UInt8}{r:Str}(h:s.drop i=c::r):zbc s (i:Int)=some ((c.toNat:Nat):Int)/\s.drop (i+1)=r/\i<s.length:=by
 have hi:i<s.length:=by
   rcases Nat.lt_or_ge i s.length with h1|h1
   ·exact h1
   ·rw[List.drop_of_length_le h1]at h;cases h
 rw[List.drop_eq_getElem_cons hi]at h;cases h;exact⟨by rw[zix,qz9 hi];rfl,rfl,hi⟩
theorem zID(s:Str)(hs:s.length<=1000000000): ∀(r:Str) (i:Nat),s.drop i=r->i<=s.length->zaH zjr (r.length+1) (s,((s.length:Nat):Int),(i:Int),())=some (((i+Gw.zaC r:Nat):Int),())
 | [],i,hr,hi=>by
   have h1:i=s.length:=by have:=congrArg List.length hr;simp at this;omega
   refine zaG ?_;have hi: ¬((i:Int)< (s.length:Int)):=by omega
   simp only[zjr,hi,decide_false,qz2,yA];simp[Gw.zaC,h1]
 |c::r,i,hr,_=>by
   obtain⟨h1,h2,h3⟩:=zMx hr;have hi:((i:Int)< (s.length:Int)):=by omega
   rw[zft];have hL:zeA c=(isLet c||zkG c):=rfl
   have hgo:zeA c=true->zjr (s,((s.length:Nat):Int),(i:Int),())=some (.inl (s,((s.length:Nat):Int),((i+1:Nat):Int),())):=λh=>by
    rw[hL]at h;simp only[zjr,hi,decide_true,yB,h1,qz1,zp7,zr1];rw[wrap_i64 (by omega) (by omega)];cases hl:isLet c with
    |true=>rfl
    |false=>
     rw[hl]at h;simp only[Bool.false_or]at h;simp only[h,yN,yB,yO,qz2,yA];rfl
   cases h:zeA c with
   |true=>
    rw[qz3,zca (hgo h),zID s hs r (i+1) h2 (by omega)];simp only[yB];congr 3;omega
   |false=>
    refine zaG ?_;rw[hL,Bool.or_eq_false_iff]at h;simp only[zjr,hi,decide_true,yB,h1,qz1,zp7,zr1,h.1,h.2,yN,qz2,yA];rfl
theorem zCQ(s:Str)(hs:s.length<=1000000000):zwl s=some (((Gw.zaC s:Nat):Int),()):=by
 refine zck (n:=s.length+1) ?_ (by omega);have:=zID s hs s 0 rfl (Nat.zero_le _);simpa using this
def zqy(s:Str):Bool:=match s with
 | []=>false
 |c::_=>decide (s.length<=32)&&(isLet c&&s.all zeA)
def zj7(l s:Str):Bool:= !(s==([]:Str))&&(!(s.contains 32)&&Lib.contains l (32::(s++[32])))
theorem zKY(l s:Str)(hl:l.length<=1000000000)(hs:s.length<=1000000000):
   (if(!(s==([]:Str)))=true then
  Option.bind (strings_Contains s ([32]:Str)) λr_1=>
  if(!r_1.1)=true then
   Option.bind (zmy ([32]:Str) s) λs_2=>
   Option.bind (zmy s_2 ([32]:Str)) λs_3=>
   Option.bind (strings_Contains l s_3) λr_4=>
   some (r_4.1,())
  else
   some (false,())
 else
  some (false,()))=some (zj7 l s,()):=by
 have c1:strings_Contains s ([32]:Str)=some (s.contains 32,()):=by
   simp only[strings_Contains,zd2,show s.length<4294967281 by omega,yB,zfT,ztt]
 have c2: ∀t,strings_Contains l t=some (Lib.contains l t,()):=λt=>by
   simp only[strings_Contains,zd2,show l.length<4294967281 by omega,yB,zfT]
 have c3:zmy ([32]:Str) s=some (32::s):=zDg (by simp;omega)
 have c4:zmy (32::s) ([32]:Str)=some (32::(s++[32])):=zDg (by simp;omega)
 simp only[c1,c2,c3,c4,qz1,zj7];cases s==([]:Str)<;>cases s.contains 32<;>simp
theorem zrP(l s:Str)(hl:l.length<=1000000000)(hs:s.length<=1000000000):zi1 l s=some (zj7 l s,()):=zKY l s hl hs
def zL1:Str:=[32,98,114,101,97,107,32,99,97,115,101,32,99,97,116,99,104,32,99,108,97,115,115,32,99,111,110,115,116,32,99,111,110,116,105,110,117,101,32,100,101,98,117,103,103,101,114,32,100,101,102,97,117,108,116,32,100,101,108,101,116,101,32,100,111,32,101,108,115,101,32,101,110,117,109,32,101,120,112,111,114,116,32,101,120,116,101,110,100,115,32,102,97,108,115,101,32,102,105,110,97,108,108,121,32,102,111,114,32,102,117,110,99,116,105,111,110,32,105,102,32,105,109,112,108,101,109,101,110,116,115,32,105,109,112,111,114,116,32,105,110,32,105,110,115,116,97,110,99,101,111,102,32,105,110,116,101,114,102,97,99,101,32,108,101,116,32,110,101,119,32,110,117,108,108,32,112,97,99,107,97,103,101,32,112,114,105,118,97,116,101,32,112,114,111,116,101,99,116,101,100,32,112,117,98,108,105,99,32,114,101,116,117,114,110,32,115,116,97,116,105,99,32,115,117,112,101,114,32,115,119,105,116,99,104,32,116,104,105,115,32,116,104,114,111,119,32,116,114,117,101,32,116,114,121,32,116,121,112,101,111,102,32,118,97,114,32,118,111,105,100,32,119,104,105,108,101,32,119,105,116,104,32,121,105,101,108,100,32]
def zK7(s:Str):Bool:=zj7 zL1 s
theorem zFy(s:Str)(hs:s.length<=1000000000):zvp s=some (zK7 s,()):=by
 show Option.bind (zi1 zL1 s) _=_;rw[zrP _ _ (by decide) hs];rfl
def zd7(s:Str):Bool:=zqy s&& !zK7 s
/-! ### units -/
def zcj(s:Str):Bool:=s.length%2==0
/-! ### forms -/
end Go.D08
namespace Go.D08.U
open Go Go.Gw Go.Dn Go.Proofs
set_option maxRecDepth 100000
theorem zf0(x:zaD):zfo x=x:=by cases x;rfl
theorem zoS(x:zl):zc8 x=x:=by cases x;rfl
theorem zfS(a b:Str):strings_HasPrefix a b=some (b.isPrefixOf a,()):=rfl
theorem zJS(s:Str)(h:s.length<=1000000000):strings_IndexAny s [10,13]=some (Lib.indexAny s [10,13],()):=by
 unfold strings_IndexAny zgo;rw[yL ⟨by omega,rfl⟩];rfl
theorem zGs(s:Str)(h:s.length<=1000000000):strings_ContainsAny s [10,13]=some (s.any zdj,()):=by
 unfold strings_ContainsAny zeW;rw[yL ⟨by omega,rfl⟩,zGc];rfl
theorem zMy(s t:Str)(h:s.length<=1000000000):strings_Index s t=some (Lib.index s t,()):=by
 unfold strings_Index zie;rw[yL (by omega)];rfl
theorem zCo(s t:Str)(h:s.length<=1000000000):strings_Contains s t=some (Lib.contains s t,()):=by
 unfold strings_Contains zd2;rw[yL (by omega)];rfl
theorem zj0(c:UInt8)(r:Str):zbc (c::r) 0=some ((c.toNat:Nat):Int):=rfl
theorem zMF(src s:Str)(f:Bool)(n:Nat)(hn:n<=s.length)(hs:s.length<=1000000000):zdP (n:Int) ⟨src,s,f⟩=some (.inl (⟨src,s.drop n,f||(s.take n).any zdj⟩,())):=by
 unfold zdP;have e1:=zgz s n hn
 have e2:zbv s 0 (n:Int)=some (s.take n):=by
  have:=zne s 0 n (by omega) hn;simpa using this
 have e3:=zGs (s.take n) (by simp only[List.length_take];omega)
 cases f with
 |true=>simp only[yB,e1,qz1,Bool.true_or]
 |false=>simp only[qz2,yA,e1,e2,e3,qz1,Bool.false_or]
def zT5(src:Str)(p:Str×Bool×Bool):Bool×zaD×Unit:=(p.2.2,⟨src,p.1,p.2.1⟩,())
theorem zod(src:Str): ∀(m:Nat) (s:Str) (f:Bool),s.length<m->s.length<=1000000000->zaH za1 m (⟨src,s,f⟩,())=some (zT5 src (zew m s f))
 |0,s,f,h,_=>by omega
 |m+1,[],f,_,_=>zaG rfl
 |m+1,c::r,f,hm,hs=>by
  simp only[qz3]at hm;have hr:r.length<=1000000000:=by simp only[qz3]at hs;omega
  have cn:(!((c::r)==([]:Str)))=true:=rfl;have hj4:=zMF src (c::r) f;rw[zew];by_cases h1:zdj c=true
  ·rw[yL h1]
   have hc:c=10\/c=13:=by
    unfold zdj at h1;simpa using h1
   have hstep:za1 (⟨src,c::r,f⟩,())=some (.inl (⟨src,r,true⟩,())):=by
    have hj:=hj4 1 (by simp) hs;have e:(f||(((c::r).take 1).any zdj))=true:=by simp[h1]
    rw[e]at hj;rcases hc with rfl|rfl
    ·simp only[za1,zfS,zf0,cn,yB,zj0];exact hj
    ·simp only[za1,zfS,zf0,cn,yB,zj0];exact hj
   rw[zca hstep];exact zod src m r true (by omega) hr
  ·have h1':zdj c=false:=by simpa using h1
   rw[yK h1];by_cases h2:c=32\/c=9\/c=11\/c=12
   ·rw[yL h2]
    have hstep:za1 (⟨src,c::r,f⟩,())=some (.inl (⟨src,r,f⟩,())):=by
     have hj:=hj4 1 (by simp) hs;have e:(f||(((c::r).take 1).any zdj))=f:=by simp[h1']
     rw[e]at hj;rcases h2 with rfl|rfl|rfl|rfl
     ·simp only[za1,zfS,zf0,cn,yB,zj0];exact hj
     ·simp only[za1,zfS,zf0,cn,yB,zj0];exact hj
     ·simp only[za1,zfS,zf0,cn,yB,zj0];exact hj
     ·simp only[za1,zfS,zf0,cn,yB,zj0];exact hj
    rw[zca hstep];exact zod src m r f (by omega) hr
   ·rw[yK h2];by_cases h3:([47,47]:Str).isPrefixOf (c::r)=true
    ·rw[yL h3]
     have hc:c=47:=by
      simp only[List.isPrefixOf,qz4,beq_iff_eq]at h3;exact h3.1.symm
     have hdw:(c::r).dropWhile (λx=> !zdj x)=r.dropWhile (λx=> !zdj x):=by
      rw[List.dropWhile_cons,yL (by simp[h1'])]
     have hlen:=zoB (λx=> !zdj x) r
     have hstep:za1 (⟨src,c::r,f⟩,())=some (.inl (⟨src,(c::r).dropWhile (λx=> !zdj x),f⟩,())):=by
      simp only[za1,zfS,zf0,cn,yB,h3,qz1,zJS _ hs];rcases zxy (c::r)with⟨g1,g2,g3⟩| ⟨i,g1,g2,g3,g4,g5⟩
      ·rw[g2,g3];have hj:=hj4 (c::r).length (yJ _) hs;rw[List.drop_length,List.take_length,g1,Bool.or_false]at hj;simpa using hj
      ·have hj:=hj4 i g2 hs;rw[g4,g5,Bool.or_false]at hj;have cneg: ¬((i:Int)<0):=by omega
       rw[g1];simp only[cneg,decide_false,qz2,yA];exact hj
     rw[zca hstep];exact zod src m _ f (by rw[hdw];omega) (by rw[hdw];omega)
    ·have h3':([47,47]:Str).isPrefixOf (c::r)=false:=by rw[<-Bool.not_eq_true];exact h3
     rw[yK h3];by_cases h4:([47,42]:Str).isPrefixOf (c::r)=true
     ·rw[yL h4];cases r with
      |nil=>simp[List.isPrefixOf]at h4
      |cons d r=>
       simp only[List.isPrefixOf,Bool.and_true,qz4,beq_iff_eq]at h4;obtain⟨rfl,rfl⟩:=h4;have hdrop:((47::42::r:Str)).drop 2=r:=rfl;rw[hdrop]
       have hcut:zbv (47::42::r:Str) 2 (((47::42::r:Str).length:Nat):Int)=some r:=by
        have:=zgz (47::42::r:Str) 2 (by simp);exact this
       have hpre:List.isPrefixOf [47,42] (47::42::r:Str)=true:=rfl;have hri:=zMy r [42,47] (by simp only[qz3]at hr;omega)
       cases he:zlK r with
       |none=>
        refine zaG ?_;simp only[za1,zfS,zf0,cn,yB,h3',hpre,qz1,qz2,yA,hcut,hri];rw[zAM,he];rfl
       |some n=>
        have hle:=zGo r n he
        have hstep:za1 (⟨src,47::42::r,f⟩,())=some (.inl (⟨src,(47::42::r:Str).drop (n+4),f||(r.take n).any zdj⟩,())):=by
         simp only[za1,zfS,zf0,cn,yB,h3',hpre,qz1,qz2,yA,hcut,hri];rw[zAM,he];have cneg: ¬(((n:Nat):Int)<0):=by omega
         have w:IntKind.wrap .i64 ((n:Int)+4)=((n+4:Nat):Int):=by rw[wrap_i64 (by omega) (by simp only[qz3]at hr;omega)];omega
         simp only[cneg,decide_false,qz2,yA,w];have hj:=hj4 (n+4) (by simp only[qz3];omega) hs
         rw[zLl r n he]at hj;exact hj
        rw[zca hstep];simp only[qz3]at hm;have hlt:((47::42::r:Str).drop (n+4)).length<=r.length:=by simp only[List.length_drop,qz3];omega
        exact zod src m _ _ (by omega) (by simp only[qz3]at hr;omega)
     ·have h4':([47,42]:Str).isPrefixOf (c::r)=false:=by rw[<-Bool.not_eq_true];exact h4
      rw[yK h4];refine zaG ?_;have ho:=zML ⟨c.toNat,c.toNat_lt⟩;rw[show UInt8.ofNat (⟨c.toNat,c.toNat_lt⟩:Fin 256).val=c by simp]at ho;obtain⟨o1,o2⟩:=ho h1' h2;simp only at o1 o2;have b32:((((c.toNat:Nat):Int)) !=32)=true:=by rw[bne_iff_ne];omega
      simp only[za1,zfS,zf0,cn,yB,h3',h4',qz1,qz2,yA,zj0,b32];by_cases o3:c.toNat<9
      ·have d:(((c.toNat:Nat):Int)<9):=by omega
       simp only[d,decide_true,yB];rfl
      ·have d: ¬(((c.toNat:Nat):Int)<9):=by omega
       have d2:(((c.toNat:Nat):Int)>13):=by omega
       simp only[d,d2,decide_true,decide_false,qz2,yA,yB];rfl
theorem zFg(cc:zaD)(hs:cc.rest.length<=1000000000):zjG cc=
  some ((zew (cc.rest.length+1) cc.rest false).2.2,⟨cc.src,(zew (cc.rest.length+1) cc.rest false).1,(zew (cc.rest.length+1) cc.rest false).2.1⟩,()):=by
 unfold zjG;exact zck (n:=cc.rest.length+1) (zod cc.src (cc.rest.length+1) cc.rest false (by omega) hs) (by omega)
theorem ofN(c:UInt8):UInt8.ofNat c.toNat=c:=by simp
theorem wrap_succ{k:Nat}(h:k<1000000000000):IntKind.wrap .i64 ((k:Int)+1)=((k+1:Nat):Int):=by rw[wrap_i64 (by omega) (by omega)];omega
abbrev PuS:=Int×Bool×Str×Int×Int×Bool×Int×(List UInt8)×Int×Int×Unit
abbrev puS(o:Nat)(s0:Str)(cut:Int)(mx a:Nat)(t:Str)(i:Nat):PuS:=((o:Int),false,s0,cut,(mx:Int),false,(a:Int),t,((t.length:Nat):Int),(i:Int),())
def puQ(o mx:Nat)(s0:Str)(cut:Int)(t:Str)(a i:Nat)(d:Option Nat):Option (PuS⊕(Int×zaQ×Unit)):=
 match d with
 |none=>some (.inr (0,.code 156 2,()))
 |some d=>if d<o then(if a*o+d<=mx then some (.inl (puS o s0 cut mx (a*o+d) t (i+1)))else some (.inr ((mx:Int),.code 156 1,())))else some (.inr (0,.code 156 2,()))
theorem zMc(o mx a i d:Nat)(ho:o=10\/o=16)(hm:mx<=9007199254740991)(s0 t:Str)(cut:Int)(hx:9007199254740992<=cut)(ha:a<=mx)(hi:i<1000000000000)(hd:d<256):
  zem (o:Int) false s0 cut (mx:Int) false (a:Int) (d:Int) t ((t.length:Nat):Int) (i:Int)=puQ o mx s0 cut t a i (some d):=by
 unfold zem ziu ziB ziy zio puQ;have wo:IntKind.wrap .u8 (o:Int)=(o:Int):=wrap_u8 (by omega) (by omega);have wo2:IntKind.wrap .u64 (o:Int)=(o:Int):=wrap_u64 (by omega) (by omega);have wd:IntKind.wrap .u64 (d:Int)=(d:Int):=wrap_u64 (by omega) (by omega);have hmul:a*o<=9007199254740991*16:=Nat.mul_le_mul (by omega) (by omega);have em:((a:Int)*(o:Int))=((a*o:Nat):Int):=by simp
 have wm:IntKind.wrap .u64 ((a:Int)*(o:Int))=((a*o:Nat):Int):=by rw[em];exact wrap_u64 (by omega) (by omega)
 have ws:IntKind.wrap .u64 (((a*o:Nat):Int)+(d:Int))=((a*o+d:Nat):Int):=by rw[wrap_u64 (by omega) (by omega)];omega
 simp only[wo,wo2,wd,wm,ws,wrap_succ hi];by_cases h1:d<o
 ·have c1: ¬((d:Int)>=(o:Int)):=by omega
  have c2: ¬((a:Int)>=cut):=by omega
  have c3: ¬(((a*o+d:Nat):Int)< ((a*o:Nat):Int)):=by omega
  simp only[c1,c2,c3,h1,decide_false,qz2,yA,yB,Bool.false_or];by_cases h2:a*o+d<=mx
  ·have c4: ¬(((a*o+d:Nat):Int)>(mx:Int)):=by omega
   simp only[c4,h2,decide_false,qz2,yA,yB]
  ·have c4:(((a*o+d:Nat):Int)>(mx:Int)):=by omega
   simp only[c4,h2,decide_true,yA,yB]
 ·have c1:((d:Int)>=(o:Int)):=by omega
  simp only[c1,h1,decide_true,yB,yA]
theorem zRN(o mx a i:Nat)(ho:o=10\/o=16)(hm:mx<=9007199254740991)(s0 t:Str)(c:UInt8)(hc:t[i]? =some c)(cut:Int)(hx:9007199254740992<=cut)(ha:a<=mx)(hi:i<1000000000000):
  zb7 (puS o s0 cut mx a t i)=puQ o mx s0 cut t a i (hexV c):=by
 have hlt:i<t.length:=(qz0 hc).1;unfold zb7;have c1:((i:Int)< ((t.length:Nat):Int)):=by omega
 obtain⟨f1,f2,f3⟩:=zO0 ⟨c.toNat,c.toNat_lt⟩;rw[ofN]at f1 f2 f3;simp only at f1 f2 f3;simp only[c1,decide_true,yB,ziq,hc,qz1,Bool.and_false,qz2,yA,zM0];by_cases g1:48<=c.toNat/\c.toNat<=57
 ·have d1:((48:Int)<=((c.toNat:Nat):Int)):=by omega
  have d2:(((c.toNat:Nat):Int)<=57):=by omega
  have w:IntKind.wrap .u8 (((c.toNat:Nat):Int) -48)=((c.toNat -48:Nat):Int):=by rw[wrap_u8 (by omega) (by omega)];omega
  simp only[d1,d2,decide_true,Bool.and_self,yB,w];rw[zMc o mx a i _ ho hm s0 t cut hx ha hi (by omega),f1 g1]
 ·have d1:((decide ((48:Int)<=((c.toNat:Nat):Int)))&&(decide (((c.toNat:Nat):Int)<=57)))=false:=by
   rw[<-Bool.not_eq_true,qz4,yT,yT];omega
  simp only[d1,qz2,yA];have hlow:zke c.toNat<256:=by unfold zke;exact(BitVec.ofNat 8 c.toNat|||32#8).isLt
  by_cases g2:97<=zke c.toNat
  ·have e2:((97:Int)<=((zke c.toNat:Nat):Int)):=by omega
   simp only[e2,decide_true,yB];by_cases g3:zke c.toNat<=122
   ·have e3:(((zke c.toNat:Nat):Int)<=122):=by omega
    have w1:IntKind.wrap .u8 (((zke c.toNat:Nat):Int) -97)=((zke c.toNat -97:Nat):Int):=by rw[wrap_u8 (by omega) (by omega)];omega
    have w2:IntKind.wrap .u8 (((zke c.toNat -97:Nat):Int)+10)=((zke c.toNat -87:Nat):Int):=by rw[wrap_u8 (by omega) (by omega)];omega
    simp only[e3,decide_true,yB,w1,w2];rw[zMc o mx a i _ ho hm s0 t cut hx ha hi (by omega),f2 g1 g2 g3];split
    ·rfl
    ·rename_i g4;unfold puQ;have: ¬(zke c.toNat -87<o):=by omega
     simp only[this,yA]
   ·have e3: ¬(((zke c.toNat:Nat):Int)<=122):=by omega
    simp only[e3,decide_false,qz2,yA];rw[f3 g1 (by omega)];rfl
  ·have e2: ¬((97:Int)<=((zke c.toNat:Nat):Int)):=by omega
   simp only[e2,decide_false,qz2,yA];rw[f3 g1 (by omega)];rfl
def okM(mx o:Nat)(t:Str)(a:Nat):Option Nat:=match zeo o t a with
 |none=>none
 |some n=>if n<=mx then some n else none
def PuE(e:Int×zaQ×Unit)(q:Option Nat):Prop:=match q with
 |some r=>e=((r:Int),.nil,())
 |none=>∃v,e=(v,.code 156 2,())\/e=(v,.code 156 1,())
theorem zQl(o mx:Nat)(ho:o=10\/o=16)(hm:mx<=9007199254740991)(s0 t:Str)(ht:t.length<=1000000000)(cut:Int)(hx:9007199254740992<=cut): ∀(n i a:Nat),n+i=t.length->a<=mx->
  ∃e,zaH zb7 (n+1) (puS o s0 cut mx a t i)=some e/\PuE e (okM mx o (t.drop i) a):=by
 intro n;induction n with
 |zero=>
  intro i a hi ha;have hd:t.drop i=[]:=List.drop_eq_nil_of_le (by omega);rw[hd];refine⟨((a:Int),.nil,()),zaG ?_,?_⟩
  ·unfold zb7;have c1: ¬((i:Int)< ((t.length:Nat):Int)):=by omega
   simp only[c1,decide_false,qz2,yA]
  ·unfold okM zeo PuE;simp only[ha,yB]
 |succ n ih=>
  intro i a hi ha;have hlt:i<t.length:=by omega
  have hst:=zRN o mx a i ho hm s0 t t[i] (qz9 hlt) cut hx ha (by omega);rw[List.drop_eq_getElem_cons hlt];unfold okM zeo;cases hv:hexV t[i]with
  |none=>
   rw[hv]at hst;exact⟨_,zaG hst,0,.inl rfl⟩
  |some d=>
   rw[hv]at hst;unfold puQ at hst;simp only at hst⊢;by_cases h1:d<o
   ·simp only[h1,yB]at hst⊢;by_cases h2:a*o+d<=mx
    ·simp only[h2,yB]at hst;rw[zca hst];exact ih (i+1) (a*o+d) (by omega) h2
    ·simp only[h2,yA]at hst;refine⟨_,zaG hst,?_⟩;cases hp:zeo o (t.drop (i+1)) (a*o+d)with
     |none=>exact⟨_,.inr rfl⟩
     |some r=>
      have:=zEj (by omega) _ _ _ hp;have h3: ¬(r<=mx):=by omega
      simp only[h3,yA];exact⟨_,.inr rfl⟩
   ·simp only[h1,yA]at hst⊢;exact⟨_,zaG hst,0,.inl rfl⟩
theorem zG9(o b mx:Nat)(ho:o=10\/o=16)(hb:b=53/\mx=9007199254740991\/b=16/\mx=65535)(t:Str)(h0:t≠[])(ht:t.length<=1000000000):
  ∃v,zbO t (o:Int) (b:Int)=some (match okM mx o t 0 with|some r=>((r:Int),zaQ.nil,())|none=>(v,zaQ.opq,())):=by
 have key: ∃e,zhN t (o:Int) (b:Int)=some e/\PuE e (okM mx o t 0):=by
  have c:(t==([]:Str))=false:=by simpa using h0
  have sh:zEv .u64 1 (IntKind.wrap .u64 (b:Int))=some ((mx:Int)+1):=by
   rcases hb with⟨rfl,rfl⟩| ⟨rfl,rfl⟩<;>decide
  have wm:IntKind.wrap .u64 ((mx:Int)+1 -1)=(mx:Int):=by rw[wrap_u64 (by omega) (by omega)];omega
  have fin: ∀cut:Int,9007199254740992<=cut->∃e,Lp.loop zb7 (puS o t cut mx 0 t 0)=some e/\PuE e (okM mx o t 0):=λcut hx=>by
   obtain⟨e,e1,e2⟩:=zQl o mx ho (by omega) t t ht cut hx t.length 0 0 (by omega) (by omega);rw[List.drop_zero]at e2;exact⟨e,zck e1 (by omega),e2⟩
  unfold zhN zcE ziA zfV zir ziz zis
  have b1:((decide ((2:Int)<=(o:Int)))&&(decide ((o:Int)<=36)))=true:=by
   rw[decide_eq_true (by omega),decide_eq_true (by omega)];rfl
  have b2:((o:Int)==0)=false:=by rw[yH];omega
  have b3:((b:Int)==0)=false:=by rw[yH];omega
  have b4:((decide ((b:Int)<0))||(decide ((b:Int)>64)))=false:=by
   rw[decide_eq_false (by omega),decide_eq_false (by omega)];rfl
  simp only[c,b1,b2,b3,b4,qz2,yA,yB,sh,qz1,wm];rcases ho with rfl|rfl
  ·exact fin 1844674407370955162 (by decide)
  ·exact fin 1152921504606846976 (by decide)
 obtain⟨e,e1,e2⟩:=key;unfold zbO zj8;rw[e1,qz1];cases hk:okM mx o t 0 with
 |some r=>
  rw[hk]at e2;obtain rfl:e=((r:Int),.nil,()):=e2;exact⟨0,rfl⟩
 |none=>
  rw[hk]at e2;obtain⟨v,rfl|rfl⟩: ∃v,e=(v,.code 156 2,())\/e=(v,.code 156 1,()):=e2
  ·refine⟨v,?_⟩;simp only[zaQ.isNil,yN,yB];rw[yL ⟨by omega,by simp⟩];rfl
  ·refine⟨v,?_⟩;simp only[zaQ.isNil,yN,yB];rw[yL ⟨by omega,by simp⟩];rfl
theorem zLC(o:Nat)(ho:o=10\/o=16)(t:Str)(h0:t≠[])(ht:t.length<=1000000000):
  ∃v,zbO t (o:Int) 53=some (match okN o t 0 with|some r=>((r:Int),zaQ.nil,())|none=>(v,zaQ.opq,())):=
 zG9 o 53 9007199254740991 ho (.inl ⟨rfl,rfl⟩) t h0 ht
theorem zFO: ∀(t:Str) (a n:Nat),hexN t.length t a=some n->zeo 16 t a=some n
 | [],a,n,h=>h
 |c::r,a,n,h=>by
  rw[qz3]at h;unfold hexN at h;unfold zeo;cases hv:hexV c with
  |none=>rw[hv]at h;cases h
  |some d=>
   rw[hv]at h;simp only at h⊢;rw[yL (zDt hv),Nat.mul_comm a 16];exact zFO r _ n h
theorem zvv(t:Str)(n:Nat)(h0:t≠[])(h1:t.length<=4)(h2:hexN t.length t 0=some n):zbO t 16 16=some ((n:Int),.nil,()):=by
 obtain⟨v,hv⟩:=zG9 16 16 65535 (.inr rfl) (.inr ⟨rfl,rfl⟩) t h0 (by omega);have hl:=zyQ _ _ _ _ h2;have hp:16^t.length<=16^4:=Nat.pow_le_pow_right (by omega) h1
 have hn:n<=65535:=by
  have h4:(16:Nat)^4=65536:=by decide
  omega
 have hv:zbO t 16 16=_:=hv;rw[hv];unfold okM;rw[zFO t 0 n h2];simp only[hn,yB]
theorem zmg(n:Nat)(h:n<65536):zgY (n:Int)=some (enc1 n,()):=by
 have e1:Int.fdiv (n:Int) (2^8)=((n/256:Nat):Int):=by rw[Int.fdiv_eq_ediv_of_nonneg _ (by omega)];rfl
 have w1:IntKind.wrap .u8 ((n/256:Nat):Int)=((n/256:Nat):Int):=wrap_u8 (by omega) (by omega);have w2:IntKind.wrap .u8 (n:Int)=((n%256:Nat):Int):=by rw[zDP];omega
 have t1:toB ((n/256:Nat):Int)=some (UInt8.ofNat (n/256)):=by unfold toB;rw[yL (by omega)];rfl
 have t2:toB ((n%256:Nat):Int)=some (UInt8.ofNat (n%256)):=by unfold toB;rw[yL (by omega)];rfl
 unfold zgY;simp only[e1,w1,w2,t1,t2,qz1];rfl
theorem ztJ(x s2 l:Str)(h:l.length+x.length<=274877906944):zbn x s2 l=some (((x.length:Nat):Int),zaQ.nil,s2,l++x,()):=by
 unfold zbn;rw[zcQ (by omega)];rfl
theorem zHl(s:Str)(acc:List Nat)(k:Nat)(hk:k=2\/k=4)(hs:s.length<=100000000)(ha:acc.length<=100000000):
  ∃r,zeB (k:Int) s (zdF acc)=some r/\(match hexN k s 0 with
   |none=>r.1=false
   |some n=>r=(true,s.drop k,zdF (acc++[n]),())):=by
 unfold zeB;by_cases hl:s.length<k
 ·have c:((((s.length:Nat):Int))< (k:Int)):=by omega
  simp only[c,decide_true,yB];refine⟨_,rfl,?_⟩;cases hn:hexN k s 0 with
  |none=>rfl
  |some n=>have:=zAI _ _ _ _ hn;omega
 ·have c: ¬((((s.length:Nat):Int))< (k:Int)):=by omega
  have hcut:zbv s 0 (k:Int)=some (s.take k):=by
   have:=zne s 0 k (by omega) (by omega);simpa using this
  have hlen:(s.take k).length=k:=by rw[List.length_take];omega
  have htrim:zqd (s.take k) ([48,49,50,51,52,53,54,55,56,57,97,98,99,100,101,102,65,66,67,68,69,70]:Str)=some (Lib.trimS (s.take k) zHQ,()):=by
   unfold zqd zi5;rw[yL ⟨by omega,by decide,by decide⟩];rfl
  have hsome:=zDT (s.take k) 0;rw[hlen,zCS k s 0 (by omega)]at hsome;simp only[c,decide_false,qz2,yA,hcut,qz1,htrim,zL6,<-hsome];cases hn:hexN k s 0 with
  |none=>exact⟨_,rfl,rfl⟩
  |some n=>
   have hparse:=zvv (s.take k) n (by intro h;rw[h]at hlen;simp at hlen;omega) (by omega) (by rw[hlen,zCS k s 0 (by omega)];exact hn)
   have hp2:zbO (s.take k) 16 16=some ((n:Int),zaQ.nil,()):=hparse
   have hn2:n<65536:=by
    have:=zyQ _ _ _ _ hn;rcases hk with rfl|rfl<;>omega
   have hend:=zgz s k (by omega);have w:IntKind.wrap .i64 (n:Int)=(n:Int):=wrap_i64 (by omega) (by omega);have hbw:=ztJ (enc1 n) (s.drop k) (zdF acc) (by simp only[zkl];simp[enc1];omega)
   simp only[Option.isSome_some,yO,qz2,yA,hcut,qz1,hp2,hend,w,zmg n hn2,hbw];refine⟨_,rfl,?_⟩;simp[zdF]
theorem zPI: ∀b:Fin 256,strings_IndexByte ([110,116,114,98,102,118]:Str) ((b.val:Nat):Int)=some (if b.val=110 then 0 else if b.val=116 then 1 else if b.val=114 then 2 else if b.val=98 then 3 else if b.val=102 then 4 else if b.val=118 then 5 else -1,()):=by decide+kernel
theorem zON(b:UInt8):strings_IndexByte ([110,116,114,98,102,118]:Str) ((b.toNat:Nat):Int)=some (if b.toNat=110 then 0 else if b.toNat=116 then 1 else if b.toNat=114 then 2 else if b.toNat=98 then 3 else if b.toNat=102 then 4 else if b.toNat=118 then 5 else -1,()):=zPI ⟨b.toNat,b.toNat_lt⟩
theorem zMj(s:Str)(acc:List Nat)(hs:s.length<=100000000)(ha:acc.length<=100000000):
  ∃r,zhu s (zdF acc)=some r/\(match ztw s with
   |none=>r.1=false
   |some (us,k)=>r=(true,s.drop k,zdF (acc++us),())):=by
 unfold zhu;cases s with
 |nil=>exact⟨_,rfl,rfl⟩
 |cons c r=>
  have hb:=c.toNat_lt;have g0:zbc (c::r) 0=some ((c.toNat:Nat):Int):=rfl
  have hcut:zbv (c::r) 1 (((c::r).length:Nat):Int)=some r:=by
   have:=zgz (c::r) 1 (by simp);simpa using this
  have hr:r.length<=100000000:=by simp only[qz3]at hs;omega
  have write: ∀n:Nat,n<65536->zbn (enc1 n) r (zdF acc)=some (2,.nil,r,zdF (acc++[n]),()):=by
   intro n hn;rw[ztJ _ _ _ (by simp only[zkl];simp[enc1];omega)]
   simp[zdF,enc1]
  have wi: ∀n:Nat,n<65536->IntKind.wrap .i64 (n:Int)=(n:Int):=λn hn=>wrap_i64 (by omega) (by omega)
  have c0:((c::r:Str)==([]:Str))=false:=rfl;simp only[c0,qz2,yA,g0,qz1,hcut,zON];have tn: ∀n:Nat,n<256->(c=UInt8.ofNat n↔c.toNat=n):=zpi c
  have spec:ztw (c::r)=if c.toNat=10 then some ([],1)else if c.toNat=48 then(match r with
   | []=>some ([0],1)
   |d::_=>if 48<=d.toNat/\d.toNat<=57 then none else some ([0],1))
   else if c.toNat=120 then(hexN 2 r 0).map λn=>([n],3)
   else if c.toNat=117 then(hexN 4 r 0).map λn=>([n],5)
   else(zlb c).map λn=>([n],1):=by
   simp only[ztw,<-tn 10 (by omega),<-tn 48 (by omega),<-tn 120 (by omega),<-tn 117 (by omega)];rfl
  have simp':zlb c=if c.toNat=110 then some 10 else if c.toNat=116 then some 9 else if c.toNat=114 then some 13 else if c.toNat=98 then some 8 else if c.toNat=102 then some 12 else if c.toNat=118 then some 11
    else if c.toNat>127\/c.toNat=13\/c.toNat=120\/c.toNat=117\/(48<=c.toNat/\c.toNat<=57)\/c.toNat=10 then none else some c.toNat:=by
   simp only[zlb,<-tn 110 (by omega),<-tn 116 (by omega),<-tn 114 (by omega),<-tn 98 (by omega),<-tn 102 (by omega),<-tn 118 (by omega),<-tn 13 (by omega),<-tn 120 (by omega),<-tn 117 (by omega),<-tn 10 (by omega)];rfl
  rw[spec,simp'];clear spec simp' tn;generalize hk:c.toNat=k at*
  have small: ∀(j m:Nat) (v:Int),v=(j:Int)->([10,9,13,8,12,11]:Str)[j]? =some (UInt8.ofNat m)->m<256->
    ∃r0,(if decide (v>=0)=true then
     Option.bind (zbc ([10,9,13,8,12,11]:Str) v) λv7=>
     Option.bind (zgY (IntKind.wrap .i64 v7)) λv8=>
     Option.bind (zbn v8.1 r (zdF acc)) λv9=>
     some (true,v9.2.2.1,v9.2.2.2.1,())else none)=some r0/\r0=(true,(c::r).drop 1,zdF (acc++[m]),()):=by
   intro j m v hv hj hm;subst hv;have cc:((j:Int)>=0):=by omega
   have e:(UInt8.ofNat m).toNat=m:=by simp[UInt8.toNat_ofNat'];omega
   simp only[cc,decide_true,yB,zix,hj,Option.map_some,qz1,e,wi m (by omega),zmg m (by omega),write m (by omega)];exact⟨_,rfl,rfl⟩
  by_cases h110:k=110
  ·subst h110;simpa using small 0 10 0 rfl rfl (by omega)
  by_cases h116:k=116
  ·subst h116;simpa using small 1 9 1 rfl rfl (by omega)
  by_cases h114:k=114
  ·subst h114;simpa using small 2 13 2 rfl rfl (by omega)
  by_cases h98:k=98
  ·subst h98;simpa using small 3 8 3 rfl rfl (by omega)
  by_cases h102:k=102
  ·subst h102;simpa using small 4 12 4 rfl rfl (by omega)
  by_cases h118:k=118
  ·subst h118;simpa using small 5 11 5 rfl rfl (by omega)
  have m1: ¬((-1:Int)>=0):=by decide
  simp only[h110,h116,h114,h98,h102,h118,yA,m1,decide_false,qz2];have cc: ∀m:Nat,((k:Int)==((m:Nat):Int))=decide (k=m):=λm=>zkq k m
  have c10:((k:Int)==10)=decide (k=10):=cc 10;have c120:((k:Int)==120)=decide (k=120):=cc 120;have c117:((k:Int)==117)=decide (k=117):=cc 117;have c48:((k:Int)==48)=decide (k=48):=cc 48;have c13:((k:Int)==13)=decide (k=13):=cc 13;simp only[c10,c120,c117,c48,c13,yT];by_cases h10:k=10
  ·rw[yL h10,yL h10];exact⟨_,rfl,by simp⟩
  rw[yK h10,yK h10];by_cases h120:k=120
  ·have h48: ¬k=48:=by omega
   rw[yL h120,yK h48,yL h120];obtain⟨x,e1,e2⟩:=zHl r acc 2 (.inl rfl) hr ha;have e1':zeB 2 r (zdF acc)=some x:=e1;rw[e1'];refine⟨_,rfl,?_⟩;cases hn:hexN 2 r 0 with
   |none=>rw[hn]at e2;exact e2
   |some n=>rw[hn]at e2;simp only at e2;subst e2;simp
  rw[yK h120];by_cases h117:k=117
  ·have h48: ¬k=48:=by omega
   rw[yL h117,yK h48,yK h120,yL h117];obtain⟨x,e1,e2⟩:=zHl r acc 4 (.inr rfl) hr ha;have e1':zeB 4 r (zdF acc)=some x:=e1;rw[e1'];refine⟨_,rfl,?_⟩;cases hn:hexN 4 r 0 with
   |none=>rw[hn]at e2;exact e2
   |some n=>rw[hn]at e2;simp only at e2;subst e2;simp
  rw[yK h117];by_cases h48:k=48
  ·rw[yL h48,yL h48];have w0:=write 0 (by omega);have u0:zgY 0=some (enc1 0,()):=zmg 0 (by omega);simp only[u0,qz1,w0];cases r with
   |nil=>exact⟨_,rfl,by simp⟩
   |cons d r'=>
    have gd0:zbc (d::r') 0=some ((d.toNat:Nat):Int):=rfl;have cn:((d::r':Str)==([]:Str))=false:=rfl;simp only[cn,qz2,yA,gd0,qz1];by_cases hd1:d.toNat<48
    ·have cd:((d.toNat:Nat):Int)<48:=by omega
     have cd2: ¬(48<=d.toNat/\d.toNat<=57):=by omega
     simp only[cd,decide_true,yB,cd2,yA];exact⟨_,rfl,by simp⟩
    ·have cd: ¬((d.toNat:Nat):Int)<48:=by omega
     simp only[cd,decide_false,qz2,yA];by_cases hd2:d.toNat<=57
     ·have cd2:(48<=d.toNat/\d.toNat<=57):=by omega
      have cd3: ¬((d.toNat:Nat):Int)>57:=by omega
      simp only[cd2,and_self,yB,cd3,decide_false];exact⟨_,rfl,by simp⟩
     ·have cd2: ¬(48<=d.toNat/\d.toNat<=57):=by omega
      have cd3:((d.toNat:Nat):Int)>57:=by omega
      simp only[cd2,yA,cd3,decide_true];exact⟨_,rfl,by simp⟩
  rw[yK h48,yK h48,yK h120,yK h117];by_cases hbad:k>127\/k=13\/k=120\/k=117\/(48<=k/\k<=57)\/k=10
  ·have cb:((decide (k=13)||(decide ((k:Int)>=49)&&decide ((k:Int)<=57)))||decide ((k:Int)>=128))=true:=by
    simp only[yQ,qz4,yT];omega
   rw[yL hbad,cb,yL rfl];exact⟨_,rfl,rfl⟩
  ·have cb:((decide (k=13)||(decide ((k:Int)>=49)&&decide ((k:Int)<=57)))||decide ((k:Int)>=128))=false:=by
    simp only[Bool.or_eq_false_iff,Bool.and_eq_false_iff,decide_eq_false_iff_not];omega
   rw[yK hbad,cb,yK (by simp)];simp only[wi k (by omega),zmg k (by omega),qz1,write k (by omega)];exact⟨_,rfl,by simp⟩
theorem zFJ(q:UInt8)(s0:Str)(hs:(q::s0).length<=100000000): ∀(m:Nat) (rest:Str) (acc:List Nat),rest.length<m->rest.length<=s0.length->acc.length+rest.length<=100000000->okU acc->
  zaH zin m (q::s0,rest,zdF acc,())=some ((zh8 q (q::s0) m rest acc).1,(zh8 q (q::s0) m rest acc).2.1,(zh8 q (q::s0) m rest acc).2.2,()):=by
 intro m;induction m with
 |zero=>intro rest acc h;omega
 |succ m ih=>
  intro rest acc h1 h2 h3 h4;cases rest with
  |nil=>exact zaG rfl
  |cons c r=>
   have hb:=c.toNat_lt;have g0:zbc (c::r) 0=some ((c.toNat:Nat):Int):=rfl;have gq:zbc (q::s0) 0=some ((q.toNat:Nat):Int):=rfl
   have hcut:zbv (c::r) 1 (((c::r).length:Nat):Int)=some r:=by
    have:=zgz (c::r) 1 (by simp);simpa using this
   have c0:((c::r:Str)==([]:Str))=false:=rfl;have hq:((((c.toNat:Nat):Int))==((q.toNat:Nat):Int))=decide (c=q):=by rw[zkq];simp[UInt8.toNat_inj]
   have u8b: ∀n:Nat,n<256->((((c.toNat:Nat):Int))==((n:Nat):Int))=decide (c=UInt8.ofNat n):=λn h=>by
    rw[zkq,decide_eq_decide];exact(zpi _ n h).symm
   have e10:((((c.toNat:Nat):Int))==10)=decide (c=10):=u8b 10 (by omega);have e13:((((c.toNat:Nat):Int))==13)=decide (c=13):=u8b 13 (by omega);have e92:((((c.toNat:Nat):Int))==92)=decide (c=92):=u8b 92 (by omega);have b92:((((c.toNat:Nat):Int)) !=92)= !decide (c=92):=by unfold bne;rw[e92]
   have w:IntKind.wrap .i64 ((((q::s0).length:Nat):Int) - ((r.length:Nat):Int))=(((q::s0).length -r.length:Nat):Int):=by
    have:r.length<=(q::s0).length:=by simp only[qz3]at h2⊢;omega
    rw[wrap_i64 (by omega) (by omega)];omega
   have head:zin (q::s0,c::r,zdF acc,())=(if c=q then some (.inr (zdF acc,(((q::s0).length -r.length:Nat):Int),0,()))
     else
      if(c=10\/c=13\/c.toNat>127)then some (.inr ([],0,10,()))
      else
       if c=92 then
        Option.bind (zhu r (zdF acc)) λr_16=>
         if(!r_16.1)=true then some (Sum.inr (([]:Str),0,10,()))
         else some (Sum.inl (q::s0,r_16.2.1,r_16.2.2.1,()))
       else some (.inl (q::s0,r,zdF (acc++[c.toNat]),()))):=by
    simp only[zin,c0,yN,yB,g0,gq,hcut,qz1,zI,hq,e10,e13,e92,b92,w];by_cases hcq:c=q
    ·simp only[hcq,decide_true,yB]
    ·simp only[hcq,decide_false,qz2,yA];by_cases hbad:c=10\/c=13\/c.toNat>127
     ·have cb:((decide (c=10)||decide (c=13))||decide (((c.toNat:Nat):Int)>=128))=true:=by
       simp only[yQ,yT];rcases hbad with h|h|h
       ·exact .inl (.inl h)
       ·exact .inl (.inr h)
       ·right;omega
      rw[cb,yL hbad];rfl
     ·have cb:((decide (c=10)||decide (c=13))||decide (((c.toNat:Nat):Int)>=128))=false:=by
       simp only[Bool.or_eq_false_iff,decide_eq_false_iff_not];refine⟨⟨λh=>hbad (.inl h),λh=>hbad (.inr (.inl h))⟩,λh=>hbad (.inr (.inr (by omega)))⟩
      rw[cb,yK hbad];simp only[qz2,yA];by_cases h92:c=92
      ·simp only[h92,decide_true,yB,yO,qz2,yA]
      ·have w2:IntKind.wrap .i64 ((c.toNat:Nat):Int)=((c.toNat:Nat):Int):=wrap_i64 (by omega) (by omega);have hw:=ztJ (enc1 c.toNat) r (zdF acc) (by simp only[zkl];simp[enc1];omega)
       simp only[h92,decide_false,qz2,yA,yN,yB,w2,zmg c.toNat (by omega),qz1,hw];simp[zdF]
   by_cases hcq:c=q
   ·rw[yL hcq]at head;refine(zaG head).trans ?_;unfold zh8 zhL;simp only[hcq,yB]
   ·rw[yK hcq]at head;by_cases hbad:c=10\/c=13\/c.toNat>127
    ·rw[yL hbad]at head;refine(zaG head).trans ?_;unfold zh8 zhL;simp only[hcq,hbad,yB,yA]
    ·rw[yK hbad]at head;by_cases h92:c=92
     ·rw[yL h92]at head;obtain⟨x,e1,e2⟩:=zMj r acc (by simp only[qz3]at h3;omega) (by omega)
      rw[e1]at head;simp only[qz1]at head;cases hesc:ztw r with
      |none=>
       rw[hesc]at e2;simp only at e2;rw[e2]at head;refine(zaG head).trans ?_;unfold zh8 zhL;rw[yK hcq,yK hbad,yL h92,hesc]
      |some p=>
       obtain⟨us,k⟩:=p;rw[hesc]at e2;simp only at e2;obtain⟨p1,p2,p3,p4⟩:=zGF hesc;subst e2;have hgo:zin (q::s0,c::r,zdF acc,())=some (.inl (q::s0,r.drop k,zdF (acc++us),())):=head
       have hacc:okU (acc++us):=by
        intro n hn;rcases List.mem_append.mp hn with h|h
        · exact h4 n h
        · exact p1 n h
       simp only[qz3]at h1 h2 h3;have g1:=ih (r.drop k) (acc++us) (by simp;omega) (by simp;omega) (by simp;omega) hacc
       refine(zca hgo).trans (g1.trans ?_);unfold zh8;conv=>rhs;unfold zhL
       rw[yK hcq,yK hbad,yL h92,hesc]
     ·rw[yK h92]at head
      have hacc:okU (acc++[c.toNat]):=by
       intro n hn;rcases List.mem_append.mp hn with h|h
       ·exact h4 n h
       ·simp at h;omega
      simp only[qz3]at h1 h2 h3;have g1:=ih r (acc++[c.toNat]) (by omega) (by omega) (by simp;omega) hacc
      refine(zca head).trans (g1.trans ?_);unfold zh8;conv=>rhs;unfold zhL
      rw[yK hcq,yK hbad,yK h92]
theorem zHv(s:Str)(hs:s.length<=100000000):ztV s=some ((zfB s).1,(zfB s).2.1,(zfB s).2.2,()):=by
 unfold ztV;cases s with
 |nil=>rfl
 |cons q s0=>
  have gq:zbc (q::s0) 0=some ((q.toNat:Nat):Int):=rfl;have c0:((q::s0:Str)==([]:Str))=false:=rfl;have b39:(((q.toNat:Nat):Int) !=39)= !decide (q=39):=zMo q 39 (by omega);have b34:(((q.toNat:Nat):Int) !=34)= !decide (q=34):=zMo q 34 (by omega)
  have hcut:zbv (q::s0) 1 (((q::s0).length:Nat):Int)=some s0:=by
   have:=zgz (q::s0) 1 (by simp);simpa using this
  simp only[c0,qz2,yA,gq,qz1,b39,b34,hcut]
  have good:(q=39\/q=34)->Lp.loop zin (q::s0,s0,[],())=some ((zfB (q::s0)).1,(zfB (q::s0)).2.1,(zfB (q::s0)).2.2,()):=by
   intro hq;have g1:=zFJ q s0 hs (s0.length+1) s0 [] (by omega) (by omega) (by simp only[qz3]at hs;simp;omega) (by intro n hn;cases hn)
   have hfin:zfB (q::s0)=zh8 q (q::s0) (s0.length+1) s0 []:=by
    unfold zfB zh8;simp only[hq,yB]
   rw[hfin];simp only[qz3]at hs;exact zck g1 (by omega)
  by_cases h39:q=39
  ·have d39:decide (q=39)=true:=by rw[yT];exact h39
   simp only[d39,yO,qz2,yA,qz1];exact good (.inl h39)
  ·have d39:decide (q=39)=false:=by rw[decide_eq_false_iff_not];exact h39
   simp only[d39,yN,yB];by_cases h34:q=34
   ·have d34:decide (q=34)=true:=by rw[yT];exact h34
    simp only[d34,yO,qz1,qz2,yA];exact good (.inr h34)
   ·have d34:decide (q=34)=false:=by rw[decide_eq_false_iff_not];exact h34
    have:zfB (q::s0)=([],0,10):=by
     unfold zfB;simp only[h39,h34,or_self,yA]
    rw[this];simp only[d34,yN];rfl
theorem zhw(s:Str)(n:Nat)(c:UInt8)(h:s[n]? =some c):zbc s (n:Int)=some ((c.toNat:Nat):Int):=by
 unfold zbc;rw[yL (by omega)];simp[h]
theorem zuw{α:Type}[BEq α][LawfulBEq α][DecidableEq α](a b:α):(a==b)=decide (a=b):=by
 rw[Bool.eq_iff_iff];simp
def zLg(o:Nat)(t:Str)(k:Int)(x:zaD):Int×Int×zaD×Unit:=match okN o t 0 with
 |some r=>((r:Int),k,x,())
 |none=>(0,0,x,())
theorem zHg(o:Nat)(ho:o=10\/o=16)(t:Str)(h0:t≠[])(ht:t.length<=1000000000)(k:Int)(x:zaD):(Option.bind (zbO t (o:Int) 53) λr_12=>
   if(!(r_12.2.1).isNil)=true then
    some ((0:Int),(0:Int),x,())
   else
    Option.bind (strings_Contains t ([95]:Str)) λr_13=>
    if r_13.1=true then
     some (0,0,x,())
    else
     some ((IntKind.wrap .i64 r_12.1),k,x,()))=some (zLg o t k x):=by
 obtain⟨v,hv⟩:=zLC o ho t h0 ht;rw[hv];unfold zLg;cases hk:okN o t 0 with
 |none=>rfl
 |some r=>
   have hr:r<=9007199254740991/\zeo o t 0=some r:=by
     unfold okN at hk;split at hk
     · cases hk
     · split at hk
       · rename_i h1 h2;cases hk;exact⟨h2,h1⟩
       · cases hk
   simp only[qz1,zaQ.isNil,yO,qz2,yA];rw[zCo t [95] ht,ztt,zE2 t 0 r hr.2];simp only[qz1,qz2,yA];rw[wrap_i64 (by omega) (by omega)]
def zOK(o:Nat)(t:Str)(k:Int)(x:zaD):Int×Int×zaD×Unit:=match zeo o t 0 with
 |some n=>if n<=9007199254740991 then((n:Int),k,x,())else(0,0,x,())
 |none=>(0,0,x,())
theorem zMk(o:Nat)(t:Str)(k:Int)(x:zaD):zLg o t k x=zOK o t k x:=by
 unfold zLg zOK okN;cases zeo o t 0 with
 |none=>rfl
 |some n=>by_cases hm:n<=9007199254740991<;>simp only[hm,yB,yA]
theorem zJM(ds:Str)(kk:Int)(x:zaD)(hdl:ds.length<=1000000000)(hz:ds=[]->kk=0):(Option.bind (
    if(decide (((ds.length:Nat):Int)>2))=true then
     Option.bind (zbv ds 0 2) λs_7=>
     Option.bind (
       if(s_7==([48,120]:Str))=true then
        some true
       else
        Option.bind (zbv ds 0 2) λs_8=>
        some (s_8==([48,88]:Str))) λb_9=>
     some b_9
    else
     some false) λb_10=>
  if b_10=true then
   Option.bind (zbv ds 2 ((ds.length:Nat):Int)) λs_11=>
   Option.bind (zbO s_11 16 53) λr_12=>
   if(!(r_12.2.1).isNil)=true then
    some (0,0,x,())
   else
    Option.bind (strings_Contains s_11 ([95]:Str)) λr_13=>
    if r_13.1=true then
     some (0,0,x,())
    else
     some ((IntKind.wrap .i64 r_12.1),kk,x,())
  else
   Option.bind (
     if(decide (((ds.length:Nat):Int)>1))=true then
      Option.bind (zbc ds 0) λc_15=>
      some (c_15==48)
     else
      some false) λb_16=>
   if b_16=true then
    some (0,0,x,())
   else
    Option.bind (zbO ds 10 53) λr_17=>
    if(!(r_17.2.1).isNil)=true then
     some (0,0,x,())
    else
     Option.bind (strings_Contains ds ([95]:Str)) λr_18=>
     if r_18.1=true then
      some (0,0,x,())
     else
      some ((IntKind.wrap .i64 r_17.1),kk,x,()))=some (match zCT ds with
     |some n=>if n<=9007199254740991 then((n:Int),kk,x,())else(0,0,x,())
     |none=>(0,0,x,())):=by
 have h10:(Option.bind (zbO ds 10 53) λr_17=>
    if(!(r_17.2.1).isNil)=true then
     some ((0:Int),(0:Int),x,())
    else
     Option.bind (strings_Contains ds ([95]:Str)) λr_18=>
     if r_18.1=true then
      some (0,0,x,())
     else
      some ((IntKind.wrap .i64 r_17.1),kk,x,()))=some (zOK 10 ds kk x):=by
   by_cases h0:ds=[]
   · rw[hz h0];subst h0;rfl
   · rw[<-zMk];exact zHg 10 (.inl rfl) ds h0 hdl kk x
 have hno:(Option.bind (
   if(decide (((ds.length:Nat):Int)>1))=true then
    Option.bind (zbc ds 0) λc_15=>
    some (c_15==48)
   else
    some false) λb_16=>
 if b_16=true then
  some (0,0,x,())
 else
  Option.bind (zbO ds 10 53) λr_17=>
  if(!(r_17.2.1).isNil)=true then
   some (0,0,x,())
  else
   Option.bind (strings_Contains ds ([95]:Str)) λr_18=>
   if r_18.1=true then
    some (0,0,x,())
   else
    some ((IntKind.wrap .i64 r_17.1),kk,x,()))=some (match(if 1<ds.length/\ds.head?=some 48 then none else zeo 10 ds 0)with
     |some n=>if n<=9007199254740991 then((n:Int),kk,x,())else(0,0,x,())
     |none=>(0,0,x,())):=by
   by_cases h1:1<ds.length
   · have d1:(((ds.length:Nat):Int)>1):=by omega
     cases hdd:ds with
     |nil=>rw[hdd]at h1;simp at h1
     |cons a r=>
       rw[hdd]at d1 h1 h10;simp only[d1,decide_true,yB,zj0,qz1,h1,true_and,List.head?_cons,Option.some.injEq]
       have eb:((((a.toNat:Nat):Int))==48)=decide (a=48):=by
         have h48:(a=48)↔a.toNat=48:=by
          constructor
          ·intro e;subst e;rfl
          ·intro e;apply UInt8.toNat_inj.mp;rw[e];rfl
         rw[zuw,decide_eq_decide,h48];omega
       rw[eb];by_cases ha:a=48
       · simp only[ha,decide_true,yB]
       · simp only[ha,decide_false,qz2,yA];exact h10
   · have d1: ¬(((ds.length:Nat):Int)>1):=by omega
     simp only[d1,h1,decide_false,qz2,yA,false_and,qz1];exact h10
 unfold zCT;by_cases h2:2<ds.length
 · have d2:(((ds.length:Nat):Int)>2):=by omega
   have hc2:zbv ds 0 2=some (ds.take 2):=by
     have:=zne ds 0 2 (by omega) (by omega);simpa using this
   have hcd:zbv ds 2 ((ds.length:Nat):Int)=some (ds.drop 2):=zgz ds 2 (by omega)
   have h16:=zHg 16 (.inr rfl) (ds.drop 2) (by
     intro e;have:=congrArg List.length e;simp only[List.length_drop,qz6]at this;omega) (by simp only[List.length_drop];omega) kk x
   rw[zMk]at h16;simp only[d2,decide_true,yB,hc2,qz1];by_cases hx:ds.take 2=[48,120]
   · have bx:(ds.take 2==([48,120]:Str))=true:=by simpa using hx
     simp only[bx,yB,hcd,qz1,h2,hx,true_and,true_or];exact h16
   · have bx:(ds.take 2==([48,120]:Str))=false:=by simpa using hx
     by_cases hX:ds.take 2=[48,88]
     · have bX:(ds.take 2==([48,88]:Str))=true:=by simpa using hX
       simp only[bx,bX,qz2,yA,yB,hcd,qz1,h2,hX,true_and,or_true];exact h16
     · have bX:(ds.take 2==([48,88]:Str))=false:=by simpa using hX
       simp only[bx,bX,qz2,yA,h2,hx,hX,or_self,and_false,qz1];exact hno
 · have d2: ¬(((ds.length:Nat):Int)>2):=by omega
   simp only[d2,h2,decide_false,qz2,yA,false_and,qz1];exact hno
theorem zE4(c:zaD)(hs:c.rest.length<=1000000000):zjy c=some (match zn4 c.rest with|some (n,k)=>((n:Int),(k:Int),c,())|none=>(0,0,c,())):=by
 obtain⟨src,s,fr⟩:=c;simp only at hs⊢;have hle:=zrQ s;unfold zjy;simp only[zf0];rw[zCQ s hs,qz1];have hlen:(s.take (zaC s)).length=zaC s:=by rw[List.length_take];omega
 have hcut:zbv s 0 ((zaC s:Nat):Int)=some (s.take (zaC s)):=by
   have:=zne s 0 (zaC s) (by omega) hle;simpa using this
 simp only[hcut,qz1];generalize hds:s.take (zaC s)=ds at hlen;have hdl:ds.length<=1000000000:=by omega
 have rest:=zJM ds ((zaC s:Nat):Int) ⟨src,s,fr⟩ hdl (λh=>by rw[h]at hlen;simp at hlen;omega)
 unfold zn4;rw[hds];by_cases hlt:zaC s<s.length
 · have d:(((zaC s:Nat):Int)< ((s.length:Nat):Int)):=by omega
   have hx:s[zaC s]? =some s[zaC s]:=qz9 hlt;have hg:zbc s ((zaC s:Nat):Int)=some ((s[zaC s].toNat:Nat):Int):=zhw s _ _ hx;simp only[d,decide_true,yB,hg,qz1];rw[hx]
   have eb:((((s[zaC s].toNat:Nat):Int))==46)=decide (s[zaC s]=46):=by
     have h46:(s[zaC s]=46)↔s[zaC s].toNat=46:=by
       constructor
       · intro e;rw[e];rfl
       · intro e;apply UInt8.toNat_inj.mp;rw[e];rfl
     rw[zuw,decide_eq_decide,h46];omega
   rw[eb];by_cases h46:s[zaC s]=46
   · simp only[h46,decide_true,yB]
   · have hne: ¬(some s[zaC s]=some (46:UInt8)):=by simpa using h46
     simp only[h46,decide_false,hne,qz2,yA];rw[rest];cases zCT ds with
     |none=>rfl
     |some n=>by_cases hm:n<=9007199254740991<;>simp only[hm,yB,yA]
 · have d: ¬(((zaC s:Nat):Int)< ((s.length:Nat):Int)):=by omega
   have hx:s[zaC s]? =none:=List.getElem?_eq_none (by omega);simp only[d,decide_false,qz2,yA,qz1];rw[hx,rest];simp only[reduceCtorEq,yA];cases zCT ds with
   |none=>rfl
   |some n=>by_cases hm:n<=9007199254740991<;>simp only[hm,yB,yA]
theorem zeG(c:UInt8)(n:Nat)(h:n<256):((((c.toNat:Nat):Int))==((n:Nat):Int))=decide (c=UInt8.ofNat n):=by
 have e:(c=UInt8.ofNat n)↔c.toNat=n:=zpi c n h;rw[zuw,decide_eq_decide,e];omega
theorem zzt(ws:List Str)(list s:Str)(hl:list=joined ws)(hw: ∀w∈ws,(32:UInt8)∉w)(hn:([]:Str)∉ws):zj7 list s=ws.contains s:=by
 subst hl;unfold zj7;cases hc:s.contains 32 with
 |true=>
  have:ws.contains s=false:=by
   rw[<-Bool.not_eq_true];intro h;have hm:=hw s (by simpa using h);exact hm (by simpa using hc)
  rw[this];simp
 |false=>
  rw[zm1 s (by simpa using hc) ws hw];cases s with
  |nil=>
   have:ws.contains ([]:Str)=false:=by rw[<-Bool.not_eq_true];intro h;exact hn (by simpa using h)
   rw[this];rfl
  |cons a r=>rfl
theorem zGG(s:Str):zK7 s=zpt s:=zzt zhn _ s (by decide+kernel) (by decide+kernel) (by decide+kernel)
theorem zLo(x:Str)(h:x.length<=1000000000):zi1 ([32,61,61,61,32,33,61,61,32]:Str) x=some (zoC.contains x,()):=by
 rw[zrP _ _ (by decide) h,zzt zoC _ x (by decide+kernel) (by decide+kernel) (by decide+kernel)]
theorem zLt(x:Str)(h:x.length<=1000000000):zi1 ([32,60,61,32,62,61,32,61,61,32,33,61,32,43,43,32,45,45,32,38,38,32,124,124,32,43,61,32,45,61,32,42,61,32,47,61,32,37,61,32]:Str) x=some (zp9.contains x,()):=by
 rw[zrP _ _ (by decide) h,zzt zp9 _ x (by decide+kernel) (by decide+kernel) (by decide+kernel)]
def zHK(r:Option (zl×Int×zaD×Unit))(c:zaD)(o:Option (Tok×Nat)):Prop:=match o with
 |some (t,n)=>r=some (t,(n:Int),c,())
 |none=>∃t,r=some (t,0,c,())
theorem zHS(c:zaD)(h0:c.rest≠[])(hs:c.rest.length<=100000000):zHK (zhJ c) c (zoZ c.rest):=by
 obtain⟨src,s,fr⟩:=c;simp only at h0 hs⊢;cases s with
 |nil=>exact absurd rfl h0
 |cons b r=>
  have hrow:=zCQ (b::r) (by omega);have hle:=zrQ (b::r)
  have hcut: ∀k:Nat,k<=(b::r).length->zbv (b::r) 0 (k:Int)=some ((b::r).take k):=by
   intro k hk;have:=zne (b::r) 0 k (by omega) hk;simpa using this
  unfold zhJ zoZ;simp only[zj0,qz1,zp7,zr1,zf0];by_cases hl:isLet b=true
  ·simp only[hl,yB,hrow,qz1];by_cases h32:32<zaC (b::r)
   ·have d:(((zaC (b::r):Nat):Int)>32):=by omega
    simp only[d,h32,decide_true,yB];exact⟨_,rfl⟩
   ·have d: ¬(((zaC (b::r):Nat):Int)>32):=by omega
    simp only[d,h32,decide_false,qz2,yA,hcut _ hle,qz1];rw[zFy _ (by simp only[List.length_take];omega),qz1,zGG]
    cases zpt ((b::r).take (zaC (b::r)))with
    |true=>simp only[yB];rfl
    |false=>simp only[qz2,yA];rfl
  ·have hl':isLet b=false:=by simpa using hl
   simp only[hl',qz2,yA];by_cases hd:zkG b=true
   ·have hn:=zE4 ⟨src,b::r,fr⟩ (by simp only;omega)
    simp only at hn;simp only[hd,yB,hn,qz1];cases zn4 (b::r)with
    |none=>exact⟨_,rfl⟩
    |some p=>rfl
   ·have hd':zkG b=false:=by simpa using hd
    simp only[hd',qz2,yA];have b39:((((b.toNat:Nat):Int))==39)=decide (b=39):=zeG b 39 (by omega);have b34:((((b.toNat:Nat):Int))==34)=decide (b=34):=zeG b 34 (by omega);rw[b39,b34];by_cases hq:b=39\/b=34
    ·have dq:(decide (b=39)||decide (b=34))=true:=by simpa using hq
     simp only[dq,yB,hq,zHv (b::r) hs,qz1];generalize hx:zfB (b::r)=q;obtain⟨u,n,e⟩:=q;have hb:=zCt hx;simp only;by_cases hn:n=0
     ·simp only[hn,yB];exact⟨_,rfl⟩
     ·simp only[hn,yA];have:((n.toNat:Nat):Int)=n:=by omega
      unfold zHK;simp only[this]
    ·have dq:(decide (b=39)||decide (b=34))=false:=by simpa using hq
     simp only[dq,qz2,yA,hq]
     have hlast: ¬(2< (b::r).length/\zoC.contains ((b::r).take 3)=true)->¬(1< (b::r).length/\zp9.contains ((b::r).take 2)=true)->
       zHK (zho 0 (b::r) ((b.toNat:Nat):Int) ⟨src,b::r,fr⟩ ⟨0,[],0,0,false⟩) ⟨src,b::r,fr⟩ (if zdV (b::r)=0 then none else some (({Kind:=5,Text:=(b::r).take (zdV (b::r)),Num:=0,At:=0,Fresh:=false}:Tok),zdV (b::r))):=by
      intro n3 n2;unfold zho strings_IndexByte zhs;simp only[zfT,Option.map_some,qz1,zf0,zoS];have e1:(((b.toNat:Nat):Int)).toNat.toUInt8=b:=by simp
      have e2:=Lib.contains_iff_indexByte ([123,125,40,41,91,93,46,59,44,60,62,43,45,42,47,37,33,63,58,61]:Str) b
      have e3:zdV (b::r)=if zr9.contains b=true then 1 else 0:=by
       unfold zdV;rw[yK n3,yK n2];rfl
      rw[e1,e3];have e4:decide (Lib.indexByte ([123,125,40,41,91,93,46,59,44,60,62,43,45,42,47,37,33,63,58,61]:Str) b>=0)=zr9.contains b:=e2.symm;rw[e4];cases zr9.contains b with
      |true=>
       simp only[yB];have:=hcut 1 (by simp);rw[show zbv (b::r) 0 1=_ from this];rfl
      |false=>
       simp only[qz2,yA];exact⟨_,rfl⟩
     have hmid: ¬(2< (b::r).length/\zoC.contains ((b::r).take 3)=true)->
       zHK (zhr 0 (b::r) ((b.toNat:Nat):Int) ⟨src,b::r,fr⟩ ⟨0,[],0,0,false⟩) ⟨src,b::r,fr⟩ (if zdV (b::r)=0 then none else some (({Kind:=5,Text:=(b::r).take (zdV (b::r)),Num:=0,At:=0,Fresh:=false}:Tok),zdV (b::r))):=by
      intro n3;unfold zhr;simp only[zf0,zoS];by_cases h1:1< (b::r).length
      ·have d1:((((b::r).length:Nat):Int)>1):=by omega
       have hc2':zbv (b::r) 0 2=some ((b::r).take 2):=hcut 2 (by omega);simp only[d1,decide_true,yB,hc2',qz1,zLt _ (show((b::r).take 2).length<=1000000000 by simp only[List.length_take];omega)]
       cases hb:zp9.contains ((b::r).take 2)with
       |true=>
        have e3:zdV (b::r)=2:=by
         unfold zdV;rw[yK n3,yL ⟨h1,hb⟩]
        rw[e3];simp only[yB];rfl
       |false=>exact hlast n3 (by rw[hb];simp)
      ·have d1: ¬((((b::r).length:Nat):Int)>1):=by omega
       simp only[d1,decide_false,qz2,yA];exact hlast n3 (by simp only[h1,false_and,not_false_eq_true])
     by_cases h2:2< (b::r).length
     ·have d2:((((b::r).length:Nat):Int)>2):=by omega
      have hc3':zbv (b::r) 0 3=some ((b::r).take 3):=hcut 3 (by omega);simp only[d2,decide_true,yB,hc3',qz1,zLo _ (show((b::r).take 3).length<=1000000000 by simp only[List.length_take];omega)]
      cases hb:zoC.contains ((b::r).take 3)with
      |true=>
       have e3:zdV (b::r)=3:=by
        unfold zdV;rw[yL ⟨h2,hb⟩]
       rw[e3];simp only[yB];rfl
      |false=>exact hmid (by rw[hb];simp)
     ·have d2: ¬((((b::r).length:Nat):Int)>2):=by omega
      simp only[d2,decide_false,qz2,yA];exact hmid (by simp only[h2,false_and,not_false_eq_true])
theorem zsb(len:Nat)(p:Tok×Nat)(l:List (Tok×Nat)):zmh len (p::l)=p.1.at_ ((len -p.2:Nat):Int)::zmh len l:=rfl
theorem zEc{a b:Nat}(h:b<=a)(ha:a<=1000000000000):IntKind.wrap .i64 ((a:Int) - (b:Int))=((a -b:Nat):Int):=by rw[wrap_i64 (by omega) (by omega)];omega
theorem zQ7(l:List zl):zsa l=some (l,()):=by
 unfold zsa
 have:zIo l 0 ((l.length:Nat):Int) ((l.length:Nat):Int)=some l:=by
  unfold zIo;simp
 rw[this];rfl
theorem zI5(src:Str)(hs:src.length<=100000000): ∀(m:Nat) (s:Str) (f0:Bool) (out:List Tok),s.length<m->s.length<=src.length->out.length+s.length<=src.length->
  match znz m s false with
   | .inl l=>zaH zkQ m (src,⟨src,s,f0⟩,out,())=some (out++zmh src.length l,0,0,())
   | .inr k=>k<=src.length/\zaH zkQ m (src,⟨src,s,f0⟩,out,())=some ([],((src.length -k:Nat):Int),60,())
 |0,s,f0,out,h,_,_=>by omega
 |m+1,s,f0,out,hm,hsl,hout=>by
  have hb:=zFg ⟨src,s,f0⟩ (by simp only;omega)
  simp only at hb;have hl:=zi2 (s.length+1) s false;rw[znz];generalize hq:zew (s.length+1) s false=q at hb hl;obtain⟨r,f,ok⟩:=q;simp only at hb hl⊢;have w:IntKind.wrap .i64 (((src.length:Nat):Int) - ((r.length:Nat):Int))=((src.length -r.length:Nat):Int):=zEc (by omega) (by omega)
  have hstep:zkQ (src,⟨src,s,f0⟩,out,())=(if ok=true then
    if(r==([]:Str))=true then
     some (.inr (out++[({Kind:=0,Text:=([]:Str),Num:=0,At:=((src.length -r.length:Nat):Int),Fresh:=f}:zl)],0,0,()))
    else Option.bind (zhJ ⟨src,r,f⟩) λr_12=>
     if(r_12.2.1==0)=true then
      some (Sum.inr (([]:List zl),IntKind.wrap .i64 (((src.length:Nat):Int) - ((r_12.2.2.1.rest.length:Nat):Int)),60,()))
     else
      Option.bind (zbv r_12.2.2.1.rest r_12.2.1 ((r_12.2.2.1.rest.length:Nat):Int)) λs_17=>
      some (Sum.inl (src,(⟨r_12.2.2.1.src,s_17,r_12.2.2.1.fresh⟩:zaD),out++[(⟨r_12.1.Kind,r_12.1.Text,r_12.1.Num,((src.length -r.length:Nat):Int),r_12.2.2.1.fresh⟩:zl)],()))
   else some (.inr ([],((src.length -r.length:Nat):Int),60,()))):=by
   simp only[zkQ,zf0,hb,qz1,w,zQ7];rw[zcQ (by simp only[qz3,qz6];omega)]
   simp only[qz1];cases ok with
   |false=>rfl
   |true=>
    simp only[yB];cases(r==([]:Str))with
    |true=>rfl
    |false=>
     simp only[qz2,yA];congr 1;funext r_12;rw[zcQ (by simp only[qz3,qz6];omega)]
     rfl
  cases ok with
  |false=>
   simp only[qz2,yA]at hstep;simp only[yB];exact⟨by omega,zaG hstep⟩
  |true=>
   simp only[yB]at hstep;simp only[Bool.true_eq_false,yA];by_cases hr:r=[]
   ·subst hr;simp only[beq_self_eq_true,yB]at hstep;simp only[yB];exact zaG hstep
   ·have br:(r==([]:Str))=false:=by simpa using hr
    simp only[br,qz2,yA]at hstep;simp only[hr,yA];have h1:=zHS ⟨src,r,f⟩ hr (by simp only;omega)
    simp only at h1;cases ho:zoZ r with
    |none=>
     rw[ho]at h1;obtain⟨t,e1⟩:=h1;rw[e1]at hstep;simp only[qz1,beq_self_eq_true,yB,w]at hstep;exact⟨by omega,zaG hstep⟩
    |some p=>
     obtain⟨t,n⟩:=p;rw[ho]at h1;have e1:zhJ ⟨src,r,f⟩=some (t,(n:Int),⟨src,r,f⟩,()):=h1;rw[e1]at hstep;have hn:=zzX ho;have c0:((n:Int)==0)=false:=by rw[yH];omega
     have hcut:zbv r (n:Int) ((r.length:Nat):Int)=some (r.drop n):=zgz r n hn.2.1;simp only[qz1,c0,qz2,yA,hcut]at hstep;have htok:(⟨t.Kind,t.Text,t.Num,((src.length -r.length:Nat):Int),f⟩:Tok)=(t.fresh f).at_ ((src.length -r.length:Nat):Int):=rfl;rw[htok]at hstep;have hdl:(r.drop n).length=r.length -n:=List.length_drop;have g:=zI5 src hs m (r.drop n) f (out++[(t.fresh f).at_ ((src.length -r.length:Nat):Int)]) (by omega) (by omega) (by simp only[qz5,qz3,qz6];omega)
     dsimp only;cases hc:znz m (r.drop n) false with
     |inl l=>
       rw[hc]at g;simp only at g⊢;refine(zca hstep).trans (g.trans ?_);rw[zsb];simp
     |inr k=>
       rw[hc]at g;exact⟨g.1,(zca hstep).trans g.2⟩
theorem zCq(src:Str)(hs:src.length<=100000000):zwr src=some ((zel src).1,(zel src).2.1,(zel src).2.2,()):=by
 unfold zwr zel;by_cases h:4096<src.length
 ·have d:(((src.length:Nat):Int)>4096):=by omega
  simp only[d,h,decide_true,yB]
 ·have d: ¬(((src.length:Nat):Int)>4096):=by omega
  simp only[d,h,decide_false,qz2,yA];have g:=zI5 src hs (src.length+1) src false [] (by omega) (by omega) (by simp);cases hc:znz (src.length+1) src false with
  |inl l=>
   rw[hc]at g;exact(zck g (by omega)).trans rfl
  |inr k=>
   rw[hc]at g;exact(zck g.2 (by omega)).trans rfl
end Go.D08.U
namespace Go.D08
open Go Go.Gw Go.Dn
def i64(n:Int):Prop:= -9223372036854775808<=n/\n<9223372036854775808
mutual
def okN:Node->Prop
 | ⟨k,_,m,_,_,l⟩=>i64 k/\i64 m/\okL l
def okL:List Node->Prop
 | []=>True
 |x::r=>okN x/\okL r
end
mutual
def zbC:Node->Nat
 | ⟨_,n,_,t,ns,l⟩=>n.length+t.length+(ns.map λs=>s.length+1).sum+zcZ l+7
def zcZ:List Node->Nat
 | []=>0
 |x::r=>zbC x+zcZ r
end
mutual
theorem zwi: ∀x:Node,zjw x<=zbC x
 | ⟨_,_,_,_,_,l⟩=>by simp only[zjw,zbC];have:=zFA l;omega
theorem zFA: ∀l:List Node,zoE l<=zcZ l
 | []=>by simp[zoE]
 |x::r=>by simp only[zoE,zcZ];have:=zwi x;have:=zFA r;omega
end
theorem zIg: ∀l:List Str,l.length<=(l.map λs=>s.length+1).sum
 | []=>by simp
 |x::r=>by simp only[qz3,List.map_cons,List.sum_cons];have:=zIg r;omega
mutual
theorem zAP: ∀x:Node,ztq x<=zbC x
 | ⟨_,_,_,_,ns,l⟩=>by simp only[ztq,zbC];have:=zDM l;have:=zIg ns;omega
theorem zDM: ∀l:List Node,zs9 l<=zcZ l
 | []=>by simp[zs9]
 |x::r=>by simp only[zs9,zcZ];have:=zAP x;have:=zDM r;omega
end
end Go.D08
namespace Go.D08
open Go Go.Gw Go.Dn
set_option maxRecDepth 100000
def zw6(l:Str):Str:=l.takeWhile (· !=42)
def zLw(l:Str):Str:=(l.dropWhile (· !=42)).drop 1
abbrev Form:=zey
theorem zTX{i:Int}(h0:0<=i)(h1:i<=1):zbv ([101]:Str) 0 i=some (if i=1 then[101]else[]):=by
 rcases(show i=0\/i=1 by omega)with rfl|rfl<;>rfl
theorem zQA{i:Int}(h0:2<=i)(h1:i<=3):zbv ([101,98,98]:Str) 0 i=some (if i=3 then[101,98,98]else[101,98]):=by
 rcases(show i=2\/i=3 by omega)with rfl|rfl<;>rfl
theorem zPj(n:Nat):0<=(if 1< ((n:Nat):Int)then(1:Int)else(n:Int))/\(if 1< ((n:Nat):Int)then(1:Int)else(n:Int))<=1:=by split<;>omega
theorem zPm(n:Nat):2<=(let a:=(if 2>((n:Nat):Int)then(2:Int)else(n:Int));if 3<a then 3 else a)/\(let a:=(if 2>((n:Nat):Int)then(2:Int)else(n:Int));if 3<a then 3 else a)<=3:=by
 simp only;split<;>split<;>omega
def za6(n:Node):Option Form:=match zbN n with
 |some (f,true,())=>some f
 |_=>none
def zcr(n:Node)(w:Str):Bool:=
 if(w==([]:Str))=true then n.Name==([]:Str)
 else if(w==([110]:Str))=true then zd7 n.Name
 else if(w==([109]:Str))=true then n.Name==([]:Str)||zd7 n.Name
 else if(w==([105]:Str))=true then zqy n.Name
 else if(w==([99]:Str))=true then(if(match n.L[1]? with|some x=>x.Kind==25|none=>false)=true then zd7 n.Name else n.Name==([]:Str))
 else zj7 w n.Name
def zug(k:Int):Bool:=decide (k>=1)&&(decide (k<=21)&&k !=9)
def zf1(k:Int):Bool:=(k==3||k==11)||k==12
def stK(k:Int)(fn:Bool):Bool:=(((decide (k>=22))&&(decide (k<=40)))&&(k !=23)&&(k !=37))&&((k !=39)||fn)
def isP(x:Node)(c:Int):Bool:=
 if(c==101)=true then zug x.Kind
 else if(c==116)=true then zf1 x.Kind
 else if(c==102)=true then zug x.Kind||x.Kind==42
 else if(c==98)=true then x.Kind==25
 else if(c==99)=true then x.Kind==25||x.Kind==42
 else if(c==112)=true then x.Kind==9
 else if(c==100)=true then x.Kind==23
 else if(c==118)=true then(zug x.Kind||x.Kind==42)||x.Kind==22
 else if(c==119)=true then zf1 x.Kind||(x.Kind==22&&(match x.L with| [y]=>y.L.isEmpty|_=>false))
 else if(c==107)=true then x.Kind==37
 else if(c==115)=true then stK x.Kind false
 else if(c==120)=true then stK x.Kind true
 else false
def znk(x k:Node):Bool:=(x.Kind==35&&k.Kind==42)||((x.Kind==36&&k.Kind==37)&&(match k.L with|y::_=>y.Kind==42| []=>false))
def zqh(x:Node)(ls:Str):List (Node×Bool)->Nat->Nat->Bool
 | [],_,e=>decide (e<2)
 | (k,b)::r,i,e=>match ls[min i (ls.length -1)]? with
   |none=>false
   |some c=>(isP k ((c.toNat:Nat):Int)&&b)&&zqh x ls r (i+1) (if znk x k=true then e+1 else e)
def zFp(x:Node)(f:Form):Bool:=(zcr x f.name&&(decide (0<=x.Num)&&decide (x.Num<=f.num)))&&(((zcj x.Text&&(x.Text==([]:Str)||f.text))&&(x.Names.isEmpty||f.names))&&x.Names.all zd7)
def zuf(x:Node)(l:Str):Bool:=decide ((zw6 l).length<=x.L.length)&&(l.contains 42||decide (x.L.length<=(zw6 l).length))
def zI3(x:Node)(ks:List (Node×Bool)):Bool:=match za6 x with
 |none=>false
 |some f=>(zFp x f&&zuf x f.l)&&zqh x (zw6 f.l++zLw f.l) ks 0 0
mutual
def zdm:Node->Bool
 | ⟨k,n,m,t,ns,l⟩=>zI3 ⟨k,n,m,t,ns,l⟩ (ztu l)
def ztu:List Node->List (Node×Bool)
 | []=>[]
 |x::r=>(x,zdm x)::ztu r
end
theorem zF2(x:Node):zdm x=zI3 x (ztu x.L):=by cases x;simp[zdm]
end Go.D08
namespace Go.D08
open Go Go.Gw Go.Dn
noncomputable section
def zMz(s:Str):Str:=match zxQ s with
 |some (q,_,_)=>q
 |none=>[]
end
end Go.D08
namespace Go.D08
open Go Go.Gw Go.Dn
set_option maxRecDepth 100000
structure Tok where
 kind:Nat
 text:Str
 num:Int
 fresh:Bool
abbrev zal:=List Tok
def opK(t:Tok):Bool:=t.kind==5||t.kind==2
def tIs(s:Str):zal->Bool
 |t::_=>opK t&&(t.text==s)
 | []=>false
def zc3(l:List Str):zal->Bool
 |t::_=>opK t&&l.contains t.text
 | []=>false
def tText:zal->Str
 |t::_=>t.text
 | []=>[]
def zak:zal->Nat
 |t::_=>t.kind
 | []=>0
def zgm:zal->Bool
 |t::_=>t.fresh
 | []=>false
def zxa:List Str:=[[45],[43],[33],[116,121,112,101,111,102],[100,101,108,101,116,101],[118,111,105,100]]
def zkr:List Str:=[[43,43],[45,45]]
def zGu:List Str:=[[61],[43,61],[45,61],[42,61],[47,61],[37,61]]
def eqL:List Str:=[[61,61],[33,61],[61,61,61],[33,61,61]]
def ltL:List Str:=[[60],[62],[60,61],[62,61],[105,110,115,116,97,110,99,101,111,102]]
def zrK:List Str:=[[43],[45]]
def mulL:List Str:=[[42],[47],[37]]
def lvS(no:Bool)(s:Str):Int×Int:=
 if(s==([124,124]:Str))=true then(3,18)
 else if(s==([38,38]:Str))=true then(4,18)
 else if eqL.contains s=true then(5,17)
 else if(ltL.contains s||(!no&&s==([105,110]:Str)))=true then(6,17)
 else if zrK.contains s=true then(7,17)
 else if mulL.contains s=true then(8,17)
 else(0,0)
def zdB(no:Bool):zal->Int×Int
 |t::_=>if opK t=true then lvS no t.text else(0,0)
 | []=>(0,0)
abbrev PR(α:Type):=Option (Nat⊕(α×zal))
abbrev gt{α:Type}(q:α×zal):PR α:=some (.inr q)
abbrev bad{α:Type}(t:zal):PR α:=some (.inl t.length)
def PR.bd{α β:Type}(x:PR α)(f:α×zal->PR β):PR β:=match x with|none=>none|some (.inl k)=>some (.inl k)|some (.inr p)=>f p
def PR.bn{β:Type}(x:PR Unit)(f:zal->PR β):PR β:=x.bd λq=>f q.2
theorem zun{α β:Type}(q:α×zal)(f:α×zal->PR β):PR.bd (some (.inr q)) f=f q:=rfl
theorem zL4{α β:Type}(k:Nat)(f:α×zal->PR β):PR.bd (some (.inl k)) f=some (.inl k):=rfl
def zbi(s:Str)(t:zal):PR Unit:=if tIs s t=true then gt ((),t.tail)else bad t
structure PG where
 expr:Bool->zal->PR Node
 comma:Bool->Node->zal->PR Node
 assign:Bool->zal->PR Node
 binary:Bool->Int->zal->PR Node
 bins:Bool->Int->Node->zal->PR Node
 unary:zal->PR Node
 mems:Bool->Node->zal->PR Node
 made:zal->PR Node
 prim:zal->PR Node
 exprs:Str->Bool->zal->PR (List Node)
 props:zal->PR (List Node)
 func:Int->zal->PR Node
 vars:Bool->zal->PR (List Node)
 block:zal->PR Node
 head:zal->PR Node
 till:Str->zal->PR Node
 loop:zal->PR Node
 cases:Bool->zal->PR (List Node)
 body:zal->PR (List Node)
 stmt:zal->PR Node
 stmts:Bool->zal->PR (List Node)
def nd(k:Int)(l:List Node):Node:=⟨k,[],0,[],[],l⟩
def ndN(k:Int)(s:Str)(l:List Node):Node:=⟨k,s,0,[],[],l⟩
section
variable (g:PG)
def zt1(no:Bool)(t:zal):PR Node:=(g.assign no t).bd λq=>g.comma no q.1 q.2
def zqH(no:Bool)(x:Node)(t:zal):PR Node:=
 if tIs [44] t=true then(g.assign no t.tail).bd λq=>g.comma no (nd 21 [x,q.1]) q.2 else gt (x,t)
def znM(no:Bool)(t:zal):PR Node:=(g.binary no 3 t).bd λq=>
 if tIs [63] q.2=true then(g.assign false q.2.tail).bd λy=>(zbi [58] y.2).bn λt=>(g.assign no t).bd λz=>gt (nd 19 [q.1,y.1,z.1],z.2)
 else if zc3 zGu q.2=true then(if zf1 q.1.Kind=true then(g.assign no q.2.tail).bd λy=>gt (ndN 20 (tText q.2) [q.1,y.1],y.2)else bad q.2)
 else gt q
def zik(no:Bool)(least:Int)(t:zal):PR Node:=(g.unary t).bd λq=>g.bins no least q.1 q.2
def zkK(no:Bool)(least:Int)(x:Node)(t:zal):PR Node:=
 if(decide ((zdB no t).1<least)||(zdB no t).1==0)=true then gt (x,t)
 else(g.binary no ((zdB no t).1+1) t.tail).bd λy=>g.bins no least (ndN (zdB no t).2 (tText t) [x,y.1]) y.2
def zqa(t:zal):PR Node:=
 if zc3 zxa t=true then(g.unary t.tail).bd λy=>gt (ndN 15 (tText t) [y.1],y.2)
 else if zc3 zkr t=true then(g.unary t.tail).bd λy=>if zf1 y.1.Kind=true then gt (⟨16,tText t,1,[],[],[y.1]⟩,y.2)else bad y.2
 else(g.made t).bd λq=>(g.mems true q.1 q.2).bd λq=>
  if(!zc3 zkr q.2||zgm q.2)=true then gt q else if zf1 q.1.Kind=true then gt (ndN 16 (tText q.2) [q.1],q.2.tail)else bad q.2
def znR(calls:Bool)(x:Node)(t:zal):PR Node:=
 if tIs [46] t=true then(if(zak t.tail==1||zak t.tail==2)=true then g.mems calls (ndN 11 (tText t.tail) [x]) t.tail.tail else bad t.tail)
 else if tIs [91] t=true then(g.expr false t.tail).bd λk=>(zbi [93] k.2).bn λt=>g.mems calls (nd 12 [x,k.1]) t
 else if(calls&&tIs [40] t)=true then(g.exprs [41] false t.tail).bd λl=>g.mems calls (nd 13 (x::l.1)) l.2
 else gt (x,t)
def zmN(t:zal):PR Node:=
 if tIs [110,101,119] t=true then(g.made t.tail).bd λq=>(g.mems false q.1 q.2).bd λq=>
  if tIs [40] q.2=true then(g.exprs [41] false q.2.tail).bd λl=>gt (nd 14 (q.1::l.1),l.2)else gt (nd 14 [q.1],q.2)
 else g.prim t
def znQ(t:zal):PR Node:=
 if(zak t==1)=true then gt (ndN 3 (tText t) [],t.tail)
 else if(zak t==3)=true then(match t with|a::r=>gt (⟨1,[],a.num,[],[],[]⟩,r)| []=>none)
 else if(zak t==4)=true then gt (⟨2,[],0,tText t,[],[]⟩,t.tail)
 else if tIs [116,104,105,115] t=true then gt (nd 4 [],t.tail)
 else if tIs [110,117,108,108] t=true then gt (nd 5 [],t.tail)
 else if tIs [102,97,108,115,101] t=true then gt (nd 6 [],t.tail)
 else if tIs [116,114,117,101] t=true then gt (⟨6,[],1,[],[],[]⟩,t.tail)
 else if tIs [102,117,110,99,116,105,111,110] t=true then g.func 10 t.tail
 else if tIs [40] t=true then(g.expr false t.tail).bd λk=>(zbi [41] k.2).bn λt=>gt (k.1,t)
 else if tIs [91] t=true then(g.exprs [93] true t.tail).bd λl=>gt (nd 7 l.1,l.2)
 else if tIs [123] t=true then(g.props t.tail).bd λl=>gt (nd 8 l.1,l.2)
 else bad t
def zkT(shut:Str)(last:Bool)(t:zal):PR (List Node):=
 if tIs shut t=true then gt ([],t.tail)
 else(g.assign false t).bd λx=>
  if tIs shut x.2=true then gt ([x.1],x.2.tail)
  else(zbi [44] x.2).bn λt=>if(!last&&tIs shut t)=true then bad t else(g.exprs shut last t).bd λl=>gt (x.1::l.1,l.2)
def wide(s:Str):Str:=s.flatMap λb=>[0,b]
def zEn:zal->PR Str
 |a::r=>if(a.kind==4)=true then gt (a.text,r)else if(a.kind==3)=true then gt (wide (Lib.itoa a.num),r)else if(a.kind==1||a.kind==2)=true then gt (wide a.text,r)else bad (a::r)
 | []=>none
def zl7(t:zal):PR (List Node):=
 if tIs [125] t=true then gt ([],t.tail)
 else(zEn t).bd λk=>(zbi [58] k.2).bn λt1=>(g.assign false t1).bd λx=>
  if tIs [125] x.2=true then gt ([⟨9,[],0,k.1,[],[x.1]⟩],x.2.tail)
  else(zbi [44] x.2).bn λt2=>(g.props t2).bd λl=>gt (⟨9,[],0,k.1,[],[x.1]⟩::l.1,l.2)
def zi8:zal->PR (List Str)
 |a::b::r=>if(a.kind==1)=true then(if tIs [41] (b::r)=true then gt ([a.text],r)else if tIs [44] (b::r)=true then(if tIs [41] r=true then bad r else(zi8 r).bd λl=>gt (a.text::l.1,l.2))else bad (b::r))else bad (a::b::r)
 | [a]=>bad [a]
 | []=>none
def zgl(t:zal):PR (List Str):=if tIs [41] t=true then gt ([],t.tail)else zi8 t
def zr7(kind:Int)(t:zal):PR Node:=
 (if(zak t==1)=true then gt (tText t,t.tail)else if(kind==39)=true then bad t else gt ([],t)).bd λm=>(zbi [40] m.2).bn λt=>(zgl t).bd λns=>(zbi [123] ns.2).bn λt=>(g.stmts true t).bd λl=>(zbi [125] l.2).bn λt=>gt (⟨kind,m.1,0,[],ns.1,l.1⟩,t)
def zqA(no:Bool)(t:zal):PR (List Node):=
 if(zak t==1)=true then
  (if tIs [61] t.tail=true then(g.assign no t.tail.tail).bd λy=>gt ([y.1],y.2)else gt ([],t.tail)).bd λd=>
   if tIs [44] d.2=true then(g.vars no d.2.tail).bd λl=>gt (ndN 23 (tText t) d.1::l.1,l.2)else gt ([ndN 23 (tText t) d.1],d.2)
 else bad t
def znq(t:zal):PR Node:=(zbi [123] t).bn λt=>(g.stmts false t).bd λl=>(zbi [125] l.2).bn λt=>gt (nd 25 l.1,t)
def zuj(t:zal):PR Node:=(zbi [40] t).bn λt=>(g.expr false t).bd λx=>(zbi [41] x.2).bn λt=>gt (x.1,t)
def zp1(s:Str)(t:zal):PR Node:=if tIs s t=true then gt (nd 42 [],t.tail)else(g.expr false t).bd λx=>(zbi s x.2).bn λt=>gt (x.1,t)
def zj2(t:zal):Bool:=tIs [125] t||zak t==0||zgm t
def zjl(t:zal):PR Unit:=if tIs [59] t=true then gt ((),t.tail)else if zj2 t=true then gt ((),t)else bad t
def zeN(x:Node):Node:=if(x.Kind==25)=true then x else nd 25 [x]
def ztR(x:Node):Bool:=if(x.Kind==22)=true then(match x.L with| [d]=>d.L.isEmpty|_=>false)else zf1 x.Kind
def zuW(t:zal):PR Node:=
 if tIs [118,97,114] t=true then(g.vars true t.tail).bd λl=>gt (nd 22 l.1,l.2)
 else if tIs [59] t=true then gt (nd 42 [],t)else g.expr true t
def zuh(t:zal):PR Node:=(zbi [40] t).bn λt=>(zuW g t).bd λq=>
 if(ztR q.1&&tIs [105,110] q.2)=true then(g.expr false q.2.tail).bd λx=>(zbi [41] x.2).bn λt=>(g.stmt t).bd λb=>gt (nd 30 [q.1,x.1,zeN b.1],b.2)
 else(zbi [59] q.2).bn λt=>(g.till [59] t).bd λx=>(g.till [41] x.2).bd λy=>(g.stmt y.2).bd λb=>gt (nd 29 [q.1,x.1,y.1,zeN b.1],b.2)
def zyI(t:zal):PR (Str×Node):=
 if tIs [99,97,116,99,104] t=true then(zbi [40] t.tail).bn λt=>if(zak t==1)=true then(zbi [41] t.tail).bn λt1=>(g.block t1).bd λb=>gt ((tText t,b.1),b.2)else bad t
 else gt (([],nd 42 []),t)
def zpZ(t:zal):PR Node:=if tIs [102,105,110,97,108,108,121] t=true then g.block t.tail else gt (nd 42 [],t)
def zwQ(t:zal):PR Node:=(g.block t).bd λb=>(zyI g b.2).bd λc=>(zpZ g c.2).bd λf=>
 if(f.1.Kind==42&&c.1.2.Kind==42)=true then bad f.2 else gt (ndN 35 c.1.1 [b.1,c.1.2,f.1],f.2)
def zm9(others:Bool)(t:zal):PR (List Node):=
 if tIs [125] t=true then gt ([],t.tail)
 else if(others&&tIs [100,101,102,97,117,108,116] t)=true then(zbi [58] t.tail).bn λt=>(g.body t).bd λl=>(g.cases false l.2).bd λr=>gt (nd 37 (nd 42 []::l.1)::r.1,r.2)
 else(zbi [99,97,115,101] t).bn λt=>(g.expr false t).bd λx=>(zbi [58] x.2).bn λt=>(g.body t).bd λl=>(g.cases others l.2).bd λr=>gt (nd 37 (x.1::l.1)::r.1,r.2)
def ztU(t:zal):PR (List Node):=
 if(zc3 [[99,97,115,101],[100,101,102,97,117,108,116],[125]] t||zak t==0)=true then gt ([],t)else(g.stmt t).bd λx=>(g.body x.2).bd λl=>gt (x.1::l.1,l.2)
def zse(k:Int)(t:zal):PR Node:=
 if(zak t==1&& !zgm t)=true then(zjl t.tail).bn λt1=>gt (ndN k (tText t) [],t1)else(zjl t).bn λt=>gt (nd k [],t)
def zsd(t:zal):PR Node:=
 if tIs [123] t=true then g.block t
 else if tIs [59] t=true then gt (nd 40 [],t.tail)
 else if tIs [118,97,114] t=true then(g.vars false t.tail).bd λl=>(zjl l.2).bn λt=>gt (nd 22 l.1,t)
 else if tIs [105,102] t=true then(g.head t.tail).bd λx=>(g.stmt x.2).bd λb=>if tIs [101,108,115,101] b.2=true then(g.stmt b.2.tail).bd λc=>gt (nd 26 [x.1,zeN b.1,zeN c.1],c.2)else gt (nd 26 [x.1,zeN b.1],b.2)
 else if tIs [119,104,105,108,101] t=true then(g.head t.tail).bd λx=>(g.stmt x.2).bd λb=>gt (nd 27 [x.1,zeN b.1],b.2)
 else if tIs [100,111] t=true then(g.stmt t.tail).bd λb=>(zbi [119,104,105,108,101] b.2).bn λt=>(g.head t).bd λx=>(zjl x.2).bn λt=>gt (nd 28 [zeN b.1,x.1],t)
 else if tIs [102,111,114] t=true then g.loop t.tail
 else if tIs [98,114,101,97,107] t=true then zse 31 t.tail
 else if tIs [99,111,110,116,105,110,117,101] t=true then zse 32 t.tail
 else if tIs [114,101,116,117,114,110] t=true then(if(!tIs [59] t.tail&& !zj2 t.tail)=true then(g.expr false t.tail).bd λx=>(zjl x.2).bn λt=>gt (nd 33 [x.1],t)else(zjl t.tail).bn λt=>gt (nd 33 [],t))
 else if tIs [116,104,114,111,119] t=true then(if zgm t.tail=true then bad t.tail else(g.expr false t.tail).bd λx=>(zjl x.2).bn λt=>gt (nd 34 [x.1],t))
 else if tIs [116,114,121] t=true then zwQ g t.tail
 else if tIs [115,119,105,116,99,104] t=true then(g.head t.tail).bd λx=>(zbi [123] x.2).bn λt=>(g.cases true t).bd λl=>gt (nd 36 (x.1::l.1),l.2)
 else if tIs [102,117,110,99,116,105,111,110] t=true then bad t
 else if(zak t==1&&tIs [58] t.tail)=true then(g.stmt t.tail.tail).bd λx=>gt (ndN 38 (tText t) [x.1],x.2)
 else(g.expr false t).bd λx=>(zjl x.2).bn λt=>gt (nd 24 [x.1],t)
def znH(funcs:Bool)(t:zal):PR (List Node):=
 if(tIs [125] t||zak t==0)=true then gt ([],t)
 else(if(funcs&&tIs [102,117,110,99,116,105,111,110] t)=true then g.func 39 t.tail else g.stmt t).bd λx=>(g.stmts funcs x.2).bd λl=>gt (x.1::l.1,l.2)
end
def pG:Nat->PG
 |0=>⟨λ_ _=>none,λ_ _ _=>none,λ_ _=>none,λ_ _ _=>none,λ_ _ _ _=>none,λ_=>none,λ_ _ _=>none,λ_=>none,λ_=>none,λ_ _ _=>none,λ_=>none,λ_ _=>none,λ_ _=>none,λ_=>none,λ_=>none,λ_ _=>none,λ_=>none,λ_ _=>none,λ_=>none,λ_=>none,λ_ _=>none⟩
 |n+1=>⟨zt1 (pG n),zqH (pG n),znM (pG n),zik (pG n),zkK (pG n),zqa (pG n),znR (pG n),zmN (pG n),znQ (pG n),zkT (pG n),zl7 (pG n),zr7 (pG n),zqA (pG n),znq (pG n),zuj (pG n),zp1 (pG n),zuh (pG n),zm9 (pG n),ztU (pG n),zsd (pG n),znH (pG n)⟩
end Go.D08
namespace Go.D08
open Go Go.Gw Go.Dn Go.Proofs
set_option maxRecDepth 100000
def tk(t:zl):Tok:=⟨t.Kind.toNat,t.Text,t.Num,t.Fresh⟩
structure TOk (L:List zl):Prop where
 kinds: ∀t∈L,0<=t.Kind/\t.Kind<=5
 texts: ∀t∈L,t.Text.length<=1000000
 plain: ∀t∈L,opK (tk t)=true->(32:UInt8)∉t.Text
 ascii: ∀t∈L,t.Kind=1\/t.Kind=2->∀b∈t.Text,b<128
 colon: ∀t∈L,t.Kind=2->t.Text≠[58]
 nums: ∀t∈L,t.Kind=3->0<=t.Num/\t.Num<=9007199254740991
 last: ∃a e,L=a++[e]/\e.Kind=0/\∀t∈a,t.Kind≠0
theorem TOk.cons{L:List zl}(h:TOk L): ∃a r,L=a::r:=by
 obtain⟨a,e,h1,_⟩:=h.last;cases L with
 |nil=>simp at h1
 |cons x r=>exact⟨x,r,rfl⟩
theorem TOk.tail{x:zl}{r:List zl}(h:TOk (x::r))(hx:x.Kind≠0):TOk r:=by
 refine⟨λt ht=>h.kinds t (qz8 _ ht),λt ht=>h.texts t (qz8 _ ht),λt ht=>h.plain t (qz8 _ ht),λt ht=>h.ascii t (qz8 _ ht),λt ht=>h.colon t (qz8 _ ht),λt ht=>h.nums t (qz8 _ ht),?_⟩;obtain⟨a,e,h1,h2,h3⟩:=h.last;cases a with
 |nil=>simp at h1;rw[h1.1]at hx;exact absurd h2 hx
 |cons y a=>simp at h1;exact⟨a,e,h1.2,h2,λt ht=>h3 t (qz8 _ ht)⟩
theorem zav(x:zk):zn x=x:=by cases x;rfl
theorem zC(x:zl):zc8 x=x:=by cases x;rfl
theorem zoX{x:zl}(hk:0<=x.Kind)(n:Nat):(x.Kind==(n:Int))=((tk x).kind==n):=by
 unfold tk;rw[Bool.eq_iff_iff,beq_iff_eq,beq_iff_eq];simp only;omega
abbrev pp(L:List zl)(no:Bool):zk:=⟨L,no⟩
theorem zfa{α:Type}(x:α)(r:List α):zas (x::r) 0=some x:=rfl
theorem zwD{L:List zl}{no:Bool}(h:TOk L)(s:Str):zbS s (pp L no)=some (tIs s (L.map tk),pp L no,()):=by
 obtain⟨x,r,rfl⟩:=h.cons;have hk:=(h.kinds x qz7).1;have k5:=zoX hk 5;have k2:=zoX hk 2;rw[show((5:Nat):Int)=5 from rfl]at k5;rw[show((2:Nat):Int)=2 from rfl]at k2;unfold zbS;simp only[zfa,qz1,zav,k5,k2,List.map_cons,tIs,opK];cases(tk x).kind==5<;>cases(tk x).kind==2<;>simp[tk]
theorem zFY{x:zl}{r:List zl}{no:Bool}(hx:x.Kind≠0):zaY (pp (x::r) no)=some (x,pp r no,()):=by
 unfold zaY;have e:(x.Kind !=0)=true:=by rw[bne_iff_ne];exact hx
 have hc:zbv (x::r) 1 (((x::r).length:Nat):Int)=some r:=by
  have:=zgz (x::r) 1 (by simp);simpa using this
 simp only[zfa,qz1,e,yB,hc,zC]
theorem zNZ{s:Str}{x:zl}{r:List zl}(h:tIs s ((x::r).map tk)=true):x.Kind≠0:=by
 intro e;simp[tIs,opK,tk,e]at h
theorem has_eq{L:List zl}{no:Bool}(h:TOk L)(s:Str):zZ s (pp L no)=some (tIs s (L.map tk),pp (if tIs s (L.map tk)=true then L.tail else L) no,()):=by
 unfold zZ;rw[zav,zwD h s];simp only[qz1,zav];cases hq:tIs s (L.map tk)with
 |false=>simp
 |true=>
  obtain⟨x,r,rfl⟩:=h.cons;simp only[yB];rw[zFY (zNZ hq)];rfl
theorem zoG{L:List zl}{no:Bool}(h:TOk L)(ws:List Str)(list:Str)(hl:list=joined ws)(hw: ∀w∈ws,(32:UInt8)∉w)(hll:list.length<=1000000):zch list (pp L no)=some (zc3 ws (L.map tk),pp L no,()):=by
 obtain⟨x,r,rfl⟩:=h.cons;have hk:=(h.kinds x qz7).1;have ht:=h.texts x qz7;have hp:=h.plain x qz7;have k5:=zoX hk 5;have k2:=zoX hk 2;rw[show((5:Nat):Int)=5 from rfl]at k5;rw[show((2:Nat):Int)=2 from rfl]at k2
 have hb':(if(x.Kind==5)=true then some true else some (x.Kind==2))=some (opK (tk x)):=by
  rw[k5,k2];unfold opK;cases(tk x).kind==5<;>simp
 unfold zch;simp only[zfa,qz1,zav];rw[hb'];simp only[qz1,List.map_cons,zc3];cases hq:opK (tk x)with
 |false=>simp
 |true=>
  simp only[yB,Bool.true_and];rw[zDg (by simp only[qz3,qz6];omega)]
  simp only[qz1];rw[zDg (by simp only[qz5,qz3,qz6];omega)]
  simp only[qz1];rw[U.zCo list _ (by omega)];simp only[qz1];have:=zm1 x.Text (hp hq) ws hw;rw[hl,show([32]++x.Text++[32]:Str)=32::(x.Text++[32])from rfl,this];rfl
theorem zH7{L:List zl}{no:Bool}(h:TOk L):zgj (pp L no)=some (zj2 (L.map tk),pp L no,()):=by
 have hi:=zwD (no:=no) h [125];unfold zgj zj2;rw[zav,hi];obtain⟨x,r,rfl⟩:=h.cons;have hk:=(h.kinds x qz7).1;have k0:=zoX hk 0;rw[show((0:Nat):Int)=0 from rfl]at k0;simp only[qz1,zfa,k0,zav,List.map_cons,zak,zgm];cases tIs [125] (tk x::List.map tk r)<;>cases(tk x).kind==0<;>simp[tk]
theorem any_cons(ws:List Str)(x:zl)(t:zal):zc3 ws (tk x::t)=(opK (tk x)&&ws.contains x.Text):=rfl
theorem zGd(s:Str)(x:zl)(t:zal):tIs s (tk x::t)=(opK (tk x)&&(x.Text==s)):=rfl
theorem zLb{L:List zl}{no:Bool}(h:TOk L):ziN (pp L no)=some ((zdB no (L.map tk)).1,(zdB no (L.map tk)).2,pp L no,()):=by
 have i1:=zwD (no:=no) h [124,124];have i2:=zwD (no:=no) h [38,38];have i3:=zoG (no:=no) h eqL ([32,61,61,32,33,61,32,61,61,61,32,33,61,61,32]:Str) (by decide+kernel) (by decide+kernel) (by decide);have i4:=zoG (no:=no) h ltL ([32,60,32,62,32,60,61,32,62,61,32,105,110,115,116,97,110,99,101,111,102,32]:Str) (by decide+kernel) (by decide+kernel) (by decide);have i5:=zwD (no:=no) h [105,110];have i6:=zoG (no:=no) h zrK ([32,43,32,45,32]:Str) (by decide+kernel) (by decide+kernel) (by decide);have i7:=zoG (no:=no) h mulL ([32,42,32,47,32,37,32]:Str) (by decide+kernel) (by decide+kernel) (by decide)
 have j1:zfl (pp L no)=some (if zc3 zrK (L.map tk)=true then 7 else if zc3 mulL (L.map tk)=true then 8 else 0,if zc3 zrK (L.map tk)=true then 17 else if zc3 mulL (L.map tk)=true then 17 else 0,pp L no,()):=by
  unfold zfl;simp only[zav,i6,i7,qz1];cases zc3 zrK (L.map tk)<;>cases zc3 mulL (L.map tk)<;>rfl
 unfold ziN;simp only[zav,i1,i2,i3,i4,i5,qz1,j1];obtain⟨x,r,rfl⟩:=h.cons;simp only[any_cons,zGd,List.map_cons,zdB];cases hq:opK (tk x)with
 |false=>cases no<;>simp
 |true=>
  simp only[Bool.true_and,yB];unfold lvS;rw[show(tk x).text=x.Text from rfl];cases x.Text==([124,124]:Str)with
  |true=>rfl
  |false=>
   simp only[qz2,yA];cases x.Text==([38,38]:Str)with
   |true=>rfl
   |false=>
    simp only[qz2,yA];cases eqL.contains x.Text with
    |true=>rfl
    |false=>
     simp only[qz2,yA];cases ltL.contains x.Text with
     |true=>simp
     |false=>
      simp only[Bool.false_or,qz2,yA];cases no<;>cases x.Text==([105,110]:Str)<;>cases zrK.contains x.Text<;>cases mulL.contains x.Text<;>rfl
end Go.D08
namespace Go.D08
open Go Go.Gw Go.Dn
set_option maxRecDepth 100000
def Le{α:Type}(x y:PR α):Prop:=∀r,x=some r->y=some r
theorem Le.rfl{α:Type}{x:PR α}:Le x x:=λ_ h=>h
theorem Le.bd{α β:Type}{x y:PR α}{f g:α×zal->PR β}(h:Le x y)(k: ∀q,Le (f q) (g q)):Le (x.bd f) (y.bd g):=by
 intro r e;cases x with
 |none=>cases e
 |some p=>
  rw[h _ Eq.refl];cases p with
  |inl j=>exact e
  |inr q=>exact k q r e
 where Eq.refl {x:Nat⊕(α×zal)}:(some x:PR α)=some x:=_root_.rfl
theorem Le.bn{β:Type}{x:PR Unit}{f g:zal->PR β}(k: ∀t,Le (f t) (g t)):Le (x.bn f) (x.bn g):=Le.bd Le.rfl λq=>k q.2
theorem Le.ite{α:Type}{c:Prop}[Decidable c]{a b a' b':PR α}(h:Le a a')(k:Le b b'):Le (if c then a else b) (if c then a' else b'):=by
 by_cases hc:c
 ·rw[yL hc,yL hc];exact h
 ·rw[yK hc,yK hc];exact k
structure PLe (g h:PG):Prop where
 expr: ∀a t,Le (g.expr a t) (h.expr a t)
 comma: ∀a x t,Le (g.comma a x t) (h.comma a x t)
 assign: ∀a t,Le (g.assign a t) (h.assign a t)
 binary: ∀a b t,Le (g.binary a b t) (h.binary a b t)
 bins: ∀a b x t,Le (g.bins a b x t) (h.bins a b x t)
 unary: ∀t,Le (g.unary t) (h.unary t)
 mems: ∀a x t,Le (g.mems a x t) (h.mems a x t)
 made: ∀t,Le (g.made t) (h.made t)
 prim: ∀t,Le (g.prim t) (h.prim t)
 exprs: ∀a b t,Le (g.exprs a b t) (h.exprs a b t)
 props: ∀t,Le (g.props t) (h.props t)
 func: ∀a t,Le (g.func a t) (h.func a t)
 vars: ∀a t,Le (g.vars a t) (h.vars a t)
 block: ∀t,Le (g.block t) (h.block t)
 head: ∀t,Le (g.head t) (h.head t)
 till: ∀a t,Le (g.till a t) (h.till a t)
 loop: ∀t,Le (g.loop t) (h.loop t)
 cases: ∀a t,Le (g.cases a t) (h.cases a t)
 body: ∀t,Le (g.body t) (h.body t)
 stmt: ∀t,Le (g.stmt t) (h.stmt t)
 stmts: ∀a t,Le (g.stmts a t) (h.stmts a t)
section
variable {g h:PG} (L:PLe g h)
include L
theorem zQj(a t):Le (zt1 g a t) (zt1 h a t):= .bd (L.assign _ _) λ_=>L.comma _ _ _
theorem zOY(a x t):Le (zqH g a x t) (zqH h a x t):= .ite (.bd (L.assign _ _) λ_=>L.comma _ _ _) .rfl
theorem zMH(a t):Le (znM g a t) (znM h a t):=
 .bd (L.binary _ _ _) λ_=> .ite (.bd (L.assign _ _) λ_=> .bn λ_=> .bd (L.assign _ _) λ_=> .rfl) (.ite (.ite (.bd (L.assign _ _) λ_=> .rfl) .rfl) .rfl)
theorem zMS(a b t):Le (zik g a b t) (zik h a b t):= .bd (L.unary _) λ_=>L.bins _ _ _ _
theorem zRR(a b x t):Le (zkK g a b x t) (zkK h a b x t):= .ite .rfl (.bd (L.binary _ _ _) λ_=>L.bins _ _ _ _)
theorem zO5(t):Le (zqa g t) (zqa h t):=
 .ite (.bd (L.unary _) λ_=> .rfl) (.ite (.bd (L.unary _) λ_=> .rfl) (.bd (L.made _) λ_=> .bd (L.mems _ _ _) λ_=> .rfl))
theorem zPT(a x t):Le (znR g a x t) (znR h a x t):=
 .ite (.ite (L.mems _ _ _) .rfl) (.ite (.bd (L.expr _ _) λ_=> .bn λ_=>L.mems _ _ _) (.ite (.bd (L.exprs _ _ _) λ_=>L.mems _ _ _) .rfl))
theorem zPD(t):Le (zmN g t) (zmN h t):=
 .ite (.bd (L.made _) λ_=> .bd (L.mems _ _ _) λ_=> .ite (.bd (L.exprs _ _ _) λ_=> .rfl) .rfl) (L.prim _)
theorem zQM(t):Le (znQ g t) (znQ h t):=
 .ite .rfl (.ite .rfl (.ite .rfl (.ite .rfl (.ite .rfl (.ite .rfl (.ite .rfl (.ite (L.func _ _) (.ite (.bd (L.expr _ _) λ_=> .rfl) (.ite (.bd (L.exprs _ _ _) λ_=> .rfl) (.ite (.bd (L.props _) λ_=> .rfl) .rfl))))))))))
theorem zNn(a b t):Le (zkT g a b t) (zkT h a b t):=
 .ite .rfl (.bd (L.assign _ _) λ_=> .ite .rfl (.bn λ_=> .ite .rfl (.bd (L.exprs _ _ _) λ_=> .rfl)))
theorem zNk(t):Le (zl7 g t) (zl7 h t):=
 .ite .rfl (.bd .rfl λ_=> .bn λ_=> .bd (L.assign _ _) λ_=> .ite .rfl (.bn λ_=> .bd (L.props _) λ_=> .rfl))
theorem zQw(a t):Le (zr7 g a t) (zr7 h a t):=
 .bd .rfl λ_=> .bn λ_=> .bd .rfl λ_=> .bn λ_=> .bd (L.stmts _ _) λ_=> .rfl
theorem zRW(a t):Le (zqA g a t) (zqA h a t):=
 .ite (.bd (.ite (.bd (L.assign _ _) λ_=> .rfl) .rfl) λ_=> .ite (.bd (L.vars _ _) λ_=> .rfl) .rfl) .rfl
theorem zOk(t):Le (znq g t) (znq h t):= .bn λ_=> .bd (L.stmts _ _) λ_=> .rfl
theorem le_head(t):Le (zuj g t) (zuj h t):= .bn λ_=> .bd (L.expr _ _) λ_=> .rfl
theorem zPU(s t):Le (zp1 g s t) (zp1 h s t):= .ite .rfl (.bd (L.expr _ _) λ_=> .rfl)
theorem zO1(t):Le (zuW g t) (zuW h t):= .ite (.bd (L.vars _ _) λ_=> .rfl) (.ite .rfl (L.expr _ _))
theorem zQu(t):Le (zuh g t) (zuh h t):=
 .bn λ_=> .bd (zO1 L _) λ_=> .ite (.bd (L.expr _ _) λ_=> .bn λ_=> .bd (L.stmt _) λ_=> .rfl)
  (.bn λ_=> .bd (L.till _ _) λ_=> .bd (L.till _ _) λ_=> .bd (L.stmt _) λ_=> .rfl)
theorem zOM(t):Le (zyI g t) (zyI h t):= .ite (.bn λ_=> .ite (.bn λ_=> .bd (L.block _) λ_=> .rfl) .rfl) .rfl
theorem zNv(t):Le (zpZ g t) (zpZ h t):= .ite (L.block _) .rfl
theorem zS6(t):Le (zwQ g t) (zwQ h t):= .bd (L.block _) λ_=> .bd (zOM L _) λ_=> .bd (zNv L _) λ_=> .rfl
theorem zN9(a t):Le (zm9 g a t) (zm9 h a t):=
 .ite .rfl (.ite (.bn λ_=> .bd (L.body _) λ_=> .bd (L.cases _ _) λ_=> .rfl) (.bn λ_=> .bd (L.expr _ _) λ_=> .bn λ_=> .bd (L.body _) λ_=> .bd (L.cases _ _) λ_=> .rfl))
theorem zRB(t):Le (ztU g t) (ztU h t):= .ite .rfl (.bd (L.stmt _) λ_=> .bd (L.body _) λ_=> .rfl)
theorem zQa(t):Le (zsd g t) (zsd h t):=
 .ite (L.block _) (.ite .rfl (.ite (.bd (L.vars _ _) λ_=> .rfl) (.ite (.bd (L.head _) λ_=> .bd (L.stmt _) λ_=> .ite (.bd (L.stmt _) λ_=> .rfl) .rfl)
  (.ite (.bd (L.head _) λ_=> .bd (L.stmt _) λ_=> .rfl) (.ite (.bd (L.stmt _) λ_=> .bn λ_=> .bd (L.head _) λ_=> .rfl) (.ite (L.loop _) (.ite .rfl (.ite .rfl
  (.ite (.ite (.bd (L.expr _ _) λ_=> .rfl) .rfl) (.ite (.ite .rfl (.bd (L.expr _ _) λ_=> .rfl)) (.ite (zS6 L _) (.ite (.bd (L.head _) λ_=> .bn λ_=> .bd (L.cases _ _) λ_=> .rfl)
  (.ite .rfl (.ite (.bd (L.stmt _) λ_=> .rfl) (.bd (L.expr _ _) λ_=> .rfl)))))))))))))))
theorem zOa(a t):Le (znH g a t) (znH h a t):= .ite .rfl (.bd (.ite (L.func _ _) (L.stmt _)) λ_=> .bd (L.stmts _ _) λ_=> .rfl)
end
theorem zPo: ∀n,PLe (pG n) (pG (n+1))
 |0=>by constructor<;>intros<;>intro r e<;>cases e
 |n+1=>by
  have L:=zPo n;exact⟨zQj L,zOY L,zMH L,zMS L,zRR L,zO5 L,zPT L,zPD L,zQM L,zNn L,zNk L,zQw L,zRW L,zOk L,le_head L,zPU L,zQu L,zN9 L,zRB L,zQa L,zOa L⟩
def Wf(t:zal):Prop:=∃a e,t=a++[e]/\e.kind=0/\∀x∈a,x.kind≠0
theorem Wf.tail{t:zal}(h:Wf t)(hk:zak t≠0):Wf t.tail/\t.tail.length+1=t.length:=by
 obtain⟨a,e,rfl,he,ha⟩:=h;cases a with
 |nil=>exact absurd he hk
 |cons x a=>exact⟨⟨a,e,rfl,he,λy hy=>ha y (qz8 _ hy)⟩,by simp⟩
theorem Wf.pos{t:zal}(h:Wf t):0<t.length:=by
 obtain⟨a,e,rfl,_,_⟩:=h;simp
theorem zam{s:Str}{t:zal}(h:tIs s t=true):zak t≠0:=by
 cases t with
 |nil=>cases h
 |cons x r=>intro e;simp[tIs,opK,show x.kind=0 from e]at h
theorem ze8{l:List Str}{t:zal}(h:zc3 l t=true):zak t≠0:=by
 cases t with
 |nil=>cases h
 |cons x r=>intro e;simp[zc3,opK,show x.kind=0 from e]at h
theorem zwf{no:Bool}{t:zal}(h:(zdB no t).1≠0):zak t≠0:=by
 cases t with
 |nil=>exact absurd rfl h
 |cons x r=>intro e;simp[zdB,opK,show x.kind=0 from e]at h
theorem zbu{t:zal}{k:Nat}(h:(zak t==k)=true)(hk:k≠0):zak t≠0:=by
 rw[beq_iff_eq]at h;omega
def Gd{α:Type}(m:Nat)(x:PR α):Prop:=match x with|none=>False|some (.inl _)=>True|some (.inr q)=>Wf q.2/\q.2.length<m
theorem Gd.bd{α β:Type}{m m':Nat}{x:PR α}{f:α×zal->PR β}(h:Gd m x)(k: ∀q:α×zal,Wf q.2->q.2.length<m->Gd m' (f q)):Gd m' (x.bd f):=by
 cases x with
 |none=>exact h
 |some p=>
  cases p with
  |inl j=>trivial
  |inr q=>exact k q h.1 h.2
theorem Gd.bn{β:Type}{m m':Nat}{x:PR Unit}{f:zal->PR β}(h:Gd m x)(k: ∀t:zal,Wf t->t.length<m->Gd m' (f t)):Gd m' (x.bn f):=Gd.bd h λq=>k q.2
theorem Gd.ite{α:Type}{m:Nat}{c:Prop}[Decidable c]{a b:PR α}(h:c->Gd m a)(k: ¬c->Gd m b):Gd m (if c then a else b):=by
 by_cases hc:c
 ·rw[yL hc];exact h hc
 ·rw[yK hc];exact k hc
theorem Gd.up{α:Type}{m m':Nat}{x:PR α}(h:Gd m x)(hm:m<=m'):Gd m' x:=by
 cases x with
 |none=>exact h
 |some p=>
  cases p with
  |inl j=>trivial
  |inr q=>exact⟨h.1,Nat.lt_of_lt_of_le h.2 hm⟩
theorem Gd.need{t:zal}(w:Wf t)(s:Str):Gd t.length (zbi s t):=
 .ite (λc=>by have:=w.tail (zam c);exact⟨this.1,by show t.tail.length<_;omega⟩) λ_=>trivial
theorem Gd.end{t:zal}(w:Wf t):Gd (t.length+1) (zjl t):=
 .ite (λc=>by have:=w.tail (zam c);exact⟨this.1,by show t.tail.length<_;omega⟩) λ_=> .ite (λ_=>⟨w,Nat.lt_succ_self _⟩) λ_=>trivial
structure PGd (n:Nat) (g:PG):Prop where
 expr: ∀a t,Wf t->10*t.length+6<n->Gd t.length (g.expr a t)
 comma: ∀a x t,Wf t->10*t.length+1<n->Gd (t.length+1) (g.comma a x t)
 assign: ∀a t,Wf t->10*t.length+5<n->Gd t.length (g.assign a t)
 binary: ∀a b t,Wf t->10*t.length+4<n->Gd t.length (g.binary a b t)
 bins: ∀a b x t,Wf t->10*t.length+1<n->Gd (t.length+1) (g.bins a b x t)
 unary: ∀t,Wf t->10*t.length+3<n->Gd t.length (g.unary t)
 mems: ∀a x t,Wf t->10*t.length+1<n->Gd (t.length+1) (g.mems a x t)
 made: ∀t,Wf t->10*t.length+2<n->Gd t.length (g.made t)
 prim: ∀t,Wf t->10*t.length+1<n->Gd t.length (g.prim t)
 exprs: ∀a b t,Wf t->10*t.length+6<n->Gd t.length (g.exprs a b t)
 props: ∀t,Wf t->10*t.length+1<n->Gd t.length (g.props t)
 func: ∀a t,Wf t->10*t.length+1<n->Gd t.length (g.func a t)
 vars: ∀a t,Wf t->10*t.length+1<n->Gd t.length (g.vars a t)
 block: ∀t,Wf t->10*t.length+1<n->Gd t.length (g.block t)
 head: ∀t,Wf t->10*t.length+1<n->Gd t.length (g.head t)
 till: ∀a t,Wf t->10*t.length+7<n->Gd t.length (g.till a t)
 loop: ∀t,Wf t->10*t.length+1<n->Gd t.length (g.loop t)
 cases: ∀a t,Wf t->10*t.length+1<n->Gd t.length (g.cases a t)
 body: ∀t,Wf t->10*t.length+9<n->Gd (t.length+1) (g.body t)
 stmt: ∀t,Wf t->10*t.length+8<n->Gd t.length (g.stmt t)
 stmts: ∀a t,Wf t->10*t.length+9<n->Gd (t.length+1) (g.stmts a t)
section
variable {n:Nat} {g:PG} (G:PGd n g)
include G
theorem zQo(a t)(w:Wf t)(h:10*t.length+6<n+1):Gd t.length (zt1 g a t):=
 .bd (G.assign _ _ w (by omega)) λq wq lq=>(G.comma _ _ _ wq (by omega)).up (by omega)
theorem zOG(a x t)(w:Wf t)(h:10*t.length+1<n+1):Gd (t.length+1) (zqH g a x t):=
 .ite (λc=>by have:=w.tail (zam c);exact .bd (G.assign _ _ this.1 (by omega)) λq wq lq=>(G.comma _ _ _ wq (by omega)).up (by omega)) λ_=>⟨w,Nat.lt_succ_self _⟩
theorem zLZ(a t)(w:Wf t)(h:10*t.length+5<n+1):Gd t.length (znM g a t):=
 .bd (G.binary _ _ _ w (by omega)) λq wq lq=>
  .ite (λc=>by
   have:=wq.tail (zam c);exact .bd (G.assign _ _ this.1 (by omega)) λy wy ly=> .bn (.need wy _) λt wt lt=> .bd (G.assign _ _ wt (by omega)) λz wz lz=>⟨wz,by show z.2.length<_;omega⟩) λ_=>
  .ite (λc=> .ite (λ_=>by
   have:=wq.tail (ze8 c);exact .bd (G.assign _ _ this.1 (by omega)) λy wy ly=>⟨wy,by show y.2.length<_;omega⟩) λ_=>trivial) λ_=>⟨wq,lq⟩
theorem zM6(a b t)(w:Wf t)(h:10*t.length+4<n+1):Gd t.length (zik g a b t):=
 .bd (G.unary _ w (by omega)) λq wq lq=>(G.bins _ _ _ _ wq (by omega)).up (by omega)
theorem zPQ(a b x t)(w:Wf t)(h:10*t.length+1<n+1):Gd (t.length+1) (zkK g a b x t):=
 .ite (λ_=>⟨w,Nat.lt_succ_self _⟩) λc=>by
  have h0:(zdB a t).1≠0:=by
   intro e;rw[e]at c;simp at c
  have:=w.tail (zwf h0);exact .bd (G.binary _ _ _ this.1 (by omega)) λq wq lq=>(G.bins _ _ _ _ wq (by omega)).up (by omega)
theorem zOJ(t)(w:Wf t)(h:10*t.length+3<n+1):Gd t.length (zqa g t):=
 .ite (λc=>by have:=w.tail (ze8 c);exact .bd (G.unary _ this.1 (by omega)) λy wy ly=>⟨wy,by show y.2.length<_;omega⟩) λ_=>
 .ite (λc=>by have:=w.tail (ze8 c);exact .bd (G.unary _ this.1 (by omega)) λy wy ly=> .ite (λ_=>⟨wy,by show y.2.length<_;omega⟩) λ_=>trivial) λ_=>
 .bd (G.made _ w (by omega)) λq wq lq=> .bd (G.mems _ _ _ wq (by omega)) λp wp lp=>
  .ite (λ_=>⟨wp,by omega⟩) λc=> .ite (λ_=>by
   have h1:zc3 zkr p.2=true:=by
    cases e:zc3 zkr p.2 with
    |true=>rfl
    |false=>rw[e]at c;simp at c
   have:=wp.tail (ze8 h1);exact⟨this.1,by show p.2.tail.length<_;omega⟩) λ_=>trivial
theorem zQV(a x t)(w:Wf t)(h:10*t.length+1<n+1):Gd (t.length+1) (znR g a x t):=
 .ite (λc=>by
  have h1:=w.tail (zam c)
  exact .ite (λc2=>by
   have h2:=h1.1.tail (by
    intro e;rw[e]at c2;simp at c2)
   exact(G.mems _ _ _ h2.1 (by omega)).up (by omega)) λ_=>trivial) λ_=>
 .ite (λc=>by
  have h1:=w.tail (zam c);exact .bd (G.expr _ _ h1.1 (by omega)) λk wk lk=> .bn (.need wk _) λt wt lt=>(G.mems _ _ _ wt (by omega)).up (by omega)) λ_=>
 .ite (λc=>by
  rw[qz4]at c;have h1:=w.tail (zam c.2);exact .bd (G.exprs _ _ _ h1.1 (by omega)) λk wk lk=>(G.mems _ _ _ wk (by omega)).up (by omega)) λ_=>⟨w,Nat.lt_succ_self _⟩
theorem zPE(t)(w:Wf t)(h:10*t.length+2<n+1):Gd t.length (zmN g t):=
 .ite (λc=>by
  have h1:=w.tail (zam c)
  exact .bd (G.made _ h1.1 (by omega)) λq wq lq=> .bd (G.mems _ _ _ wq (by omega)) λp wp lp=>
   .ite (λc2=>by
    have h2:=wp.tail (zam c2);exact .bd (G.exprs _ _ _ h2.1 (by omega)) λl wl ll=>⟨wl,by show l.2.length<_;omega⟩) λ_=>⟨wp,by show p.2.length<_;omega⟩) λ_=>G.prim _ w (by omega)
theorem zQ3(t)(w:Wf t)(h:10*t.length+1<n+1):Gd t.length (znQ g t):=by
 have tl: ∀{k:Nat},(zak t==k)=true->k≠0->∀x:Node,Gd t.length (gt (x,t.tail)):=λc hk x=>by
  have:=w.tail (zbu c hk);exact⟨this.1,by show t.tail.length<_;omega⟩
 have ti: ∀{s:Str},tIs s t=true->∀x:Node,Gd t.length (gt (x,t.tail)):=λc x=>by
  have:=w.tail (zam c);exact⟨this.1,by show t.tail.length<_;omega⟩
 refine .ite (λc=>tl c (by decide) _) λ_=> .ite (λc=>?_) λ_=> .ite (λc=>tl c (by decide) _) λ_=> .ite (λc=>ti c _) λ_=> .ite (λc=>ti c _) λ_=> .ite (λc=>ti c _) λ_=> .ite (λc=>ti c _) λ_=>
  .ite (λc=>?_) λ_=> .ite (λc=>?_) λ_=> .ite (λc=>?_) λ_=> .ite (λc=>?_) λ_=>trivial
 ·have:=tl c (by decide);cases t with
  |nil=>exact absurd w.pos (by simp)
  |cons a r=>exact this _
 all_goals have h1:=w.tail (zam c)
 ·exact(G.func _ _ h1.1 (by omega)).up (by omega)
 ·exact .bd (G.expr _ _ h1.1 (by omega)) λk wk lk=> .bn (.need wk _) λt' wt lt=>⟨wt,by show t'.length<_;omega⟩
 ·exact .bd (G.exprs _ _ _ h1.1 (by omega)) λl wl ll=>⟨wl,by show l.2.length<_;omega⟩
 ·exact .bd (G.props _ h1.1 (by omega)) λl wl ll=>⟨wl,by show l.2.length<_;omega⟩
theorem zNS(a b t)(w:Wf t)(h:10*t.length+6<n+1):Gd t.length (zkT g a b t):=
 .ite (λc=>by have:=w.tail (zam c);exact⟨this.1,by show t.tail.length<_;omega⟩) λ_=>
 .bd (G.assign _ _ w (by omega)) λx wx lx=> .ite (λc=>by have:=wx.tail (zam c);exact⟨this.1,by show x.2.tail.length<_;omega⟩) λ_=>
  .bn (.need wx _) λt wt lt=> .ite (λ_=>trivial) λ_=> .bd (G.exprs _ _ _ wt (by omega)) λl wl ll=>⟨wl,by show l.2.length<_;omega⟩
omit G in
theorem zSU{t}(w:Wf t):Gd t.length (zEn t):=by
 cases t with
 |nil=>exact absurd w.pos (by simp)
 |cons a r=>
  have tl: ∀{k:Nat},(a.kind==k)=true->k≠0->∀x:Str,Gd (a::r).length (gt (x,r)):=λc hk x=>by
   have:=w.tail (zbu (t:=a::r) c hk);exact⟨this.1,by show r.length<_;simp⟩
  exact .ite (λc=>tl c (by decide) _) λ_=> .ite (λc=>tl c (by decide) _) λ_=> .ite (λc=>by
   rw[yQ]at c;exact c.elim (λc=>tl c (by decide) _) λc=>tl c (by decide) _) λ_=>trivial
theorem zOH(t)(w:Wf t)(h:10*t.length+1<n+1):Gd t.length (zl7 g t):=
 .ite (λc=>by have:=w.tail (zam c);exact⟨this.1,by show t.tail.length<_;omega⟩) λ_=>
 .bd (zSU w) λk wk lk=> .bn (.need wk _) λt1 w1 l1=> .bd (G.assign _ _ w1 (by omega)) λx wx lx=>
  .ite (λc=>by have:=wx.tail (zam c);exact⟨this.1,by show x.2.tail.length<_;omega⟩) λ_=>
  .bn (.need wx _) λt wt lt=> .bd (G.props _ wt (by omega)) λl wl ll=>⟨wl,by show l.2.length<_;omega⟩
omit G in
theorem zI9: ∀t,Wf t->Gd t.length (zi8 t)
 | [],w=>absurd w.pos (by simp)
 | [a],_=>trivial
 |a::b::r,w=>by
  rw[zi8];refine .ite (λc=>?_) λ_=>trivial
  have h1:=w.tail (zbu (t:=a::b::r) c (by decide));refine .ite (λc2=>?_) λ_=> .ite (λc2=>?_) λ_=>trivial
  ·have h2:=h1.1.tail (zam c2);exact⟨h2.1,by show r.length<_;simp only[qz3];omega⟩
  ·have h2:=h1.1.tail (zam c2);exact .ite (λ_=>trivial) λ_=> .bd (zI9 r h2.1) λl wl ll=>⟨wl,by show l.2.length<_;simp only[qz3];omega⟩
omit G in
theorem zLK{t}(w:Wf t):Gd t.length (zgl t):=
 .ite (λc=>by have:=w.tail (zam c);exact⟨this.1,by show t.tail.length<_;omega⟩) λ_=>zI9 t w
theorem zQL(a t)(w:Wf t)(h:10*t.length+1<n+1):Gd t.length (zr7 g a t):=
 .bd (m:=t.length+1) (.ite (λc=>by have:=w.tail (zbu c (by decide));exact⟨this.1,by show t.tail.length<_;omega⟩) λ_=> .ite (λ_=>trivial) λ_=>⟨w,Nat.lt_succ_self _⟩) λm wm lm=>
  .bn (.need wm _) λt1 w1 l1=> .bd (zLK w1) λns wn ln=> .bn (.need wn _) λt2 w2 l2=> .bd (G.stmts _ _ w2 (by omega)) λl wl ll=> .bn (.need wl _) λt3 w3 l3=>⟨w3,by show t3.length<_;omega⟩
theorem zRx(a t)(w:Wf t)(h:10*t.length+1<n+1):Gd t.length (zqA g a t):=
 .ite (λc=>by
  have h1:=w.tail (zbu c (by decide))
  exact .bd (m:=t.length) (.ite (λc2=>by
   have h2:=h1.1.tail (zam c2)
   exact .bd (G.assign _ _ h2.1 (by omega)) λy wy ly=>⟨wy,by show y.2.length<_;omega⟩) λ_=>⟨h1.1,by show t.tail.length<_;omega⟩) λd wd ld=>
    .ite (λc3=>by
     have h3:=wd.tail (zam c3);exact .bd (G.vars _ _ h3.1 (by omega)) λl wl ll=>⟨wl,by show l.2.length<_;omega⟩) λ_=>⟨wd,by show d.2.length<_;omega⟩) λ_=>trivial
theorem zNW(t)(w:Wf t)(h:10*t.length+1<n+1):Gd t.length (znq g t):=
 .bn (.need w _) λt1 w1 l1=> .bd (G.stmts _ _ w1 (by omega)) λl wl ll=> .bn (.need wl _) λt2 w2 l2=>⟨w2,by show t2.length<_;omega⟩
theorem zRd(t)(w:Wf t)(h:10*t.length+1<n+1):Gd t.length (zuj g t):=
 .bn (.need w _) λt1 w1 l1=> .bd (G.expr _ _ w1 (by omega)) λl wl ll=> .bn (.need wl _) λt2 w2 l2=>⟨w2,by show t2.length<_;omega⟩
theorem zQk(s t)(w:Wf t)(h:10*t.length+7<n+1):Gd t.length (zp1 g s t):=
 .ite (λc=>by have:=w.tail (zam c);exact⟨this.1,by show t.tail.length<_;omega⟩) λ_=>
 .bd (G.expr _ _ w (by omega)) λl wl ll=> .bn (.need wl _) λt2 w2 l2=>⟨w2,by show t2.length<_;omega⟩
theorem zNp(t)(w:Wf t)(h:10*t.length+6<n):Gd (t.length+1) (zuW g t):=
 .ite (λc=>by
  have h1:=w.tail (zam c);exact .bd (G.vars _ _ h1.1 (by omega)) λl wl ll=>⟨wl,by show l.2.length<_;omega⟩) λ_=> .ite (λ_=>⟨w,Nat.lt_succ_self _⟩) λ_=>(G.expr _ _ w (by omega)).up (by omega)
theorem zP7(t)(w:Wf t)(h:10*t.length+1<n+1):Gd t.length (zuh g t):=
 .bn (.need w _) λt1 w1 l1=> .bd (zNp G _ w1 (by omega)) λq wq lq=>
  .ite (λc=>by
   rw[qz4]at c;have h1:=wq.tail (zam c.2);exact .bd (G.expr _ _ h1.1 (by omega)) λx wx lx=> .bn (.need wx _) λt2 w2 l2=> .bd (G.stmt _ w2 (by omega)) λb wb lb=>⟨wb,by show b.2.length<_;omega⟩) λ_=>
  .bn (.need wq _) λt2 w2 l2=> .bd (G.till _ _ w2 (by omega)) λx wx lx=> .bd (G.till _ _ wx (by omega)) λy wy ly=> .bd (G.stmt _ wy (by omega)) λb wb lb=>⟨wb,by show b.2.length<_;omega⟩
theorem zNT(t)(w:Wf t)(h:10*t.length<n):Gd (t.length+1) (zyI g t):=
 .ite (λc=>by
  have h1:=w.tail (zam c)
  exact .bn (.need h1.1 _) λt1 w1 l1=> .ite (λc2=>by
   have h2:=w1.tail (zbu c2 (by decide));exact .bn (.need h2.1 _) λt2 w2 l2=> .bd (G.block _ w2 (by omega)) λb wb lb=>⟨wb,by show b.2.length<_;omega⟩) λ_=>trivial) λ_=>⟨w,Nat.lt_succ_self _⟩
theorem zO7(t)(w:Wf t)(h:10*t.length<n):Gd (t.length+1) (zpZ g t):=
 .ite (λc=>by
  have h1:=w.tail (zam c);exact(G.block _ h1.1 (by omega)).up (by omega)) λ_=>⟨w,Nat.lt_succ_self _⟩
theorem zR1(t)(w:Wf t)(h:10*t.length+2<n):Gd t.length (zwQ g t):=
 .bd (G.block _ w (by omega)) λb wb lb=> .bd (zNT G _ wb (by omega)) λc wc lc=> .bd (zO7 G _ wc (by omega)) λf wf lf=> .ite (λ_=>trivial) λ_=>⟨wf,by show f.2.length<_;omega⟩
theorem zNF(a t)(w:Wf t)(h:10*t.length+1<n+1):Gd t.length (zm9 g a t):=
 .ite (λc=>by have:=w.tail (zam c);exact⟨this.1,by show t.tail.length<_;omega⟩) λ_=>
 .ite (λc=>by
  rw[qz4]at c;have h1:=w.tail (zam c.2);exact .bn (.need h1.1 _) λt1 w1 l1=> .bd (G.body _ w1 (by omega)) λl wl ll=> .bd (G.cases _ _ wl (by omega)) λr wr lr=>⟨wr,by show r.2.length<_;omega⟩) λ_=>
 .bn (.need w _) λt1 w1 l1=> .bd (G.expr _ _ w1 (by omega)) λx wx lx=> .bn (.need wx _) λt2 w2 l2=> .bd (G.body _ w2 (by omega)) λl wl ll=> .bd (G.cases _ _ wl (by omega)) λr wr lr=>⟨wr,by show r.2.length<_;omega⟩
theorem zQ4(t)(w:Wf t)(h:10*t.length+9<n+1):Gd (t.length+1) (ztU g t):=
 .ite (λ_=>⟨w,Nat.lt_succ_self _⟩) λ_=> .bd (G.stmt _ w (by omega)) λx wx lx=> .bd (G.body _ wx (by omega)) λl wl ll=>⟨wl,by show l.2.length<_;omega⟩
omit G in
theorem zKK(k t)(w:Wf t):Gd (t.length+1) (zse k t):=
 .ite (λc=>by
  rw[qz4]at c;have h1:=w.tail (zbu c.1 (by decide));exact .bn (.end h1.1) λt1 w1 l1=>⟨w1,by show t1.length<_;omega⟩) λ_=> .bn (.end w) λt1 w1 l1=>⟨w1,by show t1.length<_;omega⟩
theorem zQZ(t)(w:Wf t)(h:10*t.length+8<n+1):Gd t.length (zsd g t):=by
 refine .ite (λc=>G.block _ w (by omega)) λ_=> .ite (λc=>?_) λ_=> .ite (λc=>?_) λ_=> .ite (λc=>?_) λ_=> .ite (λc=>?_) λ_=> .ite (λc=>?_) λ_=> .ite (λc=>?_) λ_=> .ite (λc=>?_) λ_=>
  .ite (λc=>?_) λ_=> .ite (λc=>?_) λ_=> .ite (λc=>?_) λ_=> .ite (λc=>?_) λ_=> .ite (λc=>?_) λ_=> .ite (λc=>trivial) λ_=> .ite (λc=>?_) λ_=>?_
 rotate_right 2
 ·rw[qz4]at c;have h1:=w.tail (zbu c.1 (by decide));have h2:=h1.1.tail (zam c.2);exact .bd (G.stmt _ h2.1 (by omega)) λx wx lx=>⟨wx,by show x.2.length<_;omega⟩
 ·exact .bd (G.expr _ _ w (by omega)) λx wx lx=> .bn (.end wx) λt1 w1 l1=>⟨w1,by show t1.length<_;omega⟩
 all_goals have h1:=w.tail (zam c)
 ·exact⟨h1.1,by show t.tail.length<_;omega⟩
 ·exact .bd (G.vars _ _ h1.1 (by omega)) λx wx lx=> .bn (.end wx) λt1 w1 l1=>⟨w1,by show t1.length<_;omega⟩
 ·exact .bd (G.head _ h1.1 (by omega)) λx wx lx=> .bd (G.stmt _ wx (by omega)) λb wb lb=> .ite (λc2=>by
   have h2:=wb.tail (zam c2);exact .bd (G.stmt _ h2.1 (by omega)) λe we le=>⟨we,by show e.2.length<_;omega⟩) λ_=>⟨wb,by show b.2.length<_;omega⟩
 ·exact .bd (G.head _ h1.1 (by omega)) λx wx lx=> .bd (G.stmt _ wx (by omega)) λb wb lb=>⟨wb,by show b.2.length<_;omega⟩
 ·exact .bd (G.stmt _ h1.1 (by omega)) λb wb lb=> .bn (.need wb _) λt1 w1 l1=> .bd (G.head _ w1 (by omega)) λx wx lx=> .bn (.end wx) λt2 w2 l2=>⟨w2,by show t2.length<_;omega⟩
 ·exact(G.loop _ h1.1 (by omega)).up (by omega)
 ·exact(zKK _ _ h1.1).up (by omega)
 ·exact(zKK _ _ h1.1).up (by omega)
 ·exact .ite (λ_=> .bd (G.expr _ _ h1.1 (by omega)) λx wx lx=> .bn (.end wx) λt1 w1 l1=>⟨w1,by show t1.length<_;omega⟩) λ_=> .bn (.end h1.1) λt1 w1 l1=>⟨w1,by show t1.length<_;omega⟩
 ·exact .ite (λ_=>trivial) λ_=> .bd (G.expr _ _ h1.1 (by omega)) λx wx lx=> .bn (.end wx) λt1 w1 l1=>⟨w1,by show t1.length<_;omega⟩
 ·exact(zR1 G _ h1.1 (by omega)).up (by omega)
 ·exact .bd (G.head _ h1.1 (by omega)) λx wx lx=> .bn (.need wx _) λt1 w1 l1=> .bd (G.cases _ _ w1 (by omega)) λl wl ll=>⟨wl,by show l.2.length<_;omega⟩
theorem zNG(a t)(w:Wf t)(h:10*t.length+9<n+1):Gd (t.length+1) (znH g a t):=
 .ite (λ_=>⟨w,Nat.lt_succ_self _⟩) λ_=> .bd (m:=t.length) (.ite (λc=>by
  rw[qz4]at c;have h1:=w.tail (zam c.2);exact(G.func _ _ h1.1 (by omega)).up (by omega)) λ_=>G.stmt _ w (by omega)) λx wx lx=> .bd (G.stmts _ _ wx (by omega)) λl wl ll=>⟨wl,by show l.2.length<_;omega⟩
end
theorem zPg: ∀n,PGd n (pG n)
 |0=>by constructor<;>intros<;>omega
 |n+1=>by
  have G:=zPg n;exact⟨zQo G,zOG G,zLZ G,zM6 G,zPQ G,zOJ G,zQV G,zPE G,zQ3 G,zNS G,zOH G,zQL G,zRx G,zNW G,zRd G,zQk G,zP7 G,zNF G,zQ4 G,zQZ G,zNG G⟩
def ziD(x:PR Node):Prop:=∀q,x=gt q->q.1.Kind≠22
theorem ziD.gt{x:Node}{t:zal}(h:x.Kind≠22):ziD (gt (x,t)):=λq e=>by cases e;exact h
theorem ziD.bad{t:zal}:ziD (bad t):=λq e=>by cases e
theorem ziD.bd{α:Type}{x:PR α}{f:α×zal->PR Node}(k: ∀q,x=Go.D08.gt q->ziD (f q)):ziD (x.bd f):=by
 cases x with
 |none=>intro q e;cases e
 |some p=>
  cases p with
  |inl j=>intro q e;cases e
  |inr q=>exact k q rfl
theorem ziD.bn{x:PR Unit}{f:zal->PR Node}(k: ∀t,ziD (f t)):ziD (x.bn f):= .bd λq _=>k q.2
theorem ziD.ite{c:Prop}[Decidable c]{a b:PR Node}(h:c->ziD a)(k: ¬c->ziD b):ziD (if c then a else b):=by
 by_cases hc:c
 ·rw[yL hc];exact h hc
 ·rw[yK hc];exact k hc
structure P22 (g:PG):Prop where
 expr: ∀a t,ziD (g.expr a t)
 comma: ∀a x t,x.Kind≠22->ziD (g.comma a x t)
 assign: ∀a t,ziD (g.assign a t)
 binary: ∀a b t,ziD (g.binary a b t)
 bins: ∀a b x t,x.Kind≠22->ziD (g.bins a b x t)
 unary: ∀t,ziD (g.unary t)
 mems: ∀a x t,x.Kind≠22->ziD (g.mems a x t)
 made: ∀t,ziD (g.made t)
 prim: ∀t,ziD (g.prim t)
 func: ∀t,ziD (g.func 10 t)
theorem zPz(no:Bool)(t:zal):(zdB no t).2≠22:=by
 cases t with
 |nil=>show(0:Int)≠22;decide
 |cons a r=>
  show(if opK a=true then lvS no a.text else(0,0)).2≠22;unfold lvS
  repeat' split
  all_goals decide
theorem zLe: ∀n,P22 (pG n)
 |0=>by constructor<;>intros<;>intro q e<;>cases e
 |n+1=>by
  have G:=zLe n;refine⟨λa t=>?_,λa x t hx=>?_,λa t=>?_,λa b t=>?_,λa b x t hx=>?_,λt=>?_,λa x t hx=>?_,λt=>?_,λt=>?_,λt=>?_⟩
  ·exact .bd λq e=>G.comma _ _ _ (G.assign _ _ q e)
  ·exact .ite (λ_=> .bd λq e=>G.comma _ _ _ (by simp[nd,ndN])) λ_=> .gt hx
  ·exact .bd λq e=> .ite (λ_=> .bd λy _=> .bn λt=> .bd λz _=> .gt (by simp[nd,ndN])) λ_=> .ite (λ_=> .ite (λ_=> .bd λy _=> .gt (by simp[nd,ndN])) λ_=> .bad) λ_=> .gt (G.binary _ _ _ q e)
  ·exact .bd λq e=>G.bins _ _ _ _ (G.unary _ q e)
  ·exact .ite (λ_=> .gt hx) λ_=> .bd λq e=>G.bins _ _ _ _ (zPz _ _)
  ·exact .ite (λ_=> .bd λy _=> .gt (by simp[nd,ndN])) λ_=> .ite (λ_=> .bd λy _=> .ite (λ_=> .gt (by simp[nd,ndN])) λ_=> .bad) λ_=>
    .bd λq e=> .bd λp e2=> .ite (λ_=> .gt (G.mems _ _ _ (G.made _ q e) p e2)) λ_=> .ite (λ_=> .gt (by simp[nd,ndN])) λ_=> .bad
  ·exact .ite (λ_=> .ite (λ_=>G.mems _ _ _ (by simp[nd,ndN])) λ_=> .bad) λ_=> .ite (λ_=> .bd λk _=> .bn λt=>G.mems _ _ _ (by simp[nd,ndN])) λ_=>
    .ite (λ_=> .bd λl _=>G.mems _ _ _ (by simp[nd,ndN])) λ_=> .gt hx
  ·exact .ite (λ_=> .bd λq _=> .bd λp _=> .ite (λ_=> .bd λl _=> .gt (by simp[nd,ndN])) λ_=> .gt (by simp[nd,ndN])) λ_=>G.prim _
  ·refine .ite (λ_=> .gt (by simp[nd,ndN])) λ_=> .ite (λ_=>?_) λ_=> .ite (λ_=> .gt (by simp[nd,ndN])) λ_=> .ite (λ_=> .gt (by simp[nd,ndN])) λ_=> .ite (λ_=> .gt (by simp[nd,ndN])) λ_=> .ite (λ_=> .gt (by simp[nd,ndN])) λ_=> .ite (λ_=> .gt (by simp[nd,ndN])) λ_=>
    .ite (λ_=>G.func _) λ_=> .ite (λ_=> .bd λk e=> .bn λt=> .gt (G.expr _ _ k e)) λ_=> .ite (λ_=> .bd λl _=> .gt (by simp[nd,ndN])) λ_=> .ite (λ_=> .bd λl _=> .gt (by simp[nd,ndN])) λ_=> .bad
   cases t with
   |nil=>intro q e;cases e
   |cons a r=>exact .gt (by show(1:Int)≠22;decide)
  ·exact .bd λm _=> .bn λt=> .bd λns _=> .bn λt=> .bd λl _=> .bn λt=> .gt (by simp[nd,ndN])
theorem zuy{α β:Type}{x:PR α}{f:α×zal->PR β}{q:β×zal}(h:x.bd f=gt q): ∃p,x=gt p/\f p=gt q:=by
 cases x with
 |none=>cases h
 |some p=>
  cases p with
  |inl j=>cases h
  |inr p=>exact⟨p,rfl,h⟩
theorem zFW{β:Type}{x:PR Unit}{f:zal->PR β}{q:β×zal}(h:x.bn f=gt q): ∃t,f t=gt q:=by
 obtain⟨p,_,h⟩:=zuy h;exact⟨_,h⟩
theorem zzN{n:Nat}{t:zal}{q:Node×zal}(h:(pG n).block t=gt q):q.1.Kind=25:=by
 cases n with
 |zero=>cases h
 |succ n=>
  have h:znq (pG n) t=gt q:=h;unfold znq at h;obtain⟨t1,h⟩:=zFW h;obtain⟨l,_,h⟩:=zuy h;obtain⟨t2,h⟩:=zFW h;cases h;rfl
end Go.D08
namespace Go.D08
open Go Go.Gw Go.Dn Go.Proofs
set_option maxRecDepth 100000
def atK(L0:List zl)(k:Nat):Int:=match L0.drop (L0.length -k)with|x::_=>x.At| []=>0
structure TL (L0 L:List zl):Prop where
 ok:TOk L
 suf:L<:+L0
theorem TL.tail{L0 L:List zl}(h:TL L0 L)(hk:zak (L.map tk)≠0):TL L0 L.tail:=by
 obtain⟨x,r,rfl⟩:=h.ok.cons;have h0:=(h.ok.kinds x qz7).1;refine⟨h.ok.tail (λe=>hk (by show(tk x).kind=0;unfold tk;rw[e];rfl)),(List.suffix_cons x r).trans h.suf⟩
theorem TL.at_{L0:List zl}{x:zl}{r:List zl}(h:TL L0 (x::r)):atK L0 ((x::r).map tk).length=x.At:=by
 obtain⟨p,hp⟩:=h.suf;unfold atK;rw[<-hp,List.length_map,qz5,show p.length+(x::r).length - (x::r).length=p.length by omega,List.drop_left]
def SG{α ρ:Type}(L0:List zl)(E:Int->ρ->Prop)(O:α->List zl->ρ->Prop)(m:Option ρ)(q:PR α):Prop:=
 match q with
 |none=>True
 |some (.inl k)=>∃r,m=some r/\E (atK L0 k) r
 |some (.inr p)=>∃r L',m=some r/\L'.map tk=p.2/\TL L0 L'/\O p.1 L' r
section
variable {α β γ δ ρ σ:Type} {L0 L:List zl} {no:Bool} {E:Int->ρ->Prop} {O:α->List zl->ρ->Prop} {E':Int->σ->Prop} {O':β->List zl->σ->Prop}
abbrev EL(a:Int)(r:(zaQ×γ)⊕δ):Prop:=∃y,r= .inl (zaQ.code 45 a,y)
abbrev ER(a:Int)(r:δ⊕(zaQ×γ)):Prop:=∃y,r= .inr (zaQ.code 45 a,y)
abbrev OL(no:Bool)(v:α)(L':List zl)(r:(α×zk×Unit)⊕δ):Prop:=r= .inl (v,pp L' no,())
abbrev OR(no:Bool)(v:α)(L':List zl)(r:δ⊕(α×zk×Unit)):Prop:=r= .inr (v,pp L' no,())
theorem SG.gen{m:Option ρ}{q:PR α}{f:ρ->Option σ}{g:α×zal->PR β}(h:SG L0 E O m q)(he: ∀a r,E a r->∃r',f r=some r'/\E' a r')
  (ho: ∀v L' r,q=gt (v,L'.map tk)->TL L0 L'->O v L' r->SG L0 E' O' (f r) (g (v,L'.map tk))):SG L0 E' O' (m.bind f) (q.bd g):=by
 cases q with
 |none=>trivial
 |some p=>
  cases p with
  |inl k=>
   obtain⟨r,rfl,hr⟩:=h;exact he _ _ hr
  |inr p=>
   obtain⟨r,L',rfl,hL,ok,hr⟩:=h;obtain⟨v,t⟩:=p;subst hL;exact ho v L' r rfl ok hr
theorem SG.same{m:Option ρ}{q:PR α}{f:ρ->Option σ}{O':α->List zl->σ->Prop}(h:SG L0 E O m q)(he: ∀a r,E a r->∃r',f r=some r'/\E' a r')
  (ho: ∀v L' r,TL L0 L'->O v L' r->∃r',f r=some r'/\O' v L' r'):SG L0 E' O' (m.bind f) q:=by
 cases q with
 |none=>trivial
 |some p=>
  cases p with
  |inl k=>
   obtain⟨r,rfl,hr⟩:=h;exact he _ _ hr
  |inr p=>
   obtain⟨r,L',rfl,hL,ok,hr⟩:=h;obtain⟨r',e,ho⟩:=ho p.1 L' r ok hr;exact⟨r',L',e,hL,ok,ho⟩
theorem SG.gt{r:ρ}{v:α}(ok:TL L0 L)(h:O v L r):SG L0 E O (some r) (gt (v,L.map tk)):=⟨r,L,rfl,rfl,ok,h⟩
theorem SG.l{m:Option ((zaQ×γ)⊕(α×zk×Unit))}{q:PR α}{f:(zaQ×γ)⊕(α×zk×Unit)->Option σ}{g:α×zal->PR β}(h:SG L0 EL (OR no) m q)
  (he: ∀a y,∃r',f (.inl (zaQ.code 45 a,y))=some r'/\E' a r') (ho: ∀v L',TL L0 L'->SG L0 E' O' (f (.inr (v,pp L' no,()))) (g (v,L'.map tk))):SG L0 E' O' (m.bind f) (q.bd g):=
 h.gen (by rintro a _ ⟨y,rfl⟩;exact he a y) (by rintro v L' _ _ ok rfl;exact ho v L' ok)
theorem SG.r{m:Option ((α×zk×Unit)⊕(zaQ×γ))}{q:PR α}{f:(α×zk×Unit)⊕(zaQ×γ)->Option σ}{g:α×zal->PR β}(h:SG L0 ER (OL no) m q)
  (he: ∀a y,∃r',f (.inr (zaQ.code 45 a,y))=some r'/\E' a r') (ho: ∀v L',TL L0 L'->SG L0 E' O' (f (.inl (v,pp L' no,()))) (g (v,L'.map tk))):SG L0 E' O' (m.bind f) (q.bd g):=
 h.gen (by rintro a _ ⟨y,rfl⟩;exact he a y) (by rintro v L' _ _ ok rfl;exact ho v L' ok)
theorem SG.ll{m:Option ((zaQ×γ)⊕(α×zk×Unit))}{q:PR α}{f:(zaQ×γ)⊕(α×zk×Unit)->Option σ}{O':α->List zl->σ->Prop}(h:SG L0 EL (OR no) m q)
  (he: ∀a y,∃r',f (.inl (zaQ.code 45 a,y))=some r'/\E' a r') (ho: ∀v L',∃r',f (.inr (v,pp L' no,()))=some r'/\O' v L' r'):SG L0 E' O' (m.bind f) q:=
 h.same (by rintro a _ ⟨y,rfl⟩;exact he a y) (by rintro v L' _ ok rfl;exact ho v L')
theorem SG.rr{m:Option ((α×zk×Unit)⊕(zaQ×γ))}{q:PR α}{f:(α×zk×Unit)⊕(zaQ×γ)->Option σ}{O':α->List zl->σ->Prop}(h:SG L0 ER (OL no) m q)
  (he: ∀a y,∃r',f (.inr (zaQ.code 45 a,y))=some r'/\E' a r') (ho: ∀v L',∃r',f (.inl (v,pp L' no,()))=some r'/\O' v L' r'):SG L0 E' O' (m.bind f) q:=
 h.same (by rintro a _ ⟨y,rfl⟩;exact he a y) (by rintro v L' _ ok rfl;exact ho v L')
theorem SG.is{s:Str}{f:Bool×zk×Unit->Option σ}{qa qb:PR β}(ok:TL L0 L)(hy:tIs s (L.map tk)=true->SG L0 E' O' (f (true,pp L no,())) qa)(hn:tIs s (L.map tk)=false->SG L0 E' O' (f (false,pp L no,())) qb):
  SG L0 E' O' ((zbS s (pp L no)).bind f) (if tIs s (L.map tk)=true then qa else qb):=by
 rw[zwD ok.ok s,qz1];cases hq:tIs s (L.map tk)with
 |true=>exact hy hq
 |false=>exact hn hq
theorem SG.has{s:Str}{f:Bool×zk×Unit->Option σ}{qa qb:PR β}(ok:TL L0 L)(hy:tIs s (L.map tk)=true->TL L0 L.tail->SG L0 E' O' (f (true,pp L.tail no,())) qa)(hn:tIs s (L.map tk)=false->SG L0 E' O' (f (false,pp L no,())) qb):
  SG L0 E' O' ((zZ s (pp L no)).bind f) (if tIs s (L.map tk)=true then qa else qb):=by
 rw[has_eq ok.ok s,qz1];cases hq:tIs s (L.map tk)with
 |true=>exact hy hq (ok.tail (zam hq))
 |false=>exact hn hq
theorem SG.stops{f:Bool×zk×Unit->Option σ}{q:PR β}(ok:TL L0 L)(h:SG L0 E' O' (f (zj2 (L.map tk),pp L no,())) q):SG L0 E' O' ((zgj (pp L no)).bind f) q:=by
 rw[zH7 ok.ok,qz1];exact h
theorem SG.among{ws:List Str}{list:Str}{f:Bool×zk×Unit->Option σ}{qa qb:PR β}(ok:TL L0 L)(hl:list=joined ws)(hw: ∀w∈ws,(32:UInt8)∉w)(hll:list.length<=1000000)
  (hy:zc3 ws (L.map tk)=true->SG L0 E' O' (f (true,pp L no,())) qa) (hn:zc3 ws (L.map tk)=false->SG L0 E' O' (f (false,pp L no,())) qb):
  SG L0 E' O' ((zch list (pp L no)).bind f) (if zc3 ws (L.map tk)=true then qa else qb):=by
 rw[zoG ok.ok ws list hl hw hll,qz1];cases hq:zc3 ws (L.map tk)with
 |true=>exact hy hq
 |false=>exact hn hq
theorem zyD{x:zl}{r:List zl}:zbw (pp (x::r) no)=some (zaQ.code 45 x.At,pp (x::r) no,()):=rfl
theorem SG.fail{f:zaQ×zk×Unit->Option σ}(ok:TL L0 L)(h: ∀a,∃r',f (zaQ.code 45 a,pp L no,())=some r'/\E' a r'):SG L0 E' O' ((zbw (pp L no)).bind f) (bad (L.map tk)):=by
 obtain⟨x,r,rfl⟩:=ok.ok.cons;rw[zyD,qz1];obtain⟨r',e1,e2⟩:=h x.At;exact⟨r',e1,by rw[ok.at_];exact e2⟩
theorem SG.need'{s:Str}{f:(zaQ×zk×Unit)⊕(zk×Unit)->Option σ}{g:zal->PR β}(ok:TL L0 L)(he: ∀a y,∃r',f (.inl (zaQ.code 45 a,y))=some r'/\E' a r')
  (ho: ∀L',TL L0 L'->L'.length<L.length->SG L0 E' O' (f (.inr (pp L' no,()))) (g (L'.map tk))):SG L0 E' O' ((zaP s (pp L no)).bind f) ((zbi s (L.map tk)).bn g):=by
 unfold zaP zbi;rw[zav,has_eq ok.ok s,qz1];cases hq:tIs s (L.map tk)with
 |true=>
  simp only[yB];have:=ho L.tail (ok.tail (zam hq)) (by obtain⟨x,r,rfl⟩:=ok.ok.cons;simp)
  rw[yM]at this;exact this
 |false=>
  simp only[qz2,yA,yN,yB,zav];obtain⟨x,r,rfl⟩:=ok.ok.cons;rw[zyD];obtain⟨r',e1,e2⟩:=he x.At (pp (x::r) no,());exact⟨r',e1,by rw[ok.at_];exact e2⟩
theorem SG.need{s:Str}{f:(zaQ×zk×Unit)⊕(zk×Unit)->Option σ}{g:zal->PR β}(ok:TL L0 L)(he: ∀a y,∃r',f (.inl (zaQ.code 45 a,y))=some r'/\E' a r')
  (ho: ∀L',TL L0 L'->SG L0 E' O' (f (.inr (pp L' no,()))) (g (L'.map tk))):SG L0 E' O' ((zaP s (pp L no)).bind f) ((zbi s (L.map tk)).bn g):= .need' ok he λL' h _=>ho L' h
theorem SG.end{f:(zaQ×zk×Unit)⊕(zk×Unit)->Option σ}{g:zal->PR β}(ok:TL L0 L)(he: ∀a y,∃r',f (.inl (zaQ.code 45 a,y))=some r'/\E' a r')
  (ho: ∀L',TL L0 L'->SG L0 E' O' (f (.inr (pp L' no,()))) (g (L'.map tk))):SG L0 E' O' ((zcF (pp L no)).bind f) ((zjl (L.map tk)).bn g):=by
 unfold zcF zjl;rw[zav,has_eq ok.ok [59],qz1];cases hq:tIs [59] (L.map tk)with
 |true=>
  simp only[yB];have:=ho L.tail (ok.tail (zam hq));rw[yM]at this;exact this
 |false=>
  simp only[qz2,yA,yN,yB,zav];rw[zH7 ok.ok];simp only[qz1];cases hp:zj2 (L.map tk)with
  |true=>
   simp only[yO,qz2,yA,yB];exact ho L ok
  |false=>
   simp only[yN,yB,qz2,yA];obtain⟨x,r,rfl⟩:=ok.ok.cons;rw[zyD];obtain⟨r',e1,e2⟩:=he x.At (pp (x::r) no,());exact⟨r',e1,by rw[ok.at_];exact e2⟩
theorem zjD{x:zl}{r:List zl}(ok:TL L0 (x::r))(n:Nat):(x.Kind==(n:Int))=(zak ((x::r).map tk)==n):=zoX (ok.ok.kinds x qz7).1 n
theorem SG.name{f:(zaQ×zk×Unit)⊕(Str×zk×Unit)->Option σ}{qa:PR β}(ok:TL L0 L)(he: ∀a y,∃r',f (.inl (zaQ.code 45 a,y))=some r'/\E' a r')
  (ho:(zak (L.map tk)==1)=true->TL L0 L.tail->SG L0 E' O' (f (.inr (tText (L.map tk),pp L.tail no,()))) qa):SG L0 E' O' ((zez (pp L no)).bind f) (if(zak (L.map tk)==1)=true then qa else bad (L.map tk)):=by
 obtain⟨x,r,rfl⟩:=ok.ok.cons;have hk:=zjD ok 1;rw[show((1:Nat):Int)=1 from rfl]at hk;unfold zez;simp only[zfa,qz1,zav,bne,hk];cases hq:zak ((x::r).map tk)==1 with
 |true=>
  have h1:x.Kind=1:=eq_of_beq (hk.trans hq);simp only[yO,qz2,yA,yB];rw[zFY (by omega)];exact ho hq (ok.tail (zbu hq (by decide)))
 |false=>
  simp only[yN,yB,qz2,yA];rw[zyD];obtain⟨r',e1,e2⟩:=he x.At (pp (x::r) no,());exact⟨r',e1,by rw[ok.at_];exact e2⟩
theorem zQR(ok:TL L0 L)(h:zak (L.map tk)≠0): ∃x,L=x::L.tail/\tk x=tk x/\x.Text=tText (L.map tk)/\zaY (pp L no)=some (x,pp L.tail no,()):=by
 obtain⟨x,r,rfl⟩:=ok.ok.cons;exact⟨x,rfl,rfl,rfl,zFY (λe=>h (by show(tk x).kind=0;unfold tk;rw[e];rfl))⟩
theorem zHi(n:zf):zl9 n=some (zf1 n.Kind,()):=by
 unfold zl9 zf1;cases h3:n.Kind==3<;>cases h11:n.Kind==11<;>cases h12:n.Kind==12<;>simp[h3,h11,h12]
theorem SG.target{n:zf}{f:(zaQ×zk×Unit)⊕(zk×Unit)->Option σ}{qa:PR β}(ok:TL L0 L)(he: ∀a y,∃r',f (.inl (zaQ.code 45 a,y))=some r'/\E' a r')
  (ho:zf1 n.Kind=true->SG L0 E' O' (f (.inr (pp L no,()))) qa):SG L0 E' O' ((zfD n (pp L no)).bind f) (if zf1 n.Kind=true then qa else bad (L.map tk)):=by
 unfold zfD;rw[zt,zHi,zav,qz1];cases hq:zf1 n.Kind with
 |true=>
  simp only[yO,qz2,yA,yB];exact ho hq
 |false=>
  simp only[yN,yB,qz2,yA,zav];obtain⟨x,r,rfl⟩:=ok.ok.cons;rw[zyD];obtain⟨r',e1,e2⟩:=he x.At (pp (x::r) no,());exact⟨r',e1,by rw[ok.at_];exact e2⟩
end
theorem zsr: ∀(n:Nat) (s:Str) (last:Bool) (t:zal) (q:List Node×zal),(pG n).exprs s last t=gt q->q.1.length<=n
 |0,_,_,_,_,h=>by cases h
 |n+1,s,last,t,q,h=>by
  have h:zkT (pG n) s last t=gt q:=h;unfold zkT at h;split at h
  ·cases h;exact Nat.zero_le _
  ·obtain⟨x,_,h⟩:=zuy h;split at h
   ·cases h;simp
   ·obtain⟨t',h⟩:=zFW h;split at h
    ·cases h
    ·obtain⟨l,h1,h⟩:=zuy h;cases h;have:=zsr n s last t' l h1;simp only[qz3];omega
def zkX{S ρ:Type}(W:S->Option ρ)(o:S⊕ρ):Option ρ:=match o with| .inl s=>W s| .inr e=>some e
theorem zcO{S ρ:Type}(step:S->Option (S⊕ρ))(m:Nat)(s:S):zaH step (m+1) s=(step s).bind (zkX (zaH step m)):=rfl
section
variable {α β γ δ ρ σ:Type} {L0 L:List zl} {no:Bool} {E:Int->ρ->Prop} {O:α->List zl->ρ->Prop} {E':Int->σ->Prop} {O':β->List zl->σ->Prop}
theorem SG.assoc{m:Option ρ}{f:ρ->Option γ}{k:γ->Option σ}{q:PR β}(h:SG L0 E' O' (m.bind λr=>(f r).bind k) q):SG L0 E' O' ((m.bind f).bind k) q:=by
 cases m<;>exact h
theorem SG.loop{S:Type}{step:S->Option (S⊕ρ)}{m:Nat}{s:S}{q:PR α}(h:SG L0 E O (zaH step m s) q)(hm:m<=1000000000000):SG L0 E O (Lp.loop step s) q:=by
 cases q with
 |none=>trivial
 |some p=>
  cases p with
  |inl k=>
   obtain⟨r,e,h⟩:=h;exact⟨r,zck e hm,h⟩
  |inr p=>
   obtain⟨r,L',e,h⟩:=h;exact⟨r,L',zck e hm,h⟩
theorem SG.room{k:Nat}{f:Unit->Option σ}{q:PR β}(hk:k<=274877906944)(h:SG L0 E' O' (f ()) q):SG L0 E' O' ((room k).bind f) q:=by
 rw[zcQ hk];exact h
theorem SG.take{f:zl×zk×Unit->Option σ}{q:PR β}(ok:TL L0 L)(hk:zak (L.map tk)≠0)(h: ∀x,x.Text=tText (L.map tk)->TL L0 L.tail->SG L0 E' O' (f (x,pp L.tail no,())) q):
  SG L0 E' O' ((zaY (pp L no)).bind f) q:=by
 obtain⟨x,_,_,hx,e⟩:=zQR (no:=no) ok hk;rw[e,qz1];exact h x hx (ok.tail hk)
end
structure zzZ (L0:List zl) (g:zh) (q:PG):Prop where
 expr: ∀no L,TL L0 L->SG L0 ER (OL no) (g.zaX (pp L no)) (q.expr no (L.map tk))
 assign: ∀no L,TL L0 L->SG L0 ER (OL no) (g.za7 (pp L no)) (q.assign no (L.map tk))
 binary: ∀no b L,TL L0 L->b<=100->SG L0 EL (OR no) (g.zdu b (pp L no)) (q.binary no b (L.map tk))
 unary: ∀no L,TL L0 L->SG L0 ER (OL no) (g.zdh (pp L no)) (q.unary (L.map tk))
 mems: ∀no x c L,TL L0 L->SG L0 EL (OR no) (g.zdf x c (pp L no)) (q.mems c x (L.map tk))
 made: ∀no L,TL L0 L->SG L0 ER (OL no) (g.zdX (pp L no)) (q.made (L.map tk))
 prim: ∀no L,TL L0 L->SG L0 ER (OL no) (g.zei (pp L no)) (q.prim (L.map tk))
 exprs: ∀no s last L,TL L0 L->SG L0 ER (OL no) (g.zcw s last (pp L no)) (q.exprs s last (L.map tk))
 props: ∀no L,TL L0 L->SG L0 EL (λ(l:List Node) L' r=>r= .inr (pp L' no,8,[],0,[],[],l,())) (g.zej [125] true (pp L no) 8 [] 0 [] [] []) (q.props (L.map tk))
 func: ∀no k L,TL L0 L->SG L0 EL (OR no) (g.zc0 k (pp L no)) (q.func k (L.map tk))
 vars: ∀no L,TL L0 L->SG L0 EL (λl L' r=>r= .inr (nd 22 l,pp L' no,())) (g.zdW (pp L no)) (q.vars no (L.map tk))
 block: ∀L,TL L0 L->SG L0 EL (OR false) (g.zcx (pp L false)) (q.block (L.map tk))
 head: ∀L,TL L0 L->SG L0 EL (OR false) (g.zcM (pp L false)) (q.head (L.map tk))
 till: ∀s L,TL L0 L->SG L0 ER (OL false) (g.zd1 s (pp L false)) (q.till s (L.map tk))
 loop: ∀L,TL L0 L->SG L0 EL (OR false) (g.zfn (pp L false)) (q.loop (L.map tk))
 stmt: ∀L,TL L0 L->SG L0 EL (OR false) (g.zcv (pp L false)) (q.stmt (L.map tk))
 stmts: ∀f L,TL L0 L->SG L0 ER (OL false) (g.zcf f [125] (pp L false)) (q.stmts f (L.map tk))
noncomputable abbrev RG:=zu
section
variable {L0 L:List zl} {no:Bool} {n M:Nat} (H: ∀k,k<=n->∀N,20*k+20<=N->zzZ L0 (RG N) (pG k)) (hn:n<=10000000000) (hM:20*n+30<=M)
include H hn hM
theorem zKd: ∀(k m:Nat),k<=n->k<=m->∀(x:Node) (L:List zl),TL L0 L->
  SG L0 ER (OL no) (zaH (zgS (RG M)) m (pp L no,0,([]:Str),0,([]:Str),x,([]:List Str),([]:List zf),())) ((pG k).comma no x (L.map tk))
 |0,m,_,_,x,L,ok=>trivial
 |k+1,0,_,hm,x,L,ok=>by omega
 |k+1,m+1,hk,hm,x,L,ok=>by
  show SG _ _ _ _ (zqH (pG k) no x (L.map tk));have ih:=λx L ok=>zKd k m (by omega) (by omega) x L ok
  unfold zqH;rw[zcO];generalize zaH (zgS (RG M)) m=W at ih⊢;unfold zgS;simp only[zav,zt,zI];refine .assoc (.has ok (λh ok'=>?_) λh=>?_)
  ·simp only[yB];rw[<-yM];refine .assoc (.r ((H k (by omega) M (by omega)).assign no _ ok') (λ_ _=>⟨_,rfl,_,rfl⟩) λv L' ok'=>?_);exact ih _ L' ok'
  ·simp only[qz2,yA];exact .gt ok rfl
theorem zRm(ok:TL L0 L):SG L0 ER (OL no) (zjx (RG M) (pp L no)) (zt1 (pG n) no (L.map tk)):=by
 unfold zjx zt1;simp only[zav,zt];refine .r ((H n (yJ _) M (by omega)).assign no L ok) (λ_ _=>⟨_,rfl,_,rfl⟩) λv L' ok'=>?_
 exact .loop (zKd H hn hM n 1000000000000 (yJ _) (by omega) v L' ok') (yJ _)
theorem zKB(least:Int)(hl:least<=100): ∀(k m:Nat),k<=n->k<=m->∀(x:Node) (L:List zl),TL L0 L->
  SG L0 EL (OR no) (zaH (zfR (RG M)) m (least,pp L no,0,([]:Str),0,([]:Str),x,([]:List Str),([]:List zf),())) ((pG k).bins no least x (L.map tk))
 |0,m,_,_,x,L,ok=>trivial
 |k+1,0,_,hm,x,L,ok=>by omega
 |k+1,m+1,hk,hm,x,L,ok=>by
  show SG _ _ _ _ (zkK (pG k) no least x (L.map tk));have ih:=λx L ok=>zKB least hl k m (by omega) (by omega) x L ok
  unfold zkK;rw[zcO];generalize zaH (zfR (RG M)) m=W at ih⊢;unfold zfR;simp only[zav,zt,zI,zLb ok.ok,qz1]
  have hb:(zdB no (L.map tk)).1<=8/\0<=(zdB no (L.map tk)).1:=by
   cases L.map tk with
   |nil=>show(0:Int)<=8/\(0:Int)<=0;decide
   |cons a r=>
    show(if opK a=true then lvS no a.text else(0,0)).1<=8/\0<=(if opK a=true then lvS no a.text else(0,0)).1;unfold lvS
    repeat' split
    all_goals decide
  cases hc:(decide ((zdB no (L.map tk)).1<least)||(zdB no (L.map tk)).1==0)with
  |true=>
   simp only[yB];exact .gt ok rfl
  |false=>
   simp only[qz2,yA]
   have h0:(zdB no (L.map tk)).1≠0:=by
    intro e;rw[e]at hc;simp at hc
   refine .assoc (.take ok (zwf h0) λa ha ok'=>?_);have hw:IntKind.wrap .i64 ((zdB no (L.map tk)).1+1)=(zdB no (L.map tk)).1+1:=wrap_i64 (by omega) (by omega);rw[<-yM];simp only[hw];refine .assoc (.l ((H k (by omega) M (by omega)).binary no _ _ ok' (by omega)) (λ_ _=>⟨_,rfl,_,rfl⟩) λv L' ok'=>?_);simp only[ha];exact ih _ L' ok'
theorem zMN(b:Int)(hb:b<=100)(ok:TL L0 L):SG L0 EL (OR no) (zic (RG M) b (pp L no)) (zik (pG n) no b (L.map tk)):=by
 unfold zic zik;simp only[zav,zt];refine .r ((H n (yJ _) M (by omega)).unary no L ok) (λ_ _=>⟨_,rfl,_,rfl⟩) λv L' ok'=>?_
 exact .loop (zKB H hn hM b hb n 1000000000000 (yJ _) (by omega) v L' ok') (yJ _)
end
theorem SG.map{α β ρ:Type}{L0:List zl}{E:Int->ρ->Prop}{O:α->List zl->ρ->Prop}{O':β->List zl->ρ->Prop}{m:Option ρ}{q:PR α}(φ:α->β)(h:SG L0 E O m q)(ho: ∀v L' r,O v L' r->O' (φ v) L' r):
  SG L0 E O' m (q.bd λp=>Go.D08.gt (φ p.1,p.2)):=by
 cases q with
 |none=>trivial
 |some p=>
  cases p with
  |inl k=>exact h
  |inr p=>
   obtain⟨r,L',e1,e2,e3,e4⟩:=h;exact⟨r,L',e1,e2,e3,ho _ _ _ e4⟩
theorem SG.gt'{α ρ:Type}{L0 L:List zl}{E:Int->ρ->Prop}{O:α->List zl->ρ->Prop}{r:ρ}{v:α}{t:zal}(ok:TL L0 L)(ht:L.map tk=t)(h:O v L r):SG L0 E O (some r) (Go.D08.gt (v,t)):=⟨r,L,rfl,ht,ok,h⟩
section
variable {L0 L:List zl} {no:Bool} {n M:Nat} (H: ∀k,k<=n->∀N,20*k+20<=N->zzZ L0 (RG N) (pG k)) (hn:n<=10000000000) (hM:20*n+30<=M)
include H hn hM
theorem zLU(ok:TL L0 L):SG L0 ER (λv L' r=>r= .inl (pp L' no,v,[],[],())) ((RG M).zdL (pp L no) 0 [] 0 [] [] []) ((pG n).assign false (L.map tk)):=by
 obtain⟨M,rfl⟩: ∃k,M=k+2:=⟨M -2,by omega⟩
 have h1:SG L0 ER (λv L' r=>r= .inl (pp L' false,v,[],[],())) (zhk (RG M) (pp L false) 0 [] 0 [] [] []) ((pG n).assign false (L.map tk)):=by
  unfold zhk;simp only[zav,zt];exact .rr ((H n (yJ _) M (by omega)).assign false L ok) (λ_ _=>⟨_,rfl,_,rfl⟩) λv L'=>⟨_,rfl,rfl⟩
 show SG _ _ _ (zgC (RG (M+1)) (pp L no) 0 [] 0 [] [] []) _;unfold zgC;simp only[zav,zt];exact h1.same (by rintro a _ ⟨y,rfl⟩;exact⟨_,rfl,_,rfl⟩) (by rintro v L' _ _ rfl;exact⟨_,rfl,rfl⟩)
theorem zOX(ok:TL L0 L):SG L0 ER (λv L' r=>r= .inl (pp L' no,v,[],[],())) ((RG M).zdM (pp L no) 0 [] 0 [] [] []) ((pG n).expr false (L.map tk)):=by
 obtain⟨M,rfl⟩: ∃k,M=k+2:=⟨M -2,by omega⟩
 have h1:SG L0 ER (λv L' r=>r= .inl (pp L' false,v,[],[],())) (zih (RG M) (pp L false) 0 [] 0 [] [] []) ((pG n).expr false (L.map tk)):=by
  unfold zih;simp only[zav,zt];exact .rr ((H n (yJ _) M (by omega)).expr false L ok) (λ_ _=>⟨_,rfl,_,rfl⟩) λv L'=>⟨_,rfl,rfl⟩
 show SG _ _ _ (zgI (RG (M+1)) (pp L no) 0 [] 0 [] [] []) _;unfold zgI;simp only[zav,zt];exact h1.same (by rintro a _ ⟨y,rfl⟩;exact⟨_,rfl,_,rfl⟩) (by rintro v L' _ _ rfl;exact⟨_,rfl,rfl⟩)
theorem zNs(ok:TL L0 L):SG L0 ER (λv L' r=>r= .inl (pp L' no,v,[],[],())) ((RG M).zdN (pp L no) 0 [] 0 [] [] []) ((pG n).expr false (L.map tk)):=by
 obtain⟨M,rfl⟩: ∃k,M=k+2:=⟨M -2,by omega⟩
 have h1:SG L0 ER (λv L' r=>r= .inl (pp L' false,v,[],[],())) (zgU (RG M) (pp L false) 0 [] 0 [] [] []) ((pG n).expr false (L.map tk)):=by
  unfold zgU;simp only[zav,zt];exact .rr ((H n (yJ _) M (by omega)).expr false L ok) (λ_ _=>⟨_,rfl,_,rfl⟩) λv L'=>⟨_,rfl,rfl⟩
 show SG _ _ _ (zgQ (RG (M+1)) (pp L no) 0 [] 0 [] [] []) _;unfold zgQ;simp only[zav,zt];exact h1.same (by rintro a _ ⟨y,rfl⟩;exact⟨_,rfl,_,rfl⟩) (by rintro v L' _ _ rfl;exact⟨_,rfl,rfl⟩)
theorem zM4(ok:TL L0 L):SG L0 ER (OL no) (zif (RG M) (pp L no)) (znM (pG n) no (L.map tk)):=by
 have S:=H n (yJ _) M (by omega);unfold zif znM;simp only[zav,zt];refine .l (S.binary no 3 L ok (by decide)) (λ_ _=>⟨_,rfl,_,rfl⟩) λv L1 ok1=>?_
 refine .has ok1 (λh ok2=>?_) λh=>?_
 ·simp only[yB];rw[<-yM];refine(zLU H hn hM ok2).gen (by rintro a _ ⟨y,rfl⟩;exact⟨_,rfl,_,rfl⟩) ?_
  rintro y L3 _ _ ok3 rfl;refine .need ok3 (λ_ _=>⟨_,rfl,_,rfl⟩) λL4 ok4=>?_
  exact .r (S.assign no L4 ok4) (λ_ _=>⟨_,rfl,_,rfl⟩) λz L5 ok5=> .gt ok5 rfl
 ·simp only[qz2,yA];refine .among (ws:=zGu) ok1 (by decide+kernel) (by decide+kernel) (by decide) (λh=>?_) λh=>?_
  ·simp only[yO,qz2,yA,yB];refine .target ok1 (λ_ _=>⟨_,rfl,_,rfl⟩) λht=>?_
   refine .take ok1 (ze8 h) λa ha ok2=>?_
   rw[<-yM];refine .r (S.assign no _ ok2) (λ_ _=>⟨_,rfl,_,rfl⟩) λz L5 ok5=> .gt ok5 ?_
   simp only[ha];rfl
  ·simp only[yN,yB];exact .gt ok1 rfl
theorem zOU(ok:TL L0 L):SG L0 ER (OL no) (ziW (RG M) (pp L no)) (zqa (pG n) (L.map tk)):=by
 have S:=H n (yJ _) M (by omega);unfold ziW zqa;simp only[zav,zt,zI];refine .among (ws:=zxa) ok (by decide+kernel) (by decide+kernel) (by decide) (λh=>?_) λh=>?_
 ·simp only[yB];refine .take ok (ze8 h) λa ha ok2=>?_
  rw[<-yM];refine .r (S.unary no _ ok2) (λ_ _=>⟨_,rfl,_,rfl⟩) λz L5 ok5=> .gt ok5 ?_
  simp only[ha];rfl
 ·simp only[qz2,yA];refine .among (ws:=zkr) ok (by decide+kernel) (by decide+kernel) (by decide) (λh=>?_) λh=>?_
  ·simp only[yB];refine .take ok (ze8 h) λa ha ok2=>?_
   rw[<-yM];refine .r (S.unary no _ ok2) (λ_ _=>⟨_,rfl,_,rfl⟩) λz L5 ok5=>?_
   refine .target ok5 (λ_ _=>⟨_,rfl,_,rfl⟩) λht=> .gt ok5 ?_
   simp only[ha]
  ·simp only[qz2,yA];refine .r (S.made no L ok) (λ_ _=>⟨_,rfl,_,rfl⟩) λx L1 ok1=>?_
   refine .l (S.mems no x true L1 ok1) (λ_ _=>⟨_,rfl,_,rfl⟩) λy L2 ok2=>?_
   simp only;rw[zoG ok2.ok zkr ([32,43,43,32,45,45,32]:Str) (by decide+kernel) (by decide+kernel) (by decide),qz1];obtain⟨a,r,rfl⟩:=ok2.ok.cons;simp only[zfa,qz1];cases h1:zc3 zkr ((a::r).map tk)with
   |false=>
    simp only[yN,yB,qz1,Bool.true_or];exact .gt ok2 rfl
   |true=>
    have hf:a.Fresh=zgm ((a::r).map tk):=rfl;simp only[yO,qz2,yA,qz1,Bool.false_or,hf];cases h2:zgm ((a::r).map tk)with
    |true=>
     simp only[yB];exact .gt ok2 rfl
    |false=>
     simp only[qz2,yA];refine .target ok2 (λ_ _=>⟨_,rfl,_,rfl⟩) λht=>?_
     refine .take ok2 (ze8 h1) λb hb ok3=> .gt' ok3 (by rw[yM]) ?_
     simp only[hb];rfl
theorem zPP(ok:TL L0 L):SG L0 ER (OL no) (zjB (RG M) (pp L no)) (zmN (pG n) (L.map tk)):=by
 have S:=H n (yJ _) M (by omega);unfold zjB zmN;simp only[zav,zt,zI];refine .has ok (λh ok1=>?_) λh=>?_
 ·simp only[yO,qz2,yA];rw[<-yM];refine .r (S.made no _ ok1) (λ_ _=>⟨_,rfl,_,rfl⟩) λx L1 ok1=>?_
  refine .l (S.mems no x false L1 ok1) (λ_ _=>⟨_,rfl,_,rfl⟩) λy L2 ok2=>?_
  refine .has ok2 (λh ok3=>?_) λh=>?_
  ·simp only[yB];rw[<-yM];refine(S.exprs no _ _ _ ok3).gen (by rintro a _ ⟨y,rfl⟩;exact⟨_,rfl,_,rfl⟩) ?_
   rintro l L4 _ hq ok4 rfl;have:=zsr n _ _ _ _ hq;simp only at this;exact .room (by simp only[qz3,qz6];omega) (.gt ok4 rfl)
  ·simp only[qz2,yA];exact .gt ok2 rfl
 ·simp only[yN,yB];exact .rr (S.prim no L ok) (λ_ _=>⟨_,rfl,_,rfl⟩) λv L'=>⟨_,rfl,rfl⟩
theorem zJ3(c:Bool): ∀(k m:Nat),k<=n+1->k<=m->∀(x:Node) (L:List zl),TL L0 L->
  SG L0 EL (OR no) (zaH (zfm (RG M)) m (c,pp L no,x,0,([]:Str),0,([]:Str),([]:List Str),([]:List zf),())) ((pG k).mems c x (L.map tk))
 |0,m,_,_,x,L,ok=>trivial
 |k+1,0,_,hm,x,L,ok=>by omega
 |k+1,m+1,hk,hm,x,L,ok=>by
  have S:=H k (by omega) M (by omega);have hw:=λx L ok=>zJ3 c k m (by omega) (by omega) x L ok
  show SG _ _ _ _ (znR (pG k) c x (L.map tk));unfold znR;rw[zcO];generalize zaH (zfm (RG M)) m=W at hw⊢;unfold zfm;simp only[zav,zt,zI];refine .assoc (.has ok (λh ok1=>?_) λh=>?_)
  ·simp only[yB];rw[<-yM];obtain⟨a,r,hL⟩:=ok1.ok.cons;rw[hL]at ok1⊢;have k1:=zjD ok1 1;have k2:=zjD ok1 2;rw[show((1:Nat):Int)=1 from rfl]at k1;rw[show((2:Nat):Int)=2 from rfl]at k2;simp only[zfa,qz1,bne,k1,k2];cases h1:zak ((a::r).map tk)==1 with
   |true=>
    simp only[yO,qz2,yA,qz1,Bool.true_or,yB];refine .assoc (.take ok1 (zbu h1 (by decide)) λb hb ok3=>?_);have:=hw (ndN 11 (tText ((a::r).map tk)) [x]) r ok3;simp only[hb];exact this
   |false=>
    cases h2:zak ((a::r).map tk)==2 with
    |true=>
     simp only[yO,yN,qz2,yA,yB,qz1,Bool.or_true];refine .assoc (.take ok1 (zbu h2 (by decide)) λb hb ok3=>?_);have:=hw (ndN 11 (tText ((a::r).map tk)) [x]) r ok3;simp only[hb];exact this
    |false=>
     simp only[yN,qz2,yA,yB,qz1,Bool.or_self];exact .assoc (.fail ok1 λa=>⟨_,rfl,_,rfl⟩)
  ·simp only[qz2,yA];refine .assoc (.has ok (λh ok1=>?_) λh=>?_)
   ·simp only[yB];rw[<-yM];refine .assoc ((zNs (λj hj=>H j (by omega)) (by omega) (by omega) ok1).gen (by rintro a _ ⟨y,rfl⟩;exact⟨_,rfl,_,rfl⟩) ?_)
    rintro y L3 _ _ ok3 rfl;refine .assoc (.need ok3 (λ_ _=>⟨_,rfl,_,rfl⟩) λL4 ok4=>?_);exact hw _ L4 ok4
   ·simp only[qz2,yA];cases c with
    |false=>
     simp only[Bool.false_and,qz2,yA];exact .gt ok rfl
    |true=>
     simp only[Bool.true_and,yB];refine .assoc (.has ok (λh ok1=>?_) λh=>?_)
     ·simp only[yB];rw[<-yM];refine .assoc ((S.exprs no _ _ _ ok1).gen (by rintro a _ ⟨y,rfl⟩;exact⟨_,rfl,_,rfl⟩) ?_)
      rintro l L4 _ hq ok4 rfl;have:=zsr k _ _ _ _ hq;simp only at this;exact .assoc (.room (by simp only[qz3,qz6];omega) (hw _ L4 ok4))
     ·simp only[qz2,yA];exact .gt ok rfl
theorem zRc(x:Node)(c:Bool)(ok:TL L0 L):SG L0 EL (OR no) (zhK (RG M) x c (pp L no)) (znR (pG n) c x (L.map tk)):=by
 unfold zhK;simp only[zav,zt];exact .loop (zJ3 H hn hM c (n+1) 1000000000000 (yJ _) (by omega) x L ok) (yJ _)
end
theorem zIH{α:Type}(l:List α)(x:α):zas (l++[x]) ((l.length:Nat):Int)=some x:=by rw[ziq];simp
theorem zKp{α:Type}(l:List α)(x y:α):(l++[x]).set ((l.length:Nat):Int).toNat y=l++[y]:=by simp
section
variable {L0 L:List zl} {no:Bool} {n M:Nat} (H: ∀k,k<=n->∀N,20*k+20<=N->zzZ L0 (RG N) (pG k)) (hn:n<=10000000000) (hM:20*n+30<=M)
include H hn hM
theorem zM2(l:List Node)(hl:l.length<=20000000000)(ok:TL L0 L):SG L0 ER (λv L' r=>r= .inl (pp L' no,l++[v],())) ((RG M).zea (pp L no) l) ((pG n).assign no (L.map tk)):=by
 obtain⟨M,rfl⟩: ∃k,M=k+1:=⟨M -1,by omega⟩
 show SG _ _ _ (zhR (RG M) (pp L no) l) _;unfold zhR;simp only[zav,zt,zI];refine .rr ((H n (yJ _) M (by omega)).assign no L ok) (λ_ _=>⟨_,rfl,_,rfl⟩) λv L'=>⟨.inl (pp L' no,l++[v],()),?_,rfl⟩
 simp only[qz3,qz6,Nat.zero_add];rw[zcQ (by omega)];simp only[qz1,zIH,zKp]
theorem zKn(s:Str)(last:Bool): ∀(k m:Nat),k<=n+1->k<=m->∀(l:List Node) (L:List zl),l.length+k<=n+1->TL L0 L->
  SG L0 ER (λ(v:List Node) L' r=>r= .inl (pp L' false,s,l++v,last,())) (zaH (zeU (RG M)) m (pp L false,s,l,last,())) ((pG k).exprs s last (L.map tk))
 |0,m,_,_,l,L,_,ok=>trivial
 |k+1,0,_,hm,l,L,_,ok=>by omega
 |k+1,m+1,hk,hm,l,L,hl,ok=>by
  show SG _ _ _ _ (zkT (pG k) s last (L.map tk));have ih:=λl L hl ok=>zKn s last k m (by omega) (by omega) l L hl ok
  unfold zkT;rw[zcO];generalize zaH (zeU (RG M)) m=W at ih⊢;unfold zeU;simp only[zav];refine .assoc (.has ok (λh ok1=>?_) λh=>?_)
  ·simp only[yO,qz2,yA];exact .gt' ok1 (by rw[yM]) (by simp)
  ·simp only[yN,yB];refine .assoc ((zM2 (no:=false) (λj hj=>H j (by omega)) (by omega) (by omega) l (by omega) ok).gen (by rintro a _ ⟨y,rfl⟩;exact⟨_,rfl,_,rfl⟩) ?_)
   rintro x L1 _ _ ok1 rfl;refine .assoc (.has ok1 (λh ok2=>?_) λh=>?_)
   ·simp only[yB];exact .gt' ok2 (by rw[yM]) rfl
   ·simp only[qz2,yA];refine .assoc (.need ok1 (λ_ _=>⟨_,rfl,_,rfl⟩) λL2 ok2=>?_)
    have go: ∀L3,TL L0 L3->SG L0 ER (λ(v:List Node) L' r=>r= .inl (pp L' false,s,l++v,last,())) (W (pp L3 false,s,l++[x],last,())) (((pG k).exprs s last (L3.map tk)).bd λq=>gt (x::q.1,q.2)):=λL3 ok3=>
     (ih (l++[x]) L3 (by rw[qz5];simp only[qz3,qz6];omega) ok3).map (λv=>x::v) (by rintro v L' _ rfl;simp)
    cases last with
    |true=>
     simp only[yO,Bool.false_and,qz2,yA];exact go L2 ok2
    |false=>
     simp only[yN,Bool.true_and,yB];refine .assoc (.is ok2 (λh=>?_) λh=>?_)
     ·simp only[yB];exact .assoc (.fail ok2 λa=>⟨_,rfl,_,rfl⟩)
     ·simp only[qz2,yA];exact go L2 ok2
theorem zNN(h9:20*n+39<=M)(s:Str)(last:Bool)(ok:TL L0 L):SG L0 ER (OL no) (zi0 (RG M) s last (pp L no)) (zkT (pG n) s last (L.map tk)):=by
 obtain⟨M,rfl⟩: ∃k,M=k+4:=⟨M -4,by omega⟩
 unfold zi0;show SG _ _ _ ((zfF (RG (M+3)) s last (pp L no) []).bind _) ((pG (n+1)).exprs s last (L.map tk))
 have h1:SG L0 ER (λ(v:List Node) L' r=>r= .inl (pp L' false,s,v,last,())) (zgR (RG (M+1)) (pp L false) s [] last) ((pG (n+1)).exprs s last (L.map tk)):=by
  unfold zgR;simp only[zav];exact .loop (zKn H hn (by omega) s last (n+1) 1000000000000 (yJ _) (by omega) [] L (by simp) ok) (yJ _)
 have h2:SG L0 ER (λ(v:List Node) L' r=>r= .inl (pp L' no,s,v,last,())) (zgV (RG (M+2)) (pp L no) s [] last) ((pG (n+1)).exprs s last (L.map tk)):=by
  unfold zgV;simp only[zav];exact h1.same (by rintro a _ ⟨y,rfl⟩;exact⟨_,rfl,_,rfl⟩) (by rintro v L' _ _ rfl;exact⟨_,rfl,rfl⟩)
 have h3:SG L0 ER (λ(v:List Node) L' r=>r= .inl (pp L' no,v,())) (zfF (RG (M+3)) s last (pp L no) []) ((pG (n+1)).exprs s last (L.map tk)):=by
  unfold zfF;simp only[zav];exact h2.same (by rintro a _ ⟨y,rfl⟩;exact⟨_,rfl,_,rfl⟩) (by rintro v L' _ _ rfl;exact⟨_,rfl,rfl⟩)
 exact h3.same (by rintro a _ ⟨y,rfl⟩;exact⟨_,rfl,_,rfl⟩) (by rintro v L' _ _ rfl;exact⟨_,rfl,rfl⟩)
end
end Go.D08
namespace Go.D08
open Go Go.Gw Go.Dn
set_option maxRecDepth 100000
theorem znr(ws:List Str)(h: ∀w∈ws,w≠[]/\(32:UInt8)∉w)(s:Str):zj7 (joined ws) s=ws.contains s:=by
 unfold zj7;by_cases h0:s=[]
 ·subst h0
  have:ws.contains ([]:Str)=false:=by
   cases hc:ws.contains ([]:Str)with
   |false=>rfl
   |true=>exact absurd rfl (h [] (by simpa using hc)).1
  rw[this];rfl
 ·have e0:(s==([]:Str))=false:=by rw[yH];exact h0
  rw[e0];by_cases h1:(32:UInt8)∈s
  ·have e1:s.contains 32=true:=by simpa using h1
   have:ws.contains s=false:=by
    cases hc:ws.contains s with
    |false=>rfl
    |true=>exact absurd h1 (h s (by simpa using hc)).2
   rw[e1,this];rfl
  ·have e1:s.contains 32=false:=by simpa using h1
   rw[e1,zm1 s h1 ws λw hw=>(h w hw).2];rfl
def lv1(l:List Node):Str:=match l with
 | []=>[]
 |_::_=>[101]
def lv3(l:List Node):Str:=match l with
 |_::_::_::_=>[101,98,98]
 |_=>[101,98]
theorem zMT(l:List Node):zbv ([101]:Str) 0 (if 1< ((l.length:Nat):Int)then 1 else((l.length:Nat):Int))=some (lv1 l):=by
 rw[zTX (zPj _).1 (zPj _).2];cases l with
 |nil=>rfl
 |cons a r=>
  have:(if 1< (((a::r).length:Nat):Int)then(1:Int)else(((a::r).length:Nat):Int))=1:=by simp only[qz3];split<;>omega
  rw[this];rfl
theorem zSI(l:List Node):zbv ([101,98,98]:Str) 0 (let a:=(if 2>((l.length:Nat):Int)then 2 else((l.length:Nat):Int));if 3<a then 3 else a)=some (lv3 l):=by
 rw[zQA (zPm _).1 (zPm _).2]
 match l with
 | []=>rfl
 | [_]=>rfl
 | [_,_]=>rfl
 |a::b::c::r=>
  have:(let a':=(if 2>(((a::b::c::r).length:Nat):Int)then(2:Int)else(((a::b::c::r).length:Nat):Int));if 3<a' then 3 else a')=3:=by simp only[qz3];split<;>split<;>omega
  rw[this];rfl
theorem zS9{x:Node}(h:x.Kind=1):za6 x=some ⟨[],9007199254740991,false,false,[]⟩:=by
 simp[za6,zbN,zaE,zaw,h,zt,zt]
theorem zSr{x:Node}(h:x.Kind=2):za6 x=some ⟨[],0,true,false,[]⟩:=by
 simp[za6,zbN,zaE,zaw,h,zt,zt]
theorem zSf{x:Node}(h:x.Kind=3):za6 x=some ⟨[110],0,false,false,[]⟩:=by
 simp[za6,zbN,zaE,zaw,h,zt,zt]
theorem zSx{x:Node}(h:x.Kind=7):za6 x=some ⟨[],0,false,false,[42,101]⟩:=by
 simp[za6,zbN,zaE,zaw,h,zt,zt]
theorem zSl{x:Node}(h:x.Kind=8):za6 x=some ⟨[],0,false,false,[42,112]⟩:=by
 simp[za6,zbN,zaE,zaw,h,zt,zt]
theorem zSg{x:Node}(h:x.Kind=9):za6 x=some ⟨[],0,true,false,[101]⟩:=by
 simp[za6,zbN,zaE,zaw,h,zt,zt]
theorem zQN{x:Node}(h:x.Kind=10):za6 x=some ⟨[109],0,false,true,[42,120]⟩:=by
 simp[za6,zbN,zaE,zaw,h,zt,zt]
theorem zQc{x:Node}(h:x.Kind=11):za6 x=some ⟨[105],0,false,false,[101]⟩:=by
 simp[za6,zbN,zaE,zaw,h,zt,zt]
theorem zQb{x:Node}(h:x.Kind=12):za6 x=some ⟨[],0,false,false,[101,101]⟩:=by
 simp[za6,zbN,zaE,zaw,h,zt,zt]
theorem zRG{x:Node}(h:x.Kind=13):za6 x=some ⟨[],0,false,false,[101,42,101]⟩:=by
 simp[za6,zbN,zaE,zaw,h,zt,zt]
theorem zRj{x:Node}(h:x.Kind=14):za6 x=some ⟨[],0,false,false,[101,42,101]⟩:=by
 simp[za6,zbN,zaE,zaw,h,zt,zt]
theorem zQK{x:Node}(h:x.Kind=15):za6 x=some ⟨[32,45,32,43,32,33,32,116,121,112,101,111,102,32,100,101,108,101,116,101,32,118,111,105,100,32],0,false,false,[101]⟩:=by
 simp[za6,zbN,zaE,zaw,h,zt,zt]
theorem zQr{x:Node}(h:x.Kind=16):za6 x=some ⟨[32,43,43,32,45,45,32],1,false,false,[116]⟩:=by
 simp[za6,zbN,zaE,zaw,h,zt,zt]
theorem zP3{x:Node}(h:x.Kind=17):za6 x=some ⟨[32,43,32,45,32,42,32,47,32,37,32,60,32,62,32,60,61,32,62,61,32,61,61,32,33,61,32,61,61,61,32,33,61,61,32,105,110,32,105,110,115,116,97,110,99,101,111,102,32],0,false,false,[101,101]⟩:=by
 simp[za6,zbN,zaE,zaw,h,zt,zt]
theorem zP1{x:Node}(h:x.Kind=18):za6 x=some ⟨[32,38,38,32,124,124,32],0,false,false,[101,101]⟩:=by
 simp[za6,zbN,zaE,zaw,h,zt,zt]
theorem zPH{x:Node}(h:x.Kind=19):za6 x=some ⟨[],0,false,false,[101,101,101]⟩:=by
 simp[za6,zbN,zaE,zaw,h,zt,zt]
theorem zRq{x:Node}(h:x.Kind=20):za6 x=some ⟨[32,61,32,43,61,32,45,61,32,42,61,32,47,61,32,37,61,32],0,false,false,[116,101]⟩:=by
 simp[za6,zbN,zaE,zaw,h,zt,zt]
theorem zQO{x:Node}(h:x.Kind=21):za6 x=some ⟨[],0,false,false,[101,101]⟩:=by
 simp[za6,zbN,zaE,zaw,h,zt,zt]
theorem zQI{x:Node}(h:x.Kind=22):za6 x=some ⟨[],0,false,false,[100,42,100]⟩:=by
 simp[za6,zbN,zaE,zaw,h,zt,zt]
theorem zRU{x:Node}(h:x.Kind=23):za6 x=some ⟨[110],0,false,false,lv1 x.L⟩:=by
 simp[za6,zbN,zaE,zaw,h,zt,zt,zMT]
theorem zRK{x:Node}(h:x.Kind=24):za6 x=some ⟨[],0,false,false,[101]⟩:=by
 simp[za6,zbN,zaE,zaw,h,zt,zt]
theorem zRn{x:Node}(h:x.Kind=25):za6 x=some ⟨[],0,false,false,[42,115]⟩:=by
 simp[za6,zbN,zaE,zaw,h,zt,zt]
theorem zQB{x:Node}(h:x.Kind=26):za6 x=some ⟨[],0,false,false,lv3 x.L⟩:=by
 have e:=zSI x.L;simp only at e;simp[za6,zbN,zaE,h,zt,zt,e]
theorem zP4{x:Node}(h:x.Kind=27):za6 x=some ⟨[],0,false,false,[101,98]⟩:=by
 simp[za6,zbN,zaE,zaw,h,zt,zt]
theorem zQv{x:Node}(h:x.Kind=28):za6 x=some ⟨[],0,false,false,[98,101]⟩:=by
 simp[za6,zbN,zaE,zaw,h,zt,zt]
theorem zQC{x:Node}(h:x.Kind=29):za6 x=some ⟨[],0,false,false,[118,102,102,98]⟩:=by
 simp[za6,zbN,zaE,zaw,h,zt,zt]
theorem zRk{x:Node}(h:x.Kind=30):za6 x=some ⟨[],0,false,false,[119,101,98]⟩:=by
 simp[za6,zbN,zaE,zaw,h,zt,zt]
theorem zRa{x:Node}(h:x.Kind=31):za6 x=some ⟨[109],0,false,false,[]⟩:=by
 simp[za6,zbN,zaE,zaw,h,zt,zt]
theorem zPK{x:Node}(h:x.Kind=32):za6 x=some ⟨[109],0,false,false,[]⟩:=by
 simp[za6,zbN,zaE,zaw,h,zt,zt]
theorem zQ5{x:Node}(h:x.Kind=33):za6 x=some ⟨[],0,false,false,lv1 x.L⟩:=by
 simp[za6,zbN,zaE,zaw,h,zt,zt,zMT]
theorem zRQ{x:Node}(h:x.Kind=34):za6 x=some ⟨[],0,false,false,[101]⟩:=by
 simp[za6,zbN,zaE,zaw,h,zt,zt]
theorem zQH{x:Node}(h:x.Kind=35):za6 x=some ⟨[99],0,false,false,[98,99,99]⟩:=by
 simp[za6,zbN,zaE,zaw,h,zt,zt]
theorem zRw{x:Node}(h:x.Kind=36):za6 x=some ⟨[],0,false,false,[101,42,107]⟩:=by
 simp[za6,zbN,zaE,zaw,h,zt,zt]
theorem zQi{x:Node}(h:x.Kind=37):za6 x=some ⟨[],0,false,false,[102,42,115]⟩:=by
 simp[za6,zbN,zaE,zaw,h,zt,zt]
theorem zQF{x:Node}(h:x.Kind=38):za6 x=some ⟨[110],0,false,false,[115]⟩:=by
 simp[za6,zbN,zaE,zaw,h,zt,zt]
theorem zPS{x:Node}(h:x.Kind=39):za6 x=some ⟨[110],0,false,true,[42,120]⟩:=by
 simp[za6,zbN,zaE,zaw,h,zt,zt]
theorem zQT{x:Node}(h:x.Kind=41):za6 x=some ⟨[],0,false,false,[42,120]⟩:=by
 simp[za6,zbN,zaE,zaw,h,zt,zt]
theorem zOy(s:Str):zj7 [32,45,32,43,32,33,32,116,121,112,101,111,102,32,100,101,108,101,116,101,32,118,111,105,100,32] s=zxa.contains s:=by
 rw[show([32,45,32,43,32,33,32,116,121,112,101,111,102,32,100,101,108,101,116,101,32,118,111,105,100,32]:Str)=joined zxa by decide+kernel];exact znr _ (by decide+kernel) s
theorem zN5(s:Str):zj7 [32,43,43,32,45,45,32] s=zkr.contains s:=by
 rw[show([32,43,43,32,45,45,32]:Str)=joined zkr by decide+kernel];exact znr _ (by decide+kernel) s
def zAm:List Str:=[[43],[45],[42],[47],[37],[60],[62],[60,61],[62,61],[61,61],[33,61],[61,61,61],[33,61,61],[105,110],[105,110,115,116,97,110,99,101,111,102]]
theorem zNj(s:Str):zj7 [32,43,32,45,32,42,32,47,32,37,32,60,32,62,32,60,61,32,62,61,32,61,61,32,33,61,32,61,61,61,32,33,61,61,32,105,110,32,105,110,115,116,97,110,99,101,111,102,32] s=zAm.contains s:=by
 rw[show([32,43,32,45,32,42,32,47,32,37,32,60,32,62,32,60,61,32,62,61,32,61,61,32,33,61,32,61,61,61,32,33,61,61,32,105,110,32,105,110,115,116,97,110,99,101,111,102,32]:Str)=joined zAm by decide+kernel];exact znr _ (by decide+kernel) s
def zFb:List Str:=[[38,38],[124,124]]
theorem zN3(s:Str):zj7 [32,38,38,32,124,124,32] s=zFb.contains s:=by
 rw[show([32,38,38,32,124,124,32]:Str)=joined zFb by decide+kernel];exact znr _ (by decide+kernel) s
theorem zNP(s:Str):zj7 [32,61,32,43,61,32,45,61,32,42,61,32,47,61,32,37,61,32] s=zGu.contains s:=by
 rw[show([32,61,32,43,61,32,45,61,32,42,61,32,47,61,32,37,61,32]:Str)=joined zGu by decide+kernel];exact znr _ (by decide+kernel) s
def zaA(x:Node):Bool:=
 if((x.Kind==3||x.Kind==23)||(x.Kind==38||x.Kind==39))=true then zd7 x.Name
 else if((x.Kind==10||x.Kind==31)||x.Kind==32)=true then x.Name==([]:Str)||zd7 x.Name
 else if(x.Kind==11)=true then zqy x.Name
 else if(x.Kind==35)=true then(if(match x.L with| [_,y,_]=>y.Kind==25|_=>false)=true then zd7 x.Name else x.Name==([]:Str))
 else if(x.Kind==15)=true then zxa.contains x.Name
 else if(x.Kind==16)=true then zkr.contains x.Name
 else if(x.Kind==17)=true then zAm.contains x.Name
 else if(x.Kind==18)=true then zFb.contains x.Name
 else if(x.Kind==20)=true then zGu.contains x.Name
 else x.Name==([]:Str)
def zbq(x:Node):Bool:=
 if(x.Kind==1)=true then decide (0<=x.Num)&&decide (x.Num<=9007199254740991)
 else if(x.Kind==6||x.Kind==16)=true then x.Num==0||x.Num==1
 else x.Num==0
def zbj(x:Node):Bool:=(zaA x&&(x.Text==([]:Str)||(x.Kind==2||x.Kind==9)))&&(zcj x.Text&&(zbq x&&((x.Names.isEmpty||(x.Kind==10||x.Kind==39))&&x.Names.all zd7)))
def zY(y:Node)(c:UInt8):Bool:=isP y ((c.toNat:Nat):Int)&&zdm y
def zaI:Str->Option UInt8->List Node->Bool
 | [],some c,l=>l.all λy=>zY y c
 | [],none,l=>l.isEmpty
 |c::cs,m,y::ys=>zY y c&&zaI cs m ys
 |_::_,_,[]=>false
theorem zFl: ∀(cs:Str) (m:Option UInt8) (l:List Node),zaI cs m l=true->cs.length<=l.length/\(m.isSome=true\/l.length<=cs.length)
 | [],some c,l,_=>⟨Nat.zero_le _,.inl rfl⟩
 | [],none,l,h=>by
  cases l with
  |nil=>exact⟨yJ _,.inr (yJ _)⟩
  |cons a r=>cases h
 |c::cs,m,y::ys,h=>by
  simp only[zaI,qz4]at h;obtain⟨h1,h2⟩:=zFl cs m ys h.2;exact⟨by simp only[qz3];omega,h2.imp id λh=>by simp only[qz3];omega⟩
 |_::_,_,[],h=>by cases h
def zAi(m:Option UInt8):Str:=match m with
 |some c=>[c]
 |none=>[]
theorem zGC(x:Node)(ls:Str)(c:UInt8)(hc:ls[ls.length -1]? =some c)(hx: ∀k,znk x k=false)(e:Nat)(he:e<2): ∀(r:List Node) (i:Nat),ls.length -1<=i->zqh x ls (ztu r) i e=r.all λy=>zY y c
 | [],i,hi=>by simp[ztu,zqh,he]
 |k::r,i,hi=>by
  simp only[ztu,zqh,List.all_cons];rw[show min i (ls.length -1)=ls.length -1 by omega,hc];simp only[hx k,qz2,yA,zGC x ls c hc hx e he r (i+1) (by omega),zY]
theorem zE9(x:Node)(m:Option UInt8)(hx: ∀k,znk x k=false): ∀(cs pre:Str) (l:List Node),cs.length<=l.length->(m.isSome=true\/l.length<=cs.length)->zqh x (pre++(cs++zAi m)) (ztu l) pre.length 0=zaI cs m l
 | [],pre,l,h1,h2=>by
  cases m with
  |none=>
   have:l=[]:=List.length_eq_zero_iff.1 (by
    rcases h2 with h2|h2
    ·cases h2
    ·simpa using h2)
   subst this;rfl
  |some c=>
   simp only[zaI,List.nil_append,zAi];exact zGC x _ c (by simp) hx 0 (by omega) l pre.length (by simp)
 |c::cs,pre,[],h1,h2=>by simp at h1
 |c::cs,pre,y::ys,h1,h2=>by
  simp only[ztu,zqh,zaI];have hlt:min pre.length ((pre++(c::cs++zAi m)).length -1)=pre.length:=by simp only[qz5,qz3];omega
  rw[hlt];have:(pre++(c::cs++zAi m))[pre.length]? =some c:=by simp
  rw[this];simp only[hx y,qz2,yA];have ih:=zE9 x m hx cs (pre++[c]) ys (by simpa using h1) (h2.imp id λh=>by simpa using h);rw[show(pre++[c])++(cs++zAi m)=pre++(c::cs++zAi m) by simp]at ih;rw[qz5,List.length_singleton]at ih;rw[ih];rfl
theorem zcR{x:Node}{f:Form}(fx:Str)(m:Option UInt8)(hf:za6 x=some f)(hs:zFp x f=zbj x)(h1:zw6 f.l=fx)(h2:zLw f.l=zAi m)(h3:f.l.contains 42=m.isSome)(h35:x.Kind≠35)(h36:x.Kind≠36):zdm x=(zbj x&&zaI fx m x.L):=by
 have hx: ∀k,znk x k=false:=λk=>by
  have e1:(x.Kind==35)=false:=by rw[yH];exact h35
  have e2:(x.Kind==36)=false:=by rw[yH];exact h36
  simp[znk,e1,e2]
 rw[zF2];unfold zI3;rw[hf];simp only;rw[hs,h1,h2];cases zbj x with
 |false=>rfl
 |true=>
  simp only[Bool.true_and];unfold zuf;rw[h1,h3];by_cases hl:fx.length<=x.L.length/\(m.isSome=true\/x.L.length<=fx.length)
  ·have:=zE9 x m hx fx [] x.L hl.1 hl.2;simp only[List.nil_append,qz6]at this;rw[this]
   have e:(decide (fx.length<=x.L.length)&&(m.isSome||decide (x.L.length<=fx.length)))=true:=by
    simp only[qz4,yQ,yT];exact hl
   rw[e,Bool.true_and]
  ·have e:(decide (fx.length<=x.L.length)&&(m.isSome||decide (x.L.length<=fx.length)))=false:=by
    rw[Bool.eq_false_iff];intro h;simp only[qz4,yQ,yT]at h;exact hl h
   rw[e,Bool.false_and];symm;rw[Bool.eq_false_iff];intro h;exact hl (zFl _ _ _ h)
theorem zbV{x:Node}{f:Form}(hn:zcr x f.name=zaA x)(hm:(decide (0<=x.Num)&&decide (x.Num<=f.num))=zbq x)(ht:f.text=(x.Kind==2||x.Kind==9))(hs:f.names=(x.Kind==10||x.Kind==39)):zFp x f=zbj x:=by
 unfold zFp zbj;rw[hn,hm,ht,hs];generalize zaA x=a1;generalize zbq x=a2;generalize zcj x.Text=a3;generalize (x.Text==([]:Str))=a4;generalize (x.Kind==2||x.Kind==9)=a5;generalize x.Names.isEmpty=a6;generalize (x.Kind==10||x.Kind==39)=a7;generalize x.Names.all zd7=a8;cases a1<;>cases a2<;>cases a3<;>cases a4<;>cases a5<;>cases a6<;>cases a7<;>cases a8<;>rfl
theorem zfb(n:Int):(decide (0<=n)&&decide (n<=0))=(n==0):=by
 rw[Bool.eq_iff_iff];simp only[qz4,yT,beq_iff_eq];omega
theorem num1(n:Int):(decide (0<=n)&&decide (n<=1))=(n==0||n==1):=by
 rw[Bool.eq_iff_iff];simp only[qz4,yQ,yT,beq_iff_eq];omega
theorem zTW{x:Node}(h:x.Kind=1):zdm x=(zbj x&&zaI [] none x.L):=
 zcR [] none (zS9 h) (zbV (by simp[zcr,zaA,h]) (by simp[zbq,h]) (by rw[h];rfl) (by rw[h];rfl)) (rfl) (rfl) (rfl) (by omega) (by omega)
theorem zTH{x:Node}(h:x.Kind=2):zdm x=(zbj x&&zaI [] none x.L):=
 zcR [] none (zSr h) (zbV (by simp[zcr,zaA,h]) (by rw[zfb];simp[zbq,h]) (by rw[h];rfl) (by rw[h];rfl)) (rfl) (rfl) (rfl) (by omega) (by omega)
theorem zTE{x:Node}(h:x.Kind=3):zdm x=(zbj x&&zaI [] none x.L):=
 zcR [] none (zSf h) (zbV (by simp[zcr,zaA,h]) (by rw[zfb];simp[zbq,h]) (by rw[h];rfl) (by rw[h];rfl)) (rfl) (rfl) (rfl) (by omega) (by omega)
theorem zTn{x:Node}(h:x.Kind=7):zdm x=(zbj x&&zaI [] (some 101) x.L):=
 zcR [] (some 101) (zSx h) (zbV (by simp[zcr,zaA,h]) (by rw[zfb];simp[zbq,h]) (by rw[h];rfl) (by rw[h];rfl)) (rfl) (rfl) (rfl) (by omega) (by omega)
theorem zTr{x:Node}(h:x.Kind=8):zdm x=(zbj x&&zaI [] (some 112) x.L):=
 zcR [] (some 112) (zSl h) (zbV (by simp[zcr,zaA,h]) (by rw[zfb];simp[zbq,h]) (by rw[h];rfl) (by rw[h];rfl)) (rfl) (rfl) (rfl) (by omega) (by omega)
theorem zTp{x:Node}(h:x.Kind=9):zdm x=(zbj x&&zaI [101] none x.L):=
 zcR [101] none (zSg h) (zbV (by simp[zcr,zaA,h]) (by rw[zfb];simp[zbq,h]) (by rw[h];rfl) (by rw[h];rfl)) (rfl) (rfl) (rfl) (by omega) (by omega)
theorem zS2{x:Node}(h:x.Kind=10):zdm x=(zbj x&&zaI [] (some 120) x.L):=
 zcR [] (some 120) (zQN h) (zbV (by simp[zcr,zaA,h]) (by rw[zfb];simp[zbq,h]) (by rw[h];rfl) (by rw[h];rfl)) (rfl) (rfl) (rfl) (by omega) (by omega)
theorem zS1{x:Node}(h:x.Kind=11):zdm x=(zbj x&&zaI [101] none x.L):=
 zcR [101] none (zQc h) (zbV (by simp[zcr,zaA,h]) (by rw[zfb];simp[zbq,h]) (by rw[h];rfl) (by rw[h];rfl)) (rfl) (rfl) (rfl) (by omega) (by omega)
theorem zSS{x:Node}(h:x.Kind=12):zdm x=(zbj x&&zaI [101,101] none x.L):=
 zcR [101,101] none (zQb h) (zbV (by simp[zcr,zaA,h]) (by rw[zfb];simp[zbq,h]) (by rw[h];rfl) (by rw[h];rfl)) (rfl) (rfl) (rfl) (by omega) (by omega)
theorem zR4{x:Node}(h:x.Kind=13):zdm x=(zbj x&&zaI [101] (some 101) x.L):=
 zcR [101] (some 101) (zRG h) (zbV (by simp[zcr,zaA,h]) (by rw[zfb];simp[zbq,h]) (by rw[h];rfl) (by rw[h];rfl)) (rfl) (rfl) (rfl) (by omega) (by omega)
theorem zSt{x:Node}(h:x.Kind=14):zdm x=(zbj x&&zaI [101] (some 101) x.L):=
 zcR [101] (some 101) (zRj h) (zbV (by simp[zcr,zaA,h]) (by rw[zfb];simp[zbq,h]) (by rw[h];rfl) (by rw[h];rfl)) (rfl) (rfl) (rfl) (by omega) (by omega)
theorem zTb{x:Node}(h:x.Kind=15):zdm x=(zbj x&&zaI [101] none x.L):=
 zcR [101] none (zQK h) (zbV (by simp[zcr,zaA,h,zOy]) (by rw[zfb];simp[zbq,h]) (by rw[h];rfl) (by rw[h];rfl)) (rfl) (rfl) (rfl) (by omega) (by omega)
theorem zSB{x:Node}(h:x.Kind=16):zdm x=(zbj x&&zaI [116] none x.L):=
 zcR [116] none (zQr h) (zbV (by simp[zcr,zaA,h,zN5]) (by rw[num1];simp[zbq,h]) (by rw[h];rfl) (by rw[h];rfl)) (rfl) (rfl) (rfl) (by omega) (by omega)
theorem zTd{x:Node}(h:x.Kind=17):zdm x=(zbj x&&zaI [101,101] none x.L):=
 zcR [101,101] none (zP3 h) (zbV (by simp[zcr,zaA,h,zNj]) (by rw[zfb];simp[zbq,h]) (by rw[h];rfl) (by rw[h];rfl)) (rfl) (rfl) (rfl) (by omega) (by omega)
theorem zSG{x:Node}(h:x.Kind=18):zdm x=(zbj x&&zaI [101,101] none x.L):=
 zcR [101,101] none (zP1 h) (zbV (by simp[zcr,zaA,h,zN3]) (by rw[zfb];simp[zbq,h]) (by rw[h];rfl) (by rw[h];rfl)) (rfl) (rfl) (rfl) (by omega) (by omega)
theorem zSW{x:Node}(h:x.Kind=19):zdm x=(zbj x&&zaI [101,101,101] none x.L):=
 zcR [101,101,101] none (zPH h) (zbV (by simp[zcr,zaA,h]) (by rw[zfb];simp[zbq,h]) (by rw[h];rfl) (by rw[h];rfl)) (rfl) (rfl) (rfl) (by omega) (by omega)
theorem zTk{x:Node}(h:x.Kind=20):zdm x=(zbj x&&zaI [116,101] none x.L):=
 zcR [116,101] none (zRq h) (zbV (by simp[zcr,zaA,h,zNP]) (by rw[zfb];simp[zbq,h]) (by rw[h];rfl) (by rw[h];rfl)) (rfl) (rfl) (rfl) (by omega) (by omega)
theorem zR3{x:Node}(h:x.Kind=21):zdm x=(zbj x&&zaI [101,101] none x.L):=
 zcR [101,101] none (zQO h) (zbV (by simp[zcr,zaA,h]) (by rw[zfb];simp[zbq,h]) (by rw[h];rfl) (by rw[h];rfl)) (rfl) (rfl) (rfl) (by omega) (by omega)
theorem zSc{x:Node}(h:x.Kind=22):zdm x=(zbj x&&zaI [100] (some 100) x.L):=
 zcR [100] (some 100) (zQI h) (zbV (by simp[zcr,zaA,h]) (by rw[zfb];simp[zbq,h]) (by rw[h];rfl) (by rw[h];rfl)) (rfl) (rfl) (rfl) (by omega) (by omega)
theorem zMW{x:Node}(h:x.Kind=23):zdm x=(zbj x&&zaI (lv1 x.L) none x.L):=
 zcR (lv1 x.L) none (zRU h) (zbV (by simp[zcr,zaA,h]) (by rw[zfb];simp[zbq,h]) (by rw[h];rfl) (by rw[h];rfl)) (by rcases x.L with _| ⟨a,_| ⟨b,_| ⟨c,r⟩⟩⟩<;>rfl) (by rcases x.L with _| ⟨a,_| ⟨b,_| ⟨c,r⟩⟩⟩<;>rfl) (by rcases x.L with _| ⟨a,_| ⟨b,_| ⟨c,r⟩⟩⟩<;>rfl) (by omega) (by omega)
theorem zSy{x:Node}(h:x.Kind=24):zdm x=(zbj x&&zaI [101] none x.L):=
 zcR [101] none (zRK h) (zbV (by simp[zcr,zaA,h]) (by rw[zfb];simp[zbq,h]) (by rw[h];rfl) (by rw[h];rfl)) (rfl) (rfl) (rfl) (by omega) (by omega)
theorem zSF{x:Node}(h:x.Kind=25):zdm x=(zbj x&&zaI [] (some 115) x.L):=
 zcR [] (some 115) (zRn h) (zbV (by simp[zcr,zaA,h]) (by rw[zfb];simp[zbq,h]) (by rw[h];rfl) (by rw[h];rfl)) (rfl) (rfl) (rfl) (by omega) (by omega)
theorem zMq{x:Node}(h:x.Kind=26):zdm x=(zbj x&&zaI (lv3 x.L) none x.L):=
 zcR (lv3 x.L) none (zQB h) (zbV (by simp[zcr,zaA,h]) (by rw[zfb];simp[zbq,h]) (by rw[h];rfl) (by rw[h];rfl)) (by rcases x.L with _| ⟨a,_| ⟨b,_| ⟨c,r⟩⟩⟩<;>rfl) (by rcases x.L with _| ⟨a,_| ⟨b,_| ⟨c,r⟩⟩⟩<;>rfl) (by rcases x.L with _| ⟨a,_| ⟨b,_| ⟨c,r⟩⟩⟩<;>rfl) (by omega) (by omega)
theorem zSo{x:Node}(h:x.Kind=27):zdm x=(zbj x&&zaI [101,98] none x.L):=
 zcR [101,98] none (zP4 h) (zbV (by simp[zcr,zaA,h]) (by rw[zfb];simp[zbq,h]) (by rw[h];rfl) (by rw[h];rfl)) (rfl) (rfl) (rfl) (by omega) (by omega)
theorem zSi{x:Node}(h:x.Kind=28):zdm x=(zbj x&&zaI [98,101] none x.L):=
 zcR [98,101] none (zQv h) (zbV (by simp[zcr,zaA,h]) (by rw[zfb];simp[zbq,h]) (by rw[h];rfl) (by rw[h];rfl)) (rfl) (rfl) (rfl) (by omega) (by omega)
theorem zR7{x:Node}(h:x.Kind=29):zdm x=(zbj x&&zaI [118,102,102,98] none x.L):=
 zcR [118,102,102,98] none (zQC h) (zbV (by simp[zcr,zaA,h]) (by rw[zfb];simp[zbq,h]) (by rw[h];rfl) (by rw[h];rfl)) (rfl) (rfl) (rfl) (by omega) (by omega)
theorem zR8{x:Node}(h:x.Kind=30):zdm x=(zbj x&&zaI [119,101,98] none x.L):=
 zcR [119,101,98] none (zRk h) (zbV (by simp[zcr,zaA,h]) (by rw[zfb];simp[zbq,h]) (by rw[h];rfl) (by rw[h];rfl)) (rfl) (rfl) (rfl) (by omega) (by omega)
theorem zSd{x:Node}(h:x.Kind=31):zdm x=(zbj x&&zaI [] none x.L):=
 zcR [] none (zRa h) (zbV (by simp[zcr,zaA,h]) (by rw[zfb];simp[zbq,h]) (by rw[h];rfl) (by rw[h];rfl)) (rfl) (rfl) (rfl) (by omega) (by omega)
theorem zRX{x:Node}(h:x.Kind=32):zdm x=(zbj x&&zaI [] none x.L):=
 zcR [] none (zPK h) (zbV (by simp[zcr,zaA,h]) (by rw[zfb];simp[zbq,h]) (by rw[h];rfl) (by rw[h];rfl)) (rfl) (rfl) (rfl) (by omega) (by omega)
theorem zSn{x:Node}(h:x.Kind=33):zdm x=(zbj x&&zaI (lv1 x.L) none x.L):=
 zcR (lv1 x.L) none (zQ5 h) (zbV (by simp[zcr,zaA,h]) (by rw[zfb];simp[zbq,h]) (by rw[h];rfl) (by rw[h];rfl)) (by rcases x.L with _| ⟨a,_| ⟨b,_| ⟨c,r⟩⟩⟩<;>rfl) (by rcases x.L with _| ⟨a,_| ⟨b,_| ⟨c,r⟩⟩⟩<;>rfl) (by rcases x.L with _| ⟨a,_| ⟨b,_| ⟨c,r⟩⟩⟩<;>rfl) (by omega) (by omega)
theorem zSL{x:Node}(h:x.Kind=34):zdm x=(zbj x&&zaI [101] none x.L):=
 zcR [101] none (zRQ h) (zbV (by simp[zcr,zaA,h]) (by rw[zfb];simp[zbq,h]) (by rw[h];rfl) (by rw[h];rfl)) (rfl) (rfl) (rfl) (by omega) (by omega)
theorem zSK{x:Node}(h:x.Kind=37):zdm x=(zbj x&&zaI [102] (some 115) x.L):=
 zcR [102] (some 115) (zQi h) (zbV (by simp[zcr,zaA,h]) (by rw[zfb];simp[zbq,h]) (by rw[h];rfl) (by rw[h];rfl)) (rfl) (rfl) (rfl) (by omega) (by omega)
theorem zSq{x:Node}(h:x.Kind=38):zdm x=(zbj x&&zaI [115] none x.L):=
 zcR [115] none (zQF h) (zbV (by simp[zcr,zaA,h]) (by rw[zfb];simp[zbq,h]) (by rw[h];rfl) (by rw[h];rfl)) (rfl) (rfl) (rfl) (by omega) (by omega)
theorem zSu{x:Node}(h:x.Kind=39):zdm x=(zbj x&&zaI [] (some 120) x.L):=
 zcR [] (some 120) (zPS h) (zbV (by simp[zcr,zaA,h]) (by rw[zfb];simp[zbq,h]) (by rw[h];rfl) (by rw[h];rfl)) (rfl) (rfl) (rfl) (by omega) (by omega)
theorem zSj{x:Node}(h:x.Kind=41):zdm x=(zbj x&&zaI [] (some 120) x.L):=
 zcR [] (some 120) (zQT h) (zbV (by simp[zcr,zaA,h]) (by rw[zfb];simp[zbq,h]) (by rw[h];rfl) (by rw[h];rfl)) (rfl) (rfl) (rfl) (by omega) (by omega)
theorem zRi{x:Node}(h:x.Kind=35)(hl: ∃a b c,x.L=[a,b,c]):zFp x ⟨[99],0,false,false,[98,99,99]⟩=zbj x:=by
 obtain⟨a,b,c,hl⟩:=hl;exact zbV (by simp[zcr,zaA,h,hl]) (by rw[zfb];simp[zbq,h]) (by rw[h];rfl) (by rw[h];rfl)
def zJj(l:List Node):Bool:=match l with
 | [a,b,c]=>(zY a 98&&(zY b 99&&zY c 99))&& !(b.Kind==42&&c.Kind==42)
 |_=>false
theorem zSA{x:Node}(h:x.Kind=35):zdm x=(zbj x&&zJj x.L):=by
 rw[zF2];unfold zI3;rw[zQH h];simp only;have he: ∀k,znk x k=(k.Kind==42):=λk=>by simp[znk,h]
 by_cases hl: ∃a b c,x.L=[a,b,c]
 ·rw[zRi h hl];obtain⟨a,b,c,hl⟩:=hl;have e1:zuf x [98,99,99]=true:=by simp[zuf,hl,zw6]
  rw[e1,Bool.and_true,hl];have e2:zw6 [98,99,99]++zLw [98,99,99]=[98,99,99]:=rfl;rw[e2];cases zbj x with
  |false=>rfl
  |true=>
   simp only[Bool.true_and,ztu,zqh,zJj,he]
   have ea:zY a 98=true->(a.Kind==42)=false:=λh=>by
    simp only[zY,qz4]at h;have h1:(a.Kind==25)=true:=h.1;rw[yH];simp only[beq_iff_eq]at h1;omega
   have l0:([98,99,99]:Str)[min 0 (([98,99,99]:Str).length -1)]? =some 98:=rfl;have l1:([98,99,99]:Str)[min (0+1) (([98,99,99]:Str).length -1)]? =some 99:=rfl;have l2:([98,99,99]:Str)[min (0+1+1) (([98,99,99]:Str).length -1)]? =some 99:=rfl;rw[l0,l1,l2];have o1: ∀(y:Node) (c:UInt8),(isP y ((c.toNat:Nat):Int)&&zdm y)=zY y c:=λ_ _=>rfl
   simp only[o1];cases ha:zY a 98 with
   |false=>rfl
   |true=>
    rw[ea ha];cases zY b 99<;>cases zY c 99<;>cases b.Kind==42<;>cases c.Kind==42<;>rfl
 ·have e1:zuf x [98,99,99]=false:=by
   rw[Bool.eq_false_iff];intro hm;simp only[zuf,qz4,yQ,yT]at hm
   have h3:x.L.length=3:=by
    have a1:(zw6 [98,99,99]).length=3:=rfl;have a2:([98,99,99]:Str).contains 42=false:=rfl;rw[a1,a2]at hm;rcases hm with⟨h1,h2|h2⟩
    ·cases h2
    ·omega
   exact hl (by
    rcases hL:x.L with _| ⟨a,_| ⟨b,_| ⟨c,_| ⟨d,r⟩⟩⟩⟩<;>rw[hL]at h3<;>simp at h3
    exact⟨a,b,c,rfl⟩)
  rw[e1,Bool.and_false,Bool.false_and]
  have:zJj x.L=false:=by
   unfold zJj;split
   ·rename_i a b c hL;exact absurd ⟨a,b,c,hL⟩ hl
   ·rfl
  rw[this,Bool.and_false]
def zHL(k:Node):Bool:=match k.L with
 |y::_=>y.Kind==42
 | []=>false
def zow:List Node->Nat->Bool
 | [],e=>decide (e<2)
 |k::r,e=>zY k 107&&zow r (if zHL k=true then e+1 else e)
def zDe(l:List Node):Bool:=match l with
 |a::r=>zY a 101&&zow r 0
 | []=>false
theorem zEz{x:Node}(h:x.Kind=36): ∀(r:List Node) (i e:Nat),1<=i->zqh x [101,107] (ztu r) i e=zow r e
 | [],i,e,hi=>rfl
 |k::r,i,e,hi=>by
  simp only[ztu,zqh,zow];rw[show min i (([101,107]:Str).length -1)=1 by simp only[qz3,qz6];omega]
  simp only[List.getElem?_cons_succ,List.getElem?_cons_zero];show(zY k 107&&_)=_;cases ho:zY k 107 with
  |false=>rfl
  |true=>
   have hk:k.Kind=37:=by
    simp only[zY,qz4]at ho;have h1:(k.Kind==37)=true:=ho.1;simpa using h1
   have:znk x k=zHL k:=by cases hL:k.L<;>simp[znk,zHL,h,hk,hL]
   rw[this,zEz h r (i+1) _ (by omega)]
theorem zRZ{x:Node}(h:x.Kind=36):zdm x=(zbj x&&zDe x.L):=by
 rw[zF2];unfold zI3;rw[zRw h];simp only;rw[zbV (f:=⟨[],0,false,false,[101,42,107]⟩) (by simp[zcr,zaA,h]) (by rw[zfb];simp[zbq,h]) (by rw[h];rfl) (by rw[h];rfl)]
 have e2:zw6 [101,42,107]++zLw [101,42,107]=[101,107]:=rfl;rw[e2];cases zbj x with
 |false=>rfl
 |true=>
  rcases hL:x.L with _| ⟨a,r⟩
  ·simp[zuf,hL,zw6,zDe]
  ·have e1:zuf x [101,42,107]=true:=by simp[zuf,hL,zw6]
   rw[e1];simp only[Bool.true_and,ztu,zqh,zDe];have l0:([101,107]:Str)[min 0 (([101,107]:Str).length -1)]? =some 101:=rfl;rw[l0];show(zY a 101&&_)=_;cases ho:zY a 101 with
   |false=>rfl
   |true=>
    have hk:zug a.Kind=true:=by
     simp only[zY,qz4]at ho;exact ho.1
    have:znk x a=false:=by
     simp only[zug,qz4,yT]at hk;have h2:(a.Kind==37)=false:=by rw[yH];omega
     simp[znk,h,h2]
    simp only[this,qz2,yA,zEz h r (0+1) 0 (by omega)]
theorem zSQ(y:Node):zY y 101=(zug y.Kind&&zdm y):=rfl
end Go.D08
namespace Go.Gw
end Go.Gw
namespace Go.D08
open Go Go.Gw Go.Dn
set_option maxRecDepth 100000
section
variable {g:zV}
end
theorem zmo{y:Node}{c:UInt8}(h:zY y c=true):zdm y=true:=by
 unfold zY at h;rw[qz4]at h;exact h.2
theorem zDi{y:Node}(h:zY y 101=true):zug y.Kind=true/\zdm y=true:=by
 rw[zSQ,qz4]at h;exact h
section
variable {g:zV} {n:Nat}
theorem fmt10(i:Int)(h1:0<=i)(h2:i<=9007199254740991):zgZ i 10=some (Lib.itoa i,()):=by
 have:zeH i 10=some (Lib.itoa i):=by
  unfold zeH;rw[yK (by decide),yL ⟨by omega,by omega,rfl⟩]
 unfold zgZ;rw[this];rfl
end
section
variable {no calls last:Bool} {t t1 t2 t3 t4 t5:zal} {x y z:Node} {v:Node×zal} {l l1 l2:List Node} {least:Int} {s:Str}
structure zUi (a:Tok) (w:Str):Prop where
 op:opK a=true
 text:a.text=w
end
section
variable {g:zV} {n:Nat}
end
theorem zFE{y:Node}{c:UInt8}(h:zY y c=true):isP y ((c.toNat:Nat):Int)=true:=by
 unfold zY at h;rw[qz4]at h;exact h.1
section
variable {g:zV} {n:Nat}
end
def zUk:List Str:=[[40],[41],[91],[93],[123],[125],[46],[44],[58],[59],[63],[116,104,105,115],[110,117,108,108],[116,114,117,101],[102,97,108,115,101],[102,117,110,99,116,105,111,110],[110,101,119],[45],[43],[33],[116,121,112,101,111,102],[100,101,108,101,116,101],[118,111,105,100],[43,43],[45,45],[42],[47],[37],[60],[62],[60,61],[62,61],[61,61],[33,61],[61,61,61],[33,61,61],[105,110],[105,110,115,116,97,110,99,101,111,102],[38,38],[124,124],[61],[43,61],[45,61],[42,61],[47,61],[37,61],[118,97,114],[105,102],[101,108,115,101],[119,104,105,108,101],[100,111],[102,111,114],[98,114,101,97,107],[99,111,110,116,105,110,117,101],[114,101,116,117,114,110],[116,104,114,111,119],[116,114,121],[99,97,116,99,104],[102,105,110,97,108,108,121],[115,119,105,116,99,104],[99,97,115,101],[100,101,102,97,117,108,116]]
structure Cls (c:Str->Tok):Prop where
 op: ∀w∈zUk,zUi (c w) w
 name: ∀s,zd7 s=true->(c s).kind=1/\(c s).text=s
 ident: ∀s,zqy s=true->((c s).kind=1\/(c s).kind=2)/\(c s).text=s
 num: ∀n:Int,0<=n->n<=9007199254740991->(c (Lib.itoa n)).kind=3/\(c (Lib.itoa n)).num=n
 str: ∀s,zcj s=true->s.length<=100000000->(c (zMz s)).kind=4/\(c (zMz s)).text=s
 fresh: ∀s,(c s).fresh=false
 opt: ∀s,opK (c s)=true->(c s).text=s
section
variable (c:Str->Tok)
def T(l:List Str):zal:=l.map c
variable {c}
section
variable (C:Cls c)
include C
end
end
section
variable {c:Str->Tok}
variable (C:Cls c)
include C
end
section
variable {no calls last f o:Bool} {a:Tok} {t r t1 t2 t3 t4 t5:zal} {x y z b d:Node} {v:Node×zal} {l l1 l2:List Node} {s w:Str} {k:Int}
end
section
variable (c:Str->Tok)
variable {c}
variable (C:Cls c)
include C
end
section
variable (c:Str->Tok)
variable {c:Str->Tok}
variable (C:Cls c)
include C
end
section
variable {g:zV} {n:Nat}
end
noncomputable section
def wt(l:List Str):Nat:=(l.map λs=>s.length+1).sum
end
section
variable (c:Str->Tok)
variable {c}
variable (C:Cls c)
include C
def zM5:Tok:=⟨0,[],0,false⟩
end
def zOQ(s:Str):Nat:=s.foldl (λa c=>a*10+(c.toNat -48)) 0
theorem zED: ∀(k u:Nat),u<k->zOQ (Lib.decDigits u)=u/\(∀c∈Lib.decDigits u,zkG c=true)/\Lib.decDigits u≠[]
 |0,u,h=>by omega
 |k+1,u,h=>by
  have hd: ∀d,d<10->(UInt8.ofNat (48+d)).toNat=48+d:=λd hd=>by rw[UInt8.toNat_ofNat'];omega
  have hdig: ∀d,d<10->zkG (UInt8.ofNat (48+d))=true:=λd h=>by unfold zkG;rw[hd d h];simp;omega
  rw[Lib.decDigits];split
  ·rename_i hu;refine⟨?_,?_,by simp⟩
   ·unfold zOQ;simp only[List.foldl_cons,List.foldl_nil];rw[hd u hu];omega
   ·intro c hc;rw[List.mem_singleton.1 hc];exact hdig u hu
  ·rename_i hu;obtain⟨h1,h2,h3⟩:=zED k (u/10) (by omega);refine⟨?_,?_,by simp⟩
   ·unfold zOQ at h1⊢;rw[List.foldl_append,h1];simp only[List.foldl_cons,List.foldl_nil];rw[hd _ (by omega)];omega
   ·intro c hc;rcases List.mem_append.1 hc with hc|hc
    ·exact h2 c hc
    ·rw[List.mem_singleton.1 hc];exact hdig _ (by omega)
theorem zDR(n:Int)(h:0<=n):Lib.itoa n=Lib.decDigits n.toNat:=by unfold Lib.itoa;rw[yK (by omega)]
end Go.D08
namespace Go.D08
open Go Go.Gw Go.Dn Go.Proofs
set_option maxRecDepth 100000
theorem zgd{α β γ:Type}(x:PR α)(f:α×zal->PR β)(g:β×zal->PR γ):(x.bd f).bd g=x.bd λp=>(f p).bd g:=by
 cases x with
 |none=>rfl
 |some p=>cases p<;>rfl
theorem zoV{β γ:Type}(x:PR Unit)(f:zal->PR β)(g:β×zal->PR γ):(x.bn f).bd g=x.bn λp=>(f p).bd g:=zgd x (λq=>f q.2) g
theorem zAD(i:Int)(h1:0<=i)(h2:i<=9007199254740991):(Lib.itoa i).length<=21:=Lib.itoa_length_le i (by omega) (by omega)
theorem itoa_ascii(i:Int)(h1:0<=i): ∀b∈Lib.itoa i,b<128:=by
 rw[zDR i h1];intro b hb;have:=(zED (i.toNat+1) i.toNat (by omega)).2.1 b hb;have h2:=of_decide_eq_true this;have h3:b.toNat<=57:=h2.2;show b.toNat<128;omega
theorem zzq(s:Str):(wide s).length=2*s.length:=by
 induction s with
 |nil=>rfl
 |cons c s ih=>unfold wide at ih⊢;rw[List.flatMap_cons,qz5,ih];simp;omega
theorem zLW(s:Str)(c:UInt8):wide (s++[c])=wide s++[0,c]:=by simp[wide]
theorem zKj(s:Str)(hs:s.length<=1000000000)(h128: ∀b∈s,b<128): ∀(b a:Str),s=a++b->
  zaH zmn (b.length+1) (s,((s.length:Nat):Int),((a.length:Nat):Int),wide a++List.replicate (2*b.length) 0,())=some (wide s,0,())
 | [],a,h=>by
  refine zaG ?_;obtain rfl:s=a:=by rw[h];simp
  have hc: ¬(((s.length:Nat):Int)< ((s.length:Nat):Int)):=by omega
  simp only[zmn,hc,decide_false,qz2,yA,qz6,Nat.mul_zero,List.replicate_zero,List.append_nil]
 |c::b,a,h=>by
  have hlen:s.length=a.length+(b.length+1):=by rw[h];simp
  have hc:((a.length:Nat):Int)< ((s.length:Nat):Int):=by omega
  have hb:c<128:=h128 c (by rw[h];simp)
  have hget:s[a.length]? =some c:=by rw[h];simp
  have hlt: ¬(((c.toNat:Nat):Int)>=128):=by
   have:c.toNat<128:=hb;omega
  have w1:IntKind.wrap .i64 (2*((a.length:Nat):Int))=((2*a.length:Nat):Int):=by rw[wrap_i64 (by omega) (by omega)];omega
  have w2:IntKind.wrap .i64 (((2*a.length:Nat):Int)+1)=((2*a.length+1:Nat):Int):=by rw[wrap_i64 (by omega) (by omega)];omega
  have w3:IntKind.wrap .i64 (((a.length:Nat):Int)+1)=((a.length+1:Nat):Int):=by rw[wrap_i64 (by omega) (by omega)];omega
  have hrow:wide a++List.replicate (2*(b.length+1)) (0:UInt8)=(wide a++[0])++0::List.replicate (2*b.length) 0:=by
   rw[show 2*(b.length+1)=2*b.length+1+1 by omega,List.replicate_succ,List.replicate_succ];simp
  have hl1:(wide a++[0]).length=2*a.length+1:=by rw[qz5,zzq];rfl
  have hg: ∀x,zas ((wide a++[0])++x::List.replicate (2*b.length) (0:UInt8)) ((2*a.length+1:Nat):Int)=some x:=λx=>by
   rw[ziq,<-hl1];simp
  have hset:((wide a++[0])++0::List.replicate (2*b.length) (0:UInt8)).set (((2*a.length+1:Nat):Int)).toNat c=wide (a++[c])++List.replicate (2*b.length) 0:=by
   rw[Int.toNat_natCast,<-hl1,zLW];simp
  have hto:zLB ((c.toNat:Nat):Int)=some c:=by rw[zQG,zCz (by omega) (zTD c)];simp
  have hstep:zmn (s,((s.length:Nat):Int),((a.length:Nat):Int),wide a++List.replicate (2*(b.length+1)) 0,())=some (.inl (s,((s.length:Nat):Int),(((a++[c]).length:Nat):Int),wide (a++[c])++List.replicate (2*b.length) 0,())):=by
   simp only[zmn,hc,decide_true,yB,zix,hget,Option.map_some,qz1,hlt,decide_false,qz2,yA,w1,w2,w3,hrow,hg,hto,hset];rw[qz5];rfl
  rw[qz3,zca hstep];exact zKj s hs h128 b (a++[c]) (by rw[h];simp)
theorem zrD(s:Str)(hs:s.length<=1000000000)(h128: ∀b∈s,b<128):zrO s=some (wide s,0,()):=by
 unfold zrO;have w1:IntKind.wrap .i64 (2*((s.length:Nat):Int))=((2*s.length:Nat):Int):=by rw[wrap_i64 (by omega) (by omega)];omega
 simp only[w1];rw[show zEG ((2*s.length:Nat):Int)=some (2*s.length) by unfold zEG;rw[yL (by omega),Int.toNat_natCast]]
 simp only[qz1];exact zck (zKj s hs h128 s [] rfl) (by omega)
section
variable {α β γ δ ρ σ:Type} {L0 L:List zl} {no:Bool} {E':Int->σ->Prop} {O':β->List zl->σ->Prop}
theorem zSs(ok:TL L0 L):SG L0 ER (OL no) (zlI (pp L no)) (zEn (L.map tk)):=by
 obtain⟨x,r,rfl⟩:=ok.ok.cons;have k4:=zjD ok 4;have k3:=zjD ok 3;have k1:=zjD ok 1;have k2:=zjD ok 2;rw[show((4:Nat):Int)=4 from rfl]at k4;rw[show((3:Nat):Int)=3 from rfl]at k3;rw[show((1:Nat):Int)=1 from rfl]at k1;rw[show((2:Nat):Int)=2 from rfl]at k2;have tl: ∀{k:Nat},(zak ((x::r).map tk)==k)=true->k≠0->TL L0 r:=λh hk=>ok.tail (zbu h hk)
 have tx:=ok.ok.texts x qz7;have asc:=ok.ok.ascii x qz7;have num:=ok.ok.nums x qz7;unfold zlI;simp only[zav,zfa,qz1,k4,k3,k1,k2];show SG _ _ _ _ (if(zak ((x::r).map tk)==4)=true then gt (x.Text,r.map tk)else if(zak ((x::r).map tk)==3)=true then gt (wide (Lib.itoa x.Num),r.map tk)else if(zak ((x::r).map tk)==1||zak ((x::r).map tk)==2)=true then gt (wide x.Text,r.map tk)else bad ((x::r).map tk));cases h4:zak ((x::r).map tk)==4 with
 |true=>
  simp only[yB];exact .take ok (zbu h4 (by decide)) λa ha ok1=> .gt ok1 rfl
 |false=>
  simp only[qz2,yA];cases h3:zak ((x::r).map tk)==3 with
  |true=>
   simp only[yB];have e3:x.Kind=3:=eq_of_beq (k3.trans h3);rw[fmt10 x.Num (num e3).1 (num e3).2];simp only[qz1];refine .take ok (zbu h3 (by decide)) λa ha ok1=>?_
   simp only;rw[zrD (Lib.itoa x.Num) (by have:=zAD x.Num (num e3).1 (num e3).2;omega) (itoa_ascii x.Num (num e3).1)]
   exact .gt ok1 rfl
  |false=>
   simp only[qz2,yA];cases h1:zak ((x::r).map tk)==1 with
   |true=>
    simp only[Bool.true_or,yB];have e1:x.Kind=1:=eq_of_beq (k1.trans h1);refine .take ok (zbu h1 (by decide)) λa ha ok1=>?_
    simp only;rw[zrD x.Text (by omega) (asc (.inl e1))];exact .gt ok1 rfl
   |false=>
    simp only[qz2,yA,Bool.false_or];cases h2:zak ((x::r).map tk)==2 with
    |true=>
     simp only[yB];have e2:x.Kind=2:=eq_of_beq (k2.trans h2);refine .take ok (zbu h2 (by decide)) λa ha ok1=>?_
     simp only;rw[zrD x.Text (by omega) (asc (.inr e2))];exact .gt ok1 rfl
    |false=>
     simp only[qz2,yA];exact .fail ok λa=>⟨_,rfl,_,rfl⟩
end
section
variable {L0 L:List zl} {no:Bool} {n M:Nat} (H: ∀k,k<=n->∀N,20*k+20<=N->zzZ L0 (RG N) (pG k)) (hn:n<=10000000000) (hM:20*n+30<=M)
include H hn hM
theorem zND(l:List Node)(hl:l.length<=20000000000)(ok:TL L0 L):SG L0 EL (λ(v:Node) L' r=>r= .inr (pp L' no,8,[],0,[],[],l++[v],())) ((RG M).zeI (pp L no) 8 [] 0 [] [] l)
  ((zEn (L.map tk)).bd λk=>(zbi [58] k.2).bn λt1=>((pG n).assign no t1).bd λx=>gt (⟨9,[],0,k.1,[],[x.1]⟩,x.2)):=by
 obtain⟨M,rfl⟩: ∃k,M=k+1:=⟨M -1,by omega⟩
 show SG _ _ _ (zib (RG M) (pp L no) 8 [] 0 [] [] l) _;unfold zib;simp only[zav,zt,zI];refine .r (zSs ok) (λ_ _=>⟨_,rfl,_,rfl⟩) λk L1 ok1=>?_
 refine .need ok1 (λ_ _=>⟨_,rfl,_,rfl⟩) λL2 ok2=>?_
 refine .r ((H n (yJ _) M (by omega)).assign no L2 ok2) (λ_ _=>⟨_,rfl,_,rfl⟩) λv L3 ok3=>?_
 simp only[qz3,qz6,Nat.zero_add];rw[zcQ (by omega)];simp only[qz1,zIH,zKp];exact .gt ok3 rfl
theorem zKF: ∀(k m:Nat),k<=n+1->k<=m->∀(l:List Node) (L:List zl),l.length+k<=n+1->TL L0 L->
  SG L0 EL (λ(v:List Node) L' r=>r= .inr (pp L' false,[125],8,[],0,[],[],l++v,true,())) (zaH (zeL (RG M)) m (pp L false,[125],8,[],0,[],[],l,true,())) ((pG k).props (L.map tk))
 |0,m,_,_,l,L,_,ok=>trivial
 |k+1,0,_,hm,l,L,_,ok=>by omega
 |k+1,m+1,hk,hm,l,L,hl,ok=>by
  show SG _ _ _ _ (zl7 (pG k) (L.map tk))
  have e:zl7 (pG k) (L.map tk)=if tIs [125] (L.map tk)=true then gt ([],(L.map tk).tail)else
    ((zEn (L.map tk)).bd λk'=>(zbi [58] k'.2).bn λt1=>((pG k).assign false t1).bd λx=>gt ((⟨9,[],0,k'.1,[],[x.1]⟩:Node),x.2)).bd λx=>
     if tIs [125] x.2=true then gt ([x.1],x.2.tail)else(zbi [44] x.2).bn λt2=>((pG k).props t2).bd λl=>gt (x.1::l.1,l.2):=by
   unfold zl7;simp only[zgd,zoV,zun]
  have ih:=λl L hl ok=>zKF k m (by omega) (by omega) l L hl ok
  rw[e,zcO];generalize zaH (zeL (RG M)) m=W at ih⊢;unfold zeL;simp only[zav];refine .assoc (.has ok (λh ok1=>?_) λh=>?_)
  ·simp only[yO,qz2,yA];exact .gt' ok1 (by rw[yM]) (by simp)
  ·simp only[yN,yB];refine .assoc ((zND (no:=false) (λj hj=>H j (by omega)) (by omega) (by omega) l (by omega) ok).gen (by rintro a _ ⟨y,rfl⟩;exact⟨_,rfl,_,rfl⟩) ?_)
   rintro x L1 _ _ ok1 rfl;refine .assoc (.has ok1 (λh ok2=>?_) λh=>?_)
   ·simp only[yB];exact .gt' ok2 (by rw[yM]) rfl
   ·simp only[qz2,yA];refine .assoc (.need ok1 (λ_ _=>⟨_,rfl,_,rfl⟩) λL2 ok2=>?_);simp only[yO,qz2,yA];exact(ih (l++[x]) L2 (by rw[qz5];simp only[qz3,qz6];omega) ok2).map (λv=>x::v) (by rintro v L' _ rfl;simp)
theorem zN7(h9:20*n+39<=M)(ok:TL L0 L):SG L0 EL (λ(l:List Node) L' r=>r= .inr (pp L' no,8,[],0,[],[],l,())) (zhQ (RG M) [125] true (pp L no) 8 [] 0 [] [] []) (zl7 (pG n) (L.map tk)):=by
 obtain⟨M,rfl⟩: ∃k,M=k+2:=⟨M -2,by omega⟩
 show SG _ _ _ _ ((pG (n+1)).props (L.map tk))
 have h1:SG L0 EL (λ(v:List Node) L' r=>r= .inr (pp L' false,[125],8,[],0,[],[],v,true,())) (zgH (RG M) (pp L false) [125] 8 [] 0 [] [] [] true) ((pG (n+1)).props (L.map tk)):=by
  unfold zgH;simp only[zav];exact .loop (zKF H hn (by omega) (n+1) 1000000000000 (yJ _) (by omega) [] L (by simp) ok) (yJ _)
 have h2:SG L0 EL (λ(v:List Node) L' r=>r= .inr (pp L' no,[125],8,[],0,[],[],v,true,())) (zgF (RG (M+1)) (pp L no) [125] 8 [] 0 [] [] [] true) ((pG (n+1)).props (L.map tk)):=by
  unfold zgF;simp only[zav];exact h1.same (by rintro a _ ⟨y,rfl⟩;exact⟨_,rfl,_,rfl⟩) (by rintro v L' _ _ rfl;exact⟨_,rfl,rfl⟩)
 unfold zhQ;simp only[zav];exact h2.same (by rintro a _ ⟨y,rfl⟩;exact⟨_,rfl,_,rfl⟩) (by rintro v L' _ _ rfl;exact⟨_,rfl,rfl⟩)
theorem zRL(h9:20*n+35<=M)(ok:TL L0 L)(h1:(zak (L.map tk)==1)=false)(h3:(zak (L.map tk)==3)=false)(h4:(zak (L.map tk)==4)=false):SG L0 ER (OL no) ((RG M).zfq (pp L no)) (znQ (pG n) (L.map tk)):=by
 obtain⟨M,rfl⟩: ∃k,M=k+1:=⟨M -1,by omega⟩
 have S:=H n (yJ _) M (by omega);show SG _ _ _ (zjH (RG M) (pp L no)) _;unfold zjH znQ;simp only[zav,zt,h1,h3,h4,qz2,yA];refine .has ok (λh ok1=> .gt' ok1 (by rw[yM]) rfl) λh=>?_
 simp only[qz2,yA];refine .has ok (λh ok1=> .gt' ok1 (by rw[yM]) rfl) λh=>?_
 simp only[qz2,yA];refine .has ok (λh ok1=> .gt' ok1 (by rw[yM]) rfl) λh=>?_
 simp only[qz2,yA];refine .has ok (λh ok1=> .gt' ok1 (by rw[yM]) rfl) λh=>?_
 simp only[qz2,yA];refine .has ok (λh ok1=>?_) λh=>?_
 ·simp only[yB];rw[<-yM];exact .ll (S.func no 10 _ ok1) (λ_ _=>⟨_,rfl,_,rfl⟩) λv L'=>⟨_,rfl,rfl⟩
 simp only[qz2,yA];refine .has ok (λh ok1=>?_) λh=>?_
 ·simp only[yB];rw[<-yM];refine(zOX H hn (by omega) ok1).gen (by rintro a _ ⟨y,rfl⟩;exact⟨_,rfl,_,rfl⟩) ?_
  rintro y L3 _ _ ok3 rfl;exact .need ok3 (λ_ _=>⟨_,rfl,_,rfl⟩) λL4 ok4=> .gt ok4 rfl
 simp only[qz2,yA];refine .has ok (λh ok1=>?_) λh=>?_
 ·simp only[yB];rw[<-yM];exact .r (S.exprs no _ _ _ ok1) (λ_ _=>⟨_,rfl,_,rfl⟩) λl L4 ok4=> .gt ok4 rfl
 simp only[qz2,yA];refine .has ok (λh ok1=>?_) λh=>?_
 ·simp only[yB];rw[<-yM];refine(S.props no _ ok1).gen (by rintro a _ ⟨y,rfl⟩;exact⟨_,rfl,_,rfl⟩) ?_
  rintro l L3 _ _ ok3 rfl;exact .gt ok3 rfl
 simp only[qz2,yA];exact .fail ok λa=>⟨_,rfl,_,rfl⟩
theorem zQ8(h9:20*n+39<=M)(ok:TL L0 L):SG L0 ER (OL no) (zhM (RG M) (pp L no)) (znQ (pG n) (L.map tk)):=by
 have hs:=zRL (no:=no) H hn hM (by omega) ok;obtain⟨x,r,rfl⟩:=ok.ok.cons;have k4:=zjD ok 4;have k3:=zjD ok 3;have k1:=zjD ok 1;rw[show((4:Nat):Int)=4 from rfl]at k4;rw[show((3:Nat):Int)=3 from rfl]at k3;rw[show((1:Nat):Int)=1 from rfl]at k1;unfold zhM;simp only[zav,zt,zfa,qz1,k4,k3,k1];cases h1:zak ((x::r).map tk)==1 with
 |true=>
  unfold znQ;simp only[h1,yB];exact .take ok (zbu h1 (by decide)) λa ha ok1=> .gt ok1 rfl
 |false=>
  simp only[qz2,yA];cases h3:zak ((x::r).map tk)==3 with
  |true=>
   unfold znQ;simp only[h1,h3,yB,qz2,yA];exact .take ok (zbu h3 (by decide)) λa ha ok1=> .gt ok1 rfl
  |false=>
   simp only[qz2,yA];cases h4:zak ((x::r).map tk)==4 with
   |true=>
    unfold znQ;simp only[h1,h3,h4,yB,qz2,yA];exact .take ok (zbu h4 (by decide)) λa ha ok1=> .gt ok1 rfl
   |false=>
    simp only[qz2,yA];exact .rr (hs h1 h3 h4) (λ_ _=>⟨_,rfl,_,rfl⟩) λv L'=>⟨_,rfl,rfl⟩
end
end Go.D08
