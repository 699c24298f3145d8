/- Texts for a statement of this seat. -/
import Derived.Test.YtdapbipagjmolaaGreatDoorMb3
set_option linter.unusedSectionVars false
set_option linter.unusedVariables false
set_option linter.unusedSimpArgs false
set_option linter.unnecessarySimpa false
namespace Go.D08.U
open Go Go.Gw Go.Dn Go.Proofs
set_option maxRecDepth 100000
def zat:Str->List Nat
 |a::b::r=>(a.toNat*256+b.toNat)::zat r
 |_=>[]
def enc1(n:Nat):Str:=[UInt8.ofNat (n/256),UInt8.ofNat (n%256)]
def zd8(l:List Nat):Str:=l.flatMap enc1
theorem zfl: ∀u:Str,(zat u).length=u.length/2
 | []=>rfl
 | [_]=>by simp[zat]
 |a::b::r=>by simp only[zat,qz3,zfl r];omega
theorem zmE: ∀(u:Str) (n:Nat),n∈zat u->n<65536
 | [],_,h=>by cases h
 | [_],_,h=>by cases h
 |a::b::r,n,h=>by
  simp only[zat,yP]at h;rcases h with h|h
  ·have:=a.toNat_lt;have:=b.toNat_lt;omega
  ·exact zmE r n h
theorem zjQ(l:List Nat):(zd8 l).length=2*l.length:=by
 induction l with
 |nil=>rfl
 |cons n l ih=>unfold zd8 at ih⊢;rw[List.flatMap_cons,qz5,ih];simp[enc1];omega
theorem zq0: ∀(u:Str) (i:Nat),i<u.length/2->∃a b,u[2*i]? =some a/\u[2*i+1]? =some b/\(zat u)[i]? =some (a.toNat*256+b.toNat)
 | [],i,h=>by simp at h
 | [_],i,h=>by simp at h
 |a::b::r,0,_=>⟨a,b,rfl,rfl,rfl⟩
 |a::b::r,i+1,h=>by
  obtain⟨x,y,h1,h2,h3⟩:=zq0 r i (by simp only[qz3]at h;omega)
  refine⟨x,y,?_,?_,?_⟩
  ·have:2*(i+1)=2*i+1+1:=by omega
   rw[this];simpa using h1
  ·have:2*(i+1)+1=2*i+1+1+1:=by omega
   rw[this];simpa using h2
  ·simpa [zat]using h3
def za1(k:Nat):UInt8:=if k<10 then UInt8.ofNat (48+k)else UInt8.ofNat (87+k)
def zdp(n:Nat):Str:=
 if n=34 then[92,34]else if n=92 then[92,92]else if n=8 then[92,98]else if n=9 then[92,116]else if n=10 then[92,110]else if n=12 then[92,102]else if n=13 then[92,114]
 else if n<32\/n>126 then[92,117,za1 (n/4096),za1 (n/256%16),za1 (n/16%16),za1 (n%16)]else[UInt8.ofNat n]
def zaV(l:List Nat):Str:=l.flatMap zdp
theorem zp2(n:Nat):(zdp n).length<=6:=by
 unfold zdp;split<;>(try split)<;>(try split)<;>(try split)<;>(try split)<;>(try split)<;>(try split)<;>(try split)<;>simp
theorem zl6(l:List Nat):(zaV l).length<=6*l.length:=by
 induction l with
 |nil=>simp[zaV]
 |cons n l ih=>unfold zaV at ih⊢;rw[List.flatMap_cons,qz5];have:=zp2 n;simp only[qz3];omega
theorem zBp(l:List Nat)(n:Nat):zaV (l++[n])=zaV l++zdp n:=by simp[zaV]
def hexV(b:UInt8):Option Nat:=
 if 48<=b.toNat/\b.toNat<=57 then some (b.toNat -48)else if 97<=b.toNat/\b.toNat<=102 then some (b.toNat -87)else if 65<=b.toNat/\b.toNat<=70 then some (b.toNat -55)else none
def hexN:Nat->Str->Nat->Option Nat
 |0,_,a=>some a
 |_+1,[],_=>none
 |k+1,b::r,a=>match hexV b with
  |none=>none
  |some d=>hexN k r (16*a+d)
theorem zKr{b:UInt8}{d:Nat}(h:hexV b=some d):d<16:=by
 unfold hexV at h;split at h
 ·simp only[Option.some.injEq]at h;omega
 ·split at h
  ·simp only[Option.some.injEq]at h;omega
  ·split at h
   ·simp only[Option.some.injEq]at h;omega
   ·cases h
theorem zvB: ∀(k:Nat) (s:Str) (a n:Nat),hexN k s a=some n->n<16^k*(a+1)
 |0,s,a,n,h=>by simp only[hexN,Option.some.injEq]at h;omega
 |k+1,[],a,n,h=>by cases h
 |k+1,b::r,a,n,h=>by
  simp only[hexN]at h;cases hv:hexV b with
  |none=>rw[hv]at h;cases h
  |some d=>
   rw[hv]at h;have h1:=zvB k r _ n h;have h2:=zKr hv;have h3:16^k*(16*a+d+1)<=16^k*(16*(a+1)):=Nat.mul_le_mul_left _ (by omega);have h4:16^(k+1)*(a+1)=16^k*(16*(a+1)):=by rw[Nat.pow_succ,Nat.mul_assoc]
   omega
def zmL(b:UInt8):Option Nat:=
 if b=110 then some 10 else if b=116 then some 9 else if b=114 then some 13 else if b=98 then some 8 else if b=102 then some 12 else if b=118 then some 11
 else if b.toNat>127\/b=13\/b=120\/b=117\/(48<=b.toNat/\b.toNat<=57)\/b=10 then none else some b.toNat
def zrl:Str->Option (List Nat×Nat)
 | []=>none
 |c::r=>
  if c=10 then some ([],1)
  else if c=48 then(match r with
   | []=>some ([0],1)
   |d::_=>if 48<=d.toNat/\d.toNat<=57 then none else some ([0],1))
  else if c=120 then(hexN 2 r 0).map λn=>([n],3)
  else if c=117 then(hexN 4 r 0).map λn=>([n],5)
  else(zmL c).map λn=>([n],1)
theorem zwJ: ∀(k:Nat) (s:Str) (a n:Nat),hexN k s a=some n->k<=s.length
 |0,s,a,n,h=>by omega
 |k+1,[],a,n,h=>by cases h
 |k+1,b::r,a,n,h=>by
  simp only[hexN]at h;cases hv:hexV b with
  |none=>rw[hv]at h;cases h
  |some d=>rw[hv]at h;have:=zwJ k r _ n h;simp only[qz3];omega
theorem zLn{b:UInt8}{n:Nat}(h:zmL b=some n):n<256:=by
 have hb:=b.toNat_lt;unfold zmL at h
 repeat' split at h
 all_goals first| (cases h;done)| (simp only[Option.some.injEq]at h;omega)
theorem zOM{s:Str}{us:List Nat}{k:Nat}(h:zrl s=some (us,k)):(∀n∈us,n<65536)/\us.length<=1/\1<=k/\k<=s.length:=by
 cases s with
 |nil=>cases h
 |cons c r=>
  simp only[zrl]at h;by_cases h1:c=10
  ·rw[yL h1]at h;cases h;simp
  ·rw[yK h1]at h;by_cases h2:c=48
   ·rw[yL h2]at h;cases r with
    |nil=>cases h;simp
    |cons d r=>
     simp only at h;split at h
     ·cases h
     ·cases h;simp
   ·rw[yK h2]at h;by_cases h3:c=120
    ·rw[yL h3]at h;cases hn:hexN 2 r 0 with
     |none=>rw[hn]at h;cases h
     |some n=>
      rw[hn]at h;cases h;have:=zvB _ _ _ _ hn;have:=zwJ _ _ _ _ hn;simp;omega
    ·rw[yK h3]at h;by_cases h4:c=117
     ·rw[yL h4]at h;cases hn:hexN 4 r 0 with
      |none=>rw[hn]at h;cases h
      |some n=>
       rw[hn]at h;cases h;have:=zvB _ _ _ _ hn;have:=zwJ _ _ _ _ hn;simp;omega
     ·rw[yK h4]at h;cases hn:zmL c with
      |none=>rw[hn]at h;cases h
      |some n=>
       rw[hn]at h;cases h;have:=zLn hn;simp;omega
/-! ### the program's digits -/
theorem zlC{α:Type}(p:α->Bool): ∀l:List α,l.dropWhile p=[]↔∀x∈l,p x=true
 | []=>by simp
 |a::l=>by
  cases h:p a with
  |true=>rw[List.dropWhile_cons_of_pos h,zlC p l];simp[h]
  |false=>
   rw[List.dropWhile_cons_of_neg (by simp[h])];simp[h]
theorem zu0{α:Type}(p:α->Bool): ∀(l:List α) (b:α) (r:List α),l.dropWhile p=b::r->p b=false
 | [],b,r,h=>by cases h
 |a::l,b,r,h=>by
  cases hp:p a with
  |true=>rw[List.dropWhile_cons_of_pos hp]at h;exact zu0 p l b r h
  |false=>
   rw[List.dropWhile_cons_of_neg (by simp[hp])]at h;cases h;exact hp
theorem zOt(l cs:Str):(Lib.trimS l cs==([]:Str))=l.all (cs.contains ·):=by
 unfold Lib.trimS Lib.trimLeftS Lib.trimRightS;rw[Bool.eq_iff_iff];rw[beq_iff_eq,zlC,List.all_eq_true];constructor
 ·intro h;rcases hd:l.reverse.dropWhile (cs.contains ·)with _| ⟨b,r⟩
  ·rw[zlC]at hd;intro x hx;exact hd x (by simpa using hx)
  ·exfalso;have h1:=zu0 _ _ _ _ hd;have h2:=h b (by rw[hd];simp)
   rw[h1]at h2;cases h2
 ·intro h x hx;have:=(List.dropWhile_suffix (cs.contains ·) (l:=l.reverse)).subset (by simpa using hx);exact h x (by simpa using this)
def zGI:Str:=[48,49,50,51,52,53,54,55,56,57,97,98,99,100,101,102,65,66,67,68,69,70]
theorem zOv: ∀b:Fin 256,zGI.contains (UInt8.ofNat b.val)=(hexV (UInt8.ofNat b.val)).isSome:=by decide+kernel
theorem zWU(b:UInt8): ∃k:Fin 256,b=UInt8.ofNat k.val:=⟨⟨b.toNat,b.toNat_lt⟩,by simp⟩
theorem zHN(b:UInt8):zGI.contains b=(hexV b).isSome:=by
 obtain⟨k,rfl⟩:=zWU b;exact zOv k
theorem zBx: ∀(s:Str) (a:Nat),(hexN s.length s a).isSome=s.all (zGI.contains ·)
 | [],a=>rfl
 |b::r,a=>by
  simp only[qz3,hexN,List.all_cons,zHN];cases hv:hexV b with
  |none=>simp
  |some d=>
   simp only[Option.isSome_some,Bool.true_and];rw[zBx r];congr 1;funext x;exact zHN x
theorem zAy: ∀(k:Nat) (s:Str) (a:Nat),k<=s.length->hexN k (s.take k) a=hexN k s a
 |0,s,a,_=>rfl
 |k+1,[],a,h=>by simp at h
 |k+1,b::r,a,h=>by
  simp only[List.take_succ_cons,hexN];cases hexV b with
  |none=>rfl
  |some d=>simp only;exact zAy k r _ (by simpa using h)
def zfV(q:UInt8):Nat->Str->List Nat->Option (List Nat×Nat)
 |0,_,_=>none
 |_+1,[],_=>none
 |m+1,c::r,acc=>
  if c=q then some (acc,r.length)
  else if c=10\/c=13\/c.toNat>127 then none
  else if c=92 then(match zrl r with
   |none=>none
   |some (us,k)=>zfV q m (r.drop k) (acc++us))
  else zfV q m r (acc++[c.toNat])
def zfd(s:Str):Str×Int×Int:=
 match s with
 | []=>([],0,10)
 |q::r=>if q=39\/q=34 then(match zfV q (r.length+1) r []with
   |none=>([],0,10)
   |some (us,k)=>(zd8 us,((s.length -k:Nat):Int),0))else([],0,10)
theorem zty(b:UInt8)(n:Nat)(h:n<256):b=UInt8.ofNat n↔b.toNat=n:=by
 constructor
 ·intro e;subst e;simp[UInt8.toNat_ofNat'];omega
 ·intro e;apply UInt8.toNat_inj.mp;simp[UInt8.toNat_ofNat'];omega
theorem zoP(a b:Nat):(((a:Nat):Int)==((b:Nat):Int))=decide (a=b):=by
 by_cases h:a=b
 ·simp[h]
 ·simp[h];omega
def okU(l:List Nat):Prop:=∀n∈l,n<65536
def zua(q:UInt8)(s:Str)(m:Nat)(rest:Str)(acc:List Nat):Str×Int×Int:=match zfV q m rest acc with
 |none=>([],0,10)
 |some (us,k)=>(zd8 us,((s.length -k:Nat):Int),0)
theorem zOF(c:UInt8)(n:Nat)(h:n<256):(((c.toNat:Nat):Int) !=((n:Nat):Int))= !decide (c=UInt8.ofNat n):=by
 simp only[bne,zoP];congr 1;rw[decide_eq_decide];exact(zty c n h).symm
theorem ztE: ∀k:Fin 16,hexV (za1 k.val)=some k.val:=by decide
theorem zNy(n:Nat)(hn:n<65536)(r:Str):hexN 4 (za1 (n/4096)::za1 (n/256%16)::za1 (n/16%16)::za1 (n%16)::r) 0=some n:=by
 have h1:=ztE ⟨n/4096,by omega⟩;have h2:=ztE ⟨n/256%16,by omega⟩;have h3:=ztE ⟨n/16%16,by omega⟩;have h4:=ztE ⟨n%16,by omega⟩;simp only at h1 h2 h3 h4;simp only[hexN,h1,h2,h3,h4];congr 1;omega
theorem zG6(m n:Nat)(hn:n<65536)(r:Str)(acc:List Nat):zfV 34 (m+1) (zdp n++r) acc=zfV 34 m r (acc++[n]):=by
 unfold zdp;by_cases h34:n=34
 ·subst h34;rfl
 by_cases h92:n=92
 ·subst h92;rfl
 by_cases h8:n=8
 ·subst h8;rfl
 by_cases h9:n=9
 ·subst h9;rfl
 by_cases h10:n=10
 ·subst h10;rfl
 by_cases h12:n=12
 ·subst h12;rfl
 by_cases h13:n=13
 ·subst h13;rfl
 simp only[h34,h92,h8,h9,h10,h12,h13,yA];by_cases hx:n<32\/n>126
 ·simp only[hx,yB,yI,List.nil_append]
  have he:zrl (117::za1 (n/4096)::za1 (n/256%16)::za1 (n/16%16)::za1 (n%16)::r)=some ([n],5):=by
   simp only[zrl];rw[yK (by decide),yK (by decide),yK (by decide),yL trivial,zNy n hn r];rfl
  conv=>lhs;unfold zfV
  rw[yK (by decide),yK (by decide),yL rfl,he];rfl
 ·simp only[hx,yA,yI,List.nil_append];have e:(UInt8.ofNat n).toNat=n:=by simp[UInt8.toNat_ofNat'];omega
  have ne: ∀k:Nat,k<256->n≠k->UInt8.ofNat n≠UInt8.ofNat k:=by
   intro k hk h1 h2;have h3:=congrArg UInt8.toNat h2;rw[e]at h3;have e2:(UInt8.ofNat k).toNat=k:=by simp[UInt8.toNat_ofNat'];omega
   rw[e2]at h3;exact h1 h3
  conv=>lhs;unfold zfV
  have n34: ¬UInt8.ofNat n=34:=ne 34 (by omega) h34;have n10: ¬UInt8.ofNat n=10:=ne 10 (by omega) h10;have n13: ¬UInt8.ofNat n=13:=ne 13 (by omega) h13;have n92: ¬UInt8.ofNat n=92:=ne 92 (by omega) h92;have n127: ¬(UInt8.ofNat n).toNat>127:=by rw[e];omega
  rw[yK n34,yK (by rintro(h|h|h);exact n10 h;exact n13 h;exact n127 h),yK n92,e]
theorem zJg(behind:Str): ∀(l acc:List Nat) (m:Nat),okU l->l.length<m->zfV 34 m (zaV l++34::behind) acc=some (acc++l,behind.length):=by
 intro l;induction l with
 |nil=>
  intro acc m h1 h2;obtain⟨m,rfl⟩: ∃k,m=k+1:=⟨m -1,by simp at h2;omega⟩
  simp only[zaV,List.flatMap_nil,List.nil_append,List.append_nil];unfold zfV;rw[yL rfl]
 |cons n l ih=>
  intro acc m h1 h2;obtain⟨m,rfl⟩: ∃k,m=k+1:=⟨m -1,by simp at h2;omega⟩
  have e:zaV (n::l)++34::behind=zdp n++(zaV l++34::behind):=by simp[zaV]
  rw[e,zG6 m n (h1 n qz7),ih _ m (λk hk=>h1 k (qz8 _ hk)) (by simp only[qz3]at h2;omega)]
  simp
theorem zMb(n:Nat):1<=(zdp n).length:=by
 unfold zdp;repeat' split
 all_goals simp
theorem zDP: ∀l:List Nat,l.length<=(zaV l).length
 | []=>by simp
 |n::l=>by
  have:=zDP l;have h1:=zMb n;have e:zaV (n::l)=zdp n++zaV l:=by simp[zaV]
  rw[e,qz5,qz3];omega
end Go.D08.U
namespace Go.D08.U
open Go Go.Gw Go.Dn Go.Proofs
set_option maxRecDepth 100000
open Go.Proofs
/-! ### numbers, signs, tokens -/
def zei(base:Nat):Str->Nat->Option Nat
 | [],a=>some a
 |c::r,a=>match hexV c with
  |none=>none
  |some d=>if d<base then zei base r (a*base+d)else none
def zCj(ds:Str):Option Nat:=
 if 2<ds.length/\(ds.take 2=[48,120]\/ds.take 2=[48,88])then zei 16 (ds.drop 2) 0
 else if 1<ds.length/\ds.head?=some 48 then none
 else zei 10 ds 0
def zpJ(s:Str):Option (Nat×Nat):=
 if s[zbz s]? =some 46 then none
 else match zCj (s.take (zbz s))with
  |none=>none
  |some n=>if n<=9007199254740991 then some (n,zbz s)else none
def zoM:List Str:=[[61,61,61],[33,61,61]]
def zqM:List Str:=[[60,61],[62,61],[61,61],[33,61],[43,43],[45,45],[38,38],[124,124],[43,61],[45,61],[42,61],[47,61],[37,61]]
def zAY:Str:=[123,125,40,41,91,93,46,59,44,60,62,43,45,42,47,37,33,63,58,61]
def zdx(s:Str):Nat:=
 if 2<s.length/\zoM.contains (s.take 3)=true then 3
 else if 1<s.length/\zqM.contains (s.take 2)=true then 2
 else if zAY.contains (s.headD 0)then 1 else 0
def zNB:List Str:=[[98,114,101,97,107],[99,97,115,101],[99,97,116,99,104],[99,108,97,115,115],[99,111,110,115,116],[99,111,110,116,105,110,117,101],[100,101,98,117,103,103,101,114],[100,101,102,97,117,108,116],[100,101,108,101,116,101],[100,111],[101,108,115,101],[101,110,117,109],[101,120,112,111,114,116],[101,120,116,101,110,100,115],[102,97,108,115,101],[102,105,110,97,108,108,121],[102,111,114],[102,117,110,99,116,105,111,110],[105,102],[105,109,112,108,101,109,101,110,116,115],[105,109,112,111,114,116],[105,110],[105,110,115,116,97,110,99,101,111,102],[105,110,116,101,114,102,97,99,101],[108,101,116],[110,101,119],[110,117,108,108],[112,97,99,107,97,103,101],[112,114,105,118,97,116,101],[112,114,111,116,101,99,116,101,100],[112,117,98,108,105,99],[114,101,116,117,114,110],[115,116,97,116,105,99],[115,117,112,101,114],[115,119,105,116,99,104],[116,104,105,115],[116,104,114,111,119],[116,114,117,101],[116,114,121],[116,121,112,101,111,102],[118,97,114],[118,111,105,100],[119,104,105,108,101],[119,105,116,104],[121,105,101,108,100]]
def zjN(s:Str):Bool:=zNB.contains s
abbrev Tok:=zy
def zhK(s:Str):Option (Tok×Nat):=
 match s with
 | []=>none
 |c::_=>
  if isLet c=true then
    if 32<zbz s then none else some ({Kind:=if zjN (s.take (zbz s))=true then 2 else 1,Text:=s.take (zbz s),Num:=0,At:=0,Fresh:=false},zbz s)
  else if zfO c=true then(zpJ s).map λp=>({Kind:=3,Text:=[],Num:=(p.1:Int),At:=0,Fresh:=false},p.2)
  else if c=39\/c=34 then
    (match zfd s with
    | (u,n,_)=>if n=0 then none else some ({Kind:=4,Text:=u,Num:=0,At:=0,Fresh:=false},n.toNat))
  else if zdx s=0 then none else some ({Kind:=5,Text:=s.take (zdx s),Num:=0,At:=0,Fresh:=false},zdx s)
def zQe(f:Bool):Tok:={Kind:=0,Text:=[],Num:=0,At:=0,Fresh:=f}
def Tok.fresh(t:Tok)(f:Bool):Tok:={t with Fresh:=f}
def Tok.at_(t:Tok)(n:Int):Tok:={t with At:=n}
def zih:Nat->Str->Bool->List (Tok×Nat)⊕Nat
 |0,_,_=> .inr 0
 |m+1,s,f=>match zcC (s.length+1) s f with
  | (r,f',ok)=>
    if ok=false then .inr r.length
    else if r=[]then .inl [(zQe f',0)]
    else match zhK r with
      |none=> .inr r.length
      |some (t,n)=>match zih m (r.drop n) false with
        | .inl l=> .inl ((t.fresh f',r.length)::l)
        | .inr k=> .inr k
def zie(len:Nat)(l:List (Tok×Nat)):List Tok:=l.map λp=>p.1.at_ ((len -p.2:Nat):Int)
def zeN(s:Str):List Tok×Int×Int:=
 if 4096<s.length then([],0,2)
 else match zih (s.length+1) s false with
  | .inl l=>(zie s.length l,0,0)
  | .inr k=>([],((s.length -k:Nat):Int),60)
/-! ### how much a token takes -/
theorem zO0{s:Str}{n k:Nat}(h:zpJ s=some (n,k)):k=zbz s:=by
 unfold zpJ at h;split at h
 ·cases h
 ·split at h
  · cases h
  · split at h
    · cases h;rfl
    · cases h
theorem zFC{s:Str}{u:Str}{n e:Int}(h:zfd s=(u,n,e)):0<=n/\n<=(s.length:Int):=by
 unfold zfd at h;split at h
 ·cases h;simp
 ·rename_i q r;split at h
  · split at h
    · cases h;constructor<;>omega
    · cases h;constructor<;>omega
  · cases h;constructor<;>omega
theorem zIW(c:UInt8)(r:Str):zdx (c::r)<=(c::r).length:=by
 unfold zdx;split
 ·rename_i h;simp only[qz3]at h⊢;omega
 ·split
  · rename_i h;simp only[qz3]at h⊢;omega
  · split<;>simp
theorem zmd{s:Str}{t:Tok}{n:Nat}(h:zhK s=some (t,n)):1<=n/\n<=s.length/\1<=t.Kind/\t.Kind<=5/\t.At=0/\t.Fresh=false:=by
 unfold zhK at h;split at h
 ·cases h
 ·rename_i c r;have hrow:=zq3 (c::r);have hr1:zfM c=true->1<=zbz (c::r):=λe=>by rw[zlb,yL e];omega
  split at h
  · rename_i hl;split at h
    · cases h
    · cases h;have:=hr1 (by simp[zfM,hl]);refine⟨this,hrow,?_,?_,rfl,rfl⟩<;>(simp only;split<;>decide)
  · split at h
    · rename_i hd;cases hn:zpJ (c::r)with
      |none=>rw[hn]at h;cases h
      |some p=>
        obtain⟨m,k⟩:=p;rw[hn]at h;cases h;have hk:=zO0 hn;subst hk;exact⟨hr1 (by simp[zfM,hd]),hrow,Int.le_of_lt_add_one (by dsimp only;omega),by dsimp only;omega,rfl,rfl⟩
    · split at h
      · obtain⟨u,n',e⟩:Str×Int×Int:=zfd (c::r);generalize hq:zfd (c::r)=q at h;obtain⟨u,n',e⟩:=q;have:=zFC hq;simp only at h;split at h
        ·cases h
        ·cases h;refine⟨by omega,by omega,Int.le_of_lt_add_one (by dsimp only;omega),by dsimp only;omega,rfl,rfl⟩
      · split at h
        ·cases h
        ·cases h;exact⟨by omega,zIW c r,Int.le_of_lt_add_one (by dsimp only;omega),by dsimp only;omega,rfl,rfl⟩
/-! ### a token -/
/-! ### the whole -/
theorem zFQ: ∀(m m':Nat) (s:Str) (f:Bool),s.length<m->s.length<m'->zih m s f=zih m' s f
 |0,_,s,f,h,_=>by omega
 |_+1,0,s,f,_,h=>by omega
 |m+1,m'+1,s,f,h,h'=>by
  unfold zih;have hb:=zeK (s.length+1) s f;generalize hq:zcC (s.length+1) s f=q at hb;obtain⟨r,f',ok⟩:=q;simp only at hb⊢;split
  ·rfl
  ·split
   ·rfl
   ·cases ho:zhK r with
    |none=>rfl
    |some p=>
     obtain⟨t,n⟩:=p;have hl:=zmd ho;simp only;rw[zFQ m m' (r.drop n) false (by simp only[List.length_drop];omega) (by simp only[List.length_drop];omega)]
theorem zM6{m m':Nat}{s s':Str}{f f':Bool}(h:s.length<m)(h':s'.length<m')(he:zcC (s.length+1) s f=zcC (s'.length+1) s' f'):zih m s f=zih m' s' f':=by
 cases m with
 |zero=>omega
 |succ m=>
  cases m' with
  |zero=>omega
  |succ m'=>
   have hb:=zeK (s.length+1) s f;have hb':=zeK (s'.length+1) s' f';unfold zih;rw[he]at hb⊢;generalize hq:zcC (s'.length+1) s' f'=q at hb hb';obtain⟨r,f2,ok⟩:=q;simp only at hb hb'⊢;split
   ·rfl
   ·split
    ·rfl
    ·cases ho:zhK r with
     |none=>rfl
     |some p=>
      obtain⟨t,n⟩:=p;have hl:=zmd ho;simp only;rw[zFQ m m' (r.drop n) false (by simp only[List.length_drop];omega) (by simp only[List.length_drop];omega)]
end Go.D08.U
namespace Go.D08.U
open Go Go.Gw Go.Dn Go.Proofs
set_option maxRecDepth 100000
/-! ### blanks -/
theorem zt6: ∀s:Str,(s.any zdV=false/\Lib.indexAny s [10,13]= -1/\s.dropWhile (λx=> !zdV x)=[])\/∃i:Nat,Lib.indexAny s [10,13]=(i:Int)/\i<=s.length/\s.any zdV=true/\s.drop i=s.dropWhile (λx=> !zdV x)/\(s.take i).any zdV=false
 | []=> .inl ⟨rfl,rfl,rfl⟩
 |b::l=>by
  rw[Lib.indexAny];cases h:([10,13]:Str).contains b with
  |true=>
   have hb:zdV b=true:=h;refine .inr ⟨0,?_,by omega,by simp[hb],?_,rfl⟩
   ·simp
   ·simp[hb]
  |false=>
   have hb:zdV b=false:=h;rcases zt6 l with⟨h1,h2,h3⟩| ⟨i,h1,h2,h3,h4,h5⟩
   ·refine .inl ⟨by simp only[List.any_cons,hb,h1,Bool.or_self],?_,by rw[List.dropWhile_cons,yL (by simp[hb])];exact h3⟩
    rw[h2];rfl
   ·refine .inr ⟨i+1,?_,by simp;omega,by simp only[List.any_cons,h3,Bool.or_true],by rw[List.dropWhile_cons,yL (by simp[hb]),List.drop_succ_cons];exact h4,by simp only[List.take_succ_cons,List.any_cons,hb,h5,Bool.or_self]⟩
    rw[h1];have c:(((i:Nat):Int)== -1)=false:=by rw[yH];omega
    simp only[c,qz2,yA];rfl
theorem zEJ(s:Str):Lib.containsAny s [10,13]=s.any zdV:=by
 unfold Lib.containsAny;rcases zt6 s with⟨h1,h2,_⟩| ⟨i,h1,_,h3,_⟩
 ·rw[h1,h2];rfl
 ·rw[h1,h3];simp
theorem zFP: ∀(s:Str) (n:Nat),zoq s=some n->∃t,s.drop n=42::47::t
 | [],n,h=>by cases h
 |c::r,n,h=>by
  rw[zoq]at h;split at h
  ·rename_i hp;simp only[Option.some.injEq]at h;subst h;cases r with
   |nil=>simp[List.isPrefixOf]at hp
   |cons d r=>
    simp only[List.isPrefixOf,Bool.and_true,qz4,beq_iff_eq]at hp;obtain⟨rfl,rfl⟩:=hp;exact⟨r,rfl⟩
  ·cases he:zoq r with
   |none=>rw[he]at h;cases h
   |some k=>
    rw[he]at h;simp only[Option.map_some,Option.some.injEq]at h;subst h;exact zFP r k he
theorem zL3(r:Str)(n:Nat)(h:zoq r=some n):((47::42::r).take (n+4)).any zdV=(r.take n).any zdV:=by
 obtain⟨t,ht⟩:=zFP r n h
 have e:r.take (n+2)=r.take n++[42,47]:=by
  have h2:r.take (n+2)=r.take n++(r.drop n).take 2:=by rw[List.take_add]
  rw[h2,ht];rfl
 have e2:(47::42::r).take (n+4)=47::42::r.take (n+2):=rfl;rw[e2,e];have c1:zdV 47=false:=by decide
 have c2:zdV 42=false:=by decide
 simp only[List.any_cons,List.any_append,List.any_nil,c1,c2,Bool.false_or,Bool.or_false]
theorem zOQ: ∀b:Fin 256,zdV (UInt8.ofNat b.val)=false->¬(UInt8.ofNat b.val=32\/UInt8.ofNat b.val=9\/UInt8.ofNat b.val=11\/UInt8.ofNat b.val=12)->b.val≠32/\(b.val<9\/13<b.val):=by decide+kernel
def okN(o:Nat)(t:Str)(a:Nat):Option Nat:=match zei o t a with
 |none=>none
 |some n=>if n<=9007199254740991 then some n else none
theorem zHZ{o:Nat}(ho:1<=o): ∀(t:Str) (a n:Nat),zei o t a=some n->a<=n
 | [],a,n,h=>by cases h;exact yJ _
 |c::r,a,n,h=>by
  simp only[zei]at h;split at h
  ·cases h
  ·rename_i d _;split at h
   ·have:=zHZ ho r _ n h;have h2:a*1<=a*o:=Nat.mul_le_mul_left a ho;omega
   ·cases h
def zii(b:Nat):Nat:=(BitVec.ofNat 8 b|||32#8).toNat
theorem zMW: ∀b:Fin 256,zbD ((b.val:Nat):Int)=some (((zii b.val:Nat):Int),()):=by decide+kernel
theorem zNY(c:UInt8):zbD ((c.toNat:Nat):Int)=some (((zii c.toNat:Nat):Int),()):=zMW ⟨c.toNat,c.toNat_lt⟩
theorem zPV: ∀b:Fin 256,(48<=b.val/\b.val<=57->hexV (UInt8.ofNat b.val)=some (b.val -48))/\(¬(48<=b.val/\b.val<=57)->97<=zii b.val->zii b.val<=122->hexV (UInt8.ofNat b.val)=if zii b.val -87<16 then some (zii b.val -87)else none)/\(¬(48<=b.val/\b.val<=57)->¬(97<=zii b.val/\zii b.val<=122)->hexV (UInt8.ofNat b.val)=none):=by decide+kernel
theorem zCV{o:Nat}: ∀(t:Str) (a n:Nat),zei o t a=some n->t.contains 95=false
 | [],_,_,_=>rfl
 |c::r,a,n,h=>by
  simp only[zei]at h;split at h
  ·cases h
  ·rename_i d hd;split at h
   ·rw[List.contains_cons,zCV r _ _ h,Bool.or_false,yH];intro e;subst e;have:hexV 95=none:=by decide
    rw[this]at hd;cases hd
   ·cases h
end Go.D08.U
namespace Go.D08
open Go Go.Gw Go.Dn
instance lpI:Lp:=lpN 1000000000000
theorem zdu{S E:Type}{step:S->Option (S⊕E)}{n:Nat}{s:S}{e:E}(h:zaI step n s=some e)(hn:n<=1000000000000):Lp.loop step s=some e:=
 zqn _ h hn
theorem zbZ{S E:Type}{step:S->Option (S⊕E)}{n:Nat}{s s':S}(h:step s=some (.inl s')):zaI step (n+1) s=zaI step n s':=by simp only[zaI,h,qz1]
theorem zaN{S E:Type}{step:S->Option (S⊕E)}{n:Nat}{s:S}{e:E}(h:step s=some (.inr e)):zaI step (n+1) s=some e:=by simp only[zaI,h,qz1]
abbrev Node:=zg
mutual
def zY:Node->Nat
 | ⟨_,_,_,_,_,l⟩=>zbe l+1
def zbe:List Node->Nat
 | []=>0
 |x::r=>max (zY x) (zbe r)
end
mutual
def zjl:Node->Nat
 | ⟨_,_,_,_,_,l⟩=>zl7 l+1
def zl7:List Node->Nat
 | []=>0
 |x::r=>zjl x+zl7 r
end
mutual
def zqB:Node->Node->Bool
 | ⟨k,n,m,t,ns,l⟩,⟨k',n',m',t',ns',l'⟩=>(k==k'&&n==n'&&m==m'&&t==t'&&ns==ns')&&zd0 l l'
def zd0:List Node->List Node->Bool
 | [],[]=>true
 |x::r,y::r'=>zqB x y&&zd0 r r'
 |_,_=>false
end
theorem zaW(x:Node):zY x=zbe x.L+1:=by cases x;simp[zY]
theorem zwB(x:Node):zjl x=zl7 x.L+1:=by cases x;simp[zjl]
theorem znv(x:Node)(r:List Node):zbe (x::r)=max (zY x) (zbe r):=by simp[zbe]
mutual
theorem zpB: ∀x:Node,zY x<=zjl x
 | ⟨_,_,_,_,_,l⟩=>by simp only[zY,zjl];have:=zw8 l;omega
theorem zw8: ∀l:List Node,zbe l<=zl7 l
 | []=>by simp[zbe]
 |x::r=>by simp only[zbe,zl7];have:=zpB x;have:=zw8 r;omega
end
theorem zAc: ∀l:List Node,l.length<=zl7 l
 | []=>by simp
 |x::r=>by simp only[zl7,qz3];have:=zAc r;have:=zwB x;omega
theorem zaY{x:Node}: ∀{l:List Node},x∈l->zY x<=zbe l
 |y::r,h=>by
  simp only[zbe];rcases yP.1 h with rfl|h
  ·omega
  ·have:=zaY h;omega
theorem ztz{x:Node}: ∀{l:List Node},x∈l->zjl x<=zl7 l
 |y::r,h=>by
  simp only[zl7];rcases yP.1 h with rfl|h
  ·omega
  ·have:=ztz h;omega
theorem zhZ{α:Type}{xs:List α}{i:Nat}{x:α}{r:List α}(h:xs.drop i=x::r):zT xs (i:Int)=some x/\xs.drop (i+1)=r/\i<xs.length:=by
 have hi:i<xs.length:=by
  rcases Nat.lt_or_ge i xs.length with h1|h1
  ·exact h1
  ·rw[List.drop_of_length_le h1]at h;cases h
 rw[List.drop_eq_getElem_cons hi]at h;cases h;exact⟨by rw[zjz];exact qz9 hi,rfl,hi⟩
theorem zFM(g:zek)(l:List Node)(hg: ∀x∈l,g.zez x=some ((zY x:Int),()))(hb:zbe l<4611686018427387904)(hl:l.length<4611686018427387904): ∀(r:List Node) (i:Nat) (m:Nat),l.drop i=r->m<4611686018427387904->
  zaI (ziP g) (r.length+1) ((m:Int),l,((l.length:Nat):Int),(i:Int),())=some (((max m (zbe r)+1:Nat):Int),())
 | [],i,m,hr,hm=>by
  have hi: ¬((i:Int)< (l.length:Int)):=by
   have:=congrArg List.length hr;simp at this;omega
  refine zaN ?_;simp only[ziP,hi,decide_false,qz2,yA];rw[wrap_i64 (by omega) (by omega)];simp[zbe]
 |x::r,i,m,hr,hm=>by
  obtain⟨h1,h2,h3⟩:=zhZ hr;have hi:((i:Int)< (l.length:Int)):=by omega
  have hx:x∈l:=List.mem_of_mem_drop (hr▸qz7);have hd:=zaY hx
  have hstep:ziP g ((m:Int),l,((l.length:Nat):Int),(i:Int),())=some (.inl (((max m (zY x):Nat):Int),l,((l.length:Nat):Int),((i+1:Nat):Int),())):=by
   simp only[ziP,hi,decide_true,yB,h1,qz1,zq,hg x hx];rw[wrap_i64 (by omega) (by omega)];have:(if((zY x:Nat):Int)>(m:Int)then((zY x:Nat):Int)else(m:Int))=((max m (zY x):Nat):Int):=by split<;>omega
   rw[this];rfl
  rw[qz3,zbZ hstep,zFM g l hg hb hl r (i+1) _ h2 (by omega),znv];congr 3;omega
theorem zBq: ∀(n:Nat) (x:Node),zY x<=n->zjl x<=2097152->(zds n).zez x=some ((zY x:Int),())
 |0,x,h,_=>by have:=zaW x;omega
 |n+1,x,h,hs=>by
  have h1:=zaW x;have h2:=zwB x;have h3:=zw8 x.L;have h4:=zAc x.L;show zoI (zds n) x=_;unfold zoI;refine zdu (n:=x.L.length+1) ?_ (by omega);have:=zFM (zds n) x.L (λy hy=>zBq n y (by have:=zaY hy;omega) (by have:=ztz hy;omega)) (by omega) (by omega) x.L 0 0 rfl (by omega)
  rw[h1];simpa using this
theorem zyZ(x:Node)(h:zjl x<=2097152):zez x=some ((zY x:Int),()):=
 zBq _ x (by have:=zpB x;show zY x<=1000000000000;omega) h
mutual
def zpE:Node->Nat
 | ⟨_,_,_,_,ns,l⟩=>ns.length+zpr l
def zpr:List Node->Nat
 | []=>0
 |x::r=>zpE x+zpr r
end
theorem zFO(x:Node):zpE x=x.Names.length+zpr x.L:=by cases x;simp[zpE]
theorem zwR{x:Node}: ∀{l:List Node},x∈l->zpE x<=zpr l
 |y::r,h=>by
  simp only[zpr];rcases yP.1 h with rfl|h
  ·omega
  ·have:=zwR h;omega
theorem zPy(x y:Node):zqB x y=((x.Kind==y.Kind&&x.Name==y.Name&&x.Num==y.Num&&x.Text==y.Text&&x.Names==y.Names)&&zd0 x.L y.L):=by
 cases x;cases y;simp only[zqB]
theorem zFF: ∀{l l':List Node},l.length≠l'.length->zd0 l l'=false
 | [],[],h=>absurd rfl h
 | [],_::_,_=>by simp[zd0]
 |_::_,[],_=>by simp[zd0]
 |x::r,y::r',h=>by
  simp only[zd0];rw[zFF (by simpa using h)];simp
theorem zBr(g:zbg)(x y:Node)(v:Bool)(hl:x.Names.length=y.Names.length)(hb:x.Names.length<4611686018427387904)
  (hend:Lp.loop (zbT g) (((x.L.length:Nat):Int),0,x,y,())=some (v,())): ∀(r:List Str) (i:Nat),x.Names.drop i=r->
  zaI (zco g) (r.length+1) (((x.Names.length:Nat):Int),(i:Int),x,y,())=some ((r==y.Names.drop i)&&v,())
 | [],i,hr=>by
  have h1:x.Names.length<=i:=by have:=congrArg List.length hr;simp at this;omega
  have hi: ¬((i:Int)< (x.Names.length:Int)):=by omega
  refine zaN ?_;simp only[zco,hi,decide_false,qz2,yA,zq,hend,zjf];rw[List.drop_of_length_le (by omega:y.Names.length<=i)];rfl
 |a::r,i,hr=>by
  obtain⟨h1,h2,h3⟩:=zhZ hr;have hi:((i:Int)< (x.Names.length:Int)):=by omega
  have hy:i<y.Names.length:=by omega
  have h4:y.Names.drop i=y.Names[i]::y.Names.drop (i+1):=List.drop_eq_getElem_cons hy;have h5:zT y.Names (i:Int)=some y.Names[i]:=by rw[zjz];exact qz9 hy
  rw[h4,qz3,List.cons_beq_cons];cases he:(a==y.Names[i])with
  |false=>
   refine zaN ?_;simp only[zco,hi,decide_true,yB,h1,h5,qz1,he,yN,Bool.false_and]
  |true=>
   have hstep:zco g (((x.Names.length:Nat):Int),(i:Int),x,y,())=some (.inl (((x.Names.length:Nat):Int),((i+1:Nat):Int),x,y,())):=by
    simp only[zco,hi,decide_true,yB,h1,h5,qz1,he,yO,qz2,yA,zq];rw[wrap_i64 (by omega) (by omega)];rfl
   rw[zbZ hstep,zBr g x y v hl hb hend r (i+1) h2,Bool.true_and]
theorem zFD(g:zbg)(x y:Node)(hg: ∀a∈x.L,∀b∈y.L,g.zbR a b=some (zqB a b,()))(hl:x.L.length=y.L.length)(hb:x.L.length<4611686018427387904): ∀(r:List Node) (i:Nat),x.L.drop i=r->
  zaI (zbT g) (r.length+1) (((x.L.length:Nat):Int),(i:Int),x,y,())=some (zd0 r (y.L.drop i),())
 | [],i,hr=>by
  have h1:x.L.length<=i:=by have:=congrArg List.length hr;simp at this;omega
  have hi: ¬((i:Int)< (x.L.length:Int)):=by omega
  refine zaN ?_;simp only[zbT,hi,decide_false,qz2,yA];rw[List.drop_of_length_le (by omega:y.L.length<=i)];simp[zd0]
 |a::r,i,hr=>by
  obtain⟨h1,h2,h3⟩:=zhZ hr;have hi:((i:Int)< (x.L.length:Int)):=by omega
  have hy:i<y.L.length:=by omega
  have h4:y.L.drop i=y.L[i]::y.L.drop (i+1):=List.drop_eq_getElem_cons hy;have h5:zT y.L (i:Int)=some y.L[i]:=by rw[zjz];exact qz9 hy
  have h6:=hg a (List.mem_of_mem_drop (hr▸qz7)) y.L[i] (List.getElem_mem hy);rw[h4,qz3];simp only[zd0];cases he:zqB a y.L[i]with
  |false=>
   refine zaN ?_;simp only[zbT,hi,decide_true,yB,h1,h5,qz1,zq,h6,he,yN,Bool.false_and]
  |true=>
   have hstep:zbT g (((x.L.length:Nat):Int),(i:Int),x,y,())=some (.inl (((x.L.length:Nat):Int),((i+1:Nat):Int),x,y,())):=by
    simp only[zbT,hi,decide_true,yB,h1,h5,qz1,zq,h6,he,yO,qz2,yA];rw[wrap_i64 (by omega) (by omega)];rfl
   rw[zbZ hstep,zFD g x y hg hl hb r (i+1) h2,Bool.true_and]
theorem zKM: ∀(n:Nat) (x y:Node),zY x<=n->zjl x<=2097152->zjl y<=2097152->zpE x<=2097152->zpE y<=2097152->(zbf n).zbR x y=some (zqB x y,())
 |0,x,y,h,_,_,_,_=>by have:=zaW x;omega
 |n+1,x,y,h,hs,hs',hn,hn'=>by
  have a1:=zaW x;have a2:=zwB x;have a3:=zwB y;have a4:=zFO x;have a5:=zFO y;have b1:=zAc x.L;show zgN (zbf n) x y=_;unfold zgN;simp only[zq];rw[zPy];by_cases hN:x.Names.length=y.Names.length
  ·by_cases hL:x.L.length=y.L.length
   ·have e1:(((x.Names.length:Nat):Int) !=((y.Names.length:Nat):Int))=false:=by simp[hN]
    have e2:(((x.L.length:Nat):Int) !=((y.L.length:Nat):Int))=false:=by simp[hL]
    have hsub:Lp.loop (zbT (zbf n)) (((x.L.length:Nat):Int),0,x,y,())=some (zd0 x.L y.L,()):=by
     refine zdu (n:=x.L.length+1) ?_ (by omega);have:=zFD (zbf n) x y (λa ha b hb=>zKM n a b (by have:=zaY ha;omega) (by have:=ztz ha;omega) (by have:=ztz hb;omega) (by have:=zwR ha;omega) (by have:=zwR hb;omega)) hL (by omega) x.L 0 rfl
     simpa using this
    have hnam:Lp.loop (zco (zbf n)) (((x.Names.length:Nat):Int),0,x,y,())=some ((x.Names==y.Names)&&zd0 x.L y.L,()):=by
     refine zdu (n:=x.Names.length+1) ?_ (by omega);have:=zBr (zbf n) x y _ hN (by omega) hsub x.Names 0 rfl;simpa using this
    rw[e1,e2,hnam];have k1:(x.Kind !=y.Kind)= !(x.Kind==y.Kind):=rfl;have k2:(x.Num !=y.Num)= !(x.Num==y.Num):=rfl;rw[k1,k2];cases x.Kind==y.Kind<;>cases x.Name==y.Name<;>cases x.Num==y.Num<;>cases x.Text==y.Text<;>cases x.Names==y.Names<;>simp
   ·have e2:(((x.L.length:Nat):Int) !=((y.L.length:Nat):Int))=true:=by simpa using by omega
    rw[e2,zFF hL];simp
  ·have e1:(((x.Names.length:Nat):Int) !=((y.Names.length:Nat):Int))=true:=by simpa using by omega
   have:(x.Names==y.Names)=false:=by
    simp only[yH,ne_eq];intro e;exact hN (by rw[e])
   rw[e1,this];simp
end Go.D08
namespace Go.D08
open Go Go.Gw Go.Dn
set_option maxRecDepth 100000
/-! ### names -/
theorem zLw: ∀b:Fin 256,ziR ((b.val:Nat):Int)=some (isLet (UInt8.ofNat b.val),()):=by decide+kernel
theorem zOP: ∀b:Fin 256,zl2 ((b.val:Nat):Int)=some (zfO (UInt8.ofNat b.val),()):=by decide+kernel
theorem zKR(b:UInt8): ∃k:Fin 256,b=UInt8.ofNat k.val:=⟨⟨b.toNat,b.toNat_lt⟩,by simp⟩
theorem zkl(c:UInt8):ziR ((c.toNat:Nat):Int)=some (isLet c,()):=by
 obtain⟨k,rfl⟩:=zKR c;have:(UInt8.ofNat k.val).toNat=k.val:=by simp[Nat.mod_eq_of_lt k.isLt]
 rw[this];exact zLw k
theorem zop(c:UInt8):zl2 ((c.toNat:Nat):Int)=some (zfO c,()):=by
 obtain⟨k,rfl⟩:=zKR c;have:(UInt8.ofNat k.val).toNat=k.val:=by simp[Nat.mod_eq_of_lt k.isLt]
 rw[this];exact zOP k
theorem zOK{s:Str}{i:Nat}{c:UInt8}{r:Str}(h:s.drop i=c::r):za3 s (i:Int)=some ((c.toNat:Nat):Int)/\s.drop (i+1)=r/\i<s.length:=by
 have hi:i<s.length:=by
   rcases Nat.lt_or_ge i s.length with h1|h1
   ·exact h1
   ·rw[List.drop_of_length_le h1]at h;cases h
 rw[List.drop_eq_getElem_cons hi]at h;cases h;exact⟨by rw[zmg,qz9 hi];rfl,rfl,hi⟩
theorem zI5(s:Str)(hs:s.length<=1000000000): ∀(r:Str) (i:Nat),s.drop i=r->i<=s.length->zaI zg9 (r.length+1) (s,((s.length:Nat):Int),(i:Int),())=some (((i+Gw.zbz r:Nat):Int),())
 | [],i,hr,hi=>by
   have h1:i=s.length:=by have:=congrArg List.length hr;simp at this;omega
   refine zaN ?_;have hi: ¬((i:Int)< (s.length:Int)):=by omega
   simp only[zg9,hi,decide_false,qz2,yA];simp[Gw.zbz,h1]
 |c::r,i,hr,_=>by
   obtain⟨h1,h2,h3⟩:=zOK hr;have hi:((i:Int)< (s.length:Int)):=by omega
   rw[zlb];have hL:zfM c=(isLet c||zfO c):=rfl
   have hgo:zfM c=true->zg9 (s,((s.length:Nat):Int),(i:Int),())=some (.inl (s,((s.length:Nat):Int),((i+1:Nat):Int),())):=λh=>by
    rw[hL]at h;simp only[zg9,hi,decide_true,yB,h1,qz1,zkl,zop];rw[wrap_i64 (by omega) (by omega)];cases hl:isLet c with
    |true=>rfl
    |false=>
     rw[hl]at h;simp only[Bool.false_or]at h;simp only[h,yN,yB,yO,qz2,yA];rfl
   cases h:zfM c with
   |true=>
    rw[qz3,zbZ (hgo h),zI5 s hs r (i+1) h2 (by omega)];simp only[yB];congr 3;omega
   |false=>
    refine zaN ?_;rw[hL,Bool.or_eq_false_iff]at h;simp only[zg9,hi,decide_true,yB,h1,qz1,zkl,zop,h.1,h.2,yN,qz2,yA];rfl
theorem zrt(s:Str)(hs:s.length<=1000000000):zo1 s=some (((Gw.zbz s:Nat):Int),()):=by
 refine zdu (n:=s.length+1) ?_ (by omega);have:=zI5 s hs s 0 rfl (Nat.zero_le _);simpa using this
def zdD(s:Str):Bool:=match s with
 | []=>false
 |c::_=>decide (s.length<=32)&&(isLet c&&s.all zfM)
theorem zsx(s:Str)(hs:s.length<=1000000000):zjI s=some (zdD s,()):=by
 unfold zjI;cases s with
 |nil=>rfl
 |cons c r=>
   have h0:((c::r:Str)==([]:Str))=false:=rfl;have h1:za3 (c::r) 0=some ((c.toNat:Nat):Int):=rfl;simp only[h0,yN,Bool.true_and,h1,qz1,zkl,zrt _ hs,zdD];by_cases hl:(c::r).length<=32
   ·have:(((c::r).length:Nat):Int)<=32:=by omega
    simp only[hl,this,decide_true,yB,Bool.true_and];cases isLet c with
    |false=>rfl
    |true=>
     simp only[yB,Bool.true_and];congr 2;have:=zBW (c::r);rw[Bool.eq_iff_iff,beq_iff_eq];constructor
     ·intro h;exact this.1 (by omega)
     ·intro h;rw[this.2 h]
   ·have: ¬(((c::r).length:Nat):Int)<=32:=by omega
    simp only[hl,this,decide_false,qz2,yA,Bool.false_and]
def zcd(l s:Str):Bool:= !(s==([]:Str))&&(!(s.contains 32)&&Lib.contains l (32::(s++[32])))
theorem zC8(l s:Str)(hl:l.length<=1000000000)(hs:s.length<=1000000000):
   (if(!(s==([]:Str)))=true then
  Option.bind (strings_Contains s ([32]:Str)) λr_1=>
  if(!r_1.1)=true then
   Option.bind (zkb ([32]:Str) s) λs_2=>
   Option.bind (zkb s_2 ([32]:Str)) λs_3=>
   Option.bind (strings_Contains l s_3) λr_4=>
   some (r_4.1,())
  else
   some (false,())
 else
  some (false,()))=some (zcd l s,()):=by
 have c1:strings_Contains s ([32]:Str)=some (s.contains 32,()):=by
   simp only[strings_Contains,zcR,show s.length<4294967281 by omega,yB,zjf,zp1]
 have c2: ∀t,strings_Contains l t=some (Lib.contains l t,()):=λt=>by
   simp only[strings_Contains,zcR,show l.length<4294967281 by omega,yB,zjf]
 have c3:zkb ([32]:Str) s=some (32::s):=zq5 (by simp;omega)
 have c4:zkb (32::s) ([32]:Str)=some (32::(s++[32])):=zq5 (by simp;omega)
 simp only[c1,c2,c3,c4,qz1,zcd];cases s==([]:Str)<;>cases s.contains 32<;>simp
theorem zor(l s:Str)(hl:l.length<=1000000000)(hs:s.length<=1000000000):zgV l s=some (zcd l s,()):=zC8 l s hl hs
theorem zxU(l s:Str)(hl:l.length<=1000000000)(hs:s.length<=1000000000):zfW l s=some (zcd l s,()):=zC8 l s hl hs
def zNA:Str:=[32,98,114,101,97,107,32,99,97,115,101,32,99,97,116,99,104,32,99,108,97,115,115,32,99,111,110,115,116,32,99,111,110,116,105,110,117,101,32,100,101,98,117,103,103,101,114,32,100,101,102,97,117,108,116,32,100,101,108,101,116,101,32,100,111,32,101,108,115,101,32,101,110,117,109,32,101,120,112,111,114,116,32,101,120,116,101,110,100,115,32,102,97,108,115,101,32,102,105,110,97,108,108,121,32,102,111,114,32,102,117,110,99,116,105,111,110,32,105,102,32,105,109,112,108,101,109,101,110,116,115,32,105,109,112,111,114,116,32,105,110,32,105,110,115,116,97,110,99,101,111,102,32,105,110,116,101,114,102,97,99,101,32,108,101,116,32,110,101,119,32,110,117,108,108,32,112,97,99,107,97,103,101,32,112,114,105,118,97,116,101,32,112,114,111,116,101,99,116,101,100,32,112,117,98,108,105,99,32,114,101,116,117,114,110,32,115,116,97,116,105,99,32,115,117,112,101,114,32,115,119,105,116,99,104,32,116,104,105,115,32,116,104,114,111,119,32,116,114,117,101,32,116,114,121,32,116,121,112,101,111,102,32,118,97,114,32,118,111,105,100,32,119,104,105,108,101,32,119,105,116,104,32,121,105,101,108,100,32]
def zxl(s:Str):Bool:=zcd zNA s
theorem ztF(s:Str)(hs:s.length<=1000000000):znG s=some (zxl s,()):=by
 show Option.bind (zgV zNA s) _=_;rw[zor _ _ (by decide) hs];rfl
def zaP(s:Str):Bool:=zdD s&& !zxl s
theorem zva(s:Str)(hs:s.length<=1000000000):zil s=some (zaP s,()):=by
 unfold zil zaP;simp only[zsx s hs,ztF s hs,qz1];cases zdD s<;>rfl
theorem zCY(l:List Str)(hl:l.length<=1000000000)(hs: ∀s∈l,s.length<=1000000000): ∀(r:List Str) (i:Nat),l.drop i=r->
   ∃k:Int,zaI zdi (r.length+1) (l,((l.length:Nat):Int),(i:Int),())=some (k,())/\(decide (k>=0))= !(r.all zaP)
 | [],i,hr=>by
   have hi: ¬((i:Int)< (l.length:Int)):=by
    have:=congrArg List.length hr;simp at this;omega
   refine⟨-1,zaN ?_,rfl⟩;simp only[zdi,hi,decide_false,qz2,yA]
 |s::r,i,hr=>by
   obtain⟨h1,h2,h3⟩:=zhZ hr;have hi:((i:Int)< (l.length:Int)):=by omega
   have hm:s∈l:=List.mem_of_mem_drop (hr▸qz7);have e:zqR s=some (!zaP s,()):=by simp only[zqR,zva s (hs s hm),qz1]
   cases hn:zaP s with
   |true=>
    obtain⟨k,h4,h5⟩:=zCY l hl hs r (i+1) h2;refine⟨k,?_,by rw[h5,List.all_cons,hn,Bool.true_and]⟩
    have:zdi (l,((l.length:Nat):Int),(i:Int),())=some (.inl (l,((l.length:Nat):Int),((i+1:Nat):Int),())):=by
     simp only[zdi,hi,decide_true,yB,h1,qz1,e,hn,yO,qz2,yA];rw[wrap_i64 (by omega) (by omega)];rfl
    rw[qz3,zbZ this,h4]
   |false=>
    refine⟨i,zaN ?_,by rw[List.all_cons,hn];simp⟩
    simp only[zdi,hi,decide_true,yB,h1,qz1,e,hn,yN]
theorem zur(l:List Str)(hl:l.length<=1000000000)(hs: ∀s∈l,s.length<=1000000000):slices_ContainsFunc l=some (!(l.all zaP),()):=by
 obtain⟨k,h1,h2⟩:=zCY l hl hs l 0 rfl;have:slices_IndexFunc l=some (k,()):=zdu (n:=l.length+1) (by simpa using h1) (by omega);simp only[slices_ContainsFunc,this,qz1,h2]
/-! ### units -/
def zaL(s:Str):Bool:=s.length%2==0
theorem zvP(s:Str)(hs:s.length<=1000000000):zlH s=some (zaL s,()):=by
 have h:(BitVec.ofInt 64 ((s.length:Nat):Int)&&&BitVec.ofInt 64 1).toNat=s.length%2:=by
   rw[BitVec.toNat_and]
   have h1:(BitVec.ofInt 64 ((s.length:Nat):Int)).toNat=s.length:=by
    rw[BitVec.toNat_ofInt];omega
   have h2:(BitVec.ofInt 64 1).toNat=1:=rfl;rw[h1,h2,Nat.and_one_is_mod]
 unfold zlH zaL;simp only[h];rw[wrap_i64 (by omega) (by omega)];congr 2;rw[Bool.eq_iff_iff,beq_iff_eq,beq_iff_eq];omega
/-! ### forms -/
theorem zDj: ∀s:Str,Lib.index s [42]=if s.contains 42 then(((s.takeWhile (· !=42)).length:Nat):Int)else -1
 | []=>by decide
 |b::l=>by
   rw[Lib.index,zDj l];by_cases hb:b=42
   ·subst hb;simp[List.isPrefixOf]
   ·have h1:([42]:Str).isPrefixOf (b::l)=false:=by simp[List.isPrefixOf];exact λe=>hb e.symm
    have h2:(b::l).contains 42=l.contains 42:=by
     rw[List.contains_cons];have:((42:UInt8)==b)=false:=by rw[yH];exact λe=>hb e.symm
     rw[this,Bool.false_or]
    have h3:(b !=42)=true:=by simpa using hb
    rw[h1,h2,List.takeWhile_cons,h3];cases l.contains 42 with
    |true=>
     have:((((l.takeWhile (· !=42)).length:Nat):Int)== -1)=false:=by rw[yH];omega
     simp[this]
    |false=>simp
end Go.D08
namespace Go.D08.U
open Go Go.Gw Go.Dn Go.Proofs
set_option maxRecDepth 100000
theorem zeo(x:zac):zdY x=x:=by cases x;rfl
theorem zHP(x:zy):zBS x=x:=by cases x;rfl
theorem zee(a b:Str):strings_HasPrefix a b=some (b.isPrefixOf a,()):=rfl
theorem zJ6(s:Str)(h:s.length<=1000000000):strings_IndexAny s [10,13]=some (Lib.indexAny s [10,13],()):=by
 unfold strings_IndexAny zev;rw[yL ⟨by omega,rfl⟩];rfl
theorem zEU(s:Str)(h:s.length<=1000000000):strings_ContainsAny s [10,13]=some (s.any zdV,()):=by
 unfold strings_ContainsAny zdw;rw[yL ⟨by omega,rfl⟩,zEJ];rfl
theorem zOl(s t:Str)(h:s.length<=1000000000):strings_Index s t=some (Lib.index s t,()):=by
 unfold strings_Index zf8;rw[yL (by omega)];rfl
theorem zyY(s t:Str)(h:s.length<=1000000000):strings_Contains s t=some (Lib.contains s t,()):=by
 unfold strings_Contains zcR;rw[yL (by omega)];rfl
theorem zh7(c:UInt8)(r:Str):za3 (c::r) 0=some ((c.toNat:Nat):Int):=rfl
theorem zM7(src s:Str)(f:Bool)(n:Nat)(hn:n<=s.length)(hs:s.length<=1000000000):zcx (n:Int) ⟨src,s,f⟩=some (.inl (⟨src,s.drop n,f||(s.take n).any zdV⟩,())):=by
 unfold zcx;have e1:=zdb s n hn
 have e2:zaQ s 0 (n:Int)=some (s.take n):=by
  have:=zme s 0 n (by omega) hn;simpa using this
 have e3:=zEU (s.take n) (by simp only[List.length_take];omega)
 cases f with
 |true=>simp only[yB,e1,qz1,Bool.true_or]
 |false=>simp only[qz2,yA,e1,e2,e3,qz1,Bool.false_or]
def zXt(src:Str)(p:Str×Bool×Bool):Bool×zac×Unit:=(p.2.2,⟨src,p.1,p.2.1⟩,())
theorem zl1(src:Str): ∀(m:Nat) (s:Str) (f:Bool),s.length<m->s.length<=1000000000->zaI zay m (⟨src,s,f⟩,())=some (zXt src (zcC m s f))
 |0,s,f,h,_=>by omega
 |m+1,[],f,_,_=>zaN rfl
 |m+1,c::r,f,hm,hs=>by
  simp only[qz3]at hm;have hr:r.length<=1000000000:=by simp only[qz3]at hs;omega
  have cn:(!((c::r)==([]:Str)))=true:=rfl;have hj4:=zM7 src (c::r) f;rw[zcC];by_cases h1:zdV c=true
  ·rw[yL h1]
   have hc:c=10\/c=13:=by
    unfold zdV at h1;simpa using h1
   have hstep:zay (⟨src,c::r,f⟩,())=some (.inl (⟨src,r,true⟩,())):=by
    have hj:=hj4 1 (by simp) hs;have e:(f||(((c::r).take 1).any zdV))=true:=by simp[h1]
    rw[e]at hj;rcases hc with rfl|rfl
    ·simp only[zay,zee,zeo,cn,yB,zh7];exact hj
    ·simp only[zay,zee,zeo,cn,yB,zh7];exact hj
   rw[zbZ hstep];exact zl1 src m r true (by omega) hr
  ·have h1':zdV c=false:=by simpa using h1
   rw[yK h1];by_cases h2:c=32\/c=9\/c=11\/c=12
   ·rw[yL h2]
    have hstep:zay (⟨src,c::r,f⟩,())=some (.inl (⟨src,r,f⟩,())):=by
     have hj:=hj4 1 (by simp) hs;have e:(f||(((c::r).take 1).any zdV))=f:=by simp[h1']
     rw[e]at hj;rcases h2 with rfl|rfl|rfl|rfl
     ·simp only[zay,zee,zeo,cn,yB,zh7];exact hj
     ·simp only[zay,zee,zeo,cn,yB,zh7];exact hj
     ·simp only[zay,zee,zeo,cn,yB,zh7];exact hj
     ·simp only[zay,zee,zeo,cn,yB,zh7];exact hj
    rw[zbZ hstep];exact zl1 src m r f (by omega) hr
   ·rw[yK h2];by_cases h3:([47,47]:Str).isPrefixOf (c::r)=true
    ·rw[yL h3]
     have hc:c=47:=by
      simp only[List.isPrefixOf,qz4,beq_iff_eq]at h3;exact h3.1.symm
     have hdw:(c::r).dropWhile (λx=> !zdV x)=r.dropWhile (λx=> !zdV x):=by
      rw[List.dropWhile_cons,yL (by simp[h1'])]
     have hlen:=zp3 (λx=> !zdV x) r
     have hstep:zay (⟨src,c::r,f⟩,())=some (.inl (⟨src,(c::r).dropWhile (λx=> !zdV x),f⟩,())):=by
      simp only[zay,zee,zeo,cn,yB,h3,qz1,zJ6 _ hs];rcases zt6 (c::r)with⟨g1,g2,g3⟩| ⟨i,g1,g2,g3,g4,g5⟩
      ·rw[g2,g3];have hj:=hj4 (c::r).length (yJ _) hs;rw[List.drop_length,List.take_length,g1,Bool.or_false]at hj;simpa using hj
      ·have hj:=hj4 i g2 hs;rw[g4,g5,Bool.or_false]at hj;have cneg: ¬((i:Int)<0):=by omega
       rw[g1];simp only[cneg,decide_false,qz2,yA];exact hj
     rw[zbZ hstep];exact zl1 src m _ f (by rw[hdw];omega) (by rw[hdw];omega)
    ·have h3':([47,47]:Str).isPrefixOf (c::r)=false:=by rw[<-Bool.not_eq_true];exact h3
     rw[yK h3];by_cases h4:([47,42]:Str).isPrefixOf (c::r)=true
     ·rw[yL h4];cases r with
      |nil=>simp[List.isPrefixOf]at h4
      |cons d r=>
       simp only[List.isPrefixOf,Bool.and_true,qz4,beq_iff_eq]at h4;obtain⟨rfl,rfl⟩:=h4;have hdrop:((47::42::r:Str)).drop 2=r:=rfl;rw[hdrop]
       have hcut:zaQ (47::42::r:Str) 2 (((47::42::r:Str).length:Nat):Int)=some r:=by
        have:=zdb (47::42::r:Str) 2 (by simp);exact this
       have hpre:List.isPrefixOf [47,42] (47::42::r:Str)=true:=rfl;have hri:=zOl r [42,47] (by simp only[qz3]at hr;omega)
       cases he:zoq r with
       |none=>
        refine zaN ?_;simp only[zay,zee,zeo,cn,yB,h3',hpre,qz1,qz2,yA,hcut,hri];rw[zwy,he];rfl
       |some n=>
        have hle:=zKz r n he
        have hstep:zay (⟨src,47::42::r,f⟩,())=some (.inl (⟨src,(47::42::r:Str).drop (n+4),f||(r.take n).any zdV⟩,())):=by
         simp only[zay,zee,zeo,cn,yB,h3',hpre,qz1,qz2,yA,hcut,hri];rw[zwy,he];have cneg: ¬(((n:Nat):Int)<0):=by omega
         have w:IntKind.wrap .i64 ((n:Int)+4)=((n+4:Nat):Int):=by rw[wrap_i64 (by omega) (by simp only[qz3]at hr;omega)];omega
         simp only[cneg,decide_false,qz2,yA,w];have hj:=hj4 (n+4) (by simp only[qz3];omega) hs
         rw[zL3 r n he]at hj;exact hj
        rw[zbZ hstep];simp only[qz3]at hm;have hlt:((47::42::r:Str).drop (n+4)).length<=r.length:=by simp only[List.length_drop,qz3];omega
        exact zl1 src m _ _ (by omega) (by simp only[qz3]at hr;omega)
     ·have h4':([47,42]:Str).isPrefixOf (c::r)=false:=by rw[<-Bool.not_eq_true];exact h4
      rw[yK h4];refine zaN ?_;have ho:=zOQ ⟨c.toNat,c.toNat_lt⟩;rw[show UInt8.ofNat (⟨c.toNat,c.toNat_lt⟩:Fin 256).val=c by simp]at ho;obtain⟨o1,o2⟩:=ho h1' h2;simp only at o1 o2;have b32:((((c.toNat:Nat):Int)) !=32)=true:=by rw[bne_iff_ne];omega
      simp only[zay,zee,zeo,cn,yB,h3',h4',qz1,qz2,yA,zh7,b32];by_cases o3:c.toNat<9
      ·have d:(((c.toNat:Nat):Int)<9):=by omega
       simp only[d,decide_true,yB];rfl
      ·have d: ¬(((c.toNat:Nat):Int)<9):=by omega
       have d2:(((c.toNat:Nat):Int)>13):=by omega
       simp only[d,d2,decide_true,decide_false,qz2,yA,yB];rfl
theorem zDw(cc:zac)(hs:cc.rest.length<=1000000000):zhy cc=
  some ((zcC (cc.rest.length+1) cc.rest false).2.2,⟨cc.src,(zcC (cc.rest.length+1) cc.rest false).1,(zcC (cc.rest.length+1) cc.rest false).2.1⟩,()):=by
 unfold zhy;exact zdu (n:=cc.rest.length+1) (zl1 cc.src (cc.rest.length+1) cc.rest false (by omega) hs) (by omega)
theorem ofN(c:UInt8):UInt8.ofNat c.toNat=c:=by simp
theorem wrap_succ{k:Nat}(h:k<1000000000000):IntKind.wrap .i64 ((k:Int)+1)=((k+1:Nat):Int):=by rw[wrap_i64 (by omega) (by omega)];omega
abbrev PuS:=Int×Bool×Str×Int×Int×Bool×Int×(List UInt8)×Int×Int×Unit
abbrev puS(o:Nat)(s0:Str)(cut:Int)(mx a:Nat)(t:Str)(i:Nat):PuS:=((o:Int),false,s0,cut,(mx:Int),false,(a:Int),t,((t.length:Nat):Int),(i:Int),())
def puQ(o mx:Nat)(s0:Str)(cut:Int)(t:Str)(a i:Nat)(d:Option Nat):Option (PuS⊕(Int×zaf×Unit)):=
 match d with
 |none=>some (.inr (0,.code 156 2,()))
 |some d=>if d<o then(if a*o+d<=mx then some (.inl (puS o s0 cut mx (a*o+d) t (i+1)))else some (.inr ((mx:Int),.code 156 1,())))else some (.inr (0,.code 156 2,()))
theorem zOa(o mx a i d:Nat)(ho:o=10\/o=16)(hm:mx<=9007199254740991)(s0 t:Str)(cut:Int)(hx:9007199254740992<=cut)(ha:a<=mx)(hi:i<1000000000000)(hd:d<256):
  zc4 (o:Int) false s0 cut (mx:Int) false (a:Int) (d:Int) t ((t.length:Nat):Int) (i:Int)=puQ o mx s0 cut t a i (some d):=by
 unfold zc4 zgp zgj zgr zgo puQ;have wo:IntKind.wrap .u8 (o:Int)=(o:Int):=wrap_u8 (by omega) (by omega);have wo2:IntKind.wrap .u64 (o:Int)=(o:Int):=wrap_u64 (by omega) (by omega);have wd:IntKind.wrap .u64 (d:Int)=(d:Int):=wrap_u64 (by omega) (by omega);have hmul:a*o<=9007199254740991*16:=Nat.mul_le_mul (by omega) (by omega);have em:((a:Int)*(o:Int))=((a*o:Nat):Int):=by simp
 have wm:IntKind.wrap .u64 ((a:Int)*(o:Int))=((a*o:Nat):Int):=by rw[em];exact wrap_u64 (by omega) (by omega)
 have ws:IntKind.wrap .u64 (((a*o:Nat):Int)+(d:Int))=((a*o+d:Nat):Int):=by rw[wrap_u64 (by omega) (by omega)];omega
 simp only[wo,wo2,wd,wm,ws,wrap_succ hi];by_cases h1:d<o
 ·have c1: ¬((d:Int)>=(o:Int)):=by omega
  have c2: ¬((a:Int)>=cut):=by omega
  have c3: ¬(((a*o+d:Nat):Int)< ((a*o:Nat):Int)):=by omega
  simp only[c1,c2,c3,h1,decide_false,qz2,yA,yB,Bool.false_or];by_cases h2:a*o+d<=mx
  ·have c4: ¬(((a*o+d:Nat):Int)>(mx:Int)):=by omega
   simp only[c4,h2,decide_false,qz2,yA,yB]
  ·have c4:(((a*o+d:Nat):Int)>(mx:Int)):=by omega
   simp only[c4,h2,decide_true,yA,yB]
 ·have c1:((d:Int)>=(o:Int)):=by omega
  simp only[c1,h1,decide_true,yB,yA]
theorem zSP(o mx a i:Nat)(ho:o=10\/o=16)(hm:mx<=9007199254740991)(s0 t:Str)(c:UInt8)(hc:t[i]? =some c)(cut:Int)(hx:9007199254740992<=cut)(ha:a<=mx)(hi:i<1000000000000):
  zbj (puS o s0 cut mx a t i)=puQ o mx s0 cut t a i (hexV c):=by
 have hlt:i<t.length:=(qz0 hc).1;unfold zbj;have c1:((i:Int)< ((t.length:Nat):Int)):=by omega
 obtain⟨f1,f2,f3⟩:=zPV ⟨c.toNat,c.toNat_lt⟩;rw[ofN]at f1 f2 f3;simp only at f1 f2 f3;simp only[c1,decide_true,yB,zjz,hc,qz1,Bool.and_false,qz2,yA,zNY];by_cases g1:48<=c.toNat/\c.toNat<=57
 ·have d1:((48:Int)<=((c.toNat:Nat):Int)):=by omega
  have d2:(((c.toNat:Nat):Int)<=57):=by omega
  have w:IntKind.wrap .u8 (((c.toNat:Nat):Int) -48)=((c.toNat -48:Nat):Int):=by rw[wrap_u8 (by omega) (by omega)];omega
  simp only[d1,d2,decide_true,Bool.and_self,yB,w];rw[zOa o mx a i _ ho hm s0 t cut hx ha hi (by omega),f1 g1]
 ·have d1:((decide ((48:Int)<=((c.toNat:Nat):Int)))&&(decide (((c.toNat:Nat):Int)<=57)))=false:=by
   rw[<-Bool.not_eq_true,qz4,yT,yT];omega
  simp only[d1,qz2,yA];have hlow:zii c.toNat<256:=by unfold zii;exact(BitVec.ofNat 8 c.toNat|||32#8).isLt
  by_cases g2:97<=zii c.toNat
  ·have e2:((97:Int)<=((zii c.toNat:Nat):Int)):=by omega
   simp only[e2,decide_true,yB];by_cases g3:zii c.toNat<=122
   ·have e3:(((zii c.toNat:Nat):Int)<=122):=by omega
    have w1:IntKind.wrap .u8 (((zii c.toNat:Nat):Int) -97)=((zii c.toNat -97:Nat):Int):=by rw[wrap_u8 (by omega) (by omega)];omega
    have w2:IntKind.wrap .u8 (((zii c.toNat -97:Nat):Int)+10)=((zii c.toNat -87:Nat):Int):=by rw[wrap_u8 (by omega) (by omega)];omega
    simp only[e3,decide_true,yB,w1,w2];rw[zOa o mx a i _ ho hm s0 t cut hx ha hi (by omega),f2 g1 g2 g3];split
    ·rfl
    ·rename_i g4;unfold puQ;have: ¬(zii c.toNat -87<o):=by omega
     simp only[this,yA]
   ·have e3: ¬(((zii c.toNat:Nat):Int)<=122):=by omega
    simp only[e3,decide_false,qz2,yA];rw[f3 g1 (by omega)];rfl
  ·have e2: ¬((97:Int)<=((zii c.toNat:Nat):Int)):=by omega
   simp only[e2,decide_false,qz2,yA];rw[f3 g1 (by omega)];rfl
def okM(mx o:Nat)(t:Str)(a:Nat):Option Nat:=match zei o t a with
 |none=>none
 |some n=>if n<=mx then some n else none
def PuE(e:Int×zaf×Unit)(q:Option Nat):Prop:=match q with
 |some r=>e=((r:Int),.nil,())
 |none=>∃v,e=(v,.code 156 2,())\/e=(v,.code 156 1,())
theorem zTP(o mx:Nat)(ho:o=10\/o=16)(hm:mx<=9007199254740991)(s0 t:Str)(ht:t.length<=1000000000)(cut:Int)(hx:9007199254740992<=cut): ∀(n i a:Nat),n+i=t.length->a<=mx->
  ∃e,zaI zbj (n+1) (puS o s0 cut mx a t i)=some e/\PuE e (okM mx o (t.drop i) a):=by
 intro n;induction n with
 |zero=>
  intro i a hi ha;have hd:t.drop i=[]:=List.drop_eq_nil_of_le (by omega);rw[hd];refine⟨((a:Int),.nil,()),zaN ?_,?_⟩
  ·unfold zbj;have c1: ¬((i:Int)< ((t.length:Nat):Int)):=by omega
   simp only[c1,decide_false,qz2,yA]
  ·unfold okM zei PuE;simp only[ha,yB]
 |succ n ih=>
  intro i a hi ha;have hlt:i<t.length:=by omega
  have hst:=zSP o mx a i ho hm s0 t t[i] (qz9 hlt) cut hx ha (by omega);rw[List.drop_eq_getElem_cons hlt];unfold okM zei;cases hv:hexV t[i]with
  |none=>
   rw[hv]at hst;exact⟨_,zaN hst,0,.inl rfl⟩
  |some d=>
   rw[hv]at hst;unfold puQ at hst;simp only at hst⊢;by_cases h1:d<o
   ·simp only[h1,yB]at hst⊢;by_cases h2:a*o+d<=mx
    ·simp only[h2,yB]at hst;rw[zbZ hst];exact ih (i+1) (a*o+d) (by omega) h2
    ·simp only[h2,yA]at hst;refine⟨_,zaN hst,?_⟩;cases hp:zei o (t.drop (i+1)) (a*o+d)with
     |none=>exact⟨_,.inr rfl⟩
     |some r=>
      have:=zHZ (by omega) _ _ _ hp;have h3: ¬(r<=mx):=by omega
      simp only[h3,yA];exact⟨_,.inr rfl⟩
   ·simp only[h1,yA]at hst⊢;exact⟨_,zaN hst,0,.inl rfl⟩
theorem zFR(o b mx:Nat)(ho:o=10\/o=16)(hb:b=53/\mx=9007199254740991\/b=16/\mx=65535)(t:Str)(h0:t≠[])(ht:t.length<=1000000000):
  ∃v,zba t (o:Int) (b:Int)=some (match okM mx o t 0 with|some r=>((r:Int),zaf.nil,())|none=>(v,zaf.opq,())):=by
 have key: ∃e,zfS t (o:Int) (b:Int)=some e/\PuE e (okM mx o t 0):=by
  have c:(t==([]:Str))=false:=by simpa using h0
  have sh:zB7 .u64 1 (IntKind.wrap .u64 (b:Int))=some ((mx:Int)+1):=by
   rcases hb with⟨rfl,rfl⟩| ⟨rfl,rfl⟩<;>decide
  have wm:IntKind.wrap .u64 ((mx:Int)+1 -1)=(mx:Int):=by rw[wrap_u64 (by omega) (by omega)];omega
  have fin: ∀cut:Int,9007199254740992<=cut->∃e,Lp.loop zbj (puS o t cut mx 0 t 0)=some e/\PuE e (okM mx o t 0):=λcut hx=>by
   obtain⟨e,e1,e2⟩:=zTP o mx ho (by omega) t t ht cut hx t.length 0 0 (by omega) (by omega);rw[List.drop_zero]at e2;exact⟨e,zdu e1 (by omega),e2⟩
  unfold zfS zbI zgf zeh zgl zgs zgm
  have b1:((decide ((2:Int)<=(o:Int)))&&(decide ((o:Int)<=36)))=true:=by
   rw[decide_eq_true (by omega),decide_eq_true (by omega)];rfl
  have b2:((o:Int)==0)=false:=by rw[yH];omega
  have b3:((b:Int)==0)=false:=by rw[yH];omega
  have b4:((decide ((b:Int)<0))||(decide ((b:Int)>64)))=false:=by
   rw[decide_eq_false (by omega),decide_eq_false (by omega)];rfl
  simp only[c,b1,b2,b3,b4,qz2,yA,yB,sh,qz1,wm];rcases ho with rfl|rfl
  ·exact fin 1844674407370955162 (by decide)
  ·exact fin 1152921504606846976 (by decide)
 obtain⟨e,e1,e2⟩:=key;unfold zba zib;rw[e1,qz1];cases hk:okM mx o t 0 with
 |some r=>
  rw[hk]at e2;obtain rfl:e=((r:Int),.nil,()):=e2;exact⟨0,rfl⟩
 |none=>
  rw[hk]at e2;obtain⟨v,rfl|rfl⟩: ∃v,e=(v,.code 156 2,())\/e=(v,.code 156 1,()):=e2
  ·refine⟨v,?_⟩;simp only[zaf.isNil,yN,yB];rw[yL ⟨by omega,by simp⟩];rfl
  ·refine⟨v,?_⟩;simp only[zaf.isNil,yN,yB];rw[yL ⟨by omega,by simp⟩];rfl
theorem zLq(o:Nat)(ho:o=10\/o=16)(t:Str)(h0:t≠[])(ht:t.length<=1000000000):
  ∃v,zba t (o:Int) 53=some (match okN o t 0 with|some r=>((r:Int),zaf.nil,())|none=>(v,zaf.opq,())):=
 zFR o 53 9007199254740991 ho (.inl ⟨rfl,rfl⟩) t h0 ht
theorem zD6: ∀(t:Str) (a n:Nat),hexN t.length t a=some n->zei 16 t a=some n
 | [],a,n,h=>h
 |c::r,a,n,h=>by
  rw[qz3]at h;unfold hexN at h;unfold zei;cases hv:hexV c with
  |none=>rw[hv]at h;cases h
  |some d=>
   rw[hv]at h;simp only at h⊢;rw[yL (zKr hv),Nat.mul_comm a 16];exact zD6 r _ n h
theorem zsn(t:Str)(n:Nat)(h0:t≠[])(h1:t.length<=4)(h2:hexN t.length t 0=some n):zba t 16 16=some ((n:Int),.nil,()):=by
 obtain⟨v,hv⟩:=zFR 16 16 65535 (.inr rfl) (.inr ⟨rfl,rfl⟩) t h0 (by omega);have hl:=zvB _ _ _ _ h2;have hp:16^t.length<=16^4:=Nat.pow_le_pow_right (by omega) h1
 have hn:n<=65535:=by
  have h4:(16:Nat)^4=65536:=by decide
  omega
 have hv:zba t 16 16=_:=hv;rw[hv];unfold okM;rw[zD6 t 0 n h2];simp only[hn,yB]
theorem zjH(n:Nat)(h:n<65536):zeM (n:Int)=some (enc1 n,()):=by
 have e1:Int.fdiv (n:Int) (2^8)=((n/256:Nat):Int):=by rw[Int.fdiv_eq_ediv_of_nonneg _ (by omega)];rfl
 have w1:IntKind.wrap .u8 ((n/256:Nat):Int)=((n/256:Nat):Int):=wrap_u8 (by omega) (by omega);have w2:IntKind.wrap .u8 (n:Int)=((n%256:Nat):Int):=by rw[zBi];omega
 have t1:toB ((n/256:Nat):Int)=some (UInt8.ofNat (n/256)):=by unfold toB;rw[yL (by omega)];rfl
 have t2:toB ((n%256:Nat):Int)=some (UInt8.ofNat (n%256)):=by unfold toB;rw[yL (by omega)];rfl
 unfold zeM;simp only[e1,w1,w2,t1,t2,qz1];rfl
theorem zpR(x s2 l:Str)(h:l.length+x.length<=274877906944):zaK x s2 l=some (((x.length:Nat):Int),zaf.nil,s2,l++x,()):=by
 unfold zaK;rw[zd1 (by omega)];rfl
theorem zFK(s:Str)(acc:List Nat)(k:Nat)(hk:k=2\/k=4)(hs:s.length<=100000000)(ha:acc.length<=100000000):
  ∃r,zdj (k:Int) s (zd8 acc)=some r/\(match hexN k s 0 with
   |none=>r.1=false
   |some n=>r=(true,s.drop k,zd8 (acc++[n]),())):=by
 unfold zdj;by_cases hl:s.length<k
 ·have c:((((s.length:Nat):Int))< (k:Int)):=by omega
  simp only[c,decide_true,yB];refine⟨_,rfl,?_⟩;cases hn:hexN k s 0 with
  |none=>rfl
  |some n=>have:=zwJ _ _ _ _ hn;omega
 ·have c: ¬((((s.length:Nat):Int))< (k:Int)):=by omega
  have hcut:zaQ s 0 (k:Int)=some (s.take k):=by
   have:=zme s 0 k (by omega) (by omega);simpa using this
  have hlen:(s.take k).length=k:=by rw[List.length_take];omega
  have htrim:znb (s.take k) ([48,49,50,51,52,53,54,55,56,57,97,98,99,100,101,102,65,66,67,68,69,70]:Str)=some (Lib.trimS (s.take k) zGI,()):=by
   unfold znb zgY;rw[yL ⟨by omega,by decide,by decide⟩];rfl
  have hsome:=zBx (s.take k) 0;rw[hlen,zAy k s 0 (by omega)]at hsome;simp only[c,decide_false,qz2,yA,hcut,qz1,htrim,zOt,<-hsome];cases hn:hexN k s 0 with
  |none=>exact⟨_,rfl,rfl⟩
  |some n=>
   have hparse:=zsn (s.take k) n (by intro h;rw[h]at hlen;simp at hlen;omega) (by omega) (by rw[hlen,zAy k s 0 (by omega)];exact hn)
   have hp2:zba (s.take k) 16 16=some ((n:Int),zaf.nil,()):=hparse
   have hn2:n<65536:=by
    have:=zvB _ _ _ _ hn;rcases hk with rfl|rfl<;>omega
   have hend:=zdb s k (by omega);have w:IntKind.wrap .i64 (n:Int)=(n:Int):=wrap_i64 (by omega) (by omega);have hbw:=zpR (enc1 n) (s.drop k) (zd8 acc) (by simp only[zjQ];simp[enc1];omega)
   simp only[Option.isSome_some,yO,qz2,yA,hcut,qz1,hp2,hend,w,zjH n hn2,hbw];refine⟨_,rfl,?_⟩;simp[zd8]
theorem zSB: ∀b:Fin 256,strings_IndexByte ([110,116,114,98,102,118]:Str) ((b.val:Nat):Int)=some (if b.val=110 then 0 else if b.val=116 then 1 else if b.val=114 then 2 else if b.val=98 then 3 else if b.val=102 then 4 else if b.val=118 then 5 else -1,()):=by decide+kernel
theorem zP2(b:UInt8):strings_IndexByte ([110,116,114,98,102,118]:Str) ((b.toNat:Nat):Int)=some (if b.toNat=110 then 0 else if b.toNat=116 then 1 else if b.toNat=114 then 2 else if b.toNat=98 then 3 else if b.toNat=102 then 4 else if b.toNat=118 then 5 else -1,()):=zSB ⟨b.toNat,b.toNat_lt⟩
theorem zNJ(s:Str)(acc:List Nat)(hs:s.length<=100000000)(ha:acc.length<=100000000):
  ∃r,zfG s (zd8 acc)=some r/\(match zrl s with
   |none=>r.1=false
   |some (us,k)=>r=(true,s.drop k,zd8 (acc++us),())):=by
 unfold zfG;cases s with
 |nil=>exact⟨_,rfl,rfl⟩
 |cons c r=>
  have hb:=c.toNat_lt;have g0:za3 (c::r) 0=some ((c.toNat:Nat):Int):=rfl
  have hcut:zaQ (c::r) 1 (((c::r).length:Nat):Int)=some r:=by
   have:=zdb (c::r) 1 (by simp);simpa using this
  have hr:r.length<=100000000:=by simp only[qz3]at hs;omega
  have write: ∀n:Nat,n<65536->zaK (enc1 n) r (zd8 acc)=some (2,.nil,r,zd8 (acc++[n]),()):=by
   intro n hn;rw[zpR _ _ _ (by simp only[zjQ];simp[enc1];omega)]
   simp[zd8,enc1]
  have wi: ∀n:Nat,n<65536->IntKind.wrap .i64 (n:Int)=(n:Int):=λn hn=>wrap_i64 (by omega) (by omega)
  have c0:((c::r:Str)==([]:Str))=false:=rfl;simp only[c0,qz2,yA,g0,qz1,hcut,zP2];have tn: ∀n:Nat,n<256->(c=UInt8.ofNat n↔c.toNat=n):=zty c
  have spec:zrl (c::r)=if c.toNat=10 then some ([],1)else if c.toNat=48 then(match r with
   | []=>some ([0],1)
   |d::_=>if 48<=d.toNat/\d.toNat<=57 then none else some ([0],1))
   else if c.toNat=120 then(hexN 2 r 0).map λn=>([n],3)
   else if c.toNat=117 then(hexN 4 r 0).map λn=>([n],5)
   else(zmL c).map λn=>([n],1):=by
   simp only[zrl,<-tn 10 (by omega),<-tn 48 (by omega),<-tn 120 (by omega),<-tn 117 (by omega)];rfl
  have simp':zmL c=if c.toNat=110 then some 10 else if c.toNat=116 then some 9 else if c.toNat=114 then some 13 else if c.toNat=98 then some 8 else if c.toNat=102 then some 12 else if c.toNat=118 then some 11
    else if c.toNat>127\/c.toNat=13\/c.toNat=120\/c.toNat=117\/(48<=c.toNat/\c.toNat<=57)\/c.toNat=10 then none else some c.toNat:=by
   simp only[zmL,<-tn 110 (by omega),<-tn 116 (by omega),<-tn 114 (by omega),<-tn 98 (by omega),<-tn 102 (by omega),<-tn 118 (by omega),<-tn 13 (by omega),<-tn 120 (by omega),<-tn 117 (by omega),<-tn 10 (by omega)];rfl
  rw[spec,simp'];clear spec simp' tn;generalize hk:c.toNat=k at*
  have small: ∀(j m:Nat) (v:Int),v=(j:Int)->([10,9,13,8,12,11]:Str)[j]? =some (UInt8.ofNat m)->m<256->
    ∃r0,(if decide (v>=0)=true then
     Option.bind (za3 ([10,9,13,8,12,11]:Str) v) λv7=>
     Option.bind (zeM (IntKind.wrap .i64 v7)) λv8=>
     Option.bind (zaK v8.1 r (zd8 acc)) λv9=>
     some (true,v9.2.2.1,v9.2.2.2.1,())else none)=some r0/\r0=(true,(c::r).drop 1,zd8 (acc++[m]),()):=by
   intro j m v hv hj hm;subst hv;have cc:((j:Int)>=0):=by omega
   have e:(UInt8.ofNat m).toNat=m:=by simp[UInt8.toNat_ofNat'];omega
   simp only[cc,decide_true,yB,zmg,hj,Option.map_some,qz1,e,wi m (by omega),zjH m (by omega),write m (by omega)];exact⟨_,rfl,rfl⟩
  by_cases h110:k=110
  ·subst h110;simpa using small 0 10 0 rfl rfl (by omega)
  by_cases h116:k=116
  ·subst h116;simpa using small 1 9 1 rfl rfl (by omega)
  by_cases h114:k=114
  ·subst h114;simpa using small 2 13 2 rfl rfl (by omega)
  by_cases h98:k=98
  ·subst h98;simpa using small 3 8 3 rfl rfl (by omega)
  by_cases h102:k=102
  ·subst h102;simpa using small 4 12 4 rfl rfl (by omega)
  by_cases h118:k=118
  ·subst h118;simpa using small 5 11 5 rfl rfl (by omega)
  have m1: ¬((-1:Int)>=0):=by decide
  simp only[h110,h116,h114,h98,h102,h118,yA,m1,decide_false,qz2];have cc: ∀m:Nat,((k:Int)==((m:Nat):Int))=decide (k=m):=λm=>zoP k m
  have c10:((k:Int)==10)=decide (k=10):=cc 10;have c120:((k:Int)==120)=decide (k=120):=cc 120;have c117:((k:Int)==117)=decide (k=117):=cc 117;have c48:((k:Int)==48)=decide (k=48):=cc 48;have c13:((k:Int)==13)=decide (k=13):=cc 13;simp only[c10,c120,c117,c48,c13,yT];by_cases h10:k=10
  ·rw[yL h10,yL h10];exact⟨_,rfl,by simp⟩
  rw[yK h10,yK h10];by_cases h120:k=120
  ·have h48: ¬k=48:=by omega
   rw[yL h120,yK h48,yL h120];obtain⟨x,e1,e2⟩:=zFK r acc 2 (.inl rfl) hr ha;have e1':zdj 2 r (zd8 acc)=some x:=e1;rw[e1'];refine⟨_,rfl,?_⟩;cases hn:hexN 2 r 0 with
   |none=>rw[hn]at e2;exact e2
   |some n=>rw[hn]at e2;simp only at e2;subst e2;simp
  rw[yK h120];by_cases h117:k=117
  ·have h48: ¬k=48:=by omega
   rw[yL h117,yK h48,yK h120,yL h117];obtain⟨x,e1,e2⟩:=zFK r acc 4 (.inr rfl) hr ha;have e1':zdj 4 r (zd8 acc)=some x:=e1;rw[e1'];refine⟨_,rfl,?_⟩;cases hn:hexN 4 r 0 with
   |none=>rw[hn]at e2;exact e2
   |some n=>rw[hn]at e2;simp only at e2;subst e2;simp
  rw[yK h117];by_cases h48:k=48
  ·rw[yL h48,yL h48];have w0:=write 0 (by omega);have u0:zeM 0=some (enc1 0,()):=zjH 0 (by omega);simp only[u0,qz1,w0];cases r with
   |nil=>exact⟨_,rfl,by simp⟩
   |cons d r'=>
    have gd0:za3 (d::r') 0=some ((d.toNat:Nat):Int):=rfl;have cn:((d::r':Str)==([]:Str))=false:=rfl;simp only[cn,qz2,yA,gd0,qz1];by_cases hd1:d.toNat<48
    ·have cd:((d.toNat:Nat):Int)<48:=by omega
     have cd2: ¬(48<=d.toNat/\d.toNat<=57):=by omega
     simp only[cd,decide_true,yB,cd2,yA];exact⟨_,rfl,by simp⟩
    ·have cd: ¬((d.toNat:Nat):Int)<48:=by omega
     simp only[cd,decide_false,qz2,yA];by_cases hd2:d.toNat<=57
     ·have cd2:(48<=d.toNat/\d.toNat<=57):=by omega
      have cd3: ¬((d.toNat:Nat):Int)>57:=by omega
      simp only[cd2,and_self,yB,cd3,decide_false];exact⟨_,rfl,by simp⟩
     ·have cd2: ¬(48<=d.toNat/\d.toNat<=57):=by omega
      have cd3:((d.toNat:Nat):Int)>57:=by omega
      simp only[cd2,yA,cd3,decide_true];exact⟨_,rfl,by simp⟩
  rw[yK h48,yK h48,yK h120,yK h117];by_cases hbad:k>127\/k=13\/k=120\/k=117\/(48<=k/\k<=57)\/k=10
  ·have cb:((decide (k=13)||(decide ((k:Int)>=49)&&decide ((k:Int)<=57)))||decide ((k:Int)>=128))=true:=by
    simp only[yQ,qz4,yT];omega
   rw[yL hbad,cb,yL rfl];exact⟨_,rfl,rfl⟩
  ·have cb:((decide (k=13)||(decide ((k:Int)>=49)&&decide ((k:Int)<=57)))||decide ((k:Int)>=128))=false:=by
    simp only[Bool.or_eq_false_iff,Bool.and_eq_false_iff,decide_eq_false_iff_not];omega
   rw[yK hbad,cb,yK (by simp)];simp only[wi k (by omega),zjH k (by omega),qz1,write k (by omega)];exact⟨_,rfl,by simp⟩
theorem zDM(q:UInt8)(s0:Str)(hs:(q::s0).length<=100000000): ∀(m:Nat) (rest:Str) (acc:List Nat),rest.length<m->rest.length<=s0.length->acc.length+rest.length<=100000000->okU acc->
  zaI zgn m (q::s0,rest,zd8 acc,())=some ((zua q (q::s0) m rest acc).1,(zua q (q::s0) m rest acc).2.1,(zua q (q::s0) m rest acc).2.2,()):=by
 intro m;induction m with
 |zero=>intro rest acc h;omega
 |succ m ih=>
  intro rest acc h1 h2 h3 h4;cases rest with
  |nil=>exact zaN rfl
  |cons c r=>
   have hb:=c.toNat_lt;have g0:za3 (c::r) 0=some ((c.toNat:Nat):Int):=rfl;have gq:za3 (q::s0) 0=some ((q.toNat:Nat):Int):=rfl
   have hcut:zaQ (c::r) 1 (((c::r).length:Nat):Int)=some r:=by
    have:=zdb (c::r) 1 (by simp);simpa using this
   have c0:((c::r:Str)==([]:Str))=false:=rfl;have hq:((((c.toNat:Nat):Int))==((q.toNat:Nat):Int))=decide (c=q):=by rw[zoP];simp[UInt8.toNat_inj]
   have u8b: ∀n:Nat,n<256->((((c.toNat:Nat):Int))==((n:Nat):Int))=decide (c=UInt8.ofNat n):=λn h=>by
    rw[zoP,decide_eq_decide];exact(zty _ n h).symm
   have e10:((((c.toNat:Nat):Int))==10)=decide (c=10):=u8b 10 (by omega);have e13:((((c.toNat:Nat):Int))==13)=decide (c=13):=u8b 13 (by omega);have e92:((((c.toNat:Nat):Int))==92)=decide (c=92):=u8b 92 (by omega);have b92:((((c.toNat:Nat):Int)) !=92)= !decide (c=92):=by unfold bne;rw[e92]
   have w:IntKind.wrap .i64 ((((q::s0).length:Nat):Int) - ((r.length:Nat):Int))=(((q::s0).length -r.length:Nat):Int):=by
    have:r.length<=(q::s0).length:=by simp only[qz3]at h2⊢;omega
    rw[wrap_i64 (by omega) (by omega)];omega
   have head:zgn (q::s0,c::r,zd8 acc,())=(if c=q then some (.inr (zd8 acc,(((q::s0).length -r.length:Nat):Int),0,()))
     else
      if(c=10\/c=13\/c.toNat>127)then some (.inr ([],0,10,()))
      else
       if c=92 then
        Option.bind (zfG r (zd8 acc)) λr_16=>
         if(!r_16.1)=true then some (Sum.inr (([]:Str),0,10,()))
         else some (Sum.inl (q::s0,r_16.2.1,r_16.2.2.1,()))
       else some (.inl (q::s0,r,zd8 (acc++[c.toNat]),()))):=by
    simp only[zgn,c0,yN,yB,g0,gq,hcut,qz1,zga,hq,e10,e13,e92,b92,w];by_cases hcq:c=q
    ·simp only[hcq,decide_true,yB]
    ·simp only[hcq,decide_false,qz2,yA];by_cases hbad:c=10\/c=13\/c.toNat>127
     ·have cb:((decide (c=10)||decide (c=13))||decide (((c.toNat:Nat):Int)>=128))=true:=by
       simp only[yQ,yT];rcases hbad with h|h|h
       ·exact .inl (.inl h)
       ·exact .inl (.inr h)
       ·right;omega
      rw[cb,yL hbad];rfl
     ·have cb:((decide (c=10)||decide (c=13))||decide (((c.toNat:Nat):Int)>=128))=false:=by
       simp only[Bool.or_eq_false_iff,decide_eq_false_iff_not];refine⟨⟨λh=>hbad (.inl h),λh=>hbad (.inr (.inl h))⟩,λh=>hbad (.inr (.inr (by omega)))⟩
      rw[cb,yK hbad];simp only[qz2,yA];by_cases h92:c=92
      ·simp only[h92,decide_true,yB,yO,qz2,yA]
      ·have w2:IntKind.wrap .i64 ((c.toNat:Nat):Int)=((c.toNat:Nat):Int):=wrap_i64 (by omega) (by omega);have hw:=zpR (enc1 c.toNat) r (zd8 acc) (by simp only[zjQ];simp[enc1];omega)
       simp only[h92,decide_false,qz2,yA,yN,yB,w2,zjH c.toNat (by omega),qz1,hw];simp[zd8]
   by_cases hcq:c=q
   ·rw[yL hcq]at head;refine(zaN head).trans ?_;unfold zua zfV;simp only[hcq,yB]
   ·rw[yK hcq]at head;by_cases hbad:c=10\/c=13\/c.toNat>127
    ·rw[yL hbad]at head;refine(zaN head).trans ?_;unfold zua zfV;simp only[hcq,hbad,yB,yA]
    ·rw[yK hbad]at head;by_cases h92:c=92
     ·rw[yL h92]at head;obtain⟨x,e1,e2⟩:=zNJ r acc (by simp only[qz3]at h3;omega) (by omega)
      rw[e1]at head;simp only[qz1]at head;cases hesc:zrl r with
      |none=>
       rw[hesc]at e2;simp only at e2;rw[e2]at head;refine(zaN head).trans ?_;unfold zua zfV;rw[yK hcq,yK hbad,yL h92,hesc]
      |some p=>
       obtain⟨us,k⟩:=p;rw[hesc]at e2;simp only at e2;obtain⟨p1,p2,p3,p4⟩:=zOM hesc;subst e2;have hgo:zgn (q::s0,c::r,zd8 acc,())=some (.inl (q::s0,r.drop k,zd8 (acc++us),())):=head
       have hacc:okU (acc++us):=by
        intro n hn;rcases List.mem_append.mp hn with h|h
        · exact h4 n h
        · exact p1 n h
       simp only[qz3]at h1 h2 h3;have g1:=ih (r.drop k) (acc++us) (by simp;omega) (by simp;omega) (by simp;omega) hacc
       refine(zbZ hgo).trans (g1.trans ?_);unfold zua;conv=>rhs;unfold zfV
       rw[yK hcq,yK hbad,yL h92,hesc]
     ·rw[yK h92]at head
      have hacc:okU (acc++[c.toNat]):=by
       intro n hn;rcases List.mem_append.mp hn with h|h
       ·exact h4 n h
       ·simp at h;omega
      simp only[qz3]at h1 h2 h3;have g1:=ih r (acc++[c.toNat]) (by omega) (by omega) (by simp;omega) hacc
      refine(zbZ head).trans (g1.trans ?_);unfold zua;conv=>rhs;unfold zfV
      rw[yK hcq,yK hbad,yK h92]
theorem zF7(s:Str)(hs:s.length<=100000000):zqH s=some ((zfd s).1,(zfd s).2.1,(zfd s).2.2,()):=by
 unfold zqH;cases s with
 |nil=>rfl
 |cons q s0=>
  have gq:za3 (q::s0) 0=some ((q.toNat:Nat):Int):=rfl;have c0:((q::s0:Str)==([]:Str))=false:=rfl;have b39:(((q.toNat:Nat):Int) !=39)= !decide (q=39):=zOF q 39 (by omega);have b34:(((q.toNat:Nat):Int) !=34)= !decide (q=34):=zOF q 34 (by omega)
  have hcut:zaQ (q::s0) 1 (((q::s0).length:Nat):Int)=some s0:=by
   have:=zdb (q::s0) 1 (by simp);simpa using this
  simp only[c0,qz2,yA,gq,qz1,b39,b34,hcut]
  have good:(q=39\/q=34)->Lp.loop zgn (q::s0,s0,[],())=some ((zfd (q::s0)).1,(zfd (q::s0)).2.1,(zfd (q::s0)).2.2,()):=by
   intro hq;have g1:=zDM q s0 hs (s0.length+1) s0 [] (by omega) (by omega) (by simp only[qz3]at hs;simp;omega) (by intro n hn;cases hn)
   have hfin:zfd (q::s0)=zua q (q::s0) (s0.length+1) s0 []:=by
    unfold zfd zua;simp only[hq,yB]
   rw[hfin];simp only[qz3]at hs;exact zdu g1 (by omega)
  by_cases h39:q=39
  ·have d39:decide (q=39)=true:=by rw[yT];exact h39
   simp only[d39,yO,qz2,yA,qz1];exact good (.inl h39)
  ·have d39:decide (q=39)=false:=by rw[decide_eq_false_iff_not];exact h39
   simp only[d39,yN,yB];by_cases h34:q=34
   ·have d34:decide (q=34)=true:=by rw[yT];exact h34
    simp only[d34,yO,qz1,qz2,yA];exact good (.inr h34)
   ·have d34:decide (q=34)=false:=by rw[decide_eq_false_iff_not];exact h34
    have:zfd (q::s0)=([],0,10):=by
     unfold zfd;simp only[h39,h34,or_self,yA]
    rw[this];simp only[d34,yN];rfl
theorem zSb(s:Str)(n:Nat)(c:UInt8)(h:s[n]? =some c):za3 s (n:Int)=some ((c.toNat:Nat):Int):=by
 unfold za3;rw[yL (by omega)];simp[h]
theorem zEs{α:Type}[BEq α][LawfulBEq α][DecidableEq α](a b:α):(a==b)=decide (a=b):=by
 rw[Bool.eq_iff_iff];simp
def zMO(o:Nat)(t:Str)(k:Int)(x:zac):Int×Int×zac×Unit:=match okN o t 0 with
 |some r=>((r:Int),k,x,())
 |none=>(0,0,x,())
theorem zFe(o:Nat)(ho:o=10\/o=16)(t:Str)(h0:t≠[])(ht:t.length<=1000000000)(k:Int)(x:zac):(Option.bind (zba t (o:Int) 53) λr_12=>
   if(!(r_12.2.1).isNil)=true then
    some ((0:Int),(0:Int),x,())
   else
    Option.bind (strings_Contains t ([95]:Str)) λr_13=>
    if r_13.1=true then
     some (0,0,x,())
    else
     some ((IntKind.wrap .i64 r_12.1),k,x,()))=some (zMO o t k x):=by
 obtain⟨v,hv⟩:=zLq o ho t h0 ht;rw[hv];unfold zMO;cases hk:okN o t 0 with
 |none=>rfl
 |some r=>
   have hr:r<=9007199254740991/\zei o t 0=some r:=by
     unfold okN at hk;split at hk
     · cases hk
     · split at hk
       · rename_i h1 h2;cases hk;exact⟨h2,h1⟩
       · cases hk
   simp only[qz1,zaf.isNil,yO,qz2,yA];rw[zyY t [95] ht,zp1,zCV t 0 r hr.2];simp only[qz1,qz2,yA];rw[wrap_i64 (by omega) (by omega)]
def zPM(o:Nat)(t:Str)(k:Int)(x:zac):Int×Int×zac×Unit:=match zei o t 0 with
 |some n=>if n<=9007199254740991 then((n:Int),k,x,())else(0,0,x,())
 |none=>(0,0,x,())
theorem zNl(o:Nat)(t:Str)(k:Int)(x:zac):zMO o t k x=zPM o t k x:=by
 unfold zMO zPM okN;cases zei o t 0 with
 |none=>rfl
 |some n=>by_cases hm:n<=9007199254740991<;>simp only[hm,yB,yA]
theorem zJU(ds:Str)(kk:Int)(x:zac)(hdl:ds.length<=1000000000)(hz:ds=[]->kk=0):(Option.bind (
    if(decide (((ds.length:Nat):Int)>2))=true then
     Option.bind (zaQ ds 0 2) λs_7=>
     Option.bind (
       if(s_7==([48,120]:Str))=true then
        some true
       else
        Option.bind (zaQ ds 0 2) λs_8=>
        some (s_8==([48,88]:Str))) λb_9=>
     some b_9
    else
     some false) λb_10=>
  if b_10=true then
   Option.bind (zaQ ds 2 ((ds.length:Nat):Int)) λs_11=>
   Option.bind (zba s_11 16 53) λr_12=>
   if(!(r_12.2.1).isNil)=true then
    some (0,0,x,())
   else
    Option.bind (strings_Contains s_11 ([95]:Str)) λr_13=>
    if r_13.1=true then
     some (0,0,x,())
    else
     some ((IntKind.wrap .i64 r_12.1),kk,x,())
  else
   Option.bind (
     if(decide (((ds.length:Nat):Int)>1))=true then
      Option.bind (za3 ds 0) λc_15=>
      some (c_15==48)
     else
      some false) λb_16=>
   if b_16=true then
    some (0,0,x,())
   else
    Option.bind (zba ds 10 53) λr_17=>
    if(!(r_17.2.1).isNil)=true then
     some (0,0,x,())
    else
     Option.bind (strings_Contains ds ([95]:Str)) λr_18=>
     if r_18.1=true then
      some (0,0,x,())
     else
      some ((IntKind.wrap .i64 r_17.1),kk,x,()))=some (match zCj ds with
     |some n=>if n<=9007199254740991 then((n:Int),kk,x,())else(0,0,x,())
     |none=>(0,0,x,())):=by
 have h10:(Option.bind (zba ds 10 53) λr_17=>
    if(!(r_17.2.1).isNil)=true then
     some ((0:Int),(0:Int),x,())
    else
     Option.bind (strings_Contains ds ([95]:Str)) λr_18=>
     if r_18.1=true then
      some (0,0,x,())
     else
      some ((IntKind.wrap .i64 r_17.1),kk,x,()))=some (zPM 10 ds kk x):=by
   by_cases h0:ds=[]
   · rw[hz h0];subst h0;rfl
   · rw[<-zNl];exact zFe 10 (.inl rfl) ds h0 hdl kk x
 have hno:(Option.bind (
   if(decide (((ds.length:Nat):Int)>1))=true then
    Option.bind (za3 ds 0) λc_15=>
    some (c_15==48)
   else
    some false) λb_16=>
 if b_16=true then
  some (0,0,x,())
 else
  Option.bind (zba ds 10 53) λr_17=>
  if(!(r_17.2.1).isNil)=true then
   some (0,0,x,())
  else
   Option.bind (strings_Contains ds ([95]:Str)) λr_18=>
   if r_18.1=true then
    some (0,0,x,())
   else
    some ((IntKind.wrap .i64 r_17.1),kk,x,()))=some (match(if 1<ds.length/\ds.head?=some 48 then none else zei 10 ds 0)with
     |some n=>if n<=9007199254740991 then((n:Int),kk,x,())else(0,0,x,())
     |none=>(0,0,x,())):=by
   by_cases h1:1<ds.length
   · have d1:(((ds.length:Nat):Int)>1):=by omega
     cases hdd:ds with
     |nil=>rw[hdd]at h1;simp at h1
     |cons a r=>
       rw[hdd]at d1 h1 h10;simp only[d1,decide_true,yB,zh7,qz1,h1,true_and,List.head?_cons,Option.some.injEq]
       have eb:((((a.toNat:Nat):Int))==48)=decide (a=48):=by
         have h48:(a=48)↔a.toNat=48:=by
          constructor
          ·intro e;subst e;rfl
          ·intro e;apply UInt8.toNat_inj.mp;rw[e];rfl
         rw[zEs,decide_eq_decide,h48];omega
       rw[eb];by_cases ha:a=48
       · simp only[ha,decide_true,yB]
       · simp only[ha,decide_false,qz2,yA];exact h10
   · have d1: ¬(((ds.length:Nat):Int)>1):=by omega
     simp only[d1,h1,decide_false,qz2,yA,false_and,qz1];exact h10
 unfold zCj;by_cases h2:2<ds.length
 · have d2:(((ds.length:Nat):Int)>2):=by omega
   have hc2:zaQ ds 0 2=some (ds.take 2):=by
     have:=zme ds 0 2 (by omega) (by omega);simpa using this
   have hcd:zaQ ds 2 ((ds.length:Nat):Int)=some (ds.drop 2):=zdb ds 2 (by omega)
   have h16:=zFe 16 (.inr rfl) (ds.drop 2) (by
     intro e;have:=congrArg List.length e;simp only[List.length_drop,qz6]at this;omega) (by simp only[List.length_drop];omega) kk x
   rw[zNl]at h16;simp only[d2,decide_true,yB,hc2,qz1];by_cases hx:ds.take 2=[48,120]
   · have bx:(ds.take 2==([48,120]:Str))=true:=by simpa using hx
     simp only[bx,yB,hcd,qz1,h2,hx,true_and,true_or];exact h16
   · have bx:(ds.take 2==([48,120]:Str))=false:=by simpa using hx
     by_cases hX:ds.take 2=[48,88]
     · have bX:(ds.take 2==([48,88]:Str))=true:=by simpa using hX
       simp only[bx,bX,qz2,yA,yB,hcd,qz1,h2,hX,true_and,or_true];exact h16
     · have bX:(ds.take 2==([48,88]:Str))=false:=by simpa using hX
       simp only[bx,bX,qz2,yA,h2,hx,hX,or_self,and_false,qz1];exact hno
 · have d2: ¬(((ds.length:Nat):Int)>2):=by omega
   simp only[d2,h2,decide_false,qz2,yA,false_and,qz1];exact hno
theorem zEc(c:zac)(hs:c.rest.length<=1000000000):zhn c=some (match zpJ c.rest with|some (n,k)=>((n:Int),(k:Int),c,())|none=>(0,0,c,())):=by
 obtain⟨src,s,fr⟩:=c;simp only at hs⊢;have hle:=zq3 s;unfold zhn;simp only[zeo];rw[zrt s hs,qz1];have hlen:(s.take (zbz s)).length=zbz s:=by rw[List.length_take];omega
 have hcut:zaQ s 0 ((zbz s:Nat):Int)=some (s.take (zbz s)):=by
   have:=zme s 0 (zbz s) (by omega) hle;simpa using this
 simp only[hcut,qz1];generalize hds:s.take (zbz s)=ds at hlen;have hdl:ds.length<=1000000000:=by omega
 have rest:=zJU ds ((zbz s:Nat):Int) ⟨src,s,fr⟩ hdl (λh=>by rw[h]at hlen;simp at hlen;omega)
 unfold zpJ;rw[hds];by_cases hlt:zbz s<s.length
 · have d:(((zbz s:Nat):Int)< ((s.length:Nat):Int)):=by omega
   have hx:s[zbz s]? =some s[zbz s]:=qz9 hlt;have hg:za3 s ((zbz s:Nat):Int)=some ((s[zbz s].toNat:Nat):Int):=zSb s _ _ hx;simp only[d,decide_true,yB,hg,qz1];rw[hx]
   have eb:((((s[zbz s].toNat:Nat):Int))==46)=decide (s[zbz s]=46):=by
     have h46:(s[zbz s]=46)↔s[zbz s].toNat=46:=by
       constructor
       · intro e;rw[e];rfl
       · intro e;apply UInt8.toNat_inj.mp;rw[e];rfl
     rw[zEs,decide_eq_decide,h46];omega
   rw[eb];by_cases h46:s[zbz s]=46
   · simp only[h46,decide_true,yB]
   · have hne: ¬(some s[zbz s]=some (46:UInt8)):=by simpa using h46
     simp only[h46,decide_false,hne,qz2,yA];rw[rest];cases zCj ds with
     |none=>rfl
     |some n=>by_cases hm:n<=9007199254740991<;>simp only[hm,yB,yA]
 · have d: ¬(((zbz s:Nat):Int)< ((s.length:Nat):Int)):=by omega
   have hx:s[zbz s]? =none:=List.getElem?_eq_none (by omega);simp only[d,decide_false,qz2,yA,qz1];rw[hx,rest];simp only[reduceCtorEq,yA];cases zCj ds with
   |none=>rfl
   |some n=>by_cases hm:n<=9007199254740991<;>simp only[hm,yB,yA]
theorem zIN(c:UInt8)(n:Nat)(h:n<256):((((c.toNat:Nat):Int))==((n:Nat):Int))=decide (c=UInt8.ofNat n):=by
 have e:(c=UInt8.ofNat n)↔c.toNat=n:=zty c n h;rw[zEs,decide_eq_decide,e];omega
theorem zxb(ws:List Str)(list s:Str)(hl:list=joined ws)(hw: ∀w∈ws,(32:UInt8)∉w)(hn:([]:Str)∉ws):zcd list s=ws.contains s:=by
 subst hl;unfold zcd;cases hc:s.contains 32 with
 |true=>
  have:ws.contains s=false:=by
   rw[<-Bool.not_eq_true];intro h;have hm:=hw s (by simpa using h);exact hm (by simpa using hc)
  rw[this];simp
 |false=>
  rw[zki s (by simpa using hc) ws hw];cases s with
  |nil=>
   have:ws.contains ([]:Str)=false:=by rw[<-Bool.not_eq_true];intro h;exact hn (by simpa using h)
   rw[this];rfl
  |cons a r=>rfl
theorem zAm(s:Str):zxl s=zjN s:=zxb zNB _ s (by decide+kernel) (by decide+kernel) (by decide+kernel)
theorem zLG(x:Str)(h:x.length<=1000000000):zgV ([32,61,61,61,32,33,61,61,32]:Str) x=some (zoM.contains x,()):=by
 rw[zor _ _ (by decide) h,zxb zoM _ x (by decide+kernel) (by decide+kernel) (by decide+kernel)]
theorem zLe(x:Str)(h:x.length<=1000000000):zgV ([32,60,61,32,62,61,32,61,61,32,33,61,32,43,43,32,45,45,32,38,38,32,124,124,32,43,61,32,45,61,32,42,61,32,47,61,32,37,61,32]:Str) x=some (zqM.contains x,()):=by
 rw[zor _ _ (by decide) h,zxb zqM _ x (by decide+kernel) (by decide+kernel) (by decide+kernel)]
def zGF(r:Option (zy×Int×zac×Unit))(c:zac)(o:Option (Tok×Nat)):Prop:=match o with
 |some (t,n)=>r=some (t,(n:Int),c,())
 |none=>∃t,r=some (t,0,c,())
theorem zIc(c:zac)(h0:c.rest≠[])(hs:c.rest.length<=100000000):zGF (zfJ c) c (zhK c.rest):=by
 obtain⟨src,s,fr⟩:=c;simp only at h0 hs⊢;cases s with
 |nil=>exact absurd rfl h0
 |cons b r=>
  have hrow:=zrt (b::r) (by omega);have hle:=zq3 (b::r)
  have hcut: ∀k:Nat,k<=(b::r).length->zaQ (b::r) 0 (k:Int)=some ((b::r).take k):=by
   intro k hk;have:=zme (b::r) 0 k (by omega) hk;simpa using this
  unfold zfJ zhK;simp only[zh7,qz1,zkl,zop,zeo];by_cases hl:isLet b=true
  ·simp only[hl,yB,hrow,qz1];by_cases h32:32<zbz (b::r)
   ·have d:(((zbz (b::r):Nat):Int)>32):=by omega
    simp only[d,h32,decide_true,yB];exact⟨_,rfl⟩
   ·have d: ¬(((zbz (b::r):Nat):Int)>32):=by omega
    simp only[d,h32,decide_false,qz2,yA,hcut _ hle,qz1];rw[ztF _ (by simp only[List.length_take];omega),qz1,zAm]
    cases zjN ((b::r).take (zbz (b::r)))with
    |true=>simp only[yB];rfl
    |false=>simp only[qz2,yA];rfl
  ·have hl':isLet b=false:=by simpa using hl
   simp only[hl',qz2,yA];by_cases hd:zfO b=true
   ·have hn:=zEc ⟨src,b::r,fr⟩ (by simp only;omega)
    simp only at hn;simp only[hd,yB,hn,qz1];cases zpJ (b::r)with
    |none=>exact⟨_,rfl⟩
    |some p=>rfl
   ·have hd':zfO b=false:=by simpa using hd
    simp only[hd',qz2,yA];have b39:((((b.toNat:Nat):Int))==39)=decide (b=39):=zIN b 39 (by omega);have b34:((((b.toNat:Nat):Int))==34)=decide (b=34):=zIN b 34 (by omega);rw[b39,b34];by_cases hq:b=39\/b=34
    ·have dq:(decide (b=39)||decide (b=34))=true:=by simpa using hq
     simp only[dq,yB,hq,zF7 (b::r) hs,qz1];generalize hx:zfd (b::r)=q;obtain⟨u,n,e⟩:=q;have hb:=zFC hx;simp only;by_cases hn:n=0
     ·simp only[hn,yB];exact⟨_,rfl⟩
     ·simp only[hn,yA];have:((n.toNat:Nat):Int)=n:=by omega
      unfold zGF;simp only[this]
    ·have dq:(decide (b=39)||decide (b=34))=false:=by simpa using hq
     simp only[dq,qz2,yA,hq]
     have hlast: ¬(2< (b::r).length/\zoM.contains ((b::r).take 3)=true)->¬(1< (b::r).length/\zqM.contains ((b::r).take 2)=true)->
       zGF (zfF 0 (b::r) ((b.toNat:Nat):Int) ⟨src,b::r,fr⟩ ⟨0,[],0,0,false⟩) ⟨src,b::r,fr⟩ (if zdx (b::r)=0 then none else some (({Kind:=5,Text:=(b::r).take (zdx (b::r)),Num:=0,At:=0,Fresh:=false}:Tok),zdx (b::r))):=by
      intro n3 n2;unfold zfF strings_IndexByte zd3;simp only[zjf,Option.map_some,qz1,zeo,zHP];have e1:(((b.toNat:Nat):Int)).toNat.toUInt8=b:=by simp
      have e2:=Lib.contains_iff_indexByte ([123,125,40,41,91,93,46,59,44,60,62,43,45,42,47,37,33,63,58,61]:Str) b
      have e3:zdx (b::r)=if zAY.contains b=true then 1 else 0:=by
       unfold zdx;rw[yK n3,yK n2];rfl
      rw[e1,e3];have e4:decide (Lib.indexByte ([123,125,40,41,91,93,46,59,44,60,62,43,45,42,47,37,33,63,58,61]:Str) b>=0)=zAY.contains b:=e2.symm;rw[e4];cases zAY.contains b with
      |true=>
       simp only[yB];have:=hcut 1 (by simp);rw[show zaQ (b::r) 0 1=_ from this];rfl
      |false=>
       simp only[qz2,yA];exact⟨_,rfl⟩
     have hmid: ¬(2< (b::r).length/\zoM.contains ((b::r).take 3)=true)->
       zGF (zfH 0 (b::r) ((b.toNat:Nat):Int) ⟨src,b::r,fr⟩ ⟨0,[],0,0,false⟩) ⟨src,b::r,fr⟩ (if zdx (b::r)=0 then none else some (({Kind:=5,Text:=(b::r).take (zdx (b::r)),Num:=0,At:=0,Fresh:=false}:Tok),zdx (b::r))):=by
      intro n3;unfold zfH;simp only[zeo,zHP];by_cases h1:1< (b::r).length
      ·have d1:((((b::r).length:Nat):Int)>1):=by omega
       have hc2':zaQ (b::r) 0 2=some ((b::r).take 2):=hcut 2 (by omega);simp only[d1,decide_true,yB,hc2',qz1,zLe _ (show((b::r).take 2).length<=1000000000 by simp only[List.length_take];omega)]
       cases hb:zqM.contains ((b::r).take 2)with
       |true=>
        have e3:zdx (b::r)=2:=by
         unfold zdx;rw[yK n3,yL ⟨h1,hb⟩]
        rw[e3];simp only[yB];rfl
       |false=>exact hlast n3 (by rw[hb];simp)
      ·have d1: ¬((((b::r).length:Nat):Int)>1):=by omega
       simp only[d1,decide_false,qz2,yA];exact hlast n3 (by simp only[h1,false_and,not_false_eq_true])
     by_cases h2:2< (b::r).length
     ·have d2:((((b::r).length:Nat):Int)>2):=by omega
      have hc3':zaQ (b::r) 0 3=some ((b::r).take 3):=hcut 3 (by omega);simp only[d2,decide_true,yB,hc3',qz1,zLG _ (show((b::r).take 3).length<=1000000000 by simp only[List.length_take];omega)]
      cases hb:zoM.contains ((b::r).take 3)with
      |true=>
       have e3:zdx (b::r)=3:=by
        unfold zdx;rw[yL ⟨h2,hb⟩]
       rw[e3];simp only[yB];rfl
      |false=>exact hmid (by rw[hb];simp)
     ·have d2: ¬((((b::r).length:Nat):Int)>2):=by omega
      simp only[d2,decide_false,qz2,yA];exact hmid (by simp only[h2,false_and,not_false_eq_true])
theorem zoW(len:Nat)(p:Tok×Nat)(l:List (Tok×Nat)):zie len (p::l)=p.1.at_ ((len -p.2:Nat):Int)::zie len l:=rfl
theorem zQi{a b:Nat}(h:b<=a)(ha:a<=1000000000000):IntKind.wrap .i64 ((a:Int) - (b:Int))=((a -b:Nat):Int):=by rw[wrap_i64 (by omega) (by omega)];omega
theorem zTA(l:List zy):zoQ l=some (l,()):=by
 unfold zoQ
 have:zIG l 0 ((l.length:Nat):Int) ((l.length:Nat):Int)=some l:=by
  unfold zIG;simp
 rw[this];rfl
theorem zHT(src:Str)(hs:src.length<=100000000): ∀(m:Nat) (s:Str) (f0:Bool) (out:List Tok),s.length<m->s.length<=src.length->out.length+s.length<=src.length->
  match zih m s false with
   | .inl l=>zaI ziY m (src,⟨src,s,f0⟩,out,())=some (out++zie src.length l,0,0,())
   | .inr k=>k<=src.length/\zaI ziY m (src,⟨src,s,f0⟩,out,())=some ([],((src.length -k:Nat):Int),60,())
 |0,s,f0,out,h,_,_=>by omega
 |m+1,s,f0,out,hm,hsl,hout=>by
  have hb:=zDw ⟨src,s,f0⟩ (by simp only;omega)
  simp only at hb;have hl:=zeK (s.length+1) s false;rw[zih];generalize hq:zcC (s.length+1) s false=q at hb hl;obtain⟨r,f,ok⟩:=q;simp only at hb hl⊢;have w:IntKind.wrap .i64 (((src.length:Nat):Int) - ((r.length:Nat):Int))=((src.length -r.length:Nat):Int):=zQi (by omega) (by omega)
  have hstep:ziY (src,⟨src,s,f0⟩,out,())=(if ok=true then
    if(r==([]:Str))=true then
     some (.inr (out++[({Kind:=0,Text:=([]:Str),Num:=0,At:=((src.length -r.length:Nat):Int),Fresh:=f}:zy)],0,0,()))
    else Option.bind (zfJ ⟨src,r,f⟩) λr_12=>
     if(r_12.2.1==0)=true then
      some (Sum.inr (([]:List zy),IntKind.wrap .i64 (((src.length:Nat):Int) - ((r_12.2.2.1.rest.length:Nat):Int)),60,()))
     else
      Option.bind (zaQ r_12.2.2.1.rest r_12.2.1 ((r_12.2.2.1.rest.length:Nat):Int)) λs_17=>
      some (Sum.inl (src,(⟨r_12.2.2.1.src,s_17,r_12.2.2.1.fresh⟩:zac),out++[(⟨r_12.1.Kind,r_12.1.Text,r_12.1.Num,((src.length -r.length:Nat):Int),r_12.2.2.1.fresh⟩:zy)],()))
   else some (.inr ([],((src.length -r.length:Nat):Int),60,()))):=by
   simp only[ziY,zeo,hb,qz1,w,zTA];rw[zd1 (by simp only[qz3,qz6];omega)]
   simp only[qz1];cases ok with
   |false=>rfl
   |true=>
    simp only[yB];cases(r==([]:Str))with
    |true=>rfl
    |false=>
     simp only[qz2,yA];congr 1;funext r_12;rw[zd1 (by simp only[qz3,qz6];omega)]
     rfl
  cases ok with
  |false=>
   simp only[qz2,yA]at hstep;simp only[yB];exact⟨by omega,zaN hstep⟩
  |true=>
   simp only[yB]at hstep;simp only[Bool.true_eq_false,yA];by_cases hr:r=[]
   ·subst hr;simp only[beq_self_eq_true,yB]at hstep;simp only[yB];exact zaN hstep
   ·have br:(r==([]:Str))=false:=by simpa using hr
    simp only[br,qz2,yA]at hstep;simp only[hr,yA];have h1:=zIc ⟨src,r,f⟩ hr (by simp only;omega)
    simp only at h1;cases ho:zhK r with
    |none=>
     rw[ho]at h1;obtain⟨t,e1⟩:=h1;rw[e1]at hstep;simp only[qz1,beq_self_eq_true,yB,w]at hstep;exact⟨by omega,zaN hstep⟩
    |some p=>
     obtain⟨t,n⟩:=p;rw[ho]at h1;have e1:zfJ ⟨src,r,f⟩=some (t,(n:Int),⟨src,r,f⟩,()):=h1;rw[e1]at hstep;have hn:=zmd ho;have c0:((n:Int)==0)=false:=by rw[yH];omega
     have hcut:zaQ r (n:Int) ((r.length:Nat):Int)=some (r.drop n):=zdb r n hn.2.1;simp only[qz1,c0,qz2,yA,hcut]at hstep;have htok:(⟨t.Kind,t.Text,t.Num,((src.length -r.length:Nat):Int),f⟩:Tok)=(t.fresh f).at_ ((src.length -r.length:Nat):Int):=rfl;rw[htok]at hstep;have hdl:(r.drop n).length=r.length -n:=List.length_drop;have g:=zHT src hs m (r.drop n) f (out++[(t.fresh f).at_ ((src.length -r.length:Nat):Int)]) (by omega) (by omega) (by simp only[qz5,qz3,qz6];omega)
     dsimp only;cases hc:zih m (r.drop n) false with
     |inl l=>
       rw[hc]at g;simp only at g⊢;refine(zbZ hstep).trans (g.trans ?_);rw[zoW];simp
     |inr k=>
       rw[hc]at g;exact⟨g.1,(zbZ hstep).trans g.2⟩
theorem zzc(src:Str)(hs:src.length<=100000000):zts src=some ((zeN src).1,(zeN src).2.1,(zeN src).2.2,()):=by
 unfold zts zeN;by_cases h:4096<src.length
 ·have d:(((src.length:Nat):Int)>4096):=by omega
  simp only[d,h,decide_true,yB]
 ·have d: ¬(((src.length:Nat):Int)>4096):=by omega
  simp only[d,h,decide_false,qz2,yA];have g:=zHT src hs (src.length+1) src false [] (by omega) (by omega) (by simp);cases hc:zih (src.length+1) src false with
  |inl l=>
   rw[hc]at g;exact(zdu g (by omega)).trans rfl
  |inr k=>
   rw[hc]at g;exact(zdu g.2 (by omega)).trans rfl
end Go.D08.U
namespace Go.D08
open Go Go.Gw Go.Dn
def i64(n:Int):Prop:= -9223372036854775808<=n/\n<9223372036854775808
mutual
def okN:Node->Prop
 | ⟨k,_,m,_,_,l⟩=>i64 k/\i64 m/\okL l
def okL:List Node->Prop
 | []=>True
 |x::r=>okN x/\okL r
end
mutual
def zJ:Node->Nat
 | ⟨_,n,_,t,ns,l⟩=>n.length+t.length+(ns.map λs=>s.length+1).sum+zak l+7
def zak:List Node->Nat
 | []=>0
 |x::r=>zJ x+zak r
end
mutual
theorem zi1: ∀x:Node,zjl x<=zJ x
 | ⟨_,_,_,_,_,l⟩=>by simp only[zjl,zJ];have:=zDU l;omega
theorem zDU: ∀l:List Node,zl7 l<=zak l
 | []=>by simp[zl7]
 |x::r=>by simp only[zl7,zak];have:=zi1 x;have:=zDU r;omega
end
theorem zsg: ∀l:List Str,l.length<=(l.map λs=>s.length+1).sum
 | []=>by simp
 |x::r=>by simp only[qz3,List.map_cons,List.sum_cons];have:=zsg r;omega
mutual
theorem zwx: ∀x:Node,zpE x<=zJ x
 | ⟨_,_,_,_,ns,l⟩=>by simp only[zpE,zJ];have:=zBy l;have:=zsg ns;omega
theorem zBy: ∀l:List Node,zpr l<=zak l
 | []=>by simp[zpr]
 |x::r=>by simp only[zpr,zak];have:=zwx x;have:=zBy r;omega
end
theorem zaF(x:Node):zJ x=x.Name.length+x.Text.length+(x.Names.map λs=>s.length+1).sum+zak x.L+7:=by cases x;simp[zJ]
theorem zbc{x:Node}: ∀{l:List Node},x∈l->zJ x<=zak l
 |y::r,h=>by
  simp only[zak];rcases yP.1 h with rfl|h
  ·omega
  ·have:=zbc h;omega
theorem zmA: ∀l:List Node,l.length<=zak l
 | []=>by simp
 |x::r=>by simp only[zak,qz3];have:=zmA r;have:=zaF x;omega
theorem zIw{s:Str}: ∀{l:List Str},s∈l->s.length<=(l.map λs=>s.length+1).sum
 |y::r,h=>by
  simp only[List.map_cons,List.sum_cons];rcases yP.1 h with rfl|h
  ·omega
  ·have:=zIw h;omega
end Go.D08
namespace Go.D08
open Go Go.Gw Go.Dn
set_option maxRecDepth 100000
def zf2(l:Str):Str:=l.takeWhile (· !=42)
def zou(l:Str):Str:=(l.dropWhile (· !=42)).drop 1
theorem zCp{α:Type}(p:α->Bool): ∀l:List α,l.take (l.takeWhile p).length=l.takeWhile p/\l.drop (l.takeWhile p).length=l.dropWhile p
 | []=>by simp
 |a::l=>by
  rw[List.takeWhile_cons,List.dropWhile_cons];have:=zCp p l;cases p a<;>simp[this]
theorem zEf(l:Str)(hl:l.length<=1000):strings_Cut l [42]=some (zf2 l,zou l,l.contains 42,()):=by
 obtain⟨t1,t2⟩:=zCp (λc:UInt8=>c !=42) l;have hlen:(l.takeWhile (· !=42)).length+(l.dropWhile (· !=42)).length=l.length:=by rw[<-qz5,List.takeWhile_append_dropWhile]
 have hx:stringslite_Index l [42]=some (Lib.index l [42],()):=by simp only[stringslite_Index,zd4,show l.length<4294967281 by omega,yB,zjf]
 unfold strings_Cut stringslite_Cut;simp only[hx,qz1,zDj];cases hc:l.contains 42 with
 |true=>
  have h1:(decide ((((l.takeWhile (· !=42)).length:Nat):Int)>=0))=true:=by simpa using by omega
  have h2:1<=(l.dropWhile (· !=42)).length:=by
   rcases Nat.eq_zero_or_pos (l.dropWhile (· !=42)).length with h|h
   ·exfalso;have hd:l.dropWhile (· !=42)=[]:=List.length_eq_zero_iff.1 h;have hm:(42:UInt8)∈l:=by simpa using hc
    have ht:l.takeWhile (· !=42)=l:=by have:=List.takeWhile_append_dropWhile (p:=λc:UInt8=>c !=42) (l:=l);rw[hd,List.append_nil]at this;exact this
    rw[<-ht]at hm;have:=List.all_takeWhile (p:=λc:UInt8=>c !=42) (l:=l);have h3:=List.all_eq_true.1 this 42 hm;simp at h3
   ·exact h
  have e:(((l.takeWhile (· !=42)).length:Nat):Int)+((([42]:Str).length:Nat):Int)=(((l.takeWhile (· !=42)).length+1:Nat):Int):=by simp
  simp only[yB,h1]
  rw[show zaQ l 0 (((l.takeWhile (· !=42)).length:Nat):Int)=some (l.takeWhile (· !=42)) by
   have:=zme l 0 (l.takeWhile (· !=42)).length (Nat.zero_le _) (by omega);simpa [t1]using this]
  rw[e,wrap_i64 (by omega) (by omega),zdb l _ (by omega)];simp only[qz1,zf2,zou];rw[<-t2,List.drop_drop]
 |false=>
  have hm: ¬(42:UInt8)∈l:=by simpa using hc
  have hd:l.takeWhile (· !=42)=l:=by
   have: ∀m:Str,(42:UInt8)∉m->m.takeWhile (· !=42)=m:=by
    intro m;induction m with
    |nil=>intro _;rfl
    |cons a r ih=>
     intro h;simp only[yP,not_or]at h;rw[List.takeWhile_cons,ih h.2];have:(a !=42)=true:=by simpa using λe=>h.1 e.symm
     rw[this];rfl
   exact this l hm
  have h4:l.dropWhile (· !=42)=[]:=by
   have:=hlen;rw[hd]at this;exact List.length_eq_zero_iff.1 (by omega)
  simp[zf2,zou,hd,h4]
abbrev Form:=zc7
def zCv(f:Form):Bool:=decide (f.name.length<=100)&&(decide (f.l.length<=10)&&(!(f.l.contains 42)|| !(zou f.l==([]:Str))))
theorem zLf{i:Int}(h0:0<=i)(h1:i<=1):zaQ ([101]:Str) 0 i=some (if i=1 then[101]else[]):=by
 rcases(show i=0\/i=1 by omega)with rfl|rfl<;>rfl
theorem zEl{i:Int}(h0:2<=i)(h1:i<=3):zaQ ([101,98,98]:Str) 0 i=some (if i=3 then[101,98,98]else[101,98]):=by
 rcases(show i=2\/i=3 by omega)with rfl|rfl<;>rfl
theorem zAL(n:Nat):0<=(if 1< ((n:Nat):Int)then(1:Int)else(n:Int))/\(if 1< ((n:Nat):Int)then(1:Int)else(n:Int))<=1:=by split<;>omega
theorem zA3(n:Nat):2<=(let a:=(if 2>((n:Nat):Int)then(2:Int)else(n:Int));if 3<a then 3 else a)/\(let a:=(if 2>((n:Nat):Int)then(2:Int)else(n:Int));if 3<a then 3 else a)<=3:=by
 simp only;split<;>split<;>omega
def okO(o:Option (Form×Bool×Unit)):Bool:=match o with
 |some (f,_,_)=>zCv f
 |none=>false
theorem zKS{c:Prop}[Decidable c]{a b:Option (Form×Bool×Unit)}(h1:okO a=true)(h2:okO b=true):okO (if c then a else b)=true:=by split<;>assumption
theorem zSE{c:Prop}[Decidable c]{a b:Str}{n:Str}{m:Int}{t u v:Bool}(h1:okO (some (⟨n,m,t,u,a⟩,v,()))=true)(h2:okO (some (⟨n,m,t,u,b⟩,v,()))=true):okO (some (⟨n,m,t,u,if c then a else b⟩,v,()))=true:=by split<;>assumption
theorem zBQ{o:Option (Form×Bool×Unit)}(h:okO o=true): ∃f b,o=some (f,b,())/\zCv f=true:=by
 match o,h with
 |some (f,b,()),h=>exact⟨f,b,rfl,h⟩
theorem zuR(n:Node):okO (zL n)=true:=by
 unfold zL;simp only[zLf (zAL _).1 (zAL _).2,zEl (zA3 _).1 (zA3 _).2,qz1]
 repeat' (first|apply zKS|apply zSE|rfl)
theorem zT2(n:Node): ∃f b,zaE n=some (f,b,())/\zCv f=true:=by
 refine zBQ ?_;obtain⟨f,b,h1,h2⟩:=zBQ (zuR n);unfold zaE;simp only[zq,h1,qz1,zN,zq]
 repeat' (first|apply zKS|exact h2|rfl)
def zaq(n:Node):Option Form:=match zaE n with
 |some (f,true,())=>some f
 |_=>none
def za0(n:Node)(w:Str):Bool:=
 if(w==([]:Str))=true then n.Name==([]:Str)
 else if(w==([110]:Str))=true then zaP n.Name
 else if(w==([109]:Str))=true then n.Name==([]:Str)||zaP n.Name
 else if(w==([105]:Str))=true then zdD n.Name
 else if(w==([99]:Str))=true then(if(match n.L[1]? with|some x=>x.Kind==25|none=>false)=true then zaP n.Name else n.Name==([]:Str))
 else zcd w n.Name
theorem zPO(n:Node)(w:Str)(hw:w.length<=100)(hn:n.Name.length<=1000000000)(hl:n.L.length<=1000000000):zqX n w=some (za0 n w,()):=by
 unfold zqX za0;simp only[zva _ hn,zsx _ hn,zxU w _ (by omega) hn,qz1];split
 ·rfl
 ·split
  ·rfl
  ·split
   ·cases n.Name==([]:Str)<;>rfl
   ·split
    ·rfl
    ·split
     ·by_cases h:1<n.L.length
      ·have h1:(decide (((n.L.length:Nat):Int)>1))=true:=by simpa using by omega
       have h2:zT n.L 1=some n.L[1]:=by have:=zjz n.L 1;rw[qz9 h]at this;exact this
       simp only[h1,yB,h2,qz1,qz9 h];cases n.L[1].Kind==25<;>rfl
      ·have h1:(decide (((n.L.length:Nat):Int)>1))=false:=by simpa using by omega
       have h2:n.L[1]? =none:=List.getElem?_eq_none (by omega);simp only[h1,qz2,yA,qz1,h2]
     ·rfl
def zci(k:Int):Bool:=decide (k>=1)&&(decide (k<=21)&&k !=9)
def zcF(k:Int):Bool:=(k==3||k==11)||k==12
def stK(k:Int)(fn:Bool):Bool:=(((decide (k>=22))&&(decide (k<=40)))&&(k !=23)&&(k !=37))&&((k !=39)||fn)
def isP(x:Node)(c:Int):Bool:=
 if(c==101)=true then zci x.Kind
 else if(c==116)=true then zcF x.Kind
 else if(c==102)=true then zci x.Kind||x.Kind==42
 else if(c==98)=true then x.Kind==25
 else if(c==99)=true then x.Kind==25||x.Kind==42
 else if(c==112)=true then x.Kind==9
 else if(c==100)=true then x.Kind==23
 else if(c==118)=true then(zci x.Kind||x.Kind==42)||x.Kind==22
 else if(c==119)=true then zcF x.Kind||(x.Kind==22&&(match x.L with| [y]=>y.L.isEmpty|_=>false))
 else if(c==107)=true then x.Kind==37
 else if(c==115)=true then stK x.Kind false
 else if(c==120)=true then stK x.Kind true
 else false
theorem zg4(o:Option (Bool×Unit)):(Option.bind o λr=>some (r.1,()))=o:=by cases o<;>rfl
def zAC(g:zav)(x:Node)(b:Bool):Option (Bool×Unit):=if b=true then g.zbl x else some (false,())
theorem zNc(g:zav)(c k:Int)(x:Node):zgd g c k x=zAC g x (stK k (c==120)):=by
 unfold zgd zAC stK;simp only[zq,zg4]
theorem zJ3(x:Node):zfk x=some (zcF x.Kind,()):=rfl
theorem zUZ(g:zav)(x:Node):zjG g x.Kind x=zAC g x (zcF x.Kind||(x.Kind==22&&(match x.L with| [y]=>y.L.isEmpty|_=>false))):=by
 unfold zjG zAC;simp only[zq,zg4,zJ3,qz1];cases zcF x.Kind with
 |true=>rfl
 |false=>
  cases x.Kind==22 with
  |false=>rfl
  |true=>
   cases hL:x.L with
   |nil=>rfl
   |cons y r=>
    cases r with
    |nil=>
     have:zT ([y]:List Node) 0=some y:=rfl;simp only[List.length_singleton,show(((1:Nat):Int)==1)=true from rfl,Bool.and_self,yB,this,qz1,qz2,yA,Bool.false_or,Bool.true_and];cases hy:y.L with
     |nil=>rfl
     |cons z r=>
      have:((((z::r).length:Nat):Int)==0)=false:=by rw[yH];simp only[qz3];omega
      rw[this];rfl
    |cons z r=>
     have:((((y::z::r).length:Nat):Int)==1)=false:=by rw[yH];simp only[qz3];omega
     rw[this];rfl
theorem zSy(g:zav)(x:Node)(c:Int):zjO g x c=zAC g x (isP x c):=by
 have h0:zjO g x c=ziU g c x.Kind (zci x.Kind) x:=by
  unfold zjO zci;simp only[zq];cases decide (x.Kind>=1)<;>cases decide (x.Kind<=21)<;>rfl
 rw[h0];unfold ziU zrS;by_cases h101:c=101
 ·subst h101;show(if zci x.Kind=true then Option.bind (g.zbl (zC x)) (λr=>some (r.1,()))else some (false,()))=_;rw[zg4,zq];rfl
 by_cases h116:c=116
 ·subst h116;show(if zcF x.Kind=true then Option.bind (g.zbl (zC x)) (λr=>some (r.1,()))else some (false,()))=_;rw[zg4,zq];rfl
 by_cases h102:c=102
 ·subst h102;show(if(zci x.Kind||x.Kind==42)=true then Option.bind (g.zbl (zC x)) (λr=>some (r.1,()))else some (false,()))=_;rw[zg4,zq];rfl
 by_cases h98:c=98
 ·subst h98;show(if(x.Kind==25)=true then Option.bind (g.zbl (zC x)) (λr=>some (r.1,()))else some (false,()))=_;rw[zg4,zq];rfl
 by_cases h99:c=99
 ·subst h99;show(if(x.Kind==25||x.Kind==42)=true then Option.bind (g.zbl (zC x)) (λr=>some (r.1,()))else some (false,()))=_;rw[zg4,zq];rfl
 by_cases h112:c=112
 ·subst h112;show(if(x.Kind==9)=true then Option.bind (g.zbl (zC x)) (λr=>some (r.1,()))else some (false,()))=_;rw[zg4,zq];rfl
 by_cases h100:c=100
 ·subst h100;show(if(x.Kind==23)=true then Option.bind (g.zbl (zC x)) (λr=>some (r.1,()))else some (false,()))=_;rw[zg4,zq];rfl
 by_cases h118:c=118
 ·subst h118;show(if((zci x.Kind||x.Kind==42)||x.Kind==22)=true then Option.bind (g.zbl (zC x)) (λr=>some (r.1,()))else some (false,()))=_;rw[zg4,zq];rfl
 by_cases h119:c=119
 ·subst h119;show zjG g x.Kind x=_;rw[zUZ];rfl
 by_cases h107:c=107
 ·subst h107;show(if(x.Kind==37)=true then Option.bind (g.zbl (zC x)) (λr=>some (r.1,()))else some (false,()))=_;rw[zg4,zq];rfl
 by_cases h115:c=115
 ·subst h115;show zgd g 115 x.Kind x=_;rw[zNc];rfl
 by_cases h120:c=120
 ·subst h120;show zgd g 120 x.Kind x=_;rw[zNc];rfl
 have k101:(c==101)=false:=by rw[yH];exact h101
 have k116:(c==116)=false:=by rw[yH];exact h116
 have k102:(c==102)=false:=by rw[yH];exact h102
 have k98:(c==98)=false:=by rw[yH];exact h98
 have k99:(c==99)=false:=by rw[yH];exact h99
 have k112:(c==112)=false:=by rw[yH];exact h112
 have k100:(c==100)=false:=by rw[yH];exact h100
 have k118:(c==118)=false:=by rw[yH];exact h118
 have k119:(c==119)=false:=by rw[yH];exact h119
 have k107:(c==107)=false:=by rw[yH];exact h107
 have k115:(c==115)=false:=by rw[yH];exact h115
 have k120:(c==120)=false:=by rw[yH];exact h120
 have e1:isP x c=false:=by simp only[isP,k101,k116,k102,k98,k99,k112,k100,k118,k119,k107,k115,k120,qz2,yA]
 rw[e1];unfold zrv;rw[k101,yK (by decide)];unfold zrr;rw[k116,yK (by decide)];unfold zr0;rw[k102,yK (by decide)];unfold zrq;rw[k98,yK (by decide)];unfold zr3;rw[k99,yK (by decide)];unfold zrM;rw[k112,yK (by decide)];unfold zsl;rw[k100,yK (by decide)];unfold zp4;rw[k118,yK (by decide)];unfold zpY;rw[k119,yK (by decide)];unfold zpT;rw[k107,yK (by decide)];unfold zpQ;rw[k115,yK (by decide)];unfold zpV;rw[k120,yK (by decide)];rfl
def ziJ(x k:Node):Bool:=(x.Kind==35&&k.Kind==42)||((x.Kind==36&&k.Kind==37)&&(match k.L with|y::_=>y.Kind==42| []=>false))
def zia(x:Node)(ls:Str):List (Node×Bool)->Nat->Nat->Bool
 | [],_,e=>decide (e<2)
 | (k,b)::r,i,e=>match ls[min i (ls.length -1)]? with
   |none=>false
   |some c=>(isP k ((c.toNat:Nat):Int)&&b)&&zia x ls r (i+1) (if ziJ x k=true then e+1 else e)
def zti(x:Node)(f:Form):Bool:=(za0 x f.name&&(decide (0<=x.Num)&&decide (x.Num<=f.num)))&&(((zaL x.Text&&(x.Text==([]:Str)||f.text))&&(x.Names.isEmpty||f.names))&&x.Names.all zaP)
def zjr(x:Node)(l:Str):Bool:=decide ((zf2 l).length<=x.L.length)&&(l.contains 42||decide (x.L.length<=(zf2 l).length))
def zwq(x:Node)(ks:List (Node×Bool)):Bool:=match zaq x with
 |none=>false
 |some f=>(zti x f&&zjr x f.l)&&zia x (zf2 f.l++zou f.l) ks 0 0
mutual
def zan:Node->Bool
 | ⟨k,n,m,t,ns,l⟩=>zwq ⟨k,n,m,t,ns,l⟩ (zjT l)
def zjT:List Node->List (Node×Bool)
 | []=>[]
 |x::r=>(x,zan x)::zjT r
end
theorem zow(x:Node):zan x=zwq x (zjT x.L):=by cases x;simp[zan]
theorem zOA{x:Node}(h:x.Kind=37):zaq x=some ⟨[],0,false,false,[102,42,115]⟩:=by
 simp[zaq,zaE,zL,h,zq,zq]
theorem zPe{x:Node}(h:zan x=true)(hk:x.Kind=37): ∃y r,x.L=y::r:=by
 rw[zow]at h;unfold zwq at h;rw[zOA hk]at h;cases hL:x.L with
 |cons y r=>exact⟨y,r,rfl⟩
 |nil=>
   exfalso;simp only[qz4]at h;have h2:=h.1.2;unfold zjr at h2;rw[hL]at h2;simp[zf2]at h2
theorem zFa(g:zav)(x:Node)(fx ot:Str)(hg: ∀k∈x.L,∀c:Int,g.zi2 k c=some (isP k c&&zan k,()))(hlen:x.L.length<=1000000000)(hf:fx.length<=1000)(ho:ot.length<=1000)(hls:x.L≠[]->fx++ot≠[]):
   ∀(r:List Node) (i e:Nat),x.L.drop i=r->e<=i->i<=x.L.length->zaI (zit g) (r.length+1) (fx,ot,(e:Int),x.L,((x.L.length:Nat):Int),(i:Int),x,())=some (zia x (fx++ot) (zjT r) i e,())
 | [],i,e,hr,he,hil=>by
   have hi: ¬((i:Int)< (x.L.length:Int)):=by
     have:=congrArg List.length hr;simp at this;omega
   refine zaN ?_;simp only[zit,hi,decide_false,qz2,yA,zjT,zia];congr 3;rw[decide_eq_decide];omega
 |k::r,i,e,hr,he,hil=>by
   obtain⟨h1,h2,h3⟩:=zhZ hr;have hi:((i:Int)< (x.L.length:Int)):=by omega
   have hx:k∈x.L:=List.mem_of_mem_drop (hr▸qz7);have hne:fx++ot≠[]:=hls (λe=>by rw[e]at h3;simp at h3)
   have hpos:0< (fx++ot).length:=List.length_pos_iff.2 hne;have hcat:zkb fx ot=some (fx++ot):=zq5 (by omega);have hlt:min i ((fx++ot).length -1)< (fx++ot).length:=by omega
   have hle:(fx++ot).length<=2000:=by rw[qz5];omega
   have hmin:(if((((fx++ot).length:Nat):Int) -1)< (i:Int)then((((fx++ot).length:Nat):Int) -1)else(i:Int))=((min i ((fx++ot).length -1):Nat):Int):=by split<;>omega
   have hb:za3 (fx++ot) ((min i ((fx++ot).length -1):Nat):Int)=some ((((fx++ot)[min i ((fx++ot).length -1)]).toNat:Nat):Int):=by rw[zmg,qz9 hlt];rfl
   have hstep: ∀c:UInt8,(fx++ot)[min i ((fx++ot).length -1)]? =some c->zit g (fx,ot,(e:Int),x.L,((x.L.length:Nat):Int),(i:Int),x,())=
      if(isP k ((c.toNat:Nat):Int)&&zan k)=true then some (.inl (fx,ot,(((if ziJ x k=true then e+1 else e):Nat):Int),x.L,((x.L.length:Nat):Int),((i+1:Nat):Int),x,()))else some (.inr (false,())):=λc hc=>by
     rw[qz9 hlt]at hc;cases hc;simp only[zit,hi,decide_true,yB,h1,qz1,hcat,zq];rw[wrap_i64 (by omega) (by omega),hmin,hb];simp only[qz1,hg k hx];generalize hq:isP k _=q;cases q with
     |false=>simp
     |true=>
      cases hm:zan k with
      |false=>simp
      |true=>
       simp only[Bool.and_self,yO,qz2,yA,yB];have w1:IntKind.wrap .i64 ((e:Int)+1)=((e+1:Nat):Int):=by rw[wrap_i64 (by omega) (by omega)];rfl
       have w2:IntKind.wrap .i64 ((i:Int)+1)=((i+1:Nat):Int):=by rw[wrap_i64 (by omega) (by omega)];rfl
       rw[w1,w2];unfold ziJ;cases hA:(x.Kind==35&&k.Kind==42)with
       |true=>simp
       |false=>
        cases hB:(x.Kind==36&&k.Kind==37)with
        |false=>simp
        |true=>
         simp only[qz4,beq_iff_eq]at hB;obtain⟨y,r',hL⟩:=zPe hm hB.2;have h0:zT (y::r') 0=some y:=rfl;rw[hL,h0];cases hy:y.Kind==42<;>simp[hy]
   simp only[zjT,zia];rw[qz9 hlt];have hs:=hstep _ (qz9 hlt);simp only;cases hq:(isP k ((((fx++ot)[min i ((fx++ot).length -1)]).toNat:Nat):Int)&&zan k)with
   |false=>
     refine zaN ?_;rw[hs,hq];rfl
   |true=>
     rw[hq]at hs;simp only[yB]at hs;rw[qz3,zbZ hs,zFa g x fx ot hg hlen hf ho hls r (i+1) _ h2 (by split<;>omega) (by omega),Bool.true_and]
theorem zQF(g:zav)(x:Node)(hb:zJ x<=2097152)(hg: ∀k∈x.L,∀c:Int,g.zi2 k c=some (isP k c&&zan k,())):zno g x=some (zan x,()):=by
 have e:=zaF x;have l1:=zmA x.L;have l2:=zsg x.Names;have l3: ∀s∈x.Names,s.length<=1000000000:=λs hs=>by have:=zIw hs;omega
 unfold zno;rw[zow];unfold zwq zaq;obtain⟨f,b,h1,h2⟩:=zT2 x;simp only[zCv,qz4,yT]at h2;obtain⟨k1,k2,k3⟩:=h2;rw[zq,h1];cases b with
 |false=>rfl
 |true=>
   simp only[qz1,yO,qz2,yA,zPO x f.name k1 (by omega) (by omega),zvP x.Text (by omega),zur x.Names (by omega) l3,zEf f.l (by omega)];have d1:decide (x.Num<0)= !(decide (0<=x.Num)):=by rw[<-decide_not,decide_eq_decide];omega
   have d2:decide (x.Num>f.num)= !(decide (x.Num<=f.num)):=by rw[<-decide_not,decide_eq_decide];omega
   have d3:decide (((x.Names.length:Nat):Int)>0)= !x.Names.isEmpty:=by cases x.Names with
     |nil=>rfl
     |cons a l=>simp
   have d4:decide (((x.L.length:Nat):Int)< (((zf2 f.l).length:Nat):Int))= !(decide ((zf2 f.l).length<=x.L.length)):=by rw[<-decide_not,decide_eq_decide];omega
   have d5:decide (((x.L.length:Nat):Int)>(((zf2 f.l).length:Nat):Int))= !(decide (x.L.length<=(zf2 f.l).length)):=by rw[<-decide_not,decide_eq_decide];omega
   rw[d1,d2,d3,d4,d5]
   have hfx:(zf2 f.l).length<=1000:=by
     have:(zf2 f.l).length<=f.l.length:=List.IsPrefix.length_le (List.takeWhile_prefix _);omega
   have hot:(zou f.l).length<=1000:=by
     have:(zou f.l).length<=f.l.length:=by
      unfold zou;rw[List.length_drop];have:=List.IsSuffix.length_le (List.dropWhile_suffix (l:=f.l) (λc:UInt8=>c !=42));omega
     omega
   have hloop:zjr x f.l=true->Lp.loop (zit g) (zf2 f.l,zou f.l,0,x.L,((x.L.length:Nat):Int),0,x,())=some (zia x (zf2 f.l++zou f.l) (zjT x.L) 0 0,()):=λhm=>by
     refine zdu (n:=x.L.length+1) ?_ (by omega);refine zFa g x _ _ hg (by omega) hfx hot (λhne=>?_) x.L 0 0 rfl (yJ _) (Nat.zero_le _);intro he;obtain⟨e1,e2⟩:=List.append_eq_nil_iff.1 he;unfold zjr at hm;rw[e1]at hm;simp only[qz4,yQ,yT,qz6]at hm;rcases hm.2 with hm|hm
     ·rw[e2,hm]at k3;simp at k3
     ·exact hne (List.length_eq_zero_iff.1 (by omega))
   unfold zti;cases za0 x f.name with
   |false=>rfl
   |true=>
     cases decide (0<=x.Num)with
     |false=>rfl
     |true=>
      cases decide (x.Num<=f.num)with
      |false=>rfl
      |true=>
       cases zaL x.Text with
       |false=>rfl
       |true=>
        cases ht:(x.Text==([]:Str))<;>cases f.text<;>cases x.Names.isEmpty<;>cases f.names<;>cases x.Names.all zaP<;>try rfl
        all_goals
         simp only[yO,yN,Bool.or_false,Bool.or_true,Bool.and_true,Bool.and_false,Bool.true_and,Bool.false_and,qz2,yA,Bool.false_or,Bool.true_or];cases hm:zjr x f.l with
         |true=>
          have hm':=hm;unfold zjr at hm';simp only[qz4]at hm';rw[hm'.1]
          have:(!f.l.contains 42&& !decide (x.L.length<=(zf2 f.l).length))=false:=by
           cases hc:f.l.contains 42 with
           |true=>rfl
           |false=>rw[hc]at hm';simpa using hm'.2
          simp only[this,yO,Bool.or_false,qz2,yA,hloop hm,Bool.true_and]
         |false=>
          unfold zjr at hm
          have:(!decide ((zf2 f.l).length<=x.L.length)||(!f.l.contains 42&& !decide (x.L.length<=(zf2 f.l).length)))=true:=by
           cases hc:decide ((zf2 f.l).length<=x.L.length)with
           |false=>rfl
           |true=>
            rw[hc]at hm;cases hc2:f.l.contains 42 with
            |true=>rw[hc2]at hm;simp at hm
            |false=>rw[hc2]at hm;simpa using hm
          simp only[this,yB,Bool.false_and]
theorem zRk: ∀(n:Nat) (x:Node),2*zY x<=n->zJ x<=2097152->(zdP n).zbl x=some (zan x,())
 |0,x,h,_=>by have:=zaW x;omega
 |1,x,h,_=>by have:=zaW x;omega
 |n+2,x,h,hb=>by
   have a1:=zaW x;have a2:=zaF x;show zno (zdP (n+1)) x=_;refine zQF _ x hb λk hk c=>?_
   show zjO (zdP n) k c=_;rw[zSy,zAC];have hk2:=zbc hk;have hk3:=zaY hk;rw[zRk n k (by omega) (by omega)];cases isP k c<;>simp
theorem zJD(x:Node)(hb:zJ x<=2097152):zbl x=some (zan x,()):=
 zRk _ x (by have:=zpB x;have:=zi1 x;show 2*zY x<=1000000000000;omega) hb
def zkD(x:Node):Int:=if(x.Kind==41&&zan x)=true then(if zY x>64 then 31 else 0)else 70
theorem zxV(x:Node)(hb:zJ x<=2097152):zm0 x=some (zkD x,()):=by
 unfold zm0 zkD;have h1:=zi1 x;simp only[zq,zJD x hb,zyZ x (by omega),qz1];cases hk:x.Kind==41 with
 |false=>
   have:(x.Kind !=41)=true:=by unfold bne;rw[hk];rfl
   simp[this]
 |true=>
   have:(x.Kind !=41)=false:=by unfold bne;rw[hk];rfl
   simp only[this,qz2,yA,Bool.true_and];cases zan x with
   |false=>rfl
   |true=>
     simp only[yO,qz2,yA,yB];by_cases hd:zY x>64
     ·have:((zY x:Nat):Int)>64:=by omega
      simp[this,hd]
     ·have: ¬((zY x:Nat):Int)>64:=by omega
      simp[this,hd]
end Go.D08
namespace Go.D08
open Go Go.Gw Go.Dn
noncomputable section
inductive Tk where
 |mk (x:Node) (lvl:Int) (ex:Bool->List Str) (st:List Str) (kids:List Tk)
def Tk.x:Tk->Node| .mk x _ _ _ _=>x
def Tk.lvl:Tk->Int| .mk _ l _ _ _=>l
def Tk.ex:Tk->Bool->List Str| .mk _ _ e _ _=>e
def Tk.st:Tk->List Str| .mk _ _ _ s _=>s
def Tk.kids:Tk->List Tk| .mk _ _ _ _ k=>k
def zdr(s:Str):Str:=match zeJ s with
 |some (q,_,_)=>q
 |none=>[]
def op5:Str:=[32,61,61,32,33,61,32,61,61,61,32,33,61,61,32]
def op7:Str:=[32,43,32,45,32]
def op8:Str:=[32,42,32,47,32,37,32]
def zjq(x:Node)(ks:List Tk):Int:=
 if(x.Kind==21)=true then 0
 else if(x.Kind==20)=true then 1
 else if(x.Kind==19)=true then 2
 else if(x.Kind==18)=true then 4 -Lib.index [38,124] (x.Name.take 1)
 else if(x.Kind==17)=true then(if zcd op5 x.Name=true then 5 else if zcd op7 x.Name=true then 7 else if zcd op8 x.Name=true then 8 else 6)
 else if(x.Kind==15)=true then 9
 else if(x.Kind==16)=true then 10 -x.Num
 else if(x.Kind==13)=true then 11
 else if(x.Kind==11||x.Kind==12)=true then(match ks with|k::_=>min (max k.lvl 11) 12| []=>0)
 else if(x.Kind==14)=true then 12
 else 13
def atT(t:Tk)(least:Int)(no:Bool):List Str:=
 if(decide (t.lvl<least)||((no&&(t.x.Kind==17))&&(t.x.Name==([105,110]:Str))))=true then[40]::(t.ex false++[[41]])else t.ex no
def k0(ks:List Tk)(f:Tk->List Str):List Str:=match ks with|k::_=>f k| []=>[]
def k1(ks:List Tk)(f:Tk->List Str):List Str:=match ks with|_::k::_=>f k|_=>[]
def k2(ks:List Tk)(f:Tk->List Str):List Str:=match ks with|_::_::k::_=>f k|_=>[]
def k3(ks:List Tk)(f:Tk->List Str):List Str:=match ks with|_::_::_::k::_=>f k|_=>[]
def commas(f:Tk->List Str):List Tk->List Str
 | []=>[]
 |k::r=>f k++r.flatMap λq=>[44]::f q
def zaj(no:Bool)(t:Tk):List Str:=if(t.x.Kind==9)=true then zdr t.x.Text::[58]::k0 t.kids λk=>atT k 1 no else atT t 1 no
def declT(no:Bool)(t:Tk):List Str:=t.x.Name::k0 t.kids λk=>[61]::atT k 1 no
def zaJ(t:Tk)(least:Int)(no:Bool):List Str:=
 if(t.x.Kind==42)=true then[]
 else if(t.x.Kind==22)=true then[118,97,114]::commas (declT no) t.kids
 else atT t least no
def namesT:List Str->List Str
 | []=>[]
 |s::r=>s::r.flatMap λq=>[[44],q]
def zad(ks:List Tk):List Str:=ks.flatMap Tk.st
def zgb(x:Node)(ks:List Tk):List Str:=
 [102,117,110,99,116,105,111,110]::((if(x.Name==([]:Str))=true then[]else[x.Name])++([40]::(namesT x.Names++([41]::[123]::(zad ks++[[125]])))))
def zc6(w:Str)(t:Tk):List Str:=w::[40]::(atT t 0 false++[[41]])
def exT(x:Node)(lvl:Int)(ks:List Tk)(no:Bool):List Str:=
 if(x.Kind==1)=true then[Lib.itoa x.Num]
 else if(x.Kind==2)=true then[zdr x.Text]
 else if(x.Kind==3)=true then[x.Name]
 else if(x.Kind==4)=true then[[116,104,105,115]]
 else if(x.Kind==5)=true then[[110,117,108,108]]
 else if(x.Kind==6)=true then[Lib.formatBool (x.Num==1)]
 else if(x.Kind==7)=true then[91]::(commas (zaj false) ks++[[93]])
 else if(x.Kind==8)=true then[123]::(commas (zaj false) ks++[[125]])
 else if(x.Kind==10)=true then zgb x ks
 else if(x.Kind==11)=true then k0 ks (λk=>atT k 11 no)++[[46],x.Name]
 else if(x.Kind==12)=true then k0 ks (λk=>atT k 11 no)++([91]::(k1 ks (λk=>atT k 0 false)++[[93]]))
 else if(x.Kind==13)=true then k0 ks (λk=>atT k 11 no)++([40]::(commas (zaj false) ks.tail++[[41]]))
 else if(x.Kind==14)=true then[110,101,119]::(k0 ks (λk=>atT k 12 no)++([40]::(commas (zaj false) ks.tail++[[41]])))
 else if(x.Kind==15)=true then x.Name::k0 ks λk=>atT k 9 no
 else if(x.Kind==16)=true then(if(x.Num==1)=true then x.Name::k0 ks λk=>atT k 11 no else k0 ks (λk=>atT k 11 no)++[x.Name])
 else if(x.Kind==19)=true then k0 ks (λk=>atT k 3 no)++([63]::(k1 ks (λk=>atT k 1 false)++([58]::k2 ks λk=>atT k 1 no)))
 else if(x.Kind==20)=true then k0 ks (λk=>atT k 11 no)++(x.Name::k1 ks λk=>atT k 1 no)
 else if(x.Kind==21)=true then k0 ks (λk=>atT k 0 no)++([44]::k1 ks λk=>atT k 1 no)
 else k0 ks (λk=>atT k lvl no)++(x.Name::k1 ks λk=>atT k (lvl+1) no)
def zjb(l:List Str):List Str:=match l with
 | []=>[]
 |w::r=>if(w==([123]:Str)||w==([102,117,110,99,116,105,111,110]:Str))=true then[40]::((w::r)++[[41]])else w::r
def zhz(x:Node):List Str:=
 (if(x.Kind==31)=true then[[98,114,101,97,107]]else if(x.Kind==32)=true then[[99,111,110,116,105,110,117,101]]else if(x.Kind==33)=true then[[114,101,116,117,114,110]]else if(x.Kind==34)=true then[[116,104,114,111,119]]else[])
  ++(if(x.Name==([]:Str))=true then[]else[x.Name])
def stT(x:Node)(ks:List Tk):List Str:=
 if(x.Kind==22)=true then([118,97,114]::commas (declT false) ks)++[[59]]
 else if(x.Kind==24)=true then zjb (k0 ks λk=>atT k 0 false)++[[59]]
 else if(x.Kind==25)=true then[123]::(zad ks++[[125]])
 else if(x.Kind==26)=true then k0 ks (zc6 [105,102])++(k1 ks Tk.st++k2 ks λk=>[101,108,115,101]::k.st)
 else if(x.Kind==27)=true then k0 ks (zc6 [119,104,105,108,101])++k1 ks Tk.st
 else if(x.Kind==28)=true then[100,111]::(k0 ks Tk.st++(k1 ks (zc6 [119,104,105,108,101])++[[59]]))
 else if(x.Kind==29)=true then[102,111,114]::[40]::(k0 ks (λk=>zaJ k 0 true)++([59]::(k1 ks (λk=>zaJ k 0 false)++([59]::(k2 ks (λk=>zaJ k 0 false)++([41]::k3 ks Tk.st))))))
 else if(x.Kind==30)=true then[102,111,114]::[40]::(k0 ks (λk=>zaJ k 11 true)++([105,110]::(k1 ks (λk=>atT k 0 false)++([41]::k2 ks Tk.st))))
 else if(x.Kind==35)=true then[116,114,121]::(k0 ks Tk.st++(k1 ks (λk=>if(k.x.Kind==25)=true then[99,97,116,99,104]::[40]::x.Name::[41]::k.st else[])++k2 ks λk=>if(k.x.Kind==25)=true then[102,105,110,97,108,108,121]::k.st else[]))
 else if(x.Kind==36)=true then k0 ks (zc6 [115,119,105,116,99,104])++([123]::(zad ks.tail++[[125]]))
 else if(x.Kind==37)=true then k0 ks (λk=>(if(k.x.Kind !=42)=true then[99,97,115,101]else[100,101,102,97,117,108,116])::zaJ k 0 false)++([58]::zad ks.tail)
 else if(x.Kind==38)=true then x.Name::[58]::k0 ks Tk.st
 else if(x.Kind==39)=true then zgb x ks
 else zhz x++(ks.flatMap (λk=>atT k 0 false)++[[59]])
mutual
def tkN:Node->Tk
 | ⟨k,n,m,t,ns,l⟩=>
  let x:Node:=⟨k,n,m,t,ns,l⟩
  let ks:=tkL l
  .mk x (zjq x ks) (exT x (zjq x ks) ks) (stT x ks) ks
def tkL:List Node->List Tk
 | []=>[]
 |x::r=>tkN x::tkL r
end
theorem za4(x:Node):tkN x= .mk x (zjq x (tkL x.L)) (exT x (zjq x (tkL x.L)) (tkL x.L)) (stT x (tkL x.L)) (tkL x.L):=by cases x;simp[tkN]
theorem zAS: ∀l:List Node,tkL l=l.map tkN
 | []=>by simp[tkL]
 |x::r=>by simp[tkL,zAS r]
end
end Go.D08
namespace Go.D08
open Go Go.Gw Go.Dn
set_option maxRecDepth 100000
structure Tok where
 kind:Nat
 text:Str
 num:Int
 fresh:Bool
abbrev zB:=List Tok
def opK(t:Tok):Bool:=t.kind==5||t.kind==2
def tIs(s:Str):zB->Bool
 |t::_=>opK t&&(t.text==s)
 | []=>false
def zbs(l:List Str):zB->Bool
 |t::_=>opK t&&l.contains t.text
 | []=>false
def tText:zB->Str
 |t::_=>t.text
 | []=>[]
def zaa:zB->Nat
 |t::_=>t.kind
 | []=>0
def ze0:zB->Bool
 |t::_=>t.fresh
 | []=>false
def zsF:List Str:=[[45],[43],[33],[116,121,112,101,111,102],[100,101,108,101,116,101],[118,111,105,100]]
def zgC:List Str:=[[43,43],[45,45]]
def zrW:List Str:=[[61],[43,61],[45,61],[42,61],[47,61],[37,61]]
def eqL:List Str:=[[61,61],[33,61],[61,61,61],[33,61,61]]
def ltL:List Str:=[[60],[62],[60,61],[62,61],[105,110,115,116,97,110,99,101,111,102]]
def zCg:List Str:=[[43],[45]]
def mulL:List Str:=[[42],[47],[37]]
def lvS(no:Bool)(s:Str):Int×Int:=
 if(s==([124,124]:Str))=true then(3,18)
 else if(s==([38,38]:Str))=true then(4,18)
 else if eqL.contains s=true then(5,17)
 else if(ltL.contains s||(!no&&s==([105,110]:Str)))=true then(6,17)
 else if zCg.contains s=true then(7,17)
 else if mulL.contains s=true then(8,17)
 else(0,0)
def zcQ(no:Bool):zB->Int×Int
 |t::_=>if opK t=true then lvS no t.text else(0,0)
 | []=>(0,0)
abbrev PR(α:Type):=Option (Nat⊕(α×zB))
abbrev gt{α:Type}(q:α×zB):PR α:=some (.inr q)
abbrev bad{α:Type}(t:zB):PR α:=some (.inl t.length)
def PR.bd{α β:Type}(x:PR α)(f:α×zB->PR β):PR β:=match x with|none=>none|some (.inl k)=>some (.inl k)|some (.inr p)=>f p
def PR.bn{β:Type}(x:PR Unit)(f:zB->PR β):PR β:=x.bd λq=>f q.2
theorem zeg{α β:Type}(q:α×zB)(f:α×zB->PR β):PR.bd (some (.inr q)) f=f q:=rfl
theorem zfY{β:Type}(q:Unit×zB)(f:zB->PR β):PR.bn (some (.inr q)) f=f q.2:=rfl
def zaC(s:Str)(t:zB):PR Unit:=if tIs s t=true then gt ((),t.tail)else bad t
structure PG where
 expr:Bool->zB->PR Node
 comma:Bool->Node->zB->PR Node
 assign:Bool->zB->PR Node
 binary:Bool->Int->zB->PR Node
 bins:Bool->Int->Node->zB->PR Node
 unary:zB->PR Node
 mems:Bool->Node->zB->PR Node
 made:zB->PR Node
 prim:zB->PR Node
 exprs:Str->Bool->zB->PR (List Node)
 props:zB->PR (List Node)
 func:Int->zB->PR Node
 vars:Bool->zB->PR (List Node)
 block:zB->PR Node
 head:zB->PR Node
 till:Str->zB->PR Node
 loop:zB->PR Node
 cases:Bool->zB->PR (List Node)
 body:zB->PR (List Node)
 stmt:zB->PR Node
 stmts:Bool->zB->PR (List Node)
def nd(k:Int)(l:List Node):Node:=⟨k,[],0,[],[],l⟩
def ndN(k:Int)(s:Str)(l:List Node):Node:=⟨k,s,0,[],[],l⟩
section
variable (g:PG)
def zxy(no:Bool)(t:zB):PR Node:=(g.assign no t).bd λq=>g.comma no q.1 q.2
def zkN(no:Bool)(x:Node)(t:zB):PR Node:=
 if tIs [44] t=true then(g.assign no t.tail).bd λq=>g.comma no (nd 21 [x,q.1]) q.2 else gt (x,t)
def zok(no:Bool)(t:zB):PR Node:=(g.binary no 3 t).bd λq=>
 if tIs [63] q.2=true then(g.assign false q.2.tail).bd λy=>(zaC [58] y.2).bn λt=>(g.assign no t).bd λz=>gt (nd 19 [q.1,y.1,z.1],z.2)
 else if zbs zrW q.2=true then(if zcF q.1.Kind=true then(g.assign no q.2.tail).bd λy=>gt (ndN 20 (tText q.2) [q.1,y.1],y.2)else bad q.2)
 else gt q
def zol(no:Bool)(least:Int)(t:zB):PR Node:=(g.unary t).bd λq=>g.bins no least q.1 q.2
def zmY(no:Bool)(least:Int)(x:Node)(t:zB):PR Node:=
 if(decide ((zcQ no t).1<least)||(zcQ no t).1==0)=true then gt (x,t)
 else(g.binary no ((zcQ no t).1+1) t.tail).bd λy=>g.bins no least (ndN (zcQ no t).2 (tText t) [x,y.1]) y.2
def zha(t:zB):PR Node:=
 if zbs zsF t=true then(g.unary t.tail).bd λy=>gt (ndN 15 (tText t) [y.1],y.2)
 else if zbs zgC t=true then(g.unary t.tail).bd λy=>if zcF y.1.Kind=true then gt (⟨16,tText t,1,[],[],[y.1]⟩,y.2)else bad y.2
 else(g.made t).bd λq=>(g.mems true q.1 q.2).bd λq=>
  if(!zbs zgC q.2||ze0 q.2)=true then gt q else if zcF q.1.Kind=true then gt (ndN 16 (tText q.2) [q.1],q.2.tail)else bad q.2
def ziA(calls:Bool)(x:Node)(t:zB):PR Node:=
 if tIs [46] t=true then(if(zaa t.tail==1||zaa t.tail==2)=true then g.mems calls (ndN 11 (tText t.tail) [x]) t.tail.tail else bad t.tail)
 else if tIs [91] t=true then(g.expr false t.tail).bd λk=>(zaC [93] k.2).bn λt=>g.mems calls (nd 12 [x,k.1]) t
 else if(calls&&tIs [40] t)=true then(g.exprs [41] false t.tail).bd λl=>g.mems calls (nd 13 (x::l.1)) l.2
 else gt (x,t)
def znq(t:zB):PR Node:=
 if tIs [110,101,119] t=true then(g.made t.tail).bd λq=>(g.mems false q.1 q.2).bd λq=>
  if tIs [40] q.2=true then(g.exprs [41] false q.2.tail).bd λl=>gt (nd 14 (q.1::l.1),l.2)else gt (nd 14 [q.1],q.2)
 else g.prim t
def zdQ(t:zB):PR Node:=
 if(zaa t==1)=true then gt (ndN 3 (tText t) [],t.tail)
 else if(zaa t==3)=true then(match t with|a::r=>gt (⟨1,[],a.num,[],[],[]⟩,r)| []=>none)
 else if(zaa t==4)=true then gt (⟨2,[],0,tText t,[],[]⟩,t.tail)
 else if tIs [116,104,105,115] t=true then gt (nd 4 [],t.tail)
 else if tIs [110,117,108,108] t=true then gt (nd 5 [],t.tail)
 else if tIs [102,97,108,115,101] t=true then gt (nd 6 [],t.tail)
 else if tIs [116,114,117,101] t=true then gt (⟨6,[],1,[],[],[]⟩,t.tail)
 else if tIs [102,117,110,99,116,105,111,110] t=true then g.func 10 t.tail
 else if tIs [40] t=true then(g.expr false t.tail).bd λk=>(zaC [41] k.2).bn λt=>gt (k.1,t)
 else if tIs [91] t=true then(g.exprs [93] true t.tail).bd λl=>gt (nd 7 l.1,l.2)
 else if tIs [123] t=true then(g.props t.tail).bd λl=>gt (nd 8 l.1,l.2)
 else bad t
def zgv(shut:Str)(last:Bool)(t:zB):PR (List Node):=
 if tIs shut t=true then gt ([],t.tail)
 else(g.assign false t).bd λx=>
  if tIs shut x.2=true then gt ([x.1],x.2.tail)
  else(zaC [44] x.2).bn λt=>if(!last&&tIs shut t)=true then bad t else(g.exprs shut last t).bd λl=>gt (x.1::l.1,l.2)
def wide(s:Str):Str:=s.flatMap λb=>[0,b]
def zBU:zB->PR Str
 |a::r=>if(a.kind==4)=true then gt (a.text,r)else if(a.kind==3)=true then gt (wide (Lib.itoa a.num),r)else if(a.kind==1||a.kind==2)=true then gt (wide a.text,r)else bad (a::r)
 | []=>none
def zg7(t:zB):PR (List Node):=
 if tIs [125] t=true then gt ([],t.tail)
 else(zBU t).bd λk=>(zaC [58] k.2).bn λt1=>(g.assign false t1).bd λx=>
  if tIs [125] x.2=true then gt ([⟨9,[],0,k.1,[],[x.1]⟩],x.2.tail)
  else(zaC [44] x.2).bn λt2=>(g.props t2).bd λl=>gt (⟨9,[],0,k.1,[],[x.1]⟩::l.1,l.2)
def zhY:zB->PR (List Str)
 |a::b::r=>if(a.kind==1)=true then(if tIs [41] (b::r)=true then gt ([a.text],r)else if tIs [44] (b::r)=true then(if tIs [41] r=true then bad r else(zhY r).bd λl=>gt (a.text::l.1,l.2))else bad (b::r))else bad (a::b::r)
 | [a]=>bad [a]
 | []=>none
def zet(t:zB):PR (List Str):=if tIs [41] t=true then gt ([],t.tail)else zhY t
def zoT(kind:Int)(t:zB):PR Node:=
 (if(zaa t==1)=true then gt (tText t,t.tail)else if(kind==39)=true then bad t else gt ([],t)).bd λm=>(zaC [40] m.2).bn λt=>(zet t).bd λns=>(zaC [123] ns.2).bn λt=>(g.stmts true t).bd λl=>(zaC [125] l.2).bn λt=>gt (⟨kind,m.1,0,[],ns.1,l.1⟩,t)
def zl5(no:Bool)(t:zB):PR (List Node):=
 if(zaa t==1)=true then
  (if tIs [61] t.tail=true then(g.assign no t.tail.tail).bd λy=>gt ([y.1],y.2)else gt ([],t.tail)).bd λd=>
   if tIs [44] d.2=true then(g.vars no d.2.tail).bd λl=>gt (ndN 23 (tText t) d.1::l.1,l.2)else gt ([ndN 23 (tText t) d.1],d.2)
 else bad t
def zk3(t:zB):PR Node:=(zaC [123] t).bn λt=>(g.stmts false t).bd λl=>(zaC [125] l.2).bn λt=>gt (nd 25 l.1,t)
def zqw(t:zB):PR Node:=(zaC [40] t).bn λt=>(g.expr false t).bd λx=>(zaC [41] x.2).bn λt=>gt (x.1,t)
def zkS(s:Str)(t:zB):PR Node:=if tIs s t=true then gt (nd 42 [],t.tail)else(g.expr false t).bd λx=>(zaC s x.2).bn λt=>gt (x.1,t)
def zlc(t:zB):Bool:=tIs [125] t||zaa t==0||ze0 t
def zg5(t:zB):PR Unit:=if tIs [59] t=true then gt ((),t.tail)else if zlc t=true then gt ((),t)else bad t
def za5(x:Node):Node:=if(x.Kind==25)=true then x else nd 25 [x]
def zkw(x:Node):Bool:=if(x.Kind==22)=true then(match x.L with| [d]=>d.L.isEmpty|_=>false)else zcF x.Kind
def zlW(t:zB):PR Node:=
 if tIs [118,97,114] t=true then(g.vars true t.tail).bd λl=>gt (nd 22 l.1,l.2)
 else if tIs [59] t=true then gt (nd 42 [],t)else g.expr true t
def zne(t:zB):PR Node:=(zaC [40] t).bn λt=>(zlW g t).bd λq=>
 if(zkw q.1&&tIs [105,110] q.2)=true then(g.expr false q.2.tail).bd λx=>(zaC [41] x.2).bn λt=>(g.stmt t).bd λb=>gt (nd 30 [q.1,x.1,za5 b.1],b.2)
 else(zaC [59] q.2).bn λt=>(g.till [59] t).bd λx=>(g.till [41] x.2).bd λy=>(g.stmt y.2).bd λb=>gt (nd 29 [q.1,x.1,y.1,za5 b.1],b.2)
def zmZ(t:zB):PR (Str×Node):=
 if tIs [99,97,116,99,104] t=true then(zaC [40] t.tail).bn λt=>if(zaa t==1)=true then(zaC [41] t.tail).bn λt1=>(g.block t1).bd λb=>gt ((tText t,b.1),b.2)else bad t
 else gt (([],nd 42 []),t)
def zkz(t:zB):PR Node:=if tIs [102,105,110,97,108,108,121] t=true then g.block t.tail else gt (nd 42 [],t)
def zB3(t:zB):PR Node:=(g.block t).bd λb=>(zmZ g b.2).bd λc=>(zkz g c.2).bd λf=>
 if(f.1.Kind==42&&c.1.2.Kind==42)=true then bad f.2 else gt (ndN 35 c.1.1 [b.1,c.1.2,f.1],f.2)
def ziE(others:Bool)(t:zB):PR (List Node):=
 if tIs [125] t=true then gt ([],t.tail)
 else if(others&&tIs [100,101,102,97,117,108,116] t)=true then(zaC [58] t.tail).bn λt=>(g.body t).bd λl=>(g.cases false l.2).bd λr=>gt (nd 37 (nd 42 []::l.1)::r.1,r.2)
 else(zaC [99,97,115,101] t).bn λt=>(g.expr false t).bd λx=>(zaC [58] x.2).bn λt=>(g.body t).bd λl=>(g.cases others l.2).bd λr=>gt (nd 37 (x.1::l.1)::r.1,r.2)
def zna(t:zB):PR (List Node):=
 if(zbs [[99,97,115,101],[100,101,102,97,117,108,116],[125]] t||zaa t==0)=true then gt ([],t)else(g.stmt t).bd λx=>(g.body x.2).bd λl=>gt (x.1::l.1,l.2)
def zjg(k:Int)(t:zB):PR Node:=
 if(zaa t==1&& !ze0 t)=true then(zg5 t.tail).bn λt1=>gt (ndN k (tText t) [],t1)else(zg5 t).bn λt=>gt (nd k [],t)
def zbU(t:zB):PR Node:=
 if tIs [123] t=true then g.block t
 else if tIs [59] t=true then gt (nd 40 [],t.tail)
 else if tIs [118,97,114] t=true then(g.vars false t.tail).bd λl=>(zg5 l.2).bn λt=>gt (nd 22 l.1,t)
 else if tIs [105,102] t=true then(g.head t.tail).bd λx=>(g.stmt x.2).bd λb=>if tIs [101,108,115,101] b.2=true then(g.stmt b.2.tail).bd λc=>gt (nd 26 [x.1,za5 b.1,za5 c.1],c.2)else gt (nd 26 [x.1,za5 b.1],b.2)
 else if tIs [119,104,105,108,101] t=true then(g.head t.tail).bd λx=>(g.stmt x.2).bd λb=>gt (nd 27 [x.1,za5 b.1],b.2)
 else if tIs [100,111] t=true then(g.stmt t.tail).bd λb=>(zaC [119,104,105,108,101] b.2).bn λt=>(g.head t).bd λx=>(zg5 x.2).bn λt=>gt (nd 28 [za5 b.1,x.1],t)
 else if tIs [102,111,114] t=true then g.loop t.tail
 else if tIs [98,114,101,97,107] t=true then zjg 31 t.tail
 else if tIs [99,111,110,116,105,110,117,101] t=true then zjg 32 t.tail
 else if tIs [114,101,116,117,114,110] t=true then(if(!tIs [59] t.tail&& !zlc t.tail)=true then(g.expr false t.tail).bd λx=>(zg5 x.2).bn λt=>gt (nd 33 [x.1],t)else(zg5 t.tail).bn λt=>gt (nd 33 [],t))
 else if tIs [116,104,114,111,119] t=true then(if ze0 t.tail=true then bad t.tail else(g.expr false t.tail).bd λx=>(zg5 x.2).bn λt=>gt (nd 34 [x.1],t))
 else if tIs [116,114,121] t=true then zB3 g t.tail
 else if tIs [115,119,105,116,99,104] t=true then(g.head t.tail).bd λx=>(zaC [123] x.2).bn λt=>(g.cases true t).bd λl=>gt (nd 36 (x.1::l.1),l.2)
 else if tIs [102,117,110,99,116,105,111,110] t=true then bad t
 else if(zaa t==1&&tIs [58] t.tail)=true then(g.stmt t.tail.tail).bd λx=>gt (ndN 38 (tText t) [x.1],x.2)
 else(g.expr false t).bd λx=>(zg5 x.2).bn λt=>gt (nd 24 [x.1],t)
def zh4(funcs:Bool)(t:zB):PR (List Node):=
 if(tIs [125] t||zaa t==0)=true then gt ([],t)
 else(if(funcs&&tIs [102,117,110,99,116,105,111,110] t)=true then g.func 39 t.tail else g.stmt t).bd λx=>(g.stmts funcs x.2).bd λl=>gt (x.1::l.1,l.2)
end
def pG:Nat->PG
 |0=>⟨λ_ _=>none,λ_ _ _=>none,λ_ _=>none,λ_ _ _=>none,λ_ _ _ _=>none,λ_=>none,λ_ _ _=>none,λ_=>none,λ_=>none,λ_ _ _=>none,λ_=>none,λ_ _=>none,λ_ _=>none,λ_=>none,λ_=>none,λ_ _=>none,λ_=>none,λ_ _=>none,λ_=>none,λ_=>none,λ_ _=>none⟩
 |n+1=>⟨zxy (pG n),zkN (pG n),zok (pG n),zol (pG n),zmY (pG n),zha (pG n),ziA (pG n),znq (pG n),zdQ (pG n),zgv (pG n),zg7 (pG n),zoT (pG n),zl5 (pG n),zk3 (pG n),zqw (pG n),zkS (pG n),zne (pG n),ziE (pG n),zna (pG n),zbU (pG n),zh4 (pG n)⟩
end Go.D08
namespace Go.D08
open Go Go.Gw Go.Dn Go.Proofs
set_option maxRecDepth 100000
def tk(t:zy):Tok:=⟨t.Kind.toNat,t.Text,t.Num,t.Fresh⟩
structure TOk (L:List zy):Prop where
 kinds: ∀t∈L,0<=t.Kind/\t.Kind<=5
 texts: ∀t∈L,t.Text.length<=1000000
 plain: ∀t∈L,opK (tk t)=true->(32:UInt8)∉t.Text
 ascii: ∀t∈L,t.Kind=1\/t.Kind=2->∀b∈t.Text,b<128
 colon: ∀t∈L,t.Kind=2->t.Text≠[58]
 nums: ∀t∈L,t.Kind=3->0<=t.Num/\t.Num<=9007199254740991
 last: ∃a e,L=a++[e]/\e.Kind=0/\∀t∈a,t.Kind≠0
theorem TOk.cons{L:List zy}(h:TOk L): ∃a r,L=a::r:=by
 obtain⟨a,e,h1,_⟩:=h.last;cases L with
 |nil=>simp at h1
 |cons x r=>exact⟨x,r,rfl⟩
theorem TOk.tail{x:zy}{r:List zy}(h:TOk (x::r))(hx:x.Kind≠0):TOk r:=by
 refine⟨λt ht=>h.kinds t (qz8 _ ht),λt ht=>h.texts t (qz8 _ ht),λt ht=>h.plain t (qz8 _ ht),λt ht=>h.ascii t (qz8 _ ht),λt ht=>h.colon t (qz8 _ ht),λt ht=>h.nums t (qz8 _ ht),?_⟩;obtain⟨a,e,h1,h2,h3⟩:=h.last;cases a with
 |nil=>simp at h1;rw[h1.1]at hx;exact absurd h2 hx
 |cons y a=>simp at h1;exact⟨a,e,h1.2,h2,λt ht=>h3 t (qz8 _ ht)⟩
theorem zV(x:zh):zk x=x:=by cases x;rfl
theorem zN4(x:zy):zBS x=x:=by cases x;rfl
theorem zov{x:zy}(hk:0<=x.Kind)(n:Nat):(x.Kind==(n:Int))=((tk x).kind==n):=by
 unfold tk;rw[Bool.eq_iff_iff,beq_iff_eq,beq_iff_eq];simp only;omega
abbrev pp(L:List zy)(no:Bool):zh:=⟨L,no⟩
theorem zdK{α:Type}(x:α)(r:List α):zT (x::r) 0=some x:=rfl
theorem ztl{L:List zy}{no:Bool}(h:TOk L)(s:Str):zbb s (pp L no)=some (tIs s (L.map tk),pp L no,()):=by
 obtain⟨x,r,rfl⟩:=h.cons;have hk:=(h.kinds x qz7).1;have k5:=zov hk 5;have k2:=zov hk 2;rw[show((5:Nat):Int)=5 from rfl]at k5;rw[show((2:Nat):Int)=2 from rfl]at k2;unfold zbb;simp only[zdK,qz1,zV,k5,k2,List.map_cons,tIs,opK];cases(tk x).kind==5<;>cases(tk x).kind==2<;>simp[tk]
theorem zEM{x:zy}{r:List zy}{no:Bool}(hx:x.Kind≠0):zaw (pp (x::r) no)=some (x,pp r no,()):=by
 unfold zaw;have e:(x.Kind !=0)=true:=by rw[bne_iff_ne];exact hx
 have hc:zaQ (x::r) 1 (((x::r).length:Nat):Int)=some r:=by
  have:=zdb (x::r) 1 (by simp);simpa using this
 simp only[zdK,qz1,e,yB,hc,zN4]
theorem zPD{s:Str}{x:zy}{r:List zy}(h:tIs s ((x::r).map tk)=true):x.Kind≠0:=by
 intro e;simp[tIs,opK,tk,e]at h
theorem has_eq{L:List zy}{no:Bool}(h:TOk L)(s:Str):zH s (pp L no)=some (tIs s (L.map tk),pp (if tIs s (L.map tk)=true then L.tail else L) no,()):=by
 unfold zH;rw[zV,ztl h s];simp only[qz1,zV];cases hq:tIs s (L.map tk)with
 |false=>simp
 |true=>
  obtain⟨x,r,rfl⟩:=h.cons;simp only[yB];rw[zEM (zPD hq)];rfl
theorem zmo{L:List zy}{no:Bool}(h:TOk L)(ws:List Str)(list:Str)(hl:list=joined ws)(hw: ∀w∈ws,(32:UInt8)∉w)(hll:list.length<=1000000):zbq list (pp L no)=some (zbs ws (L.map tk),pp L no,()):=by
 obtain⟨x,r,rfl⟩:=h.cons;have hk:=(h.kinds x qz7).1;have ht:=h.texts x qz7;have hp:=h.plain x qz7;have k5:=zov hk 5;have k2:=zov hk 2;rw[show((5:Nat):Int)=5 from rfl]at k5;rw[show((2:Nat):Int)=2 from rfl]at k2
 have hb':(if(x.Kind==5)=true then some true else some (x.Kind==2))=some (opK (tk x)):=by
  rw[k5,k2];unfold opK;cases(tk x).kind==5<;>simp
 unfold zbq;simp only[zdK,qz1,zV];rw[hb'];simp only[qz1,List.map_cons,zbs];cases hq:opK (tk x)with
 |false=>simp
 |true=>
  simp only[yB,Bool.true_and];rw[zq5 (by simp only[qz3,qz6];omega)]
  simp only[qz1];rw[zq5 (by simp only[qz5,qz3,qz6];omega)]
  simp only[qz1];rw[U.zyY list _ (by omega)];simp only[qz1];have:=zki x.Text (hp hq) ws hw;rw[hl,show([32]++x.Text++[32]:Str)=32::(x.Text++[32])from rfl,this];rfl
theorem zI8{L:List zy}{no:Bool}(h:TOk L):zew (pp L no)=some (zlc (L.map tk),pp L no,()):=by
 have hi:=ztl (no:=no) h [125];unfold zew zlc;rw[zV,hi];obtain⟨x,r,rfl⟩:=h.cons;have hk:=(h.kinds x qz7).1;have k0:=zov hk 0;rw[show((0:Nat):Int)=0 from rfl]at k0;simp only[qz1,zdK,k0,zV,List.map_cons,zaa,ze0];cases tIs [125] (tk x::List.map tk r)<;>cases(tk x).kind==0<;>simp[tk]
theorem any_cons(ws:List Str)(x:zy)(t:zB):zbs ws (tk x::t)=(opK (tk x)&&ws.contains x.Text):=rfl
theorem zRQ(s:Str)(x:zy)(t:zB):tIs s (tk x::t)=(opK (tk x)&&(x.Text==s)):=rfl
theorem zMd{L:List zy}{no:Bool}(h:TOk L):zgI (pp L no)=some ((zcQ no (L.map tk)).1,(zcQ no (L.map tk)).2,pp L no,()):=by
 have i1:=ztl (no:=no) h [124,124];have i2:=ztl (no:=no) h [38,38];have i3:=zmo (no:=no) h eqL ([32,61,61,32,33,61,32,61,61,61,32,33,61,61,32]:Str) (by decide+kernel) (by decide+kernel) (by decide);have i4:=zmo (no:=no) h ltL ([32,60,32,62,32,60,61,32,62,61,32,105,110,115,116,97,110,99,101,111,102,32]:Str) (by decide+kernel) (by decide+kernel) (by decide);have i5:=ztl (no:=no) h [105,110];have i6:=zmo (no:=no) h zCg ([32,43,32,45,32]:Str) (by decide+kernel) (by decide+kernel) (by decide);have i7:=zmo (no:=no) h mulL ([32,42,32,47,32,37,32]:Str) (by decide+kernel) (by decide+kernel) (by decide)
 have j1:zdS (pp L no)=some (if zbs zCg (L.map tk)=true then 7 else if zbs mulL (L.map tk)=true then 8 else 0,if zbs zCg (L.map tk)=true then 17 else if zbs mulL (L.map tk)=true then 17 else 0,pp L no,()):=by
  unfold zdS;simp only[zV,i6,i7,qz1];cases zbs zCg (L.map tk)<;>cases zbs mulL (L.map tk)<;>rfl
 unfold zgI;simp only[zV,i1,i2,i3,i4,i5,qz1,j1];obtain⟨x,r,rfl⟩:=h.cons;simp only[any_cons,zRQ,List.map_cons,zcQ];cases hq:opK (tk x)with
 |false=>cases no<;>simp
 |true=>
  simp only[Bool.true_and,yB];unfold lvS;rw[show(tk x).text=x.Text from rfl];cases x.Text==([124,124]:Str)with
  |true=>rfl
  |false=>
   simp only[qz2,yA];cases x.Text==([38,38]:Str)with
   |true=>rfl
   |false=>
    simp only[qz2,yA];cases eqL.contains x.Text with
    |true=>rfl
    |false=>
     simp only[qz2,yA];cases ltL.contains x.Text with
     |true=>simp
     |false=>
      simp only[Bool.false_or,qz2,yA];cases no<;>cases x.Text==([105,110]:Str)<;>cases zCg.contains x.Text<;>cases mulL.contains x.Text<;>rfl
end Go.D08
namespace Go.D08
open Go Go.Gw Go.Dn
set_option maxRecDepth 100000
def Le{α:Type}(x y:PR α):Prop:=∀r,x=some r->y=some r
theorem Le.rfl{α:Type}{x:PR α}:Le x x:=λ_ h=>h
theorem Le.bd{α β:Type}{x y:PR α}{f g:α×zB->PR β}(h:Le x y)(k: ∀q,Le (f q) (g q)):Le (x.bd f) (y.bd g):=by
 intro r e;cases x with
 |none=>cases e
 |some p=>
  rw[h _ Eq.refl];cases p with
  |inl j=>exact e
  |inr q=>exact k q r e
 where Eq.refl {x:Nat⊕(α×zB)}:(some x:PR α)=some x:=_root_.rfl
theorem Le.bn{β:Type}{x:PR Unit}{f g:zB->PR β}(k: ∀t,Le (f t) (g t)):Le (x.bn f) (x.bn g):=Le.bd Le.rfl λq=>k q.2
theorem Le.ite{α:Type}{c:Prop}[Decidable c]{a b a' b':PR α}(h:Le a a')(k:Le b b'):Le (if c then a else b) (if c then a' else b'):=by
 by_cases hc:c
 ·rw[yL hc,yL hc];exact h
 ·rw[yK hc,yK hc];exact k
structure PLe (g h:PG):Prop where
 expr: ∀a t,Le (g.expr a t) (h.expr a t)
 comma: ∀a x t,Le (g.comma a x t) (h.comma a x t)
 assign: ∀a t,Le (g.assign a t) (h.assign a t)
 binary: ∀a b t,Le (g.binary a b t) (h.binary a b t)
 bins: ∀a b x t,Le (g.bins a b x t) (h.bins a b x t)
 unary: ∀t,Le (g.unary t) (h.unary t)
 mems: ∀a x t,Le (g.mems a x t) (h.mems a x t)
 made: ∀t,Le (g.made t) (h.made t)
 prim: ∀t,Le (g.prim t) (h.prim t)
 exprs: ∀a b t,Le (g.exprs a b t) (h.exprs a b t)
 props: ∀t,Le (g.props t) (h.props t)
 func: ∀a t,Le (g.func a t) (h.func a t)
 vars: ∀a t,Le (g.vars a t) (h.vars a t)
 block: ∀t,Le (g.block t) (h.block t)
 head: ∀t,Le (g.head t) (h.head t)
 till: ∀a t,Le (g.till a t) (h.till a t)
 loop: ∀t,Le (g.loop t) (h.loop t)
 cases: ∀a t,Le (g.cases a t) (h.cases a t)
 body: ∀t,Le (g.body t) (h.body t)
 stmt: ∀t,Le (g.stmt t) (h.stmt t)
 stmts: ∀a t,Le (g.stmts a t) (h.stmts a t)
section
variable {g h:PG} (L:PLe g h)
include L
theorem zSC(a t):Le (zxy g a t) (zxy h a t):= .bd (L.assign _ _) λ_=>L.comma _ _ _
theorem zQl(a x t):Le (zkN g a x t) (zkN h a x t):= .ite (.bd (L.assign _ _) λ_=>L.comma _ _ _) .rfl
theorem zOC(a t):Le (zok g a t) (zok h a t):=
 .bd (L.binary _ _ _) λ_=> .ite (.bd (L.assign _ _) λ_=> .bn λ_=> .bd (L.assign _ _) λ_=> .rfl) (.ite (.ite (.bd (L.assign _ _) λ_=> .rfl) .rfl) .rfl)
theorem zNp(a b t):Le (zol g a b t) (zol h a b t):= .bd (L.unary _) λ_=>L.bins _ _ _ _
theorem zTS(a b x t):Le (zmY g a b x t) (zmY h a b x t):= .ite .rfl (.bd (L.binary _ _ _) λ_=>L.bins _ _ _ _)
theorem zRf(t):Le (zha g t) (zha h t):=
 .ite (.bd (L.unary _) λ_=> .rfl) (.ite (.bd (L.unary _) λ_=> .rfl) (.bd (L.made _) λ_=> .bd (L.mems _ _ _) λ_=> .rfl))
theorem zSe(a x t):Le (ziA g a x t) (ziA h a x t):=
 .ite (.ite (L.mems _ _ _) .rfl) (.ite (.bd (L.expr _ _) λ_=> .bn λ_=>L.mems _ _ _) (.ite (.bd (L.exprs _ _ _) λ_=>L.mems _ _ _) .rfl))
theorem zRT(t):Le (znq g t) (znq h t):=
 .ite (.bd (L.made _) λ_=> .bd (L.mems _ _ _) λ_=> .ite (.bd (L.exprs _ _ _) λ_=> .rfl) .rfl) (L.prim _)
theorem zTf(t):Le (zdQ g t) (zdQ h t):=
 .ite .rfl (.ite .rfl (.ite .rfl (.ite .rfl (.ite .rfl (.ite .rfl (.ite .rfl (.ite (L.func _ _) (.ite (.bd (L.expr _ _) λ_=> .rfl) (.ite (.bd (L.exprs _ _ _) λ_=> .rfl) (.ite (.bd (L.props _) λ_=> .rfl) .rfl))))))))))
theorem zQG(a b t):Le (zgv g a b t) (zgv h a b t):=
 .ite .rfl (.bd (L.assign _ _) λ_=> .ite .rfl (.bn λ_=> .ite .rfl (.bd (L.exprs _ _ _) λ_=> .rfl)))
theorem zPt(t):Le (zg7 g t) (zg7 h t):=
 .ite .rfl (.bd .rfl λ_=> .bn λ_=> .bd (L.assign _ _) λ_=> .ite .rfl (.bn λ_=> .bd (L.props _) λ_=> .rfl))
theorem zUp(a t):Le (zoT g a t) (zoT h a t):=
 .bd .rfl λ_=> .bn λ_=> .bd .rfl λ_=> .bn λ_=> .bd (L.stmts _ _) λ_=> .rfl
theorem zUr(a t):Le (zl5 g a t) (zl5 h a t):=
 .ite (.bd (.ite (.bd (L.assign _ _) λ_=> .rfl) .rfl) λ_=> .ite (.bd (L.vars _ _) λ_=> .rfl) .rfl) .rfl
theorem zQm(t):Le (zk3 g t) (zk3 h t):= .bn λ_=> .bd (L.stmts _ _) λ_=> .rfl
theorem le_head(t):Le (zqw g t) (zqw h t):= .bn λ_=> .bd (L.expr _ _) λ_=> .rfl
theorem zTD(s t):Le (zkS g s t) (zkS h s t):= .ite .rfl (.bd (L.expr _ _) λ_=> .rfl)
theorem zPb(t):Le (zlW g t) (zlW h t):= .ite (.bd (L.vars _ _) λ_=> .rfl) (.ite .rfl (L.expr _ _))
theorem zT5(t):Le (zne g t) (zne h t):=
 .bn λ_=> .bd (zPb L _) λ_=> .ite (.bd (L.expr _ _) λ_=> .bn λ_=> .bd (L.stmt _) λ_=> .rfl)
  (.bn λ_=> .bd (L.till _ _) λ_=> .bd (L.till _ _) λ_=> .bd (L.stmt _) λ_=> .rfl)
theorem zPi(t):Le (zmZ g t) (zmZ h t):= .ite (.bn λ_=> .ite (.bn λ_=> .bd (L.block _) λ_=> .rfl) .rfl) .rfl
theorem zQC(t):Le (zkz g t) (zkz h t):= .ite (L.block _) .rfl
theorem zU0(t):Le (zB3 g t) (zB3 h t):= .bd (L.block _) λ_=> .bd (zPi L _) λ_=> .bd (zQC L _) λ_=> .rfl
theorem zQT(a t):Le (ziE g a t) (ziE h a t):=
 .ite .rfl (.ite (.bn λ_=> .bd (L.body _) λ_=> .bd (L.cases _ _) λ_=> .rfl) (.bn λ_=> .bd (L.expr _ _) λ_=> .bn λ_=> .bd (L.body _) λ_=> .bd (L.cases _ _) λ_=> .rfl))
theorem zS5(t):Le (zna g t) (zna h t):= .ite .rfl (.bd (L.stmt _) λ_=> .bd (L.body _) λ_=> .rfl)
theorem zTw(t):Le (zbU g t) (zbU h t):=
 .ite (L.block _) (.ite .rfl (.ite (.bd (L.vars _ _) λ_=> .rfl) (.ite (.bd (L.head _) λ_=> .bd (L.stmt _) λ_=> .ite (.bd (L.stmt _) λ_=> .rfl) .rfl)
  (.ite (.bd (L.head _) λ_=> .bd (L.stmt _) λ_=> .rfl) (.ite (.bd (L.stmt _) λ_=> .bn λ_=> .bd (L.head _) λ_=> .rfl) (.ite (L.loop _) (.ite .rfl (.ite .rfl
  (.ite (.ite (.bd (L.expr _ _) λ_=> .rfl) .rfl) (.ite (.ite .rfl (.bd (L.expr _ _) λ_=> .rfl)) (.ite (zU0 L _) (.ite (.bd (L.head _) λ_=> .bn λ_=> .bd (L.cases _ _) λ_=> .rfl)
  (.ite .rfl (.ite (.bd (L.stmt _) λ_=> .rfl) (.bd (L.expr _ _) λ_=> .rfl)))))))))))))))
theorem zQV(a t):Le (zh4 g a t) (zh4 h a t):= .ite .rfl (.bd (.ite (L.func _ _) (L.stmt _)) λ_=> .bd (L.stmts _ _) λ_=> .rfl)
end
theorem zRl: ∀n,PLe (pG n) (pG (n+1))
 |0=>by constructor<;>intros<;>intro r e<;>cases e
 |n+1=>by
  have L:=zRl n;exact⟨zSC L,zQl L,zOC L,zNp L,zTS L,zRf L,zSe L,zRT L,zTf L,zQG L,zPt L,zUp L,zUr L,zQm L,le_head L,zTD L,zT5 L,zQT L,zS5 L,zTw L,zQV L⟩
theorem zMc{n:Nat}(m:Nat){a:Bool}{t:zB}{r}(h:(pG n).stmts a t=some r):(pG (n+m)).stmts a t=some r:=by
 induction m with
 |zero=>exact h
 |succ m ih=>exact(zRl (n+m)).stmts a t r ih
def Wf(t:zB):Prop:=∃a e,t=a++[e]/\e.kind=0/\∀x∈a,x.kind≠0
theorem Wf.tail{t:zB}(h:Wf t)(hk:zaa t≠0):Wf t.tail/\t.tail.length+1=t.length:=by
 obtain⟨a,e,rfl,he,ha⟩:=h;cases a with
 |nil=>exact absurd he hk
 |cons x a=>exact⟨⟨a,e,rfl,he,λy hy=>ha y (qz8 _ hy)⟩,by simp⟩
theorem Wf.pos{t:zB}(h:Wf t):0<t.length:=by
 obtain⟨a,e,rfl,_,_⟩:=h;simp
theorem zas{s:Str}{t:zB}(h:tIs s t=true):zaa t≠0:=by
 cases t with
 |nil=>cases h
 |cons x r=>intro e;simp[tIs,opK,show x.kind=0 from e]at h
theorem zgq{l:List Str}{t:zB}(h:zbs l t=true):zaa t≠0:=by
 cases t with
 |nil=>cases h
 |cons x r=>intro e;simp[zbs,opK,show x.kind=0 from e]at h
theorem zzC{no:Bool}{t:zB}(h:(zcQ no t).1≠0):zaa t≠0:=by
 cases t with
 |nil=>exact absurd rfl h
 |cons x r=>intro e;simp[zcQ,opK,show x.kind=0 from e]at h
theorem zbK{t:zB}{k:Nat}(h:(zaa t==k)=true)(hk:k≠0):zaa t≠0:=by
 rw[beq_iff_eq]at h;omega
def Gd{α:Type}(m:Nat)(x:PR α):Prop:=match x with|none=>False|some (.inl _)=>True|some (.inr q)=>Wf q.2/\q.2.length<m
theorem Gd.bd{α β:Type}{m m':Nat}{x:PR α}{f:α×zB->PR β}(h:Gd m x)(k: ∀q:α×zB,Wf q.2->q.2.length<m->Gd m' (f q)):Gd m' (x.bd f):=by
 cases x with
 |none=>exact h
 |some p=>
  cases p with
  |inl j=>trivial
  |inr q=>exact k q h.1 h.2
theorem Gd.bn{β:Type}{m m':Nat}{x:PR Unit}{f:zB->PR β}(h:Gd m x)(k: ∀t:zB,Wf t->t.length<m->Gd m' (f t)):Gd m' (x.bn f):=Gd.bd h λq=>k q.2
theorem Gd.ite{α:Type}{m:Nat}{c:Prop}[Decidable c]{a b:PR α}(h:c->Gd m a)(k: ¬c->Gd m b):Gd m (if c then a else b):=by
 by_cases hc:c
 ·rw[yL hc];exact h hc
 ·rw[yK hc];exact k hc
theorem Gd.up{α:Type}{m m':Nat}{x:PR α}(h:Gd m x)(hm:m<=m'):Gd m' x:=by
 cases x with
 |none=>exact h
 |some p=>
  cases p with
  |inl j=>trivial
  |inr q=>exact⟨h.1,Nat.lt_of_lt_of_le h.2 hm⟩
theorem Gd.need{t:zB}(w:Wf t)(s:Str):Gd t.length (zaC s t):=
 .ite (λc=>by have:=w.tail (zas c);exact⟨this.1,by show t.tail.length<_;omega⟩) λ_=>trivial
theorem Gd.end{t:zB}(w:Wf t):Gd (t.length+1) (zg5 t):=
 .ite (λc=>by have:=w.tail (zas c);exact⟨this.1,by show t.tail.length<_;omega⟩) λ_=> .ite (λ_=>⟨w,Nat.lt_succ_self _⟩) λ_=>trivial
structure PGd (n:Nat) (g:PG):Prop where
 expr: ∀a t,Wf t->10*t.length+6<n->Gd t.length (g.expr a t)
 comma: ∀a x t,Wf t->10*t.length+1<n->Gd (t.length+1) (g.comma a x t)
 assign: ∀a t,Wf t->10*t.length+5<n->Gd t.length (g.assign a t)
 binary: ∀a b t,Wf t->10*t.length+4<n->Gd t.length (g.binary a b t)
 bins: ∀a b x t,Wf t->10*t.length+1<n->Gd (t.length+1) (g.bins a b x t)
 unary: ∀t,Wf t->10*t.length+3<n->Gd t.length (g.unary t)
 mems: ∀a x t,Wf t->10*t.length+1<n->Gd (t.length+1) (g.mems a x t)
 made: ∀t,Wf t->10*t.length+2<n->Gd t.length (g.made t)
 prim: ∀t,Wf t->10*t.length+1<n->Gd t.length (g.prim t)
 exprs: ∀a b t,Wf t->10*t.length+6<n->Gd t.length (g.exprs a b t)
 props: ∀t,Wf t->10*t.length+1<n->Gd t.length (g.props t)
 func: ∀a t,Wf t->10*t.length+1<n->Gd t.length (g.func a t)
 vars: ∀a t,Wf t->10*t.length+1<n->Gd t.length (g.vars a t)
 block: ∀t,Wf t->10*t.length+1<n->Gd t.length (g.block t)
 head: ∀t,Wf t->10*t.length+1<n->Gd t.length (g.head t)
 till: ∀a t,Wf t->10*t.length+7<n->Gd t.length (g.till a t)
 loop: ∀t,Wf t->10*t.length+1<n->Gd t.length (g.loop t)
 cases: ∀a t,Wf t->10*t.length+1<n->Gd t.length (g.cases a t)
 body: ∀t,Wf t->10*t.length+9<n->Gd (t.length+1) (g.body t)
 stmt: ∀t,Wf t->10*t.length+8<n->Gd t.length (g.stmt t)
 stmts: ∀a t,Wf t->10*t.length+9<n->Gd (t.length+1) (g.stmts a t)
section
variable {n:Nat} {g:PG} (G:PGd n g)
include G
theorem zRS(a t)(w:Wf t)(h:10*t.length+6<n+1):Gd t.length (zxy g a t):=
 .bd (G.assign _ _ w (by omega)) λq wq lq=>(G.comma _ _ _ wq (by omega)).up (by omega)
theorem zP5(a x t)(w:Wf t)(h:10*t.length+1<n+1):Gd (t.length+1) (zkN g a x t):=
 .ite (λc=>by have:=w.tail (zas c);exact .bd (G.assign _ _ this.1 (by omega)) λq wq lq=>(G.comma _ _ _ wq (by omega)).up (by omega)) λ_=>⟨w,Nat.lt_succ_self _⟩
theorem zNk(a t)(w:Wf t)(h:10*t.length+5<n+1):Gd t.length (zok g a t):=
 .bd (G.binary _ _ _ w (by omega)) λq wq lq=>
  .ite (λc=>by
   have:=wq.tail (zas c);exact .bd (G.assign _ _ this.1 (by omega)) λy wy ly=> .bn (.need wy _) λt wt lt=> .bd (G.assign _ _ wt (by omega)) λz wz lz=>⟨wz,by show z.2.length<_;omega⟩) λ_=>
  .ite (λc=> .ite (λ_=>by
   have:=wq.tail (zgq c);exact .bd (G.assign _ _ this.1 (by omega)) λy wy ly=>⟨wy,by show y.2.length<_;omega⟩) λ_=>trivial) λ_=>⟨wq,lq⟩
theorem zOb(a b t)(w:Wf t)(h:10*t.length+4<n+1):Gd t.length (zol g a b t):=
 .bd (G.unary _ w (by omega)) λq wq lq=>(G.bins _ _ _ _ wq (by omega)).up (by omega)
theorem zSn(a b x t)(w:Wf t)(h:10*t.length+1<n+1):Gd (t.length+1) (zmY g a b x t):=
 .ite (λ_=>⟨w,Nat.lt_succ_self _⟩) λc=>by
  have h0:(zcQ a t).1≠0:=by
   intro e;rw[e]at c;simp at c
  have:=w.tail (zzC h0);exact .bd (G.binary _ _ _ this.1 (by omega)) λq wq lq=>(G.bins _ _ _ _ wq (by omega)).up (by omega)
theorem zQP(t)(w:Wf t)(h:10*t.length+3<n+1):Gd t.length (zha g t):=
 .ite (λc=>by have:=w.tail (zgq c);exact .bd (G.unary _ this.1 (by omega)) λy wy ly=>⟨wy,by show y.2.length<_;omega⟩) λ_=>
 .ite (λc=>by have:=w.tail (zgq c);exact .bd (G.unary _ this.1 (by omega)) λy wy ly=> .ite (λ_=>⟨wy,by show y.2.length<_;omega⟩) λ_=>trivial) λ_=>
 .bd (G.made _ w (by omega)) λq wq lq=> .bd (G.mems _ _ _ wq (by omega)) λp wp lp=>
  .ite (λ_=>⟨wp,by omega⟩) λc=> .ite (λ_=>by
   have h1:zbs zgC p.2=true:=by
    cases e:zbs zgC p.2 with
    |true=>rfl
    |false=>rw[e]at c;simp at c
   have:=wp.tail (zgq h1);exact⟨this.1,by show p.2.tail.length<_;omega⟩) λ_=>trivial
theorem zUc(a x t)(w:Wf t)(h:10*t.length+1<n+1):Gd (t.length+1) (ziA g a x t):=
 .ite (λc=>by
  have h1:=w.tail (zas c)
  exact .ite (λc2=>by
   have h2:=h1.1.tail (by
    intro e;rw[e]at c2;simp at c2)
   exact(G.mems _ _ _ h2.1 (by omega)).up (by omega)) λ_=>trivial) λ_=>
 .ite (λc=>by
  have h1:=w.tail (zas c);exact .bd (G.expr _ _ h1.1 (by omega)) λk wk lk=> .bn (.need wk _) λt wt lt=>(G.mems _ _ _ wt (by omega)).up (by omega)) λ_=>
 .ite (λc=>by
  rw[qz4]at c;have h1:=w.tail (zas c.2);exact .bd (G.exprs _ _ _ h1.1 (by omega)) λk wk lk=>(G.mems _ _ _ wk (by omega)).up (by omega)) λ_=>⟨w,Nat.lt_succ_self _⟩
theorem zTH(t)(w:Wf t)(h:10*t.length+2<n+1):Gd t.length (znq g t):=
 .ite (λc=>by
  have h1:=w.tail (zas c)
  exact .bd (G.made _ h1.1 (by omega)) λq wq lq=> .bd (G.mems _ _ _ wq (by omega)) λp wp lp=>
   .ite (λc2=>by
    have h2:=wp.tail (zas c2);exact .bd (G.exprs _ _ _ h2.1 (by omega)) λl wl ll=>⟨wl,by show l.2.length<_;omega⟩) λ_=>⟨wp,by show p.2.length<_;omega⟩) λ_=>G.prim _ w (by omega)
theorem zR0(t)(w:Wf t)(h:10*t.length+1<n+1):Gd t.length (zdQ g t):=by
 have tl: ∀{k:Nat},(zaa t==k)=true->k≠0->∀x:Node,Gd t.length (gt (x,t.tail)):=λc hk x=>by
  have:=w.tail (zbK c hk);exact⟨this.1,by show t.tail.length<_;omega⟩
 have ti: ∀{s:Str},tIs s t=true->∀x:Node,Gd t.length (gt (x,t.tail)):=λc x=>by
  have:=w.tail (zas c);exact⟨this.1,by show t.tail.length<_;omega⟩
 refine .ite (λc=>tl c (by decide) _) λ_=> .ite (λc=>?_) λ_=> .ite (λc=>tl c (by decide) _) λ_=> .ite (λc=>ti c _) λ_=> .ite (λc=>ti c _) λ_=> .ite (λc=>ti c _) λ_=> .ite (λc=>ti c _) λ_=>
  .ite (λc=>?_) λ_=> .ite (λc=>?_) λ_=> .ite (λc=>?_) λ_=> .ite (λc=>?_) λ_=>trivial
 ·have:=tl c (by decide);cases t with
  |nil=>exact absurd w.pos (by simp)
  |cons a r=>exact this _
 all_goals have h1:=w.tail (zas c)
 ·exact(G.func _ _ h1.1 (by omega)).up (by omega)
 ·exact .bd (G.expr _ _ h1.1 (by omega)) λk wk lk=> .bn (.need wk _) λt' wt lt=>⟨wt,by show t'.length<_;omega⟩
 ·exact .bd (G.exprs _ _ _ h1.1 (by omega)) λl wl ll=>⟨wl,by show l.2.length<_;omega⟩
 ·exact .bd (G.props _ h1.1 (by omega)) λl wl ll=>⟨wl,by show l.2.length<_;omega⟩
theorem zQv(a b t)(w:Wf t)(h:10*t.length+6<n+1):Gd t.length (zgv g a b t):=
 .ite (λc=>by have:=w.tail (zas c);exact⟨this.1,by show t.tail.length<_;omega⟩) λ_=>
 .bd (G.assign _ _ w (by omega)) λx wx lx=> .ite (λc=>by have:=wx.tail (zas c);exact⟨this.1,by show x.2.tail.length<_;omega⟩) λ_=>
  .bn (.need wx _) λt wt lt=> .ite (λ_=>trivial) λ_=> .bd (G.exprs _ _ _ wt (by omega)) λl wl ll=>⟨wl,by show l.2.length<_;omega⟩
omit G in
theorem zV4{t}(w:Wf t):Gd t.length (zBU t):=by
 cases t with
 |nil=>exact absurd w.pos (by simp)
 |cons a r=>
  have tl: ∀{k:Nat},(a.kind==k)=true->k≠0->∀x:Str,Gd (a::r).length (gt (x,r)):=λc hk x=>by
   have:=w.tail (zbK (t:=a::r) c hk);exact⟨this.1,by show r.length<_;simp⟩
  exact .ite (λc=>tl c (by decide) _) λ_=> .ite (λc=>tl c (by decide) _) λ_=> .ite (λc=>by
   rw[yQ]at c;exact c.elim (λc=>tl c (by decide) _) λc=>tl c (by decide) _) λ_=>trivial
theorem zOR(t)(w:Wf t)(h:10*t.length+1<n+1):Gd t.length (zg7 g t):=
 .ite (λc=>by have:=w.tail (zas c);exact⟨this.1,by show t.tail.length<_;omega⟩) λ_=>
 .bd (zV4 w) λk wk lk=> .bn (.need wk _) λt1 w1 l1=> .bd (G.assign _ _ w1 (by omega)) λx wx lx=>
  .ite (λc=>by have:=wx.tail (zas c);exact⟨this.1,by show x.2.tail.length<_;omega⟩) λ_=>
  .bn (.need wx _) λt wt lt=> .bd (G.props _ wt (by omega)) λl wl ll=>⟨wl,by show l.2.length<_;omega⟩
omit G in
theorem zHQ: ∀t,Wf t->Gd t.length (zhY t)
 | [],w=>absurd w.pos (by simp)
 | [a],_=>trivial
 |a::b::r,w=>by
  rw[zhY];refine .ite (λc=>?_) λ_=>trivial
  have h1:=w.tail (zbK (t:=a::b::r) c (by decide));refine .ite (λc2=>?_) λ_=> .ite (λc2=>?_) λ_=>trivial
  ·have h2:=h1.1.tail (zas c2);exact⟨h2.1,by show r.length<_;simp only[qz3];omega⟩
  ·have h2:=h1.1.tail (zas c2);exact .ite (λ_=>trivial) λ_=> .bd (zHQ r h2.1) λl wl ll=>⟨wl,by show l.2.length<_;simp only[qz3];omega⟩
omit G in
theorem zOy{t}(w:Wf t):Gd t.length (zet t):=
 .ite (λc=>by have:=w.tail (zas c);exact⟨this.1,by show t.tail.length<_;omega⟩) λ_=>zHQ t w
theorem zUt(a t)(w:Wf t)(h:10*t.length+1<n+1):Gd t.length (zoT g a t):=
 .bd (m:=t.length+1) (.ite (λc=>by have:=w.tail (zbK c (by decide));exact⟨this.1,by show t.tail.length<_;omega⟩) λ_=> .ite (λ_=>trivial) λ_=>⟨w,Nat.lt_succ_self _⟩) λm wm lm=>
  .bn (.need wm _) λt1 w1 l1=> .bd (zOy w1) λns wn ln=> .bn (.need wn _) λt2 w2 l2=> .bd (G.stmts _ _ w2 (by omega)) λl wl ll=> .bn (.need wl _) λt3 w3 l3=>⟨w3,by show t3.length<_;omega⟩
theorem zR2(a t)(w:Wf t)(h:10*t.length+1<n+1):Gd t.length (zl5 g a t):=
 .ite (λc=>by
  have h1:=w.tail (zbK c (by decide))
  exact .bd (m:=t.length) (.ite (λc2=>by
   have h2:=h1.1.tail (zas c2)
   exact .bd (G.assign _ _ h2.1 (by omega)) λy wy ly=>⟨wy,by show y.2.length<_;omega⟩) λ_=>⟨h1.1,by show t.tail.length<_;omega⟩) λd wd ld=>
    .ite (λc3=>by
     have h3:=wd.tail (zas c3);exact .bd (G.vars _ _ h3.1 (by omega)) λl wl ll=>⟨wl,by show l.2.length<_;omega⟩) λ_=>⟨wd,by show d.2.length<_;omega⟩) λ_=>trivial
theorem zQO(t)(w:Wf t)(h:10*t.length+1<n+1):Gd t.length (zk3 g t):=
 .bn (.need w _) λt1 w1 l1=> .bd (G.stmts _ _ w1 (by omega)) λl wl ll=> .bn (.need wl _) λt2 w2 l2=>⟨w2,by show t2.length<_;omega⟩
theorem zTj(t)(w:Wf t)(h:10*t.length+1<n+1):Gd t.length (zqw g t):=
 .bn (.need w _) λt1 w1 l1=> .bd (G.expr _ _ w1 (by omega)) λl wl ll=> .bn (.need wl _) λt2 w2 l2=>⟨w2,by show t2.length<_;omega⟩
theorem zR3(s t)(w:Wf t)(h:10*t.length+7<n+1):Gd t.length (zkS g s t):=
 .ite (λc=>by have:=w.tail (zas c);exact⟨this.1,by show t.tail.length<_;omega⟩) λ_=>
 .bd (G.expr _ _ w (by omega)) λl wl ll=> .bn (.need wl _) λt2 w2 l2=>⟨w2,by show t2.length<_;omega⟩
theorem zOW(t)(w:Wf t)(h:10*t.length+6<n):Gd (t.length+1) (zlW g t):=
 .ite (λc=>by
  have h1:=w.tail (zas c);exact .bd (G.vars _ _ h1.1 (by omega)) λl wl ll=>⟨wl,by show l.2.length<_;omega⟩) λ_=> .ite (λ_=>⟨w,Nat.lt_succ_self _⟩) λ_=>(G.expr _ _ w (by omega)).up (by omega)
theorem zUd(t)(w:Wf t)(h:10*t.length+1<n+1):Gd t.length (zne g t):=
 .bn (.need w _) λt1 w1 l1=> .bd (zOW G _ w1 (by omega)) λq wq lq=>
  .ite (λc=>by
   rw[qz4]at c;have h1:=wq.tail (zas c.2);exact .bd (G.expr _ _ h1.1 (by omega)) λx wx lx=> .bn (.need wx _) λt2 w2 l2=> .bd (G.stmt _ w2 (by omega)) λb wb lb=>⟨wb,by show b.2.length<_;omega⟩) λ_=>
  .bn (.need wq _) λt2 w2 l2=> .bd (G.till _ _ w2 (by omega)) λx wx lx=> .bd (G.till _ _ wx (by omega)) λy wy ly=> .bd (G.stmt _ wy (by omega)) λb wb lb=>⟨wb,by show b.2.length<_;omega⟩
theorem zQf(t)(w:Wf t)(h:10*t.length<n):Gd (t.length+1) (zmZ g t):=
 .ite (λc=>by
  have h1:=w.tail (zas c)
  exact .bn (.need h1.1 _) λt1 w1 l1=> .ite (λc2=>by
   have h2:=w1.tail (zbK c2 (by decide));exact .bn (.need h2.1 _) λt2 w2 l2=> .bd (G.block _ w2 (by omega)) λb wb lb=>⟨wb,by show b.2.length<_;omega⟩) λ_=>trivial) λ_=>⟨w,Nat.lt_succ_self _⟩
theorem zO6(t)(w:Wf t)(h:10*t.length<n):Gd (t.length+1) (zkz g t):=
 .ite (λc=>by
  have h1:=w.tail (zas c);exact(G.block _ h1.1 (by omega)).up (by omega)) λ_=>⟨w,Nat.lt_succ_self _⟩
theorem zVT(t)(w:Wf t)(h:10*t.length+2<n):Gd t.length (zB3 g t):=
 .bd (G.block _ w (by omega)) λb wb lb=> .bd (zQf G _ wb (by omega)) λc wc lc=> .bd (zO6 G _ wc (by omega)) λf wf lf=> .ite (λ_=>trivial) λ_=>⟨wf,by show f.2.length<_;omega⟩
theorem zO1(a t)(w:Wf t)(h:10*t.length+1<n+1):Gd t.length (ziE g a t):=
 .ite (λc=>by have:=w.tail (zas c);exact⟨this.1,by show t.tail.length<_;omega⟩) λ_=>
 .ite (λc=>by
  rw[qz4]at c;have h1:=w.tail (zas c.2);exact .bn (.need h1.1 _) λt1 w1 l1=> .bd (G.body _ w1 (by omega)) λl wl ll=> .bd (G.cases _ _ wl (by omega)) λr wr lr=>⟨wr,by show r.2.length<_;omega⟩) λ_=>
 .bn (.need w _) λt1 w1 l1=> .bd (G.expr _ _ w1 (by omega)) λx wx lx=> .bn (.need wx _) λt2 w2 l2=> .bd (G.body _ w2 (by omega)) λl wl ll=> .bd (G.cases _ _ wl (by omega)) λr wr lr=>⟨wr,by show r.2.length<_;omega⟩
theorem zTr(t)(w:Wf t)(h:10*t.length+9<n+1):Gd (t.length+1) (zna g t):=
 .ite (λ_=>⟨w,Nat.lt_succ_self _⟩) λ_=> .bd (G.stmt _ w (by omega)) λx wx lx=> .bd (G.body _ wx (by omega)) λl wl ll=>⟨wl,by show l.2.length<_;omega⟩
omit G in
theorem zKU(k t)(w:Wf t):Gd (t.length+1) (zjg k t):=
 .ite (λc=>by
  rw[qz4]at c;have h1:=w.tail (zbK c.1 (by decide));exact .bn (.end h1.1) λt1 w1 l1=>⟨w1,by show t1.length<_;omega⟩) λ_=> .bn (.end w) λt1 w1 l1=>⟨w1,by show t1.length<_;omega⟩
theorem zSp(t)(w:Wf t)(h:10*t.length+8<n+1):Gd t.length (zbU g t):=by
 refine .ite (λc=>G.block _ w (by omega)) λ_=> .ite (λc=>?_) λ_=> .ite (λc=>?_) λ_=> .ite (λc=>?_) λ_=> .ite (λc=>?_) λ_=> .ite (λc=>?_) λ_=> .ite (λc=>?_) λ_=> .ite (λc=>?_) λ_=>
  .ite (λc=>?_) λ_=> .ite (λc=>?_) λ_=> .ite (λc=>?_) λ_=> .ite (λc=>?_) λ_=> .ite (λc=>?_) λ_=> .ite (λc=>trivial) λ_=> .ite (λc=>?_) λ_=>?_
 rotate_right 2
 ·rw[qz4]at c;have h1:=w.tail (zbK c.1 (by decide));have h2:=h1.1.tail (zas c.2);exact .bd (G.stmt _ h2.1 (by omega)) λx wx lx=>⟨wx,by show x.2.length<_;omega⟩
 ·exact .bd (G.expr _ _ w (by omega)) λx wx lx=> .bn (.end wx) λt1 w1 l1=>⟨w1,by show t1.length<_;omega⟩
 all_goals have h1:=w.tail (zas c)
 ·exact⟨h1.1,by show t.tail.length<_;omega⟩
 ·exact .bd (G.vars _ _ h1.1 (by omega)) λx wx lx=> .bn (.end wx) λt1 w1 l1=>⟨w1,by show t1.length<_;omega⟩
 ·exact .bd (G.head _ h1.1 (by omega)) λx wx lx=> .bd (G.stmt _ wx (by omega)) λb wb lb=> .ite (λc2=>by
   have h2:=wb.tail (zas c2);exact .bd (G.stmt _ h2.1 (by omega)) λe we le=>⟨we,by show e.2.length<_;omega⟩) λ_=>⟨wb,by show b.2.length<_;omega⟩
 ·exact .bd (G.head _ h1.1 (by omega)) λx wx lx=> .bd (G.stmt _ wx (by omega)) λb wb lb=>⟨wb,by show b.2.length<_;omega⟩
 ·exact .bd (G.stmt _ h1.1 (by omega)) λb wb lb=> .bn (.need wb _) λt1 w1 l1=> .bd (G.head _ w1 (by omega)) λx wx lx=> .bn (.end wx) λt2 w2 l2=>⟨w2,by show t2.length<_;omega⟩
 ·exact(G.loop _ h1.1 (by omega)).up (by omega)
 ·exact(zKU _ _ h1.1).up (by omega)
 ·exact(zKU _ _ h1.1).up (by omega)
 ·exact .ite (λ_=> .bd (G.expr _ _ h1.1 (by omega)) λx wx lx=> .bn (.end wx) λt1 w1 l1=>⟨w1,by show t1.length<_;omega⟩) λ_=> .bn (.end h1.1) λt1 w1 l1=>⟨w1,by show t1.length<_;omega⟩
 ·exact .ite (λ_=>trivial) λ_=> .bd (G.expr _ _ h1.1 (by omega)) λx wx lx=> .bn (.end wx) λt1 w1 l1=>⟨w1,by show t1.length<_;omega⟩
 ·exact(zVT G _ h1.1 (by omega)).up (by omega)
 ·exact .bd (G.head _ h1.1 (by omega)) λx wx lx=> .bn (.need wx _) λt1 w1 l1=> .bd (G.cases _ _ w1 (by omega)) λl wl ll=>⟨wl,by show l.2.length<_;omega⟩
theorem zRb(a t)(w:Wf t)(h:10*t.length+9<n+1):Gd (t.length+1) (zh4 g a t):=
 .ite (λ_=>⟨w,Nat.lt_succ_self _⟩) λ_=> .bd (m:=t.length) (.ite (λc=>by
  rw[qz4]at c;have h1:=w.tail (zas c.2);exact(G.func _ _ h1.1 (by omega)).up (by omega)) λ_=>G.stmt _ w (by omega)) λx wx lx=> .bd (G.stmts _ _ wx (by omega)) λl wl ll=>⟨wl,by show l.2.length<_;omega⟩
end
theorem zRm: ∀n,PGd n (pG n)
 |0=>by constructor<;>intros<;>omega
 |n+1=>by
  have G:=zRm n;exact⟨zRS G,zP5 G,zNk G,zOb G,zSn G,zQP G,zUc G,zTH G,zR0 G,zQv G,zOR G,zUt G,zR2 G,zQO G,zTj G,zR3 G,zUd G,zO1 G,zTr G,zSp G,zRb G⟩
def zgU(x:PR Node):Prop:=∀q,x=gt q->q.1.Kind≠22
theorem zgU.gt{x:Node}{t:zB}(h:x.Kind≠22):zgU (gt (x,t)):=λq e=>by cases e;exact h
theorem zgU.bad{t:zB}:zgU (bad t):=λq e=>by cases e
theorem zgU.bd{α:Type}{x:PR α}{f:α×zB->PR Node}(k: ∀q,x=Go.D08.gt q->zgU (f q)):zgU (x.bd f):=by
 cases x with
 |none=>intro q e;cases e
 |some p=>
  cases p with
  |inl j=>intro q e;cases e
  |inr q=>exact k q rfl
theorem zgU.bn{x:PR Unit}{f:zB->PR Node}(k: ∀t,zgU (f t)):zgU (x.bn f):= .bd λq _=>k q.2
theorem zgU.ite{c:Prop}[Decidable c]{a b:PR Node}(h:c->zgU a)(k: ¬c->zgU b):zgU (if c then a else b):=by
 by_cases hc:c
 ·rw[yL hc];exact h hc
 ·rw[yK hc];exact k hc
structure P22 (g:PG):Prop where
 expr: ∀a t,zgU (g.expr a t)
 comma: ∀a x t,x.Kind≠22->zgU (g.comma a x t)
 assign: ∀a t,zgU (g.assign a t)
 binary: ∀a b t,zgU (g.binary a b t)
 bins: ∀a b x t,x.Kind≠22->zgU (g.bins a b x t)
 unary: ∀t,zgU (g.unary t)
 mems: ∀a x t,x.Kind≠22->zgU (g.mems a x t)
 made: ∀t,zgU (g.made t)
 prim: ∀t,zgU (g.prim t)
 func: ∀t,zgU (g.func 10 t)
theorem zR8(no:Bool)(t:zB):(zcQ no t).2≠22:=by
 cases t with
 |nil=>show(0:Int)≠22;decide
 |cons a r=>
  show(if opK a=true then lvS no a.text else(0,0)).2≠22;unfold lvS
  repeat' split
  all_goals decide
theorem zRM: ∀n,P22 (pG n)
 |0=>by constructor<;>intros<;>intro q e<;>cases e
 |n+1=>by
  have G:=zRM n;refine⟨λa t=>?_,λa x t hx=>?_,λa t=>?_,λa b t=>?_,λa b x t hx=>?_,λt=>?_,λa x t hx=>?_,λt=>?_,λt=>?_,λt=>?_⟩
  ·exact .bd λq e=>G.comma _ _ _ (G.assign _ _ q e)
  ·exact .ite (λ_=> .bd λq e=>G.comma _ _ _ (by simp[nd,ndN])) λ_=> .gt hx
  ·exact .bd λq e=> .ite (λ_=> .bd λy _=> .bn λt=> .bd λz _=> .gt (by simp[nd,ndN])) λ_=> .ite (λ_=> .ite (λ_=> .bd λy _=> .gt (by simp[nd,ndN])) λ_=> .bad) λ_=> .gt (G.binary _ _ _ q e)
  ·exact .bd λq e=>G.bins _ _ _ _ (G.unary _ q e)
  ·exact .ite (λ_=> .gt hx) λ_=> .bd λq e=>G.bins _ _ _ _ (zR8 _ _)
  ·exact .ite (λ_=> .bd λy _=> .gt (by simp[nd,ndN])) λ_=> .ite (λ_=> .bd λy _=> .ite (λ_=> .gt (by simp[nd,ndN])) λ_=> .bad) λ_=>
    .bd λq e=> .bd λp e2=> .ite (λ_=> .gt (G.mems _ _ _ (G.made _ q e) p e2)) λ_=> .ite (λ_=> .gt (by simp[nd,ndN])) λ_=> .bad
  ·exact .ite (λ_=> .ite (λ_=>G.mems _ _ _ (by simp[nd,ndN])) λ_=> .bad) λ_=> .ite (λ_=> .bd λk _=> .bn λt=>G.mems _ _ _ (by simp[nd,ndN])) λ_=>
    .ite (λ_=> .bd λl _=>G.mems _ _ _ (by simp[nd,ndN])) λ_=> .gt hx
  ·exact .ite (λ_=> .bd λq _=> .bd λp _=> .ite (λ_=> .bd λl _=> .gt (by simp[nd,ndN])) λ_=> .gt (by simp[nd,ndN])) λ_=>G.prim _
  ·refine .ite (λ_=> .gt (by simp[nd,ndN])) λ_=> .ite (λ_=>?_) λ_=> .ite (λ_=> .gt (by simp[nd,ndN])) λ_=> .ite (λ_=> .gt (by simp[nd,ndN])) λ_=> .ite (λ_=> .gt (by simp[nd,ndN])) λ_=> .ite (λ_=> .gt (by simp[nd,ndN])) λ_=> .ite (λ_=> .gt (by simp[nd,ndN])) λ_=>
    .ite (λ_=>G.func _) λ_=> .ite (λ_=> .bd λk e=> .bn λt=> .gt (G.expr _ _ k e)) λ_=> .ite (λ_=> .bd λl _=> .gt (by simp[nd,ndN])) λ_=> .ite (λ_=> .bd λl _=> .gt (by simp[nd,ndN])) λ_=> .bad
   cases t with
   |nil=>intro q e;cases e
   |cons a r=>exact .gt (by show(1:Int)≠22;decide)
  ·exact .bd λm _=> .bn λt=> .bd λns _=> .bn λt=> .bd λl _=> .bn λt=> .gt (by simp[nd,ndN])
theorem zAR{α β:Type}{x:PR α}{f:α×zB->PR β}{q:β×zB}(h:x.bd f=gt q): ∃p,x=gt p/\f p=gt q:=by
 cases x with
 |none=>cases h
 |some p=>
  cases p with
  |inl j=>cases h
  |inr p=>exact⟨p,rfl,h⟩
theorem zED{β:Type}{x:PR Unit}{f:zB->PR β}{q:β×zB}(h:x.bn f=gt q): ∃t,f t=gt q:=by
 obtain⟨p,_,h⟩:=zAR h;exact⟨_,h⟩
theorem zIH{n:Nat}{t:zB}{q:Node×zB}(h:(pG n).block t=gt q):q.1.Kind=25:=by
 cases n with
 |zero=>cases h
 |succ n=>
  have h:zk3 (pG n) t=gt q:=h;unfold zk3 at h;obtain⟨t1,h⟩:=zED h;obtain⟨l,_,h⟩:=zAR h;obtain⟨t2,h⟩:=zED h;cases h;rfl
end Go.D08
namespace Go.D08
open Go Go.Gw Go.Dn Go.Proofs
set_option maxRecDepth 100000
def atK(L0:List zy)(k:Nat):Int:=match L0.drop (L0.length -k)with|x::_=>x.At| []=>0
structure TL (L0 L:List zy):Prop where
 ok:TOk L
 suf:L<:+L0
theorem TL.tail{L0 L:List zy}(h:TL L0 L)(hk:zaa (L.map tk)≠0):TL L0 L.tail:=by
 obtain⟨x,r,rfl⟩:=h.ok.cons;have h0:=(h.ok.kinds x qz7).1;refine⟨h.ok.tail (λe=>hk (by show(tk x).kind=0;unfold tk;rw[e];rfl)),(List.suffix_cons x r).trans h.suf⟩
theorem TL.at_{L0:List zy}{x:zy}{r:List zy}(h:TL L0 (x::r)):atK L0 ((x::r).map tk).length=x.At:=by
 obtain⟨p,hp⟩:=h.suf;unfold atK;rw[<-hp,List.length_map,qz5,show p.length+(x::r).length - (x::r).length=p.length by omega,List.drop_left]
def SG{α ρ:Type}(L0:List zy)(E:Int->ρ->Prop)(O:α->List zy->ρ->Prop)(m:Option ρ)(q:PR α):Prop:=
 match q with
 |none=>True
 |some (.inl k)=>∃r,m=some r/\E (atK L0 k) r
 |some (.inr p)=>∃r L',m=some r/\L'.map tk=p.2/\TL L0 L'/\O p.1 L' r
section
variable {α β γ δ ρ σ:Type} {L0 L:List zy} {no:Bool} {E:Int->ρ->Prop} {O:α->List zy->ρ->Prop} {E':Int->σ->Prop} {O':β->List zy->σ->Prop}
abbrev EL(a:Int)(r:(zaf×γ)⊕δ):Prop:=∃y,r= .inl (zaf.code 45 a,y)
abbrev ER(a:Int)(r:δ⊕(zaf×γ)):Prop:=∃y,r= .inr (zaf.code 45 a,y)
abbrev OL(no:Bool)(v:α)(L':List zy)(r:(α×zh×Unit)⊕δ):Prop:=r= .inl (v,pp L' no,())
abbrev OR(no:Bool)(v:α)(L':List zy)(r:δ⊕(α×zh×Unit)):Prop:=r= .inr (v,pp L' no,())
theorem SG.gen{m:Option ρ}{q:PR α}{f:ρ->Option σ}{g:α×zB->PR β}(h:SG L0 E O m q)(he: ∀a r,E a r->∃r',f r=some r'/\E' a r')
  (ho: ∀v L' r,q=gt (v,L'.map tk)->TL L0 L'->O v L' r->SG L0 E' O' (f r) (g (v,L'.map tk))):SG L0 E' O' (m.bind f) (q.bd g):=by
 cases q with
 |none=>trivial
 |some p=>
  cases p with
  |inl k=>
   obtain⟨r,rfl,hr⟩:=h;exact he _ _ hr
  |inr p=>
   obtain⟨r,L',rfl,hL,ok,hr⟩:=h;obtain⟨v,t⟩:=p;subst hL;exact ho v L' r rfl ok hr
theorem SG.same{m:Option ρ}{q:PR α}{f:ρ->Option σ}{O':α->List zy->σ->Prop}(h:SG L0 E O m q)(he: ∀a r,E a r->∃r',f r=some r'/\E' a r')
  (ho: ∀v L' r,TL L0 L'->O v L' r->∃r',f r=some r'/\O' v L' r'):SG L0 E' O' (m.bind f) q:=by
 cases q with
 |none=>trivial
 |some p=>
  cases p with
  |inl k=>
   obtain⟨r,rfl,hr⟩:=h;exact he _ _ hr
  |inr p=>
   obtain⟨r,L',rfl,hL,ok,hr⟩:=h;obtain⟨r',e,ho⟩:=ho p.1 L' r ok hr;exact⟨r',L',e,hL,ok,ho⟩
theorem SG.gt{r:ρ}{v:α}(ok:TL L0 L)(h:O v L r):SG L0 E O (some r) (gt (v,L.map tk)):=⟨r,L,rfl,rfl,ok,h⟩
theorem SG.l{m:Option ((zaf×γ)⊕(α×zh×Unit))}{q:PR α}{f:(zaf×γ)⊕(α×zh×Unit)->Option σ}{g:α×zB->PR β}(h:SG L0 EL (OR no) m q)
  (he: ∀a y,∃r',f (.inl (zaf.code 45 a,y))=some r'/\E' a r') (ho: ∀v L',TL L0 L'->SG L0 E' O' (f (.inr (v,pp L' no,()))) (g (v,L'.map tk))):SG L0 E' O' (m.bind f) (q.bd g):=
 h.gen (by rintro a _ ⟨y,rfl⟩;exact he a y) (by rintro v L' _ _ ok rfl;exact ho v L' ok)
theorem SG.r{m:Option ((α×zh×Unit)⊕(zaf×γ))}{q:PR α}{f:(α×zh×Unit)⊕(zaf×γ)->Option σ}{g:α×zB->PR β}(h:SG L0 ER (OL no) m q)
  (he: ∀a y,∃r',f (.inr (zaf.code 45 a,y))=some r'/\E' a r') (ho: ∀v L',TL L0 L'->SG L0 E' O' (f (.inl (v,pp L' no,()))) (g (v,L'.map tk))):SG L0 E' O' (m.bind f) (q.bd g):=
 h.gen (by rintro a _ ⟨y,rfl⟩;exact he a y) (by rintro v L' _ _ ok rfl;exact ho v L' ok)
theorem SG.ll{m:Option ((zaf×γ)⊕(α×zh×Unit))}{q:PR α}{f:(zaf×γ)⊕(α×zh×Unit)->Option σ}{O':α->List zy->σ->Prop}(h:SG L0 EL (OR no) m q)
  (he: ∀a y,∃r',f (.inl (zaf.code 45 a,y))=some r'/\E' a r') (ho: ∀v L',∃r',f (.inr (v,pp L' no,()))=some r'/\O' v L' r'):SG L0 E' O' (m.bind f) q:=
 h.same (by rintro a _ ⟨y,rfl⟩;exact he a y) (by rintro v L' _ ok rfl;exact ho v L')
theorem SG.rr{m:Option ((α×zh×Unit)⊕(zaf×γ))}{q:PR α}{f:(α×zh×Unit)⊕(zaf×γ)->Option σ}{O':α->List zy->σ->Prop}(h:SG L0 ER (OL no) m q)
  (he: ∀a y,∃r',f (.inr (zaf.code 45 a,y))=some r'/\E' a r') (ho: ∀v L',∃r',f (.inl (v,pp L' no,()))=some r'/\O' v L' r'):SG L0 E' O' (m.bind f) q:=
 h.same (by rintro a _ ⟨y,rfl⟩;exact he a y) (by rintro v L' _ ok rfl;exact ho v L')
theorem SG.is{s:Str}{f:Bool×zh×Unit->Option σ}{qa qb:PR β}(ok:TL L0 L)(hy:tIs s (L.map tk)=true->SG L0 E' O' (f (true,pp L no,())) qa)(hn:tIs s (L.map tk)=false->SG L0 E' O' (f (false,pp L no,())) qb):
  SG L0 E' O' ((zbb s (pp L no)).bind f) (if tIs s (L.map tk)=true then qa else qb):=by
 rw[ztl ok.ok s,qz1];cases hq:tIs s (L.map tk)with
 |true=>exact hy hq
 |false=>exact hn hq
theorem SG.has{s:Str}{f:Bool×zh×Unit->Option σ}{qa qb:PR β}(ok:TL L0 L)(hy:tIs s (L.map tk)=true->TL L0 L.tail->SG L0 E' O' (f (true,pp L.tail no,())) qa)(hn:tIs s (L.map tk)=false->SG L0 E' O' (f (false,pp L no,())) qb):
  SG L0 E' O' ((zH s (pp L no)).bind f) (if tIs s (L.map tk)=true then qa else qb):=by
 rw[has_eq ok.ok s,qz1];cases hq:tIs s (L.map tk)with
 |true=>exact hy hq (ok.tail (zas hq))
 |false=>exact hn hq
theorem SG.stops{f:Bool×zh×Unit->Option σ}{q:PR β}(ok:TL L0 L)(h:SG L0 E' O' (f (zlc (L.map tk),pp L no,())) q):SG L0 E' O' ((zew (pp L no)).bind f) q:=by
 rw[zI8 ok.ok,qz1];exact h
theorem SG.among{ws:List Str}{list:Str}{f:Bool×zh×Unit->Option σ}{qa qb:PR β}(ok:TL L0 L)(hl:list=joined ws)(hw: ∀w∈ws,(32:UInt8)∉w)(hll:list.length<=1000000)
  (hy:zbs ws (L.map tk)=true->SG L0 E' O' (f (true,pp L no,())) qa) (hn:zbs ws (L.map tk)=false->SG L0 E' O' (f (false,pp L no,())) qb):
  SG L0 E' O' ((zbq list (pp L no)).bind f) (if zbs ws (L.map tk)=true then qa else qb):=by
 rw[zmo ok.ok ws list hl hw hll,qz1];cases hq:zbs ws (L.map tk)with
 |true=>exact hy hq
 |false=>exact hn hq
theorem zuT{x:zy}{r:List zy}:zaU (pp (x::r) no)=some (zaf.code 45 x.At,pp (x::r) no,()):=rfl
theorem SG.fail{f:zaf×zh×Unit->Option σ}(ok:TL L0 L)(h: ∀a,∃r',f (zaf.code 45 a,pp L no,())=some r'/\E' a r'):SG L0 E' O' ((zaU (pp L no)).bind f) (bad (L.map tk)):=by
 obtain⟨x,r,rfl⟩:=ok.ok.cons;rw[zuT,qz1];obtain⟨r',e1,e2⟩:=h x.At;exact⟨r',e1,by rw[ok.at_];exact e2⟩
theorem SG.need'{s:Str}{f:(zaf×zh×Unit)⊕(zh×Unit)->Option σ}{g:zB->PR β}(ok:TL L0 L)(he: ∀a y,∃r',f (.inl (zaf.code 45 a,y))=some r'/\E' a r')
  (ho: ∀L',TL L0 L'->L'.length<L.length->SG L0 E' O' (f (.inr (pp L' no,()))) (g (L'.map tk))):SG L0 E' O' ((zae s (pp L no)).bind f) ((zaC s (L.map tk)).bn g):=by
 unfold zae zaC;rw[zV,has_eq ok.ok s,qz1];cases hq:tIs s (L.map tk)with
 |true=>
  simp only[yB];have:=ho L.tail (ok.tail (zas hq)) (by obtain⟨x,r,rfl⟩:=ok.ok.cons;simp)
  rw[yM]at this;exact this
 |false=>
  simp only[qz2,yA,yN,yB,zV];obtain⟨x,r,rfl⟩:=ok.ok.cons;rw[zuT];obtain⟨r',e1,e2⟩:=he x.At (pp (x::r) no,());exact⟨r',e1,by rw[ok.at_];exact e2⟩
theorem SG.need{s:Str}{f:(zaf×zh×Unit)⊕(zh×Unit)->Option σ}{g:zB->PR β}(ok:TL L0 L)(he: ∀a y,∃r',f (.inl (zaf.code 45 a,y))=some r'/\E' a r')
  (ho: ∀L',TL L0 L'->SG L0 E' O' (f (.inr (pp L' no,()))) (g (L'.map tk))):SG L0 E' O' ((zae s (pp L no)).bind f) ((zaC s (L.map tk)).bn g):= .need' ok he λL' h _=>ho L' h
theorem SG.end{f:(zaf×zh×Unit)⊕(zh×Unit)->Option σ}{g:zB->PR β}(ok:TL L0 L)(he: ∀a y,∃r',f (.inl (zaf.code 45 a,y))=some r'/\E' a r')
  (ho: ∀L',TL L0 L'->SG L0 E' O' (f (.inr (pp L' no,()))) (g (L'.map tk))):SG L0 E' O' ((zbL (pp L no)).bind f) ((zg5 (L.map tk)).bn g):=by
 unfold zbL zg5;rw[zV,has_eq ok.ok [59],qz1];cases hq:tIs [59] (L.map tk)with
 |true=>
  simp only[yB];have:=ho L.tail (ok.tail (zas hq));rw[yM]at this;exact this
 |false=>
  simp only[qz2,yA,yN,yB,zV];rw[zI8 ok.ok];simp only[qz1];cases hp:zlc (L.map tk)with
  |true=>
   simp only[yO,qz2,yA,yB];exact ho L ok
  |false=>
   simp only[yN,yB,qz2,yA];obtain⟨x,r,rfl⟩:=ok.ok.cons;rw[zuT];obtain⟨r',e1,e2⟩:=he x.At (pp (x::r) no,());exact⟨r',e1,by rw[ok.at_];exact e2⟩
theorem zhA{x:zy}{r:List zy}(ok:TL L0 (x::r))(n:Nat):(x.Kind==(n:Int))=(zaa ((x::r).map tk)==n):=zov (ok.ok.kinds x qz7).1 n
theorem SG.name{f:(zaf×zh×Unit)⊕(Str×zh×Unit)->Option σ}{qa:PR β}(ok:TL L0 L)(he: ∀a y,∃r',f (.inl (zaf.code 45 a,y))=some r'/\E' a r')
  (ho:(zaa (L.map tk)==1)=true->TL L0 L.tail->SG L0 E' O' (f (.inr (tText (L.map tk),pp L.tail no,()))) qa):SG L0 E' O' ((zdf (pp L no)).bind f) (if(zaa (L.map tk)==1)=true then qa else bad (L.map tk)):=by
 obtain⟨x,r,rfl⟩:=ok.ok.cons;have hk:=zhA ok 1;rw[show((1:Nat):Int)=1 from rfl]at hk;unfold zdf;simp only[zdK,qz1,zV,bne,hk];cases hq:zaa ((x::r).map tk)==1 with
 |true=>
  have h1:x.Kind=1:=eq_of_beq (hk.trans hq);simp only[yO,qz2,yA,yB];rw[zEM (by omega)];exact ho hq (ok.tail (zbK hq (by decide)))
 |false=>
  simp only[yN,yB,qz2,yA];rw[zuT];obtain⟨r',e1,e2⟩:=he x.At (pp (x::r) no,());exact⟨r',e1,by rw[ok.at_];exact e2⟩
theorem zTX(ok:TL L0 L)(h:zaa (L.map tk)≠0): ∃x,L=x::L.tail/\tk x=tk x/\x.Text=tText (L.map tk)/\zaw (pp L no)=some (x,pp L.tail no,()):=by
 obtain⟨x,r,rfl⟩:=ok.ok.cons;exact⟨x,rfl,rfl,rfl,zEM (λe=>h (by show(tk x).kind=0;unfold tk;rw[e];rfl))⟩
theorem zFA(n:zg):zfk n=some (zcF n.Kind,()):=by
 unfold zfk zcF;cases h3:n.Kind==3<;>cases h11:n.Kind==11<;>cases h12:n.Kind==12<;>simp[h3,h11,h12]
theorem SG.target{n:zg}{f:(zaf×zh×Unit)⊕(zh×Unit)->Option σ}{qa:PR β}(ok:TL L0 L)(he: ∀a y,∃r',f (.inl (zaf.code 45 a,y))=some r'/\E' a r')
  (ho:zcF n.Kind=true->SG L0 E' O' (f (.inr (pp L no,()))) qa):SG L0 E' O' ((zd5 n (pp L no)).bind f) (if zcF n.Kind=true then qa else bad (L.map tk)):=by
 unfold zd5;rw[zq,zFA,zV,qz1];cases hq:zcF n.Kind with
 |true=>
  simp only[yO,qz2,yA,yB];exact ho hq
 |false=>
  simp only[yN,yB,qz2,yA,zV];obtain⟨x,r,rfl⟩:=ok.ok.cons;rw[zuT];obtain⟨r',e1,e2⟩:=he x.At (pp (x::r) no,());exact⟨r',e1,by rw[ok.at_];exact e2⟩
end
theorem zzt: ∀(n:Nat) (s:Str) (last:Bool) (t:zB) (q:List Node×zB),(pG n).exprs s last t=gt q->q.1.length<=n
 |0,_,_,_,_,h=>by cases h
 |n+1,s,last,t,q,h=>by
  have h:zgv (pG n) s last t=gt q:=h;unfold zgv at h;split at h
  ·cases h;exact Nat.zero_le _
  ·obtain⟨x,_,h⟩:=zAR h;split at h
   ·cases h;simp
   ·obtain⟨t',h⟩:=zED h;split at h
    ·cases h
    ·obtain⟨l,h1,h⟩:=zAR h;cases h;have:=zzt n s last t' l h1;simp only[qz3];omega
def zJj{S ρ:Type}(W:S->Option ρ)(o:S⊕ρ):Option ρ:=match o with| .inl s=>W s| .inr e=>some e
theorem zfR{S ρ:Type}(step:S->Option (S⊕ρ))(m:Nat)(s:S):zaI step (m+1) s=(step s).bind (zJj (zaI step m)):=rfl
section
variable {α β γ δ ρ σ:Type} {L0 L:List zy} {no:Bool} {E:Int->ρ->Prop} {O:α->List zy->ρ->Prop} {E':Int->σ->Prop} {O':β->List zy->σ->Prop}
theorem SG.assoc{m:Option ρ}{f:ρ->Option γ}{k:γ->Option σ}{q:PR β}(h:SG L0 E' O' (m.bind λr=>(f r).bind k) q):SG L0 E' O' ((m.bind f).bind k) q:=by
 cases m<;>exact h
theorem SG.loop{S:Type}{step:S->Option (S⊕ρ)}{m:Nat}{s:S}{q:PR α}(h:SG L0 E O (zaI step m s) q)(hm:m<=1000000000000):SG L0 E O (Lp.loop step s) q:=by
 cases q with
 |none=>trivial
 |some p=>
  cases p with
  |inl k=>
   obtain⟨r,e,h⟩:=h;exact⟨r,zdu e hm,h⟩
  |inr p=>
   obtain⟨r,L',e,h⟩:=h;exact⟨r,L',zdu e hm,h⟩
theorem SG.room{k:Nat}{f:Unit->Option σ}{q:PR β}(hk:k<=274877906944)(h:SG L0 E' O' (f ()) q):SG L0 E' O' ((room k).bind f) q:=by
 rw[zd1 hk];exact h
theorem SG.take{f:zy×zh×Unit->Option σ}{q:PR β}(ok:TL L0 L)(hk:zaa (L.map tk)≠0)(h: ∀x,x.Text=tText (L.map tk)->TL L0 L.tail->SG L0 E' O' (f (x,pp L.tail no,())) q):
  SG L0 E' O' ((zaw (pp L no)).bind f) q:=by
 obtain⟨x,_,_,hx,e⟩:=zTX (no:=no) ok hk;rw[e,qz1];exact h x hx (ok.tail hk)
end
structure zwF (L0:List zy) (g:zf) (q:PG):Prop where
 expr: ∀no L,TL L0 L->SG L0 ER (OL no) (g.zax (pp L no)) (q.expr no (L.map tk))
 assign: ∀no L,TL L0 L->SG L0 ER (OL no) (g.zaA (pp L no)) (q.assign no (L.map tk))
 binary: ∀no b L,TL L0 L->b<=100->SG L0 EL (OR no) (g.zcj b (pp L no)) (q.binary no b (L.map tk))
 unary: ∀no L,TL L0 L->SG L0 ER (OL no) (g.zb5 (pp L no)) (q.unary (L.map tk))
 mems: ∀no x c L,TL L0 L->SG L0 EL (OR no) (g.zb4 x c (pp L no)) (q.mems c x (L.map tk))
 made: ∀no L,TL L0 L->SG L0 ER (OL no) (g.zcK (pp L no)) (q.made (L.map tk))
 prim: ∀no L,TL L0 L->SG L0 ER (OL no) (g.zc0 (pp L no)) (q.prim (L.map tk))
 exprs: ∀no s last L,TL L0 L->SG L0 ER (OL no) (g.zbC s last (pp L no)) (q.exprs s last (L.map tk))
 props: ∀no L,TL L0 L->SG L0 EL (λ(l:List Node) L' r=>r= .inr (pp L' no,8,[],0,[],[],l,())) (g.zc2 [125] true (pp L no) 8 [] 0 [] [] []) (q.props (L.map tk))
 func: ∀no k L,TL L0 L->SG L0 EL (OR no) (g.zbY k (pp L no)) (q.func k (L.map tk))
 vars: ∀no L,TL L0 L->SG L0 EL (λl L' r=>r= .inr (nd 22 l,pp L' no,())) (g.zcJ (pp L no)) (q.vars no (L.map tk))
 block: ∀L,TL L0 L->SG L0 EL (OR false) (g.zbF (pp L false)) (q.block (L.map tk))
 head: ∀L,TL L0 L->SG L0 EL (OR false) (g.zbM (pp L false)) (q.head (L.map tk))
 till: ∀s L,TL L0 L->SG L0 ER (OL false) (g.zcS s (pp L false)) (q.till s (L.map tk))
 loop: ∀L,TL L0 L->SG L0 EL (OR false) (g.zdX (pp L false)) (q.loop (L.map tk))
 stmt: ∀L,TL L0 L->SG L0 EL (OR false) (g.zby (pp L false)) (q.stmt (L.map tk))
 stmts: ∀f L,TL L0 L->SG L0 ER (OL false) (g.zbr f [125] (pp L false)) (q.stmts f (L.map tk))
noncomputable abbrev RG:=zl
section
variable {L0 L:List zy} {no:Bool} {n M:Nat} (H: ∀k,k<=n->∀N,20*k+20<=N->zwF L0 (RG N) (pG k)) (hn:n<=10000000000) (hM:20*n+30<=M)
include H hn hM
theorem zK6: ∀(k m:Nat),k<=n->k<=m->∀(x:Node) (L:List zy),TL L0 L->
  SG L0 ER (OL no) (zaI (ze4 (RG M)) m (pp L no,0,([]:Str),0,([]:Str),x,([]:List Str),([]:List zg),())) ((pG k).comma no x (L.map tk))
 |0,m,_,_,x,L,ok=>trivial
 |k+1,0,_,hm,x,L,ok=>by omega
 |k+1,m+1,hk,hm,x,L,ok=>by
  show SG _ _ _ _ (zkN (pG k) no x (L.map tk));have ih:=λx L ok=>zK6 k m (by omega) (by omega) x L ok
  unfold zkN;rw[zfR];generalize zaI (ze4 (RG M)) m=W at ih⊢;unfold ze4;simp only[zV,zq,zga];refine .assoc (.has ok (λh ok'=>?_) λh=>?_)
  ·simp only[yB];rw[<-yM];refine .assoc (.r ((H k (by omega) M (by omega)).assign no _ ok') (λ_ _=>⟨_,rfl,_,rfl⟩) λv L' ok'=>?_);exact ih _ L' ok'
  ·simp only[qz2,yA];exact .gt ok rfl
theorem zUk(ok:TL L0 L):SG L0 ER (OL no) (zhB (RG M) (pp L no)) (zxy (pG n) no (L.map tk)):=by
 unfold zhB zxy;simp only[zV,zq];refine .r ((H n (yJ _) M (by omega)).assign no L ok) (λ_ _=>⟨_,rfl,_,rfl⟩) λv L' ok'=>?_
 exact .loop (zK6 H hn hM n 1000000000000 (yJ _) (by omega) v L' ok') (yJ _)
theorem zLc(least:Int)(hl:least<=100): ∀(k m:Nat),k<=n->k<=m->∀(x:Node) (L:List zy),TL L0 L->
  SG L0 EL (OR no) (zaI (zed (RG M)) m (least,pp L no,0,([]:Str),0,([]:Str),x,([]:List Str),([]:List zg),())) ((pG k).bins no least x (L.map tk))
 |0,m,_,_,x,L,ok=>trivial
 |k+1,0,_,hm,x,L,ok=>by omega
 |k+1,m+1,hk,hm,x,L,ok=>by
  show SG _ _ _ _ (zmY (pG k) no least x (L.map tk));have ih:=λx L ok=>zLc least hl k m (by omega) (by omega) x L ok
  unfold zmY;rw[zfR];generalize zaI (zed (RG M)) m=W at ih⊢;unfold zed;simp only[zV,zq,zga,zMd ok.ok,qz1]
  have hb:(zcQ no (L.map tk)).1<=8/\0<=(zcQ no (L.map tk)).1:=by
   cases L.map tk with
   |nil=>show(0:Int)<=8/\(0:Int)<=0;decide
   |cons a r=>
    show(if opK a=true then lvS no a.text else(0,0)).1<=8/\0<=(if opK a=true then lvS no a.text else(0,0)).1;unfold lvS
    repeat' split
    all_goals decide
  cases hc:(decide ((zcQ no (L.map tk)).1<least)||(zcQ no (L.map tk)).1==0)with
  |true=>
   simp only[yB];exact .gt ok rfl
  |false=>
   simp only[qz2,yA]
   have h0:(zcQ no (L.map tk)).1≠0:=by
    intro e;rw[e]at hc;simp at hc
   refine .assoc (.take ok (zzC h0) λa ha ok'=>?_);have hw:IntKind.wrap .i64 ((zcQ no (L.map tk)).1+1)=(zcQ no (L.map tk)).1+1:=wrap_i64 (by omega) (by omega);rw[<-yM];simp only[hw];refine .assoc (.l ((H k (by omega) M (by omega)).binary no _ _ ok' (by omega)) (λ_ _=>⟨_,rfl,_,rfl⟩) λv L' ok'=>?_);simp only[ha];exact ih _ L' ok'
theorem zOG(b:Int)(hb:b<=100)(ok:TL L0 L):SG L0 EL (OR no) (zf7 (RG M) b (pp L no)) (zol (pG n) no b (L.map tk)):=by
 unfold zf7 zol;simp only[zV,zq];refine .r ((H n (yJ _) M (by omega)).unary no L ok) (λ_ _=>⟨_,rfl,_,rfl⟩) λv L' ok'=>?_
 exact .loop (zLc H hn hM b hb n 1000000000000 (yJ _) (by omega) v L' ok') (yJ _)
end
theorem SG.map{α β ρ:Type}{L0:List zy}{E:Int->ρ->Prop}{O:α->List zy->ρ->Prop}{O':β->List zy->ρ->Prop}{m:Option ρ}{q:PR α}(φ:α->β)(h:SG L0 E O m q)(ho: ∀v L' r,O v L' r->O' (φ v) L' r):
  SG L0 E O' m (q.bd λp=>Go.D08.gt (φ p.1,p.2)):=by
 cases q with
 |none=>trivial
 |some p=>
  cases p with
  |inl k=>exact h
  |inr p=>
   obtain⟨r,L',e1,e2,e3,e4⟩:=h;exact⟨r,L',e1,e2,e3,ho _ _ _ e4⟩
theorem SG.gt'{α ρ:Type}{L0 L:List zy}{E:Int->ρ->Prop}{O:α->List zy->ρ->Prop}{r:ρ}{v:α}{t:zB}(ok:TL L0 L)(ht:L.map tk=t)(h:O v L r):SG L0 E O (some r) (Go.D08.gt (v,t)):=⟨r,L,rfl,ht,ok,h⟩
section
variable {L0 L:List zy} {no:Bool} {n M:Nat} (H: ∀k,k<=n->∀N,20*k+20<=N->zwF L0 (RG N) (pG k)) (hn:n<=10000000000) (hM:20*n+30<=M)
include H hn hM
theorem zOc(ok:TL L0 L):SG L0 ER (λv L' r=>r= .inl (pp L' no,v,[],[],())) ((RG M).zcw (pp L no) 0 [] 0 [] [] []) ((pG n).assign false (L.map tk)):=by
 obtain⟨M,rfl⟩: ∃k,M=k+2:=⟨M -2,by omega⟩
 have h1:SG L0 ER (λv L' r=>r= .inl (pp L' false,v,[],[],())) (zfo (RG M) (pp L false) 0 [] 0 [] [] []) ((pG n).assign false (L.map tk)):=by
  unfold zfo;simp only[zV,zq];exact .rr ((H n (yJ _) M (by omega)).assign false L ok) (λ_ _=>⟨_,rfl,_,rfl⟩) λv L'=>⟨_,rfl,rfl⟩
 show SG _ _ _ (zfb (RG (M+1)) (pp L no) 0 [] 0 [] [] []) _;unfold zfb;simp only[zV,zq];exact h1.same (by rintro a _ ⟨y,rfl⟩;exact⟨_,rfl,_,rfl⟩) (by rintro v L' _ _ rfl;exact⟨_,rfl,rfl⟩)
theorem zQq(ok:TL L0 L):SG L0 ER (λv L' r=>r= .inl (pp L' no,v,[],[],())) ((RG M).zcz (pp L no) 0 [] 0 [] [] []) ((pG n).expr false (L.map tk)):=by
 obtain⟨M,rfl⟩: ∃k,M=k+2:=⟨M -2,by omega⟩
 have h1:SG L0 ER (λv L' r=>r= .inl (pp L' false,v,[],[],())) (zgc (RG M) (pp L false) 0 [] 0 [] [] []) ((pG n).expr false (L.map tk)):=by
  unfold zgc;simp only[zV,zq];exact .rr ((H n (yJ _) M (by omega)).expr false L ok) (λ_ _=>⟨_,rfl,_,rfl⟩) λv L'=>⟨_,rfl,rfl⟩
 show SG _ _ _ (zeT (RG (M+1)) (pp L no) 0 [] 0 [] [] []) _;unfold zeT;simp only[zV,zq];exact h1.same (by rintro a _ ⟨y,rfl⟩;exact⟨_,rfl,_,rfl⟩) (by rintro v L' _ _ rfl;exact⟨_,rfl,rfl⟩)
theorem zQ4(ok:TL L0 L):SG L0 ER (λv L' r=>r= .inl (pp L' no,v,[],[],())) ((RG M).zcv (pp L no) 0 [] 0 [] [] []) ((pG n).expr false (L.map tk)):=by
 obtain⟨M,rfl⟩: ∃k,M=k+2:=⟨M -2,by omega⟩
 have h1:SG L0 ER (λv L' r=>r= .inl (pp L' false,v,[],[],())) (ze8 (RG M) (pp L false) 0 [] 0 [] [] []) ((pG n).expr false (L.map tk)):=by
  unfold ze8;simp only[zV,zq];exact .rr ((H n (yJ _) M (by omega)).expr false L ok) (λ_ _=>⟨_,rfl,_,rfl⟩) λv L'=>⟨_,rfl,rfl⟩
 show SG _ _ _ (ze5 (RG (M+1)) (pp L no) 0 [] 0 [] [] []) _;unfold ze5;simp only[zV,zq];exact h1.same (by rintro a _ ⟨y,rfl⟩;exact⟨_,rfl,_,rfl⟩) (by rintro v L' _ _ rfl;exact⟨_,rfl,rfl⟩)
theorem zM0(ok:TL L0 L):SG L0 ER (OL no) (zf9 (RG M) (pp L no)) (zok (pG n) no (L.map tk)):=by
 have S:=H n (yJ _) M (by omega);unfold zf9 zok;simp only[zV,zq];refine .l (S.binary no 3 L ok (by decide)) (λ_ _=>⟨_,rfl,_,rfl⟩) λv L1 ok1=>?_
 refine .has ok1 (λh ok2=>?_) λh=>?_
 ·simp only[yB];rw[<-yM];refine(zOc H hn hM ok2).gen (by rintro a _ ⟨y,rfl⟩;exact⟨_,rfl,_,rfl⟩) ?_
  rintro y L3 _ _ ok3 rfl;refine .need ok3 (λ_ _=>⟨_,rfl,_,rfl⟩) λL4 ok4=>?_
  exact .r (S.assign no L4 ok4) (λ_ _=>⟨_,rfl,_,rfl⟩) λz L5 ok5=> .gt ok5 rfl
 ·simp only[qz2,yA];refine .among (ws:=zrW) ok1 (by decide+kernel) (by decide+kernel) (by decide) (λh=>?_) λh=>?_
  ·simp only[yO,qz2,yA,yB];refine .target ok1 (λ_ _=>⟨_,rfl,_,rfl⟩) λht=>?_
   refine .take ok1 (zgq h) λa ha ok2=>?_
   rw[<-yM];refine .r (S.assign no _ ok2) (λ_ _=>⟨_,rfl,_,rfl⟩) λz L5 ok5=> .gt ok5 ?_
   simp only[ha];rfl
  ·simp only[yN,yB];exact .gt ok1 rfl
theorem zQc(ok:TL L0 L):SG L0 ER (OL no) (zgE (RG M) (pp L no)) (zha (pG n) (L.map tk)):=by
 have S:=H n (yJ _) M (by omega);unfold zgE zha;simp only[zV,zq,zga];refine .among (ws:=zsF) ok (by decide+kernel) (by decide+kernel) (by decide) (λh=>?_) λh=>?_
 ·simp only[yB];refine .take ok (zgq h) λa ha ok2=>?_
  rw[<-yM];refine .r (S.unary no _ ok2) (λ_ _=>⟨_,rfl,_,rfl⟩) λz L5 ok5=> .gt ok5 ?_
  simp only[ha];rfl
 ·simp only[qz2,yA];refine .among (ws:=zgC) ok (by decide+kernel) (by decide+kernel) (by decide) (λh=>?_) λh=>?_
  ·simp only[yB];refine .take ok (zgq h) λa ha ok2=>?_
   rw[<-yM];refine .r (S.unary no _ ok2) (λ_ _=>⟨_,rfl,_,rfl⟩) λz L5 ok5=>?_
   refine .target ok5 (λ_ _=>⟨_,rfl,_,rfl⟩) λht=> .gt ok5 ?_
   simp only[ha]
  ·simp only[qz2,yA];refine .r (S.made no L ok) (λ_ _=>⟨_,rfl,_,rfl⟩) λx L1 ok1=>?_
   refine .l (S.mems no x true L1 ok1) (λ_ _=>⟨_,rfl,_,rfl⟩) λy L2 ok2=>?_
   simp only;rw[zmo ok2.ok zgC ([32,43,43,32,45,45,32]:Str) (by decide+kernel) (by decide+kernel) (by decide),qz1];obtain⟨a,r,rfl⟩:=ok2.ok.cons;simp only[zdK,qz1];cases h1:zbs zgC ((a::r).map tk)with
   |false=>
    simp only[yN,yB,qz1,Bool.true_or];exact .gt ok2 rfl
   |true=>
    have hf:a.Fresh=ze0 ((a::r).map tk):=rfl;simp only[yO,qz2,yA,qz1,Bool.false_or,hf];cases h2:ze0 ((a::r).map tk)with
    |true=>
     simp only[yB];exact .gt ok2 rfl
    |false=>
     simp only[qz2,yA];refine .target ok2 (λ_ _=>⟨_,rfl,_,rfl⟩) λht=>?_
     refine .take ok2 (zgq h1) λb hb ok3=> .gt' ok3 (by rw[yM]) ?_
     simp only[hb];rfl
theorem zSm(ok:TL L0 L):SG L0 ER (OL no) (zhs (RG M) (pp L no)) (znq (pG n) (L.map tk)):=by
 have S:=H n (yJ _) M (by omega);unfold zhs znq;simp only[zV,zq,zga];refine .has ok (λh ok1=>?_) λh=>?_
 ·simp only[yO,qz2,yA];rw[<-yM];refine .r (S.made no _ ok1) (λ_ _=>⟨_,rfl,_,rfl⟩) λx L1 ok1=>?_
  refine .l (S.mems no x false L1 ok1) (λ_ _=>⟨_,rfl,_,rfl⟩) λy L2 ok2=>?_
  refine .has ok2 (λh ok3=>?_) λh=>?_
  ·simp only[yB];rw[<-yM];refine(S.exprs no _ _ _ ok3).gen (by rintro a _ ⟨y,rfl⟩;exact⟨_,rfl,_,rfl⟩) ?_
   rintro l L4 _ hq ok4 rfl;have:=zzt n _ _ _ _ hq;simp only at this;exact .room (by simp only[qz3,qz6];omega) (.gt ok4 rfl)
  ·simp only[qz2,yA];exact .gt ok2 rfl
 ·simp only[yN,yB];exact .rr (S.prim no L ok) (λ_ _=>⟨_,rfl,_,rfl⟩) λv L'=>⟨_,rfl,rfl⟩
theorem zK3(c:Bool): ∀(k m:Nat),k<=n+1->k<=m->∀(x:Node) (L:List zy),TL L0 L->
  SG L0 EL (OR no) (zaI (zdU (RG M)) m (c,pp L no,x,0,([]:Str),0,([]:Str),([]:List Str),([]:List zg),())) ((pG k).mems c x (L.map tk))
 |0,m,_,_,x,L,ok=>trivial
 |k+1,0,_,hm,x,L,ok=>by omega
 |k+1,m+1,hk,hm,x,L,ok=>by
  have S:=H k (by omega) M (by omega);have hw:=λx L ok=>zK3 c k m (by omega) (by omega) x L ok
  show SG _ _ _ _ (ziA (pG k) c x (L.map tk));unfold ziA;rw[zfR];generalize zaI (zdU (RG M)) m=W at hw⊢;unfold zdU;simp only[zV,zq,zga];refine .assoc (.has ok (λh ok1=>?_) λh=>?_)
  ·simp only[yB];rw[<-yM];obtain⟨a,r,hL⟩:=ok1.ok.cons;rw[hL]at ok1⊢;have k1:=zhA ok1 1;have k2:=zhA ok1 2;rw[show((1:Nat):Int)=1 from rfl]at k1;rw[show((2:Nat):Int)=2 from rfl]at k2;simp only[zdK,qz1,bne,k1,k2];cases h1:zaa ((a::r).map tk)==1 with
   |true=>
    simp only[yO,qz2,yA,qz1,Bool.true_or,yB];refine .assoc (.take ok1 (zbK h1 (by decide)) λb hb ok3=>?_);have:=hw (ndN 11 (tText ((a::r).map tk)) [x]) r ok3;simp only[hb];exact this
   |false=>
    cases h2:zaa ((a::r).map tk)==2 with
    |true=>
     simp only[yO,yN,qz2,yA,yB,qz1,Bool.or_true];refine .assoc (.take ok1 (zbK h2 (by decide)) λb hb ok3=>?_);have:=hw (ndN 11 (tText ((a::r).map tk)) [x]) r ok3;simp only[hb];exact this
    |false=>
     simp only[yN,qz2,yA,yB,qz1,Bool.or_self];exact .assoc (.fail ok1 λa=>⟨_,rfl,_,rfl⟩)
  ·simp only[qz2,yA];refine .assoc (.has ok (λh ok1=>?_) λh=>?_)
   ·simp only[yB];rw[<-yM];refine .assoc ((zQ4 (λj hj=>H j (by omega)) (by omega) (by omega) ok1).gen (by rintro a _ ⟨y,rfl⟩;exact⟨_,rfl,_,rfl⟩) ?_)
    rintro y L3 _ _ ok3 rfl;refine .assoc (.need ok3 (λ_ _=>⟨_,rfl,_,rfl⟩) λL4 ok4=>?_);exact hw _ L4 ok4
   ·simp only[qz2,yA];cases c with
    |false=>
     simp only[Bool.false_and,qz2,yA];exact .gt ok rfl
    |true=>
     simp only[Bool.true_and,yB];refine .assoc (.has ok (λh ok1=>?_) λh=>?_)
     ·simp only[yB];rw[<-yM];refine .assoc ((S.exprs no _ _ _ ok1).gen (by rintro a _ ⟨y,rfl⟩;exact⟨_,rfl,_,rfl⟩) ?_)
      rintro l L4 _ hq ok4 rfl;have:=zzt k _ _ _ _ hq;simp only at this;exact .assoc (.room (by simp only[qz3,qz6];omega) (hw _ L4 ok4))
     ·simp only[qz2,yA];exact .gt ok rfl
theorem zUs(x:Node)(c:Bool)(ok:TL L0 L):SG L0 EL (OR no) (zfU (RG M) x c (pp L no)) (ziA (pG n) c x (L.map tk)):=by
 unfold zfU;simp only[zV,zq];exact .loop (zK3 H hn hM c (n+1) 1000000000000 (yJ _) (by omega) x L ok) (yJ _)
end
theorem zI6{α:Type}(l:List α)(x:α):zT (l++[x]) ((l.length:Nat):Int)=some x:=by rw[zjz];simp
theorem zKA{α:Type}(l:List α)(x y:α):(l++[x]).set ((l.length:Nat):Int).toNat y=l++[y]:=by simp
section
variable {L0 L:List zy} {no:Bool} {n M:Nat} (H: ∀k,k<=n->∀N,20*k+20<=N->zwF L0 (RG N) (pG k)) (hn:n<=10000000000) (hM:20*n+30<=M)
include H hn hM
theorem zNm(l:List Node)(hl:l.length<=20000000000)(ok:TL L0 L):SG L0 ER (λv L' r=>r= .inl (pp L' no,l++[v],())) ((RG M).zcZ (pp L no) l) ((pG n).assign no (L.map tk)):=by
 obtain⟨M,rfl⟩: ∃k,M=k+1:=⟨M -1,by omega⟩
 show SG _ _ _ (zfQ (RG M) (pp L no) l) _;unfold zfQ;simp only[zV,zq,zga];refine .rr ((H n (yJ _) M (by omega)).assign no L ok) (λ_ _=>⟨_,rfl,_,rfl⟩) λv L'=>⟨.inl (pp L' no,l++[v],()),?_,rfl⟩
 simp only[qz3,qz6,Nat.zero_add];rw[zd1 (by omega)];simp only[qz1,zI6,zKA]
theorem zKl(s:Str)(last:Bool): ∀(k m:Nat),k<=n+1->k<=m->∀(l:List Node) (L:List zy),l.length+k<=n+1->TL L0 L->
  SG L0 ER (λ(v:List Node) L' r=>r= .inl (pp L' false,s,l++v,last,())) (zaI (zdo (RG M)) m (pp L false,s,l,last,())) ((pG k).exprs s last (L.map tk))
 |0,m,_,_,l,L,_,ok=>trivial
 |k+1,0,_,hm,l,L,_,ok=>by omega
 |k+1,m+1,hk,hm,l,L,hl,ok=>by
  show SG _ _ _ _ (zgv (pG k) s last (L.map tk));have ih:=λl L hl ok=>zKl s last k m (by omega) (by omega) l L hl ok
  unfold zgv;rw[zfR];generalize zaI (zdo (RG M)) m=W at ih⊢;unfold zdo;simp only[zV];refine .assoc (.has ok (λh ok1=>?_) λh=>?_)
  ·simp only[yO,qz2,yA];exact .gt' ok1 (by rw[yM]) (by simp)
  ·simp only[yN,yB];refine .assoc ((zNm (no:=false) (λj hj=>H j (by omega)) (by omega) (by omega) l (by omega) ok).gen (by rintro a _ ⟨y,rfl⟩;exact⟨_,rfl,_,rfl⟩) ?_)
   rintro x L1 _ _ ok1 rfl;refine .assoc (.has ok1 (λh ok2=>?_) λh=>?_)
   ·simp only[yB];exact .gt' ok2 (by rw[yM]) rfl
   ·simp only[qz2,yA];refine .assoc (.need ok1 (λ_ _=>⟨_,rfl,_,rfl⟩) λL2 ok2=>?_)
    have go: ∀L3,TL L0 L3->SG L0 ER (λ(v:List Node) L' r=>r= .inl (pp L' false,s,l++v,last,())) (W (pp L3 false,s,l++[x],last,())) (((pG k).exprs s last (L3.map tk)).bd λq=>gt (x::q.1,q.2)):=λL3 ok3=>
     (ih (l++[x]) L3 (by rw[qz5];simp only[qz3,qz6];omega) ok3).map (λv=>x::v) (by rintro v L' _ rfl;simp)
    cases last with
    |true=>
     simp only[yO,Bool.false_and,qz2,yA];exact go L2 ok2
    |false=>
     simp only[yN,Bool.true_and,yB];refine .assoc (.is ok2 (λh=>?_) λh=>?_)
     ·simp only[yB];exact .assoc (.fail ok2 λa=>⟨_,rfl,_,rfl⟩)
     ·simp only[qz2,yA];exact go L2 ok2
theorem zQg(h9:20*n+39<=M)(s:Str)(last:Bool)(ok:TL L0 L):SG L0 ER (OL no) (zgD (RG M) s last (pp L no)) (zgv (pG n) s last (L.map tk)):=by
 obtain⟨M,rfl⟩: ∃k,M=k+4:=⟨M -4,by omega⟩
 unfold zgD;show SG _ _ _ ((zeb (RG (M+3)) s last (pp L no) []).bind _) ((pG (n+1)).exprs s last (L.map tk))
 have h1:SG L0 ER (λ(v:List Node) L' r=>r= .inl (pp L' false,s,v,last,())) (zeR (RG (M+1)) (pp L false) s [] last) ((pG (n+1)).exprs s last (L.map tk)):=by
  unfold zeR;simp only[zV];exact .loop (zKl H hn (by omega) s last (n+1) 1000000000000 (yJ _) (by omega) [] L (by simp) ok) (yJ _)
 have h2:SG L0 ER (λ(v:List Node) L' r=>r= .inl (pp L' no,s,v,last,())) (zeQ (RG (M+2)) (pp L no) s [] last) ((pG (n+1)).exprs s last (L.map tk)):=by
  unfold zeQ;simp only[zV];exact h1.same (by rintro a _ ⟨y,rfl⟩;exact⟨_,rfl,_,rfl⟩) (by rintro v L' _ _ rfl;exact⟨_,rfl,rfl⟩)
 have h3:SG L0 ER (λ(v:List Node) L' r=>r= .inl (pp L' no,v,())) (zeb (RG (M+3)) s last (pp L no) []) ((pG (n+1)).exprs s last (L.map tk)):=by
  unfold zeb;simp only[zV];exact h2.same (by rintro a _ ⟨y,rfl⟩;exact⟨_,rfl,_,rfl⟩) (by rintro v L' _ _ rfl;exact⟨_,rfl,rfl⟩)
 exact h3.same (by rintro a _ ⟨y,rfl⟩;exact⟨_,rfl,_,rfl⟩) (by rintro v L' _ _ rfl;exact⟨_,rfl,rfl⟩)
end
end Go.D08
