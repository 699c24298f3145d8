/- Texts for a statement of this seat. -/
import Derived.Test.YtdapbipagjmolaaGreatDoorMa3
set_option linter.unusedSectionVars false
set_option linter.unusedVariables false
set_option linter.unusedSimpArgs false
set_option linter.unnecessarySimpa false
namespace Go.D08.U
open Go Go.Gw Go.Dn Go.Proofs
set_option maxRecDepth 100000
def zaq:Str->List Nat
 |a::b::r=>(a.toNat*256+b.toNat)::zaq r
 |_=>[]
def enc1(n:Nat):Str:=[UInt8.ofNat (n/256),UInt8.ofNat (n%256)]
def zeC(l:List Nat):Str:=l.flatMap enc1
theorem ze8: ∀u:Str,(zaq u).length=u.length/2
 | []=>rfl
 | [_]=>by simp[zaq]
 |a::b::r=>by simp only[zaq,qz3,ze8 r];omega
theorem zmJ: ∀(u:Str) (n:Nat),n∈zaq u->n<65536
 | [],_,h=>by cases h
 | [_],_,h=>by cases h
 |a::b::r,n,h=>by
  simp only[zaq,yP]at h
  rcases h with h|h
  ·have:=a.toNat_lt;have:=b.toNat_lt;omega
  ·exact zmJ r n h
theorem zou(l:List Nat):(zeC l).length=2*l.length:=by
 induction l with
 |nil=>rfl
 |cons n l ih=>unfold zeC at ih⊢;rw[List.flatMap_cons,qz5,ih];simp[enc1];omega
theorem zqd: ∀(u:Str) (i:Nat),i<u.length/2->∃a b,u[2*i]? =some a/\u[2*i+1]? =some b/\(zaq u)[i]? =some (a.toNat*256+b.toNat)
 | [],i,h=>by simp at h
 | [_],i,h=>by simp at h
 |a::b::r,0,_=>⟨a,b,rfl,rfl,rfl⟩
 |a::b::r,i+1,h=>by
  obtain⟨x,y,h1,h2,h3⟩:=zqd r i (by simp only[qz3]at h;omega)
  refine⟨x,y,?_,?_,?_⟩
  ·have:2*(i+1)=2*i+1+1:=by omega
   rw[this];simpa using h1
  ·have:2*(i+1)+1=2*i+1+1+1:=by omega
   rw[this];simpa using h2
  ·simpa [zaq]using h3
def zaW(k:Nat):UInt8:=if k<10 then UInt8.ofNat (48+k)else UInt8.ofNat (87+k)
def zdo(n:Nat):Str:=
 if n=34 then[92,34]else if n=92 then[92,92]else if n=8 then[92,98]else if n=9 then[92,116]else if n=10 then[92,110]else if n=12 then[92,102]else if n=13 then[92,114]
 else if n<32\/n>126 then[92,117,zaW (n/4096),zaW (n/256%16),zaW (n/16%16),zaW (n%16)]else[UInt8.ofNat n]
def zaP(l:List Nat):Str:=l.flatMap zdo
theorem zpL(n:Nat):(zdo n).length<=6:=by
 unfold zdo;split<;>(try split)<;>(try split)<;>(try split)<;>(try split)<;>(try split)<;>(try split)<;>(try split)<;>simp
theorem zlV(l:List Nat):(zaP l).length<=6*l.length:=by
 induction l with
 |nil=>simp[zaP]
 |cons n l ih=>unfold zaP at ih⊢;rw[List.flatMap_cons,qz5];have:=zpL n;simp only[qz3];omega
theorem zA8(l:List Nat)(n:Nat):zaP (l++[n])=zaP l++zdo n:=by simp[zaP]
def hexV(b:UInt8):Option Nat:=
 if 48<=b.toNat/\b.toNat<=57 then some (b.toNat -48)else if 97<=b.toNat/\b.toNat<=102 then some (b.toNat -87)else if 65<=b.toNat/\b.toNat<=70 then some (b.toNat -55)else none
def hexN:Nat->Str->Nat->Option Nat
 |0,_,a=>some a
 |_+1,[],_=>none
 |k+1,b::r,a=>match hexV b with
  |none=>none
  |some d=>hexN k r (16*a+d)
theorem zKd{b:UInt8}{d:Nat}(h:hexV b=some d):d<16:=by
 unfold hexV at h
 split at h
 ·simp only[Option.some.injEq]at h;omega
 ·split at h
  ·simp only[Option.some.injEq]at h;omega
  ·split at h
   ·simp only[Option.some.injEq]at h;omega
   ·cases h
theorem zvv: ∀(k:Nat) (s:Str) (a n:Nat),hexN k s a=some n->n<16^k*(a+1)
 |0,s,a,n,h=>by simp only[hexN,Option.some.injEq]at h;omega
 |k+1,[],a,n,h=>by cases h
 |k+1,b::r,a,n,h=>by
  simp only[hexN]at h
  cases hv:hexV b with
  |none=>rw[hv]at h;cases h
  |some d=>
   rw[hv]at h
   have h1:=zvv k r _ n h
   have h2:=zKd hv
   have h3:16^k*(16*a+d+1)<=16^k*(16*(a+1)):=Nat.mul_le_mul_left _ (by omega)
   have h4:16^(k+1)*(a+1)=16^k*(16*(a+1)):=by rw[Nat.pow_succ,Nat.mul_assoc]
   omega
def zmI(b:UInt8):Option Nat:=
 if b=110 then some 10 else if b=116 then some 9 else if b=114 then some 13 else if b=98 then some 8 else if b=102 then some 12 else if b=118 then some 11
 else if b.toNat>127\/b=13\/b=120\/b=117\/(48<=b.toNat/\b.toNat<=57)\/b=10 then none else some b.toNat
def zq9:Str->Option (List Nat×Nat)
 | []=>none
 |c::r=>
  if c=10 then some ([],1)
  else if c=48 then(match r with
   | []=>some ([0],1)
   |d::_=>if 48<=d.toNat/\d.toNat<=57 then none else some ([0],1))
  else if c=120 then(hexN 2 r 0).map λn=>([n],3)
  else if c=117 then(hexN 4 r 0).map λn=>([n],5)
  else(zmI c).map λn=>([n],1)
theorem zwL: ∀(k:Nat) (s:Str) (a n:Nat),hexN k s a=some n->k<=s.length
 |0,s,a,n,h=>by omega
 |k+1,[],a,n,h=>by cases h
 |k+1,b::r,a,n,h=>by
  simp only[hexN]at h
  cases hv:hexV b with
  |none=>rw[hv]at h;cases h
  |some d=>rw[hv]at h;have:=zwL k r _ n h;simp only[qz3];omega
theorem zMA{b:UInt8}{n:Nat}(h:zmI b=some n):n<256:=by
 have hb:=b.toNat_lt
 unfold zmI at h
 repeat' split at h
 all_goals first| (cases h;done)| (simp only[Option.some.injEq]at h;omega)
theorem zOo{s:Str}{us:List Nat}{k:Nat}(h:zq9 s=some (us,k)):(∀n∈us,n<65536)/\us.length<=1/\1<=k/\k<=s.length:=by
 cases s with
 |nil=>cases h
 |cons c r=>
  simp only[zq9]at h
  by_cases h1:c=10
  ·rw[yL h1]at h;cases h;simp
  ·rw[yK h1]at h
   by_cases h2:c=48
   ·rw[yL h2]at h
    cases r with
    |nil=>cases h;simp
    |cons d r=>
     simp only at h
     split at h
     ·cases h
     ·cases h;simp
   ·rw[yK h2]at h
    by_cases h3:c=120
    ·rw[yL h3]at h
     cases hn:hexN 2 r 0 with
     |none=>rw[hn]at h;cases h
     |some n=>
      rw[hn]at h;cases h
      have:=zvv _ _ _ _ hn;have:=zwL _ _ _ _ hn
      simp;omega
    ·rw[yK h3]at h
     by_cases h4:c=117
     ·rw[yL h4]at h
      cases hn:hexN 4 r 0 with
      |none=>rw[hn]at h;cases h
      |some n=>
       rw[hn]at h;cases h
       have:=zvv _ _ _ _ hn;have:=zwL _ _ _ _ hn
       simp;omega
     ·rw[yK h4]at h
      cases hn:zmI c with
      |none=>rw[hn]at h;cases h
      |some n=>
       rw[hn]at h;cases h
       have:=zMA hn
       simp;omega
/-! ### the program's digits -/
theorem zlv{α:Type}(p:α->Bool): ∀l:List α,l.dropWhile p=[]↔∀x∈l,p x=true
 | []=>by simp
 |a::l=>by
  cases h:p a with
  |true=>rw[List.dropWhile_cons_of_pos h,zlv p l];simp[h]
  |false=>
   rw[List.dropWhile_cons_of_neg (by simp[h])]
   simp[h]
theorem zvH{α:Type}(p:α->Bool): ∀(l:List α) (b:α) (r:List α),l.dropWhile p=b::r->p b=false
 | [],b,r,h=>by cases h
 |a::l,b,r,h=>by
  cases hp:p a with
  |true=>rw[List.dropWhile_cons_of_pos hp]at h;exact zvH p l b r h
  |false=>
   rw[List.dropWhile_cons_of_neg (by simp[hp])]at h
   cases h;exact hp
theorem zNO(l cs:Str):(Lib.trimS l cs==([]:Str))=l.all (cs.contains ·):=by
 unfold Lib.trimS Lib.trimLeftS Lib.trimRightS
 rw[Bool.eq_iff_iff]
 rw[beq_iff_eq,zlv,List.all_eq_true]
 constructor
 ·intro h
  rcases hd:l.reverse.dropWhile (cs.contains ·)with _| ⟨b,r⟩
  ·rw[zlv]at hd
   intro x hx;exact hd x (by simpa using hx)
  ·exfalso
   have h1:=zvH _ _ _ _ hd
   have h2:=h b (by rw[hd];simp)
   rw[h1]at h2;cases h2
 ·intro h x hx
  have:=(List.dropWhile_suffix (cs.contains ·) (l:=l.reverse)).subset (by simpa using hx)
  exact h x (by simpa using this)
def zGg:Str:=[48,49,50,51,52,53,54,55,56,57,97,98,99,100,101,102,65,66,67,68,69,70]
theorem zOq: ∀b:Fin 256,zGg.contains (UInt8.ofNat b.val)=(hexV (UInt8.ofNat b.val)).isSome:=by decide+kernel
theorem zU1(b:UInt8): ∃k:Fin 256,b=UInt8.ofNat k.val:=⟨⟨b.toNat,b.toNat_lt⟩,by simp⟩
theorem zHJ(b:UInt8):zGg.contains b=(hexV b).isSome:=by
 obtain⟨k,rfl⟩:=zU1 b;exact zOq k
theorem zBa: ∀(s:Str) (a:Nat),(hexN s.length s a).isSome=s.all (zGg.contains ·)
 | [],a=>rfl
 |b::r,a=>by
  simp only[qz3,hexN,List.all_cons,zHJ]
  cases hv:hexV b with
  |none=>simp
  |some d=>
   simp only[Option.isSome_some,Bool.true_and]
   rw[zBa r]
   congr 1;funext x;exact zHJ x
theorem zzQ: ∀(k:Nat) (s:Str) (a:Nat),k<=s.length->hexN k (s.take k) a=hexN k s a
 |0,s,a,_=>rfl
 |k+1,[],a,h=>by simp at h
 |k+1,b::r,a,h=>by
  simp only[List.take_succ_cons,hexN]
  cases hexV b with
  |none=>rfl
  |some d=>simp only;exact zzQ k r _ (by simpa using h)
def zhs(q:UInt8):Nat->Str->List Nat->Option (List Nat×Nat)
 |0,_,_=>none
 |_+1,[],_=>none
 |m+1,c::r,acc=>
  if c=q then some (acc,r.length)
  else if c=10\/c=13\/c.toNat>127 then none
  else if c=92 then(match zq9 r with
   |none=>none
   |some (us,k)=>zhs q m (r.drop k) (acc++us))
  else zhs q m r (acc++[c.toNat])
def zfJ(s:Str):Str×Int×Int:=
 match s with
 | []=>([],0,10)
 |q::r=>if q=39\/q=34 then(match zhs q (r.length+1) r []with
   |none=>([],0,10)
   |some (us,k)=>(zeC us,((s.length -k:Nat):Int),0))else([],0,10)
theorem zs5(b:UInt8)(n:Nat)(h:n<256):b=UInt8.ofNat n↔b.toNat=n:=by
 constructor
 ·intro e;subst e;simp[UInt8.toNat_ofNat'];omega
 ·intro e;apply UInt8.toNat_inj.mp;simp[UInt8.toNat_ofNat'];omega
theorem zow(a b:Nat):(((a:Nat):Int)==((b:Nat):Int))=decide (a=b):=by
 by_cases h:a=b
 ·simp[h]
 ·simp[h];omega
def okU(l:List Nat):Prop:=∀n∈l,n<65536
def zuo(q:UInt8)(s:Str)(m:Nat)(rest:Str)(acc:List Nat):Str×Int×Int:=match zhs q m rest acc with
 |none=>([],0,10)
 |some (us,k)=>(zeC us,((s.length -k:Nat):Int),0)
theorem zNI(c:UInt8)(n:Nat)(h:n<256):(((c.toNat:Nat):Int) !=((n:Nat):Int))= !decide (c=UInt8.ofNat n):=by
 simp only[bne,zow]
 congr 1
 rw[decide_eq_decide]
 exact(zs5 c n h).symm
theorem ztc: ∀k:Fin 16,hexV (zaW k.val)=some k.val:=by decide
theorem zOt(n:Nat)(hn:n<65536)(r:Str):hexN 4 (zaW (n/4096)::zaW (n/256%16)::zaW (n/16%16)::zaW (n%16)::r) 0=some n:=by
 have h1:=ztc ⟨n/4096,by omega⟩
 have h2:=ztc ⟨n/256%16,by omega⟩
 have h3:=ztc ⟨n/16%16,by omega⟩
 have h4:=ztc ⟨n%16,by omega⟩
 simp only at h1 h2 h3 h4
 simp only[hexN,h1,h2,h3,h4]
 congr 1;omega
theorem zGq(m n:Nat)(hn:n<65536)(r:Str)(acc:List Nat):zhs 34 (m+1) (zdo n++r) acc=zhs 34 m r (acc++[n]):=by
 unfold zdo
 by_cases h34:n=34
 ·subst h34;rfl
 by_cases h92:n=92
 ·subst h92;rfl
 by_cases h8:n=8
 ·subst h8;rfl
 by_cases h9:n=9
 ·subst h9;rfl
 by_cases h10:n=10
 ·subst h10;rfl
 by_cases h12:n=12
 ·subst h12;rfl
 by_cases h13:n=13
 ·subst h13;rfl
 simp only[h34,h92,h8,h9,h10,h12,h13,yA]
 by_cases hx:n<32\/n>126
 ·simp only[hx,yB,yI,List.nil_append]
  have he:zq9 (117::zaW (n/4096)::zaW (n/256%16)::zaW (n/16%16)::zaW (n%16)::r)=some ([n],5):=by
   simp only[zq9]
   rw[yK (by decide),yK (by decide),yK (by decide),yL trivial,zOt n hn r]
   rfl
  conv=>lhs;unfold zhs
  rw[yK (by decide),yK (by decide),yL rfl,he]
  rfl
 ·simp only[hx,yA,yI,List.nil_append]
  have e:(UInt8.ofNat n).toNat=n:=by simp[UInt8.toNat_ofNat'];omega
  have ne: ∀k:Nat,k<256->n≠k->UInt8.ofNat n≠UInt8.ofNat k:=by
   intro k hk h1 h2
   have h3:=congrArg UInt8.toNat h2
   rw[e]at h3
   have e2:(UInt8.ofNat k).toNat=k:=by simp[UInt8.toNat_ofNat'];omega
   rw[e2]at h3;exact h1 h3
  conv=>lhs;unfold zhs
  have n34: ¬UInt8.ofNat n=34:=ne 34 (by omega) h34
  have n10: ¬UInt8.ofNat n=10:=ne 10 (by omega) h10
  have n13: ¬UInt8.ofNat n=13:=ne 13 (by omega) h13
  have n92: ¬UInt8.ofNat n=92:=ne 92 (by omega) h92
  have n127: ¬(UInt8.ofNat n).toNat>127:=by rw[e];omega
  rw[yK n34,yK (by rintro(h|h|h);exact n10 h;exact n13 h;exact n127 h),yK n92,e]
theorem zIE(behind:Str): ∀(l acc:List Nat) (m:Nat),okU l->l.length<m->zhs 34 m (zaP l++34::behind) acc=some (acc++l,behind.length):=by
 intro l
 induction l with
 |nil=>
  intro acc m h1 h2
  obtain⟨m,rfl⟩: ∃k,m=k+1:=⟨m -1,by simp at h2;omega⟩
  simp only[zaP,List.flatMap_nil,List.nil_append,List.append_nil]
  unfold zhs
  rw[yL rfl]
 |cons n l ih=>
  intro acc m h1 h2
  obtain⟨m,rfl⟩: ∃k,m=k+1:=⟨m -1,by simp at h2;omega⟩
  have e:zaP (n::l)++34::behind=zdo n++(zaP l++34::behind):=by simp[zaP]
  rw[e,zGq m n (h1 n qz7),ih _ m (λk hk=>h1 k (qz8 _ hk)) (by simp only[qz3]at h2;omega)]
  simp
theorem zLO(n:Nat):1<=(zdo n).length:=by
 unfold zdo;repeat' split
 all_goals simp
theorem zB7: ∀l:List Nat,l.length<=(zaP l).length
 | []=>by simp
 |n::l=>by
  have:=zB7 l
  have h1:=zLO n
  have e:zaP (n::l)=zdo n++zaP l:=by simp[zaP]
  rw[e,qz5,qz3];omega
end Go.D08.U
namespace Go.D08.U
open Go Go.Gw Go.Dn Go.Proofs
set_option maxRecDepth 100000
open Go.Proofs
/-! ### numbers, signs, tokens -/
def zec(base:Nat):Str->Nat->Option Nat
 | [],a=>some a
 |c::r,a=>match hexV c with
  |none=>none
  |some d=>if d<base then zec base r (a*base+d)else none
def zBh(ds:Str):Option Nat:=
 if 2<ds.length/\(ds.take 2=[48,120]\/ds.take 2=[48,88])then zec 16 (ds.drop 2) 0
 else if 1<ds.length/\ds.head?=some 48 then none
 else zec 10 ds 0
def zrz(s:Str):Option (Nat×Nat):=
 if s[zbz s]? =some 46 then none
 else match zBh (s.take (zbz s))with
  |none=>none
  |some n=>if n<=9007199254740991 then some (n,zbz s)else none
def zoB:List Str:=[[61,61,61],[33,61,61]]
def zqJ:List Str:=[[60,61],[62,61],[61,61],[33,61],[43,43],[45,45],[38,38],[124,124],[43,61],[45,61],[42,61],[47,61],[37,61]]
def zAn:Str:=[123,125,40,41,91,93,46,59,44,60,62,43,45,42,47,37,33,63,58,61]
def zdv(s:Str):Nat:=
 if 2<s.length/\zoB.contains (s.take 3)=true then 3
 else if 1<s.length/\zqJ.contains (s.take 2)=true then 2
 else if zAn.contains (s.headD 0)then 1 else 0
def zMM:List Str:=[[98,114,101,97,107],[99,97,115,101],[99,97,116,99,104],[99,108,97,115,115],[99,111,110,115,116],[99,111,110,116,105,110,117,101],[100,101,98,117,103,103,101,114],[100,101,102,97,117,108,116],[100,101,108,101,116,101],[100,111],[101,108,115,101],[101,110,117,109],[101,120,112,111,114,116],[101,120,116,101,110,100,115],[102,97,108,115,101],[102,105,110,97,108,108,121],[102,111,114],[102,117,110,99,116,105,111,110],[105,102],[105,109,112,108,101,109,101,110,116,115],[105,109,112,111,114,116],[105,110],[105,110,115,116,97,110,99,101,111,102],[105,110,116,101,114,102,97,99,101],[108,101,116],[110,101,119],[110,117,108,108],[112,97,99,107,97,103,101],[112,114,105,118,97,116,101],[112,114,111,116,101,99,116,101,100],[112,117,98,108,105,99],[114,101,116,117,114,110],[115,116,97,116,105,99],[115,117,112,101,114],[115,119,105,116,99,104],[116,104,105,115],[116,104,114,111,119],[116,114,117,101],[116,114,121],[116,121,112,101,111,102],[118,97,114],[118,111,105,100],[119,104,105,108,101],[119,105,116,104],[121,105,101,108,100]]
def zlc(s:Str):Bool:=zMM.contains s
abbrev Tok:=zu
def zjs(s:Str):Option (Tok×Nat):=
 match s with
 | []=>none
 |c::_=>
  if isLet c=true then
    if 32<zbz s then none else some ({Kind:=if zlc (s.take (zbz s))=true then 2 else 1,Text:=s.take (zbz s),Num:=0,At:=0,Fresh:=false},zbz s)
  else if zfO c=true then(zrz s).map λp=>({Kind:=3,Text:=[],Num:=(p.1:Int),At:=0,Fresh:=false},p.2)
  else if c=39\/c=34 then
    (match zfJ s with
    | (u,n,_)=>if n=0 then none else some ({Kind:=4,Text:=u,Num:=0,At:=0,Fresh:=false},n.toNat))
  else if zdv s=0 then none else some ({Kind:=5,Text:=s.take (zdv s),Num:=0,At:=0,Fresh:=false},zdv s)
def zQa(f:Bool):Tok:={Kind:=0,Text:=[],Num:=0,At:=0,Fresh:=f}
def Tok.fresh(t:Tok)(f:Bool):Tok:={t with Fresh:=f}
def Tok.at_(t:Tok)(n:Int):Tok:={t with At:=n}
def zjY:Nat->Str->Bool->List (Tok×Nat)⊕Nat
 |0,_,_=> .inr 0
 |m+1,s,f=>match zcJ (s.length+1) s f with
  | (r,f',ok)=>
    if ok=false then .inr r.length
    else if r=[]then .inl [(zQa f',0)]
    else match zjs r with
      |none=> .inr r.length
      |some (t,n)=>match zjY m (r.drop n) false with
        | .inl l=> .inl ((t.fresh f',r.length)::l)
        | .inr k=> .inr k
def zk1(len:Nat)(l:List (Tok×Nat)):List Tok:=l.map λp=>p.1.at_ ((len -p.2:Nat):Int)
def zjU(s:Str):List Tok×Int×Int:=
 if 4096<s.length then([],0,2)
 else match zjY (s.length+1) s false with
  | .inl l=>(zk1 s.length l,0,0)
  | .inr k=>([],((s.length -k:Nat):Int),60)
/-! ### how much a token takes -/
theorem zPW{s:Str}{n k:Nat}(h:zrz s=some (n,k)):k=zbz s:=by
 unfold zrz at h
 split at h
 ·cases h
 ·split at h
  · cases h
  · split at h
    · cases h;rfl
    · cases h
theorem zEz{s:Str}{u:Str}{n e:Int}(h:zfJ s=(u,n,e)):0<=n/\n<=(s.length:Int):=by
 unfold zfJ at h
 split at h
 ·cases h;simp
 ·rename_i q r
  split at h
  · split at h
    · cases h;constructor<;>omega
    · cases h;constructor<;>omega
  · cases h;constructor<;>omega
theorem zGP(c:UInt8)(r:Str):zdv (c::r)<=(c::r).length:=by
 unfold zdv
 split
 ·rename_i h;simp only[qz3]at h⊢;omega
 ·split
  · rename_i h;simp only[qz3]at h⊢;omega
  · split<;>simp
theorem zoc{s:Str}{t:Tok}{n:Nat}(h:zjs s=some (t,n)):1<=n/\n<=s.length/\1<=t.Kind/\t.Kind<=5/\t.At=0/\t.Fresh=false:=by
 unfold zjs at h
 split at h
 ·cases h
 ·rename_i c r
  have hrow:=zqU (c::r)
  have hr1:zfY c=true->1<=zbz (c::r):=λe=>by rw[zkA,yL e];omega
  split at h
  · rename_i hl
    split at h
    · cases h
    · cases h
      have:=hr1 (by simp[zfY,hl])
      refine⟨this,hrow,?_,?_,rfl,rfl⟩<;>(simp only;split<;>decide)
  · split at h
    · rename_i hd
      cases hn:zrz (c::r)with
      |none=>rw[hn]at h;cases h
      |some p=>
        obtain⟨m,k⟩:=p
        rw[hn]at h
        cases h
        have hk:=zPW hn
        subst hk
        exact⟨hr1 (by simp[zfY,hd]),hrow,Int.le_of_lt_add_one (by dsimp only;omega),by dsimp only;omega,rfl,rfl⟩
    · split at h
      · obtain⟨u,n',e⟩:Str×Int×Int:=zfJ (c::r)
        generalize hq:zfJ (c::r)=q at h
        obtain⟨u,n',e⟩:=q
        have:=zEz hq
        simp only at h
        split at h
        ·cases h
        ·cases h
         refine⟨by omega,by omega,Int.le_of_lt_add_one (by dsimp only;omega),by dsimp only;omega,rfl,rfl⟩
      · split at h
        ·cases h
        ·cases h
         exact⟨by omega,zGP c r,Int.le_of_lt_add_one (by dsimp only;omega),by dsimp only;omega,rfl,rfl⟩
/-! ### a token -/
/-! ### the whole -/
theorem zFl: ∀(m m':Nat) (s:Str) (f:Bool),s.length<m->s.length<m'->zjY m s f=zjY m' s f
 |0,_,s,f,h,_=>by omega
 |_+1,0,s,f,_,h=>by omega
 |m+1,m'+1,s,f,h,h'=>by
  unfold zjY
  have hb:=zfH (s.length+1) s f
  generalize hq:zcJ (s.length+1) s f=q at hb
  obtain⟨r,f',ok⟩:=q
  simp only at hb⊢
  split
  ·rfl
  ·split
   ·rfl
   ·cases ho:zjs r with
    |none=>rfl
    |some p=>
     obtain⟨t,n⟩:=p
     have hl:=zoc ho
     simp only
     rw[zFl m m' (r.drop n) false (by simp only[List.length_drop];omega) (by simp only[List.length_drop];omega)]
theorem zNp{m m':Nat}{s s':Str}{f f':Bool}(h:s.length<m)(h':s'.length<m')(he:zcJ (s.length+1) s f=zcJ (s'.length+1) s' f'):zjY m s f=zjY m' s' f':=by
 cases m with
 |zero=>omega
 |succ m=>
  cases m' with
  |zero=>omega
  |succ m'=>
   have hb:=zfH (s.length+1) s f
   have hb':=zfH (s'.length+1) s' f'
   unfold zjY
   rw[he]at hb⊢
   generalize hq:zcJ (s'.length+1) s' f'=q at hb hb'
   obtain⟨r,f2,ok⟩:=q
   simp only at hb hb'⊢
   split
   ·rfl
   ·split
    ·rfl
    ·cases ho:zjs r with
     |none=>rfl
     |some p=>
      obtain⟨t,n⟩:=p
      have hl:=zoc ho
      simp only
      rw[zFl m m' (r.drop n) false (by simp only[List.length_drop];omega) (by simp only[List.length_drop];omega)]
end Go.D08.U
namespace Go.D08.U
open Go Go.Gw Go.Dn Go.Proofs
set_option maxRecDepth 100000
/-! ### blanks -/
theorem zui: ∀s:Str,(s.any zdS=false/\Lib.indexAny s [10,13]= -1/\s.dropWhile (λx=> !zdS x)=[])\/∃i:Nat,Lib.indexAny s [10,13]=(i:Int)/\i<=s.length/\s.any zdS=true/\s.drop i=s.dropWhile (λx=> !zdS x)/\(s.take i).any zdS=false
 | []=> .inl ⟨rfl,rfl,rfl⟩
 |b::l=>by
  rw[Lib.indexAny]
  cases h:([10,13]:Str).contains b with
  |true=>
   have hb:zdS b=true:=h
   refine .inr ⟨0,?_,by omega,by simp[hb],?_,rfl⟩
   ·simp
   ·simp[hb]
  |false=>
   have hb:zdS b=false:=h
   rcases zui l with⟨h1,h2,h3⟩| ⟨i,h1,h2,h3,h4,h5⟩
   ·refine .inl ⟨by simp only[List.any_cons,hb,h1,Bool.or_self],?_,by rw[List.dropWhile_cons,yL (by simp[hb])];exact h3⟩
    rw[h2];rfl
   ·refine .inr ⟨i+1,?_,by simp;omega,by simp only[List.any_cons,h3,Bool.or_true],by rw[List.dropWhile_cons,yL (by simp[hb]),List.drop_succ_cons];exact h4,by simp only[List.take_succ_cons,List.any_cons,hb,h5,Bool.or_self]⟩
    rw[h1]
    have c:(((i:Nat):Int)== -1)=false:=by rw[yH];omega
    simp only[c,qz2,yA];rfl
theorem zD7(s:Str):Lib.containsAny s [10,13]=s.any zdS:=by
 unfold Lib.containsAny
 rcases zui s with⟨h1,h2,_⟩| ⟨i,h1,_,h3,_⟩
 ·rw[h1,h2];rfl
 ·rw[h1,h3];simp
theorem zEy: ∀(s:Str) (n:Nat),zok s=some n->∃t,s.drop n=42::47::t
 | [],n,h=>by cases h
 |c::r,n,h=>by
  rw[zok]at h
  split at h
  ·rename_i hp
   simp only[Option.some.injEq]at h
   subst h
   cases r with
   |nil=>simp[List.isPrefixOf]at hp
   |cons d r=>
    simp only[List.isPrefixOf,Bool.and_true,qz4,beq_iff_eq]at hp
    obtain⟨rfl,rfl⟩:=hp
    exact⟨r,rfl⟩
  ·cases he:zok r with
   |none=>rw[he]at h;cases h
   |some k=>
    rw[he]at h
    simp only[Option.map_some,Option.some.injEq]at h
    subst h
    exact zEy r k he
theorem zLA(r:Str)(n:Nat)(h:zok r=some n):((47::42::r).take (n+4)).any zdS=(r.take n).any zdS:=by
 obtain⟨t,ht⟩:=zEy r n h
 have e:r.take (n+2)=r.take n++[42,47]:=by
  have h2:r.take (n+2)=r.take n++(r.drop n).take 2:=by rw[List.take_add]
  rw[h2,ht];rfl
 have e2:(47::42::r).take (n+4)=47::42::r.take (n+2):=rfl
 rw[e2,e]
 have c1:zdS 47=false:=by decide
 have c2:zdS 42=false:=by decide
 simp only[List.any_cons,List.any_append,List.any_nil,c1,c2,Bool.false_or,Bool.or_false]
theorem zNc: ∀b:Fin 256,zdS (UInt8.ofNat b.val)=false->¬(UInt8.ofNat b.val=32\/UInt8.ofNat b.val=9\/UInt8.ofNat b.val=11\/UInt8.ofNat b.val=12)->b.val≠32/\(b.val<9\/13<b.val):=by decide+kernel
def okN(o:Nat)(t:Str)(a:Nat):Option Nat:=match zec o t a with
 |none=>none
 |some n=>if n<=9007199254740991 then some n else none
theorem zGZ{o:Nat}(ho:1<=o): ∀(t:Str) (a n:Nat),zec o t a=some n->a<=n
 | [],a,n,h=>by cases h;exact yJ _
 |c::r,a,n,h=>by
  simp only[zec]at h
  split at h
  ·cases h
  ·rename_i d _
   split at h
   ·have:=zGZ ho r _ n h
    have h2:a*1<=a*o:=Nat.mul_le_mul_left a ho
    omega
   ·cases h
def zik(b:Nat):Nat:=(BitVec.ofNat 8 b|||32#8).toNat
theorem zNo: ∀b:Fin 256,zbw ((b.val:Nat):Int)=some (((zik b.val:Nat):Int),()):=by decide+kernel
theorem zOg(c:UInt8):zbw ((c.toNat:Nat):Int)=some (((zik c.toNat:Nat):Int),()):=zNo ⟨c.toNat,c.toNat_lt⟩
theorem zOF: ∀b:Fin 256,(48<=b.val/\b.val<=57->hexV (UInt8.ofNat b.val)=some (b.val -48))/\(¬(48<=b.val/\b.val<=57)->97<=zik b.val->zik b.val<=122->hexV (UInt8.ofNat b.val)=if zik b.val -87<16 then some (zik b.val -87)else none)/\(¬(48<=b.val/\b.val<=57)->¬(97<=zik b.val/\zik b.val<=122)->hexV (UInt8.ofNat b.val)=none):=by decide+kernel
theorem zB2{o:Nat}: ∀(t:Str) (a n:Nat),zec o t a=some n->t.contains 95=false
 | [],_,_,_=>rfl
 |c::r,a,n,h=>by
  simp only[zec]at h
  split at h
  ·cases h
  ·rename_i d hd
   split at h
   ·rw[List.contains_cons,zB2 r _ _ h,Bool.or_false,yH]
    intro e
    subst e
    have:hexV 95=none:=by decide
    rw[this]at hd;cases hd
   ·cases h
end Go.D08.U
namespace Go.D08
open Go Go.Gw Go.Dn
instance lpI:Lp:=lpN 1000000000000
theorem zdu{S E:Type}{step:S->Option (S⊕E)}{n:Nat}{s:S}{e:E}(h:zaF step n s=some e)(hn:n<=1000000000000):Lp.loop step s=some e:=
 zqp _ h hn
theorem zbT{S E:Type}{step:S->Option (S⊕E)}{n:Nat}{s s':S}(h:step s=some (.inl s')):zaF step (n+1) s=zaF step n s':=by simp only[zaF,h,qz1]
theorem zaJ{S E:Type}{step:S->Option (S⊕E)}{n:Nat}{s:S}{e:E}(h:step s=some (.inr e)):zaF step (n+1) s=some e:=by simp only[zaF,h,qz1]
abbrev Node:=zg
mutual
def zW:Node->Nat
 | ⟨_,_,_,_,_,l⟩=>za7 l+1
def za7:List Node->Nat
 | []=>0
 |x::r=>max (zW x) (za7 r)
end
mutual
def zjj:Node->Nat
 | ⟨_,_,_,_,_,l⟩=>zlY l+1
def zlY:List Node->Nat
 | []=>0
 |x::r=>zjj x+zlY r
end
mutual
def zqx:Node->Node->Bool
 | ⟨k,n,m,t,ns,l⟩,⟨k',n',m',t',ns',l'⟩=>(k==k'&&n==n'&&m==m'&&t==t'&&ns==ns')&&zdY l l'
def zdY:List Node->List Node->Bool
 | [],[]=>true
 |x::r,y::r'=>zqx x y&&zdY r r'
 |_,_=>false
end
theorem zaR(x:Node):zW x=za7 x.L+1:=by cases x;simp[zW]
theorem zxk(x:Node):zjj x=zlY x.L+1:=by cases x;simp[zjj]
theorem znp(x:Node)(r:List Node):za7 (x::r)=max (zW x) (za7 r):=by simp[za7]
mutual
theorem zo5: ∀x:Node,zW x<=zjj x
 | ⟨_,_,_,_,_,l⟩=>by simp only[zW,zjj];have:=zv6 l;omega
theorem zv6: ∀l:List Node,za7 l<=zlY l
 | []=>by simp[za7]
 |x::r=>by simp only[za7,zlY];have:=zo5 x;have:=zv6 r;omega
end
theorem zzN: ∀l:List Node,l.length<=zlY l
 | []=>by simp
 |x::r=>by simp only[zlY,qz3];have:=zzN r;have:=zxk x;omega
theorem zaT{x:Node}: ∀{l:List Node},x∈l->zW x<=za7 l
 |y::r,h=>by
  simp only[za7]
  rcases yP.1 h with rfl|h
  ·omega
  ·have:=zaT h;omega
theorem zth{x:Node}: ∀{l:List Node},x∈l->zjj x<=zlY l
 |y::r,h=>by
  simp only[zlY]
  rcases yP.1 h with rfl|h
  ·omega
  ·have:=zth h;omega
theorem zh1{α:Type}{xs:List α}{i:Nat}{x:α}{r:List α}(h:xs.drop i=x::r):zN xs (i:Int)=some x/\xs.drop (i+1)=r/\i<xs.length:=by
 have hi:i<xs.length:=by
  rcases Nat.lt_or_ge i xs.length with h1|h1
  ·exact h1
  ·rw[List.drop_of_length_le h1]at h;cases h
 rw[List.drop_eq_getElem_cons hi]at h
 cases h
 exact⟨by rw[zjh];exact qz9 hi,rfl,hi⟩
theorem zFi(g:zeg)(l:List Node)(hg: ∀x∈l,g.zeu x=some ((zW x:Int),()))(hb:za7 l<4611686018427387904)(hl:l.length<4611686018427387904): ∀(r:List Node) (i:Nat) (m:Nat),l.drop i=r->m<4611686018427387904->
  zaF (ziN g) (r.length+1) ((m:Int),l,((l.length:Nat):Int),(i:Int),())=some (((max m (za7 r)+1:Nat):Int),())
 | [],i,m,hr,hm=>by
  have hi: ¬((i:Int)< (l.length:Int)):=by
   have:=congrArg List.length hr;simp at this;omega
  refine zaJ ?_
  simp only[ziN,hi,decide_false,qz2,yA]
  rw[wrap_i64 (by omega) (by omega)]
  simp[za7]
 |x::r,i,m,hr,hm=>by
  obtain⟨h1,h2,h3⟩:=zh1 hr
  have hi:((i:Int)< (l.length:Int)):=by omega
  have hx:x∈l:=List.mem_of_mem_drop (hr▸qz7)
  have hd:=zaT hx
  have hstep:ziN g ((m:Int),l,((l.length:Nat):Int),(i:Int),())=some (.inl (((max m (zW x):Nat):Int),l,((l.length:Nat):Int),((i+1:Nat):Int),())):=by
   simp only[ziN,hi,decide_true,yB,h1,qz1,zq,hg x hx]
   rw[wrap_i64 (by omega) (by omega)]
   have:(if((zW x:Nat):Int)>(m:Int)then((zW x:Nat):Int)else(m:Int))=((max m (zW x):Nat):Int):=by split<;>omega
   rw[this]
   rfl
  rw[qz3,zbT hstep,zFi g l hg hb hl r (i+1) _ h2 (by omega),znp]
  congr 3
  omega
theorem zAZ: ∀(n:Nat) (x:Node),zW x<=n->zjj x<=2097152->(zdj n).zeu x=some ((zW x:Int),())
 |0,x,h,_=>by have:=zaR x;omega
 |n+1,x,h,hs=>by
  have h1:=zaR x
  have h2:=zxk x
  have h3:=zv6 x.L
  have h4:=zzN x.L
  show zoE (zdj n) x=_
  unfold zoE
  refine zdu (n:=x.L.length+1) ?_ (by omega)
  have:=zFi (zdj n) x.L (λy hy=>zAZ n y (by have:=zaT hy;omega) (by have:=zth hy;omega)) (by omega) (by omega) x.L 0 0 rfl (by omega)
  rw[h1]
  simpa using this
theorem zyR(x:Node)(h:zjj x<=2097152):zeu x=some ((zW x:Int),()):=
 zAZ _ x (by have:=zo5 x;show zW x<=1000000000000;omega) h
mutual
def zoM:Node->Nat
 | ⟨_,_,_,_,ns,l⟩=>ns.length+zo9 l
def zo9:List Node->Nat
 | []=>0
 |x::r=>zoM x+zo9 r
end
theorem zFm(x:Node):zoM x=x.Names.length+zo9 x.L:=by cases x;simp[zoM]
theorem zwI{x:Node}: ∀{l:List Node},x∈l->zoM x<=zo9 l
 |y::r,h=>by
  simp only[zo9]
  rcases yP.1 h with rfl|h
  ·omega
  ·have:=zwI h;omega
theorem zOP(x y:Node):zqx x y=((x.Kind==y.Kind&&x.Name==y.Name&&x.Num==y.Num&&x.Text==y.Text&&x.Names==y.Names)&&zdY x.L y.L):=by
 cases x;cases y;simp only[zqx]
theorem zEY: ∀{l l':List Node},l.length≠l'.length->zdY l l'=false
 | [],[],h=>absurd rfl h
 | [],_::_,_=>by simp[zdY]
 |_::_,[],_=>by simp[zdY]
 |x::r,y::r',h=>by
  simp only[zdY]
  rw[zEY (by simpa using h)]
  simp
theorem zAY(g:za9)(x y:Node)(v:Bool)(hl:x.Names.length=y.Names.length)(hb:x.Names.length<4611686018427387904)
  (hend:Lp.loop (zbP g) (((x.L.length:Nat):Int),0,x,y,())=some (v,())): ∀(r:List Str) (i:Nat),x.Names.drop i=r->
  zaF (zci g) (r.length+1) (((x.Names.length:Nat):Int),(i:Int),x,y,())=some ((r==y.Names.drop i)&&v,())
 | [],i,hr=>by
  have h1:x.Names.length<=i:=by have:=congrArg List.length hr;simp at this;omega
  have hi: ¬((i:Int)< (x.Names.length:Int)):=by omega
  refine zaJ ?_
  simp only[zci,hi,decide_false,qz2,yA,zq,hend,ziX]
  rw[List.drop_of_length_le (by omega:y.Names.length<=i)]
  rfl
 |a::r,i,hr=>by
  obtain⟨h1,h2,h3⟩:=zh1 hr
  have hi:((i:Int)< (x.Names.length:Int)):=by omega
  have hy:i<y.Names.length:=by omega
  have h4:y.Names.drop i=y.Names[i]::y.Names.drop (i+1):=List.drop_eq_getElem_cons hy
  have h5:zN y.Names (i:Int)=some y.Names[i]:=by rw[zjh];exact qz9 hy
  rw[h4,qz3,List.cons_beq_cons]
  cases he:(a==y.Names[i])with
  |false=>
   refine zaJ ?_
   simp only[zci,hi,decide_true,yB,h1,h5,qz1,he,yN,Bool.false_and]
  |true=>
   have hstep:zci g (((x.Names.length:Nat):Int),(i:Int),x,y,())=some (.inl (((x.Names.length:Nat):Int),((i+1:Nat):Int),x,y,())):=by
    simp only[zci,hi,decide_true,yB,h1,h5,qz1,he,yO,qz2,yA,zq]
    rw[wrap_i64 (by omega) (by omega)]
    rfl
   rw[zbT hstep,zAY g x y v hl hb hend r (i+1) h2,Bool.true_and]
theorem zFd(g:za9)(x y:Node)(hg: ∀a∈x.L,∀b∈y.L,g.zbM a b=some (zqx a b,()))(hl:x.L.length=y.L.length)(hb:x.L.length<4611686018427387904): ∀(r:List Node) (i:Nat),x.L.drop i=r->
  zaF (zbP g) (r.length+1) (((x.L.length:Nat):Int),(i:Int),x,y,())=some (zdY r (y.L.drop i),())
 | [],i,hr=>by
  have h1:x.L.length<=i:=by have:=congrArg List.length hr;simp at this;omega
  have hi: ¬((i:Int)< (x.L.length:Int)):=by omega
  refine zaJ ?_
  simp only[zbP,hi,decide_false,qz2,yA]
  rw[List.drop_of_length_le (by omega:y.L.length<=i)]
  simp[zdY]
 |a::r,i,hr=>by
  obtain⟨h1,h2,h3⟩:=zh1 hr
  have hi:((i:Int)< (x.L.length:Int)):=by omega
  have hy:i<y.L.length:=by omega
  have h4:y.L.drop i=y.L[i]::y.L.drop (i+1):=List.drop_eq_getElem_cons hy
  have h5:zN y.L (i:Int)=some y.L[i]:=by rw[zjh];exact qz9 hy
  have h6:=hg a (List.mem_of_mem_drop (hr▸qz7)) y.L[i] (List.getElem_mem hy)
  rw[h4,qz3]
  simp only[zdY]
  cases he:zqx a y.L[i]with
  |false=>
   refine zaJ ?_
   simp only[zbP,hi,decide_true,yB,h1,h5,qz1,zq,h6,he,yN,Bool.false_and]
  |true=>
   have hstep:zbP g (((x.L.length:Nat):Int),(i:Int),x,y,())=some (.inl (((x.L.length:Nat):Int),((i+1:Nat):Int),x,y,())):=by
    simp only[zbP,hi,decide_true,yB,h1,h5,qz1,zq,h6,he,yO,qz2,yA]
    rw[wrap_i64 (by omega) (by omega)]
    rfl
   rw[zbT hstep,zFd g x y hg hl hb r (i+1) h2,Bool.true_and]
theorem zKe: ∀(n:Nat) (x y:Node),zW x<=n->zjj x<=2097152->zjj y<=2097152->zoM x<=2097152->zoM y<=2097152->(za8 n).zbM x y=some (zqx x y,())
 |0,x,y,h,_,_,_,_=>by have:=zaR x;omega
 |n+1,x,y,h,hs,hs',hn,hn'=>by
  have a1:=zaR x;have a2:=zxk x;have a3:=zxk y;have a4:=zFm x;have a5:=zFm y;have b1:=zzN x.L
  show zgC (za8 n) x y=_
  unfold zgC
  simp only[zq]
  rw[zOP]
  by_cases hN:x.Names.length=y.Names.length
  ·by_cases hL:x.L.length=y.L.length
   ·have e1:(((x.Names.length:Nat):Int) !=((y.Names.length:Nat):Int))=false:=by simp[hN]
    have e2:(((x.L.length:Nat):Int) !=((y.L.length:Nat):Int))=false:=by simp[hL]
    have hsub:Lp.loop (zbP (za8 n)) (((x.L.length:Nat):Int),0,x,y,())=some (zdY x.L y.L,()):=by
     refine zdu (n:=x.L.length+1) ?_ (by omega)
     have:=zFd (za8 n) x y (λa ha b hb=>zKe n a b (by have:=zaT ha;omega) (by have:=zth ha;omega) (by have:=zth hb;omega) (by have:=zwI ha;omega) (by have:=zwI hb;omega)) hL (by omega) x.L 0 rfl
     simpa using this
    have hnam:Lp.loop (zci (za8 n)) (((x.Names.length:Nat):Int),0,x,y,())=some ((x.Names==y.Names)&&zdY x.L y.L,()):=by
     refine zdu (n:=x.Names.length+1) ?_ (by omega)
     have:=zAY (za8 n) x y _ hN (by omega) hsub x.Names 0 rfl
     simpa using this
    rw[e1,e2,hnam]
    have k1:(x.Kind !=y.Kind)= !(x.Kind==y.Kind):=rfl
    have k2:(x.Num !=y.Num)= !(x.Num==y.Num):=rfl
    rw[k1,k2]
    cases x.Kind==y.Kind<;>cases x.Name==y.Name<;>cases x.Num==y.Num<;>cases x.Text==y.Text<;>cases x.Names==y.Names<;>simp
   ·have e2:(((x.L.length:Nat):Int) !=((y.L.length:Nat):Int))=true:=by simpa using by omega
    rw[e2,zEY hL]
    simp
  ·have e1:(((x.Names.length:Nat):Int) !=((y.Names.length:Nat):Int))=true:=by simpa using by omega
   have:(x.Names==y.Names)=false:=by
    simp only[yH,ne_eq]
    intro e;exact hN (by rw[e])
   rw[e1,this]
   simp
end Go.D08
namespace Go.D08
open Go Go.Gw Go.Dn
set_option maxRecDepth 100000
/-! ### names -/
theorem zLk: ∀b:Fin 256,ziC ((b.val:Nat):Int)=some (isLet (UInt8.ofNat b.val),()):=by decide+kernel
theorem zOk: ∀b:Fin 256,zlH ((b.val:Nat):Int)=some (zfO (UInt8.ofNat b.val),()):=by decide+kernel
theorem zJ1(b:UInt8): ∃k:Fin 256,b=UInt8.ofNat k.val:=⟨⟨b.toNat,b.toNat_lt⟩,by simp⟩
theorem zkh(c:UInt8):ziC ((c.toNat:Nat):Int)=some (isLet c,()):=by
 obtain⟨k,rfl⟩:=zJ1 c
 have:(UInt8.ofNat k.val).toNat=k.val:=by simp[Nat.mod_eq_of_lt k.isLt]
 rw[this];exact zLk k
theorem zob(c:UInt8):zlH ((c.toNat:Nat):Int)=some (zfO c,()):=by
 obtain⟨k,rfl⟩:=zJ1 c
 have:(UInt8.ofNat k.val).toNat=k.val:=by simp[Nat.mod_eq_of_lt k.isLt]
 rw[this];exact zOk k
theorem zNQ{s:Str}{i:Nat}{c:UInt8}{r:Str}(h:s.drop i=c::r):zaY s (i:Int)=some ((c.toNat:Nat):Int)/\s.drop (i+1)=r/\i<s.length:=by
 have hi:i<s.length:=by
   rcases Nat.lt_or_ge i s.length with h1|h1
   ·exact h1
   ·rw[List.drop_of_length_le h1]at h;cases h
 rw[List.drop_eq_getElem_cons hi]at h
 cases h
 exact⟨by rw[zmf,qz9 hi];rfl,rfl,hi⟩
theorem zIT(s:Str)(hs:s.length<=1000000000): ∀(r:Str) (i:Nat),s.drop i=r->i<=s.length->zaF zg0 (r.length+1) (s,((s.length:Nat):Int),(i:Int),())=some (((i+Gw.zbz r:Nat):Int),())
 | [],i,hr,hi=>by
   have h1:i=s.length:=by have:=congrArg List.length hr;simp at this;omega
   refine zaJ ?_
   have hi: ¬((i:Int)< (s.length:Int)):=by omega
   simp only[zg0,hi,decide_false,qz2,yA]
   simp[Gw.zbz,h1]
 |c::r,i,hr,_=>by
   obtain⟨h1,h2,h3⟩:=zNQ hr
   have hi:((i:Int)< (s.length:Int)):=by omega
   rw[zkA]
   have hL:zfY c=(isLet c||zfO c):=rfl
   have hgo:zfY c=true->zg0 (s,((s.length:Nat):Int),(i:Int),())=some (.inl (s,((s.length:Nat):Int),((i+1:Nat):Int),())):=λh=>by
    rw[hL]at h
    simp only[zg0,hi,decide_true,yB,h1,qz1,zkh,zob]
    rw[wrap_i64 (by omega) (by omega)]
    cases hl:isLet c with
    |true=>rfl
    |false=>
     rw[hl]at h
     simp only[Bool.false_or]at h
     simp only[h,yN,yB,yO,qz2,yA]
     rfl
   cases h:zfY c with
   |true=>
    rw[qz3,zbT (hgo h),zIT s hs r (i+1) h2 (by omega)]
    simp only[yB]
    congr 3
    omega
   |false=>
    refine zaJ ?_
    rw[hL,Bool.or_eq_false_iff]at h
    simp only[zg0,hi,decide_true,yB,h1,qz1,zkh,zob,h.1,h.2,yN,qz2,yA]
    rfl
theorem zrW(s:Str)(hs:s.length<=1000000000):zpi s=some (((Gw.zbz s:Nat):Int),()):=by
 refine zdu (n:=s.length+1) ?_ (by omega)
 have:=zIT s hs s 0 rfl (Nat.zero_le _)
 simpa using this
def zfr(s:Str):Bool:=match s with
 | []=>false
 |c::_=>decide (s.length<=32)&&(isLet c&&s.all zfY)
theorem zrM(s:Str)(hs:s.length<=1000000000):zjt s=some (zfr s,()):=by
 unfold zjt
 cases s with
 |nil=>rfl
 |cons c r=>
   have h0:((c::r:Str)==([]:Str))=false:=rfl
   have h1:zaY (c::r) 0=some ((c.toNat:Nat):Int):=rfl
   simp only[h0,yN,Bool.true_and,h1,qz1,zkh,zrW _ hs,zfr]
   by_cases hl:(c::r).length<=32
   ·have:(((c::r).length:Nat):Int)<=32:=by omega
    simp only[hl,this,decide_true,yB,Bool.true_and]
    cases isLet c with
    |false=>rfl
    |true=>
     simp only[yB,Bool.true_and]
     congr 2
     have:=zBJ (c::r)
     rw[Bool.eq_iff_iff,beq_iff_eq]
     constructor
     ·intro h;exact this.1 (by omega)
     ·intro h;rw[this.2 h]
   ·have: ¬(((c::r).length:Nat):Int)<=32:=by omega
    simp only[hl,this,decide_false,qz2,yA,Bool.false_and]
def zb7(l s:Str):Bool:= !(s==([]:Str))&&(!(s.contains 32)&&Lib.contains l (32::(s++[32])))
theorem zCZ(l s:Str)(hl:l.length<=1000000000)(hs:s.length<=1000000000):
   (if(!(s==([]:Str)))=true then
  Option.bind (strings_Contains s ([32]:Str)) λr_1=>
  if(!r_1.1)=true then
   Option.bind (zjR ([32]:Str) s) λs_2=>
   Option.bind (zjR s_2 ([32]:Str)) λs_3=>
   Option.bind (strings_Contains l s_3) λr_4=>
   some (r_4.1,())
  else
   some (false,())
 else
  some (false,()))=some (zb7 l s,()):=by
 have c1:strings_Contains s ([32]:Str)=some (s.contains 32,()):=by
   simp only[strings_Contains,zcO,show s.length<4294967281 by omega,yB,ziX,zpy]
 have c2: ∀t,strings_Contains l t=some (Lib.contains l t,()):=λt=>by
   simp only[strings_Contains,zcO,show l.length<4294967281 by omega,yB,ziX]
 have c3:zjR ([32]:Str) s=some (32::s):=zqR (by simp;omega)
 have c4:zjR (32::s) ([32]:Str)=some (32::(s++[32])):=zqR (by simp;omega)
 simp only[c1,c2,c3,c4,qz1,zb7]
 cases s==([]:Str)<;>cases s.contains 32<;>simp
theorem zoj(l s:Str)(hl:l.length<=1000000000)(hs:s.length<=1000000000):zgN l s=some (zb7 l s,()):=zCZ l s hl hs
theorem zxu(l s:Str)(hl:l.length<=1000000000)(hs:s.length<=1000000000):zfL l s=some (zb7 l s,()):=zCZ l s hl hs
def zM4:Str:=[32,98,114,101,97,107,32,99,97,115,101,32,99,97,116,99,104,32,99,108,97,115,115,32,99,111,110,115,116,32,99,111,110,116,105,110,117,101,32,100,101,98,117,103,103,101,114,32,100,101,102,97,117,108,116,32,100,101,108,101,116,101,32,100,111,32,101,108,115,101,32,101,110,117,109,32,101,120,112,111,114,116,32,101,120,116,101,110,100,115,32,102,97,108,115,101,32,102,105,110,97,108,108,121,32,102,111,114,32,102,117,110,99,116,105,111,110,32,105,102,32,105,109,112,108,101,109,101,110,116,115,32,105,109,112,111,114,116,32,105,110,32,105,110,115,116,97,110,99,101,111,102,32,105,110,116,101,114,102,97,99,101,32,108,101,116,32,110,101,119,32,110,117,108,108,32,112,97,99,107,97,103,101,32,112,114,105,118,97,116,101,32,112,114,111,116,101,99,116,101,100,32,112,117,98,108,105,99,32,114,101,116,117,114,110,32,115,116,97,116,105,99,32,115,117,112,101,114,32,115,119,105,116,99,104,32,116,104,105,115,32,116,104,114,111,119,32,116,114,117,101,32,116,114,121,32,116,121,112,101,111,102,32,118,97,114,32,118,111,105,100,32,119,104,105,108,101,32,119,105,116,104,32,121,105,101,108,100,32]
def zwq(s:Str):Bool:=zb7 zM4 s
theorem zs9(s:Str)(hs:s.length<=1000000000):zmM s=some (zwq s,()):=by
 show Option.bind (zgN zM4 s) _=_
 rw[zoj _ _ (by decide) hs]
 rfl
def zbN(s:Str):Bool:=zfr s&& !zwq s
theorem zvm(s:Str)(hs:s.length<=1000000000):zic s=some (zbN s,()):=by
 unfold zic zbN
 simp only[zrM s hs,zs9 s hs,qz1]
 cases zfr s<;>rfl
theorem zCB(l:List Str)(hl:l.length<=1000000000)(hs: ∀s∈l,s.length<=1000000000): ∀(r:List Str) (i:Nat),l.drop i=r->
   ∃k:Int,zaF zdd (r.length+1) (l,((l.length:Nat):Int),(i:Int),())=some (k,())/\(decide (k>=0))= !(r.all zbN)
 | [],i,hr=>by
   have hi: ¬((i:Int)< (l.length:Int)):=by
    have:=congrArg List.length hr;simp at this;omega
   refine⟨-1,zaJ ?_,rfl⟩
   simp only[zdd,hi,decide_false,qz2,yA]
 |s::r,i,hr=>by
   obtain⟨h1,h2,h3⟩:=zh1 hr
   have hi:((i:Int)< (l.length:Int)):=by omega
   have hm:s∈l:=List.mem_of_mem_drop (hr▸qz7)
   have e:zqD s=some (!zbN s,()):=by simp only[zqD,zvm s (hs s hm),qz1]
   cases hn:zbN s with
   |true=>
    obtain⟨k,h4,h5⟩:=zCB l hl hs r (i+1) h2
    refine⟨k,?_,by rw[h5,List.all_cons,hn,Bool.true_and]⟩
    have:zdd (l,((l.length:Nat):Int),(i:Int),())=some (.inl (l,((l.length:Nat):Int),((i+1:Nat):Int),())):=by
     simp only[zdd,hi,decide_true,yB,h1,qz1,e,hn,yO,qz2,yA]
     rw[wrap_i64 (by omega) (by omega)]
     rfl
    rw[qz3,zbT this,h4]
   |false=>
    refine⟨i,zaJ ?_,by rw[List.all_cons,hn];simp⟩
    simp only[zdd,hi,decide_true,yB,h1,qz1,e,hn,yN]
theorem ztw(l:List Str)(hl:l.length<=1000000000)(hs: ∀s∈l,s.length<=1000000000):slices_ContainsFunc l=some (!(l.all zbN),()):=by
 obtain⟨k,h1,h2⟩:=zCB l hl hs l 0 rfl
 have:slices_IndexFunc l=some (k,()):=zdu (n:=l.length+1) (by simpa using h1) (by omega)
 simp only[slices_ContainsFunc,this,qz1,h2]
/-! ### units -/
def zhq(s:Str):Bool:=s.length%2==0
theorem zvh(s:Str)(hs:s.length<=1000000000):zlB s=some (zhq s,()):=by
 have h:(BitVec.ofInt 64 ((s.length:Nat):Int)&&&BitVec.ofInt 64 1).toNat=s.length%2:=by
   rw[BitVec.toNat_and]
   have h1:(BitVec.ofInt 64 ((s.length:Nat):Int)).toNat=s.length:=by
    rw[BitVec.toNat_ofInt];omega
   have h2:(BitVec.ofInt 64 1).toNat=1:=rfl
   rw[h1,h2,Nat.and_one_is_mod]
 unfold zlB zhq
 simp only[h]
 rw[wrap_i64 (by omega) (by omega)]
 congr 2
 rw[Bool.eq_iff_iff,beq_iff_eq,beq_iff_eq]
 omega
/-! ### forms -/
theorem zCP: ∀s:Str,Lib.index s [42]=if s.contains 42 then(((s.takeWhile (· !=42)).length:Nat):Int)else -1
 | []=>by decide
 |b::l=>by
   rw[Lib.index,zCP l]
   by_cases hb:b=42
   ·subst hb;simp[List.isPrefixOf]
   ·have h1:([42]:Str).isPrefixOf (b::l)=false:=by simp[List.isPrefixOf];exact λe=>hb e.symm
    have h2:(b::l).contains 42=l.contains 42:=by
     rw[List.contains_cons]
     have:((42:UInt8)==b)=false:=by rw[yH];exact λe=>hb e.symm
     rw[this,Bool.false_or]
    have h3:(b !=42)=true:=by simpa using hb
    rw[h1,h2,List.takeWhile_cons,h3]
    cases l.contains 42 with
    |true=>
     have:((((l.takeWhile (· !=42)).length:Nat):Int)== -1)=false:=by rw[yH];omega
     simp[this]
    |false=>simp
end Go.D08
namespace Go.D08.U
open Go Go.Gw Go.Dn Go.Proofs
set_option maxRecDepth 100000
theorem zek(x:zZ):zdV x=x:=by cases x;rfl
theorem zIU(x:zu):zBD x=x:=by cases x;rfl
theorem zd6(a b:Str):strings_HasPrefix a b=some (b.isPrefixOf a,()):=rfl
theorem zJA(s:Str)(h:s.length<=1000000000):strings_IndexAny s [10,13]=some (Lib.indexAny s [10,13],()):=by
 unfold strings_IndexAny zew
 rw[yL ⟨by omega,rfl⟩];rfl
theorem zDE(s:Str)(h:s.length<=1000000000):strings_ContainsAny s [10,13]=some (s.any zdS,()):=by
 unfold strings_ContainsAny zds
 rw[yL ⟨by omega,rfl⟩,zD7];rfl
theorem zNg(s t:Str)(h:s.length<=1000000000):strings_Index s t=some (Lib.index s t,()):=by
 unfold strings_Index zf3
 rw[yL (by omega)];rfl
theorem zzp(s t:Str)(h:s.length<=1000000000):strings_Contains s t=some (Lib.contains s t,()):=by
 unfold strings_Contains zcO
 rw[yL (by omega)];rfl
theorem zh0(c:UInt8)(r:Str):zaY (c::r) 0=some ((c.toNat:Nat):Int):=rfl
theorem zMS(src s:Str)(f:Bool)(n:Nat)(hn:n<=s.length)(hs:s.length<=1000000000):zcv (n:Int) ⟨src,s,f⟩=some (.inl (⟨src,s.drop n,f||(s.take n).any zdS⟩,())):=by
 unfold zcv
 have e1:=zc9 s n hn
 have e2:zaL s 0 (n:Int)=some (s.take n):=by
  have:=zmd s 0 n (by omega) hn
  simpa using this
 have e3:=zDE (s.take n) (by simp only[List.length_take];omega)
 cases f with
 |true=>simp only[yB,e1,qz1,Bool.true_or]
 |false=>simp only[qz2,yA,e1,e2,e3,qz1,Bool.false_or]
def zWo(src:Str)(p:Str×Bool×Bool):Bool×zZ×Unit:=(p.2.2,⟨src,p.1,p.2.1⟩,())
theorem zlS(src:Str): ∀(m:Nat) (s:Str) (f:Bool),s.length<m->s.length<=1000000000->zaF zaw m (⟨src,s,f⟩,())=some (zWo src (zcJ m s f))
 |0,s,f,h,_=>by omega
 |m+1,[],f,_,_=>zaJ rfl
 |m+1,c::r,f,hm,hs=>by
  simp only[qz3]at hm
  have hr:r.length<=1000000000:=by simp only[qz3]at hs;omega
  have cn:(!((c::r)==([]:Str)))=true:=rfl
  have hj4:=zMS src (c::r) f
  rw[zcJ]
  by_cases h1:zdS c=true
  ·rw[yL h1]
   have hc:c=10\/c=13:=by
    unfold zdS at h1
    simpa using h1
   have hstep:zaw (⟨src,c::r,f⟩,())=some (.inl (⟨src,r,true⟩,())):=by
    have hj:=hj4 1 (by simp) hs
    have e:(f||(((c::r).take 1).any zdS))=true:=by simp[h1]
    rw[e]at hj
    rcases hc with rfl|rfl
    ·simp only[zaw,zd6,zek,cn,yB,zh0]
     exact hj
    ·simp only[zaw,zd6,zek,cn,yB,zh0]
     exact hj
   rw[zbT hstep]
   exact zlS src m r true (by omega) hr
  ·have h1':zdS c=false:=by simpa using h1
   rw[yK h1]
   by_cases h2:c=32\/c=9\/c=11\/c=12
   ·rw[yL h2]
    have hstep:zaw (⟨src,c::r,f⟩,())=some (.inl (⟨src,r,f⟩,())):=by
     have hj:=hj4 1 (by simp) hs
     have e:(f||(((c::r).take 1).any zdS))=f:=by simp[h1']
     rw[e]at hj
     rcases h2 with rfl|rfl|rfl|rfl
     ·simp only[zaw,zd6,zek,cn,yB,zh0];exact hj
     ·simp only[zaw,zd6,zek,cn,yB,zh0];exact hj
     ·simp only[zaw,zd6,zek,cn,yB,zh0];exact hj
     ·simp only[zaw,zd6,zek,cn,yB,zh0];exact hj
    rw[zbT hstep]
    exact zlS src m r f (by omega) hr
   ·rw[yK h2]
    by_cases h3:([47,47]:Str).isPrefixOf (c::r)=true
    ·rw[yL h3]
     have hc:c=47:=by
      simp only[List.isPrefixOf,qz4,beq_iff_eq]at h3;exact h3.1.symm
     have hdw:(c::r).dropWhile (λx=> !zdS x)=r.dropWhile (λx=> !zdS x):=by
      rw[List.dropWhile_cons,yL (by simp[h1'])]
     have hlen:=zpE (λx=> !zdS x) r
     have hstep:zaw (⟨src,c::r,f⟩,())=some (.inl (⟨src,(c::r).dropWhile (λx=> !zdS x),f⟩,())):=by
      simp only[zaw,zd6,zek,cn,yB,h3,qz1,zJA _ hs]
      rcases zui (c::r)with⟨g1,g2,g3⟩| ⟨i,g1,g2,g3,g4,g5⟩
      ·rw[g2,g3]
       have hj:=hj4 (c::r).length (yJ _) hs
       rw[List.drop_length,List.take_length,g1,Bool.or_false]at hj
       simpa using hj
      ·have hj:=hj4 i g2 hs
       rw[g4,g5,Bool.or_false]at hj
       have cneg: ¬((i:Int)<0):=by omega
       rw[g1]
       simp only[cneg,decide_false,qz2,yA]
       exact hj
     rw[zbT hstep]
     exact zlS src m _ f (by rw[hdw];omega) (by rw[hdw];omega)
    ·have h3':([47,47]:Str).isPrefixOf (c::r)=false:=by rw[<-Bool.not_eq_true];exact h3
     rw[yK h3]
     by_cases h4:([47,42]:Str).isPrefixOf (c::r)=true
     ·rw[yL h4]
      cases r with
      |nil=>simp[List.isPrefixOf]at h4
      |cons d r=>
       simp only[List.isPrefixOf,Bool.and_true,qz4,beq_iff_eq]at h4
       obtain⟨rfl,rfl⟩:=h4
       have hdrop:((47::42::r:Str)).drop 2=r:=rfl
       rw[hdrop]
       have hcut:zaL (47::42::r:Str) 2 (((47::42::r:Str).length:Nat):Int)=some r:=by
        have:=zc9 (47::42::r:Str) 2 (by simp)
        exact this
       have hpre:List.isPrefixOf [47,42] (47::42::r:Str)=true:=rfl
       have hri:=zNg r [42,47] (by simp only[qz3]at hr;omega)
       cases he:zok r with
       |none=>
        refine zaJ ?_
        simp only[zaw,zd6,zek,cn,yB,h3',hpre,qz1,qz2,yA,hcut,hri]
        rw[zwb,he]
        rfl
       |some n=>
        have hle:=zJ3 r n he
        have hstep:zaw (⟨src,47::42::r,f⟩,())=some (.inl (⟨src,(47::42::r:Str).drop (n+4),f||(r.take n).any zdS⟩,())):=by
         simp only[zaw,zd6,zek,cn,yB,h3',hpre,qz1,qz2,yA,hcut,hri]
         rw[zwb,he]
         have cneg: ¬(((n:Nat):Int)<0):=by omega
         have w:IntKind.wrap .i64 ((n:Int)+4)=((n+4:Nat):Int):=by rw[wrap_i64 (by omega) (by simp only[qz3]at hr;omega)];omega
         simp only[cneg,decide_false,qz2,yA,w]
         have hj:=hj4 (n+4) (by simp only[qz3];omega) hs
         rw[zLA r n he]at hj
         exact hj
        rw[zbT hstep]
        simp only[qz3]at hm
        have hlt:((47::42::r:Str).drop (n+4)).length<=r.length:=by simp only[List.length_drop,qz3];omega
        exact zlS src m _ _ (by omega) (by simp only[qz3]at hr;omega)
     ·have h4':([47,42]:Str).isPrefixOf (c::r)=false:=by rw[<-Bool.not_eq_true];exact h4
      rw[yK h4]
      refine zaJ ?_
      have ho:=zNc ⟨c.toNat,c.toNat_lt⟩
      rw[show UInt8.ofNat (⟨c.toNat,c.toNat_lt⟩:Fin 256).val=c by simp]at ho
      obtain⟨o1,o2⟩:=ho h1' h2
      simp only at o1 o2
      have b32:((((c.toNat:Nat):Int)) !=32)=true:=by rw[bne_iff_ne];omega
      simp only[zaw,zd6,zek,cn,yB,h3',h4',qz1,qz2,yA,zh0,b32]
      by_cases o3:c.toNat<9
      ·have d:(((c.toNat:Nat):Int)<9):=by omega
       simp only[d,decide_true,yB];rfl
      ·have d: ¬(((c.toNat:Nat):Int)<9):=by omega
       have d2:(((c.toNat:Nat):Int)>13):=by omega
       simp only[d,d2,decide_true,decide_false,qz2,yA,yB];rfl
theorem zCa(cc:zZ)(hs:cc.rest.length<=1000000000):zhg cc=
  some ((zcJ (cc.rest.length+1) cc.rest false).2.2,⟨cc.src,(zcJ (cc.rest.length+1) cc.rest false).1,(zcJ (cc.rest.length+1) cc.rest false).2.1⟩,()):=by
 unfold zhg
 exact zdu (n:=cc.rest.length+1) (zlS cc.src (cc.rest.length+1) cc.rest false (by omega) hs) (by omega)
theorem ofN(c:UInt8):UInt8.ofNat c.toNat=c:=by simp
theorem wrap_succ{k:Nat}(h:k<1000000000000):IntKind.wrap .i64 ((k:Int)+1)=((k+1:Nat):Int):=by rw[wrap_i64 (by omega) (by omega)];omega
abbrev PuS:=Int×Bool×Str×Int×Int×Bool×Int×(List UInt8)×Int×Int×Unit
abbrev puS(o:Nat)(s0:Str)(cut:Int)(mx a:Nat)(t:Str)(i:Nat):PuS:=((o:Int),false,s0,cut,(mx:Int),false,(a:Int),t,((t.length:Nat):Int),(i:Int),())
def puQ(o mx:Nat)(s0:Str)(cut:Int)(t:Str)(a i:Nat)(d:Option Nat):Option (PuS⊕(Int×zad×Unit)):=
 match d with
 |none=>some (.inr (0,.code 156 2,()))
 |some d=>if d<o then(if a*o+d<=mx then some (.inl (puS o s0 cut mx (a*o+d) t (i+1)))else some (.inr ((mx:Int),.code 156 1,())))else some (.inr (0,.code 156 2,()))
theorem zML(o mx a i d:Nat)(ho:o=10\/o=16)(hm:mx<=9007199254740991)(s0 t:Str)(cut:Int)(hx:9007199254740992<=cut)(ha:a<=mx)(hi:i<1000000000000)(hd:d<256):
  zc1 (o:Int) false s0 cut (mx:Int) false (a:Int) (d:Int) t ((t.length:Nat):Int) (i:Int)=puQ o mx s0 cut t a i (some d):=by
 unfold zc1 zgi zgj zf9 zgk puQ
 have wo:IntKind.wrap .u8 (o:Int)=(o:Int):=wrap_u8 (by omega) (by omega)
 have wo2:IntKind.wrap .u64 (o:Int)=(o:Int):=wrap_u64 (by omega) (by omega)
 have wd:IntKind.wrap .u64 (d:Int)=(d:Int):=wrap_u64 (by omega) (by omega)
 have hmul:a*o<=9007199254740991*16:=Nat.mul_le_mul (by omega) (by omega)
 have em:((a:Int)*(o:Int))=((a*o:Nat):Int):=by simp
 have wm:IntKind.wrap .u64 ((a:Int)*(o:Int))=((a*o:Nat):Int):=by rw[em];exact wrap_u64 (by omega) (by omega)
 have ws:IntKind.wrap .u64 (((a*o:Nat):Int)+(d:Int))=((a*o+d:Nat):Int):=by rw[wrap_u64 (by omega) (by omega)];omega
 simp only[wo,wo2,wd,wm,ws,wrap_succ hi]
 by_cases h1:d<o
 ·have c1: ¬((d:Int)>=(o:Int)):=by omega
  have c2: ¬((a:Int)>=cut):=by omega
  have c3: ¬(((a*o+d:Nat):Int)< ((a*o:Nat):Int)):=by omega
  simp only[c1,c2,c3,h1,decide_false,qz2,yA,yB,Bool.false_or]
  by_cases h2:a*o+d<=mx
  ·have c4: ¬(((a*o+d:Nat):Int)>(mx:Int)):=by omega
   simp only[c4,h2,decide_false,qz2,yA,yB]
  ·have c4:(((a*o+d:Nat):Int)>(mx:Int)):=by omega
   simp only[c4,h2,decide_true,yA,yB]
 ·have c1:((d:Int)>=(o:Int)):=by omega
  simp only[c1,h1,decide_true,yB,yA]
theorem zS4(o mx a i:Nat)(ho:o=10\/o=16)(hm:mx<=9007199254740991)(s0 t:Str)(c:UInt8)(hc:t[i]? =some c)(cut:Int)(hx:9007199254740992<=cut)(ha:a<=mx)(hi:i<1000000000000):
  zba (puS o s0 cut mx a t i)=puQ o mx s0 cut t a i (hexV c):=by
 have hlt:i<t.length:=(qz0 hc).1
 unfold zba
 have c1:((i:Int)< ((t.length:Nat):Int)):=by omega
 obtain⟨f1,f2,f3⟩:=zOF ⟨c.toNat,c.toNat_lt⟩
 rw[ofN]at f1 f2 f3
 simp only at f1 f2 f3
 simp only[c1,decide_true,yB,zjh,hc,qz1,Bool.and_false,qz2,yA,zOg]
 by_cases g1:48<=c.toNat/\c.toNat<=57
 ·have d1:((48:Int)<=((c.toNat:Nat):Int)):=by omega
  have d2:(((c.toNat:Nat):Int)<=57):=by omega
  have w:IntKind.wrap .u8 (((c.toNat:Nat):Int) -48)=((c.toNat -48:Nat):Int):=by rw[wrap_u8 (by omega) (by omega)];omega
  simp only[d1,d2,decide_true,Bool.and_self,yB,w]
  rw[zML o mx a i _ ho hm s0 t cut hx ha hi (by omega),f1 g1]
 ·have d1:((decide ((48:Int)<=((c.toNat:Nat):Int)))&&(decide (((c.toNat:Nat):Int)<=57)))=false:=by
   rw[<-Bool.not_eq_true,qz4,yT,yT];omega
  simp only[d1,qz2,yA]
  have hlow:zik c.toNat<256:=by unfold zik;exact(BitVec.ofNat 8 c.toNat|||32#8).isLt
  by_cases g2:97<=zik c.toNat
  ·have e2:((97:Int)<=((zik c.toNat:Nat):Int)):=by omega
   simp only[e2,decide_true,yB]
   by_cases g3:zik c.toNat<=122
   ·have e3:(((zik c.toNat:Nat):Int)<=122):=by omega
    have w1:IntKind.wrap .u8 (((zik c.toNat:Nat):Int) -97)=((zik c.toNat -97:Nat):Int):=by rw[wrap_u8 (by omega) (by omega)];omega
    have w2:IntKind.wrap .u8 (((zik c.toNat -97:Nat):Int)+10)=((zik c.toNat -87:Nat):Int):=by rw[wrap_u8 (by omega) (by omega)];omega
    simp only[e3,decide_true,yB,w1,w2]
    rw[zML o mx a i _ ho hm s0 t cut hx ha hi (by omega),f2 g1 g2 g3]
    split
    ·rfl
    ·rename_i g4
     unfold puQ
     have: ¬(zik c.toNat -87<o):=by omega
     simp only[this,yA]
   ·have e3: ¬(((zik c.toNat:Nat):Int)<=122):=by omega
    simp only[e3,decide_false,qz2,yA]
    rw[f3 g1 (by omega)];rfl
  ·have e2: ¬((97:Int)<=((zik c.toNat:Nat):Int)):=by omega
   simp only[e2,decide_false,qz2,yA]
   rw[f3 g1 (by omega)];rfl
def okM(mx o:Nat)(t:Str)(a:Nat):Option Nat:=match zec o t a with
 |none=>none
 |some n=>if n<=mx then some n else none
def PuE(e:Int×zad×Unit)(q:Option Nat):Prop:=match q with
 |some r=>e=((r:Int),.nil,())
 |none=>∃v,e=(v,.code 156 2,())\/e=(v,.code 156 1,())
theorem zSH(o mx:Nat)(ho:o=10\/o=16)(hm:mx<=9007199254740991)(s0 t:Str)(ht:t.length<=1000000000)(cut:Int)(hx:9007199254740992<=cut): ∀(n i a:Nat),n+i=t.length->a<=mx->
  ∃e,zaF zba (n+1) (puS o s0 cut mx a t i)=some e/\PuE e (okM mx o (t.drop i) a):=by
 intro n
 induction n with
 |zero=>
  intro i a hi ha
  have hd:t.drop i=[]:=List.drop_eq_nil_of_le (by omega)
  rw[hd]
  refine⟨((a:Int),.nil,()),zaJ ?_,?_⟩
  ·unfold zba
   have c1: ¬((i:Int)< ((t.length:Nat):Int)):=by omega
   simp only[c1,decide_false,qz2,yA]
  ·unfold okM zec PuE
   simp only[ha,yB]
 |succ n ih=>
  intro i a hi ha
  have hlt:i<t.length:=by omega
  have hst:=zS4 o mx a i ho hm s0 t t[i] (qz9 hlt) cut hx ha (by omega)
  rw[List.drop_eq_getElem_cons hlt]
  unfold okM zec
  cases hv:hexV t[i]with
  |none=>
   rw[hv]at hst
   exact⟨_,zaJ hst,0,.inl rfl⟩
  |some d=>
   rw[hv]at hst
   unfold puQ at hst
   simp only at hst⊢
   by_cases h1:d<o
   ·simp only[h1,yB]at hst⊢
    by_cases h2:a*o+d<=mx
    ·simp only[h2,yB]at hst
     rw[zbT hst]
     exact ih (i+1) (a*o+d) (by omega) h2
    ·simp only[h2,yA]at hst
     refine⟨_,zaJ hst,?_⟩
     cases hp:zec o (t.drop (i+1)) (a*o+d)with
     |none=>exact⟨_,.inr rfl⟩
     |some r=>
      have:=zGZ (by omega) _ _ _ hp
      have h3: ¬(r<=mx):=by omega
      simp only[h3,yA]
      exact⟨_,.inr rfl⟩
   ·simp only[h1,yA]at hst⊢
    exact⟨_,zaJ hst,0,.inl rfl⟩
theorem zEL(o b mx:Nat)(ho:o=10\/o=16)(hb:b=53/\mx=9007199254740991\/b=16/\mx=65535)(t:Str)(h0:t≠[])(ht:t.length<=1000000000):
  ∃v,za1 t (o:Int) (b:Int)=some (match okM mx o t 0 with|some r=>((r:Int),zad.nil,())|none=>(v,zad.opq,())):=by
 have key: ∃e,zfK t (o:Int) (b:Int)=some e/\PuE e (okM mx o t 0):=by
  have c:(t==([]:Str))=false:=by simpa using h0
  have sh:zBV .u64 1 (IntKind.wrap .u64 (b:Int))=some ((mx:Int)+1):=by
   rcases hb with⟨rfl,rfl⟩| ⟨rfl,rfl⟩<;>decide
  have wm:IntKind.wrap .u64 ((mx:Int)+1 -1)=(mx:Int):=by rw[wrap_u64 (by omega) (by omega)];omega
  have fin: ∀cut:Int,9007199254740992<=cut->∃e,Lp.loop zba (puS o t cut mx 0 t 0)=some e/\PuE e (okM mx o t 0):=λcut hx=>by
   obtain⟨e,e1,e2⟩:=zSH o mx ho (by omega) t t ht cut hx t.length 0 0 (by omega) (by omega)
   rw[List.drop_zero]at e2
   exact⟨e,zdu e1 (by omega),e2⟩
  unfold zfK zbD zgd zef zf8 zgh zga
  have b1:((decide ((2:Int)<=(o:Int)))&&(decide ((o:Int)<=36)))=true:=by
   rw[decide_eq_true (by omega),decide_eq_true (by omega)];rfl
  have b2:((o:Int)==0)=false:=by rw[yH];omega
  have b3:((b:Int)==0)=false:=by rw[yH];omega
  have b4:((decide ((b:Int)<0))||(decide ((b:Int)>64)))=false:=by
   rw[decide_eq_false (by omega),decide_eq_false (by omega)];rfl
  simp only[c,b1,b2,b3,b4,qz2,yA,yB,sh,qz1,wm]
  rcases ho with rfl|rfl
  ·exact fin 1844674407370955162 (by decide)
  ·exact fin 1152921504606846976 (by decide)
 obtain⟨e,e1,e2⟩:=key
 unfold za1 zhV
 rw[e1,qz1]
 cases hk:okM mx o t 0 with
 |some r=>
  rw[hk]at e2
  obtain rfl:e=((r:Int),.nil,()):=e2
  exact⟨0,rfl⟩
 |none=>
  rw[hk]at e2
  obtain⟨v,rfl|rfl⟩: ∃v,e=(v,.code 156 2,())\/e=(v,.code 156 1,()):=e2
  ·refine⟨v,?_⟩
   simp only[zad.isNil,yN,yB]
   rw[yL ⟨by omega,by simp⟩];rfl
  ·refine⟨v,?_⟩
   simp only[zad.isNil,yN,yB]
   rw[yL ⟨by omega,by simp⟩];rfl
theorem zLL(o:Nat)(ho:o=10\/o=16)(t:Str)(h0:t≠[])(ht:t.length<=1000000000):
  ∃v,za1 t (o:Int) 53=some (match okN o t 0 with|some r=>((r:Int),zad.nil,())|none=>(v,zad.opq,())):=
 zEL o 53 9007199254740991 ho (.inl ⟨rfl,rfl⟩) t h0 ht
theorem zCw: ∀(t:Str) (a n:Nat),hexN t.length t a=some n->zec 16 t a=some n
 | [],a,n,h=>h
 |c::r,a,n,h=>by
  rw[qz3]at h
  unfold hexN at h
  unfold zec
  cases hv:hexV c with
  |none=>rw[hv]at h;cases h
  |some d=>
   rw[hv]at h
   simp only at h⊢
   rw[yL (zKd hv),Nat.mul_comm a 16]
   exact zCw r _ n h
theorem zxc(t:Str)(n:Nat)(h0:t≠[])(h1:t.length<=4)(h2:hexN t.length t 0=some n):za1 t 16 16=some ((n:Int),.nil,()):=by
 obtain⟨v,hv⟩:=zEL 16 16 65535 (.inr rfl) (.inr ⟨rfl,rfl⟩) t h0 (by omega)
 have hl:=zvv _ _ _ _ h2
 have hp:16^t.length<=16^4:=Nat.pow_le_pow_right (by omega) h1
 have hn:n<=65535:=by
  have h4:(16:Nat)^4=65536:=by decide
  omega
 have hv:za1 t 16 16=_:=hv
 rw[hv]
 unfold okM
 rw[zCw t 0 n h2]
 simp only[hn,yB]
theorem zjB(n:Nat)(h:n<65536):zeW (n:Int)=some (enc1 n,()):=by
 have e1:Int.fdiv (n:Int) (2^8)=((n/256:Nat):Int):=by rw[Int.fdiv_eq_ediv_of_nonneg _ (by omega)];rfl
 have w1:IntKind.wrap .u8 ((n/256:Nat):Int)=((n/256:Nat):Int):=wrap_u8 (by omega) (by omega)
 have w2:IntKind.wrap .u8 (n:Int)=((n%256:Nat):Int):=by rw[zA7];omega
 have t1:toB ((n/256:Nat):Int)=some (UInt8.ofNat (n/256)):=by unfold toB;rw[yL (by omega)];rfl
 have t2:toB ((n%256:Nat):Int)=some (UInt8.ofNat (n%256)):=by unfold toB;rw[yL (by omega)];rfl
 unfold zeW
 simp only[e1,w1,w2,t1,t2,qz1]
 rfl
theorem zpR(x s2 l:Str)(h:l.length+x.length<=274877906944):zaH x s2 l=some (((x.length:Nat):Int),zad.nil,s2,l++x,()):=by
 unfold zaH
 rw[zd0 (by omega)]
 rfl
theorem zEt(s:Str)(acc:List Nat)(k:Nat)(hk:k=2\/k=4)(hs:s.length<=100000000)(ha:acc.length<=100000000):
  ∃r,zdf (k:Int) s (zeC acc)=some r/\(match hexN k s 0 with
   |none=>r.1=false
   |some n=>r=(true,s.drop k,zeC (acc++[n]),())):=by
 unfold zdf
 by_cases hl:s.length<k
 ·have c:((((s.length:Nat):Int))< (k:Int)):=by omega
  simp only[c,decide_true,yB]
  refine⟨_,rfl,?_⟩
  cases hn:hexN k s 0 with
  |none=>rfl
  |some n=>have:=zwL _ _ _ _ hn;omega
 ·have c: ¬((((s.length:Nat):Int))< (k:Int)):=by omega
  have hcut:zaL s 0 (k:Int)=some (s.take k):=by
   have:=zmd s 0 k (by omega) (by omega)
   simpa using this
  have hlen:(s.take k).length=k:=by rw[List.length_take];omega
  have htrim:zm8 (s.take k) ([48,49,50,51,52,53,54,55,56,57,97,98,99,100,101,102,65,66,67,68,69,70]:Str)=some (Lib.trimS (s.take k) zGg,()):=by
   unfold zm8 zgS
   rw[yL ⟨by omega,by decide,by decide⟩];rfl
  have hsome:=zBa (s.take k) 0
  rw[hlen,zzQ k s 0 (by omega)]at hsome
  simp only[c,decide_false,qz2,yA,hcut,qz1,htrim,zNO,<-hsome]
  cases hn:hexN k s 0 with
  |none=>exact⟨_,rfl,rfl⟩
  |some n=>
   have hparse:=zxc (s.take k) n (by intro h;rw[h]at hlen;simp at hlen;omega) (by omega) (by rw[hlen,zzQ k s 0 (by omega)];exact hn)
   have hp2:za1 (s.take k) 16 16=some ((n:Int),zad.nil,()):=hparse
   have hn2:n<65536:=by
    have:=zvv _ _ _ _ hn
    rcases hk with rfl|rfl<;>omega
   have hend:=zc9 s k (by omega)
   have w:IntKind.wrap .i64 (n:Int)=(n:Int):=wrap_i64 (by omega) (by omega)
   have hbw:=zpR (enc1 n) (s.drop k) (zeC acc) (by simp only[zou];simp[enc1];omega)
   simp only[Option.isSome_some,yO,qz2,yA,hcut,qz1,hp2,hend,w,zjB n hn2,hbw]
   refine⟨_,rfl,?_⟩
   simp[zeC]
theorem zTr: ∀b:Fin 256,strings_IndexByte ([110,116,114,98,102,118]:Str) ((b.val:Nat):Int)=some (if b.val=110 then 0 else if b.val=116 then 1 else if b.val=114 then 2 else if b.val=98 then 3 else if b.val=102 then 4 else if b.val=118 then 5 else -1,()):=by decide+kernel
theorem zPL(b:UInt8):strings_IndexByte ([110,116,114,98,102,118]:Str) ((b.toNat:Nat):Int)=some (if b.toNat=110 then 0 else if b.toNat=116 then 1 else if b.toNat=114 then 2 else if b.toNat=98 then 3 else if b.toNat=102 then 4 else if b.toNat=118 then 5 else -1,()):=zTr ⟨b.toNat,b.toNat_lt⟩
theorem zOe(s:Str)(acc:List Nat)(hs:s.length<=100000000)(ha:acc.length<=100000000):
  ∃r,zfx s (zeC acc)=some r/\(match zq9 s with
   |none=>r.1=false
   |some (us,k)=>r=(true,s.drop k,zeC (acc++us),())):=by
 unfold zfx
 cases s with
 |nil=>exact⟨_,rfl,rfl⟩
 |cons c r=>
  have hb:=c.toNat_lt
  have g0:zaY (c::r) 0=some ((c.toNat:Nat):Int):=rfl
  have hcut:zaL (c::r) 1 (((c::r).length:Nat):Int)=some r:=by
   have:=zc9 (c::r) 1 (by simp)
   simpa using this
  have hr:r.length<=100000000:=by simp only[qz3]at hs;omega
  have write: ∀n:Nat,n<65536->zaH (enc1 n) r (zeC acc)=some (2,.nil,r,zeC (acc++[n]),()):=by
   intro n hn
   rw[zpR _ _ _ (by simp only[zou];simp[enc1];omega)]
   simp[zeC,enc1]
  have wi: ∀n:Nat,n<65536->IntKind.wrap .i64 (n:Int)=(n:Int):=λn hn=>wrap_i64 (by omega) (by omega)
  have c0:((c::r:Str)==([]:Str))=false:=rfl
  simp only[c0,qz2,yA,g0,qz1,hcut,zPL]
  have tn: ∀n:Nat,n<256->(c=UInt8.ofNat n↔c.toNat=n):=zs5 c
  have spec:zq9 (c::r)=if c.toNat=10 then some ([],1)else if c.toNat=48 then(match r with
   | []=>some ([0],1)
   |d::_=>if 48<=d.toNat/\d.toNat<=57 then none else some ([0],1))
   else if c.toNat=120 then(hexN 2 r 0).map λn=>([n],3)
   else if c.toNat=117 then(hexN 4 r 0).map λn=>([n],5)
   else(zmI c).map λn=>([n],1):=by
   simp only[zq9,<-tn 10 (by omega),<-tn 48 (by omega),<-tn 120 (by omega),<-tn 117 (by omega)];rfl
  have simp':zmI c=if c.toNat=110 then some 10 else if c.toNat=116 then some 9 else if c.toNat=114 then some 13 else if c.toNat=98 then some 8 else if c.toNat=102 then some 12 else if c.toNat=118 then some 11
    else if c.toNat>127\/c.toNat=13\/c.toNat=120\/c.toNat=117\/(48<=c.toNat/\c.toNat<=57)\/c.toNat=10 then none else some c.toNat:=by
   simp only[zmI,<-tn 110 (by omega),<-tn 116 (by omega),<-tn 114 (by omega),<-tn 98 (by omega),<-tn 102 (by omega),<-tn 118 (by omega),<-tn 13 (by omega),<-tn 120 (by omega),<-tn 117 (by omega),<-tn 10 (by omega)];rfl
  rw[spec,simp']
  clear spec simp' tn
  generalize hk:c.toNat=k at*
  have small: ∀(j m:Nat) (v:Int),v=(j:Int)->([10,9,13,8,12,11]:Str)[j]? =some (UInt8.ofNat m)->m<256->
    ∃r0,(if decide (v>=0)=true then
     Option.bind (zaY ([10,9,13,8,12,11]:Str) v) λv7=>
     Option.bind (zeW (IntKind.wrap .i64 v7)) λv8=>
     Option.bind (zaH v8.1 r (zeC acc)) λv9=>
     some (true,v9.2.2.1,v9.2.2.2.1,())else none)=some r0/\r0=(true,(c::r).drop 1,zeC (acc++[m]),()):=by
   intro j m v hv hj hm
   subst hv
   have cc:((j:Int)>=0):=by omega
   have e:(UInt8.ofNat m).toNat=m:=by simp[UInt8.toNat_ofNat'];omega
   simp only[cc,decide_true,yB,zmf,hj,Option.map_some,qz1,e,wi m (by omega),zjB m (by omega),write m (by omega)]
   exact⟨_,rfl,rfl⟩
  by_cases h110:k=110
  ·subst h110;simpa using small 0 10 0 rfl rfl (by omega)
  by_cases h116:k=116
  ·subst h116;simpa using small 1 9 1 rfl rfl (by omega)
  by_cases h114:k=114
  ·subst h114;simpa using small 2 13 2 rfl rfl (by omega)
  by_cases h98:k=98
  ·subst h98;simpa using small 3 8 3 rfl rfl (by omega)
  by_cases h102:k=102
  ·subst h102;simpa using small 4 12 4 rfl rfl (by omega)
  by_cases h118:k=118
  ·subst h118;simpa using small 5 11 5 rfl rfl (by omega)
  have m1: ¬((-1:Int)>=0):=by decide
  simp only[h110,h116,h114,h98,h102,h118,yA,m1,decide_false,qz2]
  have cc: ∀m:Nat,((k:Int)==((m:Nat):Int))=decide (k=m):=λm=>zow k m
  have c10:((k:Int)==10)=decide (k=10):=cc 10
  have c120:((k:Int)==120)=decide (k=120):=cc 120
  have c117:((k:Int)==117)=decide (k=117):=cc 117
  have c48:((k:Int)==48)=decide (k=48):=cc 48
  have c13:((k:Int)==13)=decide (k=13):=cc 13
  simp only[c10,c120,c117,c48,c13,yT]
  by_cases h10:k=10
  ·rw[yL h10,yL h10]
   exact⟨_,rfl,by simp⟩
  rw[yK h10,yK h10]
  by_cases h120:k=120
  ·have h48: ¬k=48:=by omega
   rw[yL h120,yK h48,yL h120]
   obtain⟨x,e1,e2⟩:=zEt r acc 2 (.inl rfl) hr ha
   have e1':zdf 2 r (zeC acc)=some x:=e1
   rw[e1']
   refine⟨_,rfl,?_⟩
   cases hn:hexN 2 r 0 with
   |none=>rw[hn]at e2;exact e2
   |some n=>rw[hn]at e2;simp only at e2;subst e2;simp
  rw[yK h120]
  by_cases h117:k=117
  ·have h48: ¬k=48:=by omega
   rw[yL h117,yK h48,yK h120,yL h117]
   obtain⟨x,e1,e2⟩:=zEt r acc 4 (.inr rfl) hr ha
   have e1':zdf 4 r (zeC acc)=some x:=e1
   rw[e1']
   refine⟨_,rfl,?_⟩
   cases hn:hexN 4 r 0 with
   |none=>rw[hn]at e2;exact e2
   |some n=>rw[hn]at e2;simp only at e2;subst e2;simp
  rw[yK h117]
  by_cases h48:k=48
  ·rw[yL h48,yL h48]
   have w0:=write 0 (by omega)
   have u0:zeW 0=some (enc1 0,()):=zjB 0 (by omega)
   simp only[u0,qz1,w0]
   cases r with
   |nil=>exact⟨_,rfl,by simp⟩
   |cons d r'=>
    have gd0:zaY (d::r') 0=some ((d.toNat:Nat):Int):=rfl
    have cn:((d::r':Str)==([]:Str))=false:=rfl
    simp only[cn,qz2,yA,gd0,qz1]
    by_cases hd1:d.toNat<48
    ·have cd:((d.toNat:Nat):Int)<48:=by omega
     have cd2: ¬(48<=d.toNat/\d.toNat<=57):=by omega
     simp only[cd,decide_true,yB,cd2,yA]
     exact⟨_,rfl,by simp⟩
    ·have cd: ¬((d.toNat:Nat):Int)<48:=by omega
     simp only[cd,decide_false,qz2,yA]
     by_cases hd2:d.toNat<=57
     ·have cd2:(48<=d.toNat/\d.toNat<=57):=by omega
      have cd3: ¬((d.toNat:Nat):Int)>57:=by omega
      simp only[cd2,and_self,yB,cd3,decide_false]
      exact⟨_,rfl,by simp⟩
     ·have cd2: ¬(48<=d.toNat/\d.toNat<=57):=by omega
      have cd3:((d.toNat:Nat):Int)>57:=by omega
      simp only[cd2,yA,cd3,decide_true]
      exact⟨_,rfl,by simp⟩
  rw[yK h48,yK h48,yK h120,yK h117]
  by_cases hbad:k>127\/k=13\/k=120\/k=117\/(48<=k/\k<=57)\/k=10
  ·have cb:((decide (k=13)||(decide ((k:Int)>=49)&&decide ((k:Int)<=57)))||decide ((k:Int)>=128))=true:=by
    simp only[yQ,qz4,yT];omega
   rw[yL hbad,cb,yL rfl]
   exact⟨_,rfl,rfl⟩
  ·have cb:((decide (k=13)||(decide ((k:Int)>=49)&&decide ((k:Int)<=57)))||decide ((k:Int)>=128))=false:=by
    simp only[Bool.or_eq_false_iff,Bool.and_eq_false_iff,decide_eq_false_iff_not];omega
   rw[yK hbad,cb,yK (by simp)]
   simp only[wi k (by omega),zjB k (by omega),qz1,write k (by omega)]
   exact⟨_,rfl,by simp⟩
theorem zCc(q:UInt8)(s0:Str)(hs:(q::s0).length<=100000000): ∀(m:Nat) (rest:Str) (acc:List Nat),rest.length<m->rest.length<=s0.length->acc.length+rest.length<=100000000->okU acc->
  zaF zgb m (q::s0,rest,zeC acc,())=some ((zuo q (q::s0) m rest acc).1,(zuo q (q::s0) m rest acc).2.1,(zuo q (q::s0) m rest acc).2.2,()):=by
 intro m
 induction m with
 |zero=>intro rest acc h;omega
 |succ m ih=>
  intro rest acc h1 h2 h3 h4
  cases rest with
  |nil=>exact zaJ rfl
  |cons c r=>
   have hb:=c.toNat_lt
   have g0:zaY (c::r) 0=some ((c.toNat:Nat):Int):=rfl
   have gq:zaY (q::s0) 0=some ((q.toNat:Nat):Int):=rfl
   have hcut:zaL (c::r) 1 (((c::r).length:Nat):Int)=some r:=by
    have:=zc9 (c::r) 1 (by simp)
    simpa using this
   have c0:((c::r:Str)==([]:Str))=false:=rfl
   have hq:((((c.toNat:Nat):Int))==((q.toNat:Nat):Int))=decide (c=q):=by rw[zow];simp[UInt8.toNat_inj]
   have u8b: ∀n:Nat,n<256->((((c.toNat:Nat):Int))==((n:Nat):Int))=decide (c=UInt8.ofNat n):=λn h=>by
    rw[zow,decide_eq_decide];exact(zs5 _ n h).symm
   have e10:((((c.toNat:Nat):Int))==10)=decide (c=10):=u8b 10 (by omega)
   have e13:((((c.toNat:Nat):Int))==13)=decide (c=13):=u8b 13 (by omega)
   have e92:((((c.toNat:Nat):Int))==92)=decide (c=92):=u8b 92 (by omega)
   have b92:((((c.toNat:Nat):Int)) !=92)= !decide (c=92):=by unfold bne;rw[e92]
   have w:IntKind.wrap .i64 ((((q::s0).length:Nat):Int) - ((r.length:Nat):Int))=(((q::s0).length -r.length:Nat):Int):=by
    have:r.length<=(q::s0).length:=by simp only[qz3]at h2⊢;omega
    rw[wrap_i64 (by omega) (by omega)];omega
   have head:zgb (q::s0,c::r,zeC acc,())=(if c=q then some (.inr (zeC acc,(((q::s0).length -r.length:Nat):Int),0,()))
     else
      if(c=10\/c=13\/c.toNat>127)then some (.inr ([],0,10,()))
      else
       if c=92 then
        Option.bind (zfx r (zeC acc)) λr_16=>
         if(!r_16.1)=true then some (Sum.inr (([]:Str),0,10,()))
         else some (Sum.inl (q::s0,r_16.2.1,r_16.2.2.1,()))
       else some (.inl (q::s0,r,zeC (acc++[c.toNat]),()))):=by
    simp only[zgb,c0,yN,yB,g0,gq,hcut,qz1,zgR,hq,e10,e13,e92,b92,w]
    by_cases hcq:c=q
    ·simp only[hcq,decide_true,yB]
    ·simp only[hcq,decide_false,qz2,yA]
     by_cases hbad:c=10\/c=13\/c.toNat>127
     ·have cb:((decide (c=10)||decide (c=13))||decide (((c.toNat:Nat):Int)>=128))=true:=by
       simp only[yQ,yT]
       rcases hbad with h|h|h
       ·exact .inl (.inl h)
       ·exact .inl (.inr h)
       ·right;omega
      rw[cb,yL hbad]
      rfl
     ·have cb:((decide (c=10)||decide (c=13))||decide (((c.toNat:Nat):Int)>=128))=false:=by
       simp only[Bool.or_eq_false_iff,decide_eq_false_iff_not]
       refine⟨⟨λh=>hbad (.inl h),λh=>hbad (.inr (.inl h))⟩,λh=>hbad (.inr (.inr (by omega)))⟩
      rw[cb,yK hbad]
      simp only[qz2,yA]
      by_cases h92:c=92
      ·simp only[h92,decide_true,yB,yO,qz2,yA]
      ·have w2:IntKind.wrap .i64 ((c.toNat:Nat):Int)=((c.toNat:Nat):Int):=wrap_i64 (by omega) (by omega)
       have hw:=zpR (enc1 c.toNat) r (zeC acc) (by simp only[zou];simp[enc1];omega)
       simp only[h92,decide_false,qz2,yA,yN,yB,w2,zjB c.toNat (by omega),qz1,hw]
       simp[zeC]
   by_cases hcq:c=q
   ·rw[yL hcq]at head
    refine(zaJ head).trans ?_
    unfold zuo zhs
    simp only[hcq,yB]
   ·rw[yK hcq]at head
    by_cases hbad:c=10\/c=13\/c.toNat>127
    ·rw[yL hbad]at head
     refine(zaJ head).trans ?_
     unfold zuo zhs
     simp only[hcq,hbad,yB,yA]
    ·rw[yK hbad]at head
     by_cases h92:c=92
     ·rw[yL h92]at head
      obtain⟨x,e1,e2⟩:=zOe r acc (by simp only[qz3]at h3;omega) (by omega)
      rw[e1]at head
      simp only[qz1]at head
      cases hesc:zq9 r with
      |none=>
       rw[hesc]at e2
       simp only at e2
       rw[e2]at head
       refine(zaJ head).trans ?_
       unfold zuo zhs
       rw[yK hcq,yK hbad,yL h92,hesc]
      |some p=>
       obtain⟨us,k⟩:=p
       rw[hesc]at e2
       simp only at e2
       obtain⟨p1,p2,p3,p4⟩:=zOo hesc
       subst e2
       have hgo:zgb (q::s0,c::r,zeC acc,())=some (.inl (q::s0,r.drop k,zeC (acc++us),())):=head
       have hacc:okU (acc++us):=by
        intro n hn
        rcases List.mem_append.mp hn with h|h
        · exact h4 n h
        · exact p1 n h
       simp only[qz3]at h1 h2 h3
       have g1:=ih (r.drop k) (acc++us) (by simp;omega) (by simp;omega) (by simp;omega) hacc
       refine(zbT hgo).trans (g1.trans ?_)
       unfold zuo
       conv=>rhs;unfold zhs
       rw[yK hcq,yK hbad,yL h92,hesc]
     ·rw[yK h92]at head
      have hacc:okU (acc++[c.toNat]):=by
       intro n hn
       rcases List.mem_append.mp hn with h|h
       ·exact h4 n h
       ·simp at h;omega
      simp only[qz3]at h1 h2 h3
      have g1:=ih r (acc++[c.toNat]) (by omega) (by omega) (by simp;omega) hacc
      refine(zbT head).trans (g1.trans ?_)
      unfold zuo
      conv=>rhs;unfold zhs
      rw[yK hcq,yK hbad,yK h92]
theorem zFD(s:Str)(hs:s.length<=100000000):zqL s=some ((zfJ s).1,(zfJ s).2.1,(zfJ s).2.2,()):=by
 unfold zqL
 cases s with
 |nil=>rfl
 |cons q s0=>
  have gq:zaY (q::s0) 0=some ((q.toNat:Nat):Int):=rfl
  have c0:((q::s0:Str)==([]:Str))=false:=rfl
  have b39:(((q.toNat:Nat):Int) !=39)= !decide (q=39):=zNI q 39 (by omega)
  have b34:(((q.toNat:Nat):Int) !=34)= !decide (q=34):=zNI q 34 (by omega)
  have hcut:zaL (q::s0) 1 (((q::s0).length:Nat):Int)=some s0:=by
   have:=zc9 (q::s0) 1 (by simp)
   simpa using this
  simp only[c0,qz2,yA,gq,qz1,b39,b34,hcut]
  have good:(q=39\/q=34)->Lp.loop zgb (q::s0,s0,[],())=some ((zfJ (q::s0)).1,(zfJ (q::s0)).2.1,(zfJ (q::s0)).2.2,()):=by
   intro hq
   have g1:=zCc q s0 hs (s0.length+1) s0 [] (by omega) (by omega) (by simp only[qz3]at hs;simp;omega) (by intro n hn;cases hn)
   have hfin:zfJ (q::s0)=zuo q (q::s0) (s0.length+1) s0 []:=by
    unfold zfJ zuo
    simp only[hq,yB]
   rw[hfin]
   simp only[qz3]at hs
   exact zdu g1 (by omega)
  by_cases h39:q=39
  ·have d39:decide (q=39)=true:=by rw[yT];exact h39
   simp only[d39,yO,qz2,yA,qz1]
   exact good (.inl h39)
  ·have d39:decide (q=39)=false:=by rw[decide_eq_false_iff_not];exact h39
   simp only[d39,yN,yB]
   by_cases h34:q=34
   ·have d34:decide (q=34)=true:=by rw[yT];exact h34
    simp only[d34,yO,qz1,qz2,yA]
    exact good (.inr h34)
   ·have d34:decide (q=34)=false:=by rw[decide_eq_false_iff_not];exact h34
    have:zfJ (q::s0)=([],0,10):=by
     unfold zfJ;simp only[h39,h34,or_self,yA]
    rw[this]
    simp only[d34,yN]
    rfl
theorem zRS(s:Str)(n:Nat)(c:UInt8)(h:s[n]? =some c):zaY s (n:Int)=some ((c.toNat:Nat):Int):=by
 unfold zaY;rw[yL (by omega)];simp[h]
theorem zDS{α:Type}[BEq α][LawfulBEq α][DecidableEq α](a b:α):(a==b)=decide (a=b):=by
 rw[Bool.eq_iff_iff];simp
def zLb(o:Nat)(t:Str)(k:Int)(x:zZ):Int×Int×zZ×Unit:=match okN o t 0 with
 |some r=>((r:Int),k,x,())
 |none=>(0,0,x,())
theorem zE9(o:Nat)(ho:o=10\/o=16)(t:Str)(h0:t≠[])(ht:t.length<=1000000000)(k:Int)(x:zZ):(Option.bind (za1 t (o:Int) 53) λr_12=>
   if(!(r_12.2.1).isNil)=true then
    some ((0:Int),(0:Int),x,())
   else
    Option.bind (strings_Contains t ([95]:Str)) λr_13=>
    if r_13.1=true then
     some (0,0,x,())
    else
     some ((IntKind.wrap .i64 r_12.1),k,x,()))=some (zLb o t k x):=by
 obtain⟨v,hv⟩:=zLL o ho t h0 ht
 rw[hv]
 unfold zLb
 cases hk:okN o t 0 with
 |none=>rfl
 |some r=>
   have hr:r<=9007199254740991/\zec o t 0=some r:=by
     unfold okN at hk
     split at hk
     · cases hk
     · split at hk
       · rename_i h1 h2;cases hk;exact⟨h2,h1⟩
       · cases hk
   simp only[qz1,zad.isNil,yO,qz2,yA]
   rw[zzp t [95] ht,zpy,zB2 t 0 r hr.2]
   simp only[qz1,qz2,yA]
   rw[wrap_i64 (by omega) (by omega)]
def zPZ(o:Nat)(t:Str)(k:Int)(x:zZ):Int×Int×zZ×Unit:=match zec o t 0 with
 |some n=>if n<=9007199254740991 then((n:Int),k,x,())else(0,0,x,())
 |none=>(0,0,x,())
theorem zOu(o:Nat)(t:Str)(k:Int)(x:zZ):zLb o t k x=zPZ o t k x:=by
 unfold zLb zPZ okN
 cases zec o t 0 with
 |none=>rfl
 |some n=>by_cases hm:n<=9007199254740991<;>simp only[hm,yB,yA]
theorem zJS(ds:Str)(kk:Int)(x:zZ)(hdl:ds.length<=1000000000)(hz:ds=[]->kk=0):(Option.bind (
    if(decide (((ds.length:Nat):Int)>2))=true then
     Option.bind (zaL ds 0 2) λs_7=>
     Option.bind (
       if(s_7==([48,120]:Str))=true then
        some true
       else
        Option.bind (zaL ds 0 2) λs_8=>
        some (s_8==([48,88]:Str))) λb_9=>
     some b_9
    else
     some false) λb_10=>
  if b_10=true then
   Option.bind (zaL ds 2 ((ds.length:Nat):Int)) λs_11=>
   Option.bind (za1 s_11 16 53) λr_12=>
   if(!(r_12.2.1).isNil)=true then
    some (0,0,x,())
   else
    Option.bind (strings_Contains s_11 ([95]:Str)) λr_13=>
    if r_13.1=true then
     some (0,0,x,())
    else
     some ((IntKind.wrap .i64 r_12.1),kk,x,())
  else
   Option.bind (
     if(decide (((ds.length:Nat):Int)>1))=true then
      Option.bind (zaY ds 0) λc_15=>
      some (c_15==48)
     else
      some false) λb_16=>
   if b_16=true then
    some (0,0,x,())
   else
    Option.bind (za1 ds 10 53) λr_17=>
    if(!(r_17.2.1).isNil)=true then
     some (0,0,x,())
    else
     Option.bind (strings_Contains ds ([95]:Str)) λr_18=>
     if r_18.1=true then
      some (0,0,x,())
     else
      some ((IntKind.wrap .i64 r_17.1),kk,x,()))=some (match zBh ds with
     |some n=>if n<=9007199254740991 then((n:Int),kk,x,())else(0,0,x,())
     |none=>(0,0,x,())):=by
 have h10:(Option.bind (za1 ds 10 53) λr_17=>
    if(!(r_17.2.1).isNil)=true then
     some ((0:Int),(0:Int),x,())
    else
     Option.bind (strings_Contains ds ([95]:Str)) λr_18=>
     if r_18.1=true then
      some (0,0,x,())
     else
      some ((IntKind.wrap .i64 r_17.1),kk,x,()))=some (zPZ 10 ds kk x):=by
   by_cases h0:ds=[]
   · rw[hz h0];subst h0;rfl
   · rw[<-zOu];exact zE9 10 (.inl rfl) ds h0 hdl kk x
 have hno:(Option.bind (
   if(decide (((ds.length:Nat):Int)>1))=true then
    Option.bind (zaY ds 0) λc_15=>
    some (c_15==48)
   else
    some false) λb_16=>
 if b_16=true then
  some (0,0,x,())
 else
  Option.bind (za1 ds 10 53) λr_17=>
  if(!(r_17.2.1).isNil)=true then
   some (0,0,x,())
  else
   Option.bind (strings_Contains ds ([95]:Str)) λr_18=>
   if r_18.1=true then
    some (0,0,x,())
   else
    some ((IntKind.wrap .i64 r_17.1),kk,x,()))=some (match(if 1<ds.length/\ds.head?=some 48 then none else zec 10 ds 0)with
     |some n=>if n<=9007199254740991 then((n:Int),kk,x,())else(0,0,x,())
     |none=>(0,0,x,())):=by
   by_cases h1:1<ds.length
   · have d1:(((ds.length:Nat):Int)>1):=by omega
     cases hdd:ds with
     |nil=>rw[hdd]at h1;simp at h1
     |cons a r=>
       rw[hdd]at d1 h1 h10
       simp only[d1,decide_true,yB,zh0,qz1,h1,true_and,List.head?_cons,Option.some.injEq]
       have eb:((((a.toNat:Nat):Int))==48)=decide (a=48):=by
         have h48:(a=48)↔a.toNat=48:=by
          constructor
          ·intro e;subst e;rfl
          ·intro e;apply UInt8.toNat_inj.mp;rw[e];rfl
         rw[zDS,decide_eq_decide,h48];omega
       rw[eb]
       by_cases ha:a=48
       · simp only[ha,decide_true,yB]
       · simp only[ha,decide_false,qz2,yA];exact h10
   · have d1: ¬(((ds.length:Nat):Int)>1):=by omega
     simp only[d1,h1,decide_false,qz2,yA,false_and,qz1];exact h10
 unfold zBh
 by_cases h2:2<ds.length
 · have d2:(((ds.length:Nat):Int)>2):=by omega
   have hc2:zaL ds 0 2=some (ds.take 2):=by
     have:=zmd ds 0 2 (by omega) (by omega)
     simpa using this
   have hcd:zaL ds 2 ((ds.length:Nat):Int)=some (ds.drop 2):=zc9 ds 2 (by omega)
   have h16:=zE9 16 (.inr rfl) (ds.drop 2) (by
     intro e
     have:=congrArg List.length e
     simp only[List.length_drop,qz6]at this;omega) (by simp only[List.length_drop];omega) kk x
   rw[zOu]at h16
   simp only[d2,decide_true,yB,hc2,qz1]
   by_cases hx:ds.take 2=[48,120]
   · have bx:(ds.take 2==([48,120]:Str))=true:=by simpa using hx
     simp only[bx,yB,hcd,qz1,h2,hx,true_and,true_or]
     exact h16
   · have bx:(ds.take 2==([48,120]:Str))=false:=by simpa using hx
     by_cases hX:ds.take 2=[48,88]
     · have bX:(ds.take 2==([48,88]:Str))=true:=by simpa using hX
       simp only[bx,bX,qz2,yA,yB,hcd,qz1,h2,hX,true_and,or_true]
       exact h16
     · have bX:(ds.take 2==([48,88]:Str))=false:=by simpa using hX
       simp only[bx,bX,qz2,yA,h2,hx,hX,or_self,and_false,qz1]
       exact hno
 · have d2: ¬(((ds.length:Nat):Int)>2):=by omega
   simp only[d2,h2,decide_false,qz2,yA,false_and,qz1]
   exact hno
theorem zCy(c:zZ)(hs:c.rest.length<=1000000000):zhc c=some (match zrz c.rest with|some (n,k)=>((n:Int),(k:Int),c,())|none=>(0,0,c,())):=by
 obtain⟨src,s,fr⟩:=c
 simp only at hs⊢
 have hle:=zqU s
 unfold zhc
 simp only[zek]
 rw[zrW s hs,qz1]
 have hlen:(s.take (zbz s)).length=zbz s:=by rw[List.length_take];omega
 have hcut:zaL s 0 ((zbz s:Nat):Int)=some (s.take (zbz s)):=by
   have:=zmd s 0 (zbz s) (by omega) hle
   simpa using this
 simp only[hcut,qz1]
 generalize hds:s.take (zbz s)=ds at hlen
 have hdl:ds.length<=1000000000:=by omega
 have rest:=zJS ds ((zbz s:Nat):Int) ⟨src,s,fr⟩ hdl (λh=>by rw[h]at hlen;simp at hlen;omega)
 unfold zrz
 rw[hds]
 by_cases hlt:zbz s<s.length
 · have d:(((zbz s:Nat):Int)< ((s.length:Nat):Int)):=by omega
   have hx:s[zbz s]? =some s[zbz s]:=qz9 hlt
   have hg:zaY s ((zbz s:Nat):Int)=some ((s[zbz s].toNat:Nat):Int):=zRS s _ _ hx
   simp only[d,decide_true,yB,hg,qz1]
   rw[hx]
   have eb:((((s[zbz s].toNat:Nat):Int))==46)=decide (s[zbz s]=46):=by
     have h46:(s[zbz s]=46)↔s[zbz s].toNat=46:=by
       constructor
       · intro e;rw[e];rfl
       · intro e;apply UInt8.toNat_inj.mp;rw[e];rfl
     rw[zDS,decide_eq_decide,h46];omega
   rw[eb]
   by_cases h46:s[zbz s]=46
   · simp only[h46,decide_true,yB]
   · have hne: ¬(some s[zbz s]=some (46:UInt8)):=by simpa using h46
     simp only[h46,decide_false,hne,qz2,yA]
     rw[rest]
     cases zBh ds with
     |none=>rfl
     |some n=>by_cases hm:n<=9007199254740991<;>simp only[hm,yB,yA]
 · have d: ¬(((zbz s:Nat):Int)< ((s.length:Nat):Int)):=by omega
   have hx:s[zbz s]? =none:=List.getElem?_eq_none (by omega)
   simp only[d,decide_false,qz2,yA,qz1]
   rw[hx,rest]
   simp only[reduceCtorEq,yA]
   cases zBh ds with
   |none=>rfl
   |some n=>by_cases hm:n<=9007199254740991<;>simp only[hm,yB,yA]
theorem zG5(c:UInt8)(n:Nat)(h:n<256):((((c.toNat:Nat):Int))==((n:Nat):Int))=decide (c=UInt8.ofNat n):=by
 have e:(c=UInt8.ofNat n)↔c.toNat=n:=zs5 c n h
 rw[zDS,decide_eq_decide,e];omega
theorem zww(ws:List Str)(list s:Str)(hl:list=joined ws)(hw: ∀w∈ws,(32:UInt8)∉w)(hn:([]:Str)∉ws):zb7 list s=ws.contains s:=by
 subst hl
 unfold zb7
 cases hc:s.contains 32 with
 |true=>
  have:ws.contains s=false:=by
   rw[<-Bool.not_eq_true]
   intro h
   have hm:=hw s (by simpa using h)
   exact hm (by simpa using hc)
  rw[this];simp
 |false=>
  rw[zkd s (by simpa using hc) ws hw]
  cases s with
  |nil=>
   have:ws.contains ([]:Str)=false:=by rw[<-Bool.not_eq_true];intro h;exact hn (by simpa using h)
   rw[this];rfl
  |cons a r=>rfl
theorem zE0(s:Str):zwq s=zlc s:=zww zMM _ s (by decide+kernel) (by decide+kernel) (by decide+kernel)
theorem zL0(x:Str)(h:x.length<=1000000000):zgN ([32,61,61,61,32,33,61,61,32]:Str) x=some (zoB.contains x,()):=by
 rw[zoj _ _ (by decide) h,zww zoB _ x (by decide+kernel) (by decide+kernel) (by decide+kernel)]
theorem zMh(x:Str)(h:x.length<=1000000000):zgN ([32,60,61,32,62,61,32,61,61,32,33,61,32,43,43,32,45,45,32,38,38,32,124,124,32,43,61,32,45,61,32,42,61,32,47,61,32,37,61,32]:Str) x=some (zqJ.contains x,()):=by
 rw[zoj _ _ (by decide) h,zww zqJ _ x (by decide+kernel) (by decide+kernel) (by decide+kernel)]
def zGb(r:Option (zu×Int×zZ×Unit))(c:zZ)(o:Option (Tok×Nat)):Prop:=match o with
 |some (t,n)=>r=some (t,(n:Int),c,())
 |none=>∃t,r=some (t,0,c,())
theorem zIA(c:zZ)(h0:c.rest≠[])(hs:c.rest.length<=100000000):zGb (zfE c) c (zjs c.rest):=by
 obtain⟨src,s,fr⟩:=c
 simp only at h0 hs⊢
 cases s with
 |nil=>exact absurd rfl h0
 |cons b r=>
  have hrow:=zrW (b::r) (by omega)
  have hle:=zqU (b::r)
  have hcut: ∀k:Nat,k<=(b::r).length->zaL (b::r) 0 (k:Int)=some ((b::r).take k):=by
   intro k hk
   have:=zmd (b::r) 0 k (by omega) hk
   simpa using this
  unfold zfE zjs
  simp only[zh0,qz1,zkh,zob,zek]
  by_cases hl:isLet b=true
  ·simp only[hl,yB,hrow,qz1]
   by_cases h32:32<zbz (b::r)
   ·have d:(((zbz (b::r):Nat):Int)>32):=by omega
    simp only[d,h32,decide_true,yB]
    exact⟨_,rfl⟩
   ·have d: ¬(((zbz (b::r):Nat):Int)>32):=by omega
    simp only[d,h32,decide_false,qz2,yA,hcut _ hle,qz1]
    rw[zs9 _ (by simp only[List.length_take];omega),qz1,zE0]
    cases zlc ((b::r).take (zbz (b::r)))with
    |true=>simp only[yB];rfl
    |false=>simp only[qz2,yA];rfl
  ·have hl':isLet b=false:=by simpa using hl
   simp only[hl',qz2,yA]
   by_cases hd:zfO b=true
   ·have hn:=zCy ⟨src,b::r,fr⟩ (by simp only;omega)
    simp only at hn
    simp only[hd,yB,hn,qz1]
    cases zrz (b::r)with
    |none=>exact⟨_,rfl⟩
    |some p=>rfl
   ·have hd':zfO b=false:=by simpa using hd
    simp only[hd',qz2,yA]
    have b39:((((b.toNat:Nat):Int))==39)=decide (b=39):=zG5 b 39 (by omega)
    have b34:((((b.toNat:Nat):Int))==34)=decide (b=34):=zG5 b 34 (by omega)
    rw[b39,b34]
    by_cases hq:b=39\/b=34
    ·have dq:(decide (b=39)||decide (b=34))=true:=by simpa using hq
     simp only[dq,yB,hq,zFD (b::r) hs,qz1]
     generalize hx:zfJ (b::r)=q
     obtain⟨u,n,e⟩:=q
     have hb:=zEz hx
     simp only
     by_cases hn:n=0
     ·simp only[hn,yB];exact⟨_,rfl⟩
     ·simp only[hn,yA]
      have:((n.toNat:Nat):Int)=n:=by omega
      unfold zGb
      simp only[this]
    ·have dq:(decide (b=39)||decide (b=34))=false:=by simpa using hq
     simp only[dq,qz2,yA,hq]
     have hlast: ¬(2< (b::r).length/\zoB.contains ((b::r).take 3)=true)->¬(1< (b::r).length/\zqJ.contains ((b::r).take 2)=true)->
       zGb (zfw 0 (b::r) ((b.toNat:Nat):Int) ⟨src,b::r,fr⟩ ⟨0,[],0,0,false⟩) ⟨src,b::r,fr⟩ (if zdv (b::r)=0 then none else some (({Kind:=5,Text:=(b::r).take (zdv (b::r)),Num:=0,At:=0,Fresh:=false}:Tok),zdv (b::r))):=by
      intro n3 n2
      unfold zfw strings_IndexByte zd1
      simp only[ziX,Option.map_some,qz1,zek,zIU]
      have e1:(((b.toNat:Nat):Int)).toNat.toUInt8=b:=by simp
      have e2:=Lib.contains_iff_indexByte ([123,125,40,41,91,93,46,59,44,60,62,43,45,42,47,37,33,63,58,61]:Str) b
      have e3:zdv (b::r)=if zAn.contains b=true then 1 else 0:=by
       unfold zdv;rw[yK n3,yK n2];rfl
      rw[e1,e3]
      have e4:decide (Lib.indexByte ([123,125,40,41,91,93,46,59,44,60,62,43,45,42,47,37,33,63,58,61]:Str) b>=0)=zAn.contains b:=e2.symm
      rw[e4]
      cases zAn.contains b with
      |true=>
       simp only[yB]
       have:=hcut 1 (by simp)
       rw[show zaL (b::r) 0 1=_ from this]
       rfl
      |false=>
       simp only[qz2,yA]
       exact⟨_,rfl⟩
     have hmid: ¬(2< (b::r).length/\zoB.contains ((b::r).take 3)=true)->
       zGb (zfu 0 (b::r) ((b.toNat:Nat):Int) ⟨src,b::r,fr⟩ ⟨0,[],0,0,false⟩) ⟨src,b::r,fr⟩ (if zdv (b::r)=0 then none else some (({Kind:=5,Text:=(b::r).take (zdv (b::r)),Num:=0,At:=0,Fresh:=false}:Tok),zdv (b::r))):=by
      intro n3
      unfold zfu
      simp only[zek,zIU]
      by_cases h1:1< (b::r).length
      ·have d1:((((b::r).length:Nat):Int)>1):=by omega
       have hc2':zaL (b::r) 0 2=some ((b::r).take 2):=hcut 2 (by omega)
       simp only[d1,decide_true,yB,hc2',qz1,zMh _ (show((b::r).take 2).length<=1000000000 by simp only[List.length_take];omega)]
       cases hb:zqJ.contains ((b::r).take 2)with
       |true=>
        have e3:zdv (b::r)=2:=by
         unfold zdv;rw[yK n3,yL ⟨h1,hb⟩]
        rw[e3]
        simp only[yB]
        rfl
       |false=>exact hlast n3 (by rw[hb];simp)
      ·have d1: ¬((((b::r).length:Nat):Int)>1):=by omega
       simp only[d1,decide_false,qz2,yA]
       exact hlast n3 (by simp only[h1,false_and,not_false_eq_true])
     by_cases h2:2< (b::r).length
     ·have d2:((((b::r).length:Nat):Int)>2):=by omega
      have hc3':zaL (b::r) 0 3=some ((b::r).take 3):=hcut 3 (by omega)
      simp only[d2,decide_true,yB,hc3',qz1,zL0 _ (show((b::r).take 3).length<=1000000000 by simp only[List.length_take];omega)]
      cases hb:zoB.contains ((b::r).take 3)with
      |true=>
       have e3:zdv (b::r)=3:=by
        unfold zdv;rw[yL ⟨h2,hb⟩]
       rw[e3]
       simp only[yB]
       rfl
      |false=>exact hmid (by rw[hb];simp)
     ·have d2: ¬((((b::r).length:Nat):Int)>2):=by omega
      simp only[d2,decide_false,qz2,yA]
      exact hmid (by simp only[h2,false_and,not_false_eq_true])
theorem ztG(len:Nat)(p:Tok×Nat)(l:List (Tok×Nat)):zk1 len (p::l)=p.1.at_ ((len -p.2:Nat):Int)::zk1 len l:=rfl
theorem zPJ{a b:Nat}(h:b<=a)(ha:a<=1000000000000):IntKind.wrap .i64 ((a:Int) - (b:Int))=((a -b:Nat):Int):=by rw[wrap_i64 (by omega) (by omega)];omega
theorem zSq(l:List zu):zoH l=some (l,()):=by
 unfold zoH
 have:zGz l 0 ((l.length:Nat):Int) ((l.length:Nat):Int)=some l:=by
  unfold zGz
  simp
 rw[this];rfl
theorem zHf(src:Str)(hs:src.length<=100000000): ∀(m:Nat) (s:Str) (f0:Bool) (out:List Tok),s.length<m->s.length<=src.length->out.length+s.length<=src.length->
  match zjY m s false with
   | .inl l=>zaF ziO m (src,⟨src,s,f0⟩,out,())=some (out++zk1 src.length l,0,0,())
   | .inr k=>k<=src.length/\zaF ziO m (src,⟨src,s,f0⟩,out,())=some ([],((src.length -k:Nat):Int),60,())
 |0,s,f0,out,h,_,_=>by omega
 |m+1,s,f0,out,hm,hsl,hout=>by
  have hb:=zCa ⟨src,s,f0⟩ (by simp only;omega)
  simp only at hb
  have hl:=zfH (s.length+1) s false
  rw[zjY]
  generalize hq:zcJ (s.length+1) s false=q at hb hl
  obtain⟨r,f,ok⟩:=q
  simp only at hb hl⊢
  have w:IntKind.wrap .i64 (((src.length:Nat):Int) - ((r.length:Nat):Int))=((src.length -r.length:Nat):Int):=zPJ (by omega) (by omega)
  have hstep:ziO (src,⟨src,s,f0⟩,out,())=(if ok=true then
    if(r==([]:Str))=true then
     some (.inr (out++[({Kind:=0,Text:=([]:Str),Num:=0,At:=((src.length -r.length:Nat):Int),Fresh:=f}:zu)],0,0,()))
    else Option.bind (zfE ⟨src,r,f⟩) λr_12=>
     if(r_12.2.1==0)=true then
      some (Sum.inr (([]:List zu),IntKind.wrap .i64 (((src.length:Nat):Int) - ((r_12.2.2.1.rest.length:Nat):Int)),60,()))
     else
      Option.bind (zaL r_12.2.2.1.rest r_12.2.1 ((r_12.2.2.1.rest.length:Nat):Int)) λs_17=>
      some (Sum.inl (src,(⟨r_12.2.2.1.src,s_17,r_12.2.2.1.fresh⟩:zZ),out++[(⟨r_12.1.Kind,r_12.1.Text,r_12.1.Num,((src.length -r.length:Nat):Int),r_12.2.2.1.fresh⟩:zu)],()))
   else some (.inr ([],((src.length -r.length:Nat):Int),60,()))):=by
   simp only[ziO,zek,hb,qz1,w,zSq]
   rw[zd0 (by simp only[qz3,qz6];omega)]
   simp only[qz1]
   cases ok with
   |false=>rfl
   |true=>
    simp only[yB]
    cases(r==([]:Str))with
    |true=>rfl
    |false=>
     simp only[qz2,yA]
     congr 1
     funext r_12
     rw[zd0 (by simp only[qz3,qz6];omega)]
     rfl
  cases ok with
  |false=>
   simp only[qz2,yA]at hstep
   simp only[yB]
   exact⟨by omega,zaJ hstep⟩
  |true=>
   simp only[yB]at hstep
   simp only[Bool.true_eq_false,yA]
   by_cases hr:r=[]
   ·subst hr
    simp only[beq_self_eq_true,yB]at hstep
    simp only[yB]
    exact zaJ hstep
   ·have br:(r==([]:Str))=false:=by simpa using hr
    simp only[br,qz2,yA]at hstep
    simp only[hr,yA]
    have h1:=zIA ⟨src,r,f⟩ hr (by simp only;omega)
    simp only at h1
    cases ho:zjs r with
    |none=>
     rw[ho]at h1
     obtain⟨t,e1⟩:=h1
     rw[e1]at hstep
     simp only[qz1,beq_self_eq_true,yB,w]at hstep
     exact⟨by omega,zaJ hstep⟩
    |some p=>
     obtain⟨t,n⟩:=p
     rw[ho]at h1
     have e1:zfE ⟨src,r,f⟩=some (t,(n:Int),⟨src,r,f⟩,()):=h1
     rw[e1]at hstep
     have hn:=zoc ho
     have c0:((n:Int)==0)=false:=by rw[yH];omega
     have hcut:zaL r (n:Int) ((r.length:Nat):Int)=some (r.drop n):=zc9 r n hn.2.1
     simp only[qz1,c0,qz2,yA,hcut]at hstep
     have htok:(⟨t.Kind,t.Text,t.Num,((src.length -r.length:Nat):Int),f⟩:Tok)=(t.fresh f).at_ ((src.length -r.length:Nat):Int):=rfl
     rw[htok]at hstep
     have hdl:(r.drop n).length=r.length -n:=List.length_drop
     have g:=zHf src hs m (r.drop n) f (out++[(t.fresh f).at_ ((src.length -r.length:Nat):Int)]) (by omega) (by omega) (by simp only[qz5,qz3,qz6];omega)
     dsimp only
     cases hc:zjY m (r.drop n) false with
     |inl l=>
       rw[hc]at g
       simp only at g⊢
       refine(zbT hstep).trans (g.trans ?_)
       rw[ztG]
       simp
     |inr k=>
       rw[hc]at g
       exact⟨g.1,(zbT hstep).trans g.2⟩
theorem zIf(src:Str)(hs:src.length<=100000000):ztj src=some ((zjU src).1,(zjU src).2.1,(zjU src).2.2,()):=by
 unfold ztj zjU
 by_cases h:4096<src.length
 ·have d:(((src.length:Nat):Int)>4096):=by omega
  simp only[d,h,decide_true,yB]
 ·have d: ¬(((src.length:Nat):Int)>4096):=by omega
  simp only[d,h,decide_false,qz2,yA]
  have g:=zHf src hs (src.length+1) src false [] (by omega) (by omega) (by simp)
  cases hc:zjY (src.length+1) src false with
  |inl l=>
   rw[hc]at g
   exact(zdu g (by omega)).trans rfl
  |inr k=>
   rw[hc]at g
   exact(zdu g.2 (by omega)).trans rfl
end Go.D08.U
namespace Go.D08
open Go Go.Gw Go.Dn
def i64(n:Int):Prop:= -9223372036854775808<=n/\n<9223372036854775808
theorem zMT{n:Int}(h:(Lit.int .i64 n).wf=true):i64 n:=by
 simp only[Lit.wf,qz4,yT]at h
 have e1:IntKind.min .i64= -9223372036854775808:=by decide
 have e2:IntKind.max .i64=9223372036854775807:=by decide
 rw[e1,e2]at h
 exact⟨h.1,by omega⟩
mutual
def okN:Node->Prop
 | ⟨k,_,m,_,_,l⟩=>i64 k/\i64 m/\okL l
def okL:List Node->Prop
 | []=>True
 |x::r=>okN x/\okL r
end
mutual
def zU:Node->Nat
 | ⟨_,n,_,t,ns,l⟩=>n.length+t.length+(ns.map λs=>s.length+1).sum+zaK l+7
def zaK:List Node->Nat
 | []=>0
 |x::r=>zU x+zaK r
end
theorem zNy: ∀{l:List Node},(∀x∈l,okN x)->okL l
 | [],_=>trivial
 |x::r,h=>⟨h x qz7,zNy λy hy=>h y (qz8 _ hy)⟩
theorem zEJ: ∀l:List Node,zaK l=(l.map zU).sum
 | []=>by simp[zaK]
 |x::r=>by simp[zaK,zEJ r]
mutual
theorem zkI: ∀x:Node,zjj x<=zU x
 | ⟨_,_,_,_,_,l⟩=>by simp only[zjj,zU];have:=zB3 l;omega
theorem zB3: ∀l:List Node,zlY l<=zaK l
 | []=>by simp[zlY]
 |x::r=>by simp only[zlY,zaK];have:=zkI x;have:=zB3 r;omega
end
theorem zrp: ∀l:List Str,l.length<=(l.map λs=>s.length+1).sum
 | []=>by simp
 |x::r=>by simp only[qz3,List.map_cons,List.sum_cons];have:=zrp r;omega
mutual
theorem zxb: ∀x:Node,zoM x<=zU x
 | ⟨_,_,_,_,ns,l⟩=>by simp only[zoM,zU];have:=zAW l;have:=zrp ns;omega
theorem zAW: ∀l:List Node,zo9 l<=zaK l
 | []=>by simp[zo9]
 |x::r=>by simp only[zo9,zaK];have:=zxb x;have:=zAW r;omega
end
theorem zaA(x:Node):zU x=x.Name.length+x.Text.length+(x.Names.map λs=>s.length+1).sum+zaK x.L+7:=by cases x;simp[zU]
theorem za4{x:Node}: ∀{l:List Node},x∈l->zU x<=zaK l
 |y::r,h=>by
  simp only[zaK]
  rcases yP.1 h with rfl|h
  ·omega
  ·have:=za4 h;omega
theorem zmh: ∀l:List Node,l.length<=zaK l
 | []=>by simp
 |x::r=>by simp only[zaK,qz3];have:=zmh r;have:=zaA x;omega
theorem zIc{s:Str}: ∀{l:List Str},s∈l->s.length<=(l.map λs=>s.length+1).sum
 |y::r,h=>by
  simp only[List.map_cons,List.sum_cons]
  rcases yP.1 h with rfl|h
  ·omega
  ·have:=zIc h;omega
end Go.D08
namespace Go.D08
open Go Go.Gw Go.Dn
set_option maxRecDepth 100000
def zfV(l:Str):Str:=l.takeWhile (· !=42)
def zor(l:Str):Str:=(l.dropWhile (· !=42)).drop 1
theorem zCp{α:Type}(p:α->Bool): ∀l:List α,l.take (l.takeWhile p).length=l.takeWhile p/\l.drop (l.takeWhile p).length=l.dropWhile p
 | []=>by simp
 |a::l=>by
  rw[List.takeWhile_cons,List.dropWhile_cons]
  have:=zCp p l
  cases p a<;>simp[this]
theorem zDW(l:Str)(hl:l.length<=1000):strings_Cut l [42]=some (zfV l,zor l,l.contains 42,()):=by
 obtain⟨t1,t2⟩:=zCp (λc:UInt8=>c !=42) l
 have hlen:(l.takeWhile (· !=42)).length+(l.dropWhile (· !=42)).length=l.length:=by rw[<-qz5,List.takeWhile_append_dropWhile]
 have hx:stringslite_Index l [42]=some (Lib.index l [42],()):=by simp only[stringslite_Index,zdZ,show l.length<4294967281 by omega,yB,ziX]
 unfold strings_Cut stringslite_Cut
 simp only[hx,qz1,zCP]
 cases hc:l.contains 42 with
 |true=>
  have h1:(decide ((((l.takeWhile (· !=42)).length:Nat):Int)>=0))=true:=by simpa using by omega
  have h2:1<=(l.dropWhile (· !=42)).length:=by
   rcases Nat.eq_zero_or_pos (l.dropWhile (· !=42)).length with h|h
   ·exfalso
    have hd:l.dropWhile (· !=42)=[]:=List.length_eq_zero_iff.1 h
    have hm:(42:UInt8)∈l:=by simpa using hc
    have ht:l.takeWhile (· !=42)=l:=by have:=List.takeWhile_append_dropWhile (p:=λc:UInt8=>c !=42) (l:=l);rw[hd,List.append_nil]at this;exact this
    rw[<-ht]at hm
    have:=List.all_takeWhile (p:=λc:UInt8=>c !=42) (l:=l)
    have h3:=List.all_eq_true.1 this 42 hm
    simp at h3
   ·exact h
  have e:(((l.takeWhile (· !=42)).length:Nat):Int)+((([42]:Str).length:Nat):Int)=(((l.takeWhile (· !=42)).length+1:Nat):Int):=by simp
  simp only[yB,h1]
  rw[show zaL l 0 (((l.takeWhile (· !=42)).length:Nat):Int)=some (l.takeWhile (· !=42)) by
   have:=zmd l 0 (l.takeWhile (· !=42)).length (Nat.zero_le _) (by omega)
   simpa [t1]using this]
  rw[e,wrap_i64 (by omega) (by omega),zc9 l _ (by omega)]
  simp only[qz1,zfV,zor]
  rw[<-t2,List.drop_drop]
 |false=>
  have hm: ¬(42:UInt8)∈l:=by simpa using hc
  have hd:l.takeWhile (· !=42)=l:=by
   have: ∀m:Str,(42:UInt8)∉m->m.takeWhile (· !=42)=m:=by
    intro m
    induction m with
    |nil=>intro _;rfl
    |cons a r ih=>
     intro h
     simp only[yP,not_or]at h
     rw[List.takeWhile_cons,ih h.2]
     have:(a !=42)=true:=by simpa using λe=>h.1 e.symm
     rw[this];rfl
   exact this l hm
  have h4:l.dropWhile (· !=42)=[]:=by
   have:=hlen;rw[hd]at this;exact List.length_eq_zero_iff.1 (by omega)
  simp[zfV,zor,hd,h4]
abbrev Form:=zc3
def zCO(f:Form):Bool:=decide (f.name.length<=100)&&(decide (f.l.length<=10)&&(!(f.l.contains 42)|| !(zor f.l==([]:Str))))
theorem zQO{i:Int}(h0:0<=i)(h1:i<=1):zaL ([101]:Str) 0 i=some (if i=1 then[101]else[]):=by
 rcases(show i=0\/i=1 by omega)with rfl|rfl<;>rfl
theorem zKf{i:Int}(h0:2<=i)(h1:i<=3):zaL ([101,98,98]:Str) 0 i=some (if i=3 then[101,98,98]else[101,98]):=by
 rcases(show i=2\/i=3 by omega)with rfl|rfl<;>rfl
theorem zF9(n:Nat):0<=(if 1< ((n:Nat):Int)then(1:Int)else(n:Int))/\(if 1< ((n:Nat):Int)then(1:Int)else(n:Int))<=1:=by split<;>omega
theorem zFV(n:Nat):2<=(let a:=(if 2>((n:Nat):Int)then(2:Int)else(n:Int));if 3<a then 3 else a)/\(let a:=(if 2>((n:Nat):Int)then(2:Int)else(n:Int));if 3<a then 3 else a)<=3:=by
 simp only;split<;>split<;>omega
def okO(o:Option (Form×Bool×Unit)):Bool:=match o with
 |some (f,_,_)=>zCO f
 |none=>false
theorem zKc{c:Prop}[Decidable c]{a b:Option (Form×Bool×Unit)}(h1:okO a=true)(h2:okO b=true):okO (if c then a else b)=true:=by split<;>assumption
theorem zRH{c:Prop}[Decidable c]{a b:Str}{n:Str}{m:Int}{t u v:Bool}(h1:okO (some (⟨n,m,t,u,a⟩,v,()))=true)(h2:okO (some (⟨n,m,t,u,b⟩,v,()))=true):okO (some (⟨n,m,t,u,if c then a else b⟩,v,()))=true:=by split<;>assumption
theorem zHm{o:Option (Form×Bool×Unit)}(h:okO o=true): ∃f b,o=some (f,b,())/\zCO f=true:=by
 match o,h with
 |some (f,b,()),h=>exact⟨f,b,rfl,h⟩
theorem zDK(n:Node):okO (zK n)=true:=by
 unfold zK
 simp only[zQO (zF9 _).1 (zF9 _).2,zKf (zFV _).1 (zFV _).2,qz1]
 repeat' (first|apply zKc|apply zRH|rfl)
theorem zRO(n:Node): ∃f b,zaE n=some (f,b,())/\zCO f=true:=by
 refine zHm ?_
 obtain⟨f,b,h1,h2⟩:=zHm (zDK n)
 unfold zaE
 simp only[zq,h1,qz1,zL,zq]
 repeat' (first|apply zKc|exact h2|rfl)
def zan(n:Node):Option Form:=match zaE n with
 |some (f,true,())=>some f
 |_=>none
def zaV(n:Node)(w:Str):Bool:=
 if(w==([]:Str))=true then n.Name==([]:Str)
 else if(w==([110]:Str))=true then zbN n.Name
 else if(w==([109]:Str))=true then n.Name==([]:Str)||zbN n.Name
 else if(w==([105]:Str))=true then zfr n.Name
 else if(w==([99]:Str))=true then(if(match n.L[1]? with|some x=>x.Kind==25|none=>false)=true then zbN n.Name else n.Name==([]:Str))
 else zb7 w n.Name
theorem zOW(n:Node)(w:Str)(hw:w.length<=100)(hn:n.Name.length<=1000000000)(hl:n.L.length<=1000000000):zqh n w=some (zaV n w,()):=by
 unfold zqh zaV
 simp only[zvm _ hn,zrM _ hn,zxu w _ (by omega) hn,qz1]
 split
 ·rfl
 ·split
  ·rfl
  ·split
   ·cases n.Name==([]:Str)<;>rfl
   ·split
    ·rfl
    ·split
     ·by_cases h:1<n.L.length
      ·have h1:(decide (((n.L.length:Nat):Int)>1))=true:=by simpa using by omega
       have h2:zN n.L 1=some n.L[1]:=by have:=zjh n.L 1;rw[qz9 h]at this;exact this
       simp only[h1,yB,h2,qz1,qz9 h]
       cases n.L[1].Kind==25<;>rfl
      ·have h1:(decide (((n.L.length:Nat):Int)>1))=false:=by simpa using by omega
       have h2:n.L[1]? =none:=List.getElem?_eq_none (by omega)
       simp only[h1,qz2,yA,qz1,h2]
     ·rfl
def zcp(k:Int):Bool:=decide (k>=1)&&(decide (k<=21)&&k !=9)
def zdr(k:Int):Bool:=(k==3||k==11)||k==12
def stK(k:Int)(fn:Bool):Bool:=(((decide (k>=22))&&(decide (k<=40)))&&(k !=23)&&(k !=37))&&((k !=39)||fn)
def isP(x:Node)(c:Int):Bool:=
 if(c==101)=true then zcp x.Kind
 else if(c==116)=true then zdr x.Kind
 else if(c==102)=true then zcp x.Kind||x.Kind==42
 else if(c==98)=true then x.Kind==25
 else if(c==99)=true then x.Kind==25||x.Kind==42
 else if(c==112)=true then x.Kind==9
 else if(c==100)=true then x.Kind==23
 else if(c==118)=true then(zcp x.Kind||x.Kind==42)||x.Kind==22
 else if(c==119)=true then zdr x.Kind||(x.Kind==22&&(match x.L with| [y]=>y.L.isEmpty|_=>false))
 else if(c==107)=true then x.Kind==37
 else if(c==115)=true then stK x.Kind false
 else if(c==120)=true then stK x.Kind true
 else false
theorem zgY(o:Option (Bool×Unit)):(Option.bind o λr=>some (r.1,()))=o:=by cases o<;>rfl
def zAl(g:zas)(x:Node)(b:Bool):Option (Bool×Unit):=if b=true then g.zbf x else some (false,())
theorem zM3(g:zas)(c k:Int)(x:Node):zgc g c k x=zAl g x (stK k (c==120)):=by
 unfold zgc zAl stK
 simp only[zq,zgY]
theorem zJK(x:Node):ze9 x=some (zdr x.Kind,()):=rfl
theorem zTQ(g:zas)(x:Node):zjA g x.Kind x=zAl g x (zdr x.Kind||(x.Kind==22&&(match x.L with| [y]=>y.L.isEmpty|_=>false))):=by
 unfold zjA zAl
 simp only[zq,zgY,zJK,qz1]
 cases zdr x.Kind with
 |true=>rfl
 |false=>
  cases x.Kind==22 with
  |false=>rfl
  |true=>
   cases hL:x.L with
   |nil=>rfl
   |cons y r=>
    cases r with
    |nil=>
     have:zN ([y]:List Node) 0=some y:=rfl
     simp only[List.length_singleton,show(((1:Nat):Int)==1)=true from rfl,Bool.and_self,yB,this,qz1,qz2,yA,Bool.false_or,Bool.true_and]
     cases hy:y.L with
     |nil=>rfl
     |cons z r=>
      have:((((z::r).length:Nat):Int)==0)=false:=by rw[yH];simp only[qz3];omega
      rw[this];rfl
    |cons z r=>
     have:((((y::z::r).length:Nat):Int)==1)=false:=by rw[yH];simp only[qz3];omega
     rw[this];rfl
theorem zSI(g:zas)(x:Node)(c:Int):zjG g x c=zAl g x (isP x c):=by
 have h0:zjG g x c=ziD g c x.Kind (zcp x.Kind) x:=by
  unfold zjG zcp
  simp only[zq]
  cases decide (x.Kind>=1)<;>cases decide (x.Kind<=21)<;>rfl
 rw[h0]
 unfold ziD zsp
 by_cases h101:c=101
 ·subst h101
  show(if zcp x.Kind=true then Option.bind (g.zbf (zA x)) (λr=>some (r.1,()))else some (false,()))=_
  rw[zgY,zq];rfl
 by_cases h116:c=116
 ·subst h116
  show(if zdr x.Kind=true then Option.bind (g.zbf (zA x)) (λr=>some (r.1,()))else some (false,()))=_
  rw[zgY,zq];rfl
 by_cases h102:c=102
 ·subst h102
  show(if(zcp x.Kind||x.Kind==42)=true then Option.bind (g.zbf (zA x)) (λr=>some (r.1,()))else some (false,()))=_
  rw[zgY,zq];rfl
 by_cases h98:c=98
 ·subst h98
  show(if(x.Kind==25)=true then Option.bind (g.zbf (zA x)) (λr=>some (r.1,()))else some (false,()))=_
  rw[zgY,zq];rfl
 by_cases h99:c=99
 ·subst h99
  show(if(x.Kind==25||x.Kind==42)=true then Option.bind (g.zbf (zA x)) (λr=>some (r.1,()))else some (false,()))=_
  rw[zgY,zq];rfl
 by_cases h112:c=112
 ·subst h112
  show(if(x.Kind==9)=true then Option.bind (g.zbf (zA x)) (λr=>some (r.1,()))else some (false,()))=_
  rw[zgY,zq];rfl
 by_cases h100:c=100
 ·subst h100
  show(if(x.Kind==23)=true then Option.bind (g.zbf (zA x)) (λr=>some (r.1,()))else some (false,()))=_
  rw[zgY,zq];rfl
 by_cases h118:c=118
 ·subst h118
  show(if((zcp x.Kind||x.Kind==42)||x.Kind==22)=true then Option.bind (g.zbf (zA x)) (λr=>some (r.1,()))else some (false,()))=_
  rw[zgY,zq];rfl
 by_cases h119:c=119
 ·subst h119
  show zjA g x.Kind x=_
  rw[zTQ];rfl
 by_cases h107:c=107
 ·subst h107
  show(if(x.Kind==37)=true then Option.bind (g.zbf (zA x)) (λr=>some (r.1,()))else some (false,()))=_
  rw[zgY,zq];rfl
 by_cases h115:c=115
 ·subst h115
  show zgc g 115 x.Kind x=_
  rw[zM3];rfl
 by_cases h120:c=120
 ·subst h120
  show zgc g 120 x.Kind x=_
  rw[zM3];rfl
 have k101:(c==101)=false:=by rw[yH];exact h101
 have k116:(c==116)=false:=by rw[yH];exact h116
 have k102:(c==102)=false:=by rw[yH];exact h102
 have k98:(c==98)=false:=by rw[yH];exact h98
 have k99:(c==99)=false:=by rw[yH];exact h99
 have k112:(c==112)=false:=by rw[yH];exact h112
 have k100:(c==100)=false:=by rw[yH];exact h100
 have k118:(c==118)=false:=by rw[yH];exact h118
 have k119:(c==119)=false:=by rw[yH];exact h119
 have k107:(c==107)=false:=by rw[yH];exact h107
 have k115:(c==115)=false:=by rw[yH];exact h115
 have k120:(c==120)=false:=by rw[yH];exact h120
 have e1:isP x c=false:=by simp only[isP,k101,k116,k102,k98,k99,k112,k100,k118,k119,k107,k115,k120,qz2,yA]
 rw[e1]
 unfold zsa
 rw[k101,yK (by decide)]
 unfold zrV
 rw[k116,yK (by decide)]
 unfold zsn
 rw[k102,yK (by decide)]
 unfold zsq
 rw[k98,yK (by decide)]
 unfold zrb
 rw[k99,yK (by decide)]
 unfold zsk
 rw[k112,yK (by decide)]
 unfold zrq
 rw[k100,yK (by decide)]
 unfold zpU
 rw[k118,yK (by decide)]
 unfold zpP
 rw[k119,yK (by decide)]
 unfold zpM
 rw[k107,yK (by decide)]
 unfold zpw
 rw[k115,yK (by decide)]
 unfold zpz
 rw[k120,yK (by decide)]
 rfl
def ziv(x k:Node):Bool:=(x.Kind==35&&k.Kind==42)||((x.Kind==36&&k.Kind==37)&&(match k.L with|y::_=>y.Kind==42| []=>false))
def zhT(x:Node)(ls:Str):List (Node×Bool)->Nat->Nat->Bool
 | [],_,e=>decide (e<2)
 | (k,b)::r,i,e=>match ls[min i (ls.length -1)]? with
   |none=>false
   |some c=>(isP k ((c.toNat:Nat):Int)&&b)&&zhT x ls r (i+1) (if ziv x k=true then e+1 else e)
def zwP(x:Node)(f:Form):Bool:=(zaV x f.name&&(decide (0<=x.Num)&&decide (x.Num<=f.num)))&&(((zhq x.Text&&(x.Text==([]:Str)||f.text))&&(x.Names.isEmpty||f.names))&&x.Names.all zbN)
def zi3(x:Node)(l:Str):Bool:=decide ((zfV l).length<=x.L.length)&&(l.contains 42||decide (x.L.length<=(zfV l).length))
def zzq(x:Node)(ks:List (Node×Bool)):Bool:=match zan x with
 |none=>false
 |some f=>(zwP x f&&zi3 x f.l)&&zhT x (zfV f.l++zor f.l) ks 0 0
mutual
def zat:Node->Bool
 | ⟨k,n,m,t,ns,l⟩=>zzq ⟨k,n,m,t,ns,l⟩ (zjN l)
def zjN:List Node->List (Node×Bool)
 | []=>[]
 |x::r=>(x,zat x)::zjN r
end
theorem zqX(x:Node):zat x=zzq x (zjN x.L):=by cases x;simp[zat]
theorem zMP{x:Node}(h:x.Kind=37):zan x=some ⟨[],0,false,false,[102,42,115]⟩:=by
 simp[zan,zaE,zK,h,zq,zq]
theorem zQz{x:Node}(h:zat x=true)(hk:x.Kind=37): ∃y r,x.L=y::r:=by
 rw[zqX]at h
 unfold zzq at h
 rw[zMP hk]at h
 cases hL:x.L with
 |cons y r=>exact⟨y,r,rfl⟩
 |nil=>
   exfalso
   simp only[qz4]at h
   have h2:=h.1.2
   unfold zi3 at h2
   rw[hL]at h2
   simp[zfV]at h2
theorem zEZ(g:zas)(x:Node)(fx ot:Str)(hg: ∀k∈x.L,∀c:Int,g.ziS k c=some (isP k c&&zat k,()))(hlen:x.L.length<=1000000000)(hf:fx.length<=1000)(ho:ot.length<=1000)(hls:x.L≠[]->fx++ot≠[]):
   ∀(r:List Node) (i e:Nat),x.L.drop i=r->e<=i->i<=x.L.length->zaF (zh8 g) (r.length+1) (fx,ot,(e:Int),x.L,((x.L.length:Nat):Int),(i:Int),x,())=some (zhT x (fx++ot) (zjN r) i e,())
 | [],i,e,hr,he,hil=>by
   have hi: ¬((i:Int)< (x.L.length:Int)):=by
     have:=congrArg List.length hr;simp at this;omega
   refine zaJ ?_
   simp only[zh8,hi,decide_false,qz2,yA,zjN,zhT]
   congr 3
   rw[decide_eq_decide]
   omega
 |k::r,i,e,hr,he,hil=>by
   obtain⟨h1,h2,h3⟩:=zh1 hr
   have hi:((i:Int)< (x.L.length:Int)):=by omega
   have hx:k∈x.L:=List.mem_of_mem_drop (hr▸qz7)
   have hne:fx++ot≠[]:=hls (λe=>by rw[e]at h3;simp at h3)
   have hpos:0< (fx++ot).length:=List.length_pos_iff.2 hne
   have hcat:zjR fx ot=some (fx++ot):=zqR (by omega)
   have hlt:min i ((fx++ot).length -1)< (fx++ot).length:=by omega
   have hle:(fx++ot).length<=2000:=by rw[qz5];omega
   have hmin:(if((((fx++ot).length:Nat):Int) -1)< (i:Int)then((((fx++ot).length:Nat):Int) -1)else(i:Int))=((min i ((fx++ot).length -1):Nat):Int):=by split<;>omega
   have hb:zaY (fx++ot) ((min i ((fx++ot).length -1):Nat):Int)=some ((((fx++ot)[min i ((fx++ot).length -1)]).toNat:Nat):Int):=by rw[zmf,qz9 hlt];rfl
   have hstep: ∀c:UInt8,(fx++ot)[min i ((fx++ot).length -1)]? =some c->zh8 g (fx,ot,(e:Int),x.L,((x.L.length:Nat):Int),(i:Int),x,())=
      if(isP k ((c.toNat:Nat):Int)&&zat k)=true then some (.inl (fx,ot,(((if ziv x k=true then e+1 else e):Nat):Int),x.L,((x.L.length:Nat):Int),((i+1:Nat):Int),x,()))else some (.inr (false,())):=λc hc=>by
     rw[qz9 hlt]at hc
     cases hc
     simp only[zh8,hi,decide_true,yB,h1,qz1,hcat,zq]
     rw[wrap_i64 (by omega) (by omega),hmin,hb]
     simp only[qz1,hg k hx]
     generalize hq:isP k _=q
     cases q with
     |false=>simp
     |true=>
      cases hm:zat k with
      |false=>simp
      |true=>
       simp only[Bool.and_self,yO,qz2,yA,yB]
       have w1:IntKind.wrap .i64 ((e:Int)+1)=((e+1:Nat):Int):=by rw[wrap_i64 (by omega) (by omega)];rfl
       have w2:IntKind.wrap .i64 ((i:Int)+1)=((i+1:Nat):Int):=by rw[wrap_i64 (by omega) (by omega)];rfl
       rw[w1,w2]
       unfold ziv
       cases hA:(x.Kind==35&&k.Kind==42)with
       |true=>simp
       |false=>
        cases hB:(x.Kind==36&&k.Kind==37)with
        |false=>simp
        |true=>
         simp only[qz4,beq_iff_eq]at hB
         obtain⟨y,r',hL⟩:=zQz hm hB.2
         have h0:zN (y::r') 0=some y:=rfl
         rw[hL,h0]
         cases hy:y.Kind==42<;>simp[hy]
   simp only[zjN,zhT]
   rw[qz9 hlt]
   have hs:=hstep _ (qz9 hlt)
   simp only
   cases hq:(isP k ((((fx++ot)[min i ((fx++ot).length -1)]).toNat:Nat):Int)&&zat k)with
   |false=>
     refine zaJ ?_
     rw[hs,hq];rfl
   |true=>
     rw[hq]at hs
     simp only[yB]at hs
     rw[qz3,zbT hs,zEZ g x fx ot hg hlen hf ho hls r (i+1) _ h2 (by split<;>omega) (by omega),Bool.true_and]
theorem zPm(g:zas)(x:Node)(hb:zU x<=2097152)(hg: ∀k∈x.L,∀c:Int,g.ziS k c=some (isP k c&&zat k,())):znu g x=some (zat x,()):=by
 have e:=zaA x
 have l1:=zmh x.L
 have l2:=zrp x.Names
 have l3: ∀s∈x.Names,s.length<=1000000000:=λs hs=>by have:=zIc hs;omega
 unfold znu
 rw[zqX]
 unfold zzq zan
 obtain⟨f,b,h1,h2⟩:=zRO x
 simp only[zCO,qz4,yT]at h2
 obtain⟨k1,k2,k3⟩:=h2
 rw[zq,h1]
 cases b with
 |false=>rfl
 |true=>
   simp only[qz1,yO,qz2,yA,zOW x f.name k1 (by omega) (by omega),zvh x.Text (by omega),ztw x.Names (by omega) l3,zDW f.l (by omega)]
   have d1:decide (x.Num<0)= !(decide (0<=x.Num)):=by rw[<-decide_not,decide_eq_decide];omega
   have d2:decide (x.Num>f.num)= !(decide (x.Num<=f.num)):=by rw[<-decide_not,decide_eq_decide];omega
   have d3:decide (((x.Names.length:Nat):Int)>0)= !x.Names.isEmpty:=by cases x.Names with
     |nil=>rfl
     |cons a l=>simp
   have d4:decide (((x.L.length:Nat):Int)< (((zfV f.l).length:Nat):Int))= !(decide ((zfV f.l).length<=x.L.length)):=by rw[<-decide_not,decide_eq_decide];omega
   have d5:decide (((x.L.length:Nat):Int)>(((zfV f.l).length:Nat):Int))= !(decide (x.L.length<=(zfV f.l).length)):=by rw[<-decide_not,decide_eq_decide];omega
   rw[d1,d2,d3,d4,d5]
   have hfx:(zfV f.l).length<=1000:=by
     have:(zfV f.l).length<=f.l.length:=List.IsPrefix.length_le (List.takeWhile_prefix _)
     omega
   have hot:(zor f.l).length<=1000:=by
     have:(zor f.l).length<=f.l.length:=by
      unfold zor
      rw[List.length_drop]
      have:=List.IsSuffix.length_le (List.dropWhile_suffix (l:=f.l) (λc:UInt8=>c !=42))
      omega
     omega
   have hloop:zi3 x f.l=true->Lp.loop (zh8 g) (zfV f.l,zor f.l,0,x.L,((x.L.length:Nat):Int),0,x,())=some (zhT x (zfV f.l++zor f.l) (zjN x.L) 0 0,()):=λhm=>by
     refine zdu (n:=x.L.length+1) ?_ (by omega)
     refine zEZ g x _ _ hg (by omega) hfx hot (λhne=>?_) x.L 0 0 rfl (yJ _) (Nat.zero_le _)
     intro he
     obtain⟨e1,e2⟩:=List.append_eq_nil_iff.1 he
     unfold zi3 at hm
     rw[e1]at hm
     simp only[qz4,yQ,yT,qz6]at hm
     rcases hm.2 with hm|hm
     ·rw[e2,hm]at k3;simp at k3
     ·exact hne (List.length_eq_zero_iff.1 (by omega))
   unfold zwP
   cases zaV x f.name with
   |false=>rfl
   |true=>
     cases decide (0<=x.Num)with
     |false=>rfl
     |true=>
      cases decide (x.Num<=f.num)with
      |false=>rfl
      |true=>
       cases zhq x.Text with
       |false=>rfl
       |true=>
        cases ht:(x.Text==([]:Str))<;>cases f.text<;>cases x.Names.isEmpty<;>cases f.names<;>cases x.Names.all zbN<;>try rfl
        all_goals
         simp only[yO,yN,Bool.or_false,Bool.or_true,Bool.and_true,Bool.and_false,Bool.true_and,Bool.false_and,qz2,yA,Bool.false_or,Bool.true_or]
         cases hm:zi3 x f.l with
         |true=>
          have hm':=hm
          unfold zi3 at hm'
          simp only[qz4]at hm'
          rw[hm'.1]
          have:(!f.l.contains 42&& !decide (x.L.length<=(zfV f.l).length))=false:=by
           cases hc:f.l.contains 42 with
           |true=>rfl
           |false=>rw[hc]at hm';simpa using hm'.2
          simp only[this,yO,Bool.or_false,qz2,yA,hloop hm,Bool.true_and]
         |false=>
          unfold zi3 at hm
          have:(!decide ((zfV f.l).length<=x.L.length)||(!f.l.contains 42&& !decide (x.L.length<=(zfV f.l).length)))=true:=by
           cases hc:decide ((zfV f.l).length<=x.L.length)with
           |false=>rfl
           |true=>
            rw[hc]at hm
            cases hc2:f.l.contains 42 with
            |true=>rw[hc2]at hm;simp at hm
            |false=>rw[hc2]at hm;simpa using hm
          simp only[this,yB,Bool.false_and]
theorem zQ7: ∀(n:Nat) (x:Node),2*zW x<=n->zU x<=2097152->(zdK n).zbf x=some (zat x,())
 |0,x,h,_=>by have:=zaR x;omega
 |1,x,h,_=>by have:=zaR x;omega
 |n+2,x,h,hb=>by
   have a1:=zaR x;have a2:=zaA x
   show znu (zdK (n+1)) x=_
   refine zPm _ x hb λk hk c=>?_
   show zjG (zdK n) k c=_
   rw[zSI,zAl]
   have hk2:=za4 hk
   have hk3:=zaT hk
   rw[zQ7 n k (by omega) (by omega)]
   cases isP k c<;>simp
theorem zJp(x:Node)(hb:zU x<=2097152):zbf x=some (zat x,()):=
 zQ7 _ x (by have:=zo5 x;have:=zkI x;show 2*zW x<=1000000000000;omega) hb
def znh(x:Node):Int:=if(x.Kind==41&&zat x)=true then(if zW x>64 then 31 else 0)else 70
theorem zFs(x:Node)(hb:zU x<=2097152):zqs x=some (znh x,()):=by
 unfold zqs znh
 have h1:=zkI x
 simp only[zq,zJp x hb,zyR x (by omega),qz1]
 cases hk:x.Kind==41 with
 |false=>
   have:(x.Kind !=41)=true:=by unfold bne;rw[hk];rfl
   simp[this]
 |true=>
   have:(x.Kind !=41)=false:=by unfold bne;rw[hk];rfl
   simp only[this,qz2,yA,Bool.true_and]
   cases zat x with
   |false=>rfl
   |true=>
     simp only[yO,qz2,yA,yB]
     by_cases hd:zW x>64
     ·have:((zW x:Nat):Int)>64:=by omega
      simp[this,hd]
     ·have: ¬((zW x:Nat):Int)>64:=by omega
      simp[this,hd]
end Go.D08
namespace Go.D08
open Go Go.Gw Go.Dn
noncomputable section
inductive Tk where
 |mk (x:Node) (lvl:Int) (ex:Bool->List Str) (st:List Str) (kids:List Tk)
def Tk.x:Tk->Node| .mk x _ _ _ _=>x
def Tk.lvl:Tk->Int| .mk _ l _ _ _=>l
def Tk.ex:Tk->Bool->List Str| .mk _ _ e _ _=>e
def Tk.st:Tk->List Str| .mk _ _ _ s _=>s
def Tk.kids:Tk->List Tk| .mk _ _ _ _ k=>k
def zdk(s:Str):Str:=match zeF s with
 |some (q,_,_)=>q
 |none=>[]
def op5:Str:=[32,61,61,32,33,61,32,61,61,61,32,33,61,61,32]
def op7:Str:=[32,43,32,45,32]
def op8:Str:=[32,42,32,47,32,37,32]
def zje(x:Node)(ks:List Tk):Int:=
 if(x.Kind==21)=true then 0
 else if(x.Kind==20)=true then 1
 else if(x.Kind==19)=true then 2
 else if(x.Kind==18)=true then 4 -Lib.index [38,124] (x.Name.take 1)
 else if(x.Kind==17)=true then(if zb7 op5 x.Name=true then 5 else if zb7 op7 x.Name=true then 7 else if zb7 op8 x.Name=true then 8 else 6)
 else if(x.Kind==15)=true then 9
 else if(x.Kind==16)=true then 10 -x.Num
 else if(x.Kind==13)=true then 11
 else if(x.Kind==11||x.Kind==12)=true then(match ks with|k::_=>min (max k.lvl 11) 12| []=>0)
 else if(x.Kind==14)=true then 12
 else 13
def atT(t:Tk)(least:Int)(no:Bool):List Str:=
 if(decide (t.lvl<least)||((no&&(t.x.Kind==17))&&(t.x.Name==([105,110]:Str))))=true then[40]::(t.ex false++[[41]])else t.ex no
def k0(ks:List Tk)(f:Tk->List Str):List Str:=match ks with|k::_=>f k| []=>[]
def k1(ks:List Tk)(f:Tk->List Str):List Str:=match ks with|_::k::_=>f k|_=>[]
def k2(ks:List Tk)(f:Tk->List Str):List Str:=match ks with|_::_::k::_=>f k|_=>[]
def k3(ks:List Tk)(f:Tk->List Str):List Str:=match ks with|_::_::_::k::_=>f k|_=>[]
def commas(f:Tk->List Str):List Tk->List Str
 | []=>[]
 |k::r=>f k++r.flatMap λq=>[44]::f q
def zah(no:Bool)(t:Tk):List Str:=if(t.x.Kind==9)=true then zdk t.x.Text::[58]::k0 t.kids λk=>atT k 1 no else atT t 1 no
def declT(no:Bool)(t:Tk):List Str:=t.x.Name::k0 t.kids λk=>[61]::atT k 1 no
def zaG(t:Tk)(least:Int)(no:Bool):List Str:=
 if(t.x.Kind==42)=true then[]
 else if(t.x.Kind==22)=true then[118,97,114]::commas (declT no) t.kids
 else atT t least no
def namesT:List Str->List Str
 | []=>[]
 |s::r=>s::r.flatMap λq=>[[44],q]
def zaa(ks:List Tk):List Str:=ks.flatMap Tk.st
def zf0(x:Node)(ks:List Tk):List Str:=
 [102,117,110,99,116,105,111,110]::((if(x.Name==([]:Str))=true then[]else[x.Name])++([40]::(namesT x.Names++([41]::[123]::(zaa ks++[[125]])))))
def zc2(w:Str)(t:Tk):List Str:=w::[40]::(atT t 0 false++[[41]])
def exT(x:Node)(lvl:Int)(ks:List Tk)(no:Bool):List Str:=
 if(x.Kind==1)=true then[Lib.itoa x.Num]
 else if(x.Kind==2)=true then[zdk x.Text]
 else if(x.Kind==3)=true then[x.Name]
 else if(x.Kind==4)=true then[[116,104,105,115]]
 else if(x.Kind==5)=true then[[110,117,108,108]]
 else if(x.Kind==6)=true then[Lib.formatBool (x.Num==1)]
 else if(x.Kind==7)=true then[91]::(commas (zah false) ks++[[93]])
 else if(x.Kind==8)=true then[123]::(commas (zah false) ks++[[125]])
 else if(x.Kind==10)=true then zf0 x ks
 else if(x.Kind==11)=true then k0 ks (λk=>atT k 11 no)++[[46],x.Name]
 else if(x.Kind==12)=true then k0 ks (λk=>atT k 11 no)++([91]::(k1 ks (λk=>atT k 0 false)++[[93]]))
 else if(x.Kind==13)=true then k0 ks (λk=>atT k 11 no)++([40]::(commas (zah false) ks.tail++[[41]]))
 else if(x.Kind==14)=true then[110,101,119]::(k0 ks (λk=>atT k 12 no)++([40]::(commas (zah false) ks.tail++[[41]])))
 else if(x.Kind==15)=true then x.Name::k0 ks λk=>atT k 9 no
 else if(x.Kind==16)=true then(if(x.Num==1)=true then x.Name::k0 ks λk=>atT k 11 no else k0 ks (λk=>atT k 11 no)++[x.Name])
 else if(x.Kind==19)=true then k0 ks (λk=>atT k 3 no)++([63]::(k1 ks (λk=>atT k 1 false)++([58]::k2 ks λk=>atT k 1 no)))
 else if(x.Kind==20)=true then k0 ks (λk=>atT k 11 no)++(x.Name::k1 ks λk=>atT k 1 no)
 else if(x.Kind==21)=true then k0 ks (λk=>atT k 0 no)++([44]::k1 ks λk=>atT k 1 no)
 else k0 ks (λk=>atT k lvl no)++(x.Name::k1 ks λk=>atT k (lvl+1) no)
def zi8(l:List Str):List Str:=match l with
 | []=>[]
 |w::r=>if(w==([123]:Str)||w==([102,117,110,99,116,105,111,110]:Str))=true then[40]::((w::r)++[[41]])else w::r
def zhj(x:Node):List Str:=
 (if(x.Kind==31)=true then[[98,114,101,97,107]]else if(x.Kind==32)=true then[[99,111,110,116,105,110,117,101]]else if(x.Kind==33)=true then[[114,101,116,117,114,110]]else if(x.Kind==34)=true then[[116,104,114,111,119]]else[])
  ++(if(x.Name==([]:Str))=true then[]else[x.Name])
def stT(x:Node)(ks:List Tk):List Str:=
 if(x.Kind==22)=true then([118,97,114]::commas (declT false) ks)++[[59]]
 else if(x.Kind==24)=true then zi8 (k0 ks λk=>atT k 0 false)++[[59]]
 else if(x.Kind==25)=true then[123]::(zaa ks++[[125]])
 else if(x.Kind==26)=true then k0 ks (zc2 [105,102])++(k1 ks Tk.st++k2 ks λk=>[101,108,115,101]::k.st)
 else if(x.Kind==27)=true then k0 ks (zc2 [119,104,105,108,101])++k1 ks Tk.st
 else if(x.Kind==28)=true then[100,111]::(k0 ks Tk.st++(k1 ks (zc2 [119,104,105,108,101])++[[59]]))
 else if(x.Kind==29)=true then[102,111,114]::[40]::(k0 ks (λk=>zaG k 0 true)++([59]::(k1 ks (λk=>zaG k 0 false)++([59]::(k2 ks (λk=>zaG k 0 false)++([41]::k3 ks Tk.st))))))
 else if(x.Kind==30)=true then[102,111,114]::[40]::(k0 ks (λk=>zaG k 11 true)++([105,110]::(k1 ks (λk=>atT k 0 false)++([41]::k2 ks Tk.st))))
 else if(x.Kind==35)=true then[116,114,121]::(k0 ks Tk.st++(k1 ks (λk=>if(k.x.Kind==25)=true then[99,97,116,99,104]::[40]::x.Name::[41]::k.st else[])++k2 ks λk=>if(k.x.Kind==25)=true then[102,105,110,97,108,108,121]::k.st else[]))
 else if(x.Kind==36)=true then k0 ks (zc2 [115,119,105,116,99,104])++([123]::(zaa ks.tail++[[125]]))
 else if(x.Kind==37)=true then k0 ks (λk=>(if(k.x.Kind !=42)=true then[99,97,115,101]else[100,101,102,97,117,108,116])::zaG k 0 false)++([58]::zaa ks.tail)
 else if(x.Kind==38)=true then x.Name::[58]::k0 ks Tk.st
 else if(x.Kind==39)=true then zf0 x ks
 else zhj x++(ks.flatMap (λk=>atT k 0 false)++[[59]])
mutual
def tkN:Node->Tk
 | ⟨k,n,m,t,ns,l⟩=>
  let x:Node:=⟨k,n,m,t,ns,l⟩
  let ks:=tkL l
  .mk x (zje x ks) (exT x (zje x ks) ks) (stT x ks) ks
def tkL:List Node->List Tk
 | []=>[]
 |x::r=>tkN x::tkL r
end
theorem zaZ(x:Node):tkN x= .mk x (zje x (tkL x.L)) (exT x (zje x (tkL x.L)) (tkL x.L)) (stT x (tkL x.L)) (tkL x.L):=by cases x;simp[tkN]
theorem zAD: ∀l:List Node,tkL l=l.map tkN
 | []=>by simp[tkL]
 |x::r=>by simp[tkL,zAD r]
end
end Go.D08
namespace Go.D08
open Go Go.Gw Go.Dn
set_option maxRecDepth 100000
structure Tok where
 kind:Nat
 text:Str
 num:Int
 fresh:Bool
abbrev zB:=List Tok
def opK(t:Tok):Bool:=t.kind==5||t.kind==2
def tIs(s:Str):zB->Bool
 |t::_=>opK t&&(t.text==s)
 | []=>false
def zbt(l:List Str):zB->Bool
 |t::_=>opK t&&l.contains t.text
 | []=>false
def tText:zB->Str
 |t::_=>t.text
 | []=>[]
def zX:zB->Nat
 |t::_=>t.kind
 | []=>0
def zeT:zB->Bool
 |t::_=>t.fresh
 | []=>false
def ztV:List Str:=[[45],[43],[33],[116,121,112,101,111,102],[100,101,108,101,116,101],[118,111,105,100]]
def zib:List Str:=[[43,43],[45,45]]
def zue:List Str:=[[61],[43,61],[45,61],[42,61],[47,61],[37,61]]
def eqL:List Str:=[[61,61],[33,61],[61,61,61],[33,61,61]]
def ltL:List Str:=[[60],[62],[60,61],[62,61],[105,110,115,116,97,110,99,101,111,102]]
def zEk:List Str:=[[43],[45]]
def mulL:List Str:=[[42],[47],[37]]
def lvS(no:Bool)(s:Str):Int×Int:=
 if(s==([124,124]:Str))=true then(3,18)
 else if(s==([38,38]:Str))=true then(4,18)
 else if eqL.contains s=true then(5,17)
 else if(ltL.contains s||(!no&&s==([105,110]:Str)))=true then(6,17)
 else if zEk.contains s=true then(7,17)
 else if mulL.contains s=true then(8,17)
 else(0,0)
def zdp(no:Bool):zB->Int×Int
 |t::_=>if opK t=true then lvS no t.text else(0,0)
 | []=>(0,0)
abbrev PR(α:Type):=Option (Nat⊕(α×zB))
abbrev gt{α:Type}(q:α×zB):PR α:=some (.inr q)
abbrev bad{α:Type}(t:zB):PR α:=some (.inl t.length)
def PR.bd{α β:Type}(x:PR α)(f:α×zB->PR β):PR β:=match x with|none=>none|some (.inl k)=>some (.inl k)|some (.inr p)=>f p
def PR.bn{β:Type}(x:PR Unit)(f:zB->PR β):PR β:=x.bd λq=>f q.2
theorem zee{α β:Type}(q:α×zB)(f:α×zB->PR β):PR.bd (some (.inr q)) f=f q:=rfl
theorem zfG{β:Type}(q:Unit×zB)(f:zB->PR β):PR.bn (some (.inr q)) f=f q.2:=rfl
def zaC(s:Str)(t:zB):PR Unit:=if tIs s t=true then gt ((),t.tail)else bad t
structure PG where
 expr:Bool->zB->PR Node
 comma:Bool->Node->zB->PR Node
 assign:Bool->zB->PR Node
 binary:Bool->Int->zB->PR Node
 bins:Bool->Int->Node->zB->PR Node
 unary:zB->PR Node
 mems:Bool->Node->zB->PR Node
 made:zB->PR Node
 prim:zB->PR Node
 exprs:Str->Bool->zB->PR (List Node)
 props:zB->PR (List Node)
 func:Int->zB->PR Node
 vars:Bool->zB->PR (List Node)
 block:zB->PR Node
 head:zB->PR Node
 till:Str->zB->PR Node
 loop:zB->PR Node
 cases:Bool->zB->PR (List Node)
 body:zB->PR (List Node)
 stmt:zB->PR Node
 stmts:Bool->zB->PR (List Node)
def nd(k:Int)(l:List Node):Node:=⟨k,[],0,[],[],l⟩
def ndN(k:Int)(s:Str)(l:List Node):Node:=⟨k,s,0,[],[],l⟩
section
variable (g:PG)
def zAf(no:Bool)(t:zB):PR Node:=(g.assign no t).bd λq=>g.comma no q.1 q.2
def zlQ(no:Bool)(x:Node)(t:zB):PR Node:=
 if tIs [44] t=true then(g.assign no t.tail).bd λq=>g.comma no (nd 21 [x,q.1]) q.2 else gt (x,t)
def zq1(no:Bool)(t:zB):PR Node:=(g.binary no 3 t).bd λq=>
 if tIs [63] q.2=true then(g.assign false q.2.tail).bd λy=>(zaC [58] y.2).bn λt=>(g.assign no t).bd λz=>gt (nd 19 [q.1,y.1,z.1],z.2)
 else if zbt zue q.2=true then(if zdr q.1.Kind=true then(g.assign no q.2.tail).bd λy=>gt (ndN 20 (tText q.2) [q.1,y.1],y.2)else bad q.2)
 else gt q
def zqT(no:Bool)(least:Int)(t:zB):PR Node:=(g.unary t).bd λq=>g.bins no least q.1 q.2
def zoJ(no:Bool)(least:Int)(x:Node)(t:zB):PR Node:=
 if(decide ((zdp no t).1<least)||(zdp no t).1==0)=true then gt (x,t)
 else(g.binary no ((zdp no t).1+1) t.tail).bd λy=>g.bins no least (ndN (zdp no t).2 (tText t) [x,y.1]) y.2
def zh3(t:zB):PR Node:=
 if zbt ztV t=true then(g.unary t.tail).bd λy=>gt (ndN 15 (tText t) [y.1],y.2)
 else if zbt zib t=true then(g.unary t.tail).bd λy=>if zdr y.1.Kind=true then gt (⟨16,tText t,1,[],[],[y.1]⟩,y.2)else bad y.2
 else(g.made t).bd λq=>(g.mems true q.1 q.2).bd λq=>
  if(!zbt zib q.2||zeT q.2)=true then gt q else if zdr q.1.Kind=true then gt (ndN 16 (tText q.2) [q.1],q.2.tail)else bad q.2
def zjd(calls:Bool)(x:Node)(t:zB):PR Node:=
 if tIs [46] t=true then(if(zX t.tail==1||zX t.tail==2)=true then g.mems calls (ndN 11 (tText t.tail) [x]) t.tail.tail else bad t.tail)
 else if tIs [91] t=true then(g.expr false t.tail).bd λk=>(zaC [93] k.2).bn λt=>g.mems calls (nd 12 [x,k.1]) t
 else if(calls&&tIs [40] t)=true then(g.exprs [41] false t.tail).bd λl=>g.mems calls (nd 13 (x::l.1)) l.2
 else gt (x,t)
def zoD(t:zB):PR Node:=
 if tIs [110,101,119] t=true then(g.made t.tail).bd λq=>(g.mems false q.1 q.2).bd λq=>
  if tIs [40] q.2=true then(g.exprs [41] false q.2.tail).bd λl=>gt (nd 14 (q.1::l.1),l.2)else gt (nd 14 [q.1],q.2)
 else g.prim t
def zdX(t:zB):PR Node:=
 if(zX t==1)=true then gt (ndN 3 (tText t) [],t.tail)
 else if(zX t==3)=true then(match t with|a::r=>gt (⟨1,[],a.num,[],[],[]⟩,r)| []=>none)
 else if(zX t==4)=true then gt (⟨2,[],0,tText t,[],[]⟩,t.tail)
 else if tIs [116,104,105,115] t=true then gt (nd 4 [],t.tail)
 else if tIs [110,117,108,108] t=true then gt (nd 5 [],t.tail)
 else if tIs [102,97,108,115,101] t=true then gt (nd 6 [],t.tail)
 else if tIs [116,114,117,101] t=true then gt (⟨6,[],1,[],[],[]⟩,t.tail)
 else if tIs [102,117,110,99,116,105,111,110] t=true then g.func 10 t.tail
 else if tIs [40] t=true then(g.expr false t.tail).bd λk=>(zaC [41] k.2).bn λt=>gt (k.1,t)
 else if tIs [91] t=true then(g.exprs [93] true t.tail).bd λl=>gt (nd 7 l.1,l.2)
 else if tIs [123] t=true then(g.props t.tail).bd λl=>gt (nd 8 l.1,l.2)
 else bad t
def zgW(shut:Str)(last:Bool)(t:zB):PR (List Node):=
 if tIs shut t=true then gt ([],t.tail)
 else(g.assign false t).bd λx=>
  if tIs shut x.2=true then gt ([x.1],x.2.tail)
  else(zaC [44] x.2).bn λt=>if(!last&&tIs shut t)=true then bad t else(g.exprs shut last t).bd λl=>gt (x.1::l.1,l.2)
def wide(s:Str):Str:=s.flatMap λb=>[0,b]
def zDA:zB->PR Str
 |a::r=>if(a.kind==4)=true then gt (a.text,r)else if(a.kind==3)=true then gt (wide (Lib.itoa a.num),r)else if(a.kind==1||a.kind==2)=true then gt (wide a.text,r)else bad (a::r)
 | []=>none
def zhS(t:zB):PR (List Node):=
 if tIs [125] t=true then gt ([],t.tail)
 else(zDA t).bd λk=>(zaC [58] k.2).bn λt1=>(g.assign false t1).bd λx=>
  if tIs [125] x.2=true then gt ([⟨9,[],0,k.1,[],[x.1]⟩],x.2.tail)
  else(zaC [44] x.2).bn λt2=>(g.props t2).bd λl=>gt (⟨9,[],0,k.1,[],[x.1]⟩::l.1,l.2)
def zjy:zB->PR (List Str)
 |a::b::r=>if(a.kind==1)=true then(if tIs [41] (b::r)=true then gt ([a.text],r)else if tIs [44] (b::r)=true then(if tIs [41] r=true then bad r else(zjy r).bd λl=>gt (a.text::l.1,l.2))else bad (b::r))else bad (a::b::r)
 | [a]=>bad [a]
 | []=>none
def zfD(t:zB):PR (List Str):=if tIs [41] t=true then gt ([],t.tail)else zjy t
def zta(kind:Int)(t:zB):PR Node:=
 (if(zX t==1)=true then gt (tText t,t.tail)else if(kind==39)=true then bad t else gt ([],t)).bd λm=>(zaC [40] m.2).bn λt=>(zfD t).bd λns=>(zaC [123] ns.2).bn λt=>(g.stmts true t).bd λl=>(zaC [125] l.2).bn λt=>gt (⟨kind,m.1,0,[],ns.1,l.1⟩,t)
def znc(no:Bool)(t:zB):PR (List Node):=
 if(zX t==1)=true then
  (if tIs [61] t.tail=true then(g.assign no t.tail.tail).bd λy=>gt ([y.1],y.2)else gt ([],t.tail)).bd λd=>
   if tIs [44] d.2=true then(g.vars no d.2.tail).bd λl=>gt (ndN 23 (tText t) d.1::l.1,l.2)else gt ([ndN 23 (tText t) d.1],d.2)
 else bad t
def zly(t:zB):PR Node:=(zaC [123] t).bn λt=>(g.stmts false t).bd λl=>(zaC [125] l.2).bn λt=>gt (nd 25 l.1,t)
def ztn(t:zB):PR Node:=(zaC [40] t).bn λt=>(g.expr false t).bd λx=>(zaC [41] x.2).bn λt=>gt (x.1,t)
def zlE(s:Str)(t:zB):PR Node:=if tIs s t=true then gt (nd 42 [],t.tail)else(g.expr false t).bd λx=>(zaC s x.2).bn λt=>gt (x.1,t)
def zkF(t:zB):Bool:=tIs [125] t||zX t==0||zeT t
def zhD(t:zB):PR Unit:=if tIs [59] t=true then gt ((),t.tail)else if zkF t=true then gt ((),t)else bad t
def zbd(x:Node):Node:=if(x.Kind==25)=true then x else nd 25 [x]
def zlW(x:Node):Bool:=if(x.Kind==22)=true then(match x.L with| [d]=>d.L.isEmpty|_=>false)else zdr x.Kind
def znb(t:zB):PR Node:=
 if tIs [118,97,114] t=true then(g.vars true t.tail).bd λl=>gt (nd 22 l.1,l.2)
 else if tIs [59] t=true then gt (nd 42 [],t)else g.expr true t
def zoz(t:zB):PR Node:=(zaC [40] t).bn λt=>(znb g t).bd λq=>
 if(zlW q.1&&tIs [105,110] q.2)=true then(g.expr false q.2.tail).bd λx=>(zaC [41] x.2).bn λt=>(g.stmt t).bd λb=>gt (nd 30 [q.1,x.1,zbd b.1],b.2)
 else(zaC [59] q.2).bn λt=>(g.till [59] t).bd λx=>(g.till [41] x.2).bd λy=>(g.stmt y.2).bd λb=>gt (nd 29 [q.1,x.1,y.1,zbd b.1],b.2)
def znl(t:zB):PR (Str×Node):=
 if tIs [99,97,116,99,104] t=true then(zaC [40] t.tail).bn λt=>if(zX t==1)=true then(zaC [41] t.tail).bn λt1=>(g.block t1).bd λb=>gt ((tText t,b.1),b.2)else bad t
 else gt (([],nd 42 []),t)
def zkH(t:zB):PR Node:=if tIs [102,105,110,97,108,108,121] t=true then g.block t.tail else gt (nd 42 [],t)
def zDQ(t:zB):PR Node:=(g.block t).bd λb=>(znl g b.2).bd λc=>(zkH g c.2).bd λf=>
 if(f.1.Kind==42&&c.1.2.Kind==42)=true then bad f.2 else gt (ndN 35 c.1.1 [b.1,c.1.2,f.1],f.2)
def zjD(others:Bool)(t:zB):PR (List Node):=
 if tIs [125] t=true then gt ([],t.tail)
 else if(others&&tIs [100,101,102,97,117,108,116] t)=true then(zaC [58] t.tail).bn λt=>(g.body t).bd λl=>(g.cases false l.2).bd λr=>gt (nd 37 (nd 42 []::l.1)::r.1,r.2)
 else(zaC [99,97,115,101] t).bn λt=>(g.expr false t).bd λx=>(zaC [58] x.2).bn λt=>(g.body t).bd λl=>(g.cases others l.2).bd λr=>gt (nd 37 (x.1::l.1)::r.1,r.2)
def zoy(t:zB):PR (List Node):=
 if(zbt [[99,97,115,101],[100,101,102,97,117,108,116],[125]] t||zX t==0)=true then gt ([],t)else(g.stmt t).bd λx=>(g.body x.2).bd λl=>gt (x.1::l.1,l.2)
def zkk(k:Int)(t:zB):PR Node:=
 if(zX t==1&& !zeT t)=true then(zhD t.tail).bn λt1=>gt (ndN k (tText t) [],t1)else(zhD t).bn λt=>gt (nd k [],t)
def zbV(t:zB):PR Node:=
 if tIs [123] t=true then g.block t
 else if tIs [59] t=true then gt (nd 40 [],t.tail)
 else if tIs [118,97,114] t=true then(g.vars false t.tail).bd λl=>(zhD l.2).bn λt=>gt (nd 22 l.1,t)
 else if tIs [105,102] t=true then(g.head t.tail).bd λx=>(g.stmt x.2).bd λb=>if tIs [101,108,115,101] b.2=true then(g.stmt b.2.tail).bd λc=>gt (nd 26 [x.1,zbd b.1,zbd c.1],c.2)else gt (nd 26 [x.1,zbd b.1],b.2)
 else if tIs [119,104,105,108,101] t=true then(g.head t.tail).bd λx=>(g.stmt x.2).bd λb=>gt (nd 27 [x.1,zbd b.1],b.2)
 else if tIs [100,111] t=true then(g.stmt t.tail).bd λb=>(zaC [119,104,105,108,101] b.2).bn λt=>(g.head t).bd λx=>(zhD x.2).bn λt=>gt (nd 28 [zbd b.1,x.1],t)
 else if tIs [102,111,114] t=true then g.loop t.tail
 else if tIs [98,114,101,97,107] t=true then zkk 31 t.tail
 else if tIs [99,111,110,116,105,110,117,101] t=true then zkk 32 t.tail
 else if tIs [114,101,116,117,114,110] t=true then(if(!tIs [59] t.tail&& !zkF t.tail)=true then(g.expr false t.tail).bd λx=>(zhD x.2).bn λt=>gt (nd 33 [x.1],t)else(zhD t.tail).bn λt=>gt (nd 33 [],t))
 else if tIs [116,104,114,111,119] t=true then(if zeT t.tail=true then bad t.tail else(g.expr false t.tail).bd λx=>(zhD x.2).bn λt=>gt (nd 34 [x.1],t))
 else if tIs [116,114,121] t=true then zDQ g t.tail
 else if tIs [115,119,105,116,99,104] t=true then(g.head t.tail).bd λx=>(zaC [123] x.2).bn λt=>(g.cases true t).bd λl=>gt (nd 36 (x.1::l.1),l.2)
 else if tIs [102,117,110,99,116,105,111,110] t=true then bad t
 else if(zX t==1&&tIs [58] t.tail)=true then(g.stmt t.tail.tail).bd λx=>gt (ndN 38 (tText t) [x.1],x.2)
 else(g.expr false t).bd λx=>(zhD x.2).bn λt=>gt (nd 24 [x.1],t)
def ziL(funcs:Bool)(t:zB):PR (List Node):=
 if(tIs [125] t||zX t==0)=true then gt ([],t)
 else(if(funcs&&tIs [102,117,110,99,116,105,111,110] t)=true then g.func 39 t.tail else g.stmt t).bd λx=>(g.stmts funcs x.2).bd λl=>gt (x.1::l.1,l.2)
end
def pG:Nat->PG
 |0=>⟨λ_ _=>none,λ_ _ _=>none,λ_ _=>none,λ_ _ _=>none,λ_ _ _ _=>none,λ_=>none,λ_ _ _=>none,λ_=>none,λ_=>none,λ_ _ _=>none,λ_=>none,λ_ _=>none,λ_ _=>none,λ_=>none,λ_=>none,λ_ _=>none,λ_=>none,λ_ _=>none,λ_=>none,λ_=>none,λ_ _=>none⟩
 |n+1=>⟨zAf (pG n),zlQ (pG n),zq1 (pG n),zqT (pG n),zoJ (pG n),zh3 (pG n),zjd (pG n),zoD (pG n),zdX (pG n),zgW (pG n),zhS (pG n),zta (pG n),znc (pG n),zly (pG n),ztn (pG n),zlE (pG n),zoz (pG n),zjD (pG n),zoy (pG n),zbV (pG n),ziL (pG n)⟩
end Go.D08
namespace Go.D08
open Go Go.Gw Go.Dn Go.Proofs
set_option maxRecDepth 100000
def tk(t:zu):Tok:=⟨t.Kind.toNat,t.Text,t.Num,t.Fresh⟩
structure TOk (L:List zu):Prop where
 kinds: ∀t∈L,0<=t.Kind/\t.Kind<=5
 texts: ∀t∈L,t.Text.length<=1000000
 plain: ∀t∈L,opK (tk t)=true->(32:UInt8)∉t.Text
 ascii: ∀t∈L,t.Kind=1\/t.Kind=2->∀b∈t.Text,b<128
 colon: ∀t∈L,t.Kind=2->t.Text≠[58]
 nums: ∀t∈L,t.Kind=3->0<=t.Num/\t.Num<=9007199254740991
 last: ∃a e,L=a++[e]/\e.Kind=0/\∀t∈a,t.Kind≠0
theorem TOk.cons{L:List zu}(h:TOk L): ∃a r,L=a::r:=by
 obtain⟨a,e,h1,_⟩:=h.last
 cases L with
 |nil=>simp at h1
 |cons x r=>exact⟨x,r,rfl⟩
theorem TOk.tail{x:zu}{r:List zu}(h:TOk (x::r))(hx:x.Kind≠0):TOk r:=by
 refine⟨λt ht=>h.kinds t (qz8 _ ht),λt ht=>h.texts t (qz8 _ ht),λt ht=>h.plain t (qz8 _ ht),λt ht=>h.ascii t (qz8 _ ht),λt ht=>h.colon t (qz8 _ ht),λt ht=>h.nums t (qz8 _ ht),?_⟩
 obtain⟨a,e,h1,h2,h3⟩:=h.last
 cases a with
 |nil=>simp at h1;rw[h1.1]at hx;exact absurd h2 hx
 |cons y a=>simp at h1;exact⟨a,e,h1.2,h2,λt ht=>h3 t (qz8 _ ht)⟩
theorem zQ(x:zh):zk x=x:=by cases x;rfl
theorem zN0(x:zu):zBD x=x:=by cases x;rfl
theorem zoq{x:zu}(hk:0<=x.Kind)(n:Nat):(x.Kind==(n:Int))=((tk x).kind==n):=by
 unfold tk
 rw[Bool.eq_iff_iff,beq_iff_eq,beq_iff_eq]
 simp only
 omega
abbrev pp(L:List zu)(no:Bool):zh:=⟨L,no⟩
theorem zdH{α:Type}(x:α)(r:List α):zN (x::r) 0=some x:=rfl
theorem ztg{L:List zu}{no:Bool}(h:TOk L)(s:Str):za5 s (pp L no)=some (tIs s (L.map tk),pp L no,()):=by
 obtain⟨x,r,rfl⟩:=h.cons
 have hk:=(h.kinds x qz7).1
 have k5:=zoq hk 5
 have k2:=zoq hk 2
 rw[show((5:Nat):Int)=5 from rfl]at k5
 rw[show((2:Nat):Int)=2 from rfl]at k2
 unfold za5
 simp only[zdH,qz1,zQ,k5,k2,List.map_cons,tIs,opK]
 cases(tk x).kind==5<;>cases(tk x).kind==2<;>simp[tk]
theorem zDz{x:zu}{r:List zu}{no:Bool}(hx:x.Kind≠0):zau (pp (x::r) no)=some (x,pp r no,()):=by
 unfold zau
 have e:(x.Kind !=0)=true:=by rw[bne_iff_ne];exact hx
 have hc:zaL (x::r) 1 (((x::r).length:Nat):Int)=some r:=by
  have:=zc9 (x::r) 1 (by simp)
  simpa using this
 simp only[zdH,qz1,e,yB,hc,zN0]
theorem zOv{s:Str}{x:zu}{r:List zu}(h:tIs s ((x::r).map tk)=true):x.Kind≠0:=by
 intro e
 simp[tIs,opK,tk,e]at h
theorem has_eq{L:List zu}{no:Bool}(h:TOk L)(s:Str):zG s (pp L no)=some (tIs s (L.map tk),pp (if tIs s (L.map tk)=true then L.tail else L) no,()):=by
 unfold zG
 rw[zQ,ztg h s]
 simp only[qz1,zQ]
 cases hq:tIs s (L.map tk)with
 |false=>simp
 |true=>
  obtain⟨x,r,rfl⟩:=h.cons
  simp only[yB]
  rw[zDz (zOv hq)]
  rfl
theorem zme{L:List zu}{no:Bool}(h:TOk L)(ws:List Str)(list:Str)(hl:list=joined ws)(hw: ∀w∈ws,(32:UInt8)∉w)(hll:list.length<=1000000):zbl list (pp L no)=some (zbt ws (L.map tk),pp L no,()):=by
 obtain⟨x,r,rfl⟩:=h.cons
 have hk:=(h.kinds x qz7).1
 have ht:=h.texts x qz7
 have hp:=h.plain x qz7
 have k5:=zoq hk 5
 have k2:=zoq hk 2
 rw[show((5:Nat):Int)=5 from rfl]at k5
 rw[show((2:Nat):Int)=2 from rfl]at k2
 have hb':(if(x.Kind==5)=true then some true else some (x.Kind==2))=some (opK (tk x)):=by
  rw[k5,k2]
  unfold opK
  cases(tk x).kind==5<;>simp
 unfold zbl
 simp only[zdH,qz1,zQ]
 rw[hb']
 simp only[qz1,List.map_cons,zbt]
 cases hq:opK (tk x)with
 |false=>simp
 |true=>
  simp only[yB,Bool.true_and]
  rw[zqR (by simp only[qz3,qz6];omega)]
  simp only[qz1]
  rw[zqR (by simp only[qz5,qz3,qz6];omega)]
  simp only[qz1]
  rw[U.zzp list _ (by omega)]
  simp only[qz1]
  have:=zkd x.Text (hp hq) ws hw
  rw[hl,show([32]++x.Text++[32]:Str)=32::(x.Text++[32])from rfl,this]
  rfl
theorem zGJ{L:List zu}{no:Bool}(h:TOk L):zev (pp L no)=some (zkF (L.map tk),pp L no,()):=by
 have hi:=ztg (no:=no) h [125]
 unfold zev zkF
 rw[zQ,hi]
 obtain⟨x,r,rfl⟩:=h.cons
 have hk:=(h.kinds x qz7).1
 have k0:=zoq hk 0
 rw[show((0:Nat):Int)=0 from rfl]at k0
 simp only[qz1,zdH,k0,zQ,List.map_cons,zX,zeT]
 cases tIs [125] (tk x::List.map tk r)<;>cases(tk x).kind==0<;>simp[tk]
theorem any_cons(ws:List Str)(x:zu)(t:zB):zbt ws (tk x::t)=(opK (tk x)&&ws.contains x.Text):=rfl
theorem zRu(s:Str)(x:zu)(t:zB):tIs s (tk x::t)=(opK (tk x)&&(x.Text==s)):=rfl
theorem zLw{L:List zu}{no:Bool}(h:TOk L):zgG (pp L no)=some ((zdp no (L.map tk)).1,(zdp no (L.map tk)).2,pp L no,()):=by
 have i1:=ztg (no:=no) h [124,124]
 have i2:=ztg (no:=no) h [38,38]
 have i3:=zme (no:=no) h eqL ([32,61,61,32,33,61,32,61,61,61,32,33,61,61,32]:Str) (by decide+kernel) (by decide+kernel) (by decide)
 have i4:=zme (no:=no) h ltL ([32,60,32,62,32,60,61,32,62,61,32,105,110,115,116,97,110,99,101,111,102,32]:Str) (by decide+kernel) (by decide+kernel) (by decide)
 have i5:=ztg (no:=no) h [105,110]
 have i6:=zme (no:=no) h zEk ([32,43,32,45,32]:Str) (by decide+kernel) (by decide+kernel) (by decide)
 have i7:=zme (no:=no) h mulL ([32,42,32,47,32,37,32]:Str) (by decide+kernel) (by decide+kernel) (by decide)
 have j1:zdR (pp L no)=some (if zbt zEk (L.map tk)=true then 7 else if zbt mulL (L.map tk)=true then 8 else 0,if zbt zEk (L.map tk)=true then 17 else if zbt mulL (L.map tk)=true then 17 else 0,pp L no,()):=by
  unfold zdR
  simp only[zQ,i6,i7,qz1]
  cases zbt zEk (L.map tk)<;>cases zbt mulL (L.map tk)<;>rfl
 unfold zgG
 simp only[zQ,i1,i2,i3,i4,i5,qz1,j1]
 obtain⟨x,r,rfl⟩:=h.cons
 simp only[any_cons,zRu,List.map_cons,zdp]
 cases hq:opK (tk x)with
 |false=>cases no<;>simp
 |true=>
  simp only[Bool.true_and,yB]
  unfold lvS
  rw[show(tk x).text=x.Text from rfl]
  cases x.Text==([124,124]:Str)with
  |true=>rfl
  |false=>
   simp only[qz2,yA]
   cases x.Text==([38,38]:Str)with
   |true=>rfl
   |false=>
    simp only[qz2,yA]
    cases eqL.contains x.Text with
    |true=>rfl
    |false=>
     simp only[qz2,yA]
     cases ltL.contains x.Text with
     |true=>simp
     |false=>
      simp only[Bool.false_or,qz2,yA]
      cases no<;>cases x.Text==([105,110]:Str)<;>cases zEk.contains x.Text<;>cases mulL.contains x.Text<;>rfl
end Go.D08
namespace Go.D08
open Go Go.Gw Go.Dn
set_option maxRecDepth 100000
def Le{α:Type}(x y:PR α):Prop:=∀r,x=some r->y=some r
theorem Le.rfl{α:Type}{x:PR α}:Le x x:=λ_ h=>h
theorem Le.bd{α β:Type}{x y:PR α}{f g:α×zB->PR β}(h:Le x y)(k: ∀q,Le (f q) (g q)):Le (x.bd f) (y.bd g):=by
 intro r e
 cases x with
 |none=>cases e
 |some p=>
  rw[h _ Eq.refl]
  cases p with
  |inl j=>exact e
  |inr q=>exact k q r e
 where Eq.refl {x:Nat⊕(α×zB)}:(some x:PR α)=some x:=_root_.rfl
theorem Le.bn{β:Type}{x:PR Unit}{f g:zB->PR β}(k: ∀t,Le (f t) (g t)):Le (x.bn f) (x.bn g):=Le.bd Le.rfl λq=>k q.2
theorem Le.ite{α:Type}{c:Prop}[Decidable c]{a b a' b':PR α}(h:Le a a')(k:Le b b'):Le (if c then a else b) (if c then a' else b'):=by
 by_cases hc:c
 ·rw[yL hc,yL hc];exact h
 ·rw[yK hc,yK hc];exact k
structure PLe (g h:PG):Prop where
 expr: ∀a t,Le (g.expr a t) (h.expr a t)
 comma: ∀a x t,Le (g.comma a x t) (h.comma a x t)
 assign: ∀a t,Le (g.assign a t) (h.assign a t)
 binary: ∀a b t,Le (g.binary a b t) (h.binary a b t)
 bins: ∀a b x t,Le (g.bins a b x t) (h.bins a b x t)
 unary: ∀t,Le (g.unary t) (h.unary t)
 mems: ∀a x t,Le (g.mems a x t) (h.mems a x t)
 made: ∀t,Le (g.made t) (h.made t)
 prim: ∀t,Le (g.prim t) (h.prim t)
 exprs: ∀a b t,Le (g.exprs a b t) (h.exprs a b t)
 props: ∀t,Le (g.props t) (h.props t)
 func: ∀a t,Le (g.func a t) (h.func a t)
 vars: ∀a t,Le (g.vars a t) (h.vars a t)
 block: ∀t,Le (g.block t) (h.block t)
 head: ∀t,Le (g.head t) (h.head t)
 till: ∀a t,Le (g.till a t) (h.till a t)
 loop: ∀t,Le (g.loop t) (h.loop t)
 cases: ∀a t,Le (g.cases a t) (h.cases a t)
 body: ∀t,Le (g.body t) (h.body t)
 stmt: ∀t,Le (g.stmt t) (h.stmt t)
 stmts: ∀a t,Le (g.stmts a t) (h.stmts a t)
section
variable {g h:PG} (L:PLe g h)
include L
theorem zSz(a t):Le (zAf g a t) (zAf h a t):= .bd (L.assign _ _) λ_=>L.comma _ _ _
theorem zP0(a x t):Le (zlQ g a x t) (zlQ h a x t):= .ite (.bd (L.assign _ _) λ_=>L.comma _ _ _) .rfl
theorem zNn(a t):Le (zq1 g a t) (zq1 h a t):=
 .bd (L.binary _ _ _) λ_=> .ite (.bd (L.assign _ _) λ_=> .bn λ_=> .bd (L.assign _ _) λ_=> .rfl) (.ite (.ite (.bd (L.assign _ _) λ_=> .rfl) .rfl) .rfl)
theorem zOd(a b t):Le (zqT g a b t) (zqT h a b t):= .bd (L.unary _) λ_=>L.bins _ _ _ _
theorem zSj(a b x t):Le (zoJ g a b x t) (zoJ h a b x t):= .ite .rfl (.bd (L.binary _ _ _) λ_=>L.bins _ _ _ _)
theorem zO2(t):Le (zh3 g t) (zh3 h t):=
 .ite (.bd (L.unary _) λ_=> .rfl) (.ite (.bd (L.unary _) λ_=> .rfl) (.bd (L.made _) λ_=> .bd (L.mems _ _ _) λ_=> .rfl))
theorem zRi(a x t):Le (zjd g a x t) (zjd h a x t):=
 .ite (.ite (L.mems _ _ _) .rfl) (.ite (.bd (L.expr _ _) λ_=> .bn λ_=>L.mems _ _ _) (.ite (.bd (L.exprs _ _ _) λ_=>L.mems _ _ _) .rfl))
theorem zRW(t):Le (zoD g t) (zoD h t):=
 .ite (.bd (L.made _) λ_=> .bd (L.mems _ _ _) λ_=> .ite (.bd (L.exprs _ _ _) λ_=> .rfl) .rfl) (L.prim _)
theorem zSr(t):Le (zdX g t) (zdX h t):=
 .ite .rfl (.ite .rfl (.ite .rfl (.ite .rfl (.ite .rfl (.ite .rfl (.ite .rfl (.ite (L.func _ _) (.ite (.bd (L.expr _ _) λ_=> .rfl) (.ite (.bd (L.exprs _ _ _) λ_=> .rfl) (.ite (.bd (L.props _) λ_=> .rfl) .rfl))))))))))
theorem zP2(a b t):Le (zgW g a b t) (zgW h a b t):=
 .ite .rfl (.bd (L.assign _ _) λ_=> .ite .rfl (.bn λ_=> .ite .rfl (.bd (L.exprs _ _ _) λ_=> .rfl)))
theorem zO5(t):Le (zhS g t) (zhS h t):=
 .ite .rfl (.bd .rfl λ_=> .bn λ_=> .bd (L.assign _ _) λ_=> .ite .rfl (.bn λ_=> .bd (L.props _) λ_=> .rfl))
theorem zS2(a t):Le (zta g a t) (zta h a t):=
 .bd .rfl λ_=> .bn λ_=> .bd .rfl λ_=> .bn λ_=> .bd (L.stmts _ _) λ_=> .rfl
theorem zRn(a t):Le (znc g a t) (znc h a t):=
 .ite (.bd (.ite (.bd (L.assign _ _) λ_=> .rfl) .rfl) λ_=> .ite (.bd (L.vars _ _) λ_=> .rfl) .rfl) .rfl
theorem zP3(t):Le (zly g t) (zly h t):= .bn λ_=> .bd (L.stmts _ _) λ_=> .rfl
theorem le_head(t):Le (ztn g t) (ztn h t):= .bn λ_=> .bd (L.expr _ _) λ_=> .rfl
theorem zS9(s t):Le (zlE g s t) (zlE h s t):= .ite .rfl (.bd (L.expr _ _) λ_=> .rfl)
theorem zPB(t):Le (znb g t) (znb h t):= .ite (.bd (L.vars _ _) λ_=> .rfl) (.ite .rfl (L.expr _ _))
theorem zSe(t):Le (zoz g t) (zoz h t):=
 .bn λ_=> .bd (zPB L _) λ_=> .ite (.bd (L.expr _ _) λ_=> .bn λ_=> .bd (L.stmt _) λ_=> .rfl)
  (.bn λ_=> .bd (L.till _ _) λ_=> .bd (L.till _ _) λ_=> .bd (L.stmt _) λ_=> .rfl)
theorem zPP(t):Le (znl g t) (znl h t):= .ite (.bn λ_=> .ite (.bn λ_=> .bd (L.block _) λ_=> .rfl) .rfl) .rfl
theorem zOG(t):Le (zkH g t) (zkH h t):= .ite (L.block _) .rfl
theorem zUF(t):Le (zDQ g t) (zDQ h t):= .bd (L.block _) λ_=> .bd (zPP L _) λ_=> .bd (zOG L _) λ_=> .rfl
theorem zPU(a t):Le (zjD g a t) (zjD h a t):=
 .ite .rfl (.ite (.bn λ_=> .bd (L.body _) λ_=> .bd (L.cases _ _) λ_=> .rfl) (.bn λ_=> .bd (L.expr _ _) λ_=> .bn λ_=> .bd (L.body _) λ_=> .bd (L.cases _ _) λ_=> .rfl))
theorem zTa(t):Le (zoy g t) (zoy h t):= .ite .rfl (.bd (L.stmt _) λ_=> .bd (L.body _) λ_=> .rfl)
theorem zR4(t):Le (zbV g t) (zbV h t):=
 .ite (L.block _) (.ite .rfl (.ite (.bd (L.vars _ _) λ_=> .rfl) (.ite (.bd (L.head _) λ_=> .bd (L.stmt _) λ_=> .ite (.bd (L.stmt _) λ_=> .rfl) .rfl)
  (.ite (.bd (L.head _) λ_=> .bd (L.stmt _) λ_=> .rfl) (.ite (.bd (L.stmt _) λ_=> .bn λ_=> .bd (L.head _) λ_=> .rfl) (.ite (L.loop _) (.ite .rfl (.ite .rfl
  (.ite (.ite (.bd (L.expr _ _) λ_=> .rfl) .rfl) (.ite (.ite .rfl (.bd (L.expr _ _) λ_=> .rfl)) (.ite (zUF L _) (.ite (.bd (L.head _) λ_=> .bn λ_=> .bd (L.cases _ _) λ_=> .rfl)
  (.ite .rfl (.ite (.bd (L.stmt _) λ_=> .rfl) (.bd (L.expr _ _) λ_=> .rfl)))))))))))))))
theorem zOw(a t):Le (ziL g a t) (ziL h a t):= .ite .rfl (.bd (.ite (L.func _ _) (L.stmt _)) λ_=> .bd (L.stmts _ _) λ_=> .rfl)
end
theorem zQI: ∀n,PLe (pG n) (pG (n+1))
 |0=>by constructor<;>intros<;>intro r e<;>cases e
 |n+1=>by
  have L:=zQI n
  exact⟨zSz L,zP0 L,zNn L,zOd L,zSj L,zO2 L,zRi L,zRW L,zSr L,zP2 L,zO5 L,zS2 L,zRn L,zP3 L,le_head L,zS9 L,zSe L,zPU L,zTa L,zR4 L,zOw L⟩
theorem zLB{n:Nat}(m:Nat){a:Bool}{t:zB}{r}(h:(pG n).stmts a t=some r):(pG (n+m)).stmts a t=some r:=by
 induction m with
 |zero=>exact h
 |succ m ih=>exact(zQI (n+m)).stmts a t r ih
def Wf(t:zB):Prop:=∃a e,t=a++[e]/\e.kind=0/\∀x∈a,x.kind≠0
theorem Wf.tail{t:zB}(h:Wf t)(hk:zX t≠0):Wf t.tail/\t.tail.length+1=t.length:=by
 obtain⟨a,e,rfl,he,ha⟩:=h
 cases a with
 |nil=>exact absurd he hk
 |cons x a=>exact⟨⟨a,e,rfl,he,λy hy=>ha y (qz8 _ hy)⟩,by simp⟩
theorem Wf.pos{t:zB}(h:Wf t):0<t.length:=by
 obtain⟨a,e,rfl,_,_⟩:=h;simp
theorem zbo{s:Str}{t:zB}(h:tIs s t=true):zX t≠0:=by
 cases t with
 |nil=>cases h
 |cons x r=>intro e;simp[tIs,opK,show x.kind=0 from e]at h
theorem zkY{l:List Str}{t:zB}(h:zbt l t=true):zX t≠0:=by
 cases t with
 |nil=>cases h
 |cons x r=>intro e;simp[zbt,opK,show x.kind=0 from e]at h
theorem zE2{no:Bool}{t:zB}(h:(zdp no t).1≠0):zX t≠0:=by
 cases t with
 |nil=>exact absurd rfl h
 |cons x r=>intro e;simp[zdp,opK,show x.kind=0 from e]at h
theorem zcR{t:zB}{k:Nat}(h:(zX t==k)=true)(hk:k≠0):zX t≠0:=by
 rw[beq_iff_eq]at h;omega
def Gd{α:Type}(m:Nat)(x:PR α):Prop:=match x with|none=>False|some (.inl _)=>True|some (.inr q)=>Wf q.2/\q.2.length<m
theorem Gd.bd{α β:Type}{m m':Nat}{x:PR α}{f:α×zB->PR β}(h:Gd m x)(k: ∀q:α×zB,Wf q.2->q.2.length<m->Gd m' (f q)):Gd m' (x.bd f):=by
 cases x with
 |none=>exact h
 |some p=>
  cases p with
  |inl j=>trivial
  |inr q=>exact k q h.1 h.2
theorem Gd.bn{β:Type}{m m':Nat}{x:PR Unit}{f:zB->PR β}(h:Gd m x)(k: ∀t:zB,Wf t->t.length<m->Gd m' (f t)):Gd m' (x.bn f):=Gd.bd h λq=>k q.2
theorem Gd.ite{α:Type}{m:Nat}{c:Prop}[Decidable c]{a b:PR α}(h:c->Gd m a)(k: ¬c->Gd m b):Gd m (if c then a else b):=by
 by_cases hc:c
 ·rw[yL hc];exact h hc
 ·rw[yK hc];exact k hc
theorem Gd.up{α:Type}{m m':Nat}{x:PR α}(h:Gd m x)(hm:m<=m'):Gd m' x:=by
 cases x with
 |none=>exact h
 |some p=>
  cases p with
  |inl j=>trivial
  |inr q=>exact⟨h.1,Nat.lt_of_lt_of_le h.2 hm⟩
theorem Gd.need{t:zB}(w:Wf t)(s:Str):Gd t.length (zaC s t):=
 .ite (λc=>by have:=w.tail (zbo c);exact⟨this.1,by show t.tail.length<_;omega⟩) λ_=>trivial
theorem Gd.end{t:zB}(w:Wf t):Gd (t.length+1) (zhD t):=
 .ite (λc=>by have:=w.tail (zbo c);exact⟨this.1,by show t.tail.length<_;omega⟩) λ_=> .ite (λ_=>⟨w,Nat.lt_succ_self _⟩) λ_=>trivial
structure PGd (n:Nat) (g:PG):Prop where
 expr: ∀a t,Wf t->10*t.length+6<n->Gd t.length (g.expr a t)
 comma: ∀a x t,Wf t->10*t.length+1<n->Gd (t.length+1) (g.comma a x t)
 assign: ∀a t,Wf t->10*t.length+5<n->Gd t.length (g.assign a t)
 binary: ∀a b t,Wf t->10*t.length+4<n->Gd t.length (g.binary a b t)
 bins: ∀a b x t,Wf t->10*t.length+1<n->Gd (t.length+1) (g.bins a b x t)
 unary: ∀t,Wf t->10*t.length+3<n->Gd t.length (g.unary t)
 mems: ∀a x t,Wf t->10*t.length+1<n->Gd (t.length+1) (g.mems a x t)
 made: ∀t,Wf t->10*t.length+2<n->Gd t.length (g.made t)
 prim: ∀t,Wf t->10*t.length+1<n->Gd t.length (g.prim t)
 exprs: ∀a b t,Wf t->10*t.length+6<n->Gd t.length (g.exprs a b t)
 props: ∀t,Wf t->10*t.length+1<n->Gd t.length (g.props t)
 func: ∀a t,Wf t->10*t.length+1<n->Gd t.length (g.func a t)
 vars: ∀a t,Wf t->10*t.length+1<n->Gd t.length (g.vars a t)
 block: ∀t,Wf t->10*t.length+1<n->Gd t.length (g.block t)
 head: ∀t,Wf t->10*t.length+1<n->Gd t.length (g.head t)
 till: ∀a t,Wf t->10*t.length+7<n->Gd t.length (g.till a t)
 loop: ∀t,Wf t->10*t.length+1<n->Gd t.length (g.loop t)
 cases: ∀a t,Wf t->10*t.length+1<n->Gd t.length (g.cases a t)
 body: ∀t,Wf t->10*t.length+9<n->Gd (t.length+1) (g.body t)
 stmt: ∀t,Wf t->10*t.length+8<n->Gd t.length (g.stmt t)
 stmts: ∀a t,Wf t->10*t.length+9<n->Gd (t.length+1) (g.stmts a t)
section
variable {n:Nat} {g:PG} (G:PGd n g)
include G
theorem zSJ(a t)(w:Wf t)(h:10*t.length+6<n+1):Gd t.length (zAf g a t):=
 .bd (G.assign _ _ w (by omega)) λq wq lq=>(G.comma _ _ _ wq (by omega)).up (by omega)
theorem zP8(a x t)(w:Wf t)(h:10*t.length+1<n+1):Gd (t.length+1) (zlQ g a x t):=
 .ite (λc=>by have:=w.tail (zbo c);exact .bd (G.assign _ _ this.1 (by omega)) λq wq lq=>(G.comma _ _ _ wq (by omega)).up (by omega)) λ_=>⟨w,Nat.lt_succ_self _⟩
theorem zMZ(a t)(w:Wf t)(h:10*t.length+5<n+1):Gd t.length (zq1 g a t):=
 .bd (G.binary _ _ _ w (by omega)) λq wq lq=>
  .ite (λc=>by
   have:=wq.tail (zbo c)
   exact .bd (G.assign _ _ this.1 (by omega)) λy wy ly=> .bn (.need wy _) λt wt lt=> .bd (G.assign _ _ wt (by omega)) λz wz lz=>⟨wz,by show z.2.length<_;omega⟩) λ_=>
  .ite (λc=> .ite (λ_=>by
   have:=wq.tail (zkY c)
   exact .bd (G.assign _ _ this.1 (by omega)) λy wy ly=>⟨wy,by show y.2.length<_;omega⟩) λ_=>trivial) λ_=>⟨wq,lq⟩
theorem zNC(a b t)(w:Wf t)(h:10*t.length+4<n+1):Gd t.length (zqT g a b t):=
 .bd (G.unary _ w (by omega)) λq wq lq=>(G.bins _ _ _ _ wq (by omega)).up (by omega)
theorem zSB(a b x t)(w:Wf t)(h:10*t.length+1<n+1):Gd (t.length+1) (zoJ g a b x t):=
 .ite (λ_=>⟨w,Nat.lt_succ_self _⟩) λc=>by
  have h0:(zdp a t).1≠0:=by
   intro e;rw[e]at c;simp at c
  have:=w.tail (zE2 h0)
  exact .bd (G.binary _ _ _ this.1 (by omega)) λq wq lq=>(G.bins _ _ _ _ wq (by omega)).up (by omega)
theorem zQl(t)(w:Wf t)(h:10*t.length+3<n+1):Gd t.length (zh3 g t):=
 .ite (λc=>by have:=w.tail (zkY c);exact .bd (G.unary _ this.1 (by omega)) λy wy ly=>⟨wy,by show y.2.length<_;omega⟩) λ_=>
 .ite (λc=>by have:=w.tail (zkY c);exact .bd (G.unary _ this.1 (by omega)) λy wy ly=> .ite (λ_=>⟨wy,by show y.2.length<_;omega⟩) λ_=>trivial) λ_=>
 .bd (G.made _ w (by omega)) λq wq lq=> .bd (G.mems _ _ _ wq (by omega)) λp wp lp=>
  .ite (λ_=>⟨wp,by omega⟩) λc=> .ite (λ_=>by
   have h1:zbt zib p.2=true:=by
    cases e:zbt zib p.2 with
    |true=>rfl
    |false=>rw[e]at c;simp at c
   have:=wp.tail (zkY h1);exact⟨this.1,by show p.2.tail.length<_;omega⟩) λ_=>trivial
theorem zRr(a x t)(w:Wf t)(h:10*t.length+1<n+1):Gd (t.length+1) (zjd g a x t):=
 .ite (λc=>by
  have h1:=w.tail (zbo c)
  exact .ite (λc2=>by
   have h2:=h1.1.tail (by
    intro e;rw[e]at c2;simp at c2)
   exact(G.mems _ _ _ h2.1 (by omega)).up (by omega)) λ_=>trivial) λ_=>
 .ite (λc=>by
  have h1:=w.tail (zbo c)
  exact .bd (G.expr _ _ h1.1 (by omega)) λk wk lk=> .bn (.need wk _) λt wt lt=>(G.mems _ _ _ wt (by omega)).up (by omega)) λ_=>
 .ite (λc=>by
  rw[qz4]at c
  have h1:=w.tail (zbo c.2)
  exact .bd (G.exprs _ _ _ h1.1 (by omega)) λk wk lk=>(G.mems _ _ _ wk (by omega)).up (by omega)) λ_=>⟨w,Nat.lt_succ_self _⟩
theorem zSO(t)(w:Wf t)(h:10*t.length+2<n+1):Gd t.length (zoD g t):=
 .ite (λc=>by
  have h1:=w.tail (zbo c)
  exact .bd (G.made _ h1.1 (by omega)) λq wq lq=> .bd (G.mems _ _ _ wq (by omega)) λp wp lp=>
   .ite (λc2=>by
    have h2:=wp.tail (zbo c2)
    exact .bd (G.exprs _ _ _ h2.1 (by omega)) λl wl ll=>⟨wl,by show l.2.length<_;omega⟩) λ_=>⟨wp,by show p.2.length<_;omega⟩) λ_=>G.prim _ w (by omega)
theorem zRV(t)(w:Wf t)(h:10*t.length+1<n+1):Gd t.length (zdX g t):=by
 have tl: ∀{k:Nat},(zX t==k)=true->k≠0->∀x:Node,Gd t.length (gt (x,t.tail)):=λc hk x=>by
  have:=w.tail (zcR c hk);exact⟨this.1,by show t.tail.length<_;omega⟩
 have ti: ∀{s:Str},tIs s t=true->∀x:Node,Gd t.length (gt (x,t.tail)):=λc x=>by
  have:=w.tail (zbo c);exact⟨this.1,by show t.tail.length<_;omega⟩
 refine .ite (λc=>tl c (by decide) _) λ_=> .ite (λc=>?_) λ_=> .ite (λc=>tl c (by decide) _) λ_=> .ite (λc=>ti c _) λ_=> .ite (λc=>ti c _) λ_=> .ite (λc=>ti c _) λ_=> .ite (λc=>ti c _) λ_=>
  .ite (λc=>?_) λ_=> .ite (λc=>?_) λ_=> .ite (λc=>?_) λ_=> .ite (λc=>?_) λ_=>trivial
 ·have:=tl c (by decide)
  cases t with
  |nil=>exact absurd w.pos (by simp)
  |cons a r=>exact this _
 all_goals have h1:=w.tail (zbo c)
 ·exact(G.func _ _ h1.1 (by omega)).up (by omega)
 ·exact .bd (G.expr _ _ h1.1 (by omega)) λk wk lk=> .bn (.need wk _) λt' wt lt=>⟨wt,by show t'.length<_;omega⟩
 ·exact .bd (G.exprs _ _ _ h1.1 (by omega)) λl wl ll=>⟨wl,by show l.2.length<_;omega⟩
 ·exact .bd (G.props _ h1.1 (by omega)) λl wl ll=>⟨wl,by show l.2.length<_;omega⟩
theorem zPc(a b t)(w:Wf t)(h:10*t.length+6<n+1):Gd t.length (zgW g a b t):=
 .ite (λc=>by have:=w.tail (zbo c);exact⟨this.1,by show t.tail.length<_;omega⟩) λ_=>
 .bd (G.assign _ _ w (by omega)) λx wx lx=> .ite (λc=>by have:=wx.tail (zbo c);exact⟨this.1,by show x.2.tail.length<_;omega⟩) λ_=>
  .bn (.need wx _) λt wt lt=> .ite (λ_=>trivial) λ_=> .bd (G.exprs _ _ _ wt (by omega)) λl wl ll=>⟨wl,by show l.2.length<_;omega⟩
omit G in
theorem zUg{t}(w:Wf t):Gd t.length (zDA t):=by
 cases t with
 |nil=>exact absurd w.pos (by simp)
 |cons a r=>
  have tl: ∀{k:Nat},(a.kind==k)=true->k≠0->∀x:Str,Gd (a::r).length (gt (x,r)):=λc hk x=>by
   have:=w.tail (zcR (t:=a::r) c hk);exact⟨this.1,by show r.length<_;simp⟩
  exact .ite (λc=>tl c (by decide) _) λ_=> .ite (λc=>tl c (by decide) _) λ_=> .ite (λc=>by
   rw[yQ]at c
   exact c.elim (λc=>tl c (by decide) _) λc=>tl c (by decide) _) λ_=>trivial
theorem zPl(t)(w:Wf t)(h:10*t.length+1<n+1):Gd t.length (zhS g t):=
 .ite (λc=>by have:=w.tail (zbo c);exact⟨this.1,by show t.tail.length<_;omega⟩) λ_=>
 .bd (zUg w) λk wk lk=> .bn (.need wk _) λt1 w1 l1=> .bd (G.assign _ _ w1 (by omega)) λx wx lx=>
  .ite (λc=>by have:=wx.tail (zbo c);exact⟨this.1,by show x.2.tail.length<_;omega⟩) λ_=>
  .bn (.need wx _) λt wt lt=> .bd (G.props _ wt (by omega)) λl wl ll=>⟨wl,by show l.2.length<_;omega⟩
omit G in
theorem zI1: ∀t,Wf t->Gd t.length (zjy t)
 | [],w=>absurd w.pos (by simp)
 | [a],_=>trivial
 |a::b::r,w=>by
  rw[zjy]
  refine .ite (λc=>?_) λ_=>trivial
  have h1:=w.tail (zcR (t:=a::b::r) c (by decide))
  refine .ite (λc2=>?_) λ_=> .ite (λc2=>?_) λ_=>trivial
  ·have h2:=h1.1.tail (zbo c2)
   exact⟨h2.1,by show r.length<_;simp only[qz3];omega⟩
  ·have h2:=h1.1.tail (zbo c2)
   exact .ite (λ_=>trivial) λ_=> .bd (zI1 r h2.1) λl wl ll=>⟨wl,by show l.2.length<_;simp only[qz3];omega⟩
omit G in
theorem zNt{t}(w:Wf t):Gd t.length (zfD t):=
 .ite (λc=>by have:=w.tail (zbo c);exact⟨this.1,by show t.tail.length<_;omega⟩) λ_=>zI1 t w
theorem zSA(a t)(w:Wf t)(h:10*t.length+1<n+1):Gd t.length (zta g a t):=
 .bd (m:=t.length+1) (.ite (λc=>by have:=w.tail (zcR c (by decide));exact⟨this.1,by show t.tail.length<_;omega⟩) λ_=> .ite (λ_=>trivial) λ_=>⟨w,Nat.lt_succ_self _⟩) λm wm lm=>
  .bn (.need wm _) λt1 w1 l1=> .bd (zNt w1) λns wn ln=> .bn (.need wn _) λt2 w2 l2=> .bd (G.stmts _ _ w2 (by omega)) λl wl ll=> .bn (.need wl _) λt3 w3 l3=>⟨w3,by show t3.length<_;omega⟩
theorem zTj(a t)(w:Wf t)(h:10*t.length+1<n+1):Gd t.length (znc g a t):=
 .ite (λc=>by
  have h1:=w.tail (zcR c (by decide))
  exact .bd (m:=t.length) (.ite (λc2=>by
   have h2:=h1.1.tail (zbo c2)
   exact .bd (G.assign _ _ h2.1 (by omega)) λy wy ly=>⟨wy,by show y.2.length<_;omega⟩) λ_=>⟨h1.1,by show t.tail.length<_;omega⟩) λd wd ld=>
    .ite (λc3=>by
     have h3:=wd.tail (zbo c3)
     exact .bd (G.vars _ _ h3.1 (by omega)) λl wl ll=>⟨wl,by show l.2.length<_;omega⟩) λ_=>⟨wd,by show d.2.length<_;omega⟩) λ_=>trivial
theorem zOJ(t)(w:Wf t)(h:10*t.length+1<n+1):Gd t.length (zly g t):=
 .bn (.need w _) λt1 w1 l1=> .bd (G.stmts _ _ w1 (by omega)) λl wl ll=> .bn (.need wl _) λt2 w2 l2=>⟨w2,by show t2.length<_;omega⟩
theorem zTt(t)(w:Wf t)(h:10*t.length+1<n+1):Gd t.length (ztn g t):=
 .bn (.need w _) λt1 w1 l1=> .bd (G.expr _ _ w1 (by omega)) λl wl ll=> .bn (.need wl _) λt2 w2 l2=>⟨w2,by show t2.length<_;omega⟩
theorem zSD(s t)(w:Wf t)(h:10*t.length+7<n+1):Gd t.length (zlE g s t):=
 .ite (λc=>by have:=w.tail (zbo c);exact⟨this.1,by show t.tail.length<_;omega⟩) λ_=>
 .bd (G.expr _ _ w (by omega)) λl wl ll=> .bn (.need wl _) λt2 w2 l2=>⟨w2,by show t2.length<_;omega⟩
theorem zPn(t)(w:Wf t)(h:10*t.length+6<n):Gd (t.length+1) (znb g t):=
 .ite (λc=>by
  have h1:=w.tail (zbo c)
  exact .bd (G.vars _ _ h1.1 (by omega)) λl wl ll=>⟨wl,by show l.2.length<_;omega⟩) λ_=> .ite (λ_=>⟨w,Nat.lt_succ_self _⟩) λ_=>(G.expr _ _ w (by omega)).up (by omega)
theorem zTk(t)(w:Wf t)(h:10*t.length+1<n+1):Gd t.length (zoz g t):=
 .bn (.need w _) λt1 w1 l1=> .bd (zPn G _ w1 (by omega)) λq wq lq=>
  .ite (λc=>by
   rw[qz4]at c
   have h1:=wq.tail (zbo c.2)
   exact .bd (G.expr _ _ h1.1 (by omega)) λx wx lx=> .bn (.need wx _) λt2 w2 l2=> .bd (G.stmt _ w2 (by omega)) λb wb lb=>⟨wb,by show b.2.length<_;omega⟩) λ_=>
  .bn (.need wq _) λt2 w2 l2=> .bd (G.till _ _ w2 (by omega)) λx wx lx=> .bd (G.till _ _ wx (by omega)) λy wy ly=> .bd (G.stmt _ wy (by omega)) λb wb lb=>⟨wb,by show b.2.length<_;omega⟩
theorem zPr(t)(w:Wf t)(h:10*t.length<n):Gd (t.length+1) (znl g t):=
 .ite (λc=>by
  have h1:=w.tail (zbo c)
  exact .bn (.need h1.1 _) λt1 w1 l1=> .ite (λc2=>by
   have h2:=w1.tail (zcR c2 (by decide))
   exact .bn (.need h2.1 _) λt2 w2 l2=> .bd (G.block _ w2 (by omega)) λb wb lb=>⟨wb,by show b.2.length<_;omega⟩) λ_=>trivial) λ_=>⟨w,Nat.lt_succ_self _⟩
theorem zOA(t)(w:Wf t)(h:10*t.length<n):Gd (t.length+1) (zkH g t):=
 .ite (λc=>by
  have h1:=w.tail (zbo c)
  exact(G.block _ h1.1 (by omega)).up (by omega)) λ_=>⟨w,Nat.lt_succ_self _⟩
theorem zUH(t)(w:Wf t)(h:10*t.length+2<n):Gd t.length (zDQ g t):=
 .bd (G.block _ w (by omega)) λb wb lb=> .bd (zPr G _ wb (by omega)) λc wc lc=> .bd (zOA G _ wc (by omega)) λf wf lf=> .ite (λ_=>trivial) λ_=>⟨wf,by show f.2.length<_;omega⟩
theorem zOQ(a t)(w:Wf t)(h:10*t.length+1<n+1):Gd t.length (zjD g a t):=
 .ite (λc=>by have:=w.tail (zbo c);exact⟨this.1,by show t.tail.length<_;omega⟩) λ_=>
 .ite (λc=>by
  rw[qz4]at c
  have h1:=w.tail (zbo c.2)
  exact .bn (.need h1.1 _) λt1 w1 l1=> .bd (G.body _ w1 (by omega)) λl wl ll=> .bd (G.cases _ _ wl (by omega)) λr wr lr=>⟨wr,by show r.2.length<_;omega⟩) λ_=>
 .bn (.need w _) λt1 w1 l1=> .bd (G.expr _ _ w1 (by omega)) λx wx lx=> .bn (.need wx _) λt2 w2 l2=> .bd (G.body _ w2 (by omega)) λl wl ll=> .bd (G.cases _ _ wl (by omega)) λr wr lr=>⟨wr,by show r.2.length<_;omega⟩
theorem zR7(t)(w:Wf t)(h:10*t.length+9<n+1):Gd (t.length+1) (zoy g t):=
 .ite (λ_=>⟨w,Nat.lt_succ_self _⟩) λ_=> .bd (G.stmt _ w (by omega)) λx wx lx=> .bd (G.body _ wx (by omega)) λl wl ll=>⟨wl,by show l.2.length<_;omega⟩
omit G in
theorem zKn(k t)(w:Wf t):Gd (t.length+1) (zkk k t):=
 .ite (λc=>by
  rw[qz4]at c
  have h1:=w.tail (zcR c.1 (by decide))
  exact .bn (.end h1.1) λt1 w1 l1=>⟨w1,by show t1.length<_;omega⟩) λ_=> .bn (.end w) λt1 w1 l1=>⟨w1,by show t1.length<_;omega⟩
theorem zSs(t)(w:Wf t)(h:10*t.length+8<n+1):Gd t.length (zbV g t):=by
 refine .ite (λc=>G.block _ w (by omega)) λ_=> .ite (λc=>?_) λ_=> .ite (λc=>?_) λ_=> .ite (λc=>?_) λ_=> .ite (λc=>?_) λ_=> .ite (λc=>?_) λ_=> .ite (λc=>?_) λ_=> .ite (λc=>?_) λ_=>
  .ite (λc=>?_) λ_=> .ite (λc=>?_) λ_=> .ite (λc=>?_) λ_=> .ite (λc=>?_) λ_=> .ite (λc=>?_) λ_=> .ite (λc=>trivial) λ_=> .ite (λc=>?_) λ_=>?_
 rotate_right 2
 ·rw[qz4]at c
  have h1:=w.tail (zcR c.1 (by decide))
  have h2:=h1.1.tail (zbo c.2)
  exact .bd (G.stmt _ h2.1 (by omega)) λx wx lx=>⟨wx,by show x.2.length<_;omega⟩
 ·exact .bd (G.expr _ _ w (by omega)) λx wx lx=> .bn (.end wx) λt1 w1 l1=>⟨w1,by show t1.length<_;omega⟩
 all_goals have h1:=w.tail (zbo c)
 ·exact⟨h1.1,by show t.tail.length<_;omega⟩
 ·exact .bd (G.vars _ _ h1.1 (by omega)) λx wx lx=> .bn (.end wx) λt1 w1 l1=>⟨w1,by show t1.length<_;omega⟩
 ·exact .bd (G.head _ h1.1 (by omega)) λx wx lx=> .bd (G.stmt _ wx (by omega)) λb wb lb=> .ite (λc2=>by
   have h2:=wb.tail (zbo c2)
   exact .bd (G.stmt _ h2.1 (by omega)) λe we le=>⟨we,by show e.2.length<_;omega⟩) λ_=>⟨wb,by show b.2.length<_;omega⟩
 ·exact .bd (G.head _ h1.1 (by omega)) λx wx lx=> .bd (G.stmt _ wx (by omega)) λb wb lb=>⟨wb,by show b.2.length<_;omega⟩
 ·exact .bd (G.stmt _ h1.1 (by omega)) λb wb lb=> .bn (.need wb _) λt1 w1 l1=> .bd (G.head _ w1 (by omega)) λx wx lx=> .bn (.end wx) λt2 w2 l2=>⟨w2,by show t2.length<_;omega⟩
 ·exact(G.loop _ h1.1 (by omega)).up (by omega)
 ·exact(zKn _ _ h1.1).up (by omega)
 ·exact(zKn _ _ h1.1).up (by omega)
 ·exact .ite (λ_=> .bd (G.expr _ _ h1.1 (by omega)) λx wx lx=> .bn (.end wx) λt1 w1 l1=>⟨w1,by show t1.length<_;omega⟩) λ_=> .bn (.end h1.1) λt1 w1 l1=>⟨w1,by show t1.length<_;omega⟩
 ·exact .ite (λ_=>trivial) λ_=> .bd (G.expr _ _ h1.1 (by omega)) λx wx lx=> .bn (.end wx) λt1 w1 l1=>⟨w1,by show t1.length<_;omega⟩
 ·exact(zUH G _ h1.1 (by omega)).up (by omega)
 ·exact .bd (G.head _ h1.1 (by omega)) λx wx lx=> .bn (.need wx _) λt1 w1 l1=> .bd (G.cases _ _ w1 (by omega)) λl wl ll=>⟨wl,by show l.2.length<_;omega⟩
theorem zPM(a t)(w:Wf t)(h:10*t.length+9<n+1):Gd (t.length+1) (ziL g a t):=
 .ite (λ_=>⟨w,Nat.lt_succ_self _⟩) λ_=> .bd (m:=t.length) (.ite (λc=>by
  rw[qz4]at c
  have h1:=w.tail (zbo c.2)
  exact(G.func _ _ h1.1 (by omega)).up (by omega)) λ_=>G.stmt _ w (by omega)) λx wx lx=> .bd (G.stmts _ _ wx (by omega)) λl wl ll=>⟨wl,by show l.2.length<_;omega⟩
end
theorem zQ2: ∀n,PGd n (pG n)
 |0=>by constructor<;>intros<;>omega
 |n+1=>by
  have G:=zQ2 n
  exact⟨zSJ G,zP8 G,zMZ G,zNC G,zSB G,zQl G,zRr G,zSO G,zRV G,zPc G,zPl G,zSA G,zTj G,zOJ G,zTt G,zSD G,zTk G,zOQ G,zR7 G,zSs G,zPM G⟩
def zgD(x:PR Node):Prop:=∀q,x=gt q->q.1.Kind≠22
theorem zgD.gt{x:Node}{t:zB}(h:x.Kind≠22):zgD (gt (x,t)):=λq e=>by cases e;exact h
theorem zgD.bad{t:zB}:zgD (bad t):=λq e=>by cases e
theorem zgD.bd{α:Type}{x:PR α}{f:α×zB->PR Node}(k: ∀q,x=Go.D08.gt q->zgD (f q)):zgD (x.bd f):=by
 cases x with
 |none=>intro q e;cases e
 |some p=>
  cases p with
  |inl j=>intro q e;cases e
  |inr q=>exact k q rfl
theorem zgD.bn{x:PR Unit}{f:zB->PR Node}(k: ∀t,zgD (f t)):zgD (x.bn f):= .bd λq _=>k q.2
theorem zgD.ite{c:Prop}[Decidable c]{a b:PR Node}(h:c->zgD a)(k: ¬c->zgD b):zgD (if c then a else b):=by
 by_cases hc:c
 ·rw[yL hc];exact h hc
 ·rw[yK hc];exact k hc
structure P22 (g:PG):Prop where
 expr: ∀a t,zgD (g.expr a t)
 comma: ∀a x t,x.Kind≠22->zgD (g.comma a x t)
 assign: ∀a t,zgD (g.assign a t)
 binary: ∀a b t,zgD (g.binary a b t)
 bins: ∀a b x t,x.Kind≠22->zgD (g.bins a b x t)
 unary: ∀t,zgD (g.unary t)
 mems: ∀a x t,x.Kind≠22->zgD (g.mems a x t)
 made: ∀t,zgD (g.made t)
 prim: ∀t,zgD (g.prim t)
 func: ∀t,zgD (g.func 10 t)
theorem zTd(no:Bool)(t:zB):(zdp no t).2≠22:=by
 cases t with
 |nil=>show(0:Int)≠22;decide
 |cons a r=>
  show(if opK a=true then lvS no a.text else(0,0)).2≠22
  unfold lvS
  repeat' split
  all_goals decide
theorem zQL: ∀n,P22 (pG n)
 |0=>by constructor<;>intros<;>intro q e<;>cases e
 |n+1=>by
  have G:=zQL n
  refine⟨λa t=>?_,λa x t hx=>?_,λa t=>?_,λa b t=>?_,λa b x t hx=>?_,λt=>?_,λa x t hx=>?_,λt=>?_,λt=>?_,λt=>?_⟩
  ·exact .bd λq e=>G.comma _ _ _ (G.assign _ _ q e)
  ·exact .ite (λ_=> .bd λq e=>G.comma _ _ _ (by simp[nd,ndN])) λ_=> .gt hx
  ·exact .bd λq e=> .ite (λ_=> .bd λy _=> .bn λt=> .bd λz _=> .gt (by simp[nd,ndN])) λ_=> .ite (λ_=> .ite (λ_=> .bd λy _=> .gt (by simp[nd,ndN])) λ_=> .bad) λ_=> .gt (G.binary _ _ _ q e)
  ·exact .bd λq e=>G.bins _ _ _ _ (G.unary _ q e)
  ·exact .ite (λ_=> .gt hx) λ_=> .bd λq e=>G.bins _ _ _ _ (zTd _ _)
  ·exact .ite (λ_=> .bd λy _=> .gt (by simp[nd,ndN])) λ_=> .ite (λ_=> .bd λy _=> .ite (λ_=> .gt (by simp[nd,ndN])) λ_=> .bad) λ_=>
    .bd λq e=> .bd λp e2=> .ite (λ_=> .gt (G.mems _ _ _ (G.made _ q e) p e2)) λ_=> .ite (λ_=> .gt (by simp[nd,ndN])) λ_=> .bad
  ·exact .ite (λ_=> .ite (λ_=>G.mems _ _ _ (by simp[nd,ndN])) λ_=> .bad) λ_=> .ite (λ_=> .bd λk _=> .bn λt=>G.mems _ _ _ (by simp[nd,ndN])) λ_=>
    .ite (λ_=> .bd λl _=>G.mems _ _ _ (by simp[nd,ndN])) λ_=> .gt hx
  ·exact .ite (λ_=> .bd λq _=> .bd λp _=> .ite (λ_=> .bd λl _=> .gt (by simp[nd,ndN])) λ_=> .gt (by simp[nd,ndN])) λ_=>G.prim _
  ·refine .ite (λ_=> .gt (by simp[nd,ndN])) λ_=> .ite (λ_=>?_) λ_=> .ite (λ_=> .gt (by simp[nd,ndN])) λ_=> .ite (λ_=> .gt (by simp[nd,ndN])) λ_=> .ite (λ_=> .gt (by simp[nd,ndN])) λ_=> .ite (λ_=> .gt (by simp[nd,ndN])) λ_=> .ite (λ_=> .gt (by simp[nd,ndN])) λ_=>
    .ite (λ_=>G.func _) λ_=> .ite (λ_=> .bd λk e=> .bn λt=> .gt (G.expr _ _ k e)) λ_=> .ite (λ_=> .bd λl _=> .gt (by simp[nd,ndN])) λ_=> .ite (λ_=> .bd λl _=> .gt (by simp[nd,ndN])) λ_=> .bad
   cases t with
   |nil=>intro q e;cases e
   |cons a r=>exact .gt (by show(1:Int)≠22;decide)
  ·exact .bd λm _=> .bn λt=> .bd λns _=> .bn λt=> .bd λl _=> .bn λt=> .gt (by simp[nd,ndN])
theorem zAJ{α β:Type}{x:PR α}{f:α×zB->PR β}{q:β×zB}(h:x.bd f=gt q): ∃p,x=gt p/\f p=gt q:=by
 cases x with
 |none=>cases h
 |some p=>
  cases p with
  |inl j=>cases h
  |inr p=>exact⟨p,rfl,h⟩
theorem zEn{β:Type}{x:PR Unit}{f:zB->PR β}{q:β×zB}(h:x.bn f=gt q): ∃t,f t=gt q:=by
 obtain⟨p,_,h⟩:=zAJ h
 exact⟨_,h⟩
theorem zG7{n:Nat}{t:zB}{q:Node×zB}(h:(pG n).block t=gt q):q.1.Kind=25:=by
 cases n with
 |zero=>cases h
 |succ n=>
  have h:zly (pG n) t=gt q:=h
  unfold zly at h
  obtain⟨t1,h⟩:=zEn h
  obtain⟨l,_,h⟩:=zAJ h
  obtain⟨t2,h⟩:=zEn h
  cases h
  rfl
end Go.D08
namespace Go.D08
open Go Go.Gw Go.Dn Go.Proofs
set_option maxRecDepth 100000
def atK(L0:List zu)(k:Nat):Int:=match L0.drop (L0.length -k)with|x::_=>x.At| []=>0
structure TL (L0 L:List zu):Prop where
 ok:TOk L
 suf:L<:+L0
theorem TL.tail{L0 L:List zu}(h:TL L0 L)(hk:zX (L.map tk)≠0):TL L0 L.tail:=by
 obtain⟨x,r,rfl⟩:=h.ok.cons
 have h0:=(h.ok.kinds x qz7).1
 refine⟨h.ok.tail (λe=>hk (by show(tk x).kind=0;unfold tk;rw[e];rfl)),(List.suffix_cons x r).trans h.suf⟩
theorem TL.at_{L0:List zu}{x:zu}{r:List zu}(h:TL L0 (x::r)):atK L0 ((x::r).map tk).length=x.At:=by
 obtain⟨p,hp⟩:=h.suf
 unfold atK
 rw[<-hp,List.length_map,qz5,show p.length+(x::r).length - (x::r).length=p.length by omega,List.drop_left]
def SG{α ρ:Type}(L0:List zu)(E:Int->ρ->Prop)(O:α->List zu->ρ->Prop)(m:Option ρ)(q:PR α):Prop:=
 match q with
 |none=>True
 |some (.inl k)=>∃r,m=some r/\E (atK L0 k) r
 |some (.inr p)=>∃r L',m=some r/\L'.map tk=p.2/\TL L0 L'/\O p.1 L' r
section
variable {α β γ δ ρ σ:Type} {L0 L:List zu} {no:Bool} {E:Int->ρ->Prop} {O:α->List zu->ρ->Prop} {E':Int->σ->Prop} {O':β->List zu->σ->Prop}
abbrev EL(a:Int)(r:(zad×γ)⊕δ):Prop:=∃y,r= .inl (zad.code 45 a,y)
abbrev ER(a:Int)(r:δ⊕(zad×γ)):Prop:=∃y,r= .inr (zad.code 45 a,y)
abbrev OL(no:Bool)(v:α)(L':List zu)(r:(α×zh×Unit)⊕δ):Prop:=r= .inl (v,pp L' no,())
abbrev OR(no:Bool)(v:α)(L':List zu)(r:δ⊕(α×zh×Unit)):Prop:=r= .inr (v,pp L' no,())
theorem SG.gen{m:Option ρ}{q:PR α}{f:ρ->Option σ}{g:α×zB->PR β}(h:SG L0 E O m q)(he: ∀a r,E a r->∃r',f r=some r'/\E' a r')
  (ho: ∀v L' r,q=gt (v,L'.map tk)->TL L0 L'->O v L' r->SG L0 E' O' (f r) (g (v,L'.map tk))):SG L0 E' O' (m.bind f) (q.bd g):=by
 cases q with
 |none=>trivial
 |some p=>
  cases p with
  |inl k=>
   obtain⟨r,rfl,hr⟩:=h
   exact he _ _ hr
  |inr p=>
   obtain⟨r,L',rfl,hL,ok,hr⟩:=h
   obtain⟨v,t⟩:=p
   subst hL
   exact ho v L' r rfl ok hr
theorem SG.same{m:Option ρ}{q:PR α}{f:ρ->Option σ}{O':α->List zu->σ->Prop}(h:SG L0 E O m q)(he: ∀a r,E a r->∃r',f r=some r'/\E' a r')
  (ho: ∀v L' r,TL L0 L'->O v L' r->∃r',f r=some r'/\O' v L' r'):SG L0 E' O' (m.bind f) q:=by
 cases q with
 |none=>trivial
 |some p=>
  cases p with
  |inl k=>
   obtain⟨r,rfl,hr⟩:=h
   exact he _ _ hr
  |inr p=>
   obtain⟨r,L',rfl,hL,ok,hr⟩:=h
   obtain⟨r',e,ho⟩:=ho p.1 L' r ok hr
   exact⟨r',L',e,hL,ok,ho⟩
theorem SG.gt{r:ρ}{v:α}(ok:TL L0 L)(h:O v L r):SG L0 E O (some r) (gt (v,L.map tk)):=⟨r,L,rfl,rfl,ok,h⟩
theorem SG.l{m:Option ((zad×γ)⊕(α×zh×Unit))}{q:PR α}{f:(zad×γ)⊕(α×zh×Unit)->Option σ}{g:α×zB->PR β}(h:SG L0 EL (OR no) m q)
  (he: ∀a y,∃r',f (.inl (zad.code 45 a,y))=some r'/\E' a r') (ho: ∀v L',TL L0 L'->SG L0 E' O' (f (.inr (v,pp L' no,()))) (g (v,L'.map tk))):SG L0 E' O' (m.bind f) (q.bd g):=
 h.gen (by rintro a _ ⟨y,rfl⟩;exact he a y) (by rintro v L' _ _ ok rfl;exact ho v L' ok)
theorem SG.r{m:Option ((α×zh×Unit)⊕(zad×γ))}{q:PR α}{f:(α×zh×Unit)⊕(zad×γ)->Option σ}{g:α×zB->PR β}(h:SG L0 ER (OL no) m q)
  (he: ∀a y,∃r',f (.inr (zad.code 45 a,y))=some r'/\E' a r') (ho: ∀v L',TL L0 L'->SG L0 E' O' (f (.inl (v,pp L' no,()))) (g (v,L'.map tk))):SG L0 E' O' (m.bind f) (q.bd g):=
 h.gen (by rintro a _ ⟨y,rfl⟩;exact he a y) (by rintro v L' _ _ ok rfl;exact ho v L' ok)
theorem SG.ll{m:Option ((zad×γ)⊕(α×zh×Unit))}{q:PR α}{f:(zad×γ)⊕(α×zh×Unit)->Option σ}{O':α->List zu->σ->Prop}(h:SG L0 EL (OR no) m q)
  (he: ∀a y,∃r',f (.inl (zad.code 45 a,y))=some r'/\E' a r') (ho: ∀v L',∃r',f (.inr (v,pp L' no,()))=some r'/\O' v L' r'):SG L0 E' O' (m.bind f) q:=
 h.same (by rintro a _ ⟨y,rfl⟩;exact he a y) (by rintro v L' _ ok rfl;exact ho v L')
theorem SG.rr{m:Option ((α×zh×Unit)⊕(zad×γ))}{q:PR α}{f:(α×zh×Unit)⊕(zad×γ)->Option σ}{O':α->List zu->σ->Prop}(h:SG L0 ER (OL no) m q)
  (he: ∀a y,∃r',f (.inr (zad.code 45 a,y))=some r'/\E' a r') (ho: ∀v L',∃r',f (.inl (v,pp L' no,()))=some r'/\O' v L' r'):SG L0 E' O' (m.bind f) q:=
 h.same (by rintro a _ ⟨y,rfl⟩;exact he a y) (by rintro v L' _ ok rfl;exact ho v L')
theorem SG.is{s:Str}{f:Bool×zh×Unit->Option σ}{qa qb:PR β}(ok:TL L0 L)(hy:tIs s (L.map tk)=true->SG L0 E' O' (f (true,pp L no,())) qa)(hn:tIs s (L.map tk)=false->SG L0 E' O' (f (false,pp L no,())) qb):
  SG L0 E' O' ((za5 s (pp L no)).bind f) (if tIs s (L.map tk)=true then qa else qb):=by
 rw[ztg ok.ok s,qz1]
 cases hq:tIs s (L.map tk)with
 |true=>exact hy hq
 |false=>exact hn hq
theorem SG.has{s:Str}{f:Bool×zh×Unit->Option σ}{qa qb:PR β}(ok:TL L0 L)(hy:tIs s (L.map tk)=true->TL L0 L.tail->SG L0 E' O' (f (true,pp L.tail no,())) qa)(hn:tIs s (L.map tk)=false->SG L0 E' O' (f (false,pp L no,())) qb):
  SG L0 E' O' ((zG s (pp L no)).bind f) (if tIs s (L.map tk)=true then qa else qb):=by
 rw[has_eq ok.ok s,qz1]
 cases hq:tIs s (L.map tk)with
 |true=>exact hy hq (ok.tail (zbo hq))
 |false=>exact hn hq
theorem SG.stops{f:Bool×zh×Unit->Option σ}{q:PR β}(ok:TL L0 L)(h:SG L0 E' O' (f (zkF (L.map tk),pp L no,())) q):SG L0 E' O' ((zev (pp L no)).bind f) q:=by
 rw[zGJ ok.ok,qz1];exact h
theorem SG.among{ws:List Str}{list:Str}{f:Bool×zh×Unit->Option σ}{qa qb:PR β}(ok:TL L0 L)(hl:list=joined ws)(hw: ∀w∈ws,(32:UInt8)∉w)(hll:list.length<=1000000)
  (hy:zbt ws (L.map tk)=true->SG L0 E' O' (f (true,pp L no,())) qa) (hn:zbt ws (L.map tk)=false->SG L0 E' O' (f (false,pp L no,())) qb):
  SG L0 E' O' ((zbl list (pp L no)).bind f) (if zbt ws (L.map tk)=true then qa else qb):=by
 rw[zme ok.ok ws list hl hw hll,qz1]
 cases hq:zbt ws (L.map tk)with
 |true=>exact hy hq
 |false=>exact hn hq
theorem zuZ{x:zu}{r:List zu}:zaN (pp (x::r) no)=some (zad.code 45 x.At,pp (x::r) no,()):=rfl
theorem SG.fail{f:zad×zh×Unit->Option σ}(ok:TL L0 L)(h: ∀a,∃r',f (zad.code 45 a,pp L no,())=some r'/\E' a r'):SG L0 E' O' ((zaN (pp L no)).bind f) (bad (L.map tk)):=by
 obtain⟨x,r,rfl⟩:=ok.ok.cons
 rw[zuZ,qz1]
 obtain⟨r',e1,e2⟩:=h x.At
 exact⟨r',e1,by rw[ok.at_];exact e2⟩
theorem SG.need'{s:Str}{f:(zad×zh×Unit)⊕(zh×Unit)->Option σ}{g:zB->PR β}(ok:TL L0 L)(he: ∀a y,∃r',f (.inl (zad.code 45 a,y))=some r'/\E' a r')
  (ho: ∀L',TL L0 L'->L'.length<L.length->SG L0 E' O' (f (.inr (pp L' no,()))) (g (L'.map tk))):SG L0 E' O' ((zac s (pp L no)).bind f) ((zaC s (L.map tk)).bn g):=by
 unfold zac zaC
 rw[zQ,has_eq ok.ok s,qz1]
 cases hq:tIs s (L.map tk)with
 |true=>
  simp only[yB]
  have:=ho L.tail (ok.tail (zbo hq)) (by obtain⟨x,r,rfl⟩:=ok.ok.cons;simp)
  rw[yM]at this
  exact this
 |false=>
  simp only[qz2,yA,yN,yB,zQ]
  obtain⟨x,r,rfl⟩:=ok.ok.cons
  rw[zuZ]
  obtain⟨r',e1,e2⟩:=he x.At (pp (x::r) no,())
  exact⟨r',e1,by rw[ok.at_];exact e2⟩
theorem SG.need{s:Str}{f:(zad×zh×Unit)⊕(zh×Unit)->Option σ}{g:zB->PR β}(ok:TL L0 L)(he: ∀a y,∃r',f (.inl (zad.code 45 a,y))=some r'/\E' a r')
  (ho: ∀L',TL L0 L'->SG L0 E' O' (f (.inr (pp L' no,()))) (g (L'.map tk))):SG L0 E' O' ((zac s (pp L no)).bind f) ((zaC s (L.map tk)).bn g):= .need' ok he λL' h _=>ho L' h
theorem SG.end{f:(zad×zh×Unit)⊕(zh×Unit)->Option σ}{g:zB->PR β}(ok:TL L0 L)(he: ∀a y,∃r',f (.inl (zad.code 45 a,y))=some r'/\E' a r')
  (ho: ∀L',TL L0 L'->SG L0 E' O' (f (.inr (pp L' no,()))) (g (L'.map tk))):SG L0 E' O' ((zbE (pp L no)).bind f) ((zhD (L.map tk)).bn g):=by
 unfold zbE zhD
 rw[zQ,has_eq ok.ok [59],qz1]
 cases hq:tIs [59] (L.map tk)with
 |true=>
  simp only[yB]
  have:=ho L.tail (ok.tail (zbo hq))
  rw[yM]at this
  exact this
 |false=>
  simp only[qz2,yA,yN,yB,zQ]
  rw[zGJ ok.ok]
  simp only[qz1]
  cases hp:zkF (L.map tk)with
  |true=>
   simp only[yO,qz2,yA,yB]
   exact ho L ok
  |false=>
   simp only[yN,yB,qz2,yA]
   obtain⟨x,r,rfl⟩:=ok.ok.cons
   rw[zuZ]
   obtain⟨r',e1,e2⟩:=he x.At (pp (x::r) no,())
   exact⟨r',e1,by rw[ok.at_];exact e2⟩
theorem zhb{x:zu}{r:List zu}(ok:TL L0 (x::r))(n:Nat):(x.Kind==(n:Int))=(zX ((x::r).map tk)==n):=zoq (ok.ok.kinds x qz7).1 n
theorem SG.name{f:(zad×zh×Unit)⊕(Str×zh×Unit)->Option σ}{qa:PR β}(ok:TL L0 L)(he: ∀a y,∃r',f (.inl (zad.code 45 a,y))=some r'/\E' a r')
  (ho:(zX (L.map tk)==1)=true->TL L0 L.tail->SG L0 E' O' (f (.inr (tText (L.map tk),pp L.tail no,()))) qa):SG L0 E' O' ((zdb (pp L no)).bind f) (if(zX (L.map tk)==1)=true then qa else bad (L.map tk)):=by
 obtain⟨x,r,rfl⟩:=ok.ok.cons
 have hk:=zhb ok 1
 rw[show((1:Nat):Int)=1 from rfl]at hk
 unfold zdb
 simp only[zdH,qz1,zQ,bne,hk]
 cases hq:zX ((x::r).map tk)==1 with
 |true=>
  have h1:x.Kind=1:=eq_of_beq (hk.trans hq)
  simp only[yO,qz2,yA,yB]
  rw[zDz (by omega)]
  exact ho hq (ok.tail (zcR hq (by decide)))
 |false=>
  simp only[yN,yB,qz2,yA]
  rw[zuZ]
  obtain⟨r',e1,e2⟩:=he x.At (pp (x::r) no,())
  exact⟨r',e1,by rw[ok.at_];exact e2⟩
theorem zRf(ok:TL L0 L)(h:zX (L.map tk)≠0): ∃x,L=x::L.tail/\tk x=tk x/\x.Text=tText (L.map tk)/\zau (pp L no)=some (x,pp L.tail no,()):=by
 obtain⟨x,r,rfl⟩:=ok.ok.cons
 exact⟨x,rfl,rfl,rfl,zDz (λe=>h (by show(tk x).kind=0;unfold tk;rw[e];rfl))⟩
theorem zEU(n:zg):ze9 n=some (zdr n.Kind,()):=by
 unfold ze9 zdr
 cases h3:n.Kind==3<;>cases h11:n.Kind==11<;>cases h12:n.Kind==12<;>simp[h3,h11,h12]
theorem SG.target{n:zg}{f:(zad×zh×Unit)⊕(zh×Unit)->Option σ}{qa:PR β}(ok:TL L0 L)(he: ∀a y,∃r',f (.inl (zad.code 45 a,y))=some r'/\E' a r')
  (ho:zdr n.Kind=true->SG L0 E' O' (f (.inr (pp L no,()))) qa):SG L0 E' O' ((zd4 n (pp L no)).bind f) (if zdr n.Kind=true then qa else bad (L.map tk)):=by
 unfold zd4
 rw[zq,zEU,zQ,qz1]
 cases hq:zdr n.Kind with
 |true=>
  simp only[yO,qz2,yA,yB]
  exact ho hq
 |false=>
  simp only[yN,yB,qz2,yA,zQ]
  obtain⟨x,r,rfl⟩:=ok.ok.cons
  rw[zuZ]
  obtain⟨r',e1,e2⟩:=he x.At (pp (x::r) no,())
  exact⟨r',e1,by rw[ok.at_];exact e2⟩
end
theorem zyZ: ∀(n:Nat) (s:Str) (last:Bool) (t:zB) (q:List Node×zB),(pG n).exprs s last t=gt q->q.1.length<=n
 |0,_,_,_,_,h=>by cases h
 |n+1,s,last,t,q,h=>by
  have h:zgW (pG n) s last t=gt q:=h
  unfold zgW at h
  split at h
  ·cases h;exact Nat.zero_le _
  ·obtain⟨x,_,h⟩:=zAJ h
   split at h
   ·cases h;simp
   ·obtain⟨t',h⟩:=zEn h
    split at h
    ·cases h
    ·obtain⟨l,h1,h⟩:=zAJ h
     cases h
     have:=zyZ n s last t' l h1
     simp only[qz3];omega
def zHu{S ρ:Type}(W:S->Option ρ)(o:S⊕ρ):Option ρ:=match o with| .inl s=>W s| .inr e=>some e
theorem zfM{S ρ:Type}(step:S->Option (S⊕ρ))(m:Nat)(s:S):zaF step (m+1) s=(step s).bind (zHu (zaF step m)):=rfl
section
variable {α β γ δ ρ σ:Type} {L0 L:List zu} {no:Bool} {E:Int->ρ->Prop} {O:α->List zu->ρ->Prop} {E':Int->σ->Prop} {O':β->List zu->σ->Prop}
theorem SG.assoc{m:Option ρ}{f:ρ->Option γ}{k:γ->Option σ}{q:PR β}(h:SG L0 E' O' (m.bind λr=>(f r).bind k) q):SG L0 E' O' ((m.bind f).bind k) q:=by
 cases m<;>exact h
theorem SG.loop{S:Type}{step:S->Option (S⊕ρ)}{m:Nat}{s:S}{q:PR α}(h:SG L0 E O (zaF step m s) q)(hm:m<=1000000000000):SG L0 E O (Lp.loop step s) q:=by
 cases q with
 |none=>trivial
 |some p=>
  cases p with
  |inl k=>
   obtain⟨r,e,h⟩:=h
   exact⟨r,zdu e hm,h⟩
  |inr p=>
   obtain⟨r,L',e,h⟩:=h
   exact⟨r,L',zdu e hm,h⟩
theorem SG.room{k:Nat}{f:Unit->Option σ}{q:PR β}(hk:k<=274877906944)(h:SG L0 E' O' (f ()) q):SG L0 E' O' ((room k).bind f) q:=by
 rw[zd0 hk];exact h
theorem SG.take{f:zu×zh×Unit->Option σ}{q:PR β}(ok:TL L0 L)(hk:zX (L.map tk)≠0)(h: ∀x,x.Text=tText (L.map tk)->TL L0 L.tail->SG L0 E' O' (f (x,pp L.tail no,())) q):
  SG L0 E' O' ((zau (pp L no)).bind f) q:=by
 obtain⟨x,_,_,hx,e⟩:=zRf (no:=no) ok hk
 rw[e,qz1]
 exact h x hx (ok.tail hk)
end
structure zwh (L0:List zu) (g:zf) (q:PG):Prop where
 expr: ∀no L,TL L0 L->SG L0 ER (OL no) (g.zav (pp L no)) (q.expr no (L.map tk))
 assign: ∀no L,TL L0 L->SG L0 ER (OL no) (g.zay (pp L no)) (q.assign no (L.map tk))
 binary: ∀no b L,TL L0 L->b<=100->SG L0 EL (OR no) (g.zcc b (pp L no)) (q.binary no b (L.map tk))
 unary: ∀no L,TL L0 L->SG L0 ER (OL no) (g.zb1 (pp L no)) (q.unary (L.map tk))
 mems: ∀no x c L,TL L0 L->SG L0 EL (OR no) (g.zbY x c (pp L no)) (q.mems c x (L.map tk))
 made: ∀no L,TL L0 L->SG L0 ER (OL no) (g.zcC (pp L no)) (q.made (L.map tk))
 prim: ∀no L,TL L0 L->SG L0 ER (OL no) (g.zcX (pp L no)) (q.prim (L.map tk))
 exprs: ∀no s last L,TL L0 L->SG L0 ER (OL no) (g.zby s last (pp L no)) (q.exprs s last (L.map tk))
 props: ∀no L,TL L0 L->SG L0 EL (λ(l:List Node) L' r=>r= .inr (pp L' no,8,[],0,[],[],l,())) (g.zcV [125] true (pp L no) 8 [] 0 [] [] []) (q.props (L.map tk))
 func: ∀no k L,TL L0 L->SG L0 EL (OR no) (g.zbS k (pp L no)) (q.func k (L.map tk))
 vars: ∀no L,TL L0 L->SG L0 EL (λl L' r=>r= .inr (nd 22 l,pp L' no,())) (g.zcD (pp L no)) (q.vars no (L.map tk))
 block: ∀L,TL L0 L->SG L0 EL (OR false) (g.zbx (pp L false)) (q.block (L.map tk))
 head: ∀L,TL L0 L->SG L0 EL (OR false) (g.zbF (pp L false)) (q.head (L.map tk))
 till: ∀s L,TL L0 L->SG L0 ER (OL false) (g.zcN s (pp L false)) (q.till s (L.map tk))
 loop: ∀L,TL L0 L->SG L0 EL (OR false) (g.zdW (pp L false)) (q.loop (L.map tk))
 stmt: ∀L,TL L0 L->SG L0 EL (OR false) (g.zbs (pp L false)) (q.stmt (L.map tk))
 stmts: ∀f L,TL L0 L->SG L0 ER (OL false) (g.zbk f [125] (pp L false)) (q.stmts f (L.map tk))
noncomputable abbrev RG:=zl
section
variable {L0 L:List zu} {no:Bool} {n M:Nat} (H: ∀k,k<=n->∀N,20*k+20<=N->zwh L0 (RG N) (pG k)) (hn:n<=10000000000) (hM:20*n+30<=M)
include H hn hM
theorem zKj: ∀(k m:Nat),k<=n->k<=m->∀(x:Node) (L:List zu),TL L0 L->
  SG L0 ER (OL no) (zaF (zeI (RG M)) m (pp L no,0,([]:Str),0,([]:Str),x,([]:List Str),([]:List zg),())) ((pG k).comma no x (L.map tk))
 |0,m,_,_,x,L,ok=>trivial
 |k+1,0,_,hm,x,L,ok=>by omega
 |k+1,m+1,hk,hm,x,L,ok=>by
  show SG _ _ _ _ (zlQ (pG k) no x (L.map tk))
  have ih:=λx L ok=>zKj k m (by omega) (by omega) x L ok
  unfold zlQ
  rw[zfM]
  generalize zaF (zeI (RG M)) m=W at ih⊢
  unfold zeI
  simp only[zQ,zq,zgR]
  refine .assoc (.has ok (λh ok'=>?_) λh=>?_)
  ·simp only[yB]
   rw[<-yM]
   refine .assoc (.r ((H k (by omega) M (by omega)).assign no _ ok') (λ_ _=>⟨_,rfl,_,rfl⟩) λv L' ok'=>?_)
   exact ih _ L' ok'
  ·simp only[qz2,yA]
   exact .gt ok rfl
theorem zRh(ok:TL L0 L):SG L0 ER (OL no) (zhm (RG M) (pp L no)) (zAf (pG n) no (L.map tk)):=by
 unfold zhm zAf
 simp only[zQ,zq]
 refine .r ((H n (yJ _) M (by omega)).assign no L ok) (λ_ _=>⟨_,rfl,_,rfl⟩) λv L' ok'=>?_
 exact .loop (zKj H hn hM n 1000000000000 (yJ _) (by omega) v L' ok') (yJ _)
theorem zKD(least:Int)(hl:least<=100): ∀(k m:Nat),k<=n->k<=m->∀(x:Node) (L:List zu),TL L0 L->
  SG L0 EL (OR no) (zaF (zd5 (RG M)) m (least,pp L no,0,([]:Str),0,([]:Str),x,([]:List Str),([]:List zg),())) ((pG k).bins no least x (L.map tk))
 |0,m,_,_,x,L,ok=>trivial
 |k+1,0,_,hm,x,L,ok=>by omega
 |k+1,m+1,hk,hm,x,L,ok=>by
  show SG _ _ _ _ (zoJ (pG k) no least x (L.map tk))
  have ih:=λx L ok=>zKD least hl k m (by omega) (by omega) x L ok
  unfold zoJ
  rw[zfM]
  generalize zaF (zd5 (RG M)) m=W at ih⊢
  unfold zd5
  simp only[zQ,zq,zgR,zLw ok.ok,qz1]
  have hb:(zdp no (L.map tk)).1<=8/\0<=(zdp no (L.map tk)).1:=by
   cases L.map tk with
   |nil=>show(0:Int)<=8/\(0:Int)<=0;decide
   |cons a r=>
    show(if opK a=true then lvS no a.text else(0,0)).1<=8/\0<=(if opK a=true then lvS no a.text else(0,0)).1
    unfold lvS
    repeat' split
    all_goals decide
  cases hc:(decide ((zdp no (L.map tk)).1<least)||(zdp no (L.map tk)).1==0)with
  |true=>
   simp only[yB]
   exact .gt ok rfl
  |false=>
   simp only[qz2,yA]
   have h0:(zdp no (L.map tk)).1≠0:=by
    intro e;rw[e]at hc;simp at hc
   refine .assoc (.take ok (zE2 h0) λa ha ok'=>?_)
   have hw:IntKind.wrap .i64 ((zdp no (L.map tk)).1+1)=(zdp no (L.map tk)).1+1:=wrap_i64 (by omega) (by omega)
   rw[<-yM]
   simp only[hw]
   refine .assoc (.l ((H k (by omega) M (by omega)).binary no _ _ ok' (by omega)) (λ_ _=>⟨_,rfl,_,rfl⟩) λv L' ok'=>?_)
   simp only[ha]
   exact ih _ L' ok'
theorem zOl(b:Int)(hb:b<=100)(ok:TL L0 L):SG L0 EL (OR no) (zf1 (RG M) b (pp L no)) (zqT (pG n) no b (L.map tk)):=by
 unfold zf1 zqT
 simp only[zQ,zq]
 refine .r ((H n (yJ _) M (by omega)).unary no L ok) (λ_ _=>⟨_,rfl,_,rfl⟩) λv L' ok'=>?_
 exact .loop (zKD H hn hM b hb n 1000000000000 (yJ _) (by omega) v L' ok') (yJ _)
end
theorem SG.map{α β ρ:Type}{L0:List zu}{E:Int->ρ->Prop}{O:α->List zu->ρ->Prop}{O':β->List zu->ρ->Prop}{m:Option ρ}{q:PR α}(φ:α->β)(h:SG L0 E O m q)(ho: ∀v L' r,O v L' r->O' (φ v) L' r):
  SG L0 E O' m (q.bd λp=>Go.D08.gt (φ p.1,p.2)):=by
 cases q with
 |none=>trivial
 |some p=>
  cases p with
  |inl k=>exact h
  |inr p=>
   obtain⟨r,L',e1,e2,e3,e4⟩:=h
   exact⟨r,L',e1,e2,e3,ho _ _ _ e4⟩
theorem SG.gt'{α ρ:Type}{L0 L:List zu}{E:Int->ρ->Prop}{O:α->List zu->ρ->Prop}{r:ρ}{v:α}{t:zB}(ok:TL L0 L)(ht:L.map tk=t)(h:O v L r):SG L0 E O (some r) (Go.D08.gt (v,t)):=⟨r,L,rfl,ht,ok,h⟩
section
variable {L0 L:List zu} {no:Bool} {n M:Nat} (H: ∀k,k<=n->∀N,20*k+20<=N->zwh L0 (RG N) (pG k)) (hn:n<=10000000000) (hM:20*n+30<=M)
include H hn hM
theorem zMV(ok:TL L0 L):SG L0 ER (λv L' r=>r= .inl (pp L' no,v,[],[],())) ((RG M).zcx (pp L no) 0 [] 0 [] [] []) ((pG n).assign false (L.map tk)):=by
 obtain⟨M,rfl⟩: ∃k,M=k+2:=⟨M -2,by omega⟩
 have h1:SG L0 ER (λv L' r=>r= .inl (pp L' false,v,[],[],())) (zfg (RG M) (pp L false) 0 [] 0 [] [] []) ((pG n).assign false (L.map tk)):=by
  unfold zfg
  simp only[zQ,zq]
  exact .rr ((H n (yJ _) M (by omega)).assign false L ok) (λ_ _=>⟨_,rfl,_,rfl⟩) λv L'=>⟨_,rfl,rfl⟩
 show SG _ _ _ (ze2 (RG (M+1)) (pp L no) 0 [] 0 [] [] []) _
 unfold ze2
 simp only[zQ,zq]
 exact h1.same (by rintro a _ ⟨y,rfl⟩;exact⟨_,rfl,_,rfl⟩) (by rintro v L' _ _ rfl;exact⟨_,rfl,rfl⟩)
theorem zOZ(ok:TL L0 L):SG L0 ER (λv L' r=>r= .inl (pp L' no,v,[],[],())) ((RG M).zct (pp L no) 0 [] 0 [] [] []) ((pG n).expr false (L.map tk)):=by
 obtain⟨M,rfl⟩: ∃k,M=k+2:=⟨M -2,by omega⟩
 have h1:SG L0 ER (λv L' r=>r= .inl (pp L' false,v,[],[],())) (zfZ (RG M) (pp L false) 0 [] 0 [] [] []) ((pG n).expr false (L.map tk)):=by
  unfold zfZ
  simp only[zQ,zq]
  exact .rr ((H n (yJ _) M (by omega)).expr false L ok) (λ_ _=>⟨_,rfl,_,rfl⟩) λv L'=>⟨_,rfl,rfl⟩
 show SG _ _ _ (zeR (RG (M+1)) (pp L no) 0 [] 0 [] [] []) _
 unfold zeR
 simp only[zQ,zq]
 exact h1.same (by rintro a _ ⟨y,rfl⟩;exact⟨_,rfl,_,rfl⟩) (by rintro v L' _ _ rfl;exact⟨_,rfl,rfl⟩)
theorem zPy(ok:TL L0 L):SG L0 ER (λv L' r=>r= .inl (pp L' no,v,[],[],())) ((RG M).zcs (pp L no) 0 [] 0 [] [] []) ((pG n).expr false (L.map tk)):=by
 obtain⟨M,rfl⟩: ∃k,M=k+2:=⟨M -2,by omega⟩
 have h1:SG L0 ER (λv L' r=>r= .inl (pp L' false,v,[],[],())) (zeQ (RG M) (pp L false) 0 [] 0 [] [] []) ((pG n).expr false (L.map tk)):=by
  unfold zeQ
  simp only[zQ,zq]
  exact .rr ((H n (yJ _) M (by omega)).expr false L ok) (λ_ _=>⟨_,rfl,_,rfl⟩) λv L'=>⟨_,rfl,rfl⟩
 show SG _ _ _ (zeY (RG (M+1)) (pp L no) 0 [] 0 [] [] []) _
 unfold zeY
 simp only[zQ,zq]
 exact h1.same (by rintro a _ ⟨y,rfl⟩;exact⟨_,rfl,_,rfl⟩) (by rintro v L' _ _ rfl;exact⟨_,rfl,rfl⟩)
theorem zNM(ok:TL L0 L):SG L0 ER (OL no) (zf4 (RG M) (pp L no)) (zq1 (pG n) no (L.map tk)):=by
 have S:=H n (yJ _) M (by omega)
 unfold zf4 zq1
 simp only[zQ,zq]
 refine .l (S.binary no 3 L ok (by decide)) (λ_ _=>⟨_,rfl,_,rfl⟩) λv L1 ok1=>?_
 refine .has ok1 (λh ok2=>?_) λh=>?_
 ·simp only[yB]
  rw[<-yM]
  refine(zMV H hn hM ok2).gen (by rintro a _ ⟨y,rfl⟩;exact⟨_,rfl,_,rfl⟩) ?_
  rintro y L3 _ _ ok3 rfl
  refine .need ok3 (λ_ _=>⟨_,rfl,_,rfl⟩) λL4 ok4=>?_
  exact .r (S.assign no L4 ok4) (λ_ _=>⟨_,rfl,_,rfl⟩) λz L5 ok5=> .gt ok5 rfl
 ·simp only[qz2,yA]
  refine .among (ws:=zue) ok1 (by decide+kernel) (by decide+kernel) (by decide) (λh=>?_) λh=>?_
  ·simp only[yO,qz2,yA,yB]
   refine .target ok1 (λ_ _=>⟨_,rfl,_,rfl⟩) λht=>?_
   refine .take ok1 (zkY h) λa ha ok2=>?_
   rw[<-yM]
   refine .r (S.assign no _ ok2) (λ_ _=>⟨_,rfl,_,rfl⟩) λz L5 ok5=> .gt ok5 ?_
   simp only[ha];rfl
  ·simp only[yN,yB]
   exact .gt ok1 rfl
theorem zQc(ok:TL L0 L):SG L0 ER (OL no) (zgB (RG M) (pp L no)) (zh3 (pG n) (L.map tk)):=by
 have S:=H n (yJ _) M (by omega)
 unfold zgB zh3
 simp only[zQ,zq,zgR]
 refine .among (ws:=ztV) ok (by decide+kernel) (by decide+kernel) (by decide) (λh=>?_) λh=>?_
 ·simp only[yB]
  refine .take ok (zkY h) λa ha ok2=>?_
  rw[<-yM]
  refine .r (S.unary no _ ok2) (λ_ _=>⟨_,rfl,_,rfl⟩) λz L5 ok5=> .gt ok5 ?_
  simp only[ha];rfl
 ·simp only[qz2,yA]
  refine .among (ws:=zib) ok (by decide+kernel) (by decide+kernel) (by decide) (λh=>?_) λh=>?_
  ·simp only[yB]
   refine .take ok (zkY h) λa ha ok2=>?_
   rw[<-yM]
   refine .r (S.unary no _ ok2) (λ_ _=>⟨_,rfl,_,rfl⟩) λz L5 ok5=>?_
   refine .target ok5 (λ_ _=>⟨_,rfl,_,rfl⟩) λht=> .gt ok5 ?_
   simp only[ha]
  ·simp only[qz2,yA]
   refine .r (S.made no L ok) (λ_ _=>⟨_,rfl,_,rfl⟩) λx L1 ok1=>?_
   refine .l (S.mems no x true L1 ok1) (λ_ _=>⟨_,rfl,_,rfl⟩) λy L2 ok2=>?_
   simp only
   rw[zme ok2.ok zib ([32,43,43,32,45,45,32]:Str) (by decide+kernel) (by decide+kernel) (by decide),qz1]
   obtain⟨a,r,rfl⟩:=ok2.ok.cons
   simp only[zdH,qz1]
   cases h1:zbt zib ((a::r).map tk)with
   |false=>
    simp only[yN,yB,qz1,Bool.true_or]
    exact .gt ok2 rfl
   |true=>
    have hf:a.Fresh=zeT ((a::r).map tk):=rfl
    simp only[yO,qz2,yA,qz1,Bool.false_or,hf]
    cases h2:zeT ((a::r).map tk)with
    |true=>
     simp only[yB]
     exact .gt ok2 rfl
    |false=>
     simp only[qz2,yA]
     refine .target ok2 (λ_ _=>⟨_,rfl,_,rfl⟩) λht=>?_
     refine .take ok2 (zkY h1) λb hb ok3=> .gt' ok3 (by rw[yM]) ?_
     simp only[hb];rfl
theorem zSX(ok:TL L0 L):SG L0 ER (OL no) (zhw (RG M) (pp L no)) (zoD (pG n) (L.map tk)):=by
 have S:=H n (yJ _) M (by omega)
 unfold zhw zoD
 simp only[zQ,zq,zgR]
 refine .has ok (λh ok1=>?_) λh=>?_
 ·simp only[yO,qz2,yA]
  rw[<-yM]
  refine .r (S.made no _ ok1) (λ_ _=>⟨_,rfl,_,rfl⟩) λx L1 ok1=>?_
  refine .l (S.mems no x false L1 ok1) (λ_ _=>⟨_,rfl,_,rfl⟩) λy L2 ok2=>?_
  refine .has ok2 (λh ok3=>?_) λh=>?_
  ·simp only[yB]
   rw[<-yM]
   refine(S.exprs no _ _ _ ok3).gen (by rintro a _ ⟨y,rfl⟩;exact⟨_,rfl,_,rfl⟩) ?_
   rintro l L4 _ hq ok4 rfl
   have:=zyZ n _ _ _ _ hq
   simp only at this
   exact .room (by simp only[qz3,qz6];omega) (.gt ok4 rfl)
  ·simp only[qz2,yA]
   exact .gt ok2 rfl
 ·simp only[yN,yB]
  exact .rr (S.prim no L ok) (λ_ _=>⟨_,rfl,_,rfl⟩) λv L'=>⟨_,rfl,rfl⟩
theorem zKx(c:Bool): ∀(k m:Nat),k<=n+1->k<=m->∀(x:Node) (L:List zu),TL L0 L->
  SG L0 EL (OR no) (zaF (zdO (RG M)) m (c,pp L no,x,0,([]:Str),0,([]:Str),([]:List Str),([]:List zg),())) ((pG k).mems c x (L.map tk))
 |0,m,_,_,x,L,ok=>trivial
 |k+1,0,_,hm,x,L,ok=>by omega
 |k+1,m+1,hk,hm,x,L,ok=>by
  have S:=H k (by omega) M (by omega)
  have hw:=λx L ok=>zKx c k m (by omega) (by omega) x L ok
  show SG _ _ _ _ (zjd (pG k) c x (L.map tk))
  unfold zjd
  rw[zfM]
  generalize zaF (zdO (RG M)) m=W at hw⊢
  unfold zdO
  simp only[zQ,zq,zgR]
  refine .assoc (.has ok (λh ok1=>?_) λh=>?_)
  ·simp only[yB]
   rw[<-yM]
   obtain⟨a,r,hL⟩:=ok1.ok.cons
   rw[hL]at ok1⊢
   have k1:=zhb ok1 1
   have k2:=zhb ok1 2
   rw[show((1:Nat):Int)=1 from rfl]at k1
   rw[show((2:Nat):Int)=2 from rfl]at k2
   simp only[zdH,qz1,bne,k1,k2]
   cases h1:zX ((a::r).map tk)==1 with
   |true=>
    simp only[yO,qz2,yA,qz1,Bool.true_or,yB]
    refine .assoc (.take ok1 (zcR h1 (by decide)) λb hb ok3=>?_)
    have:=hw (ndN 11 (tText ((a::r).map tk)) [x]) r ok3
    simp only[hb]
    exact this
   |false=>
    cases h2:zX ((a::r).map tk)==2 with
    |true=>
     simp only[yO,yN,qz2,yA,yB,qz1,Bool.or_true]
     refine .assoc (.take ok1 (zcR h2 (by decide)) λb hb ok3=>?_)
     have:=hw (ndN 11 (tText ((a::r).map tk)) [x]) r ok3
     simp only[hb]
     exact this
    |false=>
     simp only[yN,qz2,yA,yB,qz1,Bool.or_self]
     exact .assoc (.fail ok1 λa=>⟨_,rfl,_,rfl⟩)
  ·simp only[qz2,yA]
   refine .assoc (.has ok (λh ok1=>?_) λh=>?_)
   ·simp only[yB]
    rw[<-yM]
    refine .assoc ((zPy (λj hj=>H j (by omega)) (by omega) (by omega) ok1).gen (by rintro a _ ⟨y,rfl⟩;exact⟨_,rfl,_,rfl⟩) ?_)
    rintro y L3 _ _ ok3 rfl
    refine .assoc (.need ok3 (λ_ _=>⟨_,rfl,_,rfl⟩) λL4 ok4=>?_)
    exact hw _ L4 ok4
   ·simp only[qz2,yA]
    cases c with
    |false=>
     simp only[Bool.false_and,qz2,yA]
     exact .gt ok rfl
    |true=>
     simp only[Bool.true_and,yB]
     refine .assoc (.has ok (λh ok1=>?_) λh=>?_)
     ·simp only[yB]
      rw[<-yM]
      refine .assoc ((S.exprs no _ _ _ ok1).gen (by rintro a _ ⟨y,rfl⟩;exact⟨_,rfl,_,rfl⟩) ?_)
      rintro l L4 _ hq ok4 rfl
      have:=zyZ k _ _ _ _ hq
      simp only at this
      exact .assoc (.room (by simp only[qz3,qz6];omega) (hw _ L4 ok4))
     ·simp only[qz2,yA]
      exact .gt ok rfl
theorem zRm(x:Node)(c:Bool)(ok:TL L0 L):SG L0 EL (OR no) (zfP (RG M) x c (pp L no)) (zjd (pG n) c x (L.map tk)):=by
 unfold zfP
 simp only[zQ,zq]
 exact .loop (zKx H hn hM c (n+1) 1000000000000 (yJ _) (by omega) x L ok) (yJ _)
end
theorem zHQ{α:Type}(l:List α)(x:α):zN (l++[x]) ((l.length:Nat):Int)=some x:=by rw[zjh];simp
theorem zKK{α:Type}(l:List α)(x y:α):(l++[x]).set ((l.length:Nat):Int).toNat y=l++[y]:=by simp
section
variable {L0 L:List zu} {no:Bool} {n M:Nat} (H: ∀k,k<=n->∀N,20*k+20<=N->zwh L0 (RG N) (pG k)) (hn:n<=10000000000) (hM:20*n+30<=M)
include H hn hM
theorem zNR(l:List Node)(hl:l.length<=20000000000)(ok:TL L0 L):SG L0 ER (λv L' r=>r= .inl (pp L' no,l++[v],())) ((RG M).zcZ (pp L no) l) ((pG n).assign no (L.map tk)):=by
 obtain⟨M,rfl⟩: ∃k,M=k+1:=⟨M -1,by omega⟩
 show SG _ _ _ (zfQ (RG M) (pp L no) l) _
 unfold zfQ
 simp only[zQ,zq,zgR]
 refine .rr ((H n (yJ _) M (by omega)).assign no L ok) (λ_ _=>⟨_,rfl,_,rfl⟩) λv L'=>⟨.inl (pp L' no,l++[v],()),?_,rfl⟩
 simp only[qz3,qz6,Nat.zero_add]
 rw[zd0 (by omega)]
 simp only[qz1,zHQ,zKK]
theorem zKl(s:Str)(last:Bool): ∀(k m:Nat),k<=n+1->k<=m->∀(l:List Node) (L:List zu),l.length+k<=n+1->TL L0 L->
  SG L0 ER (λ(v:List Node) L' r=>r= .inl (pp L' false,s,l++v,last,())) (zaF (zdm (RG M)) m (pp L false,s,l,last,())) ((pG k).exprs s last (L.map tk))
 |0,m,_,_,l,L,_,ok=>trivial
 |k+1,0,_,hm,l,L,_,ok=>by omega
 |k+1,m+1,hk,hm,l,L,hl,ok=>by
  show SG _ _ _ _ (zgW (pG k) s last (L.map tk))
  have ih:=λl L hl ok=>zKl s last k m (by omega) (by omega) l L hl ok
  unfold zgW
  rw[zfM]
  generalize zaF (zdm (RG M)) m=W at ih⊢
  unfold zdm
  simp only[zQ]
  refine .assoc (.has ok (λh ok1=>?_) λh=>?_)
  ·simp only[yO,qz2,yA]
   exact .gt' ok1 (by rw[yM]) (by simp)
  ·simp only[yN,yB]
   refine .assoc ((zNR (no:=false) (λj hj=>H j (by omega)) (by omega) (by omega) l (by omega) ok).gen (by rintro a _ ⟨y,rfl⟩;exact⟨_,rfl,_,rfl⟩) ?_)
   rintro x L1 _ _ ok1 rfl
   refine .assoc (.has ok1 (λh ok2=>?_) λh=>?_)
   ·simp only[yB]
    exact .gt' ok2 (by rw[yM]) rfl
   ·simp only[qz2,yA]
    refine .assoc (.need ok1 (λ_ _=>⟨_,rfl,_,rfl⟩) λL2 ok2=>?_)
    have go: ∀L3,TL L0 L3->SG L0 ER (λ(v:List Node) L' r=>r= .inl (pp L' false,s,l++v,last,())) (W (pp L3 false,s,l++[x],last,())) (((pG k).exprs s last (L3.map tk)).bd λq=>gt (x::q.1,q.2)):=λL3 ok3=>
     (ih (l++[x]) L3 (by rw[qz5];simp only[qz3,qz6];omega) ok3).map (λv=>x::v) (by rintro v L' _ rfl;simp)
    cases last with
    |true=>
     simp only[yO,Bool.false_and,qz2,yA]
     exact go L2 ok2
    |false=>
     simp only[yN,Bool.true_and,yB]
     refine .assoc (.is ok2 (λh=>?_) λh=>?_)
     ·simp only[yB]
      exact .assoc (.fail ok2 λa=>⟨_,rfl,_,rfl⟩)
     ·simp only[qz2,yA]
      exact go L2 ok2
theorem zQk(h9:20*n+39<=M)(s:Str)(last:Bool)(ok:TL L0 L):SG L0 ER (OL no) (zgE (RG M) s last (pp L no)) (zgW (pG n) s last (L.map tk)):=by
 obtain⟨M,rfl⟩: ∃k,M=k+4:=⟨M -4,by omega⟩
 unfold zgE
 show SG _ _ _ ((zeb (RG (M+3)) s last (pp L no) []).bind _) ((pG (n+1)).exprs s last (L.map tk))
 have h1:SG L0 ER (λ(v:List Node) L' r=>r= .inl (pp L' false,s,v,last,())) (ze1 (RG (M+1)) (pp L false) s [] last) ((pG (n+1)).exprs s last (L.map tk)):=by
  unfold ze1
  simp only[zQ]
  exact .loop (zKl H hn (by omega) s last (n+1) 1000000000000 (yJ _) (by omega) [] L (by simp) ok) (yJ _)
 have h2:SG L0 ER (λ(v:List Node) L' r=>r= .inl (pp L' no,s,v,last,())) (zeJ (RG (M+2)) (pp L no) s [] last) ((pG (n+1)).exprs s last (L.map tk)):=by
  unfold zeJ
  simp only[zQ]
  exact h1.same (by rintro a _ ⟨y,rfl⟩;exact⟨_,rfl,_,rfl⟩) (by rintro v L' _ _ rfl;exact⟨_,rfl,rfl⟩)
 have h3:SG L0 ER (λ(v:List Node) L' r=>r= .inl (pp L' no,v,())) (zeb (RG (M+3)) s last (pp L no) []) ((pG (n+1)).exprs s last (L.map tk)):=by
  unfold zeb
  simp only[zQ]
  exact h2.same (by rintro a _ ⟨y,rfl⟩;exact⟨_,rfl,_,rfl⟩) (by rintro v L' _ _ rfl;exact⟨_,rfl,rfl⟩)
 exact h3.same (by rintro a _ ⟨y,rfl⟩;exact⟨_,rfl,_,rfl⟩) (by rintro v L' _ _ rfl;exact⟨_,rfl,rfl⟩)
end
end Go.D08
