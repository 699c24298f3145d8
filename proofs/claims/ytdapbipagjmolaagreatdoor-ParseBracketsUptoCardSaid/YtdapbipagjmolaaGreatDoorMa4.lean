/- Texts for a statement of this seat. -/
import Derived.Test.YtdapbipagjmolaaGreatDoorMa3
set_option linter.unusedSectionVars false
set_option linter.unusedVariables false
set_option linter.unusedSimpArgs false
set_option linter.unnecessarySimpa false
namespace Go.D08.U
open Go Go.Gw Go.Dn Go.Proofs
set_option maxRecDepth 100000
def zaq:Str->List Nat
 |a::b::r=>(a.toNat*256+b.toNat)::zaq r
 |_=>[]
def enc1(n:Nat):Str:=[UInt8.ofNat (n/256),UInt8.ofNat (n%256)]
def zeJ(l:List Nat):Str:=l.flatMap enc1
theorem zfg: ∀u:Str,(zaq u).length=u.length/2
 | []=>rfl
 | [_]=>by simp[zaq]
 |a::b::r=>by simp only[zaq,qz3,zfg r];omega
theorem zmH: ∀(u:Str) (n:Nat),n∈zaq u->n<65536
 | [],_,h=>by cases h
 | [_],_,h=>by cases h
 |a::b::r,n,h=>by
  simp only[zaq,yP]at h;rcases h with h|h
  ·have:=a.toNat_lt;have:=b.toNat_lt;omega
  ·exact zmH r n h
theorem zoP(l:List Nat):(zeJ l).length=2*l.length:=by
 induction l with
 |nil=>rfl
 |cons n l ih=>unfold zeJ at ih⊢;rw[List.flatMap_cons,qz5,ih];simp[enc1];omega
theorem zqF: ∀(u:Str) (i:Nat),i<u.length/2->∃a b,u[2*i]? =some a/\u[2*i+1]? =some b/\(zaq u)[i]? =some (a.toNat*256+b.toNat)
 | [],i,h=>by simp at h
 | [_],i,h=>by simp at h
 |a::b::r,0,_=>⟨a,b,rfl,rfl,rfl⟩
 |a::b::r,i+1,h=>by
  obtain⟨x,y,h1,h2,h3⟩:=zqF r i (by simp only[qz3]at h;omega)
  refine⟨x,y,?_,?_,?_⟩
  ·have:2*(i+1)=2*i+1+1:=by omega
   rw[this];simpa using h1
  ·have:2*(i+1)+1=2*i+1+1+1:=by omega
   rw[this];simpa using h2
  ·simpa [zaq]using h3
def zaX(k:Nat):UInt8:=if k<10 then UInt8.ofNat (48+k)else UInt8.ofNat (87+k)
def zdr(n:Nat):Str:=
 if n=34 then[92,34]else if n=92 then[92,92]else if n=8 then[92,98]else if n=9 then[92,116]else if n=10 then[92,110]else if n=12 then[92,102]else if n=13 then[92,114]
 else if n<32\/n>126 then[92,117,zaX (n/4096),zaX (n/256%16),zaX (n/16%16),zaX (n%16)]else[UInt8.ofNat n]
def zaO(l:List Nat):Str:=l.flatMap zdr
theorem zpU(n:Nat):(zdr n).length<=6:=by
 unfold zdr;split<;>(try split)<;>(try split)<;>(try split)<;>(try split)<;>(try split)<;>(try split)<;>(try split)<;>simp
theorem zl5(l:List Nat):(zaO l).length<=6*l.length:=by
 induction l with
 |nil=>simp[zaO]
 |cons n l ih=>unfold zaO at ih⊢;rw[List.flatMap_cons,qz5];have:=zpU n;simp only[qz3];omega
theorem zBf(l:List Nat)(n:Nat):zaO (l++[n])=zaO l++zdr n:=by simp[zaO]
def hexV(b:UInt8):Option Nat:=
 if 48<=b.toNat/\b.toNat<=57 then some (b.toNat -48)else if 97<=b.toNat/\b.toNat<=102 then some (b.toNat -87)else if 65<=b.toNat/\b.toNat<=70 then some (b.toNat -55)else none
def hexN:Nat->Str->Nat->Option Nat
 |0,_,a=>some a
 |_+1,[],_=>none
 |k+1,b::r,a=>match hexV b with
  |none=>none
  |some d=>hexN k r (16*a+d)
theorem zKS{b:UInt8}{d:Nat}(h:hexV b=some d):d<16:=by
 unfold hexV at h;split at h
 ·simp only[Option.some.injEq]at h;omega
 ·split at h
  ·simp only[Option.some.injEq]at h;omega
  ·split at h
   ·simp only[Option.some.injEq]at h;omega
   ·cases h
theorem zvR: ∀(k:Nat) (s:Str) (a n:Nat),hexN k s a=some n->n<16^k*(a+1)
 |0,s,a,n,h=>by simp only[hexN,Option.some.injEq]at h;omega
 |k+1,[],a,n,h=>by cases h
 |k+1,b::r,a,n,h=>by
  simp only[hexN]at h;cases hv:hexV b with
  |none=>rw[hv]at h;cases h
  |some d=>
   rw[hv]at h;have h1:=zvR k r _ n h;have h2:=zKS hv;have h3:16^k*(16*a+d+1)<=16^k*(16*(a+1)):=Nat.mul_le_mul_left _ (by omega);have h4:16^(k+1)*(a+1)=16^k*(16*(a+1)):=by rw[Nat.pow_succ,Nat.mul_assoc]
   omega
def zmo(b:UInt8):Option Nat:=
 if b=110 then some 10 else if b=116 then some 9 else if b=114 then some 13 else if b=98 then some 8 else if b=102 then some 12 else if b=118 then some 11
 else if b.toNat>127\/b=13\/b=120\/b=117\/(48<=b.toNat/\b.toNat<=57)\/b=10 then none else some b.toNat
def zmg:Str->Option (List Nat×Nat)
 | []=>none
 |c::r=>
  if c=10 then some ([],1)
  else if c=48 then(match r with
   | []=>some ([0],1)
   |d::_=>if 48<=d.toNat/\d.toNat<=57 then none else some ([0],1))
  else if c=120 then(hexN 2 r 0).map λn=>([n],3)
  else if c=117 then(hexN 4 r 0).map λn=>([n],5)
  else(zmo c).map λn=>([n],1)
theorem zwu: ∀(k:Nat) (s:Str) (a n:Nat),hexN k s a=some n->k<=s.length
 |0,s,a,n,h=>by omega
 |k+1,[],a,n,h=>by cases h
 |k+1,b::r,a,n,h=>by
  simp only[hexN]at h;cases hv:hexV b with
  |none=>rw[hv]at h;cases h
  |some d=>rw[hv]at h;have:=zwu k r _ n h;simp only[qz3];omega
theorem zLp{b:UInt8}{n:Nat}(h:zmo b=some n):n<256:=by
 have hb:=b.toNat_lt;unfold zmo at h
 repeat' split at h
 all_goals first| (cases h;done)| (simp only[Option.some.injEq]at h;omega)
theorem zFs{s:Str}{us:List Nat}{k:Nat}(h:zmg s=some (us,k)):(∀n∈us,n<65536)/\us.length<=1/\1<=k/\k<=s.length:=by
 cases s with
 |nil=>cases h
 |cons c r=>
  simp only[zmg]at h;by_cases h1:c=10
  ·rw[yL h1]at h;cases h;simp
  ·rw[yK h1]at h;by_cases h2:c=48
   ·rw[yL h2]at h;cases r with
    |nil=>cases h;simp
    |cons d r=>
     simp only at h;split at h
     ·cases h
     ·cases h;simp
   ·rw[yK h2]at h;by_cases h3:c=120
    ·rw[yL h3]at h;cases hn:hexN 2 r 0 with
     |none=>rw[hn]at h;cases h
     |some n=>
      rw[hn]at h;cases h;have:=zvR _ _ _ _ hn;have:=zwu _ _ _ _ hn;simp;omega
    ·rw[yK h3]at h;by_cases h4:c=117
     ·rw[yL h4]at h;cases hn:hexN 4 r 0 with
      |none=>rw[hn]at h;cases h
      |some n=>
       rw[hn]at h;cases h;have:=zvR _ _ _ _ hn;have:=zwu _ _ _ _ hn;simp;omega
     ·rw[yK h4]at h;cases hn:zmo c with
      |none=>rw[hn]at h;cases h
      |some n=>
       rw[hn]at h;cases h;have:=zLp hn;simp;omega
/-! ### the program's digits -/
theorem zlE{α:Type}(p:α->Bool): ∀l:List α,l.dropWhile p=[]↔∀x∈l,p x=true
 | []=>by simp
 |a::l=>by
  cases h:p a with
  |true=>rw[List.dropWhile_cons_of_pos h,zlE p l];simp[h]
  |false=>
   rw[List.dropWhile_cons_of_neg (by simp[h])];simp[h]
theorem zvK{α:Type}(p:α->Bool): ∀(l:List α) (b:α) (r:List α),l.dropWhile p=b::r->p b=false
 | [],b,r,h=>by cases h
 |a::l,b,r,h=>by
  cases hp:p a with
  |true=>rw[List.dropWhile_cons_of_pos hp]at h;exact zvK p l b r h
  |false=>
   rw[List.dropWhile_cons_of_neg (by simp[hp])]at h;cases h;exact hp
theorem zNq(l cs:Str):(Lib.trimS l cs==([]:Str))=l.all (cs.contains ·):=by
 unfold Lib.trimS Lib.trimLeftS Lib.trimRightS;rw[Bool.eq_iff_iff];rw[beq_iff_eq,zlE,List.all_eq_true];constructor
 ·intro h;rcases hd:l.reverse.dropWhile (cs.contains ·)with _| ⟨b,r⟩
  ·rw[zlE]at hd;intro x hx;exact hd x (by simpa using hx)
  ·exfalso;have h1:=zvK _ _ _ _ hd;have h2:=h b (by rw[hd];simp)
   rw[h1]at h2;cases h2
 ·intro h x hx;have:=(List.dropWhile_suffix (cs.contains ·) (l:=l.reverse)).subset (by simpa using hx);exact h x (by simpa using this)
def zGo:Str:=[48,49,50,51,52,53,54,55,56,57,97,98,99,100,101,102,65,66,67,68,69,70]
theorem zOv: ∀b:Fin 256,zGo.contains (UInt8.ofNat b.val)=(hexV (UInt8.ofNat b.val)).isSome:=by decide+kernel
theorem zWb(b:UInt8): ∃k:Fin 256,b=UInt8.ofNat k.val:=⟨⟨b.toNat,b.toNat_lt⟩,by simp⟩
theorem zHV(b:UInt8):zGo.contains b=(hexV b).isSome:=by
 obtain⟨k,rfl⟩:=zWb b;exact zOv k
theorem zBq: ∀(s:Str) (a:Nat),(hexN s.length s a).isSome=s.all (zGo.contains ·)
 | [],a=>rfl
 |b::r,a=>by
  simp only[qz3,hexN,List.all_cons,zHV];cases hv:hexV b with
  |none=>simp
  |some d=>
   simp only[Option.isSome_some,Bool.true_and];rw[zBq r];congr 1;funext x;exact zHV x
theorem zzl: ∀(k:Nat) (s:Str) (a:Nat),k<=s.length->hexN k (s.take k) a=hexN k s a
 |0,s,a,_=>rfl
 |k+1,[],a,h=>by simp at h
 |k+1,b::r,a,h=>by
  simp only[List.take_succ_cons,hexN];cases hexV b with
  |none=>rfl
  |some d=>simp only;exact zzl k r _ (by simpa using h)
def zeF(q:UInt8):Nat->Str->List Nat->Option (List Nat×Nat)
 |0,_,_=>none
 |_+1,[],_=>none
 |m+1,c::r,acc=>
  if c=q then some (acc,r.length)
  else if c=10\/c=13\/c.toNat>127 then none
  else if c=92 then(match zmg r with
   |none=>none
   |some (us,k)=>zeF q m (r.drop k) (acc++us))
  else zeF q m r (acc++[c.toNat])
def zdZ(s:Str):Str×Int×Int:=
 match s with
 | []=>([],0,10)
 |q::r=>if q=39\/q=34 then(match zeF q (r.length+1) r []with
   |none=>([],0,10)
   |some (us,k)=>(zeJ us,((s.length -k:Nat):Int),0))else([],0,10)
theorem ztk(b:UInt8)(n:Nat)(h:n<256):b=UInt8.ofNat n↔b.toNat=n:=by
 constructor
 ·intro e;subst e;simp[UInt8.toNat_ofNat'];omega
 ·intro e;apply UInt8.toNat_inj.mp;simp[UInt8.toNat_ofNat'];omega
theorem zoX(a b:Nat):(((a:Nat):Int)==((b:Nat):Int))=decide (a=b):=by
 by_cases h:a=b
 ·simp[h]
 ·simp[h];omega
def okU(l:List Nat):Prop:=∀n∈l,n<65536
def ztV(q:UInt8)(s:Str)(m:Nat)(rest:Str)(acc:List Nat):Str×Int×Int:=match zeF q m rest acc with
 |none=>([],0,10)
 |some (us,k)=>(zeJ us,((s.length -k:Nat):Int),0)
theorem zOl(c:UInt8)(n:Nat)(h:n<256):(((c.toNat:Nat):Int) !=((n:Nat):Int))= !decide (c=UInt8.ofNat n):=by
 simp only[bne,zoX];congr 1;rw[decide_eq_decide];exact(ztk c n h).symm
theorem ztl: ∀k:Fin 16,hexV (zaX k.val)=some k.val:=by decide
theorem zOq(n:Nat)(hn:n<65536)(r:Str):hexN 4 (zaX (n/4096)::zaX (n/256%16)::zaX (n/16%16)::zaX (n%16)::r) 0=some n:=by
 have h1:=ztl ⟨n/4096,by omega⟩;have h2:=ztl ⟨n/256%16,by omega⟩;have h3:=ztl ⟨n/16%16,by omega⟩;have h4:=ztl ⟨n%16,by omega⟩;simp only at h1 h2 h3 h4;simp only[hexN,h1,h2,h3,h4];congr 1;omega
theorem zHJ(m n:Nat)(hn:n<65536)(r:Str)(acc:List Nat):zeF 34 (m+1) (zdr n++r) acc=zeF 34 m r (acc++[n]):=by
 unfold zdr;by_cases h34:n=34
 ·subst h34;rfl
 by_cases h92:n=92
 ·subst h92;rfl
 by_cases h8:n=8
 ·subst h8;rfl
 by_cases h9:n=9
 ·subst h9;rfl
 by_cases h10:n=10
 ·subst h10;rfl
 by_cases h12:n=12
 ·subst h12;rfl
 by_cases h13:n=13
 ·subst h13;rfl
 simp only[h34,h92,h8,h9,h10,h12,h13,yA];by_cases hx:n<32\/n>126
 ·simp only[hx,yB,yI,List.nil_append]
  have he:zmg (117::zaX (n/4096)::zaX (n/256%16)::zaX (n/16%16)::zaX (n%16)::r)=some ([n],5):=by
   simp only[zmg];rw[yK (by decide),yK (by decide),yK (by decide),yL trivial,zOq n hn r];rfl
  conv=>lhs;unfold zeF
  rw[yK (by decide),yK (by decide),yL rfl,he];rfl
 ·simp only[hx,yA,yI,List.nil_append];have e:(UInt8.ofNat n).toNat=n:=by simp[UInt8.toNat_ofNat'];omega
  have ne: ∀k:Nat,k<256->n≠k->UInt8.ofNat n≠UInt8.ofNat k:=by
   intro k hk h1 h2;have h3:=congrArg UInt8.toNat h2;rw[e]at h3;have e2:(UInt8.ofNat k).toNat=k:=by simp[UInt8.toNat_ofNat'];omega
   rw[e2]at h3;exact h1 h3
  conv=>lhs;unfold zeF
  have n34: ¬UInt8.ofNat n=34:=ne 34 (by omega) h34;have n10: ¬UInt8.ofNat n=10:=ne 10 (by omega) h10;have n13: ¬UInt8.ofNat n=13:=ne 13 (by omega) h13;have n92: ¬UInt8.ofNat n=92:=ne 92 (by omega) h92;have n127: ¬(UInt8.ofNat n).toNat>127:=by rw[e];omega
  rw[yK n34,yK (by rintro(h|h|h);exact n10 h;exact n13 h;exact n127 h),yK n92,e]
theorem zGX(behind:Str): ∀(l acc:List Nat) (m:Nat),okU l->l.length<m->zeF 34 m (zaO l++34::behind) acc=some (acc++l,behind.length):=by
 intro l;induction l with
 |nil=>
  intro acc m h1 h2;obtain⟨m,rfl⟩: ∃k,m=k+1:=⟨m -1,by simp at h2;omega⟩
  simp only[zaO,List.flatMap_nil,List.nil_append,List.append_nil];unfold zeF;rw[yL rfl]
 |cons n l ih=>
  intro acc m h1 h2;obtain⟨m,rfl⟩: ∃k,m=k+1:=⟨m -1,by simp at h2;omega⟩
  have e:zaO (n::l)++34::behind=zdr n++(zaO l++34::behind):=by simp[zaO]
  rw[e,zHJ m n (h1 n qz7),ih _ m (λk hk=>h1 k (qz8 _ hk)) (by simp only[qz3]at h2;omega)]
  simp
theorem zLT(n:Nat):1<=(zdr n).length:=by
 unfold zdr;repeat' split
 all_goals simp
theorem zDl: ∀l:List Nat,l.length<=(zaO l).length
 | []=>by simp
 |n::l=>by
  have:=zDl l;have h1:=zLT n;have e:zaO (n::l)=zdr n++zaO l:=by simp[zaO]
  rw[e,qz5,qz3];omega
end Go.D08.U
namespace Go.D08.U
open Go Go.Gw Go.Dn Go.Proofs
set_option maxRecDepth 100000
open Go.Proofs
/-! ### numbers, signs, tokens -/
def zek(base:Nat):Str->Nat->Option Nat
 | [],a=>some a
 |c::r,a=>match hexV c with
  |none=>none
  |some d=>if d<base then zek base r (a*base+d)else none
def zCc(ds:Str):Option Nat:=
 if 2<ds.length/\(ds.take 2=[48,120]\/ds.take 2=[48,88])then zek 16 (ds.drop 2) 0
 else if 1<ds.length/\ds.head?=some 48 then none
 else zek 10 ds 0
def znd(s:Str):Option (Nat×Nat):=
 if s[za2 s]? =some 46 then none
 else match zCc (s.take (za2 s))with
  |none=>none
  |some n=>if n<=9007199254740991 then some (n,za2 s)else none
def zjv:List Str:=[[61,61,61],[33,61,61]]
def zki:List Str:=[[60,61],[62,61],[61,61],[33,61],[43,43],[45,45],[38,38],[124,124],[43,61],[45,61],[42,61],[47,61],[37,61]]
def zAE:Str:=[123,125,40,41,91,93,46,59,44,60,62,43,45,42,47,37,33,63,58,61]
def zcs(s:Str):Nat:=
 if 2<s.length/\zjv.contains (s.take 3)=true then 3
 else if 1<s.length/\zki.contains (s.take 2)=true then 2
 else if zAE.contains (s.headD 0)then 1 else 0
def zOi:List Str:=[[98,114,101,97,107],[99,97,115,101],[99,97,116,99,104],[99,108,97,115,115],[99,111,110,115,116],[99,111,110,116,105,110,117,101],[100,101,98,117,103,103,101,114],[100,101,102,97,117,108,116],[100,101,108,101,116,101],[100,111],[101,108,115,101],[101,110,117,109],[101,120,112,111,114,116],[101,120,116,101,110,100,115],[102,97,108,115,101],[102,105,110,97,108,108,121],[102,111,114],[102,117,110,99,116,105,111,110],[105,102],[105,109,112,108,101,109,101,110,116,115],[105,109,112,111,114,116],[105,110],[105,110,115,116,97,110,99,101,111,102],[105,110,116,101,114,102,97,99,101],[108,101,116],[110,101,119],[110,117,108,108],[112,97,99,107,97,103,101],[112,114,105,118,97,116,101],[112,114,111,116,101,99,116,101,100],[112,117,98,108,105,99],[114,101,116,117,114,110],[115,116,97,116,105,99],[115,117,112,101,114],[115,119,105,116,99,104],[116,104,105,115],[116,104,114,111,119],[116,114,117,101],[116,114,121],[116,121,112,101,111,102],[118,97,114],[118,111,105,100],[119,104,105,108,101],[119,105,116,104],[121,105,101,108,100]]
def zlo(s:Str):Bool:=zOi.contains s
abbrev Tok:=zu
def zgt(s:Str):Option (Tok×Nat):=
 match s with
 | []=>none
 |c::_=>
  if isLet c=true then
    if 32<za2 s then none else some ({Kind:=if zlo (s.take (za2 s))=true then 2 else 1,Text:=s.take (za2 s),Num:=0,At:=0,Fresh:=false},za2 s)
  else if zfv c=true then(znd s).map λp=>({Kind:=3,Text:=[],Num:=(p.1:Int),At:=0,Fresh:=false},p.2)
  else if c=39\/c=34 then
    (match zdZ s with
    | (u,n,_)=>if n=0 then none else some ({Kind:=4,Text:=u,Num:=0,At:=0,Fresh:=false},n.toNat))
  else if zcs s=0 then none else some ({Kind:=5,Text:=s.take (zcs s),Num:=0,At:=0,Fresh:=false},zcs s)
def zHL(f:Bool):Tok:={Kind:=0,Text:=[],Num:=0,At:=0,Fresh:=f}
def Tok.fresh(t:Tok)(f:Bool):Tok:={t with Fresh:=f}
def Tok.at_(t:Tok)(n:Int):Tok:={t with At:=n}
def zd9:Nat->Str->Bool->List (Tok×Nat)⊕Nat
 |0,_,_=> .inr 0
 |m+1,s,f=>match zaW (s.length+1) s f with
  | (r,f',ok)=>
    if ok=false then .inr r.length
    else if r=[]then .inl [(zHL f',0)]
    else match zgt r with
      |none=> .inr r.length
      |some (t,n)=>match zd9 m (r.drop n) false with
        | .inl l=> .inl ((t.fresh f',r.length)::l)
        | .inr k=> .inr k
def zjC(len:Nat)(l:List (Tok×Nat)):List Tok:=l.map λp=>p.1.at_ ((len -p.2:Nat):Int)
def zj9(s:Str):List Tok×Int×Int:=
 if 4096<s.length then([],0,2)
 else match zd9 (s.length+1) s false with
  | .inl l=>(zjC s.length l,0,0)
  | .inr k=>([],((s.length -k:Nat):Int),60)
/-! ### how much a token takes -/
theorem zPh{s:Str}{n k:Nat}(h:znd s=some (n,k)):k=za2 s:=by
 unfold znd at h;split at h
 ·cases h
 ·split at h
  · cases h
  · split at h
    · cases h;rfl
    · cases h
theorem zAh(q:UInt8): ∀(m:Nat) (r:Str) (acc us:List Nat) (k:Nat),zeF q m r acc=some (us,k)->k<r.length
 |0,_,_,_,_,h=>by cases h
 |m+1,[],_,_,_,h=>by cases h
 |m+1,c::r,acc,us,k,h=>by
  unfold zeF at h;split at h
  · cases h;simp
  · split at h
    · cases h
    · split at h
      · split at h
        ·cases h
        ·rename_i us' k' _;have:=zAh q m _ _ _ _ h;simp only[List.length_drop,qz3]at this⊢;omega
      · have:=zAh q m _ _ _ _ h;simp only[qz3];omega
theorem zFk{s:Str}{u:Str}{n e:Int}(h:zdZ s=(u,n,e)):0<=n/\n<=(s.length:Int):=by
 unfold zdZ at h;split at h
 ·cases h;simp
 ·rename_i q r;split at h
  · split at h
    · cases h;constructor<;>omega
    · cases h;constructor<;>omega
  · cases h;constructor<;>omega
theorem zBX(c:UInt8)(r:Str):zcs (c::r)<=(c::r).length:=by
 unfold zcs;split
 ·rename_i h;simp only[qz3]at h⊢;omega
 ·split
  · rename_i h;simp only[qz3]at h⊢;omega
  · split<;>simp
theorem zkC{s:Str}{t:Tok}{n:Nat}(h:zgt s=some (t,n)):1<=n/\n<=s.length/\1<=t.Kind/\t.Kind<=5/\t.At=0/\t.Fresh=false:=by
 unfold zgt at h;split at h
 ·cases h
 ·rename_i c r;have hrow:=zmJ (c::r);have hr1:zf0 c=true->1<=za2 (c::r):=λe=>by rw[zgU,yL e];omega
  split at h
  · rename_i hl;split at h
    · cases h
    · cases h;have:=hr1 (by simp[zf0,hl]);refine⟨this,hrow,?_,?_,rfl,rfl⟩<;>(simp only;split<;>decide)
  · split at h
    · rename_i hd;cases hn:znd (c::r)with
      |none=>rw[hn]at h;cases h
      |some p=>
        obtain⟨m,k⟩:=p;rw[hn]at h;cases h;have hk:=zPh hn;subst hk;exact⟨hr1 (by simp[zf0,hd]),hrow,Int.le_of_lt_add_one (by dsimp only;omega),by dsimp only;omega,rfl,rfl⟩
    · split at h
      · obtain⟨u,n',e⟩:Str×Int×Int:=zdZ (c::r);generalize hq:zdZ (c::r)=q at h;obtain⟨u,n',e⟩:=q;have:=zFk hq;simp only at h;split at h
        ·cases h
        ·cases h;refine⟨by omega,by omega,Int.le_of_lt_add_one (by dsimp only;omega),by dsimp only;omega,rfl,rfl⟩
      · split at h
        ·cases h
        ·cases h;exact⟨by omega,zBX c r,Int.le_of_lt_add_one (by dsimp only;omega),by dsimp only;omega,rfl,rfl⟩
theorem zqV: ∀(p s b:Str),(10:UInt8)∉p->p.isPrefixOf (s++10::b)=p.isPrefixOf s
 | [],s,b,_=>by cases s<;>rfl
 |a::p,[],b,h=>by
  simp only[yP,not_or]at h;have:(a==(10:UInt8))=false:=yH.2 (λe=>h.1 e.symm);simp[List.isPrefixOf,this]
 |a::p,c::s,b,h=>by
  simp only[yP,not_or]at h;simp only[yI,List.isPrefixOf,zqV p s b h.2]
theorem zBG(b:Str): ∀s:Str,za2 (s++10::b)=za2 s
 | []=>by rw[List.nil_append,zgU,yK (by decide)];rfl
 |c::s=>by rw[yI,zgU,zgU,zBG b s]
theorem zJk(b:Str): ∀(s:Str) (n:Nat),zj7 s=some n->zj7 (s++10::b)=some n
 | [],n,h=>by cases h
 |c::s,n,h=>by
  rw[yI,zj7,<-yI,zqV _ _ _ (by decide)];rw[zj7]at h;split at h
  ·rename_i hp;rw[yL hp];exact h
  ·rename_i hp;rw[yK hp];cases he:zj7 s with
   |none=>rw[he]at h;cases h
   |some k=>rw[he]at h;rw[zJk b s k he];exact h
theorem znl: ∀(m m':Nat) (s:Str) (f:Bool),s.length<m->s.length<m'->zaW m s f=zaW m' s f
 |0,_,s,f,h,_=>by omega
 |_+1,0,s,f,_,h=>by omega
 |m+1,m'+1,[],f,_,_=>rfl
 |m+1,m'+1,c::r,f,h,h'=>by
  simp only[qz3]at h h';have e1: ∀f,zaW m r f=zaW m' r f:=λf=>znl m m' r f (by omega) (by omega)
  have hd:([47,47]:Str).isPrefixOf (c::r)=true->zaW m ((c::r).dropWhile (λx=> !zcm x)) f=zaW m' ((c::r).dropWhile (λx=> !zcm x)) f:=by
   intro hp
   have hc:c=47:=by
    simp only[List.isPrefixOf,qz4,beq_iff_eq]at hp;exact hp.1.symm
   have hl:=zjD (λx=> !zcm x) r
   have:(c::r).dropWhile (λx=> !zcm x)=r.dropWhile (λx=> !zcm x):=by
    subst hc;rw[List.dropWhile_cons,yL (by decide)]
   rw[this];exact znl m m' _ f (by omega) (by omega)
  have e2: ∀n f,zaW m ((c::r).drop (n+4)) f=zaW m' ((c::r).drop (n+4)) f:=by
   intro n f;have:((c::r).drop (n+4)).length<=r.length:=by simp only[List.length_drop,qz3];omega
   exact znl m m' _ f (by omega) (by omega)
  unfold zaW;rw[e1,e1];split
  ·rfl
  ·split
   ·rfl
   ·split
    ·rename_i hp;exact hd hp
    ·split
     ·split
      ·rfl
      ·exact e2 _ _
     ·rfl
theorem zlH(b:Str): ∀(m:Nat) (s:Str) (f:Bool) (r:Str) (f':Bool),s.length<m->zaW m s f=(r,f',true)->∀M,(s++10::b).length<M->
  (r≠[]->zaW M (s++10::b) f=(r++10::b,f',true))/\(r=[]->zaW M (s++10::b) f=zaW (b.length+1) b true)
 |0,s,f,r,f',h,_=>by omega
 |m+1,[],f,r,f',_,h=>by
  intro M hM;cases h;refine⟨λe=>absurd rfl e,λ_=>?_⟩;cases M with
  |zero=>omega
  |succ M=>
   rw[List.nil_append,zaW,yL (by decide)];simp only[List.nil_append,qz3]at hM;exact znl _ _ _ _ (by omega) (by omega)
 |m+1,c::s,f,r,f',hl,h=>by
  intro M hM;cases M with
  |zero=>omega
  |succ M=>
   simp only[qz3,yI]at hl hM;have hs:(s++10::b).length<M:=by omega
   rw[yI];rw[zaW]at h⊢;split at h
   ·rename_i hn;rw[yL hn];exact zlH b m s true r f' (by omega) h M hs
   ·rename_i hn;rw[yK hn];split at h
    ·rename_i hb;rw[yL hb];exact zlH b m s f r f' (by omega) h M hs
    ·rename_i hb;rw[yK hb,<-yI,zqV _ _ _ (by decide),zqV _ _ _ (by decide)];split at h
     ·rename_i hp;rw[yL hp]
      have hc:c=47:=by
       simp only[List.isPrefixOf,qz4,beq_iff_eq]at hp;exact hp.1.symm
      have hlen:=zjD (λx=> !zcm x) s
      have e1:(c::s).dropWhile (λx=> !zcm x)=s.dropWhile (λx=> !zcm x):=by
       subst hc;rw[List.dropWhile_cons,yL (by decide)]
      rw[e1]at h
      have e2:(c::s++10::b).dropWhile (λx=> !zcm x)=s.dropWhile (λx=> !zcm x)++10::b:=by
       rw[List.dropWhile_append,e1];have e3:(10::b).dropWhile (λx=> !zcm x)=10::b:=by rw[List.dropWhile_cons,yK (by decide)]
       split
       ·rename_i he;rw[e3];have:s.dropWhile (λx=> !zcm x)=[]:=by simpa using he
        rw[this];rfl
       ·rfl
      rw[e2];refine zlH b m _ f r f' (by omega) h M ?_;simp only[qz5,qz3]at hs⊢;omega
     ·rename_i hp;rw[yK hp];split at h
      ·rename_i hq;rw[yL hq];split at h
       ·cases h
       ·rename_i n he;have hle:=zD4 _ _ he
        have hlen2:2<=(c::s).length:=by
         cases s with
         |nil=>simp at hle
         |cons d s=>simp
        have ed:(c::s++10::b).drop 2=(c::s).drop 2++10::b:=List.drop_append_of_le_length hlen2;simp only[List.length_drop]at hle;rw[ed,zJk b _ n he];simp only;have e4:(c::s++10::b).drop (n+4)=(c::s).drop (n+4)++10::b:=List.drop_append_of_le_length (by omega);have e5:((c::s).drop 2++10::b).take n=((c::s).drop 2).take n:=List.take_append_of_le_length (by simp only[List.length_drop];omega)
        rw[e4,e5];have hlt:((c::s).drop (n+4)).length<=s.length:=by simp only[List.length_drop,qz3];omega
        refine zlH b m _ _ r f' (by omega) h M ?_;simp only[qz5,qz3]at hs⊢;omega
      ·rename_i hq;rw[yK hq];cases h;exact⟨λ_=>rfl,λe=>by cases e⟩
/-! ### a token -/
theorem zPv(s b:Str):znd (s++10::b)=znd s:=by
 unfold znd;rw[zBG];have hle:=zmJ s;have e1:(s++10::b).take (za2 s)=s.take (za2 s):=List.take_append_of_le_length hle;rw[e1]
 have e2:((s++10::b)[za2 s]? =some 46)=(s[za2 s]? =some 46):=by
  by_cases h:za2 s<s.length
  ·rw[yF h]
  ·have h1:za2 s=s.length:=by omega
   rw[h1,yG (yJ _)];simp
 simp only[e2]
theorem zBQ(t:Str): ∀(k:Nat) (s:Str) (a n:Nat),hexN k s a=some n->hexN k (s++t) a=some n
 |0,s,a,n,h=>h
 |k+1,[],a,n,h=>by cases h
 |k+1,c::s,a,n,h=>by
  simp only[hexN,yI]at h⊢;split at h
  ·cases h
  ·rename_i d hd;simp only[zBQ t k s _ n h]
theorem zQ5(b:Str)(r:Str)(p:List Nat×Nat)(h:zmg r=some p):zmg (r++10::b)=some p:=by
 cases r with
 |nil=>cases h
 |cons c r=>
  rw[yI];unfold zmg at h⊢;dsimp only at h⊢;split at h
  ·rename_i hc;rw[yL hc];exact h
  ·rename_i hc;rw[yK hc];split at h
   ·rename_i h0;rw[yL h0];cases r with
    |nil=>rw[<-h];rfl
    |cons d r=>exact h
   ·rename_i h0;rw[yK h0];split at h
    ·rename_i hx;rw[yL hx];cases he:hexN 2 r 0 with
     |none=>rw[he]at h;cases h
     |some n=>rw[he]at h;rw[zBQ _ 2 r 0 n he];exact h
    ·rename_i hx;rw[yK hx];split at h
     ·rename_i hu;rw[yL hu];cases he:hexN 4 r 0 with
      |none=>rw[he]at h;cases h
      |some n=>rw[he]at h;rw[zBQ _ 4 r 0 n he];exact h
     ·rename_i hu;rw[yK hu];exact h
theorem zAq(q:UInt8)(b:Str): ∀(m:Nat) (r:Str) (acc us:List Nat) (k:Nat),zeF q m r acc=some (us,k)->∀M,m<=M->zeF q M (r++10::b) acc=some (us,k+b.length+1)
 |0,_,_,_,_,h,_,_=>by cases h
 |m+1,[],_,_,_,h,_,_=>by cases h
 |m+1,c::r,acc,us,k,h,M,hM=>by
  cases M with
  |zero=>omega
  |succ M=>
   rw[yI];rw[zeF]at h⊢;split at h
   ·rename_i hc;rw[yL hc];cases h;simp;omega
   ·rename_i hc;rw[yK hc];split at h
    ·cases h
    ·rename_i hb;rw[yK hb];split at h
     ·rename_i h92;rw[yL h92];cases he:zmg r with
      |none=>rw[he]at h;cases h
      |some p=>
       obtain⟨us',k'⟩:=p;rw[he]at h;rw[zQ5 b r _ he];simp only at h⊢;have hk:=(zFs he).2.2.2;rw[List.drop_append_of_le_length hk];exact zAq q b m _ _ us k h M (by omega)
     ·rename_i h92;rw[yK h92];exact zAq q b m _ _ us k h M (by omega)
theorem zNB(s b:Str){u:Str}{n e:Int}(h:zdZ s=(u,n,e))(hn:n≠0):zdZ (s++10::b)=(u,n,e):=by
 cases s with
 |nil=>simp only[zdZ]at h;cases h;exact absurd rfl hn
 |cons q r=>
  rw[yI];rw[zdZ]at h⊢;split at h
  ·rename_i hq;rw[yL hq];cases hg:zeF q (r.length+1) r []with
   |none=>rw[hg]at h;cases h;exact absurd rfl hn
   |some p=>
    obtain⟨us,k⟩:=p;rw[hg]at h;rw[zAq q b _ _ _ _ _ hg ((r++10::b).length+1) (by simp only[qz5];omega)]
    have hk:=zAh q _ _ _ _ _ hg;simp only[Prod.mk.injEq]at h⊢;obtain⟨h1,h2,h3⟩:=h;refine⟨h1,?_,h3⟩;rw[<-h2];simp only[qz3,qz5];omega
  ·cases h;exact absurd rfl hn
theorem zHe{s b:Str}{k:Nat}(h:s.length<k):(10:UInt8)∈(s++10::b).take k:=by
 rw[List.mem_iff_getElem?];refine⟨s.length,?_⟩;rw[List.getElem?_take_of_lt h,yG (yJ _)];simp
theorem zBk{L:List Str}(hL: ∀w∈L,(10:UInt8)∉w){x:Str}(h:(10:UInt8)∈x):L.contains x=false:=by
 rw[<-Bool.not_eq_true,List.contains_iff_mem];intro hm;exact hL x hm h
theorem zNd(c:UInt8)(s b:Str):zcs ((c::s)++10::b)=zcs (c::s):=by
 unfold zcs
 have e3:(2< ((c::s)++10::b).length/\zjv.contains (((c::s)++10::b).take 3)=true)=(2< (c::s).length/\zjv.contains ((c::s).take 3)=true):=by
  by_cases h:2< (c::s).length
  ·rw[List.take_append_of_le_length (by omega)];have:2< ((c::s)++10::b).length:=by simp only[qz5];omega
   simp only[this,h,true_and]
  ·rw[zBk (L:=zjv) (by decide) (zHe (by omega))];rw[eq_iff_iff];exact⟨λe=>(by cases e.2),λe=>absurd e.1 h⟩
 have e2:(1< ((c::s)++10::b).length/\zki.contains (((c::s)++10::b).take 2)=true)=(1< (c::s).length/\zki.contains ((c::s).take 2)=true):=by
  by_cases h:1< (c::s).length
  ·rw[List.take_append_of_le_length (by omega)];have:1< ((c::s)++10::b).length:=by simp only[qz5];omega
   simp only[this,h,true_and]
  ·rw[zBk (L:=zki) (by decide) (zHe (by omega))];rw[eq_iff_iff];exact⟨λe=>(by cases e.2),λe=>absurd e.1 h⟩
 simp only[e3,e2];rfl
theorem zQB(s b:Str){t:Tok}{n:Nat}(h:zgt s=some (t,n)):zgt (s++10::b)=some (t,n):=by
 cases s with
 |nil=>cases h
 |cons c s=>
  have hle:=zmJ (c::s);have hr:=zBG b (c::s);have hn:=zPv (c::s) b;have hs:=zNd c s b;have ht:((c::s)++10::b).take (za2 (c::s))=(c::s).take (za2 (c::s)):=List.take_append_of_le_length hle;have hg:=zBX c s;have ht2:((c::s)++10::b).take (zcs (c::s))=(c::s).take (zcs (c::s)):=List.take_append_of_le_length hg;have hrd:=λ(u:Str) (n e:Int)=>zNB (c::s) b (u:=u) (n:=n) (e:=e)
  rw[yI]at hr hn hs ht ht2 hrd⊢;unfold zgt at h⊢;dsimp only at h⊢;simp only[hr,hn,hs,ht,ht2];split at h
  ·rename_i hl;rw[yL hl];exact h
  ·rename_i hl;rw[yK hl];split at h
   ·rename_i hd;rw[yL hd];exact h
   ·rename_i hd;rw[yK hd];split at h
    ·rename_i hq;rw[yL hq];generalize hx:zdZ (c::s)=q at h;obtain⟨u,n',e⟩:=q;simp only at h;split at h
     ·cases h
     ·rename_i hne;rw[hrd u n' e hx hne];simp only;rw[yK hne];exact h
    ·rename_i hq;rw[yK hq];exact h
/-! ### the whole -/
theorem zEV: ∀(m m':Nat) (s:Str) (f:Bool),s.length<m->s.length<m'->zd9 m s f=zd9 m' s f
 |0,_,s,f,h,_=>by omega
 |_+1,0,s,f,_,h=>by omega
 |m+1,m'+1,s,f,h,h'=>by
  unfold zd9;have hb:=zec (s.length+1) s f;generalize hq:zaW (s.length+1) s f=q at hb;obtain⟨r,f',ok⟩:=q;simp only at hb⊢;split
  ·rfl
  ·split
   ·rfl
   ·cases ho:zgt r with
    |none=>rfl
    |some p=>
     obtain⟨t,n⟩:=p;have hl:=zkC ho;simp only;rw[zEV m m' (r.drop n) false (by simp only[List.length_drop];omega) (by simp only[List.length_drop];omega)]
theorem zFh{m m':Nat}{s s':Str}{f f':Bool}(h:s.length<m)(h':s'.length<m')(he:zaW (s.length+1) s f=zaW (s'.length+1) s' f'):zd9 m s f=zd9 m' s' f':=by
 cases m with
 |zero=>omega
 |succ m=>
  cases m' with
  |zero=>omega
  |succ m'=>
   have hb:=zec (s.length+1) s f;have hb':=zec (s'.length+1) s' f';unfold zd9;rw[he]at hb⊢;generalize hq:zaW (s'.length+1) s' f'=q at hb hb';obtain⟨r,f2,ok⟩:=q;simp only at hb hb'⊢;split
   ·rfl
   ·split
    ·rfl
    ·cases ho:zgt r with
     |none=>rfl
     |some p=>
      obtain⟨t,n⟩:=p;have hl:=zkC ho;simp only;rw[zEV m m' (r.drop n) false (by simp only[List.length_drop];omega) (by simp only[List.length_drop];omega)]
theorem zDd: ∀(m:Nat) (s:Str) (f:Bool) (l:List (Tok×Nat)),zd9 m s f= .inl l->
  ∃l0 f',l=l0++[(zHL f',0)]/\(∀p∈l0,1<=p.1.Kind/\p.1.Kind<=5/\1<=p.2/\p.2<=s.length)/\l0.Pairwise (λp q=>q.2<p.2)
 |0,_,_,_,h=>by cases h
 |m+1,s,f,l,h=>by
  rw[zd9]at h;have hb:=zec (s.length+1) s f;generalize hq:zaW (s.length+1) s f=q at h hb;obtain⟨r,f',ok⟩:=q;simp only at h hb;split at h
  ·cases h
  ·split at h
   ·cases h;exact⟨[],f',rfl,by simp,List.Pairwise.nil⟩
   ·split at h
    ·cases h
    ·rename_i hr t n ho;have hl:=zkC ho;split at h
     ·rename_i l' hc;cases h;obtain⟨l0,f2,rfl,h1,h2⟩:=zDd m _ _ _ hc;refine⟨(t.fresh f',r.length)::l0,f2,rfl,?_,?_⟩
      ·intro p hp;rcases yP.1 hp with rfl|hp
       ·exact⟨hl.2.2.1,hl.2.2.2.1,by simp only;omega,hb⟩
       ·have:=h1 p hp;simp only[List.length_drop]at this;exact⟨this.1,this.2.1,this.2.2.1,by omega⟩
      ·refine List.Pairwise.cons ?_ h2;intro p hp;have:=(h1 p hp).2.2.2;simp only[List.length_drop]at this⊢;omega
     ·cases h
theorem zHt(b:Str): ∀(m:Nat) (s:Str) (f:Bool) (l:List (Tok×Nat)),s.length<m->zd9 m s f= .inl l->∀M,(s++10::b).length<M->
  zd9 M (s++10::b) f=match zd9 (b.length+1) b true with
   | .inl l2=> .inl (l.dropLast.map (λp=>(p.1,p.2+(b.length+1)))++l2)
   | .inr k=> .inr k
 |0,s,f,l,h,_=>by omega
 |m+1,s,f,l,hm,h=>by
  intro M hM;have h0:=h;rw[zd9]at h;have hb:=zec (s.length+1) s f;have hx:=zlH b (s.length+1) s f;generalize hq:zaW (s.length+1) s f=q at h hb hx;obtain⟨r,f',ok⟩:=q;simp only at h hb;split at h
  ·cases h
  ·rename_i hok;have hok':ok=true:=by simpa using hok
   subst hok';have hx:=hx r f' (by omega) rfl ((s++10::b).length+1) (by omega);split at h
   ·rename_i hr;cases h;have e:=zFh hM (Nat.lt_succ_self b.length) (hx.2 hr);rw[e];cases zd9 (b.length+1) b true<;>rfl
   ·rename_i hr;have hx:=hx.1 hr;split at h
    ·cases h
    ·rename_i t n ho;have hl:=zkC ho;split at h
     ·rename_i l' hc;cases h;cases M with
      |zero=>omega
      |succ M=>
       rw[zd9,hx];have hne:r++10::b≠[]:=by simp
       simp only[hne,yA,Bool.true_eq_false,zQB r b ho];rw[List.drop_append_of_le_length hl.2.1];have hd:(r.drop n).length<m:=by simp only[List.length_drop];omega
       rw[zHt b m (r.drop n) false l' hd hc M (by simp only[qz5,qz3,List.length_drop]at hM⊢;omega)]
       obtain⟨l0,f2,rfl,_,_⟩:=zDd _ _ _ _ hc;cases zd9 (b.length+1) b true with
       |inr k=>rfl
       |inl l2=>
        simp only[List.dropLast_concat,<-yI];simp[Nat.add_assoc]
     ·cases h
end Go.D08.U
namespace Go.D08.U
open Go Go.Gw Go.Dn Go.Proofs
set_option maxRecDepth 100000
/-! ### blanks -/
theorem zug: ∀s:Str,(s.any zcm=false/\Lib.indexAny s [10,13]= -1/\s.dropWhile (λx=> !zcm x)=[])\/∃i:Nat,Lib.indexAny s [10,13]=(i:Int)/\i<=s.length/\s.any zcm=true/\s.drop i=s.dropWhile (λx=> !zcm x)/\(s.take i).any zcm=false
 | []=> .inl ⟨rfl,rfl,rfl⟩
 |b::l=>by
  rw[Lib.indexAny];cases h:([10,13]:Str).contains b with
  |true=>
   have hb:zcm b=true:=h;refine .inr ⟨0,?_,by omega,by simp[hb],?_,rfl⟩
   ·simp
   ·simp[hb]
  |false=>
   have hb:zcm b=false:=h;rcases zug l with⟨h1,h2,h3⟩| ⟨i,h1,h2,h3,h4,h5⟩
   ·refine .inl ⟨by simp only[List.any_cons,hb,h1,Bool.or_self],?_,by rw[List.dropWhile_cons,yL (by simp[hb])];exact h3⟩
    rw[h2];rfl
   ·refine .inr ⟨i+1,?_,by simp;omega,by simp only[List.any_cons,h3,Bool.or_true],by rw[List.dropWhile_cons,yL (by simp[hb]),List.drop_succ_cons];exact h4,by simp only[List.take_succ_cons,List.any_cons,hb,h5,Bool.or_self]⟩
    rw[h1];have c:(((i:Nat):Int)== -1)=false:=by rw[yH];omega
    simp only[c,qz2,yA];rfl
theorem zEk(s:Str):Lib.containsAny s [10,13]=s.any zcm:=by
 unfold Lib.containsAny;rcases zug s with⟨h1,h2,_⟩| ⟨i,h1,_,h3,_⟩
 ·rw[h1,h2];rfl
 ·rw[h1,h3];simp
theorem zE8: ∀(s:Str) (n:Nat),zj7 s=some n->∃t,s.drop n=42::47::t
 | [],n,h=>by cases h
 |c::r,n,h=>by
  rw[zj7]at h;split at h
  ·rename_i hp;simp only[Option.some.injEq]at h;subst h;cases r with
   |nil=>simp[List.isPrefixOf]at hp
   |cons d r=>
    simp only[List.isPrefixOf,Bool.and_true,qz4,beq_iff_eq]at hp;obtain⟨rfl,rfl⟩:=hp;exact⟨r,rfl⟩
  ·cases he:zj7 r with
   |none=>rw[he]at h;cases h
   |some k=>
    rw[he]at h;simp only[Option.map_some,Option.some.injEq]at h;subst h;exact zE8 r k he
theorem zM3(r:Str)(n:Nat)(h:zj7 r=some n):((47::42::r).take (n+4)).any zcm=(r.take n).any zcm:=by
 obtain⟨t,ht⟩:=zE8 r n h
 have e:r.take (n+2)=r.take n++[42,47]:=by
  have h2:r.take (n+2)=r.take n++(r.drop n).take 2:=by rw[List.take_add]
  rw[h2,ht];rfl
 have e2:(47::42::r).take (n+4)=47::42::r.take (n+2):=rfl;rw[e2,e];have c1:zcm 47=false:=by decide
 have c2:zcm 42=false:=by decide
 simp only[List.any_cons,List.any_append,List.any_nil,c1,c2,Bool.false_or,Bool.or_false]
theorem zOy: ∀b:Fin 256,zcm (UInt8.ofNat b.val)=false->¬(UInt8.ofNat b.val=32\/UInt8.ofNat b.val=9\/UInt8.ofNat b.val=11\/UInt8.ofNat b.val=12)->b.val≠32/\(b.val<9\/13<b.val):=by decide+kernel
def okN(o:Nat)(t:Str)(a:Nat):Option Nat:=match zek o t a with
 |none=>none
 |some n=>if n<=9007199254740991 then some n else none
theorem zH1{o:Nat}(ho:1<=o): ∀(t:Str) (a n:Nat),zek o t a=some n->a<=n
 | [],a,n,h=>by cases h;exact yJ _
 |c::r,a,n,h=>by
  simp only[zek]at h;split at h
  ·cases h
  ·rename_i d _;split at h
   ·have:=zH1 ho r _ n h;have h2:a*1<=a*o:=Nat.mul_le_mul_left a ho;omega
   ·cases h
def zif(b:Nat):Nat:=(BitVec.ofNat 8 b|||32#8).toNat
theorem zOJ: ∀b:Fin 256,zby ((b.val:Nat):Int)=some (((zif b.val:Nat):Int),()):=by decide+kernel
theorem zNZ(c:UInt8):zby ((c.toNat:Nat):Int)=some (((zif c.toNat:Nat):Int),()):=zOJ ⟨c.toNat,c.toNat_lt⟩
theorem zPp: ∀b:Fin 256,(48<=b.val/\b.val<=57->hexV (UInt8.ofNat b.val)=some (b.val -48))/\(¬(48<=b.val/\b.val<=57)->97<=zif b.val->zif b.val<=122->hexV (UInt8.ofNat b.val)=if zif b.val -87<16 then some (zif b.val -87)else none)/\(¬(48<=b.val/\b.val<=57)->¬(97<=zif b.val/\zif b.val<=122)->hexV (UInt8.ofNat b.val)=none):=by decide+kernel
theorem zDJ{o:Nat}: ∀(t:Str) (a n:Nat),zek o t a=some n->t.contains 95=false
 | [],_,_,_=>rfl
 |c::r,a,n,h=>by
  simp only[zek]at h;split at h
  ·cases h
  ·rename_i d hd;split at h
   ·rw[List.contains_cons,zDJ r _ _ h,Bool.or_false,yH];intro e;subst e;have:hexV 95=none:=by decide
    rw[this]at hd;cases hd
   ·cases h
end Go.D08.U
namespace Go.D08
open Go Go.Gw Go.Dn
instance lpI:Lp:=lpN 1000000000000
theorem zdy{S E:Type}{step:S->Option (S⊕E)}{n:Nat}{s:S}{e:E}(h:zaF step n s=some e)(hn:n<=1000000000000):Lp.loop step s=some e:=
 zqA _ h hn
theorem zbV{S E:Type}{step:S->Option (S⊕E)}{n:Nat}{s s':S}(h:step s=some (.inl s')):zaF step (n+1) s=zaF step n s':=by simp only[zaF,h,qz1]
theorem zaL{S E:Type}{step:S->Option (S⊕E)}{n:Nat}{s:S}{e:E}(h:step s=some (.inr e)):zaF step (n+1) s=some e:=by simp only[zaF,h,qz1]
abbrev Node:=zg
mutual
def zW:Node->Nat
 | ⟨_,_,_,_,_,l⟩=>za9 l+1
def za9:List Node->Nat
 | []=>0
 |x::r=>max (zW x) (za9 r)
end
mutual
def zkk:Node->Nat
 | ⟨_,_,_,_,_,l⟩=>zl6 l+1
def zl6:List Node->Nat
 | []=>0
 |x::r=>zkk x+zl6 r
end
mutual
def zqH:Node->Node->Bool
 | ⟨k,n,m,t,ns,l⟩,⟨k',n',m',t',ns',l'⟩=>(k==k'&&n==n'&&m==m'&&t==t'&&ns==ns')&&zd2 l l'
def zd2:List Node->List Node->Bool
 | [],[]=>true
 |x::r,y::r'=>zqH x y&&zd2 r r'
 |_,_=>false
end
theorem zaR(x:Node):zW x=za9 x.L+1:=by cases x;simp[zW]
theorem zv8(x:Node):zkk x=zl6 x.L+1:=by cases x;simp[zkk]
theorem zni(x:Node)(r:List Node):za9 (x::r)=max (zW x) (za9 r):=by simp[za9]
mutual
theorem zpd: ∀x:Node,zW x<=zkk x
 | ⟨_,_,_,_,_,l⟩=>by simp only[zW,zkk];have:=zxA l;omega
theorem zxA: ∀l:List Node,za9 l<=zl6 l
 | []=>by simp[za9]
 |x::r=>by simp only[za9,zl6];have:=zpd x;have:=zxA r;omega
end
theorem zzR: ∀l:List Node,l.length<=zl6 l
 | []=>by simp
 |x::r=>by simp only[zl6,qz3];have:=zzR r;have:=zv8 x;omega
theorem zaT{x:Node}: ∀{l:List Node},x∈l->zW x<=za9 l
 |y::r,h=>by
  simp only[za9];rcases yP.1 h with rfl|h
  ·omega
  ·have:=zaT h;omega
theorem ztr{x:Node}: ∀{l:List Node},x∈l->zkk x<=zl6 l
 |y::r,h=>by
  simp only[zl6];rcases yP.1 h with rfl|h
  ·omega
  ·have:=ztr h;omega
theorem zh7{α:Type}{xs:List α}{i:Nat}{x:α}{r:List α}(h:xs.drop i=x::r):zN xs (i:Int)=some x/\xs.drop (i+1)=r/\i<xs.length:=by
 have hi:i<xs.length:=by
  rcases Nat.lt_or_ge i xs.length with h1|h1
  ·exact h1
  ·rw[List.drop_of_length_le h1]at h;cases h
 rw[List.drop_eq_getElem_cons hi]at h;cases h;exact⟨by rw[zji];exact qz9 hi,rfl,hi⟩
theorem zE9(g:zei)(l:List Node)(hg: ∀x∈l,g.zex x=some ((zW x:Int),()))(hb:za9 l<4611686018427387904)(hl:l.length<4611686018427387904): ∀(r:List Node) (i:Nat) (m:Nat),l.drop i=r->m<4611686018427387904->
  zaF (ziQ g) (r.length+1) ((m:Int),l,((l.length:Nat):Int),(i:Int),())=some (((max m (za9 r)+1:Nat):Int),())
 | [],i,m,hr,hm=>by
  have hi: ¬((i:Int)< (l.length:Int)):=by
   have:=congrArg List.length hr;simp at this;omega
  refine zaL ?_;simp only[ziQ,hi,decide_false,qz2,yA];rw[wrap_i64 (by omega) (by omega)];simp[za9]
 |x::r,i,m,hr,hm=>by
  obtain⟨h1,h2,h3⟩:=zh7 hr;have hi:((i:Int)< (l.length:Int)):=by omega
  have hx:x∈l:=List.mem_of_mem_drop (hr▸qz7);have hd:=zaT hx
  have hstep:ziQ g ((m:Int),l,((l.length:Nat):Int),(i:Int),())=some (.inl (((max m (zW x):Nat):Int),l,((l.length:Nat):Int),((i+1:Nat):Int),())):=by
   simp only[ziQ,hi,decide_true,yB,h1,qz1,zq,hg x hx];rw[wrap_i64 (by omega) (by omega)];have:(if((zW x:Nat):Int)>(m:Int)then((zW x:Nat):Int)else(m:Int))=((max m (zW x):Nat):Int):=by split<;>omega
   rw[this];rfl
  rw[qz3,zbV hstep,zE9 g l hg hb hl r (i+1) _ h2 (by omega),zni];congr 3;omega
theorem zBd: ∀(n:Nat) (x:Node),zW x<=n->zkk x<=2097152->(zdn n).zex x=some ((zW x:Int),())
 |0,x,h,_=>by have:=zaR x;omega
 |n+1,x,h,hs=>by
  have h1:=zaR x;have h2:=zv8 x;have h3:=zxA x.L;have h4:=zzR x.L;show zo1 (zdn n) x=_;unfold zo1;refine zdy (n:=x.L.length+1) ?_ (by omega);have:=zE9 (zdn n) x.L (λy hy=>zBd n y (by have:=zaT hy;omega) (by have:=ztr hy;omega)) (by omega) (by omega) x.L 0 0 rfl (by omega)
  rw[h1];simpa using this
theorem zzC(x:Node)(h:zkk x<=2097152):zex x=some ((zW x:Int),()):=
 zBd _ x (by have:=zpd x;show zW x<=1000000000000;omega) h
mutual
def zpy:Node->Nat
 | ⟨_,_,_,_,ns,l⟩=>ns.length+zpe l
def zpe:List Node->Nat
 | []=>0
 |x::r=>zpy x+zpe r
end
theorem zEY(x:Node):zpy x=x.Names.length+zpe x.L:=by cases x;simp[zpy]
theorem zv1{x:Node}: ∀{l:List Node},x∈l->zpy x<=zpe l
 |y::r,h=>by
  simp only[zpe];rcases yP.1 h with rfl|h
  ·omega
  ·have:=zv1 h;omega
theorem zQH(x y:Node):zqH x y=((x.Kind==y.Kind&&x.Name==y.Name&&x.Num==y.Num&&x.Text==y.Text&&x.Names==y.Names)&&zd2 x.L y.L):=by
 cases x;cases y;simp only[zqH]
theorem zFp: ∀{l l':List Node},l.length≠l'.length->zd2 l l'=false
 | [],[],h=>absurd rfl h
 | [],_::_,_=>by simp[zd2]
 |_::_,[],_=>by simp[zd2]
 |x::r,y::r',h=>by
  simp only[zd2];rw[zFp (by simpa using h)];simp
theorem zBu(g:zbc)(x y:Node)(v:Bool)(hl:x.Names.length=y.Names.length)(hb:x.Names.length<4611686018427387904)
  (hend:Lp.loop (zbR g) (((x.L.length:Nat):Int),0,x,y,())=some (v,())): ∀(r:List Str) (i:Nat),x.Names.drop i=r->
  zaF (zcj g) (r.length+1) (((x.Names.length:Nat):Int),(i:Int),x,y,())=some ((r==y.Names.drop i)&&v,())
 | [],i,hr=>by
  have h1:x.Names.length<=i:=by have:=congrArg List.length hr;simp at this;omega
  have hi: ¬((i:Int)< (x.Names.length:Int)):=by omega
  refine zaL ?_;simp only[zcj,hi,decide_false,qz2,yA,zq,hend,zjx];rw[List.drop_of_length_le (by omega:y.Names.length<=i)];rfl
 |a::r,i,hr=>by
  obtain⟨h1,h2,h3⟩:=zh7 hr;have hi:((i:Int)< (x.Names.length:Int)):=by omega
  have hy:i<y.Names.length:=by omega
  have h4:y.Names.drop i=y.Names[i]::y.Names.drop (i+1):=List.drop_eq_getElem_cons hy;have h5:zN y.Names (i:Int)=some y.Names[i]:=by rw[zji];exact qz9 hy
  rw[h4,qz3,List.cons_beq_cons];cases he:(a==y.Names[i])with
  |false=>
   refine zaL ?_;simp only[zcj,hi,decide_true,yB,h1,h5,qz1,he,yN,Bool.false_and]
  |true=>
   have hstep:zcj g (((x.Names.length:Nat):Int),(i:Int),x,y,())=some (.inl (((x.Names.length:Nat):Int),((i+1:Nat):Int),x,y,())):=by
    simp only[zcj,hi,decide_true,yB,h1,h5,qz1,he,yO,qz2,yA,zq];rw[wrap_i64 (by omega) (by omega)];rfl
   rw[zbV hstep,zBu g x y v hl hb hend r (i+1) h2,Bool.true_and]
theorem zFo(g:zbc)(x y:Node)(hg: ∀a∈x.L,∀b∈y.L,g.zbJ a b=some (zqH a b,()))(hl:x.L.length=y.L.length)(hb:x.L.length<4611686018427387904): ∀(r:List Node) (i:Nat),x.L.drop i=r->
  zaF (zbR g) (r.length+1) (((x.L.length:Nat):Int),(i:Int),x,y,())=some (zd2 r (y.L.drop i),())
 | [],i,hr=>by
  have h1:x.L.length<=i:=by have:=congrArg List.length hr;simp at this;omega
  have hi: ¬((i:Int)< (x.L.length:Int)):=by omega
  refine zaL ?_;simp only[zbR,hi,decide_false,qz2,yA];rw[List.drop_of_length_le (by omega:y.L.length<=i)];simp[zd2]
 |a::r,i,hr=>by
  obtain⟨h1,h2,h3⟩:=zh7 hr;have hi:((i:Int)< (x.L.length:Int)):=by omega
  have hy:i<y.L.length:=by omega
  have h4:y.L.drop i=y.L[i]::y.L.drop (i+1):=List.drop_eq_getElem_cons hy;have h5:zN y.L (i:Int)=some y.L[i]:=by rw[zji];exact qz9 hy
  have h6:=hg a (List.mem_of_mem_drop (hr▸qz7)) y.L[i] (List.getElem_mem hy);rw[h4,qz3];simp only[zd2];cases he:zqH a y.L[i]with
  |false=>
   refine zaL ?_;simp only[zbR,hi,decide_true,yB,h1,h5,qz1,zq,h6,he,yN,Bool.false_and]
  |true=>
   have hstep:zbR g (((x.L.length:Nat):Int),(i:Int),x,y,())=some (.inl (((x.L.length:Nat):Int),((i+1:Nat):Int),x,y,())):=by
    simp only[zbR,hi,decide_true,yB,h1,h5,qz1,zq,h6,he,yO,qz2,yA];rw[wrap_i64 (by omega) (by omega)];rfl
   rw[zbV hstep,zFo g x y hg hl hb r (i+1) h2,Bool.true_and]
theorem zLg: ∀(n:Nat) (x y:Node),zW x<=n->zkk x<=2097152->zkk y<=2097152->zpy x<=2097152->zpy y<=2097152->(zbb n).zbJ x y=some (zqH x y,())
 |0,x,y,h,_,_,_,_=>by have:=zaR x;omega
 |n+1,x,y,h,hs,hs',hn,hn'=>by
  have a1:=zaR x;have a2:=zv8 x;have a3:=zv8 y;have a4:=zEY x;have a5:=zEY y;have b1:=zzR x.L;show zgu (zbb n) x y=_;unfold zgu;simp only[zq];rw[zQH];by_cases hN:x.Names.length=y.Names.length
  ·by_cases hL:x.L.length=y.L.length
   ·have e1:(((x.Names.length:Nat):Int) !=((y.Names.length:Nat):Int))=false:=by simp[hN]
    have e2:(((x.L.length:Nat):Int) !=((y.L.length:Nat):Int))=false:=by simp[hL]
    have hsub:Lp.loop (zbR (zbb n)) (((x.L.length:Nat):Int),0,x,y,())=some (zd2 x.L y.L,()):=by
     refine zdy (n:=x.L.length+1) ?_ (by omega);have:=zFo (zbb n) x y (λa ha b hb=>zLg n a b (by have:=zaT ha;omega) (by have:=ztr ha;omega) (by have:=ztr hb;omega) (by have:=zv1 ha;omega) (by have:=zv1 hb;omega)) hL (by omega) x.L 0 rfl
     simpa using this
    have hnam:Lp.loop (zcj (zbb n)) (((x.Names.length:Nat):Int),0,x,y,())=some ((x.Names==y.Names)&&zd2 x.L y.L,()):=by
     refine zdy (n:=x.Names.length+1) ?_ (by omega);have:=zBu (zbb n) x y _ hN (by omega) hsub x.Names 0 rfl;simpa using this
    rw[e1,e2,hnam];have k1:(x.Kind !=y.Kind)= !(x.Kind==y.Kind):=rfl;have k2:(x.Num !=y.Num)= !(x.Num==y.Num):=rfl;rw[k1,k2];cases x.Kind==y.Kind<;>cases x.Name==y.Name<;>cases x.Num==y.Num<;>cases x.Text==y.Text<;>cases x.Names==y.Names<;>simp
   ·have e2:(((x.L.length:Nat):Int) !=((y.L.length:Nat):Int))=true:=by simpa using by omega
    rw[e2,zFp hL];simp
  ·have e1:(((x.Names.length:Nat):Int) !=((y.Names.length:Nat):Int))=true:=by simpa using by omega
   have:(x.Names==y.Names)=false:=by
    simp only[yH,ne_eq];intro e;exact hN (by rw[e])
   rw[e1,this];simp
end Go.D08
namespace Go.D08
open Go Go.Gw Go.Dn
set_option maxRecDepth 100000
/-! ### names -/
theorem zLB: ∀b:Fin 256,ziN ((b.val:Nat):Int)=some (isLet (UInt8.ofNat b.val),()):=by decide+kernel
theorem zOb: ∀b:Fin 256,zlL ((b.val:Nat):Int)=some (zfv (UInt8.ofNat b.val),()):=by decide+kernel
theorem zK6(b:UInt8): ∃k:Fin 256,b=UInt8.ofNat k.val:=⟨⟨b.toNat,b.toNat_lt⟩,by simp⟩
theorem zkw(c:UInt8):ziN ((c.toNat:Nat):Int)=some (isLet c,()):=by
 obtain⟨k,rfl⟩:=zK6 c;have:(UInt8.ofNat k.val).toNat=k.val:=by simp[Nat.mod_eq_of_lt k.isLt]
 rw[this];exact zLB k
theorem zop(c:UInt8):zlL ((c.toNat:Nat):Int)=some (zfv c,()):=by
 obtain⟨k,rfl⟩:=zK6 c;have:(UInt8.ofNat k.val).toNat=k.val:=by simp[Nat.mod_eq_of_lt k.isLt]
 rw[this];exact zOb k
theorem zNP{s:Str}{i:Nat}{c:UInt8}{r:Str}(h:s.drop i=c::r):zaZ s (i:Int)=some ((c.toNat:Nat):Int)/\s.drop (i+1)=r/\i<s.length:=by
 have hi:i<s.length:=by
   rcases Nat.lt_or_ge i s.length with h1|h1
   ·exact h1
   ·rw[List.drop_of_length_le h1]at h;cases h
 rw[List.drop_eq_getElem_cons hi]at h;cases h;exact⟨by rw[zmk,qz9 hi];rfl,rfl,hi⟩
theorem zHj(s:Str)(hs:s.length<=1000000000): ∀(r:Str) (i:Nat),s.drop i=r->i<=s.length->zaF zhd (r.length+1) (s,((s.length:Nat):Int),(i:Int),())=some (((i+Gw.za2 r:Nat):Int),())
 | [],i,hr,hi=>by
   have h1:i=s.length:=by have:=congrArg List.length hr;simp at this;omega
   refine zaL ?_;have hi: ¬((i:Int)< (s.length:Int)):=by omega
   simp only[zhd,hi,decide_false,qz2,yA];simp[Gw.za2,h1]
 |c::r,i,hr,_=>by
   obtain⟨h1,h2,h3⟩:=zNP hr;have hi:((i:Int)< (s.length:Int)):=by omega
   rw[zgU];have hL:zf0 c=(isLet c||zfv c):=rfl
   have hgo:zf0 c=true->zhd (s,((s.length:Nat):Int),(i:Int),())=some (.inl (s,((s.length:Nat):Int),((i+1:Nat):Int),())):=λh=>by
    rw[hL]at h;simp only[zhd,hi,decide_true,yB,h1,qz1,zkw,zop];rw[wrap_i64 (by omega) (by omega)];cases hl:isLet c with
    |true=>rfl
    |false=>
     rw[hl]at h;simp only[Bool.false_or]at h;simp only[h,yN,yB,yO,qz2,yA];rfl
   cases h:zf0 c with
   |true=>
    rw[qz3,zbV (hgo h),zHj s hs r (i+1) h2 (by omega)];simp only[yB];congr 3;omega
   |false=>
    refine zaL ?_;rw[hL,Bool.or_eq_false_iff]at h;simp only[zhd,hi,decide_true,yB,h1,qz1,zkw,zop,h.1,h.2,yN,qz2,yA];rfl
theorem zrM(s:Str)(hs:s.length<=1000000000):zpb s=some (((Gw.za2 s:Nat):Int),()):=by
 refine zdy (n:=s.length+1) ?_ (by omega);have:=zHj s hs s 0 rfl (Nat.zero_le _);simpa using this
def zfD(s:Str):Bool:=match s with
 | []=>false
 |c::_=>decide (s.length<=32)&&(isLet c&&s.all zf0)
theorem zrk(s:Str)(hs:s.length<=1000000000):zjE s=some (zfD s,()):=by
 unfold zjE;cases s with
 |nil=>rfl
 |cons c r=>
   have h0:((c::r:Str)==([]:Str))=false:=rfl;have h1:zaZ (c::r) 0=some ((c.toNat:Nat):Int):=rfl;simp only[h0,yN,Bool.true_and,h1,qz1,zkw,zrM _ hs,zfD];by_cases hl:(c::r).length<=32
   ·have:(((c::r).length:Nat):Int)<=32:=by omega
    simp only[hl,this,decide_true,yB,Bool.true_and];cases isLet c with
    |false=>rfl
    |true=>
     simp only[yB,Bool.true_and];congr 2;have:=zB8 (c::r);rw[Bool.eq_iff_iff,beq_iff_eq];constructor
     ·intro h;exact this.1 (by omega)
     ·intro h;rw[this.2 h]
   ·have: ¬(((c::r).length:Nat):Int)<=32:=by omega
    simp only[hl,this,decide_false,qz2,yA,Bool.false_and]
def zcb(l s:Str):Bool:= !(s==([]:Str))&&(!(s.contains 32)&&Lib.contains l (32::(s++[32])))
theorem zCW(l s:Str)(hl:l.length<=1000000000)(hs:s.length<=1000000000):
   (if(!(s==([]:Str)))=true then
  Option.bind (strings_Contains s ([32]:Str)) λr_1=>
  if(!r_1.1)=true then
   Option.bind (zh9 ([32]:Str) s) λs_2=>
   Option.bind (zh9 s_2 ([32]:Str)) λs_3=>
   Option.bind (strings_Contains l s_3) λr_4=>
   some (r_4.1,())
  else
   some (false,())
 else
  some (false,()))=some (zcb l s,()):=by
 have c1:strings_Contains s ([32]:Str)=some (s.contains 32,()):=by
   simp only[strings_Contains,zcR,show s.length<4294967281 by omega,yB,zjx,zp3]
 have c2: ∀t,strings_Contains l t=some (Lib.contains l t,()):=λt=>by
   simp only[strings_Contains,zcR,show l.length<4294967281 by omega,yB,zjx]
 have c3:zh9 ([32]:Str) s=some (32::s):=zoF (by simp;omega)
 have c4:zh9 (32::s) ([32]:Str)=some (32::(s++[32])):=zoF (by simp;omega)
 simp only[c1,c2,c3,c4,qz1,zcb];cases s==([]:Str)<;>cases s.contains 32<;>simp
theorem zos(l s:Str)(hl:l.length<=1000000000)(hs:s.length<=1000000000):zgS l s=some (zcb l s,()):=zCW l s hl hs
theorem zxR(l s:Str)(hl:l.length<=1000000000)(hs:s.length<=1000000000):zfP l s=some (zcb l s,()):=zCW l s hl hs
def zOG:Str:=[32,98,114,101,97,107,32,99,97,115,101,32,99,97,116,99,104,32,99,108,97,115,115,32,99,111,110,115,116,32,99,111,110,116,105,110,117,101,32,100,101,98,117,103,103,101,114,32,100,101,102,97,117,108,116,32,100,101,108,101,116,101,32,100,111,32,101,108,115,101,32,101,110,117,109,32,101,120,112,111,114,116,32,101,120,116,101,110,100,115,32,102,97,108,115,101,32,102,105,110,97,108,108,121,32,102,111,114,32,102,117,110,99,116,105,111,110,32,105,102,32,105,109,112,108,101,109,101,110,116,115,32,105,109,112,111,114,116,32,105,110,32,105,110,115,116,97,110,99,101,111,102,32,105,110,116,101,114,102,97,99,101,32,108,101,116,32,110,101,119,32,110,117,108,108,32,112,97,99,107,97,103,101,32,112,114,105,118,97,116,101,32,112,114,111,116,101,99,116,101,100,32,112,117,98,108,105,99,32,114,101,116,117,114,110,32,115,116,97,116,105,99,32,115,117,112,101,114,32,115,119,105,116,99,104,32,116,104,105,115,32,116,104,114,111,119,32,116,114,117,101,32,116,114,121,32,116,121,112,101,111,102,32,118,97,114,32,118,111,105,100,32,119,104,105,108,101,32,119,105,116,104,32,121,105,101,108,100,32]
def zwg(s:Str):Bool:=zcb zOG s
theorem ztA(s:Str)(hs:s.length<=1000000000):znI s=some (zwg s,()):=by
 show Option.bind (zgS zOG s) _=_;rw[zos _ _ (by decide) hs];rfl
def zbU(s:Str):Bool:=zfD s&& !zwg s
theorem zvr(s:Str)(hs:s.length<=1000000000):zim s=some (zbU s,()):=by
 unfold zim zbU;simp only[zrk s hs,ztA s hs,qz1];cases zfD s<;>rfl
theorem zCL(l:List Str)(hl:l.length<=1000000000)(hs: ∀s∈l,s.length<=1000000000): ∀(r:List Str) (i:Nat),l.drop i=r->
   ∃k:Int,zaF zdk (r.length+1) (l,((l.length:Nat):Int),(i:Int),())=some (k,())/\(decide (k>=0))= !(r.all zbU)
 | [],i,hr=>by
   have hi: ¬((i:Int)< (l.length:Int)):=by
    have:=congrArg List.length hr;simp at this;omega
   refine⟨-1,zaL ?_,rfl⟩;simp only[zdk,hi,decide_false,qz2,yA]
 |s::r,i,hr=>by
   obtain⟨h1,h2,h3⟩:=zh7 hr;have hi:((i:Int)< (l.length:Int)):=by omega
   have hm:s∈l:=List.mem_of_mem_drop (hr▸qz7);have e:zqT s=some (!zbU s,()):=by simp only[zqT,zvr s (hs s hm),qz1]
   cases hn:zbU s with
   |true=>
    obtain⟨k,h4,h5⟩:=zCL l hl hs r (i+1) h2;refine⟨k,?_,by rw[h5,List.all_cons,hn,Bool.true_and]⟩
    have:zdk (l,((l.length:Nat):Int),(i:Int),())=some (.inl (l,((l.length:Nat):Int),((i+1:Nat):Int),())):=by
     simp only[zdk,hi,decide_true,yB,h1,qz1,e,hn,yO,qz2,yA];rw[wrap_i64 (by omega) (by omega)];rfl
    rw[qz3,zbV this,h4]
   |false=>
    refine⟨i,zaL ?_,by rw[List.all_cons,hn];simp⟩
    simp only[zdk,hi,decide_true,yB,h1,qz1,e,hn,yN]
theorem zt9(l:List Str)(hl:l.length<=1000000000)(hs: ∀s∈l,s.length<=1000000000):slices_ContainsFunc l=some (!(l.all zbU),()):=by
 obtain⟨k,h1,h2⟩:=zCL l hl hs l 0 rfl;have:slices_IndexFunc l=some (k,()):=zdy (n:=l.length+1) (by simpa using h1) (by omega);simp only[slices_ContainsFunc,this,qz1,h2]
/-! ### units -/
def zhu(s:Str):Bool:=s.length%2==0
theorem zvf(s:Str)(hs:s.length<=1000000000):zlY s=some (zhu s,()):=by
 have h:(BitVec.ofInt 64 ((s.length:Nat):Int)&&&BitVec.ofInt 64 1).toNat=s.length%2:=by
   rw[BitVec.toNat_and]
   have h1:(BitVec.ofInt 64 ((s.length:Nat):Int)).toNat=s.length:=by
    rw[BitVec.toNat_ofInt];omega
   have h2:(BitVec.ofInt 64 1).toNat=1:=rfl;rw[h1,h2,Nat.and_one_is_mod]
 unfold zlY zhu;simp only[h];rw[wrap_i64 (by omega) (by omega)];congr 2;rw[Bool.eq_iff_iff,beq_iff_eq,beq_iff_eq];omega
/-! ### forms -/
theorem zCx: ∀s:Str,Lib.index s [42]=if s.contains 42 then(((s.takeWhile (· !=42)).length:Nat):Int)else -1
 | []=>by decide
 |b::l=>by
   rw[Lib.index,zCx l];by_cases hb:b=42
   ·subst hb;simp[List.isPrefixOf]
   ·have h1:([42]:Str).isPrefixOf (b::l)=false:=by simp[List.isPrefixOf];exact λe=>hb e.symm
    have h2:(b::l).contains 42=l.contains 42:=by
     rw[List.contains_cons];have:((42:UInt8)==b)=false:=by rw[yH];exact λe=>hb e.symm
     rw[this,Bool.false_or]
    have h3:(b !=42)=true:=by simpa using hb
    rw[h1,h2,List.takeWhile_cons,h3];cases l.contains 42 with
    |true=>
     have:((((l.takeWhile (· !=42)).length:Nat):Int)== -1)=false:=by rw[yH];omega
     simp[this]
    |false=>simp
end Go.D08
namespace Go.D08.U
open Go Go.Gw Go.Dn Go.Proofs
set_option maxRecDepth 100000
theorem zen(x:zaa):zdW x=x:=by cases x;rfl
theorem zGU(x:zu):zBR x=x:=by cases x;rfl
theorem zee(a b:Str):strings_HasPrefix a b=some (b.isPrefixOf a,()):=rfl
theorem zJ6(s:Str)(h:s.length<=1000000000):strings_IndexAny s [10,13]=some (Lib.indexAny s [10,13],()):=by
 unfold strings_IndexAny zeq;rw[yL ⟨by omega,rfl⟩];rfl
theorem zEG(s:Str)(h:s.length<=1000000000):strings_ContainsAny s [10,13]=some (s.any zcm,()):=by
 unfold strings_ContainsAny zdz;rw[yL ⟨by omega,rfl⟩,zEk];rfl
theorem zNe(s t:Str)(h:s.length<=1000000000):strings_Index s t=some (Lib.index s t,()):=by
 unfold strings_Index zf8;rw[yL (by omega)];rfl
theorem zz7(s t:Str)(h:s.length<=1000000000):strings_Contains s t=some (Lib.contains s t,()):=by
 unfold strings_Contains zcR;rw[yL (by omega)];rfl
theorem zh0(c:UInt8)(r:Str):zaZ (c::r) 0=some ((c.toNat:Nat):Int):=rfl
theorem zM8(src s:Str)(f:Bool)(n:Nat)(hn:n<=s.length)(hs:s.length<=1000000000):zcx (n:Int) ⟨src,s,f⟩=some (.inl (⟨src,s.drop n,f||(s.take n).any zcm⟩,())):=by
 unfold zcx;have e1:=zc8 s n hn
 have e2:zaI s 0 (n:Int)=some (s.take n):=by
  have:=zkz s 0 n (by omega) hn;simpa using this
 have e3:=zEG (s.take n) (by simp only[List.length_take];omega)
 cases f with
 |true=>simp only[yB,e1,qz1,Bool.true_or]
 |false=>simp only[qz2,yA,e1,e2,e3,qz1,Bool.false_or]
def zWJ(src:Str)(p:Str×Bool×Bool):Bool×zaa×Unit:=(p.2.2,⟨src,p.1,p.2.1⟩,())
theorem zlW(src:Str): ∀(m:Nat) (s:Str) (f:Bool),s.length<m->s.length<=1000000000->zaF zaw m (⟨src,s,f⟩,())=some (zWJ src (zaW m s f))
 |0,s,f,h,_=>by omega
 |m+1,[],f,_,_=>zaL rfl
 |m+1,c::r,f,hm,hs=>by
  simp only[qz3]at hm;have hr:r.length<=1000000000:=by simp only[qz3]at hs;omega
  have cn:(!((c::r)==([]:Str)))=true:=rfl;have hj4:=zM8 src (c::r) f;rw[zaW];by_cases h1:zcm c=true
  ·rw[yL h1]
   have hc:c=10\/c=13:=by
    unfold zcm at h1;simpa using h1
   have hstep:zaw (⟨src,c::r,f⟩,())=some (.inl (⟨src,r,true⟩,())):=by
    have hj:=hj4 1 (by simp) hs;have e:(f||(((c::r).take 1).any zcm))=true:=by simp[h1]
    rw[e]at hj;rcases hc with rfl|rfl
    ·simp only[zaw,zee,zen,cn,yB,zh0];exact hj
    ·simp only[zaw,zee,zen,cn,yB,zh0];exact hj
   rw[zbV hstep];exact zlW src m r true (by omega) hr
  ·have h1':zcm c=false:=by simpa using h1
   rw[yK h1];by_cases h2:c=32\/c=9\/c=11\/c=12
   ·rw[yL h2]
    have hstep:zaw (⟨src,c::r,f⟩,())=some (.inl (⟨src,r,f⟩,())):=by
     have hj:=hj4 1 (by simp) hs;have e:(f||(((c::r).take 1).any zcm))=f:=by simp[h1']
     rw[e]at hj;rcases h2 with rfl|rfl|rfl|rfl
     ·simp only[zaw,zee,zen,cn,yB,zh0];exact hj
     ·simp only[zaw,zee,zen,cn,yB,zh0];exact hj
     ·simp only[zaw,zee,zen,cn,yB,zh0];exact hj
     ·simp only[zaw,zee,zen,cn,yB,zh0];exact hj
    rw[zbV hstep];exact zlW src m r f (by omega) hr
   ·rw[yK h2];by_cases h3:([47,47]:Str).isPrefixOf (c::r)=true
    ·rw[yL h3]
     have hc:c=47:=by
      simp only[List.isPrefixOf,qz4,beq_iff_eq]at h3;exact h3.1.symm
     have hdw:(c::r).dropWhile (λx=> !zcm x)=r.dropWhile (λx=> !zcm x):=by
      rw[List.dropWhile_cons,yL (by simp[h1'])]
     have hlen:=zjD (λx=> !zcm x) r
     have hstep:zaw (⟨src,c::r,f⟩,())=some (.inl (⟨src,(c::r).dropWhile (λx=> !zcm x),f⟩,())):=by
      simp only[zaw,zee,zen,cn,yB,h3,qz1,zJ6 _ hs];rcases zug (c::r)with⟨g1,g2,g3⟩| ⟨i,g1,g2,g3,g4,g5⟩
      ·rw[g2,g3];have hj:=hj4 (c::r).length (yJ _) hs;rw[List.drop_length,List.take_length,g1,Bool.or_false]at hj;simpa using hj
      ·have hj:=hj4 i g2 hs;rw[g4,g5,Bool.or_false]at hj;have cneg: ¬((i:Int)<0):=by omega
       rw[g1];simp only[cneg,decide_false,qz2,yA];exact hj
     rw[zbV hstep];exact zlW src m _ f (by rw[hdw];omega) (by rw[hdw];omega)
    ·have h3':([47,47]:Str).isPrefixOf (c::r)=false:=by rw[<-Bool.not_eq_true];exact h3
     rw[yK h3];by_cases h4:([47,42]:Str).isPrefixOf (c::r)=true
     ·rw[yL h4];cases r with
      |nil=>simp[List.isPrefixOf]at h4
      |cons d r=>
       simp only[List.isPrefixOf,Bool.and_true,qz4,beq_iff_eq]at h4;obtain⟨rfl,rfl⟩:=h4;have hdrop:((47::42::r:Str)).drop 2=r:=rfl;rw[hdrop]
       have hcut:zaI (47::42::r:Str) 2 (((47::42::r:Str).length:Nat):Int)=some r:=by
        have:=zc8 (47::42::r:Str) 2 (by simp);exact this
       have hpre:List.isPrefixOf [47,42] (47::42::r:Str)=true:=rfl;have hri:=zNe r [42,47] (by simp only[qz3]at hr;omega)
       cases he:zj7 r with
       |none=>
        refine zaL ?_;simp only[zaw,zee,zen,cn,yB,h3',hpre,qz1,qz2,yA,hcut,hri];rw[zxc,he];rfl
       |some n=>
        have hle:=zD4 r n he
        have hstep:zaw (⟨src,47::42::r,f⟩,())=some (.inl (⟨src,(47::42::r:Str).drop (n+4),f||(r.take n).any zcm⟩,())):=by
         simp only[zaw,zee,zen,cn,yB,h3',hpre,qz1,qz2,yA,hcut,hri];rw[zxc,he];have cneg: ¬(((n:Nat):Int)<0):=by omega
         have w:IntKind.wrap .i64 ((n:Int)+4)=((n+4:Nat):Int):=by rw[wrap_i64 (by omega) (by simp only[qz3]at hr;omega)];omega
         simp only[cneg,decide_false,qz2,yA,w];have hj:=hj4 (n+4) (by simp only[qz3];omega) hs
         rw[zM3 r n he]at hj;exact hj
        rw[zbV hstep];simp only[qz3]at hm;have hlt:((47::42::r:Str).drop (n+4)).length<=r.length:=by simp only[List.length_drop,qz3];omega
        exact zlW src m _ _ (by omega) (by simp only[qz3]at hr;omega)
     ·have h4':([47,42]:Str).isPrefixOf (c::r)=false:=by rw[<-Bool.not_eq_true];exact h4
      rw[yK h4];refine zaL ?_;have ho:=zOy ⟨c.toNat,c.toNat_lt⟩;rw[show UInt8.ofNat (⟨c.toNat,c.toNat_lt⟩:Fin 256).val=c by simp]at ho;obtain⟨o1,o2⟩:=ho h1' h2;simp only at o1 o2;have b32:((((c.toNat:Nat):Int)) !=32)=true:=by rw[bne_iff_ne];omega
      simp only[zaw,zee,zen,cn,yB,h3',h4',qz1,qz2,yA,zh0,b32];by_cases o3:c.toNat<9
      ·have d:(((c.toNat:Nat):Int)<9):=by omega
       simp only[d,decide_true,yB];rfl
      ·have d: ¬(((c.toNat:Nat):Int)<9):=by omega
       have d2:(((c.toNat:Nat):Int)>13):=by omega
       simp only[d,d2,decide_true,decide_false,qz2,yA,yB];rfl
theorem zCp(cc:zaa)(hs:cc.rest.length<=1000000000):zht cc=
  some ((zaW (cc.rest.length+1) cc.rest false).2.2,⟨cc.src,(zaW (cc.rest.length+1) cc.rest false).1,(zaW (cc.rest.length+1) cc.rest false).2.1⟩,()):=by
 unfold zht;exact zdy (n:=cc.rest.length+1) (zlW cc.src (cc.rest.length+1) cc.rest false (by omega) hs) (by omega)
theorem ofN(c:UInt8):UInt8.ofNat c.toNat=c:=by simp
theorem wrap_succ{k:Nat}(h:k<1000000000000):IntKind.wrap .i64 ((k:Int)+1)=((k+1:Nat):Int):=by rw[wrap_i64 (by omega) (by omega)];omega
abbrev PuS:=Int×Bool×Str×Int×Int×Bool×Int×(List UInt8)×Int×Int×Unit
abbrev puS(o:Nat)(s0:Str)(cut:Int)(mx a:Nat)(t:Str)(i:Nat):PuS:=((o:Int),false,s0,cut,(mx:Int),false,(a:Int),t,((t.length:Nat):Int),(i:Int),())
def puQ(o mx:Nat)(s0:Str)(cut:Int)(t:Str)(a i:Nat)(d:Option Nat):Option (PuS⊕(Int×zad×Unit)):=
 match d with
 |none=>some (.inr (0,.code 156 2,()))
 |some d=>if d<o then(if a*o+d<=mx then some (.inl (puS o s0 cut mx (a*o+d) t (i+1)))else some (.inr ((mx:Int),.code 156 1,())))else some (.inr (0,.code 156 2,()))
theorem zOw(o mx a i d:Nat)(ho:o=10\/o=16)(hm:mx<=9007199254740991)(s0 t:Str)(cut:Int)(hx:9007199254740992<=cut)(ha:a<=mx)(hi:i<1000000000000)(hd:d<256):
  zc4 (o:Int) false s0 cut (mx:Int) false (a:Int) (d:Int) t ((t.length:Nat):Int) (i:Int)=puQ o mx s0 cut t a i (some d):=by
 unfold zc4 zgc zgd zgo zgl puQ;have wo:IntKind.wrap .u8 (o:Int)=(o:Int):=wrap_u8 (by omega) (by omega);have wo2:IntKind.wrap .u64 (o:Int)=(o:Int):=wrap_u64 (by omega) (by omega);have wd:IntKind.wrap .u64 (d:Int)=(d:Int):=wrap_u64 (by omega) (by omega);have hmul:a*o<=9007199254740991*16:=Nat.mul_le_mul (by omega) (by omega);have em:((a:Int)*(o:Int))=((a*o:Nat):Int):=by simp
 have wm:IntKind.wrap .u64 ((a:Int)*(o:Int))=((a*o:Nat):Int):=by rw[em];exact wrap_u64 (by omega) (by omega)
 have ws:IntKind.wrap .u64 (((a*o:Nat):Int)+(d:Int))=((a*o+d:Nat):Int):=by rw[wrap_u64 (by omega) (by omega)];omega
 simp only[wo,wo2,wd,wm,ws,wrap_succ hi];by_cases h1:d<o
 ·have c1: ¬((d:Int)>=(o:Int)):=by omega
  have c2: ¬((a:Int)>=cut):=by omega
  have c3: ¬(((a*o+d:Nat):Int)< ((a*o:Nat):Int)):=by omega
  simp only[c1,c2,c3,h1,decide_false,qz2,yA,yB,Bool.false_or];by_cases h2:a*o+d<=mx
  ·have c4: ¬(((a*o+d:Nat):Int)>(mx:Int)):=by omega
   simp only[c4,h2,decide_false,qz2,yA,yB]
  ·have c4:(((a*o+d:Nat):Int)>(mx:Int)):=by omega
   simp only[c4,h2,decide_true,yA,yB]
 ·have c1:((d:Int)>=(o:Int)):=by omega
  simp only[c1,h1,decide_true,yB,yA]
theorem zSO(o mx a i:Nat)(ho:o=10\/o=16)(hm:mx<=9007199254740991)(s0 t:Str)(c:UInt8)(hc:t[i]? =some c)(cut:Int)(hx:9007199254740992<=cut)(ha:a<=mx)(hi:i<1000000000000):
  zbg (puS o s0 cut mx a t i)=puQ o mx s0 cut t a i (hexV c):=by
 have hlt:i<t.length:=(qz0 hc).1;unfold zbg;have c1:((i:Int)< ((t.length:Nat):Int)):=by omega
 obtain⟨f1,f2,f3⟩:=zPp ⟨c.toNat,c.toNat_lt⟩;rw[ofN]at f1 f2 f3;simp only at f1 f2 f3;simp only[c1,decide_true,yB,zji,hc,qz1,Bool.and_false,qz2,yA,zNZ];by_cases g1:48<=c.toNat/\c.toNat<=57
 ·have d1:((48:Int)<=((c.toNat:Nat):Int)):=by omega
  have d2:(((c.toNat:Nat):Int)<=57):=by omega
  have w:IntKind.wrap .u8 (((c.toNat:Nat):Int) -48)=((c.toNat -48:Nat):Int):=by rw[wrap_u8 (by omega) (by omega)];omega
  simp only[d1,d2,decide_true,Bool.and_self,yB,w];rw[zOw o mx a i _ ho hm s0 t cut hx ha hi (by omega),f1 g1]
 ·have d1:((decide ((48:Int)<=((c.toNat:Nat):Int)))&&(decide (((c.toNat:Nat):Int)<=57)))=false:=by
   rw[<-Bool.not_eq_true,qz4,yT,yT];omega
  simp only[d1,qz2,yA];have hlow:zif c.toNat<256:=by unfold zif;exact(BitVec.ofNat 8 c.toNat|||32#8).isLt
  by_cases g2:97<=zif c.toNat
  ·have e2:((97:Int)<=((zif c.toNat:Nat):Int)):=by omega
   simp only[e2,decide_true,yB];by_cases g3:zif c.toNat<=122
   ·have e3:(((zif c.toNat:Nat):Int)<=122):=by omega
    have w1:IntKind.wrap .u8 (((zif c.toNat:Nat):Int) -97)=((zif c.toNat -97:Nat):Int):=by rw[wrap_u8 (by omega) (by omega)];omega
    have w2:IntKind.wrap .u8 (((zif c.toNat -97:Nat):Int)+10)=((zif c.toNat -87:Nat):Int):=by rw[wrap_u8 (by omega) (by omega)];omega
    simp only[e3,decide_true,yB,w1,w2];rw[zOw o mx a i _ ho hm s0 t cut hx ha hi (by omega),f2 g1 g2 g3];split
    ·rfl
    ·rename_i g4;unfold puQ;have: ¬(zif c.toNat -87<o):=by omega
     simp only[this,yA]
   ·have e3: ¬(((zif c.toNat:Nat):Int)<=122):=by omega
    simp only[e3,decide_false,qz2,yA];rw[f3 g1 (by omega)];rfl
  ·have e2: ¬((97:Int)<=((zif c.toNat:Nat):Int)):=by omega
   simp only[e2,decide_false,qz2,yA];rw[f3 g1 (by omega)];rfl
def okM(mx o:Nat)(t:Str)(a:Nat):Option Nat:=match zek o t a with
 |none=>none
 |some n=>if n<=mx then some n else none
def PuE(e:Int×zad×Unit)(q:Option Nat):Prop:=match q with
 |some r=>e=((r:Int),.nil,())
 |none=>∃v,e=(v,.code 156 2,())\/e=(v,.code 156 1,())
theorem zRH(o mx:Nat)(ho:o=10\/o=16)(hm:mx<=9007199254740991)(s0 t:Str)(ht:t.length<=1000000000)(cut:Int)(hx:9007199254740992<=cut): ∀(n i a:Nat),n+i=t.length->a<=mx->
  ∃e,zaF zbg (n+1) (puS o s0 cut mx a t i)=some e/\PuE e (okM mx o (t.drop i) a):=by
 intro n;induction n with
 |zero=>
  intro i a hi ha;have hd:t.drop i=[]:=List.drop_eq_nil_of_le (by omega);rw[hd];refine⟨((a:Int),.nil,()),zaL ?_,?_⟩
  ·unfold zbg;have c1: ¬((i:Int)< ((t.length:Nat):Int)):=by omega
   simp only[c1,decide_false,qz2,yA]
  ·unfold okM zek PuE;simp only[ha,yB]
 |succ n ih=>
  intro i a hi ha;have hlt:i<t.length:=by omega
  have hst:=zSO o mx a i ho hm s0 t t[i] (qz9 hlt) cut hx ha (by omega);rw[List.drop_eq_getElem_cons hlt];unfold okM zek;cases hv:hexV t[i]with
  |none=>
   rw[hv]at hst;exact⟨_,zaL hst,0,.inl rfl⟩
  |some d=>
   rw[hv]at hst;unfold puQ at hst;simp only at hst⊢;by_cases h1:d<o
   ·simp only[h1,yB]at hst⊢;by_cases h2:a*o+d<=mx
    ·simp only[h2,yB]at hst;rw[zbV hst];exact ih (i+1) (a*o+d) (by omega) h2
    ·simp only[h2,yA]at hst;refine⟨_,zaL hst,?_⟩;cases hp:zek o (t.drop (i+1)) (a*o+d)with
     |none=>exact⟨_,.inr rfl⟩
     |some r=>
      have:=zH1 (by omega) _ _ _ hp;have h3: ¬(r<=mx):=by omega
      simp only[h3,yA];exact⟨_,.inr rfl⟩
   ·simp only[h1,yA]at hst⊢;exact⟨_,zaL hst,0,.inl rfl⟩
theorem zFy(o b mx:Nat)(ho:o=10\/o=16)(hb:b=53/\mx=9007199254740991\/b=16/\mx=65535)(t:Str)(h0:t≠[])(ht:t.length<=1000000000):
  ∃v,za5 t (o:Int) (b:Int)=some (match okM mx o t 0 with|some r=>((r:Int),zad.nil,())|none=>(v,zad.opq,())):=by
 have key: ∃e,zfV t (o:Int) (b:Int)=some e/\PuE e (okM mx o t 0):=by
  have c:(t==([]:Str))=false:=by simpa using h0
  have sh:zBy .u64 1 (IntKind.wrap .u64 (b:Int))=some ((mx:Int)+1):=by
   rcases hb with⟨rfl,rfl⟩| ⟨rfl,rfl⟩<;>decide
  have wm:IntKind.wrap .u64 ((mx:Int)+1 -1)=(mx:Int):=by rw[wrap_u64 (by omega) (by omega)];omega
  have fin: ∀cut:Int,9007199254740992<=cut->∃e,Lp.loop zbg (puS o t cut mx 0 t 0)=some e/\PuE e (okM mx o t 0):=λcut hx=>by
   obtain⟨e,e1,e2⟩:=zRH o mx ho (by omega) t t ht cut hx t.length 0 0 (by omega) (by omega);rw[List.drop_zero]at e2;exact⟨e,zdy e1 (by omega),e2⟩
  unfold zfV zbE zge zej zgg zgj zgm
  have b1:((decide ((2:Int)<=(o:Int)))&&(decide ((o:Int)<=36)))=true:=by
   rw[decide_eq_true (by omega),decide_eq_true (by omega)];rfl
  have b2:((o:Int)==0)=false:=by rw[yH];omega
  have b3:((b:Int)==0)=false:=by rw[yH];omega
  have b4:((decide ((b:Int)<0))||(decide ((b:Int)>64)))=false:=by
   rw[decide_eq_false (by omega),decide_eq_false (by omega)];rfl
  simp only[c,b1,b2,b3,b4,qz2,yA,yB,sh,qz1,wm];rcases ho with rfl|rfl
  ·exact fin 1844674407370955162 (by decide)
  ·exact fin 1152921504606846976 (by decide)
 obtain⟨e,e1,e2⟩:=key;unfold za5 zh2;rw[e1,qz1];cases hk:okM mx o t 0 with
 |some r=>
  rw[hk]at e2;obtain rfl:e=((r:Int),.nil,()):=e2;exact⟨0,rfl⟩
 |none=>
  rw[hk]at e2;obtain⟨v,rfl|rfl⟩: ∃v,e=(v,.code 156 2,())\/e=(v,.code 156 1,()):=e2
  ·refine⟨v,?_⟩;simp only[zad.isNil,yN,yB];rw[yL ⟨by omega,by simp⟩];rfl
  ·refine⟨v,?_⟩;simp only[zad.isNil,yN,yB];rw[yL ⟨by omega,by simp⟩];rfl
theorem zM2(o:Nat)(ho:o=10\/o=16)(t:Str)(h0:t≠[])(ht:t.length<=1000000000):
  ∃v,za5 t (o:Int) 53=some (match okN o t 0 with|some r=>((r:Int),zad.nil,())|none=>(v,zad.opq,())):=
 zFy o 53 9007199254740991 ho (.inl ⟨rfl,rfl⟩) t h0 ht
theorem zDv: ∀(t:Str) (a n:Nat),hexN t.length t a=some n->zek 16 t a=some n
 | [],a,n,h=>h
 |c::r,a,n,h=>by
  rw[qz3]at h;unfold hexN at h;unfold zek;cases hv:hexV c with
  |none=>rw[hv]at h;cases h
  |some d=>
   rw[hv]at h;simp only at h⊢;rw[yL (zKS hv),Nat.mul_comm a 16];exact zDv r _ n h
theorem zwX(t:Str)(n:Nat)(h0:t≠[])(h1:t.length<=4)(h2:hexN t.length t 0=some n):za5 t 16 16=some ((n:Int),.nil,()):=by
 obtain⟨v,hv⟩:=zFy 16 16 65535 (.inr rfl) (.inr ⟨rfl,rfl⟩) t h0 (by omega);have hl:=zvR _ _ _ _ h2;have hp:16^t.length<=16^4:=Nat.pow_le_pow_right (by omega) h1
 have hn:n<=65535:=by
  have h4:(16:Nat)^4=65536:=by decide
  omega
 have hv:za5 t 16 16=_:=hv;rw[hv];unfold okM;rw[zDv t 0 n h2];simp only[hn,yB]
theorem zjz(n:Nat)(h:n<65536):ze3 (n:Int)=some (enc1 n,()):=by
 have e1:Int.fdiv (n:Int) (2^8)=((n/256:Nat):Int):=by rw[Int.fdiv_eq_ediv_of_nonneg _ (by omega)];rfl
 have w1:IntKind.wrap .u8 ((n/256:Nat):Int)=((n/256:Nat):Int):=wrap_u8 (by omega) (by omega);have w2:IntKind.wrap .u8 (n:Int)=((n%256:Nat):Int):=by rw[zBg];omega
 have t1:toB ((n/256:Nat):Int)=some (UInt8.ofNat (n/256)):=by unfold toB;rw[yL (by omega)];rfl
 have t2:toB ((n%256:Nat):Int)=some (UInt8.ofNat (n%256)):=by unfold toB;rw[yL (by omega)];rfl
 unfold ze3;simp only[e1,w1,w2,t1,t2,qz1];rfl
theorem zpV(x s2 l:Str)(h:l.length+x.length<=274877906944):zaH x s2 l=some (((x.length:Nat):Int),zad.nil,s2,l++x,()):=by
 unfold zaH;rw[zd6 (by omega)];rfl
theorem zFj(s:Str)(acc:List Nat)(k:Nat)(hk:k=2\/k=4)(hs:s.length<=100000000)(ha:acc.length<=100000000):
  ∃r,zdj (k:Int) s (zeJ acc)=some r/\(match hexN k s 0 with
   |none=>r.1=false
   |some n=>r=(true,s.drop k,zeJ (acc++[n]),())):=by
 unfold zdj;by_cases hl:s.length<k
 ·have c:((((s.length:Nat):Int))< (k:Int)):=by omega
  simp only[c,decide_true,yB];refine⟨_,rfl,?_⟩;cases hn:hexN k s 0 with
  |none=>rfl
  |some n=>have:=zwu _ _ _ _ hn;omega
 ·have c: ¬((((s.length:Nat):Int))< (k:Int)):=by omega
  have hcut:zaI s 0 (k:Int)=some (s.take k):=by
   have:=zkz s 0 k (by omega) (by omega);simpa using this
  have hlen:(s.take k).length=k:=by rw[List.length_take];omega
  have htrim:znp (s.take k) ([48,49,50,51,52,53,54,55,56,57,97,98,99,100,101,102,65,66,67,68,69,70]:Str)=some (Lib.trimS (s.take k) zGo,()):=by
   unfold znp zgX;rw[yL ⟨by omega,by decide,by decide⟩];rfl
  have hsome:=zBq (s.take k) 0;rw[hlen,zzl k s 0 (by omega)]at hsome;simp only[c,decide_false,qz2,yA,hcut,qz1,htrim,zNq,<-hsome];cases hn:hexN k s 0 with
  |none=>exact⟨_,rfl,rfl⟩
  |some n=>
   have hparse:=zwX (s.take k) n (by intro h;rw[h]at hlen;simp at hlen;omega) (by omega) (by rw[hlen,zzl k s 0 (by omega)];exact hn)
   have hp2:za5 (s.take k) 16 16=some ((n:Int),zad.nil,()):=hparse
   have hn2:n<65536:=by
    have:=zvR _ _ _ _ hn;rcases hk with rfl|rfl<;>omega
   have hend:=zc8 s k (by omega);have w:IntKind.wrap .i64 (n:Int)=(n:Int):=wrap_i64 (by omega) (by omega);have hbw:=zpV (enc1 n) (s.drop k) (zeJ acc) (by simp only[zoP];simp[enc1];omega)
   simp only[Option.isSome_some,yO,qz2,yA,hcut,qz1,hp2,hend,w,zjz n hn2,hbw];refine⟨_,rfl,?_⟩;simp[zeJ]
theorem zS3: ∀b:Fin 256,strings_IndexByte ([110,116,114,98,102,118]:Str) ((b.val:Nat):Int)=some (if b.val=110 then 0 else if b.val=116 then 1 else if b.val=114 then 2 else if b.val=98 then 3 else if b.val=102 then 4 else if b.val=118 then 5 else -1,()):=by decide+kernel
theorem zPa(b:UInt8):strings_IndexByte ([110,116,114,98,102,118]:Str) ((b.toNat:Nat):Int)=some (if b.toNat=110 then 0 else if b.toNat=116 then 1 else if b.toNat=114 then 2 else if b.toNat=98 then 3 else if b.toNat=102 then 4 else if b.toNat=118 then 5 else -1,()):=zS3 ⟨b.toNat,b.toNat_lt⟩
theorem zNg(s:Str)(acc:List Nat)(hs:s.length<=100000000)(ha:acc.length<=100000000):
  ∃r,zfB s (zeJ acc)=some r/\(match zmg s with
   |none=>r.1=false
   |some (us,k)=>r=(true,s.drop k,zeJ (acc++us),())):=by
 unfold zfB;cases s with
 |nil=>exact⟨_,rfl,rfl⟩
 |cons c r=>
  have hb:=c.toNat_lt;have g0:zaZ (c::r) 0=some ((c.toNat:Nat):Int):=rfl
  have hcut:zaI (c::r) 1 (((c::r).length:Nat):Int)=some r:=by
   have:=zc8 (c::r) 1 (by simp);simpa using this
  have hr:r.length<=100000000:=by simp only[qz3]at hs;omega
  have write: ∀n:Nat,n<65536->zaH (enc1 n) r (zeJ acc)=some (2,.nil,r,zeJ (acc++[n]),()):=by
   intro n hn;rw[zpV _ _ _ (by simp only[zoP];simp[enc1];omega)]
   simp[zeJ,enc1]
  have wi: ∀n:Nat,n<65536->IntKind.wrap .i64 (n:Int)=(n:Int):=λn hn=>wrap_i64 (by omega) (by omega)
  have c0:((c::r:Str)==([]:Str))=false:=rfl;simp only[c0,qz2,yA,g0,qz1,hcut,zPa];have tn: ∀n:Nat,n<256->(c=UInt8.ofNat n↔c.toNat=n):=ztk c
  have spec:zmg (c::r)=if c.toNat=10 then some ([],1)else if c.toNat=48 then(match r with
   | []=>some ([0],1)
   |d::_=>if 48<=d.toNat/\d.toNat<=57 then none else some ([0],1))
   else if c.toNat=120 then(hexN 2 r 0).map λn=>([n],3)
   else if c.toNat=117 then(hexN 4 r 0).map λn=>([n],5)
   else(zmo c).map λn=>([n],1):=by
   simp only[zmg,<-tn 10 (by omega),<-tn 48 (by omega),<-tn 120 (by omega),<-tn 117 (by omega)];rfl
  have simp':zmo c=if c.toNat=110 then some 10 else if c.toNat=116 then some 9 else if c.toNat=114 then some 13 else if c.toNat=98 then some 8 else if c.toNat=102 then some 12 else if c.toNat=118 then some 11
    else if c.toNat>127\/c.toNat=13\/c.toNat=120\/c.toNat=117\/(48<=c.toNat/\c.toNat<=57)\/c.toNat=10 then none else some c.toNat:=by
   simp only[zmo,<-tn 110 (by omega),<-tn 116 (by omega),<-tn 114 (by omega),<-tn 98 (by omega),<-tn 102 (by omega),<-tn 118 (by omega),<-tn 13 (by omega),<-tn 120 (by omega),<-tn 117 (by omega),<-tn 10 (by omega)];rfl
  rw[spec,simp'];clear spec simp' tn;generalize hk:c.toNat=k at*
  have small: ∀(j m:Nat) (v:Int),v=(j:Int)->([10,9,13,8,12,11]:Str)[j]? =some (UInt8.ofNat m)->m<256->
    ∃r0,(if decide (v>=0)=true then
     Option.bind (zaZ ([10,9,13,8,12,11]:Str) v) λv7=>
     Option.bind (ze3 (IntKind.wrap .i64 v7)) λv8=>
     Option.bind (zaH v8.1 r (zeJ acc)) λv9=>
     some (true,v9.2.2.1,v9.2.2.2.1,())else none)=some r0/\r0=(true,(c::r).drop 1,zeJ (acc++[m]),()):=by
   intro j m v hv hj hm;subst hv;have cc:((j:Int)>=0):=by omega
   have e:(UInt8.ofNat m).toNat=m:=by simp[UInt8.toNat_ofNat'];omega
   simp only[cc,decide_true,yB,zmk,hj,Option.map_some,qz1,e,wi m (by omega),zjz m (by omega),write m (by omega)];exact⟨_,rfl,rfl⟩
  by_cases h110:k=110
  ·subst h110;simpa using small 0 10 0 rfl rfl (by omega)
  by_cases h116:k=116
  ·subst h116;simpa using small 1 9 1 rfl rfl (by omega)
  by_cases h114:k=114
  ·subst h114;simpa using small 2 13 2 rfl rfl (by omega)
  by_cases h98:k=98
  ·subst h98;simpa using small 3 8 3 rfl rfl (by omega)
  by_cases h102:k=102
  ·subst h102;simpa using small 4 12 4 rfl rfl (by omega)
  by_cases h118:k=118
  ·subst h118;simpa using small 5 11 5 rfl rfl (by omega)
  have m1: ¬((-1:Int)>=0):=by decide
  simp only[h110,h116,h114,h98,h102,h118,yA,m1,decide_false,qz2];have cc: ∀m:Nat,((k:Int)==((m:Nat):Int))=decide (k=m):=λm=>zoX k m
  have c10:((k:Int)==10)=decide (k=10):=cc 10;have c120:((k:Int)==120)=decide (k=120):=cc 120;have c117:((k:Int)==117)=decide (k=117):=cc 117;have c48:((k:Int)==48)=decide (k=48):=cc 48;have c13:((k:Int)==13)=decide (k=13):=cc 13;simp only[c10,c120,c117,c48,c13,yT];by_cases h10:k=10
  ·rw[yL h10,yL h10];exact⟨_,rfl,by simp⟩
  rw[yK h10,yK h10];by_cases h120:k=120
  ·have h48: ¬k=48:=by omega
   rw[yL h120,yK h48,yL h120];obtain⟨x,e1,e2⟩:=zFj r acc 2 (.inl rfl) hr ha;have e1':zdj 2 r (zeJ acc)=some x:=e1;rw[e1'];refine⟨_,rfl,?_⟩;cases hn:hexN 2 r 0 with
   |none=>rw[hn]at e2;exact e2
   |some n=>rw[hn]at e2;simp only at e2;subst e2;simp
  rw[yK h120];by_cases h117:k=117
  ·have h48: ¬k=48:=by omega
   rw[yL h117,yK h48,yK h120,yL h117];obtain⟨x,e1,e2⟩:=zFj r acc 4 (.inr rfl) hr ha;have e1':zdj 4 r (zeJ acc)=some x:=e1;rw[e1'];refine⟨_,rfl,?_⟩;cases hn:hexN 4 r 0 with
   |none=>rw[hn]at e2;exact e2
   |some n=>rw[hn]at e2;simp only at e2;subst e2;simp
  rw[yK h117];by_cases h48:k=48
  ·rw[yL h48,yL h48];have w0:=write 0 (by omega);have u0:ze3 0=some (enc1 0,()):=zjz 0 (by omega);simp only[u0,qz1,w0];cases r with
   |nil=>exact⟨_,rfl,by simp⟩
   |cons d r'=>
    have gd0:zaZ (d::r') 0=some ((d.toNat:Nat):Int):=rfl;have cn:((d::r':Str)==([]:Str))=false:=rfl;simp only[cn,qz2,yA,gd0,qz1];by_cases hd1:d.toNat<48
    ·have cd:((d.toNat:Nat):Int)<48:=by omega
     have cd2: ¬(48<=d.toNat/\d.toNat<=57):=by omega
     simp only[cd,decide_true,yB,cd2,yA];exact⟨_,rfl,by simp⟩
    ·have cd: ¬((d.toNat:Nat):Int)<48:=by omega
     simp only[cd,decide_false,qz2,yA];by_cases hd2:d.toNat<=57
     ·have cd2:(48<=d.toNat/\d.toNat<=57):=by omega
      have cd3: ¬((d.toNat:Nat):Int)>57:=by omega
      simp only[cd2,and_self,yB,cd3,decide_false];exact⟨_,rfl,by simp⟩
     ·have cd2: ¬(48<=d.toNat/\d.toNat<=57):=by omega
      have cd3:((d.toNat:Nat):Int)>57:=by omega
      simp only[cd2,yA,cd3,decide_true];exact⟨_,rfl,by simp⟩
  rw[yK h48,yK h48,yK h120,yK h117];by_cases hbad:k>127\/k=13\/k=120\/k=117\/(48<=k/\k<=57)\/k=10
  ·have cb:((decide (k=13)||(decide ((k:Int)>=49)&&decide ((k:Int)<=57)))||decide ((k:Int)>=128))=true:=by
    simp only[yQ,qz4,yT];omega
   rw[yL hbad,cb,yL rfl];exact⟨_,rfl,rfl⟩
  ·have cb:((decide (k=13)||(decide ((k:Int)>=49)&&decide ((k:Int)<=57)))||decide ((k:Int)>=128))=false:=by
    simp only[Bool.or_eq_false_iff,Bool.and_eq_false_iff,decide_eq_false_iff_not];omega
   rw[yK hbad,cb,yK (by simp)];simp only[wi k (by omega),zjz k (by omega),qz1,write k (by omega)];exact⟨_,rfl,by simp⟩
theorem zDF(q:UInt8)(s0:Str)(hs:(q::s0).length<=100000000): ∀(m:Nat) (rest:Str) (acc:List Nat),rest.length<m->rest.length<=s0.length->acc.length+rest.length<=100000000->okU acc->
  zaF zgp m (q::s0,rest,zeJ acc,())=some ((ztV q (q::s0) m rest acc).1,(ztV q (q::s0) m rest acc).2.1,(ztV q (q::s0) m rest acc).2.2,()):=by
 intro m;induction m with
 |zero=>intro rest acc h;omega
 |succ m ih=>
  intro rest acc h1 h2 h3 h4;cases rest with
  |nil=>exact zaL rfl
  |cons c r=>
   have hb:=c.toNat_lt;have g0:zaZ (c::r) 0=some ((c.toNat:Nat):Int):=rfl;have gq:zaZ (q::s0) 0=some ((q.toNat:Nat):Int):=rfl
   have hcut:zaI (c::r) 1 (((c::r).length:Nat):Int)=some r:=by
    have:=zc8 (c::r) 1 (by simp);simpa using this
   have c0:((c::r:Str)==([]:Str))=false:=rfl;have hq:((((c.toNat:Nat):Int))==((q.toNat:Nat):Int))=decide (c=q):=by rw[zoX];simp[UInt8.toNat_inj]
   have u8b: ∀n:Nat,n<256->((((c.toNat:Nat):Int))==((n:Nat):Int))=decide (c=UInt8.ofNat n):=λn h=>by
    rw[zoX,decide_eq_decide];exact(ztk _ n h).symm
   have e10:((((c.toNat:Nat):Int))==10)=decide (c=10):=u8b 10 (by omega);have e13:((((c.toNat:Nat):Int))==13)=decide (c=13):=u8b 13 (by omega);have e92:((((c.toNat:Nat):Int))==92)=decide (c=92):=u8b 92 (by omega);have b92:((((c.toNat:Nat):Int)) !=92)= !decide (c=92):=by unfold bne;rw[e92]
   have w:IntKind.wrap .i64 ((((q::s0).length:Nat):Int) - ((r.length:Nat):Int))=(((q::s0).length -r.length:Nat):Int):=by
    have:r.length<=(q::s0).length:=by simp only[qz3]at h2⊢;omega
    rw[wrap_i64 (by omega) (by omega)];omega
   have head:zgp (q::s0,c::r,zeJ acc,())=(if c=q then some (.inr (zeJ acc,(((q::s0).length -r.length:Nat):Int),0,()))
     else
      if(c=10\/c=13\/c.toNat>127)then some (.inr ([],0,10,()))
      else
       if c=92 then
        Option.bind (zfB r (zeJ acc)) λr_16=>
         if(!r_16.1)=true then some (Sum.inr (([]:Str),0,10,()))
         else some (Sum.inl (q::s0,r_16.2.1,r_16.2.2.1,()))
       else some (.inl (q::s0,r,zeJ (acc++[c.toNat]),()))):=by
    simp only[zgp,c0,yN,yB,g0,gq,hcut,qz1,zgY,hq,e10,e13,e92,b92,w];by_cases hcq:c=q
    ·simp only[hcq,decide_true,yB]
    ·simp only[hcq,decide_false,qz2,yA];by_cases hbad:c=10\/c=13\/c.toNat>127
     ·have cb:((decide (c=10)||decide (c=13))||decide (((c.toNat:Nat):Int)>=128))=true:=by
       simp only[yQ,yT];rcases hbad with h|h|h
       ·exact .inl (.inl h)
       ·exact .inl (.inr h)
       ·right;omega
      rw[cb,yL hbad];rfl
     ·have cb:((decide (c=10)||decide (c=13))||decide (((c.toNat:Nat):Int)>=128))=false:=by
       simp only[Bool.or_eq_false_iff,decide_eq_false_iff_not];refine⟨⟨λh=>hbad (.inl h),λh=>hbad (.inr (.inl h))⟩,λh=>hbad (.inr (.inr (by omega)))⟩
      rw[cb,yK hbad];simp only[qz2,yA];by_cases h92:c=92
      ·simp only[h92,decide_true,yB,yO,qz2,yA]
      ·have w2:IntKind.wrap .i64 ((c.toNat:Nat):Int)=((c.toNat:Nat):Int):=wrap_i64 (by omega) (by omega);have hw:=zpV (enc1 c.toNat) r (zeJ acc) (by simp only[zoP];simp[enc1];omega)
       simp only[h92,decide_false,qz2,yA,yN,yB,w2,zjz c.toNat (by omega),qz1,hw];simp[zeJ]
   by_cases hcq:c=q
   ·rw[yL hcq]at head;refine(zaL head).trans ?_;unfold ztV zeF;simp only[hcq,yB]
   ·rw[yK hcq]at head;by_cases hbad:c=10\/c=13\/c.toNat>127
    ·rw[yL hbad]at head;refine(zaL head).trans ?_;unfold ztV zeF;simp only[hcq,hbad,yB,yA]
    ·rw[yK hbad]at head;by_cases h92:c=92
     ·rw[yL h92]at head;obtain⟨x,e1,e2⟩:=zNg r acc (by simp only[qz3]at h3;omega) (by omega)
      rw[e1]at head;simp only[qz1]at head;cases hesc:zmg r with
      |none=>
       rw[hesc]at e2;simp only at e2;rw[e2]at head;refine(zaL head).trans ?_;unfold ztV zeF;rw[yK hcq,yK hbad,yL h92,hesc]
      |some p=>
       obtain⟨us,k⟩:=p;rw[hesc]at e2;simp only at e2;obtain⟨p1,p2,p3,p4⟩:=zFs hesc;subst e2;have hgo:zgp (q::s0,c::r,zeJ acc,())=some (.inl (q::s0,r.drop k,zeJ (acc++us),())):=head
       have hacc:okU (acc++us):=by
        intro n hn;rcases List.mem_append.mp hn with h|h
        · exact h4 n h
        · exact p1 n h
       simp only[qz3]at h1 h2 h3;have g1:=ih (r.drop k) (acc++us) (by simp;omega) (by simp;omega) (by simp;omega) hacc
       refine(zbV hgo).trans (g1.trans ?_);unfold ztV;conv=>rhs;unfold zeF
       rw[yK hcq,yK hbad,yL h92,hesc]
     ·rw[yK h92]at head
      have hacc:okU (acc++[c.toNat]):=by
       intro n hn;rcases List.mem_append.mp hn with h|h
       ·exact h4 n h
       ·simp at h;omega
      simp only[qz3]at h1 h2 h3;have g1:=ih r (acc++[c.toNat]) (by omega) (by omega) (by simp;omega) hacc
      refine(zbV head).trans (g1.trans ?_);unfold ztV;conv=>rhs;unfold zeF
      rw[yK hcq,yK hbad,yK h92]
theorem zF1(s:Str)(hs:s.length<=100000000):zqi s=some ((zdZ s).1,(zdZ s).2.1,(zdZ s).2.2,()):=by
 unfold zqi;cases s with
 |nil=>rfl
 |cons q s0=>
  have gq:zaZ (q::s0) 0=some ((q.toNat:Nat):Int):=rfl;have c0:((q::s0:Str)==([]:Str))=false:=rfl;have b39:(((q.toNat:Nat):Int) !=39)= !decide (q=39):=zOl q 39 (by omega);have b34:(((q.toNat:Nat):Int) !=34)= !decide (q=34):=zOl q 34 (by omega)
  have hcut:zaI (q::s0) 1 (((q::s0).length:Nat):Int)=some s0:=by
   have:=zc8 (q::s0) 1 (by simp);simpa using this
  simp only[c0,qz2,yA,gq,qz1,b39,b34,hcut]
  have good:(q=39\/q=34)->Lp.loop zgp (q::s0,s0,[],())=some ((zdZ (q::s0)).1,(zdZ (q::s0)).2.1,(zdZ (q::s0)).2.2,()):=by
   intro hq;have g1:=zDF q s0 hs (s0.length+1) s0 [] (by omega) (by omega) (by simp only[qz3]at hs;simp;omega) (by intro n hn;cases hn)
   have hfin:zdZ (q::s0)=ztV q (q::s0) (s0.length+1) s0 []:=by
    unfold zdZ ztV;simp only[hq,yB]
   rw[hfin];simp only[qz3]at hs;exact zdy g1 (by omega)
  by_cases h39:q=39
  ·have d39:decide (q=39)=true:=by rw[yT];exact h39
   simp only[d39,yO,qz2,yA,qz1];exact good (.inl h39)
  ·have d39:decide (q=39)=false:=by rw[decide_eq_false_iff_not];exact h39
   simp only[d39,yN,yB];by_cases h34:q=34
   ·have d34:decide (q=34)=true:=by rw[yT];exact h34
    simp only[d34,yO,qz1,qz2,yA];exact good (.inr h34)
   ·have d34:decide (q=34)=false:=by rw[decide_eq_false_iff_not];exact h34
    have:zdZ (q::s0)=([],0,10):=by
     unfold zdZ;simp only[h39,h34,or_self,yA]
    rw[this];simp only[d34,yN];rfl
theorem zR2(s:Str)(n:Nat)(c:UInt8)(h:s[n]? =some c):zaZ s (n:Int)=some ((c.toNat:Nat):Int):=by
 unfold zaZ;rw[yL (by omega)];simp[h]
theorem zEQ{α:Type}[BEq α][LawfulBEq α][DecidableEq α](a b:α):(a==b)=decide (a=b):=by
 rw[Bool.eq_iff_iff];simp
def zLX(o:Nat)(t:Str)(k:Int)(x:zaa):Int×Int×zaa×Unit:=match okN o t 0 with
 |some r=>((r:Int),k,x,())
 |none=>(0,0,x,())
theorem zFx(o:Nat)(ho:o=10\/o=16)(t:Str)(h0:t≠[])(ht:t.length<=1000000000)(k:Int)(x:zaa):(Option.bind (za5 t (o:Int) 53) λr_12=>
   if(!(r_12.2.1).isNil)=true then
    some ((0:Int),(0:Int),x,())
   else
    Option.bind (strings_Contains t ([95]:Str)) λr_13=>
    if r_13.1=true then
     some (0,0,x,())
    else
     some ((IntKind.wrap .i64 r_12.1),k,x,()))=some (zLX o t k x):=by
 obtain⟨v,hv⟩:=zM2 o ho t h0 ht;rw[hv];unfold zLX;cases hk:okN o t 0 with
 |none=>rfl
 |some r=>
   have hr:r<=9007199254740991/\zek o t 0=some r:=by
     unfold okN at hk;split at hk
     · cases hk
     · split at hk
       · rename_i h1 h2;cases hk;exact⟨h2,h1⟩
       · cases hk
   simp only[qz1,zad.isNil,yO,qz2,yA];rw[zz7 t [95] ht,zp3,zDJ t 0 r hr.2];simp only[qz1,qz2,yA];rw[wrap_i64 (by omega) (by omega)]
def zPz(o:Nat)(t:Str)(k:Int)(x:zaa):Int×Int×zaa×Unit:=match zek o t 0 with
 |some n=>if n<=9007199254740991 then((n:Int),k,x,())else(0,0,x,())
 |none=>(0,0,x,())
theorem zN3(o:Nat)(t:Str)(k:Int)(x:zaa):zLX o t k x=zPz o t k x:=by
 unfold zLX zPz okN;cases zek o t 0 with
 |none=>rfl
 |some n=>by_cases hm:n<=9007199254740991<;>simp only[hm,yB,yA]
theorem zJ7(ds:Str)(kk:Int)(x:zaa)(hdl:ds.length<=1000000000)(hz:ds=[]->kk=0):(Option.bind (
    if(decide (((ds.length:Nat):Int)>2))=true then
     Option.bind (zaI ds 0 2) λs_7=>
     Option.bind (
       if(s_7==([48,120]:Str))=true then
        some true
       else
        Option.bind (zaI ds 0 2) λs_8=>
        some (s_8==([48,88]:Str))) λb_9=>
     some b_9
    else
     some false) λb_10=>
  if b_10=true then
   Option.bind (zaI ds 2 ((ds.length:Nat):Int)) λs_11=>
   Option.bind (za5 s_11 16 53) λr_12=>
   if(!(r_12.2.1).isNil)=true then
    some (0,0,x,())
   else
    Option.bind (strings_Contains s_11 ([95]:Str)) λr_13=>
    if r_13.1=true then
     some (0,0,x,())
    else
     some ((IntKind.wrap .i64 r_12.1),kk,x,())
  else
   Option.bind (
     if(decide (((ds.length:Nat):Int)>1))=true then
      Option.bind (zaZ ds 0) λc_15=>
      some (c_15==48)
     else
      some false) λb_16=>
   if b_16=true then
    some (0,0,x,())
   else
    Option.bind (za5 ds 10 53) λr_17=>
    if(!(r_17.2.1).isNil)=true then
     some (0,0,x,())
    else
     Option.bind (strings_Contains ds ([95]:Str)) λr_18=>
     if r_18.1=true then
      some (0,0,x,())
     else
      some ((IntKind.wrap .i64 r_17.1),kk,x,()))=some (match zCc ds with
     |some n=>if n<=9007199254740991 then((n:Int),kk,x,())else(0,0,x,())
     |none=>(0,0,x,())):=by
 have h10:(Option.bind (za5 ds 10 53) λr_17=>
    if(!(r_17.2.1).isNil)=true then
     some ((0:Int),(0:Int),x,())
    else
     Option.bind (strings_Contains ds ([95]:Str)) λr_18=>
     if r_18.1=true then
      some (0,0,x,())
     else
      some ((IntKind.wrap .i64 r_17.1),kk,x,()))=some (zPz 10 ds kk x):=by
   by_cases h0:ds=[]
   · rw[hz h0];subst h0;rfl
   · rw[<-zN3];exact zFx 10 (.inl rfl) ds h0 hdl kk x
 have hno:(Option.bind (
   if(decide (((ds.length:Nat):Int)>1))=true then
    Option.bind (zaZ ds 0) λc_15=>
    some (c_15==48)
   else
    some false) λb_16=>
 if b_16=true then
  some (0,0,x,())
 else
  Option.bind (za5 ds 10 53) λr_17=>
  if(!(r_17.2.1).isNil)=true then
   some (0,0,x,())
  else
   Option.bind (strings_Contains ds ([95]:Str)) λr_18=>
   if r_18.1=true then
    some (0,0,x,())
   else
    some ((IntKind.wrap .i64 r_17.1),kk,x,()))=some (match(if 1<ds.length/\ds.head?=some 48 then none else zek 10 ds 0)with
     |some n=>if n<=9007199254740991 then((n:Int),kk,x,())else(0,0,x,())
     |none=>(0,0,x,())):=by
   by_cases h1:1<ds.length
   · have d1:(((ds.length:Nat):Int)>1):=by omega
     cases hdd:ds with
     |nil=>rw[hdd]at h1;simp at h1
     |cons a r=>
       rw[hdd]at d1 h1 h10;simp only[d1,decide_true,yB,zh0,qz1,h1,true_and,List.head?_cons,Option.some.injEq]
       have eb:((((a.toNat:Nat):Int))==48)=decide (a=48):=by
         have h48:(a=48)↔a.toNat=48:=by
          constructor
          ·intro e;subst e;rfl
          ·intro e;apply UInt8.toNat_inj.mp;rw[e];rfl
         rw[zEQ,decide_eq_decide,h48];omega
       rw[eb];by_cases ha:a=48
       · simp only[ha,decide_true,yB]
       · simp only[ha,decide_false,qz2,yA];exact h10
   · have d1: ¬(((ds.length:Nat):Int)>1):=by omega
     simp only[d1,h1,decide_false,qz2,yA,false_and,qz1];exact h10
 unfold zCc;by_cases h2:2<ds.length
 · have d2:(((ds.length:Nat):Int)>2):=by omega
   have hc2:zaI ds 0 2=some (ds.take 2):=by
     have:=zkz ds 0 2 (by omega) (by omega);simpa using this
   have hcd:zaI ds 2 ((ds.length:Nat):Int)=some (ds.drop 2):=zc8 ds 2 (by omega)
   have h16:=zFx 16 (.inr rfl) (ds.drop 2) (by
     intro e;have:=congrArg List.length e;simp only[List.length_drop,qz6]at this;omega) (by simp only[List.length_drop];omega) kk x
   rw[zN3]at h16;simp only[d2,decide_true,yB,hc2,qz1];by_cases hx:ds.take 2=[48,120]
   · have bx:(ds.take 2==([48,120]:Str))=true:=by simpa using hx
     simp only[bx,yB,hcd,qz1,h2,hx,true_and,true_or];exact h16
   · have bx:(ds.take 2==([48,120]:Str))=false:=by simpa using hx
     by_cases hX:ds.take 2=[48,88]
     · have bX:(ds.take 2==([48,88]:Str))=true:=by simpa using hX
       simp only[bx,bX,qz2,yA,yB,hcd,qz1,h2,hX,true_and,or_true];exact h16
     · have bX:(ds.take 2==([48,88]:Str))=false:=by simpa using hX
       simp only[bx,bX,qz2,yA,h2,hx,hX,or_self,and_false,qz1];exact hno
 · have d2: ¬(((ds.length:Nat):Int)>2):=by omega
   simp only[d2,h2,decide_false,qz2,yA,false_and,qz1];exact hno
theorem zC5(c:zaa)(hs:c.rest.length<=1000000000):zhi c=some (match znd c.rest with|some (n,k)=>((n:Int),(k:Int),c,())|none=>(0,0,c,())):=by
 obtain⟨src,s,fr⟩:=c;simp only at hs⊢;have hle:=zmJ s;unfold zhi;simp only[zen];rw[zrM s hs,qz1];have hlen:(s.take (za2 s)).length=za2 s:=by rw[List.length_take];omega
 have hcut:zaI s 0 ((za2 s:Nat):Int)=some (s.take (za2 s)):=by
   have:=zkz s 0 (za2 s) (by omega) hle;simpa using this
 simp only[hcut,qz1];generalize hds:s.take (za2 s)=ds at hlen;have hdl:ds.length<=1000000000:=by omega
 have rest:=zJ7 ds ((za2 s:Nat):Int) ⟨src,s,fr⟩ hdl (λh=>by rw[h]at hlen;simp at hlen;omega)
 unfold znd;rw[hds];by_cases hlt:za2 s<s.length
 · have d:(((za2 s:Nat):Int)< ((s.length:Nat):Int)):=by omega
   have hx:s[za2 s]? =some s[za2 s]:=qz9 hlt;have hg:zaZ s ((za2 s:Nat):Int)=some ((s[za2 s].toNat:Nat):Int):=zR2 s _ _ hx;simp only[d,decide_true,yB,hg,qz1];rw[hx]
   have eb:((((s[za2 s].toNat:Nat):Int))==46)=decide (s[za2 s]=46):=by
     have h46:(s[za2 s]=46)↔s[za2 s].toNat=46:=by
       constructor
       · intro e;rw[e];rfl
       · intro e;apply UInt8.toNat_inj.mp;rw[e];rfl
     rw[zEQ,decide_eq_decide,h46];omega
   rw[eb];by_cases h46:s[za2 s]=46
   · simp only[h46,decide_true,yB]
   · have hne: ¬(some s[za2 s]=some (46:UInt8)):=by simpa using h46
     simp only[h46,decide_false,hne,qz2,yA];rw[rest];cases zCc ds with
     |none=>rfl
     |some n=>by_cases hm:n<=9007199254740991<;>simp only[hm,yB,yA]
 · have d: ¬(((za2 s:Nat):Int)< ((s.length:Nat):Int)):=by omega
   have hx:s[za2 s]? =none:=List.getElem?_eq_none (by omega);simp only[d,decide_false,qz2,yA,qz1];rw[hx,rest];simp only[reduceCtorEq,yA];cases zCc ds with
   |none=>rfl
   |some n=>by_cases hm:n<=9007199254740991<;>simp only[hm,yB,yA]
theorem zJD(c:UInt8)(n:Nat)(h:n<256):((((c.toNat:Nat):Int))==((n:Nat):Int))=decide (c=UInt8.ofNat n):=by
 have e:(c=UInt8.ofNat n)↔c.toNat=n:=ztk c n h;rw[zEQ,decide_eq_decide,e];omega
theorem zwv(ws:List Str)(list s:Str)(hl:list=joined ws)(hw: ∀w∈ws,(32:UInt8)∉w)(hn:([]:Str)∉ws):zcb list s=ws.contains s:=by
 subst hl;unfold zcb;cases hc:s.contains 32 with
 |true=>
  have:ws.contains s=false:=by
   rw[<-Bool.not_eq_true];intro h;have hm:=hw s (by simpa using h);exact hm (by simpa using hc)
  rw[this];simp
 |false=>
  rw[zks s (by simpa using hc) ws hw];cases s with
  |nil=>
   have:ws.contains ([]:Str)=false:=by rw[<-Bool.not_eq_true];intro h;exact hn (by simpa using h)
   rw[this];rfl
  |cons a r=>rfl
theorem zET(s:Str):zwg s=zlo s:=zwv zOi _ s (by decide+kernel) (by decide+kernel) (by decide+kernel)
theorem zL3(x:Str)(h:x.length<=1000000000):zgS ([32,61,61,61,32,33,61,61,32]:Str) x=some (zjv.contains x,()):=by
 rw[zos _ _ (by decide) h,zwv zjv _ x (by decide+kernel) (by decide+kernel) (by decide+kernel)]
theorem zL4(x:Str)(h:x.length<=1000000000):zgS ([32,60,61,32,62,61,32,61,61,32,33,61,32,43,43,32,45,45,32,38,38,32,124,124,32,43,61,32,45,61,32,42,61,32,47,61,32,37,61,32]:Str) x=some (zki.contains x,()):=by
 rw[zos _ _ (by decide) h,zwv zki _ x (by decide+kernel) (by decide+kernel) (by decide+kernel)]
def zGw(r:Option (zu×Int×zaa×Unit))(c:zaa)(o:Option (Tok×Nat)):Prop:=match o with
 |some (t,n)=>r=some (t,(n:Int),c,())
 |none=>∃t,r=some (t,0,c,())
theorem zIh(c:zaa)(h0:c.rest≠[])(hs:c.rest.length<=100000000):zGw (zfI c) c (zgt c.rest):=by
 obtain⟨src,s,fr⟩:=c;simp only at h0 hs⊢;cases s with
 |nil=>exact absurd rfl h0
 |cons b r=>
  have hrow:=zrM (b::r) (by omega);have hle:=zmJ (b::r)
  have hcut: ∀k:Nat,k<=(b::r).length->zaI (b::r) 0 (k:Int)=some ((b::r).take k):=by
   intro k hk;have:=zkz (b::r) 0 k (by omega) hk;simpa using this
  unfold zfI zgt;simp only[zh0,qz1,zkw,zop,zen];by_cases hl:isLet b=true
  ·simp only[hl,yB,hrow,qz1];by_cases h32:32<za2 (b::r)
   ·have d:(((za2 (b::r):Nat):Int)>32):=by omega
    simp only[d,h32,decide_true,yB];exact⟨_,rfl⟩
   ·have d: ¬(((za2 (b::r):Nat):Int)>32):=by omega
    simp only[d,h32,decide_false,qz2,yA,hcut _ hle,qz1];rw[ztA _ (by simp only[List.length_take];omega),qz1,zET]
    cases zlo ((b::r).take (za2 (b::r)))with
    |true=>simp only[yB];rfl
    |false=>simp only[qz2,yA];rfl
  ·have hl':isLet b=false:=by simpa using hl
   simp only[hl',qz2,yA];by_cases hd:zfv b=true
   ·have hn:=zC5 ⟨src,b::r,fr⟩ (by simp only;omega)
    simp only at hn;simp only[hd,yB,hn,qz1];cases znd (b::r)with
    |none=>exact⟨_,rfl⟩
    |some p=>rfl
   ·have hd':zfv b=false:=by simpa using hd
    simp only[hd',qz2,yA];have b39:((((b.toNat:Nat):Int))==39)=decide (b=39):=zJD b 39 (by omega);have b34:((((b.toNat:Nat):Int))==34)=decide (b=34):=zJD b 34 (by omega);rw[b39,b34];by_cases hq:b=39\/b=34
    ·have dq:(decide (b=39)||decide (b=34))=true:=by simpa using hq
     simp only[dq,yB,hq,zF1 (b::r) hs,qz1];generalize hx:zdZ (b::r)=q;obtain⟨u,n,e⟩:=q;have hb:=zFk hx;simp only;by_cases hn:n=0
     ·simp only[hn,yB];exact⟨_,rfl⟩
     ·simp only[hn,yA];have:((n.toNat:Nat):Int)=n:=by omega
      unfold zGw;simp only[this]
    ·have dq:(decide (b=39)||decide (b=34))=false:=by simpa using hq
     simp only[dq,qz2,yA,hq]
     have hlast: ¬(2< (b::r).length/\zjv.contains ((b::r).take 3)=true)->¬(1< (b::r).length/\zki.contains ((b::r).take 2)=true)->
       zGw (zfH 0 (b::r) ((b.toNat:Nat):Int) ⟨src,b::r,fr⟩ ⟨0,[],0,0,false⟩) ⟨src,b::r,fr⟩ (if zcs (b::r)=0 then none else some (({Kind:=5,Text:=(b::r).take (zcs (b::r)),Num:=0,At:=0,Fresh:=false}:Tok),zcs (b::r))):=by
      intro n3 n2;unfold zfH strings_IndexByte zd3;simp only[zjx,Option.map_some,qz1,zen,zGU];have e1:(((b.toNat:Nat):Int)).toNat.toUInt8=b:=by simp
      have e2:=Lib.contains_iff_indexByte ([123,125,40,41,91,93,46,59,44,60,62,43,45,42,47,37,33,63,58,61]:Str) b
      have e3:zcs (b::r)=if zAE.contains b=true then 1 else 0:=by
       unfold zcs;rw[yK n3,yK n2];rfl
      rw[e1,e3];have e4:decide (Lib.indexByte ([123,125,40,41,91,93,46,59,44,60,62,43,45,42,47,37,33,63,58,61]:Str) b>=0)=zAE.contains b:=e2.symm;rw[e4];cases zAE.contains b with
      |true=>
       simp only[yB];have:=hcut 1 (by simp);rw[show zaI (b::r) 0 1=_ from this];rfl
      |false=>
       simp only[qz2,yA];exact⟨_,rfl⟩
     have hmid: ¬(2< (b::r).length/\zjv.contains ((b::r).take 3)=true)->
       zGw (zfE 0 (b::r) ((b.toNat:Nat):Int) ⟨src,b::r,fr⟩ ⟨0,[],0,0,false⟩) ⟨src,b::r,fr⟩ (if zcs (b::r)=0 then none else some (({Kind:=5,Text:=(b::r).take (zcs (b::r)),Num:=0,At:=0,Fresh:=false}:Tok),zcs (b::r))):=by
      intro n3;unfold zfE;simp only[zen,zGU];by_cases h1:1< (b::r).length
      ·have d1:((((b::r).length:Nat):Int)>1):=by omega
       have hc2':zaI (b::r) 0 2=some ((b::r).take 2):=hcut 2 (by omega);simp only[d1,decide_true,yB,hc2',qz1,zL4 _ (show((b::r).take 2).length<=1000000000 by simp only[List.length_take];omega)]
       cases hb:zki.contains ((b::r).take 2)with
       |true=>
        have e3:zcs (b::r)=2:=by
         unfold zcs;rw[yK n3,yL ⟨h1,hb⟩]
        rw[e3];simp only[yB];rfl
       |false=>exact hlast n3 (by rw[hb];simp)
      ·have d1: ¬((((b::r).length:Nat):Int)>1):=by omega
       simp only[d1,decide_false,qz2,yA];exact hlast n3 (by simp only[h1,false_and,not_false_eq_true])
     by_cases h2:2< (b::r).length
     ·have d2:((((b::r).length:Nat):Int)>2):=by omega
      have hc3':zaI (b::r) 0 3=some ((b::r).take 3):=hcut 3 (by omega);simp only[d2,decide_true,yB,hc3',qz1,zL3 _ (show((b::r).take 3).length<=1000000000 by simp only[List.length_take];omega)]
      cases hb:zjv.contains ((b::r).take 3)with
      |true=>
       have e3:zcs (b::r)=3:=by
        unfold zcs;rw[yL ⟨h2,hb⟩]
       rw[e3];simp only[yB];rfl
      |false=>exact hmid (by rw[hb];simp)
     ·have d2: ¬((((b::r).length:Nat):Int)>2):=by omega
      simp only[d2,decide_false,qz2,yA];exact hmid (by simp only[h2,false_and,not_false_eq_true])
theorem zuq(len:Nat)(p:Tok×Nat)(l:List (Tok×Nat)):zjC len (p::l)=p.1.at_ ((len -p.2:Nat):Int)::zjC len l:=rfl
theorem zPr{a b:Nat}(h:b<=a)(ha:a<=1000000000000):IntKind.wrap .i64 ((a:Int) - (b:Int))=((a -b:Nat):Int):=by rw[wrap_i64 (by omega) (by omega)];omega
theorem zRF(l:List zu):zoW l=some (l,()):=by
 unfold zoW
 have:zJd l 0 ((l.length:Nat):Int) ((l.length:Nat):Int)=some l:=by
  unfold zJd;simp
 rw[this];rfl
theorem zIB(src:Str)(hs:src.length<=100000000): ∀(m:Nat) (s:Str) (f0:Bool) (out:List Tok),s.length<m->s.length<=src.length->out.length+s.length<=src.length->
  match zd9 m s false with
   | .inl l=>zaF ziO m (src,⟨src,s,f0⟩,out,())=some (out++zjC src.length l,0,0,())
   | .inr k=>k<=src.length/\zaF ziO m (src,⟨src,s,f0⟩,out,())=some ([],((src.length -k:Nat):Int),60,())
 |0,s,f0,out,h,_,_=>by omega
 |m+1,s,f0,out,hm,hsl,hout=>by
  have hb:=zCp ⟨src,s,f0⟩ (by simp only;omega)
  simp only at hb;have hl:=zec (s.length+1) s false;rw[zd9];generalize hq:zaW (s.length+1) s false=q at hb hl;obtain⟨r,f,ok⟩:=q;simp only at hb hl⊢;have w:IntKind.wrap .i64 (((src.length:Nat):Int) - ((r.length:Nat):Int))=((src.length -r.length:Nat):Int):=zPr (by omega) (by omega)
  have hstep:ziO (src,⟨src,s,f0⟩,out,())=(if ok=true then
    if(r==([]:Str))=true then
     some (.inr (out++[({Kind:=0,Text:=([]:Str),Num:=0,At:=((src.length -r.length:Nat):Int),Fresh:=f}:zu)],0,0,()))
    else Option.bind (zfI ⟨src,r,f⟩) λr_12=>
     if(r_12.2.1==0)=true then
      some (Sum.inr (([]:List zu),IntKind.wrap .i64 (((src.length:Nat):Int) - ((r_12.2.2.1.rest.length:Nat):Int)),60,()))
     else
      Option.bind (zaI r_12.2.2.1.rest r_12.2.1 ((r_12.2.2.1.rest.length:Nat):Int)) λs_17=>
      some (Sum.inl (src,(⟨r_12.2.2.1.src,s_17,r_12.2.2.1.fresh⟩:zaa),out++[(⟨r_12.1.Kind,r_12.1.Text,r_12.1.Num,((src.length -r.length:Nat):Int),r_12.2.2.1.fresh⟩:zu)],()))
   else some (.inr ([],((src.length -r.length:Nat):Int),60,()))):=by
   simp only[ziO,zen,hb,qz1,w,zRF];rw[zd6 (by simp only[qz3,qz6];omega)]
   simp only[qz1];cases ok with
   |false=>rfl
   |true=>
    simp only[yB];cases(r==([]:Str))with
    |true=>rfl
    |false=>
     simp only[qz2,yA];congr 1;funext r_12;rw[zd6 (by simp only[qz3,qz6];omega)]
     rfl
  cases ok with
  |false=>
   simp only[qz2,yA]at hstep;simp only[yB];exact⟨by omega,zaL hstep⟩
  |true=>
   simp only[yB]at hstep;simp only[Bool.true_eq_false,yA];by_cases hr:r=[]
   ·subst hr;simp only[beq_self_eq_true,yB]at hstep;simp only[yB];exact zaL hstep
   ·have br:(r==([]:Str))=false:=by simpa using hr
    simp only[br,qz2,yA]at hstep;simp only[hr,yA];have h1:=zIh ⟨src,r,f⟩ hr (by simp only;omega)
    simp only at h1;cases ho:zgt r with
    |none=>
     rw[ho]at h1;obtain⟨t,e1⟩:=h1;rw[e1]at hstep;simp only[qz1,beq_self_eq_true,yB,w]at hstep;exact⟨by omega,zaL hstep⟩
    |some p=>
     obtain⟨t,n⟩:=p;rw[ho]at h1;have e1:zfI ⟨src,r,f⟩=some (t,(n:Int),⟨src,r,f⟩,()):=h1;rw[e1]at hstep;have hn:=zkC ho;have c0:((n:Int)==0)=false:=by rw[yH];omega
     have hcut:zaI r (n:Int) ((r.length:Nat):Int)=some (r.drop n):=zc8 r n hn.2.1;simp only[qz1,c0,qz2,yA,hcut]at hstep;have htok:(⟨t.Kind,t.Text,t.Num,((src.length -r.length:Nat):Int),f⟩:Tok)=(t.fresh f).at_ ((src.length -r.length:Nat):Int):=rfl;rw[htok]at hstep;have hdl:(r.drop n).length=r.length -n:=List.length_drop;have g:=zIB src hs m (r.drop n) f (out++[(t.fresh f).at_ ((src.length -r.length:Nat):Int)]) (by omega) (by omega) (by simp only[qz5,qz3,qz6];omega)
     dsimp only;cases hc:zd9 m (r.drop n) false with
     |inl l=>
       rw[hc]at g;simp only at g⊢;refine(zbV hstep).trans (g.trans ?_);rw[zuq];simp
     |inr k=>
       rw[hc]at g;exact⟨g.1,(zbV hstep).trans g.2⟩
theorem zHi(src:Str)(hs:src.length<=100000000):ztp src=some ((zj9 src).1,(zj9 src).2.1,(zj9 src).2.2,()):=by
 unfold ztp zj9;by_cases h:4096<src.length
 ·have d:(((src.length:Nat):Int)>4096):=by omega
  simp only[d,h,decide_true,yB]
 ·have d: ¬(((src.length:Nat):Int)>4096):=by omega
  simp only[d,h,decide_false,qz2,yA];have g:=zIB src hs (src.length+1) src false [] (by omega) (by omega) (by simp);cases hc:zd9 (src.length+1) src false with
  |inl l=>
   rw[hc]at g;exact(zdy g (by omega)).trans rfl
  |inr k=>
   rw[hc]at g;exact(zdy g.2 (by omega)).trans rfl
end Go.D08.U
namespace Go.D08
open Go Go.Gw Go.Dn
def i64(n:Int):Prop:= -9223372036854775808<=n/\n<9223372036854775808
theorem zOm{n:Int}(h:(Lit.int .i64 n).wf=true):i64 n:=by
 simp only[Lit.wf,qz4,yT]at h;have e1:IntKind.min .i64= -9223372036854775808:=by decide
 have e2:IntKind.max .i64=9223372036854775807:=by decide
 rw[e1,e2]at h;exact⟨h.1,by omega⟩
mutual
def okN:Node->Prop
 | ⟨k,_,m,_,_,l⟩=>i64 k/\i64 m/\okL l
def okL:List Node->Prop
 | []=>True
 |x::r=>okN x/\okL r
end
mutual
def zU:Node->Nat
 | ⟨_,n,_,t,ns,l⟩=>n.length+t.length+(ns.map λs=>s.length+1).sum+zaJ l+7
def zaJ:List Node->Nat
 | []=>0
 |x::r=>zU x+zaJ r
end
theorem zNE: ∀{l:List Node},(∀x∈l,okN x)->okL l
 | [],_=>trivial
 |x::r,h=>⟨h x qz7,zNE λy hy=>h y (qz8 _ hy)⟩
theorem zFC: ∀l:List Node,zaJ l=(l.map zU).sum
 | []=>by simp[zaJ]
 |x::r=>by simp[zaJ,zFC r]
mutual
theorem zkL: ∀x:Node,zkk x<=zU x
 | ⟨_,_,_,_,_,l⟩=>by simp only[zkk,zU];have:=zDg l;omega
theorem zDg: ∀l:List Node,zl6 l<=zaJ l
 | []=>by simp[zl6]
 |x::r=>by simp only[zl6,zaJ];have:=zkL x;have:=zDg r;omega
end
theorem zr7: ∀l:List Str,l.length<=(l.map λs=>s.length+1).sum
 | []=>by simp
 |x::r=>by simp only[qz3,List.map_cons,List.sum_cons];have:=zr7 r;omega
mutual
theorem zxr: ∀x:Node,zpy x<=zU x
 | ⟨_,_,_,_,ns,l⟩=>by simp only[zpy,zU];have:=zBl l;have:=zr7 ns;omega
theorem zBl: ∀l:List Node,zpe l<=zaJ l
 | []=>by simp[zpe]
 |x::r=>by simp only[zpe,zaJ];have:=zxr x;have:=zBl r;omega
end
theorem zaA(x:Node):zU x=x.Name.length+x.Text.length+(x.Names.map λs=>s.length+1).sum+zaJ x.L+7:=by cases x;simp[zU]
theorem za7{x:Node}: ∀{l:List Node},x∈l->zU x<=zaJ l
 |y::r,h=>by
  simp only[zaJ];rcases yP.1 h with rfl|h
  ·omega
  ·have:=za7 h;omega
theorem zmy: ∀l:List Node,l.length<=zaJ l
 | []=>by simp
 |x::r=>by simp only[zaJ,qz3];have:=zmy r;have:=zaA x;omega
theorem zI4{s:Str}: ∀{l:List Str},s∈l->s.length<=(l.map λs=>s.length+1).sum
 |y::r,h=>by
  simp only[List.map_cons,List.sum_cons];rcases yP.1 h with rfl|h
  ·omega
  ·have:=zI4 h;omega
end Go.D08
namespace Go.D08
open Go Go.Gw Go.Dn
set_option maxRecDepth 100000
def zf1(l:Str):Str:=l.takeWhile (· !=42)
def zoI(l:Str):Str:=(l.dropWhile (· !=42)).drop 1
theorem zCv{α:Type}(p:α->Bool): ∀l:List α,l.take (l.takeWhile p).length=l.takeWhile p/\l.drop (l.takeWhile p).length=l.dropWhile p
 | []=>by simp
 |a::l=>by
  rw[List.takeWhile_cons,List.dropWhile_cons];have:=zCv p l;cases p a<;>simp[this]
theorem zD3(l:Str)(hl:l.length<=1000):strings_Cut l [42]=some (zf1 l,zoI l,l.contains 42,()):=by
 obtain⟨t1,t2⟩:=zCv (λc:UInt8=>c !=42) l;have hlen:(l.takeWhile (· !=42)).length+(l.dropWhile (· !=42)).length=l.length:=by rw[<-qz5,List.takeWhile_append_dropWhile]
 have hx:stringslite_Index l [42]=some (Lib.index l [42],()):=by simp only[stringslite_Index,zd8,show l.length<4294967281 by omega,yB,zjx]
 unfold strings_Cut stringslite_Cut;simp only[hx,qz1,zCx];cases hc:l.contains 42 with
 |true=>
  have h1:(decide ((((l.takeWhile (· !=42)).length:Nat):Int)>=0))=true:=by simpa using by omega
  have h2:1<=(l.dropWhile (· !=42)).length:=by
   rcases Nat.eq_zero_or_pos (l.dropWhile (· !=42)).length with h|h
   ·exfalso;have hd:l.dropWhile (· !=42)=[]:=List.length_eq_zero_iff.1 h;have hm:(42:UInt8)∈l:=by simpa using hc
    have ht:l.takeWhile (· !=42)=l:=by have:=List.takeWhile_append_dropWhile (p:=λc:UInt8=>c !=42) (l:=l);rw[hd,List.append_nil]at this;exact this
    rw[<-ht]at hm;have:=List.all_takeWhile (p:=λc:UInt8=>c !=42) (l:=l);have h3:=List.all_eq_true.1 this 42 hm;simp at h3
   ·exact h
  have e:(((l.takeWhile (· !=42)).length:Nat):Int)+((([42]:Str).length:Nat):Int)=(((l.takeWhile (· !=42)).length+1:Nat):Int):=by simp
  simp only[yB,h1]
  rw[show zaI l 0 (((l.takeWhile (· !=42)).length:Nat):Int)=some (l.takeWhile (· !=42)) by
   have:=zkz l 0 (l.takeWhile (· !=42)).length (Nat.zero_le _) (by omega);simpa [t1]using this]
  rw[e,wrap_i64 (by omega) (by omega),zc8 l _ (by omega)];simp only[qz1,zf1,zoI];rw[<-t2,List.drop_drop]
 |false=>
  have hm: ¬(42:UInt8)∈l:=by simpa using hc
  have hd:l.takeWhile (· !=42)=l:=by
   have: ∀m:Str,(42:UInt8)∉m->m.takeWhile (· !=42)=m:=by
    intro m;induction m with
    |nil=>intro _;rfl
    |cons a r ih=>
     intro h;simp only[yP,not_or]at h;rw[List.takeWhile_cons,ih h.2];have:(a !=42)=true:=by simpa using λe=>h.1 e.symm
     rw[this];rfl
   exact this l hm
  have h4:l.dropWhile (· !=42)=[]:=by
   have:=hlen;rw[hd]at this;exact List.length_eq_zero_iff.1 (by omega)
  simp[zf1,zoI,hd,h4]
abbrev Form:=zdc
def zCQ(f:Form):Bool:=decide (f.name.length<=100)&&(decide (f.l.length<=10)&&(!(f.l.contains 42)|| !(zoI f.l==([]:Str))))
theorem zQ9{i:Int}(h0:0<=i)(h1:i<=1):zaI ([101]:Str) 0 i=some (if i=1 then[101]else[]):=by
 rcases(show i=0\/i=1 by omega)with rfl|rfl<;>rfl
theorem zK2{i:Int}(h0:2<=i)(h1:i<=3):zaI ([101,98,98]:Str) 0 i=some (if i=3 then[101,98,98]else[101,98]):=by
 rcases(show i=2\/i=3 by omega)with rfl|rfl<;>rfl
theorem zGG(n:Nat):0<=(if 1< ((n:Nat):Int)then(1:Int)else(n:Int))/\(if 1< ((n:Nat):Int)then(1:Int)else(n:Int))<=1:=by split<;>omega
theorem zGs(n:Nat):2<=(let a:=(if 2>((n:Nat):Int)then(2:Int)else(n:Int));if 3<a then 3 else a)/\(let a:=(if 2>((n:Nat):Int)then(2:Int)else(n:Int));if 3<a then 3 else a)<=3:=by
 simp only;split<;>split<;>omega
def okO(o:Option (Form×Bool×Unit)):Bool:=match o with
 |some (f,_,_)=>zCQ f
 |none=>false
theorem zK1{c:Prop}[Decidable c]{a b:Option (Form×Bool×Unit)}(h1:okO a=true)(h2:okO b=true):okO (if c then a else b)=true:=by split<;>assumption
theorem zRT{c:Prop}[Decidable c]{a b:Str}{n:Str}{m:Int}{t u v:Bool}(h1:okO (some (⟨n,m,t,u,a⟩,v,()))=true)(h2:okO (some (⟨n,m,t,u,b⟩,v,()))=true):okO (some (⟨n,m,t,u,if c then a else b⟩,v,()))=true:=by split<;>assumption
theorem zJl{o:Option (Form×Bool×Unit)}(h:okO o=true): ∃f b,o=some (f,b,())/\zCQ f=true:=by
 match o,h with
 |some (f,b,()),h=>exact⟨f,b,rfl,h⟩
theorem zEL(n:Node):okO (zK n)=true:=by
 unfold zK;simp only[zQ9 (zGG _).1 (zGG _).2,zK2 (zGs _).1 (zGs _).2,qz1]
 repeat' (first|apply zK1|apply zRT|rfl)
theorem zSu(n:Node): ∃f b,zaE n=some (f,b,())/\zCQ f=true:=by
 refine zJl ?_;obtain⟨f,b,h1,h2⟩:=zJl (zEL n);unfold zaE;simp only[zq,h1,qz1,zL,zq]
 repeat' (first|apply zK1|exact h2|rfl)
def zan(n:Node):Option Form:=match zaE n with
 |some (f,true,())=>some f
 |_=>none
def zaV(n:Node)(w:Str):Bool:=
 if(w==([]:Str))=true then n.Name==([]:Str)
 else if(w==([110]:Str))=true then zbU n.Name
 else if(w==([109]:Str))=true then n.Name==([]:Str)||zbU n.Name
 else if(w==([105]:Str))=true then zfD n.Name
 else if(w==([99]:Str))=true then(if(match n.L[1]? with|some x=>x.Kind==25|none=>false)=true then zbU n.Name else n.Name==([]:Str))
 else zcb w n.Name
theorem zPM(n:Node)(w:Str)(hw:w.length<=100)(hn:n.Name.length<=1000000000)(hl:n.L.length<=1000000000):zqw n w=some (zaV n w,()):=by
 unfold zqw zaV;simp only[zvr _ hn,zrk _ hn,zxR w _ (by omega) hn,qz1];split
 ·rfl
 ·split
  ·rfl
  ·split
   ·cases n.Name==([]:Str)<;>rfl
   ·split
    ·rfl
    ·split
     ·by_cases h:1<n.L.length
      ·have h1:(decide (((n.L.length:Nat):Int)>1))=true:=by simpa using by omega
       have h2:zN n.L 1=some n.L[1]:=by have:=zji n.L 1;rw[qz9 h]at this;exact this
       simp only[h1,yB,h2,qz1,qz9 h];cases n.L[1].Kind==25<;>rfl
      ·have h1:(decide (((n.L.length:Nat):Int)>1))=false:=by simpa using by omega
       have h2:n.L[1]? =none:=List.getElem?_eq_none (by omega);simp only[h1,qz2,yA,qz1,h2]
     ·rfl
def zcu(k:Int):Bool:=decide (k>=1)&&(decide (k<=21)&&k !=9)
def zdw(k:Int):Bool:=(k==3||k==11)||k==12
def stK(k:Int)(fn:Bool):Bool:=(((decide (k>=22))&&(decide (k<=40)))&&(k !=23)&&(k !=37))&&((k !=39)||fn)
def isP(x:Node)(c:Int):Bool:=
 if(c==101)=true then zcu x.Kind
 else if(c==116)=true then zdw x.Kind
 else if(c==102)=true then zcu x.Kind||x.Kind==42
 else if(c==98)=true then x.Kind==25
 else if(c==99)=true then x.Kind==25||x.Kind==42
 else if(c==112)=true then x.Kind==9
 else if(c==100)=true then x.Kind==23
 else if(c==118)=true then(zcu x.Kind||x.Kind==42)||x.Kind==22
 else if(c==119)=true then zdw x.Kind||(x.Kind==22&&(match x.L with| [y]=>y.L.isEmpty|_=>false))
 else if(c==107)=true then x.Kind==37
 else if(c==115)=true then stK x.Kind false
 else if(c==120)=true then stK x.Kind true
 else false
theorem zg3(o:Option (Bool×Unit)):(Option.bind o λr=>some (r.1,()))=o:=by cases o<;>rfl
def zAY(g:zas)(x:Node)(b:Bool):Option (Bool×Unit):=if b=true then g.zbh x else some (false,())
theorem zOa(g:zas)(c k:Int)(x:Node):zgf g c k x=zAY g x (stK k (c==120)):=by
 unfold zgf zAY stK;simp only[zq,zg3]
theorem zJ0(x:Node):zff x=some (zdw x.Kind,()):=rfl
theorem zTW(g:zas)(x:Node):zjG g x.Kind x=zAY g x (zdw x.Kind||(x.Kind==22&&(match x.L with| [y]=>y.L.isEmpty|_=>false))):=by
 unfold zjG zAY;simp only[zq,zg3,zJ0,qz1];cases zdw x.Kind with
 |true=>rfl
 |false=>
  cases x.Kind==22 with
  |false=>rfl
  |true=>
   cases hL:x.L with
   |nil=>rfl
   |cons y r=>
    cases r with
    |nil=>
     have:zN ([y]:List Node) 0=some y:=rfl;simp only[List.length_singleton,show(((1:Nat):Int)==1)=true from rfl,Bool.and_self,yB,this,qz1,qz2,yA,Bool.false_or,Bool.true_and];cases hy:y.L with
     |nil=>rfl
     |cons z r=>
      have:((((z::r).length:Nat):Int)==0)=false:=by rw[yH];simp only[qz3];omega
      rw[this];rfl
    |cons z r=>
     have:((((y::z::r).length:Nat):Int)==1)=false:=by rw[yH];simp only[qz3];omega
     rw[this];rfl
theorem zSE(g:zas)(x:Node)(c:Int):zjO g x c=zAY g x (isP x c):=by
 have h0:zjO g x c=ziF g c x.Kind (zcu x.Kind) x:=by
  unfold zjO zcu;simp only[zq];cases decide (x.Kind>=1)<;>cases decide (x.Kind<=21)<;>rfl
 rw[h0];unfold ziF zrU;by_cases h101:c=101
 ·subst h101;show(if zcu x.Kind=true then Option.bind (g.zbh (zA x)) (λr=>some (r.1,()))else some (false,()))=_;rw[zg3,zq];rfl
 by_cases h116:c=116
 ·subst h116;show(if zdw x.Kind=true then Option.bind (g.zbh (zA x)) (λr=>some (r.1,()))else some (false,()))=_;rw[zg3,zq];rfl
 by_cases h102:c=102
 ·subst h102;show(if(zcu x.Kind||x.Kind==42)=true then Option.bind (g.zbh (zA x)) (λr=>some (r.1,()))else some (false,()))=_;rw[zg3,zq];rfl
 by_cases h98:c=98
 ·subst h98;show(if(x.Kind==25)=true then Option.bind (g.zbh (zA x)) (λr=>some (r.1,()))else some (false,()))=_;rw[zg3,zq];rfl
 by_cases h99:c=99
 ·subst h99;show(if(x.Kind==25||x.Kind==42)=true then Option.bind (g.zbh (zA x)) (λr=>some (r.1,()))else some (false,()))=_;rw[zg3,zq];rfl
 by_cases h112:c=112
 ·subst h112;show(if(x.Kind==9)=true then Option.bind (g.zbh (zA x)) (λr=>some (r.1,()))else some (false,()))=_;rw[zg3,zq];rfl
 by_cases h100:c=100
 ·subst h100;show(if(x.Kind==23)=true then Option.bind (g.zbh (zA x)) (λr=>some (r.1,()))else some (false,()))=_;rw[zg3,zq];rfl
 by_cases h118:c=118
 ·subst h118;show(if((zcu x.Kind||x.Kind==42)||x.Kind==22)=true then Option.bind (g.zbh (zA x)) (λr=>some (r.1,()))else some (false,()))=_;rw[zg3,zq];rfl
 by_cases h119:c=119
 ·subst h119;show zjG g x.Kind x=_;rw[zTW];rfl
 by_cases h107:c=107
 ·subst h107;show(if(x.Kind==37)=true then Option.bind (g.zbh (zA x)) (λr=>some (r.1,()))else some (false,()))=_;rw[zg3,zq];rfl
 by_cases h115:c=115
 ·subst h115;show zgf g 115 x.Kind x=_;rw[zOa];rfl
 by_cases h120:c=120
 ·subst h120;show zgf g 120 x.Kind x=_;rw[zOa];rfl
 have k101:(c==101)=false:=by rw[yH];exact h101
 have k116:(c==116)=false:=by rw[yH];exact h116
 have k102:(c==102)=false:=by rw[yH];exact h102
 have k98:(c==98)=false:=by rw[yH];exact h98
 have k99:(c==99)=false:=by rw[yH];exact h99
 have k112:(c==112)=false:=by rw[yH];exact h112
 have k100:(c==100)=false:=by rw[yH];exact h100
 have k118:(c==118)=false:=by rw[yH];exact h118
 have k119:(c==119)=false:=by rw[yH];exact h119
 have k107:(c==107)=false:=by rw[yH];exact h107
 have k115:(c==115)=false:=by rw[yH];exact h115
 have k120:(c==120)=false:=by rw[yH];exact h120
 have e1:isP x c=false:=by simp only[isP,k101,k116,k102,k98,k99,k112,k100,k118,k119,k107,k115,k120,qz2,yA]
 rw[e1];unfold zr6;rw[k101,yK (by decide)];unfold zsn;rw[k116,yK (by decide)];unfold zrY;rw[k102,yK (by decide)];unfold zsj;rw[k98,yK (by decide)];unfold zrp;rw[k99,yK (by decide)];unfold zrB;rw[k112,yK (by decide)];unfold zry;rw[k100,yK (by decide)];unfold zp1;rw[k118,yK (by decide)];unfold zpZ;rw[k119,yK (by decide)];unfold zp4;rw[k107,yK (by decide)];unfold zp0;rw[k115,yK (by decide)];unfold zp7;rw[k120,yK (by decide)];rfl
def ziK(x k:Node):Bool:=(x.Kind==35&&k.Kind==42)||((x.Kind==36&&k.Kind==37)&&(match k.L with|y::_=>y.Kind==42| []=>false))
def zhV(x:Node)(ls:Str):List (Node×Bool)->Nat->Nat->Bool
 | [],_,e=>decide (e<2)
 | (k,b)::r,i,e=>match ls[min i (ls.length -1)]? with
   |none=>false
   |some c=>(isP k ((c.toNat:Nat):Int)&&b)&&zhV x ls r (i+1) (if ziK x k=true then e+1 else e)
def zwr(x:Node)(f:Form):Bool:=(zaV x f.name&&(decide (0<=x.Num)&&decide (x.Num<=f.num)))&&(((zhu x.Text&&(x.Text==([]:Str)||f.text))&&(x.Names.isEmpty||f.names))&&x.Names.all zbU)
def zjd(x:Node)(l:Str):Bool:=decide ((zf1 l).length<=x.L.length)&&(l.contains 42||decide (x.L.length<=(zf1 l).length))
def zzB(x:Node)(ks:List (Node×Bool)):Bool:=match zan x with
 |none=>false
 |some f=>(zwr x f&&zjd x f.l)&&zhV x (zf1 f.l++zoI f.l) ks 0 0
mutual
def zat:Node->Bool
 | ⟨k,n,m,t,ns,l⟩=>zzB ⟨k,n,m,t,ns,l⟩ (zj6 l)
def zj6:List Node->List (Node×Bool)
 | []=>[]
 |x::r=>(x,zat x)::zj6 r
end
theorem zre(x:Node):zat x=zzB x (zj6 x.L):=by cases x;simp[zat]
theorem zNo{x:Node}(h:x.Kind=37):zan x=some ⟨[],0,false,false,[102,42,115]⟩:=by
 simp[zan,zaE,zK,h,zq,zq]
theorem zPc{x:Node}(h:zat x=true)(hk:x.Kind=37): ∃y r,x.L=y::r:=by
 rw[zre]at h;unfold zzB at h;rw[zNo hk]at h;cases hL:x.L with
 |cons y r=>exact⟨y,r,rfl⟩
 |nil=>
   exfalso;simp only[qz4]at h;have h2:=h.1.2;unfold zjd at h2;rw[hL]at h2;simp[zf1]at h2
theorem zFi(g:zas)(x:Node)(fx ot:Str)(hg: ∀k∈x.L,∀c:Int,g.ziY k c=some (isP k c&&zat k,()))(hlen:x.L.length<=1000000000)(hf:fx.length<=1000)(ho:ot.length<=1000)(hls:x.L≠[]->fx++ot≠[]):
   ∀(r:List Node) (i e:Nat),x.L.drop i=r->e<=i->i<=x.L.length->zaF (zia g) (r.length+1) (fx,ot,(e:Int),x.L,((x.L.length:Nat):Int),(i:Int),x,())=some (zhV x (fx++ot) (zj6 r) i e,())
 | [],i,e,hr,he,hil=>by
   have hi: ¬((i:Int)< (x.L.length:Int)):=by
     have:=congrArg List.length hr;simp at this;omega
   refine zaL ?_;simp only[zia,hi,decide_false,qz2,yA,zj6,zhV];congr 3;rw[decide_eq_decide];omega
 |k::r,i,e,hr,he,hil=>by
   obtain⟨h1,h2,h3⟩:=zh7 hr;have hi:((i:Int)< (x.L.length:Int)):=by omega
   have hx:k∈x.L:=List.mem_of_mem_drop (hr▸qz7);have hne:fx++ot≠[]:=hls (λe=>by rw[e]at h3;simp at h3)
   have hpos:0< (fx++ot).length:=List.length_pos_iff.2 hne;have hcat:zh9 fx ot=some (fx++ot):=zoF (by omega);have hlt:min i ((fx++ot).length -1)< (fx++ot).length:=by omega
   have hle:(fx++ot).length<=2000:=by rw[qz5];omega
   have hmin:(if((((fx++ot).length:Nat):Int) -1)< (i:Int)then((((fx++ot).length:Nat):Int) -1)else(i:Int))=((min i ((fx++ot).length -1):Nat):Int):=by split<;>omega
   have hb:zaZ (fx++ot) ((min i ((fx++ot).length -1):Nat):Int)=some ((((fx++ot)[min i ((fx++ot).length -1)]).toNat:Nat):Int):=by rw[zmk,qz9 hlt];rfl
   have hstep: ∀c:UInt8,(fx++ot)[min i ((fx++ot).length -1)]? =some c->zia g (fx,ot,(e:Int),x.L,((x.L.length:Nat):Int),(i:Int),x,())=
      if(isP k ((c.toNat:Nat):Int)&&zat k)=true then some (.inl (fx,ot,(((if ziK x k=true then e+1 else e):Nat):Int),x.L,((x.L.length:Nat):Int),((i+1:Nat):Int),x,()))else some (.inr (false,())):=λc hc=>by
     rw[qz9 hlt]at hc;cases hc;simp only[zia,hi,decide_true,yB,h1,qz1,hcat,zq];rw[wrap_i64 (by omega) (by omega),hmin,hb];simp only[qz1,hg k hx];generalize hq:isP k _=q;cases q with
     |false=>simp
     |true=>
      cases hm:zat k with
      |false=>simp
      |true=>
       simp only[Bool.and_self,yO,qz2,yA,yB];have w1:IntKind.wrap .i64 ((e:Int)+1)=((e+1:Nat):Int):=by rw[wrap_i64 (by omega) (by omega)];rfl
       have w2:IntKind.wrap .i64 ((i:Int)+1)=((i+1:Nat):Int):=by rw[wrap_i64 (by omega) (by omega)];rfl
       rw[w1,w2];unfold ziK;cases hA:(x.Kind==35&&k.Kind==42)with
       |true=>simp
       |false=>
        cases hB:(x.Kind==36&&k.Kind==37)with
        |false=>simp
        |true=>
         simp only[qz4,beq_iff_eq]at hB;obtain⟨y,r',hL⟩:=zPc hm hB.2;have h0:zN (y::r') 0=some y:=rfl;rw[hL,h0];cases hy:y.Kind==42<;>simp[hy]
   simp only[zj6,zhV];rw[qz9 hlt];have hs:=hstep _ (qz9 hlt);simp only;cases hq:(isP k ((((fx++ot)[min i ((fx++ot).length -1)]).toNat:Nat):Int)&&zat k)with
   |false=>
     refine zaL ?_;rw[hs,hq];rfl
   |true=>
     rw[hq]at hs;simp only[yB]at hs;rw[qz3,zbV hs,zFi g x fx ot hg hlen hf ho hls r (i+1) _ h2 (by split<;>omega) (by omega),Bool.true_and]
theorem zQp(g:zas)(x:Node)(hb:zU x<=2097152)(hg: ∀k∈x.L,∀c:Int,g.ziY k c=some (isP k c&&zat k,())):znm g x=some (zat x,()):=by
 have e:=zaA x;have l1:=zmy x.L;have l2:=zr7 x.Names;have l3: ∀s∈x.Names,s.length<=1000000000:=λs hs=>by have:=zI4 hs;omega
 unfold znm;rw[zre];unfold zzB zan;obtain⟨f,b,h1,h2⟩:=zSu x;simp only[zCQ,qz4,yT]at h2;obtain⟨k1,k2,k3⟩:=h2;rw[zq,h1];cases b with
 |false=>rfl
 |true=>
   simp only[qz1,yO,qz2,yA,zPM x f.name k1 (by omega) (by omega),zvf x.Text (by omega),zt9 x.Names (by omega) l3,zD3 f.l (by omega)];have d1:decide (x.Num<0)= !(decide (0<=x.Num)):=by rw[<-decide_not,decide_eq_decide];omega
   have d2:decide (x.Num>f.num)= !(decide (x.Num<=f.num)):=by rw[<-decide_not,decide_eq_decide];omega
   have d3:decide (((x.Names.length:Nat):Int)>0)= !x.Names.isEmpty:=by cases x.Names with
     |nil=>rfl
     |cons a l=>simp
   have d4:decide (((x.L.length:Nat):Int)< (((zf1 f.l).length:Nat):Int))= !(decide ((zf1 f.l).length<=x.L.length)):=by rw[<-decide_not,decide_eq_decide];omega
   have d5:decide (((x.L.length:Nat):Int)>(((zf1 f.l).length:Nat):Int))= !(decide (x.L.length<=(zf1 f.l).length)):=by rw[<-decide_not,decide_eq_decide];omega
   rw[d1,d2,d3,d4,d5]
   have hfx:(zf1 f.l).length<=1000:=by
     have:(zf1 f.l).length<=f.l.length:=List.IsPrefix.length_le (List.takeWhile_prefix _);omega
   have hot:(zoI f.l).length<=1000:=by
     have:(zoI f.l).length<=f.l.length:=by
      unfold zoI;rw[List.length_drop];have:=List.IsSuffix.length_le (List.dropWhile_suffix (l:=f.l) (λc:UInt8=>c !=42));omega
     omega
   have hloop:zjd x f.l=true->Lp.loop (zia g) (zf1 f.l,zoI f.l,0,x.L,((x.L.length:Nat):Int),0,x,())=some (zhV x (zf1 f.l++zoI f.l) (zj6 x.L) 0 0,()):=λhm=>by
     refine zdy (n:=x.L.length+1) ?_ (by omega);refine zFi g x _ _ hg (by omega) hfx hot (λhne=>?_) x.L 0 0 rfl (yJ _) (Nat.zero_le _);intro he;obtain⟨e1,e2⟩:=List.append_eq_nil_iff.1 he;unfold zjd at hm;rw[e1]at hm;simp only[qz4,yQ,yT,qz6]at hm;rcases hm.2 with hm|hm
     ·rw[e2,hm]at k3;simp at k3
     ·exact hne (List.length_eq_zero_iff.1 (by omega))
   unfold zwr;cases zaV x f.name with
   |false=>rfl
   |true=>
     cases decide (0<=x.Num)with
     |false=>rfl
     |true=>
      cases decide (x.Num<=f.num)with
      |false=>rfl
      |true=>
       cases zhu x.Text with
       |false=>rfl
       |true=>
        cases ht:(x.Text==([]:Str))<;>cases f.text<;>cases x.Names.isEmpty<;>cases f.names<;>cases x.Names.all zbU<;>try rfl
        all_goals
         simp only[yO,yN,Bool.or_false,Bool.or_true,Bool.and_true,Bool.and_false,Bool.true_and,Bool.false_and,qz2,yA,Bool.false_or,Bool.true_or];cases hm:zjd x f.l with
         |true=>
          have hm':=hm;unfold zjd at hm';simp only[qz4]at hm';rw[hm'.1]
          have:(!f.l.contains 42&& !decide (x.L.length<=(zf1 f.l).length))=false:=by
           cases hc:f.l.contains 42 with
           |true=>rfl
           |false=>rw[hc]at hm';simpa using hm'.2
          simp only[this,yO,Bool.or_false,qz2,yA,hloop hm,Bool.true_and]
         |false=>
          unfold zjd at hm
          have:(!decide ((zf1 f.l).length<=x.L.length)||(!f.l.contains 42&& !decide (x.L.length<=(zf1 f.l).length)))=true:=by
           cases hc:decide ((zf1 f.l).length<=x.L.length)with
           |false=>rfl
           |true=>
            rw[hc]at hm;cases hc2:f.l.contains 42 with
            |true=>rw[hc2]at hm;simp at hm
            |false=>rw[hc2]at hm;simpa using hm
          simp only[this,yB,Bool.false_and]
theorem zRf: ∀(n:Nat) (x:Node),2*zW x<=n->zU x<=2097152->(zdN n).zbh x=some (zat x,())
 |0,x,h,_=>by have:=zaR x;omega
 |1,x,h,_=>by have:=zaR x;omega
 |n+2,x,h,hb=>by
   have a1:=zaR x;have a2:=zaA x;show znm (zdN (n+1)) x=_;refine zQp _ x hb λk hk c=>?_
   show zjO (zdN n) k c=_;rw[zSE,zAY];have hk2:=za7 hk;have hk3:=zaT hk;rw[zRf n k (by omega) (by omega)];cases isP k c<;>simp
theorem zKc(x:Node)(hb:zU x<=2097152):zbh x=some (zat x,()):=
 zRf _ x (by have:=zpd x;have:=zkL x;show 2*zW x<=1000000000000;omega) hb
def zng(x:Node):Int:=if(x.Kind==41&&zat x)=true then(if zW x>64 then 31 else 0)else 70
theorem zF7(x:Node)(hb:zU x<=2097152):zqs x=some (zng x,()):=by
 unfold zqs zng;have h1:=zkL x;simp only[zq,zKc x hb,zzC x (by omega),qz1];cases hk:x.Kind==41 with
 |false=>
   have:(x.Kind !=41)=true:=by unfold bne;rw[hk];rfl
   simp[this]
 |true=>
   have:(x.Kind !=41)=false:=by unfold bne;rw[hk];rfl
   simp only[this,qz2,yA,Bool.true_and];cases zat x with
   |false=>rfl
   |true=>
     simp only[yO,qz2,yA,yB];by_cases hd:zW x>64
     ·have:((zW x:Nat):Int)>64:=by omega
      simp[this,hd]
     ·have: ¬((zW x:Nat):Int)>64:=by omega
      simp[this,hd]
end Go.D08
namespace Go.D08
open Go Go.Gw Go.Dn
noncomputable section
inductive Tk where
 |mk (x:Node) (lvl:Int) (ex:Bool->List Str) (st:List Str) (kids:List Tk)
def Tk.x:Tk->Node| .mk x _ _ _ _=>x
def Tk.lvl:Tk->Int| .mk _ l _ _ _=>l
def Tk.ex:Tk->Bool->List Str| .mk _ _ e _ _=>e
def Tk.st:Tk->List Str| .mk _ _ _ s _=>s
def Tk.kids:Tk->List Tk| .mk _ _ _ _ k=>k
def zdm(s:Str):Str:=match zeK s with
 |some (q,_,_)=>q
 |none=>[]
def op5:Str:=[32,61,61,32,33,61,32,61,61,61,32,33,61,61,32]
def op7:Str:=[32,43,32,45,32]
def op8:Str:=[32,42,32,47,32,37,32]
def zjl(x:Node)(ks:List Tk):Int:=
 if(x.Kind==21)=true then 0
 else if(x.Kind==20)=true then 1
 else if(x.Kind==19)=true then 2
 else if(x.Kind==18)=true then 4 -Lib.index [38,124] (x.Name.take 1)
 else if(x.Kind==17)=true then(if zcb op5 x.Name=true then 5 else if zcb op7 x.Name=true then 7 else if zcb op8 x.Name=true then 8 else 6)
 else if(x.Kind==15)=true then 9
 else if(x.Kind==16)=true then 10 -x.Num
 else if(x.Kind==13)=true then 11
 else if(x.Kind==11||x.Kind==12)=true then(match ks with|k::_=>min (max k.lvl 11) 12| []=>0)
 else if(x.Kind==14)=true then 12
 else 13
def atT(t:Tk)(least:Int)(no:Bool):List Str:=
 if(decide (t.lvl<least)||((no&&(t.x.Kind==17))&&(t.x.Name==([105,110]:Str))))=true then[40]::(t.ex false++[[41]])else t.ex no
def k0(ks:List Tk)(f:Tk->List Str):List Str:=match ks with|k::_=>f k| []=>[]
def k1(ks:List Tk)(f:Tk->List Str):List Str:=match ks with|_::k::_=>f k|_=>[]
def k2(ks:List Tk)(f:Tk->List Str):List Str:=match ks with|_::_::k::_=>f k|_=>[]
def k3(ks:List Tk)(f:Tk->List Str):List Str:=match ks with|_::_::_::k::_=>f k|_=>[]
def commas(f:Tk->List Str):List Tk->List Str
 | []=>[]
 |k::r=>f k++r.flatMap λq=>[44]::f q
def zah(no:Bool)(t:Tk):List Str:=if(t.x.Kind==9)=true then zdm t.x.Text::[58]::k0 t.kids λk=>atT k 1 no else atT t 1 no
def declT(no:Bool)(t:Tk):List Str:=t.x.Name::k0 t.kids λk=>[61]::atT k 1 no
def zaG(t:Tk)(least:Int)(no:Bool):List Str:=
 if(t.x.Kind==42)=true then[]
 else if(t.x.Kind==22)=true then[118,97,114]::commas (declT no) t.kids
 else atT t least no
def namesT:List Str->List Str
 | []=>[]
 |s::r=>s::r.flatMap λq=>[[44],q]
def zY(ks:List Tk):List Str:=ks.flatMap Tk.st
def zf7(x:Node)(ks:List Tk):List Str:=
 [102,117,110,99,116,105,111,110]::((if(x.Name==([]:Str))=true then[]else[x.Name])++([40]::(namesT x.Names++([41]::[123]::(zY ks++[[125]])))))
def zc6(w:Str)(t:Tk):List Str:=w::[40]::(atT t 0 false++[[41]])
def exT(x:Node)(lvl:Int)(ks:List Tk)(no:Bool):List Str:=
 if(x.Kind==1)=true then[Lib.itoa x.Num]
 else if(x.Kind==2)=true then[zdm x.Text]
 else if(x.Kind==3)=true then[x.Name]
 else if(x.Kind==4)=true then[[116,104,105,115]]
 else if(x.Kind==5)=true then[[110,117,108,108]]
 else if(x.Kind==6)=true then[Lib.formatBool (x.Num==1)]
 else if(x.Kind==7)=true then[91]::(commas (zah false) ks++[[93]])
 else if(x.Kind==8)=true then[123]::(commas (zah false) ks++[[125]])
 else if(x.Kind==10)=true then zf7 x ks
 else if(x.Kind==11)=true then k0 ks (λk=>atT k 11 no)++[[46],x.Name]
 else if(x.Kind==12)=true then k0 ks (λk=>atT k 11 no)++([91]::(k1 ks (λk=>atT k 0 false)++[[93]]))
 else if(x.Kind==13)=true then k0 ks (λk=>atT k 11 no)++([40]::(commas (zah false) ks.tail++[[41]]))
 else if(x.Kind==14)=true then[110,101,119]::(k0 ks (λk=>atT k 12 no)++([40]::(commas (zah false) ks.tail++[[41]])))
 else if(x.Kind==15)=true then x.Name::k0 ks λk=>atT k 9 no
 else if(x.Kind==16)=true then(if(x.Num==1)=true then x.Name::k0 ks λk=>atT k 11 no else k0 ks (λk=>atT k 11 no)++[x.Name])
 else if(x.Kind==19)=true then k0 ks (λk=>atT k 3 no)++([63]::(k1 ks (λk=>atT k 1 false)++([58]::k2 ks λk=>atT k 1 no)))
 else if(x.Kind==20)=true then k0 ks (λk=>atT k 11 no)++(x.Name::k1 ks λk=>atT k 1 no)
 else if(x.Kind==21)=true then k0 ks (λk=>atT k 0 no)++([44]::k1 ks λk=>atT k 1 no)
 else k0 ks (λk=>atT k lvl no)++(x.Name::k1 ks λk=>atT k (lvl+1) no)
def zb1(l:List Str):List Str:=match l with
 | []=>[]
 |w::r=>if(w==([123]:Str)||w==([102,117,110,99,116,105,111,110]:Str))=true then[40]::((w::r)++[[41]])else w::r
def zhx(x:Node):List Str:=
 (if(x.Kind==31)=true then[[98,114,101,97,107]]else if(x.Kind==32)=true then[[99,111,110,116,105,110,117,101]]else if(x.Kind==33)=true then[[114,101,116,117,114,110]]else if(x.Kind==34)=true then[[116,104,114,111,119]]else[])
  ++(if(x.Name==([]:Str))=true then[]else[x.Name])
def stT(x:Node)(ks:List Tk):List Str:=
 if(x.Kind==22)=true then([118,97,114]::commas (declT false) ks)++[[59]]
 else if(x.Kind==24)=true then zb1 (k0 ks λk=>atT k 0 false)++[[59]]
 else if(x.Kind==25)=true then[123]::(zY ks++[[125]])
 else if(x.Kind==26)=true then k0 ks (zc6 [105,102])++(k1 ks Tk.st++k2 ks λk=>[101,108,115,101]::k.st)
 else if(x.Kind==27)=true then k0 ks (zc6 [119,104,105,108,101])++k1 ks Tk.st
 else if(x.Kind==28)=true then[100,111]::(k0 ks Tk.st++(k1 ks (zc6 [119,104,105,108,101])++[[59]]))
 else if(x.Kind==29)=true then[102,111,114]::[40]::(k0 ks (λk=>zaG k 0 true)++([59]::(k1 ks (λk=>zaG k 0 false)++([59]::(k2 ks (λk=>zaG k 0 false)++([41]::k3 ks Tk.st))))))
 else if(x.Kind==30)=true then[102,111,114]::[40]::(k0 ks (λk=>zaG k 11 true)++([105,110]::(k1 ks (λk=>atT k 0 false)++([41]::k2 ks Tk.st))))
 else if(x.Kind==35)=true then[116,114,121]::(k0 ks Tk.st++(k1 ks (λk=>if(k.x.Kind==25)=true then[99,97,116,99,104]::[40]::x.Name::[41]::k.st else[])++k2 ks λk=>if(k.x.Kind==25)=true then[102,105,110,97,108,108,121]::k.st else[]))
 else if(x.Kind==36)=true then k0 ks (zc6 [115,119,105,116,99,104])++([123]::(zY ks.tail++[[125]]))
 else if(x.Kind==37)=true then k0 ks (λk=>(if(k.x.Kind !=42)=true then[99,97,115,101]else[100,101,102,97,117,108,116])::zaG k 0 false)++([58]::zY ks.tail)
 else if(x.Kind==38)=true then x.Name::[58]::k0 ks Tk.st
 else if(x.Kind==39)=true then zf7 x ks
 else zhx x++(ks.flatMap (λk=>atT k 0 false)++[[59]])
mutual
def tkN:Node->Tk
 | ⟨k,n,m,t,ns,l⟩=>
  let x:Node:=⟨k,n,m,t,ns,l⟩
  let ks:=tkL l
  .mk x (zjl x ks) (exT x (zjl x ks) ks) (stT x ks) ks
def tkL:List Node->List Tk
 | []=>[]
 |x::r=>tkN x::tkL r
end
theorem za0(x:Node):tkN x= .mk x (zjl x (tkL x.L)) (exT x (zjl x (tkL x.L)) (tkL x.L)) (stT x (tkL x.L)) (tkL x.L):=by cases x;simp[tkN]
theorem zAx: ∀l:List Node,tkL l=l.map tkN
 | []=>by simp[tkL]
 |x::r=>by simp[tkL,zAx r]
end
end Go.D08
namespace Go.D08
open Go Go.Gw Go.Dn
set_option maxRecDepth 100000
structure Tok where
 kind:Nat
 text:Str
 num:Int
 fresh:Bool
abbrev zB:=List Tok
def opK(t:Tok):Bool:=t.kind==5||t.kind==2
def tIs(s:Str):zB->Bool
 |t::_=>opK t&&(t.text==s)
 | []=>false
def zbv(l:List Str):zB->Bool
 |t::_=>opK t&&l.contains t.text
 | []=>false
def tText:zB->Str
 |t::_=>t.text
 | []=>[]
def zX:zB->Nat
 |t::_=>t.kind
 | []=>0
def ze6:zB->Bool
 |t::_=>t.fresh
 | []=>false
def ztP:List Str:=[[45],[43],[33],[116,121,112,101,111,102],[100,101,108,101,116,101],[118,111,105,100]]
def zir:List Str:=[[43,43],[45,45]]
def zt6:List Str:=[[61],[43,61],[45,61],[42,61],[47,61],[37,61]]
def eqL:List Str:=[[61,61],[33,61],[61,61,61],[33,61,61]]
def ltL:List Str:=[[60],[62],[60,61],[62,61],[105,110,115,116,97,110,99,101,111,102]]
def zEu:List Str:=[[43],[45]]
def mulL:List Str:=[[42],[47],[37]]
def lvS(no:Bool)(s:Str):Int×Int:=
 if(s==([124,124]:Str))=true then(3,18)
 else if(s==([38,38]:Str))=true then(4,18)
 else if eqL.contains s=true then(5,17)
 else if(ltL.contains s||(!no&&s==([105,110]:Str)))=true then(6,17)
 else if zEu.contains s=true then(7,17)
 else if mulL.contains s=true then(8,17)
 else(0,0)
def zdo(no:Bool):zB->Int×Int
 |t::_=>if opK t=true then lvS no t.text else(0,0)
 | []=>(0,0)
abbrev PR(α:Type):=Option (Nat⊕(α×zB))
abbrev gt{α:Type}(q:α×zB):PR α:=some (.inr q)
abbrev bad{α:Type}(t:zB):PR α:=some (.inl t.length)
def PR.bd{α β:Type}(x:PR α)(f:α×zB->PR β):PR β:=match x with|none=>none|some (.inl k)=>some (.inl k)|some (.inr p)=>f p
def PR.bn{β:Type}(x:PR Unit)(f:zB->PR β):PR β:=x.bd λq=>f q.2
theorem zd1{α β:Type}(q:α×zB)(f:α×zB->PR β):PR.bd (some (.inr q)) f=f q:=rfl
theorem zfy{β:Type}(q:Unit×zB)(f:zB->PR β):PR.bn (some (.inr q)) f=f q.2:=rfl
def zaC(s:Str)(t:zB):PR Unit:=if tIs s t=true then gt ((),t.tail)else bad t
structure PG where
 expr:Bool->zB->PR Node
 comma:Bool->Node->zB->PR Node
 assign:Bool->zB->PR Node
 binary:Bool->Int->zB->PR Node
 bins:Bool->Int->Node->zB->PR Node
 unary:zB->PR Node
 mems:Bool->Node->zB->PR Node
 made:zB->PR Node
 prim:zB->PR Node
 exprs:Str->Bool->zB->PR (List Node)
 props:zB->PR (List Node)
 func:Int->zB->PR Node
 vars:Bool->zB->PR (List Node)
 block:zB->PR Node
 head:zB->PR Node
 till:Str->zB->PR Node
 loop:zB->PR Node
 cases:Bool->zB->PR (List Node)
 body:zB->PR (List Node)
 stmt:zB->PR Node
 stmts:Bool->zB->PR (List Node)
def nd(k:Int)(l:List Node):Node:=⟨k,[],0,[],[],l⟩
def ndN(k:Int)(s:Str)(l:List Node):Node:=⟨k,s,0,[],[],l⟩
section
variable (g:PG)
def zAO(no:Bool)(t:zB):PR Node:=(g.assign no t).bd λq=>g.comma no q.1 q.2
def zlO(no:Bool)(x:Node)(t:zB):PR Node:=
 if tIs [44] t=true then(g.assign no t.tail).bd λq=>g.comma no (nd 21 [x,q.1]) q.2 else gt (x,t)
def zq8(no:Bool)(t:zB):PR Node:=(g.binary no 3 t).bd λq=>
 if tIs [63] q.2=true then(g.assign false q.2.tail).bd λy=>(zaC [58] y.2).bn λt=>(g.assign no t).bd λz=>gt (nd 19 [q.1,y.1,z.1],z.2)
 else if zbv zt6 q.2=true then(if zdw q.1.Kind=true then(g.assign no q.2.tail).bd λy=>gt (ndN 20 (tText q.2) [q.1,y.1],y.2)else bad q.2)
 else gt q
def zrd(no:Bool)(least:Int)(t:zB):PR Node:=(g.unary t).bd λq=>g.bins no least q.1 q.2
def zoO(no:Bool)(least:Int)(x:Node)(t:zB):PR Node:=
 if(decide ((zdo no t).1<least)||(zdo no t).1==0)=true then gt (x,t)
 else(g.binary no ((zdo no t).1+1) t.tail).bd λy=>g.bins no least (ndN (zdo no t).2 (tText t) [x,y.1]) y.2
def zhW(t:zB):PR Node:=
 if zbv ztP t=true then(g.unary t.tail).bd λy=>gt (ndN 15 (tText t) [y.1],y.2)
 else if zbv zir t=true then(g.unary t.tail).bd λy=>if zdw y.1.Kind=true then gt (⟨16,tText t,1,[],[],[y.1]⟩,y.2)else bad y.2
 else(g.made t).bd λq=>(g.mems true q.1 q.2).bd λq=>
  if(!zbv zir q.2||ze6 q.2)=true then gt q else if zdw q.1.Kind=true then gt (ndN 16 (tText q.2) [q.1],q.2.tail)else bad q.2
def zjq(calls:Bool)(x:Node)(t:zB):PR Node:=
 if tIs [46] t=true then(if(zX t.tail==1||zX t.tail==2)=true then g.mems calls (ndN 11 (tText t.tail) [x]) t.tail.tail else bad t.tail)
 else if tIs [91] t=true then(g.expr false t.tail).bd λk=>(zaC [93] k.2).bn λt=>g.mems calls (nd 12 [x,k.1]) t
 else if(calls&&tIs [40] t)=true then(g.exprs [41] false t.tail).bd λl=>g.mems calls (nd 13 (x::l.1)) l.2
 else gt (x,t)
def zoV(t:zB):PR Node:=
 if tIs [110,101,119] t=true then(g.made t.tail).bd λq=>(g.mems false q.1 q.2).bd λq=>
  if tIs [40] q.2=true then(g.exprs [41] false q.2.tail).bd λl=>gt (nd 14 (q.1::l.1),l.2)else gt (nd 14 [q.1],q.2)
 else g.prim t
def zdY(t:zB):PR Node:=
 if(zX t==1)=true then gt (ndN 3 (tText t) [],t.tail)
 else if(zX t==3)=true then(match t with|a::r=>gt (⟨1,[],a.num,[],[],[]⟩,r)| []=>none)
 else if(zX t==4)=true then gt (⟨2,[],0,tText t,[],[]⟩,t.tail)
 else if tIs [116,104,105,115] t=true then gt (nd 4 [],t.tail)
 else if tIs [110,117,108,108] t=true then gt (nd 5 [],t.tail)
 else if tIs [102,97,108,115,101] t=true then gt (nd 6 [],t.tail)
 else if tIs [116,114,117,101] t=true then gt (⟨6,[],1,[],[],[]⟩,t.tail)
 else if tIs [102,117,110,99,116,105,111,110] t=true then g.func 10 t.tail
 else if tIs [40] t=true then(g.expr false t.tail).bd λk=>(zaC [41] k.2).bn λt=>gt (k.1,t)
 else if tIs [91] t=true then(g.exprs [93] true t.tail).bd λl=>gt (nd 7 l.1,l.2)
 else if tIs [123] t=true then(g.props t.tail).bd λl=>gt (nd 8 l.1,l.2)
 else bad t
def zg0(shut:Str)(last:Bool)(t:zB):PR (List Node):=
 if tIs shut t=true then gt ([],t.tail)
 else(g.assign false t).bd λx=>
  if tIs shut x.2=true then gt ([x.1],x.2.tail)
  else(zaC [44] x.2).bn λt=>if(!last&&tIs shut t)=true then bad t else(g.exprs shut last t).bd λl=>gt (x.1::l.1,l.2)
def wide(s:Str):Str:=s.flatMap λb=>[0,b]
def zEr:zB->PR Str
 |a::r=>if(a.kind==4)=true then gt (a.text,r)else if(a.kind==3)=true then gt (wide (Lib.itoa a.num),r)else if(a.kind==1||a.kind==2)=true then gt (wide a.text,r)else bad (a::r)
 | []=>none
def zhU(t:zB):PR (List Node):=
 if tIs [125] t=true then gt ([],t.tail)
 else(zEr t).bd λk=>(zaC [58] k.2).bn λt1=>(g.assign false t1).bd λx=>
  if tIs [125] x.2=true then gt ([⟨9,[],0,k.1,[],[x.1]⟩],x.2.tail)
  else(zaC [44] x.2).bn λt2=>(g.props t2).bd λl=>gt (⟨9,[],0,k.1,[],[x.1]⟩::l.1,l.2)
def zjy:zB->PR (List Str)
 |a::b::r=>if(a.kind==1)=true then(if tIs [41] (b::r)=true then gt ([a.text],r)else if tIs [44] (b::r)=true then(if tIs [41] r=true then bad r else(zjy r).bd λl=>gt (a.text::l.1,l.2))else bad (b::r))else bad (a::b::r)
 | [a]=>bad [a]
 | []=>none
def zfL(t:zB):PR (List Str):=if tIs [41] t=true then gt ([],t.tail)else zjy t
def ztm(kind:Int)(t:zB):PR Node:=
 (if(zX t==1)=true then gt (tText t,t.tail)else if(kind==39)=true then bad t else gt ([],t)).bd λm=>(zaC [40] m.2).bn λt=>(zfL t).bd λns=>(zaC [123] ns.2).bn λt=>(g.stmts true t).bd λl=>(zaC [125] l.2).bn λt=>gt (⟨kind,m.1,0,[],ns.1,l.1⟩,t)
def zm3(no:Bool)(t:zB):PR (List Node):=
 if(zX t==1)=true then
  (if tIs [61] t.tail=true then(g.assign no t.tail.tail).bd λy=>gt ([y.1],y.2)else gt ([],t.tail)).bd λd=>
   if tIs [44] d.2=true then(g.vars no d.2.tail).bd λl=>gt (ndN 23 (tText t) d.1::l.1,l.2)else gt ([ndN 23 (tText t) d.1],d.2)
 else bad t
def zlS(t:zB):PR Node:=(zaC [123] t).bn λt=>(g.stmts false t).bd λl=>(zaC [125] l.2).bn λt=>gt (nd 25 l.1,t)
def ztt(t:zB):PR Node:=(zaC [40] t).bn λt=>(g.expr false t).bd λx=>(zaC [41] x.2).bn λt=>gt (x.1,t)
def zlN(s:Str)(t:zB):PR Node:=if tIs s t=true then gt (nd 42 [],t.tail)else(g.expr false t).bd λx=>(zaC s x.2).bn λt=>gt (x.1,t)
def zk2(t:zB):Bool:=tIs [125] t||zX t==0||ze6 t
def zgN(t:zB):PR Unit:=if tIs [59] t=true then gt ((),t.tail)else if zk2 t=true then gt ((),t)else bad t
def zbf(x:Node):Node:=if(x.Kind==25)=true then x else nd 25 [x]
def zl9(x:Node):Bool:=if(x.Kind==22)=true then(match x.L with| [d]=>d.L.isEmpty|_=>false)else zdw x.Kind
def znz(t:zB):PR Node:=
 if tIs [118,97,114] t=true then(g.vars true t.tail).bd λl=>gt (nd 22 l.1,l.2)
 else if tIs [59] t=true then gt (nd 42 [],t)else g.expr true t
def zoL(t:zB):PR Node:=(zaC [40] t).bn λt=>(znz g t).bd λq=>
 if(zl9 q.1&&tIs [105,110] q.2)=true then(g.expr false q.2.tail).bd λx=>(zaC [41] x.2).bn λt=>(g.stmt t).bd λb=>gt (nd 30 [q.1,x.1,zbf b.1],b.2)
 else(zaC [59] q.2).bn λt=>(g.till [59] t).bd λx=>(g.till [41] x.2).bd λy=>(g.stmt y.2).bd λb=>gt (nd 29 [q.1,x.1,y.1,zbf b.1],b.2)
def zm2(t:zB):PR (Str×Node):=
 if tIs [99,97,116,99,104] t=true then(zaC [40] t.tail).bn λt=>if(zX t==1)=true then(zaC [41] t.tail).bn λt1=>(g.block t1).bd λb=>gt ((tText t,b.1),b.2)else bad t
 else gt (([],nd 42 []),t)
def zkE(t:zB):PR Node:=if tIs [102,105,110,97,108,108,121] t=true then g.block t.tail else gt (nd 42 [],t)
def zEA(t:zB):PR Node:=(g.block t).bd λb=>(zm2 g b.2).bd λc=>(zkE g c.2).bd λf=>
 if(f.1.Kind==42&&c.1.2.Kind==42)=true then bad f.2 else gt (ndN 35 c.1.1 [b.1,c.1.2,f.1],f.2)
def zjJ(others:Bool)(t:zB):PR (List Node):=
 if tIs [125] t=true then gt ([],t.tail)
 else if(others&&tIs [100,101,102,97,117,108,116] t)=true then(zaC [58] t.tail).bn λt=>(g.body t).bd λl=>(g.cases false l.2).bd λr=>gt (nd 37 (nd 42 []::l.1)::r.1,r.2)
 else(zaC [99,97,115,101] t).bn λt=>(g.expr false t).bd λx=>(zaC [58] x.2).bn λt=>(g.body t).bd λl=>(g.cases others l.2).bd λr=>gt (nd 37 (x.1::l.1)::r.1,r.2)
def zoM(t:zB):PR (List Node):=
 if(zbv [[99,97,115,101],[100,101,102,97,117,108,116],[125]] t||zX t==0)=true then gt ([],t)else(g.stmt t).bd λx=>(g.body x.2).bd λl=>gt (x.1::l.1,l.2)
def zkm(k:Int)(t:zB):PR Node:=
 if(zX t==1&& !ze6 t)=true then(zgN t.tail).bn λt1=>gt (ndN k (tText t) [],t1)else(zgN t).bn λt=>gt (nd k [],t)
def zbO(t:zB):PR Node:=
 if tIs [123] t=true then g.block t
 else if tIs [59] t=true then gt (nd 40 [],t.tail)
 else if tIs [118,97,114] t=true then(g.vars false t.tail).bd λl=>(zgN l.2).bn λt=>gt (nd 22 l.1,t)
 else if tIs [105,102] t=true then(g.head t.tail).bd λx=>(g.stmt x.2).bd λb=>if tIs [101,108,115,101] b.2=true then(g.stmt b.2.tail).bd λc=>gt (nd 26 [x.1,zbf b.1,zbf c.1],c.2)else gt (nd 26 [x.1,zbf b.1],b.2)
 else if tIs [119,104,105,108,101] t=true then(g.head t.tail).bd λx=>(g.stmt x.2).bd λb=>gt (nd 27 [x.1,zbf b.1],b.2)
 else if tIs [100,111] t=true then(g.stmt t.tail).bd λb=>(zaC [119,104,105,108,101] b.2).bn λt=>(g.head t).bd λx=>(zgN x.2).bn λt=>gt (nd 28 [zbf b.1,x.1],t)
 else if tIs [102,111,114] t=true then g.loop t.tail
 else if tIs [98,114,101,97,107] t=true then zkm 31 t.tail
 else if tIs [99,111,110,116,105,110,117,101] t=true then zkm 32 t.tail
 else if tIs [114,101,116,117,114,110] t=true then(if(!tIs [59] t.tail&& !zk2 t.tail)=true then(g.expr false t.tail).bd λx=>(zgN x.2).bn λt=>gt (nd 33 [x.1],t)else(zgN t.tail).bn λt=>gt (nd 33 [],t))
 else if tIs [116,104,114,111,119] t=true then(if ze6 t.tail=true then bad t.tail else(g.expr false t.tail).bd λx=>(zgN x.2).bn λt=>gt (nd 34 [x.1],t))
 else if tIs [116,114,121] t=true then zEA g t.tail
 else if tIs [115,119,105,116,99,104] t=true then(g.head t.tail).bd λx=>(zaC [123] x.2).bn λt=>(g.cases true t).bd λl=>gt (nd 36 (x.1::l.1),l.2)
 else if tIs [102,117,110,99,116,105,111,110] t=true then bad t
 else if(zX t==1&&tIs [58] t.tail)=true then(g.stmt t.tail.tail).bd λx=>gt (ndN 38 (tText t) [x.1],x.2)
 else(g.expr false t).bd λx=>(zgN x.2).bn λt=>gt (nd 24 [x.1],t)
def ziA(funcs:Bool)(t:zB):PR (List Node):=
 if(tIs [125] t||zX t==0)=true then gt ([],t)
 else(if(funcs&&tIs [102,117,110,99,116,105,111,110] t)=true then g.func 39 t.tail else g.stmt t).bd λx=>(g.stmts funcs x.2).bd λl=>gt (x.1::l.1,l.2)
end
def pG:Nat->PG
 |0=>⟨λ_ _=>none,λ_ _ _=>none,λ_ _=>none,λ_ _ _=>none,λ_ _ _ _=>none,λ_=>none,λ_ _ _=>none,λ_=>none,λ_=>none,λ_ _ _=>none,λ_=>none,λ_ _=>none,λ_ _=>none,λ_=>none,λ_=>none,λ_ _=>none,λ_=>none,λ_ _=>none,λ_=>none,λ_=>none,λ_ _=>none⟩
 |n+1=>⟨zAO (pG n),zlO (pG n),zq8 (pG n),zrd (pG n),zoO (pG n),zhW (pG n),zjq (pG n),zoV (pG n),zdY (pG n),zg0 (pG n),zhU (pG n),ztm (pG n),zm3 (pG n),zlS (pG n),ztt (pG n),zlN (pG n),zoL (pG n),zjJ (pG n),zoM (pG n),zbO (pG n),ziA (pG n)⟩
end Go.D08
namespace Go.D08
open Go Go.Gw Go.Dn Go.Proofs
set_option maxRecDepth 100000
def tk(t:zu):Tok:=⟨t.Kind.toNat,t.Text,t.Num,t.Fresh⟩
structure TOk (L:List zu):Prop where
 kinds: ∀t∈L,0<=t.Kind/\t.Kind<=5
 texts: ∀t∈L,t.Text.length<=1000000
 plain: ∀t∈L,opK (tk t)=true->(32:UInt8)∉t.Text
 ascii: ∀t∈L,t.Kind=1\/t.Kind=2->∀b∈t.Text,b<128
 colon: ∀t∈L,t.Kind=2->t.Text≠[58]
 nums: ∀t∈L,t.Kind=3->0<=t.Num/\t.Num<=9007199254740991
 last: ∃a e,L=a++[e]/\e.Kind=0/\∀t∈a,t.Kind≠0
theorem TOk.cons{L:List zu}(h:TOk L): ∃a r,L=a::r:=by
 obtain⟨a,e,h1,_⟩:=h.last;cases L with
 |nil=>simp at h1
 |cons x r=>exact⟨x,r,rfl⟩
theorem TOk.tail{x:zu}{r:List zu}(h:TOk (x::r))(hx:x.Kind≠0):TOk r:=by
 refine⟨λt ht=>h.kinds t (qz8 _ ht),λt ht=>h.texts t (qz8 _ ht),λt ht=>h.plain t (qz8 _ ht),λt ht=>h.ascii t (qz8 _ ht),λt ht=>h.colon t (qz8 _ ht),λt ht=>h.nums t (qz8 _ ht),?_⟩;obtain⟨a,e,h1,h2,h3⟩:=h.last;cases a with
 |nil=>simp at h1;rw[h1.1]at hx;exact absurd h2 hx
 |cons y a=>simp at h1;exact⟨a,e,h1.2,h2,λt ht=>h3 t (qz8 _ ht)⟩
theorem zS(x:zh):zk x=x:=by cases x;rfl
theorem zNW(x:zu):zBR x=x:=by cases x;rfl
theorem zow{x:zu}(hk:0<=x.Kind)(n:Nat):(x.Kind==(n:Int))=((tk x).kind==n):=by
 unfold tk;rw[Bool.eq_iff_iff,beq_iff_eq,beq_iff_eq];simp only;omega
abbrev pp(L:List zu)(no:Bool):zh:=⟨L,no⟩
theorem zdG{α:Type}(x:α)(r:List α):zN (x::r) 0=some x:=rfl
theorem ztg{L:List zu}{no:Bool}(h:TOk L)(s:Str):za6 s (pp L no)=some (tIs s (L.map tk),pp L no,()):=by
 obtain⟨x,r,rfl⟩:=h.cons;have hk:=(h.kinds x qz7).1;have k5:=zow hk 5;have k2:=zow hk 2;rw[show((5:Nat):Int)=5 from rfl]at k5;rw[show((2:Nat):Int)=2 from rfl]at k2;unfold za6;simp only[zdG,qz1,zS,k5,k2,List.map_cons,tIs,opK];cases(tk x).kind==5<;>cases(tk x).kind==2<;>simp[tk]
theorem zEP{x:zu}{r:List zu}{no:Bool}(hx:x.Kind≠0):zav (pp (x::r) no)=some (x,pp r no,()):=by
 unfold zav;have e:(x.Kind !=0)=true:=by rw[bne_iff_ne];exact hx
 have hc:zaI (x::r) 1 (((x::r).length:Nat):Int)=some r:=by
  have:=zc8 (x::r) 1 (by simp);simpa using this
 simp only[zdG,qz1,e,yB,hc,zNW]
theorem zPH{s:Str}{x:zu}{r:List zu}(h:tIs s ((x::r).map tk)=true):x.Kind≠0:=by
 intro e;simp[tIs,opK,tk,e]at h
theorem has_eq{L:List zu}{no:Bool}(h:TOk L)(s:Str):zG s (pp L no)=some (tIs s (L.map tk),pp (if tIs s (L.map tk)=true then L.tail else L) no,()):=by
 unfold zG;rw[zS,ztg h s];simp only[qz1,zS];cases hq:tIs s (L.map tk)with
 |false=>simp
 |true=>
  obtain⟨x,r,rfl⟩:=h.cons;simp only[yB];rw[zEP (zPH hq)];rfl
theorem zmj{L:List zu}{no:Bool}(h:TOk L)(ws:List Str)(list:Str)(hl:list=joined ws)(hw: ∀w∈ws,(32:UInt8)∉w)(hll:list.length<=1000000):zbl list (pp L no)=some (zbv ws (L.map tk),pp L no,()):=by
 obtain⟨x,r,rfl⟩:=h.cons;have hk:=(h.kinds x qz7).1;have ht:=h.texts x qz7;have hp:=h.plain x qz7;have k5:=zow hk 5;have k2:=zow hk 2;rw[show((5:Nat):Int)=5 from rfl]at k5;rw[show((2:Nat):Int)=2 from rfl]at k2
 have hb':(if(x.Kind==5)=true then some true else some (x.Kind==2))=some (opK (tk x)):=by
  rw[k5,k2];unfold opK;cases(tk x).kind==5<;>simp
 unfold zbl;simp only[zdG,qz1,zS];rw[hb'];simp only[qz1,List.map_cons,zbv];cases hq:opK (tk x)with
 |false=>simp
 |true=>
  simp only[yB,Bool.true_and];rw[zoF (by simp only[qz3,qz6];omega)]
  simp only[qz1];rw[zoF (by simp only[qz5,qz3,qz6];omega)]
  simp only[qz1];rw[U.zz7 list _ (by omega)];simp only[qz1];have:=zks x.Text (hp hq) ws hw;rw[hl,show([32]++x.Text++[32]:Str)=32::(x.Text++[32])from rfl,this];rfl
theorem zID{L:List zu}{no:Bool}(h:TOk L):zeA (pp L no)=some (zk2 (L.map tk),pp L no,()):=by
 have hi:=ztg (no:=no) h [125];unfold zeA zk2;rw[zS,hi];obtain⟨x,r,rfl⟩:=h.cons;have hk:=(h.kinds x qz7).1;have k0:=zow hk 0;rw[show((0:Nat):Int)=0 from rfl]at k0;simp only[qz1,zdG,k0,zS,List.map_cons,zX,ze6];cases tIs [125] (tk x::List.map tk r)<;>cases(tk x).kind==0<;>simp[tk]
theorem any_cons(ws:List Str)(x:zu)(t:zB):zbv ws (tk x::t)=(opK (tk x)&&ws.contains x.Text):=rfl
theorem zSz(s:Str)(x:zu)(t:zB):tIs s (tk x::t)=(opK (tk x)&&(x.Text==s)):=rfl
theorem zMf{L:List zu}{no:Bool}(h:TOk L):zgv (pp L no)=some ((zdo no (L.map tk)).1,(zdo no (L.map tk)).2,pp L no,()):=by
 have i1:=ztg (no:=no) h [124,124];have i2:=ztg (no:=no) h [38,38];have i3:=zmj (no:=no) h eqL ([32,61,61,32,33,61,32,61,61,61,32,33,61,61,32]:Str) (by decide+kernel) (by decide+kernel) (by decide);have i4:=zmj (no:=no) h ltL ([32,60,32,62,32,60,61,32,62,61,32,105,110,115,116,97,110,99,101,111,102,32]:Str) (by decide+kernel) (by decide+kernel) (by decide);have i5:=ztg (no:=no) h [105,110];have i6:=zmj (no:=no) h zEu ([32,43,32,45,32]:Str) (by decide+kernel) (by decide+kernel) (by decide);have i7:=zmj (no:=no) h mulL ([32,42,32,47,32,37,32]:Str) (by decide+kernel) (by decide+kernel) (by decide)
 have j1:zdS (pp L no)=some (if zbv zEu (L.map tk)=true then 7 else if zbv mulL (L.map tk)=true then 8 else 0,if zbv zEu (L.map tk)=true then 17 else if zbv mulL (L.map tk)=true then 17 else 0,pp L no,()):=by
  unfold zdS;simp only[zS,i6,i7,qz1];cases zbv zEu (L.map tk)<;>cases zbv mulL (L.map tk)<;>rfl
 unfold zgv;simp only[zS,i1,i2,i3,i4,i5,qz1,j1];obtain⟨x,r,rfl⟩:=h.cons;simp only[any_cons,zSz,List.map_cons,zdo];cases hq:opK (tk x)with
 |false=>cases no<;>simp
 |true=>
  simp only[Bool.true_and,yB];unfold lvS;rw[show(tk x).text=x.Text from rfl];cases x.Text==([124,124]:Str)with
  |true=>rfl
  |false=>
   simp only[qz2,yA];cases x.Text==([38,38]:Str)with
   |true=>rfl
   |false=>
    simp only[qz2,yA];cases eqL.contains x.Text with
    |true=>rfl
    |false=>
     simp only[qz2,yA];cases ltL.contains x.Text with
     |true=>simp
     |false=>
      simp only[Bool.false_or,qz2,yA];cases no<;>cases x.Text==([105,110]:Str)<;>cases zEu.contains x.Text<;>cases mulL.contains x.Text<;>rfl
end Go.D08
namespace Go.D08
open Go Go.Gw Go.Dn
set_option maxRecDepth 100000
def Le{α:Type}(x y:PR α):Prop:=∀r,x=some r->y=some r
theorem Le.rfl{α:Type}{x:PR α}:Le x x:=λ_ h=>h
theorem Le.bd{α β:Type}{x y:PR α}{f g:α×zB->PR β}(h:Le x y)(k: ∀q,Le (f q) (g q)):Le (x.bd f) (y.bd g):=by
 intro r e;cases x with
 |none=>cases e
 |some p=>
  rw[h _ Eq.refl];cases p with
  |inl j=>exact e
  |inr q=>exact k q r e
 where Eq.refl {x:Nat⊕(α×zB)}:(some x:PR α)=some x:=_root_.rfl
theorem Le.bn{β:Type}{x:PR Unit}{f g:zB->PR β}(k: ∀t,Le (f t) (g t)):Le (x.bn f) (x.bn g):=Le.bd Le.rfl λq=>k q.2
theorem Le.ite{α:Type}{c:Prop}[Decidable c]{a b a' b':PR α}(h:Le a a')(k:Le b b'):Le (if c then a else b) (if c then a' else b'):=by
 by_cases hc:c
 ·rw[yL hc,yL hc];exact h
 ·rw[yK hc,yK hc];exact k
structure PLe (g h:PG):Prop where
 expr: ∀a t,Le (g.expr a t) (h.expr a t)
 comma: ∀a x t,Le (g.comma a x t) (h.comma a x t)
 assign: ∀a t,Le (g.assign a t) (h.assign a t)
 binary: ∀a b t,Le (g.binary a b t) (h.binary a b t)
 bins: ∀a b x t,Le (g.bins a b x t) (h.bins a b x t)
 unary: ∀t,Le (g.unary t) (h.unary t)
 mems: ∀a x t,Le (g.mems a x t) (h.mems a x t)
 made: ∀t,Le (g.made t) (h.made t)
 prim: ∀t,Le (g.prim t) (h.prim t)
 exprs: ∀a b t,Le (g.exprs a b t) (h.exprs a b t)
 props: ∀t,Le (g.props t) (h.props t)
 func: ∀a t,Le (g.func a t) (h.func a t)
 vars: ∀a t,Le (g.vars a t) (h.vars a t)
 block: ∀t,Le (g.block t) (h.block t)
 head: ∀t,Le (g.head t) (h.head t)
 till: ∀a t,Le (g.till a t) (h.till a t)
 loop: ∀t,Le (g.loop t) (h.loop t)
 cases: ∀a t,Le (g.cases a t) (h.cases a t)
 body: ∀t,Le (g.body t) (h.body t)
 stmt: ∀t,Le (g.stmt t) (h.stmt t)
 stmts: ∀a t,Le (g.stmts a t) (h.stmts a t)
section
variable {g h:PG} (L:PLe g h)
include L
theorem zS2(a t):Le (zAO g a t) (zAO h a t):= .bd (L.assign _ _) λ_=>L.comma _ _ _
theorem zPK(a x t):Le (zlO g a x t) (zlO h a x t):= .ite (.bd (L.assign _ _) λ_=>L.comma _ _ _) .rfl
theorem zN6(a t):Le (zq8 g a t) (zq8 h a t):=
 .bd (L.binary _ _ _) λ_=> .ite (.bd (L.assign _ _) λ_=> .bn λ_=> .bd (L.assign _ _) λ_=> .rfl) (.ite (.ite (.bd (L.assign _ _) λ_=> .rfl) .rfl) .rfl)
theorem zNY(a b t):Le (zrd g a b t) (zrd h a b t):= .bd (L.unary _) λ_=>L.bins _ _ _ _
theorem zTy(a b x t):Le (zoO g a b x t) (zoO h a b x t):= .ite .rfl (.bd (L.binary _ _ _) λ_=>L.bins _ _ _ _)
theorem zQa(t):Le (zhW g t) (zhW h t):=
 .ite (.bd (L.unary _) λ_=> .rfl) (.ite (.bd (L.unary _) λ_=> .rfl) (.bd (L.made _) λ_=> .bd (L.mems _ _ _) λ_=> .rfl))
theorem zTp(a x t):Le (zjq g a x t) (zjq h a x t):=
 .ite (.ite (L.mems _ _ _) .rfl) (.ite (.bd (L.expr _ _) λ_=> .bn λ_=>L.mems _ _ _) (.ite (.bd (L.exprs _ _ _) λ_=>L.mems _ _ _) .rfl))
theorem zTO(t):Le (zoV g t) (zoV h t):=
 .ite (.bd (L.made _) λ_=> .bd (L.mems _ _ _) λ_=> .ite (.bd (L.exprs _ _ _) λ_=> .rfl) .rfl) (L.prim _)
theorem zTi(t):Le (zdY g t) (zdY h t):=
 .ite .rfl (.ite .rfl (.ite .rfl (.ite .rfl (.ite .rfl (.ite .rfl (.ite .rfl (.ite (L.func _ _) (.ite (.bd (L.expr _ _) λ_=> .rfl) (.ite (.bd (L.exprs _ _ _) λ_=> .rfl) (.ite (.bd (L.props _) λ_=> .rfl) .rfl))))))))))
theorem zPG(a b t):Le (zg0 g a b t) (zg0 h a b t):=
 .ite .rfl (.bd (L.assign _ _) λ_=> .ite .rfl (.bn λ_=> .ite .rfl (.bd (L.exprs _ _ _) λ_=> .rfl)))
theorem zP0(t):Le (zhU g t) (zhU h t):=
 .ite .rfl (.bd .rfl λ_=> .bn λ_=> .bd (L.assign _ _) λ_=> .ite .rfl (.bn λ_=> .bd (L.props _) λ_=> .rfl))
theorem zSQ(a t):Le (ztm g a t) (ztm h a t):=
 .bd .rfl λ_=> .bn λ_=> .bd .rfl λ_=> .bn λ_=> .bd (L.stmts _ _) λ_=> .rfl
theorem zTT(a t):Le (zm3 g a t) (zm3 h a t):=
 .ite (.bd (.ite (.bd (L.assign _ _) λ_=> .rfl) .rfl) λ_=> .ite (.bd (L.vars _ _) λ_=> .rfl) .rfl) .rfl
theorem zPu(t):Le (zlS g t) (zlS h t):= .bn λ_=> .bd (L.stmts _ _) λ_=> .rfl
theorem le_head(t):Le (ztt g t) (ztt h t):= .bn λ_=> .bd (L.expr _ _) λ_=> .rfl
theorem zSw(s t):Le (zlN g s t) (zlN h s t):= .ite .rfl (.bd (L.expr _ _) λ_=> .rfl)
theorem zPj(t):Le (znz g t) (znz h t):= .ite (.bd (L.vars _ _) λ_=> .rfl) (.ite .rfl (L.expr _ _))
theorem zSi(t):Le (zoL g t) (zoL h t):=
 .bn λ_=> .bd (zPj L _) λ_=> .ite (.bd (L.expr _ _) λ_=> .bn λ_=> .bd (L.stmt _) λ_=> .rfl)
  (.bn λ_=> .bd (L.till _ _) λ_=> .bd (L.till _ _) λ_=> .bd (L.stmt _) λ_=> .rfl)
theorem zQv(t):Le (zm2 g t) (zm2 h t):= .ite (.bn λ_=> .ite (.bn λ_=> .bd (L.block _) λ_=> .rfl) .rfl) .rfl
theorem zQc(t):Le (zkE g t) (zkE h t):= .ite (L.block _) .rfl
theorem zT0(t):Le (zEA g t) (zEA h t):= .bd (L.block _) λ_=> .bd (zQv L _) λ_=> .bd (zQc L _) λ_=> .rfl
theorem zPm(a t):Le (zjJ g a t) (zjJ h a t):=
 .ite .rfl (.ite (.bn λ_=> .bd (L.body _) λ_=> .bd (L.cases _ _) λ_=> .rfl) (.bn λ_=> .bd (L.expr _ _) λ_=> .bn λ_=> .bd (L.body _) λ_=> .bd (L.cases _ _) λ_=> .rfl))
theorem zRG(t):Le (zoM g t) (zoM h t):= .ite .rfl (.bd (L.stmt _) λ_=> .bd (L.body _) λ_=> .rfl)
theorem zTf(t):Le (zbO g t) (zbO h t):=
 .ite (L.block _) (.ite .rfl (.ite (.bd (L.vars _ _) λ_=> .rfl) (.ite (.bd (L.head _) λ_=> .bd (L.stmt _) λ_=> .ite (.bd (L.stmt _) λ_=> .rfl) .rfl)
  (.ite (.bd (L.head _) λ_=> .bd (L.stmt _) λ_=> .rfl) (.ite (.bd (L.stmt _) λ_=> .bn λ_=> .bd (L.head _) λ_=> .rfl) (.ite (L.loop _) (.ite .rfl (.ite .rfl
  (.ite (.ite (.bd (L.expr _ _) λ_=> .rfl) .rfl) (.ite (.ite .rfl (.bd (L.expr _ _) λ_=> .rfl)) (.ite (zT0 L _) (.ite (.bd (L.head _) λ_=> .bn λ_=> .bd (L.cases _ _) λ_=> .rfl)
  (.ite .rfl (.ite (.bd (L.stmt _) λ_=> .rfl) (.bd (L.expr _ _) λ_=> .rfl)))))))))))))))
theorem zQE(a t):Le (ziA g a t) (ziA h a t):= .ite .rfl (.bd (.ite (L.func _ _) (L.stmt _)) λ_=> .bd (L.stmts _ _) λ_=> .rfl)
end
theorem zQ8: ∀n,PLe (pG n) (pG (n+1))
 |0=>by constructor<;>intros<;>intro r e<;>cases e
 |n+1=>by
  have L:=zQ8 n;exact⟨zS2 L,zPK L,zN6 L,zNY L,zTy L,zQa L,zTp L,zTO L,zTi L,zPG L,zP0 L,zSQ L,zTT L,zPu L,le_head L,zSw L,zSi L,zPm L,zRG L,zTf L,zQE L⟩
theorem zLy{n:Nat}(m:Nat){a:Bool}{t:zB}{r}(h:(pG n).stmts a t=some r):(pG (n+m)).stmts a t=some r:=by
 induction m with
 |zero=>exact h
 |succ m ih=>exact(zQ8 (n+m)).stmts a t r ih
def Wf(t:zB):Prop:=∃a e,t=a++[e]/\e.kind=0/\∀x∈a,x.kind≠0
theorem Wf.tail{t:zB}(h:Wf t)(hk:zX t≠0):Wf t.tail/\t.tail.length+1=t.length:=by
 obtain⟨a,e,rfl,he,ha⟩:=h;cases a with
 |nil=>exact absurd he hk
 |cons x a=>exact⟨⟨a,e,rfl,he,λy hy=>ha y (qz8 _ hy)⟩,by simp⟩
theorem Wf.pos{t:zB}(h:Wf t):0<t.length:=by
 obtain⟨a,e,rfl,_,_⟩:=h;simp
theorem zbq{s:Str}{t:zB}(h:tIs s t=true):zX t≠0:=by
 cases t with
 |nil=>cases h
 |cons x r=>intro e;simp[tIs,opK,show x.kind=0 from e]at h
theorem zk4{l:List Str}{t:zB}(h:zbv l t=true):zX t≠0:=by
 cases t with
 |nil=>cases h
 |cons x r=>intro e;simp[zbv,opK,show x.kind=0 from e]at h
theorem zFq{no:Bool}{t:zB}(h:(zdo no t).1≠0):zX t≠0:=by
 cases t with
 |nil=>exact absurd rfl h
 |cons x r=>intro e;simp[zdo,opK,show x.kind=0 from e]at h
theorem zcV{t:zB}{k:Nat}(h:(zX t==k)=true)(hk:k≠0):zX t≠0:=by
 rw[beq_iff_eq]at h;omega
def Gd{α:Type}(m:Nat)(x:PR α):Prop:=match x with|none=>False|some (.inl _)=>True|some (.inr q)=>Wf q.2/\q.2.length<m
theorem Gd.bd{α β:Type}{m m':Nat}{x:PR α}{f:α×zB->PR β}(h:Gd m x)(k: ∀q:α×zB,Wf q.2->q.2.length<m->Gd m' (f q)):Gd m' (x.bd f):=by
 cases x with
 |none=>exact h
 |some p=>
  cases p with
  |inl j=>trivial
  |inr q=>exact k q h.1 h.2
theorem Gd.bn{β:Type}{m m':Nat}{x:PR Unit}{f:zB->PR β}(h:Gd m x)(k: ∀t:zB,Wf t->t.length<m->Gd m' (f t)):Gd m' (x.bn f):=Gd.bd h λq=>k q.2
theorem Gd.ite{α:Type}{m:Nat}{c:Prop}[Decidable c]{a b:PR α}(h:c->Gd m a)(k: ¬c->Gd m b):Gd m (if c then a else b):=by
 by_cases hc:c
 ·rw[yL hc];exact h hc
 ·rw[yK hc];exact k hc
theorem Gd.up{α:Type}{m m':Nat}{x:PR α}(h:Gd m x)(hm:m<=m'):Gd m' x:=by
 cases x with
 |none=>exact h
 |some p=>
  cases p with
  |inl j=>trivial
  |inr q=>exact⟨h.1,Nat.lt_of_lt_of_le h.2 hm⟩
theorem Gd.need{t:zB}(w:Wf t)(s:Str):Gd t.length (zaC s t):=
 .ite (λc=>by have:=w.tail (zbq c);exact⟨this.1,by show t.tail.length<_;omega⟩) λ_=>trivial
theorem Gd.end{t:zB}(w:Wf t):Gd (t.length+1) (zgN t):=
 .ite (λc=>by have:=w.tail (zbq c);exact⟨this.1,by show t.tail.length<_;omega⟩) λ_=> .ite (λ_=>⟨w,Nat.lt_succ_self _⟩) λ_=>trivial
structure PGd (n:Nat) (g:PG):Prop where
 expr: ∀a t,Wf t->10*t.length+6<n->Gd t.length (g.expr a t)
 comma: ∀a x t,Wf t->10*t.length+1<n->Gd (t.length+1) (g.comma a x t)
 assign: ∀a t,Wf t->10*t.length+5<n->Gd t.length (g.assign a t)
 binary: ∀a b t,Wf t->10*t.length+4<n->Gd t.length (g.binary a b t)
 bins: ∀a b x t,Wf t->10*t.length+1<n->Gd (t.length+1) (g.bins a b x t)
 unary: ∀t,Wf t->10*t.length+3<n->Gd t.length (g.unary t)
 mems: ∀a x t,Wf t->10*t.length+1<n->Gd (t.length+1) (g.mems a x t)
 made: ∀t,Wf t->10*t.length+2<n->Gd t.length (g.made t)
 prim: ∀t,Wf t->10*t.length+1<n->Gd t.length (g.prim t)
 exprs: ∀a b t,Wf t->10*t.length+6<n->Gd t.length (g.exprs a b t)
 props: ∀t,Wf t->10*t.length+1<n->Gd t.length (g.props t)
 func: ∀a t,Wf t->10*t.length+1<n->Gd t.length (g.func a t)
 vars: ∀a t,Wf t->10*t.length+1<n->Gd t.length (g.vars a t)
 block: ∀t,Wf t->10*t.length+1<n->Gd t.length (g.block t)
 head: ∀t,Wf t->10*t.length+1<n->Gd t.length (g.head t)
 till: ∀a t,Wf t->10*t.length+7<n->Gd t.length (g.till a t)
 loop: ∀t,Wf t->10*t.length+1<n->Gd t.length (g.loop t)
 cases: ∀a t,Wf t->10*t.length+1<n->Gd t.length (g.cases a t)
 body: ∀t,Wf t->10*t.length+9<n->Gd (t.length+1) (g.body t)
 stmt: ∀t,Wf t->10*t.length+8<n->Gd t.length (g.stmt t)
 stmts: ∀a t,Wf t->10*t.length+9<n->Gd (t.length+1) (g.stmts a t)
section
variable {n:Nat} {g:PG} (G:PGd n g)
include G
theorem zRL(a t)(w:Wf t)(h:10*t.length+6<n+1):Gd t.length (zAO g a t):=
 .bd (G.assign _ _ w (by omega)) λq wq lq=>(G.comma _ _ _ wq (by omega)).up (by omega)
theorem zPS(a x t)(w:Wf t)(h:10*t.length+1<n+1):Gd (t.length+1) (zlO g a x t):=
 .ite (λc=>by have:=w.tail (zbq c);exact .bd (G.assign _ _ this.1 (by omega)) λq wq lq=>(G.comma _ _ _ wq (by omega)).up (by omega)) λ_=>⟨w,Nat.lt_succ_self _⟩
theorem zOR(a t)(w:Wf t)(h:10*t.length+5<n+1):Gd t.length (zq8 g a t):=
 .bd (G.binary _ _ _ w (by omega)) λq wq lq=>
  .ite (λc=>by
   have:=wq.tail (zbq c);exact .bd (G.assign _ _ this.1 (by omega)) λy wy ly=> .bn (.need wy _) λt wt lt=> .bd (G.assign _ _ wt (by omega)) λz wz lz=>⟨wz,by show z.2.length<_;omega⟩) λ_=>
  .ite (λc=> .ite (λ_=>by
   have:=wq.tail (zk4 c);exact .bd (G.assign _ _ this.1 (by omega)) λy wy ly=>⟨wy,by show y.2.length<_;omega⟩) λ_=>trivial) λ_=>⟨wq,lq⟩
theorem zNX(a b t)(w:Wf t)(h:10*t.length+4<n+1):Gd t.length (zrd g a b t):=
 .bd (G.unary _ w (by omega)) λq wq lq=>(G.bins _ _ _ _ wq (by omega)).up (by omega)
theorem zSf(a b x t)(w:Wf t)(h:10*t.length+1<n+1):Gd (t.length+1) (zoO g a b x t):=
 .ite (λ_=>⟨w,Nat.lt_succ_self _⟩) λc=>by
  have h0:(zdo a t).1≠0:=by
   intro e;rw[e]at c;simp at c
  have:=w.tail (zFq h0);exact .bd (G.binary _ _ _ this.1 (by omega)) λq wq lq=>(G.bins _ _ _ _ wq (by omega)).up (by omega)
theorem zPq(t)(w:Wf t)(h:10*t.length+3<n+1):Gd t.length (zhW g t):=
 .ite (λc=>by have:=w.tail (zk4 c);exact .bd (G.unary _ this.1 (by omega)) λy wy ly=>⟨wy,by show y.2.length<_;omega⟩) λ_=>
 .ite (λc=>by have:=w.tail (zk4 c);exact .bd (G.unary _ this.1 (by omega)) λy wy ly=> .ite (λ_=>⟨wy,by show y.2.length<_;omega⟩) λ_=>trivial) λ_=>
 .bd (G.made _ w (by omega)) λq wq lq=> .bd (G.mems _ _ _ wq (by omega)) λp wp lp=>
  .ite (λ_=>⟨wp,by omega⟩) λc=> .ite (λ_=>by
   have h1:zbv zir p.2=true:=by
    cases e:zbv zir p.2 with
    |true=>rfl
    |false=>rw[e]at c;simp at c
   have:=wp.tail (zk4 h1);exact⟨this.1,by show p.2.tail.length<_;omega⟩) λ_=>trivial
theorem zRR(a x t)(w:Wf t)(h:10*t.length+1<n+1):Gd (t.length+1) (zjq g a x t):=
 .ite (λc=>by
  have h1:=w.tail (zbq c)
  exact .ite (λc2=>by
   have h2:=h1.1.tail (by
    intro e;rw[e]at c2;simp at c2)
   exact(G.mems _ _ _ h2.1 (by omega)).up (by omega)) λ_=>trivial) λ_=>
 .ite (λc=>by
  have h1:=w.tail (zbq c);exact .bd (G.expr _ _ h1.1 (by omega)) λk wk lk=> .bn (.need wk _) λt wt lt=>(G.mems _ _ _ wt (by omega)).up (by omega)) λ_=>
 .ite (λc=>by
  rw[qz4]at c;have h1:=w.tail (zbq c.2);exact .bd (G.exprs _ _ _ h1.1 (by omega)) λk wk lk=>(G.mems _ _ _ wk (by omega)).up (by omega)) λ_=>⟨w,Nat.lt_succ_self _⟩
theorem zSa(t)(w:Wf t)(h:10*t.length+2<n+1):Gd t.length (zoV g t):=
 .ite (λc=>by
  have h1:=w.tail (zbq c)
  exact .bd (G.made _ h1.1 (by omega)) λq wq lq=> .bd (G.mems _ _ _ wq (by omega)) λp wp lp=>
   .ite (λc2=>by
    have h2:=wp.tail (zbq c2);exact .bd (G.exprs _ _ _ h2.1 (by omega)) λl wl ll=>⟨wl,by show l.2.length<_;omega⟩) λ_=>⟨wp,by show p.2.length<_;omega⟩) λ_=>G.prim _ w (by omega)
theorem zSg(t)(w:Wf t)(h:10*t.length+1<n+1):Gd t.length (zdY g t):=by
 have tl: ∀{k:Nat},(zX t==k)=true->k≠0->∀x:Node,Gd t.length (gt (x,t.tail)):=λc hk x=>by
  have:=w.tail (zcV c hk);exact⟨this.1,by show t.tail.length<_;omega⟩
 have ti: ∀{s:Str},tIs s t=true->∀x:Node,Gd t.length (gt (x,t.tail)):=λc x=>by
  have:=w.tail (zbq c);exact⟨this.1,by show t.tail.length<_;omega⟩
 refine .ite (λc=>tl c (by decide) _) λ_=> .ite (λc=>?_) λ_=> .ite (λc=>tl c (by decide) _) λ_=> .ite (λc=>ti c _) λ_=> .ite (λc=>ti c _) λ_=> .ite (λc=>ti c _) λ_=> .ite (λc=>ti c _) λ_=>
  .ite (λc=>?_) λ_=> .ite (λc=>?_) λ_=> .ite (λc=>?_) λ_=> .ite (λc=>?_) λ_=>trivial
 ·have:=tl c (by decide);cases t with
  |nil=>exact absurd w.pos (by simp)
  |cons a r=>exact this _
 all_goals have h1:=w.tail (zbq c)
 ·exact(G.func _ _ h1.1 (by omega)).up (by omega)
 ·exact .bd (G.expr _ _ h1.1 (by omega)) λk wk lk=> .bn (.need wk _) λt' wt lt=>⟨wt,by show t'.length<_;omega⟩
 ·exact .bd (G.exprs _ _ _ h1.1 (by omega)) λl wl ll=>⟨wl,by show l.2.length<_;omega⟩
 ·exact .bd (G.props _ h1.1 (by omega)) λl wl ll=>⟨wl,by show l.2.length<_;omega⟩
theorem zOW(a b t)(w:Wf t)(h:10*t.length+6<n+1):Gd t.length (zg0 g a b t):=
 .ite (λc=>by have:=w.tail (zbq c);exact⟨this.1,by show t.tail.length<_;omega⟩) λ_=>
 .bd (G.assign _ _ w (by omega)) λx wx lx=> .ite (λc=>by have:=wx.tail (zbq c);exact⟨this.1,by show x.2.tail.length<_;omega⟩) λ_=>
  .bn (.need wx _) λt wt lt=> .ite (λ_=>trivial) λ_=> .bd (G.exprs _ _ _ wt (by omega)) λl wl ll=>⟨wl,by show l.2.length<_;omega⟩
omit G in
theorem zVf{t}(w:Wf t):Gd t.length (zEr t):=by
 cases t with
 |nil=>exact absurd w.pos (by simp)
 |cons a r=>
  have tl: ∀{k:Nat},(a.kind==k)=true->k≠0->∀x:Str,Gd (a::r).length (gt (x,r)):=λc hk x=>by
   have:=w.tail (zcV (t:=a::r) c hk);exact⟨this.1,by show r.length<_;simp⟩
  exact .ite (λc=>tl c (by decide) _) λ_=> .ite (λc=>tl c (by decide) _) λ_=> .ite (λc=>by
   rw[yQ]at c;exact c.elim (λc=>tl c (by decide) _) λc=>tl c (by decide) _) λ_=>trivial
theorem zQW(t)(w:Wf t)(h:10*t.length+1<n+1):Gd t.length (zhU g t):=
 .ite (λc=>by have:=w.tail (zbq c);exact⟨this.1,by show t.tail.length<_;omega⟩) λ_=>
 .bd (zVf w) λk wk lk=> .bn (.need wk _) λt1 w1 l1=> .bd (G.assign _ _ w1 (by omega)) λx wx lx=>
  .ite (λc=>by have:=wx.tail (zbq c);exact⟨this.1,by show x.2.tail.length<_;omega⟩) λ_=>
  .bn (.need wx _) λt wt lt=> .bd (G.props _ wt (by omega)) λl wl ll=>⟨wl,by show l.2.length<_;omega⟩
omit G in
theorem zGZ: ∀t,Wf t->Gd t.length (zjy t)
 | [],w=>absurd w.pos (by simp)
 | [a],_=>trivial
 |a::b::r,w=>by
  rw[zjy];refine .ite (λc=>?_) λ_=>trivial
  have h1:=w.tail (zcV (t:=a::b::r) c (by decide));refine .ite (λc2=>?_) λ_=> .ite (λc2=>?_) λ_=>trivial
  ·have h2:=h1.1.tail (zbq c2);exact⟨h2.1,by show r.length<_;simp only[qz3];omega⟩
  ·have h2:=h1.1.tail (zbq c2);exact .ite (λ_=>trivial) λ_=> .bd (zGZ r h2.1) λl wl ll=>⟨wl,by show l.2.length<_;simp only[qz3];omega⟩
omit G in
theorem zNb{t}(w:Wf t):Gd t.length (zfL t):=
 .ite (λc=>by have:=w.tail (zbq c);exact⟨this.1,by show t.tail.length<_;omega⟩) λ_=>zGZ t w
theorem zRV(a t)(w:Wf t)(h:10*t.length+1<n+1):Gd t.length (ztm g a t):=
 .bd (m:=t.length+1) (.ite (λc=>by have:=w.tail (zcV c (by decide));exact⟨this.1,by show t.tail.length<_;omega⟩) λ_=> .ite (λ_=>trivial) λ_=>⟨w,Nat.lt_succ_self _⟩) λm wm lm=>
  .bn (.need wm _) λt1 w1 l1=> .bd (zNb w1) λns wn ln=> .bn (.need wn _) λt2 w2 l2=> .bd (G.stmts _ _ w2 (by omega)) λl wl ll=> .bn (.need wl _) λt3 w3 l3=>⟨w3,by show t3.length<_;omega⟩
theorem zRY(a t)(w:Wf t)(h:10*t.length+1<n+1):Gd t.length (zm3 g a t):=
 .ite (λc=>by
  have h1:=w.tail (zcV c (by decide))
  exact .bd (m:=t.length) (.ite (λc2=>by
   have h2:=h1.1.tail (zbq c2)
   exact .bd (G.assign _ _ h2.1 (by omega)) λy wy ly=>⟨wy,by show y.2.length<_;omega⟩) λ_=>⟨h1.1,by show t.tail.length<_;omega⟩) λd wd ld=>
    .ite (λc3=>by
     have h3:=wd.tail (zbq c3);exact .bd (G.vars _ _ h3.1 (by omega)) λl wl ll=>⟨wl,by show l.2.length<_;omega⟩) λ_=>⟨wd,by show d.2.length<_;omega⟩) λ_=>trivial
theorem zP5(t)(w:Wf t)(h:10*t.length+1<n+1):Gd t.length (zlS g t):=
 .bn (.need w _) λt1 w1 l1=> .bd (G.stmts _ _ w1 (by omega)) λl wl ll=> .bn (.need wl _) λt2 w2 l2=>⟨w2,by show t2.length<_;omega⟩
theorem zRX(t)(w:Wf t)(h:10*t.length+1<n+1):Gd t.length (ztt g t):=
 .bn (.need w _) λt1 w1 l1=> .bd (G.expr _ _ w1 (by omega)) λl wl ll=> .bn (.need wl _) λt2 w2 l2=>⟨w2,by show t2.length<_;omega⟩
theorem zTr(s t)(w:Wf t)(h:10*t.length+7<n+1):Gd t.length (zlN g s t):=
 .ite (λc=>by have:=w.tail (zbq c);exact⟨this.1,by show t.tail.length<_;omega⟩) λ_=>
 .bd (G.expr _ _ w (by omega)) λl wl ll=> .bn (.need wl _) λt2 w2 l2=>⟨w2,by show t2.length<_;omega⟩
theorem zPo(t)(w:Wf t)(h:10*t.length+6<n):Gd (t.length+1) (znz g t):=
 .ite (λc=>by
  have h1:=w.tail (zbq c);exact .bd (G.vars _ _ h1.1 (by omega)) λl wl ll=>⟨wl,by show l.2.length<_;omega⟩) λ_=> .ite (λ_=>⟨w,Nat.lt_succ_self _⟩) λ_=>(G.expr _ _ w (by omega)).up (by omega)
theorem zSy(t)(w:Wf t)(h:10*t.length+1<n+1):Gd t.length (zoL g t):=
 .bn (.need w _) λt1 w1 l1=> .bd (zPo G _ w1 (by omega)) λq wq lq=>
  .ite (λc=>by
   rw[qz4]at c;have h1:=wq.tail (zbq c.2);exact .bd (G.expr _ _ h1.1 (by omega)) λx wx lx=> .bn (.need wx _) λt2 w2 l2=> .bd (G.stmt _ w2 (by omega)) λb wb lb=>⟨wb,by show b.2.length<_;omega⟩) λ_=>
  .bn (.need wq _) λt2 w2 l2=> .bd (G.till _ _ w2 (by omega)) λx wx lx=> .bd (G.till _ _ wx (by omega)) λy wy ly=> .bd (G.stmt _ wy (by omega)) λb wb lb=>⟨wb,by show b.2.length<_;omega⟩
theorem zPf(t)(w:Wf t)(h:10*t.length<n):Gd (t.length+1) (zm2 g t):=
 .ite (λc=>by
  have h1:=w.tail (zbq c)
  exact .bn (.need h1.1 _) λt1 w1 l1=> .ite (λc2=>by
   have h2:=w1.tail (zcV c2 (by decide));exact .bn (.need h2.1 _) λt2 w2 l2=> .bd (G.block _ w2 (by omega)) λb wb lb=>⟨wb,by show b.2.length<_;omega⟩) λ_=>trivial) λ_=>⟨w,Nat.lt_succ_self _⟩
theorem zQx(t)(w:Wf t)(h:10*t.length<n):Gd (t.length+1) (zkE g t):=
 .ite (λc=>by
  have h1:=w.tail (zbq c);exact(G.block _ h1.1 (by omega)).up (by omega)) λ_=>⟨w,Nat.lt_succ_self _⟩
theorem zUK(t)(w:Wf t)(h:10*t.length+2<n):Gd t.length (zEA g t):=
 .bd (G.block _ w (by omega)) λb wb lb=> .bd (zPf G _ wb (by omega)) λc wc lc=> .bd (zQx G _ wc (by omega)) λf wf lf=> .ite (λ_=>trivial) λ_=>⟨wf,by show f.2.length<_;omega⟩
theorem zPJ(a t)(w:Wf t)(h:10*t.length+1<n+1):Gd t.length (zjJ g a t):=
 .ite (λc=>by have:=w.tail (zbq c);exact⟨this.1,by show t.tail.length<_;omega⟩) λ_=>
 .ite (λc=>by
  rw[qz4]at c;have h1:=w.tail (zbq c.2);exact .bn (.need h1.1 _) λt1 w1 l1=> .bd (G.body _ w1 (by omega)) λl wl ll=> .bd (G.cases _ _ wl (by omega)) λr wr lr=>⟨wr,by show r.2.length<_;omega⟩) λ_=>
 .bn (.need w _) λt1 w1 l1=> .bd (G.expr _ _ w1 (by omega)) λx wx lx=> .bn (.need wx _) λt2 w2 l2=> .bd (G.body _ w2 (by omega)) λl wl ll=> .bd (G.cases _ _ wl (by omega)) λr wr lr=>⟨wr,by show r.2.length<_;omega⟩
theorem zSP(t)(w:Wf t)(h:10*t.length+9<n+1):Gd (t.length+1) (zoM g t):=
 .ite (λ_=>⟨w,Nat.lt_succ_self _⟩) λ_=> .bd (G.stmt _ w (by omega)) λx wx lx=> .bd (G.body _ wx (by omega)) λl wl ll=>⟨wl,by show l.2.length<_;omega⟩
omit G in
theorem zLc(k t)(w:Wf t):Gd (t.length+1) (zkm k t):=
 .ite (λc=>by
  rw[qz4]at c;have h1:=w.tail (zcV c.1 (by decide));exact .bn (.end h1.1) λt1 w1 l1=>⟨w1,by show t1.length<_;omega⟩) λ_=> .bn (.end w) λt1 w1 l1=>⟨w1,by show t1.length<_;omega⟩
theorem zS5(t)(w:Wf t)(h:10*t.length+8<n+1):Gd t.length (zbO g t):=by
 refine .ite (λc=>G.block _ w (by omega)) λ_=> .ite (λc=>?_) λ_=> .ite (λc=>?_) λ_=> .ite (λc=>?_) λ_=> .ite (λc=>?_) λ_=> .ite (λc=>?_) λ_=> .ite (λc=>?_) λ_=> .ite (λc=>?_) λ_=>
  .ite (λc=>?_) λ_=> .ite (λc=>?_) λ_=> .ite (λc=>?_) λ_=> .ite (λc=>?_) λ_=> .ite (λc=>?_) λ_=> .ite (λc=>trivial) λ_=> .ite (λc=>?_) λ_=>?_
 rotate_right 2
 ·rw[qz4]at c;have h1:=w.tail (zcV c.1 (by decide));have h2:=h1.1.tail (zbq c.2);exact .bd (G.stmt _ h2.1 (by omega)) λx wx lx=>⟨wx,by show x.2.length<_;omega⟩
 ·exact .bd (G.expr _ _ w (by omega)) λx wx lx=> .bn (.end wx) λt1 w1 l1=>⟨w1,by show t1.length<_;omega⟩
 all_goals have h1:=w.tail (zbq c)
 ·exact⟨h1.1,by show t.tail.length<_;omega⟩
 ·exact .bd (G.vars _ _ h1.1 (by omega)) λx wx lx=> .bn (.end wx) λt1 w1 l1=>⟨w1,by show t1.length<_;omega⟩
 ·exact .bd (G.head _ h1.1 (by omega)) λx wx lx=> .bd (G.stmt _ wx (by omega)) λb wb lb=> .ite (λc2=>by
   have h2:=wb.tail (zbq c2);exact .bd (G.stmt _ h2.1 (by omega)) λe we le=>⟨we,by show e.2.length<_;omega⟩) λ_=>⟨wb,by show b.2.length<_;omega⟩
 ·exact .bd (G.head _ h1.1 (by omega)) λx wx lx=> .bd (G.stmt _ wx (by omega)) λb wb lb=>⟨wb,by show b.2.length<_;omega⟩
 ·exact .bd (G.stmt _ h1.1 (by omega)) λb wb lb=> .bn (.need wb _) λt1 w1 l1=> .bd (G.head _ w1 (by omega)) λx wx lx=> .bn (.end wx) λt2 w2 l2=>⟨w2,by show t2.length<_;omega⟩
 ·exact(G.loop _ h1.1 (by omega)).up (by omega)
 ·exact(zLc _ _ h1.1).up (by omega)
 ·exact(zLc _ _ h1.1).up (by omega)
 ·exact .ite (λ_=> .bd (G.expr _ _ h1.1 (by omega)) λx wx lx=> .bn (.end wx) λt1 w1 l1=>⟨w1,by show t1.length<_;omega⟩) λ_=> .bn (.end h1.1) λt1 w1 l1=>⟨w1,by show t1.length<_;omega⟩
 ·exact .ite (λ_=>trivial) λ_=> .bd (G.expr _ _ h1.1 (by omega)) λx wx lx=> .bn (.end wx) λt1 w1 l1=>⟨w1,by show t1.length<_;omega⟩
 ·exact(zUK G _ h1.1 (by omega)).up (by omega)
 ·exact .bd (G.head _ h1.1 (by omega)) λx wx lx=> .bn (.need wx _) λt1 w1 l1=> .bd (G.cases _ _ w1 (by omega)) λl wl ll=>⟨wl,by show l.2.length<_;omega⟩
theorem zQ1(a t)(w:Wf t)(h:10*t.length+9<n+1):Gd (t.length+1) (ziA g a t):=
 .ite (λ_=>⟨w,Nat.lt_succ_self _⟩) λ_=> .bd (m:=t.length) (.ite (λc=>by
  rw[qz4]at c;have h1:=w.tail (zbq c.2);exact(G.func _ _ h1.1 (by omega)).up (by omega)) λ_=>G.stmt _ w (by omega)) λx wx lx=> .bd (G.stmts _ _ wx (by omega)) λl wl ll=>⟨wl,by show l.2.length<_;omega⟩
end
theorem zRz: ∀n,PGd n (pG n)
 |0=>by constructor<;>intros<;>omega
 |n+1=>by
  have G:=zRz n;exact⟨zRL G,zPS G,zOR G,zNX G,zSf G,zPq G,zRR G,zSa G,zSg G,zOW G,zQW G,zRV G,zRY G,zP5 G,zRX G,zTr G,zSy G,zPJ G,zSP G,zS5 G,zQ1 G⟩
def zgJ(x:PR Node):Prop:=∀q,x=gt q->q.1.Kind≠22
theorem zgJ.gt{x:Node}{t:zB}(h:x.Kind≠22):zgJ (gt (x,t)):=λq e=>by cases e;exact h
theorem zgJ.bad{t:zB}:zgJ (bad t):=λq e=>by cases e
theorem zgJ.bd{α:Type}{x:PR α}{f:α×zB->PR Node}(k: ∀q,x=Go.D08.gt q->zgJ (f q)):zgJ (x.bd f):=by
 cases x with
 |none=>intro q e;cases e
 |some p=>
  cases p with
  |inl j=>intro q e;cases e
  |inr q=>exact k q rfl
theorem zgJ.bn{x:PR Unit}{f:zB->PR Node}(k: ∀t,zgJ (f t)):zgJ (x.bn f):= .bd λq _=>k q.2
theorem zgJ.ite{c:Prop}[Decidable c]{a b:PR Node}(h:c->zgJ a)(k: ¬c->zgJ b):zgJ (if c then a else b):=by
 by_cases hc:c
 ·rw[yL hc];exact h hc
 ·rw[yK hc];exact k hc
structure P22 (g:PG):Prop where
 expr: ∀a t,zgJ (g.expr a t)
 comma: ∀a x t,x.Kind≠22->zgJ (g.comma a x t)
 assign: ∀a t,zgJ (g.assign a t)
 binary: ∀a b t,zgJ (g.binary a b t)
 bins: ∀a b x t,x.Kind≠22->zgJ (g.bins a b x t)
 unary: ∀t,zgJ (g.unary t)
 mems: ∀a x t,x.Kind≠22->zgJ (g.mems a x t)
 made: ∀t,zgJ (g.made t)
 prim: ∀t,zgJ (g.prim t)
 func: ∀t,zgJ (g.func 10 t)
theorem zR4(no:Bool)(t:zB):(zdo no t).2≠22:=by
 cases t with
 |nil=>show(0:Int)≠22;decide
 |cons a r=>
  show(if opK a=true then lvS no a.text else(0,0)).2≠22;unfold lvS
  repeat' split
  all_goals decide
theorem zQ7: ∀n,P22 (pG n)
 |0=>by constructor<;>intros<;>intro q e<;>cases e
 |n+1=>by
  have G:=zQ7 n;refine⟨λa t=>?_,λa x t hx=>?_,λa t=>?_,λa b t=>?_,λa b x t hx=>?_,λt=>?_,λa x t hx=>?_,λt=>?_,λt=>?_,λt=>?_⟩
  ·exact .bd λq e=>G.comma _ _ _ (G.assign _ _ q e)
  ·exact .ite (λ_=> .bd λq e=>G.comma _ _ _ (by simp[nd,ndN])) λ_=> .gt hx
  ·exact .bd λq e=> .ite (λ_=> .bd λy _=> .bn λt=> .bd λz _=> .gt (by simp[nd,ndN])) λ_=> .ite (λ_=> .ite (λ_=> .bd λy _=> .gt (by simp[nd,ndN])) λ_=> .bad) λ_=> .gt (G.binary _ _ _ q e)
  ·exact .bd λq e=>G.bins _ _ _ _ (G.unary _ q e)
  ·exact .ite (λ_=> .gt hx) λ_=> .bd λq e=>G.bins _ _ _ _ (zR4 _ _)
  ·exact .ite (λ_=> .bd λy _=> .gt (by simp[nd,ndN])) λ_=> .ite (λ_=> .bd λy _=> .ite (λ_=> .gt (by simp[nd,ndN])) λ_=> .bad) λ_=>
    .bd λq e=> .bd λp e2=> .ite (λ_=> .gt (G.mems _ _ _ (G.made _ q e) p e2)) λ_=> .ite (λ_=> .gt (by simp[nd,ndN])) λ_=> .bad
  ·exact .ite (λ_=> .ite (λ_=>G.mems _ _ _ (by simp[nd,ndN])) λ_=> .bad) λ_=> .ite (λ_=> .bd λk _=> .bn λt=>G.mems _ _ _ (by simp[nd,ndN])) λ_=>
    .ite (λ_=> .bd λl _=>G.mems _ _ _ (by simp[nd,ndN])) λ_=> .gt hx
  ·exact .ite (λ_=> .bd λq _=> .bd λp _=> .ite (λ_=> .bd λl _=> .gt (by simp[nd,ndN])) λ_=> .gt (by simp[nd,ndN])) λ_=>G.prim _
  ·refine .ite (λ_=> .gt (by simp[nd,ndN])) λ_=> .ite (λ_=>?_) λ_=> .ite (λ_=> .gt (by simp[nd,ndN])) λ_=> .ite (λ_=> .gt (by simp[nd,ndN])) λ_=> .ite (λ_=> .gt (by simp[nd,ndN])) λ_=> .ite (λ_=> .gt (by simp[nd,ndN])) λ_=> .ite (λ_=> .gt (by simp[nd,ndN])) λ_=>
    .ite (λ_=>G.func _) λ_=> .ite (λ_=> .bd λk e=> .bn λt=> .gt (G.expr _ _ k e)) λ_=> .ite (λ_=> .bd λl _=> .gt (by simp[nd,ndN])) λ_=> .ite (λ_=> .bd λl _=> .gt (by simp[nd,ndN])) λ_=> .bad
   cases t with
   |nil=>intro q e;cases e
   |cons a r=>exact .gt (by show(1:Int)≠22;decide)
  ·exact .bd λm _=> .bn λt=> .bd λns _=> .bn λt=> .bd λl _=> .bn λt=> .gt (by simp[nd,ndN])
theorem zAy{α β:Type}{x:PR α}{f:α×zB->PR β}{q:β×zB}(h:x.bd f=gt q): ∃p,x=gt p/\f p=gt q:=by
 cases x with
 |none=>cases h
 |some p=>
  cases p with
  |inl j=>cases h
  |inr p=>exact⟨p,rfl,h⟩
theorem zD9{β:Type}{x:PR Unit}{f:zB->PR β}{q:β×zB}(h:x.bn f=gt q): ∃t,f t=gt q:=by
 obtain⟨p,_,h⟩:=zAy h;exact⟨_,h⟩
theorem zHl{n:Nat}{t:zB}{q:Node×zB}(h:(pG n).block t=gt q):q.1.Kind=25:=by
 cases n with
 |zero=>cases h
 |succ n=>
  have h:zlS (pG n) t=gt q:=h;unfold zlS at h;obtain⟨t1,h⟩:=zD9 h;obtain⟨l,_,h⟩:=zAy h;obtain⟨t2,h⟩:=zD9 h;cases h;rfl
end Go.D08
namespace Go.D08
open Go Go.Gw Go.Dn Go.Proofs
set_option maxRecDepth 100000
def atK(L0:List zu)(k:Nat):Int:=match L0.drop (L0.length -k)with|x::_=>x.At| []=>0
structure TL (L0 L:List zu):Prop where
 ok:TOk L
 suf:L<:+L0
theorem TL.tail{L0 L:List zu}(h:TL L0 L)(hk:zX (L.map tk)≠0):TL L0 L.tail:=by
 obtain⟨x,r,rfl⟩:=h.ok.cons;have h0:=(h.ok.kinds x qz7).1;refine⟨h.ok.tail (λe=>hk (by show(tk x).kind=0;unfold tk;rw[e];rfl)),(List.suffix_cons x r).trans h.suf⟩
theorem TL.at_{L0:List zu}{x:zu}{r:List zu}(h:TL L0 (x::r)):atK L0 ((x::r).map tk).length=x.At:=by
 obtain⟨p,hp⟩:=h.suf;unfold atK;rw[<-hp,List.length_map,qz5,show p.length+(x::r).length - (x::r).length=p.length by omega,List.drop_left]
def SG{α ρ:Type}(L0:List zu)(E:Int->ρ->Prop)(O:α->List zu->ρ->Prop)(m:Option ρ)(q:PR α):Prop:=
 match q with
 |none=>True
 |some (.inl k)=>∃r,m=some r/\E (atK L0 k) r
 |some (.inr p)=>∃r L',m=some r/\L'.map tk=p.2/\TL L0 L'/\O p.1 L' r
section
variable {α β γ δ ρ σ:Type} {L0 L:List zu} {no:Bool} {E:Int->ρ->Prop} {O:α->List zu->ρ->Prop} {E':Int->σ->Prop} {O':β->List zu->σ->Prop}
abbrev EL(a:Int)(r:(zad×γ)⊕δ):Prop:=∃y,r= .inl (zad.code 45 a,y)
abbrev ER(a:Int)(r:δ⊕(zad×γ)):Prop:=∃y,r= .inr (zad.code 45 a,y)
abbrev OL(no:Bool)(v:α)(L':List zu)(r:(α×zh×Unit)⊕δ):Prop:=r= .inl (v,pp L' no,())
abbrev OR(no:Bool)(v:α)(L':List zu)(r:δ⊕(α×zh×Unit)):Prop:=r= .inr (v,pp L' no,())
theorem SG.gen{m:Option ρ}{q:PR α}{f:ρ->Option σ}{g:α×zB->PR β}(h:SG L0 E O m q)(he: ∀a r,E a r->∃r',f r=some r'/\E' a r')
  (ho: ∀v L' r,q=gt (v,L'.map tk)->TL L0 L'->O v L' r->SG L0 E' O' (f r) (g (v,L'.map tk))):SG L0 E' O' (m.bind f) (q.bd g):=by
 cases q with
 |none=>trivial
 |some p=>
  cases p with
  |inl k=>
   obtain⟨r,rfl,hr⟩:=h;exact he _ _ hr
  |inr p=>
   obtain⟨r,L',rfl,hL,ok,hr⟩:=h;obtain⟨v,t⟩:=p;subst hL;exact ho v L' r rfl ok hr
theorem SG.same{m:Option ρ}{q:PR α}{f:ρ->Option σ}{O':α->List zu->σ->Prop}(h:SG L0 E O m q)(he: ∀a r,E a r->∃r',f r=some r'/\E' a r')
  (ho: ∀v L' r,TL L0 L'->O v L' r->∃r',f r=some r'/\O' v L' r'):SG L0 E' O' (m.bind f) q:=by
 cases q with
 |none=>trivial
 |some p=>
  cases p with
  |inl k=>
   obtain⟨r,rfl,hr⟩:=h;exact he _ _ hr
  |inr p=>
   obtain⟨r,L',rfl,hL,ok,hr⟩:=h;obtain⟨r',e,ho⟩:=ho p.1 L' r ok hr;exact⟨r',L',e,hL,ok,ho⟩
theorem SG.gt{r:ρ}{v:α}(ok:TL L0 L)(h:O v L r):SG L0 E O (some r) (gt (v,L.map tk)):=⟨r,L,rfl,rfl,ok,h⟩
theorem SG.l{m:Option ((zad×γ)⊕(α×zh×Unit))}{q:PR α}{f:(zad×γ)⊕(α×zh×Unit)->Option σ}{g:α×zB->PR β}(h:SG L0 EL (OR no) m q)
  (he: ∀a y,∃r',f (.inl (zad.code 45 a,y))=some r'/\E' a r') (ho: ∀v L',TL L0 L'->SG L0 E' O' (f (.inr (v,pp L' no,()))) (g (v,L'.map tk))):SG L0 E' O' (m.bind f) (q.bd g):=
 h.gen (by rintro a _ ⟨y,rfl⟩;exact he a y) (by rintro v L' _ _ ok rfl;exact ho v L' ok)
theorem SG.r{m:Option ((α×zh×Unit)⊕(zad×γ))}{q:PR α}{f:(α×zh×Unit)⊕(zad×γ)->Option σ}{g:α×zB->PR β}(h:SG L0 ER (OL no) m q)
  (he: ∀a y,∃r',f (.inr (zad.code 45 a,y))=some r'/\E' a r') (ho: ∀v L',TL L0 L'->SG L0 E' O' (f (.inl (v,pp L' no,()))) (g (v,L'.map tk))):SG L0 E' O' (m.bind f) (q.bd g):=
 h.gen (by rintro a _ ⟨y,rfl⟩;exact he a y) (by rintro v L' _ _ ok rfl;exact ho v L' ok)
theorem SG.ll{m:Option ((zad×γ)⊕(α×zh×Unit))}{q:PR α}{f:(zad×γ)⊕(α×zh×Unit)->Option σ}{O':α->List zu->σ->Prop}(h:SG L0 EL (OR no) m q)
  (he: ∀a y,∃r',f (.inl (zad.code 45 a,y))=some r'/\E' a r') (ho: ∀v L',∃r',f (.inr (v,pp L' no,()))=some r'/\O' v L' r'):SG L0 E' O' (m.bind f) q:=
 h.same (by rintro a _ ⟨y,rfl⟩;exact he a y) (by rintro v L' _ ok rfl;exact ho v L')
theorem SG.rr{m:Option ((α×zh×Unit)⊕(zad×γ))}{q:PR α}{f:(α×zh×Unit)⊕(zad×γ)->Option σ}{O':α->List zu->σ->Prop}(h:SG L0 ER (OL no) m q)
  (he: ∀a y,∃r',f (.inr (zad.code 45 a,y))=some r'/\E' a r') (ho: ∀v L',∃r',f (.inl (v,pp L' no,()))=some r'/\O' v L' r'):SG L0 E' O' (m.bind f) q:=
 h.same (by rintro a _ ⟨y,rfl⟩;exact he a y) (by rintro v L' _ ok rfl;exact ho v L')
theorem SG.is{s:Str}{f:Bool×zh×Unit->Option σ}{qa qb:PR β}(ok:TL L0 L)(hy:tIs s (L.map tk)=true->SG L0 E' O' (f (true,pp L no,())) qa)(hn:tIs s (L.map tk)=false->SG L0 E' O' (f (false,pp L no,())) qb):
  SG L0 E' O' ((za6 s (pp L no)).bind f) (if tIs s (L.map tk)=true then qa else qb):=by
 rw[ztg ok.ok s,qz1];cases hq:tIs s (L.map tk)with
 |true=>exact hy hq
 |false=>exact hn hq
theorem SG.has{s:Str}{f:Bool×zh×Unit->Option σ}{qa qb:PR β}(ok:TL L0 L)(hy:tIs s (L.map tk)=true->TL L0 L.tail->SG L0 E' O' (f (true,pp L.tail no,())) qa)(hn:tIs s (L.map tk)=false->SG L0 E' O' (f (false,pp L no,())) qb):
  SG L0 E' O' ((zG s (pp L no)).bind f) (if tIs s (L.map tk)=true then qa else qb):=by
 rw[has_eq ok.ok s,qz1];cases hq:tIs s (L.map tk)with
 |true=>exact hy hq (ok.tail (zbq hq))
 |false=>exact hn hq
theorem SG.stops{f:Bool×zh×Unit->Option σ}{q:PR β}(ok:TL L0 L)(h:SG L0 E' O' (f (zk2 (L.map tk),pp L no,())) q):SG L0 E' O' ((zeA (pp L no)).bind f) q:=by
 rw[zID ok.ok,qz1];exact h
theorem SG.among{ws:List Str}{list:Str}{f:Bool×zh×Unit->Option σ}{qa qb:PR β}(ok:TL L0 L)(hl:list=joined ws)(hw: ∀w∈ws,(32:UInt8)∉w)(hll:list.length<=1000000)
  (hy:zbv ws (L.map tk)=true->SG L0 E' O' (f (true,pp L no,())) qa) (hn:zbv ws (L.map tk)=false->SG L0 E' O' (f (false,pp L no,())) qb):
  SG L0 E' O' ((zbl list (pp L no)).bind f) (if zbv ws (L.map tk)=true then qa else qb):=by
 rw[zmj ok.ok ws list hl hw hll,qz1];cases hq:zbv ws (L.map tk)with
 |true=>exact hy hq
 |false=>exact hn hq
theorem zvQ{x:zu}{r:List zu}:zaP (pp (x::r) no)=some (zad.code 45 x.At,pp (x::r) no,()):=rfl
theorem SG.fail{f:zad×zh×Unit->Option σ}(ok:TL L0 L)(h: ∀a,∃r',f (zad.code 45 a,pp L no,())=some r'/\E' a r'):SG L0 E' O' ((zaP (pp L no)).bind f) (bad (L.map tk)):=by
 obtain⟨x,r,rfl⟩:=ok.ok.cons;rw[zvQ,qz1];obtain⟨r',e1,e2⟩:=h x.At;exact⟨r',e1,by rw[ok.at_];exact e2⟩
theorem SG.need'{s:Str}{f:(zad×zh×Unit)⊕(zh×Unit)->Option σ}{g:zB->PR β}(ok:TL L0 L)(he: ∀a y,∃r',f (.inl (zad.code 45 a,y))=some r'/\E' a r')
  (ho: ∀L',TL L0 L'->L'.length<L.length->SG L0 E' O' (f (.inr (pp L' no,()))) (g (L'.map tk))):SG L0 E' O' ((zac s (pp L no)).bind f) ((zaC s (L.map tk)).bn g):=by
 unfold zac zaC;rw[zS,has_eq ok.ok s,qz1];cases hq:tIs s (L.map tk)with
 |true=>
  simp only[yB];have:=ho L.tail (ok.tail (zbq hq)) (by obtain⟨x,r,rfl⟩:=ok.ok.cons;simp)
  rw[yM]at this;exact this
 |false=>
  simp only[qz2,yA,yN,yB,zS];obtain⟨x,r,rfl⟩:=ok.ok.cons;rw[zvQ];obtain⟨r',e1,e2⟩:=he x.At (pp (x::r) no,());exact⟨r',e1,by rw[ok.at_];exact e2⟩
theorem SG.need{s:Str}{f:(zad×zh×Unit)⊕(zh×Unit)->Option σ}{g:zB->PR β}(ok:TL L0 L)(he: ∀a y,∃r',f (.inl (zad.code 45 a,y))=some r'/\E' a r')
  (ho: ∀L',TL L0 L'->SG L0 E' O' (f (.inr (pp L' no,()))) (g (L'.map tk))):SG L0 E' O' ((zac s (pp L no)).bind f) ((zaC s (L.map tk)).bn g):= .need' ok he λL' h _=>ho L' h
theorem SG.end{f:(zad×zh×Unit)⊕(zh×Unit)->Option σ}{g:zB->PR β}(ok:TL L0 L)(he: ∀a y,∃r',f (.inl (zad.code 45 a,y))=some r'/\E' a r')
  (ho: ∀L',TL L0 L'->SG L0 E' O' (f (.inr (pp L' no,()))) (g (L'.map tk))):SG L0 E' O' ((zbF (pp L no)).bind f) ((zgN (L.map tk)).bn g):=by
 unfold zbF zgN;rw[zS,has_eq ok.ok [59],qz1];cases hq:tIs [59] (L.map tk)with
 |true=>
  simp only[yB];have:=ho L.tail (ok.tail (zbq hq));rw[yM]at this;exact this
 |false=>
  simp only[qz2,yA,yN,yB,zS];rw[zID ok.ok];simp only[qz1];cases hp:zk2 (L.map tk)with
  |true=>
   simp only[yO,qz2,yA,yB];exact ho L ok
  |false=>
   simp only[yN,yB,qz2,yA];obtain⟨x,r,rfl⟩:=ok.ok.cons;rw[zvQ];obtain⟨r',e1,e2⟩:=he x.At (pp (x::r) no,());exact⟨r',e1,by rw[ok.at_];exact e2⟩
theorem zhm{x:zu}{r:List zu}(ok:TL L0 (x::r))(n:Nat):(x.Kind==(n:Int))=(zX ((x::r).map tk)==n):=zow (ok.ok.kinds x qz7).1 n
theorem SG.name{f:(zad×zh×Unit)⊕(Str×zh×Unit)->Option σ}{qa:PR β}(ok:TL L0 L)(he: ∀a y,∃r',f (.inl (zad.code 45 a,y))=some r'/\E' a r')
  (ho:(zX (L.map tk)==1)=true->TL L0 L.tail->SG L0 E' O' (f (.inr (tText (L.map tk),pp L.tail no,()))) qa):SG L0 E' O' ((zdf (pp L no)).bind f) (if(zX (L.map tk)==1)=true then qa else bad (L.map tk)):=by
 obtain⟨x,r,rfl⟩:=ok.ok.cons;have hk:=zhm ok 1;rw[show((1:Nat):Int)=1 from rfl]at hk;unfold zdf;simp only[zdG,qz1,zS,bne,hk];cases hq:zX ((x::r).map tk)==1 with
 |true=>
  have h1:x.Kind=1:=eq_of_beq (hk.trans hq);simp only[yO,qz2,yA,yB];rw[zEP (by omega)];exact ho hq (ok.tail (zcV hq (by decide)))
 |false=>
  simp only[yN,yB,qz2,yA];rw[zvQ];obtain⟨r',e1,e2⟩:=he x.At (pp (x::r) no,());exact⟨r',e1,by rw[ok.at_];exact e2⟩
theorem zSd(ok:TL L0 L)(h:zX (L.map tk)≠0): ∃x,L=x::L.tail/\tk x=tk x/\x.Text=tText (L.map tk)/\zav (pp L no)=some (x,pp L.tail no,()):=by
 obtain⟨x,r,rfl⟩:=ok.ok.cons;exact⟨x,rfl,rfl,rfl,zEP (λe=>h (by show(tk x).kind=0;unfold tk;rw[e];rfl))⟩
theorem zFl(n:zg):zff n=some (zdw n.Kind,()):=by
 unfold zff zdw;cases h3:n.Kind==3<;>cases h11:n.Kind==11<;>cases h12:n.Kind==12<;>simp[h3,h11,h12]
theorem SG.target{n:zg}{f:(zad×zh×Unit)⊕(zh×Unit)->Option σ}{qa:PR β}(ok:TL L0 L)(he: ∀a y,∃r',f (.inl (zad.code 45 a,y))=some r'/\E' a r')
  (ho:zdw n.Kind=true->SG L0 E' O' (f (.inr (pp L no,()))) qa):SG L0 E' O' ((zd7 n (pp L no)).bind f) (if zdw n.Kind=true then qa else bad (L.map tk)):=by
 unfold zd7;rw[zq,zFl,zS,qz1];cases hq:zdw n.Kind with
 |true=>
  simp only[yO,qz2,yA,yB];exact ho hq
 |false=>
  simp only[yN,yB,qz2,yA,zS];obtain⟨x,r,rfl⟩:=ok.ok.cons;rw[zvQ];obtain⟨r',e1,e2⟩:=he x.At (pp (x::r) no,());exact⟨r',e1,by rw[ok.at_];exact e2⟩
end
theorem zyT: ∀(n:Nat) (s:Str) (last:Bool) (t:zB) (q:List Node×zB),(pG n).exprs s last t=gt q->q.1.length<=n
 |0,_,_,_,_,h=>by cases h
 |n+1,s,last,t,q,h=>by
  have h:zg0 (pG n) s last t=gt q:=h;unfold zg0 at h;split at h
  ·cases h;exact Nat.zero_le _
  ·obtain⟨x,_,h⟩:=zAy h;split at h
   ·cases h;simp
   ·obtain⟨t',h⟩:=zD9 h;split at h
    ·cases h
    ·obtain⟨l,h1,h⟩:=zAy h;cases h;have:=zyT n s last t' l h1;simp only[qz3];omega
def zIQ{S ρ:Type}(W:S->Option ρ)(o:S⊕ρ):Option ρ:=match o with| .inl s=>W s| .inr e=>some e
theorem zfM{S ρ:Type}(step:S->Option (S⊕ρ))(m:Nat)(s:S):zaF step (m+1) s=(step s).bind (zIQ (zaF step m)):=rfl
section
variable {α β γ δ ρ σ:Type} {L0 L:List zu} {no:Bool} {E:Int->ρ->Prop} {O:α->List zu->ρ->Prop} {E':Int->σ->Prop} {O':β->List zu->σ->Prop}
theorem SG.assoc{m:Option ρ}{f:ρ->Option γ}{k:γ->Option σ}{q:PR β}(h:SG L0 E' O' (m.bind λr=>(f r).bind k) q):SG L0 E' O' ((m.bind f).bind k) q:=by
 cases m<;>exact h
theorem SG.loop{S:Type}{step:S->Option (S⊕ρ)}{m:Nat}{s:S}{q:PR α}(h:SG L0 E O (zaF step m s) q)(hm:m<=1000000000000):SG L0 E O (Lp.loop step s) q:=by
 cases q with
 |none=>trivial
 |some p=>
  cases p with
  |inl k=>
   obtain⟨r,e,h⟩:=h;exact⟨r,zdy e hm,h⟩
  |inr p=>
   obtain⟨r,L',e,h⟩:=h;exact⟨r,L',zdy e hm,h⟩
theorem SG.room{k:Nat}{f:Unit->Option σ}{q:PR β}(hk:k<=274877906944)(h:SG L0 E' O' (f ()) q):SG L0 E' O' ((room k).bind f) q:=by
 rw[zd6 hk];exact h
theorem SG.take{f:zu×zh×Unit->Option σ}{q:PR β}(ok:TL L0 L)(hk:zX (L.map tk)≠0)(h: ∀x,x.Text=tText (L.map tk)->TL L0 L.tail->SG L0 E' O' (f (x,pp L.tail no,())) q):
  SG L0 E' O' ((zav (pp L no)).bind f) q:=by
 obtain⟨x,_,_,hx,e⟩:=zSd (no:=no) ok hk;rw[e,qz1];exact h x hx (ok.tail hk)
end
structure zwx (L0:List zu) (g:zf) (q:PG):Prop where
 expr: ∀no L,TL L0 L->SG L0 ER (OL no) (g.zau (pp L no)) (q.expr no (L.map tk))
 assign: ∀no L,TL L0 L->SG L0 ER (OL no) (g.zay (pp L no)) (q.assign no (L.map tk))
 binary: ∀no b L,TL L0 L->b<=100->SG L0 EL (OR no) (g.zce b (pp L no)) (q.binary no b (L.map tk))
 unary: ∀no L,TL L0 L->SG L0 ER (OL no) (g.zb5 (pp L no)) (q.unary (L.map tk))
 mems: ∀no x c L,TL L0 L->SG L0 EL (OR no) (g.zb3 x c (pp L no)) (q.mems c x (L.map tk))
 made: ∀no L,TL L0 L->SG L0 ER (OL no) (g.zcH (pp L no)) (q.made (L.map tk))
 prim: ∀no L,TL L0 L->SG L0 ER (OL no) (g.zc1 (pp L no)) (q.prim (L.map tk))
 exprs: ∀no s last L,TL L0 L->SG L0 ER (OL no) (g.zbz s last (pp L no)) (q.exprs s last (L.map tk))
 props: ∀no L,TL L0 L->SG L0 EL (λ(l:List Node) L' r=>r= .inr (pp L' no,8,[],0,[],[],l,())) (g.zc0 [125] true (pp L no) 8 [] 0 [] [] []) (q.props (L.map tk))
 func: ∀no k L,TL L0 L->SG L0 EL (OR no) (g.zbQ k (pp L no)) (q.func k (L.map tk))
 vars: ∀no L,TL L0 L->SG L0 EL (λl L' r=>r= .inr (nd 22 l,pp L' no,())) (g.zcG (pp L no)) (q.vars no (L.map tk))
 block: ∀L,TL L0 L->SG L0 EL (OR false) (g.zbA (pp L false)) (q.block (L.map tk))
 head: ∀L,TL L0 L->SG L0 EL (OR false) (g.zbG (pp L false)) (q.head (L.map tk))
 till: ∀s L,TL L0 L->SG L0 ER (OL false) (g.zcP s (pp L false)) (q.till s (L.map tk))
 loop: ∀L,TL L0 L->SG L0 EL (OR false) (g.zdU (pp L false)) (q.loop (L.map tk))
 stmt: ∀L,TL L0 L->SG L0 EL (OR false) (g.zbu (pp L false)) (q.stmt (L.map tk))
 stmts: ∀f L,TL L0 L->SG L0 ER (OL false) (g.zbn f [125] (pp L false)) (q.stmts f (L.map tk))
noncomputable abbrev RG:=zl
section
variable {L0 L:List zu} {no:Bool} {n M:Nat} (H: ∀k,k<=n->∀N,20*k+20<=N->zwx L0 (RG N) (pG k)) (hn:n<=10000000000) (hM:20*n+30<=M)
include H hn hM
theorem zKB: ∀(k m:Nat),k<=n->k<=m->∀(x:Node) (L:List zu),TL L0 L->
  SG L0 ER (OL no) (zaF (zeR (RG M)) m (pp L no,0,([]:Str),0,([]:Str),x,([]:List Str),([]:List zg),())) ((pG k).comma no x (L.map tk))
 |0,m,_,_,x,L,ok=>trivial
 |k+1,0,_,hm,x,L,ok=>by omega
 |k+1,m+1,hk,hm,x,L,ok=>by
  show SG _ _ _ _ (zlO (pG k) no x (L.map tk));have ih:=λx L ok=>zKB k m (by omega) (by omega) x L ok
  unfold zlO;rw[zfM];generalize zaF (zeR (RG M)) m=W at ih⊢;unfold zeR;simp only[zS,zq,zgY];refine .assoc (.has ok (λh ok'=>?_) λh=>?_)
  ·simp only[yB];rw[<-yM];refine .assoc (.r ((H k (by omega) M (by omega)).assign no _ ok') (λ_ _=>⟨_,rfl,_,rfl⟩) λv L' ok'=>?_);exact ih _ L' ok'
  ·simp only[qz2,yA];exact .gt ok rfl
theorem zTl(ok:TL L0 L):SG L0 ER (OL no) (zhy (RG M) (pp L no)) (zAO (pG n) no (L.map tk)):=by
 unfold zhy zAO;simp only[zS,zq];refine .r ((H n (yJ _) M (by omega)).assign no L ok) (λ_ _=>⟨_,rfl,_,rfl⟩) λv L' ok'=>?_
 exact .loop (zKB H hn hM n 1000000000000 (yJ _) (by omega) v L' ok') (yJ _)
theorem zKF(least:Int)(hl:least<=100): ∀(k m:Nat),k<=n->k<=m->∀(x:Node) (L:List zu),TL L0 L->
  SG L0 EL (OR no) (zaF (zed (RG M)) m (least,pp L no,0,([]:Str),0,([]:Str),x,([]:List Str),([]:List zg),())) ((pG k).bins no least x (L.map tk))
 |0,m,_,_,x,L,ok=>trivial
 |k+1,0,_,hm,x,L,ok=>by omega
 |k+1,m+1,hk,hm,x,L,ok=>by
  show SG _ _ _ _ (zoO (pG k) no least x (L.map tk));have ih:=λx L ok=>zKF least hl k m (by omega) (by omega) x L ok
  unfold zoO;rw[zfM];generalize zaF (zed (RG M)) m=W at ih⊢;unfold zed;simp only[zS,zq,zgY,zMf ok.ok,qz1]
  have hb:(zdo no (L.map tk)).1<=8/\0<=(zdo no (L.map tk)).1:=by
   cases L.map tk with
   |nil=>show(0:Int)<=8/\(0:Int)<=0;decide
   |cons a r=>
    show(if opK a=true then lvS no a.text else(0,0)).1<=8/\0<=(if opK a=true then lvS no a.text else(0,0)).1;unfold lvS
    repeat' split
    all_goals decide
  cases hc:(decide ((zdo no (L.map tk)).1<least)||(zdo no (L.map tk)).1==0)with
  |true=>
   simp only[yB];exact .gt ok rfl
  |false=>
   simp only[qz2,yA]
   have h0:(zdo no (L.map tk)).1≠0:=by
    intro e;rw[e]at hc;simp at hc
   refine .assoc (.take ok (zFq h0) λa ha ok'=>?_);have hw:IntKind.wrap .i64 ((zdo no (L.map tk)).1+1)=(zdo no (L.map tk)).1+1:=wrap_i64 (by omega) (by omega);rw[<-yM];simp only[hw];refine .assoc (.l ((H k (by omega) M (by omega)).binary no _ _ ok' (by omega)) (λ_ _=>⟨_,rfl,_,rfl⟩) λv L' ok'=>?_);simp only[ha];exact ih _ L' ok'
theorem zOp(b:Int)(hb:b<=100)(ok:TL L0 L):SG L0 EL (OR no) (zf4 (RG M) b (pp L no)) (zrd (pG n) no b (L.map tk)):=by
 unfold zf4 zrd;simp only[zS,zq];refine .r ((H n (yJ _) M (by omega)).unary no L ok) (λ_ _=>⟨_,rfl,_,rfl⟩) λv L' ok'=>?_
 exact .loop (zKF H hn hM b hb n 1000000000000 (yJ _) (by omega) v L' ok') (yJ _)
end
theorem SG.map{α β ρ:Type}{L0:List zu}{E:Int->ρ->Prop}{O:α->List zu->ρ->Prop}{O':β->List zu->ρ->Prop}{m:Option ρ}{q:PR α}(φ:α->β)(h:SG L0 E O m q)(ho: ∀v L' r,O v L' r->O' (φ v) L' r):
  SG L0 E O' m (q.bd λp=>Go.D08.gt (φ p.1,p.2)):=by
 cases q with
 |none=>trivial
 |some p=>
  cases p with
  |inl k=>exact h
  |inr p=>
   obtain⟨r,L',e1,e2,e3,e4⟩:=h;exact⟨r,L',e1,e2,e3,ho _ _ _ e4⟩
theorem SG.gt'{α ρ:Type}{L0 L:List zu}{E:Int->ρ->Prop}{O:α->List zu->ρ->Prop}{r:ρ}{v:α}{t:zB}(ok:TL L0 L)(ht:L.map tk=t)(h:O v L r):SG L0 E O (some r) (Go.D08.gt (v,t)):=⟨r,L,rfl,ht,ok,h⟩
section
variable {L0 L:List zu} {no:Bool} {n M:Nat} (H: ∀k,k<=n->∀N,20*k+20<=N->zwx L0 (RG N) (pG k)) (hn:n<=10000000000) (hM:20*n+30<=M)
include H hn hM
theorem zOH(ok:TL L0 L):SG L0 ER (λv L' r=>r= .inl (pp L' no,v,[],[],())) ((RG M).zcA (pp L no) 0 [] 0 [] [] []) ((pG n).assign false (L.map tk)):=by
 obtain⟨M,rfl⟩: ∃k,M=k+2:=⟨M -2,by omega⟩
 have h1:SG L0 ER (λv L' r=>r= .inl (pp L' false,v,[],[],())) (zfp (RG M) (pp L false) 0 [] 0 [] [] []) ((pG n).assign false (L.map tk)):=by
  unfold zfp;simp only[zS,zq];exact .rr ((H n (yJ _) M (by omega)).assign false L ok) (λ_ _=>⟨_,rfl,_,rfl⟩) λv L'=>⟨_,rfl,rfl⟩
 show SG _ _ _ (zfa (RG (M+1)) (pp L no) 0 [] 0 [] [] []) _;unfold zfa;simp only[zS,zq];exact h1.same (by rintro a _ ⟨y,rfl⟩;exact⟨_,rfl,_,rfl⟩) (by rintro v L' _ _ rfl;exact⟨_,rfl,rfl⟩)
theorem zPx(ok:TL L0 L):SG L0 ER (λv L' r=>r= .inl (pp L' no,v,[],[],())) ((RG M).zcy (pp L no) 0 [] 0 [] [] []) ((pG n).expr false (L.map tk)):=by
 obtain⟨M,rfl⟩: ∃k,M=k+2:=⟨M -2,by omega⟩
 have h1:SG L0 ER (λv L' r=>r= .inl (pp L' false,v,[],[],())) (zf3 (RG M) (pp L false) 0 [] 0 [] [] []) ((pG n).expr false (L.map tk)):=by
  unfold zf3;simp only[zS,zq];exact .rr ((H n (yJ _) M (by omega)).expr false L ok) (λ_ _=>⟨_,rfl,_,rfl⟩) λv L'=>⟨_,rfl,rfl⟩
 show SG _ _ _ (zeL (RG (M+1)) (pp L no) 0 [] 0 [] [] []) _;unfold zeL;simp only[zS,zq];exact h1.same (by rintro a _ ⟨y,rfl⟩;exact⟨_,rfl,_,rfl⟩) (by rintro v L' _ _ rfl;exact⟨_,rfl,rfl⟩)
theorem zPR(ok:TL L0 L):SG L0 ER (λv L' r=>r= .inl (pp L' no,v,[],[],())) ((RG M).zcz (pp L no) 0 [] 0 [] [] []) ((pG n).expr false (L.map tk)):=by
 obtain⟨M,rfl⟩: ∃k,M=k+2:=⟨M -2,by omega⟩
 have h1:SG L0 ER (λv L' r=>r= .inl (pp L' false,v,[],[],())) (ze1 (RG M) (pp L false) 0 [] 0 [] [] []) ((pG n).expr false (L.map tk)):=by
  unfold ze1;simp only[zS,zq];exact .rr ((H n (yJ _) M (by omega)).expr false L ok) (λ_ _=>⟨_,rfl,_,rfl⟩) λv L'=>⟨_,rfl,rfl⟩
 show SG _ _ _ (zeV (RG (M+1)) (pp L no) 0 [] 0 [] [] []) _;unfold zeV;simp only[zS,zq];exact h1.same (by rintro a _ ⟨y,rfl⟩;exact⟨_,rfl,_,rfl⟩) (by rintro v L' _ _ rfl;exact⟨_,rfl,rfl⟩)
theorem zOQ(ok:TL L0 L):SG L0 ER (OL no) (zga (RG M) (pp L no)) (zq8 (pG n) no (L.map tk)):=by
 have S:=H n (yJ _) M (by omega);unfold zga zq8;simp only[zS,zq];refine .l (S.binary no 3 L ok (by decide)) (λ_ _=>⟨_,rfl,_,rfl⟩) λv L1 ok1=>?_
 refine .has ok1 (λh ok2=>?_) λh=>?_
 ·simp only[yB];rw[<-yM];refine(zOH H hn hM ok2).gen (by rintro a _ ⟨y,rfl⟩;exact⟨_,rfl,_,rfl⟩) ?_
  rintro y L3 _ _ ok3 rfl;refine .need ok3 (λ_ _=>⟨_,rfl,_,rfl⟩) λL4 ok4=>?_
  exact .r (S.assign no L4 ok4) (λ_ _=>⟨_,rfl,_,rfl⟩) λz L5 ok5=> .gt ok5 rfl
 ·simp only[qz2,yA];refine .among (ws:=zt6) ok1 (by decide+kernel) (by decide+kernel) (by decide) (λh=>?_) λh=>?_
  ·simp only[yO,qz2,yA,yB];refine .target ok1 (λ_ _=>⟨_,rfl,_,rfl⟩) λht=>?_
   refine .take ok1 (zk4 h) λa ha ok2=>?_
   rw[<-yM];refine .r (S.assign no _ ok2) (λ_ _=>⟨_,rfl,_,rfl⟩) λz L5 ok5=> .gt ok5 ?_
   simp only[ha];rfl
  ·simp only[yN,yB];exact .gt ok1 rfl
theorem zQV(ok:TL L0 L):SG L0 ER (OL no) (zgw (RG M) (pp L no)) (zhW (pG n) (L.map tk)):=by
 have S:=H n (yJ _) M (by omega);unfold zgw zhW;simp only[zS,zq,zgY];refine .among (ws:=ztP) ok (by decide+kernel) (by decide+kernel) (by decide) (λh=>?_) λh=>?_
 ·simp only[yB];refine .take ok (zk4 h) λa ha ok2=>?_
  rw[<-yM];refine .r (S.unary no _ ok2) (λ_ _=>⟨_,rfl,_,rfl⟩) λz L5 ok5=> .gt ok5 ?_
  simp only[ha];rfl
 ·simp only[qz2,yA];refine .among (ws:=zir) ok (by decide+kernel) (by decide+kernel) (by decide) (λh=>?_) λh=>?_
  ·simp only[yB];refine .take ok (zk4 h) λa ha ok2=>?_
   rw[<-yM];refine .r (S.unary no _ ok2) (λ_ _=>⟨_,rfl,_,rfl⟩) λz L5 ok5=>?_
   refine .target ok5 (λ_ _=>⟨_,rfl,_,rfl⟩) λht=> .gt ok5 ?_
   simp only[ha]
  ·simp only[qz2,yA];refine .r (S.made no L ok) (λ_ _=>⟨_,rfl,_,rfl⟩) λx L1 ok1=>?_
   refine .l (S.mems no x true L1 ok1) (λ_ _=>⟨_,rfl,_,rfl⟩) λy L2 ok2=>?_
   simp only;rw[zmj ok2.ok zir ([32,43,43,32,45,45,32]:Str) (by decide+kernel) (by decide+kernel) (by decide),qz1];obtain⟨a,r,rfl⟩:=ok2.ok.cons;simp only[zdG,qz1];cases h1:zbv zir ((a::r).map tk)with
   |false=>
    simp only[yN,yB,qz1,Bool.true_or];exact .gt ok2 rfl
   |true=>
    have hf:a.Fresh=ze6 ((a::r).map tk):=rfl;simp only[yO,qz2,yA,qz1,Bool.false_or,hf];cases h2:ze6 ((a::r).map tk)with
    |true=>
     simp only[yB];exact .gt ok2 rfl
    |false=>
     simp only[qz2,yA];refine .target ok2 (λ_ _=>⟨_,rfl,_,rfl⟩) λht=>?_
     refine .take ok2 (zk4 h1) λb hb ok3=> .gt' ok3 (by rw[yM]) ?_
     simp only[hb];rfl
theorem zRI(ok:TL L0 L):SG L0 ER (OL no) (zhq (RG M) (pp L no)) (zoV (pG n) (L.map tk)):=by
 have S:=H n (yJ _) M (by omega);unfold zhq zoV;simp only[zS,zq,zgY];refine .has ok (λh ok1=>?_) λh=>?_
 ·simp only[yO,qz2,yA];rw[<-yM];refine .r (S.made no _ ok1) (λ_ _=>⟨_,rfl,_,rfl⟩) λx L1 ok1=>?_
  refine .l (S.mems no x false L1 ok1) (λ_ _=>⟨_,rfl,_,rfl⟩) λy L2 ok2=>?_
  refine .has ok2 (λh ok3=>?_) λh=>?_
  ·simp only[yB];rw[<-yM];refine(S.exprs no _ _ _ ok3).gen (by rintro a _ ⟨y,rfl⟩;exact⟨_,rfl,_,rfl⟩) ?_
   rintro l L4 _ hq ok4 rfl;have:=zyT n _ _ _ _ hq;simp only at this;exact .room (by simp only[qz3,qz6];omega) (.gt ok4 rfl)
  ·simp only[qz2,yA];exact .gt ok2 rfl
 ·simp only[yN,yB];exact .rr (S.prim no L ok) (λ_ _=>⟨_,rfl,_,rfl⟩) λv L'=>⟨_,rfl,rfl⟩
theorem zKP(c:Bool): ∀(k m:Nat),k<=n+1->k<=m->∀(x:Node) (L:List zu),TL L0 L->
  SG L0 EL (OR no) (zaF (zdQ (RG M)) m (c,pp L no,x,0,([]:Str),0,([]:Str),([]:List Str),([]:List zg),())) ((pG k).mems c x (L.map tk))
 |0,m,_,_,x,L,ok=>trivial
 |k+1,0,_,hm,x,L,ok=>by omega
 |k+1,m+1,hk,hm,x,L,ok=>by
  have S:=H k (by omega) M (by omega);have hw:=λx L ok=>zKP c k m (by omega) (by omega) x L ok
  show SG _ _ _ _ (zjq (pG k) c x (L.map tk));unfold zjq;rw[zfM];generalize zaF (zdQ (RG M)) m=W at hw⊢;unfold zdQ;simp only[zS,zq,zgY];refine .assoc (.has ok (λh ok1=>?_) λh=>?_)
  ·simp only[yB];rw[<-yM];obtain⟨a,r,hL⟩:=ok1.ok.cons;rw[hL]at ok1⊢;have k1:=zhm ok1 1;have k2:=zhm ok1 2;rw[show((1:Nat):Int)=1 from rfl]at k1;rw[show((2:Nat):Int)=2 from rfl]at k2;simp only[zdG,qz1,bne,k1,k2];cases h1:zX ((a::r).map tk)==1 with
   |true=>
    simp only[yO,qz2,yA,qz1,Bool.true_or,yB];refine .assoc (.take ok1 (zcV h1 (by decide)) λb hb ok3=>?_);have:=hw (ndN 11 (tText ((a::r).map tk)) [x]) r ok3;simp only[hb];exact this
   |false=>
    cases h2:zX ((a::r).map tk)==2 with
    |true=>
     simp only[yO,yN,qz2,yA,yB,qz1,Bool.or_true];refine .assoc (.take ok1 (zcV h2 (by decide)) λb hb ok3=>?_);have:=hw (ndN 11 (tText ((a::r).map tk)) [x]) r ok3;simp only[hb];exact this
    |false=>
     simp only[yN,qz2,yA,yB,qz1,Bool.or_self];exact .assoc (.fail ok1 λa=>⟨_,rfl,_,rfl⟩)
  ·simp only[qz2,yA];refine .assoc (.has ok (λh ok1=>?_) λh=>?_)
   ·simp only[yB];rw[<-yM];refine .assoc ((zPR (λj hj=>H j (by omega)) (by omega) (by omega) ok1).gen (by rintro a _ ⟨y,rfl⟩;exact⟨_,rfl,_,rfl⟩) ?_)
    rintro y L3 _ _ ok3 rfl;refine .assoc (.need ok3 (λ_ _=>⟨_,rfl,_,rfl⟩) λL4 ok4=>?_);exact hw _ L4 ok4
   ·simp only[qz2,yA];cases c with
    |false=>
     simp only[Bool.false_and,qz2,yA];exact .gt ok rfl
    |true=>
     simp only[Bool.true_and,yB];refine .assoc (.has ok (λh ok1=>?_) λh=>?_)
     ·simp only[yB];rw[<-yM];refine .assoc ((S.exprs no _ _ _ ok1).gen (by rintro a _ ⟨y,rfl⟩;exact⟨_,rfl,_,rfl⟩) ?_)
      rintro l L4 _ hq ok4 rfl;have:=zyT k _ _ _ _ hq;simp only at this;exact .assoc (.room (by simp only[qz3,qz6];omega) (hw _ L4 ok4))
     ·simp only[qz2,yA];exact .gt ok rfl
theorem zSp(x:Node)(c:Bool)(ok:TL L0 L):SG L0 EL (OR no) (zfU (RG M) x c (pp L no)) (zjq (pG n) c x (L.map tk)):=by
 unfold zfU;simp only[zS,zq];exact .loop (zKP H hn hM c (n+1) 1000000000000 (yJ _) (by omega) x L ok) (yJ _)
end
theorem zId{α:Type}(l:List α)(x:α):zN (l++[x]) ((l.length:Nat):Int)=some x:=by rw[zji];simp
theorem zLb{α:Type}(l:List α)(x y:α):(l++[x]).set ((l.length:Nat):Int).toNat y=l++[y]:=by simp
section
variable {L0 L:List zu} {no:Bool} {n M:Nat} (H: ∀k,k<=n->∀N,20*k+20<=N->zwx L0 (RG N) (pG k)) (hn:n<=10000000000) (hM:20*n+30<=M)
include H hn hM
theorem zNU(l:List Node)(hl:l.length<=20000000000)(ok:TL L0 L):SG L0 ER (λv L' r=>r= .inl (pp L' no,l++[v],())) ((RG M).zcW (pp L no) l) ((pG n).assign no (L.map tk)):=by
 obtain⟨M,rfl⟩: ∃k,M=k+1:=⟨M -1,by omega⟩
 show SG _ _ _ (zfO (RG M) (pp L no) l) _;unfold zfO;simp only[zS,zq,zgY];refine .rr ((H n (yJ _) M (by omega)).assign no L ok) (λ_ _=>⟨_,rfl,_,rfl⟩) λv L'=>⟨.inl (pp L' no,l++[v],()),?_,rfl⟩
 simp only[qz3,qz6,Nat.zero_add];rw[zd6 (by omega)];simp only[qz1,zId,zLb]
theorem zKE(s:Str)(last:Bool): ∀(k m:Nat),k<=n+1->k<=m->∀(l:List Node) (L:List zu),l.length+k<=n+1->TL L0 L->
  SG L0 ER (λ(v:List Node) L' r=>r= .inl (pp L' false,s,l++v,last,())) (zaF (zds (RG M)) m (pp L false,s,l,last,())) ((pG k).exprs s last (L.map tk))
 |0,m,_,_,l,L,_,ok=>trivial
 |k+1,0,_,hm,l,L,_,ok=>by omega
 |k+1,m+1,hk,hm,l,L,hl,ok=>by
  show SG _ _ _ _ (zg0 (pG k) s last (L.map tk));have ih:=λl L hl ok=>zKE s last k m (by omega) (by omega) l L hl ok
  unfold zg0;rw[zfM];generalize zaF (zds (RG M)) m=W at ih⊢;unfold zds;simp only[zS];refine .assoc (.has ok (λh ok1=>?_) λh=>?_)
  ·simp only[yO,qz2,yA];exact .gt' ok1 (by rw[yM]) (by simp)
  ·simp only[yN,yB];refine .assoc ((zNU (no:=false) (λj hj=>H j (by omega)) (by omega) (by omega) l (by omega) ok).gen (by rintro a _ ⟨y,rfl⟩;exact⟨_,rfl,_,rfl⟩) ?_)
   rintro x L1 _ _ ok1 rfl;refine .assoc (.has ok1 (λh ok2=>?_) λh=>?_)
   ·simp only[yB];exact .gt' ok2 (by rw[yM]) rfl
   ·simp only[qz2,yA];refine .assoc (.need ok1 (λ_ _=>⟨_,rfl,_,rfl⟩) λL2 ok2=>?_)
    have go: ∀L3,TL L0 L3->SG L0 ER (λ(v:List Node) L' r=>r= .inl (pp L' false,s,l++v,last,())) (W (pp L3 false,s,l++[x],last,())) (((pG k).exprs s last (L3.map tk)).bd λq=>gt (x::q.1,q.2)):=λL3 ok3=>
     (ih (l++[x]) L3 (by rw[qz5];simp only[qz3,qz6];omega) ok3).map (λv=>x::v) (by rintro v L' _ rfl;simp)
    cases last with
    |true=>
     simp only[yO,Bool.false_and,qz2,yA];exact go L2 ok2
    |false=>
     simp only[yN,Bool.true_and,yB];refine .assoc (.is ok2 (λh=>?_) λh=>?_)
     ·simp only[yB];exact .assoc (.fail ok2 λa=>⟨_,rfl,_,rfl⟩)
     ·simp only[qz2,yA];exact go L2 ok2
theorem zQn(h9:20*n+39<=M)(s:Str)(last:Bool)(ok:TL L0 L):SG L0 ER (OL no) (zgG (RG M) s last (pp L no)) (zg0 (pG n) s last (L.map tk)):=by
 obtain⟨M,rfl⟩: ∃k,M=k+4:=⟨M -4,by omega⟩
 unfold zgG;show SG _ _ _ ((zeg (RG (M+3)) s last (pp L no) []).bind _) ((pG (n+1)).exprs s last (L.map tk))
 have h1:SG L0 ER (λ(v:List Node) L' r=>r= .inl (pp L' false,s,v,last,())) (zeW (RG (M+1)) (pp L false) s [] last) ((pG (n+1)).exprs s last (L.map tk)):=by
  unfold zeW;simp only[zS];exact .loop (zKE H hn (by omega) s last (n+1) 1000000000000 (yJ _) (by omega) [] L (by simp) ok) (yJ _)
 have h2:SG L0 ER (λ(v:List Node) L' r=>r= .inl (pp L' no,s,v,last,())) (zeZ (RG (M+2)) (pp L no) s [] last) ((pG (n+1)).exprs s last (L.map tk)):=by
  unfold zeZ;simp only[zS];exact h1.same (by rintro a _ ⟨y,rfl⟩;exact⟨_,rfl,_,rfl⟩) (by rintro v L' _ _ rfl;exact⟨_,rfl,rfl⟩)
 have h3:SG L0 ER (λ(v:List Node) L' r=>r= .inl (pp L' no,v,())) (zeg (RG (M+3)) s last (pp L no) []) ((pG (n+1)).exprs s last (L.map tk)):=by
  unfold zeg;simp only[zS];exact h2.same (by rintro a _ ⟨y,rfl⟩;exact⟨_,rfl,_,rfl⟩) (by rintro v L' _ _ rfl;exact⟨_,rfl,rfl⟩)
 exact h3.same (by rintro a _ ⟨y,rfl⟩;exact⟨_,rfl,_,rfl⟩) (by rintro v L' _ _ rfl;exact⟨_,rfl,rfl⟩)
end
end Go.D08
