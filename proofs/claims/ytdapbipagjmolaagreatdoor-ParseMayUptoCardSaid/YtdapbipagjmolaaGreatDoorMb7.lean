/- Texts for a statement of this seat. -/
import Derived.Test.YtdapbipagjmolaaGreatDoorMb6
set_option linter.unusedSectionVars false
set_option linter.unusedVariables false
set_option linter.unusedSimpArgs false
set_option linter.unnecessarySimpa false
namespace Go.D08
open Go Go.Gw Go.Dn Go.Proofs
set_option maxRecDepth 100000
/-! ### a node that may be has numbers of the machine -/
def okK(k:Int)(o:Option (Form×Bool×Unit)):Prop:=∀f,o=some (f,true,())->f.num<=9007199254740991/\0<=k/\k<=100
theorem zKO{k n:Int}{a b:Option (Form×Bool×Unit)}(h1:k=n->okK k a)(h2:okK k b):okK k (if(k==n)=true then a else b):=by
 split
 ·rename_i h;exact h1 (eq_of_beq h)
 ·exact h2
theorem zIe{k:Int}{f:Form}(n:Int)(hn:0<=n/\n<=100)(hf:f.num<=9007199254740991)(h:k=n):okK k (some (f,true,())):=λg e=>by cases e;exact⟨hf,by omega,by omega⟩
theorem zVy{k:Int}{f:Form}:okK k (some (f,false,())):=λg e=>by cases e
theorem zKh(n:Node):okK n.Kind (zL n):=by
 unfold zL;simp only[zLf (zAL _).1 (zAL _).2,zEl (zA3 _).1 (zA3 _).2,qz1]
 repeat' (first|exact zVy|refine zKO (λh=>zIe _ ⟨?_,?_⟩ ?_ h) ?_|decide|exact(by decide:(0:Int)<=9007199254740991))
theorem zXw(n:Node):okK n.Kind (zaE n):=by
 have hs:=zKh n;obtain⟨f,b,h1,h2⟩:=zBQ (zuR n);unfold zaE;simp only[zq,h1,qz1,zN,zq];rw[h1]at hs
 repeat' (first|exact hs|refine zKO (λh=>zIe _ ⟨?_,?_⟩ ?_ h) ?_|decide)
theorem zQ7{x:Node}(h:zan x=true):i64 x.Kind/\i64 x.Num:=by
 rw[zow]at h;unfold zwq at h;split at h
 ·cases h
 ·rename_i f hf;simp only[qz4,zti,yT]at h
  have h1:=zXw x f (by
   unfold zaq at hf;split at hf
   ·rename_i g e;cases hf;exact e
   ·cases hf)
  have h2:=h.1.1.1.2;exact⟨⟨by omega,by omega⟩,⟨by omega,by omega⟩⟩
mutual
theorem zNu: ∀x:Node,zan x=true->okN x
 | ⟨k,n,m,t,ns,l⟩,h=>by
  have h1:=zQ7 h;simp only[okN];exact⟨h1.1,h1.2,zKF l (zzG h).2⟩
theorem zKF: ∀l:List Node,(∀x∈l,zan x=true)->okL l
 | [],_=>trivial
 |x::r,h=>⟨zNu x (h x qz7),zKF r λy hy=>h y (qz8 _ hy)⟩
end
/-! ### tokens that were cut -/
theorem zXr{L:List zy}{b:Nat}(h:U.zoO b L):GT (L.map tk):=by
 induction h with
 |fin e h1 h2=>
  intro a ha;obtain rfl:a=tk e:=by simpa using ha
  refine⟨λe2=>?_,λe2=>?_,λe2=>?_,λe2=>?_⟩<;>exact absurd (show e.Kind.toNat=_ from e2) (by rw[h1];decide)
 |one s t l o hs k1 k5 _ ih=>
  intro a ha;rcases yP.1 ha with rfl|ha
  ·have hid:t.Kind=1\/t.Kind=2->zdD t.Text=true:=λhk=>by
    obtain⟨h1,h2,c,r,rfl,hl⟩:=o.ident hk;obtain⟨g1,g2⟩:=U.ztw o hk;have hlen:t.Text.length<=32:=by rw[h1,List.length_take];omega
    have hall:t.Text.all zfM=true:=List.all_eq_true.2 g1;cases ht:t.Text with
    |nil=>exact absurd ht g2
    |cons d q=>
     have hd:d=c:=by
      rw[ht]at h1;cases hr:zbz (c::r)with
      |zero=>rw[hr]at h1;cases h1
      |succ m=>rw[hr]at h1;cases h1;rfl
     subst hd;rw[ht]at hlen hall;unfold zdD;simp only[hlen,decide_true,hl,hall,Bool.and_self]
   have hkk: ∀m:Nat,(tk t).kind=m->t.Kind=(m:Int):=λm e=>by have e:t.Kind.toNat=m:=e;omega
   refine⟨λe=>?_,λe=>hid (.inr (hkk _ e)),λe=>?_,λe=>?_⟩
   ·have e:t.Kind=1:=hkk _ e;have hw:=o.word (.inl e);show zaP t.Text=true;unfold zaP;rw[hid (.inl e),U.zAm];cases hx:U.zjN t.Text with
    |false=>rfl
    |true=>have:=hw.2 hx;omega
   ·exact⟨(o.num (hkk _ e)).1,(o.num (hkk _ e)).2.1⟩
   ·obtain⟨us,h1,h2⟩:=o.str (hkk _ e);show zaL t.Text=true;unfold zaL;rw[h1,U.zjQ];simp
  ·exact ih a ha
theorem zzu(q:UInt8): ∀(m:Nat) (r:Str) (acc us:List Nat) (k:Nat),U.zfV q m r acc=some (us,k)->us.length+k+1<=acc.length+r.length
 |0,_,_,_,_,h=>by cases h
 |m+1,[],_,_,_,h=>by cases h
 |m+1,c::r,acc,us,k,h=>by
  unfold U.zfV at h;split at h
  ·cases h;simp;omega
  ·split at h
   ·cases h
   ·split at h
    ·split at h
     ·cases h
     ·rename_i us' k' he;have:=zzu q m _ _ _ _ h;have h1:=U.zHz he;simp only[qz5,List.length_drop,qz3]at this⊢;omega
    ·have:=zzu q m _ _ _ _ h;simp only[qz5,qz3,qz6]at this⊢;omega
theorem zR7{s:Str}{t:zy}{n:Nat}(h:U.zhK s=some (t,n)):t.Text.length<=2*n:=by
 cases s with
 |nil=>cases h
 |cons c s=>
  unfold U.zhK at h;dsimp only at h;split at h
  ·split at h
   ·cases h
   ·cases h;show((c::s).take _).length<=_;rw[List.length_take];omega
  ·split at h
   ·cases hn:U.zpJ (c::s)with
    |none=>rw[hn]at h;cases h
    |some p=>rw[hn]at h;cases h;exact Nat.zero_le _
   ·split at h
    ·generalize hx:U.zfd (c::s)=q at h;obtain⟨u,n',e⟩:=q;simp only at h;split at h
     ·cases h
     ·rename_i hne;cases h;unfold U.zfd at hx;simp only at hx;by_cases hq:c=39\/c=34
      ·rw[yL hq]at hx;cases hg:U.zfV c (s.length+1) s []with
       |none=>
        rw[hg]at hx;exact absurd (show(0:Int)=n' from congrArg (λx=>x.2.1) hx).symm hne
       |some p=>
        obtain⟨us,k⟩:=p;rw[hg]at hx;obtain rfl:U.zd8 us=u:=congrArg (λx=>x.1) hx;obtain rfl:(((c::s).length -k:Nat):Int)=n':=congrArg (λx=>x.2.1) hx;have:=zzu c _ _ _ _ _ hg;show(U.zd8 us).length<=_;rw[U.zjQ];simp only[qz3,qz6,Int.toNat_natCast]at this⊢;omega
      ·rw[yK hq]at hx;exact absurd (show(0:Int)=n' from congrArg (λx=>x.2.1) hx).symm hne
    ·split at h
     ·cases h
     ·cases h;show((c::s).take _).length<=_;rw[List.length_take];omega
theorem zHD(len:Nat): ∀(m:Nat) (s:Str) (f:Bool) (l:List (zy×Nat)),U.zih m s f= .inl l->wT ((U.zie len l).map tk)<=106*s.length+100
 |0,_,_,_,h=>by cases h
 |m+1,s,f,l,h=>by
  have hl:=zeK (s.length+1) s f;rw[U.zih]at h;generalize zcC (s.length+1) s f=q at h hl;obtain⟨r,f',ok⟩:=q;simp only at h hl;split at h
  ·cases h
  ·split at h
   ·cases h;show 100+3*(([]:Str)).length+0<=_;simp
   ·cases ho:U.zhK r with
    |none=>rw[ho]at h;cases h
    |some p=>
     obtain⟨t,n⟩:=p;rw[ho]at h;simp only at h;have hn:=U.zmd ho;have hn2:=zR7 ho;cases hc:U.zih m (r.drop n) false with
     |inr k=>rw[hc]at h;cases h
     |inl l'=>
      rw[hc]at h;cases h;have hd:(r.drop n).length=r.length -n:=List.length_drop;have g:=zHD len m (r.drop n) false l' hc;rw[U.zoW];show 100+3*t.Text.length+wT ((U.zie len l').map tk)<=_;omega
theorem zRd{src:Str}{L:List zy}(h:U.zeN src=(L,0,0)):wT (L.map tk)<=500000:=by
 have hs:=(U.zkZ h).2.2;unfold U.zeN at h;split at h
 ·exact absurd (congrArg (λx=>x.2.2) h) (by simp)
 ·split at h
  ·rename_i l hc;obtain rfl:U.zie src.length l=L:=congrArg (λx=>x.1) h;have:=zHD src.length _ _ _ _ hc;omega
  ·exact absurd (congrArg (λx=>x.2.2) h) (by simp)
/-! ### what is read may be -/
theorem zHg{src:Str}{L:List zy}(hc:U.zeN src=(L,0,0)){q:List Node×zB}(h:(pG (10*L.length+20)).stmts true (L.map tk)=gt q):zan (nd 41 q.1)=true/\zJ (nd 41 q.1)<=500007:=by
 have h1:=(zOr (10*L.length+20)).stmts true (L.map tk) (zXr (U.zkZ hc).1);rw[h]at h1;have h2:=zRd hc;obtain⟨_,p1,p2⟩:=h1;refine⟨zVG p1,?_⟩;rw[bu];omega
theorem zNZ(src:Str)(hs:src.length<=100000000):
  (∃at' e:Int,e≠0/\zbE src=some (nd 0 [],at',e,()))\/(∃n:Node,n.Kind=41/\zan n=true/\zY n<=64/\zJ n<=500007/\zbE src=some (n,0,0,())):=by
 by_cases hc:(U.zeN src).2.2=0
 ·have hc:U.zeN src=((U.zeN src).1,0,0):=by
   unfold U.zeN at hc⊢;split at hc
   ·exact absurd hc (by simp)
   ·rename_i hl;rw[yK hl];split at hc
    ·rfl
    ·exact absurd hc (by simp)
  generalize (U.zeN src).1=L at hc;obtain⟨h1,h2,h3⟩:=U.zkZ hc
  have he:=zsn hs hc h1.ok (by omega) (λq hq=>by
   have:=(zHg hc hq).2;have:=zi1 (nd 41 q.1);omega)
  rw[he];obtain⟨r,hr⟩:=zv5 h1.ok.wf;rw[List.length_map]at hr;unfold zw5;rw[hr];cases r with
  |inl k=>exact .inl ⟨_,80,by decide,rfl⟩
  |inr q=>
   simp only;split
   ·split
    ·exact .inl ⟨_,31,by decide,rfl⟩
    ·have:=zHg hc hr;exact .inr ⟨_,rfl,this.1,by omega,this.2,rfl⟩
   ·exact .inl ⟨_,80,by decide,rfl⟩
 ·left;refine⟨(U.zeN src).2.1,(U.zeN src).2.2,hc,?_⟩;unfold zbE;rw[U.zzc src hs];have:((U.zeN src).2.2 !=0)=true:=by simpa using hc
  simp only[qz1,this,yB,zga];rfl
theorem zTy(src:Str)(hs:src.length<=100000000):zd7 src=some (true,()):=by
 unfold zd7;rw[zN9];simp only[qz1];rcases zNZ src hs with⟨a,e,he,h⟩| ⟨n,hk,hm,hd,hb,h⟩
 ·rw[h];have:(e !=0)=true:=by simpa using he
  simp only[qz1,this,yB];rfl
 ·rw[h];have ho:=zNu n hm;simp only[qz1,bne_self_eq_false,qz2,yA,zq]
  have hck:zkD n=0:=by
   unfold zkD;rw[hk,hm];simp only[beq_self_eq_true,Bool.and_self,yB];rw[yK (by omega)]
  rw[zxV n (by omega),hck];simp only[qz1,bne_self_eq_false,qz2,yA,zq];rw[zID n ho (by omega)];simp only[qz1,zq];cases h0:(zlk n).2 !=0 with
  |true=>
   have h2:(zlk n).2=2:=by
    unfold zlk at h0⊢;rw[hck]at h0⊢;simp only[bne_self_eq_false,qz2,yA]at h0⊢;split
    ·rfl
    ·rename_i hl;rw[yK hl]at h0;cases h0
   rw[h2];rfl
  |false=>
   have h0:(zlk n).2=0:=by simpa using h0
   simp only[qz2,yA];rw[zS8 ho (by omega) h0];simp only[qz1,beq_self_eq_true,Bool.and_self,yB,zq];rw[zUi n n (by omega) (by omega),(zFh n n).2 rfl];rfl
end Go.D08
