/- Texts for a statement of this seat. -/
import Derived.Test.YtdapbipagjmolaaGreatDoorMe1
import Derived.Recover
import Derived.Shelf.Strings.Builder1
import Derived.Test.YtdapbipagjmolaaGreatDoorProg
import Derived.Shelf.Strings.Builder2
import Derived.Shelf.Strings.OnBuilder
import Derived.Shelf.Strings.Trim
import Derived.Shelf.Small.Utf8
import Derived.Shelf.Small.Strs
import Derived.Shelf.Small.Wraps
import Derived.Shelf.Strings.BuilderF
import Derived.Shelf.Strings.BuilderK
import Derived.Shelf.Strings.Builder2Cap
import Derived.Shelf.Strconv.Itoa0
import Derived.Shelf.Strconv.Itoa1
import Derived.Shelf.LaysM
import Derived.Shelf.Strconv.Itoa2
import Derived.Shelf.Strconv.Itoa3
import Derived.Shelf.Strconv.Itoa4
import Derived.Shelf.Strconv.Clone
import Derived.Shelf.Strconv.SyntaxError
import Derived.Shelf.LaysC
import Derived.Shelf.Strconv.ToError
import Derived.Shelf.Strconv.RangeError
import Derived.Shelf.Strconv.ToErrorRange
import Derived.Shelf.Strings.Search1
import Derived.Shelf.Strings.Search2
import Derived.Shelf.Strings.Search3
import Derived.Shelf.Strings.Cut
import Derived.Shelf.Strings.Shaped
import Derived.Shelf.Strings.Prefix
import Derived.Shelf.Strings.Runes
import Derived.Shelf.Strings.IndexAny
import Derived.Shelf.Strings.AsciiSet
import Derived.Shelf.Strings.IndexAnyAll
import Derived.Shelf.Unicode.DecodeSlow
import Derived.Shelf.Strings.BuilderCap
import Derived.Laws.Runes
import Derived.Laws.RangeAny
import Derived.Lib.OthersKept
import Derived.Lib.TrimU
import Derived.Shelf.RegionOpenPlain
import Derived.Shelf.Strings.SlTrimAscii
import Derived.KernelRfl
import Derived.Shelf.Spec.SlicesInsert
import Derived.Shelf.Spec.SlicesInsertGrow
set_option linter.unusedSectionVars false
set_option linter.unusedVariables false
set_option linter.unusedSimpArgs false
set_option linter.unnecessarySimpa false
namespace Go.Dn
open Go.Gw Go.RowKit
def codeOf:List Nat->Nat
 | []=>0
 |d::r=>10*codeOf r+d
def zEa:List (List Nat)->List Nat
 | []=>[]
 |r::rs=>codeOf r::zEa rs
theorem zEZ{body:Code}: ∀{r:List Nat} {x:PI},zy5 body r=some x->x.1=codeOf r
 | [],x,h=>by cases h;rfl
 |d::r,x,h=>by
   simp only[zy5]at h;split at h
   · rename_i p c hp;have h1:p=codeOf r:=zEZ hp;split at h<;>cases h<;>simp only[codeOf,h1]
   · cases h
theorem zr8{body:Code}: ∀{rs:List (List Nat)} {xs:List PI},zo3 body rs=some xs->xs.map (·.1)=zEa rs
 | [],xs,h=>by cases h;rfl
 |r::rs,xs,h=>by
   simp only[zo3]at h;split at h
   · rename_i y ys hy hys;cases h;simp only[List.map_cons,zEa,zEZ hy,zr8 hys]
   · cases h
def zfT{A B:Type}(g:A->B):Option A->Option B
 |some x=>some (g x)
 |none=>none
class Lp where
 loop:{S E:Type}->(S->Option (S⊕E))->S->Option E
 big:Nat
 ok: ∀{S E:Type} (step:S->Option (S⊕E)) (s:S) (e:E),loop step s=some e->∃n,zaH step n s=some e
@[instance_reducible] def lpN (n:Nat):Lp:=⟨λstep s=>zaH step n s,n,λ_ _ _ h=>⟨n,h⟩⟩
inductive zau (Y:Tys):Type->Type 1 where
 |nil {A:Type}:zau Y A
 |join {A:Type} (key:List (List Nat)) (σ:Shape) (j:zgw Y σ->Option A) (rest:zau Y A):zau Y A
 |loop {A:Type} (key:List (List Nat)) (σ:Shape) (step:zgw Y σ->Option (zgw Y σ⊕A)) (sub:zau Y (zgw Y σ⊕A)) (rest:zau Y A):zau Y A
section
variable (Y:Tys) (P:Program) (T:Tab Y) (N h:Nat) (body:Code)
def zLv{A:Type}(σ:Shape)(j:zgw Y σ->Option A)(s:Sy Y.T):Option A:=match zaI Y h σ s with
 |some z=>j z
 |none=>none
def tbl[Lp]:{A:Type}->zau Y A->zn7 Y A
 |_,.nil=>[]
 |_,.join key σ j rest=>(zEa key,zLv Y h σ j)::tbl rest
 |_,.loop key σ step _ rest=>(zEa key,zLv Y h σ (Lp.loop step))::tbl rest
def up1{Z A B:Type}(g:A->B)(f:Z->Option A)(s:Z):Option B:=zfT g (f s)
def zDo{A B:Type}(g:A->B):zn7 Y A->zn7 Y B
 | []=>[]
 | (r,J)::l=>(r,up1 g J)::zDo g l
def zEJ{A B:Type}(g:A->B)(kp:Sy Y.T->AV Y.T->Option A)(s:Sy Y.T):AV Y.T->Option B:=up1 g (kp s)
noncomputable def zLc {A:Type} (env:zn7 Y A) (fn:Sy Y.T->Option A) (kp:Sy Y.T->AV Y.T->Option A) (key:List (List Nat)) (s:Sy Y.T):Option A:=match zo3 body key with
 |some todo=>goA Y P T N true env fn kp 100000 false todo s
 |none=>none
def zKQ{A:Type}(key:List (List Nat))(σ:Shape)(l:zn7 Y A):zn7 Y (zgw Y σ⊕A):=(zEa key,up1 Sum.inl (zaI Y h σ))::zDo Y Sum.inr l
def Obl[Lp]:{A:Type}->zn7 Y A->(Sy Y.T->Option A)->(Sy Y.T->AV Y.T->Option A)->zau Y A->Prop
 |_,_,_,_,.nil=>True
 |_,env,fn,kp,.join key σ j rest=>(∀z,zLc Y P T N body (tbl Y h rest++env) fn kp key (zeS Y σ z)=j z)/\Obl env fn kp rest
 |_,env,fn,kp,.loop key σ step sub rest=>
   (∀z,zLc Y P T N body (tbl Y h sub++zKQ Y h key σ (tbl Y h rest++env)) (up1 Sum.inr fn) (zEJ Y Sum.inr kp) key (zeS Y σ z)=step z)/\
     Obl (zKQ Y h key σ (tbl Y h rest++env)) (up1 Sum.inr fn) (zEJ Y Sum.inr kp) sub/\Obl env fn kp rest
end
section
variable {Y:Tys} {hY:zb8 Y} {P:Program} {N:Nat} {w0:World} {F0:Heap} {D:Own} {H:List (Option Nat)} {w w':World} {F F':Heap} {ρ ρ':List Pl} {os os':List (Option Obj)} {s s':Sy Y.T} {a a':Act} {T:Tab Y} {G:Heap->Prop} {Q:Exit->Act->World->Prop} {A B:Type} {body:Code}
section
variable [Dfr]
theorem zzI{Z:Type}{g:A->B}{f:Z->Option A}{s:Z}{x:B}(h:up1 g f s=some x): ∃y,f s=some y/\g y=x:=by
 unfold up1 at h;cases hf:f s with
 |none=>rw[hf]at h;cases h
 |some y=>rw[hf]at h;cases h;exact⟨y,rfl,rfl⟩
theorem zGE{g:A->B}: ∀{l:zn7 Y A} {r:List Nat} {J:Sy Y.T->Option B},(r,J)∈zDo Y g l->∃J',(r,J')∈l/\J=up1 g J'
 | [],r,J,h=>by cases h
 | (r',J')::l,r,J,h=>by
   simp only[zDo,yP,Prod.mk.injEq]at h;rcases h with⟨rfl,rfl⟩|h
   · exact⟨J',qz7,rfl⟩
   · obtain⟨J2,h1,h2⟩:=zGE h;exact⟨J2,qz8 _ h1,h2⟩
theorem Ctx.lift{M:A->Prop}{M':B->Prop}{g:A->B}(hM: ∀x,M' (g x)->M x){env:zn7 Y A}{fn:Sy Y.T->Option A}{kp:Sy Y.T->AV Y.T->Option A}(C:Ctx hY P N w0 F0 D H Q body M env fn kp):
   Ctx hY P N w0 F0 D H Q body M' (zDo Y g env) (up1 g fn) (zEJ Y g kp):=by
 refine⟨λw F ρ os s a x h e m=>?_,λx m w' F' ρ' os' s' a' y u h1 h2 h3=>?_,λr J hm todo h1 h2=>?_⟩
 · obtain⟨y,hy,rfl⟩:=zzI e;exact C.fn _ _ _ _ _ _ _ h hy (hM _ m)
 · obtain⟨z,hz,rfl⟩:=zzI h3;exact C.kp _ (hM _ m) _ _ _ _ _ _ _ _ h1 h2 hz
 · obtain⟨J',h3,rfl⟩:=zGE hm;intro w F ρ os s a x h e m;obtain⟨y,hy,rfl⟩:=zzI e;exact C.env r J' h3 todo h1 h2 _ _ _ _ _ _ _ h hy (hM _ m)
theorem Ctx.cons{M:A->Prop}{env:zn7 Y A}{fn:Sy Y.T->Option A}{kp:Sy Y.T->AV Y.T->Option A}(C:Ctx hY P N w0 F0 D H Q body M env fn kp){r:List Nat}{J:Sy Y.T->Option A}(hJ: ∀todo,zmU body todo->todo.map (·.1)=r->Ends hY P N w0 F0 D H Q M (todo.map (·.2)) J):
   Ctx hY P N w0 F0 D H Q body M ((r,J)::env) fn kp:=
 ⟨C.fn,C.kp,λr' J' hm=>by
   rcases yP.1 hm with e|e
   · cases e;exact hJ
   · exact C.env r' J' e⟩
theorem zDj[Lp](hsz:Y.sz Y.byt=1)(hT:zcu hY P G T)(hG: ∀F,F0.Le F->G F)(hQ: ∀c d v a w,Q (.panic c) (Act.put a d v) w->Q (.panic c) a w): ∀{A:Type} {M:A->Prop} {env:zn7 Y A} {fn:Sy Y.T->Option A} {kp:Sy Y.T->AV Y.T->Option A} (c:zau Y A),
   Ctx hY P N w0 F0 D H Q body M env fn kp->Obl Y P T N H.length body env fn kp c->Ctx hY P N w0 F0 D H Q body M (tbl Y H.length c++env) fn kp
 |_,_,_,_,_,.nil,C,_=>C
 |_,M,env,fn,kp,.join key σ j rest,C,O=>by
   obtain⟨o1,o2⟩:=O;have C1:=zDj hsz hT hG hQ rest C o2;refine C1.cons λtodo hat hk w F ρ os s a x h e m=>?_
   unfold zLv at e;split at e
   · rename_i z hz;obtain⟨F',ρ',os',h'⟩:=zs7 h hz;rw[<-o1 z]at e;unfold zLc at e;split at e
     ·rename_i todo0 h0;have ha0:=zt9 h0;have:=hat.uniq ha0 (by rw[hk,zr8 h0]);subst this;exact zx3 hsz hT hG (λ_=> .inl hQ) C1 ha0 h' e m
     ·cases e
   · cases e
 |A,M,env,fn,kp,.loop key σ step sub rest,C,O=>by
   obtain⟨o1,o2,o3⟩:=O;have C1:=zDj hsz hT hG hQ rest C o3;refine C1.cons λtodo hat hk=>?_
   let M':zgw Y σ⊕A->Prop:=λy=>match y with
     | .inr x=>M x
     | .inl z=>∀w F ρ os a,Cy hY N w0 F0 D H w F ρ os (zeS Y σ z) a->TP P (todo.map (·.2)) Q a w
   have C2:Ctx hY P N w0 F0 D H Q body M' (zDo Y Sum.inr (tbl Y H.length rest++env)) (up1 Sum.inr fn) (zEJ Y Sum.inr kp):=C1.lift (g:=Sum.inr) λx m=>m
   have C3:Ctx hY P N w0 F0 D H Q body M' (zKQ Y H.length key σ (tbl Y H.length rest++env)) (up1 Sum.inr fn) (zEJ Y Sum.inr kp):=by
     refine C2.cons λtodo2 hat2 hk2 w F ρ os s a x h e m=>?_
     have:=hat2.uniq hat (by rw[hk2,hk]);subst this;obtain⟨z,hz,rfl⟩:=zzI e;obtain⟨F',ρ',os',h'⟩:=zs7 h hz;exact m _ _ _ _ _ h'
   have C4:=zDj hsz hT hG hQ sub C3 o2
   have body1: ∀(z:zgw Y σ) (y:zgw Y σ⊕A) w F ρ os a,Cy hY N w0 F0 D H w F ρ os (zeS Y σ z) a->step z=some y->M' y->TP P (todo.map (·.2)) Q a w:=by
     intro z y w F ρ os a h e m;rw[<-o1 z]at e;unfold zLc at e;split at e
     ·rename_i todo0 h0;have ha0:=zt9 h0;have:=hat.uniq ha0 (by rw[hk,zr8 h0]);subst this;exact zx3 hsz hT hG (λ_=> .inl hQ) C4 ha0 h e m
     ·cases e
   intro w F ρ os s a x h e m;unfold zLv at e;split at e
   · rename_i z hz;obtain⟨F',ρ',os',h'⟩:=zs7 h hz;obtain⟨n,hn⟩:=Lp.ok step z x e;clear e hz h;induction n generalizing z w F' ρ' os' a with
     |zero=>cases hn
     |succ n ih=>
      simp only[zaH]at hn;cases hs:step z with
      |none=>rw[hs]at hn;cases hn
      |some y=>
       rw[hs]at hn;refine body1 z y _ _ _ _ _ h' hs ?_;cases y with
       |inr x'=>cases hn;exact m
       |inl z'=>exact λw F ρ os a h=>ih _ _ _ _ _ _ h hn
   · cases e
end
structure zan where
 pan:Bool
 p:Pat
 m:List zcK
def zan.sh(o:zan):Shape:=⟨[(0,o.p)],o.m⟩
section
variable (Y:Tys)
def zar:List zan->Type
 | []=>Empty
 | [o]=>zgw Y o.sh
 |o::o'::r=>zgw Y o.sh⊕zar (o'::r)
def zK5(h:Nat)(pan:Bool)(o:zan)(s:Sy Y.T):Option (zgw Y o.sh):=bif (bif pan then o.pan else !o.pan)then zaI Y h o.sh s else none
def zGv(h:Nat)(pan:Bool):(l:List zan)->Sy Y.T->Option (zar Y l)
 | [],_=>none
 | [o],s=>zK5 Y h pan o s
 |o::o'::r,s=>match zK5 Y h pan o s with
   |some z=>some (.inl z)
   |none=>(match zGv h pan (o'::r) s with|some z=>some (.inr z)|none=>none)
def zLD:zbY Y.T->AV Y.T
 | (_,x)::_=>x
 | []=> .junk
def out1(o:zan)(z:zgw Y o.sh):Out Y.T×List (Mem Y.T):=((bif o.pan then .pan (zLD Y (zeS Y o.sh z).l)else .ret (zLD Y (zeS Y o.sh z).l)),(zeS Y o.sh z).m)
def zCn:(l:List zan)->zar Y l->Out Y.T×List (Mem Y.T)
 | [],z=>nomatch z
 | [o],z=>out1 Y o z
 |_::_::_,.inl z=>out1 Y _ z
 |_::o'::r,.inr z=>zCn (o'::r) z
def zxp:List Nat->List Nat->Bool
 | [],[]=>true
 |a::l,b::m=>Nat.beq a b&&zxp l m
 |_,_=>false
theorem zGf: ∀{l m:List Nat},zxp l m=true->l=m
 | [],[],_=>rfl
 | [],_::_,h=>by cases h
 |_::_,[],h=>by cases h
 |a::l,b::m,h=>by
   simp only[zxp,qz4]at h;rw[yC h.1,zGf h.2]
def iota:Nat->Nat->List Nat
 |_,0=>[]
 |i,n+1=>i::iota (i+1) n
theorem zzC: ∀{n i j t:Nat},(iota i n)[j]? =some t->t=i+j
 |0,i,j,t,h=>by simp[iota]at h
 |n+1,i,0,t,h=>by simp[iota]at h;omega
 |n+1,i,j+1,t,h=>by
   simp only[iota,List.getElem?_cons_succ]at h;have:=zzC h;omega
def zPi{R:Type}(k:Out Y.T->List (Mem Y.T)->Option R)(o:zan):(l:List zan)->(zar Y l->Option R)->zar Y (o::l)->Option R
 | [],_,z=>k (out1 Y o z).1 (out1 Y o z).2
 |_::_,g,z=>Sum.casesOn (motive:=λ_=>Option R) z (λz=>k (out1 Y o z).1 (out1 Y o z).2) g
def zDu{R:Type}(k:Out Y.T->List (Mem Y.T)->Option R):(l:List zan)->zar Y l->Option R
 | []=>λz=>nomatch z
 |o::l=>zPi Y k o l (zDu k l)
theorem zI4{R:Type}{k:Out Y.T->List (Mem Y.T)->Option R}: ∀{l:List zan} {z:zar Y l},zDu Y k l z=k (zCn Y l z).1 (zCn Y l z).2
 | [],z=>nomatch z
 | [_],_=>rfl
 |_::_::_,.inl _=>rfl
 |_::_::_,.inr z=>zI4 (z:=z)
def callee(keep:List Nat)(σ:Shape)(outs:List zan)(g:zgw Y σ->Option (zar Y outs)):Callee Y where
 run {R} args ms k:=match zuv Y σ (⟨zoU Y (keys σ.l) args,ms⟩:Sy Y.T)with
   |some z=>bif Nat.beq args.length (keys σ.l).length then Option.bind (g z) (λzo=>zDu Y k outs zo)else none
   |none=>none
 keep:=keep
 shs:=[σ]
def zqm(P:Program)(l:zbY Y.T)(m:List (Mem Y.T)):List ResultVar->Option (List (AV Y.T))
 | []=>some []
 | .tmp t::r=>match lookA l t,zqm P l m r with|some s,some ss=>some (s::ss)|_,_=>none
 | .cell ad ty::r=>match lookA l ad with
   |some (.ptr k off)=>match zoN P l m (.load ty (.tmp ad)),zqm P l m r with|some s,some ss=>some (s::ss)|_,_=>none
   |_=>none
def leftD:List (AV Y.T)->AV Y.T
 | [v]=>v
 |vs=> .tup vs
def zn6(P:Program)(h:Nat)(rs:List ResultVar)(outs:List zan)(s:Sy Y.T):Option (zar Y outs):=match zqm Y P s.l s.m rs with
 |some ss=>zGv Y h false outs ⟨[(0,leftD Y ss)],s.m⟩
 |none=>none
def zCu(h:Nat)(outs:List zan)(s:Sy Y.T)(x:AV Y.T):Option (zar Y outs):=zGv Y h true outs ⟨[(0,x)],s.m⟩
end
section
variable {Y:Tys} {hY:zb8 Y} {P:Program} {N:Nat} {w0:World} {F0:Heap} {D:Own} {H:List (Option Nat)} {w w':World} {F F':Heap} {ρ ρ':List Pl} {os os':List (Option Obj)} {s s':Sy Y.T} {a a':Act} {T:Tab Y} {G:Heap->Prop} {Q:Exit->Act->World->Prop} {A B:Type} {body:Code}
section
variable [Dfr]
theorem zAz(h:Cy hY N w0 F0 D H w F ρ os s a): ∀{rs:List ResultVar} {ss:List (AV Y.T)},zqm Y P s.l s.m rs=some ss->
   ∃us,(rs.mapM (m:=Sem) λr=>match r with| .tmp t=>pure (a.tmps.getD t undef)| .cell ad ty=>(do loadVar ty (<-asAddr (a.tmps.getD ad undef)))).run P w= .ok us w/\zad Y F ρ ss us
 | [],ss,e=>by cases e;exact⟨[],rfl,zad.nil⟩
 | .tmp t::r,ss,e=>by
   simp only[zqm]at e;cases ht:lookA s.l t with
   |none=>rw[ht]at e;cases e
   |some x=>
     cases hr:zqm Y P s.l s.m r with
     |none=>rw[ht,hr]at e;cases e
     |some ss'=>
      rw[ht,hr]at e;cases e;obtain⟨us,i1,i2⟩:=zAz h hr;refine⟨a.tmps.getD t undef::us,?_,zad.cons (h.e.env t x ht).2 i2⟩;rw[List.mapM_cons];simp only[pure_bind,Sem.run_bind,i1,Result.andThen_ok];rfl
 | .cell ad ty::r,ss,e=>by
   simp only[zqm]at e;cases ht:lookA s.l ad with
   |none=>rw[ht]at e;cases e
   |some s0=>
     rw[ht]at e;cases s0 with
     |ptr k off=>
      simp only at e;cases hq:zoN P s.l s.m (.load ty (.tmp ad))with
      |none=>rw[hq]at e;cases e
      |some x=>
       cases hr:zqm Y P s.l s.m r with
       |none=>rw[hq,hr]at e;cases e
       |some ss'=>
        rw[hq,hr]at e;cases e;obtain⟨us,i1,i2⟩:=zAz h hr;obtain⟨u,h1,h2⟩:=zKg (hY:=hY) (P:=P) (o:={dst:=none,op:= .load ty (.tmp ad),type:=ty,after:= #[],guard:=none,pos:=default}) h.e h.my hq;have h3:=h2 w h.st.view h.my;have hr2:=(h.e.env ad _ ht).2;generalize hev:a.tmps.getD ad undef=ux at hr2
        have hld:(do loadVar ty (<-asAddr (a.tmps.getD ad undef)):Sem Value).run P w= .ok u w:=by
         cases hr2 with
         | @ptr _ _ pl hp=>
          have e1:a.eval (.tmp ad)= .pointer (some ⟨pl.blk,off,none⟩):=hev;unfold execOp at h3;simp only[e1,Instr.loadAt,Instr.sureAddr,Sem.run_bind,pure_bind,Sem.run_pure]at h3;rw[hev];show(loadVar ty ⟨pl.blk,off,none⟩).run P w=_;cases hl:(loadVar ty ⟨pl.blk,off,none⟩).run P w with
          |ok v w'=>rw[hl]at h3;simp only[Result.andThen_ok]at h3;injection h3 with h4 h5;injection h4 with h6;rw[h6,h5]
          |halt x w'=>rw[hl]at h3;simp only[Result.andThen]at h3;cases h3
        refine⟨u::us,?_,zad.cons h1 i2⟩;rw[List.mapM_cons,Sem.run_bind];refine(congrArg (λr=>Result.andThen r _) hld).trans ?_;simp only[Result.andThen_ok,Sem.run_bind,i1,Sem.run_pure]
     |_=>cases e
theorem zMu(h:Cy hY N w0 F0 D H w F ρ os s a){fn:Func}{ss:List (AV Y.T)}(e:zqm Y P s.l s.m fn.results.toList=some ss): ∃u,(results fn a.tmps).run P w= .ok u w/\Rel Y F ρ (leftD Y ss) u:=by
 obtain⟨us,h1,h2⟩:=zAz (P:=P) h e;refine⟨zuz us,?_,?_⟩
 · unfold results;rw[Array.mapM_eq_mapM_toList];simp only[bind_map_left,Sem.run_bind];refine(congrArg (λr=>Result.andThen r _) h1).trans ?_;simp only[Result.andThen_ok,Sem.run_pure];congr 1;cases us with
   |nil=>rfl
   |cons x r=>cases r with
     |nil=>rfl
     |cons y r=>simp[zuz]
 · match ss,us,h2 with
   | [],us,h2=>rw[h2.zg2];exact .tup (vs:=[]) rfl (λ_ _ _ h=>by simp at h)
   | [x],us,h2=>
     obtain⟨u,r,rfl,h3,h4⟩:=h2.inv;rw[h4.zg2];exact h3
   |x::y::r,us,h2=>
     obtain⟨u,r1,rfl,h3,h4⟩:=h2.inv;obtain⟨v,r2,rfl,h5,h6⟩:=h4.inv;exact .tup h2.1 h2.2
end
theorem Cy.alone(h:Cy hY N w0 F0 D H w F ρ os s a){x:AV Y.T}{u:Value}(hr:Rel Y F ρ x u):Cy hY 1 w0 F0 D H w F ρ os ⟨[(0,x)],s.m⟩ ⟨#[u],[]⟩:=
 ⟨⟨rfl,rfl,λt y e=>by
   simp only[lookA]at e;cases hb:Nat.beq 0 t with
   |true=>rw[hb]at e;cases e;rw[<-yC hb];exact⟨Nat.one_pos,hr⟩
   |false=>rw[hb]at e;cases e⟩,h.len,h.lon,h.mem,h.st,h.fix,h.long⟩
theorem zRy{o:zan}{z:zgw Y o.sh}(h:Cy hY 1 w0 F0 D H w F ρ os (zeS Y o.sh z) a){e:Ending}(he:e=(bif o.pan then .panicked [{v:=a.tmps.getD 0 undef,recovered:=false}]else .returned (a.tmps.getD 0 undef))):
   zvm Y F ρ (out1 Y o z).1 e:=by
 have h0: ∃y,(zeS Y o.sh z).l=[(0,y)]:=⟨_,rfl⟩
 obtain⟨y,hy⟩:=h0;have hr:=(h.e.env 0 y (by rw[hy];rfl)).2
 subst he;unfold out1;rw[hy];cases o.pan with
 |true=>exact .pan hr
 |false=>exact .ret hr
theorem zGg{pan:Bool}{s:Sy Y.T}: ∀{l:List zan} {zo:zar Y l},Cy hY 1 w0 F0 D H w F ρ os s a->zGv Y H.length pan l s=some zo->
   ∃o z F' ρ' os',o∈l/\o.pan=pan/\zCn Y l zo=out1 Y o z/\Cy hY 1 w0 F0 D H w F' ρ' os' (zeS Y o.sh z) a
 | [],zo,h,e=>by cases e
 | [o],zo,h,e=>by
   simp only[zGv,zK5]at e;obtain⟨hb,e⟩:=zbh e;obtain⟨F',ρ',os',h'⟩:=zs7 h e;exact⟨o,zo,F',ρ',os',qz7,by cases pan<;>cases ho:o.pan<;>simp[ho]at hb⊢,rfl,h'⟩
 |o::o'::r,zo,h,e=>by
   simp only[zGv]at e;split at e
   · rename_i z hz;cases e;unfold zK5 at hz;obtain⟨hb,hz⟩:=zbh hz;obtain⟨F',ρ',os',h'⟩:=zs7 h hz;exact⟨o,z,F',ρ',os',qz7,by cases pan<;>cases ho:o.pan<;>simp[ho]at hb⊢,rfl,h'⟩
   · split at e
     ·rename_i z hz;cases e;obtain⟨o2,z2,F',ρ',os',h1,h2,h3,h4⟩:=zGg h hz;exact⟨o2,z2,F',ρ',os',qz8 _ h1,h2,h3,h4⟩
     ·cases e
def zlQ:List (Mem Y.T)->List Pl->List (Option Nat)
 | .cells _ _::ms,p::ρ=>some p.blk::zlQ ms ρ
 |_::ms,_::ρ=>none::zlQ ms ρ
 |_,_=>[]
theorem zvg: ∀{ms:List (Mem Y.T)} {ρ:List Pl},ms.length=ρ.length->(zlQ ms ρ).length=ρ.length
 | [],[],_=>rfl
 | [],_::_,h=>by simp at h
 |_::_,[],h=>by simp at h
 |x::ms,p::ρ,h=>by cases x<;>simp only[zlQ,qz3]<;>rw[zvg (by simpa using h)]
theorem zB4: ∀{ms:List (Mem Y.T)} {ρ:List Pl} {k b:Nat},(zlQ ms ρ)[k]? =some (some b)->∃ty l p,ms[k]? =some (.cells ty l)/\ρ[k]? =some p/\p.blk=b
 | [],ρ,k,b,h=>by cases ρ<;>simp[zlQ]at h
 |x::ms,[],k,b,h=>by cases x<;>simp[zlQ]at h
 |x::ms,p::ρ,0,b,h=>by cases x<;>simp[zlQ]at h;exact⟨_,_,p,rfl,rfl,h⟩
 |x::ms,p::ρ,k+1,b,h=>by
   have h:(zlQ ms ρ)[k]? =some (some b):=by cases x<;>simpa [zlQ]using h
   obtain⟨ty,l,q,h1,h2,h3⟩:=zB4 h;exact⟨ty,l,q,by simpa using h1,by simpa using h2,h3⟩
theorem zxH: ∀{ms:List (Mem Y.T)} {ρ:List Pl} {k:Nat} {ty:TypeId} {l:List (AV Y.T)} {p:Pl},ms[k]? =some (.cells ty l)->ρ[k]? =some p->(zlQ ms ρ)[k]? =some (some p.blk)
 | [],ρ,k,ty,l,p,h,_=>by simp at h
 |x::ms,[],k,ty,l,p,_,h=>by simp at h
 |x::ms,q::ρ,0,ty,l,p,h1,h2=>by simp at h1 h2;subst h1;subst h2;rfl
 |x::ms,q::ρ,k+1,ty,l,p,h1,h2=>by
   have:=zxH (ms:=ms) (ρ:=ρ) (k:=k) (by simpa using h1) (by simpa using h2);cases x<;>simpa [zlQ]using this
theorem zLi{p:zcK}{r:Type}{z:zCs Y p r}(h:(match p with| .cells .. =>true| .whole .. =>true|_=>false)=true): ∃ty l,(zC6 Y p r z).1= .cells ty l:=by
 cases p with
 |cells ty l=>exact⟨_,_,rfl⟩
 |whole ty e=>exact⟨_,_,rfl⟩
 |gone=>cases h
 |arr e=>cases h
 |mp k e=>cases h
 |it=>cases h
theorem zHa: ∀{l:List zcK} {r:Type} {z:zgt Y l r} {k:Nat} {p:zcK},l[k]? =some p->∃(r':Type) (z':zCs Y p r'),(zkD Y l r z).1[k]? =some (zC6 Y p r' z').1
 | [],r,z,k,p,h=>by simp at h
 |q::l,r,z,0,p,h=>by simp at h;subst h;exact⟨_,_,rfl⟩
 |q::l,r,z,k+1,p,h=>by
   obtain⟨r',z',h1⟩:=zHa (l:=l) (r:=r) (z:=(zC6 Y q (zgt Y l r) z).2) (k:=k) (by simpa using h);exact⟨r',z',by simpa [zkD]using h1⟩
theorem zJL{p:zcK}{r:Type}{x:Mem Y.T}{y:r}{z:zCs Y p r}(h:getM Y p r x y=some z){ty:TypeId}{l:List (AV Y.T)}(hx:x= .cells ty l):p= .gone\/(match p with| .cells .. =>true| .whole .. =>true|_=>false)=true:=by
 cases p with
 |cells ty l=>exact .inr rfl
 |whole ty e=>exact .inr rfl
 |gone=>exact .inl rfl
 |arr e=>subst hx;simp only[getM,zH0]at h;cases h
 |mp k e=>subst hx;simp only[getM,zIL]at h;cases h
 |it=>subst hx;simp only[getM]at h;cases h
def zcK.isC:zcK->Bool
 | .cells .. =>true
 | .whole .. =>true
 |_=>false
def zcK.isA:zcK->Bool
 | .arr _=>true
 | .mp _ _=>true
 | .it=>true
 |_=>false
def zj5:List zcK->List zcK->Bool
 | [],_=>true
 |p::r,q::r'=>((p.isC&&q.isC)||p.isA)&&zj5 r r'
 |_::_,[]=>false
theorem zAY: ∀{l l':List zcK} {k:Nat} {p:zcK},zj5 l l'=true->l[k]? =some p->∃q,l'[k]? =some q/\(p.isC=true/\q.isC=true\/p.isA=true)
 | [],l',k,p,_,h=>by simp at h
 |a::l,[],k,p,h,_=>by cases h
 |a::l,b::l',0,p,h,hp=>by
   simp at hp;subst hp;simp only[zj5,qz4,yQ]at h;exact⟨b,rfl,h.1⟩
 |a::l,b::l',k+1,p,h,hp=>by
   simp only[zj5,qz4]at h;simpa using zAY h.2 (by simpa using hp)
def zPu(hY:zb8 Y)(P:Program)(fn:Func)(outs:List zan)(zo:zar Y outs)(w:World)(F:Heap)(D:Own)(H:List (Option Nat))(R:Ending->World->Prop):Prop:=
 (∀w1 F1 ρ1 os1 s1 a1,Cy hY fn.ntmps w F D H w1 F1 ρ1 os1 s1 a1->zn6 Y P H.length fn.results.toList outs s1=some zo->∃u,(results fn a1.tmps).run P w1= .ok u w1/\R (.returned u) w1)/\
 (∀w1 F1 ρ1 os1 s1 a1 y u,Cy hY fn.ntmps w F D H w1 F1 ρ1 os1 s1 a1->Rel Y F1 ρ1 y u->zCu Y H.length outs s1 y=some zo->R (.panicked [{v:=u,recovered:=false}]) w1)
theorem zKx{f:FuncId}{fn:Func}{keep:List Nat}{σ:Shape}{outs:List zan}{g:zgw Y σ->Option (zar Y outs)}(hc:zfp P f)
   (hGm: ∀F F',F.Le F'->G F->G F') (hst:(Nat.ble (keys σ.l).length fn.ntmps&&zxp (keys σ.l) (iota 0 (keys σ.l).length)&&outs.all λo=>zj5 σ.m o.m)=true)
   (hrun: ∀{w:World} {F:Heap} {ρ:List Pl} {os:List (Option Obj)} {D:Own} {H:List (Option Nat)} {z:zgw Y σ} {zo:zar Y outs} {vals:List Value} {R:Ending->World->Prop},(∀F',F.Le F'->G F')->H.length=σ.m.length->
     Cy hY fn.ntmps w F D H w F ρ os (zeS Y σ z) ⟨vals.toArray++Array.replicate (fn.ntmps -vals.toArray.size) undef,[]⟩->g z=some zo->zPu hY P fn outs zo w F D H R->Calls P f vals.toArray w R):
   COk hY P G f (callee Y keep σ outs g):=by
 refine⟨hc,λ{R} args ms r k e w F ρ os vals D hGF hargs hml hol hm hst0=>?_⟩;simp only[callee]at e;split at e
 · rename_i z hz;obtain⟨hlen,e⟩:=zbh e;have hlen:=yC hlen;obtain⟨zo,hzo,hk⟩:=zaS e;rw[zI4]at hk;simp only[qz4,List.all_eq_true]at hst;obtain⟨⟨hle,hkeys⟩,houts⟩:=hst;have hle:=yD hle;have hkeys:=zGf hkeys;generalize hH:zlQ ms ρ=H;have hHl:H.length=ρ.length:=by rw[<-hH];exact zvg hml
   have hvl:vals.length=args.length:=hargs.1;generalize ha0:(⟨vals.toArray++Array.replicate (fn.ntmps -vals.toArray.size) undef,[]⟩:Act)=a0
   have hget: ∀(t:Nat) (u:Value),vals[t]? =some u->a0.tmps.getD t undef=u:=λt u hu=>by
     have ht:=(qz0 hu).1;rw[<-ha0]
     have h1:(vals.toArray++Array.replicate (fn.ntmps -vals.toArray.size) undef)[t]? =some u:=by
      rw[Array.getElem?_append_left (by simpa using ht)];simpa using hu
     rw[Array.getD_eq_getD_getElem?,h1];rfl
   have h0:Cy hY fn.ntmps w F D H w F ρ os (⟨zoU Y (keys σ.l) args,ms⟩:Sy Y.T) a0:=by
     refine⟨⟨?_,by rw[<-ha0];rfl,λt x hx=>?_⟩,hml,hol,hm,hst0,λk b hb=>?_,by omega⟩
     ·rw[<-ha0];simp only[Array.size_append,List.size_toArray,Array.size_replicate];omega
     ·obtain⟨i,h3,h4⟩:=zur hx;rw[hkeys]at h3;have hi:t=i:=by have:=zzC h3;omega
      subst hi;obtain⟨u,hu,hr⟩:=hargs.get h4;have:=(qz0 h4).1;exact⟨by omega,by rw[hget t u hu];exact hr⟩
     ·rw[<-hH]at hb;obtain⟨ty,l,p,h1,h2,h3⟩:=zB4 hb;exact⟨⟨p,h2,h3⟩,λx h4=>by rw[h1]at h4;cases h4;rfl⟩
   have h1:=zAB h0 hz
   have hml2:ms.length=σ.m.length:=by
     have:=h1.len
     have h5:(zeS Y σ z).m.length=σ.m.length:=by
      show(zkD Y σ.m Unit (zga Y (zjP σ.l) (zgt Y σ.m Unit) z).2).1.length=_
      have: ∀(l:List zcK) (r:Type) (z:zgt Y l r),(zkD Y l r z).1.length=l.length:=by
       intro l;induction l with
       |nil=>intro r z;rfl
       |cons p l ih=>intro r z;simp only[zkD,qz3,ih]
      exact this _ _ _
     omega
   have hHm:H.length=σ.m.length:=by omega
   have hinp: ∀(k:Nat) (ty:TypeId) (l:List (AV Y.T)),ms[k]? =some (.cells ty l)->∃q,σ.m[k]? =some q/\(q= .gone\/q.isC=true):=by
     intro k ty l hk;unfold zuv at hz;split at hz
     ·rename_i az y has hy
      have: ∀(l:List zcK) (ms:List (Mem Y.T)) (r:Type) (y:r) (z:zgt Y l r) (k:Nat) (x:Mem Y.T),zsc Y l r ms y=some z->ms[k]? =some x->∃(q:zcK) (r':Type) (y':r') (z':zCs Y q r'),l[k]? =some q/\getM Y q r' x y'=some z':=by
       intro l;induction l with
       |nil=>intro ms r y z k x h1 h2;cases ms with|nil=>simp at h2|cons=>simp[zsc]at h1
       |cons p l ih=>
        intro ms r y z k x h1 h2;cases ms with
        |nil=>simp at h2
        |cons m ms=>
         simp only[zsc]at h1;split at h1
         ·rename_i z' hz';cases k with
          |zero=>simp at h2;subst h2;exact⟨p,_,_,_,rfl,h1⟩
          |succ k=>simpa using ih ms r y z' k x hz' (by simpa using h2)
         ·cases h1
      obtain⟨q,r',y',z',h3,h4⟩:=this _ _ _ _ _ k _ hy hk;refine⟨q,h3,(zJL h4 rfl).imp id λh=>?_⟩;cases q<;>first|rfl|cases h
     ·cases hz
   have hend: ∀(o:zan) (z2:zgw Y o.sh) (w1:World) (F':Heap) (ρ':List Pl) (os':List (Option Obj)) (a1:Act) (e:Ending),o∈outs->zCn Y outs zo=out1 Y o z2->Cy hY 1 w F D H w1 F' ρ' os' (zeS Y o.sh z2) a1->
      e=(bif o.pan then .panicked [{v:=a1.tmps.getD 0 undef,recovered:=false}]else .returned (a1.tmps.getD 0 undef))->
      ∃res F' ρ' os' ms',(k res ms'=some r)/\zvm Y F' ρ' res e/\ms'.length=ρ'.length/\os'.length=ρ'.length/\
     (∀(k:Nat) (x:Mem Y.T) (p:Pl) (o:Option Obj),ms'[k]? =some x->ρ'[k]? =some p->os'[k]? =some o->zen hY F' ρ' x p o)/\Gw.St w F D w1 F' (pts ρ' os')/\ρ.length<=ρ'.length/\
     ∀(k:Nat) (ty:TypeId) (l:List (AV Y.T)) (p:Pl),ms[k]? =some (.cells ty l)->ρ[k]? =some p->(∃ty' l',ms'[k]? =some (.cells ty' l'))/\∃p',ρ'[k]? =some p'/\p'.blk=p.blk:=by
     intro o z2 w1 F' ρ' os' a1 e ho hput h2 he;rw[hput]at hk;refine⟨_,F',ρ',os',_,hk,zRy h2 he,h2.len,h2.lon,h2.mem,h2.st,by have:=h2.long;omega,λk ty l p hk1 hk2=>?_⟩
     have hfix:=h2.fix k p.blk (by rw[<-hH];exact zxH hk1 hk2)
     refine⟨?_,hfix.1⟩;obtain⟨q,hq,hq2⟩:=hinp k ty l hk1;obtain⟨q',hq',hq3⟩:=zAY (houts o ho) hq;rcases hq3 with⟨_,hC⟩|hA
     ·obtain⟨r',z',h5⟩:=zHa (Y:=Y) (l:=o.m) (r:=Unit) (z:=(zga Y (zjP o.sh.l) (zgt Y o.m Unit) z2).2) hq';obtain⟨ty',l',h6⟩:=zLi (Y:=Y) (p:=q') (r:=r') (z:=z') (by cases q'<;>first|rfl|cases hC)
      exact⟨ty',l',by rw[<-h6];exact h5⟩
     ·rcases hq2 with h|h
      ·rw[h]at hA;cases hA
      ·cases q<;>first| (cases hA;done)| (cases h;done)
   have hGle: ∀F',F.Le F'->G F':=λF' hle=>hGm F F' hle hGF
   rw[<-ha0]at h1;refine hrun hGle hHm h1 hzo ⟨λw1 F1 ρ1 os1 s1 a1 h2 e2=>?_,λw1 F1 ρ1 os1 s1 a1 y u h2 h3 e2=>?_⟩
   · unfold zn6 at e2;split at e2
     ·rename_i ss hss;obtain⟨u,hu,hr⟩:=zMu h2 hss;obtain⟨o,z2,F',ρ',os',ho,hop,hput,h4⟩:=zGg (h2.alone hr) e2;exact⟨u,hu,hend o z2 w1 F' ρ' os' _ _ ho hput h4 (by rw[hop];rfl)⟩
     ·cases e2
   · obtain⟨o,z2,F',ρ',os',ho,hop,hput,h4⟩:=zGg (h2.alone h3) e2;exact hend o z2 w1 F' ρ' os' _ _ ho hput h4 (by rw[hop];rfl)
 · cases e
theorem zTF[Lp]{f:FuncId}{fn:Func}{body:Code}{keep:List Nat}{σ:Shape}{outs:List zan}{g:zgw Y σ->Option (zar Y outs)}(c:zau Y (zar Y outs))(hf:P.funcs[f]? =some fn)(hb:fn.body=some body)(hc:zfp P f)
   (hsz:Y.sz Y.byt=1) (hT:zcu hY P G T) (hGm: ∀F F',F.Le F'->G F->G F') (hst:(Nat.ble (keys σ.l).length fn.ntmps&&zxp (keys σ.l) (iota 0 (keys σ.l).length)&&outs.all λo=>zj5 σ.m o.m)=true)
   (hO:Obl Y P T fn.ntmps σ.m.length body [] (zn6 Y P σ.m.length fn.results.toList outs) (zCu Y σ.m.length outs) c)
   (hg: ∀z,goA Y P T fn.ntmps true (tbl Y σ.m.length c) (zn6 Y P σ.m.length fn.results.toList outs) (zCu Y σ.m.length outs) 100000 false [(0,.code body)] (zeS Y σ z)=g z):
   COk hY P G f (callee Y keep σ outs g):=by
 refine zKx hc hGm hst λ{w F ρ os D H z zo vals R} hGle hHm h1 hzo hE=>?_
 refine zJu hf hb ?_
 have C0:Ctx hY P fn.ntmps w F D H (bodyPost P fn R) body (λx=>x=zo) [] (zn6 Y P H.length fn.results.toList outs) (zCu Y H.length outs):=by
   refine⟨λw1 F1 ρ1 os1 s1 a1 x h2 e2 hx=>?_,λx hx w1 F1 ρ1 os1 s1 a1 y u h2 h3 e2=>?_,λr J hm=>by cases hm⟩
   · subst hx;exact⟨h2.e.nodef,hE.1 _ _ _ _ _ _ h2 e2⟩
   · subst hx;exact⟨h2.e.nodef,hE.2 _ _ _ _ _ _ _ _ h2 h3 e2⟩
 have hQ: ∀(c:List PanicEntry) (d:Option Tmp) (v:Value) (a:Act) (w1:World) (R:Ending->World->Prop),bodyPost P fn R (.panic c) (Act.put a d v) w1->bodyPost P fn R (.panic c) a w1:=λc d v a w1 R hh=>⟨by have:=hh.1;rwa [put_defers]at this,hh.2⟩
 rw[hHm.symm]at hO;have C1:=zDj (T:=T) hsz hT hGle (λc d v a w1 hh=>hQ c d v a w1 _ hh) c C0 hO;have:=hg z;rw[hzo]at this;rw[hHm.symm]at this;rw[List.append_nil]at C1;exact zx3 (todo:=[(0,.code body)]) hsz hT hGle (λ_=> .inl λc d v a w1 hh=>hQ c d v a w1 _ hh) C1 (λx hx=>by cases List.mem_singleton.1 hx;exact .root) h1 this rfl
theorem fo[Lp]{f:FuncId}{fn:Func}{keep:List Nat}{σ:Shape}{outs:List zan}{g:zgw Y σ->Option (zar Y outs)}(c:zau Y (zar Y outs))(hf:P.funcs[f]? =some fn)
   (h1:((fn.body.isSome&& !(fn.name== "runtime.NumGoroutine"))&&(Nat.ble (keys σ.l).length fn.ntmps&&zxp (keys σ.l) (iota 0 (keys σ.l).length)&&outs.all λo=>zj5 σ.m o.m))=true)
   (hsz:Y.sz Y.byt=1) (hGm: ∀F F',F.Le F'->G F->G F') (hT:zcu hY P G T)
   (hO:Obl Y P T fn.ntmps σ.m.length (fn.body.getD .skip) [] (zn6 Y P σ.m.length fn.results.toList outs) (zCu Y σ.m.length outs) c)
   (hg: ∀z,goA Y P T fn.ntmps true (tbl Y σ.m.length c) (zn6 Y P σ.m.length fn.results.toList outs) (zCu Y σ.m.length outs) 100000 false [(0,.code (fn.body.getD .skip))] (zeS Y σ z)=g z):
   COk hY P G f (callee Y keep σ outs g):=by
 rw[qz4,qz4]at h1;obtain⟨⟨hb,hn⟩,hst⟩:=h1
 have hb':fn.body=some (fn.body.getD .skip):=by
   cases h:fn.body with
   |none=>rw[h]at hb;cases hb
   |some b=>rfl
 exact zTF c hf hb' ⟨⟨fn,hf,by simpa using hn,by rw[hb'];rfl⟩⟩ hsz hT hGm hst hO hg
end
end
section
variable {T:Nat->Type}
def zxL(k:IntKind):AV T->Option Int
 | .v (.int k' n)=>if k'=k then some n else none
 |_=>none
def zwn:AV T->Option Bool
 | .v (.bool b)=>some b
 |_=>none
def cStr:AV T->Option Str
 | .v (.string q)=>some q.data.toList
 |_=>none
def cSl(e:Nat):AV T->Option (List (T e))
 | .sl e' xs=>if h:e'=e then some (h▸xs)else none
 | .v (.slice none 0 0)=>some []
 |_=>none
def zLn:AV T->Option UInt8
 | .v (.int .u8 n)=>toB n
 |_=>none
end
section
variable {Y:Tys} {hY:zb8 Y} {P:Program} {F:Heap} {ρ:List Pl} {G:Heap->Prop}
theorem zpr{k:IntKind}{a:AV Y.T}{n:Int}{u:Value}(h:zxL k a=some n)(r:Rel Y F ρ a u):Rel Y F ρ (.v (.int k n)) u:=by
 unfold zxL at h;split at h
 ·split at h
  ·rename_i hk;subst hk;cases h;exact r
  ·cases h
 ·cases h
theorem zrF{a:AV Y.T}{b:Bool}{u:Value}(h:zwn a=some b)(r:Rel Y F ρ a u):Rel Y F ρ (.v (.bool b)) u:=by
 unfold zwn at h;split at h
 ·cases h;exact r
 ·cases h
theorem zpa{a:AV Y.T}{s:Str}{u:Value}(h:cStr a=some s)(r:Rel Y F ρ a u):Rel Y F ρ (.v (.string ⟨⟨s⟩⟩)) u:=by
 unfold cStr at h;split at h
 ·cases h;exact r
 ·cases h
theorem zFx{e:Nat}{a:AV Y.T}{xs:List (Y.T e)}{u:Value}(h:cSl e a=some xs)(r:Rel Y F ρ a u):Rel Y F ρ (.sl e xs) u:=by
 refine zI6 (e:=e) (a:=a) ?_ r;unfold cSl at h;unfold zHI;split at h
 ·exact h
 ·exact h
 ·cases h
theorem zOq{a:AV Y.T}{b:UInt8}{u:Value}(h:zLn a=some b)(r:Rel Y F ρ a u):Rel Y F ρ (.v (.int .u8 (b.toNat:Int))) u:=by
 unfold zLn at h;split at h
 ·have:=zrR h;rw[<-this];exact r
 ·cases h
def orC(Y:Tys)(σ:Shape)(outs:List zan)(g:zgw Y σ->Option (zar Y outs))(C:Callee Y):Callee Y where
 run {R} args ms k:=match zuv Y σ (⟨zoU Y (keys σ.l) args,ms⟩:Sy Y.T)with
  |some z=>bif Nat.beq args.length (keys σ.l).length then Option.bind (g z) (λzo=>zDu Y k outs zo)else none
  |none=>C.run args ms k
 keep:=C.keep
 shs:=C.shs
 bor:=C.bor
theorem COk.or{f:FuncId}{keep:List Nat}{σ:Shape}{outs:List zan}{g:zgw Y σ->Option (zar Y outs)}{C:Callee Y}(h:COk hY P G f (callee Y keep σ outs g))(h2:COk hY P G f C):COk hY P G f (orC Y σ outs g C):=by
 refine⟨h.1,λ{R} args ms r k e=>?_⟩;simp only[orC]at e;split at e
 ·rename_i z hz;refine h.2 args ms r k ?_;simp only[callee,hz];exact e
 ·exact h2.2 args ms r k e
def zeg(Y:Tys)(σ:List Shape)(C:Callee Y):Callee Y:=⟨C.run,C.keep,σ,C.bor⟩
theorem COk.laid{f:FuncId}{σ:List Shape}{C:Callee Y}(h:COk hY P G f C):COk hY P G f (zeg Y σ C):=⟨h.1,h.2⟩
theorem zlB{A B:Type}{g:A->B}{o:Option A}{x:B}(h:zfT g o=some x): ∃y,o=some y/\g y=x:=by
 cases o with
 |none=>cases h
 |some y=>cases h;exact⟨y,rfl,rfl⟩
theorem COk.none{f:FuncId}{keep:List Nat}{σ:Shape}{outs:List zan}(hc:zfp P f):COk hY P G f (callee Y keep σ outs (λ_=>none)):=by
 refine⟨hc,λ{R} args ms r k e=>?_⟩;simp only[callee]at e;split at e
 ·obtain⟨_,e⟩:=zbh e;cases e
 ·cases e
def zDl(T:Nat->Type):List Nat->List (AV T)->zbY T
 |t::r,a::l=>(t,a)::zDl T r l
 |_,_=>[]
theorem zJ1: ∀(ks:List Nat) (xs:List (AV Y.T)),zoU Y ks xs=zDl Y.T ks xs
 | [],xs=>by cases xs<;>rfl
 |k::ks,[]=>rfl
 |k::ks,x::xs=>by simp only[zoU,zDl,zJ1 ks xs]
theorem zE5{T:Nat->Type}: ∀{n k i:Nat} {xs:List (AV T)},i<n->lookA (zDl T (iota k n) xs) (k+i)=xs[i]?
 |0,k,i,xs,h=>by omega
 |n+1,k,i,[],h=>rfl
 |n+1,k,0,x::xs,h=>by simp[iota,zDl,lookA]
 |n+1,k,i+1,x::xs,h=>by
  have hne:Nat.beq k (k+(i+1))=false:=by
   cases hb:Nat.beq k (k+(i+1))with
   |false=>rfl
   |true=>have:=yC hb;omega
  simp only[iota,zDl,lookA,hne,cond_false];have:=zE5 (n:=n) (k:=k+1) (i:=i) (xs:=xs) (by omega);rw[show k+(i+1)=k+1+i by omega];simpa using this
theorem zxd: ∀(l:List Pat) (r:Type) (z:zk0 Y l r),(zga Y l r z).1.length=l.length
 | [],r,z=>rfl
 |p::l,r,z=>by simp only[zga,qz3,zxd l r]
theorem zxo: ∀l:List (Nat×Pat),(zjP l).length=(keys l).length
 | []=>rfl
 | (_,_)::l=>by simp[zjP,keys,zxo l]
theorem COk.zR2{f:FuncId}{keep:List Nat}{l:List (Nat×Pat)}{o:zan}{g:zgw Y ⟨l,[]⟩->Option (zar Y [o])}(hc:zfp P f)(ho:o.pan=false/\o.m=[])(hkeys:zxp (keys l) (iota 0 (keys l).length)=true)
  (h: ∀z zo,g z=some zo->∀(w:World) (F:Heap) (vals:List Value),G F->F.Sub w->zad Y F [] (zga Y (zjP l) Unit z).1 vals->
   Calls P f vals.toArray w λe w'=>∃F' u,e= .returned u/\Rel Y F' [] (zLD Y (zeS Y o.sh zo).l) u/\Gw.St w F No w' F' []):COk hY P G f (callee Y keep ⟨l,[]⟩ [o] g):=by
 refine⟨hc,λ{R} args ms r k e w F ρ os vals D hGF hargs hml hol hm hst0=>?_⟩;simp only[callee]at e;have hkeys:=zGf hkeys;split at e
 ·rename_i z hz;obtain⟨hlen,e⟩:=zbh e;have hlen:=yC hlen;obtain⟨zo,hzo,hk⟩:=zaS e;have h3:=h z zo hzo;have hvl:vals.length=args.length:=hargs.1
  have h0:Cy hY vals.length w F D [] w F ρ os (⟨zoU Y (keys l) args,ms⟩:Sy Y.T) ⟨vals.toArray,[]⟩:=by
   refine⟨⟨rfl,rfl,λt x hx=>?_⟩,hml,hol,hm,hst0,λk b hb=>by simp at hb,Nat.zero_le _⟩;obtain⟨i,h3,h4⟩:=zur hx;rw[hkeys]at h3;have hi:t=i:=by have:=zzC h3;omega
   subst hi;obtain⟨u,hu,hr⟩:=hargs.get h4;have h5:=(qz0 hu).1;refine⟨h5,?_⟩;have:(vals.toArray).getD t undef=u:=by simp[Array.getD,h5];exact(qz0 hu).2
   rw[this];exact hr
  have hc1:=zAB h0 hz
  have hms:ms=[]:=by
   have:=hc1.len;rw[<-hml]at this;exact List.length_eq_zero_iff.1 this.symm
  subst hms;have hρ:ρ=[]:=List.length_eq_zero_iff.1 hml.symm;subst hρ;have hos:os=[]:=List.length_eq_zero_iff.1 hol;subst hos
  have hvals:zad Y F [] (zga Y (zjP l) Unit z).1 vals:=by
   refine⟨?_,λj a u ha hu=>?_⟩
   ·exact(hvl.trans hlen).trans ((zxd (zjP l) Unit z).trans (zxo l)).symm
   ·have hj:j< (keys l).length:=by
     exact Nat.lt_of_lt_of_eq (qz0 ha).1 ((zxd (zjP l) Unit z).trans (zxo l))
    have h4:=zE5 (T:=Y.T) (n:=(keys l).length) (k:=0) (xs:=(zga Y (zjP l) Unit z).1) hj;rw[Nat.zero_add,ha]at h4
    have h5:lookA (zeS Y ⟨l,[]⟩ z).l j=some a:=by
     show lookA (zoU Y (keys l) (zga Y (zjP l) Unit z).1) j=some a;rw[hkeys,zJ1];exact h4
    have h6:=(hc1.e.env j a h5).2;have h7:=(qz0 hu).1;have h8:(vals.toArray).getD j undef=u:=by simp[Array.getD,h7];exact(qz0 hu).2
    rwa [h8]at h6
  refine(h3 w F vals hGF hst0.view hvals).mono λen w' hr=>?_
  obtain⟨F',u,rfl,hres,hst⟩:=hr;simp only[zDu,zPi]at hk;refine⟨_,F',[],[],_,hk,?_,?_,rfl,?_,hst.widen D,yJ _,λk ty l p hk1=>by simp at hk1⟩
  ·unfold out1;rw[ho.1];exact .ret hres
  ·obtain⟨pan,p,m⟩:=o;obtain⟨rfl,rfl⟩:=ho;rfl
  ·intro k x p o hk1 hp;simp at hp
 ·cases e
theorem COk.ext{f:FuncId}{keep:List Nat}{l:List (Nat×Pat)}{o:zan}{g:zgw Y ⟨l,[]⟩->Option (zar Y [o])}(hc:zfp P f)(ho:o.pan=false/\o.m=[])(hkeys:zxp (keys l) (iota 0 (keys l).length)=true)
  (h: ∀z zo,g z=some zo->∃vs x,AV.zct (zga Y (zjP l) Unit z).1=some vs/\zLD Y (zeS Y o.sh zo).l= .v x/\
   ∀(w:World) (F:Heap),G F->F.Sub w->Calls P f vs.toArray w (zfI w F λs=>s= .v x)):COk hY P G f (callee Y keep ⟨l,[]⟩ [o] g):=
 COk.zR2 hc ho hkeys λz zo hz w F vals hGF hv hr=>by
  obtain⟨vs,x,h1,h2,h3⟩:=h z zo hz;have:=AV.zAn (Y:=Y) (F:=F) (ρ:=[]) h1 hr;subst this;refine(h3 w F hGF hv).mono λen w' hr=>?_
  obtain⟨F',s,rfl,hgs,hu,hst,rfl⟩:=hr;exact⟨F',x,rfl,by rw[h2];exact .v,hst⟩
end
section
variable {P:Program} {Q:Exit->Act->World->Prop}
theorem zH9{f:FuncId}{fn:Func}{c:Code}{args:Array Value}{w:World}{R:Ending->World->Prop}
   (hf:P.funcs[f]? =some fn) (hb:fn.body=some c)
   (h:TP P [.code c] (bodyPostD P fn R) {tmps:=args++Array.replicate (fn.ntmps -args.size) undef,defers:=[]} w):Calls P f args w R:=by
 intro cs
 let b:Frame:={(default:Frame)with fn:=f,kind:= .normal}
 have henter:Frame.enter P f args .normal=b.at {tmps:=args++Array.replicate (fn.ntmps -args.size) undef,defers:=[]} [.code c]:=by
   simp[Frame.enter,Frame.at,hf,hb,b]
 obtain⟨e,a',w',hq,harr⟩:=h b cs;rw[<-henter]at harr;cases e with
 |normal=>exact harr.elim
 |ret=>
   obtain⟨todo,hs₀⟩:=harr;obtain⟨e',w'',fr',hR,hs,hfn,hl⟩:=leaves_steps a'.defers .returning w' {b.at a' todo with mode:= .returning} cs rfl rfl rfl hf rfl hq;exact⟨e',w'',fr',hR,Comes.of_steps hs₀ hs,hfn,hl⟩
 |panic chain=>
   obtain⟨todo,hs₀⟩:=harr;obtain⟨e',w'',fr',hR,hs,hfn,hl⟩:=leaves_steps a'.defers (.panicking chain) w' {b.at a' todo with mode:= .panicking chain} cs rfl rfl rfl hf rfl hq;exact⟨e',w'',fr',hR,Comes.of_steps hs₀ hs,hfn,hl⟩
 |exit id=>exact hq.elim
 |goto l=>exact hq.elim
 |outgrown=>exact⟨.outgrown,w',b,hq,harr.resolve_left (by simp[b]),rfl,trivial⟩
def zNU:FrameMode->Option (Value×FrameMode)
 | .returning=>some (.nilIface,.returning)
 | .panicking [{v,recovered:=false,goexit:=false}]=>some (v,.panicking [{v,recovered:=true}])
 |_=>none
def clQ(P:Program)(gfn:Func)(u':FrameMode)(R:Ending->FrameMode->World->Prop):Exit->Act->World->Prop
 | .ret,a,w=>a.defers=[]/\∃v,(results gfn a.tmps).run P w= .ok v w/\R (.returned v) u' w
 | .outgrown,_,w=>R .outgrown u' w
 |_,_,_=>False
theorem zI1{g:FuncId}{gfn:Func}{rid:Nat}{rc:Oper}{crest:Code}{t6:Tmp}{args:Array Value}{u u':FrameMode}{v:Value}{w:World}{R:Ending->FrameMode->World->Prop}{at_:Array TypeId}
   (hf:P.funcs[g]? =some gfn) (hb:gfn.body=some (.seq (.region rid #[rc] false) crest)) (hop:rc.op= .call {callee:= .builtin .recover,args:= #[],argTypes:=at_}) (hd:rc.dst=some t6) (hgd:rc.guard=none) (hu:zNU u=some (v,u'))
   (h:TP P [.code crest] (clQ P gfn u' R) (Act.put {tmps:=args++Array.replicate (gfn.ntmps -args.size) undef,defers:=[]} (some t6) v) w):CallsD P g args u w R:=by
 intro c cs hcu
 let b:Frame:={(default:Frame)with fn:=g,kind:= .deferred}
 let a0:Act:={tmps:=args++Array.replicate (gfn.ntmps -args.size) undef,defers:=[]}
 have henter:Frame.enter P g args .deferred=b.at a0 [.code (.seq (.region rid #[rc] false) crest)]:=by
   simp[Frame.enter,Frame.at,hf,hb,b,a0]
 have hrun:(execOp a0.eval rc).run P w= .ok .recover w:=by
   unfold execOp;rw[hop];simp[resolve,invoke,builtin,Sem.run_bind]
 have hw:Region.wanted rc (yielded #[rc] a0.tmps)=true:=by simp[Region.wanted,hgd]
 have hreg:(Code.region rid #[rc] false).wpS P (λe a' cs' w'=>e= .normal/\a'=a0.put (some t6) v/\cs'={c with mode:=u'}::cs/\w'=w) a0 (c::cs) w:=by
   apply wpS_region;show wpOpsS P #[rc] _ [0] a0 (c::cs) w;have h0:(#[rc]:Array Oper)[0]? =some rc:=rfl;simp only[wpOpsS,h0,hw,yB,hrun];unfold zNU at hu;split at hu
   · cases hu;have:recoverD (c::cs)=none:=by simp only[recoverD,hcu]
     rw[this];refine⟨trivial,by rw[hd],?_,trivial⟩;rw[<-hcu]
   · cases hu;have:recoverD (c::cs)=some (v,{c with mode:= .panicking [{v:=v,recovered:=true}]}::cs):=by simp only[recoverD,hcu]
     rw[this];exact⟨trivial,by rw[hd],rfl,trivial⟩
   · cases hu
 obtain⟨e1,a1,cs1,w1,⟨rfl,rfl,rfl,rfl⟩,harr1⟩:=hreg b [.code crest] rfl rfl;obtain⟨e2,a2,w2,hq,harr2⟩:=h b ({c with mode:=u'}::cs)
 have hs1:Steps P (lone (Frame.enter P g args .deferred) (c::cs) w1) (lone (b.at (a0.put (some t6) v) [.code crest]) ({c with mode:=u'}::cs) w1):=by
   rw[henter];exact .head step_seq harr1
 cases e2 with
 |ret=>
   obtain⟨hd2,v2,hr,hR⟩:=hq;obtain⟨todo,hs⟩:=harr2;exact⟨.returned v2,u',w2,_,hR,hs1.trans hs,rfl,rfl,hd2,gfn,hf,hr⟩
 |outgrown=>
   refine⟨.outgrown,u',w2,b,hq,?_,rfl,trivial⟩;exact Outgrown.of_steps hs1 (harr2.resolve_left (by simp[b]))
 |normal=>exact hq.elim
 |exit id=>exact hq.elim
 |goto l=>exact hq.elim
 |panic ch=>exact hq.elim
end
section
variable (Y:Tys) (P:Program)
def zO2(body:Code)(key:List (List Nat)):Option (FuncId×Tmp×List Operand×List PI):=match zo3 body key with
 |some ((_,.code (.region _ ops draw))::todo)=>bif draw then none else(match ops.toList with
   | [mk,df]=>match mk.op,mk.dst,mk.guard,df.op,df.dst,df.guard with
     | .makeFunc (.func g) first caps,some td,none,.defer c,none,none=>match first.toList,c.callee,c.args.toList with
      | [],.value (.tmp t),[]=>bif Nat.beq t td then some (g,td,caps.toList,todo)else none
      |_,_,_=>none
     |_,_,_,_,_,_=>none
   |_=>none)
 |_=>none
def zN0(gfn:Func):Option (Tmp×Code):=match gfn.body with
 |some (.seq (.region _ ops draw) crest)=>bif draw then none else(match ops.toList with
   | [rc]=>match rc.op,rc.dst,rc.guard with
     | .call c,some t6,none=>match c.callee,c.args.toList,gfn.results.toList with
      | .builtin .recover,[],[]=>some (t6,crest)
      |_,_,_=>none
     |_,_,_=>none
   |_=>none)
 |_=>none
def zCD(h:Nat)(m:List (Mem Y.T)):AV Y.T->Bool
 | .ptr k _=>Nat.ble h k&&(match m[k]? with|some (.cells _ _)=>true|_=>false)
 |_=>false
def zDr(h:Nat)(m:List (Mem Y.T)):List (AV Y.T)->Bool
 | []=>true
 |x::r=>zCD Y h m x&&zDr h m r
def zIO(h:Nat)(l:zbY Y.T)(m:List (Mem Y.T)):List ResultVar->Option (zbY Y.T)
 | []=>some []
 | .cell ad _::r=>match lookA l ad,zIO h l m r with
   |some x,some q=>bif zCD Y h m x then some ((ad,x)::q)else none
   |_,_=>none
 | .tmp _::_=>none
def zJf:AV Y.T->AV Y.T->Bool
 | .ptr k o,.ptr k' o'=>Nat.beq k k'&&Nat.beq o o'
 |_,_=>false
def zfw:zbY Y.T->zbY Y.T->Bool
 | [],_=>true
 | (ad,x)::r,l=>(match lookA l ad with|some y=>zJf Y x y|none=>false)&&zfw r l
noncomputable def zFe (T:Tab Y) (gfn:Func) (caps:List (AV Y.T)) (t6:Tmp) (crest:Code) {A:Type} (fin:List (Mem Y.T)->Option A) (m:List (Mem Y.T)) (x:AV Y.T):Option A:=
 goA Y P T gfn.ntmps true [] (λsc=>fin sc.m) (λ_ _=>none) 100000 false [(2,.code crest)] ⟨(t6,x)::zoU Y (iota 0 caps.length) caps,m⟩
noncomputable def zMU (T:Tab Y) (fn gfn:Func) (gid:FuncId) (h:Nat) (outs:List zan) (body:Code) (key:List (List Nat)) (s:Sy Y.T):Option (zar Y outs):=
 match zO2 body key,zN0 gfn with
 |some (g,td,capo,todo),some (t6,crest)=>match zAv s.l capo,zIO Y h s.l s.m fn.results.toList with
   |some caps,some rl=>bif Nat.beq g gid&&(zDr Y h s.m caps&&(Nat.blt td fn.ntmps&&(Nat.blt t6 gfn.ntmps&&Nat.ble caps.length gfn.ntmps)))then
      goA Y P T fn.ntmps false []
       (λs'=>bif zfw Y rl s'.l then zFe Y P T gfn caps t6 crest (λm=>zn6 Y P h fn.results.toList outs ⟨rl,m⟩) s'.m (.err .nil)else none)
       (λs' x=>bif zfw Y rl s'.l then zFe Y P T gfn caps t6 crest (λm=>zn6 Y P h fn.results.toList outs ⟨rl,m⟩) s'.m x else none) 100000 false todo ⟨(td,.fn g caps)::s.l,s.m⟩
     else none
   |_,_=>none
 |_,_=>none
end
section
variable {Y:Tys} {hY:zb8 Y} {P:Program} {N N':Nat} {w0:World} {F0:Heap} {D:Own} {H H2:List (Option Nat)} {w w':World} {F F':Heap} {ρ ρ':List Pl} {os os':List (Option Obj)} {s s':Sy Y.T} {a a':Act} {T:Tab Y} {G:Heap->Prop} {Q:Exit->Act->World->Prop} {A B:Type} {body:Code}
theorem Cy.frame{ds es:List Deferred}(h: @Cy Y ⟨ds⟩ hY N w0 F0 D H w F ρ os s a){l:zbY Y.T}(e: @Ey ⟨es⟩ Y N' F ρ l a'): @Cy Y ⟨es⟩ hY N' w0 F0 D H w F ρ os ⟨l,s.m⟩ a':=by
 obtain⟨_,h1,h2,h3,h4,h5,h6⟩:=h;exact @Cy.mk Y ⟨es⟩ _ _ _ _ _ _ _ _ _ _ _ _ e h1 h2 h3 h4 h5 h6
theorem Cy.less{H':List (Option Nat)}(h:Cy hY N w0 F0 D (H++H') w F ρ os s a):Cy hY N w0 F0 D H w F ρ os s a:=by
 obtain⟨e,h1,h2,h3,h4,h5,h6⟩:=h;refine⟨e,h1,h2,h3,h4,λk b hk=>h5 k b ?_,by rw[qz5]at h6;omega⟩
 have hl:=(qz0 hk).1;rw[yF hl];exact hk
theorem zQs{key:List (List Nat)}{g:FuncId}{td:Tmp}{capo:List Operand}{todo:List PI}(h:zO2 body key=some (g,td,capo,todo)):
   ∃p id mk df caps at_,zo3 body key=some ((p,.code (.region id #[mk,df] false))::todo)/\mk.op= .makeFunc (.func g) #[] caps/\caps.toList=capo/\mk.dst=some td/\mk.guard=none/\
     df.op= .defer {callee:= .value (.tmp td),args:= #[],argTypes:=at_}/\df.dst=none/\df.guard=none:=by
 unfold zO2 at h;split at h
 · rename_i p id ops draw todo' hit;cases draw with
   |true=>cases h
   |false=>
     simp only[cond_false]at h;split at h
     ·rename_i mk df hops;split at h
      ·rename_i g' first caps td' c h1 h2 h3 h4 h5 h6
       split at h
       ·rename_i t hf hc ha;cases hb:Nat.beq t td' with
        |false=>rw[hb]at h;cases h
        |true=>
         rw[hb]at h;have:=yC hb;subst this;cases h;have hops':ops= #[mk,df]:=by rw[<-Array.toList_inj,hops]
         have hfirst:first= #[]:=by rw[<-Array.toList_inj,hf]
         subst hops';subst hfirst;refine⟨p,id,mk,df,caps,c.argTypes,hit,h1,rfl,h2,h3,?_,h5,h6⟩;rw[h4];have hargs:c.args= #[]:=by rw[<-Array.toList_inj,ha]
         cases c;simp only at hc hargs;subst hc;subst hargs;rfl
       ·cases h
      ·cases h
     ·cases h
 · cases h
theorem zQX{gfn:Func}{t6:Tmp}{crest:Code}(h:zN0 gfn=some (t6,crest)):
   ∃id rc at_,gfn.body=some (.seq (.region id #[rc] false) crest)/\rc.op= .call {callee:= .builtin .recover,args:= #[],argTypes:=at_}/\rc.dst=some t6/\rc.guard=none/\gfn.results= #[]:=by
 unfold zN0 at h;split at h
 · rename_i id ops draw crest' hb;cases draw with
   |true=>cases h
   |false=>
     simp only[cond_false]at h;split at h
     ·rename_i rc hops;split at h
      ·rename_i c t6' h1 h2 h3;split at h
       ·rename_i hc ha hr;cases h;have hops':ops= #[rc]:=by rw[<-Array.toList_inj,hops]
        subst hops';refine⟨id,rc,c.argTypes,hb,?_,h2,h3,by rw[<-Array.toList_inj,hr]⟩;rw[h1];have hargs:c.args= #[]:=by rw[<-Array.toList_inj,ha]
        cases c;simp only at hc hargs;subst hc;subst hargs;rfl
       ·cases h
      ·cases h
     ·cases h
 · cases h
def ztA(H:List (Option Nat))(ms:List (Mem Y.T))(ρ:List Pl):List (Option Nat):=H++(zlQ ms ρ).drop H.length
theorem zO3(h:Cy hY N w0 F0 D H w F ρ os s a){k b:Nat}(e:(ztA H s.m ρ)[k]? =some (some b)):(∃p:Pl,ρ[k]? =some p/\p.blk=b)/\∀x,s.m[k]? =some x->x.still=true:=by
 unfold ztA at e;by_cases hk:k<H.length
 · rw[yF hk]at e;exact h.fix k b e
 · rw[yG (by omega),List.getElem?_drop]at e
   have e2:(zlQ s.m ρ)[k]? =some (some b):=by
     rw[<-e];congr 1;omega
   obtain⟨ty,l,p,h1,h2,h3⟩:=zB4 e2;exact⟨⟨p,h2,h3⟩,λx h4=>by rw[h1]at h4;cases h4;rfl⟩
theorem zNm(h:Cy hY N w0 F0 D H w F ρ os s a):(ztA H s.m ρ).length<=ρ.length:=by
 have h1:=zvg h.len;have h2:=h.long;unfold ztA;rw[qz5,List.length_drop,h1];omega
theorem zKc(h:Cy hY N w0 F0 D H w F ρ os s a){k o:Nat}(e:zCD Y H.length s.m (.ptr k o)=true): ∃p,ρ[k]? =some p/\(ztA H s.m ρ)[k]? =some (some p.blk):=by
 simp only[zCD,qz4]at e;obtain⟨h1,h2⟩:=e;have hk:H.length<=k:=yD h1;split at h2
 · rename_i ty l hm;have hk2:k<ρ.length:=by rw[<-h.len];exact(qz0 hm).1
   have hp:ρ[k]? =some ρ[k]:=qz9 hk2;refine⟨_,hp,?_⟩;unfold ztA;rw[yG hk,List.getElem?_drop];have:H.length+(k -H.length)=k:=by omega
   rw[this];exact zxH hm hp
 · cases h2
theorem Rel.moved{k o:Nat}{u:Value}(r:Rel Y F ρ (.ptr k o) u){p p':Pl}(h1:ρ[k]? =some p)(h2:ρ'[k]? =some p')(h3:p'.blk=p.blk):Rel Y F' ρ' (.ptr k o) u:=by
 cases r with
 | @ptr _ _ q hq=>
   rw[h1]at hq;cases hq;rw[<-h3];exact .ptr h2
theorem zL7{x y:AV Y.T}(h:zJf Y x y=true): ∃k o,x= .ptr k o/\y= .ptr k o:=by
 unfold zJf at h;split at h
 · rename_i k o k' o';simp only[qz4]at h;rw[yC h.1,yC h.2];exact⟨_,_,rfl,rfl⟩
 · cases h
theorem zJo: ∀{rl l:zbY Y.T} {t:Nat} {x:AV Y.T},zfw Y rl l=true->lookA rl t=some x->∃k o,x= .ptr k o/\lookA l t=some (.ptr k o)
 | [],l,t,x,_,h=>by cases h
 | (ad,y)::r,l,t,x,hs,h=>by
   simp only[zfw,qz4]at hs;simp only[lookA]at h;cases hb:Nat.beq ad t with
   |true=>
     rw[hb]at h;cases h;have:=yC hb;subst this;obtain⟨h1,_⟩:=hs;split at h1
     ·rename_i z hz;obtain⟨k,o,e1,e2⟩:=zL7 h1;exact⟨k,o,e1,by rw[hz,e2]⟩
     ·cases h1
   |false=>
     rw[hb]at h;exact zJo hs.2 h
theorem zKi{h:Nat}{l:zbY Y.T}{m:List (Mem Y.T)}: ∀{rs:List ResultVar} {rl:zbY Y.T} {t:Nat} {x:AV Y.T},zIO Y h l m rs=some rl->lookA rl t=some x->zCD Y h m x=true
 | [],rl,t,x,e,hx=>by cases e;cases hx
 | .tmp _::_,rl,t,x,e,hx=>by cases e
 | .cell ad ty::r,rl,t,x,e,hx=>by
   simp only[zIO]at e;split at e
   · rename_i y q hy hq;obtain⟨hp,e⟩:=zbh e;cases e;simp only[lookA]at hx;cases hb:Nat.beq ad t with
     |true=>rw[hb]at hx;cases hx;exact hp
     |false=>rw[hb]at hx;exact zKi hq hx
   · cases e
theorem zId{h:Nat}{m:List (Mem Y.T)}: ∀{l:List (AV Y.T)} {i:Nat} {x:AV Y.T},zDr Y h m l=true->l[i]? =some x->zCD Y h m x=true
 | [],i,x,_,h=>by simp at h
 |y::l,0,x,hs,h=>by simp at h;subst h;simp only[zDr,qz4]at hs;exact hs.1
 |y::l,i+1,x,hs,h=>by simp only[zDr,qz4]at hs;exact zId hs.2 (by simpa using h)
theorem zNA{h:Nat}{m:List (Mem Y.T)}{x:AV Y.T}(e:zCD Y h m x=true): ∃k o,x= .ptr k o:=by
 unfold zCD at e;split at e
 · exact⟨_,_,rfl⟩
 · cases e
theorem Ey.args{n:Nat}{az:List (AV Y.T)}{vs:List Value}(r:zad Y F ρ az vs)(hn:az.length<=n):Ey Y n F ρ (zoU Y (iota 0 az.length) az) ⟨vs.toArray++Array.replicate (n -vs.toArray.size) undef,[]⟩:=by
 have hl:=r.1;refine⟨?_,rfl,λt x hx=>?_⟩
 · simp only[Array.size_append,List.size_toArray,Array.size_replicate];omega
 · obtain⟨i,h3,h4⟩:=zur hx;have hi:t=i:=by have:=zzC h3;omega
   subst hi;obtain⟨u,hu,hr⟩:=r.get h4;have h5:=(qz0 h4).1;have h6:=(qz0 hu).1;refine⟨by omega,?_⟩
   have h1:(vs.toArray++Array.replicate (n -vs.toArray.size) undef)[t]? =some u:=by
     rw[Array.getElem?_append_left (by simpa using h6)];simpa using hu
   rw[Array.getD_eq_getD_getElem?,h1];exact hr
theorem zKt{fn gfn:Func}{gid:FuncId}{caps:List (AV Y.T)}{capsV:List Value}{t6:Tmp}{crest:Code}{rl:zbY Y.T}{outs:List zan}{zo:zar Y outs}{R:Ending->World->Prop}{rid:Nat}{rc:Oper}{at2:Array TypeId}
   {w1 w2:World} {F1 F2:Heap} {ρ1 ρ2:List Pl} {os1 os2:List (Option Obj)} {s1 s2:Sy Y.T} {a1 a2:Act} {ds:List Deferred} {x:AV Y.T} {v:Value} {u u':FrameMode}
   (hgf:P.funcs[gid]? =some gfn) (hgc:zfp P gid) (hgb:gfn.body=some (.seq (.region rid #[rc] false) crest)) (hrc:rc.op= .call {callee:= .builtin .recover,args:= #[],argTypes:=at2}) (hrd:rc.dst=some t6) (hrg:rc.guard=none) (hgr:gfn.results= #[])
   (hsz:Y.sz Y.byt=1) (hT:zcu hY P G T) (hGle: ∀F,F0.Le F->G F) (hE:zPu hY P fn outs zo w0 F0 D H R)
   (h1:Cy hY fn.ntmps w0 F0 D H w1 F1 ρ1 os1 s1 a1) (hcr:zad Y F1 ρ1 caps capsV) (hpl:zDr Y H.length s1.m caps=true) (hrl:zIO Y H.length s1.l s1.m fn.results.toList=some rl) (hcl:caps.length<=gfn.ntmps) (ht6:Nat.blt t6 gfn.ntmps=true)
   (h2: @Cy Y ⟨ds⟩ hY fn.ntmps w0 F0 D (ztA H s1.m ρ1) w2 F2 ρ2 os2 s2 a2) (hs:zfw Y rl s2.l=true) (hx:Rel Y F2 ρ2 x v)
   (e:zFe Y P T gfn caps t6 crest (λm=>zn6 Y P H.length fn.results.toList outs ⟨rl,m⟩) s2.m x=some zo) (hrec:zNU u=some (v,u')) (hset:settle u'= .returning) (hu:u≠ .run):
   Leaves P fn a2.tmps R [{target:= .fn (.func gid) capsV.toArray,args:= #[]}] u w2:=by
 have hinv:(invoke (.fn (.func gid) capsV.toArray) #[]).run P w2= .ok (.enter gid capsV.toArray) w2:=by
   have:=hgc.run (#[]++capsV.toArray) w2;simpa [invoke]using this
 refine leaves_cons hu hinv (zI1 hgf hgb hrc hrd hrg hrec ?_)
 have mv: ∀{F3:Heap} {ρ3:List Pl},(∀(k b:Nat),(ztA H s1.m ρ1)[k]? =some (some b)->∃p:Pl,ρ3[k]? =some p/\p.blk=b)->zad Y F3 ρ3 caps capsV:=λhfix=>⟨hcr.1,λj y z hy hz=>by
   have hp:=zId hpl hy;obtain⟨k,o,rfl⟩:=zNA hp;obtain⟨p,hp1,hp2⟩:=zKc h1 hp;obtain⟨p',hp3,hp4⟩:=hfix _ _ hp2;exact(hcr.2 j _ z hy hz).moved hp1 hp3 hp4⟩
 have h2':=h2;obtain⟨he2,_,_,_,_,hfix2,_⟩:=h2';obtain⟨hsz2,_,henv2⟩:=he2;have hE0:=(Ey.args (n:=gfn.ntmps) (mv (F3:=F2) λk b hk=>(hfix2 k b hk).1) hcl)
 have hE1:=hE0.put (d:=some t6) ht6 hx;have h3:Cy hY gfn.ntmps w0 F0 D (ztA H s1.m ρ1) w2 F2 ρ2 os2 _ _:=Cy.frame (es:=[]) h2 hE1;refine zx3 (body:= .seq (.region rid #[rc] false) crest) (todo:=[(2,.code crest)]) (env:=[]) (M:=λy=>y=zo) (kp:=λ_ _=>none) hsz hT hGle (dr:=true) (λ_=> .inr λ_ _=>rfl) ?_ (λy hy=>by cases List.mem_singleton.1 hy;exact .seq2 .root rfl) h3 e rfl
 refine⟨λw3 F3 ρ3 os3 s3 a3 y h4 e4 hy=>?_,λy hy w3 F3 ρ3 os3 s3 a3 y2 u2 h4 h5 e4=>(by cases e4),λr J hm=>by cases hm⟩;subst hy;refine⟨h4.e.nodef,.tuple #[],results_none hgr _ _ _,?_⟩;show Leaves P fn a2.tmps R [] (settle u') w3;rw[hset]
 have hEr:Ey Y fn.ntmps F3 ρ3 rl ⟨a2.tmps,[]⟩:=by
   refine⟨?_,rfl,λt z hz=>?_⟩
   · exact hsz2
   · obtain⟨k,o,rfl,hl⟩:=zJo hs hz;have hp:=zKi hrl hz;obtain⟨p,hp1,hp2⟩:=zKc h1 hp;obtain⟨p',hp3,hp4⟩:=(hfix2 _ _ hp2).1;obtain⟨p3,hp5,hp6⟩:=(h4.fix _ _ hp2).1;have:=henv2 t _ hl;exact⟨this.1,this.2.moved hp3 hp5 (by rw[hp4,hp6])⟩
 have h5:Cy hY fn.ntmps w0 F0 D (ztA H s1.m ρ1) w3 F3 ρ3 os3 ⟨rl,s3.m⟩ ⟨a2.tmps,[]⟩:=Cy.frame (ds:=[]) (es:=[]) h4 hEr;exact hE.1 w3 F3 ρ3 os3 ⟨rl,s3.m⟩ ⟨a2.tmps,[]⟩ (Cy.less h5) e4
theorem zSV{f gid:FuncId}{fn gfn:Func}{body:Code}{keep:List Nat}{σ:Shape}{outs:List zan}{g:zgw Y σ->Option (zar Y outs)}(key:List (List Nat))(hf:P.funcs[f]? =some fn)(hb:fn.body=some body)(hc:zfp P f)
   (hgf:P.funcs[gid]? =some gfn) (hgc:zfp P gid)
   (hsz:Y.sz Y.byt=1) (hT:zcu hY P G T) (hGm: ∀F F',F.Le F'->G F->G F') (hst:(Nat.ble (keys σ.l).length fn.ntmps&&zxp (keys σ.l) (iota 0 (keys σ.l).length)&&outs.all λo=>zj5 σ.m o.m)=true)
   (hg: ∀z,goA Y P T fn.ntmps true [(zEa key,zMU Y P T fn gfn gid σ.m.length outs body key)] (zn6 Y P σ.m.length fn.results.toList outs) (λ_ _=>none) 100000 false [(0,.code body)] (zeS Y σ z)=g z):
   COk hY P G f (callee Y keep σ outs g):=by
 refine zKx hc hGm hst λ{w F ρ os D H z zo vals R} hGle hHm h1 hzo hE=>?_
 refine zH9 hf hb ?_;have hg1:=hg z;rw[hzo,hHm.symm]at hg1
 have C0:Ctx hY P fn.ntmps w F D H (bodyPostD P fn R) body (λx=>x=zo) [] (zn6 Y P H.length fn.results.toList outs) (λ_ _=>none):=by
   refine⟨λw1 F1 ρ1 os1 s1 a1 x h2 e2 hx=>?_,λx hx w1 F1 ρ1 os1 s1 a1 y u h2 h3 e2=>(by cases e2),λr J hm=>by cases hm⟩;subst hx;show Leaves P fn a1.tmps R a1.defers .returning w1;have hn:a1.defers=[]:=h2.e.nodef;rw[hn];exact hE.1 _ _ _ _ _ _ h2 e2
 refine zx3 (todo:=[(0,.code body)]) hsz hT hGle (λ_=> .inr λ_ _=>rfl) (C0.cons λtodo hat hk w1 F1 ρ1 os1 s a x h e hx=>?_) (λx hx=>by cases List.mem_singleton.1 hx;exact .root) h1 hg1 rfl
 subst hx;unfold zMU at e;split at e
 · rename_i g' td capo todo' t6 crest hcd hcc;split at e
   · rename_i caps rl hcaps hrl;obtain⟨hcond,e5⟩:=zbh e;clear e;simp only[qz4]at hcond;obtain⟨hgid,hpl,htd,ht6,hcl⟩:=hcond;have:=yC hgid;subst this;have hcl:=yD hcl;obtain⟨p,id,mk,df,capsO,at_,hit,hmk,hcapo,hmd,hmg,hdf,hdd,hdg⟩:=zQs hcd;obtain⟨rid,rc,at2,hgb,hrc,hrd,hrg,hgr⟩:=zQX hcc;have hat':=zt9 hit;have:=hat.uniq hat' (by rw[hk,zr8 hit]);subst this;have hcr:=zx9 h.e hcaps;generalize hcv:capo.map a.eval=capsV at hcr
     let d:Deferred:={target:= .fn (.func g') capsV.toArray,args:= #[]}
     let a2:Act:={a.put (some td) (.func (.func g') #[] capsV.toArray)with defers:=[d]}
     have htd':td<a.tmps.size:=by rw[h.e.size];exact yD htd
     have hcv2:capsO.map a.eval=capsV.toArray:=by
      rw[<-Array.toList_inj,<-hcv,<-hcapo];simp
     have h0:a.defers=[]:=h.e.nodef
     have hrmk:(execOp a.eval mk).run P w1= .ok (.value (.func (.func g') #[] capsV.toArray)) w1:=by
      unfold execOp;rw[hmk];simp[Instr.makeFunc,hcv2]
     have hev:(a.put (some td) (.func (.func g') #[] capsV.toArray)).eval (.tmp td)= .func (.func g') #[] capsV.toArray:=zna _ _ _ htd'
     have hrdf:(execOp (a.put (some td) (.func (.func g') #[] capsV.toArray)).eval df).run P w1= .ok (.defer d) w1:=by
      unfold execOp;rw[hdf];simp[resolve,hev,Deferred.ofValue,d]
     have step2:TP P (todo'.map (·.2)) (bodyPostD P fn R) a2 w1->TP P (.code (.region id #[mk,df] false)::todo'.map (·.2)) (bodyPostD P fn R) a w1:=λhh=> .code (wp_region_list (by
      show wpList P #[mk,df] _ [mk,df] a w1;have w1':Region.wanted mk (yielded #[mk,df] a.tmps)=true:=by simp[Region.wanted,hmg]
      have w2': ∀a:Act,Region.wanted df (yielded #[mk,df] a.tmps)=true:=λa=>by simp[Region.wanted,hdg]
      simp only[wpList];rw[yL w1'];left;unfold Oper.wp;rw[hrmk,Oper.upon_value,hmd,yL (w2' _)];left;show Oper.upon P df _ _ _ ((execOp _ df).run P w1);rw[hrdf,Oper.upon_defer,hdd]
      have e3:Act.put {a.put (some td) (.func (.func g') #[] capsV.toArray)with defers:=d::(a.put (some td) (.func (.func g') #[] capsV.toArray)).defers} none undef=a2:=by
       show({a.put (some td) (.func (.func g') #[] capsV.toArray)with defers:=d::(a.put (some td) (.func (.func g') #[] capsV.toArray)).defers}:Act)=a2;rw[put_defers,h0]
      rw[e3];exact hh))
     have hE0:=h.e.put (d:=some td) (x:= .fn g' caps) (u:= .func (.func g') #[] capsV.toArray) htd (.fn hcr.1 hcr.2);have hE2: @Ey ⟨[d]⟩ Y fn.ntmps F1 ρ1 ((td,.fn g' caps)::s.l) a2:= @Ey.mk ⟨[d]⟩ _ _ _ _ _ _ hE0.size rfl hE0.env;have h2: @Cy Y ⟨[d]⟩ hY fn.ntmps w F D (ztA H s.m ρ1) w1 F1 ρ1 os1 ⟨(td,.fn g' caps)::s.l,s.m⟩ a2:= @Cy.mk Y ⟨[d]⟩ _ _ _ _ _ _ _ _ _ _ _ _ hE2 h.len h.lon h.mem h.st (λk b=>zO3 h) (zNm h)
     have C2: @Ctx ⟨[d]⟩ Y _ hY P fn.ntmps w F D (ztA H s.m ρ1) (bodyPostD P fn R) body (λy=>y=x) []
       (λs'=>bif zfw Y rl s'.l then zFe Y P T gfn caps t6 crest (λm=>zn6 Y P H.length fn.results.toList outs ⟨rl,m⟩) s'.m (.err .nil)else none)
       (λs' x=>bif zfw Y rl s'.l then zFe Y P T gfn caps t6 crest (λm=>zn6 Y P H.length fn.results.toList outs ⟨rl,m⟩) s'.m x else none):=by
      refine @Ctx.mk ⟨[d]⟩ _ _ _ _ _ _ _ _ _ _ _ _ _ _ _ (λw2 F2 ρ2 os2 s2 a3 y h3 e3 hy=>?_) (λy hy w2 F2 ρ2 os2 s2 a3 y2 u2 h3 h4 e3=>?_) (λr J hm=>by cases hm)
      ·subst hy;obtain⟨hs,e3⟩:=zbh e3;show Leaves P fn a3.tmps R a3.defers .returning w2;have hn:a3.defers=[d]:=by obtain⟨⟨_,hn,_⟩,_⟩:=h3;exact hn
       rw[hn];exact zKt hgf hgc hgb hrc hrd hrg hgr hsz hT hGle hE h hcr hpl hrl hcl ht6 h3 hs (.err (e:= .nil) (q:=zOv)) e3 rfl rfl (by simp)
      ·subst hy;obtain⟨hs,e3⟩:=zbh e3;show Leaves P fn a3.tmps R a3.defers (.panicking [{v:=u2,recovered:=false}]) w2;have hn:a3.defers=[d]:=by obtain⟨⟨_,hn,_⟩,_⟩:=h3;exact hn
       rw[hn];exact zKt hgf hgc hgb hrc hrd hrg hgr hsz hT hGle hE h hcr hpl hrl hcl ht6 h3 hs h4 e3 rfl rfl (by simp)
     exact step2 (@zx3 ⟨[d]⟩ _ _ _ _ _ _ _ _ _ _ _ _ _ _ _ _ _ hsz hT hGle false (λhd=>by cases hd) C2 _ _ _ _ _ _ _ _ _ _ hat'.tail h2 e5 rfl)
   · cases e
 · cases e
end
end Go.Dn
namespace Go.Dn
open Go.Gw Go.RowKit Go.Shelf Go.Proofs
section
variable {P:Program} {ρ:Ren}
def Kept(g:Nat)(w w':World):Prop:=w'.os=w.os/\w'.tape=w.tape/\w'.output=w.output/\w.heap.size<=w'.heap.size/\∀x,x<w.heap.size->x≠g->w'.heap[x]? =w.heap[x]?
theorem Kept.refl(g:Nat)(w:World):Kept g w w:=⟨rfl,rfl,rfl,yJ _,λ_ _ _=>rfl⟩
theorem Kept.drew{g:Nat}{w w':World}(h:Kept g w w'):Kept g w w'.drew:=h
theorem Kept.alloc{g:Nat}{w w':World}(h:Kept g w w')(o:Obj):Kept g w (w'.alloc o):=
 ⟨h.1,h.2.1,h.2.2.1,Nat.le_trans h.2.2.2.1 (by show w'.heap.size<=(w'.heap.push o).size;rw[Array.size_push];exact Nat.le_succ _),λx h1 h2=>by
  have:=h.2.2.2.1;have hx:x<w'.heap.size:=by omega
  rw[<-h.2.2.2.2 x h1 h2];exact Lib.alloc_old w' o x hx⟩
theorem Kept.freeze{g:Nat}{w w':World}(h:Kept g w w')(n:Nat):Kept g w (w'.freeze ⟨g,0,none⟩ n):=
 ⟨(zxg _ _ _).1.trans h.1,(zxg _ _ _).2.1.trans h.2.1,(zxg _ _ _).2.2.trans h.2.2.1,by rw[zJI];exact h.2.2.2.1,λx h1 h2=>by rw[zIw _ _ _ _ h2];exact h.2.2.2.2 x h1 h2⟩
set_option maxHeartbeats 1000000 in
set_option maxRecDepth 100000 in
theorem zN1(L:Lays.n240 P ρ)(X:Builder.X72 P ρ)(b off:Nat)(w:World)(h0:w.cell? ⟨b,off,none⟩=some (.pointer (some ⟨b,off,none⟩))):
  Calls P (ρ.f 240) #[.pointer (some ⟨b,off,none⟩)] w λe w'=>e= .returned (.tuple #[])/\w'=w:=by
 obtain⟨j,hj,_⟩:=Option.map_eq_some_iff.1 X.sizeBuilder;have mixed:=L.mixed;have t72:=L.t72;have a72:=L.a72;have z72:=L.z72;have v72:=L.v72;have u72:=run_underlying L.t72;have t70:=L.t70;have a70:=L.a70;have z70:=L.z70;have v70:=L.v70;have u70:=run_underlying L.t70;have t9:=L.t9;have a9:=L.a9;have z9:=L.z9;have v9:=L.v9;have u9:=run_underlying L.t9;have t4:=L.t4;have a4:=L.a4;have z4:=L.z4;have v4:=L.v4;have u4:=run_underlying L.t4;have t164:=L.t164;have a164:=L.a164;have z164:=L.z164;have v164:=L.v164;have u164:=run_underlying L.t164
 go_enter L.f240,Body.n240_ntmps ρ
 go_wp2
 rw[Lib.run_neq_ptr_same w _ L.t70 hj]
 go_wp2
 go_end0
 exact⟨rfl,rfl⟩
set_option maxHeartbeats 1000000 in
set_option maxRecDepth 100000 in
theorem zMZ(L:Lays.n240 P ρ)(X:Builder.X72 P ρ)(b off ty n:Nat)(w:World)(h0:w.cell? ⟨b,off,none⟩=some (.pointer none))(hsh:w.shape? b=some (ty,n))(hoff:off<n)(hlies:liesAt P P.depth ty (n/P.cellsOf ty) off (ρ.t 72) 1=true)(hfz:w.frozen? ⟨b,off,none⟩=false):
  Calls P (ρ.f 240) #[.pointer (some ⟨b,off,none⟩)] w λe w'=>e= .returned (.tuple #[])/\w'=w.setCell ⟨b,off,none⟩ (.pointer (some ⟨b,off,none⟩)):=by
 obtain⟨j,hj,hjs⟩:=Option.map_eq_some_iff.1 X.sizeBuilder;have mixed:=L.mixed;have t72:=L.t72;have a72:=L.a72;have z72:=L.z72;have v72:=L.v72;have u72:=run_underlying L.t72;have t70:=L.t70;have a70:=L.a70;have z70:=L.z70;have v70:=L.v70;have u70:=run_underlying L.t70;have t9:=L.t9;have a9:=L.a9;have z9:=L.z9;have v9:=L.v9;have u9:=run_underlying L.t9;have t4:=L.t4;have a4:=L.a4;have z4:=L.z4;have v4:=L.v4;have u4:=run_underlying L.t4;have t164:=L.t164;have a164:=L.a164;have z164:=L.z164;have v164:=L.v164;have u164:=run_underlying L.t164
 go_enter L.f240,Body.n240_ntmps ρ
 go_wp2
 rw[Lib.run_to_unsafe w ⟨b,off,none⟩ L.t70 L.t164 hj (by rw[hjs];decide) hsh hoff]
 simp only[Result.andThen];rw[Oper.upon_value]
 go_wp2
 rw[run_callFunc_extern L.f276 (by kernel_rfl) (by kernel_rfl) (by kernel_rfl) (e:=Extern.AbiNoEscape.same) (by kernel_rfl)];rw[Lib.run_noEscape];simp only[Result.andThen];rw[Oper.upon_value]
 go_wp2
 rw[Lib.run_from_unsafe w ⟨b,off,none⟩ L.t164 L.t70 hj hsh hlies];simp only[Result.andThen];rw[Oper.upon_value]
 go_wp2
 go_end0
 exact⟨rfl,rfl⟩
set_option maxHeartbeats 2000000 in
set_option maxRecDepth 100000 in
theorem zyU(L:Lays.n169 P ρ)(X:Builder.Extra P ρ)(b off k:Nat)(w:World)(c0:w.cell? ⟨b,off+1,none⟩=some (.slice none 0 0)):
  Calls P (ρ.f 169) #[.pointer (some ⟨b,off,none⟩)] w λe w'=>e= .returned (.string ⟨#[]⟩)/\Kept k w w':=by
 have hUS:=Any.unsafeString_none L X;have c1:w.drew.cell? ⟨b,off+1,none⟩=some (.slice none 0 0):=c0;have hSD:(Builtin.unsafeSliceData_ #[(ρ.t 37)] (ρ.t 127) #[.slice none 0 0]).run P w.drew= .ok (.pointer none) w.drew:=rfl;have mixed:=L.mixed;have t72:=L.t72;have a72:=L.a72;have z72:=L.z72;have v72:=L.v72;have u72:=run_underlying L.t72;have t70:=L.t70;have a70:=L.a70;have z70:=L.z70;have v70:=L.v70;have u70:=run_underlying L.t70;have t37:=L.t37;have a37:=L.a37;have z37:=L.z37;have v37:=L.v37;have u37:=run_underlying L.t37;have t127:=L.t127;have a127:=L.a127;have z127:=L.z127;have v127:=L.v127;have u127:=run_underlying L.t127
 have t3:=L.t3;have a3:=L.a3;have z3:=L.z3;have v3:=L.v3;have u3:=run_underlying L.t3;have t9:=L.t9;have a9:=L.a9;have z9:=L.z9;have v9:=L.v9;have u9:=run_underlying L.t9;have t5:=X.t5;have a5:=X.a5;have z5:=X.z5;have v5:=X.v5;have u5:=run_underlying X.t5
 go_enter L.f169,Body.n169_ntmps ρ
 go_wp2
 go_region_o
 all_goals (go_wp2;go_ret;exact⟨rfl,Kept.refl k w⟩)
set_option maxHeartbeats 2000000 in
set_option maxRecDepth 100000 in
theorem zDD(L:Lays.n169 P ρ)(X:Builder.Extra P ρ)(b off k g:Nat)(cur:Array Value)(w:World)(hlt:b<w.heap.size)(c0:w.cell? ⟨b,off+1,none⟩=some (.slice (some ⟨g,0,none⟩) 0 0))(hg:w.heap[g]? =some (.cells cur (ρ.t 5) (0,0))):
  Calls P (ρ.f 169) #[.pointer (some ⟨b,off,none⟩)] w λe w'=>e= .returned (.string ⟨#[]⟩)/\Kept k w w':=by
 have hUS:=Any.unsafeString_none L X;have c1:w.drew.cell? ⟨b,off+1,none⟩=some (.slice (some ⟨g,0,none⟩) 0 0):=c0
 have hSD:(Builtin.unsafeSliceData_ #[(ρ.t 37)] (ρ.t 127) #[.slice (some ⟨g,0,none⟩) 0 0]).run P w.drew= .ok (.pointer (some ⟨w.drew.heap.size,0,none⟩)) (w.drew.alloc (.view ⟨g,0,none⟩ (ρ.t 5))):=
  Lib.run_unsafeSliceData_zero w.drew _ _ (ρ.t 5) L.t127 ⟨g,0,none⟩ 0 ((ρ.t 5),cur.size) (by have hg':w.drew.heap[g]? =some (.cells cur (ρ.t 5) (0,0)):=hg;simp[World.shape?,hg'])
 have c2:(w.drew.alloc (.view ⟨g,0,none⟩ (ρ.t 5))).cell? ⟨b,off+1,none⟩=some (.slice (some ⟨g,0,none⟩) 0 0):=by
  rw[World.cell?_alloc_past _ _ _ (by exact hlt)];exact c1
 have c3:(w.alloc (.view ⟨g,0,none⟩ (ρ.t 5))).drew.cell? ⟨b,off+1,none⟩=some (.slice (some ⟨g,0,none⟩) 0 0):=c2;have mixed:=L.mixed;have t72:=L.t72;have a72:=L.a72;have z72:=L.z72;have v72:=L.v72;have u72:=run_underlying L.t72;have t70:=L.t70;have a70:=L.a70;have z70:=L.z70;have v70:=L.v70;have u70:=run_underlying L.t70;have t37:=L.t37;have a37:=L.a37;have z37:=L.z37;have v37:=L.v37;have u37:=run_underlying L.t37;have t127:=L.t127;have a127:=L.a127;have z127:=L.z127;have v127:=L.v127;have u127:=run_underlying L.t127;have t3:=L.t3;have a3:=L.a3;have z3:=L.z3;have v3:=L.v3;have u3:=run_underlying L.t3
 have t9:=L.t9;have a9:=L.a9;have z9:=L.z9;have v9:=L.v9;have u9:=run_underlying L.t9;have t5:=X.t5;have a5:=X.a5;have z5:=X.z5;have v5:=X.v5;have u5:=run_underlying X.t5
 go_enter L.f169,Body.n169_ntmps ρ
 go_wp2
 go_region_o
 all_goals (go_wp2;go_ret;exact⟨rfl,((Kept.refl k w).drew).alloc _⟩)
set_option maxHeartbeats 2000000 in
set_option maxRecDepth 100000 in
theorem zEE(L:Lays.n169 P ρ)(X:Builder.Extra P ρ)(b off k g cap:Nat)(w:World)(hc0:cap≠0)(c0:w.cell? ⟨b,off+1,none⟩=some (.slice (some ⟨g,0,none⟩) 0 cap)):
  Calls P (ρ.f 169) #[.pointer (some ⟨b,off,none⟩)] w λe w'=>e= .returned (.string ⟨#[]⟩)/\Kept k w w':=by
 have hUS:=Any.unsafeString_none L X;have c1:w.drew.cell? ⟨b,off+1,none⟩=some (.slice (some ⟨g,0,none⟩) 0 cap):=c0
 have hSD:(Builtin.unsafeSliceData_ #[(ρ.t 37)] (ρ.t 127) #[.slice (some ⟨g,0,none⟩) 0 cap]).run P w.drew= .ok (.pointer (some ⟨g,0,none⟩)) w.drew:=
  Lib.run_unsafeSliceData_row _ _ _ _ _ _ hc0
 clear hc0;have mixed:=L.mixed;have t72:=L.t72;have a72:=L.a72;have z72:=L.z72;have v72:=L.v72;have u72:=run_underlying L.t72;have t70:=L.t70;have a70:=L.a70;have z70:=L.z70;have v70:=L.v70;have u70:=run_underlying L.t70;have t37:=L.t37;have a37:=L.a37;have z37:=L.z37;have v37:=L.v37;have u37:=run_underlying L.t37;have t127:=L.t127;have a127:=L.a127;have z127:=L.z127;have v127:=L.v127;have u127:=run_underlying L.t127;have t3:=L.t3;have a3:=L.a3;have z3:=L.z3;have v3:=L.v3;have u3:=run_underlying L.t3;have t9:=L.t9;have a9:=L.a9;have z9:=L.z9;have v9:=L.v9;have u9:=run_underlying L.t9;have t5:=X.t5;have a5:=X.a5;have z5:=X.z5;have v5:=X.v5;have u5:=run_underlying X.t5
 go_enter L.f169,Body.n169_ntmps ρ
 go_wp2
 go_region_o
 all_goals (go_wp2;go_ret;exact⟨rfl,Kept.refl k w⟩)
set_option maxHeartbeats 2000000 in
set_option maxRecDepth 100000 in
theorem zGw(L:Lays.n169 P ρ)(X:Builder.Extra P ρ)(b off g cap:Nat)(cur:Array Value)(l:List UInt8)(w:World)(h0:l≠[])(hcap:l.length<=cap)(hcs:cur.size=cap)(hcm:cap<=maxLen)(c0:w.cell? ⟨b,off+1,none⟩=some (.slice (some ⟨g,0,none⟩) l.length cap))(hg:w.heap[g]? =some (.cells cur (ρ.t 5) (0,0)))
  (hcur: ∀(j:Nat) (x:UInt8),l[j]? =some x->cur[j]? =some (.int .u8 x.toNat)):
  Calls P (ρ.f 169) #[.pointer (some ⟨b,off,none⟩)] w λe w'=>e= .returned (.string ⟨l.toArray⟩)/\Kept g w w':=by
 have hl0:l.length≠0:=by simpa using h0
 have c1:w.drew.cell? ⟨b,off+1,none⟩=some (.slice (some ⟨g,0,none⟩) l.length cap):=c0
 have hSD:(Builtin.unsafeSliceData_ #[(ρ.t 37)] (ρ.t 127) #[.slice (some ⟨g,0,none⟩) l.length cap]).run P w.drew= .ok (.pointer (some ⟨g,0,none⟩)) w.drew:=
  Lib.run_unsafeSliceData_row _ _ _ _ _ _ (by omega)
 have hUS:(Builtin.unsafeString_ #[(ρ.t 127),(ρ.t 3)] (ρ.t 9) #[.pointer (some ⟨g,0,none⟩),.int .i64 l.length]).run P w.drew= .ok (.string ⟨l.toArray⟩) (w.drew.freeze ⟨g,0,none⟩ l.length):=by
  refine Lib.run_unsafeString_row w.drew (ρ.t 127) (ρ.t 3) (ρ.t 9) (ρ.t 5) L.t127 X.cellsByte g cur.size (by have hg':w.drew.heap[g]? =some (.cells cur (ρ.t 5) (0,0)):=hg;simp[World.shape?,hg']) l h0 (by omega) (by rw[maxLen_eq]at hcm;omega) ?_
  intro j x hx;have h3:=hcur j x hx;rw[zgN,Nat.zero_add];have hg':w.drew.heap[g]? =some (.cells cur (ρ.t 5) (0,0)):=hg;unfold World.cell?;rw[hg'];simp only[Option.isSome_none,qz2,yA];exact h3
 have mixed:=L.mixed;have t72:=L.t72;have a72:=L.a72;have z72:=L.z72;have v72:=L.v72;have u72:=run_underlying L.t72;have t70:=L.t70;have a70:=L.a70;have z70:=L.z70;have v70:=L.v70;have u70:=run_underlying L.t70;have t37:=L.t37;have a37:=L.a37;have z37:=L.z37;have v37:=L.v37;have u37:=run_underlying L.t37;have t127:=L.t127;have a127:=L.a127;have z127:=L.z127;have v127:=L.v127;have u127:=run_underlying L.t127;have t3:=L.t3;have a3:=L.a3;have z3:=L.z3;have v3:=L.v3;have u3:=run_underlying L.t3;have t9:=L.t9;have a9:=L.a9;have z9:=L.z9;have v9:=L.v9;have u9:=run_underlying L.t9;have t5:=X.t5;have a5:=X.a5;have z5:=X.z5;have v5:=X.v5;have u5:=run_underlying X.t5
 go_enter L.f169,Body.n169_ntmps ρ
 go_wp2
 go_region_o
 all_goals (go_wp2;go_ret;exact⟨rfl,(Kept.refl g w).drew.freeze _⟩)
end
section
variable (Y:Tys) (P:Program)
def zLF(n:Nat):List Nat->Bool
 | []=>false
 |a::r=>Nat.beq a n||zLF n r
def zLp(tB:TypeId):Callee Y where
 run {R} args ms k:=match args with
  | [.ptr j off]=>match ms[j]? with
   |some (.cells ty l)=>bif zLF off (Y.bld ty)&&(Nat.blt off l.length&&liesAt P P.depth ty (l.length/P.cellsOf ty) off tB 1)then k (.ret (.tup [])) (ms.set j (.cells ty (l.set off .junk)))else none
   |_=>none
  |_=>none
 keep:=[]
 shs:=[⟨[(0,.junk)],[]⟩]
def zNg(t5:TypeId):Callee Y where
 run {R} args ms k:=match args with
  | [.ptr j off]=>match ms[j]? with
   |some (.cells _ l)=>match l[off+1]? with
    |some (.own q)=>match ms[q]? with
     |some (.arr _ _)=>(match zwW Y.byt ms (.own q)with
      |some xs=>bif Nat.beq Y.byt t5 then k (.ret (.v (.string ⟨⟨cast (congrArg List Y.isB) xs⟩⟩))) (ms.set q .gone)else none
      |none=>none)
     |_=>none
    |some (.v (.slice none 0 0))=>k (.ret (.v (.string ⟨⟨[]⟩⟩))) ms
    |_=>none
   |_=>none
  |_=>none
 keep:=[]
 shs:=[⟨[(0,.junk)],[]⟩]
end
section
variable {Y:Tys} {hY:zb8 Y} {P:Program} {N:Nat} {w0:World} {F0:Heap} {D:Own} {H:List (Option Nat)} {w w':World} {F F':Heap} {ρ ρ':List Pl} {os os':List (Option Obj)} {s s':Sy Y.T} {a a':Act} {G:Heap->Prop}
theorem zKH{n:Nat}: ∀{l:List Nat},zLF n l=true->n∈l
 | [],h=>by cases h
 |a::r,h=>by
  simp only[zLF,yQ]at h;rcases h with h|h
  ·rw[yC h];exact qz7
  ·exact qz8 _ (zKH h)
theorem begins{ms:List (Mem Y.T)}(hml:ms.length=ρ.length)(hol:os.length=ρ.length)
  (hm: ∀(k:Nat) (x:Mem Y.T) (p:Pl) (o:Option Obj),ms[k]? =some x->ρ[k]? =some p->os[k]? =some o->zen hY F ρ x p o) (hst:Gw.St w F D w F (pts ρ os)):Cy hY 0 w F D [] w F ρ os ⟨[],ms⟩ ⟨#[],[]⟩:=
 ⟨⟨rfl,rfl,λt x hx=>by cases hx⟩,hml,hol,hm,hst,λk b hb=>by simp at hb,Nat.zero_le _⟩
theorem zad.zMJ{l:List (AV Y.T)}{vs:List Value}(r:zad Y F ρ l vs)(i:Nat):zad Y F ρ (l.set i .junk) vs:=
 ⟨by simp[r.1],λj x u hx hu=>by
  rw[yR]at hx;split at hx
  ·split at hx
   ·cases hx;exact .junk
   ·cases hx
  ·exact r.2 j x u hx hu⟩
theorem zPd{σ:Ren}(L:Lays.n240 P σ)(X:Builder.X72 P σ)(hc:zfp P (σ.f 240)):COk hY P G (σ.f 240) (zLp Y P (σ.t 72)):=by
 refine⟨hc,λ{R} args ms r k e w F ρ os vals D hGF hargs hml hol hm hst=>?_⟩;have h0:=begins hml hol hm hst;simp only[zLp]at e;split at e
 ·rename_i j off;split at e
  ·rename_i ty l hj;obtain⟨hcond,e⟩:=zbh e;simp only[qz4]at hcond;obtain⟨hb,hlt,hlies⟩:=hcond;have hb:=zKH hb;have hlt:off<l.length:=yD hlt;obtain⟨u,vr,rfl,hu,hvr⟩:=hargs.inv;rw[hvr.zg2];cases hu with
   | @ptr _ _ p hp=>
   obtain⟨p',o',hp',ho',hmr⟩:=h0.at hj;rw[hp]at hp';cases hp';obtain⟨vs,hr,rfl,hbo⟩:=hmr;have hblk:=h0.blk hp ho';have hlv:off<vs.length:=by rw[hr.1];exact hlt
   have stay: ∀(k:Nat) (ty2:TypeId) (l2:List (AV Y.T)) (q:Pl),ms[k]? =some (.cells ty2 l2)->ρ[k]? =some q->(∃ty' l',(ms.set j (.cells ty (l.set off .junk)))[k]? =some (.cells ty' l'))/\∃p',ρ[k]? =some p'/\p'.blk=q.blk:=λk ty2 l2 q h1 h2=>by
    refine⟨?_,q,h2,rfl⟩;rw[yR];split
    ·rename_i ejk;subst ejk;rw[yL (qz0 h1).1];exact⟨_,_,rfl⟩
    ·exact⟨_,_,h1⟩
   have ht:Rel Y F ρ (.tup []) (.tuple #[]):= .tup (vs:=[]) rfl (λ_ _ _ h=>by simp at h);rcases hbo off hb with hv|hv
   ·
    have hcell:w.cell? ⟨p.blk,off,none⟩=some (.pointer none):=cell_of_heap hblk hv
    have hsh:w.shape? p.blk=some (ty,l.length):=by
     unfold World.shape?;rw[hblk];simp[hr.1]
    have hfz:w.frozen? ⟨p.blk,off,none⟩=false:=by
     unfold World.frozen?;rw[hblk];simp
    refine(zMZ L X p.blk off ty l.length w hcell hsh hlt hlies hfz).mono λen w' hh=>?_
    obtain⟨rfl,rfl⟩:=hh;have e1:w.setCell ⟨p.blk,off,none⟩ (.pointer (some ⟨p.blk,off,none⟩))=w.setCells p.blk off [.pointer (some ⟨p.blk,off,none⟩)]:=rfl;rw[e1];obtain⟨q1,q2,q3,q4,q5⟩:=zkf p.blk [.pointer (some ⟨p.blk,off,none⟩)] off w;have q6:=zhI p.blk [.pointer (some ⟨p.blk,off,none⟩)] off w _ hblk (by simp;omega)
    have hrj:=hr.zMJ off
    have hr2:zad Y F ρ (l.set off .junk) (vs.take off++([.pointer (some ⟨p.blk,off,none⟩)]++vs.drop (off+1))):=by
     refine⟨by simp[hr.1];omega,λi x v hx hv2=>?_⟩
     by_cases hio:i=off
     ·subst hio;rw[yR,yL rfl,yL hlt]at hx;cases hx;exact .junk
     ·refine hrj.2 i x v hx ?_;rw[<-hv2];rcases Nat.lt_or_gt_of_ne hio with h1|h1
      ·rw[yF (by simp;omega),List.getElem?_take,yL h1]
      ·rw[yG (by simp;omega),yG (by simp;omega),List.getElem?_drop]
       congr 1;simp;omega
    have hbo2:zzw (Y.bld ty) p (vs.take off++([.pointer (some ⟨p.blk,off,none⟩)]++vs.drop (off+1))):=λb hb2=>by
     by_cases hio:b=off
     ·subst hio;right;have hl:(vs.take b).length=b:=by rw[List.length_take];omega
      rw[yG (by omega),hl,Nat.sub_self];rfl
     ·have:(vs.take off++([.pointer (some ⟨p.blk,off,none⟩)]++vs.drop (off+1)))[b]? =vs[b]? :=by
       rcases Nat.lt_or_gt_of_ne hio with h1|h1
       ·rw[yF (by simp;omega),List.getElem?_take,yL h1]
       ·rw[yG (by simp;omega),yG (by simp;omega),List.getElem?_drop]
        congr 1;simp;omega
      rw[this];exact hbo b hb2
    have h2:=h0.setCells (w':=w.setCells p.blk off [.pointer (some ⟨p.blk,off,none⟩)]) (ty':=ty) (cs':=l.set off .junk) hj hp ho' hr2 hbo2 q1 q2 q3 q4 (by simpa using q6) q5;exact⟨_,F,ρ,_,_,e,.ret ht,h2.len,h2.lon,h2.mem,h2.st,yJ _,stay⟩
   ·
    have hcell:w.cell? ⟨p.blk,off,none⟩=some (.pointer (some ⟨p.blk,off,none⟩)):=cell_of_heap hblk hv;refine(zN1 L X p.blk off w hcell).mono λen w' hh=>?_
    obtain⟨rfl,rfl⟩:=hh;refine⟨_,F,ρ,os,_,e,.ret ht,by simp[hml],hol,λi x q o h1 h2 h3=>?_,hst,yJ _,stay⟩;rw[yR]at h1;split at h1
    ·rename_i ejk;subst ejk;split at h1
     ·cases h1;rw[hp]at h2;cases h2;rw[ho']at h3;cases h3;exact⟨vs,hr.zMJ off,rfl,hbo⟩
     ·cases h1
    ·exact hm i x q o h1 h2 h3
  ·cases e
 ·cases e
def gOf(o:Option Obj)(p:Pl)(w:World):Nat:=match o with
 |some _=>p.blk
 |none=>w.heap.size
theorem zPV{L:List SP}(h:Gw.St w0 F0 D w F L)(k:Kept w.heap.size w w'):Gw.St w0 F0 D w' F L:=by
 obtain⟨k1,k2,k3,k4,k5⟩:=k
 have sub: ∀{g:Heap},g.Sub w->g.Sub w':=λ{g} hg=>⟨λx o e=>by
  have hlt:=hg.lt e;rw[k5 x hlt (Nat.ne_of_lt hlt)];exact hg.out x o e⟩
 obtain⟨x,a,s1,f,d⟩:=h.own
 exact⟨k1.trans h.os,k2.trans h.tape,k3.trans h.output,Nat.le_trans h.size k4,λb hb hD=>by
  rw[k5 b (Nat.lt_of_lt_of_le hb h.size) (Nat.ne_of_lt (Nat.lt_of_lt_of_le hb h.size))];exact h.frame b hb hD,h.le,h.new,sub h.view,x,a,sub s1,f,d⟩
theorem Cy.drop(h:Cy hY N w0 F0 D H w F ρ os s a){q:Nat}{p:Pl}{o:Option Obj}{e:Nat}{xs:List (Y.T e)}(hq:s.m[q]? =some (.arr e xs))(hp:ρ[q]? =some p)(ho:os[q]? =some o)
  (hk:Kept (gOf o p w) w w'):Cy hY N w0 F0 D H w' F ρ (os.set q none) ⟨s.l,s.m.set q .gone⟩ a:=by
 refine⟨h.e,by simp[h.len],by simp[h.lon],λj y r t h1 h2 h3=>?_,?_,λj b e=>⟨(h.fix j b e).1,λy h2=>?_⟩,h.long⟩
 ·rw[yR]at h1 h3;split at h1
  ·rename_i hj;subst hj;split at h1
   ·cases h1;trivial
   ·cases h1
  ·rename_i hj;rw[yK hj]at h3;exact h.mem j y r t h1 h2 h3
 ·rw[zu6 hp];refine h.st.replace (A1:=zqn p none) (znL hp ho) λg0 hg0 hs0=>?_
  cases o with
  |none=>
   obtain⟨k1,k2,k3,k4,k5⟩:=hk;exact⟨k1,k2,k3,k4,λx hx _=>k5 x hx (Nat.ne_of_lt hx),Heap.nil,rfl,⟨λ_ _ e=>by cases e⟩,λ_ _ e=>by cases e⟩
  |some ob=>
   obtain⟨k1,k2,k3,k4,k5⟩:=hk;refine⟨k1,k2,k3,k4,λx hx hx0=>k5 x hx λex=>?_,Heap.nil,rfl,⟨λ_ _ e=>by cases e⟩,λ_ _ e=>by cases e⟩;subst ex;have hg0:g0=Heap.one p.blk ob:=hg0;have h9:Heap.one p.blk ob p.blk=none:=by rw[<-hg0];exact hx0
   rw[Heap.zfs]at h9;cases h9
 ·rw[yR]at h2;split at h2
  ·split at h2<;>cases h2
   rfl
  ·exact(h.fix j b e).2 y h2
theorem zEB{β:Type}(hb:β=UInt8)(l:List β):cast (congrArg List hb) l=l.map (cast hb):=by subst hb;show l=l.map id;simp
theorem zQx{σ:Ren}(L:Lays.n169 P σ)(X:Builder.Extra P σ)(hc:zfp P (σ.f 169))(hsz:Y.sz Y.byt=1):COk hY P G (σ.f 169) (zNg Y (σ.t 5)):=by
 refine⟨hc,λ{R} args ms r k e w F ρ os vals D hGF hargs hml hol hm hst=>?_⟩;have h0:=begins hml hol hm hst;simp only[zNg]at e;split at e
 ·rename_i j off;obtain⟨u,vr,rfl,hu,hvr⟩:=hargs.inv;rw[hvr.zg2];cases hu with
  | @ptr _ _ p hp=>
  split at e
  ·rename_i ty l hj;obtain⟨p',o',hp',ho',hmr⟩:=h0.at hj;rw[hp]at hp';cases hp';obtain⟨vs,hr,rfl,hbo⟩:=hmr;have hblk:=h0.blk hp ho';split at e
   ·rename_i q hq;split at e
    ·rename_i e1 xs1 hmq;split at e
     ·rename_i xs hxs;obtain⟨hb5,e⟩:=zbh e;have hb5:=yC hb5;obtain⟨pq,oq,hpq,hoq,hmrq⟩:=h0.at hmq;obtain⟨uq,huq,hrq⟩:=hr.get hq;cases hrq with
      | @own _ pl2 hpl2=>
      rw[hpq]at hpl2;cases hpl2;obtain⟨hmpq,hn,hmrq⟩:=hmrq;have hcell:w.cell? ⟨p.blk,off+1,none⟩=some (.slice pq.A pq.n pq.c):=by rw[<-Pl.zsS hmpq];exact cell_of_heap hblk huq
      have hxe: ∃he:e1=Y.byt,he▸xs1=xs:=by
       simp only[zwW,hmq]at hxs;split at hxs
       ·rename_i he;exact⟨he,yS hxs⟩
       ·cases hxs
      obtain⟨he,hxs2⟩:=hxe;subst he;simp only at hxs2;subst hxs2
      have fin: ∀{w':World} {s:Str},s=cast (congrArg List Y.isB) xs1->Kept (gOf oq pq w) w w'->∃res F' ρ' os' ms',k res ms'=some r/\zvm Y F' ρ' res (.returned (.string ⟨⟨s⟩⟩))/\ms'.length=ρ'.length/\os'.length=ρ'.length/\
        (∀(k:Nat) (x:Mem Y.T) (p:Pl) (o:Option Obj),ms'[k]? =some x->ρ'[k]? =some p->os'[k]? =some o->zen hY F' ρ' x p o)/\Gw.St w F D w' F' (pts ρ' os')/\ρ.length<=ρ'.length/\
        ∀(k:Nat) (ty:TypeId) (l:List (AV Y.T)) (p:Pl),ms[k]? =some (.cells ty l)->ρ[k]? =some p->(∃ty' l',ms'[k]? =some (.cells ty' l'))/\∃p',ρ'[k]? =some p'/\p'.blk=p.blk:=λ{w' s} hs hk=>by
       subst hs;have h2:=h0.drop (w':=w') hmq hpq hoq hk;refine⟨_,F,ρ,_,_,e,.ret .v,h2.len,h2.lon,h2.mem,h2.st,yJ _,λi ty2 l2 q2 h3 h4=>⟨?_,q2,h4,rfl⟩⟩;show∃ty' l',(ms.set q .gone)[i]? =some (.cells ty' l');rw[yR];split
       ·rename_i eqi;subst eqi;rw[hmq]at h3;cases h3
       ·exact⟨_,_,h3⟩
      rcases hmrq with⟨hA,hcc,hx0,rfl⟩| ⟨cs,hA,rfl,hlc,hcm,hcs,hrow⟩
      ·subst hx0;rw[hA,hcc,hn]at hcell
       exact(zyU L X p.blk off w.heap.size w hcell).mono λen w' hh=>by
        obtain⟨rfl,hk⟩:=hh;exact fin (w':=w') (s:=[]) (by rw[zEB Y.isB];rfl) hk
      ·have hbq:=h0.blk hpq hoq;rw[hA,hn]at hcell;rw[hb5]at hbq;by_cases hx0:xs1=[]
       ·subst hx0;by_cases hc0:pq.c=0
        ·rw[hc0]at hcell
         exact(zDD L X p.blk off pq.blk pq.blk cs w (Array.getElem?_eq_some_iff.1 hblk).1 hcell hbq).mono λen w' hh=>by
          obtain⟨rfl,hk⟩:=hh;exact fin (w':=w') (s:=[]) (by rw[zEB Y.isB];rfl) hk
        ·exact(zEE L X p.blk off pq.blk pq.blk pq.c w hc0 hcell).mono λen w' hh=>by
          obtain⟨rfl,hk⟩:=hh;exact fin (w':=w') (s:=[]) (by rw[zEB Y.isB];rfl) hk
       ·have hln:(cast (congrArg List Y.isB) xs1).length=xs1.length:=by rw[zEB Y.isB];simp
        rw[<-hln]at hcell
        exact(zGw L X p.blk off pq.blk pq.c cs (cast (congrArg List Y.isB) xs1) w (λh=>hx0 (List.length_eq_zero_iff.1 (by rw[<-hln,h];rfl))) (by rw[hln];exact hlc) (by rw[hcs,hsz,Nat.mul_one]) hcm hcell hbq (λi x hx=>by
         rw[zEB Y.isB,List.getElem?_map]at hx;cases hy:xs1[i]? with
         |none=>rw[hy]at hx;cases hx
         |some y=>
          rw[hy]at hx;obtain⟨us,u1,u2⟩:=hrow i y hy;have u1:zad Y F [] (Y.cells Y.byt y) us:=u1;rw[hY.byte]at u1;obtain⟨u,ur,rfl,r1,r2⟩:=u1.inv;have h3:=u2 0 u rfl
          have h4:cs.toList[i]? =some u:=by
           have:i*(kR hY Y.byt).sz+0=i:=by show i*Y.sz Y.byt+0=i;rw[hsz,Nat.mul_one,Nat.add_zero]
           rw[this]at h3;exact h3
          rw[Array.getElem?_toList]at h4;rw[h4,r1.zcl];cases hx;rfl)).mono λen w' hh=>by
         obtain⟨rfl,hk⟩:=hh;exact fin (w':=w') (s:=cast (congrArg List Y.isB) xs1) rfl hk
     ·cases e
    ·cases e
   ·rename_i hq;obtain⟨uq,huq,hrq⟩:=hr.get hq;cases hrq;have hcell:w.cell? ⟨p.blk,off+1,none⟩=some (.slice none 0 0):=cell_of_heap hblk huq
    exact(zyU L X p.blk off w.heap.size w hcell).mono λen w' hh=>by
     obtain⟨rfl,hk⟩:=hh;exact⟨_,F,ρ,os,ms,e,.ret .v,hml,hol,hm,zPV hst hk,yJ _,λi ty2 l2 q2 h3 h4=>⟨⟨_,_,h3⟩,q2,h4,rfl⟩⟩
   ·cases e
  ·cases e
 ·cases e
end
end Go.Dn
namespace Go.D08
open Go Go.Gw Go.Dn Go.RowKit
structure zf where
 Kind:Int
 Name:Str
 Num:Int
 Text:Str
 Names:List Str
 L:List zf
structure zl where
 Kind:Int
 Text:Str
 Num:Int
 At:Int
 Fresh:Bool
structure zaD where
 src:Str
 rest:Str
 fresh:Bool
structure zk where
 t:List zl
 no:Bool
structure zey where
 name:Str
 num:Int
 text:Bool
 names:Bool
 l:Str
structure zg where
 t:List zl
 at_:Int
 bad:Bool
inductive KD where
 |k9
 |k25
 |k36
 |k69
 |k5
 |k48
 |k93
 |k3
 |k53
 |no
def kd:Nat->KD
 |9=> .k9
 |25=> .k25
 |36=> .k36
 |69=> .k69
 |5=> .k5
 |48=> .k48
 |93=> .k93
 |3=> .k3
 |53=> .k53
 |_=> .no
def TK:KD->Type
 | .k9=>Str
 | .k25=>zf
 | .k36=>zl
 | .k69=>zaD
 | .k5=>UInt8
 | .k48=>zk
 | .k93=>zey
 | .k3=>Int
 | .k53=>zg
 | .no=>Unit
def TT(e:Nat):Type:=TK (kd e)
def szK:KD->Nat
 | .k9=>1
 | .k25=>6
 | .k36=>5
 | .k69=>3
 | .k5=>1
 | .k48=>2
 | .k93=>5
 | .k3=>1
 | .k53=>3
 | .no=>0
def zje:(k:KD)->TK k->List (AV TT)
 | .k9,(x:Str)=>[.v (.string ⟨⟨x⟩⟩)]
 | .k25,(x:zf)=>[.v (.int .i64 x.Kind),.v (.string ⟨⟨x.Name⟩⟩),.v (.int .i64 x.Num),.v (.string ⟨⟨x.Text⟩⟩),.sl 9 x.Names,.sl 25 x.L]
 | .k36,(x:zl)=>[.v (.int .i64 x.Kind),.v (.string ⟨⟨x.Text⟩⟩),.v (.int .i64 x.Num),.v (.int .i64 x.At),.v (.bool x.Fresh)]
 | .k69,(x:zaD)=>[.v (.string ⟨⟨x.src⟩⟩),.v (.string ⟨⟨x.rest⟩⟩),.v (.bool x.fresh)]
 | .k5,(x:UInt8)=>[.v (.int .u8 (x.toNat:Int))]
 | .k48,(x:zk)=>[.sl 36 x.t,.v (.bool x.no)]
 | .k93,(x:zey)=>[.v (.string ⟨⟨x.name⟩⟩),.v (.int .i64 x.num),.v (.bool x.text),.v (.bool x.names),.v (.string ⟨⟨x.l⟩⟩)]
 | .k3,(x:Int)=>[.v (.int .i64 x)]
 | .k53,(x:zg)=>[.sl 36 x.t,.v (.int .i64 x.at_),.v (.bool x.bad)]
 | .no,_=>[]
def zCL:List (AV TT)->Option Str
 | [a0]=>Option.bind (cStr a0) λx0=>some (x0:Str)
 |_=>none
def zmp:List (AV TT)->Option zf
 | [a0,a1,a2,a3,a4,a5]=>Option.bind (zxL .i64 a0) λx0=>Option.bind (cStr a1) λx1=>Option.bind (zxL .i64 a2) λx2=>Option.bind (cStr a3) λx3=>Option.bind (cSl 9 a4) λx4=>Option.bind (cSl 25 a5) λx5=>some (⟨x0,x1,x2,x3,x4,x5⟩:zf)
 |_=>none
def znK:List (AV TT)->Option zl
 | [a0,a1,a2,a3,a4]=>Option.bind (zxL .i64 a0) λx0=>Option.bind (cStr a1) λx1=>Option.bind (zxL .i64 a2) λx2=>Option.bind (zxL .i64 a3) λx3=>Option.bind (zwn a4) λx4=>some (⟨x0,x1,x2,x3,x4⟩:zl)
 |_=>none
def zrB:List (AV TT)->Option zaD
 | [a0,a1,a2]=>Option.bind (cStr a0) λx0=>Option.bind (cStr a1) λx1=>Option.bind (zwn a2) λx2=>some (⟨x0,x1,x2⟩:zaD)
 |_=>none
def zCw:List (AV TT)->Option UInt8
 | [a0]=>Option.bind (zLn a0) λx0=>some (x0:UInt8)
 |_=>none
def zux:List (AV TT)->Option zk
 | [a0,a1]=>Option.bind (cSl 36 a0) λx0=>Option.bind (zwn a1) λx1=>some (⟨x0,x1⟩:zk)
 |_=>none
def znN:List (AV TT)->Option zey
 | [a0,a1,a2,a3,a4]=>Option.bind (cStr a0) λx0=>Option.bind (zxL .i64 a1) λx1=>Option.bind (zwn a2) λx2=>Option.bind (zwn a3) λx3=>Option.bind (cStr a4) λx4=>some (⟨x0,x1,x2,x3,x4⟩:zey)
 |_=>none
def zB8:List (AV TT)->Option Int
 | [a0]=>Option.bind (zxL .i64 a0) λx0=>some (x0:Int)
 |_=>none
def zrW:List (AV TT)->Option zg
 | [a0,a1,a2]=>Option.bind (cSl 36 a0) λx0=>Option.bind (zxL .i64 a1) λx1=>Option.bind (zwn a2) λx2=>some (⟨x0,x1,x2⟩:zg)
 |_=>none
def zH8:(k:KD)->List (AV TT)->Option (TK k)
 | .k9,l=>zCL l
 | .k25,l=>zmp l
 | .k36,l=>znK l
 | .k69,l=>zrB l
 | .k5,l=>zCw l
 | .k48,l=>zux l
 | .k93,l=>znN l
 | .k3,l=>zB8 l
 | .k53,l=>zrW l
 | .no,l=>match l with| []=>some ()|_=>none
def ktK:KD->Option (Option IntKind)
 | .k9=>some none
 | .k5=>some (some .u8)
 | .k3=>some (some .i64)
 |_=>none
def zTv:KD->Bool
 | .k25=>true
 | .k36=>true
 | .k69=>true
 | .k48=>true
 | .k93=>true
 | .k53=>true
 |_=>false
def zTT:Nat->List Nat
 |84=>[0]
 |85=>[0]
 |133=>[1]
 |134=>[1]
 |_=>[]
def Y:Tys where
 T:=TT
 sz e:=szK (kd e)
 cells e x:=zje (kd e) x
 close e l:=zH8 (kd e) l
 byt:=5
 isB:=rfl
 bld:=zTT
 kt e:=ktK (kd e)
 row e:=zTv (kd e)
theorem zT8{F:Heap}{ρ:List Pl}: ∀{l:List (AV Y.T)} {x:Str} {vs:List Value},zCL l=some x->zad Y F ρ l vs->zad Y F ρ (zje .k9 x) vs
 | [a0],x,vs,h,r=>by
  simp only[zCL]at h;obtain⟨x0,h0,h⟩:=zaS h;cases h;obtain⟨u0,vs,rfl,q0,r⟩:=r.inv;rw[r.zg2];exact(zad.cons (zpa h0 q0) zad.nil)
 | [],x,vs,h,r=>by simp[zCL]at h
 |_::_::_,x,vs,h,r=>by simp[zCL]at h
theorem zTM{F:Heap}{ρ:List Pl}: ∀{l:List (AV Y.T)} {x:zf} {vs:List Value},zmp l=some x->zad Y F ρ l vs->zad Y F ρ (zje .k25 x) vs
 | [a0,a1,a2,a3,a4,a5],x,vs,h,r=>by
  simp only[zmp]at h;obtain⟨x0,h0,h⟩:=zaS h;obtain⟨x1,h1,h⟩:=zaS h;obtain⟨x2,h2,h⟩:=zaS h;obtain⟨x3,h3,h⟩:=zaS h;obtain⟨x4,h4,h⟩:=zaS h;obtain⟨x5,h5,h⟩:=zaS h;cases h;obtain⟨u0,vs,rfl,q0,r⟩:=r.inv;obtain⟨u1,vs,rfl,q1,r⟩:=r.inv;obtain⟨u2,vs,rfl,q2,r⟩:=r.inv;obtain⟨u3,vs,rfl,q3,r⟩:=r.inv;obtain⟨u4,vs,rfl,q4,r⟩:=r.inv;obtain⟨u5,vs,rfl,q5,r⟩:=r.inv;rw[r.zg2];exact(zad.cons (zpr h0 q0) (zad.cons (zpa h1 q1) (zad.cons (zpr h2 q2) (zad.cons (zpa h3 q3) (zad.cons (zFx h4 q4) (zad.cons (zFx h5 q5) zad.nil))))))
 | [],x,vs,h,r=>by simp[zmp]at h
 | [_],x,vs,h,r=>by simp[zmp]at h
 | [_,_],x,vs,h,r=>by simp[zmp]at h
 | [_,_,_],x,vs,h,r=>by simp[zmp]at h
 | [_,_,_,_],x,vs,h,r=>by simp[zmp]at h
 | [_,_,_,_,_],x,vs,h,r=>by simp[zmp]at h
 |_::_::_::_::_::_::_::_,x,vs,h,r=>by simp[zmp]at h
theorem zTZ{F:Heap}{ρ:List Pl}: ∀{l:List (AV Y.T)} {x:zl} {vs:List Value},znK l=some x->zad Y F ρ l vs->zad Y F ρ (zje .k36 x) vs
 | [a0,a1,a2,a3,a4],x,vs,h,r=>by
  simp only[znK]at h;obtain⟨x0,h0,h⟩:=zaS h;obtain⟨x1,h1,h⟩:=zaS h;obtain⟨x2,h2,h⟩:=zaS h;obtain⟨x3,h3,h⟩:=zaS h;obtain⟨x4,h4,h⟩:=zaS h;cases h;obtain⟨u0,vs,rfl,q0,r⟩:=r.inv;obtain⟨u1,vs,rfl,q1,r⟩:=r.inv;obtain⟨u2,vs,rfl,q2,r⟩:=r.inv;obtain⟨u3,vs,rfl,q3,r⟩:=r.inv;obtain⟨u4,vs,rfl,q4,r⟩:=r.inv;rw[r.zg2];exact(zad.cons (zpr h0 q0) (zad.cons (zpa h1 q1) (zad.cons (zpr h2 q2) (zad.cons (zpr h3 q3) (zad.cons (zrF h4 q4) zad.nil)))))
 | [],x,vs,h,r=>by simp[znK]at h
 | [_],x,vs,h,r=>by simp[znK]at h
 | [_,_],x,vs,h,r=>by simp[znK]at h
 | [_,_,_],x,vs,h,r=>by simp[znK]at h
 | [_,_,_,_],x,vs,h,r=>by simp[znK]at h
 |_::_::_::_::_::_::_,x,vs,h,r=>by simp[znK]at h
theorem zTL{F:Heap}{ρ:List Pl}: ∀{l:List (AV Y.T)} {x:zaD} {vs:List Value},zrB l=some x->zad Y F ρ l vs->zad Y F ρ (zje .k69 x) vs
 | [a0,a1,a2],x,vs,h,r=>by
  simp only[zrB]at h;obtain⟨x0,h0,h⟩:=zaS h;obtain⟨x1,h1,h⟩:=zaS h;obtain⟨x2,h2,h⟩:=zaS h;cases h;obtain⟨u0,vs,rfl,q0,r⟩:=r.inv;obtain⟨u1,vs,rfl,q1,r⟩:=r.inv;obtain⟨u2,vs,rfl,q2,r⟩:=r.inv;rw[r.zg2];exact(zad.cons (zpa h0 q0) (zad.cons (zpa h1 q1) (zad.cons (zrF h2 q2) zad.nil)))
 | [],x,vs,h,r=>by simp[zrB]at h
 | [_],x,vs,h,r=>by simp[zrB]at h
 | [_,_],x,vs,h,r=>by simp[zrB]at h
 |_::_::_::_::_,x,vs,h,r=>by simp[zrB]at h
theorem zUc{F:Heap}{ρ:List Pl}: ∀{l:List (AV Y.T)} {x:UInt8} {vs:List Value},zCw l=some x->zad Y F ρ l vs->zad Y F ρ (zje .k5 x) vs
 | [a0],x,vs,h,r=>by
  simp only[zCw]at h;obtain⟨x0,h0,h⟩:=zaS h;cases h;obtain⟨u0,vs,rfl,q0,r⟩:=r.inv;rw[r.zg2];exact(zad.cons (zOq h0 q0) zad.nil)
 | [],x,vs,h,r=>by simp[zCw]at h
 |_::_::_,x,vs,h,r=>by simp[zCw]at h
theorem zTx{F:Heap}{ρ:List Pl}: ∀{l:List (AV Y.T)} {x:zk} {vs:List Value},zux l=some x->zad Y F ρ l vs->zad Y F ρ (zje .k48 x) vs
 | [a0,a1],x,vs,h,r=>by
  simp only[zux]at h;obtain⟨x0,h0,h⟩:=zaS h;obtain⟨x1,h1,h⟩:=zaS h;cases h;obtain⟨u0,vs,rfl,q0,r⟩:=r.inv;obtain⟨u1,vs,rfl,q1,r⟩:=r.inv;rw[r.zg2];exact(zad.cons (zFx h0 q0) (zad.cons (zrF h1 q1) zad.nil))
 | [],x,vs,h,r=>by simp[zux]at h
 | [_],x,vs,h,r=>by simp[zux]at h
 |_::_::_::_,x,vs,h,r=>by simp[zux]at h
theorem zTR{F:Heap}{ρ:List Pl}: ∀{l:List (AV Y.T)} {x:zey} {vs:List Value},znN l=some x->zad Y F ρ l vs->zad Y F ρ (zje .k93 x) vs
 | [a0,a1,a2,a3,a4],x,vs,h,r=>by
  simp only[znN]at h;obtain⟨x0,h0,h⟩:=zaS h;obtain⟨x1,h1,h⟩:=zaS h;obtain⟨x2,h2,h⟩:=zaS h;obtain⟨x3,h3,h⟩:=zaS h;obtain⟨x4,h4,h⟩:=zaS h;cases h;obtain⟨u0,vs,rfl,q0,r⟩:=r.inv;obtain⟨u1,vs,rfl,q1,r⟩:=r.inv;obtain⟨u2,vs,rfl,q2,r⟩:=r.inv;obtain⟨u3,vs,rfl,q3,r⟩:=r.inv;obtain⟨u4,vs,rfl,q4,r⟩:=r.inv;rw[r.zg2];exact(zad.cons (zpa h0 q0) (zad.cons (zpr h1 q1) (zad.cons (zrF h2 q2) (zad.cons (zrF h3 q3) (zad.cons (zpa h4 q4) zad.nil)))))
 | [],x,vs,h,r=>by simp[znN]at h
 | [_],x,vs,h,r=>by simp[znN]at h
 | [_,_],x,vs,h,r=>by simp[znN]at h
 | [_,_,_],x,vs,h,r=>by simp[znN]at h
 | [_,_,_,_],x,vs,h,r=>by simp[znN]at h
 |_::_::_::_::_::_::_,x,vs,h,r=>by simp[znN]at h
theorem zT7{F:Heap}{ρ:List Pl}: ∀{l:List (AV Y.T)} {x:Int} {vs:List Value},zB8 l=some x->zad Y F ρ l vs->zad Y F ρ (zje .k3 x) vs
 | [a0],x,vs,h,r=>by
  simp only[zB8]at h;obtain⟨x0,h0,h⟩:=zaS h;cases h;obtain⟨u0,vs,rfl,q0,r⟩:=r.inv;rw[r.zg2];exact(zad.cons (zpr h0 q0) zad.nil)
 | [],x,vs,h,r=>by simp[zB8]at h
 |_::_::_,x,vs,h,r=>by simp[zB8]at h
theorem zTB{F:Heap}{ρ:List Pl}: ∀{l:List (AV Y.T)} {x:zg} {vs:List Value},zrW l=some x->zad Y F ρ l vs->zad Y F ρ (zje .k53 x) vs
 | [a0,a1,a2],x,vs,h,r=>by
  simp only[zrW]at h;obtain⟨x0,h0,h⟩:=zaS h;obtain⟨x1,h1,h⟩:=zaS h;obtain⟨x2,h2,h⟩:=zaS h;cases h;obtain⟨u0,vs,rfl,q0,r⟩:=r.inv;obtain⟨u1,vs,rfl,q1,r⟩:=r.inv;obtain⟨u2,vs,rfl,q2,r⟩:=r.inv;rw[r.zg2];exact(zad.cons (zFx h0 q0) (zad.cons (zpr h1 q1) (zad.cons (zrF h2 q2) zad.nil)))
 | [],x,vs,h,r=>by simp[zrW]at h
 | [_],x,vs,h,r=>by simp[zrW]at h
 | [_,_],x,vs,h,r=>by simp[zrW]at h
 |_::_::_::_::_,x,vs,h,r=>by simp[zrW]at h
theorem zUh: ∀(k:KD) (q:Option IntKind),ktK k=some q->∀x:TK k,zKU q (zje k x):=by
 intro k q h;cases k<;>first| (cases h;done)| (cases h;intro x;exact⟨_,rfl⟩)
theorem zT1: ∀(k:KD) (x:TK k),(zje k x).length=szK k:=by intro k;cases k<;>intro x<;>rfl
theorem zTy: ∀(k:KD) (x:TK k),AV.frees (zje k x)=true:=by intro k;cases k<;>intro x<;>rfl
theorem zUb: ∀(k:KD) (x:TK k),AV.ones (zje k x)=true:=by intro k;cases k<;>intro x<;>rfl
theorem zUg{F:Heap}{ρ:List Pl}{l:List (AV Y.T)}{vs:List Value}(r:zad Y F ρ l vs): ∀(k:KD) (x:TK k),zH8 k l=some x->zad Y F ρ (zje k x) vs
 | .k9,x,h=>zT8 h r
 | .k25,x,h=>zTM h r
 | .k36,x,h=>zTZ h r
 | .k69,x,h=>zTL h r
 | .k5,x,h=>zUc h r
 | .k48,x,h=>zTx h r
 | .k93,x,h=>zTR h r
 | .k3,x,h=>zT7 h r
 | .k53,x,h=>zTB h r
 | .no,x,h=>by
  cases l with
  |nil=>rw[r.zg2];exact zad.nil
  |cons a l=>simp[zH8]at h
theorem hY:zb8 Y where
 len e x:=zT1 (kd e) x
 free e x:=zTy (kd e) x
 one e x:=zUb (kd e) x
 byte x:=rfl
 fit e l x h F ρ vs r:=zUg r (kd e) x h
 key e q h x:=zUh (kd e) q h x
def zy(x:zf):zf:=⟨x.Kind,x.Name,x.Num,x.Text,x.Names,x.L⟩
@[simp] theorem zt (x:zf):zy x=x:=by cases x;rfl
def zc8(x:zl):zl:=⟨x.Kind,x.Text,x.Num,x.At,x.Fresh⟩
def zfo(x:zaD):zaD:=⟨x.src,x.rest,x.fresh⟩
def zn(x:zk):zk:=⟨x.t,x.no⟩
def zOn(x:zey):zey:=⟨x.name,x.num,x.text,x.names,x.l⟩
@[simp] theorem zUn (x:zey):zOn x=x:=by cases x;rfl
def zq(x:zg):zg:=⟨x.t,x.at_,x.bad⟩
@[simp] theorem zH (x:zg):zq x=x:=by cases x;rfl
theorem hsz:Y.sz Y.byt=1:=rfl
end Go.D08
namespace Go.Proofs
open Go.Shelf
def Tryz.lays169_ren:Go.Shelf.Ren:=⟨λ|169=>54|n=>n,λ|70=>82|9=>9|0=>0|72=>85|37=>83|127=>121|3=>3|5=>5|n=>n,λ|n=>n⟩
theorem Tryz.lays169:Go.Proofs.Lays.n169 Tryz.prog Tryz.lays169_ren:={
 mixed:=by kernel_rfl
 f169:=Tryz.func54.trans (congrArg some (by kernel_rfl))
 t0:=Tryz.underlying0
 a0:=Tryz.isAgg0
 z0:=Tryz.sizeOf0
 v0:=Tryz.zeroValue0
 t3:=Tryz.underlying3
 a3:=Tryz.isAgg3
 z3:=Tryz.sizeOf3
 v3:=Tryz.zeroValue3
 t9:=Tryz.underlying9
 a9:=Tryz.isAgg9
 z9:=Tryz.sizeOf9
 v9:=Tryz.zeroValue9
 t37:=Tryz.underlying83
 a37:=Tryz.isAgg83
 z37:=Tryz.sizeOf83
 v37:=Tryz.zeroValue83
 t70:=Tryz.underlying82
 a70:=Tryz.isAgg82
 z70:=Tryz.sizeOf82
 v70:=Tryz.zeroValue82
 t72:=Tryz.underlying85
 a72:=Tryz.isAgg85
 z72:=Tryz.sizeOf85
 v72:=Tryz.zeroValue85
 t127:=Tryz.underlying121
 a127:=Tryz.isAgg121
 z127:=Tryz.sizeOf121
 v127:=Tryz.zeroValue121}
theorem Tryz.Builder_Extra_169:Builder.Extra Tryz.prog Tryz.lays169_ren:={
 sizeBuilder:=by kernel_rfl
 liesBuilder:=by kernel_rfl
 t5:=Tryz.underlying5
 a5:=Tryz.isAgg5
 z5:=Tryz.sizeOf5
 v5:=Tryz.zeroValue5
 infoByte:=by kernel_rfl
 cellsByte:=by kernel_rfl
 sizeByte:=by kernel_rfl
 neB5:=by decide}
def Tryz.lays165_ren:Go.Shelf.Ren:=⟨λ|165=>52|240=>114|241=>115|276=>156|277=>157|n=>n,λ|70=>82|3=>3|0=>0|4=>4|9=>9|20=>20|72=>85|37=>83|164=>141|5=>5|n=>n,λ|n=>n⟩
theorem Tryz.lays165:Go.Proofs.Lays.n165 Tryz.prog Tryz.lays165_ren:={
 mixed:=by kernel_rfl
 f165:=Tryz.func52.trans (congrArg some (by kernel_rfl))
 f240:=Tryz.func114.trans (congrArg some (by kernel_rfl))
 f241:=Tryz.func115.trans (congrArg some (by kernel_rfl))
 f276:=Tryz.func156.trans (congrArg some (by kernel_rfl))
 f277:=Tryz.func157.trans (congrArg some (by kernel_rfl))
 t0:=Tryz.underlying0
 a0:=Tryz.isAgg0
 z0:=Tryz.sizeOf0
 v0:=Tryz.zeroValue0
 t3:=Tryz.underlying3
 a3:=Tryz.isAgg3
 z3:=Tryz.sizeOf3
 v3:=Tryz.zeroValue3
 t4:=Tryz.underlying4
 a4:=Tryz.isAgg4
 z4:=Tryz.sizeOf4
 v4:=Tryz.zeroValue4
 t9:=Tryz.underlying9
 a9:=Tryz.isAgg9
 z9:=Tryz.sizeOf9
 v9:=Tryz.zeroValue9
 t20:=Tryz.underlying20
 a20:=Tryz.isAgg20
 z20:=Tryz.sizeOf20
 v20:=Tryz.zeroValue20
 t37:=Tryz.underlying83
 a37:=Tryz.isAgg83
 z37:=Tryz.sizeOf83
 v37:=Tryz.zeroValue83
 t70:=Tryz.underlying82
 a70:=Tryz.isAgg82
 z70:=Tryz.sizeOf82
 v70:=Tryz.zeroValue82
 t72:=Tryz.underlying85
 a72:=Tryz.isAgg85
 z72:=Tryz.sizeOf85
 v72:=Tryz.zeroValue85
 t164:=Tryz.underlying141
 a164:=Tryz.isAgg141
 z164:=Tryz.sizeOf141
 v164:=Tryz.zeroValue141}
def Tryz.zJW:Go.Shelf.Ren:=⟨λ|160=>188|232=>205|231=>204|227=>125|234=>207|233=>206|236=>209|235=>208|228=>126|271=>221|151=>220|197=>219|120=>235|152=>123|260=>234|137=>74|119=>158|224=>159|225=>160|217=>132|266=>165|n=>n,λ|9=>9|4=>4|3=>3|5=>5|117=>127|116=>126|0=>0|124=>147|21=>21|105=>182|46=>146|119=>192|139=>195|138=>194|n=>n,λ|3=>4|4=>5|n=>n⟩
theorem Tryz.lays160:Go.Proofs.Lays.n160 Tryz.prog Tryz.zJW:={
 mixed:=by kernel_rfl
 f119:=Tryz.func158.trans (congrArg some (by kernel_rfl))
 f120:=Tryz.func235.trans (congrArg some (by kernel_rfl))
 f137:=Tryz.func74.trans (congrArg some (by kernel_rfl))
 f151:=Tryz.func220.trans (congrArg some (by kernel_rfl))
 f152:=Tryz.func123.trans (congrArg some (by kernel_rfl))
 f160:=Tryz.func188.trans (congrArg some (by kernel_rfl))
 f197:=Tryz.func219.trans (congrArg some (by kernel_rfl))
 f217:=Tryz.func132.trans (congrArg some (by kernel_rfl))
 f224:=Tryz.func159.trans (congrArg some (by kernel_rfl))
 f225:=Tryz.func160.trans (congrArg some (by kernel_rfl))
 f227:=Tryz.func125.trans (congrArg some (by kernel_rfl))
 f228:=Tryz.func126.trans (congrArg some (by kernel_rfl))
 f231:=Tryz.func204.trans (congrArg some (by kernel_rfl))
 f232:=Tryz.func205.trans (congrArg some (by kernel_rfl))
 f233:=Tryz.func206.trans (congrArg some (by kernel_rfl))
 f234:=Tryz.func207.trans (congrArg some (by kernel_rfl))
 f235:=Tryz.func208.trans (congrArg some (by kernel_rfl))
 f236:=Tryz.func209.trans (congrArg some (by kernel_rfl))
 f260:=Tryz.func234.trans (congrArg some (by kernel_rfl))
 f266:=Tryz.func165.trans (congrArg some (by kernel_rfl))
 f271:=Tryz.func221.trans (congrArg some (by kernel_rfl))
 t0:=Tryz.underlying0
 a0:=Tryz.isAgg0
 z0:=Tryz.sizeOf0
 v0:=Tryz.zeroValue0
 t3:=Tryz.underlying3
 a3:=Tryz.isAgg3
 z3:=Tryz.sizeOf3
 v3:=Tryz.zeroValue3
 t4:=Tryz.underlying4
 a4:=Tryz.isAgg4
 z4:=Tryz.sizeOf4
 v4:=Tryz.zeroValue4
 t5:=Tryz.underlying5
 a5:=Tryz.isAgg5
 z5:=Tryz.sizeOf5
 v5:=Tryz.zeroValue5
 t9:=Tryz.underlying9
 a9:=Tryz.isAgg9
 z9:=Tryz.sizeOf9
 v9:=Tryz.zeroValue9
 t21:=Tryz.underlying21
 a21:=Tryz.isAgg21
 z21:=Tryz.sizeOf21
 v21:=Tryz.zeroValue21
 t46:=Tryz.underlying146
 a46:=Tryz.isAgg146
 z46:=Tryz.sizeOf146
 v46:=Tryz.zeroValue146
 t105:=Tryz.underlying182
 a105:=Tryz.isAgg182
 z105:=Tryz.sizeOf182
 v105:=Tryz.zeroValue182
 t116:=Tryz.underlying126
 a116:=Tryz.isAgg126
 z116:=Tryz.sizeOf126
 t117:=Tryz.underlying127
 a117:=Tryz.isAgg127
 z117:=Tryz.sizeOf127
 v117:=Tryz.zeroValue127
 t119:=Tryz.underlying192
 a119:=Tryz.isAgg192
 z119:=Tryz.sizeOf192
 t124:=Tryz.underlying147
 a124:=Tryz.isAgg147
 z124:=Tryz.sizeOf147
 v124:=Tryz.zeroValue147
 t138:=Tryz.underlying194
 a138:=Tryz.isAgg194
 z138:=Tryz.sizeOf194
 v138:=Tryz.zeroValue194
 t139:=Tryz.underlying195
 a139:=Tryz.isAgg195
 z139:=Tryz.sizeOf195
 v139:=Tryz.zeroValue195
 g3:=by kernel_rfl
 g4:=by kernel_rfl}
def Tryz.zJG:Go.Shelf.Ren:=⟨λ|137=>74|217=>132|266=>165|n=>n,λ|9=>9|5=>5|3=>3|n=>n,λ|n=>n⟩
theorem Tryz.lays137:Go.Proofs.Lays.n137 Tryz.prog Tryz.zJG:={
 mixed:=by kernel_rfl
 f137:=Tryz.func74.trans (congrArg some (by kernel_rfl))
 f217:=Tryz.func132.trans (congrArg some (by kernel_rfl))
 f266:=Tryz.func165.trans (congrArg some (by kernel_rfl))
 t3:=Tryz.underlying3
 a3:=Tryz.isAgg3
 z3:=Tryz.sizeOf3
 v3:=Tryz.zeroValue3
 t5:=Tryz.underlying5
 a5:=Tryz.isAgg5
 z5:=Tryz.sizeOf5
 v5:=Tryz.zeroValue5
 t9:=Tryz.underlying9
 a9:=Tryz.isAgg9
 z9:=Tryz.sizeOf9
 v9:=Tryz.zeroValue9}
open Go.RowKit in
theorem Tryz.strings_IndexByte(s:ByteArray)(c:Int)(w:World):
  Calls Tryz.prog 74 #[.string s,.int .u8 c] w λe w'=>e= .returned (.int .i64 (Lib.indexByte s.data.toList c.toNat.toUInt8))/\w'=w:=Any.strings_IndexByte Tryz.lays137 s c w
def Tryz.zR6:Go.Shelf.Ren:=⟨λ|246=>193|283=>214|284=>215|285=>216|286=>217|129=>230|317=>229|318=>231|319=>232|320=>233|337=>239|338=>240|n=>n,λ|2=>2|3=>3|9=>9|4=>4|171=>174|0=>0|53=>129|37=>83|5=>5|173=>177|212=>188|51=>153|20=>20|213=>189|46=>146|232=>197|233=>198|n=>n,λ|17=>3|18=>6|19=>7|n=>n⟩
def Tryz.zIQ:Go.Shelf.Ren:=⟨λ|173=>173|246=>193|283=>214|284=>215|285=>216|286=>217|129=>230|317=>229|318=>231|319=>232|320=>233|337=>239|338=>240|n=>n,λ|2=>2|3=>3|9=>9|4=>4|171=>174|0=>0|53=>129|37=>83|5=>5|173=>177|212=>188|51=>153|20=>20|213=>189|46=>146|232=>197|233=>198|n=>n,λ|17=>3|18=>6|19=>7|n=>n⟩
theorem Tryz.laysM173:Go.Proofs.LaysM.n173 Tryz.prog Tryz.zIQ:={
 mixed:=by kernel_rfl
 f129:=Tryz.func230.trans (congrArg some (by kernel_rfl))
 f173:=Tryz.func173.trans (congrArg some (by kernel_rfl))
 f246:=Tryz.func193.trans (congrArg some (by kernel_rfl))
 f283:=Tryz.func214.trans (congrArg some (by kernel_rfl))
 f284:=Tryz.func215.trans (congrArg some (by kernel_rfl))
 f285:=Tryz.func216.trans (congrArg some (by kernel_rfl))
 f286:=Tryz.func217.trans (congrArg some (by kernel_rfl))
 f317:=Tryz.func229.trans (congrArg some (by kernel_rfl))
 f318:=Tryz.func231.trans (congrArg some (by kernel_rfl))
 f319:=Tryz.func232.trans (congrArg some (by kernel_rfl))
 f320:=Tryz.func233.trans (congrArg some (by kernel_rfl))
 f337:=Tryz.func239.trans (congrArg some (by kernel_rfl))
 f338:=Tryz.func240.trans (congrArg some (by kernel_rfl))
 t0:=Tryz.underlying0
 a0:=Tryz.isAgg0
 z0:=Tryz.sizeOf0
 v0:=Tryz.zeroValue0
 t2:=Tryz.underlying2
 a2:=Tryz.isAgg2
 z2:=Tryz.sizeOf2
 v2:=Tryz.zeroValue2
 t3:=Tryz.underlying3
 a3:=Tryz.isAgg3
 z3:=Tryz.sizeOf3
 v3:=Tryz.zeroValue3
 t4:=Tryz.underlying4
 a4:=Tryz.isAgg4
 z4:=Tryz.sizeOf4
 v4:=Tryz.zeroValue4
 t5:=Tryz.underlying5
 a5:=Tryz.isAgg5
 z5:=Tryz.sizeOf5
 v5:=Tryz.zeroValue5
 t9:=Tryz.underlying9
 a9:=Tryz.isAgg9
 z9:=Tryz.sizeOf9
 v9:=Tryz.zeroValue9
 t20:=Tryz.underlying20
 a20:=Tryz.isAgg20
 z20:=Tryz.sizeOf20
 v20:=Tryz.zeroValue20
 t37:=Tryz.underlying83
 a37:=Tryz.isAgg83
 z37:=Tryz.sizeOf83
 v37:=Tryz.zeroValue83
 t46:=Tryz.underlying146
 a46:=Tryz.isAgg146
 z46:=Tryz.sizeOf146
 v46:=Tryz.zeroValue146
 t51:=Tryz.underlying153
 a51:=Tryz.isAgg153
 z51:=Tryz.sizeOf153
 v51:=Tryz.zeroValue153
 t53:=Tryz.underlying129
 a53:=Tryz.isAgg129
 z53:=Tryz.sizeOf129
 v53:=Tryz.zeroValue129
 t171:=Tryz.underlying174
 a171:=Tryz.isAgg174
 z171:=Tryz.sizeOf174
 v171:=Tryz.zeroValue174
 t173:=Tryz.underlying177
 a173:=Tryz.isAgg177
 z173:=Tryz.sizeOf177
 v173:=Tryz.zeroValue177
 t212:=Tryz.underlying188
 a212:=Tryz.isAgg188
 z212:=Tryz.sizeOf188
 v212:=Tryz.zeroValue188
 t213:=Tryz.underlying189
 a213:=Tryz.isAgg189
 z213:=Tryz.sizeOf189
 t232:=Tryz.underlying197
 a232:=Tryz.isAgg197
 z232:=Tryz.sizeOf197
 v232:=Tryz.zeroValue197
 t233:=Tryz.underlying198
 a233:=Tryz.isAgg198
 z233:=Tryz.sizeOf198
 v233:=Tryz.zeroValue198
 g17:=by kernel_rfl
 g18:=by kernel_rfl
 g19:=by kernel_rfl
 i0:=by kernel_rfl
 i2:=by kernel_rfl
 i3:=by kernel_rfl
 i4:=by kernel_rfl
 i5:=by kernel_rfl
 i9:=by kernel_rfl
 i20:=by kernel_rfl
 i37:=by kernel_rfl
 i46:=by kernel_rfl
 i51:=by kernel_rfl
 i53:=by kernel_rfl
 i171:=by kernel_rfl
 i173:=by kernel_rfl
 i212:=by kernel_rfl
 i232:=by kernel_rfl
 i233:=by kernel_rfl
 m17:=by kernel_rfl
 m18:=by kernel_rfl
 m19:=by kernel_rfl}
open Go.RowKit Go.Sort Go.Lib in
theorem Tryz.strconv_FormatInt_10(n:Int)(h0: -9223372036854775808<=n)(h1:n<=9223372036854775807)(w:World)(htab:Lib.TabIs Tryz.prog w "internal/strconv.uint64pow10" .u64 Lib.pow10Tab):
  Calls Tryz.prog 173 #[.int .i64 n,.int .i64 10] w λe w'=>e= .returned (.string ⟨(Lib.itoa n).toArray⟩)/\∃k os,w'=grow (w.drewN k) os:=Any.strconv_FormatInt_10 Tryz.laysM173 n h0 h1 w htab
def Tryz.zIW:Go.Shelf.Ren:=⟨λ|245=>163|279=>184|280=>185|281=>186|282=>187|316=>201|171=>203|205=>202|243=>218|246=>193|283=>214|284=>215|285=>216|286=>217|129=>230|317=>229|318=>231|319=>232|320=>233|337=>239|338=>240|n=>n,λ|9=>9|3=>3|75=>88|167=>156|4=>4|168=>158|210=>169|37=>83|0=>0|127=>121|145=>181|143=>179|2=>2|171=>174|53=>129|5=>5|173=>177|212=>188|51=>153|20=>20|213=>189|46=>146|232=>197|233=>198|80=>91|n=>n,λ|15=>1|16=>2|17=>3|18=>6|19=>7|n=>n⟩
theorem Tryz.laysC245:Go.Proofs.LaysC.n245 Tryz.prog Tryz.zIW:={
 mixed:=by kernel_rfl
 f129:=Tryz.func230.trans (congrArg some (by kernel_rfl))
 f171:=Tryz.func203.trans (congrArg some (by kernel_rfl))
 f205:=Tryz.func202.trans (congrArg some (by kernel_rfl))
 f243:=Tryz.func218.trans (congrArg some (by kernel_rfl))
 f245:=Tryz.func163.trans (congrArg some (by kernel_rfl))
 f246:=Tryz.func193.trans (congrArg some (by kernel_rfl))
 f279:=Tryz.func184.trans (congrArg some (by kernel_rfl))
 f280:=Tryz.func185.trans (congrArg some (by kernel_rfl))
 f281:=Tryz.func186.trans (congrArg some (by kernel_rfl))
 f282:=Tryz.func187.trans (congrArg some (by kernel_rfl))
 f283:=Tryz.func214.trans (congrArg some (by kernel_rfl))
 f284:=Tryz.func215.trans (congrArg some (by kernel_rfl))
 f285:=Tryz.func216.trans (congrArg some (by kernel_rfl))
 f286:=Tryz.func217.trans (congrArg some (by kernel_rfl))
 f316:=Tryz.func201.trans (congrArg some (by kernel_rfl))
 f317:=Tryz.func229.trans (congrArg some (by kernel_rfl))
 f318:=Tryz.func231.trans (congrArg some (by kernel_rfl))
 f319:=Tryz.func232.trans (congrArg some (by kernel_rfl))
 f320:=Tryz.func233.trans (congrArg some (by kernel_rfl))
 f337:=Tryz.func239.trans (congrArg some (by kernel_rfl))
 f338:=Tryz.func240.trans (congrArg some (by kernel_rfl))
 t0:=Tryz.underlying0
 a0:=Tryz.isAgg0
 z0:=Tryz.sizeOf0
 v0:=Tryz.zeroValue0
 t2:=Tryz.underlying2
 a2:=Tryz.isAgg2
 z2:=Tryz.sizeOf2
 v2:=Tryz.zeroValue2
 t3:=Tryz.underlying3
 a3:=Tryz.isAgg3
 z3:=Tryz.sizeOf3
 v3:=Tryz.zeroValue3
 t4:=Tryz.underlying4
 a4:=Tryz.isAgg4
 z4:=Tryz.sizeOf4
 v4:=Tryz.zeroValue4
 t5:=Tryz.underlying5
 a5:=Tryz.isAgg5
 z5:=Tryz.sizeOf5
 v5:=Tryz.zeroValue5
 t9:=Tryz.underlying9
 a9:=Tryz.isAgg9
 z9:=Tryz.sizeOf9
 v9:=Tryz.zeroValue9
 t20:=Tryz.underlying20
 a20:=Tryz.isAgg20
 z20:=Tryz.sizeOf20
 v20:=Tryz.zeroValue20
 t37:=Tryz.underlying83
 a37:=Tryz.isAgg83
 z37:=Tryz.sizeOf83
 v37:=Tryz.zeroValue83
 t46:=Tryz.underlying146
 a46:=Tryz.isAgg146
 z46:=Tryz.sizeOf146
 v46:=Tryz.zeroValue146
 t51:=Tryz.underlying153
 a51:=Tryz.isAgg153
 z51:=Tryz.sizeOf153
 v51:=Tryz.zeroValue153
 t53:=Tryz.underlying129
 a53:=Tryz.isAgg129
 z53:=Tryz.sizeOf129
 v53:=Tryz.zeroValue129
 t75:=Tryz.underlying88
 a75:=Tryz.isAgg88
 z75:=Tryz.sizeOf88
 v75:=Tryz.zeroValue88
 t127:=Tryz.underlying121
 a127:=Tryz.isAgg121
 z127:=Tryz.sizeOf121
 v127:=Tryz.zeroValue121
 t143:=Tryz.underlying179
 a143:=Tryz.isAgg179
 z143:=Tryz.sizeOf179
 v143:=Tryz.zeroValue179
 t145:=Tryz.underlying181
 a145:=Tryz.isAgg181
 z145:=Tryz.sizeOf181
 v145:=Tryz.zeroValue181
 t167:=Tryz.underlying156
 a167:=Tryz.isAgg156
 z167:=Tryz.sizeOf156
 v167:=Tryz.zeroValue156
 t168:=Tryz.underlying158
 a168:=Tryz.isAgg158
 z168:=Tryz.sizeOf158
 v168:=Tryz.zeroValue158
 t171:=Tryz.underlying174
 a171:=Tryz.isAgg174
 z171:=Tryz.sizeOf174
 v171:=Tryz.zeroValue174
 t173:=Tryz.underlying177
 a173:=Tryz.isAgg177
 z173:=Tryz.sizeOf177
 v173:=Tryz.zeroValue177
 t210:=Tryz.underlying169
 a210:=Tryz.isAgg169
 z210:=Tryz.sizeOf169
 v210:=Tryz.zeroValue169
 t212:=Tryz.underlying188
 a212:=Tryz.isAgg188
 z212:=Tryz.sizeOf188
 v212:=Tryz.zeroValue188
 t213:=Tryz.underlying189
 a213:=Tryz.isAgg189
 z213:=Tryz.sizeOf189
 t232:=Tryz.underlying197
 a232:=Tryz.isAgg197
 z232:=Tryz.sizeOf197
 v232:=Tryz.zeroValue197
 t233:=Tryz.underlying198
 a233:=Tryz.isAgg198
 z233:=Tryz.sizeOf198
 v233:=Tryz.zeroValue198
 g15:=by kernel_rfl
 g16:=by kernel_rfl
 g17:=by kernel_rfl
 g18:=by kernel_rfl
 g19:=by kernel_rfl
 t80:=Tryz.underlying91
 a80:=Tryz.isAgg91
 z80:=Tryz.sizeOf91
 v80:=Tryz.zeroValue91
 i0:=by kernel_rfl
 i2:=by kernel_rfl
 i3:=by kernel_rfl
 i4:=by kernel_rfl
 i5:=by kernel_rfl
 i9:=by kernel_rfl
 i20:=by kernel_rfl
 i37:=by kernel_rfl
 i46:=by kernel_rfl
 i51:=by kernel_rfl
 i53:=by kernel_rfl
 i75:=by kernel_rfl
 i80:=by kernel_rfl
 i127:=by kernel_rfl
 i143:=by kernel_rfl
 i145:=by kernel_rfl
 i167:=by kernel_rfl
 i168:=by kernel_rfl
 i171:=by kernel_rfl
 i173:=by kernel_rfl
 i210:=by kernel_rfl
 i212:=by kernel_rfl
 i232:=by kernel_rfl
 i233:=by kernel_rfl
 m15:=by kernel_rfl
 m16:=by kernel_rfl
 m17:=by kernel_rfl
 m18:=by kernel_rfl
 m19:=by kernel_rfl
 c0:=by kernel_rfl
 c2:=by kernel_rfl
 c3:=by kernel_rfl
 c4:=by kernel_rfl
 c5:=by kernel_rfl
 c9:=by kernel_rfl
 c20:=by kernel_rfl
 c37:=by kernel_rfl
 c46:=by kernel_rfl
 c51:=by kernel_rfl
 c53:=by kernel_rfl
 c75:=by kernel_rfl
 c80:=by kernel_rfl
 c127:=by kernel_rfl
 c143:=by kernel_rfl
 c145:=by kernel_rfl
 c167:=by kernel_rfl
 c168:=by kernel_rfl
 c171:=by kernel_rfl
 c173:=by kernel_rfl
 c210:=by kernel_rfl
 c212:=by kernel_rfl
 c213:=by kernel_rfl
 c232:=by kernel_rfl
 c233:=by kernel_rfl}
open Go.RowKit in
theorem Tryz.strconv_toError_syntax(fn s:ByteArray)(base bits:Int)(ev:Value)(w:World)(hlim:s.size<=281474976710656)(hv:w.cell? ⟨1,0,none⟩=some ev)(hev:ev= .nilIface\/∃te pe,ev= .iface te pe):
  Calls Tryz.prog 163 #[.string fn,.string s,.int .i64 base,.int .i64 bits,.iface 156 (.int .i64 2)] w λe w'=>∃N,e= .returned (.iface 158 (.pointer (some ⟨N,0,none⟩)))/\w.heap.size<=N/\w'.heap[N]? =some (.cells #[.string fn,.string s,ev] 169 (0,0))/\Below w.heap.size w w':=Any.strconv_toError_syntax Tryz.laysC245 fn s base bits ev w hlim hv hev
open Go.RowKit in
theorem Tryz.strconv_toError_range(fn s:ByteArray)(base bits:Int)(ev:Value)(w:World)(hlim:s.size<=281474976710656)(hv:w.cell? ⟨2,0,none⟩=some ev)(hev:ev= .nilIface\/∃te pe,ev= .iface te pe):
  Calls Tryz.prog 163 #[.string fn,.string s,.int .i64 base,.int .i64 bits,.iface 156 (.int .i64 1)] w λe w'=>∃N,e= .returned (.iface 158 (.pointer (some ⟨N,0,none⟩)))/\w.heap.size<=N/\w'.heap[N]? =some (.cells #[.string fn,.string s,ev] 169 (0,0))/\Below w.heap.size w w':=Any.strconv_toError_range Tryz.laysC245 fn s base bits ev w hlim hv hev
def Tryz.zTm:Go.Shelf.Ren:=⟨λ|219=>127|217=>132|225=>160|224=>159|267=>161|266=>165|314=>181|n=>n,λ|9=>9|3=>3|4=>4|5=>5|46=>146|146=>154|51=>153|n=>n,λ|1=>0|n=>n⟩
def Tryz.zJT:Go.Shelf.Ren:=⟨λ|143=>65|219=>127|217=>132|225=>160|224=>159|267=>161|266=>165|314=>181|n=>n,λ|9=>9|3=>3|4=>4|5=>5|46=>146|146=>154|51=>153|n=>n,λ|1=>0|n=>n⟩
theorem Tryz.lays143:Go.Proofs.Lays.n143 Tryz.prog Tryz.zJT:={
 mixed:=by kernel_rfl
 f143:=Tryz.func65.trans (congrArg some (by kernel_rfl))
 f217:=Tryz.func132.trans (congrArg some (by kernel_rfl))
 f219:=Tryz.func127.trans (congrArg some (by kernel_rfl))
 f224:=Tryz.func159.trans (congrArg some (by kernel_rfl))
 f225:=Tryz.func160.trans (congrArg some (by kernel_rfl))
 f266:=Tryz.func165.trans (congrArg some (by kernel_rfl))
 f267:=Tryz.func161.trans (congrArg some (by kernel_rfl))
 f314:=Tryz.func181.trans (congrArg some (by kernel_rfl))
 t3:=Tryz.underlying3
 a3:=Tryz.isAgg3
 z3:=Tryz.sizeOf3
 v3:=Tryz.zeroValue3
 t4:=Tryz.underlying4
 a4:=Tryz.isAgg4
 z4:=Tryz.sizeOf4
 v4:=Tryz.zeroValue4
 t5:=Tryz.underlying5
 a5:=Tryz.isAgg5
 z5:=Tryz.sizeOf5
 v5:=Tryz.zeroValue5
 t9:=Tryz.underlying9
 a9:=Tryz.isAgg9
 z9:=Tryz.sizeOf9
 v9:=Tryz.zeroValue9
 t46:=Tryz.underlying146
 a46:=Tryz.isAgg146
 z46:=Tryz.sizeOf146
 v46:=Tryz.zeroValue146
 t51:=Tryz.underlying153
 a51:=Tryz.isAgg153
 z51:=Tryz.sizeOf153
 v51:=Tryz.zeroValue153
 t146:=Tryz.underlying154
 a146:=Tryz.isAgg154
 z146:=Tryz.sizeOf154
 v146:=Tryz.zeroValue154
 g1:=by kernel_rfl}
open Go.RowKit Go.Lib in
theorem Tryz.strings_Index(s sub:ByteArray)(m:Int)(w:World)(hs:s.size<4294967281)(hm:w.cell? ⟨0,0,none⟩=some (.int .i64 m)):
  Calls Tryz.prog 65 #[.string s,.string sub] w λe w'=>e= .returned (.int .i64 (Lib.index s.data.toList sub.data.toList))/\w'=w:=Any.strings_Index Tryz.lays143 s sub m w hs hm
def Tryz.zJR:Go.Shelf.Ren:=⟨λ|144=>129|143=>65|219=>127|217=>132|225=>160|224=>159|267=>161|266=>165|314=>181|n=>n,λ|9=>9|4=>4|3=>3|5=>5|46=>146|146=>154|51=>153|n=>n,λ|1=>0|n=>n⟩
theorem Tryz.lays144:Go.Proofs.Lays.n144 Tryz.prog Tryz.zJR:={
 mixed:=by kernel_rfl
 f143:=Tryz.func65.trans (congrArg some (by kernel_rfl))
 f144:=Tryz.func129.trans (congrArg some (by kernel_rfl))
 f217:=Tryz.func132.trans (congrArg some (by kernel_rfl))
 f219:=Tryz.func127.trans (congrArg some (by kernel_rfl))
 f224:=Tryz.func159.trans (congrArg some (by kernel_rfl))
 f225:=Tryz.func160.trans (congrArg some (by kernel_rfl))
 f266:=Tryz.func165.trans (congrArg some (by kernel_rfl))
 f267:=Tryz.func161.trans (congrArg some (by kernel_rfl))
 f314:=Tryz.func181.trans (congrArg some (by kernel_rfl))
 t3:=Tryz.underlying3
 a3:=Tryz.isAgg3
 z3:=Tryz.sizeOf3
 v3:=Tryz.zeroValue3
 t4:=Tryz.underlying4
 a4:=Tryz.isAgg4
 z4:=Tryz.sizeOf4
 v4:=Tryz.zeroValue4
 t5:=Tryz.underlying5
 a5:=Tryz.isAgg5
 z5:=Tryz.sizeOf5
 v5:=Tryz.zeroValue5
 t9:=Tryz.underlying9
 a9:=Tryz.isAgg9
 z9:=Tryz.sizeOf9
 v9:=Tryz.zeroValue9
 t46:=Tryz.underlying146
 a46:=Tryz.isAgg146
 z46:=Tryz.sizeOf146
 v46:=Tryz.zeroValue146
 t51:=Tryz.underlying153
 a51:=Tryz.isAgg153
 z51:=Tryz.sizeOf153
 v51:=Tryz.zeroValue153
 t146:=Tryz.underlying154
 a146:=Tryz.isAgg154
 z146:=Tryz.sizeOf154
 v146:=Tryz.zeroValue154
 g1:=by kernel_rfl}
open Go.RowKit Go.Lib in
theorem Tryz.strings_Contains(s sub:ByteArray)(m:Int)(w:World)(hs:s.size<4294967281)(hm:w.cell? ⟨0,0,none⟩=some (.int .i64 m)):
  Calls Tryz.prog 129 #[.string s,.string sub] w λe w'=>e= .returned (.bool (Lib.contains s.data.toList sub.data.toList))/\w'=w:=Any.strings_Contains Tryz.lays144 s sub m w hs hm
def Tryz.zH6:Go.Shelf.Ren:=⟨λ|219=>127|217=>132|225=>160|224=>159|267=>161|266=>165|314=>181|n=>n,λ|9=>9|3=>3|4=>4|5=>5|46=>146|146=>154|51=>153|n=>n,λ|1=>0|n=>n⟩
theorem Tryz.laysM219:Go.Proofs.LaysM.n219 Tryz.prog Tryz.zH6:={
 mixed:=by kernel_rfl
 f217:=Tryz.func132.trans (congrArg some (by kernel_rfl))
 f219:=Tryz.func127.trans (congrArg some (by kernel_rfl))
 f224:=Tryz.func159.trans (congrArg some (by kernel_rfl))
 f225:=Tryz.func160.trans (congrArg some (by kernel_rfl))
 f266:=Tryz.func165.trans (congrArg some (by kernel_rfl))
 f267:=Tryz.func161.trans (congrArg some (by kernel_rfl))
 f314:=Tryz.func181.trans (congrArg some (by kernel_rfl))
 t3:=Tryz.underlying3
 a3:=Tryz.isAgg3
 z3:=Tryz.sizeOf3
 v3:=Tryz.zeroValue3
 t4:=Tryz.underlying4
 a4:=Tryz.isAgg4
 z4:=Tryz.sizeOf4
 v4:=Tryz.zeroValue4
 t5:=Tryz.underlying5
 a5:=Tryz.isAgg5
 z5:=Tryz.sizeOf5
 v5:=Tryz.zeroValue5
 t9:=Tryz.underlying9
 a9:=Tryz.isAgg9
 z9:=Tryz.sizeOf9
 v9:=Tryz.zeroValue9
 t46:=Tryz.underlying146
 a46:=Tryz.isAgg146
 z46:=Tryz.sizeOf146
 v46:=Tryz.zeroValue146
 t51:=Tryz.underlying153
 a51:=Tryz.isAgg153
 z51:=Tryz.sizeOf153
 v51:=Tryz.zeroValue153
 t146:=Tryz.underlying154
 a146:=Tryz.isAgg154
 z146:=Tryz.sizeOf154
 v146:=Tryz.zeroValue154
 g1:=by kernel_rfl
 i3:=by kernel_rfl
 i4:=by kernel_rfl
 i5:=by kernel_rfl
 i9:=by kernel_rfl
 i46:=by kernel_rfl
 i51:=by kernel_rfl
 i146:=by kernel_rfl
 m1:=by kernel_rfl
 s1_3:=λw h=>Go.Proofs.cell_of_shapedOpen_int (zero:= #[.int .i64 0]) (t:=3) h (of_decide_eq_true (by kernel_rfl)) (by kernel_rfl) rfl (by kernel_rfl) (by kernel_rfl) Tryz.underlying3}
def Tryz.zTl:Go.Shelf.Ren:=⟨λ|206=>122|n=>n,λ|9=>9|4=>4|3=>3|n=>n,λ|n=>n⟩
def Tryz.lays99_ren:Go.Shelf.Ren:=⟨λ|99=>63|206=>122|n=>n,λ|9=>9|4=>4|3=>3|n=>n,λ|n=>n⟩
theorem Tryz.lays99:Go.Proofs.Lays.n99 Tryz.prog Tryz.lays99_ren:={
 mixed:=by kernel_rfl
 f99:=Tryz.func63.trans (congrArg some (by kernel_rfl))
 f206:=Tryz.func122.trans (congrArg some (by kernel_rfl))
 t3:=Tryz.underlying3
 a3:=Tryz.isAgg3
 z3:=Tryz.sizeOf3
 v3:=Tryz.zeroValue3
 t4:=Tryz.underlying4
 a4:=Tryz.isAgg4
 z4:=Tryz.sizeOf4
 v4:=Tryz.zeroValue4
 t9:=Tryz.underlying9
 a9:=Tryz.isAgg9
 z9:=Tryz.sizeOf9
 v9:=Tryz.zeroValue9}
open Go.RowKit Go.Lib in
theorem Tryz.strings_HasPrefix(s p:ByteArray)(w:World):
  Calls Tryz.prog 63 #[.string s,.string p] w λe w'=>e= .returned (.bool (Lib.hasPrefix s.data.toList p.data.toList))/\w'=w:=Any.strings_HasPrefix Tryz.lays99 s p w
def Tryz.lays153_ren:Go.Shelf.Ren:=⟨λ|153=>64|152=>123|226=>124|227=>125|228=>126|137=>74|119=>158|224=>159|225=>160|217=>132|266=>165|n=>n,λ|9=>9|3=>3|4=>4|5=>5|21=>21|117=>127|116=>126|0=>0|46=>146|124=>147|n=>n,λ|n=>n⟩
theorem Tryz.lays153:Go.Proofs.Lays.n153 Tryz.prog Tryz.lays153_ren:={
 mixed:=by kernel_rfl
 f119:=Tryz.func158.trans (congrArg some (by kernel_rfl))
 f137:=Tryz.func74.trans (congrArg some (by kernel_rfl))
 f152:=Tryz.func123.trans (congrArg some (by kernel_rfl))
 f153:=Tryz.func64.trans (congrArg some (by kernel_rfl))
 f217:=Tryz.func132.trans (congrArg some (by kernel_rfl))
 f224:=Tryz.func159.trans (congrArg some (by kernel_rfl))
 f225:=Tryz.func160.trans (congrArg some (by kernel_rfl))
 f226:=Tryz.func124.trans (congrArg some (by kernel_rfl))
 f227:=Tryz.func125.trans (congrArg some (by kernel_rfl))
 f228:=Tryz.func126.trans (congrArg some (by kernel_rfl))
 f266:=Tryz.func165.trans (congrArg some (by kernel_rfl))
 t0:=Tryz.underlying0
 a0:=Tryz.isAgg0
 z0:=Tryz.sizeOf0
 v0:=Tryz.zeroValue0
 t3:=Tryz.underlying3
 a3:=Tryz.isAgg3
 z3:=Tryz.sizeOf3
 v3:=Tryz.zeroValue3
 t4:=Tryz.underlying4
 a4:=Tryz.isAgg4
 z4:=Tryz.sizeOf4
 v4:=Tryz.zeroValue4
 t5:=Tryz.underlying5
 a5:=Tryz.isAgg5
 z5:=Tryz.sizeOf5
 v5:=Tryz.zeroValue5
 t9:=Tryz.underlying9
 a9:=Tryz.isAgg9
 z9:=Tryz.sizeOf9
 v9:=Tryz.zeroValue9
 t21:=Tryz.underlying21
 a21:=Tryz.isAgg21
 z21:=Tryz.sizeOf21
 v21:=Tryz.zeroValue21
 t46:=Tryz.underlying146
 a46:=Tryz.isAgg146
 z46:=Tryz.sizeOf146
 v46:=Tryz.zeroValue146
 t116:=Tryz.underlying126
 a116:=Tryz.isAgg126
 z116:=Tryz.sizeOf126
 t117:=Tryz.underlying127
 a117:=Tryz.isAgg127
 z117:=Tryz.sizeOf127
 v117:=Tryz.zeroValue127
 t124:=Tryz.underlying147
 a124:=Tryz.isAgg147
 z124:=Tryz.sizeOf147
 v124:=Tryz.zeroValue147}
def Tryz.lays150_ren:Go.Shelf.Ren:=⟨λ|150=>66|153=>64|152=>123|226=>124|227=>125|228=>126|137=>74|119=>158|224=>159|225=>160|217=>132|266=>165|n=>n,λ|9=>9|4=>4|3=>3|5=>5|21=>21|117=>127|116=>126|0=>0|46=>146|124=>147|n=>n,λ|n=>n⟩
theorem Tryz.lays150:Go.Proofs.Lays.n150 Tryz.prog Tryz.lays150_ren:={
 mixed:=by kernel_rfl
 f119:=Tryz.func158.trans (congrArg some (by kernel_rfl))
 f137:=Tryz.func74.trans (congrArg some (by kernel_rfl))
 f150:=Tryz.func66.trans (congrArg some (by kernel_rfl))
 f152:=Tryz.func123.trans (congrArg some (by kernel_rfl))
 f153:=Tryz.func64.trans (congrArg some (by kernel_rfl))
 f217:=Tryz.func132.trans (congrArg some (by kernel_rfl))
 f224:=Tryz.func159.trans (congrArg some (by kernel_rfl))
 f225:=Tryz.func160.trans (congrArg some (by kernel_rfl))
 f226:=Tryz.func124.trans (congrArg some (by kernel_rfl))
 f227:=Tryz.func125.trans (congrArg some (by kernel_rfl))
 f228:=Tryz.func126.trans (congrArg some (by kernel_rfl))
 f266:=Tryz.func165.trans (congrArg some (by kernel_rfl))
 t0:=Tryz.underlying0
 a0:=Tryz.isAgg0
 z0:=Tryz.sizeOf0
 v0:=Tryz.zeroValue0
 t3:=Tryz.underlying3
 a3:=Tryz.isAgg3
 z3:=Tryz.sizeOf3
 v3:=Tryz.zeroValue3
 t4:=Tryz.underlying4
 a4:=Tryz.isAgg4
 z4:=Tryz.sizeOf4
 v4:=Tryz.zeroValue4
 t5:=Tryz.underlying5
 a5:=Tryz.isAgg5
 z5:=Tryz.sizeOf5
 v5:=Tryz.zeroValue5
 t9:=Tryz.underlying9
 a9:=Tryz.isAgg9
 z9:=Tryz.sizeOf9
 v9:=Tryz.zeroValue9
 t21:=Tryz.underlying21
 a21:=Tryz.isAgg21
 z21:=Tryz.sizeOf21
 v21:=Tryz.zeroValue21
 t46:=Tryz.underlying146
 a46:=Tryz.isAgg146
 z46:=Tryz.sizeOf146
 v46:=Tryz.zeroValue146
 t116:=Tryz.underlying126
 a116:=Tryz.isAgg126
 z116:=Tryz.sizeOf126
 t117:=Tryz.underlying127
 a117:=Tryz.isAgg127
 z117:=Tryz.sizeOf127
 v117:=Tryz.zeroValue127
 t124:=Tryz.underlying147
 a124:=Tryz.isAgg147
 z124:=Tryz.sizeOf147
 v124:=Tryz.zeroValue147}
end Go.Proofs
namespace Go.Gw
open Go.Shelf Go.RowKit Go.Lib Go.Proofs
variable {ρ:Ren}
def nlB:ByteArray:=⟨#[10,13]⟩
set_option maxHeartbeats 8000000 in
set_option maxRecDepth 1000000 in
theorem zzF(L:Lays.n152 Tryz.prog ρ)(r:Int)(w:World)(h0:128<=r)(h1:r<=1114111):
  Calls Tryz.prog (ρ.f 152) #[.string nlB,.int .i32 r] w λe w'=>e= .returned (.int .i64 (-1))/\Below w.heap.size w w':=by
 have mixed:=L.mixed;have t3:=L.t3;have a3:=L.a3;have z3:=L.z3;have v3:=L.v3;have t4:=L.t4;have a4:=L.a4;have z4:=L.z4;have v4:=L.v4;have t5:=L.t5;have a5:=L.a5;have z5:=L.z5;have v5:=L.v5;have t9:=L.t9;have a9:=L.a9;have z9:=L.z9;have v9:=L.v9;have t21:=L.t21;have a21:=L.a21;have z21:=L.z21;have v21:=L.v21;have e137: ∀args w,(callFunc (ρ.f 137) args).run Tryz.prog w= .ok (.enter (ρ.f 137) args) w:=enters_of L.f137 (by kernel_rfl) rfl;have e119: ∀args w,(callFunc (ρ.f 119) args).run Tryz.prog w= .ok (.enter (ρ.f 119) args) w:=enters_of L.f119 (by kernel_rfl) rfl;have hz1:(0:Int)<=r:=by omega
 have hz2: ¬r<128:=by omega
 by_cases hbad:r=65533
 ·subst hbad
  go_enter L.f152,Body.n152_ntmps ρ
  go_wp2
  go_loopg [5,6] 2 (λg _ _ wx=>∃i:Nat,i+g=2/\wx=w.iter nlB i)
  case atStart=>exact⟨0,by omega,rfl⟩
  case round=>
   obtain⟨i,hig,rfl⟩:=hrel
   match gk,i,hig with
   |0,2,_=>
    have hnx:=λty=>run_next_end (P:=Tryz.prog) w nlB 2 ty (by decide)
    go_wp2
    go_ret
    exact⟨rfl,(Below.refl _ _).alloc (yJ _) _⟩
   |1,1,_=>
    have hnx:=λty=>run_next_ascii (P:=Tryz.prog) w nlB 1 ty (by decide) (by decide)
    go_wp2
    go_roundg 0
    case measure=>omega
    case rel=>exact⟨2,by omega,rfl⟩
   |2,0,_=>
    have hnx:=λty=>run_next_ascii (P:=Tryz.prog) w nlB 0 ty (by decide) (by decide)
    go_wp2
    go_roundg 1
    case measure=>omega
    case rel=>exact⟨1,by omega,rfl⟩
 ·cases hv:Lib.validRune r with
  |false=>
   go_enter L.f152,Body.n152_ntmps ρ
   go_wp2_with (go_at_fn (ρ.f 119);refine(Any.utf8_ValidRune {L with} _ _).mono ?_;rintro e w' ⟨rfl,hw⟩;rw[hw,hv])
   go_ret
   exact⟨rfl,Below.refl _ _⟩
  |true=>
   obtain⟨f1,f2,f3⟩:=encode_facts r (by rw[Go.validRune_eq];exact hv) h0
   obtain⟨E,hE⟩: ∃E,Utf8.encode r=E:=⟨_,rfl⟩
   rw[hE]at f1 f2 f3
   go_enter L.f152,Body.n152_ntmps ρ
   go_wp2_with (go_at_fn (ρ.f 119);refine(Any.utf8_ValidRune {L with} _ _).mono ?_;rintro e w' ⟨rfl,hw⟩;rw[hw,hv])
   refine wp_scope_straight ?_;have hl1:((E.size:Int) -1)=((E.size -1:Nat):Int):=by omega
   go_wp2
   have hs2:nlB.size=2:=rfl
   go_loopg [9] 0 (λg s9 wx=>s9= .int .i64 ((E.size -1:Nat):Int)/\wx=w)
   case atStart=>exact⟨rfl,rfl⟩
   case round=>
    obtain⟨rfl,rfl⟩:=hrel;by_cases h2:E.size=2
    ·obtain⟨x,hx⟩: ∃x:UInt8,E[1]'(by omega)=x:=⟨_,rfl⟩
     have hx128:128<=x.toNat:=by
      have:=f3 (by omega);simp only[show E.size -1=1 from by omega]at this;rw[hx]at this;exact this
     rw[show E.size -1=1 from by omega];have hne: ¬(13:UInt8)=x:=by intro h;rw[<-h]at hx128;revert hx128;decide
     have hE1:(1:Int)< (E.size:Int):=by omega
     go_wp2
     refine wp_scope_straight ?_
     go_wp2
     go_region
     have hb1:(((nlB[1]'(by decide)).toNat:Int) !=(x.toNat:Int))=true:=by
      have:(nlB[1]'(by decide))=13:=rfl;rw[this];have h13:((13:UInt8).toNat:Int)=13:=rfl;rw[h13];simp only[bne_iff_ne,ne_eq];omega
     rw[hb1]
     go_wp2
     go_region_with_o (
      go_at_fn (ρ.f 137)
      refine(Any.strings_IndexByte {L with} _ _ _).mono ?_;rintro e w' ⟨rfl,hw⟩;rw[hw])
     all_goals (
      rw[show Lib.indexByte [] x= -1 from rfl]
      go_wp2
      simp only[Exit.noGoto,Exit.inBlock,Exit.then]
      go_ret
      exact⟨rfl,Below.drew (Below.drew (Below.refl _ _))⟩)
    ·have hlt: ¬(((E.size -1:Nat):Int)<2):=by omega
     go_wp2
     go_ret
     exact⟨rfl,Below.refl _ _⟩
theorem zJE(s:ByteArray)(pos:Nat)(h:pos<s.size)(ha:128<=(s[pos]'h).toNat):pos+(Utf8.decode s pos).2<=s.size/\∀k,k< (Utf8.decode s pos).2->∀b,s.data.toList[pos+k]? =some b->128<=b.toNat:=by
 have get: ∀k b,s.data.toList[pos+k]? =some b->(s.get! (pos+k)).toNat=b.toNat:=λk b hb=>by
  have hlt:pos+k<s.size:=by
   rcases Nat.lt_or_ge (pos+k) s.size with h|h
   ·exact h
   ·rw[List.getElem?_eq_none (by rw[<-Lib.size_eq];exact h)]at hb;cases hb
  have:=Lib.data_getElem? s (pos+k) hlt;rw[hb]at this
  have e:s.get! (pos+k)=s[pos+k]'hlt:=by
   show s.get! (pos+k)=_;simp[ByteArray.get!,getElem!_pos,hlt];rfl
  rw[e];rw[<-yS this]
 have e0:(s.get! pos).toNat=(s[pos]'h).toNat:=get 0 _ (Lib.data_getElem? s pos h);have g1:=get 1;have g2:=get 2;have g3:=get 3;rw[Lib.decode_at];generalize (s.get! pos).toNat=b0 at e0;generalize (s.get! (pos+1)).toNat=b1 at g1;generalize (s.get! (pos+2)).toNat=b2 at g2;generalize (s.get! (pos+3)).toNat=b3 at g3;have hn: ¬b0<128:=by omega
 have h0: ∀b,s.data.toList[pos+0]? =some b->128<=b.toNat:=λb hb=>by
  have:=Lib.data_getElem? s pos h;rw[Nat.add_zero,this]at hb;cases hb;exact ha
 have one:pos+1<=s.size/\∀k,k<1->∀b,s.data.toList[pos+k]? =some b->128<=b.toNat:=⟨by omega,λk hk b hb=>by
  obtain rfl:k=0:=by omega
  exact h0 b hb⟩
 unfold Lib.decodeN;rw[yK hn];split
 ·rename_i c;split
  ·refine⟨by show pos+2<=_;omega,λk hk b hb=>?_⟩
   have hk:k<2:=hk;rcases k with _|_|k
   ·exact h0 b hb
   ·have:=g1 b hb;omega
   ·omega
  ·exact one
 ·split
  ·rename_i c;split
   ·refine⟨by show pos+3<=_;omega,λk hk b hb=>?_⟩
    have hk:k<3:=hk;rcases k with _|_|_|k
    ·exact h0 b hb
    ·have:=g1 b hb;omega
    ·have:=g2 b hb;omega
    ·omega
   ·exact one
  ·split
   ·rename_i c;split
    ·refine⟨by show pos+4<=_;omega,λk hk b hb=>?_⟩
     have hk:k<4:=hk;rcases k with _|_|_|_|k
     ·exact h0 b hb
     ·have:=g1 b hb;omega
     ·have:=g2 b hb;omega
     ·have:=g3 b hb;omega
     ·omega
    ·exact one
   ·exact one
set_option maxHeartbeats 8000000 in
set_option maxRecDepth 1000000 in
theorem ztZ(L:Lays.n153 Tryz.prog ρ)(s:ByteArray)(w:World)(h8:s.size<=8):
  Calls Tryz.prog (ρ.f 153) #[.string s,.string nlB] w λe w'=>e= .returned (.int .i64 (Lib.indexAny s.data.toList [10,13]))/\Below w.heap.size w w':=by
 have hemp:nlB.toList.isEmpty=false:=by rw[Lib.toList_data];rfl
 have hn1:((nlB.size:Int)==1)=false:=rfl;have h8z:decide ((8:Int)< (s.size:Int))=false:=decide_eq_false (by omega);have mixed:=L.mixed;have t3:=L.t3;have a3:=L.a3;have z3:=L.z3;have v3:=L.v3;have t4:=L.t4;have a4:=L.a4;have z4:=L.z4;have v4:=L.v4;have t5:=L.t5;have a5:=L.a5;have z5:=L.z5;have v5:=L.v5;have t9:=L.t9;have a9:=L.a9;have z9:=L.z9;have v9:=L.v9;have t21:=L.t21;have a21:=L.a21;have z21:=L.z21;have v21:=L.v21;have e152: ∀args w,(callFunc (ρ.f 152) args).run Tryz.prog w= .ok (.enter (ρ.f 152) args) w:=enters_of L.f152 (by kernel_rfl) rfl;have e226: ∀args w,(callFunc (ρ.f 226) args).run Tryz.prog w= .ok (.enter (ρ.f 226) args) w:=enters_of L.f226 (by kernel_rfl) rfl
 go_enter L.f153,Body.n153_ntmps ρ
 go_wp2_with (go_at_fn (ρ.f 226);refine(Any.strings_shouldUseASCIISet {L with} _ _).mono ?_;rintro e w' ⟨rfl,hw⟩;rw[hw,h8z])
 go_loopg [9,10] s.size (λg _ _ wx=>∃pos:Nat,s.size<=pos+g/\wx.heap[w.heap.size]? =some (.stringIter s pos)/\Below w.heap.size w wx/\Lib.NoAny s.data.toList [10,13] pos)
 case atStart=>exact⟨0,by omega,World.iter_heap w s 0,(Below.refl _ _).alloc (yJ _) _,Lib.NoAny.zero _ _⟩
 case round=>
  obtain⟨pos,hig,hit,hbw,hno⟩:=hrel;have HN:Aside (Lib.NoAny s.data.toList [10,13] pos):=hno;clear hno;by_cases hp:pos<s.size
  ·obtain⟨g,rfl⟩: ∃g,gk=g+1:=⟨gk -1,by omega⟩
   obtain⟨x,hx⟩: ∃x:UInt8,s[pos]'hp=x:=⟨_,rfl⟩
   have hxl:s.data.toList[pos]? =some x:=by rw[<-hx];exact Lib.data_getElem? s pos hp
   have Hx:Aside (s.data.toList[pos]? =some x):=hxl;clear hxl;have hlt:=lt_of_block hit;by_cases h128:x.toNat<128
   ·have hnx: ∀ty,(Instr.next (.pointer (some ⟨w.heap.size,0,none⟩)) true ty).run Tryz.prog wr=_:=λty=>Lib.run_next_ascii_at wr w.heap.size s pos ty hit hp (by rw[hx];exact h128)
    rw[hx]at hnx;have hit2:=Lib.iterAt_heap wr w.heap.size s pos (pos+1) hit;have hbw2:=Lib.below_iterAt hbw (k:=w.heap.size) (yJ _) s (pos+1);obtain⟨W1,hW1⟩: ∃W1,W1=wr.iterAt w.heap.size s (pos+1):=⟨_,rfl⟩
    rw[<-hW1]at hnx hit2 hbw2;have hcon:=Lib.contains_iff_indexByte nlB.data.toList x;have hback:((x.toNat:Int)).toNat.toUInt8=x:=by simp
    clear hW1 hit hbw hlt;cases hin:nlB.data.toList.contains x
    ·rw[hin]at hcon;have hlt: ¬((0:Int)<=Lib.indexByte nlB.data.toList x):=of_decide_eq_false hcon.symm;clear hcon
     go_wp2_with (go_at_fn (ρ.f 152);refine(Any.strings_IndexRune_ascii {L with} _ _ _ (by omega) (by omega)).mono ?_;rintro e w' ⟨rfl,hw⟩;rw[hw,hback])
     go_roundg g
     case measure=>omega
     case rel=>exact⟨pos+1,by omega,hit2,hbw2,HN.out.succ Hx.out hin⟩
    ·rw[hin]at hcon;have hge:(0:Int)<=Lib.indexByte nlB.data.toList x:=of_decide_eq_true hcon.symm;clear hcon
     go_wp2_with (go_at_fn (ρ.f 152);refine(Any.strings_IndexRune_ascii {L with} _ _ _ (by omega) (by omega)).mono ?_;rintro e w' ⟨rfl,hw⟩;rw[hw,hback])
     go_ret
     exact⟨by rw[Lib.indexAny_hit HN.out Hx.out hin];rfl,hbw2⟩
   ·have hnx: ∀ty,(Instr.next (.pointer (some ⟨w.heap.size,0,none⟩)) true ty).run Tryz.prog wr=_:=λty=>Lib.run_next_any_at wr w.heap.size s pos ty hit hp
    have hge:128<=(s[pos]'hp).toNat:=by rw[hx];omega
    have hdw:=zJE s pos hp hge;have hd1:=(decode_high s pos hp hge).1;have hd2:=(decode_high s pos hp hge).2;have hd3:=Lib.rune_le s pos;have hit2:=Lib.iterAt_heap wr w.heap.size s pos (pos+(Utf8.decode s pos).2) hit;have hbw2:=Lib.below_iterAt hbw (k:=w.heap.size) (yJ _) s (pos+(Utf8.decode s pos).2);have hsz:=Lib.iterAt_size wr w.heap.size s (pos+(Utf8.decode s pos).2);obtain⟨W1,hW1⟩: ∃W1,W1=wr.iterAt w.heap.size s (pos+(Utf8.decode s pos).2):=⟨_,rfl⟩
    rw[<-hW1]at hnx hit2 hbw2 hsz;obtain⟨R,hR⟩: ∃R,(Utf8.decode s pos).1=R:=⟨_,rfl⟩
    obtain⟨wd,hwd⟩: ∃wd,(Utf8.decode s pos).2=wd:=⟨_,rfl⟩
    rw[hR]at hnx hd1 hd3;rw[hwd]at hit2 hdw hd2;have HD:Aside (pos+wd<=s.size/\∀k,k<wd->∀b,s.data.toList[pos+k]? =some b->128<=b.toNat):=hdw;have hlt2:w.heap.size<W1.heap.size:=by rw[hsz];exact hlt
    clear hW1 hit hbw hR hwd hdw hsz
    go_wp2_with (go_at_fn (ρ.f 152);refine(zzF {L with} _ _ (by omega) (by omega)).mono ?_;rintro e w' ⟨rfl,hw⟩)
    go_roundg g
    case measure=>omega
    case rel=>
     have hno2:Lib.NoAny s.data.toList [10,13] (pos+wd):=λj b hj hb=>by
      by_cases hjp:j<pos
      ·exact HN.out j b hjp hb
      ·have:=HD.out.2 (j -pos) (by omega) b (by rw[show pos+(j -pos)=j from by omega];exact hb)
       cases hc:([10,13]:List UInt8).contains b with
       |false=>rfl
       |true=>
        exfalso;simp only[List.contains_cons,List.contains_nil,Bool.or_false,yQ,beq_iff_eq]at hc;rcases hc with rfl|rfl<;>revert this<;>decide
     exact⟨pos+wd,by omega,by rw[hw.block _ hlt2];exact hit2,hbw2.trans (hw.mono (by omega)),hno2⟩
  ·have hnx:=λty=>Lib.run_next_end_at (P:=Tryz.prog) wr w.heap.size s pos ty hit hp
   go_wp2
   go_ret
   refine⟨?_,hbw⟩;have:Lib.indexAny s.data.toList [10,13]= -1:=Lib.indexAny_none (λj b hj hb=>HN.out j b (by rw[<-Lib.size_eq]at hj;omega) hb)
   rw[this];rfl
theorem zrd(L:Lays.n153 Tryz.prog ρ)(h116:(Tryz.prog.info? (ρ.t 116)).map (λi=>(i.zero,i.size))=some (some (.agg (Array.replicate 256 (.bool false))),256))(s:ByteArray)(w:World)(hs:s.size<4294967281):
  Calls Tryz.prog (ρ.f 153) #[.string s,.string nlB] w λe w'=>e= .returned (.int .i64 (Lib.indexAny s.data.toList [10,13]))/\Below w.heap.size w w':=by
 by_cases h8:s.size<=8
 ·exact ztZ L s w h8
 ·refine(Any.strings_IndexAny_long L (zero_of_info h116).1 (zero_of_info h116).2 s nlB w (by decide) (by omega) hs (by decide) (λj b hb=>?_)).mono λe w' ⟨h1,h2⟩=>⟨h1,?_⟩
  ·have:j<2:=by
    rcases Nat.lt_or_ge j 2 with h|h
    ·exact h
    ·rw[List.getElem?_eq_none (by show 2<=j;exact h)]at hb;cases hb
   rcases j with _|_|j
   ·cases hb;decide
   ·cases hb;decide
   ·omega
  ·rw[h2];exact((Below.refl _ _).alloc (yJ _) _).alloc (by simp) _
set_option maxHeartbeats 1000000 in
theorem zxq(L:Lays.n150 Tryz.prog ρ)(h116:(Tryz.prog.info? (ρ.t 116)).map (λi=>(i.zero,i.size))=some (some (.agg (Array.replicate 256 (.bool false))),256))(s:ByteArray)(w:World)(hs:s.size<4294967281):
  Calls Tryz.prog (ρ.f 150) #[.string s,.string nlB] w λe w'=>e= .returned (.bool (Lib.containsAny s.data.toList [10,13]))/\Below w.heap.size w w':=by
 have c:=zrd {L with} h116 s w hs;have t3:=L.t3;have a3:=L.a3;have z3:=L.z3;have v3:=L.v3;have t4:=L.t4;have a4:=L.a4;have z4:=L.z4;have v4:=L.v4;have t9:=L.t9;have a9:=L.a9;have z9:=L.z9;have v9:=L.v9;have e153: ∀args w,(callFunc (ρ.f 153) args).run Tryz.prog w= .ok (.enter (ρ.f 153) args) w:=enters_of L.f153 (by kernel_rfl) rfl
 go_enter L.f150,Body.n150_ntmps ρ
 go_wp2_with (go_at_fn (ρ.f 153);refine c.mono ?_;rintro e w' ⟨rfl,hw⟩)
 go_ret
 exact⟨rfl,hw⟩
end Go.Gw
namespace Go.Proofs
open Go.Shelf
theorem Tryz.lays240:Lays.n240 Tryz.prog Tryz.lays165_ren:={Tryz.lays165 with}
theorem Tryz.zHx:Builder.X72 Tryz.prog Tryz.lays165_ren:={sizeBuilder:=by kernel_rfl,liesBuilder:=by kernel_rfl}
end Go.Proofs
namespace Go.Gw
open Go.Proofs Go.RowKit
set_option maxRecDepth 100000
noncomputable section
structure zaR (F:Heap):Prop where
  maxLen: ∃m,zkF F 0 0 (.int .i64 m)
  zFN:zkF F 7 15 (.int .u8 4)
  zIJ: ∃t p,zkF F 1 0 (.iface t p)
  zIV: ∃t p,zkF F 2 0 (.iface t p)
  zET: ∀w:World,F.Sub w->Lib.TabIs Tryz.prog w "internal/strconv.uint64pow10" .u64 Lib.pow10Tab
theorem zaR.mono{F F':Heap}(h:zaR F)(hle:F.Le F'):zaR F':=⟨h.maxLen.imp λ_ e=>ziX hle e,ziX hle h.zFN,h.zIJ.imp λ_ e=>e.imp λ_ e=>ziX hle e,h.zIV.imp λ_ e=>e.imp λ_ e=>ziX hle e,λw hs=>h.zET w ⟨λx o e=>hs.out x o (hle.out x o e)⟩⟩
def zdi:Option (Bool):=
  some true
theorem zdi.ok(r:Bool)(h0:zdi=some r)(w0:World)(F0:Heap)(hv:F0.Sub w0)(hG:zaR F0)(hg:SV.zbs F0 [.v (.int .i64 16)])(ρ:Nat->Nat):
    Calls Tryz.prog 232 (SV.zaV ρ [.v (.int .i64 16)]).toArray w0 (zfI w0 F0 λs=>s= .v (.bool r)):=by
 refine calls_of_wp Tryz.func232 rfl ?_;have hX:=Cx.enter (D:=No) (B:=[]) (L:=[]) (ρ:=ρ) (N:=8) Tryz.ntmps232 [.v (.int .i64 16)] (St.start hv) rfl hg (by kernel_rfl) (λ_ h=>by cases h) (yD rfl) No.zDp;unfold zdi at h0;refine Cx.ziv hX [] [0] (l':=[(0,.v (.int .i64 16))]) (B':=[]) (by kernel_rfl) λρ w a hX=>?_
 refine Cx.ziv hX [] [2] (l':=[(2,.v (.bool true))]) (B':=[]) (by kernel_rfl) λρ w a hX=>?_
 refine wp_ret ?_;have hr:=yS (show some _=some _ from h0);subst hr;exact hX.zGl (ss:=[.v (.bool true)]) (by kernel_rfl) (by kernel_rfl) rfl
def zdT:Option (Int):=
  some 4
theorem zdT.ok(r:Int)(h0:zdT=some r)(w0:World)(F0:Heap)(hv:F0.Sub w0)(hG:zaR F0)(hg:SV.zbs F0 [.v (.int .u64 16)])(ρ:Nat->Nat):
    Calls Tryz.prog 240 (SV.zaV ρ [.v (.int .u64 16)]).toArray w0 (zfI w0 F0 λs=>s= .v (.int .i64 r)):=by
 refine calls_of_wp Tryz.func240 rfl ?_;have hX:=Cx.enter (D:=No) (B:=[]) (L:=[]) (ρ:=ρ) (N:=14) Tryz.ntmps240 [.v (.int .u64 16)] (St.start hv) rfl hg (by kernel_rfl) (λ_ h=>by cases h) (yD rfl) No.zDp;unfold zdT at h0;refine Cx.ziv hX [] [0] (l':=[(0,.v (.int .u64 16))]) (B':=[]) (by kernel_rfl) λρ w a hX=>?_
 refine wp_seq_k λK2 hK2=>?_
 refine Cx.ziv hX [] [0,4] (l':=[(0,.v (.int .u64 16)),(4,.v (.bool false))]) (B':=[]) (by kernel_rfl) λρ w a hX=>?_
 refine Cx.cond hX (b:=false) (by kernel_rfl) (λh=>by cases h) (λ_=>?_);refine wp_skip ?_;refine hK2 _ _ ?_;refine wp_seq_k λK4 hK4=>?_
 refine wp_region_list ?_;refine hX.part [] 6 [10] (l':=[(10,.v (.int .u64 15))]) (B':=[]) (by kernel_rfl) λρ w a hX=>?_
 refine hX.zS5 (k:= .u64) (lit:=[]) (by kernel_rfl) (by kernel_rfl) rfl (g:=7) (n:=15) (by kernel_rfl) (by kernel_rfl) (by kernel_rfl) (hG.mono hX.st.le).zFN λa hX=>?_
 refine hX.part [] 3 [2] (l':=[(2,.v (.int .i64 4))]) (B':=[]) (by kernel_rfl) λρ w a hX=>?_
 refine zeh ?_;refine hK4 _ _ ?_;refine wp_ret ?_;have hr:=yS (show some _=some _ from h0);subst hr;exact hX.zGl (ss:=[.v (.int .i64 4)]) (by kernel_rfl) (by kernel_rfl) rfl
def zd3:Option (Int):=
  Option.bind (zdT) λv1=>
  some v1
theorem zd3.ok(r:Int)(h0:zd3=some r)(w0:World)(F0:Heap)(hv:F0.Sub w0)(hG:zaR F0)(hg:SV.zbs F0 [.v (.int .u64 16)])(ρ:Nat->Nat):
    Calls Tryz.prog 233 (SV.zaV ρ [.v (.int .u64 16)]).toArray w0 (zfI w0 F0 λs=>s= .v (.int .i64 r)):=by
 refine calls_of_wp Tryz.func233 rfl ?_;have hX:=Cx.enter (D:=No) (B:=[]) (L:=[]) (ρ:=ρ) (N:=8) Tryz.ntmps233 [.v (.int .u64 16)] (St.start hv) rfl hg (by kernel_rfl) (λ_ h=>by cases h) (yD rfl) No.zDp;unfold zd3 at h0;refine Cx.ziv hX [] [0] (l':=[(0,.v (.int .u64 16))]) (B':=[]) (by kernel_rfl) λρ w a hX=>?_
 refine wp_seq_k λK2 hK2=>?_
 refine Cx.cond hX (b:=false) (by kernel_rfl) (λh=>by cases h) (λ_=>?_);refine wp_skip ?_;refine hK2 _ _ ?_;refine wp_seq_k λK3 hK3=>?_
 refine wp_region_list ?_;refine hX.part [] 1 [6] (l':=[(6,.v (.int .u64 16))]) (B':=[]) (by kernel_rfl) λρ w a hX=>?_
 obtain⟨v1,hv1,h0⟩:=zaS h0;refine Cx.zER hX (lit:=[]) (by kernel_rfl) rfl (by kernel_rfl) ⟨⟨_,Tryz.func240,by kernel_rfl,rfl⟩⟩ (ss:=[.v (.int .u64 16)]) (by kernel_rfl) [.v (.int .u64 16)] rfl (λhg=>hg) (λhv hle hg=>zdT.ok v1 hv1 _ _ hv (hG.mono hle) hg _) (λs F w a hp hX=>?_);subst hp;refine hX.part [] 1 [2] (l':=[(2,.v (.int .i64 v1))]) (B':=[]) (by kernel_rfl) λρ w a hX=>?_
 refine zeh ?_;refine hK3 _ _ ?_;refine wp_ret ?_;have hr:=yS (show some _=some _ from h0);subst hr;exact hX.zGl (ss:=[.v (.int .i64 v1)]) (by kernel_rfl) (by kernel_rfl) rfl
def zN.l1(v4:Int)(s:Int×Int×(List UInt8)):Option ((Int×Int×(List UInt8))⊕((Int×Int×(List UInt8)))):=match s with
  | (x9,x10,x11)=>
  if(decide (x9>=16))=true then
    Option.bind (zbc ([48,49,50,51,52,53,54,55,56,57,97,98,99,100,101,102,103,104,105,106,107,108,109,110,111,112,113,114,115,116,117,118,119,120,121,122]:Str) (IntKind.wrap .u64 ((BitVec.ofInt 64 x9&&&BitVec.ofInt 64 15).toNat))) λv12=>
    Option.bind (zEo 65 x11 (IntKind.wrap .i64 (x10 -1))) λv13=>
    Option.bind (toB v12) λb14=>
    Option.bind (zLm .u64 x9 (IntKind.wrap .u64 v4)) λv15=>
    some (.inl (v15,(IntKind.wrap .i64 (x10 -1)),(zk5 x11 (IntKind.wrap .i64 (x10 -1)) b14)))
  else
    some (.inr (x9,x10,x11))
def zN.j3(x48:Int)(x49:List UInt8):Option ((List UInt8)×Str):=
  Option.bind (zN4 65 x49 x48 ((x49.length:Nat):Int)) λv50=>
  some (([]:List UInt8),v50)
def zN.j2(neg:Bool)(x45:Int)(x46:List UInt8):Option ((List UInt8)×Str):=
  if neg=true then
    Option.bind (zEo 65 x46 (IntKind.wrap .i64 (x45 -1))) λv47=>
    zN.j3 (IntKind.wrap .i64 (x45 -1)) (zk5 x46 (IntKind.wrap .i64 (x45 -1)) (45:UInt8))
  else
    zN.j3 x45 x46
def zN.l2(s:Int×Int×(List UInt8)):Option ((Int×Int×(List UInt8))⊕((Int×Int×(List UInt8)))):=match s with
  | (x29,x30,x31)=>
  if(decide (x29>=16))=true then
    Option.bind (zJp .u64 x29 16) λv32=>
    Option.bind (zbc ([48,49,50,51,52,53,54,55,56,57,97,98,99,100,101,102,103,104,105,106,107,108,109,110,111,112,113,114,115,116,117,118,119,120,121,122]:Str) (IntKind.wrap .u64 (x29 - (IntKind.wrap .u64 (v32*16))))) λv33=>
    Option.bind (zEo 65 x31 (IntKind.wrap .i64 (x30 -1))) λv34=>
    Option.bind (toB v33) λb35=>
    some (.inl (v32,(IntKind.wrap .i64 (x30 -1)),(zk5 x31 (IntKind.wrap .i64 (x30 -1)) b35)))
  else
    some (.inr (x29,x30,x31))
def zN.j1(neg:Bool)(x2:Int):Option ((List UInt8)×Str):=
  Option.bind (zdi) λv3=>
  if v3=true then
    Option.bind (zd3) λv4=>
    Option.bind (zFi (zN.l1 v4) (x2,65,(List.replicate 65 (0:UInt8)))) λe=>match e with
    | (x19,x20,x21)=>
      Option.bind (zbc ([48,49,50,51,52,53,54,55,56,57,97,98,99,100,101,102,103,104,105,106,107,108,109,110,111,112,113,114,115,116,117,118,119,120,121,122]:Str) x19) λv22=>
      Option.bind (zEo 65 x21 (IntKind.wrap .i64 (x20 -1))) λv23=>
      Option.bind (toB v22) λb24=>
      zN.j2 neg (IntKind.wrap .i64 (x20 -1)) (zk5 x21 (IntKind.wrap .i64 (x20 -1)) b24)
  else
    Option.bind (zFi (zN.l2) (x2,65,(List.replicate 65 (0:UInt8)))) λe=>match e with
    | (x39,x40,x41)=>
      Option.bind (zbc ([48,49,50,51,52,53,54,55,56,57,97,98,99,100,101,102,103,104,105,106,107,108,109,110,111,112,113,114,115,116,117,118,119,120,121,122]:Str) x39) λv42=>
      Option.bind (zEo 65 x41 (IntKind.wrap .i64 (x40 -1))) λv43=>
      Option.bind (toB v42) λb44=>
      zN.j2 neg (IntKind.wrap .i64 (x40 -1)) (zk5 x41 (IntKind.wrap .i64 (x40 -1)) b44)
def zN(u:Int)(neg:Bool):Option ((List UInt8)×Str):=
  if neg=true then
    zN.j1 neg (IntKind.wrap .u64 (0 -u))
  else
    zN.j1 neg u
theorem zN.ok(u:Int)(neg:Bool)(r:(List UInt8)×Str)(h0:zN u neg=some r)(w0:World)(F0:Heap)(hv:F0.Sub w0)(hG:zaR F0)(hg:SV.zbs F0 [.v (.slice none 0 0),.v (.int .u64 u),.v (.int .i64 16),.v (.bool neg),.v (.bool false)])(ρ:Nat->Nat):
    Calls Tryz.prog 217 (SV.zaV ρ [.v (.slice none 0 0),.v (.int .u64 u),.v (.int .i64 16),.v (.bool neg),.v (.bool false)]).toArray w0 (zfI w0 F0 λs=>∃s1 s2,s= .tup [s1,s2]/\(∃A c,s1=SV.sl zed r.1 A c)/\(s2= .v (.string ⟨⟨r.2⟩⟩))):=by
 refine calls_of_wp Tryz.func217 rfl ?_;have hX:=Cx.enter (D:=No) (B:=[]) (L:=[]) (ρ:=ρ) (N:=102) Tryz.ntmps217 [.v (.slice none 0 0),.v (.int .u64 u),.v (.int .i64 16),.v (.bool neg),.v (.bool false)] (St.start hv) rfl hg (by kernel_rfl) (λ_ h=>by cases h) (yD rfl) No.zDp;unfold zN at h0;refine Cx.ziv hX [] [0,1,2,3,4,10,11] (l':=[(0,.v (.slice none 0 0)),(1,.v (.int .u64 u)),(2,.v (.int .i64 16)),(3,.v (.bool neg)),(4,.v (.bool false)),(10,.v (.slice none 0 0)),(11,.v (.string ⟨⟨([]:Str)⟩⟩))]) (B':=[]) (by kernel_rfl) λρ w a hX=>?_
 refine wp_seq_k λK2 hK2=>?_
 refine Cx.ziv hX [2,6] [0,1,2,3,4,10,11,28] (l':=[(0,.v (.slice none 0 0)),(1,.v (.int .u64 u)),(2,.v (.int .i64 16)),(3,.v (.bool neg)),(4,.v (.bool false)),(10,.v (.slice none 0 0)),(11,.v (.string ⟨⟨([]:Str)⟩⟩)),(28,.v (.bool false))]) (B':=[]) (by kernel_rfl) λρ w a hX=>?_
 refine Cx.cond hX (b:=false) (by kernel_rfl) (λh=>by cases h) (λ_=>?_);refine wp_skip ?_;refine hK2 _ _ ?_;refine wp_seq_k λK4 hK4=>?_
 refine wp_region_list ?_;refine hX.part [] 1 [0,1,2,3,4,10,11,12] (l':=[(0,.v (.slice none 0 0)),(1,.v (.int .u64 u)),(2,.v (.int .i64 16)),(3,.v (.bool neg)),(4,.v (.bool false)),(10,.v (.slice none 0 0)),(11,.v (.string ⟨⟨([]:Str)⟩⟩)),(12,.ptr 0 0)]) (B':=[some ⟨189,[.v (.int .u8 0),.v (.int .u8 0),.v (.int .u8 0),.v (.int .u8 0),.v (.int .u8 0),.v (.int .u8 0),.v (.int .u8 0),.v (.int .u8 0),.v (.int .u8 0),.v (.int .u8 0),.v (.int .u8 0),.v (.int .u8 0),.v (.int .u8 0),.v (.int .u8 0),.v (.int .u8 0),.v (.int .u8 0),.v (.int .u8 0),.v (.int .u8 0),.v (.int .u8 0),.v (.int .u8 0),.v (.int .u8 0),.v (.int .u8 0),.v (.int .u8 0),.v (.int .u8 0),.v (.int .u8 0),.v (.int .u8 0),.v (.int .u8 0),.v (.int .u8 0),.v (.int .u8 0),.v (.int .u8 0),.v (.int .u8 0),.v (.int .u8 0),.v (.int .u8 0),.v (.int .u8 0),.v (.int .u8 0),.v (.int .u8 0),.v (.int .u8 0),.v (.int .u8 0),.v (.int .u8 0),.v (.int .u8 0),.v (.int .u8 0),.v (.int .u8 0),.v (.int .u8 0),.v (.int .u8 0),.v (.int .u8 0),.v (.int .u8 0),.v (.int .u8 0),.v (.int .u8 0),.v (.int .u8 0),.v (.int .u8 0),.v (.int .u8 0),.v (.int .u8 0),.v (.int .u8 0),.v (.int .u8 0),.v (.int .u8 0),.v (.int .u8 0),.v (.int .u8 0),.v (.int .u8 0),.v (.int .u8 0),.v (.int .u8 0),.v (.int .u8 0),.v (.int .u8 0),.v (.int .u8 0),.v (.int .u8 0),.v (.int .u8 0)]⟩]) (by kernel_rfl) λρ w a hX=>?_
 obtain⟨b1,hX⟩:=Cx.zS3 (d:=zed) (e:=189) (k:=0) (t:=12) (m:=65) (List.replicate 65 ((0:UInt8),())) hX rfl (by kernel_rfl) (by kernel_rfl) rfl (by decide) ⟨_,rfl⟩ rfl;have hX:Cx 102 _ _ _ _ _ [zhc 189 zed (some ⟨b1,0,none⟩) 65 (List.replicate 65 (0:UInt8))] [none] ρ _ _:=hX;refine zeh ?_;refine hK4 _ _ ?_;refine Cx.ziv hX [] [0,1,2,3,4,10,11,12,13] (l':=[(0,.v (.slice none 0 0)),(1,.v (.int .u64 u)),(2,.v (.int .i64 16)),(3,.v (.bool neg)),(4,.v (.bool false)),(10,.v (.slice none 0 0)),(11,.v (.string ⟨⟨([]:Str)⟩⟩)),(12,.v (.pointer (some ⟨b1,0,none⟩))),(13,.v (.int .i64 65))]) (B':=[none]) (by kernel_rfl) λρ w a hX=>?_
 refine wp_seq_k λK6 hK6=>?_
 have J6: ∀(x2:Int),zN.j1 neg x2=some r->∀(ρ:Nat->Nat) (w:World) (F:Heap) (a:Act),Cx 102 w0 F0 No w F [zhc 189 zed (some ⟨b1,0,none⟩) 65 (List.replicate 65 (0:UInt8))] [] ρ [(0,.v (.slice none 0 0)),(1,.v (.int .u64 x2)),(2,.v (.int .i64 16)),(3,.v (.bool neg)),(4,.v (.bool false)),(10,.v (.slice none 0 0)),(11,.v (.string ⟨⟨([]:Str)⟩⟩)),(12,.v (.pointer (some ⟨b1,0,none⟩))),(13,.v (.int .i64 65))] a->K6 a w:=by
  intro x2 h0 ρ w F a hX;unfold zN.j1 at h0;refine hK6 _ _ ?_;refine wp_seq_k λK8 hK8=>?_
  have J8: ∀(x45:Int) (x46:List UInt8),zN.j2 neg x45 x46=some r->∀(ρ:Nat->Nat) (w:World) (F:Heap) (a:Act),Cx 102 w0 F0 No w F [zhc 189 zed (some ⟨b1,0,none⟩) 65 x46] [] ρ [(0,.v (.slice none 0 0)),(3,.v (.bool neg)),(4,.v (.bool false)),(10,.v (.slice none 0 0)),(11,.v (.string ⟨⟨([]:Str)⟩⟩)),(12,.v (.pointer (some ⟨b1,0,none⟩))),(13,.v (.int .i64 x45))] a->K8 a w:=by
   intro x45 x46 h0 ρ w F a hX;unfold zN.j2 at h0;refine hK8 _ _ ?_;refine wp_seq_k λK36 hK36=>?_
   have J36: ∀(x48:Int) (x49:List UInt8),zN.j3 x48 x49=some r->∀(ρ:Nat->Nat) (w:World) (F:Heap) (a:Act),Cx 102 w0 F0 No w F [zhc 189 zed (some ⟨b1,0,none⟩) 65 x49] [] ρ [(0,.v (.slice none 0 0)),(4,.v (.bool false)),(10,.v (.slice none 0 0)),(11,.v (.string ⟨⟨([]:Str)⟩⟩)),(12,.v (.pointer (some ⟨b1,0,none⟩))),(13,.v (.int .i64 x48))] a->K36 a w:=by
    intro x48 x49 h0 ρ w F a hX;unfold zN.j3 at h0;refine hK36 _ _ ?_;refine wp_seq_k λK39 hK39=>?_
    refine Cx.ziv hX [] [0,10,11,12,13,94] (l':=[(0,.v (.slice none 0 0)),(10,.v (.slice none 0 0)),(11,.v (.string ⟨⟨([]:Str)⟩⟩)),(12,.v (.pointer (some ⟨b1,0,none⟩))),(13,.v (.int .i64 x48)),(94,.v (.bool false))]) (B':=[]) (by kernel_rfl) λρ w a hX=>?_
    refine Cx.cond hX (b:=false) (by kernel_rfl) (λh=>by cases h) (λ_=>?_);refine wp_skip ?_;refine hK39 _ _ ?_;refine wp_seq_k λK41 hK41=>?_
    refine wp_region_list ?_;refine hX.part [] 1 [10,11,12,99] (l':=[(10,.v (.slice none 0 0)),(11,.v (.string ⟨⟨([]:Str)⟩⟩)),(12,.v (.pointer (some ⟨b1,0,none⟩))),(99,.v (.int .i64 x48))]) (B':=[]) (by kernel_rfl) λρ w a hX=>?_
    obtain⟨v50,hv50,h0⟩:=zaS h0;have hmv50:=(zGI hv50).1;replace hv50:=(zGI hv50).2;refine hX.zR0 (d:=zed) (e:=5) (e2:=189) (i:=0) (b:=b1) (m:=65) (xs:=x49) (ol:=some x48) (oh:=none) (r:=v50) (lit:=[]) (by kernel_rfl) (by kernel_rfl) rfl hmv50 rfl (by kernel_rfl) (by kernel_rfl) (by kernel_rfl) (by kernel_rfl) (by kernel_rfl) hv50 λF A51 c52 a hX=>?_
    have hX:Cx 102 _ _ _ _ _ [] [] ρ _ _:=hX;refine hX.zTN (lit:=[]) (by kernel_rfl) (by kernel_rfl) rfl (e:=5) (xs:=v50) (A:=A51) (c:=c52) (by kernel_rfl) (by kernel_rfl) (by kernel_rfl) (by kernel_rfl) λa hX=>?_
    refine hX.part [] 1 [10,11] (l':=[(10,.v (.slice none 0 0)),(11,.v (.string ⟨⟨v50⟩⟩))]) (B':=[]) (by kernel_rfl) λρ w a hX=>?_
    refine zeh ?_;refine hK41 _ _ ?_;refine wp_ret ?_;have hX:=hX.zTq 10 zed (by kernel_rfl);have hr:=yS (show some _=some _ from h0);subst hr;exact hX.zGl (ss:=[SV.sl zed ([]:List UInt8) none 0,.v (.string ⟨⟨v50⟩⟩)]) (by kernel_rfl) (by kernel_rfl) ⟨_,_,rfl,⟨_,_,rfl⟩,rfl⟩
   refine Cx.ziv hX [] [0,4,10,11,12,13,89] (l':=[(0,.v (.slice none 0 0)),(4,.v (.bool false)),(10,.v (.slice none 0 0)),(11,.v (.string ⟨⟨([]:Str)⟩⟩)),(12,.v (.pointer (some ⟨b1,0,none⟩))),(13,.v (.int .i64 x45)),(89,.v (.bool neg))]) (B':=[]) (by kernel_rfl) λρ w a hX=>?_
   refine Cx.cond hX (b:=neg) (by kernel_rfl) (λhb=>?_) (λhb=>?_)
   ·have h0:=zCN h0 hb;refine Cx.ziv hX [] [0,4,10,11,12,13] (l':=[(0,.v (.slice none 0 0)),(4,.v (.bool false)),(10,.v (.slice none 0 0)),(11,.v (.string ⟨⟨([]:Str)⟩⟩)),(12,.v (.pointer (some ⟨b1,0,none⟩))),(13,.v (.int .i64 (IntKind.wrap .i64 (x45 -1))))]) (B':=[]) (by kernel_rfl) λρ w a hX=>?_
    refine wp_region_list ?_;refine hX.part [] 1 [0,4,10,11,12,13,92] (l':=[(0,.v (.slice none 0 0)),(4,.v (.bool false)),(10,.v (.slice none 0 0)),(11,.v (.string ⟨⟨([]:Str)⟩⟩)),(12,.v (.pointer (some ⟨b1,0,none⟩))),(13,.v (.int .i64 (IntKind.wrap .i64 (x45 -1)))),(92,.v (.int .i64 (IntKind.wrap .i64 (x45 -1))))]) (B':=[]) (by kernel_rfl) λρ w a hX=>?_
    obtain⟨v47,hv47,h0⟩:=zaS h0;have hmv47:=(zi4 hv47).1;replace hv47:=(zi4 hv47).2;refine hX.zvi (d:=zed) (e:=5) (b:=b1) (xs:=x46) (k:= .i64) (n:=(IntKind.wrap .i64 (x45 -1))) (v:=v47) (lit:=[]) (by kernel_rfl) (by kernel_rfl) rfl (by kernel_rfl) (by kernel_rfl) (by kernel_rfl) (by kernel_rfl) hv47 hmv47 λa hX=>?_
    refine hX.zve (d:=zed) (lit:=[]) (e:=189) (i:=0) (b:=b1) (xs:=x46) (c:=65) (n:=(IntKind.wrap .i64 (x45 -1))) (v:=v47) (u:=(45:UInt8)) (y:=()) (s:= .v (.int .u8 45)) (by kernel_rfl) rfl rfl rfl (by kernel_rfl) (by kernel_rfl) (by kernel_rfl) (by kernel_rfl) ⟨_,rfl⟩ hv47 λw a hX=>?_
    have hX:Cx 102 _ _ _ _ _ [zhc 189 zed (some ⟨b1,0,none⟩) 65 (zk5 x46 (IntKind.wrap .i64 (x45 -1)) (45:UInt8))] [] ρ _ _:=hX;refine zeh ?_;have hX:=hX.keeps [0,4,10,11,12,13] (l':=[(0,.v (.slice none 0 0)),(4,.v (.bool false)),(10,.v (.slice none 0 0)),(11,.v (.string ⟨⟨([]:Str)⟩⟩)),(12,.v (.pointer (some ⟨b1,0,none⟩))),(13,.v (.int .i64 (IntKind.wrap .i64 (x45 -1))))]) (by kernel_rfl);exact J36 (IntKind.wrap .i64 (x45 -1)) (zk5 x46 (IntKind.wrap .i64 (x45 -1)) (45:UInt8)) h0 _ _ _ _ hX
   ·have h0:=zCi h0 hb;refine wp_skip ?_;have hX:=hX.keeps [0,4,10,11,12,13] (l':=[(0,.v (.slice none 0 0)),(4,.v (.bool false)),(10,.v (.slice none 0 0)),(11,.v (.string ⟨⟨([]:Str)⟩⟩)),(12,.v (.pointer (some ⟨b1,0,none⟩))),(13,.v (.int .i64 x45))]) (by kernel_rfl);exact J36 x45 x46 h0 _ _ _ _ hX
  refine wp_seq_k λK9 hK9=>?_
  refine wp_region_list ?_;refine hX.part [] 1 [0,1,2,3,4,10,11,12,13,33] (l':=[(0,.v (.slice none 0 0)),(1,.v (.int .u64 x2)),(2,.v (.int .i64 16)),(3,.v (.bool neg)),(4,.v (.bool false)),(10,.v (.slice none 0 0)),(11,.v (.string ⟨⟨([]:Str)⟩⟩)),(12,.v (.pointer (some ⟨b1,0,none⟩))),(13,.v (.int .i64 65)),(33,.v (.int .i64 16))]) (B':=[]) (by kernel_rfl) λρ w a hX=>?_
  obtain⟨v3,hv3,h0⟩:=zaS h0;refine Cx.zER hX (lit:=[]) (by kernel_rfl) rfl (by kernel_rfl) ⟨⟨_,Tryz.func232,by kernel_rfl,rfl⟩⟩ (ss:=[.v (.int .i64 16)]) (by kernel_rfl) [.v (.int .i64 16)] rfl (λhg=>hg) (λhv hle hg=>zdi.ok v3 hv3 _ _ hv (hG.mono hle) hg _) (λs F w a hp hX=>?_);subst hp;refine zeh ?_;refine hK9 _ _ ?_;refine Cx.cond hX (b:=v3) (by kernel_rfl) (λhb=>?_) (λhb=>?_)
  ·have h0:=zCN h0 hb;refine wp_seq_k λK10 hK10=>?_
   refine wp_region_list ?_;refine hX.part [] 2 [0,1,2,3,4,10,11,12,13,36] (l':=[(0,.v (.slice none 0 0)),(1,.v (.int .u64 x2)),(2,.v (.int .i64 16)),(3,.v (.bool neg)),(4,.v (.bool false)),(10,.v (.slice none 0 0)),(11,.v (.string ⟨⟨([]:Str)⟩⟩)),(12,.v (.pointer (some ⟨b1,0,none⟩))),(13,.v (.int .i64 65)),(36,.v (.int .u64 16))]) (B':=[]) (by kernel_rfl) λρ w a hX=>?_
   obtain⟨v4,hv4,h0⟩:=zaS h0;refine Cx.zER hX (lit:=[]) (by kernel_rfl) rfl (by kernel_rfl) ⟨⟨_,Tryz.func233,by kernel_rfl,rfl⟩⟩ (ss:=[.v (.int .u64 16)]) (by kernel_rfl) [.v (.int .u64 16)] rfl (λhg=>hg) (λhv hle hg=>zd3.ok v4 hv4 _ _ hv (hG.mono hle) hg _) (λs F w a hp hX=>?_);subst hp;refine hX.part [] 2 [0,1,2,3,4,10,11,12,13,14] (l':=[(0,.v (.slice none 0 0)),(1,.v (.int .u64 x2)),(2,.v (.int .i64 16)),(3,.v (.bool neg)),(4,.v (.bool false)),(10,.v (.slice none 0 0)),(11,.v (.string ⟨⟨([]:Str)⟩⟩)),(12,.v (.pointer (some ⟨b1,0,none⟩))),(13,.v (.int .i64 65)),(14,.v (.int .u64 (IntKind.wrap .u64 v4)))]) (B':=[]) (by kernel_rfl) λρ w a hX=>?_
   refine zeh ?_;refine hK10 _ _ ?_;refine Cx.ziv hX [] [0,1,2,3,4,10,11,12,13,14,15] (l':=[(0,.v (.slice none 0 0)),(1,.v (.int .u64 x2)),(2,.v (.int .i64 16)),(3,.v (.bool neg)),(4,.v (.bool false)),(10,.v (.slice none 0 0)),(11,.v (.string ⟨⟨([]:Str)⟩⟩)),(12,.v (.pointer (some ⟨b1,0,none⟩))),(13,.v (.int .i64 65)),(14,.v (.int .u64 (IntKind.wrap .u64 v4))),(15,.v (.int .u64 16))]) (B':=[]) (by kernel_rfl) λρ w a hX=>?_
   refine Cx.ziv hX [] [0,1,3,4,10,11,12,13,14,15,16] (l':=[(0,.v (.slice none 0 0)),(1,.v (.int .u64 x2)),(3,.v (.bool neg)),(4,.v (.bool false)),(10,.v (.slice none 0 0)),(11,.v (.string ⟨⟨([]:Str)⟩⟩)),(12,.v (.pointer (some ⟨b1,0,none⟩))),(13,.v (.int .i64 65)),(14,.v (.int .u64 (IntKind.wrap .u64 v4))),(15,.v (.int .u64 16)),(16,.v (.int .u64 15))]) (B':=[]) (by kernel_rfl) λρ w a hX=>?_
   refine wp_seq_k λK13 hK13=>?_
   refine wp_block ?_;have hX:=hX.keeps [0,1,3,4,10,11,12,13,14,15,16] (l':=[(0,.v (.slice none 0 0)),(1,.v (.int .u64 x2)),(3,.v (.bool neg)),(4,.v (.bool false)),(10,.v (.slice none 0 0)),(11,.v (.string ⟨⟨([]:Str)⟩⟩)),(12,.v (.pointer (some ⟨b1,0,none⟩))),(13,.v (.int .i64 65)),(14,.v (.int .u64 (IntKind.wrap .u64 v4))),(15,.v (.int .u64 16)),(16,.v (.int .u64 15))]) (by kernel_rfl);obtain⟨e1,he1,h0⟩:=zaS h0
   have E1x0: ∀(x19:Int) (x20:Int) (x21:List UInt8),e1=(x19,x20,x21)->∀(ρ:Nat->Nat) (w:World) (F:Heap) (a:Act),Cx 102 w0 F0 No w F [zhc 189 zed (some ⟨b1,0,none⟩) 65 x21] [] ρ [(0,.v (.slice none 0 0)),(1,.v (.int .u64 x19)),(3,.v (.bool neg)),(4,.v (.bool false)),(10,.v (.slice none 0 0)),(11,.v (.string ⟨⟨([]:Str)⟩⟩)),(12,.v (.pointer (some ⟨b1,0,none⟩))),(13,.v (.int .i64 x20))] a->K13 a w:=by
    intro x19 x20 x21 he ρ w F a hX;replace he:=he.symm;subst he
    (try dsimp only at h0)
    refine hK13 _ _ ?_;refine Cx.ziv hX [] [0,1,3,4,10,11,12,13] (l':=[(0,.v (.slice none 0 0)),(1,.v (.int .u64 x19)),(3,.v (.bool neg)),(4,.v (.bool false)),(10,.v (.slice none 0 0)),(11,.v (.string ⟨⟨([]:Str)⟩⟩)),(12,.v (.pointer (some ⟨b1,0,none⟩))),(13,.v (.int .i64 (IntKind.wrap .i64 (x20 -1))))]) (B':=[]) (by kernel_rfl) λρ w a hX=>?_
    refine wp_region_list ?_;refine hX.part [] 2 [0,3,4,10,11,12,13,60,61] (l':=[(0,.v (.slice none 0 0)),(3,.v (.bool neg)),(4,.v (.bool false)),(10,.v (.slice none 0 0)),(11,.v (.string ⟨⟨([]:Str)⟩⟩)),(12,.v (.pointer (some ⟨b1,0,none⟩))),(13,.v (.int .i64 (IntKind.wrap .i64 (x20 -1)))),(60,.v (.int .i64 (IntKind.wrap .i64 (x20 -1)))),(61,.v (.int .u64 x19))]) (B':=[]) (by kernel_rfl) λρ w a hX=>?_
    obtain⟨v22,hv22,h0⟩:=zaS h0;refine hX.zE3 (lit:=[]) (by kernel_rfl) (by kernel_rfl) rfl (s:=([48,49,50,51,52,53,54,55,56,57,97,98,99,100,101,102,103,104,105,106,107,108,109,110,111,112,113,114,115,116,117,118,119,120,121,122]:Str)) (k:= .u64) (n:=x19) (b:=v22) (by kernel_rfl) (by kernel_rfl) (by kernel_rfl) hv22 λa hX=>?_
    obtain⟨v23,hv23,h0⟩:=zaS h0;have hmv23:=(zi4 hv23).1;replace hv23:=(zi4 hv23).2;refine hX.zvi (d:=zed) (e:=5) (b:=b1) (xs:=x21) (k:= .i64) (n:=(IntKind.wrap .i64 (x20 -1))) (v:=v23) (lit:=[]) (by kernel_rfl) (by kernel_rfl) rfl (by kernel_rfl) (by kernel_rfl) (by kernel_rfl) (by kernel_rfl) hv23 hmv23 λa hX=>?_
    obtain⟨b24,hb24,h0⟩:=zaS h0;have hX:=hX.zzf (t:=62) (s:= .v (.int .u8 v22)) (s':= .v (.int .u8 ((b24.toNat:Nat):Int))) (by kernel_rfl) (by simp only[SV.den,zrR hb24]) trivial rfl;refine hX.zve (d:=zed) (lit:=[]) (e:=189) (i:=0) (b:=b1) (xs:=x21) (c:=65) (n:=(IntKind.wrap .i64 (x20 -1))) (v:=v23) (u:=b24) (y:=()) (s:= .v (.int .u8 ((b24.toNat:Nat):Int))) (by kernel_rfl) rfl rfl rfl (by kernel_rfl) (by kernel_rfl) (by kernel_rfl) (by kernel_rfl) ⟨_,rfl⟩ hv23 λw a hX=>?_
    have hX:Cx 102 _ _ _ _ _ [zhc 189 zed (some ⟨b1,0,none⟩) 65 (zk5 x21 (IntKind.wrap .i64 (x20 -1)) b24)] [] ρ _ _:=hX;refine zeh ?_;have hX:=hX.keeps [0,3,4,10,11,12,13] (l':=[(0,.v (.slice none 0 0)),(3,.v (.bool neg)),(4,.v (.bool false)),(10,.v (.slice none 0 0)),(11,.v (.string ⟨⟨([]:Str)⟩⟩)),(12,.v (.pointer (some ⟨b1,0,none⟩))),(13,.v (.int .i64 (IntKind.wrap .i64 (x20 -1))))]) (by kernel_rfl);exact J8 (IntKind.wrap .i64 (x20 -1)) (zk5 x21 (IntKind.wrap .i64 (x20 -1)) b24) h0 _ _ _ _ hX
   refine zKo (λ(s:Int×Int×(List UInt8)) a w=>match s with| (x9,x10,x11)=>∃(ρ:Nat->Nat) (F:Heap),Cx 102 w0 F0 No w F [zhc 189 zed (some ⟨b1,0,none⟩) 65 x11] [] ρ [(0,.v (.slice none 0 0)),(1,.v (.int .u64 x9)),(3,.v (.bool neg)),(4,.v (.bool false)),(10,.v (.slice none 0 0)),(11,.v (.string ⟨⟨([]:Str)⟩⟩)),(12,.v (.pointer (some ⟨b1,0,none⟩))),(13,.v (.int .i64 x10)),(14,.v (.int .u64 (IntKind.wrap .u64 v4))),(15,.v (.int .u64 16)),(16,.v (.int .u64 15))] a) he1 (λLW1 s o1 h1 hb1 hx1 a w hI=>?_) _ _ ?_
   ·obtain⟨x9,x10,x11⟩:=s;obtain⟨ρ,F,hX⟩:=hI;unfold zN.l1 at h1
    (try dsimp only at h1)
    refine wp_seq_k λK18 hK18=>?_
    refine Cx.ziv hX [] [0,1,3,4,10,11,12,13,14,15,16,46] (l':=[(0,.v (.slice none 0 0)),(1,.v (.int .u64 x9)),(3,.v (.bool neg)),(4,.v (.bool false)),(10,.v (.slice none 0 0)),(11,.v (.string ⟨⟨([]:Str)⟩⟩)),(12,.v (.pointer (some ⟨b1,0,none⟩))),(13,.v (.int .i64 x10)),(14,.v (.int .u64 (IntKind.wrap .u64 v4))),(15,.v (.int .u64 16)),(16,.v (.int .u64 15)),(46,.v (.bool (decide (x9>=16))))]) (B':=[]) (by kernel_rfl) λρ w a hX=>?_
    refine Cx.cond hX (b:=(decide (x9>=16))) (by kernel_rfl) (λhb=>?_) (λhb=>?_)
    ·have h1:=zCN h1 hb;refine wp_skip ?_;refine hK18 _ _ ?_;refine wp_block ?_;refine Cx.ziv hX [] [0,1,3,4,10,11,12,13,14,15,16] (l':=[(0,.v (.slice none 0 0)),(1,.v (.int .u64 x9)),(3,.v (.bool neg)),(4,.v (.bool false)),(10,.v (.slice none 0 0)),(11,.v (.string ⟨⟨([]:Str)⟩⟩)),(12,.v (.pointer (some ⟨b1,0,none⟩))),(13,.v (.int .i64 (IntKind.wrap .i64 (x10 -1)))),(14,.v (.int .u64 (IntKind.wrap .u64 v4))),(15,.v (.int .u64 16)),(16,.v (.int .u64 15))]) (B':=[]) (by kernel_rfl) λρ w a hX=>?_
     refine wp_seq_k λK21 hK21=>?_
     refine wp_region_list ?_;refine hX.part [] 4 [0,1,3,4,10,11,12,13,14,15,16,49,52] (l':=[(0,.v (.slice none 0 0)),(1,.v (.int .u64 x9)),(3,.v (.bool neg)),(4,.v (.bool false)),(10,.v (.slice none 0 0)),(11,.v (.string ⟨⟨([]:Str)⟩⟩)),(12,.v (.pointer (some ⟨b1,0,none⟩))),(13,.v (.int .i64 (IntKind.wrap .i64 (x10 -1)))),(14,.v (.int .u64 (IntKind.wrap .u64 v4))),(15,.v (.int .u64 16)),(16,.v (.int .u64 15)),(49,.v (.int .i64 (IntKind.wrap .i64 (x10 -1)))),(52,.v (.int .u64 (IntKind.wrap .u64 ((BitVec.ofInt 64 x9&&&BitVec.ofInt 64 15).toNat))))]) (B':=[]) (by kernel_rfl) λρ w a hX=>?_
     obtain⟨v12,hv12,h1⟩:=zaS h1;refine hX.zE3 (lit:=[]) (by kernel_rfl) (by kernel_rfl) rfl (s:=([48,49,50,51,52,53,54,55,56,57,97,98,99,100,101,102,103,104,105,106,107,108,109,110,111,112,113,114,115,116,117,118,119,120,121,122]:Str)) (k:= .u64) (n:=(IntKind.wrap .u64 ((BitVec.ofInt 64 x9&&&BitVec.ofInt 64 15).toNat))) (b:=v12) (by kernel_rfl) (by kernel_rfl) (by kernel_rfl) hv12 λa hX=>?_
     obtain⟨v13,hv13,h1⟩:=zaS h1;have hmv13:=(zi4 hv13).1;replace hv13:=(zi4 hv13).2;refine hX.zvi (d:=zed) (e:=5) (b:=b1) (xs:=x11) (k:= .i64) (n:=(IntKind.wrap .i64 (x10 -1))) (v:=v13) (lit:=[]) (by kernel_rfl) (by kernel_rfl) rfl (by kernel_rfl) (by kernel_rfl) (by kernel_rfl) (by kernel_rfl) hv13 hmv13 λa hX=>?_
     obtain⟨b14,hb14,h1⟩:=zaS h1;have hX:=hX.zzf (t:=53) (s:= .v (.int .u8 v12)) (s':= .v (.int .u8 ((b14.toNat:Nat):Int))) (by kernel_rfl) (by simp only[SV.den,zrR hb14]) trivial rfl;refine hX.zve (d:=zed) (lit:=[]) (e:=189) (i:=0) (b:=b1) (xs:=x11) (c:=65) (n:=(IntKind.wrap .i64 (x10 -1))) (v:=v13) (u:=b14) (y:=()) (s:= .v (.int .u8 ((b14.toNat:Nat):Int))) (by kernel_rfl) rfl rfl rfl (by kernel_rfl) (by kernel_rfl) (by kernel_rfl) (by kernel_rfl) ⟨_,rfl⟩ hv13 λw a hX=>?_
     have hX:Cx 102 _ _ _ _ _ [zhc 189 zed (some ⟨b1,0,none⟩) 65 (zk5 x11 (IntKind.wrap .i64 (x10 -1)) b14)] [] ρ _ _:=hX;refine zeh ?_;refine hK21 _ _ ?_;refine wp_region_list ?_;refine hX.part [] 2 [0,1,3,4,10,11,12,13,14,15,16,55,56] (l':=[(0,.v (.slice none 0 0)),(1,.v (.int .u64 x9)),(3,.v (.bool neg)),(4,.v (.bool false)),(10,.v (.slice none 0 0)),(11,.v (.string ⟨⟨([]:Str)⟩⟩)),(12,.v (.pointer (some ⟨b1,0,none⟩))),(13,.v (.int .i64 (IntKind.wrap .i64 (x10 -1)))),(14,.v (.int .u64 (IntKind.wrap .u64 v4))),(15,.v (.int .u64 16)),(16,.v (.int .u64 15)),(55,.v (.int .u64 x9)),(56,.v (.int .u64 (IntKind.wrap .u64 v4)))]) (B':=[]) (by kernel_rfl) λρ w a hX=>?_
     obtain⟨v15,hv15,h1⟩:=zaS h1;refine hX.arith (lit:=[]) (by kernel_rfl) (by kernel_rfl) rfl (k:= .u64) (k':= .u64) (m:=x9) (n:=(IntKind.wrap .u64 v4)) (r:=v15) (by kernel_rfl) (by kernel_rfl) (by decide) hv15 λa hX=>?_
     refine hX.part [] 1 [0,1,3,4,10,11,12,13,14,15,16] (l':=[(0,.v (.slice none 0 0)),(1,.v (.int .u64 v15)),(3,.v (.bool neg)),(4,.v (.bool false)),(10,.v (.slice none 0 0)),(11,.v (.string ⟨⟨([]:Str)⟩⟩)),(12,.v (.pointer (some ⟨b1,0,none⟩))),(13,.v (.int .i64 (IntKind.wrap .i64 (x10 -1)))),(14,.v (.int .u64 (IntKind.wrap .u64 v4))),(15,.v (.int .u64 16)),(16,.v (.int .u64 15))]) (B':=[]) (by kernel_rfl) λρ w a hX=>?_
     refine zeh ?_;have hX:=hX.keeps [0,1,3,4,10,11,12,13,14,15,16] (l':=[(0,.v (.slice none 0 0)),(1,.v (.int .u64 v15)),(3,.v (.bool neg)),(4,.v (.bool false)),(10,.v (.slice none 0 0)),(11,.v (.string ⟨⟨([]:Str)⟩⟩)),(12,.v (.pointer (some ⟨b1,0,none⟩))),(13,.v (.int .i64 (IntKind.wrap .i64 (x10 -1)))),(14,.v (.int .u64 (IntKind.wrap .u64 v4))),(15,.v (.int .u64 16)),(16,.v (.int .u64 15))]) (by kernel_rfl);exact hb1 (v15,(IntKind.wrap .i64 (x10 -1)),(zk5 x11 (IntKind.wrap .i64 (x10 -1)) b14)) (zES h1) _ _ ⟨_,_,hX⟩
    ·have h1:=zCi h1 hb;refine wp_exit ?_;have hX:=hX.keeps [0,1,3,4,10,11,12,13] (l':=[(0,.v (.slice none 0 0)),(1,.v (.int .u64 x9)),(3,.v (.bool neg)),(4,.v (.bool false)),(10,.v (.slice none 0 0)),(11,.v (.string ⟨⟨([]:Str)⟩⟩)),(12,.v (.pointer (some ⟨b1,0,none⟩))),(13,.v (.int .i64 x10))]) (by kernel_rfl);exact E1x0 x9 x10 x11 (hx1 _ (zES h1)).symm _ _ _ _ hX
   ·exact⟨_,_,hX⟩
  ·have h0:=zCi h0 hb;refine Cx.ziv hX [] [0,1,3,4,10,11,12,13,17] (l':=[(0,.v (.slice none 0 0)),(1,.v (.int .u64 x2)),(3,.v (.bool neg)),(4,.v (.bool false)),(10,.v (.slice none 0 0)),(11,.v (.string ⟨⟨([]:Str)⟩⟩)),(12,.v (.pointer (some ⟨b1,0,none⟩))),(13,.v (.int .i64 65)),(17,.v (.int .u64 16))]) (B':=[]) (by kernel_rfl) λρ w a hX=>?_
   refine wp_seq_k λK24 hK24=>?_
   refine wp_block ?_;have hX:=hX.keeps [0,1,3,4,10,11,12,13,17] (l':=[(0,.v (.slice none 0 0)),(1,.v (.int .u64 x2)),(3,.v (.bool neg)),(4,.v (.bool false)),(10,.v (.slice none 0 0)),(11,.v (.string ⟨⟨([]:Str)⟩⟩)),(12,.v (.pointer (some ⟨b1,0,none⟩))),(13,.v (.int .i64 65)),(17,.v (.int .u64 16))]) (by kernel_rfl);obtain⟨e1,he1,h0⟩:=zaS h0
   have E1x0: ∀(x39:Int) (x40:Int) (x41:List UInt8),e1=(x39,x40,x41)->∀(ρ:Nat->Nat) (w:World) (F:Heap) (a:Act),Cx 102 w0 F0 No w F [zhc 189 zed (some ⟨b1,0,none⟩) 65 x41] [] ρ [(0,.v (.slice none 0 0)),(1,.v (.int .u64 x39)),(3,.v (.bool neg)),(4,.v (.bool false)),(10,.v (.slice none 0 0)),(11,.v (.string ⟨⟨([]:Str)⟩⟩)),(12,.v (.pointer (some ⟨b1,0,none⟩))),(13,.v (.int .i64 x40))] a->K24 a w:=by
    intro x39 x40 x41 he ρ w F a hX;replace he:=he.symm;subst he
    (try dsimp only at h0)
    refine hK24 _ _ ?_;refine Cx.ziv hX [] [0,1,3,4,10,11,12,13] (l':=[(0,.v (.slice none 0 0)),(1,.v (.int .u64 x39)),(3,.v (.bool neg)),(4,.v (.bool false)),(10,.v (.slice none 0 0)),(11,.v (.string ⟨⟨([]:Str)⟩⟩)),(12,.v (.pointer (some ⟨b1,0,none⟩))),(13,.v (.int .i64 (IntKind.wrap .i64 (x40 -1))))]) (B':=[]) (by kernel_rfl) λρ w a hX=>?_
    refine wp_region_list ?_;refine hX.part [] 2 [0,3,4,10,11,12,13,85,86] (l':=[(0,.v (.slice none 0 0)),(3,.v (.bool neg)),(4,.v (.bool false)),(10,.v (.slice none 0 0)),(11,.v (.string ⟨⟨([]:Str)⟩⟩)),(12,.v (.pointer (some ⟨b1,0,none⟩))),(13,.v (.int .i64 (IntKind.wrap .i64 (x40 -1)))),(85,.v (.int .i64 (IntKind.wrap .i64 (x40 -1)))),(86,.v (.int .u64 x39))]) (B':=[]) (by kernel_rfl) λρ w a hX=>?_
    obtain⟨v42,hv42,h0⟩:=zaS h0;refine hX.zE3 (lit:=[]) (by kernel_rfl) (by kernel_rfl) rfl (s:=([48,49,50,51,52,53,54,55,56,57,97,98,99,100,101,102,103,104,105,106,107,108,109,110,111,112,113,114,115,116,117,118,119,120,121,122]:Str)) (k:= .u64) (n:=x39) (b:=v42) (by kernel_rfl) (by kernel_rfl) (by kernel_rfl) hv42 λa hX=>?_
    obtain⟨v43,hv43,h0⟩:=zaS h0;have hmv43:=(zi4 hv43).1;replace hv43:=(zi4 hv43).2;refine hX.zvi (d:=zed) (e:=5) (b:=b1) (xs:=x41) (k:= .i64) (n:=(IntKind.wrap .i64 (x40 -1))) (v:=v43) (lit:=[]) (by kernel_rfl) (by kernel_rfl) rfl (by kernel_rfl) (by kernel_rfl) (by kernel_rfl) (by kernel_rfl) hv43 hmv43 λa hX=>?_
    obtain⟨b44,hb44,h0⟩:=zaS h0;have hX:=hX.zzf (t:=87) (s:= .v (.int .u8 v42)) (s':= .v (.int .u8 ((b44.toNat:Nat):Int))) (by kernel_rfl) (by simp only[SV.den,zrR hb44]) trivial rfl;refine hX.zve (d:=zed) (lit:=[]) (e:=189) (i:=0) (b:=b1) (xs:=x41) (c:=65) (n:=(IntKind.wrap .i64 (x40 -1))) (v:=v43) (u:=b44) (y:=()) (s:= .v (.int .u8 ((b44.toNat:Nat):Int))) (by kernel_rfl) rfl rfl rfl (by kernel_rfl) (by kernel_rfl) (by kernel_rfl) (by kernel_rfl) ⟨_,rfl⟩ hv43 λw a hX=>?_
    have hX:Cx 102 _ _ _ _ _ [zhc 189 zed (some ⟨b1,0,none⟩) 65 (zk5 x41 (IntKind.wrap .i64 (x40 -1)) b44)] [] ρ _ _:=hX;refine zeh ?_;have hX:=hX.keeps [0,3,4,10,11,12,13] (l':=[(0,.v (.slice none 0 0)),(3,.v (.bool neg)),(4,.v (.bool false)),(10,.v (.slice none 0 0)),(11,.v (.string ⟨⟨([]:Str)⟩⟩)),(12,.v (.pointer (some ⟨b1,0,none⟩))),(13,.v (.int .i64 (IntKind.wrap .i64 (x40 -1))))]) (by kernel_rfl);exact J8 (IntKind.wrap .i64 (x40 -1)) (zk5 x41 (IntKind.wrap .i64 (x40 -1)) b44) h0 _ _ _ _ hX
   refine zKo (λ(s:Int×Int×(List UInt8)) a w=>match s with| (x29,x30,x31)=>∃(ρ:Nat->Nat) (F:Heap),Cx 102 w0 F0 No w F [zhc 189 zed (some ⟨b1,0,none⟩) 65 x31] [] ρ [(0,.v (.slice none 0 0)),(1,.v (.int .u64 x29)),(3,.v (.bool neg)),(4,.v (.bool false)),(10,.v (.slice none 0 0)),(11,.v (.string ⟨⟨([]:Str)⟩⟩)),(12,.v (.pointer (some ⟨b1,0,none⟩))),(13,.v (.int .i64 x30)),(17,.v (.int .u64 16))] a) he1 (λLW1 s o1 h1 hb1 hx1 a w hI=>?_) _ _ ?_
   ·obtain⟨x29,x30,x31⟩:=s;obtain⟨ρ,F,hX⟩:=hI;unfold zN.l2 at h1
    (try dsimp only at h1)
    refine wp_seq_k λK30 hK30=>?_
    refine Cx.ziv hX [] [0,1,3,4,10,11,12,13,17,68] (l':=[(0,.v (.slice none 0 0)),(1,.v (.int .u64 x29)),(3,.v (.bool neg)),(4,.v (.bool false)),(10,.v (.slice none 0 0)),(11,.v (.string ⟨⟨([]:Str)⟩⟩)),(12,.v (.pointer (some ⟨b1,0,none⟩))),(13,.v (.int .i64 x30)),(17,.v (.int .u64 16)),(68,.v (.bool (decide (x29>=16))))]) (B':=[]) (by kernel_rfl) λρ w a hX=>?_
    refine Cx.cond hX (b:=(decide (x29>=16))) (by kernel_rfl) (λhb=>?_) (λhb=>?_)
    ·have h1:=zCN h1 hb;refine wp_skip ?_;refine hK30 _ _ ?_;refine wp_block ?_;refine Cx.ziv hX [] [0,1,3,4,10,11,12,13,17] (l':=[(0,.v (.slice none 0 0)),(1,.v (.int .u64 x29)),(3,.v (.bool neg)),(4,.v (.bool false)),(10,.v (.slice none 0 0)),(11,.v (.string ⟨⟨([]:Str)⟩⟩)),(12,.v (.pointer (some ⟨b1,0,none⟩))),(13,.v (.int .i64 (IntKind.wrap .i64 (x30 -1)))),(17,.v (.int .u64 16))]) (B':=[]) (by kernel_rfl) λρ w a hX=>?_
     refine wp_seq_k λK33 hK33=>?_
     refine wp_region_list ?_;refine hX.part [] 2 [0,1,3,4,10,11,12,13,17,71,72] (l':=[(0,.v (.slice none 0 0)),(1,.v (.int .u64 x29)),(3,.v (.bool neg)),(4,.v (.bool false)),(10,.v (.slice none 0 0)),(11,.v (.string ⟨⟨([]:Str)⟩⟩)),(12,.v (.pointer (some ⟨b1,0,none⟩))),(13,.v (.int .i64 (IntKind.wrap .i64 (x30 -1)))),(17,.v (.int .u64 16)),(71,.v (.int .u64 x29)),(72,.v (.int .u64 16))]) (B':=[]) (by kernel_rfl) λρ w a hX=>?_
     obtain⟨v32,hv32,h1⟩:=zaS h1;refine hX.arith (lit:=[]) (by kernel_rfl) (by kernel_rfl) rfl (k:= .u64) (k':= .u64) (m:=x29) (n:=16) (r:=v32) (by kernel_rfl) (by kernel_rfl) (by decide) hv32 λa hX=>?_
     refine hX.part [] 1 [0,1,3,4,10,11,12,13,17,18] (l':=[(0,.v (.slice none 0 0)),(1,.v (.int .u64 x29)),(3,.v (.bool neg)),(4,.v (.bool false)),(10,.v (.slice none 0 0)),(11,.v (.string ⟨⟨([]:Str)⟩⟩)),(12,.v (.pointer (some ⟨b1,0,none⟩))),(13,.v (.int .i64 (IntKind.wrap .i64 (x30 -1)))),(17,.v (.int .u64 16)),(18,.v (.int .u64 v32))]) (B':=[]) (by kernel_rfl) λρ w a hX=>?_
     refine zeh ?_;refine hK33 _ _ ?_;refine wp_seq_k λK34 hK34=>?_
     refine wp_region_list ?_;refine hX.part [] 6 [0,3,4,10,11,12,13,17,18,74,79] (l':=[(0,.v (.slice none 0 0)),(3,.v (.bool neg)),(4,.v (.bool false)),(10,.v (.slice none 0 0)),(11,.v (.string ⟨⟨([]:Str)⟩⟩)),(12,.v (.pointer (some ⟨b1,0,none⟩))),(13,.v (.int .i64 (IntKind.wrap .i64 (x30 -1)))),(17,.v (.int .u64 16)),(18,.v (.int .u64 v32)),(74,.v (.int .i64 (IntKind.wrap .i64 (x30 -1)))),(79,.v (.int .u64 (IntKind.wrap .u64 (x29 - (IntKind.wrap .u64 (v32*16))))))]) (B':=[]) (by kernel_rfl) λρ w a hX=>?_
     obtain⟨v33,hv33,h1⟩:=zaS h1;refine hX.zE3 (lit:=[]) (by kernel_rfl) (by kernel_rfl) rfl (s:=([48,49,50,51,52,53,54,55,56,57,97,98,99,100,101,102,103,104,105,106,107,108,109,110,111,112,113,114,115,116,117,118,119,120,121,122]:Str)) (k:= .u64) (n:=(IntKind.wrap .u64 (x29 - (IntKind.wrap .u64 (v32*16))))) (b:=v33) (by kernel_rfl) (by kernel_rfl) (by kernel_rfl) hv33 λa hX=>?_
     obtain⟨v34,hv34,h1⟩:=zaS h1;have hmv34:=(zi4 hv34).1;replace hv34:=(zi4 hv34).2;refine hX.zvi (d:=zed) (e:=5) (b:=b1) (xs:=x31) (k:= .i64) (n:=(IntKind.wrap .i64 (x30 -1))) (v:=v34) (lit:=[]) (by kernel_rfl) (by kernel_rfl) rfl (by kernel_rfl) (by kernel_rfl) (by kernel_rfl) (by kernel_rfl) hv34 hmv34 λa hX=>?_
     obtain⟨b35,hb35,h1⟩:=zaS h1;have hX:=hX.zzf (t:=80) (s:= .v (.int .u8 v33)) (s':= .v (.int .u8 ((b35.toNat:Nat):Int))) (by kernel_rfl) (by simp only[SV.den,zrR hb35]) trivial rfl;refine hX.zve (d:=zed) (lit:=[]) (e:=189) (i:=0) (b:=b1) (xs:=x31) (c:=65) (n:=(IntKind.wrap .i64 (x30 -1))) (v:=v34) (u:=b35) (y:=()) (s:= .v (.int .u8 ((b35.toNat:Nat):Int))) (by kernel_rfl) rfl rfl rfl (by kernel_rfl) (by kernel_rfl) (by kernel_rfl) (by kernel_rfl) ⟨_,rfl⟩ hv34 λw a hX=>?_
     have hX:Cx 102 _ _ _ _ _ [zhc 189 zed (some ⟨b1,0,none⟩) 65 (zk5 x31 (IntKind.wrap .i64 (x30 -1)) b35)] [] ρ _ _:=hX;refine zeh ?_;refine hK34 _ _ ?_;refine Cx.region hX [] [0,1,3,4,10,11,12,13,17] (l':=[(0,.v (.slice none 0 0)),(1,.v (.int .u64 v32)),(3,.v (.bool neg)),(4,.v (.bool false)),(10,.v (.slice none 0 0)),(11,.v (.string ⟨⟨([]:Str)⟩⟩)),(12,.v (.pointer (some ⟨b1,0,none⟩))),(13,.v (.int .i64 (IntKind.wrap .i64 (x30 -1)))),(17,.v (.int .u64 16))]) (B':=[]) (by kernel_rfl) λρ w a hX=>?_
     have hX:=hX.keeps [0,1,3,4,10,11,12,13,17] (l':=[(0,.v (.slice none 0 0)),(1,.v (.int .u64 v32)),(3,.v (.bool neg)),(4,.v (.bool false)),(10,.v (.slice none 0 0)),(11,.v (.string ⟨⟨([]:Str)⟩⟩)),(12,.v (.pointer (some ⟨b1,0,none⟩))),(13,.v (.int .i64 (IntKind.wrap .i64 (x30 -1)))),(17,.v (.int .u64 16))]) (by kernel_rfl);exact hb1 (v32,(IntKind.wrap .i64 (x30 -1)),(zk5 x31 (IntKind.wrap .i64 (x30 -1)) b35)) (zES h1) _ _ ⟨_,_,hX⟩
    ·have h1:=zCi h1 hb;refine wp_exit ?_;have hX:=hX.keeps [0,1,3,4,10,11,12,13] (l':=[(0,.v (.slice none 0 0)),(1,.v (.int .u64 x29)),(3,.v (.bool neg)),(4,.v (.bool false)),(10,.v (.slice none 0 0)),(11,.v (.string ⟨⟨([]:Str)⟩⟩)),(12,.v (.pointer (some ⟨b1,0,none⟩))),(13,.v (.int .i64 x30))]) (by kernel_rfl);exact E1x0 x29 x30 x31 (hx1 _ (zES h1)).symm _ _ _ _ hX
   ·exact⟨_,_,hX⟩
 refine Cx.ziv hX [] [0,1,2,3,4,10,11,12,13,30] (l':=[(0,.v (.slice none 0 0)),(1,.v (.int .u64 u)),(2,.v (.int .i64 16)),(3,.v (.bool neg)),(4,.v (.bool false)),(10,.v (.slice none 0 0)),(11,.v (.string ⟨⟨([]:Str)⟩⟩)),(12,.v (.pointer (some ⟨b1,0,none⟩))),(13,.v (.int .i64 65)),(30,.v (.bool neg))]) (B':=[none]) (by kernel_rfl) λρ w a hX=>?_
 refine Cx.cond hX (b:=neg) (by kernel_rfl) (λhb=>?_) (λhb=>?_)
 ·have h0:=zCN h0 hb;refine Cx.region hX [] [0,1,2,3,4,10,11,12,13] (l':=[(0,.v (.slice none 0 0)),(1,.v (.int .u64 (IntKind.wrap .u64 (0 -u)))),(2,.v (.int .i64 16)),(3,.v (.bool neg)),(4,.v (.bool false)),(10,.v (.slice none 0 0)),(11,.v (.string ⟨⟨([]:Str)⟩⟩)),(12,.v (.pointer (some ⟨b1,0,none⟩))),(13,.v (.int .i64 65))]) (B':=[none]) (by kernel_rfl) λρ w a hX=>?_
  have hX:=hX.keeps [0,1,2,3,4,10,11,12,13] (l':=[(0,.v (.slice none 0 0)),(1,.v (.int .u64 (IntKind.wrap .u64 (0 -u)))),(2,.v (.int .i64 16)),(3,.v (.bool neg)),(4,.v (.bool false)),(10,.v (.slice none 0 0)),(11,.v (.string ⟨⟨([]:Str)⟩⟩)),(12,.v (.pointer (some ⟨b1,0,none⟩))),(13,.v (.int .i64 65))]) (by kernel_rfl);have hX:=hX.shrink 0 (B':=[]) (by kernel_rfl) (yD rfl) (by kernel_rfl) (by kernel_rfl) (Nat.zero_le _);exact J6 (IntKind.wrap .u64 (0 -u)) h0 _ _ _ _ hX
 ·have h0:=zCi h0 hb;refine wp_skip ?_;have hX:=hX.keeps [0,1,2,3,4,10,11,12,13] (l':=[(0,.v (.slice none 0 0)),(1,.v (.int .u64 u)),(2,.v (.int .i64 16)),(3,.v (.bool neg)),(4,.v (.bool false)),(10,.v (.slice none 0 0)),(11,.v (.string ⟨⟨([]:Str)⟩⟩)),(12,.v (.pointer (some ⟨b1,0,none⟩))),(13,.v (.int .i64 65))]) (by kernel_rfl);have hX:=hX.shrink 0 (B':=[]) (by kernel_rfl) (yD rfl) (by kernel_rfl) (by kernel_rfl) (Nat.zero_le _);exact J6 u h0 _ _ _ _ hX
def zdK(i:Int):Option (Str):=
  Option.bind (zN (IntKind.wrap .u64 i) (decide (i<0))) λv1=>
  some v1.2
theorem zdK.ok(i:Int)(r:Str)(h0:zdK i=some r)(w0:World)(F0:Heap)(hv:F0.Sub w0)(hG:zaR F0)(hg:SV.zbs F0 [.v (.int .i64 i),.v (.int .i64 16)])(ρ:Nat->Nat):
    Calls Tryz.prog 193 (SV.zaV ρ [.v (.int .i64 i),.v (.int .i64 16)]).toArray w0 (zfI w0 F0 λs=>s= .v (.string ⟨⟨r⟩⟩)):=by
 refine calls_of_wp Tryz.func193 rfl ?_;have hX:=Cx.enter (D:=No) (B:=[]) (L:=[]) (ρ:=ρ) (N:=54) Tryz.ntmps193 [.v (.int .i64 i),.v (.int .i64 16)] (St.start hv) rfl hg (by kernel_rfl) (λ_ h=>by cases h) (yD rfl) No.zDp;unfold zdK at h0;refine Cx.ziv hX [] [0,1] (l':=[(0,.v (.int .i64 i)),(1,.v (.int .i64 16))]) (B':=[]) (by kernel_rfl) λρ w a hX=>?_
 refine wp_seq_k λK2 hK2=>?_
 refine Cx.ziv hX [] [0,1,11] (l':=[(0,.v (.int .i64 i)),(1,.v (.int .i64 16)),(11,.v (.bool false))]) (B':=[]) (by kernel_rfl) λρ w a hX=>?_
 refine Cx.cond hX (b:=false) (by kernel_rfl) (λh=>by cases h) (λ_=>?_);refine wp_skip ?_;refine hK2 _ _ ?_;refine wp_seq_k λK4 hK4=>?_
 refine wp_region_list ?_;refine hX.part [] 5 [46,47,49] (l':=[(46,.v (.int .u64 (IntKind.wrap .u64 i))),(47,.v (.int .i64 16)),(49,.v (.bool (decide (i<0))))]) (B':=[]) (by kernel_rfl) λρ w a hX=>?_
 obtain⟨v1,hv1,h0⟩:=zaS h0;refine Cx.zER hX (lit:=[]) (by kernel_rfl) rfl (by kernel_rfl) ⟨⟨_,Tryz.func217,by kernel_rfl,rfl⟩⟩ (ss:=[.v (.slice none 0 0),.v (.int .u64 (IntKind.wrap .u64 i)),.v (.int .i64 16),.v (.bool (decide (i<0))),.v (.bool false)]) (by kernel_rfl) [.v (.slice none 0 0),.v (.int .u64 (IntKind.wrap .u64 i)),.v (.int .i64 16),.v (.bool (decide (i<0))),.v (.bool false)] rfl (λhg=>⟨trivial,hg.2.1,hg.2.2.1,hg.2.2.2.1,hg.2.2.2.2.1,trivial⟩) (λhv hle hg=>zN.ok (IntKind.wrap .u64 i) (decide (i<0)) v1 hv1 _ _ hv (hG.mono hle) hg _) (λs F w a hp hX=>?_);obtain⟨_,_,rfl,⟨A2,c3,rfl⟩,rfl⟩:=hp
 refine hX.part [] 5 [9] (l':=[(9,.v (.string ⟨⟨v1.2⟩⟩))]) (B':=[]) (by kernel_rfl) λρ w a hX=>?_
 refine zeh ?_;refine hK4 _ _ ?_;refine Cx.ziv hX [] [4] (l':=[(4,.v (.string ⟨⟨v1.2⟩⟩))]) (B':=[]) (by kernel_rfl) λρ w a hX=>?_
 refine wp_ret ?_;have hr:=yS (show some _=some _ from h0);subst hr;exact hX.zGl (ss:=[.v (.string ⟨⟨v1.2⟩⟩)]) (by kernel_rfl) (by kernel_rfl) rfl
def zgi(i:Int):Option (Str):=
  Option.bind (zdK i) λv1=>
  some v1
theorem zgi.ok(i:Int)(r:Str)(h0:zgi i=some r)(w0:World)(F0:Heap)(hv:F0.Sub w0)(hG:zaR F0)(hg:SV.zbs F0 [.v (.int .i64 i),.v (.int .i64 16)])(ρ:Nat->Nat):
    Calls Tryz.prog 173 (SV.zaV ρ [.v (.int .i64 i),.v (.int .i64 16)]).toArray w0 (zfI w0 F0 λs=>s= .v (.string ⟨⟨r⟩⟩)):=by
 refine calls_of_wp Tryz.func173 rfl ?_;have hX:=Cx.enter (D:=No) (B:=[]) (L:=[]) (ρ:=ρ) (N:=8) Tryz.ntmps173 [.v (.int .i64 i),.v (.int .i64 16)] (St.start hv) rfl hg (by kernel_rfl) (λ_ h=>by cases h) (yD rfl) No.zDp;unfold zgi at h0;refine Cx.ziv hX [] [0,1] (l':=[(0,.v (.int .i64 i)),(1,.v (.int .i64 16))]) (B':=[]) (by kernel_rfl) λρ w a hX=>?_
 refine wp_seq_k λK2 hK2=>?_
 refine wp_region_list ?_;refine hX.part [] 2 [5,6] (l':=[(5,.v (.int .i64 i)),(6,.v (.int .i64 16))]) (B':=[]) (by kernel_rfl) λρ w a hX=>?_
 obtain⟨v1,hv1,h0⟩:=zaS h0;refine Cx.zER hX (lit:=[]) (by kernel_rfl) rfl (by kernel_rfl) ⟨⟨_,Tryz.func193,by kernel_rfl,rfl⟩⟩ (ss:=[.v (.int .i64 i),.v (.int .i64 16)]) (by kernel_rfl) [.v (.int .i64 i),.v (.int .i64 16)] rfl (λhg=>hg) (λhv hle hg=>zdK.ok i v1 hv1 _ _ hv (hG.mono hle) hg _) (λs F w a hp hX=>?_);subst hp;refine hX.part [] 1 [4] (l':=[(4,.v (.string ⟨⟨v1⟩⟩))]) (B':=[]) (by kernel_rfl) λρ w a hX=>?_
 refine zeh ?_;refine hK2 _ _ ?_;refine wp_ret ?_;have hr:=yS (show some _=some _ from h0);subst hr;exact hX.zGl (ss:=[.v (.string ⟨⟨v1⟩⟩)]) (by kernel_rfl) (by kernel_rfl) rfl
end
end Go.Gw
namespace Go.D08
open Go Go.Gw Go.Dn Go.RowKit Go.Proofs Go.Shelf Go.Lib
set_option maxRecDepth 100000
def zUj(i:Int)(l v:List Str):Option (List Str×Unit):=if 0<=i/\i< (l.length:Int)/\0<v.length/\(l.length+v.length)*16<=140737488355328 then some (l.take i.toNat++(v++l.drop i.toNat),())else none
end Go.D08
