/- Texts for a statement of this seat. -/
import Derived.Test.YtdapbipagjmolaaGreatDoorMe0
import Derived.MapKept
set_option linter.unusedSectionVars false
set_option linter.unusedVariables false
set_option linter.unusedSimpArgs false
set_option linter.unnecessarySimpa false
namespace Go.Dn
open Go.Gw Go.RowKit
variable [Dfr]
section
variable {Y:Tys} {hY:zb8 Y} {P:Program} {N:Nat} {F:Heap} {ρ:List Pl} {os:List (Option Obj)} {l:zbY Y.T} {m:List (Mem Y.T)} {a:Act} {w:World} {o:Oper}
theorem zOm{x:Value}(h:Ey Y N F ρ l a)(e:zHO l o.op=some x)(w:World):(execOp a.eval o).run P w= .ok (.value x) w:=by
 cases hop:o.op with
 |binOp op t u v t2=>
  rw[hop]at e;simp only[zHO]at e
  split at e<;>
   first
   | (rename_i s t' h1 h2
      have e1:=(h.eval h1).zcl;have e2:=(h.eval h2).zcl;cases e;unfold execOp;rw[hop];simp only[e1,e2];simp[eqGuard,binOp,Op.stringOp,ByteArray.toList_eq])
   |cases e
 |_=>rw[hop]at e;simp only[zHO]at e;cases e
theorem zGD{t:TypeId}{cs:List Value}{off:Nat}{s:Value}(ht:zgO P t=some false)(hs:cs[off]? =some s)(w:World):(part t cs.toArray off).run P w= .ok s w:=by
 have h1:cs.toArray[off]? =some s:=by simp[hs]
 simp[part,Sem.run_bind,zfZ ht,h1]
theorem zJ5{xs ys:List (AV Y.T)}{us vs:List Value}{d:Nat}(hu:zad Y F ρ xs us)(hv:zad Y F ρ ys vs)(w:World): ∀{fs:List Field} {b:Bool},zIr P xs ys fs=some b->(Op.eqFields (d+1) us.toArray vs.toArray fs).run P w= .ok b w
 | [],b,e=>by cases e;rfl
 |f::r,b,e=>by
  simp only[zIr]at e
  cases hn:f.name== "_" with
  |true=>rw[hn]at e;cases e
  |false=>
   rw[hn]at e;simp only[cond_false]at e
   have hn':f.name≠ "_":=by simpa using hn
   cases hr:zIr P xs ys r with
   |none=>rw[hr]at e;cases e
   |some c=>
     rw[hr]at e;simp only at e;have ih:=zJ5 (d:=d) hu hv w hr
     have fin: ∀{x y:Value} {q:Bool},zgO P f.type=some false->us[f.offset]? =some x->vs[f.offset]? =some y->(Op.equalIn (d+1) f.type x y).run P w= .ok q w->b=(q&&c)->
        (Op.eqFields (d+1) us.toArray vs.toArray (f::r)).run P w= .ok b w:=by
       intro x y q h1 h2 h3 h4 h5;rw[Op.eqFields];simp only[yL hn',Sem.run_bind,zGD h1 h2,zGD h1 h3,h4,Result.andThen_ok];subst h5;cases q
       ·simp
       ·simpa using ih
     have hrow: ∀{u},P.underlying f.type=some u->(∀fs,u≠ .struct fs)->(∀n t,u≠ .array n t)->zgO P f.type=some false:=by
       intro u hu h1 h2;unfold zgO;rw[hu];cases u<;>first|rfl|exact absurd rfl (h1 _)|exact absurd rfl (h2 _ _)
     split at e
     · rename_i x y h1 h2 h3;cases e;obtain⟨u1,g1,r1⟩:=hu.get h2;obtain⟨u2,g2,r2⟩:=hv.get h3;rw[r1.zcl]at g1;rw[r2.zcl]at g2;exact fin (hrow h1 (by simp) (by simp)) g1 g2 (run_equalIn_bool' w d _ x y h1) rfl
     · rename_i k0 k x k' y h1 h2 h3;obtain⟨hk,e2⟩:=zcV e;have hk:k=k':=by simpa using hk
       subst hk;subst e2;obtain⟨u1,g1,r1⟩:=hu.get h2;obtain⟨u2,g2,r2⟩:=hv.get h3;rw[r1.zcl]at g1;rw[r2.zcl]at g2;exact fin (hrow h1 (by simp) (by simp)) g1 g2 (run_equalIn_int w d _ k k0 x y h1) rfl
     · rename_i x y h1 h2 h3;cases e;obtain⟨u1,g1,r1⟩:=hu.get h2;obtain⟨u2,g2,r2⟩:=hv.get h3;rw[r1.zcl]at g1;rw[r2.zcl]at g2;refine fin (hrow h1 (by simp) (by simp)) g1 g2 (run_equalIn_string w d _ x y h1) ?_;rw[ByteArray.toList_eq,ByteArray.toList_eq]
     · cases e
theorem zQD{x:Value}(h:Ey Y N F ρ l a)(e:zLy P l o.op=some x)(w:World):(execOp a.eval o).run P w= .ok (.value x) w:=by
 cases hop:o.op with
 |binOp op t u v t2=>
  rw[hop]at e;simp only[zLy]at e;split at e
  ·rename_i xs ys fs hu hv hf;split at e
   · rename_i b hb;cases hc:(!P.stoodInHeld t&& !P.eqGuardType P.depth t)with
     |false=>rw[hc]at e;cases e
     |true=>
       rw[hc]at e;simp only[cond_true]at e;simp only[qz4,Bool.not_eq_true']at hc;have r1:=h.eval hu;have r2:=h.eval hv;generalize e1:a.eval u=ux at r1;generalize e2:a.eval v=vx at r2;cases r1 with
       | @agg _ us hl1 hv1=>
       cases r2 with
       | @agg _ vs hl2 hv2=>
       have hfo:P.fieldsOf t=fs:=by simp[Program.fieldsOf,hf]
       have heq:(Op.equalIn 10000 t (.agg us.toArray) (.agg vs.toArray)).run P w= .ok b w:=by
        rw[run_equalIn_struct (P:=P) w 9999 t _ _ (by rw[hfo];exact hf) hc.1,hfo]
        exact zJ5 (d:=9998) ⟨hl1,hv1⟩ ⟨hl2,hv2⟩ w hb
       unfold execOp;rw[hop];simp only[e1,e2,Sem.run_bind,run_eqGuard_agg w op t u v _ _ hc.2,Result.andThen_ok];cases op<;>simp only at e<;>cases e
       ·simp only[run_eql_struct,heq,Result.andThen_ok,Sem.run_pure]
       ·simp only[run_neq_struct,heq,Result.andThen_ok,Sem.run_pure]
   · cases e
  ·cases e
 |_=>rw[hop]at e;simp only[zLy]at e;cases e
theorem zRh{x:Value}(h:Ey Y N F ρ l a)(e:zOj P l o.op=some x)(w:World):(execOp a.eval o).run P w= .ok (.value x) w:=by
 unfold zOj at e;split at e
 ·rename_i op t u t2 hop;cases hi:zEy P t with
  |false=>rw[hi]at e;cases e
  |true=>
   rw[hi]at e;simp only[cond_true]at e;unfold zEy at hi;cases hu:P.underlying t with
   |none=>rw[hu]at hi;cases hi
   |some d=>
     rw[hu]at hi;cases d<;>simp only at hi<;>(try cases hi)
     have hq: ∀(er:zaQ) (q:TypeId×Value) (d:Nat),(Op.equalIn (d+1) t (zqx er q) .nilIface).run P w= .ok er.isNil w:=λer q d=>by
       cases er<;>simp[Op.equalIn,run_underlying hu,zqx,zaQ.isNil]
     have e2:a.eval (.const .nilIface)= .nilIface:=rfl;split at e
     · rename_i er h1;have r1:=h.eval h1;generalize e1:a.eval u=ux at r1;cases r1 with
       | @err _ q=>
        cases e;unfold execOp;rw[hop]
        have:(binOp .eql t (zqx er q) .nilIface).run P w= .ok (.bool er.isNil) w:=by
         simp only[binOp];simp[Op.equal,Op.maxDepth,hq er q 9999]
        cases er<;>simp only[zqx]at e1 this⊢ <;>simp only[e1,e2,eqGuard,Bool.or_true,yB,yO,qz2,yA,Sem.run_bind,this,Result.andThen_ok,Sem.run_pure,pure_bind]
     · rename_i er h1;have r1:=h.eval h1;generalize e1:a.eval u=ux at r1;cases r1 with
       | @err _ q=>
        cases e;unfold execOp;rw[hop]
        have:(binOp .neq t (zqx er q) .nilIface).run P w= .ok (.bool (!er.isNil)) w:=by
         simp only[binOp];simp[Op.equal,Op.maxDepth,hq er q 9999]
        cases er<;>simp only[zqx]at e1 this⊢ <;>simp only[e1,e2,eqGuard,Bool.or_true,yB,yO,qz2,yA,Sem.run_bind,this,Result.andThen_ok,Sem.run_pure,pure_bind]
     · cases e
 ·cases e
theorem zHf(h:Ey Y N F ρ l a): ∀{xs:List Operand},zst l xs=true->∀x∈xs,zOV l x=a.eval x
 | [],_,x,hx=>by cases hx
 |y::r,hp,x,hx=>by
  simp only[zst,qz4]at hp;rcases yP.1 hx with e|e
  ·subst e;unfold zOV;cases hy:evA l x with
   |none=>rw[hy]at hp;simp at hp
   |some s=>
     rw[hy]at hp;simp only at hp⊢;cases hs:s.plain with
     |none=>rw[hs]at hp;simp at hp
     |some v=>exact(AV.zB9 hs (h.eval hy)).symm
  ·exact zHf h hp.2 x e
theorem zG4{s:AV Y.T}(h:Ey Y N F ρ l a)(hM:My hY F ρ os m w)(e:zy9 P l m o=some s):Yld hY P F ρ os m a o s:=by
 unfold zy9 at e;split at e
 ·rename_i q ho;cases e;exact zKg h hM ho
 ·split at e
  ·rename_i x hs;cases e;exact⟨x,.v,λw _ _=>zOm h hs w⟩
  ·split at e
   · rename_i x hs;cases e;exact⟨x,.v,λw _ _=>zQD h hs w⟩
   · split at e
     · rename_i x hs;cases e;exact⟨x,.v,λw _ _=>zRh h hs w⟩
     · cases hq0:(zst l o.op.operands.toList&& !zIa o.op)&&zPh P l o.op with
       |false=>rw[hq0]at e;cases e
       |true=>
        rw[hq0]at e;simp only[cond_true]at e;simp only[qz4,Bool.not_eq_true']at hq0;have hq:=hq0.1;split at e
        ·rename_i x hx;cases e;refine⟨x,.v,λw _ _=>?_⟩;rw[<-execOp_congr o (λcs b hb=>by rw[hb]at hq;cases hq.2) (λy hy=>zHf h hq.1 y (by simpa using hy))]
         exact zAx hx w
        ·cases e
end
end Go.Dn
namespace Go.Dn
open Go.Gw Go.RowKit
variable [Dfr]
section
variable {Y:Tys} {hY:zb8 Y} {P:Program} {N:Nat} {w0:World} {F0:Heap} {D:Own} {H:List (Option Nat)} {w w':World} {F F':Heap} {ρ ρ':List Pl} {os:List (Option Obj)} {s:Sy Y.T} {a a':Act} {o:Oper}
theorem znL: ∀{ρ:List Pl} {os:List (Option Obj)} {k:Nat} {p:Pl} {o:Option Obj},ρ[k]? =some p->os[k]? =some o->(pts ρ os)[k]? =some (zqn p o)
 | [],os,k,p,o,h,_=>by simp at h
 |p0::ρ,[],k,p,o,_,h=>by simp at h
 |p0::ρ,o0::os,0,p,o,h1,h2=>by simp at h1 h2;subst h1;subst h2;rfl
 |p0::ρ,o0::os,k+1,p,o,h1,h2=>by
   simp only[List.getElem?_cons_succ]at h1 h2;simp only[pts,List.getElem?_cons_succ];exact znL h1 h2
theorem zDs: ∀{ρ:List Pl} {os:List (Option Obj)} {k:Nat} {p:Pl} {o:Option Obj},pts (ρ.set k p) (os.set k o)=(pts ρ os).set k (zqn p o)
 | [],os,k,p,o=>by simp[pts]
 |p0::ρ,[],k,p,o=>by cases k<;>simp[pts]
 |p0::ρ,o0::os,0,p,o=>by simp[pts]
 |p0::ρ,o0::os,k+1,p,o=>by simp only[List.set_cons_succ,pts];rw[zDs]
theorem zu6{ρ:List Pl}{os:List (Option Obj)}{k:Nat}{p:Pl}{o:Option Obj}(h:ρ[k]? =some p):pts ρ (os.set k o)=(pts ρ os).set k (zqn p o):=by
 rw[<-zDs];congr 1;have hk:=(qz0 h).1;apply List.ext_getElem?;intro i;rw[yR];split
 · rename_i e;subst e;exact h
 · rfl
theorem zt8: ∀{ρ:List Pl} {os:List (Option Obj)} {ρ2:List Pl} {os2:List (Option Obj)},os.length=ρ.length->pts (ρ++ρ2) (os++os2)=pts ρ os++pts ρ2 os2
 | [],[],_,_,_=>rfl
 | [],_::_,_,_,h=>by simp at h
 |p::ρ,[],_,_,h=>by simp at h
 |p::ρ,o::os,_,_,h=>by simp only[yI,pts];rw[zt8 (by simpa using h)]
theorem Cy.at(h:Cy hY N w0 F0 D H w F ρ os s a){k:Nat}{x:Mem Y.T}(hk:s.m[k]? =some x): ∃p o,ρ[k]? =some p/\os[k]? =some o/\zen hY F ρ x p o:=by
 have h1:=(qz0 hk).1;have h2:k<ρ.length:=by rw[<-h.len];exact h1
 have h3:k<os.length:=by rw[h.lon];exact h2
 exact⟨_,_,qz9 h2,qz9 h3,h.mem k x _ _ hk (qz9 h2) (qz9 h3)⟩
theorem Cy.blk(h:Cy hY N w0 F0 D H w F ρ os s a){k:Nat}{p:Pl}{ob:Obj}(hp:ρ[k]? =some p)(ho:os[k]? =some (some ob)):w.heap[p.blk]? =some ob:=
 h.st.block (i:=k) (znL hp ho)
theorem Cy.my(h:Cy hY N w0 F0 D H w F ρ os s a):My hY F ρ os s.m w:=by
 intro k x hk;obtain⟨p,o,h1,h2,h3⟩:=h.at hk;cases x with
 |gone=>trivial
 |cells ty l=>exact⟨p,o,h1,h2,h3,λob e=>by subst e;exact h.blk h1 h2⟩
 |arr e xs=>exact⟨p,o,h1,h2,h3,λob e=>by subst e;exact h.blk h1 h2⟩
 |mp kk e xs=>exact⟨p,o,h1,h2,h3,λob e=>by subst e;exact h.blk h1 h2⟩
 |it z pos=>exact⟨p,o,h1,h2,h3,λob e=>by subst e;exact h.blk h1 h2⟩
def znJ(N:Nat):Option Tmp->Bool
 |some d=>Nat.blt d N
 |none=>true
def zIz{T:Nat->Type}(l:zbY T):Option Tmp->AV T->zbY T
 |some d,x=>(d,x)::l
 |none,_=>l
theorem Ey.put{l:zbY Y.T}(h:Ey Y N F ρ l a){d:Option Tmp}{x:AV Y.T}{u:Value}(hd:znJ N d=true)(hr:Rel Y F ρ x u):Ey Y N F ρ (zIz l d x) (a.put d u):=by
 refine⟨by rw[zDZ];exact h.size,by rw[put_defers];exact h.nodef,?_⟩
 cases d with
 |none=>exact h.env
 |some d=>
   have hd:d<N:=yD hd;intro t y e;simp only[zIz,lookA]at e;cases hk:Nat.beq d t with
   |true=>
     rw[hk]at e;simp at e;subst e;have:=yC hk;subst this;exact⟨hd,by rw[zna _ _ _ (by rw[h.size];exact hd)];exact hr⟩
   |false=>
     rw[hk]at e;simp at e;have hne:t≠d:=λe'=>by rw[<-e',Nat.beq_refl]at hk;cases hk
     rw[zoA _ _ _ _ hne];exact h.env t y e
def Sy.put{T:Nat->Type}(s:Sy T)(d:Option Tmp)(x:AV T):Sy T:=⟨zIz s.l d x,s.m⟩
theorem Cy.put(h:Cy hY N w0 F0 D H w F ρ os s a){d:Option Tmp}{x:AV Y.T}{u:Value}(hd:znJ N d=true)(hr:Rel Y F ρ x u):Cy hY N w0 F0 D H w F ρ os (s.put d x) (a.put d u):=
 ⟨h.e.put hd hr,h.len,h.lon,h.mem,h.st,h.fix,h.long⟩
theorem zen.mono(hF:F.Le F')(hρ: ∀(k:Nat) (p:Pl),ρ[k]? =some p->ρ'[k]? =some p){x:Mem Y.T}{p:Pl}{o:Option Obj}(h:zen hY F ρ x p o):zen hY F' ρ' x p o:=by
 cases x with
 |gone=>trivial
 |cells ty l=>obtain⟨vs,h1,h2⟩:=h;exact⟨vs,h1.mono hF hρ,h2⟩
 |arr e xs=>
   obtain⟨h0,h1,h2⟩:=h;exact⟨h0,h1,h2.imp id λ⟨cs,a1,a2,a3,a4,a5,a6⟩=>⟨cs,a1,a2,a3,a4,a5,a6.mono hF⟩⟩
 |mp kk e xs=>obtain⟨h1,es,h2,h3⟩:=h;exact⟨h1,es,h2,h3.mono hF⟩
 |it z pos=>exact h
theorem Ey.mono{l:zbY Y.T}(hF:F.Le F')(hρ: ∀(k:Nat) (p:Pl),ρ[k]? =some p->ρ'[k]? =some p)(h:Ey Y N F ρ l a):Ey Y N F' ρ' l a:=
 ⟨h.size,h.nodef,λt x e=>⟨(h.env t x e).1,(h.env t x e).2.mono hF hρ⟩⟩
theorem Cy.grow(h:Cy hY N w0 F0 D H w F ρ os s a)(hF:F.Le F'){x:Mem Y.T}{p:Pl}{o:Option Obj}(hst:Gw.St w0 F0 D w' F' (pts ρ os++[zqn p o]))(hx:zen hY F' (ρ++[p]) x p o):
   Cy hY N w0 F0 D H w' F' (ρ++[p]) (os++[o]) ⟨s.l,s.m++[x]⟩ a:=by
 have hρ: ∀(k:Nat) (q:Pl),ρ[k]? =some q->(ρ++[p])[k]? =some q:=λk q e=>by
   rw[yF (qz0 e).1];exact e
 refine⟨h.e.mono hF hρ,by simp[h.len],by simp[h.lon],λk y q r h1 h2 h3=>?_,by rw[zt8 h.lon];exact hst,λk b e=>?_,by simp;exact Nat.le_succ_of_le h.long⟩
 · by_cases hk:k<ρ.length
   · rw[yF (by rw[h.len];exact hk)]at h1
     rw[yF hk]at h2;rw[yF (by rw[h.lon];exact hk)]at h3
     exact(h.mem k y q r h1 h2 h3).mono hF hρ
   · have hlt:=(qz0 h2).1;simp at hlt;have hk':k=ρ.length:=by omega
     subst hk';rw[<-h.len,List.getElem?_concat_length]at h1;rw[List.getElem?_concat_length]at h2;rw[<-h.lon,List.getElem?_concat_length]at h3;cases h1;cases h2;cases h3;exact hx
 · have h1:=h.fix k b e;obtain⟨⟨q,hq,hb⟩,h2⟩:=h1;have hk:=(qz0 hq).1;refine⟨⟨q,hρ k q hq,hb⟩,λx=>?_⟩;rw[yF (by rw[h.len];exact hk)]
   exact h2 x
theorem Cy.alloc(h:Cy hY N w0 F0 D H w F ρ os s a){x:Mem Y.T}{p:Pl}{ob:Obj}(hp:p.blk=w.heap.size)(hx:zen hY F (ρ++[p]) x p (some ob)):
   Cy hY N w0 F0 D H (w.alloc ob) F (ρ++[p]) (os++[some ob]) ⟨s.l,s.m++[x]⟩ a:=by
 refine h.grow (.refl F) ?_ hx;have h1:=h.st.alloc ob;have h2:Gw.St w0 F0 D (w.alloc ob) F ([pt w.heap.size ob]++pts ρ os):=h1;have h3:=h2.swap;show Gw.St w0 F0 D (w.alloc ob) F (pts ρ os++[pt p.blk ob]);rw[hp];exact h3
theorem zLr{L:List SP}(h:Gw.St w0 F0 D w F L):Gw.St w0 F0 D w F (L++[emp]):=
 let⟨x,a,r⟩:=h.own
 ⟨h.os,h.tape,h.output,h.size,h.frame,h.le,h.new,h.view,x,all_append.2 ⟨x,Heap.nil,a,⟨Heap.nil,Heap.nil,rfl,rfl,Heap.znc _,rfl⟩,(Heap.znc _).symm,(Heap.join_nil _).symm⟩,r⟩
theorem Cy.zIK(h:Cy hY N w0 F0 D H w F ρ os s a)(e:Nat):Cy hY N w0 F0 D H w F (ρ++[⟨0,none,0,0,false⟩]) (os++[none]) ⟨s.l,s.m++[.arr e []]⟩ a:=
 h.grow (.refl F) (zLr h.st) ⟨rfl,rfl,.inl ⟨rfl,rfl,rfl,rfl⟩⟩
theorem Cy.setCells(h:Cy hY N w0 F0 D H w F ρ os s a){k:Nat}{ty ty':TypeId}{cs cs':List (AV Y.T)}{p:Pl}{vs:List Value}{ob:Obj}(hk:s.m[k]? =some (.cells ty cs))(hp:ρ[k]? =some p)(ho:os[k]? =some (some ob))
   (hr:zad Y F ρ cs' vs) (hbk:zzw (Y.bld ty') p vs) (hos:w'.os=w.os) (htape:w'.tape=w.tape) (hout:w'.output=w.output) (hsize:w'.heap.size=w.heap.size)
   (hb:w'.heap[p.blk]? =some (.cells vs.toArray ty' (0,0))) (hne: ∀x,x≠p.blk->w'.heap[x]? =w.heap[x]?):
   Cy hY N w0 F0 D H w' F ρ (os.set k (some (.cells vs.toArray ty' (0,0)))) ⟨s.l,s.m.set k (.cells ty' cs')⟩ a:=by
 refine⟨h.e,by simp[h.len],by simp[h.lon],λj y q r h1 h2 h3=>?_,?_,λj b e=>⟨(h.fix j b e).1,λy h2=>?_⟩,h.long⟩
 · rw[yR]at h1 h3;split at h1
   · rename_i hj;subst hj;have hl:k<s.m.length:=(qz0 hk).1;rw[yL hl]at h1;rw[yL rfl,yL (by rw[h.lon,<-h.len];exact hl)]at h3
     cases h1;cases h3;rw[hp]at h2;cases h2;exact⟨vs,hr,rfl,hbk⟩
   · rename_i hj;rw[yK hj]at h3;exact h.mem j y q r h1 h2 h3
 · rw[zu6 hp];exact h.st.write (znL hp ho) hos htape hout hsize hb hne
 · rw[yR]at h2;split at h2
   · split at h2<;>cases h2
     rfl
   · exact(h.fix j b e).2 y h2
def zqr(T:Nat->Type)(f:Nat->Bool):Sb T:=⟨λk=>bif f k then .own k else .junk,λk s i off=>bif f k then .oel k s i off else .junk,λk off=>bif f k then .ptr k off else .junk⟩
def zou{T:Nat->Type}(b:Sb T)(l:zbY T):zbY T:=l.map λp=>(p.1,p.2.sub b)
def Mem.sub{T:Nat->Type}(b:Sb T):Mem T->Mem T
 | .gone=> .gone
 | .cells ty l=> .cells ty (AV.subs b l)
 | .arr e xs=> .arr e xs
 | .mp k e x=> .mp k e x
 | .it s pos=> .it s pos
theorem Mem.zCI{T:Nat->Type}(b:Sb T)(x:Mem T):(x.sub b).still=x.still:=by cases x<;>rfl
theorem zGH{T:Nat->Type}(b:Sb T)(t:Nat): ∀l:zbY T,lookA (zou b l) t=(lookA l t).map (AV.sub b)
 | []=>rfl
 | (k,x)::l=>by
   simp only[zou,List.map_cons,lookA];cases Nat.beq k t with
   |true=>rfl
   |false=>exact zGH b t l
structure zkH (Y:Tys) (b:Sb Y.T) (F:Heap) (ρ:List Pl) (F':Heap) (ρ':List Pl):Prop where
 le:F.Le F'
 own: ∀(k:Nat) (p:Pl),ρ[k]? =some p->Rel Y F' ρ' (b.own k) p.val
 oel: ∀(k z:Nat) (i:Int) (off:Nat) (p:Pl),ρ[k]? =some p->Rel Y F' ρ' (b.oel k z i off) (.pointer (some ⟨p.blk,i.toNat*z+off,none⟩))
 ptr: ∀(k off:Nat) (p:Pl),ρ[k]? =some p->Rel Y F' ρ' (b.ptr k off) (.pointer (some ⟨p.blk,off,none⟩))
theorem zkH.rel(hY:zb8 Y){b:Sb Y.T}(h:zkH Y b F ρ F' ρ'){x:AV Y.T}{u:Value}(r:Rel Y F ρ x u):Rel Y F' ρ' (x.sub b) u:=r.sub hY h.le b h.own h.oel h.ptr
theorem zkH.zTf(hY:zb8 Y){b:Sb Y.T}(h:zkH Y b F ρ F' ρ'){l:List (AV Y.T)}{vs:List Value}(r:zad Y F ρ l vs):zad Y F' ρ' (AV.subs b l) vs:=r.sub hY h.le b h.own h.oel h.ptr
theorem zkH.ey(hY:zb8 Y){b:Sb Y.T}(h:zkH Y b F ρ F' ρ'){l:zbY Y.T}(e:Ey Y N F ρ l a):Ey Y N F' ρ' (zou b l) a:=by
 refine⟨e.size,e.nodef,λt x hx=>?_⟩;rw[zGH]at hx;cases hl:lookA l t with
 |none=>rw[hl]at hx;cases hx
 |some y=>rw[hl]at hx;cases hx;exact⟨(e.env t y hl).1,h.rel hY (e.env t y hl).2⟩
theorem zkH.mem{b:Sb Y.T}(h:zkH Y b F ρ F' ρ'){x:Mem Y.T}{p:Pl}{o:Option Obj}(r:zen hY F ρ x p o):zen hY F' ρ' (x.sub b) p o:=by
 cases x with
 |gone=>trivial
 |cells ty l=>obtain⟨vs,h1,h2⟩:=r;exact⟨vs,h.zTf hY h1,h2⟩
 |arr e xs=>
   obtain⟨h0,h1,h2⟩:=r;exact⟨h0,h1,h2.imp id λ⟨cs,a1,a2,a3,a4,a5,a6⟩=>⟨cs,a1,a2,a3,a4,a5,a6.mono h.le⟩⟩
 |mp kk e xs=>obtain⟨h1,es,h2,h3⟩:=r;exact⟨h1,es,h2,h3.mono h.le⟩
 |it z pos=>exact r
theorem zkH.keep(f:Nat->Bool)(hF:F.Le F')(hρ: ∀(k:Nat) (p:Pl),f k=true->ρ[k]? =some p->ρ'[k]? =some p):zkH Y (zqr Y.T f) F ρ F' ρ':=by
 refine⟨hF,λk p e=>?_,λk z i off p e=>?_,λk off p e=>?_⟩<;>simp only[zqr]<;>cases hf:f k
 · exact .junk
 · exact .own (hρ k p hf e)
 · exact .junk
 · exact .oel (hρ k p hf e)
 · exact .junk
 · exact .ptr (hρ k p hf e)
theorem Cy.slots(h:Cy hY N w0 F0 D H w F ρ os s a){l':zbY Y.T}(hl: ∀t x,lookA l' t=some x->lookA s.l t=some x):Cy hY N w0 F0 D H w F ρ os ⟨l',s.m⟩ a:=
 ⟨⟨h.e.size,h.e.nodef,λt x e=>h.e.env t x (hl t x e)⟩,h.len,h.lon,h.mem,h.st,h.fix,h.long⟩
theorem zMw{L:List SP}(h:Gw.St w0 F0 D w F L){i:Nat}{A:SP}(hi:L[i]? =some A):
   ∃g,A.holds F g/\F.Apart g/\Gw.St w0 F0 D w (F.join g) (L.set i emp):=by
 obtain⟨x,a,s,f,d⟩:=h.own;obtain⟨g,k,ha,c,rfl,ae,put⟩:=zma hi a;obtain⟨f1,f2⟩:=Heap.zcq.1 f
 refine⟨g,ha,f1,h.os,h.tape,h.output,h.size,h.frame,h.le.trans (Heap.zdZ _ _),?_,h.view.join s.zfH,_,put (A':=emp) (g':=Heap.nil) (k':=k) (Heap.zdZ _ _) rfl (zu7 (Heap.zdZ _ _) ae) (Heap.znc _),
   Heap.Sub.join ⟨λ_ _ e=>by cases e⟩ (s.zim c),Heap.zgT.2 ⟨by rw[Heap.zu9];exact f2,by rw[Heap.zu9];exact c⟩,λb o e=>d b o (Heap.zeT c (by rwa [Heap.zu9]at e))⟩
 intro b hb hd;rw[<-h.new b hb hd];cases e:g b with
 |none=>unfold Heap.join;cases F b<;>simp[e]
 |some o=>rcases d b o (Heap.zh1 e)with e2|e2;exact absurd e2 hd;omega
end
end Go.Dn
namespace Go.Dn
open Go.Gw Go.RowKit
variable [Dfr]
section
variable {Y:Tys} {hY:zb8 Y} {P:Program} {N:Nat} {w0:World} {F0:Heap} {D:Own} {H:List (Option Nat)} {w w':World} {F F':Heap} {ρ ρ':List Pl} {os:List (Option Obj)} {s:Sy Y.T} {a a':Act} {o:Oper}
theorem Cy.swap(h:Cy hY N w0 F0 D H w F ρ os s a){b:Sb Y.T}{k:Nat}{e:Nat}{xs:List (Y.T e)}{p':Pl}{o':Option Obj}{x':Mem Y.T}(hk:s.m[k]? =some (.arr e xs))
  (hl:zkH Y b F ρ F' (ρ.set k p')) (hst:Gw.St w0 F0 D w' F' (pts (ρ.set k p') (os.set k o'))) (hx:zen hY F' (ρ.set k p') x' p' o'):
  Cy hY N w0 F0 D H w' F' (ρ.set k p') (os.set k o') ⟨zou b s.l,(s.m.map (Mem.sub b)).set k x'⟩ a:=by
 have hkl:k<s.m.length:=(qz0 hk).1;refine⟨hl.ey hY h.e,by simp[h.len],by simp[h.lon],λj y q r h1 h2 h3=>?_,hst,λj bb e1=>?_,by simpa using h.long⟩
 ·rw[yR]at h1 h2 h3;split at h1
  ·rename_i hj;subst hj;rw[yL (by simpa using hkl)]at h1;rw[yL rfl,yL (by rw[<-h.len];exact hkl)]at h2
   rw[yL rfl,yL (by rw[h.lon,<-h.len];exact hkl)]at h3
   cases h1;cases h2;cases h3;exact hx
  ·rename_i hj;rw[yK hj]at h2 h3;rw[List.getElem?_map]at h1;cases hm:s.m[j]? with
   |none=>rw[hm]at h1;cases h1
   |some y0=>rw[hm]at h1;cases h1;exact hl.mem (h.mem j y0 q r hm h2 h3)
 ·obtain⟨⟨q,hq,hb⟩,h2⟩:=h.fix j bb e1;have hne:k≠j:=λe2=>by subst e2;cases h2 _ hk
  refine⟨⟨q,by rw[yR,yK hne];exact hq,hb⟩,λy h3=>?_⟩
  rw[yR,yK hne,List.getElem?_map]at h3;cases hm:s.m[j]? with
  |none=>rw[hm]at h3;cases h3
  |some y0=>
   rw[hm]at h3;cases h3;rw[Mem.zCI];exact h2 y0 hm
def zDm{T:Nat->Type}(k:Nat)(b:AV T):Sb T:=
 ⟨λj=>bif Nat.beq j k then b else .own j,λj z i off=>bif Nat.beq j k then .junk else .oel j z i off,λj off=>bif Nat.beq j k then .junk else .ptr j off⟩
def Sy.frz{T:Nat->Type}(s:Sy T)(k:Nat):Sy T:=match s.m[k]? with
 |some (.arr e xs)=>⟨zou (zDm k (.sl e xs)) s.l,(s.m.map (Mem.sub (zDm k (.sl e xs)))).set k .gone⟩
 |_=>s
theorem zNQ{α:Type}{l:List α}{k:Nat}{x:α}(h:l[k]? =some x):l.set k x=l:=by
 apply List.ext_getElem?;intro i;rw[yR];have hk:=(qz0 h).1;split
 ·rename_i e;subst e;exact h.symm
 ·rfl
theorem zS4{e:Nat}{xs:List (Y.T e)}{p:Pl}{o:Option Obj}{g:Heap}(hm:zen hY F ρ (.arr e xs) p o)(hg:(zqn p o).holds F g)(hap:F.Apart g):Rel Y (F.join g) ρ' (.sl e xs) p.val:=by
 obtain⟨hmp,hn,hm⟩:=hm;rw[Pl.zsS hmp];rcases hm with⟨hA,hc,rfl,rfl⟩| ⟨cs,hA,rfl,hle,_,hsz,hrow⟩
 ·rw[hA,hc,hn];exact .sl 0 0 (λ_=>[]) (by simp) (λi x hx=>by simp at hx) (λi x hx=>by simp at hx) (λi x j a u hx=>by simp at hx)
 ·have hg:g=Heap.one p.blk (.cells cs e (0,0)):=hg;subst hg;have hF:(F.join (Heap.one p.blk (.cells cs e (0,0)))) p.blk=some (.cells cs e (0,0)):=Heap.zeT hap (Heap.zfs _ _);have hle':=Heap.zdZ F (Heap.one p.blk (.cells cs e (0,0)));have key: ∀i x,xs[i]? =some x->∃us,zad Y F [] (Y.cells e x) us/\∀j v,us[j]? =some v->cs.toList[i*Y.sz e+j]? =some v:=hrow
  let vs:Nat->List Value:=λi=>(cs.toList.drop (i*Y.sz e)).take (Y.sz e)
  have hvs: ∀i x,xs[i]? =some x->zad Y F [] (Y.cells e x) (vs i):=λi x hx=>by
   obtain⟨us,h1,h2⟩:=key i x hx
   have:vs i=us:=by
    apply List.ext_getElem?;intro j;have hl:us.length=Y.sz e:=by rw[h1.1,hY.len]
    show((cs.toList.drop (i*Y.sz e)).take (Y.sz e))[j]? =us[j]?;rw[List.getElem?_take];split
    ·rename_i hj;rw[List.getElem?_drop];have hj':j<us.length:=by omega
     rw[h2 j us[j] (qz9 hj')];exact(qz9 hj').symm
    ·rename_i hj;rw[List.getElem?_eq_none (by omega)]
   rw[this];exact h1
  rw[hA,hn];refine .sl p.blk 0 vs hle (λ_ _ _=>rfl) (λi x hx=>⟨by rw[(hvs i x hx).1,hY.len],λj v hv=>?_⟩) (λi x j a u hx ha hu=>?_)
  ·refine⟨cs,e,(0,0),hF,?_⟩;have hv:((cs.toList.drop (i*Y.sz e)).take (Y.sz e))[j]? =some v:=hv;rw[List.getElem?_take]at hv;split at hv
   ·rw[List.getElem?_drop]at hv;rw[Nat.zero_add,<-Array.getElem?_toList];exact hv
   ·cases hv
  ·have:=(hvs i x hx).2 j a u ha hu;exact(this.mono hle' (ρ':=ρ') λ_ _ h=>by simp at h)
theorem zFI{α:Type}(d:Kind α){F G:Heap}{b:Nat}: ∀{ys:List α} {off:Nat},(∀i x,ys[i]? =some x->∃cs,d.holds F x cs/\zoo G b (off+i*d.sz) cs)->
  ∃vs:List Value,vs.length=ys.length*d.sz/\(∀v∈vs,v.oneCell'=true)/\rowIs F d vs ys/\zoo G b off vs
 | [],_,_=>⟨[],by simp,(λ_ hv=>by cases hv),(λj y hj=>by simp at hj),λj v hj=>by simp at hj⟩
 |y::r,off,hcells=>by
  obtain⟨cs,h1,h2⟩:=hcells 0 y rfl;rw[Nat.zero_mul,Nat.add_zero]at h2
  obtain⟨vs,v1,v2,v3,v4⟩:=zFI d (ys:=r) (off:=off+d.sz) (λj x hj=>by
   obtain⟨cs',c1,c2⟩:=hcells (j+1) x (by simpa using hj);rw[Nat.add_mul,Nat.one_mul]at c2;exact⟨cs',c1,by rw[show off+d.sz+j*d.sz=off+(j*d.sz+d.sz) by omega];exact c2⟩)
  have hl:=d.length h1;refine⟨cs++vs,by simp only[qz5,qz3,hl,v1,Nat.add_mul];omega,λv hv=>?_,λj x hj=>?_,λj v hj=>?_⟩
  ·rcases List.mem_append.1 hv with hv|hv
   ·exact d.one h1 v hv
   ·exact v2 v hv
  ·cases j with
   |zero=>
    simp at hj;subst hj;exact⟨cs,h1,λq v hq=>by rw[Nat.zero_mul,Nat.zero_add,yF (qz0 hq).1];exact hq⟩
   |succ j=>
    simp only[List.getElem?_cons_succ]at hj;obtain⟨cs',c1,c2⟩:=v3 j x hj;refine⟨cs',c1,λq v hq=>?_⟩;rw[Nat.add_mul,Nat.one_mul,show j*d.sz+d.sz+q=cs.length+(j*d.sz+q) by omega,yG (by omega),Nat.add_sub_cancel_left];exact c2 q v hq
  ·rw[List.getElem?_append]at hj;split at hj
   ·exact h2 j v hj
   ·have:=v4 _ v hj;rwa [show off+d.sz+(j -cs.length)=off+j by omega]at this
def zH2(hY:zb8 Y)(F:Heap)(w:World)(e:Nat)(ys:List (Y.T e))(u:Value):Prop:=
 ∃A c,u= .slice A ys.length c/\ys.length<=c/\(ys=[]\/∃b off,A=some ⟨b,off,none⟩/\∀i x,ys[i]? =some x->∃us,(kR hY e).holds F x us/\∀j v,us[j]? =some v->w.cell? ⟨b,off+i*Y.sz e+j,none⟩=some v)
def zwW{T:Nat->Type}(e:Nat)(m:List (Mem T)):AV T->Option (List (T e))
 | .sl e' xs=>if h:e'=e then some (h▸xs)else none
 | .own k=>match m[k]? with
  |some (.arr e' xs)=>if h:e'=e then some (h▸xs)else none
  |_=>none
 | .v (.slice none 0 0)=>some []
 |_=>none
theorem zP0(h:Cy hY N w0 F0 D H w F ρ os s a){e:Nat}{x:AV Y.T}{ys:List (Y.T e)}{u:Value}(hx:zwW e s.m x=some ys)(hr:Rel Y F ρ x u):zH2 hY F w e ys u:=by
 unfold zwW at hx;split at hx
 ·rename_i e' xs;split at hx
  ·rename_i he;subst he;cases hx;cases hr with
   | @sl _ _ A c b off vs hc hA hv hh=>
    refine⟨A,c,rfl,hc,?_⟩;cases hxs:xs with
    |nil=>exact .inl rfl
    |cons x0 r=>
     right;rw[<-hxs];refine⟨b,off,hA 0 x0 (by rw[hxs];rfl),λi x hx=>⟨vs i,⟨by rw[(hv i x hx).1,hY.len],λj a u h1 h2=>?_⟩,λj v hj=>ziV h.st.view ((hv i x hx).2 j v hj)⟩⟩
     exact(hh i x j a u hx h1 h2).closed hY (AV.zsE.1 (hY.free e' x) a (List.mem_of_getElem? h1))
  ·cases hx
 ·rename_i k;split at hx
  ·rename_i e' xs hk;split at hx
   ·rename_i he;subst he;cases hx;cases hr with
    | @own _ pl hp=>
     obtain⟨p,o,hp',ho,hmp,hn,hm⟩:=h.at hk;rw[hp]at hp';cases hp';rw[Pl.zsS hmp];rcases hm with⟨hA,hc,rfl,rfl⟩| ⟨cs,hA,rfl,hle,_,hsz,hrow⟩
     ·exact⟨pl.A,pl.c,by rw[hn],by simp,.inl rfl⟩
     ·refine⟨pl.A,pl.c,by rw[hn],hle,.inr ⟨pl.blk,0,hA,λi x hx=>?_⟩⟩;obtain⟨us,h1,h2⟩:=hrow i x hx;refine⟨us,h1,λj v hv=>?_⟩;unfold World.cell?;rw[h.blk hp ho];have h3:cs.toList[i*Y.sz e'+j]? =some v:=h2 j v hv;rw[Nat.zero_add];simpa using h3
   ·cases hx
  ·cases hx
 ·cases hx;cases hr;exact⟨none,0,rfl,yJ _,.inl rfl⟩
 ·cases hx
theorem zH2.cells{e:Nat}{ys:List (Y.T e)}{u:Value}(h:zH2 hY F w e ys u): ∃news:List Value,news.length=ys.length*Y.sz e/\(∀v∈news,v.oneCell'=true)/\rowIs F (kR hY e) news ys/\
  (Builtin.lenOf u).run P w= .ok ys.length w/\∀w':World,(∀p,w'.cell? p=w.cell? p)->(Builtin.firstCells (Y.sz e) ys.length u).run P w'= .ok news.toArray w':=by
 obtain⟨A,c,rfl,hc,h⟩:=h;rcases h with rfl| ⟨b,off,rfl,hcells⟩
 ·refine⟨[],by simp,(λ_ hv=>by cases hv),(λj y hj=>by simp at hj),rfl,λw' _=>?_⟩;cases A with
  |none=>rfl
  |some ad=>simp[Builtin.firstCells,loadCells,loadCellsFrom]
 ·let G:Heap:=λx=>match w.heap[x]? with|some (.cells cs t f)=>some (.cells cs t f)|_=>none
  have hG: ∀{q j:Nat} {v:Value},w.cell? ⟨q,j,none⟩=some v↔zkF G q j v:=by
   intro q j v;constructor
   ·intro hh;unfold World.cell? at hh;split at hh
    ·rename_i cs t f hq;exact⟨cs,t,f,by show(match w.heap[q]? with|some (.cells cs t f)=>some (Obj.cells cs t f)|_=>none)=_;rw[hq],hh⟩
    ·cases hh
   ·rintro⟨cs,t,f,h1,h2⟩;have h1:(match w.heap[q]? with|some (.cells cs t f)=>some (Obj.cells cs t f)|_=>none)=some (Obj.cells cs t f):=h1;unfold World.cell?;cases hq:w.heap[q]? with
    |none=>rw[hq]at h1;cases h1
    |some ob=>
     rw[hq]at h1;cases ob<;>simp only at h1<;>cases h1
     simpa using h2
  obtain⟨vs,v1,v2,v3,v4⟩:=zFI (kR hY e) (F:=F) (G:=G) (b:=b) (off:=off) (ys:=ys) λi x hx=>by
   obtain⟨us,h1,h2⟩:=hcells i x hx;exact⟨us,h1,λj v hv=>hG.1 (h2 j v hv)⟩
  refine⟨vs,v1,v2,v3,rfl,λw' hw=>?_⟩
  exact run_firstCells_some (P:=P) w' (Y.sz e) ys.length ⟨b,off,none⟩ ys.length c vs v1 (λj v hv=>by
   rw[zgN,hw];exact hG.2 (v4 j v hv))
theorem Cy.app(h:Cy hY N w0 F0 D H w F ρ os s a){k e:Nat}{xs ys:List (Y.T e)}{T T2:TypeId}{dd:TypeDesc}{m bytes:Nat}{news:List Value}{u x:Value}(hk:s.m[k]? =some (.arr e xs))
  (hu:Rel Y F ρ (.own k) u) (hT:zmQ P T=some e) (hT2:P.underlying T2=some dd) (hdd:dd= .string\/∃q,dd= .slice q) (hi:zHM P e (Y.sz e) bytes=true) (hb:bytes<=256)
  (hroom:room (xs.length+ys.length)=some ()) (hlen:(Builtin.lenOf x).run P w= .ok m w) (hfirst: ∀w':World,(∀p,w'.cell? p=w.cell? p)->(Builtin.firstCells (Y.sz e) m x).run P w'= .ok news.toArray w')
  (hl:news.length=m*Y.sz e) (hone: ∀v∈news,v.oneCell'=true) (hm:ys.length=m) (hys:rowIs F (kR hY e) news ys) (ty:TypeId):
  ∃w' p' o',(Builtin.append_ #[T,T2] ty #[u,x]).run P w= .ok p'.val w'/\
   Cy hY N w0 F0 D H w' F (ρ.set k p') (os.set k o') ⟨zou (zqr Y.T (λj=> !(Nat.beq j k))) s.l,(s.m.map (Mem.sub (zqr Y.T (λj=> !(Nat.beq j k))))).set k (.arr e (xs++ys))⟩ a/\k<ρ.length:=by
 obtain⟨p,o,hp,ho,hmp,hn,hmem⟩:=h.at hk;cases hu with
 | @own _ pl hp'=>
 rw[hp]at hp';cases hp';rw[Pl.zsS hmp];obtain⟨inf,z,hinf,hz,hsz,hby,hzs⟩:=zOd hi
 have hrm:xs.length+m<=274877906944:=by
  unfold room at hroom;split at hroom
  ·rw[<-hm];assumption
  ·cases hroom
 have hlim:2*(xs.length+m)*inf.bytes+256*inf.bytes<=281474976710656:=by
  rw[hby];have h1:2*(xs.length+m)*bytes<=549755813888*256:=Nat.mul_le_mul (by omega) hb;have h2:256*bytes<=256*256:=Nat.mul_le_mul_left _ hb;omega
 have hi':=znL hp ho;obtain⟨q,ha,hs',_,_⟩:=h.st.own;obtain⟨g,r,hacc,_,rfl,_,_⟩:=zma hi' ha;have hsub:g.Sub w:=hs'.zfH
 have hacc': ∀g,(zqn p o).holds F g->(zhc e (kR hY e) p.A p.c xs).holds F g:=λg hacc=>by
  rcases hmem with⟨hA,hc,rfl,rfl⟩| ⟨cs,hA,rfl,hle,hmax,hcs,hrow⟩
  ·exact .inl ⟨hA,hc,rfl,hacc⟩
  ·exact .inr ⟨p.blk,cs,hA,hacc,hle,hmax,hcs,hrow⟩
 obtain⟨A',c',w',g1,hrun,p1,p2,p3,p4,p5,p6,p7,p8⟩:=zPF (P:=P) (d:=kR hY e) (t:=T) (u:=T2) (ty:=ty) (zdA hT) hT2 hdd hinf hz hsz hzs (hacc' g hacc) hsub hlen (by rw[hsz];exact hfirst) hl hone hm hys hlim (by omega)
 have done: ∀(p':Pl) (o':Option Obj),p'.mp=false->p'.A=A'->p'.n=(xs++ys).length->p'.c=c'->(zqn p' o').holds F g1->zen hY F (ρ.set k p') (.arr e (xs++ys)) p' o'->
   ∃w' p' o',(Builtin.append_ #[T,T2] ty #[.slice p.A p.n p.c,x]).run P w= .ok p'.val w'/\
   Cy hY N w0 F0 D H w' F (ρ.set k p') (os.set k o') ⟨zou (zqr Y.T (λj=> !(Nat.beq j k))) s.l,(s.m.map (Mem.sub (zqr Y.T (λj=> !(Nat.beq j k))))).set k (.arr e (xs++ys))⟩ a/\k<ρ.length:=by
  intro p' o' e0 e1 e2 e3 hsp hmr;refine⟨w',p',o',by rw[Pl.zsS e0,hn,hrun,e1,e2,e3],?_,(qz0 hp).1⟩
  have hst:=h.st.replace (A1:=zqn p' o') hi' (w':=w') (λg0 hg0 hs0=>by
   have:g0=g:=zEq (hacc' g0 hg0) hs0 (hacc' g hacc) hsub;subst this;exact⟨p1,p2,p3,p4,p5,g1,hsp,p7,p8⟩)
  rw[<-zDs]at hst;refine h.swap hk (.keep _ (.refl F) λj q hj e=>?_) hst hmr;have hne:k≠j:=λe=>by subst e;simp at hj
  rw[yR,yK hne];exact e
 rcases p6 with⟨hA,hc,hxs,hg1⟩| ⟨b,cells,hA,hg1,hle,hmax,hcs,hrow⟩
 ·exact done ⟨0,A',(xs++ys).length,c',false⟩ none rfl rfl rfl rfl hg1 ⟨rfl,rfl,.inl ⟨hA,hc,hxs,rfl⟩⟩
 ·exact done ⟨b,A',(xs++ys).length,c',false⟩ (some (.cells cells e (0,0))) rfl rfl rfl rfl hg1 ⟨rfl,rfl,.inr ⟨cells,hA,rfl,hle,hmax,hcs,hrow⟩⟩
end
end Go.Dn
namespace Go.Dn
open Go.Gw Go.RowKit
variable [Dfr]
def zqv(P:Program)(t:TypeId):Bool:=match P.underlying t with|some .string=>true|_=>false
def zHR(P:Program)(t:TypeId):Bool:=match P.underlying t with|some (.int .u8)=>true|_=>false
def zJq(P:Program)(t:TypeId):Bool:=(match P.underlying t with|some (.int .i64)=>true|_=>false)&&(match P.info? t with|some i=>(match i.zero with|some (.int .i64 n)=>decide (n=0)|_=>false)|none=>false)
theorem zMV{P:Program}{t:TypeId}(h:zJq P t=true):P.underlying t=some (.int .i64)/\∀w,(zeroValue t).run P w= .ok (.int .i64 0) w:=by
 simp only[zJq,qz4]at h;obtain⟨h1,h2⟩:=h;refine⟨?_,λw=>?_⟩
 ·split at h1
  ·assumption
  ·cases h1
 ·split at h2
  ·rename_i i hi;split at h2
   ·rename_i n hn;have:=of_decide_eq_true h2;subst this;exact zfU hi hn w
   ·cases h2
  ·cases h2
def zuu(t:Nat):zaQ->Option (Int×Bool)
 | .nil=>some (0,false)
 | .code u n=>bif Nat.beq u t then some (n,true)else some (0,false)
 | .opq=>none
theorem zsK{P:Program}{t:TypeId}(h:zqv P t=true):P.underlying t=some .string:=by
 unfold zqv at h;split at h
 ·assumption
 ·cases h
theorem zII{P:Program}{t:TypeId}(h:zHR P t=true):P.underlying t=some (.int .u8):=by
 unfold zHR at h;split at h
 ·assumption
 ·cases h
def znu(P:Program)(t:TypeId)(n:Nat):Bool:=match zcm P t with|some k=>Nat.beq k n|none=>false
theorem zjY{P:Program}{t:TypeId}{n:Nat}(h:znu P t n=true):zcm P t=some n:=by
 unfold znu at h;split at h
 ·rename_i k hk;rw[hk,yC h]
 ·cases h
def zqj(P:Program)(t:TypeId)(e:Nat):Bool:=match zmQ P t with|some k=>Nat.beq k e|none=>false
theorem zns{P:Program}{t:TypeId}{e:Nat}(h:zqj P t e=true):zmQ P t=some e:=by
 unfold zqj at h;split at h
 ·rename_i k hk;rw[hk,yC h]
 ·cases h
section defs
variable {T:Nat->Type}
def zAg(l:zbY T):Option Operand->Option (Option Int)
 |none=>some none
 |some x=>match evA l x with|some (.v (.int _ n))=>some (some n)|_=>none
def zAv(l:zbY T):List Operand->Option (List (AV T))
 | []=>some []
 |x::r=>match evA l x,zAv l r with|some s,some ss=>some (s::ss)|_,_=>none
end defs
def strsOf{T:Nat->Type}:List (AV T)->Option (List Str)
 | []=>some []
 | .v (.string s)::r=>(match strsOf r with|some l=>some (s.data.toList::l)|none=>none)
 |_=>none
def noRow(P:Program)(t:TypeId):Bool:=match zgO P t with|some false=>true|_=>false
def arB:BinOp->Bool
 | .quo| .rem| .shl| .shr=>true
 |_=>false
def shB:BinOp->Bool
 | .shl| .shr=>true
 |_=>false
def zLu{R:Type}(Y:Tys)(P:Program)(l:zbY Y.T)(m:List (Mem Y.T))(op:Op)(k:AV Y.T->Option R):Option (Option R):=match op with
 | .index t x i=>match evA l x,evA l i with
  |some (.v (.string q)),some (.v (.int _ n))=>bif zqv P t then some (Option.bind (zbc q.data.toList n) λb=>k (.v (.int .u8 b)))else none
  |some (.agg cs),some (.v (.int _ n))=>match zKZ P t,strsOf cs with
   |some (len,e),some ss=>bif noRow P e&&znu P e 1&&Nat.beq ss.length len then some (Option.bind (zas ss n) λs=>k (.v (.string ⟨⟨s⟩⟩)))else none
   |_,_=>none
  |_,_=>none
 | .indexAddr t x i=>match evA l x,evA l i with
  |some (.sl e xs),some (.v (.int _ n))=>bif zqj P t e&&znu P e (Y.sz e)then some (Option.bind (zas xs n) λv=>k (.el (Y.cells e v)))else none
  |some (.own j),some (.v (.int _ n))=>match m[j]? with
   |some (.arr e xs)=>bif zqj P t e&&znu P e (Y.sz e)then some (Option.bind (zas xs n) λ_=>k (.oel j (Y.sz e) n 0))else none
   |_=>none
  |_,_=>none
 | .load t x=>match evA l x with
  |some (.oel j z i off)=>match m[j]? with
   |some (.arr e xs)=>bif Nat.beq z (Y.sz e)then some (Option.bind (zas xs i) λv=>match zsk P t ((Y.cells e v).drop off)with|some y=>k y|none=>none)else none
   |_=>none
  |_=>none
 | .slice t x lo hi none=>match zAg l lo,zAg l hi,evA l x with
  |some ol,some oh,some (.v (.string q))=>bif zqv P t then some (Option.bind (zbv q.data.toList (ol.getD 0) (oh.getD (q.data.toList.length:Int))) λr=>k (.v (.string ⟨⟨r⟩⟩)))else none
  |some ol,some oh,some (.sl e xs)=>bif zqj P t e&&znu P e (Y.sz e)then some (Option.bind (zbv xs (ol.getD 0) (oh.getD (xs.length:Int))) λr=>k (.sl e r))else none
  |_,_,_=>none
 | .binOp op _ x y _=>match evA l x,evA l y with
  |some (.v (.string s)),some (.v (.string t))=>match op with
   | .add=>some (Option.bind (zmy s.data.toList t.data.toList) λr=>k (.v (.string ⟨⟨r⟩⟩)))
   |_=>none
  |some (.v (.int i p)),some (.v (.int j q))=>bif arB op&&(shB op||decide (i=j))then some (Option.bind (arI op i p q) λr=>k (.v (.int i r)))else none
  |_,_=>none
 | .convert s t x=>match evA l x with
  |some a=>bif zqj P s Y.byt&&zHR P Y.byt&&zqv P t then(match zwW Y.byt m a with|some xs=>some (k (.v (.string ⟨⟨cast (congrArg List Y.isB) xs⟩⟩)))|none=>none)else none
  |_=>none
 | .makeFunc f first caps=>match f,first.toList,zAv l caps.toList with
  | .func f,[],some cs=>some (k (.fn f cs))
  |_,_,_=>none
 | .makeInterface t x=>match evA l x with
  |some (.v (.int .i64 n))=>bif P.concrete t then some (k (.err (.code t n)))else none
  |_=>none
 | .typeAssert x _ t true=>match evA l x with
  |some (.err e)=>bif zJq P t then some (Option.bind (zuu t e) λr=>k (.tup [.v (.int .i64 r.1),.v (.bool r.2)]))else none
  |_=>none
 |_=>none
section
variable {Y:Tys} {hY:zb8 Y} {P:Program} {N:Nat} {F:Heap} {ρ:List Pl} {os:List (Option Obj)} {l:zbY Y.T} {m:List (Mem Y.T)} {a:Act} {w:World} {o:Oper}
theorem zsy(h:Ey Y N F ρ l a){x:Option Operand}{r:Option Int}(e:zAg l x=some r):
  (x=none/\r=none)\/∃y k n,x=some y/\r=some n/\a.eval y= .int k n:=by
 cases x with
 |none=>cases e;exact .inl ⟨rfl,rfl⟩
 |some y=>
  right;simp only[zAg]at e;split at e
  ·rename_i k n hy;cases e;exact⟨y,_,_,rfl,rfl,(h.eval hy).zcl⟩
  ·cases e
theorem zCV(h:Ey Y N F ρ l a){lo hi:Option Operand}{ol oh:Option Int}{len cap:Nat}{b:Bool}(hl:zAg l lo=some ol)(hh:zAg l hi=some oh)
  (h0:0<=ol.getD 0) (h1:ol.getD 0<=oh.getD len) (h2:oh.getD len<=len) (hlc:len<=cap) (w:World):
  (Instr.sliceBounds b len cap (lo.map a.eval) (hi.map a.eval) none).run P w= .ok ((ol.getD 0).toNat,(oh.getD len).toNat,cap) w:=by
 rcases zsy h hl with⟨rfl,rfl⟩| ⟨x,k,n,rfl,rfl,ex⟩<;>rcases zsy h hh with⟨rfl,rfl⟩| ⟨y,k',m,rfl,rfl,ey⟩
 ·simp[Instr.sliceBounds]
 ·simp only[Option.getD_none,Option.getD_some]at h0 h1 h2;have hm:(m:Int)<=cap:=by omega
  simp[Instr.sliceBounds,ey,zdo h1 hm]
 ·simp only[Option.getD_none,Option.getD_some]at h0 h1 h2;simp[Instr.sliceBounds,ex,zdo h0 h1]
 ·simp only[Option.getD_none,Option.getD_some]at h0 h1 h2;have hm:(m:Int)<=cap:=by omega
  have hm0:0<=m:=by omega
  have hn:n<=((m.toNat:Nat):Int):=by omega
  simp[Instr.sliceBounds,ex,ey,zdo hm0 hm,zdo h0 hn]
theorem zx9(h:Ey Y N F ρ l a): ∀{xs:List Operand} {ss:List (AV Y.T)},zAv l xs=some ss->zad Y F ρ ss (xs.map a.eval)
 | [],ss,e=>by cases e;exact zad.nil
 |x::r,ss,e=>by
  simp only[zAv]at e;cases hx:evA l x with
  |none=>rw[hx]at e;cases e
  |some s=>
   cases hr:zAv l r with
   |none=>rw[hx,hr]at e;cases e
   |some ss'=>rw[hx,hr]at e;cases e;exact zad.cons (h.eval hx) (zx9 h hr)
theorem zbh{α:Type}{c:Bool}{x:Option α}{y:α}(h:(bif c then x else none)=some y):c=true/\x=some y:=by
 cases c
 ·cases h
 ·exact⟨rfl,h⟩
theorem zoq{α R:Type}{x:Option α}{f:α->Option R}{r:R}(h:some (Option.bind x f)=some (some r)): ∃v,x=some v/\f v=some r:=by
 have h:=yS h;cases x with
 |none=>cases h
 |some v=>exact⟨v,rfl,h⟩
theorem zRg(hv:F.Sub w)(hM:My hY F ρ os m w){e:Nat}{x:AV Y.T}{ys:List (Y.T e)}{u:Value}(hx:zwW e m x=some ys)(hr:Rel Y F ρ x u):zH2 hY F w e ys u:=by
 unfold zwW at hx;split at hx
 ·rename_i e' xs;split at hx
  ·rename_i he;subst he;cases hx;cases hr with
   | @sl _ _ A c b off vs hc hA hv' hh=>
    refine⟨A,c,rfl,hc,?_⟩;cases hxs:xs with
    |nil=>exact .inl rfl
    |cons x0 r=>
     right;rw[<-hxs];refine⟨b,off,hA 0 x0 (by rw[hxs];rfl),λi x hx=>⟨vs i,⟨by rw[(hv' i x hx).1,hY.len],λj a u h1 h2=>?_⟩,λj v hj=>ziV hv ((hv' i x hx).2 j v hj)⟩⟩
     exact(hh i x j a u hx h1 h2).closed hY (AV.zsE.1 (hY.free e' x) a (List.mem_of_getElem? h1))
  ·cases hx
 ·rename_i k;split at hx
  ·rename_i e' xs hk;split at hx
   ·rename_i he;subst he;cases hx;cases hr with
    | @own _ pl hp=>
     obtain⟨p,o,hp',ho,⟨hmp,hn,hm⟩,hblk⟩:=hM k _ hk;rw[hp]at hp';cases hp';rw[Pl.zsS hmp];rcases hm with⟨hA,hc,rfl,rfl⟩| ⟨cs,hA,rfl,hle,_,hsz,hrow⟩
     ·exact⟨pl.A,pl.c,by rw[hn],by simp,.inl rfl⟩
     ·refine⟨pl.A,pl.c,by rw[hn],hle,.inr ⟨pl.blk,0,hA,λi x hx=>?_⟩⟩;obtain⟨us,h1,h2⟩:=hrow i x hx;refine⟨us,h1,λj v hv=>?_⟩;unfold World.cell?;rw[hblk _ rfl];have h3:cs.toList[i*Y.sz e'+j]? =some v:=h2 j v hv;rw[Nat.zero_add];simpa using h3
   ·cases hx
  ·cases hx
 ·cases hx;cases hr;exact⟨none,0,rfl,yJ _,.inl rfl⟩
 ·cases hx
theorem zNa{t1 t2:TypeId}{xs:List (Y.T Y.byt)}{u:Value}(h1:zmQ P t1=some Y.byt)(h2:P.underlying Y.byt=some (.int .u8))(h3:P.underlying t2=some .string)(hsz:Y.sz Y.byt=1)(hs:zH2 hY F w Y.byt xs u):
  (convert t1 t2 u).run P w= .ok (.string ⟨⟨cast (congrArg List Y.isB) xs⟩⟩) w:=by
 obtain⟨A,c,rfl,hc,h⟩:=hs
 have gen: ∀{β:Type} (hb:β=UInt8) (l:List β),cast (congrArg List hb) l=l.map (cast hb):=by
  intro β hb l;subst hb;show l=l.map id;simp
 rw[gen Y.isB];rcases h with rfl| ⟨b,off,rfl,hcells⟩
 ·cases A with
  |none=>
   have:=run_convert_bytes_nil (P:=P) w t1 Y.byt (zdA h1) h2 0 c t2 h3;simp only[qz6,this];rfl
  |some ad=>
   have:=run_convert_bytes_string (P:=P) w t1 t2 Y.byt (some ad) 0 c (zdA h1) h2 h3;simp only[qz6,this];simp[Conv.bytesToString,loadCells,loadCellsFrom];rfl
 ·have:=run_convert_bytes_arg (P:=P) w t1 Y.byt (zdA h1) h2 b off xs.length c (xs.map λx=>((cast Y.isB x).toNat:Int)) (by simp) (λi hi=>by
   obtain⟨us,q1,q2⟩:=hcells i xs[i] (qz9 hi);have q1:zad Y F [] (Y.cells Y.byt xs[i]) us:=q1;rw[hY.byte]at q1;obtain⟨u,r,rfl,r1,r2⟩:=q1.inv;have:=q2 0 u rfl;rw[hsz,Nat.mul_one,Nat.add_zero]at this;rw[this,r1.zcl];simp[List.getD,hi]) t2 h3
  rw[this];have e:(xs.map λx=>((cast Y.isB x).toNat:Int))=(xs.map (cast Y.isB)).map λb:UInt8=>(b.toNat:Int):=by simp
  rw[e,zDH]
theorem zFj{T:Nat->Type}: ∀{cs:List (AV T)} {ss:List Str} {i:Nat} {s:Str},strsOf cs=some ss->ss[i]? =some s->cs[i]? =some (.v (.string ⟨⟨s⟩⟩))
 | [],ss,i,s,h,hs=>by cases h;simp at hs
 |c::r,ss,i,s,h,hs=>by
  unfold strsOf at h;split at h
  ·rename_i hh;cases hh
  ·rename_i q r' hh;cases hh;split at h
   ·rename_i l hl;cases h;cases i with
    |zero=>simp at hs;subst hs;simp
    |succ i=>simp at hs⊢;exact zFj hl hs
   ·cases h
  ·cases h
theorem zNe{R:Type}{k:AV Y.T->Option R}{r:R}(hsz:Y.sz Y.byt=1)(h:Ey Y N F ρ l a)(hM:My hY F ρ os m w)(e:zLu Y P l m o.op k=some (some r)): ∃x,Yld hY P F ρ os m a o x/\k x=some r:=by
 unfold zLu at e;split at e
 ·rename_i t x i hop;split at e
  ·rename_i q kk n hx hi;obtain⟨ht,e⟩:=zbh e;obtain⟨b,hb,hk⟩:=zoq e;refine⟨_,⟨_,.v,λw _ _=>?_⟩,hk⟩;have e1:=(h.eval hx).zcl;have e2:=(h.eval hi).zcl;unfold zbc at hb;split at hb
   ·rename_i h0;obtain⟨c,hc,rfl⟩:=Option.map_eq_some_iff.1 hb;unfold execOp;rw[hop]
    have hq:q[n.toNat]? =some c:=by
     have:=zGT q.data.toList n.toNat;rw[hc]at this;exact this
    simp only[e1,e2,Instr.index,asIntOf,Sem.run_bind,Sem.run_pure,Result.andThen_ok,run_underlying (zsK ht),h0,yB,hq,pure_bind]
   ·cases hb
  ·rename_i cs kk n hx hi;split at e
   ·rename_i len ee ss har hss;obtain⟨ht,e⟩:=zbh e;obtain⟨s,hs,hk⟩:=zoq e;simp only[qz4]at ht;have hlen:=yC ht.2;have hS:=zjY ht.1.2;have e2:=(h.eval hi).zcl;have hr:=h.eval hx;generalize e1:a.eval x=ux at hr;cases hr with
    | @agg _ vs hl hv=>
     unfold zas at hs;split at hs
     ·rename_i h0;have hc:=zFj hss hs
      have hfst:zsk P ee (cs.drop n.toNat)=some (.v (.string ⟨⟨s⟩⟩)):=by
       unfold zsk;have hrow:=ht.1.1;unfold noRow at hrow;split at hrow
       ·rename_i hrb;rw[hrb];cases hsz':zcm P ee<;>(simp only[List.getElem?_drop,Nat.add_zero];exact hc)
       ·cases hrow
      obtain⟨u,hrel,_,hrun⟩:=zsF hfst (zad.drop (⟨hl,hv⟩:zad Y F ρ cs vs) n.toNat);refine⟨_,⟨_,.v,λw _ _=>?_⟩,hk⟩;unfold execOp;rw[hop]
      have hin:0<=n/\n< (len:Int):=⟨h0,by
       have:=(qz0 hs).1;omega⟩
      have:=hrun w vs n.toNat rfl;rw[hrel.zcl]at this;simp only[e1,e2,Instr.index,asIntOf,Sem.run_bind,Sem.run_pure,Result.andThen_ok,run_underlying (zFt har),hin,and_self,yB,zco hS,Nat.mul_one,this,pure_bind]
     ·cases hs
   ·cases e
  ·cases e
 ·rename_i t x i hop;split at e
  ·rename_i ee xs kk n hx hi;obtain⟨ht,e⟩:=zbh e;obtain⟨v,hv,hk⟩:=zoq e;simp only[qz4]at ht;have hT:=zdA (zns ht.1);have hS:=zjY ht.2;have e2:=(h.eval hi).zcl;have hr:=h.eval hx;generalize e1:a.eval x=ux at hr;cases hr with
   | @sl _ _ A c b off vs hc hA hvs hh=>
    unfold zas at hv;split at hv
    ·rename_i h0;have hlt:=(qz0 hv).1;have hA':=hA _ _ hv;subst hA';have hel:zad Y F ρ (Y.cells ee v) (vs n.toNat):=⟨by rw[(hvs _ _ hv).1,hY.len],λj a u h1 h2=>hh _ _ j a u hv h1 h2⟩
     refine⟨_,⟨_,.el (b:=b) (off:=off+n.toNat*Y.sz ee) (vs n.toNat) hel.1 (hvs _ _ hv).2 hel.2,λw _ _=>?_⟩,hk⟩;unfold execOp;rw[hop];have hin:0<=n/\n< (xs.length:Int):=⟨h0,by omega⟩
     simp only[Instr.indexAt,e1,e2,asIntOf,Sem.run_bind,Sem.run_pure,Result.andThen_ok,run_underlying hT,Bool.and_false,hin,and_self,yB,zco hS,zgN,pure_bind]
    ·cases hv
  ·rename_i j kk n hx hi;split at e
   ·rename_i ee xs hm;obtain⟨ht,e⟩:=zbh e;obtain⟨v,hv,hk⟩:=zoq e;simp only[qz4]at ht;have hT:=zdA (zns ht.1);have hS:=zjY ht.2;have e2:=(h.eval hi).zcl;have hr:=h.eval hx;generalize e1:a.eval x=ux at hr;cases hr with
    | @own _ pl hp=>
     obtain⟨p,o',hp',ho,⟨hmp,hn,hmm⟩,hblk⟩:=hM j _ hm;rw[hp]at hp';cases hp';rw[Pl.zsS hmp]at e1;unfold zas at hv;split at hv
     ·rename_i h0;have hlt:=(qz0 hv).1;rcases hmm with⟨hA,hc,rfl,rfl⟩| ⟨cs,hA,rfl,hle,_,hsz2,hrow⟩
      ·simp at hlt
      ·refine⟨_,⟨_,.oel hp,λw _ _=>?_⟩,hk⟩;unfold execOp;rw[hop];have hin:0<=n/\n< (pl.n:Int):=⟨h0,by omega⟩
       rw[hA]at e1;simp only[Instr.indexAt,e1,e2,asIntOf,Sem.run_bind,Sem.run_pure,Result.andThen_ok,run_underlying hT,Bool.and_false,hin,and_self,yB,zco hS,zgN,pure_bind,Nat.zero_add,Nat.add_zero]
     ·cases hv
   ·cases e
  ·cases e
 ·rename_i t x hop;split at e
  ·rename_i j z i off hx;split at e
   ·rename_i ee xs hm;obtain⟨hz,e⟩:=zbh e;have hz:=yC hz;obtain⟨v,hv,hk⟩:=zoq e;split at hk
    ·rename_i y hy;have hr:=h.eval hx;generalize e1:a.eval x=ux at hr;cases hr with
     | @oel _ _ _ _ pl hp=>
      obtain⟨p,o',hp',ho,⟨hmp,hn,hmm⟩,hblk⟩:=hM j _ hm;rw[hp]at hp';cases hp';unfold zas at hv;split at hv
      ·rename_i h0;rcases hmm with⟨hA,hc,rfl,rfl⟩| ⟨cs,hA,rfl,hle,_,hsz2,hrow⟩
       ·simp at hv
       ·obtain⟨us,q1,q2⟩:=hrow _ _ hv;have q1:zad Y F [] (Y.cells ee v) us:=q1;obtain⟨u,hu,hrun,_⟩:=zsF hy ((q1.mono (.refl F) (ρ':=ρ) λ_ _ h=>by simp at h).drop off);refine⟨_,⟨u,hu,λw _ hM'=>?_⟩,hk⟩;obtain⟨p2,o2,hp2,ho2,_,hblk2⟩:=hM' j _ hm;rw[hp]at hp2;cases hp2;rw[ho]at ho2;cases ho2;unfold execOp;rw[hop]
        have:(Instr.loadAt t (.pointer (some ⟨pl.blk,i.toNat*z+off,none⟩))).run P w= .ok u w:=hrun w _ _ λjj xx hh=>by
         rw[List.getElem?_drop]at hh;have h3:cs.toList[i.toNat*Y.sz ee+(off+jj)]? =some xx:=q2 _ xx hh;unfold World.cell?;rw[hblk2 _ rfl,hz];rw[Nat.add_assoc];simpa using h3
        simp only[e1,Sem.run_bind,this,Result.andThen_ok,Sem.run_pure]
      ·cases hv
    ·cases hk
   ·cases e
  ·cases e
 ·rename_i t x lo hi hop;split at e
  ·rename_i ol oh q hl hh hx;obtain⟨ht,e⟩:=zbh e;obtain⟨v,hv,hk⟩:=zoq e;have e1:=(h.eval hx).zcl;unfold zbv at hv;split at hv
   ·rename_i hc;cases hv;refine⟨_,⟨_,.v,λw _ _=>?_⟩,hk⟩;have hb:=zCV (P:=P) (b:=false) (len:=q.data.toList.length) (cap:=q.data.toList.length) h hl hh hc.1 hc.2.1 hc.2.2 (yJ _) w;unfold execOp;rw[hop];have hsz:q.size=q.data.toList.length:=rfl;have hext:=zHo q.data.toList (ol.getD 0).toNat (oh.getD (q.data.toList.length:Int)).toNat;have hq:(⟨⟨q.data.toList⟩⟩:ByteArray)=q:=rfl;rw[hq]at hext;simp only[Instr.sliceAt,Sem.run_bind,run_underlying (zsK ht),Result.andThen_ok,e1,Instr.slice,Option.map_none,Option.isSome_none,qz2,yA,hsz,hb,Sem.run_pure,hext,pure_bind]
   ·cases hv
  ·rename_i ol oh ee xs hl hh hx;obtain⟨ht,e⟩:=zbh e;obtain⟨v,hv,hk⟩:=zoq e;simp only[qz4]at ht;have hT:=zdA (zns ht.1);have hS:=zjY ht.2;have hr:=h.eval hx;generalize e1:a.eval x=ux at hr;cases hr with
   | @sl _ _ A c b off vs hc hA hvs hh2=>
    unfold zbv at hv;split at hv
    ·rename_i hcc;cases hv
     have hlen:((xs.drop (ol.getD 0).toNat).take ((oh.getD (xs.length:Int)).toNat - (ol.getD 0).toNat)).length=(oh.getD (xs.length:Int)).toNat - (ol.getD 0).toNat:=by
      simp;omega
     generalize hi0:(ol.getD 0).toNat=i at hlen hk;generalize hm0:(oh.getD (xs.length:Int)).toNat -i=mm at hlen hk
     have hget: ∀j x,((xs.drop i).take mm)[j]? =some x->xs[i+j]? =some x:=λj x hx=>by
      rw[List.getElem?_take]at hx;split at hx
      ·rwa [List.getElem?_drop]at hx
      ·cases hx
     refine⟨_,⟨.slice (if c=i then A else A.map (·.add (i*Y.sz ee))) ((xs.drop i).take mm).length (c -i),?_,λw _ _=>?_⟩,hk⟩
     ·refine .sl b (off+i*Y.sz ee) (λj=>vs (i+j)) (by rw[hlen];omega) (λj x hx=>?_) (λj x hx=>?_) (λj x q a u hx h1 h2=>hh2 _ _ q a u (hget j x hx) h1 h2)
      ·have h1:=hget j x hx;have hlt:=(qz0 h1).1;have hne:c≠i:=by omega
       rw[yK hne,hA _ _ h1];simp[zgN]
      ·have h1:=hvs _ _ (hget j x hx);refine⟨h1.1,?_⟩;have:=h1.2;rwa [Nat.add_mul,<-Nat.add_assoc]at this
     ·have hb:=zCV (P:=P) (b:=true) (len:=xs.length) (cap:=c) h hl hh hcc.1 hcc.2.1 hcc.2.2 hc w;unfold execOp;rw[hop];subst hi0;subst hm0;simp only[Instr.sliceAt,Sem.run_bind,run_underlying hT,Result.andThen_ok,e1,Instr.slice,Option.map_none,hb,zco hS,Sem.run_pure,hlen,pure_bind]
    ·cases hv
  ·cases e
 ·rename_i op t x y t2 hop;split at e
  ·rename_i s t hx hy;split at e
   ·obtain⟨v,hv,hk⟩:=zoq e;have e1:=(h.eval hx).zcl;have e2:=(h.eval hy).zcl;refine⟨_,⟨_,.v,λw _ _=>?_⟩,hk⟩;unfold zmy at hv;split at hv
    ·rename_i hc;cases hv
     have hsz: ¬(((s.size+t.size:Nat):Int)>IntKind.i64.max):=by
      show ¬(((s.data.toList.length+t.data.toList.length:Nat):Int)>_);simp only[IntKind.max,IntKind.signed,IntKind.bits];simp;simp at hc;omega
     unfold execOp;rw[hop];simp only[e1,e2,eqGuard,binOp,Op.stringOp,Sem.run_bind,Sem.run_pure,Result.andThen_ok,hsz,yA,pure_bind];rfl
    ·cases hv
   ·cases e
  ·rename_i i p j q hx hy;obtain⟨ht,e⟩:=zbh e;obtain⟨v,hv,hk⟩:=zoq e;have e1:=(h.eval hx).zcl;have e2:=(h.eval hy).zcl;refine⟨_,⟨_,.v,λw _ _=>?_⟩,hk⟩;unfold execOp;rw[hop];simp only[qz4,yQ,yT]at ht;cases op<;>simp only[arI]at hv<;>(try cases hv)
   ·unfold zJp at hv;split at hv
    ·cases hv
    ·rename_i hn;cases hv;have hkk:i=j:=by rcases ht.2 with e|e<;>first|exact e|cases e
     subst hkk;simp only[e1,e2,eqGuard,binOp,Op.intDiv,yK hn,ne_eq,not_true_eq_false,yA,Sem.run_bind,Sem.run_pure,Result.andThen_ok,pure_bind,yN,yB]
   ·unfold zOW at hv;split at hv
    ·cases hv
    ·rename_i hn;cases hv;have hkk:i=j:=by rcases ht.2 with e|e<;>first|exact e|cases e
     subst hkk;simp only[e1,e2,eqGuard,binOp,Op.intDiv,yK hn,ne_eq,not_true_eq_false,yA,Sem.run_bind,Sem.run_pure,Result.andThen_ok,pure_bind,yN,yB]
   ·unfold zEv at hv;split at hv
    ·cases hv
    ·rename_i hn;cases hv;simp only[e1,e2,eqGuard,binOp,Op.shift,yK hn,Sem.run_bind,Sem.run_pure,Result.andThen_ok,pure_bind,yN,yB]
   ·unfold zLm at hv;split at hv
    ·cases hv
    ·rename_i hn;cases hv;simp only[e1,e2,eqGuard,binOp,Op.shift,yK hn,Sem.run_bind,Sem.run_pure,Result.andThen_ok,pure_bind,yN,yB]
  ·cases e
 ·rename_i s t x hop;split at e
  ·rename_i av hx;obtain⟨ht,e⟩:=zbh e;simp only[qz4]at ht;split at e
   ·rename_i xs hxs;have hk:=yS e;refine⟨_,⟨_,.v,λw hv hM'=>?_⟩,hk⟩;have:=zNa (P:=P) (zns ht.1.1) (zII ht.1.2) (zsK ht.2) hsz (zRg hv hM' hxs (h.eval hx));unfold execOp;rw[hop];simp only[Sem.run_bind,this,Result.andThen_ok,Sem.run_pure]
   ·cases e
  ·cases e
 ·rename_i f first caps hop
  split at e
  ·rename_i f cs hf hcs;have hk:=yS e;have hr:=zx9 h hcs;refine⟨_,⟨_,.fn hr.1 hr.2,λw _ _=>?_⟩,hk⟩;have hfirst:first= #[]:=by rw[<-Array.toList_inj,hf]
   unfold execOp;rw[hop];have hcap:Array.map a.eval caps=(List.map a.eval caps.toList).toArray:=by rw[<-Array.toList_inj];simp
   simp[hfirst,Instr.makeFunc,hcap]
  ·cases e
 ·rename_i t x hop;split at e
  ·rename_i n hx;obtain⟨ht,e⟩:=zbh e;have hk:=yS e;have e1:=(h.eval hx).zcl;refine⟨_,⟨zqx (.code t n) zOv,.err,λw _ _=>?_⟩,hk⟩;unfold execOp;rw[hop];simp only[e1,Sem.run_bind,run_makeInterface w t _ ht,Result.andThen_ok,Sem.run_pure,pure_bind];rfl
  ·cases e
 ·rename_i x xt t hop;split at e
  ·rename_i g hx;obtain⟨ht,e⟩:=zbh e;obtain⟨r2,h2,hk⟩:=zaS (yS e);obtain⟨hu,hz⟩:=zMV ht;have hr:=h.eval hx;generalize hev:a.eval x=u at hr;have hrs:zad Y F ρ [.v (.int .i64 r2.1),.v (.bool r2.2)] [.int .i64 r2.1,.bool r2.2]:=zad.cons .v (zad.cons .v zad.nil);have hrel:Rel Y F ρ (.tup [.v (.int .i64 r2.1),.v (.bool r2.2)]) (.tuple #[.int .i64 r2.1,.bool r2.2]):= .tup (vs:=[_,_]) hrs.1 hrs.2;refine⟨_,⟨_,hrel,λw _ _=>?_⟩,hk⟩;unfold execOp;rw[hop];cases g with
   |nil=>
    cases h2;cases hr;simp[hev,zqx,Instr.typeAssert,run_underlying hu,hz,Sem.run_bind]
   |code t2 n=>
    cases hr;simp only[zuu]at h2;cases hb:Nat.beq t2 t with
    |true=>
     rw[hb]at h2;cases h2;have:=yC hb;subst this;simp[hev,zqx,Instr.typeAssert,run_underlying hu,Sem.run_bind]
    |false=>
     rw[hb]at h2;cases h2;have hne: ¬t2=t:=λe=>by subst e;rw[Nat.beq_refl]at hb;cases hb
     simp[hev,zqx,Instr.typeAssert,run_underlying hu,hz,Sem.run_bind,hne]
   |opq=>cases h2
  ·cases e
 ·cases e
end
end Go.Dn
namespace Go.Dn
open Go.Gw Go.RowKit
variable [Dfr]
structure Tr {T:Nat->Type} (ok:Nat->Bool) (F:Heap) (ρ:List Pl) (os:List (Option Obj)) (m:List (Mem T)) (F':Heap) (ρ':List Pl) (os':List (Option Obj)) (m':List (Mem T)):Prop where
 le:F.Le F'
 long:ρ.length<=ρ'.length
 stands: ∀(k:Nat) (p:Pl) (o:Option Obj),ok k=false->ρ[k]? =some p->os[k]? =some o->ρ'[k]? =some p/\(os'[k]? =some o\/∀ob,o=some ob->F' p.blk=some ob)
 cells: ∀(k:Nat) (ty:TypeId) (l:List (AV T)) (p:Pl),m[k]? =some (.cells ty l)->ρ[k]? =some p->(∃ty' l',m'[k]? =some (.cells ty' l'))/\∃p',ρ'[k]? =some p'/\p'.blk=p.blk
section
variable {T:Nat->Type}
theorem Tr.refl(ok:Nat->Bool)(F:Heap)(ρ:List Pl)(os:List (Option Obj))(m:List (Mem T)):Tr ok F ρ os m F ρ os m:=
 ⟨.refl F,yJ _,λ_ _ _ _ h1 h2=>⟨h1,.inl h2⟩,λ_ ty l p h1 h2=>⟨⟨ty,l,h1⟩,p,h2,rfl⟩⟩
theorem Tr.trans{ok:Nat->Bool}{F F1 F2:Heap}{ρ ρ1 ρ2:List Pl}{os os1 os2:List (Option Obj)}{m m1 m2:List (Mem T)}(h:Tr ok F ρ os m F1 ρ1 os1 m1)(g:Tr ok F1 ρ1 os1 m1 F2 ρ2 os2 m2)(hl:os1.length=ρ1.length):Tr ok F ρ os m F2 ρ2 os2 m2:=by
 refine⟨h.le.trans g.le,Nat.le_trans h.long g.long,λk p o hk hp ho=>?_,λk ty l p hm hp=>?_⟩
 · obtain⟨h1,h2⟩:=h.stands k p o hk hp ho;have hlt:k<os1.length:=by rw[hl];exact(qz0 h1).1
   obtain⟨g1,g2⟩:=g.stands k p _ hk h1 (qz9 hlt);refine⟨g1,?_⟩;rcases h2 with h2|h2
   · rw[qz9 hlt]at h2;have h2:=yS h2;rw[h2]at g2;exact g2
   · exact .inr λob e=>g.le.out _ _ (h2 ob e)
 · obtain⟨⟨ty1,l1,h1⟩,p1,hp1,hb1⟩:=h.cells k ty l p hm hp;obtain⟨h2,p2,hp2,hb2⟩:=g.cells k ty1 l1 p1 h1 hp1;exact⟨h2,p2,hp2,hb2.trans hb1⟩
theorem Tr.grow(ok:Nat->Bool){F F':Heap}{ρ ρ2:List Pl}{os os2:List (Option Obj)}{m m2:List (Mem T)}(hF:F.Le F'):Tr ok F ρ os m F' (ρ++ρ2) (os++os2) (m++m2):=
 ⟨hF,by simp,λk p o _ h1 h2=>⟨by rw[yF (qz0 h1).1];exact h1,.inl (by rw[yF (qz0 h2).1];exact h2)⟩,
  λk ty l p h1 h2=>⟨⟨ty,l,by rw[yF (qz0 h1).1];exact h1⟩,p,by rw[yF (qz0 h2).1];exact h2,rfl⟩⟩
end
section
variable {Y:Tys} {hY:zb8 Y} {P:Program} {N:Nat} {w0:World} {F0:Heap} {D:Own} {H:List (Option Nat)} {w w':World} {F F':Heap} {ρ ρ':List Pl} {os os':List (Option Obj)} {s s':Sy Y.T} {a a':Act} {o:Oper} {R:Type} {ok:Nat->Bool} {k:Sy Y.T->Option R} {r:R} {K:Act->World->Prop} {Q:Exit->Act->World->Prop}
def Goes(hY:zb8 Y)(N:Nat)(w0:World)(F0:Heap)(D:Own)(H:List (Option Nat))(ok:Nat->Bool)(F:Heap)(ρ:List Pl)(os:List (Option Obj))(m:List (Mem Y.T))(k:Sy Y.T->Option R)(r:R)(K:Act->World->Prop):Prop:=
 ∀w' F' ρ' os' s' a',Cy hY N w0 F0 D H w' F' ρ' os' s' a'->Tr ok F ρ os m F' ρ' os' s'.m->k s'=some r->K a' w'
def fin{T:Nat->Type}(N:Nat)(o:Oper)(s:Sy T)(x:AV T)(k:Sy T->Option R):Option R:=bif znJ N o.dst then k (s.put o.dst x)else none
theorem zyg{x:AV Y.T}{u:Value}(h':Cy hY N w0 F0 D H w' F' ρ' os' s' a)(ht:Tr ok F ρ os s.m F' ρ' os' s'.m)(hrun:(execOp a.eval o).run P w= .ok (.value u) w')(hr:Rel Y F' ρ' x u)(e:fin N o s' x k=some r)
   (hg:Goes hY N w0 F0 D H ok F ρ os s.m k r K):o.wp P a w K Q:=by
 unfold fin at e;obtain⟨hd,e⟩:=zbh e;exact znp hrun (hg _ _ _ _ _ _ (h'.put hd hr) ht e)
theorem zIF(h':Cy hY N w0 F0 D H w' F' ρ' os' s' a)(ht:Tr ok F ρ os s.m F' ρ' os' s'.m)(hrun:(execOp a.eval o).run P w= .ok .skip w')(e:fin N o s' (.v undef) k=some r)
   (hg:Goes hY N w0 F0 D H ok F ρ os s.m k r K):o.wp P a w K Q:=by
 unfold fin at e;obtain⟨hd,e⟩:=zbh e;exact zzB hrun (hg _ _ _ _ _ _ (h'.put hd .v) ht e)
def zLq{T:Nat->Type}(P:Program)(s:Sy T):Op->Option (Mem T)
 | .alloc e=>match P.info? e with
   |some i=>match i.zero with|some z=>some (.cells e (z.cells.toList.map .v))|none=>none
   |none=>none
 | .box e x=>match evA s.l x with
   |some y=>match y.cells with|some cs=>some (.cells e cs)|none=>none
   |none=>none
 |_=>none
def zOE(Y:Tys):Mem Y.T->Bool
 | .cells ty l=>zEF (Y.bld ty) l
 |_=>true
theorem zJY{x:Mem Y.T}(h:Cy hY N w0 F0 D H w F ρ os s a)(hbm:zOE Y x=true)(e:zLq P s o.op=some x)(e2:fin N o ⟨s.l,s.m++[x]⟩ (.ptr s.m.length 0) k=some r)
   (hg:Goes hY N w0 F0 D H ok F ρ os s.m k r K):o.wp P a w K Q:=by
 have go: ∀{t:TypeId} {cs:List (AV Y.T)} {vs:List Value},x= .cells t cs->zad Y F ρ cs vs->(execOp a.eval o).run P w= .ok (.value (.pointer (some ⟨w.heap.size,0,none⟩))) (w.alloc (.cells vs.toArray t (0,0)))->o.wp P a w K Q:=by
   intro t cs vs hx hr hrun;subst hx
   have hρ: ∀(k:Nat) (q:Pl),ρ[k]? =some q->(ρ++[(⟨w.heap.size,none,0,0,false⟩:Pl)])[k]? =some q:=λk q e=>by
     rw[yF (qz0 e).1];exact e
   have h1:=h.alloc (x:= .cells t cs) (p:=⟨w.heap.size,none,0,0,false⟩) (ob:= .cells vs.toArray t (0,0)) rfl ⟨vs,hr.mono (.refl F) hρ,rfl,zGL hr hbm⟩;refine zyg (s:=s) h1 (Tr.grow ok (.refl F)) hrun (.ptr (pl:=⟨w.heap.size,none,0,0,false⟩) (by rw[h.len];simp)) e2 hg
 unfold zLq at e;split at e
 · rename_i t hop;split at e
   · rename_i i hi;split at e
     ·rename_i z hz;cases e;refine go rfl (zad.v z.cells.toList) ?_;unfold execOp;rw[hop];have hz2:z.cells.toList.toArray=z.cells:=by simp
      simp only[Instr.alloc,Sem.run_bind,zfU hi hz,Result.andThen_ok,zt0,hz2];rfl
     ·cases e
   · cases e
 · rename_i t x' hop;split at e
   · rename_i y hx;split at e
     ·rename_i cs hc;cases e;refine go rfl (AV.ztl hc (h.e.eval hx)) ?_;unfold execOp;rw[hop];have hz2:(a.eval x').cells.toList.toArray=(a.eval x').cells:=by simp
      simp only[Instr.box,Sem.run_bind,zt0,Result.andThen_ok,hz2];rfl
     ·cases e
   · cases e
 · cases e
inductive zH3 (Y:Tys) (e:Nat):Nat->List (Nat×AV Y.T)->List (Y.T e)->Prop where
 |nil {j:Nat}:zH3 Y e j [] []
 |cons {j:Nat} {x:AV Y.T} {cs:List (AV Y.T)} {y:Y.T e} {r:List (Nat×AV Y.T)} {ys:List (Y.T e)} (hc:x.cells=some cs) (hf: ∀(F:Heap) (ρ:List Pl) (vs:List Value),zad Y F ρ cs vs->zad Y F ρ (Y.cells e y) vs) (h:zH3 Y e (j+1) r ys):
     zH3 Y e j ((j,x)::r) (y::ys)
def byteOf{T:Nat->Type}:List (AV T)->Option Int
 | [.v (.int .u8 n)]=>some n
 |_=>none
def zaC{R:Type}(Y:Tys)(e:Nat):Nat->List (Nat×AV Y.T)->(List (Y.T e)->Option R)->Option R
 |_,[],k=>k []
 |j,(i,x)::r,k=>match x.cells with
   |some cs=>if h:e=Y.byt then
      (match byteOf cs with
      |some n=>Option.bind (toB n) λb=>zaC Y e (j+1) r λys=>bif Nat.beq i j then k ((h▸cast Y.isB.symm b)::ys)else none
      |none=>none)
     else(match Y.close e cs with
      |some y=>zaC Y e (j+1) r λys=>bif Nat.beq i j then k (y::ys)else none
      |none=>none)
   |none=>none
theorem zGq{R:Type}(hY:zb8 Y){e:Nat}: ∀{ss:List (Nat×AV Y.T)} {j:Nat} {k:List (Y.T e)->Option R} {r:R},zaC Y e j ss k=some r->∃ys,zH3 Y e j ss ys/\k ys=some r
 | [],j,k,r,h=>⟨[],.nil,h⟩
 | (i,x)::ss,j,k,r,h=>by
   simp only[zaC]at h;split at h
   · rename_i cs hcs;split at h
     ·rename_i he;subst he;split at h
      ·rename_i n hn;cases hb:toB n with
       |none=>rw[hb]at h;cases h
       |some b=>
        rw[hb]at h;obtain⟨ys,h1,h2⟩:=zGq hY h;obtain⟨hij,h3⟩:=zbh h2;have hij:=yC hij;subst hij;refine⟨_,.cons hcs (λF ρ vs hr=>?_) h1,h3⟩;unfold byteOf at hn;split at hn
        ·cases hn;rw[hY.byte];have hcc:cast Y.isB (cast Y.isB.symm b)=b:=by simp
         rw[hcc,<-zrR hb];exact hr
        ·cases hn
      ·cases h
     ·split at h
      ·rename_i y hy;obtain⟨ys,h1,h2⟩:=zGq hY h;obtain⟨hij,h3⟩:=zbh h2;have hij:=yC hij;subst hij;exact⟨_,.cons hcs (λF ρ vs hr=>hY.fit e cs y hy F ρ vs hr) h1,h3⟩
      ·cases h
   · cases h
theorem zKL{e n:Nat}(hn:Y.sz e=n): ∀{ss:List (Nat×AV Y.T)} {us:List (Nat×Value)} {j:Nat} {ys:List (Y.T e)} (c:Array Value),zH3 Y e j ss ys->us.map (·.1)=ss.map (·.1)->zad Y F ρ (ss.map (·.2)) (us.map (·.2))->(j+ss.length)*n<=c.size->
   ∃vs:List Value,vs.length=ys.length*n/\ys.length=ss.length/\rowIs F (kR hY e) vs ys/\Instr.fill (λi=>some (i*n,n)) c us=some (c.toList.take (j*n)++(vs++c.toList.drop ((j+ss.length)*n))).toArray
 | [],us,j,ys,c,e1,h1,_,_=>by
   cases e1;have:us=[]:=by simpa using h1
   subst this;exact⟨[],by simp,rfl,(λj y hj=>by simp at hj),by simp[Instr.fill,List.take_append_drop]⟩
 | (i,x)::r,us,j,ys,c,e1,h1,h2,hc=>by
   cases us with
   |nil=>simp at h1
   |cons u us=>
     obtain⟨i',u⟩:=u;simp only[List.map_cons,List.cons.injEq]at h1;obtain⟨rfl,h1⟩:=h1;obtain⟨u',r',e2,h3,h4⟩:=h2.inv;simp only[List.map_cons,List.cons.injEq]at e2;obtain⟨rfl,rfl⟩:=e2;cases e1 with
     | @cons _ _ cs y _ ys' hcs hf hr=>
        have hfit:=hf F ρ _ (AV.ztl hcs h3);have hsz:u.cells.size=n:=by rw[<-Array.length_toList,hfit.1,hY.len,hn]
        simp only[qz3]at hc
        have hin:j*n+n<=c.size:=by
         have:(j+(r.length+1))*n=j*n+n+r.length*n:=by rw[Nat.add_mul,Nat.add_mul];omega
         omega
        have hf:u.cells.zipIdx.foldl (λcs (x:Value×Nat)=>cs.setIfInBounds (j*n+x.2) x.1) c=(c.toList.take (j*n)++(u.cells.toList++c.toList.drop (j*n+n))).toArray:=by
         rw[<-Array.foldl_toList,Array.toList_zipIdx,foldl_set _ _ _ _ (by simp[hsz];omega)]
         simp[hsz]
        have hsz2:(c.toList.take (j*n)++(u.cells.toList++c.toList.drop (j*n+n))).toArray.size=c.size:=by
         simp[hsz];omega
        obtain⟨vs,q1,q2,q3,q4⟩:=zKL hn (j:=j+1) (c.toList.take (j*n)++(u.cells.toList++c.toList.drop (j*n+n))).toArray hr h1 h4 (by rw[hsz2];simp only[Nat.add_mul]at hc⊢;omega)
        refine⟨u.cells.toList++vs,by simp only[qz5,qz3,Array.length_toList,hsz,q1,Nat.add_mul];omega,by simp[q2],λq x hx=>?_,?_⟩
        ·cases q with
         |zero=>
          simp at hx;subst hx;exact⟨u.cells.toList,hfit.closed hY (hY.free e y),λjj v hv=>by rw[Nat.zero_mul,Nat.zero_add,yF (qz0 hv).1];exact hv⟩
         |succ q=>
          simp only[List.getElem?_cons_succ]at hx;obtain⟨us',c1,c2⟩:=q3 q x hx;refine⟨us',c1,λjj v hv=>?_⟩;have c3:vs[q*Y.sz e+jj]? =some v:=c2 jj v hv;show(u.cells.toList++vs)[(q+1)*Y.sz e+jj]? =some v;rw[Nat.add_mul,Nat.one_mul,show q*Y.sz e+Y.sz e+jj=u.cells.toList.length+(q*Y.sz e+jj) by rw[Array.length_toList,hsz];omega,yG (by omega),Nat.add_sub_cancel_left]
          exact c3
        ·simp only[Instr.fill]
         have hno: ¬(u.cells.size≠n||decide (j*n+u.cells.size>c.size))=true:=by
          simp[hsz];omega
         rw[yK hno,hf,q4];congr 2;have e1:(j+1)*n=j*n+n:=by rw[Nat.add_mul];omega
         have e2:(j+1+r.length)*n=j*n+n+r.length*n:=by rw[Nat.add_mul,Nat.add_mul];omega
         have e3:(j+(r.length+1))*n=j*n+n+r.length*n:=by rw[Nat.add_mul,Nat.add_mul];omega
         have l1:(c.toList.take (j*n)).length=j*n:=by simp;omega
         have l2:u.cells.toList.length=n:=by rw[Array.length_toList,hsz]
         rw[e1,e2,qz3,e3];simp only[List.take_append,List.drop_append,l1,l2,yE,List.drop_drop];have f1:j*n+n -j*n=n:=by omega
         have f2:j*n+n -j*n -n=0:=by omega
         have f3:j*n+n+r.length*n -j*n -n=r.length*n:=by omega
         simp only[f1,f2,f3,Nat.sub_self,List.take_zero,List.append_nil];rw[List.take_of_length_le (show(c.toList.take (j*n)).length<=j*n+n by omega),List.take_of_length_le (show u.cells.toList.length<=n by omega),List.drop_of_length_le (show(c.toList.take (j*n)).length<=j*n+n+r.length*n by omega),List.drop_of_length_le (show u.cells.toList.length<=j*n+n+r.length*n -j*n by omega)];simp
mutual
def AV.owns{T:Nat->Type}:AV T->List Nat
 | .own k=>[k]
 | .agg l=>AV.zE7 l
 | .tup l=>AV.zE7 l
 |_=>[]
def AV.zE7{T:Nat->Type}:List (AV T)->List Nat
 | []=>[]
 |a::l=>a.owns++AV.zE7 l
end
def zvq{T:Nat->Type}(l:zbY T):List Operand->List Nat
 | []=>[]
 |x::r=>(match evA l x with|some a=>a.owns|none=>[])++zvq l r
def Sy.zm6{T:Nat->Type}(s:Sy T):List Nat->Sy T
 | []=>s
 |k::r=>(s.frz k).zm6 r
theorem Cy.zTc(h:Cy hY N w0 F0 D H w F ρ os s a)(j:Nat): ∃F' os',Cy hY N w0 F0 D H w F' ρ os' (s.frz j) a/\Tr ok F ρ os s.m F' ρ os' (s.frz j).m:=by
 unfold Sy.frz;split
 · rename_i e xs hk;obtain⟨p,o,hp,ho,hm⟩:=h.at hk;obtain⟨g,hg,hap,hst⟩:=zMw h.st (znL hp ho);have hset:ρ.set j p=ρ:=zNQ hp;refine⟨F.join g,os.set j none,?_⟩
   have hl:zkH Y (zDm j (.sl e xs)) F ρ (F.join g) (ρ.set j p):=by
     rw[hset];refine⟨Heap.zdZ _ _,λi q e1=>?_,λi z n off q e1=>?_,λi off q e1=>?_⟩<;>simp only[zDm]<;>cases hj:Nat.beq i j
     ·exact .own e1
     ·have:=yC hj;subst this;rw[hp]at e1;cases e1;exact zS4 hm hg hap
     ·exact .oel e1
     ·exact .junk
     ·exact .ptr e1
     ·exact .junk
   have:=h.swap (x':= .gone) (p':=p) (o':=none) hk hl (by rw[hset,zu6 hp];exact hst) trivial
   rw[hset]at this;refine⟨this,Heap.zdZ _ _,yJ _,λi q o2 _ h1 h2=>⟨h1,?_⟩,λi ty l q h1 h2=>⟨⟨ty,AV.subs (zDm j (.sl e xs)) l,?_⟩,q,h2,rfl⟩⟩
   · by_cases hi:j=i
     ·subst hi;rw[hp]at h1;rw[ho]at h2;cases h1;cases h2;right;intro ob e2;subst e2;have hg:g=Heap.one p.blk ob:=hg;subst hg;exact Heap.zeT hap (Heap.zfs _ _)
     ·left;rw[yR,yK hi];exact h2
   · have hne:j≠i:=λe2=>by subst e2;rw[hk]at h1;cases h1
     show((s.m.map (Mem.sub (zDm j (.sl e xs)))).set j .gone)[i]? =_;rw[yR,yK hne,List.getElem?_map,h1];rfl
 · exact⟨F,os,h,Tr.refl ok F ρ os s.m⟩
theorem Cy.zm6(h:Cy hY N w0 F0 D H w F ρ os s a): ∀(ks:List Nat),∃F' os',Cy hY N w0 F0 D H w F' ρ os' (s.zm6 ks) a/\Tr ok F ρ os s.m F' ρ os' (s.zm6 ks).m:=by
 intro ks;induction ks generalizing s F os with
 |nil=>exact⟨F,os,h,Tr.refl ok F ρ os s.m⟩
 |cons j r ih=>
   obtain⟨F1,os1,h1,t1⟩:=h.zTc (ok:=ok) j;obtain⟨F2,os2,h2,t2⟩:=ih h1;exact⟨F2,os2,h2,t1.trans t2 h1.lon⟩
end
end Go.Dn
namespace Go.Dn
open Go.Gw Go.RowKit
variable [Dfr]
section
variable {Y:Tys} {hY:zb8 Y} {P:Program} {N:Nat} {w0:World} {F0:Heap} {D:Own} {H:List (Option Nat)} {w w':World} {F F':Heap} {ρ ρ':List Pl} {os os':List (Option Obj)} {s s':Sy Y.T} {a a':Act} {o:Oper} {R:Type} {ok:Nat->Bool} {k:Sy Y.T->Option R} {r:R} {K:Act->World->Prop} {Q:Exit->Act->World->Prop}
def zJc(P:Program)(e n:Nat):Bool:=match zHN P e with|some z=>Nat.beq z.cells.size n|none=>false
theorem zMA{e n:Nat}(h:zJc P e n=true): ∃i z,P.info? e=some i/\i.zero=some z/\z.cells.size=n:=by
 unfold zJc zHN at h;cases hi:P.info? e with
 |none=>rw[hi]at h;cases h
 |some i=>
  rw[hi]at h;simp only at h;cases hz:i.zero with
  |none=>rw[hz]at h;cases h
  |some z=>rw[hz]at h;exact⟨i,z,rfl,hz,yC h⟩
def zI7(Y:Tys)(P:Program)(s:Sy Y.T)(k:Sy Y.T->Mem Y.T->Option R):Op->Option R
 | .buildSlice t len ps=>match zmQ P t with
  |some e=>
   let s1:=s.zm6 (zvq s.l (ps.toList.map (·.2)))
   match zy6 s1.l ps.toList with
   |some ss=>zaC Y e 0 ss λys=>bif Nat.beq ss.length len&&znu P e (Y.sz e)&&Nat.ble 1 (Y.sz e)&&Nat.ble (len*Y.sz e) 16777216&&Nat.ble 1 len&&zJc P e (Y.sz e)then k s1 (.arr e ys)else none
   |none=>none
  |none=>none
 |_=>none
theorem zMm(h:Cy hY N w0 F0 D H w F ρ os s a)(e:zI7 Y P s (λs1 x=>fin N o ⟨s1.l,s1.m++[x]⟩ (.own s1.m.length) k) o.op=some r)
  (hg:Goes hY N w0 F0 D H ok F ρ os s.m k r K):o.wp P a w K Q:=by
 unfold zI7 at e;split at e
 ·rename_i t len ps hop;split at e
  ·rename_i el hel;dsimp only at e;split at e
   ·rename_i ss hps
    ·obtain⟨ys,hys,e⟩:=zGq hY e;obtain⟨hc,e2⟩:=zbh e;clear e;simp only[qz4]at hc;obtain⟨⟨⟨⟨⟨c1,c2⟩,c3⟩,c4⟩,c5⟩,c6⟩:=hc;have c1:=yC c1;have c2:=zjY c2;have c3:=yD c3;have c4:=yD c4;have c5:=yD c5;obtain⟨i,z,hi,hz,hzs⟩:=zMA c6;obtain⟨F1,os1,h1,t1⟩:=h.zm6 (ok:=ok) (zvq s.l (ps.toList.map (·.2)));generalize hs1:s.zm6 (zvq s.l (ps.toList.map (·.2)))=s1 at h1 t1 hps e2;obtain⟨us,p1,p2,p3⟩:=zww h1.e hps;have hbase:((Array.range (len*Y.sz el)).map λx=>z.cells[x%z.cells.size]!).size=len*Y.sz el:=by simp
     obtain⟨vs,q1,q2,q3,q4⟩:=zKL (hY:=hY) (F:=F1) (ρ:=ρ) rfl (j:=0) ((Array.range (len*Y.sz el)).map λx=>z.cells[x%z.cells.size]!) hys p2 p3 (by rw[hbase,c1,Nat.zero_add];exact yJ _)
     have hle:len<=len*Y.sz el:=by
      have:=Nat.mul_le_mul_left len c3;omega
     have h2:=h1.alloc (x:= .arr el ys) (p:=⟨w.heap.size,some ⟨w.heap.size,0,none⟩,len,len,false⟩) (ob:= .cells vs.toArray el (0,0)) rfl
      ⟨rfl,by rw[q2,c1],.inr ⟨vs.toArray,rfl,rfl,by rw[q2,c1];exact yJ _,by show len<=maxLen;rw[maxLen_eq];omega,by simp[q1,q2,c1],by simpa using q3⟩⟩
     refine zyg (s:=s) (s':=⟨s1.l,s1.m++[.arr el ys]⟩) h2 (t1.trans (Tr.grow ok (.refl F1)) h1.lon) ?_ (.own (pl:=⟨w.heap.size,some ⟨w.heap.size,0,none⟩,len,len,false⟩) (by rw[h1.len];simp)) e2 hg
     unfold execOp;rw[hop];have hpm:(ps.map λ(i,x)=>(i,a.eval x)).toList=us:=by rw[Array.toList_map];exact p1
     have hno: ¬len*Y.sz el>2^24:=by omega
     have hdrop:((Array.range (len*Y.sz el)).map λx=>z.cells[x%z.cells.size]!).toList.drop ((0+ss.length)*Y.sz el)=[]:=by
      rw[List.drop_of_length_le];rw[Array.length_toList,hbase,c1,Nat.zero_add];exact yJ _
     rw[hdrop]at q4;simp only[Nat.zero_mul,List.take_zero,List.nil_append,List.append_nil]at q4;have h0: ¬len*Y.sz el=0:=by omega
     simp only[Instr.buildSlice,Sem.run_bind,run_underlying (zdA hel),Result.andThen_ok,zco c2,hno,yA,h0,zfU hi hz,Sem.run_pure,hpm,q4];simp only[zFr,Result.andThen_ok,Sem.run_pure,Pl.val,cond_false]
   ·cases e
  ·cases e
 ·cases e
def zH1(P:Program)(ok:Nat->Bool)(s:Sy Y.T):Op->Option (Sy Y.T)
 | .store t x y=>match evA s.l x,evA s.l y with
  |some (.ptr j off),some v=>match s.m[j]?,v.cells with
   |some (.cells ty cs),some vc=>bif znu P t vc.length&&Nat.ble (off+vc.length) cs.length&&AV.ones vc&&ok j&&zCF off vc.length (Y.bld ty)then some ⟨s.l,s.m.set j (.cells ty (zuG cs off vc))⟩else none
   |_,_=>none
  |_,_=>none
 |_=>none
theorem zLL{s1:Sy Y.T}(h:Cy hY N w0 F0 D H w F ρ os s a)(e:zH1 P ok s o.op=some s1)(e2:fin N o s1 (.v undef) k=some r)
  (hg:Goes hY N w0 F0 D H ok F ρ os s.m k r K):o.wp P a w K Q:=by
 unfold zH1 at e;split at e
 ·rename_i t x y hop;split at e
  ·rename_i j off v hx hy;split at e
   ·rename_i ty cs vc hj hvc;obtain⟨hc,e⟩:=zcV e;cases e;simp only[qz4]at hc;obtain⟨⟨⟨⟨c1,c2⟩,c3⟩,c4⟩,c5⟩:=hc;have c1:=zjY c1;have c2:=yD c2;obtain⟨p,ob,hp,ho,vs,hr,hob,hbo⟩:=h.at hj;subst hob;have hrx:=h.e.eval hx;generalize hev:a.eval x=ux at hrx;cases hrx with
    | @ptr _ _ p' hp'=>
    rw[hp]at hp';cases hp';have hry:=AV.ztl hvc (h.e.eval hy);have hblk:=h.blk hp ho;have hlen:=hry.1;obtain⟨q1,q2,q3,q4,q5⟩:=zkf p.blk (a.eval y).cells.toList off w;have q6:=zhI p.blk (a.eval y).cells.toList off w _ hblk (by rw[hlen];simp[hr.1];exact c2)
    have h2:=h.setCells (w':=w.setCells p.blk off (a.eval y).cells.toList) (ty':=ty) (cs':=zuG cs off vc) (vs:=vs.take off++((a.eval y).cells.toList++vs.drop (off+vc.length))) hj hp ho (zAO hr hry) (hbo.stays c5 hlen (by rw[hr.1];exact c2)) q1 q2 q3 q4
     (by rw[q6,hlen]) q5
    have ht:Tr ok F ρ os s.m F ρ (os.set j (some (.cells (vs.take off++((a.eval y).cells.toList++vs.drop (off+vc.length))).toArray ty (0,0)))) (s.m.set j (.cells ty (zuG cs off vc))):=by
     refine⟨.refl F,yJ _,λi q o2 hk h1 h2=>⟨h1,.inl ?_⟩,λi ty2 l q h1 h2=>⟨?_,q,h2,rfl⟩⟩
     ·rw[yR,yK (λe=>by subst e;rw[c4]at hk;cases hk)];exact h2
     ·rw[yR];split
      ·rename_i e1;subst e1;rw[yL (qz0 hj).1];exact⟨_,_,rfl⟩
      ·exact⟨_,_,h1⟩
    refine zIF (s:=s) (s':=⟨s.l,s.m.set j (.cells ty (zuG cs off vc))⟩) h2 ht ?_ e2 hg;unfold execOp;rw[hop]
    have hthere: ∀i,i< (a.eval y).cells.toList.length->(w.cell? ⟨p.blk,off+0+i,none⟩).isSome=true:=λi hi=>by
     rw[hlen]at hi;have hi':off+i<vs.length:=by rw[hr.1];omega
     rw[Nat.add_zero,cell_of_heap hblk (qz9 hi')];rfl
    have hfree: ∀i,i< (a.eval y).cells.toList.length->w.frozen? ⟨p.blk,off+0+i,none⟩=false:=λi _=>by
     unfold World.frozen?;rw[hblk];simp
    have hst:=run_storeCells_cells (P:=P) p.blk off (a.eval y).cells.toList 0 w hthere hfree (hry.ones c3);have hsz:(a.eval y).cells.size=vc.length:=by rw[<-Array.length_toList];exact hlen
    have hst2:(storeCells ⟨p.blk,off,none⟩ (a.eval y).cells.toList).run P w= .ok () (w.setCells p.blk off (a.eval y).cells.toList):=hst;simp only[hev,Instr.storeAt,Instr.sureAddr,storeVar,Sem.run_bind,Sem.run_pure,Result.andThen_ok,zco c1,hsz,ne_eq,not_true_eq_false,yA,hst2]
   ·cases e
  ·cases e
 ·cases e
def zI8(Y:Tys)(P:Program)(l:zbY Y.T):Op->Option (AV Y.T)
 | .convert t1 t2 x=>match evA l x with
  |some (.v (.string q))=>bif zqv P t1&&zqj P t2 Y.byt&&zHR P Y.byt then some (.sl Y.byt (cast (congrArg List Y.isB.symm) q.data.toList))else none
  |_=>none
 |_=>none
theorem zCJ{α β:Type}(h:α=β)(l:List α)(i:Nat):(cast (congrArg List h) l)[i]? =(l[i]?).map (cast h):=by
 subst h;show l[i]? =(l[i]?).map id;simp
theorem zC1{α β:Type}(h:α=β)(l:List α):(cast (congrArg List h) l).length=l.length:=by subst h;rfl
theorem zL9{x:AV Y.T}(hsz:Y.sz Y.byt=1)(h:Cy hY N w0 F0 D H w F ρ os s a)(e:zI8 Y P s.l o.op=some x)(e2:fin N o s x k=some r)
  (hg:Goes hY N w0 F0 D H ok F ρ os s.m k r K):o.wp P a w K Q:=by
 unfold zI8 at e;split at e
 ·rename_i t1 t2 x' hop;split at e
  ·rename_i q hx;obtain⟨hc,e⟩:=zcV e;cases e;simp only[qz4]at hc;have e1:=(h.e.eval hx).zcl;have hT:=zdA (zns hc.1.2);have hrun:=run_bytes_of_string (P:=P) w t1 t2 Y.byt q (zsK hc.1.1) hT (zII hc.2);have hcap:=grownCap_ge w q.data.toList.length 0 Y.byt;generalize hcc:grownCap w q.data.toList.length 0 Y.byt=cap at hcap;have hqs:q.size=q.data.toList.length:=rfl;rw[hqs,hcc]at hrun;have h1:=(h.st.drew 1).zR9 (.cells (bytesRow q cap) Y.byt ((bytesRow q cap).size,(bytesRow q cap).size+1));have hF:F w.heap.size=none:=h.st.view.free (yJ _);have hle:=Heap.zdZ F (Heap.one (w.drewN 1).heap.size (.cells (bytesRow q cap) Y.byt ((bytesRow q cap).size,(bytesRow q cap).size+1)))
   have h2:Cy hY N w0 F0 D H _ _ ρ os s a:=⟨h.e.mono hle (λ_ _ h=>h),h.len,h.lon,λk x p o a1 a2 a3=>(h.mem k x p o a1 a2 a3).mono hle (λ_ _ h=>h),h1,h.fix,h.long⟩
   have hlen:(cast (congrArg List Y.isB.symm) q.data.toList).length=q.data.toList.length:=zC1 Y.isB.symm _;refine zyg (s:=s) (u:= .slice (some ⟨w.heap.size,0,none⟩) (cast (congrArg List Y.isB.symm) q.data.toList).length cap) h2 ⟨hle,yJ _,λ_ _ _ _ a1 a2=>⟨a1,.inl a2⟩,λ_ ty l p a1 a2=>⟨⟨ty,l,a1⟩,p,a2,rfl⟩⟩ ?_ ?_ e2 hg
   ·unfold execOp;rw[hop];simp only[e1,Sem.run_bind,hrun,Result.andThen_ok,Sem.run_pure,pure_bind,hlen];rfl
   ·refine .sl w.heap.size 0 (λi=>match q.data.toList[i]? with|some b=>[.int .u8 (b.toNat:Int)]|none=>[]) (by rw[hlen];exact hcap) (λ_ _ _=>rfl) (λi x hx=>?_) (λi x j av u hx h3 h4=>?_)
    ·rw[zCJ Y.isB.symm]at hx;cases hb:q.data.toList[i]? with
     |none=>rw[hb]at hx;cases hx
     |some b=>
      refine⟨by simp[hsz],λj v hj=>?_⟩;simp only at hj;cases j with
      |succ j=>simp at hj
      |zero=>
       cases hj
       have hobj:(F.join (Heap.one (w.drewN 1).heap.size (.cells (bytesRow q cap) Y.byt ((bytesRow q cap).size,(bytesRow q cap).size+1)))) w.heap.size=some (.cells (bytesRow q cap) Y.byt ((bytesRow q cap).size,(bytesRow q cap).size+1)):=
        Heap.zeT (Heap.zi3.2 hF) (Heap.zfs _ _)
       refine⟨_,_,_,hobj,?_⟩;obtain⟨hi1,rfl⟩:=qz0 hb;have:=bytesRow_at q cap i (by simpa using hi1);simpa [hsz]using this
    ·rw[zCJ Y.isB.symm]at hx;cases hb:q.data.toList[i]? with
     |none=>rw[hb]at hx;cases hx
     |some b=>
      rw[hb]at hx;simp only[Option.map_some,Option.some.injEq]at hx;simp only[hb]at h4;rw[hY.byte,<-hx]at h3;have hcc2:cast Y.isB (cast Y.isB.symm b)=b:=by simp
      rw[hcc2]at h3;cases j with
      |succ j=>simp at h4
      |zero=>simp at h3 h4;subst h3;subst h4;exact .v
  ·cases e
 ·cases e
def zPw(Y:Tys)(e:Nat):AV Y.T->Option (List (Y.T e))
 | .v (.string q)=>if h:e=Y.byt then some (h▸cast (congrArg List Y.isB.symm) q.data.toList)else none
 |_=>none
def zLP(Y:Tys)(P:Program)(e t2:Nat)(m:List (Mem Y.T))(v:AV Y.T):Option (List (Y.T e)):=
 bif zqv P t2 then zPw Y e v else(bif zqj P t2 e then zwW e m v else none)
def zHG(Y:Tys)(P:Program)(ok:Nat->Bool)(e t2:Nat)(v:AV Y.T)(k:Sy Y.T->AV Y.T->Option R)(s:Sy Y.T)(j:Nat):Option R:=match zwW e s.m (.own j),zLP Y P e t2 s.m v with
 |some zs,some ys=>bif ok j then Option.bind (room (zs.length+ys.length)) λ_=>k ⟨zou (zqr Y.T (λi=> !(Nat.beq i j))) s.l,(s.m.map (Mem.sub (zqr Y.T (λi=> !(Nat.beq i j))))).set j (.arr e (zs++ys))⟩ (.own j)else none
 |_,_=>none
def zLd(Y:Tys)(P:Program)(ok:Nat->Bool)(s:Sy Y.T)(o:Op)(k:Sy Y.T->AV Y.T->Option R):Option R:=match o with
 | .call c=>match c.callee,c.args.toList,c.argTypes.toList with
  | .builtin .append,[x,y],[t,t2]=>match zmQ P t with
   |some e=>match P.info? e with
    |some i=>bif zHM P e (Y.sz e) i.bytes&&Nat.ble i.bytes 256 then(match evA s.l y,evA s.l x with
     |some v,some (.own j)=>zHG Y P ok e t2 v k s j
     |some v,some (.v (.slice none 0 0))=>zHG Y P ok e t2 v k ⟨s.l,s.m++[.arr e []]⟩ s.m.length
     |_,_=>none)else none
    |none=>none
   |none=>none
  |_,_,_=>none
 |_=>none
end
end Go.Dn
namespace Go.Dn
open Go.Gw Go.RowKit
variable [Dfr]
section
variable {Y:Tys} {hY:zb8 Y} {P:Program} {N:Nat} {w0:World} {F0:Heap} {D:Own} {H:List (Option Nat)} {w w':World} {F F':Heap} {ρ ρ':List Pl} {os os':List (Option Obj)} {s s':Sy Y.T} {a a':Act} {o:Oper} {R:Type} {ok:Nat->Bool} {r:R} {K:Act->World->Prop} {Q:Exit->Act->World->Prop} {k:Sy Y.T->Option R}
theorem Cy.zSY(h:Cy hY N w0 F0 D H w F ρ os s a){k e:Nat}{xs xs':List (Y.T e)}{p:Pl}{cs:Array Value}{ob:Obj}(hk:s.m[k]? =some (.arr e xs))(hp:ρ[k]? =some p)(ho:os[k]? =some (some ob))
  (hr:zen hY F ρ (.arr e xs') p (some (.cells cs e (0,0)))) (hos:w'.os=w.os) (htape:w'.tape=w.tape) (hout:w'.output=w.output) (hsize:w'.heap.size=w.heap.size)
  (hb:w'.heap[p.blk]? =some (.cells cs e (0,0))) (hne: ∀x,x≠p.blk->w'.heap[x]? =w.heap[x]?):
  Cy hY N w0 F0 D H w' F ρ (os.set k (some (.cells cs e (0,0)))) ⟨s.l,s.m.set k (.arr e xs')⟩ a:=by
 refine⟨h.e,by simp[h.len],by simp[h.lon],λj y q r h1 h2 h3=>?_,?_,λj b e1=>⟨(h.fix j b e1).1,λy h2=>?_⟩,h.long⟩
 ·rw[yR]at h1 h3;split at h1
  ·rename_i hj;subst hj;have hl:k<s.m.length:=(qz0 hk).1;rw[yL hl]at h1;rw[yL rfl,yL (by rw[h.lon,<-h.len];exact hl)]at h3
   cases h1;cases h3;rw[hp]at h2;cases h2;exact hr
  ·rename_i hj;rw[yK hj]at h3;exact h.mem j y q r h1 h2 h3
 ·rw[zu6 hp];exact h.st.write (znL hp ho) hos htape hout hsize hb hne
 ·rw[yR]at h2;split at h2
  ·rename_i hj;subst hj;cases(h.fix _ b e1).2 _ hk
  ·exact(h.fix j b e1).2 y h2
def zLB(n:Int):Option UInt8:=Option.bind (toB n) λx=>some x
theorem zQG(n:Int):zLB n=toB n:=by unfold zLB;cases toB n<;>rfl
def zI0(Y:Tys)(P:Program)(N:Nat)(ok:Nat->Bool)(s0:Sy Y.T)(o:Oper)(k:Sy Y.T->Option R):Option R:=match o.op with
 | .store t x y=>
  let s:=s0.zm6 (zvq s0.l [y])
  match evA s.l x,evA s.l y with
  |some (.oel j z i off),some v=>match s.m[j]?,v.cells with
   |some (.arr e xs),some vc=>bif znu P t vc.length&&Nat.beq z (Y.sz e)&&Nat.ble (off+vc.length) (Y.sz e)&&AV.ones vc&&AV.frees vc&&ok j then
     Option.bind (zas xs i) λx0=>match Y.close e (zuG (Y.cells e x0) off vc)with
      |some x1=>fin N o ⟨s.l,s.m.set j (.arr e (xs.set i.toNat x1))⟩ (.v undef) k
      |none=>none
    else none
   |_,_=>none
  |_,_=>none
 |_=>none
theorem zQJ{α:Type}{F:Heap}{d:Kind α}{cs us vals:List Value}{xs:List α}{x1:α}{i off:Nat}(hr:rowIs F d cs xs)(hi:i<xs.length)(hus:d.holds F x1 us)
  (hlen:vals.length+off<=d.sz) (hsz:xs.length*d.sz<=cs.length) (hus0: ∀j v,us[j]? =some v->j<d.sz/\(if j<off then cs[i*d.sz+j]? =some v else if j<off+vals.length then vals[j -off]? =some v else cs[i*d.sz+j]? =some v)):
  rowIs F d (cs.take (i*d.sz+off)++(vals++cs.drop (i*d.sz+off+vals.length))) (xs.set i x1):=by
 have hle:i*d.sz+d.sz<=cs.length:=by
  have:(i+1)*d.sz<=xs.length*d.sz:=Nat.mul_le_mul_right _ hi;rw[Nat.succ_mul]at this;omega
 have hget: ∀q,(cs.take (i*d.sz+off)++(vals++cs.drop (i*d.sz+off+vals.length)))[q]? =if q<i*d.sz+off then cs[q]? else if q<i*d.sz+off+vals.length then vals[q - (i*d.sz+off)]? else cs[q]? :=by
  intro q;have hl:(cs.take (i*d.sz+off)).length=i*d.sz+off:=by rw[List.length_take];omega
  by_cases h1:q<i*d.sz+off
  ·rw[yL h1,yF (by omega),List.getElem?_take,yL h1]
  ·rw[yK h1,yG (by omega),hl];by_cases h2:q<i*d.sz+off+vals.length
   ·rw[yL h2,yF (by omega)]
   ·rw[yK h2,yG (by omega),List.getElem?_drop];congr 1;omega
 intro q x hx;rw[yR]at hx;split at hx
 ·rename_i hq;subst hq;cases hx;refine⟨us,hus,λj v hj=>?_⟩;obtain⟨h1,h2⟩:=hus0 j v hj;rw[hget];by_cases c1:j<off
  ·rw[yL c1]at h2;rw[yL (by omega)];exact h2
  ·rw[yK c1]at h2;rw[yK (by omega)];by_cases c2:j<off+vals.length
   ·rw[yL c2]at h2;rw[yL (by omega),show i*d.sz+j - (i*d.sz+off)=j -off by omega];exact h2
   ·rw[yK c2]at h2;rw[yK (by omega)];exact h2
 ·rename_i hq;obtain⟨us',h1,h2⟩:=hr q x hx;have hql:us'.length=d.sz\/True:= .inr trivial;refine⟨us',h1,λj v hj=>?_⟩;have hc:=h2 j v hj
  have hjl:j<d.sz:=by
   obtain⟨y,hp,hg⟩:=d.opn h1;have hl:=zmj hp;rw[d.len]at hl;have:=(qz0 hj).1;omega
  rw[hget]
  have hne:q*d.sz+j<i*d.sz+off\/i*d.sz+off+vals.length<=q*d.sz+j:=by
   rcases Nat.lt_or_gt_of_ne (λe=>hq e.symm)with h|h
   ·have:(q+1)*d.sz<=i*d.sz:=Nat.mul_le_mul_right _ h;rw[Nat.succ_mul]at this;omega
   ·have:(i+1)*d.sz<=q*d.sz:=Nat.mul_le_mul_right _ h;rw[Nat.succ_mul]at this;omega
  rcases hne with h|h
  ·rw[yL h];exact hc
  ·rw[yK (by omega),yK (by omega)];exact hc
theorem zMR{s0:Sy Y.T}{F1:Heap}{os1:List (Option Obj)}(h0:Cy hY N w0 F0 D H w F1 ρ os1 s0 a)(e:zI0 Y P N ok s0 o k=some r)(hg0:Goes hY N w0 F0 D H ok F1 ρ os1 s0.m k r K):o.wp P a w K Q:=by
 unfold zI0 at e;split at e
 ·rename_i t x y hop;dsimp only at e;obtain⟨F,os,h,t0⟩:=h0.zm6 (ok:=ok) (zvq s0.l [y]);generalize s0.zm6 (zvq s0.l [y])=s at e h t0;have hg:Goes hY N w0 F0 D H ok F ρ os s.m k r K:=λw' F' ρ' os' s' a' h1 h2 h3=>hg0 w' F' ρ' os' s' a' h1 (t0.trans h2 h.lon) h3
  split at e
  ·rename_i j z i off v hx hy;split at e
   ·rename_i el xs vc hj hvc;obtain⟨hc,e5⟩:=zbh e;obtain⟨x0,hx0,e6⟩:=zaS e5;clear e e5;split at e6
    ·rename_i x1 hcl;simp only[qz4]at hc;obtain⟨⟨⟨⟨⟨c1,cz⟩,c2⟩,c3⟩,c5⟩,c4⟩:=hc;have c1:=zjY c1;have cz:z=Y.sz el:=yC cz;subst cz;have c2:=yD c2;obtain⟨p,ob,hp,ho,hmp,hn,hm⟩:=h.at hj
     obtain⟨hi0,hi⟩:0<=i/\xs[i.toNat]? =some x0:=by
      unfold zas at hx0;split at hx0
      ·rename_i h0;exact⟨h0,hx0⟩
      ·cases hx0
     have hilt:i.toNat<xs.length:=(qz0 hi).1;rcases hm with⟨_,_,hnil,_⟩| ⟨cs,hA,hob,hle,hmax,hsz,hrow⟩
     ·rw[hnil]at hilt;exact absurd hilt (Nat.not_lt_zero _)
     ·subst hob;have hblk:=h.blk hp ho;have hrx:=h.e.eval hx;generalize hev:a.eval x=ux at hrx;cases hrx with
      | @oel _ _ _ _ p' hp'=>
      rw[hp]at hp';cases hp';have hry:=AV.ztl hvc (h.e.eval hy);have hlen:=hry.1;obtain⟨us0,hu0,hu1⟩:=hrow i.toNat x0 hi;have hu0:zad Y F [] (Y.cells el x0) us0:=hu0;have hul:us0.length=Y.sz el:=by rw[hu0.1,hY.len]
      have hszl:cs.toList.length=p.c*Y.sz el:=by rw[Array.length_toList];exact hsz
      have hspan:i.toNat*Y.sz el+Y.sz el<=cs.toList.length:=by
       have:(i.toNat+1)*Y.sz el<=p.c*Y.sz el:=Nat.mul_le_mul_right _ (by omega);rw[Nat.succ_mul]at this;omega
      have hnew:zad Y F [] (Y.cells el x1) (us0.take off++((a.eval y).cells.toList++us0.drop (off+vc.length))):=
       hY.fit el _ x1 hcl F [] _ (zAO hu0 (hry.closed hY c5))
      have hrow2:=zQJ (d:=kR hY el) (vals:=(a.eval y).cells.toList) (off:=off) (i:=i.toNat) hrow hilt hnew (by rw[hlen];show vc.length+off<=Y.sz el;omega) (by rw[hszl];exact Nat.mul_le_mul_right _ hle) (λq u hq=>by
       have hql:=(qz0 hq).1;simp only[qz5,List.length_take,List.length_drop]at hql;refine⟨by show q<Y.sz el;omega,?_⟩
       have htl:(us0.take off).length=off:=by rw[List.length_take];omega
       by_cases q1:q<off
       ·rw[yL q1];rw[yF (by omega),List.getElem?_take,yL q1]at hq;exact hu1 q u hq
       ·rw[yK q1];rw[yG (by omega),htl]at hq;by_cases q2:q<off+(a.eval y).cells.toList.length
        ·rw[yL q2];rw[yF (by omega)]at hq;exact hq
        ·rw[yK q2];rw[yG (by omega),List.getElem?_drop]at hq;refine hu1 q u ?_;rw[<-hq];congr 1;omega)
      obtain⟨q1,q2,q3,q4,q5⟩:=zkf p.blk (a.eval y).cells.toList (i.toNat*Y.sz el+off) w;have q6:=zhI p.blk (a.eval y).cells.toList (i.toNat*Y.sz el+off) w cs hblk (by rw[hlen,<-Array.length_toList];omega)
      have hmem:zen hY F ρ (.arr el (xs.set i.toNat x1)) p (some (.cells (cs.toList.take (i.toNat*Y.sz el+off)++((a.eval y).cells.toList++cs.toList.drop (i.toNat*Y.sz el+off+(a.eval y).cells.toList.length))).toArray el (0,0))):=by
       refine⟨hmp,by rw[List.length_set];exact hn,.inr ⟨_,hA,rfl,by rw[List.length_set];exact hle,hmax,?_,?_⟩⟩
       ·rw[<-hsz,<-Array.length_toList,<-Array.length_toList];simp only[qz5,List.length_take,List.length_drop];rw[hlen];omega
       ·exact hrow2
      have h2:=h.zSY hj hp ho hmem q1 q2 q3 q4 q6 q5
      have ht:Tr ok F ρ os s.m F ρ (os.set j (some (.cells (cs.toList.take (i.toNat*Y.sz el+off)++((a.eval y).cells.toList++cs.toList.drop (i.toNat*Y.sz el+off+(a.eval y).cells.toList.length))).toArray el (0,0)))) (s.m.set j (.arr el (xs.set i.toNat x1))):=by
       refine⟨.refl F,yJ _,λi2 q o2 hk h1 h2=>⟨h1,.inl ?_⟩,λi2 ty2 l q h1 h2=>⟨?_,q,h2,rfl⟩⟩
       ·rw[yR,yK (λe=>by subst e;rw[c4]at hk;cases hk)];exact h2
       ·rw[yR];split
        ·rename_i e1;subst e1;rw[hj]at h1;cases h1
        ·exact⟨_,_,h1⟩
      refine zIF (s:=s) (s':=⟨s.l,s.m.set j (.arr el (xs.set i.toNat x1))⟩) h2 ht ?_ e6 hg;unfold execOp;rw[hop]
      have hthere: ∀q,q< (a.eval y).cells.toList.length->(w.cell? ⟨p.blk,i.toNat*Y.sz el+off+0+q,none⟩).isSome=true:=λq hq=>by
       rw[hlen]at hq;have hq':i.toNat*Y.sz el+off+q<cs.toList.length:=by omega
       have hb2:w.heap[p.blk]? =some (.cells cs.toList.toArray el (0,0)):=by simpa using hblk
       rw[Nat.add_zero,cell_of_heap hb2 (qz9 hq')];rfl
      have hfree: ∀q,q< (a.eval y).cells.toList.length->w.frozen? ⟨p.blk,i.toNat*Y.sz el+off+0+q,none⟩=false:=λq _=>by
       unfold World.frozen?;rw[hblk];simp
      have hst:=run_storeCells_cells (P:=P) p.blk (i.toNat*Y.sz el+off) (a.eval y).cells.toList 0 w hthere hfree (hry.ones c3);have hsz2:(a.eval y).cells.size=vc.length:=by rw[<-Array.length_toList];exact hlen
      have hst2:(storeCells ⟨p.blk,i.toNat*Y.sz el+off,none⟩ (a.eval y).cells.toList).run P w= .ok () (w.setCells p.blk (i.toNat*Y.sz el+off) (a.eval y).cells.toList):=hst;simp only[hev,Instr.storeAt,Instr.sureAddr,storeVar,Sem.run_bind,Sem.run_pure,Result.andThen_ok,zco c1,hsz2,ne_eq,not_true_eq_false,yA,hst2]
    ·cases e6
   ·cases e
  ·cases e
 ·cases e
end
end Go.Dn
namespace Go.Dn
open Go.Gw Go.RowKit
variable [Dfr]
section
variable {Y:Tys} {hY:zb8 Y} {P:Program} {N:Nat} {w0:World} {F0:Heap} {D:Own} {H:List (Option Nat)} {w w':World} {F F':Heap} {ρ ρ':List Pl} {os os':List (Option Obj)} {s s':Sy Y.T} {a a':Act} {o:Oper} {R:Type} {ok:Nat->Bool} {r:R} {K:Act->World->Prop} {Q:Exit->Act->World->Prop}
theorem zL0(hsz:Y.sz Y.byt=1)(q:Str):rowIs F (kR hY Y.byt) (q.map λb=>Value.int .u8 (b.toNat:Int)) (cast (congrArg List Y.isB.symm) q):=by
 intro j y hj;rw[zCJ Y.isB.symm]at hj;cases hb:q[j]? with
 |none=>rw[hb]at hj;cases hj
 |some b=>
  rw[hb]at hj;simp only[Option.map_some,Option.some.injEq]at hj;refine⟨[.int .u8 (b.toNat:Int)],?_,λi v hv=>?_⟩
  ·show zad Y F [] (Y.cells Y.byt y) _;rw[hY.byte,<-hj];have hcc2:cast Y.isB (cast Y.isB.symm b)=b:=by simp
   rw[hcc2];exact zad.cons .v zad.nil
  ·cases i with
   |succ i=>simp at hv
   |zero=>
    simp at hv;subst hv;show(q.map λb=>Value.int .u8 (b.toNat:Int))[j*Y.sz Y.byt+0]? =_;rw[hsz,Nat.mul_one,Nat.add_zero];simp[hb]
theorem zPY{k:Sy Y.T->AV Y.T->Option R}(hsz:Y.sz Y.byt=1)(h:Cy hY N w0 F0 D H w F ρ os s a)(e:zLd Y P ok s o.op k=some r)
  (hfin: ∀s' x w' F' ρ' os' u,k s' x=some r->Cy hY N w0 F0 D H w' F' ρ' os' s' a->Tr ok F ρ os s.m F' ρ' os' s'.m->(execOp a.eval o).run P w= .ok (.value u) w'->Rel Y F' ρ' x u->o.wp P a w K Q):o.wp P a w K Q:=by
 unfold zLd at e;split at e
 ·rename_i c hop;split at e
  ·rename_i x y t t2 hcal hargs hts;split at e
   ·rename_i el hel;split at e
    ·rename_i i hi;obtain⟨hc,e⟩:=zbh e;simp only[qz4]at hc;have hb:=yD hc.2
     have go: ∀(v:AV Y.T) (s1:Sy Y.T) (ρ1:List Pl) (os1:List (Option Obj)) (j:Nat),Cy hY N w0 F0 D H w F ρ1 os1 s1 a->Tr ok F ρ os s.m F ρ1 os1 s1.m->Rel Y F ρ1 v (a.eval y)->Rel Y F ρ1 (.own j) (a.eval x)->
       zHG Y P ok el t2 v k s1 j=some r->o.wp P a w K Q:=by
      intro v s1 ρ1 os1 j h1 t1 hrv hrx e;unfold zHG at e;split at e
      ·rename_i zs ys hzs hys;obtain⟨hokj,e⟩:=zbh e;obtain⟨u0,hroom,hk⟩:=zaS e;have hroom:room (zs.length+ys.length)=some ():=hroom
       have harr:s1.m[j]? =some (.arr el zs):=by
        simp only[zwW]at hzs;split at hzs
        ·rename_i e' xs hm;split at hzs
         ·rename_i he;subst he;cases hzs;exact hm
         ·cases hzs
        ·cases hzs
       have news: ∃(news:List Value) (dd:TypeDesc),P.underlying t2=some dd/\(dd= .string\/∃q,dd= .slice q)/\news.length=ys.length*Y.sz el/\(∀v∈news,v.oneCell'=true)/\rowIs F (kR hY el) news ys/\
         (Builtin.lenOf (a.eval y)).run P w= .ok ys.length w/\∀w':World,(∀p,w'.cell? p=w.cell? p)->(Builtin.firstCells (Y.sz el) ys.length (a.eval y)).run P w'= .ok news.toArray w':=by
        unfold zLP at hys;cases hst:zqv P t2 with
        |true=>
         rw[hst]at hys;simp only[cond_true]at hys;unfold zPw at hys;split at hys
         ·rename_i q;split at hys
          ·rename_i he;subst he;cases hys;have ey:=hrv.zcl;have hlen:(cast (congrArg List Y.isB.symm) q.data.toList).length=q.data.toList.length:=zC1 Y.isB.symm _;refine⟨q.data.toList.map λb=>Value.int .u8 (b.toNat:Int),.string,zsK hst,.inl rfl,by rw[hlen,hsz];simp,λv hv=>?_,zL0 hsz _,?_,λw' _=>?_⟩
           ·obtain⟨b,_,rfl⟩:=List.mem_map.1 hv;rfl
           ·rw[ey,hlen];rfl
           ·rw[ey,hlen,hsz];exact Lib.run_firstCells_string (P:=P) w' 1 q
          ·cases hys
         ·cases hys
        |false=>
         rw[hst]at hys;simp only[cond_false]at hys;obtain⟨ht2,hys⟩:=zbh hys;obtain⟨nw,n1,n2,n3,n4,n5⟩:=(zP0 h1 hys hrv).cells (P:=P);exact⟨nw,.slice el,zdA (zns ht2),.inr ⟨el,rfl⟩,n1,n2,n3,n4,n5⟩
       obtain⟨nw,dd,n1,n2,n3,n4,n5,n6,n7⟩:=news;obtain⟨w',p',o',hrun,h2,hlt⟩:=h1.app (P:=P) (T:=t) (T2:=t2) harr hrx hel n1 n2 hc.1 hb hroom n6 n7 n3 n4 rfl n5 o.type
       have ht:Tr ok F ρ1 os1 s1.m F (ρ1.set j p') (os1.set j o') ((s1.m.map (Mem.sub (zqr Y.T (λi=> !(Nat.beq i j))))).set j (.arr el (zs++ys))):=by
        refine⟨.refl F,by simp,λi q o2 hk h1 h2=>?_,λi ty2 l q h1 h2=>?_⟩
        ·have hne:j≠i:=λe=>by subst e;rw[hokj]at hk;cases hk
         exact⟨by rw[yR,yK hne];exact h1,.inl (by rw[yR,yK hne];exact h2)⟩
        ·have hne:j≠i:=λe=>by subst e;rw[harr]at h1;cases h1
         exact⟨⟨ty2,_,by rw[yR,yK hne,List.getElem?_map,h1];rfl⟩,q,by rw[yR,yK hne];exact h2,rfl⟩
       refine hfin _ _ w' F (ρ1.set j p') (os1.set j o') p'.val hk h2 (t1.trans ht h1.lon) ?_ (.own (by rw[yR,yL rfl,yL hlt]));unfold execOp;rw[hop]
       have hargs':c.args.map a.eval= #[a.eval x,a.eval y]:=by
        rw[<-Array.toList_inj,Array.toList_map,hargs];simp
       have hts':c.argTypes= #[t,t2]:=by rw[<-Array.toList_inj,hts]
       simp only[hcal,hargs',hts',resolve,invoke,Deferred.ofValue];show((do pure (Next.value (<-Builtin.append_ #[t,t2] o.type #[a.eval x,a.eval y])):Sem Next)).run P w=_;simp only[Sem.run_bind,hrun,Result.andThen_ok,Sem.run_pure]
      ·cases e
     split at e
     ·rename_i v j hv hx;exact go v s ρ os j h (Tr.refl ok F ρ os s.m) (h.e.eval hv) (h.e.eval hx) e
     ·rename_i v hv hx;have h1:=h.zIK el;have t1:Tr ok F ρ os s.m F (ρ++[⟨0,none,0,0,false⟩]) (os++[none]) (s.m++[.arr el []]):=Tr.grow ok (.refl F)
      have hρ: ∀(k:Nat) (q:Pl),ρ[k]? =some q->(ρ++[(⟨0,none,0,0,false⟩:Pl)])[k]? =some q:=λk q e=>by
       rw[yF (qz0 e).1];exact e
      have ex:=(h.e.eval hx).zcl;refine go v _ _ _ _ h1 t1 ((h.e.eval hv).mono (.refl F) hρ) ?_ e;rw[ex];exact .own (pl:=⟨0,none,0,0,false⟩) (by rw[h.len];simp)
     ·cases e
    ·cases e
   ·cases e
  ·cases e
 ·cases e
end
end Go.Dn
namespace Go.Dn
open Go.Gw Go.RowKit
variable [Dfr]
section lists
variable {α:Type}
def insL:List Nat->List α->List α->List α
 |k::R,x::new,xs=>(insL R new xs).set k x
 |_,_,xs=>xs
theorem zbK: ∀(R:List Nat) (new xs:List α),(insL R new xs).length=xs.length
 | [],new,xs=>by cases new<;>rfl
 |k::R,[],xs=>rfl
 |k::R,x::new,xs=>by simp only[insL,List.length_set];exact zbK R new xs
theorem zl5: ∀{R:List Nat} {new xs:List α} {k:Nat},k∉R->(insL R new xs)[k]? =xs[k]?
 | [],new,xs,k,_=>by cases new<;>rfl
 |i::R,[],xs,k,_=>rfl
 |i::R,x::new,xs,k,h=>by
  simp only[yP,not_or]at h;simp only[insL];rw[yR,yK (λe=>h.1 e.symm)];exact zl5 h.2
theorem zpn: ∀{R:List Nat} {new xs:List α} {j k:Nat} {x:α},R.Nodup->R[j]? =some k->new[j]? =some x->k<xs.length->(insL R new xs)[k]? =some x
 | [],new,xs,j,k,x,_,h,_,_=>by simp at h
 |i::R,[],xs,j,k,x,_,_,h,_=>by simp at h
 |i::R,y::new,xs,0,k,x,_,h1,h2,hk=>by
  simp at h1 h2;subst h1;subst h2;simp only[insL];rw[yR,yL rfl,yL (by rw[zbK];exact hk)]
 |i::R,y::new,xs,j+1,k,x,hn,h1,h2,hk=>by
  simp only[List.getElem?_cons_succ]at h1 h2;simp only[List.nodup_cons]at hn;simp only[insL];have hne:i≠k:=λe=>by subst e;exact hn.1 (List.mem_of_getElem? h1)
  rw[yR,yK hne];exact zpn hn.2 h1 h2 hk
def posOf:List Nat->Nat->Option Nat
 | [],_=>none
 |i::R,k=>bif Nat.beq i k then some 0 else(posOf R k).map (· +1)
theorem zt6: ∀{R:List Nat} {k j:Nat},posOf R k=some j->R[j]? =some k
 | [],k,j,h=>by cases h
 |i::R,k,j,h=>by
  simp only[posOf]at h;cases hb:Nat.beq i k with
  |true=>rw[hb]at h;cases h;rw[<-yC hb];rfl
  |false=>
   rw[hb]at h;simp only[cond_false]at h;cases hp:posOf R k with
   |none=>rw[hp]at h;cases h
   |some q=>rw[hp]at h;cases h;simpa using zt6 hp
theorem zAo: ∀{R:List Nat} {k:Nat},posOf R k=none->k∉R
 | [],k,_=>by simp
 |i::R,k,h=>by
  simp only[posOf]at h;cases hb:Nat.beq i k with
  |true=>rw[hb]at h;cases h
  |false=>
   rw[hb]at h;simp only[cond_false,Option.map_eq_none_iff]at h;simp only[yP,not_or];exact⟨λe=>(by subst e;rw[Nat.beq_refl]at hb;cases hb),zAo h⟩
def zfk(R:List Nat)(k:Nat):Bool:=(posOf R k).isNone
def nodupB:List Nat->Bool
 | []=>true
 |i::R=>zfk R i&&nodupB R
theorem zC8: ∀{R:List Nat},nodupB R=true->R.Nodup
 | [],_=>List.nodup_nil
 |i::R,h=>by
  simp only[nodupB,zfk,qz4,Option.isNone_iff_eq_none]at h;exact List.nodup_cons.2 ⟨zAo h.1,zC8 h.2⟩
end lists
section
variable {T:Nat->Type}
mutual
def AV.refs:AV T->List Nat
 | .own k=>[k]
 | .oel k _ _ _=>[k]
 | .ptr k _=>[k]
 | .el l=>AV.zwq l
 | .agg l=>AV.zwq l
 | .tup l=>AV.zwq l
 | .fn _ l=>AV.zwq l
 |_=>[]
def AV.zwq:List (AV T)->List Nat
 | []=>[]
 |a::l=>a.refs++AV.zwq l
end
def Mem.refs:Mem T->List Nat
 | .cells _ l=>AV.zwq l
 |_=>[]
def reach(m:List (Mem T)):Nat->List Nat->List Nat->List Nat
 |0,_,acc=>acc
 |_+1,[],acc=>acc
 |n+1,k::todo,acc=>bif zfk acc k then reach m n ((match m[k]? with|some x=>x.refs|none=>[])++todo) (acc++[k])else reach m n todo acc
def isCells:Option (Mem T)->Bool
 |some (.cells ..)=>true
 |_=>false
def zKf:Option (Mem T)->Bool
 |some (.cells ..)=>true
 |some (.arr ..)=>true
 |_=>false
def zqw(T:Nat->Type)(R:List Nat):Sb T:=
 ⟨λk=>match posOf R k with|some j=> .own j|none=> .junk,λk z i off=>match posOf R k with|some j=> .oel j z i off|none=> .junk,λk off=>match posOf R k with|some j=> .ptr j off|none=> .junk⟩
def zF8(R:List Nat)(n j:Nat):Nat:=match R[j]? with|some k=>k|none=>n+(j -R.length)
def zAu(T:Nat->Type)(R:List Nat)(n:Nat):Sb T:=⟨λj=> .own (zF8 R n j),λj z i off=> .oel (zF8 R n j) z i off,λj off=> .ptr (zF8 R n j) off⟩
def zIU(T:Nat->Type)(R:List Nat)(m:List (Mem T)):Sb T:=
 ⟨λk=>bif zfk R k then .own k else .junk,λk z i off=>bif zfk R k then .oel k z i off else .junk,λk off=>bif zfk R k||isCells m[k]? then .ptr k off else .junk⟩
end
inductive Pat where
 |junk
 |nilp
 |nils
 |int (k:IntKind)
 |bool
 |str
 |sl (e:Nat)
 |err
 |ptr (k off:Nat)
 |own (k:Nat)
 |st (e:Nat)
 |elst (e:Nat)
 |fn (f:Nat) (l:List Pat)
 |agg (l:List Pat)
 |el (l:List Pat)
 |tup (l:List Pat)
inductive zcK where
 |gone
 |cells (ty:TypeId) (l:List Pat)
 |whole (ty e:Nat)
 |arr (e:Nat)
 |mp (k e:Nat)
 |it
structure Shape where
 l:List (Nat×Pat)
 m:List zcK
inductive Out (T:Nat->Type) where
 |ret (x:AV T)
 |pan (x:AV T)
def Out.sub{T:Nat->Type}(s:Sb T):Out T->Out T
 | .ret x=> .ret (x.sub s)
 | .pan x=> .pan (x.sub s)
inductive zvm (Y:Tys) (F:Heap) (ρ:List Pl):Out Y.T->Ending->Prop where
 |ret {x:AV Y.T} {u:Value} (h:Rel Y F ρ x u):zvm Y F ρ (.ret x) (.returned u)
 |pan {x:AV Y.T} {u:Value} (h:Rel Y F ρ x u):zvm Y F ρ (.pan x) (.panicked [{v:=u,recovered:=false}])
structure Callee (Y:Tys) where
 run:{R:Type}->List (AV Y.T)->List (Mem Y.T)->(Out Y.T->List (Mem Y.T)->Option R)->Option R
 keep:List Nat
 shs:List Shape
 /-- it only looks at what it is handed,and hands back plain values -/
 bor:Bool:=false
def zIP{T:Nat->Type}:List (Nat×Pat)->List (AV T)->Bool
 | [],_=>true
 |_::_,[]=>true
 | (_,.fn f _)::r,.fn g _::l=>Nat.beq f g&&zIP r l
 |_::r,_::l=>zIP r l
def Callee.sh{Y:Tys}(C:Callee Y)(az:List (AV Y.T)):Shape:=match C.shs.find? λσ=>zIP σ.l az with
 |some σ=>σ
 |none=>⟨[],[]⟩
section
variable {Y:Tys} {hY:zb8 Y} {P:Program} {N:Nat} {w0:World} {F0:Heap} {D:Own} {H:List (Option Nat)} {w w':World} {F F':Heap} {ρ ρ':List Pl} {os os':List (Option Obj)} {s s':Sy Y.T} {a a':Act} {o:Oper} {R:Type} {ok:Nat->Bool} {r:R} {K:Act->World->Prop} {Q:Exit->Act->World->Prop}
def outs:List Nat->List (Option Obj)->List (Option Obj)
 | [],os=>os
 |k::R,os=>outs R (os.set k none)
def zek{α:Type}(R:List Nat)(xs:List α)(d:α):List α:=R.map λk=>xs.getD k d
def pl0:Pl:=⟨0,none,0,0,false⟩
theorem zO6{α:Type}{R:List Nat}{xs:List α}{d x:α}{k:Nat}(h:k∉R):zek R (xs.set k x) d=zek R xs d:=by
 unfold zek;apply List.map_congr_left;intro i hi;have hne:k≠i:=λe=>by subst e;exact h hi
 simp[List.getD,yR,hne]
theorem zF5{F:Heap}: ∀{R:List Nat} {os:List (Option Obj)} {x:Heap},R.Nodup->(∀k∈R,k<ρ.length)->os.length=ρ.length->all F (pts ρ os) x->all F (pts ρ (outs R os)++pts (zek R ρ pl0) (zek R os none)) x
 | [],os,x,_,_,_,h=>by simpa [outs,zek,pts]using h
 |k::R,os,x,hn,hk,hl,h=>by
  simp only[List.nodup_cons]at hn;have hkl:=hk k qz7;have hkl':k<os.length:=by omega
  have hget:=znL (qz9 hkl) (qz9 hkl');obtain⟨g,kk,ha,hap,rfl,hr,put⟩:=zma hget h;have h1:=put (A':=emp) (.refl F) rfl hr (Heap.znc _);rw[Heap.zu9,show emp=zqn ρ[k] none from rfl,<-zu6 (qz9 hkl)]at h1;have h2:=zF5 hn.2 (λi hi=>hk i (qz8 _ hi)) (by simpa using hl) h1;rw[zO6 hn.1]at h2;have h3:all F ([zqn ρ[k] os[k]]++(pts ρ (outs R (os.set k none))++pts (zek R ρ pl0) (zek R os none))) (g.join kk):=all_append.2 ⟨g,kk,zKN.2 ha,h2,hap,rfl⟩;have h4:=zGN h3;have e1:zek (k::R) ρ pl0=ρ[k]::zek R ρ pl0:=by simp[zek,List.getD,hkl]
  have e2:zek (k::R) os none=os[k]::zek R os none:=by simp[zek,List.getD,hkl']
  rw[e1,e2];exact h4
theorem all_in{F:Heap}: ∀{R:List Nat} {ρ:List Pl} {os:List (Option Obj)} {ρ2:List Pl} {os2:List (Option Obj)} {x:Heap},R.Nodup->(∀k∈R,k<ρ.length)->os.length=ρ.length->ρ2.length=R.length->os2.length=R.length->
  all F (pts ρ (outs R os)++pts ρ2 os2) x->all F (pts (insL R ρ2 ρ) (insL R os2 os)) x
 | [],ρ,os,ρ2,os2,x,_,_,_,h2,h3,h=>by
  have e1:ρ2=[]:=List.length_eq_zero_iff.1 h2;subst e1;simpa [outs,pts,insL]using h
 |k::R,ρ,os,[],os2,x,_,_,_,h2,_,_=>by simp at h2
 |k::R,ρ,os,p::ρ2,[],x,_,_,_,_,h3,_=>by simp at h3
 |k::R,ρ,os,p::ρ2,o::os2,x,hn,hk,hl,h2,h3,h=>by
  simp only[List.nodup_cons]at hn;have hkl:=hk k qz7;have h4:all F (pts ρ (outs R (os.set k none))++([zqn p o]++pts ρ2 os2)) x:=h;have h5:=zGN h4;obtain⟨g,q,ha,hq,hap,rfl⟩:=all_append.1 h5;have h6:=all_in (ρ:=ρ) (os:=os.set k none) hn.2 (λi hi=>hk i (qz8 _ hi)) (by simpa using hl) (by simpa using h2) (by simpa using h3) hq;have hkl2:k< (insL R ρ2 ρ).length:=by rw[zbK];exact hkl
  have hno:(insL R os2 (os.set k none))[k]? =some none:=by
   rw[zl5 hn.1,yR,yL rfl,yL (by omega)]
  have hget:=znL (qz9 hkl2) hno;obtain⟨g0,q0,ha0,hap0,rfl,hr,put⟩:=zma hget h6;have e0:g0=Heap.nil:=ha0;subst e0;rw[Heap.zu9]at hap⊢;have h7:=put (A':=zqn p o) (.refl F) (zKN.1 ha) hr hap;rw[<-zDs]at h7
  have e1:((insL R os2 (os.set k none)).set k o)=((insL R os2 os).set k o):=by
   apply List.ext_getElem?;intro i;rw[yR,yR];split
   ·simp[zbK]
   ·rename_i hne;by_cases hi:i∈R
    ·obtain⟨j,hj⟩:=List.mem_iff_getElem?.1 hi;have hil:=hk i (qz8 _ hi)
     have hj2:j<os2.length:=by
      have:=(qz0 hj).1;simp at h3;omega
     rw[zpn hn.2 hj (qz9 hj2) (by simp;omega),zpn hn.2 hj (qz9 hj2) (by omega)]
    ·rw[zl5 hi,zl5 hi,yR,yK hne]
  rw[e1]at h7;exact h7
 termination_by R=>R.length
def zLO(hY:zb8 Y)(P:Program)(G:Heap->Prop)(f:FuncId)(args:List (AV Y.T))(ms:List (Mem Y.T))(post:Out Y.T->List (Mem Y.T)->Prop):Prop:=
 ∀(w:World) (F:Heap) (ρ:List Pl) (os:List (Option Obj)) (vals:List Value) (D:Own),G F->zad Y F ρ args vals->ms.length=ρ.length->os.length=ρ.length->
  (∀(k:Nat) (x:Mem Y.T) (p:Pl) (o:Option Obj),ms[k]? =some x->ρ[k]? =some p->os[k]? =some o->zen hY F ρ x p o)->Gw.St w F D w F (pts ρ os)->
  Calls P f vals.toArray w λe w'=>∃res F' ρ' os' ms',post res ms'/\zvm Y F' ρ' res e/\ms'.length=ρ'.length/\os'.length=ρ'.length/\
   (∀(k:Nat) (x:Mem Y.T) (p:Pl) (o:Option Obj),ms'[k]? =some x->ρ'[k]? =some p->os'[k]? =some o->zen hY F' ρ' x p o)/\Gw.St w F D w' F' (pts ρ' os')/\ρ.length<=ρ'.length/\
   ∀(k:Nat) (ty:TypeId) (l:List (AV Y.T)) (p:Pl),ms[k]? =some (.cells ty l)->ρ[k]? =some p->(∃ty' l',ms'[k]? =some (.cells ty' l'))/\∃p',ρ'[k]? =some p'/\p'.blk=p.blk
def zLj(ok:Nat->Bool)(s:Sy Y.T)(C:Callee Y)(args:List (AV Y.T))(k:Sy Y.T->Out Y.T->Option R):Option R:=
 let L:=reach s.m 4096 (AV.zwq args) []
 bif nodupB L&&L.all (λj=>ok j&&zKf s.m[j]?)then
  C.run (AV.subs (zqw Y.T L) args) (L.map λj=>(s.m.getD j .gone).sub (zqw Y.T L)) λres ms=>
   bif Nat.ble L.length ms.length then
    k ⟨zou (zIU Y.T L s.m) s.l,insL L (ms.map (Mem.sub (zAu Y.T L s.m.length))) (s.m.map (Mem.sub (zIU Y.T L s.m)))++(ms.map (Mem.sub (zAu Y.T L s.m.length))).drop L.length⟩ (res.sub (zAu Y.T L s.m.length))
   else none
 else none
theorem zzH{α:Type}{L:List Nat}{xs:List α}{d:α}{j:Nat}:(zek L xs d)[j]? =(L[j]?).map λk=>xs.getD k d:=by simp[zek]
theorem zNC{G:Heap->Prop}{f:FuncId}{C:Callee Y}{args:List (AV Y.T)}{vals:List Value}{k:Sy Y.T->Out Y.T->Option R}(hC: ∀args ms r (k:Out Y.T->List (Mem Y.T)->Option R),C.run args ms k=some r->zLO hY P G f args ms λres ms'=>k res ms'=some r)
  (hG:G F) (h:Cy hY N w0 F0 D H w F ρ os s a) (hargs:zad Y F ρ args vals) (e:zLj ok s C args k=some r) {post:Ending->World->Prop}
  (hK: ∀s' x w' F' ρ' os' e,k s' x=some r->Cy hY N w0 F0 D H w' F' ρ' os' s' a->Tr ok F ρ os s.m F' ρ' os' s'.m->zvm Y F' ρ' x e->post e w'):Calls P f vals.toArray w post:=by
 unfold zLj at e;dsimp only at e;generalize reach s.m 4096 (AV.zwq args) []=L at e;obtain⟨hc,e⟩:=zbh e;simp only[qz4,List.all_eq_true]at hc;have hn:=zC8 hc.1;have hin: ∀j∈L,ok j=true/\zKf s.m[j]? =true:=λj hj=>hc.2 j hj
 have hlt: ∀j∈L,j<ρ.length:=λj hj=>by
  have:=(hin j hj).2;cases hm:s.m[j]? with
  |none=>rw[hm]at this;cases this
  |some x=>rw[<-h.len];exact(qz0 hm).1
 have hpl: ∀{j i:Nat},L[j]? =some i->∃(p:Pl) (o:Option Obj) (x:Mem Y.T),ρ[i]? =some p/\os[i]? =some o/\s.m[i]? =some x/\(zek L ρ pl0)[j]? =some p/\(zek L os none)[j]? =some o/\(L.map λj=>(s.m.getD j .gone).sub (zqw Y.T L))[j]? =some (x.sub (zqw Y.T L)):=λ{j i} hj=>by
  have h1:=hlt i (List.mem_of_getElem? hj);have h2:i<os.length:=by rw[h.lon];exact h1
  have h3:i<s.m.length:=by rw[h.len];exact h1
  exact⟨ρ[i],os[i],s.m[i],qz9 h1,qz9 h2,qz9 h3,by rw[zzH,hj];simp[List.getD,h1],by rw[zzH,hj];simp[List.getD,h2],by rw[List.getElem?_map,hj];simp[List.getD,h3]⟩
 have lead1:zkH Y (zqw Y.T L) F ρ F (zek L ρ pl0):=by
  refine⟨.refl F,λi p hp=>?_,λi z n off p hp=>?_,λi off p hp=>?_⟩<;>simp only[zqw]<;>cases hpos:posOf L i with
  |none=>exact .junk
  |some j=>
   obtain⟨p',o',x',h1,_,_,h2,_⟩:=hpl (zt6 hpos);rw[hp]at h1;cases h1
   first
    |exact .own h2
    |exact .oel h2
    |exact .ptr h2
 have hst1:Gw.St w0 F0 D w F (pts ρ (outs L os)++pts (zek L ρ pl0) (zek L os none)):=h.st.zIC λx hx=>zF5 hn hlt h.lon hx
 obtain⟨pp,hp0⟩:=hst1.call;obtain⟨hstart,back⟩:=hp0 []
 have hcall:=hC _ _ r _ e w F (zek L ρ pl0) (zek L os none) vals ⟨pp,[]⟩ hG (lead1.zTf hY hargs) (by simp[zek]) (by simp[zek]) (λj x p o h1 h2 h3=>by
  rw[List.getElem?_map]at h1;cases hj:L[j]? with
  |none=>rw[hj]at h1;cases h1
  |some i=>
   obtain⟨p',o',x',q1,q2,q3,q4,q5,q6⟩:=hpl hj;rw[h2]at q4;rw[h3]at q5;cases q4;cases q5;rw[<-List.getElem?_map,q6]at h1;cases h1;exact lead1.mem (h.mem i x' p o q3 q1 q2)) hstart
 refine hcall.mono λen w' hr=>?_
 obtain⟨res,F',ρ',os',ms',hk,hres,hl1,hl2,hm',hst',hl3,hcells⟩:=hr;obtain⟨hle,hk⟩:=zbh hk;have hle:=yD hle;have hselL:(zek L ρ pl0).length=L.length:=by simp[zek]
 have hFF:=hst'.le;generalize hρf:insL L ρ' ρ++ρ'.drop L.length=ρf;generalize hosf:insL L os' os++os'.drop L.length=osf
 have insT: ∀{α:Type} (R:List Nat) (new xs:List α),insL R (new.take R.length) xs=insL R new xs:=by
  intro α R;induction R with
  |nil=>intro new xs;cases new<;>rfl
  |cons i R ih=>
   intro new xs;cases new with
   |nil=>rfl
   |cons x new=>simp only[qz3,List.take_succ_cons,insL];rw[ih]
 have hin2: ∀{j i:Nat},L[j]? =some i->ρf[i]? =ρ'[j]? /\osf[i]? =os'[j]? :=λ{j i} hj=>by
  have h1:=hlt i (List.mem_of_getElem? hj);have hjl:=(qz0 hj).1;have h2:j<ρ'.length:=by omega
  have h3:j<os'.length:=by omega
  constructor
  ·rw[<-hρf,yF (by rw[zbK];exact h1),zpn hn hj (qz9 h2) h1]
   exact(qz9 h2).symm
  ·rw[<-hosf,yF (by rw[zbK,h.lon];exact h1),zpn hn hj (qz9 h3) (by rw[h.lon];exact h1)]
   exact(qz9 h3).symm
 have hout2: ∀{i:Nat},i∉L->i<ρ.length->ρf[i]? =ρ[i]? /\osf[i]? =os[i]? :=λ{i} hi h1=>by
  constructor
  ·rw[<-hρf,yF (by rw[zbK];exact h1),zl5 hi]
  ·rw[<-hosf,yF (by rw[zbK,h.lon];exact h1),zl5 hi]
 have hex2: ∀q:Nat,ρf[ρ.length+q]? =ρ'[L.length+q]? /\osf[ρ.length+q]? =os'[L.length+q]? :=λq=>by
  constructor
  ·rw[<-hρf,yG (by rw[zbK];omega),zbK,Nat.add_sub_cancel_left,List.getElem?_drop]
  ·rw[<-hosf,yG (by rw[zbK,h.lon];omega),zbK,h.lon,Nat.add_sub_cancel_left,List.getElem?_drop]
 have hbk: ∀(j:Nat) (p:Pl),ρ'[j]? =some p->ρf[zF8 L s.m.length j]? =some p/\osf[zF8 L s.m.length j]? =os'[j]? :=λj p hp=>by
  unfold zF8;cases hj:L[j]? with
  |some i=>simp only;exact⟨by rw[(hin2 hj).1];exact hp,(hin2 hj).2⟩
  |none=>
   simp only
   have hge:L.length<=j:=by
    rcases Nat.lt_or_ge j L.length with g|g
    ·rw[qz9 g]at hj;cases hj
    ·exact g
   have:=hex2 (j -L.length);rw[show L.length+(j -L.length)=j by omega]at this;rw[h.len];exact⟨by rw[this.1];exact hp,this.2⟩
 have lead2:zkH Y (zAu Y.T L s.m.length) F' ρ' F' ρf:=⟨.refl F',λj p hp=> .own (hbk j p hp).1,λj z n off p hp=> .oel (hbk j p hp).1,λj off p hp=> .ptr (hbk j p hp).1⟩
 have hisC: ∀{i:Nat},i∈L->isCells s.m[i]? =true->∀p:Pl,ρ[i]? =some p->∃p':Pl,ρf[i]? =some p'/\p'.blk=p.blk/\∃(j:Nat) (ty:TypeId) (l:List (AV Y.T)),L[j]? =some i/\ms'[j]? =some (.cells ty l):=λ{i} hi hc p hp=>by
  obtain⟨j,hj⟩:=List.mem_iff_getElem?.1 hi;obtain⟨p',o',x',q1,q2,q3,q4,q5,q6⟩:=hpl hj;rw[hp]at q1;cases q1;rw[q3]at hc;cases x' with
  |cells ty l=>
   obtain⟨⟨ty2,l2,h1⟩,p2,h2,h3⟩:=hcells j ty _ p q6 q4;exact⟨p2,by rw[(hin2 hj).1];exact h2,h3,j,ty2,l2,hj,h1⟩
  |gone=>cases hc
  |arr e xs=>cases hc
  |mp kk e xs=>cases hc
  |it z pos=>cases hc
 have lead3:zkH Y (zIU Y.T L s.m) F ρ F' ρf:=by
  have hout: ∀{i:Nat} {p:Pl},zfk L i=true->ρ[i]? =some p->ρf[i]? =some p:=λ{i p} hf hp=>by
   rw[(hout2 (zAo (by simpa [zfk]using hf)) (qz0 hp).1).1];exact hp
  refine⟨hFF,λi p hp=>?_,λi z n off p hp=>?_,λi off p hp=>?_⟩<;>simp only[zIU]
  ·cases hf:zfk L i with
   |true=>exact .own (hout hf hp)
   |false=>exact .junk
  ·cases hf:zfk L i with
   |true=>exact .oel (hout hf hp)
   |false=>exact .junk
  ·cases hf:zfk L i with
   |true=>exact .ptr (hout hf hp)
   |false=>
    cases hcc:isCells s.m[i]? with
    |false=>exact .junk
    |true=>
     have hi:i∈L:=by
      cases hpos:posOf L i with
      |none=>simp[zfk,hpos]at hf
      |some j=>exact List.mem_of_getElem? (zt6 hpos)
     obtain⟨p',h1,h2,_⟩:=hisC hi hcc p hp;rw[<-h2];exact .ptr h1
 have hmem: ∀(i:Nat) (x:Mem Y.T) (p:Pl) (o:Option Obj),(insL L (ms'.map (Mem.sub (zAu Y.T L s.m.length))) (s.m.map (Mem.sub (zIU Y.T L s.m)))++(ms'.map (Mem.sub (zAu Y.T L s.m.length))).drop L.length)[i]? =some x->ρf[i]? =some p->osf[i]? =some o->zen hY F' ρf x p o:=by
  intro i x p o h1 h2 h3;by_cases hi:i<ρ.length
  ·rw[yF (by rw[zbK];simp[h.len];exact hi)]at h1
   by_cases hil:i∈L
   ·obtain⟨j,hj⟩:=List.mem_iff_getElem?.1 hil;have hjl:j<ms'.length:=by have:=(qz0 hj).1;omega
    rw[zpn hn hj (x:=(ms'[j]).sub (zAu Y.T L s.m.length)) (by simp[hjl]) (by simp[h.len];exact hi)]at h1
    cases h1;rw[(hin2 hj).1]at h2;rw[(hin2 hj).2]at h3;exact lead2.mem (hm' j _ p o (qz9 hjl) h2 h3)
   ·rw[zl5 hil,List.getElem?_map]at h1;rw[(hout2 hil hi).1]at h2;rw[(hout2 hil hi).2]at h3;cases hm:s.m[i]? with
    |none=>rw[hm]at h1;cases h1
    |some y=>rw[hm]at h1;cases h1;exact lead3.mem (h.mem i y p o hm h2 h3)
  ·obtain⟨q,rfl⟩: ∃q,i=ρ.length+q:=⟨i -ρ.length,by omega⟩
   rw[yG (by rw[zbK];simp[h.len])]at h1
   rw[zbK]at h1;simp only[List.length_map,h.len,Nat.add_sub_cancel_left,List.getElem?_drop,List.getElem?_map]at h1;rw[(hex2 q).1]at h2;rw[(hex2 q).2]at h3;cases hm:ms'[L.length+q]? with
   |none=>rw[hm]at h1;cases h1
   |some y=>rw[hm]at h1;cases h1;have h4:=lead2.mem (hm' _ y p o hm h2 h3);rw[h.len]at h4;exact h4
 have hst2:Gw.St w0 F0 D w' F' (pts ρf osf):=by
  have h1:=back hst'
  have e1:pts ρ' os'=pts (ρ'.take L.length) (os'.take L.length)++pts (ρ'.drop L.length) (os'.drop L.length):=by
   rw[<-zt8 (by simp[hl2]),List.take_append_drop,List.take_append_drop]
  rw[e1,<-yE]at h1
  have h2:=h1.zIC (L':=pts (insL L ρ' ρ) (insL L os' os)++pts (ρ'.drop L.length) (os'.drop L.length)) λx hx=>by
   refine zJm hx λy hy=>?_
   have h3:=all_in (ρ2:=ρ'.take L.length) (os2:=os'.take L.length) hn hlt h.lon (by simp;omega) (by simp;omega) hy
   rw[insT,insT]at h3;exact h3
  rw[<-hρf,<-hosf,zt8 (by rw[zbK,zbK,h.lon])];exact h2
 have hlenf:ρf.length=ρ.length+(ρ'.length -L.length):=by rw[<-hρf,qz5,zbK,List.length_drop]
 refine hK _ _ w' F' ρf osf en hk ⟨lead3.ey hY h.e,?_,?_,hmem,hst2,λi b hb=>?_,by have:=h.long;omega⟩ ⟨hFF,by omega,λi p o hok h1 h2=>?_,λi ty l p h1 h2=>?_⟩ (by cases hres with
  |ret h=>exact .ret (lead2.rel hY h)
  |pan h=>exact .pan (lead2.rel hY h))
 ·simp only[qz5,zbK,List.length_map,List.length_drop,h.len,hlenf,hl1]
 ·rw[<-hosf,hlenf,qz5,zbK,List.length_drop,h.lon,hl2]
 ·obtain⟨⟨p,hp,hpb⟩,hna⟩:=h.fix i b hb;have hil:=(qz0 hp).1;by_cases hi:i∈L
  ·have hthere:=(hin i hi).2
   have hcc:isCells s.m[i]? =true:=by
    cases hm:s.m[i]? with
    |none=>rw[hm]at hthere;cases hthere
    |some x=>
     cases x with
     |gone=>rw[hm]at hthere;cases hthere
     |cells ty l=>rfl
     |arr e xs=>cases hna _ hm
     |mp kk e xs=>cases hna _ hm
     |it z pos=>cases hna _ hm
   obtain⟨p',q1,q2,j,ty,l,q3,q4⟩:=hisC hi hcc p hp;refine⟨⟨p',q1,q2.trans hpb⟩,λy h1=>?_⟩;rw[yF (by rw[zbK];simp[h.len];exact hil),zpn hn q3 (x:=(Mem.cells ty l).sub (zAu Y.T L s.m.length)) (by rw[List.getElem?_map,q4];rfl) (by simp[h.len];exact hil)]at h1
   cases h1;rfl
  ·refine⟨⟨p,by rw[(hout2 hi hil).1];exact hp,hpb⟩,λy h1=>?_⟩
   rw[yF (by rw[zbK];simp[h.len];exact hil),zl5 hi,List.getElem?_map]at h1
   cases hm:s.m[i]? with
   |none=>rw[hm]at h1;cases h1
   |some x=>
    rw[hm]at h1;cases h1;rw[Mem.zCI];exact hna x hm
 ·have hi:i∉L:=λhi=>by rw[(hin i hi).1]at hok;cases hok
  have hil:=(qz0 h1).1;exact⟨by rw[(hout2 hi hil).1];exact h1,.inl (by rw[(hout2 hi hil).2];exact h2)⟩
 ·have hil:=(qz0 h2).1;by_cases hi:i∈L
  ·obtain⟨p',q1,q2,j,ty',l',q3,q4⟩:=hisC hi (by rw[h1];rfl) p h2
   exact⟨⟨ty',_,by rw[yF (by rw[zbK];simp[h.len];exact hil),zpn hn q3 (x:=(Mem.cells ty' l').sub (zAu Y.T L s.m.length)) (by rw[List.getElem?_map,q4];rfl) (by simp[h.len];exact hil)];rfl⟩,p',q1,q2⟩
  ·exact⟨⟨ty,_,by rw[yF (by rw[zbK];simp[h.len];exact hil),zl5 hi,List.getElem?_map,h1];rfl⟩,p,by rw[(hout2 hi hil).1];exact h2,rfl⟩
end
end Go.Dn
namespace Go.Dn
open Go.Gw Go.RowKit
variable [Dfr]
section
variable {T:Nat->Type}
def zUm:AV T->Bool
 | .v (.slice none 0 0)=>true
 |_=>false
def Sy.zGn(s:Sy T)(t e:Nat):Sy T:=match lookA s.l t with
 |some (.v (.slice none 0 0))=>⟨(t,.own s.m.length)::s.l,s.m++[Mem.arr e []]⟩
 |_=>s
def Sy.zFS(s:Sy T)(j i e:Nat):Sy T:=match s.m[j]? with
 |some (.cells ty cs)=>(match cs[i]? with
   |some (.v (.slice none 0 0))=>⟨s.l,(s.m++[Mem.arr e []]).set j (.cells ty (cs.set i (.own s.m.length)))⟩
   |_=>s)
 |_=>s
inductive Ev where
 |pr (k j:Nat)
 |nS (t k:Nat)
 |nC (j i k:Nat)
mutual
def evP(on:Nat->List Ev):Pat->AV T->List Ev
 | .own k,a=>match a with
   | .own j=>[.pr k j]
   | .v (.slice none 0 0)=>on k
   |_=>[]
 | .ptr k _,a=>match a with
   | .ptr j _=>[.pr k j]
   |_=>[]
 | .agg ps,a=>match a with
   | .agg az=>evL ps az
   |_=>[]
 | .tup ps,a=>match a with
   | .tup az=>evL ps az
   |_=>[]
 | .fn _ ps,a=>match a with
   | .fn _ az=>evL ps az
   |_=>[]
 | .el ps,a=>match a with
   | .el az=>evL ps az
   |_=>[]
 |_,_=>[]
def evL:List Pat->List (AV T)->List Ev
 |p::ps,a::az=>evP (λ_=>[]) p a++evL ps az
 |_,_=>[]
end
def evC(j:Nat):Nat->List Pat->List (AV T)->List Ev
 |i,p::ps,a::az=>evP (λk=>[.nC j i k]) p a++evC j (i+1) ps az
 |_,_,_=>[]
def evS:List (Nat×Pat)->List (AV T)->List Ev
 | (t,p)::ps,a::az=>evP (λk=>[.nS t k]) p a++evS ps az
 |_,_=>[]
def evK:List (Nat×Pat)->List (AV T)->List Ev
 | (_,p)::ps,a::az=>evP (λ_=>[]) p a++evK ps az
 |_,_=>[]
def zK1:List (Nat×Nat)->Nat->Option Nat
 | [],_=>none
 | (k,j)::r,x=>bif Nat.beq k x then some j else zK1 r x
def tie(σ:List zcK)(m:List (Mem T)):Nat->List Ev->List (Nat×Nat)->List Ev->List (Nat×Nat)×List Ev
 |0,_,acc,ne=>(acc,ne)
 |_+1,[],acc,ne=>(acc,ne)
 |n+1,.pr k j::todo,acc,ne=>match zK1 acc k with
   |some _=>tie σ m n todo acc ne
   |none=>tie σ m n ((match σ[k]?,m[j]? with
     |some (.cells _ ps),some (.cells _ az)=>evC j 0 ps az
     |_,_=>[])++todo) ((k,j)::acc) ne
 |n+1,e::todo,acc,ne=>tie σ m n todo acc (e::ne)
def pre:Nat->List Ev->List Ev
 |0,r=>r
 |n+1,r=>pre n (.pr n n::r)
def lay(σ:List zcK):List Ev->Sy T->List (Nat×Nat)->Sy T×List (Nat×Nat)
 | [],s,acc=>(s,acc)
 | .pr _ _::r,s,acc=>lay σ r s acc
 | .nS t k::r,s,acc=>match σ[k]? with
   |some (.arr e)=>lay σ r (s.zGn t e) ((k,s.m.length)::acc)
   |_=>lay σ r s acc
 | .nC j i k::r,s,acc=>match σ[k]? with
   |some (.arr e)=>lay σ r (s.zFS j i e) ((k,s.m.length)::acc)
   |_=>lay σ r s acc
end
section
variable {Y:Tys} {hY:zb8 Y} {P:Program} {N:Nat} {w0:World} {F0:Heap} {D:Own} {H:List (Option Nat)} {w w':World} {F F':Heap} {ρ ρ':List Pl} {os os':List (Option Obj)} {s s':Sy Y.T} {a a':Act} {ok:Nat->Bool}
theorem Cy.zRI(h:Cy hY N w0 F0 D H w F ρ os s a){j:Nat}{x x':Mem Y.T}(hj:s.m[j]? =some x)(hr: ∀p o,ρ[j]? =some p->zen hY F ρ x p o->zen hY F ρ x' p o)(hx:x.still=true->x'.still=true):
   Cy hY N w0 F0 D H w F ρ os ⟨s.l,s.m.set j x'⟩ a:=by
 refine⟨h.e,by simp[h.len],h.lon,λk y p o h1 h2 h3=>?_,h.st,λk b hb=>⟨(h.fix k b hb).1,λy h1=>?_⟩,h.long⟩
 · have h4:(s.m.set j x')[k]? =some y:=h1;clear h1;rw[yR]at h4;split at h4
   · rename_i e;subst e;rw[yL (qz0 hj).1]at h4;cases h4;exact hr p o h2 (h.mem j x p o hj h2 h3)
   · exact h.mem k y p o h4 h2 h3
 · have h4:(s.m.set j x')[k]? =some y:=h1;clear h1;rw[yR]at h4;split at h4
   · rename_i e2;subst e2;rw[yL (qz0 hj).1]at h4;cases h4;exact hx ((h.fix j b hb).2 _ hj)
   · exact(h.fix k b hb).2 y h4
theorem zPM(h:Cy hY N w0 F0 D H w F ρ os s a){u:Value}(hr:Rel Y F ρ (.v (.slice none 0 0)) u):Rel Y F (ρ++[⟨0,none,0,0,false⟩]) (.own s.m.length) u:=by
 rw[hr.zcl];exact .own (pl:=⟨0,none,0,0,false⟩) (by rw[h.len];simp)
theorem Cy.zGn(h:Cy hY N w0 F0 D H w F ρ os s a)(t e:Nat): ∃ρ' os',Cy hY N w0 F0 D H w F ρ' os' (s.zGn t e) a/\Tr ok F ρ os s.m F ρ' os' (s.zGn t e).m:=by
 unfold Sy.zGn;split
 · rename_i ht;have h1:=h.zIK e;refine⟨_,_,⟨⟨h1.e.size,h1.e.nodef,λt' x hx=>?_⟩,h1.len,h1.lon,h1.mem,h1.st,h1.fix,h1.long⟩,Tr.grow ok (.refl F)⟩;simp only[lookA]at hx;cases hb:Nat.beq t t' with
   |true=>
     rw[hb]at hx;cases hx;rw[<-yC hb];exact⟨(h.e.env t _ ht).1,zPM h (h.e.env t _ ht).2⟩
   |false=>rw[hb]at hx;exact h1.e.env t' x hx
 · exact⟨ρ,os,h,Tr.refl ok F ρ os s.m⟩
theorem Cy.zFS(h:Cy hY N w0 F0 D H w F ρ os s a)(j i e:Nat): ∃ρ' os',Cy hY N w0 F0 D H w F ρ' os' (s.zFS j i e) a/\Tr ok F ρ os s.m F ρ' os' (s.zFS j i e).m:=by
 unfold Sy.zFS;split
 · rename_i ty cs hj;split
   · rename_i hi;have h1:=h.zIK e;have hl:=(qz0 hj).1;have hj1:(s.m++[Mem.arr e []])[j]? =some (.cells ty cs):=by rw[yF hl];exact hj
     refine⟨_,_,h1.zRI (x':= .cells ty (cs.set i (.own s.m.length))) hj1 (λp o hp hm=>?_) (λ_=>rfl),?_⟩
     rotate_left
     ·have t1:Tr ok F ρ os s.m F (ρ++[⟨0,none,0,0,false⟩]) (os++[none]) (s.m++[Mem.arr e []]):=Tr.grow ok (.refl F);refine⟨t1.le,t1.long,t1.stands,λk ty2 l2 p h2 h3=>?_⟩;obtain⟨⟨ty3,l3,h4⟩,h5⟩:=t1.cells k ty2 l2 p h2 h3;refine⟨?_,h5⟩;show∃ty' l',((s.m++[Mem.arr e []]).set j (.cells ty (cs.set i (.own s.m.length))))[k]? =some (.cells ty' l');rw[yR];split
      ·rw[yL (by simp;omega)]
       exact⟨_,_,rfl⟩
      ·exact⟨_,_,h4⟩
     obtain⟨vs,hr,ho⟩:=hm;refine⟨vs,⟨by simp[hr.1],λq x u h2 h3=>?_⟩,ho⟩;rw[yR]at h2;split at h2
     ·rename_i hq;subst hq;rw[yL (qz0 hi).1]at h2;cases h2;have:=hr.2 i _ u hi h3;rw[this.zcl];exact .own (pl:=⟨0,none,0,0,false⟩) (by rw[h.len];simp)
     ·exact hr.2 q x u h2 h3
   · exact⟨ρ,os,h,Tr.refl ok F ρ os s.m⟩
 · exact⟨ρ,os,h,Tr.refl ok F ρ os s.m⟩
theorem Cy.lay(h:Cy hY N w0 F0 D H w F ρ os s a)(σ:List zcK): ∀(es:List Ev) (acc:List (Nat×Nat)),∃ρ' os',Cy hY N w0 F0 D H w F ρ' os' (lay σ es s acc).1 a/\Tr ok F ρ os s.m F ρ' os' (lay σ es s acc).1.m:=by
 intro es;induction es generalizing s ρ os with
 |nil=>intro acc;exact⟨ρ,os,h,Tr.refl ok F ρ os s.m⟩
 |cons e es ih=>
   intro acc;cases e with
   |pr k j=>exact ih h acc
   |nS t k=>
     simp only[Dn.lay];split
     ·rename_i e he;obtain⟨ρ1,os1,h1,t1⟩:=h.zGn (ok:=ok) t e;obtain⟨ρ2,os2,h2,t2⟩:=ih h1 ((k,s.m.length)::acc);exact⟨ρ2,os2,h2,t1.trans t2 h1.lon⟩
     ·exact ih h acc
   |nC j i k=>
     simp only[Dn.lay];split
     ·rename_i e he;obtain⟨ρ1,os1,h1,t1⟩:=h.zFS (ok:=ok) j i e;obtain⟨ρ2,os2,h2,t2⟩:=ih h1 ((k,s.m.length)::acc);exact⟨ρ2,os2,h2,t1.trans t2 h1.lon⟩
     ·exact ih h acc
end
end Go.Dn
namespace Go.Dn
open Go.Gw Go.RowKit
variable [Dfr]
section
variable {K V:Type}
def zty.pos(eq:K->K->Bool)(k:K):List (K×V×Nat)->Option Nat
 | []=>none
 |x::r=>bif eq k x.1 then some 0 else(match zty.pos eq k r with|some j=>some (j+1)|none=>none)
def zty.get(eq:K->K->Bool)(d:zty K V)(k:K):Option (V×Nat):=match zty.pos eq k d.es with
 |some j=>(match d.es[j]? with|some x=>some x.2|none=>none)
 |none=>none
def zty.put(eq:K->K->Bool)(d:zty K V)(k:K)(v:V):zty K V:=match zty.pos eq k d.es with
 |some j=>⟨d.es.modify j λx=>(x.1,v,x.2.2),d.clock⟩
 |none=>⟨d.es++[(k,v,d.clock)],d.clock+1⟩
end
def ktD:Option IntKind->TypeDesc
 |none=> .string
 |some q=> .int q
section
variable {Y:Tys} {hY:zb8 Y} {P:Program} {N:Nat} {w0:World} {F0:Heap} {D:Own} {H:List (Option Nat)} {w w':World} {F F':Heap} {ρ ρ':List Pl} {os os':List (Option Obj)} {s s':Sy Y.T} {a a':Act} {o:Oper} {R:Type} {ok:Nat->Bool} {r:R} {K:Act->World->Prop} {Q:Exit->Act->World->Prop} {kk:Sy Y.T->Option R}
theorem zKU.val{q:Option IntKind}{l:List (AV Y.T)}{v:Value}(h:zKU q l)(r:zad Y F ρ l [v]):MapKept.IsKey (ktD q) v/\l=[.v v]:=by
 cases q with
 |none=>
  obtain⟨s,rfl⟩:=h;obtain⟨u,us,e,r1,r2⟩:=r.inv;cases e;rw[r1.zcl];exact⟨trivial,rfl⟩
 |some q=>
  obtain⟨n,rfl⟩:=h;obtain⟨u,us,e,r1,r2⟩:=r.inv;cases e;rw[r1.zcl];exact⟨rfl,rfl⟩
theorem zev.length{k e:Nat}: ∀{xs:List (Y.T k×Y.T e×Nat)} {es:List MapEntry},zev Y F k e xs es->es.length=xs.length
 |_,_,.nil=>rfl
 |_,_,.cons _ r=>by simp only[qz3];rw[zev.length r]
theorem zev.get{k e:Nat}: ∀{xs:List (Y.T k×Y.T e×Nat)} {es:List MapEntry} {j:Nat} {x:Y.T k×Y.T e×Nat},zev Y F k e xs es->xs[j]? =some x->∃en,es[j]? =some en/\zsV Y F k e x en
 |_,_,j,x,.nil,h=>by simp at h
 |_,_,0,x,.cons h1 r,h=>by simp at h;subst h;exact⟨_,rfl,h1⟩
 |_,_,j+1,x,.cons h1 r,h=>by simpa using zev.get r (by simpa using h)
theorem zev.modify{k e:Nat}{f:Y.T k×Y.T e×Nat->Y.T k×Y.T e×Nat}{g:MapEntry->MapEntry}: ∀{xs:List (Y.T k×Y.T e×Nat)} {es:List MapEntry} {j:Nat},zev Y F k e xs es->
  (∀x en,xs[j]? =some x->es[j]? =some en->zsV Y F k e x en->zsV Y F k e (f x) (g en))->zev Y F k e (xs.modify j f) (es.modify j g)
 |_,_,j,.nil,_=>by cases j<;>exact .nil
 |_,_,0,.cons h r,hf=> .cons (hf _ _ rfl rfl h) r
 |_,_,j+1,.cons h r,hf=> .cons h (zev.modify r λx en h1 h2=>hf x en (by simpa using h1) (by simpa using h2))
theorem zev.append{k e:Nat}{y:Y.T k×Y.T e×Nat}{en:MapEntry}(h:zsV Y F k e y en): ∀{xs:List (Y.T k×Y.T e×Nat)} {es:List MapEntry},zev Y F k e xs es->zev Y F k e (xs++[y]) (es++[en])
 |_,_,.nil=> .cons h .nil
 |_,_,.cons h1 r=> .cons h1 (zev.append h r)
def zSw(b:Bool)(z:Value):Bool:=match z with
 | .agg _=>b
 | .tuple _=>false
 |_=> !b
def zPr(Y:Tys)(P:Program)(e:Nat):Option (Y.T e):=match P.info? e with
 |some i=>(match i.zero with
  |some z=>bif zSw (Y.row e) z then Y.close e (z.cells.toList.map .v)else none
  |none=>none)
 |none=>none
def zJd(Y:Tys)(P:Program)(l:zbY Y.T)(m:List (Mem Y.T)):Op->Option (AV Y.T)
 |_=>none
theorem zMn{l:zbY Y.T}{m:List (Mem Y.T)}{av:AV Y.T}(h:Ey Y N F ρ l a)(hM:My hY F ρ os m w)(e:zJd Y P l m o.op=some av):Yld hY P F ρ os m a o av:=by
 unfold zJd at e;cases e
def zEG(n:Int):Option Nat:=if 0<=n/\n<=274877906944 then some n.toNat else none
def zIp:Operand->Operand->Bool
 | .tmp t,.tmp u=>Nat.beq t u
 | .const (.int _ m),.const (.int _ n)=>decide (m=n)
 |_,_=>false
theorem zMs{x y:Operand}(h:zIp x y=true)(a:Act): ∀{p q:IntKind} {m n:Int},a.eval x= .int p m->a.eval y= .int q n->m=n:=by
 unfold zIp at h;split at h
 ·rw[yC h];intro p q m n h1 h2;rw[h1]at h2;cases h2;rfl
 ·intro p q m n h1 h2;cases h1;cases h2;exact of_decide_eq_true h
 ·cases h
def zIo{α:Type}(s:List α)(lo hi mx:Int):Option (List α):=if 0<=lo/\lo<=hi/\hi<=mx/\mx<=s.length then some ((s.drop lo.toNat).take (hi.toNat -lo.toNat))else none
def zLa{R:Type}(Y:Tys)(P:Program)(l:zbY Y.T)(op:Op)(k:AV Y.T->Option R):Option (Option R):=match op with
 | .slice t x lo hi (some mx)=>match zAg l lo,zAg l hi,zAg l (some mx),evA l x with
  |some ol,some (some nh),some (some nm),some (.sl e xs)=>bif zqj P t e&&znu P e (Y.sz e)then some (Option.bind (zIo xs (ol.getD 0) nh nm) λr=>k (.sl e r))else none
  |_,_,_,_=>none
 |_=>none
theorem zOs{k:AV Y.T->Option R}{l:zbY Y.T}{m:List (Mem Y.T)}(h:Ey Y N F ρ l a)(hM:My hY F ρ os m w)(e:zLa Y P l o.op k=some (some r)): ∃x,Yld hY P F ρ os m a o x/\k x=some r:=by
 unfold zLa at e;split at e
 ·rename_i t x lo hi mx hop;split at e
  ·rename_i ol nh nm ee xs hl hh hm hx;obtain⟨ht,e⟩:=zbh e;obtain⟨v,hv,hk⟩:=zoq e;simp only[qz4]at ht;have hT:=zdA (zns ht.1);have hS:=zjY ht.2;have hr:=h.eval hx;generalize e1:a.eval x=ux at hr;cases hr with
   | @sl _ _ A c b off vs hc hA hvs hh2=>
    unfold zIo at hv;split at hv
    ·rename_i hcc;cases hv
     have hlen:((xs.drop (ol.getD 0).toNat).take (nh.toNat - (ol.getD 0).toNat)).length=nh.toNat - (ol.getD 0).toNat:=by
      simp;omega
     have hb:(Instr.sliceBounds true xs.length c (lo.map a.eval) (hi.map a.eval) (some (a.eval mx))).run P w= .ok ((ol.getD 0).toNat,nh.toNat,nm.toNat) w/\∀w,(Instr.sliceBounds true xs.length c (lo.map a.eval) (hi.map a.eval) (some (a.eval mx))).run P w= .ok ((ol.getD 0).toNat,nh.toNat,nm.toNat) w:=by
      have gen: ∀w,(Instr.sliceBounds true xs.length c (lo.map a.eval) (hi.map a.eval) (some (a.eval mx))).run P w= .ok ((ol.getD 0).toNat,nh.toNat,nm.toNat) w:=by
       intro w;obtain⟨c1,c2,c3,c4⟩:=hcc;rcases zsy h hm with⟨_,q⟩| ⟨ym,km,nm',e3,e4,e5⟩
       ·cases q
       ·cases e3;cases e4;rcases zsy h hh with⟨_,q⟩| ⟨yh,kh,nh',rfl,e7,e8⟩
        ·cases q
        ·cases e7;have b1:nm<=(c:Int):=by omega
         have b2:nh<=((nm.toNat:Nat):Int):=by omega
         rcases zsy h hl with⟨rfl,rfl⟩| ⟨yl,kl,nl',rfl,rfl,e9⟩
         ·simp only[Option.getD_none]at c1 c2;simp[Instr.sliceBounds,e5,e8,zdo (show 0<=nm by omega) b1,zdo (show 0<=nh by omega) b2]
         ·simp only[Option.getD_some]at c1 c2;have b3:nl'<=((nh.toNat:Nat):Int):=by omega
          simp[Instr.sliceBounds,e5,e8,e9,zdo (show 0<=nm by omega) b1,zdo (show 0<=nh by omega) b2,zdo c1 b3]
      exact⟨gen w,gen⟩
     have hb:=hb.2;generalize hi0:(ol.getD 0).toNat=i at hlen hk hb;generalize hm0:nh.toNat -i=mm at hlen hk
     have hget: ∀j x,((xs.drop i).take mm)[j]? =some x->xs[i+j]? =some x:=λj x hx=>by
      rw[List.getElem?_take]at hx;split at hx
      ·rwa [List.getElem?_drop]at hx
      ·cases hx
     refine⟨_,⟨.slice (if nm.toNat=i then A else A.map (·.add (i*Y.sz ee))) ((xs.drop i).take mm).length (nm.toNat -i),?_,λw _ _=>?_⟩,hk⟩
     ·refine .sl b (off+i*Y.sz ee) (λj=>vs (i+j)) (by rw[hlen];omega) (λj x hx=>?_) (λj x hx=>?_) (λj x q a u hx h1 h2=>hh2 _ _ q a u (hget j x hx) h1 h2)
      ·have h1:=hget j x hx;have hlt:=(qz0 h1).1;have hj:=(qz0 hx).1;have hne:nm.toNat≠i:=by omega
       rw[yK hne,hA _ _ h1];simp[zgN]
      ·have h1:=hvs _ _ (hget j x hx);refine⟨h1.1,?_⟩;have:=h1.2;rwa [Nat.add_mul,<-Nat.add_assoc]at this
     ·unfold execOp;rw[hop];simp only[Instr.sliceAt,Sem.run_bind,run_underlying hT,Result.andThen_ok,e1,Instr.slice,Option.map_some,hb w,zco hS,Sem.run_pure,hlen,pure_bind];rw[hm0]
    ·cases hv
  ·cases e
 ·cases e
def mapA(Y:Tys)(P:Program)(N:Nat)(ok:Nat->Bool)(s:Sy Y.T)(o:Oper)(kk:Sy Y.T->Option R):Option R:=match o.op with
 | .makeSlice t x y=>match evA s.l x,evA s.l y with
  |some (.v (.int _ n)),some (.v (.int _ _))=>match zmQ P t with
   |some e=>match zPr Y P e,P.info? e with
    |some zx,some i=>bif zIp x y&&znu P e (Y.sz e)&&Nat.ble i.bytes 256 then Option.bind (zEG n) λc=>fin N o ⟨s.l,s.m++[.arr e (List.replicate c zx)]⟩ (.own s.m.length) kk else none
    |_,_=>none
   |none=>none
  |_,_=>none
 |_=>none
theorem zpb(h:Cy hY N w0 F0 D H w F ρ os s a)(e:mapA Y P N ok s o kk=some r)(hg:Goes hY N w0 F0 D H ok F ρ os s.m kk r K):o.wp P a w K Q:=by
 unfold mapA at e;split at e
 ·rename_i t x y hop;split at e
  ·rename_i kl n kc n2 hx hy;split at e
   ·rename_i el hel;split at e
    ·rename_i zx i hzx hi;obtain⟨hc,e⟩:=zbh e;simp only[qz4]at hc;obtain⟨⟨hso,hsz⟩,hbt⟩:=hc;have hsz:=zjY hsz;have hbt:=yD hbt;obtain⟨c,hcn,e⟩:=zaS e;have e1:=(h.e.eval hx).zcl;have e2:=(h.e.eval hy).zcl;have hn:n=n2:=zMs hso a e1 e2;subst hn;unfold zEG at hcn;split at hcn
     ·rename_i hr;cases hcn
      have hisz:i.size=Y.sz el:=by
       unfold zcm at hsz;rw[hi]at hsz;exact yS hsz
      obtain⟨z,hz,hzcl⟩: ∃z,i.zero=some z/\zad Y F [] (Y.cells el zx) z.cells.toList:=by
       unfold zPr at hzx;rw[hi]at hzx;simp only at hzx;split at hzx
       ·rename_i z hz;obtain⟨_,hzx⟩:=zbh hzx;exact⟨z,hz,hY.fit el _ _ hzx F [] _ (zad.v z.cells.toList)⟩
       ·cases hzx
      have hzl:z.cells.size=Y.sz el:=by rw[<-Array.length_toList,hzcl.1,hY.len]
      have hmk:=run_make (P:=P) w t el i z (zdA hel) hi hz kl kc n n hr.1 (Int.le_refl _) (by
       have h1:(i.bytes:Int)*n<=256*274877906944:=Int.mul_le_mul (by omega) hr.2 hr.1 (by omega);omega) (by omega)
      have hrow:rowIs F (kR hY el) (madeCells z.cells (n.toNat*i.size)).toList (List.replicate n.toNat zx):=by
       intro j y hj
       have hjn:j<n.toNat:=by
        have:=(qz0 hj).1;simpa using this
       have hy:y=zx:=by
        have:=(qz0 hj).2;simpa using this.symm
       subst hy;refine⟨z.cells.toList,hzcl,λq v hq=>?_⟩;have hql:q<Y.sz el:=by have:=(qz0 hq).1;simpa [hzl]using this
       have hin:j*Y.sz el+q<n.toNat*i.size:=by
        have:(j+1)*Y.sz el<=n.toNat*Y.sz el:=Nat.mul_le_mul_right _ hjn;rw[Nat.succ_mul]at this;rw[hisz];omega
       show(madeCells z.cells (n.toNat*i.size)).toList[j*Y.sz el+q]? =some v;rw[Array.getElem?_toList];simp only[madeCells,Array.getElem?_map];rw[Array.getElem?_eq_getElem (by simpa using hin)];simp only[Array.getElem_range,Option.map_some]
       have hmod:(j*Y.sz el+q)%z.cells.size=q:=by
        rw[hzl,Nat.mul_comm,Nat.mul_add_mod,Nat.mod_eq_of_lt hql]
       rw[hmod];have hqv:z.cells[q]? =some v:=by rw[<-Array.getElem?_toList];exact hq
       simp only[getElem!_def,hqv]
      have h1:=h.alloc (x:= .arr el (List.replicate n.toNat zx)) (p:=⟨w.heap.size,some ⟨w.heap.size,0,none⟩,n.toNat,n.toNat,false⟩) (ob:= .cells (madeCells z.cells (n.toNat*i.size)) el (0,0)) rfl
       ⟨rfl,by simp,.inr ⟨_,rfl,rfl,by simp,by show n.toNat<=maxLen;rw[maxLen_eq];have:=hr.2;omega,by rw[size_madeCells,hisz],hrow⟩⟩
      refine zyg (s:=s) h1 (Tr.grow ok (.refl F)) ?_ (.own (pl:=⟨w.heap.size,some ⟨w.heap.size,0,none⟩,n.toNat,n.toNat,false⟩) (by rw[h.len];simp)) e hg
      unfold execOp;rw[hop];simp only[e1,e2,Sem.run_bind,hmk,Result.andThen_ok,Sem.run_pure,Pl.val,cond_false]
     ·cases hcn
    ·cases e
   ·cases e
  ·cases e
 ·cases e
end
end Go.Dn
namespace Go.Gw
open Go.RowKit
section
variable {T Y:Type} {fr:T->Y->List SV} {sub:T->List T} {sz:Nat} {F F':Heap}
end
section
variable {P:Program} {N:Nat} {w0:World} {F0:Heap} {D:Own} {w:World} {F:Heap} {L M:List SP} {B B':List (Option Box)} {ρ:Nat->Nat} {l:Env} {a:Act} {o:Oper} {ops:Array Oper} {lit:List Nat} {rest:List Oper} {Q:Exit->Act->World->Prop}
theorem zHk{f:FuncId}{x:Operand}{caps:Array Value}{xs:Array Operand}{ts:Array TypeId}(hop:o.op= .call {callee:= .value x,args:=xs,argTypes:=ts})(hx:a.eval x= .func (.func f) #[] caps)(hc:zfp P f):
  (execOp a.eval o).run P w= .ok (.enter f (xs.map a.eval++caps)) w:=by
 unfold execOp;rw[hop];simp only[resolve,hx,Sem.run_bind,Deferred.ofValue,Sem.run_pure,Result.andThen_ok,invoke,Array.empty_append];exact hc.run _ w
/-! ### in a draw, behind a call: what needs nothing of the world -/
end
end Go.Gw
namespace Go.Dn
open Go.Gw Go.RowKit
variable [Dfr]
abbrev Tab(Y:Tys):=List (Nat×Callee Y)
def zHH{Y:Tys}:Tab Y->Nat->Option (Callee Y)
 | [],_=>none
 | (k,C)::r,f=>bif Nat.beq k f then some C else zHH r f
def zDf{T:Nat->Type}(keep:List Nat):Nat->List (AV T)->List Nat
 |_,[]=>[]
 |i,a::r=>(bif zfk keep i then a.owns else[])++zDf keep (i+1) r
section
variable {Y:Tys} {hY:zb8 Y} {P:Program} {N:Nat} {w0:World} {F0:Heap} {D:Own} {H:List (Option Nat)} {w w':World} {F F':Heap} {ρ ρ':List Pl} {os os':List (Option Obj)} {s s':Sy Y.T} {a a':Act} {o:Oper} {R:Type} {ok:Nat->Bool} {r:R} {K:Act->World->Prop} {Q:Exit->Act->World->Prop} {k:Sy Y.T->Option R} {kp:Sy Y.T->AV Y.T->Option R} {T:Tab Y} {G:Heap->Prop}
def COk(hY:zb8 Y)(P:Program)(G:Heap->Prop)(f:FuncId)(C:Callee Y):Prop:=
 zfp P f/\∀{R:Type} (args:List (AV Y.T)) (ms:List (Mem Y.T)) (r:R) (k:Out Y.T->List (Mem Y.T)->Option R),C.run args ms k=some r->zLO hY P G f args ms λres ms'=>k res ms'=some r
def zcu(hY:zb8 Y)(P:Program)(G:Heap->Prop)(T:Tab Y):Prop:=∀f C,zHH T f=some C->COk hY P G f C
theorem zcu.nil:zcu hY P G []:=λ_ _ h=>by cases h
theorem zcu.cons{f:FuncId}{C:Callee Y}(h:COk hY P G f C)(r:zcu hY P G T):zcu hY P G ((f,C)::T):=λg C' e=>by
 simp only[zHH]at e;cases hb:Nat.beq f g with
 |true=>rw[hb]at e;cases e;rw[<-yC hb];exact h
 |false=>rw[hb]at e;exact r g C' e
def zSJ(k kp:Sy Y.T->AV Y.T->Option R)(s:Sy Y.T):Out Y.T->Option R
 | .ret y=>k s y
 | .pan y=>kp s y
def zEb(hY:zb8 Y)(N:Nat)(w0:World)(F0:Heap)(D:Own)(H:List (Option Nat))(kp:Sy Y.T->AV Y.T->Option R)(r:R)(Q:Exit->Act->World->Prop):Prop:=
 ∀w' F' ρ' os' s' a' x u,Cy hY N w0 F0 D H w' F' ρ' os' s' a'->Rel Y F' ρ' x u->kp s' x=some r->Q (.panic [{v:=u,recovered:=false}]) a' w'
def zSD(s:Sy Y.T)(c:Call)(C:Callee Y)(az:List (AV Y.T))(k:Sy Y.T->AV Y.T->Option R):Option R:=
 match zAv (s.zm6 (AV.zE7 az)).l c.args.toList with
 |some as1=>bif AV.frees as1 then C.run as1 [] λout _=>(match out with| .ret y=>(match y.plain with|some v=>k s (.v v)|none=>none)| .pan _=>none)else none
 |none=>none
theorem St.later{w0 w w':World}{F0 F:Heap}{D:Own}{L:List SP}(h:Gw.St w0 F0 D w F L)(b:Below w.heap.size w w'):Gw.St w0 F0 D w' F L:=by
 have sub: ∀{g:Heap},g.Sub w->g.Sub w':=λ{g} hs=>⟨λx o e=>by rw[b.block x (hs.lt e)];exact hs.out x o e⟩
 obtain⟨x,a,s1,f,d⟩:=h.own;exact⟨b.os.trans h.os,b.tape.trans h.tape,b.output.trans h.output,Nat.le_trans h.size b.size,λq hq hD=>by rw[b.block q (Nat.lt_of_lt_of_le hq h.size)];exact h.frame q hq hD,h.le,h.new,sub h.view,x,a,sub s1,f,d⟩
theorem Cy.later(h:Cy hY N w0 F0 D H w F ρ os s a)(b:Below w.heap.size w w'):Cy hY N w0 F0 D H w' F ρ os s a:=
 ⟨h.e,h.len,h.lon,h.mem,St.later h.st b,h.fix,h.long⟩
def zKX(T:Tab Y)(ok:Nat->Bool)(s:Sy Y.T)(c:Call)(x:Operand)(k kp:Sy Y.T->AV Y.T->Option R):Option R:=
 match evA s.l x,zAv s.l c.args.toList with
 |some (.fn f caps0),some az=>match zHH T f with
   |some C=>bif C.bor then(bif caps0.isEmpty then zSD s c C az k else none)else
     let s0:=s.zm6 (zDf C.keep 0 az)
     let q:=tie (C.sh (az++caps0)).m s0.m 4096 (evK (C.sh (az++caps0)).l (az++caps0)) [] []
     let s1:=(lay (C.sh (az++caps0)).m q.2 s0 q.1).1
     match evA s1.l x,zAv s1.l c.args.toList with
     |some (.fn g caps),some as1=>bif Nat.beq g f then zLj ok s1 C (as1++caps) (zSJ k kp)else none
     |_,_=>none
   |none=>none
 |_,_=>none
theorem zNf{c:Call}{x:Operand}(hT:zcu hY P G T)(hG: ∀F,F0.Le F->G F)(h:Cy hY N w0 F0 D H w F ρ os s a)(hop:o.op= .call c)(hcal:c.callee= .value x)
   (e:zKX T ok s c x (λs' x=>fin N o s' x k) kp=some r) (hp:zEb hY N w0 F0 D H kp r Q) (hg:Goes hY N w0 F0 D H ok F ρ os s.m k r K):o.wp P a w K Q:=by
 unfold zKX at e;split at e
 · rename_i f caps0 az hx0 has0;split at e
   · rename_i C hC;cases hbor:C.bor with
     |true=>
      rw[hbor]at e;simp only[cond_true]at e;obtain⟨hnocap,e⟩:=zbh e;unfold zSD at e;split at e
      ·rename_i as1 has1;obtain⟨hfree,e⟩:=zbh e;obtain⟨F1,os1,h1,t1⟩:=h.zm6 (ok:=ok) (AV.zE7 az);have hrx:=h.e.eval hx0;generalize hev:a.eval x=ux at hrx;cases hrx with
       | @fn _ _ cvs hl hr=>
        obtain⟨hcl,hrun⟩:=hT _ _ hC;have hra:=(zx9 h1.e has1).closed hY (ρ':=[]) hfree;have hop':o.op= .call {callee:= .value x,args:=c.args,argTypes:=c.argTypes}:=by rw[hop];cases c;simp only at hcal;subst hcal;rfl
        have hcaps:cvs=[]:=by
          have hz:caps0=[]:=by
           cases caps0 with
           |nil=>rfl
           |cons q r0=>simp at hnocap
          subst hz;exact List.length_eq_zero_iff.1 hl
        subst hcaps;have hcr:=zHk (P:=P) (w:=w) (a:=a) hop' hev hcl
        have hvals:c.args.map a.eval++([]:List Value).toArray=(c.args.toList.map a.eval).toArray:=by
          rw[<-Array.toList_inj];simp
        rw[hvals]at hcr;unfold Oper.wp;rw[hcr];refine(hrun _ _ _ _ e w F1 [] [] _ No (hG _ h1.st.le) hra rfl rfl (λk x p o h=>by simp at h) (Gw.St.start h1.st.view)).mono λen w' hh=>?_
        obtain⟨res,F',ρ',os',ms',hpost,hout,_,_,_,hst,_⟩:=hh;have hb:=(St.only (L:=pts ρ' os') (M:=[]) (by rw[List.append_nil];exact hst)).below
        have h2:=h.later hb;cases hout with
        | @ret y u hy=>
          simp only at hpost;split at hpost
          ·rename_i v hv;have hu:=AV.zB9 hv hy;subst hu;unfold fin at hpost;obtain⟨hd,hk⟩:=zbh hpost;exact hg _ _ _ _ _ _ (h2.put hd .v) (Tr.refl ok F ρ os s.m) hk
          ·cases hpost
        |pan hy=>cases hpost
      ·cases e
     |false=>
     rw[hbor]at e;simp only[cond_false]at e;obtain⟨F1,os1,h1,t1⟩:=h.zm6 (ok:=ok) (zDf C.keep 0 az);generalize s.zm6 (zDf C.keep 0 az)=s0 at e h1 t1;obtain⟨ρ2,os2,h2,t2⟩:=h1.lay (ok:=ok) (C.sh (az++caps0)).m (tie (C.sh (az++caps0)).m s0.m 4096 (evK (C.sh (az++caps0)).l (az++caps0)) [] []).2 (tie (C.sh (az++caps0)).m s0.m 4096 (evK (C.sh (az++caps0)).l (az++caps0)) [] []).1;have t1:=t1.trans t2 h1.lon;have h1:=h2;clear h2 t2;generalize (lay (C.sh (az++caps0)).m (tie (C.sh (az++caps0)).m s0.m 4096 (evK (C.sh (az++caps0)).l (az++caps0)) [] []).2 s0 (tie (C.sh (az++caps0)).m s0.m 4096 (evK (C.sh (az++caps0)).l (az++caps0)) [] []).1).1=s1 at e h1 t1
     split at e
     ·rename_i g caps as1 hx has;obtain⟨hgf0,e1⟩:=zbh e;clear e;have hgf:=yC hgf0;clear hgf0;subst hgf;have hrx:=h1.e.eval hx;generalize hev:a.eval x=ux at hrx;cases hrx with
      | @fn _ _ cvs hl hr=>
       obtain⟨hcl,hrun⟩:=hT _ _ hC;have hra:=zx9 h1.e has;have hop':o.op= .call {callee:= .value x,args:=c.args,argTypes:=c.argTypes}:=by rw[hop];cases c;simp only at hcal;subst hcal;rfl
       have hcr:=zHk (P:=P) (w:=w) (a:=a) hop' hev hcl
       have hvals:c.args.map a.eval++cvs.toArray=(c.args.toList.map a.eval++cvs).toArray:=by
        rw[<-Array.toList_inj];simp
       rw[hvals]at hcr;unfold Oper.wp;rw[hcr];refine zNC (G:=G) (C:=C) (λargs ms r k=>hrun args ms r k) (hG _ h1.st.le) h1 (hra.append ⟨hl,hr⟩) e1 λs' y w' F' ρ' os' en hk h' ht hru=>?_
       cases hru with
       |ret hru=>
        simp only[zSJ]at hk;unfold fin at hk;obtain⟨hd,hk⟩:=zbh hk;exact hg _ _ _ _ _ _ (h'.put hd hru) (t1.trans ht h1.lon) hk
       |pan hru=>exact hp _ _ _ _ _ _ _ _ h' hru hk
     ·cases e
   · cases e
 · cases e
def ydA(Y:Tys)(P:Program)(l:zbY Y.T)(m:List (Mem Y.T))(o:Oper)(k:AV Y.T->Option R):Option (Option R):=match zy9 P l m o with
 |some x=>some (k x)
 |none=>match zJd Y P l m o.op with
   |some x=>some (k x)
   |none=>match zLa Y P l o.op k with
     |some q=>some q
     |none=>zLu Y P l m o.op k
theorem zJa{l:zbY Y.T}{m:List (Mem Y.T)}{k:AV Y.T->Option R}(hsz:Y.sz Y.byt=1)(h:Ey Y N F ρ l a)(hM:My hY F ρ os m w)(e:ydA Y P l m o k=some (some r)): ∃x,Yld hY P F ρ os m a o x/\k x=some r:=by
 unfold ydA at e;split at e
 · rename_i x hx;exact⟨x,zG4 h hM hx,yS e⟩
 · split at e
   · rename_i x hx;exact⟨x,zMn h hM hx,yS e⟩
   · split at e
     ·rename_i q hq;have e:=yS e;subst e;exact zOs h hM hq
     ·exact zNe hsz h hM e
def unw{R:Type}:Option (Option R)->Option R
 |some r=>r
 |none=>none
def zF4{R:Type}(e:zaQ)(k:zaQ->Option R):Option R:=match e with| .code t n=>k (.code t n)|_=>none
def zFw(Y:Tys)(P:Program)(T:Tab Y)(N:Nat)(ok:Nat->Bool)(o:Oper)(s:Sy Y.T)(kp:Sy Y.T->AV Y.T->Option R)(k:Sy Y.T->Option R):Option R:=match o.op with
 | .panic x=>match evA s.l x with
   |some (.v (.iface t y))=>kp s (.v (.iface t y))
   |some (.err e)=>zF4 e λe=>kp s (.err e)
   |_=>none
 | .alloc _=>match zLq P s o.op with|some x=>(bif zOE Y x then fin N o ⟨s.l,s.m++[x]⟩ (.ptr s.m.length 0) k else none)|none=>none
 | .box .. =>match zLq P s o.op with|some x=>(bif zOE Y x then fin N o ⟨s.l,s.m++[x]⟩ (.ptr s.m.length 0) k else none)|none=>none
 | .buildSlice .. =>zI7 Y P s (λs1 x=>fin N o ⟨s1.l,s1.m++[x]⟩ (.own s1.m.length) k) o.op
 | .store .. =>match zH1 P ok s o.op with|some s1=>fin N o s1 (.v undef) k|none=>zI0 Y P N ok s o k
 | .convert .. =>match zI8 Y P s.l o.op with|some x=>fin N o s x k|none=>unw (ydA Y P s.l s.m o λx=>fin N o s x k)
 | .slice _ x _ _ _=>match evA s.l x with
   |some (.own j)=>unw (ydA Y P (s.frz j).l (s.frz j).m o λx=>fin N o (s.frz j) x k)
   |_=>unw (ydA Y P s.l s.m o λx=>fin N o s x k)
 | .call c=>match c.callee with
   | .value x=>zKX T ok s c x (λs' y=>fin N o s' y k) kp
   | .builtin .append=>zLd Y P ok s o.op λs' y=>fin N o s' y k
   | .builtin .delete=>mapA Y P N ok s o k
   |_=>unw (ydA Y P s.l s.m o λx=>fin N o s x k)
 | .makeMap .. =>mapA Y P N ok s o k
 | .makeSlice .. =>mapA Y P N ok s o k
 | .mapUpdate .. =>mapA Y P N ok s o k
 | .mapEntry .. =>mapA Y P N ok s o k
 | .entryStore .. =>mapA Y P N ok s o k
 | .range .. =>mapA Y P N ok s o k
 | .next .. =>mapA Y P N ok s o k
 |_=>unw (ydA Y P s.l s.m o λx=>fin N o s x k)
theorem zEx(hsz:Y.sz Y.byt=1)(hT:zcu hY P G T)(hG: ∀F,F0.Le F->G F)(h:Cy hY N w0 F0 D H w F ρ os s a)(e:zFw Y P T N ok o s kp k=some r)(hp:zEb hY N w0 F0 D H kp r Q)
   (hg:Goes hY N w0 F0 D H ok F ρ os s.m k r K):o.wp P a w K Q:=by
 have yd: ∀{s1:Sy Y.T} {F1:Heap} {os1:List (Option Obj)},Cy hY N w0 F0 D H w F1 ρ os1 s1 a->Tr ok F ρ os s.m F1 ρ os1 s1.m->unw (ydA Y P s1.l s1.m o λx=>fin N o s1 x k)=some r->o.wp P a w K Q:=by
   intro s1 F1 os1 h1 t1 e;cases hy:ydA Y P s1.l s1.m o λx=>fin N o s1 x k with
   |none=>rw[hy]at e;cases e
   |some q=>
     rw[hy]at e;have e:q=some r:=e;subst e;obtain⟨x,⟨u,hr,hrun⟩,hk⟩:=zJa hsz h1.e h1.my hy;exact zyg (s:=s) h1 t1 (hrun w h1.st.view h1.my) hr hk hg
 have yd0:=yd h (Tr.refl ok F ρ os s.m)
 have apr: ∀{c:Call},o.op= .call c->zLd Y P ok s o.op (λs' y=>fin N o s' y k)=some r->o.wp P a w K Q:=λ{c} hop e=>by
   refine zPY hsz h e λs' x w' F' ρ' os' u hk h' ht hrun hr=>zyg (s:=s) h' ht hrun hr hk hg
 unfold zFw at e;split at e
 · rename_i x hop
   have go: ∀{av:AV Y.T} {t:TypeId} {v:Value},evA s.l x=some av->a.eval x= .iface t v->kp s av=some r->o.wp P a w K Q:=λ{av t v} hx hev e=>by
     unfold Oper.wp
     have:(execOp a.eval o).run P w= .halt (.panic (.iface t v)) w:=by
      unfold execOp;rw[hop];simp only[hev,Instr.panic];rfl
     rw[this,Oper.upon_panic];exact hp _ _ _ _ _ _ _ _ h (by have:=h.e.eval hx;rwa [hev]at this) e
   split at e
   · rename_i t y hx;exact go hx (h.e.eval hx).zcl e
   · rename_i er hx;have hr:=h.e.eval hx;generalize hev:a.eval x=ux at hr;unfold zF4 at e;split at e
     ·cases hr with
      |err=>exact go hx hev e
     ·cases e
   · cases e
 · split at e
   · rename_i x hx;obtain⟨hb,e⟩:=zbh e;exact zJY h hb hx e hg
   · cases e
 · split at e
   · rename_i x hx;obtain⟨hb,e⟩:=zbh e;exact zJY h hb hx e hg
   · cases e
 · exact zMm h e hg
 · split at e
   · rename_i s1 hx;exact zLL h hx e hg
   · exact zMR h e hg
 · split at e
   · rename_i x hx;exact zL9 hsz h hx e hg
   · exact yd0 e
 · split at e
   · rename_i j hj;obtain⟨F1,os1,h1,t1⟩:=h.zTc (ok:=ok) j;exact yd h1 t1 e
   · exact yd0 e
 · rename_i c hop;split at e
   · rename_i x hcal;exact zNf hT hG h hop hcal e hp hg
   · exact apr hop e
   · exact zpb h e hg
   · exact yd0 e
 · exact zpb h e hg
 · exact zpb h e hg
 · exact zpb h e hg
 · exact zpb h e hg
 · exact zpb h e hg
 · exact zpb h e hg
 · exact zpb h e hg
 · exact yd0 e
def zog(ops:Array Oper)(j:Nat):Option Nat:=match ops[j]? with|some o=>o.dst|none=>none
def setB{T:Nat->Type}(s:Sy T)(d:Nat)(b:Bool):Sy T:=⟨(d,.v (.bool b))::s.l,s.m⟩
def zHF(Y:Tys)(P:Program)(T:Tab Y)(N:Nat)(ok:Nat->Bool)(ops:Array Oper)(o:Oper)(s:Sy Y.T)(kp:Sy Y.T->AV Y.T->Option R)(k:Sy Y.T->Option R):Option R:=match o.guard with
 |none=>zFw Y P T N ok o s kp k
 |some (j,want)=>match zog ops j with
   |some d=>match lookA s.l d with
     |some (.v (.bool b))=>if b=true then
       (bif want then zFw Y P T N ok o (setB s d true) kp k else fin N o (setB s d true) (.v undef) k)
      else(bif want then fin N o (setB s d false) (.v undef) k else zFw Y P T N ok o (setB s d false) kp k)
     |some (.v (.tuple _))=>fin N o s (.v undef) k
     |_=>none
   |none=>none
theorem Cy.setB(h:Cy hY N w0 F0 D H w F ρ os s a){d:Nat}{b:Bool}(hd:lookA s.l d=some (.v (.bool b))):Cy hY N w0 F0 D H w F ρ os (setB s d b) a:=by
 refine⟨⟨h.e.size,h.e.nodef,λt x e=>?_⟩,h.len,h.lon,h.mem,h.st,h.fix,h.long⟩;simp only[Dn.setB,lookA]at e;cases hb:Nat.beq d t with
 |true=>rw[hb]at e;cases e;rw[<-yC hb];exact h.e.env d _ hd
 |false=>rw[hb]at e;exact h.e.env t x e
theorem zwE{ops:Array Oper}{j d:Nat}{want b:Bool}{l:zbY Y.T}(h:Ey Y N F ρ l a)(hg:o.guard=some (j,want))(hs:zog ops j=some d)(hd:lookA l d=some (.v (.bool b))):Region.wanted o (yielded ops a.tmps)=(b==want):=by
 obtain⟨hlt,hr⟩:=h.env d _ hd;have hv:=hr.zcl
 have hget:a.tmps[d]? =some (.bool b):=by
   have hlt':d<a.tmps.size:=by rw[h.size];exact hlt
   rw[Array.getElem?_eq_getElem hlt'];simp only[Array.getD,hlt',dite_true]at hv;rw[<-hv];rfl
 have hy:yielded ops a.tmps j=some b:=by
   have hs':zmS ops j=some d:=by
     unfold zog at hs;unfold zmS;cases ho:ops[j]? with
     |none=>rw[ho]at hs;cases hs
     |some oj=>rw[ho]at hs;simp only at hs⊢;exact hs
   rw[zqM hs',hget]
 unfold Region.wanted;rw[hg];simp only[hy];cases b<;>cases want<;>rfl
theorem zr5{ops:Array Oper}{j d:Nat}{want:Bool}{vs:Array Value}{l:zbY Y.T}(h:Ey Y N F ρ l a)(hg:o.guard=some (j,want))(hs:zog ops j=some d)(hd:lookA l d=some (.v (.tuple vs))):Region.wanted o (yielded ops a.tmps)=false:=by
 obtain⟨hlt,hr⟩:=h.env d _ hd;have hv:=hr.zcl
 have hget:a.tmps[d]? =some (.tuple vs):=by
   have hlt':d<a.tmps.size:=by rw[h.size];exact hlt
   rw[Array.getElem?_eq_getElem hlt'];simp only[Array.getD,hlt',dite_true]at hv;rw[<-hv];rfl
 have hy:yielded ops a.tmps j=none:=by
   have hs':zmS ops j=some d:=by
     unfold zog at hs;unfold zmS;cases ho:ops[j]? with
     |none=>rw[ho]at hs;cases hs
     |some oj=>rw[ho]at hs;simp only at hs⊢;exact hs
   rw[zqM hs',hget]
 unfold Region.wanted;rw[hg];simp only[hy];rfl
theorem zIt{ops:Array Oper}{rest:List Oper}(hsz:Y.sz Y.byt=1)(hT:zcu hY P G T)(hG: ∀F,F0.Le F->G F)(h:Cy hY N w0 F0 D H w F ρ os s a)(e:zHF Y P T N ok ops o s kp k=some r)(hp:zEb hY N w0 F0 D H kp r Q)
   (hg:Goes hY N w0 F0 D H ok F ρ os s.m k r (wpList P ops Q rest)):wpList P ops Q (o::rest) a w:=by
 unfold zHF at e;split at e
 · rename_i hgd;refine zg3 ?_ (zEx hsz hT hG h e hp hg);unfold Region.wanted;rw[hgd]
 · rename_i j want hgd;split at e
   · rename_i d hd;split at e
     ·rename_i b hb;have hw:=zwE h.e hgd hd hb;have hB:=h.setB hb
      have skip: ∀{b':Bool},b=b'->Region.wanted o (yielded ops a.tmps)=false->fin N o (setB s d b') (.v undef) k=some r->wpList P ops Q (o::rest) a w:=λ{b'} hbb hw e=>by
       subst hbb;unfold fin at e;obtain⟨hdd,e⟩:=zbh e;refine zmr hw (hg _ _ _ _ _ _ (hB.put hdd .v) (Tr.refl ok F ρ os s.m) e)
      cases b with
      |true=>
       simp only[yB]at e;cases want with
       |true=>exact zg3 hw (zEx hsz hT hG hB e hp hg)
       |false=>exact skip rfl hw e
      |false=>
       simp only[qz2,yA]at e;cases want with
       |true=>exact skip rfl hw e
       |false=>exact zg3 hw (zEx hsz hT hG hB e hp hg)
     ·rename_i vs hb;unfold fin at e;obtain⟨hdd,e⟩:=zbh e;exact zmr (zr5 h.e hgd hd hb) (hg _ _ _ _ _ _ (h.put hdd .v) (Tr.refl ok F ρ os s.m) e)
     ·cases e
   · cases e
def zwt(d:Nat):List Oper->Option (List Oper×Nat×List Oper)
 | []=>none
 |o::r=>match o.op,o.dst with
   | .pick (.tmp c) _ _,some dm=>if Nat.beq c d=true then some ([o],dm,r)else(match zwt d r with|some (g,m,q)=>some (o::g,m,q)|none=>none)
   |_,_=>(match zwt d r with|some (g,m,q)=>some (o::g,m,q)|none=>none)
theorem zoL{d:Nat}: ∀{l g q:List Oper} {m:Nat},zwt d l=some (g,m,q)->l=g++q
 | [],g,q,m,h=>by cases h
 |o::r,g,q,m,h=>by
   have go:(match zwt d r with|some (g,m,q)=>some (o::g,m,q)|none=>none)=some (g,m,q)->o::r=g++q:=λh=>by
     split at h
     ·rename_i g' m' q' hs;cases h;rw[zoL hs];rfl
     ·cases h
   unfold zwt at h;split at h
   · split at h
     ·cases h;rfl
     ·exact go h
   · exact go h
def zhP{T:Nat->Type}:List Oper->zbY T->zbY T
 | [],l=>l
 |o::r,l=>match o.dst with|some d=>zhP r ((d,.junk)::l)|none=>zhP r l
def zuP{T:Nat->Type}(s:Sy T)(d:Nat):Option Bool:=match lookA s.l d with
 |some (.v (.bool b))=>some b
 |_=>none
def zAy:List Nat->Nat->Bool
 | [],_=>false
 |a::l,d=>Nat.beq a d||zAy l d
def zoO(Y:Tys)(P:Program)(N:Nat)(ops:Array Oper)(dm:Nat):Nat->List Nat->List Oper->Sy Y.T->Option Bool
 |_,_,[],s=>zuP s dm
 |0,_,_::_,_=>none
 |n+1,lit,o::r,s=>match o.guard with
   |none=>(match zy9 P s.l s.m o with|some x=>bif znJ N o.dst then zoO Y P N ops dm n lit r (s.put o.dst x)else none|none=>none)
   |some (j,want)=>match zog ops j with
     |some d=>(match lookA s.l d with
      |some (.v (.bool b))=>bif zAy lit d then
        (if b=want then(match zy9 P s.l s.m o with|some x=>bif znJ N o.dst then zoO Y P N ops dm n lit r (s.put o.dst x)else none|none=>none)
         else bif znJ N o.dst then zoO Y P N ops dm n lit r (s.put o.dst (.v undef))else none)
       else(match zwt d (o::r)with
        |some (g,m,q)=>(match zoO Y P N ops m n (d::lit) g (setB s d true),zoO Y P N ops m n (d::lit) g (setB s d false)with
          |some x,some y=>bif znJ N (some m)then zoO Y P N ops dm n lit q ⟨(m,.v (.bool (cond b x y)))::zhP g s.l,s.m⟩else none
          |_,_=>none)
        |none=>none)
      |some (.v (.tuple _))=>bif znJ N o.dst then zoO Y P N ops dm n lit r (s.put o.dst (.v undef))else none
      |_=>none)
     |none=>none
def zn5(Y:Tys)(P:Program)(N:Nat)(ops:Array Oper):Nat->List Nat->List Oper->Sy Y.T->(Sy Y.T->Option Bool)->Option Bool
 |_,_,[],s,k=>k s
 |0,_,_::_,_,_=>none
 |n+1,lit,o::r,s,k=>match o.guard with
   |none=>unw (ydA Y P s.l s.m o λx=>fin N o s x λs'=>zn5 Y P N ops n lit r s' k)
   |some (j,want)=>match zog ops j with
     |some d=>(match lookA s.l d with
      |some (.v (.bool b))=>bif zAy lit d then
        (if b=want then unw (ydA Y P s.l s.m o λx=>fin N o s x λs'=>zn5 Y P N ops n lit r s' k)
         else fin N o s (.v undef) λs'=>zn5 Y P N ops n lit r s' k)
       else(match zwt d (o::r)with
        |some (g,m,q)=>(match zoO Y P N ops m n (d::lit) g (setB s d true),zoO Y P N ops m n (d::lit) g (setB s d false)with
          |some x,some y=>bif znJ N (some m)then zn5 Y P N ops n lit q ⟨(m,.v (.bool (cond b x y)))::zhP g s.l,s.m⟩ k else none
          |_,_=>bif znJ N (some m)then Option.bind (if b=true then zn5 Y P N ops n (d::lit) g (setB s d true) (λs'=>zuP s' m)else zn5 Y P N ops n (d::lit) g (setB s d false) (λs'=>zuP s' m))
            λv=>zn5 Y P N ops n lit q ⟨(m,.v (.bool v))::zhP g s.l,s.m⟩ k else none)
        |none=>none)
      |some (.v (.tuple _))=>fin N o s (.v undef) λs'=>zn5 Y P N ops n lit r s' k
      |_=>none)
     |none=>none
theorem zg4{ops:Array Oper}: ∀{g q:List Oper} {a:Act} {w:World},wpList P ops (Exit.then (wpList P ops Q q) Q) g a w->wpList P ops Q (g++q) a w
 | [],q,a,w,h=>h
 |o::g,q,a,w,h=>by
   simp only[yI];unfold wpList at h⊢;split
   · rename_i hw;rw[yL hw]at h;refine h.imp (λh=>?_) id;unfold Oper.wp at h⊢;generalize (execOp a.eval o).run P w=r at h⊢;cases r with
     |ok nx w'=>
      cases nx<;>simp only[Oper.upon]at h⊢ <;>
       first
        |exact zg4 h
        |exact Calls.mono h (λe w'' he=>by cases e<;>first|exact zg4 he|exact he)
        |exact Rows.mono h (λe w'' he=>zg4 he)
        |exact h
     |halt x w'=>cases x<;>simp only[Oper.upon]at h⊢ <;>exact h
   · rename_i hw;rw[yK hw]at h;exact zg4 h
theorem zqs{T:Nat->Type}: ∀(g q:List Oper) (l:zbY T),zhP (g++q) l=zhP q (zhP g l)
 | [],q,l=>rfl
 |o::g,q,l=>by
   simp only[yI,zhP];cases o.dst with
   |none=>exact zqs g q l
   |some d=>exact zqs g q _
theorem Cy.forget(h:Cy hY N w0 F0 D H w F ρ os s a){u:Value}(hd:znJ N o.dst=true){q:List Oper}{a':Act}(hq: ∀l0:zbY Y.T,Cy hY N w0 F0 D H w F ρ os ⟨l0,s.m⟩ (a.put o.dst u)->Cy hY N w0 F0 D H w F ρ os ⟨zhP q l0,s.m⟩ a'):
   Cy hY N w0 F0 D H w F ρ os ⟨zhP (o::q) s.l,s.m⟩ a':=by
 have h2:=hq _ (h.put hd (x:= .junk) (.junk (u:=u)));simp only[zhP];cases hdst:o.dst with
 |none=>rw[hdst]at h2;exact h2
 |some d=>rw[hdst]at h2;exact h2
theorem zo1(h:Cy hY N w0 F0 D H w F ρ os s a){d:Nat}{b:Bool}(hb:zuP s d=some b):d<N/\a.tmps.getD d undef= .bool b:=by
 unfold zuP at hb;split at hb
 · rename_i b' hl;cases hb;exact⟨(h.e.env d _ hl).1,(h.e.env d _ hl).2.zcl⟩
 · cases hb
theorem Cy.merge{l':zbY Y.T}(h:Cy hY N w0 F0 D H w F ρ os ⟨l',s.m⟩ a){m:Nat}{v:Bool}(hv:m<N/\a.tmps.getD m undef= .bool v):Cy hY N w0 F0 D H w F ρ os ⟨(m,.v (.bool v))::l',s.m⟩ a:=by
 refine⟨⟨h.e.size,h.e.nodef,λt x e=>?_⟩,h.len,h.lon,h.mem,h.st,h.fix,h.long⟩;simp only[lookA]at e;cases hb:Nat.beq m t with
 |true=>rw[hb]at e;cases e;rw[<-yC hb];exact⟨hv.1,by rw[hv.2];exact .v⟩
 |false=>rw[hb]at e;exact h.e.env t x e
theorem zDn{ops:Array Oper}: ∀{n dm:Nat} {lit:List Nat} {l:List Oper} {s:Sy Y.T} {a:Act} {v:Bool} {Q:Exit->Act->World->Prop},Cy hY N w0 F0 D H w F ρ os s a->zoO Y P N ops dm n lit l s=some v->
   (∀a',(∀l0:zbY Y.T,Cy hY N w0 F0 D H w F ρ os ⟨l0,s.m⟩ a->Cy hY N w0 F0 D H w F ρ os ⟨zhP l l0,s.m⟩ a')->(dm<N/\a'.tmps.getD dm undef= .bool v)->Q .normal a' w)->wpList P ops Q l a w:=by
 intro n;induction n with
 |zero=>
   intro dm lit l s a v Q h e hK;cases l with
   |nil=>exact hK a (λl0 h=>h) (zo1 h e)
   |cons o r=>cases e
 |succ n ih=>
   intro dm lit l s a v Q h e hK;cases l with
   |nil=>exact hK a (λl0 h=>h) (zo1 h e)
   |cons o r=>
     have go:Region.wanted o (yielded ops a.tmps)=true->(match zy9 P s.l s.m o with|some x=>bif znJ N o.dst then zoO Y P N ops dm n lit r (s.put o.dst x)else none|none=>none)=some v->wpList P ops Q (o::r) a w:=λhw e=>by
      split at e
      ·rename_i x hx;obtain⟨hd,e⟩:=zbh e;obtain⟨u,hr,hrun⟩:=zG4 h.e h.my hx;refine zg3 hw (znp (hrun w h.st.view h.my) (ih (h.put hd hr) e λa' hl hb=>hK a' (λl0 h0=>?_) hb));exact Cy.forget h0 hd hl
      ·cases e
     have pass:Region.wanted o (yielded ops a.tmps)=false->(bif znJ N o.dst then zoO Y P N ops dm n lit r (s.put o.dst (.v undef))else none)=some v->wpList P ops Q (o::r) a w:=λhw e=>by
      obtain⟨hd,e⟩:=zbh e;refine zmr hw (ih (h.put hd .v) e λa' hl hb=>hK a' (λl0 h0=>?_) hb);exact Cy.forget h0 hd hl
     unfold zoO at e;split at e
     ·rename_i hgd;exact go (by unfold Region.wanted;rw[hgd]) e
     ·rename_i j want hgd;split at e
      ·rename_i d hd;split at e
       ·rename_i b hb;have hw:=zwE h.e hgd hd hb;cases hlit:zAy lit d with
        |true=>
          rw[hlit]at e;simp only[cond_true]at e;split at e
          ·rename_i hbw;exact go (by rw[hw,hbw];cases want<;>rfl) e
          ·rename_i hbw;exact pass (by rw[hw];cases b<;>cases want<;>first|rfl|exact absurd rfl hbw) e
        |false=>
          rw[hlit]at e;simp only[cond_false]at e;split at e
          ·rename_i g m q hs;split at e
           ·rename_i x y hx hy;obtain⟨hfm,e⟩:=zbh e;rw[zoL hs];refine zg4 ?_
            have fin: ∀(z:Bool) (a':Act),z=cond b x y->(∀l0:zbY Y.T,Cy hY N w0 F0 D H w F ρ os ⟨l0,s.m⟩ a->Cy hY N w0 F0 D H w F ρ os ⟨zhP g l0,s.m⟩ a')->(m<N/\a'.tmps.getD m undef= .bool z)->Exit.then (wpList P ops Q q) Q .normal a' w:=by
             intro z a' hz hl hb2;subst hz;refine ih ((hl s.l h).merge hb2) e λa2 hl2 hb3=>hK a2 (λl0 h0=>?_) hb3
             rw[zoL hs,zqs];exact hl2 _ (hl l0 h0)
            cases b with
            |true=>exact ih (h.setB hb) hx λa' hl hb2=>fin x a' rfl hl hb2
            |false=>exact ih (h.setB hb) hy λa' hl hb2=>fin y a' rfl hl hb2
           ·cases e
          ·cases e
       ·rename_i vs hb;exact pass (zr5 h.e hgd hd hb) e
       ·cases e
      ·cases e
theorem zJ9{ops:Array Oper}(hsz:Y.sz Y.byt=1): ∀{n:Nat} {lit:List Nat} {l:List Oper} {s:Sy Y.T} {a:Act} {v:Bool} {k:Sy Y.T->Option Bool} {Q:Exit->Act->World->Prop},Cy hY N w0 F0 D H w F ρ os s a->zn5 Y P N ops n lit l s k=some v->
   (∀a' l',(∀l0:zbY Y.T,Cy hY N w0 F0 D H w F ρ os ⟨l0,s.m⟩ a->Cy hY N w0 F0 D H w F ρ os ⟨zhP l l0,s.m⟩ a')->Cy hY N w0 F0 D H w F ρ os ⟨l',s.m⟩ a'->k ⟨l',s.m⟩=some v->Q .normal a' w)->wpList P ops Q l a w:=by
 intro n;induction n with
 |zero=>
   intro lit l s a v k Q h e hK;cases l with
   |nil=>exact hK a s.l (λl0 h=>h) h e
   |cons o r=>cases e
 |succ n ih=>
   intro lit l s a v k Q h e hK;cases l with
   |nil=>exact hK a s.l (λl0 h=>h) h e
   |cons o r=>
     have go:Region.wanted o (yielded ops a.tmps)=true->unw (ydA Y P s.l s.m o λx=>fin N o s x λs'=>zn5 Y P N ops n lit r s' k)=some v->wpList P ops Q (o::r) a w:=λhw e=>by
      cases hy:ydA Y P s.l s.m o λx=>fin N o s x λs'=>zn5 Y P N ops n lit r s' k with
      |none=>rw[hy]at e;cases e
      |some q=>
       rw[hy]at e;have e:q=some v:=e;subst e;obtain⟨x,⟨u,hr,hrun⟩,hk⟩:=zJa hsz h.e h.my hy;unfold fin at hk;obtain⟨hd,hk⟩:=zbh hk;refine zg3 hw (znp (hrun w h.st.view h.my) (ih (h.put hd hr) hk λa' l' hl h' hb=>hK a' l' (λl0 h0=>?_) h' hb));exact Cy.forget h0 hd hl
     have pass:Region.wanted o (yielded ops a.tmps)=false->(fin N o s (.v undef) λs'=>zn5 Y P N ops n lit r s' k)=some v->wpList P ops Q (o::r) a w:=λhw e=>by
      unfold fin at e;obtain⟨hd,e⟩:=zbh e;refine zmr hw (ih (h.put hd .v) e λa' l' hl h' hb=>hK a' l' (λl0 h0=>?_) h' hb);exact Cy.forget h0 hd hl
     unfold zn5 at e;split at e
     ·rename_i hgd;exact go (by unfold Region.wanted;rw[hgd]) e
     ·rename_i j want hgd;split at e
      ·rename_i d hd;split at e
       ·rename_i b hb;have hw:=zwE h.e hgd hd hb;cases hlit:zAy lit d with
        |true=>
          rw[hlit]at e;simp only[cond_true]at e;split at e
          ·rename_i hbw;exact go (by rw[hw,hbw];cases want<;>rfl) e
          ·rename_i hbw;exact pass (by rw[hw];cases b<;>cases want<;>first|rfl|exact absurd rfl hbw) e
        |false=>
          rw[hlit]at e;simp only[cond_false]at e;split at e
          ·rename_i g m q hs
           have fin: ∀(z:Bool) (a':Act),zn5 Y P N ops n lit q ⟨(m,.v (.bool z))::zhP g s.l,s.m⟩ k=some v->(∀l0:zbY Y.T,Cy hY N w0 F0 D H w F ρ os ⟨l0,s.m⟩ a->Cy hY N w0 F0 D H w F ρ os ⟨zhP g l0,s.m⟩ a')->(m<N/\a'.tmps.getD m undef= .bool z)->Exit.then (wpList P ops Q q) Q .normal a' w:=by
            intro z a' e hl hb2;refine ih ((hl s.l h).merge hb2) e λa2 l2 hl2 h2 hb3=>hK a2 l2 (λl0 h0=>?_) h2 hb3
            rw[zoL hs,zqs];exact hl2 _ (hl l0 h0)
           split at e
           ·rename_i x y hx hy;obtain⟨hfm,e⟩:=zbh e;rw[zoL hs];refine zg4 ?_;cases b with
            |true=>exact zDn (h.setB hb) hx λa' hl hb2=>fin x a' e hl hb2
            |false=>exact zDn (h.setB hb) hy λa' hl hb2=>fin y a' e hl hb2
           ·obtain⟨hfm,e⟩:=zbh e;obtain⟨z,hz,e2⟩:=zaS e;rw[zoL hs];refine zg4 ?_;cases b with
            |true=>
             simp only[yB]at hz;exact ih (h.setB hb) hz λa' l' hl h' hb2=>fin z a' e2 hl (zo1 h' hb2)
            |false=>
             simp only[qz2,yA]at hz;exact ih (h.setB hb) hz λa' l' hl h' hb2=>fin z a' e2 hl (zo1 h' hb2)
          ·cases e
       ·rename_i vs hb;exact pass (zr5 h.e hgd hd hb) e
       ·cases e
      ·cases e
def zTj(P:Program):Op->Bool
 | .move _=>true
 | .assign _=>true
 | .pick .. =>true
 | .load .. =>true
 | .nilCheck _=>true
 | .unOp .. =>true
 | .binOp .. =>true
 | .fieldAddr .. =>true
 | .field .. =>true
 | .index .. =>true
 | .indexAddr .. =>true
 | .extract .. =>true
 | .slice t _ _ _ _=>zqv P t
 | .convert _ t _=>(match P.underlying t with|some (.int _)=>true|_=>false)
 | .call c=>(match c.callee with| .builtin .len=>true| .builtin .min=>true| .builtin .max=>true|_=>false)
 |_=>false
def zIS{T:Nat->Type}(P:Program)(ops:Array Oper)(lit:List Nat)(s:Sy T)(o:Oper)(r:List Oper):Option (Nat×Bool×List Oper×Nat×List Oper):=match o.guard with
 |none=>none
 |some (j,_)=>match zog ops j with
   |some d=>(match lookA s.l d with
     |some (.v (.bool b))=>bif zAy lit d then none else(match zwt d (o::r)with
      |some (g,m,q)=>bif g.all (λo=>zTj P o.op)then some (d,b,g,m,q)else none
      |none=>none)
     |_=>none)
   |none=>none
def zRu(ops:Array Oper)(o:Oper)(lit:List Nat):List Nat:=match o.guard with
 |none=>lit
 |some (j,_)=>match zog ops j with|some d=>d::lit|none=>lit
def zD3(Y:Tys)(P:Program)(T:Tab Y)(N:Nat)(ops:Array Oper)(kp:Sy Y.T->AV Y.T->Option R):Nat->List Nat->List Oper->Sy Y.T->(Sy Y.T->Option R)->Option R
 |_,_,[],s,k=>k s
 |0,_,_::_,_,_=>none
 |n+1,lit,o::r,s,k=>match zIS P ops lit s o r with
   |some (d,b,g,m,q)=>(match zoO Y P N ops m n (d::lit) g (setB s d true),zoO Y P N ops m n (d::lit) g (setB s d false)with
     |some x,some y=>zD3 Y P T N ops kp n lit q ⟨(m,.v (.bool (cond b x y)))::zhP g s.l,s.m⟩ k
     |_,_=>Option.bind (if b=true then zn5 Y P N ops n (d::lit) g (setB s d true) (λs'=>zuP s' m)else zn5 Y P N ops n (d::lit) g (setB s d false) (λs'=>zuP s' m))
       λv=>zD3 Y P T N ops kp n lit q ⟨(m,.v (.bool v))::zhP g s.l,s.m⟩ k)
   |none=>zHF Y P T N (λ_=>true) ops o s kp λs'=>zD3 Y P T N ops kp n (zRu ops o lit) r s' k
theorem zMQ{ops:Array Oper}{lit:List Nat}{r:List Oper}{d m:Nat}{b:Bool}{g q:List Oper}(h:zIS P ops lit s o r=some (d,b,g,m,q)):lookA s.l d=some (.v (.bool b))/\o::r=g++q:=by
 unfold zIS at h;split at h
 · cases h
 · split at h
   · rename_i d' hd;split at h
     ·rename_i b' hb;cases hl:zAy lit d' with
      |true=>rw[hl]at h;cases h
      |false=>
       rw[hl]at h;simp only[cond_false]at h;split at h
       ·rename_i g' m' q' hs;obtain⟨_,h⟩:=zcV h;cases h;exact⟨hb,zoL hs⟩
       ·cases h
     ·cases h
   · cases h
theorem zRf{ops:Array Oper}(hsz:Y.sz Y.byt=1)(hT:zcu hY P G T)(hG: ∀F,F0.Le F->G F)(hp:zEb hY N w0 F0 D H kp r Q)
   (hK: ∀w' F' ρ' os' s' a',Cy hY N w0 F0 D H w' F' ρ' os' s' a'->k s'=some r->Q .normal a' w'): ∀{n:Nat} {lit:List Nat} {l:List Oper} {w:World} {F:Heap} {ρ:List Pl} {os:List (Option Obj)} {s:Sy Y.T} {a:Act},Cy hY N w0 F0 D H w F ρ os s a->zD3 Y P T N ops kp n lit l s k=some r->
   wpList P ops Q l a w:=by
 intro n;induction n with
 |zero=>
   intro lit l w F ρ os s a h e;cases l with
   |nil=>exact hK _ _ _ _ _ _ h e
   |cons o r=>cases e
 |succ n ih=>
   intro lit l w F ρ os s a h e;cases l with
   |nil=>exact hK _ _ _ _ _ _ h e
   |cons o r=>
     unfold zD3 at e;split at e
     ·rename_i d b g m q hf;obtain⟨hb,hs⟩:=zMQ hf;have fin: ∀(z:Bool) (a':Act),zD3 Y P T N ops kp n lit q ⟨(m,.v (.bool z))::zhP g s.l,s.m⟩ k=some _->(∀l0:zbY Y.T,Cy hY N w0 F0 D H w F ρ os ⟨l0,s.m⟩ a->Cy hY N w0 F0 D H w F ρ os ⟨zhP g l0,s.m⟩ a')->(m<N/\a'.tmps.getD m undef= .bool z)->Exit.then (wpList P ops Q q) Q .normal a' w:=λz a' e hl hb2=>ih ((hl s.l h).merge hb2) e
      rw[hs];refine zg4 ?_;split at e
      ·rename_i x y hx hy;cases b with
       |true=>exact zDn (h.setB hb) hx λa' hl hb2=>fin x a' e hl hb2
       |false=>exact zDn (h.setB hb) hy λa' hl hb2=>fin y a' e hl hb2
      ·obtain⟨z,hz,e2⟩:=zaS e;cases b with
       |true=>
        simp only[yB]at hz;exact zJ9 hsz (h.setB hb) hz λa' l' hl h' hb2=>fin z a' e2 hl (zo1 h' hb2)
       |false=>
        simp only[qz2,yA]at hz;exact zJ9 hsz (h.setB hb) hz λa' l' hl h' hb2=>fin z a' e2 hl (zo1 h' hb2)
     ·exact zIt hsz hT hG h e hp λw' F' ρ' os' s' a' h' _ e'=>ih h' e'
end
end Go.Dn
namespace Go.Dn
open Go.Gw Go.RowKit
variable [Dfr]
section
variable (Y:Tys)
mutual
def zIu:Pat->Type->Type
 | .junk,r=>r
 | .nilp,r=>r
 | .nils,r=>r
 | .int _,r=>Int×r
 | .bool,r=>Bool×r
 | .str,r=>Str×r
 | .sl e,r=>List (Y.T e)×r
 | .err,r=>zaQ×r
 | .ptr _ _,r=>r
 | .own _,r=>r
 | .st e,r=>Y.T e×r
 | .elst e,r=>Y.T e×r
 | .fn _ l,r=>zk0 l r
 | .agg l,r=>zk0 l r
 | .el l,r=>zk0 l r
 | .tup l,r=>zk0 l r
def zk0:List Pat->Type->Type
 | [],r=>r
 |p::l,r=>zIu p (zk0 l r)
end
def getInt(k:IntKind):AV Y.T->Option Int
 | .v (.int k' n)=>if k'=k then some n else none
 |_=>none
def getBool:AV Y.T->Option Bool
 | .v (.bool b)=>some b
 |_=>none
def zMb:AV Y.T->Option Str
 | .v (.string q)=>some q.data.toList
 |_=>none
def zHI(e:Nat):AV Y.T->Option (List (Y.T e))
 | .sl e' xs=>if h:e'=e then some (h▸xs)else none
 | .v (.slice none 0 0)=>some []
 |_=>none
def zLX:AV Y.T->Option zaQ
 | .err e=>some e
 | .v .nilIface=>some .nil
 |_=>none
def zPx(k off:Nat):AV Y.T->Bool
 | .ptr k' off'=>Nat.beq k' k&&Nat.beq off' off
 |_=>false
def zL2:AV Y.T->Bool
 | .v (.pointer none)=>true
 |_=>false
def zM1:AV Y.T->Bool
 | .v (.slice none 0 0)=>true
 |_=>false
def zPt(k:Nat):AV Y.T->Bool
 | .own k'=>Nat.beq k' k
 |_=>false
def zEP:AV Y.T->Option (List (AV Y.T))
 | .agg l=>some l
 | .v (.agg cs)=>some (cs.toList.map .v)
 |_=>none
def zHJ:AV Y.T->Option (List (AV Y.T))
 | .el l=>some l
 |_=>none
def zMG:AV Y.T->Option (List (AV Y.T))
 | .tup l=>some l
 | .v (.tuple cs)=>some (cs.toList.map .v)
 |_=>none
def getFn(f:Nat):AV Y.T->Option (List (AV Y.T))
 | .fn g l=>bif Nat.beq g f then some l else none
 |_=>none
mutual
def ze5:(p:Pat)->(r:Type)->AV Y.T->r->Option (zIu Y p r)
 | .junk,_,_,y=>some y
 | .nilp,_,a,y=>bif zL2 Y a then some y else none
 | .nils,_,a,y=>bif zM1 Y a then some y else none
 | .int k,_,a,y=>match getInt Y k a with|some n=>some (n,y)|none=>none
 | .bool,_,a,y=>match getBool Y a with|some n=>some (n,y)|none=>none
 | .str,_,a,y=>match zMb Y a with|some n=>some (n,y)|none=>none
 | .sl e,_,a,y=>match zHI Y e a with|some n=>some (n,y)|none=>none
 | .err,_,a,y=>match zLX Y a with|some n=>some (n,y)|none=>none
 | .ptr k off,_,a,y=>bif zPx Y k off a then some y else none
 | .own k,_,a,y=>bif zPt Y k a then some y else none
 | .st e,_,a,y=>match zEP Y a with|some l=>(match Y.close e l with|some x=>some (x,y)|none=>none)|none=>none
 | .elst e,_,a,y=>match zHJ Y a with|some l=>(match Y.close e l with|some x=>some (x,y)|none=>none)|none=>none
 | .fn f l,r,a,y=>match getFn Y f a with|some c=>znF l r c y|none=>none
 | .agg l,r,a,y=>match zEP Y a with|some c=>znF l r c y|none=>none
 | .el l,r,a,y=>match zHJ Y a with|some c=>znF l r c y|none=>none
 | .tup l,r,a,y=>match zMG Y a with|some c=>znF l r c y|none=>none
def znF:(l:List Pat)->(r:Type)->List (AV Y.T)->r->Option (zk0 Y l r)
 | [],_,[],y=>some y
 |p::l,r,a::az,y=>match znF l r az y with|some z=>ze5 p (zk0 Y l r) a z|none=>none
 | [],_,_::_,_=>none
 |_::_,_,[],_=>none
end
mutual
def zGy:(p:Pat)->(r:Type)->zIu Y p r->AV Y.T×r
 | .junk,_,z=>(.junk,z)
 | .nilp,_,z=>(.v (.pointer none),z)
 | .nils,_,z=>(.v (.slice none 0 0),z)
 | .int k,_,z=>(.v (.int k z.1),z.2)
 | .bool,_,z=>(.v (.bool z.1),z.2)
 | .str,_,z=>(.v (.string ⟨⟨z.1⟩⟩),z.2)
 | .sl e,_,z=>(.sl e z.1,z.2)
 | .err,_,z=>(.err z.1,z.2)
 | .ptr k off,_,z=>(.ptr k off,z)
 | .own k,_,z=>(.own k,z)
 | .st e,_,z=>(.agg (Y.cells e z.1),z.2)
 | .elst e,_,z=>(.el (Y.cells e z.1),z.2)
 | .fn f l,r,z=>(.fn f (zga l r z).1,(zga l r z).2)
 | .agg l,r,z=>(.agg (zga l r z).1,(zga l r z).2)
 | .el l,r,z=>(.el (zga l r z).1,(zga l r z).2)
 | .tup l,r,z=>(.tup (zga l r z).1,(zga l r z).2)
def zga:(l:List Pat)->(r:Type)->zk0 Y l r->List (AV Y.T)×r
 | [],_,z=>([],z)
 |p::l,r,z=>((zGy p (zk0 Y l r) z).1::(zga l r (zGy p (zk0 Y l r) z).2).1,(zga l r (zGy p (zk0 Y l r) z).2).2)
end
def zCs:zcK->Type->Type
 | .gone,r=>r
 | .cells _ l,r=>zk0 Y l r
 | .whole _ e,r=>Y.T e×r
 | .arr e,r=>List (Y.T e)×r
 | .mp k e,r=>zty (Y.T k) (Y.T e)×r
 | .it,r=>Str×Nat×r
def zgt:List zcK->Type->Type
 | [],r=>r
 |p::l,r=>zCs Y p (zgt l r)
def getCells(ty:Nat):Mem Y.T->Option (List (AV Y.T))
 | .cells ty' l=>bif Nat.beq ty' ty then some l else none
 |_=>none
def zH0(e:Nat):Mem Y.T->Option (List (Y.T e))
 | .arr e' xs=>if h:e'=e then some (h▸xs)else none
 |_=>none
def zIL(k e:Nat):Mem Y.T->Option (zty (Y.T k) (Y.T e))
 | .mp k' e' x=>if h:k'=k/\e'=e then some (h.1▸h.2▸x)else none
 |_=>none
def getM:(p:zcK)->(r:Type)->Mem Y.T->r->Option (zCs Y p r)
 | .gone,_,_,y=>some y
 | .cells ty l,r,x,y=>match getCells Y ty x with|some c=>znF Y l r c y|none=>none
 | .whole ty e,_,x,y=>match getCells Y ty x with|some c=>(match Y.close e c with|some d=>some (d,y)|none=>none)|none=>none
 | .arr e,_,x,y=>match zH0 Y e x with|some d=>some (d,y)|none=>none
 | .mp k e,_,x,y=>match zIL Y k e x with|some d=>some (d,y)|none=>none
 | .it,_,x,y=>match x with| .it s pos=>some (s,pos,y)|_=>none
def zsc:(l:List zcK)->(r:Type)->List (Mem Y.T)->r->Option (zgt Y l r)
 | [],_,[],y=>some y
 |p::l,r,a::az,y=>match zsc l r az y with|some z=>getM Y p (zgt Y l r) a z|none=>none
 | [],_,_::_,_=>none
 |_::_,_,[],_=>none
def zC6:(p:zcK)->(r:Type)->zCs Y p r->Mem Y.T×r
 | .gone,_,z=>(.gone,z)
 | .cells ty l,r,z=>(.cells ty (zga Y l r z).1,(zga Y l r z).2)
 | .whole ty e,_,z=>(.cells ty (Y.cells e z.1),z.2)
 | .arr e,_,z=>(.arr e z.1,z.2)
 | .mp k e,_,z=>(.mp k e z.1,z.2)
 | .it,_,z=>(.it z.1 z.2.1,z.2.2)
def zkD:(l:List zcK)->(r:Type)->zgt Y l r->List (Mem Y.T)×r
 | [],_,z=>([],z)
 |p::l,r,z=>((zC6 Y p (zgt Y l r) z).1::(zkD l r (zC6 Y p (zgt Y l r) z).2).1,(zkD l r (zC6 Y p (zgt Y l r) z).2).2)
def zjP:List (Nat×Pat)->List Pat
 | []=>[]
 | (_,p)::r=>p::zjP r
def keys:List (Nat×Pat)->List Nat
 | []=>[]
 | (t,_)::r=>t::keys r
def zoU:List Nat->List (AV Y.T)->zbY Y.T
 |t::r,a::l=>(t,a)::zoU r l
 |_,_=>[]
def looks(l:zbY Y.T):List Nat->Option (List (AV Y.T))
 | []=>some []
 |t::r=>match lookA l t,looks l r with|some a,some az=>some (a::az)|_,_=>none
def zgw(σ:Shape):Type:=zk0 Y (zjP σ.l) (zgt Y σ.m Unit)
def zuv(σ:Shape)(s:Sy Y.T):Option (zk0 Y (zjP σ.l) (zgt Y σ.m Unit)):=match looks Y s.l (keys σ.l),zsc Y σ.m Unit s.m ()with
 |some az,some y=>znF Y (zjP σ.l) (zgt Y σ.m Unit) az y
 |_,_=>none
def zeS(σ:Shape)(z:zgw Y σ):Sy Y.T:=⟨zoU Y (keys σ.l) (zga Y (zjP σ.l) (zgt Y σ.m Unit) z).1,(zkD Y σ.m Unit (zga Y (zjP σ.l) (zgt Y σ.m Unit) z).2).1⟩
end
section
variable {Y:Tys} {hY:zb8 Y} {F:Heap} {ρ:List Pl}
theorem zI6{e:Nat}{a:AV Y.T}{xs:List (Y.T e)}{u:Value}(h:zHI Y e a=some xs)(r:Rel Y F ρ a u):Rel Y F ρ (.sl e xs) u:=by
 unfold zHI at h;split at h
 · split at h
   · rename_i he;subst he;cases h;exact r
   · cases h
 · cases h;rw[r.zcl];exact .sl 0 0 (λ_=>[]) (by simp) (λi x hx=>by simp at hx) (λi x hx=>by simp at hx) (λi x j a u hx=>by simp at hx)
 · cases h
theorem zG2{a:AV Y.T}{l:List (AV Y.T)}{u:Value}(h:zEP Y a=some l)(r:Rel Y F ρ a u): ∃vs,u= .agg vs.toArray/\zad Y F ρ l vs:=by
 unfold zEP at h;split at h
 · cases h;cases r with
   |agg h1 h2=>exact⟨_,rfl,h1,h2⟩
 · rename_i cs;cases h;exact⟨cs.toList,by rw[r.zcl],zad.v _⟩
 · cases h
mutual
theorem zQ6(hY:zb8 Y): ∀(p:Pat) (r:Type) {a:AV Y.T} {y:r} {z:zIu Y p r} {u:Value},ze5 Y p r a y=some z->Rel Y F ρ a u->(zGy Y p r z).2=y/\Rel Y F ρ (zGy Y p r z).1 u
 | .junk,r,a,y,z,u,h,_=>by simp only[ze5]at h;cases h;exact⟨rfl,.junk⟩
 | .nilp,r,a,y,z,u,h,hr=>by
   simp only[ze5]at h;obtain⟨hb,h⟩:=zcV h;cases h;unfold zL2 at hb;split at hb
   · exact⟨rfl,hr⟩
   · cases hb
 | .nils,r,a,y,z,u,h,hr=>by
   simp only[ze5]at h;obtain⟨hb,h⟩:=zcV h;cases h;unfold zM1 at hb;split at hb
   · exact⟨rfl,hr⟩
   · cases hb
 | .int k,r,a,y,z,u,h,hr=>by
   simp only[ze5]at h;split at h
   · rename_i n hn;cases h;refine⟨rfl,?_⟩;unfold getInt at hn;split at hn
     ·split at hn
      ·rename_i hk;subst hk;cases hn;exact hr
      ·cases hn
     ·cases hn
   · cases h
 | .bool,r,a,y,z,u,h,hr=>by
   simp only[ze5]at h;split at h
   · rename_i n hn;cases h;refine⟨rfl,?_⟩;unfold getBool at hn;split at hn
     ·cases hn;exact hr
     ·cases hn
   · cases h
 | .str,r,a,y,z,u,h,hr=>by
   simp only[ze5]at h;split at h
   · rename_i n hn;cases h;refine⟨rfl,?_⟩;unfold zMb at hn;split at hn
     ·cases hn;exact hr
     ·cases hn
   · cases h
 | .sl e,r,a,y,z,u,h,hr=>by
   simp only[ze5]at h;split at h
   · rename_i n hn;cases h;exact⟨rfl,zI6 hn hr⟩
   · cases h
 | .err,r,a,y,z,u,h,hr=>by
   simp only[ze5]at h;split at h
   · rename_i n hn;cases h;refine⟨rfl,?_⟩;unfold zLX at hn;split at hn
     ·cases hn;exact hr
     ·cases hn;rw[hr.zcl];exact .err (q:=zOv)
     ·cases hn
   · cases h
 | .ptr k off,r,a,y,z,u,h,hr=>by
   simp only[ze5]at h;obtain⟨hb,h⟩:=zcV h;cases h;refine⟨rfl,?_⟩;unfold zPx at hb;split at hb
   · simp only[qz4]at hb;rw[yC hb.1,yC hb.2]at hr;exact hr
   · cases hb
 | .own k,r,a,y,z,u,h,hr=>by
   simp only[ze5]at h;obtain⟨hb,h⟩:=zcV h;cases h;refine⟨rfl,?_⟩;unfold zPt at hb;split at hb
   · rw[yC hb]at hr;exact hr
   · cases hb
 | .st e,r,a,y,z,u,h,hr=>by
   simp only[ze5]at h;split at h
   · rename_i l hl;split at h
     ·rename_i x hx;cases h;obtain⟨vs,rfl,hv⟩:=zG2 hl hr;have:=hY.fit e l x hx F ρ vs hv;exact⟨rfl,.agg this.1 this.2⟩
     ·cases h
   · cases h
 | .elst e,r,a,y,z,u,h,hr=>by
   simp only[ze5]at h;split at h
   · rename_i l hl;split at h
     ·rename_i x hx;cases h;unfold zHJ at hl;split at hl
      ·cases hl;cases hr with
       |el vs h1 hc h2=>
        have:=hY.fit e _ x hx F ρ vs ⟨h1,h2⟩;exact⟨rfl,.el vs this.1 hc this.2⟩
      ·cases hl
     ·cases h
   · cases h
 | .fn f l,r,a,y,z,u,h,hr=>by
   simp only[ze5]at h;split at h
   · rename_i c hc;unfold getFn at hc;split at hc
     ·obtain⟨hb,hc⟩:=zcV hc;cases hc;rw[yC hb]at hr;cases hr with
      |fn h1 h2=>
       obtain⟨q1,q2⟩:=zpF hY l r h ⟨h1,h2⟩;exact⟨q1,.fn q2.1 q2.2⟩
     ·cases hc
   · cases h
 | .agg l,r,a,y,z,u,h,hr=>by
   simp only[ze5]at h;split at h
   · rename_i c hc;obtain⟨vs,rfl,hv⟩:=zG2 hc hr;obtain⟨q1,q2⟩:=zpF hY l r h hv;exact⟨q1,.agg q2.1 q2.2⟩
   · cases h
 | .el l,r,a,y,z,u,h,hr=>by
   simp only[ze5]at h;split at h
   · rename_i c hc;unfold zHJ at hc;split at hc
     ·cases hc;cases hr with
      |el vs h1 hcc h2=>
       obtain⟨q1,q2⟩:=zpF hY l r h ⟨h1,h2⟩;exact⟨q1,.el vs q2.1 hcc q2.2⟩
     ·cases hc
   · cases h
 | .tup l,r,a,y,z,u,h,hr=>by
   simp only[ze5]at h;split at h
   · rename_i c hc;unfold zMG at hc;split at hc
     ·cases hc;cases hr with
      |tup h1 h2=>
       obtain⟨q1,q2⟩:=zpF hY l r h ⟨h1,h2⟩;exact⟨q1,.tup q2.1 q2.2⟩
     ·rename_i cs;cases hc;obtain⟨q1,q2⟩:=zpF hY l r h (zad.v cs.toList);rw[hr.zcl];exact⟨q1,.tup q2.1 q2.2⟩
     ·cases hc
   · cases h
theorem zpF(hY:zb8 Y): ∀(l:List Pat) (r:Type) {az:List (AV Y.T)} {y:r} {z:zk0 Y l r} {us:List Value},znF Y l r az y=some z->zad Y F ρ az us->(zga Y l r z).2=y/\zad Y F ρ (zga Y l r z).1 us
 | [],r,[],y,z,us,h,hr=>by simp only[znF]at h;cases h;exact⟨rfl,hr⟩
 |p::l,r,a::az,y,z,us,h,hr=>by
   simp only[znF]at h;split at h
   · rename_i z' hz;obtain⟨u,us',rfl,h1,h2⟩:=hr.inv;obtain⟨q1,q2⟩:=zQ6 hY p (zk0 Y l r) h h1;obtain⟨q3,q4⟩:=zpF hY l r hz h2;simp only[zga];rw[q1];exact⟨q3,zad.cons q2 q4⟩
   · cases h
 | [],r,_::_,y,z,us,h,_=>by simp[znF]at h
 |_::_,r,[],y,z,us,h,_=>by simp[znF]at h
end
theorem zDN{ty:Nat}{x:Mem Y.T}{c:List (AV Y.T)}(h:getCells Y ty x=some c):x= .cells ty c:=by
 unfold getCells at h;split at h
 · obtain⟨hb,h⟩:=zcV h;cases h;rw[yC hb]
 · cases h
mutual
theorem zLR: ∀(p:Pat) (r:Type) {a:AV Y.T} {y:r} {z:zIu Y p r},ze5 Y p r a y=some z->(zGy Y p r z).2=y
 | .junk,r,a,y,z,h=>by simp only[ze5]at h;cases h;rfl
 | .nilp,r,a,y,z,h=>by
   simp only[ze5]at h;obtain⟨hb,h⟩:=zcV h;cases h;rfl
 | .nils,r,a,y,z,h=>by
   simp only[ze5]at h;obtain⟨hb,h⟩:=zcV h;cases h;rfl
 | .int k,r,a,y,z,h=>by
   simp only[ze5]at h;split at h
   · cases h;rfl
   · cases h
 | .bool,r,a,y,z,h=>by
   simp only[ze5]at h;split at h
   · cases h;rfl
   · cases h
 | .str,r,a,y,z,h=>by
   simp only[ze5]at h;split at h
   · cases h;rfl
   · cases h
 | .sl e,r,a,y,z,h=>by
   simp only[ze5]at h;split at h
   · cases h;rfl
   · cases h
 | .err,r,a,y,z,h=>by
   simp only[ze5]at h;split at h
   · cases h;rfl
   · cases h
 | .ptr k off,r,a,y,z,h=>by
   simp only[ze5]at h;obtain⟨hb,h⟩:=zcV h;cases h;rfl
 | .own k,r,a,y,z,h=>by
   simp only[ze5]at h;obtain⟨hb,h⟩:=zcV h;cases h;rfl
 | .st e,r,a,y,z,h=>by
   simp only[ze5]at h;split at h
   · split at h
     ·cases h;rfl
     ·cases h
   · cases h
 | .elst e,r,a,y,z,h=>by
   simp only[ze5]at h;split at h
   · split at h
     ·cases h;rfl
     ·cases h
   · cases h
 | .fn f l,r,a,y,z,h=>by
   simp only[ze5]at h;split at h
   · exact zo2 l r h
   · cases h
 | .agg l,r,a,y,z,h=>by
   simp only[ze5]at h;split at h
   · exact zo2 l r h
   · cases h
 | .el l,r,a,y,z,h=>by
   simp only[ze5]at h;split at h
   · exact zo2 l r h
   · cases h
 | .tup l,r,a,y,z,h=>by
   simp only[ze5]at h;split at h
   · exact zo2 l r h
   · cases h
theorem zo2: ∀(l:List Pat) (r:Type) {az:List (AV Y.T)} {y:r} {z:zk0 Y l r},znF Y l r az y=some z->(zga Y l r z).2=y
 | [],r,[],y,z,h=>by simp only[znF]at h;cases h;rfl
 |p::l,r,a::az,y,z,h=>by
   simp only[znF]at h;split at h
   · rename_i z' hz;simp only[zga];rw[zLR p (zk0 Y l r) h];exact zo2 l r hz
   · cases h
 | [],r,_::_,y,z,h=>by simp[znF]at h
 |_::_,r,[],y,z,h=>by simp[znF]at h
end
structure Keep (hY:zb8 Y) (x x':Mem Y.T):Prop where
 rel: ∀(F:Heap) (ρ:List Pl) (q:Pl) (o:Option Obj),zen hY F ρ x q o->zen hY F ρ x' q o
 still:x.still=true->x'.still=true
theorem zRV(hY:zb8 Y)(p:zcK)(r:Type){x:Mem Y.T}{y:r}{z:zCs Y p r}(h:getM Y p r x y=some z):(zC6 Y p r z).2=y/\Keep hY x (zC6 Y p r z).1:=by
 cases p with
 |gone=>simp only[getM]at h;cases h;exact⟨rfl,λ_ _ _ _ _=>trivial,λ_=>rfl⟩
 |cells ty l=>
   simp only[getM]at h;split at h
   · rename_i c hc;have hx:=zDN hc;subst hx;refine⟨zo2 l r h,λF ρ q o ⟨vs,h1,h2⟩=>⟨vs,(zpF hY l r h h1).2,h2⟩,λ_=>rfl⟩
   · cases h
 |whole ty e=>
   simp only[getM]at h;split at h
   · rename_i c hc;split at h
     ·rename_i d hd;cases h;have hx:=zDN hc;subst hx;exact⟨rfl,λF ρ q o ⟨vs,h1,h2⟩=>⟨vs,hY.fit e c d hd F ρ vs h1,h2⟩,λ_=>rfl⟩
     ·cases h
   · cases h
 |arr e=>
   simp only[getM]at h;split at h
   · rename_i d hd;cases h;unfold zH0 at hd;split at hd
     ·split at hd
      ·rename_i he;subst he;cases hd;exact⟨rfl,λ_ _ _ _ hr=>hr,λh=>h⟩
      ·cases hd
     ·cases hd
   · cases h
 |mp k e=>
   simp only[getM]at h;split at h
   · rename_i d hd;cases h;unfold zIL at hd;split at hd
     ·split at hd
      ·rename_i he;obtain⟨h1,h2⟩:=he;subst h1;subst h2;cases hd;exact⟨rfl,λ_ _ _ _ hr=>hr,λh=>h⟩
      ·cases hd
     ·cases hd
   · cases h
 |it=>
   simp only[getM]at h;split at h
   · cases h;exact⟨rfl,λ_ _ _ _ hr=>hr,λh=>h⟩
   · cases h
theorem zIe(hY:zb8 Y): ∀(l:List zcK) (r:Type) {ms:List (Mem Y.T)} {y:r} {z:zgt Y l r},zsc Y l r ms y=some z->
   (zkD Y l r z).2=y/\(zkD Y l r z).1.length=ms.length/\∀(k:Nat) (x':Mem Y.T),(zkD Y l r z).1[k]? =some x'->∃x,ms[k]? =some x/\Keep hY x x'
 | [],r,[],y,z,h=>by simp only[zsc]at h;cases h;exact⟨rfl,rfl,λk x' hk=>by simp[zkD]at hk⟩
 |p::l,r,m::ms,y,z,h=>by
   simp only[zsc]at h;split at h
   · rename_i z' hz;obtain⟨q1,q2,q3⟩:=zIe hY l r hz;obtain⟨p1,p2⟩:=zRV hY p _ h;simp only[zkD];rw[p1];refine⟨q1,by simp[q2],λk x' hk=>?_⟩;cases k with
     |zero=>simp at hk;subst hk;exact⟨m,rfl,p2⟩
     |succ k=>simpa using q3 k x' (by simpa using hk)
   · cases h
 | [],r,_::_,y,z,h=>by simp[zsc]at h
 |_::_,r,[],y,z,h=>by simp[zsc]at h
theorem zEe{l:zbY Y.T}: ∀{ks:List Nat} {az:List (AV Y.T)},looks Y l ks=some az->az.length=ks.length/\∀(i t:Nat) (x:AV Y.T),ks[i]? =some t->az[i]? =some x->lookA l t=some x
 | [],az,h=>by cases h;exact⟨rfl,λi t x h=>by simp at h⟩
 |k::ks,az,h=>by
   simp only[looks]at h;split at h
   · rename_i a as' ha has;cases h;obtain⟨h1,h2⟩:=zEe has;refine⟨by simp[h1],λi t x hi hx=>?_⟩;cases i with
     |zero=>simp at hi hx;subst hi;subst hx;exact ha
     |succ i=>exact h2 i t x (by simpa using hi) (by simpa using hx)
   · cases h
theorem zur: ∀{ks:List Nat} {az:List (AV Y.T)} {t:Nat} {x:AV Y.T},lookA (zoU Y ks az) t=some x->∃i:Nat,ks[i]? =some t/\az[i]? =some x
 | [],az,t,x,h=>by cases az<;>cases h
 |k::ks,[],t,x,h=>by cases h
 |k::ks,a::az,t,x,h=>by
   simp only[zoU,lookA]at h;cases hb:Nat.beq k t with
   |true=>rw[hb]at h;cases h;exact⟨0,by rw[yC hb];rfl,rfl⟩
   |false=>
     rw[hb]at h;obtain⟨i,h1,h2⟩:=zur h;exact⟨i+1,by simpa using h1,by simpa using h2⟩
variable {N:Nat} {w0:World} {F0:Heap} {D:Own} {H:List (Option Nat)} {w:World} {os:List (Option Obj)} {s:Sy Y.T} {a:Act}
theorem zAB{σ:Shape}{z:zgw Y σ}(h2:Cy hY N w0 F0 D H w F ρ os s a)(e:zuv Y σ s=some z):Cy hY N w0 F0 D H w F ρ os (zeS Y σ z) a:=by
 change zk0 Y (zjP σ.l) (zgt Y σ.m Unit)at z;unfold zuv at e;split at e
 · rename_i az y has hy;obtain⟨l1,l2⟩:=zEe has
   have hr:zad Y F ρ az ((keys σ.l).map λt=>a.tmps.getD t undef):=by
     refine⟨by simp[l1],λi x u hx hu=>?_⟩;rw[List.getElem?_map]at hu;cases hk:(keys σ.l)[i]? with
     |none=>rw[hk]at hu;cases hu
     |some t=>rw[hk]at hu;cases hu;exact(h2.e.env t x (l2 i t x hk hx)).2
   obtain⟨q1,q2⟩:=zpF hY (zjP σ.l) (zgt Y σ.m Unit) e hr;obtain⟨m1,m2,m3⟩:=zIe hY σ.m Unit hy;refine⟨⟨h2.e.size,h2.e.nodef,λt x hx=>?_⟩,?_,h2.lon,λk x p o hk hp ho=>?_,h2.st,λk b hb=>⟨(h2.fix k b hb).1,λy hk=>?_⟩,h2.long⟩
   · obtain⟨i,h3,h4⟩:=zur hx;have h5:i<az.length:=by rw[l1];exact(qz0 h3).1
     refine⟨(h2.e.env t _ (l2 i t az[i] h3 (qz9 h5))).1,?_⟩;exact q2.2 i x _ h4 (by rw[List.getElem?_map,h3];rfl)
   · show(zkD Y σ.m Unit (zga Y (zjP σ.l) (zgt Y σ.m Unit) z).2).1.length=ρ.length;rw[q1,m2];exact h2.len
   · have hk:(zkD Y σ.m Unit (zga Y (zjP σ.l) (zgt Y σ.m Unit) z).2).1[k]? =some x:=hk;rw[q1]at hk;obtain⟨x0,h3,h4⟩:=m3 k x hk;exact h4.rel F ρ p o (h2.mem k x0 p o h3 hp ho)
   · have hk:(zkD Y σ.m Unit (zga Y (zjP σ.l) (zgt Y σ.m Unit) z).2).1[k]? =some y:=hk;rw[q1]at hk;obtain⟨x0,h3,h4⟩:=m3 k _ hk;exact h4.still ((h2.fix k b hb).2 x0 h3)
 · cases e
end
end Go.Dn
namespace Go.Dn
open Go.Gw Go.RowKit
variable [Dfr]
section
variable {T:Nat->Type}
def stay(ok:Nat->Bool):Nat->List (Mem T)->List (Mem T)
 |_,[]=>[]
 |k,x::m=>(bif ok k then .gone else x)::stay ok (k+1) m
theorem zIY{ok:Nat->Bool}: ∀{m:List (Mem T)} {k i:Nat} {x:Mem T},(stay ok k m)[i]? =some x->(x= .gone)\/(ok (k+i)=false/\m[i]? =some x)
 | [],k,i,x,h=>by simp[stay]at h
 |y::m,k,0,x,h=>by
  simp only[stay,List.getElem?_cons_zero,Option.some.injEq]at h;cases hk:ok k with
  |true=>rw[hk]at h;exact .inl h.symm
  |false=>rw[hk]at h;exact .inr ⟨rfl,by simpa using h⟩
 |y::m,k,i+1,x,h=>by
  simp only[stay,List.getElem?_cons_succ]at h;rcases zIY h with h| ⟨h1,h2⟩
  ·exact .inl h
  ·exact .inr ⟨by rw[<-h1];congr 1;omega,by simpa using h2⟩
def zr4(ok:Nat->Bool)(F:Heap)(ρ:List Pl)(os:List (Option Obj))(w:World):Prop:=
 F.Sub w/\∀(k:Nat) (p:Pl) (ob:Obj),ok k=false->ρ[k]? =some p->os[k]? =some (some ob)->w.heap[p.blk]? =some ob
theorem Tr.keeps{ok:Nat->Bool}{F F':Heap}{ρ ρ':List Pl}{os os':List (Option Obj)}{m m':List (Mem T)}{w:World}(t:Tr ok F ρ os m F' ρ' os' m')(h:zr4 ok F' ρ' os' w):zr4 ok F ρ os w:=by
 refine⟨⟨λb o e=>h.1.out b o (t.le.out b o e)⟩,λk p ob hk hp ho=>?_⟩;obtain⟨h1,h2⟩:=t.stands k p _ hk hp ho;rcases h2 with h2|h2
 ·exact h.2 k p ob hk h1 h2
 ·exact h.1.out _ _ (h2 ob rfl)
end
section
variable {Y:Tys} {hY:zb8 Y} {P:Program} {N:Nat} {w0:World} {F0:Heap} {D:Own} {H:List (Option Nat)} {w w':World} {F F':Heap} {ρ ρ':List Pl} {os os':List (Option Obj)} {s s':Sy Y.T} {a a':Act} {o:Oper} {R:Type} {ok:Nat->Bool} {r:R} {K:Act->World->Prop} {Q:Exit->Act->World->Prop} {k:Sy Y.T->Option R} {kp:Sy Y.T->AV Y.T->Option R} {T:Tab Y} {G:Heap->Prop}
theorem Cy.keeps(h:Cy hY N w0 F0 D H w F ρ os s a)(ok:Nat->Bool):zr4 ok F ρ os w:=⟨h.st.view,λk p ob _ hp ho=>h.blk hp ho⟩
theorem Cy.zLQ(h:Cy hY N w0 F0 D H w F ρ os s a){ok:Nat->Bool}(hk:zr4 ok F ρ os w'):My hY F ρ os (stay ok 0 s.m) w':=by
 intro i x hx;rcases zIY hx with rfl| ⟨h1,h2⟩
 ·trivial
 ·rw[Nat.zero_add]at h1;obtain⟨p,o,hp,ho,hm⟩:=h.at h2;cases x with
  |gone=>trivial
  |cells ty l=>exact⟨p,o,hp,ho,hm,λob e=>by subst e;exact hk.2 i p ob h1 hp ho⟩
  |arr e xs=>exact⟨p,o,hp,ho,hm,λob e=>by subst e;exact hk.2 i p ob h1 hp ho⟩
  |mp kk e xs=>exact⟨p,o,hp,ho,hm,λob e=>by subst e;exact hk.2 i p ob h1 hp ho⟩
  |it z pos=>exact⟨p,o,hp,ho,hm,λob e=>by subst e;exact hk.2 i p ob h1 hp ho⟩
theorem zDU{md:Region.Mode}{ops:Array Oper}{S S':World->Prop}(hS: ∀w,S' w->S w): ∀(n:Nat) (listed:Array Bool) (a:Act) (w:World),wpAnyH P md ops Q S' n listed a w->wpAnyH P md ops Q S n listed a w
 |0,_,_,_,h=>h
 |n+1,_,_,_,h=>⟨h.1,λi hi=>wpOp_mono (λa' w' h'=>⟨hS _ h'.1,zDU hS n _ a' w' h'.2⟩) (h.2 i hi)⟩
theorem zTO{ops:Array Oper}{n:Nat}{listed:Array Bool}{S:World->Prop}{rs:List Nat}(hr:Region.ready .any ops listed=rs)(hne:rs≠[])
  (h: ∀i∈rs,∃o,ops[i]? =some o/\wpList P ops (Exit.then (λa' w'=>S w'/\wpAnyH P .any ops Q S n (listed.setIfInBounds i true) a' w') Q) [o] a w):wpAnyH P .any ops Q S (n+1) listed a w:=by
 refine wpAnyH_all hr hne λi hj=>?_
 obtain⟨o,ho,h⟩:=h i hj;unfold wpOp;rw[ho]
 have h':if Region.wanted o (yielded ops a.tmps)=true then o.wp P a w (λa' w'=>S w'/\wpAnyH P .any ops Q S n (listed.setIfInBounds i true) a' w') (Exit.then (λa' w'=>S w'/\wpAnyH P .any ops Q S n (listed.setIfInBounds i true) a' w') Q)\/
    (o.asks P a w/\LetsOut (Exit.then (λa' w'=>S w'/\wpAnyH P .any ops Q S n (listed.setIfInBounds i true) a' w') Q))
   else S w/\wpAnyH P .any ops Q S n (listed.setIfInBounds i true) (a.put o.dst undef) w:=h
 simp only;split
 ·rename_i hw;rw[yL hw]at h';refine h'.imp (λh'=>?_) id;unfold Oper.wp at h'⊢;generalize (execOp a.eval o).run P w=r at h'⊢;cases r with
  |ok nx w'=>
   cases nx<;>simp only[Oper.upon]at h'⊢ <;>
    first
     |exact h'
     |exact Calls.mono h' (λe w'' he=>by cases e<;>exact he)
     |exact Rows.mono h' (λe w'' he=>he)
  |halt x w'=>cases x<;>simp only[Oper.upon]at h'⊢ <;>exact h'
 ·rename_i hw;rw[yK hw]at h';exact h'
def zT0(Y:Tys)(P:Program)(l:zbY Y.T)(m:List (Mem Y.T))(o:Oper):Bool:=match ydA Y P l m o (λ_=>some ())with|some _=>true|none=>false
def zSh{T:Nat->Type}(l:zbY T):List Operand->Bool
 | []=>false
 |x::r=>(match x with| .tmp t=>(match lookA l t with|some (.v (.tuple _))=>true|_=>false)|_=>false)||zSh l r
def takeA(Y:Tys)(P:Program)(N:Nat)(ok:Nat->Bool)(ops:Array Oper)(o:Oper)(s:Sy Y.T)(k:Sy Y.T->Option R):Option (Option R):=
 match o.guard with
 |none=>ydA Y P s.l (stay ok 0 s.m) o λx=>fin N o s x k
 |some (j,want)=>match zog ops j with
  |some d=>match lookA s.l d with
   |some (.v (.bool b))=>bif (zSh s.l o.op.operands.toList||zT0 Y P s.l (stay ok 0 s.m) o)then some (if b=true then
     (bif want then unw (ydA Y P (setB s d true).l (stay ok 0 s.m) o λx=>fin N o (setB s d true) x k)else fin N o (setB s d true) (.v undef) k)
    else(bif want then fin N o (setB s d false) (.v undef) k else unw (ydA Y P (setB s d false).l (stay ok 0 s.m) o λx=>fin N o (setB s d false) x k)))else none
   |some (.v (.tuple _))=>some (fin N o s (.v undef) k)
   |_=>none
  |none=>none
theorem zOD{ops:Array Oper}(hsz:Y.sz Y.byt=1)(h:Cy hY N w0 F0 D H w F ρ os s a)(e:takeA Y P N ok ops o s k=some (some r)):
  ∃(s':Sy Y.T) (u:Value),YieldsIf P ops (zr4 ok F ρ os) o u a/\Cy hY N w0 F0 D H w F ρ os s' (a.put o.dst u)/\k s'=some r:=by
 have yd: ∀{s1:Sy Y.T},Cy hY N w0 F0 D H w F ρ os s1 a->s1.m=s.m->Region.wanted o (yielded ops a.tmps)=true->ydA Y P s1.l (stay ok 0 s.m) o (λx=>fin N o s1 x k)=some (some r)->
   ∃(s':Sy Y.T) (u:Value),YieldsIf P ops (zr4 ok F ρ os) o u a/\Cy hY N w0 F0 D H w F ρ os s' (a.put o.dst u)/\k s'=some r:=by
  intro s1 h1 hm hw e;obtain⟨x,⟨u,hr,hrun⟩,hk⟩:=zJa hsz h1.e (h.zLQ (h.keeps ok)) e;unfold fin at hk;obtain⟨hd,hk⟩:=zbh hk;exact⟨_,u,.inl ⟨hw,λw' hS=>hrun w' hS.1 (h.zLQ hS)⟩,h1.put hd hr,hk⟩
 have skip: ∀{s1:Sy Y.T},Cy hY N w0 F0 D H w F ρ os s1 a->Region.wanted o (yielded ops a.tmps)=false->fin N o s1 (.v undef) k=some r->
   ∃(s':Sy Y.T) (u:Value),YieldsIf P ops (zr4 ok F ρ os) o u a/\Cy hY N w0 F0 D H w F ρ os s' (a.put o.dst u)/\k s'=some r:=by
  intro s1 h1 hw e;unfold fin at e;obtain⟨hd,hk⟩:=zbh e;exact⟨_,undef,.inr ⟨hw,rfl⟩,h1.put hd .v,hk⟩
 have unw_some: ∀{x:Option (Option R)},unw x=some r->x=some (some r):=λ{x} hx=>by
  cases x with
  |none=>cases hx
  |some y=>exact congrArg some hx
 unfold takeA at e;split at e
 ·rename_i hgd;exact yd h rfl (by unfold Region.wanted;rw[hgd]) e
 ·rename_i j want hgd;split at e
  ·rename_i d hd;split at e
   ·rename_i b hb;obtain⟨_,e⟩:=zbh e;have e:=yS e;have hw:=zwE h.e hgd hd hb;have hB:=h.setB hb;cases b with
    |true=>
     simp only[yB]at e;cases want with
     |true=>exact yd hB rfl hw (unw_some e)
     |false=>exact skip hB hw e
    |false=>
     simp only[qz2,yA]at e;cases want with
     |true=>exact skip hB hw e
     |false=>exact yd hB rfl hw (unw_some e)
   ·rename_i vs hb;exact skip h (zr5 h.e hgd hd hb) (yS e)
   ·cases e
  ·cases e
def zwh(Y:Tys)(P:Program)(N:Nat)(ok:Nat->Bool)(ops:Array Oper)(listed:Array Bool)(s:Sy Y.T)(k:Array Bool->Sy Y.T->Option R):List Nat->Option (Option R)
 | []=>none
 |i::rs=>match ops[i]? with
  |none=>none
  |some o=>match(bif Region.free .any ops listed i then takeA Y P N ok ops o s (k (listed.setIfInBounds i true))else none)with
   |some x=>some x
   |none=>zwh Y P N ok ops listed s k rs
open Classical in
noncomputable def fk {R:Type} (x y:Option R):Option R:=if x=y then x else none
theorem zI{R:Type}(x:Option R):fk x x=x:=yL rfl
theorem zPN{R:Type}{x y:Option R}{r:R}(e:fk x y=some r):x=some r/\y=some r:=by
 unfold fk at e;split at e
 ·rename_i h;exact⟨e,h▸e⟩
 ·cases e
noncomputable def forks {R:Type} (f:Nat->Option R):Nat->List Nat->Option R
 |i,[]=>f i
 |i,j::r=>fk (f i) (forks f j r)
theorem zFu{R:Type}{f:Nat->Option R}{r:R}: ∀{i:Nat} {l:List Nat},forks f i l=some r->∀j∈i::l,f j=some r
 |i,[],e,j,hj=>by
  rw[List.mem_singleton.1 hj];exact e
 |i,k::l,e,j,hj=>by
  obtain⟨h1,h2⟩:=zPN e;rcases yP.1 hj with rfl|hj
  ·exact h1
  ·exact zFu h2 j hj
noncomputable def zDd (Y:Tys) (P:Program) (T:Tab Y) (N:Nat) (ok:Nat->Bool) (ops:Array Oper) (kp:Sy Y.T->AV Y.T->Option R) (k:Sy Y.T->Option R):Nat->Array Bool->Sy Y.T->Option R
 |n,listed,s=>match Region.ready .any ops listed with
  | []=>k s
  |i::rs=>match n with
   |0=>none
   |n+1=>match zwh Y P N ok ops listed s (λl s'=>zDd Y P T N ok ops kp k n l s') (i::rs)with
    |some x=>x
    |none=>forks (λi=>match ops[i]? with
      |some o=>zHF Y P T N ok ops o s kp λs'=>zDd Y P T N ok ops kp k n (listed.setIfInBounds i true) s'
      |none=>none) i rs
theorem zvc{ops:Array Oper}{listed:Array Bool}{k:Array Bool->Sy Y.T->Option R}: ∀{rs:List Nat} {x:Option R},zwh Y P N ok ops listed s k rs=some x->
  ∃i o,i∈rs/\ops[i]? =some o/\Region.free .any ops listed i=true/\takeA Y P N ok ops o s (k (listed.setIfInBounds i true))=some x
 | [],x,e=>by cases e
 |i::rs,x,e=>by
  simp only[zwh]at e;split at e
  ·cases e
  ·rename_i o ho;cases hf:Region.free .any ops listed i with
   |false=>
    rw[hf]at e;obtain⟨j,o',h1,h2⟩:=zvc e;exact⟨j,o',qz8 _ h1,h2⟩
   |true=>
    rw[hf]at e;simp only[cond_true]at e;split at e
    ·rename_i y hy;cases e;exact⟨i,o,qz7,ho,hf,hy⟩
    ·obtain⟨j,o',h1,h2⟩:=zvc e;exact⟨j,o',qz8 _ h1,h2⟩
theorem zOz{ops:Array Oper}(hsz:Y.sz Y.byt=1)(hT:zcu hY P G T)(hG: ∀F,F0.Le F->G F)(hsel:Region.noSelect ops=true)(hQ: ∀c d v a w,Q (.panic c) (Act.put a d v) w->Q (.panic c) a w)(hp:zEb hY N w0 F0 D H kp r Q)
  (hK: ∀w' F' ρ' os' s' a',Cy hY N w0 F0 D H w' F' ρ' os' s' a'->k s'=some r->Q .normal a' w'): ∀{n:Nat} {listed:Array Bool} {w:World} {F:Heap} {ρ:List Pl} {os:List (Option Obj)} {s:Sy Y.T} {a:Act},Cy hY N w0 F0 D H w F ρ os s a->
  zDd Y P T N ok ops kp k n listed s=some r->wpAnyH P .any ops Q (zr4 ok F ρ os) n listed a w:=by
 intro n;induction n with
 |zero=>
  intro listed w F ρ os s a h e;unfold zDd at e;split at e
  ·rename_i hr;exact⟨hr,hK _ _ _ _ _ _ h e⟩
  ·cases e
 |succ n ih=>
  intro listed w F ρ os s a h e;unfold zDd at e;split at e
  ·rename_i hr;exact wpAnyH_done hr (hK _ _ _ _ _ _ h e) _
  ·rename_i i rs hr;dsimp only at e;split at e
   ·rename_i x hx;subst e;obtain⟨j,o,hj,ho,hf,ht⟩:=zvc hx;obtain⟨s',u,hy,h',hk⟩:=zOD hsz h ht;refine wpAnyH_take (S:=zr4 ok F ρ os) ho hsel hf (by rw[hr];simpa using hj) (λc a w hh=>hQ c _ _ a w hh) hy (h.keeps ok) (ih h' hk)
   ·refine zTO hr (by simp) λj hj=>?_
    have e:=zFu e j hj;split at e
    ·rename_i o ho;refine⟨o,ho,zIt hsz hT hG h e (λw' F' ρ' os' s' a' x u h1 h2 h3=>hp w' F' ρ' os' s' a' x u h1 h2 h3) λw' F' ρ' os' s' a' h' ht hk=>?_⟩;show zr4 ok F ρ os w'/\_;exact⟨ht.keeps (h'.keeps ok),zDU (λw'' hS=>ht.keeps hS) _ _ _ _ (ih h' hk)⟩
    ·cases e
def tmpsOf:List Operand->List Nat
 | []=>[]
 | .tmp t::r=>t::tmpsOf r
 |_::r=>tmpsOf r
def zTI(P:Program)(t:TypeId):Bool:=match P.underlying t with
 |some (.int _)=>true
 |some .string=>true
 |some .bool=>true
 |some (.slice _)=>true
 |some (.struct _)=>true
 |_=>false
def feeds(A:List Nat×List Nat)(deep:Bool)(d:Option Tmp)(t:Nat):List Nat×List Nat:=match d with
 |some d=>bif zfk A.1 d&&zfk A.2 d then A else(bif deep||zfk A.1 d then(A.1,t::A.2)else(t::A.1,A.2))
 |none=>A
def zTg(P:Program)(A:List Nat×List Nat)(o:Oper):List Nat×List Nat:=match o.op with
 | .store _ (.tmp t) _=>(t::A.1,A.2)
 | .call c=>(match c.callee with
  | .builtin .len=>A
  | .builtin .cap=>A
  | .builtin .min=>A
  | .builtin .max=>A
  |_=>(tmpsOf c.operands.toList++A.1,A.2))
 | .fieldAddr _ (.tmp t) _=>feeds A false o.dst t
 | .indexAddr _ (.tmp t) _=>feeds A false o.dst t
 | .nilCheck (.tmp t)=>feeds A false o.dst t
 | .load ty (.tmp t)=>bif zTI P ty then A else feeds A true o.dst t
 | .move (.tmp t)=>feeds A false o.dst t
 | .assign (.tmp t)=>feeds A false o.dst t
 |_=>A
def zTA(P:Program)(t:TypeId):Bool:=match P.underlying t with|some (.slice _)=>true|_=>false
def bases(A:List Nat×List Nat)(C:List Nat)(o:Oper):List Nat:=match o.op,o.dst with
 | .indexAddr _ (.tmp t) _,some d=>bif zfk A.1 d then C else t::C
 | .move (.tmp t),some d=>bif zfk C d then C else t::C
 | .assign (.tmp t),some d=>bif zfk C d then C else t::C
 |_,_=>C
def zTz(P:Program)(S:(List Nat×List Nat)×List Nat)(o:Oper):(List Nat×List Nat)×List Nat:=
 (match o.op,o.dst with
  | .load ty (.tmp t),some d=>bif zTA P ty&& !(zfk S.2 d)then feeds S.1 true (some d) t else zTg P S.1 o
  |_,_=>zTg P S.1 o,bases S.1 S.2 o)
def zMY{T:Nat->Type}(s:Sy T)(t:Nat):List Nat:=match lookA s.l t with|some a=>a.refs|none=>[]
def zLJ{T:Nat->Type}(P:Program)(s:Sy T)(ops:List Oper):Nat->Bool:=match(ops.reverse.foldl (zTz P) (([],[]),[])).1 with
 | ([],_)=>λ_=>false
 | (A,B)=>let L:=reach s.m 4096 (A.flatMap (zMY s)++(B.flatMap (zMY s)).flatMap λk=>match s.m[k]? with|some x=>x.refs|none=>[]) []
  λk=> !(Nat.blt k s.m.length)|| !(zfk L k)
noncomputable def zGt (Y:Tys) (P:Program) (T:Tab Y) (N:Nat) (ops:Array Oper) (draw:Bool) (kp:Sy Y.T->AV Y.T->Option R) (k:Sy Y.T->Option R) (s:Sy Y.T):Option R:=
 bif draw then(bif Region.noSelect ops&&P.follows .mixedOrders then zDd Y P T N (zLJ P s ops.toList) ops kp k ops.size (Array.replicate ops.size false) s else none)
 else zD3 Y P T N ops kp (ops.size+ops.size+16) [] ops.toList s k
theorem zz8{ops:Array Oper}{id:Nat}{draw:Bool}(hsz:Y.sz Y.byt=1)(hT:zcu hY P G T)(hG: ∀F,F0.Le F->G F)(h:Cy hY N w0 F0 D H w F ρ os s a)(e:zGt Y P T N ops draw kp k s=some r)(hQ:draw=true->∀c d v a w,Q (.panic c) (Act.put a d v) w->Q (.panic c) a w)(hp:zEb hY N w0 F0 D H kp r Q)
  (hK: ∀w' F' ρ' os' s' a',Cy hY N w0 F0 D H w' F' ρ' os' s' a'->k s'=some r->Q .normal a' w'):(Code.region id ops draw).wp P Q a w:=by
 unfold zGt at e;cases draw with
 |true=>
  simp only[cond_true]at e;obtain⟨hc,e⟩:=zbh e;simp only[qz4]at hc;have h1:Cy hY N w0 F0 D H {w with drawn:=w.drawn+1} F ρ os s a:=⟨h.e,h.len,h.lon,h.mem,h.st.drew 1,h.fix,h.long⟩
  exact wp_region_held hc.2 (zOz hsz hT hG hc.1 (hQ rfl) hp hK h1 e)
 |false=>
  simp only[cond_false]at e;exact wp_region_list (zRf hsz hT hG hp hK h e)
end
end Go.Dn
namespace Go.Dn
open Go.Gw Go.RowKit
variable [Dfr]
section
variable {T:Nat->Type}
def Sy.pick(s:Sy T)(L:List Nat):Sy T:=⟨zou (zqw T L) s.l,L.map λj=>(s.m.getD j .gone).sub (zqw T L)⟩
def picks(acc:List (Nat×Nat)):Nat->Nat->Option (List Nat)
 |_,0=>some []
 |k,n+1=>match zK1 acc k,picks acc (k+1) n with
  |some j,some r=>some (j::r)
  |_,_=>none
def zyW(L:List Nat):Nat->List (Mem T)->List Nat
 |_,[]=>[]
 |k,.arr _ _::m=>bif zfk L k then k::zyW L (k+1) m else zyW L (k+1) m
 |k,_::m=>zyW L (k+1) m
def zFm(L:List Nat):Nat->Nat->Bool
 |_,0=>true
 |i,n+1=>(match L[i]? with|some j=>Nat.beq j i|none=>false)&&zFm L (i+1) n
def zIi(s:Sy T)(h:Nat)(L:List Nat):Bool:=nodupB L&&L.all (λj=>Nat.blt j s.m.length)&&zFm L 0 h
theorem zGK{L:List Nat}: ∀{n i:Nat},zFm L i n=true->∀j,i<=j->j<i+n->L[j]? =some j
 |0,i,_,j,h1,h2=>by omega
 |n+1,i,e,j,h1,h2=>by
  simp only[zFm,qz4]at e;by_cases hj:j=i
  ·subst hj;have:=e.1;split at this
   ·rename_i x hx;rw[hx,yC this]
   ·cases this
  ·exact zGK e.2 j (by omega) (by omega)
def Sy.fit(h:Nat)(ps:List (Nat×Pat))(σ:List zcK)(s:Sy T)(az:List (AV T)):Option (Sy T):=
 let r:=tie σ s.m 4096 (pre h (evS ps az)) [] []
 let q:=lay σ r.2 s r.1
 match picks q.2 0 σ.length with
 |some L=>let s2:=q.1.zm6 (zyW L 0 q.1.m)
  bif zIi s2 h L then some (s2.pick L)else none
 |none=>none
end
section
variable {Y:Tys} {hY:zb8 Y} {P:Program} {N:Nat} {w0:World} {F0:Heap} {D:Own} {H:List (Option Nat)} {w w':World} {F F':Heap} {ρ ρ':List Pl} {os os':List (Option Obj)} {s s':Sy Y.T} {a a':Act} {ok:Nat->Bool}
theorem Cy.pick(h:Cy hY N w0 F0 D H w F ρ os s a){L:List Nat}(hc:zIi s H.length L=true):Cy hY N w0 F0 D H w F (zek L ρ pl0) (zek L os none) (s.pick L) a:=by
 unfold zIi at hc;simp only[qz4,List.all_eq_true]at hc;have hn:=zC8 hc.1.1;have hlt: ∀j∈L,j<ρ.length:=λj hj=>by rw[<-h.len];exact yD (hc.1.2 j hj)
 have hH: ∀i,i<H.length->L[i]? =some i:=λi hi=>zGK hc.2 i (Nat.zero_le _) (by omega)
 have hpl: ∀{j i:Nat},L[j]? =some i->∃(p:Pl) (o:Option Obj) (x:Mem Y.T),ρ[i]? =some p/\os[i]? =some o/\s.m[i]? =some x/\(zek L ρ pl0)[j]? =some p/\(zek L os none)[j]? =some o/\(L.map λj=>(s.m.getD j .gone).sub (zqw Y.T L))[j]? =some (x.sub (zqw Y.T L)):=λ{j i} hj=>by
  have h1:=hlt i (List.mem_of_getElem? hj);have h2:i<os.length:=by rw[h.lon];exact h1
  have h3:i<s.m.length:=by rw[h.len];exact h1
  exact⟨ρ[i],os[i],s.m[i],qz9 h1,qz9 h2,qz9 h3,by rw[zzH,hj];simp[List.getD,h1],by rw[zzH,hj];simp[List.getD,h2],by rw[List.getElem?_map,hj];simp[List.getD,h3]⟩
 have lead1:zkH Y (zqw Y.T L) F ρ F (zek L ρ pl0):=by
  refine⟨.refl F,λi p hp=>?_,λi z n off p hp=>?_,λi off p hp=>?_⟩<;>simp only[zqw]<;>cases hpos:posOf L i with
  |none=>exact .junk
  |some j=>
   obtain⟨p',o',x',h1,_,_,h2,_⟩:=hpl (zt6 hpos);rw[hp]at h1;cases h1
   first
    |exact .own h2
    |exact .oel h2
    |exact .ptr h2
 have hst1:Gw.St w0 F0 D w F (pts ρ (outs L os)++pts (zek L ρ pl0) (zek L os none)):=h.st.zIC λx hx=>zF5 hn hlt h.lon hx
 refine⟨lead1.ey hY h.e,by simp[Sy.pick,zek],by simp[zek],λj x p o h1 h2 h3=>?_,hst1.only,λk b hb=>?_,?_⟩
 ·have h1:(L.map λj=>(s.m.getD j .gone).sub (zqw Y.T L))[j]? =some x:=h1;have h0:j<L.length:=by have:=(qz0 h1).1;simpa using this
  obtain⟨p',o',x',q1,q2,q3,q4,q5,q6⟩:=hpl (qz9 h0);rw[h2]at q4;rw[h3]at q5;rw[h1]at q6;cases q4;cases q5;cases q6;exact lead1.mem (h.mem _ x' p o q3 q1 q2)
 ·obtain⟨⟨p,hp,hpb⟩,hna⟩:=h.fix k b hb;have hk:k<H.length:=(qz0 hb).1;obtain⟨p',o',x',q1,q2,q3,q4,q5,q6⟩:=hpl (hH k hk);rw[hp]at q1;cases q1;refine⟨⟨p,q4,hpb⟩,λy h1=>?_⟩;have h1:(L.map λj=>(s.m.getD j .gone).sub (zqw Y.T L))[k]? =some y:=h1;rw[q6]at h1;cases h1;rw[Mem.zCI];exact hna x' q3
 ·show H.length<=(zek L ρ pl0).length;simp only[zek,List.length_map];rcases Nat.eq_zero_or_pos H.length with h0|h0
  ·omega
  ·have:=(qz0 (hH (H.length -1) (by omega))).1;omega
theorem Cy.fit(h:Cy hY N w0 F0 D H w F ρ os s a){ps:List (Nat×Pat)}{σ:List zcK}{az:List (AV Y.T)}(e:s.fit H.length ps σ az=some s'): ∃F' ρ' os',Cy hY N w0 F0 D H w F' ρ' os' s' a:=by
 unfold Sy.fit at e;dsimp only at e;split at e
 ·rename_i L hL;obtain⟨hc,e⟩:=zcV e;subst e;obtain⟨ρ1,os1,h1,_⟩:=h.lay (ok:=λ_=>true) σ (tie σ s.m 4096 (pre H.length (evS ps az)) [] []).2 (tie σ s.m 4096 (pre H.length (evS ps az)) [] []).1;obtain⟨F2,os2,h2,_⟩:=h1.zm6 (ok:=λ_=>true) (zyW L 0 (Dn.lay σ (tie σ s.m 4096 (pre H.length (evS ps az)) [] []).2 s (tie σ s.m 4096 (pre H.length (evS ps az)) [] []).1).1.m);exact⟨F2,_,_,h2.pick hc⟩
 ·cases e
def zaI(Y:Tys)(h:Nat)(σ:Shape)(s:Sy Y.T):Option (zgw Y σ):=match looks Y s.l (keys σ.l)with
 |some az=>(match Sy.fit h σ.l σ.m (⟨zoU Y (keys σ.l) az,s.m⟩:Sy Y.T) az with
  |some s'=>zuv Y σ s'
  |none=>none)
 |none=>none
theorem zs7{σ:Shape}{z:zgw Y σ}(h:Cy hY N w0 F0 D H w F ρ os s a)(e:zaI Y H.length σ s=some z): ∃F' ρ' os',Cy hY N w0 F0 D H w F' ρ' os' (zeS Y σ z) a:=by
 unfold zaI at e;split at e
 ·rename_i az has;split at e
  ·rename_i s' hs';obtain⟨l1,l2⟩:=zEe has
   have h1:Cy hY N w0 F0 D H w F ρ os (⟨zoU Y (keys σ.l) az,s.m⟩:Sy Y.T) a:=h.slots λt x hx=>by
    obtain⟨i,h3,h4⟩:=zur hx;exact l2 i t x h3 h4
   obtain⟨F',ρ',os',h2⟩:=h1.fit hs';exact⟨F',ρ',os',zAB h2 e⟩
  ·cases e
 ·cases e
end
end Go.Dn
namespace Go.Dn
open Go.Gw Go.RowKit
variable [Dfr]
inductive At (body:Code):Nat->Item->Prop where
 |root:At body 0 (.code body)
 |seq1 {p q:Nat} {x y:Code} (h:At body p (.code (.seq x y))) (e:q=10*p+1):At body q (.code x)
 |seq2 {p q:Nat} {x y:Code} (h:At body p (.code (.seq x y))) (e:q=10*p+2):At body q (.code y)
 |cond1 {p q:Nat} {c:Operand} {x y:Code} (h:At body p (.code (.cond c x y))) (e:q=10*p+3):At body q (.code x)
 |cond2 {p q:Nat} {c:Operand} {x y:Code} (h:At body p (.code (.cond c x y))) (e:q=10*p+4):At body q (.code y)
 |block {p q id:Nat} {c:Code} (h:At body p (.code (.block id c))) (e:q=10*p+5):At body q (.code c)
 |inBlock {p q id:Nat} {c:Code} (h:At body p (.code (.block id c))) (e:q=10*p+6):At body q (.inBlock id)
 |loop {p q:Nat} {c:Code} (h:At body p (.code (.loop c))) (e:q=10*p+7):At body q (.code c)
 |inLoop {p q:Nat} {c:Code} (h:At body p (.code (.loop c))) (e:q=10*p+8):At body q (.inLoop c)
 |scope {p q:Nat} {c:Code} (h:At body p (.code (.scope c))) (e:q=10*p+9):At body q (.code c)
 |inScope {p q:Nat} {c:Code} (h:At body p (.code (.scope c))) (e:q=10*p+10):At body q (.inScope c)
theorem zT9{p q d:Nat}(h:10*p+d=10*q+d):p=q:=by omega
theorem At.uniq{body:Code}{p:Nat}{i:Item}(h:At body p i): ∀{j:Item},At body p j->i=j:=by
 induction h with
 |root=>intro j h2;cases h2<;>first|rfl|omega
 |seq1 h e ih|seq2 h e ih|cond1 h e ih|cond2 h e ih|block h e ih|inBlock h e ih|loop h e ih|inLoop h e ih|scope h e ih|inScope h e ih=>
   intro j h2
   cases h2<;>first
     |omega
     | (rename_i h3 e3;have hp:=zT9 (e.symm.trans e3);subst hp;cases ih h3;rfl)
abbrev PI:=Nat×Item
def zy5(body:Code):List Nat->Option PI
 | []=>some (0,.code body)
 |d::r=>match zy5 body r with
   |some (p,.code c)=>match c,d with
     | .seq x _,1=>some (10*p+1,.code x)
     | .seq _ y,2=>some (10*p+2,.code y)
     | .cond _ x _,3=>some (10*p+3,.code x)
     | .cond _ _ y,4=>some (10*p+4,.code y)
     | .block _ c,5=>some (10*p+5,.code c)
     | .block id _,6=>some (10*p+6,.inBlock id)
     | .loop c,7=>some (10*p+7,.code c)
     | .loop c,8=>some (10*p+8,.inLoop c)
     | .scope c,9=>some (10*p+9,.code c)
     | .scope c,10=>some (10*p+10,.inScope c)
     |_,_=>none
   |_=>none
theorem zGB{body:Code}: ∀{r:List Nat} {x:PI},zy5 body r=some x->At body x.1 x.2
 | [],x,h=>by cases h;exact .root
 |d::r,x,h=>by
   simp only[zy5]at h;split at h
   · rename_i p c hp;have:=zGB hp;split at h<;>cases h
     · exact .seq1 this rfl
     · exact .seq2 this rfl
     · exact .cond1 this rfl
     · exact .cond2 this rfl
     · exact .block this rfl
     · exact .inBlock this rfl
     · exact .loop this rfl
     · exact .inLoop this rfl
     · exact .scope this rfl
     · exact .inScope this rfl
   · cases h
def zo3(body:Code):List (List Nat)->Option (List PI)
 | []=>some []
 |r::rs=>match zy5 body r,zo3 body rs with|some x,some xs=>some (x::xs)|_,_=>none
def zmU(body:Code)(todo:List PI):Prop:=∀x∈todo,At body x.1 x.2
theorem zt9{body:Code}: ∀{rs:List (List Nat)} {xs:List PI},zo3 body rs=some xs->zmU body xs
 | [],xs,h=>by cases h;exact λx hx=>by cases hx
 |r::rs,xs,h=>by
   simp only[zo3]at h;split at h
   · rename_i y ys hy hys;cases h;intro x hx;rcases yP.1 hx with e|e
     · subst e;exact zGB hy
     · exact zt9 hys x e
   · cases h
theorem zmU.uniq{body:Code}: ∀{xs ys:List PI},zmU body xs->zmU body ys->xs.map (·.1)=ys.map (·.1)->xs=ys
 | [],[],_,_,_=>rfl
 | [],_::_,_,_,h=>by simp at h
 |_::_,[],_,_,h=>by simp at h
 | (p,i)::xs,(q,j)::ys,h1,h2,h=>by
   simp only[List.map_cons,List.cons.injEq]at h;obtain⟨h3,h4⟩:=h;have h3:p=q:=h3;subst h3;have hi:i=j:=(h1 (p,i) qz7).uniq (h2 (p,j) qz7);subst hi;rw[zmU.uniq (λx hx=>h1 x (qz8 _ hx)) (λx hx=>h2 x (qz8 _ hx)) h4]
def sameKey:List Nat->List PI->Bool
 | [],[]=>true
 |p::r,(q,_)::k=>Nat.beq p q&&sameKey r k
 |_,_=>false
theorem zFd: ∀{r:List Nat} {k:List PI},sameKey r k=true->k.map (·.1)=r
 | [],[],_=>rfl
 | [],_::_,h=>by cases h
 |_::_,[],h=>by cases h
 |p::r,(q,i)::k,h=>by
   simp only[sameKey,qz4]at h;simp only[List.map_cons,zFd h.2,yC h.1]
abbrev zn7(Y:Tys)(A:Type):=List (List Nat×(Sy Y.T->Option A))
def zDq{Y:Tys}{A:Type}(todo:List PI):zn7 Y A->Option (Sy Y.T->Option A)
 | []=>none
 | (r,J)::l=>bif sameKey r todo then some J else zDq todo l
def zDh(id:Nat):List PI->Option (List PI)
 | []=>none
 | (_,.inBlock id')::k=>bif Nat.beq id' id then some k else zDh id k
 |_::k=>zDh id k
theorem zEl{id:Nat}: ∀{k k':List PI},zDh id k=some k'->exitTo id (k.map (·.2))=some (k'.map (·.2))/\∀x∈k',x∈k
 | [],k',h=>by cases h
 | (p,i)::k,k',h=>by
   have go:zDh id k=some k'->(∀id',i≠ .inBlock id')->exitTo id (((p,i)::k).map (·.2))=some (k'.map (·.2))/\∀x∈k',x∈(p,i)::k:=λh hi=>by
     obtain⟨h1,h2⟩:=zEl h;refine⟨?_,λx hx=>qz8 _ (h2 x hx)⟩;rw[<-h1];cases i<;>first|rfl|exact absurd rfl (hi _)
   cases i<;>first
     |exact go h (λid' e=>by cases e)
     | (rename_i id'
        simp only[zDh]at h;cases hb:Nat.beq id' id with
        |true=>
          rw[hb]at h;cases h;have:=yC hb;subst this;exact⟨by simp[exitTo],λx hx=>qz8 _ hx⟩
        |false=>
          rw[hb]at h;have hne: ¬id'=id:=λe=>by subst e;rw[Nat.beq_refl]at hb;cases hb
          obtain⟨h1,h2⟩:=zEl h;refine⟨?_,λx hx=>qz8 _ (h2 x hx)⟩;simp only[List.map_cons,exitTo];simp[hne,h1])
def zIy{T:Nat->Type}(s:Sy T)(c:Operand)(b:Bool):Sy T:=match c with
 | .tmp t=>setB s t b
 |_=>s
noncomputable def goA (Y:Tys) (P:Program) (T:Tab Y) (N:Nat) (dr:Bool) {A:Type} (env:zn7 Y A) (fn:Sy Y.T->Option A) (kp:Sy Y.T->AV Y.T->Option A):Nat->Bool->List PI->Sy Y.T->Option A
 |0,_,_,_=>none
 |n+1,chk,todo,s=>match(bif chk then zDq todo env else none)with
   |some J=>J s
   |none=>match todo with
     | []=>fn s
     | (p,.code c)::k=>(match c with
       | .skip=>goA Y P T N dr env fn kp n true k s
       | .label _=>goA Y P T N dr env fn kp n true k s
       | .seq x y=>goA Y P T N dr env fn kp n true ((10*p+1,.code x)::(10*p+2,.code y)::k) s
       | .cond c x y=>(match evA s.l c with
         |some (.v (.bool b))=>if b=true then goA Y P T N dr env fn kp n true ((10*p+3,.code x)::k) (zIy s c true)else goA Y P T N dr env fn kp n true ((10*p+4,.code y)::k) (zIy s c false)
         |_=>none)
       | .block id c=>goA Y P T N dr env fn kp n true ((10*p+5,.code c)::(10*p+6,.inBlock id)::k) s
       | .loop c=>goA Y P T N dr env fn kp n true ((10*p+7,.code c)::(10*p+8,.inLoop c)::k) s
       | .scope c=>goA Y P T N dr env fn kp n true ((10*p+9,.code c)::(10*p+10,.inScope c)::k) s
       | .exit id=>(match zDh id k with|some k'=>goA Y P T N dr env fn kp n true k' s|none=>none)
       | .ret=>fn s
       | .region _ ops draw=>bif (draw&& !dr)then none else zGt Y P T N ops draw kp (λs'=>goA Y P T N dr env fn kp n true k s') s
       |_=>none)
     | (_,.inBlock _)::k=>goA Y P T N dr env fn kp n true k s
     | (_,.inScope _)::k=>goA Y P T N dr env fn kp n true k s
     | (p,.inLoop c)::k=>goA Y P T N dr env fn kp n true ((p -1,.code c)::(p,.inLoop c)::k) s
     |_=>none
def zLs(P:Program)(m:Machine)(b:Frame)(cs:List Frame):Exit->Act->World->Prop
 | .ret,a,w=>∃todo,Steps P m (lone {b.at a todo with mode:= .returning} cs w)
 | .panic chain,a,w=>∃todo,Steps P m (lone {b.at a todo with mode:= .panicking chain} cs w)
 | .outgrown,_,_=>b.kind= .early\/Outgrown P m
 |_,_,_=>False
theorem zLs.of_steps{P:Program}{m m₁:Machine}{b:Frame}{cs:List Frame}{e:Exit}{a:Act}{w:World}(h:Steps P m m₁)(h':zLs P m₁ b cs e a w):zLs P m b cs e a w:=by
 cases e with
 |ret=>obtain⟨todo,hs⟩:=h';exact⟨todo,h.trans hs⟩
 |panic chain=>obtain⟨todo,hs⟩:=h';exact⟨todo,h.trans hs⟩
 |outgrown=>exact h'.imp id (Outgrown.of_steps h)
 |normal=>exact h'.elim
 |exit id=>exact h'.elim
 |goto l=>exact h'.elim
def TP(P:Program)(todo:List Item)(Q:Exit->Act->World->Prop)(a:Act)(w:World):Prop:=
 ∀(b:Frame) (cs:List Frame),∃e a' w',Q e a' w'/\zLs P (lone (b.at a todo) cs w) b cs e a' w'
section
variable {P:Program} {Q:Exit->Act->World->Prop} {a a':Act} {w w':World} {todo todo' k:List Item}
theorem TP.step(hs: ∀(b:Frame) (cs:List Frame),step P (lone (b.at a todo) cs w)= .next (lone (b.at a' todo') cs w'))(h:TP P todo' Q a' w'):TP P todo Q a w:=
 λb cs=>let⟨e,a2,w2,q,r⟩:=h b cs;⟨e,a2,w2,q,.of_steps (.one (hs b cs)) r⟩
def zPk(P:Program)(k:List Item)(Q:Exit->Act->World->Prop):Exit->Act->World->Prop
 | .normal,a,w=>TP P k Q a w
 | .panic ch,a,w=>Q (.panic ch) a w
 | .ret,a,w=>Q .ret a w
 | .outgrown,a,w=>Q .outgrown a w
 |_,_,_=>False
def zTw(Q:Exit->Act->World->Prop):Exit->Act->World->Prop
 | .panic _,_,_=>False
 |e,a,w=>Q e a w
theorem TP.code{c:Code}(h:c.wp P (zPk P k Q) a w):TP P (.code c::k) Q a w:=by
 intro b cs;obtain⟨e,a1,w1,hq,harr⟩:=h b k cs;cases e with
 |normal=>
   obtain⟨e2,a2,w2,q,r⟩:=hq b cs;exact⟨e2,a2,w2,q,.of_steps harr r⟩
 |exit id=>exact hq.elim
 |goto l=>exact hq.elim
 |ret=>exact⟨_,a1,w1,hq,harr⟩
 |panic ch=>exact⟨_,a1,w1,hq,harr⟩
 |outgrown=>exact⟨_,a1,w1,hq,harr⟩
theorem TP.ret(h:Q .ret a w):TP P (.code .ret::k) Q a w:=λ_ _=>⟨.ret,a,w,h,_,.one step_ret⟩
theorem TP.done(h:Q .ret a w):TP P [] Q a w:=λ_ _=>⟨.ret,a,w,h,_,.one step_end⟩
theorem zJu{f:FuncId}{fn:Func}{c:Code}{args:Array Value}{R:Ending->World->Prop}
   (hf:P.funcs[f]? =some fn) (hb:fn.body=some c)
   (h:TP P [.code c] (bodyPost P fn R) {tmps:=args++Array.replicate (fn.ntmps -args.size) undef,defers:=[]} w):Calls P f args w R:=by
 intro cs
 let b:Frame:={(default:Frame)with fn:=f,kind:= .normal}
 have henter:Frame.enter P f args .normal=b.at {tmps:=args++Array.replicate (fn.ntmps -args.size) undef,defers:=[]} [.code c]:=by
   simp[Frame.enter,Frame.at,hf,hb,b]
 obtain⟨e,a',w',hq,harr⟩:=h b cs;rw[<-henter]at harr;cases e with
 |normal=>exact harr.elim
 |ret=>
   obtain⟨hd,v,hr,hR⟩:=hq;obtain⟨todo,hs⟩:=harr;exact⟨.returned v,w',_,hR,hs,rfl,rfl,hd,rfl,fn,hf,hr⟩
 |panic chain=>
   obtain⟨hd,hR⟩:=hq;obtain⟨todo,hs⟩:=harr;exact⟨.panicked chain,w',_,hR,hs,rfl,rfl,hd,fn,hf⟩
 |exit id=>exact hq.elim
 |goto l=>exact hq.elim
 |outgrown=>exact⟨.outgrown,w',b,hq,harr.resolve_left (by simp[b]),rfl,trivial⟩
end
section
variable {Y:Tys} {hY:zb8 Y} {P:Program} {N:Nat} {w0:World} {F0:Heap} {D:Own} {H:List (Option Nat)} {w w':World} {F F':Heap} {ρ ρ':List Pl} {os os':List (Option Obj)} {s s':Sy Y.T} {a a':Act} {T:Tab Y} {G:Heap->Prop} {Q:Exit->Act->World->Prop} {A:Type} {body:Code}
def Ends(hY:zb8 Y)(P:Program)(N:Nat)(w0:World)(F0:Heap)(D:Own)(H:List (Option Nat))(Q:Exit->Act->World->Prop)(M:A->Prop)(todo:List Item)(J:Sy Y.T->Option A):Prop:=
 ∀w F ρ os s a x,Cy hY N w0 F0 D H w F ρ os s a->J s=some x->M x->TP P todo Q a w
structure Ctx (hY:zb8 Y) (P:Program) (N:Nat) (w0:World) (F0:Heap) (D:Own) (H:List (Option Nat)) (Q:Exit->Act->World->Prop) (body:Code) (M:A->Prop) (env:zn7 Y A) (fn:Sy Y.T->Option A) (kp:Sy Y.T->AV Y.T->Option A):Prop where
 fn: ∀w F ρ os s a x,Cy hY N w0 F0 D H w F ρ os s a->fn s=some x->M x->Q .ret a w
 kp: ∀x,M x->zEb hY N w0 F0 D H kp x Q
 env: ∀r J,(r,J)∈env->∀todo,zmU body todo->todo.map (·.1)=r->Ends hY P N w0 F0 D H Q M (todo.map (·.2)) J
theorem zFC{todo:List PI}: ∀{env:zn7 Y A} {J:Sy Y.T->Option A},zDq todo env=some J->∃r,(r,J)∈env/\todo.map (·.1)=r
 | [],J,h=>by cases h
 | (r,J')::l,J,h=>by
   simp only[zDq]at h;cases hb:sameKey r todo with
   |true=>rw[hb]at h;cases h;exact⟨r,qz7,zFd hb⟩
   |false=>
     rw[hb]at h;obtain⟨r',h1,h2⟩:=zFC h;exact⟨r',qz8 _ h1,h2⟩
theorem Cy.zIy(h:Cy hY N w0 F0 D H w F ρ os s a){c:Operand}{b:Bool}(hc:evA s.l c=some (.v (.bool b))):Cy hY N w0 F0 D H w F ρ os (zIy s c b) a:=by
 cases c with
 |tmp t=>exact h.setB hc
 |_=>exact h
theorem zmU.tail{x:PI}{k:List PI}(h:zmU body (x::k)):zmU body k:=λy hy=>h y (qz8 _ hy)
theorem zmU.cons{x:PI}{k:List PI}(h1:At body x.1 x.2)(h:zmU body k):zmU body (x::k):=λy hy=>by
 rcases yP.1 hy with e|e
 · subst e;exact h1
 · exact h y e
theorem zx3{M:A->Prop}{env:zn7 Y A}{fn:Sy Y.T->Option A}{kp:Sy Y.T->AV Y.T->Option A}(hsz:Y.sz Y.byt=1)(hT:zcu hY P G T)(hG: ∀F,F0.Le F->G F){dr:Bool}(hQ:dr=true->(∀c d v a w,Q (.panic c) (Act.put a d v) w->Q (.panic c) a w)\/(∀s x,kp s x=none))
   (C:Ctx hY P N w0 F0 D H Q body M env fn kp): ∀{n:Nat} {chk:Bool} {todo:List PI} {s:Sy Y.T} {w:World} {F:Heap} {ρ:List Pl} {os:List (Option Obj)} {a:Act} {x:A},zmU body todo->
   Cy hY N w0 F0 D H w F ρ os s a->goA Y P T N dr env fn kp n chk todo s=some x->M x->TP P (todo.map (·.2)) Q a w:=by
 intro n;induction n with
 |zero=>intro chk todo s w F ρ os a x _ _ e;cases e
 |succ n ih=>
   intro chk todo s w F ρ os a x hat h e hM;unfold goA at e;split at e
   · rename_i J hJ;obtain⟨_,hJ⟩:=zbh hJ;obtain⟨r,h1,h2⟩:=zFC hJ;exact C.env r J h1 todo hat h2 w F ρ os s a x h e hM
   · cases todo with
     |nil=>exact .done (C.fn _ _ _ _ _ _ _ h e hM)
     |cons it k=>
       obtain⟨p,i⟩:=it;have hk:=hat.tail;cases i with
       |code c=>
         have hc:At body p (.code c):=hat _ qz7;cases c with
         |skip=>exact .step (λb cs=>step_skip) (ih hk h e hM)
         |label l=>exact .step (λb cs=>step_label) (ih hk h e hM)
         |seq x y=>exact .step (λb cs=>step_seq) (ih (todo:=(10*p+1,.code x)::(10*p+2,.code y)::k) (.cons (.seq1 hc rfl) (.cons (.seq2 hc rfl) hk)) h e hM)
         |cond c x y=>
           dsimp only at e;split at e
           ·rename_i b hb;have hev:a.eval c= .bool b:=(h.e.eval hb).zcl;have h':=h.zIy hb;cases b with
            |true=>
             simp only[yB]at e;exact .step (λb cs=>step_cond hev) (ih (todo:=(10*p+3,.code x)::k) (.cons (.cond1 hc rfl) hk) h' e hM)
            |false=>
             simp only[qz2,yA]at e;exact .step (λb cs=>step_cond hev) (ih (todo:=(10*p+4,.code y)::k) (.cons (.cond2 hc rfl) hk) h' e hM)
           ·cases e
         |block id c=>exact .step (λb cs=>step_block) (ih (todo:=(10*p+5,.code c)::(10*p+6,.inBlock id)::k) (.cons (.block hc rfl) (.cons (.inBlock hc rfl) hk)) h e hM)
         |loop c=>exact .step (λb cs=>step_loop) (ih (todo:=(10*p+7,.code c)::(10*p+8,.inLoop c)::k) (.cons (.loop hc rfl) (.cons (.inLoop hc rfl) hk)) h e hM)
         |scope c=>exact .step (λb cs=>step_scope) (ih (todo:=(10*p+9,.code c)::(10*p+10,.inScope c)::k) (.cons (.scope hc rfl) (.cons (.inScope hc rfl) hk)) h e hM)
         |exit id=>
           dsimp only at e;split at e
           ·rename_i k' hk';obtain⟨h1,h2⟩:=zEl hk';exact .step (λb cs=>step_exit h1) (ih (λy hy=>hk y (h2 y hy)) h e hM)
           ·cases e
         |ret=>exact .ret (C.fn _ _ _ _ _ _ _ h e hM)
         |region id ops draw=>
           dsimp only at e;have hd:(draw&& !dr)=false:=by cases hb:(draw&& !dr)with|true=>rw[hb]at e;cases e|false=>rfl
           rw[hd]at e;cases draw with
           |false=>
            refine .code (zz8 hsz hT hG h e (λhdr=>by cases hdr) (λw' F' ρ' os' s' a' y u h1 h2 h3=>C.kp x hM w' F' ρ' os' s' a' y u h1 h2 h3) λw' F' ρ' os' s' a' h' e'=>?_);exact ih hk h' e' hM
           |true=>
            have hdr:dr=true:=by cases dr with|true=>rfl|false=>cases hd
            rcases hQ hdr with hQ1|h0
            ·refine .code (zz8 hsz hT hG h e (λ_ c d v a w hh=>hQ1 c d v a w hh) (λw' F' ρ' os' s' a' y u h1 h2 h3=>C.kp x hM w' F' ρ' os' s' a' y u h1 h2 h3) λw' F' ρ' os' s' a' h' e'=>?_);exact ih hk h' e' hM
            ·refine .code (wp_mono (Q:=zTw (zPk P (k.map (·.2)) Q)) (zz8 hsz hT hG h e (λ_ c d v a w hh=>hh) (λw' F' ρ' os' s' a' y u h1 h2 h3=>by rw[h0]at h3;cases h3) λw' F' ρ' os' s' a' h' e'=>?_) λe a w hh=>?_)
             ·exact ih hk h' e' hM
             ·cases e<;>first|exact hh|exact hh.elim
         |_=>cases e
       |inBlock id=>exact .step (λb cs=>step_inBlock) (ih hk h e hM)
       |inScope c=>exact .step (λb cs=>step_inScope) (ih hk h e hM)
       |inLoop c=>
         have hc:At body p (.inLoop c):=hat _ qz7;refine .step (λb cs=>step_inLoop) (ih (todo:=(p -1,.code c)::(p,.inLoop c)::k) (.cons ?_ hat) h e hM);cases hc with
         |inLoop h e=>exact .loop h (by omega)
       |_=>cases e
end
end Go.Dn
