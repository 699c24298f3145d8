/- Texts for a statement of this seat. -/
import Derived.Test.YtdapbipagjmolaaGreatDoorMa2
import Derived.Lib.AppendIntMem
set_option linter.unusedSectionVars false
set_option linter.unusedVariables false
set_option linter.unusedSimpArgs false
set_option linter.unnecessarySimpa false
namespace Go.D08
open Go Go.Gw Go.Dn Go.RowKit Go.Proofs
set_option maxRecDepth 100000
variable [Lp]
noncomputable section
structure zam (F:Heap):Prop where
 maxLen: ∃m,zh4 F 0 0 (.int .i64 m)
 zBY:zh4 F 7 15 (.int .u8 4)
 zIp: ∃t p,zh4 F 1 0 (.iface t p)
 zGE: ∃t p,zh4 F 2 0 (.iface t p)
 zCK: ∀w:World,F.Sub w->Lib.TabIs Tryz.prog w "internal/strconv.uint64pow10" .u64 Lib.pow10Tab
theorem zam.mono{F F':Heap}(h:zam F)(hle:F.Le F'):zam F':=⟨h.maxLen.imp λ_ e=>zgA hle e,zgA hle h.zBY,h.zIp.imp λ_ e=>e.imp λ_ e=>zgA hle e,h.zGE.imp λ_ e=>e.imp λ_ e=>zgA hle e,λw hs=>h.zCK w ⟨λx o e=>hs.out x o (hle.out x o e)⟩⟩
theorem gm(F F':Heap)(hle:F.Le F')(h:zam F):zam F':=h.mono hle
@[reducible] def fd {α:Type} (x:Option α):Option α:=fk x x
def u1{a b c:Type}(f:a->b)(z:a×c):b:=f z.1
def u2{a b c d:Type}(F:a->b->d)(Z:a×b×c):d:=u1 (F Z.1) Z.2
def u3{a b c d e:Type}(F:a->b->c->e)(Z:a×b×c×d):e:=u2 (F Z.1) Z.2
def u4{a b c d e f:Type}(F:a->b->c->d->f)(Z:a×b×c×d×e):f:=u3 (F Z.1) Z.2
def u5{a b c d e f g:Type}(F:a->b->c->d->e->g)(Z:a×b×c×d×e×f):g:=u4 (F Z.1) Z.2
def u6{a b c d e f g h:Type}(F:a->b->c->d->e->f->h)(Z:a×b×c×d×e×f×g):h:=u5 (F Z.1) Z.2
def u7{a b c d e f g h i:Type}(F:a->b->c->d->e->f->g->i)(Z:a×b×c×d×e×f×g×h):i:=u6 (F Z.1) Z.2
def u8{a b c d e f g h i j:Type}(F:a->b->c->d->e->f->g->h->j)(Z:a×b×c×d×e×f×g×h×i):j:=u7 (F Z.1) Z.2
def u9{a b c d e f g h i j k:Type}(F:a->b->c->d->e->f->g->h->i->k)(Z:a×b×c×d×e×f×g×h×i×j):k:=u8 (F Z.1) Z.2
def u10{a b c d e f g h i j k l:Type}(F:a->b->c->d->e->f->g->h->i->j->l)(Z:a×b×c×d×e×f×g×h×i×j×k):l:=u9 (F Z.1) Z.2
def u11{a b c d e f g h i j k l m:Type}(F:a->b->c->d->e->f->g->h->i->j->k->m)(Z:a×b×c×d×e×f×g×h×i×j×k×l):m:=u10 (F Z.1) Z.2
def u12{a b c d e f g h i j k l m n:Type}(F:a->b->c->d->e->f->g->h->i->j->k->l->n)(Z:a×b×c×d×e×f×g×h×i×j×k×l×m):n:=u11 (F Z.1) Z.2
def u13{a b c d e f g h i j k l m n o:Type}(F:a->b->c->d->e->f->g->h->i->j->k->l->m->o)(Z:a×b×c×d×e×f×g×h×i×j×k×l×m×n):o:=u12 (F Z.1) Z.2
def u14{a b c d e f g h i j k l m n o p:Type}(F:a->b->c->d->e->f->g->h->i->j->k->l->m->n->p)(Z:a×b×c×d×e×f×g×h×i×j×k×l×m×n×o):p:=u13 (F Z.1) Z.2
def u15{a b c d e f g h i j k l m n o p q:Type}(F:a->b->c->d->e->f->g->h->i->j->k->l->m->n->o->q)(Z:a×b×c×d×e×f×g×h×i×j×k×l×m×n×o×p):q:=u14 (F Z.1) Z.2
def u16{a b c d e f g h i j k l m n o p q r:Type}(F:a->b->c->d->e->f->g->h->i->j->k->l->m->n->o->p->r)(Z:a×b×c×d×e×f×g×h×i×j×k×l×m×n×o×p×q):r:=u15 (F Z.1) Z.2
def u17{a b c d e f g h i j k l m n o p q r s:Type}(F:a->b->c->d->e->f->g->h->i->j->k->l->m->n->o->p->q->s)(Z:a×b×c×d×e×f×g×h×i×j×k×l×m×n×o×p×q×r):s:=u16 (F Z.1) Z.2
def u18{a b c d e f g h i j k l m n o p q r s t:Type}(F:a->b->c->d->e->f->g->h->i->j->k->l->m->n->o->p->q->r->t)(Z:a×b×c×d×e×f×g×h×i×j×k×l×m×n×o×p×q×r×s):t:=u17 (F Z.1) Z.2
def u19{a b c d e f g h i j k l m n o p q r s t u:Type}(F:a->b->c->d->e->f->g->h->i->j->k->l->m->n->o->p->q->r->s->u)(Z:a×b×c×d×e×f×g×h×i×j×k×l×m×n×o×p×q×r×s×t):u:=u18 (F Z.1) Z.2
def u20{a b c d e f g h i j k l m n o p q r s t u v:Type}(F:a->b->c->d->e->f->g->h->i->j->k->l->m->n->o->p->q->r->s->t->v)(Z:a×b×c×d×e×f×g×h×i×j×k×l×m×n×o×p×q×r×s×t×u):v:=u19 (F Z.1) Z.2
def oc0(a b:Nat):zbA:= .cells 25 [.int .i64,.str,.int .i64,.str,.own a,.own b]
def oc1(a:Nat):zbA:= .cells 64 [.own a,.bool]
def oc2(a:Nat):zbA:= .cells 23 [.own a]
def oc3(a:Nat):zbA:= .cells 134 [.str,.junk,.own a]
abbrev K8(n:FuncId)(C:Dn.Callee Y):Prop:=COk hY Tryz.prog zam n C
theorem f8{f:FuncId}{fn:Func}{keep:List Nat}{σ:Shape}{outs:List zI}{T:_}{g:zeD Y σ->Option (zO Y outs)}(c:zY Y (zO Y outs))(hf:Tryz.prog.funcs[f]? =some fn)(hT:zcy hY Tryz.prog zam T)(hO:Obl Y Tryz.prog T fn.ntmps σ.m.length (fn.body.getD .skip) [] (zlx Y Tryz.prog σ.m.length fn.results.toList outs) (zyY Y σ.m.length outs) c)
  (h1:((fn.body.isSome&& !(fn.name== "runtime.NumGoroutine"))&&(Nat.ble (keys σ.l).length fn.ntmps&&zts (keys σ.l) (iota 0 (keys σ.l).length)&&outs.all λo=>zhX σ.m o.m))=true:=by kernel_rfl)
  (hg: ∀z,goA Y Tryz.prog T fn.ntmps true (tbl Y σ.m.length c) (zlx Y Tryz.prog σ.m.length fn.results.toList outs) (zyY Y σ.m.length outs) 100000 false [(0,.code (fn.body.getD .skip))] (zdi Y σ z)=g z:=by intro z;kernel_rfl):K8 f (callee Y keep σ outs g):=fo c hf h1 hsz gm hT hO hg
theorem zRx{F:Heap}{w:World}{xs:List Str}{u:Value}(r:Rel Y F [] (.sl 9 xs) u)(hv:F.Sub w): ∃A c,u= .slice A xs.length c/\xs.length<=c/\
  (xs=[]\/∃b o,A=some ⟨b,o,none⟩/\b<w.heap.size/\∀(i:Nat) (x:Str),xs[i]? =some x->w.cell? ⟨b,o+i,none⟩=some (.string ⟨⟨x⟩⟩)):=by
 have h: ∀(A:AV Y.T) (u:Value),Rel Y F [] A u->∀ys:List (Y.T 9),A= .sl 9 ys->∃A c,u= .slice A ys.length c/\ys.length<=c/\
  (ys=[]\/∃b o,A=some ⟨b,o,none⟩/\b<w.heap.size/\∀(i:Nat) (x:Str),ys[i]? =some x->w.cell? ⟨b,o+i,none⟩=some (.string ⟨⟨x⟩⟩)):=by
  intro A u r ys hA
  subst hA
  cases r with
  | @sl _ _ A c b off vs hc hA hvs hh=>
   refine⟨A,c,rfl,hc,?_⟩
   have cell: ∀(i:Nat) (x:Str),ys[i]? =some x->zh4 F b (off+i) (.string ⟨⟨x⟩⟩):=λi x hx=>by
    have h1:(vs i).length=1:=(hvs i x hx).1
    have h2:(vs i)[0]? =some ((vs i)[0]'(by omega)):=qz9 _
    have h3:=(hvs i x hx).2 0 _ h2
    have h4:=(hh i x 0 (.v (.string ⟨⟨x⟩⟩)) _ hx rfl h2).zbg
    rw[h4]at h3
    have e:off+i*Y.sz 9+0=off+i:=by show off+i*1+0=off+i;omega
    rw[e]at h3;exact h3
   cases hys:ys with
   |nil=>exact .inl rfl
   |cons x0 r0=>
    right
    rw[<-hys]
    obtain⟨_,_,_,hF,_⟩:=cell 0 x0 (by rw[hys];rfl)
    exact⟨b,off,hA 0 x0 (by rw[hys];rfl),hv.lt hF,λi x hx=>ze3 hv (cell i x hx)⟩
 exact h _ u r xs rfl
def zht(t:Str)(p:Str):Option (Bool):=some (Lib.hasPrefix t p)
theorem zht.ok(t:Str)(p:Str)(r:Bool)(h0:zht t p=some r)(w0:World)(F0:Heap)(hv:F0.Sub w0)(hG:zam F0)(hg:SV.zaD F0 [.v (.string ⟨⟨t⟩⟩),.v (.string ⟨⟨p⟩⟩)])(ρ:Nat->Nat):
  Calls Tryz.prog 63 (SV.zaj ρ [.v (.string ⟨⟨t⟩⟩),.v (.string ⟨⟨p⟩⟩)]).toArray w0 (zdq w0 F0 λs=>s= .v (.bool r)):=by
 refine(Tryz.strings_HasPrefix ⟨⟨t⟩⟩ ⟨⟨p⟩⟩ w0).mono λe w' h=>?_
 cases h0
 exact zdq.pure (s:= .v _) hv h.1 h.2 trivial rfl rfl
def strings_HasPrefix(t:Str)(p:Str):Option (Bool×Unit):=ziX (λr=>(r,())) (zht t p)
def zn3:Shape:=⟨[(0,.str),(1,.str)],[]⟩
def zyt:List zI:=[⟨false,.bool,[]⟩]
def zyE:=callee Y [] zn3 zyt (λz=>strings_HasPrefix z.1 z.2.1)
theorem zwN:K8 63 zyE:=
 COk.ext (l:=zn3.l) ⟨⟨_,Tryz.func63,by kernel_rfl,rfl⟩⟩ ⟨rfl,rfl⟩ rfl λz zo h=>⟨_,_,rfl,rfl,λw F hG hv=>by
  obtain⟨r,hr,rfl⟩:=zgO h
  exact zht.ok z.1 z.2.1 r hr w F hv hG (by simp[SV.zaD,SV.good]) (λ_=>0)⟩
def zew(t:Str)(a:Str):Option (Int):=if t.length<4294967281/\a=[10,13]then some (Lib.indexAny t [10,13])else none
theorem zew.ok(t:Str)(cs:Str)(r:Int)(h0:zew t cs=some r)(w0:World)(F0:Heap)(hv:F0.Sub w0)(hG:zam F0)(hg:SV.zaD F0 [.v (.string ⟨⟨t⟩⟩),.v (.string ⟨⟨cs⟩⟩)])(ρ:Nat->Nat):
  Calls Tryz.prog 64 (SV.zaj ρ [.v (.string ⟨⟨t⟩⟩),.v (.string ⟨⟨cs⟩⟩)]).toArray w0 (zdq w0 F0 λs=>s= .v (.int .i64 r)):=by
 unfold zew at h0
 split at h0
 ·rename_i hc
  cases h0
  obtain⟨hc,rfl⟩:=hc
  refine(Gw.znY Tryz.lays153 (by kernel_rfl) ⟨⟨t⟩⟩ w0 hc).mono λe w' h=>?_
  exact zdq.below (s:= .v _) hv h.1 h.2 trivial rfl rfl
 ·cases h0
def strings_IndexAny(t:Str)(a:Str):Option (Int×Unit):=ziX (λr=>(r,())) (zew t a)
def zpb:Shape:=⟨[(0,.str),(1,.str)],[]⟩
def zy7:List zI:=[⟨false,.int .i64,[]⟩]
def zzS:=callee Y [] zpb zy7 (λz=>strings_IndexAny z.1 z.2.1)
theorem zyf:K8 64 zzS:=
 COk.ext (l:=zpb.l) ⟨⟨_,Tryz.func64,by kernel_rfl,rfl⟩⟩ ⟨rfl,rfl⟩ rfl λz zo h=>⟨_,_,rfl,rfl,λw F hG hv=>by
  obtain⟨r,hr,rfl⟩:=zgO h
  exact zew.ok z.1 z.2.1 r hr w F hv hG (by simp[SV.zaD,SV.good]) (λ_=>0)⟩
def zf3(t:Str)(a:Str):Option (Int):=if t.length<4294967281 then some (Lib.index t a)else none
theorem zf3.ok(t:Str)(sub:Str)(r:Int)(h0:zf3 t sub=some r)(w0:World)(F0:Heap)(hv:F0.Sub w0)(hG:zam F0)(hg:SV.zaD F0 [.v (.string ⟨⟨t⟩⟩),.v (.string ⟨⟨sub⟩⟩)])(ρ:Nat->Nat):
  Calls Tryz.prog 65 (SV.zaj ρ [.v (.string ⟨⟨t⟩⟩),.v (.string ⟨⟨sub⟩⟩)]).toArray w0 (zdq w0 F0 λs=>s= .v (.int .i64 r)):=by
 unfold zf3 at h0
 split at h0
 ·rename_i hc
  cases h0
  obtain⟨m,hm⟩:=hG.maxLen
  refine(Tryz.strings_Index ⟨⟨t⟩⟩ ⟨⟨sub⟩⟩ m w0 hc (ze3 hv hm)).mono λe w' h=>?_
  exact zdq.pure (s:= .v _) hv h.1 h.2 trivial rfl rfl
 ·cases h0
def strings_Index(t:Str)(a:Str):Option (Int×Unit):=ziX (λr=>(r,())) (zf3 t a)
def zs7:Shape:=⟨[(0,.str),(1,.str)],[]⟩
def zCq:List zI:=[⟨false,.int .i64,[]⟩]
def zB4:=callee Y [] zs7 zCq (λz=>strings_Index z.1 z.2.1)
theorem zsj:K8 65 zB4:=
 COk.ext (l:=zs7.l) ⟨⟨_,Tryz.func65,by kernel_rfl,rfl⟩⟩ ⟨rfl,rfl⟩ rfl λz zo h=>⟨_,_,rfl,rfl,λw F hG hv=>by
  obtain⟨r,hr,rfl⟩:=zgO h
  exact zf3.ok z.1 z.2.1 r hr w F hv hG (by simp[SV.zaD,SV.good]) (λ_=>0)⟩
def zds(t:Str)(a:Str):Option (Bool):=if t.length<4294967281/\a=[10,13]then some (Lib.containsAny t [10,13])else none
theorem zds.ok(t:Str)(cs:Str)(r:Bool)(h0:zds t cs=some r)(w0:World)(F0:Heap)(hv:F0.Sub w0)(hG:zam F0)(hg:SV.zaD F0 [.v (.string ⟨⟨t⟩⟩),.v (.string ⟨⟨cs⟩⟩)])(ρ:Nat->Nat):
  Calls Tryz.prog 66 (SV.zaj ρ [.v (.string ⟨⟨t⟩⟩),.v (.string ⟨⟨cs⟩⟩)]).toArray w0 (zdq w0 F0 λs=>s= .v (.bool r)):=by
 unfold zds at h0
 split at h0
 ·rename_i hc
  cases h0
  obtain⟨hc,rfl⟩:=hc
  refine(Gw.ztz Tryz.lays150 (by kernel_rfl) ⟨⟨t⟩⟩ w0 hc).mono λe w' h=>?_
  exact zdq.below (s:= .v _) hv h.1 h.2 trivial rfl rfl
 ·cases h0
def strings_ContainsAny(t:Str)(a:Str):Option (Bool×Unit):=ziX (λr=>(r,())) (zds t a)
def zmC:Shape:=⟨[(0,.str),(1,.str)],[]⟩
def zvf:List zI:=[⟨false,.bool,[]⟩]
def zvQ:=callee Y [] zmC zvf (λz=>strings_ContainsAny z.1 z.2.1)
theorem zul:K8 66 zvQ:=
 COk.ext (l:=zmC.l) ⟨⟨_,Tryz.func66,by kernel_rfl,rfl⟩⟩ ⟨rfl,rfl⟩ rfl λz zo h=>⟨_,_,rfl,rfl,λw F hG hv=>by
  obtain⟨r,hr,rfl⟩:=zgO h
  exact zds.ok z.1 z.2.1 r hr w F hv hG (by simp[SV.zaD,SV.good]) (λ_=>0)⟩
abbrev zTJ:=Option ((Str×Int×Int×Bool×Unit)⊕(Bool×Unit))
abbrev zQf:=Option ((zad×zh×Unit)⊕(zh×Unit))
abbrev zUT:=Option ((zZ×Unit)⊕(Bool×zZ×Unit))
abbrev zUp:=Option ((Int×Int×zg×zg×Unit)⊕(Bool×Unit))
abbrev zD3:=Option ((Str×Int×Int×(List UInt8)×Unit)⊕(Str×Int×Unit))
abbrev zij:=Option ((zg×zh×Unit)⊕(zad×zh×Unit))
abbrev za6:=Option ((zad×zh×Unit)⊕(zg×zh×Unit))
abbrev zEi:=Option (((List zg)×zh×Unit)⊕(zad×zh×Unit))
abbrev zBI:=Option (((List zg)×Int×Int×Bool×(List Str)×Unit)⊕(Bool×(List Str)×Unit))
abbrev zDI:=Option ((zh×(List zg)×Unit)⊕(zad×zh×(List zg)×Unit))
abbrev OT9:=Option ((Int×Bool×Str×Int×Int×Bool×Int×(List UInt8)×Int×Int×Unit)⊕(Int×zad×Unit))
abbrev OT8:=Option ((zh×Str×(List zg)×Bool×Unit)⊕(zad×zh×Str×(List zg)×Bool×Unit))
abbrev OT7:=Option ((Bool×Str×zh×(List zg)×Unit)⊕(((List zg)×zh×Unit)⊕(zad×zh×Unit)))
abbrev OT6:=Option ((zh×zg×(List Str)×(List zg)×Unit)⊕(zad×zh×Int×Str×Int×Str×(List Str)×(List zg)×Unit))
abbrev OT5:=Option ((zad×zh×Int×Str×Int×Str×(List Str)×(List zg)×Unit)⊕(zh×Int×Str×Int×Str×(List Str)×(List zg)×Unit))
abbrev OT4:=Option ((zh×Int×Str×Int×Str×(List zg)×(List Str)×(List zg)×Unit)⊕(zad×zh×Int×Str×Int×Str×(List Str)×(List zg)×Unit))
abbrev OT3:=Option ((zad×zh×Str×Int×Str×Int×Str×(List Str)×(List zg)×Bool×Unit)⊕(zh×Str×Int×Str×Int×Str×(List Str)×(List zg)×Bool×Unit))
abbrev OT2:=Option ((zh×Int×Str×Int×Str×Int×Str×Int×Str×(List Str)×(List zg)×(List Str)×(List zg)×Unit)⊕((zad×zh×Unit)⊕(zg×zh×Unit)))
abbrev OT1:=Option ((Bool×zh×Int×Str×Int×Str×Int×Str×Int×Str×(List Str)×(List zg)×(List Str)×(List zg)×Unit)⊕((zad×zh×Unit)⊕(zg×zh×Unit)))
abbrev OT0:=Option ((zh×Str×Int×Str×Int×Str×(List Str)×(List zg)×Bool×Unit)⊕((zad×zh×Str×Int×Str×Int×Str×(List Str)×(List zg)×Bool×Unit)⊕(zh×Str×Int×Str×Int×Str×(List Str)×(List zg)×Bool×Unit)))
def zcv(b:Int)(a:zZ):zUT:=if a.fresh=true then(zaL a.rest b ((a.rest.length:Nat):Int)).bind λc=>some (.inl (⟨a.src,c,true⟩,()))else(zaL a.rest 0 b).bind λd=>(strings_ContainsAny d [10,13]).bind λe=>(zaL a.rest b ((a.rest.length:Nat):Int)).bind λf=>some (.inl (⟨a.src,f,e.1⟩,()))
def zaw:zZ×Unit->zUT| (a,())=>if(!(a.rest==[]))=true then(strings_HasPrefix a.rest [47,47]).bind λd=>if d.1=true then(strings_IndexAny a.rest [10,13]).bind λb=>if(decide (b.1<0))=true then let e:=((a.rest.length:Nat):Int);zcv e (zdV a)else zcv b.1 (zdV a)else(strings_HasPrefix a.rest [47,42]).bind λf=>if f.1=true then(zaL a.rest 2 ((a.rest.length:Nat):Int)).bind λg=>(strings_Index g [42,47]).bind λc=>if(decide (c.1<0))=true then some (.inr (false,(zdV a),()))else let h:=(IntKind.wrap .i64 (c.1+4));zcv h (zdV a)else(zaY a.rest 0).bind λi=>(if(i !=32)=true then(zaY a.rest 0).bind λj=>(if(decide (j<9))=true then some true else(zaY a.rest 0).bind λk=>some (decide (k>13))).bind λl=>some l else some false).bind λm=>if m=true then some (.inr (true,(zdV a),()))else zcv 1 (zdV a)else some (.inr (true,(zdV a),()))
def zhg(x:zZ):Option (Bool×zZ×Unit):=Lp.loop zaw (⟨x.src,x.rest,false⟩,())
def zvu:Shape:=⟨[(0,.ptr 0 0)],[.whole 69 69]⟩
def zmo:List zI:=[⟨false,.bool,[.whole 69 69]⟩]
def zvs:=callee Y [] zvu zmo (λz=>zhg z.1)
def zvi:zY Y (zO Y zmo):=(.loop [[7,5,1,2,2,9,2],[8,5,1,2,2,9,2],[6,1,2,2,9,2],[2,2,2,9,2],[10,2]] ⟨[(0,.ptr 0 0)],[.whole 69 69]⟩ (zaw) (.join [[1,2,2,5,2,7,5,1,2,2,9,2],[2,2,2,5,2,7,5,1,2,2,9,2],[6,2,7,5,1,2,2,9,2],[8,5,1,2,2,9,2],[6,1,2,2,9,2],[2,2,2,9,2],[10,2]] ⟨[(0,.ptr 0 0),(3,.int .i64)],[.whole 69 69]⟩ (u2 zcv) .nil) .nil)
theorem ztW:K8 32 (zvs):=f8 zvi Tryz.func32 (.cons zwN (.cons zyf (.cons zsj (.cons zul .nil)))) ⟨λz=>by kernel_rfl,⟨λz=>by kernel_rfl,⟨⟩⟩,trivial⟩
def zoH(s:List zu):Option ((List zu)×Unit):=(zGz s 0 ((s.length:Nat):Int) ((s.length:Nat):Int)).bind λa=>some (a,())
def zFK:Shape:=⟨[(0,.sl 36)],[]⟩
def zxw:List zI:=[⟨false,.sl 36,[]⟩]
def zFz:=callee Y [] zFK zxw (λz=>zoH z.1)
def zFH:zY Y (zO Y zxw):= .nil
theorem zEd:K8 33 (zFz):=f8 zFH Tryz.func33 .nil trivial
def ziC(c:Int):Option (Bool×Unit):=let a:=(IntKind.wrap .u8 ((BitVec.ofInt 8 c|||BitVec.ofInt 8 32).toNat));let b:=((decide (a>=97))&&(decide ((IntKind.wrap .u8 ((BitVec.ofInt 8 c|||BitVec.ofInt 8 32).toNat))<=122)));let d:=((b||(c==95))||(c==36));some (d,())
def zDy:Shape:=⟨[(0,.int .u8)],[]⟩
def zuA:List zI:=[⟨false,.bool,[]⟩]
def zDT:=callee Y [] zDy zuA (λz=>ziC z.1)
def zD4:zY Y (zO Y zuA):= .nil
theorem zmU:K8 67 (zDT):=f8 zD4 Tryz.func67 .nil trivial
def zlH(c:Int):Option (Bool×Unit):=let a:=((decide (c>=48))&&(decide (c<=57)));some (a,())
def zFG:Shape:=⟨[(0,.int .u8)],[]⟩
def zxB:List zI:=[⟨false,.bool,[]⟩]
def zFI:=callee Y [] zFG zxB (λz=>zlH z.1)
def zFu:zY Y (zO Y zxB):= .nil
theorem zuC:K8 70 (zFI):=f8 zFu Tryz.func70 .nil trivial
def zg0:Str×Int×Int×Unit->Option ((Str×Int×Int×Unit)⊕(Int×Unit))| (b,c,a,())=>if(decide (a<c))=true then(zaY b a).bind λd=>(ziC d).bind λe=>if(!e.1)=true then(zaY b a).bind λf=>(zlH f).bind λg=>if(!g.1)=true then some (.inr (a,()))else let h:=(IntKind.wrap .i64 (a+1));some (.inl (b,c,h,()))else let i:=(IntKind.wrap .i64 (a+1));some (.inl (b,c,i,()))else some (.inr (((b.length:Nat):Int),()))
def zpi(s:Str):Option (Int×Unit):=Lp.loop zg0 (s,((s.length:Nat):Int),0,())
def zJF:Shape:=⟨[(0,.str)],[]⟩
def zA5:List zI:=[⟨false,.int .i64,[]⟩]
def zJV:=callee Y [] zJF zA5 (λz=>zpi z.1)
def zJa:zY Y (zO Y zA5):=(.loop [[7,5,2,1,2],[8,5,2,1,2],[6,2,1,2],[2,2]] ⟨[(0,.str),(5,.int .i64),(6,.int .i64)],[]⟩ (zg0) .nil .nil)
theorem zr4:K8 68 (zJV):=f8 zJa Tryz.func68 (.cons zmU (.cons zuC .nil)) ⟨λz=>by kernel_rfl,trivial,trivial⟩
def zcO(t:Str)(a:Str):Option (Bool):=if t.length<4294967281 then some (Lib.contains t a)else none
theorem zcO.ok(t:Str)(sub:Str)(r:Bool)(h0:zcO t sub=some r)(w0:World)(F0:Heap)(hv:F0.Sub w0)(hG:zam F0)(hg:SV.zaD F0 [.v (.string ⟨⟨t⟩⟩),.v (.string ⟨⟨sub⟩⟩)])(ρ:Nat->Nat):
  Calls Tryz.prog 129 (SV.zaj ρ [.v (.string ⟨⟨t⟩⟩),.v (.string ⟨⟨sub⟩⟩)]).toArray w0 (zdq w0 F0 λs=>s= .v (.bool r)):=by
 unfold zcO at h0
 split at h0
 ·rename_i hc
  cases h0
  obtain⟨m,hm⟩:=hG.maxLen
  refine(Tryz.strings_Contains ⟨⟨t⟩⟩ ⟨⟨sub⟩⟩ m w0 hc (ze3 hv hm)).mono λe w' h=>?_
  exact zdq.pure (s:= .v _) hv h.1 h.2 trivial rfl rfl
 ·cases h0
def strings_Contains(t:Str)(a:Str):Option (Bool×Unit):=ziX (λr=>(r,())) (zcO t a)
def zo3:Shape:=⟨[(0,.str),(1,.str)],[]⟩
def zz5:List zI:=[⟨false,.bool,[]⟩]
def zz9:=callee Y [] zo3 zz5 (λz=>strings_Contains z.1 z.2.1)
theorem zhl:K8 129 zz9:=
 COk.ext (l:=zo3.l) ⟨⟨_,Tryz.func129,by kernel_rfl,rfl⟩⟩ ⟨rfl,rfl⟩ rfl λz zo h=>⟨_,_,rfl,rfl,λw F hG hv=>by
  obtain⟨r,hr,rfl⟩:=zgO h
  exact zcO.ok z.1 z.2.1 r hr w F hv hG (by simp[SV.zaD,SV.good]) (λ_=>0)⟩
def zgN(e:Str)(s:Str):Option (Bool×Unit):=if(!(s==[]))=true then(strings_Contains s [32]).bind λa=>if(!a.1)=true then(zjR [32] s).bind λb=>(zjR b [32]).bind λc=>(strings_Contains e c).bind λd=>some (d.1,())else some (false,())else some (false,())
def zFx:Shape:=⟨[(0,.str),(1,.str)],[]⟩
def zxA:List zI:=[⟨false,.bool,[]⟩]
def zFv:=callee Y [] zFx zxA (u2 zgN)
def zFL:zY Y (zO Y zxA):= .nil
theorem zuQ:K8 73 (zFv):=f8 zFL Tryz.func73 (.cons zhl .nil) trivial
def zmM(s:Str):Option (Bool×Unit):=(zgN [32,98,114,101,97,107,32,99,97,115,101,32,99,97,116,99,104,32,99,108,97,115,115,32,99,111,110,115,116,32,99,111,110,116,105,110,117,101,32,100,101,98,117,103,103,101,114,32,100,101,102,97,117,108,116,32,100,101,108,101,116,101,32,100,111,32,101,108,115,101,32,101,110,117,109,32,101,120,112,111,114,116,32,101,120,116,101,110,100,115,32,102,97,108,115,101,32,102,105,110,97,108,108,121,32,102,111,114,32,102,117,110,99,116,105,111,110,32,105,102,32,105,109,112,108,101,109,101,110,116,115,32,105,109,112,111,114,116,32,105,110,32,105,110,115,116,97,110,99,101,111,102,32,105,110,116,101,114,102,97,99,101,32,108,101,116,32,110,101,119,32,110,117,108,108,32,112,97,99,107,97,103,101,32,112,114,105,118,97,116,101,32,112,114,111,116,101,99,116,101,100,32,112,117,98,108,105,99,32,114,101,116,117,114,110,32,115,116,97,116,105,99,32,115,117,112,101,114,32,115,119,105,116,99,104,32,116,104,105,115,32,116,104,114,111,119,32,116,114,117,101,32,116,114,121,32,116,121,112,101,111,102,32,118,97,114,32,118,111,105,100,32,119,104,105,108,101,32,119,105,116,104,32,121,105,101,108,100,32] s).bind λa=>some (a.1,())
def zEs:Shape:=⟨[(0,.str)],[]⟩
def zvn:List zI:=[⟨false,.bool,[]⟩]
def zDY:=callee Y [] zEs zvn (λz=>zmM z.1)
def zEe:zY Y (zO Y zvn):= .nil
theorem ztm:K8 69 (zDY):=f8 zEe Tryz.func69 (.cons zuQ .nil) trivial
def zbw(c:Int):Option (Int×Unit):=let a:=(IntKind.wrap .u8 ((BitVec.ofInt 8 c|||BitVec.ofInt 8 32).toNat));some (a,())
def zDf:Shape:=⟨[(0,.int .u8)],[]⟩
def zs6:List zI:=[⟨false,.int .u8,[]⟩]
def zDv:=callee Y [] zDf zs6 (λz=>zbw z.1)
def zCv:zY Y (zO Y zs6):= .nil
theorem zrE:K8 182 (zDv):=f8 zCv Tryz.func182 .nil trivial
def zfi(a:Str)(c:Int)(b:Int)(d:Bool):zTJ:=(zaY a b).bind λe=>if(e==95)=true then if(c !=48)=true then some (.inr (false,()))else let f:=(IntKind.wrap .i64 (b+1));some (.inl (a,95,f,d,()))else if(c==95)=true then some (.inr (false,()))else let g:=(IntKind.wrap .i64 (b+1));some (.inl (a,33,g,d,()))
def zcP:Str×Int×Int×Bool×Unit->zTJ| (a,d,b,c,())=>let e:=(decide (b< ((a.length:Nat):Int)));if e=true then(zaY a b).bind λf=>(if(decide (48<=f))=true then(zaY a b).bind λg=>some (decide (g<=57))else some false).bind λh=>if h=true then let i:=(IntKind.wrap .i64 (b+1));some (.inl (a,48,i,c,()))else if c=true then(zaY a b).bind λj=>(zbw j).bind λk=>if(decide (97<=k.1))=true then(zaY a b).bind λl=>(zbw l).bind λm=>if(decide (m.1<=102))=true then let n:=(IntKind.wrap .i64 (b+1));some (.inl (a,48,n,c,()))else zfi a d b c else zfi a d b c else zfi a d b c else some (.inr ((d !=95),()))
def zln(a:Str)(b:Int)(c:Int)(d:Bool):Option (Bool×Unit):=let e:=(decide (((a.length:Nat):Int)>=2));(if e=true then(zaY a 0).bind λf=>some (f==48)else some false).bind λg=>if g=true then(zaY a 1).bind λh=>(zbw h).bind λi=>if(i.1==98)=true then(zaY a 1).bind λj=>(zbw j).bind λk=>Lp.loop zcP (a,48,2,(k.1==120),())else(zaY a 1).bind λl=>(zbw l).bind λm=>if(m.1==111)=true then(zaY a 1).bind λn=>(zbw n).bind λo=>Lp.loop zcP (a,48,2,(o.1==120),())else(zaY a 1).bind λp=>(zbw p).bind λq=>if(q.1==120)=true then(zaY a 1).bind λr=>(zbw r).bind λs=>Lp.loop zcP (a,48,2,(s.1==120),())else Lp.loop zcP (a,b,c,d,())else Lp.loop zcP (a,b,c,d,())
def zhC(a:Str)(b:Int)(c:Int):Option (Bool×Unit):=zln a b c false
def znw(s:Str):Option (Bool×Unit):=let a:=(decide (((s.length:Nat):Int)>=1));(if a=true then(zaY s 0).bind λb=>(if(b==45)=true then some true else(zaY s 0).bind λc=>some (c==43)).bind λd=>some d else some false).bind λe=>if e=true then(zaL s 1 ((s.length:Nat):Int)).bind λf=>zhC f 94 0 else zhC s 94 0
def ztN:Shape:=⟨[(0,.str)],[]⟩
def zlL:List zI:=[⟨false,.bool,[]⟩]
def ztL:=callee Y [] ztN zlL (λz=>znw z.1)
def ztv:zY Y (zO Y zlL):=(.join [[1,2,2,2,2],[2,2,2,2,2]] ⟨[(0,.str),(3,.int .i32),(4,.int .i64)],[]⟩ (u3 zhC) (.join [[1,1,2,2,2,2,2],[2,1,2,2,2,2,2],[2,2,2,2,2,2]] ⟨[(0,.str),(3,.int .i32),(4,.int .i64),(5,.bool)],[]⟩ (u4 zln) (.loop [[7,5,1,2,2,2,2,2,2],[8,5,1,2,2,2,2,2,2],[6,1,2,2,2,2,2,2],[2,2,2,2,2,2,2]] ⟨[(0,.str),(3,.int .i32),(4,.int .i64),(5,.bool)],[]⟩ (zcP) (.join [[1,1,2,5,1,2,7,5,1,2,2,2,2,2,2],[2,1,2,5,1,2,7,5,1,2,2,2,2,2,2],[2,2,5,1,2,7,5,1,2,2,2,2,2,2],[6,1,2,7,5,1,2,2,2,2,2,2],[2,2,7,5,1,2,2,2,2,2,2],[8,5,1,2,2,2,2,2,2],[6,1,2,2,2,2,2,2],[2,2,2,2,2,2,2]] ⟨[(0,.str),(3,.int .i32),(4,.int .i64),(5,.bool)],[]⟩ (u4 zfi) .nil) .nil)))
theorem zsN:K8 183 (ztL):=f8 ztv Tryz.func183 (.cons zrE .nil) ⟨λz=>by kernel_rfl,⟨λz=>by kernel_rfl,⟨λz=>by kernel_rfl,⟨λz=>by kernel_rfl,⟨⟩⟩,trivial⟩⟩⟩
def zgk(c:Int)(d:Bool)(e:Str)(f:Int)(a:Int)(g:Bool)(h:Int)(b:Int)(i:List UInt8)(j:Int)(k:Int):OT9:=let l:=((decide (b<h))||(decide (b>a)));if l=true then some (.inr (a,(zad.code 156 1),()))else let m:=(IntKind.wrap .i64 (k+1));some (.inl (c,d,e,f,a,g,b,i,j,m,()))
def zf9(b:Int)(c:Bool)(d:Str)(e:Int)(f:Int)(g:Bool)(a:Int)(h:Int)(i:List UInt8)(j:Int)(k:Int):OT9:=let l:=(IntKind.wrap .u64 (a+(IntKind.wrap .u64 h)));zgk b c d e f g a l i j k
def zgj(a:Int)(b:Bool)(c:Str)(d:Int)(e:Int)(f:Bool)(g:Int)(h:Int)(i:List UInt8)(j:Int)(k:Int):OT9:=let l:=(IntKind.wrap .u64 (g*(IntKind.wrap .u64 a)));zf9 a b c d e f l h i j k
def zgi(d:Int)(e:Bool)(f:Str)(a:Int)(b:Int)(g:Bool)(c:Int)(h:Int)(i:List UInt8)(j:Int)(k:Int):OT9:=if(decide (c>=a))=true then some (.inr (b,(zad.code 156 1),()))else zgj d e f a b g c h i j k
def zc1(a:Int)(c:Bool)(d:Str)(e:Int)(f:Int)(g:Bool)(h:Int)(b:Int)(i:List UInt8)(j:Int)(k:Int):OT9:=let l:=(decide (b>=(IntKind.wrap .u8 a)));if l=true then some (.inr (0,(zad.code 156 2),()))else zgi a c d e f g h b i j k
def zba:Int×Bool×Str×Int×Int×Bool×Int×(List UInt8)×Int×Int×Unit->OT9| (h,d,e,i,j,k,b,f,g,c,())=>if(decide (c<g))=true then(zN f c).bind λa=>let l:=(((a.toNat:Nat):Int)==95);if(l&&d)=true then let m:=(IntKind.wrap .i64 (c+1));some (.inl (h,d,e,i,j,true,b,f,g,m,()))else let n:=(decide (48<=((a.toNat:Nat):Int)));let o:=(n&&(decide (((a.toNat:Nat):Int)<=57)));if o=true then let p:=(IntKind.wrap .u8 (((a.toNat:Nat):Int) -48));zc1 h d e i j k b p f g c else(zbw ((a.toNat:Nat):Int)).bind λq=>if(decide (97<=q.1))=true then(zbw ((a.toNat:Nat):Int)).bind λr=>if(decide (r.1<=122))=true then(zbw ((a.toNat:Nat):Int)).bind λs=>let t:=(IntKind.wrap .u8 (s.1 -97));let u:=(IntKind.wrap .u8 (t+10));zc1 h d e i j k b u f g c else some (.inr (0,(zad.code 156 2),()))else some (.inr (0,(zad.code 156 2),()))else if k=true then(znw e).bind λv=>if(!v.1)=true then some (.inr (0,(zad.code 156 2),()))else some (.inr (b,zad.nil,()))else some (.inr (b,zad.nil,()))
def zjv(a:Str)(b:Int)(c:Int)(d:Bool)(e:Str):Option (Int×zad×Unit):=(zIP .u64 18446744073709551615 (IntKind.wrap .u64 b)).bind λf=>let g:=(IntKind.wrap .u64 (f+1));(zBV .u64 1 (IntKind.wrap .u64 c)).bind λh=>let i:=(IntKind.wrap .u64 (h -1));let j:=((a.length:Nat):Int);Lp.loop zba (b,d,e,g,i,false,0,a,j,0,())
def zga(a:Str)(b:Int)(c:Int)(d:Bool)(e:Str)(f:Int):Option (Int×zad×Unit):=if(f==16)=true then(zBV .u64 1 (IntKind.wrap .u64 c)).bind λg=>let h:=(IntKind.wrap .u64 (g -1));let i:=((a.length:Nat):Int);Lp.loop zba (b,d,e,1152921504606846976,h,false,0,a,i,0,())else zjv a b c d e
def zgh(a:Str)(b:Int)(c:Int)(d:Bool)(e:Str)(f:Int):Option (Int×zad×Unit):=if(f==10)=true then(zBV .u64 1 (IntKind.wrap .u64 c)).bind λg=>let h:=(IntKind.wrap .u64 (g -1));Lp.loop zba (b,d,e,1844674407370955162,h,false,0,a,((a.length:Nat):Int),0,())else zga a b c d e f
def zf8(b:Str)(a:Int)(c:Int)(d:Bool)(e:Str):Option (Int×zad×Unit):=zgh b a c d e a
def zef(a:Str)(b:Int)(c:Int)(d:Bool)(e:Str):Option (Int×zad×Unit):=zf8 a b c d e
def zgd(b:Str)(c:Int)(a:Int)(d:Bool)(e:Str):Option (Int×zad×Unit):=let f:=((decide (a<0))||(decide (a>64)));if f=true then some (0,(zad.code 156 4),())else zef b c a d e
def zju(a:Str)(b:Int)(c:Bool)(d:Str):Option (Int×zad×Unit):=zef a b 64 c d
def zbD(a:Str)(b:Int)(c:Int)(d:Bool)(e:Str):Option (Int×zad×Unit):=if(c==0)=true then zju a b d e else zgd a b c d e
def zkb(a:Str)(b:Int)(c:Int)(d:Bool)(e:Str):Option (Int×zad×Unit):=(zaL a 1 ((a.length:Nat):Int)).bind λf=>zbD f b c d e
def zgF(a:Str)(b:Int)(c:Bool)(d:Str):Option (Int×zad×Unit):=zkb a 8 b c d
def zke(a:Str)(b:Int)(c:Int)(d:Bool)(e:Str):Option (Int×zad×Unit):=(zaL a 2 ((a.length:Nat):Int)).bind λf=>zbD f b c d e
def zj8(a:Str)(b:Int)(c:Bool)(d:Str):Option (Int×zad×Unit):=zke a 16 b c d
def zgy(a:Str)(b:Int)(c:Bool)(d:Str):Option (Int×zad×Unit):=let e:=(decide (((a.length:Nat):Int)>=3));if e=true then(zaY a 1).bind λf=>(zbw f).bind λg=>if(g.1==120)=true then zj8 a b c d else zgF a b c d else zgF a b c d
def zj7(a:Str)(b:Int)(c:Int)(d:Bool)(e:Str):Option (Int×zad×Unit):=(zaL a 2 ((a.length:Nat):Int)).bind λf=>zbD f b c d e
def zko(a:Str)(b:Int)(c:Bool)(d:Str):Option (Int×zad×Unit):=zj7 a 8 b c d
def zgH(a:Str)(b:Int)(c:Bool)(d:Str):Option (Int×zad×Unit):=let e:=(decide (((a.length:Nat):Int)>=3));if e=true then(zaY a 1).bind λf=>(zbw f).bind λg=>if(g.1==111)=true then zko a b c d else zgy a b c d else zgy a b c d
def zfK(t:Str)(o:Int)(A:Int):Option (Int×zad×Unit):=if(t==[])=true then some (0,(zad.code 156 2),())else let a:=((decide (2<=o))&&(decide (o<=36)));if a=true then zbD t o A (o==0) t else if(o==0)=true then(zaY t 0).bind λb=>if(b==48)=true then let c:=(decide (((t.length:Nat):Int)>=3));if c=true then(zaY t 1).bind λd=>(zbw d).bind λe=>if(e.1==98)=true then(zaL t 2 ((t.length:Nat):Int)).bind λf=>zbD f 2 A (o==0) t else zgH t A (o==0) t else zgH t A (o==0) t else zbD t 10 A (o==0) t else some (0,(zad.code 156 3),())
def zso:Shape:=⟨[(0,.str),(1,.int .i64),(2,.int .i64)],[]⟩
def zkQ:List zI:=[⟨false,.tup [.int .u64,.err],[]⟩]
def zrF:=callee Y [] zso zkQ (u3 zfK)
def zsr:zY Y (zO Y zkQ):=(.join [[1,4,2,5,3,2,2,3,2,4,2,5,1,2,2,2,2],[2,4,2,5,3,2,2,3,2,4,2,5,1,2,2,2,2],[6,3,2,2,3,2,4,2,5,1,2,2,2,2],[6,1,2,2,2,2],[2,2,2,2,2]] ⟨[(0,.str),(2,.int .i64),(8,.bool),(9,.str)],[]⟩ (u4 zgH) (.join [[1,3,2,4,2,5,3,2,2,3,2,4,2,5,1,2,2,2,2],[2,3,2,4,2,5,3,2,2,3,2,4,2,5,1,2,2,2,2],[6,3,2,2,3,2,4,2,5,1,2,2,2,2],[6,1,2,2,2,2],[2,2,2,2,2]] ⟨[(0,.str),(2,.int .i64),(8,.bool),(9,.str)],[]⟩ (u4 zko) (.join [[2,3,2,4,2,5,3,2,2,3,2,4,2,5,1,2,2,2,2],[6,3,2,2,3,2,4,2,5,1,2,2,2,2],[6,1,2,2,2,2],[2,2,2,2,2]] ⟨[(0,.str),(1,.int .i64),(2,.int .i64),(8,.bool),(9,.str)],[]⟩ (u5 zj7) (.join [[1,4,2,4,2,5,3,2,2,3,2,4,2,5,1,2,2,2,2],[2,4,2,4,2,5,3,2,2,3,2,4,2,5,1,2,2,2,2],[6,3,2,2,3,2,4,2,5,1,2,2,2,2],[6,1,2,2,2,2],[2,2,2,2,2]] ⟨[(0,.str),(2,.int .i64),(8,.bool),(9,.str)],[]⟩ (u4 zgy) (.join [[1,3,2,4,2,4,2,5,3,2,2,3,2,4,2,5,1,2,2,2,2],[2,3,2,4,2,4,2,5,3,2,2,3,2,4,2,5,1,2,2,2,2],[6,3,2,2,3,2,4,2,5,1,2,2,2,2],[6,1,2,2,2,2],[2,2,2,2,2]] ⟨[(0,.str),(2,.int .i64),(8,.bool),(9,.str)],[]⟩ (u4 zj8) (.join [[2,3,2,4,2,4,2,5,3,2,2,3,2,4,2,5,1,2,2,2,2],[6,3,2,2,3,2,4,2,5,1,2,2,2,2],[6,1,2,2,2,2],[2,2,2,2,2]] ⟨[(0,.str),(1,.int .i64),(2,.int .i64),(8,.bool),(9,.str)],[]⟩ (u5 zke) (.join [[1,4,2,4,2,4,2,5,3,2,2,3,2,4,2,5,1,2,2,2,2],[2,4,2,4,2,4,2,5,3,2,2,3,2,4,2,5,1,2,2,2,2],[6,3,2,2,3,2,4,2,5,1,2,2,2,2],[6,1,2,2,2,2],[2,2,2,2,2]] ⟨[(0,.str),(2,.int .i64),(8,.bool),(9,.str)],[]⟩ (u4 zgF) (.join [[2,4,2,4,2,4,2,5,3,2,2,3,2,4,2,5,1,2,2,2,2],[6,3,2,2,3,2,4,2,5,1,2,2,2,2],[6,1,2,2,2,2],[2,2,2,2,2]] ⟨[(0,.str),(1,.int .i64),(2,.int .i64),(8,.bool),(9,.str)],[]⟩ (u5 zkb) (.join [[1,1,2,2,2,2,2],[2,1,2,2,2,2,2],[2,2,2,2,2,2]] ⟨[(0,.str),(1,.int .i64),(2,.int .i64),(8,.bool),(9,.str)],[]⟩ (u5 zbD) (.join [[3,2,1,2,2,2,2,2],[2,2,2,2,2,2]] ⟨[(0,.str),(1,.int .i64),(8,.bool),(9,.str)],[]⟩ (u4 zju) (.join [[1,4,2,1,2,2,2,2,2],[2,4,2,1,2,2,2,2,2],[2,2,2,2,2,2]] ⟨[(0,.str),(1,.int .i64),(2,.int .i64),(8,.bool),(9,.str)],[]⟩ (u5 zgd) (.join [[1,2,2,2,2,2,2],[2,2,2,2,2,2,2]] ⟨[(0,.str),(1,.int .i64),(2,.int .i64),(8,.bool),(9,.str)],[]⟩ (u5 zef) (.join [[1,1,2,2,2,2,2,2,2],[2,1,2,2,2,2,2,2,2],[2,2,2,2,2,2,2,2]] ⟨[(0,.str),(1,.int .i64),(2,.int .i64),(8,.bool),(9,.str)],[]⟩ (u5 zf8) (.join [[1,5,2,1,2,2,2,2,2,2,2],[2,5,2,1,2,2,2,2,2,2,2],[6,2,1,2,2,2,2,2,2,2],[2,2,2,2,2,2,2,2]] ⟨[(0,.str),(1,.int .i64),(2,.int .i64),(8,.bool),(9,.str),(85,.int .i64)],[]⟩ (u6 zgh) (.join [[1,4,2,5,2,1,2,2,2,2,2,2,2],[2,4,2,5,2,1,2,2,2,2,2,2,2],[6,2,1,2,2,2,2,2,2,2],[2,2,2,2,2,2,2,2]] ⟨[(0,.str),(1,.int .i64),(2,.int .i64),(8,.bool),(9,.str),(85,.int .i64)],[]⟩ (u6 zga) (.join [[4,2,4,2,5,2,1,2,2,2,2,2,2,2],[6,2,1,2,2,2,2,2,2,2],[2,2,2,2,2,2,2,2]] ⟨[(0,.str),(1,.int .i64),(2,.int .i64),(8,.bool),(9,.str)],[]⟩ (u5 zjv) (.loop [[7,5,2,1,2,2,2,2,2,2,2,2,2,2,2],[8,5,2,1,2,2,2,2,2,2,2,2,2,2,2],[6,2,1,2,2,2,2,2,2,2,2,2,2,2],[2,2,2,2,2,2,2,2,2,2,2,2]] ⟨[(1,.int .i64),(8,.bool),(9,.str),(10,.int .u64),(11,.int .u64),(12,.bool),(13,.int .u64),(99,.sl 5),(100,.int .i64),(101,.int .i64)],[]⟩ (zba) (.join [[1,1,2,2,2,5,1,2,2,7,5,2,1,2,2,2,2,2,2,2,2,2,2,2],[2,1,2,2,2,5,1,2,2,7,5,2,1,2,2,2,2,2,2,2,2,2,2,2],[2,2,2,2,5,1,2,2,7,5,2,1,2,2,2,2,2,2,2,2,2,2,2],[6,1,2,2,7,5,2,1,2,2,2,2,2,2,2,2,2,2,2],[2,2,2,7,5,2,1,2,2,2,2,2,2,2,2,2,2,2],[8,5,2,1,2,2,2,2,2,2,2,2,2,2,2],[6,2,1,2,2,2,2,2,2,2,2,2,2,2],[2,2,2,2,2,2,2,2,2,2,2,2]] ⟨[(1,.int .i64),(8,.bool),(9,.str),(10,.int .u64),(11,.int .u64),(12,.bool),(13,.int .u64),(16,.int .u8),(99,.sl 5),(100,.int .i64),(101,.int .i64)],[]⟩ (u11 zc1) (.join [[1,1,2,2,2,2,5,1,2,2,7,5,2,1,2,2,2,2,2,2,2,2,2,2,2],[2,1,2,2,2,2,5,1,2,2,7,5,2,1,2,2,2,2,2,2,2,2,2,2,2],[2,2,2,2,2,5,1,2,2,7,5,2,1,2,2,2,2,2,2,2,2,2,2,2],[6,1,2,2,7,5,2,1,2,2,2,2,2,2,2,2,2,2,2],[2,2,2,7,5,2,1,2,2,2,2,2,2,2,2,2,2,2],[8,5,2,1,2,2,2,2,2,2,2,2,2,2,2],[6,2,1,2,2,2,2,2,2,2,2,2,2,2],[2,2,2,2,2,2,2,2,2,2,2,2]] ⟨[(1,.int .i64),(8,.bool),(9,.str),(10,.int .u64),(11,.int .u64),(12,.bool),(13,.int .u64),(16,.int .u8),(99,.sl 5),(100,.int .i64),(101,.int .i64)],[]⟩ (u11 zgi) (.join [[1,2,2,2,2,2,5,1,2,2,7,5,2,1,2,2,2,2,2,2,2,2,2,2,2],[2,2,2,2,2,2,5,1,2,2,7,5,2,1,2,2,2,2,2,2,2,2,2,2,2],[6,1,2,2,7,5,2,1,2,2,2,2,2,2,2,2,2,2,2],[2,2,2,7,5,2,1,2,2,2,2,2,2,2,2,2,2,2],[8,5,2,1,2,2,2,2,2,2,2,2,2,2,2],[6,2,1,2,2,2,2,2,2,2,2,2,2,2],[2,2,2,2,2,2,2,2,2,2,2,2]] ⟨[(1,.int .i64),(8,.bool),(9,.str),(10,.int .u64),(11,.int .u64),(12,.bool),(13,.int .u64),(16,.int .u8),(99,.sl 5),(100,.int .i64),(101,.int .i64)],[]⟩ (u11 zgj) (.join [[1,2,2,2,2,2,2,5,1,2,2,7,5,2,1,2,2,2,2,2,2,2,2,2,2,2],[2,2,2,2,2,2,2,5,1,2,2,7,5,2,1,2,2,2,2,2,2,2,2,2,2,2],[6,1,2,2,7,5,2,1,2,2,2,2,2,2,2,2,2,2,2],[2,2,2,7,5,2,1,2,2,2,2,2,2,2,2,2,2,2],[8,5,2,1,2,2,2,2,2,2,2,2,2,2,2],[6,2,1,2,2,2,2,2,2,2,2,2,2,2],[2,2,2,2,2,2,2,2,2,2,2,2]] ⟨[(1,.int .i64),(8,.bool),(9,.str),(10,.int .u64),(11,.int .u64),(12,.bool),(13,.int .u64),(16,.int .u8),(99,.sl 5),(100,.int .i64),(101,.int .i64)],[]⟩ (u11 zf9) (.join [[1,1,2,2,2,2,2,2,2,5,1,2,2,7,5,2,1,2,2,2,2,2,2,2,2,2,2,2],[2,1,2,2,2,2,2,2,2,5,1,2,2,7,5,2,1,2,2,2,2,2,2,2,2,2,2,2],[2,2,2,2,2,2,2,2,5,1,2,2,7,5,2,1,2,2,2,2,2,2,2,2,2,2,2],[6,1,2,2,7,5,2,1,2,2,2,2,2,2,2,2,2,2,2],[2,2,2,7,5,2,1,2,2,2,2,2,2,2,2,2,2,2],[8,5,2,1,2,2,2,2,2,2,2,2,2,2,2],[6,2,1,2,2,2,2,2,2,2,2,2,2,2],[2,2,2,2,2,2,2,2,2,2,2,2]] ⟨[(1,.int .i64),(8,.bool),(9,.str),(10,.int .u64),(11,.int .u64),(12,.bool),(13,.int .u64),(17,.int .u64),(99,.sl 5),(100,.int .i64),(101,.int .i64)],[]⟩ (u11 zgk) .nil))))) .nil)))))))))))))))))
theorem zqk:K8 162 (zrF):=f8 zsr Tryz.func162 (.cons zrE (.cons zsN .nil)) ⟨λz=>by kernel_rfl,⟨λz=>by kernel_rfl,⟨λz=>by kernel_rfl,⟨λz=>by kernel_rfl,⟨λz=>by kernel_rfl,⟨λz=>by kernel_rfl,⟨λz=>by kernel_rfl,⟨λz=>by kernel_rfl,⟨λz=>by kernel_rfl,⟨λz=>by kernel_rfl,⟨λz=>by kernel_rfl,⟨λz=>by kernel_rfl,⟨λz=>by kernel_rfl,⟨λz=>by kernel_rfl,⟨λz=>by kernel_rfl,⟨λz=>by kernel_rfl,⟨λz=>by kernel_rfl,⟨λz=>by kernel_rfl,⟨λz=>by kernel_rfl,⟨λz=>by kernel_rfl,⟨λz=>by kernel_rfl,⟨λz=>by kernel_rfl,⟨⟩⟩⟩⟩⟩⟩,trivial⟩⟩⟩⟩⟩⟩⟩⟩⟩⟩⟩⟩⟩⟩⟩⟩⟩
def zhV(f_ s_:Str)(base bits:Int)(a:zad):Option (zad×Unit):=if s_.length<=281474976710656/\(a= .code 156 2\/a= .code 156 1)then some (.opq,())else none
def zpZ:Shape:=⟨[(0,.str),(1,.str),(2,.int .i64),(3,.int .i64),(4,.err)],[]⟩
def zAS:List zI:=[⟨false,.err,[]⟩]
def zAK:=callee Y [] zpZ zAS (λz=>zhV z.1 z.2.1 z.2.2.1 z.2.2.2.1 z.2.2.2.2.1)
theorem zvB(f_ s_:Str)(base bits:Int)(er:zad)(q:TypeId×Value)(r:zad×Unit)(hN:zhV f_ s_ base bits er=some r)(w:World)(F:Heap)(hv:F.Sub w)(hG:zam F):
  Calls Tryz.prog 163 #[.string ⟨⟨f_⟩⟩,.string ⟨⟨s_⟩⟩,.int .i64 base,.int .i64 bits,znB er q] w (zdq w F λs=>∃q,s= .v (znB r.1 q)):=by
 unfold zhV at hN
 split at hN
 ·rename_i hc
  cases hN
  obtain⟨hc,rfl|rfl⟩:=hc
  ·obtain⟨te,pe,hm⟩:=hG.zIp
   refine(Tryz.strconv_toError_syntax ⟨⟨f_⟩⟩ ⟨⟨s_⟩⟩ base bits _ w hc (ze3 hv hm) (.inr ⟨te,pe,rfl⟩)).mono λe w' h=>?_
   obtain⟨n,h1,_,_,h2⟩:=h
   exact zdq.below (s:= .v (.iface _ (.pointer (some ⟨n,0,none⟩)))) hv h1 h2 trivial rfl ⟨(_,_),rfl⟩
  ·obtain⟨te,pe,hm⟩:=hG.zGE
   refine(Tryz.strconv_toError_range ⟨⟨f_⟩⟩ ⟨⟨s_⟩⟩ base bits _ w hc (ze3 hv hm) (.inr ⟨te,pe,rfl⟩)).mono λe w' h=>?_
   obtain⟨n,h1,_,_,h2⟩:=h
   exact zdq.below (s:= .v (.iface _ (.pointer (some ⟨n,0,none⟩)))) hv h1 h2 trivial rfl ⟨(_,_),rfl⟩
 ·cases hN
theorem zzn:K8 163 zAK:=
 COk.zPh (l:=zpZ.l) ⟨⟨_,Tryz.func163,by kernel_rfl,rfl⟩⟩ ⟨rfl,rfl⟩ rfl λz zo h w F vals hG hv hr=>by
  obtain⟨u1,r1,rfl,q1,hr⟩:=hr.inv
  obtain⟨u2,r2,rfl,q2,hr⟩:=hr.inv
  obtain⟨u3,r3,rfl,q3,hr⟩:=hr.inv
  obtain⟨u4,r4,rfl,q4,hr⟩:=hr.inv
  obtain⟨u5,r5,rfl,q5,hr⟩:=hr.inv
  have hnil:=hr.ze7
  subst hnil
  have e1:=q1.zbg
  have e2:=q2.zbg
  have e3:=q3.zbg
  have e4:=q4.zbg
  subst e1
  subst e2
  subst e3
  subst e4
  have key: ∀(e:zad) (u:Value),Rel Y F [] (.err e) u->∃q,u=znB e q:=λe u h=>by cases h with| @err e q=>exact⟨q,rfl⟩
  obtain⟨q,rfl⟩:=key _ _ q5
  refine(zvB z.1 z.2.1 z.2.2.1 z.2.2.2.1 z.2.2.2.2.1 q zo h w F hv hG).mono λe w' hh=>?_
  obtain⟨F',s,rfl,hgs,hu,hst,q,rfl⟩:=hh
  exact⟨F',_,rfl,.err,hst⟩
def za1(s:Str)(b:Int)(c:Int):Option (Int×zad×Unit):=(zfK s b c).bind λa=>if(!(a.2.1).isNil)=true then(zhV [80,97,114,115,101,85,105,110,116] s b c a.2.1).bind λd=>some (a.1,d.1,())else some (a.1,zad.nil,())
def zyq:Shape:=⟨[(0,.str),(1,.int .i64),(2,.int .i64)],[]⟩
def znR:List zI:=[⟨false,.tup [.int .u64,.err],[]⟩]
def zyv:=callee Y [] zyq znR (u3 za1)
def zyD:zY Y (zO Y znR):= .nil
theorem znd:K8 128 (zyv):=f8 zyD Tryz.func128 (.cons zqk (.cons zzn .nil)) trivial
def zhc(x:zZ):Option (Int×Int×zZ×Unit):=(zpi x.rest).bind λb=>let f:=((x.rest.length:Nat):Int);(if(decide (b.1<f))=true then(zaY x.rest b.1).bind λg=>some (g==46)else some false).bind λh=>if h=true then some (0,0,(zdV x),())else(zaL x.rest 0 b.1).bind λa=>let i:=(decide (((a.length:Nat):Int)>2));(if i=true then(zaL a 0 2).bind λj=>(if(j==[48,120])=true then some true else(zaL a 0 2).bind λk=>some (k==[48,88])).bind λl=>some l else some false).bind λm=>if m=true then(zaL a 2 ((a.length:Nat):Int)).bind λc=>(za1 c 16 53).bind λd=>if(!(d.2.1).isNil)=true then some (0,0,(zdV x),())else(strings_Contains c [95]).bind λn=>if n.1=true then some (0,0,(zdV x),())else some ((IntKind.wrap .i64 d.1),b.1,(zdV x),())else let o:=(decide (((a.length:Nat):Int)>1));(if o=true then(zaY a 0).bind λp=>some (p==48)else some false).bind λq=>if q=true then some (0,0,(zdV x),())else(za1 a 10 53).bind λe=>if(!(e.2.1).isNil)=true then some (0,0,(zdV x),())else(strings_Contains a [95]).bind λr=>if r.1=true then some (0,0,(zdV x),())else some ((IntKind.wrap .i64 e.1),b.1,(zdV x),())
def zvD:Shape:=⟨[(0,.ptr 0 0)],[.whole 69 69]⟩
def zmF:List zI:=[⟨false,.tup [.int .i64,.int .i64],[.whole 69 69]⟩]
def zvj:=callee Y [] zvD zmF (λz=>zhc z.1)
def zuB:zY Y (zO Y zmF):= .nil
theorem zuq:K8 71 (zvj):=f8 zuB Tryz.func71 (.cons zr4 (.cons znd (.cons zhl .nil))) trivial
def zrZ:Dn.Callee Y:=zPQ Y 5
theorem zqi:K8 54 zrZ:=zSb Tryz.lays169 Tryz.Builder_Extra_169 ⟨⟨_,Tryz.func54,by kernel_rfl,rfl⟩⟩ hsz
def zd1(a:Str)(c:Int):Option (Int):=some (Lib.indexByte a c.toNat.toUInt8)
theorem zd1.ok(s_:Str)(c:Int)(r:Int)(h0:zd1 s_ c=some r)(w0:World)(F0:Heap)(hv:F0.Sub w0)(hG:zam F0)(hg:SV.zaD F0 [.v (.string ⟨⟨s_⟩⟩),.v (.int .u8 c)])(ρ:Nat->Nat):
  Calls Tryz.prog 74 (SV.zaj ρ [.v (.string ⟨⟨s_⟩⟩),.v (.int .u8 c)]).toArray w0 (zdq w0 F0 λs=>s= .v (.int .i64 r)):=by
 refine(Tryz.strings_IndexByte ⟨⟨s_⟩⟩ c w0).mono λe w' h=>?_
 cases h0
 exact zdq.pure (s:= .v _) hv h.1 h.2 trivial rfl rfl
def strings_IndexByte(a:Str)(c:Int):Option (Int×Unit):=ziX (λr=>(r,())) (zd1 a c)
def znJ:Shape:=⟨[(0,.str),(1,.int .u8)],[]⟩
def zyn:List zI:=[⟨false,.int .i64,[]⟩]
def zx9:=callee Y [] znJ zyn (λz=>strings_IndexByte z.1 z.2.1)
theorem zjk:K8 74 zx9:=
 COk.ext (l:=znJ.l) ⟨⟨_,Tryz.func74,by kernel_rfl,rfl⟩⟩ ⟨rfl,rfl⟩ rfl λz zo h=>⟨_,_,rfl,rfl,λw F hG hv=>by
  obtain⟨r,hr,rfl⟩:=zgO h
  exact zd1.ok z.1 z.2.1 r hr w F hv hG (by simp[SV.zaD,SV.good]) (λ_=>0)⟩
def zeW(n:Int):Option (Str×Unit):=let a:=(IntKind.wrap .u8 (Int.fdiv n (2^8)));(toB a).bind λb=>(toB (IntKind.wrap .u8 n)).bind λc=>some (([b,c]:List UInt8),())
def zIW:Shape:=⟨[(0,.int .i64)],[]⟩
def zyL:List zI:=[⟨false,.str,[]⟩]
def zH4:=callee Y [] zIW zyL (λz=>zeW z.1)
def zI4:zY Y (zO Y zyL):= .nil
theorem zpQ:K8 131 (zH4):=f8 zI4 Tryz.func131 .nil trivial
def zo0:Dn.Callee Y:=zMq Y Tryz.prog 85
theorem zog:K8 114 zo0:=zQo Tryz.lays240 Tryz.zFJ ⟨⟨_,Tryz.func114,by kernel_rfl,rfl⟩⟩
def zaH(s:Str)(b:Str)(l:List UInt8):Option (Int×zad×Str×(List UInt8)×Unit):=(room (l.length+s.length)).bind λ_=>let a:=l++s;some (((s.length:Nat):Int),zad.nil,b,a,())
def znC:Shape:=⟨[(0,.ptr 0 1),(1,.str)],[oc3 1,.arr 5]⟩
def zim:List zI:=[⟨false,.tup [.int .i64,.err],[oc3 1,.arr 5]⟩]
def znD:=callee Y [] znC zim (u3 zaH)
def znE:zY Y (zO Y zim):= .nil
theorem zeP:K8 53 (znD):=f8 znE Tryz.func53 (.cons zog .nil) trivial
def zgS(t:Str)(a:Str):Option (Str):=if t.length<4294967281/\a.length<4294967281/\a.all (λb=>decide (b.toNat<128))=true then some (Lib.trimS t a)else none
theorem zgS.ok(t:Str)(cs:Str)(r:Str)(h0:zgS t cs=some r)(w0:World)(F0:Heap)(hv:F0.Sub w0)(hG:zam F0)(hg:SV.zaD F0 [.v (.string ⟨⟨t⟩⟩),.v (.string ⟨⟨cs⟩⟩)])(ρ:Nat->Nat):
  Calls Tryz.prog 188 (SV.zaj ρ [.v (.string ⟨⟨t⟩⟩),.v (.string ⟨⟨cs⟩⟩)]).toArray w0 (zdq w0 F0 λs=>s= .v (.string ⟨⟨r⟩⟩)):=by
 unfold zgS at h0
 split at h0
 ·rename_i hc
  cases h0
  refine(Any.strings_Trim_ascii Tryz.lays160 (zHW (z:= .agg (Array.replicate 256 (.bool false))) (by kernel_rfl)) (by kernel_rfl) ⟨⟨t⟩⟩ ⟨⟨cs⟩⟩ w0 (Nat.le_of_lt (Nat.lt_trans hc.1 (by decide))) hc.2.1 (λj b hb=>by have:=List.all_eq_true.1 hc.2.2 b (List.mem_of_getElem? hb);simpa using this)).mono λe w' h=>?_
  exact zdq.below (s:= .v (.string ⟨⟨_⟩⟩)) hv h.1 h.2 trivial rfl rfl
 ·cases h0
def zm8(t:Str)(a:Str):Option (Str×Unit):=ziX (λr=>(r,())) (zgS t a)
def zvP:Shape:=⟨[(0,.str),(1,.str)],[]⟩
def zDO:List zI:=[⟨false,.str,[]⟩]
def zD6:=callee Y [] zvP zDO (λz=>zm8 z.1 z.2.1)
theorem zDh:K8 188 zD6:=
 COk.ext (l:=zvP.l) ⟨⟨_,Tryz.func188,by kernel_rfl,rfl⟩⟩ ⟨rfl,rfl⟩ rfl λz zo h=>⟨_,_,rfl,rfl,λw F hG hv=>by
  obtain⟨r,hr,rfl⟩:=zgO h
  exact zgS.ok z.1 z.2.1 r hr w F hv hG (by simp[SV.zaD,SV.good]) (λ_=>0)⟩
def zdf(a:Int)(s:Str)(l:List UInt8):Option (Bool×Str×(List UInt8)×Unit):=let c:=(decide (((s.length:Nat):Int)<a));if c=true then some (false,s,l,())else(zaL s 0 a).bind λd=>(zm8 d [48,49,50,51,52,53,54,55,56,57,97,98,99,100,101,102,65,66,67,68,69,70]).bind λe=>if(!(e.1==[]))=true then some (false,s,l,())else(zaL s 0 a).bind λf=>(za1 f 16 16).bind λg=>(zaL s a ((s.length:Nat):Int)).bind λh=>(zeW (IntKind.wrap .i64 g.1)).bind λi=>(zaH i.1 h l).bind λb=>some (true,b.2.2.1,b.2.2.2.1,())
def zvF:Shape:=⟨[(0,.ptr 0 0),(1,.int .i64)],[oc3 1,.arr 5]⟩
def zmk:List zI:=[⟨false,.bool,[oc3 1,.arr 5]⟩]
def zvM:=callee Y [] zvF zmk (u3 zdf)
def zu6:zY Y (zO Y zmk):= .nil
theorem zt7:K8 164 (zvM):=f8 zu6 Tryz.func164 (.cons zDh (.cons znd (.cons zpQ (.cons zeP .nil)))) trivial
def zfx(s:Str)(l:List UInt8):Option (Bool×Str×(List UInt8)×Unit):=if(s==[])=true then some (false,s,l,())else(zaY s 0).bind λa=>(zaL s 1 ((s.length:Nat):Int)).bind λb=>(strings_IndexByte [110,116,114,98,102,118] a).bind λf=>if(decide (f.1>=0))=true then(zaY [10,9,13,8,12,11] f.1).bind λi=>(zeW (IntKind.wrap .i64 i)).bind λj=>(zaH j.1 b l).bind λg=>some (true,g.2.2.1,g.2.2.2.1,())else if(a==10)=true then some (true,b,l,())else if(a==120)=true then(zdf 2 b l).bind λd=>some (d.1,d.2.1,d.2.2.1,())else if(a==117)=true then(zdf 4 b l).bind λe=>some (e.1,e.2.1,e.2.2.1,())else if(a==48)=true then(zeW 0).bind λk=>(zaH k.1 b l).bind λc=>(if(c.2.2.1==[])=true then some true else(zaY c.2.2.1 0).bind λm=>some (decide (m<48))).bind λn=>(if n=true then some true else(zaY c.2.2.1 0).bind λo=>some (decide (o>57))).bind λp=>some (p,c.2.2.1,c.2.2.2.1,())else let q:=((a==13)||((decide (a>=49))&&(decide (a<=57))));let r:=(q||(decide (a>=128)));if r=true then some (false,b,l,())else(zeW (IntKind.wrap .i64 a)).bind λt=>(zaH t.1 b l).bind λh=>some (true,h.2.2.1,h.2.2.2.1,())
def zvz:Shape:=⟨[(0,.ptr 0 0)],[oc3 1,.arr 5]⟩
def zmr:List zI:=[⟨false,.bool,[oc3 1,.arr 5]⟩]
def zuN:=callee Y [] zvz zmr (u2 zfx)
def zvG:zY Y (zO Y zmr):= .nil
theorem zt3:K8 130 (zuN):=f8 zvG Tryz.func130 (.cons zjk (.cons zpQ (.cons zeP (.cons zt7 .nil)))) trivial
def zgb:Str×Str×(List UInt8)×Unit->Option ((Str×Str×(List UInt8)×Unit)⊕(Str×Int×Int×Unit))| (b,d,e,())=>if(!(d==[]))=true then(zaY d 0).bind λa=>(zaL d 1 ((d.length:Nat):Int)).bind λf=>(zaY b 0).bind λi=>if(a==i)=true then fd (let j:=(IntKind.wrap .i64 (((b.length:Nat):Int) - ((f.length:Nat):Int)));some (.inr (e,j,0,())))else let k:=((a==10)||(a==13));let l:=(k||(decide (a>=128)));if l=true then some (.inr ([],0,10,()))else if(a==92)=true then(zfx f e).bind λc=>if(!c.1)=true then some (.inr ([],0,10,()))else if(a !=92)=true then(zeW (IntKind.wrap .i64 a)).bind λm=>(zaH m.1 c.2.1 c.2.2.1).bind λg=>some (.inl (b,g.2.2.1,g.2.2.2.1,()))else some (.inl (b,c.2.1,c.2.2.1,()))else if(a !=92)=true then(zeW (IntKind.wrap .i64 a)).bind λn=>(zaH n.1 f e).bind λh=>some (.inl (b,h.2.2.1,h.2.2.2.1,()))else some (.inl (b,f,e,()))else some (.inr ([],0,10,()))
def zqL(s:Str):Option (Str×Int×Int×Unit):=(if(s==[])=true then some true else(zaY s 0).bind λa=>(if(a !=39)=true then(zaY s 0).bind λb=>some (b !=34)else some false).bind λc=>some c).bind λd=>if d=true then some ([],0,10,())else(zaL s 1 ((s.length:Nat):Int)).bind λe=>Lp.loop zgb (s,e,[],())
def zHr:Shape:=⟨[(0,.str)],[]⟩
def zzC:List zI:=[⟨false,.tup [.str,.int .i64,.int .i64],[]⟩]
def zI0:=callee Y [] zHr zzC (λz=>zqL z.1)
def zGH:zY Y (zO Y zzC):=(.loop [[7,5,1,2,2,2],[8,5,1,2,2,2],[6,1,2,2,2],[2,2,2,2]] ⟨[(0,.str),(5,.ptr 0 0)],[oc3 1,.arr 5]⟩ (zgb) .nil .nil)
theorem zFE:K8 72 (zI0):=f8 zGH Tryz.func72 (.cons zqi (.cons zt3 (.cons zpQ (.cons zeP .nil)))) ⟨λz=>by kernel_rfl,trivial,trivial⟩
def zfw(b:Int)(d:Str)(e:Int)(c:zZ)(a:zu):Option (zu×Int×zZ×Unit):=(strings_IndexByte [123,125,40,41,91,93,46,59,44,60,62,43,45,42,47,37,33,63,58,61] e).bind λf=>if(decide (f.1>=0))=true then(zaL d 0 1).bind λg=>some (⟨5,g,a.Num,a.At,a.Fresh⟩,1,(zdV c),())else if(a.Kind==5)=true then(zaL d 0 b).bind λh=>some (⟨a.Kind,h,a.Num,a.At,a.Fresh⟩,b,(zdV c),())else some ((zBD a),b,(zdV c),())
def zfu(d:Int)(a:Str)(e:Int)(c:zZ)(b:zu):Option (zu×Int×zZ×Unit):=let f:=(decide (((a.length:Nat):Int)>1));if f=true then(zaL a 0 2).bind λg=>(zgN [32,60,61,32,62,61,32,61,61,32,33,61,32,43,43,32,45,45,32,38,38,32,124,124,32,43,61,32,45,61,32,42,61,32,47,61,32,37,61,32] g).bind λh=>if h.1=true then(zaL a 0 2).bind λi=>some (⟨5,i,b.Num,b.At,b.Fresh⟩,2,(zdV c),())else zfw d a e (zdV c) (zBD b)else zfw d a e (zdV c) (zBD b)
def zfE(x:zZ):Option (zu×Int×zZ×Unit):=(zaY x.rest 0).bind λa=>(ziC a).bind λf=>if f.1=true then(zpi x.rest).bind λb=>if(decide (b.1>32))=true then some (⟨0,[],0,0,false⟩,0,(zdV x),())else(zaL x.rest 0 b.1).bind λc=>(zmM c).bind λg=>if g.1=true then some (⟨2,c,0,0,false⟩,b.1,(zdV x),())else some (⟨1,c,0,0,false⟩,b.1,(zdV x),())else(zlH a).bind λh=>if h.1=true then(zhc (zdV x)).bind λd=>some (⟨3,[],d.1,0,false⟩,d.2.1,(zdV d.2.2.1),())else let i:=((a==39)||(a==34));if i=true then(zqL x.rest).bind λe=>some (⟨4,e.1,0,0,false⟩,e.2.1,(zdV x),())else let j:=((x.rest.length:Nat):Int);if(decide (j>2))=true then(zaL x.rest 0 3).bind λk=>(zgN [32,61,61,61,32,33,61,61,32] k).bind λl=>if l.1=true then(zaL x.rest 0 3).bind λm=>some (⟨5,m,0,0,false⟩,3,(zdV x),())else zfu 0 x.rest a (zdV x) ⟨0,[],0,0,false⟩else zfu 0 x.rest a (zdV x) ⟨0,[],0,0,false⟩
def zyW:Shape:=⟨[(0,.ptr 0 0)],[.whole 69 69]⟩
def zpo:List zI:=[⟨false,.tup [.st 36,.int .i64],[.whole 69 69]⟩]
def zyM:=callee Y [] zyW zpo (λz=>zfE z.1)
def zzM:zY Y (zO Y zpo):=(.join [[1,4,2,4,2,4,2,4,2,5,2,1,2,2],[2,4,2,4,2,4,2,4,2,5,2,1,2,2],[6,2,1,2,2],[2,2,2]] ⟨[(2,.ptr 1 0),(3,.int .i64),(4,.str),(5,.int .u8)],[.whole 69 69,.whole 36 36]⟩ (u5 zfu) (.join [[1,4,2,4,2,4,2,4,2,4,2,5,2,1,2,2],[2,4,2,4,2,4,2,4,2,4,2,5,2,1,2,2],[6,2,1,2,2],[2,2,2]] ⟨[(2,.ptr 1 0),(3,.int .i64),(4,.str),(5,.int .u8)],[.whole 69 69,.whole 36 36]⟩ (u5 zfw) .nil))
theorem zxP:K8 34 (zyM):=f8 zzM Tryz.func34 (.cons zmU (.cons zr4 (.cons ztm (.cons zuC (.cons zuq (.cons zFE (.cons zuQ (.cons zjk .nil)))))))) ⟨λz=>by kernel_rfl,⟨λz=>by kernel_rfl,⟨⟩⟩⟩
def ziO:Str×zZ×(List zu)×Unit->Option ((Str×zZ×(List zu)×Unit)⊕((List zu)×Int×Int×Unit))| (c,f,d,())=>(zhg (zdV f)).bind λb=>if b.1=true then let g:=((c.length:Nat):Int);let h:=((b.2.1.rest.length:Nat):Int);let e:=(IntKind.wrap .i64 (g -h));let i:=(b.2.1.rest==[]);if i=true then(room (d.length+([⟨0,[],0,e,b.2.1.fresh⟩]:List zu).length)).bind λ_=>let j:=d++[⟨0,[],0,e,b.2.1.fresh⟩];(zoH j).bind λk=>some (.inr (k.1,0,0,()))else(zfE (zdV b.2.1)).bind λa=>if(a.2.1==0)=true then let l:=((c.length:Nat):Int);let m:=((a.2.2.1.rest.length:Nat):Int);let n:=(IntKind.wrap .i64 (l -m));some (.inr ([],n,60,()))else(room (d.length+([⟨a.1.Kind,a.1.Text,a.1.Num,e,a.2.2.1.fresh⟩]:List zu).length)).bind λ_=>let o:=d++[⟨a.1.Kind,a.1.Text,a.1.Num,e,a.2.2.1.fresh⟩];(zaL a.2.2.1.rest a.2.1 ((a.2.2.1.rest.length:Nat):Int)).bind λp=>some (.inl (c,⟨a.2.2.1.src,p,a.2.2.1.fresh⟩,o,()))else let q:=((c.length:Nat):Int);let r:=((b.2.1.rest.length:Nat):Int);let s:=(IntKind.wrap .i64 (q -r));some (.inr ([],s,60,()))
def ztj(a:Str):Option ((List zu)×Int×Int×Unit):=let b:=(decide (((a.length:Nat):Int)>4096));if b=true then some ([],0,2,())else Lp.loop ziO (a,⟨a,a,false⟩,[],())
def zJX:Shape:=⟨[(0,.str)],[]⟩
def zA1:List zI:=[⟨false,.tup [.sl 36,.int .i64,.int .i64],[]⟩]
def zur:=callee Y [] zJX zA1 (λz=>ztj z.1)
def zJO:zY Y (zO Y zA1):=(.loop [[7,5,1,2,2,2,2],[8,5,1,2,2,2,2],[6,1,2,2,2,2],[2,2,2,2,2]] ⟨[(0,.str),(5,.ptr 0 0),(6,.own 1)],[.whole 69 69,.arr 36]⟩ (ziO) .nil .nil)
theorem zHw:K8 18 (zur):=f8 zJO Tryz.func18 (.cons ztW (.cons zEd (.cons zxP .nil))) ⟨λz=>by kernel_rfl,trivial,trivial⟩
def za5(s:Str)(x:zh):Option (Bool×zh×Unit):=(zN x.t 0).bind λa=>(if(a.Kind==5)=true then some true else(zN x.t 0).bind λb=>some (b.Kind==2)).bind λc=>(if c=true then(zN x.t 0).bind λd=>some (d.Text==s)else some false).bind λe=>some (e,(zk x),())
def zAP:Shape:=⟨[(0,.ptr 0 0),(1,.str)],[.whole 48 48]⟩
def zpW:List zI:=[⟨false,.bool,[.whole 48 48]⟩]
def zAR:=callee Y [] zAP zpW (u2 za5)
def zAU:zY Y (zO Y zpW):= .nil
theorem zcq:K8 35 (zAR):=f8 zAU Tryz.func35 .nil trivial
def zau(x:zh):Option (zu×zh×Unit):=(zN x.t 0).bind λa=>if(a.Kind !=0)=true then(zaL x.t 1 ((x.t.length:Nat):Int)).bind λb=>some ((zBD a),⟨b,x.no⟩,())else some ((zBD a),(zk x),())
def zxQ:Shape:=⟨[(0,.ptr 0 0)],[.whole 48 48]⟩
def zn2:List zI:=[⟨false,.st 36,[.whole 48 48]⟩]
def zjZ:=callee Y [] zxQ zn2 (λz=>zau z.1)
def zyA:zY Y (zO Y zn2):= .nil
theorem zbG:K8 75 (zjZ):=f8 zyA Tryz.func75 .nil trivial
def zG(s:Str)(x:zh):Option (Bool×zh×Unit):=(za5 s (zk x)).bind λa=>if a.1=true then(zau (zk a.2.1)).bind λb=>some (a.1,(zk b.2.1),())else some (a.1,(zk a.2.1),())
def zyJ:Shape:=⟨[(0,.ptr 0 0),(1,.str)],[.whole 48 48]⟩
def zoX:List zI:=[⟨false,.bool,[.whole 48 48]⟩]
def zhR:=callee Y [] zyJ zoX (u2 zG)
def zz6:zY Y (zO Y zoX):= .nil
theorem zaz:K8 36 (zhR):=f8 zz6 Tryz.func36 (.cons zcq (.cons zbG .nil)) trivial
def zaN(x:zh):Option (zad×zh×Unit):=(zN x.t 0).bind λa=>some ((zad.code 45 a.At),(zk x),())
def zxZ:Shape:=⟨[(0,.ptr 0 0)],[.whole 48 48]⟩
def znT:List zI:=[⟨true,.err,[.whole 48 48]⟩]
def zfy:=callee Y [] zxZ znT (λz=>zaN z.1)
def zxO:zY Y (zO Y znT):= .nil
theorem zaX:K8 21 (zfy):=f8 zxO Tryz.func21 .nil trivial
def zdb(x:zh):Option ((zad×zh×Unit)⊕(Str×zh×Unit)):=(zN x.t 0).bind λc=>if(c.Kind !=1)=true then(zaN (zk x)).bind λa=>some (.inl (a.1,(zk a.2.1),()))else(zau (zk x)).bind λb=>some (.inr (b.1.Text,(zk b.2.1),()))
def zyz:Shape:=⟨[(0,.ptr 0 0)],[.whole 48 48]⟩
def znO:List zI:=[⟨true,.err,[.whole 48 48]⟩,⟨false,.str,[.whole 48 48]⟩]
def znL:=callee Y [] zyz znO (λz=>zdb z.1)
def zyC:zY Y (zO Y znO):= .nil
theorem ze4:K8 76 (znL):=f8 zyC Tryz.func76 (.cons zaX (.cons zbG .nil)) trivial
def zac(s:Str)(x:zh):zQf:=(zG s (zk x)).bind λa=>if(!a.1)=true then(zaN (zk a.2.1)).bind λb=>some (.inl (b.1,(zk b.2.1),()))else some (.inr ((zk a.2.1),()))
def zyk:Shape:=⟨[(0,.ptr 0 0),(1,.str)],[.whole 48 48]⟩
def znU:List zI:=[⟨true,.err,[.whole 48 48]⟩,⟨false,.tup [],[.whole 48 48]⟩]
def zfs:=callee Y [] zyk znU (u2 zac)
def zyG:zY Y (zO Y znU):= .nil
theorem zaI:K8 77 (zfs):=f8 zyG Tryz.func77 (.cons zaz (.cons zaX .nil)) trivial
def zhA(x:zh)(c:Int)(d:Str)(e:Int)(f:Str)(l:List Str)(g:List zg):OT5:=(zdb (zk x)).bind λh=>(match h with| .inl b=>some (.inl (b.1,(zk b.2.1),c,d,e,f,l,g,()))| .inr a=>(room (l.length+([a.1]:List Str).length)).bind λ_=>let i:=l++[a.1];some (.inr ((zk a.2.1),c,d,e,f,i,g,())))
def om0:List zbA:=[.cells 46 [.ptr 1 0],.whole 48 48,.cells 9 [.str],.cells 1 [.fn 242 [.ptr 4 0,.ptr 5 0]],.cells 46 [.ptr 1 0],oc0 6 7,.arr 9,.arr 25,.cells 4 [.bool]]
def om1:List zbA:=[.whole 48 48,.cells 46 [.ptr 0 0],.cells 9 [.str],.cells 1 [.fn 242 [.ptr 4 0,.ptr 5 0]],.cells 46 [.ptr 0 0],oc0 6 7,.arr 9,.arr 25,.cells 4 [.bool]]
def om2:List zbA:=[.cells 46 [.ptr 1 0],.whole 48 48,.cells 9 [.str],.cells 1 [.fn 79 [.ptr 4 0,.ptr 5 0]],.cells 46 [.ptr 1 0],oc0 6 7,.arr 9,.arr 25,.cells 4 [.bool]]
def om3:List zbA:=[.whole 48 48,.cells 46 [.ptr 0 0],.cells 9 [.str],.cells 1 [.fn 79 [.ptr 4 0,.ptr 5 0]],.cells 46 [.ptr 0 0],oc0 6 7,.arr 9,.arr 25,.cells 4 [.bool]]
def om4:List zbA:=[.cells 46 [.ptr 1 0],.whole 48 48,.cells 9 [.str],.cells 1 [.fn 236 [.ptr 4 0,.ptr 5 0]],.cells 46 [.ptr 1 0],oc2 6,.arr 25,.cells 4 [.bool]]
def om5:List zbA:=[.whole 48 48,.cells 46 [.ptr 0 0],.cells 9 [.str],.cells 1 [.fn 236 [.ptr 4 0,.ptr 5 0]],.cells 46 [.ptr 0 0],oc2 6,.arr 25,.cells 4 [.bool]]
def om6:List zbA:=[.whole 48 48,oc0 4 5,oc0 6 7,oc0 8 9,.arr 9,.arr 25,.arr 9,.arr 25,.arr 9,.arr 25]
def om7:List zbA:=[.whole 48 48,.cells 46 [.ptr 0 0],oc0 4 5,oc0 6 7,.arr 9,.arr 25,.arr 9,.arr 25]
def om8:List zbA:=[.whole 48 48,oc0 4 5,oc0 6 7,.whole 25 25,.arr 9,.arr 25,.arr 9,.arr 25]
def om9:List zbA:=[oc1 1,.arr 9,.cells 62 [.ptr 0 0],.whole 25 25,.cells 23 [.sl 25]]
def zQw:List zbA:=[.whole 48 48,.cells 46 [.ptr 0 0],.whole 25 25,.arr 9,.arr 25]
def zOU:List zbA:=[.cells 46 [.ptr 1 0],.whole 48 48,.whole 25 25,.arr 9,.arr 25]
def zhK:List zbA:=[.whole 48 48,oc0 3 4,oc0 5 6,.arr 9,.arr 25,.arr 9,.arr 25]
def zmS:List zbA:=[.cells 46 [.ptr 1 0],.whole 48 48,oc0 3 4,.arr 9,.arr 25]
def zb3:List zbA:=[.whole 48 48,.cells 46 [.ptr 0 0],oc0 3 4,.arr 9,.arr 25]
def zjQ:List zbA:=[oc1 1,.arr 9,.cells 62 [.ptr 0 0],.cells 23 [.sl 25]]
def zDB:List zbA:=[.cells 62 [.ptr 1 0],oc1 2,.arr 9,.cells 23 [.sl 25]]
def zL9:List zbA:=[.whole 48 48,oc0 3 4,.whole 25 25,.arr 9,.arr 25]
def zD8:List zbA:=[.whole 48 48,.cells 46 [.ptr 0 0],oc2 3,.arr 25]
def zQt:List zbA:=[.cells 46 [.ptr 1 0],.whole 48 48,oc2 3,.arr 25]
def zge:List zbA:=[oc1 1,.arr 9,.cells 62 [.ptr 0 0],.whole 25 25]
def zzj:List zbA:=[.cells 62 [.ptr 1 0],oc1 2,.arr 9,.whole 25 25]
def zLs:List zbA:=[oc1 1,.arr 9,.whole 25 25]
def zqG:Shape:=⟨[(0,.ptr 0 0),(1,.ptr 2 0)],zmS⟩
def zka:List zI:=[⟨true,.err,zmS⟩,⟨false,.tup [],zmS⟩]
def zp4:=callee Y [] zqG zka (u7 zhA)
def zqA:zY Y (zO Y zka):= .nil
theorem zpF:K8 79 (zp4):=f8 zqA Tryz.func79 (.cons ze4 .nil) trivial
def zd8:zh×Str×Int×Str×Int×Str×(List Str)×(List zg)×Bool×Unit->OT0| (q,b,h,i,j,k,l,m,c,())=>(zG b (zk q)).bind λe=>if(!e.1)=true then(zhA (zk e.2.1) h i j k l m).bind λr=>(match r with| .inl d=>some (.inr (.inl (d.1,(zk d.2.1),b,d.2.2.1,d.2.2.2.1,d.2.2.2.2.1,d.2.2.2.2.2.1,d.2.2.2.2.2.2.1,d.2.2.2.2.2.2.2.1,c,())))| .inr a=>(zG b (zk a.1)).bind λf=>if f.1=true then some (.inr (.inr ((zk f.2.1),b,a.2.1,a.2.2.1,a.2.2.2.1,a.2.2.2.2.1,a.2.2.2.2.2.1,a.2.2.2.2.2.2.1,c,())))else(zac [44] (zk f.2.1)).bind λs=>(match s with| .inl n=>some (.inr (.inl (n.1,(zk n.2.1),b,a.2.1,a.2.2.1,a.2.2.2.1,a.2.2.2.2.1,a.2.2.2.2.2.1,a.2.2.2.2.2.2.1,c,())))| .inr o=>if(!c)=true then(za5 b (zk o.1)).bind λg=>if g.1=true then(zaN (zk g.2.1)).bind λp=>some (.inr (.inl (p.1,(zk p.2.1),b,a.2.1,a.2.2.1,a.2.2.2.1,a.2.2.2.2.1,a.2.2.2.2.2.1,a.2.2.2.2.2.2.1,c,())))else some (.inl ((zk g.2.1),b,a.2.1,a.2.2.1,a.2.2.2.1,a.2.2.2.2.1,a.2.2.2.2.2.1,a.2.2.2.2.2.2.1,c,()))else some (.inl ((zk o.1),b,a.2.1,a.2.2.1,a.2.2.2.1,a.2.2.2.2.1,a.2.2.2.2.2.1,a.2.2.2.2.2.2.1,c,()))))else some (.inr (.inr ((zk e.2.1),b,h,i,j,k,l,m,c,())))
def zhu(x:zh)(a:Str)(b:Int)(c:Str)(d:Int)(e:Str)(l:List Str)(f:List zg)(g:Bool):OT3:=Lp.loop zd8 ((zk x),a,b,c,d,e,l,f,g,())
def zvp:Shape:=⟨[(0,.ptr 0 0),(1,.ptr 2 0),(2,.ptr 3 0),(3,.ptr 8 0)],om2⟩
def zmH:List zI:=[⟨true,.err,om2⟩,⟨false,.tup [],om2⟩]
def zmt:=callee Y [] zvp zmH (u9 zhu)
def zuH:zY Y (zO Y zmH):=(.loop [[7,5],[8,5],[6]] ⟨[(0,.ptr 0 0),(1,.ptr 2 0),(2,.ptr 3 0),(3,.ptr 8 0)],om2⟩ (zd8) .nil .nil)
theorem ztU:K8 133 (zmt):=f8 zuH Tryz.func133 (.cons zaz (.cons zpF (.cons zaI (.cons zcq (.cons zaX .nil))))) ⟨λz=>by kernel_rfl,trivial,trivial⟩
def zhh(x:zh)(a:Str)(e:Int)(f:Str)(g:Int)(h:Str)(l:List Str)(i:List zg)(j:Bool):OT3:=(zhu ⟨x.t,false⟩ a e f g h l i j).bind λd=>(match d with| .inl b=>some (.inl (b.1,(zk b.2.1),b.2.2.1,b.2.2.2.1,b.2.2.2.2.1,b.2.2.2.2.2.1,b.2.2.2.2.2.2.1,b.2.2.2.2.2.2.2.1,b.2.2.2.2.2.2.2.2.1,b.2.2.2.2.2.2.2.2.2.1,()))| .inr c=>some (.inr (⟨c.1.t,x.no⟩,c.2.1,c.2.2.1,c.2.2.2.1,c.2.2.2.2.1,c.2.2.2.2.2.1,c.2.2.2.2.2.2.1,c.2.2.2.2.2.2.2.1,c.2.2.2.2.2.2.2.2.1,())))
def zuz:Shape:=⟨[(0,.ptr 0 0),(1,.fn 133 [.ptr 1 0,.ptr 2 0,.ptr 3 0,.ptr 8 0])],om3⟩
def zmK:List zI:=[⟨true,.err,om3⟩,⟨false,.tup [],om3⟩]
def zmw:=callee Y [] zuz zmK (u9 zhh)
def zvJ:zY Y (zO Y zmK):= .nil
theorem ztJ:K8 80 (zmw):=f8 zvJ Tryz.func80 ((.cons (COk.laid ztU) .nil):zcy hY Tryz.prog zam [(133,(zhv Y [⟨[(0,.ptr 0 0),(1,.ptr 2 0),(2,.ptr 3 0),(3,.ptr 8 0)],om2⟩,⟨[(0,.ptr 0 0),(1,.ptr 2 0),(2,.ptr 3 0),(3,.ptr 7 0)],om4⟩,⟨[(0,.ptr 0 0),(1,.ptr 2 0),(2,.ptr 3 0),(3,.ptr 8 0)],om0⟩] (zmt)))]) trivial
def zin(d:Str)(e:Bool)(x:zh)(f:Int)(g:Str)(h:Int)(i:Str)(l:List Str)(j:List zg):OT5:=(zhh (zk x) d f g h i l j e).bind λc=>(match c with| .inl a=>some (.inl (a.1,(zk a.2.1),a.2.2.2.1,a.2.2.2.2.1,a.2.2.2.2.2.1,a.2.2.2.2.2.2.1,a.2.2.2.2.2.2.2.1,a.2.2.2.2.2.2.2.2.1,()))| .inr b=>some (.inr ((zk b.1),b.2.2.1,b.2.2.2.1,b.2.2.2.2.1,b.2.2.2.2.2.1,b.2.2.2.2.2.2.1,b.2.2.2.2.2.2.2.1,())))
def zxX:Shape:=⟨[(0,.ptr 0 0),(1,.str),(2,.bool),(3,.fn 79 [.ptr 1 0,.ptr 2 0])],zb3⟩
def zn0:List zI:=[⟨true,.err,zb3⟩,⟨false,.tup [],zb3⟩]
def znV:=callee Y [] zxX zn0 (u9 zin)
def zxY:zY Y (zO Y zn0):= .nil
theorem zw1:K8 78 (znV):=f8 zxY Tryz.func78 ((.cons (COk.laid ztJ) .nil):zcy hY Tryz.prog zam [(80,(zhv Y [⟨[(0,.ptr 0 0),(1,.fn 133 [.ptr 1 0,.ptr 2 0,.ptr 3 0,.ptr 8 0])],om3⟩,⟨[(0,.ptr 0 0),(1,.fn 81 [.ptr 1 0,.ptr 2 0])],zb3⟩,⟨[(0,.ptr 0 0),(1,.fn 241 [.ptr 1 0,.ptr 2 0])],zb3⟩,⟨[(0,.ptr 0 0),(1,.fn 133 [.ptr 1 0,.ptr 2 0,.ptr 3 0,.ptr 7 0])],om5⟩,⟨[(0,.ptr 0 0),(1,.fn 133 [.ptr 1 0,.ptr 2 0,.ptr 3 0,.ptr 8 0])],om1⟩,⟨[(0,.ptr 0 0),(1,.fn 222 [.ptr 1 0,.ptr 2 0])],zb3⟩,⟨[(0,.ptr 0 0),(1,.fn 167 [.ptr 1 0,.ptr 2 0])],zb3⟩] (zmw)))]) trivial
def zbl(h:Str)(x:zh):Option (Bool×zh×Unit):=(zN x.t 0).bind λa=>(if(a.Kind==5)=true then some true else(zN x.t 0).bind λb=>some (b.Kind==2)).bind λc=>if c=true then(zN x.t 0).bind λd=>(zjR [32] d.Text).bind λe=>(zjR e [32]).bind λf=>(strings_Contains h f).bind λg=>some (g.1,(zk x),())else some (false,(zk x),())
def zwD:Shape:=⟨[(0,.ptr 0 0),(1,.str)],[.whole 48 48]⟩
def znA:List zI:=[⟨false,.bool,[.whole 48 48]⟩]
def zmW:=callee Y [] zwD znA (u2 zbl)
def zxi:zY Y (zO Y znA):= .nil
theorem zf5:K8 136 (zmW):=f8 zxi Tryz.func136 (.cons zhl .nil) trivial
def ze9(n:zg):Option (Bool×Unit):=let a:=((n.Kind==3)||(n.Kind==11));some ((a||(n.Kind==12)),())
def zCj:Shape:=⟨[(0,.st 25)],[]⟩
def ztr:List zI:=[⟨false,.bool,[]⟩]
def zDp:=callee Y [] zCj ztr (λz=>ze9 z.1)
def zCQ:zY Y (zO Y ztr):= .nil
theorem zl7:K8 121 (zDp):=f8 zCQ Tryz.func121 .nil trivial
def zd4(n:zg)(x:zh):zQf:=(ze9 (zA n)).bind λb=>if(!b.1)=true then(zaN (zk x)).bind λa=>some (.inl (a.1,(zk a.2.1),()))else some (.inr ((zk x),()))
def zvk:Shape:=⟨[(0,.ptr 0 0),(1,.st 25)],[.whole 48 48]⟩
def zmm:List zI:=[⟨true,.err,[.whole 48 48]⟩,⟨false,.tup [],[.whole 48 48]⟩]
def zmy:=callee Y [] zvk zmm (u2 zd4)
def zu3:zY Y (zO Y zmm):= .nil
theorem zlG:K8 168 (zmy):=f8 zu3 Tryz.func168 (.cons zl7 (.cons zaX .nil)) trivial
def zcb(a:Int)(b:Int):Option (Str):=if b=16 then Gw.zcH a else if -9223372036854775808<=a/\a<=9223372036854775807/\b=10 then some (Lib.itoa a)else none
theorem zcb.ok(i_:Int)(base_:Int)(r:Str)(h0:zcb i_ base_=some r)(w0:World)(F0:Heap)(hv:F0.Sub w0)(hG:zam F0)(hg:SV.zaD F0 [.v (.int .i64 i_),.v (.int .i64 base_)])(ρ:Nat->Nat):
  Calls Tryz.prog 173 (SV.zaj ρ [.v (.int .i64 i_),.v (.int .i64 base_)]).toArray w0 (zdq w0 F0 λs=>s= .v (.string ⟨⟨r⟩⟩)):=by
 unfold zcb at h0
 split at h0
 ·rename_i hb
  subst hb
  exact Gw.zcH.ok i_ r h0 w0 F0 hv ⟨hG.maxLen,hG.zBY,hG.zIp,hG.zGE,hG.zCK⟩ ⟨trivial,trivial,trivial⟩ (λ_=>0)
 ·split at h0
  ·rename_i hc
   cases h0
   obtain⟨h1,h2,rfl⟩:=hc
   refine(Tryz.strconv_FormatInt_10 i_ h1 h2 w0 (hG.zCK w0 hv)).mono λe w' h=>?_
   obtain⟨h1,k,os,rfl⟩:=h
   exact zdq.below (s:= .v (.string ⟨⟨_⟩⟩)) hv h1 (Go.Lib.below_grow _ _ (yJ _) _ _) trivial rfl rfl
  ·cases h0
def zcE(a:Int)(b:Int):Option (Str×Unit):=ziX (λr=>(r,())) (zcb a b)
def znI:Shape:=⟨[(0,.int .i64),(1,.int .i64)],[]⟩
def zyd:List zI:=[⟨false,.str,[]⟩]
def znG:=callee Y [] znI zyd (λz=>zcE z.1 z.2.1)
theorem zjq:K8 173 znG:=
 COk.ext (l:=znI.l) ⟨⟨_,Tryz.func173,by kernel_rfl,rfl⟩⟩ ⟨rfl,rfl⟩ rfl λz zo h=>⟨_,_,rfl,rfl,λw F hG hv=>by
  obtain⟨r,hr,rfl⟩:=zgO h
  exact zcb.ok z.1 z.2.1 r hr w F hv hG (by simp[SV.zaD,SV.good]) (λ_=>0)⟩
def zjJ:Str×Int×Int×(List UInt8)×Unit->zD3| (c,e,a,b,())=>if(decide (a<e))=true then(zaY c a).bind λf=>if(decide (f>=128))=true then some (.inr ([],10,()))else let g:=(IntKind.wrap .i64 (2*a));let d:=(IntKind.wrap .i64 (g+1));(zaY c a).bind λh=>(zN b d).bind λ_=>(zN b d).bind λl=>(zLy h).bind λi=>let j:=b.set d.toNat i;let k:=(IntKind.wrap .i64 (a+1));some (.inl (c,e,k,j,()))else some (.inr (b,0,()))
def zom(s:Str):Option (Str×Int×Unit):=let a:=(IntKind.wrap .i64 (2*((s.length:Nat):Int)));(zDc a).bind λb=>Lp.loop zjJ (s,((s.length:Nat):Int),0,(List.replicate b (UInt8.ofNat 0)),())
def zLd:Shape:=⟨[(0,.str)],[]⟩
def zCC:List zI:=[⟨false,.tup [.str,.int .i64],[]⟩]
def zMi:=callee Y [] zLd zCC (λz=>zom z.1)
def zMe:zY Y (zO Y zCC):=(.loop [[7,5,2,1,2,2],[8,5,2,1,2,2],[6,2,1,2,2],[2,2,2]] ⟨[(0,.str),(4,.own 0),(11,.int .i64),(12,.int .i64)],[.arr 5]⟩ (zjJ) .nil .nil)
theorem zJW:K8 246 (zMi):=f8 zMe Tryz.func246 .nil ⟨λz=>by kernel_rfl,trivial,trivial⟩
def zjc(x:zh):Option ((Str×zh×Unit)⊕(zad×zh×Unit)):=(zN x.t 0).bind λa=>if(a.Kind==4)=true then(zau (zk x)).bind λc=>some (.inl (a.Text,(zk c.2.1),()))else if(a.Kind==3)=true then(zcE a.Num 10).bind λd=>(zau (zk x)).bind λe=>(zom d.1).bind λf=>some (.inl (f.1,(zk e.2.1),()))else if(a.Kind==1)=true then(zau (zk x)).bind λg=>(zom a.Text).bind λh=>some (.inl (h.1,(zk g.2.1),()))else if(a.Kind==2)=true then(zau (zk x)).bind λi=>(zom a.Text).bind λj=>some (.inl (j.1,(zk i.2.1),()))else(zaN (zk x)).bind λb=>some (.inr (b.1,(zk b.2.1),()))
def zzI:Shape:=⟨[(0,.ptr 0 0)],[.whole 48 48]⟩
def zpa:List zI:=[⟨false,.str,[.whole 48 48]⟩,⟨true,.err,[.whole 48 48]⟩]
def zz2:=callee Y [] zzI zpa (λz=>zjc z.1)
def zzP:zY Y (zO Y zpa):= .nil
theorem zx7:K8 243 (zz2):=f8 zzP Tryz.func243 (.cons zbG (.cons zjq (.cons zJW (.cons zaX .nil)))) trivial
def zdR(c:zh):Option (Int×Int×zh×Unit):=(zbl [32,43,32,45,32] (zk c)).bind λa=>if a.1=true then some (7,17,(zk a.2.1),())else(zbl [32,42,32,47,32,37,32] (zk a.2.1)).bind λb=>if b.1=true then some (8,17,(zk b.2.1),())else some (0,0,(zk b.2.1),())
def zgG(x:zh):Option (Int×Int×zh×Unit):=(za5 [124,124] (zk x)).bind λb=>if b.1=true then some (3,18,(zk b.2.1),())else(za5 [38,38] (zk b.2.1)).bind λc=>if c.1=true then some (4,18,(zk c.2.1),())else(zbl [32,61,61,32,33,61,32,61,61,61,32,33,61,61,32] (zk c.2.1)).bind λd=>if d.1=true then some (5,17,(zk d.2.1),())else(zbl [32,60,32,62,32,60,61,32,62,61,32,105,110,115,116,97,110,99,101,111,102,32] (zk d.2.1)).bind λa=>if a.1=true then some (6,17,(zk a.2.1),())else if(!a.2.1.no)=true then(za5 [105,110] (zk a.2.1)).bind λe=>if e.1=true then some (6,17,(zk e.2.1),())else zdR (zk e.2.1)else zdR (zk a.2.1)
def ztP:Shape:=⟨[(0,.ptr 0 0)],[.whole 48 48]⟩
def zlF:List zI:=[⟨false,.tup [.int .i64,.int .i64],[.whole 48 48]⟩]
def zut:=callee Y [] ztP zlF (λz=>zgG z.1)
def ztt:zY Y (zO Y zlF):=(.join [[1,4,2,4,2,4,2,4,2,5,1,2],[2,4,2,4,2,4,2,4,2,5,1,2],[6,1,2],[2,2]] ⟨[(0,.ptr 0 0)],[.whole 48 48]⟩ (λz=>zdR z.1) .nil)
theorem zsE:K8 190 (zut):=f8 ztt Tryz.func190 (.cons zcq (.cons zf5 .nil)) ⟨λz=>by kernel_rfl,⟨⟩⟩
def zev(x:zh):Option (Bool×zh×Unit):=(za5 [125] (zk x)).bind λa=>(if a.1=true then some true else(zN a.2.1.t 0).bind λb=>some (b.Kind==0)).bind λc=>(if c=true then some true else(zN a.2.1.t 0).bind λd=>some d.Fresh).bind λe=>some (e,(zk a.2.1),())
def zwH:Shape:=⟨[(0,.ptr 0 0)],[.whole 48 48]⟩
def zna:List zI:=[⟨false,.bool,[.whole 48 48]⟩]
def zvX:=callee Y [] zwH zna (λz=>zev z.1)
def zvS:zY Y (zO Y zna):= .nil
theorem zmB:K8 90 (zvX):=f8 zvS Tryz.func90 (.cons zcq .nil) trivial
def zbE(x:zh):zQf:=(zG [59] (zk x)).bind λa=>if(!a.1)=true then(zev (zk a.2.1)).bind λb=>if(!b.1)=true then(zaN (zk b.2.1)).bind λc=>some (.inl (c.1,(zk c.2.1),()))else some (.inr ((zk b.2.1),()))else some (.inr ((zk a.2.1),()))
def zyV:Shape:=⟨[(0,.ptr 0 0)],[.whole 48 48]⟩
def zoL:List zI:=[⟨true,.err,[.whole 48 48]⟩,⟨false,.tup [],[.whole 48 48]⟩]
def zzE:=callee Y [] zyV zoL (λz=>zbE z.1)
def zy4:zY Y (zO Y zoL):= .nil
theorem zn5:K8 84 (zzE):=f8 zy4 Tryz.func84 (.cons zaz (.cons zmB (.cons zaX .nil))) trivial
def zgn(d:Int)(x:zh):za6:=(zN x.t 0).bind λe=>(if(e.Kind==1)=true then(zN x.t 0).bind λf=>some (!f.Fresh)else some false).bind λg=>if g=true then(zau (zk x)).bind λa=>(zbE (zk a.2.1)).bind λh=>(match h with| .inl b=>some (.inl (b.1,(zk b.2.1),()))| .inr i=>some (.inr (⟨d,a.1.Text,0,[],[],[]⟩,(zk i.1),())))else(zbE (zk x)).bind λj=>(match j with| .inl c=>some (.inl (c.1,(zk c.2.1),()))| .inr k=>some (.inr (⟨d,[],0,[],[],[]⟩,(zk k.1),())))
def zyB:Shape:=⟨[(0,.ptr 0 0),(1,.int .i64)],[.whole 48 48]⟩
def znM:List zI:=[⟨true,.err,[.whole 48 48]⟩,⟨false,.st 25,[.whole 48 48]⟩]
def zxT:=callee Y [] zyB znM (u2 zgn)
def zx6:zY Y (zO Y znM):= .nil
theorem zxr:K8 89 (zxT):=f8 zx6 Tryz.func89 (.cons zbG (.cons zn5 .nil)) trivial
structure zf where
 zbk:Bool->Str->zh->zEi
 zbS:Int->zh->za6
 zcw:zh->Int->Str->Int->Str->(List Str)->(List zg)->OT4
 zcQ:zh->Int->Str->Int->Str->(List Str)->(List zg)->OT4
 zbs:zh->za6
 zbx:zh->za6
 zcD:zh->za6
 zay:zh->zij
 zcc:Int->zh->za6
 zb1:zh->zij
 zcC:zh->zij
 zcX:zh->zij
 zdU:zh->zij
 zct:zh->Int->Str->Int->Str->(List Str)->(List zg)->OT6
 zd2:zh->Int->Str->Int->Str->(List Str)->(List zg)->OT6
 zav:zh->zij
 zby:Str->Bool->zh->zEi
 zdJ:Str->Bool->zh->(List zg)->zDI
 zc7:zh->Str->(List zg)->Bool->OT8
 zc5:zh->Str->(List zg)->Bool->OT8
 zcZ:zh->(List zg)->zDI
 zcV:Str->Bool->zh->Int->Str->Int->Str->(List Str)->(List zg)->OT5
 zda:zh->Str->Int->Str->Int->Str->(List Str)->(List zg)->Bool->OT3
 zc4:zh->Str->Int->Str->Int->Str->(List Str)->(List zg)->Bool->OT3
 zdc:zh->Int->Str->Int->Str->(List Str)->(List zg)->OT5
 zbY:zg->Bool->zh->za6
 zcs:zh->Int->Str->Int->Str->(List Str)->(List zg)->OT6
 zc8:zh->Int->Str->Int->Str->(List Str)->(List zg)->OT6
 zcx:zh->Int->Str->Int->Str->(List Str)->(List zg)->OT6
 zdt:zh->Int->Str->Int->Str->(List Str)->(List zg)->OT6
 zde:zh->za6
 zbF:zh->za6
 zbh:zh->za6
 zdW:zh->za6
 zcN:Str->zh->zij
 zei:zh->za6
 zdE:zh->za6
def zmP:Shape:=⟨[(0,.ptr 0 0),(1,.bool),(2,.str)],[.whole 48 48]⟩
def zi4:List zI:=[⟨false,.sl 25,[.whole 48 48]⟩,⟨true,.err,[.whole 48 48]⟩]
def zgu(b:zf):=callee Y [] zmP zi4 (u3 b.zbk)
def zlo:Shape:=⟨[(0,.ptr 0 0),(1,.int .i64)],[.whole 48 48]⟩
def zhL:List zI:=[⟨true,.err,[.whole 48 48]⟩,⟨false,.st 25,[.whole 48 48]⟩]
def zlq(b:zf):=callee Y [] zlo zhL (u2 b.zbS)
def zkC:Shape:=⟨[(0,.ptr 0 0),(1,.fn 81 [.ptr 1 0,.ptr 2 0])],zb3⟩
def zgT:List zI:=[⟨false,.tup [],[.whole 48 48,.cells 46 [.ptr 0 0],.cells 25 [.int .i64,.str,.int .i64,.str,.own 3,.sl 25],.arr 9,.arr 25]⟩,⟨true,.err,zb3⟩]
def zkV(b:zf):=callee Y [] zkC zgT (u7 b.zcw)
def zj9:Shape:=⟨[(0,.ptr 0 0),(1,.ptr 2 0)],zmS⟩
def zgp:List zI:=[⟨false,.tup [],[.cells 46 [.ptr 1 0],.whole 48 48,.cells 25 [.int .i64,.str,.int .i64,.str,.own 3,.sl 25],.arr 9,.arr 25]⟩,⟨true,.err,zmS⟩]
def zp9(b:zf):=callee Y [] zj9 zgp (u7 b.zcQ)
def zn4:Shape:=⟨[(0,.ptr 0 0)],[.whole 48 48]⟩
def zjL:List zI:=[⟨true,.err,[.whole 48 48]⟩,⟨false,.st 25,[.whole 48 48]⟩]
def zyh(b:zf):=callee Y [] zn4 zjL (λz=>b.zbs z.1)
def zno:Shape:=⟨[(0,.ptr 0 0)],[.whole 48 48]⟩
def zjl:List zI:=[⟨true,.err,[.whole 48 48]⟩,⟨false,.st 25,[.whole 48 48]⟩]
def zxm(b:zf):=callee Y [] zno zjl (λz=>b.zbx z.1)
def znK:Shape:=⟨[(0,.ptr 0 0)],[.whole 48 48]⟩
def zjO:List zI:=[⟨true,.err,[.whole 48 48]⟩,⟨false,.st 25,[.whole 48 48]⟩]
def zxV(b:zf):=callee Y [] znK zjO (λz=>b.zcD z.1)
def zmp:Shape:=⟨[(0,.ptr 0 0)],[.whole 48 48]⟩
def ziP:List zI:=[⟨false,.st 25,[.whole 48 48]⟩,⟨true,.err,[.whole 48 48]⟩]
def zmi(b:zf):=callee Y [] zmp ziP (λz=>b.zay z.1)
def zmv:Shape:=⟨[(0,.ptr 0 0),(1,.int .i64)],[.whole 48 48]⟩
def zit:List zI:=[⟨true,.err,[.whole 48 48]⟩,⟨false,.st 25,[.whole 48 48]⟩]
def zmE(b:zf):=callee Y [] zmv zit (u2 b.zcc)
def zm2:Shape:=⟨[(0,.ptr 0 0)],[.whole 48 48]⟩
def zi5:List zI:=[⟨false,.st 25,[.whole 48 48]⟩,⟨true,.err,[.whole 48 48]⟩]
def zxe(b:zf):=callee Y [] zm2 zi5 (λz=>b.zb1 z.1)
def zn1:Shape:=⟨[(0,.ptr 0 0)],[.whole 48 48]⟩
def zjS:List zI:=[⟨false,.st 25,[.whole 48 48]⟩,⟨true,.err,[.whole 48 48]⟩]
def zyu(b:zf):=callee Y [] zn1 zjS (λz=>b.zcC z.1)
def zlR:Shape:=⟨[(0,.ptr 0 0)],[.whole 48 48]⟩
def zie:List zI:=[⟨false,.st 25,[.whole 48 48]⟩,⟨true,.err,[.whole 48 48]⟩]
def ztD(b:zf):=callee Y [] zlR zie (λz=>b.zcX z.1)
def znH:Shape:=⟨[(0,.ptr 0 0)],[.whole 48 48]⟩
def zj3:List zI:=[⟨false,.st 25,[.whole 48 48]⟩,⟨true,.err,[.whole 48 48]⟩]
def zye(b:zf):=callee Y [] znH zj3 (λz=>b.zdU z.1)
def zkv:Shape:=⟨[(0,.ptr 0 0),(1,.fn 241 [.ptr 1 0,.ptr 2 0])],zb3⟩
def zg2:List zI:=[⟨false,.tup [],zQw⟩,⟨true,.err,zb3⟩]
def zkD(b:zf):=callee Y [] zkv zg2 (u7 b.zct)
def zmn:Shape:=⟨[(0,.ptr 0 0),(1,.ptr 2 0)],zmS⟩
def ziE:List zI:=[⟨false,.tup [],zOU⟩,⟨true,.err,zmS⟩]
def zvw(b:zf):=callee Y [] zmn ziE (u7 b.zd2)
def znP:Shape:=⟨[(0,.ptr 0 0)],[.whole 48 48]⟩
def zjT:List zI:=[⟨false,.st 25,[.whole 48 48]⟩,⟨true,.err,[.whole 48 48]⟩]
def zyb(b:zf):=callee Y [] znP zjT (λz=>b.zav z.1)
def znr:Shape:=⟨[(0,.ptr 0 0),(1,.str),(2,.bool)],[.whole 48 48]⟩
def zjn:List zI:=[⟨false,.sl 25,[.whole 48 48]⟩,⟨true,.err,[.whole 48 48]⟩]
def zja(b:zf):=callee Y [] znr zjn (u3 b.zby)
def zlC:Shape:=⟨[(0,.ptr 0 0),(1,.str),(2,.bool),(3,.fn 236 [.ptr 1 0,.ptr 2 0])],zD8⟩
def zh5:List zI:=[⟨false,.tup [],zD8⟩,⟨true,.err,zD8⟩]
def zlP(b:zf):=callee Y [] zlC zh5 (u4 b.zdJ)
def zkL:Shape:=⟨[(0,.ptr 0 0),(1,.fn 133 [.ptr 1 0,.ptr 2 0,.ptr 3 0,.ptr 7 0])],om5⟩
def zg4:List zI:=[⟨false,.tup [],om5⟩,⟨true,.err,om5⟩]
def zkJ(b:zf):=callee Y [] zkL zg4 (u4 b.zc7)
def zkK:Shape:=⟨[(0,.ptr 0 0),(1,.ptr 2 0),(2,.ptr 3 0),(3,.ptr 7 0)],om4⟩
def zg1:List zI:=[⟨false,.tup [],om4⟩,⟨true,.err,om4⟩]
def zk7(b:zf):=callee Y [] zkK zg1 (u4 b.zc5)
def zlM:Shape:=⟨[(0,.ptr 0 0),(1,.ptr 2 0)],zQt⟩
def zh9:List zI:=[⟨false,.tup [],zQt⟩,⟨true,.err,zQt⟩]
def zt6(b:zf):=callee Y [] zlM zh9 (u2 b.zcZ)
def zlz:Shape:=⟨[(0,.ptr 0 0),(1,.str),(2,.bool),(3,.fn 242 [.ptr 1 0,.ptr 2 0])],zb3⟩
def zil:List zI:=[⟨true,.err,zb3⟩,⟨false,.tup [],zb3⟩]
def zlA(b:zf):=callee Y [] zlz zil (u9 b.zcV)
def zky:Shape:=⟨[(0,.ptr 0 0),(1,.fn 133 [.ptr 1 0,.ptr 2 0,.ptr 3 0,.ptr 8 0])],om1⟩
def zgX:List zI:=[⟨true,.err,om1⟩,⟨false,.tup [],om1⟩]
def zk5(b:zf):=callee Y [] zky zgX (u9 b.zda)
def zkT:Shape:=⟨[(0,.ptr 0 0),(1,.ptr 2 0),(2,.ptr 3 0),(3,.ptr 8 0)],om0⟩
def zgZ:List zI:=[⟨true,.err,om0⟩,⟨false,.tup [],om0⟩]
def zkP(b:zf):=callee Y [] zkT zgZ (u9 b.zc4)
def zmL:Shape:=⟨[(0,.ptr 0 0),(1,.ptr 2 0)],zmS⟩
def ziI:List zI:=[⟨true,.err,zmS⟩,⟨false,.tup [],zmS⟩]
def zuD(b:zf):=callee Y [] zmL ziI (u7 b.zdc)
def zlI:Shape:=⟨[(0,.ptr 0 0),(1,.st 25),(2,.bool)],[.whole 48 48]⟩
def zii:List zI:=[⟨true,.err,[.whole 48 48]⟩,⟨false,.st 25,[.whole 48 48]⟩]
def zuf(b:zf):=callee Y [] zlI zii (u3 b.zbY)
def zk6:Shape:=⟨[(0,.ptr 0 0),(1,.fn 222 [.ptr 1 0,.ptr 2 0])],zb3⟩
def zg6:List zI:=[⟨false,.tup [],zQw⟩,⟨true,.err,zb3⟩]
def zkG(b:zf):=callee Y [] zk6 zg6 (u7 b.zcs)
def zkW:Shape:=⟨[(0,.ptr 0 0),(1,.ptr 2 0)],zmS⟩
def zha:List zI:=[⟨false,.tup [],zOU⟩,⟨true,.err,zmS⟩]
def zsi(b:zf):=callee Y [] zkW zha (u7 b.zc8)
def zkS:Shape:=⟨[(0,.ptr 0 0),(1,.fn 167 [.ptr 1 0,.ptr 2 0])],zb3⟩
def zgV:List zI:=[⟨false,.tup [],zQw⟩,⟨true,.err,zb3⟩]
def zkR(b:zf):=callee Y [] zkS zgV (u7 b.zcx)
def zlh:Shape:=⟨[(0,.ptr 0 0),(1,.ptr 2 0)],zmS⟩
def zhN:List zI:=[⟨false,.tup [],zOU⟩,⟨true,.err,zmS⟩]
def zsy(b:zf):=callee Y [] zlh zhN (u7 b.zdt)
def zmx:Shape:=⟨[(0,.ptr 0 0)],[.whole 48 48]⟩
def ziJ:List zI:=[⟨true,.err,[.whole 48 48]⟩,⟨false,.st 25,[.whole 48 48]⟩]
def zvo(b:zf):=callee Y [] zmx ziJ (λz=>b.zde z.1)
def znN:Shape:=⟨[(0,.ptr 0 0)],[.whole 48 48]⟩
def zj6:List zI:=[⟨true,.err,[.whole 48 48]⟩,⟨false,.st 25,[.whole 48 48]⟩]
def zyp(b:zf):=callee Y [] znN zj6 (λz=>b.zbF z.1)
def znX:Shape:=⟨[(0,.ptr 0 0)],[.whole 48 48]⟩
def zj0:List zI:=[⟨true,.err,[.whole 48 48]⟩,⟨false,.st 25,[.whole 48 48]⟩]
def zx0(b:zf):=callee Y [] znX zj0 (λz=>b.zbh z.1)
def znF:Shape:=⟨[(0,.ptr 0 0)],[.whole 48 48]⟩
def zj5:List zI:=[⟨true,.err,[.whole 48 48]⟩,⟨false,.st 25,[.whole 48 48]⟩]
def zx2(b:zf):=callee Y [] znF zj5 (λz=>b.zdW z.1)
def zm0:Shape:=⟨[(0,.ptr 0 0),(1,.str)],[.whole 48 48]⟩
def zjo:List zI:=[⟨false,.st 25,[.whole 48 48]⟩,⟨true,.err,[.whole 48 48]⟩]
def zw2(b:zf):=callee Y [] zm0 zjo (u2 b.zcN)
def zph:Shape:=⟨[(0,.ptr 0 0)],[.whole 48 48]⟩
def zk0:List zI:=[⟨true,.err,[.whole 48 48]⟩,⟨false,.st 25,[.whole 48 48]⟩]
def zy3(b:zf):=callee Y [] zph zk0 (λz=>b.zei z.1)
def zni:Shape:=⟨[(0,.ptr 0 0)],[.whole 48 48]⟩
def zi6:List zI:=[⟨true,.err,[.whole 48 48]⟩,⟨false,.st 25,[.whole 48 48]⟩]
def zwQ(b:zf):=callee Y [] zni zi6 (λz=>b.zdE z.1)
structure zF (g_:zf):Prop where
 zbk:COk hY Tryz.prog zam 20 (zgu g_)
 zbS:COk hY Tryz.prog zam 37 (zlq g_)
 zcw:COk hY Tryz.prog zam 80 (zkV g_)
 zcQ:COk hY Tryz.prog zam 81 (zp9 g_)
 zbs:COk hY Tryz.prog zam 38 (zyh g_)
 zbx:COk hY Tryz.prog zam 82 (zxm g_)
 zcD:COk hY Tryz.prog zam 83 (zxV g_)
 zay:COk hY Tryz.prog zam 134 (zmi g_)
 zcc:COk hY Tryz.prog zam 166 (zmE g_)
 zb1:COk hY Tryz.prog zam 189 (zxe g_)
 zcC:COk hY Tryz.prog zam 211 (zyu g_)
 zcX:COk hY Tryz.prog zam 224 (ztD g_)
 zdU:COk hY Tryz.prog zam 237 (zye g_)
 zct:COk hY Tryz.prog zam 80 (zkD g_)
 zd2:COk hY Tryz.prog zam 241 (zvw g_)
 zav:COk hY Tryz.prog zam 91 (zyb g_)
 zby:COk hY Tryz.prog zam 223 (zja g_)
 zdJ:COk hY Tryz.prog zam 78 (zlP g_)
 zc7:COk hY Tryz.prog zam 80 (zkJ g_)
 zc5:COk hY Tryz.prog zam 133 (zk7 g_)
 zcZ:COk hY Tryz.prog zam 236 (zt6 g_)
 zcV:COk hY Tryz.prog zam 78 (zlA g_)
 zda:COk hY Tryz.prog zam 80 (zk5 g_)
 zc4:COk hY Tryz.prog zam 133 (zkP g_)
 zdc:COk hY Tryz.prog zam 242 (zuD g_)
 zbY:COk hY Tryz.prog zam 210 (zuf g_)
 zcs:COk hY Tryz.prog zam 80 (zkG g_)
 zc8:COk hY Tryz.prog zam 222 (zsi g_)
 zcx:COk hY Tryz.prog zam 80 (zkR g_)
 zdt:COk hY Tryz.prog zam 167 (zsy g_)
 zde:COk hY Tryz.prog zam 85 (zvo g_)
 zbF:COk hY Tryz.prog zam 86 (zyp g_)
 zbh:COk hY Tryz.prog zam 87 (zx0 g_)
 zdW:COk hY Tryz.prog zam 88 (zx2 g_)
 zcN:COk hY Tryz.prog zam 135 (zw2 g_)
 zei:COk hY Tryz.prog zam 92 (zy3 g_)
 zdE:COk hY Tryz.prog zam 93 (zwQ g_)
def zeq(j:zf)(d:Bool)(e:Str)(f:zh)(b:List zg)(k:Int)(l:Str)(m:Int)(n:Str)(o:List Str)(p:List zg):OT7:=(j.zbs (zk f)).bind λg=>(match g with| .inl c=>some (.inr (.inr (c.1,(zk c.2.1),())))| .inr a=>(room (b.length+([(zA a.1)]:List zg).length)).bind λ_=>let h:=b++[(zA a.1)];some (.inl (d,e,(zk a.2.1),h,())))
def zer(h:zf):Bool×Str×zh×(List zg)×Unit->OT7| (c,d,j,a,())=>(za5 d (zk j)).bind λb=>(if(!b.1)=true then(zN b.2.1.t 0).bind λk=>some (k.Kind !=0)else some false).bind λl=>if l=true then if c=true then(zG [102,117,110,99,116,105,111,110] (zk b.2.1)).bind λe=>if e.1=true then(h.zbS 39 (zk e.2.1)).bind λm=>(match m with| .inl i=>some (.inr (.inr (i.1,(zk i.2.1),())))| .inr f=>(room (a.length+([(zA f.1)]:List zg).length)).bind λ_=>let n:=a++[(zA f.1)];some (.inl (c,d,(zk f.2.1),n,())))else zeq h c d (zk e.2.1) a 0 [] 0 [] [] []else zeq h c d (zk b.2.1) a 0 [] 0 [] [] []else some (.inr (.inl (a,(zk b.2.1),())))
def zgr(d:zf)(b:Bool)(c:Str)(x:zh):zEi:=Lp.loop (zer d) (b,c,(zk x),[],())
def zwu(b:zf):=callee Y [] zmP zi4 (u3 (zgr b))
def zxp(b:zf):zY Y (zO Y zi4):=(.loop [[7,5,1,2],[8,5,1,2],[6,1,2],[2,2]] ⟨[(0,.ptr 0 0),(1,.bool),(2,.str),(6,.own 1)],[.whole 48 48,.arr 25]⟩ (zer b) (.join [[4,2,1,2,5,2,7,5,1,2],[2,2,5,2,7,5,1,2],[6,2,7,5,1,2],[8,5,1,2],[6,1,2],[2,2]] ⟨[(0,.ptr 0 0),(1,.bool),(2,.str),(6,.own 1),(7,.ptr 2 0)],[.whole 48 48,.arr 25,oc0 3 4,.arr 9,.arr 25]⟩ (u10 (zeq b)) .nil) .nil)
theorem zs4(b:zf)(d:zF b):K8 20 (zwu b):=f8 (zxp b) Tryz.func20 (.cons zcq (.cons zaz (.cons d.zbS (.cons d.zbs .nil)))) ⟨λz=>by kernel_rfl,⟨λz=>by kernel_rfl,⟨⟩⟩,trivial⟩
def zgU(o:zf)(d:zh)(p:Int)(q:Str)(r:Int)(s:Str)(e:Int)(f:Str)(g:Int)(h:Str)(t:List Str)(u:List zg)(i:List Str)(j:List zg):za6:=(o.zcw (zk d) e f g h i j).bind λk=>(match k with| .inl a=>(zac [125] (zk a.1)).bind λl=>(match l with| .inl b=>some (.inl (b.1,(zk b.2.1),()))| .inr m=>some (.inr (⟨a.2.1,a.2.2.1,a.2.2.2.1,a.2.2.2.2.1,a.2.2.2.2.2.2.1,a.2.2.2.2.2.1⟩,(zk m.1),())))| .inr c=>some (.inl (c.1,(zk c.2.1),())))
def zg3(r:zf)(b:zh)(c:Int)(d:Str)(e:Int)(f:Str)(g:Int)(h:Str)(i:Int)(j:Str)(k:List Str)(l:List zg)(m:List Str)(n:List zg):za6:=(zac [123] (zk b)).bind λo=>(match o with| .inl a=>some (.inl (a.1,(zk a.2.1),()))| .inr p=>zgU r (zk p.1) c d e f g h i j k l m n)
def zg7(r:zf)(c:zh)(d:Int)(e:Str)(f:Int)(g:Str)(h:Int)(i:Str)(j:Int)(k:Str)(l:List Str)(m:List zg)(n:List Str)(o:List zg):za6:=(zin [41] false (zk c) h i j k n o).bind λp=>(match p with| .inl b=>some (.inl (b.1,(zk b.2.1),()))| .inr a=>zg3 r (zk a.1) d e f g a.2.1 a.2.2.1 a.2.2.2.1 a.2.2.2.2.1 l m a.2.2.2.2.2.1 a.2.2.2.2.2.2.1)
def zdB(r:zf)(b:zh)(c:Int)(d:Str)(e:Int)(f:Str)(g:Int)(h:Str)(i:Int)(j:Str)(k:List Str)(l:List zg)(m:List Str)(n:List zg):za6:=(zac [40] (zk b)).bind λo=>(match o with| .inl a=>some (.inl (a.1,(zk a.2.1),()))| .inr p=>zg7 r (zk p.1) c d e f g h i j k l m n)
def zfo(e:zf)(a:Int)(x:zh):za6:=(if(a==39)=true then some true else(zN x.t 0).bind λf=>some (f.Kind==1)).bind λg=>if g=true then(zdb (zk x)).bind λh=>(match h with| .inl b=>some (.inl (b.1,(zk b.2.1),()))| .inr c=>zdB e (zk c.2.1) 0 [] 0 [] a c.1 0 [] [] [] [] [])else zdB e (zk x) 0 [] 0 [] a [] 0 [] [] [] [] []
def zsY(b:zf):=callee Y [] zlo zhL (u2 (zfo b))
def zsJ(b:zf):zY Y (zO Y zhL):=(.join [[1,2,2,2],[2,2,2,2]] ⟨[(2,.ptr 1 0),(4,.ptr 2 0),(5,.ptr 3 0)],om7⟩ (u13 (zdB b)) (.join [[1,2,2,2,2],[2,2,2,2,2]] ⟨[(2,.ptr 1 0),(4,.ptr 2 0),(5,.ptr 3 0)],om7⟩ (u13 (zg7 b)) (.join [[1,2,2,2,2,2],[2,2,2,2,2,2]] ⟨[(2,.ptr 1 0),(4,.ptr 2 0),(5,.ptr 3 0)],om7⟩ (u13 (zg3 b)) (.join [[1,2,2,2,2,2,2],[2,2,2,2,2,2,2]] ⟨[(2,.ptr 1 0),(4,.ptr 2 0),(5,.ptr 3 0)],om7⟩ (u13 (zgU b)) .nil))))
theorem zpT(b:zf)(d:zF b):K8 37 (zsY b):=f8 (zsJ b) Tryz.func37 ((.cons ze4 (.cons zaI (.cons (COk.laid zw1) (.cons (COk.laid d.zcw) .nil)))):zcy hY Tryz.prog zam [(76,(znL)),(77,(zfs)),(78,(zhv Y [⟨[(0,.ptr 0 0),(1,.str),(2,.bool),(3,.fn 79 [.ptr 1 0,.ptr 2 0])],zb3⟩,⟨[(0,.ptr 0 0),(1,.str),(2,.bool),(3,.fn 236 [.ptr 1 0,.ptr 2 0])],zD8⟩,⟨[(0,.ptr 0 0),(1,.str),(2,.bool),(3,.fn 242 [.ptr 1 0,.ptr 2 0])],zb3⟩] (znV))),(80,(zhv Y [⟨[(0,.ptr 0 0),(1,.fn 133 [.ptr 1 0,.ptr 2 0,.ptr 3 0,.ptr 8 0])],om3⟩,⟨[(0,.ptr 0 0),(1,.fn 81 [.ptr 1 0,.ptr 2 0])],zb3⟩,⟨[(0,.ptr 0 0),(1,.fn 241 [.ptr 1 0,.ptr 2 0])],zb3⟩,⟨[(0,.ptr 0 0),(1,.fn 133 [.ptr 1 0,.ptr 2 0,.ptr 3 0,.ptr 7 0])],om5⟩,⟨[(0,.ptr 0 0),(1,.fn 133 [.ptr 1 0,.ptr 2 0,.ptr 3 0,.ptr 8 0])],om1⟩,⟨[(0,.ptr 0 0),(1,.fn 222 [.ptr 1 0,.ptr 2 0])],zb3⟩,⟨[(0,.ptr 0 0),(1,.fn 167 [.ptr 1 0,.ptr 2 0])],zb3⟩] (zkV b)))]) ⟨λz=>by kernel_rfl,⟨λz=>by kernel_rfl,⟨λz=>by kernel_rfl,⟨λz=>by kernel_rfl,⟨⟩⟩⟩⟩⟩
def ze5(j:zf)(x:zh)(e:Int)(f:Str)(g:Int)(h:Str)(l:List Str)(i:List zg):OT4:=(j.zcQ ⟨x.t,false⟩ e f g h l i).bind λc=>(match c with| .inl a=>some (.inl (⟨a.1.t,x.no⟩,a.2.1,a.2.2.1,a.2.2.2.1,a.2.2.2.2.1,a.2.2.2.2.2.1,a.2.2.2.2.2.2.1,a.2.2.2.2.2.2.2.1,()))| .inr b=>some (.inr (b.1,(zk b.2.1),b.2.2.1,b.2.2.2.1,b.2.2.2.2.1,b.2.2.2.2.2.1,b.2.2.2.2.2.2.1,b.2.2.2.2.2.2.2.1,())))
def zrk(b:zf):=callee Y [] zkC zgT (u7 (ze5 b))
def zrP(b:zf):zY Y (zO Y zgT):= .nil
theorem zoZ(b:zf)(d:zF b):K8 80 (zrk b):=f8 (zrP b) Tryz.func80 (.cons d.zcQ .nil) trivial
def zez(j:zf)(x:zh)(c:Int)(d:Str)(e:Int)(f:Str)(l:List Str)(g:List zg):OT4:=(j.zbk true [125] (zk x)).bind λh=>(match h with| .inl a=>some (.inl ((zk a.2.1),c,d,e,f,a.1,l,g,()))| .inr b=>some (.inr (b.1,(zk b.2.1),c,d,e,f,l,g,())))
def zqa(b:zf):=callee Y [] zj9 zgp (u7 (zez b))
def zqo(b:zf):zY Y (zO Y zgp):= .nil
theorem zn8(b:zf)(d:zF b):K8 81 (zqa b):=f8 (zqo b) Tryz.func81 (.cons d.zbk .nil) trivial
def zhd(b:zf)(x:zh):za6:=(za5 [123] (zk x)).bind λe=>if e.1=true then(b.zbx (zk e.2.1)).bind λar=>(match ar with| .inl s=>some (.inl (s.1,(zk s.2.1),()))| .inr u=>some (.inr ((zA u.1),(zk u.2.1),())))else(zG [59] (zk e.2.1)).bind λf=>if f.1=true then some (.inr (⟨40,[],0,[],[],[]⟩,(zk f.2.1),()))else(zG [118,97,114] (zk f.2.1)).bind λg=>if g.1=true then(b.zcD (zk g.2.1)).bind λau=>(match au with| .inl v=>some (.inl (v.1,(zk v.2.1),()))| .inr y=>(zbE (zk y.2.1)).bind λav=>(match av with| .inl z=>some (.inl (z.1,(zk z.2.1),()))| .inr aw=>some (.inr ((zA y.1),(zk aw.1),()))))else(zG [105,102] (zk g.2.1)).bind λh=>if h.1=true then(b.zde (zk h.2.1)).bind λax=>(match ax with| .inl A=>some (.inl (A.1,(zk A.2.1),()))| .inr B=>some (.inr ((zA B.1),(zk B.2.1),())))else(zG [119,104,105,108,101] (zk h.2.1)).bind λi=>if i.1=true then(b.zbF (zk i.2.1)).bind λay=>(match ay with| .inl C=>some (.inl (C.1,(zk C.2.1),()))| .inr D=>(b.zbh (zk D.2.1)).bind λaz=>(match az with| .inl E=>some (.inl (E.1,(zk E.2.1),()))| .inr H=>some (.inr (⟨27,[],0,[],[],[(zA D.1),(zA H.1)]⟩,(zk H.2.1),()))))else(zG [100,111] (zk i.2.1)).bind λj=>if j.1=true then(b.zbh (zk j.2.1)).bind λa0=>(match a0 with| .inl I=>some (.inl (I.1,(zk I.2.1),()))| .inr J=>(zac [119,104,105,108,101] (zk J.2.1)).bind λa1=>(match a1 with| .inl K=>some (.inl (K.1,(zk K.2.1),()))| .inr a2=>(b.zbF (zk a2.1)).bind λa3=>(match a3 with| .inl L=>some (.inl (L.1,(zk L.2.1),()))| .inr M=>(zbE (zk M.2.1)).bind λa4=>(match a4 with| .inl N=>some (.inl (N.1,(zk N.2.1),()))| .inr a5=>some (.inr (⟨28,[],0,[],[],[(zA J.1),(zA M.1)]⟩,(zk a5.1),()))))))else(zG [102,111,114] (zk j.2.1)).bind λk=>if k.1=true then(b.zdW (zk k.2.1)).bind λa6=>(match a6 with| .inl O=>some (.inl (O.1,(zk O.2.1),()))| .inr P=>some (.inr ((zA P.1),(zk P.2.1),())))else(zG [98,114,101,97,107] (zk k.2.1)).bind λl=>if l.1=true then(zgn 31 (zk l.2.1)).bind λa7=>(match a7 with| .inl Q=>some (.inl (Q.1,(zk Q.2.1),()))| .inr R=>some (.inr ((zA R.1),(zk R.2.1),())))else(zG [99,111,110,116,105,110,117,101] (zk l.2.1)).bind λm=>if m.1=true then(zgn 32 (zk m.2.1)).bind λa8=>(match a8 with| .inl S=>some (.inl (S.1,(zk S.2.1),()))| .inr U=>some (.inr ((zA U.1),(zk U.2.1),())))else(zG [114,101,116,117,114,110] (zk m.2.1)).bind λn=>if n.1=true then(za5 [59] (zk n.2.1)).bind λo=>if(!o.1)=true then(zev (zk o.2.1)).bind λp=>if(!p.1)=true then(b.zav (zk p.2.1)).bind λa9=>(match a9 with| .inl V=>(zbE (zk V.2.1)).bind λba=>(match ba with| .inl W=>some (.inl (W.1,(zk W.2.1),()))| .inr bb=>some (.inr (⟨33,[],0,[],[],[(zA V.1)]⟩,(zk bb.1),())))| .inr X=>some (.inl (X.1,(zk X.2.1),())))else(zbE (zk p.2.1)).bind λbc=>(match bc with| .inl Z=>some (.inl (Z.1,(zk Z.2.1),()))| .inr bd=>some (.inr (⟨33,[],0,[],[],[]⟩,(zk bd.1),())))else(zbE (zk o.2.1)).bind λbe=>(match be with| .inl aa=>some (.inl (aa.1,(zk aa.2.1),()))| .inr bf=>some (.inr (⟨33,[],0,[],[],[]⟩,(zk bf.1),())))else(zG [116,104,114,111,119] (zk n.2.1)).bind λd=>if d.1=true then(zN d.2.1.t 0).bind λbg=>if bg.Fresh=true then(zaN (zk d.2.1)).bind λab=>some (.inl (ab.1,(zk ab.2.1),()))else(b.zav (zk d.2.1)).bind λbh=>(match bh with| .inl ac=>(zbE (zk ac.2.1)).bind λbi=>(match bi with| .inl ad=>some (.inl (ad.1,(zk ad.2.1),()))| .inr bj=>some (.inr (⟨34,[],0,[],[],[(zA ac.1)]⟩,(zk bj.1),())))| .inr ae=>some (.inl (ae.1,(zk ae.2.1),())))else(zG [116,114,121] (zk d.2.1)).bind λq=>if q.1=true then(b.zei (zk q.2.1)).bind λbk=>(match bk with| .inl af=>some (.inl (af.1,(zk af.2.1),()))| .inr ag=>some (.inr ((zA ag.1),(zk ag.2.1),())))else(zG [115,119,105,116,99,104] (zk q.2.1)).bind λr=>if r.1=true then(b.zdE (zk r.2.1)).bind λbl=>(match bl with| .inl ah=>some (.inl (ah.1,(zk ah.2.1),()))| .inr ai=>some (.inr ((zA ai.1),(zk ai.2.1),())))else(za5 [102,117,110,99,116,105,111,110] (zk r.2.1)).bind λc=>if c.1=true then(zaN (zk c.2.1)).bind λaj=>some (.inl (aj.1,(zk aj.2.1),()))else(zN c.2.1.t 0).bind λbm=>(if(bm.Kind==1)=true then(zN c.2.1.t 1).bind λbn=>some (bn.Kind==5)else some false).bind λbo=>(if bo=true then(zN c.2.1.t 1).bind λbp=>some (bp.Text==[58])else some false).bind λbq=>if bq=true then(zdb (zk c.2.1)).bind λbr=>(match br with| .inl ak=>some (.inl (ak.1,(zk ak.2.1),()))| .inr al=>(zau (zk al.2.1)).bind λbs=>(b.zbs (zk bs.2.1)).bind λbt=>(match bt with| .inl am=>some (.inl (am.1,(zk am.2.1),()))| .inr an=>some (.inr (⟨38,al.1,0,[],[],[(zA an.1)]⟩,(zk an.2.1),()))))else(b.zav (zk c.2.1)).bind λbu=>(match bu with| .inl ao=>(zbE (zk ao.2.1)).bind λbv=>(match bv with| .inl ap=>some (.inl (ap.1,(zk ap.2.1),()))| .inr bw=>some (.inr (⟨24,[],0,[],[],[(zA ao.1)]⟩,(zk bw.1),())))| .inr aq=>some (.inl (aq.1,(zk aq.2.1),())))
def zym(b:zf):=callee Y [] zn4 zjL (λz=>zhd b z.1)
def zyj(b:zf):zY Y (zO Y zjL):= .nil
theorem zus(d:zf)(b:zF d):K8 38 (zym d):=f8 (zyj d) Tryz.func38 (.cons zcq (.cons b.zbx (.cons zaz (.cons b.zcD (.cons zn5 (.cons b.zde (.cons b.zbF (.cons b.zbh (.cons zaI (.cons b.zdW (.cons zxr (.cons zmB (.cons b.zav (.cons zaX (.cons b.zei (.cons b.zdE (.cons ze4 (.cons zbG (.cons b.zbs .nil))))))))))))))))))) trivial
def zgx(k:zf)(x:zh):za6:=(zac [123] (zk x)).bind λe=>(match e with| .inl a=>some (.inl (a.1,(zk a.2.1),()))| .inr f=>(k.zbk false [125] (zk f.1)).bind λg=>(match g with| .inl b=>(zac [125] (zk b.2.1)).bind λh=>(match h with| .inl c=>some (.inl (c.1,(zk c.2.1),()))| .inr i=>some (.inr (⟨25,[],0,[],[],b.1⟩,(zk i.1),())))| .inr d=>some (.inl (d.1,(zk d.2.1),()))))
def zwm(b:zf):=callee Y [] zno zjl (λz=>zgx b z.1)
def zvR(b:zf):zY Y (zO Y zjl):= .nil
theorem zsQ(b:zf)(d:zF b):K8 82 (zwm b):=f8 (zvR b) Tryz.func82 (.cons zaI (.cons d.zbk .nil)) trivial
def ziZ(p:zf)(h:zh)(i:Int)(j:Str)(k:Int)(l:Str)(b:Int)(c:Str)(d:Int)(e:Str)(m:List Str)(n:List zg)(f:List Str)(g:List zg):OT2:=(zG [44] (zk h)).bind λa=>if(!a.1)=true then some (.inr (.inr (⟨b,c,d,e,f,g⟩,(zk a.2.1),())))else some (.inl ((zk a.2.1),i,j,k,l,b,c,d,e,m,n,f,g,()))
def zeS(v:zf)(h:zh)(i:Int)(j:Str)(k:Int)(l:Str)(m:Int)(n:Str)(o:Int)(p:Str)(a:Int)(b:Str)(c:Int)(d:Str)(q:List Str)(r:List zg)(s:List Str)(e:List zg)(f:List Str)(g:List zg):OT2:=(room (e.length+([⟨a,b,c,d,f,g⟩]:List zg).length)).bind λ_=>let t:=e++[⟨a,b,c,d,f,g⟩];ziZ v (zk h) i j k l m n o p q r s t
def ze0(d:zf):zh×Int×Str×Int×Str×Int×Str×Int×Str×(List Str)×(List zg)×(List Str)×(List zg)×Unit->OT2| (t,e,f,g,h,i,j,k,l,m,n,o,p,())=>(zdb (zk t)).bind λu=>(match u with| .inl q=>some (.inr (.inl (q.1,(zk q.2.1),())))| .inr a=>(zG [61] (zk a.2.1)).bind λb=>if b.1=true then(d.zay (zk b.2.1)).bind λv=>(match v with| .inl r=>zeS d (zk r.2.1) e f g h i j k l 23 a.1 0 [] m n o p [] [(zA r.1)]| .inr s=>some (.inr (.inl (s.1,(zk s.2.1),()))))else zeS d (zk b.2.1) e f g h i j k l 23 a.1 0 [] m n o p [] [])
def zhp(b:zf)(x:zh):za6:=Lp.loop (ze0 b) ((zk x),0,[],0,[],22,[],0,[],[],[],[],[],())
def zyw(b:zf):=callee Y [] znK zjO (λz=>zhp b z.1)
def zx4(b:zf):zY Y (zO Y zjO):=(.loop [[7,5,2,2],[8,5,2,2],[6,2,2]] ⟨[(0,.ptr 0 0),(2,.ptr 1 0),(3,.ptr 2 0)],zhK⟩ (ze0 b) (.join [[1,2,2,5,7,5,2,2],[2,2,2,5,7,5,2,2],[6,7,5,2,2],[8,5,2,2],[6,2,2]] ⟨[(0,.ptr 0 0),(2,.ptr 1 0),(3,.ptr 2 0),(4,.ptr 3 0)],om6⟩ (u19 (zeS b)) (.join [[1,2,2,2,5,7,5,2,2],[2,2,2,2,5,7,5,2,2],[6,7,5,2,2],[8,5,2,2],[6,2,2]] ⟨[(0,.ptr 0 0),(2,.ptr 1 0),(3,.ptr 2 0)],zhK⟩ (u13 (ziZ b)) .nil)) .nil)
theorem zuu(b:zf)(d:zF b):K8 83 (zyw b):=f8 (zx4 b) Tryz.func83 (.cons ze4 (.cons zaz (.cons d.zay .nil))) ⟨λz=>by kernel_rfl,⟨λz=>by kernel_rfl,⟨λz=>by kernel_rfl,⟨⟩⟩⟩,trivial⟩
def zf4(c:zf)(x:zh):zij:=(c.zcc 3 (zk x)).bind λp=>(match p with| .inl f=>some (.inr (f.1,(zk f.2.1),()))| .inr a=>(zG [63] (zk a.2.1)).bind λd=>if d.1=true then(c.zcx (zk d.2.1) 0 [] 0 [] [] []).bind λq=>(match q with| .inl g=>(zac [58] (zk g.1)).bind λr=>(match r with| .inl h=>some (.inr (h.1,(zk h.2.1),()))| .inr s=>(c.zay (zk s.1)).bind λt=>(match t with| .inl i=>some (.inl (⟨19,[],0,[],[],[(zA a.1),(zA g.2.1),(zA i.1)]⟩,(zk i.2.1),()))| .inr j=>some (.inr (j.1,(zk j.2.1),()))))| .inr k=>some (.inr (k.1,(zk k.2.1),())))else(zbl [32,61,32,43,61,32,45,61,32,42,61,32,47,61,32,37,61,32] (zk d.2.1)).bind λe=>if(!e.1)=true then some (.inl ((zA a.1),(zk e.2.1),()))else(zd4 (zA a.1) (zk e.2.1)).bind λu=>(match u with| .inl l=>some (.inr (l.1,(zk l.2.1),()))| .inr v=>(zau (zk v.1)).bind λm=>(c.zay (zk m.2.1)).bind λy=>(match y with| .inl n=>some (.inl (⟨20,m.1.Text,0,[],[],[(zA a.1),(zA n.1)]⟩,(zk n.2.1),()))| .inr o=>some (.inr (o.1,(zk o.2.1),())))))
def zvb(b:zf):=callee Y [] zmp ziP (λz=>zf4 b z.1)
def zu1(b:zf):zY Y (zO Y ziP):= .nil
theorem zrC(b:zf)(d:zF b):K8 134 (zvb b):=f8 (zu1 b) Tryz.func134 ((.cons d.zcc (.cons zaz (.cons (COk.laid d.zcx) (.cons zaI (.cons d.zay (.cons zf5 (.cons zlG (.cons zbG .nil)))))))):zcy hY Tryz.prog zam [(166,(zmE b)),(36,(zhR)),(80,(zhv Y [⟨[(0,.ptr 0 0),(1,.fn 133 [.ptr 1 0,.ptr 2 0,.ptr 3 0,.ptr 8 0])],om3⟩,⟨[(0,.ptr 0 0),(1,.fn 81 [.ptr 1 0,.ptr 2 0])],zb3⟩,⟨[(0,.ptr 0 0),(1,.fn 241 [.ptr 1 0,.ptr 2 0])],zb3⟩,⟨[(0,.ptr 0 0),(1,.fn 133 [.ptr 1 0,.ptr 2 0,.ptr 3 0,.ptr 7 0])],om5⟩,⟨[(0,.ptr 0 0),(1,.fn 133 [.ptr 1 0,.ptr 2 0,.ptr 3 0,.ptr 8 0])],om1⟩,⟨[(0,.ptr 0 0),(1,.fn 222 [.ptr 1 0,.ptr 2 0])],zb3⟩,⟨[(0,.ptr 0 0),(1,.fn 167 [.ptr 1 0,.ptr 2 0])],zb3⟩] (zkR b))),(77,(zfs)),(134,(zmi b)),(136,(zmW)),(168,(zmy)),(75,(zjZ))]) trivial
def zd5(r:zf):Int×zh×Int×Str×Int×Str×zg×(List Str)×(List zg)×Unit->Option ((Int×zh×Int×Str×Int×Str×zg×(List Str)×(List zg)×Unit)⊕((zad×zh×Unit)⊕(zg×zh×Unit)))| (b,g,h,i,j,k,c,l,m,())=>(zgG (zk g)).bind λa=>let n:=((decide (a.1<b))||(a.1==0));if n=true then some (.inr (.inr ((zA c),(zk a.2.2.1),())))else(zau (zk a.2.2.1)).bind λd=>let o:=(IntKind.wrap .i64 (a.1+1));fd ((r.zcc o (zk d.2.1)).bind λp=>(match p with| .inl e=>some (.inr (.inl (e.1,(zk e.2.1),())))| .inr f=>some (.inl (b,(zk f.2.1),h,i,j,k,⟨a.2.1,d.1.Text,0,[],[],[(zA c),(zA f.1)]⟩,l,m,()))))
def zf1(d:zf)(f:Int)(x:zh):za6:=(d.zb1 (zk x)).bind λe=>(match e with| .inl a=>Lp.loop (zd5 d) (f,(zk a.2.1),0,[],0,[],(zA a.1),[],[],())| .inr b=>some (.inl (b.1,(zk b.2.1),())))
def zvy(b:zf):=callee Y [] zmv zit (u2 (zf1 b))
def zvd(b:zf):zY Y (zO Y zit):=(.loop [[7,5,2,2],[8,5,2,2],[6,2,2]] ⟨[(0,.ptr 0 0),(1,.int .i64),(4,.ptr 1 0),(5,.ptr 2 0)],zL9⟩ (zd5 b) .nil .nil)
theorem zr3(b:zf)(d:zF b):K8 166 (zvy b):=f8 (zvd b) Tryz.func166 (.cons d.zb1 (.cons zsE (.cons zbG (.cons d.zcc .nil)))) ⟨λz=>by kernel_rfl,trivial,trivial⟩
def zgB(d:zf)(x:zh):zij:=(zbl [32,45,32,43,32,33,32,116,121,112,101,111,102,32,100,101,108,101,116,101,32,118,111,105,100,32] (zk x)).bind λe=>if e.1=true then(zau (zk e.2.1)).bind λh=>(d.zb1 (zk h.2.1)).bind λs=>(match s with| .inl i=>some (.inl (⟨15,h.1.Text,0,[],[],[(zA i.1)]⟩,(zk i.2.1),()))| .inr j=>some (.inr (j.1,(zk j.2.1),())))else(zbl [32,43,43,32,45,45,32] (zk e.2.1)).bind λf=>if f.1=true then(zau (zk f.2.1)).bind λk=>(d.zb1 (zk k.2.1)).bind λu=>(match u with| .inl g=>(zd4 (zA g.1) (zk g.2.1)).bind λv=>(match v with| .inl l=>some (.inr (l.1,(zk l.2.1),()))| .inr y=>some (.inl (⟨16,k.1.Text,1,[],[],[(zA g.1)]⟩,(zk y.1),())))| .inr m=>some (.inr (m.1,(zk m.2.1),())))else(d.zcC (zk f.2.1)).bind λz=>(match z with| .inl n=>(d.zbY (zA n.1) true (zk n.2.1)).bind λA=>(match A with| .inl o=>some (.inr (o.1,(zk o.2.1),()))| .inr a=>(zbl [32,43,43,32,45,45,32] (zk a.2.1)).bind λb=>(if(!b.1)=true then some true else(zN b.2.1.t 0).bind λB=>some B.Fresh).bind λC=>if C=true then some (.inl ((zA a.1),(zk b.2.1),()))else(zd4 (zA a.1) (zk b.2.1)).bind λD=>(match D with| .inl p=>some (.inr (p.1,(zk p.2.1),()))| .inr E=>fd ((zau (zk E.1)).bind λq=>some (.inl (⟨16,q.1.Text,0,[],[],[(zA a.1)]⟩,(zk q.2.1),())))))| .inr r=>some (.inr (r.1,(zk r.2.1),())))
def zwe(b:zf):=callee Y [] zm2 zi5 (λz=>zgB b z.1)
def zxt(b:zf):zY Y (zO Y zi5):= .nil
theorem zs3(c:zf)(d:zF c):K8 189 (zwe c):=f8 (zxt c) Tryz.func189 (.cons zf5 (.cons zbG (.cons d.zb1 (.cons zlG (.cons d.zcC (.cons d.zbY .nil)))))) trivial
def zhw(c:zf)(x:zh):zij:=(zG [110,101,119] (zk x)).bind λd=>if(!d.1)=true then(c.zcX (zk d.2.1)).bind λm=>(match m with| .inl g=>some (.inl ((zA g.1),(zk g.2.1),()))| .inr h=>some (.inr (h.1,(zk h.2.1),())))else(c.zcC (zk d.2.1)).bind λn=>(match n with| .inl i=>(c.zbY (zA i.1) false (zk i.2.1)).bind λo=>(match o with| .inl j=>some (.inr (j.1,(zk j.2.1),()))| .inr a=>(zG [40] (zk a.2.1)).bind λe=>if e.1=true then fd ((c.zby [41] false (zk e.2.1)).bind λp=>(match p with| .inl f=>(room (([(zA a.1)]:List zg).length+f.1.length)).bind λ_=>let q:=[(zA a.1)]++f.1;some (.inl (⟨14,[],0,[],[],q⟩,(zk f.2.1),()))| .inr k=>some (.inr (k.1,(zk k.2.1),()))))else some (.inl (⟨14,[],0,[],[],[(zA a.1)]⟩,(zk e.2.1),())))| .inr l=>some (.inr (l.1,(zk l.2.1),())))
def zxM(b:zf):=callee Y [] zn1 zjS (λz=>zhw b z.1)
def zx1(b:zf):zY Y (zO Y zjS):= .nil
theorem zt0(d:zf)(b:zF d):K8 211 (zxM d):=f8 (zx1 d) Tryz.func211 (.cons zaz (.cons b.zcX (.cons b.zcC (.cons b.zbY (.cons b.zby .nil))))) trivial
def zfS(i:zf)(x:zh):zij:=(zN x.t 0).bind λa=>if(a.Kind==1)=true then(zau (zk x)).bind λd=>some (.inl (⟨3,a.Text,0,[],[],[]⟩,(zk d.2.1),()))else if(a.Kind==3)=true then(zau (zk x)).bind λe=>some (.inl (⟨1,[],a.Num,[],[],[]⟩,(zk e.2.1),()))else if(a.Kind==4)=true then(zau (zk x)).bind λf=>some (.inl (⟨2,[],0,a.Text,[],[]⟩,(zk f.2.1),()))else(i.zdU (zk x)).bind λg=>(match g with| .inl b=>some (.inl ((zA b.1),(zk b.2.1),()))| .inr c=>some (.inr (c.1,(zk c.2.1),())))
def zt5(b:zf):=callee Y [] zlR zie (λz=>zfS b z.1)
def zun(b:zf):zY Y (zO Y zie):= .nil
theorem zqf(b:zf)(d:zF b):K8 224 (zt5 b):=f8 (zun b) Tryz.func224 (.cons zbG (.cons d.zdU .nil)) trivial
def zhr(c:zf)(x:zh):zij:=(zG [116,104,105,115] (zk x)).bind λd=>if d.1=true then some (.inl (⟨4,[],0,[],[],[]⟩,(zk d.2.1),()))else(zG [110,117,108,108] (zk d.2.1)).bind λe=>if e.1=true then some (.inl (⟨5,[],0,[],[],[]⟩,(zk e.2.1),()))else(zG [102,97,108,115,101] (zk e.2.1)).bind λf=>if f.1=true then some (.inl (⟨6,[],0,[],[],[]⟩,(zk f.2.1),()))else(zG [116,114,117,101] (zk f.2.1)).bind λg=>if g.1=true then some (.inl (⟨6,[],1,[],[],[]⟩,(zk g.2.1),()))else(zG [102,117,110,99,116,105,111,110] (zk g.2.1)).bind λh=>if h.1=true then(c.zbS 10 (zk h.2.1)).bind λu=>(match u with| .inl l=>some (.inr (l.1,(zk l.2.1),()))| .inr m=>some (.inl ((zA m.1),(zk m.2.1),())))else(zG [40] (zk h.2.1)).bind λi=>if i.1=true then(c.zct (zk i.2.1) 0 [] 0 [] [] []).bind λv=>(match v with| .inl n=>(zac [41] (zk n.1)).bind λy=>(match y with| .inl o=>some (.inr (o.1,(zk o.2.1),()))| .inr z=>some (.inl ((zA n.2.1),(zk z.1),())))| .inr p=>some (.inr (p.1,(zk p.2.1),())))else(zG [91] (zk i.2.1)).bind λj=>if j.1=true then(c.zby [93] true (zk j.2.1)).bind λA=>(match A with| .inl q=>some (.inl (⟨7,[],0,[],[],q.1⟩,(zk q.2.1),()))| .inr r=>some (.inr (r.1,(zk r.2.1),())))else(zG [123] (zk j.2.1)).bind λk=>if k.1=true then(c.zcV [125] true (zk k.2.1) 8 [] 0 [] [] []).bind λB=>(match B with| .inl s=>some (.inr (s.1,(zk s.2.1),()))| .inr a=>some (.inl (⟨a.2.1,a.2.2.1,a.2.2.2.1,a.2.2.2.2.1,a.2.2.2.2.2.1,a.2.2.2.2.2.2.1⟩,(zk a.1),())))else(zaN (zk k.2.1)).bind λt=>some (.inr (t.1,(zk t.2.1),()))
def zyi(b:zf):=callee Y [] znH zj3 (λz=>zhr b z.1)
def zxU(b:zf):zY Y (zO Y zj3):= .nil
theorem zt4(b:zf)(d:zF b):K8 237 (zyi b):=f8 (zxU b) Tryz.func237 ((.cons zaz (.cons d.zbS (.cons (COk.laid d.zct) (.cons zaI (.cons d.zby (.cons (COk.laid d.zcV) (.cons zaX .nil))))))):zcy hY Tryz.prog zam [(36,(zhR)),(37,(zlq b)),(80,(zhv Y [⟨[(0,.ptr 0 0),(1,.fn 133 [.ptr 1 0,.ptr 2 0,.ptr 3 0,.ptr 8 0])],om3⟩,⟨[(0,.ptr 0 0),(1,.fn 81 [.ptr 1 0,.ptr 2 0])],zb3⟩,⟨[(0,.ptr 0 0),(1,.fn 241 [.ptr 1 0,.ptr 2 0])],zb3⟩,⟨[(0,.ptr 0 0),(1,.fn 133 [.ptr 1 0,.ptr 2 0,.ptr 3 0,.ptr 7 0])],om5⟩,⟨[(0,.ptr 0 0),(1,.fn 133 [.ptr 1 0,.ptr 2 0,.ptr 3 0,.ptr 8 0])],om1⟩,⟨[(0,.ptr 0 0),(1,.fn 222 [.ptr 1 0,.ptr 2 0])],zb3⟩,⟨[(0,.ptr 0 0),(1,.fn 167 [.ptr 1 0,.ptr 2 0])],zb3⟩] (zkD b))),(77,(zfs)),(223,(zja b)),(78,(zhv Y [⟨[(0,.ptr 0 0),(1,.str),(2,.bool),(3,.fn 79 [.ptr 1 0,.ptr 2 0])],zb3⟩,⟨[(0,.ptr 0 0),(1,.str),(2,.bool),(3,.fn 236 [.ptr 1 0,.ptr 2 0])],zD8⟩,⟨[(0,.ptr 0 0),(1,.str),(2,.bool),(3,.fn 242 [.ptr 1 0,.ptr 2 0])],zb3⟩] (zlA b))),(21,(zfy))]) trivial
def zeR(j:zf)(x:zh)(e:Int)(f:Str)(g:Int)(h:Str)(l:List Str)(i:List zg):OT6:=(j.zd2 ⟨x.t,false⟩ e f g h l i).bind λc=>(match c with| .inl b=>some (.inl (⟨b.1.t,x.no⟩,(zA b.2.1),b.2.2.1,b.2.2.2.1,()))| .inr a=>some (.inr (a.1,(zk a.2.1),a.2.2.1,a.2.2.2.1,a.2.2.2.2.1,a.2.2.2.2.2.1,a.2.2.2.2.2.2.1,a.2.2.2.2.2.2.2.1,())))
def zq7(b:zf):=callee Y [] zkv zg2 (u7 (zeR b))
def zsf(b:zf):zY Y (zO Y zg2):= .nil
theorem zoO(b:zf)(d:zF b):K8 80 (zq7 b):=f8 (zsf b) Tryz.func80 (.cons d.zd2 .nil) trivial
def zfZ(j:zf)(x:zh)(f:Int)(g:Str)(h:Int)(i:Str)(l:List Str)(c:List zg):OT6:=(j.zav (zk x)).bind λd=>(match d with| .inl a=>some (.inl ((zk a.2.1),(zA a.1),l,c,()))| .inr b=>some (.inr (b.1,(zk b.2.1),f,g,h,i,l,c,())))
def zuX(b:zf):=callee Y [] zmn ziE (u7 (zfZ b))
def zuI(b:zf):zY Y (zO Y ziE):= .nil
theorem zr5(b:zf)(d:zF b):K8 241 (zuX b):=f8 (zuI b) Tryz.func241 (.cons d.zav .nil) trivial
def zeI(n:zf):zh×Int×Str×Int×Str×zg×(List Str)×(List zg)×Unit->Option ((zh×Int×Str×Int×Str×zg×(List Str)×(List zg)×Unit)⊕((zg×zh×Unit)⊕(zad×zh×Unit)))| (e,f,g,h,i,b,j,k,())=>(zG [44] (zk e)).bind λa=>if a.1=true then fd ((n.zay (zk a.2.1)).bind λl=>(match l with| .inl c=>some (.inl ((zk c.2.1),f,g,h,i,⟨21,[],0,[],[],[(zA b),(zA c.1)]⟩,j,k,()))| .inr d=>some (.inr (.inr (d.1,(zk d.2.1),())))))else some (.inr (.inl ((zA b),(zk a.2.1),())))
def zhm(d:zf)(x:zh):zij:=(d.zay (zk x)).bind λe=>(match e with| .inl a=>Lp.loop (zeI d) ((zk a.2.1),0,[],0,[],(zA a.1),[],[],())| .inr b=>some (.inr (b.1,(zk b.2.1),())))
def zyx(b:zf):=callee Y [] znP zjT (λz=>zhm b z.1)
def zys(b:zf):zY Y (zO Y zjT):=(.loop [[7,5,1,2,2],[8,5,1,2,2],[6,1,2,2],[2,2,2]] ⟨[(0,.ptr 0 0),(2,.ptr 1 0),(3,.ptr 2 0)],zL9⟩ (zeI b) .nil .nil)
theorem zt8(b:zf)(d:zF b):K8 91 (zyx b):=f8 (zys b) Tryz.func91 (.cons d.zay (.cons zaz .nil)) ⟨λz=>by kernel_rfl,trivial,trivial⟩
def zgE(g:zf)(e:Str)(f:Bool)(x:zh):zEi:=(g.zdJ e f (zk x) []).bind λc=>(match c with| .inl a=>some (.inl (a.2.1,(zk a.1),()))| .inr b=>some (.inr (b.1,(zk b.2.1),())))
def zv3(b:zf):=callee Y [] znr zjn (u3 (zgE b))
def zvU(b:zf):zY Y (zO Y zjn):= .nil
theorem zsH(b:zf)(d:zF b):K8 223 (zv3 b):=f8 (zvU b) Tryz.func223 ((.cons (COk.laid d.zdJ) .nil):zcy hY Tryz.prog zam [(78,(zhv Y [⟨[(0,.ptr 0 0),(1,.str),(2,.bool),(3,.fn 79 [.ptr 1 0,.ptr 2 0])],zb3⟩,⟨[(0,.ptr 0 0),(1,.str),(2,.bool),(3,.fn 236 [.ptr 1 0,.ptr 2 0])],zD8⟩,⟨[(0,.ptr 0 0),(1,.str),(2,.bool),(3,.fn 242 [.ptr 1 0,.ptr 2 0])],zb3⟩] (zlP b)))]) trivial
def zeb(g:zf)(e:Str)(f:Bool)(x:zh)(l:List zg):zDI:=(g.zc7 (zk x) e l f).bind λc=>(match c with| .inl b=>some (.inl ((zk b.1),b.2.2.1,()))| .inr a=>some (.inr (a.1,(zk a.2.1),a.2.2.2.1,())))
def zuk(b:zf):=callee Y [] zlC zh5 (u4 (zeb b))
def ztI(b:zf):zY Y (zO Y zh5):= .nil
theorem zqr(b:zf)(d:zF b):K8 78 (zuk b):=f8 (ztI b) Tryz.func78 ((.cons (COk.laid d.zc7) .nil):zcy hY Tryz.prog zam [(80,(zhv Y [⟨[(0,.ptr 0 0),(1,.fn 133 [.ptr 1 0,.ptr 2 0,.ptr 3 0,.ptr 8 0])],om3⟩,⟨[(0,.ptr 0 0),(1,.fn 81 [.ptr 1 0,.ptr 2 0])],zb3⟩,⟨[(0,.ptr 0 0),(1,.fn 241 [.ptr 1 0,.ptr 2 0])],zb3⟩,⟨[(0,.ptr 0 0),(1,.fn 133 [.ptr 1 0,.ptr 2 0,.ptr 3 0,.ptr 7 0])],om5⟩,⟨[(0,.ptr 0 0),(1,.fn 133 [.ptr 1 0,.ptr 2 0,.ptr 3 0,.ptr 8 0])],om1⟩,⟨[(0,.ptr 0 0),(1,.fn 222 [.ptr 1 0,.ptr 2 0])],zb3⟩,⟨[(0,.ptr 0 0),(1,.fn 167 [.ptr 1 0,.ptr 2 0])],zb3⟩] (zkJ b)))]) trivial
def zeJ(g:zf)(x:zh)(a:Str)(l:List zg)(f:Bool):OT8:=(g.zc5 ⟨x.t,false⟩ a l f).bind λd=>(match d with| .inl c=>some (.inl (⟨c.1.t,x.no⟩,c.2.1,c.2.2.1,c.2.2.2.1,()))| .inr b=>some (.inr (b.1,(zk b.2.1),b.2.2.1,b.2.2.2.1,b.2.2.2.2.1,())))
def zrX(b:zf):=callee Y [] zkL zg4 (u4 (zeJ b))
def zri(b:zf):zY Y (zO Y zg4):= .nil
theorem zoN(b:zf)(d:zF b):K8 80 (zrX b):=f8 (zri b) Tryz.func80 ((.cons (COk.laid d.zc5) .nil):zcy hY Tryz.prog zam [(133,(zhv Y [⟨[(0,.ptr 0 0),(1,.ptr 2 0),(2,.ptr 3 0),(3,.ptr 8 0)],om2⟩,⟨[(0,.ptr 0 0),(1,.ptr 2 0),(2,.ptr 3 0),(3,.ptr 7 0)],om4⟩,⟨[(0,.ptr 0 0),(1,.ptr 2 0),(2,.ptr 3 0),(3,.ptr 8 0)],om0⟩] (zk7 b)))]) trivial
def zdm(p:zf):zh×Str×(List zg)×Bool×Unit->Option ((zh×Str×(List zg)×Bool×Unit)⊕((zh×Str×(List zg)×Bool×Unit)⊕(zad×zh×Str×(List zg)×Bool×Unit)))| (l,a,h,b,())=>(zG a (zk l)).bind λd=>if(!d.1)=true then(p.zcZ (zk d.2.1) h).bind λm=>(match m with| .inl c=>(zG a (zk c.1)).bind λe=>if e.1=true then some (.inr (.inl ((zk e.2.1),a,c.2.1,b,())))else(zac [44] (zk e.2.1)).bind λn=>(match n with| .inl i=>some (.inr (.inr (i.1,(zk i.2.1),a,c.2.1,b,())))| .inr j=>if(!b)=true then(za5 a (zk j.1)).bind λf=>if f.1=true then(zaN (zk f.2.1)).bind λk=>some (.inr (.inr (k.1,(zk k.2.1),a,c.2.1,b,())))else some (.inl ((zk f.2.1),a,c.2.1,b,()))else some (.inl ((zk j.1),a,c.2.1,b,())))| .inr g=>some (.inr (.inr (g.1,(zk g.2.1),a,g.2.2.1,b,()))))else some (.inr (.inl ((zk d.2.1),a,h,b,())))
def ze1(d:zf)(x:zh)(a:Str)(l:List zg)(c:Bool):OT8:=Lp.loop (zdm d) ((zk x),a,l,c,())
def zrI(b:zf):=callee Y [] zkK zg1 (u4 (ze1 b))
def zrd(b:zf):zY Y (zO Y zg1):=(.loop [[7,5],[8,5],[6]] ⟨[(0,.ptr 0 0),(1,.ptr 2 0),(2,.ptr 3 0),(3,.ptr 7 0)],om4⟩ (zdm b) .nil .nil)
theorem zo7(b:zf)(d:zF b):K8 133 (zrI b):=f8 (zrd b) Tryz.func133 (.cons zaz (.cons d.zcZ (.cons zaI (.cons zcq (.cons zaX .nil))))) ⟨λz=>by kernel_rfl,trivial,trivial⟩
def zfQ(k:zf)(x:zh)(l:List zg):zDI:=(k.zay (zk x)).bind λe=>(match e with| .inl a=>fk (fd ((room (l.length+([⟨0,[],0,[],[],[]⟩]:List zg).length)).bind λ_=>let b:=l++[⟨0,[],0,[],[],[]⟩];fk ((zN b ((l.length:Nat):Int)).bind λ_=>fd ((zN b ((l.length:Nat):Int)).bind λm=>let f:=b.set ((l.length:Nat):Int).toNat (zA a.1);some (.inl ((zk a.2.1),f,())))) ((zN b ((l.length:Nat):Int)).bind λ_=>(zN b ((l.length:Nat):Int)).bind λn=>let g:=b.set ((l.length:Nat):Int).toNat (zA a.1);some (.inl ((zk a.2.1),g,()))))) ((room (l.length+([⟨0,[],0,[],[],[]⟩]:List zg).length)).bind λ_=>let c:=l++[⟨0,[],0,[],[],[]⟩];fk ((zN c ((l.length:Nat):Int)).bind λ_=>fd ((zN c ((l.length:Nat):Int)).bind λo=>let h:=c.set ((l.length:Nat):Int).toNat (zA a.1);some (.inl ((zk a.2.1),h,())))) ((zN c ((l.length:Nat):Int)).bind λ_=>(zN c ((l.length:Nat):Int)).bind λp=>let i:=c.set ((l.length:Nat):Int).toNat (zA a.1);some (.inl ((zk a.2.1),i,()))))| .inr d=>some (.inr (d.1,(zk d.2.1),l,())))
def zua(b:zf):=callee Y [] zlM zh9 (u2 (zfQ b))
def ztC(b:zf):zY Y (zO Y zh9):= .nil
theorem zqj(b:zf)(d:zF b):K8 236 (zua b):=f8 (ztC b) Tryz.func236 (.cons d.zay .nil) trivial
def zfR(m:zf)(e:Str)(f:Bool)(x:zh)(g:Int)(h:Str)(i:Int)(j:Str)(l:List Str)(k:List zg):OT5:=(m.zda (zk x) e g h i j l k f).bind λc=>(match c with| .inl a=>some (.inl (a.1,(zk a.2.1),a.2.2.2.1,a.2.2.2.2.1,a.2.2.2.2.2.1,a.2.2.2.2.2.2.1,a.2.2.2.2.2.2.2.1,a.2.2.2.2.2.2.2.2.1,()))| .inr b=>some (.inr ((zk b.1),b.2.2.1,b.2.2.2.1,b.2.2.2.2.1,b.2.2.2.2.2.1,b.2.2.2.2.2.2.1,b.2.2.2.2.2.2.2.1,())))
def zuw(b:zf):=callee Y [] zlz zil (u9 (zfR b))
def zug(b:zf):zY Y (zO Y zil):= .nil
theorem zqc(b:zf)(d:zF b):K8 78 (zuw b):=f8 (zug b) Tryz.func78 ((.cons (COk.laid d.zda) .nil):zcy hY Tryz.prog zam [(80,(zhv Y [⟨[(0,.ptr 0 0),(1,.fn 133 [.ptr 1 0,.ptr 2 0,.ptr 3 0,.ptr 8 0])],om3⟩,⟨[(0,.ptr 0 0),(1,.fn 81 [.ptr 1 0,.ptr 2 0])],zb3⟩,⟨[(0,.ptr 0 0),(1,.fn 241 [.ptr 1 0,.ptr 2 0])],zb3⟩,⟨[(0,.ptr 0 0),(1,.fn 133 [.ptr 1 0,.ptr 2 0,.ptr 3 0,.ptr 7 0])],om5⟩,⟨[(0,.ptr 0 0),(1,.fn 133 [.ptr 1 0,.ptr 2 0,.ptr 3 0,.ptr 8 0])],om1⟩,⟨[(0,.ptr 0 0),(1,.fn 222 [.ptr 1 0,.ptr 2 0])],zb3⟩,⟨[(0,.ptr 0 0),(1,.fn 167 [.ptr 1 0,.ptr 2 0])],zb3⟩] (zk5 b)))]) trivial
def zeN(m:zf)(x:zh)(a:Str)(f:Int)(g:Str)(h:Int)(i:Str)(l:List Str)(j:List zg)(k:Bool):OT3:=(m.zc4 ⟨x.t,false⟩ a f g h i l j k).bind λd=>(match d with| .inl b=>some (.inl (b.1,(zk b.2.1),b.2.2.1,b.2.2.2.1,b.2.2.2.2.1,b.2.2.2.2.2.1,b.2.2.2.2.2.2.1,b.2.2.2.2.2.2.2.1,b.2.2.2.2.2.2.2.2.1,b.2.2.2.2.2.2.2.2.2.1,()))| .inr c=>some (.inr (⟨c.1.t,x.no⟩,c.2.1,c.2.2.1,c.2.2.2.1,c.2.2.2.2.1,c.2.2.2.2.2.1,c.2.2.2.2.2.2.1,c.2.2.2.2.2.2.2.1,c.2.2.2.2.2.2.2.2.1,())))
def zru(b:zf):=callee Y [] zky zgX (u9 (zeN b))
def zrx(b:zf):zY Y (zO Y zgX):= .nil
theorem zpf(b:zf)(d:zF b):K8 80 (zru b):=f8 (zrx b) Tryz.func80 ((.cons (COk.laid d.zc4) .nil):zcy hY Tryz.prog zam [(133,(zhv Y [⟨[(0,.ptr 0 0),(1,.ptr 2 0),(2,.ptr 3 0),(3,.ptr 8 0)],om2⟩,⟨[(0,.ptr 0 0),(1,.ptr 2 0),(2,.ptr 3 0),(3,.ptr 7 0)],om4⟩,⟨[(0,.ptr 0 0),(1,.ptr 2 0),(2,.ptr 3 0),(3,.ptr 8 0)],om0⟩] (zkP b)))]) trivial
def zdl(u:zf):zh×Str×Int×Str×Int×Str×(List Str)×(List zg)×Bool×Unit->OT0| (q,b,h,i,j,k,l,m,c,())=>(zG b (zk q)).bind λe=>if(!e.1)=true then(u.zdc (zk e.2.1) h i j k l m).bind λr=>(match r with| .inl d=>some (.inr (.inl (d.1,(zk d.2.1),b,d.2.2.1,d.2.2.2.1,d.2.2.2.2.1,d.2.2.2.2.2.1,d.2.2.2.2.2.2.1,d.2.2.2.2.2.2.2.1,c,())))| .inr a=>(zG b (zk a.1)).bind λf=>if f.1=true then some (.inr (.inr ((zk f.2.1),b,a.2.1,a.2.2.1,a.2.2.2.1,a.2.2.2.2.1,a.2.2.2.2.2.1,a.2.2.2.2.2.2.1,c,())))else(zac [44] (zk f.2.1)).bind λs=>(match s with| .inl n=>some (.inr (.inl (n.1,(zk n.2.1),b,a.2.1,a.2.2.1,a.2.2.2.1,a.2.2.2.2.1,a.2.2.2.2.2.1,a.2.2.2.2.2.2.1,c,())))| .inr o=>if(!c)=true then(za5 b (zk o.1)).bind λg=>if g.1=true then(zaN (zk g.2.1)).bind λp=>some (.inr (.inl (p.1,(zk p.2.1),b,a.2.1,a.2.2.1,a.2.2.2.1,a.2.2.2.2.1,a.2.2.2.2.2.1,a.2.2.2.2.2.2.1,c,())))else some (.inl ((zk g.2.1),b,a.2.1,a.2.2.1,a.2.2.2.1,a.2.2.2.2.1,a.2.2.2.2.2.1,a.2.2.2.2.2.2.1,c,()))else some (.inl ((zk o.1),b,a.2.1,a.2.2.1,a.2.2.2.1,a.2.2.2.2.1,a.2.2.2.2.2.1,a.2.2.2.2.2.2.1,c,()))))else some (.inr (.inr ((zk e.2.1),b,h,i,j,k,l,m,c,())))
def zeG(i:zf)(x:zh)(a:Str)(c:Int)(d:Str)(e:Int)(f:Str)(l:List Str)(g:List zg)(h:Bool):OT3:=Lp.loop (zdl i) ((zk x),a,c,d,e,f,l,g,h,())
def zsc(b:zf):=callee Y [] zkT zgZ (u9 (zeG b))
def zsb(b:zf):zY Y (zO Y zgZ):=(.loop [[7,5],[8,5],[6]] ⟨[(0,.ptr 0 0),(1,.ptr 2 0),(2,.ptr 3 0),(3,.ptr 8 0)],om0⟩ (zdl b) .nil .nil)
theorem zpv(b:zf)(d:zF b):K8 133 (zsc b):=f8 (zsb b) Tryz.func133 (.cons zaz (.cons d.zdc (.cons zaI (.cons zcq (.cons zaX .nil))))) ⟨λz=>by kernel_rfl,trivial,trivial⟩
def zf2(y:zf)(x:zh)(c:Int)(d:Str)(e:Int)(f:Str)(l:List Str)(a:List zg):OT5:=(zjc (zk x)).bind λn=>(match n with| .inl i=>(zac [58] (zk i.2.1)).bind λo=>(match o with| .inl j=>some (.inl (j.1,(zk j.2.1),c,d,e,f,l,a,()))| .inr p=>(y.zay (zk p.1)).bind λq=>(match q with| .inl b=>fk (fd ((room (a.length+([⟨0,[],0,[],[],[]⟩]:List zg).length)).bind λ_=>let g:=a++[⟨0,[],0,[],[],[]⟩];fk ((zN g ((a.length:Nat):Int)).bind λ_=>fd ((zN g ((a.length:Nat):Int)).bind λz=>let r:=g.set ((a.length:Nat):Int).toNat ⟨9,[],0,i.1,[],[(zA b.1)]⟩;some (.inr ((zk b.2.1),c,d,e,f,l,r,())))) ((zN g ((a.length:Nat):Int)).bind λ_=>(zN g ((a.length:Nat):Int)).bind λA=>let s:=g.set ((a.length:Nat):Int).toNat ⟨9,[],0,i.1,[],[(zA b.1)]⟩;some (.inr ((zk b.2.1),c,d,e,f,l,s,()))))) ((room (a.length+([⟨0,[],0,[],[],[]⟩]:List zg).length)).bind λ_=>let h:=a++[⟨0,[],0,[],[],[]⟩];fk ((zN h ((a.length:Nat):Int)).bind λ_=>fd ((zN h ((a.length:Nat):Int)).bind λB=>let t:=h.set ((a.length:Nat):Int).toNat ⟨9,[],0,i.1,[],[(zA b.1)]⟩;some (.inr ((zk b.2.1),c,d,e,f,l,t,())))) ((zN h ((a.length:Nat):Int)).bind λ_=>(zN h ((a.length:Nat):Int)).bind λC=>let u:=h.set ((a.length:Nat):Int).toNat ⟨9,[],0,i.1,[],[(zA b.1)]⟩;some (.inr ((zk b.2.1),c,d,e,f,l,u,()))))| .inr k=>some (.inl (k.1,(zk k.2.1),c,d,e,f,l,a,()))))| .inr m=>some (.inl (m.1,(zk m.2.1),c,d,e,f,l,a,())))
def zuJ(b:zf):=callee Y [] zmL ziI (u7 (zf2 b))
def zu7(b:zf):zY Y (zO Y ziI):= .nil
theorem zsm(b:zf)(d:zF b):K8 242 (zuJ b):=f8 (zu7 b) Tryz.func242 (.cons zx7 (.cons zaI (.cons d.zay .nil))) trivial
def zdO(o:zf):Bool×zh×zg×Int×Str×Int×Str×(List Str)×(List zg)×Unit->Option ((Bool×zh×zg×Int×Str×Int×Str×(List Str)×(List zg)×Unit)⊕((zad×zh×Unit)⊕(zg×zh×Unit)))| (c,z,a,d,e,f,g,h,i,())=>(zG [46] (zk z)).bind λb=>if b.1=true then(zN b.2.1.t 0).bind λA=>(if(A.Kind !=1)=true then(zN b.2.1.t 0).bind λB=>some (B.Kind !=2)else some false).bind λC=>if C=true then(zaN (zk b.2.1)).bind λp=>some (.inr (.inl (p.1,(zk p.2.1),())))else fk ((zau (zk b.2.1)).bind λq=>some (.inl (c,(zk q.2.1),⟨11,q.1.Text,0,[],[],[(zA a)]⟩,d,e,f,g,h,i,()))) (fd ((zau (zk b.2.1)).bind λr=>some (.inl (c,(zk r.2.1),⟨11,r.1.Text,0,[],[],[(zA a)]⟩,d,e,f,g,h,i,()))))else(zG [91] (zk b.2.1)).bind λj=>if j.1=true then(o.zcs (zk j.2.1) 0 [] 0 [] [] []).bind λD=>(match D with| .inl s=>(zac [93] (zk s.1)).bind λE=>(match E with| .inl u=>some (.inr (.inl (u.1,(zk u.2.1),())))| .inr H=>some (.inl (c,(zk H.1),⟨12,[],0,[],[],[(zA a),(zA s.2.1)]⟩,d,e,f,g,h,i,())))| .inr v=>some (.inr (.inl (v.1,(zk v.2.1),()))))else if c=true then(zG [40] (zk j.2.1)).bind λk=>if k.1=true then fk (fd ((o.zby [41] false (zk k.2.1)).bind λI=>(match I with| .inl l=>(room (([(zA a)]:List zg).length+l.1.length)).bind λ_=>let J:=[(zA a)]++l.1;some (.inl (c,(zk l.2.1),⟨13,[],0,[],[],J⟩,d,e,f,g,h,i,()))| .inr x=>some (.inr (.inl (x.1,(zk x.2.1),())))))) ((o.zby [41] false (zk k.2.1)).bind λK=>(match K with| .inl m=>(room (([(zA a)]:List zg).length+m.1.length)).bind λ_=>let L:=[(zA a)]++m.1;some (.inl (c,(zk m.2.1),⟨13,[],0,[],[],L⟩,d,e,f,g,h,i,()))| .inr y=>some (.inr (.inl (y.1,(zk y.2.1),())))))else some (.inr (.inr ((zA a),(zk k.2.1),())))else some (.inr (.inr ((zA a),(zk j.2.1),())))
def zfP(c:zf)(n:zg)(b:Bool)(x:zh):za6:=Lp.loop (zdO c) (b,(zk x),(zA n),0,[],0,[],[],[],())
def zt9(b:zf):=callee Y [] zlI zii (u3 (zfP b))
def ztX(b:zf):zY Y (zO Y zii):=(.loop [[7,5,2],[8,5,2],[6,2]] ⟨[(2,.bool),(3,.ptr 1 0),(4,.ptr 2 0),(6,.ptr 3 0)],[.whole 48 48,.cells 46 [.ptr 0 0],.whole 25 25,oc0 4 5,.arr 9,.arr 25]⟩ (zdO b) .nil .nil)
theorem zqw(b:zf)(d:zF b):K8 210 (zt9 b):=f8 (ztX b) Tryz.func210 ((.cons zaz (.cons zaX (.cons zbG (.cons (COk.laid d.zcs) (.cons zaI (.cons d.zby .nil)))))):zcy hY Tryz.prog zam [(36,(zhR)),(21,(zfy)),(75,(zjZ)),(80,(zhv Y [⟨[(0,.ptr 0 0),(1,.fn 133 [.ptr 1 0,.ptr 2 0,.ptr 3 0,.ptr 8 0])],om3⟩,⟨[(0,.ptr 0 0),(1,.fn 81 [.ptr 1 0,.ptr 2 0])],zb3⟩,⟨[(0,.ptr 0 0),(1,.fn 241 [.ptr 1 0,.ptr 2 0])],zb3⟩,⟨[(0,.ptr 0 0),(1,.fn 133 [.ptr 1 0,.ptr 2 0,.ptr 3 0,.ptr 7 0])],om5⟩,⟨[(0,.ptr 0 0),(1,.fn 133 [.ptr 1 0,.ptr 2 0,.ptr 3 0,.ptr 8 0])],om1⟩,⟨[(0,.ptr 0 0),(1,.fn 222 [.ptr 1 0,.ptr 2 0])],zb3⟩,⟨[(0,.ptr 0 0),(1,.fn 167 [.ptr 1 0,.ptr 2 0])],zb3⟩] (zkG b))),(77,(zfs)),(223,(zja b))]) ⟨λz=>by kernel_rfl,trivial,trivial⟩
def zeY(j:zf)(x:zh)(e:Int)(f:Str)(g:Int)(h:Str)(l:List Str)(i:List zg):OT6:=(j.zc8 ⟨x.t,false⟩ e f g h l i).bind λc=>(match c with| .inl b=>some (.inl (⟨b.1.t,x.no⟩,(zA b.2.1),b.2.2.1,b.2.2.2.1,()))| .inr a=>some (.inr (a.1,(zk a.2.1),a.2.2.1,a.2.2.2.1,a.2.2.2.2.1,a.2.2.2.2.2.1,a.2.2.2.2.2.2.1,a.2.2.2.2.2.2.2.1,())))
def zr1(b:zf):=callee Y [] zk6 zg6 (u7 (zeY b))
def zrK(b:zf):zY Y (zO Y zg6):= .nil
theorem zpr(b:zf)(d:zF b):K8 80 (zr1 b):=f8 (zrK b) Tryz.func80 (.cons d.zc8 .nil) trivial
def zeQ(j:zf)(x:zh)(f:Int)(g:Str)(h:Int)(i:Str)(l:List Str)(c:List zg):OT6:=(j.zav (zk x)).bind λd=>(match d with| .inl a=>some (.inl ((zk a.2.1),(zA a.1),l,c,()))| .inr b=>some (.inr (b.1,(zk b.2.1),f,g,h,i,l,c,())))
def zrB(b:zf):=callee Y [] zkW zha (u7 (zeQ b))
def zr6(b:zf):zY Y (zO Y zha):= .nil
theorem zpp(b:zf)(d:zF b):K8 222 (zrB b):=f8 (zr6 b) Tryz.func222 (.cons d.zav .nil) trivial
def ze2(j:zf)(x:zh)(e:Int)(f:Str)(g:Int)(h:Str)(l:List Str)(i:List zg):OT6:=(j.zdt ⟨x.t,false⟩ e f g h l i).bind λc=>(match c with| .inl b=>some (.inl (⟨b.1.t,x.no⟩,(zA b.2.1),b.2.2.1,b.2.2.2.1,()))| .inr a=>some (.inr (a.1,(zk a.2.1),a.2.2.1,a.2.2.2.1,a.2.2.2.2.1,a.2.2.2.2.2.1,a.2.2.2.2.2.2.1,a.2.2.2.2.2.2.2.1,())))
def zrS(b:zf):=callee Y [] zkS zgV (u7 (ze2 b))
def zrf(b:zf):zY Y (zO Y zgV):= .nil
theorem zpm(b:zf)(d:zF b):K8 80 (zrS b):=f8 (zrf b) Tryz.func80 (.cons d.zdt .nil) trivial
def zfg(j:zf)(x:zh)(f:Int)(g:Str)(h:Int)(i:Str)(l:List Str)(c:List zg):OT6:=(j.zay (zk x)).bind λd=>(match d with| .inl a=>some (.inl ((zk a.2.1),(zA a.1),l,c,()))| .inr b=>some (.inr (b.1,(zk b.2.1),f,g,h,i,l,c,())))
def zsD(b:zf):=callee Y [] zlh zhN (u7 (zfg b))
def zsF(b:zf):zY Y (zO Y zhN):= .nil
theorem zpI(b:zf)(d:zF b):K8 167 (zsD b):=f8 (zsF b) Tryz.func167 (.cons d.zay .nil) trivial
def zif(q:zf)(c:zh)(j:Int)(k:Str)(l:Int)(m:Str)(d:Int)(e:Str)(f:Int)(g:Str)(a:zg)(n:List Str)(o:List zg)(h:List Str)(b:List zg):za6:=(room (b.length+([(zA a)]:List zg).length)).bind λ_=>let i:=b++[(zA a)];some (.inr (⟨d,e,f,g,h,i⟩,(zk c),()))
def zia(d:zf)(e:zh)(f:Int)(g:Str)(h:Int)(i:Str)(j:Int)(k:Str)(l:Int)(m:Str)(n:List Str)(o:List zg)(p:List Str)(q:List zg):za6:=(d.zbh (zk e)).bind λr=>(match r with| .inl a=>some (.inl (a.1,(zk a.2.1),()))| .inr b=>zif d (zk b.2.1) f g h i j k l m (zA b.1) n o p q)
def zfI(p:zf)(h:zh)(i:Int)(j:Str)(k:Int)(l:Str)(b:Int)(c:Str)(d:Int)(e:Str)(m:List Str)(n:List zg)(f:List Str)(g:List zg):za6:=(zG [101,108,115,101] (zk h)).bind λa=>if a.1=true then zia p (zk a.2.1) i j k l b c d e m n f g else some (.inr (⟨b,c,d,e,f,g⟩,(zk a.2.1),()))
def zf6(b:zf)(x:zh):za6:=(b.zbF (zk x)).bind λi=>(match i with| .inl d=>some (.inl (d.1,(zk d.2.1),()))| .inr c=>fk ((b.zbh (zk c.2.1)).bind λj=>(match j with| .inl e=>some (.inl (e.1,(zk e.2.1),()))| .inr f=>fd (zfI b (zk f.2.1) 0 [] 0 [] 26 [] 0 [] [] [] [] [(zA c.1),(zA f.1)]))) ((b.zbh (zk c.2.1)).bind λk=>(match k with| .inl g=>some (.inl (g.1,(zk g.2.1),()))| .inr h=>zfI b (zk h.2.1) 0 [] 0 [] 26 [] 0 [] [] [] [] [(zA c.1),(zA h.1)])))
def zuK(b:zf):=callee Y [] zmx ziJ (λz=>zf6 b z.1)
def zuG(b:zf):zY Y (zO Y ziJ):=(.join [[1,1,2,2,2],[2,1,2,2,2],[2,2,2,2]] ⟨[(0,.ptr 0 0),(2,.ptr 1 0),(4,.ptr 2 0)],zhK⟩ (u13 (zfI b)) (.join [[1,3,2,1,2,2,2],[2,3,2,1,2,2,2],[2,2,2,2]] ⟨[(0,.ptr 0 0),(2,.ptr 1 0),(4,.ptr 2 0)],zhK⟩ (u13 (zia b)) (.join [[2,3,2,1,2,2,2],[2,2,2,2]] ⟨[(2,.ptr 1 0),(4,.ptr 2 0),(5,.ptr 3 0)],om8⟩ (u14 (zif b)) .nil)))
theorem zq4(b:zf)(d:zF b):K8 85 (zuK b):=f8 (zuG b) Tryz.func85 (.cons d.zbF (.cons d.zbh (.cons zaz .nil))) ⟨λz=>by kernel_rfl,⟨λz=>by kernel_rfl,⟨λz=>by kernel_rfl,⟨⟩⟩⟩⟩
def zhi(k:zf)(x:zh):za6:=(zac [40] (zk x)).bind λe=>(match e with| .inl a=>some (.inl (a.1,(zk a.2.1),()))| .inr f=>(k.zav (zk f.1)).bind λg=>(match g with| .inl b=>(zac [41] (zk b.2.1)).bind λh=>(match h with| .inl c=>some (.inl (c.1,(zk c.2.1),()))| .inr i=>some (.inr ((zA b.1),(zk i.1),())))| .inr d=>some (.inl (d.1,(zk d.2.1),()))))
def zx5(b:zf):=callee Y [] znN zj6 (λz=>zhi b z.1)
def zx8(b:zf):zY Y (zO Y zj6):= .nil
theorem zty(b:zf)(d:zF b):K8 86 (zx5 b):=f8 (zx8 b) Tryz.func86 (.cons zaI (.cons d.zav .nil)) trivial
def zhx(e:zf)(x:zh):za6:=(e.zbs (zk x)).bind λc=>(match c with| .inl b=>some (.inl (b.1,(zk b.2.1),()))| .inr a=>if(a.1.Kind !=25)=true then some (.inr (⟨25,[],0,[],[],[(zA a.1)]⟩,(zk a.2.1),()))else some (.inr ((zA a.1),(zk a.2.1),())))
def zx3(b:zf):=callee Y [] znX zj0 (λz=>zhx b z.1)
def zyo(b:zf):zY Y (zO Y zj0):= .nil
theorem ztE(b:zf)(d:zF b):K8 87 (zx3 b):=f8 (zyo b) Tryz.func87 (.cons d.zbs .nil) trivial
def zem(m:zf)(d:zh)(n:Int)(o:Str)(p:Int)(q:Str)(e:Int)(f:Str)(g:Int)(h:Str)(r:List Str)(s:List zg)(i:List Str)(b:List zg):za6:=(m.zbh (zk d)).bind λj=>(match j with| .inl c=>some (.inl (c.1,(zk c.2.1),()))| .inr a=>(room (b.length+([(zA a.1)]:List zg).length)).bind λ_=>let k:=b++[(zA a.1)];some (.inr (⟨e,f,g,h,i,k⟩,(zk a.2.1),())))
def ziG(r:zf)(d:zh)(e:Int)(f:Str)(g:Int)(h:Str)(i:Int)(j:Str)(k:Int)(l:Str)(a:zg)(b:zg)(m:List Str)(n:List zg)(o:List Str)(c:List zg):za6:=(room (c.length+([(zA a),(zA b)]:List zg).length)).bind λ_=>let p:=c++[(zA a),(zA b)];zem r (zk d) e f g h i j k l m n o p
def ziz(d:zf)(e:zh)(f:Int)(g:Str)(h:Int)(i:Str)(j:Int)(k:Str)(l:Int)(m:Str)(n:zg)(o:List Str)(p:List zg)(q:List Str)(r:List zg):za6:=(d.zcN [41] (zk e)).bind λs=>(match s with| .inl a=>ziG d (zk a.2.1) f g h i j k l m (zA n) (zA a.1) o p q r| .inr b=>some (.inl (b.1,(zk b.2.1),())))
def ziY(d:zf)(e:zh)(f:Int)(g:Str)(h:Int)(i:Str)(j:Int)(k:Str)(l:Int)(m:Str)(n:List Str)(o:List zg)(p:List Str)(q:List zg):za6:=(d.zcN [59] (zk e)).bind λr=>(match r with| .inl a=>ziz d (zk a.2.1) f g h i j k l m (zA a.1) n o p q| .inr b=>some (.inl (b.1,(zk b.2.1),())))
def zeH(r:zf)(b:zh)(c:Int)(d:Str)(e:Int)(f:Str)(g:Int)(h:Str)(i:Int)(j:Str)(k:List Str)(l:List zg)(m:List Str)(n:List zg):za6:=(zac [59] (zk b)).bind λo=>(match o with| .inl a=>some (.inl (a.1,(zk a.2.1),()))| .inr p=>ziY r (zk p.1) c d e f g h i j k l m n)
def zjr(r:zf)(b:zh)(c:Int)(d:Str)(e:Int)(f:Str)(g:Int)(h:Str)(i:Int)(j:Str)(k:List Str)(l:List zg)(m:List Str)(n:List zg):za6:=(zac [41] (zk b)).bind λo=>(match o with| .inl a=>some (.inl (a.1,(zk a.2.1),()))| .inr p=>zem r (zk p.1) c d e f g h i j k l m n)
def ziT(q:zf)(c:zh)(d:Int)(e:Str)(f:Int)(g:Str)(h:Int)(i:Str)(j:Int)(k:Str)(a:zg)(l:List Str)(m:List zg)(n:List Str)(b:List zg):za6:=(room (b.length+([(zA a)]:List zg).length)).bind λ_=>let o:=b++[(zA a)];zjr q (zk c) d e f g h i j k l m n o
def zi2(d:zf)(e:zh)(f:Int)(g:Str)(h:Int)(i:Str)(j:Int)(k:Str)(l:Int)(m:Str)(n:List Str)(o:List zg)(p:List Str)(q:List zg):za6:=(d.zav (zk e)).bind λr=>(match r with| .inl a=>ziT d (zk a.2.1) f g h i j k l m (zA a.1) n o p q| .inr b=>some (.inl (b.1,(zk b.2.1),())))
def zji(n:zf)(a:zh)(b:Int)(c:Str)(d:Int)(e:Str)(o:Int)(f:Str)(g:Int)(h:Str)(i:List Str)(j:List zg)(k:List Str)(l:List zg):za6:=zi2 n (zk a) b c d e 30 f g h i j k l
def zeK(o:zf)(q:Bool)(p:zh)(a:Int)(b:Str)(c:Int)(d:Str)(e:Int)(f:Str)(g:Int)(h:Str)(i:List Str)(j:List zg)(k:List Str)(l:List zg):za6:=if q=true then(zG [105,110] (zk p)).bind λm=>if m.1=true then zji o (zk m.2.1) a b c d e f g h i j k l else zeH o (zk m.2.1) a b c d e f g h i j k l else zeH o (zk p) a b c d e f g h i j k l
def zi9(k:zf)(a:Bool)(b:zh)(c:Int)(d:Str)(e:Int)(f:Str)(g:zg)(h:List Str)(i:List zg):za6:=zeK k a (zk b) c d e f 29 [] 0 [] h i [] [(zA g)]
def zeX(k:zf)(a:Bool)(b:zh)(c:Int)(d:Str)(e:Int)(f:Str)(g:zg)(h:List Str)(i:List zg):za6:=zi9 k a ⟨b.t,false⟩ c d e f (zA g) h i
def zhe(b:zf)(x:zh):za6:=(zac [40] (zk x)).bind λj=>(match j with| .inl g=>some (.inl (g.1,(zk g.2.1),()))| .inr k=>(zG [118,97,114] ⟨k.1.t,true⟩).bind λd=>if d.1=true then(b.zcD (zk d.2.1)).bind λl=>(match l with| .inl h=>some (.inl (h.1,(zk h.2.1),()))| .inr c=>let m:=((c.1.L.length:Nat):Int);(if(m==1)=true then(zN c.1.L 0).bind λn=>let o:=((n.L.length:Nat):Int);some (o==0)else some false).bind λp=>zeX b p (zk c.2.1) 0 [] 0 [] (zA c.1) [] [])else(za5 [59] (zk d.2.1)).bind λe=>if(!e.1)=true then(b.zav (zk e.2.1)).bind λq=>(match q with| .inl f=>(ze9 (zA f.1)).bind λr=>zeX b r.1 (zk f.2.1) 0 [] 0 [] (zA f.1) [] []| .inr i=>some (.inl (i.1,(zk i.2.1),())))else zeX b false (zk e.2.1) 0 [] 0 [] ⟨42,[],0,[],[],[]⟩ [] [])
def zyr(b:zf):=callee Y [] znF zj5 (λz=>zhe b z.1)
def zxW(b:zf):zY Y (zO Y zj5):=(.join [[1,2,2,2,2,2],[2,2,2,2,2,2]] ⟨[(0,.ptr 0 0),(2,.ptr 1 0),(3,.ptr 2 0),(4,.bool)],zL9⟩ (u9 (zeX b)) (.join [[1,2,2,2,2,2,2],[2,2,2,2,2,2,2]] ⟨[(0,.ptr 0 0),(2,.ptr 1 0),(3,.ptr 2 0),(4,.bool)],zL9⟩ (u9 (zi9 b)) (.join [[1,1,2,2,2,2,2,2,2],[2,1,2,2,2,2,2,2,2],[2,2,2,2,2,2,2,2]] ⟨[(0,.ptr 0 0),(2,.ptr 1 0),(4,.bool),(5,.ptr 2 0)],zhK⟩ (u14 (zeK b)) (.join [[1,3,2,1,2,2,2,2,2,2,2],[2,3,2,1,2,2,2,2,2,2,2],[2,2,2,2,2,2,2,2]] ⟨[(0,.ptr 0 0),(2,.ptr 1 0),(5,.ptr 2 0)],zhK⟩ (u13 (zji b)) (.join [[1,2,3,2,1,2,2,2,2,2,2,2],[2,2,3,2,1,2,2,2,2,2,2,2],[2,2,2,2,2,2,2,2]] ⟨[(0,.ptr 0 0),(2,.ptr 1 0),(5,.ptr 2 0)],zhK⟩ (u13 (zi2 b)) (.join [[1,2,2,3,2,1,2,2,2,2,2,2,2],[2,2,2,3,2,1,2,2,2,2,2,2,2],[2,2,2,2,2,2,2,2]] ⟨[(0,.ptr 0 0),(2,.ptr 1 0),(5,.ptr 2 0),(6,.ptr 3 0)],om8⟩ (u14 (ziT b)) (.join [[2,2,2,3,2,1,2,2,2,2,2,2,2],[2,2,2,2,2,2,2,2]] ⟨[(0,.ptr 0 0),(2,.ptr 1 0),(5,.ptr 2 0)],zhK⟩ (u13 (zjr b)) (.join [[1,4,2,1,2,2,2,2,2,2,2],[2,4,2,1,2,2,2,2,2,2,2],[2,2,2,2,2,2,2,2]] ⟨[(0,.ptr 0 0),(2,.ptr 1 0),(5,.ptr 2 0)],zhK⟩ (u13 (zeH b)) (.join [[1,2,4,2,1,2,2,2,2,2,2,2],[2,2,4,2,1,2,2,2,2,2,2,2],[2,2,2,2,2,2,2,2]] ⟨[(0,.ptr 0 0),(2,.ptr 1 0),(5,.ptr 2 0)],zhK⟩ (u13 (ziY b)) (.join [[1,2,2,4,2,1,2,2,2,2,2,2,2],[2,2,2,4,2,1,2,2,2,2,2,2,2],[2,2,2,2,2,2,2,2]] ⟨[(0,.ptr 0 0),(2,.ptr 1 0),(5,.ptr 2 0),(7,.ptr 3 0)],om8⟩ (u14 (ziz b)) (.join [[2,2,2,4,2,1,2,2,2,2,2,2,2],[2,2,2,2,2,2,2,2]] ⟨[(0,.ptr 0 0),(2,.ptr 1 0),(5,.ptr 2 0),(7,.ptr 3 0),(8,.ptr 4 0)],[.whole 48 48,oc0 5 6,oc0 7 8,.whole 25 25,.whole 25 25,.arr 9,.arr 25,.arr 9,.arr 25]⟩ (u15 (ziG b)) (.join [[1,2,2,2,2,2,2,2,2],[2,2,2,2,2,2,2,2,2]] ⟨[(0,.ptr 0 0),(2,.ptr 1 0),(5,.ptr 2 0)],zhK⟩ (u13 (zem b)) .nil))))))))))))
theorem zuj(d:zf)(b:zF d):K8 88 (zyr d):=f8 (zxW d) Tryz.func88 (.cons zaI (.cons zaz (.cons b.zcD (.cons zcq (.cons b.zav (.cons zl7 (.cons b.zcN (.cons b.zbh .nil)))))))) ⟨λz=>by kernel_rfl,⟨λz=>by kernel_rfl,⟨λz=>by kernel_rfl,⟨λz=>by kernel_rfl,⟨λz=>by kernel_rfl,⟨λz=>by kernel_rfl,⟨λz=>by kernel_rfl,⟨λz=>by kernel_rfl,⟨λz=>by kernel_rfl,⟨λz=>by kernel_rfl,⟨λz=>by kernel_rfl,⟨λz=>by kernel_rfl,⟨⟩⟩⟩⟩⟩⟩⟩⟩⟩⟩⟩⟩⟩
def zgw(i:zf)(s:Str)(x:zh):zij:=(zG s (zk x)).bind λa=>if a.1=true then some (.inl (⟨42,[],0,[],[],[]⟩,(zk a.2.1),()))else(i.zav (zk a.2.1)).bind λe=>(match e with| .inl b=>(zac s (zk b.2.1)).bind λf=>(match f with| .inl c=>some (.inr (c.1,(zk c.2.1),()))| .inr g=>some (.inl ((zA b.1),(zk g.1),())))| .inr d=>some (.inr (d.1,(zk d.2.1),())))
def zwZ(b:zf):=callee Y [] zm0 zjo (u2 (zgw b))
def zwU(b:zf):zY Y (zO Y zjo):= .nil
theorem zsW(b:zf)(d:zF b):K8 135 (zwZ b):=f8 (zwU b) Tryz.func135 (.cons zaz (.cons d.zav (.cons zaI .nil))) trivial
def zgI(o:zf)(a:zh)(h:Int)(i:Str)(j:Int)(k:Str)(b:Int)(c:Str)(d:Int)(e:Str)(l:List Str)(m:List zg)(f:List Str)(g:List zg):za6:=some (.inr (⟨b,c,d,e,f,g⟩,(zk a),()))
def zjW(q:zf)(c:Bool)(a:zh)(d:Int)(e:Str)(f:Int)(g:Str)(h:Int)(i:Str)(j:Int)(k:Str)(l:List Str)(m:List zg)(n:List Str)(o:List zg):za6:=if(!c)=true then(zaN (zk a)).bind λb=>some (.inl (b.1,(zk b.2.1),()))else zgI q (zk a) d e f g h i j k l m n o
def zjX(e:zf)(f:zh)(g:Int)(h:Str)(i:Int)(j:Str)(k:Int)(l:Str)(m:Int)(n:Str)(o:List Str)(p:List zg)(q:List Str)(a:List zg):za6:=(e.zbx (zk f)).bind λr=>(match r with| .inl b=>some (.inl (b.1,(zk b.2.1),()))| .inr c=>(zN a 2).bind λ_=>(zN a 2).bind λt=>let s:=a.set (2:Int).toNat (zA c.1);zgI e (zk c.2.1) g h i j k l m n o p q s)
def zfz(o:zf)(p:Bool)(q:zh)(b:Int)(c:Str)(d:Int)(e:Str)(f:Int)(g:Str)(h:Int)(i:Str)(j:List Str)(k:List zg)(l:List Str)(m:List zg):za6:=(zG [102,105,110,97,108,108,121] (zk q)).bind λa=>if a.1=true then zjX o (zk a.2.1) b c d e f g h i j k l m else zjW o p (zk a.2.1) b c d e f g h i j k l m
def zj4(e:zf)(f:Bool)(g:zh)(h:Int)(i:Str)(j:Int)(k:Str)(l:Int)(m:Str)(n:Int)(o:Str)(p:List Str)(q:List zg)(r:List Str)(a:List zg):za6:=(e.zbx (zk g)).bind λs=>(match s with| .inl b=>some (.inl (b.1,(zk b.2.1),()))| .inr c=>(zN a 1).bind λ_=>(zN a 1).bind λu=>let t:=a.set (1:Int).toNat (zA c.1);zfz e f (zk c.2.1) h i j k l m n o p q r t)
def zjP(s:zf)(b:Bool)(c:zh)(d:Int)(e:Str)(f:Int)(g:Str)(h:Int)(i:Str)(j:Int)(k:Str)(l:List Str)(m:List zg)(n:List Str)(o:List zg):za6:=(zac [41] (zk c)).bind λp=>(match p with| .inl a=>some (.inl (a.1,(zk a.2.1),()))| .inr q=>zj4 s b (zk q.1) d e f g h i j k l m n o)
def zj1(r:zf)(c:Bool)(d:zh)(e:Int)(f:Str)(g:Int)(h:Str)(i:Int)(s:Str)(j:Int)(k:Str)(l:List Str)(m:List zg)(n:List Str)(o:List zg):za6:=(zdb (zk d)).bind λp=>(match p with| .inl a=>some (.inl (a.1,(zk a.2.1),()))| .inr b=>zjP r c (zk b.2.1) e f g h i b.1 j k l m n o)
def zjK(s:zf)(b:Bool)(c:zh)(d:Int)(e:Str)(f:Int)(g:Str)(h:Int)(i:Str)(j:Int)(k:Str)(l:List Str)(m:List zg)(n:List Str)(o:List zg):za6:=(zac [40] (zk c)).bind λp=>(match p with| .inl a=>some (.inl (a.1,(zk a.2.1),()))| .inr q=>zj1 s b (zk q.1) d e f g h i j k l m n o)
def zjV(p:zf)(a:Bool)(b:zh)(c:Int)(d:Str)(e:Int)(f:Str)(g:Int)(h:Str)(i:Int)(j:Str)(k:List Str)(l:List zg)(m:List Str)(n:List zg):za6:=if a=true then zjK p a (zk b) c d e f g h i j k l m n else zfz p a (zk b) c d e f g h i j k l m n
def zho(p:zf)(b:zh)(c:Int)(d:Str)(e:Int)(f:Str)(g:Int)(h:Str)(i:Int)(j:Str)(k:List Str)(l:List zg)(m:List Str)(n:List zg):za6:=(zG [99,97,116,99,104] (zk b)).bind λa=>zjV p a.1 (zk a.2.1) c d e f g h i j k l m n
def zhY(b:zf)(x:zh):za6:=fk ((b.zbx (zk x)).bind λg=>(match g with| .inl c=>some (.inl (c.1,(zk c.2.1),()))| .inr d=>fd (zho b (zk d.2.1) 0 [] 0 [] 35 [] 0 [] [] [] [] [(zA d.1),⟨42,[],0,[],[],[]⟩,⟨42,[],0,[],[],[]⟩]))) ((b.zbx (zk x)).bind λh=>(match h with| .inl e=>some (.inl (e.1,(zk e.2.1),()))| .inr f=>zho b (zk f.2.1) 0 [] 0 [] 35 [] 0 [] [] [] [] [(zA f.1),⟨42,[],0,[],[],[]⟩,⟨42,[],0,[],[],[]⟩]))
def zzg(b:zf):=callee Y [] zph zk0 (λz=>zhY b z.1)
def zzd(b:zf):zY Y (zO Y zk0):=(.join [[1,2,2,2],[2,2,2,2]] ⟨[(0,.ptr 0 0),(2,.ptr 1 0),(4,.ptr 2 0)],zhK⟩ (u13 (zho b)) (.join [[1,1,2,2,2,2],[2,1,2,2,2,2],[2,2,2,2,2]] ⟨[(0,.ptr 0 0),(2,.ptr 1 0),(4,.ptr 2 0),(5,.bool)],zhK⟩ (u14 (zjV b)) (.join [[1,3,2,1,2,2,2,2],[2,3,2,1,2,2,2,2],[2,2,2,2,2]] ⟨[(0,.ptr 0 0),(2,.ptr 1 0),(4,.ptr 2 0),(5,.bool)],zhK⟩ (u14 (zjK b)) (.join [[1,2,3,2,1,2,2,2,2],[2,2,3,2,1,2,2,2,2],[2,2,2,2,2]] ⟨[(0,.ptr 0 0),(2,.ptr 1 0),(4,.ptr 2 0),(5,.bool)],zhK⟩ (u14 (zj1 b)) (.join [[1,2,2,3,2,1,2,2,2,2],[2,2,2,3,2,1,2,2,2,2],[2,2,2,2,2]] ⟨[(0,.ptr 0 0),(2,.ptr 1 0),(4,.ptr 2 0),(5,.bool)],zhK⟩ (u14 (zjP b)) (.join [[2,2,2,3,2,1,2,2,2,2],[2,2,2,2,2]] ⟨[(0,.ptr 0 0),(2,.ptr 1 0),(4,.ptr 2 0),(5,.bool)],zhK⟩ (u14 (zj4 b)) (.join [[1,1,2,2,2,2,2],[2,1,2,2,2,2,2],[2,2,2,2,2,2]] ⟨[(0,.ptr 0 0),(2,.ptr 1 0),(4,.ptr 2 0),(5,.bool)],zhK⟩ (u14 (zfz b)) (.join [[3,2,1,2,2,2,2,2],[2,2,2,2,2,2]] ⟨[(0,.ptr 0 0),(2,.ptr 1 0),(4,.ptr 2 0)],zhK⟩ (u13 (zjX b)) (.join [[1,4,2,1,2,2,2,2,2],[2,4,2,1,2,2,2,2,2],[2,2,2,2,2,2]] ⟨[(0,.ptr 0 0),(2,.ptr 1 0),(4,.ptr 2 0),(5,.bool)],zhK⟩ (u14 (zjW b)) (.join [[1,2,2,2,2,2,2],[2,2,2,2,2,2,2]] ⟨[(2,.ptr 1 0),(4,.ptr 2 0)],zhK⟩ (u13 (zgI b)) .nil))))))))))
theorem zu9(b:zf)(d:zF b):K8 92 (zzg b):=f8 (zzd b) Tryz.func92 (.cons d.zbx (.cons zaz (.cons zaI (.cons ze4 (.cons zaX .nil))))) ⟨λz=>by kernel_rfl,⟨λz=>by kernel_rfl,⟨λz=>by kernel_rfl,⟨λz=>by kernel_rfl,⟨λz=>by kernel_rfl,⟨λz=>by kernel_rfl,⟨λz=>by kernel_rfl,⟨λz=>by kernel_rfl,⟨λz=>by kernel_rfl,⟨λz=>by kernel_rfl,⟨⟩⟩⟩⟩⟩⟩⟩⟩⟩⟩⟩
def zen(H:zf):Bool×zh×Int×Str×Int×Str×Int×Str×Int×Str×Int×Str×Int×Str×(List Str)×(List zg)×(List Str)×(List zg)×(List Str)×(List zg)×Unit->Option ((Bool×zh×Int×Str×Int×Str×Int×Str×Int×Str×Int×Str×Int×Str×(List Str)×(List zg)×(List Str)×(List zg)×(List Str)×(List zg)×Unit)⊕((Bool×zh×Int×Str×Int×Str×Int×Str×Int×Str×(List Str)×(List zg)×(List Str)×(List zg)×Unit)⊕((zad×zh×Unit)⊕(zg×zh×Unit))))| (j,y,k,l,m,n,o,p,q,r,c,d,e,f,s,u,v,g,h,a,())=>(zbl [32,99,97,115,101,32,100,101,102,97,117,108,116,32,125,32] (zk y)).bind λb=>(if(!b.1)=true then(zN b.2.1.t 0).bind λz=>some (z.Kind !=0)else some false).bind λA=>if A=true then(H.zbs (zk b.2.1)).bind λB=>(match B with| .inl x=>some (.inr (.inr (.inl (x.1,(zk x.2.1),()))))| .inr i=>(room (a.length+([(zA i.1)]:List zg).length)).bind λ_=>let C:=a++[(zA i.1)];some (.inl (j,(zk i.2.1),k,l,m,n,o,p,q,r,c,d,e,f,s,u,v,g,h,C,())))else(room (g.length+([⟨c,d,e,f,h,a⟩]:List zg).length)).bind λ_=>let D:=g++[⟨c,d,e,f,h,a⟩];some (.inr (.inl (j,(zk b.2.1),k,l,m,n,o,p,q,r,s,u,v,D,())))
def zel(z:zf)(b:Bool)(c:zh)(d:Int)(e:Str)(f:Int)(g:Str)(h:Int)(i:Str)(j:Int)(k:Str)(l:Int)(m:Str)(n:Int)(o:Str)(p:List Str)(q:List zg)(r:List Str)(s:List zg)(t:List Str)(u:List zg):OT1:=(zac [58] (zk c)).bind λv=>(match v with| .inl a=>some (.inr (.inl (a.1,(zk a.2.1),())))| .inr x=>Lp.loop (zen z) (b,(zk x.1),d,e,f,g,h,i,j,k,l,m,n,o,p,q,r,s,t,u,()))
def ziM(e:zf)(f:Bool)(g:zh)(h:Int)(i:Str)(j:Int)(k:Str)(l:Int)(m:Str)(n:Int)(o:Str)(p:Int)(q:Str)(r:Int)(s:Str)(t:List Str)(u:List zg)(v:List Str)(x:List zg)(y:List Str)(a:List zg):OT1:=(e.zav (zk g)).bind λz=>(match z with| .inl b=>(zN a 0).bind λ_=>(zN a 0).bind λB=>let A:=a.set (0:Int).toNat (zA b.1);zel e f (zk b.2.1) h i j k l m n o p q r s t u v x y A| .inr c=>some (.inr (.inl (c.1,(zk c.2.1),()))))
def zeo(z:zf)(b:Bool)(c:zh)(d:Int)(e:Str)(f:Int)(g:Str)(h:Int)(i:Str)(j:Int)(k:Str)(l:Int)(m:Str)(n:Int)(o:Str)(p:List Str)(q:List zg)(r:List Str)(s:List zg)(t:List Str)(u:List zg):OT1:=(zac [99,97,115,101] (zk c)).bind λv=>(match v with| .inl a=>some (.inr (.inl (a.1,(zk a.2.1),())))| .inr x=>ziM z b (zk x.1) d e f g h i j k l m n o p q r s t u)
def zep(q:zf):Bool×zh×Int×Str×Int×Str×Int×Str×Int×Str×(List Str)×(List zg)×(List Str)×(List zg)×Unit->OT1| (h,r,i,j,k,l,a,b,c,d,m,n,e,f,())=>(zG [125] (zk r)).bind λg=>if(!g.1)=true then if h=true then(zG [100,101,102,97,117,108,116] (zk g.2.1)).bind λo=>if o.1=true then zel q false (zk o.2.1) i j k l a b c d 37 [] 0 [] m n e f [] [⟨42,[],0,[],[],[]⟩]else zeo q h (zk o.2.1) i j k l a b c d 37 [] 0 [] m n e f [] [⟨42,[],0,[],[],[]⟩]else zeo q h (zk g.2.1) i j k l a b c d 37 [] 0 [] m n e f [] [⟨42,[],0,[],[],[]⟩]else some (.inr (.inr (⟨a,b,c,d,e,f⟩,(zk g.2.1),())))
def zgL(e:zf)(x:zh):za6:=(e.zbF (zk x)).bind λf=>(match f with| .inl a=>some (.inl (a.1,(zk a.2.1),()))| .inr b=>(zac [123] (zk b.2.1)).bind λg=>(match g with| .inl c=>some (.inl (c.1,(zk c.2.1),()))| .inr h=>Lp.loop (zep e) (true,(zk h.1),0,[],0,[],36,[],0,[],[],[],[],[(zA b.1)],())))
def zwA(b:zf):=callee Y [] zni zi6 (λz=>zgL b z.1)
def zv4(b:zf):zY Y (zO Y zi6):=(.loop [[7,5,1,2,2,2,2],[8,5,1,2,2,2,2],[6,1,2,2,2,2],[2,2,2,2,2]] ⟨[(0,.ptr 0 0),(2,.ptr 1 0),(3,.ptr 2 0),(4,.bool)],zhK⟩ (zep b) (.join [[1,4,2,1,2,5,2,7,5,1,2,2,2,2],[2,4,2,1,2,5,2,7,5,1,2,2,2,2],[2,2,5,2,7,5,1,2,2,2,2],[6,2,7,5,1,2,2,2,2],[8,5,1,2,2,2,2],[6,1,2,2,2,2],[2,2,2,2,2]] ⟨[(0,.ptr 0 0),(2,.ptr 1 0),(3,.ptr 2 0),(4,.bool),(5,.ptr 3 0)],om6⟩ (u20 (zeo b)) (.join [[2,4,2,1,2,5,2,7,5,1,2,2,2,2],[2,2,5,2,7,5,1,2,2,2,2],[6,2,7,5,1,2,2,2,2],[8,5,1,2,2,2,2],[6,1,2,2,2,2],[2,2,2,2,2]] ⟨[(0,.ptr 0 0),(2,.ptr 1 0),(3,.ptr 2 0),(4,.bool),(5,.ptr 3 0)],om6⟩ (u20 (ziM b)) (.join [[1,2,2,5,2,7,5,1,2,2,2,2],[2,2,2,5,2,7,5,1,2,2,2,2],[6,2,7,5,1,2,2,2,2],[8,5,1,2,2,2,2],[6,1,2,2,2,2],[2,2,2,2,2]] ⟨[(0,.ptr 0 0),(2,.ptr 1 0),(3,.ptr 2 0),(4,.bool),(5,.ptr 3 0)],om6⟩ (u20 (zel b)) (.loop [[7,5,1,2,2,2,5,2,7,5,1,2,2,2,2],[8,5,1,2,2,2,5,2,7,5,1,2,2,2,2],[6,1,2,2,2,5,2,7,5,1,2,2,2,2],[2,2,2,2,5,2,7,5,1,2,2,2,2],[6,2,7,5,1,2,2,2,2],[8,5,1,2,2,2,2],[6,1,2,2,2,2],[2,2,2,2,2]] ⟨[(0,.ptr 0 0),(2,.ptr 1 0),(3,.ptr 2 0),(4,.bool),(5,.ptr 3 0)],om6⟩ (zen b) .nil .nil)))) .nil)
theorem zsI(c:zf)(d:zF c):K8 93 (zwA c):=f8 (zv4 c) Tryz.func93 (.cons d.zbF (.cons zaI (.cons zaz (.cons zf5 (.cons d.zbs (.cons d.zav .nil)))))) ⟨λz=>by kernel_rfl,⟨λz=>by kernel_rfl,⟨λz=>by kernel_rfl,⟨λz=>by kernel_rfl,⟨λz=>by kernel_rfl,trivial,trivial⟩⟩⟩⟩,trivial⟩
def zl:Nat->zf
 |0=>⟨λ_ _ _=>none,λ_ _=>none,λ_ _ _ _ _ _ _=>none,λ_ _ _ _ _ _ _=>none,λ_=>none,λ_=>none,λ_=>none,λ_=>none,λ_ _=>none,λ_=>none,λ_=>none,λ_=>none,λ_=>none,λ_ _ _ _ _ _ _=>none,λ_ _ _ _ _ _ _=>none,λ_=>none,λ_ _ _=>none,λ_ _ _ _=>none,λ_ _ _ _=>none,λ_ _ _ _=>none,λ_ _=>none,λ_ _ _ _ _ _ _ _ _=>none,λ_ _ _ _ _ _ _ _ _=>none,λ_ _ _ _ _ _ _ _ _=>none,λ_ _ _ _ _ _ _=>none,λ_ _ _=>none,λ_ _ _ _ _ _ _=>none,λ_ _ _ _ _ _ _=>none,λ_ _ _ _ _ _ _=>none,λ_ _ _ _ _ _ _=>none,λ_=>none,λ_=>none,λ_=>none,λ_=>none,λ_ _=>none,λ_=>none,λ_=>none⟩
 |n+1=>⟨zgr (zl n),zfo (zl n),ze5 (zl n),zez (zl n),zhd (zl n),zgx (zl n),zhp (zl n),zf4 (zl n),zf1 (zl n),zgB (zl n),zhw (zl n),zfS (zl n),zhr (zl n),zeR (zl n),zfZ (zl n),zhm (zl n),zgE (zl n),zeb (zl n),zeJ (zl n),ze1 (zl n),zfQ (zl n),zfR (zl n),zeN (zl n),zeG (zl n),zf2 (zl n),zfP (zl n),zeY (zl n),zeQ (zl n),ze2 (zl n),zfg (zl n),zf6 (zl n),zhi (zl n),zhx (zl n),zhe (zl n),zgw (zl n),zhY (zl n),zgL (zl n)⟩
theorem zC: ∀n,zF (zl n)
 |0=>⟨COk.none ⟨⟨_,Tryz.func20,by kernel_rfl,rfl⟩⟩,COk.none ⟨⟨_,Tryz.func37,by kernel_rfl,rfl⟩⟩,COk.none ⟨⟨_,Tryz.func80,by kernel_rfl,rfl⟩⟩,COk.none ⟨⟨_,Tryz.func81,by kernel_rfl,rfl⟩⟩,COk.none ⟨⟨_,Tryz.func38,by kernel_rfl,rfl⟩⟩,COk.none ⟨⟨_,Tryz.func82,by kernel_rfl,rfl⟩⟩,COk.none ⟨⟨_,Tryz.func83,by kernel_rfl,rfl⟩⟩,COk.none ⟨⟨_,Tryz.func134,by kernel_rfl,rfl⟩⟩,COk.none ⟨⟨_,Tryz.func166,by kernel_rfl,rfl⟩⟩,COk.none ⟨⟨_,Tryz.func189,by kernel_rfl,rfl⟩⟩,COk.none ⟨⟨_,Tryz.func211,by kernel_rfl,rfl⟩⟩,COk.none ⟨⟨_,Tryz.func224,by kernel_rfl,rfl⟩⟩,COk.none ⟨⟨_,Tryz.func237,by kernel_rfl,rfl⟩⟩,COk.none ⟨⟨_,Tryz.func80,by kernel_rfl,rfl⟩⟩,COk.none ⟨⟨_,Tryz.func241,by kernel_rfl,rfl⟩⟩,COk.none ⟨⟨_,Tryz.func91,by kernel_rfl,rfl⟩⟩,COk.none ⟨⟨_,Tryz.func223,by kernel_rfl,rfl⟩⟩,COk.none ⟨⟨_,Tryz.func78,by kernel_rfl,rfl⟩⟩,COk.none ⟨⟨_,Tryz.func80,by kernel_rfl,rfl⟩⟩,COk.none ⟨⟨_,Tryz.func133,by kernel_rfl,rfl⟩⟩,COk.none ⟨⟨_,Tryz.func236,by kernel_rfl,rfl⟩⟩,COk.none ⟨⟨_,Tryz.func78,by kernel_rfl,rfl⟩⟩,COk.none ⟨⟨_,Tryz.func80,by kernel_rfl,rfl⟩⟩,COk.none ⟨⟨_,Tryz.func133,by kernel_rfl,rfl⟩⟩,COk.none ⟨⟨_,Tryz.func242,by kernel_rfl,rfl⟩⟩,COk.none ⟨⟨_,Tryz.func210,by kernel_rfl,rfl⟩⟩,COk.none ⟨⟨_,Tryz.func80,by kernel_rfl,rfl⟩⟩,COk.none ⟨⟨_,Tryz.func222,by kernel_rfl,rfl⟩⟩,COk.none ⟨⟨_,Tryz.func80,by kernel_rfl,rfl⟩⟩,COk.none ⟨⟨_,Tryz.func167,by kernel_rfl,rfl⟩⟩,COk.none ⟨⟨_,Tryz.func85,by kernel_rfl,rfl⟩⟩,COk.none ⟨⟨_,Tryz.func86,by kernel_rfl,rfl⟩⟩,COk.none ⟨⟨_,Tryz.func87,by kernel_rfl,rfl⟩⟩,COk.none ⟨⟨_,Tryz.func88,by kernel_rfl,rfl⟩⟩,COk.none ⟨⟨_,Tryz.func135,by kernel_rfl,rfl⟩⟩,COk.none ⟨⟨_,Tryz.func92,by kernel_rfl,rfl⟩⟩,COk.none ⟨⟨_,Tryz.func93,by kernel_rfl,rfl⟩⟩⟩
 |n+1=>⟨zs4 _ (zC n),zpT _ (zC n),zoZ _ (zC n),zn8 _ (zC n),zus _ (zC n),zsQ _ (zC n),zuu _ (zC n),zrC _ (zC n),zr3 _ (zC n),zs3 _ (zC n),zt0 _ (zC n),zqf _ (zC n),zt4 _ (zC n),zoO _ (zC n),zr5 _ (zC n),zt8 _ (zC n),zsH _ (zC n),zqr _ (zC n),zoN _ (zC n),zo7 _ (zC n),zqj _ (zC n),zqc _ (zC n),zpf _ (zC n),zpv _ (zC n),zsm _ (zC n),zqw _ (zC n),zpr _ (zC n),zpp _ (zC n),zpm _ (zC n),zpI _ (zC n),zq4 _ (zC n),zty _ (zC n),ztE _ (zC n),zuj _ (zC n),zsW _ (zC n),zu9 _ (zC n),zsI _ (zC n)⟩
def zbk:Bool->Str->zh->zEi:=(zl Lp.big).zbk
theorem zu5:K8 20 (zgu (zl Lp.big)):=(zC Lp.big).zbk
def zbS:Int->zh->za6:=(zl Lp.big).zbS
def zcw:zh->Int->Str->Int->Str->(List Str)->(List zg)->OT4:=(zl Lp.big).zcw
def zcQ:zh->Int->Str->Int->Str->(List Str)->(List zg)->OT4:=(zl Lp.big).zcQ
def zbs:zh->za6:=(zl Lp.big).zbs
def zbx:zh->za6:=(zl Lp.big).zbx
def zcD:zh->za6:=(zl Lp.big).zcD
def zay:zh->zij:=(zl Lp.big).zay
def zcc:Int->zh->za6:=(zl Lp.big).zcc
def zb1:zh->zij:=(zl Lp.big).zb1
def zcC:zh->zij:=(zl Lp.big).zcC
def zcX:zh->zij:=(zl Lp.big).zcX
def zdU:zh->zij:=(zl Lp.big).zdU
def zct:zh->Int->Str->Int->Str->(List Str)->(List zg)->OT6:=(zl Lp.big).zct
def zd2:zh->Int->Str->Int->Str->(List Str)->(List zg)->OT6:=(zl Lp.big).zd2
def zav:zh->zij:=(zl Lp.big).zav
def zby:Str->Bool->zh->zEi:=(zl Lp.big).zby
def zdJ:Str->Bool->zh->(List zg)->zDI:=(zl Lp.big).zdJ
def zc7:zh->Str->(List zg)->Bool->OT8:=(zl Lp.big).zc7
def zc5:zh->Str->(List zg)->Bool->OT8:=(zl Lp.big).zc5
def zcZ:zh->(List zg)->zDI:=(zl Lp.big).zcZ
def zcV:Str->Bool->zh->Int->Str->Int->Str->(List Str)->(List zg)->OT5:=(zl Lp.big).zcV
def zda:zh->Str->Int->Str->Int->Str->(List Str)->(List zg)->Bool->OT3:=(zl Lp.big).zda
def zc4:zh->Str->Int->Str->Int->Str->(List Str)->(List zg)->Bool->OT3:=(zl Lp.big).zc4
def zdc:zh->Int->Str->Int->Str->(List Str)->(List zg)->OT5:=(zl Lp.big).zdc
def zbY:zg->Bool->zh->za6:=(zl Lp.big).zbY
def zcs:zh->Int->Str->Int->Str->(List Str)->(List zg)->OT6:=(zl Lp.big).zcs
def zc8:zh->Int->Str->Int->Str->(List Str)->(List zg)->OT6:=(zl Lp.big).zc8
def zcx:zh->Int->Str->Int->Str->(List Str)->(List zg)->OT6:=(zl Lp.big).zcx
def zdt:zh->Int->Str->Int->Str->(List Str)->(List zg)->OT6:=(zl Lp.big).zdt
def zde:zh->za6:=(zl Lp.big).zde
def zbF:zh->za6:=(zl Lp.big).zbF
def zbh:zh->za6:=(zl Lp.big).zbh
def zdW:zh->za6:=(zl Lp.big).zdW
def zcN:Str->zh->zij:=(zl Lp.big).zcN
def zei:zh->za6:=(zl Lp.big).zei
def zdE:zh->za6:=(zl Lp.big).zdE
structure zeg where
 zeu:zg->Option (Int×Unit)
def zA4:Shape:=⟨[(0,.st 25)],[]⟩
def ztx:List zI:=[⟨false,.int .i64,[]⟩]
def zoK(b:zeg):=callee Y [] zA4 ztx (λz=>b.zeu z.1)
structure zrQ (g_:zeg):Prop where
 zeu:COk hY Tryz.prog zam 22 (zoK g_)
def ziN(k:zeg):Int×(List zg)×Int×Int×Unit->Option ((Int×(List zg)×Int×Int×Unit)⊕(Int×Unit))| (a,c,d,b,())=>if(decide (b<d))=true then(zN c b).bind λf=>(k.zeu (zA f)).bind λe=>let g:=(if e.1>a then e.1 else a);let h:=(IntKind.wrap .i64 (b+1));some (.inl (g,c,d,h,()))else let i:=(IntKind.wrap .i64 (a+1));some (.inr (i,()))
def zoE(b:zeg)(n:zg):Option (Int×Unit):=Lp.loop (ziN b) (0,n.L,((n.L.length:Nat):Int),0,())
def zJT(b:zeg):=callee Y [] zA4 ztx (λz=>zoE b z.1)
def zJi(b:zeg):zY Y (zO Y ztx):=(.loop [[7,5,2,1,2,2],[8,5,2,1,2,2],[6,2,1,2,2],[2,2,2]] ⟨[(3,.int .i64),(7,.sl 25),(8,.int .i64),(9,.int .i64)],[]⟩ (ziN b) .nil .nil)
theorem zDG(b:zeg)(d:zrQ b):K8 22 (zJT b):=f8 (zJi b) Tryz.func22 (.cons d.zeu .nil) ⟨λz=>by kernel_rfl,trivial,trivial⟩
def zdj:Nat->zeg
 |0=>⟨λ_=>none⟩
 |n+1=>⟨zoE (zdj n)⟩
theorem zpX: ∀n,zrQ (zdj n)
 |0=>⟨COk.none ⟨⟨_,Tryz.func22,by kernel_rfl,rfl⟩⟩⟩
 |n+1=>⟨zDG _ (zpX n)⟩
def zeu:zg->Option (Int×Unit):=(zdj Lp.big).zeu
theorem zzz:K8 22 (zoK (zdj Lp.big)):=(zpX Lp.big).zeu
def zco(l:Str):Option (zg×Int×Int×Unit):=(ztj l).bind λa=>if(a.2.2.1 !=0)=true then fk (fk (fk (some (⟨0,[],0,[],[],[]⟩,a.2.1,a.2.2.1,())) (fd (some (⟨0,[],0,[],[],[]⟩,a.2.1,a.2.2.1,())))) (fk (fd (some (⟨0,[],0,[],[],[]⟩,a.2.1,a.2.2.1,()))) (fk (fd (some (⟨0,[],0,[],[],[]⟩,a.2.1,a.2.2.1,()))) (some (⟨0,[],0,[],[],[]⟩,a.2.1,a.2.2.1,()))))) (fk (fk (fk (some (⟨0,[],0,[],[],[]⟩,a.2.1,a.2.2.1,())) (fd (some (⟨0,[],0,[],[],[]⟩,a.2.1,a.2.2.1,())))) (some (⟨0,[],0,[],[],[]⟩,a.2.1,a.2.2.1,()))) (fk (fd (some (⟨0,[],0,[],[],[]⟩,a.2.1,a.2.2.1,()))) (some (⟨0,[],0,[],[],[]⟩,a.2.1,a.2.2.1,()))))else(zbk true [125] ⟨a.1,false⟩).bind λi=>(match i with| .inl b=>(zN b.2.1.t 0).bind λj=>if(j.Kind !=0)=true then(zaN (zk b.2.1)).bind λc=>if((c.1).isNil)=true then some (⟨41,[],0,[],[],b.1⟩,a.2.1,a.2.2.1,())else(zqQ 45 c.1).bind λe=>if e.2=true then some (⟨0,[],0,[],[],[]⟩,e.1,80,())else zDX c.1 λ_=>none else(zeu ⟨41,[],0,[],[],b.1⟩).bind λk=>if(decide (k.1>64))=true then if((zad.nil).isNil)=true then some (⟨0,[],0,[],[],[]⟩,0,31,())else(zqQ 45 zad.nil).bind λf=>if f.2=true then some (⟨0,[],0,[],[],[]⟩,f.1,80,())else zDX zad.nil λ_=>none else if((zad.nil).isNil)=true then some (⟨41,[],0,[],[],b.1⟩,0,0,())else(zqQ 45 zad.nil).bind λg=>if g.2=true then some (⟨0,[],0,[],[],[]⟩,g.1,80,())else zDX zad.nil λ_=>none| .inr d=>if((d.1).isNil)=true then some (⟨0,[],0,[],[],[]⟩,a.2.1,a.2.2.1,())else(zqQ 45 d.1).bind λh=>if h.2=true then some (⟨0,[],0,[],[],[]⟩,h.1,80,())else zDX d.1 λ_=>none)
def zDj:Shape:=⟨[(0,.str)],[]⟩
def zB6:List zI:=[⟨false,.tup [.st 25,.int .i64,.int .i64],[]⟩]
def zC3:=callee Y [] zDj zB6 (λz=>zco z.1)
theorem zrY:K8 9 zC3:=
 zTZ (body:=(Tryz.f9.body).getD .skip) (gfn:=Tryz.f19) (T:=[(18,(zur)),(20,(zgu (zl Lp.big))),(21,(zfy)),(22,(zoK (zdj Lp.big)))]) [[1,2,2,2],[2,2,2,2]] Tryz.func9 (by kernel_rfl) ⟨⟨_,Tryz.func9,by kernel_rfl,rfl⟩⟩ Tryz.func19 ⟨⟨_,Tryz.func19,by kernel_rfl,rfl⟩⟩ hsz ((.cons zHw (.cons zu5 (.cons zaX (.cons zzz .nil)))):zcy hY Tryz.prog zam [(18,(zur)),(20,(zgu (zl Lp.big))),(21,(zfy)),(22,(zoK (zdj Lp.big)))]) (λ_ _ hle h=>h.mono hle) (by kernel_rfl)
  (λz=>by kernel_rfl)
def zhZ:Option (Bool×Unit):=(zco [97,32,61,32,98,10,43,43,99]).bind λb=>(zco [114,101,116,117,114,110,10,97]).bind λa=>(zco [49,32,61,32,50]).bind λc=>let d:=((b.2.2.1==0)&&(((b.1.L.length:Nat):Int)==2));let e:=((d&&(a.2.2.1==0))&&(((a.1.L.length:Nat):Int)==2));(if e=true then(zN a.1.L 0).bind λf=>let g:=((f.L.length:Nat):Int);some (g==0)else some false).bind λh=>let i:=((h&&(c.2.1==2))&&(c.2.2.1==80));some (i,())
def zwa:Shape:=⟨[],[]⟩
def zmT:List zI:=[⟨false,.bool,[]⟩]
def zw4:=callee Y [] zwa zmT (λz=>zhZ)
def zwW:zY Y (zO Y zmT):= .nil
theorem zvE:K8 11 (zw4):=f8 zwW Tryz.func11 (.cons zrY .nil) trivial
def zK(n:zg):Option (zc3×Bool×Unit):=if(n.Kind==22)=true then some (⟨[],0,false,false,[100,42,100]⟩,true,())else if(n.Kind==23)=true then let b:=(if 1< ((n.L.length:Nat):Int)then 1 else((n.L.length:Nat):Int));(zaL [101] 0 b).bind λc=>some (⟨[110],0,false,false,c⟩,true,())else if(n.Kind==24)=true then some (⟨[],0,false,false,[101]⟩,true,())else if(n.Kind==34)=true then some (⟨[],0,false,false,[101]⟩,true,())else if(n.Kind==25)=true then some (⟨[],0,false,false,[42,115]⟩,true,())else if(n.Kind==26)=true then let a:=(if 2>((n.L.length:Nat):Int)then 2 else((n.L.length:Nat):Int));let d:=(if 3<a then 3 else a);(zaL [101,98,98] 0 d).bind λe=>some (⟨[],0,false,false,e⟩,true,())else if(n.Kind==27)=true then some (⟨[],0,false,false,[101,98]⟩,true,())else if(n.Kind==28)=true then some (⟨[],0,false,false,[98,101]⟩,true,())else if(n.Kind==29)=true then some (⟨[],0,false,false,[118,102,102,98]⟩,true,())else if(n.Kind==30)=true then some (⟨[],0,false,false,[119,101,98]⟩,true,())else if(n.Kind==31)=true then some (⟨[109],0,false,false,[]⟩,true,())else if(n.Kind==32)=true then some (⟨[109],0,false,false,[]⟩,true,())else if(n.Kind==33)=true then let f:=(if 1< ((n.L.length:Nat):Int)then 1 else((n.L.length:Nat):Int));(zaL [101] 0 f).bind λg=>some (⟨[],0,false,false,g⟩,true,())else if(n.Kind==35)=true then some (⟨[99],0,false,false,[98,99,99]⟩,true,())else if(n.Kind==36)=true then some (⟨[],0,false,false,[101,42,107]⟩,true,())else if(n.Kind==37)=true then some (⟨[],0,false,false,[102,42,115]⟩,true,())else if(n.Kind==38)=true then some (⟨[110],0,false,false,[115]⟩,true,())else if(n.Kind==39)=true then some (⟨[110],0,false,true,[42,120]⟩,true,())else if(n.Kind==41)=true then some (⟨[],0,false,false,[42,120]⟩,true,())else some (⟨[],0,false,false,[]⟩,false,())
def zBU:Shape:=⟨[(0,.st 25)],[]⟩
def zr8:List zI:=[⟨false,.tup [.st 93,.bool],[]⟩]
def zBu:=callee Y [] zBU zr8 (λz=>zK z.1)
def zBj:zY Y (zO Y zr8):= .nil
theorem zAT:K8 116 (zBu):=f8 zBj Tryz.func116 .nil trivial
def zL(a:zc3):Option (zc3×Bool×Unit):=some ((zPN a),true,())
def zaE(n:zg):Option (zc3×Bool×Unit):=if(n.Kind==1)=true then zL ⟨[],9007199254740991,false,false,[]⟩else if(n.Kind==2)=true then zL ⟨[],0,true,false,[]⟩else if(n.Kind==3)=true then zL ⟨[110],0,false,false,[]⟩else if(n.Kind==4)=true then zL ⟨[],0,false,false,[]⟩else if(n.Kind==5)=true then zL ⟨[],0,false,false,[]⟩else if(n.Kind==40)=true then zL ⟨[],0,false,false,[]⟩else if(n.Kind==42)=true then zL ⟨[],0,false,false,[]⟩else if(n.Kind==6)=true then zL ⟨[],1,false,false,[]⟩else if(n.Kind==7)=true then zL ⟨[],0,false,false,[42,101]⟩else if(n.Kind==8)=true then zL ⟨[],0,false,false,[42,112]⟩else if(n.Kind==9)=true then zL ⟨[],0,true,false,[101]⟩else if(n.Kind==10)=true then zL ⟨[109],0,false,true,[42,120]⟩else if(n.Kind==11)=true then zL ⟨[105],0,false,false,[101]⟩else if(n.Kind==12)=true then zL ⟨[],0,false,false,[101,101]⟩else if(n.Kind==21)=true then zL ⟨[],0,false,false,[101,101]⟩else if(n.Kind==13)=true then zL ⟨[],0,false,false,[101,42,101]⟩else if(n.Kind==14)=true then zL ⟨[],0,false,false,[101,42,101]⟩else if(n.Kind==15)=true then zL ⟨[32,45,32,43,32,33,32,116,121,112,101,111,102,32,100,101,108,101,116,101,32,118,111,105,100,32],0,false,false,[101]⟩else if(n.Kind==16)=true then zL ⟨[32,43,43,32,45,45,32],1,false,false,[116]⟩else if(n.Kind==17)=true then zL ⟨[32,43,32,45,32,42,32,47,32,37,32,60,32,62,32,60,61,32,62,61,32,61,61,32,33,61,32,61,61,61,32,33,61,61,32,105,110,32,105,110,115,116,97,110,99,101,111,102,32],0,false,false,[101,101]⟩else if(n.Kind==18)=true then zL ⟨[32,38,38,32,124,124,32],0,false,false,[101,101]⟩else if(n.Kind==19)=true then zL ⟨[],0,false,false,[101,101,101]⟩else if(n.Kind==20)=true then zL ⟨[32,61,32,43,61,32,45,61,32,42,61,32,47,61,32,37,61,32],0,false,false,[116,101]⟩else(zK (zA n)).bind λa=>some ((zPN a.1),a.2.1,())
def zM9:Shape:=⟨[(0,.st 25)],[]⟩
def zEA:List zI:=[⟨false,.tup [.st 93,.bool],[]⟩]
def zNV:=callee Y [] zM9 zEA (λz=>zaE z.1)
def zNl:zY Y (zO Y zEA):=(.join [[1,2,2],[2,2,2]] ⟨[(2,.ptr 0 0)],[.whole 93 93]⟩ (λz=>zL z.1) .nil)
theorem zMb:K8 55 (zNV):=f8 zNl Tryz.func55 (.cons zAT .nil) ⟨λz=>by kernel_rfl,⟨⟩⟩
def zjt(s:Str):Option (Bool×Unit):=let a:=((!(s==[]))&&(decide (((s.length:Nat):Int)<=32)));if a=true then(zaY s 0).bind λb=>(ziC b).bind λc=>if c.1=true then(zpi s).bind λd=>let e:=(d.1==((s.length:Nat):Int));some (e,())else some (false,())else some (false,())
def zCF:Shape:=⟨[(0,.str)],[]⟩
def ztf:List zI:=[⟨false,.bool,[]⟩]
def zDk:=callee Y [] zCF ztf (λz=>zjt z.1)
def zCh:zY Y (zO Y ztf):= .nil
theorem zsd:K8 117 (zDk):=f8 zCh Tryz.func117 (.cons zmU (.cons zr4 .nil)) trivial
def zic(s:Str):Option (Bool×Unit):=(zjt s).bind λa=>if a.1=true then(zmM s).bind λb=>some ((!b.1),())else some (false,())
def zFA:Shape:=⟨[(0,.str)],[]⟩
def zxE:List zI:=[⟨false,.bool,[]⟩]
def zFN:=callee Y [] zFA zxE (λz=>zic z.1)
def zFF:zY Y (zO Y zxE):= .nil
theorem zuV:K8 60 (zFN):=f8 zFF Tryz.func60 (.cons zsd (.cons ztm .nil)) trivial
def zfL(e:Str)(s:Str):Option (Bool×Unit):=if(!(s==[]))=true then(strings_Contains s [32]).bind λa=>if(!a.1)=true then(zjR [32] s).bind λb=>(zjR b [32]).bind λc=>(strings_Contains e c).bind λd=>some (d.1,())else some (false,())else some (false,())
def zIX:Shape:=⟨[(0,.str),(1,.str)],[]⟩
def zzK:List zI:=[⟨false,.bool,[]⟩]
def zIO:=callee Y [] zIX zzK (u2 zfL)
def zHd:zY Y (zO Y zzK):= .nil
theorem zxK:K8 118 (zIO):=f8 zHd Tryz.func118 (.cons zhl .nil) trivial
def zqh(n:zg)(a:Str):Option (Bool×Unit):=if(a==[])=true then some ((n.Name==[]),())else if(a==[110])=true then(zic n.Name).bind λb=>some (b.1,())else if(a==[109])=true then if(n.Name==[])=true then some (true,())else(zic n.Name).bind λc=>some (c.1,())else if(a==[105])=true then(zjt n.Name).bind λd=>some (d.1,())else if(a==[99])=true then let e:=(decide (((n.L.length:Nat):Int)>1));(if e=true then(zN n.L 1).bind λf=>some (f.Kind==25)else some false).bind λg=>if g=true then(zic n.Name).bind λh=>some (h.1,())else some ((n.Name==[]),())else(zfL a n.Name).bind λi=>some (i.1,())
def zGu:Shape:=⟨[(0,.st 25),(1,.str)],[]⟩
def zyX:List zI:=[⟨false,.bool,[]⟩]
def zHy:=callee Y [] zGu zyX (u2 zqh)
def zGs:zY Y (zO Y zyX):= .nil
theorem zFP:K8 56 (zHy):=f8 zGs Tryz.func56 (.cons zuV (.cons zsd (.cons zxK .nil))) trivial
def zlB(u:Str):Option (Bool×Unit):=let a:=(IntKind.wrap .i64 ((BitVec.ofInt 64 ((u.length:Nat):Int)&&&BitVec.ofInt 64 1).toNat));some ((a==0),())
def zFt:Shape:=⟨[(0,.str)],[]⟩
def zxJ:List zI:=[⟨false,.bool,[]⟩]
def zFR:=callee Y [] zFt zxJ (λz=>zlB z.1)
def zFy:zY Y (zO Y zxJ):= .nil
theorem zuS:K8 57 (zFR):=f8 zFy Tryz.func57 .nil trivial
def zqD(s:Str):Option (Bool×Unit):=(zic s).bind λa=>some ((!a.1),())
def zGw:Shape:=⟨[(0,.str)],[]⟩
def zyI:List zI:=[⟨false,.bool,[]⟩]
def zGN:=callee Y [] zGw zyI (λz=>zqD z.1)
def zG1:zY Y (zO Y zyI):= .nil
theorem zFp:K8 59 (zGN):=f8 zG1 Tryz.func59 (.cons zuV .nil) trivial
def zdd:(List Str)×Int×Int×Unit->Option (((List Str)×Int×Int×Unit)⊕(Int×Unit))| (b,c,a,())=>if(decide (a<c))=true then(zN b a).bind λd=>(zqD d).bind λe=>if e.1=true then some (.inr (a,()))else let f:=(IntKind.wrap .i64 (a+1));some (.inl (b,c,f,()))else some (.inr ((-1),()))
def slices_IndexFunc(s:List Str):Option (Int×Unit):=Lp.loop zdd (s,((s.length:Nat):Int),0,())
def zAa:Shape:=⟨[(0,.sl 9),(1,.fn 59 [])],[]⟩
def zpn:List zI:=[⟨false,.int .i64,[]⟩]
def zzw:=callee Y [] zAa zpn (λz=>slices_IndexFunc z.1)
def zzt:zY Y (zO Y zpn):=(.loop [[7,5,2,1,2],[8,5,2,1,2],[6,2,1,2],[2,2]] ⟨[(0,.sl 9),(1,.fn 59 []),(7,.int .i64),(8,.int .i64)],[]⟩ (zdd) .nil .nil)
theorem zxR:K8 119 (zzw):=f8 zzt Tryz.func119 (.cons zFp .nil) ⟨λz=>by kernel_rfl,trivial,trivial⟩
def slices_ContainsFunc(s:List Str):Option (Bool×Unit):=(slices_IndexFunc s).bind λa=>some ((decide (a.1>=0)),())
def zvg:Shape:=⟨[(0,.sl 9),(1,.fn 59 [])],[]⟩
def zmD:List zI:=[⟨false,.bool,[]⟩]
def zu8:=callee Y [] zvg zmD (λz=>slices_ContainsFunc z.1)
def zvc:zY Y (zO Y zmD):= .nil
theorem zt2:K8 58 (zu8):=f8 zvc Tryz.func58 (.cons zxR .nil) trivial
def zdZ(t:Str)(a:Str):Option (Int):=if t.length<4294967281 then some (Lib.index t a)else none
theorem zdZ.ok(t:Str)(sub:Str)(r:Int)(h0:zdZ t sub=some r)(w0:World)(F0:Heap)(hv:F0.Sub w0)(hG:zam F0)(hg:SV.zaD F0 [.v (.string ⟨⟨t⟩⟩),.v (.string ⟨⟨sub⟩⟩)])(ρ:Nat->Nat):
  Calls Tryz.prog 127 (SV.zaj ρ [.v (.string ⟨⟨t⟩⟩),.v (.string ⟨⟨sub⟩⟩)]).toArray w0 (zdq w0 F0 λs=>s= .v (.int .i64 r)):=by
 unfold zdZ at h0
 split at h0
 ·rename_i hc
  cases h0
  obtain⟨m,hm⟩:=hG.maxLen
  refine(Tryz.stringslite_Index ⟨⟨t⟩⟩ ⟨⟨sub⟩⟩ m w0 hc (ze3 hv hm)).mono λe w' h=>?_
  exact zdq.pure (s:= .v _) hv h.1 h.2 trivial rfl rfl
 ·cases h0
def stringslite_Index(t:Str)(a:Str):Option (Int×Unit):=ziX (λr=>(r,())) (zdZ t a)
def znS:Shape:=⟨[(0,.str),(1,.str)],[]⟩
def zxN:List zI:=[⟨false,.int .i64,[]⟩]
def zya:=callee Y [] znS zxN (λz=>stringslite_Index z.1 z.2.1)
theorem zwS:K8 127 zya:=
 COk.ext (l:=znS.l) ⟨⟨_,Tryz.func127,by kernel_rfl,rfl⟩⟩ ⟨rfl,rfl⟩ rfl λz zo h=>⟨_,_,rfl,rfl,λw F hG hv=>by
  obtain⟨r,hr,rfl⟩:=zgO h
  exact zdZ.ok z.1 z.2.1 r hr w F hv hG (by simp[SV.zaD,SV.good]) (λ_=>0)⟩
def stringslite_Cut(s:Str)(b:Str):Option (Str×Str×Bool×Unit):=(stringslite_Index s b).bind λa=>if(decide (a.1>=0))=true then(zaL s 0 a.1).bind λc=>let d:=(IntKind.wrap .i64 (a.1+((b.length:Nat):Int)));(zaL s d ((s.length:Nat):Int)).bind λe=>some (c,e,true,())else some (s,[],false,())
def zAV:Shape:=⟨[(0,.str),(1,.str)],[]⟩
def zpY:List zI:=[⟨false,.tup [.str,.str,.bool],[]⟩]
def zAO:=callee Y [] zAV zpY (u2 stringslite_Cut)
def zAL:zY Y (zO Y zpY):= .nil
theorem zz7:K8 120 (zAO):=f8 zAL Tryz.func120 (.cons zwS .nil) trivial
def strings_Cut(s:Str)(b:Str):Option (Str×Str×Bool×Unit):=(stringslite_Cut s b).bind λa=>some (a.1,a.2.1,a.2.2.1,())
def zFQ:Shape:=⟨[(0,.str),(1,.str)],[]⟩
def zxI:List zI:=[⟨false,.tup [.str,.str,.bool],[]⟩]
def zFM:=callee Y [] zFQ zxI (u2 strings_Cut)
def zFT:zY Y (zO Y zxI):= .nil
theorem zD2:K8 61 (zFM):=f8 zFT Tryz.func61 (.cons zz7 .nil) trivial
structure zas where
 zbf:zg->Option (Bool×Unit)
 ziS:zg->Int->Option (Bool×Unit)
def zDn:Shape:=⟨[(0,.st 25)],[]⟩
def zwo:List zI:=[⟨false,.bool,[]⟩]
def zCA(b:zas):=callee Y [] zDn zwo (λz=>b.zbf z.1)
def zA3:Shape:=⟨[(0,.st 25),(1,.int .u8)],[]⟩
def ztR:List zI:=[⟨false,.bool,[]⟩]
def zJG(b:zas):=callee Y [] zA3 ztR (u2 b.ziS)
structure znf (g_:zas):Prop where
 zbf:COk hY Tryz.prog zam 31 (zCA g_)
 ziS:COk hY Tryz.prog zam 62 (zJG g_)
def zh8(y:zas):Str×Str×Int×(List zg)×Int×Int×zg×Unit->Option ((Str×Str×Int×(List zg)×Int×Int×zg×Unit)⊕(Bool×Unit))| (b,c,f,g,h,a,d,())=>if(decide (a<h))=true then(zN g a).bind λe=>(zjR b c).bind λj=>(zjR b c).bind λk=>let i:=(IntKind.wrap .i64 (((k.length:Nat):Int) -1));let l:=(if i<a then i else a);(zaY j l).bind λm=>(y.ziS (zA e) m).bind λn=>if(!n.1)=true then some (.inr (false,()))else let o:=((d.Kind==35)&&(e.Kind==42));(if o=true then some true else let p:=((d.Kind==36)&&(e.Kind==37));(if p=true then(zN e.L 0).bind λq=>some (q.Kind==42)else some false).bind λr=>some r).bind λs=>if s=true then let t:=(IntKind.wrap .i64 (f+1));let u:=(IntKind.wrap .i64 (a+1));some (.inl (b,c,t,g,h,u,(zA d),()))else let v:=(IntKind.wrap .i64 (a+1));some (.inl (b,c,f,g,h,v,(zA d),()))else some (.inr ((decide (f<2)),()))
def znu(o:zas)(t:zg):Option (Bool×Unit):=(zaE (zA t)).bind λa=>if(!a.2.1)=true then some (false,())else(zqh (zA t) a.1.name).bind λc=>let d:=((!c.1)||(decide (t.Num<0)));let e:=(d||(decide (t.Num>a.1.num)));if e=true then some (false,())else(zlB t.Text).bind λf=>let g:=((!f.1)||((!(t.Text==[]))&&(!a.1.text)));let h:=(g||((decide (((t.Names.length:Nat):Int)>0))&&(!a.1.names)));if h=true then some (false,())else(slices_ContainsFunc t.Names).bind λi=>if i.1=true then some (false,())else(strings_Cut a.1.l [42]).bind λb=>let j:=((b.1.length:Nat):Int);let k:=(decide (((t.L.length:Nat):Int)<j));let m:=(k||((!b.2.2.1)&&(decide (((t.L.length:Nat):Int)>((b.1.length:Nat):Int)))));if m=true then some (false,())else Lp.loop (zh8 o) (b.1,b.2.1,0,t.L,((t.L.length:Nat):Int),0,(zA t),())
def zK2(b:zas):=callee Y [] zDn zwo (λz=>znu b z.1)
def zLf(b:zas):zY Y (zO Y zwo):=(.loop [[7,5,2,1,2,2,2,2,2,2,2],[8,5,2,1,2,2,2,2,2,2,2],[6,2,1,2,2,2,2,2,2,2],[2,2,2,2,2,2,2,2]] ⟨[(1,.ptr 0 0),(5,.str),(6,.str),(8,.int .i64),(94,.sl 25),(95,.int .i64),(96,.int .i64)],[.whole 25 25]⟩ (zh8 b) .nil .nil)
theorem zFC(b:zas)(d:znf b):K8 31 (zK2 b):=f8 (zLf b) Tryz.func31 (.cons zMb (.cons zFP (.cons zuS (.cons zt2 (.cons zD2 (.cons d.ziS .nil)))))) ⟨λz=>by kernel_rfl,trivial,trivial⟩
def zgc(i:zas)(b:Int)(a:Int)(c:zg):Option (Bool×Unit):=let d:=((decide (a>=22))&&(decide (a<=40)));let e:=((d&&(a !=23))&&(a !=37));let f:=(e&&((a !=39)||(b==120)));if f=true then(i.zbf (zA c)).bind λg=>some (g.1,())else some (false,())
def zpz(c:zas)(d:Int)(e:Int)(f:Bool)(g:Int)(a:zg):Option (Bool×Unit):=if(g==120)=true then zgc c d e (zA a)else if f=true then(c.zbf (zA a)).bind λh=>some (h.1,())else some (false,())
def zpw(f:zas)(a:Int)(b:Int)(g:Bool)(c:Int)(d:zg):Option (Bool×Unit):=if(c==115)=true then zgc f a b (zA d)else zpz f a b g c (zA d)
def zpM(e:zas)(f:Int)(a:Int)(g:Bool)(b:Int)(c:zg):Option (Bool×Unit):=if(b==107)=true then if(a==37)=true then(e.zbf (zA c)).bind λh=>some (h.1,())else some (false,())else zpw e f a g b (zA c)
def zjA(k:zas)(b:Int)(a:zg):Option (Bool×Unit):=(ze9 (zA a)).bind λc=>(if c.1=true then some true else let d:=((b==22)&&(((a.L.length:Nat):Int)==1));(if d=true then(zN a.L 0).bind λe=>let f:=((e.L.length:Nat):Int);some (f==0)else some false).bind λg=>some g).bind λh=>if h=true then(k.zbf (zA a)).bind λi=>some (i.1,())else some (false,())
def zpP(e:zas)(f:Int)(a:Int)(g:Bool)(b:Int)(c:zg):Option (Bool×Unit):=if(b==119)=true then zjA e a (zA c)else zpM e f a g b (zA c)
def zpU(e:zas)(f:Int)(a:Int)(g:Bool)(h:Bool)(b:Int)(c:zg):Option (Bool×Unit):=if(b==118)=true then let i:=(g||(a==42));if(i||(a==22))=true then(e.zbf (zA c)).bind λj=>some (j.1,())else some (false,())else zpP e f a h b (zA c)
def zrq(e:zas)(f:Int)(a:Int)(g:Bool)(h:Bool)(b:Int)(c:zg):Option (Bool×Unit):=if(b==100)=true then if(a==23)=true then(e.zbf (zA c)).bind λi=>some (i.1,())else some (false,())else zpU e f a g h b (zA c)
def zsk(e:zas)(f:Int)(a:Int)(g:Bool)(h:Bool)(b:Int)(c:zg):Option (Bool×Unit):=if(b==112)=true then if(a==9)=true then(e.zbf (zA c)).bind λi=>some (i.1,())else some (false,())else zrq e f a g h b (zA c)
def zrb(e:zas)(f:Int)(a:Int)(g:Bool)(h:Bool)(b:Int)(c:zg):Option (Bool×Unit):=if(b==99)=true then let i:=((a==25)||(a==42));if i=true then(e.zbf (zA c)).bind λj=>some (j.1,())else some (false,())else zsk e f a g h b (zA c)
def zsq(e:zas)(f:Int)(a:Int)(g:Bool)(h:Bool)(b:Int)(c:zg):Option (Bool×Unit):=if(b==98)=true then if(a==25)=true then(e.zbf (zA c)).bind λi=>some (i.1,())else some (false,())else zrb e f a g h b (zA c)
def zsn(f:zas)(g:Int)(a:Int)(b:Bool)(h:Bool)(c:Int)(d:zg):Option (Bool×Unit):=if(c==102)=true then let i:=(b||(a==42));if i=true then(f.zbf (zA d)).bind λj=>some (j.1,())else some (false,())else zsq f g a b h c (zA d)
def zrV(d:zas)(e:Int)(f:Int)(g:Bool)(h:Bool)(b:Int)(a:zg):Option (Bool×Unit):=if(b==116)=true then(ze9 (zA a)).bind λi=>if i.1=true then(d.zbf (zA a)).bind λj=>some (j.1,())else some (false,())else zsn d e f g h b (zA a)
def zsa(e:zas)(f:Int)(g:Int)(a:Bool)(h:Bool)(b:Int)(c:zg):Option (Bool×Unit):=if(b==101)=true then if a=true then(e.zbf (zA c)).bind λi=>some (i.1,())else some (false,())else zrV e f g a h b (zA c)
def zsp(g:zas)(a:Int)(b:Int)(c:Bool)(d:Bool)(e:zg):Option (Bool×Unit):=zsa g a b c d a (zA e)
def ziD(f:zas)(a:Int)(b:Int)(c:Bool)(d:zg):Option (Bool×Unit):=zsp f a b c false (zA d)
def zjG(c:zas)(n:zg)(b:Int):Option (Bool×Unit):=if(decide (n.Kind>=1))=true then if(decide (n.Kind<=21))=true then ziD c b n.Kind (n.Kind !=9) (zA n)else ziD c b n.Kind false (zA n)else ziD c b n.Kind false (zA n)
def zJQ(b:zas):=callee Y [] zA3 ztR (u2 (zjG b))
def zJZ(b:zas):zY Y (zO Y ztR):=(.join [[1,2,2],[2,2,2]] ⟨[(1,.int .u8),(2,.ptr 0 0),(5,.int .i64),(6,.bool)],[.whole 25 25]⟩ (u4 (ziD b)) (.join [[1,1,2,2,2],[2,1,2,2,2],[2,2,2,2]] ⟨[(1,.int .u8),(2,.ptr 0 0),(5,.int .i64),(6,.bool),(7,.bool)],[.whole 25 25]⟩ (u5 (zsp b)) (.join [[1,5,2,1,2,2,2],[2,5,2,1,2,2,2],[6,2,1,2,2,2],[2,2,2,2]] ⟨[(1,.int .u8),(2,.ptr 0 0),(5,.int .i64),(6,.bool),(7,.bool),(23,.int .u8)],[.whole 25 25]⟩ (u6 (zsa b)) (.join [[1,4,2,5,2,1,2,2,2],[2,4,2,5,2,1,2,2,2],[6,2,1,2,2,2],[2,2,2,2]] ⟨[(1,.int .u8),(2,.ptr 0 0),(5,.int .i64),(6,.bool),(7,.bool),(23,.int .u8)],[.whole 25 25]⟩ (u6 (zrV b)) (.join [[1,4,2,4,2,5,2,1,2,2,2],[2,4,2,4,2,5,2,1,2,2,2],[6,2,1,2,2,2],[2,2,2,2]] ⟨[(1,.int .u8),(2,.ptr 0 0),(5,.int .i64),(6,.bool),(7,.bool),(23,.int .u8)],[.whole 25 25]⟩ (u6 (zsn b)) (.join [[1,4,2,4,2,4,2,5,2,1,2,2,2],[2,4,2,4,2,4,2,5,2,1,2,2,2],[6,2,1,2,2,2],[2,2,2,2]] ⟨[(1,.int .u8),(2,.ptr 0 0),(5,.int .i64),(6,.bool),(7,.bool),(23,.int .u8)],[.whole 25 25]⟩ (u6 (zsq b)) (.join [[1,4,2,4,2,4,2,4,2,5,2,1,2,2,2],[2,4,2,4,2,4,2,4,2,5,2,1,2,2,2],[6,2,1,2,2,2],[2,2,2,2]] ⟨[(1,.int .u8),(2,.ptr 0 0),(5,.int .i64),(6,.bool),(7,.bool),(23,.int .u8)],[.whole 25 25]⟩ (u6 (zrb b)) (.join [[1,4,2,4,2,4,2,4,2,4,2,5,2,1,2,2,2],[2,4,2,4,2,4,2,4,2,4,2,5,2,1,2,2,2],[6,2,1,2,2,2],[2,2,2,2]] ⟨[(1,.int .u8),(2,.ptr 0 0),(5,.int .i64),(6,.bool),(7,.bool),(23,.int .u8)],[.whole 25 25]⟩ (u6 (zsk b)) (.join [[1,4,2,4,2,4,2,4,2,4,2,4,2,5,2,1,2,2,2],[2,4,2,4,2,4,2,4,2,4,2,4,2,5,2,1,2,2,2],[6,2,1,2,2,2],[2,2,2,2]] ⟨[(1,.int .u8),(2,.ptr 0 0),(5,.int .i64),(6,.bool),(7,.bool),(23,.int .u8)],[.whole 25 25]⟩ (u6 (zrq b)) (.join [[1,4,2,4,2,4,2,4,2,4,2,4,2,4,2,5,2,1,2,2,2],[2,4,2,4,2,4,2,4,2,4,2,4,2,4,2,5,2,1,2,2,2],[6,2,1,2,2,2],[2,2,2,2]] ⟨[(1,.int .u8),(2,.ptr 0 0),(5,.int .i64),(6,.bool),(7,.bool),(23,.int .u8)],[.whole 25 25]⟩ (u6 (zpU b)) (.join [[1,4,2,4,2,4,2,4,2,4,2,4,2,4,2,4,2,5,2,1,2,2,2],[2,4,2,4,2,4,2,4,2,4,2,4,2,4,2,4,2,5,2,1,2,2,2],[6,2,1,2,2,2],[2,2,2,2]] ⟨[(1,.int .u8),(2,.ptr 0 0),(5,.int .i64),(7,.bool),(23,.int .u8)],[.whole 25 25]⟩ (u5 (zpP b)) (.join [[3,2,4,2,4,2,4,2,4,2,4,2,4,2,4,2,4,2,5,2,1,2,2,2],[6,2,1,2,2,2],[2,2,2,2]] ⟨[(2,.ptr 0 0),(5,.int .i64)],[.whole 25 25]⟩ (u2 (zjA b)) (.join [[1,4,2,4,2,4,2,4,2,4,2,4,2,4,2,4,2,4,2,5,2,1,2,2,2],[2,4,2,4,2,4,2,4,2,4,2,4,2,4,2,4,2,4,2,5,2,1,2,2,2],[6,2,1,2,2,2],[2,2,2,2]] ⟨[(1,.int .u8),(2,.ptr 0 0),(5,.int .i64),(7,.bool),(23,.int .u8)],[.whole 25 25]⟩ (u5 (zpM b)) (.join [[1,1,4,2,4,2,4,2,4,2,4,2,4,2,4,2,4,2,4,2,4,2,5,2,1,2,2,2],[2,1,4,2,4,2,4,2,4,2,4,2,4,2,4,2,4,2,4,2,4,2,5,2,1,2,2,2],[2,4,2,4,2,4,2,4,2,4,2,4,2,4,2,4,2,4,2,4,2,5,2,1,2,2,2],[6,2,1,2,2,2],[2,2,2,2]] ⟨[(1,.int .u8),(2,.ptr 0 0),(5,.int .i64),(7,.bool),(23,.int .u8)],[.whole 25 25]⟩ (u5 (zpw b)) (.join [[4,2,1,4,2,4,2,4,2,4,2,4,2,4,2,4,2,4,2,4,2,4,2,5,2,1,2,2,2],[2,4,2,4,2,4,2,4,2,4,2,4,2,4,2,4,2,4,2,4,2,5,2,1,2,2,2],[6,2,1,2,2,2],[2,2,2,2]] ⟨[(1,.int .u8),(2,.ptr 0 0),(5,.int .i64),(7,.bool),(23,.int .u8)],[.whole 25 25]⟩ (u5 (zpz b)) (.join [[3,2,4,2,4,2,4,2,4,2,4,2,4,2,4,2,4,2,4,2,4,2,5,2,1,2,2,2],[6,2,1,2,2,2],[2,2,2,2]] ⟨[(1,.int .u8),(2,.ptr 0 0),(5,.int .i64)],[.whole 25 25]⟩ (u3 (zgc b)) .nil))))))))))))))))
theorem zDJ(b:zas)(d:znf b):K8 62 (zJQ b):=f8 (zJZ b) Tryz.func62 (.cons d.zbf (.cons zl7 .nil)) ⟨λz=>by kernel_rfl,⟨λz=>by kernel_rfl,⟨λz=>by kernel_rfl,⟨λz=>by kernel_rfl,⟨λz=>by kernel_rfl,⟨λz=>by kernel_rfl,⟨λz=>by kernel_rfl,⟨λz=>by kernel_rfl,⟨λz=>by kernel_rfl,⟨λz=>by kernel_rfl,⟨λz=>by kernel_rfl,⟨λz=>by kernel_rfl,⟨λz=>by kernel_rfl,⟨λz=>by kernel_rfl,⟨λz=>by kernel_rfl,⟨λz=>by kernel_rfl,⟨⟩⟩⟩⟩⟩⟩⟩⟩⟩⟩⟩⟩⟩⟩⟩⟩⟩
def zdK:Nat->zas
 |0=>⟨λ_=>none,λ_ _=>none⟩
 |n+1=>⟨znu (zdK n),zjG (zdK n)⟩
theorem zl1: ∀n,znf (zdK n)
 |0=>⟨COk.none ⟨⟨_,Tryz.func31,by kernel_rfl,rfl⟩⟩,COk.none ⟨⟨_,Tryz.func62,by kernel_rfl,rfl⟩⟩⟩
 |n+1=>⟨zFC _ (zl1 n),zDJ _ (zl1 n)⟩
def zbf:zg->Option (Bool×Unit):=(zdK Lp.big).zbf
theorem zJk:K8 31 (zCA (zdK Lp.big)):=(zl1 Lp.big).zbf
def ziS:zg->Int->Option (Bool×Unit):=(zdK Lp.big).ziS
def zqs(n:zg):Option (Int×Unit):=if(n.Kind !=41)=true then some (70,())else(zbf (zA n)).bind λa=>if(!a.1)=true then some (70,())else(zeu (zA n)).bind λb=>if(decide (b.1>64))=true then some (31,())else some (0,())
def zHj:Shape:=⟨[(0,.st 25)],[]⟩
def zy2:List zI:=[⟨false,.int .i64,[]⟩]
def zIQ:=callee Y [] zHj zy2 (λz=>zqs z.1)
def zGG:zY Y (zO Y zy2):= .nil
theorem zFq:K8 17 (zIQ):=f8 zGG Tryz.func17 (.cons zJk (.cons zzz .nil)) trivial
def zn(l:List Str)(c:Bool)(a:List Str):Option (Bool×(List Str)×Unit):=(room (a.length+l.length)).bind λ_=>let b:=a++l;some (c,b,())
def zAM:Shape:=⟨[(0,.ptr 0 0),(1,.sl 9)],[oc1 1,.arr 9]⟩
def zpV:List zI:=[⟨false,.tup [],[oc1 1,.arr 9]⟩]
def zir:=callee Y [] zAM zpV (u3 zn)
def zAQ:zY Y (zO Y zpV):= .nil
theorem zaQ:K8 107 (zir):=f8 zAQ Tryz.func107 .nil trivial
structure zfC where
 zb0:zg->Option (Int×Unit)
def zzR:Shape:=⟨[(0,.st 25)],[]⟩
def zsg:List zI:=[⟨false,.int .i64,[]⟩]
def zm7(b:zfC):=callee Y [] zzR zsg (λz=>b.zb0 z.1)
structure zp0 (g_:zfC):Prop where
 zb0:COk hY Tryz.prog zam 149 (zm7 g_)
def znk(f:zfC)(n:zg):Option (Int×Unit):=if(n.Kind==21)=true then some (0,())else if(n.Kind==20)=true then some (1,())else if(n.Kind==19)=true then some (2,())else if(n.Kind==18)=true then(zaL n.Name 0 1).bind λg=>(strings_Index [38,124] g).bind λh=>let i:=(IntKind.wrap .i64 (4 -h.1));some (i,())else if(n.Kind==17)=true then(zfL [32,61,61,32,33,61,32,61,61,61,32,33,61,61,32] n.Name).bind λj=>if j.1=true then some (5,())else(zfL [32,43,32,45,32] n.Name).bind λk=>if k.1=true then some (7,())else(zfL [32,42,32,47,32,37,32] n.Name).bind λl=>if l.1=true then some (8,())else some (6,())else if(n.Kind==15)=true then some (9,())else if(n.Kind==16)=true then let m:=(IntKind.wrap .i64 (10 -n.Num));some (m,())else if(n.Kind==13)=true then some (11,())else if(n.Kind==11)=true then(zN n.L 0).bind λo=>(f.zb0 (zA o)).bind λa=>let b:=(if a.1>11 then a.1 else 11);let p:=(if b<12 then b else 12);some (p,())else if(n.Kind==12)=true then(zN n.L 0).bind λq=>(f.zb0 (zA q)).bind λc=>let d:=(if c.1>11 then c.1 else 11);let r:=(if d<12 then d else 12);some (r,())else if(n.Kind==14)=true then some (12,())else some (13,())
def zIj(b:zfC):=callee Y [] zzR zsg (λz=>znk b z.1)
def zI2(b:zfC):zY Y (zO Y zsg):= .nil
theorem zCz(b:zfC)(d:zp0 b):K8 149 (zIj b):=f8 (zI2 b) Tryz.func149 (.cons zsj (.cons zxK (.cons d.zb0 .nil))) trivial
def zcU:Nat->zfC
 |0=>⟨λ_=>none⟩
 |n+1=>⟨znk (zcU n)⟩
theorem zpl: ∀n,zp0 (zcU n)
 |0=>⟨COk.none ⟨⟨_,Tryz.func149,by kernel_rfl,rfl⟩⟩⟩
 |n+1=>⟨zCz _ (zpl n)⟩
def zb0:zg->Option (Int×Unit):=(zcU Lp.big).zb0
theorem zxz:K8 149 (zm7 (zcU Lp.big)):=(zpl Lp.big).zb0
def zpg(u:Str):Option (Int×Unit):=let a:=(IntKind.wrap .i64 (Int.tdiv ((u.length:Nat):Int) 2));some (a,())
def zJz:Shape:=⟨[(0,.str)],[]⟩
def zBd:List zI:=[⟨false,.int .i64,[]⟩]
def zJf:=callee Y [] zJz zBd (λz=>zpg z.1)
def zJD:zY Y (zO Y zBd):= .nil
theorem zyK:K8 194 (zJf):=f8 zJD Tryz.func194 .nil trivial
def zry(u:Str)(i:Int):Option (Int×Unit):=if(decide (i<0))=true then some ((-1),())else(zpg u).bind λa=>if(decide (i>=a.1))=true then some ((-1),())else(zaY u (IntKind.wrap .i64 (2*i))).bind λb=>let c:=(IntKind.wrap .i64 ((IntKind.wrap .i64 b)*2^8));let d:=(IntKind.wrap .i64 ((IntKind.wrap .i64 (2*i))+1));(zaY u d).bind λe=>let f:=(IntKind.wrap .i64 ((BitVec.ofInt 64 c|||BitVec.ofInt 64 (IntKind.wrap .i64 e)).toNat));some (f,())
def zMn:Shape:=⟨[(0,.str),(1,.int .i64)],[]⟩
def zDm:List zI:=[⟨false,.int .i64,[]⟩]
def zLX:=callee Y [] zMn zDm (u2 zry)
def zLM:zY Y (zO Y zDm):= .nil
theorem zJB:K8 195 (zLX):=f8 zLM Tryz.func195 (.cons zyK .nil) trivial
def zn9(d:Str)(e:Int)(f:Int)(g:Int)(a:List UInt8):zD3:=let h:=(IntKind.wrap .i64 ((BitVec.ofInt 64 e|||BitVec.ofInt 64 65536).toNat));(zcE h 16).bind λb=>(zaL b.1 1 ((b.1.length:Nat):Int)).bind λi=>(zjR [92,117] i).bind λc=>(room (a.length+c.length)).bind λ_=>let j:=a++c;let k:=(IntKind.wrap .i64 (g+1));some (.inl (d,f,k,j,()))
def zos(c:Str)(a:Int)(d:Int)(e:Int)(b:List UInt8):zD3:=let g:=((decide (a<32))||(decide (a>126)));if g=true then zn9 c a d e b else(toB (IntKind.wrap .u8 a)).bind λf=>(room (b.length+([f]:List UInt8).length)).bind λ_=>let h:=b++([f]:List UInt8);let i:=(IntKind.wrap .i64 (e+1));some (.inl (c,d,i,h,()))
def ziw(b:Str)(h:Int)(c:Int)(d:Int)(e:Int)(a:List UInt8):zD3:=if(decide (c>=0))=true then(zaY [98,116,110,102,114] c).bind λi=>(toB 92).bind λf=>(toB i).bind λg=>(room (a.length+([f,g]:List UInt8).length)).bind λ_=>let j:=a++([f,g]:List UInt8);let k:=(IntKind.wrap .i64 (e+1));some (.inl (b,d,k,j,()))else zos b h d e a
def zfB(c:Str)(a:Int)(h:Int)(d:Int)(e:Int)(b:List UInt8):zD3:=let i:=((a==34)||(a==92));if i=true then(toB 92).bind λf=>(toB (IntKind.wrap .u8 a)).bind λg=>(room (b.length+([f,g]:List UInt8).length)).bind λ_=>let j:=b++([f,g]:List UInt8);let k:=(IntKind.wrap .i64 (e+1));some (.inl (c,d,k,j,()))else ziw c a h d e b
def zgQ:Str×Int×Int×(List UInt8)×Unit->zD3| (d,e,a,b,())=>if(decide (a<e))=true then(zry d a).bind λc=>if(decide (c.1<128))=true then(strings_IndexByte [8,9,10,12,13] (IntKind.wrap .u8 c.1)).bind λf=>zfB d c.1 f.1 e a b else zfB d c.1 (-1) e a b else(room (b.length+([(UInt8.ofNat 34)]:List UInt8).length)).bind λ_=>let g:=b++([(UInt8.ofNat 34)]:List UInt8);some (.inr (g,0,()))
def zeF(u:Str):Option (Str×Int×Unit):=(zlB u).bind λa=>if(!a.1)=true then some ([],10,())else(zpg u).bind λb=>Lp.loop zgQ (u,b.1,0,([(UInt8.ofNat 34)]:List UInt8),())
def zFB:Shape:=⟨[(0,.str)],[]⟩
def zxD:List zI:=[⟨false,.tup [.str,.int .i64],[]⟩]
def zxy:=callee Y [] zFB zxD (λz=>zeF z.1)
def zFw:zY Y (zO Y zxD):=(.loop [[7,5,2,1,2,2,2],[8,5,2,1,2,2,2],[6,2,1,2,2,2],[2,2,2,2]] ⟨[(0,.str),(4,.own 0),(14,.int .i64),(15,.int .i64)],[.arr 5]⟩ (zgQ) (.join [[1,5,2,2,2,2,5,1,2,2,7,5,2,1,2,2,2],[2,5,2,2,2,2,5,1,2,2,7,5,2,1,2,2,2],[6,2,2,2,2,5,1,2,2,7,5,2,1,2,2,2],[6,1,2,2,7,5,2,1,2,2,2],[2,2,2,7,5,2,1,2,2,2],[8,5,2,1,2,2,2],[6,2,1,2,2,2],[2,2,2,2]] ⟨[(0,.str),(4,.own 0),(6,.int .i64),(7,.int .i64),(14,.int .i64),(15,.int .i64)],[.arr 5]⟩ (u6 zfB) (.join [[1,4,2,5,2,2,2,2,5,1,2,2,7,5,2,1,2,2,2],[2,4,2,5,2,2,2,2,5,1,2,2,7,5,2,1,2,2,2],[6,2,2,2,2,5,1,2,2,7,5,2,1,2,2,2],[6,1,2,2,7,5,2,1,2,2,2],[2,2,2,7,5,2,1,2,2,2],[8,5,2,1,2,2,2],[6,2,1,2,2,2],[2,2,2,2]] ⟨[(0,.str),(4,.own 0),(6,.int .i64),(7,.int .i64),(14,.int .i64),(15,.int .i64)],[.arr 5]⟩ (u6 ziw) (.join [[1,4,2,4,2,5,2,2,2,2,5,1,2,2,7,5,2,1,2,2,2],[2,4,2,4,2,5,2,2,2,2,5,1,2,2,7,5,2,1,2,2,2],[6,2,2,2,2,5,1,2,2,7,5,2,1,2,2,2],[6,1,2,2,7,5,2,1,2,2,2],[2,2,2,7,5,2,1,2,2,2],[8,5,2,1,2,2,2],[6,2,1,2,2,2],[2,2,2,2]] ⟨[(0,.str),(4,.own 0),(6,.int .i64),(14,.int .i64),(15,.int .i64)],[.arr 5]⟩ (u5 zos) (.join [[1,3,2,4,2,4,2,5,2,2,2,2,5,1,2,2,7,5,2,1,2,2,2],[2,3,2,4,2,4,2,5,2,2,2,2,5,1,2,2,7,5,2,1,2,2,2],[6,2,2,2,2,5,1,2,2,7,5,2,1,2,2,2],[6,1,2,2,7,5,2,1,2,2,2],[2,2,2,7,5,2,1,2,2,2],[8,5,2,1,2,2,2],[6,2,1,2,2,2],[2,2,2,2]] ⟨[(0,.str),(4,.own 0),(6,.int .i64),(14,.int .i64),(15,.int .i64)],[.arr 5]⟩ (u5 zn9) .nil)))) .nil)
theorem zuR:K8 174 (zxy):=f8 zFw Tryz.func174 (.cons zuS (.cons zyK (.cons zJB (.cons zjk (.cons zjq .nil))))) ⟨λz=>by kernel_rfl,⟨λz=>by kernel_rfl,⟨λz=>by kernel_rfl,⟨λz=>by kernel_rfl,⟨λz=>by kernel_rfl,⟨⟩⟩⟩⟩⟩,trivial⟩
def zgJ(a:Bool):Option (Str):=some (Lib.formatBool a)
theorem zgJ.ok(b_:Bool)(r:Str)(h0:zgJ b_=some r)(w0:World)(F0:Heap)(hv:F0.Sub w0)(hG:zam F0)(hg:SV.zaD F0 [.v (.bool b_)])(ρ:Nat->Nat):
  Calls Tryz.prog 175 (SV.zaj ρ [.v (.bool b_)]).toArray w0 (zdq w0 F0 λs=>s= .v (.string ⟨⟨r⟩⟩)):=by
 refine(Tryz.strconv_FormatBool b_ w0).mono λe w' h=>?_
 cases h0
 exact zdq.pure (s:= .v (.string ⟨⟨_⟩⟩)) hv h.1 h.2 trivial rfl rfl
def strconv_FormatBool(a:Bool):Option (Str×Unit):=ziX (λr=>(r,())) (zgJ a)
def znt:Shape:=⟨[(0,.bool)],[]⟩
def zxg:List zI:=[⟨false,.str,[]⟩]
def zmR:=callee Y [] znt zxg (λz=>strconv_FormatBool z.1)
theorem zve:K8 175 zmR:=
 COk.ext (l:=znt.l) ⟨⟨_,Tryz.func175,by kernel_rfl,rfl⟩⟩ ⟨rfl,rfl⟩ rfl λz zo h=>⟨_,_,rfl,rfl,λw F hG hv=>by
  obtain⟨r,hr,rfl⟩:=zgO h
  exact zgJ.ok z.1 r hr w F hv hG (by simp[SV.zaD,SV.good]) (λ_=>0)⟩
def zhP(i:Int)(l v:List Str):Option (List Str×Unit):=zH0 i l v
def zC0:Shape:=⟨[(0,.own 0),(1,.int .i64),(2,.own 1)],[.arr 9,.arr 9]⟩
def zCg:List zI:=[⟨false,.own 0,[.arr 9,.gone]⟩]
def zCV:Dn.Callee Y:=callee Y [0,2] zC0 zCg (λz=>zhP z.1 z.2.1 z.2.2.1)
theorem zBF:K8 109 zCV:=zUC
structure zi where
 zaU:(List zg)->Bool->(List Str)->Option (Bool×(List Str)×Unit)
 zaf:zg->Bool->(List Str)->Option (Bool×(List Str)×Unit)
 za3:zg->Int->Bool->(List Str)->Option (Bool×(List Str)×Unit)
 zD:zg->Int->Bool->(List Str)->Option (Bool×(List Str)×Unit)
 zcM:Str->Str->Bool->(List Str)->zg->Option (Bool×(List Str)×zg×Unit)
 zdy:Bool->(List Str)->zg->Option (Bool×(List Str)×zg×Unit)
 zcu:zg->Bool->(List Str)->Option (Bool×(List Str)×Unit)
 zbO:Str->Str->Bool->(List Str)->zg->Option (Bool×(List Str)×zg×Unit)
 zdD:Bool->(List Str)->zg->Option (Bool×(List Str)×zg×Unit)
 zb6:(List zg)->Bool->(List Str)->Option (Bool×(List Str)×Unit)
 zcf:Str->Str->Bool->(List Str)->zg->Option (Bool×(List Str)×zg×Unit)
 zdx:Bool->(List Str)->zg->Option (Bool×(List Str)×zg×Unit)
 zbp:zg->Bool->(List Str)->Option (Bool×(List Str)×Unit)
 zcj:Str->Str->Bool->(List Str)->zg->Option (Bool×(List Str)×zg×Unit)
 zcr:Bool->(List Str)->zg->Option (Bool×(List Str)×zg×Unit)
 zch:zg->Bool->(List Str)->Option (Bool×(List Str)×Unit)
 zbQ:Str->Str->Bool->(List Str)->(List zg)->Option (Bool×(List Str)×(List zg)×Unit)
 zcn:Bool->(List Str)->(List zg)->Option (Bool×(List Str)×(List zg)×Unit)
 zbj:Str->Str->Bool->(List Str)->(List zg)->Option (Bool×(List Str)×(List zg)×Unit)
 zcm:Bool->(List Str)->(List zg)->Option (Bool×(List Str)×(List zg)×Unit)
 zcg:Str->Str->Bool->(List Str)->(List zg)->Option (Bool×(List Str)×(List zg)×Unit)
 zcl:Bool->(List Str)->(List zg)->Option (Bool×(List Str)×(List zg)×Unit)
 za2:Str->zg->Bool->(List Str)->Option (Bool×(List Str)×Unit)
 zb9:zg->Bool->(List Str)->Option (Bool×(List Str)×Unit)
 zdG:zg->Bool->(List Str)->Option (Bool×(List Str)×Unit)
def znZ:Shape:=⟨[(0,.ptr 0 0),(1,.sl 25)],[oc1 1,.arr 9]⟩
def zj2:List zI:=[⟨false,.tup [],[oc1 1,.arr 9]⟩]
def znW(b:zi):=callee Y [] znZ zj2 (u3 b.zaU)
def zpu:Shape:=⟨[(0,.ptr 0 0),(1,.st 25)],[oc1 1,.arr 9]⟩
def zkt:List zI:=[⟨false,.tup [],[oc1 1,.arr 9]⟩]
def zy6(b:zi):=callee Y [] zpu zkt (u3 b.zaf)
def znQ:Shape:=⟨[(0,.ptr 0 0),(1,.st 25),(2,.int .i64)],[oc1 1,.arr 9]⟩
def zjM:List zI:=[⟨false,.tup [],[oc1 1,.arr 9]⟩]
def zyc(b:zi):=callee Y [] znQ zjM (u4 b.za3)
def zrv:Shape:=⟨[(0,.ptr 0 0),(1,.st 25),(2,.int .i64)],[oc1 1,.arr 9]⟩
def zl2:List zI:=[⟨false,.tup [],[oc1 1,.arr 9]⟩]
def zq5(b:zi):=callee Y [] zrv zl2 (u4 b.zD)
def zm3:Shape:=⟨[(0,.ptr 0 0),(1,.str),(2,.str),(3,.fn 151 [.ptr 2 0,.ptr 3 0])],zge⟩
def zi0:List zI:=[⟨false,.tup [],zge⟩]
def znz(b:zi):=callee Y [] zm3 zi0 (u5 b.zcM)
def zps:Shape:=⟨[(0,.ptr 0 0),(1,.ptr 3 0)],zzj⟩
def zkX:List zI:=[⟨false,.tup [],zzj⟩]
def zzf(b:zi):=callee Y [] zps zkX (u3 b.zdy)
def zo6:Shape:=⟨[(0,.ptr 0 0),(1,.st 25)],[oc1 1,.arr 9]⟩
def zkZ:List zI:=[⟨false,.tup [],[oc1 1,.arr 9]⟩]
def zo2(b:zi):=callee Y [] zo6 zkZ (u3 b.zcu)
def zhE:Shape:=⟨[(0,.ptr 0 0),(1,.str),(2,.str),(3,.fn 176 [.ptr 2 0,.ptr 3 0])],zge⟩
def zfn:List zI:=[⟨false,.tup [],zge⟩]
def zsz(b:zi):=callee Y [] zhE zfn (u5 b.zbO)
def zmO:Shape:=⟨[(0,.ptr 0 0),(1,.ptr 3 0)],zzj⟩
def zjf:List zI:=[⟨false,.tup [],zzj⟩]
def zwr(b:zi):=callee Y [] zmO zjf (u3 b.zdD)
def zo1:Shape:=⟨[(0,.ptr 0 0),(1,.sl 25)],[oc1 1,.arr 9]⟩
def zkN:List zI:=[⟨false,.tup [],[oc1 1,.arr 9]⟩]
def zzv(b:zi):=callee Y [] zo1 zkN (u3 b.zb6)
def zlp:Shape:=⟨[(0,.ptr 0 0),(1,.str),(2,.str),(3,.fn 178 [.ptr 2 0,.ptr 3 0])],zge⟩
def zhI:List zI:=[⟨false,.tup [],zge⟩]
def zlj(b:zi):=callee Y [] zlp zhI (u5 b.zcf)
def znn:Shape:=⟨[(0,.ptr 0 0),(1,.ptr 3 0)],zzj⟩
def ziU:List zI:=[⟨false,.tup [],zzj⟩]
def zxl(b:zi):=callee Y [] znn ziU (u3 b.zdx)
def zlN:Shape:=⟨[(0,.ptr 0 0),(1,.st 25)],[oc1 1,.arr 9]⟩
def zid:List zI:=[⟨false,.tup [],[oc1 1,.arr 9]⟩]
def zlD(b:zi):=callee Y [] zlN zid (u3 b.zbp)
def zli:Shape:=⟨[(0,.ptr 0 0),(1,.str),(2,.str),(3,.fn 155 [.ptr 2 0,.ptr 3 0])],zge⟩
def zhM:List zI:=[⟨false,.tup [],zge⟩]
def zlr(b:zi):=callee Y [] zli zhM (u5 b.zcj)
def zkB:Shape:=⟨[(0,.ptr 0 0),(1,.ptr 3 0)],zzj⟩
def zg5:List zI:=[⟨false,.tup [],zzj⟩]
def zrr(b:zi):=callee Y [] zkB zg5 (u3 b.zcr)
def zll:Shape:=⟨[(0,.ptr 0 0),(1,.st 25)],[oc1 1,.arr 9]⟩
def zhz:List zI:=[⟨false,.tup [],[oc1 1,.arr 9]⟩]
def zlm(b:zi):=callee Y [] zll zhz (u3 b.zch)
def zhG:Shape:=⟨[(0,.ptr 0 0),(1,.str),(2,.str),(3,.fn 197 [.ptr 2 0,.ptr 3 0])],zjQ⟩
def zfq:List zI:=[⟨false,.tup [],zjQ⟩]
def zsX(b:zi):=callee Y [] zhG zfq (u5 b.zbQ)
def zkc:Shape:=⟨[(0,.ptr 0 0),(1,.ptr 3 0)],zDB⟩
def zgs:List zI:=[⟨false,.tup [],zDB⟩]
def zql(b:zi):=callee Y [] zkc zgs (u3 b.zcn)
def zhB:Shape:=⟨[(0,.ptr 0 0),(1,.str),(2,.str),(3,.fn 198 [.ptr 2 0,.ptr 3 0])],zjQ⟩
def zfj:List zI:=[⟨false,.tup [],zjQ⟩]
def zsA(b:zi):=callee Y [] zhB zfj (u5 b.zbj)
def zkl:Shape:=⟨[(0,.ptr 0 0),(1,.ptr 3 0)],zDB⟩
def zgK:List zI:=[⟨false,.tup [],zDB⟩]
def zqM(b:zi):=callee Y [] zkl zgK (u3 b.zcm)
def zlk:Shape:=⟨[(0,.ptr 0 0),(1,.str),(2,.str),(3,.fn 199 [.ptr 2 0,.ptr 3 0])],zjQ⟩
def zhF:List zI:=[⟨false,.tup [],zjQ⟩]
def zls(b:zi):=callee Y [] zlk zhF (u5 b.zcg)
def zkf:Shape:=⟨[(0,.ptr 0 0),(1,.ptr 3 0)],zDB⟩
def zgz:List zI:=[⟨false,.tup [],zDB⟩]
def zqv(b:zi):=callee Y [] zkf zgz (u3 b.zcl)
def zpc:Shape:=⟨[(0,.ptr 0 0),(1,.str),(2,.st 25)],[oc1 1,.arr 9]⟩
def zkM:List zI:=[⟨false,.tup [],[oc1 1,.arr 9]⟩]
def zz4(b:zi):=callee Y [] zpc zkM (u4 b.za2)
def zoP:Shape:=⟨[(0,.ptr 0 0),(1,.st 25)],[oc1 1,.arr 9]⟩
def zkz:List zI:=[⟨false,.tup [],[oc1 1,.arr 9]⟩]
def zzB(b:zi):=callee Y [] zoP zkz (u3 b.zb9)
def zpk:Shape:=⟨[(0,.ptr 0 0),(1,.st 25)],[oc1 1,.arr 9]⟩
def zkx:List zI:=[⟨false,.tup [],[oc1 1,.arr 9]⟩]
def zyQ(b:zi):=callee Y [] zpk zkx (u3 b.zdG)
structure zM (g_:zi):Prop where
 zaU:COk hY Tryz.prog zam 29 (znW g_)
 zaf:COk hY Tryz.prog zam 51 (zy6 g_)
 za3:COk hY Tryz.prog zam 106 (zyc g_)
 zD:COk hY Tryz.prog zam 108 (zq5 g_)
 zcM:COk hY Tryz.prog zam 150 (znz g_)
 zdy:COk hY Tryz.prog zam 151 (zzf g_)
 zcu:COk hY Tryz.prog zam 152 (zo2 g_)
 zbO:COk hY Tryz.prog zam 150 (zsz g_)
 zdD:COk hY Tryz.prog zam 176 (zwr g_)
 zb6:COk hY Tryz.prog zam 177 (zzv g_)
 zcf:COk hY Tryz.prog zam 150 (zlj g_)
 zdx:COk hY Tryz.prog zam 178 (zxl g_)
 zbp:COk hY Tryz.prog zam 112 (zlD g_)
 zcj:COk hY Tryz.prog zam 150 (zlr g_)
 zcr:COk hY Tryz.prog zam 155 (zrr g_)
 zch:COk hY Tryz.prog zam 179 (zlm g_)
 zbQ:COk hY Tryz.prog zam 150 (zsX g_)
 zcn:COk hY Tryz.prog zam 197 (zql g_)
 zbj:COk hY Tryz.prog zam 150 (zsA g_)
 zcm:COk hY Tryz.prog zam 198 (zqM g_)
 zcg:COk hY Tryz.prog zam 150 (zls g_)
 zcl:COk hY Tryz.prog zam 199 (zqv g_)
 za2:COk hY Tryz.prog zam 110 (zz4 g_)
 zb9:COk hY Tryz.prog zam 111 (zzB g_)
 zdG:COk hY Tryz.prog zam 113 (zyQ g_)
def zdL(j:zi):(List zg)×Int×Int×Bool×(List Str)×Unit->zBI| (b,c,a,d,e,())=>if(decide (a<c))=true then(zN b a).bind λg=>(j.zaf (zA g) d e).bind λf=>let h:=(IntKind.wrap .i64 (a+1));some (.inl (b,c,h,f.1,f.2.1,()))else some (.inr (d,e,()))
def zhf(d:zi)(l:List zg)(b:Bool)(c:List Str):Option (Bool×(List Str)×Unit):=Lp.loop (zdL d) (l,((l.length:Nat):Int),0,b,c,())
def zxS(b:zi):=callee Y [] znZ zj2 (u3 (zhf b))
def zyF(b:zi):zY Y (zO Y zj2):=(.loop [[7,5,2],[8,5,2],[6,2]] ⟨[(0,.ptr 0 0),(6,.sl 25),(7,.int .i64),(8,.int .i64)],[oc1 1,.arr 9]⟩ (zdL b) .nil .nil)
theorem ztT(b:zi)(d:zM b):K8 29 (zxS b):=f8 (zyF b) Tryz.func29 (.cons d.zaf .nil) ⟨λz=>by kernel_rfl,trivial,trivial⟩
def zdg(g:zi)(a:List zg)(h:Str)(i:Bool)(j:List Str):Option (Bool×(List Str)×Unit):=(zn [h] i j).bind λb=>(zN a 0).bind λk=>(g.za3 (zA k) 0 b.1 b.2.1).bind λc=>(zn [[58]] c.1 c.2.1).bind λd=>(zaL a 1 ((a.length:Nat):Int)).bind λl=>(g.zaU l d.1 d.2.1).bind λe=>some (e.1,e.2.1,())
def zdh(i:zi)(a:List zg)(b:Bool)(c:List Str):Option (Bool×(List Str)×Unit):=(zN a 2).bind λf=>if(f.Kind==25)=true then(zn [[102,105,110,97,108,108,121]] b c).bind λd=>(zN a 2).bind λg=>(i.zaf (zA g) d.1 d.2.1).bind λe=>some (e.1,e.2.1,())else some (b,c,())
def zae(b:zi)(o:zg)(c:Bool)(l:List Str):Option (Bool×(List Str)×Unit):=if(o.Kind==22)=true then(b.za3 (zA o) 0 c l).bind λg=>(zn [[59]] g.1 g.2.1).bind λh=>some (h.1,h.2.1,())else if(o.Kind==24)=true then(zN o.L 0).bind λN=>(b.zD (zA N) 0 c l).bind λd=>(zN d.2.1 ((l.length:Nat):Int)).bind λ_=>(zN d.2.1 ((l.length:Nat):Int)).bind λi=>let O:=((i==[123])||(i==[102,117,110,99,116,105,111,110]));if O=true then(zhP ((l.length:Nat):Int) d.2.1 [[40]]).bind λj=>(room (j.1.length+([[41]]:List Str).length)).bind λ_=>let P:=j.1++[[41]];(zn [[59]] d.1 P).bind λk=>some (k.1,k.2.1,())else(zn [[59]] d.1 d.2.1).bind λm=>some (m.1,m.2.1,())else if(o.Kind==25)=true then(zn [[123]] c l).bind λn=>(b.zaU o.L n.1 n.2.1).bind λp=>(zn [[125]] p.1 p.2.1).bind λq=>some (q.1,q.2.1,())else if(o.Kind==26)=true then(zN o.L 0).bind λQ=>(b.za2 [105,102] (zA Q) c l).bind λr=>(zN o.L 1).bind λR=>(b.zaf (zA R) r.1 r.2.1).bind λe=>let S:=(((o.L.length:Nat):Int)==3);if S=true then(zn [[101,108,115,101]] e.1 e.2.1).bind λs=>(zN o.L 2).bind λU=>(b.zaf (zA U) s.1 s.2.1).bind λt=>some (t.1,t.2.1,())else some (e.1,e.2.1,())else if(o.Kind==27)=true then(b.zb9 (zA o) c l).bind λu=>some (u.1,u.2.1,())else if(o.Kind==28)=true then(b.zb9 (zA o) c l).bind λv=>some (v.1,v.2.1,())else if(o.Kind==29)=true then(b.zb9 (zA o) c l).bind λx=>some (x.1,x.2.1,())else if(o.Kind==30)=true then(b.zb9 (zA o) c l).bind λy=>some (y.1,y.2.1,())else if(o.Kind==35)=true then(zn [[116,114,121]] c l).bind λz=>(zN o.L 0).bind λV=>(b.zaf (zA V) z.1 z.2.1).bind λf=>(zN o.L 1).bind λW=>if(W.Kind==25)=true then(zn [[99,97,116,99,104],[40],o.Name,[41]] f.1 f.2.1).bind λA=>(zN o.L 1).bind λX=>(b.zaf (zA X) A.1 A.2.1).bind λB=>zdh b o.L B.1 B.2.1 else zdh b o.L f.1 f.2.1 else if(o.Kind==36)=true then(zN o.L 0).bind λZ=>(b.za2 [115,119,105,116,99,104] (zA Z) c l).bind λC=>(zn [[123]] C.1 C.2.1).bind λD=>(zaL o.L 1 ((o.L.length:Nat):Int)).bind λaa=>(b.zaU aa D.1 D.2.1).bind λE=>(zn [[125]] E.1 E.2.1).bind λH=>some (H.1,H.2.1,())else if(o.Kind==37)=true then(zN o.L 0).bind λab=>if(ab.Kind !=42)=true then zdg b o.L [99,97,115,101] c l else zdg b o.L [100,101,102,97,117,108,116] c l else if(o.Kind==38)=true then(zn [o.Name,[58]] c l).bind λI=>(zN o.L 0).bind λac=>(b.zaf (zA ac) I.1 I.2.1).bind λJ=>some (J.1,J.2.1,())else if(o.Kind==39)=true then(b.zbp (zA o) c l).bind λK=>some (K.1,K.2.1,())else(b.zdG (zA o) c l).bind λM=>some (M.1,M.2.1,())
def zzY(b:zi):=callee Y [] zpu zkt (u3 (zae b))
def zyP(b:zi):zY Y (zO Y zkt):=(.join [[1,2,2,2,3,2,4,2,4,2,4,2,4,2,4,2,5,2,2,2],[2,2,2,2,3,2,4,2,4,2,4,2,4,2,4,2,5,2,2,2],[6,2,2,2]] ⟨[(0,.ptr 0 0),(4,.sl 25)],[oc1 1,.arr 9]⟩ (u3 (zdh b)) (.join [[1,2,2,3,2,4,2,4,2,4,2,4,2,4,2,4,2,4,2,5,2,2,2],[2,2,2,3,2,4,2,4,2,4,2,4,2,4,2,4,2,4,2,5,2,2,2],[6,2,2,2]] ⟨[(0,.ptr 0 0),(4,.sl 25),(7,.str)],[oc1 1,.arr 9]⟩ (u4 (zdg b)) .nil))
theorem zuL(d:zi)(b:zM d):K8 51 (zzY d):=f8 (zyP d) Tryz.func51 (.cons b.za3 (.cons zaQ (.cons b.zD (.cons zBF (.cons b.zaU (.cons b.za2 (.cons b.zaf (.cons b.zb9 (.cons b.zbp (.cons b.zdG .nil)))))))))) ⟨λz=>by kernel_rfl,⟨λz=>by kernel_rfl,⟨⟩⟩⟩
def zjm(n:zi)(a:List zg)(b:Int)(c:Int)(d:Bool)(e:List Str)(f:zg):zBI:=let i:=((f.L.length:Nat):Int);if(decide (i>0))=true then(zn [[61]] d e).bind λg=>(zN f.L 0).bind λj=>(n.zD (zA j) 1 g.1 g.2.1).bind λh=>let k:=(IntKind.wrap .i64 (c+1));some (.inl (a,b,k,h.1,h.2.1,()))else let l:=(IntKind.wrap .i64 (c+1));some (.inl (a,b,l,d,e,()))
def zeO(i:zi)(c:List zg)(d:Int)(e:Int)(f:Bool)(g:List Str)(a:zg):zBI:=(zn [a.Name] f g).bind λb=>zjm i c d e b.1 b.2.1 (zA a)
def zcT(i:zi):(List zg)×Int×Int×Bool×(List Str)×Unit->zBI| (b,c,a,d,e,())=>if(decide (a<c))=true then(zN b a).bind λf=>if(decide (a>0))=true then(zn [[44]] d e).bind λg=>zeO i b c a g.1 g.2.1 (zA f)else zeO i b c a d e (zA f)else some (.inr (d,e,()))
def zhn(e:zi)(n:zg)(f:Int)(a:Bool)(l:List Str):Option (Bool×(List Str)×Unit):=if(n.Kind==42)=true then some (a,l,())else if(n.Kind==22)=true then(zn [[118,97,114]] a l).bind λb=>Lp.loop (zcT e) (n.L,((n.L.length:Nat):Int),0,b.1,b.2.1,())else(e.zD (zA n) f a l).bind λc=>some (c.1,c.2.1,())
def zyg(b:zi):=callee Y [] znQ zjM (u4 (zhn b))
def zyl(b:zi):zY Y (zO Y zjM):=(.loop [[7,5,2,2,3,2,4,2,5,2,2],[8,5,2,2,3,2,4,2,5,2,2],[6,2,2,3,2,4,2,5,2,2],[6,2,2]] ⟨[(0,.ptr 0 0),(22,.sl 25),(23,.int .i64),(24,.int .i64)],[oc1 1,.arr 9]⟩ (zcT b) (.join [[1,2,2,5,1,2,2,7,5,2,2,3,2,4,2,5,2,2],[2,2,2,5,1,2,2,7,5,2,2,3,2,4,2,5,2,2],[6,1,2,2,7,5,2,2,3,2,4,2,5,2,2],[2,2,2,7,5,2,2,3,2,4,2,5,2,2],[8,5,2,2,3,2,4,2,5,2,2],[6,2,2,3,2,4,2,5,2,2],[6,2,2]] ⟨[(0,.ptr 0 0),(7,.ptr 2 0),(22,.sl 25),(23,.int .i64),(24,.int .i64)],zLs⟩ (u6 (zeO b)) (.join [[1,2,2,2,5,1,2,2,7,5,2,2,3,2,4,2,5,2,2],[2,2,2,2,5,1,2,2,7,5,2,2,3,2,4,2,5,2,2],[6,1,2,2,7,5,2,2,3,2,4,2,5,2,2],[2,2,2,7,5,2,2,3,2,4,2,5,2,2],[8,5,2,2,3,2,4,2,5,2,2],[6,2,2,3,2,4,2,5,2,2],[6,2,2]] ⟨[(0,.ptr 0 0),(7,.ptr 2 0),(22,.sl 25),(23,.int .i64),(24,.int .i64)],zLs⟩ (u6 (zjm b)) .nil)) .nil)
theorem ztM(b:zi)(d:zM b):K8 106 (zyg b):=f8 (zyl b) Tryz.func106 (.cons zaQ (.cons d.zD .nil)) ⟨λz=>by kernel_rfl,⟨λz=>by kernel_rfl,⟨λz=>by kernel_rfl,⟨⟩⟩⟩,trivial⟩
def zg8(e:zi)(n:zg)(h:Int)(a:Bool)(l:List Str):Option (Bool×(List Str)×Unit):=(zb0 (zA n)).bind λf=>let g:=((decide (f.1<h))||((a&&(n.Kind==17))&&(n.Name==[105,110])));if g=true then(e.zcM [40] [41] a l (zA n)).bind λb=>some (b.1,b.2.1,())else(e.zcu (zA n) a l).bind λc=>some (c.1,c.2.1,())
def zBA(b:zi):=callee Y [] zrv zl2 (u4 (zg8 b))
def zBt(b:zi):zY Y (zO Y zl2):= .nil
theorem zyy(b:zi)(d:zM b):K8 108 (zBA b):=f8 (zBt b) Tryz.func108 ((.cons zxz (.cons (COk.laid d.zcM) (.cons d.zcu .nil))):zcy hY Tryz.prog zam [(149,(zm7 (zcU Lp.big))),(150,(zhv Y [⟨[(0,.ptr 0 0),(1,.str),(2,.str),(3,.fn 151 [.ptr 2 0,.ptr 3 0])],zge⟩,⟨[(0,.ptr 0 0),(1,.str),(2,.str),(3,.fn 176 [.ptr 2 0,.ptr 3 0])],zge⟩,⟨[(0,.ptr 0 0),(1,.str),(2,.str),(3,.fn 178 [.ptr 2 0,.ptr 3 0])],zge⟩,⟨[(0,.ptr 0 0),(1,.str),(2,.str),(3,.fn 155 [.ptr 2 0,.ptr 3 0])],zge⟩,⟨[(0,.ptr 0 0),(1,.str),(2,.str),(3,.fn 197 [.ptr 2 0,.ptr 3 0])],zjQ⟩,⟨[(0,.ptr 0 0),(1,.str),(2,.str),(3,.fn 198 [.ptr 2 0,.ptr 3 0])],zjQ⟩,⟨[(0,.ptr 0 0),(1,.str),(2,.str),(3,.fn 199 [.ptr 2 0,.ptr 3 0])],zjQ⟩] (znz b))),(152,(zo2 b))]) trivial
def zeM(h:zi)(a:Str)(f:Str)(g:Bool)(l:List Str)(x:zg):Option (Bool×(List Str)×zg×Unit):=(zn [a] false l).bind λc=>(h.zdy c.1 c.2.1 (zA x)).bind λb=>(zn [f] b.1 b.2.1).bind λd=>some (g,d.2.1,(zA b.2.2.1),())
def zwd(b:zi):=callee Y [] zm3 zi0 (u5 (zeM b))
def zwp(b:zi):zY Y (zO Y zi0):= .nil
theorem zsU(b:zi)(d:zM b):K8 150 (zwd b):=f8 (zwp b) Tryz.func150 (.cons zaQ (.cons d.zdy .nil)) trivial
def zhQ(d:zi)(c:Bool)(l:List Str)(x:zg):Option (Bool×(List Str)×zg×Unit):=(d.zcu (zA x) c l).bind λa=>some (a.1,a.2.1,(zA x),())
def zzZ(b:zi):=callee Y [] zps zkX (u3 (zhQ b))
def zzJ(b:zi):zY Y (zO Y zkX):= .nil
theorem zvN(b:zi)(d:zM b):K8 151 (zzZ b):=f8 (zzJ b) Tryz.func151 (.cons d.zcu .nil) trivial
def zh2(c:zi)(n:zg)(a:Bool)(l:List Str):Option (Bool×(List Str)×Unit):=if(n.Kind==1)=true then(zcE n.Num 10).bind λp=>(zn [p.1] a l).bind λd=>some (d.1,d.2.1,())else if(n.Kind==2)=true then(zeF n.Text).bind λq=>(zn [q.1] a l).bind λe=>some (e.1,e.2.1,())else if(n.Kind==3)=true then(zn [n.Name] a l).bind λf=>some (f.1,f.2.1,())else if(n.Kind==4)=true then(zn [[116,104,105,115]] a l).bind λg=>some (g.1,g.2.1,())else if(n.Kind==5)=true then(zn [[110,117,108,108]] a l).bind λh=>some (h.1,h.2.1,())else if(n.Kind==6)=true then(strconv_FormatBool (n.Num==1)).bind λr=>(zn [r.1] a l).bind λi=>some (i.1,i.2.1,())else if(n.Kind==7)=true then(c.zbO [91] [93] a l (zA n)).bind λj=>some (j.1,j.2.1,())else if(n.Kind==8)=true then(c.zcf [123] [125] a l (zA n)).bind λk=>some (k.1,k.2.1,())else if(n.Kind==10)=true then(c.zbp (zA n) a l).bind λm=>some (m.1,m.2.1,())else(c.zch (zA n) a l).bind λo=>some (o.1,o.2.1,())
def zzH(b:zi):=callee Y [] zo6 zkZ (u3 (zh2 b))
def zyS(b:zi):zY Y (zO Y zkZ):= .nil
theorem zvq(b:zi)(d:zM b):K8 152 (zzH b):=f8 (zyS b) Tryz.func152 ((.cons zjq (.cons zaQ (.cons zuR (.cons zve (.cons (COk.laid (COk.or d.zbO d.zcf)) (.cons d.zbp (.cons d.zch .nil))))))):zcy hY Tryz.prog zam [(173,(znG)),(107,(zir)),(174,(zxy)),(175,(zmR)),(150,(zhv Y [⟨[(0,.ptr 0 0),(1,.str),(2,.str),(3,.fn 151 [.ptr 2 0,.ptr 3 0])],zge⟩,⟨[(0,.ptr 0 0),(1,.str),(2,.str),(3,.fn 176 [.ptr 2 0,.ptr 3 0])],zge⟩,⟨[(0,.ptr 0 0),(1,.str),(2,.str),(3,.fn 178 [.ptr 2 0,.ptr 3 0])],zge⟩,⟨[(0,.ptr 0 0),(1,.str),(2,.str),(3,.fn 155 [.ptr 2 0,.ptr 3 0])],zge⟩,⟨[(0,.ptr 0 0),(1,.str),(2,.str),(3,.fn 197 [.ptr 2 0,.ptr 3 0])],zjQ⟩,⟨[(0,.ptr 0 0),(1,.str),(2,.str),(3,.fn 198 [.ptr 2 0,.ptr 3 0])],zjQ⟩,⟨[(0,.ptr 0 0),(1,.str),(2,.str),(3,.fn 199 [.ptr 2 0,.ptr 3 0])],zjQ⟩] (orC Y zhE zfn (λz=>b.zbO z.1 z.2.1 z.2.2.1 z.2.2.2.1 z.2.2.2.2.1) (zlj b)))),(112,(zlD b)),(179,(zlm b))]) trivial
def zfp(h:zi)(a:Str)(f:Str)(g:Bool)(l:List Str)(x:zg):Option (Bool×(List Str)×zg×Unit):=(zn [a] false l).bind λc=>(h.zdD c.1 c.2.1 (zA x)).bind λb=>(zn [f] b.1 b.2.1).bind λd=>some (g,d.2.1,(zA b.2.2.1),())
def zsM(b:zi):=callee Y [] zhE zfn (u5 (zfp b))
def zsK(b:zi):zY Y (zO Y zfn):= .nil
theorem zpA(b:zi)(d:zM b):K8 150 (zsM b):=f8 (zsK b) Tryz.func150 (.cons zaQ (.cons d.zdD .nil)) trivial
def zgt(d:zi)(c:Bool)(l:List Str)(x:zg):Option (Bool×(List Str)×zg×Unit):=(d.zb6 x.L c l).bind λa=>some (a.1,a.2.1,(zA x),())
def zxj(b:zi):=callee Y [] zmO zjf (u3 (zgt b))
def zvT(b:zi):zY Y (zO Y zjf):= .nil
theorem zsC(b:zi)(d:zM b):K8 176 (zxj b):=f8 (zvT b) Tryz.func176 (.cons d.zb6 .nil) trivial
def zft(k:zi)(b:List zg)(c:Int)(d:Int)(e:Bool)(f:List Str)(a:zg):zBI:=if(a.Kind==9)=true then(zeF a.Text).bind λl=>(zn [l.1,[58]] e f).bind λg=>(zN a.L 0).bind λm=>(k.zD (zA m) 1 g.1 g.2.1).bind λh=>let n:=(IntKind.wrap .i64 (d+1));some (.inl (b,c,n,h.1,h.2.1,()))else(k.zD (zA a) 1 e f).bind λi=>let o:=(IntKind.wrap .i64 (d+1));some (.inl (b,c,o,i.1,i.2.1,()))
def zcd(i:zi):(List zg)×Int×Int×Bool×(List Str)×Unit->zBI| (b,c,a,d,e,())=>if(decide (a<c))=true then(zN b a).bind λf=>if(decide (a>0))=true then(zn [[44]] d e).bind λg=>zft i b c a g.1 g.2.1 (zA f)else zft i b c a d e (zA f)else some (.inr (d,e,()))
def zhW(d:zi)(l:List zg)(b:Bool)(c:List Str):Option (Bool×(List Str)×Unit):=Lp.loop (zcd d) (l,((l.length:Nat):Int),0,b,c,())
def zAb(b:zi):=callee Y [] zo1 zkN (u3 (zhW b))
def zzV(b:zi):zY Y (zO Y zkN):=(.loop [[7,5,2],[8,5,2],[6,2]] ⟨[(0,.ptr 0 0),(8,.sl 25),(9,.int .i64),(10,.int .i64)],[oc1 1,.arr 9]⟩ (zcd b) (.join [[1,1,2,2,5,1,2,2,7,5,2],[2,1,2,2,5,1,2,2,7,5,2],[2,2,2,5,1,2,2,7,5,2],[6,1,2,2,7,5,2],[2,2,2,7,5,2],[8,5,2],[6,2]] ⟨[(0,.ptr 0 0),(5,.ptr 2 0),(8,.sl 25),(9,.int .i64),(10,.int .i64)],zLs⟩ (u6 (zft b)) .nil) .nil)
theorem zvt(b:zi)(d:zM b):K8 177 (zAb b):=f8 (zzV b) Tryz.func177 (.cons zaQ (.cons zuR (.cons d.zD .nil))) ⟨λz=>by kernel_rfl,⟨λz=>by kernel_rfl,⟨⟩⟩,trivial⟩
def zfh(h:zi)(a:Str)(f:Str)(g:Bool)(l:List Str)(x:zg):Option (Bool×(List Str)×zg×Unit):=(zn [a] false l).bind λc=>(h.zdx c.1 c.2.1 (zA x)).bind λb=>(zn [f] b.1 b.2.1).bind λd=>some (g,d.2.1,(zA b.2.2.1),())
def zsP(b:zi):=callee Y [] zlp zhI (u5 (zfh b))
def zsG(b:zi):zY Y (zO Y zhI):= .nil
theorem zpN(b:zi)(d:zM b):K8 150 (zsP b):=f8 (zsG b) Tryz.func150 (.cons zaQ (.cons d.zdx .nil)) trivial
def zgM(d:zi)(c:Bool)(l:List Str)(x:zg):Option (Bool×(List Str)×zg×Unit):=(d.zb6 x.L c l).bind λa=>some (a.1,a.2.1,(zA x),())
def zwB(b:zi):=callee Y [] znn ziU (u3 (zgM b))
def zw9(b:zi):zY Y (zO Y ziU):= .nil
theorem zsx(b:zi)(d:zM b):K8 178 (zwB b):=f8 (zw9 b) Tryz.func178 (.cons d.zb6 .nil) trivial
def zbU(p:zi):(List Str)×Int×Int×Bool×(List Str)×zg×Unit->Option (((List Str)×Int×Int×Bool×(List Str)×zg×Unit)⊕(Bool×(List Str)×Unit))| (b,c,a,d,e,f,())=>if(decide (a<c))=true then(zN b a).bind λg=>if(decide (a>0))=true then(zn [[44]] d e).bind λh=>(zn [g] h.1 h.2.1).bind λi=>let m:=(IntKind.wrap .i64 (a+1));some (.inl (b,c,m,i.1,i.2.1,(zA f),()))else(zn [g] d e).bind λj=>let n:=(IntKind.wrap .i64 (a+1));some (.inl (b,c,n,j.1,j.2.1,(zA f),()))else(zn [[41]] d e).bind λk=>(p.zcj [123] [125] k.1 k.2.1 (zA f)).bind λl=>some (.inr (l.1,l.2.1,()))
def zfN(f:zi)(n:zg)(i:Bool)(l:List Str):Option (Bool×(List Str)×Unit):=(zn [[102,117,110,99,116,105,111,110]] i l).bind λa=>if(!(n.Name==[]))=true then(zn [n.Name] a.1 a.2.1).bind λb=>(zn [[40]] b.1 b.2.1).bind λc=>let g:=((n.Names.length:Nat):Int);Lp.loop (zbU f) (n.Names,g,0,c.1,c.2.1,(zA n),())else(zn [[40]] a.1 a.2.1).bind λd=>let h:=((n.Names.length:Nat):Int);Lp.loop (zbU f) (n.Names,h,0,d.1,d.2.1,(zA n),())
def ztu(b:zi):=callee Y [] zlN zid (u3 (zfN b))
def ztH(b:zi):zY Y (zO Y zid):=(.loop [[7,5,2,1,2,2,2,2],[8,5,2,1,2,2,2,2],[6,2,1,2,2,2,2],[2,2,2,2,2]] ⟨[(2,.ptr 2 0),(3,.ptr 3 0),(21,.sl 9),(22,.int .i64),(23,.int .i64)],zge⟩ (zbU b) .nil .nil)
theorem zqn(b:zi)(d:zM b):K8 112 (ztu b):=f8 (ztH b) Tryz.func112 ((.cons zaQ (.cons (COk.laid d.zcj) .nil)):zcy hY Tryz.prog zam [(107,(zir)),(150,(zhv Y [⟨[(0,.ptr 0 0),(1,.str),(2,.str),(3,.fn 151 [.ptr 2 0,.ptr 3 0])],zge⟩,⟨[(0,.ptr 0 0),(1,.str),(2,.str),(3,.fn 176 [.ptr 2 0,.ptr 3 0])],zge⟩,⟨[(0,.ptr 0 0),(1,.str),(2,.str),(3,.fn 178 [.ptr 2 0,.ptr 3 0])],zge⟩,⟨[(0,.ptr 0 0),(1,.str),(2,.str),(3,.fn 155 [.ptr 2 0,.ptr 3 0])],zge⟩,⟨[(0,.ptr 0 0),(1,.str),(2,.str),(3,.fn 197 [.ptr 2 0,.ptr 3 0])],zjQ⟩,⟨[(0,.ptr 0 0),(1,.str),(2,.str),(3,.fn 198 [.ptr 2 0,.ptr 3 0])],zjQ⟩,⟨[(0,.ptr 0 0),(1,.str),(2,.str),(3,.fn 199 [.ptr 2 0,.ptr 3 0])],zjQ⟩] (zlr b)))]) ⟨λz=>by kernel_rfl,trivial,trivial⟩
def zfk(h:zi)(a:Str)(f:Str)(g:Bool)(l:List Str)(x:zg):Option (Bool×(List Str)×zg×Unit):=(zn [a] false l).bind λc=>(h.zcr c.1 c.2.1 (zA x)).bind λb=>(zn [f] b.1 b.2.1).bind λd=>some (g,d.2.1,(zA b.2.2.1),())
def zsR(b:zi):=callee Y [] zli zhM (u5 (zfk b))
def zsv(b:zi):zY Y (zO Y zhM):= .nil
theorem zpG(b:zi)(d:zM b):K8 150 (zsR b):=f8 (zsv b) Tryz.func150 (.cons zaQ (.cons d.zcr .nil)) trivial
def zeV(d:zi)(c:Bool)(l:List Str)(x:zg):Option (Bool×(List Str)×zg×Unit):=(d.zaU x.L c l).bind λa=>some (a.1,a.2.1,(zA x),())
def zrG(b:zi):=callee Y [] zkB zg5 (u3 (zeV b))
def zr0(b:zi):zY Y (zO Y zg5):= .nil
theorem zoR(b:zi)(d:zM b):K8 155 (zrG b):=f8 (zr0 b) Tryz.func155 (.cons d.zaU .nil) trivial
def zeZ(c:zi)(k:Int)(d:Bool)(e:List Str)(l:zg)(a:List zg):Option (Bool×(List Str)×Unit):=if(l.Kind==14)=true then(zn [[110,101,119]] d e).bind λf=>(zN a 0).bind λm=>(c.zD (zA m) 12 f.1 f.2.1).bind λg=>(c.zbj [40] [41] g.1 g.2.1 a).bind λh=>some (h.1,h.2.1,())else(zN a 0).bind λn=>(c.zD (zA n) k d e).bind λi=>(c.zbj [40] [41] i.1 i.2.1 a).bind λj=>some (j.1,j.2.1,())
def zbq(f:zi)(a:Bool)(b:List Str)(c:zg)(d:List zg):Option (Bool×(List Str)×Unit):=zeZ f 11 a b (zA c) d
def zT(b:zi)(o:zg)(c:Bool)(l:List Str):Option (Bool×(List Str)×Unit):=if(o.Kind==11)=true then(zN o.L 0).bind λD=>(b.zD (zA D) 11 c l).bind λg=>(zn [[46],o.Name] g.1 g.2.1).bind λh=>some (h.1,h.2.1,())else if(o.Kind==12)=true then(zN o.L 0).bind λE=>(b.zD (zA E) 11 c l).bind λi=>(b.zbQ [91] [93] i.1 i.2.1 o.L).bind λj=>some (j.1,j.2.1,())else if(o.Kind==13)=true then zbq b c l (zA o) o.L else if(o.Kind==14)=true then zbq b c l (zA o) o.L else if(o.Kind==15)=true then(zn [o.Name] c l).bind λk=>(zN o.L 0).bind λH=>(b.zD (zA H) 9 k.1 k.2.1).bind λm=>some (m.1,m.2.1,())else if(o.Kind==16)=true then if(o.Num==1)=true then(zn [o.Name] c l).bind λn=>(zN o.L 0).bind λI=>(b.zD (zA I) 11 n.1 n.2.1).bind λd=>if(o.Num==0)=true then(zn [o.Name] d.1 d.2.1).bind λp=>some (p.1,p.2.1,())else some (d.1,d.2.1,())else(zN o.L 0).bind λJ=>(b.zD (zA J) 11 c l).bind λe=>if(o.Num==0)=true then(zn [o.Name] e.1 e.2.1).bind λq=>some (q.1,q.2.1,())else some (e.1,e.2.1,())else if(o.Kind==19)=true then(zN o.L 0).bind λK=>(b.zD (zA K) 3 c l).bind λr=>(b.zcg [63] [58] r.1 r.2.1 o.L).bind λf=>(zN f.2.2.1 2).bind λM=>(b.zD (zA M) 1 f.1 f.2.1).bind λs=>some (s.1,s.2.1,())else if(o.Kind==20)=true then(zN o.L 0).bind λN=>(b.zD (zA N) 11 c l).bind λt=>(zn [o.Name] t.1 t.2.1).bind λu=>(zN o.L 1).bind λO=>(b.zD (zA O) 1 u.1 u.2.1).bind λv=>some (v.1,v.2.1,())else if(o.Kind==21)=true then(zN o.L 0).bind λP=>(b.zD (zA P) 0 c l).bind λx=>(zn [[44]] x.1 x.2.1).bind λy=>(zN o.L 1).bind λQ=>(b.zD (zA Q) 1 y.1 y.2.1).bind λz=>some (z.1,z.2.1,())else(zN o.L 0).bind λR=>(zb0 (zA o)).bind λS=>(b.zD (zA R) S.1 c l).bind λA=>(zn [o.Name] A.1 A.2.1).bind λB=>(zN o.L 1).bind λU=>(zb0 (zA o)).bind λV=>let W:=(IntKind.wrap .i64 (V.1+1));(b.zD (zA U) W B.1 B.2.1).bind λC=>some (C.1,C.2.1,())
def zsV(b:zi):=callee Y [] zll zhz (u3 (zT b))
def zsL(b:zi):zY Y (zO Y zhz):=(.join [[1,3,2,4,2,4,2,5,2,2,2],[2,3,2,4,2,4,2,5,2,2,2],[6,2,2,2]] ⟨[(2,.ptr 2 0),(3,.ptr 3 0),(4,.ptr 4 0)],om9⟩ (u4 (zbq b)) (.join [[1,1,2,3,2,4,2,4,2,5,2,2,2],[2,1,2,3,2,4,2,4,2,5,2,2,2],[2,2,3,2,4,2,4,2,5,2,2,2],[6,2,2,2]] ⟨[(2,.ptr 2 0),(3,.ptr 3 0),(4,.ptr 4 0),(5,.int .i64)],om9⟩ (u5 (zeZ b)) .nil))
theorem zpC(b:zi)(d:zM b):K8 179 (zsV b):=f8 (zsL b) Tryz.func179 ((.cons d.zD (.cons zaQ (.cons (COk.laid (COk.or d.zbQ (COk.or d.zbj d.zcg))) (.cons zxz .nil)))):zcy hY Tryz.prog zam [(108,(zq5 b)),(107,(zir)),(150,(zhv Y [⟨[(0,.ptr 0 0),(1,.str),(2,.str),(3,.fn 151 [.ptr 2 0,.ptr 3 0])],zge⟩,⟨[(0,.ptr 0 0),(1,.str),(2,.str),(3,.fn 176 [.ptr 2 0,.ptr 3 0])],zge⟩,⟨[(0,.ptr 0 0),(1,.str),(2,.str),(3,.fn 178 [.ptr 2 0,.ptr 3 0])],zge⟩,⟨[(0,.ptr 0 0),(1,.str),(2,.str),(3,.fn 155 [.ptr 2 0,.ptr 3 0])],zge⟩,⟨[(0,.ptr 0 0),(1,.str),(2,.str),(3,.fn 197 [.ptr 2 0,.ptr 3 0])],zjQ⟩,⟨[(0,.ptr 0 0),(1,.str),(2,.str),(3,.fn 198 [.ptr 2 0,.ptr 3 0])],zjQ⟩,⟨[(0,.ptr 0 0),(1,.str),(2,.str),(3,.fn 199 [.ptr 2 0,.ptr 3 0])],zjQ⟩] (orC Y zhG zfq (λz=>b.zbQ z.1 z.2.1 z.2.2.1 z.2.2.2.1 z.2.2.2.2.1) (orC Y zhB zfj (λz=>b.zbj z.1 z.2.1 z.2.2.1 z.2.2.2.1 z.2.2.2.2.1) (zls b))))),(149,(zm7 (zcU Lp.big)))]) ⟨λz=>by kernel_rfl,⟨λz=>by kernel_rfl,⟨⟩⟩⟩
def zfm(i:zi)(a:Str)(f:Str)(g:Bool)(l:List Str)(h:List zg):Option (Bool×(List Str)×(List zg)×Unit):=(zn [a] false l).bind λc=>(i.zcn c.1 c.2.1 h).bind λb=>(zn [f] b.1 b.2.1).bind λd=>some (g,d.2.1,b.2.2.1,())
def zsO(b:zi):=callee Y [] zhG zfq (u5 (zfm b))
def zsw(b:zi):zY Y (zO Y zfq):= .nil
theorem zpJ(b:zi)(d:zM b):K8 150 (zsO b):=f8 (zsw b) Tryz.func150 (.cons zaQ (.cons d.zcn .nil)) trivial
def zeB(f:zi)(e:Bool)(l:List Str)(a:List zg):Option (Bool×(List Str)×(List zg)×Unit):=(zN a 1).bind λc=>(f.zD (zA c) 0 e l).bind λb=>some (b.1,b.2.1,a,())
def zqz(b:zi):=callee Y [] zkc zgs (u3 (zeB b))
def zp7(b:zi):zY Y (zO Y zgs):= .nil
theorem zn6(b:zi)(d:zM b):K8 197 (zqz b):=f8 (zp7 b) Tryz.func197 (.cons d.zD .nil) trivial
def zff(i:zi)(a:Str)(f:Str)(g:Bool)(l:List Str)(h:List zg):Option (Bool×(List Str)×(List zg)×Unit):=(zn [a] false l).bind λc=>(i.zcm c.1 c.2.1 h).bind λb=>(zn [f] b.1 b.2.1).bind λd=>some (g,d.2.1,b.2.2.1,())
def zsZ(b:zi):=callee Y [] zhB zfj (u5 (zff b))
def zst(b:zi):zY Y (zO Y zfj):= .nil
theorem zpB(b:zi)(d:zM b):K8 150 (zsZ b):=f8 (zst b) Tryz.func150 (.cons zaQ (.cons d.zcm .nil)) trivial
def zeA(f:zi)(e:Bool)(l:List Str)(a:List zg):Option (Bool×(List Str)×(List zg)×Unit):=(zaL a 1 ((a.length:Nat):Int)).bind λc=>(f.zb6 c e l).bind λb=>some (b.1,b.2.1,a,())
def zqE(b:zi):=callee Y [] zkl zgK (u3 (zeA b))
def zqb(b:zi):zY Y (zO Y zgK):= .nil
theorem zol(b:zi)(d:zM b):K8 198 (zqE b):=f8 (zqb b) Tryz.func198 (.cons d.zb6 .nil) trivial
def zfl(i:zi)(a:Str)(f:Str)(g:Bool)(l:List Str)(h:List zg):Option (Bool×(List Str)×(List zg)×Unit):=(zn [a] false l).bind λc=>(i.zcl c.1 c.2.1 h).bind λb=>(zn [f] b.1 b.2.1).bind λd=>some (g,d.2.1,b.2.2.1,())
def zsS(b:zi):=callee Y [] zlk zhF (u5 (zfl b))
def zsu(b:zi):zY Y (zO Y zhF):= .nil
theorem zpH(b:zi)(d:zM b):K8 150 (zsS b):=f8 (zsu b) Tryz.func150 (.cons zaQ (.cons d.zcl .nil)) trivial
def zey(f:zi)(e:Bool)(l:List Str)(a:List zg):Option (Bool×(List Str)×(List zg)×Unit):=(zN a 1).bind λc=>(f.zD (zA c) 1 e l).bind λb=>some (b.1,b.2.1,a,())
def zp1(b:zi):=callee Y [] zkf zgz (u3 (zey b))
def zp2(b:zi):zY Y (zO Y zgz):= .nil
theorem zn7(b:zi)(d:zM b):K8 199 (zp1 b):=f8 (zp2 b) Tryz.func199 (.cons d.zD .nil) trivial
def zfX(g:zi)(e:Str)(n:zg)(f:Bool)(l:List Str):Option (Bool×(List Str)×Unit):=(zn [e,[40]] f l).bind λa=>(g.zD (zA n) 0 a.1 a.2.1).bind λb=>(zn [[41]] b.1 b.2.1).bind λc=>some (c.1,c.2.1,())
def zzo(b:zi):=callee Y [] zpc zkM (u4 (zfX b))
def zzc(b:zi):zY Y (zO Y zkM):= .nil
theorem zvK(b:zi)(d:zM b):K8 110 (zzo b):=f8 (zzc b) Tryz.func110 (.cons zaQ (.cons d.zD .nil)) trivial
def zcB(l:zi):(List zg)×(List zg)×Int×Int×Bool×(List Str)×Unit->Option (((List zg)×(List zg)×Int×Int×Bool×(List Str)×Unit)⊕(Bool×(List Str)×Unit))| (a,c,d,b,e,f,())=>if(decide (b<d))=true then(zN c b).bind λm=>(zn [[59]] e f).bind λg=>(l.za3 (zA m) 0 g.1 g.2.1).bind λh=>let n:=(IntKind.wrap .i64 (b+1));some (.inl (a,c,d,n,h.1,h.2.1,()))else(zn [[41]] e f).bind λi=>let o:=(IntKind.wrap .i64 (((a.length:Nat):Int) -1));(zN a o).bind λp=>(l.zaf (zA p) i.1 i.2.1).bind λj=>some (.inr (j.1,j.2.1,()))
def zbK(b:zi)(n:zg)(c:Bool)(l:List Str):Option (Bool×(List Str)×Unit):=if(n.Kind==27)=true then(zN n.L 0).bind λr=>(b.za2 [119,104,105,108,101] (zA r) c l).bind λd=>let s:=(IntKind.wrap .i64 (((n.L.length:Nat):Int) -1));(zN n.L s).bind λt=>(b.zaf (zA t) d.1 d.2.1).bind λe=>some (e.1,e.2.1,())else if(n.Kind==28)=true then(zn [[100,111]] c l).bind λf=>(zN n.L 0).bind λu=>(b.zaf (zA u) f.1 f.2.1).bind λg=>(zN n.L 1).bind λv=>(b.za2 [119,104,105,108,101] (zA v) g.1 g.2.1).bind λh=>(zn [[59]] h.1 h.2.1).bind λi=>some (i.1,i.2.1,())else(zn [[102,111,114],[40]] c l).bind λj=>if(n.Kind==30)=true then(zN n.L 0).bind λx=>(b.za3 (zA x) 11 true j.2.1).bind λy=>(zn [[105,110]] false y.2.1).bind λk=>(zN n.L 1).bind λz=>(b.zD (zA z) 0 k.1 k.2.1).bind λm=>(zn [[41]] m.1 m.2.1).bind λo=>let A:=(IntKind.wrap .i64 (((n.L.length:Nat):Int) -1));(zN n.L A).bind λB=>(b.zaf (zA B) o.1 o.2.1).bind λp=>some (p.1,p.2.1,())else(zN n.L 0).bind λC=>(b.za3 (zA C) 0 true j.2.1).bind λD=>(zaL n.L 1 3).bind λq=>Lp.loop (zcB b) (n.L,q,((q.length:Nat):Int),0,false,D.2.1,())
def zzb(b:zi):=callee Y [] zoP zkz (u3 (zbK b))
def zzA(b:zi):zY Y (zO Y zkz):=(.loop [[7,5,2,2,2,4,2,1,2,2,4,2,4,2,5,2,1,2,2],[8,5,2,2,2,4,2,1,2,2,4,2,4,2,5,2,1,2,2],[6,2,2,2,4,2,1,2,2,4,2,4,2,5,2,1,2,2],[2,2,2,4,2,4,2,5,2,1,2,2],[6,2,1,2,2],[2,2,2]] ⟨[(0,.ptr 0 0),(4,.sl 25),(45,.sl 25),(46,.int .i64),(47,.int .i64)],[oc1 1,.arr 9]⟩ (zcB b) .nil .nil)
theorem zuO(d:zi)(b:zM d):K8 111 (zzb d):=f8 (zzA d) Tryz.func111 (.cons b.za2 (.cons b.zaf (.cons zaQ (.cons b.za3 (.cons b.zD .nil))))) ⟨λz=>by kernel_rfl,trivial,trivial⟩
def zcA(k:zi):(List zg)×Int×Int×Bool×(List Str)×Unit->zBI| (b,c,a,d,e,())=>if(decide (a<c))=true then(zN b a).bind λh=>(k.zD (zA h) 0 d e).bind λf=>let i:=(IntKind.wrap .i64 (a+1));some (.inl (b,c,i,f.1,f.2.1,()))else(zn [[59]] d e).bind λg=>some (.inr (g.1,g.2.1,()))
def zca(f:zi)(b:Bool)(c:List Str)(a:zg):Option (Bool×(List Str)×Unit):=if(!(a.Name==[]))=true then(zn [a.Name] b c).bind λd=>let g:=((a.L.length:Nat):Int);Lp.loop (zcA f) (a.L,g,0,d.1,d.2.1,())else let h:=((a.L.length:Nat):Int);Lp.loop (zcA f) (a.L,h,0,b,c,())
def zhU(c:zi)(n:zg)(b:Bool)(l:List Str):Option (Bool×(List Str)×Unit):=if(n.Kind==31)=true then(zn [[98,114,101,97,107]] b l).bind λd=>zca c d.1 d.2.1 (zA n)else if(n.Kind==32)=true then(zn [[99,111,110,116,105,110,117,101]] b l).bind λe=>zca c e.1 e.2.1 (zA n)else if(n.Kind==33)=true then(zn [[114,101,116,117,114,110]] b l).bind λf=>zca c f.1 f.2.1 (zA n)else if(n.Kind==34)=true then(zn [[116,104,114,111,119]] b l).bind λg=>zca c g.1 g.2.1 (zA n)else zca c b l (zA n)
def zzs(b:zi):=callee Y [] zpk zkx (u3 (zhU b))
def zy8(b:zi):zY Y (zO Y zkx):=(.join [[1,1,2,2],[2,1,2,2],[2,2,2]] ⟨[(0,.ptr 0 0),(3,.ptr 2 0)],zLs⟩ (u3 (zca b)) (.loop [[7,5,2,1,2,2,2],[8,5,2,1,2,2,2],[6,2,1,2,2,2],[2,2,2,2]] ⟨[(0,.ptr 0 0),(37,.sl 25),(38,.int .i64),(39,.int .i64)],[oc1 1,.arr 9]⟩ (zcA b) .nil .nil))
theorem zuy(b:zi)(d:zM b):K8 113 (zzs b):=f8 (zy8 b) Tryz.func113 (.cons zaQ (.cons d.zD .nil)) ⟨λz=>by kernel_rfl,⟨λz=>by kernel_rfl,trivial,trivial⟩⟩
def zy:Nat->zi
 |0=>⟨λ_ _ _=>none,λ_ _ _=>none,λ_ _ _ _=>none,λ_ _ _ _=>none,λ_ _ _ _ _=>none,λ_ _ _=>none,λ_ _ _=>none,λ_ _ _ _ _=>none,λ_ _ _=>none,λ_ _ _=>none,λ_ _ _ _ _=>none,λ_ _ _=>none,λ_ _ _=>none,λ_ _ _ _ _=>none,λ_ _ _=>none,λ_ _ _=>none,λ_ _ _ _ _=>none,λ_ _ _=>none,λ_ _ _ _ _=>none,λ_ _ _=>none,λ_ _ _ _ _=>none,λ_ _ _=>none,λ_ _ _ _=>none,λ_ _ _=>none,λ_ _ _=>none⟩
 |n+1=>⟨zhf (zy n),zae (zy n),zhn (zy n),zg8 (zy n),zeM (zy n),zhQ (zy n),zh2 (zy n),zfp (zy n),zgt (zy n),zhW (zy n),zfh (zy n),zgM (zy n),zfN (zy n),zfk (zy n),zeV (zy n),zT (zy n),zfm (zy n),zeB (zy n),zff (zy n),zeA (zy n),zfl (zy n),zey (zy n),zfX (zy n),zbK (zy n),zhU (zy n)⟩
theorem zJ: ∀n,zM (zy n)
 |0=>⟨COk.none ⟨⟨_,Tryz.func29,by kernel_rfl,rfl⟩⟩,COk.none ⟨⟨_,Tryz.func51,by kernel_rfl,rfl⟩⟩,COk.none ⟨⟨_,Tryz.func106,by kernel_rfl,rfl⟩⟩,COk.none ⟨⟨_,Tryz.func108,by kernel_rfl,rfl⟩⟩,COk.none ⟨⟨_,Tryz.func150,by kernel_rfl,rfl⟩⟩,COk.none ⟨⟨_,Tryz.func151,by kernel_rfl,rfl⟩⟩,COk.none ⟨⟨_,Tryz.func152,by kernel_rfl,rfl⟩⟩,COk.none ⟨⟨_,Tryz.func150,by kernel_rfl,rfl⟩⟩,COk.none ⟨⟨_,Tryz.func176,by kernel_rfl,rfl⟩⟩,COk.none ⟨⟨_,Tryz.func177,by kernel_rfl,rfl⟩⟩,COk.none ⟨⟨_,Tryz.func150,by kernel_rfl,rfl⟩⟩,COk.none ⟨⟨_,Tryz.func178,by kernel_rfl,rfl⟩⟩,COk.none ⟨⟨_,Tryz.func112,by kernel_rfl,rfl⟩⟩,COk.none ⟨⟨_,Tryz.func150,by kernel_rfl,rfl⟩⟩,COk.none ⟨⟨_,Tryz.func155,by kernel_rfl,rfl⟩⟩,COk.none ⟨⟨_,Tryz.func179,by kernel_rfl,rfl⟩⟩,COk.none ⟨⟨_,Tryz.func150,by kernel_rfl,rfl⟩⟩,COk.none ⟨⟨_,Tryz.func197,by kernel_rfl,rfl⟩⟩,COk.none ⟨⟨_,Tryz.func150,by kernel_rfl,rfl⟩⟩,COk.none ⟨⟨_,Tryz.func198,by kernel_rfl,rfl⟩⟩,COk.none ⟨⟨_,Tryz.func150,by kernel_rfl,rfl⟩⟩,COk.none ⟨⟨_,Tryz.func199,by kernel_rfl,rfl⟩⟩,COk.none ⟨⟨_,Tryz.func110,by kernel_rfl,rfl⟩⟩,COk.none ⟨⟨_,Tryz.func111,by kernel_rfl,rfl⟩⟩,COk.none ⟨⟨_,Tryz.func113,by kernel_rfl,rfl⟩⟩⟩
 |n+1=>⟨ztT _ (zJ n),zuL _ (zJ n),ztM _ (zJ n),zyy _ (zJ n),zsU _ (zJ n),zvN _ (zJ n),zvq _ (zJ n),zpA _ (zJ n),zsC _ (zJ n),zvt _ (zJ n),zpN _ (zJ n),zsx _ (zJ n),zqn _ (zJ n),zpG _ (zJ n),zoR _ (zJ n),zpC _ (zJ n),zpJ _ (zJ n),zn6 _ (zJ n),zpB _ (zJ n),zol _ (zJ n),zpH _ (zJ n),zn7 _ (zJ n),zvK _ (zJ n),zuO _ (zJ n),zuy _ (zJ n)⟩
def zaU:(List zg)->Bool->(List Str)->Option (Bool×(List Str)×Unit):=(zy Lp.big).zaU
theorem zvZ:K8 29 (znW (zy Lp.big)):=(zJ Lp.big).zaU
def zaf:zg->Bool->(List Str)->Option (Bool×(List Str)×Unit):=(zy Lp.big).zaf
def za3:zg->Int->Bool->(List Str)->Option (Bool×(List Str)×Unit):=(zy Lp.big).za3
def zD:zg->Int->Bool->(List Str)->Option (Bool×(List Str)×Unit):=(zy Lp.big).zD
def zcM:Str->Str->Bool->(List Str)->zg->Option (Bool×(List Str)×zg×Unit):=(zy Lp.big).zcM
def zdy:Bool->(List Str)->zg->Option (Bool×(List Str)×zg×Unit):=(zy Lp.big).zdy
def zcu:zg->Bool->(List Str)->Option (Bool×(List Str)×Unit):=(zy Lp.big).zcu
def zbO:Str->Str->Bool->(List Str)->zg->Option (Bool×(List Str)×zg×Unit):=(zy Lp.big).zbO
def zdD:Bool->(List Str)->zg->Option (Bool×(List Str)×zg×Unit):=(zy Lp.big).zdD
def zb6:(List zg)->Bool->(List Str)->Option (Bool×(List Str)×Unit):=(zy Lp.big).zb6
def zcf:Str->Str->Bool->(List Str)->zg->Option (Bool×(List Str)×zg×Unit):=(zy Lp.big).zcf
def zdx:Bool->(List Str)->zg->Option (Bool×(List Str)×zg×Unit):=(zy Lp.big).zdx
def zbp:zg->Bool->(List Str)->Option (Bool×(List Str)×Unit):=(zy Lp.big).zbp
def zcj:Str->Str->Bool->(List Str)->zg->Option (Bool×(List Str)×zg×Unit):=(zy Lp.big).zcj
def zcr:Bool->(List Str)->zg->Option (Bool×(List Str)×zg×Unit):=(zy Lp.big).zcr
def zch:zg->Bool->(List Str)->Option (Bool×(List Str)×Unit):=(zy Lp.big).zch
def zbQ:Str->Str->Bool->(List Str)->(List zg)->Option (Bool×(List Str)×(List zg)×Unit):=(zy Lp.big).zbQ
def zcn:Bool->(List Str)->(List zg)->Option (Bool×(List Str)×(List zg)×Unit):=(zy Lp.big).zcn
def zbj:Str->Str->Bool->(List Str)->(List zg)->Option (Bool×(List Str)×(List zg)×Unit):=(zy Lp.big).zbj
def zcm:Bool->(List Str)->(List zg)->Option (Bool×(List Str)×(List zg)×Unit):=(zy Lp.big).zcm
def zcg:Str->Str->Bool->(List Str)->(List zg)->Option (Bool×(List Str)×(List zg)×Unit):=(zy Lp.big).zcg
def zcl:Bool->(List Str)->(List zg)->Option (Bool×(List Str)×(List zg)×Unit):=(zy Lp.big).zcl
def za2:Str->zg->Bool->(List Str)->Option (Bool×(List Str)×Unit):=(zy Lp.big).za2
def zb9:zg->Bool->(List Str)->Option (Bool×(List Str)×Unit):=(zy Lp.big).zb9
def zdG:zg->Bool->(List Str)->Option (Bool×(List Str)×Unit):=(zy Lp.big).zdG
def strings_Join(a:List Str)(b:Str):Option (Str×Unit):=if a.length<=140737488355328/\(Lib.join a b).length<=140737488355328 then some (Lib.join a b,())else none
def zvC:Shape:=⟨[(0,.sl 9),(1,.str)],[]⟩
def zDN:List zI:=[⟨false,.str,[]⟩]
def zD1:=callee Y [] zvC zDN (λz=>strings_Join z.1 z.2.1)
theorem zzL(xs:List Str)(sep r:Str)(hN:strings_Join xs sep=some (r,()))(w:World)(F:Heap)(hv:F.Sub w)(A:Option Addr)(c:Nat)(hlc:xs.length<=c)
  (hx:xs=[]\/∃b o,A=some ⟨b,o,none⟩/\b<w.heap.size/\∀(i:Nat) (x:Str),xs[i]? =some x->w.cell? ⟨b,o+i,none⟩=some (.string ⟨⟨x⟩⟩)):
  Calls Tryz.prog 30 #[.slice A xs.length c,.string ⟨⟨sep⟩⟩] w λe w'=>e= .returned (.string ⟨⟨r⟩⟩)/\Gw.St w F No w' F []:=by
 unfold strings_Join at hN
 split at hN
 ·rename_i hc
  cases hN
  rcases hx with rfl| ⟨b,o,rfl,hbk,hcell⟩
  ·exact(Tryz.strings_Join_none A c ⟨⟨sep⟩⟩ w).mono λe w' h=>⟨h.1,by rw[h.2];exact Gw.St.start hv⟩
  ·have hmap:(xs.map λs=>(⟨⟨s⟩⟩:ByteArray)).map (·.data.toList)=xs:=by rw[List.map_map];exact List.map_id xs
   have hcall:=Tryz.strings_Join b o c (xs.map λs=>⟨⟨s⟩⟩) ⟨⟨sep⟩⟩ w (λj x hx=>by
    rw[List.getElem?_map]at hx
    obtain⟨s,hs,rfl⟩:=Option.map_eq_some_iff.1 hx
    exact hcell j s hs) hbk (by simpa using hc.1) (by simpa using hlc) (by rw[hmap];exact hc.2)
   rw[List.length_map,hmap]at hcall
   exact hcall.mono λe w' h=>⟨h.1,St.zKL hv h.2⟩
 ·cases hN
theorem zCU:K8 30 zD1:=
 COk.zPh (l:=zvC.l) ⟨⟨_,Tryz.func30,by kernel_rfl,rfl⟩⟩ ⟨rfl,rfl⟩ rfl λz zo h w F vals hG hv hr=>by
  obtain⟨u,r1,rfl,q1,r2⟩:=hr.inv
  obtain⟨u2,r3,rfl,q2,r4⟩:=r2.inv
  have e2:=q2.zbg
  subst e2
  have hnil:=r4.ze7
  subst hnil
  obtain⟨A,c,rfl,hlc,hx⟩:=zRx q1 hv
  exact(zzL z.1 z.2.1 zo.1 h w F hv A c hlc hx).mono λe w' h=>⟨F,_,h.1,.v,h.2⟩
def ztl(n:zg):Option (Str×Int×Unit):=(zqs (zA n)).bind λa=>if(a.1 !=0)=true then some ([],a.1,())else(zaU n.L false []).bind λc=>(strings_Join c.2.1 [32]).bind λb=>let d:=((b.1.length:Nat):Int);if(decide (d>4096))=true then some ([],2,())else some (b.1,0,())
def zJr:Shape:=⟨[(0,.st 25)],[]⟩
def zBf:List zI:=[⟨false,.tup [.str,.int .i64],[]⟩]
def zJR:=callee Y [] zJr zBf (λz=>ztl z.1)
def zJy:zY Y (zO Y zBf):= .nil
theorem zHe:K8 16 (zJR):=f8 zJy Tryz.func16 (.cons zFq (.cons zvZ (.cons zCU .nil))) trivial
structure za9 where
 zbM:zg->zg->Option (Bool×Unit)
def znj:Shape:=⟨[(0,.st 25),(1,.st 25)],[]⟩
def zjg:List zI:=[⟨false,.bool,[]⟩]
def znq(b:za9):=callee Y [] znj zjg (u2 b.zbM)
structure zkp (g_:za9):Prop where
 zbM:COk hY Tryz.prog zam 12 (znq g_)
def zbP(j:za9):Int×Int×zg×zg×Unit->zUp| (b,a,c,d,())=>if(decide (a<b))=true then(zN c.L a).bind λe=>(zN d.L a).bind λf=>(j.zbM (zA e) (zA f)).bind λg=>if(!g.1)=true then some (.inr (false,()))else let h:=(IntKind.wrap .i64 (a+1));some (.inl (b,h,(zA c),(zA d),()))else some (.inr (true,()))
def zci(j:za9):Int×Int×zg×zg×Unit->zUp| (d,a,b,c,())=>if(decide (a<d))=true then(zN b.Names a).bind λe=>(zN c.Names a).bind λf=>if(!(e==f))=true then some (.inr (false,()))else let g:=(IntKind.wrap .i64 (a+1));some (.inl (d,g,(zA b),(zA c),()))else let h:=((b.L.length:Nat):Int);ziX .inr (Lp.loop (zbP j) (h,0,(zA b),(zA c),()))
def zgC(i:za9)(a:zg)(b:zg):Option (Bool×Unit):=let c:=((a.Kind !=b.Kind)||(!(a.Name==b.Name)));let d:=((c||(a.Num !=b.Num))||(!(a.Text==b.Text)));let e:=(d||(((a.Names.length:Nat):Int) !=((b.Names.length:Nat):Int)));let f:=(e||(((a.L.length:Nat):Int) !=((b.L.length:Nat):Int)));if f=true then some (false,())else let g:=((a.Names.length:Nat):Int);Lp.loop (zci i) (g,0,(zA a),(zA b),())
def zv5(b:za9):=callee Y [] znj zjg (u2 (zgC b))
def zw0(b:za9):zY Y (zO Y zjg):=(.loop [[7,5,2,1,2,2],[8,5,2,1,2,2],[6,2,1,2,2],[2,2,2]] ⟨[(2,.ptr 0 0),(3,.ptr 1 0),(53,.int .i64),(54,.int .i64)],[.whole 25 25,.whole 25 25]⟩ (zci b) .nil (.loop [[7,5,2,1,2,2,2],[8,5,2,1,2,2,2],[6,2,1,2,2,2],[2,2,2,2]] ⟨[(2,.ptr 0 0),(3,.ptr 1 0),(71,.int .i64),(72,.int .i64)],[.whole 25 25,.whole 25 25]⟩ (zbP b) .nil .nil))
theorem zsB(b:za9)(d:zkp b):K8 12 (zv5 b):=f8 (zw0 b) Tryz.func12 (.cons d.zbM .nil) ⟨λz=>by kernel_rfl,trivial,⟨λz=>by kernel_rfl,trivial,trivial⟩⟩
def za8:Nat->za9
 |0=>⟨λ_ _=>none⟩
 |n+1=>⟨zgC (za8 n)⟩
theorem zjw: ∀n,zkp (za8 n)
 |0=>⟨COk.none ⟨⟨_,Tryz.func12,by kernel_rfl,rfl⟩⟩⟩
 |n+1=>⟨zsB _ (zjw n)⟩
def zbM:zg->zg->Option (Bool×Unit):=(za8 Lp.big).zbM
theorem zvO:K8 12 (znq (za8 Lp.big)):=(zjw Lp.big).zbM
def zdN(n:zg):Option (Bool×Unit):=zhZ.bind λb=>(ztl (zA n)).bind λc=>if(c.2.1 !=0)=true then some (b.1,())else(zco c.1).bind λa=>let d:=((b.1&&(a.2.2.1==0))&&(a.2.1==0));if d=true then(zbM (zA a.1) (zA n)).bind λe=>some (e.1,())else some (false,())
def zp5:Shape:=⟨[(0,.st 25)],[]⟩
def zgv:List zI:=[⟨false,.bool,[]⟩]
def zkj:=callee Y [] zp5 zgv (λz=>zdN z.1)
def zqg:zY Y (zO Y zgv):= .nil
theorem zpS:K8 6 (zkj):=f8 zqg Tryz.func6 (.cons zvE (.cons zHe (.cons zrY (.cons zvO .nil)))) trivial
end
end Go.D08
