/- Texts for a statement of this seat. -/
import Derived.Test.YtdapbipagjmolaaGreatDoorMa2
import Derived.Lib.AppendIntMem
set_option linter.unusedSectionVars false
set_option linter.unusedVariables false
set_option linter.unusedSimpArgs false
set_option linter.unnecessarySimpa false
namespace Go.D08
open Go Go.Gw Go.Dn Go.RowKit Go.Proofs
set_option maxRecDepth 100000
variable [Lp]
noncomputable section
structure zam (F:Heap):Prop where
 maxLen: ∃m,zhX F 0 0 (.int .i64 m)
 zDq:zhX F 7 15 (.int .u8 4)
 zIN: ∃t p,zhX F 1 0 (.iface t p)
 zIr: ∃t p,zhX F 2 0 (.iface t p)
 zCt: ∀w:World,F.Sub w->Lib.TabIs Tryz.prog w "internal/strconv.uint64pow10" .u64 Lib.pow10Tab
theorem zam.mono{F F':Heap}(h:zam F)(hle:F.Le F'):zam F':=⟨h.maxLen.imp λ_ e=>zgO hle e,zgO hle h.zDq,h.zIN.imp λ_ e=>e.imp λ_ e=>zgO hle e,h.zIr.imp λ_ e=>e.imp λ_ e=>zgO hle e,λw hs=>h.zCt w ⟨λx o e=>hs.out x o (hle.out x o e)⟩⟩
theorem gm(F F':Heap)(hle:F.Le F')(h:zam F):zam F':=h.mono hle
@[reducible] def fd {α:Type} (x:Option α):Option α:=fk x x
def u1{a b c:Type}(f:a->b)(z:a×c):b:=f z.1
def u2{a b c d:Type}(F:a->b->d)(Z:a×b×c):d:=u1 (F Z.1) Z.2
def u3{a b c d e:Type}(F:a->b->c->e)(Z:a×b×c×d):e:=u2 (F Z.1) Z.2
def u4{a b c d e f:Type}(F:a->b->c->d->f)(Z:a×b×c×d×e):f:=u3 (F Z.1) Z.2
def u5{a b c d e f g:Type}(F:a->b->c->d->e->g)(Z:a×b×c×d×e×f):g:=u4 (F Z.1) Z.2
def u6{a b c d e f g h:Type}(F:a->b->c->d->e->f->h)(Z:a×b×c×d×e×f×g):h:=u5 (F Z.1) Z.2
def u7{a b c d e f g h i:Type}(F:a->b->c->d->e->f->g->i)(Z:a×b×c×d×e×f×g×h):i:=u6 (F Z.1) Z.2
def u8{a b c d e f g h i j:Type}(F:a->b->c->d->e->f->g->h->j)(Z:a×b×c×d×e×f×g×h×i):j:=u7 (F Z.1) Z.2
def u9{a b c d e f g h i j k:Type}(F:a->b->c->d->e->f->g->h->i->k)(Z:a×b×c×d×e×f×g×h×i×j):k:=u8 (F Z.1) Z.2
def u10{a b c d e f g h i j k l:Type}(F:a->b->c->d->e->f->g->h->i->j->l)(Z:a×b×c×d×e×f×g×h×i×j×k):l:=u9 (F Z.1) Z.2
def u11{a b c d e f g h i j k l m:Type}(F:a->b->c->d->e->f->g->h->i->j->k->m)(Z:a×b×c×d×e×f×g×h×i×j×k×l):m:=u10 (F Z.1) Z.2
def u12{a b c d e f g h i j k l m n:Type}(F:a->b->c->d->e->f->g->h->i->j->k->l->n)(Z:a×b×c×d×e×f×g×h×i×j×k×l×m):n:=u11 (F Z.1) Z.2
def u13{a b c d e f g h i j k l m n o:Type}(F:a->b->c->d->e->f->g->h->i->j->k->l->m->o)(Z:a×b×c×d×e×f×g×h×i×j×k×l×m×n):o:=u12 (F Z.1) Z.2
def u14{a b c d e f g h i j k l m n o p:Type}(F:a->b->c->d->e->f->g->h->i->j->k->l->m->n->p)(Z:a×b×c×d×e×f×g×h×i×j×k×l×m×n×o):p:=u13 (F Z.1) Z.2
def u15{a b c d e f g h i j k l m n o p q:Type}(F:a->b->c->d->e->f->g->h->i->j->k->l->m->n->o->q)(Z:a×b×c×d×e×f×g×h×i×j×k×l×m×n×o×p):q:=u14 (F Z.1) Z.2
def u16{a b c d e f g h i j k l m n o p q r:Type}(F:a->b->c->d->e->f->g->h->i->j->k->l->m->n->o->p->r)(Z:a×b×c×d×e×f×g×h×i×j×k×l×m×n×o×p×q):r:=u15 (F Z.1) Z.2
def u17{a b c d e f g h i j k l m n o p q r s:Type}(F:a->b->c->d->e->f->g->h->i->j->k->l->m->n->o->p->q->s)(Z:a×b×c×d×e×f×g×h×i×j×k×l×m×n×o×p×q×r):s:=u16 (F Z.1) Z.2
def u18{a b c d e f g h i j k l m n o p q r s t:Type}(F:a->b->c->d->e->f->g->h->i->j->k->l->m->n->o->p->q->r->t)(Z:a×b×c×d×e×f×g×h×i×j×k×l×m×n×o×p×q×r×s):t:=u17 (F Z.1) Z.2
def u19{a b c d e f g h i j k l m n o p q r s t u:Type}(F:a->b->c->d->e->f->g->h->i->j->k->l->m->n->o->p->q->r->s->u)(Z:a×b×c×d×e×f×g×h×i×j×k×l×m×n×o×p×q×r×s×t):u:=u18 (F Z.1) Z.2
def u20{a b c d e f g h i j k l m n o p q r s t u v:Type}(F:a->b->c->d->e->f->g->h->i->j->k->l->m->n->o->p->q->r->s->t->v)(Z:a×b×c×d×e×f×g×h×i×j×k×l×m×n×o×p×q×r×s×t×u):v:=u19 (F Z.1) Z.2
def oc0(a b:Nat):zbB:= .cells 25 [.int .i64,.str,.int .i64,.str,.own a,.own b]
def oc1(a:Nat):zbB:= .cells 64 [.own a,.bool]
def oc2(a:Nat):zbB:= .cells 23 [.own a]
def oc3(a:Nat):zbB:= .cells 134 [.str,.junk,.own a]
abbrev K8(n:FuncId)(C:Dn.Callee Y):Prop:=COk hY Tryz.prog zam n C
theorem f8{f:FuncId}{fn:Func}{keep:List Nat}{σ:Shape}{outs:List zI}{T:_}{g:zeI Y σ->Option (zQ Y outs)}(c:zZ Y (zQ Y outs))(hf:Tryz.prog.funcs[f]? =some fn)(hT:zcC hY Tryz.prog zam T)(hO:Obl Y Tryz.prog T fn.ntmps σ.m.length (fn.body.getD .skip) [] (zlC Y Tryz.prog σ.m.length fn.results.toList outs) (zzN Y σ.m.length outs) c)
  (h1:((fn.body.isSome&& !(fn.name== "runtime.NumGoroutine"))&&(Nat.ble (keys σ.l).length fn.ntmps&&ztD (keys σ.l) (iota 0 (keys σ.l).length)&&outs.all λo=>zh8 σ.m o.m))=true:=by kernel_rfl)
  (hg: ∀z,goA Y Tryz.prog T fn.ntmps true (tbl Y σ.m.length c) (zlC Y Tryz.prog σ.m.length fn.results.toList outs) (zzN Y σ.m.length outs) 100000 false [(0,.code (fn.body.getD .skip))] (zdu Y σ z)=g z:=by intro z;kernel_rfl):K8 f (callee Y keep σ outs g):=fo c hf h1 hsz gm hT hO hg
theorem zS6{F:Heap}{w:World}{xs:List Str}{u:Value}(r:Rel Y F [] (.sl 9 xs) u)(hv:F.Sub w): ∃A c,u= .slice A xs.length c/\xs.length<=c/\
  (xs=[]\/∃b o,A=some ⟨b,o,none⟩/\b<w.heap.size/\∀(i:Nat) (x:Str),xs[i]? =some x->w.cell? ⟨b,o+i,none⟩=some (.string ⟨⟨x⟩⟩)):=by
 have h: ∀(A:AV Y.T) (u:Value),Rel Y F [] A u->∀ys:List (Y.T 9),A= .sl 9 ys->∃A c,u= .slice A ys.length c/\ys.length<=c/\
  (ys=[]\/∃b o,A=some ⟨b,o,none⟩/\b<w.heap.size/\∀(i:Nat) (x:Str),ys[i]? =some x->w.cell? ⟨b,o+i,none⟩=some (.string ⟨⟨x⟩⟩)):=by
  intro A u r ys hA;subst hA;cases r with
  | @sl _ _ A c b off vs hc hA hvs hh=>
   refine⟨A,c,rfl,hc,?_⟩
   have cell: ∀(i:Nat) (x:Str),ys[i]? =some x->zhX F b (off+i) (.string ⟨⟨x⟩⟩):=λi x hx=>by
    have h1:(vs i).length=1:=(hvs i x hx).1;have h2:(vs i)[0]? =some ((vs i)[0]'(by omega)):=qz9 _;have h3:=(hvs i x hx).2 0 _ h2;have h4:=(hh i x 0 (.v (.string ⟨⟨x⟩⟩)) _ hx rfl h2).zbj;rw[h4]at h3;have e:off+i*Y.sz 9+0=off+i:=by show off+i*1+0=off+i;omega
    rw[e]at h3;exact h3
   cases hys:ys with
   |nil=>exact .inl rfl
   |cons x0 r0=>
    right;rw[<-hys];obtain⟨_,_,_,hF,_⟩:=cell 0 x0 (by rw[hys];rfl)
    exact⟨b,off,hA 0 x0 (by rw[hys];rfl),hv.lt hF,λi x hx=>zeU hv (cell i x hx)⟩
 exact h _ u r xs rfl
def zhl(t:Str)(p:Str):Option (Bool):=some (Lib.hasPrefix t p)
theorem zhl.ok(t:Str)(p:Str)(r:Bool)(h0:zhl t p=some r)(w0:World)(F0:Heap)(hv:F0.Sub w0)(hG:zam F0)(hg:SV.zaD F0 [.v (.string ⟨⟨t⟩⟩),.v (.string ⟨⟨p⟩⟩)])(ρ:Nat->Nat):
  Calls Tryz.prog 63 (SV.zak ρ [.v (.string ⟨⟨t⟩⟩),.v (.string ⟨⟨p⟩⟩)]).toArray w0 (zdv w0 F0 λs=>s= .v (.bool r)):=by
 refine(Tryz.strings_HasPrefix ⟨⟨t⟩⟩ ⟨⟨p⟩⟩ w0).mono λe w' h=>?_
 cases h0;exact zdv.pure (s:= .v _) hv h.1 h.2 trivial rfl rfl
def strings_HasPrefix(t:Str)(p:Str):Option (Bool×Unit):=zjx (λr=>(r,())) (zhl t p)
def zof:Shape:=⟨[(0,.str),(1,.str)],[]⟩
def zx3:List zI:=[⟨false,.bool,[]⟩]
def zxV:=callee Y [] zof zx3 (λz=>strings_HasPrefix z.1 z.2.1)
theorem zxq:K8 63 zxV:=
 COk.ext (l:=zof.l) ⟨⟨_,Tryz.func63,by kernel_rfl,rfl⟩⟩ ⟨rfl,rfl⟩ rfl λz zo h=>⟨_,_,rfl,rfl,λw F hG hv=>by
  obtain⟨r,hr,rfl⟩:=zgV h;exact zhl.ok z.1 z.2.1 r hr w F hv hG (by simp[SV.zaD,SV.good]) (λ_=>0)⟩
def zeq(t:Str)(a:Str):Option (Int):=if t.length<4294967281/\a=[10,13]then some (Lib.indexAny t [10,13])else none
theorem zeq.ok(t:Str)(cs:Str)(r:Int)(h0:zeq t cs=some r)(w0:World)(F0:Heap)(hv:F0.Sub w0)(hG:zam F0)(hg:SV.zaD F0 [.v (.string ⟨⟨t⟩⟩),.v (.string ⟨⟨cs⟩⟩)])(ρ:Nat->Nat):
  Calls Tryz.prog 64 (SV.zak ρ [.v (.string ⟨⟨t⟩⟩),.v (.string ⟨⟨cs⟩⟩)]).toArray w0 (zdv w0 F0 λs=>s= .v (.int .i64 r)):=by
 unfold zeq at h0;split at h0
 ·rename_i hc;cases h0;obtain⟨hc,rfl⟩:=hc;refine(Gw.zoi Tryz.lays153 (by kernel_rfl) ⟨⟨t⟩⟩ w0 hc).mono λe w' h=>?_
  exact zdv.below (s:= .v _) hv h.1 h.2 trivial rfl rfl
 ·cases h0
def strings_IndexAny(t:Str)(a:Str):Option (Int×Unit):=zjx (λr=>(r,())) (zeq t a)
def zAl:List zI:=[⟨false,.int .i64,[]⟩]
def zy2:=callee Y [] zof zAl (λz=>strings_IndexAny z.1 z.2.1)
theorem zyl:K8 64 zy2:=
 COk.ext (l:=zof.l) ⟨⟨_,Tryz.func64,by kernel_rfl,rfl⟩⟩ ⟨rfl,rfl⟩ rfl λz zo h=>⟨_,_,rfl,rfl,λw F hG hv=>by
  obtain⟨r,hr,rfl⟩:=zgV h;exact zeq.ok z.1 z.2.1 r hr w F hv hG (by simp[SV.zaD,SV.good]) (λ_=>0)⟩
def zf8(t:Str)(a:Str):Option (Int):=if t.length<4294967281 then some (Lib.index t a)else none
theorem zf8.ok(t:Str)(sub:Str)(r:Int)(h0:zf8 t sub=some r)(w0:World)(F0:Heap)(hv:F0.Sub w0)(hG:zam F0)(hg:SV.zaD F0 [.v (.string ⟨⟨t⟩⟩),.v (.string ⟨⟨sub⟩⟩)])(ρ:Nat->Nat):
  Calls Tryz.prog 65 (SV.zak ρ [.v (.string ⟨⟨t⟩⟩),.v (.string ⟨⟨sub⟩⟩)]).toArray w0 (zdv w0 F0 λs=>s= .v (.int .i64 r)):=by
 unfold zf8 at h0;split at h0
 ·rename_i hc;cases h0;obtain⟨m,hm⟩:=hG.maxLen;refine(Tryz.strings_Index ⟨⟨t⟩⟩ ⟨⟨sub⟩⟩ m w0 hc (zeU hv hm)).mono λe w' h=>?_
  exact zdv.pure (s:= .v _) hv h.1 h.2 trivial rfl rfl
 ·cases h0
def strings_Index(t:Str)(a:Str):Option (Int×Unit):=zjx (λr=>(r,())) (zf8 t a)
def zDw:=callee Y [] zof zAl (λz=>strings_Index z.1 z.2.1)
theorem zsB:K8 65 zDw:=
 COk.ext (l:=zof.l) ⟨⟨_,Tryz.func65,by kernel_rfl,rfl⟩⟩ ⟨rfl,rfl⟩ rfl λz zo h=>⟨_,_,rfl,rfl,λw F hG hv=>by
  obtain⟨r,hr,rfl⟩:=zgV h;exact zf8.ok z.1 z.2.1 r hr w F hv hG (by simp[SV.zaD,SV.good]) (λ_=>0)⟩
def zdz(t:Str)(a:Str):Option (Bool):=if t.length<4294967281/\a=[10,13]then some (Lib.containsAny t [10,13])else none
theorem zdz.ok(t:Str)(cs:Str)(r:Bool)(h0:zdz t cs=some r)(w0:World)(F0:Heap)(hv:F0.Sub w0)(hG:zam F0)(hg:SV.zaD F0 [.v (.string ⟨⟨t⟩⟩),.v (.string ⟨⟨cs⟩⟩)])(ρ:Nat->Nat):
  Calls Tryz.prog 66 (SV.zak ρ [.v (.string ⟨⟨t⟩⟩),.v (.string ⟨⟨cs⟩⟩)]).toArray w0 (zdv w0 F0 λs=>s= .v (.bool r)):=by
 unfold zdz at h0;split at h0
 ·rename_i hc;cases h0;obtain⟨hc,rfl⟩:=hc;refine(Gw.zux Tryz.lays150 (by kernel_rfl) ⟨⟨t⟩⟩ w0 hc).mono λe w' h=>?_
  exact zdv.below (s:= .v _) hv h.1 h.2 trivial rfl rfl
 ·cases h0
def strings_ContainsAny(t:Str)(a:Str):Option (Bool×Unit):=zjx (λr=>(r,())) (zdz t a)
def zuZ:=callee Y [] zof zx3 (λz=>strings_ContainsAny z.1 z.2.1)
theorem zuE:K8 66 zuZ:=
 COk.ext (l:=zof.l) ⟨⟨_,Tryz.func66,by kernel_rfl,rfl⟩⟩ ⟨rfl,rfl⟩ rfl λz zo h=>⟨_,_,rfl,rfl,λw F hG hv=>by
  obtain⟨r,hr,rfl⟩:=zgV h;exact zdz.ok z.1 z.2.1 r hr w F hv hG (by simp[SV.zaD,SV.good]) (λ_=>0)⟩
abbrev zUX:=Option ((Str×Int×Int×Bool×Unit)⊕(Bool×Unit))
abbrev zPQ:=Option ((zad×zh×Unit)⊕(zh×Unit))
abbrev zUF:=Option ((zaa×Unit)⊕(Bool×zaa×Unit))
abbrev zTX:=Option ((Int×Int×zg×zg×Unit)⊕(Bool×Unit))
abbrev zEN:=Option ((Str×Int×Int×(List UInt8)×Unit)⊕(Str×Int×Unit))
abbrev ziq:=Option ((zg×zh×Unit)⊕(zad×zh×Unit))
abbrev za8:=Option ((zad×zh×Unit)⊕(zg×zh×Unit))
abbrev zDV:=Option (((List zg)×zh×Unit)⊕(zad×zh×Unit))
abbrev zBz:=Option (((List zg)×Int×Int×Bool×(List Str)×Unit)⊕(Bool×(List Str)×Unit))
abbrev zEd:=Option ((zh×(List zg)×Unit)⊕(zad×zh×(List zg)×Unit))
abbrev OT9:=Option ((Int×Bool×Str×Int×Int×Bool×Int×(List UInt8)×Int×Int×Unit)⊕(Int×zad×Unit))
abbrev OT8:=Option ((zh×Str×(List zg)×Bool×Unit)⊕(zad×zh×Str×(List zg)×Bool×Unit))
abbrev OT7:=Option ((Bool×Str×zh×(List zg)×Unit)⊕(((List zg)×zh×Unit)⊕(zad×zh×Unit)))
abbrev OT6:=Option ((zh×zg×(List Str)×(List zg)×Unit)⊕(zad×zh×Int×Str×Int×Str×(List Str)×(List zg)×Unit))
abbrev OT5:=Option ((zad×zh×Int×Str×Int×Str×(List Str)×(List zg)×Unit)⊕(zh×Int×Str×Int×Str×(List Str)×(List zg)×Unit))
abbrev OT4:=Option ((zh×Int×Str×Int×Str×(List zg)×(List Str)×(List zg)×Unit)⊕(zad×zh×Int×Str×Int×Str×(List Str)×(List zg)×Unit))
abbrev OT3:=Option ((zad×zh×Str×Int×Str×Int×Str×(List Str)×(List zg)×Bool×Unit)⊕(zh×Str×Int×Str×Int×Str×(List Str)×(List zg)×Bool×Unit))
abbrev OT2:=Option ((zh×Int×Str×Int×Str×Int×Str×Int×Str×(List Str)×(List zg)×(List Str)×(List zg)×Unit)⊕((zad×zh×Unit)⊕(zg×zh×Unit)))
abbrev OT1:=Option ((Bool×zh×Int×Str×Int×Str×Int×Str×Int×Str×(List Str)×(List zg)×(List Str)×(List zg)×Unit)⊕((zad×zh×Unit)⊕(zg×zh×Unit)))
abbrev OT0:=Option ((zh×Str×Int×Str×Int×Str×(List Str)×(List zg)×Bool×Unit)⊕((zad×zh×Str×Int×Str×Int×Str×(List Str)×(List zg)×Bool×Unit)⊕(zh×Str×Int×Str×Int×Str×(List Str)×(List zg)×Bool×Unit)))
def zcx(b:Int)(a:zaa):zUF:=if a.fresh=true then(zaI a.rest b ((a.rest.length:Nat):Int)).bind λc=>some (.inl (⟨a.src,c,true⟩,()))else(zaI a.rest 0 b).bind λd=>(strings_ContainsAny d [10,13]).bind λe=>(zaI a.rest b ((a.rest.length:Nat):Int)).bind λf=>some (.inl (⟨a.src,f,e.1⟩,()))
def zaw:zaa×Unit->zUF| (a,())=>if(!(a.rest==[]))=true then(strings_HasPrefix a.rest [47,47]).bind λd=>if d.1=true then(strings_IndexAny a.rest [10,13]).bind λb=>if(decide (b.1<0))=true then let e:=((a.rest.length:Nat):Int);zcx e (zdW a)else zcx b.1 (zdW a)else(strings_HasPrefix a.rest [47,42]).bind λf=>if f.1=true then(zaI a.rest 2 ((a.rest.length:Nat):Int)).bind λg=>(strings_Index g [42,47]).bind λc=>if(decide (c.1<0))=true then some (.inr (false,(zdW a),()))else let h:=(IntKind.wrap .i64 (c.1+4));zcx h (zdW a)else(zaZ a.rest 0).bind λi=>(if(i !=32)=true then(zaZ a.rest 0).bind λj=>(if(decide (j<9))=true then some true else(zaZ a.rest 0).bind λk=>some (decide (k>13))).bind λl=>some l else some false).bind λm=>if m=true then some (.inr (true,(zdW a),()))else zcx 1 (zdW a)else some (.inr (true,(zdW a),()))
def zht(x:zaa):Option (Bool×zaa×Unit):=Lp.loop zaw (⟨x.src,x.rest,false⟩,())
def zv0:Shape:=⟨[(0,.ptr 0 0)],[.whole 69 69]⟩
def zmv:List zI:=[⟨false,.bool,[.whole 69 69]⟩]
def zu0:=callee Y [] zv0 zmv (λz=>zht z.1)
def zvk:zZ Y (zQ Y zmv):=(.loop [[7,5,1,2,2,9,2],[8,5,1,2,2,9,2],[6,1,2,2,9,2],[2,2,2,9,2],[10,2]] ⟨[(0,.ptr 0 0)],[.whole 69 69]⟩ (zaw) (.join [[1,2,2,5,2,7,5,1,2,2,9,2],[2,2,2,5,2,7,5,1,2,2,9,2],[6,2,7,5,1,2,2,9,2],[8,5,1,2,2,9,2],[6,1,2,2,9,2],[2,2,2,9,2],[10,2]] ⟨[(0,.ptr 0 0),(3,.int .i64)],[.whole 69 69]⟩ (u2 zcx) .nil) .nil)
theorem ztZ:K8 32 (zu0):=f8 zvk Tryz.func32 (.cons zxq (.cons zyl (.cons zsB (.cons zuE .nil)))) ⟨λz=>by kernel_rfl,⟨λz=>by kernel_rfl,⟨⟩⟩,trivial⟩
def zoW(s:List zu):Option ((List zu)×Unit):=(zJd s 0 ((s.length:Nat):Int) ((s.length:Nat):Int)).bind λa=>some (a,())
def zF8:Shape:=⟨[(0,.sl 36)],[]⟩
def zxO:List zI:=[⟨false,.sl 36,[]⟩]
def zFQ:=callee Y [] zF8 zxO (λz=>zoW z.1)
def zF3:zZ Y (zQ Y zxO):= .nil
theorem zEC:K8 33 (zFQ):=f8 zF3 Tryz.func33 .nil trivial
def ziN(c:Int):Option (Bool×Unit):=let a:=(IntKind.wrap .u8 ((BitVec.ofInt 8 c|||BitVec.ofInt 8 32).toNat));let b:=((decide (a>=97))&&(decide ((IntKind.wrap .u8 ((BitVec.ofInt 8 c|||BitVec.ofInt 8 32).toNat))<=122)));let d:=((b||(c==95))||(c==36));some (d,())
def zEx:Shape:=⟨[(0,.int .u8)],[]⟩
def zEg:=callee Y [] zEx zx3 (λz=>ziN z.1)
def zEf:zZ Y (zQ Y zx3):= .nil
theorem zne:K8 67 (zEg):=f8 zEf Tryz.func67 .nil trivial
def zlL(c:Int):Option (Bool×Unit):=let a:=((decide (c>=48))&&(decide (c<=57)));some (a,())
def zFS:=callee Y [] zEx zx3 (λz=>zlL z.1)
theorem zuS:K8 70 (zFS):=f8 zEf Tryz.func70 .nil trivial
def zhd:Str×Int×Int×Unit->Option ((Str×Int×Int×Unit)⊕(Int×Unit))| (b,c,a,())=>if(decide (a<c))=true then(zaZ b a).bind λd=>(ziN d).bind λe=>if(!e.1)=true then(zaZ b a).bind λf=>(zlL f).bind λg=>if(!g.1)=true then some (.inr (a,()))else let h:=(IntKind.wrap .i64 (a+1));some (.inl (b,c,h,()))else let i:=(IntKind.wrap .i64 (a+1));some (.inl (b,c,i,()))else some (.inr (((b.length:Nat):Int),()))
def zpb(s:Str):Option (Int×Unit):=Lp.loop zhd (s,((s.length:Nat):Int),0,())
def zJW:Shape:=⟨[(0,.str)],[]⟩
def zKd:=callee Y [] zJW zAl (λz=>zpb z.1)
def zJ4:zZ Y (zQ Y zAl):=(.loop [[7,5,2,1,2],[8,5,2,1,2],[6,2,1,2],[2,2]] ⟨[(0,.str),(5,.int .i64),(6,.int .i64)],[]⟩ (zhd) .nil .nil)
theorem zse:K8 68 (zKd):=f8 zJ4 Tryz.func68 (.cons zne (.cons zuS .nil)) ⟨λz=>by kernel_rfl,trivial,trivial⟩
def zcR(t:Str)(a:Str):Option (Bool):=if t.length<4294967281 then some (Lib.contains t a)else none
theorem zcR.ok(t:Str)(sub:Str)(r:Bool)(h0:zcR t sub=some r)(w0:World)(F0:Heap)(hv:F0.Sub w0)(hG:zam F0)(hg:SV.zaD F0 [.v (.string ⟨⟨t⟩⟩),.v (.string ⟨⟨sub⟩⟩)])(ρ:Nat->Nat):
  Calls Tryz.prog 129 (SV.zak ρ [.v (.string ⟨⟨t⟩⟩),.v (.string ⟨⟨sub⟩⟩)]).toArray w0 (zdv w0 F0 λs=>s= .v (.bool r)):=by
 unfold zcR at h0;split at h0
 ·rename_i hc;cases h0;obtain⟨m,hm⟩:=hG.maxLen;refine(Tryz.strings_Contains ⟨⟨t⟩⟩ ⟨⟨sub⟩⟩ m w0 hc (zeU hv hm)).mono λe w' h=>?_
  exact zdv.pure (s:= .v _) hv h.1 h.2 trivial rfl rfl
 ·cases h0
def strings_Contains(t:Str)(a:Str):Option (Bool×Unit):=zjx (λr=>(r,())) (zcR t a)
def zzx:=callee Y [] zof zx3 (λz=>strings_Contains z.1 z.2.1)
theorem zhr:K8 129 zzx:=
 COk.ext (l:=zof.l) ⟨⟨_,Tryz.func129,by kernel_rfl,rfl⟩⟩ ⟨rfl,rfl⟩ rfl λz zo h=>⟨_,_,rfl,rfl,λw F hG hv=>by
  obtain⟨r,hr,rfl⟩:=zgV h;exact zcR.ok z.1 z.2.1 r hr w F hv hG (by simp[SV.zaD,SV.good]) (λ_=>0)⟩
def zgS(e:Str)(s:Str):Option (Bool×Unit):=if(!(s==[]))=true then(strings_Contains s [32]).bind λa=>if(!a.1)=true then(zh9 [32] s).bind λb=>(zh9 b [32]).bind λc=>(strings_Contains e c).bind λd=>some (d.1,())else some (false,())else some (false,())
def zFY:=callee Y [] zof zx3 (u2 zgS)
theorem zve:K8 73 (zFY):=f8 zEf Tryz.func73 (.cons zhr .nil) trivial
def znI(s:Str):Option (Bool×Unit):=(zgS [32,98,114,101,97,107,32,99,97,115,101,32,99,97,116,99,104,32,99,108,97,115,115,32,99,111,110,115,116,32,99,111,110,116,105,110,117,101,32,100,101,98,117,103,103,101,114,32,100,101,102,97,117,108,116,32,100,101,108,101,116,101,32,100,111,32,101,108,115,101,32,101,110,117,109,32,101,120,112,111,114,116,32,101,120,116,101,110,100,115,32,102,97,108,115,101,32,102,105,110,97,108,108,121,32,102,111,114,32,102,117,110,99,116,105,111,110,32,105,102,32,105,109,112,108,101,109,101,110,116,115,32,105,109,112,111,114,116,32,105,110,32,105,110,115,116,97,110,99,101,111,102,32,105,110,116,101,114,102,97,99,101,32,108,101,116,32,110,101,119,32,110,117,108,108,32,112,97,99,107,97,103,101,32,112,114,105,118,97,116,101,32,112,114,111,116,101,99,116,101,100,32,112,117,98,108,105,99,32,114,101,116,117,114,110,32,115,116,97,116,105,99,32,115,117,112,101,114,32,115,119,105,116,99,104,32,116,104,105,115,32,116,104,114,111,119,32,116,114,117,101,32,116,114,121,32,116,121,112,101,111,102,32,118,97,114,32,118,111,105,100,32,119,104,105,108,101,32,119,105,116,104,32,121,105,101,108,100,32] s).bind λa=>some (a.1,())
def zEi:=callee Y [] zJW zx3 (λz=>znI z.1)
theorem zth:K8 69 (zEi):=f8 zEf Tryz.func69 (.cons zve .nil) trivial
def zby(c:Int):Option (Int×Unit):=let a:=(IntKind.wrap .u8 ((BitVec.ofInt 8 c|||BitVec.ofInt 8 32).toNat));some (a,())
def ztv:List zI:=[⟨false,.int .u8,[]⟩]
def zDS:=callee Y [] zEx ztv (λz=>zby z.1)
def zDA:zZ Y (zQ Y ztv):= .nil
theorem zrG:K8 182 (zDS):=f8 zDA Tryz.func182 .nil trivial
def zfo(a:Str)(c:Int)(b:Int)(d:Bool):zUX:=(zaZ a b).bind λe=>if(e==95)=true then if(c !=48)=true then some (.inr (false,()))else let f:=(IntKind.wrap .i64 (b+1));some (.inl (a,95,f,d,()))else if(c==95)=true then some (.inr (false,()))else let g:=(IntKind.wrap .i64 (b+1));some (.inl (a,33,g,d,()))
def zcU:Str×Int×Int×Bool×Unit->zUX| (a,d,b,c,())=>let e:=(decide (b< ((a.length:Nat):Int)));if e=true then(zaZ a b).bind λf=>(if(decide (48<=f))=true then(zaZ a b).bind λg=>some (decide (g<=57))else some false).bind λh=>if h=true then let i:=(IntKind.wrap .i64 (b+1));some (.inl (a,48,i,c,()))else if c=true then(zaZ a b).bind λj=>(zby j).bind λk=>if(decide (97<=k.1))=true then(zaZ a b).bind λl=>(zby l).bind λm=>if(decide (m.1<=102))=true then let n:=(IntKind.wrap .i64 (b+1));some (.inl (a,48,n,c,()))else zfo a d b c else zfo a d b c else zfo a d b c else some (.inr ((d !=95),()))
def zlv(a:Str)(b:Int)(c:Int)(d:Bool):Option (Bool×Unit):=let e:=(decide (((a.length:Nat):Int)>=2));(if e=true then(zaZ a 0).bind λf=>some (f==48)else some false).bind λg=>if g=true then(zaZ a 1).bind λh=>(zby h).bind λi=>if(i.1==98)=true then(zaZ a 1).bind λj=>(zby j).bind λk=>Lp.loop zcU (a,48,2,(k.1==120),())else(zaZ a 1).bind λl=>(zby l).bind λm=>if(m.1==111)=true then(zaZ a 1).bind λn=>(zby n).bind λo=>Lp.loop zcU (a,48,2,(o.1==120),())else(zaZ a 1).bind λp=>(zby p).bind λq=>if(q.1==120)=true then(zaZ a 1).bind λr=>(zby r).bind λs=>Lp.loop zcU (a,48,2,(s.1==120),())else Lp.loop zcU (a,b,c,d,())else Lp.loop zcU (a,b,c,d,())
def zhD(a:Str)(b:Int)(c:Int):Option (Bool×Unit):=zlv a b c false
def zno(s:Str):Option (Bool×Unit):=let a:=(decide (((s.length:Nat):Int)>=1));(if a=true then(zaZ s 0).bind λb=>(if(b==45)=true then some true else(zaZ s 0).bind λc=>some (c==43)).bind λd=>some d else some false).bind λe=>if e=true then(zaI s 1 ((s.length:Nat):Int)).bind λf=>zhD f 94 0 else zhD s 94 0
def ztT:=callee Y [] zJW zx3 (λz=>zno z.1)
def zt0:zZ Y (zQ Y zx3):=(.join [[1,2,2,2,2],[2,2,2,2,2]] ⟨[(0,.str),(3,.int .i32),(4,.int .i64)],[]⟩ (u3 zhD) (.join [[1,1,2,2,2,2,2],[2,1,2,2,2,2,2],[2,2,2,2,2,2]] ⟨[(0,.str),(3,.int .i32),(4,.int .i64),(5,.bool)],[]⟩ (u4 zlv) (.loop [[7,5,1,2,2,2,2,2,2],[8,5,1,2,2,2,2,2,2],[6,1,2,2,2,2,2,2],[2,2,2,2,2,2,2]] ⟨[(0,.str),(3,.int .i32),(4,.int .i64),(5,.bool)],[]⟩ (zcU) (.join [[1,1,2,5,1,2,7,5,1,2,2,2,2,2,2],[2,1,2,5,1,2,7,5,1,2,2,2,2,2,2],[2,2,5,1,2,7,5,1,2,2,2,2,2,2],[6,1,2,7,5,1,2,2,2,2,2,2],[2,2,7,5,1,2,2,2,2,2,2],[8,5,1,2,2,2,2,2,2],[6,1,2,2,2,2,2,2],[2,2,2,2,2,2,2]] ⟨[(0,.str),(3,.int .i32),(4,.int .i64),(5,.bool)],[]⟩ (u4 zfo) .nil) .nil)))
theorem zsO:K8 183 (ztT):=f8 zt0 Tryz.func183 (.cons zrG .nil) ⟨λz=>by kernel_rfl,⟨λz=>by kernel_rfl,⟨λz=>by kernel_rfl,⟨λz=>by kernel_rfl,⟨⟩⟩,trivial⟩⟩⟩
def zgl(c:Int)(d:Bool)(e:Str)(f:Int)(a:Int)(g:Bool)(h:Int)(b:Int)(i:List UInt8)(j:Int)(k:Int):OT9:=let l:=((decide (b<h))||(decide (b>a)));if l=true then some (.inr (a,(zad.code 156 1),()))else let m:=(IntKind.wrap .i64 (k+1));some (.inl (c,d,e,f,a,g,b,i,j,m,()))
def zgo(b:Int)(c:Bool)(d:Str)(e:Int)(f:Int)(g:Bool)(a:Int)(h:Int)(i:List UInt8)(j:Int)(k:Int):OT9:=let l:=(IntKind.wrap .u64 (a+(IntKind.wrap .u64 h)));zgl b c d e f g a l i j k
def zgd(a:Int)(b:Bool)(c:Str)(d:Int)(e:Int)(f:Bool)(g:Int)(h:Int)(i:List UInt8)(j:Int)(k:Int):OT9:=let l:=(IntKind.wrap .u64 (g*(IntKind.wrap .u64 a)));zgo a b c d e f l h i j k
def zgc(d:Int)(e:Bool)(f:Str)(a:Int)(b:Int)(g:Bool)(c:Int)(h:Int)(i:List UInt8)(j:Int)(k:Int):OT9:=if(decide (c>=a))=true then some (.inr (b,(zad.code 156 1),()))else zgd d e f a b g c h i j k
def zc4(a:Int)(c:Bool)(d:Str)(e:Int)(f:Int)(g:Bool)(h:Int)(b:Int)(i:List UInt8)(j:Int)(k:Int):OT9:=let l:=(decide (b>=(IntKind.wrap .u8 a)));if l=true then some (.inr (0,(zad.code 156 2),()))else zgc a c d e f g h b i j k
def zbg:Int×Bool×Str×Int×Int×Bool×Int×(List UInt8)×Int×Int×Unit->OT9| (h,d,e,i,j,k,b,f,g,c,())=>if(decide (c<g))=true then(zN f c).bind λa=>let l:=(((a.toNat:Nat):Int)==95);if(l&&d)=true then let m:=(IntKind.wrap .i64 (c+1));some (.inl (h,d,e,i,j,true,b,f,g,m,()))else let n:=(decide (48<=((a.toNat:Nat):Int)));let o:=(n&&(decide (((a.toNat:Nat):Int)<=57)));if o=true then let p:=(IntKind.wrap .u8 (((a.toNat:Nat):Int) -48));zc4 h d e i j k b p f g c else(zby ((a.toNat:Nat):Int)).bind λq=>if(decide (97<=q.1))=true then(zby ((a.toNat:Nat):Int)).bind λr=>if(decide (r.1<=122))=true then(zby ((a.toNat:Nat):Int)).bind λs=>let t:=(IntKind.wrap .u8 (s.1 -97));let u:=(IntKind.wrap .u8 (t+10));zc4 h d e i j k b u f g c else some (.inr (0,(zad.code 156 2),()))else some (.inr (0,(zad.code 156 2),()))else if k=true then(zno e).bind λv=>if(!v.1)=true then some (.inr (0,(zad.code 156 2),()))else some (.inr (b,zad.nil,()))else some (.inr (b,zad.nil,()))
def zjI(a:Str)(b:Int)(c:Int)(d:Bool)(e:Str):Option (Int×zad×Unit):=(zG6 .u64 18446744073709551615 (IntKind.wrap .u64 b)).bind λf=>let g:=(IntKind.wrap .u64 (f+1));(zBy .u64 1 (IntKind.wrap .u64 c)).bind λh=>let i:=(IntKind.wrap .u64 (h -1));let j:=((a.length:Nat):Int);Lp.loop zbg (b,d,e,g,i,false,0,a,j,0,())
def zgm(a:Str)(b:Int)(c:Int)(d:Bool)(e:Str)(f:Int):Option (Int×zad×Unit):=if(f==16)=true then(zBy .u64 1 (IntKind.wrap .u64 c)).bind λg=>let h:=(IntKind.wrap .u64 (g -1));let i:=((a.length:Nat):Int);Lp.loop zbg (b,d,e,1152921504606846976,h,false,0,a,i,0,())else zjI a b c d e
def zgj(a:Str)(b:Int)(c:Int)(d:Bool)(e:Str)(f:Int):Option (Int×zad×Unit):=if(f==10)=true then(zBy .u64 1 (IntKind.wrap .u64 c)).bind λg=>let h:=(IntKind.wrap .u64 (g -1));Lp.loop zbg (b,d,e,1844674407370955162,h,false,0,a,((a.length:Nat):Int),0,())else zgm a b c d e f
def zgg(b:Str)(a:Int)(c:Int)(d:Bool)(e:Str):Option (Int×zad×Unit):=zgj b a c d e a
def zej(a:Str)(b:Int)(c:Int)(d:Bool)(e:Str):Option (Int×zad×Unit):=zgg a b c d e
def zge(b:Str)(c:Int)(a:Int)(d:Bool)(e:Str):Option (Int×zad×Unit):=let f:=((decide (a<0))||(decide (a>64)));if f=true then some (0,(zad.code 156 4),())else zej b c a d e
def zjK(a:Str)(b:Int)(c:Bool)(d:Str):Option (Int×zad×Unit):=zej a b 64 c d
def zbE(a:Str)(b:Int)(c:Int)(d:Bool)(e:Str):Option (Int×zad×Unit):=if(c==0)=true then zjK a b d e else zge a b c d e
def zke(a:Str)(b:Int)(c:Int)(d:Bool)(e:Str):Option (Int×zad×Unit):=(zaI a 1 ((a.length:Nat):Int)).bind λf=>zbE f b c d e
def zgR(a:Str)(b:Int)(c:Bool)(d:Str):Option (Int×zad×Unit):=zke a 8 b c d
def zkt(a:Str)(b:Int)(c:Int)(d:Bool)(e:Str):Option (Int×zad×Unit):=(zaI a 2 ((a.length:Nat):Int)).bind λf=>zbE f b c d e
def zko(a:Str)(b:Int)(c:Bool)(d:Str):Option (Int×zad×Unit):=zkt a 16 b c d
def zgA(a:Str)(b:Int)(c:Bool)(d:Str):Option (Int×zad×Unit):=let e:=(decide (((a.length:Nat):Int)>=3));if e=true then(zaZ a 1).bind λf=>(zby f).bind λg=>if(g.1==120)=true then zko a b c d else zgR a b c d else zgR a b c d
def zkf(a:Str)(b:Int)(c:Int)(d:Bool)(e:Str):Option (Int×zad×Unit):=(zaI a 2 ((a.length:Nat):Int)).bind λf=>zbE f b c d e
def zku(a:Str)(b:Int)(c:Bool)(d:Str):Option (Int×zad×Unit):=zkf a 8 b c d
def zgE(a:Str)(b:Int)(c:Bool)(d:Str):Option (Int×zad×Unit):=let e:=(decide (((a.length:Nat):Int)>=3));if e=true then(zaZ a 1).bind λf=>(zby f).bind λg=>if(g.1==111)=true then zku a b c d else zgA a b c d else zgA a b c d
def zfV(t:Str)(o:Int)(A:Int):Option (Int×zad×Unit):=if(t==[])=true then some (0,(zad.code 156 2),())else let a:=((decide (2<=o))&&(decide (o<=36)));if a=true then zbE t o A (o==0) t else if(o==0)=true then(zaZ t 0).bind λb=>if(b==48)=true then let c:=(decide (((t.length:Nat):Int)>=3));if c=true then(zaZ t 1).bind λd=>(zby d).bind λe=>if(e.1==98)=true then(zaI t 2 ((t.length:Nat):Int)).bind λf=>zbE f 2 A (o==0) t else zgE t A (o==0) t else zgE t A (o==0) t else zbE t 10 A (o==0) t else some (0,(zad.code 156 3),())
def zsl:Shape:=⟨[(0,.str),(1,.int .i64),(2,.int .i64)],[]⟩
def zkV:List zI:=[⟨false,.tup [.int .u64,.err],[]⟩]
def zrh:=callee Y [] zsl zkV (u3 zfV)
def zru:zZ Y (zQ Y zkV):=(.join [[1,4,2,5,3,2,2,3,2,4,2,5,1,2,2,2,2],[2,4,2,5,3,2,2,3,2,4,2,5,1,2,2,2,2],[6,3,2,2,3,2,4,2,5,1,2,2,2,2],[6,1,2,2,2,2],[2,2,2,2,2]] ⟨[(0,.str),(2,.int .i64),(8,.bool),(9,.str)],[]⟩ (u4 zgE) (.join [[1,3,2,4,2,5,3,2,2,3,2,4,2,5,1,2,2,2,2],[2,3,2,4,2,5,3,2,2,3,2,4,2,5,1,2,2,2,2],[6,3,2,2,3,2,4,2,5,1,2,2,2,2],[6,1,2,2,2,2],[2,2,2,2,2]] ⟨[(0,.str),(2,.int .i64),(8,.bool),(9,.str)],[]⟩ (u4 zku) (.join [[2,3,2,4,2,5,3,2,2,3,2,4,2,5,1,2,2,2,2],[6,3,2,2,3,2,4,2,5,1,2,2,2,2],[6,1,2,2,2,2],[2,2,2,2,2]] ⟨[(0,.str),(1,.int .i64),(2,.int .i64),(8,.bool),(9,.str)],[]⟩ (u5 zkf) (.join [[1,4,2,4,2,5,3,2,2,3,2,4,2,5,1,2,2,2,2],[2,4,2,4,2,5,3,2,2,3,2,4,2,5,1,2,2,2,2],[6,3,2,2,3,2,4,2,5,1,2,2,2,2],[6,1,2,2,2,2],[2,2,2,2,2]] ⟨[(0,.str),(2,.int .i64),(8,.bool),(9,.str)],[]⟩ (u4 zgA) (.join [[1,3,2,4,2,4,2,5,3,2,2,3,2,4,2,5,1,2,2,2,2],[2,3,2,4,2,4,2,5,3,2,2,3,2,4,2,5,1,2,2,2,2],[6,3,2,2,3,2,4,2,5,1,2,2,2,2],[6,1,2,2,2,2],[2,2,2,2,2]] ⟨[(0,.str),(2,.int .i64),(8,.bool),(9,.str)],[]⟩ (u4 zko) (.join [[2,3,2,4,2,4,2,5,3,2,2,3,2,4,2,5,1,2,2,2,2],[6,3,2,2,3,2,4,2,5,1,2,2,2,2],[6,1,2,2,2,2],[2,2,2,2,2]] ⟨[(0,.str),(1,.int .i64),(2,.int .i64),(8,.bool),(9,.str)],[]⟩ (u5 zkt) (.join [[1,4,2,4,2,4,2,5,3,2,2,3,2,4,2,5,1,2,2,2,2],[2,4,2,4,2,4,2,5,3,2,2,3,2,4,2,5,1,2,2,2,2],[6,3,2,2,3,2,4,2,5,1,2,2,2,2],[6,1,2,2,2,2],[2,2,2,2,2]] ⟨[(0,.str),(2,.int .i64),(8,.bool),(9,.str)],[]⟩ (u4 zgR) (.join [[2,4,2,4,2,4,2,5,3,2,2,3,2,4,2,5,1,2,2,2,2],[6,3,2,2,3,2,4,2,5,1,2,2,2,2],[6,1,2,2,2,2],[2,2,2,2,2]] ⟨[(0,.str),(1,.int .i64),(2,.int .i64),(8,.bool),(9,.str)],[]⟩ (u5 zke) (.join [[1,1,2,2,2,2,2],[2,1,2,2,2,2,2],[2,2,2,2,2,2]] ⟨[(0,.str),(1,.int .i64),(2,.int .i64),(8,.bool),(9,.str)],[]⟩ (u5 zbE) (.join [[3,2,1,2,2,2,2,2],[2,2,2,2,2,2]] ⟨[(0,.str),(1,.int .i64),(8,.bool),(9,.str)],[]⟩ (u4 zjK) (.join [[1,4,2,1,2,2,2,2,2],[2,4,2,1,2,2,2,2,2],[2,2,2,2,2,2]] ⟨[(0,.str),(1,.int .i64),(2,.int .i64),(8,.bool),(9,.str)],[]⟩ (u5 zge) (.join [[1,2,2,2,2,2,2],[2,2,2,2,2,2,2]] ⟨[(0,.str),(1,.int .i64),(2,.int .i64),(8,.bool),(9,.str)],[]⟩ (u5 zej) (.join [[1,1,2,2,2,2,2,2,2],[2,1,2,2,2,2,2,2,2],[2,2,2,2,2,2,2,2]] ⟨[(0,.str),(1,.int .i64),(2,.int .i64),(8,.bool),(9,.str)],[]⟩ (u5 zgg) (.join [[1,5,2,1,2,2,2,2,2,2,2],[2,5,2,1,2,2,2,2,2,2,2],[6,2,1,2,2,2,2,2,2,2],[2,2,2,2,2,2,2,2]] ⟨[(0,.str),(1,.int .i64),(2,.int .i64),(8,.bool),(9,.str),(85,.int .i64)],[]⟩ (u6 zgj) (.join [[1,4,2,5,2,1,2,2,2,2,2,2,2],[2,4,2,5,2,1,2,2,2,2,2,2,2],[6,2,1,2,2,2,2,2,2,2],[2,2,2,2,2,2,2,2]] ⟨[(0,.str),(1,.int .i64),(2,.int .i64),(8,.bool),(9,.str),(85,.int .i64)],[]⟩ (u6 zgm) (.join [[4,2,4,2,5,2,1,2,2,2,2,2,2,2],[6,2,1,2,2,2,2,2,2,2],[2,2,2,2,2,2,2,2]] ⟨[(0,.str),(1,.int .i64),(2,.int .i64),(8,.bool),(9,.str)],[]⟩ (u5 zjI) (.loop [[7,5,2,1,2,2,2,2,2,2,2,2,2,2,2],[8,5,2,1,2,2,2,2,2,2,2,2,2,2,2],[6,2,1,2,2,2,2,2,2,2,2,2,2,2],[2,2,2,2,2,2,2,2,2,2,2,2]] ⟨[(1,.int .i64),(8,.bool),(9,.str),(10,.int .u64),(11,.int .u64),(12,.bool),(13,.int .u64),(99,.sl 5),(100,.int .i64),(101,.int .i64)],[]⟩ (zbg) (.join [[1,1,2,2,2,5,1,2,2,7,5,2,1,2,2,2,2,2,2,2,2,2,2,2],[2,1,2,2,2,5,1,2,2,7,5,2,1,2,2,2,2,2,2,2,2,2,2,2],[2,2,2,2,5,1,2,2,7,5,2,1,2,2,2,2,2,2,2,2,2,2,2],[6,1,2,2,7,5,2,1,2,2,2,2,2,2,2,2,2,2,2],[2,2,2,7,5,2,1,2,2,2,2,2,2,2,2,2,2,2],[8,5,2,1,2,2,2,2,2,2,2,2,2,2,2],[6,2,1,2,2,2,2,2,2,2,2,2,2,2],[2,2,2,2,2,2,2,2,2,2,2,2]] ⟨[(1,.int .i64),(8,.bool),(9,.str),(10,.int .u64),(11,.int .u64),(12,.bool),(13,.int .u64),(16,.int .u8),(99,.sl 5),(100,.int .i64),(101,.int .i64)],[]⟩ (u11 zc4) (.join [[1,1,2,2,2,2,5,1,2,2,7,5,2,1,2,2,2,2,2,2,2,2,2,2,2],[2,1,2,2,2,2,5,1,2,2,7,5,2,1,2,2,2,2,2,2,2,2,2,2,2],[2,2,2,2,2,5,1,2,2,7,5,2,1,2,2,2,2,2,2,2,2,2,2,2],[6,1,2,2,7,5,2,1,2,2,2,2,2,2,2,2,2,2,2],[2,2,2,7,5,2,1,2,2,2,2,2,2,2,2,2,2,2],[8,5,2,1,2,2,2,2,2,2,2,2,2,2,2],[6,2,1,2,2,2,2,2,2,2,2,2,2,2],[2,2,2,2,2,2,2,2,2,2,2,2]] ⟨[(1,.int .i64),(8,.bool),(9,.str),(10,.int .u64),(11,.int .u64),(12,.bool),(13,.int .u64),(16,.int .u8),(99,.sl 5),(100,.int .i64),(101,.int .i64)],[]⟩ (u11 zgc) (.join [[1,2,2,2,2,2,5,1,2,2,7,5,2,1,2,2,2,2,2,2,2,2,2,2,2],[2,2,2,2,2,2,5,1,2,2,7,5,2,1,2,2,2,2,2,2,2,2,2,2,2],[6,1,2,2,7,5,2,1,2,2,2,2,2,2,2,2,2,2,2],[2,2,2,7,5,2,1,2,2,2,2,2,2,2,2,2,2,2],[8,5,2,1,2,2,2,2,2,2,2,2,2,2,2],[6,2,1,2,2,2,2,2,2,2,2,2,2,2],[2,2,2,2,2,2,2,2,2,2,2,2]] ⟨[(1,.int .i64),(8,.bool),(9,.str),(10,.int .u64),(11,.int .u64),(12,.bool),(13,.int .u64),(16,.int .u8),(99,.sl 5),(100,.int .i64),(101,.int .i64)],[]⟩ (u11 zgd) (.join [[1,2,2,2,2,2,2,5,1,2,2,7,5,2,1,2,2,2,2,2,2,2,2,2,2,2],[2,2,2,2,2,2,2,5,1,2,2,7,5,2,1,2,2,2,2,2,2,2,2,2,2,2],[6,1,2,2,7,5,2,1,2,2,2,2,2,2,2,2,2,2,2],[2,2,2,7,5,2,1,2,2,2,2,2,2,2,2,2,2,2],[8,5,2,1,2,2,2,2,2,2,2,2,2,2,2],[6,2,1,2,2,2,2,2,2,2,2,2,2,2],[2,2,2,2,2,2,2,2,2,2,2,2]] ⟨[(1,.int .i64),(8,.bool),(9,.str),(10,.int .u64),(11,.int .u64),(12,.bool),(13,.int .u64),(16,.int .u8),(99,.sl 5),(100,.int .i64),(101,.int .i64)],[]⟩ (u11 zgo) (.join [[1,1,2,2,2,2,2,2,2,5,1,2,2,7,5,2,1,2,2,2,2,2,2,2,2,2,2,2],[2,1,2,2,2,2,2,2,2,5,1,2,2,7,5,2,1,2,2,2,2,2,2,2,2,2,2,2],[2,2,2,2,2,2,2,2,5,1,2,2,7,5,2,1,2,2,2,2,2,2,2,2,2,2,2],[6,1,2,2,7,5,2,1,2,2,2,2,2,2,2,2,2,2,2],[2,2,2,7,5,2,1,2,2,2,2,2,2,2,2,2,2,2],[8,5,2,1,2,2,2,2,2,2,2,2,2,2,2],[6,2,1,2,2,2,2,2,2,2,2,2,2,2],[2,2,2,2,2,2,2,2,2,2,2,2]] ⟨[(1,.int .i64),(8,.bool),(9,.str),(10,.int .u64),(11,.int .u64),(12,.bool),(13,.int .u64),(17,.int .u64),(99,.sl 5),(100,.int .i64),(101,.int .i64)],[]⟩ (u11 zgl) .nil))))) .nil)))))))))))))))))
theorem zqR:K8 162 (zrh):=f8 zru Tryz.func162 (.cons zrG (.cons zsO .nil)) ⟨λz=>by kernel_rfl,⟨λz=>by kernel_rfl,⟨λz=>by kernel_rfl,⟨λz=>by kernel_rfl,⟨λz=>by kernel_rfl,⟨λz=>by kernel_rfl,⟨λz=>by kernel_rfl,⟨λz=>by kernel_rfl,⟨λz=>by kernel_rfl,⟨λz=>by kernel_rfl,⟨λz=>by kernel_rfl,⟨λz=>by kernel_rfl,⟨λz=>by kernel_rfl,⟨λz=>by kernel_rfl,⟨λz=>by kernel_rfl,⟨λz=>by kernel_rfl,⟨λz=>by kernel_rfl,⟨λz=>by kernel_rfl,⟨λz=>by kernel_rfl,⟨λz=>by kernel_rfl,⟨λz=>by kernel_rfl,⟨λz=>by kernel_rfl,⟨⟩⟩⟩⟩⟩⟩,trivial⟩⟩⟩⟩⟩⟩⟩⟩⟩⟩⟩⟩⟩⟩⟩⟩⟩
def zh2(f_ s_:Str)(base bits:Int)(a:zad):Option (zad×Unit):=if s_.length<=281474976710656/\(a= .code 156 2\/a= .code 156 1)then some (.opq,())else none
def zqc:Shape:=⟨[(0,.str),(1,.str),(2,.int .i64),(3,.int .i64),(4,.err)],[]⟩
def zA2:List zI:=[⟨false,.err,[]⟩]
def zA3:=callee Y [] zqc zA2 (λz=>zh2 z.1 z.2.1 z.2.2.1 z.2.2.2.1 z.2.2.2.2.1)
theorem zvY(f_ s_:Str)(base bits:Int)(er:zad)(q:TypeId×Value)(r:zad×Unit)(hN:zh2 f_ s_ base bits er=some r)(w:World)(F:Heap)(hv:F.Sub w)(hG:zam F):
  Calls Tryz.prog 163 #[.string ⟨⟨f_⟩⟩,.string ⟨⟨s_⟩⟩,.int .i64 base,.int .i64 bits,znO er q] w (zdv w F λs=>∃q,s= .v (znO r.1 q)):=by
 unfold zh2 at hN;split at hN
 ·rename_i hc;cases hN;obtain⟨hc,rfl|rfl⟩:=hc
  ·obtain⟨te,pe,hm⟩:=hG.zIN;refine(Tryz.strconv_toError_syntax ⟨⟨f_⟩⟩ ⟨⟨s_⟩⟩ base bits _ w hc (zeU hv hm) (.inr ⟨te,pe,rfl⟩)).mono λe w' h=>?_
   obtain⟨n,h1,_,_,h2⟩:=h;exact zdv.below (s:= .v (.iface _ (.pointer (some ⟨n,0,none⟩)))) hv h1 h2 trivial rfl ⟨(_,_),rfl⟩
  ·obtain⟨te,pe,hm⟩:=hG.zIr;refine(Tryz.strconv_toError_range ⟨⟨f_⟩⟩ ⟨⟨s_⟩⟩ base bits _ w hc (zeU hv hm) (.inr ⟨te,pe,rfl⟩)).mono λe w' h=>?_
   obtain⟨n,h1,_,_,h2⟩:=h;exact zdv.below (s:= .v (.iface _ (.pointer (some ⟨n,0,none⟩)))) hv h1 h2 trivial rfl ⟨(_,_),rfl⟩
 ·cases hN
theorem zz6:K8 163 zA3:=
 COk.zPX (l:=zqc.l) ⟨⟨_,Tryz.func163,by kernel_rfl,rfl⟩⟩ ⟨rfl,rfl⟩ rfl λz zo h w F vals hG hv hr=>by
  obtain⟨u1,r1,rfl,q1,hr⟩:=hr.inv;obtain⟨u2,r2,rfl,q2,hr⟩:=hr.inv;obtain⟨u3,r3,rfl,q3,hr⟩:=hr.inv;obtain⟨u4,r4,rfl,q4,hr⟩:=hr.inv;obtain⟨u5,r5,rfl,q5,hr⟩:=hr.inv;have hnil:=hr.zfb;subst hnil;have e1:=q1.zbj;have e2:=q2.zbj;have e3:=q3.zbj;have e4:=q4.zbj;subst e1;subst e2;subst e3;subst e4;have key: ∀(e:zad) (u:Value),Rel Y F [] (.err e) u->∃q,u=znO e q:=λe u h=>by cases h with| @err e q=>exact⟨q,rfl⟩
  obtain⟨q,rfl⟩:=key _ _ q5;refine(zvY z.1 z.2.1 z.2.2.1 z.2.2.2.1 z.2.2.2.2.1 q zo h w F hv hG).mono λe w' hh=>?_
  obtain⟨F',s,rfl,hgs,hu,hst,q,rfl⟩:=hh;exact⟨F',_,rfl,.err,hst⟩
def za5(s:Str)(b:Int)(c:Int):Option (Int×zad×Unit):=(zfV s b c).bind λa=>if(!(a.2.1).isNil)=true then(zh2 [80,97,114,115,101,85,105,110,116] s b c a.2.1).bind λd=>some (a.1,d.1,())else some (a.1,zad.nil,())
def zxY:=callee Y [] zsl zkV (u3 za5)
def zym:zZ Y (zQ Y zkV):= .nil
theorem znn:K8 128 (zxY):=f8 zym Tryz.func128 (.cons zqR (.cons zz6 .nil)) trivial
def zhi(x:zaa):Option (Int×Int×zaa×Unit):=(zpb x.rest).bind λb=>let f:=((x.rest.length:Nat):Int);(if(decide (b.1<f))=true then(zaZ x.rest b.1).bind λg=>some (g==46)else some false).bind λh=>if h=true then some (0,0,(zdW x),())else(zaI x.rest 0 b.1).bind λa=>let i:=(decide (((a.length:Nat):Int)>2));(if i=true then(zaI a 0 2).bind λj=>(if(j==[48,120])=true then some true else(zaI a 0 2).bind λk=>some (k==[48,88])).bind λl=>some l else some false).bind λm=>if m=true then(zaI a 2 ((a.length:Nat):Int)).bind λc=>(za5 c 16 53).bind λd=>if(!(d.2.1).isNil)=true then some (0,0,(zdW x),())else(strings_Contains c [95]).bind λn=>if n.1=true then some (0,0,(zdW x),())else some ((IntKind.wrap .i64 d.1),b.1,(zdW x),())else let o:=(decide (((a.length:Nat):Int)>1));(if o=true then(zaZ a 0).bind λp=>some (p==48)else some false).bind λq=>if q=true then some (0,0,(zdW x),())else(za5 a 10 53).bind λe=>if(!(e.2.1).isNil)=true then some (0,0,(zdW x),())else(strings_Contains a [95]).bind λr=>if r.1=true then some (0,0,(zdW x),())else some ((IntKind.wrap .i64 e.1),b.1,(zdW x),())
def zmz:List zI:=[⟨false,.tup [.int .i64,.int .i64],[.whole 69 69]⟩]
def zvm:=callee Y [] zv0 zmz (λz=>zhi z.1)
def zuJ:zZ Y (zQ Y zmz):= .nil
theorem zuo:K8 71 (zvm):=f8 zuJ Tryz.func71 (.cons zse (.cons znn (.cons zhr .nil))) trivial
def zrV:Dn.Callee Y:=zP9 Y 5
theorem zqu:K8 54 zrV:=zRQ Tryz.lays169 Tryz.Builder_Extra_169 ⟨⟨_,Tryz.func54,by kernel_rfl,rfl⟩⟩ hsz
def zd3(a:Str)(c:Int):Option (Int):=some (Lib.indexByte a c.toNat.toUInt8)
theorem zd3.ok(s_:Str)(c:Int)(r:Int)(h0:zd3 s_ c=some r)(w0:World)(F0:Heap)(hv:F0.Sub w0)(hG:zam F0)(hg:SV.zaD F0 [.v (.string ⟨⟨s_⟩⟩),.v (.int .u8 c)])(ρ:Nat->Nat):
  Calls Tryz.prog 74 (SV.zak ρ [.v (.string ⟨⟨s_⟩⟩),.v (.int .u8 c)]).toArray w0 (zdv w0 F0 λs=>s= .v (.int .i64 r)):=by
 refine(Tryz.strings_IndexByte ⟨⟨s_⟩⟩ c w0).mono λe w' h=>?_
 cases h0;exact zdv.pure (s:= .v _) hv h.1 h.2 trivial rfl rfl
def strings_IndexByte(a:Str)(c:Int):Option (Int×Unit):=zjx (λr=>(r,())) (zd3 a c)
def zn7:Shape:=⟨[(0,.str),(1,.int .u8)],[]⟩
def zxX:=callee Y [] zn7 zAl (λz=>strings_IndexByte z.1 z.2.1)
theorem zi5:K8 74 zxX:=
 COk.ext (l:=zn7.l) ⟨⟨_,Tryz.func74,by kernel_rfl,rfl⟩⟩ ⟨rfl,rfl⟩ rfl λz zo h=>⟨_,_,rfl,rfl,λw F hG hv=>by
  obtain⟨r,hr,rfl⟩:=zgV h;exact zd3.ok z.1 z.2.1 r hr w F hv hG (by simp[SV.zaD,SV.good]) (λ_=>0)⟩
def ze3(n:Int):Option (Str×Unit):=let a:=(IntKind.wrap .u8 (Int.fdiv n (2^8)));(toB a).bind λb=>(toB (IntKind.wrap .u8 n)).bind λc=>some (([b,c]:List UInt8),())
def zIe:Shape:=⟨[(0,.int .i64)],[]⟩
def zzW:List zI:=[⟨false,.str,[]⟩]
def zIl:=callee Y [] zIe zzW (λz=>ze3 z.1)
def zJp:zZ Y (zQ Y zzW):= .nil
theorem zp6:K8 131 (zIl):=f8 zJp Tryz.func131 .nil trivial
def zpF:Dn.Callee Y:=zME Y Tryz.prog 85
theorem zoD:K8 114 zpF:=zPy Tryz.lays240 Tryz.zFZ ⟨⟨_,Tryz.func114,by kernel_rfl,rfl⟩⟩
def zaH(s:Str)(b:Str)(l:List UInt8):Option (Int×zad×Str×(List UInt8)×Unit):=(room (l.length+s.length)).bind λ_=>let a:=l++s;some (((s.length:Nat):Int),zad.nil,b,a,())
def znS:Shape:=⟨[(0,.ptr 0 1),(1,.str)],[oc3 1,.arr 5]⟩
def zis:List zI:=[⟨false,.tup [.int .i64,.err],[oc3 1,.arr 5]⟩]
def znR:=callee Y [] znS zis (u3 zaH)
def znP:zZ Y (zQ Y zis):= .nil
theorem zeT:K8 53 (znR):=f8 znP Tryz.func53 (.cons zoD .nil) trivial
def zgX(t:Str)(a:Str):Option (Str):=if t.length<4294967281/\a.length<4294967281/\a.all (λb=>decide (b.toNat<128))=true then some (Lib.trimS t a)else none
theorem zgX.ok(t:Str)(cs:Str)(r:Str)(h0:zgX t cs=some r)(w0:World)(F0:Heap)(hv:F0.Sub w0)(hG:zam F0)(hg:SV.zaD F0 [.v (.string ⟨⟨t⟩⟩),.v (.string ⟨⟨cs⟩⟩)])(ρ:Nat->Nat):
  Calls Tryz.prog 188 (SV.zak ρ [.v (.string ⟨⟨t⟩⟩),.v (.string ⟨⟨cs⟩⟩)]).toArray w0 (zdv w0 F0 λs=>s= .v (.string ⟨⟨r⟩⟩)):=by
 unfold zgX at h0;split at h0
 ·rename_i hc;cases h0;refine(Any.strings_Trim_ascii Tryz.lays160 (zI5 (z:= .agg (Array.replicate 256 (.bool false))) (by kernel_rfl)) (by kernel_rfl) ⟨⟨t⟩⟩ ⟨⟨cs⟩⟩ w0 (Nat.le_of_lt (Nat.lt_trans hc.1 (by decide))) hc.2.1 (λj b hb=>by have:=List.all_eq_true.1 hc.2.2 b (List.mem_of_getElem? hb);simpa using this)).mono λe w' h=>?_
  exact zdv.below (s:= .v (.string ⟨⟨_⟩⟩)) hv h.1 h.2 trivial rfl rfl
 ·cases h0
def znp(t:Str)(a:Str):Option (Str×Unit):=zjx (λr=>(r,())) (zgX t a)
def zEI:=callee Y [] zof zzW (λz=>znp z.1 z.2.1)
theorem zC9:K8 188 zEI:=
 COk.ext (l:=zof.l) ⟨⟨_,Tryz.func188,by kernel_rfl,rfl⟩⟩ ⟨rfl,rfl⟩ rfl λz zo h=>⟨_,_,rfl,rfl,λw F hG hv=>by
  obtain⟨r,hr,rfl⟩:=zgV h;exact zgX.ok z.1 z.2.1 r hr w F hv hG (by simp[SV.zaD,SV.good]) (λ_=>0)⟩
def zdj(a:Int)(s:Str)(l:List UInt8):Option (Bool×Str×(List UInt8)×Unit):=let c:=(decide (((s.length:Nat):Int)<a));if c=true then some (false,s,l,())else(zaI s 0 a).bind λd=>(znp d [48,49,50,51,52,53,54,55,56,57,97,98,99,100,101,102,65,66,67,68,69,70]).bind λe=>if(!(e.1==[]))=true then some (false,s,l,())else(zaI s 0 a).bind λf=>(za5 f 16 16).bind λg=>(zaI s a ((s.length:Nat):Int)).bind λh=>(ze3 (IntKind.wrap .i64 g.1)).bind λi=>(zaH i.1 h l).bind λb=>some (true,b.2.2.1,b.2.2.2.1,())
def zuM:Shape:=⟨[(0,.ptr 0 0),(1,.int .i64)],[oc3 1,.arr 5]⟩
def zmR:List zI:=[⟨false,.bool,[oc3 1,.arr 5]⟩]
def zvI:=callee Y [] zuM zmR (u3 zdj)
def zu8:zZ Y (zQ Y zmR):= .nil
theorem zuv:K8 164 (zvI):=f8 zu8 Tryz.func164 (.cons zC9 (.cons znn (.cons zp6 (.cons zeT .nil)))) trivial
def zfB(s:Str)(l:List UInt8):Option (Bool×Str×(List UInt8)×Unit):=if(s==[])=true then some (false,s,l,())else(zaZ s 0).bind λa=>(zaI s 1 ((s.length:Nat):Int)).bind λb=>(strings_IndexByte [110,116,114,98,102,118] a).bind λf=>if(decide (f.1>=0))=true then(zaZ [10,9,13,8,12,11] f.1).bind λi=>(ze3 (IntKind.wrap .i64 i)).bind λj=>(zaH j.1 b l).bind λg=>some (true,g.2.2.1,g.2.2.2.1,())else if(a==10)=true then some (true,b,l,())else if(a==120)=true then(zdj 2 b l).bind λd=>some (d.1,d.2.1,d.2.2.1,())else if(a==117)=true then(zdj 4 b l).bind λe=>some (e.1,e.2.1,e.2.2.1,())else if(a==48)=true then(ze3 0).bind λk=>(zaH k.1 b l).bind λc=>(if(c.2.2.1==[])=true then some true else(zaZ c.2.2.1 0).bind λm=>some (decide (m<48))).bind λn=>(if n=true then some true else(zaZ c.2.2.1 0).bind λo=>some (decide (o>57))).bind λp=>some (p,c.2.2.1,c.2.2.2.1,())else let q:=((a==13)||((decide (a>=49))&&(decide (a<=57))));let r:=(q||(decide (a>=128)));if r=true then some (false,b,l,())else(ze3 (IntKind.wrap .i64 a)).bind λt=>(zaH t.1 b l).bind λh=>some (true,h.2.2.1,h.2.2.2.1,())
def zvG:Shape:=⟨[(0,.ptr 0 0)],[oc3 1,.arr 5]⟩
def zvq:=callee Y [] zvG zmR (u2 zfB)
theorem zut:K8 130 (zvq):=f8 zu8 Tryz.func130 (.cons zi5 (.cons zp6 (.cons zeT (.cons zuv .nil)))) trivial
def zgp:Str×Str×(List UInt8)×Unit->Option ((Str×Str×(List UInt8)×Unit)⊕(Str×Int×Int×Unit))| (b,d,e,())=>if(!(d==[]))=true then(zaZ d 0).bind λa=>(zaI d 1 ((d.length:Nat):Int)).bind λf=>(zaZ b 0).bind λi=>if(a==i)=true then fd (let j:=(IntKind.wrap .i64 (((b.length:Nat):Int) - ((f.length:Nat):Int)));some (.inr (e,j,0,())))else let k:=((a==10)||(a==13));let l:=(k||(decide (a>=128)));if l=true then some (.inr ([],0,10,()))else if(a==92)=true then(zfB f e).bind λc=>if(!c.1)=true then some (.inr ([],0,10,()))else if(a !=92)=true then(ze3 (IntKind.wrap .i64 a)).bind λm=>(zaH m.1 c.2.1 c.2.2.1).bind λg=>some (.inl (b,g.2.2.1,g.2.2.2.1,()))else some (.inl (b,c.2.1,c.2.2.1,()))else if(a !=92)=true then(ze3 (IntKind.wrap .i64 a)).bind λn=>(zaH n.1 f e).bind λh=>some (.inl (b,h.2.2.1,h.2.2.2.1,()))else some (.inl (b,f,e,()))else some (.inr ([],0,10,()))
def zqi(s:Str):Option (Str×Int×Int×Unit):=(if(s==[])=true then some true else(zaZ s 0).bind λa=>(if(a !=39)=true then(zaZ s 0).bind λb=>some (b !=34)else some false).bind λc=>some c).bind λd=>if d=true then some ([],0,10,())else(zaI s 1 ((s.length:Nat):Int)).bind λe=>Lp.loop zgp (s,e,[],())
def zyU:List zI:=[⟨false,.tup [.str,.int .i64,.int .i64],[]⟩]
def zG7:=callee Y [] zJW zyU (λz=>zqi z.1)
def zIF:zZ Y (zQ Y zyU):=(.loop [[7,5,1,2,2,2],[8,5,1,2,2,2],[6,1,2,2,2],[2,2,2,2]] ⟨[(0,.str),(5,.ptr 0 0)],[oc3 1,.arr 5]⟩ (zgp) .nil .nil)
theorem zGj:K8 72 (zG7):=f8 zIF Tryz.func72 (.cons zqu (.cons zut (.cons zp6 (.cons zeT .nil)))) ⟨λz=>by kernel_rfl,trivial,trivial⟩
def zfH(b:Int)(d:Str)(e:Int)(c:zaa)(a:zu):Option (zu×Int×zaa×Unit):=(strings_IndexByte [123,125,40,41,91,93,46,59,44,60,62,43,45,42,47,37,33,63,58,61] e).bind λf=>if(decide (f.1>=0))=true then(zaI d 0 1).bind λg=>some (⟨5,g,a.Num,a.At,a.Fresh⟩,1,(zdW c),())else if(a.Kind==5)=true then(zaI d 0 b).bind λh=>some (⟨a.Kind,h,a.Num,a.At,a.Fresh⟩,b,(zdW c),())else some ((zBR a),b,(zdW c),())
def zfE(d:Int)(a:Str)(e:Int)(c:zaa)(b:zu):Option (zu×Int×zaa×Unit):=let f:=(decide (((a.length:Nat):Int)>1));if f=true then(zaI a 0 2).bind λg=>(zgS [32,60,61,32,62,61,32,61,61,32,33,61,32,43,43,32,45,45,32,38,38,32,124,124,32,43,61,32,45,61,32,42,61,32,47,61,32,37,61,32] g).bind λh=>if h.1=true then(zaI a 0 2).bind λi=>some (⟨5,i,b.Num,b.At,b.Fresh⟩,2,(zdW c),())else zfH d a e (zdW c) (zBR b)else zfH d a e (zdW c) (zBR b)
def zfI(x:zaa):Option (zu×Int×zaa×Unit):=(zaZ x.rest 0).bind λa=>(ziN a).bind λf=>if f.1=true then(zpb x.rest).bind λb=>if(decide (b.1>32))=true then some (⟨0,[],0,0,false⟩,0,(zdW x),())else(zaI x.rest 0 b.1).bind λc=>(znI c).bind λg=>if g.1=true then some (⟨2,c,0,0,false⟩,b.1,(zdW x),())else some (⟨1,c,0,0,false⟩,b.1,(zdW x),())else(zlL a).bind λh=>if h.1=true then(zhi (zdW x)).bind λd=>some (⟨3,[],d.1,0,false⟩,d.2.1,(zdW d.2.2.1),())else let i:=((a==39)||(a==34));if i=true then(zqi x.rest).bind λe=>some (⟨4,e.1,0,0,false⟩,e.2.1,(zdW x),())else let j:=((x.rest.length:Nat):Int);if(decide (j>2))=true then(zaI x.rest 0 3).bind λk=>(zgS [32,61,61,61,32,33,61,61,32] k).bind λl=>if l.1=true then(zaI x.rest 0 3).bind λm=>some (⟨5,m,0,0,false⟩,3,(zdW x),())else zfE 0 x.rest a (zdW x) ⟨0,[],0,0,false⟩else zfE 0 x.rest a (zdW x) ⟨0,[],0,0,false⟩
def zpM:List zI:=[⟨false,.tup [.st 36,.int .i64],[.whole 69 69]⟩]
def zzo:=callee Y [] zv0 zpM (λz=>zfI z.1)
def zy3:zZ Y (zQ Y zpM):=(.join [[1,4,2,4,2,4,2,4,2,5,2,1,2,2],[2,4,2,4,2,4,2,4,2,5,2,1,2,2],[6,2,1,2,2],[2,2,2]] ⟨[(2,.ptr 1 0),(3,.int .i64),(4,.str),(5,.int .u8)],[.whole 69 69,.whole 36 36]⟩ (u5 zfE) (.join [[1,4,2,4,2,4,2,4,2,4,2,5,2,1,2,2],[2,4,2,4,2,4,2,4,2,4,2,5,2,1,2,2],[6,2,1,2,2],[2,2,2]] ⟨[(2,.ptr 1 0),(3,.int .i64),(4,.str),(5,.int .u8)],[.whole 69 69,.whole 36 36]⟩ (u5 zfH) .nil))
theorem zyu:K8 34 (zzo):=f8 zy3 Tryz.func34 (.cons zne (.cons zse (.cons zth (.cons zuS (.cons zuo (.cons zGj (.cons zve (.cons zi5 .nil)))))))) ⟨λz=>by kernel_rfl,⟨λz=>by kernel_rfl,⟨⟩⟩⟩
def ziO:Str×zaa×(List zu)×Unit->Option ((Str×zaa×(List zu)×Unit)⊕((List zu)×Int×Int×Unit))| (c,f,d,())=>(zht (zdW f)).bind λb=>if b.1=true then let g:=((c.length:Nat):Int);let h:=((b.2.1.rest.length:Nat):Int);let e:=(IntKind.wrap .i64 (g -h));let i:=(b.2.1.rest==[]);if i=true then(room (d.length+([⟨0,[],0,e,b.2.1.fresh⟩]:List zu).length)).bind λ_=>let j:=d++[⟨0,[],0,e,b.2.1.fresh⟩];(zoW j).bind λk=>some (.inr (k.1,0,0,()))else(zfI (zdW b.2.1)).bind λa=>if(a.2.1==0)=true then let l:=((c.length:Nat):Int);let m:=((a.2.2.1.rest.length:Nat):Int);let n:=(IntKind.wrap .i64 (l -m));some (.inr ([],n,60,()))else(room (d.length+([⟨a.1.Kind,a.1.Text,a.1.Num,e,a.2.2.1.fresh⟩]:List zu).length)).bind λ_=>let o:=d++[⟨a.1.Kind,a.1.Text,a.1.Num,e,a.2.2.1.fresh⟩];(zaI a.2.2.1.rest a.2.1 ((a.2.2.1.rest.length:Nat):Int)).bind λp=>some (.inl (c,⟨a.2.2.1.src,p,a.2.2.1.fresh⟩,o,()))else let q:=((c.length:Nat):Int);let r:=((b.2.1.rest.length:Nat):Int);let s:=(IntKind.wrap .i64 (q -r));some (.inr ([],s,60,()))
def ztp(a:Str):Option ((List zu)×Int×Int×Unit):=let b:=(decide (((a.length:Nat):Int)>4096));if b=true then some ([],0,2,())else Lp.loop ziO (a,⟨a,a,false⟩,[],())
def zBr:List zI:=[⟨false,.tup [.sl 36,.int .i64,.int .i64],[]⟩]
def zt2:=callee Y [] zJW zBr (λz=>ztp z.1)
def zKk:zZ Y (zQ Y zBr):=(.loop [[7,5,1,2,2,2,2],[8,5,1,2,2,2,2],[6,1,2,2,2,2],[2,2,2,2,2]] ⟨[(0,.str),(5,.ptr 0 0),(6,.own 1)],[.whole 69 69,.arr 36]⟩ (ziO) .nil .nil)
theorem zIs:K8 18 (zt2):=f8 zKk Tryz.func18 (.cons ztZ (.cons zEC (.cons zyu .nil))) ⟨λz=>by kernel_rfl,trivial,trivial⟩
def za6(s:Str)(x:zh):Option (Bool×zh×Unit):=(zN x.t 0).bind λa=>(if(a.Kind==5)=true then some true else(zN x.t 0).bind λb=>some (b.Kind==2)).bind λc=>(if c=true then(zN x.t 0).bind λd=>some (d.Text==s)else some false).bind λe=>some (e,(zk x),())
def zA5:Shape:=⟨[(0,.ptr 0 0),(1,.str)],[.whole 48 48]⟩
def zqb:List zI:=[⟨false,.bool,[.whole 48 48]⟩]
def zA0:=callee Y [] zA5 zqb (u2 za6)
def zA9:zZ Y (zQ Y zqb):= .nil
theorem zcr:K8 35 (zA0):=f8 zA9 Tryz.func35 .nil trivial
def zav(x:zh):Option (zu×zh×Unit):=(zN x.t 0).bind λa=>if(a.Kind !=0)=true then(zaI x.t 1 ((x.t.length:Nat):Int)).bind λb=>some ((zBR a),⟨b,x.no⟩,())else some ((zBR a),(zk x),())
def zyc:Shape:=⟨[(0,.ptr 0 0)],[.whole 48 48]⟩
def zoj:List zI:=[⟨false,.st 36,[.whole 48 48]⟩]
def zjU:=callee Y [] zyc zoj (λz=>zav z.1)
def zyq:zZ Y (zQ Y zoj):= .nil
theorem zbI:K8 75 (zjU):=f8 zyq Tryz.func75 .nil trivial
def zG(s:Str)(x:zh):Option (Bool×zh×Unit):=(za6 s (zk x)).bind λa=>if a.1=true then(zav (zk a.2.1)).bind λb=>some (a.1,(zk b.2.1),())else some (a.1,(zk a.2.1),())
def zh1:=callee Y [] zA5 zqb (u2 zG)
theorem zaz:K8 36 (zh1):=f8 zA9 Tryz.func36 (.cons zcr (.cons zbI .nil)) trivial
def zaP(x:zh):Option (zad×zh×Unit):=(zN x.t 0).bind λa=>some ((zad.code 45 a.At),(zk x),())
def zoh:List zI:=[⟨true,.err,[.whole 48 48]⟩]
def zfG:=callee Y [] zyc zoh (λz=>zaP z.1)
def zyN:zZ Y (zQ Y zoh):= .nil
theorem zaY:K8 21 (zfG):=f8 zyN Tryz.func21 .nil trivial
def zdf(x:zh):Option ((zad×zh×Unit)⊕(Str×zh×Unit)):=(zN x.t 0).bind λc=>if(c.Kind !=1)=true then(zaP (zk x)).bind λa=>some (.inl (a.1,(zk a.2.1),()))else(zav (zk x)).bind λb=>some (.inr (b.1.Text,(zk b.2.1),()))
def znV:List zI:=[⟨true,.err,[.whole 48 48]⟩,⟨false,.str,[.whole 48 48]⟩]
def zoe:=callee Y [] zyc znV (λz=>zdf z.1)
def zx0:zZ Y (zQ Y znV):= .nil
theorem ze7:K8 76 (zoe):=f8 zx0 Tryz.func76 (.cons zaY (.cons zbI .nil)) trivial
def zac(s:Str)(x:zh):zPQ:=(zG s (zk x)).bind λa=>if(!a.1)=true then(zaP (zk a.2.1)).bind λb=>some (.inl (b.1,(zk b.2.1),()))else some (.inr ((zk a.2.1),()))
def zn0:List zI:=[⟨true,.err,[.whole 48 48]⟩,⟨false,.tup [],[.whole 48 48]⟩]
def zfF:=callee Y [] zA5 zn0 (u2 zac)
def zyI:zZ Y (zQ Y zn0):= .nil
theorem zaK:K8 77 (zfF):=f8 zyI Tryz.func77 (.cons zaz (.cons zaY .nil)) trivial
def zhK(x:zh)(c:Int)(d:Str)(e:Int)(f:Str)(l:List Str)(g:List zg):OT5:=(zdf (zk x)).bind λh=>(match h with| .inl b=>some (.inl (b.1,(zk b.2.1),c,d,e,f,l,g,()))| .inr a=>(room (l.length+([a.1]:List Str).length)).bind λ_=>let i:=l++[a.1];some (.inr ((zk a.2.1),c,d,e,f,i,g,())))
def om0:List zbB:=[.cells 46 [.ptr 1 0],.whole 48 48,.cells 9 [.str],.cells 1 [.fn 242 [.ptr 4 0,.ptr 5 0]],.cells 46 [.ptr 1 0],oc0 6 7,.arr 9,.arr 25,.cells 4 [.bool]]
def om1:List zbB:=[.whole 48 48,.cells 46 [.ptr 0 0],.cells 9 [.str],.cells 1 [.fn 242 [.ptr 4 0,.ptr 5 0]],.cells 46 [.ptr 0 0],oc0 6 7,.arr 9,.arr 25,.cells 4 [.bool]]
def om2:List zbB:=[.cells 46 [.ptr 1 0],.whole 48 48,.cells 9 [.str],.cells 1 [.fn 79 [.ptr 4 0,.ptr 5 0]],.cells 46 [.ptr 1 0],oc0 6 7,.arr 9,.arr 25,.cells 4 [.bool]]
def om3:List zbB:=[.whole 48 48,.cells 46 [.ptr 0 0],.cells 9 [.str],.cells 1 [.fn 79 [.ptr 4 0,.ptr 5 0]],.cells 46 [.ptr 0 0],oc0 6 7,.arr 9,.arr 25,.cells 4 [.bool]]
def om4:List zbB:=[.cells 46 [.ptr 1 0],.whole 48 48,.cells 9 [.str],.cells 1 [.fn 236 [.ptr 4 0,.ptr 5 0]],.cells 46 [.ptr 1 0],oc2 6,.arr 25,.cells 4 [.bool]]
def om5:List zbB:=[.whole 48 48,.cells 46 [.ptr 0 0],.cells 9 [.str],.cells 1 [.fn 236 [.ptr 4 0,.ptr 5 0]],.cells 46 [.ptr 0 0],oc2 6,.arr 25,.cells 4 [.bool]]
def om6:List zbB:=[.whole 48 48,oc0 4 5,oc0 6 7,oc0 8 9,.arr 9,.arr 25,.arr 9,.arr 25,.arr 9,.arr 25]
def om7:List zbB:=[.whole 48 48,.cells 46 [.ptr 0 0],oc0 4 5,oc0 6 7,.arr 9,.arr 25,.arr 9,.arr 25]
def om8:List zbB:=[.whole 48 48,oc0 4 5,oc0 6 7,.whole 25 25,.arr 9,.arr 25,.arr 9,.arr 25]
def om9:List zbB:=[oc1 1,.arr 9,.cells 62 [.ptr 0 0],.whole 25 25,.cells 23 [.sl 25]]
def zOX:List zbB:=[.whole 48 48,.cells 46 [.ptr 0 0],.whole 25 25,.arr 9,.arr 25]
def zPt:List zbB:=[.cells 46 [.ptr 1 0],.whole 48 48,.whole 25 25,.arr 9,.arr 25]
def zhM:List zbB:=[.whole 48 48,oc0 3 4,oc0 5 6,.arr 9,.arr 25,.arr 9,.arr 25]
def znc:List zbB:=[.cells 46 [.ptr 1 0],.whole 48 48,oc0 3 4,.arr 9,.arr 25]
def zb6:List zbB:=[.whole 48 48,.cells 46 [.ptr 0 0],oc0 3 4,.arr 9,.arr 25]
def zjS:List zbB:=[oc1 1,.arr 9,.cells 62 [.ptr 0 0],.cells 23 [.sl 25]]
def zD6:List zbB:=[.cells 62 [.ptr 1 0],oc1 2,.arr 9,.cells 23 [.sl 25]]
def zLO:List zbB:=[.whole 48 48,oc0 3 4,.whole 25 25,.arr 9,.arr 25]
def zD1:List zbB:=[.whole 48 48,.cells 46 [.ptr 0 0],oc2 3,.arr 25]
def zOY:List zbB:=[.cells 46 [.ptr 1 0],.whole 48 48,oc2 3,.arr 25]
def zgn:List zbB:=[oc1 1,.arr 9,.cells 62 [.ptr 0 0],.whole 25 25]
def zzF:List zbB:=[.cells 62 [.ptr 1 0],oc1 2,.arr 9,.whole 25 25]
def zLE:List zbB:=[oc1 1,.arr 9,.whole 25 25]
def zqU:Shape:=⟨[(0,.ptr 0 0),(1,.ptr 2 0)],znc⟩
def zkq:List zI:=[⟨true,.err,znc⟩,⟨false,.tup [],znc⟩]
def zqS:=callee Y [] zqU zkq (u7 zhK)
def zqx:zZ Y (zQ Y zkq):= .nil
theorem zpP:K8 79 (zqS):=f8 zqx Tryz.func79 (.cons ze7 .nil) trivial
def zeh:zh×Str×Int×Str×Int×Str×(List Str)×(List zg)×Bool×Unit->OT0| (q,b,h,i,j,k,l,m,c,())=>(zG b (zk q)).bind λe=>if(!e.1)=true then(zhK (zk e.2.1) h i j k l m).bind λr=>(match r with| .inl d=>some (.inr (.inl (d.1,(zk d.2.1),b,d.2.2.1,d.2.2.2.1,d.2.2.2.2.1,d.2.2.2.2.2.1,d.2.2.2.2.2.2.1,d.2.2.2.2.2.2.2.1,c,())))| .inr a=>(zG b (zk a.1)).bind λf=>if f.1=true then some (.inr (.inr ((zk f.2.1),b,a.2.1,a.2.2.1,a.2.2.2.1,a.2.2.2.2.1,a.2.2.2.2.2.1,a.2.2.2.2.2.2.1,c,())))else(zac [44] (zk f.2.1)).bind λs=>(match s with| .inl n=>some (.inr (.inl (n.1,(zk n.2.1),b,a.2.1,a.2.2.1,a.2.2.2.1,a.2.2.2.2.1,a.2.2.2.2.2.1,a.2.2.2.2.2.2.1,c,())))| .inr o=>if(!c)=true then(za6 b (zk o.1)).bind λg=>if g.1=true then(zaP (zk g.2.1)).bind λp=>some (.inr (.inl (p.1,(zk p.2.1),b,a.2.1,a.2.2.1,a.2.2.2.1,a.2.2.2.2.1,a.2.2.2.2.2.1,a.2.2.2.2.2.2.1,c,())))else some (.inl ((zk g.2.1),b,a.2.1,a.2.2.1,a.2.2.2.1,a.2.2.2.2.1,a.2.2.2.2.2.1,a.2.2.2.2.2.2.1,c,()))else some (.inl ((zk o.1),b,a.2.1,a.2.2.1,a.2.2.2.1,a.2.2.2.2.1,a.2.2.2.2.2.1,a.2.2.2.2.2.2.1,c,()))))else some (.inr (.inr ((zk e.2.1),b,h,i,j,k,l,m,c,())))
def zhC(x:zh)(a:Str)(b:Int)(c:Str)(d:Int)(e:Str)(l:List Str)(f:List zg)(g:Bool):OT3:=Lp.loop zeh ((zk x),a,b,c,d,e,l,f,g,())
def zvu:Shape:=⟨[(0,.ptr 0 0),(1,.ptr 2 0),(2,.ptr 3 0),(3,.ptr 8 0)],om2⟩
def zmD:List zI:=[⟨true,.err,om2⟩,⟨false,.tup [],om2⟩]
def zmE:=callee Y [] zvu zmD (u9 zhC)
def zvZ:zZ Y (zQ Y zmD):=(.loop [[7,5],[8,5],[6]] ⟨[(0,.ptr 0 0),(1,.ptr 2 0),(2,.ptr 3 0),(3,.ptr 8 0)],om2⟩ (zeh) .nil .nil)
theorem zup:K8 133 (zmE):=f8 zvZ Tryz.func133 (.cons zaz (.cons zpP (.cons zaK (.cons zcr (.cons zaY .nil))))) ⟨λz=>by kernel_rfl,trivial,trivial⟩
def zhn(x:zh)(a:Str)(e:Int)(f:Str)(g:Int)(h:Str)(l:List Str)(i:List zg)(j:Bool):OT3:=(zhC ⟨x.t,false⟩ a e f g h l i j).bind λd=>(match d with| .inl b=>some (.inl (b.1,(zk b.2.1),b.2.2.1,b.2.2.2.1,b.2.2.2.2.1,b.2.2.2.2.2.1,b.2.2.2.2.2.2.1,b.2.2.2.2.2.2.2.1,b.2.2.2.2.2.2.2.2.1,b.2.2.2.2.2.2.2.2.2.1,()))| .inr c=>some (.inr (⟨c.1.t,x.no⟩,c.2.1,c.2.2.1,c.2.2.2.1,c.2.2.2.2.1,c.2.2.2.2.2.1,c.2.2.2.2.2.2.1,c.2.2.2.2.2.2.2.1,c.2.2.2.2.2.2.2.2.1,())))
def zu4:Shape:=⟨[(0,.ptr 0 0),(1,.fn 133 [.ptr 1 0,.ptr 2 0,.ptr 3 0,.ptr 8 0])],om3⟩
def zmu:List zI:=[⟨true,.err,om3⟩,⟨false,.tup [],om3⟩]
def zmI:=callee Y [] zu4 zmu (u9 zhn)
def zvn:zZ Y (zQ Y zmu):= .nil
theorem ztL:K8 80 (zmI):=f8 zvn Tryz.func80 ((.cons (COk.laid zup) .nil):zcC hY Tryz.prog zam [(133,(zho Y [⟨[(0,.ptr 0 0),(1,.ptr 2 0),(2,.ptr 3 0),(3,.ptr 8 0)],om2⟩,⟨[(0,.ptr 0 0),(1,.ptr 2 0),(2,.ptr 3 0),(3,.ptr 7 0)],om4⟩,⟨[(0,.ptr 0 0),(1,.ptr 2 0),(2,.ptr 3 0),(3,.ptr 8 0)],om0⟩] (zmE)))]) trivial
def zix(d:Str)(e:Bool)(x:zh)(f:Int)(g:Str)(h:Int)(i:Str)(l:List Str)(j:List zg):OT5:=(zhn (zk x) d f g h i l j e).bind λc=>(match c with| .inl a=>some (.inl (a.1,(zk a.2.1),a.2.2.2.1,a.2.2.2.2.1,a.2.2.2.2.2.1,a.2.2.2.2.2.2.1,a.2.2.2.2.2.2.2.1,a.2.2.2.2.2.2.2.2.1,()))| .inr b=>some (.inr ((zk b.1),b.2.2.1,b.2.2.2.1,b.2.2.2.2.1,b.2.2.2.2.2.1,b.2.2.2.2.2.2.1,b.2.2.2.2.2.2.2.1,())))
def zyQ:Shape:=⟨[(0,.ptr 0 0),(1,.str),(2,.bool),(3,.fn 79 [.ptr 1 0,.ptr 2 0])],zb6⟩
def zog:List zI:=[⟨true,.err,zb6⟩,⟨false,.tup [],zb6⟩]
def zod:=callee Y [] zyQ zog (u9 zix)
def zyy:zZ Y (zQ Y zog):= .nil
theorem zwY:K8 78 (zod):=f8 zyy Tryz.func78 ((.cons (COk.laid ztL) .nil):zcC hY Tryz.prog zam [(80,(zho Y [⟨[(0,.ptr 0 0),(1,.fn 133 [.ptr 1 0,.ptr 2 0,.ptr 3 0,.ptr 8 0])],om3⟩,⟨[(0,.ptr 0 0),(1,.fn 81 [.ptr 1 0,.ptr 2 0])],zb6⟩,⟨[(0,.ptr 0 0),(1,.fn 241 [.ptr 1 0,.ptr 2 0])],zb6⟩,⟨[(0,.ptr 0 0),(1,.fn 133 [.ptr 1 0,.ptr 2 0,.ptr 3 0,.ptr 7 0])],om5⟩,⟨[(0,.ptr 0 0),(1,.fn 133 [.ptr 1 0,.ptr 2 0,.ptr 3 0,.ptr 8 0])],om1⟩,⟨[(0,.ptr 0 0),(1,.fn 222 [.ptr 1 0,.ptr 2 0])],zb6⟩,⟨[(0,.ptr 0 0),(1,.fn 167 [.ptr 1 0,.ptr 2 0])],zb6⟩] (zmI)))]) trivial
def zbl(h:Str)(x:zh):Option (Bool×zh×Unit):=(zN x.t 0).bind λa=>(if(a.Kind==5)=true then some true else(zN x.t 0).bind λb=>some (b.Kind==2)).bind λc=>if c=true then(zN x.t 0).bind λd=>(zh9 [32] d.Text).bind λe=>(zh9 e [32]).bind λf=>(strings_Contains h f).bind λg=>some (g.1,(zk x),())else some (false,(zk x),())
def znH:=callee Y [] zA5 zqb (u2 zbl)
theorem zf9:K8 136 (znH):=f8 zA9 Tryz.func136 (.cons zhr .nil) trivial
def zff(n:zg):Option (Bool×Unit):=let a:=((n.Kind==3)||(n.Kind==11));some ((a||(n.Kind==12)),())
def zDa:Shape:=⟨[(0,.st 25)],[]⟩
def zDm:=callee Y [] zDa zx3 (λz=>zff z.1)
theorem zml:K8 121 (zDm):=f8 zEf Tryz.func121 .nil trivial
def zd7(n:zg)(x:zh):zPQ:=(zff (zA n)).bind λb=>if(!b.1)=true then(zaP (zk x)).bind λa=>some (.inl (a.1,(zk a.2.1),()))else some (.inr ((zk x),()))
def zuY:Shape:=⟨[(0,.ptr 0 0),(1,.st 25)],[.whole 48 48]⟩
def zms:=callee Y [] zuY zn0 (u2 zd7)
theorem zlR:K8 168 (zms):=f8 zyI Tryz.func168 (.cons zml (.cons zaY .nil)) trivial
def zcf(a:Int)(b:Int):Option (Str):=if b=16 then Gw.zcM a else if -9223372036854775808<=a/\a<=9223372036854775807/\b=10 then some (Lib.itoa a)else none
theorem zcf.ok(i_:Int)(base_:Int)(r:Str)(h0:zcf i_ base_=some r)(w0:World)(F0:Heap)(hv:F0.Sub w0)(hG:zam F0)(hg:SV.zaD F0 [.v (.int .i64 i_),.v (.int .i64 base_)])(ρ:Nat->Nat):
  Calls Tryz.prog 173 (SV.zak ρ [.v (.int .i64 i_),.v (.int .i64 base_)]).toArray w0 (zdv w0 F0 λs=>s= .v (.string ⟨⟨r⟩⟩)):=by
 unfold zcf at h0;split at h0
 ·rename_i hb;subst hb;exact Gw.zcM.ok i_ r h0 w0 F0 hv ⟨hG.maxLen,hG.zDq,hG.zIN,hG.zIr,hG.zCt⟩ ⟨trivial,trivial,trivial⟩ (λ_=>0)
 ·split at h0
  ·rename_i hc;cases h0;obtain⟨h1,h2,rfl⟩:=hc;refine(Tryz.strconv_FormatInt_10 i_ h1 h2 w0 (hG.zCt w0 hv)).mono λe w' h=>?_
   obtain⟨h1,k,os,rfl⟩:=h;exact zdv.below (s:= .v (.string ⟨⟨_⟩⟩)) hv h1 (Go.Lib.below_grow _ _ (yJ _) _ _) trivial rfl rfl
  ·cases h0
def zcI(a:Int)(b:Int):Option (Str×Unit):=zjx (λr=>(r,())) (zcf a b)
def zoc:Shape:=⟨[(0,.int .i64),(1,.int .i64)],[]⟩
def zn1:=callee Y [] zoc zzW (λz=>zcI z.1 z.2.1)
theorem zjt:K8 173 zn1:=
 COk.ext (l:=zoc.l) ⟨⟨_,Tryz.func173,by kernel_rfl,rfl⟩⟩ ⟨rfl,rfl⟩ rfl λz zo h=>⟨_,_,rfl,rfl,λw F hG hv=>by
  obtain⟨r,hr,rfl⟩:=zgV h;exact zcf.ok z.1 z.2.1 r hr w F hv hG (by simp[SV.zaD,SV.good]) (λ_=>0)⟩
def zjM:Str×Int×Int×(List UInt8)×Unit->zEN| (c,e,a,b,())=>if(decide (a<e))=true then(zaZ c a).bind λf=>if(decide (f>=128))=true then some (.inr ([],10,()))else let g:=(IntKind.wrap .i64 (2*a));let d:=(IntKind.wrap .i64 (g+1));(zaZ c a).bind λh=>(zN b d).bind λ_=>(zN b d).bind λl=>(zLz h).bind λi=>let j:=b.set d.toNat i;let k:=(IntKind.wrap .i64 (a+1));some (.inl (c,e,k,j,()))else some (.inr (b,0,()))
def zoJ(s:Str):Option (Str×Int×Unit):=let a:=(IntKind.wrap .i64 (2*((s.length:Nat):Int)));(zCA a).bind λb=>Lp.loop zjM (s,((s.length:Nat):Int),0,(List.replicate b (UInt8.ofNat 0)),())
def zCU:List zI:=[⟨false,.tup [.str,.int .i64],[]⟩]
def zMP:=callee Y [] zJW zCU (λz=>zoJ z.1)
def zL5:zZ Y (zQ Y zCU):=(.loop [[7,5,2,1,2,2],[8,5,2,1,2,2],[6,2,1,2,2],[2,2,2]] ⟨[(0,.str),(4,.own 0),(11,.int .i64),(12,.int .i64)],[.arr 5]⟩ (zjM) .nil .nil)
theorem zKj:K8 246 (zMP):=f8 zL5 Tryz.func246 .nil ⟨λz=>by kernel_rfl,trivial,trivial⟩
def zi6(x:zh):Option ((Str×zh×Unit)⊕(zad×zh×Unit)):=(zN x.t 0).bind λa=>if(a.Kind==4)=true then(zav (zk x)).bind λc=>some (.inl (a.Text,(zk c.2.1),()))else if(a.Kind==3)=true then(zcI a.Num 10).bind λd=>(zav (zk x)).bind λe=>(zoJ d.1).bind λf=>some (.inl (f.1,(zk e.2.1),()))else if(a.Kind==1)=true then(zav (zk x)).bind λg=>(zoJ a.Text).bind λh=>some (.inl (h.1,(zk g.2.1),()))else if(a.Kind==2)=true then(zav (zk x)).bind λi=>(zoJ a.Text).bind λj=>some (.inl (j.1,(zk i.2.1),()))else(zaP (zk x)).bind λb=>some (.inr (b.1,(zk b.2.1),()))
def zo7:List zI:=[⟨false,.str,[.whole 48 48]⟩,⟨true,.err,[.whole 48 48]⟩]
def zzu:=callee Y [] zyc zo7 (λz=>zi6 z.1)
def zz4:zZ Y (zQ Y zo7):= .nil
theorem zyd:K8 243 (zzu):=f8 zz4 Tryz.func243 (.cons zbI (.cons zjt (.cons zKj (.cons zaY .nil)))) trivial
def zdS(c:zh):Option (Int×Int×zh×Unit):=(zbl [32,43,32,45,32] (zk c)).bind λa=>if a.1=true then some (7,17,(zk a.2.1),())else(zbl [32,42,32,47,32,37,32] (zk a.2.1)).bind λb=>if b.1=true then some (8,17,(zk b.2.1),())else some (0,0,(zk b.2.1),())
def zgv(x:zh):Option (Int×Int×zh×Unit):=(za6 [124,124] (zk x)).bind λb=>if b.1=true then some (3,18,(zk b.2.1),())else(za6 [38,38] (zk b.2.1)).bind λc=>if c.1=true then some (4,18,(zk c.2.1),())else(zbl [32,61,61,32,33,61,32,61,61,61,32,33,61,61,32] (zk c.2.1)).bind λd=>if d.1=true then some (5,17,(zk d.2.1),())else(zbl [32,60,32,62,32,60,61,32,62,61,32,105,110,115,116,97,110,99,101,111,102,32] (zk d.2.1)).bind λa=>if a.1=true then some (6,17,(zk a.2.1),())else if(!a.2.1.no)=true then(za6 [105,110] (zk a.2.1)).bind λe=>if e.1=true then some (6,17,(zk e.2.1),())else zdS (zk e.2.1)else zdS (zk a.2.1)
def zlZ:List zI:=[⟨false,.tup [.int .i64,.int .i64],[.whole 48 48]⟩]
def ztX:=callee Y [] zyc zlZ (λz=>zgv z.1)
def zt7:zZ Y (zQ Y zlZ):=(.join [[1,4,2,4,2,4,2,4,2,5,1,2],[2,4,2,4,2,4,2,4,2,5,1,2],[6,1,2],[2,2]] ⟨[(0,.ptr 0 0)],[.whole 48 48]⟩ (λz=>zdS z.1) .nil)
theorem zte:K8 190 (ztX):=f8 zt7 Tryz.func190 (.cons zcr (.cons zf9 .nil)) ⟨λz=>by kernel_rfl,⟨⟩⟩
def zeA(x:zh):Option (Bool×zh×Unit):=(za6 [125] (zk x)).bind λa=>(if a.1=true then some true else(zN a.2.1.t 0).bind λb=>some (b.Kind==0)).bind λc=>(if c=true then some true else(zN a.2.1.t 0).bind λd=>some d.Fresh).bind λe=>some (e,(zk a.2.1),())
def zwU:=callee Y [] zyc zqb (λz=>zeA z.1)
theorem zmP:K8 90 (zwU):=f8 zA9 Tryz.func90 (.cons zcr .nil) trivial
def zbF(x:zh):zPQ:=(zG [59] (zk x)).bind λa=>if(!a.1)=true then(zeA (zk a.2.1)).bind λb=>if(!b.1)=true then(zaP (zk b.2.1)).bind λc=>some (.inl (c.1,(zk c.2.1),()))else some (.inr ((zk b.2.1),()))else some (.inr ((zk a.2.1),()))
def zzJ:=callee Y [] zyc zn0 (λz=>zbF z.1)
theorem zob:K8 84 (zzJ):=f8 zyI Tryz.func84 (.cons zaz (.cons zmP (.cons zaY .nil))) trivial
def zgs(d:Int)(x:zh):za8:=(zN x.t 0).bind λe=>(if(e.Kind==1)=true then(zN x.t 0).bind λf=>some (!f.Fresh)else some false).bind λg=>if g=true then(zav (zk x)).bind λa=>(zbF (zk a.2.1)).bind λh=>(match h with| .inl b=>some (.inl (b.1,(zk b.2.1),()))| .inr i=>some (.inr (⟨d,a.1.Text,0,[],[],[]⟩,(zk i.1),())))else(zbF (zk x)).bind λj=>(match j with| .inl c=>some (.inl (c.1,(zk c.2.1),()))| .inr k=>some (.inr (⟨d,[],0,[],[],[]⟩,(zk k.1),())))
def zyw:Shape:=⟨[(0,.ptr 0 0),(1,.int .i64)],[.whole 48 48]⟩
def zn6:List zI:=[⟨true,.err,[.whole 48 48]⟩,⟨false,.st 25,[.whole 48 48]⟩]
def zx6:=callee Y [] zyw zn6 (u2 zgs)
def zyP:zZ Y (zQ Y zn6):= .nil
theorem zv4:K8 89 (zx6):=f8 zyP Tryz.func89 (.cons zbI (.cons zob .nil)) trivial
structure zf where
 zbn:Bool->Str->zh->zDV
 zbQ:Int->zh->za8
 zcv:zh->Int->Str->Int->Str->(List Str)->(List zg)->OT4
 zcT:zh->Int->Str->Int->Str->(List Str)->(List zg)->OT4
 zbu:zh->za8
 zbA:zh->za8
 zcG:zh->za8
 zay:zh->ziq
 zce:Int->zh->za8
 zb5:zh->ziq
 zcH:zh->ziq
 zc1:zh->ziq
 zdX:zh->ziq
 zcy:zh->Int->Str->Int->Str->(List Str)->(List zg)->OT6
 zd4:zh->Int->Str->Int->Str->(List Str)->(List zg)->OT6
 zau:zh->ziq
 zbz:Str->Bool->zh->zDV
 zdM:Str->Bool->zh->(List zg)->zEd
 zdd:zh->Str->(List zg)->Bool->OT8
 zda:zh->Str->(List zg)->Bool->OT8
 zcW:zh->(List zg)->zEd
 zc0:Str->Bool->zh->Int->Str->Int->Str->(List Str)->(List zg)->OT5
 zc7:zh->Str->Int->Str->Int->Str->(List Str)->(List zg)->Bool->OT3
 zdb:zh->Str->Int->Str->Int->Str->(List Str)->(List zg)->Bool->OT3
 zdg:zh->Int->Str->Int->Str->(List Str)->(List zg)->OT5
 zb3:zg->Bool->zh->za8
 zcz:zh->Int->Str->Int->Str->(List Str)->(List zg)->OT6
 zc9:zh->Int->Str->Int->Str->(List Str)->(List zg)->OT6
 zcA:zh->Int->Str->Int->Str->(List Str)->(List zg)->OT6
 zdx:zh->Int->Str->Int->Str->(List Str)->(List zg)->OT6
 zdi:zh->za8
 zbG:zh->za8
 zbi:zh->za8
 zdU:zh->za8
 zcP:Str->zh->ziq
 zep:zh->za8
 zdH:zh->za8
def zm9:Shape:=⟨[(0,.ptr 0 0),(1,.bool),(2,.str)],[.whole 48 48]⟩
def zjg:List zI:=[⟨false,.sl 25,[.whole 48 48]⟩,⟨true,.err,[.whole 48 48]⟩]
def zgB(b:zf):=callee Y [] zm9 zjg (u3 b.zbn)
def zlz(b:zf):=callee Y [] zyw zn6 (u2 b.zbQ)
def zla:Shape:=⟨[(0,.ptr 0 0),(1,.fn 81 [.ptr 1 0,.ptr 2 0])],zb6⟩
def zg5:List zI:=[⟨false,.tup [],[.whole 48 48,.cells 46 [.ptr 0 0],.cells 25 [.int .i64,.str,.int .i64,.str,.own 3,.sl 25],.arr 9,.arr 25]⟩,⟨true,.err,zb6⟩]
def zkT(b:zf):=callee Y [] zla zg5 (u7 b.zcv)
def zgQ:List zI:=[⟨false,.tup [],[.cells 46 [.ptr 1 0],.whole 48 48,.cells 25 [.int .i64,.str,.int .i64,.str,.own 3,.sl 25],.arr 9,.arr 25]⟩,⟨true,.err,znc⟩]
def zqC(b:zf):=callee Y [] zqU zgQ (u7 b.zcT)
def zya(b:zf):=callee Y [] zyc zn6 (λz=>b.zbu z.1)
def zwO(b:zf):=callee Y [] zyc zn6 (λz=>b.zbA z.1)
def zx4(b:zf):=callee Y [] zyc zn6 (λz=>b.zcG z.1)
def ziU:List zI:=[⟨false,.st 25,[.whole 48 48]⟩,⟨true,.err,[.whole 48 48]⟩]
def zmw(b:zf):=callee Y [] zyc ziU (λz=>b.zay z.1)
def zmq(b:zf):=callee Y [] zyw zn6 (u2 b.zce)
def zwd(b:zf):=callee Y [] zyc ziU (λz=>b.zb5 z.1)
def zyp(b:zf):=callee Y [] zyc ziU (λz=>b.zcH z.1)
def zuC(b:zf):=callee Y [] zyc ziU (λz=>b.zc1 z.1)
def zx1(b:zf):=callee Y [] zyc ziU (λz=>b.zdX z.1)
def zkR:Shape:=⟨[(0,.ptr 0 0),(1,.fn 241 [.ptr 1 0,.ptr 2 0])],zb6⟩
def zhf:List zI:=[⟨false,.tup [],zOX⟩,⟨true,.err,zb6⟩]
def zk3(b:zf):=callee Y [] zkR zhf (u7 b.zcy)
def ziI:List zI:=[⟨false,.tup [],zPt⟩,⟨true,.err,znc⟩]
def zvo(b:zf):=callee Y [] zqU ziI (u7 b.zd4)
def zyG(b:zf):=callee Y [] zyc ziU (λz=>b.zau z.1)
def znF:Shape:=⟨[(0,.ptr 0 0),(1,.str),(2,.bool)],[.whole 48 48]⟩
def zi3(b:zf):=callee Y [] znF zjg (u3 b.zbz)
def zl0:Shape:=⟨[(0,.ptr 0 0),(1,.str),(2,.bool),(3,.fn 236 [.ptr 1 0,.ptr 2 0])],zD1⟩
def zil:List zI:=[⟨false,.tup [],zD1⟩,⟨true,.err,zD1⟩]
def zlX(b:zf):=callee Y [] zl0 zil (u4 b.zdM)
def zkN:Shape:=⟨[(0,.ptr 0 0),(1,.fn 133 [.ptr 1 0,.ptr 2 0,.ptr 3 0,.ptr 7 0])],om5⟩
def zg4:List zI:=[⟨false,.tup [],om5⟩,⟨true,.err,om5⟩]
def zkB(b:zf):=callee Y [] zkN zg4 (u4 b.zdd)
def zkH:Shape:=⟨[(0,.ptr 0 0),(1,.ptr 2 0),(2,.ptr 3 0),(3,.ptr 7 0)],om4⟩
def zgZ:List zI:=[⟨false,.tup [],om4⟩,⟨true,.err,om4⟩]
def zk6(b:zf):=callee Y [] zkH zgZ (u4 b.zda)
def zlM:Shape:=⟨[(0,.ptr 0 0),(1,.ptr 2 0)],zOY⟩
def zij:List zI:=[⟨false,.tup [],zOY⟩,⟨true,.err,zOY⟩]
def ztE(b:zf):=callee Y [] zlM zij (u2 b.zcW)
def zlV:Shape:=⟨[(0,.ptr 0 0),(1,.str),(2,.bool),(3,.fn 242 [.ptr 1 0,.ptr 2 0])],zb6⟩
def zlP(b:zf):=callee Y [] zlV zog (u9 b.zc0)
def zkO:Shape:=⟨[(0,.ptr 0 0),(1,.fn 133 [.ptr 1 0,.ptr 2 0,.ptr 3 0,.ptr 8 0])],om1⟩
def zg6:List zI:=[⟨true,.err,om1⟩,⟨false,.tup [],om1⟩]
def zky(b:zf):=callee Y [] zkO zg6 (u9 b.zc7)
def zk8:Shape:=⟨[(0,.ptr 0 0),(1,.ptr 2 0),(2,.ptr 3 0),(3,.ptr 8 0)],om0⟩
def zg2:List zI:=[⟨true,.err,om0⟩,⟨false,.tup [],om0⟩]
def zkF(b:zf):=callee Y [] zk8 zg2 (u9 b.zdb)
def zvO(b:zf):=callee Y [] zqU zkq (u7 b.zdg)
def zlT:Shape:=⟨[(0,.ptr 0 0),(1,.st 25),(2,.bool)],[.whole 48 48]⟩
def ztH(b:zf):=callee Y [] zlT zn6 (u3 b.zb3)
def zkA:Shape:=⟨[(0,.ptr 0 0),(1,.fn 222 [.ptr 1 0,.ptr 2 0])],zb6⟩
def zkS(b:zf):=callee Y [] zkA zhf (u7 b.zcz)
def zsA(b:zf):=callee Y [] zqU ziI (u7 b.zc9)
def zlf:Shape:=⟨[(0,.ptr 0 0),(1,.fn 167 [.ptr 1 0,.ptr 2 0])],zb6⟩
def zkJ(b:zf):=callee Y [] zlf zhf (u7 b.zcA)
def zsH(b:zf):=callee Y [] zqU ziI (u7 b.zdx)
def zuP(b:zf):=callee Y [] zyc zn6 (λz=>b.zdi z.1)
def zyj(b:zf):=callee Y [] zyc zn6 (λz=>b.zbG z.1)
def zx9(b:zf):=callee Y [] zyc zn6 (λz=>b.zbi z.1)
def zyb(b:zf):=callee Y [] zyc zn6 (λz=>b.zdU z.1)
def zxk(b:zf):=callee Y [] zA5 ziU (u2 b.zcP)
def zzg(b:zf):=callee Y [] zyc zn6 (λz=>b.zep z.1)
def zxe(b:zf):=callee Y [] zyc zn6 (λz=>b.zdH z.1)
structure zF (g_:zf):Prop where
 zbn:COk hY Tryz.prog zam 20 (zgB g_)
 zbQ:COk hY Tryz.prog zam 37 (zlz g_)
 zcv:COk hY Tryz.prog zam 80 (zkT g_)
 zcT:COk hY Tryz.prog zam 81 (zqC g_)
 zbu:COk hY Tryz.prog zam 38 (zya g_)
 zbA:COk hY Tryz.prog zam 82 (zwO g_)
 zcG:COk hY Tryz.prog zam 83 (zx4 g_)
 zay:COk hY Tryz.prog zam 134 (zmw g_)
 zce:COk hY Tryz.prog zam 166 (zmq g_)
 zb5:COk hY Tryz.prog zam 189 (zwd g_)
 zcH:COk hY Tryz.prog zam 211 (zyp g_)
 zc1:COk hY Tryz.prog zam 224 (zuC g_)
 zdX:COk hY Tryz.prog zam 237 (zx1 g_)
 zcy:COk hY Tryz.prog zam 80 (zk3 g_)
 zd4:COk hY Tryz.prog zam 241 (zvo g_)
 zau:COk hY Tryz.prog zam 91 (zyG g_)
 zbz:COk hY Tryz.prog zam 223 (zi3 g_)
 zdM:COk hY Tryz.prog zam 78 (zlX g_)
 zdd:COk hY Tryz.prog zam 80 (zkB g_)
 zda:COk hY Tryz.prog zam 133 (zk6 g_)
 zcW:COk hY Tryz.prog zam 236 (ztE g_)
 zc0:COk hY Tryz.prog zam 78 (zlP g_)
 zc7:COk hY Tryz.prog zam 80 (zky g_)
 zdb:COk hY Tryz.prog zam 133 (zkF g_)
 zdg:COk hY Tryz.prog zam 242 (zvO g_)
 zb3:COk hY Tryz.prog zam 210 (ztH g_)
 zcz:COk hY Tryz.prog zam 80 (zkS g_)
 zc9:COk hY Tryz.prog zam 222 (zsA g_)
 zcA:COk hY Tryz.prog zam 80 (zkJ g_)
 zdx:COk hY Tryz.prog zam 167 (zsH g_)
 zdi:COk hY Tryz.prog zam 85 (zuP g_)
 zbG:COk hY Tryz.prog zam 86 (zyj g_)
 zbi:COk hY Tryz.prog zam 87 (zx9 g_)
 zdU:COk hY Tryz.prog zam 88 (zyb g_)
 zcP:COk hY Tryz.prog zam 135 (zxk g_)
 zep:COk hY Tryz.prog zam 92 (zzg g_)
 zdH:COk hY Tryz.prog zam 93 (zxe g_)
def zes(j:zf)(d:Bool)(e:Str)(f:zh)(b:List zg)(k:Int)(l:Str)(m:Int)(n:Str)(o:List Str)(p:List zg):OT7:=(j.zbu (zk f)).bind λg=>(match g with| .inl c=>some (.inr (.inr (c.1,(zk c.2.1),())))| .inr a=>(room (b.length+([(zA a.1)]:List zg).length)).bind λ_=>let h:=b++[(zA a.1)];some (.inl (d,e,(zk a.2.1),h,())))
def zev(h:zf):Bool×Str×zh×(List zg)×Unit->OT7| (c,d,j,a,())=>(za6 d (zk j)).bind λb=>(if(!b.1)=true then(zN b.2.1.t 0).bind λk=>some (k.Kind !=0)else some false).bind λl=>if l=true then if c=true then(zG [102,117,110,99,116,105,111,110] (zk b.2.1)).bind λe=>if e.1=true then(h.zbQ 39 (zk e.2.1)).bind λm=>(match m with| .inl i=>some (.inr (.inr (i.1,(zk i.2.1),())))| .inr f=>(room (a.length+([(zA f.1)]:List zg).length)).bind λ_=>let n:=a++[(zA f.1)];some (.inl (c,d,(zk f.2.1),n,())))else zes h c d (zk e.2.1) a 0 [] 0 [] [] []else zes h c d (zk b.2.1) a 0 [] 0 [] [] []else some (.inr (.inl (a,(zk b.2.1),())))
def zgP(d:zf)(b:Bool)(c:Str)(x:zh):zDV:=Lp.loop (zev d) (b,c,(zk x),[],())
def zxt(b:zf):=callee Y [] zm9 zjg (u3 (zgP b))
def zwS(b:zf):zZ Y (zQ Y zjg):=(.loop [[7,5,1,2],[8,5,1,2],[6,1,2],[2,2]] ⟨[(0,.ptr 0 0),(1,.bool),(2,.str),(6,.own 1)],[.whole 48 48,.arr 25]⟩ (zev b) (.join [[4,2,1,2,5,2,7,5,1,2],[2,2,5,2,7,5,1,2],[6,2,7,5,1,2],[8,5,1,2],[6,1,2],[2,2]] ⟨[(0,.ptr 0 0),(1,.bool),(2,.str),(6,.own 1),(7,.ptr 2 0)],[.whole 48 48,.arr 25,oc0 3 4,.arr 9,.arr 25]⟩ (u10 (zes b)) .nil) .nil)
theorem zs7(b:zf)(d:zF b):K8 20 (zxt b):=f8 (zwS b) Tryz.func20 (.cons zcr (.cons zaz (.cons d.zbQ (.cons d.zbu .nil)))) ⟨λz=>by kernel_rfl,⟨λz=>by kernel_rfl,⟨⟩⟩,trivial⟩
def zg7(o:zf)(d:zh)(p:Int)(q:Str)(r:Int)(s:Str)(e:Int)(f:Str)(g:Int)(h:Str)(t:List Str)(u:List zg)(i:List Str)(j:List zg):za8:=(o.zcv (zk d) e f g h i j).bind λk=>(match k with| .inl a=>(zac [125] (zk a.1)).bind λl=>(match l with| .inl b=>some (.inl (b.1,(zk b.2.1),()))| .inr m=>some (.inr (⟨a.2.1,a.2.2.1,a.2.2.2.1,a.2.2.2.2.1,a.2.2.2.2.2.2.1,a.2.2.2.2.2.1⟩,(zk m.1),())))| .inr c=>some (.inl (c.1,(zk c.2.1),())))
def zhg(r:zf)(b:zh)(c:Int)(d:Str)(e:Int)(f:Str)(g:Int)(h:Str)(i:Int)(j:Str)(k:List Str)(l:List zg)(m:List Str)(n:List zg):za8:=(zac [123] (zk b)).bind λo=>(match o with| .inl a=>some (.inl (a.1,(zk a.2.1),()))| .inr p=>zg7 r (zk p.1) c d e f g h i j k l m n)
def zhc(r:zf)(c:zh)(d:Int)(e:Str)(f:Int)(g:Str)(h:Int)(i:Str)(j:Int)(k:Str)(l:List Str)(m:List zg)(n:List Str)(o:List zg):za8:=(zix [41] false (zk c) h i j k n o).bind λp=>(match p with| .inl b=>some (.inl (b.1,(zk b.2.1),()))| .inr a=>zhg r (zk a.1) d e f g a.2.1 a.2.2.1 a.2.2.2.1 a.2.2.2.2.1 l m a.2.2.2.2.2.1 a.2.2.2.2.2.2.1)
def zdE(r:zf)(b:zh)(c:Int)(d:Str)(e:Int)(f:Str)(g:Int)(h:Str)(i:Int)(j:Str)(k:List Str)(l:List zg)(m:List Str)(n:List zg):za8:=(zac [40] (zk b)).bind λo=>(match o with| .inl a=>some (.inl (a.1,(zk a.2.1),()))| .inr p=>zhc r (zk p.1) c d e f g h i j k l m n)
def zfw(e:zf)(a:Int)(x:zh):za8:=(if(a==39)=true then some true else(zN x.t 0).bind λf=>some (f.Kind==1)).bind λg=>if g=true then(zdf (zk x)).bind λh=>(match h with| .inl b=>some (.inl (b.1,(zk b.2.1),()))| .inr c=>zdE e (zk c.2.1) 0 [] 0 [] a c.1 0 [] [] [] [] [])else zdE e (zk x) 0 [] 0 [] a [] 0 [] [] [] [] []
def zsX(b:zf):=callee Y [] zyw zn6 (u2 (zfw b))
def zsN(b:zf):zZ Y (zQ Y zn6):=(.join [[1,2,2,2],[2,2,2,2]] ⟨[(2,.ptr 1 0),(4,.ptr 2 0),(5,.ptr 3 0)],om7⟩ (u13 (zdE b)) (.join [[1,2,2,2,2],[2,2,2,2,2]] ⟨[(2,.ptr 1 0),(4,.ptr 2 0),(5,.ptr 3 0)],om7⟩ (u13 (zhc b)) (.join [[1,2,2,2,2,2],[2,2,2,2,2,2]] ⟨[(2,.ptr 1 0),(4,.ptr 2 0),(5,.ptr 3 0)],om7⟩ (u13 (zhg b)) (.join [[1,2,2,2,2,2,2],[2,2,2,2,2,2,2]] ⟨[(2,.ptr 1 0),(4,.ptr 2 0),(5,.ptr 3 0)],om7⟩ (u13 (zg7 b)) .nil))))
theorem zpW(b:zf)(d:zF b):K8 37 (zsX b):=f8 (zsN b) Tryz.func37 ((.cons ze7 (.cons zaK (.cons (COk.laid zwY) (.cons (COk.laid d.zcv) .nil)))):zcC hY Tryz.prog zam [(76,(zoe)),(77,(zfF)),(78,(zho Y [⟨[(0,.ptr 0 0),(1,.str),(2,.bool),(3,.fn 79 [.ptr 1 0,.ptr 2 0])],zb6⟩,⟨[(0,.ptr 0 0),(1,.str),(2,.bool),(3,.fn 236 [.ptr 1 0,.ptr 2 0])],zD1⟩,⟨[(0,.ptr 0 0),(1,.str),(2,.bool),(3,.fn 242 [.ptr 1 0,.ptr 2 0])],zb6⟩] (zod))),(80,(zho Y [⟨[(0,.ptr 0 0),(1,.fn 133 [.ptr 1 0,.ptr 2 0,.ptr 3 0,.ptr 8 0])],om3⟩,⟨[(0,.ptr 0 0),(1,.fn 81 [.ptr 1 0,.ptr 2 0])],zb6⟩,⟨[(0,.ptr 0 0),(1,.fn 241 [.ptr 1 0,.ptr 2 0])],zb6⟩,⟨[(0,.ptr 0 0),(1,.fn 133 [.ptr 1 0,.ptr 2 0,.ptr 3 0,.ptr 7 0])],om5⟩,⟨[(0,.ptr 0 0),(1,.fn 133 [.ptr 1 0,.ptr 2 0,.ptr 3 0,.ptr 8 0])],om1⟩,⟨[(0,.ptr 0 0),(1,.fn 222 [.ptr 1 0,.ptr 2 0])],zb6⟩,⟨[(0,.ptr 0 0),(1,.fn 167 [.ptr 1 0,.ptr 2 0])],zb6⟩] (zkT b)))]) ⟨λz=>by kernel_rfl,⟨λz=>by kernel_rfl,⟨λz=>by kernel_rfl,⟨λz=>by kernel_rfl,⟨⟩⟩⟩⟩⟩
def zeS(j:zf)(x:zh)(e:Int)(f:Str)(g:Int)(h:Str)(l:List Str)(i:List zg):OT4:=(j.zcT ⟨x.t,false⟩ e f g h l i).bind λc=>(match c with| .inl a=>some (.inl (⟨a.1.t,x.no⟩,a.2.1,a.2.2.1,a.2.2.2.1,a.2.2.2.2.1,a.2.2.2.2.2.1,a.2.2.2.2.2.2.1,a.2.2.2.2.2.2.2.1,()))| .inr b=>some (.inr (b.1,(zk b.2.1),b.2.2.1,b.2.2.2.1,b.2.2.2.2.1,b.2.2.2.2.2.1,b.2.2.2.2.2.2.1,b.2.2.2.2.2.2.2.1,())))
def zrg(b:zf):=callee Y [] zla zg5 (u7 (zeS b))
def zro:zZ Y (zQ Y zg5):= .nil
theorem zpf(b:zf)(d:zF b):K8 80 (zrg b):=f8 zro Tryz.func80 (.cons d.zcT .nil) trivial
def zeC(j:zf)(x:zh)(c:Int)(d:Str)(e:Int)(f:Str)(l:List Str)(g:List zg):OT4:=(j.zbn true [125] (zk x)).bind λh=>(match h with| .inl a=>some (.inl ((zk a.2.1),c,d,e,f,a.1,l,g,()))| .inr b=>some (.inr (b.1,(zk b.2.1),c,d,e,f,l,g,())))
def zqv(b:zf):=callee Y [] zqU zgQ (u7 (zeC b))
def zqy:zZ Y (zQ Y zgQ):= .nil
theorem zor(b:zf)(d:zF b):K8 81 (zqv b):=f8 zqy Tryz.func81 (.cons d.zbn .nil) trivial
def zhA(b:zf)(x:zh):za8:=(za6 [123] (zk x)).bind λe=>if e.1=true then(b.zbA (zk e.2.1)).bind λar=>(match ar with| .inl s=>some (.inl (s.1,(zk s.2.1),()))| .inr u=>some (.inr ((zA u.1),(zk u.2.1),())))else(zG [59] (zk e.2.1)).bind λf=>if f.1=true then some (.inr (⟨40,[],0,[],[],[]⟩,(zk f.2.1),()))else(zG [118,97,114] (zk f.2.1)).bind λg=>if g.1=true then(b.zcG (zk g.2.1)).bind λau=>(match au with| .inl v=>some (.inl (v.1,(zk v.2.1),()))| .inr y=>(zbF (zk y.2.1)).bind λav=>(match av with| .inl z=>some (.inl (z.1,(zk z.2.1),()))| .inr aw=>some (.inr ((zA y.1),(zk aw.1),()))))else(zG [105,102] (zk g.2.1)).bind λh=>if h.1=true then(b.zdi (zk h.2.1)).bind λax=>(match ax with| .inl A=>some (.inl (A.1,(zk A.2.1),()))| .inr B=>some (.inr ((zA B.1),(zk B.2.1),())))else(zG [119,104,105,108,101] (zk h.2.1)).bind λi=>if i.1=true then(b.zbG (zk i.2.1)).bind λay=>(match ay with| .inl C=>some (.inl (C.1,(zk C.2.1),()))| .inr D=>(b.zbi (zk D.2.1)).bind λaz=>(match az with| .inl E=>some (.inl (E.1,(zk E.2.1),()))| .inr H=>some (.inr (⟨27,[],0,[],[],[(zA D.1),(zA H.1)]⟩,(zk H.2.1),()))))else(zG [100,111] (zk i.2.1)).bind λj=>if j.1=true then(b.zbi (zk j.2.1)).bind λa0=>(match a0 with| .inl I=>some (.inl (I.1,(zk I.2.1),()))| .inr J=>(zac [119,104,105,108,101] (zk J.2.1)).bind λa1=>(match a1 with| .inl K=>some (.inl (K.1,(zk K.2.1),()))| .inr a2=>(b.zbG (zk a2.1)).bind λa3=>(match a3 with| .inl L=>some (.inl (L.1,(zk L.2.1),()))| .inr M=>(zbF (zk M.2.1)).bind λa4=>(match a4 with| .inl N=>some (.inl (N.1,(zk N.2.1),()))| .inr a5=>some (.inr (⟨28,[],0,[],[],[(zA J.1),(zA M.1)]⟩,(zk a5.1),()))))))else(zG [102,111,114] (zk j.2.1)).bind λk=>if k.1=true then(b.zdU (zk k.2.1)).bind λa6=>(match a6 with| .inl O=>some (.inl (O.1,(zk O.2.1),()))| .inr P=>some (.inr ((zA P.1),(zk P.2.1),())))else(zG [98,114,101,97,107] (zk k.2.1)).bind λl=>if l.1=true then(zgs 31 (zk l.2.1)).bind λa7=>(match a7 with| .inl Q=>some (.inl (Q.1,(zk Q.2.1),()))| .inr R=>some (.inr ((zA R.1),(zk R.2.1),())))else(zG [99,111,110,116,105,110,117,101] (zk l.2.1)).bind λm=>if m.1=true then(zgs 32 (zk m.2.1)).bind λa8=>(match a8 with| .inl S=>some (.inl (S.1,(zk S.2.1),()))| .inr U=>some (.inr ((zA U.1),(zk U.2.1),())))else(zG [114,101,116,117,114,110] (zk m.2.1)).bind λn=>if n.1=true then(za6 [59] (zk n.2.1)).bind λo=>if(!o.1)=true then(zeA (zk o.2.1)).bind λp=>if(!p.1)=true then(b.zau (zk p.2.1)).bind λa9=>(match a9 with| .inl V=>(zbF (zk V.2.1)).bind λba=>(match ba with| .inl W=>some (.inl (W.1,(zk W.2.1),()))| .inr bb=>some (.inr (⟨33,[],0,[],[],[(zA V.1)]⟩,(zk bb.1),())))| .inr X=>some (.inl (X.1,(zk X.2.1),())))else(zbF (zk p.2.1)).bind λbc=>(match bc with| .inl Z=>some (.inl (Z.1,(zk Z.2.1),()))| .inr bd=>some (.inr (⟨33,[],0,[],[],[]⟩,(zk bd.1),())))else(zbF (zk o.2.1)).bind λbe=>(match be with| .inl aa=>some (.inl (aa.1,(zk aa.2.1),()))| .inr bf=>some (.inr (⟨33,[],0,[],[],[]⟩,(zk bf.1),())))else(zG [116,104,114,111,119] (zk n.2.1)).bind λd=>if d.1=true then(zN d.2.1.t 0).bind λbg=>if bg.Fresh=true then(zaP (zk d.2.1)).bind λab=>some (.inl (ab.1,(zk ab.2.1),()))else(b.zau (zk d.2.1)).bind λbh=>(match bh with| .inl ac=>(zbF (zk ac.2.1)).bind λbi=>(match bi with| .inl ad=>some (.inl (ad.1,(zk ad.2.1),()))| .inr bj=>some (.inr (⟨34,[],0,[],[],[(zA ac.1)]⟩,(zk bj.1),())))| .inr ae=>some (.inl (ae.1,(zk ae.2.1),())))else(zG [116,114,121] (zk d.2.1)).bind λq=>if q.1=true then(b.zep (zk q.2.1)).bind λbk=>(match bk with| .inl af=>some (.inl (af.1,(zk af.2.1),()))| .inr ag=>some (.inr ((zA ag.1),(zk ag.2.1),())))else(zG [115,119,105,116,99,104] (zk q.2.1)).bind λr=>if r.1=true then(b.zdH (zk r.2.1)).bind λbl=>(match bl with| .inl ah=>some (.inl (ah.1,(zk ah.2.1),()))| .inr ai=>some (.inr ((zA ai.1),(zk ai.2.1),())))else(za6 [102,117,110,99,116,105,111,110] (zk r.2.1)).bind λc=>if c.1=true then(zaP (zk c.2.1)).bind λaj=>some (.inl (aj.1,(zk aj.2.1),()))else(zN c.2.1.t 0).bind λbm=>(if(bm.Kind==1)=true then(zN c.2.1.t 1).bind λbn=>some (bn.Kind==5)else some false).bind λbo=>(if bo=true then(zN c.2.1.t 1).bind λbp=>some (bp.Text==[58])else some false).bind λbq=>if bq=true then(zdf (zk c.2.1)).bind λbr=>(match br with| .inl ak=>some (.inl (ak.1,(zk ak.2.1),()))| .inr al=>(zav (zk al.2.1)).bind λbs=>(b.zbu (zk bs.2.1)).bind λbt=>(match bt with| .inl am=>some (.inl (am.1,(zk am.2.1),()))| .inr an=>some (.inr (⟨38,al.1,0,[],[],[(zA an.1)]⟩,(zk an.2.1),()))))else(b.zau (zk c.2.1)).bind λbu=>(match bu with| .inl ao=>(zbF (zk ao.2.1)).bind λbv=>(match bv with| .inl ap=>some (.inl (ap.1,(zk ap.2.1),()))| .inr bw=>some (.inr (⟨24,[],0,[],[],[(zA ao.1)]⟩,(zk bw.1),())))| .inr aq=>some (.inl (aq.1,(zk aq.2.1),())))
def zyf(b:zf):=callee Y [] zyc zn6 (λz=>zhA b z.1)
theorem zus(d:zf)(b:zF d):K8 38 (zyf d):=f8 zyP Tryz.func38 (.cons zcr (.cons b.zbA (.cons zaz (.cons b.zcG (.cons zob (.cons b.zdi (.cons b.zbG (.cons b.zbi (.cons zaK (.cons b.zdU (.cons zv4 (.cons zmP (.cons b.zau (.cons zaY (.cons b.zep (.cons b.zdH (.cons ze7 (.cons zbI (.cons b.zbu .nil))))))))))))))))))) trivial
def zgC(k:zf)(x:zh):za8:=(zac [123] (zk x)).bind λe=>(match e with| .inl a=>some (.inl (a.1,(zk a.2.1),()))| .inr f=>(k.zbn false [125] (zk f.1)).bind λg=>(match g with| .inl b=>(zac [125] (zk b.2.1)).bind λh=>(match h with| .inl c=>some (.inl (c.1,(zk c.2.1),()))| .inr i=>some (.inr (⟨25,[],0,[],[],b.1⟩,(zk i.1),())))| .inr d=>some (.inl (d.1,(zk d.2.1),()))))
def zwN(b:zf):=callee Y [] zyc zn6 (λz=>zgC b z.1)
theorem zs6(b:zf)(d:zF b):K8 82 (zwN b):=f8 zyP Tryz.func82 (.cons zaK (.cons d.zbn .nil)) trivial
def zjo(p:zf)(h:zh)(i:Int)(j:Str)(k:Int)(l:Str)(b:Int)(c:Str)(d:Int)(e:Str)(m:List Str)(n:List zg)(f:List Str)(g:List zg):OT2:=(zG [44] (zk h)).bind λa=>if(!a.1)=true then some (.inr (.inr (⟨b,c,d,e,f,g⟩,(zk a.2.1),())))else some (.inl ((zk a.2.1),i,j,k,l,b,c,d,e,m,n,f,g,()))
def zeY(v:zf)(h:zh)(i:Int)(j:Str)(k:Int)(l:Str)(m:Int)(n:Str)(o:Int)(p:Str)(a:Int)(b:Str)(c:Int)(d:Str)(q:List Str)(r:List zg)(s:List Str)(e:List zg)(f:List Str)(g:List zg):OT2:=(room (e.length+([⟨a,b,c,d,f,g⟩]:List zg).length)).bind λ_=>let t:=e++[⟨a,b,c,d,f,g⟩];zjo v (zk h) i j k l m n o p q r s t
def zeM(d:zf):zh×Int×Str×Int×Str×Int×Str×Int×Str×(List Str)×(List zg)×(List Str)×(List zg)×Unit->OT2| (t,e,f,g,h,i,j,k,l,m,n,o,p,())=>(zdf (zk t)).bind λu=>(match u with| .inl q=>some (.inr (.inl (q.1,(zk q.2.1),())))| .inr a=>(zG [61] (zk a.2.1)).bind λb=>if b.1=true then(d.zay (zk b.2.1)).bind λv=>(match v with| .inl r=>zeY d (zk r.2.1) e f g h i j k l 23 a.1 0 [] m n o p [] [(zA r.1)]| .inr s=>some (.inr (.inl (s.1,(zk s.2.1),()))))else zeY d (zk b.2.1) e f g h i j k l 23 a.1 0 [] m n o p [] [])
def zhk(b:zf)(x:zh):za8:=Lp.loop (zeM b) ((zk x),0,[],0,[],22,[],0,[],[],[],[],[],())
def zyD(b:zf):=callee Y [] zyc zn6 (λz=>zhk b z.1)
def zyB(b:zf):zZ Y (zQ Y zn6):=(.loop [[7,5,2,2],[8,5,2,2],[6,2,2]] ⟨[(0,.ptr 0 0),(2,.ptr 1 0),(3,.ptr 2 0)],zhM⟩ (zeM b) (.join [[1,2,2,5,7,5,2,2],[2,2,2,5,7,5,2,2],[6,7,5,2,2],[8,5,2,2],[6,2,2]] ⟨[(0,.ptr 0 0),(2,.ptr 1 0),(3,.ptr 2 0),(4,.ptr 3 0)],om6⟩ (u19 (zeY b)) (.join [[1,2,2,2,5,7,5,2,2],[2,2,2,2,5,7,5,2,2],[6,7,5,2,2],[8,5,2,2],[6,2,2]] ⟨[(0,.ptr 0 0),(2,.ptr 1 0),(3,.ptr 2 0)],zhM⟩ (u13 (zjo b)) .nil)) .nil)
theorem zuh(b:zf)(d:zF b):K8 83 (zyD b):=f8 (zyB b) Tryz.func83 (.cons ze7 (.cons zaz (.cons d.zay .nil))) ⟨λz=>by kernel_rfl,⟨λz=>by kernel_rfl,⟨λz=>by kernel_rfl,⟨⟩⟩⟩,trivial⟩
def zga(c:zf)(x:zh):ziq:=(c.zce 3 (zk x)).bind λp=>(match p with| .inl f=>some (.inr (f.1,(zk f.2.1),()))| .inr a=>(zG [63] (zk a.2.1)).bind λd=>if d.1=true then(c.zcA (zk d.2.1) 0 [] 0 [] [] []).bind λq=>(match q with| .inl g=>(zac [58] (zk g.1)).bind λr=>(match r with| .inl h=>some (.inr (h.1,(zk h.2.1),()))| .inr s=>(c.zay (zk s.1)).bind λt=>(match t with| .inl i=>some (.inl (⟨19,[],0,[],[],[(zA a.1),(zA g.2.1),(zA i.1)]⟩,(zk i.2.1),()))| .inr j=>some (.inr (j.1,(zk j.2.1),()))))| .inr k=>some (.inr (k.1,(zk k.2.1),())))else(zbl [32,61,32,43,61,32,45,61,32,42,61,32,47,61,32,37,61,32] (zk d.2.1)).bind λe=>if(!e.1)=true then some (.inl ((zA a.1),(zk e.2.1),()))else(zd7 (zA a.1) (zk e.2.1)).bind λu=>(match u with| .inl l=>some (.inr (l.1,(zk l.2.1),()))| .inr v=>(zav (zk v.1)).bind λm=>(c.zay (zk m.2.1)).bind λy=>(match y with| .inl n=>some (.inl (⟨20,m.1.Text,0,[],[],[(zA a.1),(zA n.1)]⟩,(zk n.2.1),()))| .inr o=>some (.inr (o.1,(zk o.2.1),())))))
def zuX(b:zf):=callee Y [] zyc ziU (λz=>zga b z.1)
def zuT:zZ Y (zQ Y ziU):= .nil
theorem zsp(b:zf)(d:zF b):K8 134 (zuX b):=f8 zuT Tryz.func134 ((.cons d.zce (.cons zaz (.cons (COk.laid d.zcA) (.cons zaK (.cons d.zay (.cons zf9 (.cons zlR (.cons zbI .nil)))))))):zcC hY Tryz.prog zam [(166,(zmq b)),(36,(zh1)),(80,(zho Y [⟨[(0,.ptr 0 0),(1,.fn 133 [.ptr 1 0,.ptr 2 0,.ptr 3 0,.ptr 8 0])],om3⟩,⟨[(0,.ptr 0 0),(1,.fn 81 [.ptr 1 0,.ptr 2 0])],zb6⟩,⟨[(0,.ptr 0 0),(1,.fn 241 [.ptr 1 0,.ptr 2 0])],zb6⟩,⟨[(0,.ptr 0 0),(1,.fn 133 [.ptr 1 0,.ptr 2 0,.ptr 3 0,.ptr 7 0])],om5⟩,⟨[(0,.ptr 0 0),(1,.fn 133 [.ptr 1 0,.ptr 2 0,.ptr 3 0,.ptr 8 0])],om1⟩,⟨[(0,.ptr 0 0),(1,.fn 222 [.ptr 1 0,.ptr 2 0])],zb6⟩,⟨[(0,.ptr 0 0),(1,.fn 167 [.ptr 1 0,.ptr 2 0])],zb6⟩] (zkJ b))),(77,(zfF)),(134,(zmw b)),(136,(znH)),(168,(zms)),(75,(zjU))]) trivial
def zed(r:zf):Int×zh×Int×Str×Int×Str×zg×(List Str)×(List zg)×Unit->Option ((Int×zh×Int×Str×Int×Str×zg×(List Str)×(List zg)×Unit)⊕((zad×zh×Unit)⊕(zg×zh×Unit)))| (b,g,h,i,j,k,c,l,m,())=>(zgv (zk g)).bind λa=>let n:=((decide (a.1<b))||(a.1==0));if n=true then some (.inr (.inr ((zA c),(zk a.2.2.1),())))else(zav (zk a.2.2.1)).bind λd=>let o:=(IntKind.wrap .i64 (a.1+1));fd ((r.zce o (zk d.2.1)).bind λp=>(match p with| .inl e=>some (.inr (.inl (e.1,(zk e.2.1),())))| .inr f=>some (.inl (b,(zk f.2.1),h,i,j,k,⟨a.2.1,d.1.Text,0,[],[],[(zA c),(zA f.1)]⟩,l,m,()))))
def zf4(d:zf)(f:Int)(x:zh):za8:=(d.zb5 (zk x)).bind λe=>(match e with| .inl a=>Lp.loop (zed d) (f,(zk a.2.1),0,[],0,[],(zA a.1),[],[],())| .inr b=>some (.inl (b.1,(zk b.2.1),())))
def zvg(b:zf):=callee Y [] zyw zn6 (u2 (zf4 b))
def zu6(b:zf):zZ Y (zQ Y zn6):=(.loop [[7,5,2,2],[8,5,2,2],[6,2,2]] ⟨[(0,.ptr 0 0),(1,.int .i64),(4,.ptr 1 0),(5,.ptr 2 0)],zLO⟩ (zed b) .nil .nil)
theorem zsz(b:zf)(d:zF b):K8 166 (zvg b):=f8 (zu6 b) Tryz.func166 (.cons d.zb5 (.cons zte (.cons zbI (.cons d.zce .nil)))) ⟨λz=>by kernel_rfl,trivial,trivial⟩
def zgw(d:zf)(x:zh):ziq:=(zbl [32,45,32,43,32,33,32,116,121,112,101,111,102,32,100,101,108,101,116,101,32,118,111,105,100,32] (zk x)).bind λe=>if e.1=true then(zav (zk e.2.1)).bind λh=>(d.zb5 (zk h.2.1)).bind λs=>(match s with| .inl i=>some (.inl (⟨15,h.1.Text,0,[],[],[(zA i.1)]⟩,(zk i.2.1),()))| .inr j=>some (.inr (j.1,(zk j.2.1),())))else(zbl [32,43,43,32,45,45,32] (zk e.2.1)).bind λf=>if f.1=true then(zav (zk f.2.1)).bind λk=>(d.zb5 (zk k.2.1)).bind λu=>(match u with| .inl g=>(zd7 (zA g.1) (zk g.2.1)).bind λv=>(match v with| .inl l=>some (.inr (l.1,(zk l.2.1),()))| .inr y=>some (.inl (⟨16,k.1.Text,1,[],[],[(zA g.1)]⟩,(zk y.1),())))| .inr m=>some (.inr (m.1,(zk m.2.1),())))else(d.zcH (zk f.2.1)).bind λz=>(match z with| .inl n=>(d.zb3 (zA n.1) true (zk n.2.1)).bind λA=>(match A with| .inl o=>some (.inr (o.1,(zk o.2.1),()))| .inr a=>(zbl [32,43,43,32,45,45,32] (zk a.2.1)).bind λb=>(if(!b.1)=true then some true else(zN b.2.1.t 0).bind λB=>some B.Fresh).bind λC=>if C=true then some (.inl ((zA a.1),(zk b.2.1),()))else(zd7 (zA a.1) (zk b.2.1)).bind λD=>(match D with| .inl p=>some (.inr (p.1,(zk p.2.1),()))| .inr E=>fd ((zav (zk E.1)).bind λq=>some (.inl (⟨16,q.1.Text,0,[],[],[(zA a.1)]⟩,(zk q.2.1),())))))| .inr r=>some (.inr (r.1,(zk r.2.1),())))
def zxd(b:zf):=callee Y [] zyc ziU (λz=>zgw b z.1)
theorem ztb(c:zf)(d:zF c):K8 189 (zxd c):=f8 zuT Tryz.func189 (.cons zf9 (.cons zbI (.cons d.zb5 (.cons zlR (.cons d.zcH (.cons d.zb3 .nil)))))) trivial
def zhq(c:zf)(x:zh):ziq:=(zG [110,101,119] (zk x)).bind λd=>if(!d.1)=true then(c.zc1 (zk d.2.1)).bind λm=>(match m with| .inl g=>some (.inl ((zA g.1),(zk g.2.1),()))| .inr h=>some (.inr (h.1,(zk h.2.1),())))else(c.zcH (zk d.2.1)).bind λn=>(match n with| .inl i=>(c.zb3 (zA i.1) false (zk i.2.1)).bind λo=>(match o with| .inl j=>some (.inr (j.1,(zk j.2.1),()))| .inr a=>(zG [40] (zk a.2.1)).bind λe=>if e.1=true then fd ((c.zbz [41] false (zk e.2.1)).bind λp=>(match p with| .inl f=>(room (([(zA a.1)]:List zg).length+f.1.length)).bind λ_=>let q:=[(zA a.1)]++f.1;some (.inl (⟨14,[],0,[],[],q⟩,(zk f.2.1),()))| .inr k=>some (.inr (k.1,(zk k.2.1),()))))else some (.inl (⟨14,[],0,[],[],[(zA a.1)]⟩,(zk e.2.1),())))| .inr l=>some (.inr (l.1,(zk l.2.1),())))
def zyH(b:zf):=callee Y [] zyc ziU (λz=>zhq b z.1)
theorem zuB(d:zf)(b:zF d):K8 211 (zyH d):=f8 zuT Tryz.func211 (.cons zaz (.cons b.zc1 (.cons b.zcH (.cons b.zb3 (.cons b.zbz .nil))))) trivial
def zfQ(i:zf)(x:zh):ziq:=(zN x.t 0).bind λa=>if(a.Kind==1)=true then(zav (zk x)).bind λd=>some (.inl (⟨3,a.Text,0,[],[],[]⟩,(zk d.2.1),()))else if(a.Kind==3)=true then(zav (zk x)).bind λe=>some (.inl (⟨1,[],a.Num,[],[],[]⟩,(zk e.2.1),()))else if(a.Kind==4)=true then(zav (zk x)).bind λf=>some (.inl (⟨2,[],0,a.Text,[],[]⟩,(zk f.2.1),()))else(i.zdX (zk x)).bind λg=>(match g with| .inl b=>some (.inl ((zA b.1),(zk b.2.1),()))| .inr c=>some (.inr (c.1,(zk c.2.1),())))
def ztQ(b:zf):=callee Y [] zyc ziU (λz=>zfQ b z.1)
theorem zqO(b:zf)(d:zF b):K8 224 (ztQ b):=f8 zuT Tryz.func224 (.cons zbI (.cons d.zdX .nil)) trivial
def zhz(c:zf)(x:zh):ziq:=(zG [116,104,105,115] (zk x)).bind λd=>if d.1=true then some (.inl (⟨4,[],0,[],[],[]⟩,(zk d.2.1),()))else(zG [110,117,108,108] (zk d.2.1)).bind λe=>if e.1=true then some (.inl (⟨5,[],0,[],[],[]⟩,(zk e.2.1),()))else(zG [102,97,108,115,101] (zk e.2.1)).bind λf=>if f.1=true then some (.inl (⟨6,[],0,[],[],[]⟩,(zk f.2.1),()))else(zG [116,114,117,101] (zk f.2.1)).bind λg=>if g.1=true then some (.inl (⟨6,[],1,[],[],[]⟩,(zk g.2.1),()))else(zG [102,117,110,99,116,105,111,110] (zk g.2.1)).bind λh=>if h.1=true then(c.zbQ 10 (zk h.2.1)).bind λu=>(match u with| .inl l=>some (.inr (l.1,(zk l.2.1),()))| .inr m=>some (.inl ((zA m.1),(zk m.2.1),())))else(zG [40] (zk h.2.1)).bind λi=>if i.1=true then(c.zcy (zk i.2.1) 0 [] 0 [] [] []).bind λv=>(match v with| .inl n=>(zac [41] (zk n.1)).bind λy=>(match y with| .inl o=>some (.inr (o.1,(zk o.2.1),()))| .inr z=>some (.inl ((zA n.2.1),(zk z.1),())))| .inr p=>some (.inr (p.1,(zk p.2.1),())))else(zG [91] (zk i.2.1)).bind λj=>if j.1=true then(c.zbz [93] true (zk j.2.1)).bind λA=>(match A with| .inl q=>some (.inl (⟨7,[],0,[],[],q.1⟩,(zk q.2.1),()))| .inr r=>some (.inr (r.1,(zk r.2.1),())))else(zG [123] (zk j.2.1)).bind λk=>if k.1=true then(c.zc0 [125] true (zk k.2.1) 8 [] 0 [] [] []).bind λB=>(match B with| .inl s=>some (.inr (s.1,(zk s.2.1),()))| .inr a=>some (.inl (⟨a.2.1,a.2.2.1,a.2.2.2.1,a.2.2.2.2.1,a.2.2.2.2.2.1,a.2.2.2.2.2.2.1⟩,(zk a.1),())))else(zaP (zk k.2.1)).bind λt=>some (.inr (t.1,(zk t.2.1),()))
def zyi(b:zf):=callee Y [] zyc ziU (λz=>zhz b z.1)
theorem zuD(b:zf)(d:zF b):K8 237 (zyi b):=f8 zuT Tryz.func237 ((.cons zaz (.cons d.zbQ (.cons (COk.laid d.zcy) (.cons zaK (.cons d.zbz (.cons (COk.laid d.zc0) (.cons zaY .nil))))))):zcC hY Tryz.prog zam [(36,(zh1)),(37,(zlz b)),(80,(zho Y [⟨[(0,.ptr 0 0),(1,.fn 133 [.ptr 1 0,.ptr 2 0,.ptr 3 0,.ptr 8 0])],om3⟩,⟨[(0,.ptr 0 0),(1,.fn 81 [.ptr 1 0,.ptr 2 0])],zb6⟩,⟨[(0,.ptr 0 0),(1,.fn 241 [.ptr 1 0,.ptr 2 0])],zb6⟩,⟨[(0,.ptr 0 0),(1,.fn 133 [.ptr 1 0,.ptr 2 0,.ptr 3 0,.ptr 7 0])],om5⟩,⟨[(0,.ptr 0 0),(1,.fn 133 [.ptr 1 0,.ptr 2 0,.ptr 3 0,.ptr 8 0])],om1⟩,⟨[(0,.ptr 0 0),(1,.fn 222 [.ptr 1 0,.ptr 2 0])],zb6⟩,⟨[(0,.ptr 0 0),(1,.fn 167 [.ptr 1 0,.ptr 2 0])],zb6⟩] (zk3 b))),(77,(zfF)),(223,(zi3 b)),(78,(zho Y [⟨[(0,.ptr 0 0),(1,.str),(2,.bool),(3,.fn 79 [.ptr 1 0,.ptr 2 0])],zb6⟩,⟨[(0,.ptr 0 0),(1,.str),(2,.bool),(3,.fn 236 [.ptr 1 0,.ptr 2 0])],zD1⟩,⟨[(0,.ptr 0 0),(1,.str),(2,.bool),(3,.fn 242 [.ptr 1 0,.ptr 2 0])],zb6⟩] (zlP b))),(21,(zfG))]) trivial
def zeL(j:zf)(x:zh)(e:Int)(f:Str)(g:Int)(h:Str)(l:List Str)(i:List zg):OT6:=(j.zd4 ⟨x.t,false⟩ e f g h l i).bind λc=>(match c with| .inl b=>some (.inl (⟨b.1.t,x.no⟩,(zA b.2.1),b.2.2.1,b.2.2.2.1,()))| .inr a=>some (.inr (a.1,(zk a.2.1),a.2.2.1,a.2.2.2.1,a.2.2.2.2.1,a.2.2.2.2.2.1,a.2.2.2.2.2.2.1,a.2.2.2.2.2.2.2.1,())))
def zrN(b:zf):=callee Y [] zkR zhf (u7 (zeL b))
def zsx:zZ Y (zQ Y zhf):= .nil
theorem zpl(b:zf)(d:zF b):K8 80 (zrN b):=f8 zsx Tryz.func80 (.cons d.zd4 .nil) trivial
def zf3(j:zf)(x:zh)(f:Int)(g:Str)(h:Int)(i:Str)(l:List Str)(c:List zg):OT6:=(j.zau (zk x)).bind λd=>(match d with| .inl a=>some (.inl ((zk a.2.1),(zA a.1),l,c,()))| .inr b=>some (.inr (b.1,(zk b.2.1),f,g,h,i,l,c,())))
def zvb(b:zf):=callee Y [] zqU ziI (u7 (zf3 b))
def zuO:zZ Y (zQ Y ziI):= .nil
theorem zsC(b:zf)(d:zF b):K8 241 (zvb b):=f8 zuO Tryz.func241 (.cons d.zau .nil) trivial
def zeR(n:zf):zh×Int×Str×Int×Str×zg×(List Str)×(List zg)×Unit->Option ((zh×Int×Str×Int×Str×zg×(List Str)×(List zg)×Unit)⊕((zg×zh×Unit)⊕(zad×zh×Unit)))| (e,f,g,h,i,b,j,k,())=>(zG [44] (zk e)).bind λa=>if a.1=true then fd ((n.zay (zk a.2.1)).bind λl=>(match l with| .inl c=>some (.inl ((zk c.2.1),f,g,h,i,⟨21,[],0,[],[],[(zA b),(zA c.1)]⟩,j,k,()))| .inr d=>some (.inr (.inr (d.1,(zk d.2.1),())))))else some (.inr (.inl ((zA b),(zk a.2.1),())))
def zhy(d:zf)(x:zh):ziq:=(d.zay (zk x)).bind λe=>(match e with| .inl a=>Lp.loop (zeR d) ((zk a.2.1),0,[],0,[],(zA a.1),[],[],())| .inr b=>some (.inr (b.1,(zk b.2.1),())))
def zyF(b:zf):=callee Y [] zyc ziU (λz=>zhy b z.1)
def zyz(b:zf):zZ Y (zQ Y ziU):=(.loop [[7,5,1,2,2],[8,5,1,2,2],[6,1,2,2],[2,2,2]] ⟨[(0,.ptr 0 0),(2,.ptr 1 0),(3,.ptr 2 0)],zLO⟩ (zeR b) .nil .nil)
theorem ztY(b:zf)(d:zF b):K8 91 (zyF b):=f8 (zyz b) Tryz.func91 (.cons d.zay (.cons zaz .nil)) ⟨λz=>by kernel_rfl,trivial,trivial⟩
def zgG(g:zf)(e:Str)(f:Bool)(x:zh):zDV:=(g.zdM e f (zk x) []).bind λc=>(match c with| .inl a=>some (.inl (a.2.1,(zk a.1),()))| .inr b=>some (.inr (b.1,(zk b.2.1),())))
def zwJ(b:zf):=callee Y [] znF zjg (u3 (zgG b))
def zwf:zZ Y (zQ Y zjg):= .nil
theorem zsD(b:zf)(d:zF b):K8 223 (zwJ b):=f8 zwf Tryz.func223 ((.cons (COk.laid d.zdM) .nil):zcC hY Tryz.prog zam [(78,(zho Y [⟨[(0,.ptr 0 0),(1,.str),(2,.bool),(3,.fn 79 [.ptr 1 0,.ptr 2 0])],zb6⟩,⟨[(0,.ptr 0 0),(1,.str),(2,.bool),(3,.fn 236 [.ptr 1 0,.ptr 2 0])],zD1⟩,⟨[(0,.ptr 0 0),(1,.str),(2,.bool),(3,.fn 242 [.ptr 1 0,.ptr 2 0])],zb6⟩] (zlX b)))]) trivial
def zeg(g:zf)(e:Str)(f:Bool)(x:zh)(l:List zg):zEd:=(g.zdd (zk x) e l f).bind λc=>(match c with| .inl b=>some (.inl ((zk b.1),b.2.2.1,()))| .inr a=>some (.inr (a.1,(zk a.2.1),a.2.2.2.1,())))
def zue(b:zf):=callee Y [] zl0 zil (u4 (zeg b))
def ztJ:zZ Y (zQ Y zil):= .nil
theorem zqo(b:zf)(d:zF b):K8 78 (zue b):=f8 ztJ Tryz.func78 ((.cons (COk.laid d.zdd) .nil):zcC hY Tryz.prog zam [(80,(zho Y [⟨[(0,.ptr 0 0),(1,.fn 133 [.ptr 1 0,.ptr 2 0,.ptr 3 0,.ptr 8 0])],om3⟩,⟨[(0,.ptr 0 0),(1,.fn 81 [.ptr 1 0,.ptr 2 0])],zb6⟩,⟨[(0,.ptr 0 0),(1,.fn 241 [.ptr 1 0,.ptr 2 0])],zb6⟩,⟨[(0,.ptr 0 0),(1,.fn 133 [.ptr 1 0,.ptr 2 0,.ptr 3 0,.ptr 7 0])],om5⟩,⟨[(0,.ptr 0 0),(1,.fn 133 [.ptr 1 0,.ptr 2 0,.ptr 3 0,.ptr 8 0])],om1⟩,⟨[(0,.ptr 0 0),(1,.fn 222 [.ptr 1 0,.ptr 2 0])],zb6⟩,⟨[(0,.ptr 0 0),(1,.fn 167 [.ptr 1 0,.ptr 2 0])],zb6⟩] (zkB b)))]) trivial
def zeZ(g:zf)(x:zh)(a:Str)(l:List zg)(f:Bool):OT8:=(g.zda ⟨x.t,false⟩ a l f).bind λd=>(match d with| .inl c=>some (.inl (⟨c.1.t,x.no⟩,c.2.1,c.2.2.1,c.2.2.2.1,()))| .inr b=>some (.inr (b.1,(zk b.2.1),b.2.2.1,b.2.2.2.1,b.2.2.2.2.1,())))
def zst(b:zf):=callee Y [] zkN zg4 (u4 (zeZ b))
def zrz:zZ Y (zQ Y zg4):= .nil
theorem zpw(b:zf)(d:zF b):K8 80 (zst b):=f8 zrz Tryz.func80 ((.cons (COk.laid d.zda) .nil):zcC hY Tryz.prog zam [(133,(zho Y [⟨[(0,.ptr 0 0),(1,.ptr 2 0),(2,.ptr 3 0),(3,.ptr 8 0)],om2⟩,⟨[(0,.ptr 0 0),(1,.ptr 2 0),(2,.ptr 3 0),(3,.ptr 7 0)],om4⟩,⟨[(0,.ptr 0 0),(1,.ptr 2 0),(2,.ptr 3 0),(3,.ptr 8 0)],om0⟩] (zk6 b)))]) trivial
def zds(p:zf):zh×Str×(List zg)×Bool×Unit->Option ((zh×Str×(List zg)×Bool×Unit)⊕((zh×Str×(List zg)×Bool×Unit)⊕(zad×zh×Str×(List zg)×Bool×Unit)))| (l,a,h,b,())=>(zG a (zk l)).bind λd=>if(!d.1)=true then(p.zcW (zk d.2.1) h).bind λm=>(match m with| .inl c=>(zG a (zk c.1)).bind λe=>if e.1=true then some (.inr (.inl ((zk e.2.1),a,c.2.1,b,())))else(zac [44] (zk e.2.1)).bind λn=>(match n with| .inl i=>some (.inr (.inr (i.1,(zk i.2.1),a,c.2.1,b,())))| .inr j=>if(!b)=true then(za6 a (zk j.1)).bind λf=>if f.1=true then(zaP (zk f.2.1)).bind λk=>some (.inr (.inr (k.1,(zk k.2.1),a,c.2.1,b,())))else some (.inl ((zk f.2.1),a,c.2.1,b,()))else some (.inl ((zk j.1),a,c.2.1,b,())))| .inr g=>some (.inr (.inr (g.1,(zk g.2.1),a,g.2.2.1,b,()))))else some (.inr (.inl ((zk d.2.1),a,h,b,())))
def zeW(d:zf)(x:zh)(a:Str)(l:List zg)(c:Bool):OT8:=Lp.loop (zds d) ((zk x),a,l,c,())
def zsb(b:zf):=callee Y [] zkH zgZ (u4 (zeW b))
def zrW(b:zf):zZ Y (zQ Y zgZ):=(.loop [[7,5],[8,5],[6]] ⟨[(0,.ptr 0 0),(1,.ptr 2 0),(2,.ptr 3 0),(3,.ptr 7 0)],om4⟩ (zds b) .nil .nil)
theorem zpo(b:zf)(d:zF b):K8 133 (zsb b):=f8 (zrW b) Tryz.func133 (.cons zaz (.cons d.zcW (.cons zaK (.cons zcr (.cons zaY .nil))))) ⟨λz=>by kernel_rfl,trivial,trivial⟩
def zfO(k:zf)(x:zh)(l:List zg):zEd:=(k.zay (zk x)).bind λe=>(match e with| .inl a=>fk (fd ((room (l.length+([⟨0,[],0,[],[],[]⟩]:List zg).length)).bind λ_=>let b:=l++[⟨0,[],0,[],[],[]⟩];fk ((zN b ((l.length:Nat):Int)).bind λ_=>fd ((zN b ((l.length:Nat):Int)).bind λm=>let f:=b.set ((l.length:Nat):Int).toNat (zA a.1);some (.inl ((zk a.2.1),f,())))) ((zN b ((l.length:Nat):Int)).bind λ_=>(zN b ((l.length:Nat):Int)).bind λn=>let g:=b.set ((l.length:Nat):Int).toNat (zA a.1);some (.inl ((zk a.2.1),g,()))))) ((room (l.length+([⟨0,[],0,[],[],[]⟩]:List zg).length)).bind λ_=>let c:=l++[⟨0,[],0,[],[],[]⟩];fk ((zN c ((l.length:Nat):Int)).bind λ_=>fd ((zN c ((l.length:Nat):Int)).bind λo=>let h:=c.set ((l.length:Nat):Int).toNat (zA a.1);some (.inl ((zk a.2.1),h,())))) ((zN c ((l.length:Nat):Int)).bind λ_=>(zN c ((l.length:Nat):Int)).bind λp=>let i:=c.set ((l.length:Nat):Int).toNat (zA a.1);some (.inl ((zk a.2.1),i,()))))| .inr d=>some (.inr (d.1,(zk d.2.1),l,())))
def ztF(b:zf):=callee Y [] zlM zij (u2 (zfO b))
def zuj:zZ Y (zQ Y zij):= .nil
theorem zqY(b:zf)(d:zF b):K8 236 (ztF b):=f8 zuj Tryz.func236 (.cons d.zay .nil) trivial
def zfS(m:zf)(e:Str)(f:Bool)(x:zh)(g:Int)(h:Str)(i:Int)(j:Str)(l:List Str)(k:List zg):OT5:=(m.zc7 (zk x) e g h i j l k f).bind λc=>(match c with| .inl a=>some (.inl (a.1,(zk a.2.1),a.2.2.2.1,a.2.2.2.2.1,a.2.2.2.2.2.1,a.2.2.2.2.2.2.1,a.2.2.2.2.2.2.2.1,a.2.2.2.2.2.2.2.2.1,()))| .inr b=>some (.inr ((zk b.1),b.2.2.1,b.2.2.2.1,b.2.2.2.2.1,b.2.2.2.2.2.1,b.2.2.2.2.2.2.1,b.2.2.2.2.2.2.2.1,())))
def zur(b:zf):=callee Y [] zlV zog (u9 (zfS b))
theorem zql(b:zf)(d:zF b):K8 78 (zur b):=f8 zyy Tryz.func78 ((.cons (COk.laid d.zc7) .nil):zcC hY Tryz.prog zam [(80,(zho Y [⟨[(0,.ptr 0 0),(1,.fn 133 [.ptr 1 0,.ptr 2 0,.ptr 3 0,.ptr 8 0])],om3⟩,⟨[(0,.ptr 0 0),(1,.fn 81 [.ptr 1 0,.ptr 2 0])],zb6⟩,⟨[(0,.ptr 0 0),(1,.fn 241 [.ptr 1 0,.ptr 2 0])],zb6⟩,⟨[(0,.ptr 0 0),(1,.fn 133 [.ptr 1 0,.ptr 2 0,.ptr 3 0,.ptr 7 0])],om5⟩,⟨[(0,.ptr 0 0),(1,.fn 133 [.ptr 1 0,.ptr 2 0,.ptr 3 0,.ptr 8 0])],om1⟩,⟨[(0,.ptr 0 0),(1,.fn 222 [.ptr 1 0,.ptr 2 0])],zb6⟩,⟨[(0,.ptr 0 0),(1,.fn 167 [.ptr 1 0,.ptr 2 0])],zb6⟩] (zky b)))]) trivial
def zeN(m:zf)(x:zh)(a:Str)(f:Int)(g:Str)(h:Int)(i:Str)(l:List Str)(j:List zg)(k:Bool):OT3:=(m.zdb ⟨x.t,false⟩ a f g h i l j k).bind λd=>(match d with| .inl b=>some (.inl (b.1,(zk b.2.1),b.2.2.1,b.2.2.2.1,b.2.2.2.2.1,b.2.2.2.2.2.1,b.2.2.2.2.2.2.1,b.2.2.2.2.2.2.2.1,b.2.2.2.2.2.2.2.2.1,b.2.2.2.2.2.2.2.2.2.1,()))| .inr c=>some (.inr (⟨c.1.t,x.no⟩,c.2.1,c.2.2.1,c.2.2.2.1,c.2.2.2.2.1,c.2.2.2.2.2.1,c.2.2.2.2.2.2.1,c.2.2.2.2.2.2.2.1,c.2.2.2.2.2.2.2.2.1,())))
def zrq(b:zf):=callee Y [] zkO zg6 (u9 (zeN b))
def zrX:zZ Y (zQ Y zg6):= .nil
theorem zph(b:zf)(d:zF b):K8 80 (zrq b):=f8 zrX Tryz.func80 ((.cons (COk.laid d.zdb) .nil):zcC hY Tryz.prog zam [(133,(zho Y [⟨[(0,.ptr 0 0),(1,.ptr 2 0),(2,.ptr 3 0),(3,.ptr 8 0)],om2⟩,⟨[(0,.ptr 0 0),(1,.ptr 2 0),(2,.ptr 3 0),(3,.ptr 7 0)],om4⟩,⟨[(0,.ptr 0 0),(1,.ptr 2 0),(2,.ptr 3 0),(3,.ptr 8 0)],om0⟩] (zkF b)))]) trivial
def zdt(u:zf):zh×Str×Int×Str×Int×Str×(List Str)×(List zg)×Bool×Unit->OT0| (q,b,h,i,j,k,l,m,c,())=>(zG b (zk q)).bind λe=>if(!e.1)=true then(u.zdg (zk e.2.1) h i j k l m).bind λr=>(match r with| .inl d=>some (.inr (.inl (d.1,(zk d.2.1),b,d.2.2.1,d.2.2.2.1,d.2.2.2.2.1,d.2.2.2.2.2.1,d.2.2.2.2.2.2.1,d.2.2.2.2.2.2.2.1,c,())))| .inr a=>(zG b (zk a.1)).bind λf=>if f.1=true then some (.inr (.inr ((zk f.2.1),b,a.2.1,a.2.2.1,a.2.2.2.1,a.2.2.2.2.1,a.2.2.2.2.2.1,a.2.2.2.2.2.2.1,c,())))else(zac [44] (zk f.2.1)).bind λs=>(match s with| .inl n=>some (.inr (.inl (n.1,(zk n.2.1),b,a.2.1,a.2.2.1,a.2.2.2.1,a.2.2.2.2.1,a.2.2.2.2.2.1,a.2.2.2.2.2.2.1,c,())))| .inr o=>if(!c)=true then(za6 b (zk o.1)).bind λg=>if g.1=true then(zaP (zk g.2.1)).bind λp=>some (.inr (.inl (p.1,(zk p.2.1),b,a.2.1,a.2.2.1,a.2.2.2.1,a.2.2.2.2.1,a.2.2.2.2.2.1,a.2.2.2.2.2.2.1,c,())))else some (.inl ((zk g.2.1),b,a.2.1,a.2.2.1,a.2.2.2.1,a.2.2.2.2.1,a.2.2.2.2.2.1,a.2.2.2.2.2.2.1,c,()))else some (.inl ((zk o.1),b,a.2.1,a.2.2.1,a.2.2.2.1,a.2.2.2.2.1,a.2.2.2.2.2.1,a.2.2.2.2.2.2.1,c,()))))else some (.inr (.inr ((zk e.2.1),b,h,i,j,k,l,m,c,())))
def ze5(i:zf)(x:zh)(a:Str)(c:Int)(d:Str)(e:Int)(f:Str)(l:List Str)(g:List zg)(h:Bool):OT3:=Lp.loop (zdt i) ((zk x),a,c,d,e,f,l,g,h,())
def zss(b:zf):=callee Y [] zk8 zg2 (u9 (ze5 b))
def zrx(b:zf):zZ Y (zQ Y zg2):=(.loop [[7,5],[8,5],[6]] ⟨[(0,.ptr 0 0),(1,.ptr 2 0),(2,.ptr 3 0),(3,.ptr 8 0)],om0⟩ (zdt b) .nil .nil)
theorem zpv(b:zf)(d:zF b):K8 133 (zss b):=f8 (zrx b) Tryz.func133 (.cons zaz (.cons d.zdg (.cons zaK (.cons zcr (.cons zaY .nil))))) ⟨λz=>by kernel_rfl,trivial,trivial⟩
def zf5(y:zf)(x:zh)(c:Int)(d:Str)(e:Int)(f:Str)(l:List Str)(a:List zg):OT5:=(zi6 (zk x)).bind λn=>(match n with| .inl i=>(zac [58] (zk i.2.1)).bind λo=>(match o with| .inl j=>some (.inl (j.1,(zk j.2.1),c,d,e,f,l,a,()))| .inr p=>(y.zay (zk p.1)).bind λq=>(match q with| .inl b=>fk (fd ((room (a.length+([⟨0,[],0,[],[],[]⟩]:List zg).length)).bind λ_=>let g:=a++[⟨0,[],0,[],[],[]⟩];fk ((zN g ((a.length:Nat):Int)).bind λ_=>fd ((zN g ((a.length:Nat):Int)).bind λz=>let r:=g.set ((a.length:Nat):Int).toNat ⟨9,[],0,i.1,[],[(zA b.1)]⟩;some (.inr ((zk b.2.1),c,d,e,f,l,r,())))) ((zN g ((a.length:Nat):Int)).bind λ_=>(zN g ((a.length:Nat):Int)).bind λA=>let s:=g.set ((a.length:Nat):Int).toNat ⟨9,[],0,i.1,[],[(zA b.1)]⟩;some (.inr ((zk b.2.1),c,d,e,f,l,s,()))))) ((room (a.length+([⟨0,[],0,[],[],[]⟩]:List zg).length)).bind λ_=>let h:=a++[⟨0,[],0,[],[],[]⟩];fk ((zN h ((a.length:Nat):Int)).bind λ_=>fd ((zN h ((a.length:Nat):Int)).bind λB=>let t:=h.set ((a.length:Nat):Int).toNat ⟨9,[],0,i.1,[],[(zA b.1)]⟩;some (.inr ((zk b.2.1),c,d,e,f,l,t,())))) ((zN h ((a.length:Nat):Int)).bind λ_=>(zN h ((a.length:Nat):Int)).bind λC=>let u:=h.set ((a.length:Nat):Int).toNat ⟨9,[],0,i.1,[],[(zA b.1)]⟩;some (.inr ((zk b.2.1),c,d,e,f,l,u,()))))| .inr k=>some (.inl (k.1,(zk k.2.1),c,d,e,f,l,a,()))))| .inr m=>some (.inl (m.1,(zk m.2.1),c,d,e,f,l,a,())))
def zvw(b:zf):=callee Y [] zqU zkq (u7 (zf5 b))
theorem zrl(b:zf)(d:zF b):K8 242 (zvw b):=f8 zqx Tryz.func242 (.cons zyd (.cons zaK (.cons d.zay .nil))) trivial
def zdQ(o:zf):Bool×zh×zg×Int×Str×Int×Str×(List Str)×(List zg)×Unit->Option ((Bool×zh×zg×Int×Str×Int×Str×(List Str)×(List zg)×Unit)⊕((zad×zh×Unit)⊕(zg×zh×Unit)))| (c,z,a,d,e,f,g,h,i,())=>(zG [46] (zk z)).bind λb=>if b.1=true then(zN b.2.1.t 0).bind λA=>(if(A.Kind !=1)=true then(zN b.2.1.t 0).bind λB=>some (B.Kind !=2)else some false).bind λC=>if C=true then(zaP (zk b.2.1)).bind λp=>some (.inr (.inl (p.1,(zk p.2.1),())))else fk ((zav (zk b.2.1)).bind λq=>some (.inl (c,(zk q.2.1),⟨11,q.1.Text,0,[],[],[(zA a)]⟩,d,e,f,g,h,i,()))) (fd ((zav (zk b.2.1)).bind λr=>some (.inl (c,(zk r.2.1),⟨11,r.1.Text,0,[],[],[(zA a)]⟩,d,e,f,g,h,i,()))))else(zG [91] (zk b.2.1)).bind λj=>if j.1=true then(o.zcz (zk j.2.1) 0 [] 0 [] [] []).bind λD=>(match D with| .inl s=>(zac [93] (zk s.1)).bind λE=>(match E with| .inl u=>some (.inr (.inl (u.1,(zk u.2.1),())))| .inr H=>some (.inl (c,(zk H.1),⟨12,[],0,[],[],[(zA a),(zA s.2.1)]⟩,d,e,f,g,h,i,())))| .inr v=>some (.inr (.inl (v.1,(zk v.2.1),()))))else if c=true then(zG [40] (zk j.2.1)).bind λk=>if k.1=true then fk (fd ((o.zbz [41] false (zk k.2.1)).bind λI=>(match I with| .inl l=>(room (([(zA a)]:List zg).length+l.1.length)).bind λ_=>let J:=[(zA a)]++l.1;some (.inl (c,(zk l.2.1),⟨13,[],0,[],[],J⟩,d,e,f,g,h,i,()))| .inr x=>some (.inr (.inl (x.1,(zk x.2.1),())))))) ((o.zbz [41] false (zk k.2.1)).bind λK=>(match K with| .inl m=>(room (([(zA a)]:List zg).length+m.1.length)).bind λ_=>let L:=[(zA a)]++m.1;some (.inl (c,(zk m.2.1),⟨13,[],0,[],[],L⟩,d,e,f,g,h,i,()))| .inr y=>some (.inr (.inl (y.1,(zk y.2.1),())))))else some (.inr (.inr ((zA a),(zk k.2.1),())))else some (.inr (.inr ((zA a),(zk j.2.1),())))
def zfU(c:zf)(n:zg)(b:Bool)(x:zh):za8:=Lp.loop (zdQ c) (b,(zk x),(zA n),0,[],0,[],[],[],())
def ztC(b:zf):=callee Y [] zlT zn6 (u3 (zfU b))
def zuA(b:zf):zZ Y (zQ Y zn6):=(.loop [[7,5,2],[8,5,2],[6,2]] ⟨[(2,.bool),(3,.ptr 1 0),(4,.ptr 2 0),(6,.ptr 3 0)],[.whole 48 48,.cells 46 [.ptr 0 0],.whole 25 25,oc0 4 5,.arr 9,.arr 25]⟩ (zdQ b) .nil .nil)
theorem zqZ(b:zf)(d:zF b):K8 210 (ztC b):=f8 (zuA b) Tryz.func210 ((.cons zaz (.cons zaY (.cons zbI (.cons (COk.laid d.zcz) (.cons zaK (.cons d.zbz .nil)))))):zcC hY Tryz.prog zam [(36,(zh1)),(21,(zfG)),(75,(zjU)),(80,(zho Y [⟨[(0,.ptr 0 0),(1,.fn 133 [.ptr 1 0,.ptr 2 0,.ptr 3 0,.ptr 8 0])],om3⟩,⟨[(0,.ptr 0 0),(1,.fn 81 [.ptr 1 0,.ptr 2 0])],zb6⟩,⟨[(0,.ptr 0 0),(1,.fn 241 [.ptr 1 0,.ptr 2 0])],zb6⟩,⟨[(0,.ptr 0 0),(1,.fn 133 [.ptr 1 0,.ptr 2 0,.ptr 3 0,.ptr 7 0])],om5⟩,⟨[(0,.ptr 0 0),(1,.fn 133 [.ptr 1 0,.ptr 2 0,.ptr 3 0,.ptr 8 0])],om1⟩,⟨[(0,.ptr 0 0),(1,.fn 222 [.ptr 1 0,.ptr 2 0])],zb6⟩,⟨[(0,.ptr 0 0),(1,.fn 167 [.ptr 1 0,.ptr 2 0])],zb6⟩] (zkS b))),(77,(zfF)),(223,(zi3 b))]) ⟨λz=>by kernel_rfl,trivial,trivial⟩
def zeV(j:zf)(x:zh)(e:Int)(f:Str)(g:Int)(h:Str)(l:List Str)(i:List zg):OT6:=(j.zc9 ⟨x.t,false⟩ e f g h l i).bind λc=>(match c with| .inl b=>some (.inl (⟨b.1.t,x.no⟩,(zA b.2.1),b.2.2.1,b.2.2.2.1,()))| .inr a=>some (.inr (a.1,(zk a.2.1),a.2.2.1,a.2.2.2.1,a.2.2.2.2.1,a.2.2.2.2.2.1,a.2.2.2.2.2.2.1,a.2.2.2.2.2.2.2.1,())))
def zrT(b:zf):=callee Y [] zkA zhf (u7 (zeV b))
theorem zpu(b:zf)(d:zF b):K8 80 (zrT b):=f8 zsx Tryz.func80 (.cons d.zc9 .nil) trivial
def ze1(j:zf)(x:zh)(f:Int)(g:Str)(h:Int)(i:Str)(l:List Str)(c:List zg):OT6:=(j.zau (zk x)).bind λd=>(match d with| .inl a=>some (.inl ((zk a.2.1),(zA a.1),l,c,()))| .inr b=>some (.inr (b.1,(zk b.2.1),f,g,h,i,l,c,())))
def zrr(b:zf):=callee Y [] zqU ziI (u7 (ze1 b))
theorem zo5(b:zf)(d:zF b):K8 222 (zrr b):=f8 zuO Tryz.func222 (.cons d.zau .nil) trivial
def zfa(j:zf)(x:zh)(e:Int)(f:Str)(g:Int)(h:Str)(l:List Str)(i:List zg):OT6:=(j.zdx ⟨x.t,false⟩ e f g h l i).bind λc=>(match c with| .inl b=>some (.inl (⟨b.1.t,x.no⟩,(zA b.2.1),b.2.2.1,b.2.2.2.1,()))| .inr a=>some (.inr (a.1,(zk a.2.1),a.2.2.1,a.2.2.2.1,a.2.2.2.2.1,a.2.2.2.2.2.1,a.2.2.2.2.2.2.1,a.2.2.2.2.2.2.2.1,())))
def zsc(b:zf):=callee Y [] zlf zhf (u7 (zfa b))
theorem zpg(b:zf)(d:zF b):K8 80 (zsc b):=f8 zsx Tryz.func80 (.cons d.zdx .nil) trivial
def zfp(j:zf)(x:zh)(f:Int)(g:Str)(h:Int)(i:Str)(l:List Str)(c:List zg):OT6:=(j.zay (zk x)).bind λd=>(match d with| .inl a=>some (.inl ((zk a.2.1),(zA a.1),l,c,()))| .inr b=>some (.inr (b.1,(zk b.2.1),f,g,h,i,l,c,())))
def zsL(b:zf):=callee Y [] zqU ziI (u7 (zfp b))
theorem zpT(b:zf)(d:zF b):K8 167 (zsL b):=f8 zuO Tryz.func167 (.cons d.zay .nil) trivial
def zid(q:zf)(c:zh)(j:Int)(k:Str)(l:Int)(m:Str)(d:Int)(e:Str)(f:Int)(g:Str)(a:zg)(n:List Str)(o:List zg)(h:List Str)(b:List zg):za8:=(room (b.length+([(zA a)]:List zg).length)).bind λ_=>let i:=b++[(zA a)];some (.inr (⟨d,e,f,g,h,i⟩,(zk c),()))
def zii(d:zf)(e:zh)(f:Int)(g:Str)(h:Int)(i:Str)(j:Int)(k:Str)(l:Int)(m:Str)(n:List Str)(o:List zg)(p:List Str)(q:List zg):za8:=(d.zbi (zk e)).bind λr=>(match r with| .inl a=>some (.inl (a.1,(zk a.2.1),()))| .inr b=>zid d (zk b.2.1) f g h i j k l m (zA b.1) n o p q)
def zfT(p:zf)(h:zh)(i:Int)(j:Str)(k:Int)(l:Str)(b:Int)(c:Str)(d:Int)(e:Str)(m:List Str)(n:List zg)(f:List Str)(g:List zg):za8:=(zG [101,108,115,101] (zk h)).bind λa=>if a.1=true then zii p (zk a.2.1) i j k l b c d e m n f g else some (.inr (⟨b,c,d,e,f,g⟩,(zk a.2.1),()))
def zf6(b:zf)(x:zh):za8:=(b.zbG (zk x)).bind λi=>(match i with| .inl d=>some (.inl (d.1,(zk d.2.1),()))| .inr c=>fk ((b.zbi (zk c.2.1)).bind λj=>(match j with| .inl e=>some (.inl (e.1,(zk e.2.1),()))| .inr f=>fd (zfT b (zk f.2.1) 0 [] 0 [] 26 [] 0 [] [] [] [] [(zA c.1),(zA f.1)]))) ((b.zbi (zk c.2.1)).bind λk=>(match k with| .inl g=>some (.inl (g.1,(zk g.2.1),()))| .inr h=>zfT b (zk h.2.1) 0 [] 0 [] 26 [] 0 [] [] [] [] [(zA c.1),(zA h.1)])))
def zva(b:zf):=callee Y [] zyc zn6 (λz=>zf6 b z.1)
def zvc(b:zf):zZ Y (zQ Y zn6):=(.join [[1,1,2,2,2],[2,1,2,2,2],[2,2,2,2]] ⟨[(0,.ptr 0 0),(2,.ptr 1 0),(4,.ptr 2 0)],zhM⟩ (u13 (zfT b)) (.join [[1,3,2,1,2,2,2],[2,3,2,1,2,2,2],[2,2,2,2]] ⟨[(0,.ptr 0 0),(2,.ptr 1 0),(4,.ptr 2 0)],zhM⟩ (u13 (zii b)) (.join [[2,3,2,1,2,2,2],[2,2,2,2]] ⟨[(2,.ptr 1 0),(4,.ptr 2 0),(5,.ptr 3 0)],om8⟩ (u14 (zid b)) .nil)))
theorem zsr(b:zf)(d:zF b):K8 85 (zva b):=f8 (zvc b) Tryz.func85 (.cons d.zbG (.cons d.zbi (.cons zaz .nil))) ⟨λz=>by kernel_rfl,⟨λz=>by kernel_rfl,⟨λz=>by kernel_rfl,⟨⟩⟩⟩⟩
def zhs(k:zf)(x:zh):za8:=(zac [40] (zk x)).bind λe=>(match e with| .inl a=>some (.inl (a.1,(zk a.2.1),()))| .inr f=>(k.zau (zk f.1)).bind λg=>(match g with| .inl b=>(zac [41] (zk b.2.1)).bind λh=>(match h with| .inl c=>some (.inl (c.1,(zk c.2.1),()))| .inr i=>some (.inr ((zA b.1),(zk i.1),())))| .inr d=>some (.inl (d.1,(zk d.2.1),()))))
def zyr(b:zf):=callee Y [] zyc zn6 (λz=>zhs b z.1)
theorem zun(b:zf)(d:zF b):K8 86 (zyr b):=f8 zyP Tryz.func86 (.cons zaK (.cons d.zau .nil)) trivial
def zhv(e:zf)(x:zh):za8:=(e.zbu (zk x)).bind λc=>(match c with| .inl b=>some (.inl (b.1,(zk b.2.1),()))| .inr a=>if(a.1.Kind !=25)=true then some (.inr (⟨25,[],0,[],[],[(zA a.1)]⟩,(zk a.2.1),()))else some (.inr ((zA a.1),(zk a.2.1),())))
def zxW(b:zf):=callee Y [] zyc zn6 (λz=>zhv b z.1)
theorem ztN(b:zf)(d:zF b):K8 87 (zxW b):=f8 zyP Tryz.func87 (.cons d.zbu .nil) trivial
def zeB(m:zf)(d:zh)(n:Int)(o:Str)(p:Int)(q:Str)(e:Int)(f:Str)(g:Int)(h:Str)(r:List Str)(s:List zg)(i:List Str)(b:List zg):za8:=(m.zbi (zk d)).bind λj=>(match j with| .inl c=>some (.inl (c.1,(zk c.2.1),()))| .inr a=>(room (b.length+([(zA a.1)]:List zg).length)).bind λ_=>let k:=b++[(zA a.1)];some (.inr (⟨e,f,g,h,i,k⟩,(zk a.2.1),())))
def ziS(r:zf)(d:zh)(e:Int)(f:Str)(g:Int)(h:Str)(i:Int)(j:Str)(k:Int)(l:Str)(a:zg)(b:zg)(m:List Str)(n:List zg)(o:List Str)(c:List zg):za8:=(room (c.length+([(zA a),(zA b)]:List zg).length)).bind λ_=>let p:=c++[(zA a),(zA b)];zeB r (zk d) e f g h i j k l m n o p
def ziV(d:zf)(e:zh)(f:Int)(g:Str)(h:Int)(i:Str)(j:Int)(k:Str)(l:Int)(m:Str)(n:zg)(o:List Str)(p:List zg)(q:List Str)(r:List zg):za8:=(d.zcP [41] (zk e)).bind λs=>(match s with| .inl a=>ziS d (zk a.2.1) f g h i j k l m (zA n) (zA a.1) o p q r| .inr b=>some (.inl (b.1,(zk b.2.1),())))
def zjs(d:zf)(e:zh)(f:Int)(g:Str)(h:Int)(i:Str)(j:Int)(k:Str)(l:Int)(m:Str)(n:List Str)(o:List zg)(p:List Str)(q:List zg):za8:=(d.zcP [59] (zk e)).bind λr=>(match r with| .inl a=>ziV d (zk a.2.1) f g h i j k l m (zA a.1) n o p q| .inr b=>some (.inl (b.1,(zk b.2.1),())))
def zeQ(r:zf)(b:zh)(c:Int)(d:Str)(e:Int)(f:Str)(g:Int)(h:Str)(i:Int)(j:Str)(k:List Str)(l:List zg)(m:List Str)(n:List zg):za8:=(zac [59] (zk b)).bind λo=>(match o with| .inl a=>some (.inl (a.1,(zk a.2.1),()))| .inr p=>zjs r (zk p.1) c d e f g h i j k l m n)
def zi7(r:zf)(b:zh)(c:Int)(d:Str)(e:Int)(f:Str)(g:Int)(h:Str)(i:Int)(j:Str)(k:List Str)(l:List zg)(m:List Str)(n:List zg):za8:=(zac [41] (zk b)).bind λo=>(match o with| .inl a=>some (.inl (a.1,(zk a.2.1),()))| .inr p=>zeB r (zk p.1) c d e f g h i j k l m n)
def zjj(q:zf)(c:zh)(d:Int)(e:Str)(f:Int)(g:Str)(h:Int)(i:Str)(j:Int)(k:Str)(a:zg)(l:List Str)(m:List zg)(n:List Str)(b:List zg):za8:=(room (b.length+([(zA a)]:List zg).length)).bind λ_=>let o:=b++[(zA a)];zi7 q (zk c) d e f g h i j k l m n o
def zjf(d:zf)(e:zh)(f:Int)(g:Str)(h:Int)(i:Str)(j:Int)(k:Str)(l:Int)(m:Str)(n:List Str)(o:List zg)(p:List Str)(q:List zg):za8:=(d.zau (zk e)).bind λr=>(match r with| .inl a=>zjj d (zk a.2.1) f g h i j k l m (zA a.1) n o p q| .inr b=>some (.inl (b.1,(zk b.2.1),())))
def zjh(n:zf)(a:zh)(b:Int)(c:Str)(d:Int)(e:Str)(o:Int)(f:Str)(g:Int)(h:Str)(i:List Str)(j:List zg)(k:List Str)(l:List zg):za8:=zjf n (zk a) b c d e 30 f g h i j k l
def ze0(o:zf)(q:Bool)(p:zh)(a:Int)(b:Str)(c:Int)(d:Str)(e:Int)(f:Str)(g:Int)(h:Str)(i:List Str)(j:List zg)(k:List Str)(l:List zg):za8:=if q=true then(zG [105,110] (zk p)).bind λm=>if m.1=true then zjh o (zk m.2.1) a b c d e f g h i j k l else zeQ o (zk m.2.1) a b c d e f g h i j k l else zeQ o (zk p) a b c d e f g h i j k l
def zi0(k:zf)(a:Bool)(b:zh)(c:Int)(d:Str)(e:Int)(f:Str)(g:zg)(h:List Str)(i:List zg):za8:=ze0 k a (zk b) c d e f 29 [] 0 [] h i [] [(zA g)]
def ze9(k:zf)(a:Bool)(b:zh)(c:Int)(d:Str)(e:Int)(f:Str)(g:zg)(h:List Str)(i:List zg):za8:=zi0 k a ⟨b.t,false⟩ c d e f (zA g) h i
def zhh(b:zf)(x:zh):za8:=(zac [40] (zk x)).bind λj=>(match j with| .inl g=>some (.inl (g.1,(zk g.2.1),()))| .inr k=>(zG [118,97,114] ⟨k.1.t,true⟩).bind λd=>if d.1=true then(b.zcG (zk d.2.1)).bind λl=>(match l with| .inl h=>some (.inl (h.1,(zk h.2.1),()))| .inr c=>let m:=((c.1.L.length:Nat):Int);(if(m==1)=true then(zN c.1.L 0).bind λn=>let o:=((n.L.length:Nat):Int);some (o==0)else some false).bind λp=>ze9 b p (zk c.2.1) 0 [] 0 [] (zA c.1) [] [])else(za6 [59] (zk d.2.1)).bind λe=>if(!e.1)=true then(b.zau (zk e.2.1)).bind λq=>(match q with| .inl f=>(zff (zA f.1)).bind λr=>ze9 b r.1 (zk f.2.1) 0 [] 0 [] (zA f.1) [] []| .inr i=>some (.inl (i.1,(zk i.2.1),())))else ze9 b false (zk e.2.1) 0 [] 0 [] ⟨42,[],0,[],[],[]⟩ [] [])
def zyJ(b:zf):=callee Y [] zyc zn6 (λz=>zhh b z.1)
def zys(b:zf):zZ Y (zQ Y zn6):=(.join [[1,2,2,2,2,2],[2,2,2,2,2,2]] ⟨[(0,.ptr 0 0),(2,.ptr 1 0),(3,.ptr 2 0),(4,.bool)],zLO⟩ (u9 (ze9 b)) (.join [[1,2,2,2,2,2,2],[2,2,2,2,2,2,2]] ⟨[(0,.ptr 0 0),(2,.ptr 1 0),(3,.ptr 2 0),(4,.bool)],zLO⟩ (u9 (zi0 b)) (.join [[1,1,2,2,2,2,2,2,2],[2,1,2,2,2,2,2,2,2],[2,2,2,2,2,2,2,2]] ⟨[(0,.ptr 0 0),(2,.ptr 1 0),(4,.bool),(5,.ptr 2 0)],zhM⟩ (u14 (ze0 b)) (.join [[1,3,2,1,2,2,2,2,2,2,2],[2,3,2,1,2,2,2,2,2,2,2],[2,2,2,2,2,2,2,2]] ⟨[(0,.ptr 0 0),(2,.ptr 1 0),(5,.ptr 2 0)],zhM⟩ (u13 (zjh b)) (.join [[1,2,3,2,1,2,2,2,2,2,2,2],[2,2,3,2,1,2,2,2,2,2,2,2],[2,2,2,2,2,2,2,2]] ⟨[(0,.ptr 0 0),(2,.ptr 1 0),(5,.ptr 2 0)],zhM⟩ (u13 (zjf b)) (.join [[1,2,2,3,2,1,2,2,2,2,2,2,2],[2,2,2,3,2,1,2,2,2,2,2,2,2],[2,2,2,2,2,2,2,2]] ⟨[(0,.ptr 0 0),(2,.ptr 1 0),(5,.ptr 2 0),(6,.ptr 3 0)],om8⟩ (u14 (zjj b)) (.join [[2,2,2,3,2,1,2,2,2,2,2,2,2],[2,2,2,2,2,2,2,2]] ⟨[(0,.ptr 0 0),(2,.ptr 1 0),(5,.ptr 2 0)],zhM⟩ (u13 (zi7 b)) (.join [[1,4,2,1,2,2,2,2,2,2,2],[2,4,2,1,2,2,2,2,2,2,2],[2,2,2,2,2,2,2,2]] ⟨[(0,.ptr 0 0),(2,.ptr 1 0),(5,.ptr 2 0)],zhM⟩ (u13 (zeQ b)) (.join [[1,2,4,2,1,2,2,2,2,2,2,2],[2,2,4,2,1,2,2,2,2,2,2,2],[2,2,2,2,2,2,2,2]] ⟨[(0,.ptr 0 0),(2,.ptr 1 0),(5,.ptr 2 0)],zhM⟩ (u13 (zjs b)) (.join [[1,2,2,4,2,1,2,2,2,2,2,2,2],[2,2,2,4,2,1,2,2,2,2,2,2,2],[2,2,2,2,2,2,2,2]] ⟨[(0,.ptr 0 0),(2,.ptr 1 0),(5,.ptr 2 0),(7,.ptr 3 0)],om8⟩ (u14 (ziV b)) (.join [[2,2,2,4,2,1,2,2,2,2,2,2,2],[2,2,2,2,2,2,2,2]] ⟨[(0,.ptr 0 0),(2,.ptr 1 0),(5,.ptr 2 0),(7,.ptr 3 0),(8,.ptr 4 0)],[.whole 48 48,oc0 5 6,oc0 7 8,.whole 25 25,.whole 25 25,.arr 9,.arr 25,.arr 9,.arr 25]⟩ (u15 (ziS b)) (.join [[1,2,2,2,2,2,2,2,2],[2,2,2,2,2,2,2,2,2]] ⟨[(0,.ptr 0 0),(2,.ptr 1 0),(5,.ptr 2 0)],zhM⟩ (u13 (zeB b)) .nil))))))))))))
theorem zua(d:zf)(b:zF d):K8 88 (zyJ d):=f8 (zys d) Tryz.func88 (.cons zaK (.cons zaz (.cons b.zcG (.cons zcr (.cons b.zau (.cons zml (.cons b.zcP (.cons b.zbi .nil)))))))) ⟨λz=>by kernel_rfl,⟨λz=>by kernel_rfl,⟨λz=>by kernel_rfl,⟨λz=>by kernel_rfl,⟨λz=>by kernel_rfl,⟨λz=>by kernel_rfl,⟨λz=>by kernel_rfl,⟨λz=>by kernel_rfl,⟨λz=>by kernel_rfl,⟨λz=>by kernel_rfl,⟨λz=>by kernel_rfl,⟨λz=>by kernel_rfl,⟨⟩⟩⟩⟩⟩⟩⟩⟩⟩⟩⟩⟩⟩
def zgL(i:zf)(s:Str)(x:zh):ziq:=(zG s (zk x)).bind λa=>if a.1=true then some (.inl (⟨42,[],0,[],[],[]⟩,(zk a.2.1),()))else(i.zau (zk a.2.1)).bind λe=>(match e with| .inl b=>(zac s (zk b.2.1)).bind λf=>(match f with| .inl c=>some (.inr (c.1,(zk c.2.1),()))| .inr g=>some (.inl ((zA b.1),(zk g.1),())))| .inr d=>some (.inr (d.1,(zk d.2.1),())))
def zwI(b:zf):=callee Y [] zA5 ziU (u2 (zgL b))
theorem zsK(b:zf)(d:zF b):K8 135 (zwI b):=f8 zuT Tryz.func135 (.cons zaz (.cons d.zau (.cons zaK .nil))) trivial
def zgH(o:zf)(a:zh)(h:Int)(i:Str)(j:Int)(k:Str)(b:Int)(c:Str)(d:Int)(e:Str)(l:List Str)(m:List zg)(f:List Str)(g:List zg):za8:=some (.inr (⟨b,c,d,e,f,g⟩,(zk a),()))
def zkb(q:zf)(c:Bool)(a:zh)(d:Int)(e:Str)(f:Int)(g:Str)(h:Int)(i:Str)(j:Int)(k:Str)(l:List Str)(m:List zg)(n:List Str)(o:List zg):za8:=if(!c)=true then(zaP (zk a)).bind λb=>some (.inl (b.1,(zk b.2.1),()))else zgH q (zk a) d e f g h i j k l m n o
def zj4(e:zf)(f:zh)(g:Int)(h:Str)(i:Int)(j:Str)(k:Int)(l:Str)(m:Int)(n:Str)(o:List Str)(p:List zg)(q:List Str)(a:List zg):za8:=(e.zbA (zk f)).bind λr=>(match r with| .inl b=>some (.inl (b.1,(zk b.2.1),()))| .inr c=>(zN a 2).bind λ_=>(zN a 2).bind λt=>let s:=a.set (2:Int).toNat (zA c.1);zgH e (zk c.2.1) g h i j k l m n o p q s)
def zfC(o:zf)(p:Bool)(q:zh)(b:Int)(c:Str)(d:Int)(e:Str)(f:Int)(g:Str)(h:Int)(i:Str)(j:List Str)(k:List zg)(l:List Str)(m:List zg):za8:=(zG [102,105,110,97,108,108,121] (zk q)).bind λa=>if a.1=true then zj4 o (zk a.2.1) b c d e f g h i j k l m else zkb o p (zk a.2.1) b c d e f g h i j k l m
def zjW(e:zf)(f:Bool)(g:zh)(h:Int)(i:Str)(j:Int)(k:Str)(l:Int)(m:Str)(n:Int)(o:Str)(p:List Str)(q:List zg)(r:List Str)(a:List zg):za8:=(e.zbA (zk g)).bind λs=>(match s with| .inl b=>some (.inl (b.1,(zk b.2.1),()))| .inr c=>(zN a 1).bind λ_=>(zN a 1).bind λu=>let t:=a.set (1:Int).toNat (zA c.1);zfC e f (zk c.2.1) h i j k l m n o p q r t)
def zj5(s:zf)(b:Bool)(c:zh)(d:Int)(e:Str)(f:Int)(g:Str)(h:Int)(i:Str)(j:Int)(k:Str)(l:List Str)(m:List zg)(n:List Str)(o:List zg):za8:=(zac [41] (zk c)).bind λp=>(match p with| .inl a=>some (.inl (a.1,(zk a.2.1),()))| .inr q=>zjW s b (zk q.1) d e f g h i j k l m n o)
def zjV(r:zf)(c:Bool)(d:zh)(e:Int)(f:Str)(g:Int)(h:Str)(i:Int)(s:Str)(j:Int)(k:Str)(l:List Str)(m:List zg)(n:List Str)(o:List zg):za8:=(zdf (zk d)).bind λp=>(match p with| .inl a=>some (.inl (a.1,(zk a.2.1),()))| .inr b=>zj5 r c (zk b.2.1) e f g h i b.1 j k l m n o)
def zjZ(s:zf)(b:Bool)(c:zh)(d:Int)(e:Str)(f:Int)(g:Str)(h:Int)(i:Str)(j:Int)(k:Str)(l:List Str)(m:List zg)(n:List Str)(o:List zg):za8:=(zac [40] (zk c)).bind λp=>(match p with| .inl a=>some (.inl (a.1,(zk a.2.1),()))| .inr q=>zjV s b (zk q.1) d e f g h i j k l m n o)
def zj2(p:zf)(a:Bool)(b:zh)(c:Int)(d:Str)(e:Int)(f:Str)(g:Int)(h:Str)(i:Int)(j:Str)(k:List Str)(l:List zg)(m:List Str)(n:List zg):za8:=if a=true then zjZ p a (zk b) c d e f g h i j k l m n else zfC p a (zk b) c d e f g h i j k l m n
def zhj(p:zf)(b:zh)(c:Int)(d:Str)(e:Int)(f:Str)(g:Int)(h:Str)(i:Int)(j:Str)(k:List Str)(l:List zg)(m:List Str)(n:List zg):za8:=(zG [99,97,116,99,104] (zk b)).bind λa=>zj2 p a.1 (zk a.2.1) c d e f g h i j k l m n
def zh4(b:zf)(x:zh):za8:=fk ((b.zbA (zk x)).bind λg=>(match g with| .inl c=>some (.inl (c.1,(zk c.2.1),()))| .inr d=>fd (zhj b (zk d.2.1) 0 [] 0 [] 35 [] 0 [] [] [] [] [(zA d.1),⟨42,[],0,[],[],[]⟩,⟨42,[],0,[],[],[]⟩]))) ((b.zbA (zk x)).bind λh=>(match h with| .inl e=>some (.inl (e.1,(zk e.2.1),()))| .inr f=>zhj b (zk f.2.1) 0 [] 0 [] 35 [] 0 [] [] [] [] [(zA f.1),⟨42,[],0,[],[],[]⟩,⟨42,[],0,[],[],[]⟩]))
def zz8(b:zf):=callee Y [] zyc zn6 (λz=>zh4 b z.1)
def zzO(b:zf):zZ Y (zQ Y zn6):=(.join [[1,2,2,2],[2,2,2,2]] ⟨[(0,.ptr 0 0),(2,.ptr 1 0),(4,.ptr 2 0)],zhM⟩ (u13 (zhj b)) (.join [[1,1,2,2,2,2],[2,1,2,2,2,2],[2,2,2,2,2]] ⟨[(0,.ptr 0 0),(2,.ptr 1 0),(4,.ptr 2 0),(5,.bool)],zhM⟩ (u14 (zj2 b)) (.join [[1,3,2,1,2,2,2,2],[2,3,2,1,2,2,2,2],[2,2,2,2,2]] ⟨[(0,.ptr 0 0),(2,.ptr 1 0),(4,.ptr 2 0),(5,.bool)],zhM⟩ (u14 (zjZ b)) (.join [[1,2,3,2,1,2,2,2,2],[2,2,3,2,1,2,2,2,2],[2,2,2,2,2]] ⟨[(0,.ptr 0 0),(2,.ptr 1 0),(4,.ptr 2 0),(5,.bool)],zhM⟩ (u14 (zjV b)) (.join [[1,2,2,3,2,1,2,2,2,2],[2,2,2,3,2,1,2,2,2,2],[2,2,2,2,2]] ⟨[(0,.ptr 0 0),(2,.ptr 1 0),(4,.ptr 2 0),(5,.bool)],zhM⟩ (u14 (zj5 b)) (.join [[2,2,2,3,2,1,2,2,2,2],[2,2,2,2,2]] ⟨[(0,.ptr 0 0),(2,.ptr 1 0),(4,.ptr 2 0),(5,.bool)],zhM⟩ (u14 (zjW b)) (.join [[1,1,2,2,2,2,2],[2,1,2,2,2,2,2],[2,2,2,2,2,2]] ⟨[(0,.ptr 0 0),(2,.ptr 1 0),(4,.ptr 2 0),(5,.bool)],zhM⟩ (u14 (zfC b)) (.join [[3,2,1,2,2,2,2,2],[2,2,2,2,2,2]] ⟨[(0,.ptr 0 0),(2,.ptr 1 0),(4,.ptr 2 0)],zhM⟩ (u13 (zj4 b)) (.join [[1,4,2,1,2,2,2,2,2],[2,4,2,1,2,2,2,2,2],[2,2,2,2,2,2]] ⟨[(0,.ptr 0 0),(2,.ptr 1 0),(4,.ptr 2 0),(5,.bool)],zhM⟩ (u14 (zkb b)) (.join [[1,2,2,2,2,2,2],[2,2,2,2,2,2,2]] ⟨[(2,.ptr 1 0),(4,.ptr 2 0)],zhM⟩ (u13 (zgH b)) .nil))))))))))
theorem zvv(b:zf)(d:zF b):K8 92 (zz8 b):=f8 (zzO b) Tryz.func92 (.cons d.zbA (.cons zaz (.cons zaK (.cons ze7 (.cons zaY .nil))))) ⟨λz=>by kernel_rfl,⟨λz=>by kernel_rfl,⟨λz=>by kernel_rfl,⟨λz=>by kernel_rfl,⟨λz=>by kernel_rfl,⟨λz=>by kernel_rfl,⟨λz=>by kernel_rfl,⟨λz=>by kernel_rfl,⟨λz=>by kernel_rfl,⟨λz=>by kernel_rfl,⟨⟩⟩⟩⟩⟩⟩⟩⟩⟩⟩⟩
def zeu(H:zf):Bool×zh×Int×Str×Int×Str×Int×Str×Int×Str×Int×Str×Int×Str×(List Str)×(List zg)×(List Str)×(List zg)×(List Str)×(List zg)×Unit->Option ((Bool×zh×Int×Str×Int×Str×Int×Str×Int×Str×Int×Str×Int×Str×(List Str)×(List zg)×(List Str)×(List zg)×(List Str)×(List zg)×Unit)⊕((Bool×zh×Int×Str×Int×Str×Int×Str×Int×Str×(List Str)×(List zg)×(List Str)×(List zg)×Unit)⊕((zad×zh×Unit)⊕(zg×zh×Unit))))| (j,y,k,l,m,n,o,p,q,r,c,d,e,f,s,u,v,g,h,a,())=>(zbl [32,99,97,115,101,32,100,101,102,97,117,108,116,32,125,32] (zk y)).bind λb=>(if(!b.1)=true then(zN b.2.1.t 0).bind λz=>some (z.Kind !=0)else some false).bind λA=>if A=true then(H.zbu (zk b.2.1)).bind λB=>(match B with| .inl x=>some (.inr (.inr (.inl (x.1,(zk x.2.1),()))))| .inr i=>(room (a.length+([(zA i.1)]:List zg).length)).bind λ_=>let C:=a++[(zA i.1)];some (.inl (j,(zk i.2.1),k,l,m,n,o,p,q,r,c,d,e,f,s,u,v,g,h,C,())))else(room (g.length+([⟨c,d,e,f,h,a⟩]:List zg).length)).bind λ_=>let D:=g++[⟨c,d,e,f,h,a⟩];some (.inr (.inl (j,(zk b.2.1),k,l,m,n,o,p,q,r,s,u,v,D,())))
def zer(z:zf)(b:Bool)(c:zh)(d:Int)(e:Str)(f:Int)(g:Str)(h:Int)(i:Str)(j:Int)(k:Str)(l:Int)(m:Str)(n:Int)(o:Str)(p:List Str)(q:List zg)(r:List Str)(s:List zg)(t:List Str)(u:List zg):OT1:=(zac [58] (zk c)).bind λv=>(match v with| .inl a=>some (.inr (.inl (a.1,(zk a.2.1),())))| .inr x=>Lp.loop (zeu z) (b,(zk x.1),d,e,f,g,h,i,j,k,l,m,n,o,p,q,r,s,t,u,()))
def ziB(e:zf)(f:Bool)(g:zh)(h:Int)(i:Str)(j:Int)(k:Str)(l:Int)(m:Str)(n:Int)(o:Str)(p:Int)(q:Str)(r:Int)(s:Str)(t:List Str)(u:List zg)(v:List Str)(x:List zg)(y:List Str)(a:List zg):OT1:=(e.zau (zk g)).bind λz=>(match z with| .inl b=>(zN a 0).bind λ_=>(zN a 0).bind λB=>let A:=a.set (0:Int).toNat (zA b.1);zer e f (zk b.2.1) h i j k l m n o p q r s t u v x y A| .inr c=>some (.inr (.inl (c.1,(zk c.2.1),()))))
def zew(z:zf)(b:Bool)(c:zh)(d:Int)(e:Str)(f:Int)(g:Str)(h:Int)(i:Str)(j:Int)(k:Str)(l:Int)(m:Str)(n:Int)(o:Str)(p:List Str)(q:List zg)(r:List Str)(s:List zg)(t:List Str)(u:List zg):OT1:=(zac [99,97,115,101] (zk c)).bind λv=>(match v with| .inl a=>some (.inr (.inl (a.1,(zk a.2.1),())))| .inr x=>ziB z b (zk x.1) d e f g h i j k l m n o p q r s t u)
def zez(q:zf):Bool×zh×Int×Str×Int×Str×Int×Str×Int×Str×(List Str)×(List zg)×(List Str)×(List zg)×Unit->OT1| (h,r,i,j,k,l,a,b,c,d,m,n,e,f,())=>(zG [125] (zk r)).bind λg=>if(!g.1)=true then if h=true then(zG [100,101,102,97,117,108,116] (zk g.2.1)).bind λo=>if o.1=true then zer q false (zk o.2.1) i j k l a b c d 37 [] 0 [] m n e f [] [⟨42,[],0,[],[],[]⟩]else zew q h (zk o.2.1) i j k l a b c d 37 [] 0 [] m n e f [] [⟨42,[],0,[],[],[]⟩]else zew q h (zk g.2.1) i j k l a b c d 37 [] 0 [] m n e f [] [⟨42,[],0,[],[],[]⟩]else some (.inr (.inr (⟨a,b,c,d,e,f⟩,(zk g.2.1),())))
def zgK(e:zf)(x:zh):za8:=(e.zbG (zk x)).bind λf=>(match f with| .inl a=>some (.inl (a.1,(zk a.2.1),()))| .inr b=>(zac [123] (zk b.2.1)).bind λg=>(match g with| .inl c=>some (.inl (c.1,(zk c.2.1),()))| .inr h=>Lp.loop (zez e) (true,(zk h.1),0,[],0,[],36,[],0,[],[],[],[],[(zA b.1)],())))
def zwF(b:zf):=callee Y [] zyc zn6 (λz=>zgK b z.1)
def zw1(b:zf):zZ Y (zQ Y zn6):=(.loop [[7,5,1,2,2,2,2],[8,5,1,2,2,2,2],[6,1,2,2,2,2],[2,2,2,2,2]] ⟨[(0,.ptr 0 0),(2,.ptr 1 0),(3,.ptr 2 0),(4,.bool)],zhM⟩ (zez b) (.join [[1,4,2,1,2,5,2,7,5,1,2,2,2,2],[2,4,2,1,2,5,2,7,5,1,2,2,2,2],[2,2,5,2,7,5,1,2,2,2,2],[6,2,7,5,1,2,2,2,2],[8,5,1,2,2,2,2],[6,1,2,2,2,2],[2,2,2,2,2]] ⟨[(0,.ptr 0 0),(2,.ptr 1 0),(3,.ptr 2 0),(4,.bool),(5,.ptr 3 0)],om6⟩ (u20 (zew b)) (.join [[2,4,2,1,2,5,2,7,5,1,2,2,2,2],[2,2,5,2,7,5,1,2,2,2,2],[6,2,7,5,1,2,2,2,2],[8,5,1,2,2,2,2],[6,1,2,2,2,2],[2,2,2,2,2]] ⟨[(0,.ptr 0 0),(2,.ptr 1 0),(3,.ptr 2 0),(4,.bool),(5,.ptr 3 0)],om6⟩ (u20 (ziB b)) (.join [[1,2,2,5,2,7,5,1,2,2,2,2],[2,2,2,5,2,7,5,1,2,2,2,2],[6,2,7,5,1,2,2,2,2],[8,5,1,2,2,2,2],[6,1,2,2,2,2],[2,2,2,2,2]] ⟨[(0,.ptr 0 0),(2,.ptr 1 0),(3,.ptr 2 0),(4,.bool),(5,.ptr 3 0)],om6⟩ (u20 (zer b)) (.loop [[7,5,1,2,2,2,5,2,7,5,1,2,2,2,2],[8,5,1,2,2,2,5,2,7,5,1,2,2,2,2],[6,1,2,2,2,5,2,7,5,1,2,2,2,2],[2,2,2,2,5,2,7,5,1,2,2,2,2],[6,2,7,5,1,2,2,2,2],[8,5,1,2,2,2,2],[6,1,2,2,2,2],[2,2,2,2,2]] ⟨[(0,.ptr 0 0),(2,.ptr 1 0),(3,.ptr 2 0),(4,.bool),(5,.ptr 3 0)],om6⟩ (zeu b) .nil .nil)))) .nil)
theorem zs5(c:zf)(d:zF c):K8 93 (zwF c):=f8 (zw1 c) Tryz.func93 (.cons d.zbG (.cons zaK (.cons zaz (.cons zf9 (.cons d.zbu (.cons d.zau .nil)))))) ⟨λz=>by kernel_rfl,⟨λz=>by kernel_rfl,⟨λz=>by kernel_rfl,⟨λz=>by kernel_rfl,⟨λz=>by kernel_rfl,trivial,trivial⟩⟩⟩⟩,trivial⟩
def zl:Nat->zf
 |0=>⟨λ_ _ _=>none,λ_ _=>none,λ_ _ _ _ _ _ _=>none,λ_ _ _ _ _ _ _=>none,λ_=>none,λ_=>none,λ_=>none,λ_=>none,λ_ _=>none,λ_=>none,λ_=>none,λ_=>none,λ_=>none,λ_ _ _ _ _ _ _=>none,λ_ _ _ _ _ _ _=>none,λ_=>none,λ_ _ _=>none,λ_ _ _ _=>none,λ_ _ _ _=>none,λ_ _ _ _=>none,λ_ _=>none,λ_ _ _ _ _ _ _ _ _=>none,λ_ _ _ _ _ _ _ _ _=>none,λ_ _ _ _ _ _ _ _ _=>none,λ_ _ _ _ _ _ _=>none,λ_ _ _=>none,λ_ _ _ _ _ _ _=>none,λ_ _ _ _ _ _ _=>none,λ_ _ _ _ _ _ _=>none,λ_ _ _ _ _ _ _=>none,λ_=>none,λ_=>none,λ_=>none,λ_=>none,λ_ _=>none,λ_=>none,λ_=>none⟩
 |n+1=>⟨zgP (zl n),zfw (zl n),zeS (zl n),zeC (zl n),zhA (zl n),zgC (zl n),zhk (zl n),zga (zl n),zf4 (zl n),zgw (zl n),zhq (zl n),zfQ (zl n),zhz (zl n),zeL (zl n),zf3 (zl n),zhy (zl n),zgG (zl n),zeg (zl n),zeZ (zl n),zeW (zl n),zfO (zl n),zfS (zl n),zeN (zl n),ze5 (zl n),zf5 (zl n),zfU (zl n),zeV (zl n),ze1 (zl n),zfa (zl n),zfp (zl n),zf6 (zl n),zhs (zl n),zhv (zl n),zhh (zl n),zgL (zl n),zh4 (zl n),zgK (zl n)⟩
theorem zC: ∀n,zF (zl n)
 |0=>⟨COk.none ⟨⟨_,Tryz.func20,by kernel_rfl,rfl⟩⟩,COk.none ⟨⟨_,Tryz.func37,by kernel_rfl,rfl⟩⟩,COk.none ⟨⟨_,Tryz.func80,by kernel_rfl,rfl⟩⟩,COk.none ⟨⟨_,Tryz.func81,by kernel_rfl,rfl⟩⟩,COk.none ⟨⟨_,Tryz.func38,by kernel_rfl,rfl⟩⟩,COk.none ⟨⟨_,Tryz.func82,by kernel_rfl,rfl⟩⟩,COk.none ⟨⟨_,Tryz.func83,by kernel_rfl,rfl⟩⟩,COk.none ⟨⟨_,Tryz.func134,by kernel_rfl,rfl⟩⟩,COk.none ⟨⟨_,Tryz.func166,by kernel_rfl,rfl⟩⟩,COk.none ⟨⟨_,Tryz.func189,by kernel_rfl,rfl⟩⟩,COk.none ⟨⟨_,Tryz.func211,by kernel_rfl,rfl⟩⟩,COk.none ⟨⟨_,Tryz.func224,by kernel_rfl,rfl⟩⟩,COk.none ⟨⟨_,Tryz.func237,by kernel_rfl,rfl⟩⟩,COk.none ⟨⟨_,Tryz.func80,by kernel_rfl,rfl⟩⟩,COk.none ⟨⟨_,Tryz.func241,by kernel_rfl,rfl⟩⟩,COk.none ⟨⟨_,Tryz.func91,by kernel_rfl,rfl⟩⟩,COk.none ⟨⟨_,Tryz.func223,by kernel_rfl,rfl⟩⟩,COk.none ⟨⟨_,Tryz.func78,by kernel_rfl,rfl⟩⟩,COk.none ⟨⟨_,Tryz.func80,by kernel_rfl,rfl⟩⟩,COk.none ⟨⟨_,Tryz.func133,by kernel_rfl,rfl⟩⟩,COk.none ⟨⟨_,Tryz.func236,by kernel_rfl,rfl⟩⟩,COk.none ⟨⟨_,Tryz.func78,by kernel_rfl,rfl⟩⟩,COk.none ⟨⟨_,Tryz.func80,by kernel_rfl,rfl⟩⟩,COk.none ⟨⟨_,Tryz.func133,by kernel_rfl,rfl⟩⟩,COk.none ⟨⟨_,Tryz.func242,by kernel_rfl,rfl⟩⟩,COk.none ⟨⟨_,Tryz.func210,by kernel_rfl,rfl⟩⟩,COk.none ⟨⟨_,Tryz.func80,by kernel_rfl,rfl⟩⟩,COk.none ⟨⟨_,Tryz.func222,by kernel_rfl,rfl⟩⟩,COk.none ⟨⟨_,Tryz.func80,by kernel_rfl,rfl⟩⟩,COk.none ⟨⟨_,Tryz.func167,by kernel_rfl,rfl⟩⟩,COk.none ⟨⟨_,Tryz.func85,by kernel_rfl,rfl⟩⟩,COk.none ⟨⟨_,Tryz.func86,by kernel_rfl,rfl⟩⟩,COk.none ⟨⟨_,Tryz.func87,by kernel_rfl,rfl⟩⟩,COk.none ⟨⟨_,Tryz.func88,by kernel_rfl,rfl⟩⟩,COk.none ⟨⟨_,Tryz.func135,by kernel_rfl,rfl⟩⟩,COk.none ⟨⟨_,Tryz.func92,by kernel_rfl,rfl⟩⟩,COk.none ⟨⟨_,Tryz.func93,by kernel_rfl,rfl⟩⟩⟩
 |n+1=>⟨zs7 _ (zC n),zpW _ (zC n),zpf _ (zC n),zor _ (zC n),zus _ (zC n),zs6 _ (zC n),zuh _ (zC n),zsp _ (zC n),zsz _ (zC n),ztb _ (zC n),zuB _ (zC n),zqO _ (zC n),zuD _ (zC n),zpl _ (zC n),zsC _ (zC n),ztY _ (zC n),zsD _ (zC n),zqo _ (zC n),zpw _ (zC n),zpo _ (zC n),zqY _ (zC n),zql _ (zC n),zph _ (zC n),zpv _ (zC n),zrl _ (zC n),zqZ _ (zC n),zpu _ (zC n),zo5 _ (zC n),zpg _ (zC n),zpT _ (zC n),zsr _ (zC n),zun _ (zC n),ztN _ (zC n),zua _ (zC n),zsK _ (zC n),zvv _ (zC n),zs5 _ (zC n)⟩
def zbn:Bool->Str->zh->zDV:=(zl Lp.big).zbn
theorem zuK:K8 20 (zgB (zl Lp.big)):=(zC Lp.big).zbn
def zbQ:Int->zh->za8:=(zl Lp.big).zbQ
def zcv:zh->Int->Str->Int->Str->(List Str)->(List zg)->OT4:=(zl Lp.big).zcv
def zcT:zh->Int->Str->Int->Str->(List Str)->(List zg)->OT4:=(zl Lp.big).zcT
def zbu:zh->za8:=(zl Lp.big).zbu
def zbA:zh->za8:=(zl Lp.big).zbA
def zcG:zh->za8:=(zl Lp.big).zcG
def zay:zh->ziq:=(zl Lp.big).zay
def zce:Int->zh->za8:=(zl Lp.big).zce
def zb5:zh->ziq:=(zl Lp.big).zb5
def zcH:zh->ziq:=(zl Lp.big).zcH
def zc1:zh->ziq:=(zl Lp.big).zc1
def zdX:zh->ziq:=(zl Lp.big).zdX
def zcy:zh->Int->Str->Int->Str->(List Str)->(List zg)->OT6:=(zl Lp.big).zcy
def zd4:zh->Int->Str->Int->Str->(List Str)->(List zg)->OT6:=(zl Lp.big).zd4
def zau:zh->ziq:=(zl Lp.big).zau
def zbz:Str->Bool->zh->zDV:=(zl Lp.big).zbz
def zdM:Str->Bool->zh->(List zg)->zEd:=(zl Lp.big).zdM
def zdd:zh->Str->(List zg)->Bool->OT8:=(zl Lp.big).zdd
def zda:zh->Str->(List zg)->Bool->OT8:=(zl Lp.big).zda
def zcW:zh->(List zg)->zEd:=(zl Lp.big).zcW
def zc0:Str->Bool->zh->Int->Str->Int->Str->(List Str)->(List zg)->OT5:=(zl Lp.big).zc0
def zc7:zh->Str->Int->Str->Int->Str->(List Str)->(List zg)->Bool->OT3:=(zl Lp.big).zc7
def zdb:zh->Str->Int->Str->Int->Str->(List Str)->(List zg)->Bool->OT3:=(zl Lp.big).zdb
def zdg:zh->Int->Str->Int->Str->(List Str)->(List zg)->OT5:=(zl Lp.big).zdg
def zb3:zg->Bool->zh->za8:=(zl Lp.big).zb3
def zcz:zh->Int->Str->Int->Str->(List Str)->(List zg)->OT6:=(zl Lp.big).zcz
def zc9:zh->Int->Str->Int->Str->(List Str)->(List zg)->OT6:=(zl Lp.big).zc9
def zcA:zh->Int->Str->Int->Str->(List Str)->(List zg)->OT6:=(zl Lp.big).zcA
def zdx:zh->Int->Str->Int->Str->(List Str)->(List zg)->OT6:=(zl Lp.big).zdx
def zdi:zh->za8:=(zl Lp.big).zdi
def zbG:zh->za8:=(zl Lp.big).zbG
def zbi:zh->za8:=(zl Lp.big).zbi
def zdU:zh->za8:=(zl Lp.big).zdU
def zcP:Str->zh->ziq:=(zl Lp.big).zcP
def zep:zh->za8:=(zl Lp.big).zep
def zdH:zh->za8:=(zl Lp.big).zdH
structure zei where
 zex:zg->Option (Int×Unit)
def zoR(b:zei):=callee Y [] zDa zAl (λz=>b.zex z.1)
structure zrR (g_:zei):Prop where
 zex:COk hY Tryz.prog zam 22 (zoR g_)
def ziQ(k:zei):Int×(List zg)×Int×Int×Unit->Option ((Int×(List zg)×Int×Int×Unit)⊕(Int×Unit))| (a,c,d,b,())=>if(decide (b<d))=true then(zN c b).bind λf=>(k.zex (zA f)).bind λe=>let g:=(if e.1>a then e.1 else a);let h:=(IntKind.wrap .i64 (b+1));some (.inl (g,c,d,h,()))else let i:=(IntKind.wrap .i64 (a+1));some (.inr (i,()))
def zo1(b:zei)(n:zg):Option (Int×Unit):=Lp.loop (ziQ b) (0,n.L,((n.L.length:Nat):Int),0,())
def zKu(b:zei):=callee Y [] zDa zAl (λz=>zo1 b z.1)
def zJJ(b:zei):zZ Y (zQ Y zAl):=(.loop [[7,5,2,1,2,2],[8,5,2,1,2,2],[6,2,1,2,2],[2,2,2]] ⟨[(3,.int .i64),(7,.sl 25),(8,.int .i64),(9,.int .i64)],[]⟩ (ziQ b) .nil .nil)
theorem zEw(b:zei)(d:zrR b):K8 22 (zKu b):=f8 (zJJ b) Tryz.func22 (.cons d.zex .nil) ⟨λz=>by kernel_rfl,trivial,trivial⟩
def zdn:Nat->zei
 |0=>⟨λ_=>none⟩
 |n+1=>⟨zo1 (zdn n)⟩
theorem zqd: ∀n,zrR (zdn n)
 |0=>⟨COk.none ⟨⟨_,Tryz.func22,by kernel_rfl,rfl⟩⟩⟩
 |n+1=>⟨zEw _ (zqd n)⟩
def zex:zg->Option (Int×Unit):=(zdn Lp.big).zex
theorem zzA:K8 22 (zoR (zdn Lp.big)):=(zqd Lp.big).zex
def zcJ(l:Str):Option (zg×Int×Int×Unit):=(ztp l).bind λa=>if(a.2.2.1 !=0)=true then fk (fk (fk (some (⟨0,[],0,[],[],[]⟩,a.2.1,a.2.2.1,())) (fd (some (⟨0,[],0,[],[],[]⟩,a.2.1,a.2.2.1,())))) (fk (fd (some (⟨0,[],0,[],[],[]⟩,a.2.1,a.2.2.1,()))) (fk (fd (some (⟨0,[],0,[],[],[]⟩,a.2.1,a.2.2.1,()))) (some (⟨0,[],0,[],[],[]⟩,a.2.1,a.2.2.1,()))))) (fk (fk (fk (some (⟨0,[],0,[],[],[]⟩,a.2.1,a.2.2.1,())) (fd (some (⟨0,[],0,[],[],[]⟩,a.2.1,a.2.2.1,())))) (some (⟨0,[],0,[],[],[]⟩,a.2.1,a.2.2.1,()))) (fk (fd (some (⟨0,[],0,[],[],[]⟩,a.2.1,a.2.2.1,()))) (some (⟨0,[],0,[],[],[]⟩,a.2.1,a.2.2.1,()))))else(zbn true [125] ⟨a.1,false⟩).bind λi=>(match i with| .inl b=>(zN b.2.1.t 0).bind λj=>if(j.Kind !=0)=true then(zaP (zk b.2.1)).bind λc=>if((c.1).isNil)=true then some (⟨41,[],0,[],[],b.1⟩,a.2.1,a.2.2.1,())else(zq6 45 c.1).bind λe=>if e.2=true then some (⟨0,[],0,[],[],[]⟩,e.1,80,())else zEc c.1 λ_=>none else(zex ⟨41,[],0,[],[],b.1⟩).bind λk=>if(decide (k.1>64))=true then if((zad.nil).isNil)=true then some (⟨0,[],0,[],[],[]⟩,0,31,())else(zq6 45 zad.nil).bind λf=>if f.2=true then some (⟨0,[],0,[],[],[]⟩,f.1,80,())else zEc zad.nil λ_=>none else if((zad.nil).isNil)=true then some (⟨41,[],0,[],[],b.1⟩,0,0,())else(zq6 45 zad.nil).bind λg=>if g.2=true then some (⟨0,[],0,[],[],[]⟩,g.1,80,())else zEc zad.nil λ_=>none| .inr d=>if((d.1).isNil)=true then some (⟨0,[],0,[],[],[]⟩,a.2.1,a.2.2.1,())else(zq6 45 d.1).bind λh=>if h.2=true then some (⟨0,[],0,[],[],[]⟩,h.1,80,())else zEc d.1 λ_=>none)
def zDE:List zI:=[⟨false,.tup [.st 25,.int .i64,.int .i64],[]⟩]
def zCh:=callee Y [] zJW zDE (λz=>zcJ z.1)
theorem zsu:K8 9 zCh:=
 zT9 (body:=(Tryz.f9.body).getD .skip) (gfn:=Tryz.f19) (T:=[(18,(zt2)),(20,(zgB (zl Lp.big))),(21,(zfG)),(22,(zoR (zdn Lp.big)))]) [[1,2,2,2],[2,2,2,2]] Tryz.func9 (by kernel_rfl) ⟨⟨_,Tryz.func9,by kernel_rfl,rfl⟩⟩ Tryz.func19 ⟨⟨_,Tryz.func19,by kernel_rfl,rfl⟩⟩ hsz ((.cons zIs (.cons zuK (.cons zaY (.cons zzA .nil)))):zcC hY Tryz.prog zam [(18,(zt2)),(20,(zgB (zl Lp.big))),(21,(zfG)),(22,(zoR (zdn Lp.big)))]) (λ_ _ hle h=>h.mono hle) (by kernel_rfl)
  (λz=>by kernel_rfl)
def zh3:Option (Bool×Unit):=(zcJ [97,32,61,32,98,10,43,43,99]).bind λb=>(zcJ [114,101,116,117,114,110,10,97]).bind λa=>(zcJ [49,32,61,32,50]).bind λc=>let d:=((b.2.2.1==0)&&(((b.1.L.length:Nat):Int)==2));let e:=((d&&(a.2.2.1==0))&&(((a.1.L.length:Nat):Int)==2));(if e=true then(zN a.1.L 0).bind λf=>let g:=((f.L.length:Nat):Int);some (g==0)else some false).bind λh=>let i:=((h&&(c.2.1==2))&&(c.2.2.1==80));some (i,())
def zxx:Shape:=⟨[],[]⟩
def zwk:=callee Y [] zxx zx3 (λz=>zh3)
theorem zuW:K8 11 (zwk):=f8 zEf Tryz.func11 (.cons zsu .nil) trivial
def zK(n:zg):Option (zdc×Bool×Unit):=if(n.Kind==22)=true then some (⟨[],0,false,false,[100,42,100]⟩,true,())else if(n.Kind==23)=true then let b:=(if 1< ((n.L.length:Nat):Int)then 1 else((n.L.length:Nat):Int));(zaI [101] 0 b).bind λc=>some (⟨[110],0,false,false,c⟩,true,())else if(n.Kind==24)=true then some (⟨[],0,false,false,[101]⟩,true,())else if(n.Kind==34)=true then some (⟨[],0,false,false,[101]⟩,true,())else if(n.Kind==25)=true then some (⟨[],0,false,false,[42,115]⟩,true,())else if(n.Kind==26)=true then let a:=(if 2>((n.L.length:Nat):Int)then 2 else((n.L.length:Nat):Int));let d:=(if 3<a then 3 else a);(zaI [101,98,98] 0 d).bind λe=>some (⟨[],0,false,false,e⟩,true,())else if(n.Kind==27)=true then some (⟨[],0,false,false,[101,98]⟩,true,())else if(n.Kind==28)=true then some (⟨[],0,false,false,[98,101]⟩,true,())else if(n.Kind==29)=true then some (⟨[],0,false,false,[118,102,102,98]⟩,true,())else if(n.Kind==30)=true then some (⟨[],0,false,false,[119,101,98]⟩,true,())else if(n.Kind==31)=true then some (⟨[109],0,false,false,[]⟩,true,())else if(n.Kind==32)=true then some (⟨[109],0,false,false,[]⟩,true,())else if(n.Kind==33)=true then let f:=(if 1< ((n.L.length:Nat):Int)then 1 else((n.L.length:Nat):Int));(zaI [101] 0 f).bind λg=>some (⟨[],0,false,false,g⟩,true,())else if(n.Kind==35)=true then some (⟨[99],0,false,false,[98,99,99]⟩,true,())else if(n.Kind==36)=true then some (⟨[],0,false,false,[101,42,107]⟩,true,())else if(n.Kind==37)=true then some (⟨[],0,false,false,[102,42,115]⟩,true,())else if(n.Kind==38)=true then some (⟨[110],0,false,false,[115]⟩,true,())else if(n.Kind==39)=true then some (⟨[110],0,false,true,[42,120]⟩,true,())else if(n.Kind==41)=true then some (⟨[],0,false,false,[42,120]⟩,true,())else some (⟨[],0,false,false,[]⟩,false,())
def zsv:List zI:=[⟨false,.tup [.st 93,.bool],[]⟩]
def zBV:=callee Y [] zDa zsv (λz=>zK z.1)
def zB4:zZ Y (zQ Y zsv):= .nil
theorem zA4:K8 116 (zBV):=f8 zB4 Tryz.func116 .nil trivial
def zL(a:zdc):Option (zdc×Bool×Unit):=some ((zQr a),true,())
def zaE(n:zg):Option (zdc×Bool×Unit):=if(n.Kind==1)=true then zL ⟨[],9007199254740991,false,false,[]⟩else if(n.Kind==2)=true then zL ⟨[],0,true,false,[]⟩else if(n.Kind==3)=true then zL ⟨[110],0,false,false,[]⟩else if(n.Kind==4)=true then zL ⟨[],0,false,false,[]⟩else if(n.Kind==5)=true then zL ⟨[],0,false,false,[]⟩else if(n.Kind==40)=true then zL ⟨[],0,false,false,[]⟩else if(n.Kind==42)=true then zL ⟨[],0,false,false,[]⟩else if(n.Kind==6)=true then zL ⟨[],1,false,false,[]⟩else if(n.Kind==7)=true then zL ⟨[],0,false,false,[42,101]⟩else if(n.Kind==8)=true then zL ⟨[],0,false,false,[42,112]⟩else if(n.Kind==9)=true then zL ⟨[],0,true,false,[101]⟩else if(n.Kind==10)=true then zL ⟨[109],0,false,true,[42,120]⟩else if(n.Kind==11)=true then zL ⟨[105],0,false,false,[101]⟩else if(n.Kind==12)=true then zL ⟨[],0,false,false,[101,101]⟩else if(n.Kind==21)=true then zL ⟨[],0,false,false,[101,101]⟩else if(n.Kind==13)=true then zL ⟨[],0,false,false,[101,42,101]⟩else if(n.Kind==14)=true then zL ⟨[],0,false,false,[101,42,101]⟩else if(n.Kind==15)=true then zL ⟨[32,45,32,43,32,33,32,116,121,112,101,111,102,32,100,101,108,101,116,101,32,118,111,105,100,32],0,false,false,[101]⟩else if(n.Kind==16)=true then zL ⟨[32,43,43,32,45,45,32],1,false,false,[116]⟩else if(n.Kind==17)=true then zL ⟨[32,43,32,45,32,42,32,47,32,37,32,60,32,62,32,60,61,32,62,61,32,61,61,32,33,61,32,61,61,61,32,33,61,61,32,105,110,32,105,110,115,116,97,110,99,101,111,102,32],0,false,false,[101,101]⟩else if(n.Kind==18)=true then zL ⟨[32,38,38,32,124,124,32],0,false,false,[101,101]⟩else if(n.Kind==19)=true then zL ⟨[],0,false,false,[101,101,101]⟩else if(n.Kind==20)=true then zL ⟨[32,61,32,43,61,32,45,61,32,42,61,32,47,61,32,37,61,32],0,false,false,[116,101]⟩else(zK (zA n)).bind λa=>some ((zQr a.1),a.2.1,())
def zNz:=callee Y [] zDa zsv (λz=>zaE z.1)
def zNR:zZ Y (zQ Y zsv):=(.join [[1,2,2],[2,2,2]] ⟨[(2,.ptr 0 0)],[.whole 93 93]⟩ (λz=>zL z.1) .nil)
theorem zMp:K8 55 (zNz):=f8 zNR Tryz.func55 (.cons zA4 .nil) ⟨λz=>by kernel_rfl,⟨⟩⟩
def zjE(s:Str):Option (Bool×Unit):=let a:=((!(s==[]))&&(decide (((s.length:Nat):Int)<=32)));if a=true then(zaZ s 0).bind λb=>(ziN b).bind λc=>if c.1=true then(zpb s).bind λd=>let e:=(d.1==((s.length:Nat):Int));some (e,())else some (false,())else some (false,())
def zDh:=callee Y [] zJW zx3 (λz=>zjE z.1)
theorem zrK:K8 117 (zDh):=f8 zEf Tryz.func117 (.cons zne (.cons zse .nil)) trivial
def zim(s:Str):Option (Bool×Unit):=(zjE s).bind λa=>if a.1=true then(znI s).bind λb=>some ((!b.1),())else some (false,())
def zFR:=callee Y [] zJW zx3 (λz=>zim z.1)
theorem zvS:K8 60 (zFR):=f8 zEf Tryz.func60 (.cons zrK (.cons zth .nil)) trivial
def zfP(e:Str)(s:Str):Option (Bool×Unit):=if(!(s==[]))=true then(strings_Contains s [32]).bind λa=>if(!a.1)=true then(zh9 [32] s).bind λb=>(zh9 b [32]).bind λc=>(strings_Contains e c).bind λd=>some (d.1,())else some (false,())else some (false,())
def zJj:=callee Y [] zof zx3 (u2 zfP)
theorem zxS:K8 118 (zJj):=f8 zEf Tryz.func118 (.cons zhr .nil) trivial
def zqw(n:zg)(a:Str):Option (Bool×Unit):=if(a==[])=true then some ((n.Name==[]),())else if(a==[110])=true then(zim n.Name).bind λb=>some (b.1,())else if(a==[109])=true then if(n.Name==[])=true then some (true,())else(zim n.Name).bind λc=>some (c.1,())else if(a==[105])=true then(zjE n.Name).bind λd=>some (d.1,())else if(a==[99])=true then let e:=(decide (((n.L.length:Nat):Int)>1));(if e=true then(zN n.L 1).bind λf=>some (f.Kind==25)else some false).bind λg=>if g=true then(zim n.Name).bind λh=>some (h.1,())else some ((n.Name==[]),())else(zfP a n.Name).bind λi=>some (i.1,())
def zIZ:Shape:=⟨[(0,.st 25),(1,.str)],[]⟩
def zJB:=callee Y [] zIZ zx3 (u2 zqw)
theorem zF5:K8 56 (zJB):=f8 zEf Tryz.func56 (.cons zvS (.cons zrK (.cons zxS .nil))) trivial
def zlY(u:Str):Option (Bool×Unit):=let a:=(IntKind.wrap .i64 ((BitVec.ofInt 64 ((u.length:Nat):Int)&&&BitVec.ofInt 64 1).toNat));some ((a==0),())
def zGf:=callee Y [] zJW zx3 (λz=>zlY z.1)
theorem zuU:K8 57 (zGf):=f8 zEf Tryz.func57 .nil trivial
def zqT(s:Str):Option (Bool×Unit):=(zim s).bind λa=>some ((!a.1),())
def zIj:=callee Y [] zJW zx3 (λz=>zqT z.1)
theorem zFX:K8 59 (zIj):=f8 zEf Tryz.func59 (.cons zvS .nil) trivial
def zdk:(List Str)×Int×Int×Unit->Option (((List Str)×Int×Int×Unit)⊕(Int×Unit))| (b,c,a,())=>if(decide (a<c))=true then(zN b a).bind λd=>(zqT d).bind λe=>if e.1=true then some (.inr (a,()))else let f:=(IntKind.wrap .i64 (a+1));some (.inl (b,c,f,()))else some (.inr ((-1),()))
def slices_IndexFunc(s:List Str):Option (Int×Unit):=Lp.loop zdk (s,((s.length:Nat):Int),0,())
def zzH:Shape:=⟨[(0,.sl 9),(1,.fn 59 [])],[]⟩
def zAj:=callee Y [] zzH zAl (λz=>slices_IndexFunc z.1)
def zAm:zZ Y (zQ Y zAl):=(.loop [[7,5,2,1,2],[8,5,2,1,2],[6,2,1,2],[2,2]] ⟨[(0,.sl 9),(1,.fn 59 []),(7,.int .i64),(8,.int .i64)],[]⟩ (zdk) .nil .nil)
theorem zyt:K8 119 (zAj):=f8 zAm Tryz.func119 (.cons zFX .nil) ⟨λz=>by kernel_rfl,trivial,trivial⟩
def slices_ContainsFunc(s:List Str):Option (Bool×Unit):=(slices_IndexFunc s).bind λa=>some ((decide (a.1>=0)),())
def zu7:=callee Y [] zzH zx3 (λz=>slices_ContainsFunc z.1)
theorem zuu:K8 58 (zu7):=f8 zEf Tryz.func58 (.cons zyt .nil) trivial
def zd8(t:Str)(a:Str):Option (Int):=if t.length<4294967281 then some (Lib.index t a)else none
theorem zd8.ok(t:Str)(sub:Str)(r:Int)(h0:zd8 t sub=some r)(w0:World)(F0:Heap)(hv:F0.Sub w0)(hG:zam F0)(hg:SV.zaD F0 [.v (.string ⟨⟨t⟩⟩),.v (.string ⟨⟨sub⟩⟩)])(ρ:Nat->Nat):
  Calls Tryz.prog 127 (SV.zak ρ [.v (.string ⟨⟨t⟩⟩),.v (.string ⟨⟨sub⟩⟩)]).toArray w0 (zdv w0 F0 λs=>s= .v (.int .i64 r)):=by
 unfold zd8 at h0;split at h0
 ·rename_i hc;cases h0;obtain⟨m,hm⟩:=hG.maxLen;refine(Tryz.stringslite_Index ⟨⟨t⟩⟩ ⟨⟨sub⟩⟩ m w0 hc (zeU hv hm)).mono λe w' h=>?_
  exact zdv.pure (s:= .v _) hv h.1 h.2 trivial rfl rfl
 ·cases h0
def stringslite_Index(t:Str)(a:Str):Option (Int×Unit):=zjx (λr=>(r,())) (zd8 t a)
def zyL:=callee Y [] zof zAl (λz=>stringslite_Index z.1 z.2.1)
theorem zwm:K8 127 zyL:=
 COk.ext (l:=zof.l) ⟨⟨_,Tryz.func127,by kernel_rfl,rfl⟩⟩ ⟨rfl,rfl⟩ rfl λz zo h=>⟨_,_,rfl,rfl,λw F hG hv=>by
  obtain⟨r,hr,rfl⟩:=zgV h;exact zd8.ok z.1 z.2.1 r hr w F hv hG (by simp[SV.zaD,SV.good]) (λ_=>0)⟩
def stringslite_Cut(s:Str)(b:Str):Option (Str×Str×Bool×Unit):=(stringslite_Index s b).bind λa=>if(decide (a.1>=0))=true then(zaI s 0 a.1).bind λc=>let d:=(IntKind.wrap .i64 (a.1+((b.length:Nat):Int)));(zaI s d ((s.length:Nat):Int)).bind λe=>some (c,e,true,())else some (s,[],false,())
def zqf:List zI:=[⟨false,.tup [.str,.str,.bool],[]⟩]
def zA7:=callee Y [] zof zqf (u2 stringslite_Cut)
def zA1:zZ Y (zQ Y zqf):= .nil
theorem zAc:K8 120 (zA7):=f8 zA1 Tryz.func120 (.cons zwm .nil) trivial
def strings_Cut(s:Str)(b:Str):Option (Str×Str×Bool×Unit):=(stringslite_Cut s b).bind λa=>some (a.1,a.2.1,a.2.2.1,())
def zF9:=callee Y [] zof zqf (u2 strings_Cut)
theorem zED:K8 61 (zF9):=f8 zA1 Tryz.func61 (.cons zAc .nil) trivial
structure zas where
 zbh:zg->Option (Bool×Unit)
 ziY:zg->Int->Option (Bool×Unit)
def zDB(b:zas):=callee Y [] zDa zx3 (λz=>b.zbh z.1)
def zBn:Shape:=⟨[(0,.st 25),(1,.int .u8)],[]⟩
def zJI(b:zas):=callee Y [] zBn zx3 (u2 b.ziY)
structure znD (g_:zas):Prop where
 zbh:COk hY Tryz.prog zam 31 (zDB g_)
 ziY:COk hY Tryz.prog zam 62 (zJI g_)
def zia(y:zas):Str×Str×Int×(List zg)×Int×Int×zg×Unit->Option ((Str×Str×Int×(List zg)×Int×Int×zg×Unit)⊕(Bool×Unit))| (b,c,f,g,h,a,d,())=>if(decide (a<h))=true then(zN g a).bind λe=>(zh9 b c).bind λj=>(zh9 b c).bind λk=>let i:=(IntKind.wrap .i64 (((k.length:Nat):Int) -1));let l:=(if i<a then i else a);(zaZ j l).bind λm=>(y.ziY (zA e) m).bind λn=>if(!n.1)=true then some (.inr (false,()))else let o:=((d.Kind==35)&&(e.Kind==42));(if o=true then some true else let p:=((d.Kind==36)&&(e.Kind==37));(if p=true then(zN e.L 0).bind λq=>some (q.Kind==42)else some false).bind λr=>some r).bind λs=>if s=true then let t:=(IntKind.wrap .i64 (f+1));let u:=(IntKind.wrap .i64 (a+1));some (.inl (b,c,t,g,h,u,(zA d),()))else let v:=(IntKind.wrap .i64 (a+1));some (.inl (b,c,f,g,h,v,(zA d),()))else some (.inr ((decide (f<2)),()))
def znm(o:zas)(t:zg):Option (Bool×Unit):=(zaE (zA t)).bind λa=>if(!a.2.1)=true then some (false,())else(zqw (zA t) a.1.name).bind λc=>let d:=((!c.1)||(decide (t.Num<0)));let e:=(d||(decide (t.Num>a.1.num)));if e=true then some (false,())else(zlY t.Text).bind λf=>let g:=((!f.1)||((!(t.Text==[]))&&(!a.1.text)));let h:=(g||((decide (((t.Names.length:Nat):Int)>0))&&(!a.1.names)));if h=true then some (false,())else(slices_ContainsFunc t.Names).bind λi=>if i.1=true then some (false,())else(strings_Cut a.1.l [42]).bind λb=>let j:=((b.1.length:Nat):Int);let k:=(decide (((t.L.length:Nat):Int)<j));let m:=(k||((!b.2.2.1)&&(decide (((t.L.length:Nat):Int)>((b.1.length:Nat):Int)))));if m=true then some (false,())else Lp.loop (zia o) (b.1,b.2.1,0,t.L,((t.L.length:Nat):Int),0,(zA t),())
def zLx(b:zas):=callee Y [] zDa zx3 (λz=>znm b z.1)
def zLP(b:zas):zZ Y (zQ Y zx3):=(.loop [[7,5,2,1,2,2,2,2,2,2,2],[8,5,2,1,2,2,2,2,2,2,2],[6,2,1,2,2,2,2,2,2,2],[2,2,2,2,2,2,2,2]] ⟨[(1,.ptr 0 0),(5,.str),(6,.str),(8,.int .i64),(94,.sl 25),(95,.int .i64),(96,.int .i64)],[.whole 25 25]⟩ (zia b) .nil .nil)
theorem zGi(b:zas)(d:znD b):K8 31 (zLx b):=f8 (zLP b) Tryz.func31 (.cons zMp (.cons zF5 (.cons zuU (.cons zuu (.cons zED (.cons d.ziY .nil)))))) ⟨λz=>by kernel_rfl,trivial,trivial⟩
def zgf(i:zas)(b:Int)(a:Int)(c:zg):Option (Bool×Unit):=let d:=((decide (a>=22))&&(decide (a<=40)));let e:=((d&&(a !=23))&&(a !=37));let f:=(e&&((a !=39)||(b==120)));if f=true then(i.zbh (zA c)).bind λg=>some (g.1,())else some (false,())
def zp7(c:zas)(d:Int)(e:Int)(f:Bool)(g:Int)(a:zg):Option (Bool×Unit):=if(g==120)=true then zgf c d e (zA a)else if f=true then(c.zbh (zA a)).bind λh=>some (h.1,())else some (false,())
def zp0(f:zas)(a:Int)(b:Int)(g:Bool)(c:Int)(d:zg):Option (Bool×Unit):=if(c==115)=true then zgf f a b (zA d)else zp7 f a b g c (zA d)
def zp4(e:zas)(f:Int)(a:Int)(g:Bool)(b:Int)(c:zg):Option (Bool×Unit):=if(b==107)=true then if(a==37)=true then(e.zbh (zA c)).bind λh=>some (h.1,())else some (false,())else zp0 e f a g b (zA c)
def zjG(k:zas)(b:Int)(a:zg):Option (Bool×Unit):=(zff (zA a)).bind λc=>(if c.1=true then some true else let d:=((b==22)&&(((a.L.length:Nat):Int)==1));(if d=true then(zN a.L 0).bind λe=>let f:=((e.L.length:Nat):Int);some (f==0)else some false).bind λg=>some g).bind λh=>if h=true then(k.zbh (zA a)).bind λi=>some (i.1,())else some (false,())
def zpZ(e:zas)(f:Int)(a:Int)(g:Bool)(b:Int)(c:zg):Option (Bool×Unit):=if(b==119)=true then zjG e a (zA c)else zp4 e f a g b (zA c)
def zp1(e:zas)(f:Int)(a:Int)(g:Bool)(h:Bool)(b:Int)(c:zg):Option (Bool×Unit):=if(b==118)=true then let i:=(g||(a==42));if(i||(a==22))=true then(e.zbh (zA c)).bind λj=>some (j.1,())else some (false,())else zpZ e f a h b (zA c)
def zry(e:zas)(f:Int)(a:Int)(g:Bool)(h:Bool)(b:Int)(c:zg):Option (Bool×Unit):=if(b==100)=true then if(a==23)=true then(e.zbh (zA c)).bind λi=>some (i.1,())else some (false,())else zp1 e f a g h b (zA c)
def zrB(e:zas)(f:Int)(a:Int)(g:Bool)(h:Bool)(b:Int)(c:zg):Option (Bool×Unit):=if(b==112)=true then if(a==9)=true then(e.zbh (zA c)).bind λi=>some (i.1,())else some (false,())else zry e f a g h b (zA c)
def zrp(e:zas)(f:Int)(a:Int)(g:Bool)(h:Bool)(b:Int)(c:zg):Option (Bool×Unit):=if(b==99)=true then let i:=((a==25)||(a==42));if i=true then(e.zbh (zA c)).bind λj=>some (j.1,())else some (false,())else zrB e f a g h b (zA c)
def zsj(e:zas)(f:Int)(a:Int)(g:Bool)(h:Bool)(b:Int)(c:zg):Option (Bool×Unit):=if(b==98)=true then if(a==25)=true then(e.zbh (zA c)).bind λi=>some (i.1,())else some (false,())else zrp e f a g h b (zA c)
def zrY(f:zas)(g:Int)(a:Int)(b:Bool)(h:Bool)(c:Int)(d:zg):Option (Bool×Unit):=if(c==102)=true then let i:=(b||(a==42));if i=true then(f.zbh (zA d)).bind λj=>some (j.1,())else some (false,())else zsj f g a b h c (zA d)
def zsn(d:zas)(e:Int)(f:Int)(g:Bool)(h:Bool)(b:Int)(a:zg):Option (Bool×Unit):=if(b==116)=true then(zff (zA a)).bind λi=>if i.1=true then(d.zbh (zA a)).bind λj=>some (j.1,())else some (false,())else zrY d e f g h b (zA a)
def zr6(e:zas)(f:Int)(g:Int)(a:Bool)(h:Bool)(b:Int)(c:zg):Option (Bool×Unit):=if(b==101)=true then if a=true then(e.zbh (zA c)).bind λi=>some (i.1,())else some (false,())else zsn e f g a h b (zA c)
def zrU(g:zas)(a:Int)(b:Int)(c:Bool)(d:Bool)(e:zg):Option (Bool×Unit):=zr6 g a b c d a (zA e)
def ziF(f:zas)(a:Int)(b:Int)(c:Bool)(d:zg):Option (Bool×Unit):=zrU f a b c false (zA d)
def zjO(c:zas)(n:zg)(b:Int):Option (Bool×Unit):=if(decide (n.Kind>=1))=true then if(decide (n.Kind<=21))=true then ziF c b n.Kind (n.Kind !=9) (zA n)else ziF c b n.Kind false (zA n)else ziF c b n.Kind false (zA n)
def zKf(b:zas):=callee Y [] zBn zx3 (u2 (zjO b))
def zKn(b:zas):zZ Y (zQ Y zx3):=(.join [[1,2,2],[2,2,2]] ⟨[(1,.int .u8),(2,.ptr 0 0),(5,.int .i64),(6,.bool)],[.whole 25 25]⟩ (u4 (ziF b)) (.join [[1,1,2,2,2],[2,1,2,2,2],[2,2,2,2]] ⟨[(1,.int .u8),(2,.ptr 0 0),(5,.int .i64),(6,.bool),(7,.bool)],[.whole 25 25]⟩ (u5 (zrU b)) (.join [[1,5,2,1,2,2,2],[2,5,2,1,2,2,2],[6,2,1,2,2,2],[2,2,2,2]] ⟨[(1,.int .u8),(2,.ptr 0 0),(5,.int .i64),(6,.bool),(7,.bool),(23,.int .u8)],[.whole 25 25]⟩ (u6 (zr6 b)) (.join [[1,4,2,5,2,1,2,2,2],[2,4,2,5,2,1,2,2,2],[6,2,1,2,2,2],[2,2,2,2]] ⟨[(1,.int .u8),(2,.ptr 0 0),(5,.int .i64),(6,.bool),(7,.bool),(23,.int .u8)],[.whole 25 25]⟩ (u6 (zsn b)) (.join [[1,4,2,4,2,5,2,1,2,2,2],[2,4,2,4,2,5,2,1,2,2,2],[6,2,1,2,2,2],[2,2,2,2]] ⟨[(1,.int .u8),(2,.ptr 0 0),(5,.int .i64),(6,.bool),(7,.bool),(23,.int .u8)],[.whole 25 25]⟩ (u6 (zrY b)) (.join [[1,4,2,4,2,4,2,5,2,1,2,2,2],[2,4,2,4,2,4,2,5,2,1,2,2,2],[6,2,1,2,2,2],[2,2,2,2]] ⟨[(1,.int .u8),(2,.ptr 0 0),(5,.int .i64),(6,.bool),(7,.bool),(23,.int .u8)],[.whole 25 25]⟩ (u6 (zsj b)) (.join [[1,4,2,4,2,4,2,4,2,5,2,1,2,2,2],[2,4,2,4,2,4,2,4,2,5,2,1,2,2,2],[6,2,1,2,2,2],[2,2,2,2]] ⟨[(1,.int .u8),(2,.ptr 0 0),(5,.int .i64),(6,.bool),(7,.bool),(23,.int .u8)],[.whole 25 25]⟩ (u6 (zrp b)) (.join [[1,4,2,4,2,4,2,4,2,4,2,5,2,1,2,2,2],[2,4,2,4,2,4,2,4,2,4,2,5,2,1,2,2,2],[6,2,1,2,2,2],[2,2,2,2]] ⟨[(1,.int .u8),(2,.ptr 0 0),(5,.int .i64),(6,.bool),(7,.bool),(23,.int .u8)],[.whole 25 25]⟩ (u6 (zrB b)) (.join [[1,4,2,4,2,4,2,4,2,4,2,4,2,5,2,1,2,2,2],[2,4,2,4,2,4,2,4,2,4,2,4,2,5,2,1,2,2,2],[6,2,1,2,2,2],[2,2,2,2]] ⟨[(1,.int .u8),(2,.ptr 0 0),(5,.int .i64),(6,.bool),(7,.bool),(23,.int .u8)],[.whole 25 25]⟩ (u6 (zry b)) (.join [[1,4,2,4,2,4,2,4,2,4,2,4,2,4,2,5,2,1,2,2,2],[2,4,2,4,2,4,2,4,2,4,2,4,2,4,2,5,2,1,2,2,2],[6,2,1,2,2,2],[2,2,2,2]] ⟨[(1,.int .u8),(2,.ptr 0 0),(5,.int .i64),(6,.bool),(7,.bool),(23,.int .u8)],[.whole 25 25]⟩ (u6 (zp1 b)) (.join [[1,4,2,4,2,4,2,4,2,4,2,4,2,4,2,4,2,5,2,1,2,2,2],[2,4,2,4,2,4,2,4,2,4,2,4,2,4,2,4,2,5,2,1,2,2,2],[6,2,1,2,2,2],[2,2,2,2]] ⟨[(1,.int .u8),(2,.ptr 0 0),(5,.int .i64),(7,.bool),(23,.int .u8)],[.whole 25 25]⟩ (u5 (zpZ b)) (.join [[3,2,4,2,4,2,4,2,4,2,4,2,4,2,4,2,4,2,5,2,1,2,2,2],[6,2,1,2,2,2],[2,2,2,2]] ⟨[(2,.ptr 0 0),(5,.int .i64)],[.whole 25 25]⟩ (u2 (zjG b)) (.join [[1,4,2,4,2,4,2,4,2,4,2,4,2,4,2,4,2,4,2,5,2,1,2,2,2],[2,4,2,4,2,4,2,4,2,4,2,4,2,4,2,4,2,4,2,5,2,1,2,2,2],[6,2,1,2,2,2],[2,2,2,2]] ⟨[(1,.int .u8),(2,.ptr 0 0),(5,.int .i64),(7,.bool),(23,.int .u8)],[.whole 25 25]⟩ (u5 (zp4 b)) (.join [[1,1,4,2,4,2,4,2,4,2,4,2,4,2,4,2,4,2,4,2,4,2,5,2,1,2,2,2],[2,1,4,2,4,2,4,2,4,2,4,2,4,2,4,2,4,2,4,2,4,2,5,2,1,2,2,2],[2,4,2,4,2,4,2,4,2,4,2,4,2,4,2,4,2,4,2,4,2,5,2,1,2,2,2],[6,2,1,2,2,2],[2,2,2,2]] ⟨[(1,.int .u8),(2,.ptr 0 0),(5,.int .i64),(7,.bool),(23,.int .u8)],[.whole 25 25]⟩ (u5 (zp0 b)) (.join [[4,2,1,4,2,4,2,4,2,4,2,4,2,4,2,4,2,4,2,4,2,4,2,5,2,1,2,2,2],[2,4,2,4,2,4,2,4,2,4,2,4,2,4,2,4,2,4,2,4,2,5,2,1,2,2,2],[6,2,1,2,2,2],[2,2,2,2]] ⟨[(1,.int .u8),(2,.ptr 0 0),(5,.int .i64),(7,.bool),(23,.int .u8)],[.whole 25 25]⟩ (u5 (zp7 b)) (.join [[3,2,4,2,4,2,4,2,4,2,4,2,4,2,4,2,4,2,4,2,4,2,5,2,1,2,2,2],[6,2,1,2,2,2],[2,2,2,2]] ⟨[(1,.int .u8),(2,.ptr 0 0),(5,.int .i64)],[.whole 25 25]⟩ (u3 (zgf b)) .nil))))))))))))))))
theorem zEn(b:zas)(d:znD b):K8 62 (zKf b):=f8 (zKn b) Tryz.func62 (.cons d.zbh (.cons zml .nil)) ⟨λz=>by kernel_rfl,⟨λz=>by kernel_rfl,⟨λz=>by kernel_rfl,⟨λz=>by kernel_rfl,⟨λz=>by kernel_rfl,⟨λz=>by kernel_rfl,⟨λz=>by kernel_rfl,⟨λz=>by kernel_rfl,⟨λz=>by kernel_rfl,⟨λz=>by kernel_rfl,⟨λz=>by kernel_rfl,⟨λz=>by kernel_rfl,⟨λz=>by kernel_rfl,⟨λz=>by kernel_rfl,⟨λz=>by kernel_rfl,⟨λz=>by kernel_rfl,⟨⟩⟩⟩⟩⟩⟩⟩⟩⟩⟩⟩⟩⟩⟩⟩⟩⟩
def zdN:Nat->zas
 |0=>⟨λ_=>none,λ_ _=>none⟩
 |n+1=>⟨znm (zdN n),zjO (zdN n)⟩
theorem zme: ∀n,znD (zdN n)
 |0=>⟨COk.none ⟨⟨_,Tryz.func31,by kernel_rfl,rfl⟩⟩,COk.none ⟨⟨_,Tryz.func62,by kernel_rfl,rfl⟩⟩⟩
 |n+1=>⟨zGi _ (zme n),zEn _ (zme n)⟩
def zbh:zg->Option (Bool×Unit):=(zdN Lp.big).zbh
theorem zKq:K8 31 (zDB (zdN Lp.big)):=(zme Lp.big).zbh
def ziY:zg->Int->Option (Bool×Unit):=(zdN Lp.big).ziY
def zqs(n:zg):Option (Int×Unit):=if(n.Kind !=41)=true then some (70,())else(zbh (zA n)).bind λa=>if(!a.1)=true then some (70,())else(zex (zA n)).bind λb=>if(decide (b.1>64))=true then some (31,())else some (0,())
def zH4:=callee Y [] zDa zAl (λz=>zqs z.1)
def zJA:zZ Y (zQ Y zAl):= .nil
theorem zGh:K8 17 (zH4):=f8 zJA Tryz.func17 (.cons zKq (.cons zzA .nil)) trivial
def zn(l:List Str)(c:Bool)(a:List Str):Option (Bool×(List Str)×Unit):=(room (a.length+l.length)).bind λ_=>let b:=a++l;some (c,b,())
def zA8:Shape:=⟨[(0,.ptr 0 0),(1,.sl 9)],[oc1 1,.arr 9]⟩
def zqe:List zI:=[⟨false,.tup [],[oc1 1,.arr 9]⟩]
def ziv:=callee Y [] zA8 zqe (u3 zn)
def zA6:zZ Y (zQ Y zqe):= .nil
theorem zaQ:K8 107 (ziv):=f8 zA6 Tryz.func107 .nil trivial
structure zfJ where
 zb0:zg->Option (Int×Unit)
def zmY(b:zfJ):=callee Y [] zDa zAl (λz=>b.zb0 z.1)
structure zqa (g_:zfJ):Prop where
 zb0:COk hY Tryz.prog zam 149 (zmY g_)
def zna(f:zfJ)(n:zg):Option (Int×Unit):=if(n.Kind==21)=true then some (0,())else if(n.Kind==20)=true then some (1,())else if(n.Kind==19)=true then some (2,())else if(n.Kind==18)=true then(zaI n.Name 0 1).bind λg=>(strings_Index [38,124] g).bind λh=>let i:=(IntKind.wrap .i64 (4 -h.1));some (i,())else if(n.Kind==17)=true then(zfP [32,61,61,32,33,61,32,61,61,61,32,33,61,61,32] n.Name).bind λj=>if j.1=true then some (5,())else(zfP [32,43,32,45,32] n.Name).bind λk=>if k.1=true then some (7,())else(zfP [32,42,32,47,32,37,32] n.Name).bind λl=>if l.1=true then some (8,())else some (6,())else if(n.Kind==15)=true then some (9,())else if(n.Kind==16)=true then let m:=(IntKind.wrap .i64 (10 -n.Num));some (m,())else if(n.Kind==13)=true then some (11,())else if(n.Kind==11)=true then(zN n.L 0).bind λo=>(f.zb0 (zA o)).bind λa=>let b:=(if a.1>11 then a.1 else 11);let p:=(if b<12 then b else 12);some (p,())else if(n.Kind==12)=true then(zN n.L 0).bind λq=>(f.zb0 (zA q)).bind λc=>let d:=(if c.1>11 then c.1 else 11);let r:=(if d<12 then d else 12);some (r,())else if(n.Kind==14)=true then some (12,())else some (13,())
def zIU(b:zfJ):=callee Y [] zDa zAl (λz=>zna b z.1)
theorem zDp(b:zfJ)(d:zqa b):K8 149 (zIU b):=f8 zJA Tryz.func149 (.cons zsB (.cons zxS (.cons d.zb0 .nil))) trivial
def zcZ:Nat->zfJ
 |0=>⟨λ_=>none⟩
 |n+1=>⟨zna (zcZ n)⟩
theorem zpm: ∀n,zqa (zcZ n)
 |0=>⟨COk.none ⟨⟨_,Tryz.func149,by kernel_rfl,rfl⟩⟩⟩
 |n+1=>⟨zDp _ (zpm n)⟩
def zb0:zg->Option (Int×Unit):=(zcZ Lp.big).zb0
theorem zxE:K8 149 (zmY (zcZ Lp.big)):=(zpm Lp.big).zb0
def zpG(u:Str):Option (Int×Unit):=let a:=(IntKind.wrap .i64 (Int.tdiv ((u.length:Nat):Int) 2));some (a,())
def zKh:=callee Y [] zJW zAl (λz=>zpG z.1)
theorem zAb:K8 194 (zKh):=f8 zJA Tryz.func194 .nil trivial
def zrC(u:Str)(i:Int):Option (Int×Unit):=if(decide (i<0))=true then some ((-1),())else(zpG u).bind λa=>if(decide (i>=a.1))=true then some ((-1),())else(zaZ u (IntKind.wrap .i64 (2*i))).bind λb=>let c:=(IntKind.wrap .i64 ((IntKind.wrap .i64 b)*2^8));let d:=(IntKind.wrap .i64 ((IntKind.wrap .i64 (2*i))+1));(zaZ u d).bind λe=>let f:=(IntKind.wrap .i64 ((BitVec.ofInt 64 c|||BitVec.ofInt 64 (IntKind.wrap .i64 e)).toNat));some (f,())
def zL0:Shape:=⟨[(0,.str),(1,.int .i64)],[]⟩
def zM0:=callee Y [] zL0 zAl (u2 zrC)
theorem zJR:K8 195 (zM0):=f8 zJA Tryz.func195 (.cons zAb .nil) trivial
def zoB(d:Str)(e:Int)(f:Int)(g:Int)(a:List UInt8):zEN:=let h:=(IntKind.wrap .i64 ((BitVec.ofInt 64 e|||BitVec.ofInt 64 65536).toNat));(zcI h 16).bind λb=>(zaI b.1 1 ((b.1.length:Nat):Int)).bind λi=>(zh9 [92,117] i).bind λc=>(room (a.length+c.length)).bind λ_=>let j:=a++c;let k:=(IntKind.wrap .i64 (g+1));some (.inl (d,f,k,j,()))
def zou(c:Str)(a:Int)(d:Int)(e:Int)(b:List UInt8):zEN:=let g:=((decide (a<32))||(decide (a>126)));if g=true then zoB c a d e b else(toB (IntKind.wrap .u8 a)).bind λf=>(room (b.length+([f]:List UInt8).length)).bind λ_=>let h:=b++([f]:List UInt8);let i:=(IntKind.wrap .i64 (e+1));some (.inl (c,d,i,h,()))
def ziL(b:Str)(h:Int)(c:Int)(d:Int)(e:Int)(a:List UInt8):zEN:=if(decide (c>=0))=true then(zaZ [98,116,110,102,114] c).bind λi=>(toB 92).bind λf=>(toB i).bind λg=>(room (a.length+([f,g]:List UInt8).length)).bind λ_=>let j:=a++([f,g]:List UInt8);let k:=(IntKind.wrap .i64 (e+1));some (.inl (b,d,k,j,()))else zou b h d e a
def zfK(c:Str)(a:Int)(h:Int)(d:Int)(e:Int)(b:List UInt8):zEN:=let i:=((a==34)||(a==92));if i=true then(toB 92).bind λf=>(toB (IntKind.wrap .u8 a)).bind λg=>(room (b.length+([f,g]:List UInt8).length)).bind λ_=>let j:=b++([f,g]:List UInt8);let k:=(IntKind.wrap .i64 (e+1));some (.inl (c,d,k,j,()))else ziL c a h d e b
def zgW:Str×Int×Int×(List UInt8)×Unit->zEN| (d,e,a,b,())=>if(decide (a<e))=true then(zrC d a).bind λc=>if(decide (c.1<128))=true then(strings_IndexByte [8,9,10,12,13] (IntKind.wrap .u8 c.1)).bind λf=>zfK d c.1 f.1 e a b else zfK d c.1 (-1) e a b else(room (b.length+([(UInt8.ofNat 34)]:List UInt8).length)).bind λ_=>let g:=b++([(UInt8.ofNat 34)]:List UInt8);some (.inr (g,0,()))
def zeK(u:Str):Option (Str×Int×Unit):=(zlY u).bind λa=>if(!a.1)=true then some ([],10,())else(zpG u).bind λb=>Lp.loop zgW (u,b.1,0,([(UInt8.ofNat 34)]:List UInt8),())
def zxQ:=callee Y [] zJW zCU (λz=>zeK z.1)
def zFP:zZ Y (zQ Y zCU):=(.loop [[7,5,2,1,2,2,2],[8,5,2,1,2,2,2],[6,2,1,2,2,2],[2,2,2,2]] ⟨[(0,.str),(4,.own 0),(14,.int .i64),(15,.int .i64)],[.arr 5]⟩ (zgW) (.join [[1,5,2,2,2,2,5,1,2,2,7,5,2,1,2,2,2],[2,5,2,2,2,2,5,1,2,2,7,5,2,1,2,2,2],[6,2,2,2,2,5,1,2,2,7,5,2,1,2,2,2],[6,1,2,2,7,5,2,1,2,2,2],[2,2,2,7,5,2,1,2,2,2],[8,5,2,1,2,2,2],[6,2,1,2,2,2],[2,2,2,2]] ⟨[(0,.str),(4,.own 0),(6,.int .i64),(7,.int .i64),(14,.int .i64),(15,.int .i64)],[.arr 5]⟩ (u6 zfK) (.join [[1,4,2,5,2,2,2,2,5,1,2,2,7,5,2,1,2,2,2],[2,4,2,5,2,2,2,2,5,1,2,2,7,5,2,1,2,2,2],[6,2,2,2,2,5,1,2,2,7,5,2,1,2,2,2],[6,1,2,2,7,5,2,1,2,2,2],[2,2,2,7,5,2,1,2,2,2],[8,5,2,1,2,2,2],[6,2,1,2,2,2],[2,2,2,2]] ⟨[(0,.str),(4,.own 0),(6,.int .i64),(7,.int .i64),(14,.int .i64),(15,.int .i64)],[.arr 5]⟩ (u6 ziL) (.join [[1,4,2,4,2,5,2,2,2,2,5,1,2,2,7,5,2,1,2,2,2],[2,4,2,4,2,5,2,2,2,2,5,1,2,2,7,5,2,1,2,2,2],[6,2,2,2,2,5,1,2,2,7,5,2,1,2,2,2],[6,1,2,2,7,5,2,1,2,2,2],[2,2,2,7,5,2,1,2,2,2],[8,5,2,1,2,2,2],[6,2,1,2,2,2],[2,2,2,2]] ⟨[(0,.str),(4,.own 0),(6,.int .i64),(14,.int .i64),(15,.int .i64)],[.arr 5]⟩ (u5 zou) (.join [[1,3,2,4,2,4,2,5,2,2,2,2,5,1,2,2,7,5,2,1,2,2,2],[2,3,2,4,2,4,2,5,2,2,2,2,5,1,2,2,7,5,2,1,2,2,2],[6,2,2,2,2,5,1,2,2,7,5,2,1,2,2,2],[6,1,2,2,7,5,2,1,2,2,2],[2,2,2,7,5,2,1,2,2,2],[8,5,2,1,2,2,2],[6,2,1,2,2,2],[2,2,2,2]] ⟨[(0,.str),(4,.own 0),(6,.int .i64),(14,.int .i64),(15,.int .i64)],[.arr 5]⟩ (u5 zoB) .nil)))) .nil)
theorem zvM:K8 174 (zxQ):=f8 zFP Tryz.func174 (.cons zuU (.cons zAb (.cons zJR (.cons zi5 (.cons zjt .nil))))) ⟨λz=>by kernel_rfl,⟨λz=>by kernel_rfl,⟨λz=>by kernel_rfl,⟨λz=>by kernel_rfl,⟨λz=>by kernel_rfl,⟨⟩⟩⟩⟩⟩,trivial⟩
def zgy(a:Bool):Option (Str):=some (Lib.formatBool a)
theorem zgy.ok(b_:Bool)(r:Str)(h0:zgy b_=some r)(w0:World)(F0:Heap)(hv:F0.Sub w0)(hG:zam F0)(hg:SV.zaD F0 [.v (.bool b_)])(ρ:Nat->Nat):
  Calls Tryz.prog 175 (SV.zak ρ [.v (.bool b_)]).toArray w0 (zdv w0 F0 λs=>s= .v (.string ⟨⟨r⟩⟩)):=by
 refine(Tryz.strconv_FormatBool b_ w0).mono λe w' h=>?_
 cases h0;exact zdv.pure (s:= .v (.string ⟨⟨_⟩⟩)) hv h.1 h.2 trivial rfl rfl
def strconv_FormatBool(a:Bool):Option (Str×Unit):=zjx (λr=>(r,())) (zgy a)
def znA:Shape:=⟨[(0,.bool)],[]⟩
def zns:=callee Y [] znA zzW (λz=>strconv_FormatBool z.1)
theorem zuG:K8 175 zns:=
 COk.ext (l:=znA.l) ⟨⟨_,Tryz.func175,by kernel_rfl,rfl⟩⟩ ⟨rfl,rfl⟩ rfl λz zo h=>⟨_,_,rfl,rfl,λw F hG hv=>by
  obtain⟨r,hr,rfl⟩:=zgV h;exact zgy.ok z.1 r hr w F hv hG (by simp[SV.zaD,SV.good]) (λ_=>0)⟩
def zhT(i:Int)(l v:List Str):Option (List Str×Unit):=zHE i l v
def zDe:Shape:=⟨[(0,.own 0),(1,.int .i64),(2,.own 1)],[.arr 9,.arr 9]⟩
def zCM:List zI:=[⟨false,.own 0,[.arr 9,.gone]⟩]
def zCT:Dn.Callee Y:=callee Y [0,2] zDe zCM (λz=>zhT z.1 z.2.1 z.2.2.1)
theorem zBZ:K8 109 zCT:=zUr
structure zi where
 zaU:(List zg)->Bool->(List Str)->Option (Bool×(List Str)×Unit)
 zaf:zg->Bool->(List Str)->Option (Bool×(List Str)×Unit)
 za3:zg->Int->Bool->(List Str)->Option (Bool×(List Str)×Unit)
 zD:zg->Int->Bool->(List Str)->Option (Bool×(List Str)×Unit)
 zcQ:Str->Str->Bool->(List Str)->zg->Option (Bool×(List Str)×zg×Unit)
 zdK:Bool->(List Str)->zg->Option (Bool×(List Str)×zg×Unit)
 zcw:zg->Bool->(List Str)->Option (Bool×(List Str)×Unit)
 zbP:Str->Str->Bool->(List Str)->zg->Option (Bool×(List Str)×zg×Unit)
 zdJ:Bool->(List Str)->zg->Option (Bool×(List Str)×zg×Unit)
 zb9:(List zg)->Bool->(List Str)->Option (Bool×(List Str)×Unit)
 zch:Str->Str->Bool->(List Str)->zg->Option (Bool×(List Str)×zg×Unit)
 zdA:Bool->(List Str)->zg->Option (Bool×(List Str)×zg×Unit)
 zbs:zg->Bool->(List Str)->Option (Bool×(List Str)×Unit)
 zci:Str->Str->Bool->(List Str)->zg->Option (Bool×(List Str)×zg×Unit)
 zcB:Bool->(List Str)->zg->Option (Bool×(List Str)×zg×Unit)
 zcg:zg->Bool->(List Str)->Option (Bool×(List Str)×Unit)
 zbT:Str->Str->Bool->(List Str)->(List zg)->Option (Bool×(List Str)×(List zg)×Unit)
 zcq:Bool->(List Str)->(List zg)->Option (Bool×(List Str)×(List zg)×Unit)
 zbm:Str->Str->Bool->(List Str)->(List zg)->Option (Bool×(List Str)×(List zg)×Unit)
 zco:Bool->(List Str)->(List zg)->Option (Bool×(List Str)×(List zg)×Unit)
 zcl:Str->Str->Bool->(List Str)->(List zg)->Option (Bool×(List Str)×(List zg)×Unit)
 zcp:Bool->(List Str)->(List zg)->Option (Bool×(List Str)×(List zg)×Unit)
 za4:Str->zg->Bool->(List Str)->Option (Bool×(List Str)×Unit)
 zca:zg->Bool->(List Str)->Option (Bool×(List Str)×Unit)
 zdI:zg->Bool->(List Str)->Option (Bool×(List Str)×Unit)
def zok:Shape:=⟨[(0,.ptr 0 0),(1,.sl 25)],[oc1 1,.arr 9]⟩
def znY(b:zi):=callee Y [] zok zqe (u3 b.zaU)
def zo2:Shape:=⟨[(0,.ptr 0 0),(1,.st 25)],[oc1 1,.arr 9]⟩
def zAt(b:zi):=callee Y [] zo2 zqe (u3 b.zaf)
def znW:Shape:=⟨[(0,.ptr 0 0),(1,.st 25),(2,.int .i64)],[oc1 1,.arr 9]⟩
def zx2(b:zi):=callee Y [] znW zqe (u4 b.za3)
def zsm(b:zi):=callee Y [] znW zqe (u4 b.zD)
def znK:Shape:=⟨[(0,.ptr 0 0),(1,.str),(2,.str),(3,.fn 151 [.ptr 2 0,.ptr 3 0])],zgn⟩
def zi9:List zI:=[⟨false,.tup [],zgn⟩]
def znb(b:zi):=callee Y [] znK zi9 (u5 b.zcQ)
def zpa:Shape:=⟨[(0,.ptr 0 0),(1,.ptr 3 0)],zzF⟩
def zkM:List zI:=[⟨false,.tup [],zzF⟩]
def zy9(b:zi):=callee Y [] zpa zkM (u3 b.zdK)
def zo6(b:zi):=callee Y [] zo2 zqe (u3 b.zcw)
def zhR:Shape:=⟨[(0,.ptr 0 0),(1,.str),(2,.str),(3,.fn 176 [.ptr 2 0,.ptr 3 0])],zgn⟩
def zsE(b:zi):=callee Y [] zhR zi9 (u5 b.zbP)
def zv9(b:zi):=callee Y [] zpa zkM (u3 b.zdJ)
def zAf(b:zi):=callee Y [] zok zqe (u3 b.zb9)
def zlA:Shape:=⟨[(0,.ptr 0 0),(1,.str),(2,.str),(3,.fn 178 [.ptr 2 0,.ptr 3 0])],zgn⟩
def zlr(b:zi):=callee Y [] zlA zi9 (u5 b.zch)
def zwp(b:zi):=callee Y [] zpa zkM (u3 b.zdA)
def zl4(b:zi):=callee Y [] zo2 zqe (u3 b.zbs)
def zlt:Shape:=⟨[(0,.ptr 0 0),(1,.str),(2,.str),(3,.fn 155 [.ptr 2 0,.ptr 3 0])],zgn⟩
def zls(b:zi):=callee Y [] zlt zi9 (u5 b.zci)
def zsg(b:zi):=callee Y [] zpa zkM (u3 b.zcB)
def zlu(b:zi):=callee Y [] zo2 zqe (u3 b.zcg)
def zhP:Shape:=⟨[(0,.ptr 0 0),(1,.str),(2,.str),(3,.fn 197 [.ptr 2 0,.ptr 3 0])],zjS⟩
def zft:List zI:=[⟨false,.tup [],zjS⟩]
def zsM(b:zi):=callee Y [] zhP zft (u5 b.zbT)
def zkh:Shape:=⟨[(0,.ptr 0 0),(1,.ptr 3 0)],zD6⟩
def zgD:List zI:=[⟨false,.tup [],zD6⟩]
def zqQ(b:zi):=callee Y [] zkh zgD (u3 b.zcq)
def zhF:Shape:=⟨[(0,.ptr 0 0),(1,.str),(2,.str),(3,.fn 198 [.ptr 2 0,.ptr 3 0])],zjS⟩
def zsY(b:zi):=callee Y [] zhF zft (u5 b.zbm)
def zqh(b:zi):=callee Y [] zkh zgD (u3 b.zco)
def zlp:Shape:=⟨[(0,.ptr 0 0),(1,.str),(2,.str),(3,.fn 199 [.ptr 2 0,.ptr 3 0])],zjS⟩
def zly(b:zi):=callee Y [] zlp zft (u5 b.zcl)
def zqr(b:zi):=callee Y [] zkh zgD (u3 b.zcp)
def zpC:Shape:=⟨[(0,.ptr 0 0),(1,.str),(2,.st 25)],[oc1 1,.arr 9]⟩
def zzI(b:zi):=callee Y [] zpC zqe (u4 b.za4)
def zy7(b:zi):=callee Y [] zo2 zqe (u3 b.zca)
def zy1(b:zi):=callee Y [] zo2 zqe (u3 b.zdI)
structure zM (g_:zi):Prop where
 zaU:COk hY Tryz.prog zam 29 (znY g_)
 zaf:COk hY Tryz.prog zam 51 (zAt g_)
 za3:COk hY Tryz.prog zam 106 (zx2 g_)
 zD:COk hY Tryz.prog zam 108 (zsm g_)
 zcQ:COk hY Tryz.prog zam 150 (znb g_)
 zdK:COk hY Tryz.prog zam 151 (zy9 g_)
 zcw:COk hY Tryz.prog zam 152 (zo6 g_)
 zbP:COk hY Tryz.prog zam 150 (zsE g_)
 zdJ:COk hY Tryz.prog zam 176 (zv9 g_)
 zb9:COk hY Tryz.prog zam 177 (zAf g_)
 zch:COk hY Tryz.prog zam 150 (zlr g_)
 zdA:COk hY Tryz.prog zam 178 (zwp g_)
 zbs:COk hY Tryz.prog zam 112 (zl4 g_)
 zci:COk hY Tryz.prog zam 150 (zls g_)
 zcB:COk hY Tryz.prog zam 155 (zsg g_)
 zcg:COk hY Tryz.prog zam 179 (zlu g_)
 zbT:COk hY Tryz.prog zam 150 (zsM g_)
 zcq:COk hY Tryz.prog zam 197 (zqQ g_)
 zbm:COk hY Tryz.prog zam 150 (zsY g_)
 zco:COk hY Tryz.prog zam 198 (zqh g_)
 zcl:COk hY Tryz.prog zam 150 (zly g_)
 zcp:COk hY Tryz.prog zam 199 (zqr g_)
 za4:COk hY Tryz.prog zam 110 (zzI g_)
 zca:COk hY Tryz.prog zam 111 (zy7 g_)
 zdI:COk hY Tryz.prog zam 113 (zy1 g_)
def zdO(j:zi):(List zg)×Int×Int×Bool×(List Str)×Unit->zBz| (b,c,a,d,e,())=>if(decide (a<c))=true then(zN b a).bind λg=>(j.zaf (zA g) d e).bind λf=>let h:=(IntKind.wrap .i64 (a+1));some (.inl (b,c,h,f.1,f.2.1,()))else some (.inr (d,e,()))
def zhw(d:zi)(l:List zg)(b:Bool)(c:List Str):Option (Bool×(List Str)×Unit):=Lp.loop (zdO d) (l,((l.length:Nat):Int),0,b,c,())
def zyk(b:zi):=callee Y [] zok zqe (u3 (zhw b))
def zyg(b:zi):zZ Y (zQ Y zqe):=(.loop [[7,5,2],[8,5,2],[6,2]] ⟨[(0,.ptr 0 0),(6,.sl 25),(7,.int .i64),(8,.int .i64)],[oc1 1,.arr 9]⟩ (zdO b) .nil .nil)
theorem zuk(b:zi)(d:zM b):K8 29 (zyk b):=f8 (zyg b) Tryz.func29 (.cons d.zaf .nil) ⟨λz=>by kernel_rfl,trivial,trivial⟩
def zdh(g:zi)(a:List zg)(h:Str)(i:Bool)(j:List Str):Option (Bool×(List Str)×Unit):=(zn [h] i j).bind λb=>(zN a 0).bind λk=>(g.za3 (zA k) 0 b.1 b.2.1).bind λc=>(zn [[58]] c.1 c.2.1).bind λd=>(zaI a 1 ((a.length:Nat):Int)).bind λl=>(g.zaU l d.1 d.2.1).bind λe=>some (e.1,e.2.1,())
def zdl(i:zi)(a:List zg)(b:Bool)(c:List Str):Option (Bool×(List Str)×Unit):=(zN a 2).bind λf=>if(f.Kind==25)=true then(zn [[102,105,110,97,108,108,121]] b c).bind λd=>(zN a 2).bind λg=>(i.zaf (zA g) d.1 d.2.1).bind λe=>some (e.1,e.2.1,())else some (b,c,())
def zae(b:zi)(o:zg)(c:Bool)(l:List Str):Option (Bool×(List Str)×Unit):=if(o.Kind==22)=true then(b.za3 (zA o) 0 c l).bind λg=>(zn [[59]] g.1 g.2.1).bind λh=>some (h.1,h.2.1,())else if(o.Kind==24)=true then(zN o.L 0).bind λN=>(b.zD (zA N) 0 c l).bind λd=>(zN d.2.1 ((l.length:Nat):Int)).bind λ_=>(zN d.2.1 ((l.length:Nat):Int)).bind λi=>let O:=((i==[123])||(i==[102,117,110,99,116,105,111,110]));if O=true then(zhT ((l.length:Nat):Int) d.2.1 [[40]]).bind λj=>(room (j.1.length+([[41]]:List Str).length)).bind λ_=>let P:=j.1++[[41]];(zn [[59]] d.1 P).bind λk=>some (k.1,k.2.1,())else(zn [[59]] d.1 d.2.1).bind λm=>some (m.1,m.2.1,())else if(o.Kind==25)=true then(zn [[123]] c l).bind λn=>(b.zaU o.L n.1 n.2.1).bind λp=>(zn [[125]] p.1 p.2.1).bind λq=>some (q.1,q.2.1,())else if(o.Kind==26)=true then(zN o.L 0).bind λQ=>(b.za4 [105,102] (zA Q) c l).bind λr=>(zN o.L 1).bind λR=>(b.zaf (zA R) r.1 r.2.1).bind λe=>let S:=(((o.L.length:Nat):Int)==3);if S=true then(zn [[101,108,115,101]] e.1 e.2.1).bind λs=>(zN o.L 2).bind λU=>(b.zaf (zA U) s.1 s.2.1).bind λt=>some (t.1,t.2.1,())else some (e.1,e.2.1,())else if(o.Kind==27)=true then(b.zca (zA o) c l).bind λu=>some (u.1,u.2.1,())else if(o.Kind==28)=true then(b.zca (zA o) c l).bind λv=>some (v.1,v.2.1,())else if(o.Kind==29)=true then(b.zca (zA o) c l).bind λx=>some (x.1,x.2.1,())else if(o.Kind==30)=true then(b.zca (zA o) c l).bind λy=>some (y.1,y.2.1,())else if(o.Kind==35)=true then(zn [[116,114,121]] c l).bind λz=>(zN o.L 0).bind λV=>(b.zaf (zA V) z.1 z.2.1).bind λf=>(zN o.L 1).bind λW=>if(W.Kind==25)=true then(zn [[99,97,116,99,104],[40],o.Name,[41]] f.1 f.2.1).bind λA=>(zN o.L 1).bind λX=>(b.zaf (zA X) A.1 A.2.1).bind λB=>zdl b o.L B.1 B.2.1 else zdl b o.L f.1 f.2.1 else if(o.Kind==36)=true then(zN o.L 0).bind λZ=>(b.za4 [115,119,105,116,99,104] (zA Z) c l).bind λC=>(zn [[123]] C.1 C.2.1).bind λD=>(zaI o.L 1 ((o.L.length:Nat):Int)).bind λaa=>(b.zaU aa D.1 D.2.1).bind λE=>(zn [[125]] E.1 E.2.1).bind λH=>some (H.1,H.2.1,())else if(o.Kind==37)=true then(zN o.L 0).bind λab=>if(ab.Kind !=42)=true then zdh b o.L [99,97,115,101] c l else zdh b o.L [100,101,102,97,117,108,116] c l else if(o.Kind==38)=true then(zn [o.Name,[58]] c l).bind λI=>(zN o.L 0).bind λac=>(b.zaf (zA ac) I.1 I.2.1).bind λJ=>some (J.1,J.2.1,())else if(o.Kind==39)=true then(b.zbs (zA o) c l).bind λK=>some (K.1,K.2.1,())else(b.zdI (zA o) c l).bind λM=>some (M.1,M.2.1,())
def zy0(b:zi):=callee Y [] zo2 zqe (u3 (zae b))
def zzS(b:zi):zZ Y (zQ Y zqe):=(.join [[1,2,2,2,3,2,4,2,4,2,4,2,4,2,4,2,5,2,2,2],[2,2,2,2,3,2,4,2,4,2,4,2,4,2,4,2,5,2,2,2],[6,2,2,2]] ⟨[(0,.ptr 0 0),(4,.sl 25)],[oc1 1,.arr 9]⟩ (u3 (zdl b)) (.join [[1,2,2,3,2,4,2,4,2,4,2,4,2,4,2,4,2,4,2,5,2,2,2],[2,2,2,3,2,4,2,4,2,4,2,4,2,4,2,4,2,4,2,5,2,2,2],[6,2,2,2]] ⟨[(0,.ptr 0 0),(4,.sl 25),(7,.str)],[oc1 1,.arr 9]⟩ (u4 (zdh b)) .nil))
theorem zuL(d:zi)(b:zM d):K8 51 (zy0 d):=f8 (zzS d) Tryz.func51 (.cons b.za3 (.cons zaQ (.cons b.zD (.cons zBZ (.cons b.zaU (.cons b.za4 (.cons b.zaf (.cons b.zca (.cons b.zbs (.cons b.zdI .nil)))))))))) ⟨λz=>by kernel_rfl,⟨λz=>by kernel_rfl,⟨⟩⟩⟩
def zi2(n:zi)(a:List zg)(b:Int)(c:Int)(d:Bool)(e:List Str)(f:zg):zBz:=let i:=((f.L.length:Nat):Int);if(decide (i>0))=true then(zn [[61]] d e).bind λg=>(zN f.L 0).bind λj=>(n.zD (zA j) 1 g.1 g.2.1).bind λh=>let k:=(IntKind.wrap .i64 (c+1));some (.inl (a,b,k,h.1,h.2.1,()))else let l:=(IntKind.wrap .i64 (c+1));some (.inl (a,b,l,d,e,()))
def zeP(i:zi)(c:List zg)(d:Int)(e:Int)(f:Bool)(g:List Str)(a:zg):zBz:=(zn [a.Name] f g).bind λb=>zi2 i c d e b.1 b.2.1 (zA a)
def zc2(i:zi):(List zg)×Int×Int×Bool×(List Str)×Unit->zBz| (b,c,a,d,e,())=>if(decide (a<c))=true then(zN b a).bind λf=>if(decide (a>0))=true then(zn [[44]] d e).bind λg=>zeP i b c a g.1 g.2.1 (zA f)else zeP i b c a d e (zA f)else some (.inr (d,e,()))
def zhp(e:zi)(n:zg)(f:Int)(a:Bool)(l:List Str):Option (Bool×(List Str)×Unit):=if(n.Kind==42)=true then some (a,l,())else if(n.Kind==22)=true then(zn [[118,97,114]] a l).bind λb=>Lp.loop (zc2 e) (n.L,((n.L.length:Nat):Int),0,b.1,b.2.1,())else(e.zD (zA n) f a l).bind λc=>some (c.1,c.2.1,())
def zyK(b:zi):=callee Y [] znW zqe (u4 (zhp b))
def zyn(b:zi):zZ Y (zQ Y zqe):=(.loop [[7,5,2,2,3,2,4,2,5,2,2],[8,5,2,2,3,2,4,2,5,2,2],[6,2,2,3,2,4,2,5,2,2],[6,2,2]] ⟨[(0,.ptr 0 0),(22,.sl 25),(23,.int .i64),(24,.int .i64)],[oc1 1,.arr 9]⟩ (zc2 b) (.join [[1,2,2,5,1,2,2,7,5,2,2,3,2,4,2,5,2,2],[2,2,2,5,1,2,2,7,5,2,2,3,2,4,2,5,2,2],[6,1,2,2,7,5,2,2,3,2,4,2,5,2,2],[2,2,2,7,5,2,2,3,2,4,2,5,2,2],[8,5,2,2,3,2,4,2,5,2,2],[6,2,2,3,2,4,2,5,2,2],[6,2,2]] ⟨[(0,.ptr 0 0),(7,.ptr 2 0),(22,.sl 25),(23,.int .i64),(24,.int .i64)],zLE⟩ (u6 (zeP b)) (.join [[1,2,2,2,5,1,2,2,7,5,2,2,3,2,4,2,5,2,2],[2,2,2,2,5,1,2,2,7,5,2,2,3,2,4,2,5,2,2],[6,1,2,2,7,5,2,2,3,2,4,2,5,2,2],[2,2,2,7,5,2,2,3,2,4,2,5,2,2],[8,5,2,2,3,2,4,2,5,2,2],[6,2,2,3,2,4,2,5,2,2],[6,2,2]] ⟨[(0,.ptr 0 0),(7,.ptr 2 0),(22,.sl 25),(23,.int .i64),(24,.int .i64)],zLE⟩ (u6 (zi2 b)) .nil)) .nil)
theorem zum(b:zi)(d:zM b):K8 106 (zyK b):=f8 (zyn b) Tryz.func106 (.cons zaQ (.cons d.zD .nil)) ⟨λz=>by kernel_rfl,⟨λz=>by kernel_rfl,⟨λz=>by kernel_rfl,⟨⟩⟩⟩,trivial⟩
def zhe(e:zi)(n:zg)(h:Int)(a:Bool)(l:List Str):Option (Bool×(List Str)×Unit):=(zb0 (zA n)).bind λf=>let g:=((decide (f.1<h))||((a&&(n.Kind==17))&&(n.Name==[105,110])));if g=true then(e.zcQ [40] [41] a l (zA n)).bind λb=>some (b.1,b.2.1,())else(e.zcw (zA n) a l).bind λc=>some (c.1,c.2.1,())
def zBF(b:zi):=callee Y [] znW zqe (u4 (zhe b))
theorem zyR(b:zi)(d:zM b):K8 108 (zBF b):=f8 zA6 Tryz.func108 ((.cons zxE (.cons (COk.laid d.zcQ) (.cons d.zcw .nil))):zcC hY Tryz.prog zam [(149,(zmY (zcZ Lp.big))),(150,(zho Y [⟨[(0,.ptr 0 0),(1,.str),(2,.str),(3,.fn 151 [.ptr 2 0,.ptr 3 0])],zgn⟩,⟨[(0,.ptr 0 0),(1,.str),(2,.str),(3,.fn 176 [.ptr 2 0,.ptr 3 0])],zgn⟩,⟨[(0,.ptr 0 0),(1,.str),(2,.str),(3,.fn 178 [.ptr 2 0,.ptr 3 0])],zgn⟩,⟨[(0,.ptr 0 0),(1,.str),(2,.str),(3,.fn 155 [.ptr 2 0,.ptr 3 0])],zgn⟩,⟨[(0,.ptr 0 0),(1,.str),(2,.str),(3,.fn 197 [.ptr 2 0,.ptr 3 0])],zjS⟩,⟨[(0,.ptr 0 0),(1,.str),(2,.str),(3,.fn 198 [.ptr 2 0,.ptr 3 0])],zjS⟩,⟨[(0,.ptr 0 0),(1,.str),(2,.str),(3,.fn 199 [.ptr 2 0,.ptr 3 0])],zjS⟩] (znb b))),(152,(zo6 b))]) trivial
def zeX(h:zi)(a:Str)(f:Str)(g:Bool)(l:List Str)(x:zg):Option (Bool×(List Str)×zg×Unit):=(zn [a] false l).bind λc=>(h.zdK c.1 c.2.1 (zA x)).bind λb=>(zn [f] b.1 b.2.1).bind λd=>some (g,d.2.1,(zA b.2.2.1),())
def zwj(b:zi):=callee Y [] znK zi9 (u5 (zeX b))
def zxB:zZ Y (zQ Y zi9):= .nil
theorem zs4(b:zi)(d:zM b):K8 150 (zwj b):=f8 zxB Tryz.func150 (.cons zaQ (.cons d.zdK .nil)) trivial
def zhY(d:zi)(c:Bool)(l:List Str)(x:zg):Option (Bool×(List Str)×zg×Unit):=(d.zcw (zA x) c l).bind λa=>some (a.1,a.2.1,(zA x),())
def zAk(b:zi):=callee Y [] zpa zkM (u3 (zhY b))
def zz0:zZ Y (zQ Y zkM):= .nil
theorem zvH(b:zi)(d:zM b):K8 151 (zAk b):=f8 zz0 Tryz.func151 (.cons d.zcw .nil) trivial
def zh5(c:zi)(n:zg)(a:Bool)(l:List Str):Option (Bool×(List Str)×Unit):=if(n.Kind==1)=true then(zcI n.Num 10).bind λp=>(zn [p.1] a l).bind λd=>some (d.1,d.2.1,())else if(n.Kind==2)=true then(zeK n.Text).bind λq=>(zn [q.1] a l).bind λe=>some (e.1,e.2.1,())else if(n.Kind==3)=true then(zn [n.Name] a l).bind λf=>some (f.1,f.2.1,())else if(n.Kind==4)=true then(zn [[116,104,105,115]] a l).bind λg=>some (g.1,g.2.1,())else if(n.Kind==5)=true then(zn [[110,117,108,108]] a l).bind λh=>some (h.1,h.2.1,())else if(n.Kind==6)=true then(strconv_FormatBool (n.Num==1)).bind λr=>(zn [r.1] a l).bind λi=>some (i.1,i.2.1,())else if(n.Kind==7)=true then(c.zbP [91] [93] a l (zA n)).bind λj=>some (j.1,j.2.1,())else if(n.Kind==8)=true then(c.zch [123] [125] a l (zA n)).bind λk=>some (k.1,k.2.1,())else if(n.Kind==10)=true then(c.zbs (zA n) a l).bind λm=>some (m.1,m.2.1,())else(c.zcg (zA n) a l).bind λo=>some (o.1,o.2.1,())
def zzG(b:zi):=callee Y [] zo2 zqe (u3 (zh5 b))
theorem zvs(b:zi)(d:zM b):K8 152 (zzG b):=f8 zA6 Tryz.func152 ((.cons zjt (.cons zaQ (.cons zvM (.cons zuG (.cons (COk.laid (COk.or d.zbP d.zch)) (.cons d.zbs (.cons d.zcg .nil))))))):zcC hY Tryz.prog zam [(173,(zn1)),(107,(ziv)),(174,(zxQ)),(175,(zns)),(150,(zho Y [⟨[(0,.ptr 0 0),(1,.str),(2,.str),(3,.fn 151 [.ptr 2 0,.ptr 3 0])],zgn⟩,⟨[(0,.ptr 0 0),(1,.str),(2,.str),(3,.fn 176 [.ptr 2 0,.ptr 3 0])],zgn⟩,⟨[(0,.ptr 0 0),(1,.str),(2,.str),(3,.fn 178 [.ptr 2 0,.ptr 3 0])],zgn⟩,⟨[(0,.ptr 0 0),(1,.str),(2,.str),(3,.fn 155 [.ptr 2 0,.ptr 3 0])],zgn⟩,⟨[(0,.ptr 0 0),(1,.str),(2,.str),(3,.fn 197 [.ptr 2 0,.ptr 3 0])],zjS⟩,⟨[(0,.ptr 0 0),(1,.str),(2,.str),(3,.fn 198 [.ptr 2 0,.ptr 3 0])],zjS⟩,⟨[(0,.ptr 0 0),(1,.str),(2,.str),(3,.fn 199 [.ptr 2 0,.ptr 3 0])],zjS⟩] (orC Y zhR zi9 (λz=>b.zbP z.1 z.2.1 z.2.2.1 z.2.2.2.1 z.2.2.2.2.1) (zlr b)))),(112,(zl4 b)),(179,(zlu b))]) trivial
def zfm(h:zi)(a:Str)(f:Str)(g:Bool)(l:List Str)(x:zg):Option (Bool×(List Str)×zg×Unit):=(zn [a] false l).bind λc=>(h.zdJ c.1 c.2.1 (zA x)).bind λb=>(zn [f] b.1 b.2.1).bind λd=>some (g,d.2.1,(zA b.2.2.1),())
def ztc(b:zi):=callee Y [] zhR zi9 (u5 (zfm b))
theorem zp5(b:zi)(d:zM b):K8 150 (ztc b):=f8 zxB Tryz.func150 (.cons zaQ (.cons d.zdJ .nil)) trivial
def zgI(d:zi)(c:Bool)(l:List Str)(x:zg):Option (Bool×(List Str)×zg×Unit):=(d.zb9 x.L c l).bind λa=>some (a.1,a.2.1,(zA x),())
def zxs(b:zi):=callee Y [] zpa zkM (u3 (zgI b))
theorem zsU(b:zi)(d:zM b):K8 176 (zxs b):=f8 zz0 Tryz.func176 (.cons d.zb9 .nil) trivial
def zfz(k:zi)(b:List zg)(c:Int)(d:Int)(e:Bool)(f:List Str)(a:zg):zBz:=if(a.Kind==9)=true then(zeK a.Text).bind λl=>(zn [l.1,[58]] e f).bind λg=>(zN a.L 0).bind λm=>(k.zD (zA m) 1 g.1 g.2.1).bind λh=>let n:=(IntKind.wrap .i64 (d+1));some (.inl (b,c,n,h.1,h.2.1,()))else(k.zD (zA a) 1 e f).bind λi=>let o:=(IntKind.wrap .i64 (d+1));some (.inl (b,c,o,i.1,i.2.1,()))
def zcc(i:zi):(List zg)×Int×Int×Bool×(List Str)×Unit->zBz| (b,c,a,d,e,())=>if(decide (a<c))=true then(zN b a).bind λf=>if(decide (a>0))=true then(zn [[44]] d e).bind λg=>zfz i b c a g.1 g.2.1 (zA f)else zfz i b c a d e (zA f)else some (.inr (d,e,()))
def zhZ(d:zi)(l:List zg)(b:Bool)(c:List Str):Option (Bool×(List Str)×Unit):=Lp.loop (zcc d) (l,((l.length:Nat):Int),0,b,c,())
def zAu(b:zi):=callee Y [] zok zqe (u3 (zhZ b))
def zzP(b:zi):zZ Y (zQ Y zqe):=(.loop [[7,5,2],[8,5,2],[6,2]] ⟨[(0,.ptr 0 0),(8,.sl 25),(9,.int .i64),(10,.int .i64)],[oc1 1,.arr 9]⟩ (zcc b) (.join [[1,1,2,2,5,1,2,2,7,5,2],[2,1,2,2,5,1,2,2,7,5,2],[2,2,2,5,1,2,2,7,5,2],[6,1,2,2,7,5,2],[2,2,2,7,5,2],[8,5,2],[6,2]] ⟨[(0,.ptr 0 0),(5,.ptr 2 0),(8,.sl 25),(9,.int .i64),(10,.int .i64)],zLE⟩ (u6 (zfz b)) .nil) .nil)
theorem zu5(b:zi)(d:zM b):K8 177 (zAu b):=f8 (zzP b) Tryz.func177 (.cons zaQ (.cons zvM (.cons d.zD .nil))) ⟨λz=>by kernel_rfl,⟨λz=>by kernel_rfl,⟨⟩⟩,trivial⟩
def zfu(h:zi)(a:Str)(f:Str)(g:Bool)(l:List Str)(x:zg):Option (Bool×(List Str)×zg×Unit):=(zn [a] false l).bind λc=>(h.zdA c.1 c.2.1 (zA x)).bind λb=>(zn [f] b.1 b.2.1).bind λd=>some (g,d.2.1,(zA b.2.2.1),())
def zsF(b:zi):=callee Y [] zlA zi9 (u5 (zfu b))
theorem zpY(b:zi)(d:zM b):K8 150 (zsF b):=f8 zxB Tryz.func150 (.cons zaQ (.cons d.zdA .nil)) trivial
def zgF(d:zi)(c:Bool)(l:List Str)(x:zg):Option (Bool×(List Str)×zg×Unit):=(d.zb9 x.L c l).bind λa=>some (a.1,a.2.1,(zA x),())
def zxm(b:zi):=callee Y [] zpa zkM (u3 (zgF b))
theorem zsP(b:zi)(d:zM b):K8 178 (zxm b):=f8 zz0 Tryz.func178 (.cons d.zb9 .nil) trivial
def zbW(p:zi):(List Str)×Int×Int×Bool×(List Str)×zg×Unit->Option (((List Str)×Int×Int×Bool×(List Str)×zg×Unit)⊕(Bool×(List Str)×Unit))| (b,c,a,d,e,f,())=>if(decide (a<c))=true then(zN b a).bind λg=>if(decide (a>0))=true then(zn [[44]] d e).bind λh=>(zn [g] h.1 h.2.1).bind λi=>let m:=(IntKind.wrap .i64 (a+1));some (.inl (b,c,m,i.1,i.2.1,(zA f),()))else(zn [g] d e).bind λj=>let n:=(IntKind.wrap .i64 (a+1));some (.inl (b,c,n,j.1,j.2.1,(zA f),()))else(zn [[41]] d e).bind λk=>(p.zci [123] [125] k.1 k.2.1 (zA f)).bind λl=>some (.inr (l.1,l.2.1,()))
def zfN(f:zi)(n:zg)(i:Bool)(l:List Str):Option (Bool×(List Str)×Unit):=(zn [[102,117,110,99,116,105,111,110]] i l).bind λa=>if(!(n.Name==[]))=true then(zn [n.Name] a.1 a.2.1).bind λb=>(zn [[40]] b.1 b.2.1).bind λc=>let g:=((n.Names.length:Nat):Int);Lp.loop (zbW f) (n.Names,g,0,c.1,c.2.1,(zA n),())else(zn [[40]] a.1 a.2.1).bind λd=>let h:=((n.Names.length:Nat):Int);Lp.loop (zbW f) (n.Names,h,0,d.1,d.2.1,(zA n),())
def ztW(b:zi):=callee Y [] zo2 zqe (u3 (zfN b))
def zuz(b:zi):zZ Y (zQ Y zqe):=(.loop [[7,5,2,1,2,2,2,2],[8,5,2,1,2,2,2,2],[6,2,1,2,2,2,2],[2,2,2,2,2]] ⟨[(2,.ptr 2 0),(3,.ptr 3 0),(21,.sl 9),(22,.int .i64),(23,.int .i64)],zgn⟩ (zbW b) .nil .nil)
theorem zq1(b:zi)(d:zM b):K8 112 (ztW b):=f8 (zuz b) Tryz.func112 ((.cons zaQ (.cons (COk.laid d.zci) .nil)):zcC hY Tryz.prog zam [(107,(ziv)),(150,(zho Y [⟨[(0,.ptr 0 0),(1,.str),(2,.str),(3,.fn 151 [.ptr 2 0,.ptr 3 0])],zgn⟩,⟨[(0,.ptr 0 0),(1,.str),(2,.str),(3,.fn 176 [.ptr 2 0,.ptr 3 0])],zgn⟩,⟨[(0,.ptr 0 0),(1,.str),(2,.str),(3,.fn 178 [.ptr 2 0,.ptr 3 0])],zgn⟩,⟨[(0,.ptr 0 0),(1,.str),(2,.str),(3,.fn 155 [.ptr 2 0,.ptr 3 0])],zgn⟩,⟨[(0,.ptr 0 0),(1,.str),(2,.str),(3,.fn 197 [.ptr 2 0,.ptr 3 0])],zjS⟩,⟨[(0,.ptr 0 0),(1,.str),(2,.str),(3,.fn 198 [.ptr 2 0,.ptr 3 0])],zjS⟩,⟨[(0,.ptr 0 0),(1,.str),(2,.str),(3,.fn 199 [.ptr 2 0,.ptr 3 0])],zjS⟩] (zls b)))]) ⟨λz=>by kernel_rfl,trivial,trivial⟩
def zfx(h:zi)(a:Str)(f:Str)(g:Bool)(l:List Str)(x:zg):Option (Bool×(List Str)×zg×Unit):=(zn [a] false l).bind λc=>(h.zcB c.1 c.2.1 (zA x)).bind λb=>(zn [f] b.1 b.2.1).bind λd=>some (g,d.2.1,(zA b.2.2.1),())
def zsQ(b:zi):=callee Y [] zlt zi9 (u5 (zfx b))
theorem zp8(b:zi)(d:zM b):K8 150 (zsQ b):=f8 zxB Tryz.func150 (.cons zaQ (.cons d.zcB .nil)) trivial
def ze2(d:zi)(c:Bool)(l:List Str)(x:zg):Option (Bool×(List Str)×zg×Unit):=(d.zaU x.L c l).bind λa=>some (a.1,a.2.1,(zA x),())
def zrS(b:zi):=callee Y [] zpa zkM (u3 (ze2 b))
theorem zpc(b:zi)(d:zM b):K8 155 (zrS b):=f8 zz0 Tryz.func155 (.cons d.zaU .nil) trivial
def zeO(c:zi)(k:Int)(d:Bool)(e:List Str)(l:zg)(a:List zg):Option (Bool×(List Str)×Unit):=if(l.Kind==14)=true then(zn [[110,101,119]] d e).bind λf=>(zN a 0).bind λm=>(c.zD (zA m) 12 f.1 f.2.1).bind λg=>(c.zbm [40] [41] g.1 g.2.1 a).bind λh=>some (h.1,h.2.1,())else(zN a 0).bind λn=>(c.zD (zA n) k d e).bind λi=>(c.zbm [40] [41] i.1 i.2.1 a).bind λj=>some (j.1,j.2.1,())
def zbt(f:zi)(a:Bool)(b:List Str)(c:zg)(d:List zg):Option (Bool×(List Str)×Unit):=zeO f 11 a b (zA c) d
def zT(b:zi)(o:zg)(c:Bool)(l:List Str):Option (Bool×(List Str)×Unit):=if(o.Kind==11)=true then(zN o.L 0).bind λD=>(b.zD (zA D) 11 c l).bind λg=>(zn [[46],o.Name] g.1 g.2.1).bind λh=>some (h.1,h.2.1,())else if(o.Kind==12)=true then(zN o.L 0).bind λE=>(b.zD (zA E) 11 c l).bind λi=>(b.zbT [91] [93] i.1 i.2.1 o.L).bind λj=>some (j.1,j.2.1,())else if(o.Kind==13)=true then zbt b c l (zA o) o.L else if(o.Kind==14)=true then zbt b c l (zA o) o.L else if(o.Kind==15)=true then(zn [o.Name] c l).bind λk=>(zN o.L 0).bind λH=>(b.zD (zA H) 9 k.1 k.2.1).bind λm=>some (m.1,m.2.1,())else if(o.Kind==16)=true then if(o.Num==1)=true then(zn [o.Name] c l).bind λn=>(zN o.L 0).bind λI=>(b.zD (zA I) 11 n.1 n.2.1).bind λd=>if(o.Num==0)=true then(zn [o.Name] d.1 d.2.1).bind λp=>some (p.1,p.2.1,())else some (d.1,d.2.1,())else(zN o.L 0).bind λJ=>(b.zD (zA J) 11 c l).bind λe=>if(o.Num==0)=true then(zn [o.Name] e.1 e.2.1).bind λq=>some (q.1,q.2.1,())else some (e.1,e.2.1,())else if(o.Kind==19)=true then(zN o.L 0).bind λK=>(b.zD (zA K) 3 c l).bind λr=>(b.zcl [63] [58] r.1 r.2.1 o.L).bind λf=>(zN f.2.2.1 2).bind λM=>(b.zD (zA M) 1 f.1 f.2.1).bind λs=>some (s.1,s.2.1,())else if(o.Kind==20)=true then(zN o.L 0).bind λN=>(b.zD (zA N) 11 c l).bind λt=>(zn [o.Name] t.1 t.2.1).bind λu=>(zN o.L 1).bind λO=>(b.zD (zA O) 1 u.1 u.2.1).bind λv=>some (v.1,v.2.1,())else if(o.Kind==21)=true then(zN o.L 0).bind λP=>(b.zD (zA P) 0 c l).bind λx=>(zn [[44]] x.1 x.2.1).bind λy=>(zN o.L 1).bind λQ=>(b.zD (zA Q) 1 y.1 y.2.1).bind λz=>some (z.1,z.2.1,())else(zN o.L 0).bind λR=>(zb0 (zA o)).bind λS=>(b.zD (zA R) S.1 c l).bind λA=>(zn [o.Name] A.1 A.2.1).bind λB=>(zN o.L 1).bind λU=>(zb0 (zA o)).bind λV=>let W:=(IntKind.wrap .i64 (V.1+1));(b.zD (zA U) W B.1 B.2.1).bind λC=>some (C.1,C.2.1,())
def zsG(b:zi):=callee Y [] zo2 zqe (u3 (zT b))
def zsR(b:zi):zZ Y (zQ Y zqe):=(.join [[1,3,2,4,2,4,2,5,2,2,2],[2,3,2,4,2,4,2,5,2,2,2],[6,2,2,2]] ⟨[(2,.ptr 2 0),(3,.ptr 3 0),(4,.ptr 4 0)],om9⟩ (u4 (zbt b)) (.join [[1,1,2,3,2,4,2,4,2,5,2,2,2],[2,1,2,3,2,4,2,4,2,5,2,2,2],[2,2,3,2,4,2,4,2,5,2,2,2],[6,2,2,2]] ⟨[(2,.ptr 2 0),(3,.ptr 3 0),(4,.ptr 4 0),(5,.int .i64)],om9⟩ (u5 (zeO b)) .nil))
theorem zpQ(b:zi)(d:zM b):K8 179 (zsG b):=f8 (zsR b) Tryz.func179 ((.cons d.zD (.cons zaQ (.cons (COk.laid (COk.or d.zbT (COk.or d.zbm d.zcl))) (.cons zxE .nil)))):zcC hY Tryz.prog zam [(108,(zsm b)),(107,(ziv)),(150,(zho Y [⟨[(0,.ptr 0 0),(1,.str),(2,.str),(3,.fn 151 [.ptr 2 0,.ptr 3 0])],zgn⟩,⟨[(0,.ptr 0 0),(1,.str),(2,.str),(3,.fn 176 [.ptr 2 0,.ptr 3 0])],zgn⟩,⟨[(0,.ptr 0 0),(1,.str),(2,.str),(3,.fn 178 [.ptr 2 0,.ptr 3 0])],zgn⟩,⟨[(0,.ptr 0 0),(1,.str),(2,.str),(3,.fn 155 [.ptr 2 0,.ptr 3 0])],zgn⟩,⟨[(0,.ptr 0 0),(1,.str),(2,.str),(3,.fn 197 [.ptr 2 0,.ptr 3 0])],zjS⟩,⟨[(0,.ptr 0 0),(1,.str),(2,.str),(3,.fn 198 [.ptr 2 0,.ptr 3 0])],zjS⟩,⟨[(0,.ptr 0 0),(1,.str),(2,.str),(3,.fn 199 [.ptr 2 0,.ptr 3 0])],zjS⟩] (orC Y zhP zft (λz=>b.zbT z.1 z.2.1 z.2.2.1 z.2.2.2.1 z.2.2.2.2.1) (orC Y zhF zft (λz=>b.zbm z.1 z.2.1 z.2.2.1 z.2.2.2.1 z.2.2.2.2.1) (zly b))))),(149,(zmY (zcZ Lp.big)))]) ⟨λz=>by kernel_rfl,⟨λz=>by kernel_rfl,⟨⟩⟩⟩
def zfl(i:zi)(a:Str)(f:Str)(g:Bool)(l:List Str)(h:List zg):Option (Bool×(List Str)×(List zg)×Unit):=(zn [a] false l).bind λc=>(i.zcq c.1 c.2.1 h).bind λb=>(zn [f] b.1 b.2.1).bind λd=>some (g,d.2.1,b.2.2.1,())
def zsI(b:zi):=callee Y [] zhP zft (u5 (zfl b))
def zsV:zZ Y (zQ Y zft):= .nil
theorem zpS(b:zi)(d:zM b):K8 150 (zsI b):=f8 zsV Tryz.func150 (.cons zaQ (.cons d.zcq .nil)) trivial
def zeD(f:zi)(e:Bool)(l:List Str)(a:List zg):Option (Bool×(List Str)×(List zg)×Unit):=(zN a 1).bind λc=>(f.zD (zA c) 0 e l).bind λb=>some (b.1,b.2.1,a,())
def zqg(b:zi):=callee Y [] zkh zgD (u3 (zeD b))
def zqB:zZ Y (zQ Y zgD):= .nil
theorem zoq(b:zi)(d:zM b):K8 197 (zqg b):=f8 zqB Tryz.func197 (.cons d.zD .nil) trivial
def zfn(i:zi)(a:Str)(f:Str)(g:Bool)(l:List Str)(h:List zg):Option (Bool×(List Str)×(List zg)×Unit):=(zn [a] false l).bind λc=>(i.zco c.1 c.2.1 h).bind λb=>(zn [f] b.1 b.2.1).bind λd=>some (g,d.2.1,b.2.2.1,())
def ztd(b:zi):=callee Y [] zhF zft (u5 (zfn b))
theorem zp9(b:zi)(d:zM b):K8 150 (ztd b):=f8 zsV Tryz.func150 (.cons zaQ (.cons d.zco .nil)) trivial
def zeE(f:zi)(e:Bool)(l:List Str)(a:List zg):Option (Bool×(List Str)×(List zg)×Unit):=(zaI a 1 ((a.length:Nat):Int)).bind λc=>(f.zb9 c e l).bind λb=>some (b.1,b.2.1,a,())
def zqn(b:zi):=callee Y [] zkh zgD (u3 (zeE b))
theorem zom(b:zi)(d:zM b):K8 198 (zqn b):=f8 zqB Tryz.func198 (.cons d.zb9 .nil) trivial
def zfq(i:zi)(a:Str)(f:Str)(g:Bool)(l:List Str)(h:List zg):Option (Bool×(List Str)×(List zg)×Unit):=(zn [a] false l).bind λc=>(i.zcp c.1 c.2.1 h).bind λb=>(zn [f] b.1 b.2.1).bind λd=>some (g,d.2.1,b.2.2.1,())
def zsZ(b:zi):=callee Y [] zlp zft (u5 (zfq b))
theorem zpO(b:zi)(d:zM b):K8 150 (zsZ b):=f8 zsV Tryz.func150 (.cons zaQ (.cons d.zcp .nil)) trivial
def zeH(f:zi)(e:Bool)(l:List Str)(a:List zg):Option (Bool×(List Str)×(List zg)×Unit):=(zN a 1).bind λc=>(f.zD (zA c) 1 e l).bind λb=>some (b.1,b.2.1,a,())
def zqL(b:zi):=callee Y [] zkh zgD (u3 (zeH b))
theorem zoo(b:zi)(d:zM b):K8 199 (zqL b):=f8 zqB Tryz.func199 (.cons d.zD .nil) trivial
def zfW(g:zi)(e:Str)(n:zg)(f:Bool)(l:List Str):Option (Bool×(List Str)×Unit):=(zn [e,[40]] f l).bind λa=>(g.zD (zA n) 0 a.1 a.2.1).bind λb=>(zn [[41]] b.1 b.2.1).bind λc=>some (c.1,c.2.1,())
def zzU(b:zi):=callee Y [] zpC zqe (u4 (zfW b))
theorem zvh(b:zi)(d:zM b):K8 110 (zzU b):=f8 zA6 Tryz.func110 (.cons zaQ (.cons d.zD .nil)) trivial
def zcF(l:zi):(List zg)×(List zg)×Int×Int×Bool×(List Str)×Unit->Option (((List zg)×(List zg)×Int×Int×Bool×(List Str)×Unit)⊕(Bool×(List Str)×Unit))| (a,c,d,b,e,f,())=>if(decide (b<d))=true then(zN c b).bind λm=>(zn [[59]] e f).bind λg=>(l.za3 (zA m) 0 g.1 g.2.1).bind λh=>let n:=(IntKind.wrap .i64 (b+1));some (.inl (a,c,d,n,h.1,h.2.1,()))else(zn [[41]] e f).bind λi=>let o:=(IntKind.wrap .i64 (((a.length:Nat):Int) -1));(zN a o).bind λp=>(l.zaf (zA p) i.1 i.2.1).bind λj=>some (.inr (j.1,j.2.1,()))
def zbM(b:zi)(n:zg)(c:Bool)(l:List Str):Option (Bool×(List Str)×Unit):=if(n.Kind==27)=true then(zN n.L 0).bind λr=>(b.za4 [119,104,105,108,101] (zA r) c l).bind λd=>let s:=(IntKind.wrap .i64 (((n.L.length:Nat):Int) -1));(zN n.L s).bind λt=>(b.zaf (zA t) d.1 d.2.1).bind λe=>some (e.1,e.2.1,())else if(n.Kind==28)=true then(zn [[100,111]] c l).bind λf=>(zN n.L 0).bind λu=>(b.zaf (zA u) f.1 f.2.1).bind λg=>(zN n.L 1).bind λv=>(b.za4 [119,104,105,108,101] (zA v) g.1 g.2.1).bind λh=>(zn [[59]] h.1 h.2.1).bind λi=>some (i.1,i.2.1,())else(zn [[102,111,114],[40]] c l).bind λj=>if(n.Kind==30)=true then(zN n.L 0).bind λx=>(b.za3 (zA x) 11 true j.2.1).bind λy=>(zn [[105,110]] false y.2.1).bind λk=>(zN n.L 1).bind λz=>(b.zD (zA z) 0 k.1 k.2.1).bind λm=>(zn [[41]] m.1 m.2.1).bind λo=>let A:=(IntKind.wrap .i64 (((n.L.length:Nat):Int) -1));(zN n.L A).bind λB=>(b.zaf (zA B) o.1 o.2.1).bind λp=>some (p.1,p.2.1,())else(zN n.L 0).bind λC=>(b.za3 (zA C) 0 true j.2.1).bind λD=>(zaI n.L 1 3).bind λq=>Lp.loop (zcF b) (n.L,q,((q.length:Nat):Int),0,false,D.2.1,())
def zzT(b:zi):=callee Y [] zo2 zqe (u3 (zbM b))
def zyZ(b:zi):zZ Y (zQ Y zqe):=(.loop [[7,5,2,2,2,4,2,1,2,2,4,2,4,2,5,2,1,2,2],[8,5,2,2,2,4,2,1,2,2,4,2,4,2,5,2,1,2,2],[6,2,2,2,4,2,1,2,2,4,2,4,2,5,2,1,2,2],[2,2,2,4,2,4,2,5,2,1,2,2],[6,2,1,2,2],[2,2,2]] ⟨[(0,.ptr 0 0),(4,.sl 25),(45,.sl 25),(46,.int .i64),(47,.int .i64)],[oc1 1,.arr 9]⟩ (zcF b) .nil .nil)
theorem zuN(d:zi)(b:zM d):K8 111 (zzT d):=f8 (zyZ d) Tryz.func111 (.cons b.za4 (.cons b.zaf (.cons zaQ (.cons b.za3 (.cons b.zD .nil))))) ⟨λz=>by kernel_rfl,trivial,trivial⟩
def zcE(k:zi):(List zg)×Int×Int×Bool×(List Str)×Unit->zBz| (b,c,a,d,e,())=>if(decide (a<c))=true then(zN b a).bind λh=>(k.zD (zA h) 0 d e).bind λf=>let i:=(IntKind.wrap .i64 (a+1));some (.inl (b,c,i,f.1,f.2.1,()))else(zn [[59]] d e).bind λg=>some (.inr (g.1,g.2.1,()))
def zcd(f:zi)(b:Bool)(c:List Str)(a:zg):Option (Bool×(List Str)×Unit):=if(!(a.Name==[]))=true then(zn [a.Name] b c).bind λd=>let g:=((a.L.length:Nat):Int);Lp.loop (zcE f) (a.L,g,0,d.1,d.2.1,())else let h:=((a.L.length:Nat):Int);Lp.loop (zcE f) (a.L,h,0,b,c,())
def zh6(c:zi)(n:zg)(b:Bool)(l:List Str):Option (Bool×(List Str)×Unit):=if(n.Kind==31)=true then(zn [[98,114,101,97,107]] b l).bind λd=>zcd c d.1 d.2.1 (zA n)else if(n.Kind==32)=true then(zn [[99,111,110,116,105,110,117,101]] b l).bind λe=>zcd c e.1 e.2.1 (zA n)else if(n.Kind==33)=true then(zn [[114,101,116,117,114,110]] b l).bind λf=>zcd c f.1 f.2.1 (zA n)else if(n.Kind==34)=true then(zn [[116,104,114,111,119]] b l).bind λg=>zcd c g.1 g.2.1 (zA n)else zcd c b l (zA n)
def zy8(b:zi):=callee Y [] zo2 zqe (u3 (zh6 b))
def zzE(b:zi):zZ Y (zQ Y zqe):=(.join [[1,1,2,2],[2,1,2,2],[2,2,2]] ⟨[(0,.ptr 0 0),(3,.ptr 2 0)],zLE⟩ (u3 (zcd b)) (.loop [[7,5,2,1,2,2,2],[8,5,2,1,2,2,2],[6,2,1,2,2,2],[2,2,2,2]] ⟨[(0,.ptr 0 0),(37,.sl 25),(38,.int .i64),(39,.int .i64)],[oc1 1,.arr 9]⟩ (zcE b) .nil .nil))
theorem zvF(b:zi)(d:zM b):K8 113 (zy8 b):=f8 (zzE b) Tryz.func113 (.cons zaQ (.cons d.zD .nil)) ⟨λz=>by kernel_rfl,⟨λz=>by kernel_rfl,trivial,trivial⟩⟩
def zy:Nat->zi
 |0=>⟨λ_ _ _=>none,λ_ _ _=>none,λ_ _ _ _=>none,λ_ _ _ _=>none,λ_ _ _ _ _=>none,λ_ _ _=>none,λ_ _ _=>none,λ_ _ _ _ _=>none,λ_ _ _=>none,λ_ _ _=>none,λ_ _ _ _ _=>none,λ_ _ _=>none,λ_ _ _=>none,λ_ _ _ _ _=>none,λ_ _ _=>none,λ_ _ _=>none,λ_ _ _ _ _=>none,λ_ _ _=>none,λ_ _ _ _ _=>none,λ_ _ _=>none,λ_ _ _ _ _=>none,λ_ _ _=>none,λ_ _ _ _=>none,λ_ _ _=>none,λ_ _ _=>none⟩
 |n+1=>⟨zhw (zy n),zae (zy n),zhp (zy n),zhe (zy n),zeX (zy n),zhY (zy n),zh5 (zy n),zfm (zy n),zgI (zy n),zhZ (zy n),zfu (zy n),zgF (zy n),zfN (zy n),zfx (zy n),ze2 (zy n),zT (zy n),zfl (zy n),zeD (zy n),zfn (zy n),zeE (zy n),zfq (zy n),zeH (zy n),zfW (zy n),zbM (zy n),zh6 (zy n)⟩
theorem zJ: ∀n,zM (zy n)
 |0=>⟨COk.none ⟨⟨_,Tryz.func29,by kernel_rfl,rfl⟩⟩,COk.none ⟨⟨_,Tryz.func51,by kernel_rfl,rfl⟩⟩,COk.none ⟨⟨_,Tryz.func106,by kernel_rfl,rfl⟩⟩,COk.none ⟨⟨_,Tryz.func108,by kernel_rfl,rfl⟩⟩,COk.none ⟨⟨_,Tryz.func150,by kernel_rfl,rfl⟩⟩,COk.none ⟨⟨_,Tryz.func151,by kernel_rfl,rfl⟩⟩,COk.none ⟨⟨_,Tryz.func152,by kernel_rfl,rfl⟩⟩,COk.none ⟨⟨_,Tryz.func150,by kernel_rfl,rfl⟩⟩,COk.none ⟨⟨_,Tryz.func176,by kernel_rfl,rfl⟩⟩,COk.none ⟨⟨_,Tryz.func177,by kernel_rfl,rfl⟩⟩,COk.none ⟨⟨_,Tryz.func150,by kernel_rfl,rfl⟩⟩,COk.none ⟨⟨_,Tryz.func178,by kernel_rfl,rfl⟩⟩,COk.none ⟨⟨_,Tryz.func112,by kernel_rfl,rfl⟩⟩,COk.none ⟨⟨_,Tryz.func150,by kernel_rfl,rfl⟩⟩,COk.none ⟨⟨_,Tryz.func155,by kernel_rfl,rfl⟩⟩,COk.none ⟨⟨_,Tryz.func179,by kernel_rfl,rfl⟩⟩,COk.none ⟨⟨_,Tryz.func150,by kernel_rfl,rfl⟩⟩,COk.none ⟨⟨_,Tryz.func197,by kernel_rfl,rfl⟩⟩,COk.none ⟨⟨_,Tryz.func150,by kernel_rfl,rfl⟩⟩,COk.none ⟨⟨_,Tryz.func198,by kernel_rfl,rfl⟩⟩,COk.none ⟨⟨_,Tryz.func150,by kernel_rfl,rfl⟩⟩,COk.none ⟨⟨_,Tryz.func199,by kernel_rfl,rfl⟩⟩,COk.none ⟨⟨_,Tryz.func110,by kernel_rfl,rfl⟩⟩,COk.none ⟨⟨_,Tryz.func111,by kernel_rfl,rfl⟩⟩,COk.none ⟨⟨_,Tryz.func113,by kernel_rfl,rfl⟩⟩⟩
 |n+1=>⟨zuk _ (zJ n),zuL _ (zJ n),zum _ (zJ n),zyR _ (zJ n),zs4 _ (zJ n),zvH _ (zJ n),zvs _ (zJ n),zp5 _ (zJ n),zsU _ (zJ n),zu5 _ (zJ n),zpY _ (zJ n),zsP _ (zJ n),zq1 _ (zJ n),zp8 _ (zJ n),zpc _ (zJ n),zpQ _ (zJ n),zpS _ (zJ n),zoq _ (zJ n),zp9 _ (zJ n),zom _ (zJ n),zpO _ (zJ n),zoo _ (zJ n),zvh _ (zJ n),zuN _ (zJ n),zvF _ (zJ n)⟩
def zaU:(List zg)->Bool->(List Str)->Option (Bool×(List Str)×Unit):=(zy Lp.big).zaU
theorem zv7:K8 29 (znY (zy Lp.big)):=(zJ Lp.big).zaU
def zaf:zg->Bool->(List Str)->Option (Bool×(List Str)×Unit):=(zy Lp.big).zaf
def za3:zg->Int->Bool->(List Str)->Option (Bool×(List Str)×Unit):=(zy Lp.big).za3
def zD:zg->Int->Bool->(List Str)->Option (Bool×(List Str)×Unit):=(zy Lp.big).zD
def zcQ:Str->Str->Bool->(List Str)->zg->Option (Bool×(List Str)×zg×Unit):=(zy Lp.big).zcQ
def zdK:Bool->(List Str)->zg->Option (Bool×(List Str)×zg×Unit):=(zy Lp.big).zdK
def zcw:zg->Bool->(List Str)->Option (Bool×(List Str)×Unit):=(zy Lp.big).zcw
def zbP:Str->Str->Bool->(List Str)->zg->Option (Bool×(List Str)×zg×Unit):=(zy Lp.big).zbP
def zdJ:Bool->(List Str)->zg->Option (Bool×(List Str)×zg×Unit):=(zy Lp.big).zdJ
def zb9:(List zg)->Bool->(List Str)->Option (Bool×(List Str)×Unit):=(zy Lp.big).zb9
def zch:Str->Str->Bool->(List Str)->zg->Option (Bool×(List Str)×zg×Unit):=(zy Lp.big).zch
def zdA:Bool->(List Str)->zg->Option (Bool×(List Str)×zg×Unit):=(zy Lp.big).zdA
def zbs:zg->Bool->(List Str)->Option (Bool×(List Str)×Unit):=(zy Lp.big).zbs
def zci:Str->Str->Bool->(List Str)->zg->Option (Bool×(List Str)×zg×Unit):=(zy Lp.big).zci
def zcB:Bool->(List Str)->zg->Option (Bool×(List Str)×zg×Unit):=(zy Lp.big).zcB
def zcg:zg->Bool->(List Str)->Option (Bool×(List Str)×Unit):=(zy Lp.big).zcg
def zbT:Str->Str->Bool->(List Str)->(List zg)->Option (Bool×(List Str)×(List zg)×Unit):=(zy Lp.big).zbT
def zcq:Bool->(List Str)->(List zg)->Option (Bool×(List Str)×(List zg)×Unit):=(zy Lp.big).zcq
def zbm:Str->Str->Bool->(List Str)->(List zg)->Option (Bool×(List Str)×(List zg)×Unit):=(zy Lp.big).zbm
def zco:Bool->(List Str)->(List zg)->Option (Bool×(List Str)×(List zg)×Unit):=(zy Lp.big).zco
def zcl:Str->Str->Bool->(List Str)->(List zg)->Option (Bool×(List Str)×(List zg)×Unit):=(zy Lp.big).zcl
def zcp:Bool->(List Str)->(List zg)->Option (Bool×(List Str)×(List zg)×Unit):=(zy Lp.big).zcp
def za4:Str->zg->Bool->(List Str)->Option (Bool×(List Str)×Unit):=(zy Lp.big).za4
def zca:zg->Bool->(List Str)->Option (Bool×(List Str)×Unit):=(zy Lp.big).zca
def zdI:zg->Bool->(List Str)->Option (Bool×(List Str)×Unit):=(zy Lp.big).zdI
def strings_Join(a:List Str)(b:Str):Option (Str×Unit):=if a.length<=140737488355328/\(Lib.join a b).length<=140737488355328 then some (Lib.join a b,())else none
def zuR:Shape:=⟨[(0,.sl 9),(1,.str)],[]⟩
def zEm:=callee Y [] zuR zzW (λz=>strings_Join z.1 z.2.1)
theorem zzw(xs:List Str)(sep r:Str)(hN:strings_Join xs sep=some (r,()))(w:World)(F:Heap)(hv:F.Sub w)(A:Option Addr)(c:Nat)(hlc:xs.length<=c)
  (hx:xs=[]\/∃b o,A=some ⟨b,o,none⟩/\b<w.heap.size/\∀(i:Nat) (x:Str),xs[i]? =some x->w.cell? ⟨b,o+i,none⟩=some (.string ⟨⟨x⟩⟩)):
  Calls Tryz.prog 30 #[.slice A xs.length c,.string ⟨⟨sep⟩⟩] w λe w'=>e= .returned (.string ⟨⟨r⟩⟩)/\Gw.St w F No w' F []:=by
 unfold strings_Join at hN;split at hN
 ·rename_i hc;cases hN;rcases hx with rfl| ⟨b,o,rfl,hbk,hcell⟩
  ·exact(Tryz.strings_Join_none A c ⟨⟨sep⟩⟩ w).mono λe w' h=>⟨h.1,by rw[h.2];exact Gw.St.start hv⟩
  ·have hmap:(xs.map λs=>(⟨⟨s⟩⟩:ByteArray)).map (·.data.toList)=xs:=by rw[List.map_map];exact List.map_id xs
   have hcall:=Tryz.strings_Join b o c (xs.map λs=>⟨⟨s⟩⟩) ⟨⟨sep⟩⟩ w (λj x hx=>by
    rw[List.getElem?_map]at hx;obtain⟨s,hs,rfl⟩:=Option.map_eq_some_iff.1 hx;exact hcell j s hs) hbk (by simpa using hc.1) (by simpa using hlc) (by rw[hmap];exact hc.2)
   rw[List.length_map,hmap]at hcall;exact hcall.mono λe w' h=>⟨h.1,St.zKw hv h.2⟩
 ·cases hN
theorem zCk:K8 30 zEm:=
 COk.zPX (l:=zuR.l) ⟨⟨_,Tryz.func30,by kernel_rfl,rfl⟩⟩ ⟨rfl,rfl⟩ rfl λz zo h w F vals hG hv hr=>by
  obtain⟨u,r1,rfl,q1,r2⟩:=hr.inv;obtain⟨u2,r3,rfl,q2,r4⟩:=r2.inv;have e2:=q2.zbj;subst e2;have hnil:=r4.zfb;subst hnil;obtain⟨A,c,rfl,hlc,hx⟩:=zS6 q1 hv;exact(zzw z.1 z.2.1 zo.1 h w F hv A c hlc hx).mono λe w' h=>⟨F,_,h.1,.v,h.2⟩
def zts(n:zg):Option (Str×Int×Unit):=(zqs (zA n)).bind λa=>if(a.1 !=0)=true then some ([],a.1,())else(zaU n.L false []).bind λc=>(strings_Join c.2.1 [32]).bind λb=>let d:=((b.1.length:Nat):Int);if(decide (d>4096))=true then some ([],2,())else some (b.1,0,())
def zKe:=callee Y [] zDa zCU (λz=>zts z.1)
def zJP:zZ Y (zQ Y zCU):= .nil
theorem zHH:K8 16 (zKe):=f8 zJP Tryz.func16 (.cons zGh (.cons zv7 (.cons zCk .nil))) trivial
structure zbc where
 zbJ:zg->zg->Option (Bool×Unit)
def znw:Shape:=⟨[(0,.st 25),(1,.st 25)],[]⟩
def zm7(b:zbc):=callee Y [] znw zx3 (u2 b.zbJ)
structure zkg (g_:zbc):Prop where
 zbJ:COk hY Tryz.prog zam 12 (zm7 g_)
def zbR(j:zbc):Int×Int×zg×zg×Unit->zTX| (b,a,c,d,())=>if(decide (a<b))=true then(zN c.L a).bind λe=>(zN d.L a).bind λf=>(j.zbJ (zA e) (zA f)).bind λg=>if(!g.1)=true then some (.inr (false,()))else let h:=(IntKind.wrap .i64 (a+1));some (.inl (b,h,(zA c),(zA d),()))else some (.inr (true,()))
def zcj(j:zbc):Int×Int×zg×zg×Unit->zTX| (d,a,b,c,())=>if(decide (a<d))=true then(zN b.Names a).bind λe=>(zN c.Names a).bind λf=>if(!(e==f))=true then some (.inr (false,()))else let g:=(IntKind.wrap .i64 (a+1));some (.inl (d,g,(zA b),(zA c),()))else let h:=((b.L.length:Nat):Int);zjx .inr (Lp.loop (zbR j) (h,0,(zA b),(zA c),()))
def zgu(i:zbc)(a:zg)(b:zg):Option (Bool×Unit):=let c:=((a.Kind !=b.Kind)||(!(a.Name==b.Name)));let d:=((c||(a.Num !=b.Num))||(!(a.Text==b.Text)));let e:=(d||(((a.Names.length:Nat):Int) !=((b.Names.length:Nat):Int)));let f:=(e||(((a.L.length:Nat):Int) !=((b.L.length:Nat):Int)));if f=true then some (false,())else let g:=((a.Names.length:Nat):Int);Lp.loop (zcj i) (g,0,(zA a),(zA b),())
def zwM(b:zbc):=callee Y [] znw zx3 (u2 (zgu b))
def zxD(b:zbc):zZ Y (zQ Y zx3):=(.loop [[7,5,2,1,2,2],[8,5,2,1,2,2],[6,2,1,2,2],[2,2,2]] ⟨[(2,.ptr 0 0),(3,.ptr 1 0),(53,.int .i64),(54,.int .i64)],[.whole 25 25,.whole 25 25]⟩ (zcj b) .nil (.loop [[7,5,2,1,2,2,2],[8,5,2,1,2,2,2],[6,2,1,2,2,2],[2,2,2,2]] ⟨[(2,.ptr 0 0),(3,.ptr 1 0),(71,.int .i64),(72,.int .i64)],[.whole 25 25,.whole 25 25]⟩ (zbR b) .nil .nil))
theorem zsW(b:zbc)(d:zkg b):K8 12 (zwM b):=f8 (zxD b) Tryz.func12 (.cons d.zbJ .nil) ⟨λz=>by kernel_rfl,trivial,⟨λz=>by kernel_rfl,trivial,trivial⟩⟩
def zbb:Nat->zbc
 |0=>⟨λ_ _=>none⟩
 |n+1=>⟨zgu (zbb n)⟩
theorem zjB: ∀n,zkg (zbb n)
 |0=>⟨COk.none ⟨⟨_,Tryz.func12,by kernel_rfl,rfl⟩⟩⟩
 |n+1=>⟨zsW _ (zjB n)⟩
def zbJ:zg->zg->Option (Bool×Unit):=(zbb Lp.big).zbJ
theorem zvj:K8 12 (zm7 (zbb Lp.big)):=(zjB Lp.big).zbJ
def zcS(n:zg):Option (Bool×Unit):=zh3.bind λb=>(zts (zA n)).bind λa=>let d:=((a.2.1 !=0)||(((n.L.length:Nat):Int) !=1));(if d=true then some true else(zN n.L 0).bind λe=>some (e.Kind !=24)).bind λf=>let g:=(f||(decide (((a.1.length:Nat):Int)>4000)));let h:=(g||(decide (((a.1.length:Nat):Int)<2)));if h=true then some (b.1,())else let i:=((a.1.length:Nat):Int);let j:=(IntKind.wrap .i64 (i -2));(zaI a.1 0 j).bind λk=>(zh9 [40,40] k).bind λl=>(zh9 l [10,41,41]).bind λm=>(zcJ m).bind λc=>let o:=(b.1&&(c.2.2.1==0));if o=true then(zbJ (zA c.1) (zA n)).bind λp=>some (p.1,())else some (false,())
def zit:=callee Y [] zDa zx3 (λz=>zcS z.1)
theorem zmZ:K8 8 (zit):=f8 zEf Tryz.func8 (.cons zuW (.cons zHH (.cons zsu (.cons zvj .nil)))) trivial
end
end Go.D08
