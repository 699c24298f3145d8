/- Texts for a statement of this seat. -/
import Derived.Test.YtdapbipagjmolaaGreatDoorMb2
import Derived.Lib.AppendIntMem
set_option linter.unusedSectionVars false
set_option linter.unusedVariables false
set_option linter.unusedSimpArgs false
set_option linter.unnecessarySimpa false
namespace Go.D08
open Go Go.Gw Go.Dn Go.RowKit Go.Proofs
set_option maxRecDepth 100000
variable [Lp]
noncomputable section
structure zar (F:Heap):Prop where
 maxLen: ∃m,zic F 0 0 (.int .i64 m)
 zCS:zic F 7 15 (.int .u8 4)
 zIr: ∃t p,zic F 1 0 (.iface t p)
 zH5: ∃t p,zic F 2 0 (.iface t p)
 zC7: ∀w:World,F.Sub w->Lib.TabIs Tryz.prog w "internal/strconv.uint64pow10" .u64 Lib.pow10Tab
theorem zar.mono{F F':Heap}(h:zar F)(hle:F.Le F'):zar F':=⟨h.maxLen.imp λ_ e=>zgA hle e,zgA hle h.zCS,h.zIr.imp λ_ e=>e.imp λ_ e=>zgA hle e,h.zH5.imp λ_ e=>e.imp λ_ e=>zgA hle e,λw hs=>h.zC7 w ⟨λx o e=>hs.out x o (hle.out x o e)⟩⟩
theorem gm(F F':Heap)(hle:F.Le F')(h:zar F):zar F':=h.mono hle
@[reducible] def fd {α:Type} (x:Option α):Option α:=fk x x
def u1{a b c:Type}(f:a->b)(z:a×c):b:=f z.1
def u2{a b c d:Type}(F:a->b->d)(Z:a×b×c):d:=u1 (F Z.1) Z.2
def u3{a b c d e:Type}(F:a->b->c->e)(Z:a×b×c×d):e:=u2 (F Z.1) Z.2
def u4{a b c d e f:Type}(F:a->b->c->d->f)(Z:a×b×c×d×e):f:=u3 (F Z.1) Z.2
def u5{a b c d e f g:Type}(F:a->b->c->d->e->g)(Z:a×b×c×d×e×f):g:=u4 (F Z.1) Z.2
def u6{a b c d e f g h:Type}(F:a->b->c->d->e->f->h)(Z:a×b×c×d×e×f×g):h:=u5 (F Z.1) Z.2
def u7{a b c d e f g h i:Type}(F:a->b->c->d->e->f->g->i)(Z:a×b×c×d×e×f×g×h):i:=u6 (F Z.1) Z.2
def u8{a b c d e f g h i j:Type}(F:a->b->c->d->e->f->g->h->j)(Z:a×b×c×d×e×f×g×h×i):j:=u7 (F Z.1) Z.2
def u9{a b c d e f g h i j k:Type}(F:a->b->c->d->e->f->g->h->i->k)(Z:a×b×c×d×e×f×g×h×i×j):k:=u8 (F Z.1) Z.2
def u10{a b c d e f g h i j k l:Type}(F:a->b->c->d->e->f->g->h->i->j->l)(Z:a×b×c×d×e×f×g×h×i×j×k):l:=u9 (F Z.1) Z.2
def u11{a b c d e f g h i j k l m:Type}(F:a->b->c->d->e->f->g->h->i->j->k->m)(Z:a×b×c×d×e×f×g×h×i×j×k×l):m:=u10 (F Z.1) Z.2
def u12{a b c d e f g h i j k l m n:Type}(F:a->b->c->d->e->f->g->h->i->j->k->l->n)(Z:a×b×c×d×e×f×g×h×i×j×k×l×m):n:=u11 (F Z.1) Z.2
def u13{a b c d e f g h i j k l m n o:Type}(F:a->b->c->d->e->f->g->h->i->j->k->l->m->o)(Z:a×b×c×d×e×f×g×h×i×j×k×l×m×n):o:=u12 (F Z.1) Z.2
def u14{a b c d e f g h i j k l m n o p:Type}(F:a->b->c->d->e->f->g->h->i->j->k->l->m->n->p)(Z:a×b×c×d×e×f×g×h×i×j×k×l×m×n×o):p:=u13 (F Z.1) Z.2
def u15{a b c d e f g h i j k l m n o p q:Type}(F:a->b->c->d->e->f->g->h->i->j->k->l->m->n->o->q)(Z:a×b×c×d×e×f×g×h×i×j×k×l×m×n×o×p):q:=u14 (F Z.1) Z.2
def u16{a b c d e f g h i j k l m n o p q r:Type}(F:a->b->c->d->e->f->g->h->i->j->k->l->m->n->o->p->r)(Z:a×b×c×d×e×f×g×h×i×j×k×l×m×n×o×p×q):r:=u15 (F Z.1) Z.2
def u17{a b c d e f g h i j k l m n o p q r s:Type}(F:a->b->c->d->e->f->g->h->i->j->k->l->m->n->o->p->q->s)(Z:a×b×c×d×e×f×g×h×i×j×k×l×m×n×o×p×q×r):s:=u16 (F Z.1) Z.2
def u18{a b c d e f g h i j k l m n o p q r s t:Type}(F:a->b->c->d->e->f->g->h->i->j->k->l->m->n->o->p->q->r->t)(Z:a×b×c×d×e×f×g×h×i×j×k×l×m×n×o×p×q×r×s):t:=u17 (F Z.1) Z.2
def u19{a b c d e f g h i j k l m n o p q r s t u:Type}(F:a->b->c->d->e->f->g->h->i->j->k->l->m->n->o->p->q->r->s->u)(Z:a×b×c×d×e×f×g×h×i×j×k×l×m×n×o×p×q×r×s×t):u:=u18 (F Z.1) Z.2
def u20{a b c d e f g h i j k l m n o p q r s t u v:Type}(F:a->b->c->d->e->f->g->h->i->j->k->l->m->n->o->p->q->r->s->t->v)(Z:a×b×c×d×e×f×g×h×i×j×k×l×m×n×o×p×q×r×s×t×u):v:=u19 (F Z.1) Z.2
def oc0(a b:Nat):zbG:= .cells 25 [.int .i64,.str,.int .i64,.str,.own a,.own b]
def oc1(a:Nat):zbG:= .cells 64 [.own a,.bool]
def oc2(a:Nat):zbG:= .cells 23 [.own a]
def oc3(a:Nat):zbG:= .cells 134 [.str,.junk,.own a]
abbrev K8(n:FuncId)(C:Dn.Callee Y):Prop:=COk hY Tryz.prog zar n C
theorem f8{f:FuncId}{fn:Func}{keep:List Nat}{σ:Shape}{outs:List zO}{T:_}{g:zeH Y σ->Option (zU Y outs)}(c:zab Y (zU Y outs))(hf:Tryz.prog.funcs[f]? =some fn)(hT:zcD hY Tryz.prog zar T)(hO:Obl Y Tryz.prog T fn.ntmps σ.m.length (fn.body.getD .skip) [] (zlD Y Tryz.prog σ.m.length fn.results.toList outs) (zAj Y σ.m.length outs) c)
  (h1:((fn.body.isSome&& !(fn.name== "runtime.NumGoroutine"))&&(Nat.ble (keys σ.l).length fn.ntmps&&zuB (keys σ.l) (iota 0 (keys σ.l).length)&&outs.all λo=>zh2 σ.m o.m))=true:=by kernel_rfl)
  (hg: ∀z,goA Y Tryz.prog T fn.ntmps true (tbl Y σ.m.length c) (zlD Y Tryz.prog σ.m.length fn.results.toList outs) (zAj Y σ.m.length outs) 100000 false [(0,.code (fn.body.getD .skip))] (zdm Y σ z)=g z:=by intro z;kernel_rfl):K8 f (callee Y keep σ outs g):=fo c hf h1 hsz gm hT hO hg
theorem zTa{F:Heap}{w:World}{xs:List Str}{u:Value}(r:Rel Y F [] (.sl 9 xs) u)(hv:F.Sub w): ∃A c,u= .slice A xs.length c/\xs.length<=c/\
  (xs=[]\/∃b o,A=some ⟨b,o,none⟩/\b<w.heap.size/\∀(i:Nat) (x:Str),xs[i]? =some x->w.cell? ⟨b,o+i,none⟩=some (.string ⟨⟨x⟩⟩)):=by
 have h: ∀(A:AV Y.T) (u:Value),Rel Y F [] A u->∀ys:List (Y.T 9),A= .sl 9 ys->∃A c,u= .slice A ys.length c/\ys.length<=c/\
  (ys=[]\/∃b o,A=some ⟨b,o,none⟩/\b<w.heap.size/\∀(i:Nat) (x:Str),ys[i]? =some x->w.cell? ⟨b,o+i,none⟩=some (.string ⟨⟨x⟩⟩)):=by
  intro A u r ys hA;subst hA;cases r with
  | @sl _ _ A c b off vs hc hA hvs hh=>
   refine⟨A,c,rfl,hc,?_⟩
   have cell: ∀(i:Nat) (x:Str),ys[i]? =some x->zic F b (off+i) (.string ⟨⟨x⟩⟩):=λi x hx=>by
    have h1:(vs i).length=1:=(hvs i x hx).1;have h2:(vs i)[0]? =some ((vs i)[0]'(by omega)):=qz9 _;have h3:=(hvs i x hx).2 0 _ h2;have h4:=(hh i x 0 (.v (.string ⟨⟨x⟩⟩)) _ hx rfl h2).zbn;rw[h4]at h3;have e:off+i*Y.sz 9+0=off+i:=by show off+i*1+0=off+i;omega
    rw[e]at h3;exact h3
   cases hys:ys with
   |nil=>exact .inl rfl
   |cons x0 r0=>
    right;rw[<-hys];obtain⟨_,_,_,hF,_⟩:=cell 0 x0 (by rw[hys];rfl)
    exact⟨b,off,hA 0 x0 (by rw[hys];rfl),hv.lt hF,λi x hx=>zeP hv (cell i x hx)⟩
 exact h _ u r xs rfl
def zhF(t:Str)(p:Str):Option (Bool):=some (Lib.hasPrefix t p)
theorem zhF.ok(t:Str)(p:Str)(r:Bool)(h0:zhF t p=some r)(w0:World)(F0:Heap)(hv:F0.Sub w0)(hG:zar F0)(hg:SV.zaH F0 [.v (.string ⟨⟨t⟩⟩),.v (.string ⟨⟨p⟩⟩)])(ρ:Nat->Nat):
  Calls Tryz.prog 63 (SV.zal ρ [.v (.string ⟨⟨t⟩⟩),.v (.string ⟨⟨p⟩⟩)]).toArray w0 (zdt w0 F0 λs=>s= .v (.bool r)):=by
 refine(Tryz.strings_HasPrefix ⟨⟨t⟩⟩ ⟨⟨p⟩⟩ w0).mono λe w' h=>?_
 cases h0;exact zdt.pure (s:= .v _) hv h.1 h.2 trivial rfl rfl
def strings_HasPrefix(t:Str)(p:Str):Option (Bool×Unit):=zjf (λr=>(r,())) (zhF t p)
def zn5:Shape:=⟨[(0,.str),(1,.str)],[]⟩
def zyu:List zO:=[⟨false,.bool,[]⟩]
def zya:=callee Y [] zn5 zyu (λz=>strings_HasPrefix z.1 z.2.1)
theorem zwn:K8 63 zya:=
 COk.ext (l:=zn5.l) ⟨⟨_,Tryz.func63,by kernel_rfl,rfl⟩⟩ ⟨rfl,rfl⟩ rfl λz zo h=>⟨_,_,rfl,rfl,λw F hG hv=>by
  obtain⟨r,hr,rfl⟩:=zgX h;exact zhF.ok z.1 z.2.1 r hr w F hv hG (by simp[SV.zaH,SV.good]) (λ_=>0)⟩
def zev(t:Str)(a:Str):Option (Int):=if t.length<4294967281/\a=[10,13]then some (Lib.indexAny t [10,13])else none
theorem zev.ok(t:Str)(cs:Str)(r:Int)(h0:zev t cs=some r)(w0:World)(F0:Heap)(hv:F0.Sub w0)(hG:zar F0)(hg:SV.zaH F0 [.v (.string ⟨⟨t⟩⟩),.v (.string ⟨⟨cs⟩⟩)])(ρ:Nat->Nat):
  Calls Tryz.prog 64 (SV.zal ρ [.v (.string ⟨⟨t⟩⟩),.v (.string ⟨⟨cs⟩⟩)]).toArray w0 (zdt w0 F0 λs=>s= .v (.int .i64 r)):=by
 unfold zev at h0;split at h0
 ·rename_i hc;cases h0;obtain⟨hc,rfl⟩:=hc;refine(Gw.zn3 Tryz.lays153 (by kernel_rfl) ⟨⟨t⟩⟩ w0 hc).mono λe w' h=>?_
  exact zdt.below (s:= .v _) hv h.1 h.2 trivial rfl rfl
 ·cases h0
def strings_IndexAny(t:Str)(a:Str):Option (Int×Unit):=zjf (λr=>(r,())) (zev t a)
def zy7:List zO:=[⟨false,.int .i64,[]⟩]
def zzO:=callee Y [] zn5 zy7 (λz=>strings_IndexAny z.1 z.2.1)
theorem zx1:K8 64 zzO:=
 COk.ext (l:=zn5.l) ⟨⟨_,Tryz.func64,by kernel_rfl,rfl⟩⟩ ⟨rfl,rfl⟩ rfl λz zo h=>⟨_,_,rfl,rfl,λw F hG hv=>by
  obtain⟨r,hr,rfl⟩:=zgX h;exact zev.ok z.1 z.2.1 r hr w F hv hG (by simp[SV.zaH,SV.good]) (λ_=>0)⟩
def zf8(t:Str)(a:Str):Option (Int):=if t.length<4294967281 then some (Lib.index t a)else none
theorem zf8.ok(t:Str)(sub:Str)(r:Int)(h0:zf8 t sub=some r)(w0:World)(F0:Heap)(hv:F0.Sub w0)(hG:zar F0)(hg:SV.zaH F0 [.v (.string ⟨⟨t⟩⟩),.v (.string ⟨⟨sub⟩⟩)])(ρ:Nat->Nat):
  Calls Tryz.prog 65 (SV.zal ρ [.v (.string ⟨⟨t⟩⟩),.v (.string ⟨⟨sub⟩⟩)]).toArray w0 (zdt w0 F0 λs=>s= .v (.int .i64 r)):=by
 unfold zf8 at h0;split at h0
 ·rename_i hc;cases h0;obtain⟨m,hm⟩:=hG.maxLen;refine(Tryz.strings_Index ⟨⟨t⟩⟩ ⟨⟨sub⟩⟩ m w0 hc (zeP hv hm)).mono λe w' h=>?_
  exact zdt.pure (s:= .v _) hv h.1 h.2 trivial rfl rfl
 ·cases h0
def strings_Index(t:Str)(a:Str):Option (Int×Unit):=zjf (λr=>(r,())) (zf8 t a)
def zDl:=callee Y [] zn5 zy7 (λz=>strings_Index z.1 z.2.1)
theorem zse:K8 65 zDl:=
 COk.ext (l:=zn5.l) ⟨⟨_,Tryz.func65,by kernel_rfl,rfl⟩⟩ ⟨rfl,rfl⟩ rfl λz zo h=>⟨_,_,rfl,rfl,λw F hG hv=>by
  obtain⟨r,hr,rfl⟩:=zgX h;exact zf8.ok z.1 z.2.1 r hr w F hv hG (by simp[SV.zaH,SV.good]) (λ_=>0)⟩
def zdw(t:Str)(a:Str):Option (Bool):=if t.length<4294967281/\a=[10,13]then some (Lib.containsAny t [10,13])else none
theorem zdw.ok(t:Str)(cs:Str)(r:Bool)(h0:zdw t cs=some r)(w0:World)(F0:Heap)(hv:F0.Sub w0)(hG:zar F0)(hg:SV.zaH F0 [.v (.string ⟨⟨t⟩⟩),.v (.string ⟨⟨cs⟩⟩)])(ρ:Nat->Nat):
  Calls Tryz.prog 66 (SV.zal ρ [.v (.string ⟨⟨t⟩⟩),.v (.string ⟨⟨cs⟩⟩)]).toArray w0 (zdt w0 F0 λs=>s= .v (.bool r)):=by
 unfold zdw at h0;split at h0
 ·rename_i hc;cases h0;obtain⟨hc,rfl⟩:=hc;refine(Gw.ztR Tryz.lays150 (by kernel_rfl) ⟨⟨t⟩⟩ w0 hc).mono λe w' h=>?_
  exact zdt.below (s:= .v _) hv h.1 h.2 trivial rfl rfl
 ·cases h0
def strings_ContainsAny(t:Str)(a:Str):Option (Bool×Unit):=zjf (λr=>(r,())) (zdw t a)
def zvg:=callee Y [] zn5 zyu (λz=>strings_ContainsAny z.1 z.2.1)
theorem ztW:K8 66 zvg:=
 COk.ext (l:=zn5.l) ⟨⟨_,Tryz.func66,by kernel_rfl,rfl⟩⟩ ⟨rfl,rfl⟩ rfl λz zo h=>⟨_,_,rfl,rfl,λw F hG hv=>by
  obtain⟨r,hr,rfl⟩:=zgX h;exact zdw.ok z.1 z.2.1 r hr w F hv hG (by simp[SV.zaH,SV.good]) (λ_=>0)⟩
abbrev zVH:=Option ((Str×Int×Int×Bool×Unit)⊕(Bool×Unit))
abbrev zQr:=Option ((zaf×zh×Unit)⊕(zh×Unit))
abbrev zUx:=Option ((zac×Unit)⊕(Bool×zac×Unit))
abbrev zUW:=Option ((Int×Int×zg×zg×Unit)⊕(Bool×Unit))
abbrev zEx:=Option ((Str×Int×Int×(List UInt8)×Unit)⊕(Str×Int×Unit))
abbrev ziu:=Option ((zg×zh×Unit)⊕(zaf×zh×Unit))
abbrev zbd:=Option ((zaf×zh×Unit)⊕(zg×zh×Unit))
abbrev zE6:=Option (((List zg)×zh×Unit)⊕(zaf×zh×Unit))
abbrev zCk:=Option (((List zg)×Int×Int×Bool×(List Str)×Unit)⊕(Bool×(List Str)×Unit))
abbrev zET:=Option ((zh×(List zg)×Unit)⊕(zaf×zh×(List zg)×Unit))
abbrev OT9:=Option ((Int×Bool×Str×Int×Int×Bool×Int×(List UInt8)×Int×Int×Unit)⊕(Int×zaf×Unit))
abbrev OT8:=Option ((zh×Str×(List zg)×Bool×Unit)⊕(zaf×zh×Str×(List zg)×Bool×Unit))
abbrev OT7:=Option ((Bool×Str×zh×(List zg)×Unit)⊕(((List zg)×zh×Unit)⊕(zaf×zh×Unit)))
abbrev OT6:=Option ((zh×zg×(List Str)×(List zg)×Unit)⊕(zaf×zh×Int×Str×Int×Str×(List Str)×(List zg)×Unit))
abbrev OT5:=Option ((zaf×zh×Int×Str×Int×Str×(List Str)×(List zg)×Unit)⊕(zh×Int×Str×Int×Str×(List Str)×(List zg)×Unit))
abbrev OT4:=Option ((zh×Int×Str×Int×Str×(List zg)×(List Str)×(List zg)×Unit)⊕(zaf×zh×Int×Str×Int×Str×(List Str)×(List zg)×Unit))
abbrev OT3:=Option ((zaf×zh×Str×Int×Str×Int×Str×(List Str)×(List zg)×Bool×Unit)⊕(zh×Str×Int×Str×Int×Str×(List Str)×(List zg)×Bool×Unit))
abbrev OT2:=Option ((zh×Int×Str×Int×Str×Int×Str×Int×Str×(List Str)×(List zg)×(List Str)×(List zg)×Unit)⊕((zaf×zh×Unit)⊕(zg×zh×Unit)))
abbrev OT1:=Option ((Bool×zh×Int×Str×Int×Str×Int×Str×Int×Str×(List Str)×(List zg)×(List Str)×(List zg)×Unit)⊕((zaf×zh×Unit)⊕(zg×zh×Unit)))
abbrev OT0:=Option ((zh×Str×Int×Str×Int×Str×(List Str)×(List zg)×Bool×Unit)⊕((zaf×zh×Str×Int×Str×Int×Str×(List Str)×(List zg)×Bool×Unit)⊕(zh×Str×Int×Str×Int×Str×(List Str)×(List zg)×Bool×Unit)))
def zcx(b:Int)(a:zac):zUx:=if a.fresh=true then(zaQ a.rest b ((a.rest.length:Nat):Int)).bind λc=>some (.inl (⟨a.src,c,true⟩,()))else(zaQ a.rest 0 b).bind λd=>(strings_ContainsAny d [10,13]).bind λe=>(zaQ a.rest b ((a.rest.length:Nat):Int)).bind λf=>some (.inl (⟨a.src,f,e.1⟩,()))
def zay:zac×Unit->zUx| (a,())=>if(!(a.rest==[]))=true then(strings_HasPrefix a.rest [47,47]).bind λd=>if d.1=true then(strings_IndexAny a.rest [10,13]).bind λb=>if(decide (b.1<0))=true then let e:=((a.rest.length:Nat):Int);zcx e (zdY a)else zcx b.1 (zdY a)else(strings_HasPrefix a.rest [47,42]).bind λf=>if f.1=true then(zaQ a.rest 2 ((a.rest.length:Nat):Int)).bind λg=>(strings_Index g [42,47]).bind λc=>if(decide (c.1<0))=true then some (.inr (false,(zdY a),()))else let h:=(IntKind.wrap .i64 (c.1+4));zcx h (zdY a)else(za3 a.rest 0).bind λi=>(if(i !=32)=true then(za3 a.rest 0).bind λj=>(if(decide (j<9))=true then some true else(za3 a.rest 0).bind λk=>some (decide (k>13))).bind λl=>some l else some false).bind λm=>if m=true then some (.inr (true,(zdY a),()))else zcx 1 (zdY a)else some (.inr (true,(zdY a),()))
def zhy(x:zac):Option (Bool×zac×Unit):=Lp.loop zay (⟨x.src,x.rest,false⟩,())
def zvw:Shape:=⟨[(0,.ptr 0 0)],[.whole 69 69]⟩
def zmr:List zO:=[⟨false,.bool,[.whole 69 69]⟩]
def zu8:=callee Y [] zvw zmr (λz=>zhy z.1)
def zve:zab Y (zU Y zmr):=(.loop [[7,5,1,2,2,9,2],[8,5,1,2,2,9,2],[6,1,2,2,9,2],[2,2,2,9,2],[10,2]] ⟨[(0,.ptr 0 0)],[.whole 69 69]⟩ (zay) (.join [[1,2,2,5,2,7,5,1,2,2,9,2],[2,2,2,5,2,7,5,1,2,2,9,2],[6,2,7,5,1,2,2,9,2],[8,5,1,2,2,9,2],[6,1,2,2,9,2],[2,2,2,9,2],[10,2]] ⟨[(0,.ptr 0 0),(3,.int .i64)],[.whole 69 69]⟩ (u2 zcx) .nil) .nil)
theorem ztS:K8 32 (zu8):=f8 zve Tryz.func32 (.cons zwn (.cons zx1 (.cons zse (.cons ztW .nil)))) ⟨λz=>by kernel_rfl,⟨λz=>by kernel_rfl,⟨⟩⟩,trivial⟩
def zoQ(s:List zy):Option ((List zy)×Unit):=(zIG s 0 ((s.length:Nat):Int) ((s.length:Nat):Int)).bind λa=>some (a,())
def zF4:Shape:=⟨[(0,.sl 36)],[]⟩
def zxK:List zO:=[⟨false,.sl 36,[]⟩]
def zF1:=callee Y [] zF4 zxK (λz=>zoQ z.1)
def zGg:zab Y (zU Y zxK):= .nil
theorem zEL:K8 33 (zF1):=f8 zGg Tryz.func33 .nil trivial
def ziR(c:Int):Option (Bool×Unit):=let a:=(IntKind.wrap .u8 ((BitVec.ofInt 8 c|||BitVec.ofInt 8 32).toNat));let b:=((decide (a>=97))&&(decide ((IntKind.wrap .u8 ((BitVec.ofInt 8 c|||BitVec.ofInt 8 32).toNat))<=122)));let d:=((b||(c==95))||(c==36));some (d,())
def zEi:Shape:=⟨[(0,.int .u8)],[]⟩
def zEG:=callee Y [] zEi zyu (λz=>ziR z.1)
def zEo:zab Y (zU Y zyu):= .nil
theorem znz:K8 67 (zEG):=f8 zEo Tryz.func67 .nil trivial
def zl2(c:Int):Option (Bool×Unit):=let a:=((decide (c>=48))&&(decide (c<=57)));some (a,())
def zGl:=callee Y [] zEi zyu (λz=>zl2 z.1)
theorem zuZ:K8 70 (zGl):=f8 zEo Tryz.func70 .nil trivial
def zg9:Str×Int×Int×Unit->Option ((Str×Int×Int×Unit)⊕(Int×Unit))| (b,c,a,())=>if(decide (a<c))=true then(za3 b a).bind λd=>(ziR d).bind λe=>if(!e.1)=true then(za3 b a).bind λf=>(zl2 f).bind λg=>if(!g.1)=true then some (.inr (a,()))else let h:=(IntKind.wrap .i64 (a+1));some (.inl (b,c,h,()))else let i:=(IntKind.wrap .i64 (a+1));some (.inl (b,c,i,()))else some (.inr (((b.length:Nat):Int),()))
def zo1(s:Str):Option (Int×Unit):=Lp.loop zg9 (s,((s.length:Nat):Int),0,())
def zJZ:Shape:=⟨[(0,.str)],[]⟩
def zJC:=callee Y [] zJZ zy7 (λz=>zo1 z.1)
def zJ7:zab Y (zU Y zy7):=(.loop [[7,5,2,1,2],[8,5,2,1,2],[6,2,1,2],[2,2]] ⟨[(0,.str),(5,.int .i64),(6,.int .i64)],[]⟩ (zg9) .nil .nil)
theorem zro:K8 68 (zJC):=f8 zJ7 Tryz.func68 (.cons znz (.cons zuZ .nil)) ⟨λz=>by kernel_rfl,trivial,trivial⟩
def zcR(t:Str)(a:Str):Option (Bool):=if t.length<4294967281 then some (Lib.contains t a)else none
theorem zcR.ok(t:Str)(sub:Str)(r:Bool)(h0:zcR t sub=some r)(w0:World)(F0:Heap)(hv:F0.Sub w0)(hG:zar F0)(hg:SV.zaH F0 [.v (.string ⟨⟨t⟩⟩),.v (.string ⟨⟨sub⟩⟩)])(ρ:Nat->Nat):
  Calls Tryz.prog 129 (SV.zal ρ [.v (.string ⟨⟨t⟩⟩),.v (.string ⟨⟨sub⟩⟩)]).toArray w0 (zdt w0 F0 λs=>s= .v (.bool r)):=by
 unfold zcR at h0;split at h0
 ·rename_i hc;cases h0;obtain⟨m,hm⟩:=hG.maxLen;refine(Tryz.strings_Contains ⟨⟨t⟩⟩ ⟨⟨sub⟩⟩ m w0 hc (zeP hv hm)).mono λe w' h=>?_
  exact zdt.pure (s:= .v _) hv h.1 h.2 trivial rfl rfl
 ·cases h0
def strings_Contains(t:Str)(a:Str):Option (Bool×Unit):=zjf (λr=>(r,())) (zcR t a)
def zAq:=callee Y [] zn5 zyu (λz=>strings_Contains z.1 z.2.1)
theorem zhw:K8 129 zAq:=
 COk.ext (l:=zn5.l) ⟨⟨_,Tryz.func129,by kernel_rfl,rfl⟩⟩ ⟨rfl,rfl⟩ rfl λz zo h=>⟨_,_,rfl,rfl,λw F hG hv=>by
  obtain⟨r,hr,rfl⟩:=zgX h;exact zcR.ok z.1 z.2.1 r hr w F hv hG (by simp[SV.zaH,SV.good]) (λ_=>0)⟩
def zgV(e:Str)(s:Str):Option (Bool×Unit):=if(!(s==[]))=true then(strings_Contains s [32]).bind λa=>if(!a.1)=true then(zkb [32] s).bind λb=>(zkb b [32]).bind λc=>(strings_Contains e c).bind λd=>some (d.1,())else some (false,())else some (false,())
def zFY:=callee Y [] zn5 zyu (u2 zgV)
theorem zu5:K8 73 (zFY):=f8 zEo Tryz.func73 (.cons zhw .nil) trivial
def znG(s:Str):Option (Bool×Unit):=(zgV [32,98,114,101,97,107,32,99,97,115,101,32,99,97,116,99,104,32,99,108,97,115,115,32,99,111,110,115,116,32,99,111,110,116,105,110,117,101,32,100,101,98,117,103,103,101,114,32,100,101,102,97,117,108,116,32,100,101,108,101,116,101,32,100,111,32,101,108,115,101,32,101,110,117,109,32,101,120,112,111,114,116,32,101,120,116,101,110,100,115,32,102,97,108,115,101,32,102,105,110,97,108,108,121,32,102,111,114,32,102,117,110,99,116,105,111,110,32,105,102,32,105,109,112,108,101,109,101,110,116,115,32,105,109,112,111,114,116,32,105,110,32,105,110,115,116,97,110,99,101,111,102,32,105,110,116,101,114,102,97,99,101,32,108,101,116,32,110,101,119,32,110,117,108,108,32,112,97,99,107,97,103,101,32,112,114,105,118,97,116,101,32,112,114,111,116,101,99,116,101,100,32,112,117,98,108,105,99,32,114,101,116,117,114,110,32,115,116,97,116,105,99,32,115,117,112,101,114,32,115,119,105,116,99,104,32,116,104,105,115,32,116,104,114,111,119,32,116,114,117,101,32,116,114,121,32,116,121,112,101,111,102,32,118,97,114,32,118,111,105,100,32,119,104,105,108,101,32,119,105,116,104,32,121,105,101,108,100,32] s).bind λa=>some (a.1,())
def zEE:=callee Y [] zJZ zyu (λz=>znG z.1)
theorem ztv:K8 69 (zEE):=f8 zEo Tryz.func69 (.cons zu5 .nil) trivial
def zbD(c:Int):Option (Int×Unit):=let a:=(IntKind.wrap .u8 ((BitVec.ofInt 8 c|||BitVec.ofInt 8 32).toNat));some (a,())
def ztp:List zO:=[⟨false,.int .u8,[]⟩]
def zDp:=callee Y [] zEi ztp (λz=>zbD z.1)
def zEb:zab Y (zU Y ztp):= .nil
theorem zrJ:K8 182 (zDp):=f8 zEb Tryz.func182 .nil trivial
def zft(a:Str)(c:Int)(b:Int)(d:Bool):zVH:=(za3 a b).bind λe=>if(e==95)=true then if(c !=48)=true then some (.inr (false,()))else let f:=(IntKind.wrap .i64 (b+1));some (.inl (a,95,f,d,()))else if(c==95)=true then some (.inr (false,()))else let g:=(IntKind.wrap .i64 (b+1));some (.inl (a,33,g,d,()))
def zcV:Str×Int×Int×Bool×Unit->zVH| (a,d,b,c,())=>let e:=(decide (b< ((a.length:Nat):Int)));if e=true then(za3 a b).bind λf=>(if(decide (48<=f))=true then(za3 a b).bind λg=>some (decide (g<=57))else some false).bind λh=>if h=true then let i:=(IntKind.wrap .i64 (b+1));some (.inl (a,48,i,c,()))else if c=true then(za3 a b).bind λj=>(zbD j).bind λk=>if(decide (97<=k.1))=true then(za3 a b).bind λl=>(zbD l).bind λm=>if(decide (m.1<=102))=true then let n:=(IntKind.wrap .i64 (b+1));some (.inl (a,48,n,c,()))else zft a d b c else zft a d b c else zft a d b c else some (.inr ((d !=95),()))
def zlx(a:Str)(b:Int)(c:Int)(d:Bool):Option (Bool×Unit):=let e:=(decide (((a.length:Nat):Int)>=2));(if e=true then(za3 a 0).bind λf=>some (f==48)else some false).bind λg=>if g=true then(za3 a 1).bind λh=>(zbD h).bind λi=>if(i.1==98)=true then(za3 a 1).bind λj=>(zbD j).bind λk=>Lp.loop zcV (a,48,2,(k.1==120),())else(za3 a 1).bind λl=>(zbD l).bind λm=>if(m.1==111)=true then(za3 a 1).bind λn=>(zbD n).bind λo=>Lp.loop zcV (a,48,2,(o.1==120),())else(za3 a 1).bind λp=>(zbD p).bind λq=>if(q.1==120)=true then(za3 a 1).bind λr=>(zbD r).bind λs=>Lp.loop zcV (a,48,2,(s.1==120),())else Lp.loop zcV (a,b,c,d,())else Lp.loop zcV (a,b,c,d,())
def zhJ(a:Str)(b:Int)(c:Int):Option (Bool×Unit):=zlx a b c false
def zmX(s:Str):Option (Bool×Unit):=let a:=(decide (((s.length:Nat):Int)>=1));(if a=true then(za3 s 0).bind λb=>(if(b==45)=true then some true else(za3 s 0).bind λc=>some (c==43)).bind λd=>some d else some false).bind λe=>if e=true then(zaQ s 1 ((s.length:Nat):Int)).bind λf=>zhJ f 94 0 else zhJ s 94 0
def zuv:=callee Y [] zJZ zyu (λz=>zmX z.1)
def zt4:zab Y (zU Y zyu):=(.join [[1,2,2,2,2],[2,2,2,2,2]] ⟨[(0,.str),(3,.int .i32),(4,.int .i64)],[]⟩ (u3 zhJ) (.join [[1,1,2,2,2,2,2],[2,1,2,2,2,2,2],[2,2,2,2,2,2]] ⟨[(0,.str),(3,.int .i32),(4,.int .i64),(5,.bool)],[]⟩ (u4 zlx) (.loop [[7,5,1,2,2,2,2,2,2],[8,5,1,2,2,2,2,2,2],[6,1,2,2,2,2,2,2],[2,2,2,2,2,2,2]] ⟨[(0,.str),(3,.int .i32),(4,.int .i64),(5,.bool)],[]⟩ (zcV) (.join [[1,1,2,5,1,2,7,5,1,2,2,2,2,2,2],[2,1,2,5,1,2,7,5,1,2,2,2,2,2,2],[2,2,5,1,2,7,5,1,2,2,2,2,2,2],[6,1,2,7,5,1,2,2,2,2,2,2],[2,2,7,5,1,2,2,2,2,2,2],[8,5,1,2,2,2,2,2,2],[6,1,2,2,2,2,2,2],[2,2,2,2,2,2,2]] ⟨[(0,.str),(3,.int .i32),(4,.int .i64),(5,.bool)],[]⟩ (u4 zft) .nil) .nil)))
theorem zs8:K8 183 (zuv):=f8 zt4 Tryz.func183 (.cons zrJ .nil) ⟨λz=>by kernel_rfl,⟨λz=>by kernel_rfl,⟨λz=>by kernel_rfl,⟨λz=>by kernel_rfl,⟨⟩⟩,trivial⟩⟩⟩
def zgo(c:Int)(d:Bool)(e:Str)(f:Int)(a:Int)(g:Bool)(h:Int)(b:Int)(i:List UInt8)(j:Int)(k:Int):OT9:=let l:=((decide (b<h))||(decide (b>a)));if l=true then some (.inr (a,(zaf.code 156 1),()))else let m:=(IntKind.wrap .i64 (k+1));some (.inl (c,d,e,f,a,g,b,i,j,m,()))
def zgr(b:Int)(c:Bool)(d:Str)(e:Int)(f:Int)(g:Bool)(a:Int)(h:Int)(i:List UInt8)(j:Int)(k:Int):OT9:=let l:=(IntKind.wrap .u64 (a+(IntKind.wrap .u64 h)));zgo b c d e f g a l i j k
def zgj(a:Int)(b:Bool)(c:Str)(d:Int)(e:Int)(f:Bool)(g:Int)(h:Int)(i:List UInt8)(j:Int)(k:Int):OT9:=let l:=(IntKind.wrap .u64 (g*(IntKind.wrap .u64 a)));zgr a b c d e f l h i j k
def zgp(d:Int)(e:Bool)(f:Str)(a:Int)(b:Int)(g:Bool)(c:Int)(h:Int)(i:List UInt8)(j:Int)(k:Int):OT9:=if(decide (c>=a))=true then some (.inr (b,(zaf.code 156 1),()))else zgj d e f a b g c h i j k
def zc4(a:Int)(c:Bool)(d:Str)(e:Int)(f:Int)(g:Bool)(h:Int)(b:Int)(i:List UInt8)(j:Int)(k:Int):OT9:=let l:=(decide (b>=(IntKind.wrap .u8 a)));if l=true then some (.inr (0,(zaf.code 156 2),()))else zgp a c d e f g h b i j k
def zbj:Int×Bool×Str×Int×Int×Bool×Int×(List UInt8)×Int×Int×Unit->OT9| (h,d,e,i,j,k,b,f,g,c,())=>if(decide (c<g))=true then(zT f c).bind λa=>let l:=(((a.toNat:Nat):Int)==95);if(l&&d)=true then let m:=(IntKind.wrap .i64 (c+1));some (.inl (h,d,e,i,j,true,b,f,g,m,()))else let n:=(decide (48<=((a.toNat:Nat):Int)));let o:=(n&&(decide (((a.toNat:Nat):Int)<=57)));if o=true then let p:=(IntKind.wrap .u8 (((a.toNat:Nat):Int) -48));zc4 h d e i j k b p f g c else(zbD ((a.toNat:Nat):Int)).bind λq=>if(decide (97<=q.1))=true then(zbD ((a.toNat:Nat):Int)).bind λr=>if(decide (r.1<=122))=true then(zbD ((a.toNat:Nat):Int)).bind λs=>let t:=(IntKind.wrap .u8 (s.1 -97));let u:=(IntKind.wrap .u8 (t+10));zc4 h d e i j k b u f g c else some (.inr (0,(zaf.code 156 2),()))else some (.inr (0,(zaf.code 156 2),()))else if k=true then(zmX e).bind λv=>if(!v.1)=true then some (.inr (0,(zaf.code 156 2),()))else some (.inr (b,zaf.nil,()))else some (.inr (b,zaf.nil,()))
def zjJ(a:Str)(b:Int)(c:Int)(d:Bool)(e:Str):Option (Int×zaf×Unit):=(zI4 .u64 18446744073709551615 (IntKind.wrap .u64 b)).bind λf=>let g:=(IntKind.wrap .u64 (f+1));(zB7 .u64 1 (IntKind.wrap .u64 c)).bind λh=>let i:=(IntKind.wrap .u64 (h -1));let j:=((a.length:Nat):Int);Lp.loop zbj (b,d,e,g,i,false,0,a,j,0,())
def zgm(a:Str)(b:Int)(c:Int)(d:Bool)(e:Str)(f:Int):Option (Int×zaf×Unit):=if(f==16)=true then(zB7 .u64 1 (IntKind.wrap .u64 c)).bind λg=>let h:=(IntKind.wrap .u64 (g -1));let i:=((a.length:Nat):Int);Lp.loop zbj (b,d,e,1152921504606846976,h,false,0,a,i,0,())else zjJ a b c d e
def zgs(a:Str)(b:Int)(c:Int)(d:Bool)(e:Str)(f:Int):Option (Int×zaf×Unit):=if(f==10)=true then(zB7 .u64 1 (IntKind.wrap .u64 c)).bind λg=>let h:=(IntKind.wrap .u64 (g -1));Lp.loop zbj (b,d,e,1844674407370955162,h,false,0,a,((a.length:Nat):Int),0,())else zgm a b c d e f
def zgl(b:Str)(a:Int)(c:Int)(d:Bool)(e:Str):Option (Int×zaf×Unit):=zgs b a c d e a
def zeh(a:Str)(b:Int)(c:Int)(d:Bool)(e:Str):Option (Int×zaf×Unit):=zgl a b c d e
def zgf(b:Str)(c:Int)(a:Int)(d:Bool)(e:Str):Option (Int×zaf×Unit):=let f:=((decide (a<0))||(decide (a>64)));if f=true then some (0,(zaf.code 156 4),())else zeh b c a d e
def zjD(a:Str)(b:Int)(c:Bool)(d:Str):Option (Int×zaf×Unit):=zeh a b 64 c d
def zbI(a:Str)(b:Int)(c:Int)(d:Bool)(e:Str):Option (Int×zaf×Unit):=if(c==0)=true then zjD a b d e else zgf a b c d e
def zkj(a:Str)(b:Int)(c:Int)(d:Bool)(e:Str):Option (Int×zaf×Unit):=(zaQ a 1 ((a.length:Nat):Int)).bind λf=>zbI f b c d e
def zgy(a:Str)(b:Int)(c:Bool)(d:Str):Option (Int×zaf×Unit):=zkj a 8 b c d
def zkf(a:Str)(b:Int)(c:Int)(d:Bool)(e:Str):Option (Int×zaf×Unit):=(zaQ a 2 ((a.length:Nat):Int)).bind λf=>zbI f b c d e
def zkv(a:Str)(b:Int)(c:Bool)(d:Str):Option (Int×zaf×Unit):=zkf a 16 b c d
def zgM(a:Str)(b:Int)(c:Bool)(d:Str):Option (Int×zaf×Unit):=let e:=(decide (((a.length:Nat):Int)>=3));if e=true then(za3 a 1).bind λf=>(zbD f).bind λg=>if(g.1==120)=true then zkv a b c d else zgy a b c d else zgy a b c d
def zkp(a:Str)(b:Int)(c:Int)(d:Bool)(e:Str):Option (Int×zaf×Unit):=(zaQ a 2 ((a.length:Nat):Int)).bind λf=>zbI f b c d e
def zko(a:Str)(b:Int)(c:Bool)(d:Str):Option (Int×zaf×Unit):=zkp a 8 b c d
def zgS(a:Str)(b:Int)(c:Bool)(d:Str):Option (Int×zaf×Unit):=let e:=(decide (((a.length:Nat):Int)>=3));if e=true then(za3 a 1).bind λf=>(zbD f).bind λg=>if(g.1==111)=true then zko a b c d else zgM a b c d else zgM a b c d
def zfS(t:Str)(o:Int)(A:Int):Option (Int×zaf×Unit):=if(t==[])=true then some (0,(zaf.code 156 2),())else let a:=((decide (2<=o))&&(decide (o<=36)));if a=true then zbI t o A (o==0) t else if(o==0)=true then(za3 t 0).bind λb=>if(b==48)=true then let c:=(decide (((t.length:Nat):Int)>=3));if c=true then(za3 t 1).bind λd=>(zbD d).bind λe=>if(e.1==98)=true then(zaQ t 2 ((t.length:Nat):Int)).bind λf=>zbI f 2 A (o==0) t else zgS t A (o==0) t else zgS t A (o==0) t else zbI t 10 A (o==0) t else some (0,(zaf.code 156 3),())
def zsb:Shape:=⟨[(0,.str),(1,.int .i64),(2,.int .i64)],[]⟩
def zk2:List zO:=[⟨false,.tup [.int .u64,.err],[]⟩]
def zsq:=callee Y [] zsb zk2 (u3 zfS)
def zsu:zab Y (zU Y zk2):=(.join [[1,4,2,5,3,2,2,3,2,4,2,5,1,2,2,2,2],[2,4,2,5,3,2,2,3,2,4,2,5,1,2,2,2,2],[6,3,2,2,3,2,4,2,5,1,2,2,2,2],[6,1,2,2,2,2],[2,2,2,2,2]] ⟨[(0,.str),(2,.int .i64),(8,.bool),(9,.str)],[]⟩ (u4 zgS) (.join [[1,3,2,4,2,5,3,2,2,3,2,4,2,5,1,2,2,2,2],[2,3,2,4,2,5,3,2,2,3,2,4,2,5,1,2,2,2,2],[6,3,2,2,3,2,4,2,5,1,2,2,2,2],[6,1,2,2,2,2],[2,2,2,2,2]] ⟨[(0,.str),(2,.int .i64),(8,.bool),(9,.str)],[]⟩ (u4 zko) (.join [[2,3,2,4,2,5,3,2,2,3,2,4,2,5,1,2,2,2,2],[6,3,2,2,3,2,4,2,5,1,2,2,2,2],[6,1,2,2,2,2],[2,2,2,2,2]] ⟨[(0,.str),(1,.int .i64),(2,.int .i64),(8,.bool),(9,.str)],[]⟩ (u5 zkp) (.join [[1,4,2,4,2,5,3,2,2,3,2,4,2,5,1,2,2,2,2],[2,4,2,4,2,5,3,2,2,3,2,4,2,5,1,2,2,2,2],[6,3,2,2,3,2,4,2,5,1,2,2,2,2],[6,1,2,2,2,2],[2,2,2,2,2]] ⟨[(0,.str),(2,.int .i64),(8,.bool),(9,.str)],[]⟩ (u4 zgM) (.join [[1,3,2,4,2,4,2,5,3,2,2,3,2,4,2,5,1,2,2,2,2],[2,3,2,4,2,4,2,5,3,2,2,3,2,4,2,5,1,2,2,2,2],[6,3,2,2,3,2,4,2,5,1,2,2,2,2],[6,1,2,2,2,2],[2,2,2,2,2]] ⟨[(0,.str),(2,.int .i64),(8,.bool),(9,.str)],[]⟩ (u4 zkv) (.join [[2,3,2,4,2,4,2,5,3,2,2,3,2,4,2,5,1,2,2,2,2],[6,3,2,2,3,2,4,2,5,1,2,2,2,2],[6,1,2,2,2,2],[2,2,2,2,2]] ⟨[(0,.str),(1,.int .i64),(2,.int .i64),(8,.bool),(9,.str)],[]⟩ (u5 zkf) (.join [[1,4,2,4,2,4,2,5,3,2,2,3,2,4,2,5,1,2,2,2,2],[2,4,2,4,2,4,2,5,3,2,2,3,2,4,2,5,1,2,2,2,2],[6,3,2,2,3,2,4,2,5,1,2,2,2,2],[6,1,2,2,2,2],[2,2,2,2,2]] ⟨[(0,.str),(2,.int .i64),(8,.bool),(9,.str)],[]⟩ (u4 zgy) (.join [[2,4,2,4,2,4,2,5,3,2,2,3,2,4,2,5,1,2,2,2,2],[6,3,2,2,3,2,4,2,5,1,2,2,2,2],[6,1,2,2,2,2],[2,2,2,2,2]] ⟨[(0,.str),(1,.int .i64),(2,.int .i64),(8,.bool),(9,.str)],[]⟩ (u5 zkj) (.join [[1,1,2,2,2,2,2],[2,1,2,2,2,2,2],[2,2,2,2,2,2]] ⟨[(0,.str),(1,.int .i64),(2,.int .i64),(8,.bool),(9,.str)],[]⟩ (u5 zbI) (.join [[3,2,1,2,2,2,2,2],[2,2,2,2,2,2]] ⟨[(0,.str),(1,.int .i64),(8,.bool),(9,.str)],[]⟩ (u4 zjD) (.join [[1,4,2,1,2,2,2,2,2],[2,4,2,1,2,2,2,2,2],[2,2,2,2,2,2]] ⟨[(0,.str),(1,.int .i64),(2,.int .i64),(8,.bool),(9,.str)],[]⟩ (u5 zgf) (.join [[1,2,2,2,2,2,2],[2,2,2,2,2,2,2]] ⟨[(0,.str),(1,.int .i64),(2,.int .i64),(8,.bool),(9,.str)],[]⟩ (u5 zeh) (.join [[1,1,2,2,2,2,2,2,2],[2,1,2,2,2,2,2,2,2],[2,2,2,2,2,2,2,2]] ⟨[(0,.str),(1,.int .i64),(2,.int .i64),(8,.bool),(9,.str)],[]⟩ (u5 zgl) (.join [[1,5,2,1,2,2,2,2,2,2,2],[2,5,2,1,2,2,2,2,2,2,2],[6,2,1,2,2,2,2,2,2,2],[2,2,2,2,2,2,2,2]] ⟨[(0,.str),(1,.int .i64),(2,.int .i64),(8,.bool),(9,.str),(85,.int .i64)],[]⟩ (u6 zgs) (.join [[1,4,2,5,2,1,2,2,2,2,2,2,2],[2,4,2,5,2,1,2,2,2,2,2,2,2],[6,2,1,2,2,2,2,2,2,2],[2,2,2,2,2,2,2,2]] ⟨[(0,.str),(1,.int .i64),(2,.int .i64),(8,.bool),(9,.str),(85,.int .i64)],[]⟩ (u6 zgm) (.join [[4,2,4,2,5,2,1,2,2,2,2,2,2,2],[6,2,1,2,2,2,2,2,2,2],[2,2,2,2,2,2,2,2]] ⟨[(0,.str),(1,.int .i64),(2,.int .i64),(8,.bool),(9,.str)],[]⟩ (u5 zjJ) (.loop [[7,5,2,1,2,2,2,2,2,2,2,2,2,2,2],[8,5,2,1,2,2,2,2,2,2,2,2,2,2,2],[6,2,1,2,2,2,2,2,2,2,2,2,2,2],[2,2,2,2,2,2,2,2,2,2,2,2]] ⟨[(1,.int .i64),(8,.bool),(9,.str),(10,.int .u64),(11,.int .u64),(12,.bool),(13,.int .u64),(99,.sl 5),(100,.int .i64),(101,.int .i64)],[]⟩ (zbj) (.join [[1,1,2,2,2,5,1,2,2,7,5,2,1,2,2,2,2,2,2,2,2,2,2,2],[2,1,2,2,2,5,1,2,2,7,5,2,1,2,2,2,2,2,2,2,2,2,2,2],[2,2,2,2,5,1,2,2,7,5,2,1,2,2,2,2,2,2,2,2,2,2,2],[6,1,2,2,7,5,2,1,2,2,2,2,2,2,2,2,2,2,2],[2,2,2,7,5,2,1,2,2,2,2,2,2,2,2,2,2,2],[8,5,2,1,2,2,2,2,2,2,2,2,2,2,2],[6,2,1,2,2,2,2,2,2,2,2,2,2,2],[2,2,2,2,2,2,2,2,2,2,2,2]] ⟨[(1,.int .i64),(8,.bool),(9,.str),(10,.int .u64),(11,.int .u64),(12,.bool),(13,.int .u64),(16,.int .u8),(99,.sl 5),(100,.int .i64),(101,.int .i64)],[]⟩ (u11 zc4) (.join [[1,1,2,2,2,2,5,1,2,2,7,5,2,1,2,2,2,2,2,2,2,2,2,2,2],[2,1,2,2,2,2,5,1,2,2,7,5,2,1,2,2,2,2,2,2,2,2,2,2,2],[2,2,2,2,2,5,1,2,2,7,5,2,1,2,2,2,2,2,2,2,2,2,2,2],[6,1,2,2,7,5,2,1,2,2,2,2,2,2,2,2,2,2,2],[2,2,2,7,5,2,1,2,2,2,2,2,2,2,2,2,2,2],[8,5,2,1,2,2,2,2,2,2,2,2,2,2,2],[6,2,1,2,2,2,2,2,2,2,2,2,2,2],[2,2,2,2,2,2,2,2,2,2,2,2]] ⟨[(1,.int .i64),(8,.bool),(9,.str),(10,.int .u64),(11,.int .u64),(12,.bool),(13,.int .u64),(16,.int .u8),(99,.sl 5),(100,.int .i64),(101,.int .i64)],[]⟩ (u11 zgp) (.join [[1,2,2,2,2,2,5,1,2,2,7,5,2,1,2,2,2,2,2,2,2,2,2,2,2],[2,2,2,2,2,2,5,1,2,2,7,5,2,1,2,2,2,2,2,2,2,2,2,2,2],[6,1,2,2,7,5,2,1,2,2,2,2,2,2,2,2,2,2,2],[2,2,2,7,5,2,1,2,2,2,2,2,2,2,2,2,2,2],[8,5,2,1,2,2,2,2,2,2,2,2,2,2,2],[6,2,1,2,2,2,2,2,2,2,2,2,2,2],[2,2,2,2,2,2,2,2,2,2,2,2]] ⟨[(1,.int .i64),(8,.bool),(9,.str),(10,.int .u64),(11,.int .u64),(12,.bool),(13,.int .u64),(16,.int .u8),(99,.sl 5),(100,.int .i64),(101,.int .i64)],[]⟩ (u11 zgj) (.join [[1,2,2,2,2,2,2,5,1,2,2,7,5,2,1,2,2,2,2,2,2,2,2,2,2,2],[2,2,2,2,2,2,2,5,1,2,2,7,5,2,1,2,2,2,2,2,2,2,2,2,2,2],[6,1,2,2,7,5,2,1,2,2,2,2,2,2,2,2,2,2,2],[2,2,2,7,5,2,1,2,2,2,2,2,2,2,2,2,2,2],[8,5,2,1,2,2,2,2,2,2,2,2,2,2,2],[6,2,1,2,2,2,2,2,2,2,2,2,2,2],[2,2,2,2,2,2,2,2,2,2,2,2]] ⟨[(1,.int .i64),(8,.bool),(9,.str),(10,.int .u64),(11,.int .u64),(12,.bool),(13,.int .u64),(16,.int .u8),(99,.sl 5),(100,.int .i64),(101,.int .i64)],[]⟩ (u11 zgr) (.join [[1,1,2,2,2,2,2,2,2,5,1,2,2,7,5,2,1,2,2,2,2,2,2,2,2,2,2,2],[2,1,2,2,2,2,2,2,2,5,1,2,2,7,5,2,1,2,2,2,2,2,2,2,2,2,2,2],[2,2,2,2,2,2,2,2,5,1,2,2,7,5,2,1,2,2,2,2,2,2,2,2,2,2,2],[6,1,2,2,7,5,2,1,2,2,2,2,2,2,2,2,2,2,2],[2,2,2,7,5,2,1,2,2,2,2,2,2,2,2,2,2,2],[8,5,2,1,2,2,2,2,2,2,2,2,2,2,2],[6,2,1,2,2,2,2,2,2,2,2,2,2,2],[2,2,2,2,2,2,2,2,2,2,2,2]] ⟨[(1,.int .i64),(8,.bool),(9,.str),(10,.int .u64),(11,.int .u64),(12,.bool),(13,.int .u64),(17,.int .u64),(99,.sl 5),(100,.int .i64),(101,.int .i64)],[]⟩ (u11 zgo) .nil))))) .nil)))))))))))))))))
theorem zqm:K8 162 (zsq):=f8 zsu Tryz.func162 (.cons zrJ (.cons zs8 .nil)) ⟨λz=>by kernel_rfl,⟨λz=>by kernel_rfl,⟨λz=>by kernel_rfl,⟨λz=>by kernel_rfl,⟨λz=>by kernel_rfl,⟨λz=>by kernel_rfl,⟨λz=>by kernel_rfl,⟨λz=>by kernel_rfl,⟨λz=>by kernel_rfl,⟨λz=>by kernel_rfl,⟨λz=>by kernel_rfl,⟨λz=>by kernel_rfl,⟨λz=>by kernel_rfl,⟨λz=>by kernel_rfl,⟨λz=>by kernel_rfl,⟨λz=>by kernel_rfl,⟨λz=>by kernel_rfl,⟨λz=>by kernel_rfl,⟨λz=>by kernel_rfl,⟨λz=>by kernel_rfl,⟨λz=>by kernel_rfl,⟨λz=>by kernel_rfl,⟨⟩⟩⟩⟩⟩⟩,trivial⟩⟩⟩⟩⟩⟩⟩⟩⟩⟩⟩⟩⟩⟩⟩⟩⟩
def zib(f_ s_:Str)(base bits:Int)(a:zaf):Option (zaf×Unit):=if s_.length<=281474976710656/\(a= .code 156 2\/a= .code 156 1)then some (.opq,())else none
def zqc:Shape:=⟨[(0,.str),(1,.str),(2,.int .i64),(3,.int .i64),(4,.err)],[]⟩
def zBb:List zO:=[⟨false,.err,[]⟩]
def zA7:=callee Y [] zqc zBb (λz=>zib z.1 z.2.1 z.2.2.1 z.2.2.2.1 z.2.2.2.2.1)
theorem zvC(f_ s_:Str)(base bits:Int)(er:zaf)(q:TypeId×Value)(r:zaf×Unit)(hN:zib f_ s_ base bits er=some r)(w:World)(F:Heap)(hv:F.Sub w)(hG:zar F):
  Calls Tryz.prog 163 #[.string ⟨⟨f_⟩⟩,.string ⟨⟨s_⟩⟩,.int .i64 base,.int .i64 bits,zmW er q] w (zdt w F λs=>∃q,s= .v (zmW r.1 q)):=by
 unfold zib at hN;split at hN
 ·rename_i hc;cases hN;obtain⟨hc,rfl|rfl⟩:=hc
  ·obtain⟨te,pe,hm⟩:=hG.zIr;refine(Tryz.strconv_toError_syntax ⟨⟨f_⟩⟩ ⟨⟨s_⟩⟩ base bits _ w hc (zeP hv hm) (.inr ⟨te,pe,rfl⟩)).mono λe w' h=>?_
   obtain⟨n,h1,_,_,h2⟩:=h;exact zdt.below (s:= .v (.iface _ (.pointer (some ⟨n,0,none⟩)))) hv h1 h2 trivial rfl ⟨(_,_),rfl⟩
  ·obtain⟨te,pe,hm⟩:=hG.zH5;refine(Tryz.strconv_toError_range ⟨⟨f_⟩⟩ ⟨⟨s_⟩⟩ base bits _ w hc (zeP hv hm) (.inr ⟨te,pe,rfl⟩)).mono λe w' h=>?_
   obtain⟨n,h1,_,_,h2⟩:=h;exact zdt.below (s:= .v (.iface _ (.pointer (some ⟨n,0,none⟩)))) hv h1 h2 trivial rfl ⟨(_,_),rfl⟩
 ·cases hN
theorem zzU:K8 163 zA7:=
 COk.zPY (l:=zqc.l) ⟨⟨_,Tryz.func163,by kernel_rfl,rfl⟩⟩ ⟨rfl,rfl⟩ rfl λz zo h w F vals hG hv hr=>by
  obtain⟨u1,r1,rfl,q1,hr⟩:=hr.inv;obtain⟨u2,r2,rfl,q2,hr⟩:=hr.inv;obtain⟨u3,r3,rfl,q3,hr⟩:=hr.inv;obtain⟨u4,r4,rfl,q4,hr⟩:=hr.inv;obtain⟨u5,r5,rfl,q5,hr⟩:=hr.inv;have hnil:=hr.zfg;subst hnil;have e1:=q1.zbn;have e2:=q2.zbn;have e3:=q3.zbn;have e4:=q4.zbn;subst e1;subst e2;subst e3;subst e4;have key: ∀(e:zaf) (u:Value),Rel Y F [] (.err e) u->∃q,u=zmW e q:=λe u h=>by cases h with| @err e q=>exact⟨q,rfl⟩
  obtain⟨q,rfl⟩:=key _ _ q5;refine(zvC z.1 z.2.1 z.2.2.1 z.2.2.2.1 z.2.2.2.2.1 q zo h w F hv hG).mono λe w' hh=>?_
  obtain⟨F',s,rfl,hgs,hu,hst,q,rfl⟩:=hh;exact⟨F',_,rfl,.err,hst⟩
def zba(s:Str)(b:Int)(c:Int):Option (Int×zaf×Unit):=(zfS s b c).bind λa=>if(!(a.2.1).isNil)=true then(zib [80,97,114,115,101,85,105,110,116] s b c a.2.1).bind λd=>some (a.1,d.1,())else some (a.1,zaf.nil,())
def zyD:=callee Y [] zsb zk2 (u3 zba)
def zyG:zab Y (zU Y zk2):= .nil
theorem znL:K8 128 (zyD):=f8 zyG Tryz.func128 (.cons zqm (.cons zzU .nil)) trivial
def zhn(x:zac):Option (Int×Int×zac×Unit):=(zo1 x.rest).bind λb=>let f:=((x.rest.length:Nat):Int);(if(decide (b.1<f))=true then(za3 x.rest b.1).bind λg=>some (g==46)else some false).bind λh=>if h=true then some (0,0,(zdY x),())else(zaQ x.rest 0 b.1).bind λa=>let i:=(decide (((a.length:Nat):Int)>2));(if i=true then(zaQ a 0 2).bind λj=>(if(j==[48,120])=true then some true else(zaQ a 0 2).bind λk=>some (k==[48,88])).bind λl=>some l else some false).bind λm=>if m=true then(zaQ a 2 ((a.length:Nat):Int)).bind λc=>(zba c 16 53).bind λd=>if(!(d.2.1).isNil)=true then some (0,0,(zdY x),())else(strings_Contains c [95]).bind λn=>if n.1=true then some (0,0,(zdY x),())else some ((IntKind.wrap .i64 d.1),b.1,(zdY x),())else let o:=(decide (((a.length:Nat):Int)>1));(if o=true then(za3 a 0).bind λp=>some (p==48)else some false).bind λq=>if q=true then some (0,0,(zdY x),())else(zba a 10 53).bind λe=>if(!(e.2.1).isNil)=true then some (0,0,(zdY x),())else(strings_Contains a [95]).bind λr=>if r.1=true then some (0,0,(zdY x),())else some ((IntKind.wrap .i64 e.1),b.1,(zdY x),())
def zms:List zO:=[⟨false,.tup [.int .i64,.int .i64],[.whole 69 69]⟩]
def zvn:=callee Y [] zvw zms (λz=>zhn z.1)
def zvH:zab Y (zU Y zms):= .nil
theorem zt0:K8 71 (zvn):=f8 zvH Tryz.func71 (.cons zro (.cons znL (.cons zhw .nil))) trivial
def zsA:Dn.Callee Y:=zO5 Y 5
theorem zqp:K8 54 zsA:=zR4 Tryz.lays169 Tryz.Builder_Extra_169 ⟨⟨_,Tryz.func54,by kernel_rfl,rfl⟩⟩ hsz
def zd3(a:Str)(c:Int):Option (Int):=some (Lib.indexByte a c.toNat.toUInt8)
theorem zd3.ok(s_:Str)(c:Int)(r:Int)(h0:zd3 s_ c=some r)(w0:World)(F0:Heap)(hv:F0.Sub w0)(hG:zar F0)(hg:SV.zaH F0 [.v (.string ⟨⟨s_⟩⟩),.v (.int .u8 c)])(ρ:Nat->Nat):
  Calls Tryz.prog 74 (SV.zal ρ [.v (.string ⟨⟨s_⟩⟩),.v (.int .u8 c)]).toArray w0 (zdt w0 F0 λs=>s= .v (.int .i64 r)):=by
 refine(Tryz.strings_IndexByte ⟨⟨s_⟩⟩ c w0).mono λe w' h=>?_
 cases h0;exact zdt.pure (s:= .v _) hv h.1 h.2 trivial rfl rfl
def strings_IndexByte(a:Str)(c:Int):Option (Int×Unit):=zjf (λr=>(r,())) (zd3 a c)
def zoa:Shape:=⟨[(0,.str),(1,.int .u8)],[]⟩
def zyg:=callee Y [] zoa zy7 (λz=>strings_IndexByte z.1 z.2.1)
theorem zjh:K8 74 zyg:=
 COk.ext (l:=zoa.l) ⟨⟨_,Tryz.func74,by kernel_rfl,rfl⟩⟩ ⟨rfl,rfl⟩ rfl λz zo h=>⟨_,_,rfl,rfl,λw F hG hv=>by
  obtain⟨r,hr,rfl⟩:=zgX h;exact zd3.ok z.1 z.2.1 r hr w F hv hG (by simp[SV.zaH,SV.good]) (λ_=>0)⟩
def zeM(n:Int):Option (Str×Unit):=let a:=(IntKind.wrap .u8 (Int.fdiv n (2^8)));(toB a).bind λb=>(toB (IntKind.wrap .u8 n)).bind λc=>some (([b,c]:List UInt8),())
def zHr:Shape:=⟨[(0,.int .i64)],[]⟩
def zAn:List zO:=[⟨false,.str,[]⟩]
def zIC:=callee Y [] zHr zAn (λz=>zeM z.1)
def zHq:zab Y (zU Y zAn):= .nil
theorem zpX:K8 131 (zIC):=f8 zHq Tryz.func131 .nil trivial
def zpd:Dn.Callee Y:=zLd Y Tryz.prog 85
theorem zoB:K8 114 zpd:=zQo Tryz.lays240 Tryz.zF2 ⟨⟨_,Tryz.func114,by kernel_rfl,rfl⟩⟩
def zaK(s:Str)(b:Str)(l:List UInt8):Option (Int×zaf×Str×(List UInt8)×Unit):=(room (l.length+s.length)).bind λ_=>let a:=l++s;some (((s.length:Nat):Int),zaf.nil,b,a,())
def znN:Shape:=⟨[(0,.ptr 0 1),(1,.str)],[oc3 1,.arr 5]⟩
def zix:List zO:=[⟨false,.tup [.int .i64,.err],[oc3 1,.arr 5]⟩]
def znO:=callee Y [] znN zix (u3 zaK)
def znM:zab Y (zU Y zix):= .nil
theorem ze2:K8 53 (znO):=f8 znM Tryz.func53 (.cons zoB .nil) trivial
def zgY(t:Str)(a:Str):Option (Str):=if t.length<4294967281/\a.length<4294967281/\a.all (λb=>decide (b.toNat<128))=true then some (Lib.trimS t a)else none
theorem zgY.ok(t:Str)(cs:Str)(r:Str)(h0:zgY t cs=some r)(w0:World)(F0:Heap)(hv:F0.Sub w0)(hG:zar F0)(hg:SV.zaH F0 [.v (.string ⟨⟨t⟩⟩),.v (.string ⟨⟨cs⟩⟩)])(ρ:Nat->Nat):
  Calls Tryz.prog 188 (SV.zal ρ [.v (.string ⟨⟨t⟩⟩),.v (.string ⟨⟨cs⟩⟩)]).toArray w0 (zdt w0 F0 λs=>s= .v (.string ⟨⟨r⟩⟩)):=by
 unfold zgY at h0;split at h0
 ·rename_i hc;cases h0;refine(Any.strings_Trim_ascii Tryz.lays160 (zII (z:= .agg (Array.replicate 256 (.bool false))) (by kernel_rfl)) (by kernel_rfl) ⟨⟨t⟩⟩ ⟨⟨cs⟩⟩ w0 (Nat.le_of_lt (Nat.lt_trans hc.1 (by decide))) hc.2.1 (λj b hb=>by have:=List.all_eq_true.1 hc.2.2 b (List.mem_of_getElem? hb);simpa using this)).mono λe w' h=>?_
  exact zdt.below (s:= .v (.string ⟨⟨_⟩⟩)) hv h.1 h.2 trivial rfl rfl
 ·cases h0
def znb(t:Str)(a:Str):Option (Str×Unit):=zjf (λr=>(r,())) (zgY t a)
def zEk:=callee Y [] zn5 zAn (λz=>znb z.1 z.2.1)
theorem zCG:K8 188 zEk:=
 COk.ext (l:=zn5.l) ⟨⟨_,Tryz.func188,by kernel_rfl,rfl⟩⟩ ⟨rfl,rfl⟩ rfl λz zo h=>⟨_,_,rfl,rfl,λw F hG hv=>by
  obtain⟨r,hr,rfl⟩:=zgX h;exact zgY.ok z.1 z.2.1 r hr w F hv hG (by simp[SV.zaH,SV.good]) (λ_=>0)⟩
def zdj(a:Int)(s:Str)(l:List UInt8):Option (Bool×Str×(List UInt8)×Unit):=let c:=(decide (((s.length:Nat):Int)<a));if c=true then some (false,s,l,())else(zaQ s 0 a).bind λd=>(znb d [48,49,50,51,52,53,54,55,56,57,97,98,99,100,101,102,65,66,67,68,69,70]).bind λe=>if(!(e.1==[]))=true then some (false,s,l,())else(zaQ s 0 a).bind λf=>(zba f 16 16).bind λg=>(zaQ s a ((s.length:Nat):Int)).bind λh=>(zeM (IntKind.wrap .i64 g.1)).bind λi=>(zaK i.1 h l).bind λb=>some (true,b.2.2.1,b.2.2.2.1,())
def zv1:Shape:=⟨[(0,.ptr 0 0),(1,.int .i64)],[oc3 1,.arr 5]⟩
def zmP:List zO:=[⟨false,.bool,[oc3 1,.arr 5]⟩]
def zvq:=callee Y [] zv1 zmP (u3 zdj)
def zvZ:zab Y (zU Y zmP):= .nil
theorem ztP:K8 164 (zvq):=f8 zvZ Tryz.func164 (.cons zCG (.cons znL (.cons zpX (.cons ze2 .nil)))) trivial
def zfG(s:Str)(l:List UInt8):Option (Bool×Str×(List UInt8)×Unit):=if(s==[])=true then some (false,s,l,())else(za3 s 0).bind λa=>(zaQ s 1 ((s.length:Nat):Int)).bind λb=>(strings_IndexByte [110,116,114,98,102,118] a).bind λf=>if(decide (f.1>=0))=true then(za3 [10,9,13,8,12,11] f.1).bind λi=>(zeM (IntKind.wrap .i64 i)).bind λj=>(zaK j.1 b l).bind λg=>some (true,g.2.2.1,g.2.2.2.1,())else if(a==10)=true then some (true,b,l,())else if(a==120)=true then(zdj 2 b l).bind λd=>some (d.1,d.2.1,d.2.2.1,())else if(a==117)=true then(zdj 4 b l).bind λe=>some (e.1,e.2.1,e.2.2.1,())else if(a==48)=true then(zeM 0).bind λk=>(zaK k.1 b l).bind λc=>(if(c.2.2.1==[])=true then some true else(za3 c.2.2.1 0).bind λm=>some (decide (m<48))).bind λn=>(if n=true then some true else(za3 c.2.2.1 0).bind λo=>some (decide (o>57))).bind λp=>some (p,c.2.2.1,c.2.2.2.1,())else let q:=((a==13)||((decide (a>=49))&&(decide (a<=57))));let r:=(q||(decide (a>=128)));if r=true then some (false,b,l,())else(zeM (IntKind.wrap .i64 a)).bind λt=>(zaK t.1 b l).bind λh=>some (true,h.2.2.1,h.2.2.2.1,())
def zuX:Shape:=⟨[(0,.ptr 0 0)],[oc3 1,.arr 5]⟩
def zvk:=callee Y [] zuX zmP (u2 zfG)
theorem ztO:K8 130 (zvk):=f8 zvZ Tryz.func130 (.cons zjh (.cons zpX (.cons ze2 (.cons ztP .nil)))) trivial
def zgn:Str×Str×(List UInt8)×Unit->Option ((Str×Str×(List UInt8)×Unit)⊕(Str×Int×Int×Unit))| (b,d,e,())=>if(!(d==[]))=true then(za3 d 0).bind λa=>(zaQ d 1 ((d.length:Nat):Int)).bind λf=>(za3 b 0).bind λi=>if(a==i)=true then fd (let j:=(IntKind.wrap .i64 (((b.length:Nat):Int) - ((f.length:Nat):Int)));some (.inr (e,j,0,())))else let k:=((a==10)||(a==13));let l:=(k||(decide (a>=128)));if l=true then some (.inr ([],0,10,()))else if(a==92)=true then(zfG f e).bind λc=>if(!c.1)=true then some (.inr ([],0,10,()))else if(a !=92)=true then(zeM (IntKind.wrap .i64 a)).bind λm=>(zaK m.1 c.2.1 c.2.2.1).bind λg=>some (.inl (b,g.2.2.1,g.2.2.2.1,()))else some (.inl (b,c.2.1,c.2.2.1,()))else if(a !=92)=true then(zeM (IntKind.wrap .i64 a)).bind λn=>(zaK n.1 f e).bind λh=>some (.inl (b,h.2.2.1,h.2.2.2.1,()))else some (.inl (b,f,e,()))else some (.inr ([],0,10,()))
def zqH(s:Str):Option (Str×Int×Int×Unit):=(if(s==[])=true then some true else(za3 s 0).bind λa=>(if(a !=39)=true then(za3 s 0).bind λb=>some (b !=34)else some false).bind λc=>some c).bind λd=>if d=true then some ([],0,10,())else(zaQ s 1 ((s.length:Nat):Int)).bind λe=>Lp.loop zgn (s,e,[],())
def zzz:List zO:=[⟨false,.tup [.str,.int .i64,.int .i64],[]⟩]
def zIi:=callee Y [] zJZ zzz (λz=>zqH z.1)
def zIl:zab Y (zU Y zzz):=(.loop [[7,5,1,2,2,2],[8,5,1,2,2,2],[6,1,2,2,2],[2,2,2,2]] ⟨[(0,.str),(5,.ptr 0 0)],[oc3 1,.arr 5]⟩ (zgn) .nil .nil)
theorem zFX:K8 72 (zIi):=f8 zIl Tryz.func72 (.cons zqp (.cons ztO (.cons zpX (.cons ze2 .nil)))) ⟨λz=>by kernel_rfl,trivial,trivial⟩
def zfF(b:Int)(d:Str)(e:Int)(c:zac)(a:zy):Option (zy×Int×zac×Unit):=(strings_IndexByte [123,125,40,41,91,93,46,59,44,60,62,43,45,42,47,37,33,63,58,61] e).bind λf=>if(decide (f.1>=0))=true then(zaQ d 0 1).bind λg=>some (⟨5,g,a.Num,a.At,a.Fresh⟩,1,(zdY c),())else if(a.Kind==5)=true then(zaQ d 0 b).bind λh=>some (⟨a.Kind,h,a.Num,a.At,a.Fresh⟩,b,(zdY c),())else some ((zBS a),b,(zdY c),())
def zfH(d:Int)(a:Str)(e:Int)(c:zac)(b:zy):Option (zy×Int×zac×Unit):=let f:=(decide (((a.length:Nat):Int)>1));if f=true then(zaQ a 0 2).bind λg=>(zgV [32,60,61,32,62,61,32,61,61,32,33,61,32,43,43,32,45,45,32,38,38,32,124,124,32,43,61,32,45,61,32,42,61,32,47,61,32,37,61,32] g).bind λh=>if h.1=true then(zaQ a 0 2).bind λi=>some (⟨5,i,b.Num,b.At,b.Fresh⟩,2,(zdY c),())else zfF d a e (zdY c) (zBS b)else zfF d a e (zdY c) (zBS b)
def zfJ(x:zac):Option (zy×Int×zac×Unit):=(za3 x.rest 0).bind λa=>(ziR a).bind λf=>if f.1=true then(zo1 x.rest).bind λb=>if(decide (b.1>32))=true then some (⟨0,[],0,0,false⟩,0,(zdY x),())else(zaQ x.rest 0 b.1).bind λc=>(znG c).bind λg=>if g.1=true then some (⟨2,c,0,0,false⟩,b.1,(zdY x),())else some (⟨1,c,0,0,false⟩,b.1,(zdY x),())else(zl2 a).bind λh=>if h.1=true then(zhn (zdY x)).bind λd=>some (⟨3,[],d.1,0,false⟩,d.2.1,(zdY d.2.2.1),())else let i:=((a==39)||(a==34));if i=true then(zqH x.rest).bind λe=>some (⟨4,e.1,0,0,false⟩,e.2.1,(zdY x),())else let j:=((x.rest.length:Nat):Int);if(decide (j>2))=true then(zaQ x.rest 0 3).bind λk=>(zgV [32,61,61,61,32,33,61,61,32] k).bind λl=>if l.1=true then(zaQ x.rest 0 3).bind λm=>some (⟨5,m,0,0,false⟩,3,(zdY x),())else zfH 0 x.rest a (zdY x) ⟨0,[],0,0,false⟩else zfH 0 x.rest a (zdY x) ⟨0,[],0,0,false⟩
def zo6:List zO:=[⟨false,.tup [.st 36,.int .i64],[.whole 69 69]⟩]
def zz0:=callee Y [] zvw zo6 (λz=>zfJ z.1)
def zy5:zab Y (zU Y zo6):=(.join [[1,4,2,4,2,4,2,4,2,5,2,1,2,2],[2,4,2,4,2,4,2,4,2,5,2,1,2,2],[6,2,1,2,2],[2,2,2]] ⟨[(2,.ptr 1 0),(3,.int .i64),(4,.str),(5,.int .u8)],[.whole 69 69,.whole 36 36]⟩ (u5 zfH) (.join [[1,4,2,4,2,4,2,4,2,4,2,5,2,1,2,2],[2,4,2,4,2,4,2,4,2,4,2,5,2,1,2,2],[6,2,1,2,2],[2,2,2]] ⟨[(2,.ptr 1 0),(3,.int .i64),(4,.str),(5,.int .u8)],[.whole 69 69,.whole 36 36]⟩ (u5 zfF) .nil))
theorem zyi:K8 34 (zz0):=f8 zy5 Tryz.func34 (.cons znz (.cons zro (.cons ztv (.cons zuZ (.cons zt0 (.cons zFX (.cons zu5 (.cons zjh .nil)))))))) ⟨λz=>by kernel_rfl,⟨λz=>by kernel_rfl,⟨⟩⟩⟩
def ziY:Str×zac×(List zy)×Unit->Option ((Str×zac×(List zy)×Unit)⊕((List zy)×Int×Int×Unit))| (c,f,d,())=>(zhy (zdY f)).bind λb=>if b.1=true then let g:=((c.length:Nat):Int);let h:=((b.2.1.rest.length:Nat):Int);let e:=(IntKind.wrap .i64 (g -h));let i:=(b.2.1.rest==[]);if i=true then(room (d.length+([⟨0,[],0,e,b.2.1.fresh⟩]:List zy).length)).bind λ_=>let j:=d++[⟨0,[],0,e,b.2.1.fresh⟩];(zoQ j).bind λk=>some (.inr (k.1,0,0,()))else(zfJ (zdY b.2.1)).bind λa=>if(a.2.1==0)=true then let l:=((c.length:Nat):Int);let m:=((a.2.2.1.rest.length:Nat):Int);let n:=(IntKind.wrap .i64 (l -m));some (.inr ([],n,60,()))else(room (d.length+([⟨a.1.Kind,a.1.Text,a.1.Num,e,a.2.2.1.fresh⟩]:List zy).length)).bind λ_=>let o:=d++[⟨a.1.Kind,a.1.Text,a.1.Num,e,a.2.2.1.fresh⟩];(zaQ a.2.2.1.rest a.2.1 ((a.2.2.1.rest.length:Nat):Int)).bind λp=>some (.inl (c,⟨a.2.2.1.src,p,a.2.2.1.fresh⟩,o,()))else let q:=((c.length:Nat):Int);let r:=((b.2.1.rest.length:Nat):Int);let s:=(IntKind.wrap .i64 (q -r));some (.inr ([],s,60,()))
def zts(a:Str):Option ((List zy)×Int×Int×Unit):=let b:=(decide (((a.length:Nat):Int)>4096));if b=true then some ([],0,2,())else Lp.loop ziY (a,⟨a,a,false⟩,[],())
def zBo:List zO:=[⟨false,.tup [.sl 36,.int .i64,.int .i64],[]⟩]
def ztM:=callee Y [] zJZ zBo (λz=>zts z.1)
def zKc:zab Y (zU Y zBo):=(.loop [[7,5,1,2,2,2,2],[8,5,1,2,2,2,2],[6,1,2,2,2,2],[2,2,2,2,2]] ⟨[(0,.str),(5,.ptr 0 0),(6,.own 1)],[.whole 69 69,.arr 36]⟩ (ziY) .nil .nil)
theorem zHf:K8 18 (ztM):=f8 zKc Tryz.func18 (.cons ztS (.cons zEL (.cons zyi .nil))) ⟨λz=>by kernel_rfl,trivial,trivial⟩
def zbb(s:Str)(x:zh):Option (Bool×zh×Unit):=(zT x.t 0).bind λa=>(if(a.Kind==5)=true then some true else(zT x.t 0).bind λb=>some (b.Kind==2)).bind λc=>(if c=true then(zT x.t 0).bind λd=>some (d.Text==s)else some false).bind λe=>some (e,(zk x),())
def zBc:Shape:=⟨[(0,.ptr 0 0),(1,.str)],[.whole 48 48]⟩
def zp8:List zO:=[⟨false,.bool,[.whole 48 48]⟩]
def zBe:=callee Y [] zBc zp8 (u2 zbb)
def zBd:zab Y (zU Y zp8):= .nil
theorem zcu:K8 35 (zBe):=f8 zBd Tryz.func35 .nil trivial
def zaw(x:zh):Option (zy×zh×Unit):=(zT x.t 0).bind λa=>if(a.Kind !=0)=true then(zaQ x.t 1 ((x.t.length:Nat):Int)).bind λb=>some ((zBS a),⟨b,x.no⟩,())else some ((zBS a),(zk x),())
def zyb:Shape:=⟨[(0,.ptr 0 0)],[.whole 48 48]⟩
def zn6:List zO:=[⟨false,.st 36,[.whole 48 48]⟩]
def zjW:=callee Y [] zyb zn6 (λz=>zaw z.1)
def zyq:zab Y (zU Y zn6):= .nil
theorem zbN:K8 75 (zjW):=f8 zyq Tryz.func75 .nil trivial
def zH(s:Str)(x:zh):Option (Bool×zh×Unit):=(zbb s (zk x)).bind λa=>if a.1=true then(zaw (zk a.2.1)).bind λb=>some (a.1,(zk b.2.1),())else some (a.1,(zk a.2.1),())
def zid:=callee Y [] zBc zp8 (u2 zH)
theorem zaD:K8 36 (zid):=f8 zBd Tryz.func36 (.cons zcu (.cons zbN .nil)) trivial
def zaU(x:zh):Option (zaf×zh×Unit):=(zT x.t 0).bind λa=>some ((zaf.code 45 a.At),(zk x),())
def znV:List zO:=[⟨true,.err,[.whole 48 48]⟩]
def zfD:=callee Y [] zyb znV (λz=>zaU z.1)
def zys:zab Y (zU Y znV):= .nil
theorem za2:K8 21 (zfD):=f8 zys Tryz.func21 .nil trivial
def zdf(x:zh):Option ((zaf×zh×Unit)⊕(Str×zh×Unit)):=(zT x.t 0).bind λc=>if(c.Kind !=1)=true then(zaU (zk x)).bind λa=>some (.inl (a.1,(zk a.2.1),()))else(zaw (zk x)).bind λb=>some (.inr (b.1.Text,(zk b.2.1),()))
def zof:List zO:=[⟨true,.err,[.whole 48 48]⟩,⟨false,.str,[.whole 48 48]⟩]
def zn7:=callee Y [] zyb zof (λz=>zdf z.1)
def zyA:zab Y (zU Y zof):= .nil
theorem zeZ:K8 76 (zn7):=f8 zyA Tryz.func76 (.cons za2 (.cons zbN .nil)) trivial
def zae(s:Str)(x:zh):zQr:=(zH s (zk x)).bind λa=>if(!a.1)=true then(zaU (zk a.2.1)).bind λb=>some (.inl (b.1,(zk b.2.1),()))else some (.inr ((zk a.2.1),()))
def zn4:List zO:=[⟨true,.err,[.whole 48 48]⟩,⟨false,.tup [],[.whole 48 48]⟩]
def zfB:=callee Y [] zBc zn4 (u2 zae)
def zyE:zab Y (zU Y zn4):= .nil
theorem zaM:K8 77 (zfB):=f8 zyE Tryz.func77 (.cons zaD (.cons za2 .nil)) trivial
def zhN(x:zh)(c:Int)(d:Str)(e:Int)(f:Str)(l:List Str)(g:List zg):OT5:=(zdf (zk x)).bind λh=>(match h with| .inl b=>some (.inl (b.1,(zk b.2.1),c,d,e,f,l,g,()))| .inr a=>(room (l.length+([a.1]:List Str).length)).bind λ_=>let i:=l++[a.1];some (.inr ((zk a.2.1),c,d,e,f,i,g,())))
def om0:List zbG:=[.cells 46 [.ptr 1 0],.whole 48 48,.cells 9 [.str],.cells 1 [.fn 242 [.ptr 4 0,.ptr 5 0]],.cells 46 [.ptr 1 0],oc0 6 7,.arr 9,.arr 25,.cells 4 [.bool]]
def om1:List zbG:=[.whole 48 48,.cells 46 [.ptr 0 0],.cells 9 [.str],.cells 1 [.fn 242 [.ptr 4 0,.ptr 5 0]],.cells 46 [.ptr 0 0],oc0 6 7,.arr 9,.arr 25,.cells 4 [.bool]]
def om2:List zbG:=[.cells 46 [.ptr 1 0],.whole 48 48,.cells 9 [.str],.cells 1 [.fn 79 [.ptr 4 0,.ptr 5 0]],.cells 46 [.ptr 1 0],oc0 6 7,.arr 9,.arr 25,.cells 4 [.bool]]
def om3:List zbG:=[.whole 48 48,.cells 46 [.ptr 0 0],.cells 9 [.str],.cells 1 [.fn 79 [.ptr 4 0,.ptr 5 0]],.cells 46 [.ptr 0 0],oc0 6 7,.arr 9,.arr 25,.cells 4 [.bool]]
def om4:List zbG:=[.cells 46 [.ptr 1 0],.whole 48 48,.cells 9 [.str],.cells 1 [.fn 236 [.ptr 4 0,.ptr 5 0]],.cells 46 [.ptr 1 0],oc2 6,.arr 25,.cells 4 [.bool]]
def om5:List zbG:=[.whole 48 48,.cells 46 [.ptr 0 0],.cells 9 [.str],.cells 1 [.fn 236 [.ptr 4 0,.ptr 5 0]],.cells 46 [.ptr 0 0],oc2 6,.arr 25,.cells 4 [.bool]]
def om6:List zbG:=[.whole 48 48,oc0 4 5,oc0 6 7,oc0 8 9,.arr 9,.arr 25,.arr 9,.arr 25,.arr 9,.arr 25]
def om7:List zbG:=[.whole 48 48,.cells 46 [.ptr 0 0],oc0 4 5,oc0 6 7,.arr 9,.arr 25,.arr 9,.arr 25]
def om8:List zbG:=[.whole 48 48,oc0 4 5,oc0 6 7,.whole 25 25,.arr 9,.arr 25,.arr 9,.arr 25]
def om9:List zbG:=[oc1 1,.arr 9,.cells 62 [.ptr 0 0],.whole 25 25,.cells 23 [.sl 25]]
def zPg:List zbG:=[.whole 48 48,.cells 46 [.ptr 0 0],.whole 25 25,.arr 9,.arr 25]
def zP3:List zbG:=[.cells 46 [.ptr 1 0],.whole 48 48,.whole 25 25,.arr 9,.arr 25]
def zhV:List zbG:=[.whole 48 48,oc0 3 4,oc0 5 6,.arr 9,.arr 25,.arr 9,.arr 25]
def zm8:List zbG:=[.cells 46 [.ptr 1 0],.whole 48 48,oc0 3 4,.arr 9,.arr 25]
def zb9:List zbG:=[.whole 48 48,.cells 46 [.ptr 0 0],oc0 3 4,.arr 9,.arr 25]
def zjX:List zbG:=[oc1 1,.arr 9,.cells 62 [.ptr 0 0],.cells 23 [.sl 25]]
def zE4:List zbG:=[.cells 62 [.ptr 1 0],oc1 2,.arr 9,.cells 23 [.sl 25]]
def zL2:List zbG:=[.whole 48 48,oc0 3 4,.whole 25 25,.arr 9,.arr 25]
def zEB:List zbG:=[.whole 48 48,.cells 46 [.ptr 0 0],oc2 3,.arr 25]
def zOZ:List zbG:=[.cells 46 [.ptr 1 0],.whole 48 48,oc2 3,.arr 25]
def zgg:List zbG:=[oc1 1,.arr 9,.cells 62 [.ptr 0 0],.whole 25 25]
def zz4:List zbG:=[.cells 62 [.ptr 1 0],oc1 2,.arr 9,.whole 25 25]
def zLZ:List zbG:=[oc1 1,.arr 9,.whole 25 25]
def zqi:Shape:=⟨[(0,.ptr 0 0),(1,.ptr 2 0)],zm8⟩
def zke:List zO:=[⟨true,.err,zm8⟩,⟨false,.tup [],zm8⟩]
def zqy:=callee Y [] zqi zke (u7 zhN)
def zqj:zab Y (zU Y zke):= .nil
theorem zpZ:K8 79 (zqy):=f8 zqj Tryz.func79 (.cons zeZ .nil) trivial
def zd9:zh×Str×Int×Str×Int×Str×(List Str)×(List zg)×Bool×Unit->OT0| (q,b,h,i,j,k,l,m,c,())=>(zH b (zk q)).bind λe=>if(!e.1)=true then(zhN (zk e.2.1) h i j k l m).bind λr=>(match r with| .inl d=>some (.inr (.inl (d.1,(zk d.2.1),b,d.2.2.1,d.2.2.2.1,d.2.2.2.2.1,d.2.2.2.2.2.1,d.2.2.2.2.2.2.1,d.2.2.2.2.2.2.2.1,c,())))| .inr a=>(zH b (zk a.1)).bind λf=>if f.1=true then some (.inr (.inr ((zk f.2.1),b,a.2.1,a.2.2.1,a.2.2.2.1,a.2.2.2.2.1,a.2.2.2.2.2.1,a.2.2.2.2.2.2.1,c,())))else(zae [44] (zk f.2.1)).bind λs=>(match s with| .inl n=>some (.inr (.inl (n.1,(zk n.2.1),b,a.2.1,a.2.2.1,a.2.2.2.1,a.2.2.2.2.1,a.2.2.2.2.2.1,a.2.2.2.2.2.2.1,c,())))| .inr o=>if(!c)=true then(zbb b (zk o.1)).bind λg=>if g.1=true then(zaU (zk g.2.1)).bind λp=>some (.inr (.inl (p.1,(zk p.2.1),b,a.2.1,a.2.2.1,a.2.2.2.1,a.2.2.2.2.1,a.2.2.2.2.2.1,a.2.2.2.2.2.2.1,c,())))else some (.inl ((zk g.2.1),b,a.2.1,a.2.2.1,a.2.2.2.1,a.2.2.2.2.1,a.2.2.2.2.2.1,a.2.2.2.2.2.2.1,c,()))else some (.inl ((zk o.1),b,a.2.1,a.2.2.1,a.2.2.2.1,a.2.2.2.2.1,a.2.2.2.2.2.1,a.2.2.2.2.2.2.1,c,()))))else some (.inr (.inr ((zk e.2.1),b,h,i,j,k,l,m,c,())))
def zht(x:zh)(a:Str)(b:Int)(c:Str)(d:Int)(e:Str)(l:List Str)(f:List zg)(g:Bool):OT3:=Lp.loop zd9 ((zk x),a,b,c,d,e,l,f,g,())
def zuJ:Shape:=⟨[(0,.ptr 0 0),(1,.ptr 2 0),(2,.ptr 3 0),(3,.ptr 8 0)],om2⟩
def zmH:List zO:=[⟨true,.err,om2⟩,⟨false,.tup [],om2⟩]
def zmF:=callee Y [] zuJ zmH (u9 zht)
def zvt:zab Y (zU Y zmH):=(.loop [[7,5],[8,5],[6]] ⟨[(0,.ptr 0 0),(1,.ptr 2 0),(2,.ptr 3 0),(3,.ptr 8 0)],om2⟩ (zd9) .nil .nil)
theorem ztX:K8 133 (zmF):=f8 zvt Tryz.func133 (.cons zaD (.cons zpZ (.cons zaM (.cons zcu (.cons za2 .nil))))) ⟨λz=>by kernel_rfl,trivial,trivial⟩
def zhE(x:zh)(a:Str)(e:Int)(f:Str)(g:Int)(h:Str)(l:List Str)(i:List zg)(j:Bool):OT3:=(zht ⟨x.t,false⟩ a e f g h l i j).bind λd=>(match d with| .inl b=>some (.inl (b.1,(zk b.2.1),b.2.2.1,b.2.2.2.1,b.2.2.2.2.1,b.2.2.2.2.2.1,b.2.2.2.2.2.2.1,b.2.2.2.2.2.2.2.1,b.2.2.2.2.2.2.2.2.1,b.2.2.2.2.2.2.2.2.2.1,()))| .inr c=>some (.inr (⟨c.1.t,x.no⟩,c.2.1,c.2.2.1,c.2.2.2.1,c.2.2.2.2.1,c.2.2.2.2.2.1,c.2.2.2.2.2.2.1,c.2.2.2.2.2.2.2.1,c.2.2.2.2.2.2.2.2.1,())))
def zuQ:Shape:=⟨[(0,.ptr 0 0),(1,.fn 133 [.ptr 1 0,.ptr 2 0,.ptr 3 0,.ptr 8 0])],om3⟩
def zmQ:List zO:=[⟨true,.err,om3⟩,⟨false,.tup [],om3⟩]
def zmI:=callee Y [] zuQ zmQ (u9 zhE)
def zvm:zab Y (zU Y zmQ):= .nil
theorem ztH:K8 80 (zmI):=f8 zvm Tryz.func80 ((.cons (COk.laid ztX) .nil):zcD hY Tryz.prog zar [(133,(zhl Y [⟨[(0,.ptr 0 0),(1,.ptr 2 0),(2,.ptr 3 0),(3,.ptr 8 0)],om2⟩,⟨[(0,.ptr 0 0),(1,.ptr 2 0),(2,.ptr 3 0),(3,.ptr 7 0)],om4⟩,⟨[(0,.ptr 0 0),(1,.ptr 2 0),(2,.ptr 3 0),(3,.ptr 8 0)],om0⟩] (zmF)))]) trivial
def ziz(d:Str)(e:Bool)(x:zh)(f:Int)(g:Str)(h:Int)(i:Str)(l:List Str)(j:List zg):OT5:=(zhE (zk x) d f g h i l j e).bind λc=>(match c with| .inl a=>some (.inl (a.1,(zk a.2.1),a.2.2.2.1,a.2.2.2.2.1,a.2.2.2.2.2.1,a.2.2.2.2.2.2.1,a.2.2.2.2.2.2.2.1,a.2.2.2.2.2.2.2.2.1,()))| .inr b=>some (.inr ((zk b.1),b.2.2.1,b.2.2.2.1,b.2.2.2.2.1,b.2.2.2.2.2.1,b.2.2.2.2.2.2.1,b.2.2.2.2.2.2.2.1,())))
def zyl:Shape:=⟨[(0,.ptr 0 0),(1,.str),(2,.bool),(3,.fn 79 [.ptr 1 0,.ptr 2 0])],zb9⟩
def zn0:List zO:=[⟨true,.err,zb9⟩,⟨false,.tup [],zb9⟩]
def zn8:=callee Y [] zyl zn0 (u9 ziz)
def zx7:zab Y (zU Y zn0):= .nil
theorem zwu:K8 78 (zn8):=f8 zx7 Tryz.func78 ((.cons (COk.laid ztH) .nil):zcD hY Tryz.prog zar [(80,(zhl Y [⟨[(0,.ptr 0 0),(1,.fn 133 [.ptr 1 0,.ptr 2 0,.ptr 3 0,.ptr 8 0])],om3⟩,⟨[(0,.ptr 0 0),(1,.fn 81 [.ptr 1 0,.ptr 2 0])],zb9⟩,⟨[(0,.ptr 0 0),(1,.fn 241 [.ptr 1 0,.ptr 2 0])],zb9⟩,⟨[(0,.ptr 0 0),(1,.fn 133 [.ptr 1 0,.ptr 2 0,.ptr 3 0,.ptr 7 0])],om5⟩,⟨[(0,.ptr 0 0),(1,.fn 133 [.ptr 1 0,.ptr 2 0,.ptr 3 0,.ptr 8 0])],om1⟩,⟨[(0,.ptr 0 0),(1,.fn 222 [.ptr 1 0,.ptr 2 0])],zb9⟩,⟨[(0,.ptr 0 0),(1,.fn 167 [.ptr 1 0,.ptr 2 0])],zb9⟩] (zmI)))]) trivial
def zbq(h:Str)(x:zh):Option (Bool×zh×Unit):=(zT x.t 0).bind λa=>(if(a.Kind==5)=true then some true else(zT x.t 0).bind λb=>some (b.Kind==2)).bind λc=>if c=true then(zT x.t 0).bind λd=>(zkb [32] d.Text).bind λe=>(zkb e [32]).bind λf=>(strings_Contains h f).bind λg=>some (g.1,(zk x),())else some (false,(zk x),())
def zm4:=callee Y [] zBc zp8 (u2 zbq)
theorem zf5:K8 136 (zm4):=f8 zBd Tryz.func136 (.cons zhw .nil) trivial
def zfk(n:zg):Option (Bool×Unit):=let a:=((n.Kind==3)||(n.Kind==11));some ((a||(n.Kind==12)),())
def zDd:Shape:=⟨[(0,.st 25)],[]⟩
def zCK:=callee Y [] zDd zyu (λz=>zfk z.1)
theorem zmf:K8 121 (zCK):=f8 zEo Tryz.func121 .nil trivial
def zd5(n:zg)(x:zh):zQr:=(zfk (zC n)).bind λb=>if(!b.1)=true then(zaU (zk x)).bind λa=>some (.inl (a.1,(zk a.2.1),()))else some (.inr ((zk x),()))
def zvE:Shape:=⟨[(0,.ptr 0 0),(1,.st 25)],[.whole 48 48]⟩
def zmD:=callee Y [] zvE zn4 (u2 zd5)
theorem zlS:K8 168 (zmD):=f8 zyE Tryz.func168 (.cons zmf (.cons za2 .nil)) trivial
def zcg(a:Int)(b:Int):Option (Str):=if b=16 then Gw.zcO a else if -9223372036854775808<=a/\a<=9223372036854775807/\b=10 then some (Lib.itoa a)else none
theorem zcg.ok(i_:Int)(base_:Int)(r:Str)(h0:zcg i_ base_=some r)(w0:World)(F0:Heap)(hv:F0.Sub w0)(hG:zar F0)(hg:SV.zaH F0 [.v (.int .i64 i_),.v (.int .i64 base_)])(ρ:Nat->Nat):
  Calls Tryz.prog 173 (SV.zal ρ [.v (.int .i64 i_),.v (.int .i64 base_)]).toArray w0 (zdt w0 F0 λs=>s= .v (.string ⟨⟨r⟩⟩)):=by
 unfold zcg at h0;split at h0
 ·rename_i hb;subst hb;exact Gw.zcO.ok i_ r h0 w0 F0 hv ⟨hG.maxLen,hG.zCS,hG.zIr,hG.zH5,hG.zC7⟩ ⟨trivial,trivial,trivial⟩ (λ_=>0)
 ·split at h0
  ·rename_i hc;cases h0;obtain⟨h1,h2,rfl⟩:=hc;refine(Tryz.strconv_FormatInt_10 i_ h1 h2 w0 (hG.zC7 w0 hv)).mono λe w' h=>?_
   obtain⟨h1,k,os,rfl⟩:=h;exact zdt.below (s:= .v (.string ⟨⟨_⟩⟩)) hv h1 (Go.Lib.below_grow _ _ (yJ _) _ _) trivial rfl rfl
  ·cases h0
def zcI(a:Int)(b:Int):Option (Str×Unit):=zjf (λr=>(r,())) (zcg a b)
def zob:Shape:=⟨[(0,.int .i64),(1,.int .i64)],[]⟩
def zod:=callee Y [] zob zAn (λz=>zcI z.1 z.2.1)
theorem zju:K8 173 zod:=
 COk.ext (l:=zob.l) ⟨⟨_,Tryz.func173,by kernel_rfl,rfl⟩⟩ ⟨rfl,rfl⟩ rfl λz zo h=>⟨_,_,rfl,rfl,λw F hG hv=>by
  obtain⟨r,hr,rfl⟩:=zgX h;exact zcg.ok z.1 z.2.1 r hr w F hv hG (by simp[SV.zaH,SV.good]) (λ_=>0)⟩
def zjR:Str×Int×Int×(List UInt8)×Unit->zEx| (c,e,a,b,())=>if(decide (a<e))=true then(za3 c a).bind λf=>if(decide (f>=128))=true then some (.inr ([],10,()))else let g:=(IntKind.wrap .i64 (2*a));let d:=(IntKind.wrap .i64 (g+1));(za3 c a).bind λh=>(zT b d).bind λ_=>(zT b d).bind λl=>(zMe h).bind λi=>let j:=b.set d.toNat i;let k:=(IntKind.wrap .i64 (a+1));some (.inl (c,e,k,j,()))else some (.inr (b,0,()))
def zog(s:Str):Option (Str×Int×Unit):=let a:=(IntKind.wrap .i64 (2*((s.length:Nat):Int)));(zDR a).bind λb=>Lp.loop zjR (s,((s.length:Nat):Int),0,(List.replicate b (UInt8.ofNat 0)),())
def zDm:List zO:=[⟨false,.tup [.str,.int .i64],[]⟩]
def zLP:=callee Y [] zJZ zDm (λz=>zog z.1)
def zMq:zab Y (zU Y zDm):=(.loop [[7,5,2,1,2,2],[8,5,2,1,2,2],[6,2,1,2,2],[2,2,2]] ⟨[(0,.str),(4,.own 0),(11,.int .i64),(12,.int .i64)],[.arr 5]⟩ (zjR) .nil .nil)
theorem zJM:K8 246 (zLP):=f8 zMq Tryz.func246 .nil ⟨λz=>by kernel_rfl,trivial,trivial⟩
def zjy(x:zh):Option ((Str×zh×Unit)⊕(zaf×zh×Unit)):=(zT x.t 0).bind λa=>if(a.Kind==4)=true then(zaw (zk x)).bind λc=>some (.inl (a.Text,(zk c.2.1),()))else if(a.Kind==3)=true then(zcI a.Num 10).bind λd=>(zaw (zk x)).bind λe=>(zog d.1).bind λf=>some (.inl (f.1,(zk e.2.1),()))else if(a.Kind==1)=true then(zaw (zk x)).bind λg=>(zog a.Text).bind λh=>some (.inl (h.1,(zk g.2.1),()))else if(a.Kind==2)=true then(zaw (zk x)).bind λi=>(zog a.Text).bind λj=>some (.inl (j.1,(zk i.2.1),()))else(zaU (zk x)).bind λb=>some (.inr (b.1,(zk b.2.1),()))
def zpj:List zO:=[⟨false,.str,[.whole 48 48]⟩,⟨true,.err,[.whole 48 48]⟩]
def zzT:=callee Y [] zyb zpj (λz=>zjy z.1)
def zy1:zab Y (zU Y zpj):= .nil
theorem zyz:K8 243 (zzT):=f8 zy1 Tryz.func243 (.cons zbN (.cons zju (.cons zJM (.cons za2 .nil)))) trivial
def zdS(c:zh):Option (Int×Int×zh×Unit):=(zbq [32,43,32,45,32] (zk c)).bind λa=>if a.1=true then some (7,17,(zk a.2.1),())else(zbq [32,42,32,47,32,37,32] (zk a.2.1)).bind λb=>if b.1=true then some (8,17,(zk b.2.1),())else some (0,0,(zk b.2.1),())
def zgI(x:zh):Option (Int×Int×zh×Unit):=(zbb [124,124] (zk x)).bind λb=>if b.1=true then some (3,18,(zk b.2.1),())else(zbb [38,38] (zk b.2.1)).bind λc=>if c.1=true then some (4,18,(zk c.2.1),())else(zbq [32,61,61,32,33,61,32,61,61,61,32,33,61,61,32] (zk c.2.1)).bind λd=>if d.1=true then some (5,17,(zk d.2.1),())else(zbq [32,60,32,62,32,60,61,32,62,61,32,105,110,115,116,97,110,99,101,111,102,32] (zk d.2.1)).bind λa=>if a.1=true then some (6,17,(zk a.2.1),())else if(!a.2.1.no)=true then(zbb [105,110] (zk a.2.1)).bind λe=>if e.1=true then some (6,17,(zk e.2.1),())else zdS (zk e.2.1)else zdS (zk a.2.1)
def zlK:List zO:=[⟨false,.tup [.int .i64,.int .i64],[.whole 48 48]⟩]
def zuD:=callee Y [] zyb zlK (λz=>zgI z.1)
def ztT:zab Y (zU Y zlK):=(.join [[1,4,2,4,2,4,2,4,2,5,1,2],[2,4,2,4,2,4,2,4,2,5,1,2],[6,1,2],[2,2]] ⟨[(0,.ptr 0 0)],[.whole 48 48]⟩ (λz=>zdS z.1) .nil)
theorem zsP:K8 190 (zuD):=f8 ztT Tryz.func190 (.cons zcu (.cons zf5 .nil)) ⟨λz=>by kernel_rfl,⟨⟩⟩
def zew(x:zh):Option (Bool×zh×Unit):=(zbb [125] (zk x)).bind λa=>(if a.1=true then some true else(zT a.2.1.t 0).bind λb=>some (b.Kind==0)).bind λc=>(if c=true then some true else(zT a.2.1.t 0).bind λd=>some d.Fresh).bind λe=>some (e,(zk a.2.1),())
def zxv:=callee Y [] zyb zp8 (λz=>zew z.1)
theorem zmv:K8 90 (zxv):=f8 zBd Tryz.func90 (.cons zcu .nil) trivial
def zbL(x:zh):zQr:=(zH [59] (zk x)).bind λa=>if(!a.1)=true then(zew (zk a.2.1)).bind λb=>if(!b.1)=true then(zaU (zk b.2.1)).bind λc=>some (.inl (c.1,(zk c.2.1),()))else some (.inr ((zk b.2.1),()))else some (.inr ((zk a.2.1),()))
def zzb:=callee Y [] zyb zn4 (λz=>zbL z.1)
theorem znY:K8 84 (zzb):=f8 zyE Tryz.func84 (.cons zaD (.cons zmv (.cons za2 .nil))) trivial
def zgt(d:Int)(x:zh):zbd:=(zT x.t 0).bind λe=>(if(e.Kind==1)=true then(zT x.t 0).bind λf=>some (!f.Fresh)else some false).bind λg=>if g=true then(zaw (zk x)).bind λa=>(zbL (zk a.2.1)).bind λh=>(match h with| .inl b=>some (.inl (b.1,(zk b.2.1),()))| .inr i=>some (.inr (⟨d,a.1.Text,0,[],[],[]⟩,(zk i.1),())))else(zbL (zk x)).bind λj=>(match j with| .inl c=>some (.inl (c.1,(zk c.2.1),()))| .inr k=>some (.inr (⟨d,[],0,[],[],[]⟩,(zk k.1),())))
def zx3:Shape:=⟨[(0,.ptr 0 0),(1,.int .i64)],[.whole 48 48]⟩
def znU:List zO:=[⟨true,.err,[.whole 48 48]⟩,⟨false,.st 25,[.whole 48 48]⟩]
def zyL:=callee Y [] zx3 znU (u2 zgt)
def zyn:zab Y (zU Y znU):= .nil
theorem zwA:K8 89 (zyL):=f8 zyn Tryz.func89 (.cons zbN (.cons znY .nil)) trivial
structure zf where
 zbr:Bool->Str->zh->zE6
 zbY:Int->zh->zbd
 zcA:zh->Int->Str->Int->Str->(List Str)->(List zg)->OT4
 zcU:zh->Int->Str->Int->Str->(List Str)->(List zg)->OT4
 zby:zh->zbd
 zbF:zh->zbd
 zcJ:zh->zbd
 zaA:zh->ziu
 zcj:Int->zh->zbd
 zb5:zh->ziu
 zcK:zh->ziu
 zc0:zh->ziu
 zdW:zh->ziu
 zcz:zh->Int->Str->Int->Str->(List Str)->(List zg)->OT6
 zd6:zh->Int->Str->Int->Str->(List Str)->(List zg)->OT6
 zax:zh->ziu
 zbC:Str->Bool->zh->zE6
 zdM:Str->Bool->zh->(List zg)->zET
 zc9:zh->Str->(List zg)->Bool->OT8
 zda:zh->Str->(List zg)->Bool->OT8
 zcZ:zh->(List zg)->zET
 zc2:Str->Bool->zh->Int->Str->Int->Str->(List Str)->(List zg)->OT5
 zdd:zh->Str->Int->Str->Int->Str->(List Str)->(List zg)->Bool->OT3
 zdc:zh->Str->Int->Str->Int->Str->(List Str)->(List zg)->Bool->OT3
 zdk:zh->Int->Str->Int->Str->(List Str)->(List zg)->OT5
 zb4:zg->Bool->zh->zbd
 zcv:zh->Int->Str->Int->Str->(List Str)->(List zg)->OT6
 zde:zh->Int->Str->Int->Str->(List Str)->(List zg)->OT6
 zcw:zh->Int->Str->Int->Str->(List Str)->(List zg)->OT6
 zdv:zh->Int->Str->Int->Str->(List Str)->(List zg)->OT6
 zdh:zh->zbd
 zbM:zh->zbd
 zbm:zh->zbd
 zdX:zh->zbd
 zcS:Str->zh->ziu
 zen:zh->zbd
 zdz:zh->zbd
def zni:Shape:=⟨[(0,.ptr 0 0),(1,.bool),(2,.str)],[.whole 48 48]⟩
def zjc:List zO:=[⟨false,.sl 25,[.whole 48 48]⟩,⟨true,.err,[.whole 48 48]⟩]
def zgR(b:zf):=callee Y [] zni zjc (u3 b.zbr)
def zls(b:zf):=callee Y [] zx3 znU (u2 b.zbY)
def zkJ:Shape:=⟨[(0,.ptr 0 0),(1,.fn 81 [.ptr 1 0,.ptr 2 0])],zb9⟩
def zhd:List zO:=[⟨false,.tup [],[.whole 48 48,.cells 46 [.ptr 0 0],.cells 25 [.int .i64,.str,.int .i64,.str,.own 3,.sl 25],.arr 9,.arr 25]⟩,⟨true,.err,zb9⟩]
def zkE(b:zf):=callee Y [] zkJ zhd (u7 b.zcA)
def zgO:List zO:=[⟨false,.tup [],[.cells 46 [.ptr 1 0],.whole 48 48,.cells 25 [.int .i64,.str,.int .i64,.str,.own 3,.sl 25],.arr 9,.arr 25]⟩,⟨true,.err,zm8⟩]
def zqW(b:zf):=callee Y [] zqi zgO (u7 b.zcU)
def zx6(b:zf):=callee Y [] zyb znU (λz=>b.zby z.1)
def zw1(b:zf):=callee Y [] zyb znU (λz=>b.zbF z.1)
def zyK(b:zf):=callee Y [] zyb znU (λz=>b.zcJ z.1)
def ziG:List zO:=[⟨false,.st 25,[.whole 48 48]⟩,⟨true,.err,[.whole 48 48]⟩]
def zmU(b:zf):=callee Y [] zyb ziG (λz=>b.zaA z.1)
def zmR(b:zf):=callee Y [] zx3 znU (u2 b.zcj)
def zxa(b:zf):=callee Y [] zyb ziG (λz=>b.zb5 z.1)
def zyF(b:zf):=callee Y [] zyb ziG (λz=>b.zcK z.1)
def zuA(b:zf):=callee Y [] zyb ziG (λz=>b.zc0 z.1)
def zyQ(b:zf):=callee Y [] zyb ziG (λz=>b.zdW z.1)
def zlg:Shape:=⟨[(0,.ptr 0 0),(1,.fn 241 [.ptr 1 0,.ptr 2 0])],zb9⟩
def zg0:List zO:=[⟨false,.tup [],zPg⟩,⟨true,.err,zb9⟩]
def zkX(b:zf):=callee Y [] zlg zg0 (u7 b.zcz)
def ziS:List zO:=[⟨false,.tup [],zP3⟩,⟨true,.err,zm8⟩]
def zvG(b:zf):=callee Y [] zqi ziS (u7 b.zd6)
def zyw(b:zf):=callee Y [] zyb ziG (λz=>b.zax z.1)
def znk:Shape:=⟨[(0,.ptr 0 0),(1,.str),(2,.bool)],[.whole 48 48]⟩
def zji(b:zf):=callee Y [] znk zjc (u3 b.zbC)
def zl0:Shape:=⟨[(0,.ptr 0 0),(1,.str),(2,.bool),(3,.fn 236 [.ptr 1 0,.ptr 2 0])],zEB⟩
def ziv:List zO:=[⟨false,.tup [],zEB⟩,⟨true,.err,zEB⟩]
def zlU(b:zf):=callee Y [] zl0 ziv (u4 b.zdM)
def zk0:Shape:=⟨[(0,.ptr 0 0),(1,.fn 133 [.ptr 1 0,.ptr 2 0,.ptr 3 0,.ptr 7 0])],om5⟩
def zg2:List zO:=[⟨false,.tup [],om5⟩,⟨true,.err,om5⟩]
def zkK(b:zf):=callee Y [] zk0 zg2 (u4 b.zc9)
def zk6:Shape:=⟨[(0,.ptr 0 0),(1,.ptr 2 0),(2,.ptr 3 0),(3,.ptr 7 0)],om4⟩
def zhk:List zO:=[⟨false,.tup [],om4⟩,⟨true,.err,om4⟩]
def zkG(b:zf):=callee Y [] zk6 zhk (u4 b.zda)
def zlZ:Shape:=⟨[(0,.ptr 0 0),(1,.ptr 2 0)],zOZ⟩
def ziw:List zO:=[⟨false,.tup [],zOZ⟩,⟨true,.err,zOZ⟩]
def ztU(b:zf):=callee Y [] zlZ ziw (u2 b.zcZ)
def zlJ:Shape:=⟨[(0,.ptr 0 0),(1,.str),(2,.bool),(3,.fn 242 [.ptr 1 0,.ptr 2 0])],zb9⟩
def zlR(b:zf):=callee Y [] zlJ zn0 (u9 b.zc2)
def zky:Shape:=⟨[(0,.ptr 0 0),(1,.fn 133 [.ptr 1 0,.ptr 2 0,.ptr 3 0,.ptr 8 0])],om1⟩
def zg8:List zO:=[⟨true,.err,om1⟩,⟨false,.tup [],om1⟩]
def zle(b:zf):=callee Y [] zky zg8 (u9 b.zdd)
def zkO:Shape:=⟨[(0,.ptr 0 0),(1,.ptr 2 0),(2,.ptr 3 0),(3,.ptr 8 0)],om0⟩
def zg6:List zO:=[⟨true,.err,om0⟩,⟨false,.tup [],om0⟩]
def zkF(b:zf):=callee Y [] zkO zg6 (u9 b.zdc)
def zvf(b:zf):=callee Y [] zqi zke (u7 b.zdk)
def zlM:Shape:=⟨[(0,.ptr 0 0),(1,.st 25),(2,.bool)],[.whole 48 48]⟩
def zuo(b:zf):=callee Y [] zlM znU (u3 b.zb4)
def zla:Shape:=⟨[(0,.ptr 0 0),(1,.fn 222 [.ptr 1 0,.ptr 2 0])],zb9⟩
def zkx(b:zf):=callee Y [] zla zg0 (u7 b.zcv)
def zrz(b:zf):=callee Y [] zqi ziS (u7 b.zde)
def zkR:Shape:=⟨[(0,.ptr 0 0),(1,.fn 167 [.ptr 1 0,.ptr 2 0])],zb9⟩
def zkA(b:zf):=callee Y [] zkR zg0 (u7 b.zcw)
def zsY(b:zf):=callee Y [] zqi ziS (u7 b.zdv)
def zvQ(b:zf):=callee Y [] zyb znU (λz=>b.zdh z.1)
def zyC(b:zf):=callee Y [] zyb znU (λz=>b.zbM z.1)
def zyS(b:zf):=callee Y [] zyb znU (λz=>b.zbm z.1)
def zx2(b:zf):=callee Y [] zyb znU (λz=>b.zdX z.1)
def zxn(b:zf):=callee Y [] zBc ziG (u2 b.zcS)
def zzJ(b:zf):=callee Y [] zyb znU (λz=>b.zen z.1)
def zxA(b:zf):=callee Y [] zyb znU (λz=>b.zdz z.1)
structure zG (g_:zf):Prop where
 zbr:COk hY Tryz.prog zar 20 (zgR g_)
 zbY:COk hY Tryz.prog zar 37 (zls g_)
 zcA:COk hY Tryz.prog zar 80 (zkE g_)
 zcU:COk hY Tryz.prog zar 81 (zqW g_)
 zby:COk hY Tryz.prog zar 38 (zx6 g_)
 zbF:COk hY Tryz.prog zar 82 (zw1 g_)
 zcJ:COk hY Tryz.prog zar 83 (zyK g_)
 zaA:COk hY Tryz.prog zar 134 (zmU g_)
 zcj:COk hY Tryz.prog zar 166 (zmR g_)
 zb5:COk hY Tryz.prog zar 189 (zxa g_)
 zcK:COk hY Tryz.prog zar 211 (zyF g_)
 zc0:COk hY Tryz.prog zar 224 (zuA g_)
 zdW:COk hY Tryz.prog zar 237 (zyQ g_)
 zcz:COk hY Tryz.prog zar 80 (zkX g_)
 zd6:COk hY Tryz.prog zar 241 (zvG g_)
 zax:COk hY Tryz.prog zar 91 (zyw g_)
 zbC:COk hY Tryz.prog zar 223 (zji g_)
 zdM:COk hY Tryz.prog zar 78 (zlU g_)
 zc9:COk hY Tryz.prog zar 80 (zkK g_)
 zda:COk hY Tryz.prog zar 133 (zkG g_)
 zcZ:COk hY Tryz.prog zar 236 (ztU g_)
 zc2:COk hY Tryz.prog zar 78 (zlR g_)
 zdd:COk hY Tryz.prog zar 80 (zle g_)
 zdc:COk hY Tryz.prog zar 133 (zkF g_)
 zdk:COk hY Tryz.prog zar 242 (zvf g_)
 zb4:COk hY Tryz.prog zar 210 (zuo g_)
 zcv:COk hY Tryz.prog zar 80 (zkx g_)
 zde:COk hY Tryz.prog zar 222 (zrz g_)
 zcw:COk hY Tryz.prog zar 80 (zkA g_)
 zdv:COk hY Tryz.prog zar 167 (zsY g_)
 zdh:COk hY Tryz.prog zar 85 (zvQ g_)
 zbM:COk hY Tryz.prog zar 86 (zyC g_)
 zbm:COk hY Tryz.prog zar 87 (zyS g_)
 zdX:COk hY Tryz.prog zar 88 (zx2 g_)
 zcS:COk hY Tryz.prog zar 135 (zxn g_)
 zen:COk hY Tryz.prog zar 92 (zzJ g_)
 zdz:COk hY Tryz.prog zar 93 (zxA g_)
def zeA(j:zf)(d:Bool)(e:Str)(f:zh)(b:List zg)(k:Int)(l:Str)(m:Int)(n:Str)(o:List Str)(p:List zg):OT7:=(j.zby (zk f)).bind λg=>(match g with| .inl c=>some (.inr (.inr (c.1,(zk c.2.1),())))| .inr a=>(room (b.length+([(zC a.1)]:List zg).length)).bind λ_=>let h:=b++[(zC a.1)];some (.inl (d,e,(zk a.2.1),h,())))
def zeq(h:zf):Bool×Str×zh×(List zg)×Unit->OT7| (c,d,j,a,())=>(zbb d (zk j)).bind λb=>(if(!b.1)=true then(zT b.2.1.t 0).bind λk=>some (k.Kind !=0)else some false).bind λl=>if l=true then if c=true then(zH [102,117,110,99,116,105,111,110] (zk b.2.1)).bind λe=>if e.1=true then(h.zbY 39 (zk e.2.1)).bind λm=>(match m with| .inl i=>some (.inr (.inr (i.1,(zk i.2.1),())))| .inr f=>(room (a.length+([(zC f.1)]:List zg).length)).bind λ_=>let n:=a++[(zC f.1)];some (.inl (c,d,(zk f.2.1),n,())))else zeA h c d (zk e.2.1) a 0 [] 0 [] [] []else zeA h c d (zk b.2.1) a 0 [] 0 [] [] []else some (.inr (.inl (a,(zk b.2.1),())))
def zgT(d:zf)(b:Bool)(c:Str)(x:zh):zE6:=Lp.loop (zeq d) (b,c,(zk x),[],())
def zxw(b:zf):=callee Y [] zni zjc (u3 (zgT b))
def zxh(b:zf):zab Y (zU Y zjc):=(.loop [[7,5,1,2],[8,5,1,2],[6,1,2],[2,2]] ⟨[(0,.ptr 0 0),(1,.bool),(2,.str),(6,.own 1)],[.whole 48 48,.arr 25]⟩ (zeq b) (.join [[4,2,1,2,5,2,7,5,1,2],[2,2,5,2,7,5,1,2],[6,2,7,5,1,2],[8,5,1,2],[6,1,2],[2,2]] ⟨[(0,.ptr 0 0),(1,.bool),(2,.str),(6,.own 1),(7,.ptr 2 0)],[.whole 48 48,.arr 25,oc0 3 4,.arr 9,.arr 25]⟩ (u10 (zeA b)) .nil) .nil)
theorem zsI(b:zf)(d:zG b):K8 20 (zxw b):=f8 (zxh b) Tryz.func20 (.cons zcu (.cons zaD (.cons d.zbY (.cons d.zby .nil)))) ⟨λz=>by kernel_rfl,⟨λz=>by kernel_rfl,⟨⟩⟩,trivial⟩
def zhj(o:zf)(d:zh)(p:Int)(q:Str)(r:Int)(s:Str)(e:Int)(f:Str)(g:Int)(h:Str)(t:List Str)(u:List zg)(i:List Str)(j:List zg):zbd:=(o.zcA (zk d) e f g h i j).bind λk=>(match k with| .inl a=>(zae [125] (zk a.1)).bind λl=>(match l with| .inl b=>some (.inl (b.1,(zk b.2.1),()))| .inr m=>some (.inr (⟨a.2.1,a.2.2.1,a.2.2.2.1,a.2.2.2.2.1,a.2.2.2.2.2.2.1,a.2.2.2.2.2.1⟩,(zk m.1),())))| .inr c=>some (.inl (c.1,(zk c.2.1),())))
def zhc(r:zf)(b:zh)(c:Int)(d:Str)(e:Int)(f:Str)(g:Int)(h:Str)(i:Int)(j:Str)(k:List Str)(l:List zg)(m:List Str)(n:List zg):zbd:=(zae [123] (zk b)).bind λo=>(match o with| .inl a=>some (.inl (a.1,(zk a.2.1),()))| .inr p=>zhj r (zk p.1) c d e f g h i j k l m n)
def zhe(r:zf)(c:zh)(d:Int)(e:Str)(f:Int)(g:Str)(h:Int)(i:Str)(j:Int)(k:Str)(l:List Str)(m:List zg)(n:List Str)(o:List zg):zbd:=(ziz [41] false (zk c) h i j k n o).bind λp=>(match p with| .inl b=>some (.inl (b.1,(zk b.2.1),()))| .inr a=>zhc r (zk a.1) d e f g a.2.1 a.2.2.1 a.2.2.2.1 a.2.2.2.2.1 l m a.2.2.2.2.2.1 a.2.2.2.2.2.2.1)
def zdC(r:zf)(b:zh)(c:Int)(d:Str)(e:Int)(f:Str)(g:Int)(h:Str)(i:Int)(j:Str)(k:List Str)(l:List zg)(m:List Str)(n:List zg):zbd:=(zae [40] (zk b)).bind λo=>(match o with| .inl a=>some (.inl (a.1,(zk a.2.1),()))| .inr p=>zhe r (zk p.1) c d e f g h i j k l m n)
def zfq(e:zf)(a:Int)(x:zh):zbd:=(if(a==39)=true then some true else(zT x.t 0).bind λf=>some (f.Kind==1)).bind λg=>if g=true then(zdf (zk x)).bind λh=>(match h with| .inl b=>some (.inl (b.1,(zk b.2.1),()))| .inr c=>zdC e (zk c.2.1) 0 [] 0 [] a c.1 0 [] [] [] [] [])else zdC e (zk x) 0 [] 0 [] a [] 0 [] [] [] [] []
def zsV(b:zf):=callee Y [] zx3 znU (u2 (zfq b))
def zs9(b:zf):zab Y (zU Y znU):=(.join [[1,2,2,2],[2,2,2,2]] ⟨[(2,.ptr 1 0),(4,.ptr 2 0),(5,.ptr 3 0)],om7⟩ (u13 (zdC b)) (.join [[1,2,2,2,2],[2,2,2,2,2]] ⟨[(2,.ptr 1 0),(4,.ptr 2 0),(5,.ptr 3 0)],om7⟩ (u13 (zhe b)) (.join [[1,2,2,2,2,2],[2,2,2,2,2,2]] ⟨[(2,.ptr 1 0),(4,.ptr 2 0),(5,.ptr 3 0)],om7⟩ (u13 (zhc b)) (.join [[1,2,2,2,2,2,2],[2,2,2,2,2,2,2]] ⟨[(2,.ptr 1 0),(4,.ptr 2 0),(5,.ptr 3 0)],om7⟩ (u13 (zhj b)) .nil))))
theorem zpU(b:zf)(d:zG b):K8 37 (zsV b):=f8 (zs9 b) Tryz.func37 ((.cons zeZ (.cons zaM (.cons (COk.laid zwu) (.cons (COk.laid d.zcA) .nil)))):zcD hY Tryz.prog zar [(76,(zn7)),(77,(zfB)),(78,(zhl Y [⟨[(0,.ptr 0 0),(1,.str),(2,.bool),(3,.fn 79 [.ptr 1 0,.ptr 2 0])],zb9⟩,⟨[(0,.ptr 0 0),(1,.str),(2,.bool),(3,.fn 236 [.ptr 1 0,.ptr 2 0])],zEB⟩,⟨[(0,.ptr 0 0),(1,.str),(2,.bool),(3,.fn 242 [.ptr 1 0,.ptr 2 0])],zb9⟩] (zn8))),(80,(zhl Y [⟨[(0,.ptr 0 0),(1,.fn 133 [.ptr 1 0,.ptr 2 0,.ptr 3 0,.ptr 8 0])],om3⟩,⟨[(0,.ptr 0 0),(1,.fn 81 [.ptr 1 0,.ptr 2 0])],zb9⟩,⟨[(0,.ptr 0 0),(1,.fn 241 [.ptr 1 0,.ptr 2 0])],zb9⟩,⟨[(0,.ptr 0 0),(1,.fn 133 [.ptr 1 0,.ptr 2 0,.ptr 3 0,.ptr 7 0])],om5⟩,⟨[(0,.ptr 0 0),(1,.fn 133 [.ptr 1 0,.ptr 2 0,.ptr 3 0,.ptr 8 0])],om1⟩,⟨[(0,.ptr 0 0),(1,.fn 222 [.ptr 1 0,.ptr 2 0])],zb9⟩,⟨[(0,.ptr 0 0),(1,.fn 167 [.ptr 1 0,.ptr 2 0])],zb9⟩] (zkE b)))]) ⟨λz=>by kernel_rfl,⟨λz=>by kernel_rfl,⟨λz=>by kernel_rfl,⟨λz=>by kernel_rfl,⟨⟩⟩⟩⟩⟩
def ze1(j:zf)(x:zh)(e:Int)(f:Str)(g:Int)(h:Str)(l:List Str)(i:List zg):OT4:=(j.zcU ⟨x.t,false⟩ e f g h l i).bind λc=>(match c with| .inl a=>some (.inl (⟨a.1.t,x.no⟩,a.2.1,a.2.2.1,a.2.2.2.1,a.2.2.2.2.1,a.2.2.2.2.2.1,a.2.2.2.2.2.2.1,a.2.2.2.2.2.2.2.1,()))| .inr b=>some (.inr (b.1,(zk b.2.1),b.2.2.1,b.2.2.2.1,b.2.2.2.2.1,b.2.2.2.2.2.1,b.2.2.2.2.2.2.1,b.2.2.2.2.2.2.2.1,())))
def zri(b:zf):=callee Y [] zkJ zhd (u7 (ze1 b))
def zry:zab Y (zU Y zhd):= .nil
theorem zpc(b:zf)(d:zG b):K8 80 (zri b):=f8 zry Tryz.func80 (.cons d.zcU .nil) trivial
def zeC(j:zf)(x:zh)(c:Int)(d:Str)(e:Int)(f:Str)(l:List Str)(g:List zg):OT4:=(j.zbr true [125] (zk x)).bind λh=>(match h with| .inl a=>some (.inl ((zk a.2.1),c,d,e,f,a.1,l,g,()))| .inr b=>some (.inr (b.1,(zk b.2.1),c,d,e,f,l,g,())))
def zqG(b:zf):=callee Y [] zqi zgO (u7 (zeC b))
def zqq:zab Y (zU Y zgO):= .nil
theorem zoA(b:zf)(d:zG b):K8 81 (zqG b):=f8 zqq Tryz.func81 (.cons d.zbr .nil) trivial
def zhm(b:zf)(x:zh):zbd:=(zbb [123] (zk x)).bind λe=>if e.1=true then(b.zbF (zk e.2.1)).bind λar=>(match ar with| .inl s=>some (.inl (s.1,(zk s.2.1),()))| .inr u=>some (.inr ((zC u.1),(zk u.2.1),())))else(zH [59] (zk e.2.1)).bind λf=>if f.1=true then some (.inr (⟨40,[],0,[],[],[]⟩,(zk f.2.1),()))else(zH [118,97,114] (zk f.2.1)).bind λg=>if g.1=true then(b.zcJ (zk g.2.1)).bind λau=>(match au with| .inl v=>some (.inl (v.1,(zk v.2.1),()))| .inr y=>(zbL (zk y.2.1)).bind λav=>(match av with| .inl z=>some (.inl (z.1,(zk z.2.1),()))| .inr aw=>some (.inr ((zC y.1),(zk aw.1),()))))else(zH [105,102] (zk g.2.1)).bind λh=>if h.1=true then(b.zdh (zk h.2.1)).bind λax=>(match ax with| .inl A=>some (.inl (A.1,(zk A.2.1),()))| .inr B=>some (.inr ((zC B.1),(zk B.2.1),())))else(zH [119,104,105,108,101] (zk h.2.1)).bind λi=>if i.1=true then(b.zbM (zk i.2.1)).bind λay=>(match ay with| .inl C=>some (.inl (C.1,(zk C.2.1),()))| .inr D=>(b.zbm (zk D.2.1)).bind λaz=>(match az with| .inl E=>some (.inl (E.1,(zk E.2.1),()))| .inr H=>some (.inr (⟨27,[],0,[],[],[(zC D.1),(zC H.1)]⟩,(zk H.2.1),()))))else(zH [100,111] (zk i.2.1)).bind λj=>if j.1=true then(b.zbm (zk j.2.1)).bind λa0=>(match a0 with| .inl I=>some (.inl (I.1,(zk I.2.1),()))| .inr J=>(zae [119,104,105,108,101] (zk J.2.1)).bind λa1=>(match a1 with| .inl K=>some (.inl (K.1,(zk K.2.1),()))| .inr a2=>(b.zbM (zk a2.1)).bind λa3=>(match a3 with| .inl L=>some (.inl (L.1,(zk L.2.1),()))| .inr M=>(zbL (zk M.2.1)).bind λa4=>(match a4 with| .inl N=>some (.inl (N.1,(zk N.2.1),()))| .inr a5=>some (.inr (⟨28,[],0,[],[],[(zC J.1),(zC M.1)]⟩,(zk a5.1),()))))))else(zH [102,111,114] (zk j.2.1)).bind λk=>if k.1=true then(b.zdX (zk k.2.1)).bind λa6=>(match a6 with| .inl O=>some (.inl (O.1,(zk O.2.1),()))| .inr P=>some (.inr ((zC P.1),(zk P.2.1),())))else(zH [98,114,101,97,107] (zk k.2.1)).bind λl=>if l.1=true then(zgt 31 (zk l.2.1)).bind λa7=>(match a7 with| .inl Q=>some (.inl (Q.1,(zk Q.2.1),()))| .inr R=>some (.inr ((zC R.1),(zk R.2.1),())))else(zH [99,111,110,116,105,110,117,101] (zk l.2.1)).bind λm=>if m.1=true then(zgt 32 (zk m.2.1)).bind λa8=>(match a8 with| .inl S=>some (.inl (S.1,(zk S.2.1),()))| .inr U=>some (.inr ((zC U.1),(zk U.2.1),())))else(zH [114,101,116,117,114,110] (zk m.2.1)).bind λn=>if n.1=true then(zbb [59] (zk n.2.1)).bind λo=>if(!o.1)=true then(zew (zk o.2.1)).bind λp=>if(!p.1)=true then(b.zax (zk p.2.1)).bind λa9=>(match a9 with| .inl V=>(zbL (zk V.2.1)).bind λba=>(match ba with| .inl W=>some (.inl (W.1,(zk W.2.1),()))| .inr bb=>some (.inr (⟨33,[],0,[],[],[(zC V.1)]⟩,(zk bb.1),())))| .inr X=>some (.inl (X.1,(zk X.2.1),())))else(zbL (zk p.2.1)).bind λbc=>(match bc with| .inl Z=>some (.inl (Z.1,(zk Z.2.1),()))| .inr bd=>some (.inr (⟨33,[],0,[],[],[]⟩,(zk bd.1),())))else(zbL (zk o.2.1)).bind λbe=>(match be with| .inl aa=>some (.inl (aa.1,(zk aa.2.1),()))| .inr bf=>some (.inr (⟨33,[],0,[],[],[]⟩,(zk bf.1),())))else(zH [116,104,114,111,119] (zk n.2.1)).bind λd=>if d.1=true then(zT d.2.1.t 0).bind λbg=>if bg.Fresh=true then(zaU (zk d.2.1)).bind λab=>some (.inl (ab.1,(zk ab.2.1),()))else(b.zax (zk d.2.1)).bind λbh=>(match bh with| .inl ac=>(zbL (zk ac.2.1)).bind λbi=>(match bi with| .inl ad=>some (.inl (ad.1,(zk ad.2.1),()))| .inr bj=>some (.inr (⟨34,[],0,[],[],[(zC ac.1)]⟩,(zk bj.1),())))| .inr ae=>some (.inl (ae.1,(zk ae.2.1),())))else(zH [116,114,121] (zk d.2.1)).bind λq=>if q.1=true then(b.zen (zk q.2.1)).bind λbk=>(match bk with| .inl af=>some (.inl (af.1,(zk af.2.1),()))| .inr ag=>some (.inr ((zC ag.1),(zk ag.2.1),())))else(zH [115,119,105,116,99,104] (zk q.2.1)).bind λr=>if r.1=true then(b.zdz (zk r.2.1)).bind λbl=>(match bl with| .inl ah=>some (.inl (ah.1,(zk ah.2.1),()))| .inr ai=>some (.inr ((zC ai.1),(zk ai.2.1),())))else(zbb [102,117,110,99,116,105,111,110] (zk r.2.1)).bind λc=>if c.1=true then(zaU (zk c.2.1)).bind λaj=>some (.inl (aj.1,(zk aj.2.1),()))else(zT c.2.1.t 0).bind λbm=>(if(bm.Kind==1)=true then(zT c.2.1.t 1).bind λbn=>some (bn.Kind==5)else some false).bind λbo=>(if bo=true then(zT c.2.1.t 1).bind λbp=>some (bp.Text==[58])else some false).bind λbq=>if bq=true then(zdf (zk c.2.1)).bind λbr=>(match br with| .inl ak=>some (.inl (ak.1,(zk ak.2.1),()))| .inr al=>(zaw (zk al.2.1)).bind λbs=>(b.zby (zk bs.2.1)).bind λbt=>(match bt with| .inl am=>some (.inl (am.1,(zk am.2.1),()))| .inr an=>some (.inr (⟨38,al.1,0,[],[],[(zC an.1)]⟩,(zk an.2.1),()))))else(b.zax (zk c.2.1)).bind λbu=>(match bu with| .inl ao=>(zbL (zk ao.2.1)).bind λbv=>(match bv with| .inl ap=>some (.inl (ap.1,(zk ap.2.1),()))| .inr bw=>some (.inr (⟨24,[],0,[],[],[(zC ao.1)]⟩,(zk bw.1),())))| .inr aq=>some (.inl (aq.1,(zk aq.2.1),())))
def zyH(b:zf):=callee Y [] zyb znU (λz=>zhm b z.1)
theorem zt5(d:zf)(b:zG d):K8 38 (zyH d):=f8 zyn Tryz.func38 (.cons zcu (.cons b.zbF (.cons zaD (.cons b.zcJ (.cons znY (.cons b.zdh (.cons b.zbM (.cons b.zbm (.cons zaM (.cons b.zdX (.cons zwA (.cons zmv (.cons b.zax (.cons za2 (.cons b.zen (.cons b.zdz (.cons zeZ (.cons zbN (.cons b.zby .nil))))))))))))))))))) trivial
def zgF(k:zf)(x:zh):zbd:=(zae [123] (zk x)).bind λe=>(match e with| .inl a=>some (.inl (a.1,(zk a.2.1),()))| .inr f=>(k.zbr false [125] (zk f.1)).bind λg=>(match g with| .inl b=>(zae [125] (zk b.2.1)).bind λh=>(match h with| .inl c=>some (.inl (c.1,(zk c.2.1),()))| .inr i=>some (.inr (⟨25,[],0,[],[],b.1⟩,(zk i.1),())))| .inr d=>some (.inl (d.1,(zk d.2.1),()))))
def zxc(b:zf):=callee Y [] zyb znU (λz=>zgF b z.1)
theorem zs3(b:zf)(d:zG b):K8 82 (zxc b):=f8 zyn Tryz.func82 (.cons zaM (.cons d.zbr .nil)) trivial
def zjw(p:zf)(h:zh)(i:Int)(j:Str)(k:Int)(l:Str)(b:Int)(c:Str)(d:Int)(e:Str)(m:List Str)(n:List zg)(f:List Str)(g:List zg):OT2:=(zH [44] (zk h)).bind λa=>if(!a.1)=true then some (.inr (.inr (⟨b,c,d,e,f,g⟩,(zk a.2.1),())))else some (.inl ((zk a.2.1),i,j,k,l,b,c,d,e,m,n,f,g,()))
def ze3(v:zf)(h:zh)(i:Int)(j:Str)(k:Int)(l:Str)(m:Int)(n:Str)(o:Int)(p:Str)(a:Int)(b:Str)(c:Int)(d:Str)(q:List Str)(r:List zg)(s:List Str)(e:List zg)(f:List Str)(g:List zg):OT2:=(room (e.length+([⟨a,b,c,d,f,g⟩]:List zg).length)).bind λ_=>let t:=e++[⟨a,b,c,d,f,g⟩];zjw v (zk h) i j k l m n o p q r s t
def zeV(d:zf):zh×Int×Str×Int×Str×Int×Str×Int×Str×(List Str)×(List zg)×(List Str)×(List zg)×Unit->OT2| (t,e,f,g,h,i,j,k,l,m,n,o,p,())=>(zdf (zk t)).bind λu=>(match u with| .inl q=>some (.inr (.inl (q.1,(zk q.2.1),())))| .inr a=>(zH [61] (zk a.2.1)).bind λb=>if b.1=true then(d.zaA (zk b.2.1)).bind λv=>(match v with| .inl r=>ze3 d (zk r.2.1) e f g h i j k l 23 a.1 0 [] m n o p [] [(zC r.1)]| .inr s=>some (.inr (.inl (s.1,(zk s.2.1),()))))else ze3 d (zk b.2.1) e f g h i j k l 23 a.1 0 [] m n o p [] [])
def zho(b:zf)(x:zh):zbd:=Lp.loop (zeV b) ((zk x),0,[],0,[],22,[],0,[],[],[],[],[],())
def zyp(b:zf):=callee Y [] zyb znU (λz=>zho b z.1)
def zyx(b:zf):zab Y (zU Y znU):=(.loop [[7,5,2,2],[8,5,2,2],[6,2,2]] ⟨[(0,.ptr 0 0),(2,.ptr 1 0),(3,.ptr 2 0)],zhV⟩ (zeV b) (.join [[1,2,2,5,7,5,2,2],[2,2,2,5,7,5,2,2],[6,7,5,2,2],[8,5,2,2],[6,2,2]] ⟨[(0,.ptr 0 0),(2,.ptr 1 0),(3,.ptr 2 0),(4,.ptr 3 0)],om6⟩ (u19 (ze3 b)) (.join [[1,2,2,2,5,7,5,2,2],[2,2,2,2,5,7,5,2,2],[6,7,5,2,2],[8,5,2,2],[6,2,2]] ⟨[(0,.ptr 0 0),(2,.ptr 1 0),(3,.ptr 2 0)],zhV⟩ (u13 (zjw b)) .nil)) .nil)
theorem zuw(b:zf)(d:zG b):K8 83 (zyp b):=f8 (zyx b) Tryz.func83 (.cons zeZ (.cons zaD (.cons d.zaA .nil))) ⟨λz=>by kernel_rfl,⟨λz=>by kernel_rfl,⟨λz=>by kernel_rfl,⟨⟩⟩⟩,trivial⟩
def zf9(c:zf)(x:zh):ziu:=(c.zcj 3 (zk x)).bind λp=>(match p with| .inl f=>some (.inr (f.1,(zk f.2.1),()))| .inr a=>(zH [63] (zk a.2.1)).bind λd=>if d.1=true then(c.zcw (zk d.2.1) 0 [] 0 [] [] []).bind λq=>(match q with| .inl g=>(zae [58] (zk g.1)).bind λr=>(match r with| .inl h=>some (.inr (h.1,(zk h.2.1),()))| .inr s=>(c.zaA (zk s.1)).bind λt=>(match t with| .inl i=>some (.inl (⟨19,[],0,[],[],[(zC a.1),(zC g.2.1),(zC i.1)]⟩,(zk i.2.1),()))| .inr j=>some (.inr (j.1,(zk j.2.1),()))))| .inr k=>some (.inr (k.1,(zk k.2.1),())))else(zbq [32,61,32,43,61,32,45,61,32,42,61,32,47,61,32,37,61,32] (zk d.2.1)).bind λe=>if(!e.1)=true then some (.inl ((zC a.1),(zk e.2.1),()))else(zd5 (zC a.1) (zk e.2.1)).bind λu=>(match u with| .inl l=>some (.inr (l.1,(zk l.2.1),()))| .inr v=>(zaw (zk v.1)).bind λm=>(c.zaA (zk m.2.1)).bind λy=>(match y with| .inl n=>some (.inl (⟨20,m.1.Text,0,[],[],[(zC a.1),(zC n.1)]⟩,(zk n.2.1),()))| .inr o=>some (.inr (o.1,(zk o.2.1),())))))
def zuP(b:zf):=callee Y [] zyb ziG (λz=>zf9 b z.1)
def zuO:zab Y (zU Y ziG):= .nil
theorem zrR(b:zf)(d:zG b):K8 134 (zuP b):=f8 zuO Tryz.func134 ((.cons d.zcj (.cons zaD (.cons (COk.laid d.zcw) (.cons zaM (.cons d.zaA (.cons zf5 (.cons zlS (.cons zbN .nil)))))))):zcD hY Tryz.prog zar [(166,(zmR b)),(36,(zid)),(80,(zhl Y [⟨[(0,.ptr 0 0),(1,.fn 133 [.ptr 1 0,.ptr 2 0,.ptr 3 0,.ptr 8 0])],om3⟩,⟨[(0,.ptr 0 0),(1,.fn 81 [.ptr 1 0,.ptr 2 0])],zb9⟩,⟨[(0,.ptr 0 0),(1,.fn 241 [.ptr 1 0,.ptr 2 0])],zb9⟩,⟨[(0,.ptr 0 0),(1,.fn 133 [.ptr 1 0,.ptr 2 0,.ptr 3 0,.ptr 7 0])],om5⟩,⟨[(0,.ptr 0 0),(1,.fn 133 [.ptr 1 0,.ptr 2 0,.ptr 3 0,.ptr 8 0])],om1⟩,⟨[(0,.ptr 0 0),(1,.fn 222 [.ptr 1 0,.ptr 2 0])],zb9⟩,⟨[(0,.ptr 0 0),(1,.fn 167 [.ptr 1 0,.ptr 2 0])],zb9⟩] (zkA b))),(77,(zfB)),(134,(zmU b)),(136,(zm4)),(168,(zmD)),(75,(zjW))]) trivial
def zed(r:zf):Int×zh×Int×Str×Int×Str×zg×(List Str)×(List zg)×Unit->Option ((Int×zh×Int×Str×Int×Str×zg×(List Str)×(List zg)×Unit)⊕((zaf×zh×Unit)⊕(zg×zh×Unit)))| (b,g,h,i,j,k,c,l,m,())=>(zgI (zk g)).bind λa=>let n:=((decide (a.1<b))||(a.1==0));if n=true then some (.inr (.inr ((zC c),(zk a.2.2.1),())))else(zaw (zk a.2.2.1)).bind λd=>let o:=(IntKind.wrap .i64 (a.1+1));fd ((r.zcj o (zk d.2.1)).bind λp=>(match p with| .inl e=>some (.inr (.inl (e.1,(zk e.2.1),())))| .inr f=>some (.inl (b,(zk f.2.1),h,i,j,k,⟨a.2.1,d.1.Text,0,[],[],[(zC c),(zC f.1)]⟩,l,m,()))))
def zf7(d:zf)(f:Int)(x:zh):zbd:=(d.zb5 (zk x)).bind λe=>(match e with| .inl a=>Lp.loop (zed d) (f,(zk a.2.1),0,[],0,[],(zC a.1),[],[],())| .inr b=>some (.inl (b.1,(zk b.2.1),())))
def zvJ(b:zf):=callee Y [] zx3 znU (u2 (zf7 b))
def zvr(b:zf):zab Y (zU Y znU):=(.loop [[7,5,2,2],[8,5,2,2],[6,2,2]] ⟨[(0,.ptr 0 0),(1,.int .i64),(4,.ptr 1 0),(5,.ptr 2 0)],zL2⟩ (zed b) .nil .nil)
theorem zsi(b:zf)(d:zG b):K8 166 (zvJ b):=f8 (zvr b) Tryz.func166 (.cons d.zb5 (.cons zsP (.cons zbN (.cons d.zcj .nil)))) ⟨λz=>by kernel_rfl,trivial,trivial⟩
def zgE(d:zf)(x:zh):ziu:=(zbq [32,45,32,43,32,33,32,116,121,112,101,111,102,32,100,101,108,101,116,101,32,118,111,105,100,32] (zk x)).bind λe=>if e.1=true then(zaw (zk e.2.1)).bind λh=>(d.zb5 (zk h.2.1)).bind λs=>(match s with| .inl i=>some (.inl (⟨15,h.1.Text,0,[],[],[(zC i.1)]⟩,(zk i.2.1),()))| .inr j=>some (.inr (j.1,(zk j.2.1),())))else(zbq [32,43,43,32,45,45,32] (zk e.2.1)).bind λf=>if f.1=true then(zaw (zk f.2.1)).bind λk=>(d.zb5 (zk k.2.1)).bind λu=>(match u with| .inl g=>(zd5 (zC g.1) (zk g.2.1)).bind λv=>(match v with| .inl l=>some (.inr (l.1,(zk l.2.1),()))| .inr y=>some (.inl (⟨16,k.1.Text,1,[],[],[(zC g.1)]⟩,(zk y.1),())))| .inr m=>some (.inr (m.1,(zk m.2.1),())))else(d.zcK (zk f.2.1)).bind λz=>(match z with| .inl n=>(d.zb4 (zC n.1) true (zk n.2.1)).bind λA=>(match A with| .inl o=>some (.inr (o.1,(zk o.2.1),()))| .inr a=>(zbq [32,43,43,32,45,45,32] (zk a.2.1)).bind λb=>(if(!b.1)=true then some true else(zT b.2.1.t 0).bind λB=>some B.Fresh).bind λC=>if C=true then some (.inl ((zC a.1),(zk b.2.1),()))else(zd5 (zC a.1) (zk b.2.1)).bind λD=>(match D with| .inl p=>some (.inr (p.1,(zk p.2.1),()))| .inr E=>fd ((zaw (zk E.1)).bind λq=>some (.inl (⟨16,q.1.Text,0,[],[],[(zC a.1)]⟩,(zk q.2.1),())))))| .inr r=>some (.inr (r.1,(zk r.2.1),())))
def zxu(b:zf):=callee Y [] zyb ziG (λz=>zgE b z.1)
theorem zte(c:zf)(d:zG c):K8 189 (zxu c):=f8 zuO Tryz.func189 (.cons zf5 (.cons zbN (.cons d.zb5 (.cons zlS (.cons d.zcK (.cons d.zb4 .nil)))))) trivial
def zhs(c:zf)(x:zh):ziu:=(zH [110,101,119] (zk x)).bind λd=>if(!d.1)=true then(c.zc0 (zk d.2.1)).bind λm=>(match m with| .inl g=>some (.inl ((zC g.1),(zk g.2.1),()))| .inr h=>some (.inr (h.1,(zk h.2.1),())))else(c.zcK (zk d.2.1)).bind λn=>(match n with| .inl i=>(c.zb4 (zC i.1) false (zk i.2.1)).bind λo=>(match o with| .inl j=>some (.inr (j.1,(zk j.2.1),()))| .inr a=>(zH [40] (zk a.2.1)).bind λe=>if e.1=true then fd ((c.zbC [41] false (zk e.2.1)).bind λp=>(match p with| .inl f=>(room (([(zC a.1)]:List zg).length+f.1.length)).bind λ_=>let q:=[(zC a.1)]++f.1;some (.inl (⟨14,[],0,[],[],q⟩,(zk f.2.1),()))| .inr k=>some (.inr (k.1,(zk k.2.1),()))))else some (.inl (⟨14,[],0,[],[],[(zC a.1)]⟩,(zk e.2.1),())))| .inr l=>some (.inr (l.1,(zk l.2.1),())))
def zye(b:zf):=callee Y [] zyb ziG (λz=>zhs b z.1)
theorem zus(d:zf)(b:zG d):K8 211 (zye d):=f8 zuO Tryz.func211 (.cons zaD (.cons b.zc0 (.cons b.zcK (.cons b.zb4 (.cons b.zbC .nil))))) trivial
def zfT(i:zf)(x:zh):ziu:=(zT x.t 0).bind λa=>if(a.Kind==1)=true then(zaw (zk x)).bind λd=>some (.inl (⟨3,a.Text,0,[],[],[]⟩,(zk d.2.1),()))else if(a.Kind==3)=true then(zaw (zk x)).bind λe=>some (.inl (⟨1,[],a.Num,[],[],[]⟩,(zk e.2.1),()))else if(a.Kind==4)=true then(zaw (zk x)).bind λf=>some (.inl (⟨2,[],0,a.Text,[],[]⟩,(zk f.2.1),()))else(i.zdW (zk x)).bind λg=>(match g with| .inl b=>some (.inl ((zC b.1),(zk b.2.1),()))| .inr c=>some (.inr (c.1,(zk c.2.1),())))
def ztL(b:zf):=callee Y [] zyb ziG (λz=>zfT b z.1)
theorem zqz(b:zf)(d:zG b):K8 224 (ztL b):=f8 zuO Tryz.func224 (.cons zbN (.cons d.zdW .nil)) trivial
def zhr(c:zf)(x:zh):ziu:=(zH [116,104,105,115] (zk x)).bind λd=>if d.1=true then some (.inl (⟨4,[],0,[],[],[]⟩,(zk d.2.1),()))else(zH [110,117,108,108] (zk d.2.1)).bind λe=>if e.1=true then some (.inl (⟨5,[],0,[],[],[]⟩,(zk e.2.1),()))else(zH [102,97,108,115,101] (zk e.2.1)).bind λf=>if f.1=true then some (.inl (⟨6,[],0,[],[],[]⟩,(zk f.2.1),()))else(zH [116,114,117,101] (zk f.2.1)).bind λg=>if g.1=true then some (.inl (⟨6,[],1,[],[],[]⟩,(zk g.2.1),()))else(zH [102,117,110,99,116,105,111,110] (zk g.2.1)).bind λh=>if h.1=true then(c.zbY 10 (zk h.2.1)).bind λu=>(match u with| .inl l=>some (.inr (l.1,(zk l.2.1),()))| .inr m=>some (.inl ((zC m.1),(zk m.2.1),())))else(zH [40] (zk h.2.1)).bind λi=>if i.1=true then(c.zcz (zk i.2.1) 0 [] 0 [] [] []).bind λv=>(match v with| .inl n=>(zae [41] (zk n.1)).bind λy=>(match y with| .inl o=>some (.inr (o.1,(zk o.2.1),()))| .inr z=>some (.inl ((zC n.2.1),(zk z.1),())))| .inr p=>some (.inr (p.1,(zk p.2.1),())))else(zH [91] (zk i.2.1)).bind λj=>if j.1=true then(c.zbC [93] true (zk j.2.1)).bind λA=>(match A with| .inl q=>some (.inl (⟨7,[],0,[],[],q.1⟩,(zk q.2.1),()))| .inr r=>some (.inr (r.1,(zk r.2.1),())))else(zH [123] (zk j.2.1)).bind λk=>if k.1=true then(c.zc2 [125] true (zk k.2.1) 8 [] 0 [] [] []).bind λB=>(match B with| .inl s=>some (.inr (s.1,(zk s.2.1),()))| .inr a=>some (.inl (⟨a.2.1,a.2.2.1,a.2.2.2.1,a.2.2.2.2.1,a.2.2.2.2.2.1,a.2.2.2.2.2.2.1⟩,(zk a.1),())))else(zaU (zk k.2.1)).bind λt=>some (.inr (t.1,(zk t.2.1),()))
def zx8(b:zf):=callee Y [] zyb ziG (λz=>zhr b z.1)
theorem zuy(b:zf)(d:zG b):K8 237 (zx8 b):=f8 zuO Tryz.func237 ((.cons zaD (.cons d.zbY (.cons (COk.laid d.zcz) (.cons zaM (.cons d.zbC (.cons (COk.laid d.zc2) (.cons za2 .nil))))))):zcD hY Tryz.prog zar [(36,(zid)),(37,(zls b)),(80,(zhl Y [⟨[(0,.ptr 0 0),(1,.fn 133 [.ptr 1 0,.ptr 2 0,.ptr 3 0,.ptr 8 0])],om3⟩,⟨[(0,.ptr 0 0),(1,.fn 81 [.ptr 1 0,.ptr 2 0])],zb9⟩,⟨[(0,.ptr 0 0),(1,.fn 241 [.ptr 1 0,.ptr 2 0])],zb9⟩,⟨[(0,.ptr 0 0),(1,.fn 133 [.ptr 1 0,.ptr 2 0,.ptr 3 0,.ptr 7 0])],om5⟩,⟨[(0,.ptr 0 0),(1,.fn 133 [.ptr 1 0,.ptr 2 0,.ptr 3 0,.ptr 8 0])],om1⟩,⟨[(0,.ptr 0 0),(1,.fn 222 [.ptr 1 0,.ptr 2 0])],zb9⟩,⟨[(0,.ptr 0 0),(1,.fn 167 [.ptr 1 0,.ptr 2 0])],zb9⟩] (zkX b))),(77,(zfB)),(223,(zji b)),(78,(zhl Y [⟨[(0,.ptr 0 0),(1,.str),(2,.bool),(3,.fn 79 [.ptr 1 0,.ptr 2 0])],zb9⟩,⟨[(0,.ptr 0 0),(1,.str),(2,.bool),(3,.fn 236 [.ptr 1 0,.ptr 2 0])],zEB⟩,⟨[(0,.ptr 0 0),(1,.str),(2,.bool),(3,.fn 242 [.ptr 1 0,.ptr 2 0])],zb9⟩] (zlR b))),(21,(zfD))]) trivial
def zeT(j:zf)(x:zh)(e:Int)(f:Str)(g:Int)(h:Str)(l:List Str)(i:List zg):OT6:=(j.zd6 ⟨x.t,false⟩ e f g h l i).bind λc=>(match c with| .inl b=>some (.inl (⟨b.1.t,x.no⟩,(zC b.2.1),b.2.2.1,b.2.2.2.1,()))| .inr a=>some (.inr (a.1,(zk a.2.1),a.2.2.1,a.2.2.2.1,a.2.2.2.2.1,a.2.2.2.2.2.1,a.2.2.2.2.2.2.1,a.2.2.2.2.2.2.2.1,())))
def zre(b:zf):=callee Y [] zlg zg0 (u7 (zeT b))
def zsz:zab Y (zU Y zg0):= .nil
theorem zpg(b:zf)(d:zG b):K8 80 (zre b):=f8 zsz Tryz.func80 (.cons d.zd6 .nil) trivial
def zgc(j:zf)(x:zh)(f:Int)(g:Str)(h:Int)(i:Str)(l:List Str)(c:List zg):OT6:=(j.zax (zk x)).bind λd=>(match d with| .inl a=>some (.inl ((zk a.2.1),(zC a.1),l,c,()))| .inr b=>some (.inr (b.1,(zk b.2.1),f,g,h,i,l,c,())))
def zvK(b:zf):=callee Y [] zqi ziS (u7 (zgc b))
def zvU:zab Y (zU Y ziS):= .nil
theorem zrA(b:zf)(d:zG b):K8 241 (zvK b):=f8 zvU Tryz.func241 (.cons d.zax .nil) trivial
def ze4(n:zf):zh×Int×Str×Int×Str×zg×(List Str)×(List zg)×Unit->Option ((zh×Int×Str×Int×Str×zg×(List Str)×(List zg)×Unit)⊕((zg×zh×Unit)⊕(zaf×zh×Unit)))| (e,f,g,h,i,b,j,k,())=>(zH [44] (zk e)).bind λa=>if a.1=true then fd ((n.zaA (zk a.2.1)).bind λl=>(match l with| .inl c=>some (.inl ((zk c.2.1),f,g,h,i,⟨21,[],0,[],[],[(zC b),(zC c.1)]⟩,j,k,()))| .inr d=>some (.inr (.inr (d.1,(zk d.2.1),())))))else some (.inr (.inl ((zC b),(zk a.2.1),())))
def zhB(d:zf)(x:zh):ziu:=(d.zaA (zk x)).bind λe=>(match e with| .inl a=>Lp.loop (ze4 d) ((zk a.2.1),0,[],0,[],(zC a.1),[],[],())| .inr b=>some (.inr (b.1,(zk b.2.1),())))
def zyU(b:zf):=callee Y [] zyb ziG (λz=>zhB b z.1)
def zyd(b:zf):zab Y (zU Y ziG):=(.loop [[7,5,1,2,2],[8,5,1,2,2],[6,1,2,2],[2,2,2]] ⟨[(0,.ptr 0 0),(2,.ptr 1 0),(3,.ptr 2 0)],zL2⟩ (ze4 b) .nil .nil)
theorem zue(b:zf)(d:zG b):K8 91 (zyU b):=f8 (zyd b) Tryz.func91 (.cons d.zaA (.cons zaD .nil)) ⟨λz=>by kernel_rfl,trivial,trivial⟩
def zgD(g:zf)(e:Str)(f:Bool)(x:zh):zE6:=(g.zdM e f (zk x) []).bind λc=>(match c with| .inl a=>some (.inl (a.2.1,(zk a.1),()))| .inr b=>some (.inr (b.1,(zk b.2.1),())))
def zw6(b:zf):=callee Y [] znk zjc (u3 (zgD b))
def zxF:zab Y (zU Y zjc):= .nil
theorem zth(b:zf)(d:zG b):K8 223 (zw6 b):=f8 zxF Tryz.func223 ((.cons (COk.laid d.zdM) .nil):zcD hY Tryz.prog zar [(78,(zhl Y [⟨[(0,.ptr 0 0),(1,.str),(2,.bool),(3,.fn 79 [.ptr 1 0,.ptr 2 0])],zb9⟩,⟨[(0,.ptr 0 0),(1,.str),(2,.bool),(3,.fn 236 [.ptr 1 0,.ptr 2 0])],zEB⟩,⟨[(0,.ptr 0 0),(1,.str),(2,.bool),(3,.fn 242 [.ptr 1 0,.ptr 2 0])],zb9⟩] (zlU b)))]) trivial
def zeb(g:zf)(e:Str)(f:Bool)(x:zh)(l:List zg):zET:=(g.zc9 (zk x) e l f).bind λc=>(match c with| .inl b=>some (.inl ((zk b.1),b.2.2.1,()))| .inr a=>some (.inr (a.1,(zk a.2.1),a.2.2.2.1,())))
def zup(b:zf):=callee Y [] zl0 ziv (u4 (zeb b))
def zt7:zab Y (zU Y ziv):= .nil
theorem zqo(b:zf)(d:zG b):K8 78 (zup b):=f8 zt7 Tryz.func78 ((.cons (COk.laid d.zc9) .nil):zcD hY Tryz.prog zar [(80,(zhl Y [⟨[(0,.ptr 0 0),(1,.fn 133 [.ptr 1 0,.ptr 2 0,.ptr 3 0,.ptr 8 0])],om3⟩,⟨[(0,.ptr 0 0),(1,.fn 81 [.ptr 1 0,.ptr 2 0])],zb9⟩,⟨[(0,.ptr 0 0),(1,.fn 241 [.ptr 1 0,.ptr 2 0])],zb9⟩,⟨[(0,.ptr 0 0),(1,.fn 133 [.ptr 1 0,.ptr 2 0,.ptr 3 0,.ptr 7 0])],om5⟩,⟨[(0,.ptr 0 0),(1,.fn 133 [.ptr 1 0,.ptr 2 0,.ptr 3 0,.ptr 8 0])],om1⟩,⟨[(0,.ptr 0 0),(1,.fn 222 [.ptr 1 0,.ptr 2 0])],zb9⟩,⟨[(0,.ptr 0 0),(1,.fn 167 [.ptr 1 0,.ptr 2 0])],zb9⟩] (zkK b)))]) trivial
def zeQ(g:zf)(x:zh)(a:Str)(l:List zg)(f:Bool):OT8:=(g.zda ⟨x.t,false⟩ a l f).bind λd=>(match d with| .inl c=>some (.inl (⟨c.1.t,x.no⟩,c.2.1,c.2.2.1,c.2.2.2.1,()))| .inr b=>some (.inr (b.1,(zk b.2.1),b.2.2.1,b.2.2.2.1,b.2.2.2.2.1,())))
def zrQ(b:zf):=callee Y [] zk0 zg2 (u4 (zeQ b))
def zsd:zab Y (zU Y zg2):= .nil
theorem zo0(b:zf)(d:zG b):K8 80 (zrQ b):=f8 zsd Tryz.func80 ((.cons (COk.laid d.zda) .nil):zcD hY Tryz.prog zar [(133,(zhl Y [⟨[(0,.ptr 0 0),(1,.ptr 2 0),(2,.ptr 3 0),(3,.ptr 8 0)],om2⟩,⟨[(0,.ptr 0 0),(1,.ptr 2 0),(2,.ptr 3 0),(3,.ptr 7 0)],om4⟩,⟨[(0,.ptr 0 0),(1,.ptr 2 0),(2,.ptr 3 0),(3,.ptr 8 0)],om0⟩] (zkG b)))]) trivial
def zdo(p:zf):zh×Str×(List zg)×Bool×Unit->Option ((zh×Str×(List zg)×Bool×Unit)⊕((zh×Str×(List zg)×Bool×Unit)⊕(zaf×zh×Str×(List zg)×Bool×Unit)))| (l,a,h,b,())=>(zH a (zk l)).bind λd=>if(!d.1)=true then(p.zcZ (zk d.2.1) h).bind λm=>(match m with| .inl c=>(zH a (zk c.1)).bind λe=>if e.1=true then some (.inr (.inl ((zk e.2.1),a,c.2.1,b,())))else(zae [44] (zk e.2.1)).bind λn=>(match n with| .inl i=>some (.inr (.inr (i.1,(zk i.2.1),a,c.2.1,b,())))| .inr j=>if(!b)=true then(zbb a (zk j.1)).bind λf=>if f.1=true then(zaU (zk f.2.1)).bind λk=>some (.inr (.inr (k.1,(zk k.2.1),a,c.2.1,b,())))else some (.inl ((zk f.2.1),a,c.2.1,b,()))else some (.inl ((zk j.1),a,c.2.1,b,())))| .inr g=>some (.inr (.inr (g.1,(zk g.2.1),a,g.2.2.1,b,()))))else some (.inr (.inl ((zk d.2.1),a,h,b,())))
def zeR(d:zf)(x:zh)(a:Str)(l:List zg)(c:Bool):OT8:=Lp.loop (zdo d) ((zk x),a,l,c,())
def zrE(b:zf):=callee Y [] zk6 zhk (u4 (zeR b))
def zr6(b:zf):zab Y (zU Y zhk):=(.loop [[7,5],[8,5],[6]] ⟨[(0,.ptr 0 0),(1,.ptr 2 0),(2,.ptr 3 0),(3,.ptr 7 0)],om4⟩ (zdo b) .nil .nil)
theorem zo8(b:zf)(d:zG b):K8 133 (zrE b):=f8 (zr6 b) Tryz.func133 (.cons zaD (.cons d.zcZ (.cons zaM (.cons zcu (.cons za2 .nil))))) ⟨λz=>by kernel_rfl,trivial,trivial⟩
def zfQ(k:zf)(x:zh)(l:List zg):zET:=(k.zaA (zk x)).bind λe=>(match e with| .inl a=>fk (fd ((room (l.length+([⟨0,[],0,[],[],[]⟩]:List zg).length)).bind λ_=>let b:=l++[⟨0,[],0,[],[],[]⟩];fk ((zT b ((l.length:Nat):Int)).bind λ_=>fd ((zT b ((l.length:Nat):Int)).bind λm=>let f:=b.set ((l.length:Nat):Int).toNat (zC a.1);some (.inl ((zk a.2.1),f,())))) ((zT b ((l.length:Nat):Int)).bind λ_=>(zT b ((l.length:Nat):Int)).bind λn=>let g:=b.set ((l.length:Nat):Int).toNat (zC a.1);some (.inl ((zk a.2.1),g,()))))) ((room (l.length+([⟨0,[],0,[],[],[]⟩]:List zg).length)).bind λ_=>let c:=l++[⟨0,[],0,[],[],[]⟩];fk ((zT c ((l.length:Nat):Int)).bind λ_=>fd ((zT c ((l.length:Nat):Int)).bind λo=>let h:=c.set ((l.length:Nat):Int).toNat (zC a.1);some (.inl ((zk a.2.1),h,())))) ((zT c ((l.length:Nat):Int)).bind λ_=>(zT c ((l.length:Nat):Int)).bind λp=>let i:=c.set ((l.length:Nat):Int).toNat (zC a.1);some (.inl ((zk a.2.1),i,()))))| .inr d=>some (.inr (d.1,(zk d.2.1),l,())))
def ztZ(b:zf):=callee Y [] zlZ ziw (u2 (zfQ b))
def ztJ:zab Y (zU Y ziw):= .nil
theorem zqA(b:zf)(d:zG b):K8 236 (ztZ b):=f8 ztJ Tryz.func236 (.cons d.zaA .nil) trivial
def zfN(m:zf)(e:Str)(f:Bool)(x:zh)(g:Int)(h:Str)(i:Int)(j:Str)(l:List Str)(k:List zg):OT5:=(m.zdd (zk x) e g h i j l k f).bind λc=>(match c with| .inl a=>some (.inl (a.1,(zk a.2.1),a.2.2.2.1,a.2.2.2.2.1,a.2.2.2.2.2.1,a.2.2.2.2.2.2.1,a.2.2.2.2.2.2.2.1,a.2.2.2.2.2.2.2.2.1,()))| .inr b=>some (.inr ((zk b.1),b.2.2.1,b.2.2.2.1,b.2.2.2.2.1,b.2.2.2.2.2.1,b.2.2.2.2.2.2.1,b.2.2.2.2.2.2.2.1,())))
def zuu(b:zf):=callee Y [] zlJ zn0 (u9 (zfN b))
theorem zqr(b:zf)(d:zG b):K8 78 (zuu b):=f8 zx7 Tryz.func78 ((.cons (COk.laid d.zdd) .nil):zcD hY Tryz.prog zar [(80,(zhl Y [⟨[(0,.ptr 0 0),(1,.fn 133 [.ptr 1 0,.ptr 2 0,.ptr 3 0,.ptr 8 0])],om3⟩,⟨[(0,.ptr 0 0),(1,.fn 81 [.ptr 1 0,.ptr 2 0])],zb9⟩,⟨[(0,.ptr 0 0),(1,.fn 241 [.ptr 1 0,.ptr 2 0])],zb9⟩,⟨[(0,.ptr 0 0),(1,.fn 133 [.ptr 1 0,.ptr 2 0,.ptr 3 0,.ptr 7 0])],om5⟩,⟨[(0,.ptr 0 0),(1,.fn 133 [.ptr 1 0,.ptr 2 0,.ptr 3 0,.ptr 8 0])],om1⟩,⟨[(0,.ptr 0 0),(1,.fn 222 [.ptr 1 0,.ptr 2 0])],zb9⟩,⟨[(0,.ptr 0 0),(1,.fn 167 [.ptr 1 0,.ptr 2 0])],zb9⟩] (zle b)))]) trivial
def zeS(m:zf)(x:zh)(a:Str)(f:Int)(g:Str)(h:Int)(i:Str)(l:List Str)(j:List zg)(k:Bool):OT3:=(m.zdc ⟨x.t,false⟩ a f g h i l j k).bind λd=>(match d with| .inl b=>some (.inl (b.1,(zk b.2.1),b.2.2.1,b.2.2.2.1,b.2.2.2.2.1,b.2.2.2.2.2.1,b.2.2.2.2.2.2.1,b.2.2.2.2.2.2.2.1,b.2.2.2.2.2.2.2.2.1,b.2.2.2.2.2.2.2.2.2.1,()))| .inr c=>some (.inr (⟨c.1.t,x.no⟩,c.2.1,c.2.2.1,c.2.2.2.1,c.2.2.2.2.1,c.2.2.2.2.2.1,c.2.2.2.2.2.2.1,c.2.2.2.2.2.2.2.1,c.2.2.2.2.2.2.2.2.1,())))
def zrP(b:zf):=callee Y [] zky zg8 (u9 (zeS b))
def zr7:zab Y (zU Y zg8):= .nil
theorem zpy(b:zf)(d:zG b):K8 80 (zrP b):=f8 zr7 Tryz.func80 ((.cons (COk.laid d.zdc) .nil):zcD hY Tryz.prog zar [(133,(zhl Y [⟨[(0,.ptr 0 0),(1,.ptr 2 0),(2,.ptr 3 0),(3,.ptr 8 0)],om2⟩,⟨[(0,.ptr 0 0),(1,.ptr 2 0),(2,.ptr 3 0),(3,.ptr 7 0)],om4⟩,⟨[(0,.ptr 0 0),(1,.ptr 2 0),(2,.ptr 3 0),(3,.ptr 8 0)],om0⟩] (zkF b)))]) trivial
def zdq(u:zf):zh×Str×Int×Str×Int×Str×(List Str)×(List zg)×Bool×Unit->OT0| (q,b,h,i,j,k,l,m,c,())=>(zH b (zk q)).bind λe=>if(!e.1)=true then(u.zdk (zk e.2.1) h i j k l m).bind λr=>(match r with| .inl d=>some (.inr (.inl (d.1,(zk d.2.1),b,d.2.2.1,d.2.2.2.1,d.2.2.2.2.1,d.2.2.2.2.2.1,d.2.2.2.2.2.2.1,d.2.2.2.2.2.2.2.1,c,())))| .inr a=>(zH b (zk a.1)).bind λf=>if f.1=true then some (.inr (.inr ((zk f.2.1),b,a.2.1,a.2.2.1,a.2.2.2.1,a.2.2.2.2.1,a.2.2.2.2.2.1,a.2.2.2.2.2.2.1,c,())))else(zae [44] (zk f.2.1)).bind λs=>(match s with| .inl n=>some (.inr (.inl (n.1,(zk n.2.1),b,a.2.1,a.2.2.1,a.2.2.2.1,a.2.2.2.2.1,a.2.2.2.2.2.1,a.2.2.2.2.2.2.1,c,())))| .inr o=>if(!c)=true then(zbb b (zk o.1)).bind λg=>if g.1=true then(zaU (zk g.2.1)).bind λp=>some (.inr (.inl (p.1,(zk p.2.1),b,a.2.1,a.2.2.1,a.2.2.2.1,a.2.2.2.2.1,a.2.2.2.2.2.1,a.2.2.2.2.2.2.1,c,())))else some (.inl ((zk g.2.1),b,a.2.1,a.2.2.1,a.2.2.2.1,a.2.2.2.2.1,a.2.2.2.2.2.1,a.2.2.2.2.2.2.1,c,()))else some (.inl ((zk o.1),b,a.2.1,a.2.2.1,a.2.2.2.1,a.2.2.2.2.1,a.2.2.2.2.2.1,a.2.2.2.2.2.2.1,c,()))))else some (.inr (.inr ((zk e.2.1),b,h,i,j,k,l,m,c,())))
def zeW(i:zf)(x:zh)(a:Str)(c:Int)(d:Str)(e:Int)(f:Str)(l:List Str)(g:List zg)(h:Bool):OT3:=Lp.loop (zdq i) ((zk x),a,c,d,e,f,l,g,h,())
def zrV(b:zf):=callee Y [] zkO zg6 (u9 (zeW b))
def zrO(b:zf):zab Y (zU Y zg6):=(.loop [[7,5],[8,5],[6]] ⟨[(0,.ptr 0 0),(1,.ptr 2 0),(2,.ptr 3 0),(3,.ptr 8 0)],om0⟩ (zdq b) .nil .nil)
theorem zo9(b:zf)(d:zG b):K8 133 (zrV b):=f8 (zrO b) Tryz.func133 (.cons zaD (.cons d.zdk (.cons zaM (.cons zcu (.cons za2 .nil))))) ⟨λz=>by kernel_rfl,trivial,trivial⟩
def zf4(y:zf)(x:zh)(c:Int)(d:Str)(e:Int)(f:Str)(l:List Str)(a:List zg):OT5:=(zjy (zk x)).bind λn=>(match n with| .inl i=>(zae [58] (zk i.2.1)).bind λo=>(match o with| .inl j=>some (.inl (j.1,(zk j.2.1),c,d,e,f,l,a,()))| .inr p=>(y.zaA (zk p.1)).bind λq=>(match q with| .inl b=>fk (fd ((room (a.length+([⟨0,[],0,[],[],[]⟩]:List zg).length)).bind λ_=>let g:=a++[⟨0,[],0,[],[],[]⟩];fk ((zT g ((a.length:Nat):Int)).bind λ_=>fd ((zT g ((a.length:Nat):Int)).bind λz=>let r:=g.set ((a.length:Nat):Int).toNat ⟨9,[],0,i.1,[],[(zC b.1)]⟩;some (.inr ((zk b.2.1),c,d,e,f,l,r,())))) ((zT g ((a.length:Nat):Int)).bind λ_=>(zT g ((a.length:Nat):Int)).bind λA=>let s:=g.set ((a.length:Nat):Int).toNat ⟨9,[],0,i.1,[],[(zC b.1)]⟩;some (.inr ((zk b.2.1),c,d,e,f,l,s,()))))) ((room (a.length+([⟨0,[],0,[],[],[]⟩]:List zg).length)).bind λ_=>let h:=a++[⟨0,[],0,[],[],[]⟩];fk ((zT h ((a.length:Nat):Int)).bind λ_=>fd ((zT h ((a.length:Nat):Int)).bind λB=>let t:=h.set ((a.length:Nat):Int).toNat ⟨9,[],0,i.1,[],[(zC b.1)]⟩;some (.inr ((zk b.2.1),c,d,e,f,l,t,())))) ((zT h ((a.length:Nat):Int)).bind λ_=>(zT h ((a.length:Nat):Int)).bind λC=>let u:=h.set ((a.length:Nat):Int).toNat ⟨9,[],0,i.1,[],[(zC b.1)]⟩;some (.inr ((zk b.2.1),c,d,e,f,l,u,()))))| .inr k=>some (.inl (k.1,(zk k.2.1),c,d,e,f,l,a,()))))| .inr m=>some (.inl (m.1,(zk m.2.1),c,d,e,f,l,a,())))
def zu4(b:zf):=callee Y [] zqi zke (u7 (zf4 b))
theorem zrB(b:zf)(d:zG b):K8 242 (zu4 b):=f8 zqj Tryz.func242 (.cons zyz (.cons zaM (.cons d.zaA .nil))) trivial
def zdU(o:zf):Bool×zh×zg×Int×Str×Int×Str×(List Str)×(List zg)×Unit->Option ((Bool×zh×zg×Int×Str×Int×Str×(List Str)×(List zg)×Unit)⊕((zaf×zh×Unit)⊕(zg×zh×Unit)))| (c,z,a,d,e,f,g,h,i,())=>(zH [46] (zk z)).bind λb=>if b.1=true then(zT b.2.1.t 0).bind λA=>(if(A.Kind !=1)=true then(zT b.2.1.t 0).bind λB=>some (B.Kind !=2)else some false).bind λC=>if C=true then(zaU (zk b.2.1)).bind λp=>some (.inr (.inl (p.1,(zk p.2.1),())))else fk ((zaw (zk b.2.1)).bind λq=>some (.inl (c,(zk q.2.1),⟨11,q.1.Text,0,[],[],[(zC a)]⟩,d,e,f,g,h,i,()))) (fd ((zaw (zk b.2.1)).bind λr=>some (.inl (c,(zk r.2.1),⟨11,r.1.Text,0,[],[],[(zC a)]⟩,d,e,f,g,h,i,()))))else(zH [91] (zk b.2.1)).bind λj=>if j.1=true then(o.zcv (zk j.2.1) 0 [] 0 [] [] []).bind λD=>(match D with| .inl s=>(zae [93] (zk s.1)).bind λE=>(match E with| .inl u=>some (.inr (.inl (u.1,(zk u.2.1),())))| .inr H=>some (.inl (c,(zk H.1),⟨12,[],0,[],[],[(zC a),(zC s.2.1)]⟩,d,e,f,g,h,i,())))| .inr v=>some (.inr (.inl (v.1,(zk v.2.1),()))))else if c=true then(zH [40] (zk j.2.1)).bind λk=>if k.1=true then fk (fd ((o.zbC [41] false (zk k.2.1)).bind λI=>(match I with| .inl l=>(room (([(zC a)]:List zg).length+l.1.length)).bind λ_=>let J:=[(zC a)]++l.1;some (.inl (c,(zk l.2.1),⟨13,[],0,[],[],J⟩,d,e,f,g,h,i,()))| .inr x=>some (.inr (.inl (x.1,(zk x.2.1),())))))) ((o.zbC [41] false (zk k.2.1)).bind λK=>(match K with| .inl m=>(room (([(zC a)]:List zg).length+m.1.length)).bind λ_=>let L:=[(zC a)]++m.1;some (.inl (c,(zk m.2.1),⟨13,[],0,[],[],L⟩,d,e,f,g,h,i,()))| .inr y=>some (.inr (.inl (y.1,(zk y.2.1),())))))else some (.inr (.inr ((zC a),(zk k.2.1),())))else some (.inr (.inr ((zC a),(zk j.2.1),())))
def zfU(c:zf)(n:zg)(b:Bool)(x:zh):zbd:=Lp.loop (zdU c) (b,(zk x),(zC n),0,[],0,[],[],[],())
def zul(b:zf):=callee Y [] zlM znU (u3 (zfU b))
def ztY(b:zf):zab Y (zU Y znU):=(.loop [[7,5,2],[8,5,2],[6,2]] ⟨[(2,.bool),(3,.ptr 1 0),(4,.ptr 2 0),(6,.ptr 3 0)],[.whole 48 48,.cells 46 [.ptr 0 0],.whole 25 25,oc0 4 5,.arr 9,.arr 25]⟩ (zdU b) .nil .nil)
theorem zqU(b:zf)(d:zG b):K8 210 (zul b):=f8 (ztY b) Tryz.func210 ((.cons zaD (.cons za2 (.cons zbN (.cons (COk.laid d.zcv) (.cons zaM (.cons d.zbC .nil)))))):zcD hY Tryz.prog zar [(36,(zid)),(21,(zfD)),(75,(zjW)),(80,(zhl Y [⟨[(0,.ptr 0 0),(1,.fn 133 [.ptr 1 0,.ptr 2 0,.ptr 3 0,.ptr 8 0])],om3⟩,⟨[(0,.ptr 0 0),(1,.fn 81 [.ptr 1 0,.ptr 2 0])],zb9⟩,⟨[(0,.ptr 0 0),(1,.fn 241 [.ptr 1 0,.ptr 2 0])],zb9⟩,⟨[(0,.ptr 0 0),(1,.fn 133 [.ptr 1 0,.ptr 2 0,.ptr 3 0,.ptr 7 0])],om5⟩,⟨[(0,.ptr 0 0),(1,.fn 133 [.ptr 1 0,.ptr 2 0,.ptr 3 0,.ptr 8 0])],om1⟩,⟨[(0,.ptr 0 0),(1,.fn 222 [.ptr 1 0,.ptr 2 0])],zb9⟩,⟨[(0,.ptr 0 0),(1,.fn 167 [.ptr 1 0,.ptr 2 0])],zb9⟩] (zkx b))),(77,(zfB)),(223,(zji b))]) ⟨λz=>by kernel_rfl,trivial,trivial⟩
def ze5(j:zf)(x:zh)(e:Int)(f:Str)(g:Int)(h:Str)(l:List Str)(i:List zg):OT6:=(j.zde ⟨x.t,false⟩ e f g h l i).bind λc=>(match c with| .inl b=>some (.inl (⟨b.1.t,x.no⟩,(zC b.2.1),b.2.2.1,b.2.2.2.1,()))| .inr a=>some (.inr (a.1,(zk a.2.1),a.2.2.1,a.2.2.2.1,a.2.2.2.2.1,a.2.2.2.2.2.1,a.2.2.2.2.2.2.1,a.2.2.2.2.2.2.2.1,())))
def zsy(b:zf):=callee Y [] zla zg0 (u7 (ze5 b))
theorem zpl(b:zf)(d:zG b):K8 80 (zsy b):=f8 zsz Tryz.func80 (.cons d.zde .nil) trivial
def ze8(j:zf)(x:zh)(f:Int)(g:Str)(h:Int)(i:Str)(l:List Str)(c:List zg):OT6:=(j.zax (zk x)).bind λd=>(match d with| .inl a=>some (.inl ((zk a.2.1),(zC a.1),l,c,()))| .inr b=>some (.inr (b.1,(zk b.2.1),f,g,h,i,l,c,())))
def zrj(b:zf):=callee Y [] zqi ziS (u7 (ze8 b))
theorem zo3(b:zf)(d:zG b):K8 222 (zrj b):=f8 zvU Tryz.func222 (.cons d.zax .nil) trivial
def zfb(j:zf)(x:zh)(e:Int)(f:Str)(g:Int)(h:Str)(l:List Str)(i:List zg):OT6:=(j.zdv ⟨x.t,false⟩ e f g h l i).bind λc=>(match c with| .inl b=>some (.inl (⟨b.1.t,x.no⟩,(zC b.2.1),b.2.2.1,b.2.2.2.1,()))| .inr a=>some (.inr (a.1,(zk a.2.1),a.2.2.1,a.2.2.2.1,a.2.2.2.2.1,a.2.2.2.2.2.1,a.2.2.2.2.2.2.1,a.2.2.2.2.2.2.2.1,())))
def zsB(b:zf):=callee Y [] zkR zg0 (u7 (zfb b))
theorem zpp(b:zf)(d:zG b):K8 80 (zsB b):=f8 zsz Tryz.func80 (.cons d.zdv .nil) trivial
def zfo(j:zf)(x:zh)(f:Int)(g:Str)(h:Int)(i:Str)(l:List Str)(c:List zg):OT6:=(j.zaA (zk x)).bind λd=>(match d with| .inl a=>some (.inl ((zk a.2.1),(zC a.1),l,c,()))| .inr b=>some (.inr (b.1,(zk b.2.1),f,g,h,i,l,c,())))
def zsU(b:zf):=callee Y [] zqi ziS (u7 (zfo b))
theorem zp6(b:zf)(d:zG b):K8 167 (zsU b):=f8 zvU Tryz.func167 (.cons d.zaA .nil) trivial
def ziq(q:zf)(c:zh)(j:Int)(k:Str)(l:Int)(m:Str)(d:Int)(e:Str)(f:Int)(g:Str)(a:zg)(n:List Str)(o:List zg)(h:List Str)(b:List zg):zbd:=(room (b.length+([(zC a)]:List zg).length)).bind λ_=>let i:=b++[(zC a)];some (.inr (⟨d,e,f,g,h,i⟩,(zk c),()))
def zis(d:zf)(e:zh)(f:Int)(g:Str)(h:Int)(i:Str)(j:Int)(k:Str)(l:Int)(m:Str)(n:List Str)(o:List zg)(p:List Str)(q:List zg):zbd:=(d.zbm (zk e)).bind λr=>(match r with| .inl a=>some (.inl (a.1,(zk a.2.1),()))| .inr b=>ziq d (zk b.2.1) f g h i j k l m (zC b.1) n o p q)
def zfZ(p:zf)(h:zh)(i:Int)(j:Str)(k:Int)(l:Str)(b:Int)(c:Str)(d:Int)(e:Str)(m:List Str)(n:List zg)(f:List Str)(g:List zg):zbd:=(zH [101,108,115,101] (zk h)).bind λa=>if a.1=true then zis p (zk a.2.1) i j k l b c d e m n f g else some (.inr (⟨b,c,d,e,f,g⟩,(zk a.2.1),()))
def zf6(b:zf)(x:zh):zbd:=(b.zbM (zk x)).bind λi=>(match i with| .inl d=>some (.inl (d.1,(zk d.2.1),()))| .inr c=>fk ((b.zbm (zk c.2.1)).bind λj=>(match j with| .inl e=>some (.inl (e.1,(zk e.2.1),()))| .inr f=>fd (zfZ b (zk f.2.1) 0 [] 0 [] 26 [] 0 [] [] [] [] [(zC c.1),(zC f.1)]))) ((b.zbm (zk c.2.1)).bind λk=>(match k with| .inl g=>some (.inl (g.1,(zk g.2.1),()))| .inr h=>zfZ b (zk h.2.1) 0 [] 0 [] 26 [] 0 [] [] [] [] [(zC c.1),(zC h.1)])))
def zvX(b:zf):=callee Y [] zyb znU (λz=>zf6 b z.1)
def zvV(b:zf):zab Y (zU Y znU):=(.join [[1,1,2,2,2],[2,1,2,2,2],[2,2,2,2]] ⟨[(0,.ptr 0 0),(2,.ptr 1 0),(4,.ptr 2 0)],zhV⟩ (u13 (zfZ b)) (.join [[1,3,2,1,2,2,2],[2,3,2,1,2,2,2],[2,2,2,2]] ⟨[(0,.ptr 0 0),(2,.ptr 1 0),(4,.ptr 2 0)],zhV⟩ (u13 (zis b)) (.join [[2,3,2,1,2,2,2],[2,2,2,2]] ⟨[(2,.ptr 1 0),(4,.ptr 2 0),(5,.ptr 3 0)],om8⟩ (u14 (ziq b)) .nil)))
theorem zrG(b:zf)(d:zG b):K8 85 (zvX b):=f8 (zvV b) Tryz.func85 (.cons d.zbM (.cons d.zbm (.cons zaD .nil))) ⟨λz=>by kernel_rfl,⟨λz=>by kernel_rfl,⟨λz=>by kernel_rfl,⟨⟩⟩⟩⟩
def zhu(k:zf)(x:zh):zbd:=(zae [40] (zk x)).bind λe=>(match e with| .inl a=>some (.inl (a.1,(zk a.2.1),()))| .inr f=>(k.zax (zk f.1)).bind λg=>(match g with| .inl b=>(zae [41] (zk b.2.1)).bind λh=>(match h with| .inl c=>some (.inl (c.1,(zk c.2.1),()))| .inr i=>some (.inr ((zC b.1),(zk i.1),())))| .inr d=>some (.inl (d.1,(zk d.2.1),()))))
def zx9(b:zf):=callee Y [] zyb znU (λz=>zhu b z.1)
theorem zuE(b:zf)(d:zG b):K8 86 (zx9 b):=f8 zyn Tryz.func86 (.cons zaM (.cons d.zax .nil)) trivial
def zhv(e:zf)(x:zh):zbd:=(e.zby (zk x)).bind λc=>(match c with| .inl b=>some (.inl (b.1,(zk b.2.1),()))| .inr a=>if(a.1.Kind !=25)=true then some (.inr (⟨25,[],0,[],[],[(zC a.1)]⟩,(zk a.2.1),()))else some (.inr ((zC a.1),(zk a.2.1),())))
def zx4(b:zf):=callee Y [] zyb znU (λz=>zhv b z.1)
theorem ztQ(b:zf)(d:zG b):K8 87 (zx4 b):=f8 zyn Tryz.func87 (.cons d.zby .nil) trivial
def zey(m:zf)(d:zh)(n:Int)(o:Str)(p:Int)(q:Str)(e:Int)(f:Str)(g:Int)(h:Str)(r:List Str)(s:List zg)(i:List Str)(b:List zg):zbd:=(m.zbm (zk d)).bind λj=>(match j with| .inl c=>some (.inl (c.1,(zk c.2.1),()))| .inr a=>(room (b.length+([(zC a.1)]:List zg).length)).bind λ_=>let k:=b++[(zC a.1)];some (.inr (⟨e,f,g,h,i,k⟩,(zk a.2.1),())))
def ziN(r:zf)(d:zh)(e:Int)(f:Str)(g:Int)(h:Str)(i:Int)(j:Str)(k:Int)(l:Str)(a:zg)(b:zg)(m:List Str)(n:List zg)(o:List Str)(c:List zg):zbd:=(room (c.length+([(zC a),(zC b)]:List zg).length)).bind λ_=>let p:=c++[(zC a),(zC b)];zey r (zk d) e f g h i j k l m n o p
def ziT(d:zf)(e:zh)(f:Int)(g:Str)(h:Int)(i:Str)(j:Int)(k:Str)(l:Int)(m:Str)(n:zg)(o:List Str)(p:List zg)(q:List Str)(r:List zg):zbd:=(d.zcS [41] (zk e)).bind λs=>(match s with| .inl a=>ziN d (zk a.2.1) f g h i j k l m (zC n) (zC a.1) o p q r| .inr b=>some (.inl (b.1,(zk b.2.1),())))
def zjv(d:zf)(e:zh)(f:Int)(g:Str)(h:Int)(i:Str)(j:Int)(k:Str)(l:Int)(m:Str)(n:List Str)(o:List zg)(p:List Str)(q:List zg):zbd:=(d.zcS [59] (zk e)).bind λr=>(match r with| .inl a=>ziT d (zk a.2.1) f g h i j k l m (zC a.1) n o p q| .inr b=>some (.inl (b.1,(zk b.2.1),())))
def ze9(r:zf)(b:zh)(c:Int)(d:Str)(e:Int)(f:Str)(g:Int)(h:Str)(i:Int)(j:Str)(k:List Str)(l:List zg)(m:List Str)(n:List zg):zbd:=(zae [59] (zk b)).bind λo=>(match o with| .inl a=>some (.inl (a.1,(zk a.2.1),()))| .inr p=>zjv r (zk p.1) c d e f g h i j k l m n)
def zja(r:zf)(b:zh)(c:Int)(d:Str)(e:Int)(f:Str)(g:Int)(h:Str)(i:Int)(j:Str)(k:List Str)(l:List zg)(m:List Str)(n:List zg):zbd:=(zae [41] (zk b)).bind λo=>(match o with| .inl a=>some (.inl (a.1,(zk a.2.1),()))| .inr p=>zey r (zk p.1) c d e f g h i j k l m n)
def zje(q:zf)(c:zh)(d:Int)(e:Str)(f:Int)(g:Str)(h:Int)(i:Str)(j:Int)(k:Str)(a:zg)(l:List Str)(m:List zg)(n:List Str)(b:List zg):zbd:=(room (b.length+([(zC a)]:List zg).length)).bind λ_=>let o:=b++[(zC a)];zja q (zk c) d e f g h i j k l m n o
def zi4(d:zf)(e:zh)(f:Int)(g:Str)(h:Int)(i:Str)(j:Int)(k:Str)(l:Int)(m:Str)(n:List Str)(o:List zg)(p:List Str)(q:List zg):zbd:=(d.zax (zk e)).bind λr=>(match r with| .inl a=>zje d (zk a.2.1) f g h i j k l m (zC a.1) n o p q| .inr b=>some (.inl (b.1,(zk b.2.1),())))
def zi3(n:zf)(a:zh)(b:Int)(c:Str)(d:Int)(e:Str)(o:Int)(f:Str)(g:Int)(h:Str)(i:List Str)(j:List zg)(k:List Str)(l:List zg):zbd:=zi4 n (zk a) b c d e 30 f g h i j k l
def ze7(o:zf)(q:Bool)(p:zh)(a:Int)(b:Str)(c:Int)(d:Str)(e:Int)(f:Str)(g:Int)(h:Str)(i:List Str)(j:List zg)(k:List Str)(l:List zg):zbd:=if q=true then(zH [105,110] (zk p)).bind λm=>if m.1=true then zi3 o (zk m.2.1) a b c d e f g h i j k l else ze9 o (zk m.2.1) a b c d e f g h i j k l else ze9 o (zk p) a b c d e f g h i j k l
def zi7(k:zf)(a:Bool)(b:zh)(c:Int)(d:Str)(e:Int)(f:Str)(g:zg)(h:List Str)(i:List zg):zbd:=ze7 k a (zk b) c d e f 29 [] 0 [] h i [] [(zC g)]
def zeY(k:zf)(a:Bool)(b:zh)(c:Int)(d:Str)(e:Int)(f:Str)(g:zg)(h:List Str)(i:List zg):zbd:=zi7 k a ⟨b.t,false⟩ c d e f (zC g) h i
def zhq(b:zf)(x:zh):zbd:=(zae [40] (zk x)).bind λj=>(match j with| .inl g=>some (.inl (g.1,(zk g.2.1),()))| .inr k=>(zH [118,97,114] ⟨k.1.t,true⟩).bind λd=>if d.1=true then(b.zcJ (zk d.2.1)).bind λl=>(match l with| .inl h=>some (.inl (h.1,(zk h.2.1),()))| .inr c=>let m:=((c.1.L.length:Nat):Int);(if(m==1)=true then(zT c.1.L 0).bind λn=>let o:=((n.L.length:Nat):Int);some (o==0)else some false).bind λp=>zeY b p (zk c.2.1) 0 [] 0 [] (zC c.1) [] [])else(zbb [59] (zk d.2.1)).bind λe=>if(!e.1)=true then(b.zax (zk e.2.1)).bind λq=>(match q with| .inl f=>(zfk (zC f.1)).bind λr=>zeY b r.1 (zk f.2.1) 0 [] 0 [] (zC f.1) [] []| .inr i=>some (.inl (i.1,(zk i.2.1),())))else zeY b false (zk e.2.1) 0 [] 0 [] ⟨42,[],0,[],[],[]⟩ [] [])
def zyh(b:zf):=callee Y [] zyb znU (λz=>zhq b z.1)
def zyJ(b:zf):zab Y (zU Y znU):=(.join [[1,2,2,2,2,2],[2,2,2,2,2,2]] ⟨[(0,.ptr 0 0),(2,.ptr 1 0),(3,.ptr 2 0),(4,.bool)],zL2⟩ (u9 (zeY b)) (.join [[1,2,2,2,2,2,2],[2,2,2,2,2,2,2]] ⟨[(0,.ptr 0 0),(2,.ptr 1 0),(3,.ptr 2 0),(4,.bool)],zL2⟩ (u9 (zi7 b)) (.join [[1,1,2,2,2,2,2,2,2],[2,1,2,2,2,2,2,2,2],[2,2,2,2,2,2,2,2]] ⟨[(0,.ptr 0 0),(2,.ptr 1 0),(4,.bool),(5,.ptr 2 0)],zhV⟩ (u14 (ze7 b)) (.join [[1,3,2,1,2,2,2,2,2,2,2],[2,3,2,1,2,2,2,2,2,2,2],[2,2,2,2,2,2,2,2]] ⟨[(0,.ptr 0 0),(2,.ptr 1 0),(5,.ptr 2 0)],zhV⟩ (u13 (zi3 b)) (.join [[1,2,3,2,1,2,2,2,2,2,2,2],[2,2,3,2,1,2,2,2,2,2,2,2],[2,2,2,2,2,2,2,2]] ⟨[(0,.ptr 0 0),(2,.ptr 1 0),(5,.ptr 2 0)],zhV⟩ (u13 (zi4 b)) (.join [[1,2,2,3,2,1,2,2,2,2,2,2,2],[2,2,2,3,2,1,2,2,2,2,2,2,2],[2,2,2,2,2,2,2,2]] ⟨[(0,.ptr 0 0),(2,.ptr 1 0),(5,.ptr 2 0),(6,.ptr 3 0)],om8⟩ (u14 (zje b)) (.join [[2,2,2,3,2,1,2,2,2,2,2,2,2],[2,2,2,2,2,2,2,2]] ⟨[(0,.ptr 0 0),(2,.ptr 1 0),(5,.ptr 2 0)],zhV⟩ (u13 (zja b)) (.join [[1,4,2,1,2,2,2,2,2,2,2],[2,4,2,1,2,2,2,2,2,2,2],[2,2,2,2,2,2,2,2]] ⟨[(0,.ptr 0 0),(2,.ptr 1 0),(5,.ptr 2 0)],zhV⟩ (u13 (ze9 b)) (.join [[1,2,4,2,1,2,2,2,2,2,2,2],[2,2,4,2,1,2,2,2,2,2,2,2],[2,2,2,2,2,2,2,2]] ⟨[(0,.ptr 0 0),(2,.ptr 1 0),(5,.ptr 2 0)],zhV⟩ (u13 (zjv b)) (.join [[1,2,2,4,2,1,2,2,2,2,2,2,2],[2,2,2,4,2,1,2,2,2,2,2,2,2],[2,2,2,2,2,2,2,2]] ⟨[(0,.ptr 0 0),(2,.ptr 1 0),(5,.ptr 2 0),(7,.ptr 3 0)],om8⟩ (u14 (ziT b)) (.join [[2,2,2,4,2,1,2,2,2,2,2,2,2],[2,2,2,2,2,2,2,2]] ⟨[(0,.ptr 0 0),(2,.ptr 1 0),(5,.ptr 2 0),(7,.ptr 3 0),(8,.ptr 4 0)],[.whole 48 48,oc0 5 6,oc0 7 8,.whole 25 25,.whole 25 25,.arr 9,.arr 25,.arr 9,.arr 25]⟩ (u15 (ziN b)) (.join [[1,2,2,2,2,2,2,2,2],[2,2,2,2,2,2,2,2,2]] ⟨[(0,.ptr 0 0),(2,.ptr 1 0),(5,.ptr 2 0)],zhV⟩ (u13 (zey b)) .nil))))))))))))
theorem ztI(d:zf)(b:zG d):K8 88 (zyh d):=f8 (zyJ d) Tryz.func88 (.cons zaM (.cons zaD (.cons b.zcJ (.cons zcu (.cons b.zax (.cons zmf (.cons b.zcS (.cons b.zbm .nil)))))))) ⟨λz=>by kernel_rfl,⟨λz=>by kernel_rfl,⟨λz=>by kernel_rfl,⟨λz=>by kernel_rfl,⟨λz=>by kernel_rfl,⟨λz=>by kernel_rfl,⟨λz=>by kernel_rfl,⟨λz=>by kernel_rfl,⟨λz=>by kernel_rfl,⟨λz=>by kernel_rfl,⟨λz=>by kernel_rfl,⟨λz=>by kernel_rfl,⟨⟩⟩⟩⟩⟩⟩⟩⟩⟩⟩⟩⟩⟩
def zgJ(i:zf)(s:Str)(x:zh):ziu:=(zH s (zk x)).bind λa=>if a.1=true then some (.inl (⟨42,[],0,[],[],[]⟩,(zk a.2.1),()))else(i.zax (zk a.2.1)).bind λe=>(match e with| .inl b=>(zae s (zk b.2.1)).bind λf=>(match f with| .inl c=>some (.inr (c.1,(zk c.2.1),()))| .inr g=>some (.inl ((zC b.1),(zk g.1),())))| .inr d=>some (.inr (d.1,(zk d.2.1),())))
def zwV(b:zf):=callee Y [] zBc ziG (u2 (zgJ b))
theorem zsL(b:zf)(d:zG b):K8 135 (zwV b):=f8 zuO Tryz.func135 (.cons zaD (.cons d.zax (.cons zaM .nil))) trivial
def zgx(o:zf)(a:zh)(h:Int)(i:Str)(j:Int)(k:Str)(b:Int)(c:Str)(d:Int)(e:Str)(l:List Str)(m:List zg)(f:List Str)(g:List zg):zbd:=some (.inr (⟨b,c,d,e,f,g⟩,(zk a),()))
def zjV(q:zf)(c:Bool)(a:zh)(d:Int)(e:Str)(f:Int)(g:Str)(h:Int)(i:Str)(j:Int)(k:Str)(l:List Str)(m:List zg)(n:List Str)(o:List zg):zbd:=if(!c)=true then(zaU (zk a)).bind λb=>some (.inl (b.1,(zk b.2.1),()))else zgx q (zk a) d e f g h i j k l m n o
def zjU(e:zf)(f:zh)(g:Int)(h:Str)(i:Int)(j:Str)(k:Int)(l:Str)(m:Int)(n:Str)(o:List Str)(p:List zg)(q:List Str)(a:List zg):zbd:=(e.zbF (zk f)).bind λr=>(match r with| .inl b=>some (.inl (b.1,(zk b.2.1),()))| .inr c=>(zT a 2).bind λ_=>(zT a 2).bind λt=>let s:=a.set (2:Int).toNat (zC c.1);zgx e (zk c.2.1) g h i j k l m n o p q s)
def zfE(o:zf)(p:Bool)(q:zh)(b:Int)(c:Str)(d:Int)(e:Str)(f:Int)(g:Str)(h:Int)(i:Str)(j:List Str)(k:List zg)(l:List Str)(m:List zg):zbd:=(zH [102,105,110,97,108,108,121] (zk q)).bind λa=>if a.1=true then zjU o (zk a.2.1) b c d e f g h i j k l m else zjV o p (zk a.2.1) b c d e f g h i j k l m
def zj1(e:zf)(f:Bool)(g:zh)(h:Int)(i:Str)(j:Int)(k:Str)(l:Int)(m:Str)(n:Int)(o:Str)(p:List Str)(q:List zg)(r:List Str)(a:List zg):zbd:=(e.zbF (zk g)).bind λs=>(match s with| .inl b=>some (.inl (b.1,(zk b.2.1),()))| .inr c=>(zT a 1).bind λ_=>(zT a 1).bind λu=>let t:=a.set (1:Int).toNat (zC c.1);zfE e f (zk c.2.1) h i j k l m n o p q r t)
def zkd(s:zf)(b:Bool)(c:zh)(d:Int)(e:Str)(f:Int)(g:Str)(h:Int)(i:Str)(j:Int)(k:Str)(l:List Str)(m:List zg)(n:List Str)(o:List zg):zbd:=(zae [41] (zk c)).bind λp=>(match p with| .inl a=>some (.inl (a.1,(zk a.2.1),()))| .inr q=>zj1 s b (zk q.1) d e f g h i j k l m n o)
def zka(r:zf)(c:Bool)(d:zh)(e:Int)(f:Str)(g:Int)(h:Str)(i:Int)(s:Str)(j:Int)(k:Str)(l:List Str)(m:List zg)(n:List Str)(o:List zg):zbd:=(zdf (zk d)).bind λp=>(match p with| .inl a=>some (.inl (a.1,(zk a.2.1),()))| .inr b=>zkd r c (zk b.2.1) e f g h i b.1 j k l m n o)
def zj8(s:zf)(b:Bool)(c:zh)(d:Int)(e:Str)(f:Int)(g:Str)(h:Int)(i:Str)(j:Int)(k:Str)(l:List Str)(m:List zg)(n:List Str)(o:List zg):zbd:=(zae [40] (zk c)).bind λp=>(match p with| .inl a=>some (.inl (a.1,(zk a.2.1),()))| .inr q=>zka s b (zk q.1) d e f g h i j k l m n o)
def zkc(p:zf)(a:Bool)(b:zh)(c:Int)(d:Str)(e:Int)(f:Str)(g:Int)(h:Str)(i:Int)(j:Str)(k:List Str)(l:List zg)(m:List Str)(n:List zg):zbd:=if a=true then zj8 p a (zk b) c d e f g h i j k l m n else zfE p a (zk b) c d e f g h i j k l m n
def zhC(p:zf)(b:zh)(c:Int)(d:Str)(e:Int)(f:Str)(g:Int)(h:Str)(i:Int)(j:Str)(k:List Str)(l:List zg)(m:List Str)(n:List zg):zbd:=(zH [99,97,116,99,104] (zk b)).bind λa=>zkc p a.1 (zk a.2.1) c d e f g h i j k l m n
def zh8(b:zf)(x:zh):zbd:=fk ((b.zbF (zk x)).bind λg=>(match g with| .inl c=>some (.inl (c.1,(zk c.2.1),()))| .inr d=>fd (zhC b (zk d.2.1) 0 [] 0 [] 35 [] 0 [] [] [] [] [(zC d.1),⟨42,[],0,[],[],[]⟩,⟨42,[],0,[],[],[]⟩]))) ((b.zbF (zk x)).bind λh=>(match h with| .inl e=>some (.inl (e.1,(zk e.2.1),()))| .inr f=>zhC b (zk f.2.1) 0 [] 0 [] 35 [] 0 [] [] [] [] [(zC f.1),⟨42,[],0,[],[],[]⟩,⟨42,[],0,[],[],[]⟩]))
def zzS(b:zf):=callee Y [] zyb znU (λz=>zh8 b z.1)
def zyX(b:zf):zab Y (zU Y znU):=(.join [[1,2,2,2],[2,2,2,2]] ⟨[(0,.ptr 0 0),(2,.ptr 1 0),(4,.ptr 2 0)],zhV⟩ (u13 (zhC b)) (.join [[1,1,2,2,2,2],[2,1,2,2,2,2],[2,2,2,2,2]] ⟨[(0,.ptr 0 0),(2,.ptr 1 0),(4,.ptr 2 0),(5,.bool)],zhV⟩ (u14 (zkc b)) (.join [[1,3,2,1,2,2,2,2],[2,3,2,1,2,2,2,2],[2,2,2,2,2]] ⟨[(0,.ptr 0 0),(2,.ptr 1 0),(4,.ptr 2 0),(5,.bool)],zhV⟩ (u14 (zj8 b)) (.join [[1,2,3,2,1,2,2,2,2],[2,2,3,2,1,2,2,2,2],[2,2,2,2,2]] ⟨[(0,.ptr 0 0),(2,.ptr 1 0),(4,.ptr 2 0),(5,.bool)],zhV⟩ (u14 (zka b)) (.join [[1,2,2,3,2,1,2,2,2,2],[2,2,2,3,2,1,2,2,2,2],[2,2,2,2,2]] ⟨[(0,.ptr 0 0),(2,.ptr 1 0),(4,.ptr 2 0),(5,.bool)],zhV⟩ (u14 (zkd b)) (.join [[2,2,2,3,2,1,2,2,2,2],[2,2,2,2,2]] ⟨[(0,.ptr 0 0),(2,.ptr 1 0),(4,.ptr 2 0),(5,.bool)],zhV⟩ (u14 (zj1 b)) (.join [[1,1,2,2,2,2,2],[2,1,2,2,2,2,2],[2,2,2,2,2,2]] ⟨[(0,.ptr 0 0),(2,.ptr 1 0),(4,.ptr 2 0),(5,.bool)],zhV⟩ (u14 (zfE b)) (.join [[3,2,1,2,2,2,2,2],[2,2,2,2,2,2]] ⟨[(0,.ptr 0 0),(2,.ptr 1 0),(4,.ptr 2 0)],zhV⟩ (u13 (zjU b)) (.join [[1,4,2,1,2,2,2,2,2],[2,4,2,1,2,2,2,2,2],[2,2,2,2,2,2]] ⟨[(0,.ptr 0 0),(2,.ptr 1 0),(4,.ptr 2 0),(5,.bool)],zhV⟩ (u14 (zjV b)) (.join [[1,2,2,2,2,2,2],[2,2,2,2,2,2,2]] ⟨[(2,.ptr 1 0),(4,.ptr 2 0)],zhV⟩ (u13 (zgx b)) .nil))))))))))
theorem zvO(b:zf)(d:zG b):K8 92 (zzS b):=f8 (zyX b) Tryz.func92 (.cons d.zbF (.cons zaD (.cons zaM (.cons zeZ (.cons za2 .nil))))) ⟨λz=>by kernel_rfl,⟨λz=>by kernel_rfl,⟨λz=>by kernel_rfl,⟨λz=>by kernel_rfl,⟨λz=>by kernel_rfl,⟨λz=>by kernel_rfl,⟨λz=>by kernel_rfl,⟨λz=>by kernel_rfl,⟨λz=>by kernel_rfl,⟨λz=>by kernel_rfl,⟨⟩⟩⟩⟩⟩⟩⟩⟩⟩⟩⟩
def zeu(H:zf):Bool×zh×Int×Str×Int×Str×Int×Str×Int×Str×Int×Str×Int×Str×(List Str)×(List zg)×(List Str)×(List zg)×(List Str)×(List zg)×Unit->Option ((Bool×zh×Int×Str×Int×Str×Int×Str×Int×Str×Int×Str×Int×Str×(List Str)×(List zg)×(List Str)×(List zg)×(List Str)×(List zg)×Unit)⊕((Bool×zh×Int×Str×Int×Str×Int×Str×Int×Str×(List Str)×(List zg)×(List Str)×(List zg)×Unit)⊕((zaf×zh×Unit)⊕(zg×zh×Unit))))| (j,y,k,l,m,n,o,p,q,r,c,d,e,f,s,u,v,g,h,a,())=>(zbq [32,99,97,115,101,32,100,101,102,97,117,108,116,32,125,32] (zk y)).bind λb=>(if(!b.1)=true then(zT b.2.1.t 0).bind λz=>some (z.Kind !=0)else some false).bind λA=>if A=true then(H.zby (zk b.2.1)).bind λB=>(match B with| .inl x=>some (.inr (.inr (.inl (x.1,(zk x.2.1),()))))| .inr i=>(room (a.length+([(zC i.1)]:List zg).length)).bind λ_=>let C:=a++[(zC i.1)];some (.inl (j,(zk i.2.1),k,l,m,n,o,p,q,r,c,d,e,f,s,u,v,g,h,C,())))else(room (g.length+([⟨c,d,e,f,h,a⟩]:List zg).length)).bind λ_=>let D:=g++[⟨c,d,e,f,h,a⟩];some (.inr (.inl (j,(zk b.2.1),k,l,m,n,o,p,q,r,s,u,v,D,())))
def zer(z:zf)(b:Bool)(c:zh)(d:Int)(e:Str)(f:Int)(g:Str)(h:Int)(i:Str)(j:Int)(k:Str)(l:Int)(m:Str)(n:Int)(o:Str)(p:List Str)(q:List zg)(r:List Str)(s:List zg)(t:List Str)(u:List zg):OT1:=(zae [58] (zk c)).bind λv=>(match v with| .inl a=>some (.inr (.inl (a.1,(zk a.2.1),())))| .inr x=>Lp.loop (zeu z) (b,(zk x.1),d,e,f,g,h,i,j,k,l,m,n,o,p,q,r,s,t,u,()))
def ziM(e:zf)(f:Bool)(g:zh)(h:Int)(i:Str)(j:Int)(k:Str)(l:Int)(m:Str)(n:Int)(o:Str)(p:Int)(q:Str)(r:Int)(s:Str)(t:List Str)(u:List zg)(v:List Str)(x:List zg)(y:List Str)(a:List zg):OT1:=(e.zax (zk g)).bind λz=>(match z with| .inl b=>(zT a 0).bind λ_=>(zT a 0).bind λB=>let A:=a.set (0:Int).toNat (zC b.1);zer e f (zk b.2.1) h i j k l m n o p q r s t u v x y A| .inr c=>some (.inr (.inl (c.1,(zk c.2.1),()))))
def zes(z:zf)(b:Bool)(c:zh)(d:Int)(e:Str)(f:Int)(g:Str)(h:Int)(i:Str)(j:Int)(k:Str)(l:Int)(m:Str)(n:Int)(o:Str)(p:List Str)(q:List zg)(r:List Str)(s:List zg)(t:List Str)(u:List zg):OT1:=(zae [99,97,115,101] (zk c)).bind λv=>(match v with| .inl a=>some (.inr (.inl (a.1,(zk a.2.1),())))| .inr x=>ziM z b (zk x.1) d e f g h i j k l m n o p q r s t u)
def zex(q:zf):Bool×zh×Int×Str×Int×Str×Int×Str×Int×Str×(List Str)×(List zg)×(List Str)×(List zg)×Unit->OT1| (h,r,i,j,k,l,a,b,c,d,m,n,e,f,())=>(zH [125] (zk r)).bind λg=>if(!g.1)=true then if h=true then(zH [100,101,102,97,117,108,116] (zk g.2.1)).bind λo=>if o.1=true then zer q false (zk o.2.1) i j k l a b c d 37 [] 0 [] m n e f [] [⟨42,[],0,[],[],[]⟩]else zes q h (zk o.2.1) i j k l a b c d 37 [] 0 [] m n e f [] [⟨42,[],0,[],[],[]⟩]else zes q h (zk g.2.1) i j k l a b c d 37 [] 0 [] m n e f [] [⟨42,[],0,[],[],[]⟩]else some (.inr (.inr (⟨a,b,c,d,e,f⟩,(zk g.2.1),())))
def zgH(e:zf)(x:zh):zbd:=(e.zbM (zk x)).bind λf=>(match f with| .inl a=>some (.inl (a.1,(zk a.2.1),()))| .inr b=>(zae [123] (zk b.2.1)).bind λg=>(match g with| .inl c=>some (.inl (c.1,(zk c.2.1),()))| .inr h=>Lp.loop (zex e) (true,(zk h.1),0,[],0,[],36,[],0,[],[],[],[],[(zC b.1)],())))
def zxC(b:zf):=callee Y [] zyb znU (λz=>zgH b z.1)
def zxq(b:zf):zab Y (zU Y znU):=(.loop [[7,5,1,2,2,2,2],[8,5,1,2,2,2,2],[6,1,2,2,2,2],[2,2,2,2,2]] ⟨[(0,.ptr 0 0),(2,.ptr 1 0),(3,.ptr 2 0),(4,.bool)],zhV⟩ (zex b) (.join [[1,4,2,1,2,5,2,7,5,1,2,2,2,2],[2,4,2,1,2,5,2,7,5,1,2,2,2,2],[2,2,5,2,7,5,1,2,2,2,2],[6,2,7,5,1,2,2,2,2],[8,5,1,2,2,2,2],[6,1,2,2,2,2],[2,2,2,2,2]] ⟨[(0,.ptr 0 0),(2,.ptr 1 0),(3,.ptr 2 0),(4,.bool),(5,.ptr 3 0)],om6⟩ (u20 (zes b)) (.join [[2,4,2,1,2,5,2,7,5,1,2,2,2,2],[2,2,5,2,7,5,1,2,2,2,2],[6,2,7,5,1,2,2,2,2],[8,5,1,2,2,2,2],[6,1,2,2,2,2],[2,2,2,2,2]] ⟨[(0,.ptr 0 0),(2,.ptr 1 0),(3,.ptr 2 0),(4,.bool),(5,.ptr 3 0)],om6⟩ (u20 (ziM b)) (.join [[1,2,2,5,2,7,5,1,2,2,2,2],[2,2,2,5,2,7,5,1,2,2,2,2],[6,2,7,5,1,2,2,2,2],[8,5,1,2,2,2,2],[6,1,2,2,2,2],[2,2,2,2,2]] ⟨[(0,.ptr 0 0),(2,.ptr 1 0),(3,.ptr 2 0),(4,.bool),(5,.ptr 3 0)],om6⟩ (u20 (zer b)) (.loop [[7,5,1,2,2,2,5,2,7,5,1,2,2,2,2],[8,5,1,2,2,2,5,2,7,5,1,2,2,2,2],[6,1,2,2,2,5,2,7,5,1,2,2,2,2],[2,2,2,2,5,2,7,5,1,2,2,2,2],[6,2,7,5,1,2,2,2,2],[8,5,1,2,2,2,2],[6,1,2,2,2,2],[2,2,2,2,2]] ⟨[(0,.ptr 0 0),(2,.ptr 1 0),(3,.ptr 2 0),(4,.bool),(5,.ptr 3 0)],om6⟩ (zeu b) .nil .nil)))) .nil)
theorem zsH(c:zf)(d:zG c):K8 93 (zxC c):=f8 (zxq c) Tryz.func93 (.cons d.zbM (.cons zaM (.cons zaD (.cons zf5 (.cons d.zby (.cons d.zax .nil)))))) ⟨λz=>by kernel_rfl,⟨λz=>by kernel_rfl,⟨λz=>by kernel_rfl,⟨λz=>by kernel_rfl,⟨λz=>by kernel_rfl,trivial,trivial⟩⟩⟩⟩,trivial⟩
def zl:Nat->zf
 |0=>⟨λ_ _ _=>none,λ_ _=>none,λ_ _ _ _ _ _ _=>none,λ_ _ _ _ _ _ _=>none,λ_=>none,λ_=>none,λ_=>none,λ_=>none,λ_ _=>none,λ_=>none,λ_=>none,λ_=>none,λ_=>none,λ_ _ _ _ _ _ _=>none,λ_ _ _ _ _ _ _=>none,λ_=>none,λ_ _ _=>none,λ_ _ _ _=>none,λ_ _ _ _=>none,λ_ _ _ _=>none,λ_ _=>none,λ_ _ _ _ _ _ _ _ _=>none,λ_ _ _ _ _ _ _ _ _=>none,λ_ _ _ _ _ _ _ _ _=>none,λ_ _ _ _ _ _ _=>none,λ_ _ _=>none,λ_ _ _ _ _ _ _=>none,λ_ _ _ _ _ _ _=>none,λ_ _ _ _ _ _ _=>none,λ_ _ _ _ _ _ _=>none,λ_=>none,λ_=>none,λ_=>none,λ_=>none,λ_ _=>none,λ_=>none,λ_=>none⟩
 |n+1=>⟨zgT (zl n),zfq (zl n),ze1 (zl n),zeC (zl n),zhm (zl n),zgF (zl n),zho (zl n),zf9 (zl n),zf7 (zl n),zgE (zl n),zhs (zl n),zfT (zl n),zhr (zl n),zeT (zl n),zgc (zl n),zhB (zl n),zgD (zl n),zeb (zl n),zeQ (zl n),zeR (zl n),zfQ (zl n),zfN (zl n),zeS (zl n),zeW (zl n),zf4 (zl n),zfU (zl n),ze5 (zl n),ze8 (zl n),zfb (zl n),zfo (zl n),zf6 (zl n),zhu (zl n),zhv (zl n),zhq (zl n),zgJ (zl n),zh8 (zl n),zgH (zl n)⟩
theorem zD: ∀n,zG (zl n)
 |0=>⟨COk.none ⟨⟨_,Tryz.func20,by kernel_rfl,rfl⟩⟩,COk.none ⟨⟨_,Tryz.func37,by kernel_rfl,rfl⟩⟩,COk.none ⟨⟨_,Tryz.func80,by kernel_rfl,rfl⟩⟩,COk.none ⟨⟨_,Tryz.func81,by kernel_rfl,rfl⟩⟩,COk.none ⟨⟨_,Tryz.func38,by kernel_rfl,rfl⟩⟩,COk.none ⟨⟨_,Tryz.func82,by kernel_rfl,rfl⟩⟩,COk.none ⟨⟨_,Tryz.func83,by kernel_rfl,rfl⟩⟩,COk.none ⟨⟨_,Tryz.func134,by kernel_rfl,rfl⟩⟩,COk.none ⟨⟨_,Tryz.func166,by kernel_rfl,rfl⟩⟩,COk.none ⟨⟨_,Tryz.func189,by kernel_rfl,rfl⟩⟩,COk.none ⟨⟨_,Tryz.func211,by kernel_rfl,rfl⟩⟩,COk.none ⟨⟨_,Tryz.func224,by kernel_rfl,rfl⟩⟩,COk.none ⟨⟨_,Tryz.func237,by kernel_rfl,rfl⟩⟩,COk.none ⟨⟨_,Tryz.func80,by kernel_rfl,rfl⟩⟩,COk.none ⟨⟨_,Tryz.func241,by kernel_rfl,rfl⟩⟩,COk.none ⟨⟨_,Tryz.func91,by kernel_rfl,rfl⟩⟩,COk.none ⟨⟨_,Tryz.func223,by kernel_rfl,rfl⟩⟩,COk.none ⟨⟨_,Tryz.func78,by kernel_rfl,rfl⟩⟩,COk.none ⟨⟨_,Tryz.func80,by kernel_rfl,rfl⟩⟩,COk.none ⟨⟨_,Tryz.func133,by kernel_rfl,rfl⟩⟩,COk.none ⟨⟨_,Tryz.func236,by kernel_rfl,rfl⟩⟩,COk.none ⟨⟨_,Tryz.func78,by kernel_rfl,rfl⟩⟩,COk.none ⟨⟨_,Tryz.func80,by kernel_rfl,rfl⟩⟩,COk.none ⟨⟨_,Tryz.func133,by kernel_rfl,rfl⟩⟩,COk.none ⟨⟨_,Tryz.func242,by kernel_rfl,rfl⟩⟩,COk.none ⟨⟨_,Tryz.func210,by kernel_rfl,rfl⟩⟩,COk.none ⟨⟨_,Tryz.func80,by kernel_rfl,rfl⟩⟩,COk.none ⟨⟨_,Tryz.func222,by kernel_rfl,rfl⟩⟩,COk.none ⟨⟨_,Tryz.func80,by kernel_rfl,rfl⟩⟩,COk.none ⟨⟨_,Tryz.func167,by kernel_rfl,rfl⟩⟩,COk.none ⟨⟨_,Tryz.func85,by kernel_rfl,rfl⟩⟩,COk.none ⟨⟨_,Tryz.func86,by kernel_rfl,rfl⟩⟩,COk.none ⟨⟨_,Tryz.func87,by kernel_rfl,rfl⟩⟩,COk.none ⟨⟨_,Tryz.func88,by kernel_rfl,rfl⟩⟩,COk.none ⟨⟨_,Tryz.func135,by kernel_rfl,rfl⟩⟩,COk.none ⟨⟨_,Tryz.func92,by kernel_rfl,rfl⟩⟩,COk.none ⟨⟨_,Tryz.func93,by kernel_rfl,rfl⟩⟩⟩
 |n+1=>⟨zsI _ (zD n),zpU _ (zD n),zpc _ (zD n),zoA _ (zD n),zt5 _ (zD n),zs3 _ (zD n),zuw _ (zD n),zrR _ (zD n),zsi _ (zD n),zte _ (zD n),zus _ (zD n),zqz _ (zD n),zuy _ (zD n),zpg _ (zD n),zrA _ (zD n),zue _ (zD n),zth _ (zD n),zqo _ (zD n),zo0 _ (zD n),zo8 _ (zD n),zqA _ (zD n),zqr _ (zD n),zpy _ (zD n),zo9 _ (zD n),zrB _ (zD n),zqU _ (zD n),zpl _ (zD n),zo3 _ (zD n),zpp _ (zD n),zp6 _ (zD n),zrG _ (zD n),zuE _ (zD n),ztQ _ (zD n),ztI _ (zD n),zsL _ (zD n),zvO _ (zD n),zsH _ (zD n)⟩
def zbr:Bool->Str->zh->zE6:=(zl Lp.big).zbr
theorem zvl:K8 20 (zgR (zl Lp.big)):=(zD Lp.big).zbr
def zbY:Int->zh->zbd:=(zl Lp.big).zbY
def zcA:zh->Int->Str->Int->Str->(List Str)->(List zg)->OT4:=(zl Lp.big).zcA
def zcU:zh->Int->Str->Int->Str->(List Str)->(List zg)->OT4:=(zl Lp.big).zcU
def zby:zh->zbd:=(zl Lp.big).zby
def zbF:zh->zbd:=(zl Lp.big).zbF
def zcJ:zh->zbd:=(zl Lp.big).zcJ
def zaA:zh->ziu:=(zl Lp.big).zaA
def zcj:Int->zh->zbd:=(zl Lp.big).zcj
def zb5:zh->ziu:=(zl Lp.big).zb5
def zcK:zh->ziu:=(zl Lp.big).zcK
def zc0:zh->ziu:=(zl Lp.big).zc0
def zdW:zh->ziu:=(zl Lp.big).zdW
def zcz:zh->Int->Str->Int->Str->(List Str)->(List zg)->OT6:=(zl Lp.big).zcz
def zd6:zh->Int->Str->Int->Str->(List Str)->(List zg)->OT6:=(zl Lp.big).zd6
def zax:zh->ziu:=(zl Lp.big).zax
def zbC:Str->Bool->zh->zE6:=(zl Lp.big).zbC
def zdM:Str->Bool->zh->(List zg)->zET:=(zl Lp.big).zdM
def zc9:zh->Str->(List zg)->Bool->OT8:=(zl Lp.big).zc9
def zda:zh->Str->(List zg)->Bool->OT8:=(zl Lp.big).zda
def zcZ:zh->(List zg)->zET:=(zl Lp.big).zcZ
def zc2:Str->Bool->zh->Int->Str->Int->Str->(List Str)->(List zg)->OT5:=(zl Lp.big).zc2
def zdd:zh->Str->Int->Str->Int->Str->(List Str)->(List zg)->Bool->OT3:=(zl Lp.big).zdd
def zdc:zh->Str->Int->Str->Int->Str->(List Str)->(List zg)->Bool->OT3:=(zl Lp.big).zdc
def zdk:zh->Int->Str->Int->Str->(List Str)->(List zg)->OT5:=(zl Lp.big).zdk
def zb4:zg->Bool->zh->zbd:=(zl Lp.big).zb4
def zcv:zh->Int->Str->Int->Str->(List Str)->(List zg)->OT6:=(zl Lp.big).zcv
def zde:zh->Int->Str->Int->Str->(List Str)->(List zg)->OT6:=(zl Lp.big).zde
def zcw:zh->Int->Str->Int->Str->(List Str)->(List zg)->OT6:=(zl Lp.big).zcw
def zdv:zh->Int->Str->Int->Str->(List Str)->(List zg)->OT6:=(zl Lp.big).zdv
def zdh:zh->zbd:=(zl Lp.big).zdh
def zbM:zh->zbd:=(zl Lp.big).zbM
def zbm:zh->zbd:=(zl Lp.big).zbm
def zdX:zh->zbd:=(zl Lp.big).zdX
def zcS:Str->zh->ziu:=(zl Lp.big).zcS
def zen:zh->zbd:=(zl Lp.big).zen
def zdz:zh->zbd:=(zl Lp.big).zdz
structure zek where
 zez:zg->Option (Int×Unit)
def zoN(b:zek):=callee Y [] zDd zy7 (λz=>b.zez z.1)
structure zrN (g_:zek):Prop where
 zez:COk hY Tryz.prog zar 22 (zoN g_)
def ziP(k:zek):Int×(List zg)×Int×Int×Unit->Option ((Int×(List zg)×Int×Int×Unit)⊕(Int×Unit))| (a,c,d,b,())=>if(decide (b<d))=true then(zT c b).bind λf=>(k.zez (zC f)).bind λe=>let g:=(if e.1>a then e.1 else a);let h:=(IntKind.wrap .i64 (b+1));some (.inl (g,c,d,h,()))else let i:=(IntKind.wrap .i64 (a+1));some (.inr (i,()))
def zoI(b:zek)(n:zg):Option (Int×Unit):=Lp.loop (ziP b) (0,n.L,((n.L.length:Nat):Int),0,())
def zJN(b:zek):=callee Y [] zDd zy7 (λz=>zoI b z.1)
def zJT(b:zek):zab Y (zU Y zy7):=(.loop [[7,5,2,1,2,2],[8,5,2,1,2,2],[6,2,1,2,2],[2,2,2]] ⟨[(3,.int .i64),(7,.sl 25),(8,.int .i64),(9,.int .i64)],[]⟩ (ziP b) .nil .nil)
theorem zEI(b:zek)(d:zrN b):K8 22 (zJN b):=f8 (zJT b) Tryz.func22 (.cons d.zez .nil) ⟨λz=>by kernel_rfl,trivial,trivial⟩
def zds:Nat->zek
 |0=>⟨λ_=>none⟩
 |n+1=>⟨zoI (zds n)⟩
theorem zqa: ∀n,zrN (zds n)
 |0=>⟨COk.none ⟨⟨_,Tryz.func22,by kernel_rfl,rfl⟩⟩⟩
 |n+1=>⟨zEI _ (zqa n)⟩
def zez:zg->Option (Int×Unit):=(zds Lp.big).zez
theorem zz2:K8 22 (zoN (zds Lp.big)):=(zqa Lp.big).zez
def zbE(l:Str):Option (zg×Int×Int×Unit):=(zts l).bind λa=>if(a.2.2.1 !=0)=true then fk (fk (fk (some (⟨0,[],0,[],[],[]⟩,a.2.1,a.2.2.1,())) (fd (some (⟨0,[],0,[],[],[]⟩,a.2.1,a.2.2.1,())))) (fk (fd (some (⟨0,[],0,[],[],[]⟩,a.2.1,a.2.2.1,()))) (fk (fd (some (⟨0,[],0,[],[],[]⟩,a.2.1,a.2.2.1,()))) (some (⟨0,[],0,[],[],[]⟩,a.2.1,a.2.2.1,()))))) (fk (fk (fk (some (⟨0,[],0,[],[],[]⟩,a.2.1,a.2.2.1,())) (fd (some (⟨0,[],0,[],[],[]⟩,a.2.1,a.2.2.1,())))) (some (⟨0,[],0,[],[],[]⟩,a.2.1,a.2.2.1,()))) (fk (fd (some (⟨0,[],0,[],[],[]⟩,a.2.1,a.2.2.1,()))) (some (⟨0,[],0,[],[],[]⟩,a.2.1,a.2.2.1,()))))else(zbr true [125] ⟨a.1,false⟩).bind λi=>(match i with| .inl b=>(zT b.2.1.t 0).bind λj=>if(j.Kind !=0)=true then(zaU (zk b.2.1)).bind λc=>if((c.1).isNil)=true then some (⟨41,[],0,[],[],b.1⟩,a.2.1,a.2.2.1,())else(zq8 45 c.1).bind λe=>if e.2=true then some (⟨0,[],0,[],[],[]⟩,e.1,80,())else zEP c.1 λ_=>none else(zez ⟨41,[],0,[],[],b.1⟩).bind λk=>if(decide (k.1>64))=true then if((zaf.nil).isNil)=true then some (⟨0,[],0,[],[],[]⟩,0,31,())else(zq8 45 zaf.nil).bind λf=>if f.2=true then some (⟨0,[],0,[],[],[]⟩,f.1,80,())else zEP zaf.nil λ_=>none else if((zaf.nil).isNil)=true then some (⟨41,[],0,[],[],b.1⟩,0,0,())else(zq8 45 zaf.nil).bind λg=>if g.2=true then some (⟨0,[],0,[],[],[]⟩,g.1,80,())else zEP zaf.nil λ_=>none| .inr d=>if((d.1).isNil)=true then some (⟨0,[],0,[],[],[]⟩,a.2.1,a.2.2.1,())else(zq8 45 d.1).bind λh=>if h.2=true then some (⟨0,[],0,[],[],[]⟩,h.1,80,())else zEP d.1 λ_=>none)
def zCU:List zO:=[⟨false,.tup [.st 25,.int .i64,.int .i64],[]⟩]
def zCN:=callee Y [] zJZ zCU (λz=>zbE z.1)
theorem zst:K8 9 zCN:=
 zU3 (body:=(Tryz.f9.body).getD .skip) (gfn:=Tryz.f19) (T:=[(18,(ztM)),(20,(zgR (zl Lp.big))),(21,(zfD)),(22,(zoN (zds Lp.big)))]) [[1,2,2,2],[2,2,2,2]] Tryz.func9 (by kernel_rfl) ⟨⟨_,Tryz.func9,by kernel_rfl,rfl⟩⟩ Tryz.func19 ⟨⟨_,Tryz.func19,by kernel_rfl,rfl⟩⟩ hsz ((.cons zHf (.cons zvl (.cons za2 (.cons zz2 .nil)))):zcD hY Tryz.prog zar [(18,(ztM)),(20,(zgR (zl Lp.big))),(21,(zfD)),(22,(zoN (zds Lp.big)))]) (λ_ _ hle h=>h.mono hle) (by kernel_rfl)
  (λz=>by kernel_rfl)
def zh5:Option (Bool×Unit):=(zbE [97,32,61,32,98,10,43,43,99]).bind λb=>(zbE [114,101,116,117,114,110,10,97]).bind λa=>(zbE [49,32,61,32,50]).bind λc=>let d:=((b.2.2.1==0)&&(((b.1.L.length:Nat):Int)==2));let e:=((d&&(a.2.2.1==0))&&(((a.1.L.length:Nat):Int)==2));(if e=true then(zT a.1.L 0).bind λf=>let g:=((f.L.length:Nat):Int);some (g==0)else some false).bind λh=>let i:=((h&&(c.2.1==2))&&(c.2.2.1==80));some (i,())
def zxf:Shape:=⟨[],[]⟩
def zwp:=callee Y [] zxf zyu (λz=>zh5)
theorem zvF:K8 11 (zwp):=f8 zEo Tryz.func11 (.cons zst .nil) trivial
def zL(n:zg):Option (zc7×Bool×Unit):=if(n.Kind==22)=true then some (⟨[],0,false,false,[100,42,100]⟩,true,())else if(n.Kind==23)=true then let b:=(if 1< ((n.L.length:Nat):Int)then 1 else((n.L.length:Nat):Int));(zaQ [101] 0 b).bind λc=>some (⟨[110],0,false,false,c⟩,true,())else if(n.Kind==24)=true then some (⟨[],0,false,false,[101]⟩,true,())else if(n.Kind==34)=true then some (⟨[],0,false,false,[101]⟩,true,())else if(n.Kind==25)=true then some (⟨[],0,false,false,[42,115]⟩,true,())else if(n.Kind==26)=true then let a:=(if 2>((n.L.length:Nat):Int)then 2 else((n.L.length:Nat):Int));let d:=(if 3<a then 3 else a);(zaQ [101,98,98] 0 d).bind λe=>some (⟨[],0,false,false,e⟩,true,())else if(n.Kind==27)=true then some (⟨[],0,false,false,[101,98]⟩,true,())else if(n.Kind==28)=true then some (⟨[],0,false,false,[98,101]⟩,true,())else if(n.Kind==29)=true then some (⟨[],0,false,false,[118,102,102,98]⟩,true,())else if(n.Kind==30)=true then some (⟨[],0,false,false,[119,101,98]⟩,true,())else if(n.Kind==31)=true then some (⟨[109],0,false,false,[]⟩,true,())else if(n.Kind==32)=true then some (⟨[109],0,false,false,[]⟩,true,())else if(n.Kind==33)=true then let f:=(if 1< ((n.L.length:Nat):Int)then 1 else((n.L.length:Nat):Int));(zaQ [101] 0 f).bind λg=>some (⟨[],0,false,false,g⟩,true,())else if(n.Kind==35)=true then some (⟨[99],0,false,false,[98,99,99]⟩,true,())else if(n.Kind==36)=true then some (⟨[],0,false,false,[101,42,107]⟩,true,())else if(n.Kind==37)=true then some (⟨[],0,false,false,[102,42,115]⟩,true,())else if(n.Kind==38)=true then some (⟨[110],0,false,false,[115]⟩,true,())else if(n.Kind==39)=true then some (⟨[110],0,false,true,[42,120]⟩,true,())else if(n.Kind==41)=true then some (⟨[],0,false,false,[42,120]⟩,true,())else some (⟨[],0,false,false,[]⟩,false,())
def zss:List zO:=[⟨false,.tup [.st 93,.bool],[]⟩]
def zB4:=callee Y [] zDd zss (λz=>zL z.1)
def zB2:zab Y (zU Y zss):= .nil
theorem zA4:K8 116 (zB4):=f8 zB2 Tryz.func116 .nil trivial
def zN(a:zc7):Option (zc7×Bool×Unit):=some ((zOU a),true,())
def zaE(n:zg):Option (zc7×Bool×Unit):=if(n.Kind==1)=true then zN ⟨[],9007199254740991,false,false,[]⟩else if(n.Kind==2)=true then zN ⟨[],0,true,false,[]⟩else if(n.Kind==3)=true then zN ⟨[110],0,false,false,[]⟩else if(n.Kind==4)=true then zN ⟨[],0,false,false,[]⟩else if(n.Kind==5)=true then zN ⟨[],0,false,false,[]⟩else if(n.Kind==40)=true then zN ⟨[],0,false,false,[]⟩else if(n.Kind==42)=true then zN ⟨[],0,false,false,[]⟩else if(n.Kind==6)=true then zN ⟨[],1,false,false,[]⟩else if(n.Kind==7)=true then zN ⟨[],0,false,false,[42,101]⟩else if(n.Kind==8)=true then zN ⟨[],0,false,false,[42,112]⟩else if(n.Kind==9)=true then zN ⟨[],0,true,false,[101]⟩else if(n.Kind==10)=true then zN ⟨[109],0,false,true,[42,120]⟩else if(n.Kind==11)=true then zN ⟨[105],0,false,false,[101]⟩else if(n.Kind==12)=true then zN ⟨[],0,false,false,[101,101]⟩else if(n.Kind==21)=true then zN ⟨[],0,false,false,[101,101]⟩else if(n.Kind==13)=true then zN ⟨[],0,false,false,[101,42,101]⟩else if(n.Kind==14)=true then zN ⟨[],0,false,false,[101,42,101]⟩else if(n.Kind==15)=true then zN ⟨[32,45,32,43,32,33,32,116,121,112,101,111,102,32,100,101,108,101,116,101,32,118,111,105,100,32],0,false,false,[101]⟩else if(n.Kind==16)=true then zN ⟨[32,43,43,32,45,45,32],1,false,false,[116]⟩else if(n.Kind==17)=true then zN ⟨[32,43,32,45,32,42,32,47,32,37,32,60,32,62,32,60,61,32,62,61,32,61,61,32,33,61,32,61,61,61,32,33,61,61,32,105,110,32,105,110,115,116,97,110,99,101,111,102,32],0,false,false,[101,101]⟩else if(n.Kind==18)=true then zN ⟨[32,38,38,32,124,124,32],0,false,false,[101,101]⟩else if(n.Kind==19)=true then zN ⟨[],0,false,false,[101,101,101]⟩else if(n.Kind==20)=true then zN ⟨[32,61,32,43,61,32,45,61,32,42,61,32,47,61,32,37,61,32],0,false,false,[116,101]⟩else(zL (zC n)).bind λa=>some ((zOU a.1),a.2.1,())
def zNs:=callee Y [] zDd zss (λz=>zaE z.1)
def zNK:zab Y (zU Y zss):=(.join [[1,2,2],[2,2,2]] ⟨[(2,.ptr 0 0)],[.whole 93 93]⟩ (λz=>zN z.1) .nil)
theorem zLL:K8 55 (zNs):=f8 zNK Tryz.func55 (.cons zA4 .nil) ⟨λz=>by kernel_rfl,⟨⟩⟩
def zjI(s:Str):Option (Bool×Unit):=let a:=((!(s==[]))&&(decide (((s.length:Nat):Int)<=32)));if a=true then(za3 s 0).bind λb=>(ziR b).bind λc=>if c.1=true then(zo1 s).bind λd=>let e:=(d.1==((s.length:Nat):Int));some (e,())else some (false,())else some (false,())
def zDb:=callee Y [] zJZ zyu (λz=>zjI z.1)
theorem zrC:K8 117 (zDb):=f8 zEo Tryz.func117 (.cons znz (.cons zro .nil)) trivial
def zil(s:Str):Option (Bool×Unit):=(zjI s).bind λa=>if a.1=true then(znG s).bind λb=>some ((!b.1),())else some (false,())
def zFZ:=callee Y [] zJZ zyu (λz=>zil z.1)
theorem zu1:K8 60 (zFZ):=f8 zEo Tryz.func60 (.cons zrC (.cons ztv .nil)) trivial
def zfW(e:Str)(s:Str):Option (Bool×Unit):=if(!(s==[]))=true then(strings_Contains s [32]).bind λa=>if(!a.1)=true then(zkb [32] s).bind λb=>(zkb b [32]).bind λc=>(strings_Contains e c).bind λd=>some (d.1,())else some (false,())else some (false,())
def zIh:=callee Y [] zn5 zyu (u2 zfW)
theorem zxX:K8 118 (zIh):=f8 zEo Tryz.func118 (.cons zhw .nil) trivial
def zqX(n:zg)(a:Str):Option (Bool×Unit):=if(a==[])=true then some ((n.Name==[]),())else if(a==[110])=true then(zil n.Name).bind λb=>some (b.1,())else if(a==[109])=true then if(n.Name==[])=true then some (true,())else(zil n.Name).bind λc=>some (c.1,())else if(a==[105])=true then(zjI n.Name).bind λd=>some (d.1,())else if(a==[99])=true then let e:=(decide (((n.L.length:Nat):Int)>1));(if e=true then(zT n.L 1).bind λf=>some (f.Kind==25)else some false).bind λg=>if g=true then(zil n.Name).bind λh=>some (h.1,())else some ((n.Name==[]),())else(zfW a n.Name).bind λi=>some (i.1,())
def zH3:Shape:=⟨[(0,.st 25),(1,.str)],[]⟩
def zHI:=callee Y [] zH3 zyu (u2 zqX)
theorem zGq:K8 56 (zHI):=f8 zEo Tryz.func56 (.cons zu1 (.cons zrC (.cons zxX .nil))) trivial
def zlH(u:Str):Option (Bool×Unit):=let a:=(IntKind.wrap .i64 ((BitVec.ofInt 64 ((u.length:Nat):Int)&&&BitVec.ofInt 64 1).toNat));some ((a==0),())
def zF8:=callee Y [] zJZ zyu (λz=>zlH z.1)
theorem zuL:K8 57 (zF8):=f8 zEo Tryz.func57 .nil trivial
def zqR(s:Str):Option (Bool×Unit):=(zil s).bind λa=>some ((!a.1),())
def zHF:=callee Y [] zJZ zyu (λz=>zqR z.1)
theorem zF3:K8 59 (zHF):=f8 zEo Tryz.func59 (.cons zu1 .nil) trivial
def zdi:(List Str)×Int×Int×Unit->Option (((List Str)×Int×Int×Unit)⊕(Int×Unit))| (b,c,a,())=>if(decide (a<c))=true then(zT b a).bind λd=>(zqR d).bind λe=>if e.1=true then some (.inr (a,()))else let f:=(IntKind.wrap .i64 (a+1));some (.inl (b,c,f,()))else some (.inr ((-1),()))
def slices_IndexFunc(s:List Str):Option (Int×Unit):=Lp.loop zdi (s,((s.length:Nat):Int),0,())
def zAf:Shape:=⟨[(0,.sl 9),(1,.fn 59 [])],[]⟩
def zyV:=callee Y [] zAf zy7 (λz=>slices_IndexFunc z.1)
def zzW:zab Y (zU Y zy7):=(.loop [[7,5,2,1,2],[8,5,2,1,2],[6,2,1,2],[2,2]] ⟨[(0,.sl 9),(1,.fn 59 []),(7,.int .i64),(8,.int .i64)],[]⟩ (zdi) .nil .nil)
theorem zx0:K8 119 (zyV):=f8 zzW Tryz.func119 (.cons zF3 .nil) ⟨λz=>by kernel_rfl,trivial,trivial⟩
def slices_ContainsFunc(s:List Str):Option (Bool×Unit):=(slices_IndexFunc s).bind λa=>some ((decide (a.1>=0)),())
def zuV:=callee Y [] zAf zyu (λz=>slices_ContainsFunc z.1)
theorem zuG:K8 58 (zuV):=f8 zEo Tryz.func58 (.cons zx0 .nil) trivial
def zd4(t:Str)(a:Str):Option (Int):=if t.length<4294967281 then some (Lib.index t a)else none
theorem zd4.ok(t:Str)(sub:Str)(r:Int)(h0:zd4 t sub=some r)(w0:World)(F0:Heap)(hv:F0.Sub w0)(hG:zar F0)(hg:SV.zaH F0 [.v (.string ⟨⟨t⟩⟩),.v (.string ⟨⟨sub⟩⟩)])(ρ:Nat->Nat):
  Calls Tryz.prog 127 (SV.zal ρ [.v (.string ⟨⟨t⟩⟩),.v (.string ⟨⟨sub⟩⟩)]).toArray w0 (zdt w0 F0 λs=>s= .v (.int .i64 r)):=by
 unfold zd4 at h0;split at h0
 ·rename_i hc;cases h0;obtain⟨m,hm⟩:=hG.maxLen;refine(Tryz.stringslite_Index ⟨⟨t⟩⟩ ⟨⟨sub⟩⟩ m w0 hc (zeP hv hm)).mono λe w' h=>?_
  exact zdt.pure (s:= .v _) hv h.1 h.2 trivial rfl rfl
 ·cases h0
def stringslite_Index(t:Str)(a:Str):Option (Int×Unit):=zjf (λr=>(r,())) (zd4 t a)
def zyB:=callee Y [] zn5 zy7 (λz=>stringslite_Index z.1 z.2.1)
theorem zw0:K8 127 zyB:=
 COk.ext (l:=zn5.l) ⟨⟨_,Tryz.func127,by kernel_rfl,rfl⟩⟩ ⟨rfl,rfl⟩ rfl λz zo h=>⟨_,_,rfl,rfl,λw F hG hv=>by
  obtain⟨r,hr,rfl⟩:=zgX h;exact zd4.ok z.1 z.2.1 r hr w F hv hG (by simp[SV.zaH,SV.good]) (λ_=>0)⟩
def stringslite_Cut(s:Str)(b:Str):Option (Str×Str×Bool×Unit):=(stringslite_Index s b).bind λa=>if(decide (a.1>=0))=true then(zaQ s 0 a.1).bind λc=>let d:=(IntKind.wrap .i64 (a.1+((b.length:Nat):Int)));(zaQ s d ((s.length:Nat):Int)).bind λe=>some (c,e,true,())else some (s,[],false,())
def zp7:List zO:=[⟨false,.tup [.str,.str,.bool],[]⟩]
def zBg:=callee Y [] zn5 zp7 (u2 stringslite_Cut)
def zA6:zab Y (zU Y zp7):= .nil
theorem zAx:K8 120 (zBg):=f8 zA6 Tryz.func120 (.cons zw0 .nil) trivial
def strings_Cut(s:Str)(b:Str):Option (Str×Str×Bool×Unit):=(stringslite_Cut s b).bind λa=>some (a.1,a.2.1,a.2.2.1,())
def zGh:=callee Y [] zn5 zp7 (u2 strings_Cut)
theorem zE2:K8 61 (zGh):=f8 zA6 Tryz.func61 (.cons zAx .nil) trivial
structure zav where
 zbl:zg->Option (Bool×Unit)
 zi2:zg->Int->Option (Bool×Unit)
def zDg(b:zav):=callee Y [] zDd zyu (λz=>b.zbl z.1)
def zBv:Shape:=⟨[(0,.st 25),(1,.int .u8)],[]⟩
def zJ8(b:zav):=callee Y [] zBv zyu (u2 b.zi2)
structure znu (g_:zav):Prop where
 zbl:COk hY Tryz.prog zar 31 (zDg g_)
 zi2:COk hY Tryz.prog zar 62 (zJ8 g_)
def zit(y:zav):Str×Str×Int×(List zg)×Int×Int×zg×Unit->Option ((Str×Str×Int×(List zg)×Int×Int×zg×Unit)⊕(Bool×Unit))| (b,c,f,g,h,a,d,())=>if(decide (a<h))=true then(zT g a).bind λe=>(zkb b c).bind λj=>(zkb b c).bind λk=>let i:=(IntKind.wrap .i64 (((k.length:Nat):Int) -1));let l:=(if i<a then i else a);(za3 j l).bind λm=>(y.zi2 (zC e) m).bind λn=>if(!n.1)=true then some (.inr (false,()))else let o:=((d.Kind==35)&&(e.Kind==42));(if o=true then some true else let p:=((d.Kind==36)&&(e.Kind==37));(if p=true then(zT e.L 0).bind λq=>some (q.Kind==42)else some false).bind λr=>some r).bind λs=>if s=true then let t:=(IntKind.wrap .i64 (f+1));let u:=(IntKind.wrap .i64 (a+1));some (.inl (b,c,t,g,h,u,(zC d),()))else let v:=(IntKind.wrap .i64 (a+1));some (.inl (b,c,f,g,h,v,(zC d),()))else some (.inr ((decide (f<2)),()))
def zno(o:zav)(t:zg):Option (Bool×Unit):=(zaE (zC t)).bind λa=>if(!a.2.1)=true then some (false,())else(zqX (zC t) a.1.name).bind λc=>let d:=((!c.1)||(decide (t.Num<0)));let e:=(d||(decide (t.Num>a.1.num)));if e=true then some (false,())else(zlH t.Text).bind λf=>let g:=((!f.1)||((!(t.Text==[]))&&(!a.1.text)));let h:=(g||((decide (((t.Names.length:Nat):Int)>0))&&(!a.1.names)));if h=true then some (false,())else(slices_ContainsFunc t.Names).bind λi=>if i.1=true then some (false,())else(strings_Cut a.1.l [42]).bind λb=>let j:=((b.1.length:Nat):Int);let k:=(decide (((t.L.length:Nat):Int)<j));let m:=(k||((!b.2.2.1)&&(decide (((t.L.length:Nat):Int)>((b.1.length:Nat):Int)))));if m=true then some (false,())else Lp.loop (zit o) (b.1,b.2.1,0,t.L,((t.L.length:Nat):Int),0,(zC t),())
def zLl(b:zav):=callee Y [] zDd zyu (λz=>zno b z.1)
def zL8(b:zav):zab Y (zU Y zyu):=(.loop [[7,5,2,1,2,2,2,2,2,2,2],[8,5,2,1,2,2,2,2,2,2,2],[6,2,1,2,2,2,2,2,2,2],[2,2,2,2,2,2,2,2]] ⟨[(1,.ptr 0 0),(5,.str),(6,.str),(8,.int .i64),(94,.sl 25),(95,.int .i64),(96,.int .i64)],[.whole 25 25]⟩ (zit b) .nil .nil)
theorem zGe(b:zav)(d:znu b):K8 31 (zLl b):=f8 (zL8 b) Tryz.func31 (.cons zLL (.cons zGq (.cons zuL (.cons zuG (.cons zE2 (.cons d.zi2 .nil)))))) ⟨λz=>by kernel_rfl,trivial,trivial⟩
def zgd(i:zav)(b:Int)(a:Int)(c:zg):Option (Bool×Unit):=let d:=((decide (a>=22))&&(decide (a<=40)));let e:=((d&&(a !=23))&&(a !=37));let f:=(e&&((a !=39)||(b==120)));if f=true then(i.zbl (zC c)).bind λg=>some (g.1,())else some (false,())
def zpV(c:zav)(d:Int)(e:Int)(f:Bool)(g:Int)(a:zg):Option (Bool×Unit):=if(g==120)=true then zgd c d e (zC a)else if f=true then(c.zbl (zC a)).bind λh=>some (h.1,())else some (false,())
def zpQ(f:zav)(a:Int)(b:Int)(g:Bool)(c:Int)(d:zg):Option (Bool×Unit):=if(c==115)=true then zgd f a b (zC d)else zpV f a b g c (zC d)
def zpT(e:zav)(f:Int)(a:Int)(g:Bool)(b:Int)(c:zg):Option (Bool×Unit):=if(b==107)=true then if(a==37)=true then(e.zbl (zC c)).bind λh=>some (h.1,())else some (false,())else zpQ e f a g b (zC c)
def zjG(k:zav)(b:Int)(a:zg):Option (Bool×Unit):=(zfk (zC a)).bind λc=>(if c.1=true then some true else let d:=((b==22)&&(((a.L.length:Nat):Int)==1));(if d=true then(zT a.L 0).bind λe=>let f:=((e.L.length:Nat):Int);some (f==0)else some false).bind λg=>some g).bind λh=>if h=true then(k.zbl (zC a)).bind λi=>some (i.1,())else some (false,())
def zpY(e:zav)(f:Int)(a:Int)(g:Bool)(b:Int)(c:zg):Option (Bool×Unit):=if(b==119)=true then zjG e a (zC c)else zpT e f a g b (zC c)
def zp4(e:zav)(f:Int)(a:Int)(g:Bool)(h:Bool)(b:Int)(c:zg):Option (Bool×Unit):=if(b==118)=true then let i:=(g||(a==42));if(i||(a==22))=true then(e.zbl (zC c)).bind λj=>some (j.1,())else some (false,())else zpY e f a h b (zC c)
def zsl(e:zav)(f:Int)(a:Int)(g:Bool)(h:Bool)(b:Int)(c:zg):Option (Bool×Unit):=if(b==100)=true then if(a==23)=true then(e.zbl (zC c)).bind λi=>some (i.1,())else some (false,())else zp4 e f a g h b (zC c)
def zrM(e:zav)(f:Int)(a:Int)(g:Bool)(h:Bool)(b:Int)(c:zg):Option (Bool×Unit):=if(b==112)=true then if(a==9)=true then(e.zbl (zC c)).bind λi=>some (i.1,())else some (false,())else zsl e f a g h b (zC c)
def zr3(e:zav)(f:Int)(a:Int)(g:Bool)(h:Bool)(b:Int)(c:zg):Option (Bool×Unit):=if(b==99)=true then let i:=((a==25)||(a==42));if i=true then(e.zbl (zC c)).bind λj=>some (j.1,())else some (false,())else zrM e f a g h b (zC c)
def zrq(e:zav)(f:Int)(a:Int)(g:Bool)(h:Bool)(b:Int)(c:zg):Option (Bool×Unit):=if(b==98)=true then if(a==25)=true then(e.zbl (zC c)).bind λi=>some (i.1,())else some (false,())else zr3 e f a g h b (zC c)
def zr0(f:zav)(g:Int)(a:Int)(b:Bool)(h:Bool)(c:Int)(d:zg):Option (Bool×Unit):=if(c==102)=true then let i:=(b||(a==42));if i=true then(f.zbl (zC d)).bind λj=>some (j.1,())else some (false,())else zrq f g a b h c (zC d)
def zrr(d:zav)(e:Int)(f:Int)(g:Bool)(h:Bool)(b:Int)(a:zg):Option (Bool×Unit):=if(b==116)=true then(zfk (zC a)).bind λi=>if i.1=true then(d.zbl (zC a)).bind λj=>some (j.1,())else some (false,())else zr0 d e f g h b (zC a)
def zrv(e:zav)(f:Int)(g:Int)(a:Bool)(h:Bool)(b:Int)(c:zg):Option (Bool×Unit):=if(b==101)=true then if a=true then(e.zbl (zC c)).bind λi=>some (i.1,())else some (false,())else zrr e f g a h b (zC c)
def zrS(g:zav)(a:Int)(b:Int)(c:Bool)(d:Bool)(e:zg):Option (Bool×Unit):=zrv g a b c d a (zC e)
def ziU(f:zav)(a:Int)(b:Int)(c:Bool)(d:zg):Option (Bool×Unit):=zrS f a b c false (zC d)
def zjO(c:zav)(n:zg)(b:Int):Option (Bool×Unit):=if(decide (n.Kind>=1))=true then if(decide (n.Kind<=21))=true then ziU c b n.Kind (n.Kind !=9) (zC n)else ziU c b n.Kind false (zC n)else ziU c b n.Kind false (zC n)
def zJV(b:zav):=callee Y [] zBv zyu (u2 (zjO b))
def zKd(b:zav):zab Y (zU Y zyu):=(.join [[1,2,2],[2,2,2]] ⟨[(1,.int .u8),(2,.ptr 0 0),(5,.int .i64),(6,.bool)],[.whole 25 25]⟩ (u4 (ziU b)) (.join [[1,1,2,2,2],[2,1,2,2,2],[2,2,2,2]] ⟨[(1,.int .u8),(2,.ptr 0 0),(5,.int .i64),(6,.bool),(7,.bool)],[.whole 25 25]⟩ (u5 (zrS b)) (.join [[1,5,2,1,2,2,2],[2,5,2,1,2,2,2],[6,2,1,2,2,2],[2,2,2,2]] ⟨[(1,.int .u8),(2,.ptr 0 0),(5,.int .i64),(6,.bool),(7,.bool),(23,.int .u8)],[.whole 25 25]⟩ (u6 (zrv b)) (.join [[1,4,2,5,2,1,2,2,2],[2,4,2,5,2,1,2,2,2],[6,2,1,2,2,2],[2,2,2,2]] ⟨[(1,.int .u8),(2,.ptr 0 0),(5,.int .i64),(6,.bool),(7,.bool),(23,.int .u8)],[.whole 25 25]⟩ (u6 (zrr b)) (.join [[1,4,2,4,2,5,2,1,2,2,2],[2,4,2,4,2,5,2,1,2,2,2],[6,2,1,2,2,2],[2,2,2,2]] ⟨[(1,.int .u8),(2,.ptr 0 0),(5,.int .i64),(6,.bool),(7,.bool),(23,.int .u8)],[.whole 25 25]⟩ (u6 (zr0 b)) (.join [[1,4,2,4,2,4,2,5,2,1,2,2,2],[2,4,2,4,2,4,2,5,2,1,2,2,2],[6,2,1,2,2,2],[2,2,2,2]] ⟨[(1,.int .u8),(2,.ptr 0 0),(5,.int .i64),(6,.bool),(7,.bool),(23,.int .u8)],[.whole 25 25]⟩ (u6 (zrq b)) (.join [[1,4,2,4,2,4,2,4,2,5,2,1,2,2,2],[2,4,2,4,2,4,2,4,2,5,2,1,2,2,2],[6,2,1,2,2,2],[2,2,2,2]] ⟨[(1,.int .u8),(2,.ptr 0 0),(5,.int .i64),(6,.bool),(7,.bool),(23,.int .u8)],[.whole 25 25]⟩ (u6 (zr3 b)) (.join [[1,4,2,4,2,4,2,4,2,4,2,5,2,1,2,2,2],[2,4,2,4,2,4,2,4,2,4,2,5,2,1,2,2,2],[6,2,1,2,2,2],[2,2,2,2]] ⟨[(1,.int .u8),(2,.ptr 0 0),(5,.int .i64),(6,.bool),(7,.bool),(23,.int .u8)],[.whole 25 25]⟩ (u6 (zrM b)) (.join [[1,4,2,4,2,4,2,4,2,4,2,4,2,5,2,1,2,2,2],[2,4,2,4,2,4,2,4,2,4,2,4,2,5,2,1,2,2,2],[6,2,1,2,2,2],[2,2,2,2]] ⟨[(1,.int .u8),(2,.ptr 0 0),(5,.int .i64),(6,.bool),(7,.bool),(23,.int .u8)],[.whole 25 25]⟩ (u6 (zsl b)) (.join [[1,4,2,4,2,4,2,4,2,4,2,4,2,4,2,5,2,1,2,2,2],[2,4,2,4,2,4,2,4,2,4,2,4,2,4,2,5,2,1,2,2,2],[6,2,1,2,2,2],[2,2,2,2]] ⟨[(1,.int .u8),(2,.ptr 0 0),(5,.int .i64),(6,.bool),(7,.bool),(23,.int .u8)],[.whole 25 25]⟩ (u6 (zp4 b)) (.join [[1,4,2,4,2,4,2,4,2,4,2,4,2,4,2,4,2,5,2,1,2,2,2],[2,4,2,4,2,4,2,4,2,4,2,4,2,4,2,4,2,5,2,1,2,2,2],[6,2,1,2,2,2],[2,2,2,2]] ⟨[(1,.int .u8),(2,.ptr 0 0),(5,.int .i64),(7,.bool),(23,.int .u8)],[.whole 25 25]⟩ (u5 (zpY b)) (.join [[3,2,4,2,4,2,4,2,4,2,4,2,4,2,4,2,4,2,5,2,1,2,2,2],[6,2,1,2,2,2],[2,2,2,2]] ⟨[(2,.ptr 0 0),(5,.int .i64)],[.whole 25 25]⟩ (u2 (zjG b)) (.join [[1,4,2,4,2,4,2,4,2,4,2,4,2,4,2,4,2,4,2,5,2,1,2,2,2],[2,4,2,4,2,4,2,4,2,4,2,4,2,4,2,4,2,4,2,5,2,1,2,2,2],[6,2,1,2,2,2],[2,2,2,2]] ⟨[(1,.int .u8),(2,.ptr 0 0),(5,.int .i64),(7,.bool),(23,.int .u8)],[.whole 25 25]⟩ (u5 (zpT b)) (.join [[1,1,4,2,4,2,4,2,4,2,4,2,4,2,4,2,4,2,4,2,4,2,5,2,1,2,2,2],[2,1,4,2,4,2,4,2,4,2,4,2,4,2,4,2,4,2,4,2,4,2,5,2,1,2,2,2],[2,4,2,4,2,4,2,4,2,4,2,4,2,4,2,4,2,4,2,4,2,5,2,1,2,2,2],[6,2,1,2,2,2],[2,2,2,2]] ⟨[(1,.int .u8),(2,.ptr 0 0),(5,.int .i64),(7,.bool),(23,.int .u8)],[.whole 25 25]⟩ (u5 (zpQ b)) (.join [[4,2,1,4,2,4,2,4,2,4,2,4,2,4,2,4,2,4,2,4,2,4,2,5,2,1,2,2,2],[2,4,2,4,2,4,2,4,2,4,2,4,2,4,2,4,2,4,2,4,2,5,2,1,2,2,2],[6,2,1,2,2,2],[2,2,2,2]] ⟨[(1,.int .u8),(2,.ptr 0 0),(5,.int .i64),(7,.bool),(23,.int .u8)],[.whole 25 25]⟩ (u5 (zpV b)) (.join [[3,2,4,2,4,2,4,2,4,2,4,2,4,2,4,2,4,2,4,2,4,2,5,2,1,2,2,2],[6,2,1,2,2,2],[2,2,2,2]] ⟨[(1,.int .u8),(2,.ptr 0 0),(5,.int .i64)],[.whole 25 25]⟩ (u3 (zgd b)) .nil))))))))))))))))
theorem zEK(b:zav)(d:znu b):K8 62 (zJV b):=f8 (zKd b) Tryz.func62 (.cons d.zbl (.cons zmf .nil)) ⟨λz=>by kernel_rfl,⟨λz=>by kernel_rfl,⟨λz=>by kernel_rfl,⟨λz=>by kernel_rfl,⟨λz=>by kernel_rfl,⟨λz=>by kernel_rfl,⟨λz=>by kernel_rfl,⟨λz=>by kernel_rfl,⟨λz=>by kernel_rfl,⟨λz=>by kernel_rfl,⟨λz=>by kernel_rfl,⟨λz=>by kernel_rfl,⟨λz=>by kernel_rfl,⟨λz=>by kernel_rfl,⟨λz=>by kernel_rfl,⟨λz=>by kernel_rfl,⟨⟩⟩⟩⟩⟩⟩⟩⟩⟩⟩⟩⟩⟩⟩⟩⟩⟩
def zdP:Nat->zav
 |0=>⟨λ_=>none,λ_ _=>none⟩
 |n+1=>⟨zno (zdP n),zjO (zdP n)⟩
theorem zml: ∀n,znu (zdP n)
 |0=>⟨COk.none ⟨⟨_,Tryz.func31,by kernel_rfl,rfl⟩⟩,COk.none ⟨⟨_,Tryz.func62,by kernel_rfl,rfl⟩⟩⟩
 |n+1=>⟨zGe _ (zml n),zEK _ (zml n)⟩
def zbl:zg->Option (Bool×Unit):=(zdP Lp.big).zbl
theorem zJ9:K8 31 (zDg (zdP Lp.big)):=(zml Lp.big).zbl
def zi2:zg->Int->Option (Bool×Unit):=(zdP Lp.big).zi2
def zm0(n:zg):Option (Int×Unit):=if(n.Kind !=41)=true then some (70,())else(zbl (zC n)).bind λa=>if(!a.1)=true then some (70,())else(zez (zC n)).bind λb=>if(decide (b.1>64))=true then some (31,())else some (0,())
def zIg:=callee Y [] zDd zy7 (λz=>zm0 z.1)
def zIZ:zab Y (zU Y zy7):= .nil
theorem zxY:K8 17 (zIg):=f8 zIZ Tryz.func17 (.cons zJ9 (.cons zz2 .nil)) trivial
def zn(l:List Str)(c:Bool)(a:List Str):Option (Bool×(List Str)×Unit):=(room (a.length+l.length)).bind λ_=>let b:=a++l;some (c,b,())
def zA8:Shape:=⟨[(0,.ptr 0 0),(1,.sl 9)],[oc1 1,.arr 9]⟩
def zqb:List zO:=[⟨false,.tup [],[oc1 1,.arr 9]⟩]
def ziy:=callee Y [] zA8 zqb (u3 zn)
def zBf:zab Y (zU Y zqb):= .nil
theorem zaS:K8 107 (ziy):=f8 zBf Tryz.func107 .nil trivial
structure zfK where
 zb2:zg->Option (Int×Unit)
def zns(b:zfK):=callee Y [] zDd zy7 (λz=>b.zb2 z.1)
structure zp9 (g_:zfK):Prop where
 zb2:COk hY Tryz.prog zar 149 (zns g_)
def znK(f:zfK)(n:zg):Option (Int×Unit):=if(n.Kind==21)=true then some (0,())else if(n.Kind==20)=true then some (1,())else if(n.Kind==19)=true then some (2,())else if(n.Kind==18)=true then(zaQ n.Name 0 1).bind λg=>(strings_Index [38,124] g).bind λh=>let i:=(IntKind.wrap .i64 (4 -h.1));some (i,())else if(n.Kind==17)=true then(zfW [32,61,61,32,33,61,32,61,61,61,32,33,61,61,32] n.Name).bind λj=>if j.1=true then some (5,())else(zfW [32,43,32,45,32] n.Name).bind λk=>if k.1=true then some (7,())else(zfW [32,42,32,47,32,37,32] n.Name).bind λl=>if l.1=true then some (8,())else some (6,())else if(n.Kind==15)=true then some (9,())else if(n.Kind==16)=true then let m:=(IntKind.wrap .i64 (10 -n.Num));some (m,())else if(n.Kind==13)=true then some (11,())else if(n.Kind==11)=true then(zT n.L 0).bind λo=>(f.zb2 (zC o)).bind λa=>let b:=(if a.1>11 then a.1 else 11);let p:=(if b<12 then b else 12);some (p,())else if(n.Kind==12)=true then(zT n.L 0).bind λq=>(f.zb2 (zC q)).bind λc=>let d:=(if c.1>11 then c.1 else 11);let r:=(if d<12 then d else 12);some (r,())else if(n.Kind==14)=true then some (12,())else some (13,())
def zI9(b:zfK):=callee Y [] zDd zy7 (λz=>znK b z.1)
theorem zDu(b:zfK)(d:zp9 b):K8 149 (zI9 b):=f8 zIZ Tryz.func149 (.cons zse (.cons zxX (.cons d.zb2 .nil))) trivial
def zcX:Nat->zfK
 |0=>⟨λ_=>none⟩
 |n+1=>⟨znK (zcX n)⟩
theorem zps: ∀n,zp9 (zcX n)
 |0=>⟨COk.none ⟨⟨_,Tryz.func149,by kernel_rfl,rfl⟩⟩⟩
 |n+1=>⟨zDu _ (zps n)⟩
def zb2:zg->Option (Int×Unit):=(zcX Lp.big).zb2
theorem zxQ:K8 149 (zns (zcX Lp.big)):=(zps Lp.big).zb2
def zpA(u:Str):Option (Int×Unit):=let a:=(IntKind.wrap .i64 (Int.tdiv ((u.length:Nat):Int) 2));some (a,())
def zJA:=callee Y [] zJZ zy7 (λz=>zpA z.1)
theorem zz7:K8 194 (zJA):=f8 zIZ Tryz.func194 .nil trivial
def zrI(u:Str)(i:Int):Option (Int×Unit):=if(decide (i<0))=true then some ((-1),())else(zpA u).bind λa=>if(decide (i>=a.1))=true then some ((-1),())else(za3 u (IntKind.wrap .i64 (2*i))).bind λb=>let c:=(IntKind.wrap .i64 ((IntKind.wrap .i64 b)*2^8));let d:=(IntKind.wrap .i64 ((IntKind.wrap .i64 (2*i))+1));(za3 u d).bind λe=>let f:=(IntKind.wrap .i64 ((BitVec.ofInt 64 c|||BitVec.ofInt 64 (IntKind.wrap .i64 e)).toNat));some (f,())
def zLQ:Shape:=⟨[(0,.str),(1,.int .i64)],[]⟩
def zLT:=callee Y [] zLQ zy7 (u2 zrI)
theorem zJS:K8 195 (zLT):=f8 zIZ Tryz.func195 (.cons zz7 .nil) trivial
def zoj(d:Str)(e:Int)(f:Int)(g:Int)(a:List UInt8):zEx:=let h:=(IntKind.wrap .i64 ((BitVec.ofInt 64 e|||BitVec.ofInt 64 65536).toNat));(zcI h 16).bind λb=>(zaQ b.1 1 ((b.1.length:Nat):Int)).bind λi=>(zkb [92,117] i).bind λc=>(room (a.length+c.length)).bind λ_=>let j:=a++c;let k:=(IntKind.wrap .i64 (g+1));some (.inl (d,f,k,j,()))
def zoD(c:Str)(a:Int)(d:Int)(e:Int)(b:List UInt8):zEx:=let g:=((decide (a<32))||(decide (a>126)));if g=true then zoj c a d e b else(toB (IntKind.wrap .u8 a)).bind λf=>(room (b.length+([f]:List UInt8).length)).bind λ_=>let h:=b++([f]:List UInt8);let i:=(IntKind.wrap .i64 (e+1));some (.inl (c,d,i,h,()))
def ziL(b:Str)(h:Int)(c:Int)(d:Int)(e:Int)(a:List UInt8):zEx:=if(decide (c>=0))=true then(za3 [98,116,110,102,114] c).bind λi=>(toB 92).bind λf=>(toB i).bind λg=>(room (a.length+([f,g]:List UInt8).length)).bind λ_=>let j:=a++([f,g]:List UInt8);let k:=(IntKind.wrap .i64 (e+1));some (.inl (b,d,k,j,()))else zoD b h d e a
def zfL(c:Str)(a:Int)(h:Int)(d:Int)(e:Int)(b:List UInt8):zEx:=let i:=((a==34)||(a==92));if i=true then(toB 92).bind λf=>(toB (IntKind.wrap .u8 a)).bind λg=>(room (b.length+([f,g]:List UInt8).length)).bind λ_=>let j:=b++([f,g]:List UInt8);let k:=(IntKind.wrap .i64 (e+1));some (.inl (c,d,k,j,()))else ziL c a h d e b
def zgZ:Str×Int×Int×(List UInt8)×Unit->zEx| (d,e,a,b,())=>if(decide (a<e))=true then(zrI d a).bind λc=>if(decide (c.1<128))=true then(strings_IndexByte [8,9,10,12,13] (IntKind.wrap .u8 c.1)).bind λf=>zfL d c.1 f.1 e a b else zfL d c.1 (-1) e a b else(room (b.length+([(UInt8.ofNat 34)]:List UInt8).length)).bind λ_=>let g:=b++([(UInt8.ofNat 34)]:List UInt8);some (.inr (g,0,()))
def zeJ(u:Str):Option (Str×Int×Unit):=(zlH u).bind λa=>if(!a.1)=true then some ([],10,())else(zpA u).bind λb=>Lp.loop zgZ (u,b.1,0,([(UInt8.ofNat 34)]:List UInt8),())
def zxT:=callee Y [] zJZ zDm (λz=>zeJ z.1)
def zGs:zab Y (zU Y zDm):=(.loop [[7,5,2,1,2,2,2],[8,5,2,1,2,2,2],[6,2,1,2,2,2],[2,2,2,2]] ⟨[(0,.str),(4,.own 0),(14,.int .i64),(15,.int .i64)],[.arr 5]⟩ (zgZ) (.join [[1,5,2,2,2,2,5,1,2,2,7,5,2,1,2,2,2],[2,5,2,2,2,2,5,1,2,2,7,5,2,1,2,2,2],[6,2,2,2,2,5,1,2,2,7,5,2,1,2,2,2],[6,1,2,2,7,5,2,1,2,2,2],[2,2,2,7,5,2,1,2,2,2],[8,5,2,1,2,2,2],[6,2,1,2,2,2],[2,2,2,2]] ⟨[(0,.str),(4,.own 0),(6,.int .i64),(7,.int .i64),(14,.int .i64),(15,.int .i64)],[.arr 5]⟩ (u6 zfL) (.join [[1,4,2,5,2,2,2,2,5,1,2,2,7,5,2,1,2,2,2],[2,4,2,5,2,2,2,2,5,1,2,2,7,5,2,1,2,2,2],[6,2,2,2,2,5,1,2,2,7,5,2,1,2,2,2],[6,1,2,2,7,5,2,1,2,2,2],[2,2,2,7,5,2,1,2,2,2],[8,5,2,1,2,2,2],[6,2,1,2,2,2],[2,2,2,2]] ⟨[(0,.str),(4,.own 0),(6,.int .i64),(7,.int .i64),(14,.int .i64),(15,.int .i64)],[.arr 5]⟩ (u6 ziL) (.join [[1,4,2,4,2,5,2,2,2,2,5,1,2,2,7,5,2,1,2,2,2],[2,4,2,4,2,5,2,2,2,2,5,1,2,2,7,5,2,1,2,2,2],[6,2,2,2,2,5,1,2,2,7,5,2,1,2,2,2],[6,1,2,2,7,5,2,1,2,2,2],[2,2,2,7,5,2,1,2,2,2],[8,5,2,1,2,2,2],[6,2,1,2,2,2],[2,2,2,2]] ⟨[(0,.str),(4,.own 0),(6,.int .i64),(14,.int .i64),(15,.int .i64)],[.arr 5]⟩ (u5 zoD) (.join [[1,3,2,4,2,4,2,5,2,2,2,2,5,1,2,2,7,5,2,1,2,2,2],[2,3,2,4,2,4,2,5,2,2,2,2,5,1,2,2,7,5,2,1,2,2,2],[6,2,2,2,2,5,1,2,2,7,5,2,1,2,2,2],[6,1,2,2,7,5,2,1,2,2,2],[2,2,2,7,5,2,1,2,2,2],[8,5,2,1,2,2,2],[6,2,1,2,2,2],[2,2,2,2]] ⟨[(0,.str),(4,.own 0),(6,.int .i64),(14,.int .i64),(15,.int .i64)],[.arr 5]⟩ (u5 zoj) .nil)))) .nil)
theorem zuW:K8 174 (zxT):=f8 zGs Tryz.func174 (.cons zuL (.cons zz7 (.cons zJS (.cons zjh (.cons zju .nil))))) ⟨λz=>by kernel_rfl,⟨λz=>by kernel_rfl,⟨λz=>by kernel_rfl,⟨λz=>by kernel_rfl,⟨λz=>by kernel_rfl,⟨⟩⟩⟩⟩⟩,trivial⟩
def zgK(a:Bool):Option (Str):=some (Lib.formatBool a)
theorem zgK.ok(b_:Bool)(r:Str)(h0:zgK b_=some r)(w0:World)(F0:Heap)(hv:F0.Sub w0)(hG:zar F0)(hg:SV.zaH F0 [.v (.bool b_)])(ρ:Nat->Nat):
  Calls Tryz.prog 175 (SV.zal ρ [.v (.bool b_)]).toArray w0 (zdt w0 F0 λs=>s= .v (.string ⟨⟨r⟩⟩)):=by
 refine(Tryz.strconv_FormatBool b_ w0).mono λe w' h=>?_
 cases h0;exact zdt.pure (s:= .v (.string ⟨⟨_⟩⟩)) hv h.1 h.2 trivial rfl rfl
def strconv_FormatBool(a:Bool):Option (Str×Unit):=zjf (λr=>(r,())) (zgK a)
def znh:Shape:=⟨[(0,.bool)],[]⟩
def znE:=callee Y [] znh zAn (λz=>strconv_FormatBool z.1)
theorem zvM:K8 175 znE:=
 COk.ext (l:=znh.l) ⟨⟨_,Tryz.func175,by kernel_rfl,rfl⟩⟩ ⟨rfl,rfl⟩ rfl λz zo h=>⟨_,_,rfl,rfl,λw F hG hv=>by
  obtain⟨r,hr,rfl⟩:=zgX h;exact zgK.ok z.1 r hr w F hv hG (by simp[SV.zaH,SV.good]) (λ_=>0)⟩
def zhW(i:Int)(l v:List Str):Option (List Str×Unit):=zIR i l v
def zD0:Shape:=⟨[(0,.own 0),(1,.int .i64),(2,.own 1)],[.arr 9,.arr 9]⟩
def zC1:List zO:=[⟨false,.own 0,[.arr 9,.gone]⟩]
def zCI:Dn.Callee Y:=callee Y [0,2] zD0 zC1 (λz=>zhW z.1 z.2.1 z.2.2.1)
theorem zBB:K8 109 zCI:=zVX
structure zi where
 zaZ:(List zg)->Bool->(List Str)->Option (Bool×(List Str)×Unit)
 zai:zg->Bool->(List Str)->Option (Bool×(List Str)×Unit)
 za8:zg->Int->Bool->(List Str)->Option (Bool×(List Str)×Unit)
 zF:zg->Int->Bool->(List Str)->Option (Bool×(List Str)×Unit)
 zcT:Str->Str->Bool->(List Str)->zg->Option (Bool×(List Str)×zg×Unit)
 zdL:Bool->(List Str)->zg->Option (Bool×(List Str)×zg×Unit)
 zcB:zg->Bool->(List Str)->Option (Bool×(List Str)×Unit)
 zbV:Str->Str->Bool->(List Str)->zg->Option (Bool×(List Str)×zg×Unit)
 zdG:Bool->(List Str)->zg->Option (Bool×(List Str)×zg×Unit)
 zcc:(List zg)->Bool->(List Str)->Option (Bool×(List Str)×Unit)
 zcn:Str->Str->Bool->(List Str)->zg->Option (Bool×(List Str)×zg×Unit)
 zdB:Bool->(List Str)->zg->Option (Bool×(List Str)×zg×Unit)
 zbw:zg->Bool->(List Str)->Option (Bool×(List Str)×Unit)
 zcm:Str->Str->Bool->(List Str)->zg->Option (Bool×(List Str)×zg×Unit)
 zcy:Bool->(List Str)->zg->Option (Bool×(List Str)×zg×Unit)
 zcp:zg->Bool->(List Str)->Option (Bool×(List Str)×Unit)
 zbW:Str->Str->Bool->(List Str)->(List zg)->Option (Bool×(List Str)×(List zg)×Unit)
 zcs:Bool->(List Str)->(List zg)->Option (Bool×(List Str)×(List zg)×Unit)
 zbp:Str->Str->Bool->(List Str)->(List zg)->Option (Bool×(List Str)×(List zg)×Unit)
 zcr:Bool->(List Str)->(List zg)->Option (Bool×(List Str)×(List zg)×Unit)
 zck:Str->Str->Bool->(List Str)->(List zg)->Option (Bool×(List Str)×(List zg)×Unit)
 zct:Bool->(List Str)->(List zg)->Option (Bool×(List Str)×(List zg)×Unit)
 za9:Str->zg->Bool->(List Str)->Option (Bool×(List Str)×Unit)
 zcb:zg->Bool->(List Str)->Option (Bool×(List Str)×Unit)
 zdy:zg->Bool->(List Str)->Option (Bool×(List Str)×Unit)
def znZ:Shape:=⟨[(0,.ptr 0 0),(1,.sl 25)],[oc1 1,.arr 9]⟩
def znQ(b:zi):=callee Y [] znZ zqb (u3 b.zaZ)
def zpi:Shape:=⟨[(0,.ptr 0 0),(1,.st 25)],[oc1 1,.arr 9]⟩
def zzB(b:zi):=callee Y [] zpi zqb (u3 b.zai)
def znS:Shape:=⟨[(0,.ptr 0 0),(1,.st 25),(2,.int .i64)],[oc1 1,.arr 9]⟩
def zyo(b:zi):=callee Y [] znS zqb (u4 b.za8)
def zrT(b:zi):=callee Y [] znS zqb (u4 b.zF)
def zm1:Shape:=⟨[(0,.ptr 0 0),(1,.str),(2,.str),(3,.fn 151 [.ptr 2 0,.ptr 3 0])],zgg⟩
def zjj:List zO:=[⟨false,.tup [],zgg⟩]
def znc(b:zi):=callee Y [] zm1 zjj (u5 b.zcT)
def zpb:Shape:=⟨[(0,.ptr 0 0),(1,.ptr 3 0)],zz4⟩
def zk5:List zO:=[⟨false,.tup [],zz4⟩]
def zz1(b:zi):=callee Y [] zpb zk5 (u3 b.zdL)
def zo2(b:zi):=callee Y [] zpi zqb (u3 b.zcB)
def zhQ:Shape:=⟨[(0,.ptr 0 0),(1,.str),(2,.str),(3,.fn 176 [.ptr 2 0,.ptr 3 0])],zgg⟩
def zsR(b:zi):=callee Y [] zhQ zjj (u5 b.zbV)
def zwg(b:zi):=callee Y [] zpb zk5 (u3 b.zdG)
def zzl(b:zi):=callee Y [] znZ zqb (u3 b.zcc)
def zlu:Shape:=⟨[(0,.ptr 0 0),(1,.str),(2,.str),(3,.fn 178 [.ptr 2 0,.ptr 3 0])],zgg⟩
def zlp(b:zi):=callee Y [] zlu zjj (u5 b.zcn)
def zwE(b:zi):=callee Y [] zpb zk5 (u3 b.zdB)
def zlP(b:zi):=callee Y [] zpi zqb (u3 b.zbw)
def zlt:Shape:=⟨[(0,.ptr 0 0),(1,.str),(2,.str),(3,.fn 155 [.ptr 2 0,.ptr 3 0])],zgg⟩
def zlA(b:zi):=callee Y [] zlt zjj (u5 b.zcm)
def zsE(b:zi):=callee Y [] zpb zk5 (u3 b.zcy)
def zlq(b:zi):=callee Y [] zpi zqb (u3 b.zcp)
def zhP:Shape:=⟨[(0,.ptr 0 0),(1,.str),(2,.str),(3,.fn 197 [.ptr 2 0,.ptr 3 0])],zjX⟩
def zfs:List zO:=[⟨false,.tup [],zjX⟩]
def zsK(b:zi):=callee Y [] zhP zfs (u5 b.zbW)
def zkr:Shape:=⟨[(0,.ptr 0 0),(1,.ptr 3 0)],zE4⟩
def zgQ:List zO:=[⟨false,.tup [],zE4⟩]
def zqv(b:zi):=callee Y [] zkr zgQ (u3 b.zcs)
def zhH:Shape:=⟨[(0,.ptr 0 0),(1,.str),(2,.str),(3,.fn 198 [.ptr 2 0,.ptr 3 0])],zjX⟩
def zsZ(b:zi):=callee Y [] zhH zfs (u5 b.zbp)
def zqx(b:zi):=callee Y [] zkr zgQ (u3 b.zcr)
def zlr:Shape:=⟨[(0,.ptr 0 0),(1,.str),(2,.str),(3,.fn 199 [.ptr 2 0,.ptr 3 0])],zjX⟩
def zlw(b:zi):=callee Y [] zlr zfs (u5 b.zck)
def zqV(b:zi):=callee Y [] zkr zgQ (u3 b.zct)
def zpv:Shape:=⟨[(0,.ptr 0 0),(1,.str),(2,.st 25)],[oc1 1,.arr 9]⟩
def zzd(b:zi):=callee Y [] zpv zqb (u4 b.za9)
def zzN(b:zi):=callee Y [] zpi zqb (u3 b.zcb)
def zzg(b:zi):=callee Y [] zpi zqb (u3 b.zdy)
structure zS (g_:zi):Prop where
 zaZ:COk hY Tryz.prog zar 29 (znQ g_)
 zai:COk hY Tryz.prog zar 51 (zzB g_)
 za8:COk hY Tryz.prog zar 106 (zyo g_)
 zF:COk hY Tryz.prog zar 108 (zrT g_)
 zcT:COk hY Tryz.prog zar 150 (znc g_)
 zdL:COk hY Tryz.prog zar 151 (zz1 g_)
 zcB:COk hY Tryz.prog zar 152 (zo2 g_)
 zbV:COk hY Tryz.prog zar 150 (zsR g_)
 zdG:COk hY Tryz.prog zar 176 (zwg g_)
 zcc:COk hY Tryz.prog zar 177 (zzl g_)
 zcn:COk hY Tryz.prog zar 150 (zlp g_)
 zdB:COk hY Tryz.prog zar 178 (zwE g_)
 zbw:COk hY Tryz.prog zar 112 (zlP g_)
 zcm:COk hY Tryz.prog zar 150 (zlA g_)
 zcy:COk hY Tryz.prog zar 155 (zsE g_)
 zcp:COk hY Tryz.prog zar 179 (zlq g_)
 zbW:COk hY Tryz.prog zar 150 (zsK g_)
 zcs:COk hY Tryz.prog zar 197 (zqv g_)
 zbp:COk hY Tryz.prog zar 150 (zsZ g_)
 zcr:COk hY Tryz.prog zar 198 (zqx g_)
 zck:COk hY Tryz.prog zar 150 (zlw g_)
 zct:COk hY Tryz.prog zar 199 (zqV g_)
 za9:COk hY Tryz.prog zar 110 (zzd g_)
 zcb:COk hY Tryz.prog zar 111 (zzN g_)
 zdy:COk hY Tryz.prog zar 113 (zzg g_)
def zdN(j:zi):(List zg)×Int×Int×Bool×(List Str)×Unit->zCk| (b,c,a,d,e,())=>if(decide (a<c))=true then(zT b a).bind λg=>(j.zai (zC g) d e).bind λf=>let h:=(IntKind.wrap .i64 (a+1));some (.inl (b,c,h,f.1,f.2.1,()))else some (.inr (d,e,()))
def zhx(d:zi)(l:List zg)(b:Bool)(c:List Str):Option (Bool×(List Str)×Unit):=Lp.loop (zdN d) (l,((l.length:Nat):Int),0,b,c,())
def zyR(b:zi):=callee Y [] znZ zqb (u3 (zhx b))
def zyk(b:zi):zab Y (zU Y zqb):=(.loop [[7,5,2],[8,5,2],[6,2]] ⟨[(0,.ptr 0 0),(6,.sl 25),(7,.int .i64),(8,.int .i64)],[oc1 1,.arr 9]⟩ (zdN b) .nil .nil)
theorem zuh(b:zi)(d:zS b):K8 29 (zyR b):=f8 (zyk b) Tryz.func29 (.cons d.zai .nil) ⟨λz=>by kernel_rfl,trivial,trivial⟩
def zdl(g:zi)(a:List zg)(h:Str)(i:Bool)(j:List Str):Option (Bool×(List Str)×Unit):=(zn [h] i j).bind λb=>(zT a 0).bind λk=>(g.za8 (zC k) 0 b.1 b.2.1).bind λc=>(zn [[58]] c.1 c.2.1).bind λd=>(zaQ a 1 ((a.length:Nat):Int)).bind λl=>(g.zaZ l d.1 d.2.1).bind λe=>some (e.1,e.2.1,())
def zdg(i:zi)(a:List zg)(b:Bool)(c:List Str):Option (Bool×(List Str)×Unit):=(zT a 2).bind λf=>if(f.Kind==25)=true then(zn [[102,105,110,97,108,108,121]] b c).bind λd=>(zT a 2).bind λg=>(i.zai (zC g) d.1 d.2.1).bind λe=>some (e.1,e.2.1,())else some (b,c,())
def zah(b:zi)(o:zg)(c:Bool)(l:List Str):Option (Bool×(List Str)×Unit):=if(o.Kind==22)=true then(b.za8 (zC o) 0 c l).bind λg=>(zn [[59]] g.1 g.2.1).bind λh=>some (h.1,h.2.1,())else if(o.Kind==24)=true then(zT o.L 0).bind λN=>(b.zF (zC N) 0 c l).bind λd=>(zT d.2.1 ((l.length:Nat):Int)).bind λ_=>(zT d.2.1 ((l.length:Nat):Int)).bind λi=>let O:=((i==[123])||(i==[102,117,110,99,116,105,111,110]));if O=true then(zhW ((l.length:Nat):Int) d.2.1 [[40]]).bind λj=>(room (j.1.length+([[41]]:List Str).length)).bind λ_=>let P:=j.1++[[41]];(zn [[59]] d.1 P).bind λk=>some (k.1,k.2.1,())else(zn [[59]] d.1 d.2.1).bind λm=>some (m.1,m.2.1,())else if(o.Kind==25)=true then(zn [[123]] c l).bind λn=>(b.zaZ o.L n.1 n.2.1).bind λp=>(zn [[125]] p.1 p.2.1).bind λq=>some (q.1,q.2.1,())else if(o.Kind==26)=true then(zT o.L 0).bind λQ=>(b.za9 [105,102] (zC Q) c l).bind λr=>(zT o.L 1).bind λR=>(b.zai (zC R) r.1 r.2.1).bind λe=>let S:=(((o.L.length:Nat):Int)==3);if S=true then(zn [[101,108,115,101]] e.1 e.2.1).bind λs=>(zT o.L 2).bind λU=>(b.zai (zC U) s.1 s.2.1).bind λt=>some (t.1,t.2.1,())else some (e.1,e.2.1,())else if(o.Kind==27)=true then(b.zcb (zC o) c l).bind λu=>some (u.1,u.2.1,())else if(o.Kind==28)=true then(b.zcb (zC o) c l).bind λv=>some (v.1,v.2.1,())else if(o.Kind==29)=true then(b.zcb (zC o) c l).bind λx=>some (x.1,x.2.1,())else if(o.Kind==30)=true then(b.zcb (zC o) c l).bind λy=>some (y.1,y.2.1,())else if(o.Kind==35)=true then(zn [[116,114,121]] c l).bind λz=>(zT o.L 0).bind λV=>(b.zai (zC V) z.1 z.2.1).bind λf=>(zT o.L 1).bind λW=>if(W.Kind==25)=true then(zn [[99,97,116,99,104],[40],o.Name,[41]] f.1 f.2.1).bind λA=>(zT o.L 1).bind λX=>(b.zai (zC X) A.1 A.2.1).bind λB=>zdg b o.L B.1 B.2.1 else zdg b o.L f.1 f.2.1 else if(o.Kind==36)=true then(zT o.L 0).bind λZ=>(b.za9 [115,119,105,116,99,104] (zC Z) c l).bind λC=>(zn [[123]] C.1 C.2.1).bind λD=>(zaQ o.L 1 ((o.L.length:Nat):Int)).bind λaa=>(b.zaZ aa D.1 D.2.1).bind λE=>(zn [[125]] E.1 E.2.1).bind λH=>some (H.1,H.2.1,())else if(o.Kind==37)=true then(zT o.L 0).bind λab=>if(ab.Kind !=42)=true then zdl b o.L [99,97,115,101] c l else zdl b o.L [100,101,102,97,117,108,116] c l else if(o.Kind==38)=true then(zn [o.Name,[58]] c l).bind λI=>(zT o.L 0).bind λac=>(b.zai (zC ac) I.1 I.2.1).bind λJ=>some (J.1,J.2.1,())else if(o.Kind==39)=true then(b.zbw (zC o) c l).bind λK=>some (K.1,K.2.1,())else(b.zdy (zC o) c l).bind λM=>some (M.1,M.2.1,())
def zy4(b:zi):=callee Y [] zpi zqb (u3 (zah b))
def zAa(b:zi):zab Y (zU Y zqb):=(.join [[1,2,2,2,3,2,4,2,4,2,4,2,4,2,4,2,5,2,2,2],[2,2,2,2,3,2,4,2,4,2,4,2,4,2,4,2,5,2,2,2],[6,2,2,2]] ⟨[(0,.ptr 0 0),(4,.sl 25)],[oc1 1,.arr 9]⟩ (u3 (zdg b)) (.join [[1,2,2,3,2,4,2,4,2,4,2,4,2,4,2,4,2,4,2,5,2,2,2],[2,2,2,3,2,4,2,4,2,4,2,4,2,4,2,4,2,4,2,5,2,2,2],[6,2,2,2]] ⟨[(0,.ptr 0 0),(4,.sl 25),(7,.str)],[oc1 1,.arr 9]⟩ (u4 (zdl b)) .nil))
theorem zvI(d:zi)(b:zS d):K8 51 (zy4 d):=f8 (zAa d) Tryz.func51 (.cons b.za8 (.cons zaS (.cons b.zF (.cons zBB (.cons b.zaZ (.cons b.za9 (.cons b.zai (.cons b.zcb (.cons b.zbw (.cons b.zdy .nil)))))))))) ⟨λz=>by kernel_rfl,⟨λz=>by kernel_rfl,⟨⟩⟩⟩
def zi5(n:zi)(a:List zg)(b:Int)(c:Int)(d:Bool)(e:List Str)(f:zg):zCk:=let i:=((f.L.length:Nat):Int);if(decide (i>0))=true then(zn [[61]] d e).bind λg=>(zT f.L 0).bind λj=>(n.zF (zC j) 1 g.1 g.2.1).bind λh=>let k:=(IntKind.wrap .i64 (c+1));some (.inl (a,b,k,h.1,h.2.1,()))else let l:=(IntKind.wrap .i64 (c+1));some (.inl (a,b,l,d,e,()))
def ze6(i:zi)(c:List zg)(d:Int)(e:Int)(f:Bool)(g:List Str)(a:zg):zCk:=(zn [a.Name] f g).bind λb=>zi5 i c d e b.1 b.2.1 (zC a)
def zc3(i:zi):(List zg)×Int×Int×Bool×(List Str)×Unit->zCk| (b,c,a,d,e,())=>if(decide (a<c))=true then(zT b a).bind λf=>if(decide (a>0))=true then(zn [[44]] d e).bind λg=>ze6 i b c a g.1 g.2.1 (zC f)else ze6 i b c a d e (zC f)else some (.inr (d,e,()))
def zhD(e:zi)(n:zg)(f:Int)(a:Bool)(l:List Str):Option (Bool×(List Str)×Unit):=if(n.Kind==42)=true then some (a,l,())else if(n.Kind==22)=true then(zn [[118,97,114]] a l).bind λb=>Lp.loop (zc3 e) (n.L,((n.L.length:Nat):Int),0,b.1,b.2.1,())else(e.zF (zC n) f a l).bind λc=>some (c.1,c.2.1,())
def zyT(b:zi):=callee Y [] znS zqb (u4 (zhD b))
def zym(b:zi):zab Y (zU Y zqb):=(.loop [[7,5,2,2,3,2,4,2,5,2,2],[8,5,2,2,3,2,4,2,5,2,2],[6,2,2,3,2,4,2,5,2,2],[6,2,2]] ⟨[(0,.ptr 0 0),(22,.sl 25),(23,.int .i64),(24,.int .i64)],[oc1 1,.arr 9]⟩ (zc3 b) (.join [[1,2,2,5,1,2,2,7,5,2,2,3,2,4,2,5,2,2],[2,2,2,5,1,2,2,7,5,2,2,3,2,4,2,5,2,2],[6,1,2,2,7,5,2,2,3,2,4,2,5,2,2],[2,2,2,7,5,2,2,3,2,4,2,5,2,2],[8,5,2,2,3,2,4,2,5,2,2],[6,2,2,3,2,4,2,5,2,2],[6,2,2]] ⟨[(0,.ptr 0 0),(7,.ptr 2 0),(22,.sl 25),(23,.int .i64),(24,.int .i64)],zLZ⟩ (u6 (ze6 b)) (.join [[1,2,2,2,5,1,2,2,7,5,2,2,3,2,4,2,5,2,2],[2,2,2,2,5,1,2,2,7,5,2,2,3,2,4,2,5,2,2],[6,1,2,2,7,5,2,2,3,2,4,2,5,2,2],[2,2,2,7,5,2,2,3,2,4,2,5,2,2],[8,5,2,2,3,2,4,2,5,2,2],[6,2,2,3,2,4,2,5,2,2],[6,2,2]] ⟨[(0,.ptr 0 0),(7,.ptr 2 0),(22,.sl 25),(23,.int .i64),(24,.int .i64)],zLZ⟩ (u6 (zi5 b)) .nil)) .nil)
theorem zt3(b:zi)(d:zS b):K8 106 (zyT b):=f8 (zym b) Tryz.func106 (.cons zaS (.cons d.zF .nil)) ⟨λz=>by kernel_rfl,⟨λz=>by kernel_rfl,⟨λz=>by kernel_rfl,⟨⟩⟩⟩,trivial⟩
def zhb(e:zi)(n:zg)(h:Int)(a:Bool)(l:List Str):Option (Bool×(List Str)×Unit):=(zb2 (zC n)).bind λf=>let g:=((decide (f.1<h))||((a&&(n.Kind==17))&&(n.Name==[105,110])));if g=true then(e.zcT [40] [41] a l (zC n)).bind λb=>some (b.1,b.2.1,())else(e.zcB (zC n) a l).bind λc=>some (c.1,c.2.1,())
def zBG(b:zi):=callee Y [] znS zqb (u4 (zhb b))
theorem zyt(b:zi)(d:zS b):K8 108 (zBG b):=f8 zBf Tryz.func108 ((.cons zxQ (.cons (COk.laid d.zcT) (.cons d.zcB .nil))):zcD hY Tryz.prog zar [(149,(zns (zcX Lp.big))),(150,(zhl Y [⟨[(0,.ptr 0 0),(1,.str),(2,.str),(3,.fn 151 [.ptr 2 0,.ptr 3 0])],zgg⟩,⟨[(0,.ptr 0 0),(1,.str),(2,.str),(3,.fn 176 [.ptr 2 0,.ptr 3 0])],zgg⟩,⟨[(0,.ptr 0 0),(1,.str),(2,.str),(3,.fn 178 [.ptr 2 0,.ptr 3 0])],zgg⟩,⟨[(0,.ptr 0 0),(1,.str),(2,.str),(3,.fn 155 [.ptr 2 0,.ptr 3 0])],zgg⟩,⟨[(0,.ptr 0 0),(1,.str),(2,.str),(3,.fn 197 [.ptr 2 0,.ptr 3 0])],zjX⟩,⟨[(0,.ptr 0 0),(1,.str),(2,.str),(3,.fn 198 [.ptr 2 0,.ptr 3 0])],zjX⟩,⟨[(0,.ptr 0 0),(1,.str),(2,.str),(3,.fn 199 [.ptr 2 0,.ptr 3 0])],zjX⟩] (znc b))),(152,(zo2 b))]) trivial
def zeO(h:zi)(a:Str)(f:Str)(g:Bool)(l:List Str)(x:zg):Option (Bool×(List Str)×zg×Unit):=(zn [a] false l).bind λc=>(h.zdL c.1 c.2.1 (zC x)).bind λb=>(zn [f] b.1 b.2.1).bind λd=>some (g,d.2.1,(zC b.2.2.1),())
def zxi(b:zi):=callee Y [] zm1 zjj (u5 (zeO b))
def zww:zab Y (zU Y zjj):= .nil
theorem zsG(b:zi)(d:zS b):K8 150 (zxi b):=f8 zww Tryz.func150 (.cons zaS (.cons d.zdL .nil)) trivial
def zh3(d:zi)(c:Bool)(l:List Str)(x:zg):Option (Bool×(List Str)×zg×Unit):=(d.zcB (zC x) c l).bind λa=>some (a.1,a.2.1,(zC x),())
def zzD(b:zi):=callee Y [] zpb zk5 (u3 (zh3 b))
def zze:zab Y (zU Y zk5):= .nil
theorem zvz(b:zi)(d:zS b):K8 151 (zzD b):=f8 zze Tryz.func151 (.cons d.zcB .nil) trivial
def zh6(c:zi)(n:zg)(a:Bool)(l:List Str):Option (Bool×(List Str)×Unit):=if(n.Kind==1)=true then(zcI n.Num 10).bind λp=>(zn [p.1] a l).bind λd=>some (d.1,d.2.1,())else if(n.Kind==2)=true then(zeJ n.Text).bind λq=>(zn [q.1] a l).bind λe=>some (e.1,e.2.1,())else if(n.Kind==3)=true then(zn [n.Name] a l).bind λf=>some (f.1,f.2.1,())else if(n.Kind==4)=true then(zn [[116,104,105,115]] a l).bind λg=>some (g.1,g.2.1,())else if(n.Kind==5)=true then(zn [[110,117,108,108]] a l).bind λh=>some (h.1,h.2.1,())else if(n.Kind==6)=true then(strconv_FormatBool (n.Num==1)).bind λr=>(zn [r.1] a l).bind λi=>some (i.1,i.2.1,())else if(n.Kind==7)=true then(c.zbV [91] [93] a l (zC n)).bind λj=>some (j.1,j.2.1,())else if(n.Kind==8)=true then(c.zcn [123] [125] a l (zC n)).bind λk=>some (k.1,k.2.1,())else if(n.Kind==10)=true then(c.zbw (zC n) a l).bind λm=>some (m.1,m.2.1,())else(c.zcp (zC n) a l).bind λo=>some (o.1,o.2.1,())
def zyW(b:zi):=callee Y [] zpi zqb (u3 (zh6 b))
theorem zuY(b:zi)(d:zS b):K8 152 (zyW b):=f8 zBf Tryz.func152 ((.cons zju (.cons zaS (.cons zuW (.cons zvM (.cons (COk.laid (COk.or d.zbV d.zcn)) (.cons d.zbw (.cons d.zcp .nil))))))):zcD hY Tryz.prog zar [(173,(zod)),(107,(ziy)),(174,(zxT)),(175,(znE)),(150,(zhl Y [⟨[(0,.ptr 0 0),(1,.str),(2,.str),(3,.fn 151 [.ptr 2 0,.ptr 3 0])],zgg⟩,⟨[(0,.ptr 0 0),(1,.str),(2,.str),(3,.fn 176 [.ptr 2 0,.ptr 3 0])],zgg⟩,⟨[(0,.ptr 0 0),(1,.str),(2,.str),(3,.fn 178 [.ptr 2 0,.ptr 3 0])],zgg⟩,⟨[(0,.ptr 0 0),(1,.str),(2,.str),(3,.fn 155 [.ptr 2 0,.ptr 3 0])],zgg⟩,⟨[(0,.ptr 0 0),(1,.str),(2,.str),(3,.fn 197 [.ptr 2 0,.ptr 3 0])],zjX⟩,⟨[(0,.ptr 0 0),(1,.str),(2,.str),(3,.fn 198 [.ptr 2 0,.ptr 3 0])],zjX⟩,⟨[(0,.ptr 0 0),(1,.str),(2,.str),(3,.fn 199 [.ptr 2 0,.ptr 3 0])],zjX⟩] (orC Y zhQ zjj (λz=>b.zbV z.1 z.2.1 z.2.2.1 z.2.2.2.1 z.2.2.2.2.1) (zlp b)))),(112,(zlP b)),(179,(zlq b))]) trivial
def zfr(h:zi)(a:Str)(f:Str)(g:Bool)(l:List Str)(x:zg):Option (Bool×(List Str)×zg×Unit):=(zn [a] false l).bind λc=>(h.zdG c.1 c.2.1 (zC x)).bind λb=>(zn [f] b.1 b.2.1).bind λd=>some (g,d.2.1,(zC b.2.2.1),())
def ztc(b:zi):=callee Y [] zhQ zjj (u5 (zfr b))
theorem zpI(b:zi)(d:zS b):K8 150 (ztc b):=f8 zww Tryz.func150 (.cons zaS (.cons d.zdG .nil)) trivial
def zgz(d:zi)(c:Bool)(l:List Str)(x:zg):Option (Bool×(List Str)×zg×Unit):=(d.zcc x.L c l).bind λa=>some (a.1,a.2.1,(zC x),())
def zwd(b:zi):=callee Y [] zpb zk5 (u3 (zgz b))
theorem ztf(b:zi)(d:zS b):K8 176 (zwd b):=f8 zze Tryz.func176 (.cons d.zcc .nil) trivial
def zfC(k:zi)(b:List zg)(c:Int)(d:Int)(e:Bool)(f:List Str)(a:zg):zCk:=if(a.Kind==9)=true then(zeJ a.Text).bind λl=>(zn [l.1,[58]] e f).bind λg=>(zT a.L 0).bind λm=>(k.zF (zC m) 1 g.1 g.2.1).bind λh=>let n:=(IntKind.wrap .i64 (d+1));some (.inl (b,c,n,h.1,h.2.1,()))else(k.zF (zC a) 1 e f).bind λi=>let o:=(IntKind.wrap .i64 (d+1));some (.inl (b,c,o,i.1,i.2.1,()))
def zch(i:zi):(List zg)×Int×Int×Bool×(List Str)×Unit->zCk| (b,c,a,d,e,())=>if(decide (a<c))=true then(zT b a).bind λf=>if(decide (a>0))=true then(zn [[44]] d e).bind λg=>zfC i b c a g.1 g.2.1 (zC f)else zfC i b c a d e (zC f)else some (.inr (d,e,()))
def zh1(d:zi)(l:List zg)(b:Bool)(c:List Str):Option (Bool×(List Str)×Unit):=Lp.loop (zch d) (l,((l.length:Nat):Int),0,b,c,())
def zzx(b:zi):=callee Y [] znZ zqb (u3 (zh1 b))
def zzA(b:zi):zab Y (zU Y zqb):=(.loop [[7,5,2],[8,5,2],[6,2]] ⟨[(0,.ptr 0 0),(8,.sl 25),(9,.int .i64),(10,.int .i64)],[oc1 1,.arr 9]⟩ (zch b) (.join [[1,1,2,2,5,1,2,2,7,5,2],[2,1,2,2,5,1,2,2,7,5,2],[2,2,2,5,1,2,2,7,5,2],[6,1,2,2,7,5,2],[2,2,2,7,5,2],[8,5,2],[6,2]] ⟨[(0,.ptr 0 0),(5,.ptr 2 0),(8,.sl 25),(9,.int .i64),(10,.int .i64)],zLZ⟩ (u6 (zfC b)) .nil) .nil)
theorem zv3(b:zi)(d:zS b):K8 177 (zzx b):=f8 (zzA b) Tryz.func177 (.cons zaS (.cons zuW (.cons d.zF .nil))) ⟨λz=>by kernel_rfl,⟨λz=>by kernel_rfl,⟨⟩⟩,trivial⟩
def zfw(h:zi)(a:Str)(f:Str)(g:Bool)(l:List Str)(x:zg):Option (Bool×(List Str)×zg×Unit):=(zn [a] false l).bind λc=>(h.zdB c.1 c.2.1 (zC x)).bind λb=>(zn [f] b.1 b.2.1).bind λd=>some (g,d.2.1,(zC b.2.2.1),())
def zs6(b:zi):=callee Y [] zlu zjj (u5 (zfw b))
theorem zpW(b:zi)(d:zS b):K8 150 (zs6 b):=f8 zww Tryz.func150 (.cons zaS (.cons d.zdB .nil)) trivial
def zgP(d:zi)(c:Bool)(l:List Str)(x:zg):Option (Bool×(List Str)×zg×Unit):=(d.zcc x.L c l).bind λa=>some (a.1,a.2.1,(zC x),())
def zwG(b:zi):=callee Y [] zpb zk5 (u3 (zgP b))
theorem zsO(b:zi)(d:zS b):K8 178 (zwG b):=f8 zze Tryz.func178 (.cons d.zcc .nil) trivial
def zb0(p:zi):(List Str)×Int×Int×Bool×(List Str)×zg×Unit->Option (((List Str)×Int×Int×Bool×(List Str)×zg×Unit)⊕(Bool×(List Str)×Unit))| (b,c,a,d,e,f,())=>if(decide (a<c))=true then(zT b a).bind λg=>if(decide (a>0))=true then(zn [[44]] d e).bind λh=>(zn [g] h.1 h.2.1).bind λi=>let m:=(IntKind.wrap .i64 (a+1));some (.inl (b,c,m,i.1,i.2.1,(zC f),()))else(zn [g] d e).bind λj=>let n:=(IntKind.wrap .i64 (a+1));some (.inl (b,c,n,j.1,j.2.1,(zC f),()))else(zn [[41]] d e).bind λk=>(p.zcm [123] [125] k.1 k.2.1 (zC f)).bind λl=>some (.inr (l.1,l.2.1,()))
def zfP(f:zi)(n:zg)(i:Bool)(l:List Str):Option (Bool×(List Str)×Unit):=(zn [[102,117,110,99,116,105,111,110]] i l).bind λa=>if(!(n.Name==[]))=true then(zn [n.Name] a.1 a.2.1).bind λb=>(zn [[40]] b.1 b.2.1).bind λc=>let g:=((n.Names.length:Nat):Int);Lp.loop (zb0 f) (n.Names,g,0,c.1,c.2.1,(zC n),())else(zn [[40]] a.1 a.2.1).bind λd=>let h:=((n.Names.length:Nat):Int);Lp.loop (zb0 f) (n.Names,h,0,d.1,d.2.1,(zC n),())
def zun(b:zi):=callee Y [] zpi zqb (u3 (zfP b))
def zuC(b:zi):zab Y (zU Y zqb):=(.loop [[7,5,2,1,2,2,2,2],[8,5,2,1,2,2,2,2],[6,2,1,2,2,2,2],[2,2,2,2,2]] ⟨[(2,.ptr 2 0),(3,.ptr 3 0),(21,.sl 9),(22,.int .i64),(23,.int .i64)],zgg⟩ (zb0 b) .nil .nil)
theorem zqs(b:zi)(d:zS b):K8 112 (zun b):=f8 (zuC b) Tryz.func112 ((.cons zaS (.cons (COk.laid d.zcm) .nil)):zcD hY Tryz.prog zar [(107,(ziy)),(150,(zhl Y [⟨[(0,.ptr 0 0),(1,.str),(2,.str),(3,.fn 151 [.ptr 2 0,.ptr 3 0])],zgg⟩,⟨[(0,.ptr 0 0),(1,.str),(2,.str),(3,.fn 176 [.ptr 2 0,.ptr 3 0])],zgg⟩,⟨[(0,.ptr 0 0),(1,.str),(2,.str),(3,.fn 178 [.ptr 2 0,.ptr 3 0])],zgg⟩,⟨[(0,.ptr 0 0),(1,.str),(2,.str),(3,.fn 155 [.ptr 2 0,.ptr 3 0])],zgg⟩,⟨[(0,.ptr 0 0),(1,.str),(2,.str),(3,.fn 197 [.ptr 2 0,.ptr 3 0])],zjX⟩,⟨[(0,.ptr 0 0),(1,.str),(2,.str),(3,.fn 198 [.ptr 2 0,.ptr 3 0])],zjX⟩,⟨[(0,.ptr 0 0),(1,.str),(2,.str),(3,.fn 199 [.ptr 2 0,.ptr 3 0])],zjX⟩] (zlA b)))]) ⟨λz=>by kernel_rfl,trivial,trivial⟩
def zfv(h:zi)(a:Str)(f:Str)(g:Bool)(l:List Str)(x:zg):Option (Bool×(List Str)×zg×Unit):=(zn [a] false l).bind λc=>(h.zcy c.1 c.2.1 (zC x)).bind λb=>(zn [f] b.1 b.2.1).bind λd=>some (g,d.2.1,(zC b.2.2.1),())
def zsW(b:zi):=callee Y [] zlt zjj (u5 (zfv b))
theorem zpO(b:zi)(d:zS b):K8 150 (zsW b):=f8 zww Tryz.func150 (.cons zaS (.cons d.zcy .nil)) trivial
def zfc(d:zi)(c:Bool)(l:List Str)(x:zg):Option (Bool×(List Str)×zg×Unit):=(d.zaZ x.L c l).bind λa=>some (a.1,a.2.1,(zC x),())
def zrF(b:zi):=callee Y [] zpb zk5 (u3 (zfc b))
theorem zpm(b:zi)(d:zS b):K8 155 (zrF b):=f8 zze Tryz.func155 (.cons d.zaZ .nil) trivial
def zeX(c:zi)(k:Int)(d:Bool)(e:List Str)(l:zg)(a:List zg):Option (Bool×(List Str)×Unit):=if(l.Kind==14)=true then(zn [[110,101,119]] d e).bind λf=>(zT a 0).bind λm=>(c.zF (zC m) 12 f.1 f.2.1).bind λg=>(c.zbp [40] [41] g.1 g.2.1 a).bind λh=>some (h.1,h.2.1,())else(zT a 0).bind λn=>(c.zF (zC n) k d e).bind λi=>(c.zbp [40] [41] i.1 i.2.1 a).bind λj=>some (j.1,j.2.1,())
def zbx(f:zi)(a:Bool)(b:List Str)(c:zg)(d:List zg):Option (Bool×(List Str)×Unit):=zeX f 11 a b (zC c) d
def zW(b:zi)(o:zg)(c:Bool)(l:List Str):Option (Bool×(List Str)×Unit):=if(o.Kind==11)=true then(zT o.L 0).bind λD=>(b.zF (zC D) 11 c l).bind λg=>(zn [[46],o.Name] g.1 g.2.1).bind λh=>some (h.1,h.2.1,())else if(o.Kind==12)=true then(zT o.L 0).bind λE=>(b.zF (zC E) 11 c l).bind λi=>(b.zbW [91] [93] i.1 i.2.1 o.L).bind λj=>some (j.1,j.2.1,())else if(o.Kind==13)=true then zbx b c l (zC o) o.L else if(o.Kind==14)=true then zbx b c l (zC o) o.L else if(o.Kind==15)=true then(zn [o.Name] c l).bind λk=>(zT o.L 0).bind λH=>(b.zF (zC H) 9 k.1 k.2.1).bind λm=>some (m.1,m.2.1,())else if(o.Kind==16)=true then if(o.Num==1)=true then(zn [o.Name] c l).bind λn=>(zT o.L 0).bind λI=>(b.zF (zC I) 11 n.1 n.2.1).bind λd=>if(o.Num==0)=true then(zn [o.Name] d.1 d.2.1).bind λp=>some (p.1,p.2.1,())else some (d.1,d.2.1,())else(zT o.L 0).bind λJ=>(b.zF (zC J) 11 c l).bind λe=>if(o.Num==0)=true then(zn [o.Name] e.1 e.2.1).bind λq=>some (q.1,q.2.1,())else some (e.1,e.2.1,())else if(o.Kind==19)=true then(zT o.L 0).bind λK=>(b.zF (zC K) 3 c l).bind λr=>(b.zck [63] [58] r.1 r.2.1 o.L).bind λf=>(zT f.2.2.1 2).bind λM=>(b.zF (zC M) 1 f.1 f.2.1).bind λs=>some (s.1,s.2.1,())else if(o.Kind==20)=true then(zT o.L 0).bind λN=>(b.zF (zC N) 11 c l).bind λt=>(zn [o.Name] t.1 t.2.1).bind λu=>(zT o.L 1).bind λO=>(b.zF (zC O) 1 u.1 u.2.1).bind λv=>some (v.1,v.2.1,())else if(o.Kind==21)=true then(zT o.L 0).bind λP=>(b.zF (zC P) 0 c l).bind λx=>(zn [[44]] x.1 x.2.1).bind λy=>(zT o.L 1).bind λQ=>(b.zF (zC Q) 1 y.1 y.2.1).bind λz=>some (z.1,z.2.1,())else(zT o.L 0).bind λR=>(zb2 (zC o)).bind λS=>(b.zF (zC R) S.1 c l).bind λA=>(zn [o.Name] A.1 A.2.1).bind λB=>(zT o.L 1).bind λU=>(zb2 (zC o)).bind λV=>let W:=(IntKind.wrap .i64 (V.1+1));(b.zF (zC U) W B.1 B.2.1).bind λC=>some (C.1,C.2.1,())
def zsN(b:zi):=callee Y [] zpi zqb (u3 (zW b))
def zsJ(b:zi):zab Y (zU Y zqb):=(.join [[1,3,2,4,2,4,2,5,2,2,2],[2,3,2,4,2,4,2,5,2,2,2],[6,2,2,2]] ⟨[(2,.ptr 2 0),(3,.ptr 3 0),(4,.ptr 4 0)],om9⟩ (u4 (zbx b)) (.join [[1,1,2,3,2,4,2,4,2,5,2,2,2],[2,1,2,3,2,4,2,4,2,5,2,2,2],[2,2,3,2,4,2,4,2,5,2,2,2],[6,2,2,2]] ⟨[(2,.ptr 2 0),(3,.ptr 3 0),(4,.ptr 4 0),(5,.int .i64)],om9⟩ (u5 (zeX b)) .nil))
theorem zp0(b:zi)(d:zS b):K8 179 (zsN b):=f8 (zsJ b) Tryz.func179 ((.cons d.zF (.cons zaS (.cons (COk.laid (COk.or d.zbW (COk.or d.zbp d.zck))) (.cons zxQ .nil)))):zcD hY Tryz.prog zar [(108,(zrT b)),(107,(ziy)),(150,(zhl Y [⟨[(0,.ptr 0 0),(1,.str),(2,.str),(3,.fn 151 [.ptr 2 0,.ptr 3 0])],zgg⟩,⟨[(0,.ptr 0 0),(1,.str),(2,.str),(3,.fn 176 [.ptr 2 0,.ptr 3 0])],zgg⟩,⟨[(0,.ptr 0 0),(1,.str),(2,.str),(3,.fn 178 [.ptr 2 0,.ptr 3 0])],zgg⟩,⟨[(0,.ptr 0 0),(1,.str),(2,.str),(3,.fn 155 [.ptr 2 0,.ptr 3 0])],zgg⟩,⟨[(0,.ptr 0 0),(1,.str),(2,.str),(3,.fn 197 [.ptr 2 0,.ptr 3 0])],zjX⟩,⟨[(0,.ptr 0 0),(1,.str),(2,.str),(3,.fn 198 [.ptr 2 0,.ptr 3 0])],zjX⟩,⟨[(0,.ptr 0 0),(1,.str),(2,.str),(3,.fn 199 [.ptr 2 0,.ptr 3 0])],zjX⟩] (orC Y zhP zfs (λz=>b.zbW z.1 z.2.1 z.2.2.1 z.2.2.2.1 z.2.2.2.2.1) (orC Y zhH zfs (λz=>b.zbp z.1 z.2.1 z.2.2.1 z.2.2.2.1 z.2.2.2.2.1) (zlw b))))),(149,(zns (zcX Lp.big)))]) ⟨λz=>by kernel_rfl,⟨λz=>by kernel_rfl,⟨⟩⟩⟩
def zfy(i:zi)(a:Str)(f:Str)(g:Bool)(l:List Str)(h:List zg):Option (Bool×(List Str)×(List zg)×Unit):=(zn [a] false l).bind λc=>(i.zcs c.1 c.2.1 h).bind λb=>(zn [f] b.1 b.2.1).bind λd=>some (g,d.2.1,b.2.2.1,())
def zsX(b:zi):=callee Y [] zhP zfs (u5 (zfy b))
def zsM:zab Y (zU Y zfs):= .nil
theorem zpK(b:zi)(d:zS b):K8 150 (zsX b):=f8 zsM Tryz.func150 (.cons zaS (.cons d.zcs .nil)) trivial
def zeE(f:zi)(e:Bool)(l:List Str)(a:List zg):Option (Bool×(List Str)×(List zg)×Unit):=(zT a 1).bind λc=>(f.zF (zC c) 0 e l).bind λb=>some (b.1,b.2.1,a,())
def zql(b:zi):=callee Y [] zkr zgQ (u3 (zeE b))
def zqL:zab Y (zU Y zgQ):= .nil
theorem zoC(b:zi)(d:zS b):K8 197 (zql b):=f8 zqL Tryz.func197 (.cons d.zF .nil) trivial
def zfu(i:zi)(a:Str)(f:Str)(g:Bool)(l:List Str)(h:List zg):Option (Bool×(List Str)×(List zg)×Unit):=(zn [a] false l).bind λc=>(i.zcr c.1 c.2.1 h).bind λb=>(zn [f] b.1 b.2.1).bind λd=>some (g,d.2.1,b.2.2.1,())
def ztb(b:zi):=callee Y [] zhH zfs (u5 (zfu b))
theorem zpS(b:zi)(d:zS b):K8 150 (ztb b):=f8 zsM Tryz.func150 (.cons zaS (.cons d.zcr .nil)) trivial
def zeG(f:zi)(e:Bool)(l:List Str)(a:List zg):Option (Bool×(List Str)×(List zg)×Unit):=(zaQ a 1 ((a.length:Nat):Int)).bind λc=>(f.zcc c e l).bind λb=>some (b.1,b.2.1,a,())
def zqK(b:zi):=callee Y [] zkr zgQ (u3 (zeG b))
theorem zoh(b:zi)(d:zS b):K8 198 (zqK b):=f8 zqL Tryz.func198 (.cons d.zcc .nil) trivial
def zfx(i:zi)(a:Str)(f:Str)(g:Bool)(l:List Str)(h:List zg):Option (Bool×(List Str)×(List zg)×Unit):=(zn [a] false l).bind λc=>(i.zct c.1 c.2.1 h).bind λb=>(zn [f] b.1 b.2.1).bind λd=>some (g,d.2.1,b.2.2.1,())
def ztd(b:zi):=callee Y [] zlr zfs (u5 (zfx b))
theorem zpN(b:zi)(d:zS b):K8 150 (ztd b):=f8 zsM Tryz.func150 (.cons zaS (.cons d.zct .nil)) trivial
def zeF(f:zi)(e:Bool)(l:List Str)(a:List zg):Option (Bool×(List Str)×(List zg)×Unit):=(zT a 1).bind λc=>(f.zF (zC c) 1 e l).bind λb=>some (b.1,b.2.1,a,())
def zqg(b:zi):=callee Y [] zkr zgQ (u3 (zeF b))
theorem zoi(b:zi)(d:zS b):K8 199 (zqg b):=f8 zqL Tryz.func199 (.cons d.zF .nil) trivial
def zf3(g:zi)(e:Str)(n:zg)(f:Bool)(l:List Str):Option (Bool×(List Str)×Unit):=(zn [e,[40]] f l).bind λa=>(g.zF (zC n) 0 a.1 a.2.1).bind λb=>(zn [[41]] b.1 b.2.1).bind λc=>some (c.1,c.2.1,())
def zzf(b:zi):=callee Y [] zpv zqb (u4 (zf3 b))
theorem zu3(b:zi)(d:zS b):K8 110 (zzf b):=f8 zBf Tryz.func110 (.cons zaS (.cons d.zF .nil)) trivial
def zcH(l:zi):(List zg)×(List zg)×Int×Int×Bool×(List Str)×Unit->Option (((List zg)×(List zg)×Int×Int×Bool×(List Str)×Unit)⊕(Bool×(List Str)×Unit))| (a,c,d,b,e,f,())=>if(decide (b<d))=true then(zT c b).bind λm=>(zn [[59]] e f).bind λg=>(l.za8 (zC m) 0 g.1 g.2.1).bind λh=>let n:=(IntKind.wrap .i64 (b+1));some (.inl (a,c,d,n,h.1,h.2.1,()))else(zn [[41]] e f).bind λi=>let o:=(IntKind.wrap .i64 (((a.length:Nat):Int) -1));(zT a o).bind λp=>(l.zai (zC p) i.1 i.2.1).bind λj=>some (.inr (j.1,j.2.1,()))
def zbS(b:zi)(n:zg)(c:Bool)(l:List Str):Option (Bool×(List Str)×Unit):=if(n.Kind==27)=true then(zT n.L 0).bind λr=>(b.za9 [119,104,105,108,101] (zC r) c l).bind λd=>let s:=(IntKind.wrap .i64 (((n.L.length:Nat):Int) -1));(zT n.L s).bind λt=>(b.zai (zC t) d.1 d.2.1).bind λe=>some (e.1,e.2.1,())else if(n.Kind==28)=true then(zn [[100,111]] c l).bind λf=>(zT n.L 0).bind λu=>(b.zai (zC u) f.1 f.2.1).bind λg=>(zT n.L 1).bind λv=>(b.za9 [119,104,105,108,101] (zC v) g.1 g.2.1).bind λh=>(zn [[59]] h.1 h.2.1).bind λi=>some (i.1,i.2.1,())else(zn [[102,111,114],[40]] c l).bind λj=>if(n.Kind==30)=true then(zT n.L 0).bind λx=>(b.za8 (zC x) 11 true j.2.1).bind λy=>(zn [[105,110]] false y.2.1).bind λk=>(zT n.L 1).bind λz=>(b.zF (zC z) 0 k.1 k.2.1).bind λm=>(zn [[41]] m.1 m.2.1).bind λo=>let A:=(IntKind.wrap .i64 (((n.L.length:Nat):Int) -1));(zT n.L A).bind λB=>(b.zai (zC B) o.1 o.2.1).bind λp=>some (p.1,p.2.1,())else(zT n.L 0).bind λC=>(b.za8 (zC C) 0 true j.2.1).bind λD=>(zaQ n.L 1 3).bind λq=>Lp.loop (zcH b) (n.L,q,((q.length:Nat):Int),0,false,D.2.1,())
def zy3(b:zi):=callee Y [] zpi zqb (u3 (zbS b))
def zy0(b:zi):zab Y (zU Y zqb):=(.loop [[7,5,2,2,2,4,2,1,2,2,4,2,4,2,5,2,1,2,2],[8,5,2,2,2,4,2,1,2,2,4,2,4,2,5,2,1,2,2],[6,2,2,2,4,2,1,2,2,4,2,4,2,5,2,1,2,2],[2,2,2,4,2,4,2,5,2,1,2,2],[6,2,1,2,2],[2,2,2]] ⟨[(0,.ptr 0 0),(4,.sl 25),(45,.sl 25),(46,.int .i64),(47,.int .i64)],[oc1 1,.arr 9]⟩ (zcH b) .nil .nil)
theorem zvj(d:zi)(b:zS d):K8 111 (zy3 d):=f8 (zy0 d) Tryz.func111 (.cons b.za9 (.cons b.zai (.cons zaS (.cons b.za8 (.cons b.zF .nil))))) ⟨λz=>by kernel_rfl,trivial,trivial⟩
def zcG(k:zi):(List zg)×Int×Int×Bool×(List Str)×Unit->zCk| (b,c,a,d,e,())=>if(decide (a<c))=true then(zT b a).bind λh=>(k.zF (zC h) 0 d e).bind λf=>let i:=(IntKind.wrap .i64 (a+1));some (.inl (b,c,i,f.1,f.2.1,()))else(zn [[59]] d e).bind λg=>some (.inr (g.1,g.2.1,()))
def zcf(f:zi)(b:Bool)(c:List Str)(a:zg):Option (Bool×(List Str)×Unit):=if(!(a.Name==[]))=true then(zn [a.Name] b c).bind λd=>let g:=((a.L.length:Nat):Int);Lp.loop (zcG f) (a.L,g,0,d.1,d.2.1,())else let h:=((a.L.length:Nat):Int);Lp.loop (zcG f) (a.L,h,0,b,c,())
def zh9(c:zi)(n:zg)(b:Bool)(l:List Str):Option (Bool×(List Str)×Unit):=if(n.Kind==31)=true then(zn [[98,114,101,97,107]] b l).bind λd=>zcf c d.1 d.2.1 (zC n)else if(n.Kind==32)=true then(zn [[99,111,110,116,105,110,117,101]] b l).bind λe=>zcf c e.1 e.2.1 (zC n)else if(n.Kind==33)=true then(zn [[114,101,116,117,114,110]] b l).bind λf=>zcf c f.1 f.2.1 (zC n)else if(n.Kind==34)=true then(zn [[116,104,114,111,119]] b l).bind λg=>zcf c g.1 g.2.1 (zC n)else zcf c b l (zC n)
def zAd(b:zi):=callee Y [] zpi zqb (u3 (zh9 b))
def zAw(b:zi):zab Y (zU Y zqb):=(.join [[1,1,2,2],[2,1,2,2],[2,2,2]] ⟨[(0,.ptr 0 0),(3,.ptr 2 0)],zLZ⟩ (u3 (zcf b)) (.loop [[7,5,2,1,2,2,2],[8,5,2,1,2,2,2],[6,2,1,2,2,2],[2,2,2,2]] ⟨[(0,.ptr 0 0),(37,.sl 25),(38,.int .i64),(39,.int .i64)],[oc1 1,.arr 9]⟩ (zcG b) .nil .nil))
theorem zvN(b:zi)(d:zS b):K8 113 (zAd b):=f8 (zAw b) Tryz.func113 (.cons zaS (.cons d.zF .nil)) ⟨λz=>by kernel_rfl,⟨λz=>by kernel_rfl,trivial,trivial⟩⟩
def zA:Nat->zi
 |0=>⟨λ_ _ _=>none,λ_ _ _=>none,λ_ _ _ _=>none,λ_ _ _ _=>none,λ_ _ _ _ _=>none,λ_ _ _=>none,λ_ _ _=>none,λ_ _ _ _ _=>none,λ_ _ _=>none,λ_ _ _=>none,λ_ _ _ _ _=>none,λ_ _ _=>none,λ_ _ _=>none,λ_ _ _ _ _=>none,λ_ _ _=>none,λ_ _ _=>none,λ_ _ _ _ _=>none,λ_ _ _=>none,λ_ _ _ _ _=>none,λ_ _ _=>none,λ_ _ _ _ _=>none,λ_ _ _=>none,λ_ _ _ _=>none,λ_ _ _=>none,λ_ _ _=>none⟩
 |n+1=>⟨zhx (zA n),zah (zA n),zhD (zA n),zhb (zA n),zeO (zA n),zh3 (zA n),zh6 (zA n),zfr (zA n),zgz (zA n),zh1 (zA n),zfw (zA n),zgP (zA n),zfP (zA n),zfv (zA n),zfc (zA n),zW (zA n),zfy (zA n),zeE (zA n),zfu (zA n),zeG (zA n),zfx (zA n),zeF (zA n),zf3 (zA n),zbS (zA n),zh9 (zA n)⟩
theorem zQ: ∀n,zS (zA n)
 |0=>⟨COk.none ⟨⟨_,Tryz.func29,by kernel_rfl,rfl⟩⟩,COk.none ⟨⟨_,Tryz.func51,by kernel_rfl,rfl⟩⟩,COk.none ⟨⟨_,Tryz.func106,by kernel_rfl,rfl⟩⟩,COk.none ⟨⟨_,Tryz.func108,by kernel_rfl,rfl⟩⟩,COk.none ⟨⟨_,Tryz.func150,by kernel_rfl,rfl⟩⟩,COk.none ⟨⟨_,Tryz.func151,by kernel_rfl,rfl⟩⟩,COk.none ⟨⟨_,Tryz.func152,by kernel_rfl,rfl⟩⟩,COk.none ⟨⟨_,Tryz.func150,by kernel_rfl,rfl⟩⟩,COk.none ⟨⟨_,Tryz.func176,by kernel_rfl,rfl⟩⟩,COk.none ⟨⟨_,Tryz.func177,by kernel_rfl,rfl⟩⟩,COk.none ⟨⟨_,Tryz.func150,by kernel_rfl,rfl⟩⟩,COk.none ⟨⟨_,Tryz.func178,by kernel_rfl,rfl⟩⟩,COk.none ⟨⟨_,Tryz.func112,by kernel_rfl,rfl⟩⟩,COk.none ⟨⟨_,Tryz.func150,by kernel_rfl,rfl⟩⟩,COk.none ⟨⟨_,Tryz.func155,by kernel_rfl,rfl⟩⟩,COk.none ⟨⟨_,Tryz.func179,by kernel_rfl,rfl⟩⟩,COk.none ⟨⟨_,Tryz.func150,by kernel_rfl,rfl⟩⟩,COk.none ⟨⟨_,Tryz.func197,by kernel_rfl,rfl⟩⟩,COk.none ⟨⟨_,Tryz.func150,by kernel_rfl,rfl⟩⟩,COk.none ⟨⟨_,Tryz.func198,by kernel_rfl,rfl⟩⟩,COk.none ⟨⟨_,Tryz.func150,by kernel_rfl,rfl⟩⟩,COk.none ⟨⟨_,Tryz.func199,by kernel_rfl,rfl⟩⟩,COk.none ⟨⟨_,Tryz.func110,by kernel_rfl,rfl⟩⟩,COk.none ⟨⟨_,Tryz.func111,by kernel_rfl,rfl⟩⟩,COk.none ⟨⟨_,Tryz.func113,by kernel_rfl,rfl⟩⟩⟩
 |n+1=>⟨zuh _ (zQ n),zvI _ (zQ n),zt3 _ (zQ n),zyt _ (zQ n),zsG _ (zQ n),zvz _ (zQ n),zuY _ (zQ n),zpI _ (zQ n),ztf _ (zQ n),zv3 _ (zQ n),zpW _ (zQ n),zsO _ (zQ n),zqs _ (zQ n),zpO _ (zQ n),zpm _ (zQ n),zp0 _ (zQ n),zpK _ (zQ n),zoC _ (zQ n),zpS _ (zQ n),zoh _ (zQ n),zpN _ (zQ n),zoi _ (zQ n),zu3 _ (zQ n),zvj _ (zQ n),zvN _ (zQ n)⟩
def zaZ:(List zg)->Bool->(List Str)->Option (Bool×(List Str)×Unit):=(zA Lp.big).zaZ
theorem zwk:K8 29 (znQ (zA Lp.big)):=(zQ Lp.big).zaZ
def zai:zg->Bool->(List Str)->Option (Bool×(List Str)×Unit):=(zA Lp.big).zai
def za8:zg->Int->Bool->(List Str)->Option (Bool×(List Str)×Unit):=(zA Lp.big).za8
def zF:zg->Int->Bool->(List Str)->Option (Bool×(List Str)×Unit):=(zA Lp.big).zF
def zcT:Str->Str->Bool->(List Str)->zg->Option (Bool×(List Str)×zg×Unit):=(zA Lp.big).zcT
def zdL:Bool->(List Str)->zg->Option (Bool×(List Str)×zg×Unit):=(zA Lp.big).zdL
def zcB:zg->Bool->(List Str)->Option (Bool×(List Str)×Unit):=(zA Lp.big).zcB
def zbV:Str->Str->Bool->(List Str)->zg->Option (Bool×(List Str)×zg×Unit):=(zA Lp.big).zbV
def zdG:Bool->(List Str)->zg->Option (Bool×(List Str)×zg×Unit):=(zA Lp.big).zdG
def zcc:(List zg)->Bool->(List Str)->Option (Bool×(List Str)×Unit):=(zA Lp.big).zcc
def zcn:Str->Str->Bool->(List Str)->zg->Option (Bool×(List Str)×zg×Unit):=(zA Lp.big).zcn
def zdB:Bool->(List Str)->zg->Option (Bool×(List Str)×zg×Unit):=(zA Lp.big).zdB
def zbw:zg->Bool->(List Str)->Option (Bool×(List Str)×Unit):=(zA Lp.big).zbw
def zcm:Str->Str->Bool->(List Str)->zg->Option (Bool×(List Str)×zg×Unit):=(zA Lp.big).zcm
def zcy:Bool->(List Str)->zg->Option (Bool×(List Str)×zg×Unit):=(zA Lp.big).zcy
def zcp:zg->Bool->(List Str)->Option (Bool×(List Str)×Unit):=(zA Lp.big).zcp
def zbW:Str->Str->Bool->(List Str)->(List zg)->Option (Bool×(List Str)×(List zg)×Unit):=(zA Lp.big).zbW
def zcs:Bool->(List Str)->(List zg)->Option (Bool×(List Str)×(List zg)×Unit):=(zA Lp.big).zcs
def zbp:Str->Str->Bool->(List Str)->(List zg)->Option (Bool×(List Str)×(List zg)×Unit):=(zA Lp.big).zbp
def zcr:Bool->(List Str)->(List zg)->Option (Bool×(List Str)×(List zg)×Unit):=(zA Lp.big).zcr
def zck:Str->Str->Bool->(List Str)->(List zg)->Option (Bool×(List Str)×(List zg)×Unit):=(zA Lp.big).zck
def zct:Bool->(List Str)->(List zg)->Option (Bool×(List Str)×(List zg)×Unit):=(zA Lp.big).zct
def za9:Str->zg->Bool->(List Str)->Option (Bool×(List Str)×Unit):=(zA Lp.big).za9
def zcb:zg->Bool->(List Str)->Option (Bool×(List Str)×Unit):=(zA Lp.big).zcb
def zdy:zg->Bool->(List Str)->Option (Bool×(List Str)×Unit):=(zA Lp.big).zdy
def strings_Join(a:List Str)(b:Str):Option (Str×Unit):=if a.length<=140737488355328/\(Lib.join a b).length<=140737488355328 then some (Lib.join a b,())else none
def zv0:Shape:=⟨[(0,.sl 9),(1,.str)],[]⟩
def zEV:=callee Y [] zv0 zAn (λz=>strings_Join z.1 z.2.1)
theorem zz8(xs:List Str)(sep r:Str)(hN:strings_Join xs sep=some (r,()))(w:World)(F:Heap)(hv:F.Sub w)(A:Option Addr)(c:Nat)(hlc:xs.length<=c)
  (hx:xs=[]\/∃b o,A=some ⟨b,o,none⟩/\b<w.heap.size/\∀(i:Nat) (x:Str),xs[i]? =some x->w.cell? ⟨b,o+i,none⟩=some (.string ⟨⟨x⟩⟩)):
  Calls Tryz.prog 30 #[.slice A xs.length c,.string ⟨⟨sep⟩⟩] w λe w'=>e= .returned (.string ⟨⟨r⟩⟩)/\Gw.St w F No w' F []:=by
 unfold strings_Join at hN;split at hN
 ·rename_i hc;cases hN;rcases hx with rfl| ⟨b,o,rfl,hbk,hcell⟩
  ·exact(Tryz.strings_Join_none A c ⟨⟨sep⟩⟩ w).mono λe w' h=>⟨h.1,by rw[h.2];exact Gw.St.start hv⟩
  ·have hmap:(xs.map λs=>(⟨⟨s⟩⟩:ByteArray)).map (·.data.toList)=xs:=by rw[List.map_map];exact List.map_id xs
   have hcall:=Tryz.strings_Join b o c (xs.map λs=>⟨⟨s⟩⟩) ⟨⟨sep⟩⟩ w (λj x hx=>by
    rw[List.getElem?_map]at hx;obtain⟨s,hs,rfl⟩:=Option.map_eq_some_iff.1 hx;exact hcell j s hs) hbk (by simpa using hc.1) (by simpa using hlc) (by rw[hmap];exact hc.2)
   rw[List.length_map,hmap]at hcall;exact hcall.mono λe w' h=>⟨h.1,St.zKs hv h.2⟩
 ·cases hN
theorem zDf:K8 30 zEV:=
 COk.zPY (l:=zv0.l) ⟨⟨_,Tryz.func30,by kernel_rfl,rfl⟩⟩ ⟨rfl,rfl⟩ rfl λz zo h w F vals hG hv hr=>by
  obtain⟨u,r1,rfl,q1,r2⟩:=hr.inv;obtain⟨u2,r3,rfl,q2,r4⟩:=r2.inv;have e2:=q2.zbn;subst e2;have hnil:=r4.zfg;subst hnil;obtain⟨A,c,rfl,hlc,hx⟩:=zTa q1 hv;exact(zz8 z.1 z.2.1 zo.1 h w F hv A c hlc hx).mono λe w' h=>⟨F,_,h.1,.v,h.2⟩
def ztr(n:zg):Option (Str×Int×Unit):=(zm0 (zC n)).bind λa=>if(a.1 !=0)=true then some ([],a.1,())else(zaZ n.L false []).bind λc=>(strings_Join c.2.1 [32]).bind λb=>let d:=((b.1.length:Nat):Int);if(decide (d>4096))=true then some ([],2,())else some (b.1,0,())
def zJp:=callee Y [] zDd zDm (λz=>ztr z.1)
def zJy:zab Y (zU Y zDm):= .nil
theorem zJl:K8 16 (zJp):=f8 zJy Tryz.func16 (.cons zxY (.cons zwk (.cons zDf .nil))) trivial
structure zbg where
 zbR:zg->zg->Option (Bool×Unit)
def znl:Shape:=⟨[(0,.st 25),(1,.st 25)],[]⟩
def znn(b:zbg):=callee Y [] znl zyu (u2 b.zbR)
structure zkm (g_:zbg):Prop where
 zbR:COk hY Tryz.prog zar 12 (znn g_)
def zbT(j:zbg):Int×Int×zg×zg×Unit->zUW| (b,a,c,d,())=>if(decide (a<b))=true then(zT c.L a).bind λe=>(zT d.L a).bind λf=>(j.zbR (zC e) (zC f)).bind λg=>if(!g.1)=true then some (.inr (false,()))else let h:=(IntKind.wrap .i64 (a+1));some (.inl (b,h,(zC c),(zC d),()))else some (.inr (true,()))
def zco(j:zbg):Int×Int×zg×zg×Unit->zUW| (d,a,b,c,())=>if(decide (a<d))=true then(zT b.Names a).bind λe=>(zT c.Names a).bind λf=>if(!(e==f))=true then some (.inr (false,()))else let g:=(IntKind.wrap .i64 (a+1));some (.inl (d,g,(zC b),(zC c),()))else let h:=((b.L.length:Nat):Int);zjf .inr (Lp.loop (zbT j) (h,0,(zC b),(zC c),()))
def zgN(i:zbg)(a:zg)(b:zg):Option (Bool×Unit):=let c:=((a.Kind !=b.Kind)||(!(a.Name==b.Name)));let d:=((c||(a.Num !=b.Num))||(!(a.Text==b.Text)));let e:=(d||(((a.Names.length:Nat):Int) !=((b.Names.length:Nat):Int)));let f:=(e||(((a.L.length:Nat):Int) !=((b.L.length:Nat):Int)));if f=true then some (false,())else let g:=((a.Names.length:Nat):Int);Lp.loop (zco i) (g,0,(zC a),(zC b),())
def zv4(b:zbg):=callee Y [] znl zyu (u2 (zgN b))
def zwK(b:zbg):zab Y (zU Y zyu):=(.loop [[7,5,2,1,2,2],[8,5,2,1,2,2],[6,2,1,2,2],[2,2,2]] ⟨[(2,.ptr 0 0),(3,.ptr 1 0),(53,.int .i64),(54,.int .i64)],[.whole 25 25,.whole 25 25]⟩ (zco b) .nil (.loop [[7,5,2,1,2,2,2],[8,5,2,1,2,2,2],[6,2,1,2,2,2],[2,2,2,2]] ⟨[(2,.ptr 0 0),(3,.ptr 1 0),(71,.int .i64),(72,.int .i64)],[.whole 25 25,.whole 25 25]⟩ (zbT b) .nil .nil))
theorem zsS(b:zbg)(d:zkm b):K8 12 (zv4 b):=f8 (zwK b) Tryz.func12 (.cons d.zbR .nil) ⟨λz=>by kernel_rfl,trivial,⟨λz=>by kernel_rfl,trivial,trivial⟩⟩
def zbf:Nat->zbg
 |0=>⟨λ_ _=>none⟩
 |n+1=>⟨zgN (zbf n)⟩
theorem zjF: ∀n,zkm (zbf n)
 |0=>⟨COk.none ⟨⟨_,Tryz.func12,by kernel_rfl,rfl⟩⟩⟩
 |n+1=>⟨zsS _ (zjF n)⟩
def zbR:zg->zg->Option (Bool×Unit):=(zbf Lp.big).zbR
theorem zu6:K8 12 (znn (zbf Lp.big)):=(zjF Lp.big).zbR
def zd7(i:Str):Option (Bool×Unit):=zh5.bind λb=>(zbE i).bind λa=>if(a.2.2.1 !=0)=true then let e:=(b.1&&(a.1.Kind==0));let f:=(e&&(((a.1.L.length:Nat):Int)==0));some (f,())else(zm0 (zC a.1)).bind λg=>if(g.1 !=0)=true then some (false,())else(ztr (zC a.1)).bind λc=>if(c.2.1 !=0)=true then some ((b.1&&(c.2.1==2)),())else(zbE c.1).bind λd=>if(b.1&&(d.2.2.1==0))=true then(zbR (zC d.1) (zC a.1)).bind λh=>some (h.1,())else some (false,())
def zkP:=callee Y [] zJZ zyu (λz=>zd7 z.1)
theorem zqP:K8 7 (zkP):=f8 zEo Tryz.func7 (.cons zvF (.cons zst (.cons zxY (.cons zJl (.cons zu6 .nil))))) trivial
end
end Go.D08
