/- Texts for a statement of this seat. -/
import Derived.Test.YtdapbipagjmolaaGreatDoorMe2
import Derived.Lib.AppendIntMem
set_option linter.unusedSectionVars false
set_option linter.unusedVariables false
set_option linter.unusedSimpArgs false
set_option linter.unnecessarySimpa false
namespace Go.D08
open Go Go.Gw Go.Dn Go.RowKit Go.Proofs
set_option maxRecDepth 100000
variable [Lp]
noncomputable section
structure zaR (F:Heap):Prop where
 maxLen: ∃m,zkF F 0 0 (.int .i64 m)
 zFN:zkF F 7 15 (.int .u8 4)
 zIJ: ∃t p,zkF F 1 0 (.iface t p)
 zIV: ∃t p,zkF F 2 0 (.iface t p)
 zET: ∀w:World,F.Sub w->Lib.TabIs Tryz.prog w "internal/strconv.uint64pow10" .u64 Lib.pow10Tab
theorem zaR.mono{F F':Heap}(h:zaR F)(hle:F.Le F'):zaR F':=⟨h.maxLen.imp λ_ e=>ziX hle e,ziX hle h.zFN,h.zIJ.imp λ_ e=>e.imp λ_ e=>ziX hle e,h.zIV.imp λ_ e=>e.imp λ_ e=>ziX hle e,λw hs=>h.zET w ⟨λx o e=>hs.out x o (hle.out x o e)⟩⟩
theorem gm(F F':Heap)(hle:F.Le F')(h:zaR F):zaR F':=h.mono hle
@[reducible] def fd {α:Type} (x:Option α):Option α:=fk x x
def u1{a b c:Type}(f:a->b)(z:a×c):b:=f z.1
def u2{a b c d:Type}(F:a->b->d)(Z:a×b×c):d:=u1 (F Z.1) Z.2
def u3{a b c d e:Type}(F:a->b->c->e)(Z:a×b×c×d):e:=u2 (F Z.1) Z.2
def u4{a b c d e f:Type}(F:a->b->c->d->f)(Z:a×b×c×d×e):f:=u3 (F Z.1) Z.2
def u5{a b c d e f g:Type}(F:a->b->c->d->e->g)(Z:a×b×c×d×e×f):g:=u4 (F Z.1) Z.2
def u6{a b c d e f g h:Type}(F:a->b->c->d->e->f->h)(Z:a×b×c×d×e×f×g):h:=u5 (F Z.1) Z.2
def u7{a b c d e f g h i:Type}(F:a->b->c->d->e->f->g->i)(Z:a×b×c×d×e×f×g×h):i:=u6 (F Z.1) Z.2
def u8{a b c d e f g h i j:Type}(F:a->b->c->d->e->f->g->h->j)(Z:a×b×c×d×e×f×g×h×i):j:=u7 (F Z.1) Z.2
def u9{a b c d e f g h i j k:Type}(F:a->b->c->d->e->f->g->h->i->k)(Z:a×b×c×d×e×f×g×h×i×j):k:=u8 (F Z.1) Z.2
def u10{a b c d e f g h i j k l:Type}(F:a->b->c->d->e->f->g->h->i->j->l)(Z:a×b×c×d×e×f×g×h×i×j×k):l:=u9 (F Z.1) Z.2
def u11{a b c d e f g h i j k l m:Type}(F:a->b->c->d->e->f->g->h->i->j->k->m)(Z:a×b×c×d×e×f×g×h×i×j×k×l):m:=u10 (F Z.1) Z.2
def u12{a b c d e f g h i j k l m n:Type}(F:a->b->c->d->e->f->g->h->i->j->k->l->n)(Z:a×b×c×d×e×f×g×h×i×j×k×l×m):n:=u11 (F Z.1) Z.2
def u13{a b c d e f g h i j k l m n o:Type}(F:a->b->c->d->e->f->g->h->i->j->k->l->m->o)(Z:a×b×c×d×e×f×g×h×i×j×k×l×m×n):o:=u12 (F Z.1) Z.2
def u14{a b c d e f g h i j k l m n o p:Type}(F:a->b->c->d->e->f->g->h->i->j->k->l->m->n->p)(Z:a×b×c×d×e×f×g×h×i×j×k×l×m×n×o):p:=u13 (F Z.1) Z.2
def u15{a b c d e f g h i j k l m n o p q:Type}(F:a->b->c->d->e->f->g->h->i->j->k->l->m->n->o->q)(Z:a×b×c×d×e×f×g×h×i×j×k×l×m×n×o×p):q:=u14 (F Z.1) Z.2
def u16{a b c d e f g h i j k l m n o p q r:Type}(F:a->b->c->d->e->f->g->h->i->j->k->l->m->n->o->p->r)(Z:a×b×c×d×e×f×g×h×i×j×k×l×m×n×o×p×q):r:=u15 (F Z.1) Z.2
def u17{a b c d e f g h i j k l m n o p q r s:Type}(F:a->b->c->d->e->f->g->h->i->j->k->l->m->n->o->p->q->s)(Z:a×b×c×d×e×f×g×h×i×j×k×l×m×n×o×p×q×r):s:=u16 (F Z.1) Z.2
def u18{a b c d e f g h i j k l m n o p q r s t:Type}(F:a->b->c->d->e->f->g->h->i->j->k->l->m->n->o->p->q->r->t)(Z:a×b×c×d×e×f×g×h×i×j×k×l×m×n×o×p×q×r×s):t:=u17 (F Z.1) Z.2
def u19{a b c d e f g h i j k l m n o p q r s t u:Type}(F:a->b->c->d->e->f->g->h->i->j->k->l->m->n->o->p->q->r->s->u)(Z:a×b×c×d×e×f×g×h×i×j×k×l×m×n×o×p×q×r×s×t):u:=u18 (F Z.1) Z.2
def u20{a b c d e f g h i j k l m n o p q r s t u v:Type}(F:a->b->c->d->e->f->g->h->i->j->k->l->m->n->o->p->q->r->s->t->v)(Z:a×b×c×d×e×f×g×h×i×j×k×l×m×n×o×p×q×r×s×t×u):v:=u19 (F Z.1) Z.2
def oc0(a b:Nat):zcK:= .cells 25 [.int .i64,.str,.int .i64,.str,.own a,.own b]
def oc1(a:Nat):zcK:= .cells 23 [.own a]
def oc2(a:Nat):zcK:= .cells 134 [.str,.junk,.own a]
abbrev K8(n:FuncId)(C:Dn.Callee Y):Prop:=COk hY Tryz.prog zaR n C
theorem f8{f:FuncId}{fn:Func}{keep:List Nat}{σ:Shape}{outs:List zan}{T:_}{g:zgw Y σ->Option (zar Y outs)}(c:zau Y (zar Y outs))(hf:Tryz.prog.funcs[f]? =some fn)(hT:zcu hY Tryz.prog zaR T)(hO:Obl Y Tryz.prog T fn.ntmps σ.m.length (fn.body.getD .skip) [] (zn6 Y Tryz.prog σ.m.length fn.results.toList outs) (zCu Y σ.m.length outs) c)
  (h1:((fn.body.isSome&& !(fn.name== "runtime.NumGoroutine"))&&(Nat.ble (keys σ.l).length fn.ntmps&&zxp (keys σ.l) (iota 0 (keys σ.l).length)&&outs.all λo=>zj5 σ.m o.m))=true:=by kernel_rfl)
  (hg: ∀z,goA Y Tryz.prog T fn.ntmps true (tbl Y σ.m.length c) (zn6 Y Tryz.prog σ.m.length fn.results.toList outs) (zCu Y σ.m.length outs) 100000 false [(0,.code (fn.body.getD .skip))] (zeS Y σ z)=g z:=by intro z;kernel_rfl):K8 f (callee Y keep σ outs g):=fo c hf h1 hsz gm hT hO hg
def zjA(t:Str)(p:Str):Option (Bool):=some (Lib.hasPrefix t p)
theorem zjA.ok(t:Str)(p:Str)(r:Bool)(h0:zjA t p=some r)(w0:World)(F0:Heap)(hv:F0.Sub w0)(hG:zaR F0)(hg:SV.zbs F0 [.v (.string ⟨⟨t⟩⟩),.v (.string ⟨⟨p⟩⟩)])(ρ:Nat->Nat):
  Calls Tryz.prog 63 (SV.zaV ρ [.v (.string ⟨⟨t⟩⟩),.v (.string ⟨⟨p⟩⟩)]).toArray w0 (zfI w0 F0 λs=>s= .v (.bool r)):=by
 refine(Tryz.strings_HasPrefix ⟨⟨t⟩⟩ ⟨⟨p⟩⟩ w0).mono λe w' h=>?_
 cases h0;exact zfI.pure (s:= .v _) hv h.1 h.2 trivial rfl rfl
def strings_HasPrefix(t:Str)(p:Str):Option (Bool×Unit):=zfT (λr=>(r,())) (zjA t p)
def zrg:Shape:=⟨[(0,.str),(1,.str)],[]⟩
def zBR:List zan:=[⟨false,.bool,[]⟩]
def zBg:=callee Y [] zrg zBR (λz=>strings_HasPrefix z.1 z.2.1)
theorem zAJ:K8 63 zBg:=
 COk.ext (l:=zrg.l) ⟨⟨_,Tryz.func63,by kernel_rfl,rfl⟩⟩ ⟨rfl,rfl⟩ rfl λz zo h=>⟨_,_,rfl,rfl,λw F hG hv=>by
  obtain⟨r,hr,rfl⟩:=zlB h;exact zjA.ok z.1 z.2.1 r hr w F hv hG (by simp[SV.zbs,SV.good]) (λ_=>0)⟩
def zgo(t:Str)(a:Str):Option (Int):=if t.length<4294967281/\a=[10,13]then some (Lib.indexAny t [10,13])else none
theorem zgo.ok(t:Str)(cs:Str)(r:Int)(h0:zgo t cs=some r)(w0:World)(F0:Heap)(hv:F0.Sub w0)(hG:zaR F0)(hg:SV.zbs F0 [.v (.string ⟨⟨t⟩⟩),.v (.string ⟨⟨cs⟩⟩)])(ρ:Nat->Nat):
  Calls Tryz.prog 64 (SV.zaV ρ [.v (.string ⟨⟨t⟩⟩),.v (.string ⟨⟨cs⟩⟩)]).toArray w0 (zfI w0 F0 λs=>s= .v (.int .i64 r)):=by
 unfold zgo at h0;split at h0
 ·rename_i hc;cases h0;obtain⟨hc,rfl⟩:=hc;refine(Gw.zrd Tryz.lays153 (by kernel_rfl) ⟨⟨t⟩⟩ w0 hc).mono λe w' h=>?_
  exact zfI.below (s:= .v _) hv h.1 h.2 trivial rfl rfl
 ·cases h0
def strings_IndexAny(t:Str)(a:Str):Option (Int×Unit):=zfT (λr=>(r,())) (zgo t a)
def zB2:List zan:=[⟨false,.int .i64,[]⟩]
def zCh:=callee Y [] zrg zB2 (λz=>strings_IndexAny z.1 z.2.1)
theorem zBw:K8 64 zCh:=
 COk.ext (l:=zrg.l) ⟨⟨_,Tryz.func64,by kernel_rfl,rfl⟩⟩ ⟨rfl,rfl⟩ rfl λz zo h=>⟨_,_,rfl,rfl,λw F hG hv=>by
  obtain⟨r,hr,rfl⟩:=zlB h;exact zgo.ok z.1 z.2.1 r hr w F hv hG (by simp[SV.zbs,SV.good]) (λ_=>0)⟩
def zie(t:Str)(a:Str):Option (Int):=if t.length<4294967281 then some (Lib.index t a)else none
theorem zie.ok(t:Str)(sub:Str)(r:Int)(h0:zie t sub=some r)(w0:World)(F0:Heap)(hv:F0.Sub w0)(hG:zaR F0)(hg:SV.zbs F0 [.v (.string ⟨⟨t⟩⟩),.v (.string ⟨⟨sub⟩⟩)])(ρ:Nat->Nat):
  Calls Tryz.prog 65 (SV.zaV ρ [.v (.string ⟨⟨t⟩⟩),.v (.string ⟨⟨sub⟩⟩)]).toArray w0 (zfI w0 F0 λs=>s= .v (.int .i64 r)):=by
 unfold zie at h0;split at h0
 ·rename_i hc;cases h0;obtain⟨m,hm⟩:=hG.maxLen;refine(Tryz.strings_Index ⟨⟨t⟩⟩ ⟨⟨sub⟩⟩ m w0 hc (ziV hv hm)).mono λe w' h=>?_
  exact zfI.pure (s:= .v _) hv h.1 h.2 trivial rfl rfl
 ·cases h0
def strings_Index(t:Str)(a:Str):Option (Int×Unit):=zfT (λr=>(r,())) (zie t a)
def zFh:=callee Y [] zrg zB2 (λz=>strings_Index z.1 z.2.1)
theorem zEi:K8 65 zFh:=
 COk.ext (l:=zrg.l) ⟨⟨_,Tryz.func65,by kernel_rfl,rfl⟩⟩ ⟨rfl,rfl⟩ rfl λz zo h=>⟨_,_,rfl,rfl,λw F hG hv=>by
  obtain⟨r,hr,rfl⟩:=zlB h;exact zie.ok z.1 z.2.1 r hr w F hv hG (by simp[SV.zbs,SV.good]) (λ_=>0)⟩
def zeW(t:Str)(a:Str):Option (Bool):=if t.length<4294967281/\a=[10,13]then some (Lib.containsAny t [10,13])else none
theorem zeW.ok(t:Str)(cs:Str)(r:Bool)(h0:zeW t cs=some r)(w0:World)(F0:Heap)(hv:F0.Sub w0)(hG:zaR F0)(hg:SV.zbs F0 [.v (.string ⟨⟨t⟩⟩),.v (.string ⟨⟨cs⟩⟩)])(ρ:Nat->Nat):
  Calls Tryz.prog 66 (SV.zaV ρ [.v (.string ⟨⟨t⟩⟩),.v (.string ⟨⟨cs⟩⟩)]).toArray w0 (zfI w0 F0 λs=>s= .v (.bool r)):=by
 unfold zeW at h0;split at h0
 ·rename_i hc;cases h0;obtain⟨hc,rfl⟩:=hc;refine(Gw.zxq Tryz.lays150 (by kernel_rfl) ⟨⟨t⟩⟩ w0 hc).mono λe w' h=>?_
  exact zfI.below (s:= .v _) hv h.1 h.2 trivial rfl rfl
 ·cases h0
def strings_ContainsAny(t:Str)(a:Str):Option (Bool×Unit):=zfT (λr=>(r,())) (zeW t a)
def zyv:=callee Y [] zrg zBR (λz=>strings_ContainsAny z.1 z.2.1)
theorem zxu:K8 66 zyv:=
 COk.ext (l:=zrg.l) ⟨⟨_,Tryz.func66,by kernel_rfl,rfl⟩⟩ ⟨rfl,rfl⟩ rfl λz zo h=>⟨_,_,rfl,rfl,λw F hG hv=>by
  obtain⟨r,hr,rfl⟩:=zlB h;exact zeW.ok z.1 z.2.1 r hr w F hv hG (by simp[SV.zbs,SV.good]) (λ_=>0)⟩
abbrev zSM:=Option ((Str×Int×Int×Bool×Unit)⊕(Bool×Unit))
abbrev zGa:=Option ((List zf)×zg×Unit)
abbrev zNw:=Option ((zaQ×zk×Unit)⊕(zk×Unit))
abbrev zSZ:=Option ((zaD×Unit)⊕(Bool×zaD×Unit))
abbrev zRY:=Option ((Int×(List zf)×Int×Int×Unit)⊕(Int×Unit))
abbrev zST:=Option ((Int×Int×zf×zf×Unit)⊕(Bool×Unit))
abbrev zFZ:=Option ((Str×Int×Int×(List UInt8)×Unit)⊕(Str×Int×Unit))
abbrev zki:=Option ((zf×zk×Unit)⊕(zaQ×zk×Unit))
abbrev zbU:=Option ((zaQ×zk×Unit)⊕(zf×zk×Unit))
abbrev zGk:=Option (((List zf)×zk×Unit)⊕(zaQ×zk×Unit))
abbrev zEg:=Option (((List zf)×Int×Int×Bool×(List Str)×Unit)⊕(Bool×(List Str)×Unit))
abbrev zGh:=Option ((zk×(List zf)×Unit)⊕(zaQ×zk×(List zf)×Unit))
abbrev zGr:=Option ((Int×Bool×Str×Int×Int×Bool×Int×(List UInt8)×Int×Int×Unit)⊕(Int×zaQ×Unit))
abbrev zGj:=Option ((zk×Str×(List zf)×Bool×Unit)⊕(zaQ×zk×Str×(List zf)×Bool×Unit))
abbrev zTe:=Option ((Bool×Str×zk×(List zf)×Unit)⊕(((List zf)×zk×Unit)⊕(zaQ×zk×Unit)))
abbrev OT9:=Option ((zg×Int×Str×Int×Str×zf×(List Str)×(List zf)×Unit)⊕(zf×zg×Unit))
abbrev OT8:=Option ((zk×zf×(List Str)×(List zf)×Unit)⊕(zaQ×zk×Int×Str×Int×Str×(List Str)×(List zf)×Unit))
abbrev OT7:=Option ((zaQ×zk×Int×Str×Int×Str×(List Str)×(List zf)×Unit)⊕(zk×Int×Str×Int×Str×(List Str)×(List zf)×Unit))
abbrev OT6:=Option ((zk×Int×Str×Int×Str×(List zf)×(List Str)×(List zf)×Unit)⊕(zaQ×zk×Int×Str×Int×Str×(List Str)×(List zf)×Unit))
abbrev OT5:=Option ((zg×Int×Str×Int×Str×Int×Str×Int×Str×(List Str)×(List zf)×(List Str)×(List zf)×Unit)⊕(zf×zg×Unit))
abbrev OT4:=Option ((zaQ×zk×Str×Int×Str×Int×Str×(List Str)×(List zf)×Bool×Unit)⊕(zk×Str×Int×Str×Int×Str×(List Str)×(List zf)×Bool×Unit))
abbrev OT3:=Option ((Bool×zg×Int×Str×Int×Str×Int×Str×Int×Str×(List Str)×(List zf)×(List Str)×(List zf)×Unit)⊕(zf×zg×Unit))
abbrev OT2:=Option ((zk×Int×Str×Int×Str×Int×Str×Int×Str×(List Str)×(List zf)×(List Str)×(List zf)×Unit)⊕((zaQ×zk×Unit)⊕(zf×zk×Unit)))
abbrev OT1:=Option ((Bool×zk×Int×Str×Int×Str×Int×Str×Int×Str×(List Str)×(List zf)×(List Str)×(List zf)×Unit)⊕((zaQ×zk×Unit)⊕(zf×zk×Unit)))
abbrev OT0:=Option ((zk×Str×Int×Str×Int×Str×(List Str)×(List zf)×Bool×Unit)⊕((zaQ×zk×Str×Int×Str×Int×Str×(List Str)×(List zf)×Bool×Unit)⊕(zk×Str×Int×Str×Int×Str×(List Str)×(List zf)×Bool×Unit)))
def zdP(b:Int)(a:zaD):zSZ:=if a.fresh=true then(zbv a.rest b ((a.rest.length:Nat):Int)).bind λc=>some (.inl (⟨a.src,c,true⟩,()))else(zbv a.rest 0 b).bind λd=>(strings_ContainsAny d [10,13]).bind λe=>(zbv a.rest b ((a.rest.length:Nat):Int)).bind λf=>some (.inl (⟨a.src,f,e.1⟩,()))
def za1:zaD×Unit->zSZ| (a,())=>if(!(a.rest==[]))=true then(strings_HasPrefix a.rest [47,47]).bind λd=>if d.1=true then(strings_IndexAny a.rest [10,13]).bind λb=>if(decide (b.1<0))=true then let e:=((a.rest.length:Nat):Int);zdP e (zfo a)else zdP b.1 (zfo a)else(strings_HasPrefix a.rest [47,42]).bind λf=>if f.1=true then(zbv a.rest 2 ((a.rest.length:Nat):Int)).bind λg=>(strings_Index g [42,47]).bind λc=>if(decide (c.1<0))=true then some (.inr (false,(zfo a),()))else let h:=(IntKind.wrap .i64 (c.1+4));zdP h (zfo a)else(zbc a.rest 0).bind λi=>(if(i !=32)=true then(zbc a.rest 0).bind λj=>(if(decide (j<9))=true then some true else(zbc a.rest 0).bind λk=>some (decide (k>13))).bind λl=>some l else some false).bind λm=>if m=true then some (.inr (true,(zfo a),()))else zdP 1 (zfo a)else some (.inr (true,(zfo a),()))
def zjG(x:zaD):Option (Bool×zaD×Unit):=Lp.loop za1 (⟨x.src,x.rest,false⟩,())
def zx7:Shape:=⟨[(0,.ptr 0 0)],[.whole 69 69]⟩
def zpz:List zan:=[⟨false,.bool,[.whole 69 69]⟩]
def zye:=callee Y [] zx7 zpz (λz=>zjG z.1)
def zy3:zau Y (zar Y zpz):=(.loop [[7,5,1,2,2,9,2],[8,5,1,2,2,9,2],[6,1,2,2,9,2],[2,2,2,9,2],[10,2]] ⟨[(0,.ptr 0 0)],[.whole 69 69]⟩ (za1) (.join [[1,2,2,5,2,7,5,1,2,2,9,2],[2,2,2,5,2,7,5,1,2,2,9,2],[6,2,7,5,1,2,2,9,2],[8,5,1,2,2,9,2],[6,1,2,2,9,2],[2,2,2,9,2],[10,2]] ⟨[(0,.ptr 0 0),(3,.int .i64)],[.whole 69 69]⟩ (u2 zdP) .nil) .nil)
theorem zxl:K8 32 (zye):=f8 zy3 Tryz.func32 (.cons zAJ (.cons zBw (.cons zEi (.cons zxu .nil)))) ⟨λz=>by kernel_rfl,⟨λz=>by kernel_rfl,⟨⟩⟩,trivial⟩
def zsa(s:List zl):Option ((List zl)×Unit):=(zIo s 0 ((s.length:Nat):Int) ((s.length:Nat):Int)).bind λa=>some (a,())
def zHw:Shape:=⟨[(0,.sl 36)],[]⟩
def zA3:List zan:=[⟨false,.sl 36,[]⟩]
def zHq:=callee Y [] zHw zA3 (λz=>zsa z.1)
def zHn:zau Y (zar Y zA3):= .nil
theorem zF1:K8 33 (zHq):=f8 zHn Tryz.func33 .nil trivial
def znx(c:Int):Option (Bool×Unit):=let a:=(IntKind.wrap .u8 ((BitVec.ofInt 8 c|||BitVec.ofInt 8 32).toNat));let b:=((decide (a>=97))&&(decide ((IntKind.wrap .u8 ((BitVec.ofInt 8 c|||BitVec.ofInt 8 32).toNat))<=122)));let d:=((b||(c==95))||(c==36));some (d,())
def zFT:Shape:=⟨[(0,.int .u8)],[]⟩
def zFU:=callee Y [] zFT zBR (λz=>znx z.1)
def zFV:zau Y (zar Y zBR):= .nil
theorem zwj:K8 67 (zFU):=f8 zFV Tryz.func67 .nil trivial
def zov(c:Int):Option (Bool×Unit):=let a:=((decide (c>=48))&&(decide (c<=57)));some (a,())
def zHC:=callee Y [] zFT zBR (λz=>zov z.1)
theorem zyY:K8 70 (zHC):=f8 zFV Tryz.func70 .nil trivial
def zjr:Str×Int×Int×Unit->Option ((Str×Int×Int×Unit)⊕(Int×Unit))| (b,c,a,())=>if(decide (a<c))=true then(zbc b a).bind λd=>(znx d).bind λe=>if(!e.1)=true then(zbc b a).bind λf=>(zov f).bind λg=>if(!g.1)=true then some (.inr (a,()))else let h:=(IntKind.wrap .i64 (a+1));some (.inl (b,c,h,()))else let i:=(IntKind.wrap .i64 (a+1));some (.inl (b,c,i,()))else some (.inr (((b.length:Nat):Int),()))
def zwl(s:Str):Option (Int×Unit):=Lp.loop zjr (s,((s.length:Nat):Int),0,())
def zJJ:Shape:=⟨[(0,.str)],[]⟩
def zJy:=callee Y [] zJJ zB2 (λz=>zwl z.1)
def zJN:zau Y (zar Y zB2):=(.loop [[7,5,2,1,2],[8,5,2,1,2],[6,2,1,2],[2,2]] ⟨[(0,.str),(5,.int .i64),(6,.int .i64)],[]⟩ (zjr) .nil .nil)
theorem zCb:K8 68 (zJy):=f8 zJN Tryz.func68 (.cons zwj (.cons zyY .nil)) ⟨λz=>by kernel_rfl,trivial,trivial⟩
def zd2(t:Str)(a:Str):Option (Bool):=if t.length<4294967281 then some (Lib.contains t a)else none
theorem zd2.ok(t:Str)(sub:Str)(r:Bool)(h0:zd2 t sub=some r)(w0:World)(F0:Heap)(hv:F0.Sub w0)(hG:zaR F0)(hg:SV.zbs F0 [.v (.string ⟨⟨t⟩⟩),.v (.string ⟨⟨sub⟩⟩)])(ρ:Nat->Nat):
  Calls Tryz.prog 129 (SV.zaV ρ [.v (.string ⟨⟨t⟩⟩),.v (.string ⟨⟨sub⟩⟩)]).toArray w0 (zfI w0 F0 λs=>s= .v (.bool r)):=by
 unfold zd2 at h0;split at h0
 ·rename_i hc;cases h0;obtain⟨m,hm⟩:=hG.maxLen;refine(Tryz.strings_Contains ⟨⟨t⟩⟩ ⟨⟨sub⟩⟩ m w0 hc (ziV hv hm)).mono λe w' h=>?_
  exact zfI.pure (s:= .v _) hv h.1 h.2 trivial rfl rfl
 ·cases h0
def strings_Contains(t:Str)(a:Str):Option (Bool×Unit):=zfT (λr=>(r,())) (zd2 t a)
def zCy:=callee Y [] zrg zBR (λz=>strings_Contains z.1 z.2.1)
theorem zmt:K8 129 zCy:=
 COk.ext (l:=zrg.l) ⟨⟨_,Tryz.func129,by kernel_rfl,rfl⟩⟩ ⟨rfl,rfl⟩ rfl λz zo h=>⟨_,_,rfl,rfl,λw F hG hv=>by
  obtain⟨r,hr,rfl⟩:=zlB h;exact zd2.ok z.1 z.2.1 r hr w F hv hG (by simp[SV.zbs,SV.good]) (λ_=>0)⟩
def zi1(e:Str)(s:Str):Option (Bool×Unit):=if(!(s==[]))=true then(strings_Contains s [32]).bind λa=>if(!a.1)=true then(zmy [32] s).bind λb=>(zmy b [32]).bind λc=>(strings_Contains e c).bind λd=>some (d.1,())else some (false,())else some (false,())
def zHA:=callee Y [] zrg zBR (u2 zi1)
theorem zzj:K8 73 (zHA):=f8 zFV Tryz.func73 (.cons zmt .nil) trivial
def zvp(s:Str):Option (Bool×Unit):=(zi1 [32,98,114,101,97,107,32,99,97,115,101,32,99,97,116,99,104,32,99,108,97,115,115,32,99,111,110,115,116,32,99,111,110,116,105,110,117,101,32,100,101,98,117,103,103,101,114,32,100,101,102,97,117,108,116,32,100,101,108,101,116,101,32,100,111,32,101,108,115,101,32,101,110,117,109,32,101,120,112,111,114,116,32,101,120,116,101,110,100,115,32,102,97,108,115,101,32,102,105,110,97,108,108,121,32,102,111,114,32,102,117,110,99,116,105,111,110,32,105,102,32,105,109,112,108,101,109,101,110,116,115,32,105,109,112,111,114,116,32,105,110,32,105,110,115,116,97,110,99,101,111,102,32,105,110,116,101,114,102,97,99,101,32,108,101,116,32,110,101,119,32,110,117,108,108,32,112,97,99,107,97,103,101,32,112,114,105,118,97,116,101,32,112,114,111,116,101,99,116,101,100,32,112,117,98,108,105,99,32,114,101,116,117,114,110,32,115,116,97,116,105,99,32,115,117,112,101,114,32,115,119,105,116,99,104,32,116,104,105,115,32,116,104,114,111,119,32,116,114,117,101,32,116,114,121,32,116,121,112,101,111,102,32,118,97,114,32,118,111,105,100,32,119,104,105,108,101,32,119,105,116,104,32,121,105,101,108,100,32] s).bind λa=>some (a.1,())
def zGx:=callee Y [] zJJ zBR (λz=>zvp z.1)
theorem zFG:K8 69 (zGx):=f8 zFV Tryz.func69 (.cons zzj .nil) trivial
def zcz(c:Int):Option (Int×Unit):=let a:=(IntKind.wrap .u8 ((BitVec.ofInt 8 c|||BitVec.ofInt 8 32).toNat));some (a,())
def zwk:List zan:=[⟨false,.int .u8,[]⟩]
def zEA:=callee Y [] zFT zwk (λz=>zcz z.1)
def zFa:zau Y (zar Y zwk):= .nil
theorem zu3:K8 182 (zEA):=f8 zFa Tryz.func182 .nil trivial
def zhi(a:Str)(c:Int)(b:Int)(d:Bool):zSM:=(zbc a b).bind λe=>if(e==95)=true then if(c !=48)=true then some (.inr (false,()))else let f:=(IntKind.wrap .i64 (b+1));some (.inl (a,95,f,d,()))else if(c==95)=true then some (.inr (false,()))else let g:=(IntKind.wrap .i64 (b+1));some (.inl (a,33,g,d,()))
def zd4:Str×Int×Int×Bool×Unit->zSM| (a,d,b,c,())=>let e:=(decide (b< ((a.length:Nat):Int)));if e=true then(zbc a b).bind λf=>(if(decide (48<=f))=true then(zbc a b).bind λg=>some (decide (g<=57))else some false).bind λh=>if h=true then let i:=(IntKind.wrap .i64 (b+1));some (.inl (a,48,i,c,()))else if c=true then(zbc a b).bind λj=>(zcz j).bind λk=>if(decide (97<=k.1))=true then(zbc a b).bind λl=>(zcz l).bind λm=>if(decide (m.1<=102))=true then let n:=(IntKind.wrap .i64 (b+1));some (.inl (a,48,n,c,()))else zhi a d b c else zhi a d b c else zhi a d b c else some (.inr ((d !=95),()))
def znW(a:Str)(b:Int)(c:Int)(d:Bool):Option (Bool×Unit):=let e:=(decide (((a.length:Nat):Int)>=2));(if e=true then(zbc a 0).bind λf=>some (f==48)else some false).bind λg=>if g=true then(zbc a 1).bind λh=>(zcz h).bind λi=>if(i.1==98)=true then(zbc a 1).bind λj=>(zcz j).bind λk=>Lp.loop zd4 (a,48,2,(k.1==120),())else(zbc a 1).bind λl=>(zcz l).bind λm=>if(m.1==111)=true then(zbc a 1).bind λn=>(zcz n).bind λo=>Lp.loop zd4 (a,48,2,(o.1==120),())else(zbc a 1).bind λp=>(zcz p).bind λq=>if(q.1==120)=true then(zbc a 1).bind λr=>(zcz r).bind λs=>Lp.loop zd4 (a,48,2,(s.1==120),())else Lp.loop zd4 (a,b,c,d,())else Lp.loop zd4 (a,b,c,d,())
def zjW(a:Str)(b:Int)(c:Int):Option (Bool×Unit):=znW a b c false
def zqJ(s:Str):Option (Bool×Unit):=let a:=(decide (((s.length:Nat):Int)>=1));(if a=true then(zbc s 0).bind λb=>(if(b==45)=true then some true else(zbc s 0).bind λc=>some (c==43)).bind λd=>some d else some false).bind λe=>if e=true then(zbv s 1 ((s.length:Nat):Int)).bind λf=>zjW f 94 0 else zjW s 94 0
def zxR:=callee Y [] zJJ zBR (λz=>zqJ z.1)
def zxv:zau Y (zar Y zBR):=(.join [[1,2,2,2,2],[2,2,2,2,2]] ⟨[(0,.str),(3,.int .i32),(4,.int .i64)],[]⟩ (u3 zjW) (.join [[1,1,2,2,2,2,2],[2,1,2,2,2,2,2],[2,2,2,2,2,2]] ⟨[(0,.str),(3,.int .i32),(4,.int .i64),(5,.bool)],[]⟩ (u4 znW) (.loop [[7,5,1,2,2,2,2,2,2],[8,5,1,2,2,2,2,2,2],[6,1,2,2,2,2,2,2],[2,2,2,2,2,2,2]] ⟨[(0,.str),(3,.int .i32),(4,.int .i64),(5,.bool)],[]⟩ (zd4) (.join [[1,1,2,5,1,2,7,5,1,2,2,2,2,2,2],[2,1,2,5,1,2,7,5,1,2,2,2,2,2,2],[2,2,5,1,2,7,5,1,2,2,2,2,2,2],[6,1,2,7,5,1,2,2,2,2,2,2],[2,2,7,5,1,2,2,2,2,2,2],[8,5,1,2,2,2,2,2,2],[6,1,2,2,2,2,2,2],[2,2,2,2,2,2,2]] ⟨[(0,.str),(3,.int .i32),(4,.int .i64),(5,.bool)],[]⟩ (u4 zhi) .nil) .nil)))
theorem zvS:K8 183 (zxR):=f8 zxv Tryz.func183 (.cons zu3 .nil) ⟨λz=>by kernel_rfl,⟨λz=>by kernel_rfl,⟨λz=>by kernel_rfl,⟨λz=>by kernel_rfl,⟨⟩⟩,trivial⟩⟩⟩
def zio(c:Int)(d:Bool)(e:Str)(f:Int)(a:Int)(g:Bool)(h:Int)(b:Int)(i:List UInt8)(j:Int)(k:Int):zGr:=let l:=((decide (b<h))||(decide (b>a)));if l=true then some (.inr (a,(zaQ.code 156 1),()))else let m:=(IntKind.wrap .i64 (k+1));some (.inl (c,d,e,f,a,g,b,i,j,m,()))
def ziy(b:Int)(c:Bool)(d:Str)(e:Int)(f:Int)(g:Bool)(a:Int)(h:Int)(i:List UInt8)(j:Int)(k:Int):zGr:=let l:=(IntKind.wrap .u64 (a+(IntKind.wrap .u64 h)));zio b c d e f g a l i j k
def ziB(a:Int)(b:Bool)(c:Str)(d:Int)(e:Int)(f:Bool)(g:Int)(h:Int)(i:List UInt8)(j:Int)(k:Int):zGr:=let l:=(IntKind.wrap .u64 (g*(IntKind.wrap .u64 a)));ziy a b c d e f l h i j k
def ziu(d:Int)(e:Bool)(f:Str)(a:Int)(b:Int)(g:Bool)(c:Int)(h:Int)(i:List UInt8)(j:Int)(k:Int):zGr:=if(decide (c>=a))=true then some (.inr (b,(zaQ.code 156 1),()))else ziB d e f a b g c h i j k
def zem(a:Int)(c:Bool)(d:Str)(e:Int)(f:Int)(g:Bool)(h:Int)(b:Int)(i:List UInt8)(j:Int)(k:Int):zGr:=let l:=(decide (b>=(IntKind.wrap .u8 a)));if l=true then some (.inr (0,(zaQ.code 156 2),()))else ziu a c d e f g h b i j k
def zb7:Int×Bool×Str×Int×Int×Bool×Int×(List UInt8)×Int×Int×Unit->zGr| (h,d,e,i,j,k,b,f,g,c,())=>if(decide (c<g))=true then(zas f c).bind λa=>let l:=(((a.toNat:Nat):Int)==95);if(l&&d)=true then let m:=(IntKind.wrap .i64 (c+1));some (.inl (h,d,e,i,j,true,b,f,g,m,()))else let n:=(decide (48<=((a.toNat:Nat):Int)));let o:=(n&&(decide (((a.toNat:Nat):Int)<=57)));if o=true then let p:=(IntKind.wrap .u8 (((a.toNat:Nat):Int) -48));zem h d e i j k b p f g c else(zcz ((a.toNat:Nat):Int)).bind λq=>if(decide (97<=q.1))=true then(zcz ((a.toNat:Nat):Int)).bind λr=>if(decide (r.1<=122))=true then(zcz ((a.toNat:Nat):Int)).bind λs=>let t:=(IntKind.wrap .u8 (s.1 -97));let u:=(IntKind.wrap .u8 (t+10));zem h d e i j k b u f g c else some (.inr (0,(zaQ.code 156 2),()))else some (.inr (0,(zaQ.code 156 2),()))else if k=true then(zqJ e).bind λv=>if(!v.1)=true then some (.inr (0,(zaQ.code 156 2),()))else some (.inr (b,zaQ.nil,()))else some (.inr (b,zaQ.nil,()))
def zmi(a:Str)(b:Int)(c:Int)(d:Bool)(e:Str):Option (Int×zaQ×Unit):=(zJp .u64 18446744073709551615 (IntKind.wrap .u64 b)).bind λf=>let g:=(IntKind.wrap .u64 (f+1));(zEv .u64 1 (IntKind.wrap .u64 c)).bind λh=>let i:=(IntKind.wrap .u64 (h -1));let j:=((a.length:Nat):Int);Lp.loop zb7 (b,d,e,g,i,false,0,a,j,0,())
def zis(a:Str)(b:Int)(c:Int)(d:Bool)(e:Str)(f:Int):Option (Int×zaQ×Unit):=if(f==16)=true then(zEv .u64 1 (IntKind.wrap .u64 c)).bind λg=>let h:=(IntKind.wrap .u64 (g -1));let i:=((a.length:Nat):Int);Lp.loop zb7 (b,d,e,1152921504606846976,h,false,0,a,i,0,())else zmi a b c d e
def ziz(a:Str)(b:Int)(c:Int)(d:Bool)(e:Str)(f:Int):Option (Int×zaQ×Unit):=if(f==10)=true then(zEv .u64 1 (IntKind.wrap .u64 c)).bind λg=>let h:=(IntKind.wrap .u64 (g -1));Lp.loop zb7 (b,d,e,1844674407370955162,h,false,0,a,((a.length:Nat):Int),0,())else zis a b c d e f
def zir(b:Str)(a:Int)(c:Int)(d:Bool)(e:Str):Option (Int×zaQ×Unit):=ziz b a c d e a
def zfV(a:Str)(b:Int)(c:Int)(d:Bool)(e:Str):Option (Int×zaQ×Unit):=zir a b c d e
def ziA(b:Str)(c:Int)(a:Int)(d:Bool)(e:Str):Option (Int×zaQ×Unit):=let f:=((decide (a<0))||(decide (a>64)));if f=true then some (0,(zaQ.code 156 4),())else zfV b c a d e
def zmd(a:Str)(b:Int)(c:Bool)(d:Str):Option (Int×zaQ×Unit):=zfV a b 64 c d
def zcE(a:Str)(b:Int)(c:Int)(d:Bool)(e:Str):Option (Int×zaQ×Unit):=if(c==0)=true then zmd a b d e else ziA a b c d e
def zmW(a:Str)(b:Int)(c:Int)(d:Bool)(e:Str):Option (Int×zaQ×Unit):=(zbv a 1 ((a.length:Nat):Int)).bind λf=>zcE f b c d e
def ziT(a:Str)(b:Int)(c:Bool)(d:Str):Option (Int×zaQ×Unit):=zmW a 8 b c d
def zm3(a:Str)(b:Int)(c:Int)(d:Bool)(e:Str):Option (Int×zaQ×Unit):=(zbv a 2 ((a.length:Nat):Int)).bind λf=>zcE f b c d e
def zmT(a:Str)(b:Int)(c:Bool)(d:Str):Option (Int×zaQ×Unit):=zm3 a 16 b c d
def ziL(a:Str)(b:Int)(c:Bool)(d:Str):Option (Int×zaQ×Unit):=let e:=(decide (((a.length:Nat):Int)>=3));if e=true then(zbc a 1).bind λf=>(zcz f).bind λg=>if(g.1==120)=true then zmT a b c d else ziT a b c d else ziT a b c d
def zmZ(a:Str)(b:Int)(c:Int)(d:Bool)(e:Str):Option (Int×zaQ×Unit):=(zbv a 2 ((a.length:Nat):Int)).bind λf=>zcE f b c d e
def zmO(a:Str)(b:Int)(c:Bool)(d:Str):Option (Int×zaQ×Unit):=zmZ a 8 b c d
def ziH(a:Str)(b:Int)(c:Bool)(d:Str):Option (Int×zaQ×Unit):=let e:=(decide (((a.length:Nat):Int)>=3));if e=true then(zbc a 1).bind λf=>(zcz f).bind λg=>if(g.1==111)=true then zmO a b c d else ziL a b c d else ziL a b c d
def zhN(t:Str)(o:Int)(A:Int):Option (Int×zaQ×Unit):=if(t==[])=true then some (0,(zaQ.code 156 2),())else let a:=((decide (2<=o))&&(decide (o<=36)));if a=true then zcE t o A (o==0) t else if(o==0)=true then(zbc t 0).bind λb=>if(b==48)=true then let c:=(decide (((t.length:Nat):Int)>=3));if c=true then(zbc t 1).bind λd=>(zcz d).bind λe=>if(e.1==98)=true then(zbv t 2 ((t.length:Nat):Int)).bind λf=>zcE f 2 A (o==0) t else ziH t A (o==0) t else ziH t A (o==0) t else zcE t 10 A (o==0) t else some (0,(zaQ.code 156 3),())
def zu0:Shape:=⟨[(0,.str),(1,.int .i64),(2,.int .i64)],[]⟩
def znn:List zan:=[⟨false,.tup [.int .u64,.err],[]⟩]
def zuX:=callee Y [] zu0 znn (u3 zhN)
def zu1:zau Y (zar Y znn):=(.join [[1,4,2,5,3,2,2,3,2,4,2,5,1,2,2,2,2],[2,4,2,5,3,2,2,3,2,4,2,5,1,2,2,2,2],[6,3,2,2,3,2,4,2,5,1,2,2,2,2],[6,1,2,2,2,2],[2,2,2,2,2]] ⟨[(0,.str),(2,.int .i64),(8,.bool),(9,.str)],[]⟩ (u4 ziH) (.join [[1,3,2,4,2,5,3,2,2,3,2,4,2,5,1,2,2,2,2],[2,3,2,4,2,5,3,2,2,3,2,4,2,5,1,2,2,2,2],[6,3,2,2,3,2,4,2,5,1,2,2,2,2],[6,1,2,2,2,2],[2,2,2,2,2]] ⟨[(0,.str),(2,.int .i64),(8,.bool),(9,.str)],[]⟩ (u4 zmO) (.join [[2,3,2,4,2,5,3,2,2,3,2,4,2,5,1,2,2,2,2],[6,3,2,2,3,2,4,2,5,1,2,2,2,2],[6,1,2,2,2,2],[2,2,2,2,2]] ⟨[(0,.str),(1,.int .i64),(2,.int .i64),(8,.bool),(9,.str)],[]⟩ (u5 zmZ) (.join [[1,4,2,4,2,5,3,2,2,3,2,4,2,5,1,2,2,2,2],[2,4,2,4,2,5,3,2,2,3,2,4,2,5,1,2,2,2,2],[6,3,2,2,3,2,4,2,5,1,2,2,2,2],[6,1,2,2,2,2],[2,2,2,2,2]] ⟨[(0,.str),(2,.int .i64),(8,.bool),(9,.str)],[]⟩ (u4 ziL) (.join [[1,3,2,4,2,4,2,5,3,2,2,3,2,4,2,5,1,2,2,2,2],[2,3,2,4,2,4,2,5,3,2,2,3,2,4,2,5,1,2,2,2,2],[6,3,2,2,3,2,4,2,5,1,2,2,2,2],[6,1,2,2,2,2],[2,2,2,2,2]] ⟨[(0,.str),(2,.int .i64),(8,.bool),(9,.str)],[]⟩ (u4 zmT) (.join [[2,3,2,4,2,4,2,5,3,2,2,3,2,4,2,5,1,2,2,2,2],[6,3,2,2,3,2,4,2,5,1,2,2,2,2],[6,1,2,2,2,2],[2,2,2,2,2]] ⟨[(0,.str),(1,.int .i64),(2,.int .i64),(8,.bool),(9,.str)],[]⟩ (u5 zm3) (.join [[1,4,2,4,2,4,2,5,3,2,2,3,2,4,2,5,1,2,2,2,2],[2,4,2,4,2,4,2,5,3,2,2,3,2,4,2,5,1,2,2,2,2],[6,3,2,2,3,2,4,2,5,1,2,2,2,2],[6,1,2,2,2,2],[2,2,2,2,2]] ⟨[(0,.str),(2,.int .i64),(8,.bool),(9,.str)],[]⟩ (u4 ziT) (.join [[2,4,2,4,2,4,2,5,3,2,2,3,2,4,2,5,1,2,2,2,2],[6,3,2,2,3,2,4,2,5,1,2,2,2,2],[6,1,2,2,2,2],[2,2,2,2,2]] ⟨[(0,.str),(1,.int .i64),(2,.int .i64),(8,.bool),(9,.str)],[]⟩ (u5 zmW) (.join [[1,1,2,2,2,2,2],[2,1,2,2,2,2,2],[2,2,2,2,2,2]] ⟨[(0,.str),(1,.int .i64),(2,.int .i64),(8,.bool),(9,.str)],[]⟩ (u5 zcE) (.join [[3,2,1,2,2,2,2,2],[2,2,2,2,2,2]] ⟨[(0,.str),(1,.int .i64),(8,.bool),(9,.str)],[]⟩ (u4 zmd) (.join [[1,4,2,1,2,2,2,2,2],[2,4,2,1,2,2,2,2,2],[2,2,2,2,2,2]] ⟨[(0,.str),(1,.int .i64),(2,.int .i64),(8,.bool),(9,.str)],[]⟩ (u5 ziA) (.join [[1,2,2,2,2,2,2],[2,2,2,2,2,2,2]] ⟨[(0,.str),(1,.int .i64),(2,.int .i64),(8,.bool),(9,.str)],[]⟩ (u5 zfV) (.join [[1,1,2,2,2,2,2,2,2],[2,1,2,2,2,2,2,2,2],[2,2,2,2,2,2,2,2]] ⟨[(0,.str),(1,.int .i64),(2,.int .i64),(8,.bool),(9,.str)],[]⟩ (u5 zir) (.join [[1,5,2,1,2,2,2,2,2,2,2],[2,5,2,1,2,2,2,2,2,2,2],[6,2,1,2,2,2,2,2,2,2],[2,2,2,2,2,2,2,2]] ⟨[(0,.str),(1,.int .i64),(2,.int .i64),(8,.bool),(9,.str),(85,.int .i64)],[]⟩ (u6 ziz) (.join [[1,4,2,5,2,1,2,2,2,2,2,2,2],[2,4,2,5,2,1,2,2,2,2,2,2,2],[6,2,1,2,2,2,2,2,2,2],[2,2,2,2,2,2,2,2]] ⟨[(0,.str),(1,.int .i64),(2,.int .i64),(8,.bool),(9,.str),(85,.int .i64)],[]⟩ (u6 zis) (.join [[4,2,4,2,5,2,1,2,2,2,2,2,2,2],[6,2,1,2,2,2,2,2,2,2],[2,2,2,2,2,2,2,2]] ⟨[(0,.str),(1,.int .i64),(2,.int .i64),(8,.bool),(9,.str)],[]⟩ (u5 zmi) (.loop [[7,5,2,1,2,2,2,2,2,2,2,2,2,2,2],[8,5,2,1,2,2,2,2,2,2,2,2,2,2,2],[6,2,1,2,2,2,2,2,2,2,2,2,2,2],[2,2,2,2,2,2,2,2,2,2,2,2]] ⟨[(1,.int .i64),(8,.bool),(9,.str),(10,.int .u64),(11,.int .u64),(12,.bool),(13,.int .u64),(99,.sl 5),(100,.int .i64),(101,.int .i64)],[]⟩ (zb7) (.join [[1,1,2,2,2,5,1,2,2,7,5,2,1,2,2,2,2,2,2,2,2,2,2,2],[2,1,2,2,2,5,1,2,2,7,5,2,1,2,2,2,2,2,2,2,2,2,2,2],[2,2,2,2,5,1,2,2,7,5,2,1,2,2,2,2,2,2,2,2,2,2,2],[6,1,2,2,7,5,2,1,2,2,2,2,2,2,2,2,2,2,2],[2,2,2,7,5,2,1,2,2,2,2,2,2,2,2,2,2,2],[8,5,2,1,2,2,2,2,2,2,2,2,2,2,2],[6,2,1,2,2,2,2,2,2,2,2,2,2,2],[2,2,2,2,2,2,2,2,2,2,2,2]] ⟨[(1,.int .i64),(8,.bool),(9,.str),(10,.int .u64),(11,.int .u64),(12,.bool),(13,.int .u64),(16,.int .u8),(99,.sl 5),(100,.int .i64),(101,.int .i64)],[]⟩ (u11 zem) (.join [[1,1,2,2,2,2,5,1,2,2,7,5,2,1,2,2,2,2,2,2,2,2,2,2,2],[2,1,2,2,2,2,5,1,2,2,7,5,2,1,2,2,2,2,2,2,2,2,2,2,2],[2,2,2,2,2,5,1,2,2,7,5,2,1,2,2,2,2,2,2,2,2,2,2,2],[6,1,2,2,7,5,2,1,2,2,2,2,2,2,2,2,2,2,2],[2,2,2,7,5,2,1,2,2,2,2,2,2,2,2,2,2,2],[8,5,2,1,2,2,2,2,2,2,2,2,2,2,2],[6,2,1,2,2,2,2,2,2,2,2,2,2,2],[2,2,2,2,2,2,2,2,2,2,2,2]] ⟨[(1,.int .i64),(8,.bool),(9,.str),(10,.int .u64),(11,.int .u64),(12,.bool),(13,.int .u64),(16,.int .u8),(99,.sl 5),(100,.int .i64),(101,.int .i64)],[]⟩ (u11 ziu) (.join [[1,2,2,2,2,2,5,1,2,2,7,5,2,1,2,2,2,2,2,2,2,2,2,2,2],[2,2,2,2,2,2,5,1,2,2,7,5,2,1,2,2,2,2,2,2,2,2,2,2,2],[6,1,2,2,7,5,2,1,2,2,2,2,2,2,2,2,2,2,2],[2,2,2,7,5,2,1,2,2,2,2,2,2,2,2,2,2,2],[8,5,2,1,2,2,2,2,2,2,2,2,2,2,2],[6,2,1,2,2,2,2,2,2,2,2,2,2,2],[2,2,2,2,2,2,2,2,2,2,2,2]] ⟨[(1,.int .i64),(8,.bool),(9,.str),(10,.int .u64),(11,.int .u64),(12,.bool),(13,.int .u64),(16,.int .u8),(99,.sl 5),(100,.int .i64),(101,.int .i64)],[]⟩ (u11 ziB) (.join [[1,2,2,2,2,2,2,5,1,2,2,7,5,2,1,2,2,2,2,2,2,2,2,2,2,2],[2,2,2,2,2,2,2,5,1,2,2,7,5,2,1,2,2,2,2,2,2,2,2,2,2,2],[6,1,2,2,7,5,2,1,2,2,2,2,2,2,2,2,2,2,2],[2,2,2,7,5,2,1,2,2,2,2,2,2,2,2,2,2,2],[8,5,2,1,2,2,2,2,2,2,2,2,2,2,2],[6,2,1,2,2,2,2,2,2,2,2,2,2,2],[2,2,2,2,2,2,2,2,2,2,2,2]] ⟨[(1,.int .i64),(8,.bool),(9,.str),(10,.int .u64),(11,.int .u64),(12,.bool),(13,.int .u64),(16,.int .u8),(99,.sl 5),(100,.int .i64),(101,.int .i64)],[]⟩ (u11 ziy) (.join [[1,1,2,2,2,2,2,2,2,5,1,2,2,7,5,2,1,2,2,2,2,2,2,2,2,2,2,2],[2,1,2,2,2,2,2,2,2,5,1,2,2,7,5,2,1,2,2,2,2,2,2,2,2,2,2,2],[2,2,2,2,2,2,2,2,5,1,2,2,7,5,2,1,2,2,2,2,2,2,2,2,2,2,2],[6,1,2,2,7,5,2,1,2,2,2,2,2,2,2,2,2,2,2],[2,2,2,7,5,2,1,2,2,2,2,2,2,2,2,2,2,2],[8,5,2,1,2,2,2,2,2,2,2,2,2,2,2],[6,2,1,2,2,2,2,2,2,2,2,2,2,2],[2,2,2,2,2,2,2,2,2,2,2,2]] ⟨[(1,.int .i64),(8,.bool),(9,.str),(10,.int .u64),(11,.int .u64),(12,.bool),(13,.int .u64),(17,.int .u64),(99,.sl 5),(100,.int .i64),(101,.int .i64)],[]⟩ (u11 zio) .nil))))) .nil)))))))))))))))))
theorem zui:K8 162 (zuX):=f8 zu1 Tryz.func162 (.cons zu3 (.cons zvS .nil)) ⟨λz=>by kernel_rfl,⟨λz=>by kernel_rfl,⟨λz=>by kernel_rfl,⟨λz=>by kernel_rfl,⟨λz=>by kernel_rfl,⟨λz=>by kernel_rfl,⟨λz=>by kernel_rfl,⟨λz=>by kernel_rfl,⟨λz=>by kernel_rfl,⟨λz=>by kernel_rfl,⟨λz=>by kernel_rfl,⟨λz=>by kernel_rfl,⟨λz=>by kernel_rfl,⟨λz=>by kernel_rfl,⟨λz=>by kernel_rfl,⟨λz=>by kernel_rfl,⟨λz=>by kernel_rfl,⟨λz=>by kernel_rfl,⟨λz=>by kernel_rfl,⟨λz=>by kernel_rfl,⟨λz=>by kernel_rfl,⟨λz=>by kernel_rfl,⟨⟩⟩⟩⟩⟩⟩,trivial⟩⟩⟩⟩⟩⟩⟩⟩⟩⟩⟩⟩⟩⟩⟩⟩⟩
def zj8(f_ s_:Str)(base bits:Int)(a:zaQ):Option (zaQ×Unit):=if s_.length<=281474976710656/\(a= .code 156 2\/a= .code 156 1)then some (.opq,())else none
def ztK:Shape:=⟨[(0,.str),(1,.str),(2,.int .i64),(3,.int .i64),(4,.err)],[]⟩
def zDz:List zan:=[⟨false,.err,[]⟩]
def zDA:=callee Y [] ztK zDz (λz=>zj8 z.1 z.2.1 z.2.2.1 z.2.2.2.1 z.2.2.2.2.1)
theorem zyl(f_ s_:Str)(base bits:Int)(er:zaQ)(q:TypeId×Value)(r:zaQ×Unit)(hN:zj8 f_ s_ base bits er=some r)(w:World)(F:Heap)(hv:F.Sub w)(hG:zaR F):
  Calls Tryz.prog 163 #[.string ⟨⟨f_⟩⟩,.string ⟨⟨s_⟩⟩,.int .i64 base,.int .i64 bits,zqx er q] w (zfI w F λs=>∃q,s= .v (zqx r.1 q)):=by
 unfold zj8 at hN;split at hN
 ·rename_i hc;cases hN;obtain⟨hc,rfl|rfl⟩:=hc
  ·obtain⟨te,pe,hm⟩:=hG.zIJ;refine(Tryz.strconv_toError_syntax ⟨⟨f_⟩⟩ ⟨⟨s_⟩⟩ base bits _ w hc (ziV hv hm) (.inr ⟨te,pe,rfl⟩)).mono λe w' h=>?_
   obtain⟨n,h1,_,_,h2⟩:=h;exact zfI.below (s:= .v (.iface _ (.pointer (some ⟨n,0,none⟩)))) hv h1 h2 trivial rfl ⟨(_,_),rfl⟩
  ·obtain⟨te,pe,hm⟩:=hG.zIV;refine(Tryz.strconv_toError_range ⟨⟨f_⟩⟩ ⟨⟨s_⟩⟩ base bits _ w hc (ziV hv hm) (.inr ⟨te,pe,rfl⟩)).mono λe w' h=>?_
   obtain⟨n,h1,_,_,h2⟩:=h;exact zfI.below (s:= .v (.iface _ (.pointer (some ⟨n,0,none⟩)))) hv h1 h2 trivial rfl ⟨(_,_),rfl⟩
 ·cases hN
theorem zCc:K8 163 zDA:=
 COk.zR2 (l:=ztK.l) ⟨⟨_,Tryz.func163,by kernel_rfl,rfl⟩⟩ ⟨rfl,rfl⟩ rfl λz zo h w F vals hG hv hr=>by
  obtain⟨u1,r1,rfl,q1,hr⟩:=hr.inv;obtain⟨u2,r2,rfl,q2,hr⟩:=hr.inv;obtain⟨u3,r3,rfl,q3,hr⟩:=hr.inv;obtain⟨u4,r4,rfl,q4,hr⟩:=hr.inv;obtain⟨u5,r5,rfl,q5,hr⟩:=hr.inv;have hnil:=hr.zg2;subst hnil;have e1:=q1.zcl;have e2:=q2.zcl;have e3:=q3.zcl;have e4:=q4.zcl;subst e1;subst e2;subst e3;subst e4;have key: ∀(e:zaQ) (u:Value),Rel Y F [] (.err e) u->∃q,u=zqx e q:=λe u h=>by cases h with| @err e q=>exact⟨q,rfl⟩
  obtain⟨q,rfl⟩:=key _ _ q5;refine(zyl z.1 z.2.1 z.2.2.1 z.2.2.2.1 z.2.2.2.2.1 q zo h w F hv hG).mono λe w' hh=>?_
  obtain⟨F',s,rfl,hgs,hu,hst,q,rfl⟩:=hh;exact⟨F',_,rfl,.err,hst⟩
def zbO(s:Str)(b:Int)(c:Int):Option (Int×zaQ×Unit):=(zhN s b c).bind λa=>if(!(a.2.1).isNil)=true then(zj8 [80,97,114,115,101,85,105,110,116] s b c a.2.1).bind λd=>some (a.1,d.1,())else some (a.1,zaQ.nil,())
def zBT:=callee Y [] zu0 znn (u3 zbO)
def zA6:zau Y (zar Y znn):= .nil
theorem zqg:K8 128 (zBT):=f8 zA6 Tryz.func128 (.cons zui (.cons zCc .nil)) trivial
def zjy(x:zaD):Option (Int×Int×zaD×Unit):=(zwl x.rest).bind λb=>let f:=((x.rest.length:Nat):Int);(if(decide (b.1<f))=true then(zbc x.rest b.1).bind λg=>some (g==46)else some false).bind λh=>if h=true then some (0,0,(zfo x),())else(zbv x.rest 0 b.1).bind λa=>let i:=(decide (((a.length:Nat):Int)>2));(if i=true then(zbv a 0 2).bind λj=>(if(j==[48,120])=true then some true else(zbv a 0 2).bind λk=>some (k==[48,88])).bind λl=>some l else some false).bind λm=>if m=true then(zbv a 2 ((a.length:Nat):Int)).bind λc=>(zbO c 16 53).bind λd=>if(!(d.2.1).isNil)=true then some (0,0,(zfo x),())else(strings_Contains c [95]).bind λn=>if n.1=true then some (0,0,(zfo x),())else some ((IntKind.wrap .i64 d.1),b.1,(zfo x),())else let o:=(decide (((a.length:Nat):Int)>1));(if o=true then(zbc a 0).bind λp=>some (p==48)else some false).bind λq=>if q=true then some (0,0,(zfo x),())else(zbO a 10 53).bind λe=>if(!(e.2.1).isNil)=true then some (0,0,(zfo x),())else(strings_Contains a [95]).bind λr=>if r.1=true then some (0,0,(zfo x),())else some ((IntKind.wrap .i64 e.1),b.1,(zfo x),())
def zph:List zan:=[⟨false,.tup [.int .i64,.int .i64],[.whole 69 69]⟩]
def zx4:=callee Y [] zx7 zph (λz=>zjy z.1)
def zyb:zau Y (zar Y zph):= .nil
theorem zwY:K8 71 (zx4):=f8 zyb Tryz.func71 (.cons zCb (.cons zqg (.cons zmt .nil))) trivial
def zu8:Dn.Callee Y:=zNg Y 5
theorem zuq:K8 54 zu8:=zQx Tryz.lays169 Tryz.Builder_Extra_169 ⟨⟨_,Tryz.func54,by kernel_rfl,rfl⟩⟩ hsz
def zhs(a:Str)(c:Int):Option (Int):=some (Lib.indexByte a c.toNat.toUInt8)
theorem zhs.ok(s_:Str)(c:Int)(r:Int)(h0:zhs s_ c=some r)(w0:World)(F0:Heap)(hv:F0.Sub w0)(hG:zaR F0)(hg:SV.zbs F0 [.v (.string ⟨⟨s_⟩⟩),.v (.int .u8 c)])(ρ:Nat->Nat):
  Calls Tryz.prog 74 (SV.zaV ρ [.v (.string ⟨⟨s_⟩⟩),.v (.int .u8 c)]).toArray w0 (zfI w0 F0 λs=>s= .v (.int .i64 r)):=by
 refine(Tryz.strings_IndexByte ⟨⟨s_⟩⟩ c w0).mono λe w' h=>?_
 cases h0;exact zfI.pure (s:= .v _) hv h.1 h.2 trivial rfl rfl
def strings_IndexByte(a:Str)(c:Int):Option (Int×Unit):=zfT (λr=>(r,())) (zhs a c)
def zq4:Shape:=⟨[(0,.str),(1,.int .u8)],[]⟩
def zBs:=callee Y [] zq4 zB2 (λz=>strings_IndexByte z.1 z.2.1)
theorem zqB:K8 74 zBs:=
 COk.ext (l:=zq4.l) ⟨⟨_,Tryz.func74,by kernel_rfl,rfl⟩⟩ ⟨rfl,rfl⟩ rfl λz zo h=>⟨_,_,rfl,rfl,λw F hG hv=>by
  obtain⟨r,hr,rfl⟩:=zlB h;exact zhs.ok z.1 z.2.1 r hr w F hv hG (by simp[SV.zbs,SV.good]) (λ_=>0)⟩
def zgY(n:Int):Option (Str×Unit):=let a:=(IntKind.wrap .u8 (Int.fdiv n (2^8)));(toB a).bind λb=>(toB (IntKind.wrap .u8 n)).bind λc=>some (([b,c]:List UInt8),())
def zIX:Shape:=⟨[(0,.int .i64)],[]⟩
def zCZ:List zan:=[⟨false,.str,[]⟩]
def zJe:=callee Y [] zIX zCZ (λz=>zgY z.1)
def zJl:zau Y (zar Y zCZ):= .nil
theorem ztE:K8 131 (zJe):=f8 zJl Tryz.func131 .nil trivial
def zsC:Dn.Callee Y:=zLp Y Tryz.prog 85
theorem zrZ:K8 114 zsC:=zPd Tryz.lays240 Tryz.zHx ⟨⟨_,Tryz.func114,by kernel_rfl,rfl⟩⟩
def zbn(s:Str)(b:Str)(l:List UInt8):Option (Int×zaQ×Str×(List UInt8)×Unit):=(room (l.length+s.length)).bind λ_=>let a:=l++s;some (((s.length:Nat):Int),zaQ.nil,b,a,())
def zqR:Shape:=⟨[(0,.ptr 0 1),(1,.str)],[oc2 1,.arr 5]⟩
def zkC:List zan:=[⟨false,.tup [.int .i64,.err],[oc2 1,.arr 5]⟩]
def zqY:=callee Y [] zqR zkC (u3 zbn)
def zq3:zau Y (zar Y zkC):= .nil
theorem zgK:K8 53 (zqY):=f8 zq3 Tryz.func53 (.cons zrZ .nil) trivial
def zi5(t:Str)(a:Str):Option (Str):=if t.length<4294967281/\a.length<4294967281/\a.all (λb=>decide (b.toNat<128))=true then some (Lib.trimS t a)else none
theorem zi5.ok(t:Str)(cs:Str)(r:Str)(h0:zi5 t cs=some r)(w0:World)(F0:Heap)(hv:F0.Sub w0)(hG:zaR F0)(hg:SV.zbs F0 [.v (.string ⟨⟨t⟩⟩),.v (.string ⟨⟨cs⟩⟩)])(ρ:Nat->Nat):
  Calls Tryz.prog 188 (SV.zaV ρ [.v (.string ⟨⟨t⟩⟩),.v (.string ⟨⟨cs⟩⟩)]).toArray w0 (zfI w0 F0 λs=>s= .v (.string ⟨⟨r⟩⟩)):=by
 unfold zi5 at h0;split at h0
 ·rename_i hc;cases h0;refine(Any.strings_Trim_ascii Tryz.lays160 (zJk (z:= .agg (Array.replicate 256 (.bool false))) (by kernel_rfl)) (by kernel_rfl) ⟨⟨t⟩⟩ ⟨⟨cs⟩⟩ w0 (Nat.le_of_lt (Nat.lt_trans hc.1 (by decide))) hc.2.1 (λj b hb=>by have:=List.all_eq_true.1 hc.2.2 b (List.mem_of_getElem? hb);simpa using this)).mono λe w' h=>?_
  exact zfI.below (s:= .v (.string ⟨⟨_⟩⟩)) hv h.1 h.2 trivial rfl rfl
 ·cases h0
def zqd(t:Str)(a:Str):Option (Str×Unit):=zfT (λr=>(r,())) (zi5 t a)
def zF3:=callee Y [] zrg zCZ (λz=>zqd z.1 z.2.1)
theorem zFo:K8 188 zF3:=
 COk.ext (l:=zrg.l) ⟨⟨_,Tryz.func188,by kernel_rfl,rfl⟩⟩ ⟨rfl,rfl⟩ rfl λz zo h=>⟨_,_,rfl,rfl,λw F hG hv=>by
  obtain⟨r,hr,rfl⟩:=zlB h;exact zi5.ok z.1 z.2.1 r hr w F hv hG (by simp[SV.zbs,SV.good]) (λ_=>0)⟩
def zeB(a:Int)(s:Str)(l:List UInt8):Option (Bool×Str×(List UInt8)×Unit):=let c:=(decide (((s.length:Nat):Int)<a));if c=true then some (false,s,l,())else(zbv s 0 a).bind λd=>(zqd d [48,49,50,51,52,53,54,55,56,57,97,98,99,100,101,102,65,66,67,68,69,70]).bind λe=>if(!(e.1==[]))=true then some (false,s,l,())else(zbv s 0 a).bind λf=>(zbO f 16 16).bind λg=>(zbv s a ((s.length:Nat):Int)).bind λh=>(zgY (IntKind.wrap .i64 g.1)).bind λi=>(zbn i.1 h l).bind λb=>some (true,b.2.2.1,b.2.2.2.1,())
def zzl:Shape:=⟨[(0,.ptr 0 0),(1,.int .i64)],[oc2 1,.arr 5]⟩
def zpf:List zan:=[⟨false,.bool,[oc2 1,.arr 5]⟩]
def zzi:=callee Y [] zzl zpf (u3 zeB)
def zyw:zau Y (zar Y zpf):= .nil
theorem zxI:K8 164 (zzi):=f8 zyw Tryz.func164 (.cons zFo (.cons zqg (.cons ztE (.cons zgK .nil)))) trivial
def zhu(s:Str)(l:List UInt8):Option (Bool×Str×(List UInt8)×Unit):=if(s==[])=true then some (false,s,l,())else(zbc s 0).bind λa=>(zbv s 1 ((s.length:Nat):Int)).bind λb=>(strings_IndexByte [110,116,114,98,102,118] a).bind λf=>if(decide (f.1>=0))=true then(zbc [10,9,13,8,12,11] f.1).bind λi=>(zgY (IntKind.wrap .i64 i)).bind λj=>(zbn j.1 b l).bind λg=>some (true,g.2.2.1,g.2.2.2.1,())else if(a==10)=true then some (true,b,l,())else if(a==120)=true then(zeB 2 b l).bind λd=>some (d.1,d.2.1,d.2.2.1,())else if(a==117)=true then(zeB 4 b l).bind λe=>some (e.1,e.2.1,e.2.2.1,())else if(a==48)=true then(zgY 0).bind λk=>(zbn k.1 b l).bind λc=>(if(c.2.2.1==[])=true then some true else(zbc c.2.2.1 0).bind λm=>some (decide (m<48))).bind λn=>(if n=true then some true else(zbc c.2.2.1 0).bind λo=>some (decide (o>57))).bind λp=>some (p,c.2.2.1,c.2.2.2.1,())else let q:=((a==13)||((decide (a>=49))&&(decide (a<=57))));let r:=(q||(decide (a>=128)));if r=true then some (false,b,l,())else(zgY (IntKind.wrap .i64 a)).bind λt=>(zbn t.1 b l).bind λh=>some (true,h.2.2.1,h.2.2.2.1,())
def zyh:Shape:=⟨[(0,.ptr 0 0)],[oc2 1,.arr 5]⟩
def zy1:=callee Y [] zyh zpf (u2 zhu)
theorem zxA:K8 130 (zy1):=f8 zyw Tryz.func130 (.cons zqB (.cons ztE (.cons zgK (.cons zxI .nil)))) trivial
def zin:Str×Str×(List UInt8)×Unit->Option ((Str×Str×(List UInt8)×Unit)⊕(Str×Int×Int×Unit))| (b,d,e,())=>if(!(d==[]))=true then(zbc d 0).bind λa=>(zbv d 1 ((d.length:Nat):Int)).bind λf=>(zbc b 0).bind λi=>if(a==i)=true then fd (let j:=(IntKind.wrap .i64 (((b.length:Nat):Int) - ((f.length:Nat):Int)));some (.inr (e,j,0,())))else let k:=((a==10)||(a==13));let l:=(k||(decide (a>=128)));if l=true then some (.inr ([],0,10,()))else if(a==92)=true then(zhu f e).bind λc=>if(!c.1)=true then some (.inr ([],0,10,()))else if(a !=92)=true then(zgY (IntKind.wrap .i64 a)).bind λm=>(zbn m.1 c.2.1 c.2.2.1).bind λg=>some (.inl (b,g.2.2.1,g.2.2.2.1,()))else some (.inl (b,c.2.1,c.2.2.1,()))else if(a !=92)=true then(zgY (IntKind.wrap .i64 a)).bind λn=>(zbn n.1 f e).bind λh=>some (.inl (b,h.2.2.1,h.2.2.2.1,()))else some (.inl (b,f,e,()))else some (.inr ([],0,10,()))
def ztV(s:Str):Option (Str×Int×Int×Unit):=(if(s==[])=true then some true else(zbc s 0).bind λa=>(if(a !=39)=true then(zbc s 0).bind λb=>some (b !=34)else some false).bind λc=>some c).bind λd=>if d=true then some ([],0,10,())else(zbv s 1 ((s.length:Nat):Int)).bind λe=>Lp.loop zin (s,e,[],())
def zCd:List zan:=[⟨false,.tup [.str,.int .i64,.int .i64],[]⟩]
def zIc:=callee Y [] zJJ zCd (λz=>ztV z.1)
def zIs:zau Y (zar Y zCd):=(.loop [[7,5,1,2,2,2],[8,5,1,2,2,2],[6,1,2,2,2],[2,2,2,2]] ⟨[(0,.str),(5,.ptr 0 0)],[oc2 1,.arr 5]⟩ (zin) .nil .nil)
theorem zHD:K8 72 (zIc):=f8 zIs Tryz.func72 (.cons zuq (.cons zxA (.cons ztE (.cons zgK .nil)))) ⟨λz=>by kernel_rfl,trivial,trivial⟩
def zho(b:Int)(d:Str)(e:Int)(c:zaD)(a:zl):Option (zl×Int×zaD×Unit):=(strings_IndexByte [123,125,40,41,91,93,46,59,44,60,62,43,45,42,47,37,33,63,58,61] e).bind λf=>if(decide (f.1>=0))=true then(zbv d 0 1).bind λg=>some (⟨5,g,a.Num,a.At,a.Fresh⟩,1,(zfo c),())else if(a.Kind==5)=true then(zbv d 0 b).bind λh=>some (⟨a.Kind,h,a.Num,a.At,a.Fresh⟩,b,(zfo c),())else some ((zc8 a),b,(zfo c),())
def zhr(d:Int)(a:Str)(e:Int)(c:zaD)(b:zl):Option (zl×Int×zaD×Unit):=let f:=(decide (((a.length:Nat):Int)>1));if f=true then(zbv a 0 2).bind λg=>(zi1 [32,60,61,32,62,61,32,61,61,32,33,61,32,43,43,32,45,45,32,38,38,32,124,124,32,43,61,32,45,61,32,42,61,32,47,61,32,37,61,32] g).bind λh=>if h.1=true then(zbv a 0 2).bind λi=>some (⟨5,i,b.Num,b.At,b.Fresh⟩,2,(zfo c),())else zho d a e (zfo c) (zc8 b)else zho d a e (zfo c) (zc8 b)
def zhJ(x:zaD):Option (zl×Int×zaD×Unit):=(zbc x.rest 0).bind λa=>(znx a).bind λf=>if f.1=true then(zwl x.rest).bind λb=>if(decide (b.1>32))=true then some (⟨0,[],0,0,false⟩,0,(zfo x),())else(zbv x.rest 0 b.1).bind λc=>(zvp c).bind λg=>if g.1=true then some (⟨2,c,0,0,false⟩,b.1,(zfo x),())else some (⟨1,c,0,0,false⟩,b.1,(zfo x),())else(zov a).bind λh=>if h.1=true then(zjy (zfo x)).bind λd=>some (⟨3,[],d.1,0,false⟩,d.2.1,(zfo d.2.2.1),())else let i:=((a==39)||(a==34));if i=true then(ztV x.rest).bind λe=>some (⟨4,e.1,0,0,false⟩,e.2.1,(zfo x),())else let j:=((x.rest.length:Nat):Int);if(decide (j>2))=true then(zbv x.rest 0 3).bind λk=>(zi1 [32,61,61,61,32,33,61,61,32] k).bind λl=>if l.1=true then(zbv x.rest 0 3).bind λm=>some (⟨5,m,0,0,false⟩,3,(zfo x),())else zhr 0 x.rest a (zfo x) ⟨0,[],0,0,false⟩else zhr 0 x.rest a (zfo x) ⟨0,[],0,0,false⟩
def zsN:List zan:=[⟨false,.tup [.st 36,.int .i64],[.whole 69 69]⟩]
def zCU:=callee Y [] zx7 zsN (λz=>zhJ z.1)
def zB6:zau Y (zar Y zsN):=(.join [[1,4,2,4,2,4,2,4,2,5,2,1,2,2],[2,4,2,4,2,4,2,4,2,5,2,1,2,2],[6,2,1,2,2],[2,2,2]] ⟨[(2,.ptr 1 0),(3,.int .i64),(4,.str),(5,.int .u8)],[.whole 69 69,.whole 36 36]⟩ (u5 zhr) (.join [[1,4,2,4,2,4,2,4,2,4,2,5,2,1,2,2],[2,4,2,4,2,4,2,4,2,4,2,5,2,1,2,2],[6,2,1,2,2],[2,2,2]] ⟨[(2,.ptr 1 0),(3,.int .i64),(4,.str),(5,.int .u8)],[.whole 69 69,.whole 36 36]⟩ (u5 zho) .nil))
theorem zBy:K8 34 (zCU):=f8 zB6 Tryz.func34 (.cons zwj (.cons zCb (.cons zFG (.cons zyY (.cons zwY (.cons zHD (.cons zzj (.cons zqB .nil)))))))) ⟨λz=>by kernel_rfl,⟨λz=>by kernel_rfl,⟨⟩⟩⟩
def zkQ:Str×zaD×(List zl)×Unit->Option ((Str×zaD×(List zl)×Unit)⊕((List zl)×Int×Int×Unit))| (c,f,d,())=>(zjG (zfo f)).bind λb=>if b.1=true then let g:=((c.length:Nat):Int);let h:=((b.2.1.rest.length:Nat):Int);let e:=(IntKind.wrap .i64 (g -h));let i:=(b.2.1.rest==[]);if i=true then(room (d.length+([⟨0,[],0,e,b.2.1.fresh⟩]:List zl).length)).bind λ_=>let j:=d++[⟨0,[],0,e,b.2.1.fresh⟩];(zsa j).bind λk=>some (.inr (k.1,0,0,()))else(zhJ (zfo b.2.1)).bind λa=>if(a.2.1==0)=true then let l:=((c.length:Nat):Int);let m:=((a.2.2.1.rest.length:Nat):Int);let n:=(IntKind.wrap .i64 (l -m));some (.inr ([],n,60,()))else(room (d.length+([⟨a.1.Kind,a.1.Text,a.1.Num,e,a.2.2.1.fresh⟩]:List zl).length)).bind λ_=>let o:=d++[⟨a.1.Kind,a.1.Text,a.1.Num,e,a.2.2.1.fresh⟩];(zbv a.2.2.1.rest a.2.1 ((a.2.2.1.rest.length:Nat):Int)).bind λp=>some (.inl (c,⟨a.2.2.1.src,p,a.2.2.1.fresh⟩,o,()))else let q:=((c.length:Nat):Int);let r:=((b.2.1.rest.length:Nat):Int);let s:=(IntKind.wrap .i64 (q -r));some (.inr ([],s,60,()))
def zwr(a:Str):Option ((List zl)×Int×Int×Unit):=let b:=(decide (((a.length:Nat):Int)>4096));if b=true then some ([],0,2,())else Lp.loop zkQ (a,⟨a,a,false⟩,[],())
def zDO:List zan:=[⟨false,.tup [.sl 36,.int .i64,.int .i64],[]⟩]
def zwO:=callee Y [] zJJ zDO (λz=>zwr z.1)
def zJQ:zau Y (zar Y zDO):=(.loop [[7,5,1,2,2,2,2],[8,5,1,2,2,2,2],[6,1,2,2,2,2],[2,2,2,2,2]] ⟨[(0,.str),(5,.ptr 0 0),(6,.own 1)],[.whole 69 69,.arr 36]⟩ (zkQ) .nil .nil)
theorem zIb:K8 18 (zwO):=f8 zJQ Tryz.func18 (.cons zxl (.cons zF1 (.cons zBy .nil))) ⟨λz=>by kernel_rfl,trivial,trivial⟩
def zbS(s:Str)(x:zk):Option (Bool×zk×Unit):=(zas x.t 0).bind λa=>(if(a.Kind==5)=true then some true else(zas x.t 0).bind λb=>some (b.Kind==2)).bind λc=>(if c=true then(zas x.t 0).bind λd=>some (d.Text==s)else some false).bind λe=>some (e,(zn x),())
def zDE:Shape:=⟨[(0,.ptr 0 0),(1,.str)],[.whole 48 48]⟩
def ztM:List zan:=[⟨false,.bool,[.whole 48 48]⟩]
def zDG:=callee Y [] zDE ztM (u2 zbS)
def zDB:zau Y (zar Y ztM):= .nil
theorem zdI:K8 35 (zDG):=f8 zDB Tryz.func35 .nil trivial
def zaY(x:zk):Option (zl×zk×Unit):=(zas x.t 0).bind λa=>if(a.Kind !=0)=true then(zbv x.t 1 ((x.t.length:Nat):Int)).bind λb=>some ((zc8 a),⟨b,x.no⟩,())else some ((zc8 a),(zn x),())
def zBA:Shape:=⟨[(0,.ptr 0 0)],[.whole 48 48]⟩
def zre:List zan:=[⟨false,.st 36,[.whole 48 48]⟩]
def zmI:=callee Y [] zBA zre (λz=>zaY z.1)
def zBD:zau Y (zar Y zre):= .nil
theorem zcN:K8 75 (zmI):=f8 zBD Tryz.func75 .nil trivial
def zZ(s:Str)(x:zk):Option (Bool×zk×Unit):=(zbS s (zn x)).bind λa=>if a.1=true then(zaY (zn a.2.1)).bind λb=>some (a.1,(zn b.2.1),())else some (a.1,(zn a.2.1),())
def zkb:=callee Y [] zDE ztM (u2 zZ)
theorem zbf:K8 36 (zkb):=f8 zDB Tryz.func36 (.cons zdI (.cons zcN .nil)) trivial
def zbw(x:zk):Option (zaQ×zk×Unit):=(zas x.t 0).bind λa=>some ((zaQ.code 45 a.At),(zn x),())
def zrf:List zan:=[⟨true,.err,[.whole 48 48]⟩]
def zhl:=callee Y [] zBA zrf (λz=>zbw z.1)
def zBj:zau Y (zar Y zrf):= .nil
theorem zbH:K8 21 (zhl):=f8 zBj Tryz.func21 .nil trivial
def zez(x:zk):Option ((zaQ×zk×Unit)⊕(Str×zk×Unit)):=(zas x.t 0).bind λc=>if(c.Kind !=1)=true then(zbw (zn x)).bind λa=>some (.inl (a.1,(zn a.2.1),()))else(zaY (zn x)).bind λb=>some (.inr (b.1.Text,(zn b.2.1),()))
def zrb:List zan:=[⟨true,.err,[.whole 48 48]⟩,⟨false,.str,[.whole 48 48]⟩]
def zrr:=callee Y [] zBA zrb (λz=>zez z.1)
def zBv:zau Y (zar Y zrb):= .nil
theorem zgB:K8 76 (zrr):=f8 zBv Tryz.func76 (.cons zbH (.cons zcN .nil)) trivial
def zaP(s:Str)(x:zk):zNw:=(zZ s (zn x)).bind λa=>if(!a.1)=true then(zbw (zn a.2.1)).bind λb=>some (.inl (b.1,(zn b.2.1),()))else some (.inr ((zn a.2.1),()))
def zrl:List zan:=[⟨true,.err,[.whole 48 48]⟩,⟨false,.tup [],[.whole 48 48]⟩]
def zht:=callee Y [] zDE zrl (u2 zaP)
def zBS:zau Y (zar Y zrl):= .nil
theorem zbo:K8 77 (zht):=f8 zBS Tryz.func77 (.cons zbf (.cons zbH .nil)) trivial
def zjT(x:zk)(c:Int)(d:Str)(e:Int)(f:Str)(l:List Str)(g:List zf):OT7:=(zez (zn x)).bind λh=>(match h with| .inl b=>some (.inl (b.1,(zn b.2.1),c,d,e,f,l,g,()))| .inr a=>(room (l.length+([a.1]:List Str).length)).bind λ_=>let i:=l++[a.1];some (.inr ((zn a.2.1),c,d,e,f,i,g,())))
def om0:List zcK:=[.cells 46 [.ptr 1 0],.whole 48 48,.cells 9 [.str],.cells 1 [.fn 242 [.ptr 4 0,.ptr 5 0]],.cells 46 [.ptr 1 0],oc0 6 7,.arr 9,.arr 25,.cells 4 [.bool]]
def om1:List zcK:=[.whole 48 48,.cells 46 [.ptr 0 0],.cells 9 [.str],.cells 1 [.fn 242 [.ptr 4 0,.ptr 5 0]],.cells 46 [.ptr 0 0],oc0 6 7,.arr 9,.arr 25,.cells 4 [.bool]]
def om2:List zcK:=[.cells 46 [.ptr 1 0],.whole 48 48,.cells 9 [.str],.cells 1 [.fn 79 [.ptr 4 0,.ptr 5 0]],.cells 46 [.ptr 1 0],oc0 6 7,.arr 9,.arr 25,.cells 4 [.bool]]
def om3:List zcK:=[.whole 48 48,.cells 46 [.ptr 0 0],.cells 9 [.str],.cells 1 [.fn 79 [.ptr 4 0,.ptr 5 0]],.cells 46 [.ptr 0 0],oc0 6 7,.arr 9,.arr 25,.cells 4 [.bool]]
def om4:List zcK:=[.cells 46 [.ptr 1 0],.whole 48 48,.cells 9 [.str],.cells 1 [.fn 236 [.ptr 4 0,.ptr 5 0]],.cells 46 [.ptr 1 0],oc1 6,.arr 25,.cells 4 [.bool]]
def om5:List zcK:=[.whole 48 48,.cells 46 [.ptr 0 0],.cells 9 [.str],.cells 1 [.fn 236 [.ptr 4 0,.ptr 5 0]],.cells 46 [.ptr 0 0],oc1 6,.arr 25,.cells 4 [.bool]]
def om6:List zcK:=[.whole 48 48,oc0 4 5,oc0 6 7,oc0 8 9,.arr 9,.arr 25,.arr 9,.arr 25,.arr 9,.arr 25]
def om7:List zcK:=[.whole 53 53,oc0 4 5,oc0 6 7,oc0 8 9,.arr 9,.arr 25,.arr 9,.arr 25,.arr 9,.arr 25]
def om8:List zcK:=[.whole 48 48,.cells 46 [.ptr 0 0],oc0 4 5,oc0 6 7,.arr 9,.arr 25,.arr 9,.arr 25]
def om9:List zcK:=[.whole 48 48,oc0 4 5,oc0 6 7,.whole 25 25,.arr 9,.arr 25,.arr 9,.arr 25]
def zSz:List zcK:=[.whole 53 53,oc0 4 5,.whole 25 25,.whole 25 25,.arr 9,.arr 25]
def zNt:List zcK:=[.whole 48 48,.cells 46 [.ptr 0 0],.whole 25 25,.arr 9,.arr 25]
def zNz:List zcK:=[.cells 46 [.ptr 1 0],.whole 48 48,.whole 25 25,.arr 9,.arr 25]
def zjO:List zcK:=[.whole 48 48,oc0 3 4,oc0 5 6,.arr 9,.arr 25,.arr 9,.arr 25]
def zoF:List zcK:=[.whole 53 53,oc0 3 4,oc0 5 6,.arr 9,.arr 25,.arr 9,.arr 25]
def zqC:List zcK:=[.cells 46 [.ptr 1 0],.whole 48 48,oc0 3 4,.arr 9,.arr 25]
def zdp:List zcK:=[.whole 48 48,.cells 46 [.ptr 0 0],oc0 3 4,.arr 9,.arr 25]
def zK8:List zcK:=[.whole 48 48,oc0 3 4,.whole 25 25,.arr 9,.arr 25]
def zli:List zcK:=[.whole 53 53,oc0 3 4,.whole 36 36,.arr 9,.arr 25]
def zts:List zcK:=[.whole 53 53,oc0 3 4,.whole 25 25,.arr 9,.arr 25]
def zF6:List zcK:=[.whole 48 48,.cells 46 [.ptr 0 0],oc1 3,.arr 25]
def zOf:List zcK:=[.cells 46 [.ptr 1 0],.whole 48 48,oc1 3,.arr 25]
def ztQ:Shape:=⟨[(0,.ptr 0 0),(1,.ptr 2 0)],zqC⟩
def zmY:List zan:=[⟨true,.err,zqC⟩,⟨false,.tup [],zqC⟩]
def zt7:=callee Y [] ztQ zmY (u7 zjT)
def zua:zau Y (zar Y zmY):= .nil
theorem ztF:K8 79 (zt7):=f8 zua Tryz.func79 (.cons zgB .nil) trivial
def zfN:zk×Str×Int×Str×Int×Str×(List Str)×(List zf)×Bool×Unit->OT0| (q,b,h,i,j,k,l,m,c,())=>(zZ b (zn q)).bind λe=>if(!e.1)=true then(zjT (zn e.2.1) h i j k l m).bind λr=>(match r with| .inl d=>some (.inr (.inl (d.1,(zn d.2.1),b,d.2.2.1,d.2.2.2.1,d.2.2.2.2.1,d.2.2.2.2.2.1,d.2.2.2.2.2.2.1,d.2.2.2.2.2.2.2.1,c,())))| .inr a=>(zZ b (zn a.1)).bind λf=>if f.1=true then some (.inr (.inr ((zn f.2.1),b,a.2.1,a.2.2.1,a.2.2.2.1,a.2.2.2.2.1,a.2.2.2.2.2.1,a.2.2.2.2.2.2.1,c,())))else(zaP [44] (zn f.2.1)).bind λs=>(match s with| .inl n=>some (.inr (.inl (n.1,(zn n.2.1),b,a.2.1,a.2.2.1,a.2.2.2.1,a.2.2.2.2.1,a.2.2.2.2.2.1,a.2.2.2.2.2.2.1,c,())))| .inr o=>if(!c)=true then(zbS b (zn o.1)).bind λg=>if g.1=true then(zbw (zn g.2.1)).bind λp=>some (.inr (.inl (p.1,(zn p.2.1),b,a.2.1,a.2.2.1,a.2.2.2.1,a.2.2.2.2.1,a.2.2.2.2.2.1,a.2.2.2.2.2.2.1,c,())))else some (.inl ((zn g.2.1),b,a.2.1,a.2.2.1,a.2.2.2.1,a.2.2.2.2.1,a.2.2.2.2.2.1,a.2.2.2.2.2.2.1,c,()))else some (.inl ((zn o.1),b,a.2.1,a.2.2.1,a.2.2.2.1,a.2.2.2.2.1,a.2.2.2.2.2.1,a.2.2.2.2.2.2.1,c,()))))else some (.inr (.inr ((zn e.2.1),b,h,i,j,k,l,m,c,())))
def zjs(x:zk)(a:Str)(b:Int)(c:Str)(d:Int)(e:Str)(l:List Str)(f:List zf)(g:Bool):OT4:=Lp.loop zfN ((zn x),a,b,c,d,e,l,f,g,())
def zyB:Shape:=⟨[(0,.ptr 0 0),(1,.ptr 2 0),(2,.ptr 3 0),(3,.ptr 8 0)],om2⟩
def zpd:List zan:=[⟨true,.err,om2⟩,⟨false,.tup [],om2⟩]
def zpu:=callee Y [] zyB zpd (u9 zjs)
def zyO:zau Y (zar Y zpd):=(.loop [[7,5],[8,5],[6]] ⟨[(0,.ptr 0 0),(1,.ptr 2 0),(2,.ptr 3 0),(3,.ptr 8 0)],om2⟩ (zfN) .nil .nil)
theorem zwH:K8 133 (zpu):=f8 zyO Tryz.func133 (.cons zbf (.cons ztF (.cons zbo (.cons zdI (.cons zbH .nil))))) ⟨λz=>by kernel_rfl,trivial,trivial⟩
def zjC(x:zk)(a:Str)(e:Int)(f:Str)(g:Int)(h:Str)(l:List Str)(i:List zf)(j:Bool):OT4:=(zjs ⟨x.t,false⟩ a e f g h l i j).bind λd=>(match d with| .inl b=>some (.inl (b.1,(zn b.2.1),b.2.2.1,b.2.2.2.1,b.2.2.2.2.1,b.2.2.2.2.2.1,b.2.2.2.2.2.2.1,b.2.2.2.2.2.2.2.1,b.2.2.2.2.2.2.2.2.1,b.2.2.2.2.2.2.2.2.2.1,()))| .inr c=>some (.inr (⟨c.1.t,x.no⟩,c.2.1,c.2.2.1,c.2.2.2.1,c.2.2.2.2.1,c.2.2.2.2.2.1,c.2.2.2.2.2.2.1,c.2.2.2.2.2.2.2.1,c.2.2.2.2.2.2.2.2.1,())))
def zyM:Shape:=⟨[(0,.ptr 0 0),(1,.fn 133 [.ptr 1 0,.ptr 2 0,.ptr 3 0,.ptr 8 0])],om3⟩
def zpc:List zan:=[⟨true,.err,om3⟩,⟨false,.tup [],om3⟩]
def zo7:=callee Y [] zyM zpc (u9 zjC)
def zyo:zau Y (zar Y zpc):= .nil
theorem zwS:K8 80 (zo7):=f8 zyo Tryz.func80 ((.cons (COk.laid zwH) .nil):zcu hY Tryz.prog zaR [(133,(zeg Y [⟨[(0,.ptr 0 0),(1,.ptr 2 0),(2,.ptr 3 0),(3,.ptr 8 0)],om2⟩,⟨[(0,.ptr 0 0),(1,.ptr 2 0),(2,.ptr 3 0),(3,.ptr 7 0)],om4⟩,⟨[(0,.ptr 0 0),(1,.ptr 2 0),(2,.ptr 3 0),(3,.ptr 8 0)],om0⟩] (zpu)))]) trivial
def zkJ(d:Str)(e:Bool)(x:zk)(f:Int)(g:Str)(h:Int)(i:Str)(l:List Str)(j:List zf):OT7:=(zjC (zn x) d f g h i l j e).bind λc=>(match c with| .inl a=>some (.inl (a.1,(zn a.2.1),a.2.2.2.1,a.2.2.2.2.1,a.2.2.2.2.2.1,a.2.2.2.2.2.2.1,a.2.2.2.2.2.2.2.1,a.2.2.2.2.2.2.2.2.1,()))| .inr b=>some (.inr ((zn b.1),b.2.2.1,b.2.2.2.1,b.2.2.2.2.1,b.2.2.2.2.2.1,b.2.2.2.2.2.2.1,b.2.2.2.2.2.2.2.1,())))
def zBx:Shape:=⟨[(0,.ptr 0 0),(1,.str),(2,.bool),(3,.fn 79 [.ptr 1 0,.ptr 2 0])],zdp⟩
def zq8:List zan:=[⟨true,.err,zdp⟩,⟨false,.tup [],zdp⟩]
def zrv:=callee Y [] zBx zq8 (u9 zkJ)
def zBC:zau Y (zar Y zq8):= .nil
theorem zAL:K8 78 (zrv):=f8 zBC Tryz.func78 ((.cons (COk.laid zwS) .nil):zcu hY Tryz.prog zaR [(80,(zeg Y [⟨[(0,.ptr 0 0),(1,.fn 133 [.ptr 1 0,.ptr 2 0,.ptr 3 0,.ptr 8 0])],om3⟩,⟨[(0,.ptr 0 0),(1,.fn 81 [.ptr 1 0,.ptr 2 0])],zdp⟩,⟨[(0,.ptr 0 0),(1,.fn 241 [.ptr 1 0,.ptr 2 0])],zdp⟩,⟨[(0,.ptr 0 0),(1,.fn 133 [.ptr 1 0,.ptr 2 0,.ptr 3 0,.ptr 7 0])],om5⟩,⟨[(0,.ptr 0 0),(1,.fn 133 [.ptr 1 0,.ptr 2 0,.ptr 3 0,.ptr 8 0])],om1⟩,⟨[(0,.ptr 0 0),(1,.fn 222 [.ptr 1 0,.ptr 2 0])],zdp⟩,⟨[(0,.ptr 0 0),(1,.fn 167 [.ptr 1 0,.ptr 2 0])],zdp⟩] (zo7)))]) trivial
def zch(h:Str)(x:zk):Option (Bool×zk×Unit):=(zas x.t 0).bind λa=>(if(a.Kind==5)=true then some true else(zas x.t 0).bind λb=>some (b.Kind==2)).bind λc=>if c=true then(zas x.t 0).bind λd=>(zmy [32] d.Text).bind λe=>(zmy e [32]).bind λf=>(strings_Contains h f).bind λg=>some (g.1,(zn x),())else some (false,(zn x),())
def zqc:=callee Y [] zDE ztM (u2 zch)
theorem zil:K8 136 (zqc):=f8 zDB Tryz.func136 (.cons zmt .nil) trivial
def zl9(n:zf):Option (Bool×Unit):=let a:=((n.Kind==3)||(n.Kind==11));some ((a||(n.Kind==12)),())
def zEI:Shape:=⟨[(0,.st 25)],[]⟩
def zFP:=callee Y [] zEI zBR (λz=>zl9 z.1)
theorem zvk:K8 121 (zFP):=f8 zFV Tryz.func121 .nil trivial
def zfD(n:zf)(x:zk):zNw:=(zl9 (zy n)).bind λb=>if(!b.1)=true then(zbw (zn x)).bind λa=>some (.inl (a.1,(zn a.2.1),()))else some (.inr ((zn x),()))
def zys:Shape:=⟨[(0,.ptr 0 0),(1,.st 25)],[.whole 48 48]⟩
def zo9:=callee Y [] zys zrl (u2 zfD)
theorem zot:K8 168 (zo9):=f8 zBS Tryz.func168 (.cons zvk (.cons zbH .nil)) trivial
def zeH(a:Int)(b:Int):Option (Str):=if b=16 then Gw.zgi a else if -9223372036854775808<=a/\a<=9223372036854775807/\b=10 then some (Lib.itoa a)else none
theorem zeH.ok(i_:Int)(base_:Int)(r:Str)(h0:zeH i_ base_=some r)(w0:World)(F0:Heap)(hv:F0.Sub w0)(hG:zaR F0)(hg:SV.zbs F0 [.v (.int .i64 i_),.v (.int .i64 base_)])(ρ:Nat->Nat):
  Calls Tryz.prog 173 (SV.zaV ρ [.v (.int .i64 i_),.v (.int .i64 base_)]).toArray w0 (zfI w0 F0 λs=>s= .v (.string ⟨⟨r⟩⟩)):=by
 unfold zeH at h0;split at h0
 ·rename_i hb;subst hb;exact Gw.zgi.ok i_ r h0 w0 F0 hv ⟨hG.maxLen,hG.zFN,hG.zIJ,hG.zIV,hG.zET⟩ ⟨trivial,trivial,trivial⟩ (λ_=>0)
 ·split at h0
  ·rename_i hc;cases h0;obtain⟨h1,h2,rfl⟩:=hc;refine(Tryz.strconv_FormatInt_10 i_ h1 h2 w0 (hG.zET w0 hv)).mono λe w' h=>?_
   obtain⟨h1,k,os,rfl⟩:=h;exact zfI.below (s:= .v (.string ⟨⟨_⟩⟩)) hv h1 (Go.Lib.below_grow _ _ (yJ _) _ _) trivial rfl rfl
  ·cases h0
def zgZ(a:Int)(b:Int):Option (Str×Unit):=zfT (λr=>(r,())) (zeH a b)
def zq6:Shape:=⟨[(0,.int .i64),(1,.int .i64)],[]⟩
def zBt:=callee Y [] zq6 zCZ (λz=>zgZ z.1 z.2.1)
theorem zAK:K8 173 zBt:=
 COk.ext (l:=zq6.l) ⟨⟨_,Tryz.func173,by kernel_rfl,rfl⟩⟩ ⟨rfl,rfl⟩ rfl λz zo h=>⟨_,_,rfl,rfl,λw F hG hv=>by
  obtain⟨r,hr,rfl⟩:=zlB h;exact zeH.ok z.1 z.2.1 r hr w F hv hG (by simp[SV.zbs,SV.good]) (λ_=>0)⟩
def zmn:Str×Int×Int×(List UInt8)×Unit->zFZ| (c,e,a,b,())=>if(decide (a<e))=true then(zbc c a).bind λf=>if(decide (f>=128))=true then some (.inr ([],10,()))else let g:=(IntKind.wrap .i64 (2*a));let d:=(IntKind.wrap .i64 (g+1));(zbc c a).bind λh=>(zas b d).bind λ_=>(zas b d).bind λl=>(zLB h).bind λi=>let j:=b.set d.toNat i;let k:=(IntKind.wrap .i64 (a+1));some (.inl (c,e,k,j,()))else some (.inr (b,0,()))
def zrO(s:Str):Option (Str×Int×Unit):=let a:=(IntKind.wrap .i64 (2*((s.length:Nat):Int)));(zEG a).bind λb=>Lp.loop zmn (s,((s.length:Nat):Int),0,(List.replicate b (UInt8.ofNat 0)),())
def zFM:List zan:=[⟨false,.tup [.str,.int .i64],[]⟩]
def zLf:=callee Y [] zJJ zFM (λz=>zrO z.1)
def zK4:zau Y (zar Y zFM):=(.loop [[7,5,2,1,2,2],[8,5,2,1,2,2],[6,2,1,2,2],[2,2,2]] ⟨[(0,.str),(4,.own 0),(11,.int .i64),(12,.int .i64)],[.arr 5]⟩ (zmn) .nil .nil)
theorem zJC:K8 246 (zLf):=f8 zK4 Tryz.func246 .nil ⟨λz=>by kernel_rfl,trivial,trivial⟩
def zlI(x:zk):Option ((Str×zk×Unit)⊕(zaQ×zk×Unit)):=(zas x.t 0).bind λa=>if(a.Kind==4)=true then(zaY (zn x)).bind λc=>some (.inl (a.Text,(zn c.2.1),()))else if(a.Kind==3)=true then(zgZ a.Num 10).bind λd=>(zaY (zn x)).bind λe=>(zrO d.1).bind λf=>some (.inl (f.1,(zn e.2.1),()))else if(a.Kind==1)=true then(zaY (zn x)).bind λg=>(zrO a.Text).bind λh=>some (.inl (h.1,(zn g.2.1),()))else if(a.Kind==2)=true then(zaY (zn x)).bind λi=>(zrO a.Text).bind λj=>some (.inl (j.1,(zn i.2.1),()))else(zbw (zn x)).bind λb=>some (.inr (b.1,(zn b.2.1),()))
def zsX:List zan:=[⟨false,.str,[.whole 48 48]⟩,⟨true,.err,[.whole 48 48]⟩]
def zB3:=callee Y [] zBA zsX (λz=>zlI z.1)
def zC2:zau Y (zar Y zsX):= .nil
theorem zBn:K8 243 (zB3):=f8 zC2 Tryz.func243 (.cons zcN (.cons zAK (.cons zJC (.cons zbH .nil)))) trivial
def zfl(c:zk):Option (Int×Int×zk×Unit):=(zch [32,43,32,45,32] (zn c)).bind λa=>if a.1=true then some (7,17,(zn a.2.1),())else(zch [32,42,32,47,32,37,32] (zn a.2.1)).bind λb=>if b.1=true then some (8,17,(zn b.2.1),())else some (0,0,(zn b.2.1),())
def ziN(x:zk):Option (Int×Int×zk×Unit):=(zbS [124,124] (zn x)).bind λb=>if b.1=true then some (3,18,(zn b.2.1),())else(zbS [38,38] (zn b.2.1)).bind λc=>if c.1=true then some (4,18,(zn c.2.1),())else(zch [32,61,61,32,33,61,32,61,61,61,32,33,61,61,32] (zn c.2.1)).bind λd=>if d.1=true then some (5,17,(zn d.2.1),())else(zch [32,60,32,62,32,60,61,32,62,61,32,105,110,115,116,97,110,99,101,111,102,32] (zn d.2.1)).bind λa=>if a.1=true then some (6,17,(zn a.2.1),())else if(!a.2.1.no)=true then(zbS [105,110] (zn a.2.1)).bind λe=>if e.1=true then some (6,17,(zn e.2.1),())else zfl (zn e.2.1)else zfl (zn a.2.1)
def zoz:List zan:=[⟨false,.tup [.int .i64,.int .i64],[.whole 48 48]⟩]
def zw1:=callee Y [] zBA zoz (λz=>ziN z.1)
def zxh:zau Y (zar Y zoz):=(.join [[1,4,2,4,2,4,2,4,2,5,1,2],[2,4,2,4,2,4,2,4,2,5,1,2],[6,1,2],[2,2]] ⟨[(0,.ptr 0 0)],[.whole 48 48]⟩ (λz=>zfl z.1) .nil)
theorem zv4:K8 190 (zw1):=f8 zxh Tryz.func190 (.cons zdI (.cons zil .nil)) ⟨λz=>by kernel_rfl,⟨⟩⟩
def zgj(x:zk):Option (Bool×zk×Unit):=(zbS [125] (zn x)).bind λa=>(if a.1=true then some true else(zas a.2.1.t 0).bind λb=>some (b.Kind==0)).bind λc=>(if c=true then some true else(zas a.2.1.t 0).bind λd=>some d.Fresh).bind λe=>some (e,(zn a.2.1),())
def zAA:=callee Y [] zBA ztM (λz=>zgj z.1)
theorem zpy:K8 90 (zAA):=f8 zDB Tryz.func90 (.cons zdI .nil) trivial
def zcF(x:zk):zNw:=(zZ [59] (zn x)).bind λa=>if(!a.1)=true then(zgj (zn a.2.1)).bind λb=>if(!b.1)=true then(zbw (zn b.2.1)).bind λc=>some (.inl (c.1,(zn c.2.1),()))else some (.inr ((zn b.2.1),()))else some (.inr ((zn a.2.1),()))
def zCX:=callee Y [] zBA zrl (λz=>zcF z.1)
theorem zra:K8 84 (zCX):=f8 zBS Tryz.func84 (.cons zbf (.cons zpy (.cons zbH .nil))) trivial
def ziC(d:Int)(x:zk):zbU:=(zas x.t 0).bind λe=>(if(e.Kind==1)=true then(zas x.t 0).bind λf=>some (!f.Fresh)else some false).bind λg=>if g=true then(zaY (zn x)).bind λa=>(zcF (zn a.2.1)).bind λh=>(match h with| .inl b=>some (.inl (b.1,(zn b.2.1),()))| .inr i=>some (.inr (⟨d,a.1.Text,0,[],[],[]⟩,(zn i.1),())))else(zcF (zn x)).bind λj=>(match j with| .inl c=>some (.inl (c.1,(zn c.2.1),()))| .inr k=>some (.inr (⟨d,[],0,[],[],[]⟩,(zn k.1),())))
def zBQ:Shape:=⟨[(0,.ptr 0 0),(1,.int .i64)],[.whole 48 48]⟩
def zq7:List zan:=[⟨true,.err,[.whole 48 48]⟩,⟨false,.st 25,[.whole 48 48]⟩]
def zBP:=callee Y [] zBQ zq7 (u2 ziC)
def zBr:zau Y (zar Y zq7):= .nil
theorem zzV:K8 89 (zBP):=f8 zBr Tryz.func89 (.cons zcN (.cons zra .nil)) trivial
structure zh where
 zcf:Bool->Str->zk->zGk
 zc0:Int->zk->zbU
 zdQ:zk->Int->Str->Int->Str->(List Str)->(List zf)->OT6
 zd5:zk->Int->Str->Int->Str->(List Str)->(List zf)->OT6
 zcv:zk->zbU
 zcx:zk->zbU
 zdW:zk->zbU
 za7:zk->zki
 zdu:Int->zk->zbU
 zdh:zk->zki
 zdX:zk->zki
 zei:zk->zki
 zfq:zk->zki
 zdM:zk->Int->Str->Int->Str->(List Str)->(List zf)->OT8
 zfC:zk->Int->Str->Int->Str->(List Str)->(List zf)->OT8
 zaX:zk->zki
 zcw:Str->Bool->zk->zGk
 zfd:Str->Bool->zk->(List zf)->zGh
 zeq:zk->Str->(List zf)->Bool->zGj
 zeu:zk->Str->(List zf)->Bool->zGj
 zea:zk->(List zf)->zGh
 zej:Str->Bool->zk->Int->Str->Int->Str->(List Str)->(List zf)->OT7
 zet:zk->Str->Int->Str->Int->Str->(List Str)->(List zf)->Bool->OT4
 zes:zk->Str->Int->Str->Int->Str->(List Str)->(List zf)->Bool->OT4
 zeI:zk->Int->Str->Int->Str->(List Str)->(List zf)->OT7
 zdf:zf->Bool->zk->zbU
 zdN:zk->Int->Str->Int->Str->(List Str)->(List zf)->OT8
 zer:zk->Int->Str->Int->Str->(List Str)->(List zf)->OT8
 zdL:zk->Int->Str->Int->Str->(List Str)->(List zf)->OT8
 zeX:zk->Int->Str->Int->Str->(List Str)->(List zf)->OT8
 zeD:zk->zbU
 zcM:zk->zbU
 zcb:zk->zbU
 zfn:zk->zbU
 zd1:Str->zk->zki
 zf5:zk->zbU
 ze9:zk->zbU
def zp8:Shape:=⟨[(0,.ptr 0 0),(1,.bool),(2,.str)],[.whole 48 48]⟩
def zlN:List zan:=[⟨false,.sl 25,[.whole 48 48]⟩,⟨true,.err,[.whole 48 48]⟩]
def ziO(b:zh):=callee Y [] zp8 zlN (u3 b.zcf)
def znU(b:zh):=callee Y [] zBQ zq7 (u2 b.zc0)
def znD:Shape:=⟨[(0,.ptr 0 0),(1,.fn 81 [.ptr 1 0,.ptr 2 0])],zdp⟩
def zji:List zan:=[⟨false,.tup [],[.whole 48 48,.cells 46 [.ptr 0 0],.cells 25 [.int .i64,.str,.int .i64,.str,.own 3,.sl 25],.arr 9,.arr 25]⟩,⟨true,.err,zdp⟩]
def zm4(b:zh):=callee Y [] znD zji (u7 b.zdQ)
def ziP:List zan:=[⟨false,.tup [],[.cells 46 [.ptr 1 0],.whole 48 48,.cells 25 [.int .i64,.str,.int .i64,.str,.own 3,.sl 25],.arr 9,.arr 25]⟩,⟨true,.err,zqC⟩]
def ztP(b:zh):=callee Y [] ztQ ziP (u7 b.zd5)
def zBZ(b:zh):=callee Y [] zBA zq7 (λz=>b.zcv z.1)
def zzY(b:zh):=callee Y [] zBA zq7 (λz=>b.zcx z.1)
def zBe(b:zh):=callee Y [] zBA zq7 (λz=>b.zdW z.1)
def zkR:List zan:=[⟨false,.st 25,[.whole 48 48]⟩,⟨true,.err,[.whole 48 48]⟩]
def zpp(b:zh):=callee Y [] zBA zkR (λz=>b.za7 z.1)
def zpx(b:zh):=callee Y [] zBQ zq7 (u2 b.zdu)
def zzx(b:zh):=callee Y [] zBA zkR (λz=>b.zdh z.1)
def zBJ(b:zh):=callee Y [] zBA zkR (λz=>b.zdX z.1)
def zw0(b:zh):=callee Y [] zBA zkR (λz=>b.zei z.1)
def zBG(b:zh):=callee Y [] zBA zkR (λz=>b.zfq z.1)
def znB:Shape:=⟨[(0,.ptr 0 0),(1,.fn 241 [.ptr 1 0,.ptr 2 0])],zdp⟩
def zjb:List zan:=[⟨false,.tup [],zNt⟩,⟨true,.err,zdp⟩]
def znh(b:zh):=callee Y [] znB zjb (u7 b.zdM)
def zk9:List zan:=[⟨false,.tup [],zNz⟩,⟨true,.err,zqC⟩]
def zyK(b:zh):=callee Y [] ztQ zk9 (u7 b.zfC)
def zBO(b:zh):=callee Y [] zBA zkR (λz=>b.zaX z.1)
def zqE:Shape:=⟨[(0,.ptr 0 0),(1,.str),(2,.bool)],[.whole 48 48]⟩
def zl0(b:zh):=callee Y [] zqE zlN (u3 b.zcw)
def zox:Shape:=⟨[(0,.ptr 0 0),(1,.str),(2,.bool),(3,.fn 236 [.ptr 1 0,.ptr 2 0])],zF6⟩
def zko:List zan:=[⟨false,.tup [],zF6⟩,⟨true,.err,zF6⟩]
def zom(b:zh):=callee Y [] zox zko (u4 b.zfd)
def zni:Shape:=⟨[(0,.ptr 0 0),(1,.fn 133 [.ptr 1 0,.ptr 2 0,.ptr 3 0,.ptr 7 0])],om5⟩
def zi9:List zan:=[⟨false,.tup [],om5⟩,⟨true,.err,om5⟩]
def znv(b:zh):=callee Y [] zni zi9 (u4 b.zeq)
def znG:Shape:=⟨[(0,.ptr 0 0),(1,.ptr 2 0),(2,.ptr 3 0),(3,.ptr 7 0)],om4⟩
def zjd:List zan:=[⟨false,.tup [],om4⟩,⟨true,.err,om4⟩]
def znA(b:zh):=callee Y [] znG zjd (u4 b.zeu)
def zos:Shape:=⟨[(0,.ptr 0 0),(1,.ptr 2 0)],zOf⟩
def zkd:List zan:=[⟨false,.tup [],zOf⟩,⟨true,.err,zOf⟩]
def zwT(b:zh):=callee Y [] zos zkd (u2 b.zea)
def zn8:Shape:=⟨[(0,.ptr 0 0),(1,.str),(2,.bool),(3,.fn 242 [.ptr 1 0,.ptr 2 0])],zdp⟩
def zoc(b:zh):=callee Y [] zn8 zq8 (u9 b.zej)
def zng:Shape:=⟨[(0,.ptr 0 0),(1,.fn 133 [.ptr 1 0,.ptr 2 0,.ptr 3 0,.ptr 8 0])],om1⟩
def zjn:List zan:=[⟨true,.err,om1⟩,⟨false,.tup [],om1⟩]
def zny(b:zh):=callee Y [] zng zjn (u9 b.zet)
def znf:Shape:=⟨[(0,.ptr 0 0),(1,.ptr 2 0),(2,.ptr 3 0),(3,.ptr 8 0)],om0⟩
def zjc:List zan:=[⟨true,.err,om0⟩,⟨false,.tup [],om0⟩]
def znj(b:zh):=callee Y [] znf zjc (u9 b.zes)
def zyn(b:zh):=callee Y [] ztQ zmY (u7 b.zeI)
def zon:Shape:=⟨[(0,.ptr 0 0),(1,.st 25),(2,.bool)],[.whole 48 48]⟩
def zxC(b:zh):=callee Y [] zon zq7 (u3 b.zdf)
def znw:Shape:=⟨[(0,.ptr 0 0),(1,.fn 222 [.ptr 1 0,.ptr 2 0])],zdp⟩
def znb(b:zh):=callee Y [] znw zjb (u7 b.zdN)
def zuS(b:zh):=callee Y [] ztQ zk9 (u7 b.zer)
def znd:Shape:=⟨[(0,.ptr 0 0),(1,.fn 167 [.ptr 1 0,.ptr 2 0])],zdp⟩
def znm(b:zh):=callee Y [] znd zjb (u7 b.zdL)
def zv7(b:zh):=callee Y [] ztQ zk9 (u7 b.zeX)
def zy4(b:zh):=callee Y [] zBA zq7 (λz=>b.zeD z.1)
def zBY(b:zh):=callee Y [] zBA zq7 (λz=>b.zcM z.1)
def zA8(b:zh):=callee Y [] zBA zq7 (λz=>b.zcb z.1)
def zBN(b:zh):=callee Y [] zBA zq7 (λz=>b.zfn z.1)
def zzG(b:zh):=callee Y [] zDE zkR (u2 b.zd1)
def zCv(b:zh):=callee Y [] zBA zq7 (λz=>b.zf5 z.1)
def zAQ(b:zh):=callee Y [] zBA zq7 (λz=>b.ze9 z.1)
structure zU (g_:zh):Prop where
 zcf:COk hY Tryz.prog zaR 20 (ziO g_)
 zc0:COk hY Tryz.prog zaR 37 (znU g_)
 zdQ:COk hY Tryz.prog zaR 80 (zm4 g_)
 zd5:COk hY Tryz.prog zaR 81 (ztP g_)
 zcv:COk hY Tryz.prog zaR 38 (zBZ g_)
 zcx:COk hY Tryz.prog zaR 82 (zzY g_)
 zdW:COk hY Tryz.prog zaR 83 (zBe g_)
 za7:COk hY Tryz.prog zaR 134 (zpp g_)
 zdu:COk hY Tryz.prog zaR 166 (zpx g_)
 zdh:COk hY Tryz.prog zaR 189 (zzx g_)
 zdX:COk hY Tryz.prog zaR 211 (zBJ g_)
 zei:COk hY Tryz.prog zaR 224 (zw0 g_)
 zfq:COk hY Tryz.prog zaR 237 (zBG g_)
 zdM:COk hY Tryz.prog zaR 80 (znh g_)
 zfC:COk hY Tryz.prog zaR 241 (zyK g_)
 zaX:COk hY Tryz.prog zaR 91 (zBO g_)
 zcw:COk hY Tryz.prog zaR 223 (zl0 g_)
 zfd:COk hY Tryz.prog zaR 78 (zom g_)
 zeq:COk hY Tryz.prog zaR 80 (znv g_)
 zeu:COk hY Tryz.prog zaR 133 (znA g_)
 zea:COk hY Tryz.prog zaR 236 (zwT g_)
 zej:COk hY Tryz.prog zaR 78 (zoc g_)
 zet:COk hY Tryz.prog zaR 80 (zny g_)
 zes:COk hY Tryz.prog zaR 133 (znj g_)
 zeI:COk hY Tryz.prog zaR 242 (zyn g_)
 zdf:COk hY Tryz.prog zaR 210 (zxC g_)
 zdN:COk hY Tryz.prog zaR 80 (znb g_)
 zer:COk hY Tryz.prog zaR 222 (zuS g_)
 zdL:COk hY Tryz.prog zaR 80 (znm g_)
 zeX:COk hY Tryz.prog zaR 167 (zv7 g_)
 zeD:COk hY Tryz.prog zaR 85 (zy4 g_)
 zcM:COk hY Tryz.prog zaR 86 (zBY g_)
 zcb:COk hY Tryz.prog zaR 87 (zA8 g_)
 zfn:COk hY Tryz.prog zaR 88 (zBN g_)
 zd1:COk hY Tryz.prog zaR 135 (zzG g_)
 zf5:COk hY Tryz.prog zaR 92 (zCv g_)
 ze9:COk hY Tryz.prog zaR 93 (zAQ g_)
def zgn(j:zh)(d:Bool)(e:Str)(f:zk)(b:List zf)(k:Int)(l:Str)(m:Int)(n:Str)(o:List Str)(p:List zf):zTe:=(j.zcv (zn f)).bind λg=>(match g with| .inl c=>some (.inr (.inr (c.1,(zn c.2.1),())))| .inr a=>(room (b.length+([(zy a.1)]:List zf).length)).bind λ_=>let h:=b++[(zy a.1)];some (.inl (d,e,(zn a.2.1),h,())))
def zgq(h:zh):Bool×Str×zk×(List zf)×Unit->zTe| (c,d,j,a,())=>(zbS d (zn j)).bind λb=>(if(!b.1)=true then(zas b.2.1.t 0).bind λk=>some (k.Kind !=0)else some false).bind λl=>if l=true then if c=true then(zZ [102,117,110,99,116,105,111,110] (zn b.2.1)).bind λe=>if e.1=true then(h.zc0 39 (zn e.2.1)).bind λm=>(match m with| .inl i=>some (.inr (.inr (i.1,(zn i.2.1),())))| .inr f=>(room (a.length+([(zy f.1)]:List zf).length)).bind λ_=>let n:=a++[(zy f.1)];some (.inl (c,d,(zn f.2.1),n,())))else zgn h c d (zn e.2.1) a 0 [] 0 [] [] []else zgn h c d (zn b.2.1) a 0 [] 0 [] [] []else some (.inr (.inl (a,(zn b.2.1),())))
def ziG(d:zh)(b:Bool)(c:Str)(x:zk):zGk:=Lp.loop (zgq d) (b,c,(zn x),[],())
def zAh(b:zh):=callee Y [] zp8 zlN (u3 (ziG b))
def zzT(b:zh):zau Y (zar Y zlN):=(.loop [[7,5,1,2],[8,5,1,2],[6,1,2],[2,2]] ⟨[(0,.ptr 0 0),(1,.bool),(2,.str),(6,.own 1)],[.whole 48 48,.arr 25]⟩ (zgq b) (.join [[4,2,1,2,5,2,7,5,1,2],[2,2,5,2,7,5,1,2],[6,2,7,5,1,2],[8,5,1,2],[6,1,2],[2,2]] ⟨[(0,.ptr 0 0),(1,.bool),(2,.str),(6,.own 1),(7,.ptr 2 0)],[.whole 48 48,.arr 25,oc0 3 4,.arr 9,.arr 25]⟩ (u10 (zgn b)) .nil) .nil)
theorem zvI(b:zh)(d:zU b):K8 20 (zAh b):=f8 (zzT b) Tryz.func20 (.cons zdI (.cons zbf (.cons d.zc0 (.cons d.zcv .nil)))) ⟨λz=>by kernel_rfl,⟨λz=>by kernel_rfl,⟨⟩⟩,trivial⟩
def zjf(o:zh)(d:zk)(p:Int)(q:Str)(r:Int)(s:Str)(e:Int)(f:Str)(g:Int)(h:Str)(t:List Str)(u:List zf)(i:List Str)(j:List zf):zbU:=(o.zdQ (zn d) e f g h i j).bind λk=>(match k with| .inl a=>(zaP [125] (zn a.1)).bind λl=>(match l with| .inl b=>some (.inl (b.1,(zn b.2.1),()))| .inr m=>some (.inr (⟨a.2.1,a.2.2.1,a.2.2.2.1,a.2.2.2.2.1,a.2.2.2.2.2.2.1,a.2.2.2.2.2.1⟩,(zn m.1),())))| .inr c=>some (.inl (c.1,(zn c.2.1),())))
def zjo(r:zh)(b:zk)(c:Int)(d:Str)(e:Int)(f:Str)(g:Int)(h:Str)(i:Int)(j:Str)(k:List Str)(l:List zf)(m:List Str)(n:List zf):zbU:=(zaP [123] (zn b)).bind λo=>(match o with| .inl a=>some (.inl (a.1,(zn a.2.1),()))| .inr p=>zjf r (zn p.1) c d e f g h i j k l m n)
def zjg(r:zh)(c:zk)(d:Int)(e:Str)(f:Int)(g:Str)(h:Int)(i:Str)(j:Int)(k:Str)(l:List Str)(m:List zf)(n:List Str)(o:List zf):zbU:=(zkJ [41] false (zn c) h i j k n o).bind λp=>(match p with| .inl b=>some (.inl (b.1,(zn b.2.1),()))| .inr a=>zjo r (zn a.1) d e f g a.2.1 a.2.2.1 a.2.2.2.1 a.2.2.2.2.1 l m a.2.2.2.2.2.1 a.2.2.2.2.2.2.1)
def ze7(r:zh)(b:zk)(c:Int)(d:Str)(e:Int)(f:Str)(g:Int)(h:Str)(i:Int)(j:Str)(k:List Str)(l:List zf)(m:List Str)(n:List zf):zbU:=(zaP [40] (zn b)).bind λo=>(match o with| .inl a=>some (.inl (a.1,(zn a.2.1),()))| .inr p=>zjg r (zn p.1) c d e f g h i j k l m n)
def zhh(e:zh)(a:Int)(x:zk):zbU:=(if(a==39)=true then some true else(zas x.t 0).bind λf=>some (f.Kind==1)).bind λg=>if g=true then(zez (zn x)).bind λh=>(match h with| .inl b=>some (.inl (b.1,(zn b.2.1),()))| .inr c=>ze7 e (zn c.2.1) 0 [] 0 [] a c.1 0 [] [] [] [] [])else ze7 e (zn x) 0 [] 0 [] a [] 0 [] [] [] [] []
def zvZ(b:zh):=callee Y [] zBQ zq7 (u2 (zhh b))
def zvW(b:zh):zau Y (zar Y zq7):=(.join [[1,2,2,2],[2,2,2,2]] ⟨[(2,.ptr 1 0),(4,.ptr 2 0),(5,.ptr 3 0)],om8⟩ (u13 (ze7 b)) (.join [[1,2,2,2,2],[2,2,2,2,2]] ⟨[(2,.ptr 1 0),(4,.ptr 2 0),(5,.ptr 3 0)],om8⟩ (u13 (zjg b)) (.join [[1,2,2,2,2,2],[2,2,2,2,2,2]] ⟨[(2,.ptr 1 0),(4,.ptr 2 0),(5,.ptr 3 0)],om8⟩ (u13 (zjo b)) (.join [[1,2,2,2,2,2,2],[2,2,2,2,2,2,2]] ⟨[(2,.ptr 1 0),(4,.ptr 2 0),(5,.ptr 3 0)],om8⟩ (u13 (zjf b)) .nil))))
theorem ztv(b:zh)(d:zU b):K8 37 (zvZ b):=f8 (zvW b) Tryz.func37 ((.cons zgB (.cons zbo (.cons (COk.laid zAL) (.cons (COk.laid d.zdQ) .nil)))):zcu hY Tryz.prog zaR [(76,(zrr)),(77,(zht)),(78,(zeg Y [⟨[(0,.ptr 0 0),(1,.str),(2,.bool),(3,.fn 79 [.ptr 1 0,.ptr 2 0])],zdp⟩,⟨[(0,.ptr 0 0),(1,.str),(2,.bool),(3,.fn 236 [.ptr 1 0,.ptr 2 0])],zF6⟩,⟨[(0,.ptr 0 0),(1,.str),(2,.bool),(3,.fn 242 [.ptr 1 0,.ptr 2 0])],zdp⟩] (zrv))),(80,(zeg Y [⟨[(0,.ptr 0 0),(1,.fn 133 [.ptr 1 0,.ptr 2 0,.ptr 3 0,.ptr 8 0])],om3⟩,⟨[(0,.ptr 0 0),(1,.fn 81 [.ptr 1 0,.ptr 2 0])],zdp⟩,⟨[(0,.ptr 0 0),(1,.fn 241 [.ptr 1 0,.ptr 2 0])],zdp⟩,⟨[(0,.ptr 0 0),(1,.fn 133 [.ptr 1 0,.ptr 2 0,.ptr 3 0,.ptr 7 0])],om5⟩,⟨[(0,.ptr 0 0),(1,.fn 133 [.ptr 1 0,.ptr 2 0,.ptr 3 0,.ptr 8 0])],om1⟩,⟨[(0,.ptr 0 0),(1,.fn 222 [.ptr 1 0,.ptr 2 0])],zdp⟩,⟨[(0,.ptr 0 0),(1,.fn 167 [.ptr 1 0,.ptr 2 0])],zdp⟩] (zm4 b)))]) ⟨λz=>by kernel_rfl,⟨λz=>by kernel_rfl,⟨λz=>by kernel_rfl,⟨λz=>by kernel_rfl,⟨⟩⟩⟩⟩⟩
def zgG(j:zh)(x:zk)(e:Int)(f:Str)(g:Int)(h:Str)(l:List Str)(i:List zf):OT6:=(j.zd5 ⟨x.t,false⟩ e f g h l i).bind λc=>(match c with| .inl a=>some (.inl (⟨a.1.t,x.no⟩,a.2.1,a.2.2.1,a.2.2.2.1,a.2.2.2.2.1,a.2.2.2.2.2.1,a.2.2.2.2.2.2.1,a.2.2.2.2.2.2.2.1,()))| .inr b=>some (.inr (b.1,(zn b.2.1),b.2.2.1,b.2.2.2.1,b.2.2.2.2.1,b.2.2.2.2.2.1,b.2.2.2.2.2.2.1,b.2.2.2.2.2.2.2.1,())))
def zuB(b:zh):=callee Y [] znD zji (u7 (zgG b))
def zuF:zau Y (zar Y zji):= .nil
theorem zsH(b:zh)(d:zU b):K8 80 (zuB b):=f8 zuF Tryz.func80 (.cons d.zd5 .nil) trivial
def zgs(j:zh)(x:zk)(c:Int)(d:Str)(e:Int)(f:Str)(l:List Str)(g:List zf):OT6:=(j.zcf true [125] (zn x)).bind λh=>(match h with| .inl a=>some (.inl ((zn a.2.1),c,d,e,f,a.1,l,g,()))| .inr b=>some (.inr (b.1,(zn b.2.1),c,d,e,f,l,g,())))
def zum(b:zh):=callee Y [] ztQ ziP (u7 (zgs b))
def ztY:zau Y (zar Y ziP):= .nil
theorem zrL(b:zh)(d:zU b):K8 81 (zum b):=f8 ztY Tryz.func81 (.cons d.zcf .nil) trivial
def zjv(b:zh)(x:zk):zbU:=(zbS [123] (zn x)).bind λe=>if e.1=true then(b.zcx (zn e.2.1)).bind λar=>(match ar with| .inl s=>some (.inl (s.1,(zn s.2.1),()))| .inr u=>some (.inr ((zy u.1),(zn u.2.1),())))else(zZ [59] (zn e.2.1)).bind λf=>if f.1=true then some (.inr (⟨40,[],0,[],[],[]⟩,(zn f.2.1),()))else(zZ [118,97,114] (zn f.2.1)).bind λg=>if g.1=true then(b.zdW (zn g.2.1)).bind λau=>(match au with| .inl v=>some (.inl (v.1,(zn v.2.1),()))| .inr y=>(zcF (zn y.2.1)).bind λav=>(match av with| .inl z=>some (.inl (z.1,(zn z.2.1),()))| .inr aw=>some (.inr ((zy y.1),(zn aw.1),()))))else(zZ [105,102] (zn g.2.1)).bind λh=>if h.1=true then(b.zeD (zn h.2.1)).bind λax=>(match ax with| .inl A=>some (.inl (A.1,(zn A.2.1),()))| .inr B=>some (.inr ((zy B.1),(zn B.2.1),())))else(zZ [119,104,105,108,101] (zn h.2.1)).bind λi=>if i.1=true then(b.zcM (zn i.2.1)).bind λay=>(match ay with| .inl C=>some (.inl (C.1,(zn C.2.1),()))| .inr D=>(b.zcb (zn D.2.1)).bind λaz=>(match az with| .inl E=>some (.inl (E.1,(zn E.2.1),()))| .inr H=>some (.inr (⟨27,[],0,[],[],[(zy D.1),(zy H.1)]⟩,(zn H.2.1),()))))else(zZ [100,111] (zn i.2.1)).bind λj=>if j.1=true then(b.zcb (zn j.2.1)).bind λa0=>(match a0 with| .inl I=>some (.inl (I.1,(zn I.2.1),()))| .inr J=>(zaP [119,104,105,108,101] (zn J.2.1)).bind λa1=>(match a1 with| .inl K=>some (.inl (K.1,(zn K.2.1),()))| .inr a2=>(b.zcM (zn a2.1)).bind λa3=>(match a3 with| .inl L=>some (.inl (L.1,(zn L.2.1),()))| .inr M=>(zcF (zn M.2.1)).bind λa4=>(match a4 with| .inl N=>some (.inl (N.1,(zn N.2.1),()))| .inr a5=>some (.inr (⟨28,[],0,[],[],[(zy J.1),(zy M.1)]⟩,(zn a5.1),()))))))else(zZ [102,111,114] (zn j.2.1)).bind λk=>if k.1=true then(b.zfn (zn k.2.1)).bind λa6=>(match a6 with| .inl O=>some (.inl (O.1,(zn O.2.1),()))| .inr P=>some (.inr ((zy P.1),(zn P.2.1),())))else(zZ [98,114,101,97,107] (zn k.2.1)).bind λl=>if l.1=true then(ziC 31 (zn l.2.1)).bind λa7=>(match a7 with| .inl Q=>some (.inl (Q.1,(zn Q.2.1),()))| .inr R=>some (.inr ((zy R.1),(zn R.2.1),())))else(zZ [99,111,110,116,105,110,117,101] (zn l.2.1)).bind λm=>if m.1=true then(ziC 32 (zn m.2.1)).bind λa8=>(match a8 with| .inl S=>some (.inl (S.1,(zn S.2.1),()))| .inr U=>some (.inr ((zy U.1),(zn U.2.1),())))else(zZ [114,101,116,117,114,110] (zn m.2.1)).bind λn=>if n.1=true then(zbS [59] (zn n.2.1)).bind λo=>if(!o.1)=true then(zgj (zn o.2.1)).bind λp=>if(!p.1)=true then(b.zaX (zn p.2.1)).bind λa9=>(match a9 with| .inl V=>(zcF (zn V.2.1)).bind λba=>(match ba with| .inl W=>some (.inl (W.1,(zn W.2.1),()))| .inr bb=>some (.inr (⟨33,[],0,[],[],[(zy V.1)]⟩,(zn bb.1),())))| .inr X=>some (.inl (X.1,(zn X.2.1),())))else(zcF (zn p.2.1)).bind λbc=>(match bc with| .inl Z=>some (.inl (Z.1,(zn Z.2.1),()))| .inr bd=>some (.inr (⟨33,[],0,[],[],[]⟩,(zn bd.1),())))else(zcF (zn o.2.1)).bind λbe=>(match be with| .inl aa=>some (.inl (aa.1,(zn aa.2.1),()))| .inr bf=>some (.inr (⟨33,[],0,[],[],[]⟩,(zn bf.1),())))else(zZ [116,104,114,111,119] (zn n.2.1)).bind λd=>if d.1=true then(zas d.2.1.t 0).bind λbg=>if bg.Fresh=true then(zbw (zn d.2.1)).bind λab=>some (.inl (ab.1,(zn ab.2.1),()))else(b.zaX (zn d.2.1)).bind λbh=>(match bh with| .inl ac=>(zcF (zn ac.2.1)).bind λbi=>(match bi with| .inl ad=>some (.inl (ad.1,(zn ad.2.1),()))| .inr bj=>some (.inr (⟨34,[],0,[],[],[(zy ac.1)]⟩,(zn bj.1),())))| .inr ae=>some (.inl (ae.1,(zn ae.2.1),())))else(zZ [116,114,121] (zn d.2.1)).bind λq=>if q.1=true then(b.zf5 (zn q.2.1)).bind λbk=>(match bk with| .inl af=>some (.inl (af.1,(zn af.2.1),()))| .inr ag=>some (.inr ((zy ag.1),(zn ag.2.1),())))else(zZ [115,119,105,116,99,104] (zn q.2.1)).bind λr=>if r.1=true then(b.ze9 (zn r.2.1)).bind λbl=>(match bl with| .inl ah=>some (.inl (ah.1,(zn ah.2.1),()))| .inr ai=>some (.inr ((zy ai.1),(zn ai.2.1),())))else(zbS [102,117,110,99,116,105,111,110] (zn r.2.1)).bind λc=>if c.1=true then(zbw (zn c.2.1)).bind λaj=>some (.inl (aj.1,(zn aj.2.1),()))else(zas c.2.1.t 0).bind λbm=>(if(bm.Kind==1)=true then(zas c.2.1.t 1).bind λbn=>some (bn.Kind==5)else some false).bind λbo=>(if bo=true then(zas c.2.1.t 1).bind λbp=>some (bp.Text==[58])else some false).bind λbq=>if bq=true then(zez (zn c.2.1)).bind λbr=>(match br with| .inl ak=>some (.inl (ak.1,(zn ak.2.1),()))| .inr al=>(zaY (zn al.2.1)).bind λbs=>(b.zcv (zn bs.2.1)).bind λbt=>(match bt with| .inl am=>some (.inl (am.1,(zn am.2.1),()))| .inr an=>some (.inr (⟨38,al.1,0,[],[],[(zy an.1)]⟩,(zn an.2.1),()))))else(b.zaX (zn c.2.1)).bind λbu=>(match bu with| .inl ao=>(zcF (zn ao.2.1)).bind λbv=>(match bv with| .inl ap=>some (.inl (ap.1,(zn ap.2.1),()))| .inr bw=>some (.inr (⟨24,[],0,[],[],[(zy ao.1)]⟩,(zn bw.1),())))| .inr aq=>some (.inl (aq.1,(zn aq.2.1),())))
def zB1(b:zh):=callee Y [] zBA zq7 (λz=>zjv b z.1)
theorem zxt(d:zh)(b:zU d):K8 38 (zB1 d):=f8 zBr Tryz.func38 (.cons zdI (.cons b.zcx (.cons zbf (.cons b.zdW (.cons zra (.cons b.zeD (.cons b.zcM (.cons b.zcb (.cons zbo (.cons b.zfn (.cons zzV (.cons zpy (.cons b.zaX (.cons zbH (.cons b.zf5 (.cons b.ze9 (.cons zgB (.cons zcN (.cons b.zcv .nil))))))))))))))))))) trivial
def ziY(k:zh)(x:zk):zbU:=(zaP [123] (zn x)).bind λe=>(match e with| .inl a=>some (.inl (a.1,(zn a.2.1),()))| .inr f=>(k.zcf false [125] (zn f.1)).bind λg=>(match g with| .inl b=>(zaP [125] (zn b.2.1)).bind λh=>(match h with| .inl c=>some (.inl (c.1,(zn c.2.1),()))| .inr i=>some (.inr (⟨25,[],0,[],[],b.1⟩,(zn i.1),())))| .inr d=>some (.inl (d.1,(zn d.2.1),()))))
def zzz(b:zh):=callee Y [] zBA zq7 (λz=>ziY b z.1)
theorem zvH(b:zh)(d:zU b):K8 82 (zzz b):=f8 zBr Tryz.func82 (.cons zbo (.cons d.zcf .nil)) trivial
def zlM(p:zh)(h:zk)(i:Int)(j:Str)(k:Int)(l:Str)(b:Int)(c:Str)(d:Int)(e:Str)(m:List Str)(n:List zf)(f:List Str)(g:List zf):OT2:=(zZ [44] (zn h)).bind λa=>if(!a.1)=true then some (.inr (.inr (⟨b,c,d,e,f,g⟩,(zn a.2.1),())))else some (.inl ((zn a.2.1),i,j,k,l,b,c,d,e,m,n,f,g,()))
def zgA(v:zh)(h:zk)(i:Int)(j:Str)(k:Int)(l:Str)(m:Int)(n:Str)(o:Int)(p:Str)(a:Int)(b:Str)(c:Int)(d:Str)(q:List Str)(r:List zf)(s:List Str)(e:List zf)(f:List Str)(g:List zf):OT2:=(room (e.length+([⟨a,b,c,d,f,g⟩]:List zf).length)).bind λ_=>let t:=e++[⟨a,b,c,d,f,g⟩];zlM v (zn h) i j k l m n o p q r s t
def zgW(d:zh):zk×Int×Str×Int×Str×Int×Str×Int×Str×(List Str)×(List zf)×(List Str)×(List zf)×Unit->OT2| (t,e,f,g,h,i,j,k,l,m,n,o,p,())=>(zez (zn t)).bind λu=>(match u with| .inl q=>some (.inr (.inl (q.1,(zn q.2.1),())))| .inr a=>(zZ [61] (zn a.2.1)).bind λb=>if b.1=true then(d.za7 (zn b.2.1)).bind λv=>(match v with| .inl r=>zgA d (zn r.2.1) e f g h i j k l 23 a.1 0 [] m n o p [] [(zy r.1)]| .inr s=>some (.inr (.inl (s.1,(zn s.2.1),()))))else zgA d (zn b.2.1) e f g h i j k l 23 a.1 0 [] m n o p [] [])
def zju(b:zh)(x:zk):zbU:=Lp.loop (zgW b) ((zn x),0,[],0,[],22,[],0,[],[],[],[],[],())
def zA5(b:zh):=callee Y [] zBA zq7 (λz=>zju b z.1)
def zBV(b:zh):zau Y (zar Y zq7):=(.loop [[7,5,2,2],[8,5,2,2],[6,2,2]] ⟨[(0,.ptr 0 0),(2,.ptr 1 0),(3,.ptr 2 0)],zjO⟩ (zgW b) (.join [[1,2,2,5,7,5,2,2],[2,2,2,5,7,5,2,2],[6,7,5,2,2],[8,5,2,2],[6,2,2]] ⟨[(0,.ptr 0 0),(2,.ptr 1 0),(3,.ptr 2 0),(4,.ptr 3 0)],om6⟩ (u19 (zgA b)) (.join [[1,2,2,2,5,7,5,2,2],[2,2,2,2,5,7,5,2,2],[6,7,5,2,2],[8,5,2,2],[6,2,2]] ⟨[(0,.ptr 0 0),(2,.ptr 1 0),(3,.ptr 2 0)],zjO⟩ (u13 (zlM b)) .nil)) .nil)
theorem zxV(b:zh)(d:zU b):K8 83 (zA5 b):=f8 (zBV b) Tryz.func83 (.cons zgB (.cons zbf (.cons d.za7 .nil))) ⟨λz=>by kernel_rfl,⟨λz=>by kernel_rfl,⟨λz=>by kernel_rfl,⟨⟩⟩⟩,trivial⟩
def zif(c:zh)(x:zk):zki:=(c.zdu 3 (zn x)).bind λp=>(match p with| .inl f=>some (.inr (f.1,(zn f.2.1),()))| .inr a=>(zZ [63] (zn a.2.1)).bind λd=>if d.1=true then(c.zdL (zn d.2.1) 0 [] 0 [] [] []).bind λq=>(match q with| .inl g=>(zaP [58] (zn g.1)).bind λr=>(match r with| .inl h=>some (.inr (h.1,(zn h.2.1),()))| .inr s=>(c.za7 (zn s.1)).bind λt=>(match t with| .inl i=>some (.inl (⟨19,[],0,[],[],[(zy a.1),(zy g.2.1),(zy i.1)]⟩,(zn i.2.1),()))| .inr j=>some (.inr (j.1,(zn j.2.1),()))))| .inr k=>some (.inr (k.1,(zn k.2.1),())))else(zch [32,61,32,43,61,32,45,61,32,42,61,32,47,61,32,37,61,32] (zn d.2.1)).bind λe=>if(!e.1)=true then some (.inl ((zy a.1),(zn e.2.1),()))else(zfD (zy a.1) (zn e.2.1)).bind λu=>(match u with| .inl l=>some (.inr (l.1,(zn l.2.1),()))| .inr v=>(zaY (zn v.1)).bind λm=>(c.za7 (zn m.2.1)).bind λy=>(match y with| .inl n=>some (.inl (⟨20,m.1.Text,0,[],[],[(zy a.1),(zy n.1)]⟩,(zn n.2.1),()))| .inr o=>some (.inr (o.1,(zn o.2.1),())))))
def zx2(b:zh):=callee Y [] zBA zkR (λz=>zif b z.1)
def zze:zau Y (zar Y zkR):= .nil
theorem zvl(b:zh)(d:zU b):K8 134 (zx2 b):=f8 zze Tryz.func134 ((.cons d.zdu (.cons zbf (.cons (COk.laid d.zdL) (.cons zbo (.cons d.za7 (.cons zil (.cons zot (.cons zcN .nil)))))))):zcu hY Tryz.prog zaR [(166,(zpx b)),(36,(zkb)),(80,(zeg Y [⟨[(0,.ptr 0 0),(1,.fn 133 [.ptr 1 0,.ptr 2 0,.ptr 3 0,.ptr 8 0])],om3⟩,⟨[(0,.ptr 0 0),(1,.fn 81 [.ptr 1 0,.ptr 2 0])],zdp⟩,⟨[(0,.ptr 0 0),(1,.fn 241 [.ptr 1 0,.ptr 2 0])],zdp⟩,⟨[(0,.ptr 0 0),(1,.fn 133 [.ptr 1 0,.ptr 2 0,.ptr 3 0,.ptr 7 0])],om5⟩,⟨[(0,.ptr 0 0),(1,.fn 133 [.ptr 1 0,.ptr 2 0,.ptr 3 0,.ptr 8 0])],om1⟩,⟨[(0,.ptr 0 0),(1,.fn 222 [.ptr 1 0,.ptr 2 0])],zdp⟩,⟨[(0,.ptr 0 0),(1,.fn 167 [.ptr 1 0,.ptr 2 0])],zdp⟩] (znm b))),(77,(zht)),(134,(zpp b)),(136,(zqc)),(168,(zo9)),(75,(zmI))]) trivial
def zfR(r:zh):Int×zk×Int×Str×Int×Str×zf×(List Str)×(List zf)×Unit->Option ((Int×zk×Int×Str×Int×Str×zf×(List Str)×(List zf)×Unit)⊕((zaQ×zk×Unit)⊕(zf×zk×Unit)))| (b,g,h,i,j,k,c,l,m,())=>(ziN (zn g)).bind λa=>let n:=((decide (a.1<b))||(a.1==0));if n=true then some (.inr (.inr ((zy c),(zn a.2.2.1),())))else(zaY (zn a.2.2.1)).bind λd=>let o:=(IntKind.wrap .i64 (a.1+1));fd ((r.zdu o (zn d.2.1)).bind λp=>(match p with| .inl e=>some (.inr (.inl (e.1,(zn e.2.1),())))| .inr f=>some (.inl (b,(zn f.2.1),h,i,j,k,⟨a.2.1,d.1.Text,0,[],[],[(zy c),(zy f.1)]⟩,l,m,()))))
def zic(d:zh)(f:Int)(x:zk):zbU:=(d.zdh (zn x)).bind λe=>(match e with| .inl a=>Lp.loop (zfR d) (f,(zn a.2.1),0,[],0,[],(zy a.1),[],[],())| .inr b=>some (.inl (b.1,(zn b.2.1),())))
def zyu(b:zh):=callee Y [] zBQ zq7 (u2 (zic b))
def zyr(b:zh):zau Y (zar Y zq7):=(.loop [[7,5,2,2],[8,5,2,2],[6,2,2]] ⟨[(0,.ptr 0 0),(1,.int .i64),(4,.ptr 1 0),(5,.ptr 2 0)],zK8⟩ (zfR b) .nil .nil)
theorem zvf(b:zh)(d:zU b):K8 166 (zyu b):=f8 (zyr b) Tryz.func166 (.cons d.zdh (.cons zv4 (.cons zcN (.cons d.zdu .nil)))) ⟨λz=>by kernel_rfl,trivial,trivial⟩
def ziW(d:zh)(x:zk):zki:=(zch [32,45,32,43,32,33,32,116,121,112,101,111,102,32,100,101,108,101,116,101,32,118,111,105,100,32] (zn x)).bind λe=>if e.1=true then(zaY (zn e.2.1)).bind λh=>(d.zdh (zn h.2.1)).bind λs=>(match s with| .inl i=>some (.inl (⟨15,h.1.Text,0,[],[],[(zy i.1)]⟩,(zn i.2.1),()))| .inr j=>some (.inr (j.1,(zn j.2.1),())))else(zch [32,43,43,32,45,45,32] (zn e.2.1)).bind λf=>if f.1=true then(zaY (zn f.2.1)).bind λk=>(d.zdh (zn k.2.1)).bind λu=>(match u with| .inl g=>(zfD (zy g.1) (zn g.2.1)).bind λv=>(match v with| .inl l=>some (.inr (l.1,(zn l.2.1),()))| .inr y=>some (.inl (⟨16,k.1.Text,1,[],[],[(zy g.1)]⟩,(zn y.1),())))| .inr m=>some (.inr (m.1,(zn m.2.1),())))else(d.zdX (zn f.2.1)).bind λz=>(match z with| .inl n=>(d.zdf (zy n.1) true (zn n.2.1)).bind λA=>(match A with| .inl o=>some (.inr (o.1,(zn o.2.1),()))| .inr a=>(zch [32,43,43,32,45,45,32] (zn a.2.1)).bind λb=>(if(!b.1)=true then some true else(zas b.2.1.t 0).bind λB=>some B.Fresh).bind λC=>if C=true then some (.inl ((zy a.1),(zn b.2.1),()))else(zfD (zy a.1) (zn b.2.1)).bind λD=>(match D with| .inl p=>some (.inr (p.1,(zn p.2.1),()))| .inr E=>fd ((zaY (zn E.1)).bind λq=>some (.inl (⟨16,q.1.Text,0,[],[],[(zy a.1)]⟩,(zn q.2.1),())))))| .inr r=>some (.inr (r.1,(zn r.2.1),())))
def zAf(b:zh):=callee Y [] zBA zkR (λz=>ziW b z.1)
theorem zvY(c:zh)(d:zU c):K8 189 (zAf c):=f8 zze Tryz.func189 (.cons zil (.cons zcN (.cons d.zdh (.cons zot (.cons d.zdX (.cons d.zdf .nil)))))) trivial
def zjB(c:zh)(x:zk):zki:=(zZ [110,101,119] (zn x)).bind λd=>if(!d.1)=true then(c.zei (zn d.2.1)).bind λm=>(match m with| .inl g=>some (.inl ((zy g.1),(zn g.2.1),()))| .inr h=>some (.inr (h.1,(zn h.2.1),())))else(c.zdX (zn d.2.1)).bind λn=>(match n with| .inl i=>(c.zdf (zy i.1) false (zn i.2.1)).bind λo=>(match o with| .inl j=>some (.inr (j.1,(zn j.2.1),()))| .inr a=>(zZ [40] (zn a.2.1)).bind λe=>if e.1=true then fd ((c.zcw [41] false (zn e.2.1)).bind λp=>(match p with| .inl f=>(room (([(zy a.1)]:List zf).length+f.1.length)).bind λ_=>let q:=[(zy a.1)]++f.1;some (.inl (⟨14,[],0,[],[],q⟩,(zn f.2.1),()))| .inr k=>some (.inr (k.1,(zn k.2.1),()))))else some (.inl (⟨14,[],0,[],[],[(zy a.1)]⟩,(zn e.2.1),())))| .inr l=>some (.inr (l.1,(zn l.2.1),())))
def zBq(b:zh):=callee Y [] zBA zkR (λz=>zjB b z.1)
theorem zxx(d:zh)(b:zU d):K8 211 (zBq d):=f8 zze Tryz.func211 (.cons zbf (.cons b.zei (.cons b.zdX (.cons b.zdf (.cons b.zcw .nil))))) trivial
def zhM(i:zh)(x:zk):zki:=(zas x.t 0).bind λa=>if(a.Kind==1)=true then(zaY (zn x)).bind λd=>some (.inl (⟨3,a.Text,0,[],[],[]⟩,(zn d.2.1),()))else if(a.Kind==3)=true then(zaY (zn x)).bind λe=>some (.inl (⟨1,[],a.Num,[],[],[]⟩,(zn e.2.1),()))else if(a.Kind==4)=true then(zaY (zn x)).bind λf=>some (.inl (⟨2,[],0,a.Text,[],[]⟩,(zn f.2.1),()))else(i.zfq (zn x)).bind λg=>(match g with| .inl b=>some (.inl ((zy b.1),(zn b.2.1),()))| .inr c=>some (.inr (c.1,(zn c.2.1),())))
def zxT(b:zh):=callee Y [] zBA zkR (λz=>zhM b z.1)
theorem zt3(b:zh)(d:zU b):K8 224 (zxT b):=f8 zze Tryz.func224 (.cons zcN (.cons d.zfq .nil)) trivial
def zjH(c:zh)(x:zk):zki:=(zZ [116,104,105,115] (zn x)).bind λd=>if d.1=true then some (.inl (⟨4,[],0,[],[],[]⟩,(zn d.2.1),()))else(zZ [110,117,108,108] (zn d.2.1)).bind λe=>if e.1=true then some (.inl (⟨5,[],0,[],[],[]⟩,(zn e.2.1),()))else(zZ [102,97,108,115,101] (zn e.2.1)).bind λf=>if f.1=true then some (.inl (⟨6,[],0,[],[],[]⟩,(zn f.2.1),()))else(zZ [116,114,117,101] (zn f.2.1)).bind λg=>if g.1=true then some (.inl (⟨6,[],1,[],[],[]⟩,(zn g.2.1),()))else(zZ [102,117,110,99,116,105,111,110] (zn g.2.1)).bind λh=>if h.1=true then(c.zc0 10 (zn h.2.1)).bind λu=>(match u with| .inl l=>some (.inr (l.1,(zn l.2.1),()))| .inr m=>some (.inl ((zy m.1),(zn m.2.1),())))else(zZ [40] (zn h.2.1)).bind λi=>if i.1=true then(c.zdM (zn i.2.1) 0 [] 0 [] [] []).bind λv=>(match v with| .inl n=>(zaP [41] (zn n.1)).bind λy=>(match y with| .inl o=>some (.inr (o.1,(zn o.2.1),()))| .inr z=>some (.inl ((zy n.2.1),(zn z.1),())))| .inr p=>some (.inr (p.1,(zn p.2.1),())))else(zZ [91] (zn i.2.1)).bind λj=>if j.1=true then(c.zcw [93] true (zn j.2.1)).bind λA=>(match A with| .inl q=>some (.inl (⟨7,[],0,[],[],q.1⟩,(zn q.2.1),()))| .inr r=>some (.inr (r.1,(zn r.2.1),())))else(zZ [123] (zn j.2.1)).bind λk=>if k.1=true then(c.zej [125] true (zn k.2.1) 8 [] 0 [] [] []).bind λB=>(match B with| .inl s=>some (.inr (s.1,(zn s.2.1),()))| .inr a=>some (.inl (⟨a.2.1,a.2.2.1,a.2.2.2.1,a.2.2.2.2.1,a.2.2.2.2.2.1,a.2.2.2.2.2.2.1⟩,(zn a.1),())))else(zbw (zn k.2.1)).bind λt=>some (.inr (t.1,(zn t.2.1),()))
def zBp(b:zh):=callee Y [] zBA zkR (λz=>zjH b z.1)
theorem zw8(b:zh)(d:zU b):K8 237 (zBp b):=f8 zze Tryz.func237 ((.cons zbf (.cons d.zc0 (.cons (COk.laid d.zdM) (.cons zbo (.cons d.zcw (.cons (COk.laid d.zej) (.cons zbH .nil))))))):zcu hY Tryz.prog zaR [(36,(zkb)),(37,(znU b)),(80,(zeg Y [⟨[(0,.ptr 0 0),(1,.fn 133 [.ptr 1 0,.ptr 2 0,.ptr 3 0,.ptr 8 0])],om3⟩,⟨[(0,.ptr 0 0),(1,.fn 81 [.ptr 1 0,.ptr 2 0])],zdp⟩,⟨[(0,.ptr 0 0),(1,.fn 241 [.ptr 1 0,.ptr 2 0])],zdp⟩,⟨[(0,.ptr 0 0),(1,.fn 133 [.ptr 1 0,.ptr 2 0,.ptr 3 0,.ptr 7 0])],om5⟩,⟨[(0,.ptr 0 0),(1,.fn 133 [.ptr 1 0,.ptr 2 0,.ptr 3 0,.ptr 8 0])],om1⟩,⟨[(0,.ptr 0 0),(1,.fn 222 [.ptr 1 0,.ptr 2 0])],zdp⟩,⟨[(0,.ptr 0 0),(1,.fn 167 [.ptr 1 0,.ptr 2 0])],zdp⟩] (znh b))),(77,(zht)),(223,(zl0 b)),(78,(zeg Y [⟨[(0,.ptr 0 0),(1,.str),(2,.bool),(3,.fn 79 [.ptr 1 0,.ptr 2 0])],zdp⟩,⟨[(0,.ptr 0 0),(1,.str),(2,.bool),(3,.fn 236 [.ptr 1 0,.ptr 2 0])],zF6⟩,⟨[(0,.ptr 0 0),(1,.str),(2,.bool),(3,.fn 242 [.ptr 1 0,.ptr 2 0])],zdp⟩] (zoc b))),(21,(zhl))]) trivial
def zgI(j:zh)(x:zk)(e:Int)(f:Str)(g:Int)(h:Str)(l:List Str)(i:List zf):OT8:=(j.zfC ⟨x.t,false⟩ e f g h l i).bind λc=>(match c with| .inl b=>some (.inl (⟨b.1.t,x.no⟩,(zy b.2.1),b.2.2.1,b.2.2.2.1,()))| .inr a=>some (.inr (a.1,(zn a.2.1),a.2.2.1,a.2.2.2.1,a.2.2.2.2.1,a.2.2.2.2.2.1,a.2.2.2.2.2.2.1,a.2.2.2.2.2.2.2.1,())))
def zvu(b:zh):=callee Y [] znB zjb (u7 (zgI b))
def zvs:zau Y (zar Y zjb):= .nil
theorem ztn(b:zh)(d:zU b):K8 80 (zvu b):=f8 zvs Tryz.func80 (.cons d.zfC .nil) trivial
def zih(j:zh)(x:zk)(f:Int)(g:Str)(h:Int)(i:Str)(l:List Str)(c:List zf):OT8:=(j.zaX (zn x)).bind λd=>(match d with| .inl a=>some (.inl ((zn a.2.1),(zy a.1),l,c,()))| .inr b=>some (.inr (b.1,(zn b.2.1),f,g,h,i,l,c,())))
def zyL(b:zh):=callee Y [] ztQ zk9 (u7 (zih b))
def zzb:zau Y (zar Y zk9):= .nil
theorem zuA(b:zh)(d:zU b):K8 241 (zyL b):=f8 zzb Tryz.func241 (.cons d.zaX .nil) trivial
def zgS(n:zh):zk×Int×Str×Int×Str×zf×(List Str)×(List zf)×Unit->Option ((zk×Int×Str×Int×Str×zf×(List Str)×(List zf)×Unit)⊕((zf×zk×Unit)⊕(zaQ×zk×Unit)))| (e,f,g,h,i,b,j,k,())=>(zZ [44] (zn e)).bind λa=>if a.1=true then fd ((n.za7 (zn a.2.1)).bind λl=>(match l with| .inl c=>some (.inl ((zn c.2.1),f,g,h,i,⟨21,[],0,[],[],[(zy b),(zy c.1)]⟩,j,k,()))| .inr d=>some (.inr (.inr (d.1,(zn d.2.1),())))))else some (.inr (.inl ((zy b),(zn a.2.1),())))
def zjx(d:zh)(x:zk):zki:=(d.za7 (zn x)).bind λe=>(match e with| .inl a=>Lp.loop (zgS d) ((zn a.2.1),0,[],0,[],(zy a.1),[],[],())| .inr b=>some (.inr (b.1,(zn b.2.1),())))
def zBM(b:zh):=callee Y [] zBA zkR (λz=>zjx b z.1)
def zA9(b:zh):zau Y (zar Y zkR):=(.loop [[7,5,1,2,2],[8,5,1,2,2],[6,1,2,2],[2,2,2]] ⟨[(0,.ptr 0 0),(2,.ptr 1 0),(3,.ptr 2 0)],zK8⟩ (zgS b) .nil .nil)
theorem zxk(b:zh)(d:zU b):K8 91 (zBM b):=f8 (zA9 b) Tryz.func91 (.cons d.za7 (.cons zbf .nil)) ⟨λz=>by kernel_rfl,trivial,trivial⟩
def zi0(g:zh)(e:Str)(f:Bool)(x:zk):zGk:=(g.zfd e f (zn x) []).bind λc=>(match c with| .inl a=>some (.inl (a.2.1,(zn a.1),()))| .inr b=>some (.inr (b.1,(zn b.2.1),())))
def zzM(b:zh):=callee Y [] zqE zlN (u3 (zi0 b))
def zAw:zau Y (zar Y zlN):= .nil
theorem zvE(b:zh)(d:zU b):K8 223 (zzM b):=f8 zAw Tryz.func223 ((.cons (COk.laid d.zfd) .nil):zcu hY Tryz.prog zaR [(78,(zeg Y [⟨[(0,.ptr 0 0),(1,.str),(2,.bool),(3,.fn 79 [.ptr 1 0,.ptr 2 0])],zdp⟩,⟨[(0,.ptr 0 0),(1,.str),(2,.bool),(3,.fn 236 [.ptr 1 0,.ptr 2 0])],zF6⟩,⟨[(0,.ptr 0 0),(1,.str),(2,.bool),(3,.fn 242 [.ptr 1 0,.ptr 2 0])],zdp⟩] (zom b)))]) trivial
def zfF(g:zh)(e:Str)(f:Bool)(x:zk)(l:List zf):zGh:=(g.zeq (zn x) e l f).bind λc=>(match c with| .inl b=>some (.inl ((zn b.1),b.2.2.1,()))| .inr a=>some (.inr (a.1,(zn a.2.1),a.2.2.2.1,())))
def zxm(b:zh):=callee Y [] zox zko (u4 (zfF b))
def zxr:zau Y (zar Y zko):= .nil
theorem zt5(b:zh)(d:zU b):K8 78 (zxm b):=f8 zxr Tryz.func78 ((.cons (COk.laid d.zeq) .nil):zcu hY Tryz.prog zaR [(80,(zeg Y [⟨[(0,.ptr 0 0),(1,.fn 133 [.ptr 1 0,.ptr 2 0,.ptr 3 0,.ptr 8 0])],om3⟩,⟨[(0,.ptr 0 0),(1,.fn 81 [.ptr 1 0,.ptr 2 0])],zdp⟩,⟨[(0,.ptr 0 0),(1,.fn 241 [.ptr 1 0,.ptr 2 0])],zdp⟩,⟨[(0,.ptr 0 0),(1,.fn 133 [.ptr 1 0,.ptr 2 0,.ptr 3 0,.ptr 7 0])],om5⟩,⟨[(0,.ptr 0 0),(1,.fn 133 [.ptr 1 0,.ptr 2 0,.ptr 3 0,.ptr 8 0])],om1⟩,⟨[(0,.ptr 0 0),(1,.fn 222 [.ptr 1 0,.ptr 2 0])],zdp⟩,⟨[(0,.ptr 0 0),(1,.fn 167 [.ptr 1 0,.ptr 2 0])],zdp⟩] (znv b)))]) trivial
def zgV(g:zh)(x:zk)(a:Str)(l:List zf)(f:Bool):zGj:=(g.zeu ⟨x.t,false⟩ a l f).bind λd=>(match d with| .inl c=>some (.inl (⟨c.1.t,x.no⟩,c.2.1,c.2.2.1,c.2.2.2.1,()))| .inr b=>some (.inr (b.1,(zn b.2.1),b.2.2.1,b.2.2.2.1,b.2.2.2.2.1,())))
def zvB(b:zh):=callee Y [] zni zi9 (u4 (zgV b))
def zvx:zau Y (zar Y zi9):= .nil
theorem zsj(b:zh)(d:zU b):K8 80 (zvB b):=f8 zvx Tryz.func80 ((.cons (COk.laid d.zeu) .nil):zcu hY Tryz.prog zaR [(133,(zeg Y [⟨[(0,.ptr 0 0),(1,.ptr 2 0),(2,.ptr 3 0),(3,.ptr 8 0)],om2⟩,⟨[(0,.ptr 0 0),(1,.ptr 2 0),(2,.ptr 3 0),(3,.ptr 7 0)],om4⟩,⟨[(0,.ptr 0 0),(1,.ptr 2 0),(2,.ptr 3 0),(3,.ptr 8 0)],om0⟩] (znA b)))]) trivial
def zeU(p:zh):zk×Str×(List zf)×Bool×Unit->Option ((zk×Str×(List zf)×Bool×Unit)⊕((zk×Str×(List zf)×Bool×Unit)⊕(zaQ×zk×Str×(List zf)×Bool×Unit)))| (l,a,h,b,())=>(zZ a (zn l)).bind λd=>if(!d.1)=true then(p.zea (zn d.2.1) h).bind λm=>(match m with| .inl c=>(zZ a (zn c.1)).bind λe=>if e.1=true then some (.inr (.inl ((zn e.2.1),a,c.2.1,b,())))else(zaP [44] (zn e.2.1)).bind λn=>(match n with| .inl i=>some (.inr (.inr (i.1,(zn i.2.1),a,c.2.1,b,())))| .inr j=>if(!b)=true then(zbS a (zn j.1)).bind λf=>if f.1=true then(zbw (zn f.2.1)).bind λk=>some (.inr (.inr (k.1,(zn k.2.1),a,c.2.1,b,())))else some (.inl ((zn f.2.1),a,c.2.1,b,()))else some (.inl ((zn j.1),a,c.2.1,b,())))| .inr g=>some (.inr (.inr (g.1,(zn g.2.1),a,g.2.2.1,b,()))))else some (.inr (.inl ((zn d.2.1),a,h,b,())))
def zgR(d:zh)(x:zk)(a:Str)(l:List zf)(c:Bool):zGj:=Lp.loop (zeU d) ((zn x),a,l,c,())
def zvt(b:zh):=callee Y [] znG zjd (u4 (zgR b))
def zvw(b:zh):zau Y (zar Y zjd):=(.loop [[7,5],[8,5],[6]] ⟨[(0,.ptr 0 0),(1,.ptr 2 0),(2,.ptr 3 0),(3,.ptr 7 0)],om4⟩ (zeU b) .nil .nil)
theorem zss(b:zh)(d:zU b):K8 133 (zvt b):=f8 (zvw b) Tryz.func133 (.cons zbf (.cons d.zea (.cons zbo (.cons zdI (.cons zbH .nil))))) ⟨λz=>by kernel_rfl,trivial,trivial⟩
def zhR(k:zh)(x:zk)(l:List zf):zGh:=(k.za7 (zn x)).bind λe=>(match e with| .inl a=>fk (fd ((room (l.length+([⟨0,[],0,[],[],[]⟩]:List zf).length)).bind λ_=>let b:=l++[⟨0,[],0,[],[],[]⟩];fk ((zas b ((l.length:Nat):Int)).bind λ_=>fd ((zas b ((l.length:Nat):Int)).bind λm=>let f:=b.set ((l.length:Nat):Int).toNat (zy a.1);some (.inl ((zn a.2.1),f,())))) ((zas b ((l.length:Nat):Int)).bind λ_=>(zas b ((l.length:Nat):Int)).bind λn=>let g:=b.set ((l.length:Nat):Int).toNat (zy a.1);some (.inl ((zn a.2.1),g,()))))) ((room (l.length+([⟨0,[],0,[],[],[]⟩]:List zf).length)).bind λ_=>let c:=l++[⟨0,[],0,[],[],[]⟩];fk ((zas c ((l.length:Nat):Int)).bind λ_=>fd ((zas c ((l.length:Nat):Int)).bind λo=>let h:=c.set ((l.length:Nat):Int).toNat (zy a.1);some (.inl ((zn a.2.1),h,())))) ((zas c ((l.length:Nat):Int)).bind λ_=>(zas c ((l.length:Nat):Int)).bind λp=>let i:=c.set ((l.length:Nat):Int).toNat (zy a.1);some (.inl ((zn a.2.1),i,()))))| .inr d=>some (.inr (d.1,(zn d.2.1),l,())))
def zxW(b:zh):=callee Y [] zos zkd (u2 (zhR b))
def zxs:zau Y (zar Y zkd):= .nil
theorem zul(b:zh)(d:zU b):K8 236 (zxW b):=f8 zxs Tryz.func236 (.cons d.za7 .nil) trivial
def zhQ(m:zh)(e:Str)(f:Bool)(x:zk)(g:Int)(h:Str)(i:Int)(j:Str)(l:List Str)(k:List zf):OT7:=(m.zet (zn x) e g h i j l k f).bind λc=>(match c with| .inl a=>some (.inl (a.1,(zn a.2.1),a.2.2.2.1,a.2.2.2.2.1,a.2.2.2.2.2.1,a.2.2.2.2.2.2.1,a.2.2.2.2.2.2.2.1,a.2.2.2.2.2.2.2.2.1,()))| .inr b=>some (.inr ((zn b.1),b.2.2.1,b.2.2.2.1,b.2.2.2.2.1,b.2.2.2.2.2.1,b.2.2.2.2.2.2.1,b.2.2.2.2.2.2.2.1,())))
def zxc(b:zh):=callee Y [] zn8 zq8 (u9 (zhQ b))
theorem ztX(b:zh)(d:zU b):K8 78 (zxc b):=f8 zBC Tryz.func78 ((.cons (COk.laid d.zet) .nil):zcu hY Tryz.prog zaR [(80,(zeg Y [⟨[(0,.ptr 0 0),(1,.fn 133 [.ptr 1 0,.ptr 2 0,.ptr 3 0,.ptr 8 0])],om3⟩,⟨[(0,.ptr 0 0),(1,.fn 81 [.ptr 1 0,.ptr 2 0])],zdp⟩,⟨[(0,.ptr 0 0),(1,.fn 241 [.ptr 1 0,.ptr 2 0])],zdp⟩,⟨[(0,.ptr 0 0),(1,.fn 133 [.ptr 1 0,.ptr 2 0,.ptr 3 0,.ptr 7 0])],om5⟩,⟨[(0,.ptr 0 0),(1,.fn 133 [.ptr 1 0,.ptr 2 0,.ptr 3 0,.ptr 8 0])],om1⟩,⟨[(0,.ptr 0 0),(1,.fn 222 [.ptr 1 0,.ptr 2 0])],zdp⟩,⟨[(0,.ptr 0 0),(1,.fn 167 [.ptr 1 0,.ptr 2 0])],zdp⟩] (zny b)))]) trivial
def zgF(m:zh)(x:zk)(a:Str)(f:Int)(g:Str)(h:Int)(i:Str)(l:List Str)(j:List zf)(k:Bool):OT4:=(m.zes ⟨x.t,false⟩ a f g h i l j k).bind λd=>(match d with| .inl b=>some (.inl (b.1,(zn b.2.1),b.2.2.1,b.2.2.2.1,b.2.2.2.2.1,b.2.2.2.2.2.1,b.2.2.2.2.2.2.1,b.2.2.2.2.2.2.2.1,b.2.2.2.2.2.2.2.2.1,b.2.2.2.2.2.2.2.2.2.1,()))| .inr c=>some (.inr (⟨c.1.t,x.no⟩,c.2.1,c.2.2.1,c.2.2.2.1,c.2.2.2.2.1,c.2.2.2.2.2.1,c.2.2.2.2.2.2.1,c.2.2.2.2.2.2.2.1,c.2.2.2.2.2.2.2.2.1,())))
def zvo(b:zh):=callee Y [] zng zjn (u9 (zgF b))
def zu5:zau Y (zar Y zjn):= .nil
theorem zsY(b:zh)(d:zU b):K8 80 (zvo b):=f8 zu5 Tryz.func80 ((.cons (COk.laid d.zes) .nil):zcu hY Tryz.prog zaR [(133,(zeg Y [⟨[(0,.ptr 0 0),(1,.ptr 2 0),(2,.ptr 3 0),(3,.ptr 8 0)],om2⟩,⟨[(0,.ptr 0 0),(1,.ptr 2 0),(2,.ptr 3 0),(3,.ptr 7 0)],om4⟩,⟨[(0,.ptr 0 0),(1,.ptr 2 0),(2,.ptr 3 0),(3,.ptr 8 0)],om0⟩] (znj b)))]) trivial
def zeL(u:zh):zk×Str×Int×Str×Int×Str×(List Str)×(List zf)×Bool×Unit->OT0| (q,b,h,i,j,k,l,m,c,())=>(zZ b (zn q)).bind λe=>if(!e.1)=true then(u.zeI (zn e.2.1) h i j k l m).bind λr=>(match r with| .inl d=>some (.inr (.inl (d.1,(zn d.2.1),b,d.2.2.1,d.2.2.2.1,d.2.2.2.2.1,d.2.2.2.2.2.1,d.2.2.2.2.2.2.1,d.2.2.2.2.2.2.2.1,c,())))| .inr a=>(zZ b (zn a.1)).bind λf=>if f.1=true then some (.inr (.inr ((zn f.2.1),b,a.2.1,a.2.2.1,a.2.2.2.1,a.2.2.2.2.1,a.2.2.2.2.2.1,a.2.2.2.2.2.2.1,c,())))else(zaP [44] (zn f.2.1)).bind λs=>(match s with| .inl n=>some (.inr (.inl (n.1,(zn n.2.1),b,a.2.1,a.2.2.1,a.2.2.2.1,a.2.2.2.2.1,a.2.2.2.2.2.1,a.2.2.2.2.2.2.1,c,())))| .inr o=>if(!c)=true then(zbS b (zn o.1)).bind λg=>if g.1=true then(zbw (zn g.2.1)).bind λp=>some (.inr (.inl (p.1,(zn p.2.1),b,a.2.1,a.2.2.1,a.2.2.2.1,a.2.2.2.2.1,a.2.2.2.2.2.1,a.2.2.2.2.2.2.1,c,())))else some (.inl ((zn g.2.1),b,a.2.1,a.2.2.1,a.2.2.2.1,a.2.2.2.2.1,a.2.2.2.2.2.1,a.2.2.2.2.2.2.1,c,()))else some (.inl ((zn o.1),b,a.2.1,a.2.2.1,a.2.2.2.1,a.2.2.2.2.1,a.2.2.2.2.2.1,a.2.2.2.2.2.2.1,c,()))))else some (.inr (.inr ((zn e.2.1),b,h,i,j,k,l,m,c,())))
def zgH(i:zh)(x:zk)(a:Str)(c:Int)(d:Str)(e:Int)(f:Str)(l:List Str)(g:List zf)(h:Bool):OT4:=Lp.loop (zeL i) ((zn x),a,c,d,e,f,l,g,h,())
def zuM(b:zh):=callee Y [] znf zjc (u9 (zgH b))
def zva(b:zh):zau Y (zar Y zjc):=(.loop [[7,5],[8,5],[6]] ⟨[(0,.ptr 0 0),(1,.ptr 2 0),(2,.ptr 3 0),(3,.ptr 8 0)],om0⟩ (zeL b) .nil .nil)
theorem zso(b:zh)(d:zU b):K8 133 (zuM b):=f8 (zva b) Tryz.func133 (.cons zbf (.cons d.zeI (.cons zbo (.cons zdI (.cons zbH .nil))))) ⟨λz=>by kernel_rfl,trivial,trivial⟩
def zib(y:zh)(x:zk)(c:Int)(d:Str)(e:Int)(f:Str)(l:List Str)(a:List zf):OT7:=(zlI (zn x)).bind λn=>(match n with| .inl i=>(zaP [58] (zn i.2.1)).bind λo=>(match o with| .inl j=>some (.inl (j.1,(zn j.2.1),c,d,e,f,l,a,()))| .inr p=>(y.za7 (zn p.1)).bind λq=>(match q with| .inl b=>fk (fd ((room (a.length+([⟨0,[],0,[],[],[]⟩]:List zf).length)).bind λ_=>let g:=a++[⟨0,[],0,[],[],[]⟩];fk ((zas g ((a.length:Nat):Int)).bind λ_=>fd ((zas g ((a.length:Nat):Int)).bind λz=>let r:=g.set ((a.length:Nat):Int).toNat ⟨9,[],0,i.1,[],[(zy b.1)]⟩;some (.inr ((zn b.2.1),c,d,e,f,l,r,())))) ((zas g ((a.length:Nat):Int)).bind λ_=>(zas g ((a.length:Nat):Int)).bind λA=>let s:=g.set ((a.length:Nat):Int).toNat ⟨9,[],0,i.1,[],[(zy b.1)]⟩;some (.inr ((zn b.2.1),c,d,e,f,l,s,()))))) ((room (a.length+([⟨0,[],0,[],[],[]⟩]:List zf).length)).bind λ_=>let h:=a++[⟨0,[],0,[],[],[]⟩];fk ((zas h ((a.length:Nat):Int)).bind λ_=>fd ((zas h ((a.length:Nat):Int)).bind λB=>let t:=h.set ((a.length:Nat):Int).toNat ⟨9,[],0,i.1,[],[(zy b.1)]⟩;some (.inr ((zn b.2.1),c,d,e,f,l,t,())))) ((zas h ((a.length:Nat):Int)).bind λ_=>(zas h ((a.length:Nat):Int)).bind λC=>let u:=h.set ((a.length:Nat):Int).toNat ⟨9,[],0,i.1,[],[(zy b.1)]⟩;some (.inr ((zn b.2.1),c,d,e,f,l,u,()))))| .inr k=>some (.inl (k.1,(zn k.2.1),c,d,e,f,l,a,()))))| .inr m=>some (.inl (m.1,(zn m.2.1),c,d,e,f,l,a,())))
def zy7(b:zh):=callee Y [] ztQ zmY (u7 (zib b))
theorem zuK(b:zh)(d:zU b):K8 242 (zy7 b):=f8 zua Tryz.func242 (.cons zBn (.cons zbo (.cons d.za7 .nil))) trivial
def zfm(o:zh):Bool×zk×zf×Int×Str×Int×Str×(List Str)×(List zf)×Unit->Option ((Bool×zk×zf×Int×Str×Int×Str×(List Str)×(List zf)×Unit)⊕((zaQ×zk×Unit)⊕(zf×zk×Unit)))| (c,z,a,d,e,f,g,h,i,())=>(zZ [46] (zn z)).bind λb=>if b.1=true then(zas b.2.1.t 0).bind λA=>(if(A.Kind !=1)=true then(zas b.2.1.t 0).bind λB=>some (B.Kind !=2)else some false).bind λC=>if C=true then(zbw (zn b.2.1)).bind λp=>some (.inr (.inl (p.1,(zn p.2.1),())))else fk ((zaY (zn b.2.1)).bind λq=>some (.inl (c,(zn q.2.1),⟨11,q.1.Text,0,[],[],[(zy a)]⟩,d,e,f,g,h,i,()))) (fd ((zaY (zn b.2.1)).bind λr=>some (.inl (c,(zn r.2.1),⟨11,r.1.Text,0,[],[],[(zy a)]⟩,d,e,f,g,h,i,()))))else(zZ [91] (zn b.2.1)).bind λj=>if j.1=true then(o.zdN (zn j.2.1) 0 [] 0 [] [] []).bind λD=>(match D with| .inl s=>(zaP [93] (zn s.1)).bind λE=>(match E with| .inl u=>some (.inr (.inl (u.1,(zn u.2.1),())))| .inr H=>some (.inl (c,(zn H.1),⟨12,[],0,[],[],[(zy a),(zy s.2.1)]⟩,d,e,f,g,h,i,())))| .inr v=>some (.inr (.inl (v.1,(zn v.2.1),()))))else if c=true then(zZ [40] (zn j.2.1)).bind λk=>if k.1=true then fk (fd ((o.zcw [41] false (zn k.2.1)).bind λI=>(match I with| .inl l=>(room (([(zy a)]:List zf).length+l.1.length)).bind λ_=>let J:=[(zy a)]++l.1;some (.inl (c,(zn l.2.1),⟨13,[],0,[],[],J⟩,d,e,f,g,h,i,()))| .inr x=>some (.inr (.inl (x.1,(zn x.2.1),())))))) ((o.zcw [41] false (zn k.2.1)).bind λK=>(match K with| .inl m=>(room (([(zy a)]:List zf).length+m.1.length)).bind λ_=>let L:=[(zy a)]++m.1;some (.inl (c,(zn m.2.1),⟨13,[],0,[],[],L⟩,d,e,f,g,h,i,()))| .inr y=>some (.inr (.inl (y.1,(zn y.2.1),())))))else some (.inr (.inr ((zy a),(zn k.2.1),())))else some (.inr (.inr ((zy a),(zn j.2.1),())))
def zhK(c:zh)(n:zf)(b:Bool)(x:zk):zbU:=Lp.loop (zfm c) (b,(zn x),(zy n),0,[],0,[],[],[],())
def zxw(b:zh):=callee Y [] zon zq7 (u3 (zhK b))
def zxb(b:zh):zau Y (zar Y zq7):=(.loop [[7,5,2],[8,5,2],[6,2]] ⟨[(2,.bool),(3,.ptr 1 0),(4,.ptr 2 0),(6,.ptr 3 0)],[.whole 48 48,.cells 46 [.ptr 0 0],.whole 25 25,oc0 4 5,.arr 9,.arr 25]⟩ (zfm b) .nil .nil)
theorem ztW(b:zh)(d:zU b):K8 210 (zxw b):=f8 (zxb b) Tryz.func210 ((.cons zbf (.cons zbH (.cons zcN (.cons (COk.laid d.zdN) (.cons zbo (.cons d.zcw .nil)))))):zcu hY Tryz.prog zaR [(36,(zkb)),(21,(zhl)),(75,(zmI)),(80,(zeg Y [⟨[(0,.ptr 0 0),(1,.fn 133 [.ptr 1 0,.ptr 2 0,.ptr 3 0,.ptr 8 0])],om3⟩,⟨[(0,.ptr 0 0),(1,.fn 81 [.ptr 1 0,.ptr 2 0])],zdp⟩,⟨[(0,.ptr 0 0),(1,.fn 241 [.ptr 1 0,.ptr 2 0])],zdp⟩,⟨[(0,.ptr 0 0),(1,.fn 133 [.ptr 1 0,.ptr 2 0,.ptr 3 0,.ptr 7 0])],om5⟩,⟨[(0,.ptr 0 0),(1,.fn 133 [.ptr 1 0,.ptr 2 0,.ptr 3 0,.ptr 8 0])],om1⟩,⟨[(0,.ptr 0 0),(1,.fn 222 [.ptr 1 0,.ptr 2 0])],zdp⟩,⟨[(0,.ptr 0 0),(1,.fn 167 [.ptr 1 0,.ptr 2 0])],zdp⟩] (znb b))),(77,(zht)),(223,(zl0 b))]) ⟨λz=>by kernel_rfl,trivial,trivial⟩
def zgQ(j:zh)(x:zk)(e:Int)(f:Str)(g:Int)(h:Str)(l:List Str)(i:List zf):OT8:=(j.zer ⟨x.t,false⟩ e f g h l i).bind λc=>(match c with| .inl b=>some (.inl (⟨b.1.t,x.no⟩,(zy b.2.1),b.2.2.1,b.2.2.2.1,()))| .inr a=>some (.inr (a.1,(zn a.2.1),a.2.2.1,a.2.2.2.1,a.2.2.2.2.1,a.2.2.2.2.2.1,a.2.2.2.2.2.2.1,a.2.2.2.2.2.2.2.1,())))
def zuY(b:zh):=callee Y [] znw zjb (u7 (zgQ b))
theorem zsG(b:zh)(d:zU b):K8 80 (zuY b):=f8 zvs Tryz.func80 (.cons d.zer .nil) trivial
def zgU(j:zh)(x:zk)(f:Int)(g:Str)(h:Int)(i:Str)(l:List Str)(c:List zf):OT8:=(j.zaX (zn x)).bind λd=>(match d with| .inl a=>some (.inl ((zn a.2.1),(zy a.1),l,c,()))| .inr b=>some (.inr (b.1,(zn b.2.1),f,g,h,i,l,c,())))
def zuU(b:zh):=callee Y [] ztQ zk9 (u7 (zgU b))
theorem zte(b:zh)(d:zU b):K8 222 (zuU b):=f8 zzb Tryz.func222 (.cons d.zaX .nil) trivial
def zgC(j:zh)(x:zk)(e:Int)(f:Str)(g:Int)(h:Str)(l:List Str)(i:List zf):OT8:=(j.zeX ⟨x.t,false⟩ e f g h l i).bind λc=>(match c with| .inl b=>some (.inl (⟨b.1.t,x.no⟩,(zy b.2.1),b.2.2.1,b.2.2.2.1,()))| .inr a=>some (.inr (a.1,(zn a.2.1),a.2.2.1,a.2.2.2.1,a.2.2.2.2.1,a.2.2.2.2.2.1,a.2.2.2.2.2.2.1,a.2.2.2.2.2.2.2.1,())))
def zvj(b:zh):=callee Y [] znd zjb (u7 (zgC b))
theorem zsR(b:zh)(d:zU b):K8 80 (zvj b):=f8 zvs Tryz.func80 (.cons d.zeX .nil) trivial
def zhk(j:zh)(x:zk)(f:Int)(g:Str)(h:Int)(i:Str)(l:List Str)(c:List zf):OT8:=(j.za7 (zn x)).bind λd=>(match d with| .inl a=>some (.inl ((zn a.2.1),(zy a.1),l,c,()))| .inr b=>some (.inr (b.1,(zn b.2.1),f,g,h,i,l,c,())))
def zv6(b:zh):=callee Y [] ztQ zk9 (u7 (zhk b))
theorem ztz(b:zh)(d:zU b):K8 167 (zv6 b):=f8 zzb Tryz.func167 (.cons d.za7 .nil) trivial
def zkt(q:zh)(c:zk)(j:Int)(k:Str)(l:Int)(m:Str)(d:Int)(e:Str)(f:Int)(g:Str)(a:zf)(n:List Str)(o:List zf)(h:List Str)(b:List zf):zbU:=(room (b.length+([(zy a)]:List zf).length)).bind λ_=>let i:=b++[(zy a)];some (.inr (⟨d,e,f,g,h,i⟩,(zn c),()))
def zkk(d:zh)(e:zk)(f:Int)(g:Str)(h:Int)(i:Str)(j:Int)(k:Str)(l:Int)(m:Str)(n:List Str)(o:List zf)(p:List Str)(q:List zf):zbU:=(d.zcb (zn e)).bind λr=>(match r with| .inl a=>some (.inl (a.1,(zn a.2.1),()))| .inr b=>zkt d (zn b.2.1) f g h i j k l m (zy b.1) n o p q)
def zhO(p:zh)(h:zk)(i:Int)(j:Str)(k:Int)(l:Str)(b:Int)(c:Str)(d:Int)(e:Str)(m:List Str)(n:List zf)(f:List Str)(g:List zf):zbU:=(zZ [101,108,115,101] (zn h)).bind λa=>if a.1=true then zkk p (zn a.2.1) i j k l b c d e m n f g else some (.inr (⟨b,c,d,e,f,g⟩,(zn a.2.1),()))
def zid(b:zh)(x:zk):zbU:=(b.zcM (zn x)).bind λi=>(match i with| .inl d=>some (.inl (d.1,(zn d.2.1),()))| .inr c=>fk ((b.zcb (zn c.2.1)).bind λj=>(match j with| .inl e=>some (.inl (e.1,(zn e.2.1),()))| .inr f=>fd (zhO b (zn f.2.1) 0 [] 0 [] 26 [] 0 [] [] [] [] [(zy c.1),(zy f.1)]))) ((b.zcb (zn c.2.1)).bind λk=>(match k with| .inl g=>some (.inl (g.1,(zn g.2.1),()))| .inr h=>zhO b (zn h.2.1) 0 [] 0 [] 26 [] 0 [] [] [] [] [(zy c.1),(zy h.1)])))
def zyJ(b:zh):=callee Y [] zBA zq7 (λz=>zid b z.1)
def zym(b:zh):zau Y (zar Y zq7):=(.join [[1,1,2,2,2],[2,1,2,2,2],[2,2,2,2]] ⟨[(0,.ptr 0 0),(2,.ptr 1 0),(4,.ptr 2 0)],zjO⟩ (u13 (zhO b)) (.join [[1,3,2,1,2,2,2],[2,3,2,1,2,2,2],[2,2,2,2]] ⟨[(0,.ptr 0 0),(2,.ptr 1 0),(4,.ptr 2 0)],zjO⟩ (u13 (zkk b)) (.join [[2,3,2,1,2,2,2],[2,2,2,2]] ⟨[(2,.ptr 1 0),(4,.ptr 2 0),(5,.ptr 3 0)],om9⟩ (u14 (zkt b)) .nil)))
theorem zuQ(b:zh)(d:zU b):K8 85 (zyJ b):=f8 (zym b) Tryz.func85 (.cons d.zcM (.cons d.zcb (.cons zbf .nil))) ⟨λz=>by kernel_rfl,⟨λz=>by kernel_rfl,⟨λz=>by kernel_rfl,⟨⟩⟩⟩⟩
def zjI(k:zh)(x:zk):zbU:=(zaP [40] (zn x)).bind λe=>(match e with| .inl a=>some (.inl (a.1,(zn a.2.1),()))| .inr f=>(k.zaX (zn f.1)).bind λg=>(match g with| .inl b=>(zaP [41] (zn b.2.1)).bind λh=>(match h with| .inl c=>some (.inl (c.1,(zn c.2.1),()))| .inr i=>some (.inr ((zy b.1),(zn i.1),())))| .inr d=>some (.inl (d.1,(zn d.2.1),()))))
def zBX(b:zh):=callee Y [] zBA zq7 (λz=>zjI b z.1)
theorem zxj(b:zh)(d:zU b):K8 86 (zBX b):=f8 zBr Tryz.func86 (.cons zbo (.cons d.zaX .nil)) trivial
def zjz(e:zh)(x:zk):zbU:=(e.zcv (zn x)).bind λc=>(match c with| .inl b=>some (.inl (b.1,(zn b.2.1),()))| .inr a=>if(a.1.Kind !=25)=true then some (.inr (⟨25,[],0,[],[],[(zy a.1)]⟩,(zn a.2.1),()))else some (.inr ((zy a.1),(zn a.2.1),())))
def zBh(b:zh):=callee Y [] zBA zq7 (λz=>zjz b z.1)
theorem zwM(b:zh)(d:zU b):K8 87 (zBh b):=f8 zBr Tryz.func87 (.cons d.zcv .nil) trivial
def zgg(m:zh)(d:zk)(n:Int)(o:Str)(p:Int)(q:Str)(e:Int)(f:Str)(g:Int)(h:Str)(r:List Str)(s:List zf)(i:List Str)(b:List zf):zbU:=(m.zcb (zn d)).bind λj=>(match j with| .inl c=>some (.inl (c.1,(zn c.2.1),()))| .inr a=>(room (b.length+([(zy a.1)]:List zf).length)).bind λ_=>let k:=b++[(zy a.1)];some (.inr (⟨e,f,g,h,i,k⟩,(zn a.2.1),())))
def zkY(r:zh)(d:zk)(e:Int)(f:Str)(g:Int)(h:Str)(i:Int)(j:Str)(k:Int)(l:Str)(a:zf)(b:zf)(m:List Str)(n:List zf)(o:List Str)(c:List zf):zbU:=(room (c.length+([(zy a),(zy b)]:List zf).length)).bind λ_=>let p:=c++[(zy a),(zy b)];zgg r (zn d) e f g h i j k l m n o p
def zkS(d:zh)(e:zk)(f:Int)(g:Str)(h:Int)(i:Str)(j:Int)(k:Str)(l:Int)(m:Str)(n:zf)(o:List Str)(p:List zf)(q:List Str)(r:List zf):zbU:=(d.zd1 [41] (zn e)).bind λs=>(match s with| .inl a=>zkY d (zn a.2.1) f g h i j k l m (zy n) (zy a.1) o p q r| .inr b=>some (.inl (b.1,(zn b.2.1),())))
def zl4(d:zh)(e:zk)(f:Int)(g:Str)(h:Int)(i:Str)(j:Int)(k:Str)(l:Int)(m:Str)(n:List Str)(o:List zf)(p:List Str)(q:List zf):zbU:=(d.zd1 [59] (zn e)).bind λr=>(match r with| .inl a=>zkS d (zn a.2.1) f g h i j k l m (zy a.1) n o p q| .inr b=>some (.inl (b.1,(zn b.2.1),())))
def zgD(r:zh)(b:zk)(c:Int)(d:Str)(e:Int)(f:Str)(g:Int)(h:Str)(i:Int)(j:Str)(k:List Str)(l:List zf)(m:List Str)(n:List zf):zbU:=(zaP [59] (zn b)).bind λo=>(match o with| .inl a=>some (.inl (a.1,(zn a.2.1),()))| .inr p=>zl4 r (zn p.1) c d e f g h i j k l m n)
def zlO(r:zh)(b:zk)(c:Int)(d:Str)(e:Int)(f:Str)(g:Int)(h:Str)(i:Int)(j:Str)(k:List Str)(l:List zf)(m:List Str)(n:List zf):zbU:=(zaP [41] (zn b)).bind λo=>(match o with| .inl a=>some (.inl (a.1,(zn a.2.1),()))| .inr p=>zgg r (zn p.1) c d e f g h i j k l m n)
def zlL(q:zh)(c:zk)(d:Int)(e:Str)(f:Int)(g:Str)(h:Int)(i:Str)(j:Int)(k:Str)(a:zf)(l:List Str)(m:List zf)(n:List Str)(b:List zf):zbU:=(room (b.length+([(zy a)]:List zf).length)).bind λ_=>let o:=b++[(zy a)];zlO q (zn c) d e f g h i j k l m n o
def zl3(d:zh)(e:zk)(f:Int)(g:Str)(h:Int)(i:Str)(j:Int)(k:Str)(l:Int)(m:Str)(n:List Str)(o:List zf)(p:List Str)(q:List zf):zbU:=(d.zaX (zn e)).bind λr=>(match r with| .inl a=>zlL d (zn a.2.1) f g h i j k l m (zy a.1) n o p q| .inr b=>some (.inl (b.1,(zn b.2.1),())))
def zlX(n:zh)(a:zk)(b:Int)(c:Str)(d:Int)(e:Str)(o:Int)(f:Str)(g:Int)(h:Str)(i:List Str)(j:List zf)(k:List Str)(l:List zf):zbU:=zl3 n (zn a) b c d e 30 f g h i j k l
def zgJ(o:zh)(q:Bool)(p:zk)(a:Int)(b:Str)(c:Int)(d:Str)(e:Int)(f:Str)(g:Int)(h:Str)(i:List Str)(j:List zf)(k:List Str)(l:List zf):zbU:=if q=true then(zZ [105,110] (zn p)).bind λm=>if m.1=true then zlX o (zn m.2.1) a b c d e f g h i j k l else zgD o (zn m.2.1) a b c d e f g h i j k l else zgD o (zn p) a b c d e f g h i j k l
def zlT(k:zh)(a:Bool)(b:zk)(c:Int)(d:Str)(e:Int)(f:Str)(g:zf)(h:List Str)(i:List zf):zbU:=zgJ k a (zn b) c d e f 29 [] 0 [] h i [] [(zy g)]
def zgX(k:zh)(a:Bool)(b:zk)(c:Int)(d:Str)(e:Int)(f:Str)(g:zf)(h:List Str)(i:List zf):zbU:=zlT k a ⟨b.t,false⟩ c d e f (zy g) h i
def zjt(b:zh)(x:zk):zbU:=(zaP [40] (zn x)).bind λj=>(match j with| .inl g=>some (.inl (g.1,(zn g.2.1),()))| .inr k=>(zZ [118,97,114] ⟨k.1.t,true⟩).bind λd=>if d.1=true then(b.zdW (zn d.2.1)).bind λl=>(match l with| .inl h=>some (.inl (h.1,(zn h.2.1),()))| .inr c=>let m:=((c.1.L.length:Nat):Int);(if(m==1)=true then(zas c.1.L 0).bind λn=>let o:=((n.L.length:Nat):Int);some (o==0)else some false).bind λp=>zgX b p (zn c.2.1) 0 [] 0 [] (zy c.1) [] [])else(zbS [59] (zn d.2.1)).bind λe=>if(!e.1)=true then(b.zaX (zn e.2.1)).bind λq=>(match q with| .inl f=>(zl9 (zy f.1)).bind λr=>zgX b r.1 (zn f.2.1) 0 [] 0 [] (zy f.1) [] []| .inr i=>some (.inl (i.1,(zn i.2.1),())))else zgX b false (zn e.2.1) 0 [] 0 [] ⟨42,[],0,[],[],[]⟩ [] [])
def zBz(b:zh):=callee Y [] zBA zq7 (λz=>zjt b z.1)
def zBd(b:zh):zau Y (zar Y zq7):=(.join [[1,2,2,2,2,2],[2,2,2,2,2,2]] ⟨[(0,.ptr 0 0),(2,.ptr 1 0),(3,.ptr 2 0),(4,.bool)],zK8⟩ (u9 (zgX b)) (.join [[1,2,2,2,2,2,2],[2,2,2,2,2,2,2]] ⟨[(0,.ptr 0 0),(2,.ptr 1 0),(3,.ptr 2 0),(4,.bool)],zK8⟩ (u9 (zlT b)) (.join [[1,1,2,2,2,2,2,2,2],[2,1,2,2,2,2,2,2,2],[2,2,2,2,2,2,2,2]] ⟨[(0,.ptr 0 0),(2,.ptr 1 0),(4,.bool),(5,.ptr 2 0)],zjO⟩ (u14 (zgJ b)) (.join [[1,3,2,1,2,2,2,2,2,2,2],[2,3,2,1,2,2,2,2,2,2,2],[2,2,2,2,2,2,2,2]] ⟨[(0,.ptr 0 0),(2,.ptr 1 0),(5,.ptr 2 0)],zjO⟩ (u13 (zlX b)) (.join [[1,2,3,2,1,2,2,2,2,2,2,2],[2,2,3,2,1,2,2,2,2,2,2,2],[2,2,2,2,2,2,2,2]] ⟨[(0,.ptr 0 0),(2,.ptr 1 0),(5,.ptr 2 0)],zjO⟩ (u13 (zl3 b)) (.join [[1,2,2,3,2,1,2,2,2,2,2,2,2],[2,2,2,3,2,1,2,2,2,2,2,2,2],[2,2,2,2,2,2,2,2]] ⟨[(0,.ptr 0 0),(2,.ptr 1 0),(5,.ptr 2 0),(6,.ptr 3 0)],om9⟩ (u14 (zlL b)) (.join [[2,2,2,3,2,1,2,2,2,2,2,2,2],[2,2,2,2,2,2,2,2]] ⟨[(0,.ptr 0 0),(2,.ptr 1 0),(5,.ptr 2 0)],zjO⟩ (u13 (zlO b)) (.join [[1,4,2,1,2,2,2,2,2,2,2],[2,4,2,1,2,2,2,2,2,2,2],[2,2,2,2,2,2,2,2]] ⟨[(0,.ptr 0 0),(2,.ptr 1 0),(5,.ptr 2 0)],zjO⟩ (u13 (zgD b)) (.join [[1,2,4,2,1,2,2,2,2,2,2,2],[2,2,4,2,1,2,2,2,2,2,2,2],[2,2,2,2,2,2,2,2]] ⟨[(0,.ptr 0 0),(2,.ptr 1 0),(5,.ptr 2 0)],zjO⟩ (u13 (zl4 b)) (.join [[1,2,2,4,2,1,2,2,2,2,2,2,2],[2,2,2,4,2,1,2,2,2,2,2,2,2],[2,2,2,2,2,2,2,2]] ⟨[(0,.ptr 0 0),(2,.ptr 1 0),(5,.ptr 2 0),(7,.ptr 3 0)],om9⟩ (u14 (zkS b)) (.join [[2,2,2,4,2,1,2,2,2,2,2,2,2],[2,2,2,2,2,2,2,2]] ⟨[(0,.ptr 0 0),(2,.ptr 1 0),(5,.ptr 2 0),(7,.ptr 3 0),(8,.ptr 4 0)],[.whole 48 48,oc0 5 6,oc0 7 8,.whole 25 25,.whole 25 25,.arr 9,.arr 25,.arr 9,.arr 25]⟩ (u15 (zkY b)) (.join [[1,2,2,2,2,2,2,2,2],[2,2,2,2,2,2,2,2,2]] ⟨[(0,.ptr 0 0),(2,.ptr 1 0),(5,.ptr 2 0)],zjO⟩ (u13 (zgg b)) .nil))))))))))))
theorem zxK(d:zh)(b:zU d):K8 88 (zBz d):=f8 (zBd d) Tryz.func88 (.cons zbo (.cons zbf (.cons b.zdW (.cons zdI (.cons b.zaX (.cons zvk (.cons b.zd1 (.cons b.zcb .nil)))))))) ⟨λz=>by kernel_rfl,⟨λz=>by kernel_rfl,⟨λz=>by kernel_rfl,⟨λz=>by kernel_rfl,⟨λz=>by kernel_rfl,⟨λz=>by kernel_rfl,⟨λz=>by kernel_rfl,⟨λz=>by kernel_rfl,⟨λz=>by kernel_rfl,⟨λz=>by kernel_rfl,⟨λz=>by kernel_rfl,⟨λz=>by kernel_rfl,⟨⟩⟩⟩⟩⟩⟩⟩⟩⟩⟩⟩⟩⟩
def ziS(i:zh)(s:Str)(x:zk):zki:=(zZ s (zn x)).bind λa=>if a.1=true then some (.inl (⟨42,[],0,[],[],[]⟩,(zn a.2.1),()))else(i.zaX (zn a.2.1)).bind λe=>(match e with| .inl b=>(zaP s (zn b.2.1)).bind λf=>(match f with| .inl c=>some (.inr (c.1,(zn c.2.1),()))| .inr g=>some (.inl ((zy b.1),(zn g.1),())))| .inr d=>some (.inr (d.1,(zn d.2.1),())))
def zAj(b:zh):=callee Y [] zDE zkR (u2 (ziS b))
theorem zvN(b:zh)(d:zU b):K8 135 (zAj b):=f8 zze Tryz.func135 (.cons zbf (.cons d.zaX (.cons zbo .nil))) trivial
def ziR(o:zh)(a:zk)(h:Int)(i:Str)(j:Int)(k:Str)(b:Int)(c:Str)(d:Int)(e:Str)(l:List Str)(m:List zf)(f:List Str)(g:List zf):zbU:=some (.inr (⟨b,c,d,e,f,g⟩,(zn a),()))
def zmC(q:zh)(c:Bool)(a:zk)(d:Int)(e:Str)(f:Int)(g:Str)(h:Int)(i:Str)(j:Int)(k:Str)(l:List Str)(m:List zf)(n:List Str)(o:List zf):zbU:=if(!c)=true then(zbw (zn a)).bind λb=>some (.inl (b.1,(zn b.2.1),()))else ziR q (zn a) d e f g h i j k l m n o
def zmw(e:zh)(f:zk)(g:Int)(h:Str)(i:Int)(j:Str)(k:Int)(l:Str)(m:Int)(n:Str)(o:List Str)(p:List zf)(q:List Str)(a:List zf):zbU:=(e.zcx (zn f)).bind λr=>(match r with| .inl b=>some (.inl (b.1,(zn b.2.1),()))| .inr c=>(zas a 2).bind λ_=>(zas a 2).bind λt=>let s:=a.set (2:Int).toNat (zy c.1);ziR e (zn c.2.1) g h i j k l m n o p q s)
def zhm(o:zh)(p:Bool)(q:zk)(b:Int)(c:Str)(d:Int)(e:Str)(f:Int)(g:Str)(h:Int)(i:Str)(j:List Str)(k:List zf)(l:List Str)(m:List zf):zbU:=(zZ [102,105,110,97,108,108,121] (zn q)).bind λa=>if a.1=true then zmw o (zn a.2.1) b c d e f g h i j k l m else zmC o p (zn a.2.1) b c d e f g h i j k l m
def zmD(e:zh)(f:Bool)(g:zk)(h:Int)(i:Str)(j:Int)(k:Str)(l:Int)(m:Str)(n:Int)(o:Str)(p:List Str)(q:List zf)(r:List Str)(a:List zf):zbU:=(e.zcx (zn g)).bind λs=>(match s with| .inl b=>some (.inl (b.1,(zn b.2.1),()))| .inr c=>(zas a 1).bind λ_=>(zas a 1).bind λu=>let t:=a.set (1:Int).toNat (zy c.1);zhm e f (zn c.2.1) h i j k l m n o p q r t)
def zmA(s:zh)(b:Bool)(c:zk)(d:Int)(e:Str)(f:Int)(g:Str)(h:Int)(i:Str)(j:Int)(k:Str)(l:List Str)(m:List zf)(n:List Str)(o:List zf):zbU:=(zaP [41] (zn c)).bind λp=>(match p with| .inl a=>some (.inl (a.1,(zn a.2.1),()))| .inr q=>zmD s b (zn q.1) d e f g h i j k l m n o)
def zmB(r:zh)(c:Bool)(d:zk)(e:Int)(f:Str)(g:Int)(h:Str)(i:Int)(s:Str)(j:Int)(k:Str)(l:List Str)(m:List zf)(n:List Str)(o:List zf):zbU:=(zez (zn d)).bind λp=>(match p with| .inl a=>some (.inl (a.1,(zn a.2.1),()))| .inr b=>zmA r c (zn b.2.1) e f g h i b.1 j k l m n o)
def zmF(s:zh)(b:Bool)(c:zk)(d:Int)(e:Str)(f:Int)(g:Str)(h:Int)(i:Str)(j:Int)(k:Str)(l:List Str)(m:List zf)(n:List Str)(o:List zf):zbU:=(zaP [40] (zn c)).bind λp=>(match p with| .inl a=>some (.inl (a.1,(zn a.2.1),()))| .inr q=>zmB s b (zn q.1) d e f g h i j k l m n o)
def zmL(p:zh)(a:Bool)(b:zk)(c:Int)(d:Str)(e:Int)(f:Str)(g:Int)(h:Str)(i:Int)(j:Str)(k:List Str)(l:List zf)(m:List Str)(n:List zf):zbU:=if a=true then zmF p a (zn b) c d e f g h i j k l m n else zhm p a (zn b) c d e f g h i j k l m n
def zjF(p:zh)(b:zk)(c:Int)(d:Str)(e:Int)(f:Str)(g:Int)(h:Str)(i:Int)(j:Str)(k:List Str)(l:List zf)(m:List Str)(n:List zf):zbU:=(zZ [99,97,116,99,104] (zn b)).bind λa=>zmL p a.1 (zn a.2.1) c d e f g h i j k l m n
def zjZ(b:zh)(x:zk):zbU:=fk ((b.zcx (zn x)).bind λg=>(match g with| .inl c=>some (.inl (c.1,(zn c.2.1),()))| .inr d=>fd (zjF b (zn d.2.1) 0 [] 0 [] 35 [] 0 [] [] [] [] [(zy d.1),⟨42,[],0,[],[],[]⟩,⟨42,[],0,[],[],[]⟩]))) ((b.zcx (zn x)).bind λh=>(match h with| .inl e=>some (.inl (e.1,(zn e.2.1),()))| .inr f=>zjF b (zn f.2.1) 0 [] 0 [] 35 [] 0 [] [] [] [] [(zy f.1),⟨42,[],0,[],[],[]⟩,⟨42,[],0,[],[],[]⟩]))
def zCf(b:zh):=callee Y [] zBA zq7 (λz=>zjZ b z.1)
def zC4(b:zh):zau Y (zar Y zq7):=(.join [[1,2,2,2],[2,2,2,2]] ⟨[(0,.ptr 0 0),(2,.ptr 1 0),(4,.ptr 2 0)],zjO⟩ (u13 (zjF b)) (.join [[1,1,2,2,2,2],[2,1,2,2,2,2],[2,2,2,2,2]] ⟨[(0,.ptr 0 0),(2,.ptr 1 0),(4,.ptr 2 0),(5,.bool)],zjO⟩ (u14 (zmL b)) (.join [[1,3,2,1,2,2,2,2],[2,3,2,1,2,2,2,2],[2,2,2,2,2]] ⟨[(0,.ptr 0 0),(2,.ptr 1 0),(4,.ptr 2 0),(5,.bool)],zjO⟩ (u14 (zmF b)) (.join [[1,2,3,2,1,2,2,2,2],[2,2,3,2,1,2,2,2,2],[2,2,2,2,2]] ⟨[(0,.ptr 0 0),(2,.ptr 1 0),(4,.ptr 2 0),(5,.bool)],zjO⟩ (u14 (zmB b)) (.join [[1,2,2,3,2,1,2,2,2,2],[2,2,2,3,2,1,2,2,2,2],[2,2,2,2,2]] ⟨[(0,.ptr 0 0),(2,.ptr 1 0),(4,.ptr 2 0),(5,.bool)],zjO⟩ (u14 (zmA b)) (.join [[2,2,2,3,2,1,2,2,2,2],[2,2,2,2,2]] ⟨[(0,.ptr 0 0),(2,.ptr 1 0),(4,.ptr 2 0),(5,.bool)],zjO⟩ (u14 (zmD b)) (.join [[1,1,2,2,2,2,2],[2,1,2,2,2,2,2],[2,2,2,2,2,2]] ⟨[(0,.ptr 0 0),(2,.ptr 1 0),(4,.ptr 2 0),(5,.bool)],zjO⟩ (u14 (zhm b)) (.join [[3,2,1,2,2,2,2,2],[2,2,2,2,2,2]] ⟨[(0,.ptr 0 0),(2,.ptr 1 0),(4,.ptr 2 0)],zjO⟩ (u13 (zmw b)) (.join [[1,4,2,1,2,2,2,2,2],[2,4,2,1,2,2,2,2,2],[2,2,2,2,2,2]] ⟨[(0,.ptr 0 0),(2,.ptr 1 0),(4,.ptr 2 0),(5,.bool)],zjO⟩ (u14 (zmC b)) (.join [[1,2,2,2,2,2,2],[2,2,2,2,2,2,2]] ⟨[(2,.ptr 1 0),(4,.ptr 2 0)],zjO⟩ (u13 (ziR b)) .nil))))))))))
theorem zyx(b:zh)(d:zU b):K8 92 (zCf b):=f8 (zC4 b) Tryz.func92 (.cons d.zcx (.cons zbf (.cons zbo (.cons zgB (.cons zbH .nil))))) ⟨λz=>by kernel_rfl,⟨λz=>by kernel_rfl,⟨λz=>by kernel_rfl,⟨λz=>by kernel_rfl,⟨λz=>by kernel_rfl,⟨λz=>by kernel_rfl,⟨λz=>by kernel_rfl,⟨λz=>by kernel_rfl,⟨λz=>by kernel_rfl,⟨λz=>by kernel_rfl,⟨⟩⟩⟩⟩⟩⟩⟩⟩⟩⟩⟩
def zgp(H:zh):Bool×zk×Int×Str×Int×Str×Int×Str×Int×Str×Int×Str×Int×Str×(List Str)×(List zf)×(List Str)×(List zf)×(List Str)×(List zf)×Unit->Option ((Bool×zk×Int×Str×Int×Str×Int×Str×Int×Str×Int×Str×Int×Str×(List Str)×(List zf)×(List Str)×(List zf)×(List Str)×(List zf)×Unit)⊕((Bool×zk×Int×Str×Int×Str×Int×Str×Int×Str×(List Str)×(List zf)×(List Str)×(List zf)×Unit)⊕((zaQ×zk×Unit)⊕(zf×zk×Unit))))| (j,y,k,l,m,n,o,p,q,r,c,d,e,f,s,u,v,g,h,a,())=>(zch [32,99,97,115,101,32,100,101,102,97,117,108,116,32,125,32] (zn y)).bind λb=>(if(!b.1)=true then(zas b.2.1.t 0).bind λz=>some (z.Kind !=0)else some false).bind λA=>if A=true then(H.zcv (zn b.2.1)).bind λB=>(match B with| .inl x=>some (.inr (.inr (.inl (x.1,(zn x.2.1),()))))| .inr i=>(room (a.length+([(zy i.1)]:List zf).length)).bind λ_=>let C:=a++[(zy i.1)];some (.inl (j,(zn i.2.1),k,l,m,n,o,p,q,r,c,d,e,f,s,u,v,g,h,C,())))else(room (g.length+([⟨c,d,e,f,h,a⟩]:List zf).length)).bind λ_=>let D:=g++[⟨c,d,e,f,h,a⟩];some (.inr (.inl (j,(zn b.2.1),k,l,m,n,o,p,q,r,s,u,v,D,())))
def zgh(z:zh)(b:Bool)(c:zk)(d:Int)(e:Str)(f:Int)(g:Str)(h:Int)(i:Str)(j:Int)(k:Str)(l:Int)(m:Str)(n:Int)(o:Str)(p:List Str)(q:List zf)(r:List Str)(s:List zf)(t:List Str)(u:List zf):OT1:=(zaP [58] (zn c)).bind λv=>(match v with| .inl a=>some (.inr (.inl (a.1,(zn a.2.1),())))| .inr x=>Lp.loop (zgp z) (b,(zn x.1),d,e,f,g,h,i,j,k,l,m,n,o,p,q,r,s,t,u,()))
def zk8(e:zh)(f:Bool)(g:zk)(h:Int)(i:Str)(j:Int)(k:Str)(l:Int)(m:Str)(n:Int)(o:Str)(p:Int)(q:Str)(r:Int)(s:Str)(t:List Str)(u:List zf)(v:List Str)(x:List zf)(y:List Str)(a:List zf):OT1:=(e.zaX (zn g)).bind λz=>(match z with| .inl b=>(zas a 0).bind λ_=>(zas a 0).bind λB=>let A:=a.set (0:Int).toNat (zy b.1);zgh e f (zn b.2.1) h i j k l m n o p q r s t u v x y A| .inr c=>some (.inr (.inl (c.1,(zn c.2.1),()))))
def zgk(z:zh)(b:Bool)(c:zk)(d:Int)(e:Str)(f:Int)(g:Str)(h:Int)(i:Str)(j:Int)(k:Str)(l:Int)(m:Str)(n:Int)(o:Str)(p:List Str)(q:List zf)(r:List Str)(s:List zf)(t:List Str)(u:List zf):OT1:=(zaP [99,97,115,101] (zn c)).bind λv=>(match v with| .inl a=>some (.inr (.inl (a.1,(zn a.2.1),())))| .inr x=>zk8 z b (zn x.1) d e f g h i j k l m n o p q r s t u)
def zgr(q:zh):Bool×zk×Int×Str×Int×Str×Int×Str×Int×Str×(List Str)×(List zf)×(List Str)×(List zf)×Unit->OT1| (h,r,i,j,k,l,a,b,c,d,m,n,e,f,())=>(zZ [125] (zn r)).bind λg=>if(!g.1)=true then if h=true then(zZ [100,101,102,97,117,108,116] (zn g.2.1)).bind λo=>if o.1=true then zgh q false (zn o.2.1) i j k l a b c d 37 [] 0 [] m n e f [] [⟨42,[],0,[],[],[]⟩]else zgk q h (zn o.2.1) i j k l a b c d 37 [] 0 [] m n e f [] [⟨42,[],0,[],[],[]⟩]else zgk q h (zn g.2.1) i j k l a b c d 37 [] 0 [] m n e f [] [⟨42,[],0,[],[],[]⟩]else some (.inr (.inr (⟨a,b,c,d,e,f⟩,(zn g.2.1),())))
def ziK(e:zh)(x:zk):zbU:=(e.zcM (zn x)).bind λf=>(match f with| .inl a=>some (.inl (a.1,(zn a.2.1),()))| .inr b=>(zaP [123] (zn b.2.1)).bind λg=>(match g with| .inl c=>some (.inl (c.1,(zn c.2.1),()))| .inr h=>Lp.loop (zgr e) (true,(zn h.1),0,[],0,[],36,[],0,[],[],[],[],[(zy b.1)],())))
def zzA(b:zh):=callee Y [] zBA zq7 (λz=>ziK b z.1)
def zzK(b:zh):zau Y (zar Y zq7):=(.loop [[7,5,1,2,2,2,2],[8,5,1,2,2,2,2],[6,1,2,2,2,2],[2,2,2,2,2]] ⟨[(0,.ptr 0 0),(2,.ptr 1 0),(3,.ptr 2 0),(4,.bool)],zjO⟩ (zgr b) (.join [[1,4,2,1,2,5,2,7,5,1,2,2,2,2],[2,4,2,1,2,5,2,7,5,1,2,2,2,2],[2,2,5,2,7,5,1,2,2,2,2],[6,2,7,5,1,2,2,2,2],[8,5,1,2,2,2,2],[6,1,2,2,2,2],[2,2,2,2,2]] ⟨[(0,.ptr 0 0),(2,.ptr 1 0),(3,.ptr 2 0),(4,.bool),(5,.ptr 3 0)],om6⟩ (u20 (zgk b)) (.join [[2,4,2,1,2,5,2,7,5,1,2,2,2,2],[2,2,5,2,7,5,1,2,2,2,2],[6,2,7,5,1,2,2,2,2],[8,5,1,2,2,2,2],[6,1,2,2,2,2],[2,2,2,2,2]] ⟨[(0,.ptr 0 0),(2,.ptr 1 0),(3,.ptr 2 0),(4,.bool),(5,.ptr 3 0)],om6⟩ (u20 (zk8 b)) (.join [[1,2,2,5,2,7,5,1,2,2,2,2],[2,2,2,5,2,7,5,1,2,2,2,2],[6,2,7,5,1,2,2,2,2],[8,5,1,2,2,2,2],[6,1,2,2,2,2],[2,2,2,2,2]] ⟨[(0,.ptr 0 0),(2,.ptr 1 0),(3,.ptr 2 0),(4,.bool),(5,.ptr 3 0)],om6⟩ (u20 (zgh b)) (.loop [[7,5,1,2,2,2,5,2,7,5,1,2,2,2,2],[8,5,1,2,2,2,5,2,7,5,1,2,2,2,2],[6,1,2,2,2,5,2,7,5,1,2,2,2,2],[2,2,2,2,5,2,7,5,1,2,2,2,2],[6,2,7,5,1,2,2,2,2],[8,5,1,2,2,2,2],[6,1,2,2,2,2],[2,2,2,2,2]] ⟨[(0,.ptr 0 0),(2,.ptr 1 0),(3,.ptr 2 0),(4,.bool),(5,.ptr 3 0)],om6⟩ (zgp b) .nil .nil)))) .nil)
theorem zvO(c:zh)(d:zU c):K8 93 (zzA c):=f8 (zzK c) Tryz.func93 (.cons d.zcM (.cons zbo (.cons zbf (.cons zil (.cons d.zcv (.cons d.zaX .nil)))))) ⟨λz=>by kernel_rfl,⟨λz=>by kernel_rfl,⟨λz=>by kernel_rfl,⟨λz=>by kernel_rfl,⟨λz=>by kernel_rfl,trivial,trivial⟩⟩⟩⟩,trivial⟩
def zu:Nat->zh
 |0=>⟨λ_ _ _=>none,λ_ _=>none,λ_ _ _ _ _ _ _=>none,λ_ _ _ _ _ _ _=>none,λ_=>none,λ_=>none,λ_=>none,λ_=>none,λ_ _=>none,λ_=>none,λ_=>none,λ_=>none,λ_=>none,λ_ _ _ _ _ _ _=>none,λ_ _ _ _ _ _ _=>none,λ_=>none,λ_ _ _=>none,λ_ _ _ _=>none,λ_ _ _ _=>none,λ_ _ _ _=>none,λ_ _=>none,λ_ _ _ _ _ _ _ _ _=>none,λ_ _ _ _ _ _ _ _ _=>none,λ_ _ _ _ _ _ _ _ _=>none,λ_ _ _ _ _ _ _=>none,λ_ _ _=>none,λ_ _ _ _ _ _ _=>none,λ_ _ _ _ _ _ _=>none,λ_ _ _ _ _ _ _=>none,λ_ _ _ _ _ _ _=>none,λ_=>none,λ_=>none,λ_=>none,λ_=>none,λ_ _=>none,λ_=>none,λ_=>none⟩
 |n+1=>⟨ziG (zu n),zhh (zu n),zgG (zu n),zgs (zu n),zjv (zu n),ziY (zu n),zju (zu n),zif (zu n),zic (zu n),ziW (zu n),zjB (zu n),zhM (zu n),zjH (zu n),zgI (zu n),zih (zu n),zjx (zu n),zi0 (zu n),zfF (zu n),zgV (zu n),zgR (zu n),zhR (zu n),zhQ (zu n),zgF (zu n),zgH (zu n),zib (zu n),zhK (zu n),zgQ (zu n),zgU (zu n),zgC (zu n),zhk (zu n),zid (zu n),zjI (zu n),zjz (zu n),zjt (zu n),ziS (zu n),zjZ (zu n),ziK (zu n)⟩
theorem zS: ∀n,zU (zu n)
 |0=>⟨COk.none ⟨⟨_,Tryz.func20,by kernel_rfl,rfl⟩⟩,COk.none ⟨⟨_,Tryz.func37,by kernel_rfl,rfl⟩⟩,COk.none ⟨⟨_,Tryz.func80,by kernel_rfl,rfl⟩⟩,COk.none ⟨⟨_,Tryz.func81,by kernel_rfl,rfl⟩⟩,COk.none ⟨⟨_,Tryz.func38,by kernel_rfl,rfl⟩⟩,COk.none ⟨⟨_,Tryz.func82,by kernel_rfl,rfl⟩⟩,COk.none ⟨⟨_,Tryz.func83,by kernel_rfl,rfl⟩⟩,COk.none ⟨⟨_,Tryz.func134,by kernel_rfl,rfl⟩⟩,COk.none ⟨⟨_,Tryz.func166,by kernel_rfl,rfl⟩⟩,COk.none ⟨⟨_,Tryz.func189,by kernel_rfl,rfl⟩⟩,COk.none ⟨⟨_,Tryz.func211,by kernel_rfl,rfl⟩⟩,COk.none ⟨⟨_,Tryz.func224,by kernel_rfl,rfl⟩⟩,COk.none ⟨⟨_,Tryz.func237,by kernel_rfl,rfl⟩⟩,COk.none ⟨⟨_,Tryz.func80,by kernel_rfl,rfl⟩⟩,COk.none ⟨⟨_,Tryz.func241,by kernel_rfl,rfl⟩⟩,COk.none ⟨⟨_,Tryz.func91,by kernel_rfl,rfl⟩⟩,COk.none ⟨⟨_,Tryz.func223,by kernel_rfl,rfl⟩⟩,COk.none ⟨⟨_,Tryz.func78,by kernel_rfl,rfl⟩⟩,COk.none ⟨⟨_,Tryz.func80,by kernel_rfl,rfl⟩⟩,COk.none ⟨⟨_,Tryz.func133,by kernel_rfl,rfl⟩⟩,COk.none ⟨⟨_,Tryz.func236,by kernel_rfl,rfl⟩⟩,COk.none ⟨⟨_,Tryz.func78,by kernel_rfl,rfl⟩⟩,COk.none ⟨⟨_,Tryz.func80,by kernel_rfl,rfl⟩⟩,COk.none ⟨⟨_,Tryz.func133,by kernel_rfl,rfl⟩⟩,COk.none ⟨⟨_,Tryz.func242,by kernel_rfl,rfl⟩⟩,COk.none ⟨⟨_,Tryz.func210,by kernel_rfl,rfl⟩⟩,COk.none ⟨⟨_,Tryz.func80,by kernel_rfl,rfl⟩⟩,COk.none ⟨⟨_,Tryz.func222,by kernel_rfl,rfl⟩⟩,COk.none ⟨⟨_,Tryz.func80,by kernel_rfl,rfl⟩⟩,COk.none ⟨⟨_,Tryz.func167,by kernel_rfl,rfl⟩⟩,COk.none ⟨⟨_,Tryz.func85,by kernel_rfl,rfl⟩⟩,COk.none ⟨⟨_,Tryz.func86,by kernel_rfl,rfl⟩⟩,COk.none ⟨⟨_,Tryz.func87,by kernel_rfl,rfl⟩⟩,COk.none ⟨⟨_,Tryz.func88,by kernel_rfl,rfl⟩⟩,COk.none ⟨⟨_,Tryz.func135,by kernel_rfl,rfl⟩⟩,COk.none ⟨⟨_,Tryz.func92,by kernel_rfl,rfl⟩⟩,COk.none ⟨⟨_,Tryz.func93,by kernel_rfl,rfl⟩⟩⟩
 |n+1=>⟨zvI _ (zS n),ztv _ (zS n),zsH _ (zS n),zrL _ (zS n),zxt _ (zS n),zvH _ (zS n),zxV _ (zS n),zvl _ (zS n),zvf _ (zS n),zvY _ (zS n),zxx _ (zS n),zt3 _ (zS n),zw8 _ (zS n),ztn _ (zS n),zuA _ (zS n),zxk _ (zS n),zvE _ (zS n),zt5 _ (zS n),zsj _ (zS n),zss _ (zS n),zul _ (zS n),ztX _ (zS n),zsY _ (zS n),zso _ (zS n),zuK _ (zS n),ztW _ (zS n),zsG _ (zS n),zte _ (zS n),zsR _ (zS n),ztz _ (zS n),zuQ _ (zS n),zxj _ (zS n),zwM _ (zS n),zxK _ (zS n),zvN _ (zS n),zyx _ (zS n),zvO _ (zS n)⟩
def zcf:Bool->Str->zk->zGk:=(zu Lp.big).zcf
theorem zza:K8 20 (ziO (zu Lp.big)):=(zS Lp.big).zcf
def zc0:Int->zk->zbU:=(zu Lp.big).zc0
def zdQ:zk->Int->Str->Int->Str->(List Str)->(List zf)->OT6:=(zu Lp.big).zdQ
def zd5:zk->Int->Str->Int->Str->(List Str)->(List zf)->OT6:=(zu Lp.big).zd5
def zcv:zk->zbU:=(zu Lp.big).zcv
def zcx:zk->zbU:=(zu Lp.big).zcx
def zdW:zk->zbU:=(zu Lp.big).zdW
def za7:zk->zki:=(zu Lp.big).za7
def zdu:Int->zk->zbU:=(zu Lp.big).zdu
def zdh:zk->zki:=(zu Lp.big).zdh
def zdX:zk->zki:=(zu Lp.big).zdX
def zei:zk->zki:=(zu Lp.big).zei
def zfq:zk->zki:=(zu Lp.big).zfq
def zdM:zk->Int->Str->Int->Str->(List Str)->(List zf)->OT8:=(zu Lp.big).zdM
def zfC:zk->Int->Str->Int->Str->(List Str)->(List zf)->OT8:=(zu Lp.big).zfC
def zaX:zk->zki:=(zu Lp.big).zaX
def zcw:Str->Bool->zk->zGk:=(zu Lp.big).zcw
def zfd:Str->Bool->zk->(List zf)->zGh:=(zu Lp.big).zfd
def zeq:zk->Str->(List zf)->Bool->zGj:=(zu Lp.big).zeq
def zeu:zk->Str->(List zf)->Bool->zGj:=(zu Lp.big).zeu
def zea:zk->(List zf)->zGh:=(zu Lp.big).zea
def zej:Str->Bool->zk->Int->Str->Int->Str->(List Str)->(List zf)->OT7:=(zu Lp.big).zej
def zet:zk->Str->Int->Str->Int->Str->(List Str)->(List zf)->Bool->OT4:=(zu Lp.big).zet
def zes:zk->Str->Int->Str->Int->Str->(List Str)->(List zf)->Bool->OT4:=(zu Lp.big).zes
def zeI:zk->Int->Str->Int->Str->(List Str)->(List zf)->OT7:=(zu Lp.big).zeI
def zdf:zf->Bool->zk->zbU:=(zu Lp.big).zdf
def zdN:zk->Int->Str->Int->Str->(List Str)->(List zf)->OT8:=(zu Lp.big).zdN
def zer:zk->Int->Str->Int->Str->(List Str)->(List zf)->OT8:=(zu Lp.big).zer
def zdL:zk->Int->Str->Int->Str->(List Str)->(List zf)->OT8:=(zu Lp.big).zdL
def zeX:zk->Int->Str->Int->Str->(List Str)->(List zf)->OT8:=(zu Lp.big).zeX
def zeD:zk->zbU:=(zu Lp.big).zeD
def zcM:zk->zbU:=(zu Lp.big).zcM
def zcb:zk->zbU:=(zu Lp.big).zcb
def zfn:zk->zbU:=(zu Lp.big).zfn
def zd1:Str->zk->zki:=(zu Lp.big).zd1
def zf5:zk->zbU:=(zu Lp.big).zf5
def ze9:zk->zbU:=(zu Lp.big).ze9
structure zfW where
 zg5:zf->Option (Int×Unit)
def zr6(b:zfW):=callee Y [] zEI zB2 (λz=>b.zg5 z.1)
structure zvn (g_:zfW):Prop where
 zg5:COk hY Tryz.prog zaR 22 (zr6 g_)
def zlc(k:zfW):Int×(List zf)×Int×Int×Unit->zRY| (a,c,d,b,())=>if(decide (b<d))=true then(zas c b).bind λf=>(k.zg5 (zy f)).bind λe=>let g:=(if e.1>a then e.1 else a);let h:=(IntKind.wrap .i64 (b+1));some (.inl (g,c,d,h,()))else let i:=(IntKind.wrap .i64 (a+1));some (.inr (i,()))
def zsf(b:zfW)(n:zf):Option (Int×Unit):=Lp.loop (zlc b) (0,n.L,((n.L.length:Nat):Int),0,())
def zJU(b:zfW):=callee Y [] zEI zB2 (λz=>zsf b z.1)
def zJz(b:zfW):zau Y (zar Y zB2):=(.loop [[7,5,2,1,2,2],[8,5,2,1,2,2],[6,2,1,2,2],[2,2,2]] ⟨[(3,.int .i64),(7,.sl 25),(8,.int .i64),(9,.int .i64)],[]⟩ (zlc b) .nil .nil)
theorem zFX(b:zfW)(d:zvn b):K8 22 (zJU b):=f8 (zJz b) Tryz.func22 (.cons d.zg5 .nil) ⟨λz=>by kernel_rfl,trivial,trivial⟩
def zeP:Nat->zfW
 |0=>⟨λ_=>none⟩
 |n+1=>⟨zsf (zeP n)⟩
theorem ztL: ∀n,zvn (zeP n)
 |0=>⟨COk.none ⟨⟨_,Tryz.func22,by kernel_rfl,rfl⟩⟩⟩
 |n+1=>⟨zFX _ (ztL n)⟩
def zg5:zf->Option (Int×Unit):=(zeP Lp.big).zg5
theorem zIn:K8 22 (zr6 (zeP Lp.big)):=(ztL Lp.big).zg5
def zdr(l:Str):Option (zf×Int×Int×Unit):=(zwr l).bind λa=>if(a.2.2.1 !=0)=true then fk (fk (fk (some (⟨0,[],0,[],[],[]⟩,a.2.1,a.2.2.1,())) (fd (some (⟨0,[],0,[],[],[]⟩,a.2.1,a.2.2.1,())))) (fk (fd (some (⟨0,[],0,[],[],[]⟩,a.2.1,a.2.2.1,()))) (fk (fd (some (⟨0,[],0,[],[],[]⟩,a.2.1,a.2.2.1,()))) (some (⟨0,[],0,[],[],[]⟩,a.2.1,a.2.2.1,()))))) (fk (fk (fk (some (⟨0,[],0,[],[],[]⟩,a.2.1,a.2.2.1,())) (fd (some (⟨0,[],0,[],[],[]⟩,a.2.1,a.2.2.1,())))) (some (⟨0,[],0,[],[],[]⟩,a.2.1,a.2.2.1,()))) (fk (fd (some (⟨0,[],0,[],[],[]⟩,a.2.1,a.2.2.1,()))) (some (⟨0,[],0,[],[],[]⟩,a.2.1,a.2.2.1,()))))else(zcf true [125] ⟨a.1,false⟩).bind λi=>(match i with| .inl b=>(zas b.2.1.t 0).bind λj=>if(j.Kind !=0)=true then(zbw (zn b.2.1)).bind λc=>if((c.1).isNil)=true then some (⟨41,[],0,[],[],b.1⟩,a.2.1,a.2.2.1,())else(zuu 45 c.1).bind λe=>if e.2=true then some (⟨0,[],0,[],[],[]⟩,e.1,80,())else zF4 c.1 λ_=>none else(zg5 ⟨41,[],0,[],[],b.1⟩).bind λk=>if(decide (k.1>64))=true then if((zaQ.nil).isNil)=true then some (⟨0,[],0,[],[],[]⟩,0,31,())else(zuu 45 zaQ.nil).bind λf=>if f.2=true then some (⟨0,[],0,[],[],[]⟩,f.1,80,())else zF4 zaQ.nil λ_=>none else if((zaQ.nil).isNil)=true then some (⟨41,[],0,[],[],b.1⟩,0,0,())else(zuu 45 zaQ.nil).bind λg=>if g.2=true then some (⟨0,[],0,[],[],[]⟩,g.1,80,())else zF4 zaQ.nil λ_=>none| .inr d=>if((d.1).isNil)=true then some (⟨0,[],0,[],[],[]⟩,a.2.1,a.2.2.1,())else(zuu 45 d.1).bind λh=>if h.2=true then some (⟨0,[],0,[],[],[]⟩,h.1,80,())else zF4 d.1 λ_=>none)
def zFn:List zan:=[⟨false,.tup [.st 25,.int .i64,.int .i64],[]⟩]
def zEK:=callee Y [] zJJ zFn (λz=>zdr z.1)
theorem zuD:K8 9 zEK:=
 zSV (body:=(Tryz.f9.body).getD .skip) (gfn:=Tryz.f19) (T:=[(18,(zwO)),(20,(ziO (zu Lp.big))),(21,(zhl)),(22,(zr6 (zeP Lp.big)))]) [[1,2,2,2],[2,2,2,2]] Tryz.func9 (by kernel_rfl) ⟨⟨_,Tryz.func9,by kernel_rfl,rfl⟩⟩ Tryz.func19 ⟨⟨_,Tryz.func19,by kernel_rfl,rfl⟩⟩ hsz ((.cons zIb (.cons zza (.cons zbH (.cons zIn .nil)))):zcu hY Tryz.prog zaR [(18,(zwO)),(20,(ziO (zu Lp.big))),(21,(zhl)),(22,(zr6 (zeP Lp.big)))]) (λ_ _ hle h=>h.mono hle) (by kernel_rfl)
  (λz=>by kernel_rfl)
def zj4:Option (Bool×Unit):=(zdr [97,32,61,32,98,10,43,43,99]).bind λb=>(zdr [114,101,116,117,114,110,10,97]).bind λa=>(zdr [49,32,61,32,50]).bind λc=>let d:=((b.2.2.1==0)&&(((b.1.L.length:Nat):Int)==2));let e:=((d&&(a.2.2.1==0))&&(((a.1.L.length:Nat):Int)==2));(if e=true then(zas a.1.L 0).bind λf=>let g:=((f.L.length:Nat):Int);some (g==0)else some false).bind λh=>let i:=((h&&(c.2.1==2))&&(c.2.2.1==80));some (i,())
def zAs:Shape:=⟨[],[]⟩
def zzJ:=callee Y [] zAs zBR (λz=>zj4)
theorem zzg:K8 11 (zzJ):=f8 zFV Tryz.func11 (.cons zuD .nil) trivial
def zaE(n:zf):Option (zey×Bool×Unit):=if(n.Kind==22)=true then some (⟨[],0,false,false,[100,42,100]⟩,true,())else if(n.Kind==23)=true then let b:=(if 1< ((n.L.length:Nat):Int)then 1 else((n.L.length:Nat):Int));(zbv [101] 0 b).bind λc=>some (⟨[110],0,false,false,c⟩,true,())else if(n.Kind==24)=true then some (⟨[],0,false,false,[101]⟩,true,())else if(n.Kind==34)=true then some (⟨[],0,false,false,[101]⟩,true,())else if(n.Kind==25)=true then some (⟨[],0,false,false,[42,115]⟩,true,())else if(n.Kind==26)=true then let a:=(if 2>((n.L.length:Nat):Int)then 2 else((n.L.length:Nat):Int));let d:=(if 3<a then 3 else a);(zbv [101,98,98] 0 d).bind λe=>some (⟨[],0,false,false,e⟩,true,())else if(n.Kind==27)=true then some (⟨[],0,false,false,[101,98]⟩,true,())else if(n.Kind==28)=true then some (⟨[],0,false,false,[98,101]⟩,true,())else if(n.Kind==29)=true then some (⟨[],0,false,false,[118,102,102,98]⟩,true,())else if(n.Kind==30)=true then some (⟨[],0,false,false,[119,101,98]⟩,true,())else if(n.Kind==31)=true then some (⟨[109],0,false,false,[]⟩,true,())else if(n.Kind==32)=true then some (⟨[109],0,false,false,[]⟩,true,())else if(n.Kind==33)=true then let f:=(if 1< ((n.L.length:Nat):Int)then 1 else((n.L.length:Nat):Int));(zbv [101] 0 f).bind λg=>some (⟨[],0,false,false,g⟩,true,())else if(n.Kind==35)=true then some (⟨[99],0,false,false,[98,99,99]⟩,true,())else if(n.Kind==36)=true then some (⟨[],0,false,false,[101,42,107]⟩,true,())else if(n.Kind==37)=true then some (⟨[],0,false,false,[102,42,115]⟩,true,())else if(n.Kind==38)=true then some (⟨[110],0,false,false,[115]⟩,true,())else if(n.Kind==39)=true then some (⟨[110],0,false,true,[42,120]⟩,true,())else if(n.Kind==41)=true then some (⟨[],0,false,false,[42,120]⟩,true,())else some (⟨[],0,false,false,[]⟩,false,())
def zaw(a:zey):Option (zey×Bool×Unit):=some ((zOn a),true,())
def zbN(n:zf):Option (zey×Bool×Unit):=if(n.Kind==1)=true then zaw ⟨[],9007199254740991,false,false,[]⟩else if(n.Kind==2)=true then zaw ⟨[],0,true,false,[]⟩else if(n.Kind==3)=true then zaw ⟨[110],0,false,false,[]⟩else if(n.Kind==4)=true then zaw ⟨[],0,false,false,[]⟩else if(n.Kind==5)=true then zaw ⟨[],0,false,false,[]⟩else if(n.Kind==40)=true then zaw ⟨[],0,false,false,[]⟩else if(n.Kind==42)=true then zaw ⟨[],0,false,false,[]⟩else if(n.Kind==6)=true then zaw ⟨[],1,false,false,[]⟩else if(n.Kind==7)=true then zaw ⟨[],0,false,false,[42,101]⟩else if(n.Kind==8)=true then zaw ⟨[],0,false,false,[42,112]⟩else if(n.Kind==9)=true then zaw ⟨[],0,true,false,[101]⟩else if(n.Kind==10)=true then zaw ⟨[109],0,false,true,[42,120]⟩else if(n.Kind==11)=true then zaw ⟨[105],0,false,false,[101]⟩else if(n.Kind==12)=true then zaw ⟨[],0,false,false,[101,101]⟩else if(n.Kind==21)=true then zaw ⟨[],0,false,false,[101,101]⟩else if(n.Kind==13)=true then zaw ⟨[],0,false,false,[101,42,101]⟩else if(n.Kind==14)=true then zaw ⟨[],0,false,false,[101,42,101]⟩else if(n.Kind==15)=true then zaw ⟨[32,45,32,43,32,33,32,116,121,112,101,111,102,32,100,101,108,101,116,101,32,118,111,105,100,32],0,false,false,[101]⟩else if(n.Kind==16)=true then zaw ⟨[32,43,43,32,45,45,32],1,false,false,[116]⟩else if(n.Kind==17)=true then zaw ⟨[32,43,32,45,32,42,32,47,32,37,32,60,32,62,32,60,61,32,62,61,32,61,61,32,33,61,32,61,61,61,32,33,61,61,32,105,110,32,105,110,115,116,97,110,99,101,111,102,32],0,false,false,[101,101]⟩else if(n.Kind==18)=true then zaw ⟨[32,38,38,32,124,124,32],0,false,false,[101,101]⟩else if(n.Kind==19)=true then zaw ⟨[],0,false,false,[101,101,101]⟩else if(n.Kind==20)=true then zaw ⟨[32,61,32,43,61,32,45,61,32,42,61,32,47,61,32,37,61,32],0,false,false,[116,101]⟩else(zaE (zy n)).bind λa=>some ((zOn a.1),a.2.1,())
def zAS(e:Str)(s:Str):Option (Bool×Unit):=if(!(s==[]))=true then(strings_Contains s [32]).bind λa=>if(!a.1)=true then(zmy [32] s).bind λb=>(zmy b [32]).bind λc=>(strings_Contains e c).bind λd=>some (d.1,())else some (false,())else some (false,())
def zJv(u:Str):Option (Bool×Unit):=let a:=(IntKind.wrap .i64 ((BitVec.ofInt 64 ((u.length:Nat):Int)&&&BitVec.ofInt 64 1).toNat));some ((a==0),())
def zQ(l:List Str)(c:Bool)(a:List Str):Option (Bool×(List Str)×Unit):=(room (a.length+l.length)).bind λ_=>let b:=a++l;some (c,b,())
structure zy2 where
 zlV:zf->Option (Int×Unit)
def zHT(f:zy2)(n:zf):Option (Int×Unit):=if(n.Kind==21)=true then some (0,())else if(n.Kind==20)=true then some (1,())else if(n.Kind==19)=true then some (2,())else if(n.Kind==18)=true then(zbv n.Name 0 1).bind λg=>(strings_Index [38,124] g).bind λh=>let i:=(IntKind.wrap .i64 (4 -h.1));some (i,())else if(n.Kind==17)=true then(zAS [32,61,61,32,33,61,32,61,61,61,32,33,61,61,32] n.Name).bind λj=>if j.1=true then some (5,())else(zAS [32,43,32,45,32] n.Name).bind λk=>if k.1=true then some (7,())else(zAS [32,42,32,47,32,37,32] n.Name).bind λl=>if l.1=true then some (8,())else some (6,())else if(n.Kind==15)=true then some (9,())else if(n.Kind==16)=true then let m:=(IntKind.wrap .i64 (10 -n.Num));some (m,())else if(n.Kind==13)=true then some (11,())else if(n.Kind==11)=true then(zas n.L 0).bind λo=>(f.zlV (zy o)).bind λa=>let b:=(if a.1>11 then a.1 else 11);let p:=(if b<12 then b else 12);some (p,())else if(n.Kind==12)=true then(zas n.L 0).bind λq=>(f.zlV (zy q)).bind λc=>let d:=(if c.1>11 then c.1 else 11);let r:=(if d<12 then d else 12);some (r,())else if(n.Kind==14)=true then some (12,())else some (13,())
def zvr:Nat->zy2
 |0=>⟨λ_=>none⟩
 |n+1=>⟨zHT (zvr n)⟩
def zlV:zf->Option (Int×Unit):=(zvr Lp.big).zlV
def zGS(u:Str):Option (Int×Unit):=let a:=(IntKind.wrap .i64 (Int.tdiv ((u.length:Nat):Int) 2));some (a,())
def zOh(u:Str)(i:Int):Option (Int×Unit):=if(decide (i<0))=true then some ((-1),())else(zGS u).bind λa=>if(decide (i>=a.1))=true then some ((-1),())else(zbc u (IntKind.wrap .i64 (2*i))).bind λb=>let c:=(IntKind.wrap .i64 ((IntKind.wrap .i64 b)*2^8));let d:=(IntKind.wrap .i64 ((IntKind.wrap .i64 (2*i))+1));(zbc u d).bind λe=>let f:=(IntKind.wrap .i64 ((BitVec.ofInt 64 c|||BitVec.ofInt 64 (IntKind.wrap .i64 e)).toNat));some (f,())
def zF9(d:Str)(e:Int)(f:Int)(g:Int)(a:List UInt8):zFZ:=let h:=(IntKind.wrap .i64 ((BitVec.ofInt 64 e|||BitVec.ofInt 64 65536).toNat));(zgZ h 16).bind λb=>(zbv b.1 1 ((b.1.length:Nat):Int)).bind λi=>(zmy [92,117] i).bind λc=>(room (a.length+c.length)).bind λ_=>let j:=a++c;let k:=(IntKind.wrap .i64 (g+1));some (.inl (d,f,k,j,()))
def zGz(c:Str)(a:Int)(d:Int)(e:Int)(b:List UInt8):zFZ:=let g:=((decide (a<32))||(decide (a>126)));if g=true then zF9 c a d e b else(toB (IntKind.wrap .u8 a)).bind λf=>(room (b.length+([f]:List UInt8).length)).bind λ_=>let h:=b++([f]:List UInt8);let i:=(IntKind.wrap .i64 (e+1));some (.inl (c,d,i,h,()))
def zGb(b:Str)(h:Int)(c:Int)(d:Int)(e:Int)(a:List UInt8):zFZ:=if(decide (c>=0))=true then(zbc [98,116,110,102,114] c).bind λi=>(toB 92).bind λf=>(toB i).bind λg=>(room (a.length+([f,g]:List UInt8).length)).bind λ_=>let j:=a++([f,g]:List UInt8);let k:=(IntKind.wrap .i64 (e+1));some (.inl (b,d,k,j,()))else zGz b h d e a
def zx8(c:Str)(a:Int)(h:Int)(d:Int)(e:Int)(b:List UInt8):zFZ:=let i:=((a==34)||(a==92));if i=true then(toB 92).bind λf=>(toB (IntKind.wrap .u8 a)).bind λg=>(room (b.length+([f,g]:List UInt8).length)).bind λ_=>let j:=b++([f,g]:List UInt8);let k:=(IntKind.wrap .i64 (e+1));some (.inl (c,d,k,j,()))else zGb c a h d e b
def zF0:Str×Int×Int×(List UInt8)×Unit->zFZ| (d,e,a,b,())=>if(decide (a<e))=true then(zOh d a).bind λc=>if(decide (c.1<128))=true then(strings_IndexByte [8,9,10,12,13] (IntKind.wrap .u8 c.1)).bind λf=>zx8 d c.1 f.1 e a b else zx8 d c.1 (-1) e a b else(room (b.length+([(UInt8.ofNat 34)]:List UInt8).length)).bind λ_=>let g:=b++([(UInt8.ofNat 34)]:List UInt8);some (.inr (g,0,()))
def zxQ(u:Str):Option (Str×Int×Unit):=(zJv u).bind λa=>if(!a.1)=true then some ([],10,())else(zGS u).bind λb=>Lp.loop zF0 (u,b.1,0,([(UInt8.ofNat 34)]:List UInt8),())
def zAH(a:Bool):Option (Str):=some (Lib.formatBool a)
def strconv_FormatBool(a:Bool):Option (Str×Unit):=zfT (λr=>(r,())) (zAH a)
def zHE(i:Int)(l v:List Str):Option (List Str×Unit):=zUj i l v
structure zV where
 zg1:(List zf)->Bool->(List Str)->Option (Bool×(List Str)×Unit)
 zcL:zf->Bool->(List Str)->Option (Bool×(List Str)×Unit)
 zfr:zf->Int->Bool->(List Str)->Option (Bool×(List Str)×Unit)
 za3:zf->Int->Bool->(List Str)->Option (Bool×(List Str)×Unit)
 zno:Str->Str->Bool->(List Str)->zf->Option (Bool×(List Str)×zf×Unit)
 zoM:Bool->(List Str)->zf->Option (Bool×(List Str)×zf×Unit)
 zlW:zf->Bool->(List Str)->Option (Bool×(List Str)×Unit)
 zkN:Str->Str->Bool->(List Str)->zf->Option (Bool×(List Str)×zf×Unit)
 zm7:Bool->(List Str)->zf->Option (Bool×(List Str)×zf×Unit)
 zjk:(List zf)->Bool->(List Str)->Option (Bool×(List Str)×Unit)
 zlg:Str->Str->Bool->(List Str)->zf->Option (Bool×(List Str)×zf×Unit)
 znl:Bool->(List Str)->zf->Option (Bool×(List Str)×zf×Unit)
 ziE:zf->Bool->(List Str)->Option (Bool×(List Str)×Unit)
 zlh:Str->Str->Bool->(List Str)->zf->Option (Bool×(List Str)×zf×Unit)
 zkg:Bool->(List Str)->zf->Option (Bool×(List Str)×zf×Unit)
 zkO:zf->Bool->(List Str)->Option (Bool×(List Str)×Unit)
 zk7:Str->Str->Bool->(List Str)->(List zf)->Option (Bool×(List Str)×(List zf)×Unit)
 zjX:Bool->(List Str)->(List zf)->Option (Bool×(List Str)×(List zf)×Unit)
 zij:Str->Str->Bool->(List Str)->(List zf)->Option (Bool×(List Str)×(List zf)×Unit)
 zjQ:Bool->(List Str)->(List zf)->Option (Bool×(List Str)×(List zf)×Unit)
 zkU:Str->Str->Bool->(List Str)->(List zf)->Option (Bool×(List Str)×(List zf)×Unit)
 zjR:Bool->(List Str)->(List zf)->Option (Bool×(List Str)×(List zf)×Unit)
 zhz:Str->zf->Bool->(List Str)->Option (Bool×(List Str)×Unit)
 zhG:zf->Bool->(List Str)->Option (Bool×(List Str)×Unit)
 zoK:zf->Bool->(List Str)->Option (Bool×(List Str)×Unit)
def zzv(j:zV):(List zf)×Int×Int×Bool×(List Str)×Unit->zEg| (b,c,a,d,e,())=>if(decide (a<c))=true then(zas b a).bind λg=>(j.zcL (zy g) d e).bind λf=>let h:=(IntKind.wrap .i64 (a+1));some (.inl (b,c,h,f.1,f.2.1,()))else some (.inr (d,e,()))
def zBb(d:zV)(l:List zf)(b:Bool)(c:List Str):Option (Bool×(List Str)×Unit):=Lp.loop (zzv d) (l,((l.length:Nat):Int),0,b,c,())
def zrn(g:zV)(a:List zf)(h:Str)(i:Bool)(j:List Str):Option (Bool×(List Str)×Unit):=(zQ [h] i j).bind λb=>(zas a 0).bind λk=>(g.zfr (zy k) 0 b.1 b.2.1).bind λc=>(zQ [[58]] c.1 c.2.1).bind λd=>(zbv a 1 ((a.length:Nat):Int)).bind λl=>(g.zg1 l d.1 d.2.1).bind λe=>some (e.1,e.2.1,())
def zrq(i:zV)(a:List zf)(b:Bool)(c:List Str):Option (Bool×(List Str)×Unit):=(zas a 2).bind λf=>if(f.Kind==25)=true then(zQ [[102,105,110,97,108,108,121]] b c).bind λd=>(zas a 2).bind λg=>(i.zcL (zy g) d.1 d.2.1).bind λe=>some (e.1,e.2.1,())else some (b,c,())
def zC3(b:zV)(o:zf)(c:Bool)(l:List Str):Option (Bool×(List Str)×Unit):=if(o.Kind==22)=true then(b.zfr (zy o) 0 c l).bind λg=>(zQ [[59]] g.1 g.2.1).bind λh=>some (h.1,h.2.1,())else if(o.Kind==24)=true then(zas o.L 0).bind λN=>(b.za3 (zy N) 0 c l).bind λd=>(zas d.2.1 ((l.length:Nat):Int)).bind λ_=>(zas d.2.1 ((l.length:Nat):Int)).bind λi=>let O:=((i==[123])||(i==[102,117,110,99,116,105,111,110]));if O=true then(zHE ((l.length:Nat):Int) d.2.1 [[40]]).bind λj=>(room (j.1.length+([[41]]:List Str).length)).bind λ_=>let P:=j.1++[[41]];(zQ [[59]] d.1 P).bind λk=>some (k.1,k.2.1,())else(zQ [[59]] d.1 d.2.1).bind λm=>some (m.1,m.2.1,())else if(o.Kind==25)=true then(zQ [[123]] c l).bind λn=>(b.zg1 o.L n.1 n.2.1).bind λp=>(zQ [[125]] p.1 p.2.1).bind λq=>some (q.1,q.2.1,())else if(o.Kind==26)=true then(zas o.L 0).bind λQ=>(b.zhz [105,102] (zy Q) c l).bind λr=>(zas o.L 1).bind λR=>(b.zcL (zy R) r.1 r.2.1).bind λe=>let S:=(((o.L.length:Nat):Int)==3);if S=true then(zQ [[101,108,115,101]] e.1 e.2.1).bind λs=>(zas o.L 2).bind λU=>(b.zcL (zy U) s.1 s.2.1).bind λt=>some (t.1,t.2.1,())else some (e.1,e.2.1,())else if(o.Kind==27)=true then(b.zhG (zy o) c l).bind λu=>some (u.1,u.2.1,())else if(o.Kind==28)=true then(b.zhG (zy o) c l).bind λv=>some (v.1,v.2.1,())else if(o.Kind==29)=true then(b.zhG (zy o) c l).bind λx=>some (x.1,x.2.1,())else if(o.Kind==30)=true then(b.zhG (zy o) c l).bind λy=>some (y.1,y.2.1,())else if(o.Kind==35)=true then(zQ [[116,114,121]] c l).bind λz=>(zas o.L 0).bind λV=>(b.zcL (zy V) z.1 z.2.1).bind λf=>(zas o.L 1).bind λW=>if(W.Kind==25)=true then(zQ [[99,97,116,99,104],[40],o.Name,[41]] f.1 f.2.1).bind λA=>(zas o.L 1).bind λX=>(b.zcL (zy X) A.1 A.2.1).bind λB=>zrq b o.L B.1 B.2.1 else zrq b o.L f.1 f.2.1 else if(o.Kind==36)=true then(zas o.L 0).bind λZ=>(b.zhz [115,119,105,116,99,104] (zy Z) c l).bind λC=>(zQ [[123]] C.1 C.2.1).bind λD=>(zbv o.L 1 ((o.L.length:Nat):Int)).bind λaa=>(b.zg1 aa D.1 D.2.1).bind λE=>(zQ [[125]] E.1 E.2.1).bind λH=>some (H.1,H.2.1,())else if(o.Kind==37)=true then(zas o.L 0).bind λab=>if(ab.Kind !=42)=true then zrn b o.L [99,97,115,101] c l else zrn b o.L [100,101,102,97,117,108,116] c l else if(o.Kind==38)=true then(zQ [o.Name,[58]] c l).bind λI=>(zas o.L 0).bind λac=>(b.zcL (zy ac) I.1 I.2.1).bind λJ=>some (J.1,J.2.1,())else if(o.Kind==39)=true then(b.ziE (zy o) c l).bind λK=>some (K.1,K.2.1,())else(b.zoK (zy o) c l).bind λM=>some (M.1,M.2.1,())
def zzQ(n:zV)(a:List zf)(b:Int)(c:Int)(d:Bool)(e:List Str)(f:zf):zEg:=let i:=((f.L.length:Nat):Int);if(decide (i>0))=true then(zQ [[61]] d e).bind λg=>(zas f.L 0).bind λj=>(n.za3 (zy j) 1 g.1 g.2.1).bind λh=>let k:=(IntKind.wrap .i64 (c+1));some (.inl (a,b,k,h.1,h.2.1,()))else let l:=(IntKind.wrap .i64 (c+1));some (.inl (a,b,l,d,e,()))
def zqF(i:zV)(c:List zf)(d:Int)(e:Int)(f:Bool)(g:List Str)(a:zf):zEg:=(zQ [a.Name] f g).bind λb=>zzQ i c d e b.1 b.2.1 (zy a)
def zzo(i:zV):(List zf)×Int×Int×Bool×(List Str)×Unit->zEg| (b,c,a,d,e,())=>if(decide (a<c))=true then(zas b a).bind λf=>if(decide (a>0))=true then(zQ [[44]] d e).bind λg=>zqF i b c a g.1 g.2.1 (zy f)else zqF i b c a d e (zy f)else some (.inr (d,e,()))
def zBf(e:zV)(n:zf)(f:Int)(a:Bool)(l:List Str):Option (Bool×(List Str)×Unit):=if(n.Kind==42)=true then some (a,l,())else if(n.Kind==22)=true then(zQ [[118,97,114]] a l).bind λb=>Lp.loop (zzo e) (n.L,((n.L.length:Nat):Int),0,b.1,b.2.1,())else(e.za3 (zy n) f a l).bind λc=>some (c.1,c.2.1,())
def zEp(e:zV)(n:zf)(h:Int)(a:Bool)(l:List Str):Option (Bool×(List Str)×Unit):=(zlV (zy n)).bind λf=>let g:=((decide (f.1<h))||((a&&(n.Kind==17))&&(n.Name==[105,110])));if g=true then(e.zno [40] [41] a l (zy n)).bind λb=>some (b.1,b.2.1,())else(e.zlW (zy n) a l).bind λc=>some (c.1,c.2.1,())
def zAr(h:zV)(a:Str)(f:Str)(g:Bool)(l:List Str)(x:zf):Option (Bool×(List Str)×zf×Unit):=(zQ [a] false l).bind λc=>(h.zoM c.1 c.2.1 (zy x)).bind λb=>(zQ [f] b.1 b.2.1).bind λd=>some (g,d.2.1,(zy b.2.2.1),())
def zCk(d:zV)(c:Bool)(l:List Str)(x:zf):Option (Bool×(List Str)×zf×Unit):=(d.zlW (zy x) c l).bind λa=>some (a.1,a.2.1,(zy x),())
def zC5(c:zV)(n:zf)(a:Bool)(l:List Str):Option (Bool×(List Str)×Unit):=if(n.Kind==1)=true then(zgZ n.Num 10).bind λp=>(zQ [p.1] a l).bind λd=>some (d.1,d.2.1,())else if(n.Kind==2)=true then(zxQ n.Text).bind λq=>(zQ [q.1] a l).bind λe=>some (e.1,e.2.1,())else if(n.Kind==3)=true then(zQ [n.Name] a l).bind λf=>some (f.1,f.2.1,())else if(n.Kind==4)=true then(zQ [[116,104,105,115]] a l).bind λg=>some (g.1,g.2.1,())else if(n.Kind==5)=true then(zQ [[110,117,108,108]] a l).bind λh=>some (h.1,h.2.1,())else if(n.Kind==6)=true then(strconv_FormatBool (n.Num==1)).bind λr=>(zQ [r.1] a l).bind λi=>some (i.1,i.2.1,())else if(n.Kind==7)=true then(c.zkN [91] [93] a l (zy n)).bind λj=>some (j.1,j.2.1,())else if(n.Kind==8)=true then(c.zlg [123] [125] a l (zy n)).bind λk=>some (k.1,k.2.1,())else if(n.Kind==10)=true then(c.ziE (zy n) a l).bind λm=>some (m.1,m.2.1,())else(c.zkO (zy n) a l).bind λo=>some (o.1,o.2.1,())
def zv0(h:zV)(a:Str)(f:Str)(g:Bool)(l:List Str)(x:zf):Option (Bool×(List Str)×zf×Unit):=(zQ [a] false l).bind λc=>(h.zm7 c.1 c.2.1 (zy x)).bind λb=>(zQ [f] b.1 b.2.1).bind λd=>some (g,d.2.1,(zy b.2.2.1),())
def zzp(d:zV)(c:Bool)(l:List Str)(x:zf):Option (Bool×(List Str)×zf×Unit):=(d.zjk x.L c l).bind λa=>some (a.1,a.2.1,(zy x),())
def zrh(k:zV)(b:List zf)(c:Int)(d:Int)(e:Bool)(f:List Str)(a:zf):zEg:=if(a.Kind==9)=true then(zxQ a.Text).bind λl=>(zQ [l.1,[58]] e f).bind λg=>(zas a.L 0).bind λm=>(k.za3 (zy m) 1 g.1 g.2.1).bind λh=>let n:=(IntKind.wrap .i64 (d+1));some (.inl (b,c,n,h.1,h.2.1,()))else(k.za3 (zy a) 1 e f).bind λi=>let o:=(IntKind.wrap .i64 (d+1));some (.inl (b,c,o,i.1,i.2.1,()))
def zBI(i:zV):(List zf)×Int×Int×Bool×(List Str)×Unit->zEg| (b,c,a,d,e,())=>if(decide (a<c))=true then(zas b a).bind λf=>if(decide (a>0))=true then(zQ [[44]] d e).bind λg=>zrh i b c a g.1 g.2.1 (zy f)else zrh i b c a d e (zy f)else some (.inr (d,e,()))
def zCG(d:zV)(l:List zf)(b:Bool)(c:List Str):Option (Bool×(List Str)×Unit):=Lp.loop (zBI d) (l,((l.length:Nat):Int),0,b,c,())
def zwe(h:zV)(a:Str)(f:Str)(g:Bool)(l:List Str)(x:zf):Option (Bool×(List Str)×zf×Unit):=(zQ [a] false l).bind λc=>(h.znl c.1 c.2.1 (zy x)).bind λb=>(zQ [f] b.1 b.2.1).bind λd=>some (g,d.2.1,(zy b.2.2.1),())
def zz2(d:zV)(c:Bool)(l:List Str)(x:zf):Option (Bool×(List Str)×zf×Unit):=(d.zjk x.L c l).bind λa=>some (a.1,a.2.1,(zy x),())
def zn0(p:zV):(List Str)×Int×Int×Bool×(List Str)×zf×Unit->Option (((List Str)×Int×Int×Bool×(List Str)×zf×Unit)⊕(Bool×(List Str)×Unit))| (b,c,a,d,e,f,())=>if(decide (a<c))=true then(zas b a).bind λg=>if(decide (a>0))=true then(zQ [[44]] d e).bind λh=>(zQ [g] h.1 h.2.1).bind λi=>let m:=(IntKind.wrap .i64 (a+1));some (.inl (b,c,m,i.1,i.2.1,(zy f),()))else(zQ [g] d e).bind λj=>let n:=(IntKind.wrap .i64 (a+1));some (.inl (b,c,n,j.1,j.2.1,(zy f),()))else(zQ [[41]] d e).bind λk=>(p.zlh [123] [125] k.1 k.2.1 (zy f)).bind λl=>some (.inr (l.1,l.2.1,()))
def zw9(f:zV)(n:zf)(i:Bool)(l:List Str):Option (Bool×(List Str)×Unit):=(zQ [[102,117,110,99,116,105,111,110]] i l).bind λa=>if(!(n.Name==[]))=true then(zQ [n.Name] a.1 a.2.1).bind λb=>(zQ [[40]] b.1 b.2.1).bind λc=>let g:=((n.Names.length:Nat):Int);Lp.loop (zn0 f) (n.Names,g,0,c.1,c.2.1,(zy n),())else(zQ [[40]] a.1 a.2.1).bind λd=>let h:=((n.Names.length:Nat):Int);Lp.loop (zn0 f) (n.Names,h,0,d.1,d.2.1,(zy n),())
def zv8(h:zV)(a:Str)(f:Str)(g:Bool)(l:List Str)(x:zf):Option (Bool×(List Str)×zf×Unit):=(zQ [a] false l).bind λc=>(h.zkg c.1 c.2.1 (zy x)).bind λb=>(zQ [f] b.1 b.2.1).bind λd=>some (g,d.2.1,(zy b.2.2.1),())
def zvy(d:zV)(c:Bool)(l:List Str)(x:zf):Option (Bool×(List Str)×zf×Unit):=(d.zg1 x.L c l).bind λa=>some (a.1,a.2.1,(zy x),())
def zuO(c:zV)(k:Int)(d:Bool)(e:List Str)(l:zf)(a:List zf):Option (Bool×(List Str)×Unit):=if(l.Kind==14)=true then(zQ [[110,101,119]] d e).bind λf=>(zas a 0).bind λm=>(c.za3 (zy m) 12 f.1 f.2.1).bind λg=>(c.zij [40] [41] g.1 g.2.1 a).bind λh=>some (h.1,h.2.1,())else(zas a 0).bind λn=>(c.za3 (zy n) k d e).bind λi=>(c.zij [40] [41] i.1 i.2.1 a).bind λj=>some (j.1,j.2.1,())
def zm5(f:zV)(a:Bool)(b:List Str)(c:zf)(d:List zf):Option (Bool×(List Str)×Unit):=zuO f 11 a b (zy c) d
def zv5(b:zV)(o:zf)(c:Bool)(l:List Str):Option (Bool×(List Str)×Unit):=if(o.Kind==11)=true then(zas o.L 0).bind λD=>(b.za3 (zy D) 11 c l).bind λg=>(zQ [[46],o.Name] g.1 g.2.1).bind λh=>some (h.1,h.2.1,())else if(o.Kind==12)=true then(zas o.L 0).bind λE=>(b.za3 (zy E) 11 c l).bind λi=>(b.zk7 [91] [93] i.1 i.2.1 o.L).bind λj=>some (j.1,j.2.1,())else if(o.Kind==13)=true then zm5 b c l (zy o) o.L else if(o.Kind==14)=true then zm5 b c l (zy o) o.L else if(o.Kind==15)=true then(zQ [o.Name] c l).bind λk=>(zas o.L 0).bind λH=>(b.za3 (zy H) 9 k.1 k.2.1).bind λm=>some (m.1,m.2.1,())else if(o.Kind==16)=true then if(o.Num==1)=true then(zQ [o.Name] c l).bind λn=>(zas o.L 0).bind λI=>(b.za3 (zy I) 11 n.1 n.2.1).bind λd=>if(o.Num==0)=true then(zQ [o.Name] d.1 d.2.1).bind λp=>some (p.1,p.2.1,())else some (d.1,d.2.1,())else(zas o.L 0).bind λJ=>(b.za3 (zy J) 11 c l).bind λe=>if(o.Num==0)=true then(zQ [o.Name] e.1 e.2.1).bind λq=>some (q.1,q.2.1,())else some (e.1,e.2.1,())else if(o.Kind==19)=true then(zas o.L 0).bind λK=>(b.za3 (zy K) 3 c l).bind λr=>(b.zkU [63] [58] r.1 r.2.1 o.L).bind λf=>(zas f.2.2.1 2).bind λM=>(b.za3 (zy M) 1 f.1 f.2.1).bind λs=>some (s.1,s.2.1,())else if(o.Kind==20)=true then(zas o.L 0).bind λN=>(b.za3 (zy N) 11 c l).bind λt=>(zQ [o.Name] t.1 t.2.1).bind λu=>(zas o.L 1).bind λO=>(b.za3 (zy O) 1 u.1 u.2.1).bind λv=>some (v.1,v.2.1,())else if(o.Kind==21)=true then(zas o.L 0).bind λP=>(b.za3 (zy P) 0 c l).bind λx=>(zQ [[44]] x.1 x.2.1).bind λy=>(zas o.L 1).bind λQ=>(b.za3 (zy Q) 1 y.1 y.2.1).bind λz=>some (z.1,z.2.1,())else(zas o.L 0).bind λR=>(zlV (zy o)).bind λS=>(b.za3 (zy R) S.1 c l).bind λA=>(zQ [o.Name] A.1 A.2.1).bind λB=>(zas o.L 1).bind λU=>(zlV (zy o)).bind λV=>let W:=(IntKind.wrap .i64 (V.1+1));(b.za3 (zy U) W B.1 B.2.1).bind λC=>some (C.1,C.2.1,())
def zvM(i:zV)(a:Str)(f:Str)(g:Bool)(l:List Str)(h:List zf):Option (Bool×(List Str)×(List zf)×Unit):=(zQ [a] false l).bind λc=>(i.zjX c.1 c.2.1 h).bind λb=>(zQ [f] b.1 b.2.1).bind λd=>some (g,d.2.1,b.2.2.1,())
def zt2(f:zV)(e:Bool)(l:List Str)(a:List zf):Option (Bool×(List Str)×(List zf)×Unit):=(zas a 1).bind λc=>(f.za3 (zy c) 0 e l).bind λb=>some (b.1,b.2.1,a,())
def zvV(i:zV)(a:Str)(f:Str)(g:Bool)(l:List Str)(h:List zf):Option (Bool×(List Str)×(List zf)×Unit):=(zQ [a] false l).bind λc=>(i.zjQ c.1 c.2.1 h).bind λb=>(zQ [f] b.1 b.2.1).bind λd=>some (g,d.2.1,b.2.2.1,())
def zue(f:zV)(e:Bool)(l:List Str)(a:List zf):Option (Bool×(List Str)×(List zf)×Unit):=(zbv a 1 ((a.length:Nat):Int)).bind λc=>(f.zjk c e l).bind λb=>some (b.1,b.2.1,a,())
def zwb(i:zV)(a:Str)(f:Str)(g:Bool)(l:List Str)(h:List zf):Option (Bool×(List Str)×(List zf)×Unit):=(zQ [a] false l).bind λc=>(i.zjR c.1 c.2.1 h).bind λb=>(zQ [f] b.1 b.2.1).bind λd=>some (g,d.2.1,b.2.2.1,())
def zup(f:zV)(e:Bool)(l:List Str)(a:List zf):Option (Bool×(List Str)×(List zf)×Unit):=(zas a 1).bind λc=>(f.za3 (zy c) 1 e l).bind λb=>some (b.1,b.2.1,a,())
def zCW(g:zV)(e:Str)(n:zf)(f:Bool)(l:List Str):Option (Bool×(List Str)×Unit):=(zQ [e,[40]] f l).bind λa=>(g.za3 (zy n) 0 a.1 a.2.1).bind λb=>(zQ [[41]] b.1 b.2.1).bind λc=>some (c.1,c.2.1,())
def zBm(l:zV):(List zf)×(List zf)×Int×Int×Bool×(List Str)×Unit->Option (((List zf)×(List zf)×Int×Int×Bool×(List Str)×Unit)⊕(Bool×(List Str)×Unit))| (a,c,d,b,e,f,())=>if(decide (b<d))=true then(zas c b).bind λm=>(zQ [[59]] e f).bind λg=>(l.zfr (zy m) 0 g.1 g.2.1).bind λh=>let n:=(IntKind.wrap .i64 (b+1));some (.inl (a,c,d,n,h.1,h.2.1,()))else(zQ [[41]] e f).bind λi=>let o:=(IntKind.wrap .i64 (((a.length:Nat):Int) -1));(zas a o).bind λp=>(l.zcL (zy p) i.1 i.2.1).bind λj=>some (.inr (j.1,j.2.1,()))
def zCH(b:zV)(n:zf)(c:Bool)(l:List Str):Option (Bool×(List Str)×Unit):=if(n.Kind==27)=true then(zas n.L 0).bind λr=>(b.zhz [119,104,105,108,101] (zy r) c l).bind λd=>let s:=(IntKind.wrap .i64 (((n.L.length:Nat):Int) -1));(zas n.L s).bind λt=>(b.zcL (zy t) d.1 d.2.1).bind λe=>some (e.1,e.2.1,())else if(n.Kind==28)=true then(zQ [[100,111]] c l).bind λf=>(zas n.L 0).bind λu=>(b.zcL (zy u) f.1 f.2.1).bind λg=>(zas n.L 1).bind λv=>(b.zhz [119,104,105,108,101] (zy v) g.1 g.2.1).bind λh=>(zQ [[59]] h.1 h.2.1).bind λi=>some (i.1,i.2.1,())else(zQ [[102,111,114],[40]] c l).bind λj=>if(n.Kind==30)=true then(zas n.L 0).bind λx=>(b.zfr (zy x) 11 true j.2.1).bind λy=>(zQ [[105,110]] false y.2.1).bind λk=>(zas n.L 1).bind λz=>(b.za3 (zy z) 0 k.1 k.2.1).bind λm=>(zQ [[41]] m.1 m.2.1).bind λo=>let A:=(IntKind.wrap .i64 (((n.L.length:Nat):Int) -1));(zas n.L A).bind λB=>(b.zcL (zy B) o.1 o.2.1).bind λp=>some (p.1,p.2.1,())else(zas n.L 0).bind λC=>(b.zfr (zy C) 0 true j.2.1).bind λD=>(zbv n.L 1 3).bind λq=>Lp.loop (zBm b) (n.L,q,((q.length:Nat):Int),0,false,D.2.1,())
def zrt(k:zV):(List zf)×Int×Int×Bool×(List Str)×Unit->zEg| (b,c,a,d,e,())=>if(decide (a<c))=true then(zas b a).bind λh=>(k.za3 (zy h) 0 d e).bind λf=>let i:=(IntKind.wrap .i64 (a+1));some (.inl (b,c,i,f.1,f.2.1,()))else(zQ [[59]] d e).bind λg=>some (.inr (g.1,g.2.1,()))
def zhp(f:zV)(b:Bool)(c:List Str)(a:zf):Option (Bool×(List Str)×Unit):=if(!(a.Name==[]))=true then(zQ [a.Name] b c).bind λd=>let g:=((a.L.length:Nat):Int);Lp.loop (zrt f) (a.L,g,0,d.1,d.2.1,())else let h:=((a.L.length:Nat):Int);Lp.loop (zrt f) (a.L,h,0,b,c,())
def zCP(c:zV)(n:zf)(b:Bool)(l:List Str):Option (Bool×(List Str)×Unit):=if(n.Kind==31)=true then(zQ [[98,114,101,97,107]] b l).bind λd=>zhp c d.1 d.2.1 (zy n)else if(n.Kind==32)=true then(zQ [[99,111,110,116,105,110,117,101]] b l).bind λe=>zhp c e.1 e.2.1 (zy n)else if(n.Kind==33)=true then(zQ [[114,101,116,117,114,110]] b l).bind λf=>zhp c f.1 f.2.1 (zy n)else if(n.Kind==34)=true then(zQ [[116,104,114,111,119]] b l).bind λg=>zhp c g.1 g.2.1 (zy n)else zhp c b l (zy n)
def zM:Nat->zV
 |0=>⟨λ_ _ _=>none,λ_ _ _=>none,λ_ _ _ _=>none,λ_ _ _ _=>none,λ_ _ _ _ _=>none,λ_ _ _=>none,λ_ _ _=>none,λ_ _ _ _ _=>none,λ_ _ _=>none,λ_ _ _=>none,λ_ _ _ _ _=>none,λ_ _ _=>none,λ_ _ _=>none,λ_ _ _ _ _=>none,λ_ _ _=>none,λ_ _ _=>none,λ_ _ _ _ _=>none,λ_ _ _=>none,λ_ _ _ _ _=>none,λ_ _ _=>none,λ_ _ _ _ _=>none,λ_ _ _=>none,λ_ _ _ _=>none,λ_ _ _=>none,λ_ _ _=>none⟩
 |n+1=>⟨zBb (zM n),zC3 (zM n),zBf (zM n),zEp (zM n),zAr (zM n),zCk (zM n),zC5 (zM n),zv0 (zM n),zzp (zM n),zCG (zM n),zwe (zM n),zz2 (zM n),zw9 (zM n),zv8 (zM n),zvy (zM n),zv5 (zM n),zvM (zM n),zt2 (zM n),zvV (zM n),zue (zM n),zwb (zM n),zup (zM n),zCW (zM n),zCH (zM n),zCP (zM n)⟩
def zg1:(List zf)->Bool->(List Str)->Option (Bool×(List Str)×Unit):=(zM Lp.big).zg1
def zcL:zf->Bool->(List Str)->Option (Bool×(List Str)×Unit):=(zM Lp.big).zcL
def zfr:zf->Int->Bool->(List Str)->Option (Bool×(List Str)×Unit):=(zM Lp.big).zfr
def za3:zf->Int->Bool->(List Str)->Option (Bool×(List Str)×Unit):=(zM Lp.big).za3
def zno:Str->Str->Bool->(List Str)->zf->Option (Bool×(List Str)×zf×Unit):=(zM Lp.big).zno
def zoM:Bool->(List Str)->zf->Option (Bool×(List Str)×zf×Unit):=(zM Lp.big).zoM
def zlW:zf->Bool->(List Str)->Option (Bool×(List Str)×Unit):=(zM Lp.big).zlW
def zkN:Str->Str->Bool->(List Str)->zf->Option (Bool×(List Str)×zf×Unit):=(zM Lp.big).zkN
def zm7:Bool->(List Str)->zf->Option (Bool×(List Str)×zf×Unit):=(zM Lp.big).zm7
def zjk:(List zf)->Bool->(List Str)->Option (Bool×(List Str)×Unit):=(zM Lp.big).zjk
def zlg:Str->Str->Bool->(List Str)->zf->Option (Bool×(List Str)×zf×Unit):=(zM Lp.big).zlg
def znl:Bool->(List Str)->zf->Option (Bool×(List Str)×zf×Unit):=(zM Lp.big).znl
def ziE:zf->Bool->(List Str)->Option (Bool×(List Str)×Unit):=(zM Lp.big).ziE
def zlh:Str->Str->Bool->(List Str)->zf->Option (Bool×(List Str)×zf×Unit):=(zM Lp.big).zlh
def zkg:Bool->(List Str)->zf->Option (Bool×(List Str)×zf×Unit):=(zM Lp.big).zkg
def zkO:zf->Bool->(List Str)->Option (Bool×(List Str)×Unit):=(zM Lp.big).zkO
def zk7:Str->Str->Bool->(List Str)->(List zf)->Option (Bool×(List Str)×(List zf)×Unit):=(zM Lp.big).zk7
def zjX:Bool->(List Str)->(List zf)->Option (Bool×(List Str)×(List zf)×Unit):=(zM Lp.big).zjX
def zij:Str->Str->Bool->(List Str)->(List zf)->Option (Bool×(List Str)×(List zf)×Unit):=(zM Lp.big).zij
def zjQ:Bool->(List Str)->(List zf)->Option (Bool×(List Str)×(List zf)×Unit):=(zM Lp.big).zjQ
def zkU:Str->Str->Bool->(List Str)->(List zf)->Option (Bool×(List Str)×(List zf)×Unit):=(zM Lp.big).zkU
def zjR:Bool->(List Str)->(List zf)->Option (Bool×(List Str)×(List zf)×Unit):=(zM Lp.big).zjR
def zhz:Str->zf->Bool->(List Str)->Option (Bool×(List Str)×Unit):=(zM Lp.big).zhz
def zhG:zf->Bool->(List Str)->Option (Bool×(List Str)×Unit):=(zM Lp.big).zhG
def zoK:zf->Bool->(List Str)->Option (Bool×(List Str)×Unit):=(zM Lp.big).zoK
structure zbW where
 zcU:zf->zf->Option (Bool×Unit)
def zqe:Shape:=⟨[(0,.st 25),(1,.st 25)],[]⟩
def zqP(b:zbW):=callee Y [] zqe zBR (u2 b.zcU)
structure zmV (g_:zbW):Prop where
 zcU:COk hY Tryz.prog zaR 12 (zqP g_)
def zcY(j:zbW):Int×Int×zf×zf×Unit->zST| (b,a,c,d,())=>if(decide (a<b))=true then(zas c.L a).bind λe=>(zas d.L a).bind λf=>(j.zcU (zy e) (zy f)).bind λg=>if(!g.1)=true then some (.inr (false,()))else let h:=(IntKind.wrap .i64 (a+1));some (.inl (b,h,(zy c),(zy d),()))else some (.inr (true,()))
def zdv(j:zbW):Int×Int×zf×zf×Unit->zST| (d,a,b,c,())=>if(decide (a<d))=true then(zas b.Names a).bind λe=>(zas c.Names a).bind λf=>if(!(e==f))=true then some (.inr (false,()))else let g:=(IntKind.wrap .i64 (a+1));some (.inl (d,g,(zy b),(zy c),()))else let h:=((b.L.length:Nat):Int);zfT .inr (Lp.loop (zcY j) (h,0,(zy b),(zy c),()))
def ziM(i:zbW)(a:zf)(b:zf):Option (Bool×Unit):=let c:=((a.Kind !=b.Kind)||(!(a.Name==b.Name)));let d:=((c||(a.Num !=b.Num))||(!(a.Text==b.Text)));let e:=(d||(((a.Names.length:Nat):Int) !=((b.Names.length:Nat):Int)));let f:=(e||(((a.L.length:Nat):Int) !=((b.L.length:Nat):Int)));if f=true then some (false,())else let g:=((a.Names.length:Nat):Int);Lp.loop (zdv i) (g,0,(zy a),(zy b),())
def zAG(b:zbW):=callee Y [] zqe zBR (u2 (ziM b))
def zAa(b:zbW):zau Y (zar Y zBR):=(.loop [[7,5,2,1,2,2],[8,5,2,1,2,2],[6,2,1,2,2],[2,2,2]] ⟨[(2,.ptr 0 0),(3,.ptr 1 0),(53,.int .i64),(54,.int .i64)],[.whole 25 25,.whole 25 25]⟩ (zdv b) .nil (.loop [[7,5,2,1,2,2,2],[8,5,2,1,2,2,2],[6,2,1,2,2,2],[2,2,2,2]] ⟨[(2,.ptr 0 0),(3,.ptr 1 0),(71,.int .i64),(72,.int .i64)],[.whole 25 25,.whole 25 25]⟩ (zcY b) .nil .nil))
theorem zvF(b:zbW)(d:zmV b):K8 12 (zAG b):=f8 (zAa b) Tryz.func12 (.cons d.zcU .nil) ⟨λz=>by kernel_rfl,trivial,⟨λz=>by kernel_rfl,trivial,trivial⟩⟩
def zbX:Nat->zbW
 |0=>⟨λ_ _=>none⟩
 |n+1=>⟨ziM (zbX n)⟩
theorem zl8: ∀n,zmV (zbX n)
 |0=>⟨COk.none ⟨⟨_,Tryz.func12,by kernel_rfl,rfl⟩⟩⟩
 |n+1=>⟨zvF _ (zl8 n)⟩
def zcU:zf->zf->Option (Bool×Unit):=(zbX Lp.big).zcU
theorem zyp:K8 12 (zqP (zbX Lp.big)):=(zl8 Lp.big).zcU
def zcs(s:Str)(a:Int)(b:Str):Option (Bool×Unit):=let c:=(IntKind.wrap .i64 (a+((b.length:Nat):Int)));let d:=(decide (c<=((s.length:Nat):Int)));(if d=true then let e:=(IntKind.wrap .i64 (a+((b.length:Nat):Int)));(zbv s a e).bind λf=>some (f==b)else some false).bind λg=>some (g,())
def zwK:Shape:=⟨[(0,.str),(1,.int .i64),(2,.str)],[]⟩
def zwV:=callee Y [] zwK zBR (u3 zcs)
theorem zjS:K8 44 (zwV):=f8 zFV Tryz.func44 .nil trivial
def zc6:Str×Int×Bool×Int×Bool×Unit->Option ((Str×Int×Bool×Int×Bool×Unit)⊕((Str×Int×Bool×Unit)⊕(Int×Bool×Bool×Unit)))| (a,c,d,b,e,())=>let f:=(decide (b< ((a.length:Nat):Int)));if f=true then(zcs a b [42,47]).bind λg=>if(!g.1)=true then(if e=true then some true else(zbc a b).bind λh=>some (h==10)).bind λi=>(if i=true then some true else(zbc a b).bind λj=>some (j==13)).bind λk=>let l:=(IntKind.wrap .i64 (b+1));some (.inl (a,c,d,l,k,()))else let m:=(decide (b>=((a.length:Nat):Int)));if m=true then some (.inr (.inr (c,false,false,())))else let n:=(IntKind.wrap .i64 (b+2));some (.inr (.inl (a,n,(d||e),())))else let o:=(decide (b>=((a.length:Nat):Int)));if o=true then some (.inr (.inr (c,false,false,())))else let p:=(IntKind.wrap .i64 (b+2));some (.inr (.inl (a,p,(d||e),())))
def zdE:Str×Int×Bool×Unit->Option ((Str×Int×Bool×Unit)⊕((Str×Int×Bool×Unit)⊕(Int×Bool×Bool×Unit)))| (a,b,c,())=>let d:=(decide (b< ((a.length:Nat):Int)));(if d=true then(zbc a b).bind λe=>some (e !=10)else some false).bind λf=>(if f=true then(zbc a b).bind λg=>some (g !=13)else some false).bind λh=>if h=true then let i:=(IntKind.wrap .i64 (b+1));some (.inl (a,i,c,()))else some (.inr (.inl (a,b,c,())))
def zbz:Str×Int×Bool×Unit->Option ((Str×Int×Bool×Unit)⊕(Int×Bool×Bool×Unit))| (b,a,d,())=>let e:=(decide (a< ((b.length:Nat):Int)));if e=true then(zbc b a).bind λc=>let f:=((c==10)||(c==13));if f=true then let g:=(IntKind.wrap .i64 (a+1));some (.inl (b,g,true,()))else let h:=(((c==9)||(c==11))||(c==12));if(h||(c==32))=true then let i:=(IntKind.wrap .i64 (a+1));some (.inl (b,i,d,()))else(zcs b a [47,47]).bind λj=>if j.1=true then Lp.loop zdE (b,a,d,())else(zcs b a [47,42]).bind λk=>if k.1=true then let l:=(IntKind.wrap .i64 (a+2));Lp.loop zc6 (b,a,d,l,false,())else some (.inr (a,d,true,()))else some (.inr (a,d,true,()))
def ziI(s:Str)(a:Int):Option (Int×Bool×Bool×Unit):=Lp.loop zbz (s,a,false,())
def zxM:Shape:=⟨[(0,.str),(1,.int .i64)],[]⟩
def zof:List zan:=[⟨false,.tup [.int .i64,.bool,.bool],[]⟩]
def zwR:=callee Y [] zxM zof (u2 ziI)
def zxF:zau Y (zar Y zof):=(.loop [[7,5,1,2,2],[8,5,1,2,2],[6,1,2,2],[2,2,2]] ⟨[(0,.str),(1,.int .i64),(7,.bool)],[]⟩ (zbz) (.loop [[7,5,3,2,4,2,4,2,5,2,5,2,7,5,1,2,2],[8,5,3,2,4,2,4,2,5,2,5,2,7,5,1,2,2],[6,3,2,4,2,4,2,5,2,5,2,7,5,1,2,2],[6,2,5,2,7,5,1,2,2],[6,2,7,5,1,2,2],[8,5,1,2,2],[6,1,2,2],[2,2,2]] ⟨[(0,.str),(1,.int .i64),(7,.bool)],[]⟩ (zdE) .nil (.loop [[7,5,1,2,2,3,2,4,2,4,2,4,2,5,2,5,2,7,5,1,2,2],[8,5,1,2,2,3,2,4,2,4,2,4,2,5,2,5,2,7,5,1,2,2],[6,1,2,2,3,2,4,2,4,2,4,2,5,2,5,2,7,5,1,2,2],[2,2,2,3,2,4,2,4,2,4,2,5,2,5,2,7,5,1,2,2],[6,2,5,2,7,5,1,2,2],[6,2,7,5,1,2,2],[8,5,1,2,2],[6,1,2,2],[2,2,2]] ⟨[(0,.str),(1,.int .i64),(7,.bool),(9,.int .i64),(10,.bool)],[]⟩ (zc6) .nil .nil)) .nil)
theorem zvK:K8 27 (zwR):=f8 zxF Tryz.func27 (.cons zjS .nil) ⟨λz=>by kernel_rfl,⟨λz=>by kernel_rfl,trivial,⟨λz=>by kernel_rfl,trivial,trivial⟩⟩,trivial⟩
def zfe(c:Int):Option (Bool×Unit):=let a:=((decide (c>=97))&&(decide (c<=122)));let b:=(a||((decide (c>=65))&&(decide (c<=90))));let d:=((b||(c==95))||(c==36));some (d,())
def zxE:=callee Y [] zFT zBR (λz=>zfe z.1)
theorem znT:K8 45 (zxE):=f8 zFV Tryz.func45 .nil trivial
def zeF(c:Int):Option (Bool×Unit):=let a:=((decide (c>=48))&&(decide (c<=57)));some (a,())
def zzc:=callee Y [] zFT zBR (λz=>zeF z.1)
theorem zkh:K8 46 (zzc):=f8 zFV Tryz.func46 .nil trivial
def zdU(c:Int):Option (Int×Unit):=(zeF c).bind λa=>if a.1=true then let b:=(IntKind.wrap .i64 (IntKind.wrap .u8 (c -48)));some (b,())else let d:=((decide (c>=97))&&(decide (c<=102)));if d=true then let e:=(IntKind.wrap .i64 (IntKind.wrap .u8 (c -97)));let f:=(IntKind.wrap .i64 (e+10));some (f,())else let g:=((decide (c>=65))&&(decide (c<=70)));if g=true then let h:=(IntKind.wrap .i64 (IntKind.wrap .u8 (c -65)));let i:=(IntKind.wrap .i64 (h+10));some (i,())else some ((-1),())
def zyt:=callee Y [] zFT zB2 (λz=>zdU z.1)
def zzk:zau Y (zar Y zB2):= .nil
theorem zxS:K8 103 (zyt):=f8 zzk Tryz.func103 (.cons zkh .nil) trivial
def zbA(b:Str)(c:Int)(d:Int)(a:Int):Option (Int×Int×Unit):=let e:=(decide (a< ((b.length:Nat):Int)));if e=true then(zbc b a).bind λf=>(zfe f).bind λg=>if g.1=true then some (0,0,())else(zbc b a).bind λh=>(zeF h).bind λi=>(if i.1=true then some true else(zbc b a).bind λj=>some (j==46)).bind λk=>if k=true then some (0,0,())else let l:=(IntKind.wrap .i64 (a -c));some (d,l,())else let m:=(IntKind.wrap .i64 (a -c));some (d,m,())
def zaz:Str×Int×Int×Int×Int×Unit->Option ((Str×Int×Int×Int×Int×Unit)⊕(Int×Int×Unit))| (a,c,d,e,b,())=>let h:=(decide (b< ((a.length:Nat):Int)));if h=true then(zbc a b).bind λi=>(zdU i).bind λj=>if(decide (j.1>=0))=true then(zbc a b).bind λk=>(zdU k).bind λl=>if(decide (l.1<d))=true then let m:=(IntKind.wrap .i64 (e*d));(zbc a b).bind λn=>(zdU n).bind λo=>let f:=(IntKind.wrap .i64 (m+o.1));let g:=(IntKind.wrap .i64 (b+1));let p:=(decide (f>9007199254740991));if p=true then some (.inr (0,0,()))else(if(d==10)=true then(zbc a c).bind λq=>some (q==48)else some false).bind λr=>if r=true then zfT .inr (zbA a c f g)else some (.inl (a,c,d,f,g,()))else zfT .inr (zbA a c e b)else zfT .inr (zbA a c e b)else zfT .inr (zbA a c e b)
def zgP(s:Str)(a:Int):Option (Int×Int×Unit):=(zcs s a [48,120]).bind λb=>if b.1=true then let c:=(decide ((IntKind.wrap .i64 (a+2))< ((s.length:Nat):Int)));if c=true then(zbc s (IntKind.wrap .i64 (a+2))).bind λd=>(zdU d).bind λe=>if(decide (e.1>=0))=true then Lp.loop zaz (s,a,16,0,(IntKind.wrap .i64 (a+2)),())else Lp.loop zaz (s,a,10,0,a,())else Lp.loop zaz (s,a,10,0,a,())else(zcs s a [48,88]).bind λf=>let g:=(f.1&&(decide ((IntKind.wrap .i64 (a+2))< ((s.length:Nat):Int))));if g=true then(zbc s (IntKind.wrap .i64 (a+2))).bind λh=>(zdU h).bind λi=>if(decide (i.1>=0))=true then Lp.loop zaz (s,a,16,0,(IntKind.wrap .i64 (a+2)),())else Lp.loop zaz (s,a,10,0,a,())else Lp.loop zaz (s,a,10,0,a,())
def zor:List zan:=[⟨false,.tup [.int .i64,.int .i64],[]⟩]
def zxG:=callee Y [] zxM zor (u2 zgP)
def zw4:zau Y (zar Y zor):=(.loop [[7,5,1,2,2,2,2,2,2],[8,5,1,2,2,2,2,2,2],[6,1,2,2,2,2,2,2],[2,2,2,2,2,2,2]] ⟨[(0,.str),(1,.int .i64),(6,.int .i64),(8,.int .i64),(9,.int .i64)],[]⟩ (zaz) .nil (.join [[1,1,2,2,2,2,2,2,2],[2,1,2,2,2,2,2,2,2],[2,2,2,2,2,2,2,2]] ⟨[(0,.str),(1,.int .i64),(8,.int .i64),(9,.int .i64)],[]⟩ (u4 zbA) .nil))
theorem zv2:K8 48 (zxG):=f8 zw4 Tryz.func48 (.cons zjS (.cons zxS (.cons znT (.cons zkh .nil)))) ⟨λz=>by kernel_rfl,trivial,⟨λz=>by kernel_rfl,⟨⟩⟩⟩
def ze1:(List Int)×Int×Int×(List UInt8)×Unit->Option (((List Int)×Int×Int×(List UInt8)×Unit)⊕(Str×Unit))| (c,d,a,b,())=>if(decide (a<d))=true then(zas c a).bind λe=>let h:=(IntKind.wrap .i64 (Int.tdiv e 256));let i:=(IntKind.wrap .u8 (Int.tmod e 256));(toB (IntKind.wrap .u8 h)).bind λf=>(toB i).bind λg=>(room (b.length+([f,g]:List UInt8).length)).bind λ_=>let j:=b++([f,g]:List UInt8);let k:=(IntKind.wrap .i64 (a+1));some (.inl (c,d,k,j,()))else some (.inr (b,()))
def zhU(l:List Int):Option (Str×Unit):=Lp.loop ze1 (l,((l.length:Nat):Int),0,[],())
def zz7:Shape:=⟨[(0,.sl 3)],[]⟩
def zAq:=callee Y [] zz7 zCZ (λz=>zhU z.1)
def zzm:zau Y (zar Y zCZ):=(.loop [[7,5,2,1,2,2],[8,5,2,1,2,2],[6,2,1,2,2],[2,2,2]] ⟨[(3,.own 0),(6,.sl 3),(7,.int .i64),(8,.int .i64)],[.arr 5]⟩ (ze1) .nil .nil)
theorem zpg:K8 104 (zAq):=f8 zzm Tryz.func104 .nil ⟨λz=>by kernel_rfl,trivial,trivial⟩
def zhq(c:Int):Option (Int×Unit):=let a:=((decide (c>=48))&&(decide (c<=57)));if a=true then let b:=(IntKind.wrap .i64 (IntKind.wrap .u8 (c -48)));some (b,())else let d:=((decide (c>=97))&&(decide (c<=102)));if d=true then let e:=(IntKind.wrap .i64 (IntKind.wrap .u8 (c -97)));let f:=(IntKind.wrap .i64 (e+10));some (f,())else let g:=((decide (c>=65))&&(decide (c<=70)));if g=true then let h:=(IntKind.wrap .i64 (IntKind.wrap .u8 (c -65)));let i:=(IntKind.wrap .i64 (h+10));some (i,())else some ((-1),())
def zyV:=callee Y [] zFT zB2 (λz=>zhq z.1)
theorem zwJ:K8 172 (zyV):=f8 zzk Tryz.func172 .nil trivial
def zc7:Str×Int×Int×Int×Int×Unit->Option ((Str×Int×Int×Int×Int×Unit)⊕(Int×Unit))| (b,c,d,e,a,())=>if(decide (a<e))=true then let f:=(IntKind.wrap .i64 (c+a));let g:=(decide (f>=((b.length:Nat):Int)));if g=true then some (.inr ((-1),()))else let h:=(IntKind.wrap .i64 (c+a));(zbc b h).bind λi=>(zhq i).bind λj=>if(decide (j.1<0))=true then some (.inr ((-1),()))else let k:=(IntKind.wrap .i64 (16*d));let l:=(IntKind.wrap .i64 (c+a));(zbc b l).bind λm=>(zhq m).bind λn=>let o:=(IntKind.wrap .i64 (k+n.1));let p:=(IntKind.wrap .i64 (a+1));some (.inl (b,c,o,e,p,()))else some (.inr (d,()))
def zef(s:Str)(a:Int)(b:Int):Option (Int×Unit):=Lp.loop zc7 (s,a,0,b,0,())
def zxP:=callee Y [] zu0 zB2 (u3 zef)
def zwI:zau Y (zar Y zB2):=(.loop [[7,5,2,1,2,2],[8,5,2,1,2,2],[6,2,1,2,2],[2,2,2]] ⟨[(0,.str),(1,.int .i64),(7,.int .i64),(9,.int .i64),(10,.int .i64)],[]⟩ (zc7) .nil .nil)
theorem zvL:K8 147 (zxP):=f8 zwI Tryz.func147 (.cons zwJ .nil) ⟨λz=>by kernel_rfl,trivial,trivial⟩
def ziF(c:Int):Option (Int×Unit):=if(c==110)=true then some (10,())else if(c==116)=true then some (9,())else if(c==114)=true then some (13,())else if(c==98)=true then some (8,())else if(c==102)=true then some (12,())else if(c==118)=true then some (11,())else let a:=((decide (c>127))||(c==13));let b:=((a||(c==120))||(c==117));let d:=(b||((decide (c>=48))&&(decide (c<=57))));if(d||(c==10))=true then some ((-1),())else some ((IntKind.wrap .i64 c),())
def zwZ:=callee Y [] zFT zB2 (λz=>ziF z.1)
theorem zv9:K8 148 (zwZ):=f8 zzk Tryz.func148 .nil trivial
def zii(s:Str)(a:Int):Option ((List Int)×Int×Unit):=let f:=(decide (a>=((s.length:Nat):Int)));if f=true then some ([],(-1),())else(zbc s a).bind λb=>if(b==10)=true then some ([],1,())else if(b==48)=true then let g:=(decide ((IntKind.wrap .i64 (a+1))< ((s.length:Nat):Int)));(if g=true then(zbc s (IntKind.wrap .i64 (a+1))).bind λh=>some (decide (h>=48))else some false).bind λi=>(if i=true then(zbc s (IntKind.wrap .i64 (a+1))).bind λj=>some (decide (j<=57))else some false).bind λk=>if k=true then some ([],(-1),())else some (([0]:List Int),1,())else if(b==120)=true then(zef s (IntKind.wrap .i64 (a+1)) 2).bind λc=>if(decide (c.1<0))=true then some ([],(-1),())else some (([c.1]:List Int),3,())else if(b==117)=true then(zef s (IntKind.wrap .i64 (a+1)) 4).bind λd=>if(decide (d.1<0))=true then some ([],(-1),())else some (([d.1]:List Int),5,())else(zbc s a).bind λl=>(ziF l).bind λe=>if(decide (e.1<0))=true then some ([],(-1),())else some (([e.1]:List Int),1,())
def znY:List zan:=[⟨false,.tup [.sl 3,.int .i64],[]⟩]
def zvJ:=callee Y [] zxM znY (u2 zii)
def zwc:zau Y (zar Y znY):= .nil
theorem zvz:K8 105 (zvJ):=f8 zwc Tryz.func105 (.cons zvL (.cons zv9 .nil)) trivial
def zbM:Str×Int×(List Int)×Unit->Option ((Str×Int×(List Int)×Unit)⊕(Str×Int×Int×Unit))| (b,c,d,())=>let f:=(decide (c< ((b.length:Nat):Int)));if f=true then(zbc b c).bind λa=>(zbc b 0).bind λg=>if(a==g)=true then(zhU d).bind λh=>let i:=(IntKind.wrap .i64 (c+1));some (.inr (h.1,i,0,()))else let j:=((a==10)||(a==13));let k:=(j||(decide (a>127)));if k=true then some (.inr ([],0,10,()))else if(a==92)=true then let l:=(IntKind.wrap .i64 (c+1));(zii b l).bind λe=>if(decide (e.2.1<0))=true then some (.inr ([],0,10,()))else(room (d.length+e.1.length)).bind λ_=>let m:=d++e.1;let n:=(IntKind.wrap .i64 (1+e.2.1));let o:=(IntKind.wrap .i64 (c+n));some (.inl (b,o,m,()))else(room (d.length+([(IntKind.wrap .i64 a)]:List Int).length)).bind λ_=>let p:=d++([(IntKind.wrap .i64 a)]:List Int);let q:=(IntKind.wrap .i64 (c+1));some (.inl (b,q,p,()))else some (.inr ([],0,10,()))
def zj3(s:Str):Option (Str×Int×Int×Unit):=(if(s==[])=true then some true else(zbc s 0).bind λa=>(if(a !=39)=true then(zbc s 0).bind λb=>some (b !=34)else some false).bind λc=>some c).bind λd=>if d=true then some ([],0,10,())else Lp.loop zbM (s,1,[],())
def zzu:=callee Y [] zJJ zCd (λz=>zj3 z.1)
def zAN:zau Y (zar Y zCd):=(.loop [[7,5,2,1,2,2,2],[8,5,2,1,2,2,2],[6,2,1,2,2,2],[2,2,2,2]] ⟨[(0,.str),(5,.own 0),(6,.int .i64)],[.arr 3]⟩ (zbM) .nil .nil)
theorem zyT:K8 49 (zzu):=f8 zAN Tryz.func49 (.cons zpg (.cons zvz .nil)) ⟨λz=>by kernel_rfl,trivial,trivial⟩
def zmH:Option ((List Str)×Unit):=some ([[61,61,61],[33,61,61],[60,61],[62,61],[61,61],[33,61],[43,43],[45,45],[38,38],[124,124],[43,61],[45,61],[42,61],[47,61],[37,61],[123],[125],[40],[41],[91],[93],[46],[59],[44],[60],[62],[43],[45],[42],[47],[37],[33],[63],[58],[61]],())
def zo8:List zan:=[⟨false,.sl 9,[]⟩]
def zx6:=callee Y [] zAs zo8 (λz=>zmH)
def zy8:zau Y (zar Y zo8):= .nil
theorem zxf:K8 50 (zx6):=f8 zy8 Tryz.func50 .nil trivial
def zmK:Option ((List Str)×Unit):=some ([[98,114,101,97,107],[99,97,115,101],[99,97,116,99,104],[99,108,97,115,115],[99,111,110,115,116],[99,111,110,116,105,110,117,101],[100,101,98,117,103,103,101,114],[100,101,102,97,117,108,116],[100,101,108,101,116,101],[100,111],[101,108,115,101],[101,110,117,109],[101,120,112,111,114,116],[101,120,116,101,110,100,115],[102,97,108,115,101],[102,105,110,97,108,108,121],[102,111,114],[102,117,110,99,116,105,111,110],[105,102],[105,109,112,108,101,109,101,110,116,115],[105,109,112,111,114,116],[105,110],[105,110,115,116,97,110,99,101,111,102],[105,110,116,101,114,102,97,99,101],[108,101,116],[110,101,119],[110,117,108,108],[112,97,99,107,97,103,101],[112,114,105,118,97,116,101],[112,114,111,116,101,99,116,101,100],[112,117,98,108,105,99],[114,101,116,117,114,110],[115,116,97,116,105,99],[115,117,112,101,114],[115,119,105,116,99,104],[116,104,105,115],[116,104,114,111,119],[116,114,117,101],[116,114,121],[116,121,112,101,111,102],[118,97,114],[118,111,105,100],[119,104,105,108,101],[119,105,116,104],[121,105,101,108,100]],())
def zx5:=callee Y [] zAs zo8 (λz=>zmK)
theorem zxO:K8 102 (zx5):=f8 zy8 Tryz.func102 .nil trivial
def zdC:Str×(List Str)×Int×Int×Unit->Option ((Str×(List Str)×Int×Int×Unit)⊕(Bool×Unit))| (b,c,d,a,())=>if(decide (a<d))=true then(zas c a).bind λe=>if(b==e)=true then some (.inr (true,()))else let f:=(IntKind.wrap .i64 (a+1));some (.inl (b,c,d,f,()))else some (.inr (false,()))
def ziZ(s:Str):Option (Bool×Unit):=zmK.bind λa=>let b:=((a.1.length:Nat):Int);Lp.loop zdC (s,a.1,b,0,())
def zxi:=callee Y [] zJJ zBR (λz=>ziZ z.1)
def zw5:zau Y (zar Y zBR):=(.loop [[7,5,2,1,2],[8,5,2,1,2],[6,2,1,2],[2,2]] ⟨[(0,.str),(5,.sl 9),(6,.int .i64),(7,.int .i64)],[]⟩ (zdC) .nil .nil)
theorem zvD:K8 47 (zxi):=f8 zw5 Tryz.func47 (.cons zxO .nil) ⟨λz=>by kernel_rfl,trivial,trivial⟩
def zdJ:Str×Int×(List Str)×Int×Int×zl×Unit->Option ((Str×Int×(List Str)×Int×Int×zl×Unit)⊕(zl×Int×Unit))| (c,d,e,f,a,g,())=>if(decide (a<f))=true then(zas e a).bind λb=>(zcs c d b).bind λh=>if h.1=true then some (.inr (⟨5,b,0,0,false⟩,((b.length:Nat):Int),()))else let i:=(IntKind.wrap .i64 (a+1));some (.inl (c,d,e,f,i,(zc8 g),()))else some (.inr (⟨0,[],0,0,false⟩,0,()))
def zlR(b:Int)(c:Int)(g:zl)(a:zl):Option (zl×Int×Unit):=(ziZ a.Text).bind λd=>if d.1=true then let e:=(IntKind.wrap .i64 (c -b));some (⟨2,a.Text,a.Num,a.At,a.Fresh⟩,e,())else let f:=(IntKind.wrap .i64 (c -b));some ((zc8 a),f,())
def zlZ(c:Str)(a:Int)(b:Int)(d:zl):Option (zl×Int×Unit):=(zbv c a b).bind λe=>zlR a b (zc8 d) ⟨1,e,0,0,false⟩
def zeb(c:Str)(a:Int)(b:Int)(d:zl):Option (zl×Int×Unit):=let e:=(IntKind.wrap .i64 (b -a));if(decide (e>32))=true then some (⟨0,[],0,0,false⟩,0,())else zlZ c a b (zc8 d)
def zec:Str×Int×Int×zl×Unit->Option ((Str×Int×Int×zl×Unit)⊕(zl×Int×Unit))| (a,c,b,d,())=>let e:=(decide (b< ((a.length:Nat):Int)));if e=true then(zbc a b).bind λf=>(zfe f).bind λg=>if g.1=true then let h:=(IntKind.wrap .i64 (b+1));some (.inl (a,c,h,(zc8 d),()))else(zbc a b).bind λi=>(zeF i).bind λj=>if j.1=true then let k:=(IntKind.wrap .i64 (b+1));some (.inl (a,c,k,(zc8 d),()))else zfT .inr (zeb a c b (zc8 d))else zfT .inr (zeb a c b (zc8 d))
def zkE(s:Str)(a:Int):Option (zl×Int×Unit):=(zbc s a).bind λb=>(zfe b).bind λf=>if f.1=true then Lp.loop zec (s,a,a,⟨0,[],0,0,false⟩,())else(zeF b).bind λg=>if g.1=true then(zgP s a).bind λc=>some (⟨3,[],c.1,0,false⟩,c.2.1,())else let h:=((b==39)||(b==34));if h=true then(zbv s a ((s.length:Nat):Int)).bind λi=>(zj3 i).bind λd=>some (⟨4,d.1,0,0,false⟩,d.2.1,())else zmH.bind λe=>let j:=((e.1.length:Nat):Int);Lp.loop zdJ (s,a,e.1,j,0,⟨0,[],0,0,false⟩,())
def zri:List zan:=[⟨false,.tup [.st 36,.int .i64],[]⟩]
def zBL:=callee Y [] zxM zri (u2 zkE)
def zBK:zau Y (zar Y zri):=(.loop [[7,5,1,2,3,2,5,1,2,2],[8,5,1,2,3,2,5,1,2,2],[6,1,2,3,2,5,1,2,2],[2,2,3,2,5,1,2,2],[6,1,2,2],[2,2,2]] ⟨[(0,.str),(1,.int .i64),(4,.ptr 0 0),(7,.int .i64)],[.whole 36 36]⟩ (zec) .nil (.join [[1,1,2,2,3,2,5,1,2,2],[2,1,2,2,3,2,5,1,2,2],[2,2,2,3,2,5,1,2,2],[6,1,2,2],[2,2,2]] ⟨[(0,.str),(1,.int .i64),(4,.ptr 0 0),(7,.int .i64)],[.whole 36 36]⟩ (u4 zeb) (.join [[1,2,2,2,3,2,5,1,2,2],[2,2,2,2,3,2,5,1,2,2],[6,1,2,2],[2,2,2]] ⟨[(0,.str),(1,.int .i64),(4,.ptr 0 0),(7,.int .i64)],[.whole 36 36]⟩ (u4 zlZ) (.join [[1,1,2,2,2,2,3,2,5,1,2,2],[2,1,2,2,2,2,3,2,5,1,2,2],[2,2,2,2,2,3,2,5,1,2,2],[6,1,2,2],[2,2,2]] ⟨[(1,.int .i64),(4,.ptr 0 0),(7,.int .i64),(8,.ptr 1 0)],[.whole 36 36,.whole 36 36]⟩ (u4 zlR) (.loop [[7,5,2,1,2,2,2],[8,5,2,1,2,2,2],[6,2,1,2,2,2],[2,2,2,2]] ⟨[(0,.str),(1,.int .i64),(4,.ptr 0 0),(89,.sl 9),(90,.int .i64),(91,.int .i64)],[.whole 36 36]⟩ (zdJ) .nil .nil)))))
theorem zzP:K8 28 (zBL):=f8 zBK Tryz.func28 (.cons znT (.cons zkh (.cons zv2 (.cons zyT (.cons zxf (.cons zjS (.cons zvD .nil))))))) ⟨λz=>by kernel_rfl,trivial,⟨λz=>by kernel_rfl,⟨λz=>by kernel_rfl,⟨λz=>by kernel_rfl,⟨λz=>by kernel_rfl,trivial,trivial⟩⟩⟩⟩⟩
def zd9:Str×Int×(List zl)×Unit->Option ((Str×Int×(List zl)×Unit)⊕((List zl)×Int×Int×Unit))| (c,e,d,())=>(ziI c e).bind λa=>if(!a.2.2.1)=true then some (.inr ([],a.1,60,()))else let f:=((c.length:Nat):Int);if(a.1==f)=true then(room (d.length+([⟨0,[],0,a.1,a.2.1⟩]:List zl).length)).bind λ_=>let g:=d++[⟨0,[],0,a.1,a.2.1⟩];some (.inr (g,0,0,()))else(zkE c a.1).bind λb=>if(b.2.1==0)=true then some (.inr ([],a.1,60,()))else(room (d.length+([⟨b.1.Kind,b.1.Text,b.1.Num,a.1,a.2.1⟩]:List zl).length)).bind λ_=>let h:=d++[⟨b.1.Kind,b.1.Text,b.1.Num,a.1,a.2.1⟩];let i:=(IntKind.wrap .i64 (a.1+b.2.1));some (.inl (c,i,h,()))
def zkI(a:Str):Option ((List zl)×Int×Int×Unit):=let b:=(decide (((a.length:Nat):Int)>4096));if b=true then some ([],0,2,())else Lp.loop zd9 (a,0,[],())
def zrj:=callee Y [] zJJ zDO (λz=>zkI z.1)
def zBc:zau Y (zar Y zDO):=(.loop [[7,5,2,2,2,2],[8,5,2,2,2,2],[6,2,2,2,2]] ⟨[(0,.str),(5,.own 0),(6,.int .i64)],[.arr 36]⟩ (zd9) .nil .nil)
theorem zAl:K8 13 (zrj):=f8 zBc Tryz.func13 (.cons zvK (.cons zzP .nil)) ⟨λz=>by kernel_rfl,trivial,trivial⟩
def zaf(x:zg):Option (zl×zg×Unit):=(zas x.t x.at_).bind λa=>some ((zc8 a),(zq x),())
def zsl:Shape:=⟨[(0,.ptr 0 0)],[.whole 53 53]⟩
def zlG:List zan:=[⟨false,.st 36,[.whole 53 53]⟩]
def zcn:=callee Y [] zsl zlG (λz=>zaf z.1)
def zs5:zau Y (zar Y zlG):= .nil
theorem zaM:K8 25 (zcn):=f8 zs5 Tryz.func25 .nil trivial
def zL(s:Str)(x:zg):Option (Bool×zg×Unit):=if(!x.bad)=true then(zaf (zq x)).bind λa=>if(a.1.Kind==5)=true then(zaf (zq a.2.1)).bind λb=>some ((b.1.Text==s),(zq b.2.1),())else some (false,(zq a.2.1),())else some (false,(zq x),())
def zsu:Shape:=⟨[(0,.ptr 0 0),(1,.str)],[.whole 53 53]⟩
def zll:List zan:=[⟨false,.bool,[.whole 53 53]⟩]
def za9:=callee Y [] zsu zll (u2 zL)
def zsP:zau Y (zar Y zll):= .nil
theorem zay:K8 39 (za9):=f8 zsP Tryz.func39 (.cons zaM .nil) trivial
def zae(s:Str)(x:zg):Option (Bool×zg×Unit):=if(!x.bad)=true then(zaf (zq x)).bind λa=>if(a.1.Kind==2)=true then(zaf (zq a.2.1)).bind λb=>some ((b.1.Text==s),(zq b.2.1),())else some (false,(zq a.2.1),())else some (false,(zq x),())
def zbP:=callee Y [] zsu zll (u2 zae)
theorem zbd:K8 40 (zbP):=f8 zsP Tryz.func40 (.cons zaM .nil) trivial
def zB(x:zg):Option (zl×zg×Unit):=(zaf (zq x)).bind λa=>let b:=((!a.2.1.bad)&&(a.1.Kind !=0));if b=true then let c:=(IntKind.wrap .i64 (a.2.1.at_+1));some ((zc8 a.1),⟨a.2.1.t,c,a.2.1.bad⟩,())else some ((zc8 a.1),(zq a.2.1),())
def zaZ:=callee Y [] zsl zlG (λz=>zB z.1)
theorem zat:K8 41 (zaZ):=f8 zs5 Tryz.func41 (.cons zaM .nil) trivial
def zaU(x:zg):Option (zg×Unit):=some (⟨x.t,x.at_,true⟩,())
def zlm:List zan:=[⟨false,.tup [],[.whole 53 53]⟩]
def zcT:=callee Y [] zsl zlm (λz=>zaU z.1)
def zsn:zau Y (zar Y zlm):= .nil
theorem za2:K8 97 (zcT):=f8 zsn Tryz.func97 .nil trivial
def zO(s:Str)(x:zg):Option (zg×Unit):=(zL s (zq x)).bind λa=>if a.1=true then(zB (zq a.2.1)).bind λb=>some ((zq b.2.1),())else(zaU (zq a.2.1)).bind λc=>some ((zq c.1),())
def zbR:=callee Y [] zsu zlm (u2 zO)
theorem zbe:K8 95 (zbR):=f8 zsn Tryz.func95 (.cons zay (.cons zat (.cons za2 .nil))) trivial
def zbb(x:zg):Option (Str×zg×Unit):=if x.bad=true then(zaU (zq x)).bind λc=>some ([],(zq c.1),())else(zaf (zq x)).bind λa=>if(a.1.Kind !=1)=true then(zaU (zq a.2.1)).bind λd=>some ([],(zq d.1),())else(zB (zq a.2.1)).bind λb=>some (b.1.Text,(zq b.2.1),())
def zjN:List zan:=[⟨false,.str,[.whole 53 53]⟩]
def zgv:=callee Y [] zsl zjN (λz=>zbb z.1)
def zpR:zau Y (zar Y zjN):= .nil
theorem zf9:K8 94 (zgv):=f8 zpR Tryz.func94 (.cons za2 (.cons zaM (.cons zat .nil))) trivial
def za8(a:Int):Option (Int×Str×Int×Str×Unit):=some (a,[],0,[],())
def zee:Shape:=⟨[(0,.int .i64),(1,.nils)],[]⟩
def zdH:List zan:=[⟨false,.agg [.int .i64,.str,.int .i64,.str,.nils,.nils],[]⟩]
def ziJ:=callee Y [] zee zdH (λz=>za8 z.1)
def zzs:zau Y (zar Y zdH):= .nil
theorem zc1:K8 23 (ziJ):=f8 zzs Tryz.func23 .nil trivial
def zaK(a:Int)(b:Str)(l:List zf):Option (zf×Unit):=some (⟨a,b,0,[],[],l⟩,())
def zCR:Shape:=⟨[(0,.int .i64),(1,.str),(2,.sl 25)],[]⟩
def ztp:List zan:=[⟨false,.st 25,[]⟩]
def zge:=callee Y [] zCR ztp (u3 zaK)
def zC7:zau Y (zar Y ztp):= .nil
theorem zeC:K8 99 (zge):=f8 zC7 Tryz.func99 .nil trivial
def zaL(a:Int)(l:List zf):Option (Int×Str×Int×Str×(List zf)×Unit):=some (a,[],0,[],l,())
def zv3:Shape:=⟨[(0,.int .i64),(1,.own 0)],[.arr 25]⟩
def znS:List zan:=[⟨false,.agg [.int .i64,.str,.int .i64,.str,.nils,.own 0],[.arr 25]⟩]
def zbB:Dn.Callee Y:=callee Y [1] zv3 znS (u2 zaL)
def zvP:zau Y (zar Y znS):= .nil
theorem zbF:K8 23 (zbB):=f8 zvP Tryz.func23 .nil trivial
def zgf(a:Int)(l:List zf):Option (Int×Str×Int×Str×(List zf)×Unit):=some (a,[],0,[],l,())
def zwa:Shape:=⟨[(0,.int .i64),(1,.sl 25)],[]⟩
def znX:List zan:=[⟨false,.agg [.int .i64,.str,.int .i64,.str,.nils,.sl 25],[]⟩]
def zhj:=callee Y [] zwa znX (u2 zgf)
def zvR:zau Y (zar Y znX):= .nil
theorem zjm:K8 23 (zhj):=f8 zvR Tryz.func23 .nil trivial
structure zds where
 zb9:Int->Option (Str×Unit)
def zoa(b:zds):=callee Y [] zIX zCZ (λz=>b.zb9 z.1)
structure zlu (g_:zds):Prop where
 zb9:COk hY Tryz.prog zaR 245 (zoa g_)
def zex(c:zds)(n:Int):Option (Str×Unit):=if(decide (n<0))=true then(c.zb9 (IntKind.wrap .i64 (0 -n))).bind λd=>(zmy [45] d.1).bind λe=>some (e,())else let f:=(IntKind.wrap .i64 (48+(Int.tmod n 10)));(toB (IntKind.wrap .u8 f)).bind λa=>if(decide (n<10))=true then some (([a]:List UInt8),())else let g:=(IntKind.wrap .i64 (Int.tdiv n 10));(c.zb9 g).bind λh=>(zmy h.1 ([a]:List UInt8)).bind λi=>some (i,())
def zxn(b:zds):=callee Y [] zIX zCZ (λz=>zex b z.1)
theorem zuk(b:zds)(d:zlu b):K8 245 (zxn b):=f8 zJl Tryz.func245 (.cons d.zb9 .nil) trivial
def zcA:Nat->zds
 |0=>⟨λ_=>none⟩
 |n+1=>⟨zex (zcA n)⟩
theorem zkV: ∀n,zlu (zcA n)
 |0=>⟨COk.none ⟨⟨_,Tryz.func245,by kernel_rfl,rfl⟩⟩⟩
 |n+1=>⟨zuk _ (zkV n)⟩
def zb9:Int->Option (Str×Unit):=(zcA Lp.big).zb9
theorem zvT:K8 245 (zoa (zcA Lp.big)):=(zkV Lp.big).zb9
def zeE:Str×Int×(List Int)×Unit->Option ((Str×Int×(List Int)×Unit)⊕(Str×Int×Unit))| (a,b,c,())=>let e:=(decide (b< ((a.length:Nat):Int)));if e=true then(zbc a b).bind λf=>if(decide (f>127))=true then some (.inr ([],10,()))else(zbc a b).bind λd=>(room (c.length+([(IntKind.wrap .i64 d)]:List Int).length)).bind λ_=>let g:=c++([(IntKind.wrap .i64 d)]:List Int);let h:=(IntKind.wrap .i64 (b+1));some (.inl (a,h,g,()))else(zhU c).bind λi=>some (.inr (i.1,0,()))
def zoQ(s:Str):Option (Str×Int×Unit):=Lp.loop zeE (s,0,[],())
def zCK:=callee Y [] zJJ zFM (λz=>zoQ z.1)
def zCB:zau Y (zar Y zFM):=(.loop [[7,5,2,1,2,2],[8,5,2,1,2,2],[6,2,1,2,2],[2,2,2]] ⟨[(0,.str),(4,.own 0),(5,.int .i64)],[.arr 3]⟩ (zeE) .nil .nil)
theorem zBB:K8 247 (zCK):=f8 zCB Tryz.func247 (.cons zpg .nil) ⟨λz=>by kernel_rfl,trivial,trivial⟩
def zkc(s:Str):Option (Str×Unit):=(zoQ s).bind λa=>some (a.1,())
def zDw:=callee Y [] zJJ zCZ (λz=>zkc z.1)
theorem zCE:K8 244 (zDw):=f8 zJl Tryz.func244 (.cons zBB .nil) trivial
def zdO(n:zf):Option (Bool×Unit):=let a:=((n.Kind==3)||(n.Kind==11));some ((a||(n.Kind==12)),())
def zjj:=callee Y [] zEI zBR (λz=>zdO z.1)
theorem ziU:K8 169 (zjj):=f8 zFV Tryz.func169 .nil trivial
structure zdD where
 zaF:zf->Option (Int×Unit)
def zpD(b:zdD):=callee Y [] zEI zB2 (λz=>b.zaF z.1)
structure zme (g_:zdD):Prop where
 zaF:COk hY Tryz.prog zaR 213 (zpD g_)
def zeZ(b:zdD)(n:zf):Option (Int×Unit):=if(n.Kind==21)=true then some (0,())else if(n.Kind==20)=true then some (1,())else if(n.Kind==19)=true then some (2,())else if(n.Kind==18)=true then let c:=(n.Name==[124,124]);if c=true then some (3,())else some (4,())else if(n.Kind==17)=true then let d:=(n.Name==[61,61]);if d=true then some (5,())else let e:=(n.Name==[33,61]);if e=true then some (5,())else let f:=(n.Name==[61,61,61]);if f=true then some (5,())else let g:=(n.Name==[33,61,61]);if g=true then some (5,())else if(n.Name==[60])=true then some (6,())else if(n.Name==[62])=true then some (6,())else let h:=(n.Name==[60,61]);if h=true then some (6,())else let i:=(n.Name==[62,61]);if i=true then some (6,())else let j:=(n.Name==[105,110]);if j=true then some (6,())else let k:=(n.Name==[105,110,115,116,97,110,99,101,111,102]);if k=true then some (6,())else if(n.Name==[43])=true then some (7,())else if(n.Name==[45])=true then some (7,())else some (8,())else if(n.Kind==15)=true then some (9,())else if(n.Kind==16)=true then if(n.Num==1)=true then some (9,())else some (10,())else if(n.Kind==13)=true then some (11,())else if(n.Kind==11)=true then(zas n.L 0).bind λl=>(b.zaF (zy l)).bind λm=>if(decide (m.1>=12))=true then some (12,())else some (11,())else if(n.Kind==12)=true then(zas n.L 0).bind λo=>(b.zaF (zy o)).bind λp=>if(decide (p.1>=12))=true then some (12,())else some (11,())else if(n.Kind==14)=true then some (12,())else some (13,())
def zyP(b:zdD):=callee Y [] zEI zB2 (λz=>zeZ b z.1)
theorem zuR(b:zdD)(d:zme b):K8 213 (zyP b):=f8 zzk Tryz.func213 (.cons d.zaF .nil) trivial
def zdR:Nat->zdD
 |0=>⟨λ_=>none⟩
 |n+1=>⟨zeZ (zdR n)⟩
theorem zls: ∀n,zme (zdR n)
 |0=>⟨COk.none ⟨⟨_,Tryz.func213,by kernel_rfl,rfl⟩⟩⟩
 |n+1=>⟨zuR _ (zls n)⟩
def zaF:zf->Option (Int×Unit):=(zdR Lp.big).zaF
theorem zx1:K8 213 (zpD (zdR Lp.big)):=(zls Lp.big).zaF
def zfL(c:Str)(a:zg)(f:Int)(g:Str)(h:Int)(i:Str)(d:zl)(j:List Str)(k:List zf):Option (zf×Int×Bool×zg×Unit):=if(c==[37])=true then(zaK 17 d.Text []).bind λb=>(zaF (zy b.1)).bind λe=>some ((zy b.1),e.1,true,(zq a),())else some (⟨0,[],0,[],[],[]⟩,0,false,(zq a),())
def zfM(a:Str)(b:zg)(e:Int)(f:Str)(g:Int)(h:Str)(c:zl)(i:List Str)(j:List zf):Option (zf×Int×Bool×zg×Unit):=if(a==[47])=true then(zaK 17 c.Text []).bind λd=>(zaF (zy d.1)).bind λk=>some ((zy d.1),k.1,true,(zq b),())else zfL a (zq b) e f g h (zc8 c) i j
def zfQ(a:Str)(b:zg)(e:Int)(f:Str)(g:Int)(h:Str)(c:zl)(i:List Str)(j:List zf):Option (zf×Int×Bool×zg×Unit):=if(a==[42])=true then(zaK 17 c.Text []).bind λd=>(zaF (zy d.1)).bind λk=>some ((zy d.1),k.1,true,(zq b),())else zfM a (zq b) e f g h (zc8 c) i j
def zfP(a:Str)(b:zg)(e:Int)(f:Str)(g:Int)(h:Str)(c:zl)(i:List Str)(j:List zf):Option (zf×Int×Bool×zg×Unit):=if(a==[45])=true then(zaK 17 c.Text []).bind λd=>(zaF (zy d.1)).bind λk=>some ((zy d.1),k.1,true,(zq b),())else zfQ a (zq b) e f g h (zc8 c) i j
def zfJ(a:Str)(b:zg)(e:Int)(f:Str)(g:Int)(h:Str)(c:zl)(i:List Str)(j:List zf):Option (zf×Int×Bool×zg×Unit):=if(a==[43])=true then(zaK 17 c.Text []).bind λd=>(zaF (zy d.1)).bind λk=>some ((zy d.1),k.1,true,(zq b),())else zfP a (zq b) e f g h (zc8 c) i j
def zfK(a:Str)(b:zg)(e:Int)(f:Str)(g:Int)(h:Str)(c:zl)(i:List Str)(j:List zf):Option (zf×Int×Bool×zg×Unit):=let k:=(a==[105,110,115,116,97,110,99,101,111,102]);if k=true then(zaK 17 c.Text []).bind λd=>(zaF (zy d.1)).bind λl=>some ((zy d.1),l.1,true,(zq b),())else zfJ a (zq b) e f g h (zc8 c) i j
def zfO(a:Str)(b:zg)(e:Int)(f:Str)(g:Int)(h:Str)(c:zl)(i:List Str)(j:List zf):Option (zf×Int×Bool×zg×Unit):=let k:=(a==[105,110]);if k=true then(zaK 17 c.Text []).bind λd=>(zaF (zy d.1)).bind λl=>some ((zy d.1),l.1,true,(zq b),())else zfK a (zq b) e f g h (zc8 c) i j
def zfG(a:Str)(b:zg)(e:Int)(f:Str)(g:Int)(h:Str)(c:zl)(i:List Str)(j:List zf):Option (zf×Int×Bool×zg×Unit):=if(a==[62,61])=true then(zaK 17 c.Text []).bind λd=>(zaF (zy d.1)).bind λk=>some ((zy d.1),k.1,true,(zq b),())else zfO a (zq b) e f g h (zc8 c) i j
def zfE(a:Str)(b:zg)(e:Int)(f:Str)(g:Int)(h:Str)(c:zl)(i:List Str)(j:List zf):Option (zf×Int×Bool×zg×Unit):=if(a==[60,61])=true then(zaK 17 c.Text []).bind λd=>(zaF (zy d.1)).bind λk=>some ((zy d.1),k.1,true,(zq b),())else zfG a (zq b) e f g h (zc8 c) i j
def zf3(a:Str)(b:zg)(e:Int)(f:Str)(g:Int)(h:Str)(c:zl)(i:List Str)(j:List zf):Option (zf×Int×Bool×zg×Unit):=if(a==[62])=true then(zaK 17 c.Text []).bind λd=>(zaF (zy d.1)).bind λk=>some ((zy d.1),k.1,true,(zq b),())else zfE a (zq b) e f g h (zc8 c) i j
def zgc(a:Str)(b:zg)(e:Int)(f:Str)(g:Int)(h:Str)(c:zl)(i:List Str)(j:List zf):Option (zf×Int×Bool×zg×Unit):=if(a==[60])=true then(zaK 17 c.Text []).bind λd=>(zaF (zy d.1)).bind λk=>some ((zy d.1),k.1,true,(zq b),())else zf3 a (zq b) e f g h (zc8 c) i j
def zf2(a:Str)(b:zg)(e:Int)(f:Str)(g:Int)(h:Str)(c:zl)(i:List Str)(j:List zf):Option (zf×Int×Bool×zg×Unit):=let k:=(a==[33,61,61]);if k=true then(zaK 17 c.Text []).bind λd=>(zaF (zy d.1)).bind λl=>some ((zy d.1),l.1,true,(zq b),())else zgc a (zq b) e f g h (zc8 c) i j
def zgb(a:Str)(b:zg)(e:Int)(f:Str)(g:Int)(h:Str)(c:zl)(i:List Str)(j:List zf):Option (zf×Int×Bool×zg×Unit):=let k:=(a==[61,61,61]);if k=true then(zaK 17 c.Text []).bind λd=>(zaF (zy d.1)).bind λl=>some ((zy d.1),l.1,true,(zq b),())else zf2 a (zq b) e f g h (zc8 c) i j
def zf4(a:Str)(b:zg)(e:Int)(f:Str)(g:Int)(h:Str)(c:zl)(i:List Str)(j:List zf):Option (zf×Int×Bool×zg×Unit):=if(a==[33,61])=true then(zaK 17 c.Text []).bind λd=>(zaF (zy d.1)).bind λk=>some ((zy d.1),k.1,true,(zq b),())else zgb a (zq b) e f g h (zc8 c) i j
def zf6(a:Str)(b:zg)(e:Int)(f:Str)(g:Int)(h:Str)(c:zl)(i:List Str)(j:List zf):Option (zf×Int×Bool×zg×Unit):=if(a==[61,61])=true then(zaK 17 c.Text []).bind λd=>(zaF (zy d.1)).bind λk=>some ((zy d.1),k.1,true,(zq b),())else zf4 a (zq b) e f g h (zc8 c) i j
def zf8(a:Str)(b:zg)(e:Int)(f:Str)(g:Int)(h:Str)(c:zl)(i:List Str)(j:List zf):Option (zf×Int×Bool×zg×Unit):=let k:=(a==[124,124]);if k=true then(zaK 18 c.Text []).bind λd=>(zaF (zy d.1)).bind λl=>some ((zy d.1),l.1,true,(zq b),())else zf6 a (zq b) e f g h (zc8 c) i j
def zf7(a:Str)(b:zg)(e:Int)(f:Str)(g:Int)(h:Str)(c:zl)(i:List Str)(j:List zf):Option (zf×Int×Bool×zg×Unit):=if(a==[38,38])=true then(zaK 18 c.Text []).bind λd=>(zaF (zy d.1)).bind λk=>some ((zy d.1),k.1,true,(zq b),())else zf8 a (zq b) e f g h (zc8 c) i j
def zcJ(b:zg)(c:Int)(d:Str)(e:Int)(f:Str)(a:zl)(g:List Str)(h:List zf):Option (zf×Int×Bool×zg×Unit):=zf7 a.Text (zq b) c d e f (zc8 a) g h
def zda(d:Bool)(x:zg):Option (zf×Int×Bool×zg×Unit):=(zaf (zq x)).bind λa=>if a.2.1.bad=true then some (⟨0,[],0,[],[],[]⟩,0,false,(zq a.2.1),())else if(a.1.Kind !=5)=true then(zae [105,110,115,116,97,110,99,101,111,102] (zq a.2.1)).bind λb=>if(!b.1)=true then(zae [105,110] (zq b.2.1)).bind λc=>if((!c.1)||d)=true then some (⟨0,[],0,[],[],[]⟩,0,false,(zq c.2.1),())else zcJ (zq c.2.1) 0 [] 0 [] (zc8 a.1) [] []else zcJ (zq b.2.1) 0 [] 0 [] (zc8 a.1) [] []else zcJ (zq a.2.1) 0 [] 0 [] (zc8 a.1) [] []
def zpQ:Shape:=⟨[(0,.ptr 0 0),(1,.bool)],[.whole 53 53]⟩
def zjJ:List zan:=[⟨false,.tup [.st 25,.int .i64,.bool],[.whole 53 53]⟩]
def zpK:=callee Y [] zpQ zjJ (u2 zda)
def zpJ:zau Y (zar Y zjJ):=(.join [[1,1,2,2,2],[2,1,2,2,2],[2,2,2,2]] ⟨[(4,.ptr 1 0),(7,.ptr 2 0)],zli⟩ (u8 zcJ) (.join [[1,1,5,2,1,2,2,2],[2,1,5,2,1,2,2,2],[2,5,2,1,2,2,2],[6,2,1,2,2,2],[2,2,2,2]] ⟨[(4,.ptr 1 0),(7,.ptr 2 0),(36,.str)],zli⟩ (u9 zf7) (.join [[4,2,1,5,2,1,2,2,2],[2,5,2,1,2,2,2],[6,2,1,2,2,2],[2,2,2,2]] ⟨[(4,.ptr 1 0),(7,.ptr 2 0),(36,.str)],zli⟩ (u9 zf8) (.join [[1,1,4,2,5,2,1,2,2,2],[2,1,4,2,5,2,1,2,2,2],[2,4,2,5,2,1,2,2,2],[6,2,1,2,2,2],[2,2,2,2]] ⟨[(4,.ptr 1 0),(7,.ptr 2 0),(36,.str)],zli⟩ (u9 zf6) (.join [[1,4,2,1,4,2,5,2,1,2,2,2],[2,4,2,1,4,2,5,2,1,2,2,2],[2,4,2,5,2,1,2,2,2],[6,2,1,2,2,2],[2,2,2,2]] ⟨[(4,.ptr 1 0),(7,.ptr 2 0),(36,.str)],zli⟩ (u9 zf4) (.join [[1,4,2,4,2,1,4,2,5,2,1,2,2,2],[2,4,2,4,2,1,4,2,5,2,1,2,2,2],[2,4,2,5,2,1,2,2,2],[6,2,1,2,2,2],[2,2,2,2]] ⟨[(4,.ptr 1 0),(7,.ptr 2 0),(36,.str)],zli⟩ (u9 zgb) (.join [[1,4,2,4,2,4,2,1,4,2,5,2,1,2,2,2],[2,4,2,4,2,4,2,1,4,2,5,2,1,2,2,2],[2,4,2,5,2,1,2,2,2],[6,2,1,2,2,2],[2,2,2,2]] ⟨[(4,.ptr 1 0),(7,.ptr 2 0),(36,.str)],zli⟩ (u9 zf2) (.join [[1,4,2,4,2,4,2,4,2,1,4,2,5,2,1,2,2,2],[2,4,2,4,2,4,2,4,2,1,4,2,5,2,1,2,2,2],[2,4,2,5,2,1,2,2,2],[6,2,1,2,2,2],[2,2,2,2]] ⟨[(4,.ptr 1 0),(7,.ptr 2 0),(36,.str)],zli⟩ (u9 zgc) (.join [[1,4,2,4,2,4,2,4,2,4,2,1,4,2,5,2,1,2,2,2],[2,4,2,4,2,4,2,4,2,4,2,1,4,2,5,2,1,2,2,2],[2,4,2,5,2,1,2,2,2],[6,2,1,2,2,2],[2,2,2,2]] ⟨[(4,.ptr 1 0),(7,.ptr 2 0),(36,.str)],zli⟩ (u9 zf3) (.join [[1,4,2,4,2,4,2,4,2,4,2,4,2,1,4,2,5,2,1,2,2,2],[2,4,2,4,2,4,2,4,2,4,2,4,2,1,4,2,5,2,1,2,2,2],[2,4,2,5,2,1,2,2,2],[6,2,1,2,2,2],[2,2,2,2]] ⟨[(4,.ptr 1 0),(7,.ptr 2 0),(36,.str)],zli⟩ (u9 zfE) (.join [[1,4,2,4,2,4,2,4,2,4,2,4,2,4,2,1,4,2,5,2,1,2,2,2],[2,4,2,4,2,4,2,4,2,4,2,4,2,4,2,1,4,2,5,2,1,2,2,2],[2,4,2,5,2,1,2,2,2],[6,2,1,2,2,2],[2,2,2,2]] ⟨[(4,.ptr 1 0),(7,.ptr 2 0),(36,.str)],zli⟩ (u9 zfG) (.join [[1,4,2,4,2,4,2,4,2,4,2,4,2,4,2,4,2,1,4,2,5,2,1,2,2,2],[2,4,2,4,2,4,2,4,2,4,2,4,2,4,2,4,2,1,4,2,5,2,1,2,2,2],[2,4,2,5,2,1,2,2,2],[6,2,1,2,2,2],[2,2,2,2]] ⟨[(4,.ptr 1 0),(7,.ptr 2 0),(36,.str)],zli⟩ (u9 zfO) (.join [[1,4,2,4,2,4,2,4,2,4,2,4,2,4,2,4,2,4,2,1,4,2,5,2,1,2,2,2],[2,4,2,4,2,4,2,4,2,4,2,4,2,4,2,4,2,4,2,1,4,2,5,2,1,2,2,2],[2,4,2,5,2,1,2,2,2],[6,2,1,2,2,2],[2,2,2,2]] ⟨[(4,.ptr 1 0),(7,.ptr 2 0),(36,.str)],zli⟩ (u9 zfK) (.join [[1,4,2,4,2,4,2,4,2,4,2,4,2,4,2,4,2,4,2,4,2,1,4,2,5,2,1,2,2,2],[2,4,2,4,2,4,2,4,2,4,2,4,2,4,2,4,2,4,2,4,2,1,4,2,5,2,1,2,2,2],[2,4,2,5,2,1,2,2,2],[6,2,1,2,2,2],[2,2,2,2]] ⟨[(4,.ptr 1 0),(7,.ptr 2 0),(36,.str)],zli⟩ (u9 zfJ) (.join [[1,4,2,4,2,4,2,4,2,4,2,4,2,4,2,4,2,4,2,4,2,4,2,1,4,2,5,2,1,2,2,2],[2,4,2,4,2,4,2,4,2,4,2,4,2,4,2,4,2,4,2,4,2,4,2,1,4,2,5,2,1,2,2,2],[2,4,2,5,2,1,2,2,2],[6,2,1,2,2,2],[2,2,2,2]] ⟨[(4,.ptr 1 0),(7,.ptr 2 0),(36,.str)],zli⟩ (u9 zfP) (.join [[1,4,2,4,2,4,2,4,2,4,2,4,2,4,2,4,2,4,2,4,2,4,2,4,2,1,4,2,5,2,1,2,2,2],[2,4,2,4,2,4,2,4,2,4,2,4,2,4,2,4,2,4,2,4,2,4,2,4,2,1,4,2,5,2,1,2,2,2],[2,4,2,5,2,1,2,2,2],[6,2,1,2,2,2],[2,2,2,2]] ⟨[(4,.ptr 1 0),(7,.ptr 2 0),(36,.str)],zli⟩ (u9 zfQ) (.join [[1,4,2,4,2,4,2,4,2,4,2,4,2,4,2,4,2,4,2,4,2,4,2,4,2,4,2,1,4,2,5,2,1,2,2,2],[2,4,2,4,2,4,2,4,2,4,2,4,2,4,2,4,2,4,2,4,2,4,2,4,2,4,2,1,4,2,5,2,1,2,2,2],[2,4,2,5,2,1,2,2,2],[6,2,1,2,2,2],[2,2,2,2]] ⟨[(4,.ptr 1 0),(7,.ptr 2 0),(36,.str)],zli⟩ (u9 zfM) (.join [[4,2,4,2,4,2,4,2,4,2,4,2,4,2,4,2,4,2,4,2,4,2,4,2,4,2,4,2,1,4,2,5,2,1,2,2,2],[2,4,2,5,2,1,2,2,2],[6,2,1,2,2,2],[2,2,2,2]] ⟨[(4,.ptr 1 0),(7,.ptr 2 0),(36,.str)],zli⟩ (u9 zfL) .nil))))))))))))))))))
theorem zo0:K8 192 (zpK):=f8 zpJ Tryz.func192 (.cons zaM (.cons zbd (.cons zeC (.cons zx1 .nil)))) ⟨λz=>by kernel_rfl,⟨λz=>by kernel_rfl,⟨λz=>by kernel_rfl,⟨λz=>by kernel_rfl,⟨λz=>by kernel_rfl,⟨λz=>by kernel_rfl,⟨λz=>by kernel_rfl,⟨λz=>by kernel_rfl,⟨λz=>by kernel_rfl,⟨λz=>by kernel_rfl,⟨λz=>by kernel_rfl,⟨λz=>by kernel_rfl,⟨λz=>by kernel_rfl,⟨λz=>by kernel_rfl,⟨λz=>by kernel_rfl,⟨λz=>by kernel_rfl,⟨λz=>by kernel_rfl,⟨λz=>by kernel_rfl,⟨⟩⟩⟩⟩⟩⟩⟩⟩⟩⟩⟩⟩⟩⟩⟩⟩⟩⟩⟩
def zc4(x:zg):Option (Bool×zg×Unit):=if(!x.bad)=true then(zL [125] (zq x)).bind λa=>if a.1=true then some (true,(zq a.2.1),())else(zaf (zq a.2.1)).bind λb=>if(b.1.Kind==0)=true then some (true,(zq b.2.1),())else(zaf (zq b.2.1)).bind λc=>some (c.1.Fresh,(zq c.2.1),())else some (false,(zq x),())
def zkL:=callee Y [] zsl zll (λz=>zc4 z.1)
theorem zkv:K8 143 (zkL):=f8 zsP Tryz.func143 (.cons zay (.cons zaM .nil)) trivial
def zaB(x:zg):Option (zg×Unit):=(zL [59] (zq x)).bind λa=>if a.1=true then(zB (zq a.2.1)).bind λc=>some ((zq c.2.1),())else(zc4 (zq a.2.1)).bind λb=>if(!b.1)=true then(zaU (zq b.2.1)).bind λd=>some ((zq d.1),())else some ((zq b.2.1),())
def zfX:=callee Y [] zsl zlm (λz=>zaB z.1)
theorem zhS:K8 101 (zfX):=f8 zsn Tryz.func101 (.cons zay (.cons zat (.cons zkv (.cons za2 .nil)))) trivial
def zbZ(s:Str)(x:zg):Option (zg×Unit):=(zae s (zq x)).bind λa=>if a.1=true then(zB (zq a.2.1)).bind λb=>some ((zq b.2.1),())else(zaU (zq a.2.1)).bind λc=>some ((zq c.1),())
def zgu:=callee Y [] zsu zlm (u2 zbZ)
theorem zja:K8 140 (zgu):=f8 zsn Tryz.func140 (.cons zbd (.cons zat (.cons za2 .nil))) trivial
def zeO(h:Int)(x:zg):Option (zf×zg×Unit):=(za8 h).bind λa=>(zaf (zq x)).bind λb=>if(b.1.Kind==1)=true then(zaf (zq b.2.1)).bind λc=>if(!c.1.Fresh)=true then(zB (zq c.2.1)).bind λd=>(zaB (zq d.2.1)).bind λe=>some (⟨a.1,d.1.Text,a.2.2.1,a.2.2.2.1,[],[]⟩,(zq e.1),())else(zaB (zq c.2.1)).bind λf=>some (⟨a.1,a.2.1,a.2.2.1,a.2.2.2.1,[],[]⟩,(zq f.1),())else(zaB (zq b.2.1)).bind λg=>some (⟨a.1,a.2.1,a.2.2.1,a.2.2.2.1,[],[]⟩,(zq g.1),())
def zsz:Shape:=⟨[(0,.ptr 0 0),(1,.int .i64)],[.whole 53 53]⟩
def zlt:List zan:=[⟨false,.st 25,[.whole 53 53]⟩]
def zly:=callee Y [] zsz zlt (u2 zeO)
def zsp:zau Y (zar Y zlt):= .nil
theorem zr3:K8 142 (zly):=f8 zsp Tryz.func142 ((.cons (COk.laid zc1) (.cons zaM (.cons zat (.cons zhS .nil)))):zcu hY Tryz.prog zaR [(23,(zeg Y [⟨[(0,.int .i64),(1,.nils)],[]⟩,⟨[(0,.int .i64),(1,.own 0)],[.arr 25]⟩,⟨[(0,.int .i64),(1,.sl 25)],[]⟩] (ziJ))),(25,(zcn)),(41,(zaZ)),(101,(zfX))]) trivial
structure zi where
 zaW:Bool->zg->zGa
 zbD:Int->zg->Option (zf×zg×Unit)
 zaO:zg->Option (zf×zg×Unit)
 zb6:zg->Option (zf×Bool×zg×Unit)
 zci:Bool->zg->Option (zf×zg×Unit)
 zax:Bool->zg->Option (zf×zg×Unit)
 zba:Int->Bool->zg->Option (zf×zg×Unit)
 zaT:zg->Option (zf×zg×Unit)
 zcD:zg->Option (zf×zg×Unit)
 zbk:zg->Option (zf×zg×Unit)
 za4:zg->Option (zf×zg×Unit)
 zac:Bool->zg->Option (zf×zg×Unit)
 zbl:Str->Bool->zg->zGa
 zcS:zg->Option (zf×zg×Unit)
 zbm:zf->zg->Option (zf×Bool×zg×Unit)
 za0:zg->Option (zf×zg×Unit)
 zaN:zg->Option (zf×zg×Unit)
 zde:zg->Option (zf×zg×Unit)
 zbL:Str->zg->Option (zf×zg×Unit)
 zdt:zg->Option (zf×zg×Unit)
 za5:zg->Option (zf×zg×Unit)
 zc5:zg->Option (zf×zg×Unit)
def zhE:List zan:=[⟨false,.sl 25,[.whole 53 53]⟩]
def zfj(b:zi):=callee Y [] zpQ zhE (u2 b.zaW)
def zjM(b:zi):=callee Y [] zsz zlt (u2 b.zbD)
def zfx(b:zi):=callee Y [] zsl zlt (λz=>b.zaO z.1)
def zhD:List zan:=[⟨false,.tup [.st 25,.bool],[.whole 53 53]⟩]
def zkP(b:zi):=callee Y [] zsl zhD (λz=>b.zb6 z.1)
def zhT(b:zi):=callee Y [] zpQ zlt (u2 b.zci)
def ze3(b:zi):=callee Y [] zpQ zlt (u2 b.zax)
def zkx:Shape:=⟨[(0,.ptr 0 0),(1,.int .i64),(2,.bool)],[.whole 53 53]⟩
def zkB(b:zi):=callee Y [] zkx zlt (u3 b.zba)
def zrV(b:zi):=callee Y [] zsl zlt (λz=>b.zaT z.1)
def zs4(b:zi):=callee Y [] zsl zlt (λz=>b.zcD z.1)
def zh2(b:zi):=callee Y [] zsl zlt (λz=>b.zbk z.1)
def zgM(b:zi):=callee Y [] zsl zlt (λz=>b.za4 z.1)
def zcc(b:zi):=callee Y [] zpQ zlt (u2 b.zac)
def zlq:Shape:=⟨[(0,.ptr 0 0),(1,.str),(2,.bool)],[.whole 53 53]⟩
def zfv(b:zi):=callee Y [] zlq zhE (u3 b.zbl)
def zkA(b:zi):=callee Y [] zsl zlt (λz=>b.zcS z.1)
def zkz:Shape:=⟨[(0,.ptr 0 0),(1,.st 25)],[.whole 53 53]⟩
def zg9(b:zi):=callee Y [] zkz zhD (u2 b.zbm)
def zh6(b:zi):=callee Y [] zsl zlt (λz=>b.za0 z.1)
def zhV(b:zi):=callee Y [] zsl zlt (λz=>b.zaN z.1)
def zlw(b:zi):=callee Y [] zsl zlt (λz=>b.zde z.1)
def zlx(b:zi):=callee Y [] zsu zlt (u2 b.zbL)
def zmk(b:zi):=callee Y [] zsl zlt (λz=>b.zdt z.1)
def zhH(b:zi):=callee Y [] zsl zlt (λz=>b.za5 z.1)
def zk4(b:zi):=callee Y [] zsl zlt (λz=>b.zc5 z.1)
structure zaj (g_:zi):Prop where
 zaW:COk hY Tryz.prog zaR 24 (zfj g_)
 zbD:COk hY Tryz.prog zaR 42 (zjM g_)
 zaO:COk hY Tryz.prog zaR 43 (zfx g_)
 zb6:COk hY Tryz.prog zaR 96 (zkP g_)
 zci:COk hY Tryz.prog zaR 137 (zhT g_)
 zax:COk hY Tryz.prog zaR 146 (ze3 g_)
 zba:COk hY Tryz.prog zaR 171 (zkB g_)
 zaT:COk hY Tryz.prog zaR 191 (zrV g_)
 zcD:COk hY Tryz.prog zaR 212 (zs4 g_)
 zbk:COk hY Tryz.prog zaR 225 (zh2 g_)
 za4:COk hY Tryz.prog zaR 226 (zgM g_)
 zac:COk hY Tryz.prog zaR 100 (zcc g_)
 zbl:COk hY Tryz.prog zaR 228 (zfv g_)
 zcS:COk hY Tryz.prog zaR 238 (zkA g_)
 zbm:COk hY Tryz.prog zaR 227 (zg9 g_)
 za0:COk hY Tryz.prog zaR 138 (zh6 g_)
 zaN:COk hY Tryz.prog zaR 139 (zhV g_)
 zde:COk hY Tryz.prog zaR 141 (zlw g_)
 zbL:COk hY Tryz.prog zaR 170 (zlx g_)
 zdt:COk hY Tryz.prog zaR 144 (zmk g_)
 za5:COk hY Tryz.prog zaR 98 (zhH g_)
 zc5:COk hY Tryz.prog zaR 145 (zk4 g_)
def zb4(k:zi):Bool×zg×(List zf)×Unit->Option ((Bool×zg×(List zf)×Unit)⊕((List zf)×zg×Unit))| (b,d,a,())=>if(!d.bad)=true then(zL [125] (zq d)).bind λe=>if(!e.1)=true then(zaf (zq e.2.1)).bind λc=>if(c.1.Kind !=0)=true then if b=true then(zae [102,117,110,99,116,105,111,110] (zq c.2.1)).bind λf=>if f.1=true then(zB (zq f.2.1)).bind λl=>(k.zbD 39 (zq l.2.1)).bind λg=>(room (a.length+([(zy g.1)]:List zf).length)).bind λ_=>let m:=a++[(zy g.1)];some (.inl (b,(zq g.2.1),m,()))else(k.zaO (zq f.2.1)).bind λh=>(room (a.length+([(zy h.1)]:List zf).length)).bind λ_=>let n:=a++[(zy h.1)];some (.inl (b,(zq h.2.1),n,()))else(k.zaO (zq c.2.1)).bind λi=>(room (a.length+([(zy i.1)]:List zf).length)).bind λ_=>let o:=a++[(zy i.1)];some (.inl (b,(zq i.2.1),o,()))else some (.inr (a,(zq c.2.1),()))else some (.inr (a,(zq e.2.1),()))else some (.inr (a,(zq d),()))
def zdk(c:zi)(b:Bool)(x:zg):zGa:=Lp.loop (zb4 c) (b,(zq x),[],())
def zrT(b:zi):=callee Y [] zpQ zhE (u2 (zdk b))
def zrA(b:zi):zau Y (zar Y zhE):=(.loop [[7,5,1,2,2],[8,5,1,2,2],[6,1,2,2],[2,2,2]] ⟨[(0,.ptr 0 0),(1,.bool),(5,.own 1)],[.whole 53 53,.arr 25]⟩ (zb4 b) .nil .nil)
theorem zpS(b:zi)(d:zaj b):K8 24 (zrT b):=f8 (zrA b) Tryz.func24 (.cons zay (.cons zaM (.cons zbd (.cons zat (.cons d.zbD (.cons d.zaO .nil)))))) ⟨λz=>by kernel_rfl,trivial,trivial⟩
def zcG(l:zi)(b:zg)(m:Int)(n:Str)(o:Int)(p:Str)(c:Int)(d:Str)(e:Int)(f:Str)(q:List Str)(r:List zf)(g:List Str)(s:List zf):Option (zf×zg×Unit):=(zO [41] (zq b)).bind λh=>(zO [123] (zq h.1)).bind λi=>(l.zaW true (zq i.1)).bind λa=>(zO [125] (zq a.2.1)).bind λj=>some (⟨c,d,e,f,g,a.1⟩,(zq j.1),())
def zbp(s:zi)(d:zg)(e:Int)(f:Str)(g:Int)(h:Str)(i:Int)(j:Str)(k:Int)(l:Str)(m:List Str)(n:List zf)(a:List Str)(o:List zf):OT5:=fk ((zbb (zq d)).bind λb=>(room (a.length+([b.1]:List Str).length)).bind λ_=>let p:=a++[b.1];some (.inl ((zq b.2.1),e,f,g,h,i,j,k,l,m,n,p,o,()))) ((zbb (zq d)).bind λc=>fd ((room (a.length+([c.1]:List Str).length)).bind λ_=>let q:=a++[c.1];some (.inl ((zq c.2.1),e,f,g,h,i,j,k,l,m,n,q,o,()))))
def zaJ(o:zi):zg×Int×Str×Int×Str×Int×Str×Int×Str×(List Str)×(List zf)×(List Str)×(List zf)×Unit->OT5| (p,b,c,d,e,f,g,h,i,j,k,a,l,())=>if(!p.bad)=true then(zL [41] (zq p)).bind λm=>if(!m.1)=true then let q:=(decide (((a.length:Nat):Int)>0));if q=true then(zO [44] (zq m.2.1)).bind λr=>zbp o (zq r.1) b c d e f g h i j k a l else zbp o (zq m.2.1) b c d e f g h i j k a l else zfT .inr (zcG o (zq m.2.1) b c d e f g h i j k a l)else zfT .inr (zcG o (zq p) b c d e f g h i j k a l)
def zd8(p:zi)(b:zg)(c:Int)(d:Str)(e:Int)(f:Str)(g:Int)(q:Str)(h:Int)(i:Str)(j:List Str)(k:List zf)(l:List Str)(m:List zf):Option (zf×zg×Unit):=(zbb (zq b)).bind λa=>(zO [40] (zq a.2.1)).bind λn=>Lp.loop (zaJ p) ((zq n.1),c,d,e,f,g,a.1,h,i,j,k,l,m,())
def zep(c:zi)(a:Int)(x:zg):Option (zf×zg×Unit):=if(a==39)=true then zd8 c (zq x) 0 [] 0 [] a [] 0 [] [] [] [] []else if(!x.bad)=true then(zaf (zq x)).bind λd=>if(d.1.Kind==1)=true then zd8 c (zq d.2.1) 0 [] 0 [] a [] 0 [] [] [] [] []else(zO [40] (zq d.2.1)).bind λe=>Lp.loop (zaJ c) ((zq e.1),0,[],0,[],a,[],0,[],[],[],[],[],())else(zO [40] (zq x)).bind λf=>Lp.loop (zaJ c) ((zq f.1),0,[],0,[],a,[],0,[],[],[],[],[],())
def zpM(b:zi):=callee Y [] zsz zlt (u2 (zep b))
def zpN(b:zi):zau Y (zar Y zlt):=(.join [[3,2,1,2,2],[2,2,2]] ⟨[(0,.ptr 0 0),(4,.ptr 1 0),(5,.ptr 2 0)],zoF⟩ (u13 (zd8 b)) (.loop [[7,5,1,2,2,2,2],[8,5,1,2,2,2,2],[6,1,2,2,2,2],[2,2,2,2,2]] ⟨[(0,.ptr 0 0),(4,.ptr 1 0),(5,.ptr 2 0)],zoF⟩ (zaJ b) (.join [[2,5,2,7,5,1,2,2,2,2],[6,2,7,5,1,2,2,2,2],[8,5,1,2,2,2,2],[6,1,2,2,2,2],[2,2,2,2,2]] ⟨[(0,.ptr 0 0),(4,.ptr 1 0),(5,.ptr 2 0)],zoF⟩ (u13 (zbp b)) .nil) (.join [[1,2,2,2,2,2],[2,2,2,2,2,2]] ⟨[(0,.ptr 0 0),(4,.ptr 1 0),(5,.ptr 2 0)],zoF⟩ (u13 (zcG b)) .nil)))
theorem zn3(b:zi)(d:zaj b):K8 42 (zpM b):=f8 (zpN b) Tryz.func42 (.cons zaM (.cons zbe (.cons zf9 (.cons zay (.cons d.zaW .nil))))) ⟨λz=>by kernel_rfl,⟨λz=>by kernel_rfl,⟨λz=>by kernel_rfl,⟨⟩⟩,⟨λz=>by kernel_rfl,⟨⟩⟩⟩⟩
def zcp(d:zi)(x:zg):Option (zf×zg×Unit):=(d.zb6 (zq x)).bind λb=>if(b.2.1||b.2.2.1.bad)=true then some ((zy b.1),(zq b.2.2.1),())else(zae [102,117,110,99,116,105,111,110] (zq b.2.2.1)).bind λi=>if i.1=true then(zaU (zq i.2.1)).bind λr=>some ((zy b.1),(zq r.1),())else(zL [123] (zq i.2.1)).bind λj=>if j.1=true then(d.za5 (zq j.2.1)).bind λl=>some ((zy l.1),(zq l.2.1),())else(zL [59] (zq j.2.1)).bind λk=>if k.1=true then(zB (zq k.2.1)).bind λs=>(za8 40).bind λh=>some (⟨h.1,h.2.1,h.2.2.1,h.2.2.2.1,[],[]⟩,(zq s.2.1),())else(zaf (zq k.2.1)).bind λa=>if(a.1.Kind==1)=true then fd (let u:=(IntKind.wrap .i64 (a.2.1.at_+1));(zas a.2.1.t u).bind λv=>if(v.Kind==5)=true then fd (let y:=(IntKind.wrap .i64 (a.2.1.at_+1));(zas a.2.1.t y).bind λz=>if(z.Text==[58])=true then(zB (zq a.2.1)).bind λm=>(zB (zq m.2.1)).bind λA=>(d.zaO (zq A.2.1)).bind λn=>(zaK 38 m.1.Text [(zy n.1)]).bind λB=>some ((zy B.1),(zq n.2.1),())else(d.zac false (zq a.2.1)).bind λo=>(zaL 24 [(zy o.1)]).bind λe=>(zaB (zq o.2.1)).bind λC=>some (⟨e.1,e.2.1,e.2.2.1,e.2.2.2.1,[],e.2.2.2.2.1⟩,(zq C.1),()))else(d.zac false (zq a.2.1)).bind λp=>(zaL 24 [(zy p.1)]).bind λf=>(zaB (zq p.2.1)).bind λD=>some (⟨f.1,f.2.1,f.2.2.1,f.2.2.2.1,[],f.2.2.2.2.1⟩,(zq D.1),()))else(d.zac false (zq a.2.1)).bind λq=>(zaL 24 [(zy q.1)]).bind λg=>(zaB (zq q.2.1)).bind λE=>some (⟨g.1,g.2.1,g.2.2.1,g.2.2.2.1,[],g.2.2.2.2.1⟩,(zq E.1),())
def zsI(b:zi):=callee Y [] zsl zlt (λz=>zcp b z.1)
theorem zqQ(b:zi)(d:zaj b):K8 43 (zsI b):=f8 zsp Tryz.func43 ((.cons d.zb6 (.cons zbd (.cons za2 (.cons zay (.cons d.za5 (.cons zat (.cons (COk.laid (COk.or zc1 zbF)) (.cons zaM (.cons d.zaO (.cons zeC (.cons d.zac (.cons zhS .nil)))))))))))):zcu hY Tryz.prog zaR [(96,(zkP b)),(40,(zbP)),(97,(zcT)),(39,(za9)),(98,(zhH b)),(41,(zaZ)),(23,(zeg Y [⟨[(0,.int .i64),(1,.nils)],[]⟩,⟨[(0,.int .i64),(1,.own 0)],[.arr 25]⟩,⟨[(0,.int .i64),(1,.sl 25)],[]⟩] (orC Y zee zdH (λz=>za8 z.1) (zbB)))),(25,(zcn)),(43,(zfx b)),(99,(zge)),(100,(zcc b)),(101,(zfX))]) trivial
def zg6(k:zi)(d:zg)(n:Int)(o:Str)(p:Int)(q:Str)(e:Int)(f:Str)(g:Int)(h:Str)(r:List Str)(s:List zf)(i:List Str)(a:List zf):Option (zf×Bool×zg×Unit):=fk ((k.zaN (zq d)).bind λb=>(room (a.length+([(zy b.1)]:List zf).length)).bind λ_=>let l:=a++[(zy b.1)];some (⟨e,f,g,h,i,l⟩,true,(zq b.2.1),())) ((k.zaN (zq d)).bind λc=>fd ((room (a.length+([(zy c.1)]:List zf).length)).bind λ_=>let m:=a++[(zy c.1)];some (⟨e,f,g,h,i,m⟩,true,(zq c.2.1),())))
def zhg(p:zi)(a:zg)(b:Int)(c:Str)(d:Int)(e:Str)(f:Int)(g:Str)(h:Int)(i:Str)(j:List Str)(k:List zf)(l:List Str)(m:List zf):Option (zf×Bool×zg×Unit):=(zB (zq a)).bind λn=>zg6 p (zq n.2.1) b c d e f g h i j k l m
def zcB(p:zi)(h:zg)(i:Int)(j:Str)(k:Int)(l:Str)(b:Int)(c:Str)(d:Int)(e:Str)(m:List Str)(n:List zf)(f:List Str)(g:List zf):Option (zf×Bool×zg×Unit):=(zae [101,108,115,101] (zq h)).bind λa=>if a.1=true then zhg p (zq a.2.1) i j k l b c d e m n f g else some (⟨b,c,d,e,f,g⟩,true,(zq a.2.1),())
def zcg(c:zi)(x:zg):Option (zf×Bool×zg×Unit):=if x.bad=true then some (⟨0,[],0,[],[],[]⟩,false,(zq x),())else(zaf (zq x)).bind λj=>if(j.1.Kind !=2)=true then some (⟨0,[],0,[],[],[]⟩,false,(zq j.2.1),())else(zB (zq j.2.1)).bind λa=>let L:=(a.1.Text==[118,97,114]);if L=true then(c.zci false (zq a.2.1)).bind λy=>(zaB (zq y.2.1)).bind λM=>some ((zy y.1),true,(zq M.1),())else let N:=(a.1.Text==[105,102]);if N=true then(c.za0 (zq a.2.1)).bind λk=>(zaL 26 [(zy k.1)]).bind λd=>fk ((c.zaN (zq k.2.1)).bind λl=>(room (d.2.2.2.2.1.length+([(zy l.1)]:List zf).length)).bind λ_=>let O:=d.2.2.2.2.1++[(zy l.1)];zcB c (zq l.2.1) 0 [] 0 [] d.1 d.2.1 d.2.2.1 d.2.2.2.1 [] [] [] O) ((c.zaN (zq k.2.1)).bind λm=>fd ((room (d.2.2.2.2.1.length+([(zy m.1)]:List zf).length)).bind λ_=>let P:=d.2.2.2.2.1++[(zy m.1)];zcB c (zq m.2.1) 0 [] 0 [] d.1 d.2.1 d.2.2.1 d.2.2.2.1 [] [] [] P))else let Q:=(a.1.Text==[119,104,105,108,101]);if Q=true then(c.za0 (zq a.2.1)).bind λn=>(zaL 27 [(zy n.1)]).bind λe=>fk ((c.zaN (zq n.2.1)).bind λo=>(room (e.2.2.2.2.1.length+([(zy o.1)]:List zf).length)).bind λ_=>let R:=e.2.2.2.2.1++[(zy o.1)];some (⟨e.1,e.2.1,e.2.2.1,e.2.2.2.1,[],R⟩,true,(zq o.2.1),())) ((c.zaN (zq n.2.1)).bind λp=>fd ((room (e.2.2.2.2.1.length+([(zy p.1)]:List zf).length)).bind λ_=>let S:=e.2.2.2.2.1++[(zy p.1)];some (⟨e.1,e.2.1,e.2.2.1,e.2.2.2.1,[],S⟩,true,(zq p.2.1),())))else let U:=(a.1.Text==[100,111]);if U=true then(c.zaN (zq a.2.1)).bind λz=>(zaL 28 [(zy z.1)]).bind λf=>(zbZ [119,104,105,108,101] (zq z.2.1)).bind λA=>fk ((c.za0 (zq A.1)).bind λq=>(room (f.2.2.2.2.1.length+([(zy q.1)]:List zf).length)).bind λ_=>let V:=f.2.2.2.2.1++[(zy q.1)];(zaB (zq q.2.1)).bind λW=>some (⟨f.1,f.2.1,f.2.2.1,f.2.2.2.1,[],V⟩,true,(zq W.1),())) ((c.za0 (zq A.1)).bind λr=>fd ((room (f.2.2.2.2.1.length+([(zy r.1)]:List zf).length)).bind λ_=>let X:=f.2.2.2.2.1++[(zy r.1)];(zaB (zq r.2.1)).bind λZ=>some (⟨f.1,f.2.1,f.2.2.1,f.2.2.2.1,[],X⟩,true,(zq Z.1),())))else let aa:=(a.1.Text==[102,111,114]);if aa=true then(c.zde (zq a.2.1)).bind λB=>some ((zy B.1),true,(zq B.2.1),())else let ab:=(a.1.Text==[98,114,101,97,107]);if ab=true then(zeO 31 (zq a.2.1)).bind λC=>some ((zy C.1),true,(zq C.2.1),())else let ac:=(a.1.Text==[99,111,110,116,105,110,117,101]);if ac=true then(zeO 32 (zq a.2.1)).bind λD=>some ((zy D.1),true,(zq D.2.1),())else let ad:=(a.1.Text==[114,101,116,117,114,110]);if ad=true then(za8 33).bind λg=>(zL [59] (zq a.2.1)).bind λs=>if(!s.1)=true then(zc4 (zq s.2.1)).bind λu=>if(!u.1)=true then(c.zac false (zq u.2.1)).bind λE=>(zaB (zq E.2.1)).bind λae=>some (⟨g.1,g.2.1,g.2.2.1,g.2.2.2.1,[],[(zy E.1)]⟩,true,(zq ae.1),())else(zaB (zq u.2.1)).bind λaf=>some (⟨g.1,g.2.1,g.2.2.1,g.2.2.2.1,[],[]⟩,true,(zq af.1),())else(zaB (zq s.2.1)).bind λag=>some (⟨g.1,g.2.1,g.2.2.1,g.2.2.2.1,[],[]⟩,true,(zq ag.1),())else let ah:=(a.1.Text==[116,104,114,111,119]);if ah=true then(zaf (zq a.2.1)).bind λv=>if v.1.Fresh=true then(zaU (zq v.2.1)).bind λai=>(c.zac false (zq ai.1)).bind λH=>(zaL 34 [(zy H.1)]).bind λh=>(zaB (zq H.2.1)).bind λaj=>some (⟨h.1,h.2.1,h.2.2.1,h.2.2.2.1,[],h.2.2.2.2.1⟩,true,(zq aj.1),())else(c.zac false (zq v.2.1)).bind λI=>(zaL 34 [(zy I.1)]).bind λi=>(zaB (zq I.2.1)).bind λak=>some (⟨i.1,i.2.1,i.2.2.1,i.2.2.2.1,[],i.2.2.2.2.1⟩,true,(zq ak.1),())else let al:=(a.1.Text==[116,114,121]);if al=true then(c.zdt (zq a.2.1)).bind λJ=>some ((zy J.1),true,(zq J.2.1),())else let am:=(a.1.Text==[115,119,105,116,99,104]);if am=true then(c.zc5 (zq a.2.1)).bind λK=>some ((zy K.1),true,(zq K.2.1),())else let an:=(IntKind.wrap .i64 (a.2.1.at_ -1));some (⟨0,[],0,[],[],[]⟩,false,⟨a.2.1.t,an,a.2.1.bad⟩,())
def zr2(b:zi):=callee Y [] zsl zhD (λz=>zcg b z.1)
def zr0(b:zi):zau Y (zar Y zhD):=(.join [[1,2,2,3,2,4,2,5,2,1,2,2,2],[2,2,2,3,2,4,2,5,2,1,2,2,2],[6,2,1,2,2,2],[2,2,2,2]] ⟨[(0,.ptr 0 0),(2,.ptr 1 0),(4,.ptr 2 0)],zoF⟩ (u13 (zcB b)) (.join [[1,3,2,2,2,3,2,4,2,5,2,1,2,2,2],[2,3,2,2,2,3,2,4,2,5,2,1,2,2,2],[6,2,1,2,2,2],[2,2,2,2]] ⟨[(0,.ptr 0 0),(2,.ptr 1 0),(4,.ptr 2 0)],zoF⟩ (u13 (zhg b)) (.join [[2,3,2,2,2,3,2,4,2,5,2,1,2,2,2],[6,2,1,2,2,2],[2,2,2,2]] ⟨[(0,.ptr 0 0),(2,.ptr 1 0),(4,.ptr 2 0)],zoF⟩ (u13 (zg6 b)) .nil)))
theorem zpO(b:zi)(d:zaj b):K8 96 (zr2 b):=f8 (zr0 b) Tryz.func96 ((.cons zaM (.cons zat (.cons d.zci (.cons zhS (.cons d.za0 (.cons (COk.laid (COk.or zc1 zbF)) (.cons d.zaN (.cons zja (.cons d.zde (.cons zr3 (.cons zay (.cons zkv (.cons d.zac (.cons za2 (.cons d.zdt (.cons d.zc5 (.cons zbd .nil))))))))))))))))):zcu hY Tryz.prog zaR [(25,(zcn)),(41,(zaZ)),(137,(zhT b)),(101,(zfX)),(138,(zh6 b)),(23,(zeg Y [⟨[(0,.int .i64),(1,.nils)],[]⟩,⟨[(0,.int .i64),(1,.own 0)],[.arr 25]⟩,⟨[(0,.int .i64),(1,.sl 25)],[]⟩] (orC Y zee zdH (λz=>za8 z.1) (zbB)))),(139,(zhV b)),(140,(zgu)),(141,(zlw b)),(142,(zly)),(39,(za9)),(143,(zkL)),(100,(zcc b)),(97,(zcT)),(144,(zmk b)),(145,(zk4 b)),(40,(zbP))]) ⟨λz=>by kernel_rfl,⟨λz=>by kernel_rfl,⟨λz=>by kernel_rfl,⟨⟩⟩⟩⟩
def zfh(r:zi)(h:Bool)(i:zg)(j:Int)(k:Str)(l:Int)(m:Str)(b:Int)(c:Str)(d:Int)(e:Str)(n:List Str)(o:List zf)(f:List Str)(g:List zf):OT3:=(zL [44] (zq i)).bind λa=>if(!a.1)=true then some (.inr (⟨b,c,d,e,f,g⟩,(zq a.2.1),()))else(zB (zq a.2.1)).bind λp=>some (.inl (h,(zq p.2.1),j,k,l,m,b,c,d,e,n,o,f,g,()))
def zcH(r:zi)(c:Bool)(d:zg)(e:Int)(f:Str)(g:Int)(h:Str)(i:Int)(j:Str)(k:Int)(l:Str)(a:zf)(m:List Str)(n:List zf)(o:List Str)(b:List zf):OT3:=(room (b.length+([(zy a)]:List zf).length)).bind λ_=>let p:=b++[(zy a)];zfh r c (zq d) e f g h i j k l m n o p
def zdY(e:zi):Bool×zg×Int×Str×Int×Str×Int×Str×Int×Str×(List Str)×(List zf)×(List Str)×(List zf)×Unit->OT3| (b,t,f,g,h,i,j,k,l,m,n,o,p,q,())=>(zbb (zq t)).bind λr=>(zaK 23 r.1 []).bind λa=>(zL [61] (zq r.2.1)).bind λc=>if c.1=true then(zB (zq c.2.1)).bind λu=>(e.zax b (zq u.2.1)).bind λs=>zcH e b (zq s.2.1) f g h i j k l m ⟨a.1.Kind,a.1.Name,a.1.Num,a.1.Text,a.1.Names,[(zy s.1)]⟩ n o p q else zcH e b (zq c.2.1) f g h i j k l m (zy a.1) n o p q
def zfA(d:zi)(c:Bool)(x:zg):Option (zf×zg×Unit):=(za8 22).bind λa=>Lp.loop (zdY d) (c,(zq x),0,[],0,[],a.1,a.2.1,a.2.2.1,a.2.2.2.1,[],[],[],[],())
def zsv(b:zi):=callee Y [] zpQ zlt (u2 (zfA b))
def ztk(b:zi):zau Y (zar Y zlt):=(.loop [[7,5,2,2],[8,5,2,2],[6,2,2]] ⟨[(0,.ptr 0 0),(1,.bool),(4,.ptr 1 0),(5,.ptr 2 0)],zoF⟩ (zdY b) (.join [[1,2,2,5,7,5,2,2],[2,2,2,5,7,5,2,2],[6,7,5,2,2],[8,5,2,2],[6,2,2]] ⟨[(0,.ptr 0 0),(1,.bool),(4,.ptr 1 0),(5,.ptr 2 0),(6,.ptr 3 0)],[.whole 53 53,oc0 4 5,oc0 6 7,.whole 25 25,.arr 9,.arr 25,.arr 9,.arr 25]⟩ (u15 (zcH b)) (.join [[1,1,2,2,2,5,7,5,2,2],[2,1,2,2,2,5,7,5,2,2],[2,2,2,2,5,7,5,2,2],[6,7,5,2,2],[8,5,2,2],[6,2,2]] ⟨[(0,.ptr 0 0),(1,.bool),(4,.ptr 1 0),(5,.ptr 2 0)],zoF⟩ (u14 (zfh b)) .nil)) .nil)
theorem zqk(b:zi)(d:zaj b):K8 137 (zsv b):=f8 (ztk b) Tryz.func137 ((.cons (COk.laid zc1) (.cons zf9 (.cons zeC (.cons zay (.cons zat (.cons d.zax .nil)))))):zcu hY Tryz.prog zaR [(23,(zeg Y [⟨[(0,.int .i64),(1,.nils)],[]⟩,⟨[(0,.int .i64),(1,.own 0)],[.arr 25]⟩,⟨[(0,.int .i64),(1,.sl 25)],[]⟩] (ziJ))),(94,(zgv)),(99,(zge)),(39,(za9)),(41,(zaZ)),(146,(ze3 b))]) ⟨λz=>by kernel_rfl,⟨λz=>by kernel_rfl,⟨λz=>by kernel_rfl,⟨⟩⟩⟩,trivial⟩
def zbx(k:zi)(d:Bool)(b:zg)(l:Int)(m:Str)(n:Int)(o:Str)(a:zf)(e:zl)(p:List Str)(q:List zf):Option (zf×zg×Unit):=(zdO (zy a)).bind λf=>if(!f.1)=true then(zaU (zq b)).bind λg=>some ((zy a),(zq g.1),())else(zB (zq b)).bind λh=>(k.zax d (zq h.2.1)).bind λc=>(zaK 20 e.Text [(zy a),(zy c.1)]).bind λi=>some ((zy i.1),(zq c.2.1),())
def zb3(c:zi)(d:Bool)(x:zg):Option (zf×zg×Unit):=if x.bad=true then some (⟨0,[],0,[],[],[]⟩,(zq x),())else(c.zba 3 d (zq x)).bind λa=>(zL [63] (zq a.2.1)).bind λg=>if g.1=true then(zB (zq g.2.1)).bind λp=>(c.zax false (zq p.2.1)).bind λn=>(zO [58] (zq n.2.1)).bind λq=>(c.zax d (zq q.1)).bind λo=>(zaL 19 [(zy a.1),(zy n.1),(zy o.1)]).bind λf=>some (⟨f.1,f.2.1,f.2.2.1,f.2.2.2.1,[],f.2.2.2.2.1⟩,(zq o.2.1),())else(zaf (zq g.2.1)).bind λe=>(zL [61] (zq e.2.1)).bind λh=>if(!h.1)=true then(zL [43,61] (zq h.2.1)).bind λi=>if(!i.1)=true then(zL [45,61] (zq i.2.1)).bind λj=>if(!j.1)=true then(zL [42,61] (zq j.2.1)).bind λk=>if(!k.1)=true then(zL [47,61] (zq k.2.1)).bind λl=>if(!l.1)=true then(zL [37,61] (zq l.2.1)).bind λm=>if(!m.1)=true then some ((zy a.1),(zq m.2.1),())else zbx c d (zq m.2.1) 0 [] 0 [] (zy a.1) (zc8 e.1) [] []else zbx c d (zq l.2.1) 0 [] 0 [] (zy a.1) (zc8 e.1) [] []else zbx c d (zq k.2.1) 0 [] 0 [] (zy a.1) (zc8 e.1) [] []else zbx c d (zq j.2.1) 0 [] 0 [] (zy a.1) (zc8 e.1) [] []else zbx c d (zq i.2.1) 0 [] 0 [] (zy a.1) (zc8 e.1) [] []else zbx c d (zq h.2.1) 0 [] 0 [] (zy a.1) (zc8 e.1) [] []
def zqT(b:zi):=callee Y [] zpQ zlt (u2 (zb3 b))
def zqV(b:zi):zau Y (zar Y zlt):=(.join [[1,1,2,2,2,2,2,2],[2,1,2,2,2,2,2,2],[2,2,2,2,2,2,2]] ⟨[(0,.ptr 0 0),(1,.bool),(4,.ptr 1 0),(5,.ptr 2 0),(7,.ptr 3 0)],[.whole 53 53,oc0 4 5,.whole 25 25,.whole 36 36,.arr 9,.arr 25]⟩ (u10 (zbx b)) .nil)
theorem zoJ(b:zi)(d:zaj b):K8 146 (zqT b):=f8 (zqV b) Tryz.func146 ((.cons d.zba (.cons zay (.cons zat (.cons d.zax (.cons zbe (.cons (COk.laid zbF) (.cons zaM (.cons ziU (.cons za2 (.cons zeC .nil)))))))))):zcu hY Tryz.prog zaR [(171,(zkB b)),(39,(za9)),(41,(zaZ)),(146,(ze3 b)),(95,(zbR)),(23,(zeg Y [⟨[(0,.int .i64),(1,.nils)],[]⟩,⟨[(0,.int .i64),(1,.own 0)],[.arr 25]⟩,⟨[(0,.int .i64),(1,.sl 25)],[]⟩] (zbB))),(25,(zcn)),(169,(zjj)),(97,(zcT)),(99,(zge))]) ⟨λz=>by kernel_rfl,⟨⟩⟩
def zbQ(q:zi):Int×Bool×zg×Int×Str×Int×Str×zf×(List Str)×(List zf)×Unit->Option ((Int×Bool×zg×Int×Str×Int×Str×zf×(List Str)×(List zf)×Unit)⊕(zf×zg×Unit))| (b,c,f,g,h,i,j,d,k,l,())=>(zda c (zq f)).bind λa=>let m:=((!a.2.2.1)||(a.2.1 !=b));if m=true then some (.inr ((zy d),(zq a.2.2.2.1),()))else(zB (zq a.2.2.2.1)).bind λn=>let o:=(IntKind.wrap .i64 (b+1));(q.zba o c (zq n.2.1)).bind λe=>some (.inl (b,c,(zq e.2.1),g,h,i,j,⟨a.1.Kind,a.1.Name,a.1.Num,a.1.Text,a.1.Names,[(zy d),(zy e.1)]⟩,k,l,()))
def zbr(c:zi)(b:Int)(f:Bool)(x:zg):Option (zf×zg×Unit):=if(decide (b>8))=true then(c.zaT (zq x)).bind λd=>some ((zy d.1),(zq d.2.1),())else let g:=(IntKind.wrap .i64 (b+1));(c.zba g f (zq x)).bind λe=>Lp.loop (zbQ c) (b,f,(zq e.2.1),0,[],0,[],(zy e.1),[],[],())
def zq1(b:zi):=callee Y [] zkx zlt (u3 (zbr b))
def zqU(b:zi):zau Y (zar Y zlt):=(.loop [[7,5,2,2,2],[8,5,2,2,2],[6,2,2,2]] ⟨[(0,.ptr 0 0),(1,.int .i64),(2,.bool),(6,.ptr 1 0),(7,.ptr 2 0)],zts⟩ (zbQ b) .nil .nil)
theorem zoH(b:zi)(d:zaj b):K8 171 (zq1 b):=f8 (zqU b) Tryz.func171 (.cons d.zaT (.cons d.zba (.cons zo0 (.cons zat .nil)))) ⟨λz=>by kernel_rfl,trivial,trivial⟩
def zdc(l:zi)(b:zg)(e:Int)(f:Str)(g:Int)(h:Str)(c:zf)(i:List Str)(j:List zf):Option (zf×zg×Unit):=fd ((zB (zq b)).bind λa=>(zaK 16 a.1.Text [(zy c)]).bind λd=>some ((zy d.1),(zq a.2.1),()))
def zhe(k:zi)(a:zg)(b:Int)(c:Str)(d:Int)(e:Str)(f:zf)(g:List Str)(h:List zf):Option (zf×zg×Unit):=(zaU (zq a)).bind λi=>zdc k (zq i.1) b c d e (zy f) g h
def zdS(j:zi)(b:zg)(c:Int)(d:Str)(e:Int)(f:Str)(a:zf)(g:List Str)(h:List zf):Option (zf×zg×Unit):=(zdO (zy a)).bind λk=>if(!k.1)=true then zhe j (zq b) c d e f (zy a) g h else zdc j (zq b) c d e f (zy a) g h
def zha(m:zi)(b:zg)(f:Int)(g:Str)(h:Int)(i:Str)(c:zl)(a:zf)(j:List Str)(k:List zf):Option (zf×zg×Unit):=(zdO (zy a)).bind λd=>if(!d.1)=true then(zaU (zq b)).bind λe=>some (⟨16,c.Text,1,[],[],[(zy a)]⟩,(zq e.1),())else some (⟨16,c.Text,1,[],[],[(zy a)]⟩,(zq b),())
def zg8(c:zi)(d:zg)(e:Int)(f:Str)(g:Int)(h:Str)(i:zl)(j:List Str)(k:List zf):Option (zf×zg×Unit):=(c.zaT (zq d)).bind λa=>zha c (zq a.2.1) e f g h (zc8 i) (zy a.1) j k
def zdb(k:zi)(a:zg)(b:Int)(c:Str)(d:Int)(e:Str)(f:zl)(g:List Str)(h:List zf):Option (zf×zg×Unit):=(zB (zq a)).bind λi=>zg8 k (zq i.2.1) b c d e (zc8 f) g h
def zdq(b:zi)(x:zg):Option (zf×zg×Unit):=(zaf (zq x)).bind λc=>(zL [45] (zq c.2.1)).bind λe=>if e.1=true then(zB (zq e.2.1)).bind λy=>(b.zaT (zq y.2.1)).bind λq=>(zaK 15 c.1.Text [(zy q.1)]).bind λz=>some ((zy z.1),(zq q.2.1),())else(zL [43] (zq e.2.1)).bind λf=>if f.1=true then(zB (zq f.2.1)).bind λA=>(b.zaT (zq A.2.1)).bind λr=>(zaK 15 c.1.Text [(zy r.1)]).bind λB=>some ((zy B.1),(zq r.2.1),())else(zL [33] (zq f.2.1)).bind λg=>if g.1=true then(zB (zq g.2.1)).bind λC=>(b.zaT (zq C.2.1)).bind λs=>(zaK 15 c.1.Text [(zy s.1)]).bind λD=>some ((zy D.1),(zq s.2.1),())else(zae [116,121,112,101,111,102] (zq g.2.1)).bind λh=>if h.1=true then(zB (zq h.2.1)).bind λE=>(b.zaT (zq E.2.1)).bind λt=>(zaK 15 c.1.Text [(zy t.1)]).bind λH=>some ((zy H.1),(zq t.2.1),())else(zae [100,101,108,101,116,101] (zq h.2.1)).bind λi=>if i.1=true then(zB (zq i.2.1)).bind λI=>(b.zaT (zq I.2.1)).bind λu=>(zaK 15 c.1.Text [(zy u.1)]).bind λJ=>some ((zy J.1),(zq u.2.1),())else(zae [118,111,105,100] (zq i.2.1)).bind λj=>if j.1=true then(zB (zq j.2.1)).bind λK=>(b.zaT (zq K.2.1)).bind λv=>(zaK 15 c.1.Text [(zy v.1)]).bind λL=>some ((zy L.1),(zq v.2.1),())else(zL [43,43] (zq j.2.1)).bind λk=>if k.1=true then zdb b (zq k.2.1) 0 [] 0 [] (zc8 c.1) [] []else(zL [45,45] (zq k.2.1)).bind λl=>if l.1=true then zdb b (zq l.2.1) 0 [] 0 [] (zc8 c.1) [] []else(b.zcD (zq l.2.1)).bind λd=>(zL [43,43] (zq d.2.1)).bind λm=>if m.1=true then(zaf (zq m.2.1)).bind λn=>if(!n.1.Fresh)=true then zdS b (zq n.2.1) 0 [] 0 [] (zy d.1) [] []else some ((zy d.1),(zq n.2.1),())else(zL [45,45] (zq m.2.1)).bind λo=>if o.1=true then(zaf (zq o.2.1)).bind λp=>if(!p.1.Fresh)=true then zdS b (zq p.2.1) 0 [] 0 [] (zy d.1) [] []else some ((zy d.1),(zq p.2.1),())else some ((zy d.1),(zq o.2.1),())
def zrJ(b:zi):=callee Y [] zsl zlt (λz=>zdq b z.1)
def zrU(b:zi):zau Y (zar Y zlt):=(.join [[1,3,2,4,2,5,1,2,2],[2,3,2,4,2,5,1,2,2],[6,1,2,2],[2,2,2]] ⟨[(0,.ptr 0 0),(2,.ptr 1 0),(3,.ptr 2 0)],zli⟩ (u8 (zdb b)) (.join [[1,2,3,2,4,2,5,1,2,2],[2,2,3,2,4,2,5,1,2,2],[6,1,2,2],[2,2,2]] ⟨[(0,.ptr 0 0),(2,.ptr 1 0),(3,.ptr 2 0)],zli⟩ (u8 (zg8 b)) (.join [[1,1,2,2,3,2,4,2,5,1,2,2],[2,1,2,2,3,2,4,2,5,1,2,2],[2,2,2,3,2,4,2,5,1,2,2],[6,1,2,2],[2,2,2]] ⟨[(0,.ptr 0 0),(2,.ptr 1 0),(3,.ptr 2 0),(4,.ptr 3 0)],[.whole 53 53,oc0 4 5,.whole 36 36,.whole 25 25,.arr 9,.arr 25]⟩ (u9 (zha b)) (.join [[1,1,3,2,1,2,2,2,2],[2,1,3,2,1,2,2,2,2],[2,3,2,1,2,2,2,2],[2,2,2,2,2]] ⟨[(0,.ptr 0 0),(2,.ptr 1 0),(5,.ptr 2 0)],zts⟩ (u8 (zdS b)) (.join [[3,2,1,3,2,1,2,2,2,2],[2,3,2,1,2,2,2,2],[2,2,2,2,2]] ⟨[(0,.ptr 0 0),(2,.ptr 1 0),(5,.ptr 2 0)],zts⟩ (u8 (zhe b)) (.join [[1,2,3,2,1,2,2,2,2],[2,2,3,2,1,2,2,2,2],[2,2,2,2,2]] ⟨[(0,.ptr 0 0),(2,.ptr 1 0),(5,.ptr 2 0)],zts⟩ (u8 (zdc b)) .nil))))))
theorem zpT(b:zi)(d:zaj b):K8 191 (zrJ b):=f8 (zrU b) Tryz.func191 (.cons zaM (.cons zay (.cons zat (.cons d.zaT (.cons zeC (.cons zbd (.cons d.zcD (.cons ziU (.cons za2 .nil))))))))) ⟨λz=>by kernel_rfl,⟨λz=>by kernel_rfl,⟨λz=>by kernel_rfl,⟨λz=>by kernel_rfl,⟨λz=>by kernel_rfl,⟨λz=>by kernel_rfl,⟨⟩⟩⟩⟩⟩⟩⟩
def zbG(p:zi):zg×Int×Str×Int×Str×zf×(List Str)×(List zf)×Unit->OT9| (e,f,g,h,i,a,j,k,())=>if(!e.bad)=true then(p.zbm (zy a) (zq e)).bind λd=>if d.2.1=true then some (.inl ((zq d.2.2.1),f,g,h,i,(zy d.1),j,k,()))else(zL [40] (zq d.2.2.1)).bind λl=>if l.1=true then(zB (zq l.2.1)).bind λq=>fk (fd ((p.zbl [41] false (zq q.2.1)).bind λm=>(room (([(zy a)]:List zf).length+m.1.length)).bind λ_=>let r:=[(zy a)]++m.1;(zaL 13 r).bind λb=>some (.inl ((zq m.2.1),f,g,h,i,⟨b.1,b.2.1,b.2.2.1,b.2.2.2.1,[],b.2.2.2.2.1⟩,j,k,())))) ((p.zbl [41] false (zq q.2.1)).bind λn=>(room (([(zy a)]:List zf).length+n.1.length)).bind λ_=>let s:=[(zy a)]++n.1;(zaL 13 s).bind λc=>some (.inl ((zq n.2.1),f,g,h,i,⟨c.1,c.2.1,c.2.2.1,c.2.2.2.1,[],c.2.2.2.2.1⟩,j,k,())))else some (.inr ((zy a),(zq l.2.1),()))else some (.inr ((zy a),(zq e),()))
def zdx(b:zi)(x:zg):Option (zf×zg×Unit):=(zae [110,101,119] (zq x)).bind λc=>if c.1=true then(zB (zq c.2.1)).bind λf=>(b.zbk (zq f.2.1)).bind λd=>Lp.loop (zbG b) ((zq d.2.1),0,[],0,[],(zy d.1),[],[],())else(b.za4 (zq c.2.1)).bind λe=>Lp.loop (zbG b) ((zq e.2.1),0,[],0,[],(zy e.1),[],[],())
def ztd(b:zi):=callee Y [] zsl zlt (λz=>zdx b z.1)
def zsx(b:zi):zau Y (zar Y zlt):=(.loop [[7,5,1,2,2,2],[8,5,1,2,2,2],[6,1,2,2,2],[2,2,2,2]] ⟨[(0,.ptr 0 0),(2,.ptr 1 0),(3,.ptr 2 0)],zts⟩ (zbG b) .nil .nil)
theorem zqG(b:zi)(d:zaj b):K8 212 (ztd b):=f8 (zsx b) Tryz.func212 ((.cons zbd (.cons zat (.cons d.zbk (.cons d.za4 (.cons d.zbm (.cons zay (.cons d.zbl (.cons (COk.laid zbF) .nil)))))))):zcu hY Tryz.prog zaR [(40,(zbP)),(41,(zaZ)),(225,(zh2 b)),(226,(zgM b)),(227,(zg9 b)),(39,(za9)),(228,(zfv b)),(23,(zeg Y [⟨[(0,.int .i64),(1,.nils)],[]⟩,⟨[(0,.int .i64),(1,.own 0)],[.arr 25]⟩,⟨[(0,.int .i64),(1,.sl 25)],[]⟩] (zbB)))]) ⟨λz=>by kernel_rfl,trivial,trivial⟩
def zbJ(h:zi):zg×Int×Str×Int×Str×zf×(List Str)×(List zf)×Unit->OT9| (i,j,k,l,m,c,n,o,())=>(h.zbm (zy c) (zq i)).bind λd=>if(!d.2.1)=true then(zL [40] (zq d.2.2.1)).bind λe=>if e.1=true then(zB (zq e.2.1)).bind λp=>(h.zbl [41] false (zq p.2.1)).bind λf=>(room (([(zy c)]:List zf).length+f.1.length)).bind λ_=>let q:=[(zy c)]++f.1;(zaL 14 q).bind λa=>some (.inr (⟨a.1,a.2.1,a.2.2.1,a.2.2.2.1,[],a.2.2.2.2.1⟩,(zq f.2.1),()))else(zaL 14 [(zy c)]).bind λb=>some (.inr (⟨b.1,b.2.1,b.2.2.1,b.2.2.2.1,[],b.2.2.2.2.1⟩,(zq e.2.1),()))else some (.inl ((zq d.2.2.1),j,k,l,m,(zy d.1),n,o,()))
def zfy(b:zi)(x:zg):Option (zf×zg×Unit):=(zae [110,101,119] (zq x)).bind λc=>if c.1=true then(zB (zq c.2.1)).bind λf=>(b.zbk (zq f.2.1)).bind λd=>Lp.loop (zbJ b) ((zq d.2.1),0,[],0,[],(zy d.1),[],[],())else(b.za4 (zq c.2.1)).bind λe=>Lp.loop (zbJ b) ((zq e.2.1),0,[],0,[],(zy e.1),[],[],())
def zsA(b:zi):=callee Y [] zsl zlt (λz=>zfy b z.1)
def zs6(b:zi):zau Y (zar Y zlt):=(.loop [[7,5,1,2,2,2],[8,5,1,2,2,2],[6,1,2,2,2],[2,2,2,2]] ⟨[(0,.ptr 0 0),(2,.ptr 1 0),(3,.ptr 2 0)],zts⟩ (zbJ b) .nil .nil)
theorem zqz(b:zi)(d:zaj b):K8 225 (zsA b):=f8 (zs6 b) Tryz.func225 ((.cons zbd (.cons zat (.cons d.zbk (.cons d.za4 (.cons d.zbm (.cons zay (.cons d.zbl (.cons (COk.laid zbF) .nil)))))))):zcu hY Tryz.prog zaR [(40,(zbP)),(41,(zaZ)),(225,(zh2 b)),(226,(zgM b)),(227,(zg9 b)),(39,(za9)),(228,(zfv b)),(23,(zeg Y [⟨[(0,.int .i64),(1,.nils)],[]⟩,⟨[(0,.int .i64),(1,.own 0)],[.arr 25]⟩,⟨[(0,.int .i64),(1,.sl 25)],[]⟩] (zbB)))]) ⟨λz=>by kernel_rfl,trivial,trivial⟩
def zc2(g:zi)(x:zg):Option (zf×zg×Unit):=if x.bad=true then some (⟨0,[],0,[],[],[]⟩,(zq x),())else(zaf (zq x)).bind λa=>if(a.1.Kind==1)=true then(zB (zq a.2.1)).bind λt=>(zaK 3 a.1.Text []).bind λu=>some ((zy u.1),(zq t.2.1),())else if(a.1.Kind==3)=true then(zB (zq a.2.1)).bind λv=>some (⟨1,[],a.1.Num,[],[],[]⟩,(zq v.2.1),())else if(a.1.Kind==4)=true then(zB (zq a.2.1)).bind λy=>some (⟨2,[],0,a.1.Text,[],[]⟩,(zq y.2.1),())else(zae [116,104,105,115] (zq a.2.1)).bind λh=>if h.1=true then(zB (zq h.2.1)).bind λz=>(za8 4).bind λc=>some (⟨c.1,c.2.1,c.2.2.1,c.2.2.2.1,[],[]⟩,(zq z.2.1),())else(zae [110,117,108,108] (zq h.2.1)).bind λi=>if i.1=true then(zB (zq i.2.1)).bind λA=>(za8 5).bind λd=>some (⟨d.1,d.2.1,d.2.2.1,d.2.2.2.1,[],[]⟩,(zq A.2.1),())else(zae [116,114,117,101] (zq i.2.1)).bind λj=>if j.1=true then(zB (zq j.2.1)).bind λB=>some (⟨6,[],1,[],[],[]⟩,(zq B.2.1),())else(zae [102,97,108,115,101] (zq j.2.1)).bind λk=>if k.1=true then(zB (zq k.2.1)).bind λC=>(za8 6).bind λe=>some (⟨e.1,e.2.1,e.2.2.1,e.2.2.2.1,[],[]⟩,(zq C.2.1),())else(zae [102,117,110,99,116,105,111,110] (zq k.2.1)).bind λl=>if l.1=true then(zB (zq l.2.1)).bind λD=>(g.zbD 10 (zq D.2.1)).bind λp=>some ((zy p.1),(zq p.2.1),())else(zL [40] (zq l.2.1)).bind λm=>if m.1=true then(zB (zq m.2.1)).bind λE=>(g.zac false (zq E.2.1)).bind λq=>(zO [41] (zq q.2.1)).bind λH=>some ((zy q.1),(zq H.1),())else(zL [91] (zq m.2.1)).bind λn=>if n.1=true then(zB (zq n.2.1)).bind λI=>(g.zbl [93] true (zq I.2.1)).bind λr=>(zgf 7 r.1).bind λb=>some (⟨b.1,b.2.1,b.2.2.1,b.2.2.2.1,[],b.2.2.2.2.1⟩,(zq r.2.1),())else(zL [123] (zq n.2.1)).bind λo=>if o.1=true then(zB (zq o.2.1)).bind λJ=>(g.zcS (zq J.2.1)).bind λs=>some ((zy s.1),(zq s.2.1),())else(zaU (zq o.2.1)).bind λK=>some (⟨0,[],0,[],[],[]⟩,(zq K.1),())
def zqf(b:zi):=callee Y [] zsl zlt (λz=>zc2 b z.1)
theorem zoi(b:zi)(d:zaj b):K8 226 (zqf b):=f8 zsp Tryz.func226 ((.cons zaM (.cons zat (.cons zeC (.cons zbd (.cons (COk.laid (COk.or zc1 zjm)) (.cons d.zbD (.cons zay (.cons d.zac (.cons zbe (.cons d.zbl (.cons d.zcS (.cons za2 .nil)))))))))))):zcu hY Tryz.prog zaR [(25,(zcn)),(41,(zaZ)),(99,(zge)),(40,(zbP)),(23,(zeg Y [⟨[(0,.int .i64),(1,.nils)],[]⟩,⟨[(0,.int .i64),(1,.own 0)],[.arr 25]⟩,⟨[(0,.int .i64),(1,.sl 25)],[]⟩] (orC Y zee zdH (λz=>za8 z.1) (zhj)))),(42,(zjM b)),(39,(za9)),(100,(zcc b)),(95,(zbR)),(228,(zfv b)),(238,(zkA b)),(97,(zcT))]) trivial
def zb2(o:zi):Bool×zg×Int×Str×Int×Str×zf×(List Str)×(List zf)×Unit->Option ((Bool×zg×Int×Str×Int×Str×zf×(List Str)×(List zf)×Unit)⊕(zf×zg×Unit))| (c,f,g,h,i,j,d,k,l,())=>(zL [44] (zq f)).bind λb=>if b.1=true then(zB (zq b.2.1)).bind λm=>fd ((o.zax c (zq m.2.1)).bind λe=>(zaL 21 [(zy d),(zy e.1)]).bind λa=>some (.inl (c,(zq e.2.1),g,h,i,j,⟨a.1,a.2.1,a.2.2.1,a.2.2.2.1,[],a.2.2.2.2.1⟩,k,l,())))else some (.inr ((zy d),(zq b.2.1),()))
def zce(d:zi)(c:Bool)(x:zg):Option (zf×zg×Unit):=(d.zax c (zq x)).bind λa=>Lp.loop (zb2 d) (c,(zq a.2.1),0,[],0,[],(zy a.1),[],[],())
def zrN(b:zi):=callee Y [] zpQ zlt (u2 (zce b))
def zrH(b:zi):zau Y (zar Y zlt):=(.loop [[7,5,1,2,2],[8,5,1,2,2],[6,1,2,2],[2,2,2]] ⟨[(0,.ptr 0 0),(1,.bool),(4,.ptr 1 0),(5,.ptr 2 0)],zts⟩ (zb2 b) .nil .nil)
theorem zpH(b:zi)(d:zaj b):K8 100 (zrN b):=f8 (zrH b) Tryz.func100 ((.cons d.zax (.cons zay (.cons zat (.cons (COk.laid zbF) .nil)))):zcu hY Tryz.prog zaR [(146,(ze3 b)),(39,(za9)),(41,(zaZ)),(23,(zeg Y [⟨[(0,.int .i64),(1,.nils)],[]⟩,⟨[(0,.int .i64),(1,.own 0)],[.arr 25]⟩,⟨[(0,.int .i64),(1,.sl 25)],[]⟩] (zbB)))]) ⟨λz=>by kernel_rfl,trivial,trivial⟩
def zcd(p:zi):Str×Bool×zg×(List zf)×Unit->Option ((Str×Bool×zg×(List zf)×Unit)⊕((List zf)×zg×Unit))| (a,c,d,b,())=>if(!d.bad)=true then(zL a (zq d)).bind λe=>if(!e.1)=true then(p.zax false (zq e.2.1)).bind λf=>(room (b.length+([(zy f.1)]:List zf).length)).bind λ_=>let g:=b++[(zy f.1)];(zL a (zq f.2.1)).bind λh=>if h.1=true then(zO a (zq h.2.1)).bind λj=>some (.inr (g,(zq j.1),()))else(zO [44] (zq h.2.1)).bind λk=>(zL a (zq k.1)).bind λi=>if(i.1&&(!c))=true then(zaU (zq i.2.1)).bind λl=>some (.inl (a,c,(zq l.1),g,()))else some (.inl (a,c,(zq i.2.1),g,()))else(zO a (zq e.2.1)).bind λm=>some (.inr (b,(zq m.1),()))else(zO a (zq d)).bind λn=>some (.inr (b,(zq n.1),()))
def zfz(d:zi)(b:Str)(c:Bool)(x:zg):zGa:=Lp.loop (zcd d) (b,c,(zq x),[],())
def zsw(b:zi):=callee Y [] zlq zhE (u3 (zfz b))
def zsU(b:zi):zau Y (zar Y zhE):=(.loop [[7,5,1,2,2],[8,5,1,2,2],[6,1,2,2],[2,2,2]] ⟨[(0,.ptr 0 0),(1,.str),(2,.bool),(7,.own 1)],[.whole 53 53,.arr 25]⟩ (zcd b) .nil .nil)
theorem zqq(b:zi)(d:zaj b):K8 228 (zsw b):=f8 (zsU b) Tryz.func228 (.cons zay (.cons d.zax (.cons zbe (.cons za2 .nil)))) ⟨λz=>by kernel_rfl,trivial,trivial⟩
def zeK(q:zi)(n:zg)(b:Int)(c:Str)(d:Int)(e:Str)(f:Int)(g:Str)(h:Int)(i:Str)(j:List Str)(k:List zf)(l:List Str)(m:List zf):OT5:=(zL [125] (zq n)).bind λa=>if(!a.1)=true then(zO [44] (zq a.2.1)).bind λo=>some (.inl ((zq o.1),b,c,d,e,f,g,h,i,j,k,l,m,()))else some (.inl ((zq a.2.1),b,c,d,e,f,g,h,i,j,k,l,m,()))
def zeR(v:zi)(h:zg)(i:Int)(j:Str)(k:Int)(l:Str)(m:Int)(n:Str)(o:Int)(p:Str)(a:Int)(b:Str)(c:Int)(d:Str)(q:List Str)(r:List zf)(s:List Str)(e:List zf)(f:List Str)(g:List zf):OT5:=(room (e.length+([⟨a,b,c,d,f,g⟩]:List zf).length)).bind λ_=>let t:=e++[⟨a,b,c,d,f,g⟩];zeK v (zq h) i j k l m n o p q r s t
def zeM(c:zi)(d:zg)(e:Int)(f:Str)(g:Int)(h:Str)(i:Int)(j:Str)(k:Int)(l:Str)(m:Int)(n:Str)(o:Int)(p:Str)(q:List Str)(r:List zf)(s:List Str)(t:List zf)(u:List Str)(v:List zf):OT5:=(c.zax false (zq d)).bind λa=>zeR c (zq a.2.1) e f g h i j k l m n o p q r s t u [(zy a.1)]
def zeQ(v:zi)(a:zg)(b:Int)(c:Str)(d:Int)(e:Str)(f:Int)(g:Str)(h:Int)(i:Str)(j:Int)(k:Str)(l:Int)(m:Str)(n:List Str)(o:List zf)(p:List Str)(q:List zf)(r:List Str)(s:List zf):OT5:=(zO [58] (zq a)).bind λt=>zeM v (zq t.1) b c d e f g h i j k l m n o p q r s
def zby(v:zi)(a:zg)(b:Int)(c:Str)(d:Int)(e:Str)(f:Int)(g:Str)(h:Int)(i:Str)(j:Int)(k:Str)(l:Int)(m:Str)(n:List Str)(o:List zf)(p:List Str)(q:List zf)(r:List Str)(s:List zf):OT5:=(zB (zq a)).bind λt=>zeQ v (zq t.2.1) b c d e f g h i j k l m n o p q r s
def zeJ(v:zi)(a:zg)(b:Int)(c:Str)(d:Int)(e:Str)(f:Int)(g:Str)(h:Int)(i:Str)(j:zl)(k:Int)(l:Str)(m:Int)(x:Str)(n:List Str)(o:List zf)(p:List Str)(q:List zf)(r:List Str)(s:List zf):OT5:=(zkc j.Text).bind λt=>zby v (zq a) b c d e f g h i k l m t.1 n o p q r s
def zbg(o:zi):zg×Int×Str×Int×Str×Int×Str×Int×Str×(List Str)×(List zf)×(List Str)×(List zf)×Unit->OT5| (p,h,i,j,k,b,c,d,e,l,m,f,g,())=>if(!p.bad)=true then(zL [125] (zq p)).bind λq=>if(!q.1)=true then(zaf (zq q.2.1)).bind λa=>if(a.1.Kind==1)=true then zeJ o (zq a.2.1) h i j k b c d e (zc8 a.1) 9 [] 0 [] l m f g [] []else if(a.1.Kind==2)=true then zeJ o (zq a.2.1) h i j k b c d e (zc8 a.1) 9 [] 0 [] l m f g [] []else if(a.1.Kind==3)=true then(zb9 a.1.Num).bind λr=>(zkc r.1).bind λs=>zby o (zq a.2.1) h i j k b c d e 9 [] 0 s.1 l m f g [] []else if(a.1.Kind==4)=true then zby o (zq a.2.1) h i j k b c d e 9 [] 0 a.1.Text l m f g [] []else(zaU (zq a.2.1)).bind λt=>zby o (zq t.1) h i j k b c d e 9 [] 0 [] l m f g [] []else(zO [125] (zq q.2.1)).bind λu=>some (.inr (⟨b,c,d,e,f,g⟩,(zq u.1),()))else(zO [125] (zq p)).bind λv=>some (.inr (⟨b,c,d,e,f,g⟩,(zq v.1),()))
def ze2(b:zi)(x:zg):Option (zf×zg×Unit):=Lp.loop (zbg b) ((zq x),0,[],0,[],8,[],0,[],[],[],[],[],())
def zqZ(b:zi):=callee Y [] zsl zlt (λz=>ze2 b z.1)
def zq0(b:zi):zau Y (zar Y zlt):=(.loop [[7,5,1,2,2],[8,5,1,2,2],[6,1,2,2],[2,2,2]] ⟨[(0,.ptr 0 0),(2,.ptr 1 0),(3,.ptr 2 0)],zoF⟩ (zbg b) (.join [[3,2,5,2,1,2,2,5,2,7,5,1,2,2],[6,2,1,2,2,5,2,7,5,1,2,2],[2,2,2,5,2,7,5,1,2,2],[6,2,7,5,1,2,2],[8,5,1,2,2],[6,1,2,2],[2,2,2]] ⟨[(0,.ptr 0 0),(2,.ptr 1 0),(3,.ptr 2 0),(4,.ptr 3 0),(5,.ptr 4 0)],[.whole 53 53,oc0 5 6,oc0 7 8,.whole 36 36,oc0 9 10,.arr 9,.arr 25,.arr 9,.arr 25,.arr 9,.arr 25]⟩ (u20 (zeJ b)) (.join [[1,2,2,2,5,2,7,5,1,2,2],[2,2,2,2,5,2,7,5,1,2,2],[6,2,7,5,1,2,2],[8,5,1,2,2],[6,1,2,2],[2,2,2]] ⟨[(0,.ptr 0 0),(2,.ptr 1 0),(3,.ptr 2 0),(5,.ptr 3 0)],om7⟩ (u19 (zby b)) (.join [[1,2,2,2,2,5,2,7,5,1,2,2],[2,2,2,2,2,5,2,7,5,1,2,2],[6,2,7,5,1,2,2],[8,5,1,2,2],[6,1,2,2],[2,2,2]] ⟨[(0,.ptr 0 0),(2,.ptr 1 0),(3,.ptr 2 0),(5,.ptr 3 0)],om7⟩ (u19 (zeQ b)) (.join [[1,2,2,2,2,2,5,2,7,5,1,2,2],[2,2,2,2,2,2,5,2,7,5,1,2,2],[6,2,7,5,1,2,2],[8,5,1,2,2],[6,1,2,2],[2,2,2]] ⟨[(0,.ptr 0 0),(2,.ptr 1 0),(3,.ptr 2 0),(5,.ptr 3 0)],om7⟩ (u19 (zeM b)) (.join [[1,2,2,2,2,2,2,5,2,7,5,1,2,2],[2,2,2,2,2,2,2,5,2,7,5,1,2,2],[6,2,7,5,1,2,2],[8,5,1,2,2],[6,1,2,2],[2,2,2]] ⟨[(0,.ptr 0 0),(2,.ptr 1 0),(3,.ptr 2 0),(5,.ptr 3 0)],om7⟩ (u19 (zeR b)) (.join [[1,2,2,2,2,2,2,2,5,2,7,5,1,2,2],[2,2,2,2,2,2,2,2,5,2,7,5,1,2,2],[6,2,7,5,1,2,2],[8,5,1,2,2],[6,1,2,2],[2,2,2]] ⟨[(0,.ptr 0 0),(2,.ptr 1 0),(3,.ptr 2 0)],zoF⟩ (u13 (zeK b)) .nil)))))) .nil)
theorem zoT(b:zi)(d:zaj b):K8 238 (zqZ b):=f8 (zq0 b) Tryz.func238 (.cons zay (.cons zaM (.cons zvT (.cons zCE (.cons za2 (.cons zbe (.cons zat (.cons d.zax .nil)))))))) ⟨λz=>by kernel_rfl,⟨λz=>by kernel_rfl,⟨λz=>by kernel_rfl,⟨λz=>by kernel_rfl,⟨λz=>by kernel_rfl,⟨λz=>by kernel_rfl,⟨λz=>by kernel_rfl,⟨⟩⟩⟩⟩⟩⟩⟩,trivial⟩
def zdG(l:zi)(b:zg)(c:zf)(e:Int)(f:Str)(g:Int)(h:Str)(i:List Str)(j:List zf):Option (zf×Bool×zg×Unit):=fd ((zB (zq b)).bind λa=>(zaK 11 a.1.Text [(zy c)]).bind λd=>some ((zy d.1),true,(zq a.2.1),()))
def zc9(c:zi)(n:zf)(x:zg):Option (zf×Bool×zg×Unit):=(zL [46] (zq x)).bind λd=>if d.1=true then(zB (zq d.2.1)).bind λi=>(zaf (zq i.2.1)).bind λe=>if(e.1.Kind !=1)=true then(zaf (zq e.2.1)).bind λf=>if(f.1.Kind !=2)=true then(zaU (zq f.2.1)).bind λj=>zdG c (zq j.1) (zy n) 0 [] 0 [] [] []else zdG c (zq f.2.1) (zy n) 0 [] 0 [] [] []else zdG c (zq e.2.1) (zy n) 0 [] 0 [] [] []else(zL [91] (zq d.2.1)).bind λg=>if g.1=true then(zB (zq g.2.1)).bind λk=>(c.zac false (zq k.2.1)).bind λh=>(zO [93] (zq h.2.1)).bind λl=>(zaL 12 [(zy n),(zy h.1)]).bind λa=>some (⟨a.1,a.2.1,a.2.2.1,a.2.2.2.1,[],a.2.2.2.2.1⟩,true,(zq l.1),())else some ((zy n),false,(zq g.2.1),())
def zqX(b:zi):=callee Y [] zkz zhD (u2 (zc9 b))
def zqS(b:zi):zau Y (zar Y zhD):=(.join [[1,2,2,3,2,5,1,2],[2,2,2,3,2,5,1,2],[6,1,2],[2,2]] ⟨[(0,.ptr 0 0),(3,.ptr 1 0),(4,.ptr 2 0)],[.whole 53 53,.whole 25 25,oc0 3 4,.arr 9,.arr 25]⟩ (u8 (zdG b)) .nil)
theorem zoI(b:zi)(d:zaj b):K8 227 (zqX b):=f8 (zqS b) Tryz.func227 ((.cons zay (.cons zat (.cons zaM (.cons za2 (.cons d.zac (.cons zbe (.cons (COk.laid zbF) (.cons zeC .nil)))))))):zcu hY Tryz.prog zaR [(39,(za9)),(41,(zaZ)),(25,(zcn)),(97,(zcT)),(100,(zcc b)),(95,(zbR)),(23,(zeg Y [⟨[(0,.int .i64),(1,.nils)],[]⟩,⟨[(0,.int .i64),(1,.own 0)],[.arr 25]⟩,⟨[(0,.int .i64),(1,.sl 25)],[]⟩] (zbB))),(99,(zge))]) ⟨λz=>by kernel_rfl,⟨⟩⟩
def zdy(e:zi)(x:zg):Option (zf×zg×Unit):=(zO [40] (zq x)).bind λb=>(e.zac false (zq b.1)).bind λa=>(zO [41] (zq a.2.1)).bind λc=>some ((zy a.1),(zq c.1),())
def zsW(b:zi):=callee Y [] zsl zlt (λz=>zdy b z.1)
theorem zp2(b:zi)(d:zaj b):K8 138 (zsW b):=f8 zsp Tryz.func138 (.cons zbe (.cons d.zac .nil)) trivial
def zdw(d:zi)(x:zg):Option (zf×zg×Unit):=(d.zaO (zq x)).bind λa=>if(a.1.Kind==25)=true then some ((zy a.1),(zq a.2.1),())else(zaL 25 [(zy a.1)]).bind λb=>some (⟨b.1,b.2.1,b.2.2.1,b.2.2.2.1,[],b.2.2.2.2.1⟩,(zq a.2.1),())
def zsL(b:zi):=callee Y [] zsl zlt (λz=>zdw b z.1)
theorem zp5(b:zi)(d:zaj b):K8 139 (zsL b):=f8 zsp Tryz.func139 ((.cons d.zaO (.cons (COk.laid zbF) .nil)):zcu hY Tryz.prog zaR [(43,(zfx b)),(23,(zeg Y [⟨[(0,.int .i64),(1,.nils)],[]⟩,⟨[(0,.int .i64),(1,.own 0)],[.arr 25]⟩,⟨[(0,.int .i64),(1,.sl 25)],[]⟩] (zbB)))]) trivial
def zfi(h:zi)(c:zg)(i:Int)(j:Str)(k:Int)(l:Str)(d:zf)(e:zf)(f:zf)(m:List Str)(n:List zf):Option (zf×zg×Unit):=(h.zaN (zq c)).bind λb=>(zaL 29 [(zy d),(zy e),(zy f),(zy b.1)]).bind λa=>some (⟨a.1,a.2.1,a.2.2.1,a.2.2.2.1,[],a.2.2.2.2.1⟩,(zq b.2.1),())
def zfg(c:zi)(d:zg)(e:Int)(f:Str)(g:Int)(h:Str)(i:zf)(j:zf)(k:List Str)(l:List zf):Option (zf×zg×Unit):=(c.zbL [41] (zq d)).bind λa=>zfi c (zq a.2.1) e f g h (zy i) (zy j) (zy a.1) k l
def zff(c:zi)(d:zg)(e:Int)(f:Str)(g:Int)(h:Str)(i:zf)(j:List Str)(k:List zf):Option (zf×zg×Unit):=(c.zbL [59] (zq d)).bind λa=>zfg c (zq a.2.1) e f g h (zy i) (zy a.1) j k
def zcI(k:zi)(a:zg)(b:Int)(c:Str)(d:Int)(e:Str)(f:zf)(g:List Str)(h:List zf):Option (zf×zg×Unit):=(zO [59] (zq a)).bind λi=>zff k (zq i.1) b c d e (zy f) g h
def zhF(h:zi)(c:zg)(i:Int)(j:Str)(k:Int)(l:Str)(d:zf)(e:zf)(m:List Str)(n:List zf):Option (zf×zg×Unit):=(zO [41] (zq c)).bind λf=>(h.zaN (zq f.1)).bind λb=>(zaL 30 [(zy d),(zy e),(zy b.1)]).bind λa=>some (⟨a.1,a.2.1,a.2.2.1,a.2.2.2.1,[],a.2.2.2.2.1⟩,(zq b.2.1),())
def zhC(c:zi)(d:zg)(e:Int)(f:Str)(g:Int)(h:Str)(i:zf)(j:List Str)(k:List zf):Option (zf×zg×Unit):=(c.zac false (zq d)).bind λa=>zhF c (zq a.2.1) e f g h (zy i) (zy a.1) j k
def zhv(k:zi)(a:zg)(b:Int)(c:Str)(d:Int)(e:Str)(f:zf)(g:List Str)(h:List zf):Option (zf×zg×Unit):=(zB (zq a)).bind λi=>zhC k (zq i.2.1) b c d e (zy f) g h
def zbI(j:zi)(l:Bool)(k:zg)(a:Int)(b:Str)(c:Int)(d:Str)(e:zf)(f:List Str)(g:List zf):Option (zf×zg×Unit):=if l=true then(zae [105,110] (zq k)).bind λh=>if h.1=true then zhv j (zq h.2.1) a b c d (zy e) f g else zcI j (zq h.2.1) a b c d (zy e) f g else zcI j (zq k) a b c d (zy e) f g
def zfu(b:zi)(x:zg):Option (zf×zg×Unit):=(zO [40] (zq x)).bind λh=>(za8 42).bind λc=>(zae [118,97,114] (zq h.1)).bind λe=>if e.1=true then(zB (zq e.2.1)).bind λi=>(b.zci true (zq i.2.1)).bind λd=>let j:=((d.1.L.length:Nat):Int);(if(j==1)=true then(zas d.1.L 0).bind λk=>let l:=((k.L.length:Nat):Int);some (l==0)else some false).bind λm=>zbI b m (zq d.2.1) 0 [] 0 [] (zy d.1) [] []else(zL [59] (zq e.2.1)).bind λf=>if(!f.1)=true then(b.zac true (zq f.2.1)).bind λg=>(zdO (zy g.1)).bind λn=>zbI b n.1 (zq g.2.1) 0 [] 0 [] (zy g.1) [] []else zbI b false (zq f.2.1) 0 [] 0 [] ⟨c.1,c.2.1,c.2.2.1,c.2.2.2.1,[],[]⟩ [] []
def zsZ(b:zi):=callee Y [] zsl zlt (λz=>zfu b z.1)
def ztj(b:zi):zau Y (zar Y zlt):=(.join [[1,1,2,2,2,2,2],[2,1,2,2,2,2,2],[2,2,2,2,2,2]] ⟨[(0,.ptr 0 0),(2,.ptr 1 0),(3,.ptr 2 0),(4,.bool)],zts⟩ (u9 (zbI b)) (.join [[1,3,2,1,2,2,2,2,2],[2,3,2,1,2,2,2,2,2],[2,2,2,2,2,2]] ⟨[(0,.ptr 0 0),(2,.ptr 1 0),(3,.ptr 2 0)],zts⟩ (u8 (zhv b)) (.join [[1,2,3,2,1,2,2,2,2,2],[2,2,3,2,1,2,2,2,2,2],[2,2,2,2,2,2]] ⟨[(0,.ptr 0 0),(2,.ptr 1 0),(3,.ptr 2 0)],zts⟩ (u8 (zhC b)) (.join [[1,2,2,3,2,1,2,2,2,2,2],[2,2,2,3,2,1,2,2,2,2,2],[2,2,2,2,2,2]] ⟨[(0,.ptr 0 0),(2,.ptr 1 0),(3,.ptr 2 0),(5,.ptr 3 0)],zSz⟩ (u9 (zhF b)) (.join [[1,2,2,2,2,2,2],[2,2,2,2,2,2,2]] ⟨[(0,.ptr 0 0),(2,.ptr 1 0),(3,.ptr 2 0)],zts⟩ (u8 (zcI b)) (.join [[1,2,2,2,2,2,2,2],[2,2,2,2,2,2,2,2]] ⟨[(0,.ptr 0 0),(2,.ptr 1 0),(3,.ptr 2 0)],zts⟩ (u8 (zff b)) (.join [[1,2,2,2,2,2,2,2,2],[2,2,2,2,2,2,2,2,2]] ⟨[(0,.ptr 0 0),(2,.ptr 1 0),(3,.ptr 2 0),(6,.ptr 3 0)],zSz⟩ (u9 (zfg b)) (.join [[1,2,2,2,2,2,2,2,2,2],[2,2,2,2,2,2,2,2,2,2]] ⟨[(0,.ptr 0 0),(2,.ptr 1 0),(3,.ptr 2 0),(6,.ptr 3 0),(7,.ptr 4 0)],[.whole 53 53,oc0 5 6,.whole 25 25,.whole 25 25,.whole 25 25,.arr 9,.arr 25]⟩ (u10 (zfi b)) .nil))))))))
theorem zqp(b:zi)(d:zaj b):K8 141 (zsZ b):=f8 (ztj b) Tryz.func141 ((.cons zbe (.cons (COk.laid (COk.or zc1 zbF)) (.cons zbd (.cons zat (.cons d.zci (.cons zay (.cons d.zac (.cons ziU (.cons d.zbL (.cons d.zaN .nil)))))))))):zcu hY Tryz.prog zaR [(95,(zbR)),(23,(zeg Y [⟨[(0,.int .i64),(1,.nils)],[]⟩,⟨[(0,.int .i64),(1,.own 0)],[.arr 25]⟩,⟨[(0,.int .i64),(1,.sl 25)],[]⟩] (orC Y zee zdH (λz=>za8 z.1) (zbB)))),(40,(zbP)),(41,(zaZ)),(137,(zhT b)),(39,(za9)),(100,(zcc b)),(169,(zjj)),(170,(zlx b)),(139,(zhV b))]) ⟨λz=>by kernel_rfl,⟨λz=>by kernel_rfl,⟨λz=>by kernel_rfl,⟨λz=>by kernel_rfl,⟨λz=>by kernel_rfl,⟨λz=>by kernel_rfl,⟨λz=>by kernel_rfl,⟨λz=>by kernel_rfl,⟨⟩⟩⟩⟩⟩⟩⟩⟩⟩
def zdz(g:zi)(s:Str)(x:zg):Option (zf×zg×Unit):=(za8 42).bind λa=>(zL s (zq x)).bind λb=>if(!b.1)=true then(g.zac false (zq b.2.1)).bind λc=>(zO s (zq c.2.1)).bind λd=>some ((zy c.1),(zq d.1),())else(zO s (zq b.2.1)).bind λe=>some (⟨a.1,a.2.1,a.2.2.1,a.2.2.2.1,[],[]⟩,(zq e.1),())
def zsJ(b:zi):=callee Y [] zsu zlt (u2 (zdz b))
theorem zqu(b:zi)(d:zaj b):K8 170 (zsJ b):=f8 zsp Tryz.func170 ((.cons (COk.laid zc1) (.cons zay (.cons d.zac (.cons zbe .nil)))):zcu hY Tryz.prog zaR [(23,(zeg Y [⟨[(0,.int .i64),(1,.nils)],[]⟩,⟨[(0,.int .i64),(1,.own 0)],[.arr 25]⟩,⟨[(0,.int .i64),(1,.sl 25)],[]⟩] (ziJ))),(39,(za9)),(100,(zcc b)),(95,(zbR))]) trivial
def zia(k:zi)(c:zg)(l:Int)(m:Str)(n:Int)(o:Str)(d:Int)(e:Str)(f:Int)(g:Str)(p:List Str)(q:List zf)(h:List Str)(a:List zf):Option (zf×zg×Unit):=(k.za5 (zq c)).bind λb=>(zas a 2).bind λ_=>(zas a 2).bind λr=>let i:=a.set (2:Int).toNat (zy b.1);some (⟨d,e,f,g,h,i⟩,(zq b.2.1),())
def zh5(p:zi)(a:zg)(b:Int)(c:Str)(d:Int)(e:Str)(f:Int)(g:Str)(h:Int)(i:Str)(j:List Str)(k:List zf)(l:List Str)(m:List zf):Option (zf×zg×Unit):=(zB (zq a)).bind λn=>zia p (zq n.2.1) b c d e f g h i j k l m
def zbT(p:zi)(h:zg)(i:Int)(j:Str)(k:Int)(l:Str)(b:Int)(c:Str)(d:Int)(e:Str)(m:List Str)(n:List zf)(f:List Str)(g:List zf):Option (zf×zg×Unit):=(zae [102,105,110,97,108,108,121] (zq h)).bind λa=>if a.1=true then zh5 p (zq a.2.1) i j k l b c d e m n f g else some (⟨b,c,d,e,f,g⟩,(zq a.2.1),())
def zfY(c:zi)(x:zg):Option (zf×zg×Unit):=(c.za5 (zq x)).bind λh=>(za8 42).bind λd=>(za8 42).bind λe=>(zaL 35 [(zy h.1),⟨d.1,d.2.1,d.2.2.1,d.2.2.2.1,[],[]⟩,⟨e.1,e.2.1,e.2.2.1,e.2.2.2.1,[],[]⟩]).bind λa=>(zae [99,97,116,99,104] (zq h.2.1)).bind λf=>if f.1=true then(zB (zq f.2.1)).bind λk=>(zO [40] (zq k.2.1)).bind λl=>(zbb (zq l.1)).bind λi=>(zO [41] (zq i.2.1)).bind λm=>(c.za5 (zq m.1)).bind λj=>(zas a.2.2.2.2.1 1).bind λ_=>(zas a.2.2.2.2.1 1).bind λp=>let n:=a.2.2.2.2.1.set (1:Int).toNat (zy j.1);zbT c (zq j.2.1) 0 [] 0 [] a.1 i.1 a.2.2.1 a.2.2.2.1 [] [] [] n else(zae [102,105,110,97,108,108,121] (zq f.2.1)).bind λg=>if(!g.1)=true then(zaU (zq g.2.1)).bind λo=>zbT c (zq o.1) 0 [] 0 [] a.1 a.2.1 a.2.2.1 a.2.2.2.1 [] [] [] a.2.2.2.2.1 else zbT c (zq g.2.1) 0 [] 0 [] a.1 a.2.1 a.2.2.1 a.2.2.2.1 [] [] [] a.2.2.2.2.1
def ztG(b:zi):=callee Y [] zsl zlt (λz=>zfY b z.1)
def ztB(b:zi):zau Y (zar Y zlt):=(.join [[1,1,2,2,2],[2,1,2,2,2],[2,2,2,2]] ⟨[(0,.ptr 0 0),(2,.ptr 1 0),(3,.ptr 2 0)],zoF⟩ (u13 (zbT b)) (.join [[1,3,2,1,2,2,2],[2,3,2,1,2,2,2],[2,2,2,2]] ⟨[(0,.ptr 0 0),(2,.ptr 1 0),(3,.ptr 2 0)],zoF⟩ (u13 (zh5 b)) (.join [[2,3,2,1,2,2,2],[2,2,2,2]] ⟨[(0,.ptr 0 0),(2,.ptr 1 0),(3,.ptr 2 0)],zoF⟩ (u13 (zia b)) .nil)))
theorem zq2(b:zi)(d:zaj b):K8 144 (ztG b):=f8 (ztB b) Tryz.func144 ((.cons d.za5 (.cons (COk.laid (COk.or zc1 zbF)) (.cons zbd (.cons zat (.cons zbe (.cons zf9 (.cons za2 .nil))))))):zcu hY Tryz.prog zaR [(98,(zhH b)),(23,(zeg Y [⟨[(0,.int .i64),(1,.nils)],[]⟩,⟨[(0,.int .i64),(1,.own 0)],[.arr 25]⟩,⟨[(0,.int .i64),(1,.sl 25)],[]⟩] (orC Y zee zdH (λz=>za8 z.1) (zbB)))),(40,(zbP)),(41,(zaZ)),(95,(zbR)),(94,(zgv)),(97,(zcT))]) ⟨λz=>by kernel_rfl,⟨λz=>by kernel_rfl,⟨λz=>by kernel_rfl,⟨⟩⟩⟩⟩
def zdn(f:zi)(x:zg):Option (zf×zg×Unit):=(zO [123] (zq x)).bind λc=>(f.zaW false (zq c.1)).bind λb=>(zO [125] (zq b.2.1)).bind λd=>(zgf 25 b.1).bind λa=>some (⟨a.1,a.2.1,a.2.2.1,a.2.2.2.1,[],a.2.2.2.2.1⟩,(zq d.1),())
def zrG(b:zi):=callee Y [] zsl zlt (λz=>zdn b z.1)
theorem zpP(b:zi)(d:zaj b):K8 98 (zrG b):=f8 zsp Tryz.func98 ((.cons zbe (.cons d.zaW (.cons (COk.laid zjm) .nil))):zcu hY Tryz.prog zaR [(95,(zbR)),(24,(zfj b)),(23,(zeg Y [⟨[(0,.int .i64),(1,.nils)],[]⟩,⟨[(0,.int .i64),(1,.own 0)],[.arr 25]⟩,⟨[(0,.int .i64),(1,.sl 25)],[]⟩] (zhj)))]) trivial
def zb0(x:zi)(h:Bool)(i:zg)(j:Int)(k:Str)(l:Int)(m:Str)(n:Int)(o:Str)(p:Int)(q:Str)(a:Int)(b:Str)(c:Int)(d:Str)(r:List Str)(s:List zf)(t:List Str)(e:List zf)(f:List Str)(g:List zf):OT3:=(room (e.length+([⟨a,b,c,d,f,g⟩]:List zf).length)).bind λ_=>let u:=e++[⟨a,b,c,d,f,g⟩];some (.inl (h,(zq i),j,k,l,m,n,o,p,q,r,s,t,u,()))
def zb5(u:zi):Bool×zg×Int×Str×Int×Str×Int×Str×Int×Str×Int×Str×Int×Str×(List Str)×(List zf)×(List Str)×(List zf)×(List Str)×(List zf)×Unit->Option ((Bool×zg×Int×Str×Int×Str×Int×Str×Int×Str×Int×Str×Int×Str×(List Str)×(List zf)×(List Str)×(List zf)×(List Str)×(List zf)×Unit)⊕((Bool×zg×Int×Str×Int×Str×Int×Str×Int×Str×(List Str)×(List zf)×(List Str)×(List zf)×Unit)⊕(zf×zg×Unit)))| (b,x,c,d,e,f,g,h,i,j,k,l,m,n,o,p,q,r,s,a,())=>if(!x.bad)=true then(zae [99,97,115,101] (zq x)).bind λy=>if(!y.1)=true then(zae [100,101,102,97,117,108,116] (zq y.2.1)).bind λz=>if(!z.1)=true then(zL [125] (zq z.2.1)).bind λv=>if(!v.1)=true then fk ((u.zaO (zq v.2.1)).bind λA=>(room (a.length+([(zy A.1)]:List zf).length)).bind λ_=>let C:=a++[(zy A.1)];some (.inl (b,(zq A.2.1),c,d,e,f,g,h,i,j,k,l,m,n,o,p,q,r,s,C,()))) ((u.zaO (zq v.2.1)).bind λB=>fd ((room (a.length+([(zy B.1)]:List zf).length)).bind λ_=>let D:=a++[(zy B.1)];some (.inl (b,(zq B.2.1),c,d,e,f,g,h,i,j,k,l,m,n,o,p,q,r,s,D,()))))else zfT .inr (zb0 u b (zq v.2.1) c d e f g h i j k l m n o p q r s a)else zfT .inr (zb0 u b (zq z.2.1) c d e f g h i j k l m n o p q r s a)else zfT .inr (zb0 u b (zq y.2.1) c d e f g h i j k l m n o p q r s a)else zfT .inr (zb0 u b (zq x) c d e f g h i j k l m n o p q r s a)
def zcC(x:zi)(a:Bool)(b:zg)(c:Int)(d:Str)(e:Int)(f:Str)(g:Int)(h:Str)(i:Int)(j:Str)(k:Int)(l:Str)(m:Int)(n:Str)(o:List Str)(p:List zf)(q:List Str)(r:List zf)(s:List Str)(t:List zf):OT3:=(zO [58] (zq b)).bind λu=>Lp.loop (zb5 x) (a,(zq u.1),c,d,e,f,g,h,i,j,k,l,m,n,o,p,q,r,s,t,())
def zb1(m:zi):Bool×zg×Int×Str×Int×Str×Int×Str×Int×Str×(List Str)×(List zf)×(List Str)×(List zf)×Unit->OT3| (n,i,o,p,q,r,b,c,d,e,s,t,f,g,())=>if(!i.bad)=true then(zL [125] (zq i)).bind λj=>if(!j.1)=true then(za8 42).bind λh=>(zaL 37 [⟨h.1,h.2.1,h.2.2.1,h.2.2.2.1,[],[]⟩]).bind λa=>(zae [100,101,102,97,117,108,116] (zq j.2.1)).bind λk=>if(k.1&&(!n))=true then(zB (zq k.2.1)).bind λv=>zcC m true (zq v.2.1) o p q r b c d e a.1 a.2.1 a.2.2.1 a.2.2.2.1 s t f g [] a.2.2.2.2.1 else(zbZ [99,97,115,101] (zq k.2.1)).bind λx=>(m.zac false (zq x.1)).bind λu=>(zas a.2.2.2.2.1 0).bind λ_=>(zas a.2.2.2.2.1 0).bind λB=>let y:=a.2.2.2.2.1.set (0:Int).toNat (zy u.1);zcC m n (zq u.2.1) o p q r b c d e a.1 a.2.1 a.2.2.1 a.2.2.2.1 s t f g [] y else(zO [125] (zq j.2.1)).bind λz=>some (.inr (⟨b,c,d,e,f,g⟩,(zq z.1),()))else(zO [125] (zq i)).bind λA=>some (.inr (⟨b,c,d,e,f,g⟩,(zq A.1),()))
def zfc(d:zi)(x:zg):Option (zf×zg×Unit):=(d.za0 (zq x)).bind λb=>(zaL 36 [(zy b.1)]).bind λa=>(zO [123] (zq b.2.1)).bind λe=>Lp.loop (zb1 d) (false,(zq e.1),0,[],0,[],a.1,a.2.1,a.2.2.1,a.2.2.2.1,[],[],[],a.2.2.2.2.1,())
def zrM(b:zi):=callee Y [] zsl zlt (λz=>zfc b z.1)
def zrE(b:zi):zau Y (zar Y zlt):=(.loop [[7,5,1,2,2,2,2],[8,5,1,2,2,2,2],[6,1,2,2,2,2],[2,2,2,2,2]] ⟨[(0,.ptr 0 0),(2,.ptr 1 0),(3,.ptr 2 0),(4,.bool)],zoF⟩ (zb1 b) (.join [[1,2,2,5,2,7,5,1,2,2,2,2],[2,2,2,5,2,7,5,1,2,2,2,2],[6,2,7,5,1,2,2,2,2],[8,5,1,2,2,2,2],[6,1,2,2,2,2],[2,2,2,2,2]] ⟨[(0,.ptr 0 0),(2,.ptr 1 0),(3,.ptr 2 0),(4,.bool),(5,.ptr 3 0)],om7⟩ (u20 (zcC b)) (.loop [[7,5,1,2,2,2,5,2,7,5,1,2,2,2,2],[8,5,1,2,2,2,5,2,7,5,1,2,2,2,2],[6,1,2,2,2,5,2,7,5,1,2,2,2,2],[2,2,2,2,5,2,7,5,1,2,2,2,2],[6,2,7,5,1,2,2,2,2],[8,5,1,2,2,2,2],[6,1,2,2,2,2],[2,2,2,2,2]] ⟨[(0,.ptr 0 0),(2,.ptr 1 0),(3,.ptr 2 0),(4,.bool),(5,.ptr 3 0)],om7⟩ (zb5 b) .nil (.join [[2,2,2,2,5,2,7,5,1,2,2,2,2],[6,2,7,5,1,2,2,2,2],[8,5,1,2,2,2,2],[6,1,2,2,2,2],[2,2,2,2,2]] ⟨[(0,.ptr 0 0),(2,.ptr 1 0),(3,.ptr 2 0),(4,.bool),(5,.ptr 3 0)],om7⟩ (u20 (zb0 b)) .nil))) .nil)
theorem zpU(b:zi)(d:zaj b):K8 145 (zrM b):=f8 (zrE b) Tryz.func145 ((.cons d.za0 (.cons (COk.laid (COk.or zc1 zbF)) (.cons zbe (.cons zay (.cons zbd (.cons zat (.cons zja (.cons d.zac (.cons d.zaO .nil))))))))):zcu hY Tryz.prog zaR [(138,(zh6 b)),(23,(zeg Y [⟨[(0,.int .i64),(1,.nils)],[]⟩,⟨[(0,.int .i64),(1,.own 0)],[.arr 25]⟩,⟨[(0,.int .i64),(1,.sl 25)],[]⟩] (orC Y zee zdH (λz=>za8 z.1) (zbB)))),(95,(zbR)),(39,(za9)),(40,(zbP)),(41,(zaZ)),(140,(zgu)),(100,(zcc b)),(43,(zfx b))]) ⟨λz=>by kernel_rfl,⟨λz=>by kernel_rfl,⟨λz=>by kernel_rfl,trivial,⟨λz=>by kernel_rfl,⟨⟩⟩⟩⟩,trivial⟩
def zA:Nat->zi
 |0=>⟨λ_ _=>none,λ_ _=>none,λ_=>none,λ_=>none,λ_ _=>none,λ_ _=>none,λ_ _ _=>none,λ_=>none,λ_=>none,λ_=>none,λ_=>none,λ_ _=>none,λ_ _ _=>none,λ_=>none,λ_ _=>none,λ_=>none,λ_=>none,λ_=>none,λ_ _=>none,λ_=>none,λ_=>none,λ_=>none⟩
 |n+1=>⟨zdk (zA n),zep (zA n),zcp (zA n),zcg (zA n),zfA (zA n),zb3 (zA n),zbr (zA n),zdq (zA n),zdx (zA n),zfy (zA n),zc2 (zA n),zce (zA n),zfz (zA n),ze2 (zA n),zc9 (zA n),zdy (zA n),zdw (zA n),zfu (zA n),zdz (zA n),zfY (zA n),zdn (zA n),zfc (zA n)⟩
theorem zaa: ∀n,zaj (zA n)
 |0=>⟨COk.none ⟨⟨_,Tryz.func24,by kernel_rfl,rfl⟩⟩,COk.none ⟨⟨_,Tryz.func42,by kernel_rfl,rfl⟩⟩,COk.none ⟨⟨_,Tryz.func43,by kernel_rfl,rfl⟩⟩,COk.none ⟨⟨_,Tryz.func96,by kernel_rfl,rfl⟩⟩,COk.none ⟨⟨_,Tryz.func137,by kernel_rfl,rfl⟩⟩,COk.none ⟨⟨_,Tryz.func146,by kernel_rfl,rfl⟩⟩,COk.none ⟨⟨_,Tryz.func171,by kernel_rfl,rfl⟩⟩,COk.none ⟨⟨_,Tryz.func191,by kernel_rfl,rfl⟩⟩,COk.none ⟨⟨_,Tryz.func212,by kernel_rfl,rfl⟩⟩,COk.none ⟨⟨_,Tryz.func225,by kernel_rfl,rfl⟩⟩,COk.none ⟨⟨_,Tryz.func226,by kernel_rfl,rfl⟩⟩,COk.none ⟨⟨_,Tryz.func100,by kernel_rfl,rfl⟩⟩,COk.none ⟨⟨_,Tryz.func228,by kernel_rfl,rfl⟩⟩,COk.none ⟨⟨_,Tryz.func238,by kernel_rfl,rfl⟩⟩,COk.none ⟨⟨_,Tryz.func227,by kernel_rfl,rfl⟩⟩,COk.none ⟨⟨_,Tryz.func138,by kernel_rfl,rfl⟩⟩,COk.none ⟨⟨_,Tryz.func139,by kernel_rfl,rfl⟩⟩,COk.none ⟨⟨_,Tryz.func141,by kernel_rfl,rfl⟩⟩,COk.none ⟨⟨_,Tryz.func170,by kernel_rfl,rfl⟩⟩,COk.none ⟨⟨_,Tryz.func144,by kernel_rfl,rfl⟩⟩,COk.none ⟨⟨_,Tryz.func98,by kernel_rfl,rfl⟩⟩,COk.none ⟨⟨_,Tryz.func145,by kernel_rfl,rfl⟩⟩⟩
 |n+1=>⟨zpS _ (zaa n),zn3 _ (zaa n),zqQ _ (zaa n),zpO _ (zaa n),zqk _ (zaa n),zoJ _ (zaa n),zoH _ (zaa n),zpT _ (zaa n),zqG _ (zaa n),zqz _ (zaa n),zoi _ (zaa n),zpH _ (zaa n),zqq _ (zaa n),zoT _ (zaa n),zoI _ (zaa n),zp2 _ (zaa n),zp5 _ (zaa n),zqp _ (zaa n),zqu _ (zaa n),zq2 _ (zaa n),zpP _ (zaa n),zpU _ (zaa n)⟩
def zaW:Bool->zg->zGa:=(zA Lp.big).zaW
theorem zqW:K8 24 (zfj (zA Lp.big)):=(zaa Lp.big).zaW
def zbD:Int->zg->Option (zf×zg×Unit):=(zA Lp.big).zbD
def zaO:zg->Option (zf×zg×Unit):=(zA Lp.big).zaO
def zb6:zg->Option (zf×Bool×zg×Unit):=(zA Lp.big).zb6
def zci:Bool->zg->Option (zf×zg×Unit):=(zA Lp.big).zci
def zax:Bool->zg->Option (zf×zg×Unit):=(zA Lp.big).zax
def zba:Int->Bool->zg->Option (zf×zg×Unit):=(zA Lp.big).zba
def zaT:zg->Option (zf×zg×Unit):=(zA Lp.big).zaT
def zcD:zg->Option (zf×zg×Unit):=(zA Lp.big).zcD
def zbk:zg->Option (zf×zg×Unit):=(zA Lp.big).zbk
def za4:zg->Option (zf×zg×Unit):=(zA Lp.big).za4
def zac:Bool->zg->Option (zf×zg×Unit):=(zA Lp.big).zac
def zbl:Str->Bool->zg->zGa:=(zA Lp.big).zbl
def zcS:zg->Option (zf×zg×Unit):=(zA Lp.big).zcS
def zbm:zf->zg->Option (zf×Bool×zg×Unit):=(zA Lp.big).zbm
def za0:zg->Option (zf×zg×Unit):=(zA Lp.big).za0
def zaN:zg->Option (zf×zg×Unit):=(zA Lp.big).zaN
def zde:zg->Option (zf×zg×Unit):=(zA Lp.big).zde
def zbL:Str->zg->Option (zf×zg×Unit):=(zA Lp.big).zbL
def zdt:zg->Option (zf×zg×Unit):=(zA Lp.big).zdt
def za5:zg->Option (zf×zg×Unit):=(zA Lp.big).za5
def zc5:zg->Option (zf×zg×Unit):=(zA Lp.big).zc5
structure zcP where
 zcy:zf->Option (Int×Unit)
def zl2(b:zcP):=callee Y [] zEI zB2 (λz=>b.zcy z.1)
structure zm0 (g_:zcP):Prop where
 zcy:COk hY Tryz.prog zaR 26 (zl2 g_)
def ze0(k:zcP):Int×(List zf)×Int×Int×Unit->zRY| (a,c,d,b,())=>if(decide (b<d))=true then(zas c b).bind λf=>(k.zcy (zy f)).bind λe=>let g:=(if e.1>a then e.1 else a);let h:=(IntKind.wrap .i64 (b+1));some (.inl (g,c,d,h,()))else let i:=(IntKind.wrap .i64 (a+1));some (.inr (i,()))
def ziQ(b:zcP)(n:zf):Option (Int×Unit):=Lp.loop (ze0 b) (0,n.L,((n.L.length:Nat):Int),0,())
def zzr(b:zcP):=callee Y [] zEI zB2 (λz=>ziQ b z.1)
def zAR(b:zcP):zau Y (zar Y zB2):=(.loop [[7,5,2,1,2,2],[8,5,2,1,2,2],[6,2,1,2,2],[2,2,2]] ⟨[(3,.int .i64),(7,.sl 25),(8,.int .i64),(9,.int .i64)],[]⟩ (ze0 b) .nil .nil)
theorem zvX(b:zcP)(d:zm0 b):K8 26 (zzr b):=f8 (zAR b) Tryz.func26 (.cons d.zcy .nil) ⟨λz=>by kernel_rfl,trivial,trivial⟩
def zcX:Nat->zcP
 |0=>⟨λ_=>none⟩
 |n+1=>⟨ziQ (zcX n)⟩
theorem zml: ∀n,zm0 (zcX n)
 |0=>⟨COk.none ⟨⟨_,Tryz.func26,by kernel_rfl,rfl⟩⟩⟩
 |n+1=>⟨zvX _ (zml n)⟩
def zcy:zf->Option (Int×Unit):=(zcX Lp.big).zcy
theorem zyd:K8 26 (zl2 (zcX Lp.big)):=(zml Lp.big).zcy
def zeY(h:Str):Option (zf×Int×Int×Unit):=(zkI h).bind λb=>if(b.2.2.1 !=0)=true then some (⟨0,[],0,[],[],[]⟩,b.2.1,b.2.2.1,())else(zaW true ⟨b.1,0,false⟩).bind λc=>(zgf 41 c.1).bind λa=>if c.2.1.bad=true then(zaf (zq c.2.1)).bind λe=>some (⟨0,[],0,[],[],[]⟩,e.1.At,80,())else(zaf (zq c.2.1)).bind λd=>if(d.1.Kind !=0)=true then(zaf (zq d.2.1)).bind λf=>some (⟨0,[],0,[],[],[]⟩,f.1.At,80,())else(zcy ⟨a.1,a.2.1,a.2.2.1,a.2.2.2.1,[],a.2.2.2.2.1⟩).bind λg=>if(decide (g.1>64))=true then some (⟨0,[],0,[],[],[]⟩,0,31,())else some (⟨a.1,a.2.1,a.2.2.1,a.2.2.2.1,[],a.2.2.2.2.1⟩,0,0,())
def zwd:=callee Y [] zJJ zFn (λz=>zeY z.1)
def zvG:zau Y (zar Y zFn):= .nil
theorem zuC:K8 10 (zwd):=f8 zvG Tryz.func10 ((.cons zAl (.cons zqW (.cons (COk.laid zjm) (.cons zaM (.cons zyd .nil))))):zcu hY Tryz.prog zaR [(13,(zrj)),(24,(zfj (zA Lp.big))),(23,(zeg Y [⟨[(0,.int .i64),(1,.nils)],[]⟩,⟨[(0,.int .i64),(1,.own 0)],[.arr 25]⟩,⟨[(0,.int .i64),(1,.sl 25)],[]⟩] (zhj))),(25,(zcn)),(26,(zl2 (zcX Lp.big)))]) trivial
def ze6(c:Str):Option (Bool×Unit):=(zdr c).bind λa=>(zeY c).bind λb=>zj4.bind λd=>if d.1=true then(zcU (zy a.1) (zy b.1)).bind λe=>let f:=(e.1&&(a.2.1==b.2.1));let g:=(f&&(a.2.2.1==b.2.2.1));some (g,())else some (false,())
def zmc:=callee Y [] zJJ zBR (λz=>ze6 z.1)
theorem zth:K8 3 (zmc):=f8 zFV Tryz.func3 (.cons zuD (.cons zuC (.cons zzg (.cons zyp .nil)))) trivial
end
end Go.D08
