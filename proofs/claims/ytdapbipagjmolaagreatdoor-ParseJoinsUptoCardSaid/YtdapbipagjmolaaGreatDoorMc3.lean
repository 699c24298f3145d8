/- Texts for a statement of this seat. -/
import Derived.Test.YtdapbipagjmolaaGreatDoorMc2
import Derived.Lib.AppendIntMem
set_option linter.unusedSectionVars false
set_option linter.unusedVariables false
set_option linter.unusedSimpArgs false
set_option linter.unnecessarySimpa false
namespace Go.D08
open Go Go.Gw Go.Dn Go.RowKit Go.Proofs
set_option maxRecDepth 100000
variable [Lp]
noncomputable section
structure zao (F:Heap):Prop where
 maxLen: ∃m,zf7 F 0 0 (.int .i64 m)
 zvp:zf7 F 7 15 (.int .u8 4)
 zzh: ∃t p,zf7 F 1 0 (.iface t p)
 zyf: ∃t p,zf7 F 2 0 (.iface t p)
 zve: ∀w:World,F.Sub w->Lib.TabIs Tryz.prog w "internal/strconv.uint64pow10" .u64 Lib.pow10Tab
theorem zao.mono{F F':Heap}(h:zao F)(hle:F.Le F'):zao F':=⟨h.maxLen.imp λ_ e=>zex hle e,zex hle h.zvp,h.zzh.imp λ_ e=>e.imp λ_ e=>zex hle e,h.zyf.imp λ_ e=>e.imp λ_ e=>zex hle e,λw hs=>h.zve w ⟨λx o e=>hs.out x o (hle.out x o e)⟩⟩
theorem gm(F F':Heap)(hle:F.Le F')(h:zao F):zao F':=h.mono hle
@[reducible] def fd {α:Type} (x:Option α):Option α:=fk x x
def u1{a b c:Type}(f:a->b)(z:a×c):b:=f z.1
def u2{a b c d:Type}(F:a->b->d)(Z:a×b×c):d:=u1 (F Z.1) Z.2
def u3{a b c d e:Type}(F:a->b->c->e)(Z:a×b×c×d):e:=u2 (F Z.1) Z.2
def u4{a b c d e f:Type}(F:a->b->c->d->f)(Z:a×b×c×d×e):f:=u3 (F Z.1) Z.2
def u5{a b c d e f g:Type}(F:a->b->c->d->e->g)(Z:a×b×c×d×e×f):g:=u4 (F Z.1) Z.2
def u6{a b c d e f g h:Type}(F:a->b->c->d->e->f->h)(Z:a×b×c×d×e×f×g):h:=u5 (F Z.1) Z.2
def u7{a b c d e f g h i:Type}(F:a->b->c->d->e->f->g->i)(Z:a×b×c×d×e×f×g×h):i:=u6 (F Z.1) Z.2
def u8{a b c d e f g h i j:Type}(F:a->b->c->d->e->f->g->h->j)(Z:a×b×c×d×e×f×g×h×i):j:=u7 (F Z.1) Z.2
def u9{a b c d e f g h i j k:Type}(F:a->b->c->d->e->f->g->h->i->k)(Z:a×b×c×d×e×f×g×h×i×j):k:=u8 (F Z.1) Z.2
def u10{a b c d e f g h i j k l:Type}(F:a->b->c->d->e->f->g->h->i->j->l)(Z:a×b×c×d×e×f×g×h×i×j×k):l:=u9 (F Z.1) Z.2
def u11{a b c d e f g h i j k l m:Type}(F:a->b->c->d->e->f->g->h->i->j->k->m)(Z:a×b×c×d×e×f×g×h×i×j×k×l):m:=u10 (F Z.1) Z.2
def u12{a b c d e f g h i j k l m n:Type}(F:a->b->c->d->e->f->g->h->i->j->k->l->n)(Z:a×b×c×d×e×f×g×h×i×j×k×l×m):n:=u11 (F Z.1) Z.2
def u13{a b c d e f g h i j k l m n o:Type}(F:a->b->c->d->e->f->g->h->i->j->k->l->m->o)(Z:a×b×c×d×e×f×g×h×i×j×k×l×m×n):o:=u12 (F Z.1) Z.2
def u14{a b c d e f g h i j k l m n o p:Type}(F:a->b->c->d->e->f->g->h->i->j->k->l->m->n->p)(Z:a×b×c×d×e×f×g×h×i×j×k×l×m×n×o):p:=u13 (F Z.1) Z.2
def u15{a b c d e f g h i j k l m n o p q:Type}(F:a->b->c->d->e->f->g->h->i->j->k->l->m->n->o->q)(Z:a×b×c×d×e×f×g×h×i×j×k×l×m×n×o×p):q:=u14 (F Z.1) Z.2
def u16{a b c d e f g h i j k l m n o p q r:Type}(F:a->b->c->d->e->f->g->h->i->j->k->l->m->n->o->p->r)(Z:a×b×c×d×e×f×g×h×i×j×k×l×m×n×o×p×q):r:=u15 (F Z.1) Z.2
def u17{a b c d e f g h i j k l m n o p q r s:Type}(F:a->b->c->d->e->f->g->h->i->j->k->l->m->n->o->p->q->s)(Z:a×b×c×d×e×f×g×h×i×j×k×l×m×n×o×p×q×r):s:=u16 (F Z.1) Z.2
def u18{a b c d e f g h i j k l m n o p q r s t:Type}(F:a->b->c->d->e->f->g->h->i->j->k->l->m->n->o->p->q->r->t)(Z:a×b×c×d×e×f×g×h×i×j×k×l×m×n×o×p×q×r×s):t:=u17 (F Z.1) Z.2
def u19{a b c d e f g h i j k l m n o p q r s t u:Type}(F:a->b->c->d->e->f->g->h->i->j->k->l->m->n->o->p->q->r->s->u)(Z:a×b×c×d×e×f×g×h×i×j×k×l×m×n×o×p×q×r×s×t):u:=u18 (F Z.1) Z.2
def u20{a b c d e f g h i j k l m n o p q r s t u v:Type}(F:a->b->c->d->e->f->g->h->i->j->k->l->m->n->o->p->q->r->s->t->v)(Z:a×b×c×d×e×f×g×h×i×j×k×l×m×n×o×p×q×r×s×t×u):v:=u19 (F Z.1) Z.2
def oc0(a b:Nat):zbg:= .cells 25 [.int .i64,.str,.int .i64,.str,.own a,.own b]
def oc1(a:Nat):zbg:= .cells 23 [.own a]
def oc2(a:Nat):zbg:= .cells 134 [.str,.junk,.own a]
abbrev K8(n:FuncId)(C:Dn.Callee Y):Prop:=COk hY Tryz.prog zao n C
theorem f8{f:FuncId}{fn:Func}{keep:List Nat}{σ:Shape}{outs:List zW}{T:_}{g:zdB Y σ->Option (zY Y outs)}(c:zaf Y (zY Y outs))(hf:Tryz.prog.funcs[f]? =some fn)(hT:zbU hY Tryz.prog zao T)(hO:Obl Y Tryz.prog T fn.ntmps σ.m.length (fn.body.getD .skip) [] (ziv Y Tryz.prog σ.m.length fn.results.toList outs) (zs4 Y σ.m.length outs) c)
  (h1:((fn.body.isSome&& !(fn.name== "runtime.NumGoroutine"))&&(Nat.ble (keys σ.l).length fn.ntmps&&zoi (keys σ.l) (iota 0 (keys σ.l).length)&&outs.all λo=>zfK σ.m o.m))=true:=by kernel_rfl)
  (hg: ∀z,goA Y Tryz.prog T fn.ntmps true (tbl Y σ.m.length c) (ziv Y Tryz.prog σ.m.length fn.results.toList outs) (zs4 Y σ.m.length outs) 100000 false [(0,.code (fn.body.getD .skip))] (zb9 Y σ z)=g z:=by intro z;kernel_rfl):K8 f (callee Y keep σ outs g):=fo c hf h1 hsz gm hT hO hg
def ze7(t:Str)(p:Str):Option (Bool):=some (Lib.hasPrefix t p)
theorem ze7.ok(t:Str)(p:Str)(r:Bool)(h0:ze7 t p=some r)(w0:World)(F0:Heap)(hv:F0.Sub w0)(hG:zao F0)(hg:SV.zar F0 [.v (.string ⟨⟨t⟩⟩),.v (.string ⟨⟨p⟩⟩)])(ρ:Nat->Nat):
  Calls Tryz.prog 63 (SV.zX ρ [.v (.string ⟨⟨t⟩⟩),.v (.string ⟨⟨p⟩⟩)]).toArray w0 (zcF w0 F0 λs=>s= .v (.bool r)):=by
 refine(Tryz.strings_HasPrefix ⟨⟨t⟩⟩ ⟨⟨p⟩⟩ w0).mono λe w' h=>?_
 cases h0;exact zcF.pure (s:= .v _) hv h.1 h.2 trivial rfl rfl
def strings_HasPrefix(t:Str)(p:Str):Option (Bool×Unit):=ziz (λr=>(r,())) (ze7 t p)
def zkF:Shape:=⟨[(0,.str),(1,.str)],[]⟩
def zrK:List zW:=[⟨false,.bool,[]⟩]
def zr2:=callee Y [] zkF zrK (λz=>strings_HasPrefix z.1 z.2.1)
theorem zqM:K8 63 zr2:=
 COk.ext (l:=zkF.l) ⟨⟨_,Tryz.func63,by kernel_rfl,rfl⟩⟩ ⟨rfl,rfl⟩ rfl λz zo h=>⟨_,_,rfl,rfl,λw F hG hv=>by
  obtain⟨r,hr,rfl⟩:=zgv h;exact ze7.ok z.1 z.2.1 r hr w F hv hG (by simp[SV.zar,SV.good]) (λ_=>0)⟩
def zcW(t:Str)(a:Str):Option (Int):=if t.length<4294967281/\a=[10,13]then some (Lib.indexAny t [10,13])else none
theorem zcW.ok(t:Str)(cs:Str)(r:Int)(h0:zcW t cs=some r)(w0:World)(F0:Heap)(hv:F0.Sub w0)(hG:zao F0)(hg:SV.zar F0 [.v (.string ⟨⟨t⟩⟩),.v (.string ⟨⟨cs⟩⟩)])(ρ:Nat->Nat):
  Calls Tryz.prog 64 (SV.zX ρ [.v (.string ⟨⟨t⟩⟩),.v (.string ⟨⟨cs⟩⟩)]).toArray w0 (zcF w0 F0 λs=>s= .v (.int .i64 r)):=by
 unfold zcW at h0;split at h0
 ·rename_i hc;cases h0;obtain⟨hc,rfl⟩:=hc;refine(Gw.zkC Tryz.lays153 (by kernel_rfl) ⟨⟨t⟩⟩ w0 hc).mono λe w' h=>?_
  exact zcF.below (s:= .v _) hv h.1 h.2 trivial rfl rfl
 ·cases h0
def strings_IndexAny(t:Str)(a:Str):Option (Int×Unit):=ziz (λr=>(r,())) (zcW t a)
def zs8:List zW:=[⟨false,.int .i64,[]⟩]
def ztx:=callee Y [] zkF zs8 (λz=>strings_IndexAny z.1 z.2.1)
theorem zsr:K8 64 ztx:=
 COk.ext (l:=zkF.l) ⟨⟨_,Tryz.func64,by kernel_rfl,rfl⟩⟩ ⟨rfl,rfl⟩ rfl λz zo h=>⟨_,_,rfl,rfl,λw F hG hv=>by
  obtain⟨r,hr,rfl⟩:=zgv h;exact zcW.ok z.1 z.2.1 r hr w F hv hG (by simp[SV.zar,SV.good]) (λ_=>0)⟩
def zee(t:Str)(a:Str):Option (Int):=if t.length<4294967281 then some (Lib.index t a)else none
theorem zee.ok(t:Str)(sub:Str)(r:Int)(h0:zee t sub=some r)(w0:World)(F0:Heap)(hv:F0.Sub w0)(hG:zao F0)(hg:SV.zar F0 [.v (.string ⟨⟨t⟩⟩),.v (.string ⟨⟨sub⟩⟩)])(ρ:Nat->Nat):
  Calls Tryz.prog 65 (SV.zX ρ [.v (.string ⟨⟨t⟩⟩),.v (.string ⟨⟨sub⟩⟩)]).toArray w0 (zcF w0 F0 λs=>s= .v (.int .i64 r)):=by
 unfold zee at h0;split at h0
 ·rename_i hc;cases h0;obtain⟨m,hm⟩:=hG.maxLen;refine(Tryz.strings_Index ⟨⟨t⟩⟩ ⟨⟨sub⟩⟩ m w0 hc (zet hv hm)).mono λe w' h=>?_
  exact zcF.pure (s:= .v _) hv h.1 h.2 trivial rfl rfl
 ·cases h0
def strings_Index(t:Str)(a:Str):Option (Int×Unit):=ziz (λr=>(r,())) (zee t a)
def zvC:=callee Y [] zkF zs8 (λz=>strings_Index z.1 z.2.1)
theorem zuA:K8 65 zvC:=
 COk.ext (l:=zkF.l) ⟨⟨_,Tryz.func65,by kernel_rfl,rfl⟩⟩ ⟨rfl,rfl⟩ rfl λz zo h=>⟨_,_,rfl,rfl,λw F hG hv=>by
  obtain⟨r,hr,rfl⟩:=zgv h;exact zee.ok z.1 z.2.1 r hr w F hv hG (by simp[SV.zar,SV.good]) (λ_=>0)⟩
def zce(t:Str)(a:Str):Option (Bool):=if t.length<4294967281/\a=[10,13]then some (Lib.containsAny t [10,13])else none
theorem zce.ok(t:Str)(cs:Str)(r:Bool)(h0:zce t cs=some r)(w0:World)(F0:Heap)(hv:F0.Sub w0)(hG:zao F0)(hg:SV.zar F0 [.v (.string ⟨⟨t⟩⟩),.v (.string ⟨⟨cs⟩⟩)])(ρ:Nat->Nat):
  Calls Tryz.prog 66 (SV.zX ρ [.v (.string ⟨⟨t⟩⟩),.v (.string ⟨⟨cs⟩⟩)]).toArray w0 (zcF w0 F0 λs=>s= .v (.bool r)):=by
 unfold zce at h0;split at h0
 ·rename_i hc;cases h0;obtain⟨hc,rfl⟩:=hc;refine(Gw.zoO Tryz.lays150 (by kernel_rfl) ⟨⟨t⟩⟩ w0 hc).mono λe w' h=>?_
  exact zcF.below (s:= .v _) hv h.1 h.2 trivial rfl rfl
 ·cases h0
def strings_ContainsAny(t:Str)(a:Str):Option (Bool×Unit):=ziz (λr=>(r,())) (zce t a)
def zpl:=callee Y [] zkF zrK (λz=>strings_ContainsAny z.1 z.2.1)
theorem zoI:K8 66 zpl:=
 COk.ext (l:=zkF.l) ⟨⟨_,Tryz.func66,by kernel_rfl,rfl⟩⟩ ⟨rfl,rfl⟩ rfl λz zo h=>⟨_,_,rfl,rfl,λw F hG hv=>by
  obtain⟨r,hr,rfl⟩:=zgv h;exact zce.ok z.1 z.2.1 r hr w F hv hG (by simp[SV.zar,SV.good]) (λ_=>0)⟩
abbrev zHt:=Option ((Str×Int×Int×Bool×Unit)⊕(Bool×Unit))
abbrev zD6:=Option ((zU×zh×Unit)⊕(zh×Unit))
abbrev zHG:=Option ((zO×Unit)⊕(Bool×zO×Unit))
abbrev zHr:=Option ((Int×Int×zg×zg×Unit)⊕(Bool×Unit))
abbrev zwh:=Option ((Str×Int×Int×(List UInt8)×Unit)⊕(Str×Int×Unit))
abbrev zfY:=Option ((zg×zh×Unit)⊕(zU×zh×Unit))
abbrev zaF:=Option ((zU×zh×Unit)⊕(zg×zh×Unit))
abbrev zwn:=Option (((List zg)×zh×Unit)⊕(zU×zh×Unit))
abbrev zuD:=Option (((List zg)×Int×Int×Bool×(List Str)×Unit)⊕(Bool×(List Str)×Unit))
abbrev zwb:=Option ((zh×(List zg)×Unit)⊕(zU×zh×(List zg)×Unit))
abbrev OT9:=Option ((Int×Bool×Str×Int×Int×Bool×Int×(List UInt8)×Int×Int×Unit)⊕(Int×zU×Unit))
abbrev OT8:=Option ((zh×Str×(List zg)×Bool×Unit)⊕(zU×zh×Str×(List zg)×Bool×Unit))
abbrev OT7:=Option ((Bool×Str×zh×(List zg)×Unit)⊕(((List zg)×zh×Unit)⊕(zU×zh×Unit)))
abbrev OT6:=Option ((zh×zg×(List Str)×(List zg)×Unit)⊕(zU×zh×Int×Str×Int×Str×(List Str)×(List zg)×Unit))
abbrev OT5:=Option ((zU×zh×Int×Str×Int×Str×(List Str)×(List zg)×Unit)⊕(zh×Int×Str×Int×Str×(List Str)×(List zg)×Unit))
abbrev OT4:=Option ((zh×Int×Str×Int×Str×(List zg)×(List Str)×(List zg)×Unit)⊕(zU×zh×Int×Str×Int×Str×(List Str)×(List zg)×Unit))
abbrev OT3:=Option ((zU×zh×Str×Int×Str×Int×Str×(List Str)×(List zg)×Bool×Unit)⊕(zh×Str×Int×Str×Int×Str×(List Str)×(List zg)×Bool×Unit))
abbrev OT2:=Option ((zh×Int×Str×Int×Str×Int×Str×Int×Str×(List Str)×(List zg)×(List Str)×(List zg)×Unit)⊕((zU×zh×Unit)⊕(zg×zh×Unit)))
abbrev OT1:=Option ((Bool×zh×Int×Str×Int×Str×Int×Str×Int×Str×(List Str)×(List zg)×(List Str)×(List zg)×Unit)⊕((zU×zh×Unit)⊕(zg×zh×Unit)))
abbrev OT0:=Option ((zh×Str×Int×Str×Int×Str×(List Str)×(List zg)×Bool×Unit)⊕((zU×zh×Str×Int×Str×Int×Str×(List Str)×(List zg)×Bool×Unit)⊕(zh×Str×Int×Str×Int×Str×(List Str)×(List zg)×Bool×Unit)))
def zbz(b:Int)(a:zO):zHG:=if a.fresh=true then(zav a.rest b ((a.rest.length:Nat):Int)).bind λc=>some (.inl (⟨a.src,c,true⟩,()))else(zav a.rest 0 b).bind λd=>(strings_ContainsAny d [10,13]).bind λe=>(zav a.rest b ((a.rest.length:Nat):Int)).bind λf=>some (.inl (⟨a.src,f,e.1⟩,()))
def zab:zO×Unit->zHG| (a,())=>if(!(a.rest==[]))=true then(strings_HasPrefix a.rest [47,47]).bind λd=>if d.1=true then(strings_IndexAny a.rest [10,13]).bind λb=>if(decide (b.1<0))=true then let e:=((a.rest.length:Nat):Int);zbz e (zcx a)else zbz b.1 (zcx a)else(strings_HasPrefix a.rest [47,42]).bind λf=>if f.1=true then(zav a.rest 2 ((a.rest.length:Nat):Int)).bind λg=>(strings_Index g [42,47]).bind λc=>if(decide (c.1<0))=true then some (.inr (false,(zcx a),()))else let h:=(IntKind.wrap .i64 (c.1+4));zbz h (zcx a)else(zaS a.rest 0).bind λi=>(if(i !=32)=true then(zaS a.rest 0).bind λj=>(if(decide (j<9))=true then some true else(zaS a.rest 0).bind λk=>some (decide (k>13))).bind λl=>some l else some false).bind λm=>if m=true then some (.inr (true,(zcx a),()))else zbz 1 (zcx a)else some (.inr (true,(zcx a),()))
def zfk(x:zO):Option (Bool×zO×Unit):=Lp.loop zab (⟨x.src,x.rest,false⟩,())
def zpk:Shape:=⟨[(0,.ptr 0 0)],[.whole 69 69]⟩
def zjB:List zW:=[⟨false,.bool,[.whole 69 69]⟩]
def zpd:=callee Y [] zpk zjB (λz=>zfk z.1)
def zp5:zaf Y (zY Y zjB):=(.loop [[7,5,1,2,2,9,2],[8,5,1,2,2,9,2],[6,1,2,2,9,2],[2,2,2,9,2],[10,2]] ⟨[(0,.ptr 0 0)],[.whole 69 69]⟩ (zab) (.join [[1,2,2,5,2,7,5,1,2,2,9,2],[2,2,2,5,2,7,5,1,2,2,9,2],[6,2,7,5,1,2,2,9,2],[8,5,1,2,2,9,2],[6,1,2,2,9,2],[2,2,2,9,2],[10,2]] ⟨[(0,.ptr 0 0),(3,.int .i64)],[.whole 69 69]⟩ (u2 zbz) .nil) .nil)
theorem zom:K8 32 (zpd):=f8 zp5 Tryz.func32 (.cons zqM (.cons zsr (.cons zuA (.cons zoI .nil)))) ⟨λz=>by kernel_rfl,⟨λz=>by kernel_rfl,⟨⟩⟩,trivial⟩
def zla(s:List zl):Option ((List zl)×Unit):=(zzf s 0 ((s.length:Nat):Int) ((s.length:Nat):Int)).bind λa=>some (a,())
def zxD:Shape:=⟨[(0,.sl 36)],[]⟩
def zrB:List zW:=[⟨false,.sl 36,[]⟩]
def zxs:=callee Y [] zxD zrB (λz=>zla z.1)
def zxu:zaf Y (zY Y zrB):= .nil
theorem zwg:K8 33 (zxs):=f8 zxu Tryz.func33 .nil trivial
def zif(c:Int):Option (Bool×Unit):=let a:=(IntKind.wrap .u8 ((BitVec.ofInt 8 c|||BitVec.ofInt 8 32).toNat));let b:=((decide (a>=97))&&(decide ((IntKind.wrap .u8 ((BitVec.ofInt 8 c|||BitVec.ofInt 8 32).toNat))<=122)));let d:=((b||(c==95))||(c==36));some (d,())
def zwo:Shape:=⟨[(0,.int .u8)],[]⟩
def zww:=callee Y [] zwo zrK (λz=>zif z.1)
def zwy:zaf Y (zY Y zrK):= .nil
theorem znS:K8 67 (zww):=f8 zwy Tryz.func67 .nil trivial
def ziO(c:Int):Option (Bool×Unit):=let a:=((decide (c>=48))&&(decide (c<=57)));some (a,())
def zxA:=callee Y [] zwo zrK (λz=>ziO z.1)
theorem zpe:K8 70 (zxA):=f8 zwy Tryz.func70 .nil trivial
def zeP:Str×Int×Int×Unit->Option ((Str×Int×Int×Unit)⊕(Int×Unit))| (b,c,a,())=>if(decide (a<c))=true then(zaS b a).bind λd=>(zif d).bind λe=>if(!e.1)=true then(zaS b a).bind λf=>(ziO f).bind λg=>if(!g.1)=true then some (.inr (a,()))else let h:=(IntKind.wrap .i64 (a+1));some (.inl (b,c,h,()))else let i:=(IntKind.wrap .i64 (a+1));some (.inl (b,c,i,()))else some (.inr (((b.length:Nat):Int),()))
def znX(s:Str):Option (Int×Unit):=Lp.loop zeP (s,((s.length:Nat):Int),0,())
def zzN:Shape:=⟨[(0,.str)],[]⟩
def zzE:=callee Y [] zzN zs8 (λz=>znX z.1)
def zzw:zaf Y (zY Y zs8):=(.loop [[7,5,2,1,2],[8,5,2,1,2],[6,2,1,2],[2,2]] ⟨[(0,.str),(5,.int .i64),(6,.int .i64)],[]⟩ (zeP) .nil .nil)
theorem zsF:K8 68 (zzE):=f8 zzw Tryz.func68 (.cons znS (.cons zpe .nil)) ⟨λz=>by kernel_rfl,trivial,trivial⟩
def zbG(t:Str)(a:Str):Option (Bool):=if t.length<4294967281 then some (Lib.contains t a)else none
theorem zbG.ok(t:Str)(sub:Str)(r:Bool)(h0:zbG t sub=some r)(w0:World)(F0:Heap)(hv:F0.Sub w0)(hG:zao F0)(hg:SV.zar F0 [.v (.string ⟨⟨t⟩⟩),.v (.string ⟨⟨sub⟩⟩)])(ρ:Nat->Nat):
  Calls Tryz.prog 129 (SV.zX ρ [.v (.string ⟨⟨t⟩⟩),.v (.string ⟨⟨sub⟩⟩)]).toArray w0 (zcF w0 F0 λs=>s= .v (.bool r)):=by
 unfold zbG at h0;split at h0
 ·rename_i hc;cases h0;obtain⟨m,hm⟩:=hG.maxLen;refine(Tryz.strings_Contains ⟨⟨t⟩⟩ ⟨⟨sub⟩⟩ m w0 hc (zet hv hm)).mono λe w' h=>?_
  exact zcF.pure (s:= .v _) hv h.1 h.2 trivial rfl rfl
 ·cases h0
def strings_Contains(t:Str)(a:Str):Option (Bool×Unit):=ziz (λr=>(r,())) (zbG t a)
def zsO:=callee Y [] zkF zrK (λz=>strings_Contains z.1 z.2.1)
theorem zho:K8 129 zsO:=
 COk.ext (l:=zkF.l) ⟨⟨_,Tryz.func129,by kernel_rfl,rfl⟩⟩ ⟨rfl,rfl⟩ rfl λz zo h=>⟨_,_,rfl,rfl,λw F hG hv=>by
  obtain⟨r,hr,rfl⟩:=zgv h;exact zbG.ok z.1 z.2.1 r hr w F hv hG (by simp[SV.zar,SV.good]) (λ_=>0)⟩
def zeL(e:Str)(s:Str):Option (Bool×Unit):=if(!(s==[]))=true then(strings_Contains s [32]).bind λa=>if(!a.1)=true then(zgy [32] s).bind λb=>(zgy b [32]).bind λc=>(strings_Contains e c).bind λd=>some (d.1,())else some (false,())else some (false,())
def zxz:=callee Y [] zkF zrK (u2 zeL)
theorem zp1:K8 73 (zxz):=f8 zwy Tryz.func73 (.cons zho .nil) trivial
def zm2(s:Str):Option (Bool×Unit):=(zeL [32,98,114,101,97,107,32,99,97,115,101,32,99,97,116,99,104,32,99,108,97,115,115,32,99,111,110,115,116,32,99,111,110,116,105,110,117,101,32,100,101,98,117,103,103,101,114,32,100,101,102,97,117,108,116,32,100,101,108,101,116,101,32,100,111,32,101,108,115,101,32,101,110,117,109,32,101,120,112,111,114,116,32,101,120,116,101,110,100,115,32,102,97,108,115,101,32,102,105,110,97,108,108,121,32,102,111,114,32,102,117,110,99,116,105,111,110,32,105,102,32,105,109,112,108,101,109,101,110,116,115,32,105,109,112,111,114,116,32,105,110,32,105,110,115,116,97,110,99,101,111,102,32,105,110,116,101,114,102,97,99,101,32,108,101,116,32,110,101,119,32,110,117,108,108,32,112,97,99,107,97,103,101,32,112,114,105,118,97,116,101,32,112,114,111,116,101,99,116,101,100,32,112,117,98,108,105,99,32,114,101,116,117,114,110,32,115,116,97,116,105,99,32,115,117,112,101,114,32,115,119,105,116,99,104,32,116,104,105,115,32,116,104,114,111,119,32,116,114,117,101,32,116,114,121,32,116,121,112,101,111,102,32,118,97,114,32,118,111,105,100,32,119,104,105,108,101,32,119,105,116,104,32,121,105,101,108,100,32] s).bind λa=>some (a.1,())
def zwj:=callee Y [] zzN zrK (λz=>zm2 z.1)
theorem zvY:K8 69 (zwj):=f8 zwy Tryz.func69 (.cons zp1 .nil) trivial
def za2(c:Int):Option (Int×Unit):=let a:=(IntKind.wrap .u8 ((BitVec.ofInt 8 c|||BitVec.ofInt 8 32).toNat));some (a,())
def znW:List zW:=[⟨false,.int .u8,[]⟩]
def zvg:=callee Y [] zwo znW (λz=>za2 z.1)
def zvO:zaf Y (zY Y znW):= .nil
theorem znt:K8 182 (zvg):=f8 zvO Tryz.func182 .nil trivial
def zdE(a:Str)(c:Int)(b:Int)(d:Bool):zHt:=(zaS a b).bind λe=>if(e==95)=true then if(c !=48)=true then some (.inr (false,()))else let f:=(IntKind.wrap .i64 (b+1));some (.inl (a,95,f,d,()))else if(c==95)=true then some (.inr (false,()))else let g:=(IntKind.wrap .i64 (b+1));some (.inl (a,33,g,d,()))
def zbJ:Str×Int×Int×Bool×Unit->zHt| (a,d,b,c,())=>let e:=(decide (b< ((a.length:Nat):Int)));if e=true then(zaS a b).bind λf=>(if(decide (48<=f))=true then(zaS a b).bind λg=>some (decide (g<=57))else some false).bind λh=>if h=true then let i:=(IntKind.wrap .i64 (b+1));some (.inl (a,48,i,c,()))else if c=true then(zaS a b).bind λj=>(za2 j).bind λk=>if(decide (97<=k.1))=true then(zaS a b).bind λl=>(za2 l).bind λm=>if(decide (m.1<=102))=true then let n:=(IntKind.wrap .i64 (b+1));some (.inl (a,48,n,c,()))else zdE a d b c else zdE a d b c else zdE a d b c else some (.inr ((d !=95),()))
def ziq(a:Str)(b:Int)(c:Int)(d:Bool):Option (Bool×Unit):=let e:=(decide (((a.length:Nat):Int)>=2));(if e=true then(zaS a 0).bind λf=>some (f==48)else some false).bind λg=>if g=true then(zaS a 1).bind λh=>(za2 h).bind λi=>if(i.1==98)=true then(zaS a 1).bind λj=>(za2 j).bind λk=>Lp.loop zbJ (a,48,2,(k.1==120),())else(zaS a 1).bind λl=>(za2 l).bind λm=>if(m.1==111)=true then(zaS a 1).bind λn=>(za2 n).bind λo=>Lp.loop zbJ (a,48,2,(o.1==120),())else(zaS a 1).bind λp=>(za2 p).bind λq=>if(q.1==120)=true then(zaS a 1).bind λr=>(za2 r).bind λs=>Lp.loop zbJ (a,48,2,(s.1==120),())else Lp.loop zbJ (a,b,c,d,())else Lp.loop zbJ (a,b,c,d,())
def zfq(a:Str)(b:Int)(c:Int):Option (Bool×Unit):=ziq a b c false
def zjH(s:Str):Option (Bool×Unit):=let a:=(decide (((s.length:Nat):Int)>=1));(if a=true then(zaS s 0).bind λb=>(if(b==45)=true then some true else(zaS s 0).bind λc=>some (c==43)).bind λd=>some d else some false).bind λe=>if e=true then(zav s 1 ((s.length:Nat):Int)).bind λf=>zfq f 94 0 else zfq s 94 0
def zoR:=callee Y [] zzN zrK (λz=>zjH z.1)
def zoA:zaf Y (zY Y zrK):=(.join [[1,2,2,2,2],[2,2,2,2,2]] ⟨[(0,.str),(3,.int .i32),(4,.int .i64)],[]⟩ (u3 zfq) (.join [[1,1,2,2,2,2,2],[2,1,2,2,2,2,2],[2,2,2,2,2,2]] ⟨[(0,.str),(3,.int .i32),(4,.int .i64),(5,.bool)],[]⟩ (u4 ziq) (.loop [[7,5,1,2,2,2,2,2,2],[8,5,1,2,2,2,2,2,2],[6,1,2,2,2,2,2,2],[2,2,2,2,2,2,2]] ⟨[(0,.str),(3,.int .i32),(4,.int .i64),(5,.bool)],[]⟩ (zbJ) (.join [[1,1,2,5,1,2,7,5,1,2,2,2,2,2,2],[2,1,2,5,1,2,7,5,1,2,2,2,2,2,2],[2,2,5,1,2,7,5,1,2,2,2,2,2,2],[6,1,2,7,5,1,2,2,2,2,2,2],[2,2,7,5,1,2,2,2,2,2,2],[8,5,1,2,2,2,2,2,2],[6,1,2,2,2,2,2,2],[2,2,2,2,2,2,2]] ⟨[(0,.str),(3,.int .i32),(4,.int .i64),(5,.bool)],[]⟩ (u4 zdE) .nil) .nil)))
theorem znR:K8 183 (zoR):=f8 zoA Tryz.func183 (.cons znt .nil) ⟨λz=>by kernel_rfl,⟨λz=>by kernel_rfl,⟨λz=>by kernel_rfl,⟨λz=>by kernel_rfl,⟨⟩⟩,trivial⟩⟩⟩
def zeh(c:Int)(d:Bool)(e:Str)(f:Int)(a:Int)(g:Bool)(h:Int)(b:Int)(i:List UInt8)(j:Int)(k:Int):OT9:=let l:=((decide (b<h))||(decide (b>a)));if l=true then some (.inr (a,(zU.code 156 1),()))else let m:=(IntKind.wrap .i64 (k+1));some (.inl (c,d,e,f,a,g,b,i,j,m,()))
def zef(b:Int)(c:Bool)(d:Str)(e:Int)(f:Int)(g:Bool)(a:Int)(h:Int)(i:List UInt8)(j:Int)(k:Int):OT9:=let l:=(IntKind.wrap .u64 (a+(IntKind.wrap .u64 h)));zeh b c d e f g a l i j k
def zek(a:Int)(b:Bool)(c:Str)(d:Int)(e:Int)(f:Bool)(g:Int)(h:Int)(i:List UInt8)(j:Int)(k:Int):OT9:=let l:=(IntKind.wrap .u64 (g*(IntKind.wrap .u64 a)));zef a b c d e f l h i j k
def zem(d:Int)(e:Bool)(f:Str)(a:Int)(b:Int)(g:Bool)(c:Int)(h:Int)(i:List UInt8)(j:Int)(k:Int):OT9:=if(decide (c>=a))=true then some (.inr (b,(zU.code 156 1),()))else zek d e f a b g c h i j k
def zbR(a:Int)(c:Bool)(d:Str)(e:Int)(f:Int)(g:Bool)(h:Int)(b:Int)(i:List UInt8)(j:Int)(k:Int):OT9:=let l:=(decide (b>=(IntKind.wrap .u8 a)));if l=true then some (.inr (0,(zU.code 156 2),()))else zem a c d e f g h b i j k
def zaN:Int×Bool×Str×Int×Int×Bool×Int×(List UInt8)×Int×Int×Unit->OT9| (h,d,e,i,j,k,b,f,g,c,())=>if(decide (c<g))=true then(zQ f c).bind λa=>let l:=(((a.toNat:Nat):Int)==95);if(l&&d)=true then let m:=(IntKind.wrap .i64 (c+1));some (.inl (h,d,e,i,j,true,b,f,g,m,()))else let n:=(decide (48<=((a.toNat:Nat):Int)));let o:=(n&&(decide (((a.toNat:Nat):Int)<=57)));if o=true then let p:=(IntKind.wrap .u8 (((a.toNat:Nat):Int) -48));zbR h d e i j k b p f g c else(za2 ((a.toNat:Nat):Int)).bind λq=>if(decide (97<=q.1))=true then(za2 ((a.toNat:Nat):Int)).bind λr=>if(decide (r.1<=122))=true then(za2 ((a.toNat:Nat):Int)).bind λs=>let t:=(IntKind.wrap .u8 (s.1 -97));let u:=(IntKind.wrap .u8 (t+10));zbR h d e i j k b u f g c else some (.inr (0,(zU.code 156 2),()))else some (.inr (0,(zU.code 156 2),()))else if k=true then(zjH e).bind λv=>if(!v.1)=true then some (.inr (0,(zU.code 156 2),()))else some (.inr (b,zU.nil,()))else some (.inr (b,zU.nil,()))
def zg0(a:Str)(b:Int)(c:Int)(d:Bool)(e:Str):Option (Int×zU×Unit):=(zyZ .u64 18446744073709551615 (IntKind.wrap .u64 b)).bind λf=>let g:=(IntKind.wrap .u64 (f+1));(zuq .u64 1 (IntKind.wrap .u64 c)).bind λh=>let i:=(IntKind.wrap .u64 (h -1));let j:=((a.length:Nat):Int);Lp.loop zaN (b,d,e,g,i,false,0,a,j,0,())
def zeq(a:Str)(b:Int)(c:Int)(d:Bool)(e:Str)(f:Int):Option (Int×zU×Unit):=if(f==16)=true then(zuq .u64 1 (IntKind.wrap .u64 c)).bind λg=>let h:=(IntKind.wrap .u64 (g -1));let i:=((a.length:Nat):Int);Lp.loop zaN (b,d,e,1152921504606846976,h,false,0,a,i,0,())else zg0 a b c d e
def zen(a:Str)(b:Int)(c:Int)(d:Bool)(e:Str)(f:Int):Option (Int×zU×Unit):=if(f==10)=true then(zuq .u64 1 (IntKind.wrap .u64 c)).bind λg=>let h:=(IntKind.wrap .u64 (g -1));Lp.loop zaN (b,d,e,1844674407370955162,h,false,0,a,((a.length:Nat):Int),0,())else zeq a b c d e f
def zeo(b:Str)(a:Int)(c:Int)(d:Bool)(e:Str):Option (Int×zU×Unit):=zen b a c d e a
def zcN(a:Str)(b:Int)(c:Int)(d:Bool)(e:Str):Option (Int×zU×Unit):=zeo a b c d e
def zej(b:Str)(c:Int)(a:Int)(d:Bool)(e:Str):Option (Int×zU×Unit):=let f:=((decide (a<0))||(decide (a>64)));if f=true then some (0,(zU.code 156 4),())else zcN b c a d e
def zgT(a:Str)(b:Int)(c:Bool)(d:Str):Option (Int×zU×Unit):=zcN a b 64 c d
def za5(a:Str)(b:Int)(c:Int)(d:Bool)(e:Str):Option (Int×zU×Unit):=if(c==0)=true then zgT a b d e else zej a b c d e
def zhC(a:Str)(b:Int)(c:Int)(d:Bool)(e:Str):Option (Int×zU×Unit):=(zav a 1 ((a.length:Nat):Int)).bind λf=>za5 f b c d e
def zeF(a:Str)(b:Int)(c:Bool)(d:Str):Option (Int×zU×Unit):=zhC a 8 b c d
def zhy(a:Str)(b:Int)(c:Int)(d:Bool)(e:Str):Option (Int×zU×Unit):=(zav a 2 ((a.length:Nat):Int)).bind λf=>za5 f b c d e
def zhw(a:Str)(b:Int)(c:Bool)(d:Str):Option (Int×zU×Unit):=zhy a 16 b c d
def zew(a:Str)(b:Int)(c:Bool)(d:Str):Option (Int×zU×Unit):=let e:=(decide (((a.length:Nat):Int)>=3));if e=true then(zaS a 1).bind λf=>(za2 f).bind λg=>if(g.1==120)=true then zhw a b c d else zeF a b c d else zeF a b c d
def zhx(a:Str)(b:Int)(c:Int)(d:Bool)(e:Str):Option (Int×zU×Unit):=(zav a 2 ((a.length:Nat):Int)).bind λf=>za5 f b c d e
def zhB(a:Str)(b:Int)(c:Bool)(d:Str):Option (Int×zU×Unit):=zhx a 8 b c d
def zeG(a:Str)(b:Int)(c:Bool)(d:Str):Option (Int×zU×Unit):=let e:=(decide (((a.length:Nat):Int)>=3));if e=true then(zaS a 1).bind λf=>(za2 f).bind λg=>if(g.1==111)=true then zhB a b c d else zew a b c d else zew a b c d
def zdW(t:Str)(o:Int)(A:Int):Option (Int×zU×Unit):=if(t==[])=true then some (0,(zU.code 156 2),())else let a:=((decide (2<=o))&&(decide (o<=36)));if a=true then za5 t o A (o==0) t else if(o==0)=true then(zaS t 0).bind λb=>if(b==48)=true then let c:=(decide (((t.length:Nat):Int)>=3));if c=true then(zaS t 1).bind λd=>(za2 d).bind λe=>if(e.1==98)=true then(zav t 2 ((t.length:Nat):Int)).bind λf=>za5 f 2 A (o==0) t else zeG t A (o==0) t else zeG t A (o==0) t else za5 t 10 A (o==0) t else some (0,(zU.code 156 3),())
def zmE:Shape:=⟨[(0,.str),(1,.int .i64),(2,.int .i64)],[]⟩
def zhR:List zW:=[⟨false,.tup [.int .u64,.err],[]⟩]
def zmC:=callee Y [] zmE zhR (u3 zdW)
def znq:zaf Y (zY Y zhR):=(.join [[1,4,2,5,3,2,2,3,2,4,2,5,1,2,2,2,2],[2,4,2,5,3,2,2,3,2,4,2,5,1,2,2,2,2],[6,3,2,2,3,2,4,2,5,1,2,2,2,2],[6,1,2,2,2,2],[2,2,2,2,2]] ⟨[(0,.str),(2,.int .i64),(8,.bool),(9,.str)],[]⟩ (u4 zeG) (.join [[1,3,2,4,2,5,3,2,2,3,2,4,2,5,1,2,2,2,2],[2,3,2,4,2,5,3,2,2,3,2,4,2,5,1,2,2,2,2],[6,3,2,2,3,2,4,2,5,1,2,2,2,2],[6,1,2,2,2,2],[2,2,2,2,2]] ⟨[(0,.str),(2,.int .i64),(8,.bool),(9,.str)],[]⟩ (u4 zhB) (.join [[2,3,2,4,2,5,3,2,2,3,2,4,2,5,1,2,2,2,2],[6,3,2,2,3,2,4,2,5,1,2,2,2,2],[6,1,2,2,2,2],[2,2,2,2,2]] ⟨[(0,.str),(1,.int .i64),(2,.int .i64),(8,.bool),(9,.str)],[]⟩ (u5 zhx) (.join [[1,4,2,4,2,5,3,2,2,3,2,4,2,5,1,2,2,2,2],[2,4,2,4,2,5,3,2,2,3,2,4,2,5,1,2,2,2,2],[6,3,2,2,3,2,4,2,5,1,2,2,2,2],[6,1,2,2,2,2],[2,2,2,2,2]] ⟨[(0,.str),(2,.int .i64),(8,.bool),(9,.str)],[]⟩ (u4 zew) (.join [[1,3,2,4,2,4,2,5,3,2,2,3,2,4,2,5,1,2,2,2,2],[2,3,2,4,2,4,2,5,3,2,2,3,2,4,2,5,1,2,2,2,2],[6,3,2,2,3,2,4,2,5,1,2,2,2,2],[6,1,2,2,2,2],[2,2,2,2,2]] ⟨[(0,.str),(2,.int .i64),(8,.bool),(9,.str)],[]⟩ (u4 zhw) (.join [[2,3,2,4,2,4,2,5,3,2,2,3,2,4,2,5,1,2,2,2,2],[6,3,2,2,3,2,4,2,5,1,2,2,2,2],[6,1,2,2,2,2],[2,2,2,2,2]] ⟨[(0,.str),(1,.int .i64),(2,.int .i64),(8,.bool),(9,.str)],[]⟩ (u5 zhy) (.join [[1,4,2,4,2,4,2,5,3,2,2,3,2,4,2,5,1,2,2,2,2],[2,4,2,4,2,4,2,5,3,2,2,3,2,4,2,5,1,2,2,2,2],[6,3,2,2,3,2,4,2,5,1,2,2,2,2],[6,1,2,2,2,2],[2,2,2,2,2]] ⟨[(0,.str),(2,.int .i64),(8,.bool),(9,.str)],[]⟩ (u4 zeF) (.join [[2,4,2,4,2,4,2,5,3,2,2,3,2,4,2,5,1,2,2,2,2],[6,3,2,2,3,2,4,2,5,1,2,2,2,2],[6,1,2,2,2,2],[2,2,2,2,2]] ⟨[(0,.str),(1,.int .i64),(2,.int .i64),(8,.bool),(9,.str)],[]⟩ (u5 zhC) (.join [[1,1,2,2,2,2,2],[2,1,2,2,2,2,2],[2,2,2,2,2,2]] ⟨[(0,.str),(1,.int .i64),(2,.int .i64),(8,.bool),(9,.str)],[]⟩ (u5 za5) (.join [[3,2,1,2,2,2,2,2],[2,2,2,2,2,2]] ⟨[(0,.str),(1,.int .i64),(8,.bool),(9,.str)],[]⟩ (u4 zgT) (.join [[1,4,2,1,2,2,2,2,2],[2,4,2,1,2,2,2,2,2],[2,2,2,2,2,2]] ⟨[(0,.str),(1,.int .i64),(2,.int .i64),(8,.bool),(9,.str)],[]⟩ (u5 zej) (.join [[1,2,2,2,2,2,2],[2,2,2,2,2,2,2]] ⟨[(0,.str),(1,.int .i64),(2,.int .i64),(8,.bool),(9,.str)],[]⟩ (u5 zcN) (.join [[1,1,2,2,2,2,2,2,2],[2,1,2,2,2,2,2,2,2],[2,2,2,2,2,2,2,2]] ⟨[(0,.str),(1,.int .i64),(2,.int .i64),(8,.bool),(9,.str)],[]⟩ (u5 zeo) (.join [[1,5,2,1,2,2,2,2,2,2,2],[2,5,2,1,2,2,2,2,2,2,2],[6,2,1,2,2,2,2,2,2,2],[2,2,2,2,2,2,2,2]] ⟨[(0,.str),(1,.int .i64),(2,.int .i64),(8,.bool),(9,.str),(85,.int .i64)],[]⟩ (u6 zen) (.join [[1,4,2,5,2,1,2,2,2,2,2,2,2],[2,4,2,5,2,1,2,2,2,2,2,2,2],[6,2,1,2,2,2,2,2,2,2],[2,2,2,2,2,2,2,2]] ⟨[(0,.str),(1,.int .i64),(2,.int .i64),(8,.bool),(9,.str),(85,.int .i64)],[]⟩ (u6 zeq) (.join [[4,2,4,2,5,2,1,2,2,2,2,2,2,2],[6,2,1,2,2,2,2,2,2,2],[2,2,2,2,2,2,2,2]] ⟨[(0,.str),(1,.int .i64),(2,.int .i64),(8,.bool),(9,.str)],[]⟩ (u5 zg0) (.loop [[7,5,2,1,2,2,2,2,2,2,2,2,2,2,2],[8,5,2,1,2,2,2,2,2,2,2,2,2,2,2],[6,2,1,2,2,2,2,2,2,2,2,2,2,2],[2,2,2,2,2,2,2,2,2,2,2,2]] ⟨[(1,.int .i64),(8,.bool),(9,.str),(10,.int .u64),(11,.int .u64),(12,.bool),(13,.int .u64),(99,.sl 5),(100,.int .i64),(101,.int .i64)],[]⟩ (zaN) (.join [[1,1,2,2,2,5,1,2,2,7,5,2,1,2,2,2,2,2,2,2,2,2,2,2],[2,1,2,2,2,5,1,2,2,7,5,2,1,2,2,2,2,2,2,2,2,2,2,2],[2,2,2,2,5,1,2,2,7,5,2,1,2,2,2,2,2,2,2,2,2,2,2],[6,1,2,2,7,5,2,1,2,2,2,2,2,2,2,2,2,2,2],[2,2,2,7,5,2,1,2,2,2,2,2,2,2,2,2,2,2],[8,5,2,1,2,2,2,2,2,2,2,2,2,2,2],[6,2,1,2,2,2,2,2,2,2,2,2,2,2],[2,2,2,2,2,2,2,2,2,2,2,2]] ⟨[(1,.int .i64),(8,.bool),(9,.str),(10,.int .u64),(11,.int .u64),(12,.bool),(13,.int .u64),(16,.int .u8),(99,.sl 5),(100,.int .i64),(101,.int .i64)],[]⟩ (u11 zbR) (.join [[1,1,2,2,2,2,5,1,2,2,7,5,2,1,2,2,2,2,2,2,2,2,2,2,2],[2,1,2,2,2,2,5,1,2,2,7,5,2,1,2,2,2,2,2,2,2,2,2,2,2],[2,2,2,2,2,5,1,2,2,7,5,2,1,2,2,2,2,2,2,2,2,2,2,2],[6,1,2,2,7,5,2,1,2,2,2,2,2,2,2,2,2,2,2],[2,2,2,7,5,2,1,2,2,2,2,2,2,2,2,2,2,2],[8,5,2,1,2,2,2,2,2,2,2,2,2,2,2],[6,2,1,2,2,2,2,2,2,2,2,2,2,2],[2,2,2,2,2,2,2,2,2,2,2,2]] ⟨[(1,.int .i64),(8,.bool),(9,.str),(10,.int .u64),(11,.int .u64),(12,.bool),(13,.int .u64),(16,.int .u8),(99,.sl 5),(100,.int .i64),(101,.int .i64)],[]⟩ (u11 zem) (.join [[1,2,2,2,2,2,5,1,2,2,7,5,2,1,2,2,2,2,2,2,2,2,2,2,2],[2,2,2,2,2,2,5,1,2,2,7,5,2,1,2,2,2,2,2,2,2,2,2,2,2],[6,1,2,2,7,5,2,1,2,2,2,2,2,2,2,2,2,2,2],[2,2,2,7,5,2,1,2,2,2,2,2,2,2,2,2,2,2],[8,5,2,1,2,2,2,2,2,2,2,2,2,2,2],[6,2,1,2,2,2,2,2,2,2,2,2,2,2],[2,2,2,2,2,2,2,2,2,2,2,2]] ⟨[(1,.int .i64),(8,.bool),(9,.str),(10,.int .u64),(11,.int .u64),(12,.bool),(13,.int .u64),(16,.int .u8),(99,.sl 5),(100,.int .i64),(101,.int .i64)],[]⟩ (u11 zek) (.join [[1,2,2,2,2,2,2,5,1,2,2,7,5,2,1,2,2,2,2,2,2,2,2,2,2,2],[2,2,2,2,2,2,2,5,1,2,2,7,5,2,1,2,2,2,2,2,2,2,2,2,2,2],[6,1,2,2,7,5,2,1,2,2,2,2,2,2,2,2,2,2,2],[2,2,2,7,5,2,1,2,2,2,2,2,2,2,2,2,2,2],[8,5,2,1,2,2,2,2,2,2,2,2,2,2,2],[6,2,1,2,2,2,2,2,2,2,2,2,2,2],[2,2,2,2,2,2,2,2,2,2,2,2]] ⟨[(1,.int .i64),(8,.bool),(9,.str),(10,.int .u64),(11,.int .u64),(12,.bool),(13,.int .u64),(16,.int .u8),(99,.sl 5),(100,.int .i64),(101,.int .i64)],[]⟩ (u11 zef) (.join [[1,1,2,2,2,2,2,2,2,5,1,2,2,7,5,2,1,2,2,2,2,2,2,2,2,2,2,2],[2,1,2,2,2,2,2,2,2,5,1,2,2,7,5,2,1,2,2,2,2,2,2,2,2,2,2,2],[2,2,2,2,2,2,2,2,5,1,2,2,7,5,2,1,2,2,2,2,2,2,2,2,2,2,2],[6,1,2,2,7,5,2,1,2,2,2,2,2,2,2,2,2,2,2],[2,2,2,7,5,2,1,2,2,2,2,2,2,2,2,2,2,2],[8,5,2,1,2,2,2,2,2,2,2,2,2,2,2],[6,2,1,2,2,2,2,2,2,2,2,2,2,2],[2,2,2,2,2,2,2,2,2,2,2,2]] ⟨[(1,.int .i64),(8,.bool),(9,.str),(10,.int .u64),(11,.int .u64),(12,.bool),(13,.int .u64),(17,.int .u64),(99,.sl 5),(100,.int .i64),(101,.int .i64)],[]⟩ (u11 zeh) .nil))))) .nil)))))))))))))))))
theorem zmb:K8 162 (zmC):=f8 znq Tryz.func162 (.cons znt (.cons znR .nil)) ⟨λz=>by kernel_rfl,⟨λz=>by kernel_rfl,⟨λz=>by kernel_rfl,⟨λz=>by kernel_rfl,⟨λz=>by kernel_rfl,⟨λz=>by kernel_rfl,⟨λz=>by kernel_rfl,⟨λz=>by kernel_rfl,⟨λz=>by kernel_rfl,⟨λz=>by kernel_rfl,⟨λz=>by kernel_rfl,⟨λz=>by kernel_rfl,⟨λz=>by kernel_rfl,⟨λz=>by kernel_rfl,⟨λz=>by kernel_rfl,⟨λz=>by kernel_rfl,⟨λz=>by kernel_rfl,⟨λz=>by kernel_rfl,⟨λz=>by kernel_rfl,⟨λz=>by kernel_rfl,⟨λz=>by kernel_rfl,⟨λz=>by kernel_rfl,⟨⟩⟩⟩⟩⟩⟩,trivial⟩⟩⟩⟩⟩⟩⟩⟩⟩⟩⟩⟩⟩⟩⟩⟩⟩
def zfN(f_ s_:Str)(base bits:Int)(a:zU):Option (zU×Unit):=if s_.length<=281474976710656/\(a= .code 156 2\/a= .code 156 1)then some (.opq,())else none
def zl1:Shape:=⟨[(0,.str),(1,.str),(2,.int .i64),(3,.int .i64),(4,.err)],[]⟩
def ztX:List zW:=[⟨false,.err,[]⟩]
def ztZ:=callee Y [] zl1 ztX (λz=>zfN z.1 z.2.1 z.2.2.1 z.2.2.2.1 z.2.2.2.2.1)
theorem zpG(f_ s_:Str)(base bits:Int)(er:zU)(q:TypeId×Value)(r:zU×Unit)(hN:zfN f_ s_ base bits er=some r)(w:World)(F:Heap)(hv:F.Sub w)(hG:zao F):
  Calls Tryz.prog 163 #[.string ⟨⟨f_⟩⟩,.string ⟨⟨s_⟩⟩,.int .i64 base,.int .i64 bits,zj1 er q] w (zcF w F λs=>∃q,s= .v (zj1 r.1 q)):=by
 unfold zfN at hN;split at hN
 ·rename_i hc;cases hN;obtain⟨hc,rfl|rfl⟩:=hc
  ·obtain⟨te,pe,hm⟩:=hG.zzh;refine(Tryz.strconv_toError_syntax ⟨⟨f_⟩⟩ ⟨⟨s_⟩⟩ base bits _ w hc (zet hv hm) (.inr ⟨te,pe,rfl⟩)).mono λe w' h=>?_
   obtain⟨n,h1,_,_,h2⟩:=h;exact zcF.below (s:= .v (.iface _ (.pointer (some ⟨n,0,none⟩)))) hv h1 h2 trivial rfl ⟨(_,_),rfl⟩
  ·obtain⟨te,pe,hm⟩:=hG.zyf;refine(Tryz.strconv_toError_range ⟨⟨f_⟩⟩ ⟨⟨s_⟩⟩ base bits _ w hc (zet hv hm) (.inr ⟨te,pe,rfl⟩)).mono λe w' h=>?_
   obtain⟨n,h1,_,_,h2⟩:=h;exact zcF.below (s:= .v (.iface _ (.pointer (some ⟨n,0,none⟩)))) hv h1 h2 trivial rfl ⟨(_,_),rfl⟩
 ·cases hN
theorem zsQ:K8 163 ztZ:=
 COk.zHW (l:=zl1.l) ⟨⟨_,Tryz.func163,by kernel_rfl,rfl⟩⟩ ⟨rfl,rfl⟩ rfl λz zo h w F vals hG hv hr=>by
  obtain⟨u1,r1,rfl,q1,hr⟩:=hr.inv;obtain⟨u2,r2,rfl,q2,hr⟩:=hr.inv;obtain⟨u3,r3,rfl,q3,hr⟩:=hr.inv;obtain⟨u4,r4,rfl,q4,hr⟩:=hr.inv;obtain⟨u5,r5,rfl,q5,hr⟩:=hr.inv;have hnil:=hr.zdu;subst hnil;have e1:=q1.zaV;have e2:=q2.zaV;have e3:=q3.zaV;have e4:=q4.zaV;subst e1;subst e2;subst e3;subst e4;have key: ∀(e:zU) (u:Value),Rel Y F [] (.err e) u->∃q,u=zj1 e q:=λe u h=>by cases h with| @err e q=>exact⟨q,rfl⟩
  obtain⟨q,rfl⟩:=key _ _ q5;refine(zpG z.1 z.2.1 z.2.2.1 z.2.2.2.1 z.2.2.2.2.1 q zo h w F hv hG).mono λe w' hh=>?_
  obtain⟨F',s,rfl,hgs,hu,hst,q,rfl⟩:=hh;exact⟨F',_,rfl,.err,hst⟩
def zaB(s:Str)(b:Int)(c:Int):Option (Int×zU×Unit):=(zdW s b c).bind λa=>if(!(a.2.1).isNil)=true then(zfN [80,97,114,115,101,85,105,110,116] s b c a.2.1).bind λd=>some (a.1,d.1,())else some (a.1,zU.nil,())
def zrW:=callee Y [] zmE zhR (u3 zaB)
def zsn:zaf Y (zY Y zhR):= .nil
theorem zj7:K8 128 (zrW):=f8 zsn Tryz.func128 (.cons zmb (.cons zsQ .nil)) trivial
def ze9(x:zO):Option (Int×Int×zO×Unit):=(znX x.rest).bind λb=>let f:=((x.rest.length:Nat):Int);(if(decide (b.1<f))=true then(zaS x.rest b.1).bind λg=>some (g==46)else some false).bind λh=>if h=true then some (0,0,(zcx x),())else(zav x.rest 0 b.1).bind λa=>let i:=(decide (((a.length:Nat):Int)>2));(if i=true then(zav a 0 2).bind λj=>(if(j==[48,120])=true then some true else(zav a 0 2).bind λk=>some (k==[48,88])).bind λl=>some l else some false).bind λm=>if m=true then(zav a 2 ((a.length:Nat):Int)).bind λc=>(zaB c 16 53).bind λd=>if(!(d.2.1).isNil)=true then some (0,0,(zcx x),())else(strings_Contains c [95]).bind λn=>if n.1=true then some (0,0,(zcx x),())else some ((IntKind.wrap .i64 d.1),b.1,(zcx x),())else let o:=(decide (((a.length:Nat):Int)>1));(if o=true then(zaS a 0).bind λp=>some (p==48)else some false).bind λq=>if q=true then some (0,0,(zcx x),())else(zaB a 10 53).bind λe=>if(!(e.2.1).isNil)=true then some (0,0,(zcx x),())else(strings_Contains a [95]).bind λr=>if r.1=true then some (0,0,(zcx x),())else some ((IntKind.wrap .i64 e.1),b.1,(zcx x),())
def zjc:List zW:=[⟨false,.tup [.int .i64,.int .i64],[.whole 69 69]⟩]
def zpn:=callee Y [] zpk zjc (λz=>ze9 z.1)
def zpO:zaf Y (zY Y zjc):= .nil
theorem zow:K8 71 (zpn):=f8 zpO Tryz.func71 (.cons zsF (.cons zj7 (.cons zho .nil))) trivial
def zmN:Dn.Callee Y:=zEr Y 5
theorem zma:K8 54 zmN:=zGM Tryz.lays169 Tryz.Builder_Extra_169 ⟨⟨_,Tryz.func54,by kernel_rfl,rfl⟩⟩ hsz
def zdN(a:Str)(c:Int):Option (Int):=some (Lib.indexByte a c.toNat.toUInt8)
theorem zdN.ok(s_:Str)(c:Int)(r:Int)(h0:zdN s_ c=some r)(w0:World)(F0:Heap)(hv:F0.Sub w0)(hG:zao F0)(hg:SV.zar F0 [.v (.string ⟨⟨s_⟩⟩),.v (.int .u8 c)])(ρ:Nat->Nat):
  Calls Tryz.prog 74 (SV.zX ρ [.v (.string ⟨⟨s_⟩⟩),.v (.int .u8 c)]).toArray w0 (zcF w0 F0 λs=>s= .v (.int .i64 r)):=by
 refine(Tryz.strings_IndexByte ⟨⟨s_⟩⟩ c w0).mono λe w' h=>?_
 cases h0;exact zcF.pure (s:= .v _) hv h.1 h.2 trivial rfl rfl
def strings_IndexByte(a:Str)(c:Int):Option (Int×Unit):=ziz (λr=>(r,())) (zdN a c)
def zkJ:Shape:=⟨[(0,.str),(1,.int .u8)],[]⟩
def zsk:=callee Y [] zkJ zs8 (λz=>strings_IndexByte z.1 z.2.1)
theorem zjS:K8 74 zsk:=
 COk.ext (l:=zkJ.l) ⟨⟨_,Tryz.func74,by kernel_rfl,rfl⟩⟩ ⟨rfl,rfl⟩ rfl λz zo h=>⟨_,_,rfl,rfl,λw F hG hv=>by
  obtain⟨r,hr,rfl⟩:=zgv h;exact zdN.ok z.1 z.2.1 r hr w F hv hG (by simp[SV.zar,SV.good]) (λ_=>0)⟩
def zdl(n:Int):Option (Str×Unit):=let a:=(IntKind.wrap .u8 (Int.fdiv n (2^8)));(toB a).bind λb=>(toB (IntKind.wrap .u8 n)).bind λc=>some (([b,c]:List UInt8),())
def zyb:Shape:=⟨[(0,.int .i64)],[]⟩
def zsW:List zW:=[⟨false,.str,[]⟩]
def zyQ:=callee Y [] zyb zsW (λz=>zdl z.1)
def zyB:zaf Y (zY Y zsW):= .nil
theorem zlX:K8 131 (zyQ):=f8 zyB Tryz.func131 .nil trivial
def zlj:Dn.Callee Y:=zAV Y Tryz.prog 85
theorem zkM:K8 114 zlj:=zDh Tryz.lays240 Tryz.zxE ⟨⟨_,Tryz.func114,by kernel_rfl,rfl⟩⟩
def zak(s:Str)(b:Str)(l:List UInt8):Option (Int×zU×Str×(List UInt8)×Unit):=(room (l.length+s.length)).bind λ_=>let a:=l++s;some (((s.length:Nat):Int),zU.nil,b,a,())
def zkj:Shape:=⟨[(0,.ptr 0 1),(1,.str)],[oc2 1,.arr 5]⟩
def zf2:List zW:=[⟨false,.tup [.int .i64,.err],[oc2 1,.arr 5]⟩]
def zkk:=callee Y [] zkj zf2 (u3 zak)
def zki:zaf Y (zY Y zf2):= .nil
theorem zdi:K8 53 (zkk):=f8 zki Tryz.func53 (.cons zkM .nil) trivial
def zeO(t:Str)(a:Str):Option (Str):=if t.length<4294967281/\a.length<4294967281/\a.all (λb=>decide (b.toNat<128))=true then some (Lib.trimS t a)else none
theorem zeO.ok(t:Str)(cs:Str)(r:Str)(h0:zeO t cs=some r)(w0:World)(F0:Heap)(hv:F0.Sub w0)(hG:zao F0)(hg:SV.zar F0 [.v (.string ⟨⟨t⟩⟩),.v (.string ⟨⟨cs⟩⟩)])(ρ:Nat->Nat):
  Calls Tryz.prog 188 (SV.zX ρ [.v (.string ⟨⟨t⟩⟩),.v (.string ⟨⟨cs⟩⟩)]).toArray w0 (zcF w0 F0 λs=>s= .v (.string ⟨⟨r⟩⟩)):=by
 unfold zeO at h0;split at h0
 ·rename_i hc;cases h0;refine(Any.strings_Trim_ascii Tryz.lays160 (zzl (z:= .agg (Array.replicate 256 (.bool false))) (by kernel_rfl)) (by kernel_rfl) ⟨⟨t⟩⟩ ⟨⟨cs⟩⟩ w0 (Nat.le_of_lt (Nat.lt_trans hc.1 (by decide))) hc.2.1 (λj b hb=>by have:=List.all_eq_true.1 hc.2.2 b (List.mem_of_getElem? hb);simpa using this)).mono λe w' h=>?_
  exact zcF.below (s:= .v (.string ⟨⟨_⟩⟩)) hv h.1 h.2 trivial rfl rfl
 ·cases h0
def zkc(t:Str)(a:Str):Option (Str×Unit):=ziz (λr=>(r,())) (zeO t a)
def zwz:=callee Y [] zkF zsW (λz=>zkc z.1 z.2.1)
theorem zvL:K8 188 zwz:=
 COk.ext (l:=zkF.l) ⟨⟨_,Tryz.func188,by kernel_rfl,rfl⟩⟩ ⟨rfl,rfl⟩ rfl λz zo h=>⟨_,_,rfl,rfl,λw F hG hv=>by
  obtain⟨r,hr,rfl⟩:=zgv h;exact zeO.ok z.1 z.2.1 r hr w F hv hG (by simp[SV.zar,SV.good]) (λ_=>0)⟩
def zb6(a:Int)(s:Str)(l:List UInt8):Option (Bool×Str×(List UInt8)×Unit):=let c:=(decide (((s.length:Nat):Int)<a));if c=true then some (false,s,l,())else(zav s 0 a).bind λd=>(zkc d [48,49,50,51,52,53,54,55,56,57,97,98,99,100,101,102,65,66,67,68,69,70]).bind λe=>if(!(e.1==[]))=true then some (false,s,l,())else(zav s 0 a).bind λf=>(zaB f 16 16).bind λg=>(zav s a ((s.length:Nat):Int)).bind λh=>(zdl (IntKind.wrap .i64 g.1)).bind λi=>(zak i.1 h l).bind λb=>some (true,b.2.2.1,b.2.2.2.1,())
def zpF:Shape:=⟨[(0,.ptr 0 0),(1,.int .i64)],[oc2 1,.arr 5]⟩
def zjj:List zW:=[⟨false,.bool,[oc2 1,.arr 5]⟩]
def zpQ:=callee Y [] zpF zjj (u3 zb6)
def zp6:zaf Y (zY Y zjj):= .nil
theorem zoY:K8 164 (zpQ):=f8 zp6 Tryz.func164 (.cons zvL (.cons zj7 (.cons zlX (.cons zdi .nil)))) trivial
def zdI(s:Str)(l:List UInt8):Option (Bool×Str×(List UInt8)×Unit):=if(s==[])=true then some (false,s,l,())else(zaS s 0).bind λa=>(zav s 1 ((s.length:Nat):Int)).bind λb=>(strings_IndexByte [110,116,114,98,102,118] a).bind λf=>if(decide (f.1>=0))=true then(zaS [10,9,13,8,12,11] f.1).bind λi=>(zdl (IntKind.wrap .i64 i)).bind λj=>(zak j.1 b l).bind λg=>some (true,g.2.2.1,g.2.2.2.1,())else if(a==10)=true then some (true,b,l,())else if(a==120)=true then(zb6 2 b l).bind λd=>some (d.1,d.2.1,d.2.2.1,())else if(a==117)=true then(zb6 4 b l).bind λe=>some (e.1,e.2.1,e.2.2.1,())else if(a==48)=true then(zdl 0).bind λk=>(zak k.1 b l).bind λc=>(if(c.2.2.1==[])=true then some true else(zaS c.2.2.1 0).bind λm=>some (decide (m<48))).bind λn=>(if n=true then some true else(zaS c.2.2.1 0).bind λo=>some (decide (o>57))).bind λp=>some (p,c.2.2.1,c.2.2.2.1,())else let q:=((a==13)||((decide (a>=49))&&(decide (a<=57))));let r:=(q||(decide (a>=128)));if r=true then some (false,b,l,())else(zdl (IntKind.wrap .i64 a)).bind λt=>(zak t.1 b l).bind λh=>some (true,h.2.2.1,h.2.2.2.1,())
def zpS:Shape:=⟨[(0,.ptr 0 0)],[oc2 1,.arr 5]⟩
def zpB:=callee Y [] zpS zjj (u2 zdI)
theorem zoF:K8 130 (zpB):=f8 zp6 Tryz.func130 (.cons zjS (.cons zlX (.cons zdi (.cons zoY .nil)))) trivial
def zei:Str×Str×(List UInt8)×Unit->Option ((Str×Str×(List UInt8)×Unit)⊕(Str×Int×Int×Unit))| (b,d,e,())=>if(!(d==[]))=true then(zaS d 0).bind λa=>(zav d 1 ((d.length:Nat):Int)).bind λf=>(zaS b 0).bind λi=>if(a==i)=true then fd (let j:=(IntKind.wrap .i64 (((b.length:Nat):Int) - ((f.length:Nat):Int)));some (.inr (e,j,0,())))else let k:=((a==10)||(a==13));let l:=(k||(decide (a>=128)));if l=true then some (.inr ([],0,10,()))else if(a==92)=true then(zdI f e).bind λc=>if(!c.1)=true then some (.inr ([],0,10,()))else if(a !=92)=true then(zdl (IntKind.wrap .i64 a)).bind λm=>(zak m.1 c.2.1 c.2.2.1).bind λg=>some (.inl (b,g.2.2.1,g.2.2.2.1,()))else some (.inl (b,c.2.1,c.2.2.1,()))else if(a !=92)=true then(zdl (IntKind.wrap .i64 a)).bind λn=>(zak n.1 f e).bind λh=>some (.inl (b,h.2.2.1,h.2.2.2.1,()))else some (.inl (b,f,e,()))else some (.inr ([],0,10,()))
def zmv(s:Str):Option (Str×Int×Int×Unit):=(if(s==[])=true then some true else(zaS s 0).bind λa=>(if(a !=39)=true then(zaS s 0).bind λb=>some (b !=34)else some false).bind λc=>some c).bind λd=>if d=true then some ([],0,10,())else(zav s 1 ((s.length:Nat):Int)).bind λe=>Lp.loop zei (s,e,[],())
def zsU:List zW:=[⟨false,.tup [.str,.int .i64,.int .i64],[]⟩]
def zyj:=callee Y [] zzN zsU (λz=>zmv z.1)
def zyA:zaf Y (zY Y zsU):=(.loop [[7,5,1,2,2,2],[8,5,1,2,2,2],[6,1,2,2,2],[2,2,2,2]] ⟨[(0,.str),(5,.ptr 0 0)],[oc2 1,.arr 5]⟩ (zei) .nil .nil)
theorem zxt:K8 72 (zyj):=f8 zyA Tryz.func72 (.cons zma (.cons zoF (.cons zlX (.cons zdi .nil)))) ⟨λz=>by kernel_rfl,trivial,trivial⟩
def zdK(b:Int)(d:Str)(e:Int)(c:zO)(a:zl):Option (zl×Int×zO×Unit):=(strings_IndexByte [123,125,40,41,91,93,46,59,44,60,62,43,45,42,47,37,33,63,58,61] e).bind λf=>if(decide (f.1>=0))=true then(zav d 0 1).bind λg=>some (⟨5,g,a.Num,a.At,a.Fresh⟩,1,(zcx c),())else if(a.Kind==5)=true then(zav d 0 b).bind λh=>some (⟨a.Kind,h,a.Num,a.At,a.Fresh⟩,b,(zcx c),())else some ((zuQ a),b,(zcx c),())
def zdJ(d:Int)(a:Str)(e:Int)(c:zO)(b:zl):Option (zl×Int×zO×Unit):=let f:=(decide (((a.length:Nat):Int)>1));if f=true then(zav a 0 2).bind λg=>(zeL [32,60,61,32,62,61,32,61,61,32,33,61,32,43,43,32,45,45,32,38,38,32,124,124,32,43,61,32,45,61,32,42,61,32,47,61,32,37,61,32] g).bind λh=>if h.1=true then(zav a 0 2).bind λi=>some (⟨5,i,b.Num,b.At,b.Fresh⟩,2,(zcx c),())else zdK d a e (zcx c) (zuQ b)else zdK d a e (zcx c) (zuQ b)
def zdP(x:zO):Option (zl×Int×zO×Unit):=(zaS x.rest 0).bind λa=>(zif a).bind λf=>if f.1=true then(znX x.rest).bind λb=>if(decide (b.1>32))=true then some (⟨0,[],0,0,false⟩,0,(zcx x),())else(zav x.rest 0 b.1).bind λc=>(zm2 c).bind λg=>if g.1=true then some (⟨2,c,0,0,false⟩,b.1,(zcx x),())else some (⟨1,c,0,0,false⟩,b.1,(zcx x),())else(ziO a).bind λh=>if h.1=true then(ze9 (zcx x)).bind λd=>some (⟨3,[],d.1,0,false⟩,d.2.1,(zcx d.2.2.1),())else let i:=((a==39)||(a==34));if i=true then(zmv x.rest).bind λe=>some (⟨4,e.1,0,0,false⟩,e.2.1,(zcx x),())else let j:=((x.rest.length:Nat):Int);if(decide (j>2))=true then(zav x.rest 0 3).bind λk=>(zeL [32,61,61,61,32,33,61,61,32] k).bind λl=>if l.1=true then(zav x.rest 0 3).bind λm=>some (⟨5,m,0,0,false⟩,3,(zcx x),())else zdJ 0 x.rest a (zcx x) ⟨0,[],0,0,false⟩else zdJ 0 x.rest a (zcx x) ⟨0,[],0,0,false⟩
def zlq:List zW:=[⟨false,.tup [.st 36,.int .i64],[.whole 69 69]⟩]
def ztj:=callee Y [] zpk zlq (λz=>zdP z.1)
def zsC:zaf Y (zY Y zlq):=(.join [[1,4,2,4,2,4,2,4,2,5,2,1,2,2],[2,4,2,4,2,4,2,4,2,5,2,1,2,2],[6,2,1,2,2],[2,2,2]] ⟨[(2,.ptr 1 0),(3,.int .i64),(4,.str),(5,.int .u8)],[.whole 69 69,.whole 36 36]⟩ (u5 zdJ) (.join [[1,4,2,4,2,4,2,4,2,4,2,5,2,1,2,2],[2,4,2,4,2,4,2,4,2,4,2,5,2,1,2,2],[6,2,1,2,2],[2,2,2]] ⟨[(2,.ptr 1 0),(3,.int .i64),(4,.str),(5,.int .u8)],[.whole 69 69,.whole 36 36]⟩ (u5 zdK) .nil))
theorem zrV:K8 34 (ztj):=f8 zsC Tryz.func34 (.cons znS (.cons zsF (.cons zvY (.cons zpe (.cons zow (.cons zxt (.cons zp1 (.cons zjS .nil)))))))) ⟨λz=>by kernel_rfl,⟨λz=>by kernel_rfl,⟨⟩⟩⟩
def zge:Str×zO×(List zl)×Unit->Option ((Str×zO×(List zl)×Unit)⊕((List zl)×Int×Int×Unit))| (c,f,d,())=>(zfk (zcx f)).bind λb=>if b.1=true then let g:=((c.length:Nat):Int);let h:=((b.2.1.rest.length:Nat):Int);let e:=(IntKind.wrap .i64 (g -h));let i:=(b.2.1.rest==[]);if i=true then(room (d.length+([⟨0,[],0,e,b.2.1.fresh⟩]:List zl).length)).bind λ_=>let j:=d++[⟨0,[],0,e,b.2.1.fresh⟩];(zla j).bind λk=>some (.inr (k.1,0,0,()))else(zdP (zcx b.2.1)).bind λa=>if(a.2.1==0)=true then let l:=((c.length:Nat):Int);let m:=((a.2.2.1.rest.length:Nat):Int);let n:=(IntKind.wrap .i64 (l -m));some (.inr ([],n,60,()))else(room (d.length+([⟨a.1.Kind,a.1.Text,a.1.Num,e,a.2.2.1.fresh⟩]:List zl).length)).bind λ_=>let o:=d++[⟨a.1.Kind,a.1.Text,a.1.Num,e,a.2.2.1.fresh⟩];(zav a.2.2.1.rest a.2.1 ((a.2.2.1.rest.length:Nat):Int)).bind λp=>some (.inl (c,⟨a.2.2.1.src,p,a.2.2.1.fresh⟩,o,()))else let q:=((c.length:Nat):Int);let r:=((b.2.1.rest.length:Nat):Int);let s:=(IntKind.wrap .i64 (q -r));some (.inr ([],s,60,()))
def zoc(a:Str):Option ((List zl)×Int×Int×Unit):=let b:=(decide (((a.length:Nat):Int)>4096));if b=true then some ([],0,2,())else Lp.loop zge (a,⟨a,a,false⟩,[],())
def zt9:List zW:=[⟨false,.tup [.sl 36,.int .i64,.int .i64],[]⟩]
def zoG:=callee Y [] zzN zt9 (λz=>zoc z.1)
def zzI:zaf Y (zY Y zt9):=(.loop [[7,5,1,2,2,2,2],[8,5,1,2,2,2,2],[6,1,2,2,2,2],[2,2,2,2,2]] ⟨[(0,.str),(5,.ptr 0 0),(6,.own 1)],[.whole 69 69,.arr 36]⟩ (zge) .nil .nil)
theorem zzc:K8 18 (zoG):=f8 zzI Tryz.func18 (.cons zom (.cons zwg (.cons zrV .nil))) ⟨λz=>by kernel_rfl,trivial,trivial⟩
def zaE(s:Str)(x:zh):Option (Bool×zh×Unit):=(zQ x.t 0).bind λa=>(if(a.Kind==5)=true then some true else(zQ x.t 0).bind λb=>some (b.Kind==2)).bind λc=>(if c=true then(zQ x.t 0).bind λd=>some (d.Text==s)else some false).bind λe=>some (e,(zi x),())
def zt0:Shape:=⟨[(0,.ptr 0 0),(1,.str)],[.whole 48 48]⟩
def zl2:List zW:=[⟨false,.bool,[.whole 48 48]⟩]
def zt3:=callee Y [] zt0 zl2 (u2 zaE)
def zt1:zaf Y (zY Y zl2):= .nil
theorem zbt:K8 35 (zt3):=f8 zt1 Tryz.func35 .nil trivial
def zaa(x:zh):Option (zl×zh×Unit):=(zQ x.t 0).bind λa=>if(a.Kind !=0)=true then(zav x.t 1 ((x.t.length:Nat):Int)).bind λb=>some ((zuQ a),⟨b,x.no⟩,())else some ((zuQ a),(zi x),())
def zrU:Shape:=⟨[(0,.ptr 0 0)],[.whole 48 48]⟩
def zkz:List zW:=[⟨false,.st 36,[.whole 48 48]⟩]
def zhd:=callee Y [] zrU zkz (λz=>zaa z.1)
def zsh:zaf Y (zY Y zkz):= .nil
theorem za9:K8 75 (zhd):=f8 zsh Tryz.func75 .nil trivial
def zG(s:Str)(x:zh):Option (Bool×zh×Unit):=(zaE s (zi x)).bind λa=>if a.1=true then(zaa (zi a.2.1)).bind λb=>some (a.1,(zi b.2.1),())else some (a.1,(zi a.2.1),())
def zfC:=callee Y [] zt0 zl2 (u2 zG)
theorem zah:K8 36 (zfC):=f8 zt1 Tryz.func36 (.cons zbt (.cons za9 .nil)) trivial
def zas(x:zh):Option (zU×zh×Unit):=(zQ x.t 0).bind λa=>some ((zU.code 45 a.At),(zi x),())
def zkG:List zW:=[⟨true,.err,[.whole 48 48]⟩]
def zdG:=callee Y [] zrU zkG (λz=>zas z.1)
def zrL:zaf Y (zY Y zkG):= .nil
theorem zax:K8 21 (zdG):=f8 zrL Tryz.func21 .nil trivial
def zb2(x:zh):Option ((zU×zh×Unit)⊕(Str×zh×Unit)):=(zQ x.t 0).bind λc=>if(c.Kind !=1)=true then(zas (zi x)).bind λa=>some (.inl (a.1,(zi a.2.1),()))else(zaa (zi x)).bind λb=>some (.inr (b.1.Text,(zi b.2.1),()))
def zkm:List zW:=[⟨true,.err,[.whole 48 48]⟩,⟨false,.str,[.whole 48 48]⟩]
def zku:=callee Y [] zrU zkm (λz=>zb2 z.1)
def zrI:zaf Y (zY Y zkm):= .nil
theorem zdm:K8 76 (zku):=f8 zrI Tryz.func76 (.cons zax (.cons za9 .nil)) trivial
def zT(s:Str)(x:zh):zD6:=(zG s (zi x)).bind λa=>if(!a.1)=true then(zas (zi a.2.1)).bind λb=>some (.inl (b.1,(zi b.2.1),()))else some (.inr ((zi a.2.1),()))
def zkI:List zW:=[⟨true,.err,[.whole 48 48]⟩,⟨false,.tup [],[.whole 48 48]⟩]
def zdH:=callee Y [] zt0 zkI (u2 zT)
def zr7:zaf Y (zY Y zkI):= .nil
theorem zan:K8 77 (zdH):=f8 zr7 Tryz.func77 (.cons zah (.cons zax .nil)) trivial
def zfw(x:zh)(c:Int)(d:Str)(e:Int)(f:Str)(l:List Str)(g:List zg):OT5:=(zb2 (zi x)).bind λh=>(match h with| .inl b=>some (.inl (b.1,(zi b.2.1),c,d,e,f,l,g,()))| .inr a=>(room (l.length+([a.1]:List Str).length)).bind λ_=>let i:=l++[a.1];some (.inr ((zi a.2.1),c,d,e,f,i,g,())))
def om0:List zbg:=[.cells 46 [.ptr 1 0],.whole 48 48,.cells 9 [.str],.cells 1 [.fn 242 [.ptr 4 0,.ptr 5 0]],.cells 46 [.ptr 1 0],oc0 6 7,.arr 9,.arr 25,.cells 4 [.bool]]
def om1:List zbg:=[.whole 48 48,.cells 46 [.ptr 0 0],.cells 9 [.str],.cells 1 [.fn 242 [.ptr 4 0,.ptr 5 0]],.cells 46 [.ptr 0 0],oc0 6 7,.arr 9,.arr 25,.cells 4 [.bool]]
def om2:List zbg:=[.cells 46 [.ptr 1 0],.whole 48 48,.cells 9 [.str],.cells 1 [.fn 79 [.ptr 4 0,.ptr 5 0]],.cells 46 [.ptr 1 0],oc0 6 7,.arr 9,.arr 25,.cells 4 [.bool]]
def om3:List zbg:=[.whole 48 48,.cells 46 [.ptr 0 0],.cells 9 [.str],.cells 1 [.fn 79 [.ptr 4 0,.ptr 5 0]],.cells 46 [.ptr 0 0],oc0 6 7,.arr 9,.arr 25,.cells 4 [.bool]]
def om4:List zbg:=[.cells 46 [.ptr 1 0],.whole 48 48,.cells 9 [.str],.cells 1 [.fn 236 [.ptr 4 0,.ptr 5 0]],.cells 46 [.ptr 1 0],oc1 6,.arr 25,.cells 4 [.bool]]
def om5:List zbg:=[.whole 48 48,.cells 46 [.ptr 0 0],.cells 9 [.str],.cells 1 [.fn 236 [.ptr 4 0,.ptr 5 0]],.cells 46 [.ptr 0 0],oc1 6,.arr 25,.cells 4 [.bool]]
def om6:List zbg:=[.whole 48 48,oc0 4 5,oc0 6 7,oc0 8 9,.arr 9,.arr 25,.arr 9,.arr 25,.arr 9,.arr 25]
def om7:List zbg:=[.whole 48 48,.cells 46 [.ptr 0 0],oc0 4 5,oc0 6 7,.arr 9,.arr 25,.arr 9,.arr 25]
def om8:List zbg:=[.whole 48 48,oc0 4 5,oc0 6 7,.whole 25 25,.arr 9,.arr 25,.arr 9,.arr 25]
def om9:List zbg:=[.whole 48 48,.cells 46 [.ptr 0 0],.whole 25 25,.arr 9,.arr 25]
def zDY:List zbg:=[.cells 46 [.ptr 1 0],.whole 48 48,.whole 25 25,.arr 9,.arr 25]
def zfs:List zbg:=[.whole 48 48,oc0 3 4,oc0 5 6,.arr 9,.arr 25,.arr 9,.arr 25]
def zjX:List zbg:=[.cells 46 [.ptr 1 0],.whole 48 48,oc0 3 4,.arr 9,.arr 25]
def zbo:List zbg:=[.whole 48 48,.cells 46 [.ptr 0 0],oc0 3 4,.arr 9,.arr 25]
def zA2:List zbg:=[.whole 48 48,oc0 3 4,.whole 25 25,.arr 9,.arr 25]
def zwe:List zbg:=[.whole 48 48,.cells 46 [.ptr 0 0],oc1 3,.arr 25]
def zCQ:List zbg:=[.cells 46 [.ptr 1 0],.whole 48 48,oc1 3,.arr 25]
def zmm:Shape:=⟨[(0,.ptr 0 0),(1,.ptr 2 0)],zjX⟩
def zhv:List zW:=[⟨true,.err,zjX⟩,⟨false,.tup [],zjX⟩]
def zmr:=callee Y [] zmm zhv (u7 zfw)
def zmw:zaf Y (zY Y zhv):= .nil
theorem zlY:K8 79 (zmr):=f8 zmw Tryz.func79 (.cons zdm .nil) trivial
def zcG:zh×Str×Int×Str×Int×Str×(List Str)×(List zg)×Bool×Unit->OT0| (q,b,h,i,j,k,l,m,c,())=>(zG b (zi q)).bind λe=>if(!e.1)=true then(zfw (zi e.2.1) h i j k l m).bind λr=>(match r with| .inl d=>some (.inr (.inl (d.1,(zi d.2.1),b,d.2.2.1,d.2.2.2.1,d.2.2.2.2.1,d.2.2.2.2.2.1,d.2.2.2.2.2.2.1,d.2.2.2.2.2.2.2.1,c,())))| .inr a=>(zG b (zi a.1)).bind λf=>if f.1=true then some (.inr (.inr ((zi f.2.1),b,a.2.1,a.2.2.1,a.2.2.2.1,a.2.2.2.2.1,a.2.2.2.2.2.1,a.2.2.2.2.2.2.1,c,())))else(zT [44] (zi f.2.1)).bind λs=>(match s with| .inl n=>some (.inr (.inl (n.1,(zi n.2.1),b,a.2.1,a.2.2.1,a.2.2.2.1,a.2.2.2.2.1,a.2.2.2.2.2.1,a.2.2.2.2.2.2.1,c,())))| .inr o=>if(!c)=true then(zaE b (zi o.1)).bind λg=>if g.1=true then(zas (zi g.2.1)).bind λp=>some (.inr (.inl (p.1,(zi p.2.1),b,a.2.1,a.2.2.1,a.2.2.2.1,a.2.2.2.2.1,a.2.2.2.2.2.1,a.2.2.2.2.2.2.1,c,())))else some (.inl ((zi g.2.1),b,a.2.1,a.2.2.1,a.2.2.2.1,a.2.2.2.2.1,a.2.2.2.2.2.1,a.2.2.2.2.2.2.1,c,()))else some (.inl ((zi o.1),b,a.2.1,a.2.2.1,a.2.2.2.1,a.2.2.2.2.1,a.2.2.2.2.2.1,a.2.2.2.2.2.2.1,c,()))))else some (.inr (.inr ((zi e.2.1),b,h,i,j,k,l,m,c,())))
def zfb(x:zh)(a:Str)(b:Int)(c:Str)(d:Int)(e:Str)(l:List Str)(f:List zg)(g:Bool):OT3:=Lp.loop zcG ((zi x),a,b,c,d,e,l,f,g,())
def zpc:Shape:=⟨[(0,.ptr 0 0),(1,.ptr 2 0),(2,.ptr 3 0),(3,.ptr 8 0)],om2⟩
def zjh:List zW:=[⟨true,.err,om2⟩,⟨false,.tup [],om2⟩]
def zjy:=callee Y [] zpc zjh (u9 zfb)
def zpN:zaf Y (zY Y zjh):=(.loop [[7,5],[8,5],[6]] ⟨[(0,.ptr 0 0),(1,.ptr 2 0),(2,.ptr 3 0),(3,.ptr 8 0)],om2⟩ (zcG) .nil .nil)
theorem zoW:K8 133 (zjy):=f8 zpN Tryz.func133 (.cons zah (.cons zlY (.cons zan (.cons zbt (.cons zax .nil))))) ⟨λz=>by kernel_rfl,trivial,trivial⟩
def zfc(x:zh)(a:Str)(e:Int)(f:Str)(g:Int)(h:Str)(l:List Str)(i:List zg)(j:Bool):OT3:=(zfb ⟨x.t,false⟩ a e f g h l i j).bind λd=>(match d with| .inl b=>some (.inl (b.1,(zi b.2.1),b.2.2.1,b.2.2.2.1,b.2.2.2.2.1,b.2.2.2.2.2.1,b.2.2.2.2.2.2.1,b.2.2.2.2.2.2.2.1,b.2.2.2.2.2.2.2.2.1,b.2.2.2.2.2.2.2.2.2.1,()))| .inr c=>some (.inr (⟨c.1.t,x.no⟩,c.2.1,c.2.2.1,c.2.2.2.1,c.2.2.2.2.1,c.2.2.2.2.2.1,c.2.2.2.2.2.2.1,c.2.2.2.2.2.2.2.1,c.2.2.2.2.2.2.2.2.1,())))
def zpH:Shape:=⟨[(0,.ptr 0 0),(1,.fn 133 [.ptr 1 0,.ptr 2 0,.ptr 3 0,.ptr 8 0])],om3⟩
def zjd:List zW:=[⟨true,.err,om3⟩,⟨false,.tup [],om3⟩]
def zjq:=callee Y [] zpH zjd (u9 zfc)
def zpV:zaf Y (zY Y zjd):= .nil
theorem zoX:K8 80 (zjq):=f8 zpV Tryz.func80 ((.cons (COk.laid zoW) .nil):zbU hY Tryz.prog zao [(133,(zht Y [⟨[(0,.ptr 0 0),(1,.ptr 2 0),(2,.ptr 3 0),(3,.ptr 8 0)],om2⟩,⟨[(0,.ptr 0 0),(1,.ptr 2 0),(2,.ptr 3 0),(3,.ptr 7 0)],om4⟩,⟨[(0,.ptr 0 0),(1,.ptr 2 0),(2,.ptr 3 0),(3,.ptr 8 0)],om0⟩] (zjy)))]) trivial
def zf4(d:Str)(e:Bool)(x:zh)(f:Int)(g:Str)(h:Int)(i:Str)(l:List Str)(j:List zg):OT5:=(zfc (zi x) d f g h i l j e).bind λc=>(match c with| .inl a=>some (.inl (a.1,(zi a.2.1),a.2.2.2.1,a.2.2.2.2.1,a.2.2.2.2.2.1,a.2.2.2.2.2.2.1,a.2.2.2.2.2.2.2.1,a.2.2.2.2.2.2.2.2.1,()))| .inr b=>some (.inr ((zi b.1),b.2.2.1,b.2.2.2.1,b.2.2.2.2.1,b.2.2.2.2.2.1,b.2.2.2.2.2.2.1,b.2.2.2.2.2.2.2.1,())))
def zr1:Shape:=⟨[(0,.ptr 0 0),(1,.str),(2,.bool),(3,.fn 79 [.ptr 1 0,.ptr 2 0])],zbo⟩
def zkv:List zW:=[⟨true,.err,zbo⟩,⟨false,.tup [],zbo⟩]
def zkw:=callee Y [] zr1 zkv (u9 zf4)
def zr0:zaf Y (zY Y zkv):= .nil
theorem zqU:K8 78 (zkw):=f8 zr0 Tryz.func78 ((.cons (COk.laid zoX) .nil):zbU hY Tryz.prog zao [(80,(zht Y [⟨[(0,.ptr 0 0),(1,.fn 133 [.ptr 1 0,.ptr 2 0,.ptr 3 0,.ptr 8 0])],om3⟩,⟨[(0,.ptr 0 0),(1,.fn 81 [.ptr 1 0,.ptr 2 0])],zbo⟩,⟨[(0,.ptr 0 0),(1,.fn 241 [.ptr 1 0,.ptr 2 0])],zbo⟩,⟨[(0,.ptr 0 0),(1,.fn 133 [.ptr 1 0,.ptr 2 0,.ptr 3 0,.ptr 7 0])],om5⟩,⟨[(0,.ptr 0 0),(1,.fn 133 [.ptr 1 0,.ptr 2 0,.ptr 3 0,.ptr 8 0])],om1⟩,⟨[(0,.ptr 0 0),(1,.fn 222 [.ptr 1 0,.ptr 2 0])],zbo⟩,⟨[(0,.ptr 0 0),(1,.fn 167 [.ptr 1 0,.ptr 2 0])],zbo⟩] (zjq)))]) trivial
def zaR(h:Str)(x:zh):Option (Bool×zh×Unit):=(zQ x.t 0).bind λa=>(if(a.Kind==5)=true then some true else(zQ x.t 0).bind λb=>some (b.Kind==2)).bind λc=>if c=true then(zQ x.t 0).bind λd=>(zgy [32] d.Text).bind λe=>(zgy e [32]).bind λf=>(strings_Contains h f).bind λg=>some (g.1,(zi x),())else some (false,(zi x),())
def zkd:=callee Y [] zt0 zl2 (u2 zaR)
theorem zea:K8 136 (zkd):=f8 zt1 Tryz.func136 (.cons zho .nil) trivial
def zgU(n:zg):Option (Bool×Unit):=let a:=((n.Kind==3)||(n.Kind==11));some ((a||(n.Kind==12)),())
def zvB:Shape:=⟨[(0,.st 25)],[]⟩
def zvh:=callee Y [] zvB zrK (λz=>zgU z.1)
theorem zmI:K8 121 (zvh):=f8 zwy Tryz.func121 .nil trivial
def zcD(n:zg)(x:zh):zD6:=(zgU (zy n)).bind λb=>if(!b.1)=true then(zas (zi x)).bind λa=>some (.inl (a.1,(zi a.2.1),()))else some (.inr ((zi x),()))
def zo8:Shape:=⟨[(0,.ptr 0 0),(1,.st 25)],[.whole 48 48]⟩
def zjn:=callee Y [] zo8 zkI (u2 zcD)
theorem ziT:K8 168 (zjn):=f8 zr7 Tryz.func168 (.cons zmI (.cons zax .nil)) trivial
def zb5(a:Int)(b:Int):Option (Str):=if b=16 then Gw.zc0 a else if -9223372036854775808<=a/\a<=9223372036854775807/\b=10 then some (Lib.itoa a)else none
theorem zb5.ok(i_:Int)(base_:Int)(r:Str)(h0:zb5 i_ base_=some r)(w0:World)(F0:Heap)(hv:F0.Sub w0)(hG:zao F0)(hg:SV.zar F0 [.v (.int .i64 i_),.v (.int .i64 base_)])(ρ:Nat->Nat):
  Calls Tryz.prog 173 (SV.zX ρ [.v (.int .i64 i_),.v (.int .i64 base_)]).toArray w0 (zcF w0 F0 λs=>s= .v (.string ⟨⟨r⟩⟩)):=by
 unfold zb5 at h0;split at h0
 ·rename_i hb;subst hb;exact Gw.zc0.ok i_ r h0 w0 F0 hv ⟨hG.maxLen,hG.zvp,hG.zzh,hG.zyf,hG.zve⟩ ⟨trivial,trivial,trivial⟩ (λ_=>0)
 ·split at h0
  ·rename_i hc;cases h0;obtain⟨h1,h2,rfl⟩:=hc;refine(Tryz.strconv_FormatInt_10 i_ h1 h2 w0 (hG.zve w0 hv)).mono λe w' h=>?_
   obtain⟨h1,k,os,rfl⟩:=h;exact zcF.below (s:= .v (.string ⟨⟨_⟩⟩)) hv h1 (Go.Lib.below_grow _ _ (yJ _) _ _) trivial rfl rfl
  ·cases h0
def zdx(a:Int)(b:Int):Option (Str×Unit):=ziz (λr=>(r,())) (zb5 a b)
def zkE:Shape:=⟨[(0,.int .i64),(1,.int .i64)],[]⟩
def zrR:=callee Y [] zkE zsW (λz=>zdx z.1 z.2.1)
theorem zqd:K8 173 zrR:=
 COk.ext (l:=zkE.l) ⟨⟨_,Tryz.func173,by kernel_rfl,rfl⟩⟩ ⟨rfl,rfl⟩ rfl λz zo h=>⟨_,_,rfl,rfl,λw F hG hv=>by
  obtain⟨r,hr,rfl⟩:=zgv h;exact zb5.ok z.1 z.2.1 r hr w F hv hG (by simp[SV.zar,SV.good]) (λ_=>0)⟩
def zg3:Str×Int×Int×(List UInt8)×Unit->zwh| (c,e,a,b,())=>if(decide (a<e))=true then(zaS c a).bind λf=>if(decide (f>=128))=true then some (.inr ([],10,()))else let g:=(IntKind.wrap .i64 (2*a));let d:=(IntKind.wrap .i64 (g+1));(zaS c a).bind λh=>(zQ b d).bind λ_=>(zQ b d).bind λl=>(zBm h).bind λi=>let j:=b.set d.toNat i;let k:=(IntKind.wrap .i64 (a+1));some (.inl (c,e,k,j,()))else some (.inr (b,0,()))
def zkQ(s:Str):Option (Str×Int×Unit):=let a:=(IntKind.wrap .i64 (2*((s.length:Nat):Int)));(zu6 a).bind λb=>Lp.loop zg3 (s,((s.length:Nat):Int),0,(List.replicate b (UInt8.ofNat 0)),())
def zvN:List zW:=[⟨false,.tup [.str,.int .i64],[]⟩]
def zAP:=callee Y [] zzN zvN (λz=>zkQ z.1)
def zA4:zaf Y (zY Y zvN):=(.loop [[7,5,2,1,2,2],[8,5,2,1,2,2],[6,2,1,2,2],[2,2,2]] ⟨[(0,.str),(4,.own 0),(11,.int .i64),(12,.int .i64)],[.arr 5]⟩ (zg3) .nil .nil)
theorem zzT:K8 246 (zAP):=f8 zA4 Tryz.func246 .nil ⟨λz=>by kernel_rfl,trivial,trivial⟩
def zgE(x:zh):Option ((Str×zh×Unit)⊕(zU×zh×Unit)):=(zQ x.t 0).bind λa=>if(a.Kind==4)=true then(zaa (zi x)).bind λc=>some (.inl (a.Text,(zi c.2.1),()))else if(a.Kind==3)=true then(zdx a.Num 10).bind λd=>(zaa (zi x)).bind λe=>(zkQ d.1).bind λf=>some (.inl (f.1,(zi e.2.1),()))else if(a.Kind==1)=true then(zaa (zi x)).bind λg=>(zkQ a.Text).bind λh=>some (.inl (h.1,(zi g.2.1),()))else if(a.Kind==2)=true then(zaa (zi x)).bind λi=>(zkQ a.Text).bind λj=>some (.inl (j.1,(zi i.2.1),()))else(zas (zi x)).bind λb=>some (.inr (b.1,(zi b.2.1),()))
def zlu:List zW:=[⟨false,.str,[.whole 48 48]⟩,⟨true,.err,[.whole 48 48]⟩]
def zsw:=callee Y [] zrU zlu (λz=>zgE z.1)
def ztq:zaf Y (zY Y zlu):= .nil
theorem zsp:K8 243 (zsw):=f8 ztq Tryz.func243 (.cons za9 (.cons zqd (.cons zzT (.cons zax .nil)))) trivial
def zcr(c:zh):Option (Int×Int×zh×Unit):=(zaR [32,43,32,45,32] (zi c)).bind λa=>if a.1=true then some (7,17,(zi a.2.1),())else(zaR [32,42,32,47,32,37,32] (zi a.2.1)).bind λb=>if b.1=true then some (8,17,(zi b.2.1),())else some (0,0,(zi b.2.1),())
def zeE(x:zh):Option (Int×Int×zh×Unit):=(zaE [124,124] (zi x)).bind λb=>if b.1=true then some (3,18,(zi b.2.1),())else(zaE [38,38] (zi b.2.1)).bind λc=>if c.1=true then some (4,18,(zi c.2.1),())else(zaR [32,61,61,32,33,61,32,61,61,61,32,33,61,61,32] (zi c.2.1)).bind λd=>if d.1=true then some (5,17,(zi d.2.1),())else(zaR [32,60,32,62,32,60,61,32,62,61,32,105,110,115,116,97,110,99,101,111,102,32] (zi d.2.1)).bind λa=>if a.1=true then some (6,17,(zi a.2.1),())else if(!a.2.1.no)=true then(zaE [105,110] (zi a.2.1)).bind λe=>if e.1=true then some (6,17,(zi e.2.1),())else zcr (zi e.2.1)else zcr (zi a.2.1)
def ziS:List zW:=[⟨false,.tup [.int .i64,.int .i64],[.whole 48 48]⟩]
def zon:=callee Y [] zrU ziS (λz=>zeE z.1)
def zou:zaf Y (zY Y ziS):=(.join [[1,4,2,4,2,4,2,4,2,5,1,2],[2,4,2,4,2,4,2,4,2,5,1,2],[6,1,2],[2,2]] ⟨[(0,.ptr 0 0)],[.whole 48 48]⟩ (λz=>zcr z.1) .nil)
theorem znQ:K8 190 (zon):=f8 zou Tryz.func190 (.cons zbt (.cons zea .nil)) ⟨λz=>by kernel_rfl,⟨⟩⟩
def zcZ(x:zh):Option (Bool×zh×Unit):=(zaE [125] (zi x)).bind λa=>(if a.1=true then some true else(zQ a.2.1.t 0).bind λb=>some (b.Kind==0)).bind λc=>(if c=true then some true else(zQ a.2.1.t 0).bind λd=>some d.Fresh).bind λe=>some (e,(zi a.2.1),())
def zqx:=callee Y [] zrU zl2 (λz=>zcZ z.1)
theorem zje:K8 90 (zqx):=f8 zt1 Tryz.func90 (.cons zbt .nil) trivial
def za7(x:zh):zD6:=(zG [59] (zi x)).bind λa=>if(!a.1)=true then(zcZ (zi a.2.1)).bind λb=>if(!b.1)=true then(zas (zi b.2.1)).bind λc=>some (.inl (c.1,(zi c.2.1),()))else some (.inr ((zi b.2.1),()))else some (.inr ((zi a.2.1),()))
def zsE:=callee Y [] zrU zkI (λz=>za7 z.1)
theorem zkx:K8 84 (zsE):=f8 zr7 Tryz.func84 (.cons zah (.cons zje (.cons zax .nil))) trivial
def zes(d:Int)(x:zh):zaF:=(zQ x.t 0).bind λe=>(if(e.Kind==1)=true then(zQ x.t 0).bind λf=>some (!f.Fresh)else some false).bind λg=>if g=true then(zaa (zi x)).bind λa=>(za7 (zi a.2.1)).bind λh=>(match h with| .inl b=>some (.inl (b.1,(zi b.2.1),()))| .inr i=>some (.inr (⟨d,a.1.Text,0,[],[],[]⟩,(zi i.1),())))else(za7 (zi x)).bind λj=>(match j with| .inl c=>some (.inl (c.1,(zi c.2.1),()))| .inr k=>some (.inr (⟨d,[],0,[],[],[]⟩,(zi k.1),())))
def zsu:Shape:=⟨[(0,.ptr 0 0),(1,.int .i64)],[.whole 48 48]⟩
def zkl:List zW:=[⟨true,.err,[.whole 48 48]⟩,⟨false,.st 25,[.whole 48 48]⟩]
def zsb:=callee Y [] zsu zkl (u2 zes)
def zsa:zaf Y (zY Y zkl):= .nil
theorem zqn:K8 89 (zsb):=f8 zsa Tryz.func89 (.cons za9 (.cons zkx .nil)) trivial
structure zf where
 zaQ:Bool->Str->zh->zwn
 zbe:Int->zh->zaF
 zbA:zh->Int->Str->Int->Str->(List Str)->(List zg)->OT4
 zbK:zh->Int->Str->Int->Str->(List Str)->(List zg)->OT4
 za1:zh->zaF
 za4:zh->zaF
 zbC:zh->zaF
 zae:zh->zfY
 zbp:Int->zh->zaF
 zbl:zh->zfY
 zbD:zh->zfY
 zbM:zh->zfY
 zcu:zh->zfY
 zby:zh->Int->Str->Int->Str->(List Str)->(List zg)->OT6
 zcE:zh->Int->Str->Int->Str->(List Str)->(List zg)->OT6
 zZ:zh->zfY
 za3:Str->Bool->zh->zwn
 zcp:Str->Bool->zh->(List zg)->zwb
 zbW:zh->Str->(List zg)->Bool->OT8
 zbZ:zh->Str->(List zg)->Bool->OT8
 zbO:zh->(List zg)->zwb
 zbQ:Str->Bool->zh->Int->Str->Int->Str->(List Str)->(List zg)->OT5
 zbX:zh->Str->Int->Str->Int->Str->(List Str)->(List zg)->Bool->OT3
 zbV:zh->Str->Int->Str->Int->Str->(List Str)->(List zg)->Bool->OT3
 zb4:zh->Int->Str->Int->Str->(List Str)->(List zg)->OT5
 zbi:zg->Bool->zh->zaF
 zbw:zh->Int->Str->Int->Str->(List Str)->(List zg)->OT6
 zb1:zh->Int->Str->Int->Str->(List Str)->(List zg)->OT6
 zbx:zh->Int->Str->Int->Str->(List Str)->(List zg)->OT6
 zcf:zh->Int->Str->Int->Str->(List Str)->(List zg)->OT6
 zb3:zh->zaF
 za8:zh->zaF
 zaP:zh->zaF
 zcv:zh->zaF
 zbH:Str->zh->zfY
 zcR:zh->zaF
 zcg:zh->zaF
def zjP:Shape:=⟨[(0,.ptr 0 0),(1,.bool),(2,.str)],[.whole 48 48]⟩
def zgw:List zW:=[⟨false,.sl 25,[.whole 48 48]⟩,⟨true,.err,[.whole 48 48]⟩]
def zeB(b:zf):=callee Y [] zjP zgw (u3 b.zaQ)
def zit(b:zf):=callee Y [] zsu zkl (u2 b.zbe)
def zhK:Shape:=⟨[(0,.ptr 0 0),(1,.fn 81 [.ptr 1 0,.ptr 2 0])],zbo⟩
def ze0:List zW:=[⟨false,.tup [],[.whole 48 48,.cells 46 [.ptr 0 0],.cells 25 [.int .i64,.str,.int .i64,.str,.own 3,.sl 25],.arr 9,.arr 25]⟩,⟨true,.err,zbo⟩]
def zib(b:zf):=callee Y [] zhK ze0 (u7 b.zbA)
def zey:List zW:=[⟨false,.tup [],[.cells 46 [.ptr 1 0],.whole 48 48,.cells 25 [.int .i64,.str,.int .i64,.str,.own 3,.sl 25],.arr 9,.arr 25]⟩,⟨true,.err,zjX⟩]
def zml(b:zf):=callee Y [] zmm zey (u7 b.zbK)
def zr3(b:zf):=callee Y [] zrU zkl (λz=>b.za1 z.1)
def zq4(b:zf):=callee Y [] zrU zkl (λz=>b.za4 z.1)
def zrH(b:zf):=callee Y [] zrU zkl (λz=>b.zbC z.1)
def zgc:List zW:=[⟨false,.st 25,[.whole 48 48]⟩,⟨true,.err,[.whole 48 48]⟩]
def zjv(b:zf):=callee Y [] zrU zgc (λz=>b.zae z.1)
def zjs(b:zf):=callee Y [] zsu zkl (u2 b.zbp)
def zrk(b:zf):=callee Y [] zrU zgc (λz=>b.zbl z.1)
def zst(b:zf):=callee Y [] zrU zgc (λz=>b.zbD z.1)
def zoe(b:zf):=callee Y [] zrU zgc (λz=>b.zbM z.1)
def zsm(b:zf):=callee Y [] zrU zgc (λz=>b.zcu z.1)
def zhQ:Shape:=⟨[(0,.ptr 0 0),(1,.fn 241 [.ptr 1 0,.ptr 2 0])],zbo⟩
def ze5:List zW:=[⟨false,.tup [],om9⟩,⟨true,.err,zbo⟩]
def zia(b:zf):=callee Y [] zhQ ze5 (u7 b.zby)
def zgn:List zW:=[⟨false,.tup [],zDY⟩,⟨true,.err,zjX⟩]
def zpa(b:zf):=callee Y [] zmm zgn (u7 b.zcE)
def zsv(b:zf):=callee Y [] zrU zgc (λz=>b.zZ z.1)
def zkh:Shape:=⟨[(0,.ptr 0 0),(1,.str),(2,.bool)],[.whole 48 48]⟩
def zgO(b:zf):=callee Y [] zkh zgw (u3 b.za3)
def ziL:Shape:=⟨[(0,.ptr 0 0),(1,.str),(2,.bool),(3,.fn 236 [.ptr 1 0,.ptr 2 0])],zwe⟩
def zfV:List zW:=[⟨false,.tup [],zwe⟩,⟨true,.err,zwe⟩]
def ziK(b:zf):=callee Y [] ziL zfV (u4 b.zcp)
def zh3:Shape:=⟨[(0,.ptr 0 0),(1,.fn 133 [.ptr 1 0,.ptr 2 0,.ptr 3 0,.ptr 7 0])],om5⟩
def zeT:List zW:=[⟨false,.tup [],om5⟩,⟨true,.err,om5⟩]
def zhU(b:zf):=callee Y [] zh3 zeT (u4 b.zbW)
def zh5:Shape:=⟨[(0,.ptr 0 0),(1,.ptr 2 0),(2,.ptr 3 0),(3,.ptr 7 0)],om4⟩
def zeW:List zW:=[⟨false,.tup [],om4⟩,⟨true,.err,om4⟩]
def zh7(b:zf):=callee Y [] zh5 zeW (u4 b.zbZ)
def ziH:Shape:=⟨[(0,.ptr 0 0),(1,.ptr 2 0)],zCQ⟩
def zfT:List zW:=[⟨false,.tup [],zCQ⟩,⟨true,.err,zCQ⟩]
def zo5(b:zf):=callee Y [] ziH zfT (u2 b.zbO)
def ziD:Shape:=⟨[(0,.ptr 0 0),(1,.str),(2,.bool),(3,.fn 242 [.ptr 1 0,.ptr 2 0])],zbo⟩
def ziM(b:zf):=callee Y [] ziD zkv (u9 b.zbQ)
def zii:Shape:=⟨[(0,.ptr 0 0),(1,.fn 133 [.ptr 1 0,.ptr 2 0,.ptr 3 0,.ptr 8 0])],om1⟩
def zeY:List zW:=[⟨true,.err,om1⟩,⟨false,.tup [],om1⟩]
def zie(b:zf):=callee Y [] zii zeY (u9 b.zbX)
def zhZ:Shape:=⟨[(0,.ptr 0 0),(1,.ptr 2 0),(2,.ptr 3 0),(3,.ptr 8 0)],om0⟩
def zeV:List zW:=[⟨true,.err,om0⟩,⟨false,.tup [],om0⟩]
def zhL(b:zf):=callee Y [] zhZ zeV (u9 b.zbV)
def zpm(b:zf):=callee Y [] zmm zhv (u7 b.zb4)
def ziE:Shape:=⟨[(0,.ptr 0 0),(1,.st 25),(2,.bool)],[.whole 48 48]⟩
def zoD(b:zf):=callee Y [] ziE zkl (u3 b.zbi)
def zh9:Shape:=⟨[(0,.ptr 0 0),(1,.fn 222 [.ptr 1 0,.ptr 2 0])],zbo⟩
def zhY(b:zf):=callee Y [] zh9 ze5 (u7 b.zbw)
def zmU(b:zf):=callee Y [] zmm zgn (u7 b.zb1)
def zhM:Shape:=⟨[(0,.ptr 0 0),(1,.fn 167 [.ptr 1 0,.ptr 2 0])],zbo⟩
def zh8(b:zf):=callee Y [] zhM ze5 (u7 b.zbx)
def znH(b:zf):=callee Y [] zmm zgn (u7 b.zcf)
def zpY(b:zf):=callee Y [] zrU zkl (λz=>b.zb3 z.1)
def zrO(b:zf):=callee Y [] zrU zkl (λz=>b.za8 z.1)
def zsg(b:zf):=callee Y [] zrU zkl (λz=>b.zaP z.1)
def zsd(b:zf):=callee Y [] zrU zkl (λz=>b.zcv z.1)
def zqS(b:zf):=callee Y [] zt0 zgc (u2 b.zbH)
def zsP(b:zf):=callee Y [] zrU zkl (λz=>b.zcR z.1)
def zqr(b:zf):=callee Y [] zrU zkl (λz=>b.zcg z.1)
structure zA (g_:zf):Prop where
 zaQ:COk hY Tryz.prog zao 20 (zeB g_)
 zbe:COk hY Tryz.prog zao 37 (zit g_)
 zbA:COk hY Tryz.prog zao 80 (zib g_)
 zbK:COk hY Tryz.prog zao 81 (zml g_)
 za1:COk hY Tryz.prog zao 38 (zr3 g_)
 za4:COk hY Tryz.prog zao 82 (zq4 g_)
 zbC:COk hY Tryz.prog zao 83 (zrH g_)
 zae:COk hY Tryz.prog zao 134 (zjv g_)
 zbp:COk hY Tryz.prog zao 166 (zjs g_)
 zbl:COk hY Tryz.prog zao 189 (zrk g_)
 zbD:COk hY Tryz.prog zao 211 (zst g_)
 zbM:COk hY Tryz.prog zao 224 (zoe g_)
 zcu:COk hY Tryz.prog zao 237 (zsm g_)
 zby:COk hY Tryz.prog zao 80 (zia g_)
 zcE:COk hY Tryz.prog zao 241 (zpa g_)
 zZ:COk hY Tryz.prog zao 91 (zsv g_)
 za3:COk hY Tryz.prog zao 223 (zgO g_)
 zcp:COk hY Tryz.prog zao 78 (ziK g_)
 zbW:COk hY Tryz.prog zao 80 (zhU g_)
 zbZ:COk hY Tryz.prog zao 133 (zh7 g_)
 zbO:COk hY Tryz.prog zao 236 (zo5 g_)
 zbQ:COk hY Tryz.prog zao 78 (ziM g_)
 zbX:COk hY Tryz.prog zao 80 (zie g_)
 zbV:COk hY Tryz.prog zao 133 (zhL g_)
 zb4:COk hY Tryz.prog zao 242 (zpm g_)
 zbi:COk hY Tryz.prog zao 210 (zoD g_)
 zbw:COk hY Tryz.prog zao 80 (zhY g_)
 zb1:COk hY Tryz.prog zao 222 (zmU g_)
 zbx:COk hY Tryz.prog zao 80 (zh8 g_)
 zcf:COk hY Tryz.prog zao 167 (znH g_)
 zb3:COk hY Tryz.prog zao 85 (zpY g_)
 za8:COk hY Tryz.prog zao 86 (zrO g_)
 zaP:COk hY Tryz.prog zao 87 (zsg g_)
 zcv:COk hY Tryz.prog zao 88 (zsd g_)
 zbH:COk hY Tryz.prog zao 135 (zqS g_)
 zcR:COk hY Tryz.prog zao 92 (zsP g_)
 zcg:COk hY Tryz.prog zao 93 (zqr g_)
def zc3(j:zf)(d:Bool)(e:Str)(f:zh)(b:List zg)(k:Int)(l:Str)(m:Int)(n:Str)(o:List Str)(p:List zg):OT7:=(j.za1 (zi f)).bind λg=>(match g with| .inl c=>some (.inr (.inr (c.1,(zi c.2.1),())))| .inr a=>(room (b.length+([(zy a.1)]:List zg).length)).bind λ_=>let h:=b++[(zy a.1)];some (.inl (d,e,(zi a.2.1),h,())))
def zcV(h:zf):Bool×Str×zh×(List zg)×Unit->OT7| (c,d,j,a,())=>(zaE d (zi j)).bind λb=>(if(!b.1)=true then(zQ b.2.1.t 0).bind λk=>some (k.Kind !=0)else some false).bind λl=>if l=true then if c=true then(zG [102,117,110,99,116,105,111,110] (zi b.2.1)).bind λe=>if e.1=true then(h.zbe 39 (zi e.2.1)).bind λm=>(match m with| .inl i=>some (.inr (.inr (i.1,(zi i.2.1),())))| .inr f=>(room (a.length+([(zy f.1)]:List zg).length)).bind λ_=>let n:=a++[(zy f.1)];some (.inl (c,d,(zi f.2.1),n,())))else zc3 h c d (zi e.2.1) a 0 [] 0 [] [] []else zc3 h c d (zi b.2.1) a 0 [] 0 [] [] []else some (.inr (.inl (a,(zi b.2.1),())))
def zeI(d:zf)(b:Bool)(c:Str)(x:zh):zwn:=Lp.loop (zcV d) (b,c,(zi x),[],())
def zqB(b:zf):=callee Y [] zjP zgw (u3 (zeI b))
def zp9(b:zf):zaf Y (zY Y zgw):=(.loop [[7,5,1,2],[8,5,1,2],[6,1,2],[2,2]] ⟨[(0,.ptr 0 0),(1,.bool),(2,.str),(6,.own 1)],[.whole 48 48,.arr 25]⟩ (zcV b) (.join [[4,2,1,2,5,2,7,5,1,2],[2,2,5,2,7,5,1,2],[6,2,7,5,1,2],[8,5,1,2],[6,1,2],[2,2]] ⟨[(0,.ptr 0 0),(1,.bool),(2,.str),(6,.own 1),(7,.ptr 2 0)],[.whole 48 48,.arr 25,oc0 3 4,.arr 9,.arr 25]⟩ (u10 (zc3 b)) .nil) .nil)
theorem znE(b:zf)(d:zA b):K8 20 (zqB b):=f8 (zp9 b) Tryz.func20 (.cons zbt (.cons zah (.cons d.zbe (.cons d.za1 .nil)))) ⟨λz=>by kernel_rfl,⟨λz=>by kernel_rfl,⟨⟩⟩,trivial⟩
def zeX(o:zf)(d:zh)(p:Int)(q:Str)(r:Int)(s:Str)(e:Int)(f:Str)(g:Int)(h:Str)(t:List Str)(u:List zg)(i:List Str)(j:List zg):zaF:=(o.zbA (zi d) e f g h i j).bind λk=>(match k with| .inl a=>(zT [125] (zi a.1)).bind λl=>(match l with| .inl b=>some (.inl (b.1,(zi b.2.1),()))| .inr m=>some (.inr (⟨a.2.1,a.2.2.1,a.2.2.2.1,a.2.2.2.2.1,a.2.2.2.2.2.2.1,a.2.2.2.2.2.1⟩,(zi m.1),())))| .inr c=>some (.inl (c.1,(zi c.2.1),())))
def ze2(r:zf)(b:zh)(c:Int)(d:Str)(e:Int)(f:Str)(g:Int)(h:Str)(i:Int)(j:Str)(k:List Str)(l:List zg)(m:List Str)(n:List zg):zaF:=(zT [123] (zi b)).bind λo=>(match o with| .inl a=>some (.inl (a.1,(zi a.2.1),()))| .inr p=>zeX r (zi p.1) c d e f g h i j k l m n)
def zeS(r:zf)(c:zh)(d:Int)(e:Str)(f:Int)(g:Str)(h:Int)(i:Str)(j:Int)(k:Str)(l:List Str)(m:List zg)(n:List Str)(o:List zg):zaF:=(zf4 [41] false (zi c) h i j k n o).bind λp=>(match p with| .inl b=>some (.inl (b.1,(zi b.2.1),()))| .inr a=>ze2 r (zi a.1) d e f g a.2.1 a.2.2.1 a.2.2.2.1 a.2.2.2.2.1 l m a.2.2.2.2.2.1 a.2.2.2.2.2.2.1)
def zcl(r:zf)(b:zh)(c:Int)(d:Str)(e:Int)(f:Str)(g:Int)(h:Str)(i:Int)(j:Str)(k:List Str)(l:List zg)(m:List Str)(n:List zg):zaF:=(zT [40] (zi b)).bind λo=>(match o with| .inl a=>some (.inl (a.1,(zi a.2.1),()))| .inr p=>zeS r (zi p.1) c d e f g h i j k l m n)
def zdF(e:zf)(a:Int)(x:zh):zaF:=(if(a==39)=true then some true else(zQ x.t 0).bind λf=>some (f.Kind==1)).bind λg=>if g=true then(zb2 (zi x)).bind λh=>(match h with| .inl b=>some (.inl (b.1,(zi b.2.1),()))| .inr c=>zcl e (zi c.2.1) 0 [] 0 [] a c.1 0 [] [] [] [] [])else zcl e (zi x) 0 [] 0 [] a [] 0 [] [] [] [] []
def znx(b:zf):=callee Y [] zsu zkl (u2 (zdF b))
def znM(b:zf):zaf Y (zY Y zkl):=(.join [[1,2,2,2],[2,2,2,2]] ⟨[(2,.ptr 1 0),(4,.ptr 2 0),(5,.ptr 3 0)],om7⟩ (u13 (zcl b)) (.join [[1,2,2,2,2],[2,2,2,2,2]] ⟨[(2,.ptr 1 0),(4,.ptr 2 0),(5,.ptr 3 0)],om7⟩ (u13 (zeS b)) (.join [[1,2,2,2,2,2],[2,2,2,2,2,2]] ⟨[(2,.ptr 1 0),(4,.ptr 2 0),(5,.ptr 3 0)],om7⟩ (u13 (ze2 b)) (.join [[1,2,2,2,2,2,2],[2,2,2,2,2,2,2]] ⟨[(2,.ptr 1 0),(4,.ptr 2 0),(5,.ptr 3 0)],om7⟩ (u13 (zeX b)) .nil))))
theorem zlV(b:zf)(d:zA b):K8 37 (znx b):=f8 (znM b) Tryz.func37 ((.cons zdm (.cons zan (.cons (COk.laid zqU) (.cons (COk.laid d.zbA) .nil)))):zbU hY Tryz.prog zao [(76,(zku)),(77,(zdH)),(78,(zht Y [⟨[(0,.ptr 0 0),(1,.str),(2,.bool),(3,.fn 79 [.ptr 1 0,.ptr 2 0])],zbo⟩,⟨[(0,.ptr 0 0),(1,.str),(2,.bool),(3,.fn 236 [.ptr 1 0,.ptr 2 0])],zwe⟩,⟨[(0,.ptr 0 0),(1,.str),(2,.bool),(3,.fn 242 [.ptr 1 0,.ptr 2 0])],zbo⟩] (zkw))),(80,(zht Y [⟨[(0,.ptr 0 0),(1,.fn 133 [.ptr 1 0,.ptr 2 0,.ptr 3 0,.ptr 8 0])],om3⟩,⟨[(0,.ptr 0 0),(1,.fn 81 [.ptr 1 0,.ptr 2 0])],zbo⟩,⟨[(0,.ptr 0 0),(1,.fn 241 [.ptr 1 0,.ptr 2 0])],zbo⟩,⟨[(0,.ptr 0 0),(1,.fn 133 [.ptr 1 0,.ptr 2 0,.ptr 3 0,.ptr 7 0])],om5⟩,⟨[(0,.ptr 0 0),(1,.fn 133 [.ptr 1 0,.ptr 2 0,.ptr 3 0,.ptr 8 0])],om1⟩,⟨[(0,.ptr 0 0),(1,.fn 222 [.ptr 1 0,.ptr 2 0])],zbo⟩,⟨[(0,.ptr 0 0),(1,.fn 167 [.ptr 1 0,.ptr 2 0])],zbo⟩] (zib b)))]) ⟨λz=>by kernel_rfl,⟨λz=>by kernel_rfl,⟨λz=>by kernel_rfl,⟨λz=>by kernel_rfl,⟨⟩⟩⟩⟩⟩
def zdr(j:zf)(x:zh)(e:Int)(f:Str)(g:Int)(h:Str)(l:List Str)(i:List zg):OT4:=(j.zbK ⟨x.t,false⟩ e f g h l i).bind λc=>(match c with| .inl a=>some (.inl (⟨a.1.t,x.no⟩,a.2.1,a.2.2.1,a.2.2.2.1,a.2.2.2.2.1,a.2.2.2.2.2.1,a.2.2.2.2.2.2.1,a.2.2.2.2.2.2.2.1,()))| .inr b=>some (.inr (b.1,(zi b.2.1),b.2.2.1,b.2.2.2.1,b.2.2.2.2.1,b.2.2.2.2.2.1,b.2.2.2.2.2.2.1,b.2.2.2.2.2.2.2.1,())))
def zmJ(b:zf):=callee Y [] zhK ze0 (u7 (zdr b))
def zm8:zaf Y (zY Y ze0):= .nil
theorem zlC(b:zf)(d:zA b):K8 80 (zmJ b):=f8 zm8 Tryz.func80 (.cons d.zbK .nil) trivial
def zc5(j:zf)(x:zh)(c:Int)(d:Str)(e:Int)(f:Str)(l:List Str)(g:List zg):OT4:=(j.zaQ true [125] (zi x)).bind λh=>(match h with| .inl a=>some (.inl ((zi a.2.1),c,d,e,f,a.1,l,g,()))| .inr b=>some (.inr (b.1,(zi b.2.1),c,d,e,f,l,g,())))
def zl8(b:zf):=callee Y [] zmm zey (u7 (zc5 b))
def zmi:zaf Y (zY Y zey):= .nil
theorem zkR(b:zf)(d:zA b):K8 81 (zl8 b):=f8 zmi Tryz.func81 (.cons d.zaQ .nil) trivial
def zfg(b:zf)(x:zh):zaF:=(zaE [123] (zi x)).bind λe=>if e.1=true then(b.za4 (zi e.2.1)).bind λar=>(match ar with| .inl s=>some (.inl (s.1,(zi s.2.1),()))| .inr u=>some (.inr ((zy u.1),(zi u.2.1),())))else(zG [59] (zi e.2.1)).bind λf=>if f.1=true then some (.inr (⟨40,[],0,[],[],[]⟩,(zi f.2.1),()))else(zG [118,97,114] (zi f.2.1)).bind λg=>if g.1=true then(b.zbC (zi g.2.1)).bind λau=>(match au with| .inl v=>some (.inl (v.1,(zi v.2.1),()))| .inr y=>(za7 (zi y.2.1)).bind λav=>(match av with| .inl z=>some (.inl (z.1,(zi z.2.1),()))| .inr aw=>some (.inr ((zy y.1),(zi aw.1),()))))else(zG [105,102] (zi g.2.1)).bind λh=>if h.1=true then(b.zb3 (zi h.2.1)).bind λax=>(match ax with| .inl A=>some (.inl (A.1,(zi A.2.1),()))| .inr B=>some (.inr ((zy B.1),(zi B.2.1),())))else(zG [119,104,105,108,101] (zi h.2.1)).bind λi=>if i.1=true then(b.za8 (zi i.2.1)).bind λay=>(match ay with| .inl C=>some (.inl (C.1,(zi C.2.1),()))| .inr D=>(b.zaP (zi D.2.1)).bind λaz=>(match az with| .inl E=>some (.inl (E.1,(zi E.2.1),()))| .inr H=>some (.inr (⟨27,[],0,[],[],[(zy D.1),(zy H.1)]⟩,(zi H.2.1),()))))else(zG [100,111] (zi i.2.1)).bind λj=>if j.1=true then(b.zaP (zi j.2.1)).bind λa0=>(match a0 with| .inl I=>some (.inl (I.1,(zi I.2.1),()))| .inr J=>(zT [119,104,105,108,101] (zi J.2.1)).bind λa1=>(match a1 with| .inl K=>some (.inl (K.1,(zi K.2.1),()))| .inr a2=>(b.za8 (zi a2.1)).bind λa3=>(match a3 with| .inl L=>some (.inl (L.1,(zi L.2.1),()))| .inr M=>(za7 (zi M.2.1)).bind λa4=>(match a4 with| .inl N=>some (.inl (N.1,(zi N.2.1),()))| .inr a5=>some (.inr (⟨28,[],0,[],[],[(zy J.1),(zy M.1)]⟩,(zi a5.1),()))))))else(zG [102,111,114] (zi j.2.1)).bind λk=>if k.1=true then(b.zcv (zi k.2.1)).bind λa6=>(match a6 with| .inl O=>some (.inl (O.1,(zi O.2.1),()))| .inr P=>some (.inr ((zy P.1),(zi P.2.1),())))else(zG [98,114,101,97,107] (zi k.2.1)).bind λl=>if l.1=true then(zes 31 (zi l.2.1)).bind λa7=>(match a7 with| .inl Q=>some (.inl (Q.1,(zi Q.2.1),()))| .inr R=>some (.inr ((zy R.1),(zi R.2.1),())))else(zG [99,111,110,116,105,110,117,101] (zi l.2.1)).bind λm=>if m.1=true then(zes 32 (zi m.2.1)).bind λa8=>(match a8 with| .inl S=>some (.inl (S.1,(zi S.2.1),()))| .inr U=>some (.inr ((zy U.1),(zi U.2.1),())))else(zG [114,101,116,117,114,110] (zi m.2.1)).bind λn=>if n.1=true then(zaE [59] (zi n.2.1)).bind λo=>if(!o.1)=true then(zcZ (zi o.2.1)).bind λp=>if(!p.1)=true then(b.zZ (zi p.2.1)).bind λa9=>(match a9 with| .inl V=>(za7 (zi V.2.1)).bind λba=>(match ba with| .inl W=>some (.inl (W.1,(zi W.2.1),()))| .inr bb=>some (.inr (⟨33,[],0,[],[],[(zy V.1)]⟩,(zi bb.1),())))| .inr X=>some (.inl (X.1,(zi X.2.1),())))else(za7 (zi p.2.1)).bind λbc=>(match bc with| .inl Z=>some (.inl (Z.1,(zi Z.2.1),()))| .inr bd=>some (.inr (⟨33,[],0,[],[],[]⟩,(zi bd.1),())))else(za7 (zi o.2.1)).bind λbe=>(match be with| .inl aa=>some (.inl (aa.1,(zi aa.2.1),()))| .inr bf=>some (.inr (⟨33,[],0,[],[],[]⟩,(zi bf.1),())))else(zG [116,104,114,111,119] (zi n.2.1)).bind λd=>if d.1=true then(zQ d.2.1.t 0).bind λbg=>if bg.Fresh=true then(zas (zi d.2.1)).bind λab=>some (.inl (ab.1,(zi ab.2.1),()))else(b.zZ (zi d.2.1)).bind λbh=>(match bh with| .inl ac=>(za7 (zi ac.2.1)).bind λbi=>(match bi with| .inl ad=>some (.inl (ad.1,(zi ad.2.1),()))| .inr bj=>some (.inr (⟨34,[],0,[],[],[(zy ac.1)]⟩,(zi bj.1),())))| .inr ae=>some (.inl (ae.1,(zi ae.2.1),())))else(zG [116,114,121] (zi d.2.1)).bind λq=>if q.1=true then(b.zcR (zi q.2.1)).bind λbk=>(match bk with| .inl af=>some (.inl (af.1,(zi af.2.1),()))| .inr ag=>some (.inr ((zy ag.1),(zi ag.2.1),())))else(zG [115,119,105,116,99,104] (zi q.2.1)).bind λr=>if r.1=true then(b.zcg (zi r.2.1)).bind λbl=>(match bl with| .inl ah=>some (.inl (ah.1,(zi ah.2.1),()))| .inr ai=>some (.inr ((zy ai.1),(zi ai.2.1),())))else(zaE [102,117,110,99,116,105,111,110] (zi r.2.1)).bind λc=>if c.1=true then(zas (zi c.2.1)).bind λaj=>some (.inl (aj.1,(zi aj.2.1),()))else(zQ c.2.1.t 0).bind λbm=>(if(bm.Kind==1)=true then(zQ c.2.1.t 1).bind λbn=>some (bn.Kind==5)else some false).bind λbo=>(if bo=true then(zQ c.2.1.t 1).bind λbp=>some (bp.Text==[58])else some false).bind λbq=>if bq=true then(zb2 (zi c.2.1)).bind λbr=>(match br with| .inl ak=>some (.inl (ak.1,(zi ak.2.1),()))| .inr al=>(zaa (zi al.2.1)).bind λbs=>(b.za1 (zi bs.2.1)).bind λbt=>(match bt with| .inl am=>some (.inl (am.1,(zi am.2.1),()))| .inr an=>some (.inr (⟨38,al.1,0,[],[],[(zy an.1)]⟩,(zi an.2.1),()))))else(b.zZ (zi c.2.1)).bind λbu=>(match bu with| .inl ao=>(za7 (zi ao.2.1)).bind λbv=>(match bv with| .inl ap=>some (.inl (ap.1,(zi ap.2.1),()))| .inr bw=>some (.inr (⟨24,[],0,[],[],[(zy ao.1)]⟩,(zi bw.1),())))| .inr aq=>some (.inl (aq.1,(zi aq.2.1),())))
def zrG(b:zf):=callee Y [] zrU zkl (λz=>zfg b z.1)
theorem zot(d:zf)(b:zA d):K8 38 (zrG d):=f8 zsa Tryz.func38 (.cons zbt (.cons b.za4 (.cons zah (.cons b.zbC (.cons zkx (.cons b.zb3 (.cons b.za8 (.cons b.zaP (.cons zan (.cons b.zcv (.cons zqn (.cons zje (.cons b.zZ (.cons zax (.cons b.zcR (.cons b.zcg (.cons zdm (.cons za9 (.cons b.za1 .nil))))))))))))))))))) trivial
def zeD(k:zf)(x:zh):zaF:=(zT [123] (zi x)).bind λe=>(match e with| .inl a=>some (.inl (a.1,(zi a.2.1),()))| .inr f=>(k.zaQ false [125] (zi f.1)).bind λg=>(match g with| .inl b=>(zT [125] (zi b.2.1)).bind λh=>(match h with| .inl c=>some (.inl (c.1,(zi c.2.1),()))| .inr i=>some (.inr (⟨25,[],0,[],[],b.1⟩,(zi i.1),())))| .inr d=>some (.inl (d.1,(zi d.2.1),()))))
def zqz(b:zf):=callee Y [] zrU zkl (λz=>zeD b z.1)
theorem znN(b:zf)(d:zA b):K8 82 (zqz b):=f8 zsa Tryz.func82 (.cons zan (.cons d.zaQ .nil)) trivial
def zgR(p:zf)(h:zh)(i:Int)(j:Str)(k:Int)(l:Str)(b:Int)(c:Str)(d:Int)(e:Str)(m:List Str)(n:List zg)(f:List Str)(g:List zg):OT2:=(zG [44] (zi h)).bind λa=>if(!a.1)=true then some (.inr (.inr (⟨b,c,d,e,f,g⟩,(zi a.2.1),())))else some (.inl ((zi a.2.1),i,j,k,l,b,c,d,e,m,n,f,g,()))
def zdb(v:zf)(h:zh)(i:Int)(j:Str)(k:Int)(l:Str)(m:Int)(n:Str)(o:Int)(p:Str)(a:Int)(b:Str)(c:Int)(d:Str)(q:List Str)(r:List zg)(s:List Str)(e:List zg)(f:List Str)(g:List zg):OT2:=(room (e.length+([⟨a,b,c,d,f,g⟩]:List zg).length)).bind λ_=>let t:=e++[⟨a,b,c,d,f,g⟩];zgR v (zi h) i j k l m n o p q r s t
def zdc(d:zf):zh×Int×Str×Int×Str×Int×Str×Int×Str×(List Str)×(List zg)×(List Str)×(List zg)×Unit->OT2| (t,e,f,g,h,i,j,k,l,m,n,o,p,())=>(zb2 (zi t)).bind λu=>(match u with| .inl q=>some (.inr (.inl (q.1,(zi q.2.1),())))| .inr a=>(zG [61] (zi a.2.1)).bind λb=>if b.1=true then(d.zae (zi b.2.1)).bind λv=>(match v with| .inl r=>zdb d (zi r.2.1) e f g h i j k l 23 a.1 0 [] m n o p [] [(zy r.1)]| .inr s=>some (.inr (.inl (s.1,(zi s.2.1),()))))else zdb d (zi b.2.1) e f g h i j k l 23 a.1 0 [] m n o p [] [])
def zfj(b:zf)(x:zh):zaF:=Lp.loop (zdc b) ((zi x),0,[],0,[],22,[],0,[],[],[],[],[],())
def zsc(b:zf):=callee Y [] zrU zkl (λz=>zfj b z.1)
def zrQ(b:zf):zaf Y (zY Y zkl):=(.loop [[7,5,2,2],[8,5,2,2],[6,2,2]] ⟨[(0,.ptr 0 0),(2,.ptr 1 0),(3,.ptr 2 0)],zfs⟩ (zdc b) (.join [[1,2,2,5,7,5,2,2],[2,2,2,5,7,5,2,2],[6,7,5,2,2],[8,5,2,2],[6,2,2]] ⟨[(0,.ptr 0 0),(2,.ptr 1 0),(3,.ptr 2 0),(4,.ptr 3 0)],om6⟩ (u19 (zdb b)) (.join [[1,2,2,2,5,7,5,2,2],[2,2,2,2,5,7,5,2,2],[6,7,5,2,2],[8,5,2,2],[6,2,2]] ⟨[(0,.ptr 0 0),(2,.ptr 1 0),(3,.ptr 2 0)],zfs⟩ (u13 (zgR b)) .nil)) .nil)
theorem zoo(b:zf)(d:zA b):K8 83 (zsc b):=f8 (zrQ b) Tryz.func83 (.cons zdm (.cons zah (.cons d.zae .nil))) ⟨λz=>by kernel_rfl,⟨λz=>by kernel_rfl,⟨λz=>by kernel_rfl,⟨⟩⟩⟩,trivial⟩
def zd9(c:zf)(x:zh):zfY:=(c.zbp 3 (zi x)).bind λp=>(match p with| .inl f=>some (.inr (f.1,(zi f.2.1),()))| .inr a=>(zG [63] (zi a.2.1)).bind λd=>if d.1=true then(c.zbx (zi d.2.1) 0 [] 0 [] [] []).bind λq=>(match q with| .inl g=>(zT [58] (zi g.1)).bind λr=>(match r with| .inl h=>some (.inr (h.1,(zi h.2.1),()))| .inr s=>(c.zae (zi s.1)).bind λt=>(match t with| .inl i=>some (.inl (⟨19,[],0,[],[],[(zy a.1),(zy g.2.1),(zy i.1)]⟩,(zi i.2.1),()))| .inr j=>some (.inr (j.1,(zi j.2.1),()))))| .inr k=>some (.inr (k.1,(zi k.2.1),())))else(zaR [32,61,32,43,61,32,45,61,32,42,61,32,47,61,32,37,61,32] (zi d.2.1)).bind λe=>if(!e.1)=true then some (.inl ((zy a.1),(zi e.2.1),()))else(zcD (zy a.1) (zi e.2.1)).bind λu=>(match u with| .inl l=>some (.inr (l.1,(zi l.2.1),()))| .inr v=>(zaa (zi v.1)).bind λm=>(c.zae (zi m.2.1)).bind λy=>(match y with| .inl n=>some (.inl (⟨20,m.1.Text,0,[],[],[(zy a.1),(zy n.1)]⟩,(zi n.2.1),()))| .inr o=>some (.inr (o.1,(zi o.2.1),())))))
def zpT(b:zf):=callee Y [] zrU zgc (λz=>zd9 b z.1)
def zpA:zaf Y (zY Y zgc):= .nil
theorem zmB(b:zf)(d:zA b):K8 134 (zpT b):=f8 zpA Tryz.func134 ((.cons d.zbp (.cons zah (.cons (COk.laid d.zbx) (.cons zan (.cons d.zae (.cons zea (.cons ziT (.cons za9 .nil)))))))):zbU hY Tryz.prog zao [(166,(zjs b)),(36,(zfC)),(80,(zht Y [⟨[(0,.ptr 0 0),(1,.fn 133 [.ptr 1 0,.ptr 2 0,.ptr 3 0,.ptr 8 0])],om3⟩,⟨[(0,.ptr 0 0),(1,.fn 81 [.ptr 1 0,.ptr 2 0])],zbo⟩,⟨[(0,.ptr 0 0),(1,.fn 241 [.ptr 1 0,.ptr 2 0])],zbo⟩,⟨[(0,.ptr 0 0),(1,.fn 133 [.ptr 1 0,.ptr 2 0,.ptr 3 0,.ptr 7 0])],om5⟩,⟨[(0,.ptr 0 0),(1,.fn 133 [.ptr 1 0,.ptr 2 0,.ptr 3 0,.ptr 8 0])],om1⟩,⟨[(0,.ptr 0 0),(1,.fn 222 [.ptr 1 0,.ptr 2 0])],zbo⟩,⟨[(0,.ptr 0 0),(1,.fn 167 [.ptr 1 0,.ptr 2 0])],zbo⟩] (zh8 b))),(77,(zdH)),(134,(zjv b)),(136,(zkd)),(168,(zjn)),(75,(zhd))]) trivial
def zcI(r:zf):Int×zh×Int×Str×Int×Str×zg×(List Str)×(List zg)×Unit->Option ((Int×zh×Int×Str×Int×Str×zg×(List Str)×(List zg)×Unit)⊕((zU×zh×Unit)⊕(zg×zh×Unit)))| (b,g,h,i,j,k,c,l,m,())=>(zeE (zi g)).bind λa=>let n:=((decide (a.1<b))||(a.1==0));if n=true then some (.inr (.inr ((zy c),(zi a.2.2.1),())))else(zaa (zi a.2.2.1)).bind λd=>let o:=(IntKind.wrap .i64 (a.1+1));fd ((r.zbp o (zi d.2.1)).bind λp=>(match p with| .inl e=>some (.inr (.inl (e.1,(zi e.2.1),())))| .inr f=>some (.inl (b,(zi f.2.1),h,i,j,k,⟨a.2.1,d.1.Text,0,[],[],[(zy c),(zy f.1)]⟩,l,m,()))))
def zec(d:zf)(f:Int)(x:zh):zaF:=(d.zbl (zi x)).bind λe=>(match e with| .inl a=>Lp.loop (zcI d) (f,(zi a.2.1),0,[],0,[],(zy a.1),[],[],())| .inr b=>some (.inl (b.1,(zi b.2.1),())))
def zpb(b:zf):=callee Y [] zsu zkl (u2 (zec b))
def zpJ(b:zf):zaf Y (zY Y zkl):=(.loop [[7,5,2,2],[8,5,2,2],[6,2,2]] ⟨[(0,.ptr 0 0),(1,.int .i64),(4,.ptr 1 0),(5,.ptr 2 0)],zA2⟩ (zcI b) .nil .nil)
theorem zmZ(b:zf)(d:zA b):K8 166 (zpb b):=f8 (zpJ b) Tryz.func166 (.cons d.zbl (.cons znQ (.cons za9 (.cons d.zbp .nil)))) ⟨λz=>by kernel_rfl,trivial,trivial⟩
def zeC(d:zf)(x:zh):zfY:=(zaR [32,45,32,43,32,33,32,116,121,112,101,111,102,32,100,101,108,101,116,101,32,118,111,105,100,32] (zi x)).bind λe=>if e.1=true then(zaa (zi e.2.1)).bind λh=>(d.zbl (zi h.2.1)).bind λs=>(match s with| .inl i=>some (.inl (⟨15,h.1.Text,0,[],[],[(zy i.1)]⟩,(zi i.2.1),()))| .inr j=>some (.inr (j.1,(zi j.2.1),())))else(zaR [32,43,43,32,45,45,32] (zi e.2.1)).bind λf=>if f.1=true then(zaa (zi f.2.1)).bind λk=>(d.zbl (zi k.2.1)).bind λu=>(match u with| .inl g=>(zcD (zy g.1) (zi g.2.1)).bind λv=>(match v with| .inl l=>some (.inr (l.1,(zi l.2.1),()))| .inr y=>some (.inl (⟨16,k.1.Text,1,[],[],[(zy g.1)]⟩,(zi y.1),())))| .inr m=>some (.inr (m.1,(zi m.2.1),())))else(d.zbD (zi f.2.1)).bind λz=>(match z with| .inl n=>(d.zbi (zy n.1) true (zi n.2.1)).bind λA=>(match A with| .inl o=>some (.inr (o.1,(zi o.2.1),()))| .inr a=>(zaR [32,43,43,32,45,45,32] (zi a.2.1)).bind λb=>(if(!b.1)=true then some true else(zQ b.2.1.t 0).bind λB=>some B.Fresh).bind λC=>if C=true then some (.inl ((zy a.1),(zi b.2.1),()))else(zcD (zy a.1) (zi b.2.1)).bind λD=>(match D with| .inl p=>some (.inr (p.1,(zi p.2.1),()))| .inr E=>fd ((zaa (zi E.1)).bind λq=>some (.inl (⟨16,q.1.Text,0,[],[],[(zy a.1)]⟩,(zi q.2.1),())))))| .inr r=>some (.inr (r.1,(zi r.2.1),())))
def zp8(b:zf):=callee Y [] zrU zgc (λz=>zeC b z.1)
theorem znG(c:zf)(d:zA c):K8 189 (zp8 c):=f8 zpA Tryz.func189 (.cons zea (.cons za9 (.cons d.zbl (.cons ziT (.cons d.zbD (.cons d.zbi .nil)))))) trivial
def zfn(c:zf)(x:zh):zfY:=(zG [110,101,119] (zi x)).bind λd=>if(!d.1)=true then(c.zbM (zi d.2.1)).bind λm=>(match m with| .inl g=>some (.inl ((zy g.1),(zi g.2.1),()))| .inr h=>some (.inr (h.1,(zi h.2.1),())))else(c.zbD (zi d.2.1)).bind λn=>(match n with| .inl i=>(c.zbi (zy i.1) false (zi i.2.1)).bind λo=>(match o with| .inl j=>some (.inr (j.1,(zi j.2.1),()))| .inr a=>(zG [40] (zi a.2.1)).bind λe=>if e.1=true then fd ((c.za3 [41] false (zi e.2.1)).bind λp=>(match p with| .inl f=>(room (([(zy a.1)]:List zg).length+f.1.length)).bind λ_=>let q:=[(zy a.1)]++f.1;some (.inl (⟨14,[],0,[],[],q⟩,(zi f.2.1),()))| .inr k=>some (.inr (k.1,(zi k.2.1),()))))else some (.inl (⟨14,[],0,[],[],[(zy a.1)]⟩,(zi e.2.1),())))| .inr l=>some (.inr (l.1,(zi l.2.1),())))
def zsj(b:zf):=callee Y [] zrU zgc (λz=>zfn b z.1)
theorem zov(d:zf)(b:zA d):K8 211 (zsj d):=f8 zpA Tryz.func211 (.cons zah (.cons b.zbM (.cons b.zbD (.cons b.zbi (.cons b.za3 .nil))))) trivial
def zdU(i:zf)(x:zh):zfY:=(zQ x.t 0).bind λa=>if(a.Kind==1)=true then(zaa (zi x)).bind λd=>some (.inl (⟨3,a.Text,0,[],[],[]⟩,(zi d.2.1),()))else if(a.Kind==3)=true then(zaa (zi x)).bind λe=>some (.inl (⟨1,[],a.Num,[],[],[]⟩,(zi e.2.1),()))else if(a.Kind==4)=true then(zaa (zi x)).bind λf=>some (.inl (⟨2,[],0,a.Text,[],[]⟩,(zi f.2.1),()))else(i.zcu (zi x)).bind λg=>(match g with| .inl b=>some (.inl ((zy b.1),(zi b.2.1),()))| .inr c=>some (.inr (c.1,(zi c.2.1),())))
def zoh(b:zf):=callee Y [] zrU zgc (λz=>zdU b z.1)
theorem zmn(b:zf)(d:zA b):K8 224 (zoh b):=f8 zpA Tryz.func224 (.cons za9 (.cons d.zcu .nil)) trivial
def zfo(c:zf)(x:zh):zfY:=(zG [116,104,105,115] (zi x)).bind λd=>if d.1=true then some (.inl (⟨4,[],0,[],[],[]⟩,(zi d.2.1),()))else(zG [110,117,108,108] (zi d.2.1)).bind λe=>if e.1=true then some (.inl (⟨5,[],0,[],[],[]⟩,(zi e.2.1),()))else(zG [102,97,108,115,101] (zi e.2.1)).bind λf=>if f.1=true then some (.inl (⟨6,[],0,[],[],[]⟩,(zi f.2.1),()))else(zG [116,114,117,101] (zi f.2.1)).bind λg=>if g.1=true then some (.inl (⟨6,[],1,[],[],[]⟩,(zi g.2.1),()))else(zG [102,117,110,99,116,105,111,110] (zi g.2.1)).bind λh=>if h.1=true then(c.zbe 10 (zi h.2.1)).bind λu=>(match u with| .inl l=>some (.inr (l.1,(zi l.2.1),()))| .inr m=>some (.inl ((zy m.1),(zi m.2.1),())))else(zG [40] (zi h.2.1)).bind λi=>if i.1=true then(c.zby (zi i.2.1) 0 [] 0 [] [] []).bind λv=>(match v with| .inl n=>(zT [41] (zi n.1)).bind λy=>(match y with| .inl o=>some (.inr (o.1,(zi o.2.1),()))| .inr z=>some (.inl ((zy n.2.1),(zi z.1),())))| .inr p=>some (.inr (p.1,(zi p.2.1),())))else(zG [91] (zi i.2.1)).bind λj=>if j.1=true then(c.za3 [93] true (zi j.2.1)).bind λA=>(match A with| .inl q=>some (.inl (⟨7,[],0,[],[],q.1⟩,(zi q.2.1),()))| .inr r=>some (.inr (r.1,(zi r.2.1),())))else(zG [123] (zi j.2.1)).bind λk=>if k.1=true then(c.zbQ [125] true (zi k.2.1) 8 [] 0 [] [] []).bind λB=>(match B with| .inl s=>some (.inr (s.1,(zi s.2.1),()))| .inr a=>some (.inl (⟨a.2.1,a.2.2.1,a.2.2.2.1,a.2.2.2.2.1,a.2.2.2.2.2.1,a.2.2.2.2.2.2.1⟩,(zi a.1),())))else(zas (zi k.2.1)).bind λt=>some (.inr (t.1,(zi t.2.1),()))
def zr8(b:zf):=callee Y [] zrU zgc (λz=>zfo b z.1)
theorem zod(b:zf)(d:zA b):K8 237 (zr8 b):=f8 zpA Tryz.func237 ((.cons zah (.cons d.zbe (.cons (COk.laid d.zby) (.cons zan (.cons d.za3 (.cons (COk.laid d.zbQ) (.cons zax .nil))))))):zbU hY Tryz.prog zao [(36,(zfC)),(37,(zit b)),(80,(zht Y [⟨[(0,.ptr 0 0),(1,.fn 133 [.ptr 1 0,.ptr 2 0,.ptr 3 0,.ptr 8 0])],om3⟩,⟨[(0,.ptr 0 0),(1,.fn 81 [.ptr 1 0,.ptr 2 0])],zbo⟩,⟨[(0,.ptr 0 0),(1,.fn 241 [.ptr 1 0,.ptr 2 0])],zbo⟩,⟨[(0,.ptr 0 0),(1,.fn 133 [.ptr 1 0,.ptr 2 0,.ptr 3 0,.ptr 7 0])],om5⟩,⟨[(0,.ptr 0 0),(1,.fn 133 [.ptr 1 0,.ptr 2 0,.ptr 3 0,.ptr 8 0])],om1⟩,⟨[(0,.ptr 0 0),(1,.fn 222 [.ptr 1 0,.ptr 2 0])],zbo⟩,⟨[(0,.ptr 0 0),(1,.fn 167 [.ptr 1 0,.ptr 2 0])],zbo⟩] (zia b))),(77,(zdH)),(223,(zgO b)),(78,(zht Y [⟨[(0,.ptr 0 0),(1,.str),(2,.bool),(3,.fn 79 [.ptr 1 0,.ptr 2 0])],zbo⟩,⟨[(0,.ptr 0 0),(1,.str),(2,.bool),(3,.fn 236 [.ptr 1 0,.ptr 2 0])],zwe⟩,⟨[(0,.ptr 0 0),(1,.str),(2,.bool),(3,.fn 242 [.ptr 1 0,.ptr 2 0])],zbo⟩] (ziM b))),(21,(zdG))]) trivial
def zdd(j:zf)(x:zh)(e:Int)(f:Str)(g:Int)(h:Str)(l:List Str)(i:List zg):OT6:=(j.zcE ⟨x.t,false⟩ e f g h l i).bind λc=>(match c with| .inl b=>some (.inl (⟨b.1.t,x.no⟩,(zy b.2.1),b.2.2.1,b.2.2.2.1,()))| .inr a=>some (.inr (a.1,(zi a.2.1),a.2.2.1,a.2.2.2.1,a.2.2.2.2.1,a.2.2.2.2.2.1,a.2.2.2.2.2.2.1,a.2.2.2.2.2.2.2.1,())))
def znu(b:zf):=callee Y [] zhQ ze5 (u7 (zdd b))
def zmS:zaf Y (zY Y ze5):= .nil
theorem zlk(b:zf)(d:zA b):K8 80 (znu b):=f8 zmS Tryz.func80 (.cons d.zcE .nil) trivial
def zd7(j:zf)(x:zh)(f:Int)(g:Str)(h:Int)(i:Str)(l:List Str)(c:List zg):OT6:=(j.zZ (zi x)).bind λd=>(match d with| .inl a=>some (.inl ((zi a.2.1),(zy a.1),l,c,()))| .inr b=>some (.inr (b.1,(zi b.2.1),f,g,h,i,l,c,())))
def zpr(b:zf):=callee Y [] zmm zgn (u7 (zd7 b))
def zpx:zaf Y (zY Y zgn):= .nil
theorem znw(b:zf)(d:zA b):K8 241 (zpr b):=f8 zpx Tryz.func241 (.cons d.zZ .nil) trivial
def zc8(n:zf):zh×Int×Str×Int×Str×zg×(List Str)×(List zg)×Unit->Option ((zh×Int×Str×Int×Str×zg×(List Str)×(List zg)×Unit)⊕((zg×zh×Unit)⊕(zU×zh×Unit)))| (e,f,g,h,i,b,j,k,())=>(zG [44] (zi e)).bind λa=>if a.1=true then fd ((n.zae (zi a.2.1)).bind λl=>(match l with| .inl c=>some (.inl ((zi c.2.1),f,g,h,i,⟨21,[],0,[],[],[(zy b),(zy c.1)]⟩,j,k,()))| .inr d=>some (.inr (.inr (d.1,(zi d.2.1),())))))else some (.inr (.inl ((zy b),(zi a.2.1),())))
def zfh(d:zf)(x:zh):zfY:=(d.zae (zi x)).bind λe=>(match e with| .inl a=>Lp.loop (zc8 d) ((zi a.2.1),0,[],0,[],(zy a.1),[],[],())| .inr b=>some (.inr (b.1,(zi b.2.1),())))
def zrT(b:zf):=callee Y [] zrU zgc (λz=>zfh b z.1)
def zrF(b:zf):zaf Y (zY Y zgc):=(.loop [[7,5,1,2,2],[8,5,1,2,2],[6,1,2,2],[2,2,2]] ⟨[(0,.ptr 0 0),(2,.ptr 1 0),(3,.ptr 2 0)],zA2⟩ (zc8 b) .nil .nil)
theorem zoJ(b:zf)(d:zA b):K8 91 (zrT b):=f8 (zrF b) Tryz.func91 (.cons d.zae (.cons zah .nil)) ⟨λz=>by kernel_rfl,trivial,trivial⟩
def zeK(g:zf)(e:Str)(f:Bool)(x:zh):zwn:=(g.zcp e f (zi x) []).bind λc=>(match c with| .inl a=>some (.inl (a.2.1,(zi a.1),()))| .inr b=>some (.inr (b.1,(zi b.2.1),())))
def zqA(b:zf):=callee Y [] zkh zgw (u3 (zeK b))
def zru:zaf Y (zY Y zgw):= .nil
theorem zny(b:zf)(d:zA b):K8 223 (zqA b):=f8 zru Tryz.func223 ((.cons (COk.laid d.zcp) .nil):zbU hY Tryz.prog zao [(78,(zht Y [⟨[(0,.ptr 0 0),(1,.str),(2,.bool),(3,.fn 79 [.ptr 1 0,.ptr 2 0])],zbo⟩,⟨[(0,.ptr 0 0),(1,.str),(2,.bool),(3,.fn 236 [.ptr 1 0,.ptr 2 0])],zwe⟩,⟨[(0,.ptr 0 0),(1,.str),(2,.bool),(3,.fn 242 [.ptr 1 0,.ptr 2 0])],zbo⟩] (ziK b)))]) trivial
def zcK(g:zf)(e:Str)(f:Bool)(x:zh)(l:List zg):zwb:=(g.zbW (zi x) e l f).bind λc=>(match c with| .inl b=>some (.inl ((zi b.1),b.2.2.1,()))| .inr a=>some (.inr (a.1,(zi a.2.1),a.2.2.2.1,())))
def zoM(b:zf):=callee Y [] ziL zfV (u4 (zcK b))
def zoT:zaf Y (zY Y zfV):= .nil
theorem zl5(b:zf)(d:zA b):K8 78 (zoM b):=f8 zoT Tryz.func78 ((.cons (COk.laid d.zbW) .nil):zbU hY Tryz.prog zao [(80,(zht Y [⟨[(0,.ptr 0 0),(1,.fn 133 [.ptr 1 0,.ptr 2 0,.ptr 3 0,.ptr 8 0])],om3⟩,⟨[(0,.ptr 0 0),(1,.fn 81 [.ptr 1 0,.ptr 2 0])],zbo⟩,⟨[(0,.ptr 0 0),(1,.fn 241 [.ptr 1 0,.ptr 2 0])],zbo⟩,⟨[(0,.ptr 0 0),(1,.fn 133 [.ptr 1 0,.ptr 2 0,.ptr 3 0,.ptr 7 0])],om5⟩,⟨[(0,.ptr 0 0),(1,.fn 133 [.ptr 1 0,.ptr 2 0,.ptr 3 0,.ptr 8 0])],om1⟩,⟨[(0,.ptr 0 0),(1,.fn 222 [.ptr 1 0,.ptr 2 0])],zbo⟩,⟨[(0,.ptr 0 0),(1,.fn 167 [.ptr 1 0,.ptr 2 0])],zbo⟩] (zhU b)))]) trivial
def zda(g:zf)(x:zh)(a:Str)(l:List zg)(f:Bool):OT8:=(g.zbZ ⟨x.t,false⟩ a l f).bind λd=>(match d with| .inl c=>some (.inl (⟨c.1.t,x.no⟩,c.2.1,c.2.2.1,c.2.2.2.1,()))| .inr b=>some (.inr (b.1,(zi b.2.1),b.2.2.1,b.2.2.2.1,b.2.2.2.2.1,())))
def zm3(b:zf):=callee Y [] zh3 zeT (u4 (zda b))
def zmT:zaf Y (zY Y zeT):= .nil
theorem zly(b:zf)(d:zA b):K8 80 (zm3 b):=f8 zmT Tryz.func80 ((.cons (COk.laid d.zbZ) .nil):zbU hY Tryz.prog zao [(133,(zht Y [⟨[(0,.ptr 0 0),(1,.ptr 2 0),(2,.ptr 3 0),(3,.ptr 8 0)],om2⟩,⟨[(0,.ptr 0 0),(1,.ptr 2 0),(2,.ptr 3 0),(3,.ptr 7 0)],om4⟩,⟨[(0,.ptr 0 0),(1,.ptr 2 0),(2,.ptr 3 0),(3,.ptr 8 0)],om0⟩] (zh7 b)))]) trivial
def zb8(p:zf):zh×Str×(List zg)×Bool×Unit->Option ((zh×Str×(List zg)×Bool×Unit)⊕((zh×Str×(List zg)×Bool×Unit)⊕(zU×zh×Str×(List zg)×Bool×Unit)))| (l,a,h,b,())=>(zG a (zi l)).bind λd=>if(!d.1)=true then(p.zbO (zi d.2.1) h).bind λm=>(match m with| .inl c=>(zG a (zi c.1)).bind λe=>if e.1=true then some (.inr (.inl ((zi e.2.1),a,c.2.1,b,())))else(zT [44] (zi e.2.1)).bind λn=>(match n with| .inl i=>some (.inr (.inr (i.1,(zi i.2.1),a,c.2.1,b,())))| .inr j=>if(!b)=true then(zaE a (zi j.1)).bind λf=>if f.1=true then(zas (zi f.2.1)).bind λk=>some (.inr (.inr (k.1,(zi k.2.1),a,c.2.1,b,())))else some (.inl ((zi f.2.1),a,c.2.1,b,()))else some (.inl ((zi j.1),a,c.2.1,b,())))| .inr g=>some (.inr (.inr (g.1,(zi g.2.1),a,g.2.2.1,b,()))))else some (.inr (.inl ((zi d.2.1),a,h,b,())))
def zdn(d:zf)(x:zh)(a:Str)(l:List zg)(c:Bool):OT8:=Lp.loop (zb8 d) ((zi x),a,l,c,())
def znk(b:zf):=callee Y [] zh5 zeW (u4 (zdn b))
def zmK(b:zf):zaf Y (zY Y zeW):=(.loop [[7,5],[8,5],[6]] ⟨[(0,.ptr 0 0),(1,.ptr 2 0),(2,.ptr 3 0),(3,.ptr 7 0)],om4⟩ (zb8 b) .nil .nil)
theorem zlM(b:zf)(d:zA b):K8 133 (znk b):=f8 (zmK b) Tryz.func133 (.cons zah (.cons d.zbO (.cons zan (.cons zbt (.cons zax .nil))))) ⟨λz=>by kernel_rfl,trivial,trivial⟩
def zd2(k:zf)(x:zh)(l:List zg):zwb:=(k.zae (zi x)).bind λe=>(match e with| .inl a=>fk (fd ((room (l.length+([⟨0,[],0,[],[],[]⟩]:List zg).length)).bind λ_=>let b:=l++[⟨0,[],0,[],[],[]⟩];fk ((zQ b ((l.length:Nat):Int)).bind λ_=>fd ((zQ b ((l.length:Nat):Int)).bind λm=>let f:=b.set ((l.length:Nat):Int).toNat (zy a.1);some (.inl ((zi a.2.1),f,())))) ((zQ b ((l.length:Nat):Int)).bind λ_=>(zQ b ((l.length:Nat):Int)).bind λn=>let g:=b.set ((l.length:Nat):Int).toNat (zy a.1);some (.inl ((zi a.2.1),g,()))))) ((room (l.length+([⟨0,[],0,[],[],[]⟩]:List zg).length)).bind λ_=>let c:=l++[⟨0,[],0,[],[],[]⟩];fk ((zQ c ((l.length:Nat):Int)).bind λ_=>fd ((zQ c ((l.length:Nat):Int)).bind λo=>let h:=c.set ((l.length:Nat):Int).toNat (zy a.1);some (.inl ((zi a.2.1),h,())))) ((zQ c ((l.length:Nat):Int)).bind λ_=>(zQ c ((l.length:Nat):Int)).bind λp=>let i:=c.set ((l.length:Nat):Int).toNat (zy a.1);some (.inl ((zi a.2.1),i,()))))| .inr d=>some (.inr (d.1,(zi d.2.1),l,())))
def zo0(b:zf):=callee Y [] ziH zfT (u2 (zd2 b))
def zoE:zaf Y (zY Y zfT):= .nil
theorem zl7(b:zf)(d:zA b):K8 236 (zo0 b):=f8 zoE Tryz.func236 (.cons d.zae .nil) trivial
def zdY(m:zf)(e:Str)(f:Bool)(x:zh)(g:Int)(h:Str)(i:Int)(j:Str)(l:List Str)(k:List zg):OT5:=(m.zbX (zi x) e g h i j l k f).bind λc=>(match c with| .inl a=>some (.inl (a.1,(zi a.2.1),a.2.2.2.1,a.2.2.2.2.1,a.2.2.2.2.2.1,a.2.2.2.2.2.2.1,a.2.2.2.2.2.2.2.1,a.2.2.2.2.2.2.2.2.1,()))| .inr b=>some (.inr ((zi b.1),b.2.2.1,b.2.2.2.1,b.2.2.2.2.1,b.2.2.2.2.2.1,b.2.2.2.2.2.2.1,b.2.2.2.2.2.2.2.1,())))
def zoU(b:zf):=callee Y [] ziD zkv (u9 (zdY b))
theorem zmj(b:zf)(d:zA b):K8 78 (zoU b):=f8 zr0 Tryz.func78 ((.cons (COk.laid d.zbX) .nil):zbU hY Tryz.prog zao [(80,(zht Y [⟨[(0,.ptr 0 0),(1,.fn 133 [.ptr 1 0,.ptr 2 0,.ptr 3 0,.ptr 8 0])],om3⟩,⟨[(0,.ptr 0 0),(1,.fn 81 [.ptr 1 0,.ptr 2 0])],zbo⟩,⟨[(0,.ptr 0 0),(1,.fn 241 [.ptr 1 0,.ptr 2 0])],zbo⟩,⟨[(0,.ptr 0 0),(1,.fn 133 [.ptr 1 0,.ptr 2 0,.ptr 3 0,.ptr 7 0])],om5⟩,⟨[(0,.ptr 0 0),(1,.fn 133 [.ptr 1 0,.ptr 2 0,.ptr 3 0,.ptr 8 0])],om1⟩,⟨[(0,.ptr 0 0),(1,.fn 222 [.ptr 1 0,.ptr 2 0])],zbo⟩,⟨[(0,.ptr 0 0),(1,.fn 167 [.ptr 1 0,.ptr 2 0])],zbo⟩] (zie b)))]) trivial
def zdt(m:zf)(x:zh)(a:Str)(f:Int)(g:Str)(h:Int)(i:Str)(l:List Str)(j:List zg)(k:Bool):OT3:=(m.zbV ⟨x.t,false⟩ a f g h i l j k).bind λd=>(match d with| .inl b=>some (.inl (b.1,(zi b.2.1),b.2.2.1,b.2.2.2.1,b.2.2.2.2.1,b.2.2.2.2.2.1,b.2.2.2.2.2.2.1,b.2.2.2.2.2.2.2.1,b.2.2.2.2.2.2.2.2.1,b.2.2.2.2.2.2.2.2.2.1,()))| .inr c=>some (.inr (⟨c.1.t,x.no⟩,c.2.1,c.2.2.1,c.2.2.2.1,c.2.2.2.2.1,c.2.2.2.2.2.1,c.2.2.2.2.2.2.1,c.2.2.2.2.2.2.2.1,c.2.2.2.2.2.2.2.2.1,())))
def zmY(b:zf):=callee Y [] zii zeY (u9 (zdt b))
def zni:zaf Y (zY Y zeY):= .nil
theorem zlP(b:zf)(d:zA b):K8 80 (zmY b):=f8 zni Tryz.func80 ((.cons (COk.laid d.zbV) .nil):zbU hY Tryz.prog zao [(133,(zht Y [⟨[(0,.ptr 0 0),(1,.ptr 2 0),(2,.ptr 3 0),(3,.ptr 8 0)],om2⟩,⟨[(0,.ptr 0 0),(1,.ptr 2 0),(2,.ptr 3 0),(3,.ptr 7 0)],om4⟩,⟨[(0,.ptr 0 0),(1,.ptr 2 0),(2,.ptr 3 0),(3,.ptr 8 0)],om0⟩] (zhL b)))]) trivial
def zcb(u:zf):zh×Str×Int×Str×Int×Str×(List Str)×(List zg)×Bool×Unit->OT0| (q,b,h,i,j,k,l,m,c,())=>(zG b (zi q)).bind λe=>if(!e.1)=true then(u.zb4 (zi e.2.1) h i j k l m).bind λr=>(match r with| .inl d=>some (.inr (.inl (d.1,(zi d.2.1),b,d.2.2.1,d.2.2.2.1,d.2.2.2.2.1,d.2.2.2.2.2.1,d.2.2.2.2.2.2.1,d.2.2.2.2.2.2.2.1,c,())))| .inr a=>(zG b (zi a.1)).bind λf=>if f.1=true then some (.inr (.inr ((zi f.2.1),b,a.2.1,a.2.2.1,a.2.2.2.1,a.2.2.2.2.1,a.2.2.2.2.2.1,a.2.2.2.2.2.2.1,c,())))else(zT [44] (zi f.2.1)).bind λs=>(match s with| .inl n=>some (.inr (.inl (n.1,(zi n.2.1),b,a.2.1,a.2.2.1,a.2.2.2.1,a.2.2.2.2.1,a.2.2.2.2.2.1,a.2.2.2.2.2.2.1,c,())))| .inr o=>if(!c)=true then(zaE b (zi o.1)).bind λg=>if g.1=true then(zas (zi g.2.1)).bind λp=>some (.inr (.inl (p.1,(zi p.2.1),b,a.2.1,a.2.2.1,a.2.2.2.1,a.2.2.2.2.1,a.2.2.2.2.2.1,a.2.2.2.2.2.2.1,c,())))else some (.inl ((zi g.2.1),b,a.2.1,a.2.2.1,a.2.2.2.1,a.2.2.2.2.1,a.2.2.2.2.2.1,a.2.2.2.2.2.2.1,c,()))else some (.inl ((zi o.1),b,a.2.1,a.2.2.1,a.2.2.2.1,a.2.2.2.2.1,a.2.2.2.2.2.1,a.2.2.2.2.2.2.1,c,()))))else some (.inr (.inr ((zi e.2.1),b,h,i,j,k,l,m,c,())))
def zdo(i:zf)(x:zh)(a:Str)(c:Int)(d:Str)(e:Int)(f:Str)(l:List Str)(g:List zg)(h:Bool):OT3:=Lp.loop (zcb i) ((zi x),a,c,d,e,f,l,g,h,())
def zno(b:zf):=callee Y [] zhZ zeV (u9 (zdo b))
def znb(b:zf):zaf Y (zY Y zeV):=(.loop [[7,5],[8,5],[6]] ⟨[(0,.ptr 0 0),(1,.ptr 2 0),(2,.ptr 3 0),(3,.ptr 8 0)],om0⟩ (zcb b) .nil .nil)
theorem zlE(b:zf)(d:zA b):K8 133 (zno b):=f8 (znb b) Tryz.func133 (.cons zah (.cons d.zb4 (.cons zan (.cons zbt (.cons zax .nil))))) ⟨λz=>by kernel_rfl,trivial,trivial⟩
def zd8(y:zf)(x:zh)(c:Int)(d:Str)(e:Int)(f:Str)(l:List Str)(a:List zg):OT5:=(zgE (zi x)).bind λn=>(match n with| .inl i=>(zT [58] (zi i.2.1)).bind λo=>(match o with| .inl j=>some (.inl (j.1,(zi j.2.1),c,d,e,f,l,a,()))| .inr p=>(y.zae (zi p.1)).bind λq=>(match q with| .inl b=>fk (fd ((room (a.length+([⟨0,[],0,[],[],[]⟩]:List zg).length)).bind λ_=>let g:=a++[⟨0,[],0,[],[],[]⟩];fk ((zQ g ((a.length:Nat):Int)).bind λ_=>fd ((zQ g ((a.length:Nat):Int)).bind λz=>let r:=g.set ((a.length:Nat):Int).toNat ⟨9,[],0,i.1,[],[(zy b.1)]⟩;some (.inr ((zi b.2.1),c,d,e,f,l,r,())))) ((zQ g ((a.length:Nat):Int)).bind λ_=>(zQ g ((a.length:Nat):Int)).bind λA=>let s:=g.set ((a.length:Nat):Int).toNat ⟨9,[],0,i.1,[],[(zy b.1)]⟩;some (.inr ((zi b.2.1),c,d,e,f,l,s,()))))) ((room (a.length+([⟨0,[],0,[],[],[]⟩]:List zg).length)).bind λ_=>let h:=a++[⟨0,[],0,[],[],[]⟩];fk ((zQ h ((a.length:Nat):Int)).bind λ_=>fd ((zQ h ((a.length:Nat):Int)).bind λB=>let t:=h.set ((a.length:Nat):Int).toNat ⟨9,[],0,i.1,[],[(zy b.1)]⟩;some (.inr ((zi b.2.1),c,d,e,f,l,t,())))) ((zQ h ((a.length:Nat):Int)).bind λ_=>(zQ h ((a.length:Nat):Int)).bind λC=>let u:=h.set ((a.length:Nat):Int).toNat ⟨9,[],0,i.1,[],[(zy b.1)]⟩;some (.inr ((zi b.2.1),c,d,e,f,l,u,()))))| .inr k=>some (.inl (k.1,(zi k.2.1),c,d,e,f,l,a,()))))| .inr m=>some (.inl (m.1,(zi m.2.1),c,d,e,f,l,a,())))
def zpq(b:zf):=callee Y [] zmm zhv (u7 (zd8 b))
theorem zmR(b:zf)(d:zA b):K8 242 (zpq b):=f8 zmw Tryz.func242 (.cons zsp (.cons zan (.cons d.zae .nil))) trivial
def zcs(o:zf):Bool×zh×zg×Int×Str×Int×Str×(List Str)×(List zg)×Unit->Option ((Bool×zh×zg×Int×Str×Int×Str×(List Str)×(List zg)×Unit)⊕((zU×zh×Unit)⊕(zg×zh×Unit)))| (c,z,a,d,e,f,g,h,i,())=>(zG [46] (zi z)).bind λb=>if b.1=true then(zQ b.2.1.t 0).bind λA=>(if(A.Kind !=1)=true then(zQ b.2.1.t 0).bind λB=>some (B.Kind !=2)else some false).bind λC=>if C=true then(zas (zi b.2.1)).bind λp=>some (.inr (.inl (p.1,(zi p.2.1),())))else fk ((zaa (zi b.2.1)).bind λq=>some (.inl (c,(zi q.2.1),⟨11,q.1.Text,0,[],[],[(zy a)]⟩,d,e,f,g,h,i,()))) (fd ((zaa (zi b.2.1)).bind λr=>some (.inl (c,(zi r.2.1),⟨11,r.1.Text,0,[],[],[(zy a)]⟩,d,e,f,g,h,i,()))))else(zG [91] (zi b.2.1)).bind λj=>if j.1=true then(o.zbw (zi j.2.1) 0 [] 0 [] [] []).bind λD=>(match D with| .inl s=>(zT [93] (zi s.1)).bind λE=>(match E with| .inl u=>some (.inr (.inl (u.1,(zi u.2.1),())))| .inr H=>some (.inl (c,(zi H.1),⟨12,[],0,[],[],[(zy a),(zy s.2.1)]⟩,d,e,f,g,h,i,())))| .inr v=>some (.inr (.inl (v.1,(zi v.2.1),()))))else if c=true then(zG [40] (zi j.2.1)).bind λk=>if k.1=true then fk (fd ((o.za3 [41] false (zi k.2.1)).bind λI=>(match I with| .inl l=>(room (([(zy a)]:List zg).length+l.1.length)).bind λ_=>let J:=[(zy a)]++l.1;some (.inl (c,(zi l.2.1),⟨13,[],0,[],[],J⟩,d,e,f,g,h,i,()))| .inr x=>some (.inr (.inl (x.1,(zi x.2.1),())))))) ((o.za3 [41] false (zi k.2.1)).bind λK=>(match K with| .inl m=>(room (([(zy a)]:List zg).length+m.1.length)).bind λ_=>let L:=[(zy a)]++m.1;some (.inl (c,(zi m.2.1),⟨13,[],0,[],[],L⟩,d,e,f,g,h,i,()))| .inr y=>some (.inr (.inl (y.1,(zi y.2.1),())))))else some (.inr (.inr ((zy a),(zi k.2.1),())))else some (.inr (.inr ((zy a),(zi j.2.1),())))
def zdX(c:zf)(n:zg)(b:Bool)(x:zh):zaF:=Lp.loop (zcs c) (b,(zi x),(zy n),0,[],0,[],[],[],())
def zoV(b:zf):=callee Y [] ziE zkl (u3 (zdX b))
def zoC(b:zf):zaf Y (zY Y zkl):=(.loop [[7,5,2],[8,5,2],[6,2]] ⟨[(2,.bool),(3,.ptr 1 0),(4,.ptr 2 0),(6,.ptr 3 0)],[.whole 48 48,.cells 46 [.ptr 0 0],.whole 25 25,oc0 4 5,.arr 9,.arr 25]⟩ (zcs b) .nil .nil)
theorem zmo(b:zf)(d:zA b):K8 210 (zoV b):=f8 (zoC b) Tryz.func210 ((.cons zah (.cons zax (.cons za9 (.cons (COk.laid d.zbw) (.cons zan (.cons d.za3 .nil)))))):zbU hY Tryz.prog zao [(36,(zfC)),(21,(zdG)),(75,(zhd)),(80,(zht Y [⟨[(0,.ptr 0 0),(1,.fn 133 [.ptr 1 0,.ptr 2 0,.ptr 3 0,.ptr 8 0])],om3⟩,⟨[(0,.ptr 0 0),(1,.fn 81 [.ptr 1 0,.ptr 2 0])],zbo⟩,⟨[(0,.ptr 0 0),(1,.fn 241 [.ptr 1 0,.ptr 2 0])],zbo⟩,⟨[(0,.ptr 0 0),(1,.fn 133 [.ptr 1 0,.ptr 2 0,.ptr 3 0,.ptr 7 0])],om5⟩,⟨[(0,.ptr 0 0),(1,.fn 133 [.ptr 1 0,.ptr 2 0,.ptr 3 0,.ptr 8 0])],om1⟩,⟨[(0,.ptr 0 0),(1,.fn 222 [.ptr 1 0,.ptr 2 0])],zbo⟩,⟨[(0,.ptr 0 0),(1,.fn 167 [.ptr 1 0,.ptr 2 0])],zbo⟩] (zhY b))),(77,(zdH)),(223,(zgO b))]) ⟨λz=>by kernel_rfl,trivial,trivial⟩
def zdq(j:zf)(x:zh)(e:Int)(f:Str)(g:Int)(h:Str)(l:List Str)(i:List zg):OT6:=(j.zb1 ⟨x.t,false⟩ e f g h l i).bind λc=>(match c with| .inl b=>some (.inl (⟨b.1.t,x.no⟩,(zy b.2.1),b.2.2.1,b.2.2.2.1,()))| .inr a=>some (.inr (a.1,(zi a.2.1),a.2.2.1,a.2.2.2.1,a.2.2.2.2.1,a.2.2.2.2.2.1,a.2.2.2.2.2.2.1,a.2.2.2.2.2.2.2.1,())))
def zne(b:zf):=callee Y [] zh9 ze5 (u7 (zdq b))
theorem zlw(b:zf)(d:zA b):K8 80 (zne b):=f8 zmS Tryz.func80 (.cons d.zb1 .nil) trivial
def zc7(j:zf)(x:zh)(f:Int)(g:Str)(h:Int)(i:Str)(l:List Str)(c:List zg):OT6:=(j.zZ (zi x)).bind λd=>(match d with| .inl a=>some (.inl ((zi a.2.1),(zy a.1),l,c,()))| .inr b=>some (.inr (b.1,(zi b.2.1),f,g,h,i,l,c,())))
def zm0(b:zf):=callee Y [] zmm zgn (u7 (zc7 b))
theorem zlA(b:zf)(d:zA b):K8 222 (zm0 b):=f8 zpx Tryz.func222 (.cons d.zZ .nil) trivial
def zdk(j:zf)(x:zh)(e:Int)(f:Str)(g:Int)(h:Str)(l:List Str)(i:List zg):OT6:=(j.zcf ⟨x.t,false⟩ e f g h l i).bind λc=>(match c with| .inl b=>some (.inl (⟨b.1.t,x.no⟩,(zy b.2.1),b.2.2.1,b.2.2.2.1,()))| .inr a=>some (.inr (a.1,(zi a.2.1),a.2.2.1,a.2.2.2.1,a.2.2.2.2.1,a.2.2.2.2.2.1,a.2.2.2.2.2.2.1,a.2.2.2.2.2.2.2.1,())))
def znp(b:zf):=callee Y [] zhM ze5 (u7 (zdk b))
theorem zlL(b:zf)(d:zA b):K8 80 (znp b):=f8 zmS Tryz.func80 (.cons d.zcf .nil) trivial
def zdD(j:zf)(x:zh)(f:Int)(g:Str)(h:Int)(i:Str)(l:List Str)(c:List zg):OT6:=(j.zae (zi x)).bind λd=>(match d with| .inl a=>some (.inl ((zi a.2.1),(zy a.1),l,c,()))| .inr b=>some (.inr (b.1,(zi b.2.1),f,g,h,i,l,c,())))
def znP(b:zf):=callee Y [] zmm zgn (u7 (zdD b))
theorem zlR(b:zf)(d:zA b):K8 167 (znP b):=f8 zpx Tryz.func167 (.cons d.zae .nil) trivial
def zf0(q:zf)(c:zh)(j:Int)(k:Str)(l:Int)(m:Str)(d:Int)(e:Str)(f:Int)(g:Str)(a:zg)(n:List Str)(o:List zg)(h:List Str)(b:List zg):zaF:=(room (b.length+([(zy a)]:List zg).length)).bind λ_=>let i:=b++[(zy a)];some (.inr (⟨d,e,f,g,h,i⟩,(zi c),()))
def zf1(d:zf)(e:zh)(f:Int)(g:Str)(h:Int)(i:Str)(j:Int)(k:Str)(l:Int)(m:Str)(n:List Str)(o:List zg)(p:List Str)(q:List zg):zaF:=(d.zaP (zi e)).bind λr=>(match r with| .inl a=>some (.inl (a.1,(zi a.2.1),()))| .inr b=>zf0 d (zi b.2.1) f g h i j k l m (zy b.1) n o p q)
def zdV(p:zf)(h:zh)(i:Int)(j:Str)(k:Int)(l:Str)(b:Int)(c:Str)(d:Int)(e:Str)(m:List Str)(n:List zg)(f:List Str)(g:List zg):zaF:=(zG [101,108,115,101] (zi h)).bind λa=>if a.1=true then zf1 p (zi a.2.1) i j k l b c d e m n f g else some (.inr (⟨b,c,d,e,f,g⟩,(zi a.2.1),()))
def zed(b:zf)(x:zh):zaF:=(b.za8 (zi x)).bind λi=>(match i with| .inl d=>some (.inl (d.1,(zi d.2.1),()))| .inr c=>fk ((b.zaP (zi c.2.1)).bind λj=>(match j with| .inl e=>some (.inl (e.1,(zi e.2.1),()))| .inr f=>fd (zdV b (zi f.2.1) 0 [] 0 [] 26 [] 0 [] [] [] [] [(zy c.1),(zy f.1)]))) ((b.zaP (zi c.2.1)).bind λk=>(match k with| .inl g=>some (.inl (g.1,(zi g.2.1),()))| .inr h=>zdV b (zi h.2.1) 0 [] 0 [] 26 [] 0 [] [] [] [] [(zy c.1),(zy h.1)])))
def zph(b:zf):=callee Y [] zrU zkl (λz=>zed b z.1)
def zpz(b:zf):zaf Y (zY Y zkl):=(.join [[1,1,2,2,2],[2,1,2,2,2],[2,2,2,2]] ⟨[(0,.ptr 0 0),(2,.ptr 1 0),(4,.ptr 2 0)],zfs⟩ (u13 (zdV b)) (.join [[1,3,2,1,2,2,2],[2,3,2,1,2,2,2],[2,2,2,2]] ⟨[(0,.ptr 0 0),(2,.ptr 1 0),(4,.ptr 2 0)],zfs⟩ (u13 (zf1 b)) (.join [[2,3,2,1,2,2,2],[2,2,2,2]] ⟨[(2,.ptr 1 0),(4,.ptr 2 0),(5,.ptr 3 0)],om8⟩ (u14 (zf0 b)) .nil)))
theorem zm6(b:zf)(d:zA b):K8 85 (zph b):=f8 (zpz b) Tryz.func85 (.cons d.za8 (.cons d.zaP (.cons zah .nil))) ⟨λz=>by kernel_rfl,⟨λz=>by kernel_rfl,⟨λz=>by kernel_rfl,⟨⟩⟩⟩⟩
def ze6(k:zf)(x:zh):zaF:=(zT [40] (zi x)).bind λe=>(match e with| .inl a=>some (.inl (a.1,(zi a.2.1),()))| .inr f=>(k.zZ (zi f.1)).bind λg=>(match g with| .inl b=>(zT [41] (zi b.2.1)).bind λh=>(match h with| .inl c=>some (.inl (c.1,(zi c.2.1),()))| .inr i=>some (.inr ((zy b.1),(zi i.1),())))| .inr d=>some (.inl (d.1,(zi d.2.1),()))))
def zsq(b:zf):=callee Y [] zrU zkl (λz=>ze6 b z.1)
theorem zor(b:zf)(d:zA b):K8 86 (zsq b):=f8 zsa Tryz.func86 (.cons zan (.cons d.zZ .nil)) trivial
def ze8(e:zf)(x:zh):zaF:=(e.za1 (zi x)).bind λc=>(match c with| .inl b=>some (.inl (b.1,(zi b.2.1),()))| .inr a=>if(a.1.Kind !=25)=true then some (.inr (⟨25,[],0,[],[],[(zy a.1)]⟩,(zi a.2.1),()))else some (.inr ((zy a.1),(zi a.2.1),())))
def zrS(b:zf):=callee Y [] zrU zkl (λz=>ze8 b z.1)
theorem zo2(b:zf)(d:zA b):K8 87 (zrS b):=f8 zsa Tryz.func87 (.cons d.za1 .nil) trivial
def zc1(m:zf)(d:zh)(n:Int)(o:Str)(p:Int)(q:Str)(e:Int)(f:Str)(g:Int)(h:Str)(r:List Str)(s:List zg)(i:List Str)(b:List zg):zaF:=(m.zaP (zi d)).bind λj=>(match j with| .inl c=>some (.inl (c.1,(zi c.2.1),()))| .inr a=>(room (b.length+([(zy a.1)]:List zg).length)).bind λ_=>let k:=b++[(zy a.1)];some (.inr (⟨e,f,g,h,i,k⟩,(zi a.2.1),())))
def zf9(r:zf)(d:zh)(e:Int)(f:Str)(g:Int)(h:Str)(i:Int)(j:Str)(k:Int)(l:Str)(a:zg)(b:zg)(m:List Str)(n:List zg)(o:List Str)(c:List zg):zaF:=(room (c.length+([(zy a),(zy b)]:List zg).length)).bind λ_=>let p:=c++[(zy a),(zy b)];zc1 r (zi d) e f g h i j k l m n o p
def zgk(d:zf)(e:zh)(f:Int)(g:Str)(h:Int)(i:Str)(j:Int)(k:Str)(l:Int)(m:Str)(n:zg)(o:List Str)(p:List zg)(q:List Str)(r:List zg):zaF:=(d.zbH [41] (zi e)).bind λs=>(match s with| .inl a=>zf9 d (zi a.2.1) f g h i j k l m (zy n) (zy a.1) o p q r| .inr b=>some (.inl (b.1,(zi b.2.1),())))
def zgP(d:zf)(e:zh)(f:Int)(g:Str)(h:Int)(i:Str)(j:Int)(k:Str)(l:Int)(m:Str)(n:List Str)(o:List zg)(p:List Str)(q:List zg):zaF:=(d.zbH [59] (zi e)).bind λr=>(match r with| .inl a=>zgk d (zi a.2.1) f g h i j k l m (zy a.1) n o p q| .inr b=>some (.inl (b.1,(zi b.2.1),())))
def zdj(r:zf)(b:zh)(c:Int)(d:Str)(e:Int)(f:Str)(g:Int)(h:Str)(i:Int)(j:Str)(k:List Str)(l:List zg)(m:List Str)(n:List zg):zaF:=(zT [59] (zi b)).bind λo=>(match o with| .inl a=>some (.inl (a.1,(zi a.2.1),()))| .inr p=>zgP r (zi p.1) c d e f g h i j k l m n)
def zgD(r:zf)(b:zh)(c:Int)(d:Str)(e:Int)(f:Str)(g:Int)(h:Str)(i:Int)(j:Str)(k:List Str)(l:List zg)(m:List Str)(n:List zg):zaF:=(zT [41] (zi b)).bind λo=>(match o with| .inl a=>some (.inl (a.1,(zi a.2.1),()))| .inr p=>zc1 r (zi p.1) c d e f g h i j k l m n)
def zgH(q:zf)(c:zh)(d:Int)(e:Str)(f:Int)(g:Str)(h:Int)(i:Str)(j:Int)(k:Str)(a:zg)(l:List Str)(m:List zg)(n:List Str)(b:List zg):zaF:=(room (b.length+([(zy a)]:List zg).length)).bind λ_=>let o:=b++[(zy a)];zgD q (zi c) d e f g h i j k l m n o
def zgC(d:zf)(e:zh)(f:Int)(g:Str)(h:Int)(i:Str)(j:Int)(k:Str)(l:Int)(m:Str)(n:List Str)(o:List zg)(p:List Str)(q:List zg):zaF:=(d.zZ (zi e)).bind λr=>(match r with| .inl a=>zgH d (zi a.2.1) f g h i j k l m (zy a.1) n o p q| .inr b=>some (.inl (b.1,(zi b.2.1),())))
def zgx(n:zf)(a:zh)(b:Int)(c:Str)(d:Int)(e:Str)(o:Int)(f:Str)(g:Int)(h:Str)(i:List Str)(j:List zg)(k:List Str)(l:List zg):zaF:=zgC n (zi a) b c d e 30 f g h i j k l
def zc9(o:zf)(q:Bool)(p:zh)(a:Int)(b:Str)(c:Int)(d:Str)(e:Int)(f:Str)(g:Int)(h:Str)(i:List Str)(j:List zg)(k:List Str)(l:List zg):zaF:=if q=true then(zG [105,110] (zi p)).bind λm=>if m.1=true then zgx o (zi m.2.1) a b c d e f g h i j k l else zdj o (zi m.2.1) a b c d e f g h i j k l else zdj o (zi p) a b c d e f g h i j k l
def zgF(k:zf)(a:Bool)(b:zh)(c:Int)(d:Str)(e:Int)(f:Str)(g:zg)(h:List Str)(i:List zg):zaF:=zc9 k a (zi b) c d e f 29 [] 0 [] h i [] [(zy g)]
def zdg(k:zf)(a:Bool)(b:zh)(c:Int)(d:Str)(e:Int)(f:Str)(g:zg)(h:List Str)(i:List zg):zaF:=zgF k a ⟨b.t,false⟩ c d e f (zy g) h i
def zfl(b:zf)(x:zh):zaF:=(zT [40] (zi x)).bind λj=>(match j with| .inl g=>some (.inl (g.1,(zi g.2.1),()))| .inr k=>(zG [118,97,114] ⟨k.1.t,true⟩).bind λd=>if d.1=true then(b.zbC (zi d.2.1)).bind λl=>(match l with| .inl h=>some (.inl (h.1,(zi h.2.1),()))| .inr c=>let m:=((c.1.L.length:Nat):Int);(if(m==1)=true then(zQ c.1.L 0).bind λn=>let o:=((n.L.length:Nat):Int);some (o==0)else some false).bind λp=>zdg b p (zi c.2.1) 0 [] 0 [] (zy c.1) [] [])else(zaE [59] (zi d.2.1)).bind λe=>if(!e.1)=true then(b.zZ (zi e.2.1)).bind λq=>(match q with| .inl f=>(zgU (zy f.1)).bind λr=>zdg b r.1 (zi f.2.1) 0 [] 0 [] (zy f.1) [] []| .inr i=>some (.inl (i.1,(zi i.2.1),())))else zdg b false (zi e.2.1) 0 [] 0 [] ⟨42,[],0,[],[],[]⟩ [] [])
def zss(b:zf):=callee Y [] zrU zkl (λz=>zfl b z.1)
def zrX(b:zf):zaf Y (zY Y zkl):=(.join [[1,2,2,2,2,2],[2,2,2,2,2,2]] ⟨[(0,.ptr 0 0),(2,.ptr 1 0),(3,.ptr 2 0),(4,.bool)],zA2⟩ (u9 (zdg b)) (.join [[1,2,2,2,2,2,2],[2,2,2,2,2,2,2]] ⟨[(0,.ptr 0 0),(2,.ptr 1 0),(3,.ptr 2 0),(4,.bool)],zA2⟩ (u9 (zgF b)) (.join [[1,1,2,2,2,2,2,2,2],[2,1,2,2,2,2,2,2,2],[2,2,2,2,2,2,2,2]] ⟨[(0,.ptr 0 0),(2,.ptr 1 0),(4,.bool),(5,.ptr 2 0)],zfs⟩ (u14 (zc9 b)) (.join [[1,3,2,1,2,2,2,2,2,2,2],[2,3,2,1,2,2,2,2,2,2,2],[2,2,2,2,2,2,2,2]] ⟨[(0,.ptr 0 0),(2,.ptr 1 0),(5,.ptr 2 0)],zfs⟩ (u13 (zgx b)) (.join [[1,2,3,2,1,2,2,2,2,2,2,2],[2,2,3,2,1,2,2,2,2,2,2,2],[2,2,2,2,2,2,2,2]] ⟨[(0,.ptr 0 0),(2,.ptr 1 0),(5,.ptr 2 0)],zfs⟩ (u13 (zgC b)) (.join [[1,2,2,3,2,1,2,2,2,2,2,2,2],[2,2,2,3,2,1,2,2,2,2,2,2,2],[2,2,2,2,2,2,2,2]] ⟨[(0,.ptr 0 0),(2,.ptr 1 0),(5,.ptr 2 0),(6,.ptr 3 0)],om8⟩ (u14 (zgH b)) (.join [[2,2,2,3,2,1,2,2,2,2,2,2,2],[2,2,2,2,2,2,2,2]] ⟨[(0,.ptr 0 0),(2,.ptr 1 0),(5,.ptr 2 0)],zfs⟩ (u13 (zgD b)) (.join [[1,4,2,1,2,2,2,2,2,2,2],[2,4,2,1,2,2,2,2,2,2,2],[2,2,2,2,2,2,2,2]] ⟨[(0,.ptr 0 0),(2,.ptr 1 0),(5,.ptr 2 0)],zfs⟩ (u13 (zdj b)) (.join [[1,2,4,2,1,2,2,2,2,2,2,2],[2,2,4,2,1,2,2,2,2,2,2,2],[2,2,2,2,2,2,2,2]] ⟨[(0,.ptr 0 0),(2,.ptr 1 0),(5,.ptr 2 0)],zfs⟩ (u13 (zgP b)) (.join [[1,2,2,4,2,1,2,2,2,2,2,2,2],[2,2,2,4,2,1,2,2,2,2,2,2,2],[2,2,2,2,2,2,2,2]] ⟨[(0,.ptr 0 0),(2,.ptr 1 0),(5,.ptr 2 0),(7,.ptr 3 0)],om8⟩ (u14 (zgk b)) (.join [[2,2,2,4,2,1,2,2,2,2,2,2,2],[2,2,2,2,2,2,2,2]] ⟨[(0,.ptr 0 0),(2,.ptr 1 0),(5,.ptr 2 0),(7,.ptr 3 0),(8,.ptr 4 0)],[.whole 48 48,oc0 5 6,oc0 7 8,.whole 25 25,.whole 25 25,.arr 9,.arr 25,.arr 9,.arr 25]⟩ (u15 (zf9 b)) (.join [[1,2,2,2,2,2,2,2,2],[2,2,2,2,2,2,2,2,2]] ⟨[(0,.ptr 0 0),(2,.ptr 1 0),(5,.ptr 2 0)],zfs⟩ (u13 (zc1 b)) .nil))))))))))))
theorem zoS(d:zf)(b:zA d):K8 88 (zss d):=f8 (zrX d) Tryz.func88 (.cons zan (.cons zah (.cons b.zbC (.cons zbt (.cons b.zZ (.cons zmI (.cons b.zbH (.cons b.zaP .nil)))))))) ⟨λz=>by kernel_rfl,⟨λz=>by kernel_rfl,⟨λz=>by kernel_rfl,⟨λz=>by kernel_rfl,⟨λz=>by kernel_rfl,⟨λz=>by kernel_rfl,⟨λz=>by kernel_rfl,⟨λz=>by kernel_rfl,⟨λz=>by kernel_rfl,⟨λz=>by kernel_rfl,⟨λz=>by kernel_rfl,⟨λz=>by kernel_rfl,⟨⟩⟩⟩⟩⟩⟩⟩⟩⟩⟩⟩⟩⟩
def zev(i:zf)(s:Str)(x:zh):zfY:=(zG s (zi x)).bind λa=>if a.1=true then some (.inl (⟨42,[],0,[],[],[]⟩,(zi a.2.1),()))else(i.zZ (zi a.2.1)).bind λe=>(match e with| .inl b=>(zT s (zi b.2.1)).bind λf=>(match f with| .inl c=>some (.inr (c.1,(zi c.2.1),()))| .inr g=>some (.inl ((zy b.1),(zi g.1),())))| .inr d=>some (.inr (d.1,(zi d.2.1),())))
def zqE(b:zf):=callee Y [] zt0 zgc (u2 (zev b))
theorem znL(b:zf)(d:zA b):K8 135 (zqE b):=f8 zpA Tryz.func135 (.cons zah (.cons d.zZ (.cons zan .nil))) trivial
def zeH(o:zf)(a:zh)(h:Int)(i:Str)(j:Int)(k:Str)(b:Int)(c:Str)(d:Int)(e:Str)(l:List Str)(m:List zg)(f:List Str)(g:List zg):zaF:=some (.inr (⟨b,c,d,e,f,g⟩,(zi a),()))
def zhf(q:zf)(c:Bool)(a:zh)(d:Int)(e:Str)(f:Int)(g:Str)(h:Int)(i:Str)(j:Int)(k:Str)(l:List Str)(m:List zg)(n:List Str)(o:List zg):zaF:=if(!c)=true then(zas (zi a)).bind λb=>some (.inl (b.1,(zi b.2.1),()))else zeH q (zi a) d e f g h i j k l m n o
def zhs(e:zf)(f:zh)(g:Int)(h:Str)(i:Int)(j:Str)(k:Int)(l:Str)(m:Int)(n:Str)(o:List Str)(p:List zg)(q:List Str)(a:List zg):zaF:=(e.za4 (zi f)).bind λr=>(match r with| .inl b=>some (.inl (b.1,(zi b.2.1),()))| .inr c=>(zQ a 2).bind λ_=>(zQ a 2).bind λt=>let s:=a.set (2:Int).toNat (zy c.1);zeH e (zi c.2.1) g h i j k l m n o p q s)
def zdM(o:zf)(p:Bool)(q:zh)(b:Int)(c:Str)(d:Int)(e:Str)(f:Int)(g:Str)(h:Int)(i:Str)(j:List Str)(k:List zg)(l:List Str)(m:List zg):zaF:=(zG [102,105,110,97,108,108,121] (zi q)).bind λa=>if a.1=true then zhs o (zi a.2.1) b c d e f g h i j k l m else zhf o p (zi a.2.1) b c d e f g h i j k l m
def zhb(e:zf)(f:Bool)(g:zh)(h:Int)(i:Str)(j:Int)(k:Str)(l:Int)(m:Str)(n:Int)(o:Str)(p:List Str)(q:List zg)(r:List Str)(a:List zg):zaF:=(e.za4 (zi g)).bind λs=>(match s with| .inl b=>some (.inl (b.1,(zi b.2.1),()))| .inr c=>(zQ a 1).bind λ_=>(zQ a 1).bind λu=>let t:=a.set (1:Int).toNat (zy c.1);zdM e f (zi c.2.1) h i j k l m n o p q r t)
def zhq(s:zf)(b:Bool)(c:zh)(d:Int)(e:Str)(f:Int)(g:Str)(h:Int)(i:Str)(j:Int)(k:Str)(l:List Str)(m:List zg)(n:List Str)(o:List zg):zaF:=(zT [41] (zi c)).bind λp=>(match p with| .inl a=>some (.inl (a.1,(zi a.2.1),()))| .inr q=>zhb s b (zi q.1) d e f g h i j k l m n o)
def zhp(r:zf)(c:Bool)(d:zh)(e:Int)(f:Str)(g:Int)(h:Str)(i:Int)(s:Str)(j:Int)(k:Str)(l:List Str)(m:List zg)(n:List Str)(o:List zg):zaF:=(zb2 (zi d)).bind λp=>(match p with| .inl a=>some (.inl (a.1,(zi a.2.1),()))| .inr b=>zhq r c (zi b.2.1) e f g h i b.1 j k l m n o)
def zhc(s:zf)(b:Bool)(c:zh)(d:Int)(e:Str)(f:Int)(g:Str)(h:Int)(i:Str)(j:Int)(k:Str)(l:List Str)(m:List zg)(n:List Str)(o:List zg):zaF:=(zT [40] (zi c)).bind λp=>(match p with| .inl a=>some (.inl (a.1,(zi a.2.1),()))| .inr q=>zhp s b (zi q.1) d e f g h i j k l m n o)
def zhg(p:zf)(a:Bool)(b:zh)(c:Int)(d:Str)(e:Int)(f:Str)(g:Int)(h:Str)(i:Int)(j:Str)(k:List Str)(l:List zg)(m:List Str)(n:List zg):zaF:=if a=true then zhc p a (zi b) c d e f g h i j k l m n else zdM p a (zi b) c d e f g h i j k l m n
def zfa(p:zf)(b:zh)(c:Int)(d:Str)(e:Int)(f:Str)(g:Int)(h:Str)(i:Int)(j:Str)(k:List Str)(l:List zg)(m:List Str)(n:List zg):zaF:=(zG [99,97,116,99,104] (zi b)).bind λa=>zhg p a.1 (zi a.2.1) c d e f g h i j k l m n
def zfM(b:zf)(x:zh):zaF:=fk ((b.za4 (zi x)).bind λg=>(match g with| .inl c=>some (.inl (c.1,(zi c.2.1),()))| .inr d=>fd (zfa b (zi d.2.1) 0 [] 0 [] 35 [] 0 [] [] [] [] [(zy d.1),⟨42,[],0,[],[],[]⟩,⟨42,[],0,[],[],[]⟩]))) ((b.za4 (zi x)).bind λh=>(match h with| .inl e=>some (.inl (e.1,(zi e.2.1),()))| .inr f=>zfa b (zi f.2.1) 0 [] 0 [] 35 [] 0 [] [] [] [] [(zy f.1),⟨42,[],0,[],[],[]⟩,⟨42,[],0,[],[],[]⟩]))
def zsX(b:zf):=callee Y [] zrU zkl (λz=>zfM b z.1)
def ztr(b:zf):zaf Y (zY Y zkl):=(.join [[1,2,2,2],[2,2,2,2]] ⟨[(0,.ptr 0 0),(2,.ptr 1 0),(4,.ptr 2 0)],zfs⟩ (u13 (zfa b)) (.join [[1,1,2,2,2,2],[2,1,2,2,2,2],[2,2,2,2,2]] ⟨[(0,.ptr 0 0),(2,.ptr 1 0),(4,.ptr 2 0),(5,.bool)],zfs⟩ (u14 (zhg b)) (.join [[1,3,2,1,2,2,2,2],[2,3,2,1,2,2,2,2],[2,2,2,2,2]] ⟨[(0,.ptr 0 0),(2,.ptr 1 0),(4,.ptr 2 0),(5,.bool)],zfs⟩ (u14 (zhc b)) (.join [[1,2,3,2,1,2,2,2,2],[2,2,3,2,1,2,2,2,2],[2,2,2,2,2]] ⟨[(0,.ptr 0 0),(2,.ptr 1 0),(4,.ptr 2 0),(5,.bool)],zfs⟩ (u14 (zhp b)) (.join [[1,2,2,3,2,1,2,2,2,2],[2,2,2,3,2,1,2,2,2,2],[2,2,2,2,2]] ⟨[(0,.ptr 0 0),(2,.ptr 1 0),(4,.ptr 2 0),(5,.bool)],zfs⟩ (u14 (zhq b)) (.join [[2,2,2,3,2,1,2,2,2,2],[2,2,2,2,2]] ⟨[(0,.ptr 0 0),(2,.ptr 1 0),(4,.ptr 2 0),(5,.bool)],zfs⟩ (u14 (zhb b)) (.join [[1,1,2,2,2,2,2],[2,1,2,2,2,2,2],[2,2,2,2,2,2]] ⟨[(0,.ptr 0 0),(2,.ptr 1 0),(4,.ptr 2 0),(5,.bool)],zfs⟩ (u14 (zdM b)) (.join [[3,2,1,2,2,2,2,2],[2,2,2,2,2,2]] ⟨[(0,.ptr 0 0),(2,.ptr 1 0),(4,.ptr 2 0)],zfs⟩ (u13 (zhs b)) (.join [[1,4,2,1,2,2,2,2,2],[2,4,2,1,2,2,2,2,2],[2,2,2,2,2,2]] ⟨[(0,.ptr 0 0),(2,.ptr 1 0),(4,.ptr 2 0),(5,.bool)],zfs⟩ (u14 (zhf b)) (.join [[1,2,2,2,2,2,2],[2,2,2,2,2,2,2]] ⟨[(2,.ptr 1 0),(4,.ptr 2 0)],zfs⟩ (u13 (zeH b)) .nil))))))))))
theorem zpt(b:zf)(d:zA b):K8 92 (zsX b):=f8 (ztr b) Tryz.func92 (.cons d.za4 (.cons zah (.cons zan (.cons zdm (.cons zax .nil))))) ⟨λz=>by kernel_rfl,⟨λz=>by kernel_rfl,⟨λz=>by kernel_rfl,⟨λz=>by kernel_rfl,⟨λz=>by kernel_rfl,⟨λz=>by kernel_rfl,⟨λz=>by kernel_rfl,⟨λz=>by kernel_rfl,⟨λz=>by kernel_rfl,⟨λz=>by kernel_rfl,⟨⟩⟩⟩⟩⟩⟩⟩⟩⟩⟩⟩
def zc2(H:zf):Bool×zh×Int×Str×Int×Str×Int×Str×Int×Str×Int×Str×Int×Str×(List Str)×(List zg)×(List Str)×(List zg)×(List Str)×(List zg)×Unit->Option ((Bool×zh×Int×Str×Int×Str×Int×Str×Int×Str×Int×Str×Int×Str×(List Str)×(List zg)×(List Str)×(List zg)×(List Str)×(List zg)×Unit)⊕((Bool×zh×Int×Str×Int×Str×Int×Str×Int×Str×(List Str)×(List zg)×(List Str)×(List zg)×Unit)⊕((zU×zh×Unit)⊕(zg×zh×Unit))))| (j,y,k,l,m,n,o,p,q,r,c,d,e,f,s,u,v,g,h,a,())=>(zaR [32,99,97,115,101,32,100,101,102,97,117,108,116,32,125,32] (zi y)).bind λb=>(if(!b.1)=true then(zQ b.2.1.t 0).bind λz=>some (z.Kind !=0)else some false).bind λA=>if A=true then(H.za1 (zi b.2.1)).bind λB=>(match B with| .inl x=>some (.inr (.inr (.inl (x.1,(zi x.2.1),()))))| .inr i=>(room (a.length+([(zy i.1)]:List zg).length)).bind λ_=>let C:=a++[(zy i.1)];some (.inl (j,(zi i.2.1),k,l,m,n,o,p,q,r,c,d,e,f,s,u,v,g,h,C,())))else(room (g.length+([⟨c,d,e,f,h,a⟩]:List zg).length)).bind λ_=>let D:=g++[⟨c,d,e,f,h,a⟩];some (.inr (.inl (j,(zi b.2.1),k,l,m,n,o,p,q,r,s,u,v,D,())))
def zcX(z:zf)(b:Bool)(c:zh)(d:Int)(e:Str)(f:Int)(g:Str)(h:Int)(i:Str)(j:Int)(k:Str)(l:Int)(m:Str)(n:Int)(o:Str)(p:List Str)(q:List zg)(r:List Str)(s:List zg)(t:List Str)(u:List zg):OT1:=(zT [58] (zi c)).bind λv=>(match v with| .inl a=>some (.inr (.inl (a.1,(zi a.2.1),())))| .inr x=>Lp.loop (zc2 z) (b,(zi x.1),d,e,f,g,h,i,j,k,l,m,n,o,p,q,r,s,t,u,()))
def zgq(e:zf)(f:Bool)(g:zh)(h:Int)(i:Str)(j:Int)(k:Str)(l:Int)(m:Str)(n:Int)(o:Str)(p:Int)(q:Str)(r:Int)(s:Str)(t:List Str)(u:List zg)(v:List Str)(x:List zg)(y:List Str)(a:List zg):OT1:=(e.zZ (zi g)).bind λz=>(match z with| .inl b=>(zQ a 0).bind λ_=>(zQ a 0).bind λB=>let A:=a.set (0:Int).toNat (zy b.1);zcX e f (zi b.2.1) h i j k l m n o p q r s t u v x y A| .inr c=>some (.inr (.inl (c.1,(zi c.2.1),()))))
def zcY(z:zf)(b:Bool)(c:zh)(d:Int)(e:Str)(f:Int)(g:Str)(h:Int)(i:Str)(j:Int)(k:Str)(l:Int)(m:Str)(n:Int)(o:Str)(p:List Str)(q:List zg)(r:List Str)(s:List zg)(t:List Str)(u:List zg):OT1:=(zT [99,97,115,101] (zi c)).bind λv=>(match v with| .inl a=>some (.inr (.inl (a.1,(zi a.2.1),())))| .inr x=>zgq z b (zi x.1) d e f g h i j k l m n o p q r s t u)
def zcU(q:zf):Bool×zh×Int×Str×Int×Str×Int×Str×Int×Str×(List Str)×(List zg)×(List Str)×(List zg)×Unit->OT1| (h,r,i,j,k,l,a,b,c,d,m,n,e,f,())=>(zG [125] (zi r)).bind λg=>if(!g.1)=true then if h=true then(zG [100,101,102,97,117,108,116] (zi g.2.1)).bind λo=>if o.1=true then zcX q false (zi o.2.1) i j k l a b c d 37 [] 0 [] m n e f [] [⟨42,[],0,[],[],[]⟩]else zcY q h (zi o.2.1) i j k l a b c d 37 [] 0 [] m n e f [] [⟨42,[],0,[],[],[]⟩]else zcY q h (zi g.2.1) i j k l a b c d 37 [] 0 [] m n e f [] [⟨42,[],0,[],[],[]⟩]else some (.inr (.inr (⟨a,b,c,d,e,f⟩,(zi g.2.1),())))
def zeA(e:zf)(x:zh):zaF:=(e.za8 (zi x)).bind λf=>(match f with| .inl a=>some (.inl (a.1,(zi a.2.1),()))| .inr b=>(zT [123] (zi b.2.1)).bind λg=>(match g with| .inl c=>some (.inl (c.1,(zi c.2.1),()))| .inr h=>Lp.loop (zcU e) (true,(zi h.1),0,[],0,[],36,[],0,[],[],[],[],[(zy b.1)],())))
def zqO(b:zf):=callee Y [] zrU zkl (λz=>zeA b z.1)
def zq1(b:zf):zaf Y (zY Y zkl):=(.loop [[7,5,1,2,2,2,2],[8,5,1,2,2,2,2],[6,1,2,2,2,2],[2,2,2,2,2]] ⟨[(0,.ptr 0 0),(2,.ptr 1 0),(3,.ptr 2 0),(4,.bool)],zfs⟩ (zcU b) (.join [[1,4,2,1,2,5,2,7,5,1,2,2,2,2],[2,4,2,1,2,5,2,7,5,1,2,2,2,2],[2,2,5,2,7,5,1,2,2,2,2],[6,2,7,5,1,2,2,2,2],[8,5,1,2,2,2,2],[6,1,2,2,2,2],[2,2,2,2,2]] ⟨[(0,.ptr 0 0),(2,.ptr 1 0),(3,.ptr 2 0),(4,.bool),(5,.ptr 3 0)],om6⟩ (u20 (zcY b)) (.join [[2,4,2,1,2,5,2,7,5,1,2,2,2,2],[2,2,5,2,7,5,1,2,2,2,2],[6,2,7,5,1,2,2,2,2],[8,5,1,2,2,2,2],[6,1,2,2,2,2],[2,2,2,2,2]] ⟨[(0,.ptr 0 0),(2,.ptr 1 0),(3,.ptr 2 0),(4,.bool),(5,.ptr 3 0)],om6⟩ (u20 (zgq b)) (.join [[1,2,2,5,2,7,5,1,2,2,2,2],[2,2,2,5,2,7,5,1,2,2,2,2],[6,2,7,5,1,2,2,2,2],[8,5,1,2,2,2,2],[6,1,2,2,2,2],[2,2,2,2,2]] ⟨[(0,.ptr 0 0),(2,.ptr 1 0),(3,.ptr 2 0),(4,.bool),(5,.ptr 3 0)],om6⟩ (u20 (zcX b)) (.loop [[7,5,1,2,2,2,5,2,7,5,1,2,2,2,2],[8,5,1,2,2,2,5,2,7,5,1,2,2,2,2],[6,1,2,2,2,5,2,7,5,1,2,2,2,2],[2,2,2,2,5,2,7,5,1,2,2,2,2],[6,2,7,5,1,2,2,2,2],[8,5,1,2,2,2,2],[6,1,2,2,2,2],[2,2,2,2,2]] ⟨[(0,.ptr 0 0),(2,.ptr 1 0),(3,.ptr 2 0),(4,.bool),(5,.ptr 3 0)],om6⟩ (zc2 b) .nil .nil)))) .nil)
theorem znB(c:zf)(d:zA c):K8 93 (zqO c):=f8 (zq1 c) Tryz.func93 (.cons d.za8 (.cons zan (.cons zah (.cons zea (.cons d.za1 (.cons d.zZ .nil)))))) ⟨λz=>by kernel_rfl,⟨λz=>by kernel_rfl,⟨λz=>by kernel_rfl,⟨λz=>by kernel_rfl,⟨λz=>by kernel_rfl,trivial,trivial⟩⟩⟩⟩,trivial⟩
def zk:Nat->zf
 |0=>⟨λ_ _ _=>none,λ_ _=>none,λ_ _ _ _ _ _ _=>none,λ_ _ _ _ _ _ _=>none,λ_=>none,λ_=>none,λ_=>none,λ_=>none,λ_ _=>none,λ_=>none,λ_=>none,λ_=>none,λ_=>none,λ_ _ _ _ _ _ _=>none,λ_ _ _ _ _ _ _=>none,λ_=>none,λ_ _ _=>none,λ_ _ _ _=>none,λ_ _ _ _=>none,λ_ _ _ _=>none,λ_ _=>none,λ_ _ _ _ _ _ _ _ _=>none,λ_ _ _ _ _ _ _ _ _=>none,λ_ _ _ _ _ _ _ _ _=>none,λ_ _ _ _ _ _ _=>none,λ_ _ _=>none,λ_ _ _ _ _ _ _=>none,λ_ _ _ _ _ _ _=>none,λ_ _ _ _ _ _ _=>none,λ_ _ _ _ _ _ _=>none,λ_=>none,λ_=>none,λ_=>none,λ_=>none,λ_ _=>none,λ_=>none,λ_=>none⟩
 |n+1=>⟨zeI (zk n),zdF (zk n),zdr (zk n),zc5 (zk n),zfg (zk n),zeD (zk n),zfj (zk n),zd9 (zk n),zec (zk n),zeC (zk n),zfn (zk n),zdU (zk n),zfo (zk n),zdd (zk n),zd7 (zk n),zfh (zk n),zeK (zk n),zcK (zk n),zda (zk n),zdn (zk n),zd2 (zk n),zdY (zk n),zdt (zk n),zdo (zk n),zd8 (zk n),zdX (zk n),zdq (zk n),zc7 (zk n),zdk (zk n),zdD (zk n),zed (zk n),ze6 (zk n),ze8 (zk n),zfl (zk n),zev (zk n),zfM (zk n),zeA (zk n)⟩
theorem zu: ∀n,zA (zk n)
 |0=>⟨COk.none ⟨⟨_,Tryz.func20,by kernel_rfl,rfl⟩⟩,COk.none ⟨⟨_,Tryz.func37,by kernel_rfl,rfl⟩⟩,COk.none ⟨⟨_,Tryz.func80,by kernel_rfl,rfl⟩⟩,COk.none ⟨⟨_,Tryz.func81,by kernel_rfl,rfl⟩⟩,COk.none ⟨⟨_,Tryz.func38,by kernel_rfl,rfl⟩⟩,COk.none ⟨⟨_,Tryz.func82,by kernel_rfl,rfl⟩⟩,COk.none ⟨⟨_,Tryz.func83,by kernel_rfl,rfl⟩⟩,COk.none ⟨⟨_,Tryz.func134,by kernel_rfl,rfl⟩⟩,COk.none ⟨⟨_,Tryz.func166,by kernel_rfl,rfl⟩⟩,COk.none ⟨⟨_,Tryz.func189,by kernel_rfl,rfl⟩⟩,COk.none ⟨⟨_,Tryz.func211,by kernel_rfl,rfl⟩⟩,COk.none ⟨⟨_,Tryz.func224,by kernel_rfl,rfl⟩⟩,COk.none ⟨⟨_,Tryz.func237,by kernel_rfl,rfl⟩⟩,COk.none ⟨⟨_,Tryz.func80,by kernel_rfl,rfl⟩⟩,COk.none ⟨⟨_,Tryz.func241,by kernel_rfl,rfl⟩⟩,COk.none ⟨⟨_,Tryz.func91,by kernel_rfl,rfl⟩⟩,COk.none ⟨⟨_,Tryz.func223,by kernel_rfl,rfl⟩⟩,COk.none ⟨⟨_,Tryz.func78,by kernel_rfl,rfl⟩⟩,COk.none ⟨⟨_,Tryz.func80,by kernel_rfl,rfl⟩⟩,COk.none ⟨⟨_,Tryz.func133,by kernel_rfl,rfl⟩⟩,COk.none ⟨⟨_,Tryz.func236,by kernel_rfl,rfl⟩⟩,COk.none ⟨⟨_,Tryz.func78,by kernel_rfl,rfl⟩⟩,COk.none ⟨⟨_,Tryz.func80,by kernel_rfl,rfl⟩⟩,COk.none ⟨⟨_,Tryz.func133,by kernel_rfl,rfl⟩⟩,COk.none ⟨⟨_,Tryz.func242,by kernel_rfl,rfl⟩⟩,COk.none ⟨⟨_,Tryz.func210,by kernel_rfl,rfl⟩⟩,COk.none ⟨⟨_,Tryz.func80,by kernel_rfl,rfl⟩⟩,COk.none ⟨⟨_,Tryz.func222,by kernel_rfl,rfl⟩⟩,COk.none ⟨⟨_,Tryz.func80,by kernel_rfl,rfl⟩⟩,COk.none ⟨⟨_,Tryz.func167,by kernel_rfl,rfl⟩⟩,COk.none ⟨⟨_,Tryz.func85,by kernel_rfl,rfl⟩⟩,COk.none ⟨⟨_,Tryz.func86,by kernel_rfl,rfl⟩⟩,COk.none ⟨⟨_,Tryz.func87,by kernel_rfl,rfl⟩⟩,COk.none ⟨⟨_,Tryz.func88,by kernel_rfl,rfl⟩⟩,COk.none ⟨⟨_,Tryz.func135,by kernel_rfl,rfl⟩⟩,COk.none ⟨⟨_,Tryz.func92,by kernel_rfl,rfl⟩⟩,COk.none ⟨⟨_,Tryz.func93,by kernel_rfl,rfl⟩⟩⟩
 |n+1=>⟨znE _ (zu n),zlV _ (zu n),zlC _ (zu n),zkR _ (zu n),zot _ (zu n),znN _ (zu n),zoo _ (zu n),zmB _ (zu n),zmZ _ (zu n),znG _ (zu n),zov _ (zu n),zmn _ (zu n),zod _ (zu n),zlk _ (zu n),znw _ (zu n),zoJ _ (zu n),zny _ (zu n),zl5 _ (zu n),zly _ (zu n),zlM _ (zu n),zl7 _ (zu n),zmj _ (zu n),zlP _ (zu n),zlE _ (zu n),zmR _ (zu n),zmo _ (zu n),zlw _ (zu n),zlA _ (zu n),zlL _ (zu n),zlR _ (zu n),zm6 _ (zu n),zor _ (zu n),zo2 _ (zu n),zoS _ (zu n),znL _ (zu n),zpt _ (zu n),znB _ (zu n)⟩
def zaQ:Bool->Str->zh->zwn:=(zk Lp.big).zaQ
theorem zpP:K8 20 (zeB (zk Lp.big)):=(zu Lp.big).zaQ
def zbe:Int->zh->zaF:=(zk Lp.big).zbe
def zbA:zh->Int->Str->Int->Str->(List Str)->(List zg)->OT4:=(zk Lp.big).zbA
def zbK:zh->Int->Str->Int->Str->(List Str)->(List zg)->OT4:=(zk Lp.big).zbK
def za1:zh->zaF:=(zk Lp.big).za1
def za4:zh->zaF:=(zk Lp.big).za4
def zbC:zh->zaF:=(zk Lp.big).zbC
def zae:zh->zfY:=(zk Lp.big).zae
def zbp:Int->zh->zaF:=(zk Lp.big).zbp
def zbl:zh->zfY:=(zk Lp.big).zbl
def zbD:zh->zfY:=(zk Lp.big).zbD
def zbM:zh->zfY:=(zk Lp.big).zbM
def zcu:zh->zfY:=(zk Lp.big).zcu
def zby:zh->Int->Str->Int->Str->(List Str)->(List zg)->OT6:=(zk Lp.big).zby
def zcE:zh->Int->Str->Int->Str->(List Str)->(List zg)->OT6:=(zk Lp.big).zcE
def zZ:zh->zfY:=(zk Lp.big).zZ
def za3:Str->Bool->zh->zwn:=(zk Lp.big).za3
def zcp:Str->Bool->zh->(List zg)->zwb:=(zk Lp.big).zcp
def zbW:zh->Str->(List zg)->Bool->OT8:=(zk Lp.big).zbW
def zbZ:zh->Str->(List zg)->Bool->OT8:=(zk Lp.big).zbZ
def zbO:zh->(List zg)->zwb:=(zk Lp.big).zbO
def zbQ:Str->Bool->zh->Int->Str->Int->Str->(List Str)->(List zg)->OT5:=(zk Lp.big).zbQ
def zbX:zh->Str->Int->Str->Int->Str->(List Str)->(List zg)->Bool->OT3:=(zk Lp.big).zbX
def zbV:zh->Str->Int->Str->Int->Str->(List Str)->(List zg)->Bool->OT3:=(zk Lp.big).zbV
def zb4:zh->Int->Str->Int->Str->(List Str)->(List zg)->OT5:=(zk Lp.big).zb4
def zbi:zg->Bool->zh->zaF:=(zk Lp.big).zbi
def zbw:zh->Int->Str->Int->Str->(List Str)->(List zg)->OT6:=(zk Lp.big).zbw
def zb1:zh->Int->Str->Int->Str->(List Str)->(List zg)->OT6:=(zk Lp.big).zb1
def zbx:zh->Int->Str->Int->Str->(List Str)->(List zg)->OT6:=(zk Lp.big).zbx
def zcf:zh->Int->Str->Int->Str->(List Str)->(List zg)->OT6:=(zk Lp.big).zcf
def zb3:zh->zaF:=(zk Lp.big).zb3
def za8:zh->zaF:=(zk Lp.big).za8
def zaP:zh->zaF:=(zk Lp.big).zaP
def zcv:zh->zaF:=(zk Lp.big).zcv
def zbH:Str->zh->zfY:=(zk Lp.big).zbH
def zcR:zh->zaF:=(zk Lp.big).zcR
def zcg:zh->zaF:=(zk Lp.big).zcg
structure zcQ where
 zdy:zg->Option (Int×Unit)
def zk7(b:zcQ):=callee Y [] zvB zs8 (λz=>b.zdy z.1)
structure zmP (g_:zcQ):Prop where
 zdy:COk hY Tryz.prog zao 22 (zk7 g_)
def zgr(k:zcQ):Int×(List zg)×Int×Int×Unit->Option ((Int×(List zg)×Int×Int×Unit)⊕(Int×Unit))| (a,c,d,b,())=>if(decide (b<d))=true then(zQ c b).bind λf=>(k.zdy (zy f)).bind λe=>let g:=(if e.1>a then e.1 else a);let h:=(IntKind.wrap .i64 (b+1));some (.inl (g,c,d,h,()))else let i:=(IntKind.wrap .i64 (a+1));some (.inr (i,()))
def zlh(b:zcQ)(n:zg):Option (Int×Unit):=Lp.loop (zgr b) (0,n.L,((n.L.length:Nat):Int),0,())
def zzM(b:zcQ):=callee Y [] zvB zs8 (λz=>zlh b z.1)
def zzO(b:zcQ):zaf Y (zY Y zs8):=(.loop [[7,5,2,1,2,2],[8,5,2,1,2,2],[6,2,1,2,2],[2,2,2]] ⟨[(3,.int .i64),(7,.sl 25),(8,.int .i64),(9,.int .i64)],[]⟩ (zgr b) .nil .nil)
theorem zwd(b:zcQ)(d:zmP b):K8 22 (zzM b):=f8 (zzO b) Tryz.func22 (.cons d.zdy .nil) ⟨λz=>by kernel_rfl,trivial,trivial⟩
def zca:Nat->zcQ
 |0=>⟨λ_=>none⟩
 |n+1=>⟨zlh (zca n)⟩
theorem zl3: ∀n,zmP (zca n)
 |0=>⟨COk.none ⟨⟨_,Tryz.func22,by kernel_rfl,rfl⟩⟩⟩
 |n+1=>⟨zwd _ (zl3 n)⟩
def zdy:zg->Option (Int×Unit):=(zca Lp.big).zdy
theorem zyg:K8 22 (zk7 (zca Lp.big)):=(zl3 Lp.big).zdy
def zaA(l:Str):Option (zg×Int×Int×Unit):=(zoc l).bind λa=>if(a.2.2.1 !=0)=true then fk (fk (fk (some (⟨0,[],0,[],[],[]⟩,a.2.1,a.2.2.1,())) (fd (some (⟨0,[],0,[],[],[]⟩,a.2.1,a.2.2.1,())))) (fk (fd (some (⟨0,[],0,[],[],[]⟩,a.2.1,a.2.2.1,()))) (fk (fd (some (⟨0,[],0,[],[],[]⟩,a.2.1,a.2.2.1,()))) (some (⟨0,[],0,[],[],[]⟩,a.2.1,a.2.2.1,()))))) (fk (fk (fk (some (⟨0,[],0,[],[],[]⟩,a.2.1,a.2.2.1,())) (fd (some (⟨0,[],0,[],[],[]⟩,a.2.1,a.2.2.1,())))) (some (⟨0,[],0,[],[],[]⟩,a.2.1,a.2.2.1,()))) (fk (fd (some (⟨0,[],0,[],[],[]⟩,a.2.1,a.2.2.1,()))) (some (⟨0,[],0,[],[],[]⟩,a.2.1,a.2.2.1,()))))else(zaQ true [125] ⟨a.1,false⟩).bind λi=>(match i with| .inl b=>(zQ b.2.1.t 0).bind λj=>if(j.Kind !=0)=true then(zas (zi b.2.1)).bind λc=>if((c.1).isNil)=true then some (⟨41,[],0,[],[],b.1⟩,a.2.1,a.2.2.1,())else(zmA 45 c.1).bind λe=>if e.2=true then some (⟨0,[],0,[],[],[]⟩,e.1,80,())else zv4 c.1 λ_=>none else(zdy ⟨41,[],0,[],[],b.1⟩).bind λk=>if(decide (k.1>64))=true then if((zU.nil).isNil)=true then some (⟨0,[],0,[],[],[]⟩,0,31,())else(zmA 45 zU.nil).bind λf=>if f.2=true then some (⟨0,[],0,[],[],[]⟩,f.1,80,())else zv4 zU.nil λ_=>none else if((zU.nil).isNil)=true then some (⟨41,[],0,[],[],b.1⟩,0,0,())else(zmA 45 zU.nil).bind λg=>if g.2=true then some (⟨0,[],0,[],[],[]⟩,g.1,80,())else zv4 zU.nil λ_=>none| .inr d=>if((d.1).isNil)=true then some (⟨0,[],0,[],[],[]⟩,a.2.1,a.2.2.1,())else(zmA 45 d.1).bind λh=>if h.2=true then some (⟨0,[],0,[],[],[]⟩,h.1,80,())else zv4 d.1 λ_=>none)
def zvl:List zW:=[⟨false,.tup [.st 25,.int .i64,.int .i64],[]⟩]
def zva:=callee Y [] zzN zvl (λz=>zaA z.1)
theorem zmX:K8 9 zva:=
 zH7 (body:=(Tryz.f9.body).getD .skip) (gfn:=Tryz.f19) (T:=[(18,(zoG)),(20,(zeB (zk Lp.big))),(21,(zdG)),(22,(zk7 (zca Lp.big)))]) [[1,2,2,2],[2,2,2,2]] Tryz.func9 (by kernel_rfl) ⟨⟨_,Tryz.func9,by kernel_rfl,rfl⟩⟩ Tryz.func19 ⟨⟨_,Tryz.func19,by kernel_rfl,rfl⟩⟩ hsz ((.cons zzc (.cons zpP (.cons zax (.cons zyg .nil)))):zbU hY Tryz.prog zao [(18,(zoG)),(20,(zeB (zk Lp.big))),(21,(zdG)),(22,(zk7 (zca Lp.big)))]) (λ_ _ hle h=>h.mono hle) (by kernel_rfl)
  (λz=>by kernel_rfl)
def zfJ:Option (Bool×Unit):=(zaA [97,32,61,32,98,10,43,43,99]).bind λb=>(zaA [114,101,116,117,114,110,10,97]).bind λa=>(zaA [49,32,61,32,50]).bind λc=>let d:=((b.2.2.1==0)&&(((b.1.L.length:Nat):Int)==2));let e:=((d&&(a.2.2.1==0))&&(((a.1.L.length:Nat):Int)==2));(if e=true then(zQ a.1.L 0).bind λf=>let g:=((f.L.length:Nat):Int);some (g==0)else some false).bind λh=>let i:=((h&&(c.2.1==2))&&(c.2.2.1==80));some (i,())
def zql:Shape:=⟨[],[]⟩
def zqY:=callee Y [] zql zrK (λz=>zfJ)
theorem zpL:K8 11 (zqY):=f8 zwy Tryz.func11 (.cons zmX .nil) trivial
def zN(n:zg):Option (zb0×Bool×Unit):=if(n.Kind==22)=true then some (⟨[],0,false,false,[100,42,100]⟩,true,())else if(n.Kind==23)=true then let b:=(if 1< ((n.L.length:Nat):Int)then 1 else((n.L.length:Nat):Int));(zav [101] 0 b).bind λc=>some (⟨[110],0,false,false,c⟩,true,())else if(n.Kind==24)=true then some (⟨[],0,false,false,[101]⟩,true,())else if(n.Kind==34)=true then some (⟨[],0,false,false,[101]⟩,true,())else if(n.Kind==25)=true then some (⟨[],0,false,false,[42,115]⟩,true,())else if(n.Kind==26)=true then let a:=(if 2>((n.L.length:Nat):Int)then 2 else((n.L.length:Nat):Int));let d:=(if 3<a then 3 else a);(zav [101,98,98] 0 d).bind λe=>some (⟨[],0,false,false,e⟩,true,())else if(n.Kind==27)=true then some (⟨[],0,false,false,[101,98]⟩,true,())else if(n.Kind==28)=true then some (⟨[],0,false,false,[98,101]⟩,true,())else if(n.Kind==29)=true then some (⟨[],0,false,false,[118,102,102,98]⟩,true,())else if(n.Kind==30)=true then some (⟨[],0,false,false,[119,101,98]⟩,true,())else if(n.Kind==31)=true then some (⟨[109],0,false,false,[]⟩,true,())else if(n.Kind==32)=true then some (⟨[109],0,false,false,[]⟩,true,())else if(n.Kind==33)=true then let f:=(if 1< ((n.L.length:Nat):Int)then 1 else((n.L.length:Nat):Int));(zav [101] 0 f).bind λg=>some (⟨[],0,false,false,g⟩,true,())else if(n.Kind==35)=true then some (⟨[99],0,false,false,[98,99,99]⟩,true,())else if(n.Kind==36)=true then some (⟨[],0,false,false,[101,42,107]⟩,true,())else if(n.Kind==37)=true then some (⟨[],0,false,false,[102,42,115]⟩,true,())else if(n.Kind==38)=true then some (⟨[110],0,false,false,[115]⟩,true,())else if(n.Kind==39)=true then some (⟨[110],0,false,true,[42,120]⟩,true,())else if(n.Kind==41)=true then some (⟨[],0,false,false,[42,120]⟩,true,())else some (⟨[],0,false,false,[]⟩,false,())
def zL(a:zb0):Option (zb0×Bool×Unit):=some ((zDv a),true,())
def zaz(n:zg):Option (zb0×Bool×Unit):=if(n.Kind==1)=true then zL ⟨[],9007199254740991,false,false,[]⟩else if(n.Kind==2)=true then zL ⟨[],0,true,false,[]⟩else if(n.Kind==3)=true then zL ⟨[110],0,false,false,[]⟩else if(n.Kind==4)=true then zL ⟨[],0,false,false,[]⟩else if(n.Kind==5)=true then zL ⟨[],0,false,false,[]⟩else if(n.Kind==40)=true then zL ⟨[],0,false,false,[]⟩else if(n.Kind==42)=true then zL ⟨[],0,false,false,[]⟩else if(n.Kind==6)=true then zL ⟨[],1,false,false,[]⟩else if(n.Kind==7)=true then zL ⟨[],0,false,false,[42,101]⟩else if(n.Kind==8)=true then zL ⟨[],0,false,false,[42,112]⟩else if(n.Kind==9)=true then zL ⟨[],0,true,false,[101]⟩else if(n.Kind==10)=true then zL ⟨[109],0,false,true,[42,120]⟩else if(n.Kind==11)=true then zL ⟨[105],0,false,false,[101]⟩else if(n.Kind==12)=true then zL ⟨[],0,false,false,[101,101]⟩else if(n.Kind==21)=true then zL ⟨[],0,false,false,[101,101]⟩else if(n.Kind==13)=true then zL ⟨[],0,false,false,[101,42,101]⟩else if(n.Kind==14)=true then zL ⟨[],0,false,false,[101,42,101]⟩else if(n.Kind==15)=true then zL ⟨[32,45,32,43,32,33,32,116,121,112,101,111,102,32,100,101,108,101,116,101,32,118,111,105,100,32],0,false,false,[101]⟩else if(n.Kind==16)=true then zL ⟨[32,43,43,32,45,45,32],1,false,false,[116]⟩else if(n.Kind==17)=true then zL ⟨[32,43,32,45,32,42,32,47,32,37,32,60,32,62,32,60,61,32,62,61,32,61,61,32,33,61,32,61,61,61,32,33,61,61,32,105,110,32,105,110,115,116,97,110,99,101,111,102,32],0,false,false,[101,101]⟩else if(n.Kind==18)=true then zL ⟨[32,38,38,32,124,124,32],0,false,false,[101,101]⟩else if(n.Kind==19)=true then zL ⟨[],0,false,false,[101,101,101]⟩else if(n.Kind==20)=true then zL ⟨[32,61,32,43,61,32,45,61,32,42,61,32,47,61,32,37,61,32],0,false,false,[116,101]⟩else(zN (zy n)).bind λa=>some ((zDv a.1),a.2.1,())
def zqo(e:Str)(s:Str):Option (Bool×Unit):=if(!(s==[]))=true then(strings_Contains s [32]).bind λa=>if(!a.1)=true then(zgy [32] s).bind λb=>(zgy b [32]).bind λc=>(strings_Contains e c).bind λd=>some (d.1,())else some (false,())else some (false,())
def zzC(u:Str):Option (Bool×Unit):=let a:=(IntKind.wrap .i64 ((BitVec.ofInt 64 ((u.length:Nat):Int)&&&BitVec.ofInt 64 1).toNat));some ((a==0),())
def zt(l:List Str)(c:Bool)(a:List Str):Option (Bool×(List Str)×Unit):=(room (a.length+l.length)).bind λ_=>let b:=a++l;some (c,b,())
structure zpu where
 zgN:zg->Option (Int×Unit)
def zze(f:zpu)(n:zg):Option (Int×Unit):=if(n.Kind==21)=true then some (0,())else if(n.Kind==20)=true then some (1,())else if(n.Kind==19)=true then some (2,())else if(n.Kind==18)=true then(zav n.Name 0 1).bind λg=>(strings_Index [38,124] g).bind λh=>let i:=(IntKind.wrap .i64 (4 -h.1));some (i,())else if(n.Kind==17)=true then(zqo [32,61,61,32,33,61,32,61,61,61,32,33,61,61,32] n.Name).bind λj=>if j.1=true then some (5,())else(zqo [32,43,32,45,32] n.Name).bind λk=>if k.1=true then some (7,())else(zqo [32,42,32,47,32,37,32] n.Name).bind λl=>if l.1=true then some (8,())else some (6,())else if(n.Kind==15)=true then some (9,())else if(n.Kind==16)=true then let m:=(IntKind.wrap .i64 (10 -n.Num));some (m,())else if(n.Kind==13)=true then some (11,())else if(n.Kind==11)=true then(zQ n.L 0).bind λo=>(f.zgN (zy o)).bind λa=>let b:=(if a.1>11 then a.1 else 11);let p:=(if b<12 then b else 12);some (p,())else if(n.Kind==12)=true then(zQ n.L 0).bind λq=>(f.zgN (zy q)).bind λc=>let d:=(if c.1>11 then c.1 else 11);let r:=(if d<12 then d else 12);some (r,())else if(n.Kind==14)=true then some (12,())else some (13,())
def zm7:Nat->zpu
 |0=>⟨λ_=>none⟩
 |n+1=>⟨zze (zm7 n)⟩
def zgN:zg->Option (Int×Unit):=(zm7 Lp.big).zgN
def zwT(u:Str):Option (Int×Unit):=let a:=(IntKind.wrap .i64 (Int.tdiv ((u.length:Nat):Int) 2));some (a,())
def zDA(u:Str)(i:Int):Option (Int×Unit):=if(decide (i<0))=true then some ((-1),())else(zwT u).bind λa=>if(decide (i>=a.1))=true then some ((-1),())else(zaS u (IntKind.wrap .i64 (2*i))).bind λb=>let c:=(IntKind.wrap .i64 ((IntKind.wrap .i64 b)*2^8));let d:=(IntKind.wrap .i64 ((IntKind.wrap .i64 (2*i))+1));(zaS u d).bind λe=>let f:=(IntKind.wrap .i64 ((BitVec.ofInt 64 c|||BitVec.ofInt 64 (IntKind.wrap .i64 e)).toNat));some (f,())
def zv9(d:Str)(e:Int)(f:Int)(g:Int)(a:List UInt8):zwh:=let h:=(IntKind.wrap .i64 ((BitVec.ofInt 64 e|||BitVec.ofInt 64 65536).toNat));(zdx h 16).bind λb=>(zav b.1 1 ((b.1.length:Nat):Int)).bind λi=>(zgy [92,117] i).bind λc=>(room (a.length+c.length)).bind λ_=>let j:=a++c;let k:=(IntKind.wrap .i64 (g+1));some (.inl (d,f,k,j,()))
def zwl(c:Str)(a:Int)(d:Int)(e:Int)(b:List UInt8):zwh:=let g:=((decide (a<32))||(decide (a>126)));if g=true then zv9 c a d e b else(toB (IntKind.wrap .u8 a)).bind λf=>(room (b.length+([f]:List UInt8).length)).bind λ_=>let h:=b++([f]:List UInt8);let i:=(IntKind.wrap .i64 (e+1));some (.inl (c,d,i,h,()))
def zwf(b:Str)(h:Int)(c:Int)(d:Int)(e:Int)(a:List UInt8):zwh:=if(decide (c>=0))=true then(zaS [98,116,110,102,114] c).bind λi=>(toB 92).bind λf=>(toB i).bind λg=>(room (a.length+([f,g]:List UInt8).length)).bind λ_=>let j:=a++([f,g]:List UInt8);let k:=(IntKind.wrap .i64 (e+1));some (.inl (b,d,k,j,()))else zwl b h d e a
def zpD(c:Str)(a:Int)(h:Int)(d:Int)(e:Int)(b:List UInt8):zwh:=let i:=((a==34)||(a==92));if i=true then(toB 92).bind λf=>(toB (IntKind.wrap .u8 a)).bind λg=>(room (b.length+([f,g]:List UInt8).length)).bind λ_=>let j:=b++([f,g]:List UInt8);let k:=(IntKind.wrap .i64 (e+1));some (.inl (c,d,k,j,()))else zwf c a h d e b
def zwv:Str×Int×Int×(List UInt8)×Unit->zwh| (d,e,a,b,())=>if(decide (a<e))=true then(zDA d a).bind λc=>if(decide (c.1<128))=true then(strings_IndexByte [8,9,10,12,13] (IntKind.wrap .u8 c.1)).bind λf=>zpD d c.1 f.1 e a b else zpD d c.1 (-1) e a b else(room (b.length+([(UInt8.ofNat 34)]:List UInt8).length)).bind λ_=>let g:=b++([(UInt8.ofNat 34)]:List UInt8);some (.inr (g,0,()))
def zoK(u:Str):Option (Str×Int×Unit):=(zzC u).bind λa=>if(!a.1)=true then some ([],10,())else(zwT u).bind λb=>Lp.loop zwv (u,b.1,0,([(UInt8.ofNat 34)]:List UInt8),())
def zqg(a:Bool):Option (Str):=some (Lib.formatBool a)
def strconv_FormatBool(a:Bool):Option (Str×Unit):=ziz (λr=>(r,())) (zqg a)
def zxx(i:Int)(l v:List Str):Option (List Str×Unit):=zJt i l v
structure zB where
 zdw:(List zg)->Bool->(List Str)->Option (Bool×(List Str)×Unit)
 za6:zg->Bool->(List Str)->Option (Bool×(List Str)×Unit)
 zcw:zg->Int->Bool->(List Str)->Option (Bool×(List Str)×Unit)
 zac:zg->Int->Bool->(List Str)->Option (Bool×(List Str)×Unit)
 zhJ:Str->Str->Bool->(List Str)->zg->Option (Bool×(List Str)×zg×Unit)
 zi9:Bool->(List Str)->zg->Option (Bool×(List Str)×zg×Unit)
 zgM:zg->Bool->(List Str)->Option (Bool×(List Str)×Unit)
 zf8:Str->Str->Bool->(List Str)->zg->Option (Bool×(List Str)×zg×Unit)
 zhP:Bool->(List Str)->zg->Option (Bool×(List Str)×zg×Unit)
 zeZ:(List zg)->Bool->(List Str)->Option (Bool×(List Str)×Unit)
 zgm:Str->Str->Bool->(List Str)->zg->Option (Bool×(List Str)×zg×Unit)
 zhT:Bool->(List Str)->zg->Option (Bool×(List Str)×zg×Unit)
 zez:zg->Bool->(List Str)->Option (Bool×(List Str)×Unit)
 zgg:Str->Str->Bool->(List Str)->zg->Option (Bool×(List Str)×zg×Unit)
 zfR:Bool->(List Str)->zg->Option (Bool×(List Str)×zg×Unit)
 zgd:zg->Bool->(List Str)->Option (Bool×(List Str)×Unit)
 zgl:Str->Str->Bool->(List Str)->(List zg)->Option (Bool×(List Str)×(List zg)×Unit)
 zft:Bool->(List Str)->(List zg)->Option (Bool×(List Str)×(List zg)×Unit)
 zeb:Str->Str->Bool->(List Str)->(List zg)->Option (Bool×(List Str)×(List zg)×Unit)
 zfv:Bool->(List Str)->(List zg)->Option (Bool×(List Str)×(List zg)×Unit)
 zgf:Str->Str->Bool->(List Str)->(List zg)->Option (Bool×(List Str)×(List zg)×Unit)
 zfp:Bool->(List Str)->(List zg)->Option (Bool×(List Str)×(List zg)×Unit)
 zdO:Str->zg->Bool->(List Str)->Option (Bool×(List Str)×Unit)
 zdT:zg->Bool->(List Str)->Option (Bool×(List Str)×Unit)
 zi3:zg->Bool->(List Str)->Option (Bool×(List Str)×Unit)
def zri(j:zB):(List zg)×Int×Int×Bool×(List Str)×Unit->zuD| (b,c,a,d,e,())=>if(decide (a<c))=true then(zQ b a).bind λg=>(j.za6 (zy g) d e).bind λf=>let h:=(IntKind.wrap .i64 (a+1));some (.inl (b,c,h,f.1,f.2.1,()))else some (.inr (d,e,()))
def zsi(d:zB)(l:List zg)(b:Bool)(c:List Str):Option (Bool×(List Str)×Unit):=Lp.loop (zri d) (l,((l.length:Nat):Int),0,b,c,())
def zkA(g:zB)(a:List zg)(h:Str)(i:Bool)(j:List Str):Option (Bool×(List Str)×Unit):=(zt [h] i j).bind λb=>(zQ a 0).bind λk=>(g.zcw (zy k) 0 b.1 b.2.1).bind λc=>(zt [[58]] c.1 c.2.1).bind λd=>(zav a 1 ((a.length:Nat):Int)).bind λl=>(g.zdw l d.1 d.2.1).bind λe=>some (e.1,e.2.1,())
def zkK(i:zB)(a:List zg)(b:Bool)(c:List Str):Option (Bool×(List Str)×Unit):=(zQ a 2).bind λf=>if(f.Kind==25)=true then(zt [[102,105,110,97,108,108,121]] b c).bind λd=>(zQ a 2).bind λg=>(i.za6 (zy g) d.1 d.2.1).bind λe=>some (e.1,e.2.1,())else some (b,c,())
def zsM(b:zB)(o:zg)(c:Bool)(l:List Str):Option (Bool×(List Str)×Unit):=if(o.Kind==22)=true then(b.zcw (zy o) 0 c l).bind λg=>(zt [[59]] g.1 g.2.1).bind λh=>some (h.1,h.2.1,())else if(o.Kind==24)=true then(zQ o.L 0).bind λN=>(b.zac (zy N) 0 c l).bind λd=>(zQ d.2.1 ((l.length:Nat):Int)).bind λ_=>(zQ d.2.1 ((l.length:Nat):Int)).bind λi=>let O:=((i==[123])||(i==[102,117,110,99,116,105,111,110]));if O=true then(zxx ((l.length:Nat):Int) d.2.1 [[40]]).bind λj=>(room (j.1.length+([[41]]:List Str).length)).bind λ_=>let P:=j.1++[[41]];(zt [[59]] d.1 P).bind λk=>some (k.1,k.2.1,())else(zt [[59]] d.1 d.2.1).bind λm=>some (m.1,m.2.1,())else if(o.Kind==25)=true then(zt [[123]] c l).bind λn=>(b.zdw o.L n.1 n.2.1).bind λp=>(zt [[125]] p.1 p.2.1).bind λq=>some (q.1,q.2.1,())else if(o.Kind==26)=true then(zQ o.L 0).bind λQ=>(b.zdO [105,102] (zy Q) c l).bind λr=>(zQ o.L 1).bind λR=>(b.za6 (zy R) r.1 r.2.1).bind λe=>let S:=(((o.L.length:Nat):Int)==3);if S=true then(zt [[101,108,115,101]] e.1 e.2.1).bind λs=>(zQ o.L 2).bind λU=>(b.za6 (zy U) s.1 s.2.1).bind λt=>some (t.1,t.2.1,())else some (e.1,e.2.1,())else if(o.Kind==27)=true then(b.zdT (zy o) c l).bind λu=>some (u.1,u.2.1,())else if(o.Kind==28)=true then(b.zdT (zy o) c l).bind λv=>some (v.1,v.2.1,())else if(o.Kind==29)=true then(b.zdT (zy o) c l).bind λx=>some (x.1,x.2.1,())else if(o.Kind==30)=true then(b.zdT (zy o) c l).bind λy=>some (y.1,y.2.1,())else if(o.Kind==35)=true then(zt [[116,114,121]] c l).bind λz=>(zQ o.L 0).bind λV=>(b.za6 (zy V) z.1 z.2.1).bind λf=>(zQ o.L 1).bind λW=>if(W.Kind==25)=true then(zt [[99,97,116,99,104],[40],o.Name,[41]] f.1 f.2.1).bind λA=>(zQ o.L 1).bind λX=>(b.za6 (zy X) A.1 A.2.1).bind λB=>zkK b o.L B.1 B.2.1 else zkK b o.L f.1 f.2.1 else if(o.Kind==36)=true then(zQ o.L 0).bind λZ=>(b.zdO [115,119,105,116,99,104] (zy Z) c l).bind λC=>(zt [[123]] C.1 C.2.1).bind λD=>(zav o.L 1 ((o.L.length:Nat):Int)).bind λaa=>(b.zdw aa D.1 D.2.1).bind λE=>(zt [[125]] E.1 E.2.1).bind λH=>some (H.1,H.2.1,())else if(o.Kind==37)=true then(zQ o.L 0).bind λab=>if(ab.Kind !=42)=true then zkA b o.L [99,97,115,101] c l else zkA b o.L [100,101,102,97,117,108,116] c l else if(o.Kind==38)=true then(zt [o.Name,[58]] c l).bind λI=>(zQ o.L 0).bind λac=>(b.za6 (zy ac) I.1 I.2.1).bind λJ=>some (J.1,J.2.1,())else if(o.Kind==39)=true then(b.zez (zy o) c l).bind λK=>some (K.1,K.2.1,())else(b.zi3 (zy o) c l).bind λM=>some (M.1,M.2.1,())
def zqm(n:zB)(a:List zg)(b:Int)(c:Int)(d:Bool)(e:List Str)(f:zg):zuD:=let i:=((f.L.length:Nat):Int);if(decide (i>0))=true then(zt [[61]] d e).bind λg=>(zQ f.L 0).bind λj=>(n.zac (zy j) 1 g.1 g.2.1).bind λh=>let k:=(IntKind.wrap .i64 (c+1));some (.inl (a,b,k,h.1,h.2.1,()))else let l:=(IntKind.wrap .i64 (c+1));some (.inl (a,b,l,d,e,()))
def zjT(i:zB)(c:List zg)(d:Int)(e:Int)(f:Bool)(g:List Str)(a:zg):zuD:=(zt [a.Name] f g).bind λb=>zqm i c d e b.1 b.2.1 (zy a)
def zq2(i:zB):(List zg)×Int×Int×Bool×(List Str)×Unit->zuD| (b,c,a,d,e,())=>if(decide (a<c))=true then(zQ b a).bind λf=>if(decide (a>0))=true then(zt [[44]] d e).bind λg=>zjT i b c a g.1 g.2.1 (zy f)else zjT i b c a d e (zy f)else some (.inr (d,e,()))
def zrN(e:zB)(n:zg)(f:Int)(a:Bool)(l:List Str):Option (Bool×(List Str)×Unit):=if(n.Kind==42)=true then some (a,l,())else if(n.Kind==22)=true then(zt [[118,97,114]] a l).bind λb=>Lp.loop (zq2 e) (n.L,((n.L.length:Nat):Int),0,b.1,b.2.1,())else(e.zac (zy n) f a l).bind λc=>some (c.1,c.2.1,())
def zur(e:zB)(n:zg)(h:Int)(a:Bool)(l:List Str):Option (Bool×(List Str)×Unit):=(zgN (zy n)).bind λf=>let g:=((decide (f.1<h))||((a&&(n.Kind==17))&&(n.Name==[105,110])));if g=true then(e.zhJ [40] [41] a l (zy n)).bind λb=>some (b.1,b.2.1,())else(e.zgM (zy n) a l).bind λc=>some (c.1,c.2.1,())
def zrp(h:zB)(a:Str)(f:Str)(g:Bool)(l:List Str)(x:zg):Option (Bool×(List Str)×zg×Unit):=(zt [a] false l).bind λc=>(h.zi9 c.1 c.2.1 (zy x)).bind λb=>(zt [f] b.1 b.2.1).bind λd=>some (g,d.2.1,(zy b.2.2.1),())
def ztd(d:zB)(c:Bool)(l:List Str)(x:zg):Option (Bool×(List Str)×zg×Unit):=(d.zgM (zy x) c l).bind λa=>some (a.1,a.2.1,(zy x),())
def zsS(c:zB)(n:zg)(a:Bool)(l:List Str):Option (Bool×(List Str)×Unit):=if(n.Kind==1)=true then(zdx n.Num 10).bind λp=>(zt [p.1] a l).bind λd=>some (d.1,d.2.1,())else if(n.Kind==2)=true then(zoK n.Text).bind λq=>(zt [q.1] a l).bind λe=>some (e.1,e.2.1,())else if(n.Kind==3)=true then(zt [n.Name] a l).bind λf=>some (f.1,f.2.1,())else if(n.Kind==4)=true then(zt [[116,104,105,115]] a l).bind λg=>some (g.1,g.2.1,())else if(n.Kind==5)=true then(zt [[110,117,108,108]] a l).bind λh=>some (h.1,h.2.1,())else if(n.Kind==6)=true then(strconv_FormatBool (n.Num==1)).bind λr=>(zt [r.1] a l).bind λi=>some (i.1,i.2.1,())else if(n.Kind==7)=true then(c.zf8 [91] [93] a l (zy n)).bind λj=>some (j.1,j.2.1,())else if(n.Kind==8)=true then(c.zgm [123] [125] a l (zy n)).bind λk=>some (k.1,k.2.1,())else if(n.Kind==10)=true then(c.zez (zy n) a l).bind λm=>some (m.1,m.2.1,())else(c.zgd (zy n) a l).bind λo=>some (o.1,o.2.1,())
def znA(h:zB)(a:Str)(f:Str)(g:Bool)(l:List Str)(x:zg):Option (Bool×(List Str)×zg×Unit):=(zt [a] false l).bind λc=>(h.zhP c.1 c.2.1 (zy x)).bind λb=>(zt [f] b.1 b.2.1).bind λd=>some (g,d.2.1,(zy b.2.2.1),())
def zqu(d:zB)(c:Bool)(l:List Str)(x:zg):Option (Bool×(List Str)×zg×Unit):=(d.zeZ x.L c l).bind λa=>some (a.1,a.2.1,(zy x),())
def zkr(k:zB)(b:List zg)(c:Int)(d:Int)(e:Bool)(f:List Str)(a:zg):zuD:=if(a.Kind==9)=true then(zoK a.Text).bind λl=>(zt [l.1,[58]] e f).bind λg=>(zQ a.L 0).bind λm=>(k.zac (zy m) 1 g.1 g.2.1).bind λh=>let n:=(IntKind.wrap .i64 (d+1));some (.inl (b,c,n,h.1,h.2.1,()))else(k.zac (zy a) 1 e f).bind λi=>let o:=(IntKind.wrap .i64 (d+1));some (.inl (b,c,o,i.1,i.2.1,()))
def zr4(i:zB):(List zg)×Int×Int×Bool×(List Str)×Unit->zuD| (b,c,a,d,e,())=>if(decide (a<c))=true then(zQ b a).bind λf=>if(decide (a>0))=true then(zt [[44]] d e).bind λg=>zkr i b c a g.1 g.2.1 (zy f)else zkr i b c a d e (zy f)else some (.inr (d,e,()))
def ztg(d:zB)(l:List zg)(b:Bool)(c:List Str):Option (Bool×(List Str)×Unit):=Lp.loop (zr4 d) (l,((l.length:Nat):Int),0,b,c,())
def znJ(h:zB)(a:Str)(f:Str)(g:Bool)(l:List Str)(x:zg):Option (Bool×(List Str)×zg×Unit):=(zt [a] false l).bind λc=>(h.zhT c.1 c.2.1 (zy x)).bind λb=>(zt [f] b.1 b.2.1).bind λd=>some (g,d.2.1,(zy b.2.2.1),())
def zqL(d:zB)(c:Bool)(l:List Str)(x:zg):Option (Bool×(List Str)×zg×Unit):=(d.zeZ x.L c l).bind λa=>some (a.1,a.2.1,(zy x),())
def ziu(p:zB):(List Str)×Int×Int×Bool×(List Str)×zg×Unit->Option (((List Str)×Int×Int×Bool×(List Str)×zg×Unit)⊕(Bool×(List Str)×Unit))| (b,c,a,d,e,f,())=>if(decide (a<c))=true then(zQ b a).bind λg=>if(decide (a>0))=true then(zt [[44]] d e).bind λh=>(zt [g] h.1 h.2.1).bind λi=>let m:=(IntKind.wrap .i64 (a+1));some (.inl (b,c,m,i.1,i.2.1,(zy f),()))else(zt [g] d e).bind λj=>let n:=(IntKind.wrap .i64 (a+1));some (.inl (b,c,n,j.1,j.2.1,(zy f),()))else(zt [[41]] d e).bind λk=>(p.zgg [123] [125] k.1 k.2.1 (zy f)).bind λl=>some (.inr (l.1,l.2.1,()))
def zoy(f:zB)(n:zg)(i:Bool)(l:List Str):Option (Bool×(List Str)×Unit):=(zt [[102,117,110,99,116,105,111,110]] i l).bind λa=>if(!(n.Name==[]))=true then(zt [n.Name] a.1 a.2.1).bind λb=>(zt [[40]] b.1 b.2.1).bind λc=>let g:=((n.Names.length:Nat):Int);Lp.loop (ziu f) (n.Names,g,0,c.1,c.2.1,(zy n),())else(zt [[40]] a.1 a.2.1).bind λd=>let h:=((n.Names.length:Nat):Int);Lp.loop (ziu f) (n.Names,h,0,d.1,d.2.1,(zy n),())
def znD(h:zB)(a:Str)(f:Str)(g:Bool)(l:List Str)(x:zg):Option (Bool×(List Str)×zg×Unit):=(zt [a] false l).bind λc=>(h.zfR c.1 c.2.1 (zy x)).bind λb=>(zt [f] b.1 b.2.1).bind λd=>some (g,d.2.1,(zy b.2.2.1),())
def zmD(d:zB)(c:Bool)(l:List Str)(x:zg):Option (Bool×(List Str)×zg×Unit):=(d.zdw x.L c l).bind λa=>some (a.1,a.2.1,(zy x),())
def zng(c:zB)(k:Int)(d:Bool)(e:List Str)(l:zg)(a:List zg):Option (Bool×(List Str)×Unit):=if(l.Kind==14)=true then(zt [[110,101,119]] d e).bind λf=>(zQ a 0).bind λm=>(c.zac (zy m) 12 f.1 f.2.1).bind λg=>(c.zeb [40] [41] g.1 g.2.1 a).bind λh=>some (h.1,h.2.1,())else(zQ a 0).bind λn=>(c.zac (zy n) k d e).bind λi=>(c.zeb [40] [41] i.1 i.2.1 a).bind λj=>some (j.1,j.2.1,())
def zih(f:zB)(a:Bool)(b:List Str)(c:zg)(d:List zg):Option (Bool×(List Str)×Unit):=zng f 11 a b (zy c) d
def znO(b:zB)(o:zg)(c:Bool)(l:List Str):Option (Bool×(List Str)×Unit):=if(o.Kind==11)=true then(zQ o.L 0).bind λD=>(b.zac (zy D) 11 c l).bind λg=>(zt [[46],o.Name] g.1 g.2.1).bind λh=>some (h.1,h.2.1,())else if(o.Kind==12)=true then(zQ o.L 0).bind λE=>(b.zac (zy E) 11 c l).bind λi=>(b.zgl [91] [93] i.1 i.2.1 o.L).bind λj=>some (j.1,j.2.1,())else if(o.Kind==13)=true then zih b c l (zy o) o.L else if(o.Kind==14)=true then zih b c l (zy o) o.L else if(o.Kind==15)=true then(zt [o.Name] c l).bind λk=>(zQ o.L 0).bind λH=>(b.zac (zy H) 9 k.1 k.2.1).bind λm=>some (m.1,m.2.1,())else if(o.Kind==16)=true then if(o.Num==1)=true then(zt [o.Name] c l).bind λn=>(zQ o.L 0).bind λI=>(b.zac (zy I) 11 n.1 n.2.1).bind λd=>if(o.Num==0)=true then(zt [o.Name] d.1 d.2.1).bind λp=>some (p.1,p.2.1,())else some (d.1,d.2.1,())else(zQ o.L 0).bind λJ=>(b.zac (zy J) 11 c l).bind λe=>if(o.Num==0)=true then(zt [o.Name] e.1 e.2.1).bind λq=>some (q.1,q.2.1,())else some (e.1,e.2.1,())else if(o.Kind==19)=true then(zQ o.L 0).bind λK=>(b.zac (zy K) 3 c l).bind λr=>(b.zgf [63] [58] r.1 r.2.1 o.L).bind λf=>(zQ f.2.2.1 2).bind λM=>(b.zac (zy M) 1 f.1 f.2.1).bind λs=>some (s.1,s.2.1,())else if(o.Kind==20)=true then(zQ o.L 0).bind λN=>(b.zac (zy N) 11 c l).bind λt=>(zt [o.Name] t.1 t.2.1).bind λu=>(zQ o.L 1).bind λO=>(b.zac (zy O) 1 u.1 u.2.1).bind λv=>some (v.1,v.2.1,())else if(o.Kind==21)=true then(zQ o.L 0).bind λP=>(b.zac (zy P) 0 c l).bind λx=>(zt [[44]] x.1 x.2.1).bind λy=>(zQ o.L 1).bind λQ=>(b.zac (zy Q) 1 y.1 y.2.1).bind λz=>some (z.1,z.2.1,())else(zQ o.L 0).bind λR=>(zgN (zy o)).bind λS=>(b.zac (zy R) S.1 c l).bind λA=>(zt [o.Name] A.1 A.2.1).bind λB=>(zQ o.L 1).bind λU=>(zgN (zy o)).bind λV=>let W:=(IntKind.wrap .i64 (V.1+1));(b.zac (zy U) W B.1 B.2.1).bind λC=>some (C.1,C.2.1,())
def znI(i:zB)(a:Str)(f:Str)(g:Bool)(l:List Str)(h:List zg):Option (Bool×(List Str)×(List zg)×Unit):=(zt [a] false l).bind λc=>(i.zft c.1 c.2.1 h).bind λb=>(zt [f] b.1 b.2.1).bind λd=>some (g,d.2.1,b.2.2.1,())
def zmh(f:zB)(e:Bool)(l:List Str)(a:List zg):Option (Bool×(List Str)×(List zg)×Unit):=(zQ a 1).bind λc=>(f.zac (zy c) 0 e l).bind λb=>some (b.1,b.2.1,a,())
def znz(i:zB)(a:Str)(f:Str)(g:Bool)(l:List Str)(h:List zg):Option (Bool×(List Str)×(List zg)×Unit):=(zt [a] false l).bind λc=>(i.zfv c.1 c.2.1 h).bind λb=>(zt [f] b.1 b.2.1).bind λd=>some (g,d.2.1,b.2.2.1,())
def zmg(f:zB)(e:Bool)(l:List Str)(a:List zg):Option (Bool×(List Str)×(List zg)×Unit):=(zav a 1 ((a.length:Nat):Int)).bind λc=>(f.zeZ c e l).bind λb=>some (b.1,b.2.1,a,())
def znF(i:zB)(a:Str)(f:Str)(g:Bool)(l:List Str)(h:List zg):Option (Bool×(List Str)×(List zg)×Unit):=(zt [a] false l).bind λc=>(i.zfp c.1 c.2.1 h).bind λb=>(zt [f] b.1 b.2.1).bind λd=>some (g,d.2.1,b.2.2.1,())
def zmq(f:zB)(e:Bool)(l:List Str)(a:List zg):Option (Bool×(List Str)×(List zg)×Unit):=(zQ a 1).bind λc=>(f.zac (zy c) 1 e l).bind λb=>some (b.1,b.2.1,a,())
def zs7(g:zB)(e:Str)(n:zg)(f:Bool)(l:List Str):Option (Bool×(List Str)×Unit):=(zt [e,[40]] f l).bind λa=>(g.zac (zy n) 0 a.1 a.2.1).bind λb=>(zt [[41]] b.1 b.2.1).bind λc=>some (c.1,c.2.1,())
def zr6(l:zB):(List zg)×(List zg)×Int×Int×Bool×(List Str)×Unit->Option (((List zg)×(List zg)×Int×Int×Bool×(List Str)×Unit)⊕(Bool×(List Str)×Unit))| (a,c,d,b,e,f,())=>if(decide (b<d))=true then(zQ c b).bind λm=>(zt [[59]] e f).bind λg=>(l.zcw (zy m) 0 g.1 g.2.1).bind λh=>let n:=(IntKind.wrap .i64 (b+1));some (.inl (a,c,d,n,h.1,h.2.1,()))else(zt [[41]] e f).bind λi=>let o:=(IntKind.wrap .i64 (((a.length:Nat):Int) -1));(zQ a o).bind λp=>(l.za6 (zy p) i.1 i.2.1).bind λj=>some (.inr (j.1,j.2.1,()))
def zsY(b:zB)(n:zg)(c:Bool)(l:List Str):Option (Bool×(List Str)×Unit):=if(n.Kind==27)=true then(zQ n.L 0).bind λr=>(b.zdO [119,104,105,108,101] (zy r) c l).bind λd=>let s:=(IntKind.wrap .i64 (((n.L.length:Nat):Int) -1));(zQ n.L s).bind λt=>(b.za6 (zy t) d.1 d.2.1).bind λe=>some (e.1,e.2.1,())else if(n.Kind==28)=true then(zt [[100,111]] c l).bind λf=>(zQ n.L 0).bind λu=>(b.za6 (zy u) f.1 f.2.1).bind λg=>(zQ n.L 1).bind λv=>(b.zdO [119,104,105,108,101] (zy v) g.1 g.2.1).bind λh=>(zt [[59]] h.1 h.2.1).bind λi=>some (i.1,i.2.1,())else(zt [[102,111,114],[40]] c l).bind λj=>if(n.Kind==30)=true then(zQ n.L 0).bind λx=>(b.zcw (zy x) 11 true j.2.1).bind λy=>(zt [[105,110]] false y.2.1).bind λk=>(zQ n.L 1).bind λz=>(b.zac (zy z) 0 k.1 k.2.1).bind λm=>(zt [[41]] m.1 m.2.1).bind λo=>let A:=(IntKind.wrap .i64 (((n.L.length:Nat):Int) -1));(zQ n.L A).bind λB=>(b.za6 (zy B) o.1 o.2.1).bind λp=>some (p.1,p.2.1,())else(zQ n.L 0).bind λC=>(b.zcw (zy C) 0 true j.2.1).bind λD=>(zav n.L 1 3).bind λq=>Lp.loop (zr6 b) (n.L,q,((q.length:Nat):Int),0,false,D.2.1,())
def zkp(k:zB):(List zg)×Int×Int×Bool×(List Str)×Unit->zuD| (b,c,a,d,e,())=>if(decide (a<c))=true then(zQ b a).bind λh=>(k.zac (zy h) 0 d e).bind λf=>let i:=(IntKind.wrap .i64 (a+1));some (.inl (b,c,i,f.1,f.2.1,()))else(zt [[59]] d e).bind λg=>some (.inr (g.1,g.2.1,()))
def zdL(f:zB)(b:Bool)(c:List Str)(a:zg):Option (Bool×(List Str)×Unit):=if(!(a.Name==[]))=true then(zt [a.Name] b c).bind λd=>let g:=((a.L.length:Nat):Int);Lp.loop (zkp f) (a.L,g,0,d.1,d.2.1,())else let h:=((a.L.length:Nat):Int);Lp.loop (zkp f) (a.L,h,0,b,c,())
def zti(c:zB)(n:zg)(b:Bool)(l:List Str):Option (Bool×(List Str)×Unit):=if(n.Kind==31)=true then(zt [[98,114,101,97,107]] b l).bind λd=>zdL c d.1 d.2.1 (zy n)else if(n.Kind==32)=true then(zt [[99,111,110,116,105,110,117,101]] b l).bind λe=>zdL c e.1 e.2.1 (zy n)else if(n.Kind==33)=true then(zt [[114,101,116,117,114,110]] b l).bind λf=>zdL c f.1 f.2.1 (zy n)else if(n.Kind==34)=true then(zt [[116,104,114,111,119]] b l).bind λg=>zdL c g.1 g.2.1 (zy n)else zdL c b l (zy n)
def zn:Nat->zB
 |0=>⟨λ_ _ _=>none,λ_ _ _=>none,λ_ _ _ _=>none,λ_ _ _ _=>none,λ_ _ _ _ _=>none,λ_ _ _=>none,λ_ _ _=>none,λ_ _ _ _ _=>none,λ_ _ _=>none,λ_ _ _=>none,λ_ _ _ _ _=>none,λ_ _ _=>none,λ_ _ _=>none,λ_ _ _ _ _=>none,λ_ _ _=>none,λ_ _ _=>none,λ_ _ _ _ _=>none,λ_ _ _=>none,λ_ _ _ _ _=>none,λ_ _ _=>none,λ_ _ _ _ _=>none,λ_ _ _=>none,λ_ _ _ _=>none,λ_ _ _=>none,λ_ _ _=>none⟩
 |n+1=>⟨zsi (zn n),zsM (zn n),zrN (zn n),zur (zn n),zrp (zn n),ztd (zn n),zsS (zn n),znA (zn n),zqu (zn n),ztg (zn n),znJ (zn n),zqL (zn n),zoy (zn n),znD (zn n),zmD (zn n),znO (zn n),znI (zn n),zmh (zn n),znz (zn n),zmg (zn n),znF (zn n),zmq (zn n),zs7 (zn n),zsY (zn n),zti (zn n)⟩
def zdw:(List zg)->Bool->(List Str)->Option (Bool×(List Str)×Unit):=(zn Lp.big).zdw
def za6:zg->Bool->(List Str)->Option (Bool×(List Str)×Unit):=(zn Lp.big).za6
def zcw:zg->Int->Bool->(List Str)->Option (Bool×(List Str)×Unit):=(zn Lp.big).zcw
def zac:zg->Int->Bool->(List Str)->Option (Bool×(List Str)×Unit):=(zn Lp.big).zac
def zhJ:Str->Str->Bool->(List Str)->zg->Option (Bool×(List Str)×zg×Unit):=(zn Lp.big).zhJ
def zi9:Bool->(List Str)->zg->Option (Bool×(List Str)×zg×Unit):=(zn Lp.big).zi9
def zgM:zg->Bool->(List Str)->Option (Bool×(List Str)×Unit):=(zn Lp.big).zgM
def zf8:Str->Str->Bool->(List Str)->zg->Option (Bool×(List Str)×zg×Unit):=(zn Lp.big).zf8
def zhP:Bool->(List Str)->zg->Option (Bool×(List Str)×zg×Unit):=(zn Lp.big).zhP
def zeZ:(List zg)->Bool->(List Str)->Option (Bool×(List Str)×Unit):=(zn Lp.big).zeZ
def zgm:Str->Str->Bool->(List Str)->zg->Option (Bool×(List Str)×zg×Unit):=(zn Lp.big).zgm
def zhT:Bool->(List Str)->zg->Option (Bool×(List Str)×zg×Unit):=(zn Lp.big).zhT
def zez:zg->Bool->(List Str)->Option (Bool×(List Str)×Unit):=(zn Lp.big).zez
def zgg:Str->Str->Bool->(List Str)->zg->Option (Bool×(List Str)×zg×Unit):=(zn Lp.big).zgg
def zfR:Bool->(List Str)->zg->Option (Bool×(List Str)×zg×Unit):=(zn Lp.big).zfR
def zgd:zg->Bool->(List Str)->Option (Bool×(List Str)×Unit):=(zn Lp.big).zgd
def zgl:Str->Str->Bool->(List Str)->(List zg)->Option (Bool×(List Str)×(List zg)×Unit):=(zn Lp.big).zgl
def zft:Bool->(List Str)->(List zg)->Option (Bool×(List Str)×(List zg)×Unit):=(zn Lp.big).zft
def zeb:Str->Str->Bool->(List Str)->(List zg)->Option (Bool×(List Str)×(List zg)×Unit):=(zn Lp.big).zeb
def zfv:Bool->(List Str)->(List zg)->Option (Bool×(List Str)×(List zg)×Unit):=(zn Lp.big).zfv
def zgf:Str->Str->Bool->(List Str)->(List zg)->Option (Bool×(List Str)×(List zg)×Unit):=(zn Lp.big).zgf
def zfp:Bool->(List Str)->(List zg)->Option (Bool×(List Str)×(List zg)×Unit):=(zn Lp.big).zfp
def zdO:Str->zg->Bool->(List Str)->Option (Bool×(List Str)×Unit):=(zn Lp.big).zdO
def zdT:zg->Bool->(List Str)->Option (Bool×(List Str)×Unit):=(zn Lp.big).zdT
def zi3:zg->Bool->(List Str)->Option (Bool×(List Str)×Unit):=(zn Lp.big).zi3
structure zaI where
 zaD:zg->zg->Option (Bool×Unit)
def zj0:Shape:=⟨[(0,.st 25),(1,.st 25)],[]⟩
def zjR(b:zaI):=callee Y [] zj0 zrK (u2 b.zaD)
structure zhz (g_:zaI):Prop where
 zaD:COk hY Tryz.prog zao 12 (zjR g_)
def zbd(j:zaI):Int×Int×zg×zg×Unit->zHr| (b,a,c,d,())=>if(decide (a<b))=true then(zQ c.L a).bind λe=>(zQ d.L a).bind λf=>(j.zaD (zy e) (zy f)).bind λg=>if(!g.1)=true then some (.inr (false,()))else let h:=(IntKind.wrap .i64 (a+1));some (.inl (b,h,(zy c),(zy d),()))else some (.inr (true,()))
def zbq(j:zaI):Int×Int×zg×zg×Unit->zHr| (d,a,b,c,())=>if(decide (a<d))=true then(zQ b.Names a).bind λe=>(zQ c.Names a).bind λf=>if(!(e==f))=true then some (.inr (false,()))else let g:=(IntKind.wrap .i64 (a+1));some (.inl (d,g,(zy b),(zy c),()))else let h:=((b.L.length:Nat):Int);ziz .inr (Lp.loop (zbd j) (h,0,(zy b),(zy c),()))
def zeJ(i:zaI)(a:zg)(b:zg):Option (Bool×Unit):=let c:=((a.Kind !=b.Kind)||(!(a.Name==b.Name)));let d:=((c||(a.Num !=b.Num))||(!(a.Text==b.Text)));let e:=(d||(((a.Names.length:Nat):Int) !=((b.Names.length:Nat):Int)));let f:=(e||(((a.L.length:Nat):Int) !=((b.L.length:Nat):Int)));if f=true then some (false,())else let g:=((a.Names.length:Nat):Int);Lp.loop (zbq i) (g,0,(zy a),(zy b),())
def zq7(b:zaI):=callee Y [] zj0 zrK (u2 (zeJ b))
def zqp(b:zaI):zaf Y (zY Y zrK):=(.loop [[7,5,2,1,2,2],[8,5,2,1,2,2],[6,2,1,2,2],[2,2,2]] ⟨[(2,.ptr 0 0),(3,.ptr 1 0),(53,.int .i64),(54,.int .i64)],[.whole 25 25,.whole 25 25]⟩ (zbq b) .nil (.loop [[7,5,2,1,2,2,2],[8,5,2,1,2,2,2],[6,2,1,2,2,2],[2,2,2,2]] ⟨[(2,.ptr 0 0),(3,.ptr 1 0),(71,.int .i64),(72,.int .i64)],[.whole 25 25,.whole 25 25]⟩ (zbd b) .nil .nil))
theorem znC(b:zaI)(d:zhz b):K8 12 (zq7 b):=f8 (zqp b) Tryz.func12 (.cons d.zaD .nil) ⟨λz=>by kernel_rfl,trivial,⟨λz=>by kernel_rfl,trivial,trivial⟩⟩
def zaH:Nat->zaI
 |0=>⟨λ_ _=>none⟩
 |n+1=>⟨zeJ (zaH n)⟩
theorem zgZ: ∀n,zhz (zaH n)
 |0=>⟨COk.none ⟨⟨_,Tryz.func12,by kernel_rfl,rfl⟩⟩⟩
 |n+1=>⟨znC _ (zgZ n)⟩
def zaD:zg->zg->Option (Bool×Unit):=(zaH Lp.big).zaD
theorem zpU:K8 12 (zjR (zaH Lp.big)):=(zgZ Lp.big).zaD
def zcA(e:Bool)(f:Int)(b:zg)(c:zg)(g:zg)(a:zg):Option (Bool×Unit):=(room (([]:List zg).length+b.L.length)).bind λ_=>let d:=[]++b.L;(room (d.length+c.L.length)).bind λ_=>let h:=d++c.L;if(e&&(f==0))=true then(zaD (zy g) ⟨a.Kind,a.Name,a.Num,a.Text,a.Names,h⟩).bind λi=>some (i.1,())else some (false,())
def zaC(a:Bool)(b:Int)(j:zg)(k:zg)(c:zg)(d:Int)(e:Str)(f:Int)(g:Str)(h:List Str)(i:List zg):Option (Bool×Unit):=if(b==0)=true then(zaD (zy c) ⟨d,e,f,g,h,i⟩).bind λl=>if l.1=true then some (a,())else zcA a b (zy j) (zy k) (zy c) ⟨d,e,f,g,h,i⟩else zcA a b (zy j) (zy k) (zy c) ⟨d,e,f,g,h,i⟩
def zcm(a:Str)(b:Str):Option (Bool×Unit):=zfJ.bind λf=>(zaA a).bind λd=>(zaA b).bind λc=>let r:=((d.2.2.1 !=0)||(c.2.2.1 !=0));let s:=(r||(decide ((IntKind.wrap .i64 (((a.length:Nat):Int)+3))>(IntKind.wrap .i64 (4096 - ((b.length:Nat):Int))))));if s=true then some (f.1,())else(zgy a [10,59,10]).bind λt=>(zgy t b).bind λu=>(zaA u).bind λe=>fk ((room (([]:List zg).length+d.1.L.length)).bind λ_=>let g:=[]++d.1.L;fk (fk ((room (g.length+([⟨40,[],0,[],[],[]⟩]:List zg).length)).bind λ_=>let i:=g++[⟨40,[],0,[],[],[]⟩];fd ((room (i.length+c.1.L.length)).bind λ_=>let v:=i++c.1.L;zaC f.1 e.2.2.1 (zy d.1) (zy c.1) (zy e.1) 41 [] 0 [] [] v)) ((room (g.length+([⟨40,[],0,[],[],[]⟩]:List zg).length)).bind λ_=>let j:=g++[⟨40,[],0,[],[],[]⟩];(room (j.length+c.1.L.length)).bind λ_=>let x:=j++c.1.L;zaC f.1 e.2.2.1 (zy d.1) (zy c.1) (zy e.1) 41 [] 0 [] [] x)) ((room (g.length+([⟨40,[],0,[],[],[]⟩]:List zg).length)).bind λ_=>let k:=g++[⟨40,[],0,[],[],[]⟩];(room (k.length+c.1.L.length)).bind λ_=>let y:=k++c.1.L;zaC f.1 e.2.2.1 (zy d.1) (zy c.1) (zy e.1) 41 [] 0 [] [] y)) (fk (fk ((room (([]:List zg).length+d.1.L.length)).bind λ_=>let h:=[]++d.1.L;fk ((room (h.length+([⟨40,[],0,[],[],[]⟩]:List zg).length)).bind λ_=>let l:=h++[⟨40,[],0,[],[],[]⟩];fd ((room (l.length+c.1.L.length)).bind λ_=>let z:=l++c.1.L;zaC f.1 e.2.2.1 (zy d.1) (zy c.1) (zy e.1) 41 [] 0 [] [] z)) ((room (h.length+([⟨40,[],0,[],[],[]⟩]:List zg).length)).bind λ_=>let m:=h++[⟨40,[],0,[],[],[]⟩];(room (m.length+c.1.L.length)).bind λ_=>let A:=m++c.1.L;zaC f.1 e.2.2.1 (zy d.1) (zy c.1) (zy e.1) 41 [] 0 [] [] A)) ((room (([]:List zg).length+d.1.L.length)).bind λ_=>let n:=[]++d.1.L;(room (n.length+([⟨40,[],0,[],[],[]⟩]:List zg).length)).bind λ_=>let o:=n++[⟨40,[],0,[],[],[]⟩];(room (o.length+c.1.L.length)).bind λ_=>let B:=o++c.1.L;zaC f.1 e.2.2.1 (zy d.1) (zy c.1) (zy e.1) 41 [] 0 [] [] B)) (fd ((room (([]:List zg).length+d.1.L.length)).bind λ_=>let p:=[]++d.1.L;(room (p.length+([⟨40,[],0,[],[],[]⟩]:List zg).length)).bind λ_=>let q:=p++[⟨40,[],0,[],[],[]⟩];(room (q.length+c.1.L.length)).bind λ_=>let C:=q++c.1.L;zaC f.1 e.2.2.1 (zy d.1) (zy c.1) (zy e.1) 41 [] 0 [] [] C)))
def zgW:=callee Y [] zkF zrK (u2 zcm)
def zlU:zaf Y (zY Y zrK):=(.join [[1,1,2,2,2,2,2,2,2],[2,1,2,2,2,2,2,2,2],[2,2,2,2,2,2,2,2]] ⟨[(5,.bool),(6,.ptr 0 0),(9,.ptr 1 0),(12,.ptr 2 0),(14,.int .i64),(15,.ptr 3 0)],[.whole 25 25,.whole 25 25,.whole 25 25,oc0 4 5,.arr 9,.arr 25]⟩ (u11 zaC) (.join [[1,2,2,2,2,2,2,2,2],[2,2,2,2,2,2,2,2,2]] ⟨[(5,.bool),(6,.ptr 0 0),(9,.ptr 1 0),(12,.ptr 2 0),(14,.int .i64),(15,.ptr 3 0)],[.whole 25 25,.whole 25 25,.whole 25 25,.whole 25 25]⟩ (u6 zcA) .nil))
theorem zlB:K8 5 (zgW):=f8 zlU Tryz.func5 (.cons zpL (.cons zmX (.cons zpU .nil))) ⟨λz=>by kernel_rfl,⟨λz=>by kernel_rfl,⟨⟩⟩⟩
end
end Go.D08
