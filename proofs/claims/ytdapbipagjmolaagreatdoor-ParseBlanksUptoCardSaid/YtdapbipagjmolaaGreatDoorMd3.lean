/- Texts for a statement of this seat. -/
import Derived.Test.YtdapbipagjmolaaGreatDoorMd2
import Derived.Lib.AppendIntMem
set_option linter.unusedSectionVars false
set_option linter.unusedVariables false
set_option linter.unusedSimpArgs false
set_option linter.unnecessarySimpa false
namespace Go.D08
open Go Go.Gw Go.Dn Go.RowKit Go.Proofs
set_option maxRecDepth 100000
variable [Lp]
noncomputable section
structure zaw (F:Heap):Prop where
 maxLen: ∃m,zgP F 0 0 (.int .i64 m)
 zyE:zgP F 7 15 (.int .u8 4)
 zBS: ∃t p,zgP F 1 0 (.iface t p)
 zA7: ∃t p,zgP F 2 0 (.iface t p)
 zxF: ∀w:World,F.Sub w->Lib.TabIs Tryz.prog w "internal/strconv.uint64pow10" .u64 Lib.pow10Tab
theorem zaw.mono{F F':Heap}(h:zaw F)(hle:F.Le F'):zaw F':=⟨h.maxLen.imp λ_ e=>zfm hle e,zfm hle h.zyE,h.zBS.imp λ_ e=>e.imp λ_ e=>zfm hle e,h.zA7.imp λ_ e=>e.imp λ_ e=>zfm hle e,λw hs=>h.zxF w ⟨λx o e=>hs.out x o (hle.out x o e)⟩⟩
theorem gm(F F':Heap)(hle:F.Le F')(h:zaw F):zaw F':=h.mono hle
@[reducible] def fd {α:Type} (x:Option α):Option α:=fk x x
def u1{a b c:Type}(f:a->b)(z:a×c):b:=f z.1
def u2{a b c d:Type}(F:a->b->d)(Z:a×b×c):d:=u1 (F Z.1) Z.2
def u3{a b c d e:Type}(F:a->b->c->e)(Z:a×b×c×d):e:=u2 (F Z.1) Z.2
def u4{a b c d e f:Type}(F:a->b->c->d->f)(Z:a×b×c×d×e):f:=u3 (F Z.1) Z.2
def u5{a b c d e f g:Type}(F:a->b->c->d->e->g)(Z:a×b×c×d×e×f):g:=u4 (F Z.1) Z.2
def u6{a b c d e f g h:Type}(F:a->b->c->d->e->f->h)(Z:a×b×c×d×e×f×g):h:=u5 (F Z.1) Z.2
def u7{a b c d e f g h i:Type}(F:a->b->c->d->e->f->g->i)(Z:a×b×c×d×e×f×g×h):i:=u6 (F Z.1) Z.2
def u8{a b c d e f g h i j:Type}(F:a->b->c->d->e->f->g->h->j)(Z:a×b×c×d×e×f×g×h×i):j:=u7 (F Z.1) Z.2
def u9{a b c d e f g h i j k:Type}(F:a->b->c->d->e->f->g->h->i->k)(Z:a×b×c×d×e×f×g×h×i×j):k:=u8 (F Z.1) Z.2
def u10{a b c d e f g h i j k l:Type}(F:a->b->c->d->e->f->g->h->i->j->l)(Z:a×b×c×d×e×f×g×h×i×j×k):l:=u9 (F Z.1) Z.2
def u11{a b c d e f g h i j k l m:Type}(F:a->b->c->d->e->f->g->h->i->j->k->m)(Z:a×b×c×d×e×f×g×h×i×j×k×l):m:=u10 (F Z.1) Z.2
def u12{a b c d e f g h i j k l m n:Type}(F:a->b->c->d->e->f->g->h->i->j->k->l->n)(Z:a×b×c×d×e×f×g×h×i×j×k×l×m):n:=u11 (F Z.1) Z.2
def u13{a b c d e f g h i j k l m n o:Type}(F:a->b->c->d->e->f->g->h->i->j->k->l->m->o)(Z:a×b×c×d×e×f×g×h×i×j×k×l×m×n):o:=u12 (F Z.1) Z.2
def u14{a b c d e f g h i j k l m n o p:Type}(F:a->b->c->d->e->f->g->h->i->j->k->l->m->n->p)(Z:a×b×c×d×e×f×g×h×i×j×k×l×m×n×o):p:=u13 (F Z.1) Z.2
def u15{a b c d e f g h i j k l m n o p q:Type}(F:a->b->c->d->e->f->g->h->i->j->k->l->m->n->o->q)(Z:a×b×c×d×e×f×g×h×i×j×k×l×m×n×o×p):q:=u14 (F Z.1) Z.2
def u16{a b c d e f g h i j k l m n o p q r:Type}(F:a->b->c->d->e->f->g->h->i->j->k->l->m->n->o->p->r)(Z:a×b×c×d×e×f×g×h×i×j×k×l×m×n×o×p×q):r:=u15 (F Z.1) Z.2
def u17{a b c d e f g h i j k l m n o p q r s:Type}(F:a->b->c->d->e->f->g->h->i->j->k->l->m->n->o->p->q->s)(Z:a×b×c×d×e×f×g×h×i×j×k×l×m×n×o×p×q×r):s:=u16 (F Z.1) Z.2
def u18{a b c d e f g h i j k l m n o p q r s t:Type}(F:a->b->c->d->e->f->g->h->i->j->k->l->m->n->o->p->q->r->t)(Z:a×b×c×d×e×f×g×h×i×j×k×l×m×n×o×p×q×r×s):t:=u17 (F Z.1) Z.2
def u19{a b c d e f g h i j k l m n o p q r s t u:Type}(F:a->b->c->d->e->f->g->h->i->j->k->l->m->n->o->p->q->r->s->u)(Z:a×b×c×d×e×f×g×h×i×j×k×l×m×n×o×p×q×r×s×t):u:=u18 (F Z.1) Z.2
def u20{a b c d e f g h i j k l m n o p q r s t u v:Type}(F:a->b->c->d->e->f->g->h->i->j->k->l->m->n->o->p->q->r->s->t->v)(Z:a×b×c×d×e×f×g×h×i×j×k×l×m×n×o×p×q×r×s×t×u):v:=u19 (F Z.1) Z.2
def oc0(a b:Nat):zbt:= .cells 25 [.int .i64,.str,.int .i64,.str,.own a,.own b]
def oc1(a:Nat):zbt:= .cells 23 [.own a]
def oc2(a:Nat):zbt:= .cells 134 [.str,.junk,.own a]
abbrev K8(n:FuncId)(C:Dn.Callee Y):Prop:=COk hY Tryz.prog zaw n C
theorem f8{f:FuncId}{fn:Func}{keep:List Nat}{σ:Shape}{outs:List zO}{T:_}{g:zd9 Y σ->Option (zV Y outs)}(c:zac Y (zV Y outs))(hf:Tryz.prog.funcs[f]? =some fn)(hT:zcm hY Tryz.prog zaw T)(hO:Obl Y Tryz.prog T fn.ntmps σ.m.length (fn.body.getD .skip) [] (zjs Y Tryz.prog σ.m.length fn.results.toList outs) (zvV Y σ.m.length outs) c)
  (h1:((fn.body.isSome&& !(fn.name== "runtime.NumGoroutine"))&&(Nat.ble (keys σ.l).length fn.ntmps&&zqh (keys σ.l) (iota 0 (keys σ.l).length)&&outs.all λo=>zgu σ.m o.m))=true:=by kernel_rfl)
  (hg: ∀z,goA Y Tryz.prog T fn.ntmps true (tbl Y σ.m.length c) (zjs Y Tryz.prog σ.m.length fn.results.toList outs) (zvV Y σ.m.length outs) 100000 false [(0,.code (fn.body.getD .skip))] (zcD Y σ z)=g z:=by intro z;kernel_rfl):K8 f (callee Y keep σ outs g):=fo c hf h1 hsz gm hT hO hg
def zf5(t:Str)(p:Str):Option (Bool):=some (Lib.hasPrefix t p)
theorem zf5.ok(t:Str)(p:Str)(r:Bool)(h0:zf5 t p=some r)(w0:World)(F0:Heap)(hv:F0.Sub w0)(hG:zaw F0)(hg:SV.zay F0 [.v (.string ⟨⟨t⟩⟩),.v (.string ⟨⟨p⟩⟩)])(ρ:Nat->Nat):
  Calls Tryz.prog 63 (SV.zad ρ [.v (.string ⟨⟨t⟩⟩),.v (.string ⟨⟨p⟩⟩)]).toArray w0 (zdc w0 F0 λs=>s= .v (.bool r)):=by
 refine(Tryz.strings_HasPrefix ⟨⟨t⟩⟩ ⟨⟨p⟩⟩ w0).mono λe w' h=>?_
 cases h0;exact zdc.pure (s:= .v _) hv h.1 h.2 trivial rfl rfl
def strings_HasPrefix(t:Str)(p:Str):Option (Bool×Unit):=ze5 (λr=>(r,())) (zf5 t p)
def zlG:Shape:=⟨[(0,.str),(1,.str)],[]⟩
def zuY:List zO:=[⟨false,.bool,[]⟩]
def zua:=callee Y [] zlG zuY (λz=>strings_HasPrefix z.1 z.2.1)
theorem ztj:K8 63 zua:=
 COk.ext (l:=zlG.l) ⟨⟨_,Tryz.func63,by kernel_rfl,rfl⟩⟩ ⟨rfl,rfl⟩ rfl λz zo h=>⟨_,_,rfl,rfl,λw F hG hv=>by
  obtain⟨r,hr,rfl⟩:=zhl h;exact zf5.ok z.1 z.2.1 r hr w F hv hG (by simp[SV.zay,SV.good]) (λ_=>0)⟩
def zdz(t:Str)(a:Str):Option (Int):=if t.length<4294967281/\a=[10,13]then some (Lib.indexAny t [10,13])else none
theorem zdz.ok(t:Str)(cs:Str)(r:Int)(h0:zdz t cs=some r)(w0:World)(F0:Heap)(hv:F0.Sub w0)(hG:zaw F0)(hg:SV.zay F0 [.v (.string ⟨⟨t⟩⟩),.v (.string ⟨⟨cs⟩⟩)])(ρ:Nat->Nat):
  Calls Tryz.prog 64 (SV.zad ρ [.v (.string ⟨⟨t⟩⟩),.v (.string ⟨⟨cs⟩⟩)]).toArray w0 (zdc w0 F0 λs=>s= .v (.int .i64 r)):=by
 unfold zdz at h0;split at h0
 ·rename_i hc;cases h0;obtain⟨hc,rfl⟩:=hc;refine(Gw.zlx Tryz.lays153 (by kernel_rfl) ⟨⟨t⟩⟩ w0 hc).mono λe w' h=>?_
  exact zdc.below (s:= .v _) hv h.1 h.2 trivial rfl rfl
 ·cases h0
def strings_IndexAny(t:Str)(a:Str):Option (Int×Unit):=ze5 (λr=>(r,())) (zdz t a)
def zu7:List zO:=[⟨false,.int .i64,[]⟩]
def zve:=callee Y [] zlG zu7 (λz=>strings_IndexAny z.1 z.2.1)
theorem zuC:K8 64 zve:=
 COk.ext (l:=zlG.l) ⟨⟨_,Tryz.func64,by kernel_rfl,rfl⟩⟩ ⟨rfl,rfl⟩ rfl λz zo h=>⟨_,_,rfl,rfl,λw F hG hv=>by
  obtain⟨r,hr,rfl⟩:=zhl h;exact zdz.ok z.1 z.2.1 r hr w F hv hG (by simp[SV.zay,SV.good]) (λ_=>0)⟩
def zeQ(t:Str)(a:Str):Option (Int):=if t.length<4294967281 then some (Lib.index t a)else none
theorem zeQ.ok(t:Str)(sub:Str)(r:Int)(h0:zeQ t sub=some r)(w0:World)(F0:Heap)(hv:F0.Sub w0)(hG:zaw F0)(hg:SV.zay F0 [.v (.string ⟨⟨t⟩⟩),.v (.string ⟨⟨sub⟩⟩)])(ρ:Nat->Nat):
  Calls Tryz.prog 65 (SV.zad ρ [.v (.string ⟨⟨t⟩⟩),.v (.string ⟨⟨sub⟩⟩)]).toArray w0 (zdc w0 F0 λs=>s= .v (.int .i64 r)):=by
 unfold zeQ at h0;split at h0
 ·rename_i hc;cases h0;obtain⟨m,hm⟩:=hG.maxLen;refine(Tryz.strings_Index ⟨⟨t⟩⟩ ⟨⟨sub⟩⟩ m w0 hc (zfc hv hm)).mono λe w' h=>?_
  exact zdc.pure (s:= .v _) hv h.1 h.2 trivial rfl rfl
 ·cases h0
def strings_Index(t:Str)(a:Str):Option (Int×Unit):=ze5 (λr=>(r,())) (zeQ t a)
def zxC:=callee Y [] zlG zu7 (λz=>strings_Index z.1 z.2.1)
theorem zxc:K8 65 zxC:=
 COk.ext (l:=zlG.l) ⟨⟨_,Tryz.func65,by kernel_rfl,rfl⟩⟩ ⟨rfl,rfl⟩ rfl λz zo h=>⟨_,_,rfl,rfl,λw F hG hv=>by
  obtain⟨r,hr,rfl⟩:=zhl h;exact zeQ.ok z.1 z.2.1 r hr w F hv hG (by simp[SV.zay,SV.good]) (λ_=>0)⟩
def zcK(t:Str)(a:Str):Option (Bool):=if t.length<4294967281/\a=[10,13]then some (Lib.containsAny t [10,13])else none
theorem zcK.ok(t:Str)(cs:Str)(r:Bool)(h0:zcK t cs=some r)(w0:World)(F0:Heap)(hv:F0.Sub w0)(hG:zaw F0)(hg:SV.zay F0 [.v (.string ⟨⟨t⟩⟩),.v (.string ⟨⟨cs⟩⟩)])(ρ:Nat->Nat):
  Calls Tryz.prog 66 (SV.zad ρ [.v (.string ⟨⟨t⟩⟩),.v (.string ⟨⟨cs⟩⟩)]).toArray w0 (zdc w0 F0 λs=>s= .v (.bool r)):=by
 unfold zcK at h0;split at h0
 ·rename_i hc;cases h0;obtain⟨hc,rfl⟩:=hc;refine(Gw.zqd Tryz.lays150 (by kernel_rfl) ⟨⟨t⟩⟩ w0 hc).mono λe w' h=>?_
  exact zdc.below (s:= .v _) hv h.1 h.2 trivial rfl rfl
 ·cases h0
def strings_ContainsAny(t:Str)(a:Str):Option (Bool×Unit):=ze5 (λr=>(r,())) (zcK t a)
def zqR:=callee Y [] zlG zuY (λz=>strings_ContainsAny z.1 z.2.1)
theorem zp2:K8 66 zqR:=
 COk.ext (l:=zlG.l) ⟨⟨_,Tryz.func66,by kernel_rfl,rfl⟩⟩ ⟨rfl,rfl⟩ rfl λz zo h=>⟨_,_,rfl,rfl,λw F hG hv=>by
  obtain⟨r,hr,rfl⟩:=zhl h;exact zcK.ok z.1 z.2.1 r hr w F hv hG (by simp[SV.zay,SV.good]) (λ_=>0)⟩
abbrev zK7:=Option ((Str×Int×Int×Bool×Unit)⊕(Bool×Unit))
abbrev zFZ:=Option ((zY×zh×Unit)⊕(zh×Unit))
abbrev zK8:=Option ((zQ×Unit)⊕(Bool×zQ×Unit))
abbrev zKC:=Option ((Int×Int×zg×zg×Unit)⊕(Bool×Unit))
abbrev zzB:=Option ((Str×Int×Int×(List UInt8)×Unit)⊕(Str×Int×Unit))
abbrev zgx:=Option ((zg×zh×Unit)⊕(zY×zh×Unit))
abbrev zaL:=Option ((zY×zh×Unit)⊕(zg×zh×Unit))
abbrev zzf:=Option (((List zg)×zh×Unit)⊕(zY×zh×Unit))
abbrev zw9:=Option (((List zg)×Int×Int×Bool×(List Str)×Unit)⊕(Bool×(List Str)×Unit))
abbrev zzn:=Option ((zh×(List zg)×Unit)⊕(zY×zh×(List zg)×Unit))
abbrev zy7:=Option ((Int×Bool×Str×Int×Int×Bool×Int×(List UInt8)×Int×Int×Unit)⊕(Int×zY×Unit))
abbrev OT9:=Option ((Str×Int×Bool×(List zk)×Str×(List zk)×Int×Int×Unit)⊕(Bool×Unit))
abbrev OT8:=Option ((zh×Str×(List zg)×Bool×Unit)⊕(zY×zh×Str×(List zg)×Bool×Unit))
abbrev OT7:=Option ((Bool×Str×zh×(List zg)×Unit)⊕(((List zg)×zh×Unit)⊕(zY×zh×Unit)))
abbrev OT6:=Option ((zh×zg×(List Str)×(List zg)×Unit)⊕(zY×zh×Int×Str×Int×Str×(List Str)×(List zg)×Unit))
abbrev OT5:=Option ((zY×zh×Int×Str×Int×Str×(List Str)×(List zg)×Unit)⊕(zh×Int×Str×Int×Str×(List Str)×(List zg)×Unit))
abbrev OT4:=Option ((zh×Int×Str×Int×Str×(List zg)×(List Str)×(List zg)×Unit)⊕(zY×zh×Int×Str×Int×Str×(List Str)×(List zg)×Unit))
abbrev OT3:=Option ((zY×zh×Str×Int×Str×Int×Str×(List Str)×(List zg)×Bool×Unit)⊕(zh×Str×Int×Str×Int×Str×(List Str)×(List zg)×Bool×Unit))
abbrev OT2:=Option ((zh×Int×Str×Int×Str×Int×Str×Int×Str×(List Str)×(List zg)×(List Str)×(List zg)×Unit)⊕((zY×zh×Unit)⊕(zg×zh×Unit)))
abbrev OT1:=Option ((Bool×zh×Int×Str×Int×Str×Int×Str×Int×Str×(List Str)×(List zg)×(List Str)×(List zg)×Unit)⊕((zY×zh×Unit)⊕(zg×zh×Unit)))
abbrev OT0:=Option ((zh×Str×Int×Str×Int×Str×(List Str)×(List zg)×Bool×Unit)⊕((zY×zh×Str×Int×Str×Int×Str×(List Str)×(List zg)×Bool×Unit)⊕(zh×Str×Int×Str×Int×Str×(List Str)×(List zg)×Bool×Unit)))
def zbP(b:Int)(a:zQ):zK8:=if a.fresh=true then(zar a.rest b ((a.rest.length:Nat):Int)).bind λc=>some (.inl (⟨a.src,c,true⟩,()))else(zar a.rest 0 b).bind λd=>(strings_ContainsAny d [10,13]).bind λe=>(zar a.rest b ((a.rest.length:Nat):Int)).bind λf=>some (.inl (⟨a.src,f,e.1⟩,()))
def zai:zQ×Unit->zK8| (a,())=>if(!(a.rest==[]))=true then(strings_HasPrefix a.rest [47,47]).bind λd=>if d.1=true then(strings_IndexAny a.rest [10,13]).bind λb=>if(decide (b.1<0))=true then let e:=((a.rest.length:Nat):Int);zbP e (zc6 a)else zbP b.1 (zc6 a)else(strings_HasPrefix a.rest [47,42]).bind λf=>if f.1=true then(zar a.rest 2 ((a.rest.length:Nat):Int)).bind λg=>(strings_Index g [42,47]).bind λc=>if(decide (c.1<0))=true then some (.inr (false,(zc6 a),()))else let h:=(IntKind.wrap .i64 (c.1+4));zbP h (zc6 a)else(zam a.rest 0).bind λi=>(if(i !=32)=true then(zam a.rest 0).bind λj=>(if(decide (j<9))=true then some true else(zam a.rest 0).bind λk=>some (decide (k>13))).bind λl=>some l else some false).bind λm=>if m=true then some (.inr (true,(zc6 a),()))else zbP 1 (zc6 a)else some (.inr (true,(zc6 a),()))
def zfX(x:zQ):Option (Bool×zQ×Unit):=Lp.loop zai (⟨x.src,x.rest,false⟩,())
def zrh:Shape:=⟨[(0,.ptr 0 0)],[.whole 69 69]⟩
def zkE:List zO:=[⟨false,.bool,[.whole 69 69]⟩]
def zrL:=callee Y [] zrh zkE (λz=>zfX z.1)
def zrC:zac Y (zV Y zkE):=(.loop [[7,5,1,2,2,9,2],[8,5,1,2,2,9,2],[6,1,2,2,9,2],[2,2,2,9,2],[10,2]] ⟨[(0,.ptr 0 0)],[.whole 69 69]⟩ (zai) (.join [[1,2,2,5,2,7,5,1,2,2,9,2],[2,2,2,5,2,7,5,1,2,2,9,2],[6,2,7,5,1,2,2,9,2],[8,5,1,2,2,9,2],[6,1,2,2,9,2],[2,2,2,9,2],[10,2]] ⟨[(0,.ptr 0 0),(3,.int .i64)],[.whole 69 69]⟩ (u2 zbP) .nil) .nil)
theorem zqC:K8 32 (zrL):=f8 zrC Tryz.func32 (.cons ztj (.cons zuC (.cons zxc (.cons zp2 .nil)))) ⟨λz=>by kernel_rfl,⟨λz=>by kernel_rfl,⟨⟩⟩,trivial⟩
def zmg(s:List zk):Option ((List zk)×Unit):=(zCj s 0 ((s.length:Nat):Int) ((s.length:Nat):Int)).bind λa=>some (a,())
def zAD:Shape:=⟨[(0,.sl 36)],[]⟩
def ztY:List zO:=[⟨false,.sl 36,[]⟩]
def zAu:=callee Y [] zAD ztY (λz=>zmg z.1)
def zAB:zac Y (zV Y ztY):= .nil
theorem zy4:K8 33 (zAu):=f8 zAB Tryz.func33 .nil trivial
def zi9(c:Int):Option (Bool×Unit):=let a:=(IntKind.wrap .u8 ((BitVec.ofInt 8 c|||BitVec.ofInt 8 32).toNat));let b:=((decide (a>=97))&&(decide ((IntKind.wrap .u8 ((BitVec.ofInt 8 c|||BitVec.ofInt 8 32).toNat))<=122)));let d:=((b||(c==95))||(c==36));some (d,())
def zzq:Shape:=⟨[(0,.int .u8)],[]⟩
def zy8:=callee Y [] zzq zuY (λz=>zi9 z.1)
def zzD:zac Y (zV Y zuY):= .nil
theorem zpp:K8 67 (zy8):=f8 zzD Tryz.func67 .nil trivial
def zjI(c:Int):Option (Bool×Unit):=let a:=((decide (c>=48))&&(decide (c<=57)));some (a,())
def zAz:=callee Y [] zzq zuY (λz=>zjI z.1)
theorem zrI:K8 70 (zAz):=f8 zzD Tryz.func70 .nil trivial
def zfy:Str×Int×Int×Unit->Option ((Str×Int×Int×Unit)⊕(Int×Unit))| (b,c,a,())=>if(decide (a<c))=true then(zam b a).bind λd=>(zi9 d).bind λe=>if(!e.1)=true then(zam b a).bind λf=>(zjI f).bind λg=>if(!g.1)=true then some (.inr (a,()))else let h:=(IntKind.wrap .i64 (a+1));some (.inl (b,c,h,()))else let i:=(IntKind.wrap .i64 (a+1));some (.inl (b,c,i,()))else some (.inr (((b.length:Nat):Int),()))
def zpu(s:Str):Option (Int×Unit):=Lp.loop zfy (s,((s.length:Nat):Int),0,())
def zCP:Shape:=⟨[(0,.str)],[]⟩
def zCM:=callee Y [] zCP zu7 (λz=>zpu z.1)
def zCZ:zac Y (zV Y zu7):=(.loop [[7,5,2,1,2],[8,5,2,1,2],[6,2,1,2],[2,2]] ⟨[(0,.str),(5,.int .i64),(6,.int .i64)],[]⟩ (zfy) .nil .nil)
theorem zvH:K8 68 (zCM):=f8 zCZ Tryz.func68 (.cons zpp (.cons zrI .nil)) ⟨λz=>by kernel_rfl,trivial,trivial⟩
def zb1(t:Str)(a:Str):Option (Bool):=if t.length<4294967281 then some (Lib.contains t a)else none
theorem zb1.ok(t:Str)(sub:Str)(r:Bool)(h0:zb1 t sub=some r)(w0:World)(F0:Heap)(hv:F0.Sub w0)(hG:zaw F0)(hg:SV.zay F0 [.v (.string ⟨⟨t⟩⟩),.v (.string ⟨⟨sub⟩⟩)])(ρ:Nat->Nat):
  Calls Tryz.prog 129 (SV.zad ρ [.v (.string ⟨⟨t⟩⟩),.v (.string ⟨⟨sub⟩⟩)]).toArray w0 (zdc w0 F0 λs=>s= .v (.bool r)):=by
 unfold zb1 at h0;split at h0
 ·rename_i hc;cases h0;obtain⟨m,hm⟩:=hG.maxLen;refine(Tryz.strings_Contains ⟨⟨t⟩⟩ ⟨⟨sub⟩⟩ m w0 hc (zfc hv hm)).mono λe w' h=>?_
  exact zdc.pure (s:= .v _) hv h.1 h.2 trivial rfl rfl
 ·cases h0
def strings_Contains(t:Str)(a:Str):Option (Bool×Unit):=ze5 (λr=>(r,())) (zb1 t a)
def zvM:=callee Y [] zlG zuY (λz=>strings_Contains z.1 z.2.1)
theorem zij:K8 129 zvM:=
 COk.ext (l:=zlG.l) ⟨⟨_,Tryz.func129,by kernel_rfl,rfl⟩⟩ ⟨rfl,rfl⟩ rfl λz zo h=>⟨_,_,rfl,rfl,λw F hG hv=>by
  obtain⟨r,hr,rfl⟩:=zhl h;exact zb1.ok z.1 z.2.1 r hr w F hv hG (by simp[SV.zay,SV.good]) (λ_=>0)⟩
def zft(e:Str)(s:Str):Option (Bool×Unit):=if(!(s==[]))=true then(strings_Contains s [32]).bind λa=>if(!a.1)=true then(zgW [32] s).bind λb=>(zgW b [32]).bind λc=>(strings_Contains e c).bind λd=>some (d.1,())else some (false,())else some (false,())
def zAE:=callee Y [] zlG zuY (u2 zft)
theorem zq1:K8 73 (zAE):=f8 zzD Tryz.func73 (.cons zij .nil) trivial
def zol(s:Str):Option (Bool×Unit):=(zft [32,98,114,101,97,107,32,99,97,115,101,32,99,97,116,99,104,32,99,108,97,115,115,32,99,111,110,115,116,32,99,111,110,116,105,110,117,101,32,100,101,98,117,103,103,101,114,32,100,101,102,97,117,108,116,32,100,101,108,101,116,101,32,100,111,32,101,108,115,101,32,101,110,117,109,32,101,120,112,111,114,116,32,101,120,116,101,110,100,115,32,102,97,108,115,101,32,102,105,110,97,108,108,121,32,102,111,114,32,102,117,110,99,116,105,111,110,32,105,102,32,105,109,112,108,101,109,101,110,116,115,32,105,109,112,111,114,116,32,105,110,32,105,110,115,116,97,110,99,101,111,102,32,105,110,116,101,114,102,97,99,101,32,108,101,116,32,110,101,119,32,110,117,108,108,32,112,97,99,107,97,103,101,32,112,114,105,118,97,116,101,32,112,114,111,116,101,99,116,101,100,32,112,117,98,108,105,99,32,114,101,116,117,114,110,32,115,116,97,116,105,99,32,115,117,112,101,114,32,115,119,105,116,99,104,32,116,104,105,115,32,116,104,114,111,119,32,116,114,117,101,32,116,114,121,32,116,121,112,101,111,102,32,118,97,114,32,118,111,105,100,32,119,104,105,108,101,32,119,105,116,104,32,121,105,101,108,100,32] s).bind λa=>some (a.1,())
def zzv:=callee Y [] zCP zuY (λz=>zol z.1)
theorem zyT:K8 69 (zzv):=f8 zzD Tryz.func69 (.cons zq1 .nil) trivial
def za7(c:Int):Option (Int×Unit):=let a:=(IntKind.wrap .u8 ((BitVec.ofInt 8 c|||BitVec.ofInt 8 32).toNat));some (a,())
def zpn:List zO:=[⟨false,.int .u8,[]⟩]
def zxH:=callee Y [] zzq zpn (λz=>za7 z.1)
def zx3:zac Y (zV Y zpn):= .nil
theorem zn7:K8 182 (zxH):=f8 zx3 Tryz.func182 .nil trivial
def zec(a:Str)(c:Int)(b:Int)(d:Bool):zK7:=(zam a b).bind λe=>if(e==95)=true then if(c !=48)=true then some (.inr (false,()))else let f:=(IntKind.wrap .i64 (b+1));some (.inl (a,95,f,d,()))else if(c==95)=true then some (.inr (false,()))else let g:=(IntKind.wrap .i64 (b+1));some (.inl (a,33,g,d,()))
def zb3:Str×Int×Int×Bool×Unit->zK7| (a,d,b,c,())=>let e:=(decide (b< ((a.length:Nat):Int)));if e=true then(zam a b).bind λf=>(if(decide (48<=f))=true then(zam a b).bind λg=>some (decide (g<=57))else some false).bind λh=>if h=true then let i:=(IntKind.wrap .i64 (b+1));some (.inl (a,48,i,c,()))else if c=true then(zam a b).bind λj=>(za7 j).bind λk=>if(decide (97<=k.1))=true then(zam a b).bind λl=>(za7 l).bind λm=>if(decide (m.1<=102))=true then let n:=(IntKind.wrap .i64 (b+1));some (.inl (a,48,n,c,()))else zec a d b c else zec a d b c else zec a d b c else some (.inr ((d !=95),()))
def zjn(a:Str)(b:Int)(c:Int)(d:Bool):Option (Bool×Unit):=let e:=(decide (((a.length:Nat):Int)>=2));(if e=true then(zam a 0).bind λf=>some (f==48)else some false).bind λg=>if g=true then(zam a 1).bind λh=>(za7 h).bind λi=>if(i.1==98)=true then(zam a 1).bind λj=>(za7 j).bind λk=>Lp.loop zb3 (a,48,2,(k.1==120),())else(zam a 1).bind λl=>(za7 l).bind λm=>if(m.1==111)=true then(zam a 1).bind λn=>(za7 n).bind λo=>Lp.loop zb3 (a,48,2,(o.1==120),())else(zam a 1).bind λp=>(za7 p).bind λq=>if(q.1==120)=true then(zam a 1).bind λr=>(za7 r).bind λs=>Lp.loop zb3 (a,48,2,(s.1==120),())else Lp.loop zb3 (a,b,c,d,())else Lp.loop zb3 (a,b,c,d,())
def zf9(a:Str)(b:Int)(c:Int):Option (Bool×Unit):=zjn a b c false
def zlj(s:Str):Option (Bool×Unit):=let a:=(decide (((s.length:Nat):Int)>=1));(if a=true then(zam s 0).bind λb=>(if(b==45)=true then some true else(zam s 0).bind λc=>some (c==43)).bind λd=>some d else some false).bind λe=>if e=true then(zar s 1 ((s.length:Nat):Int)).bind λf=>zf9 f 94 0 else zf9 s 94 0
def zpz:=callee Y [] zCP zuY (λz=>zlj z.1)
def zqk:zac Y (zV Y zuY):=(.join [[1,2,2,2,2],[2,2,2,2,2]] ⟨[(0,.str),(3,.int .i32),(4,.int .i64)],[]⟩ (u3 zf9) (.join [[1,1,2,2,2,2,2],[2,1,2,2,2,2,2],[2,2,2,2,2,2]] ⟨[(0,.str),(3,.int .i32),(4,.int .i64),(5,.bool)],[]⟩ (u4 zjn) (.loop [[7,5,1,2,2,2,2,2,2],[8,5,1,2,2,2,2,2,2],[6,1,2,2,2,2,2,2],[2,2,2,2,2,2,2]] ⟨[(0,.str),(3,.int .i32),(4,.int .i64),(5,.bool)],[]⟩ (zb3) (.join [[1,1,2,5,1,2,7,5,1,2,2,2,2,2,2],[2,1,2,5,1,2,7,5,1,2,2,2,2,2,2],[2,2,5,1,2,7,5,1,2,2,2,2,2,2],[6,1,2,7,5,1,2,2,2,2,2,2],[2,2,7,5,1,2,2,2,2,2,2],[8,5,1,2,2,2,2,2,2],[6,1,2,2,2,2,2,2],[2,2,2,2,2,2,2]] ⟨[(0,.str),(3,.int .i32),(4,.int .i64),(5,.bool)],[]⟩ (u4 zec) .nil) .nil)))
theorem zo0:K8 183 (zpz):=f8 zqk Tryz.func183 (.cons zn7 .nil) ⟨λz=>by kernel_rfl,⟨λz=>by kernel_rfl,⟨λz=>by kernel_rfl,⟨λz=>by kernel_rfl,⟨⟩⟩,trivial⟩⟩⟩
def zeY(c:Int)(d:Bool)(e:Str)(f:Int)(a:Int)(g:Bool)(h:Int)(b:Int)(i:List UInt8)(j:Int)(k:Int):zy7:=let l:=((decide (b<h))||(decide (b>a)));if l=true then some (.inr (a,(zY.code 156 1),()))else let m:=(IntKind.wrap .i64 (k+1));some (.inl (c,d,e,f,a,g,b,i,j,m,()))
def zeU(b:Int)(c:Bool)(d:Str)(e:Int)(f:Int)(g:Bool)(a:Int)(h:Int)(i:List UInt8)(j:Int)(k:Int):zy7:=let l:=(IntKind.wrap .u64 (a+(IntKind.wrap .u64 h)));zeY b c d e f g a l i j k
def ze2(a:Int)(b:Bool)(c:Str)(d:Int)(e:Int)(f:Bool)(g:Int)(h:Int)(i:List UInt8)(j:Int)(k:Int):zy7:=let l:=(IntKind.wrap .u64 (g*(IntKind.wrap .u64 a)));zeU a b c d e f l h i j k
def zeV(d:Int)(e:Bool)(f:Str)(a:Int)(b:Int)(g:Bool)(c:Int)(h:Int)(i:List UInt8)(j:Int)(k:Int):zy7:=if(decide (c>=a))=true then some (.inr (b,(zY.code 156 1),()))else ze2 d e f a b g c h i j k
def zcj(a:Int)(c:Bool)(d:Str)(e:Int)(f:Int)(g:Bool)(h:Int)(b:Int)(i:List UInt8)(j:Int)(k:Int):zy7:=let l:=(decide (b>=(IntKind.wrap .u8 a)));if l=true then some (.inr (0,(zY.code 156 2),()))else zeV a c d e f g h b i j k
def zaS:Int×Bool×Str×Int×Int×Bool×Int×(List UInt8)×Int×Int×Unit->zy7| (h,d,e,i,j,k,b,f,g,c,())=>if(decide (c<g))=true then(zL f c).bind λa=>let l:=(((a.toNat:Nat):Int)==95);if(l&&d)=true then let m:=(IntKind.wrap .i64 (c+1));some (.inl (h,d,e,i,j,true,b,f,g,m,()))else let n:=(decide (48<=((a.toNat:Nat):Int)));let o:=(n&&(decide (((a.toNat:Nat):Int)<=57)));if o=true then let p:=(IntKind.wrap .u8 (((a.toNat:Nat):Int) -48));zcj h d e i j k b p f g c else(za7 ((a.toNat:Nat):Int)).bind λq=>if(decide (97<=q.1))=true then(za7 ((a.toNat:Nat):Int)).bind λr=>if(decide (r.1<=122))=true then(za7 ((a.toNat:Nat):Int)).bind λs=>let t:=(IntKind.wrap .u8 (s.1 -97));let u:=(IntKind.wrap .u8 (t+10));zcj h d e i j k b u f g c else some (.inr (0,(zY.code 156 2),()))else some (.inr (0,(zY.code 156 2),()))else if k=true then(zlj e).bind λv=>if(!v.1)=true then some (.inr (0,(zY.code 156 2),()))else some (.inr (b,zY.nil,()))else some (.inr (b,zY.nil,()))
def zhR(a:Str)(b:Int)(c:Int)(d:Bool)(e:Str):Option (Int×zY×Unit):=(zBK .u64 18446744073709551615 (IntKind.wrap .u64 b)).bind λf=>let g:=(IntKind.wrap .u64 (f+1));(zxu .u64 1 (IntKind.wrap .u64 c)).bind λh=>let i:=(IntKind.wrap .u64 (h -1));let j:=((a.length:Nat):Int);Lp.loop zaS (b,d,e,g,i,false,0,a,j,0,())
def zeT(a:Str)(b:Int)(c:Int)(d:Bool)(e:Str)(f:Int):Option (Int×zY×Unit):=if(f==16)=true then(zxu .u64 1 (IntKind.wrap .u64 c)).bind λg=>let h:=(IntKind.wrap .u64 (g -1));let i:=((a.length:Nat):Int);Lp.loop zaS (b,d,e,1152921504606846976,h,false,0,a,i,0,())else zhR a b c d e
def ze6(a:Str)(b:Int)(c:Int)(d:Bool)(e:Str)(f:Int):Option (Int×zY×Unit):=if(f==10)=true then(zxu .u64 1 (IntKind.wrap .u64 c)).bind λg=>let h:=(IntKind.wrap .u64 (g -1));Lp.loop zaS (b,d,e,1844674407370955162,h,false,0,a,((a.length:Nat):Int),0,())else zeT a b c d e f
def zeZ(b:Str)(a:Int)(c:Int)(d:Bool)(e:Str):Option (Int×zY×Unit):=ze6 b a c d e a
def zdk(a:Str)(b:Int)(c:Int)(d:Bool)(e:Str):Option (Int×zY×Unit):=zeZ a b c d e
def ze0(b:Str)(c:Int)(a:Int)(d:Bool)(e:Str):Option (Int×zY×Unit):=let f:=((decide (a<0))||(decide (a>64)));if f=true then some (0,(zY.code 156 4),())else zdk b c a d e
def zhM(a:Str)(b:Int)(c:Bool)(d:Str):Option (Int×zY×Unit):=zdk a b 64 c d
def zbb(a:Str)(b:Int)(c:Int)(d:Bool)(e:Str):Option (Int×zY×Unit):=if(c==0)=true then zhM a b d e else ze0 a b c d e
def ziq(a:Str)(b:Int)(c:Int)(d:Bool)(e:Str):Option (Int×zY×Unit):=(zar a 1 ((a.length:Nat):Int)).bind λf=>zbb f b c d e
def zff(a:Str)(b:Int)(c:Bool)(d:Str):Option (Int×zY×Unit):=ziq a 8 b c d
def zil(a:Str)(b:Int)(c:Int)(d:Bool)(e:Str):Option (Int×zY×Unit):=(zar a 2 ((a.length:Nat):Int)).bind λf=>zbb f b c d e
def ziz(a:Str)(b:Int)(c:Bool)(d:Str):Option (Int×zY×Unit):=zil a 16 b c d
def zfr(a:Str)(b:Int)(c:Bool)(d:Str):Option (Int×zY×Unit):=let e:=(decide (((a.length:Nat):Int)>=3));if e=true then(zam a 1).bind λf=>(za7 f).bind λg=>if(g.1==120)=true then ziz a b c d else zff a b c d else zff a b c d
def zim(a:Str)(b:Int)(c:Int)(d:Bool)(e:Str):Option (Int×zY×Unit):=(zar a 2 ((a.length:Nat):Int)).bind λf=>zbb f b c d e
def zio(a:Str)(b:Int)(c:Bool)(d:Str):Option (Int×zY×Unit):=zim a 8 b c d
def zfl(a:Str)(b:Int)(c:Bool)(d:Str):Option (Int×zY×Unit):=let e:=(decide (((a.length:Nat):Int)>=3));if e=true then(zam a 1).bind λf=>(za7 f).bind λg=>if(g.1==111)=true then zio a b c d else zfr a b c d else zfr a b c d
def zez(t:Str)(o:Int)(A:Int):Option (Int×zY×Unit):=if(t==[])=true then some (0,(zY.code 156 2),())else let a:=((decide (2<=o))&&(decide (o<=36)));if a=true then zbb t o A (o==0) t else if(o==0)=true then(zam t 0).bind λb=>if(b==48)=true then let c:=(decide (((t.length:Nat):Int)>=3));if c=true then(zam t 1).bind λd=>(za7 d).bind λe=>if(e.1==98)=true then(zar t 2 ((t.length:Nat):Int)).bind λf=>zbb f 2 A (o==0) t else zfl t A (o==0) t else zfl t A (o==0) t else zbb t 10 A (o==0) t else some (0,(zY.code 156 3),())
def zop:Shape:=⟨[(0,.str),(1,.int .i64),(2,.int .i64)],[]⟩
def ziD:List zO:=[⟨false,.tup [.int .u64,.err],[]⟩]
def zoz:=callee Y [] zop ziD (u3 zez)
def zon:zac Y (zV Y ziD):=(.join [[1,4,2,5,3,2,2,3,2,4,2,5,1,2,2,2,2],[2,4,2,5,3,2,2,3,2,4,2,5,1,2,2,2,2],[6,3,2,2,3,2,4,2,5,1,2,2,2,2],[6,1,2,2,2,2],[2,2,2,2,2]] ⟨[(0,.str),(2,.int .i64),(8,.bool),(9,.str)],[]⟩ (u4 zfl) (.join [[1,3,2,4,2,5,3,2,2,3,2,4,2,5,1,2,2,2,2],[2,3,2,4,2,5,3,2,2,3,2,4,2,5,1,2,2,2,2],[6,3,2,2,3,2,4,2,5,1,2,2,2,2],[6,1,2,2,2,2],[2,2,2,2,2]] ⟨[(0,.str),(2,.int .i64),(8,.bool),(9,.str)],[]⟩ (u4 zio) (.join [[2,3,2,4,2,5,3,2,2,3,2,4,2,5,1,2,2,2,2],[6,3,2,2,3,2,4,2,5,1,2,2,2,2],[6,1,2,2,2,2],[2,2,2,2,2]] ⟨[(0,.str),(1,.int .i64),(2,.int .i64),(8,.bool),(9,.str)],[]⟩ (u5 zim) (.join [[1,4,2,4,2,5,3,2,2,3,2,4,2,5,1,2,2,2,2],[2,4,2,4,2,5,3,2,2,3,2,4,2,5,1,2,2,2,2],[6,3,2,2,3,2,4,2,5,1,2,2,2,2],[6,1,2,2,2,2],[2,2,2,2,2]] ⟨[(0,.str),(2,.int .i64),(8,.bool),(9,.str)],[]⟩ (u4 zfr) (.join [[1,3,2,4,2,4,2,5,3,2,2,3,2,4,2,5,1,2,2,2,2],[2,3,2,4,2,4,2,5,3,2,2,3,2,4,2,5,1,2,2,2,2],[6,3,2,2,3,2,4,2,5,1,2,2,2,2],[6,1,2,2,2,2],[2,2,2,2,2]] ⟨[(0,.str),(2,.int .i64),(8,.bool),(9,.str)],[]⟩ (u4 ziz) (.join [[2,3,2,4,2,4,2,5,3,2,2,3,2,4,2,5,1,2,2,2,2],[6,3,2,2,3,2,4,2,5,1,2,2,2,2],[6,1,2,2,2,2],[2,2,2,2,2]] ⟨[(0,.str),(1,.int .i64),(2,.int .i64),(8,.bool),(9,.str)],[]⟩ (u5 zil) (.join [[1,4,2,4,2,4,2,5,3,2,2,3,2,4,2,5,1,2,2,2,2],[2,4,2,4,2,4,2,5,3,2,2,3,2,4,2,5,1,2,2,2,2],[6,3,2,2,3,2,4,2,5,1,2,2,2,2],[6,1,2,2,2,2],[2,2,2,2,2]] ⟨[(0,.str),(2,.int .i64),(8,.bool),(9,.str)],[]⟩ (u4 zff) (.join [[2,4,2,4,2,4,2,5,3,2,2,3,2,4,2,5,1,2,2,2,2],[6,3,2,2,3,2,4,2,5,1,2,2,2,2],[6,1,2,2,2,2],[2,2,2,2,2]] ⟨[(0,.str),(1,.int .i64),(2,.int .i64),(8,.bool),(9,.str)],[]⟩ (u5 ziq) (.join [[1,1,2,2,2,2,2],[2,1,2,2,2,2,2],[2,2,2,2,2,2]] ⟨[(0,.str),(1,.int .i64),(2,.int .i64),(8,.bool),(9,.str)],[]⟩ (u5 zbb) (.join [[3,2,1,2,2,2,2,2],[2,2,2,2,2,2]] ⟨[(0,.str),(1,.int .i64),(8,.bool),(9,.str)],[]⟩ (u4 zhM) (.join [[1,4,2,1,2,2,2,2,2],[2,4,2,1,2,2,2,2,2],[2,2,2,2,2,2]] ⟨[(0,.str),(1,.int .i64),(2,.int .i64),(8,.bool),(9,.str)],[]⟩ (u5 ze0) (.join [[1,2,2,2,2,2,2],[2,2,2,2,2,2,2]] ⟨[(0,.str),(1,.int .i64),(2,.int .i64),(8,.bool),(9,.str)],[]⟩ (u5 zdk) (.join [[1,1,2,2,2,2,2,2,2],[2,1,2,2,2,2,2,2,2],[2,2,2,2,2,2,2,2]] ⟨[(0,.str),(1,.int .i64),(2,.int .i64),(8,.bool),(9,.str)],[]⟩ (u5 zeZ) (.join [[1,5,2,1,2,2,2,2,2,2,2],[2,5,2,1,2,2,2,2,2,2,2],[6,2,1,2,2,2,2,2,2,2],[2,2,2,2,2,2,2,2]] ⟨[(0,.str),(1,.int .i64),(2,.int .i64),(8,.bool),(9,.str),(85,.int .i64)],[]⟩ (u6 ze6) (.join [[1,4,2,5,2,1,2,2,2,2,2,2,2],[2,4,2,5,2,1,2,2,2,2,2,2,2],[6,2,1,2,2,2,2,2,2,2],[2,2,2,2,2,2,2,2]] ⟨[(0,.str),(1,.int .i64),(2,.int .i64),(8,.bool),(9,.str),(85,.int .i64)],[]⟩ (u6 zeT) (.join [[4,2,4,2,5,2,1,2,2,2,2,2,2,2],[6,2,1,2,2,2,2,2,2,2],[2,2,2,2,2,2,2,2]] ⟨[(0,.str),(1,.int .i64),(2,.int .i64),(8,.bool),(9,.str)],[]⟩ (u5 zhR) (.loop [[7,5,2,1,2,2,2,2,2,2,2,2,2,2,2],[8,5,2,1,2,2,2,2,2,2,2,2,2,2,2],[6,2,1,2,2,2,2,2,2,2,2,2,2,2],[2,2,2,2,2,2,2,2,2,2,2,2]] ⟨[(1,.int .i64),(8,.bool),(9,.str),(10,.int .u64),(11,.int .u64),(12,.bool),(13,.int .u64),(99,.sl 5),(100,.int .i64),(101,.int .i64)],[]⟩ (zaS) (.join [[1,1,2,2,2,5,1,2,2,7,5,2,1,2,2,2,2,2,2,2,2,2,2,2],[2,1,2,2,2,5,1,2,2,7,5,2,1,2,2,2,2,2,2,2,2,2,2,2],[2,2,2,2,5,1,2,2,7,5,2,1,2,2,2,2,2,2,2,2,2,2,2],[6,1,2,2,7,5,2,1,2,2,2,2,2,2,2,2,2,2,2],[2,2,2,7,5,2,1,2,2,2,2,2,2,2,2,2,2,2],[8,5,2,1,2,2,2,2,2,2,2,2,2,2,2],[6,2,1,2,2,2,2,2,2,2,2,2,2,2],[2,2,2,2,2,2,2,2,2,2,2,2]] ⟨[(1,.int .i64),(8,.bool),(9,.str),(10,.int .u64),(11,.int .u64),(12,.bool),(13,.int .u64),(16,.int .u8),(99,.sl 5),(100,.int .i64),(101,.int .i64)],[]⟩ (u11 zcj) (.join [[1,1,2,2,2,2,5,1,2,2,7,5,2,1,2,2,2,2,2,2,2,2,2,2,2],[2,1,2,2,2,2,5,1,2,2,7,5,2,1,2,2,2,2,2,2,2,2,2,2,2],[2,2,2,2,2,5,1,2,2,7,5,2,1,2,2,2,2,2,2,2,2,2,2,2],[6,1,2,2,7,5,2,1,2,2,2,2,2,2,2,2,2,2,2],[2,2,2,7,5,2,1,2,2,2,2,2,2,2,2,2,2,2],[8,5,2,1,2,2,2,2,2,2,2,2,2,2,2],[6,2,1,2,2,2,2,2,2,2,2,2,2,2],[2,2,2,2,2,2,2,2,2,2,2,2]] ⟨[(1,.int .i64),(8,.bool),(9,.str),(10,.int .u64),(11,.int .u64),(12,.bool),(13,.int .u64),(16,.int .u8),(99,.sl 5),(100,.int .i64),(101,.int .i64)],[]⟩ (u11 zeV) (.join [[1,2,2,2,2,2,5,1,2,2,7,5,2,1,2,2,2,2,2,2,2,2,2,2,2],[2,2,2,2,2,2,5,1,2,2,7,5,2,1,2,2,2,2,2,2,2,2,2,2,2],[6,1,2,2,7,5,2,1,2,2,2,2,2,2,2,2,2,2,2],[2,2,2,7,5,2,1,2,2,2,2,2,2,2,2,2,2,2],[8,5,2,1,2,2,2,2,2,2,2,2,2,2,2],[6,2,1,2,2,2,2,2,2,2,2,2,2,2],[2,2,2,2,2,2,2,2,2,2,2,2]] ⟨[(1,.int .i64),(8,.bool),(9,.str),(10,.int .u64),(11,.int .u64),(12,.bool),(13,.int .u64),(16,.int .u8),(99,.sl 5),(100,.int .i64),(101,.int .i64)],[]⟩ (u11 ze2) (.join [[1,2,2,2,2,2,2,5,1,2,2,7,5,2,1,2,2,2,2,2,2,2,2,2,2,2],[2,2,2,2,2,2,2,5,1,2,2,7,5,2,1,2,2,2,2,2,2,2,2,2,2,2],[6,1,2,2,7,5,2,1,2,2,2,2,2,2,2,2,2,2,2],[2,2,2,7,5,2,1,2,2,2,2,2,2,2,2,2,2,2],[8,5,2,1,2,2,2,2,2,2,2,2,2,2,2],[6,2,1,2,2,2,2,2,2,2,2,2,2,2],[2,2,2,2,2,2,2,2,2,2,2,2]] ⟨[(1,.int .i64),(8,.bool),(9,.str),(10,.int .u64),(11,.int .u64),(12,.bool),(13,.int .u64),(16,.int .u8),(99,.sl 5),(100,.int .i64),(101,.int .i64)],[]⟩ (u11 zeU) (.join [[1,1,2,2,2,2,2,2,2,5,1,2,2,7,5,2,1,2,2,2,2,2,2,2,2,2,2,2],[2,1,2,2,2,2,2,2,2,5,1,2,2,7,5,2,1,2,2,2,2,2,2,2,2,2,2,2],[2,2,2,2,2,2,2,2,5,1,2,2,7,5,2,1,2,2,2,2,2,2,2,2,2,2,2],[6,1,2,2,7,5,2,1,2,2,2,2,2,2,2,2,2,2,2],[2,2,2,7,5,2,1,2,2,2,2,2,2,2,2,2,2,2],[8,5,2,1,2,2,2,2,2,2,2,2,2,2,2],[6,2,1,2,2,2,2,2,2,2,2,2,2,2],[2,2,2,2,2,2,2,2,2,2,2,2]] ⟨[(1,.int .i64),(8,.bool),(9,.str),(10,.int .u64),(11,.int .u64),(12,.bool),(13,.int .u64),(17,.int .u64),(99,.sl 5),(100,.int .i64),(101,.int .i64)],[]⟩ (u11 zeY) .nil))))) .nil)))))))))))))))))
theorem znc:K8 162 (zoz):=f8 zon Tryz.func162 (.cons zn7 (.cons zo0 .nil)) ⟨λz=>by kernel_rfl,⟨λz=>by kernel_rfl,⟨λz=>by kernel_rfl,⟨λz=>by kernel_rfl,⟨λz=>by kernel_rfl,⟨λz=>by kernel_rfl,⟨λz=>by kernel_rfl,⟨λz=>by kernel_rfl,⟨λz=>by kernel_rfl,⟨λz=>by kernel_rfl,⟨λz=>by kernel_rfl,⟨λz=>by kernel_rfl,⟨λz=>by kernel_rfl,⟨λz=>by kernel_rfl,⟨λz=>by kernel_rfl,⟨λz=>by kernel_rfl,⟨λz=>by kernel_rfl,⟨λz=>by kernel_rfl,⟨λz=>by kernel_rfl,⟨λz=>by kernel_rfl,⟨λz=>by kernel_rfl,⟨λz=>by kernel_rfl,⟨⟩⟩⟩⟩⟩⟩,trivial⟩⟩⟩⟩⟩⟩⟩⟩⟩⟩⟩⟩⟩⟩⟩⟩⟩
def zgj(f_ s_:Str)(base bits:Int)(a:zY):Option (zY×Unit):=if s_.length<=281474976710656/\(a= .code 156 2\/a= .code 156 1)then some (.opq,())else none
def zm9:Shape:=⟨[(0,.str),(1,.str),(2,.int .i64),(3,.int .i64),(4,.err)],[]⟩
def zwC:List zO:=[⟨false,.err,[]⟩]
def zwI:=callee Y [] zm9 zwC (λz=>zgj z.1 z.2.1 z.2.2.1 z.2.2.2.1 z.2.2.2.2.1)
theorem zrl(f_ s_:Str)(base bits:Int)(er:zY)(q:TypeId×Value)(r:zY×Unit)(hN:zgj f_ s_ base bits er=some r)(w:World)(F:Heap)(hv:F.Sub w)(hG:zaw F):
  Calls Tryz.prog 163 #[.string ⟨⟨f_⟩⟩,.string ⟨⟨s_⟩⟩,.int .i64 base,.int .i64 bits,zk8 er q] w (zdc w F λs=>∃q,s= .v (zk8 r.1 q)):=by
 unfold zgj at hN;split at hN
 ·rename_i hc;cases hN;obtain⟨hc,rfl|rfl⟩:=hc
  ·obtain⟨te,pe,hm⟩:=hG.zBS;refine(Tryz.strconv_toError_syntax ⟨⟨f_⟩⟩ ⟨⟨s_⟩⟩ base bits _ w hc (zfc hv hm) (.inr ⟨te,pe,rfl⟩)).mono λe w' h=>?_
   obtain⟨n,h1,_,_,h2⟩:=h;exact zdc.below (s:= .v (.iface _ (.pointer (some ⟨n,0,none⟩)))) hv h1 h2 trivial rfl ⟨(_,_),rfl⟩
  ·obtain⟨te,pe,hm⟩:=hG.zA7;refine(Tryz.strconv_toError_range ⟨⟨f_⟩⟩ ⟨⟨s_⟩⟩ base bits _ w hc (zfc hv hm) (.inr ⟨te,pe,rfl⟩)).mono λe w' h=>?_
   obtain⟨n,h1,_,_,h2⟩:=h;exact zdc.below (s:= .v (.iface _ (.pointer (some ⟨n,0,none⟩)))) hv h1 h2 trivial rfl ⟨(_,_),rfl⟩
 ·cases hN
theorem zvw:K8 163 zwI:=
 COk.zKt (l:=zm9.l) ⟨⟨_,Tryz.func163,by kernel_rfl,rfl⟩⟩ ⟨rfl,rfl⟩ rfl λz zo h w F vals hG hv hr=>by
  obtain⟨u1,r1,rfl,q1,hr⟩:=hr.inv;obtain⟨u2,r2,rfl,q2,hr⟩:=hr.inv;obtain⟨u3,r3,rfl,q3,hr⟩:=hr.inv;obtain⟨u4,r4,rfl,q4,hr⟩:=hr.inv;obtain⟨u5,r5,rfl,q5,hr⟩:=hr.inv;have hnil:=hr.zd3;subst hnil;have e1:=q1.zaZ;have e2:=q2.zaZ;have e3:=q3.zaZ;have e4:=q4.zaZ;subst e1;subst e2;subst e3;subst e4;have key: ∀(e:zY) (u:Value),Rel Y F [] (.err e) u->∃q,u=zk8 e q:=λe u h=>by cases h with| @err e q=>exact⟨q,rfl⟩
  obtain⟨q,rfl⟩:=key _ _ q5;refine(zrl z.1 z.2.1 z.2.2.1 z.2.2.2.1 z.2.2.2.2.1 q zo h w F hv hG).mono λe w' hh=>?_
  obtain⟨F',s,rfl,hgs,hu,hst,q,rfl⟩:=hh;exact⟨F',_,rfl,.err,hst⟩
def zaJ(s:Str)(b:Int)(c:Int):Option (Int×zY×Unit):=(zez s b c).bind λa=>if(!(a.2.1).isNil)=true then(zgj [80,97,114,115,101,85,105,110,116] s b c a.2.1).bind λd=>some (a.1,d.1,())else some (a.1,zY.nil,())
def zuT:=callee Y [] zop ziD (u3 zaJ)
def zuI:zac Y (zV Y ziD):= .nil
theorem zkX:K8 128 (zuT):=f8 zuI Tryz.func128 (.cons znc (.cons zvw .nil)) trivial
def zf2(x:zQ):Option (Int×Int×zQ×Unit):=(zpu x.rest).bind λb=>let f:=((x.rest.length:Nat):Int);(if(decide (b.1<f))=true then(zam x.rest b.1).bind λg=>some (g==46)else some false).bind λh=>if h=true then some (0,0,(zc6 x),())else(zar x.rest 0 b.1).bind λa=>let i:=(decide (((a.length:Nat):Int)>2));(if i=true then(zar a 0 2).bind λj=>(if(j==[48,120])=true then some true else(zar a 0 2).bind λk=>some (k==[48,88])).bind λl=>some l else some false).bind λm=>if m=true then(zar a 2 ((a.length:Nat):Int)).bind λc=>(zaJ c 16 53).bind λd=>if(!(d.2.1).isNil)=true then some (0,0,(zc6 x),())else(strings_Contains c [95]).bind λn=>if n.1=true then some (0,0,(zc6 x),())else some ((IntKind.wrap .i64 d.1),b.1,(zc6 x),())else let o:=(decide (((a.length:Nat):Int)>1));(if o=true then(zam a 0).bind λp=>some (p==48)else some false).bind λq=>if q=true then some (0,0,(zc6 x),())else(zaJ a 10 53).bind λe=>if(!(e.2.1).isNil)=true then some (0,0,(zc6 x),())else(strings_Contains a [95]).bind λr=>if r.1=true then some (0,0,(zc6 x),())else some ((IntKind.wrap .i64 e.1),b.1,(zc6 x),())
def zkb:List zO:=[⟨false,.tup [.int .i64,.int .i64],[.whole 69 69]⟩]
def zq8:=callee Y [] zrh zkb (λz=>zf2 z.1)
def zrO:zac Y (zV Y zkb):= .nil
theorem zqI:K8 71 (zq8):=f8 zrO Tryz.func71 (.cons zvH (.cons zkX (.cons zij .nil))) trivial
def znL:Dn.Callee Y:=zGU Y 5
theorem znt:K8 54 znL:=zJS Tryz.lays169 Tryz.Builder_Extra_169 ⟨⟨_,Tryz.func54,by kernel_rfl,rfl⟩⟩ hsz
def zeg(a:Str)(c:Int):Option (Int):=some (Lib.indexByte a c.toNat.toUInt8)
theorem zeg.ok(s_:Str)(c:Int)(r:Int)(h0:zeg s_ c=some r)(w0:World)(F0:Heap)(hv:F0.Sub w0)(hG:zaw F0)(hg:SV.zay F0 [.v (.string ⟨⟨s_⟩⟩),.v (.int .u8 c)])(ρ:Nat->Nat):
  Calls Tryz.prog 74 (SV.zad ρ [.v (.string ⟨⟨s_⟩⟩),.v (.int .u8 c)]).toArray w0 (zdc w0 F0 λs=>s= .v (.int .i64 r)):=by
 refine(Tryz.strings_IndexByte ⟨⟨s_⟩⟩ c w0).mono λe w' h=>?_
 cases h0;exact zdc.pure (s:= .v _) hv h.1 h.2 trivial rfl rfl
def strings_IndexByte(a:Str)(c:Int):Option (Int×Unit):=ze5 (λr=>(r,())) (zeg a c)
def zlv:Shape:=⟨[(0,.str),(1,.int .u8)],[]⟩
def zt9:=callee Y [] zlv zu7 (λz=>strings_IndexByte z.1 z.2.1)
theorem zlb:K8 74 zt9:=
 COk.ext (l:=zlv.l) ⟨⟨_,Tryz.func74,by kernel_rfl,rfl⟩⟩ ⟨rfl,rfl⟩ rfl λz zo h=>⟨_,_,rfl,rfl,λw F hG hv=>by
  obtain⟨r,hr,rfl⟩:=zhl h;exact zeg.ok z.1 z.2.1 r hr w F hv hG (by simp[SV.zay,SV.good]) (λ_=>0)⟩
def zdJ(n:Int):Option (Str×Unit):=let a:=(IntKind.wrap .u8 (Int.fdiv n (2^8)));(toB a).bind λb=>(toB (IntKind.wrap .u8 n)).bind λc=>some (([b,c]:List UInt8),())
def zCy:Shape:=⟨[(0,.int .i64)],[]⟩
def zvE:List zO:=[⟨false,.str,[]⟩]
def zBF:=callee Y [] zCy zvE (λz=>zdJ z.1)
def zA0:zac Y (zV Y zvE):= .nil
theorem zm3:K8 131 (zBF):=f8 zA0 Tryz.func131 .nil trivial
def zmG:Dn.Callee Y:=zEn Y Tryz.prog 85
theorem zl1:K8 114 zmG:=zF8 Tryz.lays240 Tryz.zAt ⟨⟨_,Tryz.func114,by kernel_rfl,rfl⟩⟩
def zat(s:Str)(b:Str)(l:List UInt8):Option (Int×zY×Str×(List UInt8)×Unit):=(room (l.length+s.length)).bind λ_=>let a:=l++s;some (((s.length:Nat):Int),zY.nil,b,a,())
def zlo:Shape:=⟨[(0,.ptr 0 1),(1,.str)],[oc2 1,.arr 5]⟩
def zgN:List zO:=[⟨false,.tup [.int .i64,.err],[oc2 1,.arr 5]⟩]
def zlp:=callee Y [] zlo zgN (u3 zat)
def zlq:zac Y (zV Y zgN):= .nil
theorem zdV:K8 53 (zlp):=f8 zlq Tryz.func53 (.cons zl1 .nil) trivial
def zfx(t:Str)(a:Str):Option (Str):=if t.length<4294967281/\a.length<4294967281/\a.all (λb=>decide (b.toNat<128))=true then some (Lib.trimS t a)else none
theorem zfx.ok(t:Str)(cs:Str)(r:Str)(h0:zfx t cs=some r)(w0:World)(F0:Heap)(hv:F0.Sub w0)(hG:zaw F0)(hg:SV.zay F0 [.v (.string ⟨⟨t⟩⟩),.v (.string ⟨⟨cs⟩⟩)])(ρ:Nat->Nat):
  Calls Tryz.prog 188 (SV.zad ρ [.v (.string ⟨⟨t⟩⟩),.v (.string ⟨⟨cs⟩⟩)]).toArray w0 (zdc w0 F0 λs=>s= .v (.string ⟨⟨r⟩⟩)):=by
 unfold zfx at h0;split at h0
 ·rename_i hc;cases h0;refine(Any.strings_Trim_ascii Tryz.lays160 (zBA (z:= .agg (Array.replicate 256 (.bool false))) (by kernel_rfl)) (by kernel_rfl) ⟨⟨t⟩⟩ ⟨⟨cs⟩⟩ w0 (Nat.le_of_lt (Nat.lt_trans hc.1 (by decide))) hc.2.1 (λj b hb=>by have:=List.all_eq_true.1 hc.2.2 b (List.mem_of_getElem? hb);simpa using this)).mono λe w' h=>?_
  exact zdc.below (s:= .v (.string ⟨⟨_⟩⟩)) hv h.1 h.2 trivial rfl rfl
 ·cases h0
def zlm(t:Str)(a:Str):Option (Str×Unit):=ze5 (λr=>(r,())) (zfx t a)
def zy5:=callee Y [] zlG zvE (λz=>zlm z.1 z.2.1)
theorem zyp:K8 188 zy5:=
 COk.ext (l:=zlG.l) ⟨⟨_,Tryz.func188,by kernel_rfl,rfl⟩⟩ ⟨rfl,rfl⟩ rfl λz zo h=>⟨_,_,rfl,rfl,λw F hG hv=>by
  obtain⟨r,hr,rfl⟩:=zhl h;exact zfx.ok z.1 z.2.1 r hr w F hv hG (by simp[SV.zay,SV.good]) (λ_=>0)⟩
def zcy(a:Int)(s:Str)(l:List UInt8):Option (Bool×Str×(List UInt8)×Unit):=let c:=(decide (((s.length:Nat):Int)<a));if c=true then some (false,s,l,())else(zar s 0 a).bind λd=>(zlm d [48,49,50,51,52,53,54,55,56,57,97,98,99,100,101,102,65,66,67,68,69,70]).bind λe=>if(!(e.1==[]))=true then some (false,s,l,())else(zar s 0 a).bind λf=>(zaJ f 16 16).bind λg=>(zar s a ((s.length:Nat):Int)).bind λh=>(zdJ (IntKind.wrap .i64 g.1)).bind λi=>(zat i.1 h l).bind λb=>some (true,b.2.2.1,b.2.2.2.1,())
def zr7:Shape:=⟨[(0,.ptr 0 0),(1,.int .i64)],[oc2 1,.arr 5]⟩
def zj6:List zO:=[⟨false,.bool,[oc2 1,.arr 5]⟩]
def zrb:=callee Y [] zr7 zj6 (u3 zcy)
def zr0:zac Y (zV Y zj6):= .nil
theorem zpP:K8 164 (zrb):=f8 zr0 Tryz.func164 (.cons zyp (.cons zkX (.cons zm3 (.cons zdV .nil)))) trivial
def zei(s:Str)(l:List UInt8):Option (Bool×Str×(List UInt8)×Unit):=if(s==[])=true then some (false,s,l,())else(zam s 0).bind λa=>(zar s 1 ((s.length:Nat):Int)).bind λb=>(strings_IndexByte [110,116,114,98,102,118] a).bind λf=>if(decide (f.1>=0))=true then(zam [10,9,13,8,12,11] f.1).bind λi=>(zdJ (IntKind.wrap .i64 i)).bind λj=>(zat j.1 b l).bind λg=>some (true,g.2.2.1,g.2.2.2.1,())else if(a==10)=true then some (true,b,l,())else if(a==120)=true then(zcy 2 b l).bind λd=>some (d.1,d.2.1,d.2.2.1,())else if(a==117)=true then(zcy 4 b l).bind λe=>some (e.1,e.2.1,e.2.2.1,())else if(a==48)=true then(zdJ 0).bind λk=>(zat k.1 b l).bind λc=>(if(c.2.2.1==[])=true then some true else(zam c.2.2.1 0).bind λm=>some (decide (m<48))).bind λn=>(if n=true then some true else(zam c.2.2.1 0).bind λo=>some (decide (o>57))).bind λp=>some (p,c.2.2.1,c.2.2.2.1,())else let q:=((a==13)||((decide (a>=49))&&(decide (a<=57))));let r:=(q||(decide (a>=128)));if r=true then some (false,b,l,())else(zdJ (IntKind.wrap .i64 a)).bind λt=>(zat t.1 b l).bind λh=>some (true,h.2.2.1,h.2.2.2.1,())
def zr4:Shape:=⟨[(0,.ptr 0 0)],[oc2 1,.arr 5]⟩
def zrn:=callee Y [] zr4 zj6 (u2 zei)
theorem zpM:K8 130 (zrn):=f8 zr0 Tryz.func130 (.cons zlb (.cons zm3 (.cons zdV (.cons zpP .nil)))) trivial
def zeX:Str×Str×(List UInt8)×Unit->Option ((Str×Str×(List UInt8)×Unit)⊕(Str×Int×Int×Unit))| (b,d,e,())=>if(!(d==[]))=true then(zam d 0).bind λa=>(zar d 1 ((d.length:Nat):Int)).bind λf=>(zam b 0).bind λi=>if(a==i)=true then fd (let j:=(IntKind.wrap .i64 (((b.length:Nat):Int) - ((f.length:Nat):Int)));some (.inr (e,j,0,())))else let k:=((a==10)||(a==13));let l:=(k||(decide (a>=128)));if l=true then some (.inr ([],0,10,()))else if(a==92)=true then(zei f e).bind λc=>if(!c.1)=true then some (.inr ([],0,10,()))else if(a !=92)=true then(zdJ (IntKind.wrap .i64 a)).bind λm=>(zat m.1 c.2.1 c.2.2.1).bind λg=>some (.inl (b,g.2.2.1,g.2.2.2.1,()))else some (.inl (b,c.2.1,c.2.2.1,()))else if(a !=92)=true then(zdJ (IntKind.wrap .i64 a)).bind λn=>(zat n.1 f e).bind λh=>some (.inl (b,h.2.2.1,h.2.2.2.1,()))else some (.inl (b,f,e,()))else some (.inr ([],0,10,()))
def zns(s:Str):Option (Str×Int×Int×Unit):=(if(s==[])=true then some true else(zam s 0).bind λa=>(if(a !=39)=true then(zam s 0).bind λb=>some (b !=34)else some false).bind λc=>some c).bind λd=>if d=true then some ([],0,10,())else(zar s 1 ((s.length:Nat):Int)).bind λe=>Lp.loop zeX (s,e,[],())
def zvF:List zO:=[⟨false,.tup [.str,.int .i64,.int .i64],[]⟩]
def zBw:=callee Y [] zCP zvF (λz=>zns z.1)
def zCu:zac Y (zV Y zvF):=(.loop [[7,5,1,2,2,2],[8,5,1,2,2,2],[6,1,2,2,2],[2,2,2,2]] ⟨[(0,.str),(5,.ptr 0 0)],[oc2 1,.arr 5]⟩ (zeX) .nil .nil)
theorem zAq:K8 72 (zBw):=f8 zCu Tryz.func72 (.cons znt (.cons zpM (.cons zm3 (.cons zdV .nil)))) ⟨λz=>by kernel_rfl,trivial,trivial⟩
def zef(b:Int)(d:Str)(e:Int)(c:zQ)(a:zk):Option (zk×Int×zQ×Unit):=(strings_IndexByte [123,125,40,41,91,93,46,59,44,60,62,43,45,42,47,37,33,63,58,61] e).bind λf=>if(decide (f.1>=0))=true then(zar d 0 1).bind λg=>some (⟨5,g,a.Num,a.At,a.Fresh⟩,1,(zc6 c),())else if(a.Kind==5)=true then(zar d 0 b).bind λh=>some (⟨a.Kind,h,a.Num,a.At,a.Fresh⟩,b,(zc6 c),())else some ((zfN a),b,(zc6 c),())
def zen(d:Int)(a:Str)(e:Int)(c:zQ)(b:zk):Option (zk×Int×zQ×Unit):=let f:=(decide (((a.length:Nat):Int)>1));if f=true then(zar a 0 2).bind λg=>(zft [32,60,61,32,62,61,32,61,61,32,33,61,32,43,43,32,45,45,32,38,38,32,124,124,32,43,61,32,45,61,32,42,61,32,47,61,32,37,61,32] g).bind λh=>if h.1=true then(zar a 0 2).bind λi=>some (⟨5,i,b.Num,b.At,b.Fresh⟩,2,(zc6 c),())else zef d a e (zc6 c) (zfN b)else zef d a e (zc6 c) (zfN b)
def zeo(x:zQ):Option (zk×Int×zQ×Unit):=(zam x.rest 0).bind λa=>(zi9 a).bind λf=>if f.1=true then(zpu x.rest).bind λb=>if(decide (b.1>32))=true then some (⟨0,[],0,0,false⟩,0,(zc6 x),())else(zar x.rest 0 b.1).bind λc=>(zol c).bind λg=>if g.1=true then some (⟨2,c,0,0,false⟩,b.1,(zc6 x),())else some (⟨1,c,0,0,false⟩,b.1,(zc6 x),())else(zjI a).bind λh=>if h.1=true then(zf2 (zc6 x)).bind λd=>some (⟨3,[],d.1,0,false⟩,d.2.1,(zc6 d.2.2.1),())else let i:=((a==39)||(a==34));if i=true then(zns x.rest).bind λe=>some (⟨4,e.1,0,0,false⟩,e.2.1,(zc6 x),())else let j:=((x.rest.length:Nat):Int);if(decide (j>2))=true then(zar x.rest 0 3).bind λk=>(zft [32,61,61,61,32,33,61,61,32] k).bind λl=>if l.1=true then(zar x.rest 0 3).bind λm=>some (⟨5,m,0,0,false⟩,3,(zc6 x),())else zen 0 x.rest a (zc6 x) ⟨0,[],0,0,false⟩else zen 0 x.rest a (zc6 x) ⟨0,[],0,0,false⟩
def zmN:List zO:=[⟨false,.tup [.st 36,.int .i64],[.whole 69 69]⟩]
def zvc:=callee Y [] zrh zmN (λz=>zeo z.1)
def zvq:zac Y (zV Y zmN):=(.join [[1,4,2,4,2,4,2,4,2,5,2,1,2,2],[2,4,2,4,2,4,2,4,2,5,2,1,2,2],[6,2,1,2,2],[2,2,2]] ⟨[(2,.ptr 1 0),(3,.int .i64),(4,.str),(5,.int .u8)],[.whole 69 69,.whole 36 36]⟩ (u5 zen) (.join [[1,4,2,4,2,4,2,4,2,4,2,5,2,1,2,2],[2,4,2,4,2,4,2,4,2,4,2,5,2,1,2,2],[6,2,1,2,2],[2,2,2]] ⟨[(2,.ptr 1 0),(3,.int .i64),(4,.str),(5,.int .u8)],[.whole 69 69,.whole 36 36]⟩ (u5 zef) .nil))
theorem zuL:K8 34 (zvc):=f8 zvq Tryz.func34 (.cons zpp (.cons zvH (.cons zyT (.cons zrI (.cons zqI (.cons zAq (.cons zq1 (.cons zlb .nil)))))))) ⟨λz=>by kernel_rfl,⟨λz=>by kernel_rfl,⟨⟩⟩⟩
def zg8:Str×zQ×(List zk)×Unit->Option ((Str×zQ×(List zk)×Unit)⊕((List zk)×Int×Int×Unit))| (c,f,d,())=>(zfX (zc6 f)).bind λb=>if b.1=true then let g:=((c.length:Nat):Int);let h:=((b.2.1.rest.length:Nat):Int);let e:=(IntKind.wrap .i64 (g -h));let i:=(b.2.1.rest==[]);if i=true then(room (d.length+([⟨0,[],0,e,b.2.1.fresh⟩]:List zk).length)).bind λ_=>let j:=d++[⟨0,[],0,e,b.2.1.fresh⟩];(zmg j).bind λk=>some (.inr (k.1,0,0,()))else(zeo (zc6 b.2.1)).bind λa=>if(a.2.1==0)=true then let l:=((c.length:Nat):Int);let m:=((a.2.2.1.rest.length:Nat):Int);let n:=(IntKind.wrap .i64 (l -m));some (.inr ([],n,60,()))else(room (d.length+([⟨a.1.Kind,a.1.Text,a.1.Num,e,a.2.2.1.fresh⟩]:List zk).length)).bind λ_=>let o:=d++[⟨a.1.Kind,a.1.Text,a.1.Num,e,a.2.2.1.fresh⟩];(zar a.2.2.1.rest a.2.1 ((a.2.2.1.rest.length:Nat):Int)).bind λp=>some (.inl (c,⟨a.2.2.1.src,p,a.2.2.1.fresh⟩,o,()))else let q:=((c.length:Nat):Int);let r:=((b.2.1.rest.length:Nat):Int);let s:=(IntKind.wrap .i64 (q -r));some (.inr ([],s,60,()))
def zpi(a:Str):Option ((List zk)×Int×Int×Unit):=let b:=(decide (((a.length:Nat):Int)>4096));if b=true then some ([],0,2,())else Lp.loop zg8 (a,⟨a,a,false⟩,[],())
def zwK:List zO:=[⟨false,.tup [.sl 36,.int .i64,.int .i64],[]⟩]
def zqN:=callee Y [] zCP zwK (λz=>zpi z.1)
def zC4:zac Y (zV Y zwK):=(.loop [[7,5,1,2,2,2,2],[8,5,1,2,2,2,2],[6,1,2,2,2,2],[2,2,2,2,2]] ⟨[(0,.str),(5,.ptr 0 0),(6,.own 1)],[.whole 69 69,.arr 36]⟩ (zg8) .nil .nil)
theorem zBu:K8 18 (zqN):=f8 zC4 Tryz.func18 (.cons zqC (.cons zy4 (.cons zuL .nil))) ⟨λz=>by kernel_rfl,trivial,trivial⟩
def zaK(s:Str)(x:zh):Option (Bool×zh×Unit):=(zL x.t 0).bind λa=>(if(a.Kind==5)=true then some true else(zL x.t 0).bind λb=>some (b.Kind==2)).bind λc=>(if c=true then(zL x.t 0).bind λd=>some (d.Text==s)else some false).bind λe=>some (e,(zi x),())
def zwD:Shape:=⟨[(0,.ptr 0 0),(1,.str)],[.whole 48 48]⟩
def zm7:List zO:=[⟨false,.bool,[.whole 48 48]⟩]
def zwG:=callee Y [] zwD zm7 (u2 zaK)
def zwA:zac Y (zV Y zm7):= .nil
theorem zbK:K8 35 (zwG):=f8 zwA Tryz.func35 .nil trivial
def zae(x:zh):Option (zk×zh×Unit):=(zL x.t 0).bind λa=>if(a.Kind !=0)=true then(zar x.t 1 ((x.t.length:Nat):Int)).bind λb=>some ((zfN a),⟨b,x.no⟩,())else some ((zfN a),(zi x),())
def zuF:Shape:=⟨[(0,.ptr 0 0)],[.whole 48 48]⟩
def zlA:List zO:=[⟨false,.st 36,[.whole 48 48]⟩]
def zh8:=callee Y [] zuF zlA (λz=>zae z.1)
def zuq:zac Y (zV Y zlA):= .nil
theorem zbg:K8 75 (zh8):=f8 zuq Tryz.func75 .nil trivial
def zG(s:Str)(x:zh):Option (Bool×zh×Unit):=(zaK s (zi x)).bind λa=>if a.1=true then(zae (zi a.2.1)).bind λb=>some (a.1,(zi b.2.1),())else some (a.1,(zi a.2.1),())
def zgr:=callee Y [] zwD zm7 (u2 zG)
theorem zan:K8 36 (zgr):=f8 zwA Tryz.func36 (.cons zbK (.cons zbg .nil)) trivial
def zaA(x:zh):Option (zY×zh×Unit):=(zL x.t 0).bind λa=>some ((zY.code 45 a.At),(zi x),())
def zlP:List zO:=[⟨true,.err,[.whole 48 48]⟩]
def zee:=callee Y [] zuF zlP (λz=>zaA z.1)
def zuE:zac Y (zV Y zlP):= .nil
theorem zaF:K8 21 (zee):=f8 zuE Tryz.func21 .nil trivial
def zcu(x:zh):Option ((zY×zh×Unit)⊕(Str×zh×Unit)):=(zL x.t 0).bind λc=>if(c.Kind !=1)=true then(zaA (zi x)).bind λa=>some (.inl (a.1,(zi a.2.1),()))else(zae (zi x)).bind λb=>some (.inr (b.1.Text,(zi b.2.1),()))
def zlN:List zO:=[⟨true,.err,[.whole 48 48]⟩,⟨false,.str,[.whole 48 48]⟩]
def zly:=callee Y [] zuF zlN (λz=>zcu z.1)
def zuy:zac Y (zV Y zlN):= .nil
theorem zdF:K8 76 (zly):=f8 zuy Tryz.func76 (.cons zaF (.cons zbg .nil)) trivial
def zX(s:Str)(x:zh):zFZ:=(zG s (zi x)).bind λa=>if(!a.1)=true then(zaA (zi a.2.1)).bind λb=>some (.inl (b.1,(zi b.2.1),()))else some (.inr ((zi a.2.1),()))
def zlO:List zO:=[⟨true,.err,[.whole 48 48]⟩,⟨false,.tup [],[.whole 48 48]⟩]
def zem:=callee Y [] zwD zlO (u2 zX)
def zuh:zac Y (zV Y zlO):= .nil
theorem zav:K8 77 (zem):=f8 zuh Tryz.func77 (.cons zan (.cons zaF .nil)) trivial
def zga(x:zh)(c:Int)(d:Str)(e:Int)(f:Str)(l:List Str)(g:List zg):OT5:=(zcu (zi x)).bind λh=>(match h with| .inl b=>some (.inl (b.1,(zi b.2.1),c,d,e,f,l,g,()))| .inr a=>(room (l.length+([a.1]:List Str).length)).bind λ_=>let i:=l++[a.1];some (.inr ((zi a.2.1),c,d,e,f,i,g,())))
def om0:List zbt:=[.cells 46 [.ptr 1 0],.whole 48 48,.cells 9 [.str],.cells 1 [.fn 242 [.ptr 4 0,.ptr 5 0]],.cells 46 [.ptr 1 0],oc0 6 7,.arr 9,.arr 25,.cells 4 [.bool]]
def om1:List zbt:=[.whole 48 48,.cells 46 [.ptr 0 0],.cells 9 [.str],.cells 1 [.fn 242 [.ptr 4 0,.ptr 5 0]],.cells 46 [.ptr 0 0],oc0 6 7,.arr 9,.arr 25,.cells 4 [.bool]]
def om2:List zbt:=[.cells 46 [.ptr 1 0],.whole 48 48,.cells 9 [.str],.cells 1 [.fn 79 [.ptr 4 0,.ptr 5 0]],.cells 46 [.ptr 1 0],oc0 6 7,.arr 9,.arr 25,.cells 4 [.bool]]
def om3:List zbt:=[.whole 48 48,.cells 46 [.ptr 0 0],.cells 9 [.str],.cells 1 [.fn 79 [.ptr 4 0,.ptr 5 0]],.cells 46 [.ptr 0 0],oc0 6 7,.arr 9,.arr 25,.cells 4 [.bool]]
def om4:List zbt:=[.cells 46 [.ptr 1 0],.whole 48 48,.cells 9 [.str],.cells 1 [.fn 236 [.ptr 4 0,.ptr 5 0]],.cells 46 [.ptr 1 0],oc1 6,.arr 25,.cells 4 [.bool]]
def om5:List zbt:=[.whole 48 48,.cells 46 [.ptr 0 0],.cells 9 [.str],.cells 1 [.fn 236 [.ptr 4 0,.ptr 5 0]],.cells 46 [.ptr 0 0],oc1 6,.arr 25,.cells 4 [.bool]]
def om6:List zbt:=[.whole 48 48,oc0 4 5,oc0 6 7,oc0 8 9,.arr 9,.arr 25,.arr 9,.arr 25,.arr 9,.arr 25]
def om7:List zbt:=[.whole 48 48,.cells 46 [.ptr 0 0],oc0 4 5,oc0 6 7,.arr 9,.arr 25,.arr 9,.arr 25]
def om8:List zbt:=[.whole 48 48,oc0 4 5,oc0 6 7,.whole 25 25,.arr 9,.arr 25,.arr 9,.arr 25]
def om9:List zbt:=[.whole 48 48,.cells 46 [.ptr 0 0],.whole 25 25,.arr 9,.arr 25]
def zG1:List zbt:=[.cells 46 [.ptr 1 0],.whole 48 48,.whole 25 25,.arr 9,.arr 25]
def zgf:List zbt:=[.whole 48 48,oc0 3 4,oc0 5 6,.arr 9,.arr 25,.arr 9,.arr 25]
def zk6:List zbt:=[.cells 46 [.ptr 1 0],.whole 48 48,oc0 3 4,.arr 9,.arr 25]
def zbD:List zbt:=[.whole 48 48,.cells 46 [.ptr 0 0],oc0 3 4,.arr 9,.arr 25]
def zD0:List zbt:=[.whole 48 48,oc0 3 4,.whole 25 25,.arr 9,.arr 25]
def zzE:List zbt:=[.whole 48 48,.cells 46 [.ptr 0 0],oc1 3,.arr 25]
def zGy:List zbt:=[.cells 46 [.ptr 1 0],.whole 48 48,oc1 3,.arr 25]
def znC:Shape:=⟨[(0,.ptr 0 0),(1,.ptr 2 0)],zk6⟩
def zik:List zO:=[⟨true,.err,zk6⟩,⟨false,.tup [],zk6⟩]
def zna:=callee Y [] znC zik (u7 zga)
def znA:zac Y (zV Y zik):= .nil
theorem zm4:K8 79 (zna):=f8 znA Tryz.func79 (.cons zdF .nil) trivial
def zdd:zh×Str×Int×Str×Int×Str×(List Str)×(List zg)×Bool×Unit->OT0| (q,b,h,i,j,k,l,m,c,())=>(zG b (zi q)).bind λe=>if(!e.1)=true then(zga (zi e.2.1) h i j k l m).bind λr=>(match r with| .inl d=>some (.inr (.inl (d.1,(zi d.2.1),b,d.2.2.1,d.2.2.2.1,d.2.2.2.2.1,d.2.2.2.2.2.1,d.2.2.2.2.2.2.1,d.2.2.2.2.2.2.2.1,c,())))| .inr a=>(zG b (zi a.1)).bind λf=>if f.1=true then some (.inr (.inr ((zi f.2.1),b,a.2.1,a.2.2.1,a.2.2.2.1,a.2.2.2.2.1,a.2.2.2.2.2.1,a.2.2.2.2.2.2.1,c,())))else(zX [44] (zi f.2.1)).bind λs=>(match s with| .inl n=>some (.inr (.inl (n.1,(zi n.2.1),b,a.2.1,a.2.2.1,a.2.2.2.1,a.2.2.2.2.1,a.2.2.2.2.2.1,a.2.2.2.2.2.2.1,c,())))| .inr o=>if(!c)=true then(zaK b (zi o.1)).bind λg=>if g.1=true then(zaA (zi g.2.1)).bind λp=>some (.inr (.inl (p.1,(zi p.2.1),b,a.2.1,a.2.2.1,a.2.2.2.1,a.2.2.2.2.1,a.2.2.2.2.2.1,a.2.2.2.2.2.2.1,c,())))else some (.inl ((zi g.2.1),b,a.2.1,a.2.2.1,a.2.2.2.1,a.2.2.2.2.1,a.2.2.2.2.2.1,a.2.2.2.2.2.2.1,c,()))else some (.inl ((zi o.1),b,a.2.1,a.2.2.1,a.2.2.2.1,a.2.2.2.2.1,a.2.2.2.2.2.1,a.2.2.2.2.2.2.1,c,()))))else some (.inr (.inr ((zi e.2.1),b,h,i,j,k,l,m,c,())))
def zfY(x:zh)(a:Str)(b:Int)(c:Str)(d:Int)(e:Str)(l:List Str)(f:List zg)(g:Bool):OT3:=Lp.loop zdd ((zi x),a,b,c,d,e,l,f,g,())
def zqX:Shape:=⟨[(0,.ptr 0 0),(1,.ptr 2 0),(2,.ptr 3 0),(3,.ptr 8 0)],om2⟩
def zkI:List zO:=[⟨true,.err,om2⟩,⟨false,.tup [],om2⟩]
def zkc:=callee Y [] zqX zkI (u9 zfY)
def zqS:zac Y (zV Y zkI):=(.loop [[7,5],[8,5],[6]] ⟨[(0,.ptr 0 0),(1,.ptr 2 0),(2,.ptr 3 0),(3,.ptr 8 0)],om2⟩ (zdd) .nil .nil)
theorem zqM:K8 133 (zkc):=f8 zqS Tryz.func133 (.cons zan (.cons zm4 (.cons zav (.cons zbK (.cons zaF .nil))))) ⟨λz=>by kernel_rfl,trivial,trivial⟩
def zfV(x:zh)(a:Str)(e:Int)(f:Str)(g:Int)(h:Str)(l:List Str)(i:List zg)(j:Bool):OT3:=(zfY ⟨x.t,false⟩ a e f g h l i j).bind λd=>(match d with| .inl b=>some (.inl (b.1,(zi b.2.1),b.2.2.1,b.2.2.2.1,b.2.2.2.2.1,b.2.2.2.2.2.1,b.2.2.2.2.2.2.1,b.2.2.2.2.2.2.2.1,b.2.2.2.2.2.2.2.2.1,b.2.2.2.2.2.2.2.2.2.1,()))| .inr c=>some (.inr (⟨c.1.t,x.no⟩,c.2.1,c.2.2.1,c.2.2.2.1,c.2.2.2.2.1,c.2.2.2.2.2.1,c.2.2.2.2.2.2.1,c.2.2.2.2.2.2.2.1,c.2.2.2.2.2.2.2.2.1,())))
def zsc:Shape:=⟨[(0,.ptr 0 0),(1,.fn 133 [.ptr 1 0,.ptr 2 0,.ptr 3 0,.ptr 8 0])],om3⟩
def zki:List zO:=[⟨true,.err,om3⟩,⟨false,.tup [],om3⟩]
def zko:=callee Y [] zsc zki (u9 zfV)
def zrW:zac Y (zV Y zki):= .nil
theorem zqj:K8 80 (zko):=f8 zrW Tryz.func80 ((.cons (COk.laid zqM) .nil):zcm hY Tryz.prog zaw [(133,(zix Y [⟨[(0,.ptr 0 0),(1,.ptr 2 0),(2,.ptr 3 0),(3,.ptr 8 0)],om2⟩,⟨[(0,.ptr 0 0),(1,.ptr 2 0),(2,.ptr 3 0),(3,.ptr 7 0)],om4⟩,⟨[(0,.ptr 0 0),(1,.ptr 2 0),(2,.ptr 3 0),(3,.ptr 8 0)],om0⟩] (zkc)))]) trivial
def zgV(d:Str)(e:Bool)(x:zh)(f:Int)(g:Str)(h:Int)(i:Str)(l:List Str)(j:List zg):OT5:=(zfV (zi x) d f g h i l j e).bind λc=>(match c with| .inl a=>some (.inl (a.1,(zi a.2.1),a.2.2.2.1,a.2.2.2.2.1,a.2.2.2.2.2.1,a.2.2.2.2.2.2.1,a.2.2.2.2.2.2.2.1,a.2.2.2.2.2.2.2.2.1,()))| .inr b=>some (.inr ((zi b.1),b.2.2.1,b.2.2.2.1,b.2.2.2.2.1,b.2.2.2.2.2.1,b.2.2.2.2.2.2.1,b.2.2.2.2.2.2.2.1,())))
def zus:Shape:=⟨[(0,.ptr 0 0),(1,.str),(2,.bool),(3,.fn 79 [.ptr 1 0,.ptr 2 0])],zbD⟩
def zlI:List zO:=[⟨true,.err,zbD⟩,⟨false,.tup [],zbD⟩]
def zlL:=callee Y [] zus zlI (u9 zgV)
def zuM:zac Y (zV Y zlI):= .nil
theorem zsZ:K8 78 (zlL):=f8 zuM Tryz.func78 ((.cons (COk.laid zqj) .nil):zcm hY Tryz.prog zaw [(80,(zix Y [⟨[(0,.ptr 0 0),(1,.fn 133 [.ptr 1 0,.ptr 2 0,.ptr 3 0,.ptr 8 0])],om3⟩,⟨[(0,.ptr 0 0),(1,.fn 81 [.ptr 1 0,.ptr 2 0])],zbD⟩,⟨[(0,.ptr 0 0),(1,.fn 241 [.ptr 1 0,.ptr 2 0])],zbD⟩,⟨[(0,.ptr 0 0),(1,.fn 133 [.ptr 1 0,.ptr 2 0,.ptr 3 0,.ptr 7 0])],om5⟩,⟨[(0,.ptr 0 0),(1,.fn 133 [.ptr 1 0,.ptr 2 0,.ptr 3 0,.ptr 8 0])],om1⟩,⟨[(0,.ptr 0 0),(1,.fn 222 [.ptr 1 0,.ptr 2 0])],zbD⟩,⟨[(0,.ptr 0 0),(1,.fn 167 [.ptr 1 0,.ptr 2 0])],zbD⟩] (zko)))]) trivial
def zaU(h:Str)(x:zh):Option (Bool×zh×Unit):=(zL x.t 0).bind λa=>(if(a.Kind==5)=true then some true else(zL x.t 0).bind λb=>some (b.Kind==2)).bind λc=>if c=true then(zL x.t 0).bind λd=>(zgW [32] d.Text).bind λe=>(zgW e [32]).bind λf=>(strings_Contains h f).bind λg=>some (g.1,(zi x),())else some (false,(zi x),())
def zkU:=callee Y [] zwD zm7 (u2 zaU)
theorem zeR:K8 136 (zkU):=f8 zwA Tryz.func136 (.cons zij .nil) trivial
def zhQ(n:zg):Option (Bool×Unit):=let a:=((n.Kind==3)||(n.Kind==11));some ((a||(n.Kind==12)),())
def zxJ:Shape:=⟨[(0,.st 25)],[]⟩
def zyk:=callee Y [] zxJ zuY (λz=>zhQ z.1)
theorem znM:K8 121 (zyk):=f8 zzD Tryz.func121 .nil trivial
def zda(n:zg)(x:zh):zFZ:=(zhQ (zB n)).bind λb=>if(!b.1)=true then(zaA (zi x)).bind λa=>some (.inl (a.1,(zi a.2.1),()))else some (.inr ((zi x),()))
def zq6:Shape:=⟨[(0,.ptr 0 0),(1,.st 25)],[.whole 48 48]⟩
def zkr:=callee Y [] zq6 zlO (u2 zda)
theorem zjR:K8 168 (zkr):=f8 zuh Tryz.func168 (.cons znM (.cons zaF .nil)) trivial
def zcw(a:Int)(b:Int):Option (Str):=if b=16 then Gw.zdt a else if -9223372036854775808<=a/\a<=9223372036854775807/\b=10 then some (Lib.itoa a)else none
theorem zcw.ok(i_:Int)(base_:Int)(r:Str)(h0:zcw i_ base_=some r)(w0:World)(F0:Heap)(hv:F0.Sub w0)(hG:zaw F0)(hg:SV.zay F0 [.v (.int .i64 i_),.v (.int .i64 base_)])(ρ:Nat->Nat):
  Calls Tryz.prog 173 (SV.zad ρ [.v (.int .i64 i_),.v (.int .i64 base_)]).toArray w0 (zdc w0 F0 λs=>s= .v (.string ⟨⟨r⟩⟩)):=by
 unfold zcw at h0;split at h0
 ·rename_i hb;subst hb;exact Gw.zdt.ok i_ r h0 w0 F0 hv ⟨hG.maxLen,hG.zyE,hG.zBS,hG.zA7,hG.zxF⟩ ⟨trivial,trivial,trivial⟩ (λ_=>0)
 ·split at h0
  ·rename_i hc;cases h0;obtain⟨h1,h2,rfl⟩:=hc;refine(Tryz.strconv_FormatInt_10 i_ h1 h2 w0 (hG.zxF w0 hv)).mono λe w' h=>?_
   obtain⟨h1,k,os,rfl⟩:=h;exact zdc.below (s:= .v (.string ⟨⟨_⟩⟩)) hv h1 (Go.Lib.below_grow _ _ (yJ _) _ _) trivial rfl rfl
  ·cases h0
def zd2(a:Int)(b:Int):Option (Str×Unit):=ze5 (λr=>(r,())) (zcw a b)
def zlw:Shape:=⟨[(0,.int .i64),(1,.int .i64)],[]⟩
def zup:=callee Y [] zlw zvE (λz=>zd2 z.1 z.2.1)
theorem ztn:K8 173 zup:=
 COk.ext (l:=zlw.l) ⟨⟨_,Tryz.func173,by kernel_rfl,rfl⟩⟩ ⟨rfl,rfl⟩ rfl λz zo h=>⟨_,_,rfl,rfl,λw F hG hv=>by
  obtain⟨r,hr,rfl⟩:=zhl h;exact zcw.ok z.1 z.2.1 r hr w F hv hG (by simp[SV.zay,SV.good]) (λ_=>0)⟩
def zhX:Str×Int×Int×(List UInt8)×Unit->zzB| (c,e,a,b,())=>if(decide (a<e))=true then(zam c a).bind λf=>if(decide (f>=128))=true then some (.inr ([],10,()))else let g:=(IntKind.wrap .i64 (2*a));let d:=(IntKind.wrap .i64 (g+1));(zam c a).bind λh=>(zL b d).bind λ_=>(zL b d).bind λl=>(zDS h).bind λi=>let j:=b.set d.toNat i;let k:=(IntKind.wrap .i64 (a+1));some (.inl (c,e,k,j,()))else some (.inr (b,0,()))
def zlY(s:Str):Option (Str×Int×Unit):=let a:=(IntKind.wrap .i64 (2*((s.length:Nat):Int)));(zyi a).bind λb=>Lp.loop zhX (s,((s.length:Nat):Int),0,(List.replicate b (UInt8.ofNat 0)),())
def zyn:List zO:=[⟨false,.tup [.str,.int .i64],[]⟩]
def zDQ:=callee Y [] zCP zyn (λz=>zlY z.1)
def zD1:zac Y (zV Y zyn):=(.loop [[7,5,2,1,2,2],[8,5,2,1,2,2],[6,2,1,2,2],[2,2,2]] ⟨[(0,.str),(4,.own 0),(11,.int .i64),(12,.int .i64)],[.arr 5]⟩ (zhX) .nil .nil)
theorem zC5:K8 246 (zDQ):=f8 zD1 Tryz.func246 .nil ⟨λz=>by kernel_rfl,trivial,trivial⟩
def zhI(x:zh):Option ((Str×zh×Unit)⊕(zY×zh×Unit)):=(zL x.t 0).bind λa=>if(a.Kind==4)=true then(zae (zi x)).bind λc=>some (.inl (a.Text,(zi c.2.1),()))else if(a.Kind==3)=true then(zd2 a.Num 10).bind λd=>(zae (zi x)).bind λe=>(zlY d.1).bind λf=>some (.inl (f.1,(zi e.2.1),()))else if(a.Kind==1)=true then(zae (zi x)).bind λg=>(zlY a.Text).bind λh=>some (.inl (h.1,(zi g.2.1),()))else if(a.Kind==2)=true then(zae (zi x)).bind λi=>(zlY a.Text).bind λj=>some (.inl (j.1,(zi i.2.1),()))else(zaA (zi x)).bind λb=>some (.inr (b.1,(zi b.2.1),()))
def zmq:List zO:=[⟨false,.str,[.whole 48 48]⟩,⟨true,.err,[.whole 48 48]⟩]
def zvp:=callee Y [] zuF zmq (λz=>zhI z.1)
def zv1:zac Y (zV Y zmq):= .nil
theorem zun:K8 243 (zvp):=f8 zv1 Tryz.func243 (.cons zbg (.cons ztn (.cons zC5 (.cons zaF .nil)))) trivial
def zc0(c:zh):Option (Int×Int×zh×Unit):=(zaU [32,43,32,45,32] (zi c)).bind λa=>if a.1=true then some (7,17,(zi a.2.1),())else(zaU [32,42,32,47,32,37,32] (zi a.2.1)).bind λb=>if b.1=true then some (8,17,(zi b.2.1),())else some (0,0,(zi b.2.1),())
def zfh(x:zh):Option (Int×Int×zh×Unit):=(zaK [124,124] (zi x)).bind λb=>if b.1=true then some (3,18,(zi b.2.1),())else(zaK [38,38] (zi b.2.1)).bind λc=>if c.1=true then some (4,18,(zi c.2.1),())else(zaU [32,61,61,32,33,61,32,61,61,61,32,33,61,61,32] (zi c.2.1)).bind λd=>if d.1=true then some (5,17,(zi d.2.1),())else(zaU [32,60,32,62,32,60,61,32,62,61,32,105,110,115,116,97,110,99,101,111,102,32] (zi d.2.1)).bind λa=>if a.1=true then some (6,17,(zi a.2.1),())else if(!a.2.1.no)=true then(zaK [105,110] (zi a.2.1)).bind λe=>if e.1=true then some (6,17,(zi e.2.1),())else zc0 (zi e.2.1)else zc0 (zi a.2.1)
def zjJ:List zO:=[⟨false,.tup [.int .i64,.int .i64],[.whole 48 48]⟩]
def zpI:=callee Y [] zuF zjJ (λz=>zfh z.1)
def zqA:zac Y (zV Y zjJ):=(.join [[1,4,2,4,2,4,2,4,2,5,1,2],[2,4,2,4,2,4,2,4,2,5,1,2],[6,1,2],[2,2]] ⟨[(0,.ptr 0 0)],[.whole 48 48]⟩ (λz=>zc0 z.1) .nil)
theorem zoI:K8 190 (zpI):=f8 zqA Tryz.func190 (.cons zbK (.cons zeR .nil)) ⟨λz=>by kernel_rfl,⟨⟩⟩
def zdq(x:zh):Option (Bool×zh×Unit):=(zaK [125] (zi x)).bind λa=>(if a.1=true then some true else(zL a.2.1.t 0).bind λb=>some (b.Kind==0)).bind λc=>(if c=true then some true else(zL a.2.1.t 0).bind λd=>some d.Fresh).bind λe=>some (e,(zi a.2.1),())
def ztv:=callee Y [] zuF zm7 (λz=>zdq z.1)
theorem zku:K8 90 (ztv):=f8 zwA Tryz.func90 (.cons zbK .nil) trivial
def zbc(x:zh):zFZ:=(zG [59] (zi x)).bind λa=>if(!a.1)=true then(zdq (zi a.2.1)).bind λb=>if(!b.1)=true then(zaA (zi b.2.1)).bind λc=>some (.inl (c.1,(zi c.2.1),()))else some (.inr ((zi b.2.1),()))else some (.inr ((zi a.2.1),()))
def zvU:=callee Y [] zuF zlO (λz=>zbc z.1)
theorem zlr:K8 84 (zvU):=f8 zuh Tryz.func84 (.cons zan (.cons zku (.cons zaF .nil))) trivial
def ze7(d:Int)(x:zh):zaL:=(zL x.t 0).bind λe=>(if(e.Kind==1)=true then(zL x.t 0).bind λf=>some (!f.Fresh)else some false).bind λg=>if g=true then(zae (zi x)).bind λa=>(zbc (zi a.2.1)).bind λh=>(match h with| .inl b=>some (.inl (b.1,(zi b.2.1),()))| .inr i=>some (.inr (⟨d,a.1.Text,0,[],[],[]⟩,(zi i.1),())))else(zbc (zi x)).bind λj=>(match j with| .inl c=>some (.inl (c.1,(zi c.2.1),()))| .inr k=>some (.inr (⟨d,[],0,[],[],[]⟩,(zi k.1),())))
def zuA:Shape:=⟨[(0,.ptr 0 0),(1,.int .i64)],[.whole 48 48]⟩
def zlD:List zO:=[⟨true,.err,[.whole 48 48]⟩,⟨false,.st 25,[.whole 48 48]⟩]
def zuX:=callee Y [] zuA zlD (u2 ze7)
def zux:zac Y (zV Y zlD):= .nil
theorem zsS:K8 89 (zuX):=f8 zux Tryz.func89 (.cons zbg (.cons zlr .nil)) trivial
structure zf where
 zaV:Bool->Str->zh->zzf
 zbm:Int->zh->zaL
 zbN:zh->Int->Str->Int->Str->(List Str)->(List zg)->OT4
 zb4:zh->Int->Str->Int->Str->(List Str)->(List zg)->OT4
 za6:zh->zaL
 za8:zh->zaL
 zbU:zh->zaL
 zal:zh->zgx
 zbE:Int->zh->zaL
 zbz:zh->zgx
 zbV:zh->zgx
 zb7:zh->zgx
 zc5:zh->zgx
 zbO:zh->Int->Str->Int->Str->(List Str)->(List zg)->OT6
 zc8:zh->Int->Str->Int->Str->(List Str)->(List zg)->OT6
 zaf:zh->zgx
 za9:Str->Bool->zh->zzf
 zcW:Str->Bool->zh->(List zg)->zzn
 zcq:zh->Str->(List zg)->Bool->OT8
 zcs:zh->Str->(List zg)->Bool->OT8
 zcb:zh->(List zg)->zzn
 zca:Str->Bool->zh->Int->Str->Int->Str->(List Str)->(List zg)->OT5
 zco:zh->Str->Int->Str->Int->Str->(List Str)->(List zg)->Bool->OT3
 zct:zh->Str->Int->Str->Int->Str->(List Str)->(List zg)->Bool->OT3
 zcz:zh->Int->Str->Int->Str->(List Str)->(List zg)->OT5
 zbv:zg->Bool->zh->zaL
 zbR:zh->Int->Str->Int->Str->(List Str)->(List zg)->OT6
 zcn:zh->Int->Str->Int->Str->(List Str)->(List zg)->OT6
 zbQ:zh->Int->Str->Int->Str->(List Str)->(List zg)->OT6
 zcJ:zh->Int->Str->Int->Str->(List Str)->(List zg)->OT6
 zcA:zh->zaL
 zbf:zh->zaL
 zaT:zh->zaL
 zc2:zh->zaL
 zb0:Str->zh->zgx
 zdm:zh->zaL
 zcN:zh->zaL
def zlk:Shape:=⟨[(0,.ptr 0 0),(1,.bool),(2,.str)],[.whole 48 48]⟩
def zhy:List zO:=[⟨false,.sl 25,[.whole 48 48]⟩,⟨true,.err,[.whole 48 48]⟩]
def ze9(b:zf):=callee Y [] zlk zhy (u3 b.zaV)
def zjr(b:zf):=callee Y [] zuA zlD (u2 b.zbm)
def ziQ:Shape:=⟨[(0,.ptr 0 0),(1,.fn 81 [.ptr 1 0,.ptr 2 0])],zbD⟩
def zfQ:List zO:=[⟨false,.tup [],[.whole 48 48,.cells 46 [.ptr 0 0],.cells 25 [.int .i64,.str,.int .i64,.str,.own 3,.sl 25],.arr 9,.arr 25]⟩,⟨true,.err,zbD⟩]
def zi5(b:zf):=callee Y [] ziQ zfQ (u7 b.zbN)
def zfs:List zO:=[⟨false,.tup [],[.cells 46 [.ptr 1 0],.whole 48 48,.cells 25 [.int .i64,.str,.int .i64,.str,.own 3,.sl 25],.arr 9,.arr 25]⟩,⟨true,.err,zk6⟩]
def zny(b:zf):=callee Y [] znC zfs (u7 b.zb4)
def zut(b:zf):=callee Y [] zuF zlD (λz=>b.za6 z.1)
def ztM(b:zf):=callee Y [] zuF zlD (λz=>b.za8 z.1)
def zue(b:zf):=callee Y [] zuF zlD (λz=>b.zbU z.1)
def zgZ:List zO:=[⟨false,.st 25,[.whole 48 48]⟩,⟨true,.err,[.whole 48 48]⟩]
def zkn(b:zf):=callee Y [] zuF zgZ (λz=>b.zal z.1)
def zkz(b:zf):=callee Y [] zuA zlD (u2 b.zbE)
def zsv(b:zf):=callee Y [] zuF zgZ (λz=>b.zbz z.1)
def zum(b:zf):=callee Y [] zuF zgZ (λz=>b.zbV z.1)
def zqE(b:zf):=callee Y [] zuF zgZ (λz=>b.zb7 z.1)
def zt4(b:zf):=callee Y [] zuF zgZ (λz=>b.zc5 z.1)
def ziP:Shape:=⟨[(0,.ptr 0 0),(1,.fn 241 [.ptr 1 0,.ptr 2 0])],zbD⟩
def zfI:List zO:=[⟨false,.tup [],om9⟩,⟨true,.err,zbD⟩]
def ziZ(b:zf):=callee Y [] ziP zfI (u7 b.zbO)
def zhd:List zO:=[⟨false,.tup [],zG1⟩,⟨true,.err,zk6⟩]
def zrm(b:zf):=callee Y [] znC zhd (u7 b.zc8)
def zuv(b:zf):=callee Y [] zuF zgZ (λz=>b.zaf z.1)
def zlf:Shape:=⟨[(0,.ptr 0 0),(1,.str),(2,.bool)],[.whole 48 48]⟩
def zht(b:zf):=callee Y [] zlf zhy (u3 b.za9)
def zjz:Shape:=⟨[(0,.ptr 0 0),(1,.str),(2,.bool),(3,.fn 236 [.ptr 1 0,.ptr 2 0])],zzE⟩
def zgH:List zO:=[⟨false,.tup [],zzE⟩,⟨true,.err,zzE⟩]
def zjQ(b:zf):=callee Y [] zjz zgH (u4 b.zcW)
def zi3:Shape:=⟨[(0,.ptr 0 0),(1,.fn 133 [.ptr 1 0,.ptr 2 0,.ptr 3 0,.ptr 7 0])],om5⟩
def zfO:List zO:=[⟨false,.tup [],om5⟩,⟨true,.err,om5⟩]
def ziU(b:zf):=callee Y [] zi3 zfO (u4 b.zcq)
def ziL:Shape:=⟨[(0,.ptr 0 0),(1,.ptr 2 0),(2,.ptr 3 0),(3,.ptr 7 0)],om4⟩
def zfG:List zO:=[⟨false,.tup [],om4⟩,⟨true,.err,om4⟩]
def ziC(b:zf):=callee Y [] ziL zfG (u4 b.zcs)
def zjO:Shape:=⟨[(0,.ptr 0 0),(1,.ptr 2 0)],zGy⟩
def zgy:List zO:=[⟨false,.tup [],zGy⟩,⟨true,.err,zGy⟩]
def zqw(b:zf):=callee Y [] zjO zgy (u2 b.zcb)
def zjC:Shape:=⟨[(0,.ptr 0 0),(1,.str),(2,.bool),(3,.fn 242 [.ptr 1 0,.ptr 2 0])],zbD⟩
def zjw(b:zf):=callee Y [] zjC zlI (u9 b.zca)
def ziK:Shape:=⟨[(0,.ptr 0 0),(1,.fn 133 [.ptr 1 0,.ptr 2 0,.ptr 3 0,.ptr 8 0])],om1⟩
def zfH:List zO:=[⟨true,.err,om1⟩,⟨false,.tup [],om1⟩]
def ziS(b:zf):=callee Y [] ziK zfH (u9 b.zco)
def zja:Shape:=⟨[(0,.ptr 0 0),(1,.ptr 2 0),(2,.ptr 3 0),(3,.ptr 8 0)],om0⟩
def zfJ:List zO:=[⟨true,.err,om0⟩,⟨false,.tup [],om0⟩]
def ziX(b:zf):=callee Y [] zja zfJ (u9 b.zct)
def zre(b:zf):=callee Y [] znC zik (u7 b.zcz)
def zjN:Shape:=⟨[(0,.ptr 0 0),(1,.st 25),(2,.bool)],[.whole 48 48]⟩
def zpx(b:zf):=callee Y [] zjN zlD (u3 b.zbv)
def ziR:Shape:=⟨[(0,.ptr 0 0),(1,.fn 222 [.ptr 1 0,.ptr 2 0])],zbD⟩
def ziO(b:zf):=callee Y [] ziR zfI (u7 b.zbR)
def znW(b:zf):=callee Y [] znC zhd (u7 b.zcn)
def ziV:Shape:=⟨[(0,.ptr 0 0),(1,.fn 167 [.ptr 1 0,.ptr 2 0])],zbD⟩
def zjc(b:zf):=callee Y [] ziV zfI (u7 b.zbQ)
def zo2(b:zf):=callee Y [] znC zhd (u7 b.zcJ)
def zrX(b:zf):=callee Y [] zuF zlD (λz=>b.zcA z.1)
def zul(b:zf):=callee Y [] zuF zlD (λz=>b.zbf z.1)
def zuj(b:zf):=callee Y [] zuF zlD (λz=>b.zaT z.1)
def zuW(b:zf):=callee Y [] zuF zlD (λz=>b.zc2 z.1)
def ztk(b:zf):=callee Y [] zwD zgZ (u2 b.zb0)
def zvt(b:zf):=callee Y [] zuF zlD (λz=>b.zdm z.1)
def zsV(b:zf):=callee Y [] zuF zlD (λz=>b.zcN z.1)
structure zy (g_:zf):Prop where
 zaV:COk hY Tryz.prog zaw 20 (ze9 g_)
 zbm:COk hY Tryz.prog zaw 37 (zjr g_)
 zbN:COk hY Tryz.prog zaw 80 (zi5 g_)
 zb4:COk hY Tryz.prog zaw 81 (zny g_)
 za6:COk hY Tryz.prog zaw 38 (zut g_)
 za8:COk hY Tryz.prog zaw 82 (ztM g_)
 zbU:COk hY Tryz.prog zaw 83 (zue g_)
 zal:COk hY Tryz.prog zaw 134 (zkn g_)
 zbE:COk hY Tryz.prog zaw 166 (zkz g_)
 zbz:COk hY Tryz.prog zaw 189 (zsv g_)
 zbV:COk hY Tryz.prog zaw 211 (zum g_)
 zb7:COk hY Tryz.prog zaw 224 (zqE g_)
 zc5:COk hY Tryz.prog zaw 237 (zt4 g_)
 zbO:COk hY Tryz.prog zaw 80 (ziZ g_)
 zc8:COk hY Tryz.prog zaw 241 (zrm g_)
 zaf:COk hY Tryz.prog zaw 91 (zuv g_)
 za9:COk hY Tryz.prog zaw 223 (zht g_)
 zcW:COk hY Tryz.prog zaw 78 (zjQ g_)
 zcq:COk hY Tryz.prog zaw 80 (ziU g_)
 zcs:COk hY Tryz.prog zaw 133 (ziC g_)
 zcb:COk hY Tryz.prog zaw 236 (zqw g_)
 zca:COk hY Tryz.prog zaw 78 (zjw g_)
 zco:COk hY Tryz.prog zaw 80 (ziS g_)
 zct:COk hY Tryz.prog zaw 133 (ziX g_)
 zcz:COk hY Tryz.prog zaw 242 (zre g_)
 zbv:COk hY Tryz.prog zaw 210 (zpx g_)
 zbR:COk hY Tryz.prog zaw 80 (ziO g_)
 zcn:COk hY Tryz.prog zaw 222 (znW g_)
 zbQ:COk hY Tryz.prog zaw 80 (zjc g_)
 zcJ:COk hY Tryz.prog zaw 167 (zo2 g_)
 zcA:COk hY Tryz.prog zaw 85 (zrX g_)
 zbf:COk hY Tryz.prog zaw 86 (zul g_)
 zaT:COk hY Tryz.prog zaw 87 (zuj g_)
 zc2:COk hY Tryz.prog zaw 88 (zuW g_)
 zb0:COk hY Tryz.prog zaw 135 (ztk g_)
 zdm:COk hY Tryz.prog zaw 92 (zvt g_)
 zcN:COk hY Tryz.prog zaw 93 (zsV g_)
def zdw(j:zf)(d:Bool)(e:Str)(f:zh)(b:List zg)(k:Int)(l:Str)(m:Int)(n:Str)(o:List Str)(p:List zg):OT7:=(j.za6 (zi f)).bind λg=>(match g with| .inl c=>some (.inr (.inr (c.1,(zi c.2.1),())))| .inr a=>(room (b.length+([(zB a.1)]:List zg).length)).bind λ_=>let h:=b++[(zB a.1)];some (.inl (d,e,(zi a.2.1),h,())))
def zdx(h:zf):Bool×Str×zh×(List zg)×Unit->OT7| (c,d,j,a,())=>(zaK d (zi j)).bind λb=>(if(!b.1)=true then(zL b.2.1.t 0).bind λk=>some (k.Kind !=0)else some false).bind λl=>if l=true then if c=true then(zG [102,117,110,99,116,105,111,110] (zi b.2.1)).bind λe=>if e.1=true then(h.zbm 39 (zi e.2.1)).bind λm=>(match m with| .inl i=>some (.inr (.inr (i.1,(zi i.2.1),())))| .inr f=>(room (a.length+([(zB f.1)]:List zg).length)).bind λ_=>let n:=a++[(zB f.1)];some (.inl (c,d,(zi f.2.1),n,())))else zdw h c d (zi e.2.1) a 0 [] 0 [] [] []else zdw h c d (zi b.2.1) a 0 [] 0 [] [] []else some (.inr (.inl (a,(zi b.2.1),())))
def zfi(d:zf)(b:Bool)(c:Str)(x:zh):zzf:=Lp.loop (zdx d) (b,c,(zi x),[],())
def ztp(b:zf):=callee Y [] zlk zhy (u3 (zfi b))
def ztE(b:zf):zac Y (zV Y zhy):=(.loop [[7,5,1,2],[8,5,1,2],[6,1,2],[2,2]] ⟨[(0,.ptr 0 0),(1,.bool),(2,.str),(6,.own 1)],[.whole 48 48,.arr 25]⟩ (zdx b) (.join [[4,2,1,2,5,2,7,5,1,2],[2,2,5,2,7,5,1,2],[6,2,7,5,1,2],[8,5,1,2],[6,1,2],[2,2]] ⟨[(0,.ptr 0 0),(1,.bool),(2,.str),(6,.own 1),(7,.ptr 2 0)],[.whole 48 48,.arr 25,oc0 3 4,.arr 9,.arr 25]⟩ (u10 (zdw b)) .nil) .nil)
theorem zo4(b:zf)(d:zy b):K8 20 (ztp b):=f8 (ztE b) Tryz.func20 (.cons zbK (.cons zan (.cons d.zbm (.cons d.za6 .nil)))) ⟨λz=>by kernel_rfl,⟨λz=>by kernel_rfl,⟨⟩⟩,trivial⟩
def zfB(o:zf)(d:zh)(p:Int)(q:Str)(r:Int)(s:Str)(e:Int)(f:Str)(g:Int)(h:Str)(t:List Str)(u:List zg)(i:List Str)(j:List zg):zaL:=(o.zbN (zi d) e f g h i j).bind λk=>(match k with| .inl a=>(zX [125] (zi a.1)).bind λl=>(match l with| .inl b=>some (.inl (b.1,(zi b.2.1),()))| .inr m=>some (.inr (⟨a.2.1,a.2.2.1,a.2.2.2.1,a.2.2.2.2.1,a.2.2.2.2.2.2.1,a.2.2.2.2.2.1⟩,(zi m.1),())))| .inr c=>some (.inl (c.1,(zi c.2.1),())))
def zfP(r:zf)(b:zh)(c:Int)(d:Str)(e:Int)(f:Str)(g:Int)(h:Str)(i:Int)(j:Str)(k:List Str)(l:List zg)(m:List Str)(n:List zg):zaL:=(zX [123] (zi b)).bind λo=>(match o with| .inl a=>some (.inl (a.1,(zi a.2.1),()))| .inr p=>zfB r (zi p.1) c d e f g h i j k l m n)
def zfC(r:zf)(c:zh)(d:Int)(e:Str)(f:Int)(g:Str)(h:Int)(i:Str)(j:Int)(k:Str)(l:List Str)(m:List zg)(n:List Str)(o:List zg):zaL:=(zgV [41] false (zi c) h i j k n o).bind λp=>(match p with| .inl b=>some (.inl (b.1,(zi b.2.1),()))| .inr a=>zfP r (zi a.1) d e f g a.2.1 a.2.2.1 a.2.2.2.1 a.2.2.2.2.1 l m a.2.2.2.2.2.1 a.2.2.2.2.2.2.1)
def zcL(r:zf)(b:zh)(c:Int)(d:Str)(e:Int)(f:Str)(g:Int)(h:Str)(i:Int)(j:Str)(k:List Str)(l:List zg)(m:List Str)(n:List zg):zaL:=(zX [40] (zi b)).bind λo=>(match o with| .inl a=>some (.inl (a.1,(zi a.2.1),()))| .inr p=>zfC r (zi p.1) c d e f g h i j k l m n)
def zeb(e:zf)(a:Int)(x:zh):zaL:=(if(a==39)=true then some true else(zL x.t 0).bind λf=>some (f.Kind==1)).bind λg=>if g=true then(zcu (zi x)).bind λh=>(match h with| .inl b=>some (.inl (b.1,(zi b.2.1),()))| .inr c=>zcL e (zi c.2.1) 0 [] 0 [] a c.1 0 [] [] [] [] [])else zcL e (zi x) 0 [] 0 [] a [] 0 [] [] [] [] []
def zo9(b:zf):=callee Y [] zuA zlD (u2 (zeb b))
def zo3(b:zf):zac Y (zV Y zlD):=(.join [[1,2,2,2],[2,2,2,2]] ⟨[(2,.ptr 1 0),(4,.ptr 2 0),(5,.ptr 3 0)],om7⟩ (u13 (zcL b)) (.join [[1,2,2,2,2],[2,2,2,2,2]] ⟨[(2,.ptr 1 0),(4,.ptr 2 0),(5,.ptr 3 0)],om7⟩ (u13 (zfC b)) (.join [[1,2,2,2,2,2],[2,2,2,2,2,2]] ⟨[(2,.ptr 1 0),(4,.ptr 2 0),(5,.ptr 3 0)],om7⟩ (u13 (zfP b)) (.join [[1,2,2,2,2,2,2],[2,2,2,2,2,2,2]] ⟨[(2,.ptr 1 0),(4,.ptr 2 0),(5,.ptr 3 0)],om7⟩ (u13 (zfB b)) .nil))))
theorem zmX(b:zf)(d:zy b):K8 37 (zo9 b):=f8 (zo3 b) Tryz.func37 ((.cons zdF (.cons zav (.cons (COk.laid zsZ) (.cons (COk.laid d.zbN) .nil)))):zcm hY Tryz.prog zaw [(76,(zly)),(77,(zem)),(78,(zix Y [⟨[(0,.ptr 0 0),(1,.str),(2,.bool),(3,.fn 79 [.ptr 1 0,.ptr 2 0])],zbD⟩,⟨[(0,.ptr 0 0),(1,.str),(2,.bool),(3,.fn 236 [.ptr 1 0,.ptr 2 0])],zzE⟩,⟨[(0,.ptr 0 0),(1,.str),(2,.bool),(3,.fn 242 [.ptr 1 0,.ptr 2 0])],zbD⟩] (zlL))),(80,(zix Y [⟨[(0,.ptr 0 0),(1,.fn 133 [.ptr 1 0,.ptr 2 0,.ptr 3 0,.ptr 8 0])],om3⟩,⟨[(0,.ptr 0 0),(1,.fn 81 [.ptr 1 0,.ptr 2 0])],zbD⟩,⟨[(0,.ptr 0 0),(1,.fn 241 [.ptr 1 0,.ptr 2 0])],zbD⟩,⟨[(0,.ptr 0 0),(1,.fn 133 [.ptr 1 0,.ptr 2 0,.ptr 3 0,.ptr 7 0])],om5⟩,⟨[(0,.ptr 0 0),(1,.fn 133 [.ptr 1 0,.ptr 2 0,.ptr 3 0,.ptr 8 0])],om1⟩,⟨[(0,.ptr 0 0),(1,.fn 222 [.ptr 1 0,.ptr 2 0])],zbD⟩,⟨[(0,.ptr 0 0),(1,.fn 167 [.ptr 1 0,.ptr 2 0])],zbD⟩] (zi5 b)))]) ⟨λz=>by kernel_rfl,⟨λz=>by kernel_rfl,⟨λz=>by kernel_rfl,⟨λz=>by kernel_rfl,⟨⟩⟩⟩⟩⟩
def zdP(j:zf)(x:zh)(e:Int)(f:Str)(g:Int)(h:Str)(l:List Str)(i:List zg):OT4:=(j.zb4 ⟨x.t,false⟩ e f g h l i).bind λc=>(match c with| .inl a=>some (.inl (⟨a.1.t,x.no⟩,a.2.1,a.2.2.1,a.2.2.2.1,a.2.2.2.2.1,a.2.2.2.2.2.1,a.2.2.2.2.2.2.1,a.2.2.2.2.2.2.2.1,()))| .inr b=>some (.inr (b.1,(zi b.2.1),b.2.2.1,b.2.2.2.1,b.2.2.2.2.1,b.2.2.2.2.2.1,b.2.2.2.2.2.2.1,b.2.2.2.2.2.2.2.1,())))
def zn4(b:zf):=callee Y [] ziQ zfQ (u7 (zdP b))
def znZ:zac Y (zV Y zfQ):= .nil
theorem zmz(b:zf)(d:zy b):K8 80 (zn4 b):=f8 znZ Tryz.func80 (.cons d.zb4 .nil) trivial
def zdB(j:zf)(x:zh)(c:Int)(d:Str)(e:Int)(f:Str)(l:List Str)(g:List zg):OT4:=(j.zaV true [125] (zi x)).bind λh=>(match h with| .inl a=>some (.inl ((zi a.2.1),c,d,e,f,a.1,l,g,()))| .inr b=>some (.inr (b.1,(zi b.2.1),c,d,e,f,l,g,())))
def znf(b:zf):=callee Y [] znC zfs (u7 (zdB b))
def znr:zac Y (zV Y zfs):= .nil
theorem zlV(b:zf)(d:zy b):K8 81 (znf b):=f8 znr Tryz.func81 (.cons d.zaV .nil) trivial
def zf6(b:zf)(x:zh):zaL:=(zaK [123] (zi x)).bind λe=>if e.1=true then(b.za8 (zi e.2.1)).bind λar=>(match ar with| .inl s=>some (.inl (s.1,(zi s.2.1),()))| .inr u=>some (.inr ((zB u.1),(zi u.2.1),())))else(zG [59] (zi e.2.1)).bind λf=>if f.1=true then some (.inr (⟨40,[],0,[],[],[]⟩,(zi f.2.1),()))else(zG [118,97,114] (zi f.2.1)).bind λg=>if g.1=true then(b.zbU (zi g.2.1)).bind λau=>(match au with| .inl v=>some (.inl (v.1,(zi v.2.1),()))| .inr y=>(zbc (zi y.2.1)).bind λav=>(match av with| .inl z=>some (.inl (z.1,(zi z.2.1),()))| .inr aw=>some (.inr ((zB y.1),(zi aw.1),()))))else(zG [105,102] (zi g.2.1)).bind λh=>if h.1=true then(b.zcA (zi h.2.1)).bind λax=>(match ax with| .inl A=>some (.inl (A.1,(zi A.2.1),()))| .inr B=>some (.inr ((zB B.1),(zi B.2.1),())))else(zG [119,104,105,108,101] (zi h.2.1)).bind λi=>if i.1=true then(b.zbf (zi i.2.1)).bind λay=>(match ay with| .inl C=>some (.inl (C.1,(zi C.2.1),()))| .inr D=>(b.zaT (zi D.2.1)).bind λaz=>(match az with| .inl E=>some (.inl (E.1,(zi E.2.1),()))| .inr H=>some (.inr (⟨27,[],0,[],[],[(zB D.1),(zB H.1)]⟩,(zi H.2.1),()))))else(zG [100,111] (zi i.2.1)).bind λj=>if j.1=true then(b.zaT (zi j.2.1)).bind λa0=>(match a0 with| .inl I=>some (.inl (I.1,(zi I.2.1),()))| .inr J=>(zX [119,104,105,108,101] (zi J.2.1)).bind λa1=>(match a1 with| .inl K=>some (.inl (K.1,(zi K.2.1),()))| .inr a2=>(b.zbf (zi a2.1)).bind λa3=>(match a3 with| .inl L=>some (.inl (L.1,(zi L.2.1),()))| .inr M=>(zbc (zi M.2.1)).bind λa4=>(match a4 with| .inl N=>some (.inl (N.1,(zi N.2.1),()))| .inr a5=>some (.inr (⟨28,[],0,[],[],[(zB J.1),(zB M.1)]⟩,(zi a5.1),()))))))else(zG [102,111,114] (zi j.2.1)).bind λk=>if k.1=true then(b.zc2 (zi k.2.1)).bind λa6=>(match a6 with| .inl O=>some (.inl (O.1,(zi O.2.1),()))| .inr P=>some (.inr ((zB P.1),(zi P.2.1),())))else(zG [98,114,101,97,107] (zi k.2.1)).bind λl=>if l.1=true then(ze7 31 (zi l.2.1)).bind λa7=>(match a7 with| .inl Q=>some (.inl (Q.1,(zi Q.2.1),()))| .inr R=>some (.inr ((zB R.1),(zi R.2.1),())))else(zG [99,111,110,116,105,110,117,101] (zi l.2.1)).bind λm=>if m.1=true then(ze7 32 (zi m.2.1)).bind λa8=>(match a8 with| .inl S=>some (.inl (S.1,(zi S.2.1),()))| .inr U=>some (.inr ((zB U.1),(zi U.2.1),())))else(zG [114,101,116,117,114,110] (zi m.2.1)).bind λn=>if n.1=true then(zaK [59] (zi n.2.1)).bind λo=>if(!o.1)=true then(zdq (zi o.2.1)).bind λp=>if(!p.1)=true then(b.zaf (zi p.2.1)).bind λa9=>(match a9 with| .inl V=>(zbc (zi V.2.1)).bind λba=>(match ba with| .inl W=>some (.inl (W.1,(zi W.2.1),()))| .inr bb=>some (.inr (⟨33,[],0,[],[],[(zB V.1)]⟩,(zi bb.1),())))| .inr X=>some (.inl (X.1,(zi X.2.1),())))else(zbc (zi p.2.1)).bind λbc=>(match bc with| .inl Z=>some (.inl (Z.1,(zi Z.2.1),()))| .inr bd=>some (.inr (⟨33,[],0,[],[],[]⟩,(zi bd.1),())))else(zbc (zi o.2.1)).bind λbe=>(match be with| .inl aa=>some (.inl (aa.1,(zi aa.2.1),()))| .inr bf=>some (.inr (⟨33,[],0,[],[],[]⟩,(zi bf.1),())))else(zG [116,104,114,111,119] (zi n.2.1)).bind λd=>if d.1=true then(zL d.2.1.t 0).bind λbg=>if bg.Fresh=true then(zaA (zi d.2.1)).bind λab=>some (.inl (ab.1,(zi ab.2.1),()))else(b.zaf (zi d.2.1)).bind λbh=>(match bh with| .inl ac=>(zbc (zi ac.2.1)).bind λbi=>(match bi with| .inl ad=>some (.inl (ad.1,(zi ad.2.1),()))| .inr bj=>some (.inr (⟨34,[],0,[],[],[(zB ac.1)]⟩,(zi bj.1),())))| .inr ae=>some (.inl (ae.1,(zi ae.2.1),())))else(zG [116,114,121] (zi d.2.1)).bind λq=>if q.1=true then(b.zdm (zi q.2.1)).bind λbk=>(match bk with| .inl af=>some (.inl (af.1,(zi af.2.1),()))| .inr ag=>some (.inr ((zB ag.1),(zi ag.2.1),())))else(zG [115,119,105,116,99,104] (zi q.2.1)).bind λr=>if r.1=true then(b.zcN (zi r.2.1)).bind λbl=>(match bl with| .inl ah=>some (.inl (ah.1,(zi ah.2.1),()))| .inr ai=>some (.inr ((zB ai.1),(zi ai.2.1),())))else(zaK [102,117,110,99,116,105,111,110] (zi r.2.1)).bind λc=>if c.1=true then(zaA (zi c.2.1)).bind λaj=>some (.inl (aj.1,(zi aj.2.1),()))else(zL c.2.1.t 0).bind λbm=>(if(bm.Kind==1)=true then(zL c.2.1.t 1).bind λbn=>some (bn.Kind==5)else some false).bind λbo=>(if bo=true then(zL c.2.1.t 1).bind λbp=>some (bp.Text==[58])else some false).bind λbq=>if bq=true then(zcu (zi c.2.1)).bind λbr=>(match br with| .inl ak=>some (.inl (ak.1,(zi ak.2.1),()))| .inr al=>(zae (zi al.2.1)).bind λbs=>(b.za6 (zi bs.2.1)).bind λbt=>(match bt with| .inl am=>some (.inl (am.1,(zi am.2.1),()))| .inr an=>some (.inr (⟨38,al.1,0,[],[],[(zB an.1)]⟩,(zi an.2.1),()))))else(b.zaf (zi c.2.1)).bind λbu=>(match bu with| .inl ao=>(zbc (zi ao.2.1)).bind λbv=>(match bv with| .inl ap=>some (.inl (ap.1,(zi ap.2.1),()))| .inr bw=>some (.inr (⟨24,[],0,[],[],[(zB ao.1)]⟩,(zi bw.1),())))| .inr aq=>some (.inl (aq.1,(zi aq.2.1),())))
def zug(b:zf):=callee Y [] zuF zlD (λz=>zf6 b z.1)
theorem zpX(d:zf)(b:zy d):K8 38 (zug d):=f8 zux Tryz.func38 (.cons zbK (.cons b.za8 (.cons zan (.cons b.zbU (.cons zlr (.cons b.zcA (.cons b.zbf (.cons b.zaT (.cons zav (.cons b.zc2 (.cons zsS (.cons zku (.cons b.zaf (.cons zaF (.cons b.zdm (.cons b.zcN (.cons zdF (.cons zbg (.cons b.za6 .nil))))))))))))))))))) trivial
def zfn(k:zf)(x:zh):zaL:=(zX [123] (zi x)).bind λe=>(match e with| .inl a=>some (.inl (a.1,(zi a.2.1),()))| .inr f=>(k.zaV false [125] (zi f.1)).bind λg=>(match g with| .inl b=>(zX [125] (zi b.2.1)).bind λh=>(match h with| .inl c=>some (.inl (c.1,(zi c.2.1),()))| .inr i=>some (.inr (⟨25,[],0,[],[],b.1⟩,(zi i.1),())))| .inr d=>some (.inl (d.1,(zi d.2.1),()))))
def ztJ(b:zf):=callee Y [] zuF zlD (λz=>zfn b z.1)
theorem zoM(b:zf)(d:zy b):K8 82 (ztJ b):=f8 zux Tryz.func82 (.cons zav (.cons d.zaV .nil)) trivial
def zhH(p:zf)(h:zh)(i:Int)(j:Str)(k:Int)(l:Str)(b:Int)(c:Str)(d:Int)(e:Str)(m:List Str)(n:List zg)(f:List Str)(g:List zg):OT2:=(zG [44] (zi h)).bind λa=>if(!a.1)=true then some (.inr (.inr (⟨b,c,d,e,f,g⟩,(zi a.2.1),())))else some (.inl ((zi a.2.1),i,j,k,l,b,c,d,e,m,n,f,g,()))
def zdL(v:zf)(h:zh)(i:Int)(j:Str)(k:Int)(l:Str)(m:Int)(n:Str)(o:Int)(p:Str)(a:Int)(b:Str)(c:Int)(d:Str)(q:List Str)(r:List zg)(s:List Str)(e:List zg)(f:List Str)(g:List zg):OT2:=(room (e.length+([⟨a,b,c,d,f,g⟩]:List zg).length)).bind λ_=>let t:=e++[⟨a,b,c,d,f,g⟩];zhH v (zi h) i j k l m n o p q r s t
def zdR(d:zf):zh×Int×Str×Int×Str×Int×Str×Int×Str×(List Str)×(List zg)×(List Str)×(List zg)×Unit->OT2| (t,e,f,g,h,i,j,k,l,m,n,o,p,())=>(zcu (zi t)).bind λu=>(match u with| .inl q=>some (.inr (.inl (q.1,(zi q.2.1),())))| .inr a=>(zG [61] (zi a.2.1)).bind λb=>if b.1=true then(d.zal (zi b.2.1)).bind λv=>(match v with| .inl r=>zdL d (zi r.2.1) e f g h i j k l 23 a.1 0 [] m n o p [] [(zB r.1)]| .inr s=>some (.inr (.inl (s.1,(zi s.2.1),()))))else zdL d (zi b.2.1) e f g h i j k l 23 a.1 0 [] m n o p [] [])
def zfU(b:zf)(x:zh):zaL:=Lp.loop (zdR b) ((zi x),0,[],0,[],22,[],0,[],[],[],[],[],())
def zuu(b:zf):=callee Y [] zuF zlD (λz=>zfU b z.1)
def zt7(b:zf):zac Y (zV Y zlD):=(.loop [[7,5,2,2],[8,5,2,2],[6,2,2]] ⟨[(0,.ptr 0 0),(2,.ptr 1 0),(3,.ptr 2 0)],zgf⟩ (zdR b) (.join [[1,2,2,5,7,5,2,2],[2,2,2,5,7,5,2,2],[6,7,5,2,2],[8,5,2,2],[6,2,2]] ⟨[(0,.ptr 0 0),(2,.ptr 1 0),(3,.ptr 2 0),(4,.ptr 3 0)],om6⟩ (u19 (zdL b)) (.join [[1,2,2,2,5,7,5,2,2],[2,2,2,2,5,7,5,2,2],[6,7,5,2,2],[8,5,2,2],[6,2,2]] ⟨[(0,.ptr 0 0),(2,.ptr 1 0),(3,.ptr 2 0)],zgf⟩ (u13 (zhH b)) .nil)) .nil)
theorem zpR(b:zf)(d:zy b):K8 83 (zuu b):=f8 (zt7 b) Tryz.func83 (.cons zdF (.cons zan (.cons d.zal .nil))) ⟨λz=>by kernel_rfl,⟨λz=>by kernel_rfl,⟨λz=>by kernel_rfl,⟨⟩⟩⟩,trivial⟩
def zeN(c:zf)(x:zh):zgx:=(c.zbE 3 (zi x)).bind λp=>(match p with| .inl f=>some (.inr (f.1,(zi f.2.1),()))| .inr a=>(zG [63] (zi a.2.1)).bind λd=>if d.1=true then(c.zbQ (zi d.2.1) 0 [] 0 [] [] []).bind λq=>(match q with| .inl g=>(zX [58] (zi g.1)).bind λr=>(match r with| .inl h=>some (.inr (h.1,(zi h.2.1),()))| .inr s=>(c.zal (zi s.1)).bind λt=>(match t with| .inl i=>some (.inl (⟨19,[],0,[],[],[(zB a.1),(zB g.2.1),(zB i.1)]⟩,(zi i.2.1),()))| .inr j=>some (.inr (j.1,(zi j.2.1),()))))| .inr k=>some (.inr (k.1,(zi k.2.1),())))else(zaU [32,61,32,43,61,32,45,61,32,42,61,32,47,61,32,37,61,32] (zi d.2.1)).bind λe=>if(!e.1)=true then some (.inl ((zB a.1),(zi e.2.1),()))else(zda (zB a.1) (zi e.2.1)).bind λu=>(match u with| .inl l=>some (.inr (l.1,(zi l.2.1),()))| .inr v=>(zae (zi v.1)).bind λm=>(c.zal (zi m.2.1)).bind λy=>(match y with| .inl n=>some (.inl (⟨20,m.1.Text,0,[],[],[(zB a.1),(zB n.1)]⟩,(zi n.2.1),()))| .inr o=>some (.inr (o.1,(zi o.2.1),())))))
def zrB(b:zf):=callee Y [] zuF zgZ (λz=>zeN b z.1)
def zra:zac Y (zV Y zgZ):= .nil
theorem zn6(b:zf)(d:zy b):K8 134 (zrB b):=f8 zra Tryz.func134 ((.cons d.zbE (.cons zan (.cons (COk.laid d.zbQ) (.cons zav (.cons d.zal (.cons zeR (.cons zjR (.cons zbg .nil)))))))):zcm hY Tryz.prog zaw [(166,(zkz b)),(36,(zgr)),(80,(zix Y [⟨[(0,.ptr 0 0),(1,.fn 133 [.ptr 1 0,.ptr 2 0,.ptr 3 0,.ptr 8 0])],om3⟩,⟨[(0,.ptr 0 0),(1,.fn 81 [.ptr 1 0,.ptr 2 0])],zbD⟩,⟨[(0,.ptr 0 0),(1,.fn 241 [.ptr 1 0,.ptr 2 0])],zbD⟩,⟨[(0,.ptr 0 0),(1,.fn 133 [.ptr 1 0,.ptr 2 0,.ptr 3 0,.ptr 7 0])],om5⟩,⟨[(0,.ptr 0 0),(1,.fn 133 [.ptr 1 0,.ptr 2 0,.ptr 3 0,.ptr 8 0])],om1⟩,⟨[(0,.ptr 0 0),(1,.fn 222 [.ptr 1 0,.ptr 2 0])],zbD⟩,⟨[(0,.ptr 0 0),(1,.fn 167 [.ptr 1 0,.ptr 2 0])],zbD⟩] (zjc b))),(77,(zem)),(134,(zkn b)),(136,(zkU)),(168,(zkr)),(75,(zh8))]) trivial
def zdh(r:zf):Int×zh×Int×Str×Int×Str×zg×(List Str)×(List zg)×Unit->Option ((Int×zh×Int×Str×Int×Str×zg×(List Str)×(List zg)×Unit)⊕((zY×zh×Unit)⊕(zg×zh×Unit)))| (b,g,h,i,j,k,c,l,m,())=>(zfh (zi g)).bind λa=>let n:=((decide (a.1<b))||(a.1==0));if n=true then some (.inr (.inr ((zB c),(zi a.2.2.1),())))else(zae (zi a.2.2.1)).bind λd=>let o:=(IntKind.wrap .i64 (a.1+1));fd ((r.zbE o (zi d.2.1)).bind λp=>(match p with| .inl e=>some (.inr (.inl (e.1,(zi e.2.1),())))| .inr f=>some (.inl (b,(zi f.2.1),h,i,j,k,⟨a.2.1,d.1.Text,0,[],[],[(zB c),(zB f.1)]⟩,l,m,()))))
def zeM(d:zf)(f:Int)(x:zh):zaL:=(d.zbz (zi x)).bind λe=>(match e with| .inl a=>Lp.loop (zdh d) (f,(zi a.2.1),0,[],0,[],(zB a.1),[],[],())| .inr b=>some (.inl (b.1,(zi b.2.1),())))
def zqZ(b:zf):=callee Y [] zuA zlD (u2 (zeM b))
def zr1(b:zf):zac Y (zV Y zlD):=(.loop [[7,5,2,2],[8,5,2,2],[6,2,2]] ⟨[(0,.ptr 0 0),(1,.int .i64),(4,.ptr 1 0),(5,.ptr 2 0)],zD0⟩ (zdh b) .nil .nil)
theorem zoj(b:zf)(d:zy b):K8 166 (zqZ b):=f8 (zr1 b) Tryz.func166 (.cons d.zbz (.cons zoI (.cons zbg (.cons d.zbE .nil)))) ⟨λz=>by kernel_rfl,trivial,trivial⟩
def zfg(d:zf)(x:zh):zgx:=(zaU [32,45,32,43,32,33,32,116,121,112,101,111,102,32,100,101,108,101,116,101,32,118,111,105,100,32] (zi x)).bind λe=>if e.1=true then(zae (zi e.2.1)).bind λh=>(d.zbz (zi h.2.1)).bind λs=>(match s with| .inl i=>some (.inl (⟨15,h.1.Text,0,[],[],[(zB i.1)]⟩,(zi i.2.1),()))| .inr j=>some (.inr (j.1,(zi j.2.1),())))else(zaU [32,43,43,32,45,45,32] (zi e.2.1)).bind λf=>if f.1=true then(zae (zi f.2.1)).bind λk=>(d.zbz (zi k.2.1)).bind λu=>(match u with| .inl g=>(zda (zB g.1) (zi g.2.1)).bind λv=>(match v with| .inl l=>some (.inr (l.1,(zi l.2.1),()))| .inr y=>some (.inl (⟨16,k.1.Text,1,[],[],[(zB g.1)]⟩,(zi y.1),())))| .inr m=>some (.inr (m.1,(zi m.2.1),())))else(d.zbV (zi f.2.1)).bind λz=>(match z with| .inl n=>(d.zbv (zB n.1) true (zi n.2.1)).bind λA=>(match A with| .inl o=>some (.inr (o.1,(zi o.2.1),()))| .inr a=>(zaU [32,43,43,32,45,45,32] (zi a.2.1)).bind λb=>(if(!b.1)=true then some true else(zL b.2.1.t 0).bind λB=>some B.Fresh).bind λC=>if C=true then some (.inl ((zB a.1),(zi b.2.1),()))else(zda (zB a.1) (zi b.2.1)).bind λD=>(match D with| .inl p=>some (.inr (p.1,(zi p.2.1),()))| .inr E=>fd ((zae (zi E.1)).bind λq=>some (.inl (⟨16,q.1.Text,0,[],[],[(zB a.1)]⟩,(zi q.2.1),())))))| .inr r=>some (.inr (r.1,(zi r.2.1),())))
def ztC(b:zf):=callee Y [] zuF zgZ (λz=>zfg b z.1)
theorem zo7(c:zf)(d:zy c):K8 189 (ztC c):=f8 zra Tryz.func189 (.cons zeR (.cons zbg (.cons d.zbz (.cons zjR (.cons d.zbV (.cons d.zbv .nil)))))) trivial
def zf1(c:zf)(x:zh):zgx:=(zG [110,101,119] (zi x)).bind λd=>if(!d.1)=true then(c.zb7 (zi d.2.1)).bind λm=>(match m with| .inl g=>some (.inl ((zB g.1),(zi g.2.1),()))| .inr h=>some (.inr (h.1,(zi h.2.1),())))else(c.zbV (zi d.2.1)).bind λn=>(match n with| .inl i=>(c.zbv (zB i.1) false (zi i.2.1)).bind λo=>(match o with| .inl j=>some (.inr (j.1,(zi j.2.1),()))| .inr a=>(zG [40] (zi a.2.1)).bind λe=>if e.1=true then fd ((c.za9 [41] false (zi e.2.1)).bind λp=>(match p with| .inl f=>(room (([(zB a.1)]:List zg).length+f.1.length)).bind λ_=>let q:=[(zB a.1)]++f.1;some (.inl (⟨14,[],0,[],[],q⟩,(zi f.2.1),()))| .inr k=>some (.inr (k.1,(zi k.2.1),()))))else some (.inl (⟨14,[],0,[],[],[(zB a.1)]⟩,(zi e.2.1),())))| .inr l=>some (.inr (l.1,(zi l.2.1),())))
def zu0(b:zf):=callee Y [] zuF zgZ (λz=>zf1 b z.1)
theorem zp8(d:zf)(b:zy d):K8 211 (zu0 d):=f8 zra Tryz.func211 (.cons zan (.cons b.zb7 (.cons b.zbV (.cons b.zbv (.cons b.za9 .nil))))) trivial
def zeD(i:zf)(x:zh):zgx:=(zL x.t 0).bind λa=>if(a.Kind==1)=true then(zae (zi x)).bind λd=>some (.inl (⟨3,a.Text,0,[],[],[]⟩,(zi d.2.1),()))else if(a.Kind==3)=true then(zae (zi x)).bind λe=>some (.inl (⟨1,[],a.Num,[],[],[]⟩,(zi e.2.1),()))else if(a.Kind==4)=true then(zae (zi x)).bind λf=>some (.inl (⟨2,[],0,a.Text,[],[]⟩,(zi f.2.1),()))else(i.zc5 (zi x)).bind λg=>(match g with| .inl b=>some (.inl ((zB b.1),(zi b.2.1),()))| .inr c=>some (.inr (c.1,(zi c.2.1),())))
def zpT(b:zf):=callee Y [] zuF zgZ (λz=>zeD b z.1)
theorem znw(b:zf)(d:zy b):K8 224 (zpT b):=f8 zra Tryz.func224 (.cons zbg (.cons d.zc5 .nil)) trivial
def zfZ(c:zf)(x:zh):zgx:=(zG [116,104,105,115] (zi x)).bind λd=>if d.1=true then some (.inl (⟨4,[],0,[],[],[]⟩,(zi d.2.1),()))else(zG [110,117,108,108] (zi d.2.1)).bind λe=>if e.1=true then some (.inl (⟨5,[],0,[],[],[]⟩,(zi e.2.1),()))else(zG [102,97,108,115,101] (zi e.2.1)).bind λf=>if f.1=true then some (.inl (⟨6,[],0,[],[],[]⟩,(zi f.2.1),()))else(zG [116,114,117,101] (zi f.2.1)).bind λg=>if g.1=true then some (.inl (⟨6,[],1,[],[],[]⟩,(zi g.2.1),()))else(zG [102,117,110,99,116,105,111,110] (zi g.2.1)).bind λh=>if h.1=true then(c.zbm 10 (zi h.2.1)).bind λu=>(match u with| .inl l=>some (.inr (l.1,(zi l.2.1),()))| .inr m=>some (.inl ((zB m.1),(zi m.2.1),())))else(zG [40] (zi h.2.1)).bind λi=>if i.1=true then(c.zbO (zi i.2.1) 0 [] 0 [] [] []).bind λv=>(match v with| .inl n=>(zX [41] (zi n.1)).bind λy=>(match y with| .inl o=>some (.inr (o.1,(zi o.2.1),()))| .inr z=>some (.inl ((zB n.2.1),(zi z.1),())))| .inr p=>some (.inr (p.1,(zi p.2.1),())))else(zG [91] (zi i.2.1)).bind λj=>if j.1=true then(c.za9 [93] true (zi j.2.1)).bind λA=>(match A with| .inl q=>some (.inl (⟨7,[],0,[],[],q.1⟩,(zi q.2.1),()))| .inr r=>some (.inr (r.1,(zi r.2.1),())))else(zG [123] (zi j.2.1)).bind λk=>if k.1=true then(c.zca [125] true (zi k.2.1) 8 [] 0 [] [] []).bind λB=>(match B with| .inl s=>some (.inr (s.1,(zi s.2.1),()))| .inr a=>some (.inl (⟨a.2.1,a.2.2.1,a.2.2.2.1,a.2.2.2.2.1,a.2.2.2.2.2.1,a.2.2.2.2.2.2.1⟩,(zi a.1),())))else(zaA (zi k.2.1)).bind λt=>some (.inr (t.1,(zi t.2.1),()))
def zuk(b:zf):=callee Y [] zuF zgZ (λz=>zfZ b z.1)
theorem zqy(b:zf)(d:zy b):K8 237 (zuk b):=f8 zra Tryz.func237 ((.cons zan (.cons d.zbm (.cons (COk.laid d.zbO) (.cons zav (.cons d.za9 (.cons (COk.laid d.zca) (.cons zaF .nil))))))):zcm hY Tryz.prog zaw [(36,(zgr)),(37,(zjr b)),(80,(zix Y [⟨[(0,.ptr 0 0),(1,.fn 133 [.ptr 1 0,.ptr 2 0,.ptr 3 0,.ptr 8 0])],om3⟩,⟨[(0,.ptr 0 0),(1,.fn 81 [.ptr 1 0,.ptr 2 0])],zbD⟩,⟨[(0,.ptr 0 0),(1,.fn 241 [.ptr 1 0,.ptr 2 0])],zbD⟩,⟨[(0,.ptr 0 0),(1,.fn 133 [.ptr 1 0,.ptr 2 0,.ptr 3 0,.ptr 7 0])],om5⟩,⟨[(0,.ptr 0 0),(1,.fn 133 [.ptr 1 0,.ptr 2 0,.ptr 3 0,.ptr 8 0])],om1⟩,⟨[(0,.ptr 0 0),(1,.fn 222 [.ptr 1 0,.ptr 2 0])],zbD⟩,⟨[(0,.ptr 0 0),(1,.fn 167 [.ptr 1 0,.ptr 2 0])],zbD⟩] (ziZ b))),(77,(zem)),(223,(zht b)),(78,(zix Y [⟨[(0,.ptr 0 0),(1,.str),(2,.bool),(3,.fn 79 [.ptr 1 0,.ptr 2 0])],zbD⟩,⟨[(0,.ptr 0 0),(1,.str),(2,.bool),(3,.fn 236 [.ptr 1 0,.ptr 2 0])],zzE⟩,⟨[(0,.ptr 0 0),(1,.str),(2,.bool),(3,.fn 242 [.ptr 1 0,.ptr 2 0])],zbD⟩] (zjw b))),(21,(zee))]) trivial
def zdH(j:zf)(x:zh)(e:Int)(f:Str)(g:Int)(h:Str)(l:List Str)(i:List zg):OT6:=(j.zc8 ⟨x.t,false⟩ e f g h l i).bind λc=>(match c with| .inl b=>some (.inl (⟨b.1.t,x.no⟩,(zB b.2.1),b.2.2.1,b.2.2.2.1,()))| .inr a=>some (.inr (a.1,(zi a.2.1),a.2.2.1,a.2.2.2.1,a.2.2.2.2.1,a.2.2.2.2.2.1,a.2.2.2.2.2.2.1,a.2.2.2.2.2.2.2.1,())))
def zow(b:zf):=callee Y [] ziP zfI (u7 (zdH b))
def znK:zac Y (zV Y zfI):= .nil
theorem zmM(b:zf)(d:zy b):K8 80 (zow b):=f8 znK Tryz.func80 (.cons d.zc8 .nil) trivial
def zeK(j:zf)(x:zh)(f:Int)(g:Str)(h:Int)(i:Str)(l:List Str)(c:List zg):OT6:=(j.zaf (zi x)).bind λd=>(match d with| .inl a=>some (.inl ((zi a.2.1),(zB a.1),l,c,()))| .inr b=>some (.inr (b.1,(zi b.2.1),f,g,h,i,l,c,())))
def zrR(b:zf):=callee Y [] znC zhd (u7 (zeK b))
def zrD:zac Y (zV Y zhd):= .nil
theorem zoh(b:zf)(d:zy b):K8 241 (zrR b):=f8 zrD Tryz.func241 (.cons d.zaf .nil) trivial
def zdW(n:zf):zh×Int×Str×Int×Str×zg×(List Str)×(List zg)×Unit->Option ((zh×Int×Str×Int×Str×zg×(List Str)×(List zg)×Unit)⊕((zg×zh×Unit)⊕(zY×zh×Unit)))| (e,f,g,h,i,b,j,k,())=>(zG [44] (zi e)).bind λa=>if a.1=true then fd ((n.zal (zi a.2.1)).bind λl=>(match l with| .inl c=>some (.inl ((zi c.2.1),f,g,h,i,⟨21,[],0,[],[],[(zB b),(zB c.1)]⟩,j,k,()))| .inr d=>some (.inr (.inr (d.1,(zi d.2.1),())))))else some (.inr (.inl ((zB b),(zi a.2.1),())))
def zfW(d:zf)(x:zh):zgx:=(d.zal (zi x)).bind λe=>(match e with| .inl a=>Lp.loop (zdW d) ((zi a.2.1),0,[],0,[],(zB a.1),[],[],())| .inr b=>some (.inr (b.1,(zi b.2.1),())))
def zuV(b:zf):=callee Y [] zuF zgZ (λz=>zfW b z.1)
def zur(b:zf):zac Y (zV Y zgZ):=(.loop [[7,5,1,2,2],[8,5,1,2,2],[6,1,2,2],[2,2,2]] ⟨[(0,.ptr 0 0),(2,.ptr 1 0),(3,.ptr 2 0)],zD0⟩ (zdW b) .nil .nil)
theorem zqr(b:zf)(d:zy b):K8 91 (zuV b):=f8 (zur b) Tryz.func91 (.cons d.zal (.cons zan .nil)) ⟨λz=>by kernel_rfl,trivial,trivial⟩
def zfa(g:zf)(e:Str)(f:Bool)(x:zh):zzf:=(g.zcW e f (zi x) []).bind λc=>(match c with| .inl a=>some (.inl (a.2.1,(zi a.1),()))| .inr b=>some (.inr (b.1,(zi b.2.1),())))
def zsP(b:zf):=callee Y [] zlf zhy (u3 (zfa b))
def ztg:zac Y (zV Y zhy):= .nil
theorem zoR(b:zf)(d:zy b):K8 223 (zsP b):=f8 ztg Tryz.func223 ((.cons (COk.laid d.zcW) .nil):zcm hY Tryz.prog zaw [(78,(zix Y [⟨[(0,.ptr 0 0),(1,.str),(2,.bool),(3,.fn 79 [.ptr 1 0,.ptr 2 0])],zbD⟩,⟨[(0,.ptr 0 0),(1,.str),(2,.bool),(3,.fn 236 [.ptr 1 0,.ptr 2 0])],zzE⟩,⟨[(0,.ptr 0 0),(1,.str),(2,.bool),(3,.fn 242 [.ptr 1 0,.ptr 2 0])],zbD⟩] (zjQ b)))]) trivial
def zdg(g:zf)(e:Str)(f:Bool)(x:zh)(l:List zg):zzn:=(g.zcq (zi x) e l f).bind λc=>(match c with| .inl b=>some (.inl ((zi b.1),b.2.2.1,()))| .inr a=>some (.inr (a.1,(zi a.2.1),a.2.2.2.1,())))
def zqb(b:zf):=callee Y [] zjz zgH (u4 (zdg b))
def zpY:zac Y (zV Y zgH):= .nil
theorem znl(b:zf)(d:zy b):K8 78 (zqb b):=f8 zpY Tryz.func78 ((.cons (COk.laid d.zcq) .nil):zcm hY Tryz.prog zaw [(80,(zix Y [⟨[(0,.ptr 0 0),(1,.fn 133 [.ptr 1 0,.ptr 2 0,.ptr 3 0,.ptr 8 0])],om3⟩,⟨[(0,.ptr 0 0),(1,.fn 81 [.ptr 1 0,.ptr 2 0])],zbD⟩,⟨[(0,.ptr 0 0),(1,.fn 241 [.ptr 1 0,.ptr 2 0])],zbD⟩,⟨[(0,.ptr 0 0),(1,.fn 133 [.ptr 1 0,.ptr 2 0,.ptr 3 0,.ptr 7 0])],om5⟩,⟨[(0,.ptr 0 0),(1,.fn 133 [.ptr 1 0,.ptr 2 0,.ptr 3 0,.ptr 8 0])],om1⟩,⟨[(0,.ptr 0 0),(1,.fn 222 [.ptr 1 0,.ptr 2 0])],zbD⟩,⟨[(0,.ptr 0 0),(1,.fn 167 [.ptr 1 0,.ptr 2 0])],zbD⟩] (ziU b)))]) trivial
def zdT(g:zf)(x:zh)(a:Str)(l:List zg)(f:Bool):OT8:=(g.zcs ⟨x.t,false⟩ a l f).bind λd=>(match d with| .inl c=>some (.inl (⟨c.1.t,x.no⟩,c.2.1,c.2.2.1,c.2.2.2.1,()))| .inr b=>some (.inr (b.1,(zi b.2.1),b.2.2.1,b.2.2.2.1,b.2.2.2.2.1,())))
def zog(b:zf):=callee Y [] zi3 zfO (u4 (zdT b))
def zou:zac Y (zV Y zfO):= .nil
theorem zmA(b:zf)(d:zy b):K8 80 (zog b):=f8 zou Tryz.func80 ((.cons (COk.laid d.zcs) .nil):zcm hY Tryz.prog zaw [(133,(zix Y [⟨[(0,.ptr 0 0),(1,.ptr 2 0),(2,.ptr 3 0),(3,.ptr 8 0)],om2⟩,⟨[(0,.ptr 0 0),(1,.ptr 2 0),(2,.ptr 3 0),(3,.ptr 7 0)],om4⟩,⟨[(0,.ptr 0 0),(1,.ptr 2 0),(2,.ptr 3 0),(3,.ptr 8 0)],om0⟩] (ziC b)))]) trivial
def zcC(p:zf):zh×Str×(List zg)×Bool×Unit->Option ((zh×Str×(List zg)×Bool×Unit)⊕((zh×Str×(List zg)×Bool×Unit)⊕(zY×zh×Str×(List zg)×Bool×Unit)))| (l,a,h,b,())=>(zG a (zi l)).bind λd=>if(!d.1)=true then(p.zcb (zi d.2.1) h).bind λm=>(match m with| .inl c=>(zG a (zi c.1)).bind λe=>if e.1=true then some (.inr (.inl ((zi e.2.1),a,c.2.1,b,())))else(zX [44] (zi e.2.1)).bind λn=>(match n with| .inl i=>some (.inr (.inr (i.1,(zi i.2.1),a,c.2.1,b,())))| .inr j=>if(!b)=true then(zaK a (zi j.1)).bind λf=>if f.1=true then(zaA (zi f.2.1)).bind λk=>some (.inr (.inr (k.1,(zi k.2.1),a,c.2.1,b,())))else some (.inl ((zi f.2.1),a,c.2.1,b,()))else some (.inl ((zi j.1),a,c.2.1,b,())))| .inr g=>some (.inr (.inr (g.1,(zi g.2.1),a,g.2.2.1,b,()))))else some (.inr (.inl ((zi d.2.1),a,h,b,())))
def zdZ(d:zf)(x:zh)(a:Str)(l:List zg)(c:Bool):OT8:=Lp.loop (zcC d) ((zi x),a,l,c,())
def zok(b:zf):=callee Y [] ziL zfG (u4 (zdZ b))
def zoa(b:zf):zac Y (zV Y zfG):=(.loop [[7,5],[8,5],[6]] ⟨[(0,.ptr 0 0),(1,.ptr 2 0),(2,.ptr 3 0),(3,.ptr 7 0)],om4⟩ (zcC b) .nil .nil)
theorem zmt(b:zf)(d:zy b):K8 133 (zok b):=f8 (zoa b) Tryz.func133 (.cons zan (.cons d.zcb (.cons zav (.cons zbK (.cons zaF .nil))))) ⟨λz=>by kernel_rfl,trivial,trivial⟩
def zey(k:zf)(x:zh)(l:List zg):zzn:=(k.zal (zi x)).bind λe=>(match e with| .inl a=>fk (fd ((room (l.length+([⟨0,[],0,[],[],[]⟩]:List zg).length)).bind λ_=>let b:=l++[⟨0,[],0,[],[],[]⟩];fk ((zL b ((l.length:Nat):Int)).bind λ_=>fd ((zL b ((l.length:Nat):Int)).bind λm=>let f:=b.set ((l.length:Nat):Int).toNat (zB a.1);some (.inl ((zi a.2.1),f,())))) ((zL b ((l.length:Nat):Int)).bind λ_=>(zL b ((l.length:Nat):Int)).bind λn=>let g:=b.set ((l.length:Nat):Int).toNat (zB a.1);some (.inl ((zi a.2.1),g,()))))) ((room (l.length+([⟨0,[],0,[],[],[]⟩]:List zg).length)).bind λ_=>let c:=l++[⟨0,[],0,[],[],[]⟩];fk ((zL c ((l.length:Nat):Int)).bind λ_=>fd ((zL c ((l.length:Nat):Int)).bind λo=>let h:=c.set ((l.length:Nat):Int).toNat (zB a.1);some (.inl ((zi a.2.1),h,())))) ((zL c ((l.length:Nat):Int)).bind λ_=>(zL c ((l.length:Nat):Int)).bind λp=>let i:=c.set ((l.length:Nat):Int).toNat (zB a.1);some (.inl ((zi a.2.1),i,()))))| .inr d=>some (.inr (d.1,(zi d.2.1),l,())))
def zqv(b:zf):=callee Y [] zjO zgy (u2 (zey b))
def zpU:zac Y (zV Y zgy):= .nil
theorem znh(b:zf)(d:zy b):K8 236 (zqv b):=f8 zpU Tryz.func236 (.cons d.zal .nil) trivial
def zeE(m:zf)(e:Str)(f:Bool)(x:zh)(g:Int)(h:Str)(i:Int)(j:Str)(l:List Str)(k:List zg):OT5:=(m.zco (zi x) e g h i j l k f).bind λc=>(match c with| .inl a=>some (.inl (a.1,(zi a.2.1),a.2.2.2.1,a.2.2.2.2.1,a.2.2.2.2.2.1,a.2.2.2.2.2.2.1,a.2.2.2.2.2.2.2.1,a.2.2.2.2.2.2.2.2.1,()))| .inr b=>some (.inr ((zi b.1),b.2.2.1,b.2.2.2.1,b.2.2.2.2.1,b.2.2.2.2.2.1,b.2.2.2.2.2.2.1,b.2.2.2.2.2.2.2.1,())))
def zp3(b:zf):=callee Y [] zjC zlI (u9 (zeE b))
theorem znn(b:zf)(d:zy b):K8 78 (zp3 b):=f8 zuM Tryz.func78 ((.cons (COk.laid d.zco) .nil):zcm hY Tryz.prog zaw [(80,(zix Y [⟨[(0,.ptr 0 0),(1,.fn 133 [.ptr 1 0,.ptr 2 0,.ptr 3 0,.ptr 8 0])],om3⟩,⟨[(0,.ptr 0 0),(1,.fn 81 [.ptr 1 0,.ptr 2 0])],zbD⟩,⟨[(0,.ptr 0 0),(1,.fn 241 [.ptr 1 0,.ptr 2 0])],zbD⟩,⟨[(0,.ptr 0 0),(1,.fn 133 [.ptr 1 0,.ptr 2 0,.ptr 3 0,.ptr 7 0])],om5⟩,⟨[(0,.ptr 0 0),(1,.fn 133 [.ptr 1 0,.ptr 2 0,.ptr 3 0,.ptr 8 0])],om1⟩,⟨[(0,.ptr 0 0),(1,.fn 222 [.ptr 1 0,.ptr 2 0])],zbD⟩,⟨[(0,.ptr 0 0),(1,.fn 167 [.ptr 1 0,.ptr 2 0])],zbD⟩] (ziS b)))]) trivial
def zdE(m:zf)(x:zh)(a:Str)(f:Int)(g:Str)(h:Int)(i:Str)(l:List Str)(j:List zg)(k:Bool):OT3:=(m.zct ⟨x.t,false⟩ a f g h i l j k).bind λd=>(match d with| .inl b=>some (.inl (b.1,(zi b.2.1),b.2.2.1,b.2.2.2.1,b.2.2.2.2.1,b.2.2.2.2.2.1,b.2.2.2.2.2.2.1,b.2.2.2.2.2.2.2.1,b.2.2.2.2.2.2.2.2.1,b.2.2.2.2.2.2.2.2.2.1,()))| .inr c=>some (.inr (⟨c.1.t,x.no⟩,c.2.1,c.2.2.1,c.2.2.2.1,c.2.2.2.2.1,c.2.2.2.2.2.1,c.2.2.2.2.2.2.1,c.2.2.2.2.2.2.2.1,c.2.2.2.2.2.2.2.2.1,())))
def znS(b:zf):=callee Y [] ziK zfH (u9 (zdE b))
def zos:zac Y (zV Y zfH):= .nil
theorem zmH(b:zf)(d:zy b):K8 80 (znS b):=f8 zos Tryz.func80 ((.cons (COk.laid d.zct) .nil):zcm hY Tryz.prog zaw [(133,(zix Y [⟨[(0,.ptr 0 0),(1,.ptr 2 0),(2,.ptr 3 0),(3,.ptr 8 0)],om2⟩,⟨[(0,.ptr 0 0),(1,.ptr 2 0),(2,.ptr 3 0),(3,.ptr 7 0)],om4⟩,⟨[(0,.ptr 0 0),(1,.ptr 2 0),(2,.ptr 3 0),(3,.ptr 8 0)],om0⟩] (ziX b)))]) trivial
def zcF(u:zf):zh×Str×Int×Str×Int×Str×(List Str)×(List zg)×Bool×Unit->OT0| (q,b,h,i,j,k,l,m,c,())=>(zG b (zi q)).bind λe=>if(!e.1)=true then(u.zcz (zi e.2.1) h i j k l m).bind λr=>(match r with| .inl d=>some (.inr (.inl (d.1,(zi d.2.1),b,d.2.2.1,d.2.2.2.1,d.2.2.2.2.1,d.2.2.2.2.2.1,d.2.2.2.2.2.2.1,d.2.2.2.2.2.2.2.1,c,())))| .inr a=>(zG b (zi a.1)).bind λf=>if f.1=true then some (.inr (.inr ((zi f.2.1),b,a.2.1,a.2.2.1,a.2.2.2.1,a.2.2.2.2.1,a.2.2.2.2.2.1,a.2.2.2.2.2.2.1,c,())))else(zX [44] (zi f.2.1)).bind λs=>(match s with| .inl n=>some (.inr (.inl (n.1,(zi n.2.1),b,a.2.1,a.2.2.1,a.2.2.2.1,a.2.2.2.2.1,a.2.2.2.2.2.1,a.2.2.2.2.2.2.1,c,())))| .inr o=>if(!c)=true then(zaK b (zi o.1)).bind λg=>if g.1=true then(zaA (zi g.2.1)).bind λp=>some (.inr (.inl (p.1,(zi p.2.1),b,a.2.1,a.2.2.1,a.2.2.2.1,a.2.2.2.2.1,a.2.2.2.2.2.1,a.2.2.2.2.2.2.1,c,())))else some (.inl ((zi g.2.1),b,a.2.1,a.2.2.1,a.2.2.2.1,a.2.2.2.2.1,a.2.2.2.2.2.1,a.2.2.2.2.2.2.1,c,()))else some (.inl ((zi o.1),b,a.2.1,a.2.2.1,a.2.2.2.1,a.2.2.2.2.1,a.2.2.2.2.2.1,a.2.2.2.2.2.2.1,c,()))))else some (.inr (.inr ((zi e.2.1),b,h,i,j,k,l,m,c,())))
def zdS(i:zf)(x:zh)(a:Str)(c:Int)(d:Str)(e:Int)(f:Str)(l:List Str)(g:List zg)(h:Bool):OT3:=Lp.loop (zcF i) ((zi x),a,c,d,e,f,l,g,h,())
def zov(b:zf):=callee Y [] zja zfJ (u9 (zdS b))
def znO(b:zf):zac Y (zV Y zfJ):=(.loop [[7,5],[8,5],[6]] ⟨[(0,.ptr 0 0),(1,.ptr 2 0),(2,.ptr 3 0),(3,.ptr 8 0)],om0⟩ (zcF b) .nil .nil)
theorem zmJ(b:zf)(d:zy b):K8 133 (zov b):=f8 (znO b) Tryz.func133 (.cons zan (.cons d.zcz (.cons zav (.cons zbK (.cons zaF .nil))))) ⟨λz=>by kernel_rfl,trivial,trivial⟩
def zeP(y:zf)(x:zh)(c:Int)(d:Str)(e:Int)(f:Str)(l:List Str)(a:List zg):OT5:=(zhI (zi x)).bind λn=>(match n with| .inl i=>(zX [58] (zi i.2.1)).bind λo=>(match o with| .inl j=>some (.inl (j.1,(zi j.2.1),c,d,e,f,l,a,()))| .inr p=>(y.zal (zi p.1)).bind λq=>(match q with| .inl b=>fk (fd ((room (a.length+([⟨0,[],0,[],[],[]⟩]:List zg).length)).bind λ_=>let g:=a++[⟨0,[],0,[],[],[]⟩];fk ((zL g ((a.length:Nat):Int)).bind λ_=>fd ((zL g ((a.length:Nat):Int)).bind λz=>let r:=g.set ((a.length:Nat):Int).toNat ⟨9,[],0,i.1,[],[(zB b.1)]⟩;some (.inr ((zi b.2.1),c,d,e,f,l,r,())))) ((zL g ((a.length:Nat):Int)).bind λ_=>(zL g ((a.length:Nat):Int)).bind λA=>let s:=g.set ((a.length:Nat):Int).toNat ⟨9,[],0,i.1,[],[(zB b.1)]⟩;some (.inr ((zi b.2.1),c,d,e,f,l,s,()))))) ((room (a.length+([⟨0,[],0,[],[],[]⟩]:List zg).length)).bind λ_=>let h:=a++[⟨0,[],0,[],[],[]⟩];fk ((zL h ((a.length:Nat):Int)).bind λ_=>fd ((zL h ((a.length:Nat):Int)).bind λB=>let t:=h.set ((a.length:Nat):Int).toNat ⟨9,[],0,i.1,[],[(zB b.1)]⟩;some (.inr ((zi b.2.1),c,d,e,f,l,t,())))) ((zL h ((a.length:Nat):Int)).bind λ_=>(zL h ((a.length:Nat):Int)).bind λC=>let u:=h.set ((a.length:Nat):Int).toNat ⟨9,[],0,i.1,[],[(zB b.1)]⟩;some (.inr ((zi b.2.1),c,d,e,f,l,u,()))))| .inr k=>some (.inl (k.1,(zi k.2.1),c,d,e,f,l,a,()))))| .inr m=>some (.inl (m.1,(zi m.2.1),c,d,e,f,l,a,())))
def zrx(b:zf):=callee Y [] znC zik (u7 (zeP b))
theorem zoF(b:zf)(d:zy b):K8 242 (zrx b):=f8 znA Tryz.func242 (.cons zun (.cons zav (.cons d.zal .nil))) trivial
def zcY(o:zf):Bool×zh×zg×Int×Str×Int×Str×(List Str)×(List zg)×Unit->Option ((Bool×zh×zg×Int×Str×Int×Str×(List Str)×(List zg)×Unit)⊕((zY×zh×Unit)⊕(zg×zh×Unit)))| (c,z,a,d,e,f,g,h,i,())=>(zG [46] (zi z)).bind λb=>if b.1=true then(zL b.2.1.t 0).bind λA=>(if(A.Kind !=1)=true then(zL b.2.1.t 0).bind λB=>some (B.Kind !=2)else some false).bind λC=>if C=true then(zaA (zi b.2.1)).bind λp=>some (.inr (.inl (p.1,(zi p.2.1),())))else fk ((zae (zi b.2.1)).bind λq=>some (.inl (c,(zi q.2.1),⟨11,q.1.Text,0,[],[],[(zB a)]⟩,d,e,f,g,h,i,()))) (fd ((zae (zi b.2.1)).bind λr=>some (.inl (c,(zi r.2.1),⟨11,r.1.Text,0,[],[],[(zB a)]⟩,d,e,f,g,h,i,()))))else(zG [91] (zi b.2.1)).bind λj=>if j.1=true then(o.zbR (zi j.2.1) 0 [] 0 [] [] []).bind λD=>(match D with| .inl s=>(zX [93] (zi s.1)).bind λE=>(match E with| .inl u=>some (.inr (.inl (u.1,(zi u.2.1),())))| .inr H=>some (.inl (c,(zi H.1),⟨12,[],0,[],[],[(zB a),(zB s.2.1)]⟩,d,e,f,g,h,i,())))| .inr v=>some (.inr (.inl (v.1,(zi v.2.1),()))))else if c=true then(zG [40] (zi j.2.1)).bind λk=>if k.1=true then fk (fd ((o.za9 [41] false (zi k.2.1)).bind λI=>(match I with| .inl l=>(room (([(zB a)]:List zg).length+l.1.length)).bind λ_=>let J:=[(zB a)]++l.1;some (.inl (c,(zi l.2.1),⟨13,[],0,[],[],J⟩,d,e,f,g,h,i,()))| .inr x=>some (.inr (.inl (x.1,(zi x.2.1),())))))) ((o.za9 [41] false (zi k.2.1)).bind λK=>(match K with| .inl m=>(room (([(zB a)]:List zg).length+m.1.length)).bind λ_=>let L:=[(zB a)]++m.1;some (.inl (c,(zi m.2.1),⟨13,[],0,[],[],L⟩,d,e,f,g,h,i,()))| .inr y=>some (.inr (.inl (y.1,(zi y.2.1),())))))else some (.inr (.inr ((zB a),(zi k.2.1),())))else some (.inr (.inr ((zB a),(zi j.2.1),())))
def zeC(c:zf)(n:zg)(b:Bool)(x:zh):zaL:=Lp.loop (zcY c) (b,(zi x),(zB n),0,[],0,[],[],[],())
def zpL(b:zf):=callee Y [] zjN zlD (u3 (zeC b))
def zpZ(b:zf):zac Y (zV Y zlD):=(.loop [[7,5,2],[8,5,2],[6,2]] ⟨[(2,.bool),(3,.ptr 1 0),(4,.ptr 2 0),(6,.ptr 3 0)],[.whole 48 48,.cells 46 [.ptr 0 0],.whole 25 25,oc0 4 5,.arr 9,.arr 25]⟩ (zcY b) .nil .nil)
theorem zni(b:zf)(d:zy b):K8 210 (zpL b):=f8 (zpZ b) Tryz.func210 ((.cons zan (.cons zaF (.cons zbg (.cons (COk.laid d.zbR) (.cons zav (.cons d.za9 .nil)))))):zcm hY Tryz.prog zaw [(36,(zgr)),(21,(zee)),(75,(zh8)),(80,(zix Y [⟨[(0,.ptr 0 0),(1,.fn 133 [.ptr 1 0,.ptr 2 0,.ptr 3 0,.ptr 8 0])],om3⟩,⟨[(0,.ptr 0 0),(1,.fn 81 [.ptr 1 0,.ptr 2 0])],zbD⟩,⟨[(0,.ptr 0 0),(1,.fn 241 [.ptr 1 0,.ptr 2 0])],zbD⟩,⟨[(0,.ptr 0 0),(1,.fn 133 [.ptr 1 0,.ptr 2 0,.ptr 3 0,.ptr 7 0])],om5⟩,⟨[(0,.ptr 0 0),(1,.fn 133 [.ptr 1 0,.ptr 2 0,.ptr 3 0,.ptr 8 0])],om1⟩,⟨[(0,.ptr 0 0),(1,.fn 222 [.ptr 1 0,.ptr 2 0])],zbD⟩,⟨[(0,.ptr 0 0),(1,.fn 167 [.ptr 1 0,.ptr 2 0])],zbD⟩] (ziO b))),(77,(zem)),(223,(zht b))]) ⟨λz=>by kernel_rfl,trivial,trivial⟩
def zdK(j:zf)(x:zh)(e:Int)(f:Str)(g:Int)(h:Str)(l:List Str)(i:List zg):OT6:=(j.zcn ⟨x.t,false⟩ e f g h l i).bind λc=>(match c with| .inl b=>some (.inl (⟨b.1.t,x.no⟩,(zB b.2.1),b.2.2.1,b.2.2.2.1,()))| .inr a=>some (.inr (a.1,(zi a.2.1),a.2.2.1,a.2.2.2.1,a.2.2.2.2.1,a.2.2.2.2.2.1,a.2.2.2.2.2.2.1,a.2.2.2.2.2.2.2.1,())))
def zn0(b:zf):=callee Y [] ziR zfI (u7 (zdK b))
theorem zmo(b:zf)(d:zy b):K8 80 (zn0 b):=f8 znK Tryz.func80 (.cons d.zcn .nil) trivial
def zdX(j:zf)(x:zh)(f:Int)(g:Str)(h:Int)(i:Str)(l:List Str)(c:List zg):OT6:=(j.zaf (zi x)).bind λd=>(match d with| .inl a=>some (.inl ((zi a.2.1),(zB a.1),l,c,()))| .inr b=>some (.inr (b.1,(zi b.2.1),f,g,h,i,l,c,())))
def zn1(b:zf):=callee Y [] znC zhd (u7 (zdX b))
theorem zmD(b:zf)(d:zy b):K8 222 (zn1 b):=f8 zrD Tryz.func222 (.cons d.zaf .nil) trivial
def zdG(j:zf)(x:zh)(e:Int)(f:Str)(g:Int)(h:Str)(l:List Str)(i:List zg):OT6:=(j.zcJ ⟨x.t,false⟩ e f g h l i).bind λc=>(match c with| .inl b=>some (.inl (⟨b.1.t,x.no⟩,(zB b.2.1),b.2.2.1,b.2.2.2.1,()))| .inr a=>some (.inr (a.1,(zi a.2.1),a.2.2.1,a.2.2.2.1,a.2.2.2.2.1,a.2.2.2.2.2.1,a.2.2.2.2.2.2.1,a.2.2.2.2.2.2.2.1,())))
def zn2(b:zf):=callee Y [] ziV zfI (u7 (zdG b))
theorem zmx(b:zf)(d:zy b):K8 80 (zn2 b):=f8 znK Tryz.func80 (.cons d.zcJ .nil) trivial
def zea(j:zf)(x:zh)(f:Int)(g:Str)(h:Int)(i:Str)(l:List Str)(c:List zg):OT6:=(j.zal (zi x)).bind λd=>(match d with| .inl a=>some (.inl ((zi a.2.1),(zB a.1),l,c,()))| .inr b=>some (.inr (b.1,(zi b.2.1),f,g,h,i,l,c,())))
def zo6(b:zf):=callee Y [] znC zhd (u7 (zea b))
theorem zm0(b:zf)(d:zy b):K8 167 (zo6 b):=f8 zrD Tryz.func167 (.cons d.zal .nil) trivial
def zgL(q:zf)(c:zh)(j:Int)(k:Str)(l:Int)(m:Str)(d:Int)(e:Str)(f:Int)(g:Str)(a:zg)(n:List Str)(o:List zg)(h:List Str)(b:List zg):zaL:=(room (b.length+([(zB a)]:List zg).length)).bind λ_=>let i:=b++[(zB a)];some (.inr (⟨d,e,f,g,h,i⟩,(zi c),()))
def zgE(d:zf)(e:zh)(f:Int)(g:Str)(h:Int)(i:Str)(j:Int)(k:Str)(l:Int)(m:Str)(n:List Str)(o:List zg)(p:List Str)(q:List zg):zaL:=(d.zaT (zi e)).bind λr=>(match r with| .inl a=>some (.inl (a.1,(zi a.2.1),()))| .inr b=>zgL d (zi b.2.1) f g h i j k l m (zB b.1) n o p q)
def zeA(p:zf)(h:zh)(i:Int)(j:Str)(k:Int)(l:Str)(b:Int)(c:Str)(d:Int)(e:Str)(m:List Str)(n:List zg)(f:List Str)(g:List zg):zaL:=(zG [101,108,115,101] (zi h)).bind λa=>if a.1=true then zgE p (zi a.2.1) i j k l b c d e m n f g else some (.inr (⟨b,c,d,e,f,g⟩,(zi a.2.1),()))
def zeS(b:zf)(x:zh):zaL:=(b.zbf (zi x)).bind λi=>(match i with| .inl d=>some (.inl (d.1,(zi d.2.1),()))| .inr c=>fk ((b.zaT (zi c.2.1)).bind λj=>(match j with| .inl e=>some (.inl (e.1,(zi e.2.1),()))| .inr f=>fd (zeA b (zi f.2.1) 0 [] 0 [] 26 [] 0 [] [] [] [] [(zB c.1),(zB f.1)]))) ((b.zaT (zi c.2.1)).bind λk=>(match k with| .inl g=>some (.inl (g.1,(zi g.2.1),()))| .inr h=>zeA b (zi h.2.1) 0 [] 0 [] 26 [] 0 [] [] [] [] [(zB c.1),(zB h.1)])))
def zrZ(b:zf):=callee Y [] zuF zlD (λz=>zeS b z.1)
def zqY(b:zf):zac Y (zV Y zlD):=(.join [[1,1,2,2,2],[2,1,2,2,2],[2,2,2,2]] ⟨[(0,.ptr 0 0),(2,.ptr 1 0),(4,.ptr 2 0)],zgf⟩ (u13 (zeA b)) (.join [[1,3,2,1,2,2,2],[2,3,2,1,2,2,2],[2,2,2,2]] ⟨[(0,.ptr 0 0),(2,.ptr 1 0),(4,.ptr 2 0)],zgf⟩ (u13 (zgE b)) (.join [[2,3,2,1,2,2,2],[2,2,2,2]] ⟨[(2,.ptr 1 0),(4,.ptr 2 0),(5,.ptr 3 0)],om8⟩ (u14 (zgL b)) .nil)))
theorem zod(b:zf)(d:zy b):K8 85 (zrZ b):=f8 (zqY b) Tryz.func85 (.cons d.zbf (.cons d.zaT (.cons zan .nil))) ⟨λz=>by kernel_rfl,⟨λz=>by kernel_rfl,⟨λz=>by kernel_rfl,⟨⟩⟩⟩⟩
def zf0(k:zf)(x:zh):zaL:=(zX [40] (zi x)).bind λe=>(match e with| .inl a=>some (.inl (a.1,(zi a.2.1),()))| .inr f=>(k.zaf (zi f.1)).bind λg=>(match g with| .inl b=>(zX [41] (zi b.2.1)).bind λh=>(match h with| .inl c=>some (.inl (c.1,(zi c.2.1),()))| .inr i=>some (.inr ((zB b.1),(zi i.1),())))| .inr d=>some (.inl (d.1,(zi d.2.1),()))))
def zuO(b:zf):=callee Y [] zuF zlD (λz=>zf0 b z.1)
theorem zpA(b:zf)(d:zy b):K8 86 (zuO b):=f8 zux Tryz.func86 (.cons zav (.cons d.zaf .nil)) trivial
def zfT(e:zf)(x:zh):zaL:=(e.za6 (zi x)).bind λc=>(match c with| .inl b=>some (.inl (b.1,(zi b.2.1),()))| .inr a=>if(a.1.Kind !=25)=true then some (.inr (⟨25,[],0,[],[],[(zB a.1)]⟩,(zi a.2.1),()))else some (.inr ((zB a.1),(zi a.2.1),())))
def zuJ(b:zf):=callee Y [] zuF zlD (λz=>zfT b z.1)
theorem zqp(b:zf)(d:zy b):K8 87 (zuJ b):=f8 zux Tryz.func87 (.cons d.za6 .nil) trivial
def zdy(m:zf)(d:zh)(n:Int)(o:Str)(p:Int)(q:Str)(e:Int)(f:Str)(g:Int)(h:Str)(r:List Str)(s:List zg)(i:List Str)(b:List zg):zaL:=(m.zaT (zi d)).bind λj=>(match j with| .inl c=>some (.inl (c.1,(zi c.2.1),()))| .inr a=>(room (b.length+([(zB a.1)]:List zg).length)).bind λ_=>let k:=b++[(zB a.1)];some (.inr (⟨e,f,g,h,i,k⟩,(zi a.2.1),())))
def zgX(r:zf)(d:zh)(e:Int)(f:Str)(g:Int)(h:Str)(i:Int)(j:Str)(k:Int)(l:Str)(a:zg)(b:zg)(m:List Str)(n:List zg)(o:List Str)(c:List zg):zaL:=(room (c.length+([(zB a),(zB b)]:List zg).length)).bind λ_=>let p:=c++[(zB a),(zB b)];zdy r (zi d) e f g h i j k l m n o p
def zhf(d:zf)(e:zh)(f:Int)(g:Str)(h:Int)(i:Str)(j:Int)(k:Str)(l:Int)(m:Str)(n:zg)(o:List Str)(p:List zg)(q:List Str)(r:List zg):zaL:=(d.zb0 [41] (zi e)).bind λs=>(match s with| .inl a=>zgX d (zi a.2.1) f g h i j k l m (zB n) (zB a.1) o p q r| .inr b=>some (.inl (b.1,(zi b.2.1),())))
def zho(d:zf)(e:zh)(f:Int)(g:Str)(h:Int)(i:Str)(j:Int)(k:Str)(l:Int)(m:Str)(n:List Str)(o:List zg)(p:List Str)(q:List zg):zaL:=(d.zb0 [59] (zi e)).bind λr=>(match r with| .inl a=>zhf d (zi a.2.1) f g h i j k l m (zB a.1) n o p q| .inr b=>some (.inl (b.1,(zi b.2.1),())))
def zdQ(r:zf)(b:zh)(c:Int)(d:Str)(e:Int)(f:Str)(g:Int)(h:Str)(i:Int)(j:Str)(k:List Str)(l:List zg)(m:List Str)(n:List zg):zaL:=(zX [59] (zi b)).bind λo=>(match o with| .inl a=>some (.inl (a.1,(zi a.2.1),()))| .inr p=>zho r (zi p.1) c d e f g h i j k l m n)
def zhn(r:zf)(b:zh)(c:Int)(d:Str)(e:Int)(f:Str)(g:Int)(h:Str)(i:Int)(j:Str)(k:List Str)(l:List zg)(m:List Str)(n:List zg):zaL:=(zX [41] (zi b)).bind λo=>(match o with| .inl a=>some (.inl (a.1,(zi a.2.1),()))| .inr p=>zdy r (zi p.1) c d e f g h i j k l m n)
def zhF(q:zf)(c:zh)(d:Int)(e:Str)(f:Int)(g:Str)(h:Int)(i:Str)(j:Int)(k:Str)(a:zg)(l:List Str)(m:List zg)(n:List Str)(b:List zg):zaL:=(room (b.length+([(zB a)]:List zg).length)).bind λ_=>let o:=b++[(zB a)];zhn q (zi c) d e f g h i j k l m n o
def zhG(d:zf)(e:zh)(f:Int)(g:Str)(h:Int)(i:Str)(j:Int)(k:Str)(l:Int)(m:Str)(n:List Str)(o:List zg)(p:List Str)(q:List zg):zaL:=(d.zaf (zi e)).bind λr=>(match r with| .inl a=>zhF d (zi a.2.1) f g h i j k l m (zB a.1) n o p q| .inr b=>some (.inl (b.1,(zi b.2.1),())))
def zhu(n:zf)(a:zh)(b:Int)(c:Str)(d:Int)(e:Str)(o:Int)(f:Str)(g:Int)(h:Str)(i:List Str)(j:List zg)(k:List Str)(l:List zg):zaL:=zhG n (zi a) b c d e 30 f g h i j k l
def zdN(o:zf)(q:Bool)(p:zh)(a:Int)(b:Str)(c:Int)(d:Str)(e:Int)(f:Str)(g:Int)(h:Str)(i:List Str)(j:List zg)(k:List Str)(l:List zg):zaL:=if q=true then(zG [105,110] (zi p)).bind λm=>if m.1=true then zhu o (zi m.2.1) a b c d e f g h i j k l else zdQ o (zi m.2.1) a b c d e f g h i j k l else zdQ o (zi p) a b c d e f g h i j k l
def zhq(k:zf)(a:Bool)(b:zh)(c:Int)(d:Str)(e:Int)(f:Str)(g:zg)(h:List Str)(i:List zg):zaL:=zdN k a (zi b) c d e f 29 [] 0 [] h i [] [(zB g)]
def zdD(k:zf)(a:Bool)(b:zh)(c:Int)(d:Str)(e:Int)(f:Str)(g:zg)(h:List Str)(i:List zg):zaL:=zhq k a ⟨b.t,false⟩ c d e f (zB g) h i
def zf4(b:zf)(x:zh):zaL:=(zX [40] (zi x)).bind λj=>(match j with| .inl g=>some (.inl (g.1,(zi g.2.1),()))| .inr k=>(zG [118,97,114] ⟨k.1.t,true⟩).bind λd=>if d.1=true then(b.zbU (zi d.2.1)).bind λl=>(match l with| .inl h=>some (.inl (h.1,(zi h.2.1),()))| .inr c=>let m:=((c.1.L.length:Nat):Int);(if(m==1)=true then(zL c.1.L 0).bind λn=>let o:=((n.L.length:Nat):Int);some (o==0)else some false).bind λp=>zdD b p (zi c.2.1) 0 [] 0 [] (zB c.1) [] [])else(zaK [59] (zi d.2.1)).bind λe=>if(!e.1)=true then(b.zaf (zi e.2.1)).bind λq=>(match q with| .inl f=>(zhQ (zB f.1)).bind λr=>zdD b r.1 (zi f.2.1) 0 [] 0 [] (zB f.1) [] []| .inr i=>some (.inl (i.1,(zi i.2.1),())))else zdD b false (zi e.2.1) 0 [] 0 [] ⟨42,[],0,[],[],[]⟩ [] [])
def zuK(b:zf):=callee Y [] zuF zlD (λz=>zf4 b z.1)
def zuB(b:zf):zac Y (zV Y zlD):=(.join [[1,2,2,2,2,2],[2,2,2,2,2,2]] ⟨[(0,.ptr 0 0),(2,.ptr 1 0),(3,.ptr 2 0),(4,.bool)],zD0⟩ (u9 (zdD b)) (.join [[1,2,2,2,2,2,2],[2,2,2,2,2,2,2]] ⟨[(0,.ptr 0 0),(2,.ptr 1 0),(3,.ptr 2 0),(4,.bool)],zD0⟩ (u9 (zhq b)) (.join [[1,1,2,2,2,2,2,2,2],[2,1,2,2,2,2,2,2,2],[2,2,2,2,2,2,2,2]] ⟨[(0,.ptr 0 0),(2,.ptr 1 0),(4,.bool),(5,.ptr 2 0)],zgf⟩ (u14 (zdN b)) (.join [[1,3,2,1,2,2,2,2,2,2,2],[2,3,2,1,2,2,2,2,2,2,2],[2,2,2,2,2,2,2,2]] ⟨[(0,.ptr 0 0),(2,.ptr 1 0),(5,.ptr 2 0)],zgf⟩ (u13 (zhu b)) (.join [[1,2,3,2,1,2,2,2,2,2,2,2],[2,2,3,2,1,2,2,2,2,2,2,2],[2,2,2,2,2,2,2,2]] ⟨[(0,.ptr 0 0),(2,.ptr 1 0),(5,.ptr 2 0)],zgf⟩ (u13 (zhG b)) (.join [[1,2,2,3,2,1,2,2,2,2,2,2,2],[2,2,2,3,2,1,2,2,2,2,2,2,2],[2,2,2,2,2,2,2,2]] ⟨[(0,.ptr 0 0),(2,.ptr 1 0),(5,.ptr 2 0),(6,.ptr 3 0)],om8⟩ (u14 (zhF b)) (.join [[2,2,2,3,2,1,2,2,2,2,2,2,2],[2,2,2,2,2,2,2,2]] ⟨[(0,.ptr 0 0),(2,.ptr 1 0),(5,.ptr 2 0)],zgf⟩ (u13 (zhn b)) (.join [[1,4,2,1,2,2,2,2,2,2,2],[2,4,2,1,2,2,2,2,2,2,2],[2,2,2,2,2,2,2,2]] ⟨[(0,.ptr 0 0),(2,.ptr 1 0),(5,.ptr 2 0)],zgf⟩ (u13 (zdQ b)) (.join [[1,2,4,2,1,2,2,2,2,2,2,2],[2,2,4,2,1,2,2,2,2,2,2,2],[2,2,2,2,2,2,2,2]] ⟨[(0,.ptr 0 0),(2,.ptr 1 0),(5,.ptr 2 0)],zgf⟩ (u13 (zho b)) (.join [[1,2,2,4,2,1,2,2,2,2,2,2,2],[2,2,2,4,2,1,2,2,2,2,2,2,2],[2,2,2,2,2,2,2,2]] ⟨[(0,.ptr 0 0),(2,.ptr 1 0),(5,.ptr 2 0),(7,.ptr 3 0)],om8⟩ (u14 (zhf b)) (.join [[2,2,2,4,2,1,2,2,2,2,2,2,2],[2,2,2,2,2,2,2,2]] ⟨[(0,.ptr 0 0),(2,.ptr 1 0),(5,.ptr 2 0),(7,.ptr 3 0),(8,.ptr 4 0)],[.whole 48 48,oc0 5 6,oc0 7 8,.whole 25 25,.whole 25 25,.arr 9,.arr 25,.arr 9,.arr 25]⟩ (u15 (zgX b)) (.join [[1,2,2,2,2,2,2,2,2],[2,2,2,2,2,2,2,2,2]] ⟨[(0,.ptr 0 0),(2,.ptr 1 0),(5,.ptr 2 0)],zgf⟩ (u13 (zdy b)) .nil))))))))))))
theorem zqs(d:zf)(b:zy d):K8 88 (zuK d):=f8 (zuB d) Tryz.func88 (.cons zav (.cons zan (.cons b.zbU (.cons zbK (.cons b.zaf (.cons znM (.cons b.zb0 (.cons b.zaT .nil)))))))) ⟨λz=>by kernel_rfl,⟨λz=>by kernel_rfl,⟨λz=>by kernel_rfl,⟨λz=>by kernel_rfl,⟨λz=>by kernel_rfl,⟨λz=>by kernel_rfl,⟨λz=>by kernel_rfl,⟨λz=>by kernel_rfl,⟨λz=>by kernel_rfl,⟨λz=>by kernel_rfl,⟨λz=>by kernel_rfl,⟨λz=>by kernel_rfl,⟨⟩⟩⟩⟩⟩⟩⟩⟩⟩⟩⟩⟩⟩
def zfp(i:zf)(s:Str)(x:zh):zgx:=(zG s (zi x)).bind λa=>if a.1=true then some (.inl (⟨42,[],0,[],[],[]⟩,(zi a.2.1),()))else(i.zaf (zi a.2.1)).bind λe=>(match e with| .inl b=>(zX s (zi b.2.1)).bind λf=>(match f with| .inl c=>some (.inr (c.1,(zi c.2.1),()))| .inr g=>some (.inl ((zB b.1),(zi g.1),())))| .inr d=>some (.inr (d.1,(zi d.2.1),())))
def zs8(b:zf):=callee Y [] zwD zgZ (u2 (zfp b))
theorem zoJ(b:zf)(d:zy b):K8 135 (zs8 b):=f8 zra Tryz.func135 (.cons zan (.cons d.zaf (.cons zav .nil))) trivial
def zfe(o:zf)(a:zh)(h:Int)(i:Str)(j:Int)(k:Str)(b:Int)(c:Str)(d:Int)(e:Str)(l:List Str)(m:List zg)(f:List Str)(g:List zg):zaL:=some (.inr (⟨b,c,d,e,f,g⟩,(zi a),()))
def zh6(q:zf)(c:Bool)(a:zh)(d:Int)(e:Str)(f:Int)(g:Str)(h:Int)(i:Str)(j:Int)(k:Str)(l:List Str)(m:List zg)(n:List Str)(o:List zg):zaL:=if(!c)=true then(zaA (zi a)).bind λb=>some (.inl (b.1,(zi b.2.1),()))else zfe q (zi a) d e f g h i j k l m n o
def zib(e:zf)(f:zh)(g:Int)(h:Str)(i:Int)(j:Str)(k:Int)(l:Str)(m:Int)(n:Str)(o:List Str)(p:List zg)(q:List Str)(a:List zg):zaL:=(e.za8 (zi f)).bind λr=>(match r with| .inl b=>some (.inl (b.1,(zi b.2.1),()))| .inr c=>(zL a 2).bind λ_=>(zL a 2).bind λt=>let s:=a.set (2:Int).toNat (zB c.1);zfe e (zi c.2.1) g h i j k l m n o p q s)
def zel(o:zf)(p:Bool)(q:zh)(b:Int)(c:Str)(d:Int)(e:Str)(f:Int)(g:Str)(h:Int)(i:Str)(j:List Str)(k:List zg)(l:List Str)(m:List zg):zaL:=(zG [102,105,110,97,108,108,121] (zi q)).bind λa=>if a.1=true then zib o (zi a.2.1) b c d e f g h i j k l m else zh6 o p (zi a.2.1) b c d e f g h i j k l m
def zh7(e:zf)(f:Bool)(g:zh)(h:Int)(i:Str)(j:Int)(k:Str)(l:Int)(m:Str)(n:Int)(o:Str)(p:List Str)(q:List zg)(r:List Str)(a:List zg):zaL:=(e.za8 (zi g)).bind λs=>(match s with| .inl b=>some (.inl (b.1,(zi b.2.1),()))| .inr c=>(zL a 1).bind λ_=>(zL a 1).bind λu=>let t:=a.set (1:Int).toNat (zB c.1);zel e f (zi c.2.1) h i j k l m n o p q r t)
def zh5(s:zf)(b:Bool)(c:zh)(d:Int)(e:Str)(f:Int)(g:Str)(h:Int)(i:Str)(j:Int)(k:Str)(l:List Str)(m:List zg)(n:List Str)(o:List zg):zaL:=(zX [41] (zi c)).bind λp=>(match p with| .inl a=>some (.inl (a.1,(zi a.2.1),()))| .inr q=>zh7 s b (zi q.1) d e f g h i j k l m n o)
def zh3(r:zf)(c:Bool)(d:zh)(e:Int)(f:Str)(g:Int)(h:Str)(i:Int)(s:Str)(j:Int)(k:Str)(l:List Str)(m:List zg)(n:List Str)(o:List zg):zaL:=(zcu (zi d)).bind λp=>(match p with| .inl a=>some (.inl (a.1,(zi a.2.1),()))| .inr b=>zh5 r c (zi b.2.1) e f g h i b.1 j k l m n o)
def zh4(s:zf)(b:Bool)(c:zh)(d:Int)(e:Str)(f:Int)(g:Str)(h:Int)(i:Str)(j:Int)(k:Str)(l:List Str)(m:List zg)(n:List Str)(o:List zg):zaL:=(zX [40] (zi c)).bind λp=>(match p with| .inl a=>some (.inl (a.1,(zi a.2.1),()))| .inr q=>zh3 s b (zi q.1) d e f g h i j k l m n o)
def zih(p:zf)(a:Bool)(b:zh)(c:Int)(d:Str)(e:Int)(f:Str)(g:Int)(h:Str)(i:Int)(j:Str)(k:List Str)(l:List zg)(m:List Str)(n:List zg):zaL:=if a=true then zh4 p a (zi b) c d e f g h i j k l m n else zel p a (zi b) c d e f g h i j k l m n
def zfR(p:zf)(b:zh)(c:Int)(d:Str)(e:Int)(f:Str)(g:Int)(h:Str)(i:Int)(j:Str)(k:List Str)(l:List zg)(m:List Str)(n:List zg):zaL:=(zG [99,97,116,99,104] (zi b)).bind λa=>zih p a.1 (zi a.2.1) c d e f g h i j k l m n
def zgm(b:zf)(x:zh):zaL:=fk ((b.za8 (zi x)).bind λg=>(match g with| .inl c=>some (.inl (c.1,(zi c.2.1),()))| .inr d=>fd (zfR b (zi d.2.1) 0 [] 0 [] 35 [] 0 [] [] [] [] [(zB d.1),⟨42,[],0,[],[],[]⟩,⟨42,[],0,[],[],[]⟩]))) ((b.za8 (zi x)).bind λh=>(match h with| .inl e=>some (.inl (e.1,(zi e.2.1),()))| .inr f=>zfR b (zi f.2.1) 0 [] 0 [] 35 [] 0 [] [] [] [] [(zB f.1),⟨42,[],0,[],[],[]⟩,⟨42,[],0,[],[],[]⟩]))
def zvD(b:zf):=callee Y [] zuF zlD (λz=>zgm b z.1)
def zvm(b:zf):zac Y (zV Y zlD):=(.join [[1,2,2,2],[2,2,2,2]] ⟨[(0,.ptr 0 0),(2,.ptr 1 0),(4,.ptr 2 0)],zgf⟩ (u13 (zfR b)) (.join [[1,1,2,2,2,2],[2,1,2,2,2,2],[2,2,2,2,2]] ⟨[(0,.ptr 0 0),(2,.ptr 1 0),(4,.ptr 2 0),(5,.bool)],zgf⟩ (u14 (zih b)) (.join [[1,3,2,1,2,2,2,2],[2,3,2,1,2,2,2,2],[2,2,2,2,2]] ⟨[(0,.ptr 0 0),(2,.ptr 1 0),(4,.ptr 2 0),(5,.bool)],zgf⟩ (u14 (zh4 b)) (.join [[1,2,3,2,1,2,2,2,2],[2,2,3,2,1,2,2,2,2],[2,2,2,2,2]] ⟨[(0,.ptr 0 0),(2,.ptr 1 0),(4,.ptr 2 0),(5,.bool)],zgf⟩ (u14 (zh3 b)) (.join [[1,2,2,3,2,1,2,2,2,2],[2,2,2,3,2,1,2,2,2,2],[2,2,2,2,2]] ⟨[(0,.ptr 0 0),(2,.ptr 1 0),(4,.ptr 2 0),(5,.bool)],zgf⟩ (u14 (zh5 b)) (.join [[2,2,2,3,2,1,2,2,2,2],[2,2,2,2,2]] ⟨[(0,.ptr 0 0),(2,.ptr 1 0),(4,.ptr 2 0),(5,.bool)],zgf⟩ (u14 (zh7 b)) (.join [[1,1,2,2,2,2,2],[2,1,2,2,2,2,2],[2,2,2,2,2,2]] ⟨[(0,.ptr 0 0),(2,.ptr 1 0),(4,.ptr 2 0),(5,.bool)],zgf⟩ (u14 (zel b)) (.join [[3,2,1,2,2,2,2,2],[2,2,2,2,2,2]] ⟨[(0,.ptr 0 0),(2,.ptr 1 0),(4,.ptr 2 0)],zgf⟩ (u13 (zib b)) (.join [[1,4,2,1,2,2,2,2,2],[2,4,2,1,2,2,2,2,2],[2,2,2,2,2,2]] ⟨[(0,.ptr 0 0),(2,.ptr 1 0),(4,.ptr 2 0),(5,.bool)],zgf⟩ (u14 (zh6 b)) (.join [[1,2,2,2,2,2,2],[2,2,2,2,2,2,2]] ⟨[(2,.ptr 1 0),(4,.ptr 2 0)],zgf⟩ (u13 (zfe b)) .nil))))))))))
theorem zrF(b:zf)(d:zy b):K8 92 (zvD b):=f8 (zvm b) Tryz.func92 (.cons d.za8 (.cons zan (.cons zav (.cons zdF (.cons zaF .nil))))) ⟨λz=>by kernel_rfl,⟨λz=>by kernel_rfl,⟨λz=>by kernel_rfl,⟨λz=>by kernel_rfl,⟨λz=>by kernel_rfl,⟨λz=>by kernel_rfl,⟨λz=>by kernel_rfl,⟨λz=>by kernel_rfl,⟨λz=>by kernel_rfl,⟨λz=>by kernel_rfl,⟨⟩⟩⟩⟩⟩⟩⟩⟩⟩⟩⟩
def zdr(H:zf):Bool×zh×Int×Str×Int×Str×Int×Str×Int×Str×Int×Str×Int×Str×(List Str)×(List zg)×(List Str)×(List zg)×(List Str)×(List zg)×Unit->Option ((Bool×zh×Int×Str×Int×Str×Int×Str×Int×Str×Int×Str×Int×Str×(List Str)×(List zg)×(List Str)×(List zg)×(List Str)×(List zg)×Unit)⊕((Bool×zh×Int×Str×Int×Str×Int×Str×Int×Str×(List Str)×(List zg)×(List Str)×(List zg)×Unit)⊕((zY×zh×Unit)⊕(zg×zh×Unit))))| (j,y,k,l,m,n,o,p,q,r,c,d,e,f,s,u,v,g,h,a,())=>(zaU [32,99,97,115,101,32,100,101,102,97,117,108,116,32,125,32] (zi y)).bind λb=>(if(!b.1)=true then(zL b.2.1.t 0).bind λz=>some (z.Kind !=0)else some false).bind λA=>if A=true then(H.za6 (zi b.2.1)).bind λB=>(match B with| .inl x=>some (.inr (.inr (.inl (x.1,(zi x.2.1),()))))| .inr i=>(room (a.length+([(zB i.1)]:List zg).length)).bind λ_=>let C:=a++[(zB i.1)];some (.inl (j,(zi i.2.1),k,l,m,n,o,p,q,r,c,d,e,f,s,u,v,g,h,C,())))else(room (g.length+([⟨c,d,e,f,h,a⟩]:List zg).length)).bind λ_=>let D:=g++[⟨c,d,e,f,h,a⟩];some (.inr (.inl (j,(zi b.2.1),k,l,m,n,o,p,q,r,s,u,v,D,())))
def zds(z:zf)(b:Bool)(c:zh)(d:Int)(e:Str)(f:Int)(g:Str)(h:Int)(i:Str)(j:Int)(k:Str)(l:Int)(m:Str)(n:Int)(o:Str)(p:List Str)(q:List zg)(r:List Str)(s:List zg)(t:List Str)(u:List zg):OT1:=(zX [58] (zi c)).bind λv=>(match v with| .inl a=>some (.inr (.inl (a.1,(zi a.2.1),())))| .inr x=>Lp.loop (zdr z) (b,(zi x.1),d,e,f,g,h,i,j,k,l,m,n,o,p,q,r,s,t,u,()))
def zhi(e:zf)(f:Bool)(g:zh)(h:Int)(i:Str)(j:Int)(k:Str)(l:Int)(m:Str)(n:Int)(o:Str)(p:Int)(q:Str)(r:Int)(s:Str)(t:List Str)(u:List zg)(v:List Str)(x:List zg)(y:List Str)(a:List zg):OT1:=(e.zaf (zi g)).bind λz=>(match z with| .inl b=>(zL a 0).bind λ_=>(zL a 0).bind λB=>let A:=a.set (0:Int).toNat (zB b.1);zds e f (zi b.2.1) h i j k l m n o p q r s t u v x y A| .inr c=>some (.inr (.inl (c.1,(zi c.2.1),()))))
def zdv(z:zf)(b:Bool)(c:zh)(d:Int)(e:Str)(f:Int)(g:Str)(h:Int)(i:Str)(j:Int)(k:Str)(l:Int)(m:Str)(n:Int)(o:Str)(p:List Str)(q:List zg)(r:List Str)(s:List zg)(t:List Str)(u:List zg):OT1:=(zX [99,97,115,101] (zi c)).bind λv=>(match v with| .inl a=>some (.inr (.inl (a.1,(zi a.2.1),())))| .inr x=>zhi z b (zi x.1) d e f g h i j k l m n o p q r s t u)
def zdu(q:zf):Bool×zh×Int×Str×Int×Str×Int×Str×Int×Str×(List Str)×(List zg)×(List Str)×(List zg)×Unit->OT1| (h,r,i,j,k,l,a,b,c,d,m,n,e,f,())=>(zG [125] (zi r)).bind λg=>if(!g.1)=true then if h=true then(zG [100,101,102,97,117,108,116] (zi g.2.1)).bind λo=>if o.1=true then zds q false (zi o.2.1) i j k l a b c d 37 [] 0 [] m n e f [] [⟨42,[],0,[],[],[]⟩]else zdv q h (zi o.2.1) i j k l a b c d 37 [] 0 [] m n e f [] [⟨42,[],0,[],[],[]⟩]else zdv q h (zi g.2.1) i j k l a b c d 37 [] 0 [] m n e f [] [⟨42,[],0,[],[],[]⟩]else some (.inr (.inr (⟨a,b,c,d,e,f⟩,(zi g.2.1),())))
def zfo(e:zf)(x:zh):zaL:=(e.zbf (zi x)).bind λf=>(match f with| .inl a=>some (.inl (a.1,(zi a.2.1),()))| .inr b=>(zX [123] (zi b.2.1)).bind λg=>(match g with| .inl c=>some (.inl (c.1,(zi c.2.1),()))| .inr h=>Lp.loop (zdu e) (true,(zi h.1),0,[],0,[],36,[],0,[],[],[],[],[(zB b.1)],())))
def zsF(b:zf):=callee Y [] zuF zlD (λz=>zfo b z.1)
def ztA(b:zf):zac Y (zV Y zlD):=(.loop [[7,5,1,2,2,2,2],[8,5,1,2,2,2,2],[6,1,2,2,2,2],[2,2,2,2,2]] ⟨[(0,.ptr 0 0),(2,.ptr 1 0),(3,.ptr 2 0),(4,.bool)],zgf⟩ (zdu b) (.join [[1,4,2,1,2,5,2,7,5,1,2,2,2,2],[2,4,2,1,2,5,2,7,5,1,2,2,2,2],[2,2,5,2,7,5,1,2,2,2,2],[6,2,7,5,1,2,2,2,2],[8,5,1,2,2,2,2],[6,1,2,2,2,2],[2,2,2,2,2]] ⟨[(0,.ptr 0 0),(2,.ptr 1 0),(3,.ptr 2 0),(4,.bool),(5,.ptr 3 0)],om6⟩ (u20 (zdv b)) (.join [[2,4,2,1,2,5,2,7,5,1,2,2,2,2],[2,2,5,2,7,5,1,2,2,2,2],[6,2,7,5,1,2,2,2,2],[8,5,1,2,2,2,2],[6,1,2,2,2,2],[2,2,2,2,2]] ⟨[(0,.ptr 0 0),(2,.ptr 1 0),(3,.ptr 2 0),(4,.bool),(5,.ptr 3 0)],om6⟩ (u20 (zhi b)) (.join [[1,2,2,5,2,7,5,1,2,2,2,2],[2,2,2,5,2,7,5,1,2,2,2,2],[6,2,7,5,1,2,2,2,2],[8,5,1,2,2,2,2],[6,1,2,2,2,2],[2,2,2,2,2]] ⟨[(0,.ptr 0 0),(2,.ptr 1 0),(3,.ptr 2 0),(4,.bool),(5,.ptr 3 0)],om6⟩ (u20 (zds b)) (.loop [[7,5,1,2,2,2,5,2,7,5,1,2,2,2,2],[8,5,1,2,2,2,5,2,7,5,1,2,2,2,2],[6,1,2,2,2,5,2,7,5,1,2,2,2,2],[2,2,2,2,5,2,7,5,1,2,2,2,2],[6,2,7,5,1,2,2,2,2],[8,5,1,2,2,2,2],[6,1,2,2,2,2],[2,2,2,2,2]] ⟨[(0,.ptr 0 0),(2,.ptr 1 0),(3,.ptr 2 0),(4,.bool),(5,.ptr 3 0)],om6⟩ (zdr b) .nil .nil)))) .nil)
theorem zo5(c:zf)(d:zy c):K8 93 (zsF c):=f8 (ztA c) Tryz.func93 (.cons d.zbf (.cons zav (.cons zan (.cons zeR (.cons d.za6 (.cons d.zaf .nil)))))) ⟨λz=>by kernel_rfl,⟨λz=>by kernel_rfl,⟨λz=>by kernel_rfl,⟨λz=>by kernel_rfl,⟨λz=>by kernel_rfl,trivial,trivial⟩⟩⟩⟩,trivial⟩
def zl:Nat->zf
 |0=>⟨λ_ _ _=>none,λ_ _=>none,λ_ _ _ _ _ _ _=>none,λ_ _ _ _ _ _ _=>none,λ_=>none,λ_=>none,λ_=>none,λ_=>none,λ_ _=>none,λ_=>none,λ_=>none,λ_=>none,λ_=>none,λ_ _ _ _ _ _ _=>none,λ_ _ _ _ _ _ _=>none,λ_=>none,λ_ _ _=>none,λ_ _ _ _=>none,λ_ _ _ _=>none,λ_ _ _ _=>none,λ_ _=>none,λ_ _ _ _ _ _ _ _ _=>none,λ_ _ _ _ _ _ _ _ _=>none,λ_ _ _ _ _ _ _ _ _=>none,λ_ _ _ _ _ _ _=>none,λ_ _ _=>none,λ_ _ _ _ _ _ _=>none,λ_ _ _ _ _ _ _=>none,λ_ _ _ _ _ _ _=>none,λ_ _ _ _ _ _ _=>none,λ_=>none,λ_=>none,λ_=>none,λ_=>none,λ_ _=>none,λ_=>none,λ_=>none⟩
 |n+1=>⟨zfi (zl n),zeb (zl n),zdP (zl n),zdB (zl n),zf6 (zl n),zfn (zl n),zfU (zl n),zeN (zl n),zeM (zl n),zfg (zl n),zf1 (zl n),zeD (zl n),zfZ (zl n),zdH (zl n),zeK (zl n),zfW (zl n),zfa (zl n),zdg (zl n),zdT (zl n),zdZ (zl n),zey (zl n),zeE (zl n),zdE (zl n),zdS (zl n),zeP (zl n),zeC (zl n),zdK (zl n),zdX (zl n),zdG (zl n),zea (zl n),zeS (zl n),zf0 (zl n),zfT (zl n),zf4 (zl n),zfp (zl n),zgm (zl n),zfo (zl n)⟩
theorem zu: ∀n,zy (zl n)
 |0=>⟨COk.none ⟨⟨_,Tryz.func20,by kernel_rfl,rfl⟩⟩,COk.none ⟨⟨_,Tryz.func37,by kernel_rfl,rfl⟩⟩,COk.none ⟨⟨_,Tryz.func80,by kernel_rfl,rfl⟩⟩,COk.none ⟨⟨_,Tryz.func81,by kernel_rfl,rfl⟩⟩,COk.none ⟨⟨_,Tryz.func38,by kernel_rfl,rfl⟩⟩,COk.none ⟨⟨_,Tryz.func82,by kernel_rfl,rfl⟩⟩,COk.none ⟨⟨_,Tryz.func83,by kernel_rfl,rfl⟩⟩,COk.none ⟨⟨_,Tryz.func134,by kernel_rfl,rfl⟩⟩,COk.none ⟨⟨_,Tryz.func166,by kernel_rfl,rfl⟩⟩,COk.none ⟨⟨_,Tryz.func189,by kernel_rfl,rfl⟩⟩,COk.none ⟨⟨_,Tryz.func211,by kernel_rfl,rfl⟩⟩,COk.none ⟨⟨_,Tryz.func224,by kernel_rfl,rfl⟩⟩,COk.none ⟨⟨_,Tryz.func237,by kernel_rfl,rfl⟩⟩,COk.none ⟨⟨_,Tryz.func80,by kernel_rfl,rfl⟩⟩,COk.none ⟨⟨_,Tryz.func241,by kernel_rfl,rfl⟩⟩,COk.none ⟨⟨_,Tryz.func91,by kernel_rfl,rfl⟩⟩,COk.none ⟨⟨_,Tryz.func223,by kernel_rfl,rfl⟩⟩,COk.none ⟨⟨_,Tryz.func78,by kernel_rfl,rfl⟩⟩,COk.none ⟨⟨_,Tryz.func80,by kernel_rfl,rfl⟩⟩,COk.none ⟨⟨_,Tryz.func133,by kernel_rfl,rfl⟩⟩,COk.none ⟨⟨_,Tryz.func236,by kernel_rfl,rfl⟩⟩,COk.none ⟨⟨_,Tryz.func78,by kernel_rfl,rfl⟩⟩,COk.none ⟨⟨_,Tryz.func80,by kernel_rfl,rfl⟩⟩,COk.none ⟨⟨_,Tryz.func133,by kernel_rfl,rfl⟩⟩,COk.none ⟨⟨_,Tryz.func242,by kernel_rfl,rfl⟩⟩,COk.none ⟨⟨_,Tryz.func210,by kernel_rfl,rfl⟩⟩,COk.none ⟨⟨_,Tryz.func80,by kernel_rfl,rfl⟩⟩,COk.none ⟨⟨_,Tryz.func222,by kernel_rfl,rfl⟩⟩,COk.none ⟨⟨_,Tryz.func80,by kernel_rfl,rfl⟩⟩,COk.none ⟨⟨_,Tryz.func167,by kernel_rfl,rfl⟩⟩,COk.none ⟨⟨_,Tryz.func85,by kernel_rfl,rfl⟩⟩,COk.none ⟨⟨_,Tryz.func86,by kernel_rfl,rfl⟩⟩,COk.none ⟨⟨_,Tryz.func87,by kernel_rfl,rfl⟩⟩,COk.none ⟨⟨_,Tryz.func88,by kernel_rfl,rfl⟩⟩,COk.none ⟨⟨_,Tryz.func135,by kernel_rfl,rfl⟩⟩,COk.none ⟨⟨_,Tryz.func92,by kernel_rfl,rfl⟩⟩,COk.none ⟨⟨_,Tryz.func93,by kernel_rfl,rfl⟩⟩⟩
 |n+1=>⟨zo4 _ (zu n),zmX _ (zu n),zmz _ (zu n),zlV _ (zu n),zpX _ (zu n),zoM _ (zu n),zpR _ (zu n),zn6 _ (zu n),zoj _ (zu n),zo7 _ (zu n),zp8 _ (zu n),znw _ (zu n),zqy _ (zu n),zmM _ (zu n),zoh _ (zu n),zqr _ (zu n),zoR _ (zu n),znl _ (zu n),zmA _ (zu n),zmt _ (zu n),znh _ (zu n),znn _ (zu n),zmH _ (zu n),zmJ _ (zu n),zoF _ (zu n),zni _ (zu n),zmo _ (zu n),zmD _ (zu n),zmx _ (zu n),zm0 _ (zu n),zod _ (zu n),zpA _ (zu n),zqp _ (zu n),zqs _ (zu n),zoJ _ (zu n),zrF _ (zu n),zo5 _ (zu n)⟩
def zaV:Bool->Str->zh->zzf:=(zl Lp.big).zaV
theorem zr5:K8 20 (ze9 (zl Lp.big)):=(zu Lp.big).zaV
def zbm:Int->zh->zaL:=(zl Lp.big).zbm
def zbN:zh->Int->Str->Int->Str->(List Str)->(List zg)->OT4:=(zl Lp.big).zbN
def zb4:zh->Int->Str->Int->Str->(List Str)->(List zg)->OT4:=(zl Lp.big).zb4
def za6:zh->zaL:=(zl Lp.big).za6
def za8:zh->zaL:=(zl Lp.big).za8
def zbU:zh->zaL:=(zl Lp.big).zbU
def zal:zh->zgx:=(zl Lp.big).zal
def zbE:Int->zh->zaL:=(zl Lp.big).zbE
def zbz:zh->zgx:=(zl Lp.big).zbz
def zbV:zh->zgx:=(zl Lp.big).zbV
def zb7:zh->zgx:=(zl Lp.big).zb7
def zc5:zh->zgx:=(zl Lp.big).zc5
def zbO:zh->Int->Str->Int->Str->(List Str)->(List zg)->OT6:=(zl Lp.big).zbO
def zc8:zh->Int->Str->Int->Str->(List Str)->(List zg)->OT6:=(zl Lp.big).zc8
def zaf:zh->zgx:=(zl Lp.big).zaf
def za9:Str->Bool->zh->zzf:=(zl Lp.big).za9
def zcW:Str->Bool->zh->(List zg)->zzn:=(zl Lp.big).zcW
def zcq:zh->Str->(List zg)->Bool->OT8:=(zl Lp.big).zcq
def zcs:zh->Str->(List zg)->Bool->OT8:=(zl Lp.big).zcs
def zcb:zh->(List zg)->zzn:=(zl Lp.big).zcb
def zca:Str->Bool->zh->Int->Str->Int->Str->(List Str)->(List zg)->OT5:=(zl Lp.big).zca
def zco:zh->Str->Int->Str->Int->Str->(List Str)->(List zg)->Bool->OT3:=(zl Lp.big).zco
def zct:zh->Str->Int->Str->Int->Str->(List Str)->(List zg)->Bool->OT3:=(zl Lp.big).zct
def zcz:zh->Int->Str->Int->Str->(List Str)->(List zg)->OT5:=(zl Lp.big).zcz
def zbv:zg->Bool->zh->zaL:=(zl Lp.big).zbv
def zbR:zh->Int->Str->Int->Str->(List Str)->(List zg)->OT6:=(zl Lp.big).zbR
def zcn:zh->Int->Str->Int->Str->(List Str)->(List zg)->OT6:=(zl Lp.big).zcn
def zbQ:zh->Int->Str->Int->Str->(List Str)->(List zg)->OT6:=(zl Lp.big).zbQ
def zcJ:zh->Int->Str->Int->Str->(List Str)->(List zg)->OT6:=(zl Lp.big).zcJ
def zcA:zh->zaL:=(zl Lp.big).zcA
def zbf:zh->zaL:=(zl Lp.big).zbf
def zaT:zh->zaL:=(zl Lp.big).zaT
def zc2:zh->zaL:=(zl Lp.big).zc2
def zb0:Str->zh->zgx:=(zl Lp.big).zb0
def zdm:zh->zaL:=(zl Lp.big).zdm
def zcN:zh->zaL:=(zl Lp.big).zcN
structure zdi where
 zd5:zg->Option (Int×Unit)
def zmc(b:zdi):=callee Y [] zxJ zu7 (λz=>b.zd5 z.1)
structure zox (g_:zdi):Prop where
 zd5:COk hY Tryz.prog zaw 22 (zmc g_)
def zhg(k:zdi):Int×(List zg)×Int×Int×Unit->Option ((Int×(List zg)×Int×Int×Unit)⊕(Int×Unit))| (a,c,d,b,())=>if(decide (b<d))=true then(zL c b).bind λf=>(k.zd5 (zB f)).bind λe=>let g:=(if e.1>a then e.1 else a);let h:=(IntKind.wrap .i64 (b+1));some (.inl (g,c,d,h,()))else let i:=(IntKind.wrap .i64 (a+1));some (.inr (i,()))
def zmb(b:zdi)(n:zg):Option (Int×Unit):=Lp.loop (zhg b) (0,n.L,((n.L.length:Nat):Int),0,())
def zCF(b:zdi):=callee Y [] zxJ zu7 (λz=>zmb b z.1)
def zCR(b:zdi):zac Y (zV Y zu7):=(.loop [[7,5,2,1,2,2],[8,5,2,1,2,2],[6,2,1,2,2],[2,2,2]] ⟨[(3,.int .i64),(7,.sl 25),(8,.int .i64),(9,.int .i64)],[]⟩ (zhg b) .nil .nil)
theorem zzl(b:zdi)(d:zox b):K8 22 (zCF b):=f8 (zCR b) Tryz.func22 (.cons d.zd5 .nil) ⟨λz=>by kernel_rfl,trivial,trivial⟩
def zcE:Nat->zdi
 |0=>⟨λ_=>none⟩
 |n+1=>⟨zmb (zcE n)⟩
theorem zm8: ∀n,zox (zcE n)
 |0=>⟨COk.none ⟨⟨_,Tryz.func22,by kernel_rfl,rfl⟩⟩⟩
 |n+1=>⟨zzl _ (zm8 n)⟩
def zd5:zg->Option (Int×Unit):=(zcE Lp.big).zd5
theorem zBP:K8 22 (zmc (zcE Lp.big)):=(zm8 Lp.big).zd5
def zbp(l:Str):Option (zg×Int×Int×Unit):=(zpi l).bind λa=>if(a.2.2.1 !=0)=true then fk (fk (fk (some (⟨0,[],0,[],[],[]⟩,a.2.1,a.2.2.1,())) (fd (some (⟨0,[],0,[],[],[]⟩,a.2.1,a.2.2.1,())))) (fk (fd (some (⟨0,[],0,[],[],[]⟩,a.2.1,a.2.2.1,()))) (fk (fd (some (⟨0,[],0,[],[],[]⟩,a.2.1,a.2.2.1,()))) (some (⟨0,[],0,[],[],[]⟩,a.2.1,a.2.2.1,()))))) (fk (fk (fk (some (⟨0,[],0,[],[],[]⟩,a.2.1,a.2.2.1,())) (fd (some (⟨0,[],0,[],[],[]⟩,a.2.1,a.2.2.1,())))) (some (⟨0,[],0,[],[],[]⟩,a.2.1,a.2.2.1,()))) (fk (fd (some (⟨0,[],0,[],[],[]⟩,a.2.1,a.2.2.1,()))) (some (⟨0,[],0,[],[],[]⟩,a.2.1,a.2.2.1,()))))else(zaV true [125] ⟨a.1,false⟩).bind λi=>(match i with| .inl b=>(zL b.2.1.t 0).bind λj=>if(j.Kind !=0)=true then(zaA (zi b.2.1)).bind λc=>if((c.1).isNil)=true then some (⟨41,[],0,[],[],b.1⟩,a.2.1,a.2.2.1,())else(znE 45 c.1).bind λe=>if e.2=true then some (⟨0,[],0,[],[],[]⟩,e.1,80,())else zzc c.1 λ_=>none else(zd5 ⟨41,[],0,[],[],b.1⟩).bind λk=>if(decide (k.1>64))=true then if((zY.nil).isNil)=true then some (⟨0,[],0,[],[],[]⟩,0,31,())else(znE 45 zY.nil).bind λf=>if f.2=true then some (⟨0,[],0,[],[],[]⟩,f.1,80,())else zzc zY.nil λ_=>none else if((zY.nil).isNil)=true then some (⟨41,[],0,[],[],b.1⟩,0,0,())else(znE 45 zY.nil).bind λg=>if g.2=true then some (⟨0,[],0,[],[],[]⟩,g.1,80,())else zzc zY.nil λ_=>none| .inr d=>if((d.1).isNil)=true then some (⟨0,[],0,[],[],[]⟩,a.2.1,a.2.2.1,())else(znE 45 d.1).bind λh=>if h.2=true then some (⟨0,[],0,[],[],[]⟩,h.1,80,())else zzc d.1 λ_=>none)
def zx2:List zO:=[⟨false,.tup [.st 25,.int .i64,.int .i64],[]⟩]
def zyH:=callee Y [] zCP zx2 (λz=>zbp z.1)
theorem zn8:K8 9 zyH:=
 zKY (body:=(Tryz.f9.body).getD .skip) (gfn:=Tryz.f19) (T:=[(18,(zqN)),(20,(ze9 (zl Lp.big))),(21,(zee)),(22,(zmc (zcE Lp.big)))]) [[1,2,2,2],[2,2,2,2]] Tryz.func9 (by kernel_rfl) ⟨⟨_,Tryz.func9,by kernel_rfl,rfl⟩⟩ Tryz.func19 ⟨⟨_,Tryz.func19,by kernel_rfl,rfl⟩⟩ hsz ((.cons zBu (.cons zr5 (.cons zaF (.cons zBP .nil)))):zcm hY Tryz.prog zaw [(18,(zqN)),(20,(ze9 (zl Lp.big))),(21,(zee)),(22,(zmc (zcE Lp.big)))]) (λ_ _ hle h=>h.mono hle) (by kernel_rfl)
  (λz=>by kernel_rfl)
def zgp:Option (Bool×Unit):=(zbp [97,32,61,32,98,10,43,43,99]).bind λb=>(zbp [114,101,116,117,114,110,10,97]).bind λa=>(zbp [49,32,61,32,50]).bind λc=>let d:=((b.2.2.1==0)&&(((b.1.L.length:Nat):Int)==2));let e:=((d&&(a.2.2.1==0))&&(((a.1.L.length:Nat):Int)==2));(if e=true then(zL a.1.L 0).bind λf=>let g:=((f.L.length:Nat):Int);some (g==0)else some false).bind λh=>let i:=((h&&(c.2.1==2))&&(c.2.2.1==80));some (i,())
def ztN:Shape:=⟨[],[]⟩
def ztw:=callee Y [] ztN zuY (λz=>zgp)
theorem zse:K8 11 (ztw):=f8 zzD Tryz.func11 (.cons zn8 .nil) trivial
def zS(n:zg):Option (zcr×Bool×Unit):=if(n.Kind==22)=true then some (⟨[],0,false,false,[100,42,100]⟩,true,())else if(n.Kind==23)=true then let b:=(if 1< ((n.L.length:Nat):Int)then 1 else((n.L.length:Nat):Int));(zar [101] 0 b).bind λc=>some (⟨[110],0,false,false,c⟩,true,())else if(n.Kind==24)=true then some (⟨[],0,false,false,[101]⟩,true,())else if(n.Kind==34)=true then some (⟨[],0,false,false,[101]⟩,true,())else if(n.Kind==25)=true then some (⟨[],0,false,false,[42,115]⟩,true,())else if(n.Kind==26)=true then let a:=(if 2>((n.L.length:Nat):Int)then 2 else((n.L.length:Nat):Int));let d:=(if 3<a then 3 else a);(zar [101,98,98] 0 d).bind λe=>some (⟨[],0,false,false,e⟩,true,())else if(n.Kind==27)=true then some (⟨[],0,false,false,[101,98]⟩,true,())else if(n.Kind==28)=true then some (⟨[],0,false,false,[98,101]⟩,true,())else if(n.Kind==29)=true then some (⟨[],0,false,false,[118,102,102,98]⟩,true,())else if(n.Kind==30)=true then some (⟨[],0,false,false,[119,101,98]⟩,true,())else if(n.Kind==31)=true then some (⟨[109],0,false,false,[]⟩,true,())else if(n.Kind==32)=true then some (⟨[109],0,false,false,[]⟩,true,())else if(n.Kind==33)=true then let f:=(if 1< ((n.L.length:Nat):Int)then 1 else((n.L.length:Nat):Int));(zar [101] 0 f).bind λg=>some (⟨[],0,false,false,g⟩,true,())else if(n.Kind==35)=true then some (⟨[99],0,false,false,[98,99,99]⟩,true,())else if(n.Kind==36)=true then some (⟨[],0,false,false,[101,42,107]⟩,true,())else if(n.Kind==37)=true then some (⟨[],0,false,false,[102,42,115]⟩,true,())else if(n.Kind==38)=true then some (⟨[110],0,false,false,[115]⟩,true,())else if(n.Kind==39)=true then some (⟨[110],0,false,true,[42,120]⟩,true,())else if(n.Kind==41)=true then some (⟨[],0,false,false,[42,120]⟩,true,())else some (⟨[],0,false,false,[]⟩,false,())
def zK(a:zcr):Option (zcr×Bool×Unit):=some ((zGs a),true,())
def zaI(n:zg):Option (zcr×Bool×Unit):=if(n.Kind==1)=true then zK ⟨[],9007199254740991,false,false,[]⟩else if(n.Kind==2)=true then zK ⟨[],0,true,false,[]⟩else if(n.Kind==3)=true then zK ⟨[110],0,false,false,[]⟩else if(n.Kind==4)=true then zK ⟨[],0,false,false,[]⟩else if(n.Kind==5)=true then zK ⟨[],0,false,false,[]⟩else if(n.Kind==40)=true then zK ⟨[],0,false,false,[]⟩else if(n.Kind==42)=true then zK ⟨[],0,false,false,[]⟩else if(n.Kind==6)=true then zK ⟨[],1,false,false,[]⟩else if(n.Kind==7)=true then zK ⟨[],0,false,false,[42,101]⟩else if(n.Kind==8)=true then zK ⟨[],0,false,false,[42,112]⟩else if(n.Kind==9)=true then zK ⟨[],0,true,false,[101]⟩else if(n.Kind==10)=true then zK ⟨[109],0,false,true,[42,120]⟩else if(n.Kind==11)=true then zK ⟨[105],0,false,false,[101]⟩else if(n.Kind==12)=true then zK ⟨[],0,false,false,[101,101]⟩else if(n.Kind==21)=true then zK ⟨[],0,false,false,[101,101]⟩else if(n.Kind==13)=true then zK ⟨[],0,false,false,[101,42,101]⟩else if(n.Kind==14)=true then zK ⟨[],0,false,false,[101,42,101]⟩else if(n.Kind==15)=true then zK ⟨[32,45,32,43,32,33,32,116,121,112,101,111,102,32,100,101,108,101,116,101,32,118,111,105,100,32],0,false,false,[101]⟩else if(n.Kind==16)=true then zK ⟨[32,43,43,32,45,45,32],1,false,false,[116]⟩else if(n.Kind==17)=true then zK ⟨[32,43,32,45,32,42,32,47,32,37,32,60,32,62,32,60,61,32,62,61,32,61,61,32,33,61,32,61,61,61,32,33,61,61,32,105,110,32,105,110,115,116,97,110,99,101,111,102,32],0,false,false,[101,101]⟩else if(n.Kind==18)=true then zK ⟨[32,38,38,32,124,124,32],0,false,false,[101,101]⟩else if(n.Kind==19)=true then zK ⟨[],0,false,false,[101,101,101]⟩else if(n.Kind==20)=true then zK ⟨[32,61,32,43,61,32,45,61,32,42,61,32,47,61,32,37,61,32],0,false,false,[116,101]⟩else(zS (zB n)).bind λa=>some ((zGs a.1),a.2.1,())
def zsO(e:Str)(s:Str):Option (Bool×Unit):=if(!(s==[]))=true then(strings_Contains s [32]).bind λa=>if(!a.1)=true then(zgW [32] s).bind λb=>(zgW b [32]).bind λc=>(strings_Contains e c).bind λd=>some (d.1,())else some (false,())else some (false,())
def zCD(u:Str):Option (Bool×Unit):=let a:=(IntKind.wrap .i64 ((BitVec.ofInt 64 ((u.length:Nat):Int)&&&BitVec.ofInt 64 1).toNat));some ((a==0),())
def zt(l:List Str)(c:Bool)(a:List Str):Option (Bool×(List Str)×Unit):=(room (a.length+l.length)).bind λ_=>let b:=a++l;some (c,b,())
structure zq3 where
 zhL:zg->Option (Int×Unit)
def zBH(f:zq3)(n:zg):Option (Int×Unit):=if(n.Kind==21)=true then some (0,())else if(n.Kind==20)=true then some (1,())else if(n.Kind==19)=true then some (2,())else if(n.Kind==18)=true then(zar n.Name 0 1).bind λg=>(strings_Index [38,124] g).bind λh=>let i:=(IntKind.wrap .i64 (4 -h.1));some (i,())else if(n.Kind==17)=true then(zsO [32,61,61,32,33,61,32,61,61,61,32,33,61,61,32] n.Name).bind λj=>if j.1=true then some (5,())else(zsO [32,43,32,45,32] n.Name).bind λk=>if k.1=true then some (7,())else(zsO [32,42,32,47,32,37,32] n.Name).bind λl=>if l.1=true then some (8,())else some (6,())else if(n.Kind==15)=true then some (9,())else if(n.Kind==16)=true then let m:=(IntKind.wrap .i64 (10 -n.Num));some (m,())else if(n.Kind==13)=true then some (11,())else if(n.Kind==11)=true then(zL n.L 0).bind λo=>(f.zhL (zB o)).bind λa=>let b:=(if a.1>11 then a.1 else 11);let p:=(if b<12 then b else 12);some (p,())else if(n.Kind==12)=true then(zL n.L 0).bind λq=>(f.zhL (zB q)).bind λc=>let d:=(if c.1>11 then c.1 else 11);let r:=(if d<12 then d else 12);some (r,())else if(n.Kind==14)=true then some (12,())else some (13,())
def znY:Nat->zq3
 |0=>⟨λ_=>none⟩
 |n+1=>⟨zBH (znY n)⟩
def zhL:zg->Option (Int×Unit):=(znY Lp.big).zhL
def zAm(u:Str):Option (Int×Unit):=let a:=(IntKind.wrap .i64 (Int.tdiv ((u.length:Nat):Int) 2));some (a,())
def zF2(u:Str)(i:Int):Option (Int×Unit):=if(decide (i<0))=true then some ((-1),())else(zAm u).bind λa=>if(decide (i>=a.1))=true then some ((-1),())else(zam u (IntKind.wrap .i64 (2*i))).bind λb=>let c:=(IntKind.wrap .i64 ((IntKind.wrap .i64 b)*2^8));let d:=(IntKind.wrap .i64 ((IntKind.wrap .i64 (2*i))+1));(zam u d).bind λe=>let f:=(IntKind.wrap .i64 ((BitVec.ofInt 64 c|||BitVec.ofInt 64 (IntKind.wrap .i64 e)).toNat));some (f,())
def zzb(d:Str)(e:Int)(f:Int)(g:Int)(a:List UInt8):zzB:=let h:=(IntKind.wrap .i64 ((BitVec.ofInt 64 e|||BitVec.ofInt 64 65536).toNat));(zd2 h 16).bind λb=>(zar b.1 1 ((b.1.length:Nat):Int)).bind λi=>(zgW [92,117] i).bind λc=>(room (a.length+c.length)).bind λ_=>let j:=a++c;let k:=(IntKind.wrap .i64 (g+1));some (.inl (d,f,k,j,()))
def zzp(c:Str)(a:Int)(d:Int)(e:Int)(b:List UInt8):zzB:=let g:=((decide (a<32))||(decide (a>126)));if g=true then zzb c a d e b else(toB (IntKind.wrap .u8 a)).bind λf=>(room (b.length+([f]:List UInt8).length)).bind λ_=>let h:=b++([f]:List UInt8);let i:=(IntKind.wrap .i64 (e+1));some (.inl (c,d,i,h,()))
def zzt(b:Str)(h:Int)(c:Int)(d:Int)(e:Int)(a:List UInt8):zzB:=if(decide (c>=0))=true then(zam [98,116,110,102,114] c).bind λi=>(toB 92).bind λf=>(toB i).bind λg=>(room (a.length+([f,g]:List UInt8).length)).bind λ_=>let j:=a++([f,g]:List UInt8);let k:=(IntKind.wrap .i64 (e+1));some (.inl (b,d,k,j,()))else zzp b h d e a
def zrj(c:Str)(a:Int)(h:Int)(d:Int)(e:Int)(b:List UInt8):zzB:=let i:=((a==34)||(a==92));if i=true then(toB 92).bind λf=>(toB (IntKind.wrap .u8 a)).bind λg=>(room (b.length+([f,g]:List UInt8).length)).bind λ_=>let j:=b++([f,g]:List UInt8);let k:=(IntKind.wrap .i64 (e+1));some (.inl (c,d,k,j,()))else zzt c a h d e b
def zzg:Str×Int×Int×(List UInt8)×Unit->zzB| (d,e,a,b,())=>if(decide (a<e))=true then(zF2 d a).bind λc=>if(decide (c.1<128))=true then(strings_IndexByte [8,9,10,12,13] (IntKind.wrap .u8 c.1)).bind λf=>zrj d c.1 f.1 e a b else zrj d c.1 (-1) e a b else(room (b.length+([(UInt8.ofNat 34)]:List UInt8).length)).bind λ_=>let g:=b++([(UInt8.ofNat 34)]:List UInt8);some (.inr (g,0,()))
def zqL(u:Str):Option (Str×Int×Unit):=(zCD u).bind λa=>if(!a.1)=true then some ([],10,())else(zAm u).bind λb=>Lp.loop zzg (u,b.1,0,([(UInt8.ofNat 34)]:List UInt8),())
def zsB(a:Bool):Option (Str):=some (Lib.formatBool a)
def strconv_FormatBool(a:Bool):Option (Str×Unit):=ze5 (λr=>(r,())) (zsB a)
def zAv(i:Int)(l v:List Str):Option (List Str×Unit):=zL3 i l v
structure zA where
 zd0:(List zg)->Bool->(List Str)->Option (Bool×(List Str)×Unit)
 zbe:zg->Bool->(List Str)->Option (Bool×(List Str)×Unit)
 zc3:zg->Int->Bool->(List Str)->Option (Bool×(List Str)×Unit)
 zaj:zg->Int->Bool->(List Str)->Option (Bool×(List Str)×Unit)
 ziT:Str->Str->Bool->(List Str)->zg->Option (Bool×(List Str)×zg×Unit)
 zj1:Bool->(List Str)->zg->Option (Bool×(List Str)×zg×Unit)
 zhJ:zg->Bool->(List Str)->Option (Bool×(List Str)×Unit)
 zg5:Str->Str->Bool->(List Str)->zg->Option (Bool×(List Str)×zg×Unit)
 ziG:Bool->(List Str)->zg->Option (Bool×(List Str)×zg×Unit)
 zfL:(List zg)->Bool->(List Str)->Option (Bool×(List Str)×Unit)
 zha:Str->Str->Bool->(List Str)->zg->Option (Bool×(List Str)×zg×Unit)
 ziW:Bool->(List Str)->zg->Option (Bool×(List Str)×zg×Unit)
 zfj:zg->Bool->(List Str)->Option (Bool×(List Str)×Unit)
 zg6:Str->Str->Bool->(List Str)->zg->Option (Bool×(List Str)×zg×Unit)
 zgD:Bool->(List Str)->zg->Option (Bool×(List Str)×zg×Unit)
 zhc:zg->Bool->(List Str)->Option (Bool×(List Str)×Unit)
 zg2:Str->Str->Bool->(List Str)->(List zg)->Option (Bool×(List Str)×(List zg)×Unit)
 zgb:Bool->(List Str)->(List zg)->Option (Bool×(List Str)×(List zg)×Unit)
 zeO:Str->Str->Bool->(List Str)->(List zg)->Option (Bool×(List Str)×(List zg)×Unit)
 zgc:Bool->(List Str)->(List zg)->Option (Bool×(List Str)×(List zg)×Unit)
 zgY:Str->Str->Bool->(List Str)->(List zg)->Option (Bool×(List Str)×(List zg)×Unit)
 zgd:Bool->(List Str)->(List zg)->Option (Bool×(List Str)×(List zg)×Unit)
 zeq:Str->zg->Bool->(List Str)->Option (Bool×(List Str)×Unit)
 zer:zg->Bool->(List Str)->Option (Bool×(List Str)×Unit)
 zjY:zg->Bool->(List Str)->Option (Bool×(List Str)×Unit)
def zsE(j:zA):(List zg)×Int×Int×Bool×(List Str)×Unit->zw9| (b,c,a,d,e,())=>if(decide (a<c))=true then(zL b a).bind λg=>(j.zbe (zB g) d e).bind λf=>let h:=(IntKind.wrap .i64 (a+1));some (.inl (b,c,h,f.1,f.2.1,()))else some (.inr (d,e,()))
def zt5(d:zA)(l:List zg)(b:Bool)(c:List Str):Option (Bool×(List Str)×Unit):=Lp.loop (zsE d) (l,((l.length:Nat):Int),0,b,c,())
def zlK(g:zA)(a:List zg)(h:Str)(i:Bool)(j:List Str):Option (Bool×(List Str)×Unit):=(zt [h] i j).bind λb=>(zL a 0).bind λk=>(g.zc3 (zB k) 0 b.1 b.2.1).bind λc=>(zt [[58]] c.1 c.2.1).bind λd=>(zar a 1 ((a.length:Nat):Int)).bind λl=>(g.zd0 l d.1 d.2.1).bind λe=>some (e.1,e.2.1,())
def zlH(i:zA)(a:List zg)(b:Bool)(c:List Str):Option (Bool×(List Str)×Unit):=(zL a 2).bind λf=>if(f.Kind==25)=true then(zt [[102,105,110,97,108,108,121]] b c).bind λd=>(zL a 2).bind λg=>(i.zbe (zB g) d.1 d.2.1).bind λe=>some (e.1,e.2.1,())else some (b,c,())
def zvk(b:zA)(o:zg)(c:Bool)(l:List Str):Option (Bool×(List Str)×Unit):=if(o.Kind==22)=true then(b.zc3 (zB o) 0 c l).bind λg=>(zt [[59]] g.1 g.2.1).bind λh=>some (h.1,h.2.1,())else if(o.Kind==24)=true then(zL o.L 0).bind λN=>(b.zaj (zB N) 0 c l).bind λd=>(zL d.2.1 ((l.length:Nat):Int)).bind λ_=>(zL d.2.1 ((l.length:Nat):Int)).bind λi=>let O:=((i==[123])||(i==[102,117,110,99,116,105,111,110]));if O=true then(zAv ((l.length:Nat):Int) d.2.1 [[40]]).bind λj=>(room (j.1.length+([[41]]:List Str).length)).bind λ_=>let P:=j.1++[[41]];(zt [[59]] d.1 P).bind λk=>some (k.1,k.2.1,())else(zt [[59]] d.1 d.2.1).bind λm=>some (m.1,m.2.1,())else if(o.Kind==25)=true then(zt [[123]] c l).bind λn=>(b.zd0 o.L n.1 n.2.1).bind λp=>(zt [[125]] p.1 p.2.1).bind λq=>some (q.1,q.2.1,())else if(o.Kind==26)=true then(zL o.L 0).bind λQ=>(b.zeq [105,102] (zB Q) c l).bind λr=>(zL o.L 1).bind λR=>(b.zbe (zB R) r.1 r.2.1).bind λe=>let S:=(((o.L.length:Nat):Int)==3);if S=true then(zt [[101,108,115,101]] e.1 e.2.1).bind λs=>(zL o.L 2).bind λU=>(b.zbe (zB U) s.1 s.2.1).bind λt=>some (t.1,t.2.1,())else some (e.1,e.2.1,())else if(o.Kind==27)=true then(b.zer (zB o) c l).bind λu=>some (u.1,u.2.1,())else if(o.Kind==28)=true then(b.zer (zB o) c l).bind λv=>some (v.1,v.2.1,())else if(o.Kind==29)=true then(b.zer (zB o) c l).bind λx=>some (x.1,x.2.1,())else if(o.Kind==30)=true then(b.zer (zB o) c l).bind λy=>some (y.1,y.2.1,())else if(o.Kind==35)=true then(zt [[116,114,121]] c l).bind λz=>(zL o.L 0).bind λV=>(b.zbe (zB V) z.1 z.2.1).bind λf=>(zL o.L 1).bind λW=>if(W.Kind==25)=true then(zt [[99,97,116,99,104],[40],o.Name,[41]] f.1 f.2.1).bind λA=>(zL o.L 1).bind λX=>(b.zbe (zB X) A.1 A.2.1).bind λB=>zlH b o.L B.1 B.2.1 else zlH b o.L f.1 f.2.1 else if(o.Kind==36)=true then(zL o.L 0).bind λZ=>(b.zeq [115,119,105,116,99,104] (zB Z) c l).bind λC=>(zt [[123]] C.1 C.2.1).bind λD=>(zar o.L 1 ((o.L.length:Nat):Int)).bind λaa=>(b.zd0 aa D.1 D.2.1).bind λE=>(zt [[125]] E.1 E.2.1).bind λH=>some (H.1,H.2.1,())else if(o.Kind==37)=true then(zL o.L 0).bind λab=>if(ab.Kind !=42)=true then zlK b o.L [99,97,115,101] c l else zlK b o.L [100,101,102,97,117,108,116] c l else if(o.Kind==38)=true then(zt [o.Name,[58]] c l).bind λI=>(zL o.L 0).bind λac=>(b.zbe (zB ac) I.1 I.2.1).bind λJ=>some (J.1,J.2.1,())else if(o.Kind==39)=true then(b.zfj (zB o) c l).bind λK=>some (K.1,K.2.1,())else(b.zjY (zB o) c l).bind λM=>some (M.1,M.2.1,())
def zsI(n:zA)(a:List zg)(b:Int)(c:Int)(d:Bool)(e:List Str)(f:zg):zw9:=let i:=((f.L.length:Nat):Int);if(decide (i>0))=true then(zt [[61]] d e).bind λg=>(zL f.L 0).bind λj=>(n.zaj (zB j) 1 g.1 g.2.1).bind λh=>let k:=(IntKind.wrap .i64 (c+1));some (.inl (a,b,k,h.1,h.2.1,()))else let l:=(IntKind.wrap .i64 (c+1));some (.inl (a,b,l,d,e,()))
def zkV(i:zA)(c:List zg)(d:Int)(e:Int)(f:Bool)(g:List Str)(a:zg):zw9:=(zt [a.Name] f g).bind λb=>zsI i c d e b.1 b.2.1 (zB a)
def ztI(i:zA):(List zg)×Int×Int×Bool×(List Str)×Unit->zw9| (b,c,a,d,e,())=>if(decide (a<c))=true then(zL b a).bind λf=>if(decide (a>0))=true then(zt [[44]] d e).bind λg=>zkV i b c a g.1 g.2.1 (zB f)else zkV i b c a d e (zB f)else some (.inr (d,e,()))
def zuN(e:zA)(n:zg)(f:Int)(a:Bool)(l:List Str):Option (Bool×(List Str)×Unit):=if(n.Kind==42)=true then some (a,l,())else if(n.Kind==22)=true then(zt [[118,97,114]] a l).bind λb=>Lp.loop (ztI e) (n.L,((n.L.length:Nat):Int),0,b.1,b.2.1,())else(e.zaj (zB n) f a l).bind λc=>some (c.1,c.2.1,())
def zxq(e:zA)(n:zg)(h:Int)(a:Bool)(l:List Str):Option (Bool×(List Str)×Unit):=(zhL (zB n)).bind λf=>let g:=((decide (f.1<h))||((a&&(n.Kind==17))&&(n.Name==[105,110])));if g=true then(e.ziT [40] [41] a l (zB n)).bind λb=>some (b.1,b.2.1,())else(e.zhJ (zB n) a l).bind λc=>some (c.1,c.2.1,())
def ztF(h:zA)(a:Str)(f:Str)(g:Bool)(l:List Str)(x:zg):Option (Bool×(List Str)×zg×Unit):=(zt [a] false l).bind λc=>(h.zj1 c.1 c.2.1 (zB x)).bind λb=>(zt [f] b.1 b.2.1).bind λd=>some (g,d.2.1,(zB b.2.2.1),())
def zv3(d:zA)(c:Bool)(l:List Str)(x:zg):Option (Bool×(List Str)×zg×Unit):=(d.zhJ (zB x) c l).bind λa=>some (a.1,a.2.1,(zB x),())
def zvo(c:zA)(n:zg)(a:Bool)(l:List Str):Option (Bool×(List Str)×Unit):=if(n.Kind==1)=true then(zd2 n.Num 10).bind λp=>(zt [p.1] a l).bind λd=>some (d.1,d.2.1,())else if(n.Kind==2)=true then(zqL n.Text).bind λq=>(zt [q.1] a l).bind λe=>some (e.1,e.2.1,())else if(n.Kind==3)=true then(zt [n.Name] a l).bind λf=>some (f.1,f.2.1,())else if(n.Kind==4)=true then(zt [[116,104,105,115]] a l).bind λg=>some (g.1,g.2.1,())else if(n.Kind==5)=true then(zt [[110,117,108,108]] a l).bind λh=>some (h.1,h.2.1,())else if(n.Kind==6)=true then(strconv_FormatBool (n.Num==1)).bind λr=>(zt [r.1] a l).bind λi=>some (i.1,i.2.1,())else if(n.Kind==7)=true then(c.zg5 [91] [93] a l (zB n)).bind λj=>some (j.1,j.2.1,())else if(n.Kind==8)=true then(c.zha [123] [125] a l (zB n)).bind λk=>some (k.1,k.2.1,())else if(n.Kind==10)=true then(c.zfj (zB n) a l).bind λm=>some (m.1,m.2.1,())else(c.zhc (zB n) a l).bind λo=>some (o.1,o.2.1,())
def zoK(h:zA)(a:Str)(f:Str)(g:Bool)(l:List Str)(x:zg):Option (Bool×(List Str)×zg×Unit):=(zt [a] false l).bind λc=>(h.ziG c.1 c.2.1 (zB x)).bind λb=>(zt [f] b.1 b.2.1).bind λd=>some (g,d.2.1,(zB b.2.2.1),())
def zsy(d:zA)(c:Bool)(l:List Str)(x:zg):Option (Bool×(List Str)×zg×Unit):=(d.zfL x.L c l).bind λa=>some (a.1,a.2.1,(zB x),())
def zlu(k:zA)(b:List zg)(c:Int)(d:Int)(e:Bool)(f:List Str)(a:zg):zw9:=if(a.Kind==9)=true then(zqL a.Text).bind λl=>(zt [l.1,[58]] e f).bind λg=>(zL a.L 0).bind λm=>(k.zaj (zB m) 1 g.1 g.2.1).bind λh=>let n:=(IntKind.wrap .i64 (d+1));some (.inl (b,c,n,h.1,h.2.1,()))else(k.zaj (zB a) 1 e f).bind λi=>let o:=(IntKind.wrap .i64 (d+1));some (.inl (b,c,o,i.1,i.2.1,()))
def zuH(i:zA):(List zg)×Int×Int×Bool×(List Str)×Unit->zw9| (b,c,a,d,e,())=>if(decide (a<c))=true then(zL b a).bind λf=>if(decide (a>0))=true then(zt [[44]] d e).bind λg=>zlu i b c a g.1 g.2.1 (zB f)else zlu i b c a d e (zB f)else some (.inr (d,e,()))
def zv6(d:zA)(l:List zg)(b:Bool)(c:List Str):Option (Bool×(List Str)×Unit):=Lp.loop (zuH d) (l,((l.length:Nat):Int),0,b,c,())
def zoN(h:zA)(a:Str)(f:Str)(g:Bool)(l:List Str)(x:zg):Option (Bool×(List Str)×zg×Unit):=(zt [a] false l).bind λc=>(h.ziW c.1 c.2.1 (zB x)).bind λb=>(zt [f] b.1 b.2.1).bind λd=>some (g,d.2.1,(zB b.2.2.1),())
def zsh(d:zA)(c:Bool)(l:List Str)(x:zg):Option (Bool×(List Str)×zg×Unit):=(d.zfL x.L c l).bind λa=>some (a.1,a.2.1,(zB x),())
def zjm(p:zA):(List Str)×Int×Int×Bool×(List Str)×zg×Unit->Option (((List Str)×Int×Int×Bool×(List Str)×zg×Unit)⊕(Bool×(List Str)×Unit))| (b,c,a,d,e,f,())=>if(decide (a<c))=true then(zL b a).bind λg=>if(decide (a>0))=true then(zt [[44]] d e).bind λh=>(zt [g] h.1 h.2.1).bind λi=>let m:=(IntKind.wrap .i64 (a+1));some (.inl (b,c,m,i.1,i.2.1,(zB f),()))else(zt [g] d e).bind λj=>let n:=(IntKind.wrap .i64 (a+1));some (.inl (b,c,n,j.1,j.2.1,(zB f),()))else(zt [[41]] d e).bind λk=>(p.zg6 [123] [125] k.1 k.2.1 (zB f)).bind λl=>some (.inr (l.1,l.2.1,()))
def zpC(f:zA)(n:zg)(i:Bool)(l:List Str):Option (Bool×(List Str)×Unit):=(zt [[102,117,110,99,116,105,111,110]] i l).bind λa=>if(!(n.Name==[]))=true then(zt [n.Name] a.1 a.2.1).bind λb=>(zt [[40]] b.1 b.2.1).bind λc=>let g:=((n.Names.length:Nat):Int);Lp.loop (zjm f) (n.Names,g,0,c.1,c.2.1,(zB n),())else(zt [[40]] a.1 a.2.1).bind λd=>let h:=((n.Names.length:Nat):Int);Lp.loop (zjm f) (n.Names,h,0,d.1,d.2.1,(zB n),())
def zoO(h:zA)(a:Str)(f:Str)(g:Bool)(l:List Str)(x:zg):Option (Bool×(List Str)×zg×Unit):=(zt [a] false l).bind λc=>(h.zgD c.1 c.2.1 (zB x)).bind λb=>(zt [f] b.1 b.2.1).bind λd=>some (g,d.2.1,(zB b.2.2.1),())
def zot(d:zA)(c:Bool)(l:List Str)(x:zg):Option (Bool×(List Str)×zg×Unit):=(d.zd0 x.L c l).bind λa=>some (a.1,a.2.1,(zB x),())
def zoo(c:zA)(k:Int)(d:Bool)(e:List Str)(l:zg)(a:List zg):Option (Bool×(List Str)×Unit):=if(l.Kind==14)=true then(zt [[110,101,119]] d e).bind λf=>(zL a 0).bind λm=>(c.zaj (zB m) 12 f.1 f.2.1).bind λg=>(c.zeO [40] [41] g.1 g.2.1 a).bind λh=>some (h.1,h.2.1,())else(zL a 0).bind λn=>(c.zaj (zB n) k d e).bind λi=>(c.zeO [40] [41] i.1 i.2.1 a).bind λj=>some (j.1,j.2.1,())
def ziF(f:zA)(a:Bool)(b:List Str)(c:zg)(d:List zg):Option (Bool×(List Str)×Unit):=zoo f 11 a b (zB c) d
def zoW(b:zA)(o:zg)(c:Bool)(l:List Str):Option (Bool×(List Str)×Unit):=if(o.Kind==11)=true then(zL o.L 0).bind λD=>(b.zaj (zB D) 11 c l).bind λg=>(zt [[46],o.Name] g.1 g.2.1).bind λh=>some (h.1,h.2.1,())else if(o.Kind==12)=true then(zL o.L 0).bind λE=>(b.zaj (zB E) 11 c l).bind λi=>(b.zg2 [91] [93] i.1 i.2.1 o.L).bind λj=>some (j.1,j.2.1,())else if(o.Kind==13)=true then ziF b c l (zB o) o.L else if(o.Kind==14)=true then ziF b c l (zB o) o.L else if(o.Kind==15)=true then(zt [o.Name] c l).bind λk=>(zL o.L 0).bind λH=>(b.zaj (zB H) 9 k.1 k.2.1).bind λm=>some (m.1,m.2.1,())else if(o.Kind==16)=true then if(o.Num==1)=true then(zt [o.Name] c l).bind λn=>(zL o.L 0).bind λI=>(b.zaj (zB I) 11 n.1 n.2.1).bind λd=>if(o.Num==0)=true then(zt [o.Name] d.1 d.2.1).bind λp=>some (p.1,p.2.1,())else some (d.1,d.2.1,())else(zL o.L 0).bind λJ=>(b.zaj (zB J) 11 c l).bind λe=>if(o.Num==0)=true then(zt [o.Name] e.1 e.2.1).bind λq=>some (q.1,q.2.1,())else some (e.1,e.2.1,())else if(o.Kind==19)=true then(zL o.L 0).bind λK=>(b.zaj (zB K) 3 c l).bind λr=>(b.zgY [63] [58] r.1 r.2.1 o.L).bind λf=>(zL f.2.2.1 2).bind λM=>(b.zaj (zB M) 1 f.1 f.2.1).bind λs=>some (s.1,s.2.1,())else if(o.Kind==20)=true then(zL o.L 0).bind λN=>(b.zaj (zB N) 11 c l).bind λt=>(zt [o.Name] t.1 t.2.1).bind λu=>(zL o.L 1).bind λO=>(b.zaj (zB O) 1 u.1 u.2.1).bind λv=>some (v.1,v.2.1,())else if(o.Kind==21)=true then(zL o.L 0).bind λP=>(b.zaj (zB P) 0 c l).bind λx=>(zt [[44]] x.1 x.2.1).bind λy=>(zL o.L 1).bind λQ=>(b.zaj (zB Q) 1 y.1 y.2.1).bind λz=>some (z.1,z.2.1,())else(zL o.L 0).bind λR=>(zhL (zB o)).bind λS=>(b.zaj (zB R) S.1 c l).bind λA=>(zt [o.Name] A.1 A.2.1).bind λB=>(zL o.L 1).bind λU=>(zhL (zB o)).bind λV=>let W:=(IntKind.wrap .i64 (V.1+1));(b.zaj (zB U) W B.1 B.2.1).bind λC=>some (C.1,C.2.1,())
def zoZ(i:zA)(a:Str)(f:Str)(g:Bool)(l:List Str)(h:List zg):Option (Bool×(List Str)×(List zg)×Unit):=(zt [a] false l).bind λc=>(i.zgb c.1 c.2.1 h).bind λb=>(zt [f] b.1 b.2.1).bind λd=>some (g,d.2.1,b.2.2.1,())
def znj(f:zA)(e:Bool)(l:List Str)(a:List zg):Option (Bool×(List Str)×(List zg)×Unit):=(zL a 1).bind λc=>(f.zaj (zB c) 0 e l).bind λb=>some (b.1,b.2.1,a,())
def zoQ(i:zA)(a:Str)(f:Str)(g:Bool)(l:List Str)(h:List zg):Option (Bool×(List Str)×(List zg)×Unit):=(zt [a] false l).bind λc=>(i.zgc c.1 c.2.1 h).bind λb=>(zt [f] b.1 b.2.1).bind λd=>some (g,d.2.1,b.2.2.1,())
def znu(f:zA)(e:Bool)(l:List Str)(a:List zg):Option (Bool×(List Str)×(List zg)×Unit):=(zar a 1 ((a.length:Nat):Int)).bind λc=>(f.zfL c e l).bind λb=>some (b.1,b.2.1,a,())
def zpa(i:zA)(a:Str)(f:Str)(g:Bool)(l:List Str)(h:List zg):Option (Bool×(List Str)×(List zg)×Unit):=(zt [a] false l).bind λc=>(i.zgd c.1 c.2.1 h).bind λb=>(zt [f] b.1 b.2.1).bind λd=>some (g,d.2.1,b.2.2.1,())
def znb(f:zA)(e:Bool)(l:List Str)(a:List zg):Option (Bool×(List Str)×(List zg)×Unit):=(zL a 1).bind λc=>(f.zaj (zB c) 1 e l).bind λb=>some (b.1,b.2.1,a,())
def zu4(g:zA)(e:Str)(n:zg)(f:Bool)(l:List Str):Option (Bool×(List Str)×Unit):=(zt [e,[40]] f l).bind λa=>(g.zaj (zB n) 0 a.1 a.2.1).bind λb=>(zt [[41]] b.1 b.2.1).bind λc=>some (c.1,c.2.1,())
def zt3(l:zA):(List zg)×(List zg)×Int×Int×Bool×(List Str)×Unit->Option (((List zg)×(List zg)×Int×Int×Bool×(List Str)×Unit)⊕(Bool×(List Str)×Unit))| (a,c,d,b,e,f,())=>if(decide (b<d))=true then(zL c b).bind λm=>(zt [[59]] e f).bind λg=>(l.zc3 (zB m) 0 g.1 g.2.1).bind λh=>let n:=(IntKind.wrap .i64 (b+1));some (.inl (a,c,d,n,h.1,h.2.1,()))else(zt [[41]] e f).bind λi=>let o:=(IntKind.wrap .i64 (((a.length:Nat):Int) -1));(zL a o).bind λp=>(l.zbe (zB p) i.1 i.2.1).bind λj=>some (.inr (j.1,j.2.1,()))
def zv8(b:zA)(n:zg)(c:Bool)(l:List Str):Option (Bool×(List Str)×Unit):=if(n.Kind==27)=true then(zL n.L 0).bind λr=>(b.zeq [119,104,105,108,101] (zB r) c l).bind λd=>let s:=(IntKind.wrap .i64 (((n.L.length:Nat):Int) -1));(zL n.L s).bind λt=>(b.zbe (zB t) d.1 d.2.1).bind λe=>some (e.1,e.2.1,())else if(n.Kind==28)=true then(zt [[100,111]] c l).bind λf=>(zL n.L 0).bind λu=>(b.zbe (zB u) f.1 f.2.1).bind λg=>(zL n.L 1).bind λv=>(b.zeq [119,104,105,108,101] (zB v) g.1 g.2.1).bind λh=>(zt [[59]] h.1 h.2.1).bind λi=>some (i.1,i.2.1,())else(zt [[102,111,114],[40]] c l).bind λj=>if(n.Kind==30)=true then(zL n.L 0).bind λx=>(b.zc3 (zB x) 11 true j.2.1).bind λy=>(zt [[105,110]] false y.2.1).bind λk=>(zL n.L 1).bind λz=>(b.zaj (zB z) 0 k.1 k.2.1).bind λm=>(zt [[41]] m.1 m.2.1).bind λo=>let A:=(IntKind.wrap .i64 (((n.L.length:Nat):Int) -1));(zL n.L A).bind λB=>(b.zbe (zB B) o.1 o.2.1).bind λp=>some (p.1,p.2.1,())else(zL n.L 0).bind λC=>(b.zc3 (zB C) 0 true j.2.1).bind λD=>(zar n.L 1 3).bind λq=>Lp.loop (zt3 b) (n.L,q,((q.length:Nat):Int),0,false,D.2.1,())
def zlt(k:zA):(List zg)×Int×Int×Bool×(List Str)×Unit->zw9| (b,c,a,d,e,())=>if(decide (a<c))=true then(zL b a).bind λh=>(k.zaj (zB h) 0 d e).bind λf=>let i:=(IntKind.wrap .i64 (a+1));some (.inl (b,c,i,f.1,f.2.1,()))else(zt [[59]] d e).bind λg=>some (.inr (g.1,g.2.1,()))
def zeh(f:zA)(b:Bool)(c:List Str)(a:zg):Option (Bool×(List Str)×Unit):=if(!(a.Name==[]))=true then(zt [a.Name] b c).bind λd=>let g:=((a.L.length:Nat):Int);Lp.loop (zlt f) (a.L,g,0,d.1,d.2.1,())else let h:=((a.L.length:Nat):Int);Lp.loop (zlt f) (a.L,h,0,b,c,())
def zvz(c:zA)(n:zg)(b:Bool)(l:List Str):Option (Bool×(List Str)×Unit):=if(n.Kind==31)=true then(zt [[98,114,101,97,107]] b l).bind λd=>zeh c d.1 d.2.1 (zB n)else if(n.Kind==32)=true then(zt [[99,111,110,116,105,110,117,101]] b l).bind λe=>zeh c e.1 e.2.1 (zB n)else if(n.Kind==33)=true then(zt [[114,101,116,117,114,110]] b l).bind λf=>zeh c f.1 f.2.1 (zB n)else if(n.Kind==34)=true then(zt [[116,104,114,111,119]] b l).bind λg=>zeh c g.1 g.2.1 (zB n)else zeh c b l (zB n)
def zn:Nat->zA
 |0=>⟨λ_ _ _=>none,λ_ _ _=>none,λ_ _ _ _=>none,λ_ _ _ _=>none,λ_ _ _ _ _=>none,λ_ _ _=>none,λ_ _ _=>none,λ_ _ _ _ _=>none,λ_ _ _=>none,λ_ _ _=>none,λ_ _ _ _ _=>none,λ_ _ _=>none,λ_ _ _=>none,λ_ _ _ _ _=>none,λ_ _ _=>none,λ_ _ _=>none,λ_ _ _ _ _=>none,λ_ _ _=>none,λ_ _ _ _ _=>none,λ_ _ _=>none,λ_ _ _ _ _=>none,λ_ _ _=>none,λ_ _ _ _=>none,λ_ _ _=>none,λ_ _ _=>none⟩
 |n+1=>⟨zt5 (zn n),zvk (zn n),zuN (zn n),zxq (zn n),ztF (zn n),zv3 (zn n),zvo (zn n),zoK (zn n),zsy (zn n),zv6 (zn n),zoN (zn n),zsh (zn n),zpC (zn n),zoO (zn n),zot (zn n),zoW (zn n),zoZ (zn n),znj (zn n),zoQ (zn n),znu (zn n),zpa (zn n),znb (zn n),zu4 (zn n),zv8 (zn n),zvz (zn n)⟩
def zd0:(List zg)->Bool->(List Str)->Option (Bool×(List Str)×Unit):=(zn Lp.big).zd0
def zbe:zg->Bool->(List Str)->Option (Bool×(List Str)×Unit):=(zn Lp.big).zbe
def zc3:zg->Int->Bool->(List Str)->Option (Bool×(List Str)×Unit):=(zn Lp.big).zc3
def zaj:zg->Int->Bool->(List Str)->Option (Bool×(List Str)×Unit):=(zn Lp.big).zaj
def ziT:Str->Str->Bool->(List Str)->zg->Option (Bool×(List Str)×zg×Unit):=(zn Lp.big).ziT
def zj1:Bool->(List Str)->zg->Option (Bool×(List Str)×zg×Unit):=(zn Lp.big).zj1
def zhJ:zg->Bool->(List Str)->Option (Bool×(List Str)×Unit):=(zn Lp.big).zhJ
def zg5:Str->Str->Bool->(List Str)->zg->Option (Bool×(List Str)×zg×Unit):=(zn Lp.big).zg5
def ziG:Bool->(List Str)->zg->Option (Bool×(List Str)×zg×Unit):=(zn Lp.big).ziG
def zfL:(List zg)->Bool->(List Str)->Option (Bool×(List Str)×Unit):=(zn Lp.big).zfL
def zha:Str->Str->Bool->(List Str)->zg->Option (Bool×(List Str)×zg×Unit):=(zn Lp.big).zha
def ziW:Bool->(List Str)->zg->Option (Bool×(List Str)×zg×Unit):=(zn Lp.big).ziW
def zfj:zg->Bool->(List Str)->Option (Bool×(List Str)×Unit):=(zn Lp.big).zfj
def zg6:Str->Str->Bool->(List Str)->zg->Option (Bool×(List Str)×zg×Unit):=(zn Lp.big).zg6
def zgD:Bool->(List Str)->zg->Option (Bool×(List Str)×zg×Unit):=(zn Lp.big).zgD
def zhc:zg->Bool->(List Str)->Option (Bool×(List Str)×Unit):=(zn Lp.big).zhc
def zg2:Str->Str->Bool->(List Str)->(List zg)->Option (Bool×(List Str)×(List zg)×Unit):=(zn Lp.big).zg2
def zgb:Bool->(List Str)->(List zg)->Option (Bool×(List Str)×(List zg)×Unit):=(zn Lp.big).zgb
def zeO:Str->Str->Bool->(List Str)->(List zg)->Option (Bool×(List Str)×(List zg)×Unit):=(zn Lp.big).zeO
def zgc:Bool->(List Str)->(List zg)->Option (Bool×(List Str)×(List zg)×Unit):=(zn Lp.big).zgc
def zgY:Str->Str->Bool->(List Str)->(List zg)->Option (Bool×(List Str)×(List zg)×Unit):=(zn Lp.big).zgY
def zgd:Bool->(List Str)->(List zg)->Option (Bool×(List Str)×(List zg)×Unit):=(zn Lp.big).zgd
def zeq:Str->zg->Bool->(List Str)->Option (Bool×(List Str)×Unit):=(zn Lp.big).zeq
def zer:zg->Bool->(List Str)->Option (Bool×(List Str)×Unit):=(zn Lp.big).zer
def zjY:zg->Bool->(List Str)->Option (Bool×(List Str)×Unit):=(zn Lp.big).zjY
structure zaO where
 zbi:zg->zg->Option (Bool×Unit)
def zkT:Shape:=⟨[(0,.st 25),(1,.st 25)],[]⟩
def zkM(b:zaO):=callee Y [] zkT zuY (u2 b.zbi)
structure ziu (g_:zaO):Prop where
 zbi:COk hY Tryz.prog zaw 12 (zkM g_)
def zbo(j:zaO):Int×Int×zg×zg×Unit->zKC| (b,a,c,d,())=>if(decide (a<b))=true then(zL c.L a).bind λe=>(zL d.L a).bind λf=>(j.zbi (zB e) (zB f)).bind λg=>if(!g.1)=true then some (.inr (false,()))else let h:=(IntKind.wrap .i64 (a+1));some (.inl (b,h,(zB c),(zB d),()))else some (.inr (true,()))
def zbF(j:zaO):Int×Int×zg×zg×Unit->zKC| (d,a,b,c,())=>if(decide (a<d))=true then(zL b.Names a).bind λe=>(zL c.Names a).bind λf=>if(!(e==f))=true then some (.inr (false,()))else let g:=(IntKind.wrap .i64 (a+1));some (.inl (d,g,(zB b),(zB c),()))else let h:=((b.L.length:Nat):Int);ze5 .inr (Lp.loop (zbo j) (h,0,(zB b),(zB c),()))
def zfk(i:zaO)(a:zg)(b:zg):Option (Bool×Unit):=let c:=((a.Kind !=b.Kind)||(!(a.Name==b.Name)));let d:=((c||(a.Num !=b.Num))||(!(a.Text==b.Text)));let e:=(d||(((a.Names.length:Nat):Int) !=((b.Names.length:Nat):Int)));let f:=(e||(((a.L.length:Nat):Int) !=((b.L.length:Nat):Int)));if f=true then some (false,())else let g:=((a.Names.length:Nat):Int);Lp.loop (zbF i) (g,0,(zB a),(zB b),())
def ztK(b:zaO):=callee Y [] zkT zuY (u2 (zfk b))
def zss(b:zaO):zac Y (zV Y zuY):=(.loop [[7,5,2,1,2,2],[8,5,2,1,2,2],[6,2,1,2,2],[2,2,2]] ⟨[(2,.ptr 0 0),(3,.ptr 1 0),(53,.int .i64),(54,.int .i64)],[.whole 25 25,.whole 25 25]⟩ (zbF b) .nil (.loop [[7,5,2,1,2,2,2],[8,5,2,1,2,2,2],[6,2,1,2,2,2],[2,2,2,2]] ⟨[(2,.ptr 0 0),(3,.ptr 1 0),(71,.int .i64),(72,.int .i64)],[.whole 25 25,.whole 25 25]⟩ (zbo b) .nil .nil))
theorem zoX(b:zaO)(d:ziu b):K8 12 (ztK b):=f8 (zss b) Tryz.func12 (.cons d.zbi .nil) ⟨λz=>by kernel_rfl,trivial,⟨λz=>by kernel_rfl,trivial,trivial⟩⟩
def zaP:Nat->zaO
 |0=>⟨λ_ _=>none⟩
 |n+1=>⟨zfk (zaP n)⟩
theorem zhS: ∀n,ziu (zaP n)
 |0=>⟨COk.none ⟨⟨_,Tryz.func12,by kernel_rfl,rfl⟩⟩⟩
 |n+1=>⟨zoX _ (zhS n)⟩
def zbi:zg->zg->Option (Bool×Unit):=(zaP Lp.big).zbi
theorem zqW:K8 12 (zkM (zaP Lp.big)):=(zhS Lp.big).zbi
def za2(s:Str)(a:Int)(b:Str):Option (Bool×Unit):=let c:=(IntKind.wrap .i64 (a+((b.length:Nat):Int)));let d:=(decide (c<=((s.length:Nat):Int)));(if d=true then let e:=(IntKind.wrap .i64 (a+((b.length:Nat):Int)));(zar s a e).bind λf=>some (f==b)else some false).bind λg=>some (g,())
def zp0:Shape:=⟨[(0,.str),(1,.int .i64),(2,.str)],[]⟩
def zpV:=callee Y [] zp0 zuY (u3 za2)
theorem zge:K8 44 (zpV):=f8 zzD Tryz.func44 .nil trivial
def zbr:Str×Int×Bool×Int×Bool×Unit->Option ((Str×Int×Bool×Int×Bool×Unit)⊕((Str×Int×Bool×Unit)⊕(Int×Bool×Bool×Unit)))| (a,c,d,b,e,())=>let f:=(decide (b< ((a.length:Nat):Int)));if f=true then(za2 a b [42,47]).bind λg=>if(!g.1)=true then(if e=true then some true else(zam a b).bind λh=>some (h==10)).bind λi=>(if i=true then some true else(zam a b).bind λj=>some (j==13)).bind λk=>let l:=(IntKind.wrap .i64 (b+1));some (.inl (a,c,d,l,k,()))else let m:=(decide (b>=((a.length:Nat):Int)));if m=true then some (.inr (.inr (c,false,false,())))else let n:=(IntKind.wrap .i64 (b+2));some (.inr (.inl (a,n,(d||e),())))else let o:=(decide (b>=((a.length:Nat):Int)));if o=true then some (.inr (.inr (c,false,false,())))else let p:=(IntKind.wrap .i64 (b+2));some (.inr (.inl (a,p,(d||e),())))
def zbI:Str×Int×Bool×Unit->Option ((Str×Int×Bool×Unit)⊕((Str×Int×Bool×Unit)⊕(Int×Bool×Bool×Unit)))| (a,b,c,())=>let d:=(decide (b< ((a.length:Nat):Int)));(if d=true then(zam a b).bind λe=>some (e !=10)else some false).bind λf=>(if f=true then(zam a b).bind λg=>some (g !=13)else some false).bind λh=>if h=true then let i:=(IntKind.wrap .i64 (b+1));some (.inl (a,i,c,()))else some (.inr (.inl (a,b,c,())))
def zaB:Str×Int×Bool×Unit->Option ((Str×Int×Bool×Unit)⊕(Int×Bool×Bool×Unit))| (b,a,d,())=>let e:=(decide (a< ((b.length:Nat):Int)));if e=true then(zam b a).bind λc=>let f:=((c==10)||(c==13));if f=true then let g:=(IntKind.wrap .i64 (a+1));some (.inl (b,g,true,()))else let h:=(((c==9)||(c==11))||(c==12));if(h||(c==32))=true then let i:=(IntKind.wrap .i64 (a+1));some (.inl (b,i,d,()))else(za2 b a [47,47]).bind λj=>if j.1=true then Lp.loop zbI (b,a,d,())else(za2 b a [47,42]).bind λk=>if k.1=true then let l:=(IntKind.wrap .i64 (a+2));Lp.loop zbr (b,a,d,l,false,())else some (.inr (a,d,true,()))else some (.inr (a,d,true,()))
def zfb(s:Str)(a:Int):Option (Int×Bool×Bool×Unit):=Lp.loop zaB (s,a,false,())
def zpH:Shape:=⟨[(0,.str),(1,.int .i64)],[]⟩
def zjD:List zO:=[⟨false,.tup [.int .i64,.bool,.bool],[]⟩]
def zpN:=callee Y [] zpH zjD (u2 zfb)
def zpE:zac Y (zV Y zjD):=(.loop [[7,5,1,2,2],[8,5,1,2,2],[6,1,2,2],[2,2,2]] ⟨[(0,.str),(1,.int .i64),(7,.bool)],[]⟩ (zaB) (.loop [[7,5,3,2,4,2,4,2,5,2,5,2,7,5,1,2,2],[8,5,3,2,4,2,4,2,5,2,5,2,7,5,1,2,2],[6,3,2,4,2,4,2,5,2,5,2,7,5,1,2,2],[6,2,5,2,7,5,1,2,2],[6,2,7,5,1,2,2],[8,5,1,2,2],[6,1,2,2],[2,2,2]] ⟨[(0,.str),(1,.int .i64),(7,.bool)],[]⟩ (zbI) .nil (.loop [[7,5,1,2,2,3,2,4,2,4,2,4,2,5,2,5,2,7,5,1,2,2],[8,5,1,2,2,3,2,4,2,4,2,4,2,5,2,5,2,7,5,1,2,2],[6,1,2,2,3,2,4,2,4,2,4,2,5,2,5,2,7,5,1,2,2],[2,2,2,3,2,4,2,4,2,4,2,5,2,5,2,7,5,1,2,2],[6,2,5,2,7,5,1,2,2],[6,2,7,5,1,2,2],[8,5,1,2,2],[6,1,2,2],[2,2,2]] ⟨[(0,.str),(1,.int .i64),(7,.bool),(9,.int .i64),(10,.bool)],[]⟩ (zbr) .nil .nil)) .nil)
theorem zoL:K8 27 (zpN):=f8 zpE Tryz.func27 (.cons zge .nil) ⟨λz=>by kernel_rfl,⟨λz=>by kernel_rfl,trivial,⟨λz=>by kernel_rfl,trivial,trivial⟩⟩,trivial⟩
def zcV(c:Int):Option (Bool×Unit):=let a:=((decide (c>=97))&&(decide (c<=122)));let b:=(a||((decide (c>=65))&&(decide (c<=90))));let d:=((b||(c==95))||(c==36));some (d,())
def zp1:=callee Y [] zzq zuY (λz=>zcV z.1)
theorem zjk:K8 45 (zp1):=f8 zzD Tryz.func45 .nil trivial
def zcx(c:Int):Option (Bool×Unit):=let a:=((decide (c>=48))&&(decide (c<=57)));some (a,())
def zrk:=callee Y [] zzq zuY (λz=>zcx z.1)
theorem zgB:K8 46 (zrk):=f8 zzD Tryz.func46 .nil trivial
def zbT(c:Int):Option (Int×Unit):=(zcx c).bind λa=>if a.1=true then let b:=(IntKind.wrap .i64 (IntKind.wrap .u8 (c -48)));some (b,())else let d:=((decide (c>=97))&&(decide (c<=102)));if d=true then let e:=(IntKind.wrap .i64 (IntKind.wrap .u8 (c -97)));let f:=(IntKind.wrap .i64 (e+10));some (f,())else let g:=((decide (c>=65))&&(decide (c<=70)));if g=true then let h:=(IntKind.wrap .i64 (IntKind.wrap .u8 (c -65)));let i:=(IntKind.wrap .i64 (h+10));some (i,())else some ((-1),())
def zrg:=callee Y [] zzq zu7 (λz=>zbT z.1)
def zr6:zac Y (zV Y zu7):= .nil
theorem zqJ:K8 103 (zrg):=f8 zr6 Tryz.func103 (.cons zgB .nil) trivial
def zaC(b:Str)(c:Int)(d:Int)(a:Int):Option (Int×Int×Unit):=let e:=(decide (a< ((b.length:Nat):Int)));if e=true then(zam b a).bind λf=>(zcV f).bind λg=>if g.1=true then some (0,0,())else(zam b a).bind λh=>(zcx h).bind λi=>(if i.1=true then some true else(zam b a).bind λj=>some (j==46)).bind λk=>if k=true then some (0,0,())else let l:=(IntKind.wrap .i64 (a -c));some (d,l,())else let m:=(IntKind.wrap .i64 (a -c));some (d,m,())
def zM:Str×Int×Int×Int×Int×Unit->Option ((Str×Int×Int×Int×Int×Unit)⊕(Int×Int×Unit))| (a,c,d,e,b,())=>let h:=(decide (b< ((a.length:Nat):Int)));if h=true then(zam a b).bind λi=>(zbT i).bind λj=>if(decide (j.1>=0))=true then(zam a b).bind λk=>(zbT k).bind λl=>if(decide (l.1<d))=true then let m:=(IntKind.wrap .i64 (e*d));(zam a b).bind λn=>(zbT n).bind λo=>let f:=(IntKind.wrap .i64 (m+o.1));let g:=(IntKind.wrap .i64 (b+1));let p:=(decide (f>9007199254740991));if p=true then some (.inr (0,0,()))else(if(d==10)=true then(zam a c).bind λq=>some (q==48)else some false).bind λr=>if r=true then ze5 .inr (zaC a c f g)else some (.inl (a,c,d,f,g,()))else ze5 .inr (zaC a c e b)else ze5 .inr (zaC a c e b)else ze5 .inr (zaC a c e b)
def zdO(s:Str)(a:Int):Option (Int×Int×Unit):=(za2 s a [48,120]).bind λb=>if b.1=true then let c:=(decide ((IntKind.wrap .i64 (a+2))< ((s.length:Nat):Int)));if c=true then(zam s (IntKind.wrap .i64 (a+2))).bind λd=>(zbT d).bind λe=>if(decide (e.1>=0))=true then Lp.loop zM (s,a,16,0,(IntKind.wrap .i64 (a+2)),())else Lp.loop zM (s,a,10,0,a,())else Lp.loop zM (s,a,10,0,a,())else(za2 s a [48,88]).bind λf=>let g:=(f.1&&(decide ((IntKind.wrap .i64 (a+2))< ((s.length:Nat):Int))));if g=true then(zam s (IntKind.wrap .i64 (a+2))).bind λh=>(zbT h).bind λi=>if(decide (i.1>=0))=true then Lp.loop zM (s,a,16,0,(IntKind.wrap .i64 (a+2)),())else Lp.loop zM (s,a,10,0,a,())else Lp.loop zM (s,a,10,0,a,())
def zjF:List zO:=[⟨false,.tup [.int .i64,.int .i64],[]⟩]
def zpD:=callee Y [] zpH zjF (u2 zdO)
def zpK:zac Y (zV Y zjF):=(.loop [[7,5,1,2,2,2,2,2,2],[8,5,1,2,2,2,2,2,2],[6,1,2,2,2,2,2,2],[2,2,2,2,2,2,2]] ⟨[(0,.str),(1,.int .i64),(6,.int .i64),(8,.int .i64),(9,.int .i64)],[]⟩ (zM) .nil (.join [[1,1,2,2,2,2,2,2,2],[2,1,2,2,2,2,2,2,2],[2,2,2,2,2,2,2,2]] ⟨[(0,.str),(1,.int .i64),(8,.int .i64),(9,.int .i64)],[]⟩ (u4 zaC) .nil))
theorem zo8:K8 48 (zpD):=f8 zpK Tryz.func48 (.cons zge (.cons zqJ (.cons zjk (.cons zgB .nil)))) ⟨λz=>by kernel_rfl,trivial,⟨λz=>by kernel_rfl,⟨⟩⟩⟩
def zcI:(List Int)×Int×Int×(List UInt8)×Unit->Option (((List Int)×Int×Int×(List UInt8)×Unit)⊕(Str×Unit))| (c,d,a,b,())=>if(decide (a<d))=true then(zL c a).bind λe=>let h:=(IntKind.wrap .i64 (Int.tdiv e 256));let i:=(IntKind.wrap .u8 (Int.tmod e 256));(toB (IntKind.wrap .u8 h)).bind λf=>(toB i).bind λg=>(room (b.length+([f,g]:List UInt8).length)).bind λ_=>let j:=b++([f,g]:List UInt8);let k:=(IntKind.wrap .i64 (a+1));some (.inl (c,d,k,j,()))else some (.inr (b,()))
def zgo(l:List Int):Option (Str×Unit):=Lp.loop zcI (l,((l.length:Nat):Int),0,[],())
def zts:Shape:=⟨[(0,.sl 3)],[]⟩
def zsx:=callee Y [] zts zvE (λz=>zgo z.1)
def zsu:zac Y (zV Y zvE):=(.loop [[7,5,2,1,2,2],[8,5,2,1,2,2],[6,2,1,2,2],[2,2,2]] ⟨[(3,.own 0),(6,.sl 3),(7,.int .i64),(8,.int .i64)],[.arr 5]⟩ (zcI) .nil .nil)
theorem zr3:K8 104 (zsx):=f8 zsu Tryz.func104 .nil ⟨λz=>by kernel_rfl,trivial,trivial⟩
def zej(c:Int):Option (Int×Unit):=let a:=((decide (c>=48))&&(decide (c<=57)));if a=true then let b:=(IntKind.wrap .i64 (IntKind.wrap .u8 (c -48)));some (b,())else let d:=((decide (c>=97))&&(decide (c<=102)));if d=true then let e:=(IntKind.wrap .i64 (IntKind.wrap .u8 (c -97)));let f:=(IntKind.wrap .i64 (e+10));some (f,())else let g:=((decide (c>=65))&&(decide (c<=70)));if g=true then let h:=(IntKind.wrap .i64 (IntKind.wrap .u8 (c -65)));let i:=(IntKind.wrap .i64 (h+10));some (i,())else some ((-1),())
def zsa:=callee Y [] zzq zu7 (λz=>zej z.1)
theorem zp5:K8 172 (zsa):=f8 zr6 Tryz.func172 .nil trivial
def zbq:Str×Int×Int×Int×Int×Unit->Option ((Str×Int×Int×Int×Int×Unit)⊕(Int×Unit))| (b,c,d,e,a,())=>if(decide (a<e))=true then let f:=(IntKind.wrap .i64 (c+a));let g:=(decide (f>=((b.length:Nat):Int)));if g=true then some (.inr ((-1),()))else let h:=(IntKind.wrap .i64 (c+a));(zam b h).bind λi=>(zej i).bind λj=>if(decide (j.1<0))=true then some (.inr ((-1),()))else let k:=(IntKind.wrap .i64 (16*d));let l:=(IntKind.wrap .i64 (c+a));(zam b l).bind λm=>(zej m).bind λn=>let o:=(IntKind.wrap .i64 (k+n.1));let p:=(IntKind.wrap .i64 (a+1));some (.inl (b,c,o,e,p,()))else some (.inr (d,()))
def zcf(s:Str)(a:Int)(b:Int):Option (Int×Unit):=Lp.loop zbq (s,a,0,b,0,())
def zp4:=callee Y [] zop zu7 (u3 zcf)
def zpy:zac Y (zV Y zu7):=(.loop [[7,5,2,1,2,2],[8,5,2,1,2,2],[6,2,1,2,2],[2,2,2]] ⟨[(0,.str),(1,.int .i64),(7,.int .i64),(9,.int .i64),(10,.int .i64)],[]⟩ (zbq) .nil .nil)
theorem zoS:K8 147 (zp4):=f8 zpy Tryz.func147 (.cons zp5 .nil) ⟨λz=>by kernel_rfl,trivial,trivial⟩
def zfd(c:Int):Option (Int×Unit):=if(c==110)=true then some (10,())else if(c==116)=true then some (9,())else if(c==114)=true then some (13,())else if(c==98)=true then some (8,())else if(c==102)=true then some (12,())else if(c==118)=true then some (11,())else let a:=((decide (c>127))||(c==13));let b:=((a||(c==120))||(c==117));let d:=(b||((decide (c>=48))&&(decide (c<=57))));if(d||(c==10))=true then some ((-1),())else some ((IntKind.wrap .i64 c),())
def zpJ:=callee Y [] zzq zu7 (λz=>zfd z.1)
theorem zo1:K8 148 (zpJ):=f8 zr6 Tryz.func148 .nil trivial
def zeL(s:Str)(a:Int):Option ((List Int)×Int×Unit):=let f:=(decide (a>=((s.length:Nat):Int)));if f=true then some ([],(-1),())else(zam s a).bind λb=>if(b==10)=true then some ([],1,())else if(b==48)=true then let g:=(decide ((IntKind.wrap .i64 (a+1))< ((s.length:Nat):Int)));(if g=true then(zam s (IntKind.wrap .i64 (a+1))).bind λh=>some (decide (h>=48))else some false).bind λi=>(if i=true then(zam s (IntKind.wrap .i64 (a+1))).bind λj=>some (decide (j<=57))else some false).bind λk=>if k=true then some ([],(-1),())else some (([0]:List Int),1,())else if(b==120)=true then(zcf s (IntKind.wrap .i64 (a+1)) 2).bind λc=>if(decide (c.1<0))=true then some ([],(-1),())else some (([c.1]:List Int),3,())else if(b==117)=true then(zcf s (IntKind.wrap .i64 (a+1)) 4).bind λd=>if(decide (d.1<0))=true then some ([],(-1),())else some (([d.1]:List Int),5,())else(zam s a).bind λl=>(zfd l).bind λe=>if(decide (e.1<0))=true then some ([],(-1),())else some (([e.1]:List Int),1,())
def zjo:List zO:=[⟨false,.tup [.sl 3,.int .i64],[]⟩]
def zoU:=callee Y [] zpH zjo (u2 zeL)
def zoY:zac Y (zV Y zjo):= .nil
theorem zn9:K8 105 (zoU):=f8 zoY Tryz.func105 (.cons zoS (.cons zo1 .nil)) trivial
def zaH:Str×Int×(List Int)×Unit->Option ((Str×Int×(List Int)×Unit)⊕(Str×Int×Int×Unit))| (b,c,d,())=>let f:=(decide (c< ((b.length:Nat):Int)));if f=true then(zam b c).bind λa=>(zam b 0).bind λg=>if(a==g)=true then(zgo d).bind λh=>let i:=(IntKind.wrap .i64 (c+1));some (.inr (h.1,i,0,()))else let j:=((a==10)||(a==13));let k:=(j||(decide (a>127)));if k=true then some (.inr ([],0,10,()))else if(a==92)=true then let l:=(IntKind.wrap .i64 (c+1));(zeL b l).bind λe=>if(decide (e.2.1<0))=true then some (.inr ([],0,10,()))else(room (d.length+e.1.length)).bind λ_=>let m:=d++e.1;let n:=(IntKind.wrap .i64 (1+e.2.1));let o:=(IntKind.wrap .i64 (c+n));some (.inl (b,o,m,()))else(room (d.length+([(IntKind.wrap .i64 a)]:List Int).length)).bind λ_=>let p:=d++([(IntKind.wrap .i64 a)]:List Int);let q:=(IntKind.wrap .i64 (c+1));some (.inl (b,q,p,()))else some (.inr ([],0,10,()))
def zgk(s:Str):Option (Str×Int×Int×Unit):=(if(s==[])=true then some true else(zam s 0).bind λa=>(if(a !=39)=true then(zam s 0).bind λb=>some (b !=34)else some false).bind λc=>some c).bind λd=>if d=true then some ([],0,10,())else Lp.loop zaH (s,1,[],())
def zsl:=callee Y [] zCP zvF (λz=>zgk z.1)
def zsR:zac Y (zV Y zvF):=(.loop [[7,5,2,1,2,2,2],[8,5,2,1,2,2,2],[6,2,1,2,2,2],[2,2,2,2]] ⟨[(0,.str),(5,.own 0),(6,.int .i64)],[.arr 3]⟩ (zaH) .nil .nil)
theorem zsb:K8 49 (zsl):=f8 zsR Tryz.func49 (.cons zr3 (.cons zn9 .nil)) ⟨λz=>by kernel_rfl,trivial,trivial⟩
def zh1:Option ((List Str)×Unit):=some ([[61,61,61],[33,61,61],[60,61],[62,61],[61,61],[33,61],[43,43],[45,45],[38,38],[124,124],[43,61],[45,61],[42,61],[47,61],[37,61],[123],[125],[40],[41],[91],[93],[46],[59],[44],[60],[62],[43],[45],[42],[47],[37],[33],[63],[58],[61]],())
def zkg:List zO:=[⟨false,.sl 9,[]⟩]
def zq5:=callee Y [] ztN zkg (λz=>zh1)
def zrM:zac Y (zV Y zkg):= .nil
theorem zqu:K8 50 (zq5):=f8 zrM Tryz.func50 .nil trivial
def zh9:Option ((List Str)×Unit):=some ([[98,114,101,97,107],[99,97,115,101],[99,97,116,99,104],[99,108,97,115,115],[99,111,110,115,116],[99,111,110,116,105,110,117,101],[100,101,98,117,103,103,101,114],[100,101,102,97,117,108,116],[100,101,108,101,116,101],[100,111],[101,108,115,101],[101,110,117,109],[101,120,112,111,114,116],[101,120,116,101,110,100,115],[102,97,108,115,101],[102,105,110,97,108,108,121],[102,111,114],[102,117,110,99,116,105,111,110],[105,102],[105,109,112,108,101,109,101,110,116,115],[105,109,112,111,114,116],[105,110],[105,110,115,116,97,110,99,101,111,102],[105,110,116,101,114,102,97,99,101],[108,101,116],[110,101,119],[110,117,108,108],[112,97,99,107,97,103,101],[112,114,105,118,97,116,101],[112,114,111,116,101,99,116,101,100],[112,117,98,108,105,99],[114,101,116,117,114,110],[115,116,97,116,105,99],[115,117,112,101,114],[115,119,105,116,99,104],[116,104,105,115],[116,104,114,111,119],[116,114,117,101],[116,114,121],[116,121,112,101,111,102],[118,97,114],[118,111,105,100],[119,104,105,108,101],[119,105,116,104],[121,105,101,108,100]],())
def zq7:=callee Y [] ztN zkg (λz=>zh9)
theorem zqH:K8 102 (zq7):=f8 zrM Tryz.func102 .nil trivial
def zbH:Str×(List Str)×Int×Int×Unit->Option ((Str×(List Str)×Int×Int×Unit)⊕(Bool×Unit))| (b,c,d,a,())=>if(decide (a<d))=true then(zL c a).bind λe=>if(b==e)=true then some (.inr (true,()))else let f:=(IntKind.wrap .i64 (a+1));some (.inl (b,c,d,f,()))else some (.inr (false,()))
def zfq(s:Str):Option (Bool×Unit):=zh9.bind λa=>let b:=((a.1.length:Nat):Int);Lp.loop zbH (s,a.1,b,0,())
def zqa:=callee Y [] zCP zuY (λz=>zfq z.1)
def zp9:zac Y (zV Y zuY):=(.loop [[7,5,2,1,2],[8,5,2,1,2],[6,2,1,2],[2,2]] ⟨[(0,.str),(5,.sl 9),(6,.int .i64),(7,.int .i64)],[]⟩ (zbH) .nil .nil)
theorem zoT:K8 47 (zqa):=f8 zp9 Tryz.func47 (.cons zqH .nil) ⟨λz=>by kernel_rfl,trivial,trivial⟩
def zbL:Str×Int×(List Str)×Int×Int×zk×Unit->Option ((Str×Int×(List Str)×Int×Int×zk×Unit)⊕(zk×Int×Unit))| (c,d,e,f,a,g,())=>if(decide (a<f))=true then(zL e a).bind λb=>(za2 c d b).bind λh=>if h.1=true then some (.inr (⟨5,b,0,0,false⟩,((b.length:Nat):Int),()))else let i:=(IntKind.wrap .i64 (a+1));some (.inl (c,d,e,f,i,(zfN g),()))else some (.inr (⟨0,[],0,0,false⟩,0,()))
def zhE(b:Int)(c:Int)(g:zk)(a:zk):Option (zk×Int×Unit):=(zfq a.Text).bind λd=>if d.1=true then let e:=(IntKind.wrap .i64 (c -b));some (⟨2,a.Text,a.Num,a.At,a.Fresh⟩,e,())else let f:=(IntKind.wrap .i64 (c -b));some ((zfN a),f,())
def zhB(c:Str)(a:Int)(b:Int)(d:zk):Option (zk×Int×Unit):=(zar c a b).bind λe=>zhE a b (zfN d) ⟨1,e,0,0,false⟩
def zcc(c:Str)(a:Int)(b:Int)(d:zk):Option (zk×Int×Unit):=let e:=(IntKind.wrap .i64 (b -a));if(decide (e>32))=true then some (⟨0,[],0,0,false⟩,0,())else zhB c a b (zfN d)
def zb8:Str×Int×Int×zk×Unit->Option ((Str×Int×Int×zk×Unit)⊕(zk×Int×Unit))| (a,c,b,d,())=>let e:=(decide (b< ((a.length:Nat):Int)));if e=true then(zam a b).bind λf=>(zcV f).bind λg=>if g.1=true then let h:=(IntKind.wrap .i64 (b+1));some (.inl (a,c,h,(zfN d),()))else(zam a b).bind λi=>(zcx i).bind λj=>if j.1=true then let k:=(IntKind.wrap .i64 (b+1));some (.inl (a,c,k,(zfN d),()))else ze5 .inr (zcc a c b (zfN d))else ze5 .inr (zcc a c b (zfN d))
def zgU(s:Str)(a:Int):Option (zk×Int×Unit):=(zam s a).bind λb=>(zcV b).bind λf=>if f.1=true then Lp.loop zb8 (s,a,a,⟨0,[],0,0,false⟩,())else(zcx b).bind λg=>if g.1=true then(zdO s a).bind λc=>some (⟨3,[],c.1,0,false⟩,c.2.1,())else let h:=((b==39)||(b==34));if h=true then(zar s a ((s.length:Nat):Int)).bind λi=>(zgk i).bind λd=>some (⟨4,d.1,0,0,false⟩,d.2.1,())else zh1.bind λe=>let j:=((e.1.length:Nat):Int);Lp.loop zbL (s,a,e.1,j,0,⟨0,[],0,0,false⟩,())
def zlS:List zO:=[⟨false,.tup [.st 36,.int .i64],[]⟩]
def zui:=callee Y [] zpH zlS (u2 zgU)
def zuR:zac Y (zV Y zlS):=(.loop [[7,5,1,2,3,2,5,1,2,2],[8,5,1,2,3,2,5,1,2,2],[6,1,2,3,2,5,1,2,2],[2,2,3,2,5,1,2,2],[6,1,2,2],[2,2,2]] ⟨[(0,.str),(1,.int .i64),(4,.ptr 0 0),(7,.int .i64)],[.whole 36 36]⟩ (zb8) .nil (.join [[1,1,2,2,3,2,5,1,2,2],[2,1,2,2,3,2,5,1,2,2],[2,2,2,3,2,5,1,2,2],[6,1,2,2],[2,2,2]] ⟨[(0,.str),(1,.int .i64),(4,.ptr 0 0),(7,.int .i64)],[.whole 36 36]⟩ (u4 zcc) (.join [[1,2,2,2,3,2,5,1,2,2],[2,2,2,2,3,2,5,1,2,2],[6,1,2,2],[2,2,2]] ⟨[(0,.str),(1,.int .i64),(4,.ptr 0 0),(7,.int .i64)],[.whole 36 36]⟩ (u4 zhB) (.join [[1,1,2,2,2,2,3,2,5,1,2,2],[2,1,2,2,2,2,3,2,5,1,2,2],[2,2,2,2,2,3,2,5,1,2,2],[6,1,2,2],[2,2,2]] ⟨[(1,.int .i64),(4,.ptr 0 0),(7,.int .i64),(8,.ptr 1 0)],[.whole 36 36,.whole 36 36]⟩ (u4 zhE) (.loop [[7,5,2,1,2,2,2],[8,5,2,1,2,2,2],[6,2,1,2,2,2],[2,2,2,2]] ⟨[(0,.str),(1,.int .i64),(4,.ptr 0 0),(89,.sl 9),(90,.int .i64),(91,.int .i64)],[.whole 36 36]⟩ (zbL) .nil .nil)))))
theorem zsA:K8 28 (zui):=f8 zuR Tryz.func28 (.cons zjk (.cons zgB (.cons zo8 (.cons zsb (.cons zqu (.cons zge (.cons zoT .nil))))))) ⟨λz=>by kernel_rfl,trivial,⟨λz=>by kernel_rfl,⟨λz=>by kernel_rfl,⟨λz=>by kernel_rfl,⟨λz=>by kernel_rfl,trivial,trivial⟩⟩⟩⟩⟩
def zb6:Str×Int×(List zk)×Unit->Option ((Str×Int×(List zk)×Unit)⊕((List zk)×Int×Int×Unit))| (c,e,d,())=>(zfb c e).bind λa=>if(!a.2.2.1)=true then some (.inr ([],a.1,60,()))else let f:=((c.length:Nat):Int);if(a.1==f)=true then(room (d.length+([⟨0,[],0,a.1,a.2.1⟩]:List zk).length)).bind λ_=>let g:=d++[⟨0,[],0,a.1,a.2.1⟩];some (.inr (g,0,0,()))else(zgU c a.1).bind λb=>if(b.2.1==0)=true then some (.inr ([],a.1,60,()))else(room (d.length+([⟨b.1.Kind,b.1.Text,b.1.Num,a.1,a.2.1⟩]:List zk).length)).bind λ_=>let h:=d++[⟨b.1.Kind,b.1.Text,b.1.Num,a.1,a.2.1⟩];let i:=(IntKind.wrap .i64 (a.1+b.2.1));some (.inl (c,i,h,()))
def zcv(a:Str):Option ((List zk)×Int×Int×Unit):=let b:=(decide (((a.length:Nat):Int)>4096));if b=true then some ([],0,2,())else Lp.loop zb6 (a,0,[],())
def zuz:=callee Y [] zCP zwK (λz=>zcv z.1)
def zuP:zac Y (zV Y zwK):=(.loop [[7,5,2,2,2,2],[8,5,2,2,2,2],[6,2,2,2,2]] ⟨[(0,.str),(5,.own 0),(6,.int .i64)],[.arr 36]⟩ (zb6) .nil .nil)
theorem zk0:K8 13 (zuz):=f8 zuP Tryz.func13 (.cons zoL (.cons zsA .nil)) ⟨λz=>by kernel_rfl,trivial,trivial⟩
def zc9(n:Int):Option (Str×Unit):=let a:=(IntKind.wrap .i64 ((Int.tmod n 5)+5));(zL [[32],[9],[32,47,42,32,120,32,42,47],[11,32],[32,47,42,42,47,32]] (Int.tmod a 5)).bind λb=>some (b,())
def zq4:=callee Y [] zCy zvE (λz=>zc9 z.1)
theorem zpQ:K8 14 (zq4):=f8 zA0 Tryz.func14 .nil trivial
def zbn:Str×Int×Unit->Option ((Str×Int×Unit)⊕(Str×Unit))| (a,b,())=>if(decide (b>0))=true then(zar a 0 b).bind λg=>(zcv g).bind λe=>let h:=((e.2.2.1==0)&&(((e.1.length:Nat):Int)==2));if h=true then let i:=(IntKind.wrap .i64 (b -1));(zar a 0 i).bind λj=>(zcv j).bind λf=>if(f.2.2.1 !=0)=true then(zar a 0 b).bind λk=>some (.inr (k,()))else let l:=((f.1.length:Nat):Int);if(l !=2)=true then(zar a 0 b).bind λm=>some (.inr (m,()))else(zL f.1 0).bind λc=>(zL e.1 0).bind λd=>let n:=(!((c.Kind==d.Kind)&&((c.Text==d.Text)&&((c.Num==d.Num)&&((c.At==d.At)&&((c.Fresh==d.Fresh)&&true))))));if n=true then(zar a 0 b).bind λo=>some (.inr (o,()))else let p:=(IntKind.wrap .i64 (b -1));some (.inl (a,p,()))else let q:=(IntKind.wrap .i64 (b -1));some (.inl (a,q,()))else some (.inr (a,()))
def zeI(a:Str):Option (Str×Unit):=let b:=((a.length:Nat):Int);Lp.loop zbn (a,b,())
def zsL:=callee Y [] zCP zvE (λz=>zeI z.1)
def zsn:zac Y (zV Y zvE):=(.loop [[7,5,2,1,2],[8,5,2,1,2],[6,2,1,2],[2,2]] ⟨[(0,.str),(3,.int .i64)],[]⟩ (zbn) .nil .nil)
theorem zrN:K8 15 (zsL):=f8 zsn Tryz.func15 (.cons zk0 .nil) ⟨λz=>by kernel_rfl,trivial,trivial⟩
def zcX(a:Str)(b:Int)(c:Bool)(d:List zk)(e:Str)(i:Str)(j:List zk)(f:List zk)(g:Int)(h:Int)(k:zk):OT9:=let l:=((k.Kind==0)||(((j.length:Nat):Int)==0));if l=true then let m:=(IntKind.wrap .i64 (h+1));some (.inl (a,b,c,d,e,f,g,m,()))else(zeI i).bind λn=>(zgW e n.1).bind λo=>let p:=(IntKind.wrap .i64 (h+1));some (.inl (a,b,c,d,o,f,g,p,()))
def zbX(b:Str)(a:Int)(c:Bool)(d:List zk)(e:Str)(f:Int)(g:Str)(h:List zk)(i:List zk)(j:Int)(k:Int)(l:zk):OT9:=let m:=(IntKind.wrap .i64 (a+f));(zc9 m).bind λn=>(zgW e n.1).bind λo=>zcX b a c d o g h i j k (zfN l)
def zes(a:Str)(b:Int)(c:Bool)(d:List zk)(e:Str)(f:Int)(g:Str)(h:List zk)(i:List zk)(j:Int)(k:Int)(l:zk):OT9:=(zgW e [10]).bind λm=>zbX a b c d m f g h i j k (zfN l)
def zcT(b:Str)(c:Int)(d:Bool)(e:List zk)(f:Str)(g:Int)(h:Str)(i:List zk)(j:List zk)(k:Int)(l:Int)(a:zk):OT9:=if a.Fresh=true then zes b c d e f g h i j k l (zfN a)else zbX b c d e f g h i j k l (zfN a)
def zcS(b:Str)(c:Int)(d:Bool)(e:List zk)(f:Str)(g:Int)(a:Str)(h:List zk)(i:Int)(j:Int)(k:zk):OT9:=(zcv a).bind λl=>zcT b c d e f g a l.1 h i j (zfN k)
def zbW(a:Str)(c:Int)(d:Bool)(e:List zk)(f:Str)(g:Int)(h:Int)(i:List zk)(j:Int)(k:Int)(b:zk):OT9:=(zar a b.At h).bind λl=>zcS a c d e f g l i j k (zfN b)
def zaz:Str×Int×Bool×(List zk)×Str×(List zk)×Int×Int×Unit->OT9| (b,h,c,d,e,f,g,a,())=>if(decide (a<g))=true then(zL f a).bind λi=>let l:=((b.length:Nat):Int);let m:=(IntKind.wrap .i64 (((d.length:Nat):Int) -1));if(decide (a<m))=true then let n:=(IntKind.wrap .i64 (a+1));(zL d n).bind λo=>zbW b h c d e a o.At f g a (zfN i)else zbW b h c d e a l f g a (zfN i)else let p:=((e.length:Nat):Int);if(decide (p>4096))=true then some (.inr (c,()))else(zbp b).bind λj=>(zbp e).bind λk=>let q:=(c&&(j.2.2.1==k.2.2.1));if q=true then(zbi (zB j.1) (zB k.1)).bind λr=>some (.inr (r.1,()))else some (.inr (false,()))
def zcH(d:Str)(a:Int):Option (Bool×Unit):=zgp.bind λc=>(zcv d).bind λb=>if(b.2.2.1 !=0)=true then some (c.1,())else let e:=((b.1.length:Nat):Int);Lp.loop zaz (d,a,c.1,b.1,[],b.1,e,0,())
def zhk:=callee Y [] zpH zuY (u2 zcH)
def zmm:zac Y (zV Y zuY):=(.loop [[7,5,2,1,2,2,2,2,2],[8,5,2,1,2,2,2,2,2],[6,2,1,2,2,2,2,2],[2,2,2,2,2,2]] ⟨[(0,.str),(1,.int .i64),(5,.bool),(6,.sl 36),(9,.str),(33,.sl 36),(34,.int .i64),(35,.int .i64)],[]⟩ (zaz) (.join [[1,2,2,2,5,1,2,2,7,5,2,1,2,2,2,2,2],[2,2,2,2,5,1,2,2,7,5,2,1,2,2,2,2,2],[6,1,2,2,7,5,2,1,2,2,2,2,2],[2,2,2,7,5,2,1,2,2,2,2,2],[8,5,2,1,2,2,2,2,2],[6,2,1,2,2,2,2,2],[2,2,2,2,2,2]] ⟨[(0,.str),(1,.int .i64),(5,.bool),(6,.sl 36),(9,.str),(10,.int .i64),(11,.ptr 0 0),(12,.int .i64),(33,.sl 36),(34,.int .i64),(35,.int .i64)],[.whole 36 36]⟩ (u11 zbW) (.join [[1,2,2,2,2,5,1,2,2,7,5,2,1,2,2,2,2,2],[2,2,2,2,2,5,1,2,2,7,5,2,1,2,2,2,2,2],[6,1,2,2,7,5,2,1,2,2,2,2,2],[2,2,2,7,5,2,1,2,2,2,2,2],[8,5,2,1,2,2,2,2,2],[6,2,1,2,2,2,2,2],[2,2,2,2,2,2]] ⟨[(0,.str),(1,.int .i64),(5,.bool),(6,.sl 36),(9,.str),(10,.int .i64),(11,.ptr 0 0),(13,.str),(33,.sl 36),(34,.int .i64),(35,.int .i64)],[.whole 36 36]⟩ (u11 zcS) (.join [[1,1,2,2,2,2,2,5,1,2,2,7,5,2,1,2,2,2,2,2],[2,1,2,2,2,2,2,5,1,2,2,7,5,2,1,2,2,2,2,2],[2,2,2,2,2,2,5,1,2,2,7,5,2,1,2,2,2,2,2],[6,1,2,2,7,5,2,1,2,2,2,2,2],[2,2,2,7,5,2,1,2,2,2,2,2],[8,5,2,1,2,2,2,2,2],[6,2,1,2,2,2,2,2],[2,2,2,2,2,2]] ⟨[(0,.str),(1,.int .i64),(5,.bool),(6,.sl 36),(9,.str),(10,.int .i64),(11,.ptr 0 0),(13,.str),(14,.sl 36),(33,.sl 36),(34,.int .i64),(35,.int .i64)],[.whole 36 36]⟩ (u12 zcT) (.join [[3,2,1,2,2,2,2,2,5,1,2,2,7,5,2,1,2,2,2,2,2],[2,2,2,2,2,2,5,1,2,2,7,5,2,1,2,2,2,2,2],[6,1,2,2,7,5,2,1,2,2,2,2,2],[2,2,2,7,5,2,1,2,2,2,2,2],[8,5,2,1,2,2,2,2,2],[6,2,1,2,2,2,2,2],[2,2,2,2,2,2]] ⟨[(0,.str),(1,.int .i64),(5,.bool),(6,.sl 36),(9,.str),(10,.int .i64),(11,.ptr 0 0),(13,.str),(14,.sl 36),(33,.sl 36),(34,.int .i64),(35,.int .i64)],[.whole 36 36]⟩ (u12 zes) (.join [[1,2,2,2,2,2,2,5,1,2,2,7,5,2,1,2,2,2,2,2],[2,2,2,2,2,2,2,5,1,2,2,7,5,2,1,2,2,2,2,2],[6,1,2,2,7,5,2,1,2,2,2,2,2],[2,2,2,7,5,2,1,2,2,2,2,2],[8,5,2,1,2,2,2,2,2],[6,2,1,2,2,2,2,2],[2,2,2,2,2,2]] ⟨[(0,.str),(1,.int .i64),(5,.bool),(6,.sl 36),(9,.str),(10,.int .i64),(11,.ptr 0 0),(13,.str),(14,.sl 36),(33,.sl 36),(34,.int .i64),(35,.int .i64)],[.whole 36 36]⟩ (u12 zbX) (.join [[1,1,2,2,2,2,2,2,2,5,1,2,2,7,5,2,1,2,2,2,2,2],[2,1,2,2,2,2,2,2,2,5,1,2,2,7,5,2,1,2,2,2,2,2],[2,2,2,2,2,2,2,2,5,1,2,2,7,5,2,1,2,2,2,2,2],[6,1,2,2,7,5,2,1,2,2,2,2,2],[2,2,2,7,5,2,1,2,2,2,2,2],[8,5,2,1,2,2,2,2,2],[6,2,1,2,2,2,2,2],[2,2,2,2,2,2]] ⟨[(0,.str),(1,.int .i64),(5,.bool),(6,.sl 36),(9,.str),(11,.ptr 0 0),(13,.str),(14,.sl 36),(33,.sl 36),(34,.int .i64),(35,.int .i64)],[.whole 36 36]⟩ (u11 zcX) .nil)))))) .nil)
theorem zl0:K8 4 (zhk):=f8 zmm Tryz.func4 (.cons zse (.cons zk0 (.cons zn8 (.cons zqW (.cons zpQ (.cons zrN .nil)))))) ⟨λz=>by kernel_rfl,⟨λz=>by kernel_rfl,⟨λz=>by kernel_rfl,⟨λz=>by kernel_rfl,⟨λz=>by kernel_rfl,⟨λz=>by kernel_rfl,⟨λz=>by kernel_rfl,⟨⟩⟩⟩⟩⟩⟩⟩,trivial⟩
end
end Go.D08
