/- Texts for a statement of this seat. -/
import Derived.Test.YtbicgpcndhppdaaDoorMa1
import Derived.Lib.AppendIntMem
import Derived.Shelf.Strings.SlTrimAscii
import Derived.KernelRfl
import Derived.Lib.Bytealg
import Derived.ProofKit
import Derived.OpenShut
import Derived.Deep.DeepHandedRow
import Derived.Lib.LaidTab
import Derived.Deep.Slices
import Derived.ChangeShapes
import Derived.DataReads
import Derived.LaidSub
import Derived.MakeChecks
import Derived.Lay
import Derived.Deep.DeepWitnessRowRef
import Derived.Stop.LaidErr
import Derived.Test.YtbicgpcndhppdaaDoorRows
import Derived.Test.YtbicgpcndhppdaaDoorCards
import Derived.Test.YtbicgpcndhppdaaDoorTie
import Derived.Lib.IndexMore
import Derived.Lib.IndexAny
set_option linter.unusedSectionVars false
set_option linter.unusedVariables false
set_option linter.unusedSimpArgs false
set_option linter.unnecessarySimpa false
namespace Go.D06f
open Go Go.Gw Go.Dn Go.RowKit Go.Proofs
set_option maxRecDepth 100000
variable [Lp]
noncomputable section
structure Glob (F:Heap):Prop where
 maxLen: ∃m,cellF F 0 0 (.int .i64 m)
 err1: ∃t p,cellF F 1 0 (.iface t p)
 err2: ∃t p,cellF F 2 0 (.iface t p)
theorem Glob.mono{F F':Heap}(h:Glob F)(hle:F.Le F'):Glob F':=⟨h.maxLen.imp fun _ e=>cellF_mono hle e,h.err1.imp fun _ e=>e.imp fun _ e=>cellF_mono hle e,h.err2.imp fun _ e=>e.imp fun _ e=>cellF_mono hle e⟩
theorem gm(F F':Heap)(hle:F.Le F')(h:Glob F):Glob F':=h.mono hle
@[reducible] def fd {α:Type} (x:Option α):Option α:=fk x x
def u1{a b c:Type}(f:a→b)(z:a×c):b:=f z.1
def u2{a b c d:Type}(F:a→b→d)(Z:a×b×c):d:=u1 (F Z.1) Z.2
def u3{a b c d e:Type}(F:a→b→c→e)(Z:a×b×c×d):e:=u2 (F Z.1) Z.2
def u4{a b c d e f:Type}(F:a→b→c→d→f)(Z:a×b×c×d×e):f:=u3 (F Z.1) Z.2
def u5{a b c d e f g:Type}(F:a→b→c→d→e→g)(Z:a×b×c×d×e×f):g:=u4 (F Z.1) Z.2
def u6{a b c d e f g h:Type}(F:a→b→c→d→e→f→h)(Z:a×b×c×d×e×f×g):h:=u5 (F Z.1) Z.2
def u7{a b c d e f g h i:Type}(F:a→b→c→d→e→f→g→i)(Z:a×b×c×d×e×f×g×h):i:=u6 (F Z.1) Z.2
def u8{a b c d e f g h i j:Type}(F:a→b→c→d→e→f→g→h→j)(Z:a×b×c×d×e×f×g×h×i):j:=u7 (F Z.1) Z.2
def u9{a b c d e f g h i j k:Type}(F:a→b→c→d→e→f→g→h→i→k)(Z:a×b×c×d×e×f×g×h×i×j):k:=u8 (F Z.1) Z.2
def u10{a b c d e f g h i j k l:Type}(F:a→b→c→d→e→f→g→h→i→j→l)(Z:a×b×c×d×e×f×g×h×i×j×k):l:=u9 (F Z.1) Z.2
def u11{a b c d e f g h i j k l m:Type}(F:a→b→c→d→e→f→g→h→i→j→k→m)(Z:a×b×c×d×e×f×g×h×i×j×k×l):m:=u10 (F Z.1) Z.2
def oc0(a:Nat):MPat:= .cells 63 [.str,.junk,.own a]
abbrev K8(n:FuncId)(C:Dn.Callee Y):Prop:=COk hY Tryd.prog Glob n C
theorem f8{f:FuncId}{fn:Func}{keep:List Nat}{σ:Shape}{outs:List OutP}{T:_}{g:ParS Y σ→Option (ParO Y outs)}(c:Cuts Y (ParO Y outs))(hf:Tryd.prog.funcs[f]? =some fn)(hT:TabOk hY Tryd.prog Glob T)(hO:Obl Y Tryd.prog T fn.ntmps σ.m.length (fn.body.getD .skip) [] (finD Y Tryd.prog σ.m.length fn.results.toList outs) (panD Y σ.m.length outs) c)
  (h1:((fn.body.isSome&& !(fn.name== "runtime.NumGoroutine"))&&(Nat.ble (keys σ.l).length fn.ntmps&&beqL (keys σ.l) (iota 0 (keys σ.l).length)&&outs.all fun o=>cellsStay σ.m o.m))=true:=by kernel_rfl)
  (hg: ∀z,goA Y Tryd.prog T fn.ntmps true (tbl Y σ.m.length c) (finD Y Tryd.prog σ.m.length fn.results.toList outs) (panD Y σ.m.length outs) 100000 false [(0,.code (fn.body.getD .skip))] (fillS Y σ z)=g z:=by intro z;kernel_rfl):K8 f (callee Y keep σ outs g):=fo c hf h1 hsz gm hT hO hg
def strings_HasPrefix_x(t:Str)(p:Str):Option (Bool):=some (Lib.hasPrefix t p)
theorem strings_HasPrefix_x.ok(t:Str)(p:Str)(r:Bool)(h0:strings_HasPrefix_x t p=some r)(w0:World)(F0:Heap)(hv:F0.Sub w0)(hG:Glob F0)(hg:SV.goods F0 [.v (.string ⟨⟨t⟩⟩),.v (.string ⟨⟨p⟩⟩)])(ρ:Nat→Nat):
  Calls Tryd.prog 15 (SV.dens ρ [.v (.string ⟨⟨t⟩⟩),.v (.string ⟨⟨p⟩⟩)]).toArray w0 (Ret0 w0 F0 fun s=>s= .v (.bool r)):=by
 refine(Tryd.strings_HasPrefix ⟨⟨t⟩⟩ ⟨⟨p⟩⟩ w0).mono fun e w' h=>?_
 cases h0
 exact Ret0.pure (s:= .v _) hv h.1 h.2 trivial rfl rfl
def strings_HasPrefix(t:Str)(p:Str):Option (Bool×Unit):=mapO (fun r=>(r,())) (strings_HasPrefix_x t p)
def strings_HasPrefix_s:Shape:=⟨[(0,.str),(1,.str)],[]⟩
def strings_HasPrefix_o:List OutP:=[⟨false,.bool,[]⟩]
def strings_HasPrefix_c:=callee Y [] strings_HasPrefix_s strings_HasPrefix_o (fun z=>strings_HasPrefix z.1 z.2.1)
theorem strings_HasPrefix_ok:K8 15 strings_HasPrefix_c:=
 COk.ext (l:=strings_HasPrefix_s.l) ⟨⟨_,Tryd.func15,by kernel_rfl,rfl⟩⟩ ⟨rfl,rfl⟩ rfl fun z zo h=>⟨_,_,rfl,rfl,fun w F hG hv=>by
  obtain⟨r,hr,rfl⟩:=mapO_some h
  exact strings_HasPrefix_x.ok z.1 z.2.1 r hr w F hv hG (by simp[SV.goods,SV.good]) (fun _=>0)⟩
def strings_IndexAny_x(t:Str)(a:Str):Option (Int):=if t.length<4294967281∧a=[10,13]then some (Lib.indexAny t [10,13])else none
theorem strings_IndexAny_x.ok(t:Str)(cs:Str)(r:Int)(h0:strings_IndexAny_x t cs=some r)(w0:World)(F0:Heap)(hv:F0.Sub w0)(hG:Glob F0)(hg:SV.goods F0 [.v (.string ⟨⟨t⟩⟩),.v (.string ⟨⟨cs⟩⟩)])(ρ:Nat→Nat):
  Calls Tryd.prog 16 (SV.dens ρ [.v (.string ⟨⟨t⟩⟩),.v (.string ⟨⟨cs⟩⟩)]).toArray w0 (Ret0 w0 F0 fun s=>s= .v (.int .i64 r)):=by
 unfold strings_IndexAny_x at h0
 split at h0
 ·rename_i hc
  cases h0
  obtain⟨hc,rfl⟩:=hc
  refine(Gw.strings_IndexAny_nl Tryd.lays153 (by kernel_rfl) ⟨⟨t⟩⟩ w0 hc).mono fun e w' h=>?_
  exact Ret0.below (s:= .v _) hv h.1 h.2 trivial rfl rfl
 ·cases h0
def strings_IndexAny(t:Str)(a:Str):Option (Int×Unit):=mapO (fun r=>(r,())) (strings_IndexAny_x t a)
def strings_IndexAny_s:Shape:=⟨[(0,.str),(1,.str)],[]⟩
def strings_IndexAny_o:List OutP:=[⟨false,.int .i64,[]⟩]
def strings_IndexAny_c:=callee Y [] strings_IndexAny_s strings_IndexAny_o (fun z=>strings_IndexAny z.1 z.2.1)
theorem strings_IndexAny_ok:K8 16 strings_IndexAny_c:=
 COk.ext (l:=strings_IndexAny_s.l) ⟨⟨_,Tryd.func16,by kernel_rfl,rfl⟩⟩ ⟨rfl,rfl⟩ rfl fun z zo h=>⟨_,_,rfl,rfl,fun w F hG hv=>by
  obtain⟨r,hr,rfl⟩:=mapO_some h
  exact strings_IndexAny_x.ok z.1 z.2.1 r hr w F hv hG (by simp[SV.goods,SV.good]) (fun _=>0)⟩
def strings_Index_x(t:Str)(a:Str):Option (Int):=if t.length<4294967281 then some (Lib.index t a)else none
theorem strings_Index_x.ok(t:Str)(sub:Str)(r:Int)(h0:strings_Index_x t sub=some r)(w0:World)(F0:Heap)(hv:F0.Sub w0)(hG:Glob F0)(hg:SV.goods F0 [.v (.string ⟨⟨t⟩⟩),.v (.string ⟨⟨sub⟩⟩)])(ρ:Nat→Nat):
  Calls Tryd.prog 17 (SV.dens ρ [.v (.string ⟨⟨t⟩⟩),.v (.string ⟨⟨sub⟩⟩)]).toArray w0 (Ret0 w0 F0 fun s=>s= .v (.int .i64 r)):=by
 unfold strings_Index_x at h0
 split at h0
 ·rename_i hc
  cases h0
  obtain⟨m,hm⟩:=hG.maxLen
  refine(Tryd.strings_Index ⟨⟨t⟩⟩ ⟨⟨sub⟩⟩ m w0 hc (cellF_read hv hm)).mono fun e w' h=>?_
  exact Ret0.pure (s:= .v _) hv h.1 h.2 trivial rfl rfl
 ·cases h0
def strings_Index(t:Str)(a:Str):Option (Int×Unit):=mapO (fun r=>(r,())) (strings_Index_x t a)
def strings_Index_s:Shape:=⟨[(0,.str),(1,.str)],[]⟩
def strings_Index_o:List OutP:=[⟨false,.int .i64,[]⟩]
def strings_Index_c:=callee Y [] strings_Index_s strings_Index_o (fun z=>strings_Index z.1 z.2.1)
theorem strings_Index_ok:K8 17 strings_Index_c:=
 COk.ext (l:=strings_Index_s.l) ⟨⟨_,Tryd.func17,by kernel_rfl,rfl⟩⟩ ⟨rfl,rfl⟩ rfl fun z zo h=>⟨_,_,rfl,rfl,fun w F hG hv=>by
  obtain⟨r,hr,rfl⟩:=mapO_some h
  exact strings_Index_x.ok z.1 z.2.1 r hr w F hv hG (by simp[SV.goods,SV.good]) (fun _=>0)⟩
def strings_ContainsAny_x(t:Str)(a:Str):Option (Bool):=if t.length<4294967281∧a=[10,13]then some (Lib.containsAny t [10,13])else none
theorem strings_ContainsAny_x.ok(t:Str)(cs:Str)(r:Bool)(h0:strings_ContainsAny_x t cs=some r)(w0:World)(F0:Heap)(hv:F0.Sub w0)(hG:Glob F0)(hg:SV.goods F0 [.v (.string ⟨⟨t⟩⟩),.v (.string ⟨⟨cs⟩⟩)])(ρ:Nat→Nat):
  Calls Tryd.prog 18 (SV.dens ρ [.v (.string ⟨⟨t⟩⟩),.v (.string ⟨⟨cs⟩⟩)]).toArray w0 (Ret0 w0 F0 fun s=>s= .v (.bool r)):=by
 unfold strings_ContainsAny_x at h0
 split at h0
 ·rename_i hc
  cases h0
  obtain⟨hc,rfl⟩:=hc
  refine(Gw.strings_ContainsAny_nl Tryd.lays150 (by kernel_rfl) ⟨⟨t⟩⟩ w0 hc).mono fun e w' h=>?_
  exact Ret0.below (s:= .v _) hv h.1 h.2 trivial rfl rfl
 ·cases h0
def strings_ContainsAny(t:Str)(a:Str):Option (Bool×Unit):=mapO (fun r=>(r,())) (strings_ContainsAny_x t a)
def strings_ContainsAny_s:Shape:=⟨[(0,.str),(1,.str)],[]⟩
def strings_ContainsAny_o:List OutP:=[⟨false,.bool,[]⟩]
def strings_ContainsAny_c:=callee Y [] strings_ContainsAny_s strings_ContainsAny_o (fun z=>strings_ContainsAny z.1 z.2.1)
theorem strings_ContainsAny_ok:K8 18 strings_ContainsAny_c:=
 COk.ext (l:=strings_ContainsAny_s.l) ⟨⟨_,Tryd.func18,by kernel_rfl,rfl⟩⟩ ⟨rfl,rfl⟩ rfl fun z zo h=>⟨_,_,rfl,rfl,fun w F hG hv=>by
  obtain⟨r,hr,rfl⟩:=mapO_some h
  exact strings_ContainsAny_x.ok z.1 z.2.1 r hr w F hv hG (by simp[SV.goods,SV.good]) (fun _=>0)⟩
abbrev OT2:=Option ((Str×Int×Int×Bool×Unit)⊕(Bool×Unit))
abbrev OT1:=Option ((T_token_cutter×Unit)⊕(Bool×T_token_cutter×Unit))
abbrev OT0:=Option ((Int×Bool×Str×Int×Int×Bool×Int×(List UInt8)×Int×Int×Unit)⊕(Int×GErr×Unit))
def token_cutter_blanks_j2(b:Int)(a:T_token_cutter):OT1:=if a.fresh=true then(cutL a.rest b ((a.rest.length:Nat):Int)).bind fun c=>some (.inl (⟨a.src,c,true⟩,()))else(cutL a.rest 0 b).bind fun d=>(strings_ContainsAny d [10,13]).bind fun e=>(cutL a.rest b ((a.rest.length:Nat):Int)).bind fun f=>some (.inl (⟨a.src,f,e.1⟩,()))
def token_cutter_blanks_l1:T_token_cutter×Unit→OT1| (a,())=>if(!(a.rest==[]))=true then(strings_HasPrefix a.rest [47,47]).bind fun d=>if d.1=true then(strings_IndexAny a.rest [10,13]).bind fun b=>if(decide (b.1<0))=true then let e:=((a.rest.length:Nat):Int);token_cutter_blanks_j2 e (re33 a)else token_cutter_blanks_j2 b.1 (re33 a)else(strings_HasPrefix a.rest [47,42]).bind fun f=>if f.1=true then(cutL a.rest 2 ((a.rest.length:Nat):Int)).bind fun g=>(strings_Index g [42,47]).bind fun c=>if(decide (c.1<0))=true then some (.inr (false,(re33 a),()))else let h:=(IntKind.wrap .i64 (c.1+4));token_cutter_blanks_j2 h (re33 a)else(getB a.rest 0).bind fun i=>(if(i !=32)=true then(getB a.rest 0).bind fun j=>(if(decide (j<9))=true then some true else(getB a.rest 0).bind fun k=>some (decide (k>13))).bind fun l=>some l else some false).bind fun m=>if m=true then some (.inr (true,(re33 a),()))else token_cutter_blanks_j2 1 (re33 a)else some (.inr (true,(re33 a),()))
def token_cutter_blanks(x:T_token_cutter):Option (Bool×T_token_cutter×Unit):=Lp.loop token_cutter_blanks_l1 (⟨x.src,x.rest,false⟩,())
def token_cutter_blanks_s:Shape:=⟨[(0,.ptr 0 0)],[.whole 33 33]⟩
def token_cutter_blanks_o:List OutP:=[⟨false,.bool,[.whole 33 33]⟩]
def token_cutter_blanks_c:=callee Y [] token_cutter_blanks_s token_cutter_blanks_o (fun z=>token_cutter_blanks z.1)
def token_cutter_blanks_k:Cuts Y (ParO Y token_cutter_blanks_o):=(.loop [[7,5,1,2,2,9,2],[8,5,1,2,2,9,2],[6,1,2,2,9,2],[2,2,2,9,2],[10,2]] ⟨[(0,.ptr 0 0)],[.whole 33 33]⟩ (token_cutter_blanks_l1) (.join [[1,2,2,5,2,7,5,1,2,2,9,2],[2,2,2,5,2,7,5,1,2,2,9,2],[6,2,7,5,1,2,2,9,2],[8,5,1,2,2,9,2],[6,1,2,2,9,2],[2,2,2,9,2],[10,2]] ⟨[(0,.ptr 0 0),(3,.int .i64)],[.whole 33 33]⟩ (u2 token_cutter_blanks_j2) .nil) .nil)
theorem token_cutter_blanks_ok:K8 9 (token_cutter_blanks_c):=f8 token_cutter_blanks_k Tryd.func9 (.cons strings_HasPrefix_ok (.cons strings_IndexAny_ok (.cons strings_Index_ok (.cons strings_ContainsAny_ok .nil)))) ⟨fun z=>by kernel_rfl,⟨fun z=>by kernel_rfl,⟨⟩⟩,trivial⟩
def slices_Clip(l:List T_api_Token):Option ((List T_api_Token)×Unit):=(clip3 l ((l.length:Nat):Int) ((l.length:Nat):Int)).bind fun _=>some (l,())
def slices_Clip_s:Shape:=⟨[(0,.own 0)],[.arr 28]⟩
def slices_Clip_o:List OutP:=[⟨false,.own 0,[.arr 28]⟩]
def slices_Clip_c:Dn.Callee Y:=callee Y [0] slices_Clip_s slices_Clip_o (fun z=>slices_Clip z.1)
def slices_Clip_k:Cuts Y (ParO Y slices_Clip_o):= .nil
theorem slices_Clip_ok:K8 10 (slices_Clip_c):=f8 slices_Clip_k Tryd.func10 .nil trivial
def token_letter(c:Int):Option (Bool×Unit):=let a:=(IntKind.wrap .u8 ((BitVec.ofInt 8 c|||BitVec.ofInt 8 32).toNat));let b:=((decide (a≥97))&&(decide ((IntKind.wrap .u8 ((BitVec.ofInt 8 c|||BitVec.ofInt 8 32).toNat))≤122)));let d:=((b||(c==95))||(c==36));some (d,())
def token_letter_s:Shape:=⟨[(0,.int .u8)],[]⟩
def token_letter_o:List OutP:=[⟨false,.bool,[]⟩]
def token_letter_c:=callee Y [] token_letter_s token_letter_o (fun z=>token_letter z.1)
def token_letter_k:Cuts Y (ParO Y token_letter_o):= .nil
theorem token_letter_ok:K8 13 (token_letter_c):=f8 token_letter_k Tryd.func13 .nil trivial
def token_digit(c:Int):Option (Bool×Unit):=let a:=((decide (c≥48))&&(decide (c≤57)));some (a,())
def token_digit_s:Shape:=⟨[(0,.int .u8)],[]⟩
def token_digit_o:List OutP:=[⟨false,.bool,[]⟩]
def token_digit_c:=callee Y [] token_digit_s token_digit_o (fun z=>token_digit z.1)
def token_digit_k:Cuts Y (ParO Y token_digit_o):= .nil
theorem token_digit_ok:K8 19 (token_digit_c):=f8 token_digit_k Tryd.func19 .nil trivial
def token_row_l1:Str×Int×Int×Unit→Option ((Str×Int×Int×Unit)⊕(Int×Unit))| (b,c,a,())=>if(decide (a<c))=true then(getB b a).bind fun d=>(token_letter d).bind fun e=>if(!e.1)=true then(getB b a).bind fun f=>(token_digit f).bind fun g=>if(!g.1)=true then some (.inr (a,()))else let h:=(IntKind.wrap .i64 (a+1));some (.inl (b,c,h,()))else let i:=(IntKind.wrap .i64 (a+1));some (.inl (b,c,i,()))else some (.inr (((b.length:Nat):Int),()))
def token_row(s:Str):Option (Int×Unit):=Lp.loop token_row_l1 (s,((s.length:Nat):Int),0,())
def token_row_s:Shape:=⟨[(0,.str)],[]⟩
def token_row_o:List OutP:=[⟨false,.int .i64,[]⟩]
def token_row_c:=callee Y [] token_row_s token_row_o (fun z=>token_row z.1)
def token_row_k:Cuts Y (ParO Y token_row_o):=(.loop [[7,5,2,1,2],[8,5,2,1,2],[6,2,1,2],[2,2]] ⟨[(0,.str),(5,.int .i64),(6,.int .i64)],[]⟩ (token_row_l1) .nil .nil)
theorem token_row_ok:K8 14 (token_row_c):=f8 token_row_k Tryd.func14 (.cons token_letter_ok (.cons token_digit_ok .nil)) ⟨fun z=>by kernel_rfl,trivial,trivial⟩
def strings_Contains_x(t:Str)(a:Str):Option (Bool):=if t.length<4294967281 then some (Lib.contains t a)else none
theorem strings_Contains_x.ok(t:Str)(sub:Str)(r:Bool)(h0:strings_Contains_x t sub=some r)(w0:World)(F0:Heap)(hv:F0.Sub w0)(hG:Glob F0)(hg:SV.goods F0 [.v (.string ⟨⟨t⟩⟩),.v (.string ⟨⟨sub⟩⟩)])(ρ:Nat→Nat):
  Calls Tryd.prog 23 (SV.dens ρ [.v (.string ⟨⟨t⟩⟩),.v (.string ⟨⟨sub⟩⟩)]).toArray w0 (Ret0 w0 F0 fun s=>s= .v (.bool r)):=by
 unfold strings_Contains_x at h0
 split at h0
 ·rename_i hc
  cases h0
  obtain⟨m,hm⟩:=hG.maxLen
  refine(Tryd.strings_Contains ⟨⟨t⟩⟩ ⟨⟨sub⟩⟩ m w0 hc (cellF_read hv hm)).mono fun e w' h=>?_
  exact Ret0.pure (s:= .v _) hv h.1 h.2 trivial rfl rfl
 ·cases h0
def strings_Contains(t:Str)(a:Str):Option (Bool×Unit):=mapO (fun r=>(r,())) (strings_Contains_x t a)
def strings_Contains_s:Shape:=⟨[(0,.str),(1,.str)],[]⟩
def strings_Contains_o:List OutP:=[⟨false,.bool,[]⟩]
def strings_Contains_c:=callee Y [] strings_Contains_s strings_Contains_o (fun z=>strings_Contains z.1 z.2.1)
theorem strings_Contains_ok:K8 23 strings_Contains_c:=
 COk.ext (l:=strings_Contains_s.l) ⟨⟨_,Tryd.func23,by kernel_rfl,rfl⟩⟩ ⟨rfl,rfl⟩ rfl fun z zo h=>⟨_,_,rfl,rfl,fun w F hG hv=>by
  obtain⟨r,hr,rfl⟩:=mapO_some h
  exact strings_Contains_x.ok z.1 z.2.1 r hr w F hv hG (by simp[SV.goods,SV.good]) (fun _=>0)⟩
def token_among(e:Str)(s:Str):Option (Bool×Unit):=if(!(s==[]))=true then(strings_Contains s [32]).bind fun a=>if(!a.1)=true then(catS [32] s).bind fun b=>(catS b [32]).bind fun c=>(strings_Contains e c).bind fun d=>some (d.1,())else some (false,())else some (false,())
def token_among_s:Shape:=⟨[(0,.str),(1,.str)],[]⟩
def token_among_o:List OutP:=[⟨false,.bool,[]⟩]
def token_among_c:=callee Y [] token_among_s token_among_o (u2 token_among)
def token_among_k:Cuts Y (ParO Y token_among_o):= .nil
theorem token_among_ok:K8 12 (token_among_c):=f8 token_among_k Tryd.func12 (.cons strings_Contains_ok .nil) trivial
def token_IsWord(s:Str):Option (Bool×Unit):=(token_among [32,98,114,101,97,107,32,99,97,115,101,32,99,97,116,99,104,32,99,108,97,115,115,32,99,111,110,115,116,32,99,111,110,116,105,110,117,101,32,100,101,98,117,103,103,101,114,32,100,101,102,97,117,108,116,32,100,101,108,101,116,101,32,100,111,32,101,108,115,101,32,101,110,117,109,32,101,120,112,111,114,116,32,101,120,116,101,110,100,115,32,102,97,108,115,101,32,102,105,110,97,108,108,121,32,102,111,114,32,102,117,110,99,116,105,111,110,32,105,102,32,105,109,112,108,101,109,101,110,116,115,32,105,109,112,111,114,116,32,105,110,32,105,110,115,116,97,110,99,101,111,102,32,105,110,116,101,114,102,97,99,101,32,108,101,116,32,110,101,119,32,110,117,108,108,32,112,97,99,107,97,103,101,32,112,114,105,118,97,116,101,32,112,114,111,116,101,99,116,101,100,32,112,117,98,108,105,99,32,114,101,116,117,114,110,32,115,116,97,116,105,99,32,115,117,112,101,114,32,115,119,105,116,99,104,32,116,104,105,115,32,116,104,114,111,119,32,116,114,117,101,32,116,114,121,32,116,121,112,101,111,102,32,118,97,114,32,118,111,105,100,32,119,104,105,108,101,32,119,105,116,104,32,121,105,101,108,100,32] s).bind fun a=>some (a.1,())
def token_IsWord_s:Shape:=⟨[(0,.str)],[]⟩
def token_IsWord_o:List OutP:=[⟨false,.bool,[]⟩]
def token_IsWord_c:=callee Y [] token_IsWord_s token_IsWord_o (fun z=>token_IsWord z.1)
def token_IsWord_k:Cuts Y (ParO Y token_IsWord_o):= .nil
theorem token_IsWord_ok:K8 7 (token_IsWord_c):=f8 token_IsWord_k Tryd.func7 (.cons token_among_ok .nil) trivial
def strconv_lower(c:Int):Option (Int×Unit):=let a:=(IntKind.wrap .u8 ((BitVec.ofInt 8 c|||BitVec.ofInt 8 32).toNat));some (a,())
def strconv_lower_s:Shape:=⟨[(0,.int .u8)],[]⟩
def strconv_lower_o:List OutP:=[⟨false,.int .u8,[]⟩]
def strconv_lower_c:=callee Y [] strconv_lower_s strconv_lower_o (fun z=>strconv_lower z.1)
def strconv_lower_k:Cuts Y (ParO Y strconv_lower_o):= .nil
theorem strconv_lower_ok:K8 46 (strconv_lower_c):=f8 strconv_lower_k Tryd.func46 .nil trivial
def strconv_underscoreOK_j4(a:Str)(c:Int)(b:Int)(d:Bool):OT2:=(getB a b).bind fun e=>if(e==95)=true then if(c !=48)=true then some (.inr (false,()))else let f:=(IntKind.wrap .i64 (b+1));some (.inl (a,95,f,d,()))else if(c==95)=true then some (.inr (false,()))else let g:=(IntKind.wrap .i64 (b+1));some (.inl (a,33,g,d,()))
def strconv_underscoreOK_l3:Str×Int×Int×Bool×Unit→OT2| (a,d,b,c,())=>let e:=(decide (b< ((a.length:Nat):Int)));if e=true then(getB a b).bind fun f=>(if(decide (48≤f))=true then(getB a b).bind fun g=>some (decide (g≤57))else some false).bind fun h=>if h=true then let i:=(IntKind.wrap .i64 (b+1));some (.inl (a,48,i,c,()))else if c=true then(getB a b).bind fun j=>(strconv_lower j).bind fun k=>if(decide (97≤k.1))=true then(getB a b).bind fun l=>(strconv_lower l).bind fun m=>if(decide (m.1≤102))=true then let n:=(IntKind.wrap .i64 (b+1));some (.inl (a,48,n,c,()))else strconv_underscoreOK_j4 a d b c else strconv_underscoreOK_j4 a d b c else strconv_underscoreOK_j4 a d b c else some (.inr ((d !=95),()))
def strconv_underscoreOK_j2(a:Str)(b:Int)(c:Int)(d:Bool):Option (Bool×Unit):=let e:=(decide (((a.length:Nat):Int)≥2));(if e=true then(getB a 0).bind fun f=>some (f==48)else some false).bind fun g=>if g=true then(getB a 1).bind fun h=>(strconv_lower h).bind fun i=>if(i.1==98)=true then(getB a 1).bind fun j=>(strconv_lower j).bind fun k=>Lp.loop strconv_underscoreOK_l3 (a,48,2,(k.1==120),())else(getB a 1).bind fun l=>(strconv_lower l).bind fun m=>if(m.1==111)=true then(getB a 1).bind fun n=>(strconv_lower n).bind fun o=>Lp.loop strconv_underscoreOK_l3 (a,48,2,(o.1==120),())else(getB a 1).bind fun p=>(strconv_lower p).bind fun q=>if(q.1==120)=true then(getB a 1).bind fun r=>(strconv_lower r).bind fun s=>Lp.loop strconv_underscoreOK_l3 (a,48,2,(s.1==120),())else Lp.loop strconv_underscoreOK_l3 (a,b,c,d,())else Lp.loop strconv_underscoreOK_l3 (a,b,c,d,())
def strconv_underscoreOK_j1(a:Str)(b:Int)(c:Int):Option (Bool×Unit):=strconv_underscoreOK_j2 a b c false
def strconv_underscoreOK(s:Str):Option (Bool×Unit):=let a:=(decide (((s.length:Nat):Int)≥1));(if a=true then(getB s 0).bind fun b=>(if(b==45)=true then some true else(getB s 0).bind fun c=>some (c==43)).bind fun d=>some d else some false).bind fun e=>if e=true then(cutL s 1 ((s.length:Nat):Int)).bind fun f=>strconv_underscoreOK_j1 f 94 0 else strconv_underscoreOK_j1 s 94 0
def strconv_underscoreOK_s:Shape:=⟨[(0,.str)],[]⟩
def strconv_underscoreOK_o:List OutP:=[⟨false,.bool,[]⟩]
def strconv_underscoreOK_c:=callee Y [] strconv_underscoreOK_s strconv_underscoreOK_o (fun z=>strconv_underscoreOK z.1)
def strconv_underscoreOK_k:Cuts Y (ParO Y strconv_underscoreOK_o):=(.join [[1,2,2,2,2],[2,2,2,2,2]] ⟨[(0,.str),(3,.int .i32),(4,.int .i64)],[]⟩ (u3 strconv_underscoreOK_j1) (.join [[1,1,2,2,2,2,2],[2,1,2,2,2,2,2],[2,2,2,2,2,2]] ⟨[(0,.str),(3,.int .i32),(4,.int .i64),(5,.bool)],[]⟩ (u4 strconv_underscoreOK_j2) (.loop [[7,5,1,2,2,2,2,2,2],[8,5,1,2,2,2,2,2,2],[6,1,2,2,2,2,2,2],[2,2,2,2,2,2,2]] ⟨[(0,.str),(3,.int .i32),(4,.int .i64),(5,.bool)],[]⟩ (strconv_underscoreOK_l3) (.join [[1,1,2,5,1,2,7,5,1,2,2,2,2,2,2],[2,1,2,5,1,2,7,5,1,2,2,2,2,2,2],[2,2,5,1,2,7,5,1,2,2,2,2,2,2],[6,1,2,7,5,1,2,2,2,2,2,2],[2,2,7,5,1,2,2,2,2,2,2],[8,5,1,2,2,2,2,2,2],[6,1,2,2,2,2,2,2],[2,2,2,2,2,2,2]] ⟨[(0,.str),(3,.int .i32),(4,.int .i64),(5,.bool)],[]⟩ (u4 strconv_underscoreOK_j4) .nil) .nil)))
theorem strconv_underscoreOK_ok:K8 47 (strconv_underscoreOK_c):=f8 strconv_underscoreOK_k Tryd.func47 (.cons strconv_lower_ok .nil) ⟨fun z=>by kernel_rfl,⟨fun z=>by kernel_rfl,⟨fun z=>by kernel_rfl,⟨fun z=>by kernel_rfl,⟨⟩⟩,trivial⟩⟩⟩
def strconv_ParseUint_f40_j22(c:Int)(d:Bool)(e:Str)(f:Int)(a:Int)(g:Bool)(h:Int)(b:Int)(i:List UInt8)(j:Int)(k:Int):OT0:=let l:=((decide (b<h))||(decide (b>a)));if l=true then some (.inr (a,(GErr.code 77 1),()))else let m:=(IntKind.wrap .i64 (k+1));some (.inl (c,d,e,f,a,g,b,i,j,m,()))
def strconv_ParseUint_f40_j21(b:Int)(c:Bool)(d:Str)(e:Int)(f:Int)(g:Bool)(a:Int)(h:Int)(i:List UInt8)(j:Int)(k:Int):OT0:=let l:=(IntKind.wrap .u64 (a+(IntKind.wrap .u64 h)));strconv_ParseUint_f40_j22 b c d e f g a l i j k
def strconv_ParseUint_f40_j20(a:Int)(b:Bool)(c:Str)(d:Int)(e:Int)(f:Bool)(g:Int)(h:Int)(i:List UInt8)(j:Int)(k:Int):OT0:=let l:=(IntKind.wrap .u64 (g*(IntKind.wrap .u64 a)));strconv_ParseUint_f40_j21 a b c d e f l h i j k
def strconv_ParseUint_f40_j19(d:Int)(e:Bool)(f:Str)(a:Int)(b:Int)(g:Bool)(c:Int)(h:Int)(i:List UInt8)(j:Int)(k:Int):OT0:=if(decide (c≥a))=true then some (.inr (b,(GErr.code 77 1),()))else strconv_ParseUint_f40_j20 d e f a b g c h i j k
def strconv_ParseUint_f40_j18(a:Int)(c:Bool)(d:Str)(e:Int)(f:Int)(g:Bool)(h:Int)(b:Int)(i:List UInt8)(j:Int)(k:Int):OT0:=let l:=(decide (b≥(IntKind.wrap .u8 a)));if l=true then some (.inr (0,(GErr.code 77 2),()))else strconv_ParseUint_f40_j19 a c d e f g h b i j k
def strconv_ParseUint_f40_l17:Int×Bool×Str×Int×Int×Bool×Int×(List UInt8)×Int×Int×Unit→OT0| (h,d,e,i,j,k,b,f,g,c,())=>if(decide (c<g))=true then(getI f c).bind fun a=>let l:=(((a.toNat:Nat):Int)==95);if(l&&d)=true then let m:=(IntKind.wrap .i64 (c+1));some (.inl (h,d,e,i,j,true,b,f,g,m,()))else let n:=(decide (48≤((a.toNat:Nat):Int)));let o:=(n&&(decide (((a.toNat:Nat):Int)≤57)));if o=true then let p:=(IntKind.wrap .u8 (((a.toNat:Nat):Int) -48));strconv_ParseUint_f40_j18 h d e i j k b p f g c else(strconv_lower ((a.toNat:Nat):Int)).bind fun q=>if(decide (97≤q.1))=true then(strconv_lower ((a.toNat:Nat):Int)).bind fun r=>if(decide (r.1≤122))=true then(strconv_lower ((a.toNat:Nat):Int)).bind fun s=>let t:=(IntKind.wrap .u8 (s.1 -97));let u:=(IntKind.wrap .u8 (t+10));strconv_ParseUint_f40_j18 h d e i j k b u f g c else some (.inr (0,(GErr.code 77 2),()))else some (.inr (0,(GErr.code 77 2),()))else if k=true then(strconv_underscoreOK e).bind fun v=>if(!v.1)=true then some (.inr (0,(GErr.code 77 2),()))else some (.inr (b,GErr.nil,()))else some (.inr (b,GErr.nil,()))
def strconv_ParseUint_f40_j16(a:Str)(b:Int)(c:Int)(d:Bool)(e:Str):Option (Int×GErr×Unit):=(quoI .u64 18446744073709551615 (IntKind.wrap .u64 b)).bind fun f=>let g:=(IntKind.wrap .u64 (f+1));(shlI .u64 1 (IntKind.wrap .u64 c)).bind fun h=>let i:=(IntKind.wrap .u64 (h -1));let j:=((a.length:Nat):Int);Lp.loop strconv_ParseUint_f40_l17 (b,d,e,g,i,false,0,a,j,0,())
def strconv_ParseUint_f40_j15(a:Str)(b:Int)(c:Int)(d:Bool)(e:Str)(f:Int):Option (Int×GErr×Unit):=if(f==16)=true then(shlI .u64 1 (IntKind.wrap .u64 c)).bind fun g=>let h:=(IntKind.wrap .u64 (g -1));let i:=((a.length:Nat):Int);Lp.loop strconv_ParseUint_f40_l17 (b,d,e,1152921504606846976,h,false,0,a,i,0,())else strconv_ParseUint_f40_j16 a b c d e
def strconv_ParseUint_f40_j14(a:Str)(b:Int)(c:Int)(d:Bool)(e:Str)(f:Int):Option (Int×GErr×Unit):=if(f==10)=true then(shlI .u64 1 (IntKind.wrap .u64 c)).bind fun g=>let h:=(IntKind.wrap .u64 (g -1));Lp.loop strconv_ParseUint_f40_l17 (b,d,e,1844674407370955162,h,false,0,a,((a.length:Nat):Int),0,())else strconv_ParseUint_f40_j15 a b c d e f
def strconv_ParseUint_f40_j13(b:Str)(a:Int)(c:Int)(d:Bool)(e:Str):Option (Int×GErr×Unit):=strconv_ParseUint_f40_j14 b a c d e a
def strconv_ParseUint_f40_j12(a:Str)(b:Int)(c:Int)(d:Bool)(e:Str):Option (Int×GErr×Unit):=strconv_ParseUint_f40_j13 a b c d e
def strconv_ParseUint_f40_j11(b:Str)(c:Int)(a:Int)(d:Bool)(e:Str):Option (Int×GErr×Unit):=let f:=((decide (a<0))||(decide (a>64)));if f=true then some (0,(GErr.code 77 4),())else strconv_ParseUint_f40_j12 b c a d e
def strconv_ParseUint_f40_j10(a:Str)(b:Int)(c:Bool)(d:Str):Option (Int×GErr×Unit):=strconv_ParseUint_f40_j12 a b 64 c d
def strconv_ParseUint_f40_j9(a:Str)(b:Int)(c:Int)(d:Bool)(e:Str):Option (Int×GErr×Unit):=if(c==0)=true then strconv_ParseUint_f40_j10 a b d e else strconv_ParseUint_f40_j11 a b c d e
def strconv_ParseUint_f40_j8(a:Str)(b:Int)(c:Int)(d:Bool)(e:Str):Option (Int×GErr×Unit):=(cutL a 1 ((a.length:Nat):Int)).bind fun f=>strconv_ParseUint_f40_j9 f b c d e
def strconv_ParseUint_f40_j7(a:Str)(b:Int)(c:Bool)(d:Str):Option (Int×GErr×Unit):=strconv_ParseUint_f40_j8 a 8 b c d
def strconv_ParseUint_f40_j6(a:Str)(b:Int)(c:Int)(d:Bool)(e:Str):Option (Int×GErr×Unit):=(cutL a 2 ((a.length:Nat):Int)).bind fun f=>strconv_ParseUint_f40_j9 f b c d e
def strconv_ParseUint_f40_j5(a:Str)(b:Int)(c:Bool)(d:Str):Option (Int×GErr×Unit):=strconv_ParseUint_f40_j6 a 16 b c d
def strconv_ParseUint_f40_j4(a:Str)(b:Int)(c:Bool)(d:Str):Option (Int×GErr×Unit):=let e:=(decide (((a.length:Nat):Int)≥3));if e=true then(getB a 1).bind fun f=>(strconv_lower f).bind fun g=>if(g.1==120)=true then strconv_ParseUint_f40_j5 a b c d else strconv_ParseUint_f40_j7 a b c d else strconv_ParseUint_f40_j7 a b c d
def strconv_ParseUint_f40_j3(a:Str)(b:Int)(c:Int)(d:Bool)(e:Str):Option (Int×GErr×Unit):=(cutL a 2 ((a.length:Nat):Int)).bind fun f=>strconv_ParseUint_f40_j9 f b c d e
def strconv_ParseUint_f40_j2(a:Str)(b:Int)(c:Bool)(d:Str):Option (Int×GErr×Unit):=strconv_ParseUint_f40_j3 a 8 b c d
def strconv_ParseUint_f40_j1(a:Str)(b:Int)(c:Bool)(d:Str):Option (Int×GErr×Unit):=let e:=(decide (((a.length:Nat):Int)≥3));if e=true then(getB a 1).bind fun f=>(strconv_lower f).bind fun g=>if(g.1==111)=true then strconv_ParseUint_f40_j2 a b c d else strconv_ParseUint_f40_j4 a b c d else strconv_ParseUint_f40_j4 a b c d
def strconv_ParseUint_f40(t:Str)(o:Int)(A:Int):Option (Int×GErr×Unit):=if(t==[])=true then some (0,(GErr.code 77 2),())else let a:=((decide (2≤o))&&(decide (o≤36)));if a=true then strconv_ParseUint_f40_j9 t o A (o==0) t else if(o==0)=true then(getB t 0).bind fun b=>if(b==48)=true then let c:=(decide (((t.length:Nat):Int)≥3));if c=true then(getB t 1).bind fun d=>(strconv_lower d).bind fun e=>if(e.1==98)=true then(cutL t 2 ((t.length:Nat):Int)).bind fun f=>strconv_ParseUint_f40_j9 f 2 A (o==0) t else strconv_ParseUint_f40_j1 t A (o==0) t else strconv_ParseUint_f40_j1 t A (o==0) t else strconv_ParseUint_f40_j9 t 10 A (o==0) t else some (0,(GErr.code 77 3),())
def strconv_ParseUint_f40_s:Shape:=⟨[(0,.str),(1,.int .i64),(2,.int .i64)],[]⟩
def strconv_ParseUint_f40_o:List OutP:=[⟨false,.tup [.int .u64,.err],[]⟩]
def strconv_ParseUint_f40_c:=callee Y [] strconv_ParseUint_f40_s strconv_ParseUint_f40_o (u3 strconv_ParseUint_f40)
def strconv_ParseUint_f40_k:Cuts Y (ParO Y strconv_ParseUint_f40_o):=(.join [[1,4,2,5,3,2,2,3,2,4,2,5,1,2,2,2,2],[2,4,2,5,3,2,2,3,2,4,2,5,1,2,2,2,2],[6,3,2,2,3,2,4,2,5,1,2,2,2,2],[6,1,2,2,2,2],[2,2,2,2,2]] ⟨[(0,.str),(2,.int .i64),(8,.bool),(9,.str)],[]⟩ (u4 strconv_ParseUint_f40_j1) (.join [[1,3,2,4,2,5,3,2,2,3,2,4,2,5,1,2,2,2,2],[2,3,2,4,2,5,3,2,2,3,2,4,2,5,1,2,2,2,2],[6,3,2,2,3,2,4,2,5,1,2,2,2,2],[6,1,2,2,2,2],[2,2,2,2,2]] ⟨[(0,.str),(2,.int .i64),(8,.bool),(9,.str)],[]⟩ (u4 strconv_ParseUint_f40_j2) (.join [[2,3,2,4,2,5,3,2,2,3,2,4,2,5,1,2,2,2,2],[6,3,2,2,3,2,4,2,5,1,2,2,2,2],[6,1,2,2,2,2],[2,2,2,2,2]] ⟨[(0,.str),(1,.int .i64),(2,.int .i64),(8,.bool),(9,.str)],[]⟩ (u5 strconv_ParseUint_f40_j3) (.join [[1,4,2,4,2,5,3,2,2,3,2,4,2,5,1,2,2,2,2],[2,4,2,4,2,5,3,2,2,3,2,4,2,5,1,2,2,2,2],[6,3,2,2,3,2,4,2,5,1,2,2,2,2],[6,1,2,2,2,2],[2,2,2,2,2]] ⟨[(0,.str),(2,.int .i64),(8,.bool),(9,.str)],[]⟩ (u4 strconv_ParseUint_f40_j4) (.join [[1,3,2,4,2,4,2,5,3,2,2,3,2,4,2,5,1,2,2,2,2],[2,3,2,4,2,4,2,5,3,2,2,3,2,4,2,5,1,2,2,2,2],[6,3,2,2,3,2,4,2,5,1,2,2,2,2],[6,1,2,2,2,2],[2,2,2,2,2]] ⟨[(0,.str),(2,.int .i64),(8,.bool),(9,.str)],[]⟩ (u4 strconv_ParseUint_f40_j5) (.join [[2,3,2,4,2,4,2,5,3,2,2,3,2,4,2,5,1,2,2,2,2],[6,3,2,2,3,2,4,2,5,1,2,2,2,2],[6,1,2,2,2,2],[2,2,2,2,2]] ⟨[(0,.str),(1,.int .i64),(2,.int .i64),(8,.bool),(9,.str)],[]⟩ (u5 strconv_ParseUint_f40_j6) (.join [[1,4,2,4,2,4,2,5,3,2,2,3,2,4,2,5,1,2,2,2,2],[2,4,2,4,2,4,2,5,3,2,2,3,2,4,2,5,1,2,2,2,2],[6,3,2,2,3,2,4,2,5,1,2,2,2,2],[6,1,2,2,2,2],[2,2,2,2,2]] ⟨[(0,.str),(2,.int .i64),(8,.bool),(9,.str)],[]⟩ (u4 strconv_ParseUint_f40_j7) (.join [[2,4,2,4,2,4,2,5,3,2,2,3,2,4,2,5,1,2,2,2,2],[6,3,2,2,3,2,4,2,5,1,2,2,2,2],[6,1,2,2,2,2],[2,2,2,2,2]] ⟨[(0,.str),(1,.int .i64),(2,.int .i64),(8,.bool),(9,.str)],[]⟩ (u5 strconv_ParseUint_f40_j8) (.join [[1,1,2,2,2,2,2],[2,1,2,2,2,2,2],[2,2,2,2,2,2]] ⟨[(0,.str),(1,.int .i64),(2,.int .i64),(8,.bool),(9,.str)],[]⟩ (u5 strconv_ParseUint_f40_j9) (.join [[3,2,1,2,2,2,2,2],[2,2,2,2,2,2]] ⟨[(0,.str),(1,.int .i64),(8,.bool),(9,.str)],[]⟩ (u4 strconv_ParseUint_f40_j10) (.join [[1,4,2,1,2,2,2,2,2],[2,4,2,1,2,2,2,2,2],[2,2,2,2,2,2]] ⟨[(0,.str),(1,.int .i64),(2,.int .i64),(8,.bool),(9,.str)],[]⟩ (u5 strconv_ParseUint_f40_j11) (.join [[1,2,2,2,2,2,2],[2,2,2,2,2,2,2]] ⟨[(0,.str),(1,.int .i64),(2,.int .i64),(8,.bool),(9,.str)],[]⟩ (u5 strconv_ParseUint_f40_j12) (.join [[1,1,2,2,2,2,2,2,2],[2,1,2,2,2,2,2,2,2],[2,2,2,2,2,2,2,2]] ⟨[(0,.str),(1,.int .i64),(2,.int .i64),(8,.bool),(9,.str)],[]⟩ (u5 strconv_ParseUint_f40_j13) (.join [[1,5,2,1,2,2,2,2,2,2,2],[2,5,2,1,2,2,2,2,2,2,2],[6,2,1,2,2,2,2,2,2,2],[2,2,2,2,2,2,2,2]] ⟨[(0,.str),(1,.int .i64),(2,.int .i64),(8,.bool),(9,.str),(85,.int .i64)],[]⟩ (u6 strconv_ParseUint_f40_j14) (.join [[1,4,2,5,2,1,2,2,2,2,2,2,2],[2,4,2,5,2,1,2,2,2,2,2,2,2],[6,2,1,2,2,2,2,2,2,2],[2,2,2,2,2,2,2,2]] ⟨[(0,.str),(1,.int .i64),(2,.int .i64),(8,.bool),(9,.str),(85,.int .i64)],[]⟩ (u6 strconv_ParseUint_f40_j15) (.join [[4,2,4,2,5,2,1,2,2,2,2,2,2,2],[6,2,1,2,2,2,2,2,2,2],[2,2,2,2,2,2,2,2]] ⟨[(0,.str),(1,.int .i64),(2,.int .i64),(8,.bool),(9,.str)],[]⟩ (u5 strconv_ParseUint_f40_j16) (.loop [[7,5,2,1,2,2,2,2,2,2,2,2,2,2,2],[8,5,2,1,2,2,2,2,2,2,2,2,2,2,2],[6,2,1,2,2,2,2,2,2,2,2,2,2,2],[2,2,2,2,2,2,2,2,2,2,2,2]] ⟨[(1,.int .i64),(8,.bool),(9,.str),(10,.int .u64),(11,.int .u64),(12,.bool),(13,.int .u64),(99,.sl 5),(100,.int .i64),(101,.int .i64)],[]⟩ (strconv_ParseUint_f40_l17) (.join [[1,1,2,2,2,5,1,2,2,7,5,2,1,2,2,2,2,2,2,2,2,2,2,2],[2,1,2,2,2,5,1,2,2,7,5,2,1,2,2,2,2,2,2,2,2,2,2,2],[2,2,2,2,5,1,2,2,7,5,2,1,2,2,2,2,2,2,2,2,2,2,2],[6,1,2,2,7,5,2,1,2,2,2,2,2,2,2,2,2,2,2],[2,2,2,7,5,2,1,2,2,2,2,2,2,2,2,2,2,2],[8,5,2,1,2,2,2,2,2,2,2,2,2,2,2],[6,2,1,2,2,2,2,2,2,2,2,2,2,2],[2,2,2,2,2,2,2,2,2,2,2,2]] ⟨[(1,.int .i64),(8,.bool),(9,.str),(10,.int .u64),(11,.int .u64),(12,.bool),(13,.int .u64),(16,.int .u8),(99,.sl 5),(100,.int .i64),(101,.int .i64)],[]⟩ (u11 strconv_ParseUint_f40_j18) (.join [[1,1,2,2,2,2,5,1,2,2,7,5,2,1,2,2,2,2,2,2,2,2,2,2,2],[2,1,2,2,2,2,5,1,2,2,7,5,2,1,2,2,2,2,2,2,2,2,2,2,2],[2,2,2,2,2,5,1,2,2,7,5,2,1,2,2,2,2,2,2,2,2,2,2,2],[6,1,2,2,7,5,2,1,2,2,2,2,2,2,2,2,2,2,2],[2,2,2,7,5,2,1,2,2,2,2,2,2,2,2,2,2,2],[8,5,2,1,2,2,2,2,2,2,2,2,2,2,2],[6,2,1,2,2,2,2,2,2,2,2,2,2,2],[2,2,2,2,2,2,2,2,2,2,2,2]] ⟨[(1,.int .i64),(8,.bool),(9,.str),(10,.int .u64),(11,.int .u64),(12,.bool),(13,.int .u64),(16,.int .u8),(99,.sl 5),(100,.int .i64),(101,.int .i64)],[]⟩ (u11 strconv_ParseUint_f40_j19) (.join [[1,2,2,2,2,2,5,1,2,2,7,5,2,1,2,2,2,2,2,2,2,2,2,2,2],[2,2,2,2,2,2,5,1,2,2,7,5,2,1,2,2,2,2,2,2,2,2,2,2,2],[6,1,2,2,7,5,2,1,2,2,2,2,2,2,2,2,2,2,2],[2,2,2,7,5,2,1,2,2,2,2,2,2,2,2,2,2,2],[8,5,2,1,2,2,2,2,2,2,2,2,2,2,2],[6,2,1,2,2,2,2,2,2,2,2,2,2,2],[2,2,2,2,2,2,2,2,2,2,2,2]] ⟨[(1,.int .i64),(8,.bool),(9,.str),(10,.int .u64),(11,.int .u64),(12,.bool),(13,.int .u64),(16,.int .u8),(99,.sl 5),(100,.int .i64),(101,.int .i64)],[]⟩ (u11 strconv_ParseUint_f40_j20) (.join [[1,2,2,2,2,2,2,5,1,2,2,7,5,2,1,2,2,2,2,2,2,2,2,2,2,2],[2,2,2,2,2,2,2,5,1,2,2,7,5,2,1,2,2,2,2,2,2,2,2,2,2,2],[6,1,2,2,7,5,2,1,2,2,2,2,2,2,2,2,2,2,2],[2,2,2,7,5,2,1,2,2,2,2,2,2,2,2,2,2,2],[8,5,2,1,2,2,2,2,2,2,2,2,2,2,2],[6,2,1,2,2,2,2,2,2,2,2,2,2,2],[2,2,2,2,2,2,2,2,2,2,2,2]] ⟨[(1,.int .i64),(8,.bool),(9,.str),(10,.int .u64),(11,.int .u64),(12,.bool),(13,.int .u64),(16,.int .u8),(99,.sl 5),(100,.int .i64),(101,.int .i64)],[]⟩ (u11 strconv_ParseUint_f40_j21) (.join [[1,1,2,2,2,2,2,2,2,5,1,2,2,7,5,2,1,2,2,2,2,2,2,2,2,2,2,2],[2,1,2,2,2,2,2,2,2,5,1,2,2,7,5,2,1,2,2,2,2,2,2,2,2,2,2,2],[2,2,2,2,2,2,2,2,5,1,2,2,7,5,2,1,2,2,2,2,2,2,2,2,2,2,2],[6,1,2,2,7,5,2,1,2,2,2,2,2,2,2,2,2,2,2],[2,2,2,7,5,2,1,2,2,2,2,2,2,2,2,2,2,2],[8,5,2,1,2,2,2,2,2,2,2,2,2,2,2],[6,2,1,2,2,2,2,2,2,2,2,2,2,2],[2,2,2,2,2,2,2,2,2,2,2,2]] ⟨[(1,.int .i64),(8,.bool),(9,.str),(10,.int .u64),(11,.int .u64),(12,.bool),(13,.int .u64),(17,.int .u64),(99,.sl 5),(100,.int .i64),(101,.int .i64)],[]⟩ (u11 strconv_ParseUint_f40_j22) .nil))))) .nil)))))))))))))))))
theorem strconv_ParseUint_f40_ok:K8 40 (strconv_ParseUint_f40_c):=f8 strconv_ParseUint_f40_k Tryd.func40 (.cons strconv_lower_ok (.cons strconv_underscoreOK_ok .nil)) ⟨fun z=>by kernel_rfl,⟨fun z=>by kernel_rfl,⟨fun z=>by kernel_rfl,⟨fun z=>by kernel_rfl,⟨fun z=>by kernel_rfl,⟨fun z=>by kernel_rfl,⟨fun z=>by kernel_rfl,⟨fun z=>by kernel_rfl,⟨fun z=>by kernel_rfl,⟨fun z=>by kernel_rfl,⟨fun z=>by kernel_rfl,⟨fun z=>by kernel_rfl,⟨fun z=>by kernel_rfl,⟨fun z=>by kernel_rfl,⟨fun z=>by kernel_rfl,⟨fun z=>by kernel_rfl,⟨fun z=>by kernel_rfl,⟨fun z=>by kernel_rfl,⟨fun z=>by kernel_rfl,⟨fun z=>by kernel_rfl,⟨fun z=>by kernel_rfl,⟨fun z=>by kernel_rfl,⟨⟩⟩⟩⟩⟩⟩,trivial⟩⟩⟩⟩⟩⟩⟩⟩⟩⟩⟩⟩⟩⟩⟩⟩⟩
def strconv_toError(f_ s_:Str)(base bits:Int)(a:GErr):Option (GErr×Unit):=if s_.length≤281474976710656∧(a= .code 77 2∨a= .code 77 1)then some (.opq,())else none
def strconv_toError_s:Shape:=⟨[(0,.str),(1,.str),(2,.int .i64),(3,.int .i64),(4,.err)],[]⟩
def strconv_toError_o:List OutP:=[⟨false,.err,[]⟩]
def strconv_toError_c:=callee Y [] strconv_toError_s strconv_toError_o (fun z=>strconv_toError z.1 z.2.1 z.2.2.1 z.2.2.2.1 z.2.2.2.2.1)
theorem strconv_toError_calls(f_ s_:Str)(base bits:Int)(er:GErr)(q:TypeId×Value)(r:GErr×Unit)(hN:strconv_toError f_ s_ base bits er=some r)(w:World)(F:Heap)(hv:F.Sub w)(hG:Glob F):
  Calls Tryd.prog 41 #[.string ⟨⟨f_⟩⟩,.string ⟨⟨s_⟩⟩,.int .i64 base,.int .i64 bits,errV er q] w (Ret0 w F fun s=>∃q,s= .v (errV r.1 q)):=by
 unfold strconv_toError at hN
 split at hN
 ·rename_i hc
  cases hN
  obtain⟨hc,rfl|rfl⟩:=hc
  ·obtain⟨te,pe,hm⟩:=hG.err1
   refine(Tryd.strconv_toError_syntax ⟨⟨f_⟩⟩ ⟨⟨s_⟩⟩ base bits _ w hc (cellF_read hv hm) (.inr ⟨te,pe,rfl⟩)).mono fun e w' h=>?_
   obtain⟨n,h1,_,_,h2⟩:=h
   exact Ret0.below (s:= .v (.iface _ (.pointer (some ⟨n,0,none⟩)))) hv h1 h2 trivial rfl ⟨(_,_),rfl⟩
  ·obtain⟨te,pe,hm⟩:=hG.err2
   refine(Tryd.strconv_toError_range ⟨⟨f_⟩⟩ ⟨⟨s_⟩⟩ base bits _ w hc (cellF_read hv hm) (.inr ⟨te,pe,rfl⟩)).mono fun e w' h=>?_
   obtain⟨n,h1,_,_,h2⟩:=h
   exact Ret0.below (s:= .v (.iface _ (.pointer (some ⟨n,0,none⟩)))) hv h1 h2 trivial rfl ⟨(_,_),rfl⟩
 ·cases hN
theorem strconv_toError_ok:K8 41 strconv_toError_c:=
 COk.extR (l:=strconv_toError_s.l) ⟨⟨_,Tryd.func41,by kernel_rfl,rfl⟩⟩ ⟨rfl,rfl⟩ rfl fun z zo h w F vals hG hv hr=>by
  obtain⟨u1,r1,rfl,q1,hr⟩:=hr.inv
  obtain⟨u2,r2,rfl,q2,hr⟩:=hr.inv
  obtain⟨u3,r3,rfl,q3,hr⟩:=hr.inv
  obtain⟨u4,r4,rfl,q4,hr⟩:=hr.inv
  obtain⟨u5,r5,rfl,q5,hr⟩:=hr.inv
  have hnil:=hr.nil_inv
  subst hnil
  have e1:=q1.v_inv
  have e2:=q2.v_inv
  have e3:=q3.v_inv
  have e4:=q4.v_inv
  subst e1
  subst e2
  subst e3
  subst e4
  have key: ∀(e:GErr) (u:Value),Rel Y F [] (.err e) u→∃q,u=errV e q:=fun e u h=>by cases h with| @err e q=>exact⟨q,rfl⟩
  obtain⟨q,rfl⟩:=key _ _ q5
  refine(strconv_toError_calls z.1 z.2.1 z.2.2.1 z.2.2.2.1 z.2.2.2.2.1 q zo h w F hv hG).mono fun e w' hh=>?_
  obtain⟨F',s,rfl,hgs,hu,hst,q,rfl⟩:=hh
  exact⟨F',_,rfl,.err,hst⟩
def strconv_ParseUint(s:Str)(b:Int)(c:Int):Option (Int×GErr×Unit):=(strconv_ParseUint_f40 s b c).bind fun a=>if(!(a.2.1).isNil)=true then(strconv_toError [80,97,114,115,101,85,105,110,116] s b c a.2.1).bind fun d=>some (a.1,d.1,())else some (a.1,GErr.nil,())
def strconv_ParseUint_s:Shape:=⟨[(0,.str),(1,.int .i64),(2,.int .i64)],[]⟩
def strconv_ParseUint_o:List OutP:=[⟨false,.tup [.int .u64,.err],[]⟩]
def strconv_ParseUint_c:=callee Y [] strconv_ParseUint_s strconv_ParseUint_o (u3 strconv_ParseUint)
def strconv_ParseUint_k:Cuts Y (ParO Y strconv_ParseUint_o):= .nil
theorem strconv_ParseUint_ok:K8 30 (strconv_ParseUint_c):=f8 strconv_ParseUint_k Tryd.func30 (.cons strconv_ParseUint_f40_ok (.cons strconv_toError_ok .nil)) trivial
def token_cutter_number(x:T_token_cutter):Option (Int×Int×T_token_cutter×Unit):=(token_row x.rest).bind fun b=>let f:=((x.rest.length:Nat):Int);(if(decide (b.1<f))=true then(getB x.rest b.1).bind fun g=>some (g==46)else some false).bind fun h=>if h=true then some (0,0,(re33 x),())else(cutL x.rest 0 b.1).bind fun a=>let i:=(decide (((a.length:Nat):Int)>2));(if i=true then(cutL a 0 2).bind fun j=>(if(j==[48,120])=true then some true else(cutL a 0 2).bind fun k=>some (k==[48,88])).bind fun l=>some l else some false).bind fun m=>if m=true then(cutL a 2 ((a.length:Nat):Int)).bind fun c=>(strconv_ParseUint c 16 53).bind fun d=>if(!(d.2.1).isNil)=true then some (0,0,(re33 x),())else(strings_Contains c [95]).bind fun n=>if n.1=true then some (0,0,(re33 x),())else some ((IntKind.wrap .i64 d.1),b.1,(re33 x),())else let o:=(decide (((a.length:Nat):Int)>1));(if o=true then(getB a 0).bind fun p=>some (p==48)else some false).bind fun q=>if q=true then some (0,0,(re33 x),())else(strconv_ParseUint a 10 53).bind fun e=>if(!(e.2.1).isNil)=true then some (0,0,(re33 x),())else(strings_Contains a [95]).bind fun r=>if r.1=true then some (0,0,(re33 x),())else some ((IntKind.wrap .i64 e.1),b.1,(re33 x),())
def token_cutter_number_s:Shape:=⟨[(0,.ptr 0 0)],[.whole 33 33]⟩
def token_cutter_number_o:List OutP:=[⟨false,.tup [.int .i64,.int .i64],[.whole 33 33]⟩]
def token_cutter_number_c:=callee Y [] token_cutter_number_s token_cutter_number_o (fun z=>token_cutter_number z.1)
def token_cutter_number_k:Cuts Y (ParO Y token_cutter_number_o):= .nil
theorem token_cutter_number_ok:K8 20 (token_cutter_number_c):=f8 token_cutter_number_k Tryd.func20 (.cons token_row_ok (.cons strconv_ParseUint_ok (.cons strings_Contains_ok .nil))) trivial
def strings_Builder_String_c:Dn.Callee Y:=strC Y 5
theorem strings_Builder_String_ok:K8 31 strings_Builder_String_c:=strC_ok Tryd.lays169 Tryd.Builder_Extra_169 ⟨⟨_,Tryd.func31,by kernel_rfl,rfl⟩⟩ hsz
def strings_IndexByte_x(a:Str)(c:Int):Option (Int):=some (Lib.indexByte a c.toNat.toUInt8)
theorem strings_IndexByte_x.ok(s_:Str)(c:Int)(r:Int)(h0:strings_IndexByte_x s_ c=some r)(w0:World)(F0:Heap)(hv:F0.Sub w0)(hG:Glob F0)(hg:SV.goods F0 [.v (.string ⟨⟨s_⟩⟩),.v (.int .u8 c)])(ρ:Nat→Nat):
  Calls Tryd.prog 22 (SV.dens ρ [.v (.string ⟨⟨s_⟩⟩),.v (.int .u8 c)]).toArray w0 (Ret0 w0 F0 fun s=>s= .v (.int .i64 r)):=by
 refine(Tryd.strings_IndexByte ⟨⟨s_⟩⟩ c w0).mono fun e w' h=>?_
 cases h0
 exact Ret0.pure (s:= .v _) hv h.1 h.2 trivial rfl rfl
def strings_IndexByte(a:Str)(c:Int):Option (Int×Unit):=mapO (fun r=>(r,())) (strings_IndexByte_x a c)
def strings_IndexByte_s:Shape:=⟨[(0,.str),(1,.int .u8)],[]⟩
def strings_IndexByte_o:List OutP:=[⟨false,.int .i64,[]⟩]
def strings_IndexByte_c:=callee Y [] strings_IndexByte_s strings_IndexByte_o (fun z=>strings_IndexByte z.1 z.2.1)
theorem strings_IndexByte_ok:K8 22 strings_IndexByte_c:=
 COk.ext (l:=strings_IndexByte_s.l) ⟨⟨_,Tryd.func22,by kernel_rfl,rfl⟩⟩ ⟨rfl,rfl⟩ rfl fun z zo h=>⟨_,_,rfl,rfl,fun w F hG hv=>by
  obtain⟨r,hr,rfl⟩:=mapO_some h
  exact strings_IndexByte_x.ok z.1 z.2.1 r hr w F hv hG (by simp[SV.goods,SV.good]) (fun _=>0)⟩
def units_unit(n:Int):Option (Str×Unit):=let a:=(IntKind.wrap .u8 (Int.fdiv n (2^8)));(toB a).bind fun b=>(toB (IntKind.wrap .u8 n)).bind fun c=>some (([b,c]:List UInt8),())
def units_unit_s:Shape:=⟨[(0,.int .i64)],[]⟩
def units_unit_o:List OutP:=[⟨false,.str,[]⟩]
def units_unit_c:=callee Y [] units_unit_s units_unit_o (fun z=>units_unit z.1)
def units_unit_k:Cuts Y (ParO Y units_unit_o):= .nil
theorem units_unit_ok:K8 34 (units_unit_c):=f8 units_unit_k Tryd.func34 .nil trivial
def strings_Builder_copyCheck_c:Dn.Callee Y:=copyC Y Tryd.prog 61
theorem strings_Builder_copyCheck_ok:K8 43 strings_Builder_copyCheck_c:=copyC_ok Tryd.lays240 Tryd.Builder_X_240 ⟨⟨_,Tryd.func43,by kernel_rfl,rfl⟩⟩
def strings_Builder_WriteString(s:Str)(b:Str)(l:List UInt8):Option (Int×GErr×Str×(List UInt8)×Unit):=(room (l.length+s.length)).bind fun _=>let a:=l++s;some (((s.length:Nat):Int),GErr.nil,b,a,())
def strings_Builder_WriteString_s:Shape:=⟨[(0,.ptr 0 1),(1,.str)],[oc0 1,.arr 5]⟩
def strings_Builder_WriteString_o:List OutP:=[⟨false,.tup [.int .i64,.err],[oc0 1,.arr 5]⟩]
def strings_Builder_WriteString_c:=callee Y [] strings_Builder_WriteString_s strings_Builder_WriteString_o (u3 strings_Builder_WriteString)
def strings_Builder_WriteString_k:Cuts Y (ParO Y strings_Builder_WriteString_o):= .nil
theorem strings_Builder_WriteString_ok:K8 33 (strings_Builder_WriteString_c):=f8 strings_Builder_WriteString_k Tryd.func33 (.cons strings_Builder_copyCheck_ok .nil) trivial
def strings_Trim_x(t:Str)(a:Str):Option (Str):=if t.length<4294967281∧a.length<4294967281∧a.all (fun b=>decide (b.toNat<128))=true then some (Lib.trimS t a)else none
theorem strings_Trim_x.ok(t:Str)(cs:Str)(r:Str)(h0:strings_Trim_x t cs=some r)(w0:World)(F0:Heap)(hv:F0.Sub w0)(hG:Glob F0)(hg:SV.goods F0 [.v (.string ⟨⟨t⟩⟩),.v (.string ⟨⟨cs⟩⟩)])(ρ:Nat→Nat):
  Calls Tryd.prog 52 (SV.dens ρ [.v (.string ⟨⟨t⟩⟩),.v (.string ⟨⟨cs⟩⟩)]).toArray w0 (Ret0 w0 F0 fun s=>s= .v (.string ⟨⟨r⟩⟩)):=by
 unfold strings_Trim_x at h0
 split at h0
 ·rename_i hc
  cases h0
  refine(Any.strings_Trim_ascii Tryd.lays160 (zeroValue_of (z:= .agg (Array.replicate 256 (.bool false))) (by kernel_rfl)) (by kernel_rfl) ⟨⟨t⟩⟩ ⟨⟨cs⟩⟩ w0 (Nat.le_of_lt (Nat.lt_trans hc.1 (by decide))) hc.2.1 (fun j b hb=>by have:=List.all_eq_true.1 hc.2.2 b (List.mem_of_getElem? hb);simpa using this)).mono fun e w' h=>?_
  exact Ret0.below (s:= .v (.string ⟨⟨_⟩⟩)) hv h.1 h.2 trivial rfl rfl
 ·cases h0
def strings_Trim(t:Str)(a:Str):Option (Str×Unit):=mapO (fun r=>(r,())) (strings_Trim_x t a)
def strings_Trim_s:Shape:=⟨[(0,.str),(1,.str)],[]⟩
def strings_Trim_o:List OutP:=[⟨false,.str,[]⟩]
def strings_Trim_c:=callee Y [] strings_Trim_s strings_Trim_o (fun z=>strings_Trim z.1 z.2.1)
theorem strings_Trim_ok:K8 52 strings_Trim_c:=
 COk.ext (l:=strings_Trim_s.l) ⟨⟨_,Tryd.func52,by kernel_rfl,rfl⟩⟩ ⟨rfl,rfl⟩ rfl fun z zo h=>⟨_,_,rfl,rfl,fun w F hG hv=>by
  obtain⟨r,hr,rfl⟩:=mapO_some h
  exact strings_Trim_x.ok z.1 z.2.1 r hr w F hv hG (by simp[SV.goods,SV.good]) (fun _=>0)⟩
def units_reader_digits(a:Int)(s:Str)(l:List UInt8):Option (Bool×Str×(List UInt8)×Unit):=let c:=(decide (((s.length:Nat):Int)<a));if c=true then some (false,s,l,())else(cutL s 0 a).bind fun d=>(strings_Trim d [48,49,50,51,52,53,54,55,56,57,97,98,99,100,101,102,65,66,67,68,69,70]).bind fun e=>if(!(e.1==[]))=true then some (false,s,l,())else(cutL s 0 a).bind fun f=>(strconv_ParseUint f 16 16).bind fun g=>(cutL s a ((s.length:Nat):Int)).bind fun h=>(units_unit (IntKind.wrap .i64 g.1)).bind fun i=>(strings_Builder_WriteString i.1 h l).bind fun b=>some (true,b.2.2.1,b.2.2.2.1,())
def units_reader_digits_s:Shape:=⟨[(0,.ptr 0 0),(1,.int .i64)],[oc0 1,.arr 5]⟩
def units_reader_digits_o:List OutP:=[⟨false,.bool,[oc0 1,.arr 5]⟩]
def units_reader_digits_c:=callee Y [] units_reader_digits_s units_reader_digits_o (u3 units_reader_digits)
def units_reader_digits_k:Cuts Y (ParO Y units_reader_digits_o):= .nil
theorem units_reader_digits_ok:K8 42 (units_reader_digits_c):=f8 units_reader_digits_k Tryd.func42 (.cons strings_Trim_ok (.cons strconv_ParseUint_ok (.cons units_unit_ok (.cons strings_Builder_WriteString_ok .nil)))) trivial
def units_reader_escape(s:Str)(l:List UInt8):Option (Bool×Str×(List UInt8)×Unit):=if(s==[])=true then some (false,s,l,())else(getB s 0).bind fun a=>(cutL s 1 ((s.length:Nat):Int)).bind fun b=>(strings_IndexByte [110,116,114,98,102,118] a).bind fun f=>if(decide (f.1≥0))=true then(getB [10,9,13,8,12,11] f.1).bind fun i=>(units_unit (IntKind.wrap .i64 i)).bind fun j=>(strings_Builder_WriteString j.1 b l).bind fun g=>some (true,g.2.2.1,g.2.2.2.1,())else if(a==10)=true then some (true,b,l,())else if(a==120)=true then(units_reader_digits 2 b l).bind fun d=>some (d.1,d.2.1,d.2.2.1,())else if(a==117)=true then(units_reader_digits 4 b l).bind fun e=>some (e.1,e.2.1,e.2.2.1,())else if(a==48)=true then(units_unit 0).bind fun k=>(strings_Builder_WriteString k.1 b l).bind fun c=>(if(c.2.2.1==[])=true then some true else(getB c.2.2.1 0).bind fun m=>some (decide (m<48))).bind fun n=>(if n=true then some true else(getB c.2.2.1 0).bind fun o=>some (decide (o>57))).bind fun p=>some (p,c.2.2.1,c.2.2.2.1,())else let q:=((a==13)||((decide (a≥49))&&(decide (a≤57))));let r:=(q||(decide (a≥128)));if r=true then some (false,b,l,())else(units_unit (IntKind.wrap .i64 a)).bind fun t=>(strings_Builder_WriteString t.1 b l).bind fun h=>some (true,h.2.2.1,h.2.2.2.1,())
def units_reader_escape_s:Shape:=⟨[(0,.ptr 0 0)],[oc0 1,.arr 5]⟩
def units_reader_escape_o:List OutP:=[⟨false,.bool,[oc0 1,.arr 5]⟩]
def units_reader_escape_c:=callee Y [] units_reader_escape_s units_reader_escape_o (u2 units_reader_escape)
def units_reader_escape_k:Cuts Y (ParO Y units_reader_escape_o):= .nil
theorem units_reader_escape_ok:K8 32 (units_reader_escape_c):=f8 units_reader_escape_k Tryd.func32 (.cons strings_IndexByte_ok (.cons units_unit_ok (.cons strings_Builder_WriteString_ok (.cons units_reader_digits_ok .nil)))) trivial
def units_Read_l1:Str×Str×(List UInt8)×Unit→Option ((Str×Str×(List UInt8)×Unit)⊕(Str×Int×Int×Unit))| (b,d,e,())=>if(!(d==[]))=true then(getB d 0).bind fun a=>(cutL d 1 ((d.length:Nat):Int)).bind fun f=>(getB b 0).bind fun i=>if(a==i)=true then fd (let j:=(IntKind.wrap .i64 (((b.length:Nat):Int) - ((f.length:Nat):Int)));some (.inr (e,j,0,())))else let k:=((a==10)||(a==13));let l:=(k||(decide (a≥128)));if l=true then some (.inr ([],0,10,()))else if(a==92)=true then(units_reader_escape f e).bind fun c=>if(!c.1)=true then some (.inr ([],0,10,()))else if(a !=92)=true then(units_unit (IntKind.wrap .i64 a)).bind fun m=>(strings_Builder_WriteString m.1 c.2.1 c.2.2.1).bind fun g=>some (.inl (b,g.2.2.1,g.2.2.2.1,()))else some (.inl (b,c.2.1,c.2.2.1,()))else if(a !=92)=true then(units_unit (IntKind.wrap .i64 a)).bind fun n=>(strings_Builder_WriteString n.1 f e).bind fun h=>some (.inl (b,h.2.2.1,h.2.2.2.1,()))else some (.inl (b,f,e,()))else some (.inr ([],0,10,()))
def units_Read(s:Str):Option (Str×Int×Int×Unit):=(if(s==[])=true then some true else(getB s 0).bind fun a=>(if(a !=39)=true then(getB s 0).bind fun b=>some (b !=34)else some false).bind fun c=>some c).bind fun d=>if d=true then some ([],0,10,())else(cutL s 1 ((s.length:Nat):Int)).bind fun e=>Lp.loop units_Read_l1 (s,e,[],())
def units_Read_s:Shape:=⟨[(0,.str)],[]⟩
def units_Read_o:List OutP:=[⟨false,.tup [.str,.int .i64,.int .i64],[]⟩]
def units_Read_c:=callee Y [] units_Read_s units_Read_o (fun z=>units_Read z.1)
def units_Read_k:Cuts Y (ParO Y units_Read_o):=(.loop [[7,5,1,2,2,2],[8,5,1,2,2,2],[6,1,2,2,2],[2,2,2,2]] ⟨[(0,.str),(5,.ptr 0 0)],[oc0 1,.arr 5]⟩ (units_Read_l1) .nil .nil)
theorem units_Read_ok:K8 21 (units_Read_c):=f8 units_Read_k Tryd.func21 (.cons strings_Builder_String_ok (.cons units_reader_escape_ok (.cons units_unit_ok (.cons strings_Builder_WriteString_ok .nil)))) ⟨fun z=>by kernel_rfl,trivial,trivial⟩
def token_cutter_one_j2(b:Int)(d:Str)(e:Int)(c:T_token_cutter)(a:T_api_Token):Option (T_api_Token×Int×T_token_cutter×Unit):=(strings_IndexByte [123,125,40,41,91,93,46,59,44,60,62,43,45,42,47,37,33,63,58,61] e).bind fun f=>if(decide (f.1≥0))=true then(cutL d 0 1).bind fun g=>some (⟨5,g,a.Num,a.At,a.Fresh⟩,1,(re33 c),())else if(a.Kind==5)=true then(cutL d 0 b).bind fun h=>some (⟨a.Kind,h,a.Num,a.At,a.Fresh⟩,b,(re33 c),())else some ((re28 a),b,(re33 c),())
def token_cutter_one_j1(d:Int)(a:Str)(e:Int)(c:T_token_cutter)(b:T_api_Token):Option (T_api_Token×Int×T_token_cutter×Unit):=let f:=(decide (((a.length:Nat):Int)>1));if f=true then(cutL a 0 2).bind fun g=>(token_among [32,60,61,32,62,61,32,61,61,32,33,61,32,43,43,32,45,45,32,38,38,32,124,124,32,43,61,32,45,61,32,42,61,32,47,61,32,37,61,32] g).bind fun h=>if h.1=true then(cutL a 0 2).bind fun i=>some (⟨5,i,b.Num,b.At,b.Fresh⟩,2,(re33 c),())else token_cutter_one_j2 d a e (re33 c) (re28 b)else token_cutter_one_j2 d a e (re33 c) (re28 b)
def token_cutter_one(x:T_token_cutter):Option (T_api_Token×Int×T_token_cutter×Unit):=(getB x.rest 0).bind fun a=>(token_letter a).bind fun f=>if f.1=true then(token_row x.rest).bind fun b=>if(decide (b.1>32))=true then some (⟨0,[],0,0,false⟩,0,(re33 x),())else(cutL x.rest 0 b.1).bind fun c=>(token_IsWord c).bind fun g=>if g.1=true then some (⟨2,c,0,0,false⟩,b.1,(re33 x),())else some (⟨1,c,0,0,false⟩,b.1,(re33 x),())else(token_digit a).bind fun h=>if h.1=true then(token_cutter_number (re33 x)).bind fun d=>some (⟨3,[],d.1,0,false⟩,d.2.1,(re33 d.2.2.1),())else let i:=((a==39)||(a==34));if i=true then(units_Read x.rest).bind fun e=>some (⟨4,e.1,0,0,false⟩,e.2.1,(re33 x),())else let j:=((x.rest.length:Nat):Int);if(decide (j>2))=true then(cutL x.rest 0 3).bind fun k=>(token_among [32,61,61,61,32,33,61,61,32] k).bind fun l=>if l.1=true then(cutL x.rest 0 3).bind fun m=>some (⟨5,m,0,0,false⟩,3,(re33 x),())else token_cutter_one_j1 0 x.rest a (re33 x) ⟨0,[],0,0,false⟩else token_cutter_one_j1 0 x.rest a (re33 x) ⟨0,[],0,0,false⟩
def token_cutter_one_s:Shape:=⟨[(0,.ptr 0 0)],[.whole 33 33]⟩
def token_cutter_one_o:List OutP:=[⟨false,.tup [.st 28,.int .i64],[.whole 33 33]⟩]
def token_cutter_one_c:=callee Y [] token_cutter_one_s token_cutter_one_o (fun z=>token_cutter_one z.1)
def token_cutter_one_k:Cuts Y (ParO Y token_cutter_one_o):=(.join [[1,4,2,4,2,4,2,4,2,5,2,1,2,2],[2,4,2,4,2,4,2,4,2,5,2,1,2,2],[6,2,1,2,2],[2,2,2]] ⟨[(2,.ptr 1 0),(3,.int .i64),(4,.str),(5,.int .u8)],[.whole 33 33,.whole 28 28]⟩ (u5 token_cutter_one_j1) (.join [[1,4,2,4,2,4,2,4,2,4,2,5,2,1,2,2],[2,4,2,4,2,4,2,4,2,4,2,5,2,1,2,2],[6,2,1,2,2],[2,2,2]] ⟨[(2,.ptr 1 0),(3,.int .i64),(4,.str),(5,.int .u8)],[.whole 33 33,.whole 28 28]⟩ (u5 token_cutter_one_j2) .nil))
theorem token_cutter_one_ok:K8 11 (token_cutter_one_c):=f8 token_cutter_one_k Tryd.func11 (.cons token_letter_ok (.cons token_row_ok (.cons token_IsWord_ok (.cons token_digit_ok (.cons token_cutter_number_ok (.cons units_Read_ok (.cons token_among_ok (.cons strings_IndexByte_ok .nil)))))))) ⟨fun z=>by kernel_rfl,⟨fun z=>by kernel_rfl,⟨⟩⟩⟩
def token_Cut_l1:Str×T_token_cutter×(List T_api_Token)×Unit→Option ((Str×T_token_cutter×(List T_api_Token)×Unit)⊕((Int×Int×(List T_api_Token)×Unit)⊕(Int×Int×Unit)))| (c,f,d,())=>(token_cutter_blanks (re33 f)).bind fun b=>if b.1=true then let g:=((c.length:Nat):Int);let h:=((b.2.1.rest.length:Nat):Int);let e:=(IntKind.wrap .i64 (g -h));let i:=(b.2.1.rest==[]);if i=true then(room (d.length+([⟨0,[],0,e,b.2.1.fresh⟩]:List T_api_Token).length)).bind fun _=>let j:=d++[⟨0,[],0,e,b.2.1.fresh⟩];(slices_Clip j).bind fun k=>some (.inr (.inl (0,0,k.1,())))else(token_cutter_one (re33 b.2.1)).bind fun a=>if(a.2.1==0)=true then let l:=((c.length:Nat):Int);let m:=((a.2.2.1.rest.length:Nat):Int);let n:=(IntKind.wrap .i64 (l -m));some (.inr (.inr (n,60,())))else(room (d.length+([⟨a.1.Kind,a.1.Text,a.1.Num,e,a.2.2.1.fresh⟩]:List T_api_Token).length)).bind fun _=>let o:=d++[⟨a.1.Kind,a.1.Text,a.1.Num,e,a.2.2.1.fresh⟩];(cutL a.2.2.1.rest a.2.1 ((a.2.2.1.rest.length:Nat):Int)).bind fun p=>some (.inl (c,⟨a.2.2.1.src,p,a.2.2.1.fresh⟩,o,()))else let q:=((c.length:Nat):Int);let r:=((b.2.1.rest.length:Nat):Int);let s:=(IntKind.wrap .i64 (q -r));some (.inr (.inr (s,60,())))
def token_Cut(a:Str):Option ((Int×Int×(List T_api_Token)×Unit)⊕(Int×Int×Unit)):=let b:=(decide (((a.length:Nat):Int)>4096));if b=true then some (.inr (0,2,()))else Lp.loop token_Cut_l1 (a,⟨a,a,false⟩,[],())
def token_Cut_s:Shape:=⟨[(0,.str)],[]⟩
def token_Cut_o:List OutP:=[⟨false,.tup [.own 0,.int .i64,.int .i64],[.arr 28]⟩,⟨false,.tup [.nils,.int .i64,.int .i64],[]⟩]
def token_Cut_c:=callee Y [] token_Cut_s token_Cut_o (fun z=>token_Cut z.1)
def token_Cut_k:Cuts Y (ParO Y token_Cut_o):=(.loop [[7,5,1,2,2,2,2],[8,5,1,2,2,2,2],[6,1,2,2,2,2],[2,2,2,2,2]] ⟨[(0,.str),(5,.ptr 0 0),(6,.own 1)],[.whole 33 33,.arr 28]⟩ (token_Cut_l1) .nil .nil)
theorem token_Cut_ok:K8 5 (token_Cut_c):=f8 token_Cut_k Tryd.func5 (.cons token_cutter_blanks_ok (.cons slices_Clip_ok (.cons token_cutter_one_ok .nil))) ⟨fun z=>by kernel_rfl,trivial,trivial⟩
def credenzaref06_Same_l1:(List T_api_Token)×(List T_api_Token)×Int×Int×Unit→Option (((List T_api_Token)×(List T_api_Token)×Int×Int×Unit)⊕(Bool×Unit))| (d,e,f,c,())=>if(decide (c<f))=true then(getI d c).bind fun a=>(getI e c).bind fun b=>let g:=(!((a.Kind==b.Kind)&&((a.Text==b.Text)&&((a.Num==b.Num)&&((a.At==b.At)&&((a.Fresh==b.Fresh)&&true))))));if g=true then some (.inr (false,()))else let h:=(IntKind.wrap .i64 (c+1));some (.inl (d,e,f,h,()))else some (.inr (true,()))
def credenzaref06_Same(a:List T_api_Token)(b:List T_api_Token):Option (Bool×Unit):=let c:=(((a.length:Nat):Int) !=((b.length:Nat):Int));if c=true then some (false,())else Lp.loop credenzaref06_Same_l1 (a,b,((a.length:Nat):Int),0,())
def credenzaref06_Same_s:Shape:=⟨[(0,.sl 28),(1,.sl 28)],[]⟩
def credenzaref06_Same_o:List OutP:=[⟨false,.bool,[]⟩]
def credenzaref06_Same_c:=callee Y [] credenzaref06_Same_s credenzaref06_Same_o (u2 credenzaref06_Same)
def credenzaref06_Same_k:Cuts Y (ParO Y credenzaref06_Same_o):=(.loop [[7,5,2,1,2,2],[8,5,2,1,2,2],[6,2,1,2,2],[2,2,2]] ⟨[(0,.sl 28),(1,.sl 28),(12,.int .i64),(13,.int .i64)],[]⟩ (credenzaref06_Same_l1) .nil .nil)
theorem credenzaref06_Same_ok:K8 6 (credenzaref06_Same_c):=f8 credenzaref06_Same_k Tryd.func6 .nil ⟨fun z=>by kernel_rfl,trivial,trivial⟩
def token_IsIdent(s:Str):Option (Bool×Unit):=let a:=((!(s==[]))&&(decide (((s.length:Nat):Int)≤32)));if a=true then(getB s 0).bind fun b=>(token_letter b).bind fun c=>if c.1=true then(token_row s).bind fun d=>let e:=(d.1==((s.length:Nat):Int));some (e,())else some (false,())else some (false,())
def token_IsIdent_s:Shape:=⟨[(0,.str)],[]⟩
def token_IsIdent_o:List OutP:=[⟨false,.bool,[]⟩]
def token_IsIdent_c:=callee Y [] token_IsIdent_s token_IsIdent_o (fun z=>token_IsIdent z.1)
def token_IsIdent_k:Cuts Y (ParO Y token_IsIdent_o):= .nil
theorem token_IsIdent_ok:K8 8 (token_IsIdent_c):=f8 token_IsIdent_k Tryd.func8 (.cons token_letter_ok (.cons token_row_ok .nil)) trivial
def credenzalaw06_live_j2(a:List T_api_Token)(b:Int)(c:Int)(d:Int):Option (Bool×Unit):=(credenzaref06_Same a [⟨1,[97],0,0,false⟩,⟨5,[43,61],0,7,true⟩,⟨3,[],31,10,false⟩,⟨0,[],0,14,false⟩]).bind fun e=>let f:=((e.1&&(b==0))&&(c==2));if(f&&(d==60))=true then(token_IsWord [119,104,105,108,101]).bind fun g=>if g.1=true then(token_IsWord [97]).bind fun h=>if(!h.1)=true then(token_IsIdent [119,104,105,108,101]).bind fun i=>some (i.1,())else some (false,())else some (false,())else some (false,())
def credenzalaw06_live_j1(a:List T_api_Token)(b:Int):Option (Bool×Unit):=(token_Cut [97,32,38,32,98]).bind fun e=>(match e with| .inl c=>credenzalaw06_live_j2 a b c.1 c.2.1| .inr d=>credenzalaw06_live_j2 a b d.1 d.2.1)
def credenzalaw06_live:Option (Bool×Unit):=(token_Cut [97,32,47,47,32,120,10,43,61,32,48,120,49,70]).bind fun b=>(match b with| .inl a=>credenzalaw06_live_j1 a.2.2.1 a.2.1| .inr c=>credenzalaw06_live_j1 [] c.2.1)
def credenzalaw06_live_s:Shape:=⟨[],[]⟩
def credenzalaw06_live_o:List OutP:=[⟨false,.bool,[]⟩]
def credenzalaw06_live_c:=callee Y [] credenzalaw06_live_s credenzalaw06_live_o (fun z=>credenzalaw06_live)
def credenzalaw06_live_k:Cuts Y (ParO Y credenzalaw06_live_o):=(.join [[1,2,2],[2,2,2]] ⟨[(1,.sl 28),(3,.int .i64)],[]⟩ (u2 credenzalaw06_live_j1) (.join [[1,2,2,2],[2,2,2,2]] ⟨[(1,.sl 28),(3,.int .i64),(5,.int .i64),(6,.int .i64)],[]⟩ (u4 credenzalaw06_live_j2) .nil))
theorem credenzalaw06_live_ok:K8 4 (credenzalaw06_live_c):=f8 credenzalaw06_live_k Tryd.func4 (.cons token_Cut_ok (.cons credenzaref06_Same_ok (.cons token_IsWord_ok (.cons token_IsIdent_ok .nil)))) ⟨fun z=>by kernel_rfl,⟨fun z=>by kernel_rfl,⟨⟩⟩⟩
def credenzalaw06_TokenFresh_l3:Bool×(List T_api_Token)×Int×Int×(List T_api_Token)×Unit→Option ((Bool×(List T_api_Token)×Int×Int×(List T_api_Token)×Unit)⊕(Bool×Unit))| (f,g,h,a,b,())=>if(decide (a<h))=true then(getI b a).bind fun _=>(getI b a).bind fun i=>let j:=(IntKind.wrap .i64 (i.At+1));(getI b a).bind fun _=>(getI b a).bind fun d=>let c:=b.set a.toNat ⟨d.Kind,d.Text,d.Num,j,d.Fresh⟩;(getI c a).bind fun _=>(getI c a).bind fun k=>(getI c a).bind fun _=>(getI c a).bind fun e=>let l:=c.set a.toNat ⟨e.Kind,e.Text,e.Num,e.At,(k.Fresh||(a==0))⟩;let m:=(IntKind.wrap .i64 (a+1));some (.inl (f,g,h,m,l,()))else if f=true then(credenzaref06_Same b g).bind fun n=>some (.inr (n.1,()))else some (.inr (false,()))
def credenzalaw06_TokenFresh_j2(d:Bool)(e:Int)(b:Int)(c:List T_api_Token)(f:Int)(g:Int)(a:List T_api_Token):Option (Bool×Unit):=let h:=((b !=g)||(((a.length:Nat):Int) !=((c.length:Nat):Int)));let i:=(h||((b !=0)&&(f !=(IntKind.wrap .i64 (e+1)))));if i=true then some (false,())else Lp.loop credenzalaw06_TokenFresh_l3 (d,c,((a.length:Nat):Int),0,a,())
def credenzalaw06_TokenFresh_j1(g:Str)(b:Bool)(c:Int)(d:Int)(e:List T_api_Token):Option (Bool×Unit):=(catS [10] g).bind fun h=>(token_Cut h).bind fun i=>(match i with| .inl a=>credenzalaw06_TokenFresh_j2 b c d a.2.2.1 a.1 a.2.1 e| .inr f=>credenzalaw06_TokenFresh_j2 b c d [] f.1 f.2.1 e)
def credenzalaw06_TokenFresh(a:Str):Option (Bool×Unit):=credenzalaw06_live.bind fun b=>let e:=(decide (((a.length:Nat):Int)>4095));if e=true then some (b.1,())else(token_Cut a).bind fun f=>(match f with| .inl c=>credenzalaw06_TokenFresh_j1 a b.1 c.1 c.2.1 c.2.2.1| .inr d=>credenzalaw06_TokenFresh_j1 a b.1 d.1 d.2.1 [])
def credenzalaw06_TokenFresh_s:Shape:=⟨[(0,.str)],[]⟩
def credenzalaw06_TokenFresh_o:List OutP:=[⟨false,.bool,[]⟩]
def credenzalaw06_TokenFresh_c:=callee Y [] credenzalaw06_TokenFresh_s credenzalaw06_TokenFresh_o (fun z=>credenzalaw06_TokenFresh z.1)
def credenzalaw06_TokenFresh_k:Cuts Y (ParO Y credenzalaw06_TokenFresh_o):=(.join [[1,2,2,2,2],[2,2,2,2,2]] ⟨[(0,.str),(3,.bool),(4,.own 0),(5,.int .i64),(6,.int .i64)],[.arr 28]⟩ (u5 credenzalaw06_TokenFresh_j1) (.join [[1,1,2,2,2,2,2],[2,1,2,2,2,2,2],[2,2,2,2,2,2]] ⟨[(3,.bool),(4,.own 0),(5,.int .i64),(6,.int .i64),(7,.sl 28),(8,.int .i64),(9,.int .i64)],[.arr 28]⟩ (u7 credenzalaw06_TokenFresh_j2) (.loop [[7,5,2,1,2,2,2,2,2,2],[8,5,2,1,2,2,2,2,2,2],[6,2,1,2,2,2,2,2,2],[2,2,2,2,2,2,2]] ⟨[(3,.bool),(4,.own 0),(7,.sl 28),(50,.int .i64),(51,.int .i64)],[.arr 28]⟩ (credenzalaw06_TokenFresh_l3) .nil .nil)))
theorem credenzalaw06_TokenFresh_ok:K8 3 (credenzalaw06_TokenFresh_c):=f8 credenzalaw06_TokenFresh_k Tryd.func3 (.cons credenzalaw06_live_ok (.cons token_Cut_ok (.cons credenzaref06_Same_ok .nil))) ⟨fun z=>by kernel_rfl,⟨fun z=>by kernel_rfl,⟨fun z=>by kernel_rfl,trivial,trivial⟩⟩⟩
end
end Go.D06f
namespace Go.Gw
open Go.RowKit
theorem ite_le{x y a b:Int}(p:Bool)(hp:p=decide (x≤y)):(if p=true then a else b)=if x≤y then a else b:=by
 subst hp
 by_cases h:x≤y<;>simp[h]
theorem wrap_i64_eq(n:Int):IntKind.wrap .i64 n=if(9223372036854775808:Int)≤n%18446744073709551616 then n%18446744073709551616 -18446744073709551616 else n%18446744073709551616:=
 ite_le (x:=9223372036854775808) (y:=n%18446744073709551616) _ rfl
theorem wrap_u64_mod(n:Int):IntKind.wrap .u64 n=n%18446744073709551616:=rfl
theorem wrap_u8_mod(n:Int):IntKind.wrap .u8 n=n%256:=rfl
theorem wrap_i64{n:Int}(h1: -9223372036854775808≤n)(h2:n<9223372036854775808):IntKind.wrap .i64 n=n:=by
 rw[wrap_i64_eq];split<;>omega
theorem wrap_u64{n:Int}(h1:0≤n)(h2:n<18446744073709551616):IntKind.wrap .u64 n=n:=by rw[wrap_u64_mod];omega
theorem wrap_u8{n:Int}(h1:0≤n)(h2:n<256):IntKind.wrap .u8 n=n:=by rw[wrap_u8_mod];omega
theorem getI_nat{α:Type}(xs:List α)(i:Nat):getI xs (i:Int)=xs[i]? :=by
 unfold getI;rw[if_pos (by omega)];simp
theorem getB_nat(s:Str)(i:Nat):getB s (i:Int)=(s[i]?).map fun b=>((b.toNat:Nat):Int):=by
 unfold getB;rw[if_pos (by omega)];simp
theorem cutL_nat{α:Type}(s:List α)(i j:Nat)(h:i≤j)(h2:j≤s.length):cutL s (i:Int) (j:Int)=some ((s.drop i).take (j -i)):=by
 unfold cutL;rw[if_pos (by omega)];simp
theorem cutL_to_end{α:Type}(s:List α)(i:Nat)(h:i≤s.length):cutL s (i:Int) ((s.length:Nat):Int)=some (s.drop i):=by
 rw[cutL_nat s i _ h (Nat.le_refl _)];congr 1;exact List.take_of_length_le (by simp)
theorem room_ok{n:Nat}(h:n≤274877906944):room n=some ():=by unfold room;rw[if_pos h]
theorem catS_ok{s t:Str}(h:s.length+t.length≤4611686018427387904):catS s t=some (s++t):=by unfold catS;rw[if_pos h]
end Go.Gw
namespace Go.Dn
open Go.Gw Go.RowKit Go.Deep
open Go.ChangeShapes Go.WideShapes Go.ChangeAt
set_option maxRecDepth 100000
def heapOf(w:World):Heap:=fun b=>w.heap[b]?
theorem heapOf_sub(w:World):(heapOf w).Sub w:=⟨fun _ _ e=>e⟩
theorem cellF_of{w:World}{b off:Nat}{v:Value}(h:w.cell? ⟨b,off,none⟩=some v):cellF (heapOf w) b off v:=by
 unfold World.cell? at h
 cases hb:w.heap[b]? with
 |none=>rw[hb]at h;cases h
 |some o=>
  rw[hb]at h
  cases o<;>simp only[Option.isSome_none,Bool.false_eq_true,if_false]at h<;>try cases h
  exact⟨_,_,_,hb,h⟩
structure IsBulk (bulk:{H:Type}→DataW H→Nat):Prop where
 agg: ∀{H:Type} (ds:List (DataW H)),(ds.map bulk).sum+1≤bulk (.agg ds)
 sl: ∀{H:Type} (es sp:List (DataW H)),(es.map bulk).sum+1≤bulk (.slice es sp)
 str: ∀{H:Type} (s:List UInt8),s.length+1≤bulk (.lit (.string s):DataW H)
 pos: ∀{H:Type} (d:DataW H),0<bulk d
section
variable {bulk:{H:Type}→DataW H→Nat}
structure OpF (bulk:{H:Type}→DataW H→Nat) (Y:Tys) (P:Program) (w:World) {α:Type} (mk:α→List (AV Y.T)) (t:TypeId) (ok:α→Prop) (ms:α→Nat) (N:Nat):Prop where
 opn: ∀{H:Type} {enc:TypeId×Value→H} {base:Nat} {spare:Nat→Bool} {held:Bool} {fuel:Nat} {cs:List Value} {x:DataW H×List MemPlace},
  fuel≤N→DataW.trod enc P w base spare held fuel t cs=some x→∃a,Rels Y (heapOf w) [] (mk a) cs∧ok a∧ms a≤bulk x.1
variable {Y:Tys} {P:Program} {w:World} {t e:TypeId} {N:Nat}
theorem opF_str(hB:IsBulk bulk)(ht:P.underlying t=some .string):OpF bulk Y P w (fun s:Str=>[.v (.string ⟨⟨s⟩⟩)]) t (fun s=>s.length≤maxLen) (fun s=>s.length+1) N:=
 ⟨fun _ h=>by
  obtain⟨b,rfl,rfl,hw⟩:=DataW.trod_string ht h
  exact⟨b.data.toList,Rels.cons .v Rels.nil,hw,hB.str _⟩⟩
end
theorem trodAll_below{H:Type}{enc:TypeId×Value→H}{P:Program}{W W':World}{base:Nat}{spare:Nat→Bool}{held:Bool}(hb:Below W.heap.size W W'): ∀{ts:List TypeId} {vs:List Value} {ds:List (DataW H)} {ps:List MemPlace},
  DataW.TrodAll enc P W base spare held ts vs ds ps→DataW.TrodAll enc P W' base spare held ts vs ds ps
 | [],[],[],_,h=>h
 |_::_,_::_,_::_,_,⟨p,q,⟨n,h1⟩,h2,e⟩=>⟨p,q,⟨n,DataW.trod_carry n _ _ _ h1 fun x hx=>hb.same (DataW.trod_lt n _ _ _ h1 x hx)⟩,trodAll_below hb h2,e⟩
theorem post_of_below{H:Type}{enc:TypeId×Value→H}{P:Program}{f:Func}{s:ChangeSpec}{apart fresh handsOn again:Bool}{W W':World}{args:Array Value}{v:Value}{ds gs:List (DataW H)}{before pa pv:List MemPlace}
  (hW:DataW.Whole enc P f.params.toList s.vars apart W args.toList ds gs before)
  (hres: ∀(b:Nat) (sp:Nat→Bool) (hd:Bool),DataW.TrodAll enc P W' b sp hd f.resultTypes.toList (v.resultList f.resultTypes.size) (s.fn H (ds++gs)).results [])
  (hargs: ∀sp:Nat→Bool,(∀p∈before,sp p.block=true)→DataW.TrodAll enc P W' 0 sp true f.params.toList args.toList (s.fn H (ds++gs)).args pa)
  (hvars: ∀sp:Nat→Bool,(∀p∈before,sp p.block=true)→DataW.TrodVars enc P W' sp s.vars (s.fn H (ds++gs)).vars pv)
  (hps:before=pa++pv) (hb:Below W.heap.size W W')
  (hok: ∀(j:Nat) (t:TypeId) (r:Value),f.resultTypes[j]? =some t→(v.resultList f.resultTypes.size)[j]? =some r→Value.okWide P W' .any 0 t r):
  s.post enc P f apart fresh handsOn again W args v W':=by
 have hlt:=hW.lt
 have hold: ∀p∈before,(fun b=>decide (b<W.heap.size)) p.block=true:=fun p hp=>by simpa using hlt p hp
 refine⟨ds,gs,before,[],pa,pv,hW,hres _ _ _,hargs _ hold,hvars _ hold,World.keptBut_mono (fun p hp=>⟨hp,?_⟩) (hb.frame (· ∈before)),fun _=>?_⟩
 ·rw[hps,List.mem_append]at hp
  exact Or.inr hp
 ·obtain⟨_,_,_,_,_,hz,hn⟩:=hW
  refine⟨hok,_,_,([]++pa)++pv,⟨[]++pa,pv,trodAll_append (hargs _ (fun _ _=>rfl)) (hres _ _ _),hvars _ (fun _ _=>rfl),rfl,?_,?_⟩,?_⟩
  ·intro b off hp
   have hp':MemPlace.cell b off∈before:=by rw[hps];simpa using hp
   rw[hb.frozen (p:=⟨b,off,none⟩) (hlt _ hp')]
   exact hz b off hp'
  ·intro ha
   have:=hn ha
   rw[hps]at this
   simpa using this
  ·intro p hp _
   rw[hps]
   simpa using hp
def saysTrue{T:Nat→Type}:Out T→List (Mem T)→Option Unit
 | .ret (.v (.bool true)),_=>some ()
 |_,_=>Option.none
theorem COk.holds{Y:Tys}{hY:TysOk Y}{P:Program}{G:Heap→Prop}{f:FuncId}{C:Callee Y}(h:COk hY P G f C){args:List (AV Y.T)}
  (hr:C.run args [] saysTrue=some ()) {W:World} (hG:G (heapOf W)) {vals:List Value} (hv:Rels Y (heapOf W) [] args vals):
  Calls P f vals.toArray W fun e W'=>e= .returned (.bool true)∧Below W.heap.size W W':=by
 have h1:=h.2 args [] () _ hr W (heapOf W) [] [] vals No hG hv rfl rfl (fun k x p o hx=>by simp at hx) (St.start (heapOf_sub W))
 refine h1.mono fun e W' h2=>?_
 obtain⟨res,F',ρ',os',ms',hp,hrel,_,_,_,hst,_⟩:=h2
 refine⟨?_,hst.below⟩
 cases hrel with
 |pan _=>cases hp
 |ret hx=>
  rename_i x u
  have key: ∀(o:Out Y.T) (m:List (Mem Y.T)),saysTrue o m=some ()→o= .ret (.v (.bool Bool.true)):=by
   intro o m
   unfold saysTrue
   split
   ·intro _;rfl
   ·intro e;cases e
  cases key _ _ hp
  rw[hx.v_inv]
end Go.Dn
namespace Go.D06f
open Go Go.Gw Go.Dn Go.RowKit Go.Proofs Go.Deep
open Go.Proofs.YtbicgpcndhppdaaDoor.Rows (uptoBulk uptoBulkAll)
open Go.Proofs.YtbicgpcndhppdaaDoor
open Go.ChangeShapes Go.WideShapes Go.ChangeAt
set_option maxRecDepth 100000
theorem bulkAll_sum{H:Type}: ∀l:List (DataW H),uptoBulkAll l=(l.map uptoBulk).sum
 | []=>by simp[uptoBulkAll]
 |d::l=>by simp[uptoBulkAll,bulkAll_sum l]
theorem bulk_pos{H:Type}(d:DataW H):0<uptoBulk d:=by
 match d with
 | .lit l=>cases l<;>simp only[uptoBulk]<;>omega
 | .nil| .ptr _| .slice _ _| .agg _| .iface _ _| .map _| .held _=>simp only[uptoBulk];omega
theorem bulk:IsBulk (fun{H}=> @uptoBulk H):=⟨fun ds=>by simp only[uptoBulk,bulkAll_sum];omega,fun es sp=>by simp only[uptoBulk,bulkAll_sum];omega,fun s=>by simp only[uptoBulk];omega,bulk_pos⟩
theorem kids:Kids Tryd.prog (· <Tryd.prog.types.size):=kids_rows (by kernel_rfl) (by kernel_rfl)
theorem full: ∀t e,t<Tryd.prog.types.size→Tryd.prog.underlying t=some (.slice e)→0<Tryd.prog.cellsOf e:=slices_full_of Tryd.prog (by kernel_rfl)
def laid06f:List (String×DataW Unit):=Rows.tokenFreshUptoRow.laid
theorem star: "*"++ "errors.errorString"= "*errors.errorString":=by decide
theorem row91(u:TypeId)(h:Tryd.prog.typeName? 3 u=some "*errors.errorString"):u=91:=
 typeName_ptr_named (nm:= "errors.errorString") (by rw[star];kernel_rfl) (by kernel_rfl) (by decide) u (by rw[star];exact h)
theorem err_of{W:World}{name:String}{text:List UInt8}{g:Nat}(hL:laidMetH Tryd.prog laid06f W)(hf:(laid06f.filter fun x=>x.1==name)=[(name,.iface "*errors.errorString" (.ptr (.agg [.lit (.string text)])))])
  (hg:Tryd.prog.globalNamed name=some g) (ht:(Tryd.prog.globals[g]?).map (·.type)=some 54): ∃t p,cellF (heapOf W) g 0 (.iface t p):=by
 rw[Go.MakeChecks.laidMetH_plain Tryd.prog laid06f W (by kernel_rfl)]at hL
 have h:=hL.filter (fun x=>x.1==name)
 rw[hf]at h
 obtain⟨a,s,hv,_,_,_⟩:=laid_sentinel h hg ht Tryd.underlying54 row91 Tryd.underlying91 Tryd.underlying93 rfl rfl Tryd.underlying9 (by kernel_rfl) (by kernel_rfl)
 have:=World.var?_cell hg hv 0
 exact⟨_,_,cellF_of (v:= .iface 91 (.pointer (some a))) (by simpa using this)⟩
theorem open_Str{H:Type}{enc:TypeId×Value→H}{W:World}{base b0:Nat}{v:Value}{d:DataW H}{ps:List MemPlace}(hval:Value.okWide Tryd.prog W .any b0 9 v)(h:DataW.Trod enc Tryd.prog W base (fun _=>true) true 9 v d ps):
  ∃a:Str,Rel Y (heapOf W) [] (.v (.string ⟨⟨a⟩⟩)) v∧True∧a.length+1≤uptoBulk d:=by
 obtain⟨n,hn⟩:=h
 obtain⟨a,h1,h2,h3⟩:=(opF_str (bulk:=fun{H}=> @uptoBulk H) (Y:=Y) (N:=n) bulk Tryd.underlying9).opn (Nat.le_refl _) hn
 obtain⟨s,rfl⟩:=okWide_string Tryd.underlying9 hval
 refine⟨a,?_,trivial,h3⟩
 obtain⟨u,vs,e,q,r⟩:=h1.inv
 simp only[Value.cells]at e
 cases e
 exact q
theorem glob_of{W:World}(h:W.ShapedOpen Tryd.prog)(hL:laidMetH Tryd.prog laid06f W):Glob (heapOf W):=by
 obtain⟨m,hm⟩:=Tryd.laysM219.s1_3 W h
 exact⟨⟨m,cellF_of hm⟩,err_of (name:= "strconv.ErrSyntax") (text:=[105,110,118,97,108,105,100,32,115,121,110,116,97,120]) hL (by kernel_rfl) (by kernel_rfl) (by kernel_rfl),err_of (name:= "strconv.ErrRange") (text:=[118,97,108,117,101,32,111,117,116,32,111,102,32,114,97,110,103,101]) hL (by kernel_rfl) (by kernel_rfl) (by kernel_rfl)⟩
end Go.D06f
namespace Go.Proofs.YtbicgpcndhppdaaDoor
open Go.Proofs Go.RowKit Go.Deep
set_option maxRecDepth 1000000
noncomputable def laidWorld (os:Os):World:=World.laidAll Tryd.prog os Go.D06f.laid06f
theorem wit_vars(os:Os)(args:Array Value):((laidWorld os).forCall (fun _ _=>0) ⟨#[],args,[]⟩).variablesRefB Tryd.prog=true:=by kernel_rfl
theorem wit_rest(os:Os)(args:Array Value):(((laidWorld os).forCall (fun _ _=>0) ⟨#[],args,[]⟩).heap.toList.drop Tryd.prog.globals.size).take ((begin Tryd.prog (fun _ _=>0) default).world.heap.size -Tryd.prog.globals.size)=
  (begin Tryd.prog (fun _ _=>0) default).world.heap.toList.drop Tryd.prog.globals.size:=by kernel_rfl
theorem wit_laid(os:Os)(args:Array Value):laidMet Tryd.prog Go.D06f.laid06f ((laidWorld os).forCall (fun _ _=>0) ⟨#[],args,[]⟩).memory:=
 laidMet_laidAll args (by kernel_rfl) (by kernel_rfl)
end Go.Proofs.YtbicgpcndhppdaaDoor
namespace Go.Gw
/-! ### what stands in a list of pieces -/
theorem contains_nil{sub:Str}(h:sub≠[]):Lib.contains [] sub=false:=by
 cases sub with
 |nil=>exact absurd rfl h
 |cons a l=>rfl
theorem contains_cons(b:UInt8)(l sub:Str):Lib.contains (b::l) sub=(sub.isPrefixOf (b::l)||Lib.contains l sub):=by
 unfold Lib.contains
 rw[Lib.index]
 have h:=Lib.index_ge l sub
 cases hp:sub.isPrefixOf (b::l)with
 |true=>simp
 |false=>
  simp only[Bool.false_eq_true,if_false,Bool.false_or]
  by_cases hi:Lib.index l sub= -1
  ·simp[hi]
  ·have c:(Lib.index l sub== -1)=false:=by rw[beq_eq_false_iff_ne];exact hi
   rw[c];simp only[Bool.false_eq_true,if_false]
   rw[decide_eq_decide];omega
theorem contains_byte(c:UInt8): ∀s:Str,Lib.contains s [c]=s.contains c
 | []=>rfl
 |b::l=>by
  rw[contains_cons,contains_byte c l,List.contains_cons]
  simp[List.isPrefixOf]
theorem contains_skip(sub t:Str): ∀w:Str,(32:UInt8)∉w→Lib.contains (w++t) (32::sub)=Lib.contains t (32::sub)
 | [],_=>rfl
 |b::w,h=>by
  simp only[List.mem_cons,not_or]at h
  rw[List.cons_append,contains_cons,contains_skip sub t w h.2]
  have:((32:UInt8)==b)=false:=by rw[beq_eq_false_iff_ne];exact h.1
  simp[List.isPrefixOf,this]
def joined:List Str→Str
 | []=>[32]
 |w::r=>32::(w++joined r)
theorem joined_cons(ws:List Str): ∃t,joined ws=32::t:=by cases ws<;>exact⟨_,rfl⟩
theorem prefix_word: ∀(s w t:Str),(32:UInt8)∉s→(32:UInt8)∉w→(s++[32]).isPrefixOf (w++32::t)=(s==w)
 | [],[],t,_,_=>by simp[List.isPrefixOf]
 | [],b::w,t,_,h=>by
  simp only[List.mem_cons,not_or]at h
  have:((32:UInt8)==b)=false:=by rw[beq_eq_false_iff_ne];exact h.1
  simp[List.isPrefixOf,this]
 |a::s,[],t,h,_=>by
  simp only[List.mem_cons,not_or]at h
  have:(a==(32:UInt8))=false:=by rw[beq_eq_false_iff_ne];exact fun e=>h.1 e.symm
  simp[List.isPrefixOf,this]
 |a::s,b::w,t,h,h'=>by
  simp only[List.mem_cons,not_or]at h h'
  simp only[List.cons_append,List.isPrefixOf,prefix_word s w t h.2 h'.2]
  rfl
theorem joined_contains(s:Str)(hs:(32:UInt8)∉s): ∀ws:List Str,(∀w∈ws,(32:UInt8)∉w)→Lib.contains (joined ws) (32::(s++[32]))=ws.contains s
 | [],_=>by
  unfold joined
  rw[contains_cons,contains_nil (by simp)]
  cases s<;>simp[List.isPrefixOf]
 |w::r,h=>by
  have hw:=h w (by simp)
  have ih:=joined_contains s hs r (fun x hx=>h x (by simp[hx]))
  obtain⟨t,ht⟩:=joined_cons r
  unfold joined
  rw[contains_cons,contains_skip _ _ _ hw,ih,List.contains_cons]
  have:List.isPrefixOf (32::(s++[32])) (32::(w++joined r))=(s==w):=by
   simp only[List.isPrefixOf,beq_self_eq_true,Bool.true_and]
   rw[ht];exact prefix_word s w t hs hw
  rw[this]
/-! ### letters, digits, rows -/
def isLet(c:UInt8):Bool:=decide ((97≤c.toNat∧c.toNat≤122)∨(65≤c.toNat∧c.toNat≤90)∨c.toNat=95∨c.toNat=36)
def isDig(c:UInt8):Bool:=decide (48≤c.toNat∧c.toNat≤57)
def isLD(c:UInt8):Bool:=isLet c||isDig c
def rowK(s:Str):Nat:=(s.takeWhile isLD).length
theorem rowK_le: ∀s:Str,rowK s≤s.length
 | []=>by simp[rowK]
 |c::r=>by
  have:=rowK_le r
  unfold rowK at this⊢
  rw[List.takeWhile_cons];split<;>simp<;>omega
theorem rowK_cons(c:UInt8)(r:Str):rowK (c::r)=if isLD c then rowK r+1 else 0:=by
 unfold rowK;rw[List.takeWhile_cons];split<;>simp
/-! ### blanks -/
def isNl(c:UInt8):Bool:=([10,13]:Str).contains c
def endC:Str→Option Nat
 | []=>none
 |c::r=>if([42,47]:Str).isPrefixOf (c::r)then some 0 else(endC r).map (· +1)
theorem index_endC: ∀s:Str,Lib.index s [42,47]=match endC s with
  |none=> -1
  |some n=>(n:Int)
 | []=>rfl
 |c::r=>by
  rw[Lib.index,endC]
  split
  ·rfl
  ·rw[index_endC r]
   cases endC r with
   |none=>rfl
   |some n=>
    have c:(((n:Nat):Int)== -1)=false:=by rw[beq_eq_false_iff_ne];omega
    simp only[c,Bool.false_eq_true,if_false,Option.map_some];rfl
theorem endC_le: ∀(s:Str) (n:Nat),endC s=some n→n+2≤s.length
 | [],n,h=>by cases h
 |c::r,n,h=>by
  rw[endC]at h
  split at h
  ·rename_i hp
   simp only[Option.some.injEq]at h
   cases r with
   |nil=>simp[List.isPrefixOf]at hp
   |cons d r=>simp;omega
  ·cases he:endC r with
   |none=>rw[he]at h;cases h
   |some k=>rw[he]at h;simp only[Option.map_some,Option.some.injEq]at h;have:=endC_le r k he;simp;omega
def blanksG:Nat→Str→Bool→Str×Bool×Bool
 |0,s,f=>(s,f,true)
 |_+1,[],f=>([],f,true)
 |m+1,c::r,f=>
  if isNl c then blanksG m r true
  else if c=32∨c=9∨c=11∨c=12 then blanksG m r f
  else if([47,47]:Str).isPrefixOf (c::r)then blanksG m ((c::r).dropWhile (fun x=> !isNl x)) f
  else if([47,42]:Str).isPrefixOf (c::r)then
   (match endC ((c::r).drop 2)with
   |none=>(c::r,f,false)
   |some n=>blanksG m ((c::r).drop (n+4)) (f||(((c::r).drop 2).take n).any isNl))
  else(c::r,f,true)
theorem dropWhile_len{α:Type}(p:α→Bool): ∀l:List α,(l.dropWhile p).length≤l.length
 | []=>Nat.le_refl _
 |a::l=>by
  rw[List.dropWhile_cons];have:=dropWhile_len p l
  split<;>simp<;>omega
theorem blanksG_len: ∀(m:Nat) (s:Str) (f:Bool),(blanksG m s f).1.length≤s.length
 |0,s,f=>Nat.le_refl _
 |m+1,[],f=>Nat.le_refl _
 |m+1,c::r,f=>by
  unfold blanksG
  split
  ·have:=blanksG_len m r true;simp;omega
  ·split
   ·have:=blanksG_len m r f;simp;omega
   ·split
    ·have:=blanksG_len m ((c::r).dropWhile (fun x=> !isNl x)) f
     have h:=dropWhile_len (fun x=> !isNl x) (c::r)
     omega
    ·split
     ·split
      ·exact Nat.le_refl _
      ·rename_i n _
       have:=blanksG_len m ((c::r).drop (n+4)) (f||(((c::r).drop 2).take n).any isNl)
       have h:((c::r).drop (n+4)).length≤(c::r).length:=by simp only[List.length_drop];omega
       omega
     ·exact Nat.le_refl _
end Go.Gw
namespace Go.D06f.U
open Go Go.Gw Go.Dn Go.Proofs
set_option maxRecDepth 100000
def enc1(n:Nat):Str:=[UInt8.ofNat (n/256),UInt8.ofNat (n%256)]
def encL(l:List Nat):Str:=l.flatMap enc1
theorem encL_length(l:List Nat):(encL l).length=2*l.length:=by
 induction l with
 |nil=>rfl
 |cons n l ih=>unfold encL at ih⊢;rw[List.flatMap_cons,List.length_append,ih];simp[enc1];omega
def hexV(b:UInt8):Option Nat:=
 if 48≤b.toNat∧b.toNat≤57 then some (b.toNat -48)else if 97≤b.toNat∧b.toNat≤102 then some (b.toNat -87)else if 65≤b.toNat∧b.toNat≤70 then some (b.toNat -55)else none
def hexN:Nat→Str→Nat→Option Nat
 |0,_,a=>some a
 |_+1,[],_=>none
 |k+1,b::r,a=>match hexV b with
  |none=>none
  |some d=>hexN k r (16*a+d)
theorem hexV_lt{b:UInt8}{d:Nat}(h:hexV b=some d):d<16:=by
 unfold hexV at h
 split at h
 ·simp only[Option.some.injEq]at h;omega
 ·split at h
  ·simp only[Option.some.injEq]at h;omega
  ·split at h
   ·simp only[Option.some.injEq]at h;omega
   ·cases h
theorem hexN_lt: ∀(k:Nat) (s:Str) (a n:Nat),hexN k s a=some n→n<16^k*(a+1)
 |0,s,a,n,h=>by simp only[hexN,Option.some.injEq]at h;omega
 |k+1,[],a,n,h=>by cases h
 |k+1,b::r,a,n,h=>by
  simp only[hexN]at h
  cases hv:hexV b with
  |none=>rw[hv]at h;cases h
  |some d=>
   rw[hv]at h
   have h1:=hexN_lt k r _ n h
   have h2:=hexV_lt hv
   have h3:16^k*(16*a+d+1)≤16^k*(16*(a+1)):=Nat.mul_le_mul_left _ (by omega)
   have h4:16^(k+1)*(a+1)=16^k*(16*(a+1)):=by rw[Nat.pow_succ,Nat.mul_assoc]
   omega
def simpleV(b:UInt8):Option Nat:=
 if b=110 then some 10 else if b=116 then some 9 else if b=114 then some 13 else if b=98 then some 8 else if b=102 then some 12 else if b=118 then some 11
 else if b.toNat>127∨b=13∨b=120∨b=117∨(48≤b.toNat∧b.toNat≤57)∨b=10 then none else some b.toNat
def escS:Str→Option (List Nat×Nat)
 | []=>none
 |c::r=>
  if c=10 then some ([],1)
  else if c=48 then(match r with
   | []=>some ([0],1)
   |d::_=>if 48≤d.toNat∧d.toNat≤57 then none else some ([0],1))
  else if c=120 then(hexN 2 r 0).map fun n=>([n],3)
  else if c=117 then(hexN 4 r 0).map fun n=>([n],5)
  else(simpleV c).map fun n=>([n],1)
theorem hexN_len: ∀(k:Nat) (s:Str) (a n:Nat),hexN k s a=some n→k≤s.length
 |0,s,a,n,h=>by omega
 |k+1,[],a,n,h=>by cases h
 |k+1,b::r,a,n,h=>by
  simp only[hexN]at h
  cases hv:hexV b with
  |none=>rw[hv]at h;cases h
  |some d=>rw[hv]at h;have:=hexN_len k r _ n h;simp only[List.length_cons];omega
theorem simpleV_lt{b:UInt8}{n:Nat}(h:simpleV b=some n):n<256:=by
 have hb:=b.toNat_lt
 unfold simpleV at h
 repeat' split at h
 all_goals first| (cases h;done)| (simp only[Option.some.injEq]at h;omega)
theorem escS_some{s:Str}{us:List Nat}{k:Nat}(h:escS s=some (us,k)):(∀n∈us,n<65536)∧us.length≤1∧1≤k∧k≤s.length:=by
 cases s with
 |nil=>cases h
 |cons c r=>
  simp only[escS]at h
  by_cases h1:c=10
  ·rw[if_pos h1]at h;cases h;simp
  ·rw[if_neg h1]at h
   by_cases h2:c=48
   ·rw[if_pos h2]at h
    cases r with
    |nil=>cases h;simp
    |cons d r=>
     simp only at h
     split at h
     ·cases h
     ·cases h;simp
   ·rw[if_neg h2]at h
    by_cases h3:c=120
    ·rw[if_pos h3]at h
     cases hn:hexN 2 r 0 with
     |none=>rw[hn]at h;cases h
     |some n=>
      rw[hn]at h;cases h
      have:=hexN_lt _ _ _ _ hn;have:=hexN_len _ _ _ _ hn
      simp;omega
    ·rw[if_neg h3]at h
     by_cases h4:c=117
     ·rw[if_pos h4]at h
      cases hn:hexN 4 r 0 with
      |none=>rw[hn]at h;cases h
      |some n=>
       rw[hn]at h;cases h
       have:=hexN_lt _ _ _ _ hn;have:=hexN_len _ _ _ _ hn
       simp;omega
     ·rw[if_neg h4]at h
      cases hn:simpleV c with
      |none=>rw[hn]at h;cases h
      |some n=>
       rw[hn]at h;cases h
       have:=simpleV_lt hn
       simp;omega
/-! ### the program's digits -/
theorem dropWhile_nil_iff{α:Type}(p:α→Bool): ∀l:List α,l.dropWhile p=[]↔∀x∈l,p x=true
 | []=>by simp
 |a::l=>by
  cases h:p a with
  |true=>rw[List.dropWhile_cons_of_pos h,dropWhile_nil_iff p l];simp[h]
  |false=>
   rw[List.dropWhile_cons_of_neg (by simp[h])]
   simp[h]
theorem dropWhile_head{α:Type}(p:α→Bool): ∀(l:List α) (b:α) (r:List α),l.dropWhile p=b::r→p b=false
 | [],b,r,h=>by cases h
 |a::l,b,r,h=>by
  cases hp:p a with
  |true=>rw[List.dropWhile_cons_of_pos hp]at h;exact dropWhile_head p l b r h
  |false=>
   rw[List.dropWhile_cons_of_neg (by simp[hp])]at h
   cases h;exact hp
theorem trimS_nil(l cs:Str):(Lib.trimS l cs==([]:Str))=l.all (cs.contains ·):=by
 unfold Lib.trimS Lib.trimLeftS Lib.trimRightS
 rw[Bool.eq_iff_iff]
 rw[beq_iff_eq,dropWhile_nil_iff,List.all_eq_true]
 constructor
 ·intro h
  rcases hd:l.reverse.dropWhile (cs.contains ·)with _| ⟨b,r⟩
  ·rw[dropWhile_nil_iff]at hd
   intro x hx;exact hd x (by simpa using hx)
  ·exfalso
   have h1:=dropWhile_head _ _ _ _ hd
   have h2:=h b (by rw[hd];simp)
   rw[h1]at h2;cases h2
 ·intro h x hx
  have:=(List.dropWhile_suffix (cs.contains ·) (l:=l.reverse)).subset (by simpa using hx)
  exact h x (by simpa using this)
def hexCs:Str:=[48,49,50,51,52,53,54,55,56,57,97,98,99,100,101,102,65,66,67,68,69,70]
theorem hexCs_all: ∀b:Fin 256,hexCs.contains (UInt8.ofNat b.val)=(hexV (UInt8.ofNat b.val)).isSome:=by decide+kernel
theorem byteF(b:UInt8): ∃k:Fin 256,b=UInt8.ofNat k.val:=⟨⟨b.toNat,b.toNat_lt⟩,by simp⟩
theorem hexCs_eq(b:UInt8):hexCs.contains b=(hexV b).isSome:=by
 obtain⟨k,rfl⟩:=byteF b;exact hexCs_all k
theorem hexN_isSome: ∀(s:Str) (a:Nat),(hexN s.length s a).isSome=s.all (hexCs.contains ·)
 | [],a=>rfl
 |b::r,a=>by
  simp only[List.length_cons,hexN,List.all_cons,hexCs_eq]
  cases hv:hexV b with
  |none=>simp
  |some d=>
   simp only[Option.isSome_some,Bool.true_and]
   rw[hexN_isSome r]
   congr 1;funext x;exact hexCs_eq x
theorem hexN_take: ∀(k:Nat) (s:Str) (a:Nat),k≤s.length→hexN k (s.take k) a=hexN k s a
 |0,s,a,_=>rfl
 |k+1,[],a,h=>by simp at h
 |k+1,b::r,a,h=>by
  simp only[List.take_succ_cons,hexN]
  cases hexV b with
  |none=>rfl
  |some d=>simp only;exact hexN_take k r _ (by simpa using h)
def readG(q:UInt8):Nat→Str→List Nat→Option (List Nat×Nat)
 |0,_,_=>none
 |_+1,[],_=>none
 |m+1,c::r,acc=>
  if c=q then some (acc,r.length)
  else if c=10∨c=13∨c.toNat>127 then none
  else if c=92 then(match escS r with
   |none=>none
   |some (us,k)=>readG q m (r.drop k) (acc++us))
  else readG q m r (acc++[c.toNat])
def readS(s:Str):Str×Int×Int:=
 match s with
 | []=>([],0,10)
 |q::r=>if q=39∨q=34 then(match readG q (r.length+1) r []with
   |none=>([],0,10)
   |some (us,k)=>(encL us,((s.length -k:Nat):Int),0))else([],0,10)
theorem u8_eq_iff(b:UInt8)(n:Nat)(h:n<256):b=UInt8.ofNat n↔b.toNat=n:=by
 constructor
 ·intro e;subst e;simp[UInt8.toNat_ofNat'];omega
 ·intro e;apply UInt8.toNat_inj.mp;simp[UInt8.toNat_ofNat'];omega
theorem natcast_beq(a b:Nat):(((a:Nat):Int)==((b:Nat):Int))=decide (a=b):=by
 by_cases h:a=b
 ·simp[h]
 ·simp[h];omega
def okU(l:List Nat):Prop:=∀n∈l,n<65536
def endU(q:UInt8)(s:Str)(m:Nat)(rest:Str)(acc:List Nat):Str×Int×Int:=match readG q m rest acc with
 |none=>([],0,10)
 |some (us,k)=>(encL us,((s.length -k:Nat):Int),0)
theorem u8_bne(c:UInt8)(n:Nat)(h:n<256):(((c.toNat:Nat):Int) !=((n:Nat):Int))= !decide (c=UInt8.ofNat n):=by
 simp only[bne,natcast_beq]
 congr 1
 rw[decide_eq_decide]
 exact(u8_eq_iff c n h).symm
end Go.D06f.U
namespace Go.D06f.U
open Go Go.Gw Go.Dn Go.Proofs
set_option maxRecDepth 100000
open Go.Proofs
/-! ### numbers, signs, tokens -/
def parsN(base:Nat):Str→Nat→Option Nat
 | [],a=>some a
 |c::r,a=>match hexV c with
  |none=>none
  |some d=>if d<base then parsN base r (a*base+d)else none
def numD(ds:Str):Option Nat:=
 if 2<ds.length∧(ds.take 2=[48,120]∨ds.take 2=[48,88])then parsN 16 (ds.drop 2) 0
 else if 1<ds.length∧ds.head?=some 48 then none
 else parsN 10 ds 0
def numS(s:Str):Option (Nat×Nat):=
 if s[rowK s]? =some 46 then none
 else match numD (s.take (rowK s))with
  |none=>none
  |some n=>if n≤9007199254740991 then some (n,rowK s)else none
def tripL:List Str:=[[61,61,61],[33,61,61]]
def doubL:List Str:=[[60,61],[62,61],[61,61],[33,61],[43,43],[45,45],[38,38],[124,124],[43,61],[45,61],[42,61],[47,61],[37,61]]
def singL:Str:=[123,125,40,41,91,93,46,59,44,60,62,43,45,42,47,37,33,63,58,61]
def signS(s:Str):Nat:=
 if 2<s.length∧tripL.contains (s.take 3)=true then 3
 else if 1<s.length∧doubL.contains (s.take 2)=true then 2
 else if singL.contains (s.headD 0)then 1 else 0
def wordsL:List Str:=[[98,114,101,97,107],[99,97,115,101],[99,97,116,99,104],[99,108,97,115,115],[99,111,110,115,116],[99,111,110,116,105,110,117,101],[100,101,98,117,103,103,101,114],[100,101,102,97,117,108,116],[100,101,108,101,116,101],[100,111],[101,108,115,101],[101,110,117,109],[101,120,112,111,114,116],[101,120,116,101,110,100,115],[102,97,108,115,101],[102,105,110,97,108,108,121],[102,111,114],[102,117,110,99,116,105,111,110],[105,102],[105,109,112,108,101,109,101,110,116,115],[105,109,112,111,114,116],[105,110],[105,110,115,116,97,110,99,101,111,102],[105,110,116,101,114,102,97,99,101],[108,101,116],[110,101,119],[110,117,108,108],[112,97,99,107,97,103,101],[112,114,105,118,97,116,101],[112,114,111,116,101,99,116,101,100],[112,117,98,108,105,99],[114,101,116,117,114,110],[115,116,97,116,105,99],[115,117,112,101,114],[115,119,105,116,99,104],[116,104,105,115],[116,104,114,111,119],[116,114,117,101],[116,114,121],[116,121,112,101,111,102],[118,97,114],[118,111,105,100],[119,104,105,108,101],[119,105,116,104],[121,105,101,108,100]]
def isWordS(s:Str):Bool:=wordsL.contains s
abbrev Tok:=T_api_Token
def oneS(s:Str):Option (Tok×Nat):=
 match s with
 | []=>none
 |c::_=>
  if isLet c=true then
    if 32<rowK s then none else some ({Kind:=if isWordS (s.take (rowK s))=true then 2 else 1,Text:=s.take (rowK s),Num:=0,At:=0,Fresh:=false},rowK s)
  else if isDig c=true then(numS s).map fun p=>({Kind:=3,Text:=[],Num:=(p.1:Int),At:=0,Fresh:=false},p.2)
  else if c=39∨c=34 then
    (match readS s with
    | (u,n,_)=>if n=0 then none else some ({Kind:=4,Text:=u,Num:=0,At:=0,Fresh:=false},n.toNat))
  else if signS s=0 then none else some ({Kind:=5,Text:=s.take (signS s),Num:=0,At:=0,Fresh:=false},signS s)
def tEnd(f:Bool):Tok:={Kind:=0,Text:=[],Num:=0,At:=0,Fresh:=f}
def Tok.fresh(t:Tok)(f:Bool):Tok:={t with Fresh:=f}
def Tok.at_(t:Tok)(n:Int):Tok:={t with At:=n}
def cutT:Nat→Str→Bool→List (Tok×Nat)⊕Nat
 |0,_,_=> .inr 0
 |m+1,s,f=>match blanksG (s.length+1) s f with
  | (r,f',ok)=>
    if ok=false then .inr r.length
    else if r=[]then .inl [(tEnd f',0)]
    else match oneS r with
      |none=> .inr r.length
      |some (t,n)=>match cutT m (r.drop n) false with
        | .inl l=> .inl ((t.fresh f',r.length)::l)
        | .inr k=> .inr k
def laidAt(len:Nat)(l:List (Tok×Nat)):List Tok:=l.map fun p=>p.1.at_ ((len -p.2:Nat):Int)
/-! ### how much a token takes -/
theorem numS_pos{s:Str}{n k:Nat}(h:numS s=some (n,k)):k=rowK s:=by
 unfold numS at h
 split at h
 ·cases h
 ·split at h
  · cases h
  · split at h
    · cases h;rfl
    · cases h
theorem readS_len{s:Str}{u:Str}{n e:Int}(h:readS s=(u,n,e)):0≤n∧n≤(s.length:Int):=by
 unfold readS at h
 split at h
 ·cases h;simp
 ·rename_i q r
  split at h
  · split at h
    · cases h;constructor<;>omega
    · cases h;constructor<;>omega
  · cases h;constructor<;>omega
theorem signS_le(c:UInt8)(r:Str):signS (c::r)≤(c::r).length:=by
 unfold signS
 split
 ·rename_i h;simp only[List.length_cons]at h⊢;omega
 ·split
  · rename_i h;simp only[List.length_cons]at h⊢;omega
  · split<;>simp
theorem oneS_len{s:Str}{t:Tok}{n:Nat}(h:oneS s=some (t,n)):1≤n∧n≤s.length∧1≤t.Kind∧t.Kind≤5∧t.At=0∧t.Fresh=false:=by
 unfold oneS at h
 split at h
 ·cases h
 ·rename_i c r
  have hrow:=rowK_le (c::r)
  have hr1:isLD c=true→1≤rowK (c::r):=fun e=>by rw[rowK_cons,if_pos e];omega
  split at h
  · rename_i hl
    split at h
    · cases h
    · cases h
      have:=hr1 (by simp[isLD,hl])
      refine⟨this,hrow,?_,?_,rfl,rfl⟩<;>(simp only;split<;>decide)
  · split at h
    · rename_i hd
      cases hn:numS (c::r)with
      |none=>rw[hn]at h;cases h
      |some p=>
        obtain⟨m,k⟩:=p
        rw[hn]at h
        cases h
        have hk:=numS_pos hn
        subst hk
        exact⟨hr1 (by simp[isLD,hd]),hrow,Int.le_of_lt_add_one (by dsimp only;omega),by dsimp only;omega,rfl,rfl⟩
    · split at h
      · obtain⟨u,n',e⟩:Str×Int×Int:=readS (c::r)
        generalize hq:readS (c::r)=q at h
        obtain⟨u,n',e⟩:=q
        have:=readS_len hq
        simp only at h
        split at h
        ·cases h
        ·cases h
         refine⟨by omega,by omega,Int.le_of_lt_add_one (by dsimp only;omega),by dsimp only;omega,rfl,rfl⟩
      · split at h
        ·cases h
        ·cases h
         exact⟨by omega,signS_le c r,Int.le_of_lt_add_one (by dsimp only;omega),by dsimp only;omega,rfl,rfl⟩
theorem blanksG_true: ∀(m:Nat) (s:Str) (f:Bool),blanksG m s true=((blanksG m s f).1,true,(blanksG m s f).2.2)
 |0,s,f=>rfl
 |m+1,[],f=>rfl
 |m+1,c::r,f=>by
  unfold blanksG
  split
  ·exact blanksG_true m r true
  ·split
   ·exact blanksG_true m r f
   ·split
    ·exact blanksG_true m _ f
    ·split
     ·split
      ·rfl
      ·rw[Bool.true_or];exact blanksG_true m _ _
     ·rfl
/-! ### a token -/
/-! ### the whole -/
theorem cutT_fuel: ∀(m m':Nat) (s:Str) (f:Bool),s.length<m→s.length<m'→cutT m s f=cutT m' s f
 |0,_,s,f,h,_=>by omega
 |_+1,0,s,f,_,h=>by omega
 |m+1,m'+1,s,f,h,h'=>by
  unfold cutT
  have hb:=blanksG_len (s.length+1) s f
  generalize hq:blanksG (s.length+1) s f=q at hb
  obtain⟨r,f',ok⟩:=q
  simp only at hb⊢
  split
  ·rfl
  ·split
   ·rfl
   ·cases ho:oneS r with
    |none=>rfl
    |some p=>
     obtain⟨t,n⟩:=p
     have hl:=oneS_len ho
     simp only
     rw[cutT_fuel m m' (r.drop n) false (by simp only[List.length_drop];omega) (by simp only[List.length_drop];omega)]
theorem cutT_same{m m':Nat}{s s':Str}{f f':Bool}(h:s.length<m)(h':s'.length<m')(he:blanksG (s.length+1) s f=blanksG (s'.length+1) s' f'):cutT m s f=cutT m' s' f':=by
 cases m with
 |zero=>omega
 |succ m=>
  cases m' with
  |zero=>omega
  |succ m'=>
   have hb:=blanksG_len (s.length+1) s f
   have hb':=blanksG_len (s'.length+1) s' f'
   unfold cutT
   rw[he]at hb⊢
   generalize hq:blanksG (s'.length+1) s' f'=q at hb hb'
   obtain⟨r,f2,ok⟩:=q
   simp only at hb hb'⊢
   split
   ·rfl
   ·split
    ·rfl
    ·cases ho:oneS r with
     |none=>rfl
     |some p=>
      obtain⟨t,n⟩:=p
      have hl:=oneS_len ho
      simp only
      rw[cutT_fuel m m' (r.drop n) false (by simp only[List.length_drop];omega) (by simp only[List.length_drop];omega)]
end Go.D06f.U
namespace Go.D06f.U
open Go Go.Gw Go.Dn Go.Proofs
set_option maxRecDepth 100000
/-! ### blanks -/
theorem indexAny_nl: ∀s:Str,(s.any isNl=false∧Lib.indexAny s [10,13]= -1∧s.dropWhile (fun x=> !isNl x)=[])∨∃i:Nat,Lib.indexAny s [10,13]=(i:Int)∧i≤s.length∧s.any isNl=true∧s.drop i=s.dropWhile (fun x=> !isNl x)∧(s.take i).any isNl=false
 | []=> .inl ⟨rfl,rfl,rfl⟩
 |b::l=>by
  rw[Lib.indexAny]
  cases h:([10,13]:Str).contains b with
  |true=>
   have hb:isNl b=true:=h
   refine .inr ⟨0,?_,by omega,by simp[hb],?_,rfl⟩
   ·simp
   ·simp[hb]
  |false=>
   have hb:isNl b=false:=h
   rcases indexAny_nl l with⟨h1,h2,h3⟩| ⟨i,h1,h2,h3,h4,h5⟩
   ·refine .inl ⟨by simp only[List.any_cons,hb,h1,Bool.or_self],?_,by rw[List.dropWhile_cons,if_pos (by simp[hb])];exact h3⟩
    rw[h2];rfl
   ·refine .inr ⟨i+1,?_,by simp;omega,by simp only[List.any_cons,h3,Bool.or_true],by rw[List.dropWhile_cons,if_pos (by simp[hb]),List.drop_succ_cons];exact h4,by simp only[List.take_succ_cons,List.any_cons,hb,h5,Bool.or_self]⟩
    rw[h1]
    have c:(((i:Nat):Int)== -1)=false:=by rw[beq_eq_false_iff_ne];omega
    simp only[c,Bool.false_eq_true,if_false];rfl
theorem containsAny_nl(s:Str):Lib.containsAny s [10,13]=s.any isNl:=by
 unfold Lib.containsAny
 rcases indexAny_nl s with⟨h1,h2,_⟩| ⟨i,h1,_,h3,_⟩
 ·rw[h1,h2];rfl
 ·rw[h1,h3];simp
theorem endC_spec: ∀(s:Str) (n:Nat),endC s=some n→∃t,s.drop n=42::47::t
 | [],n,h=>by cases h
 |c::r,n,h=>by
  rw[endC]at h
  split at h
  ·rename_i hp
   simp only[Option.some.injEq]at h
   subst h
   cases r with
   |nil=>simp[List.isPrefixOf]at hp
   |cons d r=>
    simp only[List.isPrefixOf,Bool.and_true,Bool.and_eq_true,beq_iff_eq]at hp
    obtain⟨rfl,rfl⟩:=hp
    exact⟨r,rfl⟩
  ·cases he:endC r with
   |none=>rw[he]at h;cases h
   |some k=>
    rw[he]at h
    simp only[Option.map_some,Option.some.injEq]at h
    subst h
    exact endC_spec r k he
theorem comment_nl(r:Str)(n:Nat)(h:endC r=some n):((47::42::r).take (n+4)).any isNl=(r.take n).any isNl:=by
 obtain⟨t,ht⟩:=endC_spec r n h
 have e:r.take (n+2)=r.take n++[42,47]:=by
  have h2:r.take (n+2)=r.take n++(r.drop n).take 2:=by rw[List.take_add]
  rw[h2,ht];rfl
 have e2:(47::42::r).take (n+4)=47::42::r.take (n+2):=rfl
 rw[e2,e]
 have c1:isNl 47=false:=by decide
 have c2:isNl 42=false:=by decide
 simp only[List.any_cons,List.any_append,List.any_nil,c1,c2,Bool.false_or,Bool.or_false]
theorem other_fin: ∀b:Fin 256,isNl (UInt8.ofNat b.val)=false→¬(UInt8.ofNat b.val=32∨UInt8.ofNat b.val=9∨UInt8.ofNat b.val=11∨UInt8.ofNat b.val=12)→b.val≠32∧(b.val<9∨13<b.val):=by decide+kernel
def okN(o:Nat)(t:Str)(a:Nat):Option Nat:=match parsN o t a with
 |none=>none
 |some n=>if n≤9007199254740991 then some n else none
theorem parsN_ge{o:Nat}(ho:1≤o): ∀(t:Str) (a n:Nat),parsN o t a=some n→a≤n
 | [],a,n,h=>by cases h;exact Nat.le_refl _
 |c::r,a,n,h=>by
  simp only[parsN]at h
  split at h
  ·cases h
  ·rename_i d _
   split at h
   ·have:=parsN_ge ho r _ n h
    have h2:a*1≤a*o:=Nat.mul_le_mul_left a ho
    omega
   ·cases h
def lowN(b:Nat):Nat:=(BitVec.ofNat 8 b|||32#8).toNat
theorem lower_fin: ∀b:Fin 256,strconv_lower ((b.val:Nat):Int)=some (((lowN b.val:Nat):Int),()):=by decide+kernel
theorem lower_eq'(c:UInt8):strconv_lower ((c.toNat:Nat):Int)=some (((lowN c.toNat:Nat):Int),()):=lower_fin ⟨c.toNat,c.toNat_lt⟩
theorem hexV_fin: ∀b:Fin 256,(48≤b.val∧b.val≤57→hexV (UInt8.ofNat b.val)=some (b.val -48))∧(¬(48≤b.val∧b.val≤57)→97≤lowN b.val→lowN b.val≤122→hexV (UInt8.ofNat b.val)=if lowN b.val -87<16 then some (lowN b.val -87)else none)∧(¬(48≤b.val∧b.val≤57)→¬(97≤lowN b.val∧lowN b.val≤122)→hexV (UInt8.ofNat b.val)=none):=by decide+kernel
theorem parsN_no95{o:Nat}: ∀(t:Str) (a n:Nat),parsN o t a=some n→t.contains 95=false
 | [],_,_,_=>rfl
 |c::r,a,n,h=>by
  simp only[parsN]at h
  split at h
  ·cases h
  ·rename_i d hd
   split at h
   ·rw[List.contains_cons,parsN_no95 r _ _ h,Bool.or_false,beq_eq_false_iff_ne]
    intro e
    subst e
    have:hexV 95=none:=by decide
    rw[this]at hd;cases hd
   ·cases h
end Go.D06f.U
namespace Go.D06f
open Go Go.Gw Go.Dn
instance lpI:Lp:=lpN 1000000000000
theorem loop_of{S E:Type}{step:S→Option (S⊕E)}{n:Nat}{s:S}{e:E}(h:loopN step n s=some e)(hn:n≤1000000000000):Lp.loop step s=some e:=
 loopN_more _ h hn
theorem loopN_go{S E:Type}{step:S→Option (S⊕E)}{n:Nat}{s s':S}(h:step s=some (.inl s')):loopN step (n+1) s=loopN step n s':=by simp only[loopN,h,Option.bind_some]
theorem loopN_out{S E:Type}{step:S→Option (S⊕E)}{n:Nat}{s:S}{e:E}(h:step s=some (.inr e)):loopN step (n+1) s=some e:=by simp only[loopN,h,Option.bind_some]
end Go.D06f
namespace Go.D06f
open Go Go.Gw Go.Dn
set_option maxRecDepth 100000
/-! ### names -/
theorem letter_fin: ∀b:Fin 256,token_letter ((b.val:Nat):Int)=some (isLet (UInt8.ofNat b.val),()):=by decide+kernel
theorem digit_fin: ∀b:Fin 256,token_digit ((b.val:Nat):Int)=some (isDig (UInt8.ofNat b.val),()):=by decide+kernel
theorem byteFin(b:UInt8): ∃k:Fin 256,b=UInt8.ofNat k.val:=⟨⟨b.toNat,b.toNat_lt⟩,by simp⟩
theorem token_letter_eq(c:UInt8):token_letter ((c.toNat:Nat):Int)=some (isLet c,()):=by
 obtain⟨k,rfl⟩:=byteFin c
 have:(UInt8.ofNat k.val).toNat=k.val:=by simp[Nat.mod_eq_of_lt k.isLt]
 rw[this];exact letter_fin k
theorem token_digit_eq(c:UInt8):token_digit ((c.toNat:Nat):Int)=some (isDig c,()):=by
 obtain⟨k,rfl⟩:=byteFin c
 have:(UInt8.ofNat k.val).toNat=k.val:=by simp[Nat.mod_eq_of_lt k.isLt]
 rw[this];exact digit_fin k
theorem getB_drop{s:Str}{i:Nat}{c:UInt8}{r:Str}(h:s.drop i=c::r):getB s (i:Int)=some ((c.toNat:Nat):Int)∧s.drop (i+1)=r∧i<s.length:=by
 have hi:i<s.length:=by
   rcases Nat.lt_or_ge i s.length with h1|h1
   ·exact h1
   ·rw[List.drop_of_length_le h1]at h;cases h
 rw[List.drop_eq_getElem_cons hi]at h
 cases h
 exact⟨by rw[getB_nat,List.getElem?_eq_getElem hi];rfl,rfl,hi⟩
theorem row_loop(s:Str)(hs:s.length≤1000000000): ∀(r:Str) (i:Nat),s.drop i=r→i≤s.length→loopN token_row_l1 (r.length+1) (s,((s.length:Nat):Int),(i:Int),())=some (((i+Gw.rowK r:Nat):Int),())
 | [],i,hr,hi=>by
   have h1:i=s.length:=by have:=congrArg List.length hr;simp at this;omega
   refine loopN_out ?_
   have hi: ¬((i:Int)< (s.length:Int)):=by omega
   simp only[token_row_l1,hi,decide_false,Bool.false_eq_true,if_false]
   simp[Gw.rowK,h1]
 |c::r,i,hr,_=>by
   obtain⟨h1,h2,h3⟩:=getB_drop hr
   have hi:((i:Int)< (s.length:Int)):=by omega
   rw[rowK_cons]
   have hL:isLD c=(isLet c||isDig c):=rfl
   have hgo:isLD c=true→token_row_l1 (s,((s.length:Nat):Int),(i:Int),())=some (.inl (s,((s.length:Nat):Int),((i+1:Nat):Int),())):=fun h=>by
    rw[hL]at h
    simp only[token_row_l1,hi,decide_true,if_true,h1,Option.bind_some,token_letter_eq,token_digit_eq]
    rw[wrap_i64 (by omega) (by omega)]
    cases hl:isLet c with
    |true=>rfl
    |false=>
     rw[hl]at h
     simp only[Bool.false_or]at h
     simp only[h,Bool.not_false,if_true,Bool.not_true,Bool.false_eq_true,if_false]
     rfl
   cases h:isLD c with
   |true=>
    rw[List.length_cons,loopN_go (hgo h),row_loop s hs r (i+1) h2 (by omega)]
    simp only[if_true]
    congr 3
    omega
   |false=>
    refine loopN_out ?_
    rw[hL,Bool.or_eq_false_iff]at h
    simp only[token_row_l1,hi,decide_true,if_true,h1,Option.bind_some,token_letter_eq,token_digit_eq,h.1,h.2,Bool.not_false,Bool.false_eq_true,if_false]
    rfl
theorem token_row_eq(s:Str)(hs:s.length≤1000000000):token_row s=some (((Gw.rowK s:Nat):Int),()):=by
 refine loop_of (n:=s.length+1) ?_ (by omega)
 have:=row_loop s hs s 0 rfl (Nat.zero_le _)
 simpa using this
def amongP(l s:Str):Bool:= !(s==([]:Str))&&(!(s.contains 32)&&Lib.contains l (32::(s++[32])))
theorem among_body(l s:Str)(hl:l.length≤1000000000)(hs:s.length≤1000000000):
   (if(!(s==([]:Str)))=true then
  Option.bind (strings_Contains s ([32]:Str)) fun r_1=>
  if(!r_1.1)=true then
   Option.bind (catS ([32]:Str) s) fun s_2=>
   Option.bind (catS s_2 ([32]:Str)) fun s_3=>
   Option.bind (strings_Contains l s_3) fun r_4=>
   some (r_4.1,())
  else
   some (false,())
 else
  some (false,()))=some (amongP l s,()):=by
 have c1:strings_Contains s ([32]:Str)=some (s.contains 32,()):=by
   simp only[strings_Contains,strings_Contains_x,show s.length<4294967281 by omega,if_true,mapO,contains_byte]
 have c2: ∀t,strings_Contains l t=some (Lib.contains l t,()):=fun t=>by
   simp only[strings_Contains,strings_Contains_x,show l.length<4294967281 by omega,if_true,mapO]
 have c3:catS ([32]:Str) s=some (32::s):=catS_ok (by simp;omega)
 have c4:catS (32::s) ([32]:Str)=some (32::(s++[32])):=catS_ok (by simp;omega)
 simp only[c1,c2,c3,c4,Option.bind_some,amongP]
 cases s==([]:Str)<;>cases s.contains 32<;>simp
theorem token_among_eq(l s:Str)(hl:l.length≤1000000000)(hs:s.length≤1000000000):token_among l s=some (amongP l s,()):=among_body l s hl hs
def wordsS:Str:=[32,98,114,101,97,107,32,99,97,115,101,32,99,97,116,99,104,32,99,108,97,115,115,32,99,111,110,115,116,32,99,111,110,116,105,110,117,101,32,100,101,98,117,103,103,101,114,32,100,101,102,97,117,108,116,32,100,101,108,101,116,101,32,100,111,32,101,108,115,101,32,101,110,117,109,32,101,120,112,111,114,116,32,101,120,116,101,110,100,115,32,102,97,108,115,101,32,102,105,110,97,108,108,121,32,102,111,114,32,102,117,110,99,116,105,111,110,32,105,102,32,105,109,112,108,101,109,101,110,116,115,32,105,109,112,111,114,116,32,105,110,32,105,110,115,116,97,110,99,101,111,102,32,105,110,116,101,114,102,97,99,101,32,108,101,116,32,110,101,119,32,110,117,108,108,32,112,97,99,107,97,103,101,32,112,114,105,118,97,116,101,32,112,114,111,116,101,99,116,101,100,32,112,117,98,108,105,99,32,114,101,116,117,114,110,32,115,116,97,116,105,99,32,115,117,112,101,114,32,115,119,105,116,99,104,32,116,104,105,115,32,116,104,114,111,119,32,116,114,117,101,32,116,114,121,32,116,121,112,101,111,102,32,118,97,114,32,118,111,105,100,32,119,104,105,108,101,32,119,105,116,104,32,121,105,101,108,100,32]
def wordP(s:Str):Bool:=amongP wordsS s
theorem token_IsWord_eq(s:Str)(hs:s.length≤1000000000):token_IsWord s=some (wordP s,()):=by
 show Option.bind (token_among wordsS s) _=_
 rw[token_among_eq _ _ (by decide) hs]
 rfl
/-! ### units -/
/-! ### forms -/
end Go.D06f
namespace Go.D06f.U
open Go Go.Gw Go.Dn Go.Proofs
set_option maxRecDepth 100000
theorem re33_eq'(x:T_token_cutter):re33 x=x:=by cases x;rfl
theorem re28_eq'(x:T_api_Token):re28 x=x:=by cases x;rfl
theorem hasPrefix_eq(a b:Str):strings_HasPrefix a b=some (b.isPrefixOf a,()):=rfl
theorem indexAny_eq(s:Str)(h:s.length≤1000000000):strings_IndexAny s [10,13]=some (Lib.indexAny s [10,13],()):=by
 unfold strings_IndexAny strings_IndexAny_x
 rw[if_pos ⟨by omega,rfl⟩];rfl
theorem containsAny_eq(s:Str)(h:s.length≤1000000000):strings_ContainsAny s [10,13]=some (s.any isNl,()):=by
 unfold strings_ContainsAny strings_ContainsAny_x
 rw[if_pos ⟨by omega,rfl⟩,containsAny_nl];rfl
theorem index_eq'(s t:Str)(h:s.length≤1000000000):strings_Index s t=some (Lib.index s t,()):=by
 unfold strings_Index strings_Index_x
 rw[if_pos (by omega)];rfl
theorem contains_eq'(s t:Str)(h:s.length≤1000000000):strings_Contains s t=some (Lib.contains s t,()):=by
 unfold strings_Contains strings_Contains_x
 rw[if_pos (by omega)];rfl
theorem getB_zero(c:UInt8)(r:Str):getB (c::r) 0=some ((c.toNat:Nat):Int):=rfl
theorem blanks_j2(src s:Str)(f:Bool)(n:Nat)(hn:n≤s.length)(hs:s.length≤1000000000):token_cutter_blanks_j2 (n:Int) ⟨src,s,f⟩=some (.inl (⟨src,s.drop n,f||(s.take n).any isNl⟩,())):=by
 unfold token_cutter_blanks_j2
 have e1:=cutL_to_end s n hn
 have e2:cutL s 0 (n:Int)=some (s.take n):=by
  have:=cutL_nat s 0 n (by omega) hn
  simpa using this
 have e3:=containsAny_eq (s.take n) (by simp only[List.length_take];omega)
 cases f with
 |true=>simp only[if_true,e1,Option.bind_some,Bool.true_or]
 |false=>simp only[Bool.false_eq_true,if_false,e1,e2,e3,Option.bind_some,Bool.false_or]
def outC(src:Str)(p:Str×Bool×Bool):Bool×T_token_cutter×Unit:=(p.2.2,⟨src,p.1,p.2.1⟩,())
theorem blanks_loop(src:Str): ∀(m:Nat) (s:Str) (f:Bool),s.length<m→s.length≤1000000000→loopN token_cutter_blanks_l1 m (⟨src,s,f⟩,())=some (outC src (blanksG m s f))
 |0,s,f,h,_=>by omega
 |m+1,[],f,_,_=>loopN_out rfl
 |m+1,c::r,f,hm,hs=>by
  simp only[List.length_cons]at hm
  have hr:r.length≤1000000000:=by simp only[List.length_cons]at hs;omega
  have cn:(!((c::r)==([]:Str)))=true:=rfl
  have hj4:=blanks_j2 src (c::r) f
  rw[blanksG]
  by_cases h1:isNl c=true
  ·rw[if_pos h1]
   have hc:c=10∨c=13:=by
    unfold isNl at h1
    simpa using h1
   have hstep:token_cutter_blanks_l1 (⟨src,c::r,f⟩,())=some (.inl (⟨src,r,true⟩,())):=by
    have hj:=hj4 1 (by simp) hs
    have e:(f||(((c::r).take 1).any isNl))=true:=by simp[h1]
    rw[e]at hj
    rcases hc with rfl|rfl
    ·simp only[token_cutter_blanks_l1,hasPrefix_eq,re33_eq',cn,if_true,getB_zero]
     exact hj
    ·simp only[token_cutter_blanks_l1,hasPrefix_eq,re33_eq',cn,if_true,getB_zero]
     exact hj
   rw[loopN_go hstep]
   exact blanks_loop src m r true (by omega) hr
  ·have h1':isNl c=false:=by simpa using h1
   rw[if_neg h1]
   by_cases h2:c=32∨c=9∨c=11∨c=12
   ·rw[if_pos h2]
    have hstep:token_cutter_blanks_l1 (⟨src,c::r,f⟩,())=some (.inl (⟨src,r,f⟩,())):=by
     have hj:=hj4 1 (by simp) hs
     have e:(f||(((c::r).take 1).any isNl))=f:=by simp[h1']
     rw[e]at hj
     rcases h2 with rfl|rfl|rfl|rfl
     ·simp only[token_cutter_blanks_l1,hasPrefix_eq,re33_eq',cn,if_true,getB_zero];exact hj
     ·simp only[token_cutter_blanks_l1,hasPrefix_eq,re33_eq',cn,if_true,getB_zero];exact hj
     ·simp only[token_cutter_blanks_l1,hasPrefix_eq,re33_eq',cn,if_true,getB_zero];exact hj
     ·simp only[token_cutter_blanks_l1,hasPrefix_eq,re33_eq',cn,if_true,getB_zero];exact hj
    rw[loopN_go hstep]
    exact blanks_loop src m r f (by omega) hr
   ·rw[if_neg h2]
    by_cases h3:([47,47]:Str).isPrefixOf (c::r)=true
    ·rw[if_pos h3]
     have hc:c=47:=by
      simp only[List.isPrefixOf,Bool.and_eq_true,beq_iff_eq]at h3;exact h3.1.symm
     have hdw:(c::r).dropWhile (fun x=> !isNl x)=r.dropWhile (fun x=> !isNl x):=by
      rw[List.dropWhile_cons,if_pos (by simp[h1'])]
     have hlen:=dropWhile_len (fun x=> !isNl x) r
     have hstep:token_cutter_blanks_l1 (⟨src,c::r,f⟩,())=some (.inl (⟨src,(c::r).dropWhile (fun x=> !isNl x),f⟩,())):=by
      simp only[token_cutter_blanks_l1,hasPrefix_eq,re33_eq',cn,if_true,h3,Option.bind_some,indexAny_eq _ hs]
      rcases indexAny_nl (c::r)with⟨g1,g2,g3⟩| ⟨i,g1,g2,g3,g4,g5⟩
      ·rw[g2,g3]
       have hj:=hj4 (c::r).length (Nat.le_refl _) hs
       rw[List.drop_length,List.take_length,g1,Bool.or_false]at hj
       simpa using hj
      ·have hj:=hj4 i g2 hs
       rw[g4,g5,Bool.or_false]at hj
       have cneg: ¬((i:Int)<0):=by omega
       rw[g1]
       simp only[cneg,decide_false,Bool.false_eq_true,if_false]
       exact hj
     rw[loopN_go hstep]
     exact blanks_loop src m _ f (by rw[hdw];omega) (by rw[hdw];omega)
    ·have h3':([47,47]:Str).isPrefixOf (c::r)=false:=by rw[←Bool.not_eq_true];exact h3
     rw[if_neg h3]
     by_cases h4:([47,42]:Str).isPrefixOf (c::r)=true
     ·rw[if_pos h4]
      cases r with
      |nil=>simp[List.isPrefixOf]at h4
      |cons d r=>
       simp only[List.isPrefixOf,Bool.and_true,Bool.and_eq_true,beq_iff_eq]at h4
       obtain⟨rfl,rfl⟩:=h4
       have hdrop:((47::42::r:Str)).drop 2=r:=rfl
       rw[hdrop]
       have hcut:cutL (47::42::r:Str) 2 (((47::42::r:Str).length:Nat):Int)=some r:=by
        have:=cutL_to_end (47::42::r:Str) 2 (by simp)
        exact this
       have hpre:List.isPrefixOf [47,42] (47::42::r:Str)=true:=rfl
       have hri:=index_eq' r [42,47] (by simp only[List.length_cons]at hr;omega)
       cases he:endC r with
       |none=>
        refine loopN_out ?_
        simp only[token_cutter_blanks_l1,hasPrefix_eq,re33_eq',cn,if_true,h3',hpre,Option.bind_some,Bool.false_eq_true,if_false,hcut,hri]
        rw[index_endC,he]
        rfl
       |some n=>
        have hle:=endC_le r n he
        have hstep:token_cutter_blanks_l1 (⟨src,47::42::r,f⟩,())=some (.inl (⟨src,(47::42::r:Str).drop (n+4),f||(r.take n).any isNl⟩,())):=by
         simp only[token_cutter_blanks_l1,hasPrefix_eq,re33_eq',cn,if_true,h3',hpre,Option.bind_some,Bool.false_eq_true,if_false,hcut,hri]
         rw[index_endC,he]
         have cneg: ¬(((n:Nat):Int)<0):=by omega
         have w:IntKind.wrap .i64 ((n:Int)+4)=((n+4:Nat):Int):=by rw[wrap_i64 (by omega) (by simp only[List.length_cons]at hr;omega)];omega
         simp only[cneg,decide_false,Bool.false_eq_true,if_false,w]
         have hj:=hj4 (n+4) (by simp only[List.length_cons];omega) hs
         rw[comment_nl r n he]at hj
         exact hj
        rw[loopN_go hstep]
        simp only[List.length_cons]at hm
        have hlt:((47::42::r:Str).drop (n+4)).length≤r.length:=by simp only[List.length_drop,List.length_cons];omega
        exact blanks_loop src m _ _ (by omega) (by simp only[List.length_cons]at hr;omega)
     ·have h4':([47,42]:Str).isPrefixOf (c::r)=false:=by rw[←Bool.not_eq_true];exact h4
      rw[if_neg h4]
      refine loopN_out ?_
      have ho:=other_fin ⟨c.toNat,c.toNat_lt⟩
      rw[show UInt8.ofNat (⟨c.toNat,c.toNat_lt⟩:Fin 256).val=c by simp]at ho
      obtain⟨o1,o2⟩:=ho h1' h2
      simp only at o1 o2
      have b32:((((c.toNat:Nat):Int)) !=32)=true:=by rw[bne_iff_ne];omega
      simp only[token_cutter_blanks_l1,hasPrefix_eq,re33_eq',cn,if_true,h3',h4',Option.bind_some,Bool.false_eq_true,if_false,getB_zero,b32]
      by_cases o3:c.toNat<9
      ·have d:(((c.toNat:Nat):Int)<9):=by omega
       simp only[d,decide_true,if_true];rfl
      ·have d: ¬(((c.toNat:Nat):Int)<9):=by omega
       have d2:(((c.toNat:Nat):Int)>13):=by omega
       simp only[d,d2,decide_true,decide_false,Bool.false_eq_true,if_false,if_true];rfl
theorem token_blanks_eq(cc:T_token_cutter)(hs:cc.rest.length≤1000000000):token_cutter_blanks cc=
  some ((blanksG (cc.rest.length+1) cc.rest false).2.2,⟨cc.src,(blanksG (cc.rest.length+1) cc.rest false).1,(blanksG (cc.rest.length+1) cc.rest false).2.1⟩,()):=by
 unfold token_cutter_blanks
 exact loop_of (n:=cc.rest.length+1) (blanks_loop cc.src (cc.rest.length+1) cc.rest false (by omega) hs) (by omega)
theorem ofN(c:UInt8):UInt8.ofNat c.toNat=c:=by simp
theorem wrap_succ{k:Nat}(h:k<1000000000000):IntKind.wrap .i64 ((k:Int)+1)=((k+1:Nat):Int):=by rw[wrap_i64 (by omega) (by omega)];omega
abbrev PuS:=Int×Bool×Str×Int×Int×Bool×Int×(List UInt8)×Int×Int×Unit
abbrev puS(o:Nat)(s0:Str)(cut:Int)(mx a:Nat)(t:Str)(i:Nat):PuS:=((o:Int),false,s0,cut,(mx:Int),false,(a:Int),t,((t.length:Nat):Int),(i:Int),())
def puQ(o mx:Nat)(s0:Str)(cut:Int)(t:Str)(a i:Nat)(d:Option Nat):Option (PuS⊕(Int×GErr×Unit)):=
 match d with
 |none=>some (.inr (0,.code 77 2,()))
 |some d=>if d<o then(if a*o+d≤mx then some (.inl (puS o s0 cut mx (a*o+d) t (i+1)))else some (.inr ((mx:Int),.code 77 1,())))else some (.inr (0,.code 77 2,()))
theorem pu_j18(o mx a i d:Nat)(ho:o=10∨o=16)(hm:mx≤9007199254740991)(s0 t:Str)(cut:Int)(hx:9007199254740992≤cut)(ha:a≤mx)(hi:i<1000000000000)(hd:d<256):
  strconv_ParseUint_f40_j18 (o:Int) false s0 cut (mx:Int) false (a:Int) (d:Int) t ((t.length:Nat):Int) (i:Int)=puQ o mx s0 cut t a i (some d):=by
 unfold strconv_ParseUint_f40_j18 strconv_ParseUint_f40_j19 strconv_ParseUint_f40_j20 strconv_ParseUint_f40_j21 strconv_ParseUint_f40_j22 puQ
 have wo:IntKind.wrap .u8 (o:Int)=(o:Int):=wrap_u8 (by omega) (by omega)
 have wo2:IntKind.wrap .u64 (o:Int)=(o:Int):=wrap_u64 (by omega) (by omega)
 have wd:IntKind.wrap .u64 (d:Int)=(d:Int):=wrap_u64 (by omega) (by omega)
 have hmul:a*o≤9007199254740991*16:=Nat.mul_le_mul (by omega) (by omega)
 have em:((a:Int)*(o:Int))=((a*o:Nat):Int):=by simp
 have wm:IntKind.wrap .u64 ((a:Int)*(o:Int))=((a*o:Nat):Int):=by rw[em];exact wrap_u64 (by omega) (by omega)
 have ws:IntKind.wrap .u64 (((a*o:Nat):Int)+(d:Int))=((a*o+d:Nat):Int):=by rw[wrap_u64 (by omega) (by omega)];omega
 simp only[wo,wo2,wd,wm,ws,wrap_succ hi]
 by_cases h1:d<o
 ·have c1: ¬((d:Int)≥(o:Int)):=by omega
  have c2: ¬((a:Int)≥cut):=by omega
  have c3: ¬(((a*o+d:Nat):Int)< ((a*o:Nat):Int)):=by omega
  simp only[c1,c2,c3,h1,decide_false,Bool.false_eq_true,if_false,if_true,Bool.false_or]
  by_cases h2:a*o+d≤mx
  ·have c4: ¬(((a*o+d:Nat):Int)>(mx:Int)):=by omega
   simp only[c4,h2,decide_false,Bool.false_eq_true,if_false,if_true]
  ·have c4:(((a*o+d:Nat):Int)>(mx:Int)):=by omega
   simp only[c4,h2,decide_true,if_false,if_true]
 ·have c1:((d:Int)≥(o:Int)):=by omega
  simp only[c1,h1,decide_true,if_true,if_false]
theorem pu_step(o mx a i:Nat)(ho:o=10∨o=16)(hm:mx≤9007199254740991)(s0 t:Str)(c:UInt8)(hc:t[i]? =some c)(cut:Int)(hx:9007199254740992≤cut)(ha:a≤mx)(hi:i<1000000000000):
  strconv_ParseUint_f40_l17 (puS o s0 cut mx a t i)=puQ o mx s0 cut t a i (hexV c):=by
 have hlt:i<t.length:=(List.getElem?_eq_some_iff.1 hc).1
 unfold strconv_ParseUint_f40_l17
 have c1:((i:Int)< ((t.length:Nat):Int)):=by omega
 obtain⟨f1,f2,f3⟩:=hexV_fin ⟨c.toNat,c.toNat_lt⟩
 rw[ofN]at f1 f2 f3
 simp only at f1 f2 f3
 simp only[c1,decide_true,if_true,getI_nat,hc,Option.bind_some,Bool.and_false,Bool.false_eq_true,if_false,lower_eq']
 by_cases g1:48≤c.toNat∧c.toNat≤57
 ·have d1:((48:Int)≤((c.toNat:Nat):Int)):=by omega
  have d2:(((c.toNat:Nat):Int)≤57):=by omega
  have w:IntKind.wrap .u8 (((c.toNat:Nat):Int) -48)=((c.toNat -48:Nat):Int):=by rw[wrap_u8 (by omega) (by omega)];omega
  simp only[d1,d2,decide_true,Bool.and_self,if_true,w]
  rw[pu_j18 o mx a i _ ho hm s0 t cut hx ha hi (by omega),f1 g1]
 ·have d1:((decide ((48:Int)≤((c.toNat:Nat):Int)))&&(decide (((c.toNat:Nat):Int)≤57)))=false:=by
   rw[←Bool.not_eq_true,Bool.and_eq_true,decide_eq_true_eq,decide_eq_true_eq];omega
  simp only[d1,Bool.false_eq_true,if_false]
  have hlow:lowN c.toNat<256:=by unfold lowN;exact(BitVec.ofNat 8 c.toNat|||32#8).isLt
  by_cases g2:97≤lowN c.toNat
  ·have e2:((97:Int)≤((lowN c.toNat:Nat):Int)):=by omega
   simp only[e2,decide_true,if_true]
   by_cases g3:lowN c.toNat≤122
   ·have e3:(((lowN c.toNat:Nat):Int)≤122):=by omega
    have w1:IntKind.wrap .u8 (((lowN c.toNat:Nat):Int) -97)=((lowN c.toNat -97:Nat):Int):=by rw[wrap_u8 (by omega) (by omega)];omega
    have w2:IntKind.wrap .u8 (((lowN c.toNat -97:Nat):Int)+10)=((lowN c.toNat -87:Nat):Int):=by rw[wrap_u8 (by omega) (by omega)];omega
    simp only[e3,decide_true,if_true,w1,w2]
    rw[pu_j18 o mx a i _ ho hm s0 t cut hx ha hi (by omega),f2 g1 g2 g3]
    split
    ·rfl
    ·rename_i g4
     unfold puQ
     have: ¬(lowN c.toNat -87<o):=by omega
     simp only[this,if_false]
   ·have e3: ¬(((lowN c.toNat:Nat):Int)≤122):=by omega
    simp only[e3,decide_false,Bool.false_eq_true,if_false]
    rw[f3 g1 (by omega)];rfl
  ·have e2: ¬((97:Int)≤((lowN c.toNat:Nat):Int)):=by omega
   simp only[e2,decide_false,Bool.false_eq_true,if_false]
   rw[f3 g1 (by omega)];rfl
def okM(mx o:Nat)(t:Str)(a:Nat):Option Nat:=match parsN o t a with
 |none=>none
 |some n=>if n≤mx then some n else none
def PuE(e:Int×GErr×Unit)(q:Option Nat):Prop:=match q with
 |some r=>e=((r:Int),.nil,())
 |none=>∃v,e=(v,.code 77 2,())∨e=(v,.code 77 1,())
theorem pu_loop(o mx:Nat)(ho:o=10∨o=16)(hm:mx≤9007199254740991)(s0 t:Str)(ht:t.length≤1000000000)(cut:Int)(hx:9007199254740992≤cut): ∀(n i a:Nat),n+i=t.length→a≤mx→
  ∃e,loopN strconv_ParseUint_f40_l17 (n+1) (puS o s0 cut mx a t i)=some e∧PuE e (okM mx o (t.drop i) a):=by
 intro n
 induction n with
 |zero=>
  intro i a hi ha
  have hd:t.drop i=[]:=List.drop_eq_nil_of_le (by omega)
  rw[hd]
  refine⟨((a:Int),.nil,()),loopN_out ?_,?_⟩
  ·unfold strconv_ParseUint_f40_l17
   have c1: ¬((i:Int)< ((t.length:Nat):Int)):=by omega
   simp only[c1,decide_false,Bool.false_eq_true,if_false]
  ·unfold okM parsN PuE
   simp only[ha,if_true]
 |succ n ih=>
  intro i a hi ha
  have hlt:i<t.length:=by omega
  have hst:=pu_step o mx a i ho hm s0 t t[i] (List.getElem?_eq_getElem hlt) cut hx ha (by omega)
  rw[List.drop_eq_getElem_cons hlt]
  unfold okM parsN
  cases hv:hexV t[i]with
  |none=>
   rw[hv]at hst
   exact⟨_,loopN_out hst,0,.inl rfl⟩
  |some d=>
   rw[hv]at hst
   unfold puQ at hst
   simp only at hst⊢
   by_cases h1:d<o
   ·simp only[h1,if_true]at hst⊢
    by_cases h2:a*o+d≤mx
    ·simp only[h2,if_true]at hst
     rw[loopN_go hst]
     exact ih (i+1) (a*o+d) (by omega) h2
    ·simp only[h2,if_false]at hst
     refine⟨_,loopN_out hst,?_⟩
     cases hp:parsN o (t.drop (i+1)) (a*o+d)with
     |none=>exact⟨_,.inr rfl⟩
     |some r=>
      have:=parsN_ge (by omega) _ _ _ hp
      have h3: ¬(r≤mx):=by omega
      simp only[h3,if_false]
      exact⟨_,.inr rfl⟩
   ·simp only[h1,if_false]at hst⊢
    exact⟨_,loopN_out hst,0,.inl rfl⟩
theorem parseU_eq(o b mx:Nat)(ho:o=10∨o=16)(hb:b=53∧mx=9007199254740991∨b=16∧mx=65535)(t:Str)(h0:t≠[])(ht:t.length≤1000000000):
  ∃v,strconv_ParseUint t (o:Int) (b:Int)=some (match okM mx o t 0 with|some r=>((r:Int),GErr.nil,())|none=>(v,GErr.opq,())):=by
 have key: ∃e,strconv_ParseUint_f40 t (o:Int) (b:Int)=some e∧PuE e (okM mx o t 0):=by
  have c:(t==([]:Str))=false:=by simpa using h0
  have sh:shlI .u64 1 (IntKind.wrap .u64 (b:Int))=some ((mx:Int)+1):=by
   rcases hb with⟨rfl,rfl⟩| ⟨rfl,rfl⟩<;>decide
  have wm:IntKind.wrap .u64 ((mx:Int)+1 -1)=(mx:Int):=by rw[wrap_u64 (by omega) (by omega)];omega
  have fin: ∀cut:Int,9007199254740992≤cut→∃e,Lp.loop strconv_ParseUint_f40_l17 (puS o t cut mx 0 t 0)=some e∧PuE e (okM mx o t 0):=fun cut hx=>by
   obtain⟨e,e1,e2⟩:=pu_loop o mx ho (by omega) t t ht cut hx t.length 0 0 (by omega) (by omega)
   rw[List.drop_zero]at e2
   exact⟨e,loop_of e1 (by omega),e2⟩
  unfold strconv_ParseUint_f40 strconv_ParseUint_f40_j9 strconv_ParseUint_f40_j11 strconv_ParseUint_f40_j12 strconv_ParseUint_f40_j13 strconv_ParseUint_f40_j14 strconv_ParseUint_f40_j15
  have b1:((decide ((2:Int)≤(o:Int)))&&(decide ((o:Int)≤36)))=true:=by
   rw[decide_eq_true (by omega),decide_eq_true (by omega)];rfl
  have b2:((o:Int)==0)=false:=by rw[beq_eq_false_iff_ne];omega
  have b3:((b:Int)==0)=false:=by rw[beq_eq_false_iff_ne];omega
  have b4:((decide ((b:Int)<0))||(decide ((b:Int)>64)))=false:=by
   rw[decide_eq_false (by omega),decide_eq_false (by omega)];rfl
  simp only[c,b1,b2,b3,b4,Bool.false_eq_true,if_false,if_true,sh,Option.bind_some,wm]
  rcases ho with rfl|rfl
  ·exact fin 1844674407370955162 (by decide)
  ·exact fin 1152921504606846976 (by decide)
 obtain⟨e,e1,e2⟩:=key
 unfold strconv_ParseUint strconv_toError
 rw[e1,Option.bind_some]
 cases hk:okM mx o t 0 with
 |some r=>
  rw[hk]at e2
  obtain rfl:e=((r:Int),.nil,()):=e2
  exact⟨0,rfl⟩
 |none=>
  rw[hk]at e2
  obtain⟨v,rfl|rfl⟩: ∃v,e=(v,.code 77 2,())∨e=(v,.code 77 1,()):=e2
  ·refine⟨v,?_⟩
   simp only[GErr.isNil,Bool.not_false,if_true]
   rw[if_pos ⟨by omega,by simp⟩];rfl
  ·refine⟨v,?_⟩
   simp only[GErr.isNil,Bool.not_false,if_true]
   rw[if_pos ⟨by omega,by simp⟩];rfl
theorem parse53_eq(o:Nat)(ho:o=10∨o=16)(t:Str)(h0:t≠[])(ht:t.length≤1000000000):
  ∃v,strconv_ParseUint t (o:Int) 53=some (match okN o t 0 with|some r=>((r:Int),GErr.nil,())|none=>(v,GErr.opq,())):=
 parseU_eq o 53 9007199254740991 ho (.inl ⟨rfl,rfl⟩) t h0 ht
theorem hexN_parsN: ∀(t:Str) (a n:Nat),hexN t.length t a=some n→parsN 16 t a=some n
 | [],a,n,h=>h
 |c::r,a,n,h=>by
  rw[List.length_cons]at h
  unfold hexN at h
  unfold parsN
  cases hv:hexV c with
  |none=>rw[hv]at h;cases h
  |some d=>
   rw[hv]at h
   simp only at h⊢
   rw[if_pos (hexV_lt hv),Nat.mul_comm a 16]
   exact hexN_parsN r _ n h
theorem parse_eq(t:Str)(n:Nat)(h0:t≠[])(h1:t.length≤4)(h2:hexN t.length t 0=some n):strconv_ParseUint t 16 16=some ((n:Int),.nil,()):=by
 obtain⟨v,hv⟩:=parseU_eq 16 16 65535 (.inr rfl) (.inr ⟨rfl,rfl⟩) t h0 (by omega)
 have hl:=hexN_lt _ _ _ _ h2
 have hp:16^t.length≤16^4:=Nat.pow_le_pow_right (by omega) h1
 have hn:n≤65535:=by
  have h4:(16:Nat)^4=65536:=by decide
  omega
 have hv:strconv_ParseUint t 16 16=_:=hv
 rw[hv]
 unfold okM
 rw[hexN_parsN t 0 n h2]
 simp only[hn,if_true]
theorem units_unit_eq(n:Nat)(h:n<65536):units_unit (n:Int)=some (enc1 n,()):=by
 have e1:Int.fdiv (n:Int) (2^8)=((n/256:Nat):Int):=by rw[Int.fdiv_eq_ediv_of_nonneg _ (by omega)];rfl
 have w1:IntKind.wrap .u8 ((n/256:Nat):Int)=((n/256:Nat):Int):=wrap_u8 (by omega) (by omega)
 have w2:IntKind.wrap .u8 (n:Int)=((n%256:Nat):Int):=by rw[wrap_u8_mod];omega
 have t1:toB ((n/256:Nat):Int)=some (UInt8.ofNat (n/256)):=by unfold toB;rw[if_pos (by omega)];rfl
 have t2:toB ((n%256:Nat):Int)=some (UInt8.ofNat (n%256)):=by unfold toB;rw[if_pos (by omega)];rfl
 unfold units_unit
 simp only[e1,w1,w2,t1,t2,Option.bind_some]
 rfl
theorem builder_write(x s2 l:Str)(h:l.length+x.length≤274877906944):strings_Builder_WriteString x s2 l=some (((x.length:Nat):Int),GErr.nil,s2,l++x,()):=by
 unfold strings_Builder_WriteString
 rw[room_ok (by omega)]
 rfl
theorem digits_eq(s:Str)(acc:List Nat)(k:Nat)(hk:k=2∨k=4)(hs:s.length≤100000000)(ha:acc.length≤100000000):
  ∃r,units_reader_digits (k:Int) s (encL acc)=some r∧(match hexN k s 0 with
   |none=>r.1=false
   |some n=>r=(true,s.drop k,encL (acc++[n]),())):=by
 unfold units_reader_digits
 by_cases hl:s.length<k
 ·have c:((((s.length:Nat):Int))< (k:Int)):=by omega
  simp only[c,decide_true,if_true]
  refine⟨_,rfl,?_⟩
  cases hn:hexN k s 0 with
  |none=>rfl
  |some n=>have:=hexN_len _ _ _ _ hn;omega
 ·have c: ¬((((s.length:Nat):Int))< (k:Int)):=by omega
  have hcut:cutL s 0 (k:Int)=some (s.take k):=by
   have:=cutL_nat s 0 k (by omega) (by omega)
   simpa using this
  have hlen:(s.take k).length=k:=by rw[List.length_take];omega
  have htrim:strings_Trim (s.take k) ([48,49,50,51,52,53,54,55,56,57,97,98,99,100,101,102,65,66,67,68,69,70]:Str)=some (Lib.trimS (s.take k) hexCs,()):=by
   unfold strings_Trim strings_Trim_x
   rw[if_pos ⟨by omega,by decide,by decide⟩];rfl
  have hsome:=hexN_isSome (s.take k) 0
  rw[hlen,hexN_take k s 0 (by omega)]at hsome
  simp only[c,decide_false,Bool.false_eq_true,if_false,hcut,Option.bind_some,htrim,trimS_nil,←hsome]
  cases hn:hexN k s 0 with
  |none=>exact⟨_,rfl,rfl⟩
  |some n=>
   have hparse:=parse_eq (s.take k) n (by intro h;rw[h]at hlen;simp at hlen;omega) (by omega) (by rw[hlen,hexN_take k s 0 (by omega)];exact hn)
   have hp2:strconv_ParseUint (s.take k) 16 16=some ((n:Int),GErr.nil,()):=hparse
   have hn2:n<65536:=by
    have:=hexN_lt _ _ _ _ hn
    rcases hk with rfl|rfl<;>omega
   have hend:=cutL_to_end s k (by omega)
   have w:IntKind.wrap .i64 (n:Int)=(n:Int):=wrap_i64 (by omega) (by omega)
   have hbw:=builder_write (enc1 n) (s.drop k) (encL acc) (by simp only[encL_length];simp[enc1];omega)
   simp only[Option.isSome_some,Bool.not_true,Bool.false_eq_true,if_false,hcut,Option.bind_some,hp2,hend,w,units_unit_eq n hn2,hbw]
   refine⟨_,rfl,?_⟩
   simp[encL]
theorem idx_esc: ∀b:Fin 256,strings_IndexByte ([110,116,114,98,102,118]:Str) ((b.val:Nat):Int)=some (if b.val=110 then 0 else if b.val=116 then 1 else if b.val=114 then 2 else if b.val=98 then 3 else if b.val=102 then 4 else if b.val=118 then 5 else -1,()):=by decide+kernel
theorem idx_esc'(b:UInt8):strings_IndexByte ([110,116,114,98,102,118]:Str) ((b.toNat:Nat):Int)=some (if b.toNat=110 then 0 else if b.toNat=116 then 1 else if b.toNat=114 then 2 else if b.toNat=98 then 3 else if b.toNat=102 then 4 else if b.toNat=118 then 5 else -1,()):=idx_esc ⟨b.toNat,b.toNat_lt⟩
theorem escape_eq(s:Str)(acc:List Nat)(hs:s.length≤100000000)(ha:acc.length≤100000000):
  ∃r,units_reader_escape s (encL acc)=some r∧(match escS s with
   |none=>r.1=false
   |some (us,k)=>r=(true,s.drop k,encL (acc++us),())):=by
 unfold units_reader_escape
 cases s with
 |nil=>exact⟨_,rfl,rfl⟩
 |cons c r=>
  have hb:=c.toNat_lt
  have g0:getB (c::r) 0=some ((c.toNat:Nat):Int):=rfl
  have hcut:cutL (c::r) 1 (((c::r).length:Nat):Int)=some r:=by
   have:=cutL_to_end (c::r) 1 (by simp)
   simpa using this
  have hr:r.length≤100000000:=by simp only[List.length_cons]at hs;omega
  have write: ∀n:Nat,n<65536→strings_Builder_WriteString (enc1 n) r (encL acc)=some (2,.nil,r,encL (acc++[n]),()):=by
   intro n hn
   rw[builder_write _ _ _ (by simp only[encL_length];simp[enc1];omega)]
   simp[encL,enc1]
  have wi: ∀n:Nat,n<65536→IntKind.wrap .i64 (n:Int)=(n:Int):=fun n hn=>wrap_i64 (by omega) (by omega)
  have c0:((c::r:Str)==([]:Str))=false:=rfl
  simp only[c0,Bool.false_eq_true,if_false,g0,Option.bind_some,hcut,idx_esc']
  have tn: ∀n:Nat,n<256→(c=UInt8.ofNat n↔c.toNat=n):=u8_eq_iff c
  have spec:escS (c::r)=if c.toNat=10 then some ([],1)else if c.toNat=48 then(match r with
   | []=>some ([0],1)
   |d::_=>if 48≤d.toNat∧d.toNat≤57 then none else some ([0],1))
   else if c.toNat=120 then(hexN 2 r 0).map fun n=>([n],3)
   else if c.toNat=117 then(hexN 4 r 0).map fun n=>([n],5)
   else(simpleV c).map fun n=>([n],1):=by
   simp only[escS,←tn 10 (by omega),←tn 48 (by omega),←tn 120 (by omega),←tn 117 (by omega)];rfl
  have simp':simpleV c=if c.toNat=110 then some 10 else if c.toNat=116 then some 9 else if c.toNat=114 then some 13 else if c.toNat=98 then some 8 else if c.toNat=102 then some 12 else if c.toNat=118 then some 11
    else if c.toNat>127∨c.toNat=13∨c.toNat=120∨c.toNat=117∨(48≤c.toNat∧c.toNat≤57)∨c.toNat=10 then none else some c.toNat:=by
   simp only[simpleV,←tn 110 (by omega),←tn 116 (by omega),←tn 114 (by omega),←tn 98 (by omega),←tn 102 (by omega),←tn 118 (by omega),←tn 13 (by omega),←tn 120 (by omega),←tn 117 (by omega),←tn 10 (by omega)];rfl
  rw[spec,simp']
  clear spec simp' tn
  generalize hk:c.toNat=k at*
  have small: ∀(j m:Nat) (v:Int),v=(j:Int)→([10,9,13,8,12,11]:Str)[j]? =some (UInt8.ofNat m)→m<256→
    ∃r0,(if decide (v≥0)=true then
     Option.bind (getB ([10,9,13,8,12,11]:Str) v) fun v7=>
     Option.bind (units_unit (IntKind.wrap .i64 v7)) fun v8=>
     Option.bind (strings_Builder_WriteString v8.1 r (encL acc)) fun v9=>
     some (true,v9.2.2.1,v9.2.2.2.1,())else none)=some r0∧r0=(true,(c::r).drop 1,encL (acc++[m]),()):=by
   intro j m v hv hj hm
   subst hv
   have cc:((j:Int)≥0):=by omega
   have e:(UInt8.ofNat m).toNat=m:=by simp[UInt8.toNat_ofNat'];omega
   simp only[cc,decide_true,if_true,getB_nat,hj,Option.map_some,Option.bind_some,e,wi m (by omega),units_unit_eq m (by omega),write m (by omega)]
   exact⟨_,rfl,rfl⟩
  by_cases h110:k=110
  ·subst h110;simpa using small 0 10 0 rfl rfl (by omega)
  by_cases h116:k=116
  ·subst h116;simpa using small 1 9 1 rfl rfl (by omega)
  by_cases h114:k=114
  ·subst h114;simpa using small 2 13 2 rfl rfl (by omega)
  by_cases h98:k=98
  ·subst h98;simpa using small 3 8 3 rfl rfl (by omega)
  by_cases h102:k=102
  ·subst h102;simpa using small 4 12 4 rfl rfl (by omega)
  by_cases h118:k=118
  ·subst h118;simpa using small 5 11 5 rfl rfl (by omega)
  have m1: ¬((-1:Int)≥0):=by decide
  simp only[h110,h116,h114,h98,h102,h118,if_false,m1,decide_false,Bool.false_eq_true]
  have cc: ∀m:Nat,((k:Int)==((m:Nat):Int))=decide (k=m):=fun m=>natcast_beq k m
  have c10:((k:Int)==10)=decide (k=10):=cc 10
  have c120:((k:Int)==120)=decide (k=120):=cc 120
  have c117:((k:Int)==117)=decide (k=117):=cc 117
  have c48:((k:Int)==48)=decide (k=48):=cc 48
  have c13:((k:Int)==13)=decide (k=13):=cc 13
  simp only[c10,c120,c117,c48,c13,decide_eq_true_eq]
  by_cases h10:k=10
  ·rw[if_pos h10,if_pos h10]
   exact⟨_,rfl,by simp⟩
  rw[if_neg h10,if_neg h10]
  by_cases h120:k=120
  ·have h48: ¬k=48:=by omega
   rw[if_pos h120,if_neg h48,if_pos h120]
   obtain⟨x,e1,e2⟩:=digits_eq r acc 2 (.inl rfl) hr ha
   have e1':units_reader_digits 2 r (encL acc)=some x:=e1
   rw[e1']
   refine⟨_,rfl,?_⟩
   cases hn:hexN 2 r 0 with
   |none=>rw[hn]at e2;exact e2
   |some n=>rw[hn]at e2;simp only at e2;subst e2;simp
  rw[if_neg h120]
  by_cases h117:k=117
  ·have h48: ¬k=48:=by omega
   rw[if_pos h117,if_neg h48,if_neg h120,if_pos h117]
   obtain⟨x,e1,e2⟩:=digits_eq r acc 4 (.inr rfl) hr ha
   have e1':units_reader_digits 4 r (encL acc)=some x:=e1
   rw[e1']
   refine⟨_,rfl,?_⟩
   cases hn:hexN 4 r 0 with
   |none=>rw[hn]at e2;exact e2
   |some n=>rw[hn]at e2;simp only at e2;subst e2;simp
  rw[if_neg h117]
  by_cases h48:k=48
  ·rw[if_pos h48,if_pos h48]
   have w0:=write 0 (by omega)
   have u0:units_unit 0=some (enc1 0,()):=units_unit_eq 0 (by omega)
   simp only[u0,Option.bind_some,w0]
   cases r with
   |nil=>exact⟨_,rfl,by simp⟩
   |cons d r'=>
    have gd0:getB (d::r') 0=some ((d.toNat:Nat):Int):=rfl
    have cn:((d::r':Str)==([]:Str))=false:=rfl
    simp only[cn,Bool.false_eq_true,if_false,gd0,Option.bind_some]
    by_cases hd1:d.toNat<48
    ·have cd:((d.toNat:Nat):Int)<48:=by omega
     have cd2: ¬(48≤d.toNat∧d.toNat≤57):=by omega
     simp only[cd,decide_true,if_true,cd2,if_false]
     exact⟨_,rfl,by simp⟩
    ·have cd: ¬((d.toNat:Nat):Int)<48:=by omega
     simp only[cd,decide_false,Bool.false_eq_true,if_false]
     by_cases hd2:d.toNat≤57
     ·have cd2:(48≤d.toNat∧d.toNat≤57):=by omega
      have cd3: ¬((d.toNat:Nat):Int)>57:=by omega
      simp only[cd2,and_self,if_true,cd3,decide_false]
      exact⟨_,rfl,by simp⟩
     ·have cd2: ¬(48≤d.toNat∧d.toNat≤57):=by omega
      have cd3:((d.toNat:Nat):Int)>57:=by omega
      simp only[cd2,if_false,cd3,decide_true]
      exact⟨_,rfl,by simp⟩
  rw[if_neg h48,if_neg h48,if_neg h120,if_neg h117]
  by_cases hbad:k>127∨k=13∨k=120∨k=117∨(48≤k∧k≤57)∨k=10
  ·have cb:((decide (k=13)||(decide ((k:Int)≥49)&&decide ((k:Int)≤57)))||decide ((k:Int)≥128))=true:=by
    simp only[Bool.or_eq_true,Bool.and_eq_true,decide_eq_true_eq];omega
   rw[if_pos hbad,cb,if_pos rfl]
   exact⟨_,rfl,rfl⟩
  ·have cb:((decide (k=13)||(decide ((k:Int)≥49)&&decide ((k:Int)≤57)))||decide ((k:Int)≥128))=false:=by
    simp only[Bool.or_eq_false_iff,Bool.and_eq_false_iff,decide_eq_false_iff_not];omega
   rw[if_neg hbad,cb,if_neg (by simp)]
   simp only[wi k (by omega),units_unit_eq k (by omega),Option.bind_some,write k (by omega)]
   exact⟨_,rfl,by simp⟩
theorem units_Read_loop(q:UInt8)(s0:Str)(hs:(q::s0).length≤100000000): ∀(m:Nat) (rest:Str) (acc:List Nat),rest.length<m→rest.length≤s0.length→acc.length+rest.length≤100000000→okU acc→
  loopN units_Read_l1 m (q::s0,rest,encL acc,())=some ((endU q (q::s0) m rest acc).1,(endU q (q::s0) m rest acc).2.1,(endU q (q::s0) m rest acc).2.2,()):=by
 intro m
 induction m with
 |zero=>intro rest acc h;omega
 |succ m ih=>
  intro rest acc h1 h2 h3 h4
  cases rest with
  |nil=>exact loopN_out rfl
  |cons c r=>
   have hb:=c.toNat_lt
   have g0:getB (c::r) 0=some ((c.toNat:Nat):Int):=rfl
   have gq:getB (q::s0) 0=some ((q.toNat:Nat):Int):=rfl
   have hcut:cutL (c::r) 1 (((c::r).length:Nat):Int)=some r:=by
    have:=cutL_to_end (c::r) 1 (by simp)
    simpa using this
   have c0:((c::r:Str)==([]:Str))=false:=rfl
   have hq:((((c.toNat:Nat):Int))==((q.toNat:Nat):Int))=decide (c=q):=by rw[natcast_beq];simp[UInt8.toNat_inj]
   have u8b: ∀n:Nat,n<256→((((c.toNat:Nat):Int))==((n:Nat):Int))=decide (c=UInt8.ofNat n):=fun n h=>by
    rw[natcast_beq,decide_eq_decide];exact(u8_eq_iff _ n h).symm
   have e10:((((c.toNat:Nat):Int))==10)=decide (c=10):=u8b 10 (by omega)
   have e13:((((c.toNat:Nat):Int))==13)=decide (c=13):=u8b 13 (by omega)
   have e92:((((c.toNat:Nat):Int))==92)=decide (c=92):=u8b 92 (by omega)
   have b92:((((c.toNat:Nat):Int)) !=92)= !decide (c=92):=by unfold bne;rw[e92]
   have w:IntKind.wrap .i64 ((((q::s0).length:Nat):Int) - ((r.length:Nat):Int))=(((q::s0).length -r.length:Nat):Int):=by
    have:r.length≤(q::s0).length:=by simp only[List.length_cons]at h2⊢;omega
    rw[wrap_i64 (by omega) (by omega)];omega
   have head:units_Read_l1 (q::s0,c::r,encL acc,())=(if c=q then some (.inr (encL acc,(((q::s0).length -r.length:Nat):Int),0,()))
     else
      if(c=10∨c=13∨c.toNat>127)then some (.inr ([],0,10,()))
      else
       if c=92 then
        Option.bind (units_reader_escape r (encL acc)) fun r_16=>
         if(!r_16.1)=true then some (Sum.inr (([]:Str),0,10,()))
         else some (Sum.inl (q::s0,r_16.2.1,r_16.2.2.1,()))
       else some (.inl (q::s0,r,encL (acc++[c.toNat]),()))):=by
    simp only[units_Read_l1,c0,Bool.not_false,if_true,g0,gq,hcut,Option.bind_some,fk_self,hq,e10,e13,e92,b92,w]
    by_cases hcq:c=q
    ·simp only[hcq,decide_true,if_true]
    ·simp only[hcq,decide_false,Bool.false_eq_true,if_false]
     by_cases hbad:c=10∨c=13∨c.toNat>127
     ·have cb:((decide (c=10)||decide (c=13))||decide (((c.toNat:Nat):Int)≥128))=true:=by
       simp only[Bool.or_eq_true,decide_eq_true_eq]
       rcases hbad with h|h|h
       ·exact .inl (.inl h)
       ·exact .inl (.inr h)
       ·right;omega
      rw[cb,if_pos hbad]
      rfl
     ·have cb:((decide (c=10)||decide (c=13))||decide (((c.toNat:Nat):Int)≥128))=false:=by
       simp only[Bool.or_eq_false_iff,decide_eq_false_iff_not]
       refine⟨⟨fun h=>hbad (.inl h),fun h=>hbad (.inr (.inl h))⟩,fun h=>hbad (.inr (.inr (by omega)))⟩
      rw[cb,if_neg hbad]
      simp only[Bool.false_eq_true,if_false]
      by_cases h92:c=92
      ·simp only[h92,decide_true,if_true,Bool.not_true,Bool.false_eq_true,if_false]
      ·have w2:IntKind.wrap .i64 ((c.toNat:Nat):Int)=((c.toNat:Nat):Int):=wrap_i64 (by omega) (by omega)
       have hw:=builder_write (enc1 c.toNat) r (encL acc) (by simp only[encL_length];simp[enc1];omega)
       simp only[h92,decide_false,Bool.false_eq_true,if_false,Bool.not_false,if_true,w2,units_unit_eq c.toNat (by omega),Option.bind_some,hw]
       simp[encL]
   by_cases hcq:c=q
   ·rw[if_pos hcq]at head
    refine(loopN_out head).trans ?_
    unfold endU readG
    simp only[hcq,if_true]
   ·rw[if_neg hcq]at head
    by_cases hbad:c=10∨c=13∨c.toNat>127
    ·rw[if_pos hbad]at head
     refine(loopN_out head).trans ?_
     unfold endU readG
     simp only[hcq,hbad,if_true,if_false]
    ·rw[if_neg hbad]at head
     by_cases h92:c=92
     ·rw[if_pos h92]at head
      obtain⟨x,e1,e2⟩:=escape_eq r acc (by simp only[List.length_cons]at h3;omega) (by omega)
      rw[e1]at head
      simp only[Option.bind_some]at head
      cases hesc:escS r with
      |none=>
       rw[hesc]at e2
       simp only at e2
       rw[e2]at head
       refine(loopN_out head).trans ?_
       unfold endU readG
       rw[if_neg hcq,if_neg hbad,if_pos h92,hesc]
      |some p=>
       obtain⟨us,k⟩:=p
       rw[hesc]at e2
       simp only at e2
       obtain⟨p1,p2,p3,p4⟩:=escS_some hesc
       subst e2
       have hgo:units_Read_l1 (q::s0,c::r,encL acc,())=some (.inl (q::s0,r.drop k,encL (acc++us),())):=head
       have hacc:okU (acc++us):=by
        intro n hn
        rcases List.mem_append.mp hn with h|h
        · exact h4 n h
        · exact p1 n h
       simp only[List.length_cons]at h1 h2 h3
       have g1:=ih (r.drop k) (acc++us) (by simp;omega) (by simp;omega) (by simp;omega) hacc
       refine(loopN_go hgo).trans (g1.trans ?_)
       unfold endU
       conv=>rhs;unfold readG
       rw[if_neg hcq,if_neg hbad,if_pos h92,hesc]
     ·rw[if_neg h92]at head
      have hacc:okU (acc++[c.toNat]):=by
       intro n hn
       rcases List.mem_append.mp hn with h|h
       ·exact h4 n h
       ·simp at h;omega
      simp only[List.length_cons]at h1 h2 h3
      have g1:=ih r (acc++[c.toNat]) (by omega) (by omega) (by simp;omega) hacc
      refine(loopN_go head).trans (g1.trans ?_)
      unfold endU
      conv=>rhs;unfold readG
      rw[if_neg hcq,if_neg hbad,if_neg h92]
theorem units_Read_eq(s:Str)(hs:s.length≤100000000):units_Read s=some ((readS s).1,(readS s).2.1,(readS s).2.2,()):=by
 unfold units_Read
 cases s with
 |nil=>rfl
 |cons q s0=>
  have gq:getB (q::s0) 0=some ((q.toNat:Nat):Int):=rfl
  have c0:((q::s0:Str)==([]:Str))=false:=rfl
  have b39:(((q.toNat:Nat):Int) !=39)= !decide (q=39):=u8_bne q 39 (by omega)
  have b34:(((q.toNat:Nat):Int) !=34)= !decide (q=34):=u8_bne q 34 (by omega)
  have hcut:cutL (q::s0) 1 (((q::s0).length:Nat):Int)=some s0:=by
   have:=cutL_to_end (q::s0) 1 (by simp)
   simpa using this
  simp only[c0,Bool.false_eq_true,if_false,gq,Option.bind_some,b39,b34,hcut]
  have good:(q=39∨q=34)→Lp.loop units_Read_l1 (q::s0,s0,[],())=some ((readS (q::s0)).1,(readS (q::s0)).2.1,(readS (q::s0)).2.2,()):=by
   intro hq
   have g1:=units_Read_loop q s0 hs (s0.length+1) s0 [] (by omega) (by omega) (by simp only[List.length_cons]at hs;simp;omega) (by intro n hn;cases hn)
   have hfin:readS (q::s0)=endU q (q::s0) (s0.length+1) s0 []:=by
    unfold readS endU
    simp only[hq,if_true]
   rw[hfin]
   simp only[List.length_cons]at hs
   exact loop_of g1 (by omega)
  by_cases h39:q=39
  ·have d39:decide (q=39)=true:=by rw[decide_eq_true_eq];exact h39
   simp only[d39,Bool.not_true,Bool.false_eq_true,if_false,Option.bind_some]
   exact good (.inl h39)
  ·have d39:decide (q=39)=false:=by rw[decide_eq_false_iff_not];exact h39
   simp only[d39,Bool.not_false,if_true]
   by_cases h34:q=34
   ·have d34:decide (q=34)=true:=by rw[decide_eq_true_eq];exact h34
    simp only[d34,Bool.not_true,Option.bind_some,Bool.false_eq_true,if_false]
    exact good (.inr h34)
   ·have d34:decide (q=34)=false:=by rw[decide_eq_false_iff_not];exact h34
    have:readS (q::s0)=([],0,10):=by
     unfold readS;simp only[h39,h34,or_self,if_false]
    rw[this]
    simp only[d34,Bool.not_false]
    rfl
theorem getB_at(s:Str)(n:Nat)(c:UInt8)(h:s[n]? =some c):getB s (n:Int)=some ((c.toNat:Nat):Int):=by
 unfold getB;rw[if_pos (by omega)];simp[h]
theorem beq_dec{α:Type}[BEq α][LawfulBEq α][DecidableEq α](a b:α):(a==b)=decide (a=b):=by
 rw[Bool.eq_iff_iff];simp
def ansK(o:Nat)(t:Str)(k:Int)(x:T_token_cutter):Int×Int×T_token_cutter×Unit:=match okN o t 0 with
 |some r=>((r:Int),k,x,())
 |none=>(0,0,x,())
theorem number_j5(o:Nat)(ho:o=10∨o=16)(t:Str)(h0:t≠[])(ht:t.length≤1000000000)(k:Int)(x:T_token_cutter):(Option.bind (strconv_ParseUint t (o:Int) 53) fun r_12=>
   if(!(r_12.2.1).isNil)=true then
    some ((0:Int),(0:Int),x,())
   else
    Option.bind (strings_Contains t ([95]:Str)) fun r_13=>
    if r_13.1=true then
     some (0,0,x,())
    else
     some ((IntKind.wrap .i64 r_12.1),k,x,()))=some (ansK o t k x):=by
 obtain⟨v,hv⟩:=parse53_eq o ho t h0 ht
 rw[hv]
 unfold ansK
 cases hk:okN o t 0 with
 |none=>rfl
 |some r=>
   have hr:r≤9007199254740991∧parsN o t 0=some r:=by
     unfold okN at hk
     split at hk
     · cases hk
     · split at hk
       · rename_i h1 h2;cases hk;exact⟨h2,h1⟩
       · cases hk
   simp only[Option.bind_some,GErr.isNil,Bool.not_true,Bool.false_eq_true,if_false]
   rw[contains_eq' t [95] ht,contains_byte,parsN_no95 t 0 r hr.2]
   simp only[Option.bind_some,Bool.false_eq_true,if_false]
   rw[wrap_i64 (by omega) (by omega)]
def ansD(o:Nat)(t:Str)(k:Int)(x:T_token_cutter):Int×Int×T_token_cutter×Unit:=match parsN o t 0 with
 |some n=>if n≤9007199254740991 then((n:Int),k,x,())else(0,0,x,())
 |none=>(0,0,x,())
theorem ans_eq(o:Nat)(t:Str)(k:Int)(x:T_token_cutter):ansK o t k x=ansD o t k x:=by
 unfold ansK ansD okN
 cases parsN o t 0 with
 |none=>rfl
 |some n=>by_cases hm:n≤9007199254740991<;>simp only[hm,if_true,if_false]
theorem number_rest(ds:Str)(kk:Int)(x:T_token_cutter)(hdl:ds.length≤1000000000)(hz:ds=[]→kk=0):(Option.bind (
    if(decide (((ds.length:Nat):Int)>2))=true then
     Option.bind (cutL ds 0 2) fun s_7=>
     Option.bind (
       if(s_7==([48,120]:Str))=true then
        some true
       else
        Option.bind (cutL ds 0 2) fun s_8=>
        some (s_8==([48,88]:Str))) fun b_9=>
     some b_9
    else
     some false) fun b_10=>
  if b_10=true then
   Option.bind (cutL ds 2 ((ds.length:Nat):Int)) fun s_11=>
   Option.bind (strconv_ParseUint s_11 16 53) fun r_12=>
   if(!(r_12.2.1).isNil)=true then
    some (0,0,x,())
   else
    Option.bind (strings_Contains s_11 ([95]:Str)) fun r_13=>
    if r_13.1=true then
     some (0,0,x,())
    else
     some ((IntKind.wrap .i64 r_12.1),kk,x,())
  else
   Option.bind (
     if(decide (((ds.length:Nat):Int)>1))=true then
      Option.bind (getB ds 0) fun c_15=>
      some (c_15==48)
     else
      some false) fun b_16=>
   if b_16=true then
    some (0,0,x,())
   else
    Option.bind (strconv_ParseUint ds 10 53) fun r_17=>
    if(!(r_17.2.1).isNil)=true then
     some (0,0,x,())
    else
     Option.bind (strings_Contains ds ([95]:Str)) fun r_18=>
     if r_18.1=true then
      some (0,0,x,())
     else
      some ((IntKind.wrap .i64 r_17.1),kk,x,()))=some (match numD ds with
     |some n=>if n≤9007199254740991 then((n:Int),kk,x,())else(0,0,x,())
     |none=>(0,0,x,())):=by
 have h10:(Option.bind (strconv_ParseUint ds 10 53) fun r_17=>
    if(!(r_17.2.1).isNil)=true then
     some ((0:Int),(0:Int),x,())
    else
     Option.bind (strings_Contains ds ([95]:Str)) fun r_18=>
     if r_18.1=true then
      some (0,0,x,())
     else
      some ((IntKind.wrap .i64 r_17.1),kk,x,()))=some (ansD 10 ds kk x):=by
   by_cases h0:ds=[]
   · rw[hz h0];subst h0;rfl
   · rw[←ans_eq];exact number_j5 10 (.inl rfl) ds h0 hdl kk x
 have hno:(Option.bind (
   if(decide (((ds.length:Nat):Int)>1))=true then
    Option.bind (getB ds 0) fun c_15=>
    some (c_15==48)
   else
    some false) fun b_16=>
 if b_16=true then
  some (0,0,x,())
 else
  Option.bind (strconv_ParseUint ds 10 53) fun r_17=>
  if(!(r_17.2.1).isNil)=true then
   some (0,0,x,())
  else
   Option.bind (strings_Contains ds ([95]:Str)) fun r_18=>
   if r_18.1=true then
    some (0,0,x,())
   else
    some ((IntKind.wrap .i64 r_17.1),kk,x,()))=some (match(if 1<ds.length∧ds.head?=some 48 then none else parsN 10 ds 0)with
     |some n=>if n≤9007199254740991 then((n:Int),kk,x,())else(0,0,x,())
     |none=>(0,0,x,())):=by
   by_cases h1:1<ds.length
   · have d1:(((ds.length:Nat):Int)>1):=by omega
     cases hdd:ds with
     |nil=>rw[hdd]at h1;simp at h1
     |cons a r=>
       rw[hdd]at d1 h1 h10
       simp only[d1,decide_true,if_true,getB_zero,Option.bind_some,h1,true_and,List.head?_cons,Option.some.injEq]
       have eb:((((a.toNat:Nat):Int))==48)=decide (a=48):=by
         have h48:(a=48)↔a.toNat=48:=by
          constructor
          ·intro e;subst e;rfl
          ·intro e;apply UInt8.toNat_inj.mp;rw[e];rfl
         rw[beq_dec,decide_eq_decide,h48];omega
       rw[eb]
       by_cases ha:a=48
       · simp only[ha,decide_true,if_true]
       · simp only[ha,decide_false,Bool.false_eq_true,if_false];exact h10
   · have d1: ¬(((ds.length:Nat):Int)>1):=by omega
     simp only[d1,h1,decide_false,Bool.false_eq_true,if_false,false_and,Option.bind_some];exact h10
 unfold numD
 by_cases h2:2<ds.length
 · have d2:(((ds.length:Nat):Int)>2):=by omega
   have hc2:cutL ds 0 2=some (ds.take 2):=by
     have:=cutL_nat ds 0 2 (by omega) (by omega)
     simpa using this
   have hcd:cutL ds 2 ((ds.length:Nat):Int)=some (ds.drop 2):=cutL_to_end ds 2 (by omega)
   have h16:=number_j5 16 (.inr rfl) (ds.drop 2) (by
     intro e
     have:=congrArg List.length e
     simp only[List.length_drop,List.length_nil]at this;omega) (by simp only[List.length_drop];omega) kk x
   rw[ans_eq]at h16
   simp only[d2,decide_true,if_true,hc2,Option.bind_some]
   by_cases hx:ds.take 2=[48,120]
   · have bx:(ds.take 2==([48,120]:Str))=true:=by simpa using hx
     simp only[bx,if_true,hcd,Option.bind_some,h2,hx,true_and,true_or]
     exact h16
   · have bx:(ds.take 2==([48,120]:Str))=false:=by simpa using hx
     by_cases hX:ds.take 2=[48,88]
     · have bX:(ds.take 2==([48,88]:Str))=true:=by simpa using hX
       simp only[bx,bX,Bool.false_eq_true,if_false,if_true,hcd,Option.bind_some,h2,hX,true_and,or_true]
       exact h16
     · have bX:(ds.take 2==([48,88]:Str))=false:=by simpa using hX
       simp only[bx,bX,Bool.false_eq_true,if_false,h2,hx,hX,or_self,and_false,Option.bind_some]
       exact hno
 · have d2: ¬(((ds.length:Nat):Int)>2):=by omega
   simp only[d2,h2,decide_false,Bool.false_eq_true,if_false,false_and,Option.bind_some]
   exact hno
theorem token_number_eq(c:T_token_cutter)(hs:c.rest.length≤1000000000):token_cutter_number c=some (match numS c.rest with|some (n,k)=>((n:Int),(k:Int),c,())|none=>(0,0,c,())):=by
 obtain⟨src,s,fr⟩:=c
 simp only at hs⊢
 have hle:=rowK_le s
 unfold token_cutter_number
 simp only[re33_eq']
 rw[token_row_eq s hs,Option.bind_some]
 have hlen:(s.take (rowK s)).length=rowK s:=by rw[List.length_take];omega
 have hcut:cutL s 0 ((rowK s:Nat):Int)=some (s.take (rowK s)):=by
   have:=cutL_nat s 0 (rowK s) (by omega) hle
   simpa using this
 simp only[hcut,Option.bind_some]
 generalize hds:s.take (rowK s)=ds at hlen
 have hdl:ds.length≤1000000000:=by omega
 have rest:=number_rest ds ((rowK s:Nat):Int) ⟨src,s,fr⟩ hdl (fun h=>by rw[h]at hlen;simp at hlen;omega)
 unfold numS
 rw[hds]
 by_cases hlt:rowK s<s.length
 · have d:(((rowK s:Nat):Int)< ((s.length:Nat):Int)):=by omega
   have hx:s[rowK s]? =some s[rowK s]:=List.getElem?_eq_getElem hlt
   have hg:getB s ((rowK s:Nat):Int)=some ((s[rowK s].toNat:Nat):Int):=getB_at s _ _ hx
   simp only[d,decide_true,if_true,hg,Option.bind_some]
   rw[hx]
   have eb:((((s[rowK s].toNat:Nat):Int))==46)=decide (s[rowK s]=46):=by
     have h46:(s[rowK s]=46)↔s[rowK s].toNat=46:=by
       constructor
       · intro e;rw[e];rfl
       · intro e;apply UInt8.toNat_inj.mp;rw[e];rfl
     rw[beq_dec,decide_eq_decide,h46];omega
   rw[eb]
   by_cases h46:s[rowK s]=46
   · simp only[h46,decide_true,if_true]
   · have hne: ¬(some s[rowK s]=some (46:UInt8)):=by simpa using h46
     simp only[h46,decide_false,hne,Bool.false_eq_true,if_false]
     rw[rest]
     cases numD ds with
     |none=>rfl
     |some n=>by_cases hm:n≤9007199254740991<;>simp only[hm,if_true,if_false]
 · have d: ¬(((rowK s:Nat):Int)< ((s.length:Nat):Int)):=by omega
   have hx:s[rowK s]? =none:=List.getElem?_eq_none (by omega)
   simp only[d,decide_false,Bool.false_eq_true,if_false,Option.bind_some]
   rw[hx,rest]
   simp only[reduceCtorEq,if_false]
   cases numD ds with
   |none=>rfl
   |some n=>by_cases hm:n≤9007199254740991<;>simp only[hm,if_true,if_false]
theorem byte_beq(c:UInt8)(n:Nat)(h:n<256):((((c.toNat:Nat):Int))==((n:Nat):Int))=decide (c=UInt8.ofNat n):=by
 have e:(c=UInt8.ofNat n)↔c.toNat=n:=u8_eq_iff c n h
 rw[beq_dec,decide_eq_decide,e];omega
theorem among_list(ws:List Str)(list s:Str)(hl:list=joined ws)(hw: ∀w∈ws,(32:UInt8)∉w)(hn:([]:Str)∉ws):amongP list s=ws.contains s:=by
 subst hl
 unfold amongP
 cases hc:s.contains 32 with
 |true=>
  have:ws.contains s=false:=by
   rw[←Bool.not_eq_true]
   intro h
   have hm:=hw s (by simpa using h)
   exact hm (by simpa using hc)
  rw[this];simp
 |false=>
  rw[joined_contains s (by simpa using hc) ws hw]
  cases s with
  |nil=>
   have:ws.contains ([]:Str)=false:=by rw[←Bool.not_eq_true];intro h;exact hn (by simpa using h)
   rw[this];rfl
  |cons a r=>rfl
theorem isWord_eq(s:Str):wordP s=isWordS s:=among_list wordsL _ s (by decide+kernel) (by decide+kernel) (by decide+kernel)
theorem signs_trip(x:Str)(h:x.length≤1000000000):token_among ([32,61,61,61,32,33,61,61,32]:Str) x=some (tripL.contains x,()):=by
 rw[token_among_eq _ _ (by decide) h,among_list tripL _ x (by decide+kernel) (by decide+kernel) (by decide+kernel)]
theorem signs_doub(x:Str)(h:x.length≤1000000000):token_among ([32,60,61,32,62,61,32,61,61,32,33,61,32,43,43,32,45,45,32,38,38,32,124,124,32,43,61,32,45,61,32,42,61,32,47,61,32,37,61,32]:Str) x=some (doubL.contains x,()):=by
 rw[token_among_eq _ _ (by decide) h,among_list doubL _ x (by decide+kernel) (by decide+kernel) (by decide+kernel)]
def OneIs(r:Option (T_api_Token×Int×T_token_cutter×Unit))(c:T_token_cutter)(o:Option (Tok×Nat)):Prop:=match o with
 |some (t,n)=>r=some (t,(n:Int),c,())
 |none=>∃t,r=some (t,0,c,())
theorem token_one_eq(c:T_token_cutter)(h0:c.rest≠[])(hs:c.rest.length≤100000000):OneIs (token_cutter_one c) c (oneS c.rest):=by
 obtain⟨src,s,fr⟩:=c
 simp only at h0 hs⊢
 cases s with
 |nil=>exact absurd rfl h0
 |cons b r=>
  have hrow:=token_row_eq (b::r) (by omega)
  have hle:=rowK_le (b::r)
  have hcut: ∀k:Nat,k≤(b::r).length→cutL (b::r) 0 (k:Int)=some ((b::r).take k):=by
   intro k hk
   have:=cutL_nat (b::r) 0 k (by omega) hk
   simpa using this
  unfold token_cutter_one oneS
  simp only[getB_zero,Option.bind_some,token_letter_eq,token_digit_eq,re33_eq']
  by_cases hl:isLet b=true
  ·simp only[hl,if_true,hrow,Option.bind_some]
   by_cases h32:32<rowK (b::r)
   ·have d:(((rowK (b::r):Nat):Int)>32):=by omega
    simp only[d,h32,decide_true,if_true]
    exact⟨_,rfl⟩
   ·have d: ¬(((rowK (b::r):Nat):Int)>32):=by omega
    simp only[d,h32,decide_false,Bool.false_eq_true,if_false,hcut _ hle,Option.bind_some]
    rw[token_IsWord_eq _ (by simp only[List.length_take];omega),Option.bind_some,isWord_eq]
    cases isWordS ((b::r).take (rowK (b::r)))with
    |true=>simp only[if_true];rfl
    |false=>simp only[Bool.false_eq_true,if_false];rfl
  ·have hl':isLet b=false:=by simpa using hl
   simp only[hl',Bool.false_eq_true,if_false]
   by_cases hd:isDig b=true
   ·have hn:=token_number_eq ⟨src,b::r,fr⟩ (by simp only;omega)
    simp only at hn
    simp only[hd,if_true,hn,Option.bind_some]
    cases numS (b::r)with
    |none=>exact⟨_,rfl⟩
    |some p=>rfl
   ·have hd':isDig b=false:=by simpa using hd
    simp only[hd',Bool.false_eq_true,if_false]
    have b39:((((b.toNat:Nat):Int))==39)=decide (b=39):=byte_beq b 39 (by omega)
    have b34:((((b.toNat:Nat):Int))==34)=decide (b=34):=byte_beq b 34 (by omega)
    rw[b39,b34]
    by_cases hq:b=39∨b=34
    ·have dq:(decide (b=39)||decide (b=34))=true:=by simpa using hq
     simp only[dq,if_true,hq,units_Read_eq (b::r) hs,Option.bind_some]
     generalize hx:readS (b::r)=q
     obtain⟨u,n,e⟩:=q
     have hb:=readS_len hx
     simp only
     by_cases hn:n=0
     ·simp only[hn,if_true];exact⟨_,rfl⟩
     ·simp only[hn,if_false]
      have:((n.toNat:Nat):Int)=n:=by omega
      unfold OneIs
      simp only[this]
    ·have dq:(decide (b=39)||decide (b=34))=false:=by simpa using hq
     simp only[dq,Bool.false_eq_true,if_false,hq]
     have hlast: ¬(2< (b::r).length∧tripL.contains ((b::r).take 3)=true)→¬(1< (b::r).length∧doubL.contains ((b::r).take 2)=true)→
       OneIs (token_cutter_one_j2 0 (b::r) ((b.toNat:Nat):Int) ⟨src,b::r,fr⟩ ⟨0,[],0,0,false⟩) ⟨src,b::r,fr⟩ (if signS (b::r)=0 then none else some (({Kind:=5,Text:=(b::r).take (signS (b::r)),Num:=0,At:=0,Fresh:=false}:Tok),signS (b::r))):=by
      intro n3 n2
      unfold token_cutter_one_j2 strings_IndexByte strings_IndexByte_x
      simp only[mapO,Option.map_some,Option.bind_some,re33_eq',re28_eq']
      have e1:(((b.toNat:Nat):Int)).toNat.toUInt8=b:=by simp
      have e2:=Lib.contains_iff_indexByte ([123,125,40,41,91,93,46,59,44,60,62,43,45,42,47,37,33,63,58,61]:Str) b
      have e3:signS (b::r)=if singL.contains b=true then 1 else 0:=by
       unfold signS;rw[if_neg n3,if_neg n2];rfl
      rw[e1,e3]
      have e4:decide (Lib.indexByte ([123,125,40,41,91,93,46,59,44,60,62,43,45,42,47,37,33,63,58,61]:Str) b≥0)=singL.contains b:=e2.symm
      rw[e4]
      cases singL.contains b with
      |true=>
       simp only[if_true]
       have:=hcut 1 (by simp)
       rw[show cutL (b::r) 0 1=_ from this]
       rfl
      |false=>
       simp only[Bool.false_eq_true,if_false]
       exact⟨_,rfl⟩
     have hmid: ¬(2< (b::r).length∧tripL.contains ((b::r).take 3)=true)→
       OneIs (token_cutter_one_j1 0 (b::r) ((b.toNat:Nat):Int) ⟨src,b::r,fr⟩ ⟨0,[],0,0,false⟩) ⟨src,b::r,fr⟩ (if signS (b::r)=0 then none else some (({Kind:=5,Text:=(b::r).take (signS (b::r)),Num:=0,At:=0,Fresh:=false}:Tok),signS (b::r))):=by
      intro n3
      unfold token_cutter_one_j1
      simp only[re33_eq',re28_eq']
      by_cases h1:1< (b::r).length
      ·have d1:((((b::r).length:Nat):Int)>1):=by omega
       have hc2':cutL (b::r) 0 2=some ((b::r).take 2):=hcut 2 (by omega)
       simp only[d1,decide_true,if_true,hc2',Option.bind_some,signs_doub _ (show((b::r).take 2).length≤1000000000 by simp only[List.length_take];omega)]
       cases hb:doubL.contains ((b::r).take 2)with
       |true=>
        have e3:signS (b::r)=2:=by
         unfold signS;rw[if_neg n3,if_pos ⟨h1,hb⟩]
        rw[e3]
        simp only[if_true]
        rfl
       |false=>exact hlast n3 (by rw[hb];simp)
      ·have d1: ¬((((b::r).length:Nat):Int)>1):=by omega
       simp only[d1,decide_false,Bool.false_eq_true,if_false]
       exact hlast n3 (by simp only[h1,false_and,not_false_eq_true])
     by_cases h2:2< (b::r).length
     ·have d2:((((b::r).length:Nat):Int)>2):=by omega
      have hc3':cutL (b::r) 0 3=some ((b::r).take 3):=hcut 3 (by omega)
      simp only[d2,decide_true,if_true,hc3',Option.bind_some,signs_trip _ (show((b::r).take 3).length≤1000000000 by simp only[List.length_take];omega)]
      cases hb:tripL.contains ((b::r).take 3)with
      |true=>
       have e3:signS (b::r)=3:=by
        unfold signS;rw[if_pos ⟨h2,hb⟩]
       rw[e3]
       simp only[if_true]
       rfl
      |false=>exact hmid (by rw[hb];simp)
     ·have d2: ¬((((b::r).length:Nat):Int)>2):=by omega
      simp only[d2,decide_false,Bool.false_eq_true,if_false]
      exact hmid (by simp only[h2,false_and,not_false_eq_true])
theorem laidAt_cons(len:Nat)(p:Tok×Nat)(l:List (Tok×Nat)):laidAt len (p::l)=p.1.at_ ((len -p.2:Nat):Int)::laidAt len l:=rfl
theorem wrap_sub{a b:Nat}(h:b≤a)(ha:a≤1000000000000):IntKind.wrap .i64 ((a:Int) - (b:Int))=((a -b:Nat):Int):=by rw[wrap_i64 (by omega) (by omega)];omega
theorem clip_eq(l:List T_api_Token):slices_Clip l=some (l,()):=by
 unfold slices_Clip
 have:clip3 l ((l.length:Nat):Int) ((l.length:Nat):Int)=some ():=by
  unfold clip3
  simp
 rw[this];rfl
theorem cut_loop(src:Str)(hs:src.length≤100000000): ∀(m:Nat) (s:Str) (f0:Bool) (out:List Tok),s.length<m→s.length≤src.length→out.length+s.length≤src.length→
  match cutT m s false with
   | .inl l=>loopN token_Cut_l1 m (src,⟨src,s,f0⟩,out,())=some (.inl (0,0,out++laidAt src.length l,()))
   | .inr k=>k≤src.length∧loopN token_Cut_l1 m (src,⟨src,s,f0⟩,out,())=some (.inr (((src.length -k:Nat):Int),60,()))
 |0,s,f0,out,h,_,_=>by omega
 |m+1,s,f0,out,hm,hsl,hout=>by
  have hb:=token_blanks_eq ⟨src,s,f0⟩ (by simp only;omega)
  simp only at hb
  have hl:=blanksG_len (s.length+1) s false
  rw[cutT]
  generalize hq:blanksG (s.length+1) s false=q at hb hl
  obtain⟨r,f,ok⟩:=q
  simp only at hb hl⊢
  have w:IntKind.wrap .i64 (((src.length:Nat):Int) - ((r.length:Nat):Int))=((src.length -r.length:Nat):Int):=wrap_sub (by omega) (by omega)
  have hstep:token_Cut_l1 (src,⟨src,s,f0⟩,out,())=(if ok=true then
    if(r==([]:Str))=true then
     some (.inr (.inl (0,0,out++[({Kind:=0,Text:=([]:Str),Num:=0,At:=((src.length -r.length:Nat):Int),Fresh:=f}:T_api_Token)],())))
    else Option.bind (token_cutter_one ⟨src,r,f⟩) fun r_12=>
     if(r_12.2.1==0)=true then
      some (Sum.inr (.inr (IntKind.wrap .i64 (((src.length:Nat):Int) - ((r_12.2.2.1.rest.length:Nat):Int)),60,())))
     else
      Option.bind (cutL r_12.2.2.1.rest r_12.2.1 ((r_12.2.2.1.rest.length:Nat):Int)) fun s_17=>
      some (Sum.inl (src,(⟨r_12.2.2.1.src,s_17,r_12.2.2.1.fresh⟩:T_token_cutter),out++[(⟨r_12.1.Kind,r_12.1.Text,r_12.1.Num,((src.length -r.length:Nat):Int),r_12.2.2.1.fresh⟩:T_api_Token)],()))
   else some (.inr (.inr (((src.length -r.length:Nat):Int),60,())))):=by
   simp only[token_Cut_l1,re33_eq',hb,Option.bind_some,w,clip_eq]
   rw[room_ok (by simp only[List.length_cons,List.length_nil];omega)]
   simp only[Option.bind_some]
   cases ok with
   |false=>rfl
   |true=>
    simp only[if_true]
    cases(r==([]:Str))with
    |true=>rfl
    |false=>
     simp only[Bool.false_eq_true,if_false]
     congr 1
     funext r_12
     rw[room_ok (by simp only[List.length_cons,List.length_nil];omega)]
     rfl
  cases ok with
  |false=>
   simp only[Bool.false_eq_true,if_false]at hstep
   simp only[if_true]
   exact⟨by omega,loopN_out hstep⟩
  |true=>
   simp only[if_true]at hstep
   simp only[Bool.true_eq_false,if_false]
   by_cases hr:r=[]
   ·subst hr
    simp only[beq_self_eq_true,if_true]at hstep
    simp only[if_true]
    exact loopN_out hstep
   ·have br:(r==([]:Str))=false:=by simpa using hr
    simp only[br,Bool.false_eq_true,if_false]at hstep
    simp only[hr,if_false]
    have h1:=token_one_eq ⟨src,r,f⟩ hr (by simp only;omega)
    simp only at h1
    cases ho:oneS r with
    |none=>
     rw[ho]at h1
     obtain⟨t,e1⟩:=h1
     rw[e1]at hstep
     simp only[Option.bind_some,beq_self_eq_true,if_true,w]at hstep
     exact⟨by omega,loopN_out hstep⟩
    |some p=>
     obtain⟨t,n⟩:=p
     rw[ho]at h1
     have e1:token_cutter_one ⟨src,r,f⟩=some (t,(n:Int),⟨src,r,f⟩,()):=h1
     rw[e1]at hstep
     have hn:=oneS_len ho
     have c0:((n:Int)==0)=false:=by rw[beq_eq_false_iff_ne];omega
     have hcut:cutL r (n:Int) ((r.length:Nat):Int)=some (r.drop n):=cutL_to_end r n hn.2.1
     simp only[Option.bind_some,c0,Bool.false_eq_true,if_false,hcut]at hstep
     have htok:(⟨t.Kind,t.Text,t.Num,((src.length -r.length:Nat):Int),f⟩:Tok)=(t.fresh f).at_ ((src.length -r.length:Nat):Int):=rfl
     rw[htok]at hstep
     have hdl:(r.drop n).length=r.length -n:=List.length_drop
     have g:=cut_loop src hs m (r.drop n) f (out++[(t.fresh f).at_ ((src.length -r.length:Nat):Int)]) (by omega) (by omega) (by simp only[List.length_append,List.length_cons,List.length_nil];omega)
     dsimp only
     cases hc:cutT m (r.drop n) false with
     |inl l=>
       rw[hc]at g
       simp only at g⊢
       refine(loopN_go hstep).trans (g.trans ?_)
       rw[laidAt_cons]
       simp
     |inr k=>
       rw[hc]at g
       exact⟨g.1,(loopN_go hstep).trans g.2⟩
def cutO(s:Str):(Int×Int×List Tok×Unit)⊕(Int×Int×Unit):=
 if 4096<s.length then .inr (0,2,())
 else match cutT (s.length+1) s false with
  | .inl l=> .inl (0,0,laidAt s.length l,())
  | .inr k=> .inr (((s.length -k:Nat):Int),60,())
theorem token_Cut_eq(src:Str)(hs:src.length≤100000000):token_Cut src=some (cutO src):=by
 unfold token_Cut cutO
 by_cases h:4096<src.length
 ·have d:(((src.length:Nat):Int)>4096):=by omega
  simp only[d,h,decide_true,if_true]
 ·have d: ¬(((src.length:Nat):Int)>4096):=by omega
  simp only[d,h,decide_false,Bool.false_eq_true,if_false]
  have g:=cut_loop src hs (src.length+1) src false [] (by omega) (by omega) (by simp)
  cases hc:cutT (src.length+1) src false with
  |inl l=>
   rw[hc]at g
   exact(loop_of g (by omega)).trans rfl
  |inr k=>
   rw[hc]at g
   exact(loop_of g.2 (by omega)).trans rfl
end Go.D06f.U
namespace Go.D06f
open Go Go.Gw Go.Dn Go.Proofs
set_option maxRecDepth 100000
theorem live_true:credenzalaw06_live=some (true,()):=by
 unfold credenzalaw06_live credenzalaw06_live_j1
 rw[U.token_Cut_eq [97,32,47,47,32,120,10,43,61,32,48,120,49,70] (by decide),U.token_Cut_eq [97,32,38,32,98] (by decide)]
 kernel_rfl
theorem cutT_pos: ∀(m:Nat) (s:Str) (f:Bool),match U.cutT m s f with| .inl l=>∀p∈l,p.2≤s.length| .inr k=>k≤s.length
 |0,s,f=>Nat.zero_le _
 |m+1,s,f=>by
  have hl:=blanksG_len (s.length+1) s f
  unfold U.cutT
  generalize blanksG (s.length+1) s f=q at hl
  obtain⟨r,f',ok⟩:=q
  simp only at hl⊢
  split
  ·rename_i l h
   split at h
   ·cases h
   ·split at h
    ·cases h
     intro p hp
     rcases List.mem_cons.1 hp with rfl|hp
     ·exact Nat.zero_le _
     ·cases hp
    ·split at h
     ·cases h
     ·rename_i t n ho
      have ih:=cutT_pos m (r.drop n) false
      split at h
      ·rename_i l2 h2
       rw[h2]at ih
       cases h
       intro p hp
       rcases List.mem_cons.1 hp with rfl|hp
       ·exact hl
       ·have:=ih p hp
        rw[List.length_drop]at this;omega
      ·cases h
  ·rename_i k h
   split at h
   ·cases h;exact hl
   ·split at h
    ·cases h
    ·split at h
     ·cases h;exact hl
     ·rename_i t n ho
      have ih:=cutT_pos m (r.drop n) false
      split at h
      ·cases h
      ·rename_i k2 h2
       rw[h2]at ih
       cases h
       have ih:k≤(r.drop n).length:=ih
       rw[List.length_drop]at ih;omega
theorem cutT_len: ∀(m:Nat) (s:Str) (f:Bool),match U.cutT m s f with| .inl l=>l.length≤m| .inr _=>True
 |0,s,f=>trivial
 |m+1,s,f=>by
  unfold U.cutT
  generalize blanksG (s.length+1) s f=q
  obtain⟨r,f',ok⟩:=q
  simp only
  split
  ·rename_i l h
   split at h
   ·cases h
   ·split at h
    ·cases h;simp
    ·split at h
     ·cases h
     ·rename_i t n ho
      have ih:=cutT_len m (r.drop n) false
      split at h
      ·rename_i l2 h2
       rw[h2]at ih
       cases h
       have ih:l2.length≤m:=ih
       simp only[List.length_cons];omega
      ·cases h
  ·trivial
theorem cut_nl(s:Str):U.cutT ((10::s).length+1) (10::s) false=match U.cutT (s.length+1) s false with
  | .inl (p::l)=> .inl ((p.1.fresh true,p.2)::l)
  | .inl []=> .inl []
  | .inr k=> .inr k:=by
 have hb:blanksG ((10::s).length+1) (10::s) false=blanksG (s.length+1) s true:=by
  show blanksG ((s.length+1)+1) (10::s) false=_
  conv=>lhs;unfold blanksG
  rw[if_pos (by decide)]
 have hl:=blanksG_len (s.length+1) s false
 conv=>lhs;unfold U.cutT
 rw[hb,U.blanksG_true (s.length+1) s false]
 conv=>rhs;unfold U.cutT
 generalize blanksG (s.length+1) s false=q at hl
 obtain⟨r,f',ok⟩:=q
 simp only at hl⊢
 cases ok with
 |false=>simp
 |true=>
  simp only[Bool.true_eq_false,if_false]
  by_cases hr:r=[]
  ·rw[if_pos hr,if_pos hr];rfl
  ·rw[if_neg hr,if_neg hr]
   cases ho:U.oneS r with
   |none=>rfl
   |some p=>
    obtain⟨t,n⟩:=p
    have hn:=(U.oneS_len ho).1
    have hpos:0<r.length:=List.length_pos_iff.2 hr
    have e:U.cutT ((10::s).length) (r.drop n) false=U.cutT s.length (r.drop n) false:=U.cutT_same (by rw[List.length_drop,List.length_cons];omega) (by rw[List.length_drop];omega) rfl
    simp only
    rw[e]
    cases U.cutT s.length (r.drop n) false with
    |inl l=>rfl
    |inr k=>rfl
def modT(i:Nat)(t:U.Tok):U.Tok:=⟨t.Kind,t.Text,t.Num,t.At+1,(t.Fresh||(((i:Nat):Int)==0))⟩
def goF:Nat→List U.Tok→List U.Tok
 |_,[]=>[]
 |i,t::r=>modT i t::goF (i+1) r
theorem same_loop(l:List U.Tok)(hl:l.length≤1000000): ∀(r:List U.Tok) (i:Nat),l.drop i=r→i≤l.length→loopN credenzaref06_Same_l1 (r.length+1) (l,l,((l.length:Nat):Int),(i:Int),())=some (true,())
 | [],i,hr,hi=>by
  refine loopN_out ?_
  have c: ¬((i:Int)< ((l.length:Nat):Int)):=by
   have:=congrArg List.length hr;simp at this;omega
  simp only[credenzaref06_Same_l1,c,decide_false,Bool.false_eq_true,if_false]
 |t::r,i,hr,hi=>by
  have hlt:i<l.length:=by
   rcases Nat.lt_or_ge i l.length with h|h
   ·exact h
   ·rw[List.drop_eq_nil_of_le h]at hr;cases hr
  have hc:=List.drop_eq_getElem_cons hlt
  rw[hr]at hc
  obtain⟨h1,h2⟩:=List.cons.inj hc
  have hg:getI l (i:Int)=some t:=by rw[getI_nat,List.getElem?_eq_getElem hlt,h1]
  have c:((i:Int)< ((l.length:Nat):Int)):=by omega
  have w:IntKind.wrap .i64 ((i:Int)+1)=((i+1:Nat):Int):=by rw[wrap_i64 (by omega) (by omega)];omega
  have hst:credenzaref06_Same_l1 (l,l,((l.length:Nat):Int),(i:Int),())=some (.inl (l,l,((l.length:Nat):Int),((i+1:Nat):Int),())):=by
   simp only[credenzaref06_Same_l1,c,decide_true,if_true,hg,Option.bind_some,beq_self_eq_true,Bool.and_self,Bool.not_true,Bool.false_eq_true,if_false,w]
  rw[List.length_cons,loopN_go hst]
  exact same_loop l hl r (i+1) h2.symm (by omega)
theorem same_eq(l:List U.Tok)(hl:l.length≤1000000):credenzaref06_Same l l=some (true,()):=by
 unfold credenzaref06_Same
 simp only[bne_self_eq_false,Bool.false_eq_true,if_false]
 exact loop_of (same_loop l hl l 0 rfl (Nat.zero_le _)) (by omega)
theorem mod_loop(b:List U.Tok)(n:Nat): ∀(r:List U.Tok) (l:List U.Tok) (i:Nat),l.drop i=r→i≤l.length→l.length=n→n≤1000000→(∀t∈r,0≤t.At∧t.At≤1000000)→
  loopN credenzalaw06_TokenFresh_l3 (r.length+1) (true,b,(n:Int),(i:Int),l,())=Option.bind (credenzaref06_Same (l.take i++goF i r) b) fun q=>some (q.1,())
 | [],l,i,hr,hi,hn,hn2,_=>by
  have hle:l.length≤i:=by have:=congrArg List.length hr;simp at this;omega
  have c: ¬((i:Int)< (n:Int)):=by omega
  have hst:credenzalaw06_TokenFresh_l3 (true,b,(n:Int),(i:Int),l,())=Option.bind (credenzaref06_Same (l.take i++goF i []) b) fun q=>some (.inr (q.1,())):=by
   simp only[credenzalaw06_TokenFresh_l3,c,decide_false,Bool.false_eq_true,if_false,if_true,goF,List.append_nil]
   rw[List.take_of_length_le hle]
  show(credenzalaw06_TokenFresh_l3 _).bind _=_
  rw[hst]
  cases credenzaref06_Same (l.take i++goF i []) b<;>rfl
 |t::r,l,i,hr,hi,hn,hn2,hat=>by
  have hlt:i<l.length:=by
   rcases Nat.lt_or_ge i l.length with h|h
   ·exact h
   ·rw[List.drop_eq_nil_of_le h]at hr;cases hr
  have hc:=List.drop_eq_getElem_cons hlt
  rw[hr]at hc
  obtain⟨h1,h2⟩:=List.cons.inj hc
  have hg:getI l (i:Int)=some t:=by rw[getI_nat,List.getElem?_eq_getElem hlt,h1]
  have c:((i:Int)< (n:Int)):=by omega
  have w:IntKind.wrap .i64 ((i:Int)+1)=((i+1:Nat):Int):=by rw[wrap_i64 (by omega) (by omega)];omega
  obtain⟨a1,a2⟩:=hat t List.mem_cons_self
  have wa:IntKind.wrap .i64 (t.At+1)=t.At+1:=wrap_i64 (by omega) (by omega)
  have hg2: ∀u:U.Tok,getI (l.set i u) (i:Int)=some u:=fun u=>by rw[getI_nat,List.getElem?_set_self hlt]
  have hst:credenzalaw06_TokenFresh_l3 (true,b,(n:Int),(i:Int),l,())=some (.inl (true,b,(n:Int),((i+1:Nat):Int),l.set i (modT i t),())):=by
   simp only[credenzalaw06_TokenFresh_l3,c,decide_true,if_true,hg,Option.bind_some,wa,Int.toNat_natCast,hg2,w,List.set_set]
   rfl
  rw[List.length_cons,loopN_go hst]
  have hd:(l.set i (modT i t)).drop (i+1)=r:=by rw[List.drop_set_of_lt (by omega)];exact h2.symm
  have hk:(l.set i (modT i t)).take (i+1)=l.take i++[modT i t]:=by
   rw[List.take_add_one,List.getElem?_set_self hlt,List.take_set_of_le (Nat.le_refl _)];rfl
  have:=mod_loop b n r (l.set i (modT i t)) (i+1) hd (by rw[List.length_set];omega) (by rw[List.length_set];exact hn) hn2 (fun u hu=>hat u (List.mem_cons_of_mem _ hu))
  rw[this,hk,List.append_assoc];rfl
theorem go_laid(len:Nat): ∀(l:List (U.Tok×Nat)) (i:Nat),i≠0→(∀p∈l,p.2≤len)→goF i (U.laidAt len l)=U.laidAt (len+1) l
 | [],_,_,_=>rfl
 |p::l,i,hi,h=>by
  have hp:=h p List.mem_cons_self
  have ih:=go_laid len l (i+1) (by omega) fun q hq=>h q (List.mem_cons_of_mem _ hq)
  show modT i (p.1.at_ ((len -p.2:Nat):Int))::goF (i+1) (U.laidAt len l)=p.1.at_ ((len+1 -p.2:Nat):Int)::U.laidAt (len+1) l
  rw[ih]
  congr 1
  have c:(((i:Nat):Int)==0)=false:=beq_eq_false_iff_ne.2 (by omega)
  unfold modT U.Tok.at_
  simp only[c,Bool.or_false]
  congr 1
  omega
theorem go_first(len:Nat)(p:U.Tok×Nat)(l:List (U.Tok×Nat))(h: ∀q∈p::l,q.2≤len):goF 0 (U.laidAt len (p::l))=U.laidAt (len+1) ((p.1.fresh true,p.2)::l):=by
 have hp:=h p List.mem_cons_self
 have ih:=go_laid len l 1 (by omega) fun q hq=>h q (List.mem_cons_of_mem _ hq)
 show modT 0 (p.1.at_ ((len -p.2:Nat):Int))::goF 1 (U.laidAt len l)=(p.1.fresh true).at_ ((len+1 -p.2:Nat):Int)::U.laidAt (len+1) l
 rw[ih]
 congr 1
 unfold modT U.Tok.at_ U.Tok.fresh
 have c:(((0:Nat):Int)==0)=true:=rfl
 simp only[c,Bool.or_true]
 congr 1
 omega
theorem laid_len(len:Nat)(l:List (U.Tok×Nat)):(U.laidAt len l).length=l.length:=by simp[U.laidAt]
theorem fresh_law(src:Str)(hs:src.length≤100000000):credenzalaw06_TokenFresh src=some (true,()):=by
 unfold credenzalaw06_TokenFresh credenzalaw06_TokenFresh_j1 credenzalaw06_TokenFresh_j2
 rw[live_true]
 simp only[Option.bind_some]
 by_cases h:src.length>4095
 ·have d:(((src.length:Nat):Int)>4095):=by omega
  simp only[d,decide_true,if_true]
 ·have d: ¬(((src.length:Nat):Int)>4095):=by omega
  simp only[d,decide_false,Bool.false_eq_true,if_false]
  have hcat:catS ([10]:Str) src=some (10::src):=by
   unfold catS
   rw[if_pos (by simp only[List.length_cons,List.length_nil];omega)];rfl
  rw[U.token_Cut_eq src hs,hcat]
  simp only[Option.bind_some]
  rw[U.token_Cut_eq (10::src) (by simp only[List.length_cons];omega)]
  have e1: ¬4096<src.length:=by omega
  have e2: ¬4096< (10::src).length:=by simp only[List.length_cons];omega
  unfold U.cutO
  rw[if_neg e1,if_neg e2,cut_nl]
  have hp:=cutT_pos (src.length+1) src false
  have hlen:=cutT_len (src.length+1) src false
  cases hc:U.cutT (src.length+1) src false with
  |inr k=>
   rw[hc]at hp
   have hp:k≤src.length:=hp
   have w:IntKind.wrap .i64 (((src.length -k:Nat):Int)+1)=(((10::src).length -k:Nat):Int):=by
    simp only[List.length_cons]
    rw[wrap_i64 (by omega) (by omega)];omega
   simp only[Option.bind_some,w,bne_self_eq_false,Bool.or_false,Bool.and_false,Bool.false_eq_true,if_false,List.length_nil]
   have:=mod_loop [] 0 [] [] 0 rfl (Nat.le_refl _) rfl (by omega) (fun _ h=>by cases h)
   refine(loop_of (n:=1) (this.trans ?_) (by decide)).trans rfl
   show Option.bind (credenzaref06_Same [] []) _=_
   rw[same_eq [] (by simp)];rfl
  |inl l=>
   rw[hc]at hp hlen
   have hlen:l.length≤src.length+1:=hlen
   cases l with
   |nil=>
    simp only[Option.bind_some]
    have:=mod_loop [] 0 [] [] 0 rfl (Nat.le_refl _) rfl (by omega) (fun _ h=>by cases h)
    refine(loop_of (n:=1) (e:=(true,())) (this.trans ?_) (by decide)).trans rfl
    show Option.bind (credenzaref06_Same [] []) _=_
    rw[same_eq [] (by simp)];rfl
   |cons p l=>
    have hg:=go_first src.length p l hp
    have hl2:(U.laidAt (10::src).length ((p.1.fresh true,p.2)::l)).length=(U.laidAt src.length (p::l)).length:=by rw[laid_len,laid_len];rfl
    have hll:(U.laidAt src.length (p::l)).length≤1000000:=by rw[laid_len];omega
    have:=mod_loop (U.laidAt (10::src).length ((p.1.fresh true,p.2)::l)) (U.laidAt src.length (p::l)).length (U.laidAt src.length (p::l)) (U.laidAt src.length (p::l)) 0 rfl (Nat.zero_le _) rfl hll (fun t ht=>by
     obtain⟨q,hq,rfl⟩:=List.mem_map.1 ht
     have:(q.1.at_ ((src.length -q.2:Nat):Int)).At=((src.length -q.2:Nat):Int):=rfl
     rw[this];omega)
    simp only[Option.bind_some,hl2,bne_self_eq_false,Bool.or_false,Bool.false_and,Bool.false_eq_true,if_false]
    refine loop_of (this.trans ?_) (by omega)
    rw[hg]
    show Option.bind (credenzaref06_Same (U.laidAt (src.length+1) _) (U.laidAt (src.length+1) _)) _=_
    rw[same_eq _ (by rw[laid_len];simp only[List.length_cons]at hlen⊢;omega)];rfl
end Go.D06f
